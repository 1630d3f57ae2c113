/- What Go functions do, told by Lean functions: the proofs. -/
import Derived.Test.YtmcfapchpedbgaaSD
import Derived.Test.YtmcfapchpedbgaaSF
import Derived.Test.YtmcfapchpedbgaaSQ
set_option linter.unusedSimpArgs false
set_option linter.unusedVariables false
set_option maxRecDepth 10000
set_option maxHeartbeats 2000000
namespace Go.Abs
open Go Go.Proofs

theorem ref09_Great_PC {b_4 : Belt} {l_5 : (List Fed)} {r : Bool} (H0 : ref09_Great b_4 l_5 = some r) : PC Try.prog 15 [(.ag (Belt.cells b_4)), (.sl (List.map Fed.cells l_5))] (· = (bool r)) := by
  unfold ref09_Great at H0
  refine PC.of_bodyL [(0, (.ag (Belt.cells b_4))), (1, (.sl (List.map Fed.cells l_5)))] Try.func15 rfl rfl (Nat.le_of_ble_eq_true rfl) rfl fun O => ?_
  repeat refine SatL.seq ?_
  refine SatL.reg [1, 2] [some 2, some 4] rfl rfl fun K1 hK1 => ?_
  refine st (fun _ hk => s_box (cs := [(int b_4.Length), (int b_4.Camera), (int b_4.Slow), (.sl (List.map Gate.cells b_4.Gates)), (.sl (List.map int1 b_4.Bins))]) (m := 5) (n' := 1) rfl rfl rfl hk) ?_
  refine st (fun _ hk => s_as (v := (bool false)) rfl hk) ?_
  refine aopsS_end (hK1 _ (SatL.norm (n := 1) (h := hl [(0, (some (.cells 5 25 [[(int b_4.Length), (int b_4.Camera), (int b_4.Slow), (.sl (List.map Gate.cells b_4.Gates)), (.sl (List.map int1 b_4.Bins))]])))]) (env' := [(1, (.sl (List.map Fed.cells l_5))), (2, (.own 0 0 0))]) (L' := [(0, (some (.cells 5 25 [[(int b_4.Length), (int b_4.Camera), (int b_4.Slow), (.sl (List.map Gate.cells b_4.Gates)), (.sl (List.map int1 b_4.Bins))]])))]) rfl hs_refl ?_))
  repeat refine SatL.seq ?_
  refine SatL.reg [1, 20] [some 6, some 7, some 8, some 9, some 10, some 11, some 12, some 13, some 14, some 15, some 16, some 17, some 18, some 19, some 20] rfl rfl fun K4 hK4 => ?_
  refine st (fun _ hk => s_faOwn (j' := 3) fld_25_3 rfl rfl (isC (hl_self _ _ _)) hk) ?_
  refine st (fun _ hk => s_load1 (c := (.sl (List.map Gate.cells b_4.Gates))) agg_22 (d_own rfl (hl_self _ _ _) rfl rfl) rfl hk) ?_
  refine aopsS_step fun _ hK => s_lenSl elem_22 rfl (fun hl7 => hK _ _ _ ?_)
  clear hK
  refine st (fun _ hk => s_bin rfl rfl (b_gtr hk)) ?_
  refine st (fun _ hk => s_mv (v := (bool (decide (12 < (List.length b_4.Gates : Int))))) rfl hk) ?_
  refine aopsS_split rfl _ rfl (fun g10 => ?_) (fun g10 => ?_)
  ·
    replace H0 := iteF H0 (by simpa using g10)
    refine sx (fun _ hk => s_faOwn (j' := 4) fld_25_4 rfl rfl (isC (hl_self _ _ _)) hk) ?_
    refine sg rfl rfl (fun _ hk => s_load1 (c := (.sl (List.map int1 b_4.Bins))) agg_23 (d_own rfl (hl_self _ _ _) rfl rfl) rfl hk) ?_
    refine aopsS_on rfl rfl fun _ hK => s_lenSl elem_23 rfl (fun hl13 => hK _ _ _ ?_)
    clear hK
    refine sg rfl rfl (fun _ hk => s_bin rfl rfl (b_gtr hk)) ?_
    refine st (fun _ hk => s_pickF (v := (bool (decide (30 < (List.length b_4.Bins : Int))))) rfl rfl hk) ?_
    refine st (fun _ hk => s_mv (v := (bool (decide (30 < (List.length b_4.Bins : Int))))) rfl hk) ?_
    refine aopsS_split rfl _ rfl (fun g17 => ?_) (fun g17 => ?_)
    ·
      replace H0 := iteF H0 (by simpa using g17)
      refine sx (fun _ hk => s_mv (v := (.sl (List.map Fed.cells l_5))) rfl hk) ?_
      refine aopsS_on rfl rfl fun _ hK => s_lenSl elem_26 rfl (fun hl19 => hK _ _ _ ?_)
      clear hK
      refine sg rfl rfl (fun _ hk => s_bin rfl rfl (b_gtr hk)) ?_
      refine st (fun _ hk => s_pickF (v := (bool (decide (60 < (List.length l_5 : Int))))) rfl rfl hk) ?_
      refine aopsS_end (hK4 _ (SatL.norm (n := 1) (h := hl [(0, (some (.cells 5 25 [[(int b_4.Length), (int b_4.Camera), (int b_4.Slow), (.sl (List.map Gate.cells b_4.Gates)), (.sl (List.map int1 b_4.Bins))]])))]) (env' := [(1, (.sl (List.map Fed.cells l_5))), (20, (bool (decide (60 < (List.length l_5 : Int)))))]) (L' := []) rfl hs_nil ?_))
      repeat refine SatL.seq ?_
      refine SatL.condX rfl (fun hc22 => ?_) (fun hc22 => ?_)
      ·
        replace H0 := iteT H0 hc22
        repeat refine SatL.seq ?_
        refine SatL.reg [4] [some 4] rfl rfl fun K23 hK23 => ?_
        refine st (fun _ hk => s_as (v := (bool true)) rfl hk) ?_
        refine aopsS_end (hK23 _ (SatL.norm (n := 1) (h := hl []) (env' := [(4, (bool true))]) (L' := []) rfl hs_refl ?_))
        obtain rfl := Option.some.inj H0
        exact SatL.ret (fnQ_snap [] (bool true) (bool true) rfl (Snap.free _ (.sc _)) rfl)
      ·
        replace H0 := iteF H0 hc22
        refine SatL.skip ?_
        repeat refine SatL.seq ?_
        refine SatL.reg [1, 5] [some 5] rfl rfl fun K25 hK25 => ?_
        refine st (fun _ hk => s_as (v := (int 0)) rfl hk) ?_
        refine aopsS_end (hK25 _ (SatL.norm (n := 1) (h := hl []) (env' := [(1, (.sl (List.map Fed.cells l_5))), (5, (int 0))]) (L' := []) rfl hs_refl ?_))
        repeat refine SatL.seq ?_
        obtain ⟨o_10, H1, H0⟩ := bindS H0
        refine SatL.mid [] (fun s_ => (Sum.inr ()) = o_10 ∧ StLe s_ [] [] 1) ?_ ?_
        ·
          repeat refine SatL.seq ?_
          refine SatL.block ?_
          repeat refine SatL.seq ?_
          refine SatL.loopK [1, 5] (fun k0 s_ => ∃ (i_12 : Int), StLe s_ [(1, (.sl (List.map Fed.cells l_5))), (5, (int i_12))] [] 1 ∧ 0 ≤ i_12 ∧ k0 = Int.toNat ((List.length l_5 : Int) - i_12) ∧ ref09_Great_L0 l_5 k0 i_12 = some o_10) (Int.toNat ((List.length l_5 : Int) - 0)) ?_ ?_
          · exact ⟨0, (StLe.of [] 1 rfl hs_nil (Nat.le_refl _)), (by omega), rfl, H1⟩
          rintro k0 s_ ⟨i_12, hs_, _, hk_, H1⟩
          refine SatL.le hs_ ?_
          clear hs_
          rcases k0 with _ | k0
          ·
            rw [ref09_Great_L0.eq_1] at H1
            repeat refine SatL.seq ?_
            refine SatL.reg [1, 5, 24] [some 21, some 22, some 23, some 24] rfl rfl fun K132 hK132 => ?_
            refine st (fun _ hk => s_mv (v := (int i_12)) rfl hk) ?_
            refine st (fun _ hk => s_mv (v := (.sl (List.map Fed.cells l_5))) rfl hk) ?_
            refine aopsS_step fun _ hK => s_lenSl elem_26 rfl (fun hl135 => hK _ _ _ ?_)
            clear hK
            refine st (fun _ hk => s_bin rfl rfl (b_lss hk)) ?_
            refine aopsS_end (hK132 _ (SatL.norm (n := 1) (h := hl []) (env' := [(1, (.sl (List.map Fed.cells l_5))), (5, (int i_12)), (24, (bool (decide (i_12 < (List.length l_5 : Int)))))]) (L' := []) rfl hs_refl ?_))
            repeat refine SatL.seq ?_
            refine SatL.condF rfl (decide_eq_false (by omega)) ?_
            refine SatL.exit ?_
            simp only [thenQ, blockQ, if_true, reduceIte, Nat.reduceEqDiff]
            obtain rfl := Option.some.inj H1
            exact SatL.nil (thenN ⟨rfl, (StLe.of [] 1 rfl hs_nil (Nat.le_refl _))⟩)
          ·
            rw [ref09_Great_L0.eq_2] at H1
            repeat refine SatL.seq ?_
            refine SatL.reg [1, 5, 24] [some 21, some 22, some 23, some 24] rfl rfl fun K137 hK137 => ?_
            refine st (fun _ hk => s_mv (v := (int i_12)) rfl hk) ?_
            refine st (fun _ hk => s_mv (v := (.sl (List.map Fed.cells l_5))) rfl hk) ?_
            refine aopsS_step fun _ hK => s_lenSl elem_26 rfl (fun hl140 => hK _ _ _ ?_)
            clear hK
            refine st (fun _ hk => s_bin rfl rfl (b_lss hk)) ?_
            refine aopsS_end (hK137 _ (SatL.norm (n := 1) (h := hl []) (env' := [(1, (.sl (List.map Fed.cells l_5))), (5, (int i_12)), (24, (bool (decide (i_12 < (List.length l_5 : Int)))))]) (L' := []) rfl hs_refl ?_))
            repeat refine SatL.seq ?_
            refine SatL.condT rfl (decide_eq_true (by omega)) ?_
            have hlt142 : (i_12 < (List.length l_5 : Int)) := by omega
            refine SatL.skip ?_
            repeat refine SatL.seq ?_
            refine SatL.block ?_
            repeat refine SatL.seq ?_
            refine SatL.reg [1, 5, 33] [some 27, some 28, some 29, some 30, some 31, some 32, some 33] rfl rfl fun K143 hK143 => ?_
            refine st (fun _ hk => s_mv (v := (.sl (List.map Fed.cells l_5))) rfl hk) ?_
            refine st (fun _ hk => s_mv (v := (int i_12)) rfl hk) ?_
            obtain ⟨e_14, he_14, H1⟩ := bindS H1
            refine st (fun _ hk => s_ixSl elem_26 rfl rfl he_14 cells_78 rfl (by decide) hk) ?_
            refine st (fun _ hk => s_faFp (cs' := [(.sl (List.map int1 e_14.Readings))]) fld_78_2 rfl rfl hk) ?_
            refine st (fun _ hk => s_load1 (c := (.sl (List.map int1 e_14.Readings))) agg_23 (d_fp rfl) rfl hk) ?_
            refine aopsS_step fun _ hK => s_lenSl elem_23 rfl (fun hl149 => hK _ _ _ ?_)
            clear hK
            refine st (fun _ hk => s_bin rfl rfl (b_gtr hk)) ?_
            refine aopsS_end (hK143 _ (SatL.norm (n := 1) (h := hl []) (env' := [(1, (.sl (List.map Fed.cells l_5))), (5, (int i_12)), (33, (bool (decide (20 < (List.length e_14.Readings : Int)))))]) (L' := []) rfl hs_refl ?_))
            repeat refine SatL.seq ?_
            refine SatL.condX rfl (fun hc151 => ?_) (fun hc151 => ?_)
            ·
              replace H1 := iteT H1 hc151
              repeat refine SatL.seq ?_
              refine SatL.reg [4] [some 4] rfl rfl fun K152 hK152 => ?_
              refine st (fun _ hk => s_as (v := (bool true)) rfl hk) ?_
              refine aopsS_end (hK152 _ (SatL.norm (n := 1) (h := hl []) (env' := [(4, (bool true))]) (L' := []) rfl hs_refl ?_))
              obtain rfl := Option.some.inj H1
              obtain rfl := Option.some.inj H0
              exact SatL.ret (fnQ_snap [] (bool true) (bool true) rfl (Snap.free _ (.sc _)) rfl)
            ·
              replace H1 := iteF H1 hc151
              refine SatL.skip ?_
              refine SatL.nil (blockN (thenN ?_))
              repeat refine SatL.seq ?_
              refine SatL.rege [some 25, some 26, some 5] rfl rfl fun K154 hK154 => ?_
              refine st (fun _ hk => s_mv (v := (int i_12)) rfl hk) ?_
              refine st (fun _ hk => s_bin rfl rfl (b_add64 hk)) ?_
              refine st (fun _ hk => s_as (v := (int (w64 (i_12 + 1)))) rfl hk) ?_
              refine aopsS_end (hK154 _ ?_)
              have hw158 : w64 (i_12 + 1) = i_12 + 1 := w64_id (by omega) (by omega)
              exact (thenN ⟨k0, ⟨(w64 (i_12 + 1)), (StLe.of [] 1 rfl hs_nil (Nat.le_refl _)), (by omega), (by rw [hw158]; omega), (Eq.mpr (congrArg (fun q_ => ref09_Great_L0 l_5 k0 q_ = some o_10) hw158) H1)⟩, by omega⟩)
        ·
          rintro s_ ⟨rfl, hs_⟩
          refine SatL.le hs_ ?_
          clear hs_
          replace H0 := sumun0S H0
          repeat refine SatL.seq ?_
          refine SatL.reg [4] [some 4] rfl rfl fun K159 hK159 => ?_
          refine st (fun _ hk => s_as (v := (bool false)) rfl hk) ?_
          refine aopsS_end (hK159 _ (SatL.norm (n := 1) (h := hl []) (env' := [(4, (bool false))]) (L' := []) rfl hs_refl ?_))
          obtain rfl := Option.some.inj H0
          exact SatL.ret (fnQ_snap [] (bool false) (bool false) rfl (Snap.free _ (.sc _)) rfl)
    ·
      replace H0 := iteT H0 (by simpa using g17)
      refine aopsS_off rfl rfl ?_
      refine aopsS_off rfl rfl ?_
      refine st (fun _ hk => s_pickT (v := (bool true)) rfl rfl hk) ?_
      refine aopsS_end (hK4 _ (SatL.norm (n := 1) (h := hl [(0, (some (.cells 5 25 [[(int b_4.Length), (int b_4.Camera), (int b_4.Slow), (.sl (List.map Gate.cells b_4.Gates)), (.sl (List.map int1 b_4.Bins))]])))]) (env' := [(1, (.sl (List.map Fed.cells l_5))), (20, (bool true))]) (L' := []) rfl hs_nil ?_))
      repeat refine SatL.seq ?_
      refine SatL.condT rfl rfl ?_
      repeat refine SatL.seq ?_
      refine SatL.reg [4] [some 4] rfl rfl fun K162 hK162 => ?_
      refine st (fun _ hk => s_as (v := (bool true)) rfl hk) ?_
      refine aopsS_end (hK162 _ (SatL.norm (n := 1) (h := hl []) (env' := [(4, (bool true))]) (L' := []) rfl hs_refl ?_))
      obtain rfl := Option.some.inj H0
      exact SatL.ret (fnQ_snap [] (bool true) (bool true) rfl (Snap.free _ (.sc _)) rfl)
  ·
    replace H0 := iteT H0 (by simpa using g10)
    refine aopsS_off rfl rfl ?_
    refine aopsS_off rfl rfl ?_
    refine aopsS_off rfl rfl ?_
    refine st (fun _ hk => s_pickT (v := (bool true)) rfl rfl hk) ?_
    refine st (fun _ hk => s_mv (v := (bool true)) rfl hk) ?_
    refine aopsS_off rfl rfl ?_
    refine aopsS_off rfl rfl ?_
    refine aopsS_off rfl rfl ?_
    refine st (fun _ hk => s_pickT (v := (bool true)) rfl rfl hk) ?_
    refine aopsS_end (hK4 _ (SatL.norm (n := 1) (h := hl [(0, (some (.cells 5 25 [[(int b_4.Length), (int b_4.Camera), (int b_4.Slow), (.sl (List.map Gate.cells b_4.Gates)), (.sl (List.map int1 b_4.Bins))]])))]) (env' := [(1, (.sl (List.map Fed.cells l_5))), (20, (bool true))]) (L' := []) rfl hs_nil ?_))
    repeat refine SatL.seq ?_
    refine SatL.condT rfl rfl ?_
    repeat refine SatL.seq ?_
    refine SatL.reg [4] [some 4] rfl rfl fun K167 hK167 => ?_
    refine st (fun _ hk => s_as (v := (bool true)) rfl hk) ?_
    refine aopsS_end (hK167 _ (SatL.norm (n := 1) (h := hl []) (env' := [(4, (bool true))]) (L' := []) rfl hs_refl ?_))
    obtain rfl := Option.some.inj H0
    exact SatL.ret (fnQ_snap [] (bool true) (bool true) rfl (Snap.free _ (.sc _)) rfl)

theorem slices_IndexFunc_int_int_PC {s_23 : (List Int)} {f_24 : Int → Option Bool} {gf_24 : FuncId} {cf_24 : List AV} (hf_24 : ∀ x0 r, f_24 x0 = some r → PC Try.prog gf_24 ([(int x0)] ++ cf_24) (· = (bool r))) (ff_24 : FreeL cf_24) {r : Int} (H0 : slices_IndexFunc_int_int s_23 f_24 = some r) : PC Try.prog 93 [(.sl (List.map int1 s_23)), (.fn gf_24 cf_24)] (· = (int r)) := by
  unfold slices_IndexFunc_int_int at H0
  refine PC.of_bodyL [(0, (.sl (List.map int1 s_23))), (1, (.fn gf_24 cf_24))] Try.func93 rfl rfl (Nat.le_of_ble_eq_true rfl) rfl fun O => ?_
  repeat refine SatL.seq ?_
  refine SatL.reg [0, 1] [some 4] rfl rfl fun K1 hK1 => ?_
  refine st (fun _ hk => s_as (v := (int 0)) rfl hk) ?_
  refine aopsS_end (hK1 _ (SatL.norm (n := 0) (h := hl []) (env' := [(0, (.sl (List.map int1 s_23))), (1, (.fn gf_24 cf_24))]) (L' := []) rfl hs_refl ?_))
  repeat refine SatL.seq ?_
  refine SatL.reg [0, 1, 7, 8] [some 6, some 7, some 8] rfl rfl fun K3 hK3 => ?_
  refine st (fun _ hk => s_mv (v := (.sl (List.map int1 s_23))) rfl hk) ?_
  refine aopsS_step fun _ hK => s_lenSl elem_23 rfl (fun hl5 => hK _ _ _ ?_)
  clear hK
  refine st (fun _ hk => s_mv (v := (int 0)) rfl hk) ?_
  refine aopsS_end (hK3 _ (SatL.norm (n := 0) (h := hl []) (env' := [(0, (.sl (List.map int1 s_23))), (1, (.fn gf_24 cf_24)), (7, (int (List.length s_23 : Int))), (8, (int 0))]) (L' := []) rfl hs_refl ?_))
  repeat refine SatL.seq ?_
  obtain ⟨o_32, H1, H0⟩ := bindS H0
  refine SatL.mid [] (fun s_ => (Sum.inr ()) = o_32 ∧ StLe s_ [] [] 0) ?_ ?_
  ·
    repeat refine SatL.seq ?_
    refine SatL.block ?_
    repeat refine SatL.seq ?_
    refine SatL.loopK [0, 1, 7, 8] (fun k0 s_ => ∃ (x_35 : Int), StLe s_ [(0, (.sl (List.map int1 s_23))), (1, (.fn gf_24 cf_24)), (7, (int (List.length s_23 : Int))), (8, (int x_35))] [] 0 ∧ 0 ≤ x_35 ∧ k0 = Int.toNat ((List.length s_23 : Int) - x_35) ∧ slices_IndexFunc_int_int_L0 f_24 s_23 k0 x_35 = some o_32) (Int.toNat ((List.length s_23 : Int) - 0)) ?_ ?_
    · exact ⟨0, (StLe.of [] 0 rfl hs_nil (Nat.le_refl _)), (by omega), rfl, H1⟩
    rintro k0 s_ ⟨x_35, hs_, _, hk_, H1⟩
    refine SatL.le hs_ ?_
    clear hs_
    rcases k0 with _ | k0
    ·
      rw [slices_IndexFunc_int_int_L0.eq_1] at H1
      repeat refine SatL.seq ?_
      refine SatL.reg [0, 1, 7, 8, 9] [some 9] rfl rfl fun K107 hK107 => ?_
      refine st (fun _ hk => s_bin rfl rfl (b_lss hk)) ?_
      refine aopsS_end (hK107 _ (SatL.norm (n := 0) (h := hl []) (env' := [(0, (.sl (List.map int1 s_23))), (1, (.fn gf_24 cf_24)), (7, (int (List.length s_23 : Int))), (8, (int x_35)), (9, (bool (decide (x_35 < (List.length s_23 : Int)))))]) (L' := []) rfl hs_refl ?_))
      repeat refine SatL.seq ?_
      refine SatL.condF rfl (decide_eq_false (by omega)) ?_
      refine SatL.exit ?_
      simp only [thenQ, blockQ, if_true, reduceIte, Nat.reduceEqDiff]
      obtain rfl := Option.some.inj H1
      exact SatL.nil (thenN ⟨rfl, (StLe.of [] 0 rfl hs_nil (Nat.le_refl _))⟩)
    ·
      rw [slices_IndexFunc_int_int_L0.eq_2] at H1
      repeat refine SatL.seq ?_
      refine SatL.reg [0, 1, 7, 8, 9] [some 9] rfl rfl fun K109 hK109 => ?_
      refine st (fun _ hk => s_bin rfl rfl (b_lss hk)) ?_
      refine aopsS_end (hK109 _ (SatL.norm (n := 0) (h := hl []) (env' := [(0, (.sl (List.map int1 s_23))), (1, (.fn gf_24 cf_24)), (7, (int (List.length s_23 : Int))), (8, (int x_35)), (9, (bool (decide (x_35 < (List.length s_23 : Int)))))]) (L' := []) rfl hs_refl ?_))
      repeat refine SatL.seq ?_
      refine SatL.condT rfl (decide_eq_true (by omega)) ?_
      have hlt111 : (x_35 < (List.length s_23 : Int)) := by omega
      refine SatL.skip ?_
      repeat refine SatL.seq ?_
      refine SatL.block ?_
      repeat refine SatL.seq ?_
      refine SatL.reg [0, 1, 5, 7, 8] [some 10, some 5] rfl rfl fun K112 hK112 => ?_
      refine st (fun _ hk => s_mv (v := (int x_35)) rfl hk) ?_
      refine st (fun _ hk => s_as (v := (int x_35)) rfl hk) ?_
      refine aopsS_end (hK112 _ (SatL.norm (n := 0) (h := hl []) (env' := [(0, (.sl (List.map int1 s_23))), (1, (.fn gf_24 cf_24)), (5, (int x_35)), (7, (int (List.length s_23 : Int))), (8, (int x_35))]) (L' := []) rfl hs_refl ?_))
      repeat refine SatL.seq ?_
      refine SatL.reg [0, 1, 5, 7, 8, 16] [some 11, some 12, some 13, some 14, some 15, some 16] rfl rfl fun K115 hK115 => ?_
      refine st (fun _ hk => s_mv (v := (.fn gf_24 cf_24)) rfl hk) ?_
      refine st (fun _ hk => s_mv (v := (.sl (List.map int1 s_23))) rfl hk) ?_
      refine st (fun _ hk => s_mv (v := (int x_35)) rfl hk) ?_
      obtain ⟨e_38, he_38, H1⟩ := bindS H1
      refine st (fun _ hk => s_ixSl elem_23 rfl rfl he_38 cells_3 rfl (by decide) hk) ?_
      refine st (fun _ hk => s_load1 (c := (int e_38)) agg_3 (d_fp rfl) rfl hk) ?_
      obtain ⟨r_39, hr_39, H1⟩ := bindS H1
      refine st (fun _ hk => s_call (avs := ([(int e_38)] ++ cf_24)) rfl rfl rfl (PC.call1 (hf_24 _ _ hr_39) (freeL_app (FreeL.cons (.sc _) FreeL.nil) ff_24) hk)) ?_
      refine aopsS_end (hK115 _ (SatL.norm (n := 0) (h := hl []) (env' := [(0, (.sl (List.map int1 s_23))), (1, (.fn gf_24 cf_24)), (5, (int x_35)), (7, (int (List.length s_23 : Int))), (8, (int x_35)), (16, (bool r_39))]) (L' := []) rfl hs_refl ?_))
      repeat refine SatL.seq ?_
      refine SatL.condX rfl (fun hc122 => ?_) (fun hc122 => ?_)
      ·
        replace H1 := iteT H1 hc122
        repeat refine SatL.seq ?_
        refine SatL.reg [4] [some 17, some 4] rfl rfl fun K123 hK123 => ?_
        refine st (fun _ hk => s_mv (v := (int x_35)) rfl hk) ?_
        refine st (fun _ hk => s_as (v := (int x_35)) rfl hk) ?_
        refine aopsS_end (hK123 _ (SatL.norm (n := 0) (h := hl []) (env' := [(4, (int x_35))]) (L' := []) rfl hs_refl ?_))
        obtain rfl := Option.some.inj H1
        obtain rfl := Option.some.inj H0
        exact SatL.ret (fnQ_snap [] (int x_35) (int x_35) rfl (Snap.free _ (.sc _)) rfl)
      ·
        replace H1 := iteF H1 hc122
        refine SatL.skip ?_
        refine SatL.nil (blockN (thenN ?_))
        repeat refine SatL.seq ?_
        refine SatL.rege [some 18, some 8] rfl rfl fun K126 hK126 => ?_
        refine st (fun _ hk => s_bin rfl rfl (b_add64 hk)) ?_
        refine st (fun _ hk => s_mv (v := (int (w64 (x_35 + 1)))) rfl hk) ?_
        refine aopsS_end (hK126 _ ?_)
        have hw129 : w64 (x_35 + 1) = x_35 + 1 := w64_id (by omega) (by omega)
        exact (thenN ⟨k0, ⟨(w64 (x_35 + 1)), (StLe.of [] 0 rfl hs_nil (Nat.le_refl _)), (by omega), (by rw [hw129]; omega), (Eq.mpr (congrArg (fun q_ => slices_IndexFunc_int_int_L0 f_24 s_23 k0 q_ = some o_32) hw129) H1)⟩, by omega⟩)
  ·
    rintro s_ ⟨rfl, hs_⟩
    refine SatL.le hs_ ?_
    clear hs_
    replace H0 := sumun0S H0
    repeat refine SatL.seq ?_
    refine SatL.reg [4] [some 4] rfl rfl fun K130 hK130 => ?_
    refine st (fun _ hk => s_as (v := (int (-1))) rfl hk) ?_
    refine aopsS_end (hK130 _ (SatL.norm (n := 0) (h := hl []) (env' := [(4, (int (-1)))]) (L' := []) rfl hs_refl ?_))
    obtain rfl := Option.some.inj H0
    exact SatL.ret (fnQ_snap [] (int (-1)) (int (-1)) rfl (Snap.free _ (.sc _)) rfl)

theorem slices_ContainsFunc_int_int_PC {s_21 : (List Int)} {f_22 : Int → Option Bool} {gf_22 : FuncId} {cf_22 : List AV} (hf_22 : ∀ x0 r, f_22 x0 = some r → PC Try.prog gf_22 ([(int x0)] ++ cf_22) (· = (bool r))) (ff_22 : FreeL cf_22) {r : Bool} (H0 : slices_ContainsFunc_int_int s_21 f_22 = some r) : PC Try.prog 81 [(.sl (List.map int1 s_21)), (.fn gf_22 cf_22)] (· = (bool r)) := by
  unfold slices_ContainsFunc_int_int at H0
  refine PC.of_bodyL [(0, (.sl (List.map int1 s_21))), (1, (.fn gf_22 cf_22))] Try.func81 rfl rfl (Nat.le_of_ble_eq_true rfl) rfl fun O => ?_
  repeat refine SatL.seq ?_
  refine SatL.reg [0, 1] [some 4] rfl rfl fun K1 hK1 => ?_
  refine st (fun _ hk => s_as (v := (bool false)) rfl hk) ?_
  refine aopsS_end (hK1 _ (SatL.norm (n := 0) (h := hl []) (env' := [(0, (.sl (List.map int1 s_21))), (1, (.fn gf_22 cf_22))]) (L' := []) rfl hs_refl ?_))
  repeat refine SatL.seq ?_
  refine SatL.reg [4] [some 5, some 6, some 7, some 8, some 4] rfl rfl fun K3 hK3 => ?_
  refine st (fun _ hk => s_mv (v := (.sl (List.map int1 s_21))) rfl hk) ?_
  refine st (fun _ hk => s_mv (v := (.fn gf_22 cf_22)) rfl hk) ?_
  obtain ⟨r_40, hr_40, H0⟩ := bindS H0
  refine st (fun _ hk => s_call (avs := [(.sl (List.map int1 s_21)), (.fn gf_22 cf_22)]) rfl rfl rfl (PC.call1 (slices_IndexFunc_int_int_PC hf_22 ff_22 hr_40) (FreeL.cons (Free.slm fr_int1) (FreeL.cons (Free.fnl ff_22) FreeL.nil)) hk)) ?_
  refine st (fun _ hk => s_bin rfl rfl (b_geq hk)) ?_
  refine st (fun _ hk => s_as (v := (bool (decide (0 ≤ r_40)))) rfl hk) ?_
  refine aopsS_end (hK3 _ (SatL.norm (n := 0) (h := hl []) (env' := [(4, (bool (decide (0 ≤ r_40))))]) (L' := []) rfl hs_refl ?_))
  obtain rfl := Option.some.inj H0
  exact SatL.ret (fnQ_snap [] (bool (decide (0 ≤ r_40))) (bool (decide (0 ≤ r_40))) rfl (Snap.free _ (.sc _)) rfl)

theorem sort_from_c1_PC {n_41 : Int} {c_42 : Int} {c_43 : Int} {r : Bool} (H0 : sort_from_c1 n_41 c_42 c_43 = some r) : PC Try.prog 82 [(int n_41), (.fp [(int c_42)]), (.fp [(int c_43)])] (· = (bool r)) := by
  unfold sort_from_c1 at H0
  refine PC.of_bodyL [(0, (int n_41)), (1, (.fp [(int c_42)])), (2, (.fp [(int c_43)]))] Try.func82 rfl rfl (Nat.le_of_ble_eq_true rfl) rfl fun O => ?_
  repeat refine SatL.seq ?_
  refine SatL.reg [0, 1, 2] [some 4] rfl rfl fun K1 hK1 => ?_
  refine st (fun _ hk => s_as (v := (bool false)) rfl hk) ?_
  refine aopsS_end (hK1 _ (SatL.norm (n := 0) (h := hl []) (env' := [(0, (int n_41)), (1, (.fp [(int c_42)])), (2, (.fp [(int c_43)]))]) (L' := []) rfl hs_refl ?_))
  repeat refine SatL.seq ?_
  refine SatL.reg [4] [some 5, some 6, some 7, some 8, some 9, some 10, some 11, some 12, some 4] rfl rfl fun K3 hK3 => ?_
  refine st (fun _ hk => s_mv (v := (int n_41)) rfl hk) ?_
  refine st (fun _ hk => s_load1 (c := (int c_42)) agg_3 (d_fp rfl) rfl hk) ?_
  refine st (fun _ hk => s_bin rfl rfl (b_lss hk)) ?_
  refine st (fun _ hk => s_mv (v := (bool (decide (n_41 < c_42)))) rfl hk) ?_
  refine aopsS_split rfl _ rfl (fun g8 => ?_) (fun g8 => ?_)
  ·
    replace H0 := iteF H0 (by simpa using g8)
    refine sx (fun _ hk => s_mv (v := (int n_41)) rfl hk) ?_
    refine sg rfl rfl (fun _ hk => s_load1 (c := (int c_43)) agg_3 (d_fp rfl) rfl hk) ?_
    refine sg rfl rfl (fun _ hk => s_bin rfl rfl (b_gtr hk)) ?_
    refine st (fun _ hk => s_pickF (v := (bool (decide (c_43 < n_41)))) rfl rfl hk) ?_
    refine st (fun _ hk => s_as (v := (bool (decide (c_43 < n_41)))) rfl hk) ?_
    refine aopsS_end (hK3 _ (SatL.norm (n := 0) (h := hl []) (env' := [(4, (bool (decide (c_43 < n_41))))]) (L' := []) rfl hs_refl ?_))
    obtain rfl := Option.some.inj H0
    exact SatL.ret (fnQ_snap [] (bool (decide (c_43 < n_41))) (bool (decide (c_43 < n_41))) rfl (Snap.free _ (.sc _)) rfl)
  ·
    replace H0 := iteT H0 (by simpa using g8)
    refine aopsS_off rfl rfl ?_
    refine aopsS_off rfl rfl ?_
    refine st (fun _ hk => s_pickT (v := (bool true)) rfl rfl hk) ?_
    refine st (fun _ hk => s_as (v := (bool true)) rfl hk) ?_
    refine aopsS_end (hK3 _ (SatL.norm (n := 0) (h := hl []) (env' := [(4, (bool true))]) (L' := []) rfl hs_refl ?_))
    obtain rfl := Option.some.inj H0
    exact SatL.ret (fnQ_snap [] (bool true) (bool true) rfl (Snap.free _ (.sc _)) rfl)

theorem sort_from_PC {lo_18 : Int} {hi_19 : Int} {all_20 : (List Int)} {r : Bool} (H0 : sort_from lo_18 hi_19 all_20 = some r) : PC Try.prog 54 [(int lo_18), (int hi_19), (.sl (List.map int1 all_20))] (· = (bool r)) := by
  unfold sort_from at H0
  refine PC.of_bodyL [(0, (int lo_18)), (1, (int hi_19)), (2, (.sl (List.map int1 all_20)))] Try.func54 rfl rfl (Nat.le_of_ble_eq_true rfl) rfl fun O => ?_
  repeat refine SatL.seq ?_
  refine SatL.reg [2, 3, 4] [some 3, some 4, some 6] rfl rfl fun K1 hK1 => ?_
  refine st (fun _ hk => s_box (cs := [(int lo_18)]) (m := 1) (n' := 1) rfl rfl rfl hk) ?_
  refine st (fun _ hk => s_box (cs := [(int hi_19)]) (m := 1) (n' := 2) rfl rfl rfl hk) ?_
  refine st (fun _ hk => s_as (v := (bool false)) rfl hk) ?_
  refine aopsS_end (hK1 _ (SatL.norm (n := 2) (h := hl [(1, (some (.cells 1 3 [[(int hi_19)]]))), (0, (some (.cells 1 3 [[(int lo_18)]])))]) (env' := [(2, (.sl (List.map int1 all_20))), (3, (.own 0 0 0)), (4, (.own 1 0 0))]) (L' := [(0, (some (.cells 1 3 [[(int lo_18)]]))), (1, (some (.cells 1 3 [[(int hi_19)]])))]) rfl (hs_cons (hl_ne (j := 0) (i := 1) (by decide) (hl_self _ _ _)) (hs_cons (hl_self _ _ _) hs_nil)) ?_))
  repeat refine SatL.seq ?_
  refine SatL.reg [6] [some 7, some 8, some 9, some 10, some 6] rfl rfl fun K5 hK5 => ?_
  refine st (fun _ hk => s_mv (v := (.sl (List.map int1 all_20))) rfl hk) ?_
  refine st (fun _ hk => s_fn (cs := [(.own 0 0 0), (.own 1 0 0)]) rfl hk) ?_
  obtain ⟨r_44, hr_44, H0⟩ := bindS H0
  refine st (fun _ hk => s_call (avs := [(.sl (List.map int1 all_20)), (.fn 82 [(.own 0 0 0), (.own 1 0 0)])]) rfl rfl rfl (PC.lend1 (args' := [(.sl (List.map int1 all_20)), (.fn 82 [(.fp [(int lo_18)]), (.fp [(int hi_19)])])]) (SnapL.cons (Snap.free _ (Free.slm fr_int1)) (SnapL.cons (Snap.fnL (SnapL.cons (Snap.ownL (hl_self _ _ _) rfl (SnapL.cons (Snap.free _ (.sc _)) SnapL.nil)) (SnapL.cons (Snap.ownL (hl_ne (j := 1) (i := 0) (by decide) (hl_self _ _ _)) rfl (SnapL.cons (Snap.free _ (.sc _)) SnapL.nil)) SnapL.nil))) SnapL.nil)) (slices_ContainsFunc_int_int_PC (fun x0 _ h => sort_from_c1_PC h) (FreeL.cons (Free.fpl (FreeL.cons (.sc _) FreeL.nil)) (FreeL.cons (Free.fpl (FreeL.cons (.sc _) FreeL.nil)) FreeL.nil)) hr_44) (.sc _) hk)) ?_
  refine st (fun _ hk => s_not rfl hk) ?_
  refine st (fun _ hk => s_as (v := (bool (!r_44))) rfl hk) ?_
  refine aopsS_end (hK5 _ (SatL.norm (n := 2) (h := hl [(0, (some (.cells 1 3 [[(int lo_18)]]))), (1, (some (.cells 1 3 [[(int hi_19)]])))]) (env' := [(6, (bool (!r_44)))]) (L' := []) rfl hs_nil ?_))
  obtain rfl := Option.some.inj H0
  exact SatL.ret (fnQ_snap [] (bool (!r_44)) (bool (!r_44)) rfl (Snap.free _ (.sc _)) rfl)

theorem sort_said_PC {l_17 : (List Int)} {r : Bool} (H0 : sort_said l_17 = some r) : PC Try.prog 50 [(.sl (List.map int1 l_17))] (· = (bool r)) := by
  unfold sort_said at H0
  refine PC.of_bodyL [(0, (.sl (List.map int1 l_17)))] Try.func50 rfl rfl (Nat.le_of_ble_eq_true rfl) rfl fun O => ?_
  repeat refine SatL.seq ?_
  refine SatL.reg [0] [some 2] rfl rfl fun K1 hK1 => ?_
  refine st (fun _ hk => s_as (v := (bool false)) rfl hk) ?_
  refine aopsS_end (hK1 _ (SatL.norm (n := 0) (h := hl []) (env' := [(0, (.sl (List.map int1 l_17)))]) (L' := []) rfl hs_refl ?_))
  repeat refine SatL.seq ?_
  refine SatL.reg [2] [some 3, some 4, some 5, some 6, some 7, some 8, some 9, some 10, some 2] rfl rfl fun K3 hK3 => ?_
  refine st (fun _ hk => s_mv (v := (.sl (List.map int1 l_17))) rfl hk) ?_
  refine aopsS_step fun _ hK => s_lenSl elem_23 rfl (fun hl5 => hK _ _ _ ?_)
  clear hK
  refine st (fun _ hk => s_bslF (es := [[(int (List.length l_17 : Int))]]) (es' := List.map int1 [(List.length l_17 : Int)]) elem_23 zero_3 rfl (by decide) (by decide) rfl rfl hk) ?_
  obtain ⟨r_45, hr_45, H0⟩ := bindS H0
  refine st (fun _ hk => s_call (avs := [(int 1), (int 9), (.sl (List.map int1 ([(List.length l_17 : Int)])))]) rfl rfl rfl (PC.call1 (sort_from_PC hr_45) (FreeL.cons (.sc _) (FreeL.cons (.sc _) (FreeL.cons (Free.slm fr_int1) FreeL.nil))) hk)) ?_
  refine st (fun _ hk => s_mv (v := (bool r_45)) rfl hk) ?_
  refine aopsS_split rfl _ rfl (fun g9 => ?_) (fun g9 => ?_)
  ·
    replace H0 := iteT H0 (by simpa using g9)
    refine sx (fun _ hk => s_mv (v := (.sl (List.map int1 l_17))) rfl hk) ?_
    obtain ⟨r_46, hr_46, H0⟩ := bindS H0
    refine sg rfl rfl (fun _ hk => s_call (avs := [(int (-1)), (int 15), (.sl (List.map int1 l_17))]) rfl rfl rfl (PC.call1 (sort_from_PC hr_46) (FreeL.cons (.sc _) (FreeL.cons (.sc _) (FreeL.cons (Free.slm fr_int1) FreeL.nil))) hk)) ?_
    refine st (fun _ hk => s_pickT (v := (bool r_46)) rfl rfl hk) ?_
    refine st (fun _ hk => s_as (v := (bool r_46)) rfl hk) ?_
    refine aopsS_end (hK3 _ (SatL.norm (n := 0) (h := hl []) (env' := [(2, (bool r_46))]) (L' := []) rfl hs_refl ?_))
    obtain rfl := Option.some.inj H0
    exact SatL.ret (fnQ_snap [] (bool r_46) (bool r_46) rfl (Snap.free _ (.sc _)) rfl)
  ·
    replace H0 := iteF H0 (by simpa using g9)
    refine aopsS_off rfl rfl ?_
    refine st (fun _ hk => s_pickF (v := (bool false)) rfl rfl hk) ?_
    refine st (fun _ hk => s_as (v := (bool false)) rfl hk) ?_
    refine aopsS_end (hK3 _ (SatL.norm (n := 0) (h := hl []) (env' := [(2, (bool false))]) (L' := []) rfl hs_refl ?_))
    obtain rfl := Option.some.inj H0
    exact SatL.ret (fnQ_snap [] (bool false) (bool false) rfl (Snap.free _ (.sc _)) rfl)

theorem sort_read_PC {l_48 : (List Int)} {r : Int} (H0 : sort_read l_48 = some r) : PC Try.prog 51 [(.sl (List.map int1 l_48))] (· = (int r)) := by
  unfold sort_read at H0
  refine PC.of_bodyL [(0, (.sl (List.map int1 l_48)))] Try.func51 rfl rfl (Nat.le_of_ble_eq_true rfl) rfl fun O => ?_
  repeat refine SatL.seq ?_
  refine SatL.reg [0] [some 2] rfl rfl fun K1 hK1 => ?_
  refine st (fun _ hk => s_as (v := (int 0)) rfl hk) ?_
  refine aopsS_end (hK1 _ (SatL.norm (n := 0) (h := hl []) (env' := [(0, (.sl (List.map int1 l_48)))]) (L' := []) rfl hs_refl ?_))
  repeat refine SatL.seq ?_
  refine SatL.reg [0, 3] [some 3] rfl rfl fun K3 hK3 => ?_
  refine st (fun _ hk => s_alloc (m := 16) (n' := 1) zero_130 rfl rfl hk) ?_
  refine aopsS_end (hK3 _ (SatL.norm (n := 1) (h := hl [(0, (some (.cells 16 130 [List.map int (List.replicate 16 0)])))]) (env' := [(0, (.sl (List.map int1 l_48))), (3, (.own 0 0 0))]) (L' := [(0, (some (.cells 16 130 [List.map int (List.replicate 16 0)])))]) rfl hs_refl ?_))
  repeat refine SatL.seq ?_
  refine SatL.reg [3, 10, 11, 12] [some 10, some 11, some 12] rfl rfl fun K5 hK5 => ?_
  refine st (fun _ hk => s_mv (v := (.sl (List.map int1 l_48))) rfl hk) ?_
  refine aopsS_step fun _ hK => s_lenSl elem_23 rfl (fun hl7 => hK _ _ _ ?_)
  clear hK
  refine st (fun _ hk => s_mv (v := (int 0)) rfl hk) ?_
  refine aopsS_end (hK5 _ (SatL.norm (n := 1) (h := hl [(0, (some (.cells 16 130 [List.map int (List.replicate 16 0)])))]) (env' := [(3, (.own 0 0 0)), (10, (.sl (List.map int1 l_48))), (11, (int (List.length l_48 : Int))), (12, (int 0))]) (L' := [(0, (some (.cells 16 130 [List.map int (List.replicate 16 0)])))]) rfl hs_refl ?_))
  repeat refine SatL.seq ?_
  obtain ⟨o_58, H1, H0⟩ := bindS H0
  refine SatL.mid [3] (fun s_ => ∃ (votes_57 : (List Int)), votes_57 = o_58 ∧ StLe s_ [(3, (.own 0 0 0))] [(0, (some (.cells 16 130 [List.map int votes_57])))] 1 ∧ List.length votes_57 = 16) ?_ ?_
  ·
    repeat refine SatL.seq ?_
    refine SatL.block ?_
    repeat refine SatL.seq ?_
    refine SatL.loopK [3, 10, 11, 12] (fun k0 s_ => ∃ (votes_61 : (List Int)) (x_62 : Int), StLe s_ [(3, (.own 0 0 0)), (10, (.sl (List.map int1 l_48))), (11, (int (List.length l_48 : Int))), (12, (int x_62))] [(0, (some (.cells 16 130 [List.map int votes_61])))] 1 ∧ List.length votes_61 = 16 ∧ 0 ≤ x_62 ∧ k0 = Int.toNat ((List.length l_48 : Int) - x_62) ∧ sort_read_L0 l_48 k0 votes_61 x_62 = some o_58) (Int.toNat ((List.length l_48 : Int) - 0)) ?_ ?_
    · exact ⟨(List.replicate 16 0), 0, (StLe.of [(0, (some (.cells 16 130 [List.map int (List.replicate 16 0)])))] 1 rfl (hs_cons (hl_self _ _ _) hs_nil) (Nat.le_refl _)), (by first | exact (List.length_replicate ..) | simp), (by omega), rfl, H1⟩
    rintro k0 s_ ⟨votes_61, x_62, hs_, hlenvotes_61, _, hk_, H1⟩
    refine SatL.le hs_ ?_
    clear hs_
    rcases k0 with _ | k0
    ·
      rw [sort_read_L0.eq_1] at H1
      repeat refine SatL.seq ?_
      refine SatL.reg [3, 10, 11, 12, 13] [some 13] rfl rfl fun K129 hK129 => ?_
      refine st (fun _ hk => s_bin rfl rfl (b_lss hk)) ?_
      refine aopsS_end (hK129 _ (SatL.norm (n := 1) (h := hl [(0, (some (.cells 16 130 [List.map int votes_61])))]) (env' := [(3, (.own 0 0 0)), (10, (.sl (List.map int1 l_48))), (11, (int (List.length l_48 : Int))), (12, (int x_62)), (13, (bool (decide (x_62 < (List.length l_48 : Int)))))]) (L' := [(0, (some (.cells 16 130 [List.map int votes_61])))]) rfl hs_refl ?_))
      repeat refine SatL.seq ?_
      refine SatL.condF rfl (decide_eq_false (by omega)) ?_
      refine SatL.exit ?_
      simp only [thenQ, blockQ, if_true, reduceIte, Nat.reduceEqDiff]
      obtain rfl := Option.some.inj H1
      exact SatL.nil (thenN ⟨votes_61, rfl, (StLe.of [(0, (some (.cells 16 130 [List.map int votes_61])))] 1 rfl (hs_cons (hl_self _ _ _) hs_nil) (Nat.le_refl _)), (by first | exact hlenvotes_61 | simp)⟩)
    ·
      rw [sort_read_L0.eq_2] at H1
      repeat refine SatL.seq ?_
      refine SatL.reg [3, 10, 11, 12, 13] [some 13] rfl rfl fun K131 hK131 => ?_
      refine st (fun _ hk => s_bin rfl rfl (b_lss hk)) ?_
      refine aopsS_end (hK131 _ (SatL.norm (n := 1) (h := hl [(0, (some (.cells 16 130 [List.map int votes_61])))]) (env' := [(3, (.own 0 0 0)), (10, (.sl (List.map int1 l_48))), (11, (int (List.length l_48 : Int))), (12, (int x_62)), (13, (bool (decide (x_62 < (List.length l_48 : Int)))))]) (L' := [(0, (some (.cells 16 130 [List.map int votes_61])))]) rfl hs_refl ?_))
      repeat refine SatL.seq ?_
      refine SatL.condT rfl (decide_eq_true (by omega)) ?_
      have hlt133 : (x_62 < (List.length l_48 : Int)) := by omega
      refine SatL.skip ?_
      repeat refine SatL.seq ?_
      refine SatL.block ?_
      repeat refine SatL.seq ?_
      refine SatL.reg [3, 5, 10, 11, 12] [some 14, some 15, some 5] rfl rfl fun K134 hK134 => ?_
      obtain ⟨e_65, he_65, H1⟩ := bindS H1
      refine st (fun _ hk => s_ixSl elem_23 rfl rfl he_65 cells_3 rfl (by decide) hk) ?_
      refine st (fun _ hk => s_load1 (c := (int e_65)) agg_3 (d_fp rfl) rfl hk) ?_
      refine st (fun _ hk => s_as (v := (int e_65)) rfl hk) ?_
      refine aopsS_end (hK134 _ (SatL.norm (n := 1) (h := hl [(0, (some (.cells 16 130 [List.map int votes_61])))]) (env' := [(3, (.own 0 0 0)), (5, (int e_65)), (10, (.sl (List.map int1 l_48))), (11, (int (List.length l_48 : Int))), (12, (int x_62))]) (L' := [(0, (some (.cells 16 130 [List.map int votes_61])))]) rfl hs_refl ?_))
      repeat refine SatL.seq ?_
      refine SatL.reg [3, 5, 10, 11, 12, 17] [some 16, some 17] rfl rfl fun K138 hK138 => ?_
      refine st (fun _ hk => s_mv (v := (int e_65)) rfl hk) ?_
      refine st (fun _ hk => s_bin rfl rfl (b_geq hk)) ?_
      refine aopsS_end (hK138 _ (SatL.norm (n := 1) (h := hl [(0, (some (.cells 16 130 [List.map int votes_61])))]) (env' := [(3, (.own 0 0 0)), (5, (int e_65)), (10, (.sl (List.map int1 l_48))), (11, (int (List.length l_48 : Int))), (12, (int x_62)), (17, (bool (decide (0 ≤ e_65))))]) (L' := [(0, (some (.cells 16 130 [List.map int votes_61])))]) rfl hs_refl ?_))
      repeat refine SatL.seq ?_
      refine SatL.condX rfl (fun hc141 => ?_) (fun hc141 => ?_)
      ·
        replace H1 := iteT H1 hc141
        repeat refine SatL.seq ?_
        refine SatL.rege [some 18, some 19, some 20, some 21, some 22, none] rfl rfl fun K142 hK142 => ?_
        refine st (fun _ hk => s_mv (v := (int e_65)) rfl hk) ?_
        obtain ⟨e_66, he_66, H1⟩ := bindS H1
        refine st (fun _ hk => s_ixA1 arr_130 rfl rfl (isC (hl_self _ _ _)) (gi_lt he_66).1 (ltl he_66 hlenvotes_61) cells_3 hk) ?_
        refine st (fun _ hk => s_load1 agg_3 (d_own rfl (hl_self _ _ _) rfl rfl) (dropget he_66) hk) ?_
        refine st (fun _ hk => s_bin rfl rfl (b_add64 hk)) ?_
        refine st (fun _ hk => s_ixA1 arr_130 rfl rfl (isC (hl_self _ _ _)) (gi_lt he_66).1 (ltl he_66 hlenvotes_61) cells_3 hk) ?_
        refine s0 (fun _ hk => s_store rfl (hl_self _ _ _) rfl rfl cells_3 rfl (by decide) (by rw [List.length_map]; have := (gi_lt he_66).2; omega) (set_arr _ _ _) (hu_self _ _ _ _) hk) ?_
        refine aopsS_end (hK142 _ ?_)
        refine (blockN (thenN ?_))
        refine SatL.forget [3, 10, 11, 12] (SatL.norm (n := 1) (h := hl [(0, (some (.cells 16 130 [List.map int (List.set votes_61 (Int.toNat e_65) (w64 (e_66 + 1)))])))]) (env' := [(3, (.own 0 0 0)), (10, (.sl (List.map int1 l_48))), (11, (int (List.length l_48 : Int))), (12, (int x_62))]) (L' := [(0, (some (.cells 16 130 [List.map int (List.set votes_61 (Int.toNat e_65) (w64 (e_66 + 1)))])))]) rfl hs_refl ?_)
        repeat refine SatL.seq ?_
        refine SatL.rege [some 23, some 12] rfl rfl fun K149 hK149 => ?_
        refine st (fun _ hk => s_bin rfl rfl (b_add64 hk)) ?_
        refine st (fun _ hk => s_mv (v := (int (w64 (x_62 + 1)))) rfl hk) ?_
        refine aopsS_end (hK149 _ ?_)
        have hw152 : w64 (x_62 + 1) = x_62 + 1 := w64_id (by omega) (by omega)
        exact (thenN ⟨k0, ⟨(List.set votes_61 (Int.toNat e_65) (w64 (e_66 + 1))), (w64 (x_62 + 1)), (StLe.of [(0, (some (.cells 16 130 [List.map int (List.set votes_61 (Int.toNat e_65) (w64 (e_66 + 1)))])))] 1 rfl (hs_cons (hl_self _ _ _) hs_nil) (Nat.le_refl _)), (by first | exact (List.length_set.trans hlenvotes_61) | simp), (by omega), (by rw [hw152]; omega), (Eq.mpr (congrArg (fun q_ => sort_read_L0 l_48 k0 ((List.set votes_61 (Int.toNat e_65) (w64 (e_66 + 1)))) q_ = some o_58) hw152) H1)⟩, by omega⟩)
      ·
        replace H1 := iteF H1 hc141
        refine SatL.skip ?_
        refine SatL.nil (blockN (thenN ?_))
        repeat refine SatL.seq ?_
        refine SatL.rege [some 23, some 12] rfl rfl fun K153 hK153 => ?_
        refine st (fun _ hk => s_bin rfl rfl (b_add64 hk)) ?_
        refine st (fun _ hk => s_mv (v := (int (w64 (x_62 + 1)))) rfl hk) ?_
        refine aopsS_end (hK153 _ ?_)
        have hw156 : w64 (x_62 + 1) = x_62 + 1 := w64_id (by omega) (by omega)
        exact (thenN ⟨k0, ⟨votes_61, (w64 (x_62 + 1)), (StLe.of [(0, (some (.cells 16 130 [List.map int votes_61])))] 1 rfl (hs_cons (hl_self _ _ _) hs_nil) (Nat.le_refl _)), (by first | exact hlenvotes_61 | simp), (by omega), (by rw [hw156]; omega), (Eq.mpr (congrArg (fun q_ => sort_read_L0 l_48 k0 votes_61 q_ = some o_58) hw156) H1)⟩, by omega⟩)
  ·
    rintro s_ ⟨votes_57, rfl, hs_, hlenvotes_57⟩
    refine SatL.le hs_ ?_
    clear hs_
    replace H0 := un1S H0
    repeat refine SatL.seq ?_
    refine SatL.reg [3, 6, 7] [some 6, some 7] rfl rfl fun K157 hK157 => ?_
    refine st (fun _ hk => s_as (v := (int (-1))) rfl hk) ?_
    refine st (fun _ hk => s_as (v := (int 0)) rfl hk) ?_
    refine aopsS_end (hK157 _ (SatL.norm (n := 1) (h := hl [(0, (some (.cells 16 130 [List.map int votes_57])))]) (env' := [(3, (.own 0 0 0)), (6, (int (-1))), (7, (int 0))]) (L' := [(0, (some (.cells 16 130 [List.map int votes_57])))]) rfl hs_refl ?_))
    repeat refine SatL.seq ?_
    refine SatL.reg [6, 7, 24, 25] [some 24, some 25] rfl rfl fun K160 hK160 => ?_
    refine st (fun _ hk => s_loadArr agg_130 cells_130 rfl (hl_self _ _ _) hlenvotes_57 hk) ?_
    refine st (fun _ hk => s_mv (v := (int 0)) rfl hk) ?_
    refine aopsS_end (hK160 _ (SatL.norm (n := 1) (h := hl [(0, (some (.cells 16 130 [List.map int votes_57])))]) (env' := [(6, (int (-1))), (7, (int 0)), (24, (.ag (List.map int votes_57))), (25, (int 0))]) (L' := []) rfl hs_nil ?_))
    repeat refine SatL.seq ?_
    obtain ⟨o_74, H1, H0⟩ := bindS H0
    refine SatL.mid [6] (fun s_ => ∃ (best_73 : Int), best_73 = o_74 ∧ StLe s_ [(6, (int best_73))] [] 1) ?_ ?_
    ·
      repeat refine SatL.seq ?_
      refine SatL.block ?_
      repeat refine SatL.seq ?_
      refine SatL.loopK [6, 7, 24, 25] (fun k0 s_ => ∃ (best_76 : Int) (most_77 : Int) (x_78 : Int), StLe s_ [(6, (int best_76)), (7, (int most_77)), (24, (.ag (List.map int votes_57))), (25, (int x_78))] [] 1 ∧ 0 ≤ x_78 ∧ k0 = Int.toNat (16 - x_78) ∧ sort_read_L1 votes_57 k0 best_76 most_77 x_78 = some o_74) (Int.toNat (16 - 0)) ?_ ?_
      · exact ⟨(-1), 0, 0, (StLe.of [] 1 rfl hs_nil (Nat.le_refl _)), (by omega), rfl, H1⟩
      rintro k0 s_ ⟨best_76, most_77, x_78, hs_, _, hk_, H1⟩
      refine SatL.le hs_ ?_
      clear hs_
      rcases k0 with _ | k0
      ·
        rw [sort_read_L1.eq_1] at H1
        repeat refine SatL.seq ?_
        refine SatL.reg [6, 7, 24, 25, 26] [some 26] rfl rfl fun K343 hK343 => ?_
        refine st (fun _ hk => s_bin rfl rfl (b_lss hk)) ?_
        refine aopsS_end (hK343 _ (SatL.norm (n := 1) (h := hl []) (env' := [(6, (int best_76)), (7, (int most_77)), (24, (.ag (List.map int votes_57))), (25, (int x_78)), (26, (bool (decide (x_78 < 16))))]) (L' := []) rfl hs_refl ?_))
        repeat refine SatL.seq ?_
        refine SatL.condF rfl (decide_eq_false (by omega)) ?_
        refine SatL.exit ?_
        simp only [thenQ, blockQ, if_true, reduceIte, Nat.reduceEqDiff]
        obtain rfl := Option.some.inj H1
        exact SatL.nil (thenN ⟨best_76, rfl, (StLe.of [] 1 rfl hs_nil (Nat.le_refl _))⟩)
      ·
        rw [sort_read_L1.eq_2] at H1
        repeat refine SatL.seq ?_
        refine SatL.reg [6, 7, 24, 25, 26] [some 26] rfl rfl fun K345 hK345 => ?_
        refine st (fun _ hk => s_bin rfl rfl (b_lss hk)) ?_
        refine aopsS_end (hK345 _ (SatL.norm (n := 1) (h := hl []) (env' := [(6, (int best_76)), (7, (int most_77)), (24, (.ag (List.map int votes_57))), (25, (int x_78)), (26, (bool (decide (x_78 < 16))))]) (L' := []) rfl hs_refl ?_))
        repeat refine SatL.seq ?_
        refine SatL.condT rfl (decide_eq_true (by omega)) ?_
        have hlt347 : (x_78 < 16) := by omega
        refine SatL.skip ?_
        repeat refine SatL.seq ?_
        refine SatL.block ?_
        repeat refine SatL.seq ?_
        refine SatL.reg [6, 7, 8, 9, 24, 25] [some 27, some 28, some 8, some 9] rfl rfl fun K348 hK348 => ?_
        refine st (fun _ hk => s_mv (v := (int x_78)) rfl hk) ?_
        obtain ⟨e_80, he_80, H1⟩ := bindS H1
        refine st (fun _ hk => s_ixAg arr_130 rfl rfl (gi_lt he_80).1 (ltl he_80 hlenvotes_57) cells_3 agg_3 (mapget1 he_80) hk) ?_
        refine st (fun _ hk => s_as (v := (int x_78)) rfl hk) ?_
        refine st (fun _ hk => s_as (v := (int e_80)) rfl hk) ?_
        refine aopsS_end (hK348 _ (SatL.norm (n := 1) (h := hl []) (env' := [(6, (int best_76)), (7, (int most_77)), (8, (int x_78)), (9, (int e_80)), (24, (.ag (List.map int votes_57))), (25, (int x_78))]) (L' := []) rfl hs_refl ?_))
        repeat refine SatL.seq ?_
        refine SatL.block ?_
        repeat refine SatL.seq ?_
        refine SatL.reg [6, 7, 8, 9, 24, 25, 29] [some 30, some 31, some 32, some 29] rfl rfl fun K353 hK353 => ?_
        refine st (fun _ hk => s_mv (v := (int e_80)) rfl hk) ?_
        refine st (fun _ hk => s_mv (v := (int most_77)) rfl hk) ?_
        refine st (fun _ hk => s_bin rfl rfl (b_gtr hk)) ?_
        refine st (fun _ hk => s_as (v := (bool (decide (most_77 < e_80)))) rfl hk) ?_
        refine aopsS_end (hK353 _ (SatL.norm (n := 1) (h := hl []) (env' := [(6, (int best_76)), (7, (int most_77)), (8, (int x_78)), (9, (int e_80)), (24, (.ag (List.map int votes_57))), (25, (int x_78)), (29, (bool (decide (most_77 < e_80))))]) (L' := []) rfl hs_refl ?_))
        repeat refine SatL.seq ?_
        refine SatL.condX rfl (fun hc358 => ?_) (fun hc358 => ?_)
        ·
          replace H1 := iteT H1 hc358
          repeat refine SatL.seq ?_
          refine SatL.rege [some 33, some 34, some 6, some 7] rfl rfl fun K359 hK359 => ?_
          refine st (fun _ hk => s_mv (v := (int x_78)) rfl hk) ?_
          refine st (fun _ hk => s_mv (v := (int e_80)) rfl hk) ?_
          refine st (fun _ hk => s_as (v := (int x_78)) rfl hk) ?_
          refine st (fun _ hk => s_as (v := (int e_80)) rfl hk) ?_
          refine aopsS_end (hK359 _ ?_)
          refine (blockN (thenN ?_))
          refine SatL.nil (blockN (thenN ?_))
          repeat refine SatL.seq ?_
          refine SatL.rege [some 39, some 25] rfl rfl fun K364 hK364 => ?_
          refine st (fun _ hk => s_bin rfl rfl (b_add64 hk)) ?_
          refine st (fun _ hk => s_mv (v := (int (w64 (x_78 + 1)))) rfl hk) ?_
          refine aopsS_end (hK364 _ ?_)
          have hw367 : w64 (x_78 + 1) = x_78 + 1 := w64_id (by omega) (by omega)
          exact (thenN ⟨k0, ⟨x_78, e_80, (w64 (x_78 + 1)), (StLe.of [] 1 rfl hs_nil (Nat.le_refl _)), (by omega), (by rw [hw367]; omega), (Eq.mpr (congrArg (fun q_ => sort_read_L1 votes_57 k0 x_78 e_80 q_ = some o_74) hw367) H1)⟩, by omega⟩)
        ·
          replace H1 := iteF H1 hc358
          repeat refine SatL.seq ?_
          refine SatL.reg [6, 7, 24, 25, 35] [some 36, some 37, some 38, some 35] rfl rfl fun K368 hK368 => ?_
          refine st (fun _ hk => s_mv (v := (int e_80)) rfl hk) ?_
          refine st (fun _ hk => s_mv (v := (int most_77)) rfl hk) ?_
          refine st (fun _ hk => s_bin rfl rfl (b_eql hk)) ?_
          refine st (fun _ hk => s_as (v := (bool (e_80 == most_77))) rfl hk) ?_
          refine aopsS_end (hK368 _ (SatL.norm (n := 1) (h := hl []) (env' := [(6, (int best_76)), (7, (int most_77)), (24, (.ag (List.map int votes_57))), (25, (int x_78)), (35, (bool (e_80 == most_77)))]) (L' := []) rfl hs_refl ?_))
          repeat refine SatL.seq ?_
          refine SatL.condX rfl (fun hc373 => ?_) (fun hc373 => ?_)
          ·
            replace H1 := iteT H1 hc373
            repeat refine SatL.seq ?_
            refine SatL.rege [some 6] rfl rfl fun K374 hK374 => ?_
            refine st (fun _ hk => s_as (v := (int (-1))) rfl hk) ?_
            refine aopsS_end (hK374 _ ?_)
            refine (blockN (thenN ?_))
            refine SatL.nil (blockN (thenN ?_))
            repeat refine SatL.seq ?_
            refine SatL.rege [some 39, some 25] rfl rfl fun K376 hK376 => ?_
            refine st (fun _ hk => s_bin rfl rfl (b_add64 hk)) ?_
            refine st (fun _ hk => s_mv (v := (int (w64 (x_78 + 1)))) rfl hk) ?_
            refine aopsS_end (hK376 _ ?_)
            have hw379 : w64 (x_78 + 1) = x_78 + 1 := w64_id (by omega) (by omega)
            exact (thenN ⟨k0, ⟨(-1), most_77, (w64 (x_78 + 1)), (StLe.of [] 1 rfl hs_nil (Nat.le_refl _)), (by omega), (by rw [hw379]; omega), (Eq.mpr (congrArg (fun q_ => sort_read_L1 votes_57 k0 ((-1)) most_77 q_ = some o_74) hw379) H1)⟩, by omega⟩)
          ·
            replace H1 := iteF H1 hc373
            refine SatL.skip ?_
            refine SatL.nil (blockN (thenN ?_))
            refine SatL.nil (blockN (thenN ?_))
            repeat refine SatL.seq ?_
            refine SatL.rege [some 39, some 25] rfl rfl fun K380 hK380 => ?_
            refine st (fun _ hk => s_bin rfl rfl (b_add64 hk)) ?_
            refine st (fun _ hk => s_mv (v := (int (w64 (x_78 + 1)))) rfl hk) ?_
            refine aopsS_end (hK380 _ ?_)
            have hw383 : w64 (x_78 + 1) = x_78 + 1 := w64_id (by omega) (by omega)
            exact (thenN ⟨k0, ⟨best_76, most_77, (w64 (x_78 + 1)), (StLe.of [] 1 rfl hs_nil (Nat.le_refl _)), (by omega), (by rw [hw383]; omega), (Eq.mpr (congrArg (fun q_ => sort_read_L1 votes_57 k0 best_76 most_77 q_ = some o_74) hw383) H1)⟩, by omega⟩)
    ·
      rintro s_ ⟨best_73, rfl, hs_⟩
      refine SatL.le hs_ ?_
      clear hs_
      replace H0 := un1S H0
      repeat refine SatL.seq ?_
      refine SatL.reg [2] [some 40, some 2] rfl rfl fun K384 hK384 => ?_
      refine st (fun _ hk => s_mv (v := (int best_73)) rfl hk) ?_
      refine st (fun _ hk => s_as (v := (int best_73)) rfl hk) ?_
      refine aopsS_end (hK384 _ (SatL.norm (n := 1) (h := hl []) (env' := [(2, (int best_73))]) (L' := []) rfl hs_refl ?_))
      obtain rfl := Option.some.inj H0
      exact SatL.ret (fnQ_snap [] (int best_73) (int best_73) rfl (Snap.free _ (.sc _)) rfl)

theorem sort_Read_PC {readings_16 : (List Int)} {r : (Int × Int)} (H0 : sort_Read readings_16 = some r) : PC Try.prog 16 [(.sl (List.map int1 readings_16))] (· = (.tp [(int r.1), (int r.2)])) := by
  unfold sort_Read at H0
  refine PC.of_bodyL [(0, (.sl (List.map int1 readings_16)))] Try.func16 rfl rfl (Nat.le_of_ble_eq_true rfl) rfl fun O => ?_
  repeat refine SatL.seq ?_
  refine SatL.reg [0] [some 2, some 3] rfl rfl fun K1 hK1 => ?_
  refine st (fun _ hk => s_as (v := (int 0)) rfl hk) ?_
  refine st (fun _ hk => s_as (v := (int 0)) rfl hk) ?_
  refine aopsS_end (hK1 _ (SatL.norm (n := 0) (h := hl []) (env' := [(0, (.sl (List.map int1 readings_16)))]) (L' := []) rfl hs_refl ?_))
  repeat refine SatL.seq ?_
  refine SatL.reg [0, 6] [some 4, some 5, some 6] rfl rfl fun K4 hK4 => ?_
  refine st (fun _ hk => s_mv (v := (.sl (List.map int1 readings_16))) rfl hk) ?_
  obtain ⟨r_47, hr_47, H0⟩ := bindS H0
  refine st (fun _ hk => s_call (avs := [(.sl (List.map int1 readings_16))]) rfl rfl rfl (PC.call1 (sort_said_PC hr_47) (FreeL.cons (Free.slm fr_int1) FreeL.nil) hk)) ?_
  refine st (fun _ hk => s_not rfl hk) ?_
  refine aopsS_end (hK4 _ (SatL.norm (n := 0) (h := hl []) (env' := [(0, (.sl (List.map int1 readings_16))), (6, (bool (!r_47)))]) (L' := []) rfl hs_refl ?_))
  repeat refine SatL.seq ?_
  refine SatL.condX rfl (fun hc8 => ?_) (fun hc8 => ?_)
  ·
    replace H0 := iteT H0 hc8
    repeat refine SatL.seq ?_
    refine SatL.reg [2, 3] [some 2, some 3] rfl rfl fun K9 hK9 => ?_
    refine st (fun _ hk => s_as (v := (int 0)) rfl hk) ?_
    refine st (fun _ hk => s_as (v := (int 2)) rfl hk) ?_
    refine aopsS_end (hK9 _ (SatL.norm (n := 0) (h := hl []) (env' := [(2, (int 0)), (3, (int 2))]) (L' := []) rfl hs_refl ?_))
    obtain rfl := Option.some.inj H0
    exact SatL.ret (fnQ_snap [] (.tp [(int 0), (int 2)]) (.tp [(int 0), (int 2)]) rfl (Snap.tpL (SnapL.cons (Snap.free _ (.sc _)) (SnapL.cons (Snap.free _ (.sc _)) SnapL.nil))) rfl)
  ·
    replace H0 := iteF H0 hc8
    refine SatL.skip ?_
    repeat refine SatL.seq ?_
    refine SatL.reg [2, 3] [some 7, some 8, some 2, some 3] rfl rfl fun K12 hK12 => ?_
    refine st (fun _ hk => s_mv (v := (.sl (List.map int1 readings_16))) rfl hk) ?_
    obtain ⟨r_81, hr_81, H0⟩ := bindS H0
    refine st (fun _ hk => s_call (avs := [(.sl (List.map int1 readings_16))]) rfl rfl rfl (PC.call1 (sort_read_PC hr_81) (FreeL.cons (Free.slm fr_int1) FreeL.nil) hk)) ?_
    refine st (fun _ hk => s_as (v := (int r_81)) rfl hk) ?_
    refine st (fun _ hk => s_as (v := (int 0)) rfl hk) ?_
    refine aopsS_end (hK12 _ (SatL.norm (n := 0) (h := hl []) (env' := [(2, (int r_81)), (3, (int 0))]) (L' := []) rfl hs_refl ?_))
    obtain rfl := Option.some.inj H0
    exact SatL.ret (fnQ_snap [] (.tp [(int r_81), (int 0)]) (.tp [(int r_81), (int 0)]) rfl (Snap.tpL (SnapL.cons (Snap.free _ (.sc _)) (SnapL.cons (Snap.free _ (.sc _)) SnapL.nil))) rfl)

theorem ref09_within_PC {n_86 : Int} {lo_87 : Int} {hi_88 : Int} {r : Bool} (H0 : ref09_within n_86 lo_87 hi_88 = some r) : PC Try.prog 57 [(int n_86), (int lo_87), (int hi_88)] (· = (bool r)) := by
  unfold ref09_within at H0
  refine PC.of_bodyL [(0, (int n_86)), (1, (int lo_87)), (2, (int hi_88))] Try.func57 rfl rfl (Nat.le_of_ble_eq_true rfl) rfl fun O => ?_
  repeat refine SatL.seq ?_
  refine SatL.reg [0, 1, 2] [some 6] rfl rfl fun K1 hK1 => ?_
  refine st (fun _ hk => s_as (v := (bool false)) rfl hk) ?_
  refine aopsS_end (hK1 _ (SatL.norm (n := 0) (h := hl []) (env' := [(0, (int n_86)), (1, (int lo_87)), (2, (int hi_88))]) (L' := []) rfl hs_refl ?_))
  repeat refine SatL.seq ?_
  refine SatL.reg [6] [some 7, some 8, some 9, some 10, some 11, some 12, some 13, some 14, some 6] rfl rfl fun K3 hK3 => ?_
  refine st (fun _ hk => s_mv (v := (int n_86)) rfl hk) ?_
  refine st (fun _ hk => s_mv (v := (int lo_87)) rfl hk) ?_
  refine st (fun _ hk => s_bin rfl rfl (b_geq hk)) ?_
  refine st (fun _ hk => s_mv (v := (bool (decide (lo_87 ≤ n_86)))) rfl hk) ?_
  refine aopsS_split rfl _ rfl (fun g8 => ?_) (fun g8 => ?_)
  ·
    replace H0 := iteT H0 (by simpa using g8)
    refine sx (fun _ hk => s_mv (v := (int n_86)) rfl hk) ?_
    refine sg rfl rfl (fun _ hk => s_mv (v := (int hi_88)) rfl hk) ?_
    refine sg rfl rfl (fun _ hk => s_bin rfl rfl (b_leq hk)) ?_
    refine st (fun _ hk => s_pickT (v := (bool (decide (n_86 ≤ hi_88)))) rfl rfl hk) ?_
    refine st (fun _ hk => s_as (v := (bool (decide (n_86 ≤ hi_88)))) rfl hk) ?_
    refine aopsS_end (hK3 _ (SatL.norm (n := 0) (h := hl []) (env' := [(6, (bool (decide (n_86 ≤ hi_88))))]) (L' := []) rfl hs_refl ?_))
    obtain rfl := Option.some.inj H0
    exact SatL.ret (fnQ_snap [] (bool (decide (n_86 ≤ hi_88))) (bool (decide (n_86 ≤ hi_88))) rfl (Snap.free _ (.sc _)) rfl)
  ·
    replace H0 := iteF H0 (by simpa using g8)
    refine aopsS_off rfl rfl ?_
    refine aopsS_off rfl rfl ?_
    refine st (fun _ hk => s_pickF (v := (bool false)) rfl rfl hk) ?_
    refine st (fun _ hk => s_as (v := (bool false)) rfl hk) ?_
    refine aopsS_end (hK3 _ (SatL.norm (n := 0) (h := hl []) (env' := [(6, (bool false))]) (L' := []) rfl hs_refl ?_))
    obtain rfl := Option.some.inj H0
    exact SatL.ret (fnQ_snap [] (bool false) (bool false) rfl (Snap.free _ (.sc _)) rfl)

theorem ref09_Said_PC {l_85 : (List Int)} {r : Bool} (H0 : ref09_Said l_85 = some r) : PC Try.prog 52 [(.sl (List.map int1 l_85))] (· = (bool r)) := by
  unfold ref09_Said at H0
  refine PC.of_bodyL [(0, (.sl (List.map int1 l_85)))] Try.func52 rfl rfl (Nat.le_of_ble_eq_true rfl) rfl fun O => ?_
  repeat refine SatL.seq ?_
  refine SatL.reg [0] [some 2] rfl rfl fun K1 hK1 => ?_
  refine st (fun _ hk => s_as (v := (bool false)) rfl hk) ?_
  refine aopsS_end (hK1 _ (SatL.norm (n := 0) (h := hl []) (env' := [(0, (.sl (List.map int1 l_85)))]) (L' := []) rfl hs_refl ?_))
  repeat refine SatL.seq ?_
  refine SatL.reg [0, 7] [some 4, some 5, some 6, some 7] rfl rfl fun K3 hK3 => ?_
  refine st (fun _ hk => s_mv (v := (.sl (List.map int1 l_85))) rfl hk) ?_
  refine aopsS_step fun _ hK => s_lenSl elem_23 rfl (fun hl5 => hK _ _ _ ?_)
  clear hK
  obtain ⟨r_89, hr_89, H0⟩ := bindS H0
  refine st (fun _ hk => s_call (avs := [(int (List.length l_85 : Int)), (int 1), (int 9)]) rfl rfl rfl (PC.call1 (ref09_within_PC hr_89) (FreeL.cons (.sc _) (FreeL.cons (.sc _) (FreeL.cons (.sc _) FreeL.nil))) hk)) ?_
  refine st (fun _ hk => s_not rfl hk) ?_
  refine aopsS_end (hK3 _ (SatL.norm (n := 0) (h := hl []) (env' := [(0, (.sl (List.map int1 l_85))), (7, (bool (!r_89)))]) (L' := []) rfl hs_refl ?_))
  repeat refine SatL.seq ?_
  refine SatL.condX rfl (fun hc8 => ?_) (fun hc8 => ?_)
  ·
    replace H0 := iteT H0 hc8
    repeat refine SatL.seq ?_
    refine SatL.reg [2] [some 2] rfl rfl fun K9 hK9 => ?_
    refine st (fun _ hk => s_as (v := (bool false)) rfl hk) ?_
    refine aopsS_end (hK9 _ (SatL.norm (n := 0) (h := hl []) (env' := [(2, (bool false))]) (L' := []) rfl hs_refl ?_))
    obtain rfl := Option.some.inj H0
    exact SatL.ret (fnQ_snap [] (bool false) (bool false) rfl (Snap.free _ (.sc _)) rfl)
  ·
    replace H0 := iteF H0 hc8
    refine SatL.skip ?_
    repeat refine SatL.seq ?_
    refine SatL.reg [0, 3] [some 3] rfl rfl fun K11 hK11 => ?_
    refine st (fun _ hk => s_as (v := (int 0)) rfl hk) ?_
    refine aopsS_end (hK11 _ (SatL.norm (n := 0) (h := hl []) (env' := [(0, (.sl (List.map int1 l_85))), (3, (int 0))]) (L' := []) rfl hs_refl ?_))
    repeat refine SatL.seq ?_
    obtain ⟨o_97, H1, H0⟩ := bindS H0
    refine SatL.mid [] (fun s_ => (Sum.inr ()) = o_97 ∧ StLe s_ [] [] 0) ?_ ?_
    ·
      repeat refine SatL.seq ?_
      refine SatL.block ?_
      repeat refine SatL.seq ?_
      refine SatL.loopK [0, 3] (fun k0 s_ => ∃ (i_100 : Int), StLe s_ [(0, (.sl (List.map int1 l_85))), (3, (int i_100))] [] 0 ∧ 0 ≤ i_100 ∧ k0 = Int.toNat ((List.length l_85 : Int) - i_100) ∧ ref09_Said_L0 l_85 k0 i_100 = some o_97) (Int.toNat ((List.length l_85 : Int) - 0)) ?_ ?_
      · exact ⟨0, (StLe.of [] 0 rfl hs_nil (Nat.le_refl _)), (by omega), rfl, H1⟩
      rintro k0 s_ ⟨i_100, hs_, _, hk_, H1⟩
      refine SatL.le hs_ ?_
      clear hs_
      rcases k0 with _ | k0
      ·
        rw [ref09_Said_L0.eq_1] at H1
        repeat refine SatL.seq ?_
        refine SatL.reg [0, 3, 11] [some 8, some 9, some 10, some 11] rfl rfl fun K113 hK113 => ?_
        refine st (fun _ hk => s_mv (v := (int i_100)) rfl hk) ?_
        refine st (fun _ hk => s_mv (v := (.sl (List.map int1 l_85))) rfl hk) ?_
        refine aopsS_step fun _ hK => s_lenSl elem_23 rfl (fun hl116 => hK _ _ _ ?_)
        clear hK
        refine st (fun _ hk => s_bin rfl rfl (b_lss hk)) ?_
        refine aopsS_end (hK113 _ (SatL.norm (n := 0) (h := hl []) (env' := [(0, (.sl (List.map int1 l_85))), (3, (int i_100)), (11, (bool (decide (i_100 < (List.length l_85 : Int)))))]) (L' := []) rfl hs_refl ?_))
        repeat refine SatL.seq ?_
        refine SatL.condF rfl (decide_eq_false (by omega)) ?_
        refine SatL.exit ?_
        simp only [thenQ, blockQ, if_true, reduceIte, Nat.reduceEqDiff]
        obtain rfl := Option.some.inj H1
        exact SatL.nil (thenN ⟨rfl, (StLe.of [] 0 rfl hs_nil (Nat.le_refl _))⟩)
      ·
        rw [ref09_Said_L0.eq_2] at H1
        repeat refine SatL.seq ?_
        refine SatL.reg [0, 3, 11] [some 8, some 9, some 10, some 11] rfl rfl fun K118 hK118 => ?_
        refine st (fun _ hk => s_mv (v := (int i_100)) rfl hk) ?_
        refine st (fun _ hk => s_mv (v := (.sl (List.map int1 l_85))) rfl hk) ?_
        refine aopsS_step fun _ hK => s_lenSl elem_23 rfl (fun hl121 => hK _ _ _ ?_)
        clear hK
        refine st (fun _ hk => s_bin rfl rfl (b_lss hk)) ?_
        refine aopsS_end (hK118 _ (SatL.norm (n := 0) (h := hl []) (env' := [(0, (.sl (List.map int1 l_85))), (3, (int i_100)), (11, (bool (decide (i_100 < (List.length l_85 : Int)))))]) (L' := []) rfl hs_refl ?_))
        repeat refine SatL.seq ?_
        refine SatL.condT rfl (decide_eq_true (by omega)) ?_
        have hlt123 : (i_100 < (List.length l_85 : Int)) := by omega
        refine SatL.skip ?_
        repeat refine SatL.seq ?_
        refine SatL.block ?_
        repeat refine SatL.seq ?_
        refine SatL.reg [0, 3, 19] [some 14, some 15, some 16, some 17, some 18, some 19] rfl rfl fun K124 hK124 => ?_
        refine st (fun _ hk => s_mv (v := (.sl (List.map int1 l_85))) rfl hk) ?_
        refine st (fun _ hk => s_mv (v := (int i_100)) rfl hk) ?_
        obtain ⟨e_103, he_103, H1⟩ := bindS H1
        refine st (fun _ hk => s_ixSl elem_23 rfl rfl he_103 cells_3 rfl (by decide) hk) ?_
        refine st (fun _ hk => s_load1 (c := (int e_103)) agg_3 (d_fp rfl) rfl hk) ?_
        obtain ⟨r_104, hr_104, H1⟩ := bindS H1
        refine st (fun _ hk => s_call (avs := [(int e_103), (int (-1)), (int 15)]) rfl rfl rfl (PC.call1 (ref09_within_PC hr_104) (FreeL.cons (.sc _) (FreeL.cons (.sc _) (FreeL.cons (.sc _) FreeL.nil))) hk)) ?_
        refine st (fun _ hk => s_not rfl hk) ?_
        refine aopsS_end (hK124 _ (SatL.norm (n := 0) (h := hl []) (env' := [(0, (.sl (List.map int1 l_85))), (3, (int i_100)), (19, (bool (!r_104)))]) (L' := []) rfl hs_refl ?_))
        repeat refine SatL.seq ?_
        refine SatL.condX rfl (fun hc131 => ?_) (fun hc131 => ?_)
        ·
          replace H1 := iteT H1 hc131
          repeat refine SatL.seq ?_
          refine SatL.reg [2] [some 2] rfl rfl fun K132 hK132 => ?_
          refine st (fun _ hk => s_as (v := (bool false)) rfl hk) ?_
          refine aopsS_end (hK132 _ (SatL.norm (n := 0) (h := hl []) (env' := [(2, (bool false))]) (L' := []) rfl hs_refl ?_))
          obtain rfl := Option.some.inj H1
          obtain rfl := Option.some.inj H0
          exact SatL.ret (fnQ_snap [] (bool false) (bool false) rfl (Snap.free _ (.sc _)) rfl)
        ·
          replace H1 := iteF H1 hc131
          refine SatL.skip ?_
          refine SatL.nil (blockN (thenN ?_))
          repeat refine SatL.seq ?_
          refine SatL.rege [some 12, some 13, some 3] rfl rfl fun K134 hK134 => ?_
          refine st (fun _ hk => s_mv (v := (int i_100)) rfl hk) ?_
          refine st (fun _ hk => s_bin rfl rfl (b_add64 hk)) ?_
          refine st (fun _ hk => s_as (v := (int (w64 (i_100 + 1)))) rfl hk) ?_
          refine aopsS_end (hK134 _ ?_)
          have hw138 : w64 (i_100 + 1) = i_100 + 1 := w64_id (by omega) (by omega)
          exact (thenN ⟨k0, ⟨(w64 (i_100 + 1)), (StLe.of [] 0 rfl hs_nil (Nat.le_refl _)), (by omega), (by rw [hw138]; omega), (Eq.mpr (congrArg (fun q_ => ref09_Said_L0 l_85 k0 q_ = some o_97) hw138) H1)⟩, by omega⟩)
    ·
      rintro s_ ⟨rfl, hs_⟩
      refine SatL.le hs_ ?_
      clear hs_
      replace H0 := sumun0S H0
      repeat refine SatL.seq ?_
      refine SatL.reg [2] [some 2] rfl rfl fun K139 hK139 => ?_
      refine st (fun _ hk => s_as (v := (bool true)) rfl hk) ?_
      refine aopsS_end (hK139 _ (SatL.norm (n := 0) (h := hl []) (env' := [(2, (bool true))]) (L' := []) rfl hs_refl ?_))
      obtain rfl := Option.some.inj H0
      exact SatL.ret (fnQ_snap [] (bool true) (bool true) rfl (Snap.free _ (.sc _)) rfl)

theorem ref09_votes_PC {l_107 : (List Int)} {kind_108 : Int} {r : Int} (H0 : ref09_votes l_107 kind_108 = some r) : PC Try.prog 80 [(.sl (List.map int1 l_107)), (int kind_108)] (· = (int r)) := by
  unfold ref09_votes at H0
  refine PC.of_bodyL [(0, (.sl (List.map int1 l_107))), (1, (int kind_108))] Try.func80 rfl rfl (Nat.le_of_ble_eq_true rfl) rfl fun O => ?_
  repeat refine SatL.seq ?_
  refine SatL.reg [0, 1] [some 4] rfl rfl fun K1 hK1 => ?_
  refine st (fun _ hk => s_as (v := (int 0)) rfl hk) ?_
  refine aopsS_end (hK1 _ (SatL.norm (n := 0) (h := hl []) (env' := [(0, (.sl (List.map int1 l_107))), (1, (int kind_108))]) (L' := []) rfl hs_refl ?_))
  repeat refine SatL.seq ?_
  refine SatL.reg [0, 1, 5] [some 5] rfl rfl fun K3 hK3 => ?_
  refine st (fun _ hk => s_as (v := (int 0)) rfl hk) ?_
  refine aopsS_end (hK3 _ (SatL.norm (n := 0) (h := hl []) (env' := [(0, (.sl (List.map int1 l_107))), (1, (int kind_108)), (5, (int 0))]) (L' := []) rfl hs_refl ?_))
  repeat refine SatL.seq ?_
  refine SatL.reg [0, 1, 5, 6] [some 6] rfl rfl fun K5 hK5 => ?_
  refine st (fun _ hk => s_as (v := (int 0)) rfl hk) ?_
  refine aopsS_end (hK5 _ (SatL.norm (n := 0) (h := hl []) (env' := [(0, (.sl (List.map int1 l_107))), (1, (int kind_108)), (5, (int 0)), (6, (int 0))]) (L' := []) rfl hs_refl ?_))
  repeat refine SatL.seq ?_
  obtain ⟨o_115, H1, H0⟩ := bindS H0
  refine SatL.mid [5] (fun s_ => ∃ (n_114 : Int), n_114 = o_115 ∧ StLe s_ [(5, (int n_114))] [] 0) ?_ ?_
  ·
    repeat refine SatL.seq ?_
    refine SatL.block ?_
    repeat refine SatL.seq ?_
    refine SatL.loopK [0, 1, 5, 6] (fun k0 s_ => ∃ (n_117 : Int) (i_118 : Int), StLe s_ [(0, (.sl (List.map int1 l_107))), (1, (int kind_108)), (5, (int n_117)), (6, (int i_118))] [] 0 ∧ 0 ≤ i_118 ∧ k0 = Int.toNat ((List.length l_107 : Int) - i_118) ∧ ref09_votes_L0 l_107 kind_108 k0 n_117 i_118 = some o_115) (Int.toNat ((List.length l_107 : Int) - 0)) ?_ ?_
    · exact ⟨0, 0, (StLe.of [] 0 rfl hs_nil (Nat.le_refl _)), (by omega), rfl, H1⟩
    rintro k0 s_ ⟨n_117, i_118, hs_, _, hk_, H1⟩
    refine SatL.le hs_ ?_
    clear hs_
    rcases k0 with _ | k0
    ·
      rw [ref09_votes_L0.eq_1] at H1
      repeat refine SatL.seq ?_
      refine SatL.reg [0, 1, 5, 6, 10] [some 7, some 8, some 9, some 10] rfl rfl fun K137 hK137 => ?_
      refine st (fun _ hk => s_mv (v := (int i_118)) rfl hk) ?_
      refine st (fun _ hk => s_mv (v := (.sl (List.map int1 l_107))) rfl hk) ?_
      refine aopsS_step fun _ hK => s_lenSl elem_23 rfl (fun hl140 => hK _ _ _ ?_)
      clear hK
      refine st (fun _ hk => s_bin rfl rfl (b_lss hk)) ?_
      refine aopsS_end (hK137 _ (SatL.norm (n := 0) (h := hl []) (env' := [(0, (.sl (List.map int1 l_107))), (1, (int kind_108)), (5, (int n_117)), (6, (int i_118)), (10, (bool (decide (i_118 < (List.length l_107 : Int)))))]) (L' := []) rfl hs_refl ?_))
      repeat refine SatL.seq ?_
      refine SatL.condF rfl (decide_eq_false (by omega)) ?_
      refine SatL.exit ?_
      simp only [thenQ, blockQ, if_true, reduceIte, Nat.reduceEqDiff]
      obtain rfl := Option.some.inj H1
      exact SatL.nil (thenN ⟨n_117, rfl, (StLe.of [] 0 rfl hs_nil (Nat.le_refl _))⟩)
    ·
      rw [ref09_votes_L0.eq_2] at H1
      repeat refine SatL.seq ?_
      refine SatL.reg [0, 1, 5, 6, 10] [some 7, some 8, some 9, some 10] rfl rfl fun K142 hK142 => ?_
      refine st (fun _ hk => s_mv (v := (int i_118)) rfl hk) ?_
      refine st (fun _ hk => s_mv (v := (.sl (List.map int1 l_107))) rfl hk) ?_
      refine aopsS_step fun _ hK => s_lenSl elem_23 rfl (fun hl145 => hK _ _ _ ?_)
      clear hK
      refine st (fun _ hk => s_bin rfl rfl (b_lss hk)) ?_
      refine aopsS_end (hK142 _ (SatL.norm (n := 0) (h := hl []) (env' := [(0, (.sl (List.map int1 l_107))), (1, (int kind_108)), (5, (int n_117)), (6, (int i_118)), (10, (bool (decide (i_118 < (List.length l_107 : Int)))))]) (L' := []) rfl hs_refl ?_))
      repeat refine SatL.seq ?_
      refine SatL.condT rfl (decide_eq_true (by omega)) ?_
      have hlt147 : (i_118 < (List.length l_107 : Int)) := by omega
      refine SatL.skip ?_
      repeat refine SatL.seq ?_
      refine SatL.block ?_
      repeat refine SatL.seq ?_
      refine SatL.reg [0, 1, 5, 6, 18] [some 13, some 14, some 15, some 16, some 17, some 18] rfl rfl fun K148 hK148 => ?_
      refine st (fun _ hk => s_mv (v := (.sl (List.map int1 l_107))) rfl hk) ?_
      refine st (fun _ hk => s_mv (v := (int i_118)) rfl hk) ?_
      obtain ⟨e_120, he_120, H1⟩ := bindS H1
      refine st (fun _ hk => s_ixSl elem_23 rfl rfl he_120 cells_3 rfl (by decide) hk) ?_
      refine st (fun _ hk => s_load1 (c := (int e_120)) agg_3 (d_fp rfl) rfl hk) ?_
      refine st (fun _ hk => s_mv (v := (int kind_108)) rfl hk) ?_
      refine st (fun _ hk => s_bin rfl rfl (b_eql hk)) ?_
      refine aopsS_end (hK148 _ (SatL.norm (n := 0) (h := hl []) (env' := [(0, (.sl (List.map int1 l_107))), (1, (int kind_108)), (5, (int n_117)), (6, (int i_118)), (18, (bool (e_120 == kind_108)))]) (L' := []) rfl hs_refl ?_))
      repeat refine SatL.seq ?_
      refine SatL.condX rfl (fun hc155 => ?_) (fun hc155 => ?_)
      ·
        replace H1 := iteT H1 hc155
        repeat refine SatL.seq ?_
        refine SatL.rege [some 19, some 20, some 5] rfl rfl fun K156 hK156 => ?_
        refine st (fun _ hk => s_mv (v := (int n_117)) rfl hk) ?_
        refine st (fun _ hk => s_bin rfl rfl (b_add64 hk)) ?_
        refine st (fun _ hk => s_as (v := (int (w64 (n_117 + 1)))) rfl hk) ?_
        refine aopsS_end (hK156 _ ?_)
        refine (blockN (thenN ?_))
        refine SatL.forget [0, 1, 5, 6] (SatL.norm (n := 0) (h := hl []) (env' := [(0, (.sl (List.map int1 l_107))), (1, (int kind_108)), (5, (int (w64 (n_117 + 1)))), (6, (int i_118))]) (L' := []) rfl hs_refl ?_)
        repeat refine SatL.seq ?_
        refine SatL.rege [some 11, some 12, some 6] rfl rfl fun K160 hK160 => ?_
        refine st (fun _ hk => s_mv (v := (int i_118)) rfl hk) ?_
        refine st (fun _ hk => s_bin rfl rfl (b_add64 hk)) ?_
        refine st (fun _ hk => s_as (v := (int (w64 (i_118 + 1)))) rfl hk) ?_
        refine aopsS_end (hK160 _ ?_)
        have hw164 : w64 (i_118 + 1) = i_118 + 1 := w64_id (by omega) (by omega)
        exact (thenN ⟨k0, ⟨(w64 (n_117 + 1)), (w64 (i_118 + 1)), (StLe.of [] 0 rfl hs_nil (Nat.le_refl _)), (by omega), (by rw [hw164]; omega), (Eq.mpr (congrArg (fun q_ => ref09_votes_L0 l_107 kind_108 k0 ((w64 (n_117 + 1))) q_ = some o_115) hw164) H1)⟩, by omega⟩)
      ·
        replace H1 := iteF H1 hc155
        refine SatL.skip ?_
        refine SatL.nil (blockN (thenN ?_))
        repeat refine SatL.seq ?_
        refine SatL.rege [some 11, some 12, some 6] rfl rfl fun K165 hK165 => ?_
        refine st (fun _ hk => s_mv (v := (int i_118)) rfl hk) ?_
        refine st (fun _ hk => s_bin rfl rfl (b_add64 hk)) ?_
        refine st (fun _ hk => s_as (v := (int (w64 (i_118 + 1)))) rfl hk) ?_
        refine aopsS_end (hK165 _ ?_)
        have hw169 : w64 (i_118 + 1) = i_118 + 1 := w64_id (by omega) (by omega)
        exact (thenN ⟨k0, ⟨n_117, (w64 (i_118 + 1)), (StLe.of [] 0 rfl hs_nil (Nat.le_refl _)), (by omega), (by rw [hw169]; omega), (Eq.mpr (congrArg (fun q_ => ref09_votes_L0 l_107 kind_108 k0 n_117 q_ = some o_115) hw169) H1)⟩, by omega⟩)
  ·
    rintro s_ ⟨n_114, rfl, hs_⟩
    refine SatL.le hs_ ?_
    clear hs_
    replace H0 := un1S H0
    repeat refine SatL.seq ?_
    refine SatL.reg [4] [some 21, some 4] rfl rfl fun K170 hK170 => ?_
    refine st (fun _ hk => s_mv (v := (int n_114)) rfl hk) ?_
    refine st (fun _ hk => s_as (v := (int n_114)) rfl hk) ?_
    refine aopsS_end (hK170 _ (SatL.norm (n := 0) (h := hl []) (env' := [(4, (int n_114))]) (L' := []) rfl hs_refl ?_))
    obtain rfl := Option.some.inj H0
    exact SatL.ret (fnQ_snap [] (int n_114) (int n_114) rfl (Snap.free _ (.sc _)) rfl)

theorem ref09_Seen_PC {l_106 : (List Int)} {r : Int} (H0 : ref09_Seen l_106 = some r) : PC Try.prog 53 [(.sl (List.map int1 l_106))] (· = (int r)) := by
  unfold ref09_Seen at H0
  refine PC.of_bodyL [(0, (.sl (List.map int1 l_106)))] Try.func53 rfl rfl (Nat.le_of_ble_eq_true rfl) rfl fun O => ?_
  repeat refine SatL.seq ?_
  refine SatL.reg [0] [some 2] rfl rfl fun K1 hK1 => ?_
  refine st (fun _ hk => s_as (v := (int 0)) rfl hk) ?_
  refine aopsS_end (hK1 _ (SatL.norm (n := 0) (h := hl []) (env' := [(0, (.sl (List.map int1 l_106)))]) (L' := []) rfl hs_refl ?_))
  repeat refine SatL.seq ?_
  refine SatL.reg [0, 3, 4, 5] [some 3, some 4, some 5] rfl rfl fun K3 hK3 => ?_
  refine st (fun _ hk => s_as (v := (int (-1))) rfl hk) ?_
  refine st (fun _ hk => s_as (v := (int 0)) rfl hk) ?_
  refine st (fun _ hk => s_as (v := (bool false)) rfl hk) ?_
  refine aopsS_end (hK3 _ (SatL.norm (n := 0) (h := hl []) (env' := [(0, (.sl (List.map int1 l_106))), (3, (int (-1))), (4, (int 0)), (5, (bool false))]) (L' := []) rfl hs_refl ?_))
  repeat refine SatL.seq ?_
  refine SatL.reg [0, 3, 4, 5, 6] [some 6] rfl rfl fun K7 hK7 => ?_
  refine st (fun _ hk => s_as (v := (int 0)) rfl hk) ?_
  refine aopsS_end (hK7 _ (SatL.norm (n := 0) (h := hl []) (env' := [(0, (.sl (List.map int1 l_106))), (3, (int (-1))), (4, (int 0)), (5, (bool false)), (6, (int 0))]) (L' := []) rfl hs_refl ?_))
  repeat refine SatL.seq ?_
  obtain ⟨o_131, H1, H0⟩ := bindS H0
  refine SatL.mid [3, 4, 5] (fun s_ => ∃ (best_128 : Int) (most_129 : Int) (equal_130 : Bool), (best_128, most_129, equal_130) = o_131 ∧ StLe s_ [(3, (int best_128)), (4, (int most_129)), (5, (bool equal_130))] [] 0) ?_ ?_
  ·
    repeat refine SatL.seq ?_
    refine SatL.block ?_
    repeat refine SatL.seq ?_
    refine SatL.loopK [0, 3, 4, 5, 6] (fun k0 s_ => ∃ (best_133 : Int) (most_134 : Int) (equal_135 : Bool) (kind_136 : Int), StLe s_ [(0, (.sl (List.map int1 l_106))), (3, (int best_133)), (4, (int most_134)), (5, (bool equal_135)), (6, (int kind_136))] [] 0 ∧ 0 ≤ kind_136 ∧ k0 = Int.toNat (16 - kind_136) ∧ ref09_Seen_L0 l_106 k0 best_133 most_134 equal_135 kind_136 = some o_131) (Int.toNat (16 - 0)) ?_ ?_
    · exact ⟨(-1), 0, false, 0, (StLe.of [] 0 rfl hs_nil (Nat.le_refl _)), (by omega), rfl, H1⟩
    rintro k0 s_ ⟨best_133, most_134, equal_135, kind_136, hs_, _, hk_, H1⟩
    refine SatL.le hs_ ?_
    clear hs_
    rcases k0 with _ | k0
    ·
      rw [ref09_Seen_L0.eq_1] at H1
      repeat refine SatL.seq ?_
      refine SatL.reg [0, 3, 4, 5, 6, 9] [some 8, some 9] rfl rfl fun K204 hK204 => ?_
      refine st (fun _ hk => s_mv (v := (int kind_136)) rfl hk) ?_
      refine st (fun _ hk => s_bin rfl rfl (b_lss hk)) ?_
      refine aopsS_end (hK204 _ (SatL.norm (n := 0) (h := hl []) (env' := [(0, (.sl (List.map int1 l_106))), (3, (int best_133)), (4, (int most_134)), (5, (bool equal_135)), (6, (int kind_136)), (9, (bool (decide (kind_136 < 16))))]) (L' := []) rfl hs_refl ?_))
      repeat refine SatL.seq ?_
      refine SatL.condF rfl (decide_eq_false (by omega)) ?_
      refine SatL.exit ?_
      simp only [thenQ, blockQ, if_true, reduceIte, Nat.reduceEqDiff]
      obtain rfl := Option.some.inj H1
      exact SatL.nil (thenN ⟨best_133, most_134, equal_135, rfl, (StLe.of [] 0 rfl hs_nil (Nat.le_refl _))⟩)
    ·
      rw [ref09_Seen_L0.eq_2] at H1
      repeat refine SatL.seq ?_
      refine SatL.reg [0, 3, 4, 5, 6, 9] [some 8, some 9] rfl rfl fun K207 hK207 => ?_
      refine st (fun _ hk => s_mv (v := (int kind_136)) rfl hk) ?_
      refine st (fun _ hk => s_bin rfl rfl (b_lss hk)) ?_
      refine aopsS_end (hK207 _ (SatL.norm (n := 0) (h := hl []) (env' := [(0, (.sl (List.map int1 l_106))), (3, (int best_133)), (4, (int most_134)), (5, (bool equal_135)), (6, (int kind_136)), (9, (bool (decide (kind_136 < 16))))]) (L' := []) rfl hs_refl ?_))
      repeat refine SatL.seq ?_
      refine SatL.condT rfl (decide_eq_true (by omega)) ?_
      have hlt210 : (kind_136 < 16) := by omega
      refine SatL.skip ?_
      repeat refine SatL.seq ?_
      refine SatL.block ?_
      repeat refine SatL.seq ?_
      refine SatL.reg [0, 3, 4, 5, 6, 7] [some 12, some 13, some 14, some 7] rfl rfl fun K211 hK211 => ?_
      refine st (fun _ hk => s_mv (v := (.sl (List.map int1 l_106))) rfl hk) ?_
      refine st (fun _ hk => s_mv (v := (int kind_136)) rfl hk) ?_
      obtain ⟨r_138, hr_138, H1⟩ := bindS H1
      refine st (fun _ hk => s_call (avs := [(.sl (List.map int1 l_106)), (int kind_136)]) rfl rfl rfl (PC.call1 (ref09_votes_PC hr_138) (FreeL.cons (Free.slm fr_int1) (FreeL.cons (.sc _) FreeL.nil)) hk)) ?_
      refine st (fun _ hk => s_as (v := (int r_138)) rfl hk) ?_
      refine aopsS_end (hK211 _ (SatL.norm (n := 0) (h := hl []) (env' := [(0, (.sl (List.map int1 l_106))), (3, (int best_133)), (4, (int most_134)), (5, (bool equal_135)), (6, (int kind_136)), (7, (int r_138))]) (L' := []) rfl hs_refl ?_))
      repeat refine SatL.seq ?_
      refine SatL.reg [0, 3, 4, 5, 6, 7, 17] [some 15, some 16, some 17] rfl rfl fun K216 hK216 => ?_
      refine st (fun _ hk => s_mv (v := (int r_138)) rfl hk) ?_
      refine st (fun _ hk => s_mv (v := (int most_134)) rfl hk) ?_
      refine st (fun _ hk => s_bin rfl rfl (b_gtr hk)) ?_
      refine aopsS_end (hK216 _ (SatL.norm (n := 0) (h := hl []) (env' := [(0, (.sl (List.map int1 l_106))), (3, (int best_133)), (4, (int most_134)), (5, (bool equal_135)), (6, (int kind_136)), (7, (int r_138)), (17, (bool (decide (most_134 < r_138))))]) (L' := []) rfl hs_refl ?_))
      repeat refine SatL.seq ?_
      refine SatL.condX rfl (fun hc220 => ?_) (fun hc220 => ?_)
      ·
        replace H1 := iteT H1 hc220
        repeat refine SatL.seq ?_
        refine SatL.rege [some 18, some 19, some 3, some 4, some 5] rfl rfl fun K221 hK221 => ?_
        refine st (fun _ hk => s_mv (v := (int kind_136)) rfl hk) ?_
        refine st (fun _ hk => s_mv (v := (int r_138)) rfl hk) ?_
        refine st (fun _ hk => s_as (v := (int kind_136)) rfl hk) ?_
        refine st (fun _ hk => s_as (v := (int r_138)) rfl hk) ?_
        refine st (fun _ hk => s_as (v := (bool false)) rfl hk) ?_
        refine aopsS_end (hK221 _ ?_)
        refine (blockN (thenN ?_))
        refine SatL.forget [0, 3, 4, 5, 6] (SatL.norm (n := 0) (h := hl []) (env' := [(0, (.sl (List.map int1 l_106))), (3, (int kind_136)), (4, (int r_138)), (5, (bool false)), (6, (int kind_136))]) (L' := []) rfl hs_refl ?_)
        repeat refine SatL.seq ?_
        refine SatL.rege [some 10, some 11, some 6] rfl rfl fun K227 hK227 => ?_
        refine st (fun _ hk => s_mv (v := (int kind_136)) rfl hk) ?_
        refine st (fun _ hk => s_bin rfl rfl (b_add64 hk)) ?_
        refine st (fun _ hk => s_as (v := (int (w64 (kind_136 + 1)))) rfl hk) ?_
        refine aopsS_end (hK227 _ ?_)
        have hw231 : w64 (kind_136 + 1) = kind_136 + 1 := w64_id (by omega) (by omega)
        exact (thenN ⟨k0, ⟨kind_136, r_138, false, (w64 (kind_136 + 1)), (StLe.of [] 0 rfl hs_nil (Nat.le_refl _)), (by omega), (by rw [hw231]; omega), (Eq.mpr (congrArg (fun q_ => ref09_Seen_L0 l_106 k0 kind_136 r_138 false q_ = some o_131) hw231) H1)⟩, by omega⟩)
      ·
        replace H1 := iteF H1 hc220
        repeat refine SatL.seq ?_
        refine SatL.reg [0, 3, 4, 5, 6, 22] [some 20, some 21, some 22] rfl rfl fun K232 hK232 => ?_
        refine st (fun _ hk => s_mv (v := (int r_138)) rfl hk) ?_
        refine st (fun _ hk => s_mv (v := (int most_134)) rfl hk) ?_
        refine st (fun _ hk => s_bin rfl rfl (b_eql hk)) ?_
        refine aopsS_end (hK232 _ (SatL.norm (n := 0) (h := hl []) (env' := [(0, (.sl (List.map int1 l_106))), (3, (int best_133)), (4, (int most_134)), (5, (bool equal_135)), (6, (int kind_136)), (22, (bool (r_138 == most_134)))]) (L' := []) rfl hs_refl ?_))
        repeat refine SatL.seq ?_
        refine SatL.condX rfl (fun hc236 => ?_) (fun hc236 => ?_)
        ·
          replace H1 := iteT H1 hc236
          repeat refine SatL.seq ?_
          refine SatL.rege [some 5] rfl rfl fun K237 hK237 => ?_
          refine st (fun _ hk => s_as (v := (bool true)) rfl hk) ?_
          refine aopsS_end (hK237 _ ?_)
          refine (blockN (thenN ?_))
          refine SatL.forget [0, 3, 4, 5, 6] (SatL.norm (n := 0) (h := hl []) (env' := [(0, (.sl (List.map int1 l_106))), (3, (int best_133)), (4, (int most_134)), (5, (bool true)), (6, (int kind_136))]) (L' := []) rfl hs_refl ?_)
          repeat refine SatL.seq ?_
          refine SatL.rege [some 10, some 11, some 6] rfl rfl fun K239 hK239 => ?_
          refine st (fun _ hk => s_mv (v := (int kind_136)) rfl hk) ?_
          refine st (fun _ hk => s_bin rfl rfl (b_add64 hk)) ?_
          refine st (fun _ hk => s_as (v := (int (w64 (kind_136 + 1)))) rfl hk) ?_
          refine aopsS_end (hK239 _ ?_)
          have hw243 : w64 (kind_136 + 1) = kind_136 + 1 := w64_id (by omega) (by omega)
          exact (thenN ⟨k0, ⟨best_133, most_134, true, (w64 (kind_136 + 1)), (StLe.of [] 0 rfl hs_nil (Nat.le_refl _)), (by omega), (by rw [hw243]; omega), (Eq.mpr (congrArg (fun q_ => ref09_Seen_L0 l_106 k0 best_133 most_134 true q_ = some o_131) hw243) H1)⟩, by omega⟩)
        ·
          replace H1 := iteF H1 hc236
          refine SatL.skip ?_
          refine SatL.nil (blockN (thenN ?_))
          repeat refine SatL.seq ?_
          refine SatL.rege [some 10, some 11, some 6] rfl rfl fun K244 hK244 => ?_
          refine st (fun _ hk => s_mv (v := (int kind_136)) rfl hk) ?_
          refine st (fun _ hk => s_bin rfl rfl (b_add64 hk)) ?_
          refine st (fun _ hk => s_as (v := (int (w64 (kind_136 + 1)))) rfl hk) ?_
          refine aopsS_end (hK244 _ ?_)
          have hw248 : w64 (kind_136 + 1) = kind_136 + 1 := w64_id (by omega) (by omega)
          exact (thenN ⟨k0, ⟨best_133, most_134, equal_135, (w64 (kind_136 + 1)), (StLe.of [] 0 rfl hs_nil (Nat.le_refl _)), (by omega), (by rw [hw248]; omega), (Eq.mpr (congrArg (fun q_ => ref09_Seen_L0 l_106 k0 best_133 most_134 equal_135 q_ = some o_131) hw248) H1)⟩, by omega⟩)
  ·
    rintro s_ ⟨best_128, most_129, equal_130, rfl, hs_⟩
    refine SatL.le hs_ ?_
    clear hs_
    replace H0 := un3S H0
    repeat refine SatL.seq ?_
    refine SatL.reg [3, 27] [some 23, some 24, some 25, some 26, some 27] rfl rfl fun K249 hK249 => ?_
    refine st (fun _ hk => s_mv (v := (int most_129)) rfl hk) ?_
    refine st (fun _ hk => s_bin rfl rfl (b_eql hk)) ?_
    refine st (fun _ hk => s_mv (v := (bool (most_129 == 0))) rfl hk) ?_
    refine aopsS_split rfl _ rfl (fun g253 => ?_) (fun g253 => ?_)
    ·
      replace H0 := iteF H0 (by simpa using g253)
      refine sx (fun _ hk => s_mv (v := (bool equal_130)) rfl hk) ?_
      refine st (fun _ hk => s_pickF (v := (bool equal_130)) rfl rfl hk) ?_
      refine aopsS_end (hK249 _ (SatL.norm (n := 0) (h := hl []) (env' := [(3, (int best_128)), (27, (bool equal_130))]) (L' := []) rfl hs_refl ?_))
      repeat refine SatL.seq ?_
      refine SatL.condX rfl (fun hc256 => ?_) (fun hc256 => ?_)
      ·
        replace H0 := iteT H0 hc256
        repeat refine SatL.seq ?_
        refine SatL.reg [2] [some 2] rfl rfl fun K257 hK257 => ?_
        refine st (fun _ hk => s_as (v := (int (-1))) rfl hk) ?_
        refine aopsS_end (hK257 _ (SatL.norm (n := 0) (h := hl []) (env' := [(2, (int (-1)))]) (L' := []) rfl hs_refl ?_))
        obtain rfl := Option.some.inj H0
        exact SatL.ret (fnQ_snap [] (int (-1)) (int (-1)) rfl (Snap.free _ (.sc _)) rfl)
      ·
        replace H0 := iteF H0 hc256
        refine SatL.skip ?_
        repeat refine SatL.seq ?_
        refine SatL.reg [2] [some 28, some 2] rfl rfl fun K259 hK259 => ?_
        refine st (fun _ hk => s_mv (v := (int best_128)) rfl hk) ?_
        refine st (fun _ hk => s_as (v := (int best_128)) rfl hk) ?_
        refine aopsS_end (hK259 _ (SatL.norm (n := 0) (h := hl []) (env' := [(2, (int best_128))]) (L' := []) rfl hs_refl ?_))
        obtain rfl := Option.some.inj H0
        exact SatL.ret (fnQ_snap [] (int best_128) (int best_128) rfl (Snap.free _ (.sc _)) rfl)
    ·
      replace H0 := iteT H0 (by simpa using g253)
      refine st (fun _ hk => s_pickT (v := (bool true)) rfl rfl hk) ?_
      refine aopsS_end (hK249 _ (SatL.norm (n := 0) (h := hl []) (env' := [(3, (int best_128)), (27, (bool true))]) (L' := []) rfl hs_refl ?_))
      repeat refine SatL.seq ?_
      refine SatL.condT rfl rfl ?_
      repeat refine SatL.seq ?_
      refine SatL.reg [2] [some 2] rfl rfl fun K263 hK263 => ?_
      refine st (fun _ hk => s_as (v := (int (-1))) rfl hk) ?_
      refine aopsS_end (hK263 _ (SatL.norm (n := 0) (h := hl []) (env' := [(2, (int (-1)))]) (L' := []) rfl hs_refl ?_))
      obtain rfl := Option.some.inj H0
      exact SatL.ret (fnQ_snap [] (int (-1)) (int (-1)) rfl (Snap.free _ (.sc _)) rfl)

theorem ref09_Read_PC {l_84 : (List Int)} {r : (Int × Int)} (H0 : ref09_Read l_84 = some r) : PC Try.prog 17 [(.sl (List.map int1 l_84))] (· = (.tp [(int r.1), (int r.2)])) := by
  unfold ref09_Read at H0
  refine PC.of_bodyL [(0, (.sl (List.map int1 l_84)))] Try.func17 rfl rfl (Nat.le_of_ble_eq_true rfl) rfl fun O => ?_
  repeat refine SatL.seq ?_
  refine SatL.reg [0] [some 2, some 3] rfl rfl fun K1 hK1 => ?_
  refine st (fun _ hk => s_as (v := (int 0)) rfl hk) ?_
  refine st (fun _ hk => s_as (v := (int 0)) rfl hk) ?_
  refine aopsS_end (hK1 _ (SatL.norm (n := 0) (h := hl []) (env' := [(0, (.sl (List.map int1 l_84)))]) (L' := []) rfl hs_refl ?_))
  repeat refine SatL.seq ?_
  refine SatL.reg [0, 6] [some 4, some 5, some 6] rfl rfl fun K4 hK4 => ?_
  refine st (fun _ hk => s_mv (v := (.sl (List.map int1 l_84))) rfl hk) ?_
  obtain ⟨r_105, hr_105, H0⟩ := bindS H0
  refine st (fun _ hk => s_call (avs := [(.sl (List.map int1 l_84))]) rfl rfl rfl (PC.call1 (ref09_Said_PC hr_105) (FreeL.cons (Free.slm fr_int1) FreeL.nil) hk)) ?_
  refine st (fun _ hk => s_not rfl hk) ?_
  refine aopsS_end (hK4 _ (SatL.norm (n := 0) (h := hl []) (env' := [(0, (.sl (List.map int1 l_84))), (6, (bool (!r_105)))]) (L' := []) rfl hs_refl ?_))
  repeat refine SatL.seq ?_
  refine SatL.condX rfl (fun hc8 => ?_) (fun hc8 => ?_)
  ·
    replace H0 := iteT H0 hc8
    repeat refine SatL.seq ?_
    refine SatL.reg [2, 3] [some 2, some 3] rfl rfl fun K9 hK9 => ?_
    refine st (fun _ hk => s_as (v := (int 0)) rfl hk) ?_
    refine st (fun _ hk => s_as (v := (int 2)) rfl hk) ?_
    refine aopsS_end (hK9 _ (SatL.norm (n := 0) (h := hl []) (env' := [(2, (int 0)), (3, (int 2))]) (L' := []) rfl hs_refl ?_))
    obtain rfl := Option.some.inj H0
    exact SatL.ret (fnQ_snap [] (.tp [(int 0), (int 2)]) (.tp [(int 0), (int 2)]) rfl (Snap.tpL (SnapL.cons (Snap.free _ (.sc _)) (SnapL.cons (Snap.free _ (.sc _)) SnapL.nil))) rfl)
  ·
    replace H0 := iteF H0 hc8
    refine SatL.skip ?_
    repeat refine SatL.seq ?_
    refine SatL.reg [2, 3] [some 7, some 8, some 2, some 3] rfl rfl fun K12 hK12 => ?_
    refine st (fun _ hk => s_mv (v := (.sl (List.map int1 l_84))) rfl hk) ?_
    obtain ⟨r_139, hr_139, H0⟩ := bindS H0
    refine st (fun _ hk => s_call (avs := [(.sl (List.map int1 l_84))]) rfl rfl rfl (PC.call1 (ref09_Seen_PC hr_139) (FreeL.cons (Free.slm fr_int1) FreeL.nil) hk)) ?_
    refine st (fun _ hk => s_as (v := (int r_139)) rfl hk) ?_
    refine st (fun _ hk => s_as (v := (int 0)) rfl hk) ?_
    refine aopsS_end (hK12 _ (SatL.norm (n := 0) (h := hl []) (env' := [(2, (int r_139)), (3, (int 0))]) (L' := []) rfl hs_refl ?_))
    obtain rfl := Option.some.inj H0
    exact SatL.ret (fnQ_snap [] (.tp [(int r_139), (int 0)]) (.tp [(int r_139), (int 0)]) rfl (Snap.tpL (SnapL.cons (Snap.free _ (.sc _)) (SnapL.cons (Snap.free _ (.sc _)) SnapL.nil))) rfl)

theorem sort_CheckBelt_PC {b_142 : Belt} {r : Int} (H0 : sort_CheckBelt b_142 = some r) : PC Try.prog 18 [(.ag (Belt.cells b_142))] (· = (int r)) := by
  unfold sort_CheckBelt at H0
  refine PC.of_bodyL [(0, (.ag (Belt.cells b_142)))] Try.func18 rfl rfl (Nat.le_of_ble_eq_true rfl) rfl fun O => ?_
  repeat refine SatL.seq ?_
  refine SatL.reg [1] [some 1, some 2] rfl rfl fun K1 hK1 => ?_
  refine st (fun _ hk => s_box (cs := [(int b_142.Length), (int b_142.Camera), (int b_142.Slow), (.sl (List.map Gate.cells b_142.Gates)), (.sl (List.map int1 b_142.Bins))]) (m := 5) (n' := 1) rfl rfl rfl hk) ?_
  refine st (fun _ hk => s_as (v := (int 0)) rfl hk) ?_
  refine aopsS_end (hK1 _ (SatL.norm (n := 1) (h := hl [(0, (some (.cells 5 25 [[(int b_142.Length), (int b_142.Camera), (int b_142.Slow), (.sl (List.map Gate.cells b_142.Gates)), (.sl (List.map int1 b_142.Bins))]])))]) (env' := [(1, (.own 0 0 0))]) (L' := [(0, (some (.cells 5 25 [[(int b_142.Length), (int b_142.Camera), (int b_142.Slow), (.sl (List.map Gate.cells b_142.Gates)), (.sl (List.map int1 b_142.Bins))]])))]) rfl hs_refl ?_))
  repeat refine SatL.seq ?_
  refine SatL.reg [1, 34] [some 7, some 8, some 9, some 10, some 11, some 12, some 13, some 14, some 15, some 16, some 17, some 18, some 19, some 20, some 21, some 22, some 23, some 24, some 25, some 26, some 27, some 28, some 29, some 30, some 31, some 32, some 33, some 34] rfl rfl fun K4 hK4 => ?_
  refine st (fun _ hk => s_faOwn (j' := 0) fld_25_0 rfl rfl (isC (hl_self _ _ _)) hk) ?_
  refine st (fun _ hk => s_load1 (c := (int b_142.Length)) agg_3 (d_own rfl (hl_self _ _ _) rfl rfl) rfl hk) ?_
  refine st (fun _ hk => s_bslF (es := [[(int b_142.Length)]]) (es' := List.map int1 [b_142.Length]) elem_23 zero_3 rfl (by decide) (by decide) rfl rfl hk) ?_
  obtain ⟨r_143, hr_143, H0⟩ := bindS H0
  refine st (fun _ hk => s_call (avs := [(int 2), (int 100), (.sl (List.map int1 ([b_142.Length])))]) rfl rfl rfl (PC.call1 (sort_from_PC hr_143) (FreeL.cons (.sc _) (FreeL.cons (.sc _) (FreeL.cons (Free.slm fr_int1) FreeL.nil))) hk)) ?_
  refine st (fun _ hk => s_not rfl hk) ?_
  refine st (fun _ hk => s_mv (v := (bool (!r_143))) rfl hk) ?_
  refine aopsS_split rfl _ rfl (fun g11 => ?_) (fun g11 => ?_)
  ·
    replace H0 := iteF H0 (by simpa using g11)
    refine sx (fun _ hk => s_faOwn (j' := 0) fld_25_0 rfl rfl (isC (hl_self _ _ _)) hk) ?_
    refine sg rfl rfl (fun _ hk => s_load1 (c := (int b_142.Length)) agg_3 (d_own rfl (hl_self _ _ _) rfl rfl) rfl hk) ?_
    refine sg rfl rfl (fun _ hk => s_bin rfl rfl (b_sub64 hk)) ?_
    refine sg rfl rfl (fun _ hk => s_faOwn (j' := 1) fld_25_1 rfl rfl (isC (hl_self _ _ _)) hk) ?_
    refine sg rfl rfl (fun _ hk => s_load1 (c := (int b_142.Camera)) agg_3 (d_own rfl (hl_self _ _ _) rfl rfl) rfl hk) ?_
    refine sg rfl rfl (fun _ hk => s_bslF (es := [[(int b_142.Camera)]]) (es' := List.map int1 [b_142.Camera]) elem_23 zero_3 rfl (by decide) (by decide) rfl rfl hk) ?_
    obtain ⟨r_144, hr_144, H0⟩ := bindS H0
    refine sg rfl rfl (fun _ hk => s_call (avs := [(int 0), (int (w64 (b_142.Length - 2))), (.sl (List.map int1 ([b_142.Camera])))]) rfl rfl rfl (PC.call1 (sort_from_PC hr_144) (FreeL.cons (.sc _) (FreeL.cons (.sc _) (FreeL.cons (Free.slm fr_int1) FreeL.nil))) hk)) ?_
    refine sg rfl rfl (fun _ hk => s_not rfl hk) ?_
    refine st (fun _ hk => s_pickF (v := (bool (!r_144))) rfl rfl hk) ?_
    refine st (fun _ hk => s_mv (v := (bool (!r_144))) rfl hk) ?_
    refine aopsS_split rfl _ rfl (fun g22 => ?_) (fun g22 => ?_)
    ·
      replace H0 := iteF H0 (by simpa using g22)
      refine sx (fun _ hk => s_faOwn (j' := 2) fld_25_2 rfl rfl (isC (hl_self _ _ _)) hk) ?_
      refine sg rfl rfl (fun _ hk => s_load1 (c := (int b_142.Slow)) agg_3 (d_own rfl (hl_self _ _ _) rfl rfl) rfl hk) ?_
      refine sg rfl rfl (fun _ hk => s_bslF (es := [[(int b_142.Slow)]]) (es' := List.map int1 [b_142.Slow]) elem_23 zero_3 rfl (by decide) (by decide) rfl rfl hk) ?_
      obtain ⟨r_145, hr_145, H0⟩ := bindS H0
      refine sg rfl rfl (fun _ hk => s_call (avs := [(int 0), (int 10), (.sl (List.map int1 ([b_142.Slow])))]) rfl rfl rfl (PC.call1 (sort_from_PC hr_145) (FreeL.cons (.sc _) (FreeL.cons (.sc _) (FreeL.cons (Free.slm fr_int1) FreeL.nil))) hk)) ?_
      refine sg rfl rfl (fun _ hk => s_not rfl hk) ?_
      refine st (fun _ hk => s_pickF (v := (bool (!r_145))) rfl rfl hk) ?_
      refine st (fun _ hk => s_mv (v := (bool (!r_145))) rfl hk) ?_
      refine aopsS_split rfl _ rfl (fun g30 => ?_) (fun g30 => ?_)
      ·
        replace H0 := iteF H0 (by simpa using g30)
        refine sx (fun _ hk => s_faOwn (j' := 3) fld_25_3 rfl rfl (isC (hl_self _ _ _)) hk) ?_
        refine sg rfl rfl (fun _ hk => s_load1 (c := (.sl (List.map Gate.cells b_142.Gates))) agg_22 (d_own rfl (hl_self _ _ _) rfl rfl) rfl hk) ?_
        refine aopsS_on rfl rfl fun _ hK => s_lenSl elem_22 rfl (fun hl33 => hK _ _ _ ?_)
        clear hK
        refine sg rfl rfl (fun _ hk => s_bin rfl rfl (b_gtr hk)) ?_
        refine st (fun _ hk => s_pickF (v := (bool (decide (8 < (List.length b_142.Gates : Int))))) rfl rfl hk) ?_
        refine aopsS_end (hK4 _ (SatL.norm (n := 1) (h := hl [(0, (some (.cells 5 25 [[(int b_142.Length), (int b_142.Camera), (int b_142.Slow), (.sl (List.map Gate.cells b_142.Gates)), (.sl (List.map int1 b_142.Bins))]])))]) (env' := [(1, (.own 0 0 0)), (34, (bool (decide (8 < (List.length b_142.Gates : Int)))))]) (L' := [(0, (some (.cells 5 25 [[(int b_142.Length), (int b_142.Camera), (int b_142.Slow), (.sl (List.map Gate.cells b_142.Gates)), (.sl (List.map int1 b_142.Bins))]])))]) rfl hs_refl ?_))
        repeat refine SatL.seq ?_
        refine SatL.condX rfl (fun hc36 => ?_) (fun hc36 => ?_)
        ·
          replace H0 := iteT H0 hc36
          repeat refine SatL.seq ?_
          refine SatL.reg [2] [some 2] rfl rfl fun K37 hK37 => ?_
          refine st (fun _ hk => s_as (v := (int 90)) rfl hk) ?_
          refine aopsS_end (hK37 _ (SatL.norm (n := 1) (h := hl [(0, (some (.cells 5 25 [[(int b_142.Length), (int b_142.Camera), (int b_142.Slow), (.sl (List.map Gate.cells b_142.Gates)), (.sl (List.map int1 b_142.Bins))]])))]) (env' := [(2, (int 90))]) (L' := []) rfl hs_nil ?_))
          obtain rfl := Option.some.inj H0
          exact SatL.ret (fnQ_snap [] (int 90) (int 90) rfl (Snap.free _ (.sc _)) rfl)
        ·
          replace H0 := iteF H0 hc36
          refine SatL.skip ?_
          repeat refine SatL.seq ?_
          refine SatL.reg [1, 44] [some 35, some 36, some 37, some 38, some 39, some 40, some 41, some 42, some 43, some 44] rfl rfl fun K39 hK39 => ?_
          refine st (fun _ hk => s_faOwn (j' := 4) fld_25_4 rfl rfl (isC (hl_self _ _ _)) hk) ?_
          refine st (fun _ hk => s_load1 (c := (.sl (List.map int1 b_142.Bins))) agg_23 (d_own rfl (hl_self _ _ _) rfl rfl) rfl hk) ?_
          refine aopsS_step fun _ hK => s_lenSl elem_23 rfl (fun hl42 => hK _ _ _ ?_)
          clear hK
          refine st (fun _ hk => s_bin rfl rfl (b_neq hk)) ?_
          refine st (fun _ hk => s_mv (v := (bool ((List.length b_142.Bins : Int) != 16))) rfl hk) ?_
          refine aopsS_split rfl _ rfl (fun g45 => ?_) (fun g45 => ?_)
          ·
            replace H0 := iteF H0 (by simpa using g45)
            refine sx (fun _ hk => s_faOwn (j' := 4) fld_25_4 rfl rfl (isC (hl_self _ _ _)) hk) ?_
            refine sg rfl rfl (fun _ hk => s_load1 (c := (.sl (List.map int1 b_142.Bins))) agg_23 (d_own rfl (hl_self _ _ _) rfl rfl) rfl hk) ?_
            obtain ⟨r_146, hr_146, H0⟩ := bindS H0
            refine sg rfl rfl (fun _ hk => s_call (avs := [(int (-1)), (int 7), (.sl (List.map int1 b_142.Bins))]) rfl rfl rfl (PC.call1 (sort_from_PC hr_146) (FreeL.cons (.sc _) (FreeL.cons (.sc _) (FreeL.cons (Free.slm fr_int1) FreeL.nil))) hk)) ?_
            refine sg rfl rfl (fun _ hk => s_not rfl hk) ?_
            refine st (fun _ hk => s_pickF (v := (bool (!r_146))) rfl rfl hk) ?_
            refine aopsS_end (hK39 _ (SatL.norm (n := 1) (h := hl [(0, (some (.cells 5 25 [[(int b_142.Length), (int b_142.Camera), (int b_142.Slow), (.sl (List.map Gate.cells b_142.Gates)), (.sl (List.map int1 b_142.Bins))]])))]) (env' := [(1, (.own 0 0 0)), (44, (bool (!r_146)))]) (L' := [(0, (some (.cells 5 25 [[(int b_142.Length), (int b_142.Camera), (int b_142.Slow), (.sl (List.map Gate.cells b_142.Gates)), (.sl (List.map int1 b_142.Bins))]])))]) rfl hs_refl ?_))
            repeat refine SatL.seq ?_
            refine SatL.condX rfl (fun hc51 => ?_) (fun hc51 => ?_)
            ·
              replace H0 := iteT H0 hc51
              repeat refine SatL.seq ?_
              refine SatL.reg [2] [some 2] rfl rfl fun K52 hK52 => ?_
              refine st (fun _ hk => s_as (v := (int 90)) rfl hk) ?_
              refine aopsS_end (hK52 _ (SatL.norm (n := 1) (h := hl [(0, (some (.cells 5 25 [[(int b_142.Length), (int b_142.Camera), (int b_142.Slow), (.sl (List.map Gate.cells b_142.Gates)), (.sl (List.map int1 b_142.Bins))]])))]) (env' := [(2, (int 90))]) (L' := []) rfl hs_nil ?_))
              obtain rfl := Option.some.inj H0
              exact SatL.ret (fnQ_snap [] (int 90) (int 90) rfl (Snap.free _ (.sc _)) rfl)
            ·
              replace H0 := iteF H0 hc51
              refine SatL.skip ?_
              repeat refine SatL.seq ?_
              refine SatL.reg [1, 3, 4] [some 45, some 46, some 47, some 48, some 3, some 4] rfl rfl fun K54 hK54 => ?_
              refine st (fun _ hk => s_faOwn (j' := 1) fld_25_1 rfl rfl (isC (hl_self _ _ _)) hk) ?_
              refine st (fun _ hk => s_load1 (c := (int b_142.Camera)) agg_3 (d_own rfl (hl_self _ _ _) rfl rfl) rfl hk) ?_
              refine st (fun _ hk => s_bin rfl rfl (b_add64 hk)) ?_
              refine st (fun _ hk => s_mmap (n' := 2) rfl hk) ?_
              refine st (fun _ hk => s_as (v := (int (w64 (b_142.Camera + 1)))) rfl hk) ?_
              refine st (fun _ hk => s_as (v := (.mp 1)) rfl hk) ?_
              refine aopsS_end (hK54 _ (SatL.norm (n := 2) (h := hl [(1, (some (.map (List.map (kvE ki bool) ([]))))), (0, (some (.cells 5 25 [[(int b_142.Length), (int b_142.Camera), (int b_142.Slow), (.sl (List.map Gate.cells b_142.Gates)), (.sl (List.map int1 b_142.Bins))]])))]) (env' := [(1, (.own 0 0 0)), (3, (int (w64 (b_142.Camera + 1)))), (4, (.mp 1))]) (L' := [(0, (some (.cells 5 25 [[(int b_142.Length), (int b_142.Camera), (int b_142.Slow), (.sl (List.map Gate.cells b_142.Gates)), (.sl (List.map int1 b_142.Bins))]]))), (1, (some (.map (List.map (kvE ki bool) ([])))))]) rfl (hs_cons (hl_ne (j := 0) (i := 1) (by decide) (hl_self _ _ _)) (hs_cons (hl_self _ _ _) hs_nil)) ?_))
              repeat refine SatL.seq ?_
              refine SatL.reg [1, 3, 4, 50, 51, 52] [some 49, some 50, some 51, some 52] rfl rfl fun K61 hK61 => ?_
              refine st (fun _ hk => s_faOwn (j' := 3) fld_25_3 rfl rfl (isC (hl_self _ _ _)) hk) ?_
              refine st (fun _ hk => s_load1 (c := (.sl (List.map Gate.cells b_142.Gates))) agg_22 (d_own rfl (hl_self _ _ _) rfl rfl) rfl hk) ?_
              refine aopsS_step fun _ hK => s_lenSl elem_22 rfl (fun hl64 => hK _ _ _ ?_)
              clear hK
              refine st (fun _ hk => s_mv (v := (int 0)) rfl hk) ?_
              refine aopsS_end (hK61 _ (SatL.norm (n := 2) (h := hl [(0, (some (.cells 5 25 [[(int b_142.Length), (int b_142.Camera), (int b_142.Slow), (.sl (List.map Gate.cells b_142.Gates)), (.sl (List.map int1 b_142.Bins))]]))), (1, (some (.map (List.map (kvE ki bool) ([])))))]) (env' := [(1, (.own 0 0 0)), (3, (int (w64 (b_142.Camera + 1)))), (4, (.mp 1)), (50, (.sl (List.map Gate.cells b_142.Gates))), (51, (int (List.length b_142.Gates : Int))), (52, (int 0))]) (L' := [(0, (some (.cells 5 25 [[(int b_142.Length), (int b_142.Camera), (int b_142.Slow), (.sl (List.map Gate.cells b_142.Gates)), (.sl (List.map int1 b_142.Bins))]]))), (1, (some (.map (List.map (kvE ki bool) ([])))))]) rfl hs_refl ?_))
              repeat refine SatL.seq ?_
              obtain ⟨o_161, H1, H0⟩ := bindS H0
              refine SatL.mid [] (fun s_ => ∃ (n_160 : Nat), (Sum.inr ()) = o_161 ∧ StLe s_ [] [] n_160) ?_ ?_
              ·
                repeat refine SatL.seq ?_
                refine SatL.block ?_
                repeat refine SatL.seq ?_
                refine SatL.loopK [1, 3, 4, 50, 51, 52] (fun k0 s_ => ∃ (least_165 : Int) (bins_166 : (List (Int × Bool))) (x_167 : Int) (n_168 : Nat), StLe s_ [(1, (.own 0 0 0)), (3, (int least_165)), (4, (.mp 1)), (50, (.sl (List.map Gate.cells b_142.Gates))), (51, (int (List.length b_142.Gates : Int))), (52, (int x_167))] [(0, (some (.cells 5 25 [[(int b_142.Length), (int b_142.Camera), (int b_142.Slow), (.sl (List.map Gate.cells b_142.Gates)), (.sl (List.map int1 b_142.Bins))]]))), (1, (some (.map (List.map (kvE ki bool) bins_166))))] n_168 ∧ 0 < n_168 ∧ 1 < n_168 ∧ 0 ≤ x_167 ∧ k0 = Int.toNat ((List.length b_142.Gates : Int) - x_167) ∧ sort_CheckBelt_L0 b_142 k0 least_165 bins_166 x_167 = some o_161) (Int.toNat ((List.length b_142.Gates : Int) - 0)) ?_ ?_
                · exact ⟨(w64 (b_142.Camera + 1)), [], 0, 2, (StLe.of [(0, (some (.cells 5 25 [[(int b_142.Length), (int b_142.Camera), (int b_142.Slow), (.sl (List.map Gate.cells b_142.Gates)), (.sl (List.map int1 b_142.Bins))]]))), (1, (some (.map (List.map (kvE ki bool) ([])))))] 2 rfl (hs_cons (hl_self _ _ _) (hs_cons (hl_ne (j := 1) (i := 0) (by decide) (hl_self _ _ _)) hs_nil)) (Nat.le_refl _)), (by omega), (by omega), (by omega), rfl, H1⟩
                rintro k0 s_ ⟨least_165, bins_166, x_167, n_168, hs_, _, _, _, hk_, H1⟩
                refine SatL.le hs_ ?_
                clear hs_
                rcases k0 with _ | k0
                ·
                  rw [sort_CheckBelt_L0.eq_1] at H1
                  repeat refine SatL.seq ?_
                  refine SatL.reg [1, 3, 4, 50, 51, 52, 53] [some 53] rfl rfl fun K351 hK351 => ?_
                  refine st (fun _ hk => s_bin rfl rfl (b_lss hk)) ?_
                  refine aopsS_end (hK351 _ (SatL.norm (n := n_168) (h := hl [(0, (some (.cells 5 25 [[(int b_142.Length), (int b_142.Camera), (int b_142.Slow), (.sl (List.map Gate.cells b_142.Gates)), (.sl (List.map int1 b_142.Bins))]]))), (1, (some (.map (List.map (kvE ki bool) bins_166))))]) (env' := [(1, (.own 0 0 0)), (3, (int least_165)), (4, (.mp 1)), (50, (.sl (List.map Gate.cells b_142.Gates))), (51, (int (List.length b_142.Gates : Int))), (52, (int x_167)), (53, (bool (decide (x_167 < (List.length b_142.Gates : Int)))))]) (L' := [(0, (some (.cells 5 25 [[(int b_142.Length), (int b_142.Camera), (int b_142.Slow), (.sl (List.map Gate.cells b_142.Gates)), (.sl (List.map int1 b_142.Bins))]]))), (1, (some (.map (List.map (kvE ki bool) bins_166))))]) rfl hs_refl ?_))
                  repeat refine SatL.seq ?_
                  refine SatL.condF rfl (decide_eq_false (by omega)) ?_
                  refine SatL.exit ?_
                  simp only [thenQ, blockQ, if_true, reduceIte, Nat.reduceEqDiff]
                  obtain rfl := Option.some.inj H1
                  exact SatL.nil (thenN ⟨n_168, rfl, (StLe.of [(0, (some (.cells 5 25 [[(int b_142.Length), (int b_142.Camera), (int b_142.Slow), (.sl (List.map Gate.cells b_142.Gates)), (.sl (List.map int1 b_142.Bins))]]))), (1, (some (.map (List.map (kvE ki bool) bins_166))))] n_168 rfl hs_nil (Nat.le_refl _))⟩)
                ·
                  rw [sort_CheckBelt_L0.eq_2] at H1
                  repeat refine SatL.seq ?_
                  refine SatL.reg [1, 3, 4, 50, 51, 52, 53] [some 53] rfl rfl fun K353 hK353 => ?_
                  refine st (fun _ hk => s_bin rfl rfl (b_lss hk)) ?_
                  refine aopsS_end (hK353 _ (SatL.norm (n := n_168) (h := hl [(0, (some (.cells 5 25 [[(int b_142.Length), (int b_142.Camera), (int b_142.Slow), (.sl (List.map Gate.cells b_142.Gates)), (.sl (List.map int1 b_142.Bins))]]))), (1, (some (.map (List.map (kvE ki bool) bins_166))))]) (env' := [(1, (.own 0 0 0)), (3, (int least_165)), (4, (.mp 1)), (50, (.sl (List.map Gate.cells b_142.Gates))), (51, (int (List.length b_142.Gates : Int))), (52, (int x_167)), (53, (bool (decide (x_167 < (List.length b_142.Gates : Int)))))]) (L' := [(0, (some (.cells 5 25 [[(int b_142.Length), (int b_142.Camera), (int b_142.Slow), (.sl (List.map Gate.cells b_142.Gates)), (.sl (List.map int1 b_142.Bins))]]))), (1, (some (.map (List.map (kvE ki bool) bins_166))))]) rfl hs_refl ?_))
                  repeat refine SatL.seq ?_
                  refine SatL.condT rfl (decide_eq_true (by omega)) ?_
                  have hlt355 : (x_167 < (List.length b_142.Gates : Int)) := by omega
                  refine SatL.skip ?_
                  repeat refine SatL.seq ?_
                  refine SatL.block ?_
                  repeat refine SatL.seq ?_
                  refine SatL.reg [1, 3, 4, 6, 50, 51, 52] [some 54, some 55, some 6, none] rfl rfl fun K356 hK356 => ?_
                  obtain ⟨e_172, he_172, H1⟩ := bindS H1
                  refine st (fun _ hk => s_ixSl elem_22 rfl rfl he_172 cells_89 rfl (by decide) hk) ?_
                  refine st (fun _ hk => s_loadA (cs' := [(int e_172.At), (int e_172.Bin)]) agg_89 cells_89 (d_fp rfl) (Nat.le_of_ble_eq_true rfl) rfl hk) ?_
                  refine st (fun _ hk => s_alloc (m := 2) (n' := (n_168 + 1)) zero_89 rfl rfl hk) ?_
                  refine s0 (fun _ hk => s_store (E := [[(int e_172.At), (int e_172.Bin)]]) rfl (hl_self _ _ _) rfl rfl cells_89 rfl (by decide) (Nat.le_of_ble_eq_true rfl) rfl (hu_self _ _ _ _) hk) ?_
                  refine aopsS_end (hK356 _ (SatL.norm (n := (n_168 + 1)) (h := hl [(n_168, (some (.cells 2 89 [[(int e_172.At), (int e_172.Bin)]]))), (0, (some (.cells 5 25 [[(int b_142.Length), (int b_142.Camera), (int b_142.Slow), (.sl (List.map Gate.cells b_142.Gates)), (.sl (List.map int1 b_142.Bins))]]))), (1, (some (.map (List.map (kvE ki bool) bins_166))))]) (env' := [(1, (.own 0 0 0)), (3, (int least_165)), (4, (.mp 1)), (6, (.own n_168 0 0)), (50, (.sl (List.map Gate.cells b_142.Gates))), (51, (int (List.length b_142.Gates : Int))), (52, (int x_167))]) (L' := [(0, (some (.cells 5 25 [[(int b_142.Length), (int b_142.Camera), (int b_142.Slow), (.sl (List.map Gate.cells b_142.Gates)), (.sl (List.map int1 b_142.Bins))]]))), (1, (some (.map (List.map (kvE ki bool) bins_166)))), (n_168, (some (.cells 2 89 [[(int e_172.At), (int e_172.Bin)]])))]) rfl (hs_cons (hl_ne (j := 0) (i := n_168) (by omega) (hl_self _ _ _)) (hs_cons (hl_ne (j := 1) (i := n_168) (by omega) (hl_ne (j := 1) (i := 0) (by decide) (hl_self _ _ _))) (hs_cons (hl_self _ _ _) hs_nil))) ?_))
                  repeat refine SatL.seq ?_
                  refine SatL.reg [1, 4, 6, 50, 51, 52, 77] [some 56, some 57, some 58, some 59, some 60, some 61, some 62, some 63, some 64, some 65, some 66, some 67, some 68, some 69, some 70, some 71, some 72, some 73, some 74, some 75, some 76, some 77] rfl rfl fun K361 hK361 => ?_
                  refine st (fun _ hk => s_mv (v := (int least_165)) rfl hk) ?_
                  refine st (fun _ hk => s_faOwn (j' := 0) fld_25_0 rfl rfl (isC (hl_self _ _ _)) hk) ?_
                  refine st (fun _ hk => s_load1 (c := (int b_142.Length)) agg_3 (d_own rfl (hl_self _ _ _) rfl rfl) rfl hk) ?_
                  refine st (fun _ hk => s_bin rfl rfl (b_sub64 hk)) ?_
                  refine st (fun _ hk => s_faOwn (j' := 0) fld_89_0 rfl rfl (isC (hl_ne (j := n_168) (i := 0) (by omega) (hl_ne (j := n_168) (i := 1) (by omega) (hl_self _ _ _)))) hk) ?_
                  refine st (fun _ hk => s_load1 (c := (int e_172.At)) agg_3 (d_own rfl (hl_ne (j := n_168) (i := 0) (by omega) (hl_ne (j := n_168) (i := 1) (by omega) (hl_self _ _ _))) rfl rfl) rfl hk) ?_
                  refine st (fun _ hk => s_bslF (es := [[(int e_172.At)]]) (es' := List.map int1 [e_172.At]) elem_23 zero_3 rfl (by decide) (by decide) rfl rfl hk) ?_
                  obtain ⟨r_173, hr_173, H1⟩ := bindS H1
                  refine st (fun _ hk => s_call (avs := [(int least_165), (int (w64 (b_142.Length - 1))), (.sl (List.map int1 ([e_172.At])))]) rfl rfl rfl (PC.call1 (sort_from_PC hr_173) (FreeL.cons (.sc _) (FreeL.cons (.sc _) (FreeL.cons (Free.slm fr_int1) FreeL.nil))) hk)) ?_
                  refine st (fun _ hk => s_not rfl hk) ?_
                  refine st (fun _ hk => s_mv (v := (bool (!r_173))) rfl hk) ?_
                  refine aopsS_split rfl _ rfl (fun g372 => ?_) (fun g372 => ?_)
                  ·
                    replace H1 := iteF H1 (by simpa using g372)
                    refine sx (fun _ hk => s_faOwn (j' := 1) fld_89_1 rfl rfl (isC (hl_ne (j := n_168) (i := 0) (by omega) (hl_ne (j := n_168) (i := 1) (by omega) (hl_self _ _ _)))) hk) ?_
                    refine sg rfl rfl (fun _ hk => s_load1 (c := (int e_172.Bin)) agg_3 (d_own rfl (hl_ne (j := n_168) (i := 0) (by omega) (hl_ne (j := n_168) (i := 1) (by omega) (hl_self _ _ _))) rfl rfl) rfl hk) ?_
                    refine sg rfl rfl (fun _ hk => s_bslF (es := [[(int e_172.Bin)]]) (es' := List.map int1 [e_172.Bin]) elem_23 zero_3 rfl (by decide) (by decide) rfl rfl hk) ?_
                    obtain ⟨r_174, hr_174, H1⟩ := bindS H1
                    refine sg rfl rfl (fun _ hk => s_call (avs := [(int 0), (int 7), (.sl (List.map int1 ([e_172.Bin])))]) rfl rfl rfl (PC.call1 (sort_from_PC hr_174) (FreeL.cons (.sc _) (FreeL.cons (.sc _) (FreeL.cons (Free.slm fr_int1) FreeL.nil))) hk)) ?_
                    refine sg rfl rfl (fun _ hk => s_not rfl hk) ?_
                    refine st (fun _ hk => s_pickF (v := (bool (!r_174))) rfl rfl hk) ?_
                    refine st (fun _ hk => s_mv (v := (bool (!r_174))) rfl hk) ?_
                    refine aopsS_split rfl _ rfl (fun g380 => ?_) (fun g380 => ?_)
                    ·
                      replace H1 := iteF H1 (by simpa using g380)
                      refine sx (fun _ hk => s_mv (v := (.mp 1)) rfl hk) ?_
                      refine sg rfl rfl (fun _ hk => s_faOwn (j' := 1) fld_89_1 rfl rfl (isC (hl_ne (j := n_168) (i := 0) (by omega) (hl_ne (j := n_168) (i := 1) (by omega) (hl_self _ _ _)))) hk) ?_
                      refine sg rfl rfl (fun _ hk => s_load1 (c := (int e_172.Bin)) agg_3 (d_own rfl (hl_ne (j := n_168) (i := 0) (by omega) (hl_ne (j := n_168) (i := 1) (by omega) (hl_self _ _ _))) rfl rfl) rfl hk) ?_
                      refine sg rfl rfl (fun _ hk => s_lk (kf := ki) (vf := bool) (z0 := false) map_95 zv_4 rfl kb_int (fun _ => int_3) rfl rfl (hl_ne (j := 1) (i := 0) (by decide) (hl_self _ _ _)) hk) ?_
                      refine st (fun _ hk => s_pickF (v := (bool (((mget bins_166 e_172.Bin)).getD false))) rfl rfl hk) ?_
                      refine aopsS_end (hK361 _ (SatL.norm (n := (n_168 + 1)) (h := hl [(0, (some (.cells 5 25 [[(int b_142.Length), (int b_142.Camera), (int b_142.Slow), (.sl (List.map Gate.cells b_142.Gates)), (.sl (List.map int1 b_142.Bins))]]))), (1, (some (.map (List.map (kvE ki bool) bins_166)))), (n_168, (some (.cells 2 89 [[(int e_172.At), (int e_172.Bin)]])))]) (env' := [(1, (.own 0 0 0)), (4, (.mp 1)), (6, (.own n_168 0 0)), (50, (.sl (List.map Gate.cells b_142.Gates))), (51, (int (List.length b_142.Gates : Int))), (52, (int x_167)), (77, (bool (((mget bins_166 e_172.Bin)).getD false)))]) (L' := [(0, (some (.cells 5 25 [[(int b_142.Length), (int b_142.Camera), (int b_142.Slow), (.sl (List.map Gate.cells b_142.Gates)), (.sl (List.map int1 b_142.Bins))]]))), (1, (some (.map (List.map (kvE ki bool) bins_166)))), (n_168, (some (.cells 2 89 [[(int e_172.At), (int e_172.Bin)]])))]) rfl hs_refl ?_))
                      repeat refine SatL.seq ?_
                      refine SatL.condX rfl (fun hc386 => ?_) (fun hc386 => ?_)
                      ·
                        replace H1 := iteT H1 hc386
                        repeat refine SatL.seq ?_
                        refine SatL.reg [2] [some 2] rfl rfl fun K387 hK387 => ?_
                        refine st (fun _ hk => s_as (v := (int 90)) rfl hk) ?_
                        refine aopsS_end (hK387 _ (SatL.norm (n := (n_168 + 1)) (h := hl [(0, (some (.cells 5 25 [[(int b_142.Length), (int b_142.Camera), (int b_142.Slow), (.sl (List.map Gate.cells b_142.Gates)), (.sl (List.map int1 b_142.Bins))]]))), (1, (some (.map (List.map (kvE ki bool) bins_166)))), (n_168, (some (.cells 2 89 [[(int e_172.At), (int e_172.Bin)]])))]) (env' := [(2, (int 90))]) (L' := []) rfl hs_nil ?_))
                        obtain rfl := Option.some.inj H1
                        obtain rfl := Option.some.inj H0
                        exact SatL.ret (fnQ_snap [] (int 90) (int 90) rfl (Snap.free _ (.sc _)) rfl)
                      ·
                        replace H1 := iteF H1 hc386
                        refine SatL.skip ?_
                        repeat refine SatL.seq ?_
                        refine SatL.reg [1, 3, 4, 6, 50, 51, 52] [some 78, some 79, some 80, some 3] rfl rfl fun K389 hK389 => ?_
                        refine st (fun _ hk => s_faOwn (j' := 0) fld_89_0 rfl rfl (isC (hl_ne (j := n_168) (i := 0) (by omega) (hl_ne (j := n_168) (i := 1) (by omega) (hl_self _ _ _)))) hk) ?_
                        refine st (fun _ hk => s_load1 (c := (int e_172.At)) agg_3 (d_own rfl (hl_ne (j := n_168) (i := 0) (by omega) (hl_ne (j := n_168) (i := 1) (by omega) (hl_self _ _ _))) rfl rfl) rfl hk) ?_
                        refine st (fun _ hk => s_bin rfl rfl (b_add64 hk)) ?_
                        refine st (fun _ hk => s_as (v := (int (w64 (e_172.At + 1)))) rfl hk) ?_
                        refine aopsS_end (hK389 _ (SatL.norm (n := (n_168 + 1)) (h := hl [(0, (some (.cells 5 25 [[(int b_142.Length), (int b_142.Camera), (int b_142.Slow), (.sl (List.map Gate.cells b_142.Gates)), (.sl (List.map int1 b_142.Bins))]]))), (1, (some (.map (List.map (kvE ki bool) bins_166)))), (n_168, (some (.cells 2 89 [[(int e_172.At), (int e_172.Bin)]])))]) (env' := [(1, (.own 0 0 0)), (3, (int (w64 (e_172.At + 1)))), (4, (.mp 1)), (6, (.own n_168 0 0)), (50, (.sl (List.map Gate.cells b_142.Gates))), (51, (int (List.length b_142.Gates : Int))), (52, (int x_167))]) (L' := [(0, (some (.cells 5 25 [[(int b_142.Length), (int b_142.Camera), (int b_142.Slow), (.sl (List.map Gate.cells b_142.Gates)), (.sl (List.map int1 b_142.Bins))]]))), (1, (some (.map (List.map (kvE ki bool) bins_166)))), (n_168, (some (.cells 2 89 [[(int e_172.At), (int e_172.Bin)]])))]) rfl hs_refl ?_))
                        repeat refine SatL.seq ?_
                        refine SatL.rege [some 81, some 82, some 83, none] rfl rfl fun K394 hK394 => ?_
                        refine st (fun _ hk => s_mv (v := (.mp 1)) rfl hk) ?_
                        refine st (fun _ hk => s_faOwn (j' := 1) fld_89_1 rfl rfl (isC (hl_ne (j := n_168) (i := 0) (by omega) (hl_ne (j := n_168) (i := 1) (by omega) (hl_self _ _ _)))) hk) ?_
                        refine st (fun _ hk => s_load1 (c := (int e_172.Bin)) agg_3 (d_own rfl (hl_ne (j := n_168) (i := 0) (by omega) (hl_ne (j := n_168) (i := 1) (by omega) (hl_self _ _ _))) rfl rfl) rfl hk) ?_
                        refine s0 (fun _ hk => s_mu (kf := ki) (vf := bool) map_95 kb_int (fun _ => int_3) rfl rfl rfl rfl (hl_ne (j := 1) (i := 0) (by decide) (hl_self _ _ _)) (hu_ne (j := 1) (i := 0) (by decide) (hu_self _ _ _ _)) hk) ?_
                        refine aopsS_end (hK394 _ ?_)
                        refine (blockN (thenN ?_))
                        refine SatL.forget [1, 3, 4, 50, 51, 52] (SatL.norm (n := (n_168 + 1)) (h := hl [(0, (some (.cells 5 25 [[(int b_142.Length), (int b_142.Camera), (int b_142.Slow), (.sl (List.map Gate.cells b_142.Gates)), (.sl (List.map int1 b_142.Bins))]]))), (1, (some (.map (List.map (kvE ki bool) (mput bins_166 e_172.Bin true))))), (n_168, (some (.cells 2 89 [[(int e_172.At), (int e_172.Bin)]])))]) (env' := [(1, (.own 0 0 0)), (3, (int (w64 (e_172.At + 1)))), (4, (.mp 1)), (50, (.sl (List.map Gate.cells b_142.Gates))), (51, (int (List.length b_142.Gates : Int))), (52, (int x_167))]) (L' := [(0, (some (.cells 5 25 [[(int b_142.Length), (int b_142.Camera), (int b_142.Slow), (.sl (List.map Gate.cells b_142.Gates)), (.sl (List.map int1 b_142.Bins))]]))), (1, (some (.map (List.map (kvE ki bool) (mput bins_166 e_172.Bin true)))))]) rfl (hs_cons (hl_self _ _ _) (hs_cons (hl_ne (j := 1) (i := 0) (by decide) (hl_self _ _ _)) hs_nil)) ?_)
                        repeat refine SatL.seq ?_
                        refine SatL.rege [some 84, some 52] rfl rfl fun K399 hK399 => ?_
                        refine st (fun _ hk => s_bin rfl rfl (b_add64 hk)) ?_
                        refine st (fun _ hk => s_mv (v := (int (w64 (x_167 + 1)))) rfl hk) ?_
                        refine aopsS_end (hK399 _ ?_)
                        have hw402 : w64 (x_167 + 1) = x_167 + 1 := w64_id (by omega) (by omega)
                        exact (thenN ⟨k0, ⟨(w64 (e_172.At + 1)), (mput bins_166 e_172.Bin true), (w64 (x_167 + 1)), (n_168 + 1), (StLe.of [(0, (some (.cells 5 25 [[(int b_142.Length), (int b_142.Camera), (int b_142.Slow), (.sl (List.map Gate.cells b_142.Gates)), (.sl (List.map int1 b_142.Bins))]]))), (1, (some (.map (List.map (kvE ki bool) (mput bins_166 e_172.Bin true)))))] (n_168 + 1) rfl (hs_cons (hl_self _ _ _) (hs_cons (hl_ne (j := 1) (i := 0) (by decide) (hl_self _ _ _)) hs_nil)) (Nat.le_refl _)), (by omega), (by omega), (by omega), (by rw [hw402]; omega), (Eq.mpr (congrArg (fun q_ => sort_CheckBelt_L0 b_142 k0 ((w64 (e_172.At + 1))) ((mput bins_166 e_172.Bin true)) q_ = some o_161) hw402) H1)⟩, by omega⟩)
                    ·
                      replace H1 := iteT H1 (by simpa using g380)
                      refine aopsS_off rfl rfl ?_
                      refine aopsS_off rfl rfl ?_
                      refine aopsS_off rfl rfl ?_
                      refine st (fun _ hk => s_pickT (v := (bool true)) rfl rfl hk) ?_
                      refine aopsS_end (hK361 _ (SatL.norm (n := (n_168 + 1)) (h := hl [(0, (some (.cells 5 25 [[(int b_142.Length), (int b_142.Camera), (int b_142.Slow), (.sl (List.map Gate.cells b_142.Gates)), (.sl (List.map int1 b_142.Bins))]]))), (1, (some (.map (List.map (kvE ki bool) bins_166)))), (n_168, (some (.cells 2 89 [[(int e_172.At), (int e_172.Bin)]])))]) (env' := [(1, (.own 0 0 0)), (4, (.mp 1)), (6, (.own n_168 0 0)), (50, (.sl (List.map Gate.cells b_142.Gates))), (51, (int (List.length b_142.Gates : Int))), (52, (int x_167)), (77, (bool true))]) (L' := [(0, (some (.cells 5 25 [[(int b_142.Length), (int b_142.Camera), (int b_142.Slow), (.sl (List.map Gate.cells b_142.Gates)), (.sl (List.map int1 b_142.Bins))]]))), (1, (some (.map (List.map (kvE ki bool) bins_166)))), (n_168, (some (.cells 2 89 [[(int e_172.At), (int e_172.Bin)]])))]) rfl hs_refl ?_))
                      repeat refine SatL.seq ?_
                      refine SatL.condT rfl rfl ?_
                      repeat refine SatL.seq ?_
                      refine SatL.reg [2] [some 2] rfl rfl fun K404 hK404 => ?_
                      refine st (fun _ hk => s_as (v := (int 90)) rfl hk) ?_
                      refine aopsS_end (hK404 _ (SatL.norm (n := (n_168 + 1)) (h := hl [(0, (some (.cells 5 25 [[(int b_142.Length), (int b_142.Camera), (int b_142.Slow), (.sl (List.map Gate.cells b_142.Gates)), (.sl (List.map int1 b_142.Bins))]]))), (1, (some (.map (List.map (kvE ki bool) bins_166)))), (n_168, (some (.cells 2 89 [[(int e_172.At), (int e_172.Bin)]])))]) (env' := [(2, (int 90))]) (L' := []) rfl hs_nil ?_))
                      obtain rfl := Option.some.inj H1
                      obtain rfl := Option.some.inj H0
                      exact SatL.ret (fnQ_snap [] (int 90) (int 90) rfl (Snap.free _ (.sc _)) rfl)
                  ·
                    replace H1 := iteT H1 (by simpa using g372)
                    refine aopsS_off rfl rfl ?_
                    refine aopsS_off rfl rfl ?_
                    refine aopsS_off rfl rfl ?_
                    refine aopsS_off rfl rfl ?_
                    refine st (fun _ hk => s_pickT (v := (bool true)) rfl rfl hk) ?_
                    refine st (fun _ hk => s_mv (v := (bool true)) rfl hk) ?_
                    refine aopsS_off rfl rfl ?_
                    refine aopsS_off rfl rfl ?_
                    refine aopsS_off rfl rfl ?_
                    refine aopsS_off rfl rfl ?_
                    refine st (fun _ hk => s_pickT (v := (bool true)) rfl rfl hk) ?_
                    refine aopsS_end (hK361 _ (SatL.norm (n := (n_168 + 1)) (h := hl [(0, (some (.cells 5 25 [[(int b_142.Length), (int b_142.Camera), (int b_142.Slow), (.sl (List.map Gate.cells b_142.Gates)), (.sl (List.map int1 b_142.Bins))]]))), (1, (some (.map (List.map (kvE ki bool) bins_166)))), (n_168, (some (.cells 2 89 [[(int e_172.At), (int e_172.Bin)]])))]) (env' := [(1, (.own 0 0 0)), (4, (.mp 1)), (6, (.own n_168 0 0)), (50, (.sl (List.map Gate.cells b_142.Gates))), (51, (int (List.length b_142.Gates : Int))), (52, (int x_167)), (77, (bool true))]) (L' := [(0, (some (.cells 5 25 [[(int b_142.Length), (int b_142.Camera), (int b_142.Slow), (.sl (List.map Gate.cells b_142.Gates)), (.sl (List.map int1 b_142.Bins))]]))), (1, (some (.map (List.map (kvE ki bool) bins_166)))), (n_168, (some (.cells 2 89 [[(int e_172.At), (int e_172.Bin)]])))]) rfl hs_refl ?_))
                    repeat refine SatL.seq ?_
                    refine SatL.condT rfl rfl ?_
                    repeat refine SatL.seq ?_
                    refine SatL.reg [2] [some 2] rfl rfl fun K409 hK409 => ?_
                    refine st (fun _ hk => s_as (v := (int 90)) rfl hk) ?_
                    refine aopsS_end (hK409 _ (SatL.norm (n := (n_168 + 1)) (h := hl [(0, (some (.cells 5 25 [[(int b_142.Length), (int b_142.Camera), (int b_142.Slow), (.sl (List.map Gate.cells b_142.Gates)), (.sl (List.map int1 b_142.Bins))]]))), (1, (some (.map (List.map (kvE ki bool) bins_166)))), (n_168, (some (.cells 2 89 [[(int e_172.At), (int e_172.Bin)]])))]) (env' := [(2, (int 90))]) (L' := []) rfl hs_nil ?_))
                    obtain rfl := Option.some.inj H1
                    obtain rfl := Option.some.inj H0
                    exact SatL.ret (fnQ_snap [] (int 90) (int 90) rfl (Snap.free _ (.sc _)) rfl)
              ·
                rintro s_ ⟨n_160, rfl, hs_⟩
                refine SatL.le hs_ ?_
                clear hs_
                replace H0 := sumun0S H0
                repeat refine SatL.seq ?_
                refine SatL.reg [2] [some 2] rfl rfl fun K411 hK411 => ?_
                refine st (fun _ hk => s_as (v := (int 0)) rfl hk) ?_
                refine aopsS_end (hK411 _ (SatL.norm (n := n_160) (h := hl []) (env' := [(2, (int 0))]) (L' := []) rfl hs_refl ?_))
                obtain rfl := Option.some.inj H0
                exact SatL.ret (fnQ_snap [] (int 0) (int 0) rfl (Snap.free _ (.sc _)) rfl)
          ·
            replace H0 := iteT H0 (by simpa using g45)
            refine aopsS_off rfl rfl ?_
            refine aopsS_off rfl rfl ?_
            refine aopsS_off rfl rfl ?_
            refine st (fun _ hk => s_pickT (v := (bool true)) rfl rfl hk) ?_
            refine aopsS_end (hK39 _ (SatL.norm (n := 1) (h := hl [(0, (some (.cells 5 25 [[(int b_142.Length), (int b_142.Camera), (int b_142.Slow), (.sl (List.map Gate.cells b_142.Gates)), (.sl (List.map int1 b_142.Bins))]])))]) (env' := [(1, (.own 0 0 0)), (44, (bool true))]) (L' := [(0, (some (.cells 5 25 [[(int b_142.Length), (int b_142.Camera), (int b_142.Slow), (.sl (List.map Gate.cells b_142.Gates)), (.sl (List.map int1 b_142.Bins))]])))]) rfl hs_refl ?_))
            repeat refine SatL.seq ?_
            refine SatL.condT rfl rfl ?_
            repeat refine SatL.seq ?_
            refine SatL.reg [2] [some 2] rfl rfl fun K414 hK414 => ?_
            refine st (fun _ hk => s_as (v := (int 90)) rfl hk) ?_
            refine aopsS_end (hK414 _ (SatL.norm (n := 1) (h := hl [(0, (some (.cells 5 25 [[(int b_142.Length), (int b_142.Camera), (int b_142.Slow), (.sl (List.map Gate.cells b_142.Gates)), (.sl (List.map int1 b_142.Bins))]])))]) (env' := [(2, (int 90))]) (L' := []) rfl hs_nil ?_))
            obtain rfl := Option.some.inj H0
            exact SatL.ret (fnQ_snap [] (int 90) (int 90) rfl (Snap.free _ (.sc _)) rfl)
      ·
        replace H0 := iteT H0 (by simpa using g30)
        refine aopsS_off rfl rfl ?_
        refine aopsS_off rfl rfl ?_
        refine aopsS_off rfl rfl ?_
        refine st (fun _ hk => s_pickT (v := (bool true)) rfl rfl hk) ?_
        refine aopsS_end (hK4 _ (SatL.norm (n := 1) (h := hl [(0, (some (.cells 5 25 [[(int b_142.Length), (int b_142.Camera), (int b_142.Slow), (.sl (List.map Gate.cells b_142.Gates)), (.sl (List.map int1 b_142.Bins))]])))]) (env' := [(1, (.own 0 0 0)), (34, (bool true))]) (L' := [(0, (some (.cells 5 25 [[(int b_142.Length), (int b_142.Camera), (int b_142.Slow), (.sl (List.map Gate.cells b_142.Gates)), (.sl (List.map int1 b_142.Bins))]])))]) rfl hs_refl ?_))
        repeat refine SatL.seq ?_
        refine SatL.condT rfl rfl ?_
        repeat refine SatL.seq ?_
        refine SatL.reg [2] [some 2] rfl rfl fun K417 hK417 => ?_
        refine st (fun _ hk => s_as (v := (int 90)) rfl hk) ?_
        refine aopsS_end (hK417 _ (SatL.norm (n := 1) (h := hl [(0, (some (.cells 5 25 [[(int b_142.Length), (int b_142.Camera), (int b_142.Slow), (.sl (List.map Gate.cells b_142.Gates)), (.sl (List.map int1 b_142.Bins))]])))]) (env' := [(2, (int 90))]) (L' := []) rfl hs_nil ?_))
        obtain rfl := Option.some.inj H0
        exact SatL.ret (fnQ_snap [] (int 90) (int 90) rfl (Snap.free _ (.sc _)) rfl)
    ·
      replace H0 := iteT H0 (by simpa using g22)
      refine aopsS_off rfl rfl ?_
      refine aopsS_off rfl rfl ?_
      refine aopsS_off rfl rfl ?_
      refine aopsS_off rfl rfl ?_
      refine st (fun _ hk => s_pickT (v := (bool true)) rfl rfl hk) ?_
      refine st (fun _ hk => s_mv (v := (bool true)) rfl hk) ?_
      refine aopsS_off rfl rfl ?_
      refine aopsS_off rfl rfl ?_
      refine aopsS_off rfl rfl ?_
      refine aopsS_off rfl rfl ?_
      refine st (fun _ hk => s_pickT (v := (bool true)) rfl rfl hk) ?_
      refine aopsS_end (hK4 _ (SatL.norm (n := 1) (h := hl [(0, (some (.cells 5 25 [[(int b_142.Length), (int b_142.Camera), (int b_142.Slow), (.sl (List.map Gate.cells b_142.Gates)), (.sl (List.map int1 b_142.Bins))]])))]) (env' := [(1, (.own 0 0 0)), (34, (bool true))]) (L' := [(0, (some (.cells 5 25 [[(int b_142.Length), (int b_142.Camera), (int b_142.Slow), (.sl (List.map Gate.cells b_142.Gates)), (.sl (List.map int1 b_142.Bins))]])))]) rfl hs_refl ?_))
      repeat refine SatL.seq ?_
      refine SatL.condT rfl rfl ?_
      repeat refine SatL.seq ?_
      refine SatL.reg [2] [some 2] rfl rfl fun K422 hK422 => ?_
      refine st (fun _ hk => s_as (v := (int 90)) rfl hk) ?_
      refine aopsS_end (hK422 _ (SatL.norm (n := 1) (h := hl [(0, (some (.cells 5 25 [[(int b_142.Length), (int b_142.Camera), (int b_142.Slow), (.sl (List.map Gate.cells b_142.Gates)), (.sl (List.map int1 b_142.Bins))]])))]) (env' := [(2, (int 90))]) (L' := []) rfl hs_nil ?_))
      obtain rfl := Option.some.inj H0
      exact SatL.ret (fnQ_snap [] (int 90) (int 90) rfl (Snap.free _ (.sc _)) rfl)
  ·
    replace H0 := iteT H0 (by simpa using g11)
    refine aopsS_off rfl rfl ?_
    refine aopsS_off rfl rfl ?_
    refine aopsS_off rfl rfl ?_
    refine aopsS_off rfl rfl ?_
    refine aopsS_off rfl rfl ?_
    refine aopsS_off rfl rfl ?_
    refine aopsS_off rfl rfl ?_
    refine st (fun _ hk => s_pickT (v := (bool true)) rfl rfl hk) ?_
    refine st (fun _ hk => s_mv (v := (bool true)) rfl hk) ?_
    refine aopsS_off rfl rfl ?_
    refine aopsS_off rfl rfl ?_
    refine aopsS_off rfl rfl ?_
    refine aopsS_off rfl rfl ?_
    refine aopsS_off rfl rfl ?_
    refine st (fun _ hk => s_pickT (v := (bool true)) rfl rfl hk) ?_
    refine st (fun _ hk => s_mv (v := (bool true)) rfl hk) ?_
    refine aopsS_off rfl rfl ?_
    refine aopsS_off rfl rfl ?_
    refine aopsS_off rfl rfl ?_
    refine aopsS_off rfl rfl ?_
    refine st (fun _ hk => s_pickT (v := (bool true)) rfl rfl hk) ?_
    refine aopsS_end (hK4 _ (SatL.norm (n := 1) (h := hl [(0, (some (.cells 5 25 [[(int b_142.Length), (int b_142.Camera), (int b_142.Slow), (.sl (List.map Gate.cells b_142.Gates)), (.sl (List.map int1 b_142.Bins))]])))]) (env' := [(1, (.own 0 0 0)), (34, (bool true))]) (L' := [(0, (some (.cells 5 25 [[(int b_142.Length), (int b_142.Camera), (int b_142.Slow), (.sl (List.map Gate.cells b_142.Gates)), (.sl (List.map int1 b_142.Bins))]])))]) rfl hs_refl ?_))
    repeat refine SatL.seq ?_
    refine SatL.condT rfl rfl ?_
    repeat refine SatL.seq ?_
    refine SatL.reg [2] [some 2] rfl rfl fun K429 hK429 => ?_
    refine st (fun _ hk => s_as (v := (int 90)) rfl hk) ?_
    refine aopsS_end (hK429 _ (SatL.norm (n := 1) (h := hl [(0, (some (.cells 5 25 [[(int b_142.Length), (int b_142.Camera), (int b_142.Slow), (.sl (List.map Gate.cells b_142.Gates)), (.sl (List.map int1 b_142.Bins))]])))]) (env' := [(2, (int 90))]) (L' := []) rfl hs_nil ?_))
    obtain rfl := Option.some.inj H0
    exact SatL.ret (fnQ_snap [] (int 90) (int 90) rfl (Snap.free _ (.sc _)) rfl)

theorem ref09_Leads_PC {b_185 : Belt} {bin_186 : Int} {r : Int} (H0 : ref09_Leads b_185 bin_186 = some r) : PC Try.prog 48 [(.ag (Belt.cells b_185)), (int bin_186)] (· = (int r)) := by
  unfold ref09_Leads at H0
  refine PC.of_bodyL [(0, (.ag (Belt.cells b_185))), (1, (int bin_186))] Try.func48 rfl rfl (Nat.le_of_ble_eq_true rfl) rfl fun O => ?_
  repeat refine SatL.seq ?_
  refine SatL.reg [1, 2] [some 2, some 4] rfl rfl fun K1 hK1 => ?_
  refine st (fun _ hk => s_box (cs := [(int b_185.Length), (int b_185.Camera), (int b_185.Slow), (.sl (List.map Gate.cells b_185.Gates)), (.sl (List.map int1 b_185.Bins))]) (m := 5) (n' := 1) rfl rfl rfl hk) ?_
  refine st (fun _ hk => s_as (v := (int 0)) rfl hk) ?_
  refine aopsS_end (hK1 _ (SatL.norm (n := 1) (h := hl [(0, (some (.cells 5 25 [[(int b_185.Length), (int b_185.Camera), (int b_185.Slow), (.sl (List.map Gate.cells b_185.Gates)), (.sl (List.map int1 b_185.Bins))]])))]) (env' := [(1, (int bin_186)), (2, (.own 0 0 0))]) (L' := [(0, (some (.cells 5 25 [[(int b_185.Length), (int b_185.Camera), (int b_185.Slow), (.sl (List.map Gate.cells b_185.Gates)), (.sl (List.map int1 b_185.Bins))]])))]) rfl hs_refl ?_))
  repeat refine SatL.seq ?_
  refine SatL.reg [1, 2, 5] [some 5] rfl rfl fun K4 hK4 => ?_
  refine st (fun _ hk => s_as (v := (int 0)) rfl hk) ?_
  refine aopsS_end (hK4 _ (SatL.norm (n := 1) (h := hl [(0, (some (.cells 5 25 [[(int b_185.Length), (int b_185.Camera), (int b_185.Slow), (.sl (List.map Gate.cells b_185.Gates)), (.sl (List.map int1 b_185.Bins))]])))]) (env' := [(1, (int bin_186)), (2, (.own 0 0 0)), (5, (int 0))]) (L' := [(0, (some (.cells 5 25 [[(int b_185.Length), (int b_185.Camera), (int b_185.Slow), (.sl (List.map Gate.cells b_185.Gates)), (.sl (List.map int1 b_185.Bins))]])))]) rfl hs_refl ?_))
  repeat refine SatL.seq ?_
  obtain ⟨o_191, H1, H0⟩ := bindS H0
  refine SatL.mid [] (fun s_ => (Sum.inr ()) = o_191 ∧ StLe s_ [] [] 1) ?_ ?_
  ·
    repeat refine SatL.seq ?_
    refine SatL.block ?_
    repeat refine SatL.seq ?_
    refine SatL.loopK [1, 2, 5] (fun k0 s_ => ∃ (i_193 : Int), StLe s_ [(1, (int bin_186)), (2, (.own 0 0 0)), (5, (int i_193))] [(0, (some (.cells 5 25 [[(int b_185.Length), (int b_185.Camera), (int b_185.Slow), (.sl (List.map Gate.cells b_185.Gates)), (.sl (List.map int1 b_185.Bins))]])))] 1 ∧ 0 ≤ i_193 ∧ k0 = Int.toNat ((List.length b_185.Gates : Int) - i_193) ∧ ref09_Leads_L0 b_185 bin_186 k0 i_193 = some o_191) (Int.toNat ((List.length b_185.Gates : Int) - 0)) ?_ ?_
    · exact ⟨0, (StLe.of [(0, (some (.cells 5 25 [[(int b_185.Length), (int b_185.Camera), (int b_185.Slow), (.sl (List.map Gate.cells b_185.Gates)), (.sl (List.map int1 b_185.Bins))]])))] 1 rfl (hs_cons (hl_self _ _ _) hs_nil) (Nat.le_refl _)), (by omega), rfl, H1⟩
    rintro k0 s_ ⟨i_193, hs_, _, hk_, H1⟩
    refine SatL.le hs_ ?_
    clear hs_
    rcases k0 with _ | k0
    ·
      rw [ref09_Leads_L0.eq_1] at H1
      repeat refine SatL.seq ?_
      refine SatL.reg [1, 2, 5, 10] [some 6, some 7, some 8, some 9, some 10] rfl rfl fun K126 hK126 => ?_
      refine st (fun _ hk => s_mv (v := (int i_193)) rfl hk) ?_
      refine st (fun _ hk => s_faOwn (j' := 3) fld_25_3 rfl rfl (isC (hl_self _ _ _)) hk) ?_
      refine st (fun _ hk => s_load1 (c := (.sl (List.map Gate.cells b_185.Gates))) agg_22 (d_own rfl (hl_self _ _ _) rfl rfl) rfl hk) ?_
      refine aopsS_step fun _ hK => s_lenSl elem_22 rfl (fun hl130 => hK _ _ _ ?_)
      clear hK
      refine st (fun _ hk => s_bin rfl rfl (b_lss hk)) ?_
      refine aopsS_end (hK126 _ (SatL.norm (n := 1) (h := hl [(0, (some (.cells 5 25 [[(int b_185.Length), (int b_185.Camera), (int b_185.Slow), (.sl (List.map Gate.cells b_185.Gates)), (.sl (List.map int1 b_185.Bins))]])))]) (env' := [(1, (int bin_186)), (2, (.own 0 0 0)), (5, (int i_193)), (10, (bool (decide (i_193 < (List.length b_185.Gates : Int)))))]) (L' := [(0, (some (.cells 5 25 [[(int b_185.Length), (int b_185.Camera), (int b_185.Slow), (.sl (List.map Gate.cells b_185.Gates)), (.sl (List.map int1 b_185.Bins))]])))]) rfl hs_refl ?_))
      repeat refine SatL.seq ?_
      refine SatL.condF rfl (decide_eq_false (by omega)) ?_
      refine SatL.exit ?_
      simp only [thenQ, blockQ, if_true, reduceIte, Nat.reduceEqDiff]
      obtain rfl := Option.some.inj H1
      exact SatL.nil (thenN ⟨rfl, (StLe.of [(0, (some (.cells 5 25 [[(int b_185.Length), (int b_185.Camera), (int b_185.Slow), (.sl (List.map Gate.cells b_185.Gates)), (.sl (List.map int1 b_185.Bins))]])))] 1 rfl hs_nil (Nat.le_refl _))⟩)
    ·
      rw [ref09_Leads_L0.eq_2] at H1
      repeat refine SatL.seq ?_
      refine SatL.reg [1, 2, 5, 10] [some 6, some 7, some 8, some 9, some 10] rfl rfl fun K132 hK132 => ?_
      refine st (fun _ hk => s_mv (v := (int i_193)) rfl hk) ?_
      refine st (fun _ hk => s_faOwn (j' := 3) fld_25_3 rfl rfl (isC (hl_self _ _ _)) hk) ?_
      refine st (fun _ hk => s_load1 (c := (.sl (List.map Gate.cells b_185.Gates))) agg_22 (d_own rfl (hl_self _ _ _) rfl rfl) rfl hk) ?_
      refine aopsS_step fun _ hK => s_lenSl elem_22 rfl (fun hl136 => hK _ _ _ ?_)
      clear hK
      refine st (fun _ hk => s_bin rfl rfl (b_lss hk)) ?_
      refine aopsS_end (hK132 _ (SatL.norm (n := 1) (h := hl [(0, (some (.cells 5 25 [[(int b_185.Length), (int b_185.Camera), (int b_185.Slow), (.sl (List.map Gate.cells b_185.Gates)), (.sl (List.map int1 b_185.Bins))]])))]) (env' := [(1, (int bin_186)), (2, (.own 0 0 0)), (5, (int i_193)), (10, (bool (decide (i_193 < (List.length b_185.Gates : Int)))))]) (L' := [(0, (some (.cells 5 25 [[(int b_185.Length), (int b_185.Camera), (int b_185.Slow), (.sl (List.map Gate.cells b_185.Gates)), (.sl (List.map int1 b_185.Bins))]])))]) rfl hs_refl ?_))
      repeat refine SatL.seq ?_
      refine SatL.condT rfl (decide_eq_true (by omega)) ?_
      have hlt138 : (i_193 < (List.length b_185.Gates : Int)) := by omega
      refine SatL.skip ?_
      repeat refine SatL.seq ?_
      refine SatL.block ?_
      repeat refine SatL.seq ?_
      refine SatL.reg [1, 2, 5, 20] [some 13, some 14, some 15, some 16, some 17, some 18, some 19, some 20] rfl rfl fun K139 hK139 => ?_
      refine st (fun _ hk => s_faOwn (j' := 3) fld_25_3 rfl rfl (isC (hl_self _ _ _)) hk) ?_
      refine st (fun _ hk => s_load1 (c := (.sl (List.map Gate.cells b_185.Gates))) agg_22 (d_own rfl (hl_self _ _ _) rfl rfl) rfl hk) ?_
      refine st (fun _ hk => s_mv (v := (int i_193)) rfl hk) ?_
      obtain ⟨e_195, he_195, H1⟩ := bindS H1
      refine st (fun _ hk => s_ixSl elem_22 rfl rfl he_195 cells_89 rfl (by decide) hk) ?_
      refine st (fun _ hk => s_faFp (cs' := [(int e_195.Bin)]) fld_89_1 rfl rfl hk) ?_
      refine st (fun _ hk => s_load1 (c := (int e_195.Bin)) agg_3 (d_fp rfl) rfl hk) ?_
      refine st (fun _ hk => s_mv (v := (int bin_186)) rfl hk) ?_
      refine st (fun _ hk => s_bin rfl rfl (b_eql hk)) ?_
      refine aopsS_end (hK139 _ (SatL.norm (n := 1) (h := hl [(0, (some (.cells 5 25 [[(int b_185.Length), (int b_185.Camera), (int b_185.Slow), (.sl (List.map Gate.cells b_185.Gates)), (.sl (List.map int1 b_185.Bins))]])))]) (env' := [(1, (int bin_186)), (2, (.own 0 0 0)), (5, (int i_193)), (20, (bool (e_195.Bin == bin_186)))]) (L' := [(0, (some (.cells 5 25 [[(int b_185.Length), (int b_185.Camera), (int b_185.Slow), (.sl (List.map Gate.cells b_185.Gates)), (.sl (List.map int1 b_185.Bins))]])))]) rfl hs_refl ?_))
      repeat refine SatL.seq ?_
      refine SatL.condX rfl (fun hc148 => ?_) (fun hc148 => ?_)
      ·
        replace H1 := iteT H1 hc148
        repeat refine SatL.seq ?_
        refine SatL.reg [4] [some 21, some 4] rfl rfl fun K149 hK149 => ?_
        refine st (fun _ hk => s_mv (v := (int i_193)) rfl hk) ?_
        refine st (fun _ hk => s_as (v := (int i_193)) rfl hk) ?_
        refine aopsS_end (hK149 _ (SatL.norm (n := 1) (h := hl [(0, (some (.cells 5 25 [[(int b_185.Length), (int b_185.Camera), (int b_185.Slow), (.sl (List.map Gate.cells b_185.Gates)), (.sl (List.map int1 b_185.Bins))]])))]) (env' := [(4, (int i_193))]) (L' := []) rfl hs_nil ?_))
        obtain rfl := Option.some.inj H1
        obtain rfl := Option.some.inj H0
        exact SatL.ret (fnQ_snap [] (int i_193) (int i_193) rfl (Snap.free _ (.sc _)) rfl)
      ·
        replace H1 := iteF H1 hc148
        refine SatL.skip ?_
        refine SatL.nil (blockN (thenN ?_))
        repeat refine SatL.seq ?_
        refine SatL.rege [some 11, some 12, some 5] rfl rfl fun K152 hK152 => ?_
        refine st (fun _ hk => s_mv (v := (int i_193)) rfl hk) ?_
        refine st (fun _ hk => s_bin rfl rfl (b_add64 hk)) ?_
        refine st (fun _ hk => s_as (v := (int (w64 (i_193 + 1)))) rfl hk) ?_
        refine aopsS_end (hK152 _ ?_)
        have hw156 : w64 (i_193 + 1) = i_193 + 1 := w64_id (by omega) (by omega)
        exact (thenN ⟨k0, ⟨(w64 (i_193 + 1)), (StLe.of [(0, (some (.cells 5 25 [[(int b_185.Length), (int b_185.Camera), (int b_185.Slow), (.sl (List.map Gate.cells b_185.Gates)), (.sl (List.map int1 b_185.Bins))]])))] 1 rfl (hs_cons (hl_self _ _ _) hs_nil) (Nat.le_refl _)), (by omega), (by rw [hw156]; omega), (Eq.mpr (congrArg (fun q_ => ref09_Leads_L0 b_185 bin_186 k0 q_ = some o_191) hw156) H1)⟩, by omega⟩)
  ·
    rintro s_ ⟨rfl, hs_⟩
    refine SatL.le hs_ ?_
    clear hs_
    replace H0 := sumun0S H0
    repeat refine SatL.seq ?_
    refine SatL.reg [4] [some 4] rfl rfl fun K157 hK157 => ?_
    refine st (fun _ hk => s_as (v := (int (-1))) rfl hk) ?_
    refine aopsS_end (hK157 _ (SatL.norm (n := 1) (h := hl []) (env' := [(4, (int (-1)))]) (L' := []) rfl hs_refl ?_))
    obtain rfl := Option.some.inj H0
    exact SatL.ret (fnQ_snap [] (int (-1)) (int (-1)) rfl (Snap.free _ (.sc _)) rfl)

theorem ref09_Belt_PC {b_177 : Belt} {r : Bool} (H0 : ref09_Belt b_177 = some r) : PC Try.prog 46 [(.ag (Belt.cells b_177))] (· = (bool r)) := by
  unfold ref09_Belt at H0
  refine PC.of_bodyL [(0, (.ag (Belt.cells b_177)))] Try.func46 rfl rfl (Nat.le_of_ble_eq_true rfl) rfl fun O => ?_
  repeat refine SatL.seq ?_
  refine SatL.reg [1] [some 1, some 2] rfl rfl fun K1 hK1 => ?_
  refine st (fun _ hk => s_box (cs := [(int b_177.Length), (int b_177.Camera), (int b_177.Slow), (.sl (List.map Gate.cells b_177.Gates)), (.sl (List.map int1 b_177.Bins))]) (m := 5) (n' := 1) rfl rfl rfl hk) ?_
  refine st (fun _ hk => s_as (v := (bool false)) rfl hk) ?_
  refine aopsS_end (hK1 _ (SatL.norm (n := 1) (h := hl [(0, (some (.cells 5 25 [[(int b_177.Length), (int b_177.Camera), (int b_177.Slow), (.sl (List.map Gate.cells b_177.Gates)), (.sl (List.map int1 b_177.Bins))]])))]) (env' := [(1, (.own 0 0 0))]) (L' := [(0, (some (.cells 5 25 [[(int b_177.Length), (int b_177.Camera), (int b_177.Slow), (.sl (List.map Gate.cells b_177.Gates)), (.sl (List.map int1 b_177.Bins))]])))]) rfl hs_refl ?_))
  repeat refine SatL.seq ?_
  refine SatL.reg [1, 36] [some 6, some 7, some 8, some 9, some 10, some 11, some 12, some 13, some 14, some 15, some 16, some 17, some 18, some 19, some 20, some 21, some 22, some 23, some 24, some 25, some 26, some 27, some 28, some 29, some 30, some 31, some 32, some 33, some 34, some 35, some 36] rfl rfl fun K4 hK4 => ?_
  refine st (fun _ hk => s_faOwn (j' := 0) fld_25_0 rfl rfl (isC (hl_self _ _ _)) hk) ?_
  refine st (fun _ hk => s_load1 (c := (int b_177.Length)) agg_3 (d_own rfl (hl_self _ _ _) rfl rfl) rfl hk) ?_
  obtain ⟨r_178, hr_178, H0⟩ := bindS H0
  refine st (fun _ hk => s_call (avs := [(int b_177.Length), (int 2), (int 100)]) rfl rfl rfl (PC.call1 (ref09_within_PC hr_178) (FreeL.cons (.sc _) (FreeL.cons (.sc _) (FreeL.cons (.sc _) FreeL.nil))) hk)) ?_
  refine st (fun _ hk => s_not rfl hk) ?_
  refine st (fun _ hk => s_mv (v := (bool (!r_178))) rfl hk) ?_
  refine aopsS_split rfl _ rfl (fun g10 => ?_) (fun g10 => ?_)
  ·
    replace H0 := iteF H0 (by simpa using g10)
    refine sx (fun _ hk => s_faOwn (j' := 1) fld_25_1 rfl rfl (isC (hl_self _ _ _)) hk) ?_
    refine sg rfl rfl (fun _ hk => s_load1 (c := (int b_177.Camera)) agg_3 (d_own rfl (hl_self _ _ _) rfl rfl) rfl hk) ?_
    refine sg rfl rfl (fun _ hk => s_faOwn (j' := 0) fld_25_0 rfl rfl (isC (hl_self _ _ _)) hk) ?_
    refine sg rfl rfl (fun _ hk => s_load1 (c := (int b_177.Length)) agg_3 (d_own rfl (hl_self _ _ _) rfl rfl) rfl hk) ?_
    refine sg rfl rfl (fun _ hk => s_bin rfl rfl (b_sub64 hk)) ?_
    obtain ⟨r_179, hr_179, H0⟩ := bindS H0
    refine sg rfl rfl (fun _ hk => s_call (avs := [(int b_177.Camera), (int 0), (int (w64 (b_177.Length - 2)))]) rfl rfl rfl (PC.call1 (ref09_within_PC hr_179) (FreeL.cons (.sc _) (FreeL.cons (.sc _) (FreeL.cons (.sc _) FreeL.nil))) hk)) ?_
    refine sg rfl rfl (fun _ hk => s_not rfl hk) ?_
    refine st (fun _ hk => s_pickF (v := (bool (!r_179))) rfl rfl hk) ?_
    refine st (fun _ hk => s_mv (v := (bool (!r_179))) rfl hk) ?_
    refine aopsS_split rfl _ rfl (fun g20 => ?_) (fun g20 => ?_)
    ·
      replace H0 := iteF H0 (by simpa using g20)
      refine sx (fun _ hk => s_faOwn (j' := 2) fld_25_2 rfl rfl (isC (hl_self _ _ _)) hk) ?_
      refine sg rfl rfl (fun _ hk => s_load1 (c := (int b_177.Slow)) agg_3 (d_own rfl (hl_self _ _ _) rfl rfl) rfl hk) ?_
      obtain ⟨r_180, hr_180, H0⟩ := bindS H0
      refine sg rfl rfl (fun _ hk => s_call (avs := [(int b_177.Slow), (int 0), (int 10)]) rfl rfl rfl (PC.call1 (ref09_within_PC hr_180) (FreeL.cons (.sc _) (FreeL.cons (.sc _) (FreeL.cons (.sc _) FreeL.nil))) hk)) ?_
      refine sg rfl rfl (fun _ hk => s_not rfl hk) ?_
      refine st (fun _ hk => s_pickF (v := (bool (!r_180))) rfl rfl hk) ?_
      refine st (fun _ hk => s_mv (v := (bool (!r_180))) rfl hk) ?_
      refine aopsS_split rfl _ rfl (fun g27 => ?_) (fun g27 => ?_)
      ·
        replace H0 := iteF H0 (by simpa using g27)
        refine sx (fun _ hk => s_faOwn (j' := 3) fld_25_3 rfl rfl (isC (hl_self _ _ _)) hk) ?_
        refine sg rfl rfl (fun _ hk => s_load1 (c := (.sl (List.map Gate.cells b_177.Gates))) agg_22 (d_own rfl (hl_self _ _ _) rfl rfl) rfl hk) ?_
        refine aopsS_on rfl rfl fun _ hK => s_lenSl elem_22 rfl (fun hl30 => hK _ _ _ ?_)
        clear hK
        refine sg rfl rfl (fun _ hk => s_bin rfl rfl (b_gtr hk)) ?_
        refine st (fun _ hk => s_pickF (v := (bool (decide (8 < (List.length b_177.Gates : Int))))) rfl rfl hk) ?_
        refine st (fun _ hk => s_mv (v := (bool (decide (8 < (List.length b_177.Gates : Int))))) rfl hk) ?_
        refine aopsS_split rfl _ rfl (fun g34 => ?_) (fun g34 => ?_)
        ·
          replace H0 := iteF H0 (by simpa using g34)
          refine sx (fun _ hk => s_faOwn (j' := 4) fld_25_4 rfl rfl (isC (hl_self _ _ _)) hk) ?_
          refine sg rfl rfl (fun _ hk => s_load1 (c := (.sl (List.map int1 b_177.Bins))) agg_23 (d_own rfl (hl_self _ _ _) rfl rfl) rfl hk) ?_
          refine aopsS_on rfl rfl fun _ hK => s_lenSl elem_23 rfl (fun hl37 => hK _ _ _ ?_)
          clear hK
          refine sg rfl rfl (fun _ hk => s_bin rfl rfl (b_neq hk)) ?_
          refine st (fun _ hk => s_pickF (v := (bool ((List.length b_177.Bins : Int) != 16))) rfl rfl hk) ?_
          refine aopsS_end (hK4 _ (SatL.norm (n := 1) (h := hl [(0, (some (.cells 5 25 [[(int b_177.Length), (int b_177.Camera), (int b_177.Slow), (.sl (List.map Gate.cells b_177.Gates)), (.sl (List.map int1 b_177.Bins))]])))]) (env' := [(1, (.own 0 0 0)), (36, (bool ((List.length b_177.Bins : Int) != 16)))]) (L' := [(0, (some (.cells 5 25 [[(int b_177.Length), (int b_177.Camera), (int b_177.Slow), (.sl (List.map Gate.cells b_177.Gates)), (.sl (List.map int1 b_177.Bins))]])))]) rfl hs_refl ?_))
          repeat refine SatL.seq ?_
          refine SatL.condX rfl (fun hc40 => ?_) (fun hc40 => ?_)
          ·
            replace H0 := iteT H0 hc40
            repeat refine SatL.seq ?_
            refine SatL.reg [2] [some 2] rfl rfl fun K41 hK41 => ?_
            refine st (fun _ hk => s_as (v := (bool false)) rfl hk) ?_
            refine aopsS_end (hK41 _ (SatL.norm (n := 1) (h := hl [(0, (some (.cells 5 25 [[(int b_177.Length), (int b_177.Camera), (int b_177.Slow), (.sl (List.map Gate.cells b_177.Gates)), (.sl (List.map int1 b_177.Bins))]])))]) (env' := [(2, (bool false))]) (L' := []) rfl hs_nil ?_))
            obtain rfl := Option.some.inj H0
            exact SatL.ret (fnQ_snap [] (bool false) (bool false) rfl (Snap.free _ (.sc _)) rfl)
          ·
            replace H0 := iteF H0 hc40
            refine SatL.skip ?_
            repeat refine SatL.seq ?_
            refine SatL.reg [1, 3] [some 3] rfl rfl fun K43 hK43 => ?_
            refine st (fun _ hk => s_as (v := (int 0)) rfl hk) ?_
            refine aopsS_end (hK43 _ (SatL.norm (n := 1) (h := hl [(0, (some (.cells 5 25 [[(int b_177.Length), (int b_177.Camera), (int b_177.Slow), (.sl (List.map Gate.cells b_177.Gates)), (.sl (List.map int1 b_177.Bins))]])))]) (env' := [(1, (.own 0 0 0)), (3, (int 0))]) (L' := [(0, (some (.cells 5 25 [[(int b_177.Length), (int b_177.Camera), (int b_177.Slow), (.sl (List.map Gate.cells b_177.Gates)), (.sl (List.map int1 b_177.Bins))]])))]) rfl hs_refl ?_))
            repeat refine SatL.seq ?_
            obtain ⟨o_216, H1, H0⟩ := bindS H0
            refine SatL.mid [1] (fun s_ => ∃ (n_215 : Nat), (Sum.inr ()) = o_216 ∧ StLe s_ [(1, (.own 0 0 0))] [(0, (some (.cells 5 25 [[(int b_177.Length), (int b_177.Camera), (int b_177.Slow), (.sl (List.map Gate.cells b_177.Gates)), (.sl (List.map int1 b_177.Bins))]])))] n_215 ∧ 0 < n_215) ?_ ?_
            ·
              repeat refine SatL.seq ?_
              refine SatL.block ?_
              repeat refine SatL.seq ?_
              refine SatL.loopK [1, 3] (fun k0 s_ => ∃ (i_224 : Int) (n_225 : Nat), StLe s_ [(1, (.own 0 0 0)), (3, (int i_224))] [(0, (some (.cells 5 25 [[(int b_177.Length), (int b_177.Camera), (int b_177.Slow), (.sl (List.map Gate.cells b_177.Gates)), (.sl (List.map int1 b_177.Bins))]])))] n_225 ∧ 0 < n_225 ∧ 0 ≤ i_224 ∧ k0 = Int.toNat ((List.length b_177.Gates : Int) - i_224) ∧ ref09_Belt_L0 b_177 k0 i_224 = some o_216) (Int.toNat ((List.length b_177.Gates : Int) - 0)) ?_ ?_
              · exact ⟨0, 1, (StLe.of [(0, (some (.cells 5 25 [[(int b_177.Length), (int b_177.Camera), (int b_177.Slow), (.sl (List.map Gate.cells b_177.Gates)), (.sl (List.map int1 b_177.Bins))]])))] 1 rfl (hs_cons (hl_self _ _ _) hs_nil) (Nat.le_refl _)), (by omega), (by omega), rfl, H1⟩
              rintro k0 s_ ⟨i_224, n_225, hs_, _, _, hk_, H1⟩
              refine SatL.le hs_ ?_
              clear hs_
              rcases k0 with _ | k0
              ·
                rw [ref09_Belt_L0.eq_1] at H1
                repeat refine SatL.seq ?_
                refine SatL.reg [1, 3, 41] [some 37, some 38, some 39, some 40, some 41] rfl rfl fun K590 hK590 => ?_
                refine st (fun _ hk => s_mv (v := (int i_224)) rfl hk) ?_
                refine st (fun _ hk => s_faOwn (j' := 3) fld_25_3 rfl rfl (isC (hl_self _ _ _)) hk) ?_
                refine st (fun _ hk => s_load1 (c := (.sl (List.map Gate.cells b_177.Gates))) agg_22 (d_own rfl (hl_self _ _ _) rfl rfl) rfl hk) ?_
                refine aopsS_step fun _ hK => s_lenSl elem_22 rfl (fun hl594 => hK _ _ _ ?_)
                clear hK
                refine st (fun _ hk => s_bin rfl rfl (b_lss hk)) ?_
                refine aopsS_end (hK590 _ (SatL.norm (n := n_225) (h := hl [(0, (some (.cells 5 25 [[(int b_177.Length), (int b_177.Camera), (int b_177.Slow), (.sl (List.map Gate.cells b_177.Gates)), (.sl (List.map int1 b_177.Bins))]])))]) (env' := [(1, (.own 0 0 0)), (3, (int i_224)), (41, (bool (decide (i_224 < (List.length b_177.Gates : Int)))))]) (L' := [(0, (some (.cells 5 25 [[(int b_177.Length), (int b_177.Camera), (int b_177.Slow), (.sl (List.map Gate.cells b_177.Gates)), (.sl (List.map int1 b_177.Bins))]])))]) rfl hs_refl ?_))
                repeat refine SatL.seq ?_
                refine SatL.condF rfl (decide_eq_false (by omega)) ?_
                refine SatL.exit ?_
                simp only [thenQ, blockQ, if_true, reduceIte, Nat.reduceEqDiff]
                obtain rfl := Option.some.inj H1
                exact SatL.nil (thenN ⟨n_225, rfl, (StLe.of [(0, (some (.cells 5 25 [[(int b_177.Length), (int b_177.Camera), (int b_177.Slow), (.sl (List.map Gate.cells b_177.Gates)), (.sl (List.map int1 b_177.Bins))]])))] n_225 rfl (hs_cons (hl_self _ _ _) hs_nil) (Nat.le_refl _)), (by omega)⟩)
              ·
                rw [ref09_Belt_L0.eq_2] at H1
                repeat refine SatL.seq ?_
                refine SatL.reg [1, 3, 41] [some 37, some 38, some 39, some 40, some 41] rfl rfl fun K596 hK596 => ?_
                refine st (fun _ hk => s_mv (v := (int i_224)) rfl hk) ?_
                refine st (fun _ hk => s_faOwn (j' := 3) fld_25_3 rfl rfl (isC (hl_self _ _ _)) hk) ?_
                refine st (fun _ hk => s_load1 (c := (.sl (List.map Gate.cells b_177.Gates))) agg_22 (d_own rfl (hl_self _ _ _) rfl rfl) rfl hk) ?_
                refine aopsS_step fun _ hK => s_lenSl elem_22 rfl (fun hl600 => hK _ _ _ ?_)
                clear hK
                refine st (fun _ hk => s_bin rfl rfl (b_lss hk)) ?_
                refine aopsS_end (hK596 _ (SatL.norm (n := n_225) (h := hl [(0, (some (.cells 5 25 [[(int b_177.Length), (int b_177.Camera), (int b_177.Slow), (.sl (List.map Gate.cells b_177.Gates)), (.sl (List.map int1 b_177.Bins))]])))]) (env' := [(1, (.own 0 0 0)), (3, (int i_224)), (41, (bool (decide (i_224 < (List.length b_177.Gates : Int)))))]) (L' := [(0, (some (.cells 5 25 [[(int b_177.Length), (int b_177.Camera), (int b_177.Slow), (.sl (List.map Gate.cells b_177.Gates)), (.sl (List.map int1 b_177.Bins))]])))]) rfl hs_refl ?_))
                repeat refine SatL.seq ?_
                refine SatL.condT rfl (decide_eq_true (by omega)) ?_
                have hlt602 : (i_224 < (List.length b_177.Gates : Int)) := by omega
                refine SatL.skip ?_
                repeat refine SatL.seq ?_
                refine SatL.block ?_
                repeat refine SatL.seq ?_
                refine SatL.reg [1, 3, 4] [some 44, some 45, some 46, some 47, some 48, some 4, none] rfl rfl fun K603 hK603 => ?_
                refine st (fun _ hk => s_faOwn (j' := 3) fld_25_3 rfl rfl (isC (hl_self _ _ _)) hk) ?_
                refine st (fun _ hk => s_load1 (c := (.sl (List.map Gate.cells b_177.Gates))) agg_22 (d_own rfl (hl_self _ _ _) rfl rfl) rfl hk) ?_
                refine st (fun _ hk => s_mv (v := (int i_224)) rfl hk) ?_
                obtain ⟨e_233, he_233, H1⟩ := bindS H1
                refine st (fun _ hk => s_ixSl elem_22 rfl rfl he_233 cells_89 rfl (by decide) hk) ?_
                refine st (fun _ hk => s_loadA (cs' := [(int e_233.At), (int e_233.Bin)]) agg_89 cells_89 (d_fp rfl) (Nat.le_of_ble_eq_true rfl) rfl hk) ?_
                refine st (fun _ hk => s_alloc (m := 2) (n' := (n_225 + 1)) zero_89 rfl rfl hk) ?_
                refine s0 (fun _ hk => s_store (E := [[(int e_233.At), (int e_233.Bin)]]) rfl (hl_self _ _ _) rfl rfl cells_89 rfl (by decide) (Nat.le_of_ble_eq_true rfl) rfl (hu_self _ _ _ _) hk) ?_
                refine aopsS_end (hK603 _ (SatL.norm (n := (n_225 + 1)) (h := hl [(n_225, (some (.cells 2 89 [[(int e_233.At), (int e_233.Bin)]]))), (0, (some (.cells 5 25 [[(int b_177.Length), (int b_177.Camera), (int b_177.Slow), (.sl (List.map Gate.cells b_177.Gates)), (.sl (List.map int1 b_177.Bins))]])))]) (env' := [(1, (.own 0 0 0)), (3, (int i_224)), (4, (.own n_225 0 0))]) (L' := [(0, (some (.cells 5 25 [[(int b_177.Length), (int b_177.Camera), (int b_177.Slow), (.sl (List.map Gate.cells b_177.Gates)), (.sl (List.map int1 b_177.Bins))]]))), (n_225, (some (.cells 2 89 [[(int e_233.At), (int e_233.Bin)]])))]) rfl (hs_cons (hl_ne (j := 0) (i := n_225) (by omega) (hl_self _ _ _)) (hs_cons (hl_self _ _ _) hs_nil)) ?_))
                repeat refine SatL.seq ?_
                refine SatL.draw [1, 3, 88] [] [] [some 49, some 50, some 51, some 52, some 53, some 54, some 55, some 56, some 57, some 58, some 59, some 60, some 61, some 62, some 63, some 64, some 65, some 66, some 67, some 68, some 69, some 70, some 71, some 72, some 73, some 74, some 75, some 76, some 77, some 78, some 79, some 80, some 81, some 82, some 83, some 84, some 85, some 86, some 87, some 88] rfl (by kernel_rfl) (by kernel_rfl) rfl rfl fun K611 hK611 => ?_
                refine dd_step (ds_r0 _ rfl rfl (fun _ hK => s_faOwn (j' := 0) fld_89_0 rfl rfl (isC (hl_ne (j := n_225) (i := 0) (by omega) (hl_self _ _ _))) hK) ?_)
                refine dd_step (ds_r0 _ rfl rfl (fun _ hK => s_load1 (c := (int e_233.At)) agg_3 (d_own rfl (hl_ne (j := n_225) (i := 0) (by omega) (hl_self _ _ _)) rfl rfl) rfl hK) ?_)
                refine dd_step (ds_r0 _ rfl rfl (fun _ hK => s_faOwn (j' := 1) fld_25_1 rfl rfl (isC (hl_self _ _ _)) hK) ?_)
                refine dd_step (ds_r0 _ rfl rfl (fun _ hK => s_load1 (c := (int b_177.Camera)) agg_3 (d_own rfl (hl_self _ _ _) rfl rfl) rfl hK) ?_)
                refine dd_step (ds_r0 _ rfl rfl (fun _ hK => s_bin rfl rfl (b_add64 hK)) ?_)
                refine dd_step (ds_r0 _ rfl rfl (fun _ hK => s_faOwn (j' := 0) fld_25_0 rfl rfl (isC (hl_self _ _ _)) hK) ?_)
                refine dd_step (ds_r0 _ rfl rfl (fun _ hK => s_load1 (c := (int b_177.Length)) agg_3 (d_own rfl (hl_self _ _ _) rfl rfl) rfl hK) ?_)
                refine dd_step (ds_r0 _ rfl rfl (fun _ hK => s_bin rfl rfl (b_sub64 hK)) ?_)
                obtain ⟨r_234, hr_234, H1⟩ := bindS H1
                refine dd_step (ds_r0 _ rfl rfl (fun _ hK => s_call (avs := [(int e_233.At), (int (w64 (b_177.Camera + 1))), (int (w64 (b_177.Length - 1)))]) rfl rfl rfl (PC.call1 (ref09_within_PC hr_234) (FreeL.cons (.sc _) (FreeL.cons (.sc _) (FreeL.cons (.sc _) FreeL.nil))) hK)) ?_)
                refine dd_step (ds_r0 _ rfl rfl (fun _ hK => s_not rfl hK) ?_)
                refine dd_step (ds_r0 _ rfl rfl (fun _ hK => s_mv (v := (bool (!r_234))) rfl hK) ?_)
                refine dd_split rfl _ rfl (fun g623 => ?_) (fun g623 => ?_)
                ·
                  replace H1 := iteF H1 (by simpa using g623)
                  refine ds_r0 _ rfl rfl (fun _ hK => s_mv (v := (int i_224)) rfl hK) ?_
                  refine dd_on rfl rfl (ds_r0 _ rfl rfl (fun _ hK => s_bin rfl rfl (b_gtr hK)) ?_)
                  refine dd_on rfl rfl (ds_r0 _ rfl rfl (fun _ hK => s_mv (v := (bool (decide (0 < i_224)))) rfl hK) ?_)
                  refine dd_split rfl _ rfl (fun g627 => ?_) (fun g627 => ?_)
                  ·
                    replace H1 := iteT H1 (by simpa using g627)
                    refine ds_r0 _ rfl rfl (fun _ hK => s_faOwn (j' := 0) fld_89_0 rfl rfl (isC (hl_ne (j := n_225) (i := 0) (by omega) (hl_self _ _ _))) hK) ?_
                    refine dd_on rfl rfl (ds_r0 _ rfl rfl (fun _ hK => s_load1 (c := (int e_233.At)) agg_3 (d_own rfl (hl_ne (j := n_225) (i := 0) (by omega) (hl_self _ _ _)) rfl rfl) rfl hK) ?_)
                    refine dd_on rfl rfl (ds_r0 _ rfl rfl (fun _ hK => s_faOwn (j' := 3) fld_25_3 rfl rfl (isC (hl_self _ _ _)) hK) ?_)
                    refine dd_on rfl rfl (ds_r0 _ rfl rfl (fun _ hK => s_load1 (c := (.sl (List.map Gate.cells b_177.Gates))) agg_22 (d_own rfl (hl_self _ _ _) rfl rfl) rfl hK) ?_)
                    refine dd_on rfl rfl (ds_r0 _ rfl rfl (fun _ hK => s_mv (v := (int i_224)) rfl hK) ?_)
                    refine dd_on rfl rfl (ds_r0 _ rfl rfl (fun _ hK => s_bin rfl rfl (b_sub64 hK)) ?_)
                    obtain ⟨e_235, he_235, H1⟩ := bindS H1
                    refine dd_on rfl rfl (ds_r0 _ rfl rfl (fun _ hK => s_ixSl elem_22 rfl rfl he_235 cells_89 rfl (by decide) hK) ?_)
                    refine dd_on rfl rfl (ds_r0 _ rfl rfl (fun _ hK => s_faFp (cs' := [(int e_235.At), (int e_235.Bin)]) fld_89_0 rfl rfl hK) ?_)
                    refine dd_on rfl rfl (ds_r0 _ rfl rfl (fun _ hK => s_load1 (c := (int e_235.At)) agg_3 (d_fp rfl) rfl hK) ?_)
                    refine dd_on rfl rfl (ds_r0 _ rfl rfl (fun _ hK => s_bin rfl rfl (b_leq hK)) ?_)
                    refine dd_on rfl rfl (ds_r0 _ rfl rfl (fun _ hK => s_pickT (v := (bool (decide (e_233.At ≤ e_235.At)))) rfl rfl hK) ?_)
                    refine dd_step (ds_r0 _ rfl rfl (fun _ hK => s_pickF (v := (bool (decide (e_233.At ≤ e_235.At)))) rfl rfl hK) ?_)
                    refine dd_step (ds_r0 _ rfl rfl (fun _ hK => s_mv (v := (bool (decide (e_233.At ≤ e_235.At)))) rfl hK) ?_)
                    refine dd_split rfl _ rfl (fun g641 => ?_) (fun g641 => ?_)
                    ·
                      replace H1 := iteF H1 (by simpa using g641)
                      refine ds_r0 _ rfl rfl (fun _ hK => s_faOwn (j' := 1) fld_89_1 rfl rfl (isC (hl_ne (j := n_225) (i := 0) (by omega) (hl_self _ _ _))) hK) ?_
                      refine dd_on rfl rfl (ds_r0 _ rfl rfl (fun _ hK => s_load1 (c := (int e_233.Bin)) agg_3 (d_own rfl (hl_ne (j := n_225) (i := 0) (by omega) (hl_self _ _ _)) rfl rfl) rfl hK) ?_)
                      obtain ⟨r_236, hr_236, H1⟩ := bindS H1
                      refine dd_on rfl rfl (ds_r0 _ rfl rfl (fun _ hK => s_call (avs := [(int e_233.Bin), (int 0), (int 7)]) rfl rfl rfl (PC.call1 (ref09_within_PC hr_236) (FreeL.cons (.sc _) (FreeL.cons (.sc _) (FreeL.cons (.sc _) FreeL.nil))) hK)) ?_)
                      refine dd_on rfl rfl (ds_r0 _ rfl rfl (fun _ hK => s_not rfl hK) ?_)
                      refine dd_step (ds_r0 _ rfl rfl (fun _ hK => s_pickF (v := (bool (!r_236))) rfl rfl hK) ?_)
                      refine dd_step (ds_r0 _ rfl rfl (fun _ hK => s_mv (v := (bool (!r_236))) rfl hK) ?_)
                      refine dd_split rfl _ rfl (fun g648 => ?_) (fun g648 => ?_)
                      ·
                        replace H1 := iteF H1 (by simpa using g648)
                        refine ds_r0 _ rfl rfl (fun _ hK => s_loadA (cs' := [(int b_177.Length), (int b_177.Camera), (int b_177.Slow), (.sl (List.map Gate.cells b_177.Gates)), (.sl (List.map int1 b_177.Bins))]) agg_25 cells_25 (d_own rfl (hl_self _ _ _) rfl rfl) (Nat.le_of_ble_eq_true rfl) rfl hK) ?_
                        refine dd_on rfl rfl (ds_r0 _ rfl rfl (fun _ hK => s_faOwn (j' := 1) fld_89_1 rfl rfl (isC (hl_ne (j := n_225) (i := 0) (by omega) (hl_self _ _ _))) hK) ?_)
                        refine dd_on rfl rfl (ds_r0 _ rfl rfl (fun _ hK => s_load1 (c := (int e_233.Bin)) agg_3 (d_own rfl (hl_ne (j := n_225) (i := 0) (by omega) (hl_self _ _ _)) rfl rfl) rfl hK) ?_)
                        obtain ⟨r_237, hr_237, H1⟩ := bindS H1
                        refine dd_on rfl rfl (ds_r0 _ rfl rfl (fun _ hK => s_call (avs := [(.ag [(int b_177.Length), (int b_177.Camera), (int b_177.Slow), (.sl (List.map Gate.cells b_177.Gates)), (.sl (List.map int1 b_177.Bins))]), (int e_233.Bin)]) rfl rfl rfl (PC.call1 (ref09_Leads_PC hr_237) (FreeL.cons (Free.agl (FreeL.cons (.sc _) (FreeL.cons (.sc _) (FreeL.cons (.sc _) (FreeL.cons (Free.slm Gate.fr) (FreeL.cons (Free.slm fr_int1) FreeL.nil)))))) (FreeL.cons (.sc _) FreeL.nil)) hK)) ?_)
                        refine dd_on rfl rfl (ds_r0 _ rfl rfl (fun _ hK => s_mv (v := (int i_224)) rfl hK) ?_)
                        refine dd_on rfl rfl (ds_r0 _ rfl rfl (fun _ hK => s_bin rfl rfl (b_neq hK)) ?_)
                        refine dd_step (ds_r0 _ rfl rfl (fun _ hK => s_pickF (v := (bool (r_237 != i_224))) rfl rfl hK) ?_)
                        refine dd_end rc_nil (hK611 _ (SatL.norm (n := (n_225 + 1)) (h := hl [(0, (some (.cells 5 25 [[(int b_177.Length), (int b_177.Camera), (int b_177.Slow), (.sl (List.map Gate.cells b_177.Gates)), (.sl (List.map int1 b_177.Bins))]]))), (n_225, (some (.cells 2 89 [[(int e_233.At), (int e_233.Bin)]])))]) (env' := [(1, (.own 0 0 0)), (3, (int i_224)), (88, (bool (r_237 != i_224)))]) (L' := [(0, (some (.cells 5 25 [[(int b_177.Length), (int b_177.Camera), (int b_177.Slow), (.sl (List.map Gate.cells b_177.Gates)), (.sl (List.map int1 b_177.Bins))]])))]) rfl (hs_cons (hl_self _ _ _) hs_nil) ?_))
                        repeat refine SatL.seq ?_
                        refine SatL.condX rfl (fun hc656 => ?_) (fun hc656 => ?_)
                        ·
                          replace H1 := iteT H1 hc656
                          repeat refine SatL.seq ?_
                          refine SatL.reg [2] [some 2] rfl rfl fun K657 hK657 => ?_
                          refine st (fun _ hk => s_as (v := (bool false)) rfl hk) ?_
                          refine aopsS_end (hK657 _ (SatL.norm (n := (n_225 + 1)) (h := hl [(0, (some (.cells 5 25 [[(int b_177.Length), (int b_177.Camera), (int b_177.Slow), (.sl (List.map Gate.cells b_177.Gates)), (.sl (List.map int1 b_177.Bins))]])))]) (env' := [(2, (bool false))]) (L' := []) rfl hs_nil ?_))
                          obtain rfl := Option.some.inj H1
                          obtain rfl := Option.some.inj H0
                          exact SatL.ret (fnQ_snap [] (bool false) (bool false) rfl (Snap.free _ (.sc _)) rfl)
                        ·
                          replace H1 := iteF H1 hc656
                          refine SatL.skip ?_
                          refine SatL.nil (blockN (thenN ?_))
                          repeat refine SatL.seq ?_
                          refine SatL.rege [some 42, some 43, some 3] rfl rfl fun K659 hK659 => ?_
                          refine st (fun _ hk => s_mv (v := (int i_224)) rfl hk) ?_
                          refine st (fun _ hk => s_bin rfl rfl (b_add64 hk)) ?_
                          refine st (fun _ hk => s_as (v := (int (w64 (i_224 + 1)))) rfl hk) ?_
                          refine aopsS_end (hK659 _ ?_)
                          have hw663 : w64 (i_224 + 1) = i_224 + 1 := w64_id (by omega) (by omega)
                          exact (thenN ⟨k0, ⟨(w64 (i_224 + 1)), (n_225 + 1), (StLe.of [(0, (some (.cells 5 25 [[(int b_177.Length), (int b_177.Camera), (int b_177.Slow), (.sl (List.map Gate.cells b_177.Gates)), (.sl (List.map int1 b_177.Bins))]])))] (n_225 + 1) rfl (hs_cons (hl_self _ _ _) hs_nil) (Nat.le_refl _)), (by omega), (by omega), (by rw [hw663]; omega), (Eq.mpr (congrArg (fun q_ => ref09_Belt_L0 b_177 k0 q_ = some o_216) hw663) H1)⟩, by omega⟩)
                      ·
                        replace H1 := iteT H1 (by simpa using g648)
                        refine dd_off rfl rfl ?_
                        refine dd_off rfl rfl ?_
                        refine dd_off rfl rfl ?_
                        refine dd_off rfl rfl ?_
                        refine dd_off rfl rfl ?_
                        refine dd_step (ds_r0 _ rfl rfl (fun _ hK => s_pickT (v := (bool true)) rfl rfl hK) ?_)
                        refine dd_end rc_nil (hK611 _ (SatL.norm (n := (n_225 + 1)) (h := hl [(0, (some (.cells 5 25 [[(int b_177.Length), (int b_177.Camera), (int b_177.Slow), (.sl (List.map Gate.cells b_177.Gates)), (.sl (List.map int1 b_177.Bins))]]))), (n_225, (some (.cells 2 89 [[(int e_233.At), (int e_233.Bin)]])))]) (env' := [(1, (.own 0 0 0)), (3, (int i_224)), (88, (bool true))]) (L' := [(0, (some (.cells 5 25 [[(int b_177.Length), (int b_177.Camera), (int b_177.Slow), (.sl (List.map Gate.cells b_177.Gates)), (.sl (List.map int1 b_177.Bins))]])))]) rfl (hs_cons (hl_self _ _ _) hs_nil) ?_))
                        repeat refine SatL.seq ?_
                        refine SatL.condT rfl rfl ?_
                        repeat refine SatL.seq ?_
                        refine SatL.reg [2] [some 2] rfl rfl fun K665 hK665 => ?_
                        refine st (fun _ hk => s_as (v := (bool false)) rfl hk) ?_
                        refine aopsS_end (hK665 _ (SatL.norm (n := (n_225 + 1)) (h := hl [(0, (some (.cells 5 25 [[(int b_177.Length), (int b_177.Camera), (int b_177.Slow), (.sl (List.map Gate.cells b_177.Gates)), (.sl (List.map int1 b_177.Bins))]])))]) (env' := [(2, (bool false))]) (L' := []) rfl hs_nil ?_))
                        obtain rfl := Option.some.inj H1
                        obtain rfl := Option.some.inj H0
                        exact SatL.ret (fnQ_snap [] (bool false) (bool false) rfl (Snap.free _ (.sc _)) rfl)
                    ·
                      replace H1 := iteT H1 (by simpa using g641)
                      refine dd_off rfl rfl ?_
                      refine dd_off rfl rfl ?_
                      refine dd_off rfl rfl ?_
                      refine dd_step (ds_r0 _ rfl rfl (fun _ hK => s_pickT (v := (bool true)) rfl rfl hK) ?_)
                      refine dd_step (ds_r0 _ rfl rfl (fun _ hK => s_mv (v := (bool true)) rfl hK) ?_)
                      refine dd_off rfl rfl ?_
                      refine dd_off rfl rfl ?_
                      refine dd_off rfl rfl ?_
                      refine dd_off rfl rfl ?_
                      refine dd_off rfl rfl ?_
                      refine dd_off rfl rfl ?_
                      refine dd_step (ds_r0 _ rfl rfl (fun _ hK => s_pickT (v := (bool true)) rfl rfl hK) ?_)
                      refine dd_end rc_nil (hK611 _ (SatL.norm (n := (n_225 + 1)) (h := hl [(0, (some (.cells 5 25 [[(int b_177.Length), (int b_177.Camera), (int b_177.Slow), (.sl (List.map Gate.cells b_177.Gates)), (.sl (List.map int1 b_177.Bins))]]))), (n_225, (some (.cells 2 89 [[(int e_233.At), (int e_233.Bin)]])))]) (env' := [(1, (.own 0 0 0)), (3, (int i_224)), (88, (bool true))]) (L' := [(0, (some (.cells 5 25 [[(int b_177.Length), (int b_177.Camera), (int b_177.Slow), (.sl (List.map Gate.cells b_177.Gates)), (.sl (List.map int1 b_177.Bins))]])))]) rfl (hs_cons (hl_self _ _ _) hs_nil) ?_))
                      repeat refine SatL.seq ?_
                      refine SatL.condT rfl rfl ?_
                      repeat refine SatL.seq ?_
                      refine SatL.reg [2] [some 2] rfl rfl fun K670 hK670 => ?_
                      refine st (fun _ hk => s_as (v := (bool false)) rfl hk) ?_
                      refine aopsS_end (hK670 _ (SatL.norm (n := (n_225 + 1)) (h := hl [(0, (some (.cells 5 25 [[(int b_177.Length), (int b_177.Camera), (int b_177.Slow), (.sl (List.map Gate.cells b_177.Gates)), (.sl (List.map int1 b_177.Bins))]])))]) (env' := [(2, (bool false))]) (L' := []) rfl hs_nil ?_))
                      obtain rfl := Option.some.inj H1
                      obtain rfl := Option.some.inj H0
                      exact SatL.ret (fnQ_snap [] (bool false) (bool false) rfl (Snap.free _ (.sc _)) rfl)
                  ·
                    replace H1 := iteF H1 (by simpa using g627)
                    refine dd_off rfl rfl ?_
                    refine dd_off rfl rfl ?_
                    refine dd_off rfl rfl ?_
                    refine dd_off rfl rfl ?_
                    refine dd_off rfl rfl ?_
                    refine dd_off rfl rfl ?_
                    refine dd_off rfl rfl ?_
                    refine dd_off rfl rfl ?_
                    refine dd_off rfl rfl ?_
                    refine dd_on rfl rfl (ds_r0 _ rfl rfl (fun _ hK => s_pickF (v := (bool false)) rfl rfl hK) ?_)
                    refine dd_step (ds_r0 _ rfl rfl (fun _ hK => s_pickF (v := (bool false)) rfl rfl hK) ?_)
                    refine dd_step (ds_r0 _ rfl rfl (fun _ hK => s_mv (v := (bool false)) rfl hK) ?_)
                    refine dd_on rfl rfl (ds_r0 _ rfl rfl (fun _ hK => s_faOwn (j' := 1) fld_89_1 rfl rfl (isC (hl_ne (j := n_225) (i := 0) (by omega) (hl_self _ _ _))) hK) ?_)
                    refine dd_on rfl rfl (ds_r0 _ rfl rfl (fun _ hK => s_load1 (c := (int e_233.Bin)) agg_3 (d_own rfl (hl_ne (j := n_225) (i := 0) (by omega) (hl_self _ _ _)) rfl rfl) rfl hK) ?_)
                    obtain ⟨r_238, hr_238, H1⟩ := bindS H1
                    refine dd_on rfl rfl (ds_r0 _ rfl rfl (fun _ hK => s_call (avs := [(int e_233.Bin), (int 0), (int 7)]) rfl rfl rfl (PC.call1 (ref09_within_PC hr_238) (FreeL.cons (.sc _) (FreeL.cons (.sc _) (FreeL.cons (.sc _) FreeL.nil))) hK)) ?_)
                    refine dd_on rfl rfl (ds_r0 _ rfl rfl (fun _ hK => s_not rfl hK) ?_)
                    refine dd_step (ds_r0 _ rfl rfl (fun _ hK => s_pickF (v := (bool (!r_238))) rfl rfl hK) ?_)
                    refine dd_step (ds_r0 _ rfl rfl (fun _ hK => s_mv (v := (bool (!r_238))) rfl hK) ?_)
                    refine dd_split rfl _ rfl (fun g681 => ?_) (fun g681 => ?_)
                    ·
                      replace H1 := iteF H1 (by simpa using g681)
                      refine ds_r0 _ rfl rfl (fun _ hK => s_loadA (cs' := [(int b_177.Length), (int b_177.Camera), (int b_177.Slow), (.sl (List.map Gate.cells b_177.Gates)), (.sl (List.map int1 b_177.Bins))]) agg_25 cells_25 (d_own rfl (hl_self _ _ _) rfl rfl) (Nat.le_of_ble_eq_true rfl) rfl hK) ?_
                      refine dd_on rfl rfl (ds_r0 _ rfl rfl (fun _ hK => s_faOwn (j' := 1) fld_89_1 rfl rfl (isC (hl_ne (j := n_225) (i := 0) (by omega) (hl_self _ _ _))) hK) ?_)
                      refine dd_on rfl rfl (ds_r0 _ rfl rfl (fun _ hK => s_load1 (c := (int e_233.Bin)) agg_3 (d_own rfl (hl_ne (j := n_225) (i := 0) (by omega) (hl_self _ _ _)) rfl rfl) rfl hK) ?_)
                      obtain ⟨r_239, hr_239, H1⟩ := bindS H1
                      refine dd_on rfl rfl (ds_r0 _ rfl rfl (fun _ hK => s_call (avs := [(.ag [(int b_177.Length), (int b_177.Camera), (int b_177.Slow), (.sl (List.map Gate.cells b_177.Gates)), (.sl (List.map int1 b_177.Bins))]), (int e_233.Bin)]) rfl rfl rfl (PC.call1 (ref09_Leads_PC hr_239) (FreeL.cons (Free.agl (FreeL.cons (.sc _) (FreeL.cons (.sc _) (FreeL.cons (.sc _) (FreeL.cons (Free.slm Gate.fr) (FreeL.cons (Free.slm fr_int1) FreeL.nil)))))) (FreeL.cons (.sc _) FreeL.nil)) hK)) ?_)
                      refine dd_on rfl rfl (ds_r0 _ rfl rfl (fun _ hK => s_mv (v := (int i_224)) rfl hK) ?_)
                      refine dd_on rfl rfl (ds_r0 _ rfl rfl (fun _ hK => s_bin rfl rfl (b_neq hK)) ?_)
                      refine dd_step (ds_r0 _ rfl rfl (fun _ hK => s_pickF (v := (bool (r_239 != i_224))) rfl rfl hK) ?_)
                      refine dd_end rc_nil (hK611 _ (SatL.norm (n := (n_225 + 1)) (h := hl [(0, (some (.cells 5 25 [[(int b_177.Length), (int b_177.Camera), (int b_177.Slow), (.sl (List.map Gate.cells b_177.Gates)), (.sl (List.map int1 b_177.Bins))]]))), (n_225, (some (.cells 2 89 [[(int e_233.At), (int e_233.Bin)]])))]) (env' := [(1, (.own 0 0 0)), (3, (int i_224)), (88, (bool (r_239 != i_224)))]) (L' := [(0, (some (.cells 5 25 [[(int b_177.Length), (int b_177.Camera), (int b_177.Slow), (.sl (List.map Gate.cells b_177.Gates)), (.sl (List.map int1 b_177.Bins))]])))]) rfl (hs_cons (hl_self _ _ _) hs_nil) ?_))
                      repeat refine SatL.seq ?_
                      refine SatL.condX rfl (fun hc689 => ?_) (fun hc689 => ?_)
                      ·
                        replace H1 := iteT H1 hc689
                        repeat refine SatL.seq ?_
                        refine SatL.reg [2] [some 2] rfl rfl fun K690 hK690 => ?_
                        refine st (fun _ hk => s_as (v := (bool false)) rfl hk) ?_
                        refine aopsS_end (hK690 _ (SatL.norm (n := (n_225 + 1)) (h := hl [(0, (some (.cells 5 25 [[(int b_177.Length), (int b_177.Camera), (int b_177.Slow), (.sl (List.map Gate.cells b_177.Gates)), (.sl (List.map int1 b_177.Bins))]])))]) (env' := [(2, (bool false))]) (L' := []) rfl hs_nil ?_))
                        obtain rfl := Option.some.inj H1
                        obtain rfl := Option.some.inj H0
                        exact SatL.ret (fnQ_snap [] (bool false) (bool false) rfl (Snap.free _ (.sc _)) rfl)
                      ·
                        replace H1 := iteF H1 hc689
                        refine SatL.skip ?_
                        refine SatL.nil (blockN (thenN ?_))
                        repeat refine SatL.seq ?_
                        refine SatL.rege [some 42, some 43, some 3] rfl rfl fun K692 hK692 => ?_
                        refine st (fun _ hk => s_mv (v := (int i_224)) rfl hk) ?_
                        refine st (fun _ hk => s_bin rfl rfl (b_add64 hk)) ?_
                        refine st (fun _ hk => s_as (v := (int (w64 (i_224 + 1)))) rfl hk) ?_
                        refine aopsS_end (hK692 _ ?_)
                        have hw696 : w64 (i_224 + 1) = i_224 + 1 := w64_id (by omega) (by omega)
                        exact (thenN ⟨k0, ⟨(w64 (i_224 + 1)), (n_225 + 1), (StLe.of [(0, (some (.cells 5 25 [[(int b_177.Length), (int b_177.Camera), (int b_177.Slow), (.sl (List.map Gate.cells b_177.Gates)), (.sl (List.map int1 b_177.Bins))]])))] (n_225 + 1) rfl (hs_cons (hl_self _ _ _) hs_nil) (Nat.le_refl _)), (by omega), (by omega), (by rw [hw696]; omega), (Eq.mpr (congrArg (fun q_ => ref09_Belt_L0 b_177 k0 q_ = some o_216) hw696) H1)⟩, by omega⟩)
                    ·
                      replace H1 := iteT H1 (by simpa using g681)
                      refine dd_off rfl rfl ?_
                      refine dd_off rfl rfl ?_
                      refine dd_off rfl rfl ?_
                      refine dd_off rfl rfl ?_
                      refine dd_off rfl rfl ?_
                      refine dd_step (ds_r0 _ rfl rfl (fun _ hK => s_pickT (v := (bool true)) rfl rfl hK) ?_)
                      refine dd_end rc_nil (hK611 _ (SatL.norm (n := (n_225 + 1)) (h := hl [(0, (some (.cells 5 25 [[(int b_177.Length), (int b_177.Camera), (int b_177.Slow), (.sl (List.map Gate.cells b_177.Gates)), (.sl (List.map int1 b_177.Bins))]]))), (n_225, (some (.cells 2 89 [[(int e_233.At), (int e_233.Bin)]])))]) (env' := [(1, (.own 0 0 0)), (3, (int i_224)), (88, (bool true))]) (L' := [(0, (some (.cells 5 25 [[(int b_177.Length), (int b_177.Camera), (int b_177.Slow), (.sl (List.map Gate.cells b_177.Gates)), (.sl (List.map int1 b_177.Bins))]])))]) rfl (hs_cons (hl_self _ _ _) hs_nil) ?_))
                      repeat refine SatL.seq ?_
                      refine SatL.condT rfl rfl ?_
                      repeat refine SatL.seq ?_
                      refine SatL.reg [2] [some 2] rfl rfl fun K698 hK698 => ?_
                      refine st (fun _ hk => s_as (v := (bool false)) rfl hk) ?_
                      refine aopsS_end (hK698 _ (SatL.norm (n := (n_225 + 1)) (h := hl [(0, (some (.cells 5 25 [[(int b_177.Length), (int b_177.Camera), (int b_177.Slow), (.sl (List.map Gate.cells b_177.Gates)), (.sl (List.map int1 b_177.Bins))]])))]) (env' := [(2, (bool false))]) (L' := []) rfl hs_nil ?_))
                      obtain rfl := Option.some.inj H1
                      obtain rfl := Option.some.inj H0
                      exact SatL.ret (fnQ_snap [] (bool false) (bool false) rfl (Snap.free _ (.sc _)) rfl)
                ·
                  replace H1 := iteT H1 (by simpa using g623)
                  refine dd_off rfl rfl ?_
                  refine dd_off rfl rfl ?_
                  refine dd_ud rfl rfl ?_
                  refine dd_ud rfl rfl ?_
                  refine dd_ud rfl rfl ?_
                  refine dd_ud rfl rfl ?_
                  refine dd_ud rfl rfl ?_
                  refine dd_ud rfl rfl ?_
                  refine dd_ud rfl rfl ?_
                  refine dd_ud rfl rfl ?_
                  refine dd_ud rfl rfl ?_
                  refine dd_ud rfl rfl ?_
                  refine dd_off rfl rfl ?_
                  refine dd_step (ds_r0 _ rfl rfl (fun _ hK => s_pickT (v := (bool true)) rfl rfl hK) ?_)
                  refine dd_step (ds_r0 _ rfl rfl (fun _ hK => s_mv (v := (bool true)) rfl hK) ?_)
                  refine dd_off rfl rfl ?_
                  refine dd_off rfl rfl ?_
                  refine dd_off rfl rfl ?_
                  refine dd_off rfl rfl ?_
                  refine dd_step (ds_r0 _ rfl rfl (fun _ hK => s_pickT (v := (bool true)) rfl rfl hK) ?_)
                  refine dd_step (ds_r0 _ rfl rfl (fun _ hK => s_mv (v := (bool true)) rfl hK) ?_)
                  refine dd_off rfl rfl ?_
                  refine dd_off rfl rfl ?_
                  refine dd_off rfl rfl ?_
                  refine dd_off rfl rfl ?_
                  refine dd_off rfl rfl ?_
                  refine dd_off rfl rfl ?_
                  refine dd_step (ds_r0 _ rfl rfl (fun _ hK => s_pickT (v := (bool true)) rfl rfl hK) ?_)
                  refine dd_end rc_nil (hK611 _ (SatL.norm (n := (n_225 + 1)) (h := hl [(0, (some (.cells 5 25 [[(int b_177.Length), (int b_177.Camera), (int b_177.Slow), (.sl (List.map Gate.cells b_177.Gates)), (.sl (List.map int1 b_177.Bins))]]))), (n_225, (some (.cells 2 89 [[(int e_233.At), (int e_233.Bin)]])))]) (env' := [(1, (.own 0 0 0)), (3, (int i_224)), (88, (bool true))]) (L' := [(0, (some (.cells 5 25 [[(int b_177.Length), (int b_177.Camera), (int b_177.Slow), (.sl (List.map Gate.cells b_177.Gates)), (.sl (List.map int1 b_177.Bins))]])))]) rfl (hs_cons (hl_self _ _ _) hs_nil) ?_))
                  repeat refine SatL.seq ?_
                  refine SatL.condT rfl rfl ?_
                  repeat refine SatL.seq ?_
                  refine SatL.reg [2] [some 2] rfl rfl fun K705 hK705 => ?_
                  refine st (fun _ hk => s_as (v := (bool false)) rfl hk) ?_
                  refine aopsS_end (hK705 _ (SatL.norm (n := (n_225 + 1)) (h := hl [(0, (some (.cells 5 25 [[(int b_177.Length), (int b_177.Camera), (int b_177.Slow), (.sl (List.map Gate.cells b_177.Gates)), (.sl (List.map int1 b_177.Bins))]])))]) (env' := [(2, (bool false))]) (L' := []) rfl hs_nil ?_))
                  obtain rfl := Option.some.inj H1
                  obtain rfl := Option.some.inj H0
                  exact SatL.ret (fnQ_snap [] (bool false) (bool false) rfl (Snap.free _ (.sc _)) rfl)
            ·
              rintro s_ ⟨n_215, rfl, hs_, _⟩
              refine SatL.le hs_ ?_
              clear hs_
              replace H0 := sumun0S H0
              repeat refine SatL.seq ?_
              refine SatL.reg [1, 5] [some 5] rfl rfl fun K707 hK707 => ?_
              refine st (fun _ hk => s_as (v := (int 0)) rfl hk) ?_
              refine aopsS_end (hK707 _ (SatL.norm (n := n_215) (h := hl [(0, (some (.cells 5 25 [[(int b_177.Length), (int b_177.Camera), (int b_177.Slow), (.sl (List.map Gate.cells b_177.Gates)), (.sl (List.map int1 b_177.Bins))]])))]) (env' := [(1, (.own 0 0 0)), (5, (int 0))]) (L' := [(0, (some (.cells 5 25 [[(int b_177.Length), (int b_177.Camera), (int b_177.Slow), (.sl (List.map Gate.cells b_177.Gates)), (.sl (List.map int1 b_177.Bins))]])))]) rfl hs_refl ?_))
              repeat refine SatL.seq ?_
              obtain ⟨o_247, H1, H0⟩ := bindS H0
              refine SatL.mid [] (fun s_ => (Sum.inr ()) = o_247 ∧ StLe s_ [] [] n_215) ?_ ?_
              ·
                repeat refine SatL.seq ?_
                refine SatL.block ?_
                repeat refine SatL.seq ?_
                refine SatL.loopK [1, 5] (fun k0 s_ => ∃ (i_250 : Int), StLe s_ [(1, (.own 0 0 0)), (5, (int i_250))] [(0, (some (.cells 5 25 [[(int b_177.Length), (int b_177.Camera), (int b_177.Slow), (.sl (List.map Gate.cells b_177.Gates)), (.sl (List.map int1 b_177.Bins))]])))] n_215 ∧ 0 < n_215 ∧ 0 ≤ i_250 ∧ k0 = Int.toNat (16 - i_250) ∧ ref09_Belt_L1 b_177 k0 i_250 = some o_247) (Int.toNat (16 - 0)) ?_ ?_
                · exact ⟨0, (StLe.of [(0, (some (.cells 5 25 [[(int b_177.Length), (int b_177.Camera), (int b_177.Slow), (.sl (List.map Gate.cells b_177.Gates)), (.sl (List.map int1 b_177.Bins))]])))] n_215 rfl (hs_cons (hl_self _ _ _) hs_nil) (Nat.le_refl _)), (by omega), (by omega), rfl, H1⟩
                rintro k0 s_ ⟨i_250, hs_, _, _, hk_, H1⟩
                refine SatL.le hs_ ?_
                clear hs_
                rcases k0 with _ | k0
                ·
                  rw [ref09_Belt_L1.eq_1] at H1
                  repeat refine SatL.seq ?_
                  refine SatL.reg [1, 5, 90] [some 89, some 90] rfl rfl fun K804 hK804 => ?_
                  refine st (fun _ hk => s_mv (v := (int i_250)) rfl hk) ?_
                  refine st (fun _ hk => s_bin rfl rfl (b_lss hk)) ?_
                  refine aopsS_end (hK804 _ (SatL.norm (n := n_215) (h := hl [(0, (some (.cells 5 25 [[(int b_177.Length), (int b_177.Camera), (int b_177.Slow), (.sl (List.map Gate.cells b_177.Gates)), (.sl (List.map int1 b_177.Bins))]])))]) (env' := [(1, (.own 0 0 0)), (5, (int i_250)), (90, (bool (decide (i_250 < 16))))]) (L' := [(0, (some (.cells 5 25 [[(int b_177.Length), (int b_177.Camera), (int b_177.Slow), (.sl (List.map Gate.cells b_177.Gates)), (.sl (List.map int1 b_177.Bins))]])))]) rfl hs_refl ?_))
                  repeat refine SatL.seq ?_
                  refine SatL.condF rfl (decide_eq_false (by omega)) ?_
                  refine SatL.exit ?_
                  simp only [thenQ, blockQ, if_true, reduceIte, Nat.reduceEqDiff]
                  obtain rfl := Option.some.inj H1
                  exact SatL.nil (thenN ⟨rfl, (StLe.of [(0, (some (.cells 5 25 [[(int b_177.Length), (int b_177.Camera), (int b_177.Slow), (.sl (List.map Gate.cells b_177.Gates)), (.sl (List.map int1 b_177.Bins))]])))] n_215 rfl hs_nil (Nat.le_refl _))⟩)
                ·
                  rw [ref09_Belt_L1.eq_2] at H1
                  repeat refine SatL.seq ?_
                  refine SatL.reg [1, 5, 90] [some 89, some 90] rfl rfl fun K807 hK807 => ?_
                  refine st (fun _ hk => s_mv (v := (int i_250)) rfl hk) ?_
                  refine st (fun _ hk => s_bin rfl rfl (b_lss hk)) ?_
                  refine aopsS_end (hK807 _ (SatL.norm (n := n_215) (h := hl [(0, (some (.cells 5 25 [[(int b_177.Length), (int b_177.Camera), (int b_177.Slow), (.sl (List.map Gate.cells b_177.Gates)), (.sl (List.map int1 b_177.Bins))]])))]) (env' := [(1, (.own 0 0 0)), (5, (int i_250)), (90, (bool (decide (i_250 < 16))))]) (L' := [(0, (some (.cells 5 25 [[(int b_177.Length), (int b_177.Camera), (int b_177.Slow), (.sl (List.map Gate.cells b_177.Gates)), (.sl (List.map int1 b_177.Bins))]])))]) rfl hs_refl ?_))
                  repeat refine SatL.seq ?_
                  refine SatL.condT rfl (decide_eq_true (by omega)) ?_
                  have hlt810 : (i_250 < 16) := by omega
                  refine SatL.skip ?_
                  repeat refine SatL.seq ?_
                  refine SatL.block ?_
                  repeat refine SatL.seq ?_
                  refine SatL.reg [1, 5, 99] [some 93, some 94, some 95, some 96, some 97, some 98, some 99] rfl rfl fun K811 hK811 => ?_
                  refine st (fun _ hk => s_faOwn (j' := 4) fld_25_4 rfl rfl (isC (hl_self _ _ _)) hk) ?_
                  refine st (fun _ hk => s_load1 (c := (.sl (List.map int1 b_177.Bins))) agg_23 (d_own rfl (hl_self _ _ _) rfl rfl) rfl hk) ?_
                  refine st (fun _ hk => s_mv (v := (int i_250)) rfl hk) ?_
                  obtain ⟨e_253, he_253, H1⟩ := bindS H1
                  refine st (fun _ hk => s_ixSl elem_23 rfl rfl he_253 cells_3 rfl (by decide) hk) ?_
                  refine st (fun _ hk => s_load1 (c := (int e_253)) agg_3 (d_fp rfl) rfl hk) ?_
                  obtain ⟨r_254, hr_254, H1⟩ := bindS H1
                  refine st (fun _ hk => s_call (avs := [(int e_253), (int (-1)), (int 7)]) rfl rfl rfl (PC.call1 (ref09_within_PC hr_254) (FreeL.cons (.sc _) (FreeL.cons (.sc _) (FreeL.cons (.sc _) FreeL.nil))) hk)) ?_
                  refine st (fun _ hk => s_not rfl hk) ?_
                  refine aopsS_end (hK811 _ (SatL.norm (n := n_215) (h := hl [(0, (some (.cells 5 25 [[(int b_177.Length), (int b_177.Camera), (int b_177.Slow), (.sl (List.map Gate.cells b_177.Gates)), (.sl (List.map int1 b_177.Bins))]])))]) (env' := [(1, (.own 0 0 0)), (5, (int i_250)), (99, (bool (!r_254)))]) (L' := [(0, (some (.cells 5 25 [[(int b_177.Length), (int b_177.Camera), (int b_177.Slow), (.sl (List.map Gate.cells b_177.Gates)), (.sl (List.map int1 b_177.Bins))]])))]) rfl hs_refl ?_))
                  repeat refine SatL.seq ?_
                  refine SatL.condX rfl (fun hc819 => ?_) (fun hc819 => ?_)
                  ·
                    replace H1 := iteT H1 hc819
                    repeat refine SatL.seq ?_
                    refine SatL.reg [2] [some 2] rfl rfl fun K820 hK820 => ?_
                    refine st (fun _ hk => s_as (v := (bool false)) rfl hk) ?_
                    refine aopsS_end (hK820 _ (SatL.norm (n := n_215) (h := hl [(0, (some (.cells 5 25 [[(int b_177.Length), (int b_177.Camera), (int b_177.Slow), (.sl (List.map Gate.cells b_177.Gates)), (.sl (List.map int1 b_177.Bins))]])))]) (env' := [(2, (bool false))]) (L' := []) rfl hs_nil ?_))
                    obtain rfl := Option.some.inj H1
                    obtain rfl := Option.some.inj H0
                    exact SatL.ret (fnQ_snap [] (bool false) (bool false) rfl (Snap.free _ (.sc _)) rfl)
                  ·
                    replace H1 := iteF H1 hc819
                    refine SatL.skip ?_
                    refine SatL.nil (blockN (thenN ?_))
                    repeat refine SatL.seq ?_
                    refine SatL.rege [some 91, some 92, some 5] rfl rfl fun K822 hK822 => ?_
                    refine st (fun _ hk => s_mv (v := (int i_250)) rfl hk) ?_
                    refine st (fun _ hk => s_bin rfl rfl (b_add64 hk)) ?_
                    refine st (fun _ hk => s_as (v := (int (w64 (i_250 + 1)))) rfl hk) ?_
                    refine aopsS_end (hK822 _ ?_)
                    have hw826 : w64 (i_250 + 1) = i_250 + 1 := w64_id (by omega) (by omega)
                    exact (thenN ⟨k0, ⟨(w64 (i_250 + 1)), (StLe.of [(0, (some (.cells 5 25 [[(int b_177.Length), (int b_177.Camera), (int b_177.Slow), (.sl (List.map Gate.cells b_177.Gates)), (.sl (List.map int1 b_177.Bins))]])))] n_215 rfl (hs_cons (hl_self _ _ _) hs_nil) (Nat.le_refl _)), (by omega), (by omega), (by rw [hw826]; omega), (Eq.mpr (congrArg (fun q_ => ref09_Belt_L1 b_177 k0 q_ = some o_247) hw826) H1)⟩, by omega⟩)
              ·
                rintro s_ ⟨rfl, hs_⟩
                refine SatL.le hs_ ?_
                clear hs_
                replace H0 := sumun0S H0
                repeat refine SatL.seq ?_
                refine SatL.reg [2] [some 2] rfl rfl fun K827 hK827 => ?_
                refine st (fun _ hk => s_as (v := (bool true)) rfl hk) ?_
                refine aopsS_end (hK827 _ (SatL.norm (n := n_215) (h := hl []) (env' := [(2, (bool true))]) (L' := []) rfl hs_refl ?_))
                obtain rfl := Option.some.inj H0
                exact SatL.ret (fnQ_snap [] (bool true) (bool true) rfl (Snap.free _ (.sc _)) rfl)
        ·
          replace H0 := iteT H0 (by simpa using g34)
          refine aopsS_off rfl rfl ?_
          refine aopsS_off rfl rfl ?_
          refine aopsS_off rfl rfl ?_
          refine st (fun _ hk => s_pickT (v := (bool true)) rfl rfl hk) ?_
          refine aopsS_end (hK4 _ (SatL.norm (n := 1) (h := hl [(0, (some (.cells 5 25 [[(int b_177.Length), (int b_177.Camera), (int b_177.Slow), (.sl (List.map Gate.cells b_177.Gates)), (.sl (List.map int1 b_177.Bins))]])))]) (env' := [(1, (.own 0 0 0)), (36, (bool true))]) (L' := [(0, (some (.cells 5 25 [[(int b_177.Length), (int b_177.Camera), (int b_177.Slow), (.sl (List.map Gate.cells b_177.Gates)), (.sl (List.map int1 b_177.Bins))]])))]) rfl hs_refl ?_))
          repeat refine SatL.seq ?_
          refine SatL.condT rfl rfl ?_
          repeat refine SatL.seq ?_
          refine SatL.reg [2] [some 2] rfl rfl fun K830 hK830 => ?_
          refine st (fun _ hk => s_as (v := (bool false)) rfl hk) ?_
          refine aopsS_end (hK830 _ (SatL.norm (n := 1) (h := hl [(0, (some (.cells 5 25 [[(int b_177.Length), (int b_177.Camera), (int b_177.Slow), (.sl (List.map Gate.cells b_177.Gates)), (.sl (List.map int1 b_177.Bins))]])))]) (env' := [(2, (bool false))]) (L' := []) rfl hs_nil ?_))
          obtain rfl := Option.some.inj H0
          exact SatL.ret (fnQ_snap [] (bool false) (bool false) rfl (Snap.free _ (.sc _)) rfl)
      ·
        replace H0 := iteT H0 (by simpa using g27)
        refine aopsS_off rfl rfl ?_
        refine aopsS_off rfl rfl ?_
        refine aopsS_off rfl rfl ?_
        refine st (fun _ hk => s_pickT (v := (bool true)) rfl rfl hk) ?_
        refine st (fun _ hk => s_mv (v := (bool true)) rfl hk) ?_
        refine aopsS_off rfl rfl ?_
        refine aopsS_off rfl rfl ?_
        refine aopsS_off rfl rfl ?_
        refine aopsS_off rfl rfl ?_
        refine st (fun _ hk => s_pickT (v := (bool true)) rfl rfl hk) ?_
        refine aopsS_end (hK4 _ (SatL.norm (n := 1) (h := hl [(0, (some (.cells 5 25 [[(int b_177.Length), (int b_177.Camera), (int b_177.Slow), (.sl (List.map Gate.cells b_177.Gates)), (.sl (List.map int1 b_177.Bins))]])))]) (env' := [(1, (.own 0 0 0)), (36, (bool true))]) (L' := [(0, (some (.cells 5 25 [[(int b_177.Length), (int b_177.Camera), (int b_177.Slow), (.sl (List.map Gate.cells b_177.Gates)), (.sl (List.map int1 b_177.Bins))]])))]) rfl hs_refl ?_))
        repeat refine SatL.seq ?_
        refine SatL.condT rfl rfl ?_
        repeat refine SatL.seq ?_
        refine SatL.reg [2] [some 2] rfl rfl fun K835 hK835 => ?_
        refine st (fun _ hk => s_as (v := (bool false)) rfl hk) ?_
        refine aopsS_end (hK835 _ (SatL.norm (n := 1) (h := hl [(0, (some (.cells 5 25 [[(int b_177.Length), (int b_177.Camera), (int b_177.Slow), (.sl (List.map Gate.cells b_177.Gates)), (.sl (List.map int1 b_177.Bins))]])))]) (env' := [(2, (bool false))]) (L' := []) rfl hs_nil ?_))
        obtain rfl := Option.some.inj H0
        exact SatL.ret (fnQ_snap [] (bool false) (bool false) rfl (Snap.free _ (.sc _)) rfl)
    ·
      replace H0 := iteT H0 (by simpa using g20)
      refine aopsS_off rfl rfl ?_
      refine aopsS_off rfl rfl ?_
      refine aopsS_off rfl rfl ?_
      refine st (fun _ hk => s_pickT (v := (bool true)) rfl rfl hk) ?_
      refine st (fun _ hk => s_mv (v := (bool true)) rfl hk) ?_
      refine aopsS_off rfl rfl ?_
      refine aopsS_off rfl rfl ?_
      refine aopsS_off rfl rfl ?_
      refine aopsS_off rfl rfl ?_
      refine st (fun _ hk => s_pickT (v := (bool true)) rfl rfl hk) ?_
      refine st (fun _ hk => s_mv (v := (bool true)) rfl hk) ?_
      refine aopsS_off rfl rfl ?_
      refine aopsS_off rfl rfl ?_
      refine aopsS_off rfl rfl ?_
      refine aopsS_off rfl rfl ?_
      refine st (fun _ hk => s_pickT (v := (bool true)) rfl rfl hk) ?_
      refine aopsS_end (hK4 _ (SatL.norm (n := 1) (h := hl [(0, (some (.cells 5 25 [[(int b_177.Length), (int b_177.Camera), (int b_177.Slow), (.sl (List.map Gate.cells b_177.Gates)), (.sl (List.map int1 b_177.Bins))]])))]) (env' := [(1, (.own 0 0 0)), (36, (bool true))]) (L' := [(0, (some (.cells 5 25 [[(int b_177.Length), (int b_177.Camera), (int b_177.Slow), (.sl (List.map Gate.cells b_177.Gates)), (.sl (List.map int1 b_177.Bins))]])))]) rfl hs_refl ?_))
      repeat refine SatL.seq ?_
      refine SatL.condT rfl rfl ?_
      repeat refine SatL.seq ?_
      refine SatL.reg [2] [some 2] rfl rfl fun K842 hK842 => ?_
      refine st (fun _ hk => s_as (v := (bool false)) rfl hk) ?_
      refine aopsS_end (hK842 _ (SatL.norm (n := 1) (h := hl [(0, (some (.cells 5 25 [[(int b_177.Length), (int b_177.Camera), (int b_177.Slow), (.sl (List.map Gate.cells b_177.Gates)), (.sl (List.map int1 b_177.Bins))]])))]) (env' := [(2, (bool false))]) (L' := []) rfl hs_nil ?_))
      obtain rfl := Option.some.inj H0
      exact SatL.ret (fnQ_snap [] (bool false) (bool false) rfl (Snap.free _ (.sc _)) rfl)
  ·
    replace H0 := iteT H0 (by simpa using g10)
    refine aopsS_off rfl rfl ?_
    refine aopsS_off rfl rfl ?_
    refine aopsS_off rfl rfl ?_
    refine aopsS_off rfl rfl ?_
    refine aopsS_off rfl rfl ?_
    refine aopsS_off rfl rfl ?_
    refine st (fun _ hk => s_pickT (v := (bool true)) rfl rfl hk) ?_
    refine st (fun _ hk => s_mv (v := (bool true)) rfl hk) ?_
    refine aopsS_off rfl rfl ?_
    refine aopsS_off rfl rfl ?_
    refine aopsS_off rfl rfl ?_
    refine aopsS_off rfl rfl ?_
    refine st (fun _ hk => s_pickT (v := (bool true)) rfl rfl hk) ?_
    refine st (fun _ hk => s_mv (v := (bool true)) rfl hk) ?_
    refine aopsS_off rfl rfl ?_
    refine aopsS_off rfl rfl ?_
    refine aopsS_off rfl rfl ?_
    refine aopsS_off rfl rfl ?_
    refine st (fun _ hk => s_pickT (v := (bool true)) rfl rfl hk) ?_
    refine st (fun _ hk => s_mv (v := (bool true)) rfl hk) ?_
    refine aopsS_off rfl rfl ?_
    refine aopsS_off rfl rfl ?_
    refine aopsS_off rfl rfl ?_
    refine aopsS_off rfl rfl ?_
    refine st (fun _ hk => s_pickT (v := (bool true)) rfl rfl hk) ?_
    refine aopsS_end (hK4 _ (SatL.norm (n := 1) (h := hl [(0, (some (.cells 5 25 [[(int b_177.Length), (int b_177.Camera), (int b_177.Slow), (.sl (List.map Gate.cells b_177.Gates)), (.sl (List.map int1 b_177.Bins))]])))]) (env' := [(1, (.own 0 0 0)), (36, (bool true))]) (L' := [(0, (some (.cells 5 25 [[(int b_177.Length), (int b_177.Camera), (int b_177.Slow), (.sl (List.map Gate.cells b_177.Gates)), (.sl (List.map int1 b_177.Bins))]])))]) rfl hs_refl ?_))
    repeat refine SatL.seq ?_
    refine SatL.condT rfl rfl ?_
    repeat refine SatL.seq ?_
    refine SatL.reg [2] [some 2] rfl rfl fun K851 hK851 => ?_
    refine st (fun _ hk => s_as (v := (bool false)) rfl hk) ?_
    refine aopsS_end (hK851 _ (SatL.norm (n := 1) (h := hl [(0, (some (.cells 5 25 [[(int b_177.Length), (int b_177.Camera), (int b_177.Slow), (.sl (List.map Gate.cells b_177.Gates)), (.sl (List.map int1 b_177.Bins))]])))]) (env' := [(2, (bool false))]) (L' := []) rfl hs_nil ?_))
    obtain rfl := Option.some.inj H0
    exact SatL.ret (fnQ_snap [] (bool false) (bool false) rfl (Snap.free _ (.sc _)) rfl)

theorem ref09_CheckBelt_PC {b_176 : Belt} {r : Int} (H0 : ref09_CheckBelt b_176 = some r) : PC Try.prog 19 [(.ag (Belt.cells b_176))] (· = (int r)) := by
  unfold ref09_CheckBelt at H0
  refine PC.of_bodyL [(0, (.ag (Belt.cells b_176)))] Try.func19 rfl rfl (Nat.le_of_ble_eq_true rfl) rfl fun O => ?_
  repeat refine SatL.seq ?_
  refine SatL.reg [1] [some 1, some 2] rfl rfl fun K1 hK1 => ?_
  refine st (fun _ hk => s_box (cs := [(int b_176.Length), (int b_176.Camera), (int b_176.Slow), (.sl (List.map Gate.cells b_176.Gates)), (.sl (List.map int1 b_176.Bins))]) (m := 5) (n' := 1) rfl rfl rfl hk) ?_
  refine st (fun _ hk => s_as (v := (int 0)) rfl hk) ?_
  refine aopsS_end (hK1 _ (SatL.norm (n := 1) (h := hl [(0, (some (.cells 5 25 [[(int b_176.Length), (int b_176.Camera), (int b_176.Slow), (.sl (List.map Gate.cells b_176.Gates)), (.sl (List.map int1 b_176.Bins))]])))]) (env' := [(1, (.own 0 0 0))]) (L' := [(0, (some (.cells 5 25 [[(int b_176.Length), (int b_176.Camera), (int b_176.Slow), (.sl (List.map Gate.cells b_176.Gates)), (.sl (List.map int1 b_176.Bins))]])))]) rfl hs_refl ?_))
  repeat refine SatL.seq ?_
  refine SatL.reg [5] [some 3, some 4, some 5] rfl rfl fun K4 hK4 => ?_
  refine st (fun _ hk => s_loadA (cs' := [(int b_176.Length), (int b_176.Camera), (int b_176.Slow), (.sl (List.map Gate.cells b_176.Gates)), (.sl (List.map int1 b_176.Bins))]) agg_25 cells_25 (d_own rfl (hl_self _ _ _) rfl rfl) (Nat.le_of_ble_eq_true rfl) rfl hk) ?_
  obtain ⟨r_255, hr_255, H0⟩ := bindS H0
  refine st (fun _ hk => s_call (avs := [(.ag [(int b_176.Length), (int b_176.Camera), (int b_176.Slow), (.sl (List.map Gate.cells b_176.Gates)), (.sl (List.map int1 b_176.Bins))])]) rfl rfl rfl (PC.call1 (ref09_Belt_PC hr_255) (FreeL.cons (Free.agl (FreeL.cons (.sc _) (FreeL.cons (.sc _) (FreeL.cons (.sc _) (FreeL.cons (Free.slm Gate.fr) (FreeL.cons (Free.slm fr_int1) FreeL.nil)))))) FreeL.nil) hk)) ?_
  refine st (fun _ hk => s_not rfl hk) ?_
  refine aopsS_end (hK4 _ (SatL.norm (n := 1) (h := hl [(0, (some (.cells 5 25 [[(int b_176.Length), (int b_176.Camera), (int b_176.Slow), (.sl (List.map Gate.cells b_176.Gates)), (.sl (List.map int1 b_176.Bins))]])))]) (env' := [(5, (bool (!r_255)))]) (L' := []) rfl hs_nil ?_))
  repeat refine SatL.seq ?_
  refine SatL.condX rfl (fun hc8 => ?_) (fun hc8 => ?_)
  ·
    replace H0 := iteT H0 hc8
    repeat refine SatL.seq ?_
    refine SatL.reg [2] [some 2] rfl rfl fun K9 hK9 => ?_
    refine st (fun _ hk => s_as (v := (int 90)) rfl hk) ?_
    refine aopsS_end (hK9 _ (SatL.norm (n := 1) (h := hl []) (env' := [(2, (int 90))]) (L' := []) rfl hs_refl ?_))
    obtain rfl := Option.some.inj H0
    exact SatL.ret (fnQ_snap [] (int 90) (int 90) rfl (Snap.free _ (.sc _)) rfl)
  ·
    replace H0 := iteF H0 hc8
    refine SatL.skip ?_
    repeat refine SatL.seq ?_
    refine SatL.reg [2] [some 2] rfl rfl fun K11 hK11 => ?_
    refine st (fun _ hk => s_as (v := (int 0)) rfl hk) ?_
    refine aopsS_end (hK11 _ (SatL.norm (n := 1) (h := hl []) (env' := [(2, (int 0))]) (L' := []) rfl hs_refl ?_))
    obtain rfl := Option.some.inj H0
    exact SatL.ret (fnQ_snap [] (int 0) (int 0) rfl (Snap.free _ (.sc _)) rfl)

theorem sort_CheckFed_PC {l_257 : (List Fed)} {r : Int} (H0 : sort_CheckFed l_257 = some r) : PC Try.prog 20 [(.sl (List.map Fed.cells l_257))] (· = (int r)) := by
  unfold sort_CheckFed at H0
  refine PC.of_bodyL [(0, (.sl (List.map Fed.cells l_257)))] Try.func20 rfl rfl (Nat.le_of_ble_eq_true rfl) rfl fun O => ?_
  repeat refine SatL.seq ?_
  refine SatL.reg [0] [some 2] rfl rfl fun K1 hK1 => ?_
  refine st (fun _ hk => s_as (v := (int 0)) rfl hk) ?_
  refine aopsS_end (hK1 _ (SatL.norm (n := 0) (h := hl []) (env' := [(0, (.sl (List.map Fed.cells l_257)))]) (L' := []) rfl hs_refl ?_))
  repeat refine SatL.seq ?_
  refine SatL.reg [0, 8] [some 6, some 7, some 8] rfl rfl fun K3 hK3 => ?_
  refine st (fun _ hk => s_mv (v := (.sl (List.map Fed.cells l_257))) rfl hk) ?_
  refine aopsS_step fun _ hK => s_lenSl elem_26 rfl (fun hl5 => hK _ _ _ ?_)
  clear hK
  refine st (fun _ hk => s_bin rfl rfl (b_gtr hk)) ?_
  refine aopsS_end (hK3 _ (SatL.norm (n := 0) (h := hl []) (env' := [(0, (.sl (List.map Fed.cells l_257))), (8, (bool (decide (40 < (List.length l_257 : Int)))))]) (L' := []) rfl hs_refl ?_))
  repeat refine SatL.seq ?_
  refine SatL.condX rfl (fun hc7 => ?_) (fun hc7 => ?_)
  ·
    replace H0 := iteT H0 hc7
    repeat refine SatL.seq ?_
    refine SatL.reg [2] [some 2] rfl rfl fun K8 hK8 => ?_
    refine st (fun _ hk => s_as (v := (int 91)) rfl hk) ?_
    refine aopsS_end (hK8 _ (SatL.norm (n := 0) (h := hl []) (env' := [(2, (int 91))]) (L' := []) rfl hs_refl ?_))
    obtain rfl := Option.some.inj H0
    exact SatL.ret (fnQ_snap [] (int 91) (int 91) rfl (Snap.free _ (.sc _)) rfl)
  ·
    replace H0 := iteF H0 hc7
    refine SatL.skip ?_
    repeat refine SatL.seq ?_
    refine SatL.reg [0, 3] [some 3] rfl rfl fun K10 hK10 => ?_
    refine st (fun _ hk => s_as (v := (int 0)) rfl hk) ?_
    refine aopsS_end (hK10 _ (SatL.norm (n := 0) (h := hl []) (env' := [(0, (.sl (List.map Fed.cells l_257))), (3, (int 0))]) (L' := []) rfl hs_refl ?_))
    repeat refine SatL.seq ?_
    refine SatL.reg [3, 9, 10, 11] [some 9, some 10, some 11] rfl rfl fun K12 hK12 => ?_
    refine st (fun _ hk => s_mv (v := (.sl (List.map Fed.cells l_257))) rfl hk) ?_
    refine aopsS_step fun _ hK => s_lenSl elem_26 rfl (fun hl14 => hK _ _ _ ?_)
    clear hK
    refine st (fun _ hk => s_mv (v := (int 0)) rfl hk) ?_
    refine aopsS_end (hK12 _ (SatL.norm (n := 0) (h := hl []) (env' := [(3, (int 0)), (9, (.sl (List.map Fed.cells l_257))), (10, (int (List.length l_257 : Int))), (11, (int 0))]) (L' := []) rfl hs_refl ?_))
    repeat refine SatL.seq ?_
    obtain ⟨o_274, H1, H0⟩ := bindS H0
    refine SatL.mid [] (fun s_ => ∃ (n_273 : Nat), (Sum.inr ()) = o_274 ∧ StLe s_ [] [] n_273) ?_ ?_
    ·
      repeat refine SatL.seq ?_
      refine SatL.block ?_
      repeat refine SatL.seq ?_
      refine SatL.loopK [3, 9, 10, 11] (fun k0 s_ => ∃ (least_279 : Int) (x_280 : Int) (n_281 : Nat), StLe s_ [(3, (int least_279)), (9, (.sl (List.map Fed.cells l_257))), (10, (int (List.length l_257 : Int))), (11, (int x_280))] [] n_281 ∧ 0 ≤ x_280 ∧ k0 = Int.toNat ((List.length l_257 : Int) - x_280) ∧ sort_CheckFed_L0 l_257 k0 least_279 x_280 = some o_274) (Int.toNat ((List.length l_257 : Int) - 0)) ?_ ?_
      · exact ⟨0, 0, 0, (StLe.of [] 0 rfl hs_nil (Nat.le_refl _)), (by omega), rfl, H1⟩
      rintro k0 s_ ⟨least_279, x_280, n_281, hs_, _, hk_, H1⟩
      refine SatL.le hs_ ?_
      clear hs_
      rcases k0 with _ | k0
      ·
        rw [sort_CheckFed_L0.eq_1] at H1
        repeat refine SatL.seq ?_
        refine SatL.reg [3, 9, 10, 11, 12] [some 12] rfl rfl fun K261 hK261 => ?_
        refine st (fun _ hk => s_bin rfl rfl (b_lss hk)) ?_
        refine aopsS_end (hK261 _ (SatL.norm (n := n_281) (h := hl []) (env' := [(3, (int least_279)), (9, (.sl (List.map Fed.cells l_257))), (10, (int (List.length l_257 : Int))), (11, (int x_280)), (12, (bool (decide (x_280 < (List.length l_257 : Int)))))]) (L' := []) rfl hs_refl ?_))
        repeat refine SatL.seq ?_
        refine SatL.condF rfl (decide_eq_false (by omega)) ?_
        refine SatL.exit ?_
        simp only [thenQ, blockQ, if_true, reduceIte, Nat.reduceEqDiff]
        obtain rfl := Option.some.inj H1
        exact SatL.nil (thenN ⟨n_281, rfl, (StLe.of [] n_281 rfl hs_nil (Nat.le_refl _))⟩)
      ·
        rw [sort_CheckFed_L0.eq_2] at H1
        repeat refine SatL.seq ?_
        refine SatL.reg [3, 9, 10, 11, 12] [some 12] rfl rfl fun K263 hK263 => ?_
        refine st (fun _ hk => s_bin rfl rfl (b_lss hk)) ?_
        refine aopsS_end (hK263 _ (SatL.norm (n := n_281) (h := hl []) (env' := [(3, (int least_279)), (9, (.sl (List.map Fed.cells l_257))), (10, (int (List.length l_257 : Int))), (11, (int x_280)), (12, (bool (decide (x_280 < (List.length l_257 : Int)))))]) (L' := []) rfl hs_refl ?_))
        repeat refine SatL.seq ?_
        refine SatL.condT rfl (decide_eq_true (by omega)) ?_
        have hlt265 : (x_280 < (List.length l_257 : Int)) := by omega
        refine SatL.skip ?_
        repeat refine SatL.seq ?_
        refine SatL.block ?_
        repeat refine SatL.seq ?_
        refine SatL.reg [3, 5, 9, 10, 11] [some 13, some 14, some 5, none] rfl rfl fun K266 hK266 => ?_
        obtain ⟨e_286, he_286, H1⟩ := bindS H1
        refine st (fun _ hk => s_ixSl elem_26 rfl rfl he_286 cells_78 rfl (by decide) hk) ?_
        refine st (fun _ hk => s_loadA (cs' := [(int e_286.Tick), (int e_286.Kind), (.sl (List.map int1 e_286.Readings))]) agg_78 cells_78 (d_fp rfl) (Nat.le_of_ble_eq_true rfl) rfl hk) ?_
        refine st (fun _ hk => s_alloc (m := 3) (n' := (n_281 + 1)) zero_78 rfl rfl hk) ?_
        refine s0 (fun _ hk => s_store (E := [[(int e_286.Tick), (int e_286.Kind), (.sl (List.map int1 e_286.Readings))]]) rfl (hl_self _ _ _) rfl rfl cells_78 rfl (by decide) (Nat.le_of_ble_eq_true rfl) rfl (hu_self _ _ _ _) hk) ?_
        refine aopsS_end (hK266 _ (SatL.norm (n := (n_281 + 1)) (h := hl [(n_281, (some (.cells 3 78 [[(int e_286.Tick), (int e_286.Kind), (.sl (List.map int1 e_286.Readings))]])))]) (env' := [(3, (int least_279)), (5, (.own n_281 0 0)), (9, (.sl (List.map Fed.cells l_257))), (10, (int (List.length l_257 : Int))), (11, (int x_280))]) (L' := [(n_281, (some (.cells 3 78 [[(int e_286.Tick), (int e_286.Kind), (.sl (List.map int1 e_286.Readings))]])))]) rfl hs_refl ?_))
        repeat refine SatL.seq ?_
        refine SatL.reg [5, 9, 10, 11, 33] [some 15, some 16, some 17, some 18, some 19, some 20, some 21, some 22, some 23, some 24, some 25, some 26, some 27, some 28, some 29, some 30, some 31, some 32, some 33] rfl rfl fun K271 hK271 => ?_
        refine st (fun _ hk => s_mv (v := (int least_279)) rfl hk) ?_
        refine st (fun _ hk => s_faOwn (j' := 0) fld_78_0 rfl rfl (isC (hl_self _ _ _)) hk) ?_
        refine st (fun _ hk => s_load1 (c := (int e_286.Tick)) agg_3 (d_own rfl (hl_self _ _ _) rfl rfl) rfl hk) ?_
        refine st (fun _ hk => s_bslF (es := [[(int e_286.Tick)]]) (es' := List.map int1 [e_286.Tick]) elem_23 zero_3 rfl (by decide) (by decide) rfl rfl hk) ?_
        obtain ⟨r_287, hr_287, H1⟩ := bindS H1
        refine st (fun _ hk => s_call (avs := [(int least_279), (int 1000), (.sl (List.map int1 ([e_286.Tick])))]) rfl rfl rfl (PC.call1 (sort_from_PC hr_287) (FreeL.cons (.sc _) (FreeL.cons (.sc _) (FreeL.cons (Free.slm fr_int1) FreeL.nil))) hk)) ?_
        refine st (fun _ hk => s_not rfl hk) ?_
        refine st (fun _ hk => s_mv (v := (bool (!r_287))) rfl hk) ?_
        refine aopsS_split rfl _ rfl (fun g279 => ?_) (fun g279 => ?_)
        ·
          replace H1 := iteF H1 (by simpa using g279)
          refine sx (fun _ hk => s_faOwn (j' := 1) fld_78_1 rfl rfl (isC (hl_self _ _ _)) hk) ?_
          refine sg rfl rfl (fun _ hk => s_load1 (c := (int e_286.Kind)) agg_3 (d_own rfl (hl_self _ _ _) rfl rfl) rfl hk) ?_
          refine sg rfl rfl (fun _ hk => s_bslF (es := [[(int e_286.Kind)]]) (es' := List.map int1 [e_286.Kind]) elem_23 zero_3 rfl (by decide) (by decide) rfl rfl hk) ?_
          obtain ⟨r_288, hr_288, H1⟩ := bindS H1
          refine sg rfl rfl (fun _ hk => s_call (avs := [(int 0), (int 15), (.sl (List.map int1 ([e_286.Kind])))]) rfl rfl rfl (PC.call1 (sort_from_PC hr_288) (FreeL.cons (.sc _) (FreeL.cons (.sc _) (FreeL.cons (Free.slm fr_int1) FreeL.nil))) hk)) ?_
          refine sg rfl rfl (fun _ hk => s_not rfl hk) ?_
          refine st (fun _ hk => s_pickF (v := (bool (!r_288))) rfl rfl hk) ?_
          refine st (fun _ hk => s_mv (v := (bool (!r_288))) rfl hk) ?_
          refine aopsS_split rfl _ rfl (fun g287 => ?_) (fun g287 => ?_)
          ·
            replace H1 := iteF H1 (by simpa using g287)
            refine sx (fun _ hk => s_faOwn (j' := 2) fld_78_2 rfl rfl (isC (hl_self _ _ _)) hk) ?_
            refine sg rfl rfl (fun _ hk => s_load1 (c := (.sl (List.map int1 e_286.Readings))) agg_23 (d_own rfl (hl_self _ _ _) rfl rfl) rfl hk) ?_
            obtain ⟨r_289, hr_289, H1⟩ := bindS H1
            refine sg rfl rfl (fun _ hk => s_call (avs := [(.sl (List.map int1 e_286.Readings))]) rfl rfl rfl (PC.call1 (sort_said_PC hr_289) (FreeL.cons (Free.slm fr_int1) FreeL.nil) hk)) ?_
            refine sg rfl rfl (fun _ hk => s_not rfl hk) ?_
            refine st (fun _ hk => s_pickF (v := (bool (!r_289))) rfl rfl hk) ?_
            refine aopsS_end (hK271 _ (SatL.norm (n := (n_281 + 1)) (h := hl [(n_281, (some (.cells 3 78 [[(int e_286.Tick), (int e_286.Kind), (.sl (List.map int1 e_286.Readings))]])))]) (env' := [(5, (.own n_281 0 0)), (9, (.sl (List.map Fed.cells l_257))), (10, (int (List.length l_257 : Int))), (11, (int x_280)), (33, (bool (!r_289)))]) (L' := [(n_281, (some (.cells 3 78 [[(int e_286.Tick), (int e_286.Kind), (.sl (List.map int1 e_286.Readings))]])))]) rfl hs_refl ?_))
            repeat refine SatL.seq ?_
            refine SatL.condX rfl (fun hc293 => ?_) (fun hc293 => ?_)
            ·
              replace H1 := iteT H1 hc293
              repeat refine SatL.seq ?_
              refine SatL.reg [2] [some 2] rfl rfl fun K294 hK294 => ?_
              refine st (fun _ hk => s_as (v := (int 91)) rfl hk) ?_
              refine aopsS_end (hK294 _ (SatL.norm (n := (n_281 + 1)) (h := hl [(n_281, (some (.cells 3 78 [[(int e_286.Tick), (int e_286.Kind), (.sl (List.map int1 e_286.Readings))]])))]) (env' := [(2, (int 91))]) (L' := []) rfl hs_nil ?_))
              obtain rfl := Option.some.inj H1
              obtain rfl := Option.some.inj H0
              exact SatL.ret (fnQ_snap [] (int 91) (int 91) rfl (Snap.free _ (.sc _)) rfl)
            ·
              replace H1 := iteF H1 hc293
              refine SatL.skip ?_
              repeat refine SatL.seq ?_
              refine SatL.rege [some 34, some 35, some 36, some 3] rfl rfl fun K296 hK296 => ?_
              refine st (fun _ hk => s_faOwn (j' := 0) fld_78_0 rfl rfl (isC (hl_self _ _ _)) hk) ?_
              refine st (fun _ hk => s_load1 (c := (int e_286.Tick)) agg_3 (d_own rfl (hl_self _ _ _) rfl rfl) rfl hk) ?_
              refine st (fun _ hk => s_bin rfl rfl (b_add64 hk)) ?_
              refine st (fun _ hk => s_as (v := (int (w64 (e_286.Tick + 1)))) rfl hk) ?_
              refine aopsS_end (hK296 _ ?_)
              refine (blockN (thenN ?_))
              refine SatL.forget [3, 9, 10, 11] (SatL.norm (n := (n_281 + 1)) (h := hl [(n_281, (some (.cells 3 78 [[(int e_286.Tick), (int e_286.Kind), (.sl (List.map int1 e_286.Readings))]])))]) (env' := [(3, (int (w64 (e_286.Tick + 1)))), (9, (.sl (List.map Fed.cells l_257))), (10, (int (List.length l_257 : Int))), (11, (int x_280))]) (L' := []) rfl hs_nil ?_)
              repeat refine SatL.seq ?_
              refine SatL.rege [some 37, some 11] rfl rfl fun K301 hK301 => ?_
              refine st (fun _ hk => s_bin rfl rfl (b_add64 hk)) ?_
              refine st (fun _ hk => s_mv (v := (int (w64 (x_280 + 1)))) rfl hk) ?_
              refine aopsS_end (hK301 _ ?_)
              have hw304 : w64 (x_280 + 1) = x_280 + 1 := w64_id (by omega) (by omega)
              exact (thenN ⟨k0, ⟨(w64 (e_286.Tick + 1)), (w64 (x_280 + 1)), (n_281 + 1), (StLe.of [] (n_281 + 1) rfl hs_nil (Nat.le_refl _)), (by omega), (by rw [hw304]; omega), (Eq.mpr (congrArg (fun q_ => sort_CheckFed_L0 l_257 k0 ((w64 (e_286.Tick + 1))) q_ = some o_274) hw304) H1)⟩, by omega⟩)
          ·
            replace H1 := iteT H1 (by simpa using g287)
            refine aopsS_off rfl rfl ?_
            refine aopsS_off rfl rfl ?_
            refine aopsS_off rfl rfl ?_
            refine st (fun _ hk => s_pickT (v := (bool true)) rfl rfl hk) ?_
            refine aopsS_end (hK271 _ (SatL.norm (n := (n_281 + 1)) (h := hl [(n_281, (some (.cells 3 78 [[(int e_286.Tick), (int e_286.Kind), (.sl (List.map int1 e_286.Readings))]])))]) (env' := [(5, (.own n_281 0 0)), (9, (.sl (List.map Fed.cells l_257))), (10, (int (List.length l_257 : Int))), (11, (int x_280)), (33, (bool true))]) (L' := [(n_281, (some (.cells 3 78 [[(int e_286.Tick), (int e_286.Kind), (.sl (List.map int1 e_286.Readings))]])))]) rfl hs_refl ?_))
            repeat refine SatL.seq ?_
            refine SatL.condT rfl rfl ?_
            repeat refine SatL.seq ?_
            refine SatL.reg [2] [some 2] rfl rfl fun K306 hK306 => ?_
            refine st (fun _ hk => s_as (v := (int 91)) rfl hk) ?_
            refine aopsS_end (hK306 _ (SatL.norm (n := (n_281 + 1)) (h := hl [(n_281, (some (.cells 3 78 [[(int e_286.Tick), (int e_286.Kind), (.sl (List.map int1 e_286.Readings))]])))]) (env' := [(2, (int 91))]) (L' := []) rfl hs_nil ?_))
            obtain rfl := Option.some.inj H1
            obtain rfl := Option.some.inj H0
            exact SatL.ret (fnQ_snap [] (int 91) (int 91) rfl (Snap.free _ (.sc _)) rfl)
        ·
          replace H1 := iteT H1 (by simpa using g279)
          refine aopsS_off rfl rfl ?_
          refine aopsS_off rfl rfl ?_
          refine aopsS_off rfl rfl ?_
          refine aopsS_off rfl rfl ?_
          refine st (fun _ hk => s_pickT (v := (bool true)) rfl rfl hk) ?_
          refine st (fun _ hk => s_mv (v := (bool true)) rfl hk) ?_
          refine aopsS_off rfl rfl ?_
          refine aopsS_off rfl rfl ?_
          refine aopsS_off rfl rfl ?_
          refine aopsS_off rfl rfl ?_
          refine st (fun _ hk => s_pickT (v := (bool true)) rfl rfl hk) ?_
          refine aopsS_end (hK271 _ (SatL.norm (n := (n_281 + 1)) (h := hl [(n_281, (some (.cells 3 78 [[(int e_286.Tick), (int e_286.Kind), (.sl (List.map int1 e_286.Readings))]])))]) (env' := [(5, (.own n_281 0 0)), (9, (.sl (List.map Fed.cells l_257))), (10, (int (List.length l_257 : Int))), (11, (int x_280)), (33, (bool true))]) (L' := [(n_281, (some (.cells 3 78 [[(int e_286.Tick), (int e_286.Kind), (.sl (List.map int1 e_286.Readings))]])))]) rfl hs_refl ?_))
          repeat refine SatL.seq ?_
          refine SatL.condT rfl rfl ?_
          repeat refine SatL.seq ?_
          refine SatL.reg [2] [some 2] rfl rfl fun K311 hK311 => ?_
          refine st (fun _ hk => s_as (v := (int 91)) rfl hk) ?_
          refine aopsS_end (hK311 _ (SatL.norm (n := (n_281 + 1)) (h := hl [(n_281, (some (.cells 3 78 [[(int e_286.Tick), (int e_286.Kind), (.sl (List.map int1 e_286.Readings))]])))]) (env' := [(2, (int 91))]) (L' := []) rfl hs_nil ?_))
          obtain rfl := Option.some.inj H1
          obtain rfl := Option.some.inj H0
          exact SatL.ret (fnQ_snap [] (int 91) (int 91) rfl (Snap.free _ (.sc _)) rfl)
    ·
      rintro s_ ⟨n_273, rfl, hs_⟩
      refine SatL.le hs_ ?_
      clear hs_
      replace H0 := sumun0S H0
      repeat refine SatL.seq ?_
      refine SatL.reg [2] [some 2] rfl rfl fun K313 hK313 => ?_
      refine st (fun _ hk => s_as (v := (int 0)) rfl hk) ?_
      refine aopsS_end (hK313 _ (SatL.norm (n := n_273) (h := hl []) (env' := [(2, (int 0))]) (L' := []) rfl hs_refl ?_))
      obtain rfl := Option.some.inj H0
      exact SatL.ret (fnQ_snap [] (int 0) (int 0) rfl (Snap.free _ (.sc _)) rfl)

theorem ref09_Parts_PC {l_292 : (List Fed)} {r : Bool} (H0 : ref09_Parts l_292 = some r) : PC Try.prog 47 [(.sl (List.map Fed.cells l_292))] (· = (bool r)) := by
  unfold ref09_Parts at H0
  refine PC.of_bodyL [(0, (.sl (List.map Fed.cells l_292)))] Try.func47 rfl rfl (Nat.le_of_ble_eq_true rfl) rfl fun O => ?_
  repeat refine SatL.seq ?_
  refine SatL.reg [0] [some 2] rfl rfl fun K1 hK1 => ?_
  refine st (fun _ hk => s_as (v := (bool false)) rfl hk) ?_
  refine aopsS_end (hK1 _ (SatL.norm (n := 0) (h := hl []) (env' := [(0, (.sl (List.map Fed.cells l_292)))]) (L' := []) rfl hs_refl ?_))
  repeat refine SatL.seq ?_
  refine SatL.reg [0, 7] [some 5, some 6, some 7] rfl rfl fun K3 hK3 => ?_
  refine st (fun _ hk => s_mv (v := (.sl (List.map Fed.cells l_292))) rfl hk) ?_
  refine aopsS_step fun _ hK => s_lenSl elem_26 rfl (fun hl5 => hK _ _ _ ?_)
  clear hK
  refine st (fun _ hk => s_bin rfl rfl (b_gtr hk)) ?_
  refine aopsS_end (hK3 _ (SatL.norm (n := 0) (h := hl []) (env' := [(0, (.sl (List.map Fed.cells l_292))), (7, (bool (decide (40 < (List.length l_292 : Int)))))]) (L' := []) rfl hs_refl ?_))
  repeat refine SatL.seq ?_
  refine SatL.condX rfl (fun hc7 => ?_) (fun hc7 => ?_)
  ·
    replace H0 := iteT H0 hc7
    repeat refine SatL.seq ?_
    refine SatL.reg [2] [some 2] rfl rfl fun K8 hK8 => ?_
    refine st (fun _ hk => s_as (v := (bool false)) rfl hk) ?_
    refine aopsS_end (hK8 _ (SatL.norm (n := 0) (h := hl []) (env' := [(2, (bool false))]) (L' := []) rfl hs_refl ?_))
    obtain rfl := Option.some.inj H0
    exact SatL.ret (fnQ_snap [] (bool false) (bool false) rfl (Snap.free _ (.sc _)) rfl)
  ·
    replace H0 := iteF H0 hc7
    refine SatL.skip ?_
    repeat refine SatL.seq ?_
    refine SatL.reg [0, 3] [some 3] rfl rfl fun K10 hK10 => ?_
    refine st (fun _ hk => s_as (v := (int 0)) rfl hk) ?_
    refine aopsS_end (hK10 _ (SatL.norm (n := 0) (h := hl []) (env' := [(0, (.sl (List.map Fed.cells l_292))), (3, (int 0))]) (L' := []) rfl hs_refl ?_))
    repeat refine SatL.seq ?_
    obtain ⟨o_317, H1, H0⟩ := bindS H0
    refine SatL.mid [] (fun s_ => ∃ (n_316 : Nat), (Sum.inr ()) = o_317 ∧ StLe s_ [] [] n_316) ?_ ?_
    ·
      repeat refine SatL.seq ?_
      refine SatL.block ?_
      repeat refine SatL.seq ?_
      refine SatL.loopK [0, 3] (fun k0 s_ => ∃ (i_325 : Int) (n_326 : Nat), StLe s_ [(0, (.sl (List.map Fed.cells l_292))), (3, (int i_325))] [] n_326 ∧ 0 ≤ i_325 ∧ k0 = Int.toNat ((List.length l_292 : Int) - i_325) ∧ ref09_Parts_L0 l_292 k0 i_325 = some o_317) (Int.toNat ((List.length l_292 : Int) - 0)) ?_ ?_
      · exact ⟨0, 0, (StLe.of [] 0 rfl hs_nil (Nat.le_refl _)), (by omega), rfl, H1⟩
      rintro k0 s_ ⟨i_325, n_326, hs_, _, hk_, H1⟩
      refine SatL.le hs_ ?_
      clear hs_
      rcases k0 with _ | k0
      ·
        rw [ref09_Parts_L0.eq_1] at H1
        repeat refine SatL.seq ?_
        refine SatL.reg [0, 3, 11] [some 8, some 9, some 10, some 11] rfl rfl fun K492 hK492 => ?_
        refine st (fun _ hk => s_mv (v := (int i_325)) rfl hk) ?_
        refine st (fun _ hk => s_mv (v := (.sl (List.map Fed.cells l_292))) rfl hk) ?_
        refine aopsS_step fun _ hK => s_lenSl elem_26 rfl (fun hl495 => hK _ _ _ ?_)
        clear hK
        refine st (fun _ hk => s_bin rfl rfl (b_lss hk)) ?_
        refine aopsS_end (hK492 _ (SatL.norm (n := n_326) (h := hl []) (env' := [(0, (.sl (List.map Fed.cells l_292))), (3, (int i_325)), (11, (bool (decide (i_325 < (List.length l_292 : Int)))))]) (L' := []) rfl hs_refl ?_))
        repeat refine SatL.seq ?_
        refine SatL.condF rfl (decide_eq_false (by omega)) ?_
        refine SatL.exit ?_
        simp only [thenQ, blockQ, if_true, reduceIte, Nat.reduceEqDiff]
        obtain rfl := Option.some.inj H1
        exact SatL.nil (thenN ⟨n_326, rfl, (StLe.of [] n_326 rfl hs_nil (Nat.le_refl _))⟩)
      ·
        rw [ref09_Parts_L0.eq_2] at H1
        repeat refine SatL.seq ?_
        refine SatL.reg [0, 3, 11] [some 8, some 9, some 10, some 11] rfl rfl fun K497 hK497 => ?_
        refine st (fun _ hk => s_mv (v := (int i_325)) rfl hk) ?_
        refine st (fun _ hk => s_mv (v := (.sl (List.map Fed.cells l_292))) rfl hk) ?_
        refine aopsS_step fun _ hK => s_lenSl elem_26 rfl (fun hl500 => hK _ _ _ ?_)
        clear hK
        refine st (fun _ hk => s_bin rfl rfl (b_lss hk)) ?_
        refine aopsS_end (hK497 _ (SatL.norm (n := n_326) (h := hl []) (env' := [(0, (.sl (List.map Fed.cells l_292))), (3, (int i_325)), (11, (bool (decide (i_325 < (List.length l_292 : Int)))))]) (L' := []) rfl hs_refl ?_))
        repeat refine SatL.seq ?_
        refine SatL.condT rfl (decide_eq_true (by omega)) ?_
        have hlt502 : (i_325 < (List.length l_292 : Int)) := by omega
        refine SatL.skip ?_
        repeat refine SatL.seq ?_
        refine SatL.block ?_
        repeat refine SatL.seq ?_
        refine SatL.reg [0, 3, 4] [some 14, some 15, some 16, some 17, some 4, none] rfl rfl fun K503 hK503 => ?_
        refine st (fun _ hk => s_mv (v := (.sl (List.map Fed.cells l_292))) rfl hk) ?_
        refine st (fun _ hk => s_mv (v := (int i_325)) rfl hk) ?_
        obtain ⟨e_334, he_334, H1⟩ := bindS H1
        refine st (fun _ hk => s_ixSl elem_26 rfl rfl he_334 cells_78 rfl (by decide) hk) ?_
        refine st (fun _ hk => s_loadA (cs' := [(int e_334.Tick), (int e_334.Kind), (.sl (List.map int1 e_334.Readings))]) agg_78 cells_78 (d_fp rfl) (Nat.le_of_ble_eq_true rfl) rfl hk) ?_
        refine st (fun _ hk => s_alloc (m := 3) (n' := (n_326 + 1)) zero_78 rfl rfl hk) ?_
        refine s0 (fun _ hk => s_store (E := [[(int e_334.Tick), (int e_334.Kind), (.sl (List.map int1 e_334.Readings))]]) rfl (hl_self _ _ _) rfl rfl cells_78 rfl (by decide) (Nat.le_of_ble_eq_true rfl) rfl (hu_self _ _ _ _) hk) ?_
        refine aopsS_end (hK503 _ (SatL.norm (n := (n_326 + 1)) (h := hl [(n_326, (some (.cells 3 78 [[(int e_334.Tick), (int e_334.Kind), (.sl (List.map int1 e_334.Readings))]])))]) (env' := [(0, (.sl (List.map Fed.cells l_292))), (3, (int i_325)), (4, (.own n_326 0 0))]) (L' := [(n_326, (some (.cells 3 78 [[(int e_334.Tick), (int e_334.Kind), (.sl (List.map int1 e_334.Readings))]])))]) rfl hs_refl ?_))
        repeat refine SatL.seq ?_
        refine SatL.draw [0, 3, 48] [] [] [some 18, some 19, some 20, some 21, some 22, some 23, some 24, some 25, some 26, some 27, some 28, some 29, some 30, some 31, some 32, some 33, some 34, some 35, some 36, some 37, some 38, some 39, some 40, some 41, some 42, some 43, some 44, some 45, some 46, some 47, some 48] rfl (by kernel_rfl) (by kernel_rfl) rfl rfl fun K510 hK510 => ?_
        refine dd_step (ds_r0 _ rfl rfl (fun _ hK => s_faOwn (j' := 0) fld_78_0 rfl rfl (isC (hl_self _ _ _)) hK) ?_)
        refine dd_step (ds_r0 _ rfl rfl (fun _ hK => s_load1 (c := (int e_334.Tick)) agg_3 (d_own rfl (hl_self _ _ _) rfl rfl) rfl hK) ?_)
        obtain ⟨r_335, hr_335, H1⟩ := bindS H1
        refine dd_step (ds_r0 _ rfl rfl (fun _ hK => s_call (avs := [(int e_334.Tick), (int 0), (int 1000)]) rfl rfl rfl (PC.call1 (ref09_within_PC hr_335) (FreeL.cons (.sc _) (FreeL.cons (.sc _) (FreeL.cons (.sc _) FreeL.nil))) hK)) ?_)
        refine dd_step (ds_r0 _ rfl rfl (fun _ hK => s_not rfl hK) ?_)
        refine dd_step (ds_r0 _ rfl rfl (fun _ hK => s_mv (v := (bool (!r_335))) rfl hK) ?_)
        refine dd_split rfl _ rfl (fun g516 => ?_) (fun g516 => ?_)
        ·
          replace H1 := iteF H1 (by simpa using g516)
          refine ds_r0 _ rfl rfl (fun _ hK => s_mv (v := (int i_325)) rfl hK) ?_
          refine dd_on rfl rfl (ds_r0 _ rfl rfl (fun _ hK => s_bin rfl rfl (b_gtr hK)) ?_)
          refine dd_on rfl rfl (ds_r0 _ rfl rfl (fun _ hK => s_mv (v := (bool (decide (0 < i_325)))) rfl hK) ?_)
          refine dd_split rfl _ rfl (fun g520 => ?_) (fun g520 => ?_)
          ·
            replace H1 := iteT H1 (by simpa using g520)
            refine ds_r0 _ rfl rfl (fun _ hK => s_faOwn (j' := 0) fld_78_0 rfl rfl (isC (hl_self _ _ _)) hK) ?_
            refine dd_on rfl rfl (ds_r0 _ rfl rfl (fun _ hK => s_load1 (c := (int e_334.Tick)) agg_3 (d_own rfl (hl_self _ _ _) rfl rfl) rfl hK) ?_)
            refine dd_on rfl rfl (ds_r0 _ rfl rfl (fun _ hK => s_mv (v := (.sl (List.map Fed.cells l_292))) rfl hK) ?_)
            refine dd_on rfl rfl (ds_r0 _ rfl rfl (fun _ hK => s_mv (v := (int i_325)) rfl hK) ?_)
            refine dd_on rfl rfl (ds_r0 _ rfl rfl (fun _ hK => s_bin rfl rfl (b_sub64 hK)) ?_)
            obtain ⟨e_336, he_336, H1⟩ := bindS H1
            refine dd_on rfl rfl (ds_r0 _ rfl rfl (fun _ hK => s_ixSl elem_26 rfl rfl he_336 cells_78 rfl (by decide) hK) ?_)
            refine dd_on rfl rfl (ds_r0 _ rfl rfl (fun _ hK => s_faFp (cs' := [(int e_336.Tick), (int e_336.Kind), (.sl (List.map int1 e_336.Readings))]) fld_78_0 rfl rfl hK) ?_)
            refine dd_on rfl rfl (ds_r0 _ rfl rfl (fun _ hK => s_load1 (c := (int e_336.Tick)) agg_3 (d_fp rfl) rfl hK) ?_)
            refine dd_on rfl rfl (ds_r0 _ rfl rfl (fun _ hK => s_bin rfl rfl (b_leq hK)) ?_)
            refine dd_on rfl rfl (ds_r0 _ rfl rfl (fun _ hK => s_pickT (v := (bool (decide (e_334.Tick ≤ e_336.Tick)))) rfl rfl hK) ?_)
            refine dd_step (ds_r0 _ rfl rfl (fun _ hK => s_pickF (v := (bool (decide (e_334.Tick ≤ e_336.Tick)))) rfl rfl hK) ?_)
            refine dd_step (ds_r0 _ rfl rfl (fun _ hK => s_mv (v := (bool (decide (e_334.Tick ≤ e_336.Tick)))) rfl hK) ?_)
            refine dd_split rfl _ rfl (fun g533 => ?_) (fun g533 => ?_)
            ·
              replace H1 := iteF H1 (by simpa using g533)
              refine ds_r0 _ rfl rfl (fun _ hK => s_faOwn (j' := 1) fld_78_1 rfl rfl (isC (hl_self _ _ _)) hK) ?_
              refine dd_on rfl rfl (ds_r0 _ rfl rfl (fun _ hK => s_load1 (c := (int e_334.Kind)) agg_3 (d_own rfl (hl_self _ _ _) rfl rfl) rfl hK) ?_)
              obtain ⟨r_337, hr_337, H1⟩ := bindS H1
              refine dd_on rfl rfl (ds_r0 _ rfl rfl (fun _ hK => s_call (avs := [(int e_334.Kind), (int 0), (int 15)]) rfl rfl rfl (PC.call1 (ref09_within_PC hr_337) (FreeL.cons (.sc _) (FreeL.cons (.sc _) (FreeL.cons (.sc _) FreeL.nil))) hK)) ?_)
              refine dd_on rfl rfl (ds_r0 _ rfl rfl (fun _ hK => s_not rfl hK) ?_)
              refine dd_step (ds_r0 _ rfl rfl (fun _ hK => s_pickF (v := (bool (!r_337))) rfl rfl hK) ?_)
              refine dd_step (ds_r0 _ rfl rfl (fun _ hK => s_mv (v := (bool (!r_337))) rfl hK) ?_)
              refine dd_split rfl _ rfl (fun g540 => ?_) (fun g540 => ?_)
              ·
                replace H1 := iteF H1 (by simpa using g540)
                refine ds_r0 _ rfl rfl (fun _ hK => s_faOwn (j' := 2) fld_78_2 rfl rfl (isC (hl_self _ _ _)) hK) ?_
                refine dd_on rfl rfl (ds_r0 _ rfl rfl (fun _ hK => s_load1 (c := (.sl (List.map int1 e_334.Readings))) agg_23 (d_own rfl (hl_self _ _ _) rfl rfl) rfl hK) ?_)
                obtain ⟨r_338, hr_338, H1⟩ := bindS H1
                refine dd_on rfl rfl (ds_r0 _ rfl rfl (fun _ hK => s_call (avs := [(.sl (List.map int1 e_334.Readings))]) rfl rfl rfl (PC.call1 (ref09_Said_PC hr_338) (FreeL.cons (Free.slm fr_int1) FreeL.nil) hK)) ?_)
                refine dd_on rfl rfl (ds_r0 _ rfl rfl (fun _ hK => s_not rfl hK) ?_)
                refine dd_step (ds_r0 _ rfl rfl (fun _ hK => s_pickF (v := (bool (!r_338))) rfl rfl hK) ?_)
                refine dd_end rc_nil (hK510 _ (SatL.norm (n := (n_326 + 1)) (h := hl [(n_326, (some (.cells 3 78 [[(int e_334.Tick), (int e_334.Kind), (.sl (List.map int1 e_334.Readings))]])))]) (env' := [(0, (.sl (List.map Fed.cells l_292))), (3, (int i_325)), (48, (bool (!r_338)))]) (L' := []) rfl hs_nil ?_))
                repeat refine SatL.seq ?_
                refine SatL.condX rfl (fun hc546 => ?_) (fun hc546 => ?_)
                ·
                  replace H1 := iteT H1 hc546
                  repeat refine SatL.seq ?_
                  refine SatL.reg [2] [some 2] rfl rfl fun K547 hK547 => ?_
                  refine st (fun _ hk => s_as (v := (bool false)) rfl hk) ?_
                  refine aopsS_end (hK547 _ (SatL.norm (n := (n_326 + 1)) (h := hl []) (env' := [(2, (bool false))]) (L' := []) rfl hs_refl ?_))
                  obtain rfl := Option.some.inj H1
                  obtain rfl := Option.some.inj H0
                  exact SatL.ret (fnQ_snap [] (bool false) (bool false) rfl (Snap.free _ (.sc _)) rfl)
                ·
                  replace H1 := iteF H1 hc546
                  refine SatL.skip ?_
                  refine SatL.nil (blockN (thenN ?_))
                  repeat refine SatL.seq ?_
                  refine SatL.rege [some 12, some 13, some 3] rfl rfl fun K549 hK549 => ?_
                  refine st (fun _ hk => s_mv (v := (int i_325)) rfl hk) ?_
                  refine st (fun _ hk => s_bin rfl rfl (b_add64 hk)) ?_
                  refine st (fun _ hk => s_as (v := (int (w64 (i_325 + 1)))) rfl hk) ?_
                  refine aopsS_end (hK549 _ ?_)
                  have hw553 : w64 (i_325 + 1) = i_325 + 1 := w64_id (by omega) (by omega)
                  exact (thenN ⟨k0, ⟨(w64 (i_325 + 1)), (n_326 + 1), (StLe.of [] (n_326 + 1) rfl hs_nil (Nat.le_refl _)), (by omega), (by rw [hw553]; omega), (Eq.mpr (congrArg (fun q_ => ref09_Parts_L0 l_292 k0 q_ = some o_317) hw553) H1)⟩, by omega⟩)
              ·
                replace H1 := iteT H1 (by simpa using g540)
                refine dd_off rfl rfl ?_
                refine dd_off rfl rfl ?_
                refine dd_off rfl rfl ?_
                refine dd_step (ds_r0 _ rfl rfl (fun _ hK => s_pickT (v := (bool true)) rfl rfl hK) ?_)
                refine dd_end rc_nil (hK510 _ (SatL.norm (n := (n_326 + 1)) (h := hl [(n_326, (some (.cells 3 78 [[(int e_334.Tick), (int e_334.Kind), (.sl (List.map int1 e_334.Readings))]])))]) (env' := [(0, (.sl (List.map Fed.cells l_292))), (3, (int i_325)), (48, (bool true))]) (L' := []) rfl hs_nil ?_))
                repeat refine SatL.seq ?_
                refine SatL.condT rfl rfl ?_
                repeat refine SatL.seq ?_
                refine SatL.reg [2] [some 2] rfl rfl fun K555 hK555 => ?_
                refine st (fun _ hk => s_as (v := (bool false)) rfl hk) ?_
                refine aopsS_end (hK555 _ (SatL.norm (n := (n_326 + 1)) (h := hl []) (env' := [(2, (bool false))]) (L' := []) rfl hs_refl ?_))
                obtain rfl := Option.some.inj H1
                obtain rfl := Option.some.inj H0
                exact SatL.ret (fnQ_snap [] (bool false) (bool false) rfl (Snap.free _ (.sc _)) rfl)
            ·
              replace H1 := iteT H1 (by simpa using g533)
              refine dd_off rfl rfl ?_
              refine dd_off rfl rfl ?_
              refine dd_off rfl rfl ?_
              refine dd_step (ds_r0 _ rfl rfl (fun _ hK => s_pickT (v := (bool true)) rfl rfl hK) ?_)
              refine dd_step (ds_r0 _ rfl rfl (fun _ hK => s_mv (v := (bool true)) rfl hK) ?_)
              refine dd_off rfl rfl ?_
              refine dd_off rfl rfl ?_
              refine dd_off rfl rfl ?_
              refine dd_off rfl rfl ?_
              refine dd_step (ds_r0 _ rfl rfl (fun _ hK => s_pickT (v := (bool true)) rfl rfl hK) ?_)
              refine dd_end rc_nil (hK510 _ (SatL.norm (n := (n_326 + 1)) (h := hl [(n_326, (some (.cells 3 78 [[(int e_334.Tick), (int e_334.Kind), (.sl (List.map int1 e_334.Readings))]])))]) (env' := [(0, (.sl (List.map Fed.cells l_292))), (3, (int i_325)), (48, (bool true))]) (L' := []) rfl hs_nil ?_))
              repeat refine SatL.seq ?_
              refine SatL.condT rfl rfl ?_
              repeat refine SatL.seq ?_
              refine SatL.reg [2] [some 2] rfl rfl fun K560 hK560 => ?_
              refine st (fun _ hk => s_as (v := (bool false)) rfl hk) ?_
              refine aopsS_end (hK560 _ (SatL.norm (n := (n_326 + 1)) (h := hl []) (env' := [(2, (bool false))]) (L' := []) rfl hs_refl ?_))
              obtain rfl := Option.some.inj H1
              obtain rfl := Option.some.inj H0
              exact SatL.ret (fnQ_snap [] (bool false) (bool false) rfl (Snap.free _ (.sc _)) rfl)
          ·
            replace H1 := iteF H1 (by simpa using g520)
            refine dd_off rfl rfl ?_
            refine dd_off rfl rfl ?_
            refine dd_off rfl rfl ?_
            refine dd_off rfl rfl ?_
            refine dd_off rfl rfl ?_
            refine dd_off rfl rfl ?_
            refine dd_off rfl rfl ?_
            refine dd_off rfl rfl ?_
            refine dd_on rfl rfl (ds_r0 _ rfl rfl (fun _ hK => s_pickF (v := (bool false)) rfl rfl hK) ?_)
            refine dd_step (ds_r0 _ rfl rfl (fun _ hK => s_pickF (v := (bool false)) rfl rfl hK) ?_)
            refine dd_step (ds_r0 _ rfl rfl (fun _ hK => s_mv (v := (bool false)) rfl hK) ?_)
            refine dd_on rfl rfl (ds_r0 _ rfl rfl (fun _ hK => s_faOwn (j' := 1) fld_78_1 rfl rfl (isC (hl_self _ _ _)) hK) ?_)
            refine dd_on rfl rfl (ds_r0 _ rfl rfl (fun _ hK => s_load1 (c := (int e_334.Kind)) agg_3 (d_own rfl (hl_self _ _ _) rfl rfl) rfl hK) ?_)
            obtain ⟨r_339, hr_339, H1⟩ := bindS H1
            refine dd_on rfl rfl (ds_r0 _ rfl rfl (fun _ hK => s_call (avs := [(int e_334.Kind), (int 0), (int 15)]) rfl rfl rfl (PC.call1 (ref09_within_PC hr_339) (FreeL.cons (.sc _) (FreeL.cons (.sc _) (FreeL.cons (.sc _) FreeL.nil))) hK)) ?_)
            refine dd_on rfl rfl (ds_r0 _ rfl rfl (fun _ hK => s_not rfl hK) ?_)
            refine dd_step (ds_r0 _ rfl rfl (fun _ hK => s_pickF (v := (bool (!r_339))) rfl rfl hK) ?_)
            refine dd_step (ds_r0 _ rfl rfl (fun _ hK => s_mv (v := (bool (!r_339))) rfl hK) ?_)
            refine dd_split rfl _ rfl (fun g571 => ?_) (fun g571 => ?_)
            ·
              replace H1 := iteF H1 (by simpa using g571)
              refine ds_r0 _ rfl rfl (fun _ hK => s_faOwn (j' := 2) fld_78_2 rfl rfl (isC (hl_self _ _ _)) hK) ?_
              refine dd_on rfl rfl (ds_r0 _ rfl rfl (fun _ hK => s_load1 (c := (.sl (List.map int1 e_334.Readings))) agg_23 (d_own rfl (hl_self _ _ _) rfl rfl) rfl hK) ?_)
              obtain ⟨r_340, hr_340, H1⟩ := bindS H1
              refine dd_on rfl rfl (ds_r0 _ rfl rfl (fun _ hK => s_call (avs := [(.sl (List.map int1 e_334.Readings))]) rfl rfl rfl (PC.call1 (ref09_Said_PC hr_340) (FreeL.cons (Free.slm fr_int1) FreeL.nil) hK)) ?_)
              refine dd_on rfl rfl (ds_r0 _ rfl rfl (fun _ hK => s_not rfl hK) ?_)
              refine dd_step (ds_r0 _ rfl rfl (fun _ hK => s_pickF (v := (bool (!r_340))) rfl rfl hK) ?_)
              refine dd_end rc_nil (hK510 _ (SatL.norm (n := (n_326 + 1)) (h := hl [(n_326, (some (.cells 3 78 [[(int e_334.Tick), (int e_334.Kind), (.sl (List.map int1 e_334.Readings))]])))]) (env' := [(0, (.sl (List.map Fed.cells l_292))), (3, (int i_325)), (48, (bool (!r_340)))]) (L' := []) rfl hs_nil ?_))
              repeat refine SatL.seq ?_
              refine SatL.condX rfl (fun hc577 => ?_) (fun hc577 => ?_)
              ·
                replace H1 := iteT H1 hc577
                repeat refine SatL.seq ?_
                refine SatL.reg [2] [some 2] rfl rfl fun K578 hK578 => ?_
                refine st (fun _ hk => s_as (v := (bool false)) rfl hk) ?_
                refine aopsS_end (hK578 _ (SatL.norm (n := (n_326 + 1)) (h := hl []) (env' := [(2, (bool false))]) (L' := []) rfl hs_refl ?_))
                obtain rfl := Option.some.inj H1
                obtain rfl := Option.some.inj H0
                exact SatL.ret (fnQ_snap [] (bool false) (bool false) rfl (Snap.free _ (.sc _)) rfl)
              ·
                replace H1 := iteF H1 hc577
                refine SatL.skip ?_
                refine SatL.nil (blockN (thenN ?_))
                repeat refine SatL.seq ?_
                refine SatL.rege [some 12, some 13, some 3] rfl rfl fun K580 hK580 => ?_
                refine st (fun _ hk => s_mv (v := (int i_325)) rfl hk) ?_
                refine st (fun _ hk => s_bin rfl rfl (b_add64 hk)) ?_
                refine st (fun _ hk => s_as (v := (int (w64 (i_325 + 1)))) rfl hk) ?_
                refine aopsS_end (hK580 _ ?_)
                have hw584 : w64 (i_325 + 1) = i_325 + 1 := w64_id (by omega) (by omega)
                exact (thenN ⟨k0, ⟨(w64 (i_325 + 1)), (n_326 + 1), (StLe.of [] (n_326 + 1) rfl hs_nil (Nat.le_refl _)), (by omega), (by rw [hw584]; omega), (Eq.mpr (congrArg (fun q_ => ref09_Parts_L0 l_292 k0 q_ = some o_317) hw584) H1)⟩, by omega⟩)
            ·
              replace H1 := iteT H1 (by simpa using g571)
              refine dd_off rfl rfl ?_
              refine dd_off rfl rfl ?_
              refine dd_off rfl rfl ?_
              refine dd_step (ds_r0 _ rfl rfl (fun _ hK => s_pickT (v := (bool true)) rfl rfl hK) ?_)
              refine dd_end rc_nil (hK510 _ (SatL.norm (n := (n_326 + 1)) (h := hl [(n_326, (some (.cells 3 78 [[(int e_334.Tick), (int e_334.Kind), (.sl (List.map int1 e_334.Readings))]])))]) (env' := [(0, (.sl (List.map Fed.cells l_292))), (3, (int i_325)), (48, (bool true))]) (L' := []) rfl hs_nil ?_))
              repeat refine SatL.seq ?_
              refine SatL.condT rfl rfl ?_
              repeat refine SatL.seq ?_
              refine SatL.reg [2] [some 2] rfl rfl fun K586 hK586 => ?_
              refine st (fun _ hk => s_as (v := (bool false)) rfl hk) ?_
              refine aopsS_end (hK586 _ (SatL.norm (n := (n_326 + 1)) (h := hl []) (env' := [(2, (bool false))]) (L' := []) rfl hs_refl ?_))
              obtain rfl := Option.some.inj H1
              obtain rfl := Option.some.inj H0
              exact SatL.ret (fnQ_snap [] (bool false) (bool false) rfl (Snap.free _ (.sc _)) rfl)
        ·
          replace H1 := iteT H1 (by simpa using g516)
          refine dd_off rfl rfl ?_
          refine dd_off rfl rfl ?_
          refine dd_ud rfl rfl ?_
          refine dd_ud rfl rfl ?_
          refine dd_ud rfl rfl ?_
          refine dd_ud rfl rfl ?_
          refine dd_ud rfl rfl ?_
          refine dd_ud rfl rfl ?_
          refine dd_ud rfl rfl ?_
          refine dd_ud rfl rfl ?_
          refine dd_ud rfl rfl ?_
          refine dd_off rfl rfl ?_
          refine dd_step (ds_r0 _ rfl rfl (fun _ hK => s_pickT (v := (bool true)) rfl rfl hK) ?_)
          refine dd_step (ds_r0 _ rfl rfl (fun _ hK => s_mv (v := (bool true)) rfl hK) ?_)
          refine dd_off rfl rfl ?_
          refine dd_off rfl rfl ?_
          refine dd_off rfl rfl ?_
          refine dd_off rfl rfl ?_
          refine dd_step (ds_r0 _ rfl rfl (fun _ hK => s_pickT (v := (bool true)) rfl rfl hK) ?_)
          refine dd_step (ds_r0 _ rfl rfl (fun _ hK => s_mv (v := (bool true)) rfl hK) ?_)
          refine dd_off rfl rfl ?_
          refine dd_off rfl rfl ?_
          refine dd_off rfl rfl ?_
          refine dd_off rfl rfl ?_
          refine dd_step (ds_r0 _ rfl rfl (fun _ hK => s_pickT (v := (bool true)) rfl rfl hK) ?_)
          refine dd_end rc_nil (hK510 _ (SatL.norm (n := (n_326 + 1)) (h := hl [(n_326, (some (.cells 3 78 [[(int e_334.Tick), (int e_334.Kind), (.sl (List.map int1 e_334.Readings))]])))]) (env' := [(0, (.sl (List.map Fed.cells l_292))), (3, (int i_325)), (48, (bool true))]) (L' := []) rfl hs_nil ?_))
          repeat refine SatL.seq ?_
          refine SatL.condT rfl rfl ?_
          repeat refine SatL.seq ?_
          refine SatL.reg [2] [some 2] rfl rfl fun K593 hK593 => ?_
          refine st (fun _ hk => s_as (v := (bool false)) rfl hk) ?_
          refine aopsS_end (hK593 _ (SatL.norm (n := (n_326 + 1)) (h := hl []) (env' := [(2, (bool false))]) (L' := []) rfl hs_refl ?_))
          obtain rfl := Option.some.inj H1
          obtain rfl := Option.some.inj H0
          exact SatL.ret (fnQ_snap [] (bool false) (bool false) rfl (Snap.free _ (.sc _)) rfl)
    ·
      rintro s_ ⟨n_316, rfl, hs_⟩
      refine SatL.le hs_ ?_
      clear hs_
      replace H0 := sumun0S H0
      repeat refine SatL.seq ?_
      refine SatL.reg [2] [some 2] rfl rfl fun K595 hK595 => ?_
      refine st (fun _ hk => s_as (v := (bool true)) rfl hk) ?_
      refine aopsS_end (hK595 _ (SatL.norm (n := n_316) (h := hl []) (env' := [(2, (bool true))]) (L' := []) rfl hs_refl ?_))
      obtain rfl := Option.some.inj H0
      exact SatL.ret (fnQ_snap [] (bool true) (bool true) rfl (Snap.free _ (.sc _)) rfl)

theorem ref09_CheckFed_PC {l_291 : (List Fed)} {r : Int} (H0 : ref09_CheckFed l_291 = some r) : PC Try.prog 21 [(.sl (List.map Fed.cells l_291))] (· = (int r)) := by
  unfold ref09_CheckFed at H0
  refine PC.of_bodyL [(0, (.sl (List.map Fed.cells l_291)))] Try.func21 rfl rfl (Nat.le_of_ble_eq_true rfl) rfl fun O => ?_
  repeat refine SatL.seq ?_
  refine SatL.reg [0] [some 2] rfl rfl fun K1 hK1 => ?_
  refine st (fun _ hk => s_as (v := (int 0)) rfl hk) ?_
  refine aopsS_end (hK1 _ (SatL.norm (n := 0) (h := hl []) (env' := [(0, (.sl (List.map Fed.cells l_291)))]) (L' := []) rfl hs_refl ?_))
  repeat refine SatL.seq ?_
  refine SatL.reg [5] [some 3, some 4, some 5] rfl rfl fun K3 hK3 => ?_
  refine st (fun _ hk => s_mv (v := (.sl (List.map Fed.cells l_291))) rfl hk) ?_
  obtain ⟨r_341, hr_341, H0⟩ := bindS H0
  refine st (fun _ hk => s_call (avs := [(.sl (List.map Fed.cells l_291))]) rfl rfl rfl (PC.call1 (ref09_Parts_PC hr_341) (FreeL.cons (Free.slm Fed.fr) FreeL.nil) hk)) ?_
  refine st (fun _ hk => s_not rfl hk) ?_
  refine aopsS_end (hK3 _ (SatL.norm (n := 0) (h := hl []) (env' := [(5, (bool (!r_341)))]) (L' := []) rfl hs_refl ?_))
  repeat refine SatL.seq ?_
  refine SatL.condX rfl (fun hc7 => ?_) (fun hc7 => ?_)
  ·
    replace H0 := iteT H0 hc7
    repeat refine SatL.seq ?_
    refine SatL.reg [2] [some 2] rfl rfl fun K8 hK8 => ?_
    refine st (fun _ hk => s_as (v := (int 91)) rfl hk) ?_
    refine aopsS_end (hK8 _ (SatL.norm (n := 0) (h := hl []) (env' := [(2, (int 91))]) (L' := []) rfl hs_refl ?_))
    obtain rfl := Option.some.inj H0
    exact SatL.ret (fnQ_snap [] (int 91) (int 91) rfl (Snap.free _ (.sc _)) rfl)
  ·
    replace H0 := iteF H0 hc7
    refine SatL.skip ?_
    repeat refine SatL.seq ?_
    refine SatL.reg [2] [some 2] rfl rfl fun K10 hK10 => ?_
    refine st (fun _ hk => s_as (v := (int 0)) rfl hk) ?_
    refine aopsS_end (hK10 _ (SatL.norm (n := 0) (h := hl []) (env' := [(2, (int 0))]) (L' := []) rfl hs_refl ?_))
    obtain rfl := Option.some.inj H0
    exact SatL.ret (fnQ_snap [] (int 0) (int 0) rfl (Snap.free _ (.sc _)) rfl)

end Go.Abs
