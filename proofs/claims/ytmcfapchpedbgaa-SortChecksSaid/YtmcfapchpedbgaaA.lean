import Derived.Test.YtmcfapchpedbgaaF
import Derived.Test.YtmcfapchpedbgaaZD3
set_option linter.unusedSimpArgs false
set_option linter.unusedVariables false
set_option maxRecDepth 10000
namespace Go.Abs
open Go Go.Proofs

structure Gate where
  At : Int
  Bin : Int
deriving DecidableEq
abbrev Gate.cells (x : Gate) : List AV := [(int x.At), (int x.Bin)]
theorem Gate.fr (x : Gate) : FreeL (Gate.cells x) := (FreeL.cons (.sc _) (FreeL.cons (.sc _) FreeL.nil))
theorem Gate.len (x : Gate) : (Gate.cells x).length = 2 := rfl

structure Belt where
  Length : Int
  Camera : Int
  Slow : Int
  Gates : (List Gate)
  Bins : (List Int)
deriving DecidableEq
abbrev Belt.cells (x : Belt) : List AV := [(int x.Length), (int x.Camera), (int x.Slow), (.sl (List.map Gate.cells x.Gates)), (.sl (List.map int1 x.Bins))]
theorem Belt.fr (x : Belt) : FreeL (Belt.cells x) := (FreeL.cons (.sc _) (FreeL.cons (.sc _) (FreeL.cons (.sc _) (FreeL.cons (Free.slm Gate.fr) (FreeL.cons (Free.slm fr_int1) FreeL.nil)))))
theorem Belt.len (x : Belt) : (Belt.cells x).length = 5 := rfl

structure Fed where
  Tick : Int
  Kind : Int
  Readings : (List Int)
deriving DecidableEq
abbrev Fed.cells (x : Fed) : List AV := [(int x.Tick), (int x.Kind), (.sl (List.map int1 x.Readings))]
theorem Fed.fr (x : Fed) : FreeL (Fed.cells x) := (FreeL.cons (.sc _) (FreeL.cons (.sc _) (FreeL.cons (Free.slm fr_int1) FreeL.nil)))
theorem Fed.len (x : Fed) : (Fed.cells x).length = 3 := rfl

def ref09_Great_L0 (l_5 : (List Fed)) : Nat → Int → Option (Bool ⊕ Unit)
  | 0, _ => (some (Sum.inr ()))
  | k0 + 1, i_12 => (gi l_5 i_12).bind fun e_14 => (if (decide (20 < (List.length e_14.Readings : Int))) = true then (some (Sum.inl true)) else ref09_Great_L0 l_5 k0 ((i_12 + 1)))

def ref09_Great (b_4 : Belt) (l_5 : (List Fed)) : Option Bool :=
  (if (decide (12 < (List.length b_4.Gates : Int))) = true then (some true) else (if (decide (30 < (List.length b_4.Bins : Int))) = true then (some true) else (if (decide (60 < (List.length l_5 : Int))) = true then (some true) else (ref09_Great_L0 l_5 (Int.toNat ((List.length l_5 : Int) - 0)) 0).bind (fun s_ => sumE s_ (fun r_ => (some r_)) (fun s_ => un0 s_ ((some false)))))))

theorem ref09_Great_PC {b_4 : Belt} {l_5 : (List Fed)} {r : Bool} (H0 : ref09_Great b_4 l_5 = some r) : PC Try.prog 15 [(.ag (Belt.cells b_4)), (.sl (List.map Fed.cells l_5))] (· = (bool r)) := by
  unfold ref09_Great at H0
  refine PC.of_bodyL [(0, (.ag (Belt.cells b_4))), (1, (.sl (List.map Fed.cells l_5)))] Try.func15 rfl rfl (Nat.le_of_ble_eq_true rfl) rfl fun O => ?_
  repeat refine SatL.seq ?_
  refine SatL.reg [1, 2] [some 2, some 4] rfl rfl fun K1 hK1 => ?_
  refine aopsS_step fun _ hK => s_box (cs := [(int b_4.Length), (int b_4.Camera), (int b_4.Slow), (.sl (List.map Gate.cells b_4.Gates)), (.sl (List.map int1 b_4.Bins))]) (m := 5) (n' := 1) rfl rfl rfl (hK _ _ _ ?_)
  clear hK
  refine aopsS_step fun _ hK => s_as (v := (bool false)) rfl (hK _ _ _ ?_)
  clear hK
  refine aopsS_end (hK1 _ (SatL.norm (n := 1) (h := hl [(0, (some (.cells 5 25 [[(int b_4.Length), (int b_4.Camera), (int b_4.Slow), (.sl (List.map Gate.cells b_4.Gates)), (.sl (List.map int1 b_4.Bins))]])))]) (env' := [(1, (.sl (List.map Fed.cells l_5))), (2, (.own 0 0 0))]) (L' := [(0, (some (.cells 5 25 [[(int b_4.Length), (int b_4.Camera), (int b_4.Slow), (.sl (List.map Gate.cells b_4.Gates)), (.sl (List.map int1 b_4.Bins))]])))]) rfl hs_refl ?_))
  repeat refine SatL.seq ?_
  refine SatL.reg [1, 20] [some 6, some 7, some 8, some 9, some 10, some 11, some 12, some 13, some 14, some 15, some 16, some 17, some 18, some 19, some 20] rfl rfl fun K4 hK4 => ?_
  refine aopsS_step fun _ hK => s_faOwn (j' := 3) fld_25_3 rfl rfl (isC (hl_self _ _ _)) (hK _ _ _ ?_)
  clear hK
  refine aopsS_step fun _ hK => s_load1 (c := (.sl (List.map Gate.cells b_4.Gates))) agg_22 (d_own rfl (hl_self _ _ _) rfl rfl) rfl (hK _ _ _ ?_)
  clear hK
  refine aopsS_step fun _ hK => s_lenSl elem_22 rfl (fun hl7 => hK _ _ _ ?_)
  clear hK
  refine aopsS_step fun _ hK => s_bin rfl rfl (b_gtr (hK _ _ _ ?_))
  clear hK
  refine aopsS_step fun _ hK => s_mv (v := (bool (decide (12 < (List.length b_4.Gates : Int))))) rfl (hK _ _ _ ?_)
  clear hK
  refine aopsS_split rfl _ rfl (fun g10 => ?_) (fun g10 => ?_)
  ·
    replace H0 := iteF H0 (by simpa using g10)
    intro _ hK
    refine s_faOwn (j' := 4) fld_25_4 rfl rfl (isC (hl_self _ _ _)) (hK _ _ _ ?_)
    clear hK
    refine aopsS_on rfl rfl fun _ hK => s_load1 (c := (.sl (List.map int1 b_4.Bins))) agg_23 (d_own rfl (hl_self _ _ _) rfl rfl) rfl (hK _ _ _ ?_)
    clear hK
    refine aopsS_on rfl rfl fun _ hK => s_lenSl elem_23 rfl (fun hl13 => hK _ _ _ ?_)
    clear hK
    refine aopsS_on rfl rfl fun _ hK => s_bin rfl rfl (b_gtr (hK _ _ _ ?_))
    clear hK
    refine aopsS_step fun _ hK => s_pickF (v := (bool (decide (30 < (List.length b_4.Bins : Int))))) rfl rfl (hK _ _ _ ?_)
    clear hK
    refine aopsS_step fun _ hK => s_mv (v := (bool (decide (30 < (List.length b_4.Bins : Int))))) rfl (hK _ _ _ ?_)
    clear hK
    refine aopsS_split rfl _ rfl (fun g17 => ?_) (fun g17 => ?_)
    ·
      replace H0 := iteF H0 (by simpa using g17)
      intro _ hK
      refine s_mv (v := (.sl (List.map Fed.cells l_5))) rfl (hK _ _ _ ?_)
      clear hK
      refine aopsS_on rfl rfl fun _ hK => s_lenSl elem_26 rfl (fun hl19 => hK _ _ _ ?_)
      clear hK
      refine aopsS_on rfl rfl fun _ hK => s_bin rfl rfl (b_gtr (hK _ _ _ ?_))
      clear hK
      refine aopsS_step fun _ hK => s_pickF (v := (bool (decide (60 < (List.length l_5 : Int))))) rfl rfl (hK _ _ _ ?_)
      clear hK
      refine aopsS_end (hK4 _ (SatL.norm (n := 1) (h := hl [(0, (some (.cells 5 25 [[(int b_4.Length), (int b_4.Camera), (int b_4.Slow), (.sl (List.map Gate.cells b_4.Gates)), (.sl (List.map int1 b_4.Bins))]])))]) (env' := [(1, (.sl (List.map Fed.cells l_5))), (20, (bool (decide (60 < (List.length l_5 : Int)))))]) (L' := []) rfl hs_nil ?_))
      repeat refine SatL.seq ?_
      refine SatL.condX rfl (fun hc22 => ?_) (fun hc22 => ?_)
      ·
        replace H0 := iteT H0 hc22
        repeat refine SatL.seq ?_
        refine SatL.reg [4] [some 4] rfl rfl fun K23 hK23 => ?_
        refine aopsS_step fun _ hK => s_as (v := (bool true)) rfl (hK _ _ _ ?_)
        clear hK
        refine aopsS_end (hK23 _ (SatL.norm (n := 1) (h := hl []) (env' := [(4, (bool true))]) (L' := []) rfl hs_refl ?_))
        obtain rfl := Option.some.inj H0
        exact SatL.ret (fnQ_snap (bool true) (bool true) rfl (Snap.free _ (.sc _)) rfl)
      ·
        replace H0 := iteF H0 hc22
        refine SatL.skip ?_
        repeat refine SatL.seq ?_
        refine SatL.reg [1, 5] [some 5] rfl rfl fun K25 hK25 => ?_
        refine aopsS_step fun _ hK => s_as (v := (int 0)) rfl (hK _ _ _ ?_)
        clear hK
        refine aopsS_end (hK25 _ (SatL.norm (n := 1) (h := hl []) (env' := [(1, (.sl (List.map Fed.cells l_5))), (5, (int 0))]) (L' := []) rfl hs_refl ?_))
        repeat refine SatL.seq ?_
        obtain ⟨o_10, H1, H0⟩ := bindS H0
        refine SatL.mid [] (fun s_ => (Sum.inr ()) = o_10 ∧ StLe s_ [] [] 1) ?_ ?_
        ·
          repeat refine SatL.seq ?_
          refine SatL.block ?_
          repeat refine SatL.seq ?_
          refine SatL.loopK [1, 5] (fun k0 s_ => ∃ (i_12 : Int), StLe s_ [(1, (.sl (List.map Fed.cells l_5))), (5, (int i_12))] [] 1 ∧ 0 ≤ i_12 ∧ k0 = Int.toNat ((List.length l_5 : Int) - i_12) ∧ ref09_Great_L0 l_5 k0 i_12 = some o_10) (Int.toNat ((List.length l_5 : Int) - 0)) ?_ ?_
          · exact ⟨0, (StLe.of [] 1 rfl hs_nil (Nat.le_refl _)), (by omega), rfl, H1⟩
          rintro k0 s_ ⟨i_12, hs_, _, hk_, H1⟩
          refine SatL.le hs_ ?_
          clear hs_
          rcases k0 with _ | k0
          ·
            rw [ref09_Great_L0.eq_1] at H1
            repeat refine SatL.seq ?_
            refine SatL.reg [1, 5, 24] [some 21, some 22, some 23, some 24] rfl rfl fun K132 hK132 => ?_
            refine aopsS_step fun _ hK => s_mv (v := (int i_12)) rfl (hK _ _ _ ?_)
            clear hK
            refine aopsS_step fun _ hK => s_mv (v := (.sl (List.map Fed.cells l_5))) rfl (hK _ _ _ ?_)
            clear hK
            refine aopsS_step fun _ hK => s_lenSl elem_26 rfl (fun hl135 => hK _ _ _ ?_)
            clear hK
            refine aopsS_step fun _ hK => s_bin rfl rfl (b_lss (hK _ _ _ ?_))
            clear hK
            refine aopsS_end (hK132 _ (SatL.norm (n := 1) (h := hl []) (env' := [(1, (.sl (List.map Fed.cells l_5))), (5, (int i_12)), (24, (bool (decide (i_12 < (List.length l_5 : Int)))))]) (L' := []) rfl hs_refl ?_))
            repeat refine SatL.seq ?_
            refine SatL.condF rfl (decide_eq_false (by omega)) ?_
            refine SatL.exit ?_
            simp only [thenQ, blockQ, if_true, reduceIte, Nat.reduceEqDiff]
            obtain rfl := Option.some.inj H1
            exact SatL.nil (thenN ⟨rfl, (StLe.of [] 1 rfl hs_nil (Nat.le_refl _))⟩)
          ·
            rw [ref09_Great_L0.eq_2] at H1
            repeat refine SatL.seq ?_
            refine SatL.reg [1, 5, 24] [some 21, some 22, some 23, some 24] rfl rfl fun K137 hK137 => ?_
            refine aopsS_step fun _ hK => s_mv (v := (int i_12)) rfl (hK _ _ _ ?_)
            clear hK
            refine aopsS_step fun _ hK => s_mv (v := (.sl (List.map Fed.cells l_5))) rfl (hK _ _ _ ?_)
            clear hK
            refine aopsS_step fun _ hK => s_lenSl elem_26 rfl (fun hl140 => hK _ _ _ ?_)
            clear hK
            refine aopsS_step fun _ hK => s_bin rfl rfl (b_lss (hK _ _ _ ?_))
            clear hK
            refine aopsS_end (hK137 _ (SatL.norm (n := 1) (h := hl []) (env' := [(1, (.sl (List.map Fed.cells l_5))), (5, (int i_12)), (24, (bool (decide (i_12 < (List.length l_5 : Int)))))]) (L' := []) rfl hs_refl ?_))
            repeat refine SatL.seq ?_
            refine SatL.condT rfl (decide_eq_true (by omega)) ?_
            have hlt142 : (i_12 < (List.length l_5 : Int)) := by omega
            refine SatL.skip ?_
            repeat refine SatL.seq ?_
            refine SatL.block ?_
            repeat refine SatL.seq ?_
            refine SatL.reg [1, 5, 33] [some 27, some 28, some 29, some 30, some 31, some 32, some 33] rfl rfl fun K143 hK143 => ?_
            refine aopsS_step fun _ hK => s_mv (v := (.sl (List.map Fed.cells l_5))) rfl (hK _ _ _ ?_)
            clear hK
            refine aopsS_step fun _ hK => s_mv (v := (int i_12)) rfl (hK _ _ _ ?_)
            clear hK
            obtain ⟨e_14, he_14, H1⟩ := bindS H1
            refine aopsS_step fun _ hK => s_ixSl elem_26 rfl rfl he_14 cells_78 rfl (by decide) (hK _ _ _ ?_)
            clear hK
            refine aopsS_step fun _ hK => s_faFp (cs' := [(.sl (List.map int1 e_14.Readings))]) fld_78_2 rfl rfl (hK _ _ _ ?_)
            clear hK
            refine aopsS_step fun _ hK => s_load1 (c := (.sl (List.map int1 e_14.Readings))) agg_23 (d_fp rfl) rfl (hK _ _ _ ?_)
            clear hK
            refine aopsS_step fun _ hK => s_lenSl elem_23 rfl (fun hl149 => hK _ _ _ ?_)
            clear hK
            refine aopsS_step fun _ hK => s_bin rfl rfl (b_gtr (hK _ _ _ ?_))
            clear hK
            refine aopsS_end (hK143 _ (SatL.norm (n := 1) (h := hl []) (env' := [(1, (.sl (List.map Fed.cells l_5))), (5, (int i_12)), (33, (bool (decide (20 < (List.length e_14.Readings : Int)))))]) (L' := []) rfl hs_refl ?_))
            repeat refine SatL.seq ?_
            refine SatL.condX rfl (fun hc151 => ?_) (fun hc151 => ?_)
            ·
              replace H1 := iteT H1 hc151
              repeat refine SatL.seq ?_
              refine SatL.reg [4] [some 4] rfl rfl fun K152 hK152 => ?_
              refine aopsS_step fun _ hK => s_as (v := (bool true)) rfl (hK _ _ _ ?_)
              clear hK
              refine aopsS_end (hK152 _ (SatL.norm (n := 1) (h := hl []) (env' := [(4, (bool true))]) (L' := []) rfl hs_refl ?_))
              obtain rfl := Option.some.inj H1
              obtain rfl := Option.some.inj H0
              exact SatL.ret (fnQ_snap (bool true) (bool true) rfl (Snap.free _ (.sc _)) rfl)
            ·
              replace H1 := iteF H1 hc151
              refine SatL.skip ?_
              refine SatL.nil (blockN (thenN ?_))
              repeat refine SatL.seq ?_
              refine SatL.rege [some 25, some 26, some 5] rfl rfl fun K154 hK154 => ?_
              refine aopsS_step fun _ hK => s_mv (v := (int i_12)) rfl (hK _ _ _ ?_)
              clear hK
              refine aopsS_step fun _ hK => s_bin rfl rfl (b_add64 (hK _ _ _ ?_))
              clear hK
              refine aopsS_step fun _ hK => s_as (v := (int (w64 (i_12 + 1)))) rfl (hK _ _ _ ?_)
              clear hK
              refine aopsS_end (hK154 _ ?_)
              have hw158 : w64 (i_12 + 1) = i_12 + 1 := w64_id (by omega) (by omega)
              exact (thenN ⟨k0, ⟨(w64 (i_12 + 1)), (StLe.of [] 1 rfl hs_nil (Nat.le_refl _)), (by omega), (by rw [hw158]; omega), (Eq.mpr (congrArg (fun q_ => ref09_Great_L0 l_5 k0 q_ = some o_10) hw158) H1)⟩, by omega⟩)
        ·
          rintro s_ ⟨rfl, hs_⟩
          refine SatL.le hs_ ?_
          clear hs_
          replace H0 := sumun0S H0
          repeat refine SatL.seq ?_
          refine SatL.reg [4] [some 4] rfl rfl fun K159 hK159 => ?_
          refine aopsS_step fun _ hK => s_as (v := (bool false)) rfl (hK _ _ _ ?_)
          clear hK
          refine aopsS_end (hK159 _ (SatL.norm (n := 1) (h := hl []) (env' := [(4, (bool false))]) (L' := []) rfl hs_refl ?_))
          obtain rfl := Option.some.inj H0
          exact SatL.ret (fnQ_snap (bool false) (bool false) rfl (Snap.free _ (.sc _)) rfl)
    ·
      replace H0 := iteT H0 (by simpa using g17)
      refine aopsS_off rfl rfl ?_
      refine aopsS_off rfl rfl ?_
      refine aopsS_step fun _ hK => s_pickT (v := (bool true)) rfl rfl (hK _ _ _ ?_)
      clear hK
      refine aopsS_end (hK4 _ (SatL.norm (n := 1) (h := hl [(0, (some (.cells 5 25 [[(int b_4.Length), (int b_4.Camera), (int b_4.Slow), (.sl (List.map Gate.cells b_4.Gates)), (.sl (List.map int1 b_4.Bins))]])))]) (env' := [(1, (.sl (List.map Fed.cells l_5))), (20, (bool true))]) (L' := []) rfl hs_nil ?_))
      repeat refine SatL.seq ?_
      refine SatL.condT rfl rfl ?_
      repeat refine SatL.seq ?_
      refine SatL.reg [4] [some 4] rfl rfl fun K162 hK162 => ?_
      refine aopsS_step fun _ hK => s_as (v := (bool true)) rfl (hK _ _ _ ?_)
      clear hK
      refine aopsS_end (hK162 _ (SatL.norm (n := 1) (h := hl []) (env' := [(4, (bool true))]) (L' := []) rfl hs_refl ?_))
      obtain rfl := Option.some.inj H0
      exact SatL.ret (fnQ_snap (bool true) (bool true) rfl (Snap.free _ (.sc _)) rfl)
  ·
    replace H0 := iteT H0 (by simpa using g10)
    refine aopsS_off rfl rfl ?_
    refine aopsS_off rfl rfl ?_
    refine aopsS_off rfl rfl ?_
    refine aopsS_step fun _ hK => s_pickT (v := (bool true)) rfl rfl (hK _ _ _ ?_)
    clear hK
    refine aopsS_step fun _ hK => s_mv (v := (bool true)) rfl (hK _ _ _ ?_)
    clear hK
    refine aopsS_off rfl rfl ?_
    refine aopsS_off rfl rfl ?_
    refine aopsS_off rfl rfl ?_
    refine aopsS_step fun _ hK => s_pickT (v := (bool true)) rfl rfl (hK _ _ _ ?_)
    clear hK
    refine aopsS_end (hK4 _ (SatL.norm (n := 1) (h := hl [(0, (some (.cells 5 25 [[(int b_4.Length), (int b_4.Camera), (int b_4.Slow), (.sl (List.map Gate.cells b_4.Gates)), (.sl (List.map int1 b_4.Bins))]])))]) (env' := [(1, (.sl (List.map Fed.cells l_5))), (20, (bool true))]) (L' := []) rfl hs_nil ?_))
    repeat refine SatL.seq ?_
    refine SatL.condT rfl rfl ?_
    repeat refine SatL.seq ?_
    refine SatL.reg [4] [some 4] rfl rfl fun K167 hK167 => ?_
    refine aopsS_step fun _ hK => s_as (v := (bool true)) rfl (hK _ _ _ ?_)
    clear hK
    refine aopsS_end (hK167 _ (SatL.norm (n := 1) (h := hl []) (env' := [(4, (bool true))]) (L' := []) rfl hs_refl ?_))
    obtain rfl := Option.some.inj H0
    exact SatL.ret (fnQ_snap (bool true) (bool true) rfl (Snap.free _ (.sc _)) rfl)

def slices_IndexFunc_int_int_L0 (f_24 : Int → Option Bool) (s_23 : (List Int)) : Nat → Int → Option (Int ⊕ Unit)
  | 0, _ => (some (Sum.inr ()))
  | k0 + 1, x_35 => (gi s_23 x_35).bind fun e_38 => (f_24 e_38).bind fun r_39 => (if r_39 = true then (some (Sum.inl x_35)) else slices_IndexFunc_int_int_L0 f_24 s_23 k0 ((x_35 + 1)))

def slices_IndexFunc_int_int (s_23 : (List Int)) (f_24 : Int → Option Bool) : Option Int :=
  (slices_IndexFunc_int_int_L0 f_24 s_23 (Int.toNat ((List.length s_23 : Int) - 0)) 0).bind (fun s_ => sumE s_ (fun r_ => (some r_)) (fun s_ => un0 s_ ((some (-1)))))

theorem slices_IndexFunc_int_int_PC {s_23 : (List Int)} {f_24 : Int → Option Bool} {gf_24 : FuncId} {cf_24 : List AV} (hf_24 : ∀ x0 r, f_24 x0 = some r → PC Try.prog gf_24 ([(int x0)] ++ cf_24) (· = (bool r))) (ff_24 : FreeL cf_24) {r : Int} (H0 : slices_IndexFunc_int_int s_23 f_24 = some r) : PC Try.prog 93 [(.sl (List.map int1 s_23)), (.fn gf_24 cf_24)] (· = (int r)) := by
  unfold slices_IndexFunc_int_int at H0
  refine PC.of_bodyL [(0, (.sl (List.map int1 s_23))), (1, (.fn gf_24 cf_24))] Try.func93 rfl rfl (Nat.le_of_ble_eq_true rfl) rfl fun O => ?_
  repeat refine SatL.seq ?_
  refine SatL.reg [0, 1] [some 4] rfl rfl fun K1 hK1 => ?_
  refine aopsS_step fun _ hK => s_as (v := (int 0)) rfl (hK _ _ _ ?_)
  clear hK
  refine aopsS_end (hK1 _ (SatL.norm (n := 0) (h := hl []) (env' := [(0, (.sl (List.map int1 s_23))), (1, (.fn gf_24 cf_24))]) (L' := []) rfl hs_refl ?_))
  repeat refine SatL.seq ?_
  refine SatL.reg [0, 1, 7, 8] [some 6, some 7, some 8] rfl rfl fun K3 hK3 => ?_
  refine aopsS_step fun _ hK => s_mv (v := (.sl (List.map int1 s_23))) rfl (hK _ _ _ ?_)
  clear hK
  refine aopsS_step fun _ hK => s_lenSl elem_23 rfl (fun hl5 => hK _ _ _ ?_)
  clear hK
  refine aopsS_step fun _ hK => s_mv (v := (int 0)) rfl (hK _ _ _ ?_)
  clear hK
  refine aopsS_end (hK3 _ (SatL.norm (n := 0) (h := hl []) (env' := [(0, (.sl (List.map int1 s_23))), (1, (.fn gf_24 cf_24)), (7, (int (List.length s_23 : Int))), (8, (int 0))]) (L' := []) rfl hs_refl ?_))
  repeat refine SatL.seq ?_
  obtain ⟨o_32, H1, H0⟩ := bindS H0
  refine SatL.mid [] (fun s_ => (Sum.inr ()) = o_32 ∧ StLe s_ [] [] 0) ?_ ?_
  ·
    repeat refine SatL.seq ?_
    refine SatL.block ?_
    repeat refine SatL.seq ?_
    refine SatL.loopK [0, 1, 7, 8] (fun k0 s_ => ∃ (x_35 : Int), StLe s_ [(0, (.sl (List.map int1 s_23))), (1, (.fn gf_24 cf_24)), (7, (int (List.length s_23 : Int))), (8, (int x_35))] [] 0 ∧ 0 ≤ x_35 ∧ k0 = Int.toNat ((List.length s_23 : Int) - x_35) ∧ slices_IndexFunc_int_int_L0 f_24 s_23 k0 x_35 = some o_32) (Int.toNat ((List.length s_23 : Int) - 0)) ?_ ?_
    · exact ⟨0, (StLe.of [] 0 rfl hs_nil (Nat.le_refl _)), (by omega), rfl, H1⟩
    rintro k0 s_ ⟨x_35, hs_, _, hk_, H1⟩
    refine SatL.le hs_ ?_
    clear hs_
    rcases k0 with _ | k0
    ·
      rw [slices_IndexFunc_int_int_L0.eq_1] at H1
      repeat refine SatL.seq ?_
      refine SatL.reg [0, 1, 7, 8, 9] [some 9] rfl rfl fun K107 hK107 => ?_
      refine aopsS_step fun _ hK => s_bin rfl rfl (b_lss (hK _ _ _ ?_))
      clear hK
      refine aopsS_end (hK107 _ (SatL.norm (n := 0) (h := hl []) (env' := [(0, (.sl (List.map int1 s_23))), (1, (.fn gf_24 cf_24)), (7, (int (List.length s_23 : Int))), (8, (int x_35)), (9, (bool (decide (x_35 < (List.length s_23 : Int)))))]) (L' := []) rfl hs_refl ?_))
      repeat refine SatL.seq ?_
      refine SatL.condF rfl (decide_eq_false (by omega)) ?_
      refine SatL.exit ?_
      simp only [thenQ, blockQ, if_true, reduceIte, Nat.reduceEqDiff]
      obtain rfl := Option.some.inj H1
      exact SatL.nil (thenN ⟨rfl, (StLe.of [] 0 rfl hs_nil (Nat.le_refl _))⟩)
    ·
      rw [slices_IndexFunc_int_int_L0.eq_2] at H1
      repeat refine SatL.seq ?_
      refine SatL.reg [0, 1, 7, 8, 9] [some 9] rfl rfl fun K109 hK109 => ?_
      refine aopsS_step fun _ hK => s_bin rfl rfl (b_lss (hK _ _ _ ?_))
      clear hK
      refine aopsS_end (hK109 _ (SatL.norm (n := 0) (h := hl []) (env' := [(0, (.sl (List.map int1 s_23))), (1, (.fn gf_24 cf_24)), (7, (int (List.length s_23 : Int))), (8, (int x_35)), (9, (bool (decide (x_35 < (List.length s_23 : Int)))))]) (L' := []) rfl hs_refl ?_))
      repeat refine SatL.seq ?_
      refine SatL.condT rfl (decide_eq_true (by omega)) ?_
      have hlt111 : (x_35 < (List.length s_23 : Int)) := by omega
      refine SatL.skip ?_
      repeat refine SatL.seq ?_
      refine SatL.block ?_
      repeat refine SatL.seq ?_
      refine SatL.reg [0, 1, 5, 7, 8] [some 10, some 5] rfl rfl fun K112 hK112 => ?_
      refine aopsS_step fun _ hK => s_mv (v := (int x_35)) rfl (hK _ _ _ ?_)
      clear hK
      refine aopsS_step fun _ hK => s_as (v := (int x_35)) rfl (hK _ _ _ ?_)
      clear hK
      refine aopsS_end (hK112 _ (SatL.norm (n := 0) (h := hl []) (env' := [(0, (.sl (List.map int1 s_23))), (1, (.fn gf_24 cf_24)), (5, (int x_35)), (7, (int (List.length s_23 : Int))), (8, (int x_35))]) (L' := []) rfl hs_refl ?_))
      repeat refine SatL.seq ?_
      refine SatL.reg [0, 1, 5, 7, 8, 16] [some 11, some 12, some 13, some 14, some 15, some 16] rfl rfl fun K115 hK115 => ?_
      refine aopsS_step fun _ hK => s_mv (v := (.fn gf_24 cf_24)) rfl (hK _ _ _ ?_)
      clear hK
      refine aopsS_step fun _ hK => s_mv (v := (.sl (List.map int1 s_23))) rfl (hK _ _ _ ?_)
      clear hK
      refine aopsS_step fun _ hK => s_mv (v := (int x_35)) rfl (hK _ _ _ ?_)
      clear hK
      obtain ⟨e_38, he_38, H1⟩ := bindS H1
      refine aopsS_step fun _ hK => s_ixSl elem_23 rfl rfl he_38 cells_3 rfl (by decide) (hK _ _ _ ?_)
      clear hK
      refine aopsS_step fun _ hK => s_load1 (c := (int e_38)) agg_3 (d_fp rfl) rfl (hK _ _ _ ?_)
      clear hK
      obtain ⟨r_39, hr_39, H1⟩ := bindS H1
      refine aopsS_step fun _ hK => s_call (avs := ([(int e_38)] ++ cf_24)) rfl rfl rfl (PC.call1 (hf_24 _ _ hr_39) (freeL_app (FreeL.cons (.sc _) FreeL.nil) ff_24) (hK _ _ _ ?_))
      clear hK
      refine aopsS_end (hK115 _ (SatL.norm (n := 0) (h := hl []) (env' := [(0, (.sl (List.map int1 s_23))), (1, (.fn gf_24 cf_24)), (5, (int x_35)), (7, (int (List.length s_23 : Int))), (8, (int x_35)), (16, (bool r_39))]) (L' := []) rfl hs_refl ?_))
      repeat refine SatL.seq ?_
      refine SatL.condX rfl (fun hc122 => ?_) (fun hc122 => ?_)
      ·
        replace H1 := iteT H1 hc122
        repeat refine SatL.seq ?_
        refine SatL.reg [4] [some 17, some 4] rfl rfl fun K123 hK123 => ?_
        refine aopsS_step fun _ hK => s_mv (v := (int x_35)) rfl (hK _ _ _ ?_)
        clear hK
        refine aopsS_step fun _ hK => s_as (v := (int x_35)) rfl (hK _ _ _ ?_)
        clear hK
        refine aopsS_end (hK123 _ (SatL.norm (n := 0) (h := hl []) (env' := [(4, (int x_35))]) (L' := []) rfl hs_refl ?_))
        obtain rfl := Option.some.inj H1
        obtain rfl := Option.some.inj H0
        exact SatL.ret (fnQ_snap (int x_35) (int x_35) rfl (Snap.free _ (.sc _)) rfl)
      ·
        replace H1 := iteF H1 hc122
        refine SatL.skip ?_
        refine SatL.nil (blockN (thenN ?_))
        repeat refine SatL.seq ?_
        refine SatL.rege [some 18, some 8] rfl rfl fun K126 hK126 => ?_
        refine aopsS_step fun _ hK => s_bin rfl rfl (b_add64 (hK _ _ _ ?_))
        clear hK
        refine aopsS_step fun _ hK => s_mv (v := (int (w64 (x_35 + 1)))) rfl (hK _ _ _ ?_)
        clear hK
        refine aopsS_end (hK126 _ ?_)
        have hw129 : w64 (x_35 + 1) = x_35 + 1 := w64_id (by omega) (by omega)
        exact (thenN ⟨k0, ⟨(w64 (x_35 + 1)), (StLe.of [] 0 rfl hs_nil (Nat.le_refl _)), (by omega), (by rw [hw129]; omega), (Eq.mpr (congrArg (fun q_ => slices_IndexFunc_int_int_L0 f_24 s_23 k0 q_ = some o_32) hw129) H1)⟩, by omega⟩)
  ·
    rintro s_ ⟨rfl, hs_⟩
    refine SatL.le hs_ ?_
    clear hs_
    replace H0 := sumun0S H0
    repeat refine SatL.seq ?_
    refine SatL.reg [4] [some 4] rfl rfl fun K130 hK130 => ?_
    refine aopsS_step fun _ hK => s_as (v := (int (-1))) rfl (hK _ _ _ ?_)
    clear hK
    refine aopsS_end (hK130 _ (SatL.norm (n := 0) (h := hl []) (env' := [(4, (int (-1)))]) (L' := []) rfl hs_refl ?_))
    obtain rfl := Option.some.inj H0
    exact SatL.ret (fnQ_snap (int (-1)) (int (-1)) rfl (Snap.free _ (.sc _)) rfl)

def slices_ContainsFunc_int_int (s_21 : (List Int)) (f_22 : Int → Option Bool) : Option Bool :=
  (slices_IndexFunc_int_int s_21 f_22).bind fun r_40 => (some (decide (0 ≤ r_40)))

theorem slices_ContainsFunc_int_int_PC {s_21 : (List Int)} {f_22 : Int → Option Bool} {gf_22 : FuncId} {cf_22 : List AV} (hf_22 : ∀ x0 r, f_22 x0 = some r → PC Try.prog gf_22 ([(int x0)] ++ cf_22) (· = (bool r))) (ff_22 : FreeL cf_22) {r : Bool} (H0 : slices_ContainsFunc_int_int s_21 f_22 = some r) : PC Try.prog 81 [(.sl (List.map int1 s_21)), (.fn gf_22 cf_22)] (· = (bool r)) := by
  unfold slices_ContainsFunc_int_int at H0
  refine PC.of_bodyL [(0, (.sl (List.map int1 s_21))), (1, (.fn gf_22 cf_22))] Try.func81 rfl rfl (Nat.le_of_ble_eq_true rfl) rfl fun O => ?_
  repeat refine SatL.seq ?_
  refine SatL.reg [0, 1] [some 4] rfl rfl fun K1 hK1 => ?_
  refine aopsS_step fun _ hK => s_as (v := (bool false)) rfl (hK _ _ _ ?_)
  clear hK
  refine aopsS_end (hK1 _ (SatL.norm (n := 0) (h := hl []) (env' := [(0, (.sl (List.map int1 s_21))), (1, (.fn gf_22 cf_22))]) (L' := []) rfl hs_refl ?_))
  repeat refine SatL.seq ?_
  refine SatL.reg [4] [some 5, some 6, some 7, some 8, some 4] rfl rfl fun K3 hK3 => ?_
  refine aopsS_step fun _ hK => s_mv (v := (.sl (List.map int1 s_21))) rfl (hK _ _ _ ?_)
  clear hK
  refine aopsS_step fun _ hK => s_mv (v := (.fn gf_22 cf_22)) rfl (hK _ _ _ ?_)
  clear hK
  obtain ⟨r_40, hr_40, H0⟩ := bindS H0
  refine aopsS_step fun _ hK => s_call (avs := [(.sl (List.map int1 s_21)), (.fn gf_22 cf_22)]) rfl rfl rfl (PC.call1 (slices_IndexFunc_int_int_PC hf_22 ff_22 hr_40) (FreeL.cons (Free.slm fr_int1) (FreeL.cons (Free.fnl ff_22) FreeL.nil)) (hK _ _ _ ?_))
  clear hK
  refine aopsS_step fun _ hK => s_bin rfl rfl (b_geq (hK _ _ _ ?_))
  clear hK
  refine aopsS_step fun _ hK => s_as (v := (bool (decide (0 ≤ r_40)))) rfl (hK _ _ _ ?_)
  clear hK
  refine aopsS_end (hK3 _ (SatL.norm (n := 0) (h := hl []) (env' := [(4, (bool (decide (0 ≤ r_40))))]) (L' := []) rfl hs_refl ?_))
  obtain rfl := Option.some.inj H0
  exact SatL.ret (fnQ_snap (bool (decide (0 ≤ r_40))) (bool (decide (0 ≤ r_40))) rfl (Snap.free _ (.sc _)) rfl)

def sort_from_c1 (n_41 : Int) (c_42 : Int) (c_43 : Int) : Option Bool :=
  (if (decide (n_41 < c_42)) = true then (some true) else (some (decide (c_43 < n_41))))

theorem sort_from_c1_PC {n_41 : Int} {c_42 : Int} {c_43 : Int} {r : Bool} (H0 : sort_from_c1 n_41 c_42 c_43 = some r) : PC Try.prog 82 [(int n_41), (.fp [(int c_42)]), (.fp [(int c_43)])] (· = (bool r)) := by
  unfold sort_from_c1 at H0
  refine PC.of_bodyL [(0, (int n_41)), (1, (.fp [(int c_42)])), (2, (.fp [(int c_43)]))] Try.func82 rfl rfl (Nat.le_of_ble_eq_true rfl) rfl fun O => ?_
  repeat refine SatL.seq ?_
  refine SatL.reg [0, 1, 2] [some 4] rfl rfl fun K1 hK1 => ?_
  refine aopsS_step fun _ hK => s_as (v := (bool false)) rfl (hK _ _ _ ?_)
  clear hK
  refine aopsS_end (hK1 _ (SatL.norm (n := 0) (h := hl []) (env' := [(0, (int n_41)), (1, (.fp [(int c_42)])), (2, (.fp [(int c_43)]))]) (L' := []) rfl hs_refl ?_))
  repeat refine SatL.seq ?_
  refine SatL.reg [4] [some 5, some 6, some 7, some 8, some 9, some 10, some 11, some 12, some 4] rfl rfl fun K3 hK3 => ?_
  refine aopsS_step fun _ hK => s_mv (v := (int n_41)) rfl (hK _ _ _ ?_)
  clear hK
  refine aopsS_step fun _ hK => s_load1 (c := (int c_42)) agg_3 (d_fp rfl) rfl (hK _ _ _ ?_)
  clear hK
  refine aopsS_step fun _ hK => s_bin rfl rfl (b_lss (hK _ _ _ ?_))
  clear hK
  refine aopsS_step fun _ hK => s_mv (v := (bool (decide (n_41 < c_42)))) rfl (hK _ _ _ ?_)
  clear hK
  refine aopsS_split rfl _ rfl (fun g8 => ?_) (fun g8 => ?_)
  ·
    replace H0 := iteF H0 (by simpa using g8)
    intro _ hK
    refine s_mv (v := (int n_41)) rfl (hK _ _ _ ?_)
    clear hK
    refine aopsS_on rfl rfl fun _ hK => s_load1 (c := (int c_43)) agg_3 (d_fp rfl) rfl (hK _ _ _ ?_)
    clear hK
    refine aopsS_on rfl rfl fun _ hK => s_bin rfl rfl (b_gtr (hK _ _ _ ?_))
    clear hK
    refine aopsS_step fun _ hK => s_pickF (v := (bool (decide (c_43 < n_41)))) rfl rfl (hK _ _ _ ?_)
    clear hK
    refine aopsS_step fun _ hK => s_as (v := (bool (decide (c_43 < n_41)))) rfl (hK _ _ _ ?_)
    clear hK
    refine aopsS_end (hK3 _ (SatL.norm (n := 0) (h := hl []) (env' := [(4, (bool (decide (c_43 < n_41))))]) (L' := []) rfl hs_refl ?_))
    obtain rfl := Option.some.inj H0
    exact SatL.ret (fnQ_snap (bool (decide (c_43 < n_41))) (bool (decide (c_43 < n_41))) rfl (Snap.free _ (.sc _)) rfl)
  ·
    replace H0 := iteT H0 (by simpa using g8)
    refine aopsS_off rfl rfl ?_
    refine aopsS_off rfl rfl ?_
    refine aopsS_step fun _ hK => s_pickT (v := (bool true)) rfl rfl (hK _ _ _ ?_)
    clear hK
    refine aopsS_step fun _ hK => s_as (v := (bool true)) rfl (hK _ _ _ ?_)
    clear hK
    refine aopsS_end (hK3 _ (SatL.norm (n := 0) (h := hl []) (env' := [(4, (bool true))]) (L' := []) rfl hs_refl ?_))
    obtain rfl := Option.some.inj H0
    exact SatL.ret (fnQ_snap (bool true) (bool true) rfl (Snap.free _ (.sc _)) rfl)

def sort_from (lo_18 : Int) (hi_19 : Int) (all_20 : (List Int)) : Option Bool :=
  (slices_ContainsFunc_int_int all_20 (fun x0 => sort_from_c1 x0 lo_18 hi_19)).bind fun r_44 => (some (!r_44))

theorem sort_from_PC {lo_18 : Int} {hi_19 : Int} {all_20 : (List Int)} {r : Bool} (H0 : sort_from lo_18 hi_19 all_20 = some r) : PC Try.prog 54 [(int lo_18), (int hi_19), (.sl (List.map int1 all_20))] (· = (bool r)) := by
  unfold sort_from at H0
  refine PC.of_bodyL [(0, (int lo_18)), (1, (int hi_19)), (2, (.sl (List.map int1 all_20)))] Try.func54 rfl rfl (Nat.le_of_ble_eq_true rfl) rfl fun O => ?_
  repeat refine SatL.seq ?_
  refine SatL.reg [2, 3, 4] [some 3, some 4, some 6] rfl rfl fun K1 hK1 => ?_
  refine aopsS_step fun _ hK => s_box (cs := [(int lo_18)]) (m := 1) (n' := 1) rfl rfl rfl (hK _ _ _ ?_)
  clear hK
  refine aopsS_step fun _ hK => s_box (cs := [(int hi_19)]) (m := 1) (n' := 2) rfl rfl rfl (hK _ _ _ ?_)
  clear hK
  refine aopsS_step fun _ hK => s_as (v := (bool false)) rfl (hK _ _ _ ?_)
  clear hK
  refine aopsS_end (hK1 _ (SatL.norm (n := 2) (h := hl [(1, (some (.cells 1 3 [[(int hi_19)]]))), (0, (some (.cells 1 3 [[(int lo_18)]])))]) (env' := [(2, (.sl (List.map int1 all_20))), (3, (.own 0 0 0)), (4, (.own 1 0 0))]) (L' := [(0, (some (.cells 1 3 [[(int lo_18)]]))), (1, (some (.cells 1 3 [[(int hi_19)]])))]) rfl (hs_cons (hl_ne (j := 0) (i := 1) (by decide) (hl_self _ _ _)) (hs_cons (hl_self _ _ _) hs_nil)) ?_))
  repeat refine SatL.seq ?_
  refine SatL.reg [6] [some 7, some 8, some 9, some 10, some 6] rfl rfl fun K5 hK5 => ?_
  refine aopsS_step fun _ hK => s_mv (v := (.sl (List.map int1 all_20))) rfl (hK _ _ _ ?_)
  clear hK
  refine aopsS_step fun _ hK => s_fn (cs := [(.own 0 0 0), (.own 1 0 0)]) rfl (hK _ _ _ ?_)
  clear hK
  obtain ⟨r_44, hr_44, H0⟩ := bindS H0
  refine aopsS_step fun _ hK => s_call (avs := [(.sl (List.map int1 all_20)), (.fn 82 [(.own 0 0 0), (.own 1 0 0)])]) rfl rfl rfl (PC.lend1 (args' := [(.sl (List.map int1 all_20)), (.fn 82 [(.fp [(int lo_18)]), (.fp [(int hi_19)])])]) (SnapL.cons (Snap.free _ (Free.slm fr_int1)) (SnapL.cons (Snap.fnL (SnapL.cons (Snap.ownL (hl_self _ _ _) rfl (SnapL.cons (Snap.free _ (.sc _)) SnapL.nil)) (SnapL.cons (Snap.ownL (hl_ne (j := 1) (i := 0) (by decide) (hl_self _ _ _)) rfl (SnapL.cons (Snap.free _ (.sc _)) SnapL.nil)) SnapL.nil))) SnapL.nil)) (slices_ContainsFunc_int_int_PC (fun x0 _ h => sort_from_c1_PC h) (FreeL.cons (Free.fpl (FreeL.cons (.sc _) FreeL.nil)) (FreeL.cons (Free.fpl (FreeL.cons (.sc _) FreeL.nil)) FreeL.nil)) hr_44) (.sc _) (hK _ _ _ ?_))
  clear hK
  refine aopsS_step fun _ hK => s_not rfl (hK _ _ _ ?_)
  clear hK
  refine aopsS_step fun _ hK => s_as (v := (bool (!r_44))) rfl (hK _ _ _ ?_)
  clear hK
  refine aopsS_end (hK5 _ (SatL.norm (n := 2) (h := hl [(0, (some (.cells 1 3 [[(int lo_18)]]))), (1, (some (.cells 1 3 [[(int hi_19)]])))]) (env' := [(6, (bool (!r_44)))]) (L' := []) rfl hs_nil ?_))
  obtain rfl := Option.some.inj H0
  exact SatL.ret (fnQ_snap (bool (!r_44)) (bool (!r_44)) rfl (Snap.free _ (.sc _)) rfl)

def sort_said (l_17 : (List Int)) : Option Bool :=
  (sort_from 1 9 ([(List.length l_17 : Int)])).bind fun r_45 => (if r_45 = true then (sort_from (-1) 15 l_17).bind fun r_46 => (some r_46) else (some false))

theorem sort_said_PC {l_17 : (List Int)} {r : Bool} (H0 : sort_said l_17 = some r) : PC Try.prog 50 [(.sl (List.map int1 l_17))] (· = (bool r)) := by
  unfold sort_said at H0
  refine PC.of_bodyL [(0, (.sl (List.map int1 l_17)))] Try.func50 rfl rfl (Nat.le_of_ble_eq_true rfl) rfl fun O => ?_
  repeat refine SatL.seq ?_
  refine SatL.reg [0] [some 2] rfl rfl fun K1 hK1 => ?_
  refine aopsS_step fun _ hK => s_as (v := (bool false)) rfl (hK _ _ _ ?_)
  clear hK
  refine aopsS_end (hK1 _ (SatL.norm (n := 0) (h := hl []) (env' := [(0, (.sl (List.map int1 l_17)))]) (L' := []) rfl hs_refl ?_))
  repeat refine SatL.seq ?_
  refine SatL.reg [2] [some 3, some 4, some 5, some 6, some 7, some 8, some 9, some 10, some 2] rfl rfl fun K3 hK3 => ?_
  refine aopsS_step fun _ hK => s_mv (v := (.sl (List.map int1 l_17))) rfl (hK _ _ _ ?_)
  clear hK
  refine aopsS_step fun _ hK => s_lenSl elem_23 rfl (fun hl5 => hK _ _ _ ?_)
  clear hK
  refine aopsS_step fun _ hK => s_bsl (es := [[(int (List.length l_17 : Int))]]) (n' := 1) elem_23 zero_3 rfl (by decide) (by decide) rfl rfl (hK _ _ _ ?_)
  clear hK
  obtain ⟨r_45, hr_45, H0⟩ := bindS H0
  refine aopsS_step fun _ hK => s_call (avs := [(int 1), (int 9), (.ms 0 0 1)]) rfl rfl rfl (PC.lend1 (args' := [(int 1), (int 9), (.sl (List.map int1 [(List.length l_17 : Int)]))]) (SnapL.cons (Snap.free _ (.sc _)) (SnapL.cons (Snap.free _ (.sc _)) (SnapL.cons (Snap.msW (f := int1) (l := [(List.length l_17 : Int)]) (hl_self _ _ _) rfl fr_int1) SnapL.nil))) (sort_from_PC hr_45) (.sc _) (hK _ _ _ ?_))
  clear hK
  refine aopsS_step fun _ hK => s_mv (v := (bool r_45)) rfl (hK _ _ _ ?_)
  clear hK
  refine aopsS_split rfl _ rfl (fun g9 => ?_) (fun g9 => ?_)
  ·
    replace H0 := iteT H0 (by simpa using g9)
    intro _ hK
    refine s_mv (v := (.sl (List.map int1 l_17))) rfl (hK _ _ _ ?_)
    clear hK
    obtain ⟨r_46, hr_46, H0⟩ := bindS H0
    refine aopsS_on rfl rfl fun _ hK => s_call (avs := [(int (-1)), (int 15), (.sl (List.map int1 l_17))]) rfl rfl rfl (PC.call1 (sort_from_PC hr_46) (FreeL.cons (.sc _) (FreeL.cons (.sc _) (FreeL.cons (Free.slm fr_int1) FreeL.nil))) (hK _ _ _ ?_))
    clear hK
    refine aopsS_step fun _ hK => s_pickT (v := (bool r_46)) rfl rfl (hK _ _ _ ?_)
    clear hK
    refine aopsS_step fun _ hK => s_as (v := (bool r_46)) rfl (hK _ _ _ ?_)
    clear hK
    refine aopsS_end (hK3 _ (SatL.norm (n := 1) (h := hl [(0, (some (.cells 1 3 [[(int (List.length l_17 : Int))]])))]) (env' := [(2, (bool r_46))]) (L' := []) rfl hs_nil ?_))
    obtain rfl := Option.some.inj H0
    exact SatL.ret (fnQ_snap (bool r_46) (bool r_46) rfl (Snap.free _ (.sc _)) rfl)
  ·
    replace H0 := iteF H0 (by simpa using g9)
    refine aopsS_off rfl rfl ?_
    refine aopsS_step fun _ hK => s_pickF (v := (bool false)) rfl rfl (hK _ _ _ ?_)
    clear hK
    refine aopsS_step fun _ hK => s_as (v := (bool false)) rfl (hK _ _ _ ?_)
    clear hK
    refine aopsS_end (hK3 _ (SatL.norm (n := 1) (h := hl [(0, (some (.cells 1 3 [[(int (List.length l_17 : Int))]])))]) (env' := [(2, (bool false))]) (L' := []) rfl hs_nil ?_))
    obtain rfl := Option.some.inj H0
    exact SatL.ret (fnQ_snap (bool false) (bool false) rfl (Snap.free _ (.sc _)) rfl)

def sort_read_L0 (l_48 : (List Int)) : Nat → (List Int) → Int → Option (List Int)
  | 0, votes_65, _ => (some votes_65)
  | k0 + 1, votes_65, x_66 => (gi l_48 x_66).bind fun e_70 => (if (decide (0 ≤ e_70)) = true then (gi votes_65 e_70).bind fun e_71 => (gi votes_65 e_70).bind fun e_72 => sort_read_L0 l_48 k0 ((List.set votes_65 (Int.toNat e_70) (w64 (e_71 + 1)))) ((x_66 + 1)) else sort_read_L0 l_48 k0 votes_65 ((x_66 + 1)))

def sort_read_L1 (votes_60 : (List Int)) : Nat → Int → Int → Int → Option Int
  | 0, best_82, _, _ => (some best_82)
  | k0 + 1, best_82, most_83, x_84 => (gi votes_60 x_84).bind fun e_86 => (if (decide (most_83 < e_86)) = true then sort_read_L1 votes_60 k0 x_84 e_86 ((x_84 + 1)) else (if (e_86 == most_83) = true then sort_read_L1 votes_60 k0 ((-1)) most_83 ((x_84 + 1)) else sort_read_L1 votes_60 k0 best_82 most_83 ((x_84 + 1))))

def sort_read (l_48 : (List Int)) : Option Int :=
  (sort_read_L0 l_48 (Int.toNat ((List.length l_48 : Int) - 0)) ((List.replicate 16 0)) 0).bind (fun s_ => un1 s_ fun votes_60 => (sort_read_L1 votes_60 (Int.toNat (16 - 0)) ((-1)) 0 0).bind (fun s_ => un1 s_ fun best_79 => (some best_79)))

theorem sort_read_PC {l_48 : (List Int)} {r : Int} (H0 : sort_read l_48 = some r) : PC Try.prog 51 [(.sl (List.map int1 l_48))] (· = (int r)) := by
  unfold sort_read at H0
  refine PC.of_bodyL [(0, (.sl (List.map int1 l_48)))] Try.func51 rfl rfl (Nat.le_of_ble_eq_true rfl) rfl fun O => ?_
  repeat refine SatL.seq ?_
  refine SatL.reg [0] [some 2] rfl rfl fun K1 hK1 => ?_
  refine aopsS_step fun _ hK => s_as (v := (int 0)) rfl (hK _ _ _ ?_)
  clear hK
  refine aopsS_end (hK1 _ (SatL.norm (n := 0) (h := hl []) (env' := [(0, (.sl (List.map int1 l_48)))]) (L' := []) rfl hs_refl ?_))
  repeat refine SatL.seq ?_
  refine SatL.reg [0, 3] [some 3] rfl rfl fun K3 hK3 => ?_
  refine aopsS_step fun _ hK => s_alloc (m := 16) (n' := 1) zero_130 rfl rfl (hK _ _ _ ?_)
  clear hK
  refine aopsS_end (hK3 _ (SatL.norm (n := 1) (h := hl [(0, (some (.cells 16 130 [List.map int (List.replicate 16 0)])))]) (env' := [(0, (.sl (List.map int1 l_48))), (3, (.own 0 0 0))]) (L' := [(0, (some (.cells 16 130 [List.map int (List.replicate 16 0)])))]) rfl hs_refl ?_))
  repeat refine SatL.seq ?_
  refine SatL.reg [3, 10, 11, 12] [some 10, some 11, some 12] rfl rfl fun K5 hK5 => ?_
  refine aopsS_step fun _ hK => s_mv (v := (.sl (List.map int1 l_48))) rfl (hK _ _ _ ?_)
  clear hK
  refine aopsS_step fun _ hK => s_lenSl elem_23 rfl (fun hl7 => hK _ _ _ ?_)
  clear hK
  refine aopsS_step fun _ hK => s_mv (v := (int 0)) rfl (hK _ _ _ ?_)
  clear hK
  refine aopsS_end (hK5 _ (SatL.norm (n := 1) (h := hl [(0, (some (.cells 16 130 [List.map int (List.replicate 16 0)])))]) (env' := [(3, (.own 0 0 0)), (10, (.sl (List.map int1 l_48))), (11, (int (List.length l_48 : Int))), (12, (int 0))]) (L' := [(0, (some (.cells 16 130 [List.map int (List.replicate 16 0)])))]) rfl hs_refl ?_))
  repeat refine SatL.seq ?_
  obtain ⟨o_61, H1, H0⟩ := bindS H0
  refine SatL.mid [3] (fun s_ => ∃ (votes_60 : (List Int)), votes_60 = o_61 ∧ StLe s_ [(3, (.own 0 0 0))] [(0, (some (.cells 16 130 [List.map int votes_60])))] 1 ∧ List.length votes_60 = 16) ?_ ?_
  ·
    repeat refine SatL.seq ?_
    refine SatL.block ?_
    repeat refine SatL.seq ?_
    refine SatL.loopK [3, 10, 11, 12] (fun k0 s_ => ∃ (votes_65 : (List Int)) (x_66 : Int), StLe s_ [(3, (.own 0 0 0)), (10, (.sl (List.map int1 l_48))), (11, (int (List.length l_48 : Int))), (12, (int x_66))] [(0, (some (.cells 16 130 [List.map int votes_65])))] 1 ∧ List.length votes_65 = 16 ∧ 0 ≤ x_66 ∧ k0 = Int.toNat ((List.length l_48 : Int) - x_66) ∧ sort_read_L0 l_48 k0 votes_65 x_66 = some o_61) (Int.toNat ((List.length l_48 : Int) - 0)) ?_ ?_
    · exact ⟨(List.replicate 16 0), 0, (StLe.of [(0, (some (.cells 16 130 [List.map int (List.replicate 16 0)])))] 1 rfl (hs_cons (hl_self _ _ _) hs_nil) (Nat.le_refl _)), (by first | exact (List.length_replicate ..) | simp), (by omega), rfl, H1⟩
    rintro k0 s_ ⟨votes_65, x_66, hs_, hlenvotes_65, _, hk_, H1⟩
    refine SatL.le hs_ ?_
    clear hs_
    rcases k0 with _ | k0
    ·
      rw [sort_read_L0.eq_1] at H1
      repeat refine SatL.seq ?_
      refine SatL.reg [3, 10, 11, 12, 13] [some 13] rfl rfl fun K129 hK129 => ?_
      refine aopsS_step fun _ hK => s_bin rfl rfl (b_lss (hK _ _ _ ?_))
      clear hK
      refine aopsS_end (hK129 _ (SatL.norm (n := 1) (h := hl [(0, (some (.cells 16 130 [List.map int votes_65])))]) (env' := [(3, (.own 0 0 0)), (10, (.sl (List.map int1 l_48))), (11, (int (List.length l_48 : Int))), (12, (int x_66)), (13, (bool (decide (x_66 < (List.length l_48 : Int)))))]) (L' := [(0, (some (.cells 16 130 [List.map int votes_65])))]) rfl hs_refl ?_))
      repeat refine SatL.seq ?_
      refine SatL.condF rfl (decide_eq_false (by omega)) ?_
      refine SatL.exit ?_
      simp only [thenQ, blockQ, if_true, reduceIte, Nat.reduceEqDiff]
      obtain rfl := Option.some.inj H1
      exact SatL.nil (thenN ⟨votes_65, rfl, (StLe.of [(0, (some (.cells 16 130 [List.map int votes_65])))] 1 rfl (hs_cons (hl_self _ _ _) hs_nil) (Nat.le_refl _)), (by first | exact hlenvotes_65 | simp)⟩)
    ·
      rw [sort_read_L0.eq_2] at H1
      repeat refine SatL.seq ?_
      refine SatL.reg [3, 10, 11, 12, 13] [some 13] rfl rfl fun K131 hK131 => ?_
      refine aopsS_step fun _ hK => s_bin rfl rfl (b_lss (hK _ _ _ ?_))
      clear hK
      refine aopsS_end (hK131 _ (SatL.norm (n := 1) (h := hl [(0, (some (.cells 16 130 [List.map int votes_65])))]) (env' := [(3, (.own 0 0 0)), (10, (.sl (List.map int1 l_48))), (11, (int (List.length l_48 : Int))), (12, (int x_66)), (13, (bool (decide (x_66 < (List.length l_48 : Int)))))]) (L' := [(0, (some (.cells 16 130 [List.map int votes_65])))]) rfl hs_refl ?_))
      repeat refine SatL.seq ?_
      refine SatL.condT rfl (decide_eq_true (by omega)) ?_
      have hlt133 : (x_66 < (List.length l_48 : Int)) := by omega
      refine SatL.skip ?_
      repeat refine SatL.seq ?_
      refine SatL.block ?_
      repeat refine SatL.seq ?_
      refine SatL.reg [3, 5, 10, 11, 12] [some 14, some 15, some 5] rfl rfl fun K134 hK134 => ?_
      obtain ⟨e_70, he_70, H1⟩ := bindS H1
      refine aopsS_step fun _ hK => s_ixSl elem_23 rfl rfl he_70 cells_3 rfl (by decide) (hK _ _ _ ?_)
      clear hK
      refine aopsS_step fun _ hK => s_load1 (c := (int e_70)) agg_3 (d_fp rfl) rfl (hK _ _ _ ?_)
      clear hK
      refine aopsS_step fun _ hK => s_as (v := (int e_70)) rfl (hK _ _ _ ?_)
      clear hK
      refine aopsS_end (hK134 _ (SatL.norm (n := 1) (h := hl [(0, (some (.cells 16 130 [List.map int votes_65])))]) (env' := [(3, (.own 0 0 0)), (5, (int e_70)), (10, (.sl (List.map int1 l_48))), (11, (int (List.length l_48 : Int))), (12, (int x_66))]) (L' := [(0, (some (.cells 16 130 [List.map int votes_65])))]) rfl hs_refl ?_))
      repeat refine SatL.seq ?_
      refine SatL.reg [3, 5, 10, 11, 12, 17] [some 16, some 17] rfl rfl fun K138 hK138 => ?_
      refine aopsS_step fun _ hK => s_mv (v := (int e_70)) rfl (hK _ _ _ ?_)
      clear hK
      refine aopsS_step fun _ hK => s_bin rfl rfl (b_geq (hK _ _ _ ?_))
      clear hK
      refine aopsS_end (hK138 _ (SatL.norm (n := 1) (h := hl [(0, (some (.cells 16 130 [List.map int votes_65])))]) (env' := [(3, (.own 0 0 0)), (5, (int e_70)), (10, (.sl (List.map int1 l_48))), (11, (int (List.length l_48 : Int))), (12, (int x_66)), (17, (bool (decide (0 ≤ e_70))))]) (L' := [(0, (some (.cells 16 130 [List.map int votes_65])))]) rfl hs_refl ?_))
      repeat refine SatL.seq ?_
      refine SatL.condX rfl (fun hc141 => ?_) (fun hc141 => ?_)
      ·
        replace H1 := iteT H1 hc141
        repeat refine SatL.seq ?_
        refine SatL.rege [some 18, some 19, some 20, some 21, some 22, none] rfl rfl fun K142 hK142 => ?_
        refine aopsS_step fun _ hK => s_mv (v := (int e_70)) rfl (hK _ _ _ ?_)
        clear hK
        obtain ⟨e_71, he_71, H1⟩ := bindS H1
        refine aopsS_step fun _ hK => s_ixA1 arr_130 rfl rfl (isC (hl_self _ _ _)) (gi_lt he_71).1 (ltl he_71 hlenvotes_65) cells_3 (hK _ _ _ ?_)
        clear hK
        refine aopsS_step fun _ hK => s_load1 agg_3 (d_own rfl (hl_self _ _ _) rfl rfl) (dropget he_71) (hK _ _ _ ?_)
        clear hK
        refine aopsS_step fun _ hK => s_bin rfl rfl (b_add64 (hK _ _ _ ?_))
        clear hK
        obtain ⟨e_72, he_72, H1⟩ := bindS H1
        refine aopsS_step fun _ hK => s_ixA1 arr_130 rfl rfl (isC (hl_self _ _ _)) (gi_lt he_72).1 (ltl he_72 hlenvotes_65) cells_3 (hK _ _ _ ?_)
        clear hK
        refine aopsS_step0 fun _ hK => s_store rfl (hl_self _ _ _) rfl rfl cells_3 rfl (by decide) (by rw [List.length_map]; have := (gi_lt he_72).2; omega) (set_arr _ _ _) (hu_self _ _ _ _) (hK _ _ _ ?_)
        clear hK
        refine aopsS_end (hK142 _ ?_)
        refine (blockN (thenN ?_))
        refine SatL.forget [3, 10, 11, 12] (SatL.norm (n := 1) (h := hl [(0, (some (.cells 16 130 [List.map int (List.set votes_65 (Int.toNat e_70) (w64 (e_71 + 1)))])))]) (env' := [(3, (.own 0 0 0)), (10, (.sl (List.map int1 l_48))), (11, (int (List.length l_48 : Int))), (12, (int x_66))]) (L' := [(0, (some (.cells 16 130 [List.map int (List.set votes_65 (Int.toNat e_70) (w64 (e_71 + 1)))])))]) rfl hs_refl ?_)
        repeat refine SatL.seq ?_
        refine SatL.rege [some 23, some 12] rfl rfl fun K149 hK149 => ?_
        refine aopsS_step fun _ hK => s_bin rfl rfl (b_add64 (hK _ _ _ ?_))
        clear hK
        refine aopsS_step fun _ hK => s_mv (v := (int (w64 (x_66 + 1)))) rfl (hK _ _ _ ?_)
        clear hK
        refine aopsS_end (hK149 _ ?_)
        have hw152 : w64 (x_66 + 1) = x_66 + 1 := w64_id (by omega) (by omega)
        exact (thenN ⟨k0, ⟨(List.set votes_65 (Int.toNat e_70) (w64 (e_71 + 1))), (w64 (x_66 + 1)), (StLe.of [(0, (some (.cells 16 130 [List.map int (List.set votes_65 (Int.toNat e_70) (w64 (e_71 + 1)))])))] 1 rfl (hs_cons (hl_self _ _ _) hs_nil) (Nat.le_refl _)), (by first | exact (List.length_set.trans hlenvotes_65) | simp), (by omega), (by rw [hw152]; omega), (Eq.mpr (congrArg (fun q_ => sort_read_L0 l_48 k0 ((List.set votes_65 (Int.toNat e_70) (w64 (e_71 + 1)))) q_ = some o_61) hw152) H1)⟩, by omega⟩)
      ·
        replace H1 := iteF H1 hc141
        refine SatL.skip ?_
        refine SatL.nil (blockN (thenN ?_))
        repeat refine SatL.seq ?_
        refine SatL.rege [some 23, some 12] rfl rfl fun K153 hK153 => ?_
        refine aopsS_step fun _ hK => s_bin rfl rfl (b_add64 (hK _ _ _ ?_))
        clear hK
        refine aopsS_step fun _ hK => s_mv (v := (int (w64 (x_66 + 1)))) rfl (hK _ _ _ ?_)
        clear hK
        refine aopsS_end (hK153 _ ?_)
        have hw156 : w64 (x_66 + 1) = x_66 + 1 := w64_id (by omega) (by omega)
        exact (thenN ⟨k0, ⟨votes_65, (w64 (x_66 + 1)), (StLe.of [(0, (some (.cells 16 130 [List.map int votes_65])))] 1 rfl (hs_cons (hl_self _ _ _) hs_nil) (Nat.le_refl _)), (by first | exact hlenvotes_65 | simp), (by omega), (by rw [hw156]; omega), (Eq.mpr (congrArg (fun q_ => sort_read_L0 l_48 k0 votes_65 q_ = some o_61) hw156) H1)⟩, by omega⟩)
  ·
    rintro s_ ⟨votes_60, rfl, hs_, hlenvotes_60⟩
    refine SatL.le hs_ ?_
    clear hs_
    replace H0 := un1S H0
    repeat refine SatL.seq ?_
    refine SatL.reg [3, 6, 7] [some 6, some 7] rfl rfl fun K157 hK157 => ?_
    refine aopsS_step fun _ hK => s_as (v := (int (-1))) rfl (hK _ _ _ ?_)
    clear hK
    refine aopsS_step fun _ hK => s_as (v := (int 0)) rfl (hK _ _ _ ?_)
    clear hK
    refine aopsS_end (hK157 _ (SatL.norm (n := 1) (h := hl [(0, (some (.cells 16 130 [List.map int votes_60])))]) (env' := [(3, (.own 0 0 0)), (6, (int (-1))), (7, (int 0))]) (L' := [(0, (some (.cells 16 130 [List.map int votes_60])))]) rfl hs_refl ?_))
    repeat refine SatL.seq ?_
    refine SatL.reg [6, 7, 24, 25] [some 24, some 25] rfl rfl fun K160 hK160 => ?_
    refine aopsS_step fun _ hK => s_loadArr agg_130 cells_130 rfl (hl_self _ _ _) hlenvotes_60 (hK _ _ _ ?_)
    clear hK
    refine aopsS_step fun _ hK => s_mv (v := (int 0)) rfl (hK _ _ _ ?_)
    clear hK
    refine aopsS_end (hK160 _ (SatL.norm (n := 1) (h := hl [(0, (some (.cells 16 130 [List.map int votes_60])))]) (env' := [(6, (int (-1))), (7, (int 0)), (24, (.ag (List.map int votes_60))), (25, (int 0))]) (L' := []) rfl hs_nil ?_))
    repeat refine SatL.seq ?_
    obtain ⟨o_80, H1, H0⟩ := bindS H0
    refine SatL.mid [6] (fun s_ => ∃ (best_79 : Int), best_79 = o_80 ∧ StLe s_ [(6, (int best_79))] [] 1) ?_ ?_
    ·
      repeat refine SatL.seq ?_
      refine SatL.block ?_
      repeat refine SatL.seq ?_
      refine SatL.loopK [6, 7, 24, 25] (fun k0 s_ => ∃ (best_82 : Int) (most_83 : Int) (x_84 : Int), StLe s_ [(6, (int best_82)), (7, (int most_83)), (24, (.ag (List.map int votes_60))), (25, (int x_84))] [] 1 ∧ 0 ≤ x_84 ∧ k0 = Int.toNat (16 - x_84) ∧ sort_read_L1 votes_60 k0 best_82 most_83 x_84 = some o_80) (Int.toNat (16 - 0)) ?_ ?_
      · exact ⟨(-1), 0, 0, (StLe.of [] 1 rfl hs_nil (Nat.le_refl _)), (by omega), rfl, H1⟩
      rintro k0 s_ ⟨best_82, most_83, x_84, hs_, _, hk_, H1⟩
      refine SatL.le hs_ ?_
      clear hs_
      rcases k0 with _ | k0
      ·
        rw [sort_read_L1.eq_1] at H1
        repeat refine SatL.seq ?_
        refine SatL.reg [6, 7, 24, 25, 26] [some 26] rfl rfl fun K343 hK343 => ?_
        refine aopsS_step fun _ hK => s_bin rfl rfl (b_lss (hK _ _ _ ?_))
        clear hK
        refine aopsS_end (hK343 _ (SatL.norm (n := 1) (h := hl []) (env' := [(6, (int best_82)), (7, (int most_83)), (24, (.ag (List.map int votes_60))), (25, (int x_84)), (26, (bool (decide (x_84 < 16))))]) (L' := []) rfl hs_refl ?_))
        repeat refine SatL.seq ?_
        refine SatL.condF rfl (decide_eq_false (by omega)) ?_
        refine SatL.exit ?_
        simp only [thenQ, blockQ, if_true, reduceIte, Nat.reduceEqDiff]
        obtain rfl := Option.some.inj H1
        exact SatL.nil (thenN ⟨best_82, rfl, (StLe.of [] 1 rfl hs_nil (Nat.le_refl _))⟩)
      ·
        rw [sort_read_L1.eq_2] at H1
        repeat refine SatL.seq ?_
        refine SatL.reg [6, 7, 24, 25, 26] [some 26] rfl rfl fun K345 hK345 => ?_
        refine aopsS_step fun _ hK => s_bin rfl rfl (b_lss (hK _ _ _ ?_))
        clear hK
        refine aopsS_end (hK345 _ (SatL.norm (n := 1) (h := hl []) (env' := [(6, (int best_82)), (7, (int most_83)), (24, (.ag (List.map int votes_60))), (25, (int x_84)), (26, (bool (decide (x_84 < 16))))]) (L' := []) rfl hs_refl ?_))
        repeat refine SatL.seq ?_
        refine SatL.condT rfl (decide_eq_true (by omega)) ?_
        have hlt347 : (x_84 < 16) := by omega
        refine SatL.skip ?_
        repeat refine SatL.seq ?_
        refine SatL.block ?_
        repeat refine SatL.seq ?_
        refine SatL.reg [6, 7, 8, 9, 24, 25] [some 27, some 28, some 8, some 9] rfl rfl fun K348 hK348 => ?_
        refine aopsS_step fun _ hK => s_mv (v := (int x_84)) rfl (hK _ _ _ ?_)
        clear hK
        obtain ⟨e_86, he_86, H1⟩ := bindS H1
        refine aopsS_step fun _ hK => s_ixAg arr_130 rfl rfl (gi_lt he_86).1 (ltl he_86 hlenvotes_60) cells_3 agg_3 (mapget1 he_86) (hK _ _ _ ?_)
        clear hK
        refine aopsS_step fun _ hK => s_as (v := (int x_84)) rfl (hK _ _ _ ?_)
        clear hK
        refine aopsS_step fun _ hK => s_as (v := (int e_86)) rfl (hK _ _ _ ?_)
        clear hK
        refine aopsS_end (hK348 _ (SatL.norm (n := 1) (h := hl []) (env' := [(6, (int best_82)), (7, (int most_83)), (8, (int x_84)), (9, (int e_86)), (24, (.ag (List.map int votes_60))), (25, (int x_84))]) (L' := []) rfl hs_refl ?_))
        repeat refine SatL.seq ?_
        refine SatL.block ?_
        repeat refine SatL.seq ?_
        refine SatL.reg [6, 7, 8, 9, 24, 25, 29] [some 30, some 31, some 32, some 29] rfl rfl fun K353 hK353 => ?_
        refine aopsS_step fun _ hK => s_mv (v := (int e_86)) rfl (hK _ _ _ ?_)
        clear hK
        refine aopsS_step fun _ hK => s_mv (v := (int most_83)) rfl (hK _ _ _ ?_)
        clear hK
        refine aopsS_step fun _ hK => s_bin rfl rfl (b_gtr (hK _ _ _ ?_))
        clear hK
        refine aopsS_step fun _ hK => s_as (v := (bool (decide (most_83 < e_86)))) rfl (hK _ _ _ ?_)
        clear hK
        refine aopsS_end (hK353 _ (SatL.norm (n := 1) (h := hl []) (env' := [(6, (int best_82)), (7, (int most_83)), (8, (int x_84)), (9, (int e_86)), (24, (.ag (List.map int votes_60))), (25, (int x_84)), (29, (bool (decide (most_83 < e_86))))]) (L' := []) rfl hs_refl ?_))
        repeat refine SatL.seq ?_
        refine SatL.condX rfl (fun hc358 => ?_) (fun hc358 => ?_)
        ·
          replace H1 := iteT H1 hc358
          repeat refine SatL.seq ?_
          refine SatL.rege [some 33, some 34, some 6, some 7] rfl rfl fun K359 hK359 => ?_
          refine aopsS_step fun _ hK => s_mv (v := (int x_84)) rfl (hK _ _ _ ?_)
          clear hK
          refine aopsS_step fun _ hK => s_mv (v := (int e_86)) rfl (hK _ _ _ ?_)
          clear hK
          refine aopsS_step fun _ hK => s_as (v := (int x_84)) rfl (hK _ _ _ ?_)
          clear hK
          refine aopsS_step fun _ hK => s_as (v := (int e_86)) rfl (hK _ _ _ ?_)
          clear hK
          refine aopsS_end (hK359 _ ?_)
          refine (blockN (thenN ?_))
          refine SatL.nil (blockN (thenN ?_))
          repeat refine SatL.seq ?_
          refine SatL.rege [some 39, some 25] rfl rfl fun K364 hK364 => ?_
          refine aopsS_step fun _ hK => s_bin rfl rfl (b_add64 (hK _ _ _ ?_))
          clear hK
          refine aopsS_step fun _ hK => s_mv (v := (int (w64 (x_84 + 1)))) rfl (hK _ _ _ ?_)
          clear hK
          refine aopsS_end (hK364 _ ?_)
          have hw367 : w64 (x_84 + 1) = x_84 + 1 := w64_id (by omega) (by omega)
          exact (thenN ⟨k0, ⟨x_84, e_86, (w64 (x_84 + 1)), (StLe.of [] 1 rfl hs_nil (Nat.le_refl _)), (by omega), (by rw [hw367]; omega), (Eq.mpr (congrArg (fun q_ => sort_read_L1 votes_60 k0 x_84 e_86 q_ = some o_80) hw367) H1)⟩, by omega⟩)
        ·
          replace H1 := iteF H1 hc358
          repeat refine SatL.seq ?_
          refine SatL.reg [6, 7, 24, 25, 35] [some 36, some 37, some 38, some 35] rfl rfl fun K368 hK368 => ?_
          refine aopsS_step fun _ hK => s_mv (v := (int e_86)) rfl (hK _ _ _ ?_)
          clear hK
          refine aopsS_step fun _ hK => s_mv (v := (int most_83)) rfl (hK _ _ _ ?_)
          clear hK
          refine aopsS_step fun _ hK => s_bin rfl rfl (b_eql (hK _ _ _ ?_))
          clear hK
          refine aopsS_step fun _ hK => s_as (v := (bool (e_86 == most_83))) rfl (hK _ _ _ ?_)
          clear hK
          refine aopsS_end (hK368 _ (SatL.norm (n := 1) (h := hl []) (env' := [(6, (int best_82)), (7, (int most_83)), (24, (.ag (List.map int votes_60))), (25, (int x_84)), (35, (bool (e_86 == most_83)))]) (L' := []) rfl hs_refl ?_))
          repeat refine SatL.seq ?_
          refine SatL.condX rfl (fun hc373 => ?_) (fun hc373 => ?_)
          ·
            replace H1 := iteT H1 hc373
            repeat refine SatL.seq ?_
            refine SatL.rege [some 6] rfl rfl fun K374 hK374 => ?_
            refine aopsS_step fun _ hK => s_as (v := (int (-1))) rfl (hK _ _ _ ?_)
            clear hK
            refine aopsS_end (hK374 _ ?_)
            refine (blockN (thenN ?_))
            refine SatL.nil (blockN (thenN ?_))
            repeat refine SatL.seq ?_
            refine SatL.rege [some 39, some 25] rfl rfl fun K376 hK376 => ?_
            refine aopsS_step fun _ hK => s_bin rfl rfl (b_add64 (hK _ _ _ ?_))
            clear hK
            refine aopsS_step fun _ hK => s_mv (v := (int (w64 (x_84 + 1)))) rfl (hK _ _ _ ?_)
            clear hK
            refine aopsS_end (hK376 _ ?_)
            have hw379 : w64 (x_84 + 1) = x_84 + 1 := w64_id (by omega) (by omega)
            exact (thenN ⟨k0, ⟨(-1), most_83, (w64 (x_84 + 1)), (StLe.of [] 1 rfl hs_nil (Nat.le_refl _)), (by omega), (by rw [hw379]; omega), (Eq.mpr (congrArg (fun q_ => sort_read_L1 votes_60 k0 ((-1)) most_83 q_ = some o_80) hw379) H1)⟩, by omega⟩)
          ·
            replace H1 := iteF H1 hc373
            refine SatL.skip ?_
            refine SatL.nil (blockN (thenN ?_))
            refine SatL.nil (blockN (thenN ?_))
            repeat refine SatL.seq ?_
            refine SatL.rege [some 39, some 25] rfl rfl fun K380 hK380 => ?_
            refine aopsS_step fun _ hK => s_bin rfl rfl (b_add64 (hK _ _ _ ?_))
            clear hK
            refine aopsS_step fun _ hK => s_mv (v := (int (w64 (x_84 + 1)))) rfl (hK _ _ _ ?_)
            clear hK
            refine aopsS_end (hK380 _ ?_)
            have hw383 : w64 (x_84 + 1) = x_84 + 1 := w64_id (by omega) (by omega)
            exact (thenN ⟨k0, ⟨best_82, most_83, (w64 (x_84 + 1)), (StLe.of [] 1 rfl hs_nil (Nat.le_refl _)), (by omega), (by rw [hw383]; omega), (Eq.mpr (congrArg (fun q_ => sort_read_L1 votes_60 k0 best_82 most_83 q_ = some o_80) hw383) H1)⟩, by omega⟩)
    ·
      rintro s_ ⟨best_79, rfl, hs_⟩
      refine SatL.le hs_ ?_
      clear hs_
      replace H0 := un1S H0
      repeat refine SatL.seq ?_
      refine SatL.reg [2] [some 40, some 2] rfl rfl fun K384 hK384 => ?_
      refine aopsS_step fun _ hK => s_mv (v := (int best_79)) rfl (hK _ _ _ ?_)
      clear hK
      refine aopsS_step fun _ hK => s_as (v := (int best_79)) rfl (hK _ _ _ ?_)
      clear hK
      refine aopsS_end (hK384 _ (SatL.norm (n := 1) (h := hl []) (env' := [(2, (int best_79))]) (L' := []) rfl hs_refl ?_))
      obtain rfl := Option.some.inj H0
      exact SatL.ret (fnQ_snap (int best_79) (int best_79) rfl (Snap.free _ (.sc _)) rfl)

def sort_Read (readings_16 : (List Int)) : Option (Int × Int) :=
  (sort_said readings_16).bind fun r_47 => (if (!r_47) = true then (some (0, 2)) else (sort_read readings_16).bind fun r_87 => (some (r_87, 0)))

theorem sort_Read_PC {readings_16 : (List Int)} {r : (Int × Int)} (H0 : sort_Read readings_16 = some r) : PC Try.prog 16 [(.sl (List.map int1 readings_16))] (· = (.tp [(int r.1), (int r.2)])) := by
  unfold sort_Read at H0
  refine PC.of_bodyL [(0, (.sl (List.map int1 readings_16)))] Try.func16 rfl rfl (Nat.le_of_ble_eq_true rfl) rfl fun O => ?_
  repeat refine SatL.seq ?_
  refine SatL.reg [0] [some 2, some 3] rfl rfl fun K1 hK1 => ?_
  refine aopsS_step fun _ hK => s_as (v := (int 0)) rfl (hK _ _ _ ?_)
  clear hK
  refine aopsS_step fun _ hK => s_as (v := (int 0)) rfl (hK _ _ _ ?_)
  clear hK
  refine aopsS_end (hK1 _ (SatL.norm (n := 0) (h := hl []) (env' := [(0, (.sl (List.map int1 readings_16)))]) (L' := []) rfl hs_refl ?_))
  repeat refine SatL.seq ?_
  refine SatL.reg [0, 6] [some 4, some 5, some 6] rfl rfl fun K4 hK4 => ?_
  refine aopsS_step fun _ hK => s_mv (v := (.sl (List.map int1 readings_16))) rfl (hK _ _ _ ?_)
  clear hK
  obtain ⟨r_47, hr_47, H0⟩ := bindS H0
  refine aopsS_step fun _ hK => s_call (avs := [(.sl (List.map int1 readings_16))]) rfl rfl rfl (PC.call1 (sort_said_PC hr_47) (FreeL.cons (Free.slm fr_int1) FreeL.nil) (hK _ _ _ ?_))
  clear hK
  refine aopsS_step fun _ hK => s_not rfl (hK _ _ _ ?_)
  clear hK
  refine aopsS_end (hK4 _ (SatL.norm (n := 0) (h := hl []) (env' := [(0, (.sl (List.map int1 readings_16))), (6, (bool (!r_47)))]) (L' := []) rfl hs_refl ?_))
  repeat refine SatL.seq ?_
  refine SatL.condX rfl (fun hc8 => ?_) (fun hc8 => ?_)
  ·
    replace H0 := iteT H0 hc8
    repeat refine SatL.seq ?_
    refine SatL.reg [2, 3] [some 2, some 3] rfl rfl fun K9 hK9 => ?_
    refine aopsS_step fun _ hK => s_as (v := (int 0)) rfl (hK _ _ _ ?_)
    clear hK
    refine aopsS_step fun _ hK => s_as (v := (int 2)) rfl (hK _ _ _ ?_)
    clear hK
    refine aopsS_end (hK9 _ (SatL.norm (n := 0) (h := hl []) (env' := [(2, (int 0)), (3, (int 2))]) (L' := []) rfl hs_refl ?_))
    obtain rfl := Option.some.inj H0
    exact SatL.ret (fnQ_snap (.tp [(int 0), (int 2)]) (.tp [(int 0), (int 2)]) rfl (Snap.tpL (SnapL.cons (Snap.free _ (.sc _)) (SnapL.cons (Snap.free _ (.sc _)) SnapL.nil))) rfl)
  ·
    replace H0 := iteF H0 hc8
    refine SatL.skip ?_
    repeat refine SatL.seq ?_
    refine SatL.reg [2, 3] [some 7, some 8, some 2, some 3] rfl rfl fun K12 hK12 => ?_
    refine aopsS_step fun _ hK => s_mv (v := (.sl (List.map int1 readings_16))) rfl (hK _ _ _ ?_)
    clear hK
    obtain ⟨r_87, hr_87, H0⟩ := bindS H0
    refine aopsS_step fun _ hK => s_call (avs := [(.sl (List.map int1 readings_16))]) rfl rfl rfl (PC.call1 (sort_read_PC hr_87) (FreeL.cons (Free.slm fr_int1) FreeL.nil) (hK _ _ _ ?_))
    clear hK
    refine aopsS_step fun _ hK => s_as (v := (int r_87)) rfl (hK _ _ _ ?_)
    clear hK
    refine aopsS_step fun _ hK => s_as (v := (int 0)) rfl (hK _ _ _ ?_)
    clear hK
    refine aopsS_end (hK12 _ (SatL.norm (n := 0) (h := hl []) (env' := [(2, (int r_87)), (3, (int 0))]) (L' := []) rfl hs_refl ?_))
    obtain rfl := Option.some.inj H0
    exact SatL.ret (fnQ_snap (.tp [(int r_87), (int 0)]) (.tp [(int r_87), (int 0)]) rfl (Snap.tpL (SnapL.cons (Snap.free _ (.sc _)) (SnapL.cons (Snap.free _ (.sc _)) SnapL.nil))) rfl)

def ref09_within (n_92 : Int) (lo_93 : Int) (hi_94 : Int) : Option Bool :=
  (if (decide (lo_93 ≤ n_92)) = true then (some (decide (n_92 ≤ hi_94))) else (some false))

theorem ref09_within_PC {n_92 : Int} {lo_93 : Int} {hi_94 : Int} {r : Bool} (H0 : ref09_within n_92 lo_93 hi_94 = some r) : PC Try.prog 57 [(int n_92), (int lo_93), (int hi_94)] (· = (bool r)) := by
  unfold ref09_within at H0
  refine PC.of_bodyL [(0, (int n_92)), (1, (int lo_93)), (2, (int hi_94))] Try.func57 rfl rfl (Nat.le_of_ble_eq_true rfl) rfl fun O => ?_
  repeat refine SatL.seq ?_
  refine SatL.reg [0, 1, 2] [some 6] rfl rfl fun K1 hK1 => ?_
  refine aopsS_step fun _ hK => s_as (v := (bool false)) rfl (hK _ _ _ ?_)
  clear hK
  refine aopsS_end (hK1 _ (SatL.norm (n := 0) (h := hl []) (env' := [(0, (int n_92)), (1, (int lo_93)), (2, (int hi_94))]) (L' := []) rfl hs_refl ?_))
  repeat refine SatL.seq ?_
  refine SatL.reg [6] [some 7, some 8, some 9, some 10, some 11, some 12, some 13, some 14, some 6] rfl rfl fun K3 hK3 => ?_
  refine aopsS_step fun _ hK => s_mv (v := (int n_92)) rfl (hK _ _ _ ?_)
  clear hK
  refine aopsS_step fun _ hK => s_mv (v := (int lo_93)) rfl (hK _ _ _ ?_)
  clear hK
  refine aopsS_step fun _ hK => s_bin rfl rfl (b_geq (hK _ _ _ ?_))
  clear hK
  refine aopsS_step fun _ hK => s_mv (v := (bool (decide (lo_93 ≤ n_92)))) rfl (hK _ _ _ ?_)
  clear hK
  refine aopsS_split rfl _ rfl (fun g8 => ?_) (fun g8 => ?_)
  ·
    replace H0 := iteT H0 (by simpa using g8)
    intro _ hK
    refine s_mv (v := (int n_92)) rfl (hK _ _ _ ?_)
    clear hK
    refine aopsS_on rfl rfl fun _ hK => s_mv (v := (int hi_94)) rfl (hK _ _ _ ?_)
    clear hK
    refine aopsS_on rfl rfl fun _ hK => s_bin rfl rfl (b_leq (hK _ _ _ ?_))
    clear hK
    refine aopsS_step fun _ hK => s_pickT (v := (bool (decide (n_92 ≤ hi_94)))) rfl rfl (hK _ _ _ ?_)
    clear hK
    refine aopsS_step fun _ hK => s_as (v := (bool (decide (n_92 ≤ hi_94)))) rfl (hK _ _ _ ?_)
    clear hK
    refine aopsS_end (hK3 _ (SatL.norm (n := 0) (h := hl []) (env' := [(6, (bool (decide (n_92 ≤ hi_94))))]) (L' := []) rfl hs_refl ?_))
    obtain rfl := Option.some.inj H0
    exact SatL.ret (fnQ_snap (bool (decide (n_92 ≤ hi_94))) (bool (decide (n_92 ≤ hi_94))) rfl (Snap.free _ (.sc _)) rfl)
  ·
    replace H0 := iteF H0 (by simpa using g8)
    refine aopsS_off rfl rfl ?_
    refine aopsS_off rfl rfl ?_
    refine aopsS_step fun _ hK => s_pickF (v := (bool false)) rfl rfl (hK _ _ _ ?_)
    clear hK
    refine aopsS_step fun _ hK => s_as (v := (bool false)) rfl (hK _ _ _ ?_)
    clear hK
    refine aopsS_end (hK3 _ (SatL.norm (n := 0) (h := hl []) (env' := [(6, (bool false))]) (L' := []) rfl hs_refl ?_))
    obtain rfl := Option.some.inj H0
    exact SatL.ret (fnQ_snap (bool false) (bool false) rfl (Snap.free _ (.sc _)) rfl)

def ref09_Said_L0 (l_91 : (List Int)) : Nat → Int → Option (Bool ⊕ Unit)
  | 0, _ => (some (Sum.inr ()))
  | k0 + 1, i_106 => (gi l_91 i_106).bind fun e_109 => (ref09_within e_109 (-1) 15).bind fun r_110 => (if (!r_110) = true then (some (Sum.inl false)) else ref09_Said_L0 l_91 k0 ((i_106 + 1)))

def ref09_Said (l_91 : (List Int)) : Option Bool :=
  (ref09_within (List.length l_91 : Int) 1 9).bind fun r_95 => (if (!r_95) = true then (some false) else (ref09_Said_L0 l_91 (Int.toNat ((List.length l_91 : Int) - 0)) 0).bind (fun s_ => sumE s_ (fun r_ => (some r_)) (fun s_ => un0 s_ ((some true)))))

theorem ref09_Said_PC {l_91 : (List Int)} {r : Bool} (H0 : ref09_Said l_91 = some r) : PC Try.prog 52 [(.sl (List.map int1 l_91))] (· = (bool r)) := by
  unfold ref09_Said at H0
  refine PC.of_bodyL [(0, (.sl (List.map int1 l_91)))] Try.func52 rfl rfl (Nat.le_of_ble_eq_true rfl) rfl fun O => ?_
  repeat refine SatL.seq ?_
  refine SatL.reg [0] [some 2] rfl rfl fun K1 hK1 => ?_
  refine aopsS_step fun _ hK => s_as (v := (bool false)) rfl (hK _ _ _ ?_)
  clear hK
  refine aopsS_end (hK1 _ (SatL.norm (n := 0) (h := hl []) (env' := [(0, (.sl (List.map int1 l_91)))]) (L' := []) rfl hs_refl ?_))
  repeat refine SatL.seq ?_
  refine SatL.reg [0, 7] [some 4, some 5, some 6, some 7] rfl rfl fun K3 hK3 => ?_
  refine aopsS_step fun _ hK => s_mv (v := (.sl (List.map int1 l_91))) rfl (hK _ _ _ ?_)
  clear hK
  refine aopsS_step fun _ hK => s_lenSl elem_23 rfl (fun hl5 => hK _ _ _ ?_)
  clear hK
  obtain ⟨r_95, hr_95, H0⟩ := bindS H0
  refine aopsS_step fun _ hK => s_call (avs := [(int (List.length l_91 : Int)), (int 1), (int 9)]) rfl rfl rfl (PC.call1 (ref09_within_PC hr_95) (FreeL.cons (.sc _) (FreeL.cons (.sc _) (FreeL.cons (.sc _) FreeL.nil))) (hK _ _ _ ?_))
  clear hK
  refine aopsS_step fun _ hK => s_not rfl (hK _ _ _ ?_)
  clear hK
  refine aopsS_end (hK3 _ (SatL.norm (n := 0) (h := hl []) (env' := [(0, (.sl (List.map int1 l_91))), (7, (bool (!r_95)))]) (L' := []) rfl hs_refl ?_))
  repeat refine SatL.seq ?_
  refine SatL.condX rfl (fun hc8 => ?_) (fun hc8 => ?_)
  ·
    replace H0 := iteT H0 hc8
    repeat refine SatL.seq ?_
    refine SatL.reg [2] [some 2] rfl rfl fun K9 hK9 => ?_
    refine aopsS_step fun _ hK => s_as (v := (bool false)) rfl (hK _ _ _ ?_)
    clear hK
    refine aopsS_end (hK9 _ (SatL.norm (n := 0) (h := hl []) (env' := [(2, (bool false))]) (L' := []) rfl hs_refl ?_))
    obtain rfl := Option.some.inj H0
    exact SatL.ret (fnQ_snap (bool false) (bool false) rfl (Snap.free _ (.sc _)) rfl)
  ·
    replace H0 := iteF H0 hc8
    refine SatL.skip ?_
    repeat refine SatL.seq ?_
    refine SatL.reg [0, 3] [some 3] rfl rfl fun K11 hK11 => ?_
    refine aopsS_step fun _ hK => s_as (v := (int 0)) rfl (hK _ _ _ ?_)
    clear hK
    refine aopsS_end (hK11 _ (SatL.norm (n := 0) (h := hl []) (env' := [(0, (.sl (List.map int1 l_91))), (3, (int 0))]) (L' := []) rfl hs_refl ?_))
    repeat refine SatL.seq ?_
    obtain ⟨o_103, H1, H0⟩ := bindS H0
    refine SatL.mid [] (fun s_ => (Sum.inr ()) = o_103 ∧ StLe s_ [] [] 0) ?_ ?_
    ·
      repeat refine SatL.seq ?_
      refine SatL.block ?_
      repeat refine SatL.seq ?_
      refine SatL.loopK [0, 3] (fun k0 s_ => ∃ (i_106 : Int), StLe s_ [(0, (.sl (List.map int1 l_91))), (3, (int i_106))] [] 0 ∧ 0 ≤ i_106 ∧ k0 = Int.toNat ((List.length l_91 : Int) - i_106) ∧ ref09_Said_L0 l_91 k0 i_106 = some o_103) (Int.toNat ((List.length l_91 : Int) - 0)) ?_ ?_
      · exact ⟨0, (StLe.of [] 0 rfl hs_nil (Nat.le_refl _)), (by omega), rfl, H1⟩
      rintro k0 s_ ⟨i_106, hs_, _, hk_, H1⟩
      refine SatL.le hs_ ?_
      clear hs_
      rcases k0 with _ | k0
      ·
        rw [ref09_Said_L0.eq_1] at H1
        repeat refine SatL.seq ?_
        refine SatL.reg [0, 3, 11] [some 8, some 9, some 10, some 11] rfl rfl fun K113 hK113 => ?_
        refine aopsS_step fun _ hK => s_mv (v := (int i_106)) rfl (hK _ _ _ ?_)
        clear hK
        refine aopsS_step fun _ hK => s_mv (v := (.sl (List.map int1 l_91))) rfl (hK _ _ _ ?_)
        clear hK
        refine aopsS_step fun _ hK => s_lenSl elem_23 rfl (fun hl116 => hK _ _ _ ?_)
        clear hK
        refine aopsS_step fun _ hK => s_bin rfl rfl (b_lss (hK _ _ _ ?_))
        clear hK
        refine aopsS_end (hK113 _ (SatL.norm (n := 0) (h := hl []) (env' := [(0, (.sl (List.map int1 l_91))), (3, (int i_106)), (11, (bool (decide (i_106 < (List.length l_91 : Int)))))]) (L' := []) rfl hs_refl ?_))
        repeat refine SatL.seq ?_
        refine SatL.condF rfl (decide_eq_false (by omega)) ?_
        refine SatL.exit ?_
        simp only [thenQ, blockQ, if_true, reduceIte, Nat.reduceEqDiff]
        obtain rfl := Option.some.inj H1
        exact SatL.nil (thenN ⟨rfl, (StLe.of [] 0 rfl hs_nil (Nat.le_refl _))⟩)
      ·
        rw [ref09_Said_L0.eq_2] at H1
        repeat refine SatL.seq ?_
        refine SatL.reg [0, 3, 11] [some 8, some 9, some 10, some 11] rfl rfl fun K118 hK118 => ?_
        refine aopsS_step fun _ hK => s_mv (v := (int i_106)) rfl (hK _ _ _ ?_)
        clear hK
        refine aopsS_step fun _ hK => s_mv (v := (.sl (List.map int1 l_91))) rfl (hK _ _ _ ?_)
        clear hK
        refine aopsS_step fun _ hK => s_lenSl elem_23 rfl (fun hl121 => hK _ _ _ ?_)
        clear hK
        refine aopsS_step fun _ hK => s_bin rfl rfl (b_lss (hK _ _ _ ?_))
        clear hK
        refine aopsS_end (hK118 _ (SatL.norm (n := 0) (h := hl []) (env' := [(0, (.sl (List.map int1 l_91))), (3, (int i_106)), (11, (bool (decide (i_106 < (List.length l_91 : Int)))))]) (L' := []) rfl hs_refl ?_))
        repeat refine SatL.seq ?_
        refine SatL.condT rfl (decide_eq_true (by omega)) ?_
        have hlt123 : (i_106 < (List.length l_91 : Int)) := by omega
        refine SatL.skip ?_
        repeat refine SatL.seq ?_
        refine SatL.block ?_
        repeat refine SatL.seq ?_
        refine SatL.reg [0, 3, 19] [some 14, some 15, some 16, some 17, some 18, some 19] rfl rfl fun K124 hK124 => ?_
        refine aopsS_step fun _ hK => s_mv (v := (.sl (List.map int1 l_91))) rfl (hK _ _ _ ?_)
        clear hK
        refine aopsS_step fun _ hK => s_mv (v := (int i_106)) rfl (hK _ _ _ ?_)
        clear hK
        obtain ⟨e_109, he_109, H1⟩ := bindS H1
        refine aopsS_step fun _ hK => s_ixSl elem_23 rfl rfl he_109 cells_3 rfl (by decide) (hK _ _ _ ?_)
        clear hK
        refine aopsS_step fun _ hK => s_load1 (c := (int e_109)) agg_3 (d_fp rfl) rfl (hK _ _ _ ?_)
        clear hK
        obtain ⟨r_110, hr_110, H1⟩ := bindS H1
        refine aopsS_step fun _ hK => s_call (avs := [(int e_109), (int (-1)), (int 15)]) rfl rfl rfl (PC.call1 (ref09_within_PC hr_110) (FreeL.cons (.sc _) (FreeL.cons (.sc _) (FreeL.cons (.sc _) FreeL.nil))) (hK _ _ _ ?_))
        clear hK
        refine aopsS_step fun _ hK => s_not rfl (hK _ _ _ ?_)
        clear hK
        refine aopsS_end (hK124 _ (SatL.norm (n := 0) (h := hl []) (env' := [(0, (.sl (List.map int1 l_91))), (3, (int i_106)), (19, (bool (!r_110)))]) (L' := []) rfl hs_refl ?_))
        repeat refine SatL.seq ?_
        refine SatL.condX rfl (fun hc131 => ?_) (fun hc131 => ?_)
        ·
          replace H1 := iteT H1 hc131
          repeat refine SatL.seq ?_
          refine SatL.reg [2] [some 2] rfl rfl fun K132 hK132 => ?_
          refine aopsS_step fun _ hK => s_as (v := (bool false)) rfl (hK _ _ _ ?_)
          clear hK
          refine aopsS_end (hK132 _ (SatL.norm (n := 0) (h := hl []) (env' := [(2, (bool false))]) (L' := []) rfl hs_refl ?_))
          obtain rfl := Option.some.inj H1
          obtain rfl := Option.some.inj H0
          exact SatL.ret (fnQ_snap (bool false) (bool false) rfl (Snap.free _ (.sc _)) rfl)
        ·
          replace H1 := iteF H1 hc131
          refine SatL.skip ?_
          refine SatL.nil (blockN (thenN ?_))
          repeat refine SatL.seq ?_
          refine SatL.rege [some 12, some 13, some 3] rfl rfl fun K134 hK134 => ?_
          refine aopsS_step fun _ hK => s_mv (v := (int i_106)) rfl (hK _ _ _ ?_)
          clear hK
          refine aopsS_step fun _ hK => s_bin rfl rfl (b_add64 (hK _ _ _ ?_))
          clear hK
          refine aopsS_step fun _ hK => s_as (v := (int (w64 (i_106 + 1)))) rfl (hK _ _ _ ?_)
          clear hK
          refine aopsS_end (hK134 _ ?_)
          have hw138 : w64 (i_106 + 1) = i_106 + 1 := w64_id (by omega) (by omega)
          exact (thenN ⟨k0, ⟨(w64 (i_106 + 1)), (StLe.of [] 0 rfl hs_nil (Nat.le_refl _)), (by omega), (by rw [hw138]; omega), (Eq.mpr (congrArg (fun q_ => ref09_Said_L0 l_91 k0 q_ = some o_103) hw138) H1)⟩, by omega⟩)
    ·
      rintro s_ ⟨rfl, hs_⟩
      refine SatL.le hs_ ?_
      clear hs_
      replace H0 := sumun0S H0
      repeat refine SatL.seq ?_
      refine SatL.reg [2] [some 2] rfl rfl fun K139 hK139 => ?_
      refine aopsS_step fun _ hK => s_as (v := (bool true)) rfl (hK _ _ _ ?_)
      clear hK
      refine aopsS_end (hK139 _ (SatL.norm (n := 0) (h := hl []) (env' := [(2, (bool true))]) (L' := []) rfl hs_refl ?_))
      obtain rfl := Option.some.inj H0
      exact SatL.ret (fnQ_snap (bool true) (bool true) rfl (Snap.free _ (.sc _)) rfl)

def ref09_votes_L0 (l_113 : (List Int)) (kind_114 : Int) : Nat → Int → Int → Option Int
  | 0, n_123, _ => (some n_123)
  | k0 + 1, n_123, i_124 => (gi l_113 i_124).bind fun e_126 => (if (e_126 == kind_114) = true then ref09_votes_L0 l_113 kind_114 k0 ((w64 (n_123 + 1))) ((i_124 + 1)) else ref09_votes_L0 l_113 kind_114 k0 n_123 ((i_124 + 1)))

def ref09_votes (l_113 : (List Int)) (kind_114 : Int) : Option Int :=
  (ref09_votes_L0 l_113 kind_114 (Int.toNat ((List.length l_113 : Int) - 0)) 0 0).bind (fun s_ => un1 s_ fun n_120 => (some n_120))

theorem ref09_votes_PC {l_113 : (List Int)} {kind_114 : Int} {r : Int} (H0 : ref09_votes l_113 kind_114 = some r) : PC Try.prog 80 [(.sl (List.map int1 l_113)), (int kind_114)] (· = (int r)) := by
  unfold ref09_votes at H0
  refine PC.of_bodyL [(0, (.sl (List.map int1 l_113))), (1, (int kind_114))] Try.func80 rfl rfl (Nat.le_of_ble_eq_true rfl) rfl fun O => ?_
  repeat refine SatL.seq ?_
  refine SatL.reg [0, 1] [some 4] rfl rfl fun K1 hK1 => ?_
  refine aopsS_step fun _ hK => s_as (v := (int 0)) rfl (hK _ _ _ ?_)
  clear hK
  refine aopsS_end (hK1 _ (SatL.norm (n := 0) (h := hl []) (env' := [(0, (.sl (List.map int1 l_113))), (1, (int kind_114))]) (L' := []) rfl hs_refl ?_))
  repeat refine SatL.seq ?_
  refine SatL.reg [0, 1, 5] [some 5] rfl rfl fun K3 hK3 => ?_
  refine aopsS_step fun _ hK => s_as (v := (int 0)) rfl (hK _ _ _ ?_)
  clear hK
  refine aopsS_end (hK3 _ (SatL.norm (n := 0) (h := hl []) (env' := [(0, (.sl (List.map int1 l_113))), (1, (int kind_114)), (5, (int 0))]) (L' := []) rfl hs_refl ?_))
  repeat refine SatL.seq ?_
  refine SatL.reg [0, 1, 5, 6] [some 6] rfl rfl fun K5 hK5 => ?_
  refine aopsS_step fun _ hK => s_as (v := (int 0)) rfl (hK _ _ _ ?_)
  clear hK
  refine aopsS_end (hK5 _ (SatL.norm (n := 0) (h := hl []) (env' := [(0, (.sl (List.map int1 l_113))), (1, (int kind_114)), (5, (int 0)), (6, (int 0))]) (L' := []) rfl hs_refl ?_))
  repeat refine SatL.seq ?_
  obtain ⟨o_121, H1, H0⟩ := bindS H0
  refine SatL.mid [5] (fun s_ => ∃ (n_120 : Int), n_120 = o_121 ∧ StLe s_ [(5, (int n_120))] [] 0) ?_ ?_
  ·
    repeat refine SatL.seq ?_
    refine SatL.block ?_
    repeat refine SatL.seq ?_
    refine SatL.loopK [0, 1, 5, 6] (fun k0 s_ => ∃ (n_123 : Int) (i_124 : Int), StLe s_ [(0, (.sl (List.map int1 l_113))), (1, (int kind_114)), (5, (int n_123)), (6, (int i_124))] [] 0 ∧ 0 ≤ i_124 ∧ k0 = Int.toNat ((List.length l_113 : Int) - i_124) ∧ ref09_votes_L0 l_113 kind_114 k0 n_123 i_124 = some o_121) (Int.toNat ((List.length l_113 : Int) - 0)) ?_ ?_
    · exact ⟨0, 0, (StLe.of [] 0 rfl hs_nil (Nat.le_refl _)), (by omega), rfl, H1⟩
    rintro k0 s_ ⟨n_123, i_124, hs_, _, hk_, H1⟩
    refine SatL.le hs_ ?_
    clear hs_
    rcases k0 with _ | k0
    ·
      rw [ref09_votes_L0.eq_1] at H1
      repeat refine SatL.seq ?_
      refine SatL.reg [0, 1, 5, 6, 10] [some 7, some 8, some 9, some 10] rfl rfl fun K137 hK137 => ?_
      refine aopsS_step fun _ hK => s_mv (v := (int i_124)) rfl (hK _ _ _ ?_)
      clear hK
      refine aopsS_step fun _ hK => s_mv (v := (.sl (List.map int1 l_113))) rfl (hK _ _ _ ?_)
      clear hK
      refine aopsS_step fun _ hK => s_lenSl elem_23 rfl (fun hl140 => hK _ _ _ ?_)
      clear hK
      refine aopsS_step fun _ hK => s_bin rfl rfl (b_lss (hK _ _ _ ?_))
      clear hK
      refine aopsS_end (hK137 _ (SatL.norm (n := 0) (h := hl []) (env' := [(0, (.sl (List.map int1 l_113))), (1, (int kind_114)), (5, (int n_123)), (6, (int i_124)), (10, (bool (decide (i_124 < (List.length l_113 : Int)))))]) (L' := []) rfl hs_refl ?_))
      repeat refine SatL.seq ?_
      refine SatL.condF rfl (decide_eq_false (by omega)) ?_
      refine SatL.exit ?_
      simp only [thenQ, blockQ, if_true, reduceIte, Nat.reduceEqDiff]
      obtain rfl := Option.some.inj H1
      exact SatL.nil (thenN ⟨n_123, rfl, (StLe.of [] 0 rfl hs_nil (Nat.le_refl _))⟩)
    ·
      rw [ref09_votes_L0.eq_2] at H1
      repeat refine SatL.seq ?_
      refine SatL.reg [0, 1, 5, 6, 10] [some 7, some 8, some 9, some 10] rfl rfl fun K142 hK142 => ?_
      refine aopsS_step fun _ hK => s_mv (v := (int i_124)) rfl (hK _ _ _ ?_)
      clear hK
      refine aopsS_step fun _ hK => s_mv (v := (.sl (List.map int1 l_113))) rfl (hK _ _ _ ?_)
      clear hK
      refine aopsS_step fun _ hK => s_lenSl elem_23 rfl (fun hl145 => hK _ _ _ ?_)
      clear hK
      refine aopsS_step fun _ hK => s_bin rfl rfl (b_lss (hK _ _ _ ?_))
      clear hK
      refine aopsS_end (hK142 _ (SatL.norm (n := 0) (h := hl []) (env' := [(0, (.sl (List.map int1 l_113))), (1, (int kind_114)), (5, (int n_123)), (6, (int i_124)), (10, (bool (decide (i_124 < (List.length l_113 : Int)))))]) (L' := []) rfl hs_refl ?_))
      repeat refine SatL.seq ?_
      refine SatL.condT rfl (decide_eq_true (by omega)) ?_
      have hlt147 : (i_124 < (List.length l_113 : Int)) := by omega
      refine SatL.skip ?_
      repeat refine SatL.seq ?_
      refine SatL.block ?_
      repeat refine SatL.seq ?_
      refine SatL.reg [0, 1, 5, 6, 18] [some 13, some 14, some 15, some 16, some 17, some 18] rfl rfl fun K148 hK148 => ?_
      refine aopsS_step fun _ hK => s_mv (v := (.sl (List.map int1 l_113))) rfl (hK _ _ _ ?_)
      clear hK
      refine aopsS_step fun _ hK => s_mv (v := (int i_124)) rfl (hK _ _ _ ?_)
      clear hK
      obtain ⟨e_126, he_126, H1⟩ := bindS H1
      refine aopsS_step fun _ hK => s_ixSl elem_23 rfl rfl he_126 cells_3 rfl (by decide) (hK _ _ _ ?_)
      clear hK
      refine aopsS_step fun _ hK => s_load1 (c := (int e_126)) agg_3 (d_fp rfl) rfl (hK _ _ _ ?_)
      clear hK
      refine aopsS_step fun _ hK => s_mv (v := (int kind_114)) rfl (hK _ _ _ ?_)
      clear hK
      refine aopsS_step fun _ hK => s_bin rfl rfl (b_eql (hK _ _ _ ?_))
      clear hK
      refine aopsS_end (hK148 _ (SatL.norm (n := 0) (h := hl []) (env' := [(0, (.sl (List.map int1 l_113))), (1, (int kind_114)), (5, (int n_123)), (6, (int i_124)), (18, (bool (e_126 == kind_114)))]) (L' := []) rfl hs_refl ?_))
      repeat refine SatL.seq ?_
      refine SatL.condX rfl (fun hc155 => ?_) (fun hc155 => ?_)
      ·
        replace H1 := iteT H1 hc155
        repeat refine SatL.seq ?_
        refine SatL.rege [some 19, some 20, some 5] rfl rfl fun K156 hK156 => ?_
        refine aopsS_step fun _ hK => s_mv (v := (int n_123)) rfl (hK _ _ _ ?_)
        clear hK
        refine aopsS_step fun _ hK => s_bin rfl rfl (b_add64 (hK _ _ _ ?_))
        clear hK
        refine aopsS_step fun _ hK => s_as (v := (int (w64 (n_123 + 1)))) rfl (hK _ _ _ ?_)
        clear hK
        refine aopsS_end (hK156 _ ?_)
        refine (blockN (thenN ?_))
        refine SatL.forget [0, 1, 5, 6] (SatL.norm (n := 0) (h := hl []) (env' := [(0, (.sl (List.map int1 l_113))), (1, (int kind_114)), (5, (int (w64 (n_123 + 1)))), (6, (int i_124))]) (L' := []) rfl hs_refl ?_)
        repeat refine SatL.seq ?_
        refine SatL.rege [some 11, some 12, some 6] rfl rfl fun K160 hK160 => ?_
        refine aopsS_step fun _ hK => s_mv (v := (int i_124)) rfl (hK _ _ _ ?_)
        clear hK
        refine aopsS_step fun _ hK => s_bin rfl rfl (b_add64 (hK _ _ _ ?_))
        clear hK
        refine aopsS_step fun _ hK => s_as (v := (int (w64 (i_124 + 1)))) rfl (hK _ _ _ ?_)
        clear hK
        refine aopsS_end (hK160 _ ?_)
        have hw164 : w64 (i_124 + 1) = i_124 + 1 := w64_id (by omega) (by omega)
        exact (thenN ⟨k0, ⟨(w64 (n_123 + 1)), (w64 (i_124 + 1)), (StLe.of [] 0 rfl hs_nil (Nat.le_refl _)), (by omega), (by rw [hw164]; omega), (Eq.mpr (congrArg (fun q_ => ref09_votes_L0 l_113 kind_114 k0 ((w64 (n_123 + 1))) q_ = some o_121) hw164) H1)⟩, by omega⟩)
      ·
        replace H1 := iteF H1 hc155
        refine SatL.skip ?_
        refine SatL.nil (blockN (thenN ?_))
        repeat refine SatL.seq ?_
        refine SatL.rege [some 11, some 12, some 6] rfl rfl fun K165 hK165 => ?_
        refine aopsS_step fun _ hK => s_mv (v := (int i_124)) rfl (hK _ _ _ ?_)
        clear hK
        refine aopsS_step fun _ hK => s_bin rfl rfl (b_add64 (hK _ _ _ ?_))
        clear hK
        refine aopsS_step fun _ hK => s_as (v := (int (w64 (i_124 + 1)))) rfl (hK _ _ _ ?_)
        clear hK
        refine aopsS_end (hK165 _ ?_)
        have hw169 : w64 (i_124 + 1) = i_124 + 1 := w64_id (by omega) (by omega)
        exact (thenN ⟨k0, ⟨n_123, (w64 (i_124 + 1)), (StLe.of [] 0 rfl hs_nil (Nat.le_refl _)), (by omega), (by rw [hw169]; omega), (Eq.mpr (congrArg (fun q_ => ref09_votes_L0 l_113 kind_114 k0 n_123 q_ = some o_121) hw169) H1)⟩, by omega⟩)
  ·
    rintro s_ ⟨n_120, rfl, hs_⟩
    refine SatL.le hs_ ?_
    clear hs_
    replace H0 := un1S H0
    repeat refine SatL.seq ?_
    refine SatL.reg [4] [some 21, some 4] rfl rfl fun K170 hK170 => ?_
    refine aopsS_step fun _ hK => s_mv (v := (int n_120)) rfl (hK _ _ _ ?_)
    clear hK
    refine aopsS_step fun _ hK => s_as (v := (int n_120)) rfl (hK _ _ _ ?_)
    clear hK
    refine aopsS_end (hK170 _ (SatL.norm (n := 0) (h := hl []) (env' := [(4, (int n_120))]) (L' := []) rfl hs_refl ?_))
    obtain rfl := Option.some.inj H0
    exact SatL.ret (fnQ_snap (int n_120) (int n_120) rfl (Snap.free _ (.sc _)) rfl)

def ref09_Seen_L0 (l_112 : (List Int)) : Nat → Int → Int → Bool → Int → Option (Int × Int × Bool)
  | 0, best_139, most_140, equal_141, _ => (some (best_139, most_140, equal_141))
  | k0 + 1, best_139, most_140, equal_141, kind_142 => (ref09_votes l_112 kind_142).bind fun r_144 => (if (decide (most_140 < r_144)) = true then ref09_Seen_L0 l_112 k0 kind_142 r_144 false ((kind_142 + 1)) else (if (r_144 == most_140) = true then ref09_Seen_L0 l_112 k0 best_139 most_140 true ((kind_142 + 1)) else ref09_Seen_L0 l_112 k0 best_139 most_140 equal_141 ((kind_142 + 1))))

def ref09_Seen (l_112 : (List Int)) : Option Int :=
  (ref09_Seen_L0 l_112 (Int.toNat (16 - 0)) ((-1)) 0 false 0).bind (fun s_ => un3 s_ fun best_134 most_135 equal_136 => (if (most_135 == 0) = true then (some (-1)) else (if equal_136 = true then (some (-1)) else (some best_134))))

theorem ref09_Seen_PC {l_112 : (List Int)} {r : Int} (H0 : ref09_Seen l_112 = some r) : PC Try.prog 53 [(.sl (List.map int1 l_112))] (· = (int r)) := by
  unfold ref09_Seen at H0
  refine PC.of_bodyL [(0, (.sl (List.map int1 l_112)))] Try.func53 rfl rfl (Nat.le_of_ble_eq_true rfl) rfl fun O => ?_
  repeat refine SatL.seq ?_
  refine SatL.reg [0] [some 2] rfl rfl fun K1 hK1 => ?_
  refine aopsS_step fun _ hK => s_as (v := (int 0)) rfl (hK _ _ _ ?_)
  clear hK
  refine aopsS_end (hK1 _ (SatL.norm (n := 0) (h := hl []) (env' := [(0, (.sl (List.map int1 l_112)))]) (L' := []) rfl hs_refl ?_))
  repeat refine SatL.seq ?_
  refine SatL.reg [0, 3, 4, 5] [some 3, some 4, some 5] rfl rfl fun K3 hK3 => ?_
  refine aopsS_step fun _ hK => s_as (v := (int (-1))) rfl (hK _ _ _ ?_)
  clear hK
  refine aopsS_step fun _ hK => s_as (v := (int 0)) rfl (hK _ _ _ ?_)
  clear hK
  refine aopsS_step fun _ hK => s_as (v := (bool false)) rfl (hK _ _ _ ?_)
  clear hK
  refine aopsS_end (hK3 _ (SatL.norm (n := 0) (h := hl []) (env' := [(0, (.sl (List.map int1 l_112))), (3, (int (-1))), (4, (int 0)), (5, (bool false))]) (L' := []) rfl hs_refl ?_))
  repeat refine SatL.seq ?_
  refine SatL.reg [0, 3, 4, 5, 6] [some 6] rfl rfl fun K7 hK7 => ?_
  refine aopsS_step fun _ hK => s_as (v := (int 0)) rfl (hK _ _ _ ?_)
  clear hK
  refine aopsS_end (hK7 _ (SatL.norm (n := 0) (h := hl []) (env' := [(0, (.sl (List.map int1 l_112))), (3, (int (-1))), (4, (int 0)), (5, (bool false)), (6, (int 0))]) (L' := []) rfl hs_refl ?_))
  repeat refine SatL.seq ?_
  obtain ⟨o_137, H1, H0⟩ := bindS H0
  refine SatL.mid [3, 4, 5] (fun s_ => ∃ (best_134 : Int) (most_135 : Int) (equal_136 : Bool), (best_134, most_135, equal_136) = o_137 ∧ StLe s_ [(3, (int best_134)), (4, (int most_135)), (5, (bool equal_136))] [] 0) ?_ ?_
  ·
    repeat refine SatL.seq ?_
    refine SatL.block ?_
    repeat refine SatL.seq ?_
    refine SatL.loopK [0, 3, 4, 5, 6] (fun k0 s_ => ∃ (best_139 : Int) (most_140 : Int) (equal_141 : Bool) (kind_142 : Int), StLe s_ [(0, (.sl (List.map int1 l_112))), (3, (int best_139)), (4, (int most_140)), (5, (bool equal_141)), (6, (int kind_142))] [] 0 ∧ 0 ≤ kind_142 ∧ k0 = Int.toNat (16 - kind_142) ∧ ref09_Seen_L0 l_112 k0 best_139 most_140 equal_141 kind_142 = some o_137) (Int.toNat (16 - 0)) ?_ ?_
    · exact ⟨(-1), 0, false, 0, (StLe.of [] 0 rfl hs_nil (Nat.le_refl _)), (by omega), rfl, H1⟩
    rintro k0 s_ ⟨best_139, most_140, equal_141, kind_142, hs_, _, hk_, H1⟩
    refine SatL.le hs_ ?_
    clear hs_
    rcases k0 with _ | k0
    ·
      rw [ref09_Seen_L0.eq_1] at H1
      repeat refine SatL.seq ?_
      refine SatL.reg [0, 3, 4, 5, 6, 9] [some 8, some 9] rfl rfl fun K204 hK204 => ?_
      refine aopsS_step fun _ hK => s_mv (v := (int kind_142)) rfl (hK _ _ _ ?_)
      clear hK
      refine aopsS_step fun _ hK => s_bin rfl rfl (b_lss (hK _ _ _ ?_))
      clear hK
      refine aopsS_end (hK204 _ (SatL.norm (n := 0) (h := hl []) (env' := [(0, (.sl (List.map int1 l_112))), (3, (int best_139)), (4, (int most_140)), (5, (bool equal_141)), (6, (int kind_142)), (9, (bool (decide (kind_142 < 16))))]) (L' := []) rfl hs_refl ?_))
      repeat refine SatL.seq ?_
      refine SatL.condF rfl (decide_eq_false (by omega)) ?_
      refine SatL.exit ?_
      simp only [thenQ, blockQ, if_true, reduceIte, Nat.reduceEqDiff]
      obtain rfl := Option.some.inj H1
      exact SatL.nil (thenN ⟨best_139, most_140, equal_141, rfl, (StLe.of [] 0 rfl hs_nil (Nat.le_refl _))⟩)
    ·
      rw [ref09_Seen_L0.eq_2] at H1
      repeat refine SatL.seq ?_
      refine SatL.reg [0, 3, 4, 5, 6, 9] [some 8, some 9] rfl rfl fun K207 hK207 => ?_
      refine aopsS_step fun _ hK => s_mv (v := (int kind_142)) rfl (hK _ _ _ ?_)
      clear hK
      refine aopsS_step fun _ hK => s_bin rfl rfl (b_lss (hK _ _ _ ?_))
      clear hK
      refine aopsS_end (hK207 _ (SatL.norm (n := 0) (h := hl []) (env' := [(0, (.sl (List.map int1 l_112))), (3, (int best_139)), (4, (int most_140)), (5, (bool equal_141)), (6, (int kind_142)), (9, (bool (decide (kind_142 < 16))))]) (L' := []) rfl hs_refl ?_))
      repeat refine SatL.seq ?_
      refine SatL.condT rfl (decide_eq_true (by omega)) ?_
      have hlt210 : (kind_142 < 16) := by omega
      refine SatL.skip ?_
      repeat refine SatL.seq ?_
      refine SatL.block ?_
      repeat refine SatL.seq ?_
      refine SatL.reg [0, 3, 4, 5, 6, 7] [some 12, some 13, some 14, some 7] rfl rfl fun K211 hK211 => ?_
      refine aopsS_step fun _ hK => s_mv (v := (.sl (List.map int1 l_112))) rfl (hK _ _ _ ?_)
      clear hK
      refine aopsS_step fun _ hK => s_mv (v := (int kind_142)) rfl (hK _ _ _ ?_)
      clear hK
      obtain ⟨r_144, hr_144, H1⟩ := bindS H1
      refine aopsS_step fun _ hK => s_call (avs := [(.sl (List.map int1 l_112)), (int kind_142)]) rfl rfl rfl (PC.call1 (ref09_votes_PC hr_144) (FreeL.cons (Free.slm fr_int1) (FreeL.cons (.sc _) FreeL.nil)) (hK _ _ _ ?_))
      clear hK
      refine aopsS_step fun _ hK => s_as (v := (int r_144)) rfl (hK _ _ _ ?_)
      clear hK
      refine aopsS_end (hK211 _ (SatL.norm (n := 0) (h := hl []) (env' := [(0, (.sl (List.map int1 l_112))), (3, (int best_139)), (4, (int most_140)), (5, (bool equal_141)), (6, (int kind_142)), (7, (int r_144))]) (L' := []) rfl hs_refl ?_))
      repeat refine SatL.seq ?_
      refine SatL.reg [0, 3, 4, 5, 6, 7, 17] [some 15, some 16, some 17] rfl rfl fun K216 hK216 => ?_
      refine aopsS_step fun _ hK => s_mv (v := (int r_144)) rfl (hK _ _ _ ?_)
      clear hK
      refine aopsS_step fun _ hK => s_mv (v := (int most_140)) rfl (hK _ _ _ ?_)
      clear hK
      refine aopsS_step fun _ hK => s_bin rfl rfl (b_gtr (hK _ _ _ ?_))
      clear hK
      refine aopsS_end (hK216 _ (SatL.norm (n := 0) (h := hl []) (env' := [(0, (.sl (List.map int1 l_112))), (3, (int best_139)), (4, (int most_140)), (5, (bool equal_141)), (6, (int kind_142)), (7, (int r_144)), (17, (bool (decide (most_140 < r_144))))]) (L' := []) rfl hs_refl ?_))
      repeat refine SatL.seq ?_
      refine SatL.condX rfl (fun hc220 => ?_) (fun hc220 => ?_)
      ·
        replace H1 := iteT H1 hc220
        repeat refine SatL.seq ?_
        refine SatL.rege [some 18, some 19, some 3, some 4, some 5] rfl rfl fun K221 hK221 => ?_
        refine aopsS_step fun _ hK => s_mv (v := (int kind_142)) rfl (hK _ _ _ ?_)
        clear hK
        refine aopsS_step fun _ hK => s_mv (v := (int r_144)) rfl (hK _ _ _ ?_)
        clear hK
        refine aopsS_step fun _ hK => s_as (v := (int kind_142)) rfl (hK _ _ _ ?_)
        clear hK
        refine aopsS_step fun _ hK => s_as (v := (int r_144)) rfl (hK _ _ _ ?_)
        clear hK
        refine aopsS_step fun _ hK => s_as (v := (bool false)) rfl (hK _ _ _ ?_)
        clear hK
        refine aopsS_end (hK221 _ ?_)
        refine (blockN (thenN ?_))
        refine SatL.forget [0, 3, 4, 5, 6] (SatL.norm (n := 0) (h := hl []) (env' := [(0, (.sl (List.map int1 l_112))), (3, (int kind_142)), (4, (int r_144)), (5, (bool false)), (6, (int kind_142))]) (L' := []) rfl hs_refl ?_)
        repeat refine SatL.seq ?_
        refine SatL.rege [some 10, some 11, some 6] rfl rfl fun K227 hK227 => ?_
        refine aopsS_step fun _ hK => s_mv (v := (int kind_142)) rfl (hK _ _ _ ?_)
        clear hK
        refine aopsS_step fun _ hK => s_bin rfl rfl (b_add64 (hK _ _ _ ?_))
        clear hK
        refine aopsS_step fun _ hK => s_as (v := (int (w64 (kind_142 + 1)))) rfl (hK _ _ _ ?_)
        clear hK
        refine aopsS_end (hK227 _ ?_)
        have hw231 : w64 (kind_142 + 1) = kind_142 + 1 := w64_id (by omega) (by omega)
        exact (thenN ⟨k0, ⟨kind_142, r_144, false, (w64 (kind_142 + 1)), (StLe.of [] 0 rfl hs_nil (Nat.le_refl _)), (by omega), (by rw [hw231]; omega), (Eq.mpr (congrArg (fun q_ => ref09_Seen_L0 l_112 k0 kind_142 r_144 false q_ = some o_137) hw231) H1)⟩, by omega⟩)
      ·
        replace H1 := iteF H1 hc220
        repeat refine SatL.seq ?_
        refine SatL.reg [0, 3, 4, 5, 6, 22] [some 20, some 21, some 22] rfl rfl fun K232 hK232 => ?_
        refine aopsS_step fun _ hK => s_mv (v := (int r_144)) rfl (hK _ _ _ ?_)
        clear hK
        refine aopsS_step fun _ hK => s_mv (v := (int most_140)) rfl (hK _ _ _ ?_)
        clear hK
        refine aopsS_step fun _ hK => s_bin rfl rfl (b_eql (hK _ _ _ ?_))
        clear hK
        refine aopsS_end (hK232 _ (SatL.norm (n := 0) (h := hl []) (env' := [(0, (.sl (List.map int1 l_112))), (3, (int best_139)), (4, (int most_140)), (5, (bool equal_141)), (6, (int kind_142)), (22, (bool (r_144 == most_140)))]) (L' := []) rfl hs_refl ?_))
        repeat refine SatL.seq ?_
        refine SatL.condX rfl (fun hc236 => ?_) (fun hc236 => ?_)
        ·
          replace H1 := iteT H1 hc236
          repeat refine SatL.seq ?_
          refine SatL.rege [some 5] rfl rfl fun K237 hK237 => ?_
          refine aopsS_step fun _ hK => s_as (v := (bool true)) rfl (hK _ _ _ ?_)
          clear hK
          refine aopsS_end (hK237 _ ?_)
          refine (blockN (thenN ?_))
          refine SatL.forget [0, 3, 4, 5, 6] (SatL.norm (n := 0) (h := hl []) (env' := [(0, (.sl (List.map int1 l_112))), (3, (int best_139)), (4, (int most_140)), (5, (bool true)), (6, (int kind_142))]) (L' := []) rfl hs_refl ?_)
          repeat refine SatL.seq ?_
          refine SatL.rege [some 10, some 11, some 6] rfl rfl fun K239 hK239 => ?_
          refine aopsS_step fun _ hK => s_mv (v := (int kind_142)) rfl (hK _ _ _ ?_)
          clear hK
          refine aopsS_step fun _ hK => s_bin rfl rfl (b_add64 (hK _ _ _ ?_))
          clear hK
          refine aopsS_step fun _ hK => s_as (v := (int (w64 (kind_142 + 1)))) rfl (hK _ _ _ ?_)
          clear hK
          refine aopsS_end (hK239 _ ?_)
          have hw243 : w64 (kind_142 + 1) = kind_142 + 1 := w64_id (by omega) (by omega)
          exact (thenN ⟨k0, ⟨best_139, most_140, true, (w64 (kind_142 + 1)), (StLe.of [] 0 rfl hs_nil (Nat.le_refl _)), (by omega), (by rw [hw243]; omega), (Eq.mpr (congrArg (fun q_ => ref09_Seen_L0 l_112 k0 best_139 most_140 true q_ = some o_137) hw243) H1)⟩, by omega⟩)
        ·
          replace H1 := iteF H1 hc236
          refine SatL.skip ?_
          refine SatL.nil (blockN (thenN ?_))
          repeat refine SatL.seq ?_
          refine SatL.rege [some 10, some 11, some 6] rfl rfl fun K244 hK244 => ?_
          refine aopsS_step fun _ hK => s_mv (v := (int kind_142)) rfl (hK _ _ _ ?_)
          clear hK
          refine aopsS_step fun _ hK => s_bin rfl rfl (b_add64 (hK _ _ _ ?_))
          clear hK
          refine aopsS_step fun _ hK => s_as (v := (int (w64 (kind_142 + 1)))) rfl (hK _ _ _ ?_)
          clear hK
          refine aopsS_end (hK244 _ ?_)
          have hw248 : w64 (kind_142 + 1) = kind_142 + 1 := w64_id (by omega) (by omega)
          exact (thenN ⟨k0, ⟨best_139, most_140, equal_141, (w64 (kind_142 + 1)), (StLe.of [] 0 rfl hs_nil (Nat.le_refl _)), (by omega), (by rw [hw248]; omega), (Eq.mpr (congrArg (fun q_ => ref09_Seen_L0 l_112 k0 best_139 most_140 equal_141 q_ = some o_137) hw248) H1)⟩, by omega⟩)
  ·
    rintro s_ ⟨best_134, most_135, equal_136, rfl, hs_⟩
    refine SatL.le hs_ ?_
    clear hs_
    replace H0 := un3S H0
    repeat refine SatL.seq ?_
    refine SatL.reg [3, 27] [some 23, some 24, some 25, some 26, some 27] rfl rfl fun K249 hK249 => ?_
    refine aopsS_step fun _ hK => s_mv (v := (int most_135)) rfl (hK _ _ _ ?_)
    clear hK
    refine aopsS_step fun _ hK => s_bin rfl rfl (b_eql (hK _ _ _ ?_))
    clear hK
    refine aopsS_step fun _ hK => s_mv (v := (bool (most_135 == 0))) rfl (hK _ _ _ ?_)
    clear hK
    refine aopsS_split rfl _ rfl (fun g253 => ?_) (fun g253 => ?_)
    ·
      replace H0 := iteF H0 (by simpa using g253)
      intro _ hK
      refine s_mv (v := (bool equal_136)) rfl (hK _ _ _ ?_)
      clear hK
      refine aopsS_step fun _ hK => s_pickF (v := (bool equal_136)) rfl rfl (hK _ _ _ ?_)
      clear hK
      refine aopsS_end (hK249 _ (SatL.norm (n := 0) (h := hl []) (env' := [(3, (int best_134)), (27, (bool equal_136))]) (L' := []) rfl hs_refl ?_))
      repeat refine SatL.seq ?_
      refine SatL.condX rfl (fun hc256 => ?_) (fun hc256 => ?_)
      ·
        replace H0 := iteT H0 hc256
        repeat refine SatL.seq ?_
        refine SatL.reg [2] [some 2] rfl rfl fun K257 hK257 => ?_
        refine aopsS_step fun _ hK => s_as (v := (int (-1))) rfl (hK _ _ _ ?_)
        clear hK
        refine aopsS_end (hK257 _ (SatL.norm (n := 0) (h := hl []) (env' := [(2, (int (-1)))]) (L' := []) rfl hs_refl ?_))
        obtain rfl := Option.some.inj H0
        exact SatL.ret (fnQ_snap (int (-1)) (int (-1)) rfl (Snap.free _ (.sc _)) rfl)
      ·
        replace H0 := iteF H0 hc256
        refine SatL.skip ?_
        repeat refine SatL.seq ?_
        refine SatL.reg [2] [some 28, some 2] rfl rfl fun K259 hK259 => ?_
        refine aopsS_step fun _ hK => s_mv (v := (int best_134)) rfl (hK _ _ _ ?_)
        clear hK
        refine aopsS_step fun _ hK => s_as (v := (int best_134)) rfl (hK _ _ _ ?_)
        clear hK
        refine aopsS_end (hK259 _ (SatL.norm (n := 0) (h := hl []) (env' := [(2, (int best_134))]) (L' := []) rfl hs_refl ?_))
        obtain rfl := Option.some.inj H0
        exact SatL.ret (fnQ_snap (int best_134) (int best_134) rfl (Snap.free _ (.sc _)) rfl)
    ·
      replace H0 := iteT H0 (by simpa using g253)
      refine aopsS_step fun _ hK => s_pickT (v := (bool true)) rfl rfl (hK _ _ _ ?_)
      clear hK
      refine aopsS_end (hK249 _ (SatL.norm (n := 0) (h := hl []) (env' := [(3, (int best_134)), (27, (bool true))]) (L' := []) rfl hs_refl ?_))
      repeat refine SatL.seq ?_
      refine SatL.condT rfl rfl ?_
      repeat refine SatL.seq ?_
      refine SatL.reg [2] [some 2] rfl rfl fun K263 hK263 => ?_
      refine aopsS_step fun _ hK => s_as (v := (int (-1))) rfl (hK _ _ _ ?_)
      clear hK
      refine aopsS_end (hK263 _ (SatL.norm (n := 0) (h := hl []) (env' := [(2, (int (-1)))]) (L' := []) rfl hs_refl ?_))
      obtain rfl := Option.some.inj H0
      exact SatL.ret (fnQ_snap (int (-1)) (int (-1)) rfl (Snap.free _ (.sc _)) rfl)

def ref09_Read (l_90 : (List Int)) : Option (Int × Int) :=
  (ref09_Said l_90).bind fun r_111 => (if (!r_111) = true then (some (0, 2)) else (ref09_Seen l_90).bind fun r_145 => (some (r_145, 0)))

theorem ref09_Read_PC {l_90 : (List Int)} {r : (Int × Int)} (H0 : ref09_Read l_90 = some r) : PC Try.prog 17 [(.sl (List.map int1 l_90))] (· = (.tp [(int r.1), (int r.2)])) := by
  unfold ref09_Read at H0
  refine PC.of_bodyL [(0, (.sl (List.map int1 l_90)))] Try.func17 rfl rfl (Nat.le_of_ble_eq_true rfl) rfl fun O => ?_
  repeat refine SatL.seq ?_
  refine SatL.reg [0] [some 2, some 3] rfl rfl fun K1 hK1 => ?_
  refine aopsS_step fun _ hK => s_as (v := (int 0)) rfl (hK _ _ _ ?_)
  clear hK
  refine aopsS_step fun _ hK => s_as (v := (int 0)) rfl (hK _ _ _ ?_)
  clear hK
  refine aopsS_end (hK1 _ (SatL.norm (n := 0) (h := hl []) (env' := [(0, (.sl (List.map int1 l_90)))]) (L' := []) rfl hs_refl ?_))
  repeat refine SatL.seq ?_
  refine SatL.reg [0, 6] [some 4, some 5, some 6] rfl rfl fun K4 hK4 => ?_
  refine aopsS_step fun _ hK => s_mv (v := (.sl (List.map int1 l_90))) rfl (hK _ _ _ ?_)
  clear hK
  obtain ⟨r_111, hr_111, H0⟩ := bindS H0
  refine aopsS_step fun _ hK => s_call (avs := [(.sl (List.map int1 l_90))]) rfl rfl rfl (PC.call1 (ref09_Said_PC hr_111) (FreeL.cons (Free.slm fr_int1) FreeL.nil) (hK _ _ _ ?_))
  clear hK
  refine aopsS_step fun _ hK => s_not rfl (hK _ _ _ ?_)
  clear hK
  refine aopsS_end (hK4 _ (SatL.norm (n := 0) (h := hl []) (env' := [(0, (.sl (List.map int1 l_90))), (6, (bool (!r_111)))]) (L' := []) rfl hs_refl ?_))
  repeat refine SatL.seq ?_
  refine SatL.condX rfl (fun hc8 => ?_) (fun hc8 => ?_)
  ·
    replace H0 := iteT H0 hc8
    repeat refine SatL.seq ?_
    refine SatL.reg [2, 3] [some 2, some 3] rfl rfl fun K9 hK9 => ?_
    refine aopsS_step fun _ hK => s_as (v := (int 0)) rfl (hK _ _ _ ?_)
    clear hK
    refine aopsS_step fun _ hK => s_as (v := (int 2)) rfl (hK _ _ _ ?_)
    clear hK
    refine aopsS_end (hK9 _ (SatL.norm (n := 0) (h := hl []) (env' := [(2, (int 0)), (3, (int 2))]) (L' := []) rfl hs_refl ?_))
    obtain rfl := Option.some.inj H0
    exact SatL.ret (fnQ_snap (.tp [(int 0), (int 2)]) (.tp [(int 0), (int 2)]) rfl (Snap.tpL (SnapL.cons (Snap.free _ (.sc _)) (SnapL.cons (Snap.free _ (.sc _)) SnapL.nil))) rfl)
  ·
    replace H0 := iteF H0 hc8
    refine SatL.skip ?_
    repeat refine SatL.seq ?_
    refine SatL.reg [2, 3] [some 7, some 8, some 2, some 3] rfl rfl fun K12 hK12 => ?_
    refine aopsS_step fun _ hK => s_mv (v := (.sl (List.map int1 l_90))) rfl (hK _ _ _ ?_)
    clear hK
    obtain ⟨r_145, hr_145, H0⟩ := bindS H0
    refine aopsS_step fun _ hK => s_call (avs := [(.sl (List.map int1 l_90))]) rfl rfl rfl (PC.call1 (ref09_Seen_PC hr_145) (FreeL.cons (Free.slm fr_int1) FreeL.nil) (hK _ _ _ ?_))
    clear hK
    refine aopsS_step fun _ hK => s_as (v := (int r_145)) rfl (hK _ _ _ ?_)
    clear hK
    refine aopsS_step fun _ hK => s_as (v := (int 0)) rfl (hK _ _ _ ?_)
    clear hK
    refine aopsS_end (hK12 _ (SatL.norm (n := 0) (h := hl []) (env' := [(2, (int r_145)), (3, (int 0))]) (L' := []) rfl hs_refl ?_))
    obtain rfl := Option.some.inj H0
    exact SatL.ret (fnQ_snap (.tp [(int r_145), (int 0)]) (.tp [(int r_145), (int 0)]) rfl (Snap.tpL (SnapL.cons (Snap.free _ (.sc _)) (SnapL.cons (Snap.free _ (.sc _)) SnapL.nil))) rfl)

def sort_CheckBelt_L0 (b_148 : Belt) : Nat → Int → (List (Int × Bool)) → Int → Option (Int ⊕ Unit)
  | 0, _, _, _ => (some (Sum.inr ()))
  | k0 + 1, least_171, bins_172, x_173 => (gi b_148.Gates x_173).bind fun e_178 => (sort_from least_171 (w64 (b_148.Length - 1)) ([e_178.At])).bind fun r_179 => (if (!r_179) = true then (some (Sum.inl 90)) else (sort_from 0 7 ([e_178.Bin])).bind fun r_180 => (if (!r_180) = true then (some (Sum.inl 90)) else (if (((mget bins_172 e_178.Bin)).getD false) = true then (some (Sum.inl 90)) else sort_CheckBelt_L0 b_148 k0 ((w64 (e_178.At + 1))) ((mput bins_172 e_178.Bin true)) ((x_173 + 1)))))

def sort_CheckBelt (b_148 : Belt) : Option Int :=
  (sort_from 2 100 ([b_148.Length])).bind fun r_149 => (if (!r_149) = true then (some 90) else (sort_from 0 (w64 (b_148.Length - 2)) ([b_148.Camera])).bind fun r_150 => (if (!r_150) = true then (some 90) else (sort_from 0 10 ([b_148.Slow])).bind fun r_151 => (if (!r_151) = true then (some 90) else (if (decide (8 < (List.length b_148.Gates : Int))) = true then (some 90) else (if ((List.length b_148.Bins : Int) != 16) = true then (some 90) else (sort_from (-1) 7 b_148.Bins).bind fun r_152 => (if (!r_152) = true then (some 90) else (sort_CheckBelt_L0 b_148 (Int.toNat ((List.length b_148.Gates : Int) - 0)) ((w64 (b_148.Camera + 1))) ([]) 0).bind (fun s_ => sumE s_ (fun r_ => (some r_)) (fun s_ => un0 s_ ((some 0))))))))))

theorem sort_CheckBelt_PC {b_148 : Belt} {r : Int} (H0 : sort_CheckBelt b_148 = some r) : PC Try.prog 18 [(.ag (Belt.cells b_148))] (· = (int r)) := by
  unfold sort_CheckBelt at H0
  refine PC.of_bodyL [(0, (.ag (Belt.cells b_148)))] Try.func18 rfl rfl (Nat.le_of_ble_eq_true rfl) rfl fun O => ?_
  repeat refine SatL.seq ?_
  refine SatL.reg [1] [some 1, some 2] rfl rfl fun K1 hK1 => ?_
  refine aopsS_step fun _ hK => s_box (cs := [(int b_148.Length), (int b_148.Camera), (int b_148.Slow), (.sl (List.map Gate.cells b_148.Gates)), (.sl (List.map int1 b_148.Bins))]) (m := 5) (n' := 1) rfl rfl rfl (hK _ _ _ ?_)
  clear hK
  refine aopsS_step fun _ hK => s_as (v := (int 0)) rfl (hK _ _ _ ?_)
  clear hK
  refine aopsS_end (hK1 _ (SatL.norm (n := 1) (h := hl [(0, (some (.cells 5 25 [[(int b_148.Length), (int b_148.Camera), (int b_148.Slow), (.sl (List.map Gate.cells b_148.Gates)), (.sl (List.map int1 b_148.Bins))]])))]) (env' := [(1, (.own 0 0 0))]) (L' := [(0, (some (.cells 5 25 [[(int b_148.Length), (int b_148.Camera), (int b_148.Slow), (.sl (List.map Gate.cells b_148.Gates)), (.sl (List.map int1 b_148.Bins))]])))]) rfl hs_refl ?_))
  repeat refine SatL.seq ?_
  refine SatL.reg [1, 34] [some 7, some 8, some 9, some 10, some 11, some 12, some 13, some 14, some 15, some 16, some 17, some 18, some 19, some 20, some 21, some 22, some 23, some 24, some 25, some 26, some 27, some 28, some 29, some 30, some 31, some 32, some 33, some 34] rfl rfl fun K4 hK4 => ?_
  refine aopsS_step fun _ hK => s_faOwn (j' := 0) fld_25_0 rfl rfl (isC (hl_self _ _ _)) (hK _ _ _ ?_)
  clear hK
  refine aopsS_step fun _ hK => s_load1 (c := (int b_148.Length)) agg_3 (d_own rfl (hl_self _ _ _) rfl rfl) rfl (hK _ _ _ ?_)
  clear hK
  refine aopsS_step fun _ hK => s_bsl (es := [[(int b_148.Length)]]) (n' := 2) elem_23 zero_3 rfl (by decide) (by decide) rfl rfl (hK _ _ _ ?_)
  clear hK
  obtain ⟨r_149, hr_149, H0⟩ := bindS H0
  refine aopsS_step fun _ hK => s_call (avs := [(int 2), (int 100), (.ms 1 0 1)]) rfl rfl rfl (PC.lend1 (args' := [(int 2), (int 100), (.sl (List.map int1 [b_148.Length]))]) (SnapL.cons (Snap.free _ (.sc _)) (SnapL.cons (Snap.free _ (.sc _)) (SnapL.cons (Snap.msW (f := int1) (l := [b_148.Length]) (hl_self _ _ _) rfl fr_int1) SnapL.nil))) (sort_from_PC hr_149) (.sc _) (hK _ _ _ ?_))
  clear hK
  refine aopsS_step fun _ hK => s_not rfl (hK _ _ _ ?_)
  clear hK
  refine aopsS_step fun _ hK => s_mv (v := (bool (!r_149))) rfl (hK _ _ _ ?_)
  clear hK
  refine aopsS_split rfl _ rfl (fun g11 => ?_) (fun g11 => ?_)
  ·
    replace H0 := iteF H0 (by simpa using g11)
    intro _ hK
    refine s_faOwn (j' := 0) fld_25_0 rfl rfl (isC (hl_ne (j := 0) (i := 1) (by decide) (hl_self _ _ _))) (hK _ _ _ ?_)
    clear hK
    refine aopsS_on rfl rfl fun _ hK => s_load1 (c := (int b_148.Length)) agg_3 (d_own rfl (hl_ne (j := 0) (i := 1) (by decide) (hl_self _ _ _)) rfl rfl) rfl (hK _ _ _ ?_)
    clear hK
    refine aopsS_on rfl rfl fun _ hK => s_bin rfl rfl (b_sub64 (hK _ _ _ ?_))
    clear hK
    refine aopsS_on rfl rfl fun _ hK => s_faOwn (j' := 1) fld_25_1 rfl rfl (isC (hl_ne (j := 0) (i := 1) (by decide) (hl_self _ _ _))) (hK _ _ _ ?_)
    clear hK
    refine aopsS_on rfl rfl fun _ hK => s_load1 (c := (int b_148.Camera)) agg_3 (d_own rfl (hl_ne (j := 0) (i := 1) (by decide) (hl_self _ _ _)) rfl rfl) rfl (hK _ _ _ ?_)
    clear hK
    refine aopsS_on rfl rfl fun _ hK => s_bsl (es := [[(int b_148.Camera)]]) (n' := 3) elem_23 zero_3 rfl (by decide) (by decide) rfl rfl (hK _ _ _ ?_)
    clear hK
    obtain ⟨r_150, hr_150, H0⟩ := bindS H0
    refine aopsS_on rfl rfl fun _ hK => s_call (avs := [(int 0), (int (w64 (b_148.Length - 2))), (.ms 2 0 1)]) rfl rfl rfl (PC.lend1 (args' := [(int 0), (int (w64 (b_148.Length - 2))), (.sl (List.map int1 [b_148.Camera]))]) (SnapL.cons (Snap.free _ (.sc _)) (SnapL.cons (Snap.free _ (.sc _)) (SnapL.cons (Snap.msW (f := int1) (l := [b_148.Camera]) (hl_self _ _ _) rfl fr_int1) SnapL.nil))) (sort_from_PC hr_150) (.sc _) (hK _ _ _ ?_))
    clear hK
    refine aopsS_on rfl rfl fun _ hK => s_not rfl (hK _ _ _ ?_)
    clear hK
    refine aopsS_step fun _ hK => s_pickF (v := (bool (!r_150))) rfl rfl (hK _ _ _ ?_)
    clear hK
    refine aopsS_step fun _ hK => s_mv (v := (bool (!r_150))) rfl (hK _ _ _ ?_)
    clear hK
    refine aopsS_split rfl _ rfl (fun g22 => ?_) (fun g22 => ?_)
    ·
      replace H0 := iteF H0 (by simpa using g22)
      intro _ hK
      refine s_faOwn (j' := 2) fld_25_2 rfl rfl (isC (hl_ne (j := 0) (i := 2) (by decide) (hl_ne (j := 0) (i := 1) (by decide) (hl_self _ _ _)))) (hK _ _ _ ?_)
      clear hK
      refine aopsS_on rfl rfl fun _ hK => s_load1 (c := (int b_148.Slow)) agg_3 (d_own rfl (hl_ne (j := 0) (i := 2) (by decide) (hl_ne (j := 0) (i := 1) (by decide) (hl_self _ _ _))) rfl rfl) rfl (hK _ _ _ ?_)
      clear hK
      refine aopsS_on rfl rfl fun _ hK => s_bsl (es := [[(int b_148.Slow)]]) (n' := 4) elem_23 zero_3 rfl (by decide) (by decide) rfl rfl (hK _ _ _ ?_)
      clear hK
      obtain ⟨r_151, hr_151, H0⟩ := bindS H0
      refine aopsS_on rfl rfl fun _ hK => s_call (avs := [(int 0), (int 10), (.ms 3 0 1)]) rfl rfl rfl (PC.lend1 (args' := [(int 0), (int 10), (.sl (List.map int1 [b_148.Slow]))]) (SnapL.cons (Snap.free _ (.sc _)) (SnapL.cons (Snap.free _ (.sc _)) (SnapL.cons (Snap.msW (f := int1) (l := [b_148.Slow]) (hl_self _ _ _) rfl fr_int1) SnapL.nil))) (sort_from_PC hr_151) (.sc _) (hK _ _ _ ?_))
      clear hK
      refine aopsS_on rfl rfl fun _ hK => s_not rfl (hK _ _ _ ?_)
      clear hK
      refine aopsS_step fun _ hK => s_pickF (v := (bool (!r_151))) rfl rfl (hK _ _ _ ?_)
      clear hK
      refine aopsS_step fun _ hK => s_mv (v := (bool (!r_151))) rfl (hK _ _ _ ?_)
      clear hK
      refine aopsS_split rfl _ rfl (fun g30 => ?_) (fun g30 => ?_)
      ·
        replace H0 := iteF H0 (by simpa using g30)
        intro _ hK
        refine s_faOwn (j' := 3) fld_25_3 rfl rfl (isC (hl_ne (j := 0) (i := 3) (by decide) (hl_ne (j := 0) (i := 2) (by decide) (hl_ne (j := 0) (i := 1) (by decide) (hl_self _ _ _))))) (hK _ _ _ ?_)
        clear hK
        refine aopsS_on rfl rfl fun _ hK => s_load1 (c := (.sl (List.map Gate.cells b_148.Gates))) agg_22 (d_own rfl (hl_ne (j := 0) (i := 3) (by decide) (hl_ne (j := 0) (i := 2) (by decide) (hl_ne (j := 0) (i := 1) (by decide) (hl_self _ _ _)))) rfl rfl) rfl (hK _ _ _ ?_)
        clear hK
        refine aopsS_on rfl rfl fun _ hK => s_lenSl elem_22 rfl (fun hl33 => hK _ _ _ ?_)
        clear hK
        refine aopsS_on rfl rfl fun _ hK => s_bin rfl rfl (b_gtr (hK _ _ _ ?_))
        clear hK
        refine aopsS_step fun _ hK => s_pickF (v := (bool (decide (8 < (List.length b_148.Gates : Int))))) rfl rfl (hK _ _ _ ?_)
        clear hK
        refine aopsS_end (hK4 _ (SatL.norm (n := 4) (h := hl [(3, (some (.cells 1 3 [[(int b_148.Slow)]]))), (2, (some (.cells 1 3 [[(int b_148.Camera)]]))), (1, (some (.cells 1 3 [[(int b_148.Length)]]))), (0, (some (.cells 5 25 [[(int b_148.Length), (int b_148.Camera), (int b_148.Slow), (.sl (List.map Gate.cells b_148.Gates)), (.sl (List.map int1 b_148.Bins))]])))]) (env' := [(1, (.own 0 0 0)), (34, (bool (decide (8 < (List.length b_148.Gates : Int)))))]) (L' := [(0, (some (.cells 5 25 [[(int b_148.Length), (int b_148.Camera), (int b_148.Slow), (.sl (List.map Gate.cells b_148.Gates)), (.sl (List.map int1 b_148.Bins))]])))]) rfl (hs_cons (hl_ne (j := 0) (i := 3) (by decide) (hl_ne (j := 0) (i := 2) (by decide) (hl_ne (j := 0) (i := 1) (by decide) (hl_self _ _ _)))) hs_nil) ?_))
        repeat refine SatL.seq ?_
        refine SatL.condX rfl (fun hc36 => ?_) (fun hc36 => ?_)
        ·
          replace H0 := iteT H0 hc36
          repeat refine SatL.seq ?_
          refine SatL.reg [2] [some 2] rfl rfl fun K37 hK37 => ?_
          refine aopsS_step fun _ hK => s_as (v := (int 90)) rfl (hK _ _ _ ?_)
          clear hK
          refine aopsS_end (hK37 _ (SatL.norm (n := 4) (h := hl [(0, (some (.cells 5 25 [[(int b_148.Length), (int b_148.Camera), (int b_148.Slow), (.sl (List.map Gate.cells b_148.Gates)), (.sl (List.map int1 b_148.Bins))]])))]) (env' := [(2, (int 90))]) (L' := []) rfl hs_nil ?_))
          obtain rfl := Option.some.inj H0
          exact SatL.ret (fnQ_snap (int 90) (int 90) rfl (Snap.free _ (.sc _)) rfl)
        ·
          replace H0 := iteF H0 hc36
          refine SatL.skip ?_
          repeat refine SatL.seq ?_
          refine SatL.reg [1, 44] [some 35, some 36, some 37, some 38, some 39, some 40, some 41, some 42, some 43, some 44] rfl rfl fun K39 hK39 => ?_
          refine aopsS_step fun _ hK => s_faOwn (j' := 4) fld_25_4 rfl rfl (isC (hl_self _ _ _)) (hK _ _ _ ?_)
          clear hK
          refine aopsS_step fun _ hK => s_load1 (c := (.sl (List.map int1 b_148.Bins))) agg_23 (d_own rfl (hl_self _ _ _) rfl rfl) rfl (hK _ _ _ ?_)
          clear hK
          refine aopsS_step fun _ hK => s_lenSl elem_23 rfl (fun hl42 => hK _ _ _ ?_)
          clear hK
          refine aopsS_step fun _ hK => s_bin rfl rfl (b_neq (hK _ _ _ ?_))
          clear hK
          refine aopsS_step fun _ hK => s_mv (v := (bool ((List.length b_148.Bins : Int) != 16))) rfl (hK _ _ _ ?_)
          clear hK
          refine aopsS_split rfl _ rfl (fun g45 => ?_) (fun g45 => ?_)
          ·
            replace H0 := iteF H0 (by simpa using g45)
            intro _ hK
            refine s_faOwn (j' := 4) fld_25_4 rfl rfl (isC (hl_self _ _ _)) (hK _ _ _ ?_)
            clear hK
            refine aopsS_on rfl rfl fun _ hK => s_load1 (c := (.sl (List.map int1 b_148.Bins))) agg_23 (d_own rfl (hl_self _ _ _) rfl rfl) rfl (hK _ _ _ ?_)
            clear hK
            obtain ⟨r_152, hr_152, H0⟩ := bindS H0
            refine aopsS_on rfl rfl fun _ hK => s_call (avs := [(int (-1)), (int 7), (.sl (List.map int1 b_148.Bins))]) rfl rfl rfl (PC.call1 (sort_from_PC hr_152) (FreeL.cons (.sc _) (FreeL.cons (.sc _) (FreeL.cons (Free.slm fr_int1) FreeL.nil))) (hK _ _ _ ?_))
            clear hK
            refine aopsS_on rfl rfl fun _ hK => s_not rfl (hK _ _ _ ?_)
            clear hK
            refine aopsS_step fun _ hK => s_pickF (v := (bool (!r_152))) rfl rfl (hK _ _ _ ?_)
            clear hK
            refine aopsS_end (hK39 _ (SatL.norm (n := 4) (h := hl [(0, (some (.cells 5 25 [[(int b_148.Length), (int b_148.Camera), (int b_148.Slow), (.sl (List.map Gate.cells b_148.Gates)), (.sl (List.map int1 b_148.Bins))]])))]) (env' := [(1, (.own 0 0 0)), (44, (bool (!r_152)))]) (L' := [(0, (some (.cells 5 25 [[(int b_148.Length), (int b_148.Camera), (int b_148.Slow), (.sl (List.map Gate.cells b_148.Gates)), (.sl (List.map int1 b_148.Bins))]])))]) rfl hs_refl ?_))
            repeat refine SatL.seq ?_
            refine SatL.condX rfl (fun hc51 => ?_) (fun hc51 => ?_)
            ·
              replace H0 := iteT H0 hc51
              repeat refine SatL.seq ?_
              refine SatL.reg [2] [some 2] rfl rfl fun K52 hK52 => ?_
              refine aopsS_step fun _ hK => s_as (v := (int 90)) rfl (hK _ _ _ ?_)
              clear hK
              refine aopsS_end (hK52 _ (SatL.norm (n := 4) (h := hl [(0, (some (.cells 5 25 [[(int b_148.Length), (int b_148.Camera), (int b_148.Slow), (.sl (List.map Gate.cells b_148.Gates)), (.sl (List.map int1 b_148.Bins))]])))]) (env' := [(2, (int 90))]) (L' := []) rfl hs_nil ?_))
              obtain rfl := Option.some.inj H0
              exact SatL.ret (fnQ_snap (int 90) (int 90) rfl (Snap.free _ (.sc _)) rfl)
            ·
              replace H0 := iteF H0 hc51
              refine SatL.skip ?_
              repeat refine SatL.seq ?_
              refine SatL.reg [1, 3, 4] [some 45, some 46, some 47, some 48, some 3, some 4] rfl rfl fun K54 hK54 => ?_
              refine aopsS_step fun _ hK => s_faOwn (j' := 1) fld_25_1 rfl rfl (isC (hl_self _ _ _)) (hK _ _ _ ?_)
              clear hK
              refine aopsS_step fun _ hK => s_load1 (c := (int b_148.Camera)) agg_3 (d_own rfl (hl_self _ _ _) rfl rfl) rfl (hK _ _ _ ?_)
              clear hK
              refine aopsS_step fun _ hK => s_bin rfl rfl (b_add64 (hK _ _ _ ?_))
              clear hK
              refine aopsS_step fun _ hK => s_mmap (n' := 5) rfl (hK _ _ _ ?_)
              clear hK
              refine aopsS_step fun _ hK => s_as (v := (int (w64 (b_148.Camera + 1)))) rfl (hK _ _ _ ?_)
              clear hK
              refine aopsS_step fun _ hK => s_as (v := (.mp 4)) rfl (hK _ _ _ ?_)
              clear hK
              refine aopsS_end (hK54 _ (SatL.norm (n := 5) (h := hl [(4, (some (.map (List.map (kvE ki bool) ([]))))), (0, (some (.cells 5 25 [[(int b_148.Length), (int b_148.Camera), (int b_148.Slow), (.sl (List.map Gate.cells b_148.Gates)), (.sl (List.map int1 b_148.Bins))]])))]) (env' := [(1, (.own 0 0 0)), (3, (int (w64 (b_148.Camera + 1)))), (4, (.mp 4))]) (L' := [(0, (some (.cells 5 25 [[(int b_148.Length), (int b_148.Camera), (int b_148.Slow), (.sl (List.map Gate.cells b_148.Gates)), (.sl (List.map int1 b_148.Bins))]]))), (4, (some (.map (List.map (kvE ki bool) ([])))))]) rfl (hs_cons (hl_ne (j := 0) (i := 4) (by decide) (hl_self _ _ _)) (hs_cons (hl_self _ _ _) hs_nil)) ?_))
              repeat refine SatL.seq ?_
              refine SatL.reg [1, 3, 4, 50, 51, 52] [some 49, some 50, some 51, some 52] rfl rfl fun K61 hK61 => ?_
              refine aopsS_step fun _ hK => s_faOwn (j' := 3) fld_25_3 rfl rfl (isC (hl_self _ _ _)) (hK _ _ _ ?_)
              clear hK
              refine aopsS_step fun _ hK => s_load1 (c := (.sl (List.map Gate.cells b_148.Gates))) agg_22 (d_own rfl (hl_self _ _ _) rfl rfl) rfl (hK _ _ _ ?_)
              clear hK
              refine aopsS_step fun _ hK => s_lenSl elem_22 rfl (fun hl64 => hK _ _ _ ?_)
              clear hK
              refine aopsS_step fun _ hK => s_mv (v := (int 0)) rfl (hK _ _ _ ?_)
              clear hK
              refine aopsS_end (hK61 _ (SatL.norm (n := 5) (h := hl [(0, (some (.cells 5 25 [[(int b_148.Length), (int b_148.Camera), (int b_148.Slow), (.sl (List.map Gate.cells b_148.Gates)), (.sl (List.map int1 b_148.Bins))]]))), (4, (some (.map (List.map (kvE ki bool) ([])))))]) (env' := [(1, (.own 0 0 0)), (3, (int (w64 (b_148.Camera + 1)))), (4, (.mp 4)), (50, (.sl (List.map Gate.cells b_148.Gates))), (51, (int (List.length b_148.Gates : Int))), (52, (int 0))]) (L' := [(0, (some (.cells 5 25 [[(int b_148.Length), (int b_148.Camera), (int b_148.Slow), (.sl (List.map Gate.cells b_148.Gates)), (.sl (List.map int1 b_148.Bins))]]))), (4, (some (.map (List.map (kvE ki bool) ([])))))]) rfl hs_refl ?_))
              repeat refine SatL.seq ?_
              obtain ⟨o_167, H1, H0⟩ := bindS H0
              refine SatL.mid [] (fun s_ => ∃ (n_166 : Nat), (Sum.inr ()) = o_167 ∧ StLe s_ [] [] n_166) ?_ ?_
              ·
                repeat refine SatL.seq ?_
                refine SatL.block ?_
                repeat refine SatL.seq ?_
                refine SatL.loopK [1, 3, 4, 50, 51, 52] (fun k0 s_ => ∃ (least_171 : Int) (bins_172 : (List (Int × Bool))) (x_173 : Int) (n_174 : Nat), StLe s_ [(1, (.own 0 0 0)), (3, (int least_171)), (4, (.mp 4)), (50, (.sl (List.map Gate.cells b_148.Gates))), (51, (int (List.length b_148.Gates : Int))), (52, (int x_173))] [(0, (some (.cells 5 25 [[(int b_148.Length), (int b_148.Camera), (int b_148.Slow), (.sl (List.map Gate.cells b_148.Gates)), (.sl (List.map int1 b_148.Bins))]]))), (4, (some (.map (List.map (kvE ki bool) bins_172))))] n_174 ∧ 0 < n_174 ∧ 4 < n_174 ∧ 0 ≤ x_173 ∧ k0 = Int.toNat ((List.length b_148.Gates : Int) - x_173) ∧ sort_CheckBelt_L0 b_148 k0 least_171 bins_172 x_173 = some o_167) (Int.toNat ((List.length b_148.Gates : Int) - 0)) ?_ ?_
                · exact ⟨(w64 (b_148.Camera + 1)), [], 0, 5, (StLe.of [(0, (some (.cells 5 25 [[(int b_148.Length), (int b_148.Camera), (int b_148.Slow), (.sl (List.map Gate.cells b_148.Gates)), (.sl (List.map int1 b_148.Bins))]]))), (4, (some (.map (List.map (kvE ki bool) ([])))))] 5 rfl (hs_cons (hl_self _ _ _) (hs_cons (hl_ne (j := 4) (i := 0) (by decide) (hl_self _ _ _)) hs_nil)) (Nat.le_refl _)), (by omega), (by omega), (by omega), rfl, H1⟩
                rintro k0 s_ ⟨least_171, bins_172, x_173, n_174, hs_, _, _, _, hk_, H1⟩
                refine SatL.le hs_ ?_
                clear hs_
                rcases k0 with _ | k0
                ·
                  rw [sort_CheckBelt_L0.eq_1] at H1
                  repeat refine SatL.seq ?_
                  refine SatL.reg [1, 3, 4, 50, 51, 52, 53] [some 53] rfl rfl fun K351 hK351 => ?_
                  refine aopsS_step fun _ hK => s_bin rfl rfl (b_lss (hK _ _ _ ?_))
                  clear hK
                  refine aopsS_end (hK351 _ (SatL.norm (n := n_174) (h := hl [(0, (some (.cells 5 25 [[(int b_148.Length), (int b_148.Camera), (int b_148.Slow), (.sl (List.map Gate.cells b_148.Gates)), (.sl (List.map int1 b_148.Bins))]]))), (4, (some (.map (List.map (kvE ki bool) bins_172))))]) (env' := [(1, (.own 0 0 0)), (3, (int least_171)), (4, (.mp 4)), (50, (.sl (List.map Gate.cells b_148.Gates))), (51, (int (List.length b_148.Gates : Int))), (52, (int x_173)), (53, (bool (decide (x_173 < (List.length b_148.Gates : Int)))))]) (L' := [(0, (some (.cells 5 25 [[(int b_148.Length), (int b_148.Camera), (int b_148.Slow), (.sl (List.map Gate.cells b_148.Gates)), (.sl (List.map int1 b_148.Bins))]]))), (4, (some (.map (List.map (kvE ki bool) bins_172))))]) rfl hs_refl ?_))
                  repeat refine SatL.seq ?_
                  refine SatL.condF rfl (decide_eq_false (by omega)) ?_
                  refine SatL.exit ?_
                  simp only [thenQ, blockQ, if_true, reduceIte, Nat.reduceEqDiff]
                  obtain rfl := Option.some.inj H1
                  exact SatL.nil (thenN ⟨n_174, rfl, (StLe.of [(0, (some (.cells 5 25 [[(int b_148.Length), (int b_148.Camera), (int b_148.Slow), (.sl (List.map Gate.cells b_148.Gates)), (.sl (List.map int1 b_148.Bins))]]))), (4, (some (.map (List.map (kvE ki bool) bins_172))))] n_174 rfl hs_nil (Nat.le_refl _))⟩)
                ·
                  rw [sort_CheckBelt_L0.eq_2] at H1
                  repeat refine SatL.seq ?_
                  refine SatL.reg [1, 3, 4, 50, 51, 52, 53] [some 53] rfl rfl fun K353 hK353 => ?_
                  refine aopsS_step fun _ hK => s_bin rfl rfl (b_lss (hK _ _ _ ?_))
                  clear hK
                  refine aopsS_end (hK353 _ (SatL.norm (n := n_174) (h := hl [(0, (some (.cells 5 25 [[(int b_148.Length), (int b_148.Camera), (int b_148.Slow), (.sl (List.map Gate.cells b_148.Gates)), (.sl (List.map int1 b_148.Bins))]]))), (4, (some (.map (List.map (kvE ki bool) bins_172))))]) (env' := [(1, (.own 0 0 0)), (3, (int least_171)), (4, (.mp 4)), (50, (.sl (List.map Gate.cells b_148.Gates))), (51, (int (List.length b_148.Gates : Int))), (52, (int x_173)), (53, (bool (decide (x_173 < (List.length b_148.Gates : Int)))))]) (L' := [(0, (some (.cells 5 25 [[(int b_148.Length), (int b_148.Camera), (int b_148.Slow), (.sl (List.map Gate.cells b_148.Gates)), (.sl (List.map int1 b_148.Bins))]]))), (4, (some (.map (List.map (kvE ki bool) bins_172))))]) rfl hs_refl ?_))
                  repeat refine SatL.seq ?_
                  refine SatL.condT rfl (decide_eq_true (by omega)) ?_
                  have hlt355 : (x_173 < (List.length b_148.Gates : Int)) := by omega
                  refine SatL.skip ?_
                  repeat refine SatL.seq ?_
                  refine SatL.block ?_
                  repeat refine SatL.seq ?_
                  refine SatL.reg [1, 3, 4, 6, 50, 51, 52] [some 54, some 55, some 6, none] rfl rfl fun K356 hK356 => ?_
                  obtain ⟨e_178, he_178, H1⟩ := bindS H1
                  refine aopsS_step fun _ hK => s_ixSl elem_22 rfl rfl he_178 cells_89 rfl (by decide) (hK _ _ _ ?_)
                  clear hK
                  refine aopsS_step fun _ hK => s_loadA (cs' := [(int e_178.At), (int e_178.Bin)]) agg_89 cells_89 (d_fp rfl) (Nat.le_of_ble_eq_true rfl) rfl (hK _ _ _ ?_)
                  clear hK
                  refine aopsS_step fun _ hK => s_alloc (m := 2) (n' := (n_174 + 1)) zero_89 rfl rfl (hK _ _ _ ?_)
                  clear hK
                  refine aopsS_step0 fun _ hK => s_store (E := [[(int e_178.At), (int e_178.Bin)]]) rfl (hl_self _ _ _) rfl rfl cells_89 rfl (by decide) (Nat.le_of_ble_eq_true rfl) rfl (hu_self _ _ _ _) (hK _ _ _ ?_)
                  clear hK
                  refine aopsS_end (hK356 _ (SatL.norm (n := (n_174 + 1)) (h := hl [(n_174, (some (.cells 2 89 [[(int e_178.At), (int e_178.Bin)]]))), (0, (some (.cells 5 25 [[(int b_148.Length), (int b_148.Camera), (int b_148.Slow), (.sl (List.map Gate.cells b_148.Gates)), (.sl (List.map int1 b_148.Bins))]]))), (4, (some (.map (List.map (kvE ki bool) bins_172))))]) (env' := [(1, (.own 0 0 0)), (3, (int least_171)), (4, (.mp 4)), (6, (.own n_174 0 0)), (50, (.sl (List.map Gate.cells b_148.Gates))), (51, (int (List.length b_148.Gates : Int))), (52, (int x_173))]) (L' := [(0, (some (.cells 5 25 [[(int b_148.Length), (int b_148.Camera), (int b_148.Slow), (.sl (List.map Gate.cells b_148.Gates)), (.sl (List.map int1 b_148.Bins))]]))), (4, (some (.map (List.map (kvE ki bool) bins_172)))), (n_174, (some (.cells 2 89 [[(int e_178.At), (int e_178.Bin)]])))]) rfl (hs_cons (hl_ne (j := 0) (i := n_174) (by omega) (hl_self _ _ _)) (hs_cons (hl_ne (j := 4) (i := n_174) (by omega) (hl_ne (j := 4) (i := 0) (by decide) (hl_self _ _ _))) (hs_cons (hl_self _ _ _) hs_nil))) ?_))
                  repeat refine SatL.seq ?_
                  refine SatL.reg [1, 4, 6, 50, 51, 52, 77] [some 56, some 57, some 58, some 59, some 60, some 61, some 62, some 63, some 64, some 65, some 66, some 67, some 68, some 69, some 70, some 71, some 72, some 73, some 74, some 75, some 76, some 77] rfl rfl fun K361 hK361 => ?_
                  refine aopsS_step fun _ hK => s_mv (v := (int least_171)) rfl (hK _ _ _ ?_)
                  clear hK
                  refine aopsS_step fun _ hK => s_faOwn (j' := 0) fld_25_0 rfl rfl (isC (hl_self _ _ _)) (hK _ _ _ ?_)
                  clear hK
                  refine aopsS_step fun _ hK => s_load1 (c := (int b_148.Length)) agg_3 (d_own rfl (hl_self _ _ _) rfl rfl) rfl (hK _ _ _ ?_)
                  clear hK
                  refine aopsS_step fun _ hK => s_bin rfl rfl (b_sub64 (hK _ _ _ ?_))
                  clear hK
                  refine aopsS_step fun _ hK => s_faOwn (j' := 0) fld_89_0 rfl rfl (isC (hl_ne (j := n_174) (i := 0) (by omega) (hl_ne (j := n_174) (i := 4) (by omega) (hl_self _ _ _)))) (hK _ _ _ ?_)
                  clear hK
                  refine aopsS_step fun _ hK => s_load1 (c := (int e_178.At)) agg_3 (d_own rfl (hl_ne (j := n_174) (i := 0) (by omega) (hl_ne (j := n_174) (i := 4) (by omega) (hl_self _ _ _))) rfl rfl) rfl (hK _ _ _ ?_)
                  clear hK
                  refine aopsS_step fun _ hK => s_bsl (es := [[(int e_178.At)]]) (n' := (n_174 + 2)) elem_23 zero_3 rfl (by decide) (by decide) rfl rfl (hK _ _ _ ?_)
                  clear hK
                  obtain ⟨r_179, hr_179, H1⟩ := bindS H1
                  refine aopsS_step fun _ hK => s_call (avs := [(int least_171), (int (w64 (b_148.Length - 1))), (.ms (n_174 + 1) 0 1)]) rfl rfl rfl (PC.lend1 (args' := [(int least_171), (int (w64 (b_148.Length - 1))), (.sl (List.map int1 [e_178.At]))]) (SnapL.cons (Snap.free _ (.sc _)) (SnapL.cons (Snap.free _ (.sc _)) (SnapL.cons (Snap.msW (f := int1) (l := [e_178.At]) (hl_self _ _ _) rfl fr_int1) SnapL.nil))) (sort_from_PC hr_179) (.sc _) (hK _ _ _ ?_))
                  clear hK
                  refine aopsS_step fun _ hK => s_not rfl (hK _ _ _ ?_)
                  clear hK
                  refine aopsS_step fun _ hK => s_mv (v := (bool (!r_179))) rfl (hK _ _ _ ?_)
                  clear hK
                  refine aopsS_split rfl _ rfl (fun g372 => ?_) (fun g372 => ?_)
                  ·
                    replace H1 := iteF H1 (by simpa using g372)
                    intro _ hK
                    refine s_faOwn (j' := 1) fld_89_1 rfl rfl (isC (hl_ne (j := n_174) (i := (n_174 + 1)) (by omega) (hl_ne (j := n_174) (i := 0) (by omega) (hl_ne (j := n_174) (i := 4) (by omega) (hl_self _ _ _))))) (hK _ _ _ ?_)
                    clear hK
                    refine aopsS_on rfl rfl fun _ hK => s_load1 (c := (int e_178.Bin)) agg_3 (d_own rfl (hl_ne (j := n_174) (i := (n_174 + 1)) (by omega) (hl_ne (j := n_174) (i := 0) (by omega) (hl_ne (j := n_174) (i := 4) (by omega) (hl_self _ _ _)))) rfl rfl) rfl (hK _ _ _ ?_)
                    clear hK
                    refine aopsS_on rfl rfl fun _ hK => s_bsl (es := [[(int e_178.Bin)]]) (n' := (n_174 + 3)) elem_23 zero_3 rfl (by decide) (by decide) rfl rfl (hK _ _ _ ?_)
                    clear hK
                    obtain ⟨r_180, hr_180, H1⟩ := bindS H1
                    refine aopsS_on rfl rfl fun _ hK => s_call (avs := [(int 0), (int 7), (.ms (n_174 + 2) 0 1)]) rfl rfl rfl (PC.lend1 (args' := [(int 0), (int 7), (.sl (List.map int1 [e_178.Bin]))]) (SnapL.cons (Snap.free _ (.sc _)) (SnapL.cons (Snap.free _ (.sc _)) (SnapL.cons (Snap.msW (f := int1) (l := [e_178.Bin]) (hl_self _ _ _) rfl fr_int1) SnapL.nil))) (sort_from_PC hr_180) (.sc _) (hK _ _ _ ?_))
                    clear hK
                    refine aopsS_on rfl rfl fun _ hK => s_not rfl (hK _ _ _ ?_)
                    clear hK
                    refine aopsS_step fun _ hK => s_pickF (v := (bool (!r_180))) rfl rfl (hK _ _ _ ?_)
                    clear hK
                    refine aopsS_step fun _ hK => s_mv (v := (bool (!r_180))) rfl (hK _ _ _ ?_)
                    clear hK
                    refine aopsS_split rfl _ rfl (fun g380 => ?_) (fun g380 => ?_)
                    ·
                      replace H1 := iteF H1 (by simpa using g380)
                      intro _ hK
                      refine s_mv (v := (.mp 4)) rfl (hK _ _ _ ?_)
                      clear hK
                      refine aopsS_on rfl rfl fun _ hK => s_faOwn (j' := 1) fld_89_1 rfl rfl (isC (hl_ne (j := n_174) (i := (n_174 + 2)) (by omega) (hl_ne (j := n_174) (i := (n_174 + 1)) (by omega) (hl_ne (j := n_174) (i := 0) (by omega) (hl_ne (j := n_174) (i := 4) (by omega) (hl_self _ _ _)))))) (hK _ _ _ ?_)
                      clear hK
                      refine aopsS_on rfl rfl fun _ hK => s_load1 (c := (int e_178.Bin)) agg_3 (d_own rfl (hl_ne (j := n_174) (i := (n_174 + 2)) (by omega) (hl_ne (j := n_174) (i := (n_174 + 1)) (by omega) (hl_ne (j := n_174) (i := 0) (by omega) (hl_ne (j := n_174) (i := 4) (by omega) (hl_self _ _ _))))) rfl rfl) rfl (hK _ _ _ ?_)
                      clear hK
                      refine aopsS_on rfl rfl fun _ hK => s_lk (kf := ki) (vf := bool) (z0 := false) map_95 zv_4 rfl kb_int (fun _ => int_3) rfl rfl (hl_ne (j := 4) (i := (n_174 + 2)) (by omega) (hl_ne (j := 4) (i := (n_174 + 1)) (by omega) (hl_ne (j := 4) (i := 0) (by decide) (hl_self _ _ _)))) (hK _ _ _ ?_)
                      clear hK
                      refine aopsS_step fun _ hK => s_pickF (v := (bool (((mget bins_172 e_178.Bin)).getD false))) rfl rfl (hK _ _ _ ?_)
                      clear hK
                      refine aopsS_end (hK361 _ (SatL.norm (n := (n_174 + 3)) (h := hl [((n_174 + 2), (some (.cells 1 3 [[(int e_178.Bin)]]))), ((n_174 + 1), (some (.cells 1 3 [[(int e_178.At)]]))), (0, (some (.cells 5 25 [[(int b_148.Length), (int b_148.Camera), (int b_148.Slow), (.sl (List.map Gate.cells b_148.Gates)), (.sl (List.map int1 b_148.Bins))]]))), (4, (some (.map (List.map (kvE ki bool) bins_172)))), (n_174, (some (.cells 2 89 [[(int e_178.At), (int e_178.Bin)]])))]) (env' := [(1, (.own 0 0 0)), (4, (.mp 4)), (6, (.own n_174 0 0)), (50, (.sl (List.map Gate.cells b_148.Gates))), (51, (int (List.length b_148.Gates : Int))), (52, (int x_173)), (77, (bool (((mget bins_172 e_178.Bin)).getD false)))]) (L' := [(0, (some (.cells 5 25 [[(int b_148.Length), (int b_148.Camera), (int b_148.Slow), (.sl (List.map Gate.cells b_148.Gates)), (.sl (List.map int1 b_148.Bins))]]))), (4, (some (.map (List.map (kvE ki bool) bins_172)))), (n_174, (some (.cells 2 89 [[(int e_178.At), (int e_178.Bin)]])))]) rfl (hs_cons (hl_ne (j := 0) (i := (n_174 + 2)) (by omega) (hl_ne (j := 0) (i := (n_174 + 1)) (by omega) (hl_self _ _ _))) (hs_cons (hl_ne (j := 4) (i := (n_174 + 2)) (by omega) (hl_ne (j := 4) (i := (n_174 + 1)) (by omega) (hl_ne (j := 4) (i := 0) (by decide) (hl_self _ _ _)))) (hs_cons (hl_ne (j := n_174) (i := (n_174 + 2)) (by omega) (hl_ne (j := n_174) (i := (n_174 + 1)) (by omega) (hl_ne (j := n_174) (i := 0) (by omega) (hl_ne (j := n_174) (i := 4) (by omega) (hl_self _ _ _))))) hs_nil))) ?_))
                      repeat refine SatL.seq ?_
                      refine SatL.condX rfl (fun hc386 => ?_) (fun hc386 => ?_)
                      ·
                        replace H1 := iteT H1 hc386
                        repeat refine SatL.seq ?_
                        refine SatL.reg [2] [some 2] rfl rfl fun K387 hK387 => ?_
                        refine aopsS_step fun _ hK => s_as (v := (int 90)) rfl (hK _ _ _ ?_)
                        clear hK
                        refine aopsS_end (hK387 _ (SatL.norm (n := (n_174 + 3)) (h := hl [(0, (some (.cells 5 25 [[(int b_148.Length), (int b_148.Camera), (int b_148.Slow), (.sl (List.map Gate.cells b_148.Gates)), (.sl (List.map int1 b_148.Bins))]]))), (4, (some (.map (List.map (kvE ki bool) bins_172)))), (n_174, (some (.cells 2 89 [[(int e_178.At), (int e_178.Bin)]])))]) (env' := [(2, (int 90))]) (L' := []) rfl hs_nil ?_))
                        obtain rfl := Option.some.inj H1
                        obtain rfl := Option.some.inj H0
                        exact SatL.ret (fnQ_snap (int 90) (int 90) rfl (Snap.free _ (.sc _)) rfl)
                      ·
                        replace H1 := iteF H1 hc386
                        refine SatL.skip ?_
                        repeat refine SatL.seq ?_
                        refine SatL.reg [1, 3, 4, 6, 50, 51, 52] [some 78, some 79, some 80, some 3] rfl rfl fun K389 hK389 => ?_
                        refine aopsS_step fun _ hK => s_faOwn (j' := 0) fld_89_0 rfl rfl (isC (hl_ne (j := n_174) (i := 0) (by omega) (hl_ne (j := n_174) (i := 4) (by omega) (hl_self _ _ _)))) (hK _ _ _ ?_)
                        clear hK
                        refine aopsS_step fun _ hK => s_load1 (c := (int e_178.At)) agg_3 (d_own rfl (hl_ne (j := n_174) (i := 0) (by omega) (hl_ne (j := n_174) (i := 4) (by omega) (hl_self _ _ _))) rfl rfl) rfl (hK _ _ _ ?_)
                        clear hK
                        refine aopsS_step fun _ hK => s_bin rfl rfl (b_add64 (hK _ _ _ ?_))
                        clear hK
                        refine aopsS_step fun _ hK => s_as (v := (int (w64 (e_178.At + 1)))) rfl (hK _ _ _ ?_)
                        clear hK
                        refine aopsS_end (hK389 _ (SatL.norm (n := (n_174 + 3)) (h := hl [(0, (some (.cells 5 25 [[(int b_148.Length), (int b_148.Camera), (int b_148.Slow), (.sl (List.map Gate.cells b_148.Gates)), (.sl (List.map int1 b_148.Bins))]]))), (4, (some (.map (List.map (kvE ki bool) bins_172)))), (n_174, (some (.cells 2 89 [[(int e_178.At), (int e_178.Bin)]])))]) (env' := [(1, (.own 0 0 0)), (3, (int (w64 (e_178.At + 1)))), (4, (.mp 4)), (6, (.own n_174 0 0)), (50, (.sl (List.map Gate.cells b_148.Gates))), (51, (int (List.length b_148.Gates : Int))), (52, (int x_173))]) (L' := [(0, (some (.cells 5 25 [[(int b_148.Length), (int b_148.Camera), (int b_148.Slow), (.sl (List.map Gate.cells b_148.Gates)), (.sl (List.map int1 b_148.Bins))]]))), (4, (some (.map (List.map (kvE ki bool) bins_172)))), (n_174, (some (.cells 2 89 [[(int e_178.At), (int e_178.Bin)]])))]) rfl hs_refl ?_))
                        repeat refine SatL.seq ?_
                        refine SatL.rege [some 81, some 82, some 83, none] rfl rfl fun K394 hK394 => ?_
                        refine aopsS_step fun _ hK => s_mv (v := (.mp 4)) rfl (hK _ _ _ ?_)
                        clear hK
                        refine aopsS_step fun _ hK => s_faOwn (j' := 1) fld_89_1 rfl rfl (isC (hl_ne (j := n_174) (i := 0) (by omega) (hl_ne (j := n_174) (i := 4) (by omega) (hl_self _ _ _)))) (hK _ _ _ ?_)
                        clear hK
                        refine aopsS_step fun _ hK => s_load1 (c := (int e_178.Bin)) agg_3 (d_own rfl (hl_ne (j := n_174) (i := 0) (by omega) (hl_ne (j := n_174) (i := 4) (by omega) (hl_self _ _ _))) rfl rfl) rfl (hK _ _ _ ?_)
                        clear hK
                        refine aopsS_step0 fun _ hK => s_mu (kf := ki) (vf := bool) map_95 kb_int (fun _ => int_3) rfl rfl rfl rfl (hl_ne (j := 4) (i := 0) (by decide) (hl_self _ _ _)) (hu_ne (j := 4) (i := 0) (by decide) (hu_self _ _ _ _)) (hK _ _ _ ?_)
                        clear hK
                        refine aopsS_end (hK394 _ ?_)
                        refine (blockN (thenN ?_))
                        refine SatL.forget [1, 3, 4, 50, 51, 52] (SatL.norm (n := (n_174 + 3)) (h := hl [(0, (some (.cells 5 25 [[(int b_148.Length), (int b_148.Camera), (int b_148.Slow), (.sl (List.map Gate.cells b_148.Gates)), (.sl (List.map int1 b_148.Bins))]]))), (4, (some (.map (List.map (kvE ki bool) (mput bins_172 e_178.Bin true))))), (n_174, (some (.cells 2 89 [[(int e_178.At), (int e_178.Bin)]])))]) (env' := [(1, (.own 0 0 0)), (3, (int (w64 (e_178.At + 1)))), (4, (.mp 4)), (50, (.sl (List.map Gate.cells b_148.Gates))), (51, (int (List.length b_148.Gates : Int))), (52, (int x_173))]) (L' := [(0, (some (.cells 5 25 [[(int b_148.Length), (int b_148.Camera), (int b_148.Slow), (.sl (List.map Gate.cells b_148.Gates)), (.sl (List.map int1 b_148.Bins))]]))), (4, (some (.map (List.map (kvE ki bool) (mput bins_172 e_178.Bin true)))))]) rfl (hs_cons (hl_self _ _ _) (hs_cons (hl_ne (j := 4) (i := 0) (by decide) (hl_self _ _ _)) hs_nil)) ?_)
                        repeat refine SatL.seq ?_
                        refine SatL.rege [some 84, some 52] rfl rfl fun K399 hK399 => ?_
                        refine aopsS_step fun _ hK => s_bin rfl rfl (b_add64 (hK _ _ _ ?_))
                        clear hK
                        refine aopsS_step fun _ hK => s_mv (v := (int (w64 (x_173 + 1)))) rfl (hK _ _ _ ?_)
                        clear hK
                        refine aopsS_end (hK399 _ ?_)
                        have hw402 : w64 (x_173 + 1) = x_173 + 1 := w64_id (by omega) (by omega)
                        exact (thenN ⟨k0, ⟨(w64 (e_178.At + 1)), (mput bins_172 e_178.Bin true), (w64 (x_173 + 1)), (n_174 + 3), (StLe.of [(0, (some (.cells 5 25 [[(int b_148.Length), (int b_148.Camera), (int b_148.Slow), (.sl (List.map Gate.cells b_148.Gates)), (.sl (List.map int1 b_148.Bins))]]))), (4, (some (.map (List.map (kvE ki bool) (mput bins_172 e_178.Bin true)))))] (n_174 + 3) rfl (hs_cons (hl_self _ _ _) (hs_cons (hl_ne (j := 4) (i := 0) (by decide) (hl_self _ _ _)) hs_nil)) (Nat.le_refl _)), (by omega), (by omega), (by omega), (by rw [hw402]; omega), (Eq.mpr (congrArg (fun q_ => sort_CheckBelt_L0 b_148 k0 ((w64 (e_178.At + 1))) ((mput bins_172 e_178.Bin true)) q_ = some o_167) hw402) H1)⟩, by omega⟩)
                    ·
                      replace H1 := iteT H1 (by simpa using g380)
                      refine aopsS_off rfl rfl ?_
                      refine aopsS_off rfl rfl ?_
                      refine aopsS_off rfl rfl ?_
                      refine aopsS_step fun _ hK => s_pickT (v := (bool true)) rfl rfl (hK _ _ _ ?_)
                      clear hK
                      refine aopsS_end (hK361 _ (SatL.norm (n := (n_174 + 3)) (h := hl [((n_174 + 2), (some (.cells 1 3 [[(int e_178.Bin)]]))), ((n_174 + 1), (some (.cells 1 3 [[(int e_178.At)]]))), (0, (some (.cells 5 25 [[(int b_148.Length), (int b_148.Camera), (int b_148.Slow), (.sl (List.map Gate.cells b_148.Gates)), (.sl (List.map int1 b_148.Bins))]]))), (4, (some (.map (List.map (kvE ki bool) bins_172)))), (n_174, (some (.cells 2 89 [[(int e_178.At), (int e_178.Bin)]])))]) (env' := [(1, (.own 0 0 0)), (4, (.mp 4)), (6, (.own n_174 0 0)), (50, (.sl (List.map Gate.cells b_148.Gates))), (51, (int (List.length b_148.Gates : Int))), (52, (int x_173)), (77, (bool true))]) (L' := [(0, (some (.cells 5 25 [[(int b_148.Length), (int b_148.Camera), (int b_148.Slow), (.sl (List.map Gate.cells b_148.Gates)), (.sl (List.map int1 b_148.Bins))]]))), (4, (some (.map (List.map (kvE ki bool) bins_172)))), (n_174, (some (.cells 2 89 [[(int e_178.At), (int e_178.Bin)]])))]) rfl (hs_cons (hl_ne (j := 0) (i := (n_174 + 2)) (by omega) (hl_ne (j := 0) (i := (n_174 + 1)) (by omega) (hl_self _ _ _))) (hs_cons (hl_ne (j := 4) (i := (n_174 + 2)) (by omega) (hl_ne (j := 4) (i := (n_174 + 1)) (by omega) (hl_ne (j := 4) (i := 0) (by decide) (hl_self _ _ _)))) (hs_cons (hl_ne (j := n_174) (i := (n_174 + 2)) (by omega) (hl_ne (j := n_174) (i := (n_174 + 1)) (by omega) (hl_ne (j := n_174) (i := 0) (by omega) (hl_ne (j := n_174) (i := 4) (by omega) (hl_self _ _ _))))) hs_nil))) ?_))
                      repeat refine SatL.seq ?_
                      refine SatL.condT rfl rfl ?_
                      repeat refine SatL.seq ?_
                      refine SatL.reg [2] [some 2] rfl rfl fun K404 hK404 => ?_
                      refine aopsS_step fun _ hK => s_as (v := (int 90)) rfl (hK _ _ _ ?_)
                      clear hK
                      refine aopsS_end (hK404 _ (SatL.norm (n := (n_174 + 3)) (h := hl [(0, (some (.cells 5 25 [[(int b_148.Length), (int b_148.Camera), (int b_148.Slow), (.sl (List.map Gate.cells b_148.Gates)), (.sl (List.map int1 b_148.Bins))]]))), (4, (some (.map (List.map (kvE ki bool) bins_172)))), (n_174, (some (.cells 2 89 [[(int e_178.At), (int e_178.Bin)]])))]) (env' := [(2, (int 90))]) (L' := []) rfl hs_nil ?_))
                      obtain rfl := Option.some.inj H1
                      obtain rfl := Option.some.inj H0
                      exact SatL.ret (fnQ_snap (int 90) (int 90) rfl (Snap.free _ (.sc _)) rfl)
                  ·
                    replace H1 := iteT H1 (by simpa using g372)
                    refine aopsS_off rfl rfl ?_
                    refine aopsS_off rfl rfl ?_
                    refine aopsS_off rfl rfl ?_
                    refine aopsS_off rfl rfl ?_
                    refine aopsS_step fun _ hK => s_pickT (v := (bool true)) rfl rfl (hK _ _ _ ?_)
                    clear hK
                    refine aopsS_step fun _ hK => s_mv (v := (bool true)) rfl (hK _ _ _ ?_)
                    clear hK
                    refine aopsS_off rfl rfl ?_
                    refine aopsS_off rfl rfl ?_
                    refine aopsS_off rfl rfl ?_
                    refine aopsS_off rfl rfl ?_
                    refine aopsS_step fun _ hK => s_pickT (v := (bool true)) rfl rfl (hK _ _ _ ?_)
                    clear hK
                    refine aopsS_end (hK361 _ (SatL.norm (n := (n_174 + 2)) (h := hl [((n_174 + 1), (some (.cells 1 3 [[(int e_178.At)]]))), (0, (some (.cells 5 25 [[(int b_148.Length), (int b_148.Camera), (int b_148.Slow), (.sl (List.map Gate.cells b_148.Gates)), (.sl (List.map int1 b_148.Bins))]]))), (4, (some (.map (List.map (kvE ki bool) bins_172)))), (n_174, (some (.cells 2 89 [[(int e_178.At), (int e_178.Bin)]])))]) (env' := [(1, (.own 0 0 0)), (4, (.mp 4)), (6, (.own n_174 0 0)), (50, (.sl (List.map Gate.cells b_148.Gates))), (51, (int (List.length b_148.Gates : Int))), (52, (int x_173)), (77, (bool true))]) (L' := [(0, (some (.cells 5 25 [[(int b_148.Length), (int b_148.Camera), (int b_148.Slow), (.sl (List.map Gate.cells b_148.Gates)), (.sl (List.map int1 b_148.Bins))]]))), (4, (some (.map (List.map (kvE ki bool) bins_172)))), (n_174, (some (.cells 2 89 [[(int e_178.At), (int e_178.Bin)]])))]) rfl (hs_cons (hl_ne (j := 0) (i := (n_174 + 1)) (by omega) (hl_self _ _ _)) (hs_cons (hl_ne (j := 4) (i := (n_174 + 1)) (by omega) (hl_ne (j := 4) (i := 0) (by decide) (hl_self _ _ _))) (hs_cons (hl_ne (j := n_174) (i := (n_174 + 1)) (by omega) (hl_ne (j := n_174) (i := 0) (by omega) (hl_ne (j := n_174) (i := 4) (by omega) (hl_self _ _ _)))) hs_nil))) ?_))
                    repeat refine SatL.seq ?_
                    refine SatL.condT rfl rfl ?_
                    repeat refine SatL.seq ?_
                    refine SatL.reg [2] [some 2] rfl rfl fun K409 hK409 => ?_
                    refine aopsS_step fun _ hK => s_as (v := (int 90)) rfl (hK _ _ _ ?_)
                    clear hK
                    refine aopsS_end (hK409 _ (SatL.norm (n := (n_174 + 2)) (h := hl [(0, (some (.cells 5 25 [[(int b_148.Length), (int b_148.Camera), (int b_148.Slow), (.sl (List.map Gate.cells b_148.Gates)), (.sl (List.map int1 b_148.Bins))]]))), (4, (some (.map (List.map (kvE ki bool) bins_172)))), (n_174, (some (.cells 2 89 [[(int e_178.At), (int e_178.Bin)]])))]) (env' := [(2, (int 90))]) (L' := []) rfl hs_nil ?_))
                    obtain rfl := Option.some.inj H1
                    obtain rfl := Option.some.inj H0
                    exact SatL.ret (fnQ_snap (int 90) (int 90) rfl (Snap.free _ (.sc _)) rfl)
              ·
                rintro s_ ⟨n_166, rfl, hs_⟩
                refine SatL.le hs_ ?_
                clear hs_
                replace H0 := sumun0S H0
                repeat refine SatL.seq ?_
                refine SatL.reg [2] [some 2] rfl rfl fun K411 hK411 => ?_
                refine aopsS_step fun _ hK => s_as (v := (int 0)) rfl (hK _ _ _ ?_)
                clear hK
                refine aopsS_end (hK411 _ (SatL.norm (n := n_166) (h := hl []) (env' := [(2, (int 0))]) (L' := []) rfl hs_refl ?_))
                obtain rfl := Option.some.inj H0
                exact SatL.ret (fnQ_snap (int 0) (int 0) rfl (Snap.free _ (.sc _)) rfl)
          ·
            replace H0 := iteT H0 (by simpa using g45)
            refine aopsS_off rfl rfl ?_
            refine aopsS_off rfl rfl ?_
            refine aopsS_off rfl rfl ?_
            refine aopsS_step fun _ hK => s_pickT (v := (bool true)) rfl rfl (hK _ _ _ ?_)
            clear hK
            refine aopsS_end (hK39 _ (SatL.norm (n := 4) (h := hl [(0, (some (.cells 5 25 [[(int b_148.Length), (int b_148.Camera), (int b_148.Slow), (.sl (List.map Gate.cells b_148.Gates)), (.sl (List.map int1 b_148.Bins))]])))]) (env' := [(1, (.own 0 0 0)), (44, (bool true))]) (L' := [(0, (some (.cells 5 25 [[(int b_148.Length), (int b_148.Camera), (int b_148.Slow), (.sl (List.map Gate.cells b_148.Gates)), (.sl (List.map int1 b_148.Bins))]])))]) rfl hs_refl ?_))
            repeat refine SatL.seq ?_
            refine SatL.condT rfl rfl ?_
            repeat refine SatL.seq ?_
            refine SatL.reg [2] [some 2] rfl rfl fun K414 hK414 => ?_
            refine aopsS_step fun _ hK => s_as (v := (int 90)) rfl (hK _ _ _ ?_)
            clear hK
            refine aopsS_end (hK414 _ (SatL.norm (n := 4) (h := hl [(0, (some (.cells 5 25 [[(int b_148.Length), (int b_148.Camera), (int b_148.Slow), (.sl (List.map Gate.cells b_148.Gates)), (.sl (List.map int1 b_148.Bins))]])))]) (env' := [(2, (int 90))]) (L' := []) rfl hs_nil ?_))
            obtain rfl := Option.some.inj H0
            exact SatL.ret (fnQ_snap (int 90) (int 90) rfl (Snap.free _ (.sc _)) rfl)
      ·
        replace H0 := iteT H0 (by simpa using g30)
        refine aopsS_off rfl rfl ?_
        refine aopsS_off rfl rfl ?_
        refine aopsS_off rfl rfl ?_
        refine aopsS_step fun _ hK => s_pickT (v := (bool true)) rfl rfl (hK _ _ _ ?_)
        clear hK
        refine aopsS_end (hK4 _ (SatL.norm (n := 4) (h := hl [(3, (some (.cells 1 3 [[(int b_148.Slow)]]))), (2, (some (.cells 1 3 [[(int b_148.Camera)]]))), (1, (some (.cells 1 3 [[(int b_148.Length)]]))), (0, (some (.cells 5 25 [[(int b_148.Length), (int b_148.Camera), (int b_148.Slow), (.sl (List.map Gate.cells b_148.Gates)), (.sl (List.map int1 b_148.Bins))]])))]) (env' := [(1, (.own 0 0 0)), (34, (bool true))]) (L' := [(0, (some (.cells 5 25 [[(int b_148.Length), (int b_148.Camera), (int b_148.Slow), (.sl (List.map Gate.cells b_148.Gates)), (.sl (List.map int1 b_148.Bins))]])))]) rfl (hs_cons (hl_ne (j := 0) (i := 3) (by decide) (hl_ne (j := 0) (i := 2) (by decide) (hl_ne (j := 0) (i := 1) (by decide) (hl_self _ _ _)))) hs_nil) ?_))
        repeat refine SatL.seq ?_
        refine SatL.condT rfl rfl ?_
        repeat refine SatL.seq ?_
        refine SatL.reg [2] [some 2] rfl rfl fun K417 hK417 => ?_
        refine aopsS_step fun _ hK => s_as (v := (int 90)) rfl (hK _ _ _ ?_)
        clear hK
        refine aopsS_end (hK417 _ (SatL.norm (n := 4) (h := hl [(0, (some (.cells 5 25 [[(int b_148.Length), (int b_148.Camera), (int b_148.Slow), (.sl (List.map Gate.cells b_148.Gates)), (.sl (List.map int1 b_148.Bins))]])))]) (env' := [(2, (int 90))]) (L' := []) rfl hs_nil ?_))
        obtain rfl := Option.some.inj H0
        exact SatL.ret (fnQ_snap (int 90) (int 90) rfl (Snap.free _ (.sc _)) rfl)
    ·
      replace H0 := iteT H0 (by simpa using g22)
      refine aopsS_off rfl rfl ?_
      refine aopsS_off rfl rfl ?_
      refine aopsS_off rfl rfl ?_
      refine aopsS_off rfl rfl ?_
      refine aopsS_step fun _ hK => s_pickT (v := (bool true)) rfl rfl (hK _ _ _ ?_)
      clear hK
      refine aopsS_step fun _ hK => s_mv (v := (bool true)) rfl (hK _ _ _ ?_)
      clear hK
      refine aopsS_off rfl rfl ?_
      refine aopsS_off rfl rfl ?_
      refine aopsS_off rfl rfl ?_
      refine aopsS_off rfl rfl ?_
      refine aopsS_step fun _ hK => s_pickT (v := (bool true)) rfl rfl (hK _ _ _ ?_)
      clear hK
      refine aopsS_end (hK4 _ (SatL.norm (n := 3) (h := hl [(2, (some (.cells 1 3 [[(int b_148.Camera)]]))), (1, (some (.cells 1 3 [[(int b_148.Length)]]))), (0, (some (.cells 5 25 [[(int b_148.Length), (int b_148.Camera), (int b_148.Slow), (.sl (List.map Gate.cells b_148.Gates)), (.sl (List.map int1 b_148.Bins))]])))]) (env' := [(1, (.own 0 0 0)), (34, (bool true))]) (L' := [(0, (some (.cells 5 25 [[(int b_148.Length), (int b_148.Camera), (int b_148.Slow), (.sl (List.map Gate.cells b_148.Gates)), (.sl (List.map int1 b_148.Bins))]])))]) rfl (hs_cons (hl_ne (j := 0) (i := 2) (by decide) (hl_ne (j := 0) (i := 1) (by decide) (hl_self _ _ _))) hs_nil) ?_))
      repeat refine SatL.seq ?_
      refine SatL.condT rfl rfl ?_
      repeat refine SatL.seq ?_
      refine SatL.reg [2] [some 2] rfl rfl fun K422 hK422 => ?_
      refine aopsS_step fun _ hK => s_as (v := (int 90)) rfl (hK _ _ _ ?_)
      clear hK
      refine aopsS_end (hK422 _ (SatL.norm (n := 3) (h := hl [(0, (some (.cells 5 25 [[(int b_148.Length), (int b_148.Camera), (int b_148.Slow), (.sl (List.map Gate.cells b_148.Gates)), (.sl (List.map int1 b_148.Bins))]])))]) (env' := [(2, (int 90))]) (L' := []) rfl hs_nil ?_))
      obtain rfl := Option.some.inj H0
      exact SatL.ret (fnQ_snap (int 90) (int 90) rfl (Snap.free _ (.sc _)) rfl)
  ·
    replace H0 := iteT H0 (by simpa using g11)
    refine aopsS_off rfl rfl ?_
    refine aopsS_off rfl rfl ?_
    refine aopsS_off rfl rfl ?_
    refine aopsS_off rfl rfl ?_
    refine aopsS_off rfl rfl ?_
    refine aopsS_off rfl rfl ?_
    refine aopsS_off rfl rfl ?_
    refine aopsS_step fun _ hK => s_pickT (v := (bool true)) rfl rfl (hK _ _ _ ?_)
    clear hK
    refine aopsS_step fun _ hK => s_mv (v := (bool true)) rfl (hK _ _ _ ?_)
    clear hK
    refine aopsS_off rfl rfl ?_
    refine aopsS_off rfl rfl ?_
    refine aopsS_off rfl rfl ?_
    refine aopsS_off rfl rfl ?_
    refine aopsS_off rfl rfl ?_
    refine aopsS_step fun _ hK => s_pickT (v := (bool true)) rfl rfl (hK _ _ _ ?_)
    clear hK
    refine aopsS_step fun _ hK => s_mv (v := (bool true)) rfl (hK _ _ _ ?_)
    clear hK
    refine aopsS_off rfl rfl ?_
    refine aopsS_off rfl rfl ?_
    refine aopsS_off rfl rfl ?_
    refine aopsS_off rfl rfl ?_
    refine aopsS_step fun _ hK => s_pickT (v := (bool true)) rfl rfl (hK _ _ _ ?_)
    clear hK
    refine aopsS_end (hK4 _ (SatL.norm (n := 2) (h := hl [(1, (some (.cells 1 3 [[(int b_148.Length)]]))), (0, (some (.cells 5 25 [[(int b_148.Length), (int b_148.Camera), (int b_148.Slow), (.sl (List.map Gate.cells b_148.Gates)), (.sl (List.map int1 b_148.Bins))]])))]) (env' := [(1, (.own 0 0 0)), (34, (bool true))]) (L' := [(0, (some (.cells 5 25 [[(int b_148.Length), (int b_148.Camera), (int b_148.Slow), (.sl (List.map Gate.cells b_148.Gates)), (.sl (List.map int1 b_148.Bins))]])))]) rfl (hs_cons (hl_ne (j := 0) (i := 1) (by decide) (hl_self _ _ _)) hs_nil) ?_))
    repeat refine SatL.seq ?_
    refine SatL.condT rfl rfl ?_
    repeat refine SatL.seq ?_
    refine SatL.reg [2] [some 2] rfl rfl fun K429 hK429 => ?_
    refine aopsS_step fun _ hK => s_as (v := (int 90)) rfl (hK _ _ _ ?_)
    clear hK
    refine aopsS_end (hK429 _ (SatL.norm (n := 2) (h := hl [(0, (some (.cells 5 25 [[(int b_148.Length), (int b_148.Camera), (int b_148.Slow), (.sl (List.map Gate.cells b_148.Gates)), (.sl (List.map int1 b_148.Bins))]])))]) (env' := [(2, (int 90))]) (L' := []) rfl hs_nil ?_))
    obtain rfl := Option.some.inj H0
    exact SatL.ret (fnQ_snap (int 90) (int 90) rfl (Snap.free _ (.sc _)) rfl)

def ref09_Leads_L0 (b_191 : Belt) (bin_192 : Int) : Nat → Int → Option (Int ⊕ Unit)
  | 0, _ => (some (Sum.inr ()))
  | k0 + 1, i_199 => (gi b_191.Gates i_199).bind fun e_201 => (if (e_201.Bin == bin_192) = true then (some (Sum.inl i_199)) else ref09_Leads_L0 b_191 bin_192 k0 ((i_199 + 1)))

def ref09_Leads (b_191 : Belt) (bin_192 : Int) : Option Int :=
  (ref09_Leads_L0 b_191 bin_192 (Int.toNat ((List.length b_191.Gates : Int) - 0)) 0).bind (fun s_ => sumE s_ (fun r_ => (some r_)) (fun s_ => un0 s_ ((some (-1)))))

theorem ref09_Leads_PC {b_191 : Belt} {bin_192 : Int} {r : Int} (H0 : ref09_Leads b_191 bin_192 = some r) : PC Try.prog 48 [(.ag (Belt.cells b_191)), (int bin_192)] (· = (int r)) := by
  unfold ref09_Leads at H0
  refine PC.of_bodyL [(0, (.ag (Belt.cells b_191))), (1, (int bin_192))] Try.func48 rfl rfl (Nat.le_of_ble_eq_true rfl) rfl fun O => ?_
  repeat refine SatL.seq ?_
  refine SatL.reg [1, 2] [some 2, some 4] rfl rfl fun K1 hK1 => ?_
  refine aopsS_step fun _ hK => s_box (cs := [(int b_191.Length), (int b_191.Camera), (int b_191.Slow), (.sl (List.map Gate.cells b_191.Gates)), (.sl (List.map int1 b_191.Bins))]) (m := 5) (n' := 1) rfl rfl rfl (hK _ _ _ ?_)
  clear hK
  refine aopsS_step fun _ hK => s_as (v := (int 0)) rfl (hK _ _ _ ?_)
  clear hK
  refine aopsS_end (hK1 _ (SatL.norm (n := 1) (h := hl [(0, (some (.cells 5 25 [[(int b_191.Length), (int b_191.Camera), (int b_191.Slow), (.sl (List.map Gate.cells b_191.Gates)), (.sl (List.map int1 b_191.Bins))]])))]) (env' := [(1, (int bin_192)), (2, (.own 0 0 0))]) (L' := [(0, (some (.cells 5 25 [[(int b_191.Length), (int b_191.Camera), (int b_191.Slow), (.sl (List.map Gate.cells b_191.Gates)), (.sl (List.map int1 b_191.Bins))]])))]) rfl hs_refl ?_))
  repeat refine SatL.seq ?_
  refine SatL.reg [1, 2, 5] [some 5] rfl rfl fun K4 hK4 => ?_
  refine aopsS_step fun _ hK => s_as (v := (int 0)) rfl (hK _ _ _ ?_)
  clear hK
  refine aopsS_end (hK4 _ (SatL.norm (n := 1) (h := hl [(0, (some (.cells 5 25 [[(int b_191.Length), (int b_191.Camera), (int b_191.Slow), (.sl (List.map Gate.cells b_191.Gates)), (.sl (List.map int1 b_191.Bins))]])))]) (env' := [(1, (int bin_192)), (2, (.own 0 0 0)), (5, (int 0))]) (L' := [(0, (some (.cells 5 25 [[(int b_191.Length), (int b_191.Camera), (int b_191.Slow), (.sl (List.map Gate.cells b_191.Gates)), (.sl (List.map int1 b_191.Bins))]])))]) rfl hs_refl ?_))
  repeat refine SatL.seq ?_
  obtain ⟨o_197, H1, H0⟩ := bindS H0
  refine SatL.mid [] (fun s_ => (Sum.inr ()) = o_197 ∧ StLe s_ [] [] 1) ?_ ?_
  ·
    repeat refine SatL.seq ?_
    refine SatL.block ?_
    repeat refine SatL.seq ?_
    refine SatL.loopK [1, 2, 5] (fun k0 s_ => ∃ (i_199 : Int), StLe s_ [(1, (int bin_192)), (2, (.own 0 0 0)), (5, (int i_199))] [(0, (some (.cells 5 25 [[(int b_191.Length), (int b_191.Camera), (int b_191.Slow), (.sl (List.map Gate.cells b_191.Gates)), (.sl (List.map int1 b_191.Bins))]])))] 1 ∧ 0 ≤ i_199 ∧ k0 = Int.toNat ((List.length b_191.Gates : Int) - i_199) ∧ ref09_Leads_L0 b_191 bin_192 k0 i_199 = some o_197) (Int.toNat ((List.length b_191.Gates : Int) - 0)) ?_ ?_
    · exact ⟨0, (StLe.of [(0, (some (.cells 5 25 [[(int b_191.Length), (int b_191.Camera), (int b_191.Slow), (.sl (List.map Gate.cells b_191.Gates)), (.sl (List.map int1 b_191.Bins))]])))] 1 rfl (hs_cons (hl_self _ _ _) hs_nil) (Nat.le_refl _)), (by omega), rfl, H1⟩
    rintro k0 s_ ⟨i_199, hs_, _, hk_, H1⟩
    refine SatL.le hs_ ?_
    clear hs_
    rcases k0 with _ | k0
    ·
      rw [ref09_Leads_L0.eq_1] at H1
      repeat refine SatL.seq ?_
      refine SatL.reg [1, 2, 5, 10] [some 6, some 7, some 8, some 9, some 10] rfl rfl fun K126 hK126 => ?_
      refine aopsS_step fun _ hK => s_mv (v := (int i_199)) rfl (hK _ _ _ ?_)
      clear hK
      refine aopsS_step fun _ hK => s_faOwn (j' := 3) fld_25_3 rfl rfl (isC (hl_self _ _ _)) (hK _ _ _ ?_)
      clear hK
      refine aopsS_step fun _ hK => s_load1 (c := (.sl (List.map Gate.cells b_191.Gates))) agg_22 (d_own rfl (hl_self _ _ _) rfl rfl) rfl (hK _ _ _ ?_)
      clear hK
      refine aopsS_step fun _ hK => s_lenSl elem_22 rfl (fun hl130 => hK _ _ _ ?_)
      clear hK
      refine aopsS_step fun _ hK => s_bin rfl rfl (b_lss (hK _ _ _ ?_))
      clear hK
      refine aopsS_end (hK126 _ (SatL.norm (n := 1) (h := hl [(0, (some (.cells 5 25 [[(int b_191.Length), (int b_191.Camera), (int b_191.Slow), (.sl (List.map Gate.cells b_191.Gates)), (.sl (List.map int1 b_191.Bins))]])))]) (env' := [(1, (int bin_192)), (2, (.own 0 0 0)), (5, (int i_199)), (10, (bool (decide (i_199 < (List.length b_191.Gates : Int)))))]) (L' := [(0, (some (.cells 5 25 [[(int b_191.Length), (int b_191.Camera), (int b_191.Slow), (.sl (List.map Gate.cells b_191.Gates)), (.sl (List.map int1 b_191.Bins))]])))]) rfl hs_refl ?_))
      repeat refine SatL.seq ?_
      refine SatL.condF rfl (decide_eq_false (by omega)) ?_
      refine SatL.exit ?_
      simp only [thenQ, blockQ, if_true, reduceIte, Nat.reduceEqDiff]
      obtain rfl := Option.some.inj H1
      exact SatL.nil (thenN ⟨rfl, (StLe.of [(0, (some (.cells 5 25 [[(int b_191.Length), (int b_191.Camera), (int b_191.Slow), (.sl (List.map Gate.cells b_191.Gates)), (.sl (List.map int1 b_191.Bins))]])))] 1 rfl hs_nil (Nat.le_refl _))⟩)
    ·
      rw [ref09_Leads_L0.eq_2] at H1
      repeat refine SatL.seq ?_
      refine SatL.reg [1, 2, 5, 10] [some 6, some 7, some 8, some 9, some 10] rfl rfl fun K132 hK132 => ?_
      refine aopsS_step fun _ hK => s_mv (v := (int i_199)) rfl (hK _ _ _ ?_)
      clear hK
      refine aopsS_step fun _ hK => s_faOwn (j' := 3) fld_25_3 rfl rfl (isC (hl_self _ _ _)) (hK _ _ _ ?_)
      clear hK
      refine aopsS_step fun _ hK => s_load1 (c := (.sl (List.map Gate.cells b_191.Gates))) agg_22 (d_own rfl (hl_self _ _ _) rfl rfl) rfl (hK _ _ _ ?_)
      clear hK
      refine aopsS_step fun _ hK => s_lenSl elem_22 rfl (fun hl136 => hK _ _ _ ?_)
      clear hK
      refine aopsS_step fun _ hK => s_bin rfl rfl (b_lss (hK _ _ _ ?_))
      clear hK
      refine aopsS_end (hK132 _ (SatL.norm (n := 1) (h := hl [(0, (some (.cells 5 25 [[(int b_191.Length), (int b_191.Camera), (int b_191.Slow), (.sl (List.map Gate.cells b_191.Gates)), (.sl (List.map int1 b_191.Bins))]])))]) (env' := [(1, (int bin_192)), (2, (.own 0 0 0)), (5, (int i_199)), (10, (bool (decide (i_199 < (List.length b_191.Gates : Int)))))]) (L' := [(0, (some (.cells 5 25 [[(int b_191.Length), (int b_191.Camera), (int b_191.Slow), (.sl (List.map Gate.cells b_191.Gates)), (.sl (List.map int1 b_191.Bins))]])))]) rfl hs_refl ?_))
      repeat refine SatL.seq ?_
      refine SatL.condT rfl (decide_eq_true (by omega)) ?_
      have hlt138 : (i_199 < (List.length b_191.Gates : Int)) := by omega
      refine SatL.skip ?_
      repeat refine SatL.seq ?_
      refine SatL.block ?_
      repeat refine SatL.seq ?_
      refine SatL.reg [1, 2, 5, 20] [some 13, some 14, some 15, some 16, some 17, some 18, some 19, some 20] rfl rfl fun K139 hK139 => ?_
      refine aopsS_step fun _ hK => s_faOwn (j' := 3) fld_25_3 rfl rfl (isC (hl_self _ _ _)) (hK _ _ _ ?_)
      clear hK
      refine aopsS_step fun _ hK => s_load1 (c := (.sl (List.map Gate.cells b_191.Gates))) agg_22 (d_own rfl (hl_self _ _ _) rfl rfl) rfl (hK _ _ _ ?_)
      clear hK
      refine aopsS_step fun _ hK => s_mv (v := (int i_199)) rfl (hK _ _ _ ?_)
      clear hK
      obtain ⟨e_201, he_201, H1⟩ := bindS H1
      refine aopsS_step fun _ hK => s_ixSl elem_22 rfl rfl he_201 cells_89 rfl (by decide) (hK _ _ _ ?_)
      clear hK
      refine aopsS_step fun _ hK => s_faFp (cs' := [(int e_201.Bin)]) fld_89_1 rfl rfl (hK _ _ _ ?_)
      clear hK
      refine aopsS_step fun _ hK => s_load1 (c := (int e_201.Bin)) agg_3 (d_fp rfl) rfl (hK _ _ _ ?_)
      clear hK
      refine aopsS_step fun _ hK => s_mv (v := (int bin_192)) rfl (hK _ _ _ ?_)
      clear hK
      refine aopsS_step fun _ hK => s_bin rfl rfl (b_eql (hK _ _ _ ?_))
      clear hK
      refine aopsS_end (hK139 _ (SatL.norm (n := 1) (h := hl [(0, (some (.cells 5 25 [[(int b_191.Length), (int b_191.Camera), (int b_191.Slow), (.sl (List.map Gate.cells b_191.Gates)), (.sl (List.map int1 b_191.Bins))]])))]) (env' := [(1, (int bin_192)), (2, (.own 0 0 0)), (5, (int i_199)), (20, (bool (e_201.Bin == bin_192)))]) (L' := [(0, (some (.cells 5 25 [[(int b_191.Length), (int b_191.Camera), (int b_191.Slow), (.sl (List.map Gate.cells b_191.Gates)), (.sl (List.map int1 b_191.Bins))]])))]) rfl hs_refl ?_))
      repeat refine SatL.seq ?_
      refine SatL.condX rfl (fun hc148 => ?_) (fun hc148 => ?_)
      ·
        replace H1 := iteT H1 hc148
        repeat refine SatL.seq ?_
        refine SatL.reg [4] [some 21, some 4] rfl rfl fun K149 hK149 => ?_
        refine aopsS_step fun _ hK => s_mv (v := (int i_199)) rfl (hK _ _ _ ?_)
        clear hK
        refine aopsS_step fun _ hK => s_as (v := (int i_199)) rfl (hK _ _ _ ?_)
        clear hK
        refine aopsS_end (hK149 _ (SatL.norm (n := 1) (h := hl [(0, (some (.cells 5 25 [[(int b_191.Length), (int b_191.Camera), (int b_191.Slow), (.sl (List.map Gate.cells b_191.Gates)), (.sl (List.map int1 b_191.Bins))]])))]) (env' := [(4, (int i_199))]) (L' := []) rfl hs_nil ?_))
        obtain rfl := Option.some.inj H1
        obtain rfl := Option.some.inj H0
        exact SatL.ret (fnQ_snap (int i_199) (int i_199) rfl (Snap.free _ (.sc _)) rfl)
      ·
        replace H1 := iteF H1 hc148
        refine SatL.skip ?_
        refine SatL.nil (blockN (thenN ?_))
        repeat refine SatL.seq ?_
        refine SatL.rege [some 11, some 12, some 5] rfl rfl fun K152 hK152 => ?_
        refine aopsS_step fun _ hK => s_mv (v := (int i_199)) rfl (hK _ _ _ ?_)
        clear hK
        refine aopsS_step fun _ hK => s_bin rfl rfl (b_add64 (hK _ _ _ ?_))
        clear hK
        refine aopsS_step fun _ hK => s_as (v := (int (w64 (i_199 + 1)))) rfl (hK _ _ _ ?_)
        clear hK
        refine aopsS_end (hK152 _ ?_)
        have hw156 : w64 (i_199 + 1) = i_199 + 1 := w64_id (by omega) (by omega)
        exact (thenN ⟨k0, ⟨(w64 (i_199 + 1)), (StLe.of [(0, (some (.cells 5 25 [[(int b_191.Length), (int b_191.Camera), (int b_191.Slow), (.sl (List.map Gate.cells b_191.Gates)), (.sl (List.map int1 b_191.Bins))]])))] 1 rfl (hs_cons (hl_self _ _ _) hs_nil) (Nat.le_refl _)), (by omega), (by rw [hw156]; omega), (Eq.mpr (congrArg (fun q_ => ref09_Leads_L0 b_191 bin_192 k0 q_ = some o_197) hw156) H1)⟩, by omega⟩)
  ·
    rintro s_ ⟨rfl, hs_⟩
    refine SatL.le hs_ ?_
    clear hs_
    replace H0 := sumun0S H0
    repeat refine SatL.seq ?_
    refine SatL.reg [4] [some 4] rfl rfl fun K157 hK157 => ?_
    refine aopsS_step fun _ hK => s_as (v := (int (-1))) rfl (hK _ _ _ ?_)
    clear hK
    refine aopsS_end (hK157 _ (SatL.norm (n := 1) (h := hl []) (env' := [(4, (int (-1)))]) (L' := []) rfl hs_refl ?_))
    obtain rfl := Option.some.inj H0
    exact SatL.ret (fnQ_snap (int (-1)) (int (-1)) rfl (Snap.free _ (.sc _)) rfl)

def ref09_Belt_L0 (b_183 : Belt) : Nat → Int → Option (Bool ⊕ Unit)
  | 0, _ => (some (Sum.inr ()))
  | k0 + 1, i_230 => (gi b_183.Gates i_230).bind fun e_239 => (ref09_within e_239.At (w64 (b_183.Camera + 1)) (w64 (b_183.Length - 1))).bind fun r_240 => (if (!r_240) = true then (some (Sum.inl false)) else (if (decide (0 < i_230)) = true then (gi b_183.Gates (w64 (i_230 - 1))).bind fun e_241 => (if (decide (e_239.At ≤ e_241.At)) = true then (some (Sum.inl false)) else (ref09_within e_239.Bin 0 7).bind fun r_242 => (if (!r_242) = true then (some (Sum.inl false)) else (ref09_Leads b_183 e_239.Bin).bind fun r_243 => (if (r_243 != i_230) = true then (some (Sum.inl false)) else ref09_Belt_L0 b_183 k0 ((i_230 + 1))))) else (ref09_within e_239.Bin 0 7).bind fun r_244 => (if (!r_244) = true then (some (Sum.inl false)) else (ref09_Leads b_183 e_239.Bin).bind fun r_245 => (if (r_245 != i_230) = true then (some (Sum.inl false)) else ref09_Belt_L0 b_183 k0 ((i_230 + 1))))))

def ref09_Belt_L1 (b_183 : Belt) : Nat → Int → Option (Bool ⊕ Unit)
  | 0, _ => (some (Sum.inr ()))
  | k0 + 1, i_256 => (gi b_183.Bins i_256).bind fun e_259 => (ref09_within e_259 (-1) 7).bind fun r_260 => (if (!r_260) = true then (some (Sum.inl false)) else ref09_Belt_L1 b_183 k0 ((i_256 + 1)))

def ref09_Belt (b_183 : Belt) : Option Bool :=
  (ref09_within b_183.Length 2 100).bind fun r_184 => (if (!r_184) = true then (some false) else (ref09_within b_183.Camera 0 (w64 (b_183.Length - 2))).bind fun r_185 => (if (!r_185) = true then (some false) else (ref09_within b_183.Slow 0 10).bind fun r_186 => (if (!r_186) = true then (some false) else (if (decide (8 < (List.length b_183.Gates : Int))) = true then (some false) else (if ((List.length b_183.Bins : Int) != 16) = true then (some false) else (ref09_Belt_L0 b_183 (Int.toNat ((List.length b_183.Gates : Int) - 0)) 0).bind (fun s_ => sumE s_ (fun r_ => (some r_)) (fun s_ => un0 s_ ((ref09_Belt_L1 b_183 (Int.toNat (16 - 0)) 0).bind (fun s_ => sumE s_ (fun r_ => (some r_)) (fun s_ => un0 s_ ((some true))))))))))))

theorem ref09_Belt_PC {b_183 : Belt} {r : Bool} (H0 : ref09_Belt b_183 = some r) : PC Try.prog 46 [(.ag (Belt.cells b_183))] (· = (bool r)) := by
  unfold ref09_Belt at H0
  refine PC.of_bodyL [(0, (.ag (Belt.cells b_183)))] Try.func46 rfl rfl (Nat.le_of_ble_eq_true rfl) rfl fun O => ?_
  repeat refine SatL.seq ?_
  refine SatL.reg [1] [some 1, some 2] rfl rfl fun K1 hK1 => ?_
  refine aopsS_step fun _ hK => s_box (cs := [(int b_183.Length), (int b_183.Camera), (int b_183.Slow), (.sl (List.map Gate.cells b_183.Gates)), (.sl (List.map int1 b_183.Bins))]) (m := 5) (n' := 1) rfl rfl rfl (hK _ _ _ ?_)
  clear hK
  refine aopsS_step fun _ hK => s_as (v := (bool false)) rfl (hK _ _ _ ?_)
  clear hK
  refine aopsS_end (hK1 _ (SatL.norm (n := 1) (h := hl [(0, (some (.cells 5 25 [[(int b_183.Length), (int b_183.Camera), (int b_183.Slow), (.sl (List.map Gate.cells b_183.Gates)), (.sl (List.map int1 b_183.Bins))]])))]) (env' := [(1, (.own 0 0 0))]) (L' := [(0, (some (.cells 5 25 [[(int b_183.Length), (int b_183.Camera), (int b_183.Slow), (.sl (List.map Gate.cells b_183.Gates)), (.sl (List.map int1 b_183.Bins))]])))]) rfl hs_refl ?_))
  repeat refine SatL.seq ?_
  refine SatL.reg [1, 36] [some 6, some 7, some 8, some 9, some 10, some 11, some 12, some 13, some 14, some 15, some 16, some 17, some 18, some 19, some 20, some 21, some 22, some 23, some 24, some 25, some 26, some 27, some 28, some 29, some 30, some 31, some 32, some 33, some 34, some 35, some 36] rfl rfl fun K4 hK4 => ?_
  refine aopsS_step fun _ hK => s_faOwn (j' := 0) fld_25_0 rfl rfl (isC (hl_self _ _ _)) (hK _ _ _ ?_)
  clear hK
  refine aopsS_step fun _ hK => s_load1 (c := (int b_183.Length)) agg_3 (d_own rfl (hl_self _ _ _) rfl rfl) rfl (hK _ _ _ ?_)
  clear hK
  obtain ⟨r_184, hr_184, H0⟩ := bindS H0
  refine aopsS_step fun _ hK => s_call (avs := [(int b_183.Length), (int 2), (int 100)]) rfl rfl rfl (PC.call1 (ref09_within_PC hr_184) (FreeL.cons (.sc _) (FreeL.cons (.sc _) (FreeL.cons (.sc _) FreeL.nil))) (hK _ _ _ ?_))
  clear hK
  refine aopsS_step fun _ hK => s_not rfl (hK _ _ _ ?_)
  clear hK
  refine aopsS_step fun _ hK => s_mv (v := (bool (!r_184))) rfl (hK _ _ _ ?_)
  clear hK
  refine aopsS_split rfl _ rfl (fun g10 => ?_) (fun g10 => ?_)
  ·
    replace H0 := iteF H0 (by simpa using g10)
    intro _ hK
    refine s_faOwn (j' := 1) fld_25_1 rfl rfl (isC (hl_self _ _ _)) (hK _ _ _ ?_)
    clear hK
    refine aopsS_on rfl rfl fun _ hK => s_load1 (c := (int b_183.Camera)) agg_3 (d_own rfl (hl_self _ _ _) rfl rfl) rfl (hK _ _ _ ?_)
    clear hK
    refine aopsS_on rfl rfl fun _ hK => s_faOwn (j' := 0) fld_25_0 rfl rfl (isC (hl_self _ _ _)) (hK _ _ _ ?_)
    clear hK
    refine aopsS_on rfl rfl fun _ hK => s_load1 (c := (int b_183.Length)) agg_3 (d_own rfl (hl_self _ _ _) rfl rfl) rfl (hK _ _ _ ?_)
    clear hK
    refine aopsS_on rfl rfl fun _ hK => s_bin rfl rfl (b_sub64 (hK _ _ _ ?_))
    clear hK
    obtain ⟨r_185, hr_185, H0⟩ := bindS H0
    refine aopsS_on rfl rfl fun _ hK => s_call (avs := [(int b_183.Camera), (int 0), (int (w64 (b_183.Length - 2)))]) rfl rfl rfl (PC.call1 (ref09_within_PC hr_185) (FreeL.cons (.sc _) (FreeL.cons (.sc _) (FreeL.cons (.sc _) FreeL.nil))) (hK _ _ _ ?_))
    clear hK
    refine aopsS_on rfl rfl fun _ hK => s_not rfl (hK _ _ _ ?_)
    clear hK
    refine aopsS_step fun _ hK => s_pickF (v := (bool (!r_185))) rfl rfl (hK _ _ _ ?_)
    clear hK
    refine aopsS_step fun _ hK => s_mv (v := (bool (!r_185))) rfl (hK _ _ _ ?_)
    clear hK
    refine aopsS_split rfl _ rfl (fun g20 => ?_) (fun g20 => ?_)
    ·
      replace H0 := iteF H0 (by simpa using g20)
      intro _ hK
      refine s_faOwn (j' := 2) fld_25_2 rfl rfl (isC (hl_self _ _ _)) (hK _ _ _ ?_)
      clear hK
      refine aopsS_on rfl rfl fun _ hK => s_load1 (c := (int b_183.Slow)) agg_3 (d_own rfl (hl_self _ _ _) rfl rfl) rfl (hK _ _ _ ?_)
      clear hK
      obtain ⟨r_186, hr_186, H0⟩ := bindS H0
      refine aopsS_on rfl rfl fun _ hK => s_call (avs := [(int b_183.Slow), (int 0), (int 10)]) rfl rfl rfl (PC.call1 (ref09_within_PC hr_186) (FreeL.cons (.sc _) (FreeL.cons (.sc _) (FreeL.cons (.sc _) FreeL.nil))) (hK _ _ _ ?_))
      clear hK
      refine aopsS_on rfl rfl fun _ hK => s_not rfl (hK _ _ _ ?_)
      clear hK
      refine aopsS_step fun _ hK => s_pickF (v := (bool (!r_186))) rfl rfl (hK _ _ _ ?_)
      clear hK
      refine aopsS_step fun _ hK => s_mv (v := (bool (!r_186))) rfl (hK _ _ _ ?_)
      clear hK
      refine aopsS_split rfl _ rfl (fun g27 => ?_) (fun g27 => ?_)
      ·
        replace H0 := iteF H0 (by simpa using g27)
        intro _ hK
        refine s_faOwn (j' := 3) fld_25_3 rfl rfl (isC (hl_self _ _ _)) (hK _ _ _ ?_)
        clear hK
        refine aopsS_on rfl rfl fun _ hK => s_load1 (c := (.sl (List.map Gate.cells b_183.Gates))) agg_22 (d_own rfl (hl_self _ _ _) rfl rfl) rfl (hK _ _ _ ?_)
        clear hK
        refine aopsS_on rfl rfl fun _ hK => s_lenSl elem_22 rfl (fun hl30 => hK _ _ _ ?_)
        clear hK
        refine aopsS_on rfl rfl fun _ hK => s_bin rfl rfl (b_gtr (hK _ _ _ ?_))
        clear hK
        refine aopsS_step fun _ hK => s_pickF (v := (bool (decide (8 < (List.length b_183.Gates : Int))))) rfl rfl (hK _ _ _ ?_)
        clear hK
        refine aopsS_step fun _ hK => s_mv (v := (bool (decide (8 < (List.length b_183.Gates : Int))))) rfl (hK _ _ _ ?_)
        clear hK
        refine aopsS_split rfl _ rfl (fun g34 => ?_) (fun g34 => ?_)
        ·
          replace H0 := iteF H0 (by simpa using g34)
          intro _ hK
          refine s_faOwn (j' := 4) fld_25_4 rfl rfl (isC (hl_self _ _ _)) (hK _ _ _ ?_)
          clear hK
          refine aopsS_on rfl rfl fun _ hK => s_load1 (c := (.sl (List.map int1 b_183.Bins))) agg_23 (d_own rfl (hl_self _ _ _) rfl rfl) rfl (hK _ _ _ ?_)
          clear hK
          refine aopsS_on rfl rfl fun _ hK => s_lenSl elem_23 rfl (fun hl37 => hK _ _ _ ?_)
          clear hK
          refine aopsS_on rfl rfl fun _ hK => s_bin rfl rfl (b_neq (hK _ _ _ ?_))
          clear hK
          refine aopsS_step fun _ hK => s_pickF (v := (bool ((List.length b_183.Bins : Int) != 16))) rfl rfl (hK _ _ _ ?_)
          clear hK
          refine aopsS_end (hK4 _ (SatL.norm (n := 1) (h := hl [(0, (some (.cells 5 25 [[(int b_183.Length), (int b_183.Camera), (int b_183.Slow), (.sl (List.map Gate.cells b_183.Gates)), (.sl (List.map int1 b_183.Bins))]])))]) (env' := [(1, (.own 0 0 0)), (36, (bool ((List.length b_183.Bins : Int) != 16)))]) (L' := [(0, (some (.cells 5 25 [[(int b_183.Length), (int b_183.Camera), (int b_183.Slow), (.sl (List.map Gate.cells b_183.Gates)), (.sl (List.map int1 b_183.Bins))]])))]) rfl hs_refl ?_))
          repeat refine SatL.seq ?_
          refine SatL.condX rfl (fun hc40 => ?_) (fun hc40 => ?_)
          ·
            replace H0 := iteT H0 hc40
            repeat refine SatL.seq ?_
            refine SatL.reg [2] [some 2] rfl rfl fun K41 hK41 => ?_
            refine aopsS_step fun _ hK => s_as (v := (bool false)) rfl (hK _ _ _ ?_)
            clear hK
            refine aopsS_end (hK41 _ (SatL.norm (n := 1) (h := hl [(0, (some (.cells 5 25 [[(int b_183.Length), (int b_183.Camera), (int b_183.Slow), (.sl (List.map Gate.cells b_183.Gates)), (.sl (List.map int1 b_183.Bins))]])))]) (env' := [(2, (bool false))]) (L' := []) rfl hs_nil ?_))
            obtain rfl := Option.some.inj H0
            exact SatL.ret (fnQ_snap (bool false) (bool false) rfl (Snap.free _ (.sc _)) rfl)
          ·
            replace H0 := iteF H0 hc40
            refine SatL.skip ?_
            repeat refine SatL.seq ?_
            refine SatL.reg [1, 3] [some 3] rfl rfl fun K43 hK43 => ?_
            refine aopsS_step fun _ hK => s_as (v := (int 0)) rfl (hK _ _ _ ?_)
            clear hK
            refine aopsS_end (hK43 _ (SatL.norm (n := 1) (h := hl [(0, (some (.cells 5 25 [[(int b_183.Length), (int b_183.Camera), (int b_183.Slow), (.sl (List.map Gate.cells b_183.Gates)), (.sl (List.map int1 b_183.Bins))]])))]) (env' := [(1, (.own 0 0 0)), (3, (int 0))]) (L' := [(0, (some (.cells 5 25 [[(int b_183.Length), (int b_183.Camera), (int b_183.Slow), (.sl (List.map Gate.cells b_183.Gates)), (.sl (List.map int1 b_183.Bins))]])))]) rfl hs_refl ?_))
            repeat refine SatL.seq ?_
            obtain ⟨o_222, H1, H0⟩ := bindS H0
            refine SatL.mid [1] (fun s_ => ∃ (n_221 : Nat), (Sum.inr ()) = o_222 ∧ StLe s_ [(1, (.own 0 0 0))] [(0, (some (.cells 5 25 [[(int b_183.Length), (int b_183.Camera), (int b_183.Slow), (.sl (List.map Gate.cells b_183.Gates)), (.sl (List.map int1 b_183.Bins))]])))] n_221 ∧ 0 < n_221) ?_ ?_
            ·
              repeat refine SatL.seq ?_
              refine SatL.block ?_
              repeat refine SatL.seq ?_
              refine SatL.loopK [1, 3] (fun k0 s_ => ∃ (i_230 : Int) (n_231 : Nat), StLe s_ [(1, (.own 0 0 0)), (3, (int i_230))] [(0, (some (.cells 5 25 [[(int b_183.Length), (int b_183.Camera), (int b_183.Slow), (.sl (List.map Gate.cells b_183.Gates)), (.sl (List.map int1 b_183.Bins))]])))] n_231 ∧ 0 < n_231 ∧ 0 ≤ i_230 ∧ k0 = Int.toNat ((List.length b_183.Gates : Int) - i_230) ∧ ref09_Belt_L0 b_183 k0 i_230 = some o_222) (Int.toNat ((List.length b_183.Gates : Int) - 0)) ?_ ?_
              · exact ⟨0, 1, (StLe.of [(0, (some (.cells 5 25 [[(int b_183.Length), (int b_183.Camera), (int b_183.Slow), (.sl (List.map Gate.cells b_183.Gates)), (.sl (List.map int1 b_183.Bins))]])))] 1 rfl (hs_cons (hl_self _ _ _) hs_nil) (Nat.le_refl _)), (by omega), (by omega), rfl, H1⟩
              rintro k0 s_ ⟨i_230, n_231, hs_, _, _, hk_, H1⟩
              refine SatL.le hs_ ?_
              clear hs_
              rcases k0 with _ | k0
              ·
                rw [ref09_Belt_L0.eq_1] at H1
                repeat refine SatL.seq ?_
                refine SatL.reg [1, 3, 41] [some 37, some 38, some 39, some 40, some 41] rfl rfl fun K590 hK590 => ?_
                refine aopsS_step fun _ hK => s_mv (v := (int i_230)) rfl (hK _ _ _ ?_)
                clear hK
                refine aopsS_step fun _ hK => s_faOwn (j' := 3) fld_25_3 rfl rfl (isC (hl_self _ _ _)) (hK _ _ _ ?_)
                clear hK
                refine aopsS_step fun _ hK => s_load1 (c := (.sl (List.map Gate.cells b_183.Gates))) agg_22 (d_own rfl (hl_self _ _ _) rfl rfl) rfl (hK _ _ _ ?_)
                clear hK
                refine aopsS_step fun _ hK => s_lenSl elem_22 rfl (fun hl594 => hK _ _ _ ?_)
                clear hK
                refine aopsS_step fun _ hK => s_bin rfl rfl (b_lss (hK _ _ _ ?_))
                clear hK
                refine aopsS_end (hK590 _ (SatL.norm (n := n_231) (h := hl [(0, (some (.cells 5 25 [[(int b_183.Length), (int b_183.Camera), (int b_183.Slow), (.sl (List.map Gate.cells b_183.Gates)), (.sl (List.map int1 b_183.Bins))]])))]) (env' := [(1, (.own 0 0 0)), (3, (int i_230)), (41, (bool (decide (i_230 < (List.length b_183.Gates : Int)))))]) (L' := [(0, (some (.cells 5 25 [[(int b_183.Length), (int b_183.Camera), (int b_183.Slow), (.sl (List.map Gate.cells b_183.Gates)), (.sl (List.map int1 b_183.Bins))]])))]) rfl hs_refl ?_))
                repeat refine SatL.seq ?_
                refine SatL.condF rfl (decide_eq_false (by omega)) ?_
                refine SatL.exit ?_
                simp only [thenQ, blockQ, if_true, reduceIte, Nat.reduceEqDiff]
                obtain rfl := Option.some.inj H1
                exact SatL.nil (thenN ⟨n_231, rfl, (StLe.of [(0, (some (.cells 5 25 [[(int b_183.Length), (int b_183.Camera), (int b_183.Slow), (.sl (List.map Gate.cells b_183.Gates)), (.sl (List.map int1 b_183.Bins))]])))] n_231 rfl (hs_cons (hl_self _ _ _) hs_nil) (Nat.le_refl _)), (by omega)⟩)
              ·
                rw [ref09_Belt_L0.eq_2] at H1
                repeat refine SatL.seq ?_
                refine SatL.reg [1, 3, 41] [some 37, some 38, some 39, some 40, some 41] rfl rfl fun K596 hK596 => ?_
                refine aopsS_step fun _ hK => s_mv (v := (int i_230)) rfl (hK _ _ _ ?_)
                clear hK
                refine aopsS_step fun _ hK => s_faOwn (j' := 3) fld_25_3 rfl rfl (isC (hl_self _ _ _)) (hK _ _ _ ?_)
                clear hK
                refine aopsS_step fun _ hK => s_load1 (c := (.sl (List.map Gate.cells b_183.Gates))) agg_22 (d_own rfl (hl_self _ _ _) rfl rfl) rfl (hK _ _ _ ?_)
                clear hK
                refine aopsS_step fun _ hK => s_lenSl elem_22 rfl (fun hl600 => hK _ _ _ ?_)
                clear hK
                refine aopsS_step fun _ hK => s_bin rfl rfl (b_lss (hK _ _ _ ?_))
                clear hK
                refine aopsS_end (hK596 _ (SatL.norm (n := n_231) (h := hl [(0, (some (.cells 5 25 [[(int b_183.Length), (int b_183.Camera), (int b_183.Slow), (.sl (List.map Gate.cells b_183.Gates)), (.sl (List.map int1 b_183.Bins))]])))]) (env' := [(1, (.own 0 0 0)), (3, (int i_230)), (41, (bool (decide (i_230 < (List.length b_183.Gates : Int)))))]) (L' := [(0, (some (.cells 5 25 [[(int b_183.Length), (int b_183.Camera), (int b_183.Slow), (.sl (List.map Gate.cells b_183.Gates)), (.sl (List.map int1 b_183.Bins))]])))]) rfl hs_refl ?_))
                repeat refine SatL.seq ?_
                refine SatL.condT rfl (decide_eq_true (by omega)) ?_
                have hlt602 : (i_230 < (List.length b_183.Gates : Int)) := by omega
                refine SatL.skip ?_
                repeat refine SatL.seq ?_
                refine SatL.block ?_
                repeat refine SatL.seq ?_
                refine SatL.reg [1, 3, 4] [some 44, some 45, some 46, some 47, some 48, some 4, none] rfl rfl fun K603 hK603 => ?_
                refine aopsS_step fun _ hK => s_faOwn (j' := 3) fld_25_3 rfl rfl (isC (hl_self _ _ _)) (hK _ _ _ ?_)
                clear hK
                refine aopsS_step fun _ hK => s_load1 (c := (.sl (List.map Gate.cells b_183.Gates))) agg_22 (d_own rfl (hl_self _ _ _) rfl rfl) rfl (hK _ _ _ ?_)
                clear hK
                refine aopsS_step fun _ hK => s_mv (v := (int i_230)) rfl (hK _ _ _ ?_)
                clear hK
                obtain ⟨e_239, he_239, H1⟩ := bindS H1
                refine aopsS_step fun _ hK => s_ixSl elem_22 rfl rfl he_239 cells_89 rfl (by decide) (hK _ _ _ ?_)
                clear hK
                refine aopsS_step fun _ hK => s_loadA (cs' := [(int e_239.At), (int e_239.Bin)]) agg_89 cells_89 (d_fp rfl) (Nat.le_of_ble_eq_true rfl) rfl (hK _ _ _ ?_)
                clear hK
                refine aopsS_step fun _ hK => s_alloc (m := 2) (n' := (n_231 + 1)) zero_89 rfl rfl (hK _ _ _ ?_)
                clear hK
                refine aopsS_step0 fun _ hK => s_store (E := [[(int e_239.At), (int e_239.Bin)]]) rfl (hl_self _ _ _) rfl rfl cells_89 rfl (by decide) (Nat.le_of_ble_eq_true rfl) rfl (hu_self _ _ _ _) (hK _ _ _ ?_)
                clear hK
                refine aopsS_end (hK603 _ (SatL.norm (n := (n_231 + 1)) (h := hl [(n_231, (some (.cells 2 89 [[(int e_239.At), (int e_239.Bin)]]))), (0, (some (.cells 5 25 [[(int b_183.Length), (int b_183.Camera), (int b_183.Slow), (.sl (List.map Gate.cells b_183.Gates)), (.sl (List.map int1 b_183.Bins))]])))]) (env' := [(1, (.own 0 0 0)), (3, (int i_230)), (4, (.own n_231 0 0))]) (L' := [(0, (some (.cells 5 25 [[(int b_183.Length), (int b_183.Camera), (int b_183.Slow), (.sl (List.map Gate.cells b_183.Gates)), (.sl (List.map int1 b_183.Bins))]]))), (n_231, (some (.cells 2 89 [[(int e_239.At), (int e_239.Bin)]])))]) rfl (hs_cons (hl_ne (j := 0) (i := n_231) (by omega) (hl_self _ _ _)) (hs_cons (hl_self _ _ _) hs_nil)) ?_))
                repeat refine SatL.seq ?_
                refine SatL.draw [1, 3, 88] [] [] [some 49, some 50, some 51, some 52, some 53, some 54, some 55, some 56, some 57, some 58, some 59, some 60, some 61, some 62, some 63, some 64, some 65, some 66, some 67, some 68, some 69, some 70, some 71, some 72, some 73, some 74, some 75, some 76, some 77, some 78, some 79, some 80, some 81, some 82, some 83, some 84, some 85, some 86, some 87, some 88] rfl (by kernel_rfl) (by kernel_rfl) rfl rfl fun K611 hK611 => ?_
                refine dd_step (ds_r0 _ rfl rfl (fun _ hK => s_faOwn (j' := 0) fld_89_0 rfl rfl (isC (hl_ne (j := n_231) (i := 0) (by omega) (hl_self _ _ _))) hK) ?_)
                refine dd_step (ds_r0 _ rfl rfl (fun _ hK => s_load1 (c := (int e_239.At)) agg_3 (d_own rfl (hl_ne (j := n_231) (i := 0) (by omega) (hl_self _ _ _)) rfl rfl) rfl hK) ?_)
                refine dd_step (ds_r0 _ rfl rfl (fun _ hK => s_faOwn (j' := 1) fld_25_1 rfl rfl (isC (hl_self _ _ _)) hK) ?_)
                refine dd_step (ds_r0 _ rfl rfl (fun _ hK => s_load1 (c := (int b_183.Camera)) agg_3 (d_own rfl (hl_self _ _ _) rfl rfl) rfl hK) ?_)
                refine dd_step (ds_r0 _ rfl rfl (fun _ hK => s_bin rfl rfl (b_add64 hK)) ?_)
                refine dd_step (ds_r0 _ rfl rfl (fun _ hK => s_faOwn (j' := 0) fld_25_0 rfl rfl (isC (hl_self _ _ _)) hK) ?_)
                refine dd_step (ds_r0 _ rfl rfl (fun _ hK => s_load1 (c := (int b_183.Length)) agg_3 (d_own rfl (hl_self _ _ _) rfl rfl) rfl hK) ?_)
                refine dd_step (ds_r0 _ rfl rfl (fun _ hK => s_bin rfl rfl (b_sub64 hK)) ?_)
                obtain ⟨r_240, hr_240, H1⟩ := bindS H1
                refine dd_step (ds_r0 _ rfl rfl (fun _ hK => s_call (avs := [(int e_239.At), (int (w64 (b_183.Camera + 1))), (int (w64 (b_183.Length - 1)))]) rfl rfl rfl (PC.call1 (ref09_within_PC hr_240) (FreeL.cons (.sc _) (FreeL.cons (.sc _) (FreeL.cons (.sc _) FreeL.nil))) hK)) ?_)
                refine dd_step (ds_r0 _ rfl rfl (fun _ hK => s_not rfl hK) ?_)
                refine dd_step (ds_r0 _ rfl rfl (fun _ hK => s_mv (v := (bool (!r_240))) rfl hK) ?_)
                refine dd_split rfl _ rfl (fun g623 => ?_) (fun g623 => ?_)
                ·
                  replace H1 := iteF H1 (by simpa using g623)
                  refine ds_r0 _ rfl rfl (fun _ hK => s_mv (v := (int i_230)) rfl hK) ?_
                  refine dd_on rfl rfl (ds_r0 _ rfl rfl (fun _ hK => s_bin rfl rfl (b_gtr hK)) ?_)
                  refine dd_on rfl rfl (ds_r0 _ rfl rfl (fun _ hK => s_mv (v := (bool (decide (0 < i_230)))) rfl hK) ?_)
                  refine dd_split rfl _ rfl (fun g627 => ?_) (fun g627 => ?_)
                  ·
                    replace H1 := iteT H1 (by simpa using g627)
                    refine ds_r0 _ rfl rfl (fun _ hK => s_faOwn (j' := 0) fld_89_0 rfl rfl (isC (hl_ne (j := n_231) (i := 0) (by omega) (hl_self _ _ _))) hK) ?_
                    refine dd_on rfl rfl (ds_r0 _ rfl rfl (fun _ hK => s_load1 (c := (int e_239.At)) agg_3 (d_own rfl (hl_ne (j := n_231) (i := 0) (by omega) (hl_self _ _ _)) rfl rfl) rfl hK) ?_)
                    refine dd_on rfl rfl (ds_r0 _ rfl rfl (fun _ hK => s_faOwn (j' := 3) fld_25_3 rfl rfl (isC (hl_self _ _ _)) hK) ?_)
                    refine dd_on rfl rfl (ds_r0 _ rfl rfl (fun _ hK => s_load1 (c := (.sl (List.map Gate.cells b_183.Gates))) agg_22 (d_own rfl (hl_self _ _ _) rfl rfl) rfl hK) ?_)
                    refine dd_on rfl rfl (ds_r0 _ rfl rfl (fun _ hK => s_mv (v := (int i_230)) rfl hK) ?_)
                    refine dd_on rfl rfl (ds_r0 _ rfl rfl (fun _ hK => s_bin rfl rfl (b_sub64 hK)) ?_)
                    obtain ⟨e_241, he_241, H1⟩ := bindS H1
                    refine dd_on rfl rfl (ds_r0 _ rfl rfl (fun _ hK => s_ixSl elem_22 rfl rfl he_241 cells_89 rfl (by decide) hK) ?_)
                    refine dd_on rfl rfl (ds_r0 _ rfl rfl (fun _ hK => s_faFp (cs' := [(int e_241.At), (int e_241.Bin)]) fld_89_0 rfl rfl hK) ?_)
                    refine dd_on rfl rfl (ds_r0 _ rfl rfl (fun _ hK => s_load1 (c := (int e_241.At)) agg_3 (d_fp rfl) rfl hK) ?_)
                    refine dd_on rfl rfl (ds_r0 _ rfl rfl (fun _ hK => s_bin rfl rfl (b_leq hK)) ?_)
                    refine dd_on rfl rfl (ds_r0 _ rfl rfl (fun _ hK => s_pickT (v := (bool (decide (e_239.At ≤ e_241.At)))) rfl rfl hK) ?_)
                    refine dd_step (ds_r0 _ rfl rfl (fun _ hK => s_pickF (v := (bool (decide (e_239.At ≤ e_241.At)))) rfl rfl hK) ?_)
                    refine dd_step (ds_r0 _ rfl rfl (fun _ hK => s_mv (v := (bool (decide (e_239.At ≤ e_241.At)))) rfl hK) ?_)
                    refine dd_split rfl _ rfl (fun g641 => ?_) (fun g641 => ?_)
                    ·
                      replace H1 := iteF H1 (by simpa using g641)
                      refine ds_r0 _ rfl rfl (fun _ hK => s_faOwn (j' := 1) fld_89_1 rfl rfl (isC (hl_ne (j := n_231) (i := 0) (by omega) (hl_self _ _ _))) hK) ?_
                      refine dd_on rfl rfl (ds_r0 _ rfl rfl (fun _ hK => s_load1 (c := (int e_239.Bin)) agg_3 (d_own rfl (hl_ne (j := n_231) (i := 0) (by omega) (hl_self _ _ _)) rfl rfl) rfl hK) ?_)
                      obtain ⟨r_242, hr_242, H1⟩ := bindS H1
                      refine dd_on rfl rfl (ds_r0 _ rfl rfl (fun _ hK => s_call (avs := [(int e_239.Bin), (int 0), (int 7)]) rfl rfl rfl (PC.call1 (ref09_within_PC hr_242) (FreeL.cons (.sc _) (FreeL.cons (.sc _) (FreeL.cons (.sc _) FreeL.nil))) hK)) ?_)
                      refine dd_on rfl rfl (ds_r0 _ rfl rfl (fun _ hK => s_not rfl hK) ?_)
                      refine dd_step (ds_r0 _ rfl rfl (fun _ hK => s_pickF (v := (bool (!r_242))) rfl rfl hK) ?_)
                      refine dd_step (ds_r0 _ rfl rfl (fun _ hK => s_mv (v := (bool (!r_242))) rfl hK) ?_)
                      refine dd_split rfl _ rfl (fun g648 => ?_) (fun g648 => ?_)
                      ·
                        replace H1 := iteF H1 (by simpa using g648)
                        refine ds_r0 _ rfl rfl (fun _ hK => s_loadA (cs' := [(int b_183.Length), (int b_183.Camera), (int b_183.Slow), (.sl (List.map Gate.cells b_183.Gates)), (.sl (List.map int1 b_183.Bins))]) agg_25 cells_25 (d_own rfl (hl_self _ _ _) rfl rfl) (Nat.le_of_ble_eq_true rfl) rfl hK) ?_
                        refine dd_on rfl rfl (ds_r0 _ rfl rfl (fun _ hK => s_faOwn (j' := 1) fld_89_1 rfl rfl (isC (hl_ne (j := n_231) (i := 0) (by omega) (hl_self _ _ _))) hK) ?_)
                        refine dd_on rfl rfl (ds_r0 _ rfl rfl (fun _ hK => s_load1 (c := (int e_239.Bin)) agg_3 (d_own rfl (hl_ne (j := n_231) (i := 0) (by omega) (hl_self _ _ _)) rfl rfl) rfl hK) ?_)
                        obtain ⟨r_243, hr_243, H1⟩ := bindS H1
                        refine dd_on rfl rfl (ds_r0 _ rfl rfl (fun _ hK => s_call (avs := [(.ag [(int b_183.Length), (int b_183.Camera), (int b_183.Slow), (.sl (List.map Gate.cells b_183.Gates)), (.sl (List.map int1 b_183.Bins))]), (int e_239.Bin)]) rfl rfl rfl (PC.call1 (ref09_Leads_PC hr_243) (FreeL.cons (Free.agl (FreeL.cons (.sc _) (FreeL.cons (.sc _) (FreeL.cons (.sc _) (FreeL.cons (Free.slm Gate.fr) (FreeL.cons (Free.slm fr_int1) FreeL.nil)))))) (FreeL.cons (.sc _) FreeL.nil)) hK)) ?_)
                        refine dd_on rfl rfl (ds_r0 _ rfl rfl (fun _ hK => s_mv (v := (int i_230)) rfl hK) ?_)
                        refine dd_on rfl rfl (ds_r0 _ rfl rfl (fun _ hK => s_bin rfl rfl (b_neq hK)) ?_)
                        refine dd_step (ds_r0 _ rfl rfl (fun _ hK => s_pickF (v := (bool (r_243 != i_230))) rfl rfl hK) ?_)
                        refine dd_end rc_nil (hK611 _ (SatL.norm (n := (n_231 + 1)) (h := hl [(0, (some (.cells 5 25 [[(int b_183.Length), (int b_183.Camera), (int b_183.Slow), (.sl (List.map Gate.cells b_183.Gates)), (.sl (List.map int1 b_183.Bins))]]))), (n_231, (some (.cells 2 89 [[(int e_239.At), (int e_239.Bin)]])))]) (env' := [(1, (.own 0 0 0)), (3, (int i_230)), (88, (bool (r_243 != i_230)))]) (L' := [(0, (some (.cells 5 25 [[(int b_183.Length), (int b_183.Camera), (int b_183.Slow), (.sl (List.map Gate.cells b_183.Gates)), (.sl (List.map int1 b_183.Bins))]])))]) rfl (hs_cons (hl_self _ _ _) hs_nil) ?_))
                        repeat refine SatL.seq ?_
                        refine SatL.condX rfl (fun hc656 => ?_) (fun hc656 => ?_)
                        ·
                          replace H1 := iteT H1 hc656
                          repeat refine SatL.seq ?_
                          refine SatL.reg [2] [some 2] rfl rfl fun K657 hK657 => ?_
                          refine aopsS_step fun _ hK => s_as (v := (bool false)) rfl (hK _ _ _ ?_)
                          clear hK
                          refine aopsS_end (hK657 _ (SatL.norm (n := (n_231 + 1)) (h := hl [(0, (some (.cells 5 25 [[(int b_183.Length), (int b_183.Camera), (int b_183.Slow), (.sl (List.map Gate.cells b_183.Gates)), (.sl (List.map int1 b_183.Bins))]])))]) (env' := [(2, (bool false))]) (L' := []) rfl hs_nil ?_))
                          obtain rfl := Option.some.inj H1
                          obtain rfl := Option.some.inj H0
                          exact SatL.ret (fnQ_snap (bool false) (bool false) rfl (Snap.free _ (.sc _)) rfl)
                        ·
                          replace H1 := iteF H1 hc656
                          refine SatL.skip ?_
                          refine SatL.nil (blockN (thenN ?_))
                          repeat refine SatL.seq ?_
                          refine SatL.rege [some 42, some 43, some 3] rfl rfl fun K659 hK659 => ?_
                          refine aopsS_step fun _ hK => s_mv (v := (int i_230)) rfl (hK _ _ _ ?_)
                          clear hK
                          refine aopsS_step fun _ hK => s_bin rfl rfl (b_add64 (hK _ _ _ ?_))
                          clear hK
                          refine aopsS_step fun _ hK => s_as (v := (int (w64 (i_230 + 1)))) rfl (hK _ _ _ ?_)
                          clear hK
                          refine aopsS_end (hK659 _ ?_)
                          have hw663 : w64 (i_230 + 1) = i_230 + 1 := w64_id (by omega) (by omega)
                          exact (thenN ⟨k0, ⟨(w64 (i_230 + 1)), (n_231 + 1), (StLe.of [(0, (some (.cells 5 25 [[(int b_183.Length), (int b_183.Camera), (int b_183.Slow), (.sl (List.map Gate.cells b_183.Gates)), (.sl (List.map int1 b_183.Bins))]])))] (n_231 + 1) rfl (hs_cons (hl_self _ _ _) hs_nil) (Nat.le_refl _)), (by omega), (by omega), (by rw [hw663]; omega), (Eq.mpr (congrArg (fun q_ => ref09_Belt_L0 b_183 k0 q_ = some o_222) hw663) H1)⟩, by omega⟩)
                      ·
                        replace H1 := iteT H1 (by simpa using g648)
                        refine dd_off rfl rfl ?_
                        refine dd_off rfl rfl ?_
                        refine dd_off rfl rfl ?_
                        refine dd_off rfl rfl ?_
                        refine dd_off rfl rfl ?_
                        refine dd_step (ds_r0 _ rfl rfl (fun _ hK => s_pickT (v := (bool true)) rfl rfl hK) ?_)
                        refine dd_end rc_nil (hK611 _ (SatL.norm (n := (n_231 + 1)) (h := hl [(0, (some (.cells 5 25 [[(int b_183.Length), (int b_183.Camera), (int b_183.Slow), (.sl (List.map Gate.cells b_183.Gates)), (.sl (List.map int1 b_183.Bins))]]))), (n_231, (some (.cells 2 89 [[(int e_239.At), (int e_239.Bin)]])))]) (env' := [(1, (.own 0 0 0)), (3, (int i_230)), (88, (bool true))]) (L' := [(0, (some (.cells 5 25 [[(int b_183.Length), (int b_183.Camera), (int b_183.Slow), (.sl (List.map Gate.cells b_183.Gates)), (.sl (List.map int1 b_183.Bins))]])))]) rfl (hs_cons (hl_self _ _ _) hs_nil) ?_))
                        repeat refine SatL.seq ?_
                        refine SatL.condT rfl rfl ?_
                        repeat refine SatL.seq ?_
                        refine SatL.reg [2] [some 2] rfl rfl fun K665 hK665 => ?_
                        refine aopsS_step fun _ hK => s_as (v := (bool false)) rfl (hK _ _ _ ?_)
                        clear hK
                        refine aopsS_end (hK665 _ (SatL.norm (n := (n_231 + 1)) (h := hl [(0, (some (.cells 5 25 [[(int b_183.Length), (int b_183.Camera), (int b_183.Slow), (.sl (List.map Gate.cells b_183.Gates)), (.sl (List.map int1 b_183.Bins))]])))]) (env' := [(2, (bool false))]) (L' := []) rfl hs_nil ?_))
                        obtain rfl := Option.some.inj H1
                        obtain rfl := Option.some.inj H0
                        exact SatL.ret (fnQ_snap (bool false) (bool false) rfl (Snap.free _ (.sc _)) rfl)
                    ·
                      replace H1 := iteT H1 (by simpa using g641)
                      refine dd_off rfl rfl ?_
                      refine dd_off rfl rfl ?_
                      refine dd_off rfl rfl ?_
                      refine dd_step (ds_r0 _ rfl rfl (fun _ hK => s_pickT (v := (bool true)) rfl rfl hK) ?_)
                      refine dd_step (ds_r0 _ rfl rfl (fun _ hK => s_mv (v := (bool true)) rfl hK) ?_)
                      refine dd_off rfl rfl ?_
                      refine dd_off rfl rfl ?_
                      refine dd_off rfl rfl ?_
                      refine dd_off rfl rfl ?_
                      refine dd_off rfl rfl ?_
                      refine dd_off rfl rfl ?_
                      refine dd_step (ds_r0 _ rfl rfl (fun _ hK => s_pickT (v := (bool true)) rfl rfl hK) ?_)
                      refine dd_end rc_nil (hK611 _ (SatL.norm (n := (n_231 + 1)) (h := hl [(0, (some (.cells 5 25 [[(int b_183.Length), (int b_183.Camera), (int b_183.Slow), (.sl (List.map Gate.cells b_183.Gates)), (.sl (List.map int1 b_183.Bins))]]))), (n_231, (some (.cells 2 89 [[(int e_239.At), (int e_239.Bin)]])))]) (env' := [(1, (.own 0 0 0)), (3, (int i_230)), (88, (bool true))]) (L' := [(0, (some (.cells 5 25 [[(int b_183.Length), (int b_183.Camera), (int b_183.Slow), (.sl (List.map Gate.cells b_183.Gates)), (.sl (List.map int1 b_183.Bins))]])))]) rfl (hs_cons (hl_self _ _ _) hs_nil) ?_))
                      repeat refine SatL.seq ?_
                      refine SatL.condT rfl rfl ?_
                      repeat refine SatL.seq ?_
                      refine SatL.reg [2] [some 2] rfl rfl fun K670 hK670 => ?_
                      refine aopsS_step fun _ hK => s_as (v := (bool false)) rfl (hK _ _ _ ?_)
                      clear hK
                      refine aopsS_end (hK670 _ (SatL.norm (n := (n_231 + 1)) (h := hl [(0, (some (.cells 5 25 [[(int b_183.Length), (int b_183.Camera), (int b_183.Slow), (.sl (List.map Gate.cells b_183.Gates)), (.sl (List.map int1 b_183.Bins))]])))]) (env' := [(2, (bool false))]) (L' := []) rfl hs_nil ?_))
                      obtain rfl := Option.some.inj H1
                      obtain rfl := Option.some.inj H0
                      exact SatL.ret (fnQ_snap (bool false) (bool false) rfl (Snap.free _ (.sc _)) rfl)
                  ·
                    replace H1 := iteF H1 (by simpa using g627)
                    refine dd_off rfl rfl ?_
                    refine dd_off rfl rfl ?_
                    refine dd_off rfl rfl ?_
                    refine dd_off rfl rfl ?_
                    refine dd_off rfl rfl ?_
                    refine dd_off rfl rfl ?_
                    refine dd_off rfl rfl ?_
                    refine dd_off rfl rfl ?_
                    refine dd_off rfl rfl ?_
                    refine dd_on rfl rfl (ds_r0 _ rfl rfl (fun _ hK => s_pickF (v := (bool false)) rfl rfl hK) ?_)
                    refine dd_step (ds_r0 _ rfl rfl (fun _ hK => s_pickF (v := (bool false)) rfl rfl hK) ?_)
                    refine dd_step (ds_r0 _ rfl rfl (fun _ hK => s_mv (v := (bool false)) rfl hK) ?_)
                    refine dd_on rfl rfl (ds_r0 _ rfl rfl (fun _ hK => s_faOwn (j' := 1) fld_89_1 rfl rfl (isC (hl_ne (j := n_231) (i := 0) (by omega) (hl_self _ _ _))) hK) ?_)
                    refine dd_on rfl rfl (ds_r0 _ rfl rfl (fun _ hK => s_load1 (c := (int e_239.Bin)) agg_3 (d_own rfl (hl_ne (j := n_231) (i := 0) (by omega) (hl_self _ _ _)) rfl rfl) rfl hK) ?_)
                    obtain ⟨r_244, hr_244, H1⟩ := bindS H1
                    refine dd_on rfl rfl (ds_r0 _ rfl rfl (fun _ hK => s_call (avs := [(int e_239.Bin), (int 0), (int 7)]) rfl rfl rfl (PC.call1 (ref09_within_PC hr_244) (FreeL.cons (.sc _) (FreeL.cons (.sc _) (FreeL.cons (.sc _) FreeL.nil))) hK)) ?_)
                    refine dd_on rfl rfl (ds_r0 _ rfl rfl (fun _ hK => s_not rfl hK) ?_)
                    refine dd_step (ds_r0 _ rfl rfl (fun _ hK => s_pickF (v := (bool (!r_244))) rfl rfl hK) ?_)
                    refine dd_step (ds_r0 _ rfl rfl (fun _ hK => s_mv (v := (bool (!r_244))) rfl hK) ?_)
                    refine dd_split rfl _ rfl (fun g681 => ?_) (fun g681 => ?_)
                    ·
                      replace H1 := iteF H1 (by simpa using g681)
                      refine ds_r0 _ rfl rfl (fun _ hK => s_loadA (cs' := [(int b_183.Length), (int b_183.Camera), (int b_183.Slow), (.sl (List.map Gate.cells b_183.Gates)), (.sl (List.map int1 b_183.Bins))]) agg_25 cells_25 (d_own rfl (hl_self _ _ _) rfl rfl) (Nat.le_of_ble_eq_true rfl) rfl hK) ?_
                      refine dd_on rfl rfl (ds_r0 _ rfl rfl (fun _ hK => s_faOwn (j' := 1) fld_89_1 rfl rfl (isC (hl_ne (j := n_231) (i := 0) (by omega) (hl_self _ _ _))) hK) ?_)
                      refine dd_on rfl rfl (ds_r0 _ rfl rfl (fun _ hK => s_load1 (c := (int e_239.Bin)) agg_3 (d_own rfl (hl_ne (j := n_231) (i := 0) (by omega) (hl_self _ _ _)) rfl rfl) rfl hK) ?_)
                      obtain ⟨r_245, hr_245, H1⟩ := bindS H1
                      refine dd_on rfl rfl (ds_r0 _ rfl rfl (fun _ hK => s_call (avs := [(.ag [(int b_183.Length), (int b_183.Camera), (int b_183.Slow), (.sl (List.map Gate.cells b_183.Gates)), (.sl (List.map int1 b_183.Bins))]), (int e_239.Bin)]) rfl rfl rfl (PC.call1 (ref09_Leads_PC hr_245) (FreeL.cons (Free.agl (FreeL.cons (.sc _) (FreeL.cons (.sc _) (FreeL.cons (.sc _) (FreeL.cons (Free.slm Gate.fr) (FreeL.cons (Free.slm fr_int1) FreeL.nil)))))) (FreeL.cons (.sc _) FreeL.nil)) hK)) ?_)
                      refine dd_on rfl rfl (ds_r0 _ rfl rfl (fun _ hK => s_mv (v := (int i_230)) rfl hK) ?_)
                      refine dd_on rfl rfl (ds_r0 _ rfl rfl (fun _ hK => s_bin rfl rfl (b_neq hK)) ?_)
                      refine dd_step (ds_r0 _ rfl rfl (fun _ hK => s_pickF (v := (bool (r_245 != i_230))) rfl rfl hK) ?_)
                      refine dd_end rc_nil (hK611 _ (SatL.norm (n := (n_231 + 1)) (h := hl [(0, (some (.cells 5 25 [[(int b_183.Length), (int b_183.Camera), (int b_183.Slow), (.sl (List.map Gate.cells b_183.Gates)), (.sl (List.map int1 b_183.Bins))]]))), (n_231, (some (.cells 2 89 [[(int e_239.At), (int e_239.Bin)]])))]) (env' := [(1, (.own 0 0 0)), (3, (int i_230)), (88, (bool (r_245 != i_230)))]) (L' := [(0, (some (.cells 5 25 [[(int b_183.Length), (int b_183.Camera), (int b_183.Slow), (.sl (List.map Gate.cells b_183.Gates)), (.sl (List.map int1 b_183.Bins))]])))]) rfl (hs_cons (hl_self _ _ _) hs_nil) ?_))
                      repeat refine SatL.seq ?_
                      refine SatL.condX rfl (fun hc689 => ?_) (fun hc689 => ?_)
                      ·
                        replace H1 := iteT H1 hc689
                        repeat refine SatL.seq ?_
                        refine SatL.reg [2] [some 2] rfl rfl fun K690 hK690 => ?_
                        refine aopsS_step fun _ hK => s_as (v := (bool false)) rfl (hK _ _ _ ?_)
                        clear hK
                        refine aopsS_end (hK690 _ (SatL.norm (n := (n_231 + 1)) (h := hl [(0, (some (.cells 5 25 [[(int b_183.Length), (int b_183.Camera), (int b_183.Slow), (.sl (List.map Gate.cells b_183.Gates)), (.sl (List.map int1 b_183.Bins))]])))]) (env' := [(2, (bool false))]) (L' := []) rfl hs_nil ?_))
                        obtain rfl := Option.some.inj H1
                        obtain rfl := Option.some.inj H0
                        exact SatL.ret (fnQ_snap (bool false) (bool false) rfl (Snap.free _ (.sc _)) rfl)
                      ·
                        replace H1 := iteF H1 hc689
                        refine SatL.skip ?_
                        refine SatL.nil (blockN (thenN ?_))
                        repeat refine SatL.seq ?_
                        refine SatL.rege [some 42, some 43, some 3] rfl rfl fun K692 hK692 => ?_
                        refine aopsS_step fun _ hK => s_mv (v := (int i_230)) rfl (hK _ _ _ ?_)
                        clear hK
                        refine aopsS_step fun _ hK => s_bin rfl rfl (b_add64 (hK _ _ _ ?_))
                        clear hK
                        refine aopsS_step fun _ hK => s_as (v := (int (w64 (i_230 + 1)))) rfl (hK _ _ _ ?_)
                        clear hK
                        refine aopsS_end (hK692 _ ?_)
                        have hw696 : w64 (i_230 + 1) = i_230 + 1 := w64_id (by omega) (by omega)
                        exact (thenN ⟨k0, ⟨(w64 (i_230 + 1)), (n_231 + 1), (StLe.of [(0, (some (.cells 5 25 [[(int b_183.Length), (int b_183.Camera), (int b_183.Slow), (.sl (List.map Gate.cells b_183.Gates)), (.sl (List.map int1 b_183.Bins))]])))] (n_231 + 1) rfl (hs_cons (hl_self _ _ _) hs_nil) (Nat.le_refl _)), (by omega), (by omega), (by rw [hw696]; omega), (Eq.mpr (congrArg (fun q_ => ref09_Belt_L0 b_183 k0 q_ = some o_222) hw696) H1)⟩, by omega⟩)
                    ·
                      replace H1 := iteT H1 (by simpa using g681)
                      refine dd_off rfl rfl ?_
                      refine dd_off rfl rfl ?_
                      refine dd_off rfl rfl ?_
                      refine dd_off rfl rfl ?_
                      refine dd_off rfl rfl ?_
                      refine dd_step (ds_r0 _ rfl rfl (fun _ hK => s_pickT (v := (bool true)) rfl rfl hK) ?_)
                      refine dd_end rc_nil (hK611 _ (SatL.norm (n := (n_231 + 1)) (h := hl [(0, (some (.cells 5 25 [[(int b_183.Length), (int b_183.Camera), (int b_183.Slow), (.sl (List.map Gate.cells b_183.Gates)), (.sl (List.map int1 b_183.Bins))]]))), (n_231, (some (.cells 2 89 [[(int e_239.At), (int e_239.Bin)]])))]) (env' := [(1, (.own 0 0 0)), (3, (int i_230)), (88, (bool true))]) (L' := [(0, (some (.cells 5 25 [[(int b_183.Length), (int b_183.Camera), (int b_183.Slow), (.sl (List.map Gate.cells b_183.Gates)), (.sl (List.map int1 b_183.Bins))]])))]) rfl (hs_cons (hl_self _ _ _) hs_nil) ?_))
                      repeat refine SatL.seq ?_
                      refine SatL.condT rfl rfl ?_
                      repeat refine SatL.seq ?_
                      refine SatL.reg [2] [some 2] rfl rfl fun K698 hK698 => ?_
                      refine aopsS_step fun _ hK => s_as (v := (bool false)) rfl (hK _ _ _ ?_)
                      clear hK
                      refine aopsS_end (hK698 _ (SatL.norm (n := (n_231 + 1)) (h := hl [(0, (some (.cells 5 25 [[(int b_183.Length), (int b_183.Camera), (int b_183.Slow), (.sl (List.map Gate.cells b_183.Gates)), (.sl (List.map int1 b_183.Bins))]])))]) (env' := [(2, (bool false))]) (L' := []) rfl hs_nil ?_))
                      obtain rfl := Option.some.inj H1
                      obtain rfl := Option.some.inj H0
                      exact SatL.ret (fnQ_snap (bool false) (bool false) rfl (Snap.free _ (.sc _)) rfl)
                ·
                  replace H1 := iteT H1 (by simpa using g623)
                  refine dd_off rfl rfl ?_
                  refine dd_off rfl rfl ?_
                  refine dd_ud rfl rfl ?_
                  refine dd_ud rfl rfl ?_
                  refine dd_ud rfl rfl ?_
                  refine dd_ud rfl rfl ?_
                  refine dd_ud rfl rfl ?_
                  refine dd_ud rfl rfl ?_
                  refine dd_ud rfl rfl ?_
                  refine dd_ud rfl rfl ?_
                  refine dd_ud rfl rfl ?_
                  refine dd_ud rfl rfl ?_
                  refine dd_off rfl rfl ?_
                  refine dd_step (ds_r0 _ rfl rfl (fun _ hK => s_pickT (v := (bool true)) rfl rfl hK) ?_)
                  refine dd_step (ds_r0 _ rfl rfl (fun _ hK => s_mv (v := (bool true)) rfl hK) ?_)
                  refine dd_off rfl rfl ?_
                  refine dd_off rfl rfl ?_
                  refine dd_off rfl rfl ?_
                  refine dd_off rfl rfl ?_
                  refine dd_step (ds_r0 _ rfl rfl (fun _ hK => s_pickT (v := (bool true)) rfl rfl hK) ?_)
                  refine dd_step (ds_r0 _ rfl rfl (fun _ hK => s_mv (v := (bool true)) rfl hK) ?_)
                  refine dd_off rfl rfl ?_
                  refine dd_off rfl rfl ?_
                  refine dd_off rfl rfl ?_
                  refine dd_off rfl rfl ?_
                  refine dd_off rfl rfl ?_
                  refine dd_off rfl rfl ?_
                  refine dd_step (ds_r0 _ rfl rfl (fun _ hK => s_pickT (v := (bool true)) rfl rfl hK) ?_)
                  refine dd_end rc_nil (hK611 _ (SatL.norm (n := (n_231 + 1)) (h := hl [(0, (some (.cells 5 25 [[(int b_183.Length), (int b_183.Camera), (int b_183.Slow), (.sl (List.map Gate.cells b_183.Gates)), (.sl (List.map int1 b_183.Bins))]]))), (n_231, (some (.cells 2 89 [[(int e_239.At), (int e_239.Bin)]])))]) (env' := [(1, (.own 0 0 0)), (3, (int i_230)), (88, (bool true))]) (L' := [(0, (some (.cells 5 25 [[(int b_183.Length), (int b_183.Camera), (int b_183.Slow), (.sl (List.map Gate.cells b_183.Gates)), (.sl (List.map int1 b_183.Bins))]])))]) rfl (hs_cons (hl_self _ _ _) hs_nil) ?_))
                  repeat refine SatL.seq ?_
                  refine SatL.condT rfl rfl ?_
                  repeat refine SatL.seq ?_
                  refine SatL.reg [2] [some 2] rfl rfl fun K705 hK705 => ?_
                  refine aopsS_step fun _ hK => s_as (v := (bool false)) rfl (hK _ _ _ ?_)
                  clear hK
                  refine aopsS_end (hK705 _ (SatL.norm (n := (n_231 + 1)) (h := hl [(0, (some (.cells 5 25 [[(int b_183.Length), (int b_183.Camera), (int b_183.Slow), (.sl (List.map Gate.cells b_183.Gates)), (.sl (List.map int1 b_183.Bins))]])))]) (env' := [(2, (bool false))]) (L' := []) rfl hs_nil ?_))
                  obtain rfl := Option.some.inj H1
                  obtain rfl := Option.some.inj H0
                  exact SatL.ret (fnQ_snap (bool false) (bool false) rfl (Snap.free _ (.sc _)) rfl)
            ·
              rintro s_ ⟨n_221, rfl, hs_, _⟩
              refine SatL.le hs_ ?_
              clear hs_
              replace H0 := sumun0S H0
              repeat refine SatL.seq ?_
              refine SatL.reg [1, 5] [some 5] rfl rfl fun K707 hK707 => ?_
              refine aopsS_step fun _ hK => s_as (v := (int 0)) rfl (hK _ _ _ ?_)
              clear hK
              refine aopsS_end (hK707 _ (SatL.norm (n := n_221) (h := hl [(0, (some (.cells 5 25 [[(int b_183.Length), (int b_183.Camera), (int b_183.Slow), (.sl (List.map Gate.cells b_183.Gates)), (.sl (List.map int1 b_183.Bins))]])))]) (env' := [(1, (.own 0 0 0)), (5, (int 0))]) (L' := [(0, (some (.cells 5 25 [[(int b_183.Length), (int b_183.Camera), (int b_183.Slow), (.sl (List.map Gate.cells b_183.Gates)), (.sl (List.map int1 b_183.Bins))]])))]) rfl hs_refl ?_))
              repeat refine SatL.seq ?_
              obtain ⟨o_253, H1, H0⟩ := bindS H0
              refine SatL.mid [] (fun s_ => (Sum.inr ()) = o_253 ∧ StLe s_ [] [] n_221) ?_ ?_
              ·
                repeat refine SatL.seq ?_
                refine SatL.block ?_
                repeat refine SatL.seq ?_
                refine SatL.loopK [1, 5] (fun k0 s_ => ∃ (i_256 : Int), StLe s_ [(1, (.own 0 0 0)), (5, (int i_256))] [(0, (some (.cells 5 25 [[(int b_183.Length), (int b_183.Camera), (int b_183.Slow), (.sl (List.map Gate.cells b_183.Gates)), (.sl (List.map int1 b_183.Bins))]])))] n_221 ∧ 0 < n_221 ∧ 0 ≤ i_256 ∧ k0 = Int.toNat (16 - i_256) ∧ ref09_Belt_L1 b_183 k0 i_256 = some o_253) (Int.toNat (16 - 0)) ?_ ?_
                · exact ⟨0, (StLe.of [(0, (some (.cells 5 25 [[(int b_183.Length), (int b_183.Camera), (int b_183.Slow), (.sl (List.map Gate.cells b_183.Gates)), (.sl (List.map int1 b_183.Bins))]])))] n_221 rfl (hs_cons (hl_self _ _ _) hs_nil) (Nat.le_refl _)), (by omega), (by omega), rfl, H1⟩
                rintro k0 s_ ⟨i_256, hs_, _, _, hk_, H1⟩
                refine SatL.le hs_ ?_
                clear hs_
                rcases k0 with _ | k0
                ·
                  rw [ref09_Belt_L1.eq_1] at H1
                  repeat refine SatL.seq ?_
                  refine SatL.reg [1, 5, 90] [some 89, some 90] rfl rfl fun K804 hK804 => ?_
                  refine aopsS_step fun _ hK => s_mv (v := (int i_256)) rfl (hK _ _ _ ?_)
                  clear hK
                  refine aopsS_step fun _ hK => s_bin rfl rfl (b_lss (hK _ _ _ ?_))
                  clear hK
                  refine aopsS_end (hK804 _ (SatL.norm (n := n_221) (h := hl [(0, (some (.cells 5 25 [[(int b_183.Length), (int b_183.Camera), (int b_183.Slow), (.sl (List.map Gate.cells b_183.Gates)), (.sl (List.map int1 b_183.Bins))]])))]) (env' := [(1, (.own 0 0 0)), (5, (int i_256)), (90, (bool (decide (i_256 < 16))))]) (L' := [(0, (some (.cells 5 25 [[(int b_183.Length), (int b_183.Camera), (int b_183.Slow), (.sl (List.map Gate.cells b_183.Gates)), (.sl (List.map int1 b_183.Bins))]])))]) rfl hs_refl ?_))
                  repeat refine SatL.seq ?_
                  refine SatL.condF rfl (decide_eq_false (by omega)) ?_
                  refine SatL.exit ?_
                  simp only [thenQ, blockQ, if_true, reduceIte, Nat.reduceEqDiff]
                  obtain rfl := Option.some.inj H1
                  exact SatL.nil (thenN ⟨rfl, (StLe.of [(0, (some (.cells 5 25 [[(int b_183.Length), (int b_183.Camera), (int b_183.Slow), (.sl (List.map Gate.cells b_183.Gates)), (.sl (List.map int1 b_183.Bins))]])))] n_221 rfl hs_nil (Nat.le_refl _))⟩)
                ·
                  rw [ref09_Belt_L1.eq_2] at H1
                  repeat refine SatL.seq ?_
                  refine SatL.reg [1, 5, 90] [some 89, some 90] rfl rfl fun K807 hK807 => ?_
                  refine aopsS_step fun _ hK => s_mv (v := (int i_256)) rfl (hK _ _ _ ?_)
                  clear hK
                  refine aopsS_step fun _ hK => s_bin rfl rfl (b_lss (hK _ _ _ ?_))
                  clear hK
                  refine aopsS_end (hK807 _ (SatL.norm (n := n_221) (h := hl [(0, (some (.cells 5 25 [[(int b_183.Length), (int b_183.Camera), (int b_183.Slow), (.sl (List.map Gate.cells b_183.Gates)), (.sl (List.map int1 b_183.Bins))]])))]) (env' := [(1, (.own 0 0 0)), (5, (int i_256)), (90, (bool (decide (i_256 < 16))))]) (L' := [(0, (some (.cells 5 25 [[(int b_183.Length), (int b_183.Camera), (int b_183.Slow), (.sl (List.map Gate.cells b_183.Gates)), (.sl (List.map int1 b_183.Bins))]])))]) rfl hs_refl ?_))
                  repeat refine SatL.seq ?_
                  refine SatL.condT rfl (decide_eq_true (by omega)) ?_
                  have hlt810 : (i_256 < 16) := by omega
                  refine SatL.skip ?_
                  repeat refine SatL.seq ?_
                  refine SatL.block ?_
                  repeat refine SatL.seq ?_
                  refine SatL.reg [1, 5, 99] [some 93, some 94, some 95, some 96, some 97, some 98, some 99] rfl rfl fun K811 hK811 => ?_
                  refine aopsS_step fun _ hK => s_faOwn (j' := 4) fld_25_4 rfl rfl (isC (hl_self _ _ _)) (hK _ _ _ ?_)
                  clear hK
                  refine aopsS_step fun _ hK => s_load1 (c := (.sl (List.map int1 b_183.Bins))) agg_23 (d_own rfl (hl_self _ _ _) rfl rfl) rfl (hK _ _ _ ?_)
                  clear hK
                  refine aopsS_step fun _ hK => s_mv (v := (int i_256)) rfl (hK _ _ _ ?_)
                  clear hK
                  obtain ⟨e_259, he_259, H1⟩ := bindS H1
                  refine aopsS_step fun _ hK => s_ixSl elem_23 rfl rfl he_259 cells_3 rfl (by decide) (hK _ _ _ ?_)
                  clear hK
                  refine aopsS_step fun _ hK => s_load1 (c := (int e_259)) agg_3 (d_fp rfl) rfl (hK _ _ _ ?_)
                  clear hK
                  obtain ⟨r_260, hr_260, H1⟩ := bindS H1
                  refine aopsS_step fun _ hK => s_call (avs := [(int e_259), (int (-1)), (int 7)]) rfl rfl rfl (PC.call1 (ref09_within_PC hr_260) (FreeL.cons (.sc _) (FreeL.cons (.sc _) (FreeL.cons (.sc _) FreeL.nil))) (hK _ _ _ ?_))
                  clear hK
                  refine aopsS_step fun _ hK => s_not rfl (hK _ _ _ ?_)
                  clear hK
                  refine aopsS_end (hK811 _ (SatL.norm (n := n_221) (h := hl [(0, (some (.cells 5 25 [[(int b_183.Length), (int b_183.Camera), (int b_183.Slow), (.sl (List.map Gate.cells b_183.Gates)), (.sl (List.map int1 b_183.Bins))]])))]) (env' := [(1, (.own 0 0 0)), (5, (int i_256)), (99, (bool (!r_260)))]) (L' := [(0, (some (.cells 5 25 [[(int b_183.Length), (int b_183.Camera), (int b_183.Slow), (.sl (List.map Gate.cells b_183.Gates)), (.sl (List.map int1 b_183.Bins))]])))]) rfl hs_refl ?_))
                  repeat refine SatL.seq ?_
                  refine SatL.condX rfl (fun hc819 => ?_) (fun hc819 => ?_)
                  ·
                    replace H1 := iteT H1 hc819
                    repeat refine SatL.seq ?_
                    refine SatL.reg [2] [some 2] rfl rfl fun K820 hK820 => ?_
                    refine aopsS_step fun _ hK => s_as (v := (bool false)) rfl (hK _ _ _ ?_)
                    clear hK
                    refine aopsS_end (hK820 _ (SatL.norm (n := n_221) (h := hl [(0, (some (.cells 5 25 [[(int b_183.Length), (int b_183.Camera), (int b_183.Slow), (.sl (List.map Gate.cells b_183.Gates)), (.sl (List.map int1 b_183.Bins))]])))]) (env' := [(2, (bool false))]) (L' := []) rfl hs_nil ?_))
                    obtain rfl := Option.some.inj H1
                    obtain rfl := Option.some.inj H0
                    exact SatL.ret (fnQ_snap (bool false) (bool false) rfl (Snap.free _ (.sc _)) rfl)
                  ·
                    replace H1 := iteF H1 hc819
                    refine SatL.skip ?_
                    refine SatL.nil (blockN (thenN ?_))
                    repeat refine SatL.seq ?_
                    refine SatL.rege [some 91, some 92, some 5] rfl rfl fun K822 hK822 => ?_
                    refine aopsS_step fun _ hK => s_mv (v := (int i_256)) rfl (hK _ _ _ ?_)
                    clear hK
                    refine aopsS_step fun _ hK => s_bin rfl rfl (b_add64 (hK _ _ _ ?_))
                    clear hK
                    refine aopsS_step fun _ hK => s_as (v := (int (w64 (i_256 + 1)))) rfl (hK _ _ _ ?_)
                    clear hK
                    refine aopsS_end (hK822 _ ?_)
                    have hw826 : w64 (i_256 + 1) = i_256 + 1 := w64_id (by omega) (by omega)
                    exact (thenN ⟨k0, ⟨(w64 (i_256 + 1)), (StLe.of [(0, (some (.cells 5 25 [[(int b_183.Length), (int b_183.Camera), (int b_183.Slow), (.sl (List.map Gate.cells b_183.Gates)), (.sl (List.map int1 b_183.Bins))]])))] n_221 rfl (hs_cons (hl_self _ _ _) hs_nil) (Nat.le_refl _)), (by omega), (by omega), (by rw [hw826]; omega), (Eq.mpr (congrArg (fun q_ => ref09_Belt_L1 b_183 k0 q_ = some o_253) hw826) H1)⟩, by omega⟩)
              ·
                rintro s_ ⟨rfl, hs_⟩
                refine SatL.le hs_ ?_
                clear hs_
                replace H0 := sumun0S H0
                repeat refine SatL.seq ?_
                refine SatL.reg [2] [some 2] rfl rfl fun K827 hK827 => ?_
                refine aopsS_step fun _ hK => s_as (v := (bool true)) rfl (hK _ _ _ ?_)
                clear hK
                refine aopsS_end (hK827 _ (SatL.norm (n := n_221) (h := hl []) (env' := [(2, (bool true))]) (L' := []) rfl hs_refl ?_))
                obtain rfl := Option.some.inj H0
                exact SatL.ret (fnQ_snap (bool true) (bool true) rfl (Snap.free _ (.sc _)) rfl)
        ·
          replace H0 := iteT H0 (by simpa using g34)
          refine aopsS_off rfl rfl ?_
          refine aopsS_off rfl rfl ?_
          refine aopsS_off rfl rfl ?_
          refine aopsS_step fun _ hK => s_pickT (v := (bool true)) rfl rfl (hK _ _ _ ?_)
          clear hK
          refine aopsS_end (hK4 _ (SatL.norm (n := 1) (h := hl [(0, (some (.cells 5 25 [[(int b_183.Length), (int b_183.Camera), (int b_183.Slow), (.sl (List.map Gate.cells b_183.Gates)), (.sl (List.map int1 b_183.Bins))]])))]) (env' := [(1, (.own 0 0 0)), (36, (bool true))]) (L' := [(0, (some (.cells 5 25 [[(int b_183.Length), (int b_183.Camera), (int b_183.Slow), (.sl (List.map Gate.cells b_183.Gates)), (.sl (List.map int1 b_183.Bins))]])))]) rfl hs_refl ?_))
          repeat refine SatL.seq ?_
          refine SatL.condT rfl rfl ?_
          repeat refine SatL.seq ?_
          refine SatL.reg [2] [some 2] rfl rfl fun K830 hK830 => ?_
          refine aopsS_step fun _ hK => s_as (v := (bool false)) rfl (hK _ _ _ ?_)
          clear hK
          refine aopsS_end (hK830 _ (SatL.norm (n := 1) (h := hl [(0, (some (.cells 5 25 [[(int b_183.Length), (int b_183.Camera), (int b_183.Slow), (.sl (List.map Gate.cells b_183.Gates)), (.sl (List.map int1 b_183.Bins))]])))]) (env' := [(2, (bool false))]) (L' := []) rfl hs_nil ?_))
          obtain rfl := Option.some.inj H0
          exact SatL.ret (fnQ_snap (bool false) (bool false) rfl (Snap.free _ (.sc _)) rfl)
      ·
        replace H0 := iteT H0 (by simpa using g27)
        refine aopsS_off rfl rfl ?_
        refine aopsS_off rfl rfl ?_
        refine aopsS_off rfl rfl ?_
        refine aopsS_step fun _ hK => s_pickT (v := (bool true)) rfl rfl (hK _ _ _ ?_)
        clear hK
        refine aopsS_step fun _ hK => s_mv (v := (bool true)) rfl (hK _ _ _ ?_)
        clear hK
        refine aopsS_off rfl rfl ?_
        refine aopsS_off rfl rfl ?_
        refine aopsS_off rfl rfl ?_
        refine aopsS_off rfl rfl ?_
        refine aopsS_step fun _ hK => s_pickT (v := (bool true)) rfl rfl (hK _ _ _ ?_)
        clear hK
        refine aopsS_end (hK4 _ (SatL.norm (n := 1) (h := hl [(0, (some (.cells 5 25 [[(int b_183.Length), (int b_183.Camera), (int b_183.Slow), (.sl (List.map Gate.cells b_183.Gates)), (.sl (List.map int1 b_183.Bins))]])))]) (env' := [(1, (.own 0 0 0)), (36, (bool true))]) (L' := [(0, (some (.cells 5 25 [[(int b_183.Length), (int b_183.Camera), (int b_183.Slow), (.sl (List.map Gate.cells b_183.Gates)), (.sl (List.map int1 b_183.Bins))]])))]) rfl hs_refl ?_))
        repeat refine SatL.seq ?_
        refine SatL.condT rfl rfl ?_
        repeat refine SatL.seq ?_
        refine SatL.reg [2] [some 2] rfl rfl fun K835 hK835 => ?_
        refine aopsS_step fun _ hK => s_as (v := (bool false)) rfl (hK _ _ _ ?_)
        clear hK
        refine aopsS_end (hK835 _ (SatL.norm (n := 1) (h := hl [(0, (some (.cells 5 25 [[(int b_183.Length), (int b_183.Camera), (int b_183.Slow), (.sl (List.map Gate.cells b_183.Gates)), (.sl (List.map int1 b_183.Bins))]])))]) (env' := [(2, (bool false))]) (L' := []) rfl hs_nil ?_))
        obtain rfl := Option.some.inj H0
        exact SatL.ret (fnQ_snap (bool false) (bool false) rfl (Snap.free _ (.sc _)) rfl)
    ·
      replace H0 := iteT H0 (by simpa using g20)
      refine aopsS_off rfl rfl ?_
      refine aopsS_off rfl rfl ?_
      refine aopsS_off rfl rfl ?_
      refine aopsS_step fun _ hK => s_pickT (v := (bool true)) rfl rfl (hK _ _ _ ?_)
      clear hK
      refine aopsS_step fun _ hK => s_mv (v := (bool true)) rfl (hK _ _ _ ?_)
      clear hK
      refine aopsS_off rfl rfl ?_
      refine aopsS_off rfl rfl ?_
      refine aopsS_off rfl rfl ?_
      refine aopsS_off rfl rfl ?_
      refine aopsS_step fun _ hK => s_pickT (v := (bool true)) rfl rfl (hK _ _ _ ?_)
      clear hK
      refine aopsS_step fun _ hK => s_mv (v := (bool true)) rfl (hK _ _ _ ?_)
      clear hK
      refine aopsS_off rfl rfl ?_
      refine aopsS_off rfl rfl ?_
      refine aopsS_off rfl rfl ?_
      refine aopsS_off rfl rfl ?_
      refine aopsS_step fun _ hK => s_pickT (v := (bool true)) rfl rfl (hK _ _ _ ?_)
      clear hK
      refine aopsS_end (hK4 _ (SatL.norm (n := 1) (h := hl [(0, (some (.cells 5 25 [[(int b_183.Length), (int b_183.Camera), (int b_183.Slow), (.sl (List.map Gate.cells b_183.Gates)), (.sl (List.map int1 b_183.Bins))]])))]) (env' := [(1, (.own 0 0 0)), (36, (bool true))]) (L' := [(0, (some (.cells 5 25 [[(int b_183.Length), (int b_183.Camera), (int b_183.Slow), (.sl (List.map Gate.cells b_183.Gates)), (.sl (List.map int1 b_183.Bins))]])))]) rfl hs_refl ?_))
      repeat refine SatL.seq ?_
      refine SatL.condT rfl rfl ?_
      repeat refine SatL.seq ?_
      refine SatL.reg [2] [some 2] rfl rfl fun K842 hK842 => ?_
      refine aopsS_step fun _ hK => s_as (v := (bool false)) rfl (hK _ _ _ ?_)
      clear hK
      refine aopsS_end (hK842 _ (SatL.norm (n := 1) (h := hl [(0, (some (.cells 5 25 [[(int b_183.Length), (int b_183.Camera), (int b_183.Slow), (.sl (List.map Gate.cells b_183.Gates)), (.sl (List.map int1 b_183.Bins))]])))]) (env' := [(2, (bool false))]) (L' := []) rfl hs_nil ?_))
      obtain rfl := Option.some.inj H0
      exact SatL.ret (fnQ_snap (bool false) (bool false) rfl (Snap.free _ (.sc _)) rfl)
  ·
    replace H0 := iteT H0 (by simpa using g10)
    refine aopsS_off rfl rfl ?_
    refine aopsS_off rfl rfl ?_
    refine aopsS_off rfl rfl ?_
    refine aopsS_off rfl rfl ?_
    refine aopsS_off rfl rfl ?_
    refine aopsS_off rfl rfl ?_
    refine aopsS_step fun _ hK => s_pickT (v := (bool true)) rfl rfl (hK _ _ _ ?_)
    clear hK
    refine aopsS_step fun _ hK => s_mv (v := (bool true)) rfl (hK _ _ _ ?_)
    clear hK
    refine aopsS_off rfl rfl ?_
    refine aopsS_off rfl rfl ?_
    refine aopsS_off rfl rfl ?_
    refine aopsS_off rfl rfl ?_
    refine aopsS_step fun _ hK => s_pickT (v := (bool true)) rfl rfl (hK _ _ _ ?_)
    clear hK
    refine aopsS_step fun _ hK => s_mv (v := (bool true)) rfl (hK _ _ _ ?_)
    clear hK
    refine aopsS_off rfl rfl ?_
    refine aopsS_off rfl rfl ?_
    refine aopsS_off rfl rfl ?_
    refine aopsS_off rfl rfl ?_
    refine aopsS_step fun _ hK => s_pickT (v := (bool true)) rfl rfl (hK _ _ _ ?_)
    clear hK
    refine aopsS_step fun _ hK => s_mv (v := (bool true)) rfl (hK _ _ _ ?_)
    clear hK
    refine aopsS_off rfl rfl ?_
    refine aopsS_off rfl rfl ?_
    refine aopsS_off rfl rfl ?_
    refine aopsS_off rfl rfl ?_
    refine aopsS_step fun _ hK => s_pickT (v := (bool true)) rfl rfl (hK _ _ _ ?_)
    clear hK
    refine aopsS_end (hK4 _ (SatL.norm (n := 1) (h := hl [(0, (some (.cells 5 25 [[(int b_183.Length), (int b_183.Camera), (int b_183.Slow), (.sl (List.map Gate.cells b_183.Gates)), (.sl (List.map int1 b_183.Bins))]])))]) (env' := [(1, (.own 0 0 0)), (36, (bool true))]) (L' := [(0, (some (.cells 5 25 [[(int b_183.Length), (int b_183.Camera), (int b_183.Slow), (.sl (List.map Gate.cells b_183.Gates)), (.sl (List.map int1 b_183.Bins))]])))]) rfl hs_refl ?_))
    repeat refine SatL.seq ?_
    refine SatL.condT rfl rfl ?_
    repeat refine SatL.seq ?_
    refine SatL.reg [2] [some 2] rfl rfl fun K851 hK851 => ?_
    refine aopsS_step fun _ hK => s_as (v := (bool false)) rfl (hK _ _ _ ?_)
    clear hK
    refine aopsS_end (hK851 _ (SatL.norm (n := 1) (h := hl [(0, (some (.cells 5 25 [[(int b_183.Length), (int b_183.Camera), (int b_183.Slow), (.sl (List.map Gate.cells b_183.Gates)), (.sl (List.map int1 b_183.Bins))]])))]) (env' := [(2, (bool false))]) (L' := []) rfl hs_nil ?_))
    obtain rfl := Option.some.inj H0
    exact SatL.ret (fnQ_snap (bool false) (bool false) rfl (Snap.free _ (.sc _)) rfl)

def ref09_CheckBelt (b_182 : Belt) : Option Int :=
  (ref09_Belt b_182).bind fun r_261 => (if (!r_261) = true then (some 90) else (some 0))

theorem ref09_CheckBelt_PC {b_182 : Belt} {r : Int} (H0 : ref09_CheckBelt b_182 = some r) : PC Try.prog 19 [(.ag (Belt.cells b_182))] (· = (int r)) := by
  unfold ref09_CheckBelt at H0
  refine PC.of_bodyL [(0, (.ag (Belt.cells b_182)))] Try.func19 rfl rfl (Nat.le_of_ble_eq_true rfl) rfl fun O => ?_
  repeat refine SatL.seq ?_
  refine SatL.reg [1] [some 1, some 2] rfl rfl fun K1 hK1 => ?_
  refine aopsS_step fun _ hK => s_box (cs := [(int b_182.Length), (int b_182.Camera), (int b_182.Slow), (.sl (List.map Gate.cells b_182.Gates)), (.sl (List.map int1 b_182.Bins))]) (m := 5) (n' := 1) rfl rfl rfl (hK _ _ _ ?_)
  clear hK
  refine aopsS_step fun _ hK => s_as (v := (int 0)) rfl (hK _ _ _ ?_)
  clear hK
  refine aopsS_end (hK1 _ (SatL.norm (n := 1) (h := hl [(0, (some (.cells 5 25 [[(int b_182.Length), (int b_182.Camera), (int b_182.Slow), (.sl (List.map Gate.cells b_182.Gates)), (.sl (List.map int1 b_182.Bins))]])))]) (env' := [(1, (.own 0 0 0))]) (L' := [(0, (some (.cells 5 25 [[(int b_182.Length), (int b_182.Camera), (int b_182.Slow), (.sl (List.map Gate.cells b_182.Gates)), (.sl (List.map int1 b_182.Bins))]])))]) rfl hs_refl ?_))
  repeat refine SatL.seq ?_
  refine SatL.reg [5] [some 3, some 4, some 5] rfl rfl fun K4 hK4 => ?_
  refine aopsS_step fun _ hK => s_loadA (cs' := [(int b_182.Length), (int b_182.Camera), (int b_182.Slow), (.sl (List.map Gate.cells b_182.Gates)), (.sl (List.map int1 b_182.Bins))]) agg_25 cells_25 (d_own rfl (hl_self _ _ _) rfl rfl) (Nat.le_of_ble_eq_true rfl) rfl (hK _ _ _ ?_)
  clear hK
  obtain ⟨r_261, hr_261, H0⟩ := bindS H0
  refine aopsS_step fun _ hK => s_call (avs := [(.ag [(int b_182.Length), (int b_182.Camera), (int b_182.Slow), (.sl (List.map Gate.cells b_182.Gates)), (.sl (List.map int1 b_182.Bins))])]) rfl rfl rfl (PC.call1 (ref09_Belt_PC hr_261) (FreeL.cons (Free.agl (FreeL.cons (.sc _) (FreeL.cons (.sc _) (FreeL.cons (.sc _) (FreeL.cons (Free.slm Gate.fr) (FreeL.cons (Free.slm fr_int1) FreeL.nil)))))) FreeL.nil) (hK _ _ _ ?_))
  clear hK
  refine aopsS_step fun _ hK => s_not rfl (hK _ _ _ ?_)
  clear hK
  refine aopsS_end (hK4 _ (SatL.norm (n := 1) (h := hl [(0, (some (.cells 5 25 [[(int b_182.Length), (int b_182.Camera), (int b_182.Slow), (.sl (List.map Gate.cells b_182.Gates)), (.sl (List.map int1 b_182.Bins))]])))]) (env' := [(5, (bool (!r_261)))]) (L' := []) rfl hs_nil ?_))
  repeat refine SatL.seq ?_
  refine SatL.condX rfl (fun hc8 => ?_) (fun hc8 => ?_)
  ·
    replace H0 := iteT H0 hc8
    repeat refine SatL.seq ?_
    refine SatL.reg [2] [some 2] rfl rfl fun K9 hK9 => ?_
    refine aopsS_step fun _ hK => s_as (v := (int 90)) rfl (hK _ _ _ ?_)
    clear hK
    refine aopsS_end (hK9 _ (SatL.norm (n := 1) (h := hl []) (env' := [(2, (int 90))]) (L' := []) rfl hs_refl ?_))
    obtain rfl := Option.some.inj H0
    exact SatL.ret (fnQ_snap (int 90) (int 90) rfl (Snap.free _ (.sc _)) rfl)
  ·
    replace H0 := iteF H0 hc8
    refine SatL.skip ?_
    repeat refine SatL.seq ?_
    refine SatL.reg [2] [some 2] rfl rfl fun K11 hK11 => ?_
    refine aopsS_step fun _ hK => s_as (v := (int 0)) rfl (hK _ _ _ ?_)
    clear hK
    refine aopsS_end (hK11 _ (SatL.norm (n := 1) (h := hl []) (env' := [(2, (int 0))]) (L' := []) rfl hs_refl ?_))
    obtain rfl := Option.some.inj H0
    exact SatL.ret (fnQ_snap (int 0) (int 0) rfl (Snap.free _ (.sc _)) rfl)

def sort_CheckFed_L0 (l_263 : (List Fed)) : Nat → Int → Int → Option (Int ⊕ Unit)
  | 0, _, _ => (some (Sum.inr ()))
  | k0 + 1, least_285, x_286 => (gi l_263 x_286).bind fun e_292 => (sort_from least_285 1000 ([e_292.Tick])).bind fun r_293 => (if (!r_293) = true then (some (Sum.inl 91)) else (sort_from 0 15 ([e_292.Kind])).bind fun r_294 => (if (!r_294) = true then (some (Sum.inl 91)) else (sort_said e_292.Readings).bind fun r_295 => (if (!r_295) = true then (some (Sum.inl 91)) else sort_CheckFed_L0 l_263 k0 ((w64 (e_292.Tick + 1))) ((x_286 + 1)))))

def sort_CheckFed (l_263 : (List Fed)) : Option Int :=
  (if (decide (40 < (List.length l_263 : Int))) = true then (some 91) else (sort_CheckFed_L0 l_263 (Int.toNat ((List.length l_263 : Int) - 0)) 0 0).bind (fun s_ => sumE s_ (fun r_ => (some r_)) (fun s_ => un0 s_ ((some 0)))))

theorem sort_CheckFed_PC {l_263 : (List Fed)} {r : Int} (H0 : sort_CheckFed l_263 = some r) : PC Try.prog 20 [(.sl (List.map Fed.cells l_263))] (· = (int r)) := by
  unfold sort_CheckFed at H0
  refine PC.of_bodyL [(0, (.sl (List.map Fed.cells l_263)))] Try.func20 rfl rfl (Nat.le_of_ble_eq_true rfl) rfl fun O => ?_
  repeat refine SatL.seq ?_
  refine SatL.reg [0] [some 2] rfl rfl fun K1 hK1 => ?_
  refine aopsS_step fun _ hK => s_as (v := (int 0)) rfl (hK _ _ _ ?_)
  clear hK
  refine aopsS_end (hK1 _ (SatL.norm (n := 0) (h := hl []) (env' := [(0, (.sl (List.map Fed.cells l_263)))]) (L' := []) rfl hs_refl ?_))
  repeat refine SatL.seq ?_
  refine SatL.reg [0, 8] [some 6, some 7, some 8] rfl rfl fun K3 hK3 => ?_
  refine aopsS_step fun _ hK => s_mv (v := (.sl (List.map Fed.cells l_263))) rfl (hK _ _ _ ?_)
  clear hK
  refine aopsS_step fun _ hK => s_lenSl elem_26 rfl (fun hl5 => hK _ _ _ ?_)
  clear hK
  refine aopsS_step fun _ hK => s_bin rfl rfl (b_gtr (hK _ _ _ ?_))
  clear hK
  refine aopsS_end (hK3 _ (SatL.norm (n := 0) (h := hl []) (env' := [(0, (.sl (List.map Fed.cells l_263))), (8, (bool (decide (40 < (List.length l_263 : Int)))))]) (L' := []) rfl hs_refl ?_))
  repeat refine SatL.seq ?_
  refine SatL.condX rfl (fun hc7 => ?_) (fun hc7 => ?_)
  ·
    replace H0 := iteT H0 hc7
    repeat refine SatL.seq ?_
    refine SatL.reg [2] [some 2] rfl rfl fun K8 hK8 => ?_
    refine aopsS_step fun _ hK => s_as (v := (int 91)) rfl (hK _ _ _ ?_)
    clear hK
    refine aopsS_end (hK8 _ (SatL.norm (n := 0) (h := hl []) (env' := [(2, (int 91))]) (L' := []) rfl hs_refl ?_))
    obtain rfl := Option.some.inj H0
    exact SatL.ret (fnQ_snap (int 91) (int 91) rfl (Snap.free _ (.sc _)) rfl)
  ·
    replace H0 := iteF H0 hc7
    refine SatL.skip ?_
    repeat refine SatL.seq ?_
    refine SatL.reg [0, 3] [some 3] rfl rfl fun K10 hK10 => ?_
    refine aopsS_step fun _ hK => s_as (v := (int 0)) rfl (hK _ _ _ ?_)
    clear hK
    refine aopsS_end (hK10 _ (SatL.norm (n := 0) (h := hl []) (env' := [(0, (.sl (List.map Fed.cells l_263))), (3, (int 0))]) (L' := []) rfl hs_refl ?_))
    repeat refine SatL.seq ?_
    refine SatL.reg [3, 9, 10, 11] [some 9, some 10, some 11] rfl rfl fun K12 hK12 => ?_
    refine aopsS_step fun _ hK => s_mv (v := (.sl (List.map Fed.cells l_263))) rfl (hK _ _ _ ?_)
    clear hK
    refine aopsS_step fun _ hK => s_lenSl elem_26 rfl (fun hl14 => hK _ _ _ ?_)
    clear hK
    refine aopsS_step fun _ hK => s_mv (v := (int 0)) rfl (hK _ _ _ ?_)
    clear hK
    refine aopsS_end (hK12 _ (SatL.norm (n := 0) (h := hl []) (env' := [(3, (int 0)), (9, (.sl (List.map Fed.cells l_263))), (10, (int (List.length l_263 : Int))), (11, (int 0))]) (L' := []) rfl hs_refl ?_))
    repeat refine SatL.seq ?_
    obtain ⟨o_280, H1, H0⟩ := bindS H0
    refine SatL.mid [] (fun s_ => ∃ (n_279 : Nat), (Sum.inr ()) = o_280 ∧ StLe s_ [] [] n_279) ?_ ?_
    ·
      repeat refine SatL.seq ?_
      refine SatL.block ?_
      repeat refine SatL.seq ?_
      refine SatL.loopK [3, 9, 10, 11] (fun k0 s_ => ∃ (least_285 : Int) (x_286 : Int) (n_287 : Nat), StLe s_ [(3, (int least_285)), (9, (.sl (List.map Fed.cells l_263))), (10, (int (List.length l_263 : Int))), (11, (int x_286))] [] n_287 ∧ 0 ≤ x_286 ∧ k0 = Int.toNat ((List.length l_263 : Int) - x_286) ∧ sort_CheckFed_L0 l_263 k0 least_285 x_286 = some o_280) (Int.toNat ((List.length l_263 : Int) - 0)) ?_ ?_
      · exact ⟨0, 0, 0, (StLe.of [] 0 rfl hs_nil (Nat.le_refl _)), (by omega), rfl, H1⟩
      rintro k0 s_ ⟨least_285, x_286, n_287, hs_, _, hk_, H1⟩
      refine SatL.le hs_ ?_
      clear hs_
      rcases k0 with _ | k0
      ·
        rw [sort_CheckFed_L0.eq_1] at H1
        repeat refine SatL.seq ?_
        refine SatL.reg [3, 9, 10, 11, 12] [some 12] rfl rfl fun K261 hK261 => ?_
        refine aopsS_step fun _ hK => s_bin rfl rfl (b_lss (hK _ _ _ ?_))
        clear hK
        refine aopsS_end (hK261 _ (SatL.norm (n := n_287) (h := hl []) (env' := [(3, (int least_285)), (9, (.sl (List.map Fed.cells l_263))), (10, (int (List.length l_263 : Int))), (11, (int x_286)), (12, (bool (decide (x_286 < (List.length l_263 : Int)))))]) (L' := []) rfl hs_refl ?_))
        repeat refine SatL.seq ?_
        refine SatL.condF rfl (decide_eq_false (by omega)) ?_
        refine SatL.exit ?_
        simp only [thenQ, blockQ, if_true, reduceIte, Nat.reduceEqDiff]
        obtain rfl := Option.some.inj H1
        exact SatL.nil (thenN ⟨n_287, rfl, (StLe.of [] n_287 rfl hs_nil (Nat.le_refl _))⟩)
      ·
        rw [sort_CheckFed_L0.eq_2] at H1
        repeat refine SatL.seq ?_
        refine SatL.reg [3, 9, 10, 11, 12] [some 12] rfl rfl fun K263 hK263 => ?_
        refine aopsS_step fun _ hK => s_bin rfl rfl (b_lss (hK _ _ _ ?_))
        clear hK
        refine aopsS_end (hK263 _ (SatL.norm (n := n_287) (h := hl []) (env' := [(3, (int least_285)), (9, (.sl (List.map Fed.cells l_263))), (10, (int (List.length l_263 : Int))), (11, (int x_286)), (12, (bool (decide (x_286 < (List.length l_263 : Int)))))]) (L' := []) rfl hs_refl ?_))
        repeat refine SatL.seq ?_
        refine SatL.condT rfl (decide_eq_true (by omega)) ?_
        have hlt265 : (x_286 < (List.length l_263 : Int)) := by omega
        refine SatL.skip ?_
        repeat refine SatL.seq ?_
        refine SatL.block ?_
        repeat refine SatL.seq ?_
        refine SatL.reg [3, 5, 9, 10, 11] [some 13, some 14, some 5, none] rfl rfl fun K266 hK266 => ?_
        obtain ⟨e_292, he_292, H1⟩ := bindS H1
        refine aopsS_step fun _ hK => s_ixSl elem_26 rfl rfl he_292 cells_78 rfl (by decide) (hK _ _ _ ?_)
        clear hK
        refine aopsS_step fun _ hK => s_loadA (cs' := [(int e_292.Tick), (int e_292.Kind), (.sl (List.map int1 e_292.Readings))]) agg_78 cells_78 (d_fp rfl) (Nat.le_of_ble_eq_true rfl) rfl (hK _ _ _ ?_)
        clear hK
        refine aopsS_step fun _ hK => s_alloc (m := 3) (n' := (n_287 + 1)) zero_78 rfl rfl (hK _ _ _ ?_)
        clear hK
        refine aopsS_step0 fun _ hK => s_store (E := [[(int e_292.Tick), (int e_292.Kind), (.sl (List.map int1 e_292.Readings))]]) rfl (hl_self _ _ _) rfl rfl cells_78 rfl (by decide) (Nat.le_of_ble_eq_true rfl) rfl (hu_self _ _ _ _) (hK _ _ _ ?_)
        clear hK
        refine aopsS_end (hK266 _ (SatL.norm (n := (n_287 + 1)) (h := hl [(n_287, (some (.cells 3 78 [[(int e_292.Tick), (int e_292.Kind), (.sl (List.map int1 e_292.Readings))]])))]) (env' := [(3, (int least_285)), (5, (.own n_287 0 0)), (9, (.sl (List.map Fed.cells l_263))), (10, (int (List.length l_263 : Int))), (11, (int x_286))]) (L' := [(n_287, (some (.cells 3 78 [[(int e_292.Tick), (int e_292.Kind), (.sl (List.map int1 e_292.Readings))]])))]) rfl hs_refl ?_))
        repeat refine SatL.seq ?_
        refine SatL.reg [5, 9, 10, 11, 33] [some 15, some 16, some 17, some 18, some 19, some 20, some 21, some 22, some 23, some 24, some 25, some 26, some 27, some 28, some 29, some 30, some 31, some 32, some 33] rfl rfl fun K271 hK271 => ?_
        refine aopsS_step fun _ hK => s_mv (v := (int least_285)) rfl (hK _ _ _ ?_)
        clear hK
        refine aopsS_step fun _ hK => s_faOwn (j' := 0) fld_78_0 rfl rfl (isC (hl_self _ _ _)) (hK _ _ _ ?_)
        clear hK
        refine aopsS_step fun _ hK => s_load1 (c := (int e_292.Tick)) agg_3 (d_own rfl (hl_self _ _ _) rfl rfl) rfl (hK _ _ _ ?_)
        clear hK
        refine aopsS_step fun _ hK => s_bsl (es := [[(int e_292.Tick)]]) (n' := (n_287 + 2)) elem_23 zero_3 rfl (by decide) (by decide) rfl rfl (hK _ _ _ ?_)
        clear hK
        obtain ⟨r_293, hr_293, H1⟩ := bindS H1
        refine aopsS_step fun _ hK => s_call (avs := [(int least_285), (int 1000), (.ms (n_287 + 1) 0 1)]) rfl rfl rfl (PC.lend1 (args' := [(int least_285), (int 1000), (.sl (List.map int1 [e_292.Tick]))]) (SnapL.cons (Snap.free _ (.sc _)) (SnapL.cons (Snap.free _ (.sc _)) (SnapL.cons (Snap.msW (f := int1) (l := [e_292.Tick]) (hl_self _ _ _) rfl fr_int1) SnapL.nil))) (sort_from_PC hr_293) (.sc _) (hK _ _ _ ?_))
        clear hK
        refine aopsS_step fun _ hK => s_not rfl (hK _ _ _ ?_)
        clear hK
        refine aopsS_step fun _ hK => s_mv (v := (bool (!r_293))) rfl (hK _ _ _ ?_)
        clear hK
        refine aopsS_split rfl _ rfl (fun g279 => ?_) (fun g279 => ?_)
        ·
          replace H1 := iteF H1 (by simpa using g279)
          intro _ hK
          refine s_faOwn (j' := 1) fld_78_1 rfl rfl (isC (hl_ne (j := n_287) (i := (n_287 + 1)) (by omega) (hl_self _ _ _))) (hK _ _ _ ?_)
          clear hK
          refine aopsS_on rfl rfl fun _ hK => s_load1 (c := (int e_292.Kind)) agg_3 (d_own rfl (hl_ne (j := n_287) (i := (n_287 + 1)) (by omega) (hl_self _ _ _)) rfl rfl) rfl (hK _ _ _ ?_)
          clear hK
          refine aopsS_on rfl rfl fun _ hK => s_bsl (es := [[(int e_292.Kind)]]) (n' := (n_287 + 3)) elem_23 zero_3 rfl (by decide) (by decide) rfl rfl (hK _ _ _ ?_)
          clear hK
          obtain ⟨r_294, hr_294, H1⟩ := bindS H1
          refine aopsS_on rfl rfl fun _ hK => s_call (avs := [(int 0), (int 15), (.ms (n_287 + 2) 0 1)]) rfl rfl rfl (PC.lend1 (args' := [(int 0), (int 15), (.sl (List.map int1 [e_292.Kind]))]) (SnapL.cons (Snap.free _ (.sc _)) (SnapL.cons (Snap.free _ (.sc _)) (SnapL.cons (Snap.msW (f := int1) (l := [e_292.Kind]) (hl_self _ _ _) rfl fr_int1) SnapL.nil))) (sort_from_PC hr_294) (.sc _) (hK _ _ _ ?_))
          clear hK
          refine aopsS_on rfl rfl fun _ hK => s_not rfl (hK _ _ _ ?_)
          clear hK
          refine aopsS_step fun _ hK => s_pickF (v := (bool (!r_294))) rfl rfl (hK _ _ _ ?_)
          clear hK
          refine aopsS_step fun _ hK => s_mv (v := (bool (!r_294))) rfl (hK _ _ _ ?_)
          clear hK
          refine aopsS_split rfl _ rfl (fun g287 => ?_) (fun g287 => ?_)
          ·
            replace H1 := iteF H1 (by simpa using g287)
            intro _ hK
            refine s_faOwn (j' := 2) fld_78_2 rfl rfl (isC (hl_ne (j := n_287) (i := (n_287 + 2)) (by omega) (hl_ne (j := n_287) (i := (n_287 + 1)) (by omega) (hl_self _ _ _)))) (hK _ _ _ ?_)
            clear hK
            refine aopsS_on rfl rfl fun _ hK => s_load1 (c := (.sl (List.map int1 e_292.Readings))) agg_23 (d_own rfl (hl_ne (j := n_287) (i := (n_287 + 2)) (by omega) (hl_ne (j := n_287) (i := (n_287 + 1)) (by omega) (hl_self _ _ _))) rfl rfl) rfl (hK _ _ _ ?_)
            clear hK
            obtain ⟨r_295, hr_295, H1⟩ := bindS H1
            refine aopsS_on rfl rfl fun _ hK => s_call (avs := [(.sl (List.map int1 e_292.Readings))]) rfl rfl rfl (PC.call1 (sort_said_PC hr_295) (FreeL.cons (Free.slm fr_int1) FreeL.nil) (hK _ _ _ ?_))
            clear hK
            refine aopsS_on rfl rfl fun _ hK => s_not rfl (hK _ _ _ ?_)
            clear hK
            refine aopsS_step fun _ hK => s_pickF (v := (bool (!r_295))) rfl rfl (hK _ _ _ ?_)
            clear hK
            refine aopsS_end (hK271 _ (SatL.norm (n := (n_287 + 3)) (h := hl [((n_287 + 2), (some (.cells 1 3 [[(int e_292.Kind)]]))), ((n_287 + 1), (some (.cells 1 3 [[(int e_292.Tick)]]))), (n_287, (some (.cells 3 78 [[(int e_292.Tick), (int e_292.Kind), (.sl (List.map int1 e_292.Readings))]])))]) (env' := [(5, (.own n_287 0 0)), (9, (.sl (List.map Fed.cells l_263))), (10, (int (List.length l_263 : Int))), (11, (int x_286)), (33, (bool (!r_295)))]) (L' := [(n_287, (some (.cells 3 78 [[(int e_292.Tick), (int e_292.Kind), (.sl (List.map int1 e_292.Readings))]])))]) rfl (hs_cons (hl_ne (j := n_287) (i := (n_287 + 2)) (by omega) (hl_ne (j := n_287) (i := (n_287 + 1)) (by omega) (hl_self _ _ _))) hs_nil) ?_))
            repeat refine SatL.seq ?_
            refine SatL.condX rfl (fun hc293 => ?_) (fun hc293 => ?_)
            ·
              replace H1 := iteT H1 hc293
              repeat refine SatL.seq ?_
              refine SatL.reg [2] [some 2] rfl rfl fun K294 hK294 => ?_
              refine aopsS_step fun _ hK => s_as (v := (int 91)) rfl (hK _ _ _ ?_)
              clear hK
              refine aopsS_end (hK294 _ (SatL.norm (n := (n_287 + 3)) (h := hl [(n_287, (some (.cells 3 78 [[(int e_292.Tick), (int e_292.Kind), (.sl (List.map int1 e_292.Readings))]])))]) (env' := [(2, (int 91))]) (L' := []) rfl hs_nil ?_))
              obtain rfl := Option.some.inj H1
              obtain rfl := Option.some.inj H0
              exact SatL.ret (fnQ_snap (int 91) (int 91) rfl (Snap.free _ (.sc _)) rfl)
            ·
              replace H1 := iteF H1 hc293
              refine SatL.skip ?_
              repeat refine SatL.seq ?_
              refine SatL.rege [some 34, some 35, some 36, some 3] rfl rfl fun K296 hK296 => ?_
              refine aopsS_step fun _ hK => s_faOwn (j' := 0) fld_78_0 rfl rfl (isC (hl_self _ _ _)) (hK _ _ _ ?_)
              clear hK
              refine aopsS_step fun _ hK => s_load1 (c := (int e_292.Tick)) agg_3 (d_own rfl (hl_self _ _ _) rfl rfl) rfl (hK _ _ _ ?_)
              clear hK
              refine aopsS_step fun _ hK => s_bin rfl rfl (b_add64 (hK _ _ _ ?_))
              clear hK
              refine aopsS_step fun _ hK => s_as (v := (int (w64 (e_292.Tick + 1)))) rfl (hK _ _ _ ?_)
              clear hK
              refine aopsS_end (hK296 _ ?_)
              refine (blockN (thenN ?_))
              refine SatL.forget [3, 9, 10, 11] (SatL.norm (n := (n_287 + 3)) (h := hl [(n_287, (some (.cells 3 78 [[(int e_292.Tick), (int e_292.Kind), (.sl (List.map int1 e_292.Readings))]])))]) (env' := [(3, (int (w64 (e_292.Tick + 1)))), (9, (.sl (List.map Fed.cells l_263))), (10, (int (List.length l_263 : Int))), (11, (int x_286))]) (L' := []) rfl hs_nil ?_)
              repeat refine SatL.seq ?_
              refine SatL.rege [some 37, some 11] rfl rfl fun K301 hK301 => ?_
              refine aopsS_step fun _ hK => s_bin rfl rfl (b_add64 (hK _ _ _ ?_))
              clear hK
              refine aopsS_step fun _ hK => s_mv (v := (int (w64 (x_286 + 1)))) rfl (hK _ _ _ ?_)
              clear hK
              refine aopsS_end (hK301 _ ?_)
              have hw304 : w64 (x_286 + 1) = x_286 + 1 := w64_id (by omega) (by omega)
              exact (thenN ⟨k0, ⟨(w64 (e_292.Tick + 1)), (w64 (x_286 + 1)), (n_287 + 3), (StLe.of [] (n_287 + 3) rfl hs_nil (Nat.le_refl _)), (by omega), (by rw [hw304]; omega), (Eq.mpr (congrArg (fun q_ => sort_CheckFed_L0 l_263 k0 ((w64 (e_292.Tick + 1))) q_ = some o_280) hw304) H1)⟩, by omega⟩)
          ·
            replace H1 := iteT H1 (by simpa using g287)
            refine aopsS_off rfl rfl ?_
            refine aopsS_off rfl rfl ?_
            refine aopsS_off rfl rfl ?_
            refine aopsS_step fun _ hK => s_pickT (v := (bool true)) rfl rfl (hK _ _ _ ?_)
            clear hK
            refine aopsS_end (hK271 _ (SatL.norm (n := (n_287 + 3)) (h := hl [((n_287 + 2), (some (.cells 1 3 [[(int e_292.Kind)]]))), ((n_287 + 1), (some (.cells 1 3 [[(int e_292.Tick)]]))), (n_287, (some (.cells 3 78 [[(int e_292.Tick), (int e_292.Kind), (.sl (List.map int1 e_292.Readings))]])))]) (env' := [(5, (.own n_287 0 0)), (9, (.sl (List.map Fed.cells l_263))), (10, (int (List.length l_263 : Int))), (11, (int x_286)), (33, (bool true))]) (L' := [(n_287, (some (.cells 3 78 [[(int e_292.Tick), (int e_292.Kind), (.sl (List.map int1 e_292.Readings))]])))]) rfl (hs_cons (hl_ne (j := n_287) (i := (n_287 + 2)) (by omega) (hl_ne (j := n_287) (i := (n_287 + 1)) (by omega) (hl_self _ _ _))) hs_nil) ?_))
            repeat refine SatL.seq ?_
            refine SatL.condT rfl rfl ?_
            repeat refine SatL.seq ?_
            refine SatL.reg [2] [some 2] rfl rfl fun K306 hK306 => ?_
            refine aopsS_step fun _ hK => s_as (v := (int 91)) rfl (hK _ _ _ ?_)
            clear hK
            refine aopsS_end (hK306 _ (SatL.norm (n := (n_287 + 3)) (h := hl [(n_287, (some (.cells 3 78 [[(int e_292.Tick), (int e_292.Kind), (.sl (List.map int1 e_292.Readings))]])))]) (env' := [(2, (int 91))]) (L' := []) rfl hs_nil ?_))
            obtain rfl := Option.some.inj H1
            obtain rfl := Option.some.inj H0
            exact SatL.ret (fnQ_snap (int 91) (int 91) rfl (Snap.free _ (.sc _)) rfl)
        ·
          replace H1 := iteT H1 (by simpa using g279)
          refine aopsS_off rfl rfl ?_
          refine aopsS_off rfl rfl ?_
          refine aopsS_off rfl rfl ?_
          refine aopsS_off rfl rfl ?_
          refine aopsS_step fun _ hK => s_pickT (v := (bool true)) rfl rfl (hK _ _ _ ?_)
          clear hK
          refine aopsS_step fun _ hK => s_mv (v := (bool true)) rfl (hK _ _ _ ?_)
          clear hK
          refine aopsS_off rfl rfl ?_
          refine aopsS_off rfl rfl ?_
          refine aopsS_off rfl rfl ?_
          refine aopsS_off rfl rfl ?_
          refine aopsS_step fun _ hK => s_pickT (v := (bool true)) rfl rfl (hK _ _ _ ?_)
          clear hK
          refine aopsS_end (hK271 _ (SatL.norm (n := (n_287 + 2)) (h := hl [((n_287 + 1), (some (.cells 1 3 [[(int e_292.Tick)]]))), (n_287, (some (.cells 3 78 [[(int e_292.Tick), (int e_292.Kind), (.sl (List.map int1 e_292.Readings))]])))]) (env' := [(5, (.own n_287 0 0)), (9, (.sl (List.map Fed.cells l_263))), (10, (int (List.length l_263 : Int))), (11, (int x_286)), (33, (bool true))]) (L' := [(n_287, (some (.cells 3 78 [[(int e_292.Tick), (int e_292.Kind), (.sl (List.map int1 e_292.Readings))]])))]) rfl (hs_cons (hl_ne (j := n_287) (i := (n_287 + 1)) (by omega) (hl_self _ _ _)) hs_nil) ?_))
          repeat refine SatL.seq ?_
          refine SatL.condT rfl rfl ?_
          repeat refine SatL.seq ?_
          refine SatL.reg [2] [some 2] rfl rfl fun K311 hK311 => ?_
          refine aopsS_step fun _ hK => s_as (v := (int 91)) rfl (hK _ _ _ ?_)
          clear hK
          refine aopsS_end (hK311 _ (SatL.norm (n := (n_287 + 2)) (h := hl [(n_287, (some (.cells 3 78 [[(int e_292.Tick), (int e_292.Kind), (.sl (List.map int1 e_292.Readings))]])))]) (env' := [(2, (int 91))]) (L' := []) rfl hs_nil ?_))
          obtain rfl := Option.some.inj H1
          obtain rfl := Option.some.inj H0
          exact SatL.ret (fnQ_snap (int 91) (int 91) rfl (Snap.free _ (.sc _)) rfl)
    ·
      rintro s_ ⟨n_279, rfl, hs_⟩
      refine SatL.le hs_ ?_
      clear hs_
      replace H0 := sumun0S H0
      repeat refine SatL.seq ?_
      refine SatL.reg [2] [some 2] rfl rfl fun K313 hK313 => ?_
      refine aopsS_step fun _ hK => s_as (v := (int 0)) rfl (hK _ _ _ ?_)
      clear hK
      refine aopsS_end (hK313 _ (SatL.norm (n := n_279) (h := hl []) (env' := [(2, (int 0))]) (L' := []) rfl hs_refl ?_))
      obtain rfl := Option.some.inj H0
      exact SatL.ret (fnQ_snap (int 0) (int 0) rfl (Snap.free _ (.sc _)) rfl)

def ref09_Parts_L0 (l_298 : (List Fed)) : Nat → Int → Option (Bool ⊕ Unit)
  | 0, _ => (some (Sum.inr ()))
  | k0 + 1, i_331 => (gi l_298 i_331).bind fun e_340 => (ref09_within e_340.Tick 0 1000).bind fun r_341 => (if (!r_341) = true then (some (Sum.inl false)) else (if (decide (0 < i_331)) = true then (gi l_298 (w64 (i_331 - 1))).bind fun e_342 => (if (decide (e_340.Tick ≤ e_342.Tick)) = true then (some (Sum.inl false)) else (ref09_within e_340.Kind 0 15).bind fun r_343 => (if (!r_343) = true then (some (Sum.inl false)) else (ref09_Said e_340.Readings).bind fun r_344 => (if (!r_344) = true then (some (Sum.inl false)) else ref09_Parts_L0 l_298 k0 ((i_331 + 1))))) else (ref09_within e_340.Kind 0 15).bind fun r_345 => (if (!r_345) = true then (some (Sum.inl false)) else (ref09_Said e_340.Readings).bind fun r_346 => (if (!r_346) = true then (some (Sum.inl false)) else ref09_Parts_L0 l_298 k0 ((i_331 + 1))))))

def ref09_Parts (l_298 : (List Fed)) : Option Bool :=
  (if (decide (40 < (List.length l_298 : Int))) = true then (some false) else (ref09_Parts_L0 l_298 (Int.toNat ((List.length l_298 : Int) - 0)) 0).bind (fun s_ => sumE s_ (fun r_ => (some r_)) (fun s_ => un0 s_ ((some true)))))

theorem ref09_Parts_PC {l_298 : (List Fed)} {r : Bool} (H0 : ref09_Parts l_298 = some r) : PC Try.prog 47 [(.sl (List.map Fed.cells l_298))] (· = (bool r)) := by
  unfold ref09_Parts at H0
  refine PC.of_bodyL [(0, (.sl (List.map Fed.cells l_298)))] Try.func47 rfl rfl (Nat.le_of_ble_eq_true rfl) rfl fun O => ?_
  repeat refine SatL.seq ?_
  refine SatL.reg [0] [some 2] rfl rfl fun K1 hK1 => ?_
  refine aopsS_step fun _ hK => s_as (v := (bool false)) rfl (hK _ _ _ ?_)
  clear hK
  refine aopsS_end (hK1 _ (SatL.norm (n := 0) (h := hl []) (env' := [(0, (.sl (List.map Fed.cells l_298)))]) (L' := []) rfl hs_refl ?_))
  repeat refine SatL.seq ?_
  refine SatL.reg [0, 7] [some 5, some 6, some 7] rfl rfl fun K3 hK3 => ?_
  refine aopsS_step fun _ hK => s_mv (v := (.sl (List.map Fed.cells l_298))) rfl (hK _ _ _ ?_)
  clear hK
  refine aopsS_step fun _ hK => s_lenSl elem_26 rfl (fun hl5 => hK _ _ _ ?_)
  clear hK
  refine aopsS_step fun _ hK => s_bin rfl rfl (b_gtr (hK _ _ _ ?_))
  clear hK
  refine aopsS_end (hK3 _ (SatL.norm (n := 0) (h := hl []) (env' := [(0, (.sl (List.map Fed.cells l_298))), (7, (bool (decide (40 < (List.length l_298 : Int)))))]) (L' := []) rfl hs_refl ?_))
  repeat refine SatL.seq ?_
  refine SatL.condX rfl (fun hc7 => ?_) (fun hc7 => ?_)
  ·
    replace H0 := iteT H0 hc7
    repeat refine SatL.seq ?_
    refine SatL.reg [2] [some 2] rfl rfl fun K8 hK8 => ?_
    refine aopsS_step fun _ hK => s_as (v := (bool false)) rfl (hK _ _ _ ?_)
    clear hK
    refine aopsS_end (hK8 _ (SatL.norm (n := 0) (h := hl []) (env' := [(2, (bool false))]) (L' := []) rfl hs_refl ?_))
    obtain rfl := Option.some.inj H0
    exact SatL.ret (fnQ_snap (bool false) (bool false) rfl (Snap.free _ (.sc _)) rfl)
  ·
    replace H0 := iteF H0 hc7
    refine SatL.skip ?_
    repeat refine SatL.seq ?_
    refine SatL.reg [0, 3] [some 3] rfl rfl fun K10 hK10 => ?_
    refine aopsS_step fun _ hK => s_as (v := (int 0)) rfl (hK _ _ _ ?_)
    clear hK
    refine aopsS_end (hK10 _ (SatL.norm (n := 0) (h := hl []) (env' := [(0, (.sl (List.map Fed.cells l_298))), (3, (int 0))]) (L' := []) rfl hs_refl ?_))
    repeat refine SatL.seq ?_
    obtain ⟨o_323, H1, H0⟩ := bindS H0
    refine SatL.mid [] (fun s_ => ∃ (n_322 : Nat), (Sum.inr ()) = o_323 ∧ StLe s_ [] [] n_322) ?_ ?_
    ·
      repeat refine SatL.seq ?_
      refine SatL.block ?_
      repeat refine SatL.seq ?_
      refine SatL.loopK [0, 3] (fun k0 s_ => ∃ (i_331 : Int) (n_332 : Nat), StLe s_ [(0, (.sl (List.map Fed.cells l_298))), (3, (int i_331))] [] n_332 ∧ 0 ≤ i_331 ∧ k0 = Int.toNat ((List.length l_298 : Int) - i_331) ∧ ref09_Parts_L0 l_298 k0 i_331 = some o_323) (Int.toNat ((List.length l_298 : Int) - 0)) ?_ ?_
      · exact ⟨0, 0, (StLe.of [] 0 rfl hs_nil (Nat.le_refl _)), (by omega), rfl, H1⟩
      rintro k0 s_ ⟨i_331, n_332, hs_, _, hk_, H1⟩
      refine SatL.le hs_ ?_
      clear hs_
      rcases k0 with _ | k0
      ·
        rw [ref09_Parts_L0.eq_1] at H1
        repeat refine SatL.seq ?_
        refine SatL.reg [0, 3, 11] [some 8, some 9, some 10, some 11] rfl rfl fun K492 hK492 => ?_
        refine aopsS_step fun _ hK => s_mv (v := (int i_331)) rfl (hK _ _ _ ?_)
        clear hK
        refine aopsS_step fun _ hK => s_mv (v := (.sl (List.map Fed.cells l_298))) rfl (hK _ _ _ ?_)
        clear hK
        refine aopsS_step fun _ hK => s_lenSl elem_26 rfl (fun hl495 => hK _ _ _ ?_)
        clear hK
        refine aopsS_step fun _ hK => s_bin rfl rfl (b_lss (hK _ _ _ ?_))
        clear hK
        refine aopsS_end (hK492 _ (SatL.norm (n := n_332) (h := hl []) (env' := [(0, (.sl (List.map Fed.cells l_298))), (3, (int i_331)), (11, (bool (decide (i_331 < (List.length l_298 : Int)))))]) (L' := []) rfl hs_refl ?_))
        repeat refine SatL.seq ?_
        refine SatL.condF rfl (decide_eq_false (by omega)) ?_
        refine SatL.exit ?_
        simp only [thenQ, blockQ, if_true, reduceIte, Nat.reduceEqDiff]
        obtain rfl := Option.some.inj H1
        exact SatL.nil (thenN ⟨n_332, rfl, (StLe.of [] n_332 rfl hs_nil (Nat.le_refl _))⟩)
      ·
        rw [ref09_Parts_L0.eq_2] at H1
        repeat refine SatL.seq ?_
        refine SatL.reg [0, 3, 11] [some 8, some 9, some 10, some 11] rfl rfl fun K497 hK497 => ?_
        refine aopsS_step fun _ hK => s_mv (v := (int i_331)) rfl (hK _ _ _ ?_)
        clear hK
        refine aopsS_step fun _ hK => s_mv (v := (.sl (List.map Fed.cells l_298))) rfl (hK _ _ _ ?_)
        clear hK
        refine aopsS_step fun _ hK => s_lenSl elem_26 rfl (fun hl500 => hK _ _ _ ?_)
        clear hK
        refine aopsS_step fun _ hK => s_bin rfl rfl (b_lss (hK _ _ _ ?_))
        clear hK
        refine aopsS_end (hK497 _ (SatL.norm (n := n_332) (h := hl []) (env' := [(0, (.sl (List.map Fed.cells l_298))), (3, (int i_331)), (11, (bool (decide (i_331 < (List.length l_298 : Int)))))]) (L' := []) rfl hs_refl ?_))
        repeat refine SatL.seq ?_
        refine SatL.condT rfl (decide_eq_true (by omega)) ?_
        have hlt502 : (i_331 < (List.length l_298 : Int)) := by omega
        refine SatL.skip ?_
        repeat refine SatL.seq ?_
        refine SatL.block ?_
        repeat refine SatL.seq ?_
        refine SatL.reg [0, 3, 4] [some 14, some 15, some 16, some 17, some 4, none] rfl rfl fun K503 hK503 => ?_
        refine aopsS_step fun _ hK => s_mv (v := (.sl (List.map Fed.cells l_298))) rfl (hK _ _ _ ?_)
        clear hK
        refine aopsS_step fun _ hK => s_mv (v := (int i_331)) rfl (hK _ _ _ ?_)
        clear hK
        obtain ⟨e_340, he_340, H1⟩ := bindS H1
        refine aopsS_step fun _ hK => s_ixSl elem_26 rfl rfl he_340 cells_78 rfl (by decide) (hK _ _ _ ?_)
        clear hK
        refine aopsS_step fun _ hK => s_loadA (cs' := [(int e_340.Tick), (int e_340.Kind), (.sl (List.map int1 e_340.Readings))]) agg_78 cells_78 (d_fp rfl) (Nat.le_of_ble_eq_true rfl) rfl (hK _ _ _ ?_)
        clear hK
        refine aopsS_step fun _ hK => s_alloc (m := 3) (n' := (n_332 + 1)) zero_78 rfl rfl (hK _ _ _ ?_)
        clear hK
        refine aopsS_step0 fun _ hK => s_store (E := [[(int e_340.Tick), (int e_340.Kind), (.sl (List.map int1 e_340.Readings))]]) rfl (hl_self _ _ _) rfl rfl cells_78 rfl (by decide) (Nat.le_of_ble_eq_true rfl) rfl (hu_self _ _ _ _) (hK _ _ _ ?_)
        clear hK
        refine aopsS_end (hK503 _ (SatL.norm (n := (n_332 + 1)) (h := hl [(n_332, (some (.cells 3 78 [[(int e_340.Tick), (int e_340.Kind), (.sl (List.map int1 e_340.Readings))]])))]) (env' := [(0, (.sl (List.map Fed.cells l_298))), (3, (int i_331)), (4, (.own n_332 0 0))]) (L' := [(n_332, (some (.cells 3 78 [[(int e_340.Tick), (int e_340.Kind), (.sl (List.map int1 e_340.Readings))]])))]) rfl hs_refl ?_))
        repeat refine SatL.seq ?_
        refine SatL.draw [0, 3, 48] [] [] [some 18, some 19, some 20, some 21, some 22, some 23, some 24, some 25, some 26, some 27, some 28, some 29, some 30, some 31, some 32, some 33, some 34, some 35, some 36, some 37, some 38, some 39, some 40, some 41, some 42, some 43, some 44, some 45, some 46, some 47, some 48] rfl (by kernel_rfl) (by kernel_rfl) rfl rfl fun K510 hK510 => ?_
        refine dd_step (ds_r0 _ rfl rfl (fun _ hK => s_faOwn (j' := 0) fld_78_0 rfl rfl (isC (hl_self _ _ _)) hK) ?_)
        refine dd_step (ds_r0 _ rfl rfl (fun _ hK => s_load1 (c := (int e_340.Tick)) agg_3 (d_own rfl (hl_self _ _ _) rfl rfl) rfl hK) ?_)
        obtain ⟨r_341, hr_341, H1⟩ := bindS H1
        refine dd_step (ds_r0 _ rfl rfl (fun _ hK => s_call (avs := [(int e_340.Tick), (int 0), (int 1000)]) rfl rfl rfl (PC.call1 (ref09_within_PC hr_341) (FreeL.cons (.sc _) (FreeL.cons (.sc _) (FreeL.cons (.sc _) FreeL.nil))) hK)) ?_)
        refine dd_step (ds_r0 _ rfl rfl (fun _ hK => s_not rfl hK) ?_)
        refine dd_step (ds_r0 _ rfl rfl (fun _ hK => s_mv (v := (bool (!r_341))) rfl hK) ?_)
        refine dd_split rfl _ rfl (fun g516 => ?_) (fun g516 => ?_)
        ·
          replace H1 := iteF H1 (by simpa using g516)
          refine ds_r0 _ rfl rfl (fun _ hK => s_mv (v := (int i_331)) rfl hK) ?_
          refine dd_on rfl rfl (ds_r0 _ rfl rfl (fun _ hK => s_bin rfl rfl (b_gtr hK)) ?_)
          refine dd_on rfl rfl (ds_r0 _ rfl rfl (fun _ hK => s_mv (v := (bool (decide (0 < i_331)))) rfl hK) ?_)
          refine dd_split rfl _ rfl (fun g520 => ?_) (fun g520 => ?_)
          ·
            replace H1 := iteT H1 (by simpa using g520)
            refine ds_r0 _ rfl rfl (fun _ hK => s_faOwn (j' := 0) fld_78_0 rfl rfl (isC (hl_self _ _ _)) hK) ?_
            refine dd_on rfl rfl (ds_r0 _ rfl rfl (fun _ hK => s_load1 (c := (int e_340.Tick)) agg_3 (d_own rfl (hl_self _ _ _) rfl rfl) rfl hK) ?_)
            refine dd_on rfl rfl (ds_r0 _ rfl rfl (fun _ hK => s_mv (v := (.sl (List.map Fed.cells l_298))) rfl hK) ?_)
            refine dd_on rfl rfl (ds_r0 _ rfl rfl (fun _ hK => s_mv (v := (int i_331)) rfl hK) ?_)
            refine dd_on rfl rfl (ds_r0 _ rfl rfl (fun _ hK => s_bin rfl rfl (b_sub64 hK)) ?_)
            obtain ⟨e_342, he_342, H1⟩ := bindS H1
            refine dd_on rfl rfl (ds_r0 _ rfl rfl (fun _ hK => s_ixSl elem_26 rfl rfl he_342 cells_78 rfl (by decide) hK) ?_)
            refine dd_on rfl rfl (ds_r0 _ rfl rfl (fun _ hK => s_faFp (cs' := [(int e_342.Tick), (int e_342.Kind), (.sl (List.map int1 e_342.Readings))]) fld_78_0 rfl rfl hK) ?_)
            refine dd_on rfl rfl (ds_r0 _ rfl rfl (fun _ hK => s_load1 (c := (int e_342.Tick)) agg_3 (d_fp rfl) rfl hK) ?_)
            refine dd_on rfl rfl (ds_r0 _ rfl rfl (fun _ hK => s_bin rfl rfl (b_leq hK)) ?_)
            refine dd_on rfl rfl (ds_r0 _ rfl rfl (fun _ hK => s_pickT (v := (bool (decide (e_340.Tick ≤ e_342.Tick)))) rfl rfl hK) ?_)
            refine dd_step (ds_r0 _ rfl rfl (fun _ hK => s_pickF (v := (bool (decide (e_340.Tick ≤ e_342.Tick)))) rfl rfl hK) ?_)
            refine dd_step (ds_r0 _ rfl rfl (fun _ hK => s_mv (v := (bool (decide (e_340.Tick ≤ e_342.Tick)))) rfl hK) ?_)
            refine dd_split rfl _ rfl (fun g533 => ?_) (fun g533 => ?_)
            ·
              replace H1 := iteF H1 (by simpa using g533)
              refine ds_r0 _ rfl rfl (fun _ hK => s_faOwn (j' := 1) fld_78_1 rfl rfl (isC (hl_self _ _ _)) hK) ?_
              refine dd_on rfl rfl (ds_r0 _ rfl rfl (fun _ hK => s_load1 (c := (int e_340.Kind)) agg_3 (d_own rfl (hl_self _ _ _) rfl rfl) rfl hK) ?_)
              obtain ⟨r_343, hr_343, H1⟩ := bindS H1
              refine dd_on rfl rfl (ds_r0 _ rfl rfl (fun _ hK => s_call (avs := [(int e_340.Kind), (int 0), (int 15)]) rfl rfl rfl (PC.call1 (ref09_within_PC hr_343) (FreeL.cons (.sc _) (FreeL.cons (.sc _) (FreeL.cons (.sc _) FreeL.nil))) hK)) ?_)
              refine dd_on rfl rfl (ds_r0 _ rfl rfl (fun _ hK => s_not rfl hK) ?_)
              refine dd_step (ds_r0 _ rfl rfl (fun _ hK => s_pickF (v := (bool (!r_343))) rfl rfl hK) ?_)
              refine dd_step (ds_r0 _ rfl rfl (fun _ hK => s_mv (v := (bool (!r_343))) rfl hK) ?_)
              refine dd_split rfl _ rfl (fun g540 => ?_) (fun g540 => ?_)
              ·
                replace H1 := iteF H1 (by simpa using g540)
                refine ds_r0 _ rfl rfl (fun _ hK => s_faOwn (j' := 2) fld_78_2 rfl rfl (isC (hl_self _ _ _)) hK) ?_
                refine dd_on rfl rfl (ds_r0 _ rfl rfl (fun _ hK => s_load1 (c := (.sl (List.map int1 e_340.Readings))) agg_23 (d_own rfl (hl_self _ _ _) rfl rfl) rfl hK) ?_)
                obtain ⟨r_344, hr_344, H1⟩ := bindS H1
                refine dd_on rfl rfl (ds_r0 _ rfl rfl (fun _ hK => s_call (avs := [(.sl (List.map int1 e_340.Readings))]) rfl rfl rfl (PC.call1 (ref09_Said_PC hr_344) (FreeL.cons (Free.slm fr_int1) FreeL.nil) hK)) ?_)
                refine dd_on rfl rfl (ds_r0 _ rfl rfl (fun _ hK => s_not rfl hK) ?_)
                refine dd_step (ds_r0 _ rfl rfl (fun _ hK => s_pickF (v := (bool (!r_344))) rfl rfl hK) ?_)
                refine dd_end rc_nil (hK510 _ (SatL.norm (n := (n_332 + 1)) (h := hl [(n_332, (some (.cells 3 78 [[(int e_340.Tick), (int e_340.Kind), (.sl (List.map int1 e_340.Readings))]])))]) (env' := [(0, (.sl (List.map Fed.cells l_298))), (3, (int i_331)), (48, (bool (!r_344)))]) (L' := []) rfl hs_nil ?_))
                repeat refine SatL.seq ?_
                refine SatL.condX rfl (fun hc546 => ?_) (fun hc546 => ?_)
                ·
                  replace H1 := iteT H1 hc546
                  repeat refine SatL.seq ?_
                  refine SatL.reg [2] [some 2] rfl rfl fun K547 hK547 => ?_
                  refine aopsS_step fun _ hK => s_as (v := (bool false)) rfl (hK _ _ _ ?_)
                  clear hK
                  refine aopsS_end (hK547 _ (SatL.norm (n := (n_332 + 1)) (h := hl []) (env' := [(2, (bool false))]) (L' := []) rfl hs_refl ?_))
                  obtain rfl := Option.some.inj H1
                  obtain rfl := Option.some.inj H0
                  exact SatL.ret (fnQ_snap (bool false) (bool false) rfl (Snap.free _ (.sc _)) rfl)
                ·
                  replace H1 := iteF H1 hc546
                  refine SatL.skip ?_
                  refine SatL.nil (blockN (thenN ?_))
                  repeat refine SatL.seq ?_
                  refine SatL.rege [some 12, some 13, some 3] rfl rfl fun K549 hK549 => ?_
                  refine aopsS_step fun _ hK => s_mv (v := (int i_331)) rfl (hK _ _ _ ?_)
                  clear hK
                  refine aopsS_step fun _ hK => s_bin rfl rfl (b_add64 (hK _ _ _ ?_))
                  clear hK
                  refine aopsS_step fun _ hK => s_as (v := (int (w64 (i_331 + 1)))) rfl (hK _ _ _ ?_)
                  clear hK
                  refine aopsS_end (hK549 _ ?_)
                  have hw553 : w64 (i_331 + 1) = i_331 + 1 := w64_id (by omega) (by omega)
                  exact (thenN ⟨k0, ⟨(w64 (i_331 + 1)), (n_332 + 1), (StLe.of [] (n_332 + 1) rfl hs_nil (Nat.le_refl _)), (by omega), (by rw [hw553]; omega), (Eq.mpr (congrArg (fun q_ => ref09_Parts_L0 l_298 k0 q_ = some o_323) hw553) H1)⟩, by omega⟩)
              ·
                replace H1 := iteT H1 (by simpa using g540)
                refine dd_off rfl rfl ?_
                refine dd_off rfl rfl ?_
                refine dd_off rfl rfl ?_
                refine dd_step (ds_r0 _ rfl rfl (fun _ hK => s_pickT (v := (bool true)) rfl rfl hK) ?_)
                refine dd_end rc_nil (hK510 _ (SatL.norm (n := (n_332 + 1)) (h := hl [(n_332, (some (.cells 3 78 [[(int e_340.Tick), (int e_340.Kind), (.sl (List.map int1 e_340.Readings))]])))]) (env' := [(0, (.sl (List.map Fed.cells l_298))), (3, (int i_331)), (48, (bool true))]) (L' := []) rfl hs_nil ?_))
                repeat refine SatL.seq ?_
                refine SatL.condT rfl rfl ?_
                repeat refine SatL.seq ?_
                refine SatL.reg [2] [some 2] rfl rfl fun K555 hK555 => ?_
                refine aopsS_step fun _ hK => s_as (v := (bool false)) rfl (hK _ _ _ ?_)
                clear hK
                refine aopsS_end (hK555 _ (SatL.norm (n := (n_332 + 1)) (h := hl []) (env' := [(2, (bool false))]) (L' := []) rfl hs_refl ?_))
                obtain rfl := Option.some.inj H1
                obtain rfl := Option.some.inj H0
                exact SatL.ret (fnQ_snap (bool false) (bool false) rfl (Snap.free _ (.sc _)) rfl)
            ·
              replace H1 := iteT H1 (by simpa using g533)
              refine dd_off rfl rfl ?_
              refine dd_off rfl rfl ?_
              refine dd_off rfl rfl ?_
              refine dd_step (ds_r0 _ rfl rfl (fun _ hK => s_pickT (v := (bool true)) rfl rfl hK) ?_)
              refine dd_step (ds_r0 _ rfl rfl (fun _ hK => s_mv (v := (bool true)) rfl hK) ?_)
              refine dd_off rfl rfl ?_
              refine dd_off rfl rfl ?_
              refine dd_off rfl rfl ?_
              refine dd_off rfl rfl ?_
              refine dd_step (ds_r0 _ rfl rfl (fun _ hK => s_pickT (v := (bool true)) rfl rfl hK) ?_)
              refine dd_end rc_nil (hK510 _ (SatL.norm (n := (n_332 + 1)) (h := hl [(n_332, (some (.cells 3 78 [[(int e_340.Tick), (int e_340.Kind), (.sl (List.map int1 e_340.Readings))]])))]) (env' := [(0, (.sl (List.map Fed.cells l_298))), (3, (int i_331)), (48, (bool true))]) (L' := []) rfl hs_nil ?_))
              repeat refine SatL.seq ?_
              refine SatL.condT rfl rfl ?_
              repeat refine SatL.seq ?_
              refine SatL.reg [2] [some 2] rfl rfl fun K560 hK560 => ?_
              refine aopsS_step fun _ hK => s_as (v := (bool false)) rfl (hK _ _ _ ?_)
              clear hK
              refine aopsS_end (hK560 _ (SatL.norm (n := (n_332 + 1)) (h := hl []) (env' := [(2, (bool false))]) (L' := []) rfl hs_refl ?_))
              obtain rfl := Option.some.inj H1
              obtain rfl := Option.some.inj H0
              exact SatL.ret (fnQ_snap (bool false) (bool false) rfl (Snap.free _ (.sc _)) rfl)
          ·
            replace H1 := iteF H1 (by simpa using g520)
            refine dd_off rfl rfl ?_
            refine dd_off rfl rfl ?_
            refine dd_off rfl rfl ?_
            refine dd_off rfl rfl ?_
            refine dd_off rfl rfl ?_
            refine dd_off rfl rfl ?_
            refine dd_off rfl rfl ?_
            refine dd_off rfl rfl ?_
            refine dd_on rfl rfl (ds_r0 _ rfl rfl (fun _ hK => s_pickF (v := (bool false)) rfl rfl hK) ?_)
            refine dd_step (ds_r0 _ rfl rfl (fun _ hK => s_pickF (v := (bool false)) rfl rfl hK) ?_)
            refine dd_step (ds_r0 _ rfl rfl (fun _ hK => s_mv (v := (bool false)) rfl hK) ?_)
            refine dd_on rfl rfl (ds_r0 _ rfl rfl (fun _ hK => s_faOwn (j' := 1) fld_78_1 rfl rfl (isC (hl_self _ _ _)) hK) ?_)
            refine dd_on rfl rfl (ds_r0 _ rfl rfl (fun _ hK => s_load1 (c := (int e_340.Kind)) agg_3 (d_own rfl (hl_self _ _ _) rfl rfl) rfl hK) ?_)
            obtain ⟨r_345, hr_345, H1⟩ := bindS H1
            refine dd_on rfl rfl (ds_r0 _ rfl rfl (fun _ hK => s_call (avs := [(int e_340.Kind), (int 0), (int 15)]) rfl rfl rfl (PC.call1 (ref09_within_PC hr_345) (FreeL.cons (.sc _) (FreeL.cons (.sc _) (FreeL.cons (.sc _) FreeL.nil))) hK)) ?_)
            refine dd_on rfl rfl (ds_r0 _ rfl rfl (fun _ hK => s_not rfl hK) ?_)
            refine dd_step (ds_r0 _ rfl rfl (fun _ hK => s_pickF (v := (bool (!r_345))) rfl rfl hK) ?_)
            refine dd_step (ds_r0 _ rfl rfl (fun _ hK => s_mv (v := (bool (!r_345))) rfl hK) ?_)
            refine dd_split rfl _ rfl (fun g571 => ?_) (fun g571 => ?_)
            ·
              replace H1 := iteF H1 (by simpa using g571)
              refine ds_r0 _ rfl rfl (fun _ hK => s_faOwn (j' := 2) fld_78_2 rfl rfl (isC (hl_self _ _ _)) hK) ?_
              refine dd_on rfl rfl (ds_r0 _ rfl rfl (fun _ hK => s_load1 (c := (.sl (List.map int1 e_340.Readings))) agg_23 (d_own rfl (hl_self _ _ _) rfl rfl) rfl hK) ?_)
              obtain ⟨r_346, hr_346, H1⟩ := bindS H1
              refine dd_on rfl rfl (ds_r0 _ rfl rfl (fun _ hK => s_call (avs := [(.sl (List.map int1 e_340.Readings))]) rfl rfl rfl (PC.call1 (ref09_Said_PC hr_346) (FreeL.cons (Free.slm fr_int1) FreeL.nil) hK)) ?_)
              refine dd_on rfl rfl (ds_r0 _ rfl rfl (fun _ hK => s_not rfl hK) ?_)
              refine dd_step (ds_r0 _ rfl rfl (fun _ hK => s_pickF (v := (bool (!r_346))) rfl rfl hK) ?_)
              refine dd_end rc_nil (hK510 _ (SatL.norm (n := (n_332 + 1)) (h := hl [(n_332, (some (.cells 3 78 [[(int e_340.Tick), (int e_340.Kind), (.sl (List.map int1 e_340.Readings))]])))]) (env' := [(0, (.sl (List.map Fed.cells l_298))), (3, (int i_331)), (48, (bool (!r_346)))]) (L' := []) rfl hs_nil ?_))
              repeat refine SatL.seq ?_
              refine SatL.condX rfl (fun hc577 => ?_) (fun hc577 => ?_)
              ·
                replace H1 := iteT H1 hc577
                repeat refine SatL.seq ?_
                refine SatL.reg [2] [some 2] rfl rfl fun K578 hK578 => ?_
                refine aopsS_step fun _ hK => s_as (v := (bool false)) rfl (hK _ _ _ ?_)
                clear hK
                refine aopsS_end (hK578 _ (SatL.norm (n := (n_332 + 1)) (h := hl []) (env' := [(2, (bool false))]) (L' := []) rfl hs_refl ?_))
                obtain rfl := Option.some.inj H1
                obtain rfl := Option.some.inj H0
                exact SatL.ret (fnQ_snap (bool false) (bool false) rfl (Snap.free _ (.sc _)) rfl)
              ·
                replace H1 := iteF H1 hc577
                refine SatL.skip ?_
                refine SatL.nil (blockN (thenN ?_))
                repeat refine SatL.seq ?_
                refine SatL.rege [some 12, some 13, some 3] rfl rfl fun K580 hK580 => ?_
                refine aopsS_step fun _ hK => s_mv (v := (int i_331)) rfl (hK _ _ _ ?_)
                clear hK
                refine aopsS_step fun _ hK => s_bin rfl rfl (b_add64 (hK _ _ _ ?_))
                clear hK
                refine aopsS_step fun _ hK => s_as (v := (int (w64 (i_331 + 1)))) rfl (hK _ _ _ ?_)
                clear hK
                refine aopsS_end (hK580 _ ?_)
                have hw584 : w64 (i_331 + 1) = i_331 + 1 := w64_id (by omega) (by omega)
                exact (thenN ⟨k0, ⟨(w64 (i_331 + 1)), (n_332 + 1), (StLe.of [] (n_332 + 1) rfl hs_nil (Nat.le_refl _)), (by omega), (by rw [hw584]; omega), (Eq.mpr (congrArg (fun q_ => ref09_Parts_L0 l_298 k0 q_ = some o_323) hw584) H1)⟩, by omega⟩)
            ·
              replace H1 := iteT H1 (by simpa using g571)
              refine dd_off rfl rfl ?_
              refine dd_off rfl rfl ?_
              refine dd_off rfl rfl ?_
              refine dd_step (ds_r0 _ rfl rfl (fun _ hK => s_pickT (v := (bool true)) rfl rfl hK) ?_)
              refine dd_end rc_nil (hK510 _ (SatL.norm (n := (n_332 + 1)) (h := hl [(n_332, (some (.cells 3 78 [[(int e_340.Tick), (int e_340.Kind), (.sl (List.map int1 e_340.Readings))]])))]) (env' := [(0, (.sl (List.map Fed.cells l_298))), (3, (int i_331)), (48, (bool true))]) (L' := []) rfl hs_nil ?_))
              repeat refine SatL.seq ?_
              refine SatL.condT rfl rfl ?_
              repeat refine SatL.seq ?_
              refine SatL.reg [2] [some 2] rfl rfl fun K586 hK586 => ?_
              refine aopsS_step fun _ hK => s_as (v := (bool false)) rfl (hK _ _ _ ?_)
              clear hK
              refine aopsS_end (hK586 _ (SatL.norm (n := (n_332 + 1)) (h := hl []) (env' := [(2, (bool false))]) (L' := []) rfl hs_refl ?_))
              obtain rfl := Option.some.inj H1
              obtain rfl := Option.some.inj H0
              exact SatL.ret (fnQ_snap (bool false) (bool false) rfl (Snap.free _ (.sc _)) rfl)
        ·
          replace H1 := iteT H1 (by simpa using g516)
          refine dd_off rfl rfl ?_
          refine dd_off rfl rfl ?_
          refine dd_ud rfl rfl ?_
          refine dd_ud rfl rfl ?_
          refine dd_ud rfl rfl ?_
          refine dd_ud rfl rfl ?_
          refine dd_ud rfl rfl ?_
          refine dd_ud rfl rfl ?_
          refine dd_ud rfl rfl ?_
          refine dd_ud rfl rfl ?_
          refine dd_ud rfl rfl ?_
          refine dd_off rfl rfl ?_
          refine dd_step (ds_r0 _ rfl rfl (fun _ hK => s_pickT (v := (bool true)) rfl rfl hK) ?_)
          refine dd_step (ds_r0 _ rfl rfl (fun _ hK => s_mv (v := (bool true)) rfl hK) ?_)
          refine dd_off rfl rfl ?_
          refine dd_off rfl rfl ?_
          refine dd_off rfl rfl ?_
          refine dd_off rfl rfl ?_
          refine dd_step (ds_r0 _ rfl rfl (fun _ hK => s_pickT (v := (bool true)) rfl rfl hK) ?_)
          refine dd_step (ds_r0 _ rfl rfl (fun _ hK => s_mv (v := (bool true)) rfl hK) ?_)
          refine dd_off rfl rfl ?_
          refine dd_off rfl rfl ?_
          refine dd_off rfl rfl ?_
          refine dd_off rfl rfl ?_
          refine dd_step (ds_r0 _ rfl rfl (fun _ hK => s_pickT (v := (bool true)) rfl rfl hK) ?_)
          refine dd_end rc_nil (hK510 _ (SatL.norm (n := (n_332 + 1)) (h := hl [(n_332, (some (.cells 3 78 [[(int e_340.Tick), (int e_340.Kind), (.sl (List.map int1 e_340.Readings))]])))]) (env' := [(0, (.sl (List.map Fed.cells l_298))), (3, (int i_331)), (48, (bool true))]) (L' := []) rfl hs_nil ?_))
          repeat refine SatL.seq ?_
          refine SatL.condT rfl rfl ?_
          repeat refine SatL.seq ?_
          refine SatL.reg [2] [some 2] rfl rfl fun K593 hK593 => ?_
          refine aopsS_step fun _ hK => s_as (v := (bool false)) rfl (hK _ _ _ ?_)
          clear hK
          refine aopsS_end (hK593 _ (SatL.norm (n := (n_332 + 1)) (h := hl []) (env' := [(2, (bool false))]) (L' := []) rfl hs_refl ?_))
          obtain rfl := Option.some.inj H1
          obtain rfl := Option.some.inj H0
          exact SatL.ret (fnQ_snap (bool false) (bool false) rfl (Snap.free _ (.sc _)) rfl)
    ·
      rintro s_ ⟨n_322, rfl, hs_⟩
      refine SatL.le hs_ ?_
      clear hs_
      replace H0 := sumun0S H0
      repeat refine SatL.seq ?_
      refine SatL.reg [2] [some 2] rfl rfl fun K595 hK595 => ?_
      refine aopsS_step fun _ hK => s_as (v := (bool true)) rfl (hK _ _ _ ?_)
      clear hK
      refine aopsS_end (hK595 _ (SatL.norm (n := n_322) (h := hl []) (env' := [(2, (bool true))]) (L' := []) rfl hs_refl ?_))
      obtain rfl := Option.some.inj H0
      exact SatL.ret (fnQ_snap (bool true) (bool true) rfl (Snap.free _ (.sc _)) rfl)

def ref09_CheckFed (l_297 : (List Fed)) : Option Int :=
  (ref09_Parts l_297).bind fun r_347 => (if (!r_347) = true then (some 91) else (some 0))

theorem ref09_CheckFed_PC {l_297 : (List Fed)} {r : Int} (H0 : ref09_CheckFed l_297 = some r) : PC Try.prog 21 [(.sl (List.map Fed.cells l_297))] (· = (int r)) := by
  unfold ref09_CheckFed at H0
  refine PC.of_bodyL [(0, (.sl (List.map Fed.cells l_297)))] Try.func21 rfl rfl (Nat.le_of_ble_eq_true rfl) rfl fun O => ?_
  repeat refine SatL.seq ?_
  refine SatL.reg [0] [some 2] rfl rfl fun K1 hK1 => ?_
  refine aopsS_step fun _ hK => s_as (v := (int 0)) rfl (hK _ _ _ ?_)
  clear hK
  refine aopsS_end (hK1 _ (SatL.norm (n := 0) (h := hl []) (env' := [(0, (.sl (List.map Fed.cells l_297)))]) (L' := []) rfl hs_refl ?_))
  repeat refine SatL.seq ?_
  refine SatL.reg [5] [some 3, some 4, some 5] rfl rfl fun K3 hK3 => ?_
  refine aopsS_step fun _ hK => s_mv (v := (.sl (List.map Fed.cells l_297))) rfl (hK _ _ _ ?_)
  clear hK
  obtain ⟨r_347, hr_347, H0⟩ := bindS H0
  refine aopsS_step fun _ hK => s_call (avs := [(.sl (List.map Fed.cells l_297))]) rfl rfl rfl (PC.call1 (ref09_Parts_PC hr_347) (FreeL.cons (Free.slm Fed.fr) FreeL.nil) (hK _ _ _ ?_))
  clear hK
  refine aopsS_step fun _ hK => s_not rfl (hK _ _ _ ?_)
  clear hK
  refine aopsS_end (hK3 _ (SatL.norm (n := 0) (h := hl []) (env' := [(5, (bool (!r_347)))]) (L' := []) rfl hs_refl ?_))
  repeat refine SatL.seq ?_
  refine SatL.condX rfl (fun hc7 => ?_) (fun hc7 => ?_)
  ·
    replace H0 := iteT H0 hc7
    repeat refine SatL.seq ?_
    refine SatL.reg [2] [some 2] rfl rfl fun K8 hK8 => ?_
    refine aopsS_step fun _ hK => s_as (v := (int 91)) rfl (hK _ _ _ ?_)
    clear hK
    refine aopsS_end (hK8 _ (SatL.norm (n := 0) (h := hl []) (env' := [(2, (int 91))]) (L' := []) rfl hs_refl ?_))
    obtain rfl := Option.some.inj H0
    exact SatL.ret (fnQ_snap (int 91) (int 91) rfl (Snap.free _ (.sc _)) rfl)
  ·
    replace H0 := iteF H0 hc7
    refine SatL.skip ?_
    repeat refine SatL.seq ?_
    refine SatL.reg [2] [some 2] rfl rfl fun K10 hK10 => ?_
    refine aopsS_step fun _ hK => s_as (v := (int 0)) rfl (hK _ _ _ ?_)
    clear hK
    refine aopsS_end (hK10 _ (SatL.norm (n := 0) (h := hl []) (env' := [(2, (int 0))]) (L' := []) rfl hs_refl ?_))
    obtain rfl := Option.some.inj H0
    exact SatL.ret (fnQ_snap (int 0) (int 0) rfl (Snap.free _ (.sc _)) rfl)

def law09_SortChecks (b_1 : Belt) (l_2 : (List Fed)) (readings_3 : (List Int)) : Option Bool :=
  (ref09_Great b_1 l_2).bind fun r_15 => (if r_15 = true then (some true) else (if (decide (20 < (List.length readings_3 : Int))) = true then (some true) else (sort_Read readings_3).bind fun r_ => un2 r_ fun r0_88 r1_89 => (ref09_Read readings_3).bind fun r_ => un2 r_ fun r0_146 r1_147 => (sort_CheckBelt b_1).bind fun r_181 => (ref09_CheckBelt b_1).bind fun r_262 => (if (r_181 == r_262) = true then (sort_CheckFed l_2).bind fun r_296 => (ref09_CheckFed l_2).bind fun r_348 => (if (r_296 == r_348) = true then (if (r0_88 == r0_146) = true then (some (r1_89 == r1_147)) else (some false)) else (some false)) else (some false))))

theorem law09_SortChecks_PC {b_1 : Belt} {l_2 : (List Fed)} {readings_3 : (List Int)} {r : Bool} (H0 : law09_SortChecks b_1 l_2 readings_3 = some r) : PC Try.prog 3 [(.ag (Belt.cells b_1)), (.sl (List.map Fed.cells l_2)), (.sl (List.map int1 readings_3))] (· = (bool r)) := by
  unfold law09_SortChecks at H0
  refine PC.of_bodyL [(0, (.ag (Belt.cells b_1))), (1, (.sl (List.map Fed.cells l_2))), (2, (.sl (List.map int1 readings_3)))] Try.func3 rfl rfl (Nat.le_of_ble_eq_true rfl) rfl fun O => ?_
  repeat refine SatL.seq ?_
  refine SatL.reg [1, 2, 3] [some 3, some 6] rfl rfl fun K1 hK1 => ?_
  refine aopsS_step fun _ hK => s_box (cs := [(int b_1.Length), (int b_1.Camera), (int b_1.Slow), (.sl (List.map Gate.cells b_1.Gates)), (.sl (List.map int1 b_1.Bins))]) (m := 5) (n' := 1) rfl rfl rfl (hK _ _ _ ?_)
  clear hK
  refine aopsS_step fun _ hK => s_as (v := (bool false)) rfl (hK _ _ _ ?_)
  clear hK
  refine aopsS_end (hK1 _ (SatL.norm (n := 1) (h := hl [(0, (some (.cells 5 25 [[(int b_1.Length), (int b_1.Camera), (int b_1.Slow), (.sl (List.map Gate.cells b_1.Gates)), (.sl (List.map int1 b_1.Bins))]])))]) (env' := [(1, (.sl (List.map Fed.cells l_2))), (2, (.sl (List.map int1 readings_3))), (3, (.own 0 0 0))]) (L' := [(0, (some (.cells 5 25 [[(int b_1.Length), (int b_1.Camera), (int b_1.Slow), (.sl (List.map Gate.cells b_1.Gates)), (.sl (List.map int1 b_1.Bins))]])))]) rfl hs_refl ?_))
  repeat refine SatL.seq ?_
  refine SatL.reg [1, 2, 3, 18] [some 11, some 12, some 13, some 14, some 15, some 16, some 17, some 18] rfl rfl fun K4 hK4 => ?_
  refine aopsS_step fun _ hK => s_loadA (cs' := [(int b_1.Length), (int b_1.Camera), (int b_1.Slow), (.sl (List.map Gate.cells b_1.Gates)), (.sl (List.map int1 b_1.Bins))]) agg_25 cells_25 (d_own rfl (hl_self _ _ _) rfl rfl) (Nat.le_of_ble_eq_true rfl) rfl (hK _ _ _ ?_)
  clear hK
  refine aopsS_step fun _ hK => s_mv (v := (.sl (List.map Fed.cells l_2))) rfl (hK _ _ _ ?_)
  clear hK
  obtain ⟨r_15, hr_15, H0⟩ := bindS H0
  refine aopsS_step fun _ hK => s_call (avs := [(.ag [(int b_1.Length), (int b_1.Camera), (int b_1.Slow), (.sl (List.map Gate.cells b_1.Gates)), (.sl (List.map int1 b_1.Bins))]), (.sl (List.map Fed.cells l_2))]) rfl rfl rfl (PC.call1 (ref09_Great_PC hr_15) (FreeL.cons (Free.agl (FreeL.cons (.sc _) (FreeL.cons (.sc _) (FreeL.cons (.sc _) (FreeL.cons (Free.slm Gate.fr) (FreeL.cons (Free.slm fr_int1) FreeL.nil)))))) (FreeL.cons (Free.slm Fed.fr) FreeL.nil)) (hK _ _ _ ?_))
  clear hK
  refine aopsS_step fun _ hK => s_mv (v := (bool r_15)) rfl (hK _ _ _ ?_)
  clear hK
  refine aopsS_split rfl _ rfl (fun g9 => ?_) (fun g9 => ?_)
  ·
    replace H0 := iteF H0 (by simpa using g9)
    intro _ hK
    refine s_mv (v := (.sl (List.map int1 readings_3))) rfl (hK _ _ _ ?_)
    clear hK
    refine aopsS_on rfl rfl fun _ hK => s_lenSl elem_23 rfl (fun hl11 => hK _ _ _ ?_)
    clear hK
    refine aopsS_on rfl rfl fun _ hK => s_bin rfl rfl (b_gtr (hK _ _ _ ?_))
    clear hK
    refine aopsS_step fun _ hK => s_pickF (v := (bool (decide (20 < (List.length readings_3 : Int))))) rfl rfl (hK _ _ _ ?_)
    clear hK
    refine aopsS_end (hK4 _ (SatL.norm (n := 1) (h := hl [(0, (some (.cells 5 25 [[(int b_1.Length), (int b_1.Camera), (int b_1.Slow), (.sl (List.map Gate.cells b_1.Gates)), (.sl (List.map int1 b_1.Bins))]])))]) (env' := [(1, (.sl (List.map Fed.cells l_2))), (2, (.sl (List.map int1 readings_3))), (3, (.own 0 0 0)), (18, (bool (decide (20 < (List.length readings_3 : Int)))))]) (L' := [(0, (some (.cells 5 25 [[(int b_1.Length), (int b_1.Camera), (int b_1.Slow), (.sl (List.map Gate.cells b_1.Gates)), (.sl (List.map int1 b_1.Bins))]])))]) rfl hs_refl ?_))
    repeat refine SatL.seq ?_
    refine SatL.condX rfl (fun hc14 => ?_) (fun hc14 => ?_)
    ·
      replace H0 := iteT H0 hc14
      repeat refine SatL.seq ?_
      refine SatL.reg [6] [some 6] rfl rfl fun K15 hK15 => ?_
      refine aopsS_step fun _ hK => s_as (v := (bool true)) rfl (hK _ _ _ ?_)
      clear hK
      refine aopsS_end (hK15 _ (SatL.norm (n := 1) (h := hl [(0, (some (.cells 5 25 [[(int b_1.Length), (int b_1.Camera), (int b_1.Slow), (.sl (List.map Gate.cells b_1.Gates)), (.sl (List.map int1 b_1.Bins))]])))]) (env' := [(6, (bool true))]) (L' := []) rfl hs_nil ?_))
      obtain rfl := Option.some.inj H0
      exact SatL.ret (fnQ_snap (bool true) (bool true) rfl (Snap.free _ (.sc _)) rfl)
    ·
      replace H0 := iteF H0 hc14
      refine SatL.skip ?_
      repeat refine SatL.seq ?_
      refine SatL.reg [1, 2, 3, 7, 8] [some 20, some 21, some 19, some 22, some 23, some 7, some 8] rfl rfl fun K17 hK17 => ?_
      refine aopsS_step fun _ hK => s_mv (v := (.sl (List.map int1 readings_3))) rfl (hK _ _ _ ?_)
      clear hK
      obtain ⟨⟨r0_88, r1_89⟩, hr0_88, H0⟩ := bindS H0
      replace H0 := un2S H0
      refine aopsS_step fun _ hK => s_call (avs := [(.sl (List.map int1 readings_3))]) rfl rfl rfl (PC.call1 (sort_Read_PC hr0_88) (FreeL.cons (Free.slm fr_int1) FreeL.nil) (hK _ _ _ ?_))
      clear hK
      refine aopsS_step fun _ hK => s_mv (v := (.tp [(int r0_88), (int r1_89)])) rfl (hK _ _ _ ?_)
      clear hK
      refine aopsS_step fun _ hK => s_ext (c := (int r0_88)) rfl rfl (hK _ _ _ ?_)
      clear hK
      refine aopsS_step fun _ hK => s_ext (c := (int r1_89)) rfl rfl (hK _ _ _ ?_)
      clear hK
      refine aopsS_step fun _ hK => s_as (v := (int r0_88)) rfl (hK _ _ _ ?_)
      clear hK
      refine aopsS_step fun _ hK => s_as (v := (int r1_89)) rfl (hK _ _ _ ?_)
      clear hK
      refine aopsS_end (hK17 _ (SatL.norm (n := 1) (h := hl [(0, (some (.cells 5 25 [[(int b_1.Length), (int b_1.Camera), (int b_1.Slow), (.sl (List.map Gate.cells b_1.Gates)), (.sl (List.map int1 b_1.Bins))]])))]) (env' := [(1, (.sl (List.map Fed.cells l_2))), (2, (.sl (List.map int1 readings_3))), (3, (.own 0 0 0)), (7, (int r0_88)), (8, (int r1_89))]) (L' := [(0, (some (.cells 5 25 [[(int b_1.Length), (int b_1.Camera), (int b_1.Slow), (.sl (List.map Gate.cells b_1.Gates)), (.sl (List.map int1 b_1.Bins))]])))]) rfl hs_refl ?_))
      repeat refine SatL.seq ?_
      refine SatL.reg [1, 3, 7, 8, 9, 10] [some 25, some 26, some 24, some 27, some 28, some 9, some 10] rfl rfl fun K25 hK25 => ?_
      refine aopsS_step fun _ hK => s_mv (v := (.sl (List.map int1 readings_3))) rfl (hK _ _ _ ?_)
      clear hK
      obtain ⟨⟨r0_146, r1_147⟩, hr0_146, H0⟩ := bindS H0
      replace H0 := un2S H0
      refine aopsS_step fun _ hK => s_call (avs := [(.sl (List.map int1 readings_3))]) rfl rfl rfl (PC.call1 (ref09_Read_PC hr0_146) (FreeL.cons (Free.slm fr_int1) FreeL.nil) (hK _ _ _ ?_))
      clear hK
      refine aopsS_step fun _ hK => s_mv (v := (.tp [(int r0_146), (int r1_147)])) rfl (hK _ _ _ ?_)
      clear hK
      refine aopsS_step fun _ hK => s_ext (c := (int r0_146)) rfl rfl (hK _ _ _ ?_)
      clear hK
      refine aopsS_step fun _ hK => s_ext (c := (int r1_147)) rfl rfl (hK _ _ _ ?_)
      clear hK
      refine aopsS_step fun _ hK => s_as (v := (int r0_146)) rfl (hK _ _ _ ?_)
      clear hK
      refine aopsS_step fun _ hK => s_as (v := (int r1_147)) rfl (hK _ _ _ ?_)
      clear hK
      refine aopsS_end (hK25 _ (SatL.norm (n := 1) (h := hl [(0, (some (.cells 5 25 [[(int b_1.Length), (int b_1.Camera), (int b_1.Slow), (.sl (List.map Gate.cells b_1.Gates)), (.sl (List.map int1 b_1.Bins))]])))]) (env' := [(1, (.sl (List.map Fed.cells l_2))), (3, (.own 0 0 0)), (7, (int r0_88)), (8, (int r1_89)), (9, (int r0_146)), (10, (int r1_147))]) (L' := [(0, (some (.cells 5 25 [[(int b_1.Length), (int b_1.Camera), (int b_1.Slow), (.sl (List.map Gate.cells b_1.Gates)), (.sl (List.map int1 b_1.Bins))]])))]) rfl hs_refl ?_))
      repeat refine SatL.seq ?_
      refine SatL.draw [6] [] [] [some 29, some 30, some 31, some 32, some 33, some 34, some 35, some 36, some 37, some 38, some 39, some 40, some 41, some 42, some 43, some 44, some 45, some 46, some 47, some 48, some 49, some 50, some 6] rfl (by kernel_rfl) (by kernel_rfl) rfl rfl fun K33 hK33 => ?_
      refine dd_step (ds_r0 _ rfl rfl (fun _ hK => s_loadA (cs' := [(int b_1.Length), (int b_1.Camera), (int b_1.Slow), (.sl (List.map Gate.cells b_1.Gates)), (.sl (List.map int1 b_1.Bins))]) agg_25 cells_25 (d_own rfl (hl_self _ _ _) rfl rfl) (Nat.le_of_ble_eq_true rfl) rfl hK) ?_)
      obtain ⟨r_181, hr_181, H0⟩ := bindS H0
      refine dd_step (ds_r0 _ rfl rfl (fun _ hK => s_call (avs := [(.ag [(int b_1.Length), (int b_1.Camera), (int b_1.Slow), (.sl (List.map Gate.cells b_1.Gates)), (.sl (List.map int1 b_1.Bins))])]) rfl rfl rfl (PC.call1 (sort_CheckBelt_PC hr_181) (FreeL.cons (Free.agl (FreeL.cons (.sc _) (FreeL.cons (.sc _) (FreeL.cons (.sc _) (FreeL.cons (Free.slm Gate.fr) (FreeL.cons (Free.slm fr_int1) FreeL.nil)))))) FreeL.nil) hK)) ?_)
      refine dd_step (ds_r0 _ rfl rfl (fun _ hK => s_loadA (cs' := [(int b_1.Length), (int b_1.Camera), (int b_1.Slow), (.sl (List.map Gate.cells b_1.Gates)), (.sl (List.map int1 b_1.Bins))]) agg_25 cells_25 (d_own rfl (hl_self _ _ _) rfl rfl) (Nat.le_of_ble_eq_true rfl) rfl hK) ?_)
      obtain ⟨r_262, hr_262, H0⟩ := bindS H0
      refine dd_step (ds_r0 _ rfl rfl (fun _ hK => s_call (avs := [(.ag [(int b_1.Length), (int b_1.Camera), (int b_1.Slow), (.sl (List.map Gate.cells b_1.Gates)), (.sl (List.map int1 b_1.Bins))])]) rfl rfl rfl (PC.call1 (ref09_CheckBelt_PC hr_262) (FreeL.cons (Free.agl (FreeL.cons (.sc _) (FreeL.cons (.sc _) (FreeL.cons (.sc _) (FreeL.cons (Free.slm Gate.fr) (FreeL.cons (Free.slm fr_int1) FreeL.nil)))))) FreeL.nil) hK)) ?_)
      refine dd_step (ds_r0 _ rfl rfl (fun _ hK => s_bin rfl rfl (b_eql hK)) ?_)
      refine dd_step (ds_r0 _ rfl rfl (fun _ hK => s_mv (v := (bool (r_181 == r_262))) rfl hK) ?_)
      refine dd_split rfl _ rfl (fun g40 => ?_) (fun g40 => ?_)
      ·
        replace H0 := iteT H0 (by simpa using g40)
        refine ds_r0 _ rfl rfl (fun _ hK => s_mv (v := (.sl (List.map Fed.cells l_2))) rfl hK) ?_
        obtain ⟨r_296, hr_296, H0⟩ := bindS H0
        refine dd_on rfl rfl (ds_r0 _ rfl rfl (fun _ hK => s_call (avs := [(.sl (List.map Fed.cells l_2))]) rfl rfl rfl (PC.call1 (sort_CheckFed_PC hr_296) (FreeL.cons (Free.slm Fed.fr) FreeL.nil) hK)) ?_)
        refine dd_on rfl rfl (ds_r0 _ rfl rfl (fun _ hK => s_mv (v := (.sl (List.map Fed.cells l_2))) rfl hK) ?_)
        obtain ⟨r_348, hr_348, H0⟩ := bindS H0
        refine dd_on rfl rfl (ds_r0 _ rfl rfl (fun _ hK => s_call (avs := [(.sl (List.map Fed.cells l_2))]) rfl rfl rfl (PC.call1 (ref09_CheckFed_PC hr_348) (FreeL.cons (Free.slm Fed.fr) FreeL.nil) hK)) ?_)
        refine dd_on rfl rfl (ds_r0 _ rfl rfl (fun _ hK => s_bin rfl rfl (b_eql hK)) ?_)
        refine dd_step (ds_r0 _ rfl rfl (fun _ hK => s_pickT (v := (bool (r_296 == r_348))) rfl rfl hK) ?_)
        refine dd_step (ds_r0 _ rfl rfl (fun _ hK => s_mv (v := (bool (r_296 == r_348))) rfl hK) ?_)
        refine dd_split rfl _ rfl (fun g48 => ?_) (fun g48 => ?_)
        ·
          replace H0 := iteT H0 (by simpa using g48)
          refine ds_r0 _ rfl rfl (fun _ hK => s_mv (v := (int r0_88)) rfl hK) ?_
          refine dd_on rfl rfl (ds_r0 _ rfl rfl (fun _ hK => s_mv (v := (int r0_146)) rfl hK) ?_)
          refine dd_on rfl rfl (ds_r0 _ rfl rfl (fun _ hK => s_bin rfl rfl (b_eql hK)) ?_)
          refine dd_step (ds_r0 _ rfl rfl (fun _ hK => s_pickT (v := (bool (r0_88 == r0_146))) rfl rfl hK) ?_)
          refine dd_step (ds_r0 _ rfl rfl (fun _ hK => s_mv (v := (bool (r0_88 == r0_146))) rfl hK) ?_)
          refine dd_split rfl _ rfl (fun g54 => ?_) (fun g54 => ?_)
          ·
            replace H0 := iteT H0 (by simpa using g54)
            refine ds_r0 _ rfl rfl (fun _ hK => s_mv (v := (int r1_89)) rfl hK) ?_
            refine dd_on rfl rfl (ds_r0 _ rfl rfl (fun _ hK => s_mv (v := (int r1_147)) rfl hK) ?_)
            refine dd_on rfl rfl (ds_r0 _ rfl rfl (fun _ hK => s_bin rfl rfl (b_eql hK)) ?_)
            refine dd_step (ds_r0 _ rfl rfl (fun _ hK => s_pickT (v := (bool (r1_89 == r1_147))) rfl rfl hK) ?_)
            refine dd_step (ds_r0 _ rfl rfl (fun _ hK => s_as (v := (bool (r1_89 == r1_147))) rfl hK) ?_)
            refine dd_end rc_nil (hK33 _ (SatL.norm (n := 1) (h := hl [(0, (some (.cells 5 25 [[(int b_1.Length), (int b_1.Camera), (int b_1.Slow), (.sl (List.map Gate.cells b_1.Gates)), (.sl (List.map int1 b_1.Bins))]])))]) (env' := [(6, (bool (r1_89 == r1_147)))]) (L' := []) rfl hs_nil ?_))
            obtain rfl := Option.some.inj H0
            exact SatL.ret (fnQ_snap (bool (r1_89 == r1_147)) (bool (r1_89 == r1_147)) rfl (Snap.free _ (.sc _)) rfl)
          ·
            replace H0 := iteF H0 (by simpa using g54)
            refine dd_off rfl rfl ?_
            refine dd_off rfl rfl ?_
            refine dd_step (ds_r0 _ rfl rfl (fun _ hK => s_pickF (v := (bool false)) rfl rfl hK) ?_)
            refine dd_step (ds_r0 _ rfl rfl (fun _ hK => s_as (v := (bool false)) rfl hK) ?_)
            refine dd_end rc_nil (hK33 _ (SatL.norm (n := 1) (h := hl [(0, (some (.cells 5 25 [[(int b_1.Length), (int b_1.Camera), (int b_1.Slow), (.sl (List.map Gate.cells b_1.Gates)), (.sl (List.map int1 b_1.Bins))]])))]) (env' := [(6, (bool false))]) (L' := []) rfl hs_nil ?_))
            obtain rfl := Option.some.inj H0
            exact SatL.ret (fnQ_snap (bool false) (bool false) rfl (Snap.free _ (.sc _)) rfl)
        ·
          replace H0 := iteF H0 (by simpa using g48)
          refine dd_off rfl rfl ?_
          refine dd_off rfl rfl ?_
          refine dd_step (ds_r0 _ rfl rfl (fun _ hK => s_pickF (v := (bool false)) rfl rfl hK) ?_)
          refine dd_step (ds_r0 _ rfl rfl (fun _ hK => s_mv (v := (bool false)) rfl hK) ?_)
          refine dd_off rfl rfl ?_
          refine dd_off rfl rfl ?_
          refine dd_off rfl rfl ?_
          refine dd_step (ds_r0 _ rfl rfl (fun _ hK => s_pickF (v := (bool false)) rfl rfl hK) ?_)
          refine dd_step (ds_r0 _ rfl rfl (fun _ hK => s_as (v := (bool false)) rfl hK) ?_)
          refine dd_end rc_nil (hK33 _ (SatL.norm (n := 1) (h := hl [(0, (some (.cells 5 25 [[(int b_1.Length), (int b_1.Camera), (int b_1.Slow), (.sl (List.map Gate.cells b_1.Gates)), (.sl (List.map int1 b_1.Bins))]])))]) (env' := [(6, (bool false))]) (L' := []) rfl hs_nil ?_))
          obtain rfl := Option.some.inj H0
          exact SatL.ret (fnQ_snap (bool false) (bool false) rfl (Snap.free _ (.sc _)) rfl)
      ·
        replace H0 := iteF H0 (by simpa using g40)
        refine dd_off rfl rfl ?_
        refine dd_off rfl rfl ?_
        refine dd_off rfl rfl ?_
        refine dd_off rfl rfl ?_
        refine dd_step (ds_r0 _ rfl rfl (fun _ hK => s_pickF (v := (bool false)) rfl rfl hK) ?_)
        refine dd_step (ds_r0 _ rfl rfl (fun _ hK => s_mv (v := (bool false)) rfl hK) ?_)
        refine dd_off rfl rfl ?_
        refine dd_off rfl rfl ?_
        refine dd_off rfl rfl ?_
        refine dd_step (ds_r0 _ rfl rfl (fun _ hK => s_pickF (v := (bool false)) rfl rfl hK) ?_)
        refine dd_step (ds_r0 _ rfl rfl (fun _ hK => s_mv (v := (bool false)) rfl hK) ?_)
        refine dd_off rfl rfl ?_
        refine dd_off rfl rfl ?_
        refine dd_off rfl rfl ?_
        refine dd_step (ds_r0 _ rfl rfl (fun _ hK => s_pickF (v := (bool false)) rfl rfl hK) ?_)
        refine dd_step (ds_r0 _ rfl rfl (fun _ hK => s_as (v := (bool false)) rfl hK) ?_)
        refine dd_end rc_nil (hK33 _ (SatL.norm (n := 1) (h := hl [(0, (some (.cells 5 25 [[(int b_1.Length), (int b_1.Camera), (int b_1.Slow), (.sl (List.map Gate.cells b_1.Gates)), (.sl (List.map int1 b_1.Bins))]])))]) (env' := [(6, (bool false))]) (L' := []) rfl hs_nil ?_))
        obtain rfl := Option.some.inj H0
        exact SatL.ret (fnQ_snap (bool false) (bool false) rfl (Snap.free _ (.sc _)) rfl)
  ·
    replace H0 := iteT H0 (by simpa using g9)
    refine aopsS_off rfl rfl ?_
    refine aopsS_off rfl rfl ?_
    refine aopsS_step fun _ hK => s_pickT (v := (bool true)) rfl rfl (hK _ _ _ ?_)
    clear hK
    refine aopsS_end (hK4 _ (SatL.norm (n := 1) (h := hl [(0, (some (.cells 5 25 [[(int b_1.Length), (int b_1.Camera), (int b_1.Slow), (.sl (List.map Gate.cells b_1.Gates)), (.sl (List.map int1 b_1.Bins))]])))]) (env' := [(1, (.sl (List.map Fed.cells l_2))), (2, (.sl (List.map int1 readings_3))), (3, (.own 0 0 0)), (18, (bool true))]) (L' := [(0, (some (.cells 5 25 [[(int b_1.Length), (int b_1.Camera), (int b_1.Slow), (.sl (List.map Gate.cells b_1.Gates)), (.sl (List.map int1 b_1.Bins))]])))]) rfl hs_refl ?_))
    repeat refine SatL.seq ?_
    refine SatL.condT rfl rfl ?_
    repeat refine SatL.seq ?_
    refine SatL.reg [6] [some 6] rfl rfl fun K73 hK73 => ?_
    refine aopsS_step fun _ hK => s_as (v := (bool true)) rfl (hK _ _ _ ?_)
    clear hK
    refine aopsS_end (hK73 _ (SatL.norm (n := 1) (h := hl [(0, (some (.cells 5 25 [[(int b_1.Length), (int b_1.Camera), (int b_1.Slow), (.sl (List.map Gate.cells b_1.Gates)), (.sl (List.map int1 b_1.Bins))]])))]) (env' := [(6, (bool true))]) (L' := []) rfl hs_nil ?_))
    obtain rfl := Option.some.inj H0
    exact SatL.ret (fnQ_snap (bool true) (bool true) rfl (Snap.free _ (.sc _)) rfl)

def Gate.ok (x : Gate) : Prop := (okI .i64) x.At ∧ (okI .i64) x.Bin
theorem Gate.dec : Dec (.st [(.int .i64), (.int .i64)]) Gate.cells Gate.ok := fun bs h0 => by
  obtain ⟨a0, r0, rfl, e0, h1⟩ := enc_cons h0
  obtain ⟨a1, r1, rfl, e1, h2⟩ := enc_cons h1
  cases enc_nil h2
  obtain ⟨x0, rfl, o0⟩ := dec_i64 _ e0
  obtain ⟨x1, rfl, o1⟩ := dec_i64 _ e1
  exact ⟨⟨x0, x1⟩, rfl, o0, o1⟩

def Belt.ok (x : Belt) : Prop := (okI .i64) x.Length ∧ (okI .i64) x.Camera ∧ (okI .i64) x.Slow ∧ (okL Gate.ok) x.Gates ∧ (okL (okI .i64)) x.Bins
theorem Belt.dec : Dec (.st [(.int .i64), (.int .i64), (.int .i64), (.sl (.st [(.int .i64), (.int .i64)])), (.sl (.int .i64))]) Belt.cells Belt.ok := fun bs h0 => by
  obtain ⟨a0, r0, rfl, e0, h1⟩ := enc_cons h0
  obtain ⟨a1, r1, rfl, e1, h2⟩ := enc_cons h1
  obtain ⟨a2, r2, rfl, e2, h3⟩ := enc_cons h2
  obtain ⟨a3, r3, rfl, e3, h4⟩ := enc_cons h3
  obtain ⟨a4, r4, rfl, e4, h5⟩ := enc_cons h4
  cases enc_nil h5
  obtain ⟨x0, rfl, o0⟩ := dec_i64 _ e0
  obtain ⟨x1, rfl, o1⟩ := dec_i64 _ e1
  obtain ⟨x2, rfl, o2⟩ := dec_i64 _ e2
  obtain ⟨x3, rfl, o3⟩ := (dec_sl Gate.dec) _ e3
  obtain ⟨x4, rfl, o4⟩ := (dec_sl dec_i64) _ e4
  exact ⟨⟨x0, x1, x2, x3, x4⟩, rfl, o0, o1, o2, o3, o4⟩

def Fed.ok (x : Fed) : Prop := (okI .i64) x.Tick ∧ (okI .i64) x.Kind ∧ (okL (okI .i64)) x.Readings
theorem Fed.dec : Dec (.st [(.int .i64), (.int .i64), (.sl (.int .i64))]) Fed.cells Fed.ok := fun bs h0 => by
  obtain ⟨a0, r0, rfl, e0, h1⟩ := enc_cons h0
  obtain ⟨a1, r1, rfl, e1, h2⟩ := enc_cons h1
  obtain ⟨a2, r2, rfl, e2, h3⟩ := enc_cons h2
  cases enc_nil h3
  obtain ⟨x0, rfl, o0⟩ := dec_i64 _ e0
  obtain ⟨x1, rfl, o1⟩ := dec_i64 _ e1
  obtain ⟨x2, rfl, o2⟩ := (dec_sl dec_i64) _ e2
  exact ⟨⟨x0, x1, x2⟩, rfl, o0, o1, o2⟩

end Go.Abs
