/- The machinery, part 4. -/
import Derived.Test.YtmcfapchpedbgaaZ2
import Derived.Test.YtmcfapchpedbgaaZ3
set_option linter.constructorNameAsVariable false
set_option linter.unusedVariables false
set_option linter.unusedSimpArgs false
/- The typed machine is sound, tenth part: structs and slices that are built, maps. -/
set_option linter.unusedSimpArgs false
set_option linter.unusedVariables false
set_option linter.constructorNameAsVariable false
namespace Go.Abs
open Go Go.RowKit

section
variable {P : Program} {κ κ' : Nat → Option Nat} {ln ln' : Nat → Nat} {z z' : AH} {c : Cx sem} {s : TS sem} {env : Env} {h h' : AH} {n n' N N' : Nat}
variable {ρ : Ty} {Kf : TV sem → TS sem → sem.Ans ρ} {r : ρ.den}
variable {d : Option Tmp} {ty : TypeId} {pos : String} {after : Array Edge} {g : Option (Nat × Bool)}

theorem fillT_sound {pl : List (Nat × Nat)} (hev : ∀ x, TVR P κ ln z N (tev c s x) (ev env x)) : ∀ (parts : List (Nat × Operand)) (cs : List (TV sem)) (as : List AV) {vs : List (TV sem)}, TVRs P κ ln z N cs as → (∀ a ∈ as, a.one = true) → fillT c pl s parts cs = some vs → ∃ bs, fillS pl env parts as = some bs ∧ TVRs P κ ln z N vs bs ∧ ∀ a ∈ bs, a.one = true
  | [], cs, as, vs, hc, h1, hf => by cases hf; exact ⟨as, rfl, hc, h1⟩
  | (i, x) :: rest, cs, as, vs, hc, h1, hf => by
    simp only [fillT] at hf
    split at hf
    · rename_i o m xs hp hx
      split at hf
      · rename_i hl
        obtain ⟨xa, g1, g2⟩ := (hev x).one_cells hx
        have g3 := cells_one (hev x) hx g1
        have l1 := g2.len
        have l2 := hc.len
        obtain ⟨bs, k1, k2, k3⟩ := fillT_sound hev rest _ (as.take o ++ xa ++ as.drop (o + m)) (((hc.take o).append g2).append (hc.drop _)) (fun a ha => by
          rcases List.mem_append.1 ha with ha | ha
          · rcases List.mem_append.1 ha with ha | ha
            · exact h1 a (List.mem_of_mem_take ha)
            · exact g3 a ha
          · exact h1 a (List.mem_of_mem_drop ha)) hf
        refine ⟨bs, ?_, k2, k3⟩
        simp only [fillS, hp, g1]
        rw [if_pos ⟨by omega, by omega⟩]; exact k1
      · cases hf
    · cases hf
theorem tlk_env {s s' : TS sem} (he : s'.env = s.env) (x : Nat) : tlk c s' x = tlk c s x := by unfold tlk; rw [he]
theorem tev_env {s s' : TS sem} (he : s'.env = s.env) (x : Operand) : tev c s' x = tev c s x := by cases x <;> simp [tev, tlk_env he]

theorem buildX_sound (R : Rel P κ ln z c s env h n) {T : TypeId} {parts : Array (Nat × Operand)} (hk : buildX P c s T parts.toList Kf = some r) : Res P κ ln z c s env h n ⟨d, .build T parts, ty, pos, after, g⟩ Kf r := by
  unfold buildX at hk
  split at hk
  · rename_i zs Ts pl hz hT hp
    split at hk
    · rename_i hl
      simp only at hk
      have hsc := zeroO_sc hz
      obtain ⟨κ', ln', R', h1, h2, h3, h4, h5, _⟩ := zeroC_sound zs Ts R hsc hl
      split at hk
      · rename_i vs hf
        have hev : ∀ x, TVR P κ' ln' z (zeroC P s zs Ts).2.n (tev c s x) (ev env x) := fun x => by rw [← tev_env (c := c) h3]; exact R'.ev x
        obtain ⟨bs, k1, k2, k3⟩ := fillT_sound hev parts.toList _ zs h1 (fun a ha => by obtain ⟨v, rfl, hv⟩ := hsc a ha; exact hv) hf
        exact ⟨.ag vs, _, .ag bs, h, n, κ', ln', z, fun K hk => s_build hz hp k1 hk, hk, R', .ag vs bs k2 k3, h3, h2, fun id hi => ⟨h4 id hi, h5 id hi⟩, fun hc => by cases hc⟩
      · exact semfail hk
    · exact semfail hk
  · exact semfail hk

theorem partsL_sound (R : Rel P κ ln z c s env h n) {t : Ty} (hd : t.dat = true) : ∀ (parts : List (Nat × Operand)) (j : Nat) {ys : List t.den} {ids : List Nat} (len : Nat), len = j + parts.length → partsL (A := sem) c s t parts j = some (ys, ids) → (∀ id ∈ ids, ∃ B, thp c s id = some B) ∧
    ∃ xs : List (List AV), xs.length = parts.length ∧ (∀ es : List (List AV), es.length = len → fillE t.wd env parts es = some (es.take j ++ xs)) ∧ SnapE (hz κ h z ids) xs (ys.map t.enc)
  | [], j, ys, ids, len, hl, hp => by
    cases hp
    refine ⟨fun id hi => by simp at hi, [], rfl, fun es he => ?_, rfl, fun q e e' hq => by simp at hq⟩
    simp only [List.length_nil, Nat.add_zero] at hl
    simp [fillE, ← hl, ← he]
  | (i, x) :: rest, j, ys, ids, len, hl, hp => by
    simp only [partsL] at hp
    split at hp
    · rename_i hij
      subst hij
      simp only [Option.bind_eq_some_iff, Option.map_eq_some_iff] at hp
      obtain ⟨⟨y, i1⟩, hy, ⟨ys', i2⟩, hr, he⟩ := hp
      cases he
      obtain ⟨g0, g1, g2⟩ := snapV_sound R (R.ev x) hy
      obtain ⟨xa, g3, g4⟩ := c_cells g0 g1
      obtain ⟨k0, xs, k1, k2, k3⟩ := partsL_sound R hd rest (i + 1) len (by simp at hl; omega) hr
      refine ⟨fun id hi => ?_, xa :: xs, by simp [k1], fun es he => ?_, ?_⟩
      · rcases List.mem_append.1 hi with hi | hi
        · exact g2 id hi
        · exact k0 id hi
      · have hlt : i < es.length := by simp at hl; omega
        simp only [fillE, g3]
        rw [if_pos ⟨by rw [← g4.len, enc_len t y hd], hlt⟩, k2 (es.set i xa) (by simpa using he)]
        congr 1
        rw [List.take_set, List.take_succ_eq_append_getElem hlt, List.set_append, if_neg (by simp; omega)]
        simp [Nat.min_eq_left (Nat.le_of_lt hlt)]
      · have m1 := hz_mono (κ := κ) (h := h) (z := z) (ids := i1) (ids' := i1 ++ i2) R.zin (fun id hi => by simp [hi])
        have m2 := hz_mono (κ := κ) (h := h) (z := z) (ids := i2) (ids' := i1 ++ i2) R.zin (fun id hi => by simp [hi])
        have k3 := k3.mono m2
        refine ⟨by simp [k3.1], fun q e e' hq hq' => ?_⟩
        cases q with
        | zero => simp at hq hq'; subst hq; subst hq'; exact g4.mono m1
        | succ q => exact k3.2 q e e' (by simpa using hq) (by simpa using hq')
    · cases hp

theorem buildSliceX_sound (R : Rel P κ ln z c s env h n) {T : TypeId} {len : Nat} {parts : Array (Nat × Operand)} (hk : buildSliceX P c s T len parts.toList Kf = some r) : Res P κ ln z c s env h n ⟨d, .buildSlice T len parts, ty, pos, after, g⟩ Kf r := by
  unfold buildSliceX at hk
  split at hk
  · exact semfail hk
  · rename_i e he
    split at hk
    · rename_i t zs ht hz
      split at hk
      · rename_i hc
        obtain ⟨hc1, hc2, hc3⟩ := hc
        have hd := tyOf_dat ht
        split at hk
        · rename_i hl
          split at hk
          · rename_i ys ids hp
            split at hk
            · rename_i s' hs'
              obtain ⟨k0, xs, k1, k2, k3⟩ := partsL_sound R hd parts.toList 0 len (by omega) hp
              obtain ⟨R', e1, e2, e3, e4, e5⟩ := R.retire hs'
              have hlen := k3.1
              rw [List.length_map] at hlen
              have hlst : ∀ l : List t.den, lstD (A := sem) t l = l := by
                intro l
                induction l with
                | nil => rfl
                | cons a l ih => simp only [lstD]; rw [ih]
              rw [hlst] at hk
              have hres := newSl_sound (o := ⟨d, .buildSlice T len parts, ty, pos, after, g⟩) rfl R' hd k3 (k3.ones hd) (fun K hk => ?_) hk
              · obtain ⟨tv, s2, v, h2, n2, κ2, ln2, z2, g1, g2, g3, g4, g5⟩ := hres
                exact ⟨tv, s2, v, h2, n2, κ2, ln2, z2, g1, g2, g3, g4, g5.1.trans e1, by have := g5.2.1; omega, fun id hi => g5.2.2.1 id (by omega), fun hc => by cases hc⟩
              · simp only [aop, he, hz, hc3]
                rw [k2 (List.replicate len zs) (by simp)]
                simp only [List.take_zero, List.nil_append]
                rw [hc3] at hc2
                refine ⟨hc1, hc2, .inl ?_⟩
                rw [show len = ys.length by omega]; exact hk
            · exact semfail hk
          · exact semfail hk
        · exact semfail hk
      · exact semfail hk
    · exact semfail hk

theorem makeSliceX_sound (R : Rel P κ ln z c s env h n) {T : TypeId} {x y : Operand} (hk : makeSliceX P s T (tev c s x) (tev c s y) (sameOp x y) Kf = some r) : Res P κ ln z c s env h n ⟨d, .makeSlice T x y, ty, pos, after, g⟩ Kf r := by
  unfold makeSliceX at hk
  split at hk
  · exact semfail hk
  · rename_i e he
    split at hk
    · rename_i t zs m ht hz hm
      split at hk
      · rename_i z0 hz0
        split at hk
        · rename_i hc
          obtain ⟨hs, hiz, hzl, hw0, hb⟩ := hc
          have hd := tyOf_dat ht
          have hx := R.ev x
          rw [hm] at hx
          have hx' := hx.i_inv
          have hy' : ∃ k', ev env y = .sc (.int k' m) := by
            unfold sameOp at hs
            split at hs
            · rename_i a b
              obtain rfl : a = b := by simpa using hs
              exact ⟨_, hx'⟩
            · rename_i k a k' b
              have hab : a = b := by simpa using hs
              subst hab
              have : (Value.int k a) = .int .i64 m := by simpa [ev, cst] using hx'
              cases this
              exact ⟨k', rfl⟩
            · cases hs
          obtain ⟨k', hy'⟩ := hy'
          simp only [Option.bind_eq_some_iff] at hk
          obtain ⟨l, hg, hk⟩ := hk
          obtain ⟨g1, g2, hg⟩ := gmk_inv hg
          obtain ⟨rest, hr, hre⟩ := (Option.any_eq_true _ _).1 hiz
          obtain rfl := List.isEmpty_iff.1 hre
          obtain ⟨a, ea, ha⟩ := isZ_sound (z := z) t z0 zs [] hd hz0 hr
          rw [List.append_nil] at ea; subst ea
          have hsn : SnapE z (List.replicate m.toNat zs) (l.map t.enc) := by
            rw [hg]
            refine ⟨by simp, fun q e e' hq hq' => ?_⟩
            rw [List.getElem?_replicate] at hq
            rw [List.map_replicate, List.getElem?_replicate] at hq'
            split at hq
            · rename_i hlt; rw [if_pos hlt] at hq'; cases hq; cases hq'; exact ha
            · cases hq
          refine newSl_sound rfl R hd hsn (hsn.ones hd) (fun K hk => ?_) hk
          simp only [aop, he, hz, hx', hy']
          refine ⟨trivial, g1, g2, hb, by rintro rfl; simp at hzl; omega, ?_⟩
          have hml : l.length = m.toNat := by rw [hg]; simp
          rw [hml] at hk
          rw [hzl]; exact hk
        · exact semfail hk
      · exact semfail hk
    · exact semfail hk

theorem newMp (R : Rel P κ ln z c s env h n) {k v : Ty} (hk : isKey k = true) (hf : v.flat = true) (ha : v.agg = false) : Rel P (updK κ s.n (some n)) (updK ln s.n 0) z c { s with hp := (s.n, some (.mp k v [])) :: s.hp, n := s.n + 1 } env (updH h n (.map [])) (n + 1) :=
  R.new (.mp k v []) (some n) 0 (fun q B hq => by
      unfold updH; rw [if_neg]; · exact hq
      rintro rfl; rw [R.hn _ (Nat.le_refl _)] at hq; cases hq) (Nat.le_succ _) (fun q hq => by cases hq; omega) (fun q hq => by unfold updH; rw [if_neg (by omega)]; exact R.hn q (by omega))
    (.mp k v [] n hk hf ha updK_self (by simp [updH]))
theorem makeMapX_sound (R : Rel P κ ln z c s env h n) {T : TypeId} (hk : makeMapX P s T Kf = some r) : Res P κ ln z c s env h n ⟨d, .makeMap T none, ty, pos, after, g⟩ Kf r := by
  unfold makeMapX at hk
  split at hk
  · split at hk
    · split at hk
      · rename_i hc
        obtain ⟨h1, h2, h3⟩ := hc
        exact ⟨.mp s.n, _, .mp n, _, _, _, _, _, fun K hk => by simp only [aop]; exact hk, hk, newMp R h1 h3 (by simpa using h2), .mp s.n n (Nat.lt_succ_self _) updK_self, rfl, Nat.le_succ _, fun id hi => ⟨updK_lt hi, updK_lt hi⟩, fun hc => by cases hc⟩
      · exact semfail hk
    · exact semfail hk
  · exact semfail hk

theorem keyB_ok : ∀ {k : Ty}, isKey k = true → ∀ a b : k.den, keyB (keyV k a) (keyV k b) = true ↔ a = b
  | .i k, _, a, b => by simp [keyV, keyB]
  | .s, _, a, b => by simp only [keyV, kb_str]; simp
theorem keyB_dec {k : Ty} (hk : isKey k = true) (a b : k.den) [Decidable (a = b)] : keyB (keyV k a) (keyV k b) = decide (a = b) := by
  have := keyB_ok hk a b
  by_cases h : a = b
  · subst h; rw [(keyB_ok hk a a).2 rfl]; simp
  · have h2 : ¬ keyB (keyV k a) (keyV k b) = true := fun e => h (this.1 e)
    rw [Bool.not_eq_true] at h2; rw [h2]; simp [h]
theorem keyT_ok {kt : TypeId} : ∀ {k : Ty}, keyT P kt k = true → ∀ a : k.den, keyOkA P kt (keyV k a)
  | .i k, h, a => by simpa [keyV, keyOkA, keyT] using h
  | .s, h, a => by simpa [keyV, keyOkA, ks] using isStrT_eq h
theorem key_av : ∀ {k : Ty}, isKey k = true → ∀ a : k.den, k.av a = .sc (keyV k a)
  | .i k, _, a => rfl
  | .s, _, a => rfl
theorem key_snap {k : Ty} (hk : isKey k = true) {v : TV sem} {a : AV} (R : Rel P κ ln z c s env h n) (hv : TVR P κ ln z s.n v a) {x : k.den} {ids : List Nat} (hs : snapV (A := sem) c s k v = some (x, ids)) : a = .sc (keyV k x) := by
  obtain ⟨_, h1, _⟩ := snapV_sound R hv hs
  rw [key_av hk] at h1
  exact h1.sc_inv
theorem flat_one : ∀ {v : Ty}, v.flat = true → v.agg = false → ∀ x : v.den, ∃ w, v.av x = .sc w ∧ w.oneCell' = true
  | .i k, _, _, x => ⟨_, rfl, rfl⟩
  | .b, _, _, x => ⟨_, rfl, rfl⟩
  | .s, _, _, x => ⟨_, rfl, rfl⟩
theorem zv_ok {e : TypeId} {v : Ty} (hf : v.flat = true) (ha : v.agg = false) (hd : v.dat = true) {z0 : v.den} (hz : zeroD (A := sem) v = some z0) (hc : ((zvO P e).any fun u => (isZ v [.sc u]).any List.isEmpty) = true) : ∃ u, zvO P e = some u ∧ cst u = v.av z0 := by
  obtain ⟨u, hu, hc⟩ := (Option.any_eq_true _ _).1 hc
  obtain ⟨rest, hr, hre⟩ := (Option.any_eq_true _ _).1 hc
  obtain rfl := List.isEmpty_iff.1 hre
  obtain ⟨a, ea, hsn⟩ := isZ_sound (z := fun _ => none) v z0 _ _ hd hz hr
  rw [List.append_nil] at ea; subst ea
  rw [av_one ha hd] at hsn
  obtain ⟨w, hw, _⟩ := flat_one hf ha z0
  refine ⟨u, hu, ?_⟩
  cases hsn with
  | cons k1 _ =>
    rw [hw] at k1 ⊢
    have := k1.sc_inv
    cases this
    have e : ∀ v : Ty, v.flat = true → v.agg = false → ∀ x : v.den, v.av x = .sc u → cst u = .sc u := fun v hf ha x hx => by
      cases v <;> simp [Ty.flat, Ty.agg] at hf ha <;> (simp only [Ty.av, Ty.agg, Ty.enc, Bool.false_eq_true, if_false, List.headD_cons, str] at hx; cases hx; rfl)
    exact e v hf ha z0 hw
theorem flat_dat : ∀ {v : Ty}, v.flat = true → v.dat = true
  | .i _, _ | .b, _ | .s, _ | .un, _ => rfl
  | .w t, h => flat_dat (v := t) h
  | .pr t u, h => by simp only [Ty.flat, Bool.and_eq_true] at h; simp [Ty.dat, flat_dat h.1, flat_dat h.2]

theorem mget_eq {k : Ty} {β : Type} (hk : isKey k = true) (l : List (k.den × β)) (x : k.den) [i : DecidableEq k.den] : mgetT k l x = mget l x := by
  cases k <;> simp [isKey] at hk <;> (simp only [mgetT]; congr)
theorem mput_eq {k : Ty} {β : Type} (hk : isKey k = true) (l : List (k.den × β)) (x : k.den) (v : β) [i : DecidableEq k.den] : mputT k l x v = mput l x v := by
  cases k <;> simp [isKey] at hk <;> (simp only [mputT]; congr; exact Subsingleton.elim _ _)
theorem key_dec {k : Ty} (hk : isKey k = true) : Nonempty (DecidableEq k.den) := by
  cases k <;> simp [isKey] at hk
  · exact ⟨(inferInstance : DecidableEq Int)⟩
  · exact ⟨(inferInstance : DecidableEq (List UInt8))⟩

theorem lookupX_sound (R : Rel P κ ln z c s env h n) {T : TypeId} {m key : Operand} {ok : Bool} {u v : TV sem} (hu : TVR P κ ln z s.n u (ev env m)) (hv : TVR P κ ln z s.n v (ev env key)) (hk : lookupX P c s T u v ok Kf = some r) : Res P κ ln z c s env h n ⟨d, .lookup T m key ok, ty, pos, after, g⟩ Kf r := by
  unfold lookupX at hk
  split at hk
  · rename_i id
    split at hk
    · rename_i k w l kt e hB hT
      split at hk
      · rename_i x z0 hx hz0
        simp only at hk
        split at hk
        · rename_i hc
          obtain ⟨c1, c2, c3, c4, c5⟩ := hc
          have c4 : w.agg = false := by simpa using c4
          have hd := flat_dat c3
          obtain ⟨zv, hzv, hcz⟩ := zv_ok c3 c4 hd hz0 c5
          have hkey := key_snap c1 R hv hx
          generalize hm : ev env m = a at hu
          cases R.blk _ _ hB with
          | mp _ _ _ q _ _ _ hq hh =>
            cases hu with
            | mp _ q' hN hq' =>
              rw [hq] at hq'; cases hq'
              obtain ⟨hdec⟩ := key_dec c1
              have hh' : h q = some (.map (List.map (kvE (keyV k) w.av) l)) := hh
              have hfree : ∀ y : w.den, TVR P κ ln z s.n (.c w y) (w.av y) := fun y => .free hd
              have key := fun (F : AV → Prop) hF => lkK (P := P) (h := h) (T := T) (F := F) (ok := ok) (k := x) hT hzv hcz (fun a b => keyB_dec c1 a b) (keyT_ok c2) hh' hF
              cases ok with
              | true =>
                simp only [if_true] at hk
                refine R.q (fun K hk => ?_) (.tp _ [w.av ((mgetT k l x).getD z0), .sc (.bool (mgetT k l x).isSome)] (.cons _ _ _ _ (hfree _) (.cons _ _ _ _ (.bool _) .nil))) hk
                simp only [aop, hm, hkey]
                refine key _ ?_
                simp only [if_true]
                rw [← mget_eq c1]; exact hk
              | false =>
                simp only [Bool.false_eq_true, if_false] at hk
                refine R.q (fun K hk => ?_) (hfree _) hk
                simp only [aop, hm, hkey]
                refine key _ ?_
                simp only [Bool.false_eq_true, if_false]
                rw [← mget_eq c1]; exact hk
        · exact semfail hk
      · exact semfail hk
    · exact semfail hk
  · exact semfail hk

theorem mapUpdX_sound (R : Rel P κ ln z c s env h n) {T : TypeId} {m key x : Operand} {u v w : TV sem} (hu : TVR P κ ln z s.n u (ev env m)) (hv : TVR P κ ln z s.n v (ev env key)) (hw : TVR P κ ln z s.n w (ev env x)) (hk : mapUpdX P c s T u v w Kf = some r) : Res P κ ln z c s env h n ⟨d, .mapUpdate T m key x, ty, pos, after, g⟩ Kf r := by
  unfold mapUpdX at hk
  split at hk
  · rename_i id
    split at hk
    · rename_i k w' l kt e hB hT
      split at hk
      · rename_i y y' hy hy'
        split at hk
        · rename_i hc
          obtain ⟨c1, c2⟩ := hc
          have hkey := key_snap c1 R hv hy
          generalize hm : ev env m = a at hu
          cases R.blk _ _ (own_thp hB) with
          | mp _ _ _ q _ hf ha hq hh =>
            cases hu with
            | mp _ q' hN hq' =>
              rw [hq] at hq'; cases hq'
              obtain ⟨hdec⟩ := key_dec c1
              obtain ⟨_, hs1, _⟩ := snapV_sound R hw hy'
              obtain ⟨ww, hww, hone⟩ := flat_one hf ha y'
              rw [hww] at hs1
              have hval : ev env x = w'.av y' := by rw [hww]; exact hs1.sc_inv
              have hh' : h q = some (.map (List.map (kvE (keyV k) w'.av) l)) := hh
              have hput := findA_put (vf := w'.av) (fun a b => keyB_dec c1 a b) y y' l []
              refine ⟨.ud, _, .ud, updH h q (.map ((mputT k l y y').map (kvE (keyV k) w'.av))), n, κ, ln, z, fun K hk => ?_, hk, R.set hB hq (.mp k w' _ q c1 hf ha hq (by simp only [updH, if_true])), .ud, rfl, Nat.le_refl _, fun _ _ => ⟨rfl, rfl⟩, fun hc => by cases hc⟩
              simp only [aop, hm, hkey, hval, mapUpdK, hT, hh']
              refine ⟨keyT_ok c2 y, fun x hx => ?_, by rw [hww]; exact hone, ?_⟩
              · obtain ⟨p, _, rfl⟩ := List.mem_map.1 hx; exact keyT_ok c2 _
              · rw [mput_eq c1] at hk
                simp only [List.length_nil, List.nil_append] at hput
                generalize findA (keyV k y) (List.map (kvE (keyV k) w'.av) l) 0 = fq at hput ⊢
                cases fq with
                | none => simp only at hput ⊢; rw [hput]; exact hk
                | some q => obtain ⟨i, a⟩ := q; simp only at hput ⊢; rw [hput]; exact hk
        · exact semfail hk
      · exact semfail hk
    · exact semfail hk
  · exact semfail hk
end
end Go.Abs

/- The typed machine is sound, fourteenth part: patterns. -/
set_option linter.unusedSimpArgs false
set_option linter.unusedVariables false
set_option linter.constructorNameAsVariable false
namespace Go.Abs
open Go Go.RowKit

section
variable {P : Program} {κ κ' : Nat → Option Nat} {ln ln' : Nat → Nat} {z z' : AH} {c : Cx sem} {s : TS sem} {env : Env} {h h' : AH} {n n' N N' : Nat}

mutual
theorem TVR.has_lt : ∀ {v : TV sem} {a : AV}, TVR P κ ln z N v a → ∀ id, v.has id = true → id < N
  | _, _, .un _, id, h | _, _, .ud, id, h | _, _, .c _ _ _ _ _, id, h | _, _, .kb _, id, h | _, _, .sc _ _, id, h | _, _, .fq _ _ _ _ _ _, id, h | _, _, .cv _ _ _ _ _ _, id, h => by simp [TV.has] at h
  | _, _, .ptr i j q hN _, id, h | _, _, .adr i _ j q hN _ _ _, id, h | _, _, .aa i _ q hN _ _ _, id, h | _, _, .mw0 i hN _, id, h | _, _, .mw i q hN _, id, h | _, _, .ms0 i _ _ hN _ _ _, id, h | _, _, .ms i _ _ q hN _ _ _ _, id, h | _, _, .mp i q hN _, id, h => by
    simp only [TV.has, beq_iff_eq] at h; omega
  | _, _, .fn g vs as hs, id, h => TVRs.has_lt hs id h
  | _, _, .tp vs as hs, id, h => TVRs.has_lt hs id h
  | _, _, .ag vs as hs _, id, h => TVRs.has_lt hs id h
theorem TVRs.has_lt : ∀ {vs : List (TV sem)} {as : List AV}, TVRs P κ ln z N vs as → ∀ id, TV.has.hasL id vs = true → id < N
  | _, _, .nil, id, h => by simp [TV.has.hasL] at h
  | _, _, .cons v a vs as hv hs, id, h => by
    simp only [TV.has.hasL, Bool.or_eq_true] at h
    rcases h with h | h
    · exact TVR.has_lt hv id h
    · exact TVRs.has_lt hs id h
end
mutual
theorem TVR.congr : ∀ {v : TV sem} {a : AV}, TVR P κ ln z N v a → (∀ id, v.has id = true → κ' id = κ id ∧ ln' id = ln id ∧ id < N') → (∀ q B, z q = some B → z' q = some B) → TVR P κ' ln' z' N' v a
  | _, _, .un a, _, _ => .un a
  | _, _, .ud, _, _ => .ud
  | _, _, .c t x a hd h, _, hz => .c t x a hd (h.mono hz)
  | _, _, .kb b, _, _ => .kb b
  | _, _, .sc v h1, _, _ => .sc v h1
  | _, _, .ptr id j q hi h, hc, _ => by obtain ⟨h1, h2, h3⟩ := hc id (by simp [TV.has]); exact .ptr id j q h3 (by rw [h1]; exact h)
  | _, _, .adr id i j q hi h g0 g1, hc, _ => by obtain ⟨h1, h2, h3⟩ := hc id (by simp [TV.has]); exact .adr id i j q h3 (by rw [h1]; exact h) g0 (by rw [h2]; exact g1)
  | _, _, .aa id i q hi h g0 g1, hc, _ => by obtain ⟨h1, h2, h3⟩ := hc id (by simp [TV.has]); exact .aa id i q h3 (by rw [h1]; exact h) g0 (by rw [h2]; exact g1)
  | _, _, .fq t x o a hd h, _, hz => .fq t x o a hd (h.mono hz)
  | _, _, .mw0 id hi h, hc, _ => by obtain ⟨h1, h2, h3⟩ := hc id (by simp [TV.has]); exact .mw0 id h3 (by rw [h1]; exact h)
  | _, _, .mw id q hi h, hc, _ => by obtain ⟨h1, h2, h3⟩ := hc id (by simp [TV.has]); rw [← h2]; exact .mw id q h3 (by rw [h1]; exact h)
  | _, _, .ms0 id o l hi h ho hl, hc, _ => by obtain ⟨h1, h2, h3⟩ := hc id (by simp [TV.has]); exact .ms0 id o l h3 (by rw [h1]; exact h) ho hl
  | _, _, .ms id o l q hi h g0 g1 g2, hc, _ => by obtain ⟨h1, h2, h3⟩ := hc id (by simp [TV.has]); exact .ms id o l q h3 (by rw [h1]; exact h) g0 g1 (by rw [h2]; exact g2)
  | _, _, .mp id q hi h, hc, _ => by obtain ⟨h1, h2, h3⟩ := hc id (by simp [TV.has]); exact .mp id q h3 (by rw [h1]; exact h)
  | _, _, .fn g vs as h, hc, hz => .fn g vs as (TVRs.congr h (fun id hi => hc id hi) hz)
  | _, _, .cv m x y F a h, _, _ => .cv m x y F a h
  | _, _, .tp vs as h, hc, hz => .tp vs as (TVRs.congr h (fun id hi => hc id hi) hz)
  | _, _, .ag vs as h h1, hc, hz => .ag vs as (TVRs.congr h (fun id hi => hc id hi) hz) h1
theorem TVRs.congr : ∀ {vs : List (TV sem)} {as : List AV}, TVRs P κ ln z N vs as → (∀ id, TV.has.hasL id vs = true → κ' id = κ id ∧ ln' id = ln id ∧ id < N') → (∀ q B, z q = some B → z' q = some B) → TVRs P κ' ln' z' N' vs as
  | _, _, .nil, _, _ => .nil
  | _, _, .cons v a vs as h hs, hc, hz => .cons v a vs as (TVR.congr h (fun id hi => hc id (by simp [TV.has.hasL, hi])) hz) (TVRs.congr hs (fun id hi => hc id (by simp [TV.has.hasL, hi])) hz)
end
theorem BR.congr {id : Nat} {B : TB sem} (hb : BR P κ ln z h N id B) (hi : κ' id = κ id ∧ ln' id = ln id) (hc : ∀ i, B.has i = true → κ' i = κ i ∧ ln' i = ln i ∧ i < N') (hz : ∀ q B, z q = some B → z' q = some B) : BR P κ' ln' z' h N' id B := by
  cases hb with
  | bx T vs q as hq hB hv h1 => exact .bx T vs q as (by rw [hi.1]; exact hq) hB (hv.congr (fun i h => hc i h) hz) h1
  | el T t x q cs hd hq hB hv h1 hl => exact .el T t x q cs hd (by rw [hi.1]; exact hq) hB (hv.mono hz) h1 (by rw [hi.2]; exact hl)
  | sl0 T t l hd hq hl hn => exact .sl0 T t l hd (by rw [hi.1]; exact hq) hl (by rw [hi.2]; exact hn)
  | sl T t l q es hd hq hB hv h1 hn => exact .sl T t l q es hd (by rw [hi.1]; exact hq) hB (hv.mono hz) h1 (by rw [hi.2]; exact hn)
  | mp k v l q hk hf ha hq hB => exact .mp k v l q hk hf ha (by rw [hi.1]; exact hq) hB
theorem BR.has_lt {id : Nat} {B : TB sem} (hb : BR P κ ln z h N id B) : ∀ i, B.has i = true → i < N := by
  intro i hi
  cases hb with
  | bx T vs q as hq hB hv h1 => exact hv.has_lt i hi
  | _ => simp [TB.has] at hi

/-! matching -/
structure MExt (m m' : Mt sem) : Prop where
  ids : ∀ p q, alk m.ids p = some q → alk m'.ids p = some q
  sn : ∀ x ∈ m.sn, x ∈ m'.sn
theorem MExt.refl (m : Mt sem) : MExt m m := ⟨fun _ _ h => h, fun _ h => h⟩
theorem MExt.trans {m m1 m2 : Mt sem} (h : MExt m m1) (g : MExt m1 m2) : MExt m m2 := ⟨fun p q e => g.ids p q (h.ids p q e), fun x e => g.sn x (h.sn x e)⟩
theorem bindId_ext {m m' : Mt sem} {p q : Nat} (h : m.bindId p q = some m') : MExt m m' ∧ alk m'.ids p = some q ∧ m'.cs = m.cs ∧ m'.sn = m.sn ∧ (∀ x y a, alk m'.ids x = some a → alk m'.ids y = some a → (∀ x y a, alk m.ids x = some a → alk m.ids y = some a → x = y) → x = y) := by
  unfold Mt.bindId at h
  split at h
  · rename_i q' hq
    split at h
    · rename_i e; cases h; subst e
      exact ⟨.refl _, hq, rfl, rfl, fun x y a hx hy hi => hi x y a hx hy⟩
    · cases h
  · rename_i hq
    split at h
    · rename_i hall
      cases h
      have mem : ∀ (l : List (Nat × Nat)) (x a : Nat), alk l x = some a → ∃ y ∈ l, y.2 = a := by
        intro l
        induction l with
        | nil => intro x a h; simp [alk] at h
        | cons y l ih =>
          intro x a h
          simp only [alk] at h
          split at h
          · cases h; exact ⟨y, by simp, rfl⟩
          · obtain ⟨w, hw, e⟩ := ih x a h; exact ⟨w, by simp [hw], e⟩
      refine ⟨⟨fun p' q' e => ?_, fun x h => h⟩, by simp [alk], rfl, rfl, fun x y a hx hy hi => ?_⟩
      · simp only [alk]
        rw [if_neg (by rintro rfl; rw [hq] at e; cases e)]; exact e
      · simp only [alk] at hx hy
        split at hx
        · rename_i e1
          split at hy
          · rename_i e2; omega
          · cases hx
            obtain ⟨w, hw, e⟩ := mem _ _ _ hy
            have := List.all_eq_true.1 hall w hw
            simp [e] at this
        · split at hy
          · cases hy
            obtain ⟨w, hw, e⟩ := mem _ _ _ hx
            have := List.all_eq_true.1 hall w hw
            simp [e] at this
          · exact hi x y a hx hy
    · cases h

/-- the new numbers of own blocks -/
structure Fin (κ : Nat → Option Nat) (ln : Nat → Nat) (h z : AH) (m : Mt sem) (κ2 : Nat → Option Nat) (ln2 : Nat → Nat) (z2 : AH) (N2 : Nat) : Prop where
  k : ∀ p q, alk m.ids p = some q → κ2 p = κ q ∧ ln2 p = ln q ∧ p < N2
  z : ∀ q B, hz κ h z m.sn q = some B → z2 q = some B
theorem Fin.back {m m' : Mt sem} {κ2 : Nat → Option Nat} {ln2 : Nat → Nat} {z2 : AH} {N2 : Nat} (hzin : ∀ q B, z q = some B → h q = some B) (e : MExt m m') (f : Fin κ ln h z m' κ2 ln2 z2 N2) : Fin κ ln h z m κ2 ln2 z2 N2 :=
  ⟨fun p q hq => f.k p q (e.ids p q hq), fun q B hq => f.z q B (hz_mono hzin e.sn q B hq)⟩

def Inj (m : Mt sem) : Prop := ∀ x y a, alk m.ids x = some a → alk m.ids y = some a → x = y

mutual
theorem mtV_sound (R : Rel P κ ln z c s env h n) : ∀ (pv : PV) {v : TV sem} {a : AV} {m m' : Mt sem}, TVR P κ ln z s.n v a → mtV c s pv v m = some m' →
    ∃ new, m'.cs = m.cs ++ new ∧ MExt m m' ∧ (Inj m → Inj m') ∧ ∀ κ2 ln2 z2 N2, Fin κ ln h z m' κ2 ln2 z2 N2 → ∀ rest, ∃ v', unV pv (new ++ rest) = (v', rest) ∧ TVR P κ2 ln2 z2 N2 v' a
  | .un, v, a, m, m', hv, hm => by simp only [mtV, Option.some.injEq] at hm; subst hm; exact ⟨[], by simp, .refl _, id, fun _ _ _ _ _ rest => ⟨.un, rfl, .un a⟩⟩
  | .ud, v, a, m, m', hv, hm => by
    cases v <;> simp only [mtV, Option.some.injEq, reduceCtorEq] at hm
    subst hm; cases hv
    exact ⟨[], by simp, .refl _, id, fun _ _ _ _ _ rest => ⟨.ud, rfl, .ud⟩⟩
  | .c t, v, a, m, m', hv, hm => by
    simp only [mtV, Option.map_eq_some_iff] at hm
    obtain ⟨y, hy, rfl⟩ := hm
    obtain ⟨hd, h1, h2⟩ := snapV_sound R hv hy
    refine ⟨[⟨t, y.1⟩], rfl, ⟨fun _ _ h => h, fun x hx => by simp [hx]⟩, id, fun κ2 ln2 z2 N2 f rest => ⟨.c t y.1, rfl, .c t y.1 a hd (h1.mono fun q B hq => f.z q B (hz_mono R.zin (fun i hi => by simp [hi]) q B hq))⟩⟩
  | .sc u, v, a, m, m', hv, hm => by
    cases v <;> simp only [mtV, Option.ite_none_right_eq_some, Option.some.injEq, reduceCtorEq] at hm
    rename_i w
    obtain ⟨hc, rfl⟩ := hm
    cases hv with
    | sc _ hw =>
      have e : u = w := by
        rcases hc with ⟨h1, h2⟩ | ⟨h1, h2⟩
        · rw [isNilS_eq h1, isNilS_eq h2]
        · rw [isNilP_eq h1, isNilP_eq h2]
      rw [e]
      exact ⟨[], by simp, .refl _, id, fun _ _ _ _ _ rest => ⟨.sc w, rfl, .sc w hw⟩⟩
  | .ptr p j, v, a, m, m', hv, hm => by
    cases v <;> simp only [mtV, Option.ite_none_right_eq_some, reduceCtorEq] at hm
    obtain ⟨rfl, hm⟩ := hm
    obtain ⟨h1, h2, h3, h4, h5⟩ := bindId_ext hm
    cases hv with
    | ptr id j q hN hq => exact ⟨[], by simp [h3], h1, fun hi x y a hx hy => h5 x y a hx hy hi, fun κ2 ln2 z2 N2 f rest => ⟨.ptr p j, rfl, by obtain ⟨k1, k2, k3⟩ := f.k p _ h2; exact .ptr p j q k3 (by rw [k1]; exact hq)⟩⟩
  | .mw p, v, a, m, m', hv, hm => by
    cases v <;> simp only [mtV, reduceCtorEq] at hm
    obtain ⟨h1, h2, h3, h4, h5⟩ := bindId_ext hm
    refine ⟨[], by simp [h3], h1, fun hi x y a hx hy => h5 x y a hx hy hi, fun κ2 ln2 z2 N2 f rest => ⟨.mw p, rfl, ?_⟩⟩
    obtain ⟨k1, k2, k3⟩ := f.k p _ h2
    cases hv with
    | mw0 _ hN hq => exact .mw0 p k3 (by rw [k1]; exact hq)
    | mw _ q hN hq => rw [← k2]; exact .mw p q k3 (by rw [k1]; exact hq)
  | .mp p, v, a, m, m', hv, hm => by
    cases v <;> simp only [mtV, reduceCtorEq] at hm
    obtain ⟨h1, h2, h3, h4, h5⟩ := bindId_ext hm
    cases hv with
    | mp id q hN hq => exact ⟨[], by simp [h3], h1, fun hi x y a hx hy => h5 x y a hx hy hi, fun κ2 ln2 z2 N2 f rest => ⟨.mp p, rfl, by obtain ⟨k1, k2, k3⟩ := f.k p _ h2; exact .mp p q k3 (by rw [k1]; exact hq)⟩⟩
  | .fn g vs, v, a, m, m', hv, hm => by
    cases v <;> simp only [mtV, Option.ite_none_right_eq_some, reduceCtorEq] at hm
    obtain ⟨rfl, hm⟩ := hm
    cases hv with
    | fn _ us as hs =>
      obtain ⟨new, g1, g2, g3, g4⟩ := mtL_sound R vs hs hm
      refine ⟨new, g1, g2, g3, fun κ2 ln2 z2 N2 f rest => ?_⟩
      obtain ⟨vs', k1, k2⟩ := g4 κ2 ln2 z2 N2 f rest
      exact ⟨.fn g vs', by simp only [unV, k1], .fn g vs' as k2⟩
  | .ag vs, v, a, m, m', hv, hm => by
    cases v <;> simp only [mtV, reduceCtorEq] at hm
    cases hv with
    | ag us as hs h1 =>
      obtain ⟨new, g1, g2, g3, g4⟩ := mtL_sound R vs hs hm
      refine ⟨new, g1, g2, g3, fun κ2 ln2 z2 N2 f rest => ?_⟩
      obtain ⟨vs', k1, k2⟩ := g4 κ2 ln2 z2 N2 f rest
      exact ⟨.ag vs', by simp only [unV, k1], .ag vs' as k2 h1⟩
theorem mtL_sound (R : Rel P κ ln z c s env h n) : ∀ (pvs : List PV) {vs : List (TV sem)} {as : List AV} {m m' : Mt sem}, TVRs P κ ln z s.n vs as → mtL c s pvs vs m = some m' →
    ∃ new, m'.cs = m.cs ++ new ∧ MExt m m' ∧ (Inj m → Inj m') ∧ ∀ κ2 ln2 z2 N2, Fin κ ln h z m' κ2 ln2 z2 N2 → ∀ rest, ∃ vs', unL pvs (new ++ rest) = (vs', rest) ∧ TVRs P κ2 ln2 z2 N2 vs' as
  | [], [], _, m, m', .nil, hm => by simp only [mtL, Option.some.injEq] at hm; subst hm; exact ⟨[], by simp, .refl _, id, fun _ _ _ _ _ rest => ⟨[], rfl, .nil⟩⟩
  | [], _ :: _, _, m, m', _, hm => by simp [mtL] at hm
  | _ :: _, [], _, m, m', _, hm => by simp [mtL] at hm
  | pv :: pvs, v :: vs, _, m, m', .cons _ a _ as hv hvs, hm => by
    simp only [mtL, Option.bind_eq_some_iff] at hm
    obtain ⟨m1, h1, h2⟩ := hm
    obtain ⟨new1, a1, a2, a3, a4⟩ := mtV_sound R pv hv h1
    obtain ⟨new2, b1, b2, b3, b4⟩ := mtL_sound R pvs hvs h2
    refine ⟨new1 ++ new2, by rw [b1, a1, List.append_assoc], a2.trans b2, fun hi => b3 (a3 hi), fun κ2 ln2 z2 N2 f rest => ?_⟩
    obtain ⟨v', k1, k2⟩ := a4 κ2 ln2 z2 N2 (f.back R.zin b2) (new2 ++ rest)
    obtain ⟨vs', k3, k4⟩ := b4 κ2 ln2 z2 N2 f rest
    exact ⟨v' :: vs', by simp only [unL, List.append_assoc, k1, k3], .cons _ _ _ _ k2 k4⟩
end
theorem mtB_sound (R : Rel P κ ln z c s env h n) {pb : PB} {q p : Nat} {B : TB sem} {m m' : Mt sem} (hB : thp c s q = some B) (hm : mtB c s pb B m = some m') :
    ∃ new, m'.cs = m.cs ++ new ∧ MExt m m' ∧ (Inj m → Inj m') ∧ ∀ κ2 ln2 z2 N2, Fin κ ln h z m' κ2 ln2 z2 N2 → κ2 p = κ q ∧ ln2 p = ln q → ∀ rest, ∃ B', unB pb (new ++ rest) = (some B', rest) ∧ BR P κ2 ln2 z2 h N2 p B' := by
  have hb := R.blk q B hB
  unfold mtB at hm
  split at hm
  · rename_i T vs T' us
    split at hm
    · rename_i e
      subst e
      cases hb with
      | bx _ _ q' as hq hh hv h1 =>
        obtain ⟨new, g1, g2, g3, g4⟩ := mtL_sound R vs hv hm
        refine ⟨new, g1, g2, g3, fun κ2 ln2 z2 N2 f hp rest => ?_⟩
        obtain ⟨vs', k1, k2⟩ := g4 κ2 ln2 z2 N2 f rest
        exact ⟨.bx T vs', by simp only [unB, k1], .bx T vs' q' as (by rw [hp.1]; exact hq) (by rw [← k2.len, hv.len]; exact hh) k2 h1⟩
    · cases hm
  · rename_i T t T' t' x
    split at hm
    · rename_i e
      subst e
      simp only [Option.map_eq_some_iff] at hm
      obtain ⟨y, hy, rfl⟩ := hm
      obtain ⟨e, rfl⟩ := tcast_sem hy
      cases e
      cases hb with
      | el _ _ _ q' cs hd hq hh hv h1 hl =>
        exact ⟨[⟨t, x⟩], rfl, ⟨fun _ _ h => h, fun _ h => h⟩, id, fun κ2 ln2 z2 N2 f hp rest => ⟨.el T t x, by simp [unB, tcast], .el T t x q' cs hd (by rw [hp.1]; exact hq) hh (hv.mono fun q B hq => f.z q B (hz_z R.zin q B hq)) h1 (by rw [hp.2]; exact hl)⟩⟩
    · cases hm
  · rename_i T t T' t' l
    split at hm
    · rename_i e
      subst e
      simp only [Option.map_eq_some_iff] at hm
      obtain ⟨y, hy, rfl⟩ := hm
      obtain ⟨e, rfl⟩ := tcast_sem hy
      cases e
      refine ⟨[⟨.sl t, l⟩], rfl, ⟨fun _ _ h => h, fun _ h => h⟩, id, fun κ2 ln2 z2 N2 f hp rest => ⟨.sl T t l, by simp [unB, tcast], ?_⟩⟩
      cases hb with
      | sl0 _ _ _ hd hq hl hn => exact .sl0 T t l hd (by rw [hp.1]; exact hq) hl (by rw [hp.2]; exact hn)
      | sl _ _ _ q' es hd hq hh hv h1 hn => exact .sl T t l q' es hd (by rw [hp.1]; exact hq) hh (hv.mono fun q B hq => f.z q B (hz_z R.zin q B hq)) h1 (by rw [hp.2]; exact hn)
    · cases hm
  · rename_i k v k' v' l
    simp only [Option.map_eq_some_iff] at hm
    obtain ⟨y, hy, rfl⟩ := hm
    obtain ⟨e, rfl⟩ := tcast_sem hy
    cases e
    cases hb with
    | mp _ _ _ q' hk hf ha hq hh => exact ⟨[⟨.sl (.pr k v), l⟩], rfl, ⟨fun _ _ h => h, fun _ h => h⟩, id, fun κ2 ln2 z2 N2 f hp rest => ⟨.mp k v l, by simp [unB, tcast], .mp k v l q' hk hf ha (by rw [hp.1]; exact hq) hh⟩⟩
  · cases hm
end
end Go.Abs

/- The typed machine is sound, fifteenth part: states told by patterns. -/
set_option linter.unusedSimpArgs false
set_option linter.unusedVariables false
set_option linter.constructorNameAsVariable false
namespace Go.Abs
open Go Go.RowKit

theorem alk_mem {α : Type} : ∀ {l : List (Nat × α)} {x : Nat} {v : α}, alk l x = some v → (x, v) ∈ l
  | [], x, v, h => by simp [alk] at h
  | (k, w) :: l, x, v, h => by
    simp only [alk] at h
    split at h
    · rename_i e; cases h; subst e; simp
    · exact List.mem_cons_of_mem _ (alk_mem h)
theorem alk_append {α : Type} : ∀ (l l' : List (Nat × α)) (x : Nat), alk (l ++ l') x = match alk l x with | some v => some v | none => alk l' x
  | [], l', x => rfl
  | (k, w) :: l, l', x => by
    simp only [List.cons_append, alk]
    split
    · rfl
    · exact alk_append l l' x

theorem mkT_two {t u : Ty} {ts : List Ty} {p : (t : Ty) × t.den} {l : List ((t : Ty) × t.den)} : mkT sem (t :: u :: ts) (p :: l) = (tcast (A := sem) t p.2).bind fun x => (mkT sem (u :: ts) l).map fun y => ((x, y) : t.den × (tup (u :: ts)).den) := rfl

section
variable {P : Program} {κ κ' : Nat → Option Nat} {ln ln' : Nat → Nat} {z z' : AH} {c : Cx sem} {s : TS sem} {env : Env} {h h' : AH} {n n' N N' : Nat}

theorem mkT_unT : ∀ (ts : List Ty) (l : List ((t : Ty) × t.den)) (x : (tup ts).den), mkT sem ts l = some x → unT sem ts x = l := by
  intro ts
  induction ts with
  | nil =>
    intro l x h
    cases l with
    | nil => rfl
    | cons p l => exact semfail (r := x) h
  | cons t ts ih =>
    intro l x h
    cases ts with
    | nil =>
      cases l with
      | nil => exact semfail (r := x) h
      | cons p l =>
        cases l with
        | nil =>
          obtain ⟨t', y⟩ := p
          obtain ⟨e, rfl⟩ := tcast_sem h
          cases e; rfl
        | cons q l => exact semfail (r := x) h
    | cons u ts =>
      cases l with
      | nil => exact semfail (r := x) h
      | cons p l =>
        rw [mkT_two] at h
        obtain ⟨x1, hx1, h⟩ := Option.bind_eq_some_iff.1 h
        obtain ⟨x2, hx2, rfl⟩ := Option.map_eq_some_iff.1 h
        obtain ⟨t', y⟩ := p
        obtain ⟨e, rfl⟩ := tcast_sem hx1
        cases e
        show _ :: unT sem (u :: ts) x2 = _ :: l
        rw [ih l x2 hx2]

theorem mtE_sound (R : Rel P κ ln z c s env h n) : ∀ (l : List (Nat × PV)) {m m' : Mt sem}, mtE c s l m = some m' →
    ∃ new, m'.cs = m.cs ++ new ∧ MExt m m' ∧ (Inj m → Inj m') ∧ ∀ κ2 ln2 z2 N2, Fin κ ln h z m' κ2 ln2 z2 N2 → ∀ rest, ∃ E, unE l (new ++ rest) = (E, rest) ∧ (∀ y v, alk E y = some v → TVR P κ2 ln2 z2 N2 v (lk env y)) ∧ ∀ y, (alk E y).isSome = (alk l y).isSome
  | [], m, m', hm => by simp only [mtE, Option.some.injEq] at hm; subst hm; exact ⟨[], by simp, .refl _, id, fun _ _ _ _ _ rest => ⟨[], rfl, fun y v hy => by simp [alk] at hy, fun _ => rfl⟩⟩
  | (x, pv) :: l, m, m', hm => by
    simp only [mtE, Option.bind_eq_some_iff] at hm
    obtain ⟨m1, h1, h2⟩ := hm
    obtain ⟨new1, a1, a2, a3, a4⟩ := mtV_sound R pv (R.env x) h1
    obtain ⟨new2, b1, b2, b3, b4⟩ := mtE_sound R l h2
    refine ⟨new1 ++ new2, by rw [b1, a1, List.append_assoc], a2.trans b2, fun hi => b3 (a3 hi), fun κ2 ln2 z2 N2 f rest => ?_⟩
    obtain ⟨v', k1, k2⟩ := a4 κ2 ln2 z2 N2 (f.back R.zin b2) (new2 ++ rest)
    obtain ⟨E, k3, k4, k5⟩ := b4 κ2 ln2 z2 N2 f rest
    refine ⟨(x, v') :: E, by simp only [unE, List.append_assoc, k1, k3], fun y v hy => ?_, fun y => ?_⟩
    · simp only [alk] at hy
      split at hy
      · rename_i e; cases hy; subst e; exact k2
      · exact k4 y v hy
    · simp only [alk]
      split
      · rfl
      · exact k5 y
theorem mtI_ext {m m' : Mt sem} {id : Nat} (h : mtI c m id = some m') : m'.cs = m.cs ∧ MExt m m' ∧ (Inj m → Inj m') := by
  unfold mtI at h
  split at h
  · obtain ⟨h1, h2, h3, h4, h5⟩ := bindId_ext h
    exact ⟨h3, h1, fun hi x y a hx hy => h5 x y a hx hy hi⟩
  · cases h; exact ⟨rfl, .refl _, fun h => h⟩
theorem mtH_sound (R : Rel P κ ln z c s env h n) : ∀ (l : List (Nat × PB)) {m m' : Mt sem}, mtH c s l m = some m' →
    ∃ new, m'.cs = m.cs ++ new ∧ MExt m m' ∧ (Inj m → Inj m') ∧ ∀ κ2 ln2 z2 N2, Fin κ ln h z m' κ2 ln2 z2 N2 → ∀ rest, ∃ H, unH l (new ++ rest) = (H, rest) ∧ (∀ id b, alk H id = some b → ∃ B q B0, b = some B ∧ alk m'.ids id = some q ∧ alk s.hp q = some (some B0) ∧ BR P κ2 ln2 z2 h N2 id B) ∧ ∀ y, (alk H y).isSome = (alk l y).isSome
  | [], m, m', hm => by simp only [mtH, Option.some.injEq] at hm; subst hm; exact ⟨[], by simp, .refl _, id, fun _ _ _ _ _ rest => ⟨[], rfl, fun y v hy => by simp [alk] at hy, fun _ => rfl⟩⟩
  | (x, pb) :: l, m, m', hm => by
    simp only [mtH] at hm
    obtain ⟨m0, h0, hm⟩ := Option.bind_eq_some_iff.1 hm
    obtain ⟨i1, i2, i3⟩ := mtI_ext h0
    split at hm
    · cases hm
    · rename_i q hq
      split at hm
      · rename_i B0 hB0
        simp only [Option.bind_eq_some_iff] at hm
        obtain ⟨m1, h1, h2⟩ := hm
        obtain ⟨new1, a1, a2, a3, a4⟩ := mtB_sound (p := x) R (own_thp hB0) h1
        obtain ⟨new2, b1, b2, b3, b4⟩ := mtH_sound R l h2
        refine ⟨new1 ++ new2, by rw [b1, a1, i1, List.append_assoc], i2.trans (a2.trans b2), fun hi => b3 (a3 (i3 hi)), fun κ2 ln2 z2 N2 f rest => ?_⟩
        have hq' := b2.ids _ _ (a2.ids _ _ hq)
        obtain ⟨k0, k0', _⟩ := f.k x q hq'
        obtain ⟨B', k1, k2⟩ := a4 κ2 ln2 z2 N2 (f.back R.zin b2) ⟨k0, k0'⟩ (new2 ++ rest)
        obtain ⟨H, k3, k4, k5⟩ := b4 κ2 ln2 z2 N2 f rest
        refine ⟨(x, some B') :: H, by simp only [unH, List.append_assoc, k1, k3], fun y b hy => ?_, fun y => ?_⟩
        · simp only [alk] at hy
          split at hy
          · rename_i e; cases hy; subst e; exact ⟨B', q, B0, rfl, hq', hB0, k2⟩
          · exact k4 y b hy
        · simp only [alk]
          split
          · rfl
          · exact k5 y
      · cases hm

theorem has_e0 {x : Nat} {v : TV sem} (hx : alk c.e0 x = some v) {id : Nat} (hv : v.has id = true) : c.has id = true := by
  unfold Cx.has
  simp only [Bool.or_eq_true, List.any_eq_true]
  exact .inl (.inr ⟨_, alk_mem hx, hv⟩)
theorem has_g {id : Nat} {B : TB sem} (hx : alk c.g id = some B) : c.has id = true := by unfold Cx.has; simp [hx]
theorem has_gB {j : Nat} {B : TB sem} (hx : alk c.g j = some B) {id : Nat} (hv : B.has id = true) : c.has id = true := by
  unfold Cx.has
  simp only [Bool.or_eq_true, List.any_eq_true]
  exact .inr ⟨_, alk_mem hx, hv⟩
theorem Rel.g_thp (R : Rel P κ ln z c s env h n) {id : Nat} {B : TB sem} (hg : alk c.g id = some B) : thp c s id = some B := by
  unfold thp
  cases hh : alk s.hp id with
  | some b => have := R.g _ _ hh; rw [hg] at this; cases this
  | none => exact hg
theorem Rel.e0_tlk (R : Rel P κ ln z c s env h n) {x : Nat} {v : TV sem} (hx : alk c.e0 x = some v) : tlk c s x = v := by
  unfold tlk
  cases hh : alk s.env x with
  | some b => have := R.e0 _ _ hh; rw [hx] at this; cases this
  | none => simp [hx]

theorem pack_rel (R : Rel P κ ln z c s env h n) {p : Pat} {x : p.ty.den} (hc : ∀ id, c.has id = true → id < N) (hp : pack c N p s = some x) (c2 : Cx sem) (s2 : TS sem) (hN : N ≤ s2.n)
    (hE : ∀ y, tlk c2 s2 y = (match alk (unpack (A := sem) p N x).env y with | some v => v | none => (alk c.e0 y).getD .un) ∨ tlk c2 s2 y = .un)
    (hH : ∀ id B, thp c2 s2 id = some B → alk (unpack (A := sem) p N x).hp id = some (some B) ∨ alk c.g id = some B)
    (he0 : ∀ x v, alk s2.env x = some v → alk c2.e0 x = none) (hg : ∀ id b, alk s2.hp id = some b → alk c2.g id = none) (hdy : s2.dy = true) : ∃ κ2 ln2 z2, Rel P κ2 ln2 z2 c2 s2 env h n ∧ ∀ id, c.has id = true → κ2 id = κ id ∧ ln2 id = ln id := by
  unfold pack at hp
  obtain ⟨m1, hm1, hp⟩ := Option.bind_eq_some_iff.1 hp
  obtain ⟨m, hm, hp⟩ := Option.bind_eq_some_iff.1 hp
  obtain ⟨hchk, hp⟩ := Option.ite_none_right_eq_some.1 hp
  simp only [Bool.and_eq_true, List.all_eq_true, Bool.or_eq_true, Bool.not_eq_true', decide_eq_true_eq] at hchk
  obtain ⟨⟨hsn, hlt⟩, hid⟩ := hchk
  obtain ⟨new1, a1, a2, a3, a4⟩ := mtE_sound R _ hm1
  obtain ⟨new2, b1, b2, b3, b4⟩ := mtH_sound R _ hm
  simp only [List.nil_append] at a1
  have hcs : m.cs = new1 ++ new2 := by rw [b1, a1]
  have hinj : Inj m := b3 (a3 (fun x y a hx => by simp [alk] at hx))
  let κ2 : Nat → Option Nat := fun id => match alk m.ids id with | some q => κ q | none => κ id
  let ln2 : Nat → Nat := fun id => match alk m.ids id with | some q => ln q | none => ln id
  have hk2 : ∀ {p q : Nat}, alk m.ids p = some q → κ2 p = κ q ∧ ln2 p = ln q := fun {p q} hq => by simp only [κ2, ln2, hq]; exact ⟨trivial, trivial⟩
  have hkc : ∀ {id : Nat}, c.has id = true → κ2 id = κ id ∧ ln2 id = ln id := fun {id} hi => by
    cases hq : alk m.ids id with
    | none => simp only [κ2, ln2, hq]; exact ⟨trivial, trivial⟩
    | some q =>
      rcases hid _ (alk_mem hq) with e | ⟨_, e⟩
      · have e : id = q := e
        subst e; exact hk2 hq
      · have e : c.has id = false := e
        rw [e] at hi; cases hi
  have fin : Fin κ ln h z m κ2 ln2 (hz κ h z m.sn) s2.n := ⟨fun p q hq => ⟨(hk2 hq).1, (hk2 hq).2, Nat.lt_of_lt_of_le (hlt _ (alk_mem hq)) hN⟩, fun q B hq => hq⟩
  obtain ⟨E, e1, e2, e3⟩ := a4 κ2 ln2 _ s2.n (fin.back R.zin b2) new2
  obtain ⟨H, f1, f2, f3⟩ := b4 κ2 ln2 _ s2.n fin []
  have hun : unT sem p.tys x = new1 ++ new2 := by rw [← hcs]; exact mkT_unT _ _ _ hp
  rw [List.append_nil] at f1
  have henv : (unpack (A := sem) p N x).env = E := by simp only [unpack, hun, e1]
  have hhp : (unpack (A := sem) p N x).hp = H := by simp only [unpack, hun, e1, f1]
  rw [henv] at hE
  rw [hhp] at hH
  have own : ∀ id ∈ m.sn, ∃ B, alk s.hp id = some (some B) := fun id hi => by
    have := (hsn id hi).1.1
    cases ho : ownB s id with
    | none => rw [ho] at this; cases this
    | some B => exact ⟨B, own_def ho⟩
  have hzo : ∀ {id q : Nat} {B : TB sem}, thp c s id = some B → κ id = some q → (id ∉ m.sn) → hz κ h z m.sn q = none := fun {id q B} hB hk hni => by
    unfold hz
    rw [if_neg]
    · exact R.zout id B q hB hk
    · intro hany
      obtain ⟨j, hj, hkj⟩ := List.any_eq_true.1 hany
      obtain ⟨Bj, hBj⟩ := own j hj
      have := R.inj id j _ _ q hB (own_thp hBj) hk (by simpa using hkj)
      subst this; exact hni hj
  have pat : ∀ {id : Nat} {B : TB sem}, alk H id = some (some B) → ∃ q B0, alk m.ids id = some q ∧ alk s.hp q = some (some B0) ∧ BR P κ2 ln2 (hz κ h z m.sn) h s2.n id B := fun {id B} hB => by
    obtain ⟨B', q, B0, g1, g2, g3, g4⟩ := f2 id _ hB
    cases g1
    exact ⟨q, B0, g2, g3, g4⟩
  have pni : ∀ {id q : Nat}, alk m.ids id = some q → q ∉ m.sn := fun {id q} hq hi => by
    have := (hsn q hi).2 _ (alk_mem hq)
    simp at this
  have gni : ∀ {id : Nat} {B : TB sem}, alk c.g id = some B → id ∉ m.sn := fun {id B} hB hi => by
    have := (hsn id hi).1.2
    rw [has_g hB] at this; cases this
  refine ⟨κ2, ln2, hz κ h z m.sn, ⟨fun y => ?_, fun id B hB => ?_, fun id B hB => ?_, fun i j B B' q hi hj ki kj => ?_, hz_full R.zin, fun id B q hB hk => ?_, fun id B q hB hk => ?_, R.hn, he0, hg, (fun hd => by rw [hdy] at hd; cases hd), fun q k T es hq e he => ?_⟩, fun id hi => hkc hi⟩
  · rcases hE y with hE | hE
    · rw [hE]
      split
      · rename_i v hv; exact e2 y v hv
      · cases hy : alk c.e0 y with
        | none => exact .un _
        | some v =>
          simp only [Option.getD_some]
          have := R.env y
          rw [R.e0_tlk hy] at this
          exact this.congr (fun id hi => ⟨(hkc (has_e0 hy hi)).1, (hkc (has_e0 hy hi)).2, Nat.lt_of_lt_of_le (hc id (has_e0 hy hi)) hN⟩) (hz_z R.zin)
    · rw [hE]; exact .un _
  · rcases hH id B hB with hB | hB
    · obtain ⟨q, B0, g2, g3, g4⟩ := pat hB; exact g4
    · exact (R.blk id B (R.g_thp hB)).congr (hkc (has_g hB)) (fun i hi => ⟨(hkc (has_gB hB hi)).1, (hkc (has_gB hB hi)).2, Nat.lt_of_lt_of_le (hc i (has_gB hB hi)) hN⟩) (hz_z R.zin)
  · rcases hH id B hB with hB | hB
    · obtain ⟨q, B0, g2, g3, g4⟩ := pat hB; exact Nat.lt_of_lt_of_le (hlt _ (alk_mem g2)) hN
    · exact Nat.lt_of_lt_of_le (hc id (has_g hB)) hN
  · rcases hH i B hi with hi | hi
    · obtain ⟨qi, Bi, g2, g3, g4⟩ := pat hi
      rw [(hk2 g2).1] at ki
      rcases hH j B' hj with hj | hj
      · obtain ⟨qj, Bj, k2, k3, k4⟩ := pat hj
        rw [(hk2 k2).1] at kj
        have := R.inj qi qj _ _ q (own_thp g3) (own_thp k3) ki kj
        subst this
        exact hinj i j qi g2 k2
      · rw [(hkc (has_g hj)).1] at kj
        have := R.inj qi j _ _ q (own_thp g3) (R.g_thp hj) ki kj
        subst this
        have := R.g _ _ g3
        rw [hj] at this; cases this
    · rw [(hkc (has_g hi)).1] at ki
      rcases hH j B' hj with hj | hj
      · obtain ⟨qj, Bj, k2, k3, k4⟩ := pat hj
        rw [(hk2 k2).1] at kj
        have := R.inj i qj _ _ q (R.g_thp hi) (own_thp k3) ki kj
        subst this
        have := R.g _ _ k3
        rw [hi] at this; cases this
      · rw [(hkc (has_g hj)).1] at kj
        exact R.inj i j _ _ q (R.g_thp hi) (R.g_thp hj) ki kj
  · rcases hH id B hB with hB | hB
    · obtain ⟨q', B0, g2, g3, g4⟩ := pat hB
      rw [(hk2 g2).1] at hk
      exact hzo (own_thp g3) hk (pni g2)
    · rw [(hkc (has_g hB)).1] at hk
      exact hzo (R.g_thp hB) hk (gni hB)
  · rcases hH id B hB with hB | hB
    · obtain ⟨q', B0, g2, g3, g4⟩ := pat hB
      rw [(hk2 g2).1] at hk
      exact R.bnd q' B0 q (own_thp g3) hk
    · rw [(hkc (has_g hB)).1] at hk
      exact R.bnd id B q (R.g_thp hB) hk
  · unfold hz at hq
    split at hq
    · rename_i hany
      obtain ⟨id, hid, hke⟩ := List.any_eq_true.1 hany
      obtain ⟨B, hB⟩ := own id hid
      exact (R.blk id B (own_thp hB)).elen (by simpa using hke) hq e he
    · exact R.zk q k T es hq e he
end
end Go.Abs

/- The typed machine is sound, sixteenth part: what was frozen is told by its content. -/
set_option linter.unusedSimpArgs false
set_option linter.unusedVariables false
set_option linter.constructorNameAsVariable false
namespace Go.Abs
open Go Go.RowKit

section
variable {P : Program} {κ κ' : Nat → Option Nat} {ln ln' : Nat → Nat} {z z' : AH} {c : Cx sem} {s : TS sem} {env : Env} {h h' : AH} {n n' N N' : Nat}
variable {w : World} {O : Nat → Prop} {μ : Mu} {p : Nat → Bool}

abbrev ahN : AH := fun _ => none
theorem muP_av {b : Nat} (h : Av O (muP p μ) b) : Av O μ b := by
  rcases h with h | ⟨id, k, h⟩
  · exact .inl h
  · exact .inr ⟨id, k, (muP_some h).2⟩
theorem VR.freeP {a : AV} {v : Value} (hv : VR w O μ n a v) (hf : Free a) : VR w O (muP p μ) n a v :=
  (hv.free hf (O' := Av O (muP p μ)) fun b hb => muP_av hb).lift fun b hb => hb
/-- blocks of a part of the heap -/
theorem HR.part (hr : HR w O μ h n) (hz : ∀ q B, z q = some B → h q = some B ∧ p q = false) : HR w (Av O (muP p μ)) (muP (fun i => !p i) μ) z n := by
  refine ⟨fun b hb => ?_, fun id b k e => hr.scope id b k (muP_some e).2, fun id id' b k k' e e' => hr.inj id id' b k k' (muP_some e).2 (muP_some e').2, fun id b k e hO => ?_, fun id B hB => ?_⟩
  · rcases hb with hb | ⟨id, k, hb⟩
    · exact hr.olt b hb
    · exact (hr.scope id b k (muP_some hb).2).2
  · obtain ⟨e1, e2⟩ := muP_some e
    rcases hO with hO | ⟨id', k', hO⟩
    · exact hr.notO id b k e2 hO
    · obtain ⟨e3, e4⟩ := muP_some hO
      rw [hr.inj _ _ _ _ _ e2 e4] at e1
      simp [e3] at e1
  · obtain ⟨h1, h2⟩ := hz id B hB
    exact (hr.blk id B h1).mapV (by simp only [muP]; rw [if_pos (by simp [h2])]) fun hv => hv.splitP p
theorem VR.snapP (hr : HR w O μ h n) (hz : ∀ q B, z q = some B → h q = some B ∧ p q = false) {a a' : AV} {v : Value} (hs : Snap z a a') (hv : VR w O μ n a v) : VR w O (muP p μ) n a' v :=
  ((hs.vr (hr.part hz)) (hv.splitP p)).lift fun b hb => hb
theorem VR.ownP {a : AV} {v : Value} (hv : VR w O μ n a v) (ha : (∃ q i j, a = .own q i j) ∨ (∃ q i j, a = .ms q i j) ∨ ∃ q, a = .mp q) : VR w O (muP p μ) n a v := by
  rcases ha with ⟨q, i, j, rfl⟩ | ⟨q, i, j, rfl⟩ | ⟨q, rfl⟩
  · cases hv with | own _ _ _ _ h h1 hv => exact .own _ _ _ _ h h1 fun b k e => hv b k (muP_some e).2
  · cases hv with | ms _ _ _ _ h h1 hv => exact .ms _ _ _ _ h h1 fun b k e => hv b k (muP_some e).2
  · cases hv with | mp _ _ h h1 hv => exact .mp _ _ h h1 fun b k e => hv b k (muP_some e).2

mutual
/-- the same told without frozen blocks -/
theorem conv_tv (hr : HR w O μ h n) (hz : ∀ q B, z q = some B → h q = some B ∧ p q = false) : ∀ {tv : TV sem} {a : AV}, TVR P κ ln z N tv a → ∀ v, VR w O μ n a v → ∃ a', TVR P κ ln ahN N tv a' ∧ (a.one = true → a'.one = true) ∧ VR w O (muP p μ) n a' v
  | _, _, .un a, v, hv => by
    cases h1 : a.one with
    | true => exact ⟨.sc v, .un _, fun _ => hv.one h1, .sc v (hv.one h1)⟩
    | false => exact ⟨.un, .un _, fun h => (by cases h), .un v⟩
  | _, _, .ud, v, hv => ⟨.ud, .ud, fun h => h, hv.freeP .ud⟩
  | _, _, .c t x a hd hs, v, hv => ⟨t.av x, .free hd, (fun h1 => hs.one h1), VR.snapP hr hz hs hv⟩
  | _, _, .kb b, v, hv => ⟨_, .kb b, fun h => h, hv.freeP (.sc _)⟩
  | _, _, .sc u h1, v, hv => ⟨_, .sc u h1, fun h => h, hv.freeP (.sc _)⟩
  | _, _, .ptr id j q hN hq, v, hv => ⟨_, .ptr id j q hN hq, fun h => h, hv.ownP (.inl ⟨_, _, _, rfl⟩)⟩
  | _, _, .adr id i j q hN hq h0 h1, v, hv => ⟨_, .adr id i j q hN hq h0 h1, fun h => h, hv.ownP (.inl ⟨_, _, _, rfl⟩)⟩
  | _, _, .aa id i q hN hq h0 h1, v, hv => ⟨_, .aa id i q hN hq h0 h1, fun h => h, hv.ownP (.inl ⟨_, _, _, rfl⟩)⟩
  | _, _, .fq t x o a hd hs, v, hv => ⟨.fp ((t.enc x).drop o), .fq t x o _ hd (.free _ ((Free_fp _).2 fun c hc => enc_free t x hd c (List.mem_of_mem_drop hc))), fun _ => rfl, VR.snapP hr hz hs hv⟩
  | _, _, .mw0 id hN hq, v, hv => ⟨_, .mw0 id hN hq, fun h => h, hv.freeP (.sc _)⟩
  | _, _, .mw id q hN hq, v, hv => ⟨_, .mw id q hN hq, fun h => h, hv.ownP (.inr (.inl ⟨_, _, _, rfl⟩))⟩
  | _, _, .ms0 id off len hN hq ho hl, v, hv => ⟨_, .ms0 id off len hN hq ho hl, fun h => h, hv.freeP (.sc _)⟩
  | _, _, .ms id off len q hN hq h0 h1 h2, v, hv => ⟨_, .ms id off len q hN hq h0 h1 h2, fun h => h, hv.ownP (.inr (.inl ⟨_, _, _, rfl⟩))⟩
  | _, _, .mp id q hN hq, v, hv => ⟨_, .mp id q hN hq, fun h => h, hv.ownP (.inr (.inr ⟨_, rfl⟩))⟩
  | _, _, .fn g vs as hs, v, hv => by
    cases hv with
    | fn _ _ vs' us hsz hc hr' =>
      obtain ⟨as', h1, h2, h3, h4⟩ := conv_tvs hr hz hs us hr'
      refine ⟨.fn g as', .fn g vs as' h1, fun h => h, .fn g as' vs' us (by omega) (fun j c hj => ?_) h4⟩
      obtain ⟨c0, hc0⟩ := other_of h2 hj
      exact hc j c0 hc0
  | _, _, .cv m x y F a hcv, v, hv => ⟨a, .cv m x y F a hcv, fun h => h, hv.freeP (by obtain ⟨g, as, rfl, hf, _⟩ := hcv; exact (Free_fn _ _).2 hf)⟩
  | _, _, .tp vs as hs, v, hv => by
    cases hv with
    | tp _ vs' us hsz hc hr' =>
      obtain ⟨as', h1, h2, h3, h4⟩ := conv_tvs hr hz hs us hr'
      refine ⟨.tp as', .tp vs as' h1, fun h => h, .tp as' vs' us (by omega) (fun j c hj => ?_) h4⟩
      obtain ⟨c0, hc0⟩ := other_of h2 hj
      exact hc j c0 hc0
  | _, _, .ag vs as hs hone, v, hv => by
    cases hv with
    | ag _ vs' us hsz hc h1' hr' =>
      obtain ⟨as', h1, h2, h3, h4⟩ := conv_tvs hr hz hs us hr'
      refine ⟨.ag as', .ag vs as' h1 (h3 hone), fun h => h, .ag as' vs' us (by omega) (fun j c hj => ?_) (fun j c hj => h3 hone c (List.mem_of_getElem? hj)) h4⟩
      obtain ⟨c0, hc0⟩ := other_of h2 hj
      exact hc j c0 hc0
theorem conv_tvs (hr : HR w O μ h n) (hz : ∀ q B, z q = some B → h q = some B ∧ p q = false) : ∀ {vs : List (TV sem)} {as : List AV}, TVRs P κ ln z N vs as → ∀ us : Nat → Value, (∀ (j : Nat) (c : AV), as[j]? = some c → VR w O μ n c (us j)) →
    ∃ as', TVRs P κ ln ahN N vs as' ∧ as'.length = as.length ∧ ((∀ a ∈ as, a.one = true) → ∀ a ∈ as', a.one = true) ∧ ∀ (j : Nat) (c : AV), as'[j]? = some c → VR w O (muP p μ) n c (us j)
  | _, _, .nil, us, _ => ⟨[], .nil, rfl, fun _ a h => (by cases h), fun j a h => by simp at h⟩
  | _, _, .cons v a vs as hv hs, us, hus => by
    obtain ⟨a', h1, h2, h3⟩ := conv_tv hr hz hv (us 0) (hus 0 a rfl)
    obtain ⟨as', g1, g2, g3, g4⟩ := conv_tvs hr hz hs (fun j => us (j + 1)) (fun j c hj => hus (j + 1) c (by simpa using hj))
    refine ⟨a' :: as', .cons _ _ _ _ h1 g1, by simp [g2], fun hone b hb => ?_, fun j b hj => ?_⟩
    · rcases List.mem_cons.1 hb with rfl | hb
      · exact h2 (hone a (by simp))
      · exact g3 (fun x hx => hone x (by simp [hx])) b hb
    · cases j with
      | zero => simp at hj; subst hj; exact h3
      | succ j => exact g4 j b (by simpa using hj)
end

/-- the same for rows of cells -/
theorem conv_cells (hr : HR w O μ h n) (hz : ∀ q B, z q = some B → h q = some B ∧ p q = false) {cs cs' : List AV} (hs : SnapL z cs cs') : ∀ (j : Nat) (a a' : AV), cs[j]? = some a → cs'[j]? = some a' → ∀ v, VR w O μ n a v → VR w O (muP p μ) n a' v :=
  fun j a a' hj hj' v hv => VR.snapP hr hz (hs.at j a a' hj hj') hv

/-- a block, told without frozen ones -/
theorem conv_blk (hr : HR w O μ h n) (hz : ∀ q B, z q = some B → h q = some B ∧ p q = false) {id q : Nat} {B : TB sem} (hb : BR P κ ln z h N id B) (hk : κ id = some q) (hp : p q = true) :
    ∃ B2, (∀ h2 : AH, h2 q = some B2 → BR P κ ln ahN h2 N id B) ∧ BlkAt w O (muP p μ) n q B2 := by
  have hmu : muP p μ q = μ q := by simp [muP, hp]
  cases hb with
  | bx T vs q' as hq hh hv h1 =>
    rw [hk] at hq; cases hq
    obtain ⟨b, cc, e1, e2, e3⟩ := hr.blk q _ hh
    have hcc : ∀ (j : Nat) (c : AV), as[j]? = some c → cc[0 * vs.length + j]? = some ((cc[0 * vs.length + j]?).getD undef) ∧ VR w O μ n c ((cc[0 * vs.length + j]?).getD undef) := fun j c hj => by
      obtain ⟨l1, u, l2, l3⟩ := (e3 0 as rfl).2 j c hj
      rw [l2]; exact ⟨rfl, l3⟩
    obtain ⟨as', g1, g2, g3, g4⟩ := conv_tvs hr hz hv _ (fun j c hj => (hcc j c hj).2)
    refine ⟨.cells vs.length T [as'], fun h2 hh2 => .bx T vs q as' hk hh2 g1 (g3 h1), ?_⟩
    refine ⟨b, cc, hmu.trans e1, e2, fun i e hi => ?_⟩
    cases i with
    | zero =>
      simp at hi; subst hi
      obtain ⟨k1, k2⟩ := e3 0 as rfl
      refine ⟨by rw [g2]; exact k1, fun j a hj => ?_⟩
      obtain ⟨a0, ha0⟩ := other_of g2 hj
      exact ⟨g3 h1 a (List.mem_of_getElem? hj), _, (hcc j a0 ha0).1, g4 j a hj⟩
    | succ i => simp at hi
  | el T t x q' cs hd hq hh hv h1 hl =>
    rw [hk] at hq; cases hq
    refine ⟨.cells t.wd T [t.enc x], fun h2 hh2 => .el T t x q (t.enc x) hd hk hh2 (SnapL.free (enc_free t x hd)) (enc_one t x hd) hl, ?_⟩
    obtain ⟨b, cc, e1, e2, e3⟩ := hr.blk q _ hh
    refine ⟨b, cc, hmu.trans e1, e2, fun i e hi => ?_⟩
    cases i with
    | zero =>
      simp at hi; subst hi
      obtain ⟨k1, k2⟩ := e3 0 cs rfl
      refine ⟨enc_len t x hd, fun j a hj => ?_⟩
      obtain ⟨a0, ha0⟩ := other_of hv.len hj
      obtain ⟨l1, u, l2, l3⟩ := k2 j a0 ha0
      exact ⟨enc_one t x hd a (List.mem_of_getElem? hj), u, l2, conv_cells hr hz hv j a0 a ha0 hj u l3⟩
    | succ i => simp at hi
  | sl0 T t l hd hq hl hn => rw [hk] at hq; cases hq
  | sl T t l q' es hd hq hh hv h1 hn =>
    rw [hk] at hq; cases hq
    have hf : ∀ e ∈ l.map t.enc, FreeL e := fun e he => by obtain ⟨y, _, rfl⟩ := List.mem_map.1 he; exact enc_free t y hd
    refine ⟨.cells t.wd T (l.map t.enc), fun h2 hh2 => .sl T t l q _ hd hk hh2 (SnapE.free hf) (fun e he => by obtain ⟨y, _, rfl⟩ := List.mem_map.1 he; exact enc_one t y hd) hn, ?_⟩
    obtain ⟨b, cc, e1, e2, e3⟩ := hr.blk q _ hh
    refine ⟨b, cc, hmu.trans e1, e2, fun i e hi => ?_⟩
    obtain ⟨e0, he0⟩ := other_of hv.1 hi
    have hse := hv.2 i e0 e he0 hi
    obtain ⟨k1, k2⟩ := e3 i e0 he0
    refine ⟨by rw [hse.len]; exact k1, fun j a hj => ?_⟩
    obtain ⟨a0, ha0⟩ := other_of hse.len hj
    obtain ⟨l1, u, l2, l3⟩ := k2 j a0 ha0
    exact ⟨(hse.at j a0 a ha0 hj).one l1, u, l2, conv_cells hr hz hse j a0 a ha0 hj u l3⟩
  | mp k v l q' hkk hf ha hq hh =>
    rw [hk] at hq; cases hq
    refine ⟨_, fun h2 hh2 => .mp k v l q hkk hf ha hk hh2, ?_⟩
    obtain ⟨b, es, e1, e2, e3, e4⟩ := hr.blk q _ hh
    refine ⟨b, es, hmu.trans e1, e2, e3, fun i x hi => ?_⟩
    obtain ⟨e, g1, g2, g3, g4, g5⟩ := e4 i x hi
    refine ⟨e, g1, g2, g3, g4, g5.freeP ?_⟩
    obtain ⟨y, _, rfl⟩ := List.mem_map.1 (List.mem_of_getElem? hi)
    exact av_free v y.2 (flat_dat hf)
end
end Go.Abs

/- The typed machine is sound, seventeenth part: freezing in a walk; contexts. -/
set_option linter.unusedSimpArgs false
set_option linter.unusedVariables false
set_option linter.constructorNameAsVariable false
namespace Go.Abs
open Go Go.RowKit

section
variable {P : Program} {κ κ' : Nat → Option Nat} {ln ln' : Nat → Nat} {z z' : AH} {c : Cx sem} {s : TS sem} {env : Env} {h h' : AH} {n n' N N' : Nat}

theorem lk_map (f : Nat → AV) : ∀ (l : List Nat) (x : Nat), lk (l.map fun k => (k, f k)) x = if l.contains x then f x else .un
  | [], x => rfl
  | k :: l, x => by
    simp only [List.map_cons, lk, List.contains_cons]
    by_cases hx : x = k
    · subst hx; simp
    · rw [if_neg hx, lk_map f l x]
      have : (x == k) = false := by simpa using hx
      rw [this, Bool.false_or]
theorem alk_keys {α : Type} {l : List (Nat × α)} {x : Nat} {v : α} (h : alk l x = some v) : x ∈ l.map (·.1) := List.mem_map.2 ⟨_, alk_mem h, rfl⟩

theorem Rel.wk (R : Rel P κ ln z c s env h n) {D : List Deferred} {O : Nat → Prop} {μ : Mu} {a : Act} {w : World} (hs : SR N D O μ ⟨env, h, n⟩ a w) :
    ∃ μ' env2 h2, Rel P κ ln ahN c { s with dy := false } env2 h2 n ∧ SR N D O μ' ⟨env2, h2, n⟩ a w ∧ Evo w μ n w μ' n := by
  let ids := s.hp.map (·.1) ++ c.g.map (·.1)
  let p : Nat → Bool := fun q => ids.any fun id => (thp c s id).isSome && (κ id == some q)
  have p1 : ∀ {id q : Nat} {B : TB sem}, thp c s id = some B → κ id = some q → p q = true := fun {id q B} hB hk => by
    refine List.any_eq_true.2 ⟨id, ?_, by simp [hB, hk]⟩
    unfold thp at hB
    cases hh : alk s.hp id with
    | some b => exact List.mem_append.2 (.inl (alk_keys hh))
    | none => rw [hh] at hB; exact List.mem_append.2 (.inr (alk_keys hB))
  have p2 : ∀ {q : Nat}, p q = true → ∃ id B, thp c s id = some B ∧ κ id = some q := fun {q} hq => by
    obtain ⟨id, _, h1⟩ := List.any_eq_true.1 hq
    simp only [Bool.and_eq_true] at h1
    obtain ⟨B, hB⟩ := Option.isSome_iff_exists.1 h1.1
    exact ⟨id, B, hB, by simpa using h1.2⟩
  have hz : ∀ q B, z q = some B → h q = some B ∧ p q = false := fun q B hq => by
    refine ⟨R.zin q B hq, ?_⟩
    cases hp : p q with
    | false => rfl
    | true =>
      obtain ⟨id, B', hB, hk⟩ := p2 hp
      rw [R.zout id B' q hB hk] at hq; cases hq
  have hf : ∀ x, ∃ a', TVR P κ ln ahN s.n (tlk c s x) a' ∧ VR w O (muP p μ) n a' (a.tmps.getD x undef) := fun x => by
    obtain ⟨a', h1, _, h3⟩ := conv_tv hs.hr hz (R.env x) _ (hs.env x)
    exact ⟨a', h1, h3⟩
  let f : Nat → AV := fun x => Classical.choose (hf x)
  have f1 : ∀ x, TVR P κ ln ahN s.n (tlk c s x) (f x) := fun x => (Classical.choose_spec (hf x)).1
  have f2 : ∀ x, VR w O (muP p μ) n (f x) (a.tmps.getD x undef) := fun x => (Classical.choose_spec (hf x)).2
  let ks := s.env.map (·.1) ++ c.e0.map (·.1)
  have hks : ∀ x, ks.contains x = false → tlk c s x = .un := fun x hx => by
    have hx : x ∉ ks := by simpa using hx
    unfold tlk
    cases he : alk s.env x with
    | some v => exact absurd (List.mem_append.2 (.inl (alk_keys he))) hx
    | none =>
      cases he0 : alk c.e0 x with
      | some v => exact absurd (List.mem_append.2 (.inr (alk_keys he0))) hx
      | none => rfl
  have hb : ∀ q, (∃ id B, thp c s id = some B ∧ κ id = some q) → ∃ B2, (∀ id B, thp c s id = some B → κ id = some q → ∀ h2 : AH, h2 q = some B2 → BR P κ ln ahN h2 s.n id B) ∧ BlkAt w O (muP p μ) n q B2 := fun q ⟨id, B, hB, hk⟩ => by
    obtain ⟨B2, g1, g2⟩ := conv_blk hs.hr hz (R.blk id B hB) hk (p1 hB hk)
    refine ⟨B2, fun id' B' hB' hk' h2 hh => ?_, g2⟩
    have := R.inj id' id B' B q hB' hB hk' hk
    subst this
    rw [hB] at hB'; cases hB'
    exact g1 h2 hh
  open Classical in
  let h2 : AH := fun q => if hq : ∃ id B, thp c s id = some B ∧ κ id = some q then some (Classical.choose (hb q hq)) else none
  have h2s : ∀ q, (hq : ∃ id B, thp c s id = some B ∧ κ id = some q) → h2 q = some (Classical.choose (hb q hq)) := fun q hq => dif_pos hq
  have h2n : ∀ q B, h2 q = some B → ∃ hq : (∃ id B, thp c s id = some B ∧ κ id = some q), B = Classical.choose (hb q hq) := fun q B hB => by
    by_cases hq : ∃ id B, thp c s id = some B ∧ κ id = some q
    · rw [h2s q hq] at hB; exact ⟨hq, (Option.some.inj hB).symm⟩
    · have : h2 q = none := dif_neg hq
      rw [this] at hB; cases hB
  refine ⟨muP p μ, ks.map fun k => (k, f k), h2, ⟨fun x => ?_, fun id B hB => ?_, R.lt, R.inj, fun q B hq => (by cases hq), fun _ _ _ _ _ => rfl, R.bnd, fun q hq => ?_, R.e0, R.g, fun _ => rfl, fun q k T es hq => (by cases hq)⟩, ⟨⟨hs.hr.olt, fun id b k e => hs.hr.scope id b k (muP_some e).2, fun id id' b k k' e e' => hs.hr.inj id id' b k k' (muP_some e).2 (muP_some e').2, fun id b k e => hs.hr.notO id b k (muP_some e).2, fun q B hB => ?_⟩, hs.size, hs.defers, fun x => ?_⟩, ?_⟩
  · rw [lk_map]
    split
    · exact f1 x
    · rename_i hx
      rw [show tlk c { s with dy := false } x = .un from hks x (by simpa using hx)]
      exact .un _
  · cases hk : κ id with
    | none =>
      have hbr := R.blk id B hB
      cases hbr with
      | bx _ _ q as hq => rw [hk] at hq; cases hq
      | el _ _ _ q cs hd hq => rw [hk] at hq; cases hq
      | sl0 T t l hd hq hl hn => exact .sl0 T t l hd hq hl hn
      | sl _ _ _ q cs hd hq => rw [hk] at hq; cases hq
      | mp _ _ _ q _ _ _ hq => rw [hk] at hq; cases hq
    | some q =>
      have hq : ∃ id B, thp c s id = some B ∧ κ id = some q := ⟨id, B, hB, hk⟩
      exact (Classical.choose_spec (hb q hq)).1 id B hB hk h2 (h2s q hq)
  · cases hh : h2 q with
    | none => rfl
    | some B =>
      obtain ⟨⟨id, B', hB, hk⟩, _⟩ := h2n q B hh
      have := R.bnd id B' q hB hk
      omega
  · obtain ⟨hq, rfl⟩ := h2n q B hB
    exact (Classical.choose_spec (hb q hq)).2
  · show VR w O (muP p μ) n (lk _ x) _
    rw [lk_map]
    split
    · exact f2 x
    · exact .un _
  · exact ⟨rfl, rfl, rfl, Nat.le_refl _, Nat.le_refl _, fun _ _ _ => rfl, fun b c T f hb => ⟨c, hb, rfl⟩, fun i _ => by unfold muP; split <;> simp, fun i b k e hn => absurd (hs.hr.scope i b k (muP_some e).2).1 (Nat.not_lt.2 hn)⟩

theorem SatL.wk {D : List Deferred} {O : Nat → Prop} {cd : Code} {cs : List Code} {Q : Exit → St → Prop} (R : Rel P κ ln z c s env h n) (hk : ∀ env2 h2, Rel P κ ln ahN c { s with dy := false } env2 h2 n → SatL P N D O (cd :: cs) Q ⟨env2, h2, n⟩) : SatL P N D O (cd :: cs) Q ⟨env, h, n⟩ := by
  intro μ a w hs
  obtain ⟨μ', env2, h2, R2, hs2, he⟩ := R.wk hs
  refine wp_mono (hk env2 h2 R2 μ' a w hs2) ?_
  rintro e a' w' ⟨st', μ2, q, r, ev⟩
  exact ⟨st', μ2, q, r, he.trans ev⟩

/-! contexts -/
structure CxWf (c : Cx sem) : Prop where
  e0 : ∀ x v, (x, v) ∈ c.e0 → alk c.e0 x = some v
  g : ∀ x B, (x, B) ∈ c.g → alk c.g x = some B
theorem Rel.has_lt (R : Rel P κ ln z c s env h n) (W : CxWf c) {id : Nat} (hi : c.has id = true) : id < s.n := by
  unfold Cx.has at hi
  simp only [Bool.or_eq_true, List.any_eq_true] at hi
  rcases hi with (hi | ⟨⟨x, v⟩, hx, hv⟩) | ⟨⟨x, B⟩, hx, hv⟩
  · obtain ⟨B, hB⟩ := Option.isSome_iff_exists.1 hi
    exact R.lt id B (R.g_thp hB)
  · have h1 := W.e0 x v hx
    have := R.env x
    rw [R.e0_tlk h1] at this
    exact this.has_lt id hv
  · have h1 := W.g x B hx
    exact (R.blk x B (R.g_thp h1)).has_lt id hv

theorem alk_mapk {α : Type} (f : Nat → α) : ∀ (l : List Nat) (x : Nat), alk (l.map fun k => (k, f k)) x = if l.contains x then some (f x) else none
  | [], x => rfl
  | k :: l, x => by
    simp only [List.map_cons, alk, List.contains_cons]
    by_cases hx : x = k
    · subst hx; simp
    · rw [if_neg hx, alk_mapk f l x]
      have : (x == k) = false := by simpa using hx
      rw [this, Bool.false_or]
theorem alk_fmap {α : Type} (f : Nat → Option α) : ∀ (l : List Nat) (x : Nat), alk (l.filterMap fun k => (f k).map fun b => (k, b)) x = if l.contains x then f x else none
  | [], x => rfl
  | k :: l, x => by
    have ih := alk_fmap f l x
    rw [List.filterMap_cons, List.contains_cons]
    cases hk : f k with
    | none =>
      simp only [Option.map_none]
      rw [ih]
      by_cases hx : x = k
      · subst hx; simp [hk]
      · have : (x == k) = false := by simpa using hx
        rw [this, Bool.false_or]
    | some b =>
      simp only [Option.map_some, alk]
      by_cases hx : x = k
      · subst hx; simp [hk]
      · have : (x == k) = false := by simpa using hx
        rw [if_neg hx, ih, this, Bool.false_or]
theorem alk_filter {α : Type} (f : Nat → Bool) : ∀ (l : List (Nat × α)) (x : Nat), alk (l.filter fun y => f y.1) x = if f x then alk l x else none
  | [], x => by simp [alk]
  | (k, v) :: l, x => by
    have ih := alk_filter f l x
    rw [List.filter_cons]
    by_cases hk : f k = true
    · rw [if_pos hk]
      simp only [alk]
      by_cases hx : x = k
      · subst hx; simp [hk]
      · rw [if_neg hx, if_neg hx, ih]
    · rw [if_neg hk, ih]
      simp only [alk]
      by_cases hx : x = k
      · subst hx; simp [hk]
      · rw [if_neg hx]
end
end Go.Abs

/- The typed machine is sound, last part: code, and functions. -/
set_option linter.unusedSimpArgs false
set_option linter.unusedVariables false
set_option linter.constructorNameAsVariable false
namespace Go.Abs
open Go Go.RowKit

section
variable {P : Program} {κ κ' : Nat → Option Nat} {ln ln' : Nat → Nat} {z z' : AH} {c : Cx sem} {s : TS sem} {env : Env} {h h' : AH} {n n' N N' : Nat}

theorem okLa_spec {l : La} (hk : okLa l c s = true) : (∀ x ∈ l.keep, alk c.e0 x = none) ∧ (∀ id ∈ l.gids, ∃ B, alk s.hp id = some (some B)) ∧
    (∀ x ∈ l.head.env, alk c.e0 x.1 = none ∧ x.1 ∉ l.keep) ∧ (∀ x ∈ l.head.hp, alk c.g x.1 = none ∧ x.1 ∉ l.gids ∧ x.1 < s.n) ∧ (∀ x ∈ l.out.env, alk c.e0 x.1 = none ∧ x.1 ∉ l.keep) ∧ (∀ x ∈ l.out.hp, alk c.g x.1 = none ∧ x.1 ∉ l.gids ∧ x.1 < l.n) ∧ s.n ≤ l.n := by
  unfold okLa okP at hk
  simp only [Bool.and_eq_true, List.all_eq_true, Option.isNone_iff_eq_none, Bool.not_eq_true', decide_eq_true_eq] at hk
  obtain ⟨⟨⟨⟨h1, h2⟩, ⟨h3, h4⟩⟩, ⟨h5, h6⟩⟩, h7⟩ := hk
  refine ⟨h1, fun id hi => ?_, fun x hx => ⟨(h3 x hx).1, by simpa using (h3 x hx).2⟩, fun x hx => ⟨(h4 x hx).1.1, by simpa using (h4 x hx).1.2, (h4 x hx).2⟩, fun x hx => ⟨(h5 x hx).1, by simpa using (h5 x hx).2⟩, fun x hx => ⟨(h6 x hx).1.1, by simpa using (h6 x hx).1.2, (h6 x hx).2⟩, h7⟩
  have := h2 id hi
  cases ho : ownB s id with
  | none => rw [ho] at this; cases this
  | some B => exact ⟨B, own_def ho⟩
theorem ownB_of {id : Nat} {B : TB sem} (h : alk s.hp id = some (some B)) : ownB s id = some B := by unfold ownB; rw [h]

theorem inCx_e0 (l : La) (x : Nat) : alk (inCx l c s).e0 x = if l.keep.contains x then some (tlk c s x) else alk c.e0 x := by
  simp only [inCx, alk_append, alk_mapk]
  split <;> rename_i hx <;> split at hx <;> simp_all
theorem inCx_g (l : La) (hg : ∀ id ∈ l.gids, ∃ B, alk s.hp id = some (some B)) (x : Nat) : alk (inCx l c s).g x = if l.gids.contains x then ownB s x else alk c.g x := by
  simp only [inCx, alk_append, alk_fmap]
  split
  · rename_i v hx
    split at hx
    · rename_i hc; rw [if_pos hc, hx]
    · cases hx
  · rename_i hx
    split at hx
    · rename_i hc
      obtain ⟨B, hB⟩ := hg x (by simpa using hc)
      rw [ownB_of hB] at hx; cases hx
    · rename_i hc; rw [if_neg hc]
theorem inCx_wf (R : Rel P κ ln z c s env h n) (W : CxWf c) {l : La} (hk : okLa l c s = true) : CxWf (inCx l c s) := by
  obtain ⟨k1, k2, _⟩ := okLa_spec hk
  refine ⟨fun x v hx => ?_, fun x B hx => ?_⟩
  · rw [inCx_e0]
    simp only [inCx, List.mem_append, List.mem_map] at hx
    rcases hx with ⟨y, hy, he⟩ | hx
    · cases he; rw [if_pos (by simpa using hy)]
    · have := W.e0 x v hx
      rw [if_neg]; · exact this
      intro hc
      rw [k1 x (by simpa using hc)] at this; cases this
  · rw [inCx_g l k2]
    simp only [inCx, List.mem_append, List.mem_filterMap, Option.map_eq_some_iff] at hx
    rcases hx with ⟨y, hy, B', hB', he⟩ | hx
    · cases he; rw [if_pos (by simpa using hy)]; exact hB'
    · have := W.g x B hx
      rw [if_neg]; · exact this
      intro hc
      obtain ⟨B', hB'⟩ := k2 x (by simpa using hc)
      rw [R.g x _ hB'] at this; cases this

/-- into the context of a loop or a join -/
theorem Rel.into (R : Rel P κ ln z c s env h n) {l : La} (hk : okLa l c s = true) : Rel P κ ln z (inCx l c s) ⟨s.env.filter (fun x => !l.keep.contains x.1), s.hp.filter (fun x => !l.gids.contains x.1), s.n, s.dy⟩ env h n := by
  obtain ⟨k1, k2, _⟩ := okLa_spec hk
  have htl : ∀ x, tlk (inCx l c s) ⟨s.env.filter (fun x => !l.keep.contains x.1), s.hp.filter (fun x => !l.gids.contains x.1), s.n, s.dy⟩ x = tlk c s x := fun x => by
    unfold tlk
    have ef : alk (s.env.filter fun x => !l.keep.contains x.1) x = if (!l.keep.contains x) then alk s.env x else none := alk_filter (fun k => !l.keep.contains k) s.env x
    rw [inCx_e0, ef]
    by_cases hc : l.keep.contains x = true
    · simp only [hc, Bool.not_true, Bool.false_eq_true, if_false, if_true, Option.getD_some]; rfl
    · simp only [hc, Bool.not_false, if_true, if_false]
      rw [Bool.not_eq_true] at hc; simp only [hc, Bool.not_false, if_true, Bool.false_eq_true, if_false]
  have hth : ∀ id B, thp (inCx l c s) ⟨s.env.filter (fun x => !l.keep.contains x.1), s.hp.filter (fun x => !l.gids.contains x.1), s.n, s.dy⟩ id = some B → thp c s id = some B := fun id B hB => by
    unfold thp at hB ⊢
    have ef : alk (s.hp.filter fun x => !l.gids.contains x.1) id = if (!l.gids.contains id) then alk s.hp id else none := alk_filter (fun k => !l.gids.contains k) s.hp id
    rw [inCx_g l k2, ef] at hB
    by_cases hc : l.gids.contains id = true
    · simp only [hc, Bool.not_true, Bool.false_eq_true, if_false, if_true] at hB
      rw [own_def hB]
    · rw [Bool.not_eq_true] at hc
      simp only [hc, Bool.not_false, if_true, Bool.false_eq_true, if_false] at hB
      exact hB
  refine ⟨fun x => by rw [htl]; exact R.env x, fun id B hB => R.blk id B (hth id B hB), fun id B hB => R.lt id B (hth id B hB), fun i j B B' q hi hj => R.inj i j B B' q (hth _ _ hi) (hth _ _ hj), R.zin, fun id B q hB => R.zout id B q (hth _ _ hB), fun id B q hB => R.bnd id B q (hth _ _ hB), R.hn, fun x v hx => ?_, fun id b hb => ?_, R.dy, R.zk⟩
  · have ef : alk (s.env.filter fun x => !l.keep.contains x.1) x = if (!l.keep.contains x) then alk s.env x else none := alk_filter (fun k => !l.keep.contains k) s.env x
    rw [ef] at hx
    rw [inCx_e0]
    split at hx
    · rename_i hc
      rw [if_neg (by simpa using hc)]; exact R.e0 x v hx
    · cases hx
  · have ef : alk (s.hp.filter fun x => !l.gids.contains x.1) id = if (!l.gids.contains id) then alk s.hp id else none := alk_filter (fun k => !l.gids.contains k) s.hp id
    rw [ef] at hb
    rw [inCx_g l k2]
    split at hb
    · rename_i hc
      rw [if_neg (by simpa using hc)]; exact R.g id b hb
    · cases hb

theorem unE_keys : ∀ (l : List (Nat × PV)) (xs : List ((t : Ty) × t.den)) (y : Nat), (alk (unE (A := sem) l xs).1 y).isSome = (alk l y).isSome
  | [], xs, y => rfl
  | (k, v) :: l, xs, y => by
    simp only [unE, alk]
    split
    · rfl
    · exact unE_keys l _ y
theorem unH_keys : ∀ (l : List (Nat × PB)) (xs : List ((t : Ty) × t.den)) (y : Nat), (alk (unH (A := sem) l xs).1 y).isSome = (alk l y).isSome
  | [], xs, y => rfl
  | (k, v) :: l, xs, y => by
    simp only [unH, alk]
    split
    · rfl
    · exact unH_keys l _ y
theorem env_key {p : Pat} {N : Nat} {x : p.ty.den} {y : Nat} {v : TV sem} (hy : alk (unpack (A := sem) p N x).env y = some v) : ∃ pv, (y, pv) ∈ p.env := by
  have h1 := unE_keys p.env (unT sem p.tys x) y
  have : alk (unE (A := sem) p.env (unT sem p.tys x)).1 y = some v := hy
  rw [this] at h1
  obtain ⟨pv, hpv⟩ := Option.isSome_iff_exists.1 h1.symm
  exact ⟨pv, alk_mem hpv⟩
theorem hp_key {p : Pat} {N : Nat} {x : p.ty.den} {y : Nat} {b : Option (TB sem)} (hy : alk (unpack (A := sem) p N x).hp y = some b) : ∃ pb, (y, pb) ∈ p.hp := by
  have h1 := unH_keys p.hp (unE (A := sem) p.env (unT sem p.tys x)).2 y
  have : alk (unH (A := sem) p.hp (unE (A := sem) p.env (unT sem p.tys x)).2).1 y = some b := hy
  rw [this] at h1
  obtain ⟨pv, hpv⟩ := Option.isSome_iff_exists.1 h1.symm
  exact ⟨pv, alk_mem hpv⟩

/-- at the head of a loop -/
theorem head_rel {l : La} {s1 : TS sem} (hk : okLa l c s = true) (hc : ∀ id, (inCx l c s).has id = true → id < s.n) (R : Rel P κ ln z (inCx l c s) s1 env h n) {x : l.head.ty.den} (hp : pack (inCx l c s) s.n l.head s1 = some x) :
    ∃ κ2 ln2 z2, Rel P κ2 ln2 z2 (inCx l c s) (unpack l.head s.n x) env h n ∧ ∀ id, (inCx l c s).has id = true → κ2 id = κ id ∧ ln2 id = ln id := by
  obtain ⟨k1, k2, k3, k4, _⟩ := okLa_spec hk
  refine pack_rel R hc hp _ _ (Nat.le_refl _) (fun y => .inl (by unfold tlk; cases alk (unpack (A := sem) l.head s.n x).env y <;> rfl)) (fun id B hB => ?_) (fun y v hy => ?_) (fun id b hb => ?_) rfl
  · unfold thp at hB
    cases hh : alk (unpack (A := sem) l.head s.n x).hp id with
    | some b => rw [hh] at hB; exact .inl (by rw [← hB])
    | none => rw [hh] at hB; exact .inr hB
  · obtain ⟨pv, hpv⟩ := env_key hy
    obtain ⟨g1, g2⟩ := k3 _ hpv
    rw [inCx_e0, if_neg (by simpa using g2)]; exact g1
  · obtain ⟨pb, hpb⟩ := hp_key hb
    obtain ⟨g1, g2, g3⟩ := k4 _ hpb
    rw [inCx_g l k2, if_neg (by simpa using g2)]; exact g1
/-- behind a loop or a join -/
theorem out_rel {l : La} {s1 : TS sem} {κ0 : Nat → Option Nat} {ln0 : Nat → Nat} {z0 : AH} {env0 : Env} {h0 : AH} {n0 : Nat} (R0 : Rel P κ0 ln0 z0 c s env0 h0 n0) (hk : okLa l c s = true) (hc : ∀ id, (inCx l c s).has id = true → id < l.n) (R : Rel P κ ln z (inCx l c s) s1 env h n) {x : l.out.ty.den} (hp : pack (inCx l c s) l.n l.out s1 = some x) :
    ∃ κ2 ln2 z2, Rel P κ2 ln2 z2 c (outTS l c s x) env h n ∧ ∀ id, (inCx l c s).has id = true → κ2 id = κ id ∧ ln2 id = ln id := by
  obtain ⟨k1, k2, _, _, k5, k6, k7⟩ := okLa_spec hk
  have henv : ∀ y, alk (outTS l c s x).env y = match alk (unpack (A := sem) l.out l.n x).env y with | some v => some v | none => if l.keep.contains y then some (tlk c s y) else none := fun y => by
    show alk ((unpack (A := sem) l.out l.n x).env ++ l.keep.map fun x => (x, tlk c s x)) y = _
    rw [alk_append, alk_mapk]
    cases alk (unpack (A := sem) l.out l.n x).env y <;> rfl
  have hhp : ∀ y, alk (outTS l c s x).hp y = match alk (unpack (A := sem) l.out l.n x).hp y with | some v => some v | none => if l.gids.contains y then (ownB s y).map some else none := fun y => by
    show alk ((unpack (A := sem) l.out l.n x).hp ++ l.gids.filterMap fun id => (ownB s id).map fun b => (id, some b)) y = _
    have : (l.gids.filterMap fun id => (ownB s id).map fun b => (id, some b)) = l.gids.filterMap fun id => (((ownB s id).map some).map fun b => (id, b)) := by
      congr; funext id; cases ownB s id <;> rfl
    rw [this, alk_append, alk_fmap (fun id => (ownB s id).map some)]
    cases alk (unpack (A := sem) l.out l.n x).hp y <;> rfl
  refine pack_rel R hc hp c _ (Nat.le_refl _) (fun y => ?_) (fun id B hB => ?_) (fun y v hy => ?_) (fun id b hb => ?_) rfl
  · left
    unfold tlk
    rw [henv]
    cases hy : alk (unpack (A := sem) l.out l.n x).env y with
    | some v => rfl
    | none =>
      simp only
      rw [inCx_e0]
      by_cases hkp : l.keep.contains y = true
      · rw [if_pos hkp, if_pos hkp]; rfl
      · rw [if_neg hkp, if_neg hkp]
  · unfold thp at hB
    rw [hhp] at hB
    cases hy : alk (unpack (A := sem) l.out l.n x).hp id with
    | some b => rw [hy] at hB; exact .inl (by rw [← hB])
    | none =>
      rw [hy] at hB
      simp only at hB
      right
      rw [inCx_g l k2]
      by_cases hkp : l.gids.contains id = true
      · rw [if_pos hkp] at hB ⊢
        obtain ⟨B', hB'⟩ := k2 id (by simpa using hkp)
        rw [ownB_of hB'] at hB ⊢
        exact hB
      · rw [if_neg hkp] at hB ⊢; exact hB
  · rw [henv] at hy
    cases hu : alk (unpack (A := sem) l.out l.n x).env y with
    | some w =>
      obtain ⟨pv, hpv⟩ := env_key hu
      exact (k5 _ hpv).1
    | none =>
      rw [hu] at hy
      simp only at hy
      split at hy
      · rename_i hkp; exact k1 y (by simpa using hkp)
      · cases hy
  · rw [hhp] at hb
    cases hu : alk (unpack (A := sem) l.out l.n x).hp id with
    | some w =>
      obtain ⟨pb, hpb⟩ := hp_key hu
      exact (k6 _ hpb).1
    | none =>
      rw [hu] at hb
      simp only at hb
      split at hb
      · rename_i hkp
        obtain ⟨B', hB'⟩ := k2 id (by simpa using hkp)
        exact R0.g id _ hB'
      · cases hb
end
end Go.Abs

/- Operations that read: on other heaps they read the same. -/
set_option linter.unusedSimpArgs false
set_option linter.unusedVariables false
set_option linter.constructorNameAsVariable false
namespace Go.Abs
open Go Go.RowKit

def ABlk.shp : ABlk → ABlk → Prop
  | .cells k _ _, .cells k' _ _ => k = k'
  | .map a, .map b => a = b
  | _, _ => False
def shp (h h1 : AH) : Prop := ∀ q B, h q = some B → ∃ B', h1 q = some B' ∧ B.shp B'

section
variable {P : Program} {env : Env} {h h1 : AH} {n n1 : Nat} {o : Oper} {K K' : K3}

theorem shp.cells (hs : shp h h1) {q k : Nat} {T : TypeId} {es : List (List AV)} (hq : h q = some (.cells k T es)) : ∃ T' es', h1 q = some (.cells k T' es') := by
  obtain ⟨B', h2, h3⟩ := hs q _ hq
  cases B' with
  | cells k' T' es' => cases h3; exact ⟨T', es', h2⟩
  | map _ => exact h3.elim
theorem shp.isCells (hs : shp h h1) {q : Nat} (hq : isCells (h q) = true) : isCells (h1 q) = true := by
  unfold Abs.isCells at hq
  split at hq
  · rename_i k T es he
    obtain ⟨T', es', h2⟩ := hs.cells he
    rw [h2]; rfl
  · cases hq
theorem shp.map (hs : shp h h1) {q : Nat} {l : List (Value × AV)} (hq : h q = some (.map l)) : h1 q = some (.map l) := by
  obtain ⟨B', h2, h3⟩ := hs q _ hq
  cases B' with
  | cells k' T' es' => exact h3.elim
  | map _ => cases h3; exact h2
theorem ABlk.shp_refl (B : ABlk) : B.shp B := by cases B <;> rfl

theorem partK_ex {t : TypeId} {cs : List AV} {d : Nat} {K : AV → Prop} (hk : partK P t cs d K) : ∃ v, K v ∧ ∀ K' : AV → Prop, K' v → partK P t cs d K' := by
  unfold partK at hk ⊢
  split at hk
  · exact ⟨_, hk, fun K' h => h⟩
  · obtain ⟨c, h1, h2⟩ := hk; exact ⟨c, h2, fun K' h => ⟨c, h1, h⟩⟩
  · exact hk.elim
theorem idxK_ex {T : TypeId} {x i : AV} {K : AV → Prop} (hk : idxK P T x i K) : ∃ v, K v ∧ ∀ K' : AV → Prop, K' v → idxK P T x i K' := by
  unfold idxK at hk
  split at hk
  · split at hk
    · split at hk
      · rename_i ha
        obtain ⟨h0, h1, h2, hk⟩ := hk
        obtain ⟨v, h3, h4⟩ := partK_ex hk
        exact ⟨v, h3, fun K' h => by simp only [idxK, ha]; exact ⟨h0, h1, h2, h4 K' h⟩⟩
      · exact hk.elim
    · obtain ⟨h0, h1, b, h2, hk⟩ := hk
      exact ⟨_, hk, fun K' h => by simp only [idxK]; exact ⟨h0, h1, b, h2, h⟩⟩
    · exact hk.elim
  · exact hk.elim
theorem unK_ex {op : UnOp} {x : AV} {K : AV → Prop} (hk : unK op x K) : ∃ v, K v ∧ ∀ K' : AV → Prop, K' v → unK op x K' := by
  unfold unK at hk
  split at hk
  · exact ⟨_, hk, fun K' h => h⟩
  · exact ⟨_, hk, fun K' h => h⟩
  · exact hk.elim
theorem convK_ex {S T : TypeId} {x : AV} {K : AV → Prop} (hk : convK P S T x K) : ∃ v, K v ∧ ∀ K' : AV → Prop, K' v → convK P S T x K' := by
  unfold convK at hk
  split at hk
  · split at hk
    · rename_i hi
      exact ⟨_, hk.2, fun K' h => by simp only [convK, hi]; exact ⟨hk.1, h⟩⟩
    · rename_i hi
      obtain ⟨v, h0, h1, hk⟩ := hk
      exact ⟨_, hk, fun K' h => by simp only [convK, hi]; exact ⟨v, h0, h1, h⟩⟩
  · rename_i u hu
    obtain ⟨v, h0, h1, hk⟩ := hk
    refine ⟨_, hk, fun K' h => ?_⟩
    cases u <;> first | exact absurd rfl (hu _ _) | exact absurd rfl (hu _) | exact ⟨v, h0, h1, h⟩
  · exact hk.elim

/-- nothing of the heap is read -/
theorem aop_free (hc : cls o = 0) (hk : aop P env h n o K) : ∃ v, K v h n ∧ ∀ h1 n1 (K' : K3), K' v h1 n1 → aop P env h1 n1 o K' := by
  obtain ⟨dst, op, ty, pos, after, g⟩ := o
  cases op <;> simp only [cls] at hc <;> try (cases hc; done)
  case move x => exact ⟨_, hk, fun h1 n1 K' h => h⟩
  case assign x => exact ⟨_, hk, fun h1 n1 K' h => h⟩
  case pick x a b =>
    simp only [aop] at hk ⊢
    split at hk
    · exact ⟨_, hk, fun h1 n1 K' h => h⟩
    · exact hk.elim
  case unOp => 
    simp only [aop] at hk ⊢
    obtain ⟨v, h1, h2⟩ := unK_ex hk
    exact ⟨v, h1, fun _ _ K' h => h2 _ h⟩
  case convert =>
    simp only [aop] at hk ⊢
    obtain ⟨v, h1, h2⟩ := convK_ex hk
    exact ⟨v, h1, fun _ _ K' h => h2 _ h⟩
  case makeFunc f first caps =>
    cases f <;> simp only [aop] at hk ⊢ <;> try (exact hk.elim)
    exact ⟨_, hk.2, fun _ _ K' h => ⟨hk.1, h⟩⟩
  case field T x f =>
    simp only [aop] at hk ⊢
    split at hk
    · obtain ⟨v, h1, h2⟩ := partK_ex hk
      exact ⟨v, h1, fun _ _ K' h => h2 _ h⟩
    · exact hk.elim
  case index =>
    simp only [aop] at hk ⊢
    obtain ⟨v, h1, h2⟩ := idxK_ex hk
    exact ⟨v, h1, fun _ _ K' h => h2 _ h⟩
  case extract x i =>
    simp only [aop] at hk ⊢
    split at hk
    · obtain ⟨c, h1, h2⟩ := hk; exact ⟨c, h2, fun _ _ K' h => ⟨c, h1, h⟩⟩
    · exact hk.elim
  case build T parts =>
    simp only [aop] at hk ⊢
    split at hk
    · split at hk
      · exact ⟨_, hk, fun _ _ K' h => h⟩
      · exact hk.elim
    · exact hk.elim
  case call l =>
    obtain ⟨callee, args, ts⟩ := l
    cases callee with
    | builtin b =>
      simp only [aop] at hk ⊢
      unfold builtinK at hk
      split at hk
      · cases hc
      · cases hc
      · cases hc
      · rename_i x y _ ha
        split at hk
        · rename_i h1 h2
          refine ⟨_, hk.2, fun _ _ K' h => ?_⟩
          simp only [builtinK, ha, h1, h2]; exact ⟨hk.1, h⟩
        · exact hk.elim
      · rename_i x y _ ha
        split at hk
        · rename_i h1 h2
          refine ⟨_, hk.2, fun _ _ K' h => ?_⟩
          simp only [builtinK, ha, h1, h2]; exact ⟨hk.1, h⟩
        · exact hk.elim
      · exact hk.elim
    | value _ => simp at hc
    | invoke _ _ => simp at hc

theorem boundsK_mono {n : Nat} {lo hi : Option AV} {K K' : Nat → Nat → Prop} (hk : boundsK n lo hi K) (hK : ∀ l u, K l u → K' l u) : boundsK n lo hi K' := by
  unfold boundsK at hk ⊢
  split at hk
  · exact ⟨hk.1, hk.2.1, hk.2.2.1, hK _ _ hk.2.2.2⟩
  · exact hk.elim
/-- where blocks are is read -/
theorem aop_shape (hc : cls o = 1) (hs : shp h h1) (hK : ∀ v, K v h n → K' v h1 n1) (hk : aop P env h n o K) : aop P env h1 n1 o K' := by
  obtain ⟨dst, op, ty, pos, after, g⟩ := o
  cases op <;> simp only [cls] at hc <;> try (cases hc; done)
  case nilCheck x =>
    simp only [aop] at hk ⊢
    refine ⟨?_, hK _ hk.2⟩
    have := hk.1
    unfold liveA at this ⊢
    split at this
    · rfl
    · rfl
    · exact hs.isCells this
    · cases this
  case fieldAddr T x f =>
    simp only [aop] at hk ⊢
    split at hk
    · split at hk
      · exact hK _ hk
      · exact ⟨hs.isCells hk.1, hK _ hk.2⟩
      · exact hk.elim
    · exact hk.elim
  case indexAddr T x i =>
    simp only [aop] at hk ⊢
    unfold idxAddrK at hk ⊢
    split at hk
    · split at hk
      · split at hk
        · obtain ⟨h0, c, q1, q2, q3, q4⟩ := hk; exact ⟨h0, c, q1, q2, q3, hK _ q4⟩
        · exact hk.elim
      · split at hk
        · rename_i he hh
          obtain ⟨T', es', h2⟩ := hs.cells hh
          simp only [he, h2]
          exact ⟨hk.1, hk.2.1, hk.2.2.1, hk.2.2.2.1, hK _ hk.2.2.2.2⟩
        · exact hk.elim
      · split at hk
        · rename_i he hh
          obtain ⟨T', es', h2⟩ := hs.cells hh
          simp only [he, h2]
          exact ⟨hk.1, hk.2.1, hk.2.2.1, hK _ hk.2.2.2⟩
        · exact hk.elim
      · split at hk
        · exact ⟨hk.1, hk.2.1, hk.2.2.1, hK _ hk.2.2.2⟩
        · exact hk.elim
      · exact hk.elim
    · exact hk.elim
  case slice T x lo hi mx =>
    cases mx with
    | some _ => simp only [aop] at hk
    | none =>
      simp only [aop] at hk ⊢
      unfold sliceK at hk ⊢
      split at hk
      · exact ⟨hk.1, boundsK_mono hk.2 fun _ _ h => hK _ h⟩
      · obtain ⟨⟨e, he, hm⟩, hk⟩ := hk
        refine ⟨⟨e, he, ?_⟩, boundsK_mono hk fun _ _ h => hK _ h⟩
        split at hm
        · rename_i hh
          obtain ⟨T', es', h2⟩ := hs.cells hh
          rw [h2]; exact hm
        · exact hm.elim
      · exact ⟨hk.1, boundsK_mono hk.2 fun _ _ h => hK _ h⟩
      · exact ⟨hk.1, boundsK_mono hk.2 fun _ _ h => hK _ h⟩
      · exact hk.elim
  case call l =>
    obtain ⟨callee, args, ts⟩ := l
    cases callee with
    | builtin b =>
      simp only [aop] at hk ⊢
      unfold builtinK at hk
      split at hk
      · rename_i x T ha ht
        simp only [builtinK, ha, ht]
        unfold lenK at hk ⊢
        split at hk
        · exact ⟨hk.1, fun h => hK _ (hk.2 h)⟩
        · exact ⟨hk.1, hs.isCells hk.2.1, fun h => hK _ (hk.2.2 h)⟩
        · exact ⟨hk.1, hK _ hk.2⟩
        · exact ⟨hk.1, hK _ hk.2⟩
        · exact ⟨hk.1, hK _ hk.2⟩
        · split at hk
          · rename_i hh hu
            simp only [hs.map hh, hu]; exact hK _ hk
          · exact hk.elim
        · exact hk.elim
      · cases hc
      · cases hc
      · cases hc
      · cases hc
      · exact hk.elim
    | value _ => simp at hc
    | invoke _ _ => simp at hc

theorem HR.sub {w : World} {O : Nat → Prop} {μ : Mu} (hh : ∀ q B, h q = some B → h1 q = some B) (hr : HR w O μ h1 n) : HR w O μ h n :=
  ⟨hr.olt, hr.scope, hr.inj, hr.notO, fun id B hB => hr.blk id B (hh id B hB)⟩
theorem deref_sub (hh : ∀ q B, h q = some B → h1 q = some B) {a : AV} {cs : List AV} (hd : deref h a = some cs) : deref h1 a = some cs := by
  unfold deref at hd ⊢
  split at hd
  · exact hd
  · split at hd
    · rename_i he
      simp only [hh _ _ he]; exact hd
    · cases hd
  · cases hd
theorem abinI_mono {op : BinOp} {k k' : IntKind} {x y : Int} {K K' : AV → Prop} (hK : ∀ v, K v → K' v) (hk : abinI op k x k' y K) : abinI op k x k' y K' := by
  cases op <;> simp only [abinI] at hk ⊢ <;> first | exact ⟨hk.1, hK _ hk.2⟩ | exact ⟨hk.1, hk.2.1, hK _ hk.2.2⟩
theorem abinS_mono {op : BinOp} {x y : ByteArray} {K K' : AV → Prop} (hK : ∀ v, K v → K' v) (hk : abinS op x y K) : abinS op x y K' := by
  cases op <;> simp only [abinS] at hk ⊢ <;> first | exact ⟨hk.1, hK _ hk.2⟩ | exact hK _ hk
/-- what is in blocks is read -/
theorem aop_full (hc : cls o = 2) (hh : ∀ q B, h q = some B → h1 q = some B) (hK : ∀ v, K v h n → K' v h1 n1) (hk : aop P env h n o K) : aop P env h1 n1 o K' := by
  obtain ⟨dst, op, ty, pos, after, g⟩ := o
  cases op <;> simp only [cls] at hc <;> try (cases hc; done)
  case load T x =>
    simp only [aop] at hk ⊢
    split at hk
    · rename_i cs hd
      simp only [deref_sub hh hd]
      unfold loadK at hk ⊢
      split at hk
      · exact ⟨hk.1, hK _ hk.2⟩
      · obtain ⟨c, h2, h3⟩ := hk; exact ⟨c, h2, hK _ h3⟩
      · exact hk.elim
    · exact hk.elim
  case binOp op T x y T2 =>
    simp only [aop] at hk ⊢
    unfold abin at hk ⊢
    split at hk
    · exact abinI_mono (fun v h => hK v h) hk
    · exact abinS_mono (fun v h => hK v h) hk
    · refine ⟨hk.1, ?_⟩
      have := hk.2
      split at this
      · exact hK _ this
      · exact hK _ this
      · exact this.elim
    · obtain ⟨b, h2, h3⟩ := hk
      exact ⟨b, fun w O μ n u v X Y hr hu hv => h2 w O μ n u v X Y (hr.sub hh) hu hv, hK _ h3⟩
  case lookup T m k ok =>
    simp only [aop] at hk ⊢
    unfold lookupK at hk ⊢
    split at hk
    · split at hk
      · rename_i he
        simp only [hh _ _ he]
        refine ⟨hk.1, hk.2.1, ?_⟩
        have := hk.2.2
        split at this
        · exact hK _ this
        · exact hK _ this
        · exact this.elim
      · exact hk.elim
    · exact hk.elim
  case call l =>
    obtain ⟨callee, args, ts⟩ := l
    cases callee with
    | builtin b => cases b <;> simp at hc
    | value _ => simp at hc
    | invoke _ _ => simp at hc
end
end Go.Abs

/- Regions whose order is drawn: what operations that write leave as it is; states in which less is to be seen. -/
set_option linter.unusedSimpArgs false
set_option linter.unusedVariables false
set_option linter.constructorNameAsVariable false
namespace Go.Abs
open Go Go.RowKit

def avId : AV → Option Nat
  | .own id _ _ | .ms id _ _ | .mp id => some id
  | _ => none
section
variable {P : Program} {env : Env} {h h' h1 : AH} {n n' n1 : Nat} {o : Oper} {K K' : K3}

theorem storeK_frame {T : TypeId} {p x v : AV} (hk : storeK P h n T p x (fun a b c => a = v ∧ b = h' ∧ c = n')) : (∀ q, avId p ≠ some q → h' q = h q) ∧ shp h h' := by
  unfold storeK at hk
  split at hk
  · rename_i id i j
    split at hk
    · rename_i k T' es xs hh hx
      split at hk
      · rename_i e he
        obtain ⟨_, _, _, _, rfl, _⟩ := hk
        refine ⟨fun q hq => ?_, fun q B hq => ?_⟩
        · unfold updH; rw [if_neg]; rintro rfl; exact hq rfl
        · unfold updH
          by_cases e : q = id
          · subst e
            rw [if_pos rfl]
            rw [hh] at hq; cases hq
            exact ⟨_, rfl, rfl⟩
          · rw [if_neg e]; exact ⟨B, hq, B.shp_refl⟩
      · exact hk.elim
    · exact hk.elim
  · exact hk.elim

theorem aop_frame {wc : List Nat} {j : Nat} {v : AV} (hw : isW wc j o = true) (hcl : isCall o = false) (hk : aop P env h n o (fun a b c => a = v ∧ b = h' ∧ c = n')) :
    (∀ q, q ≠ n → (∀ x, tgtOp o = some x → avId (ev env x) ≠ some q) → h' q = h q) ∧ (isStore o = true → shp h h') := by
  obtain ⟨dst, op, ty, pos, after, g⟩ := o
  have upd : ∀ {B : ABlk} (q : Nat), q ≠ n → updH h n B q = h q := fun q hq => by unfold updH; rw [if_neg hq]
  cases op <;> simp only [isW] at hw <;> try (cases hw; done)
  case alloc T =>
    simp only [aop] at hk
    split at hk
    · obtain ⟨_, rfl, _⟩ := hk
      exact ⟨fun q hq _ => upd q hq, fun hc => by cases hc⟩
    · exact hk.elim
  case box T x =>
    simp only [aop] at hk
    split at hk
    · obtain ⟨_, rfl, _⟩ := hk
      exact ⟨fun q hq _ => upd q hq, fun hc => by cases hc⟩
    · exact hk.elim
  case store T p x =>
    simp only [aop] at hk
    obtain ⟨h1, h2⟩ := storeK_frame hk
    exact ⟨fun q _ hx => h1 q (hx p rfl), fun _ => h2⟩
  case makeSlice T x y =>
    simp only [aop] at hk
    split at hk
    · split at hk
      · obtain ⟨_, _, _, _, _, _, rfl, _⟩ := hk
        exact ⟨fun q hq _ => upd q hq, fun hc => by cases hc⟩
      · exact hk.elim
    · exact hk.elim
  case makeMap T x =>
    cases x with
    | none =>
      simp only [aop] at hk
      obtain ⟨_, rfl, _⟩ := hk
      exact ⟨fun q hq _ => upd q hq, fun hc => by cases hc⟩
    | some _ => simp only [aop] at hk
  case mapUpdate T m k x =>
    simp only [aop] at hk
    unfold mapUpdK at hk
    split at hk
    · rename_i id _ _ _ hm _ _
      split at hk
      · obtain ⟨_, _, _, _, rfl, _⟩ := hk
        refine ⟨fun q _ hx => ?_, fun hc => by cases hc⟩
        unfold updH; rw [if_neg]
        rintro rfl
        exact hx m rfl (by rw [hm]; rfl)
      · exact hk.elim
    · exact hk.elim
  case call l =>
    obtain ⟨callee, args, ts⟩ := l
    cases callee with
    | builtin b =>
      simp only [aop] at hk
      unfold builtinK at hk
      split at hk
      · simp at hw
      · rename_i s x T T2 ha ht
        refine ⟨fun q hq hx => ?_, fun hc => by cases hc⟩
        replace hx := hx s (by simp only [tgtOp, ha])
        unfold appendK at hk
        obtain ⟨_, hk⟩ := hk
        split at hk
        · exact hk.elim
        · split at hk
          · exact hk.elim
          · obtain ⟨_, _, hk⟩ := hk
            split at hk
            · exact hk.elim
            · rename_i xs _
              split at hk
              · by_cases e : xs = []
                · obtain ⟨_, rfl, _⟩ := hk.2.1 e; rfl
                · obtain ⟨_, rfl, _⟩ := hk.2.2 e; exact upd q hq
              · by_cases e : xs = []
                · obtain ⟨_, rfl, _⟩ := hk.2.1 e; rfl
                · obtain ⟨_, rfl, _⟩ := hk.2.2 e; exact upd q hq
              · rename_i id len he
                split at hk
                · obtain ⟨_, _, _, _, _, rfl, _⟩ := hk
                  unfold updH delH
                  rw [if_neg hq, if_neg]
                  rintro rfl
                  exact hx (by rw [he]; rfl)
                · exact hk.elim
              · exact hk.elim
      · rename_i s x T T2 ha ht
        refine ⟨fun q hq hx => ?_, fun hc => by cases hc⟩
        replace hx := hx s (by simp only [tgtOp, ha])
        unfold copyK at hk
        split at hk
        · exact hk.elim
        · split at hk
          · exact hk.elim
          · obtain ⟨_, hk⟩ := hk
            split at hk
            · exact hk.elim
            · split at hk
              · obtain ⟨_, rfl, _⟩ := hk; rfl
              · rename_i id off len he
                split at hk
                · obtain ⟨_, _, _, rfl, _⟩ := hk
                  unfold updH
                  rw [if_neg]
                  rintro rfl
                  exact hx (by rw [he]; rfl)
                · exact hk.elim
              · exact hk.elim
      · simp at hw
      · simp at hw
      · exact hk.elim
    | value _ => cases hcl
    | invoke _ _ => simp at hw
  case buildSlice T len parts =>
    simp only [aop] at hk
    split at hk
    · split at hk
      · obtain ⟨_, _, hk⟩ := hk
        split at hk
        · rcases hk with ⟨_, rfl, _⟩ | ⟨_, rfl, _⟩ | ⟨_, _, rfl, _⟩
          · exact ⟨fun q hq _ => upd q hq, fun hc => by cases hc⟩
          · exact ⟨fun q hq _ => rfl, fun hc => by cases hc⟩
          · exact ⟨fun q hq _ => rfl, fun hc => by cases hc⟩
        · exact hk.elim
      · exact hk.elim
    · exact hk.elim
  all_goals (simp only [aop] at hk)
end

/-! heaps of a region -/
/-- what has to stay: the blocks b1 their shape, the blocks b2 all -/
def GH (κ0 : Nat → Option Nat) (b1 b2 : List Nat) (hs h1 : AH) : Prop :=
  (∀ id q B, id ∈ b1 → κ0 id = some q → hs q = some B → ∃ B', h1 q = some B' ∧ B.shp B') ∧ (∀ id q B, id ∈ b2 → κ0 id = some q → hs q = some B → h1 q = some B)

section
variable {P : Program} {κ κ0 : Nat → Option Nat} {ln : Nat → Nat} {z : AH} {c : Cx sem} {s : TS sem} {env : Env} {h h' hs : AH} {n n' : Nat}

def rsH (κ : Nat → Option Nat) (h : AH) (b : List Nat) : AH := fun q => if b.any (fun id => κ id == some q) then h q else none
theorem rsH_some {b : List Nat} {q : Nat} {B : ABlk} (hq : rsH κ h b q = some B) : (∃ id ∈ b, κ id = some q) ∧ h q = some B := by
  unfold rsH at hq
  split at hq
  · rename_i ha
    obtain ⟨id, hi, he⟩ := List.any_eq_true.1 ha
    exact ⟨⟨id, hi, by simpa using he⟩, hq⟩
  · cases hq
theorem rsH_at {b : List Nat} {id q : Nat} (hi : id ∈ b) (hk : κ id = some q) : rsH κ h b q = h q := by
  unfold rsH
  rw [if_pos (List.any_eq_true.2 ⟨id, hi, by simp [hk]⟩)]

theorem Rel.rst (R : Rel P κ ln z c s env h n) {b : List Nat} (hd : s.dy = false) (hg : c.g.all (fun x => b.contains x.1) = true) : Rel P κ ln z c (rst s b) env (rsH κ h b) n := by
  have hz := R.dy hd
  have ef : ∀ id, alk (s.hp.filter fun x => b.contains x.1) id = if b.contains id then alk s.hp id else none := fun id => alk_filter (fun k => b.contains k) s.hp id
  have hgm : ∀ id B, alk c.g id = some B → id ∈ b := fun id B hB => by
    have := List.all_eq_true.1 hg (id, B) (alk_mem hB)
    simpa using this
  have sub : ∀ id B, thp c (Abs.rst s b) id = some B → thp c s id = some B ∧ id ∈ b := fun id B hB => by
    unfold thp at hB ⊢
    simp only [Abs.rst, ef] at hB
    by_cases hc : b.contains id = true
    · rw [if_pos hc] at hB
      exact ⟨hB, by simpa using hc⟩
    · rw [if_neg hc] at hB
      simp only at hB
      exact absurd (List.contains_iff_mem.2 (hgm id B hB)) hc
  refine ⟨fun x => R.env x, fun id B hB => ?_, fun id B hB => R.lt id B (sub id B hB).1, fun i j B B' q hi hj => R.inj i j B B' q (sub _ _ hi).1 (sub _ _ hj).1, fun q B hq => ?_, fun id B q hB hk => R.zout id B q (sub _ _ hB).1 hk, fun id B q hB hk => R.bnd id B q (sub _ _ hB).1 hk, fun q hq => ?_, R.e0, fun id B hB => ?_, fun _ => hz, R.zk⟩
  · obtain ⟨h1, h2⟩ := sub id B hB
    exact (R.blk id B h1).mono (fun _ _ => rfl) (fun _ _ => rfl) (fun _ _ h => h) (Nat.le_refl _) (R.lt id B h1) (fun q B' hq hB' => by rw [rsH_at h2 hq]; exact hB')
  · rw [hz] at hq; cases hq
  · unfold rsH; split
    · exact R.hn q hq
    · rfl
  · simp only [Abs.rst, ef] at hB
    split at hB
    · exact R.g id B hB
    · cases hB

/-- what is seen of the blocks b2 stays -/
theorem GH.full {b1 b2 : List Nat} {h1 : AH} (hG : GH κ0 b1 b2 hs h) (hG1 : GH κ0 b1 b2 hs h1) (hk : ∀ id ∈ b2, κ id = κ0 id) (hl : ∀ id ∈ b2, ∀ q, κ0 id = some q → ∃ B, hs q = some B) : ∀ q B, rsH κ h b2 q = some B → h1 q = some B := by
  intro q B hq
  obtain ⟨⟨id, hi, he⟩, hB⟩ := rsH_some hq
  rw [hk id hi] at he
  obtain ⟨B0, h0⟩ := hl id hi q he
  have := hG.2 id q B0 hi he h0
  rw [this] at hB; cases hB
  exact hG1.2 id q _ hi he h0
theorem ABlk.shp_trans {A B C : ABlk} (h1 : A.shp B) (h2 : B.shp C) : A.shp C := by
  cases A <;> cases B <;> cases C <;> simp only [ABlk.shp] at * <;> first | exact h1.trans h2 | exact h1.elim | exact h2.elim
theorem ABlk.shp_symm {A B : ABlk} (h1 : A.shp B) : B.shp A := by
  cases A <;> cases B <;> simp only [ABlk.shp] at * <;> first | exact h1.symm | exact h1.elim
theorem GH.shape {b1 b2 : List Nat} {h1 : AH} (hG : GH κ0 b1 b2 hs h) (hG1 : GH κ0 b1 b2 hs h1) (hk : ∀ id ∈ b1, κ id = κ0 id) (hl : ∀ id ∈ b1, ∀ q, κ0 id = some q → ∃ B, hs q = some B) : shp (rsH κ h b1) h1 := by
  intro q B hq
  obtain ⟨⟨id, hi, he⟩, hB⟩ := rsH_some hq
  rw [hk id hi] at he
  obtain ⟨B0, h0⟩ := hl id hi q he
  obtain ⟨B1, e1, e2⟩ := hG.1 id q B0 hi he h0
  rw [e1] at hB; cases hB
  obtain ⟨B2, e3, e4⟩ := hG1.1 id q B0 hi he h0
  exact ⟨B2, e3, ABlk.shp_trans (ABlk.shp_symm e2) e4⟩
theorem GH.refl {b1 b2 : List Nat} : GH κ0 b1 b2 hs hs := ⟨fun id q B _ _ h => ⟨B, h, B.shp_refl⟩, fun id q B _ _ h => h⟩
end
end Go.Abs

/- Functions that change own blocks which are given to them: the frame, with whatever they answer. -/
set_option linter.unusedSimpArgs false
set_option linter.unusedVariables false
namespace Go.Abs
open Go Go.RowKit

/-- own blocks that are there alone -/
def liveP (h : AH) : Nat → Bool := fun i => (h i).isSome
section
variable {P : Program} {f : FuncId} {args : List AV}

theorem HC.less {h : AH} {n : Nat} {R : K3} (hc : HC P f args h n (fun v h' n' => ∃ h2 : AH, (∀ q B, h2 q = some B → h' q = some B) ∧ R v h2 n')) : HC P f args h n R := by
  refine ⟨hc.1, fun O μ w vs hr hs hv => (hc.2 O μ w vs hr hs hv).mono ?_⟩
  rintro e w' ⟨u, v, h', n', μ', rfl, ⟨h2, q0, q1⟩, q2, q3, q4⟩
  exact ⟨u, v, h2, n', μ', rfl, q1, ⟨q2.olt, q2.scope, q2.inj, q2.notO, fun id B hB => q2.blk id B (q0 id B hB)⟩, q3, q4⟩

theorem HC.frm2 {h hE : AH} {n : Nat} {R K : K3} (I : List Nat) (hi : ∀ i B, hE i = some B → I.contains i = true ∧ h i = some B) (hI : ∀ i, I.contains i = true → i < n) (hn : ∀ i, n ≤ i → h i = none)
    (hR : ∀ v h' n', R v h' n' → On (liveP h') v ∧ ∀ i B, h' i = some B → OnB (liveP h') B)
    (hc : HC P f args hE n R) (hk : ∀ v h' n', R v h' n' → n ≤ n' → (∀ i B, h' i = some B → I.contains i = true ∨ (n ≤ i ∧ i < n')) → K v (fun i => if I.contains i || decide (n ≤ i) then h' i else h i) n') : HC P f args h n K := by
  refine ⟨hc.1, fun O μ w vs hr hsz hva => ?_⟩
  have hrI : HR w (Av O (muO I μ)) (muI I μ) hE n := by
    refine ⟨fun b hb => ?_, fun id b k e => hr.scope id b k (muI_some e).2, fun id id' b k k' e e' => hr.inj id id' b k k' (muI_some e).2 (muI_some e').2, fun id b k e hO => ?_, fun id B hB => ?_⟩
    · rcases hb with hb | ⟨id, k, hb⟩
      · exact hr.olt b hb
      · exact (hr.scope id b k (muO_some hb).2).2
    · obtain ⟨e1, e2⟩ := muI_some e
      rcases hO with hO | ⟨id', k', hO⟩
      · exact hr.notO id b k e2 hO
      · obtain ⟨e3, e4⟩ := muO_some hO
        rw [hr.inj _ _ _ _ _ e2 e4] at e1
        rw [e1] at e3; cases e3
    · obtain ⟨h1, h2⟩ := hi id B hB
      exact (hr.blk id B h2).mapV (by simp only [muI]; rw [if_pos h1]) fun hv => hv.split I
  refine (hc.2 (Av O (muO I μ)) (muI I μ) w vs hrI hsz (fun j c hj => ?_)).mono ?_
  · obtain ⟨u, h1, h2⟩ := hva j c hj
    exact ⟨u, h1, h2.split I⟩
  rintro e w' ⟨u, v, h', n', μ', rfl, q1, q2, q3, q4⟩
  have hnn := q4.le
  let p : Nat → Bool := fun i => I.contains i || decide (n ≤ i)
  have hp0 : ∀ {i}, p i = false → I.contains i = false ∧ i < n := fun {i} hp => by simpa [p] using hp
  have hm : ∀ id, p id = true → (fun i => if p i then μ' i else μ i) id = μ' id := fun id h => by simp only [h, if_true]
  have hm0 : ∀ id, p id = false → (fun i => if p i then μ' i else μ i) id = μ id := fun id h => by simp only [h, Bool.false_eq_true, if_false]
  -- what the function has, is given or new
  have hsome : ∀ id b k, μ' id = some (b, k) → p id = true := fun id b k e => by
    rcases Bool.eq_false_or_eq_true (p id) with hp | hp
    · exact hp
    · obtain ⟨e1, e2⟩ := hp0 hp
      rcases q4.ids id e2 with e3 | e3
      · rw [e3] at e; rw [(muI_some e).1] at e1; cases e1
      · rw [e3] at e; cases e
  have hlive : ∀ i B, h' i = some B → p i = true ∧ i < n' := fun i B hB => by
    have := q2.blk i B hB
    cases B with
    | cells k T es => obtain ⟨b, c, h1, _⟩ := this; exact ⟨hsome i b k h1, (q2.scope i b k h1).1⟩
    | map kvs => obtain ⟨b, es, h1, _⟩ := this; exact ⟨hsome i b 0 h1, (q2.scope i b 0 h1).1⟩
  have hliveP : ∀ i, liveP h' i = true → p i = true ∧ i < n' := fun i hi => by
    obtain ⟨B, hB⟩ := Option.isSome_iff_exists.1 hi
    exact hlive i B hB
  replace hk := hk v h' n' q1 hnn fun i B hB => by
    obtain ⟨h1, h2⟩ := hlive i B hB
    simp only [p, Bool.or_eq_true, decide_eq_true_eq] at h1
    rcases h1 with h1 | h1
    · exact .inl h1
    · exact .inr ⟨h1, h2⟩
  obtain ⟨hv, hb⟩ := hR v h' n' q1
  have hout : ∀ id b k, μ id = some (b, k) → p id = false → Av O (muO I μ) b := fun id b k e hp => .inr ⟨id, k, by unfold muO; rw [if_neg (by rw [(hp0 hp).1]; decide)]; exact e⟩
  have hav : ∀ b, Av O (fun i => if p i then μ' i else μ i) b → Av (Av O (muO I μ)) μ' b := fun b hb => by
    rcases hb with hb | ⟨id, k, hb⟩
    · exact .inl (.inl hb)
    · rcases Bool.eq_false_or_eq_true (p id) with hI' | hI'
      · exact .inr ⟨id, k, (hm id hI') ▸ hb⟩
      · exact .inl (hout id b k ((hm0 id hI') ▸ hb) hI')
  have hE2 : Evo w μ n w' (fun i => if p i then μ' i else μ i) n' := by
    refine ⟨q4.os, q4.tape, q4.output, q4.size, hnn, fun b hb hn => q4.keep b hb fun id k e => hn id k (muI_some e).2, q4.row, fun id hid => ?_, fun id b k e hn => ?_⟩
    · rcases Bool.eq_false_or_eq_true (p id) with hI' | hI'
      · have e0 := hm id hI'
        simp only at e0
        rw [e0]
        have hIc : I.contains id = true := by
          simp only [p, Bool.or_eq_true, decide_eq_true_eq] at hI'
          rcases hI' with hI' | hI'
          · exact hI'
          · omega
        rcases q4.ids id hid with e1 | e1
        · rw [e1]; left; unfold muI; rw [if_pos hIc]
        · exact .inr e1
      · exact .inl (hm0 id hI')
    · rcases Bool.eq_false_or_eq_true (p id) with hI' | hI'
      · rcases q4.new id b k ((hm id hI') ▸ e) hn with h1 | ⟨id0, k0, h1⟩
        · exact .inl h1
        · exact .inr ⟨id0, k0, (muI_some h1).2⟩
      · exact absurd (hr.scope id b k ((hm0 id hI') ▸ e)).1 (by omega)
  have hH2 : HR w' O (fun i => if p i then μ' i else μ i) (fun i => if p i then h' i else h i) n' := by
    refine ⟨fun b hb => Nat.lt_of_lt_of_le (hr.olt b hb) q4.size, fun id b k e => ?_, fun id id' b k k' e e' => ?_, fun id b k e => ?_, fun id B hB => ?_⟩
    · rcases Bool.eq_false_or_eq_true (p id) with hI' | hI'
      · exact q2.scope id b k ((hm id hI') ▸ e)
      · have := hr.scope id b k ((hm0 id hI') ▸ e)
        exact ⟨Nat.lt_of_lt_of_le this.1 hnn, Nat.lt_of_lt_of_le this.2 q4.size⟩
    · rcases Bool.eq_false_or_eq_true (p id) with hI1 | hI1
      · have e1 : μ' id = some (b, k) := (hm id hI1) ▸ e
        rcases Bool.eq_false_or_eq_true (p id') with hI2 | hI2
        · exact q2.inj id id' b k k' e1 ((hm id' hI2) ▸ e')
        · exact absurd (hout id' b k' ((hm0 id' hI2) ▸ e') hI2) (q2.notO id b k e1)
      · have e1 : μ id = some (b, k) := (hm0 id hI1) ▸ e
        rcases Bool.eq_false_or_eq_true (p id') with hI2 | hI2
        · exact absurd (hout id b k e1 hI1) (q2.notO id' b k' ((hm id' hI2) ▸ e'))
        · exact hr.inj id id' b k k' e1 ((hm0 id' hI2) ▸ e')
    · rcases Bool.eq_false_or_eq_true (p id) with hI' | hI'
      · exact fun hO => q2.notO id b k ((hm id hI') ▸ e) (.inl hO)
      · exact hr.notO id b k ((hm0 id hI') ▸ e)
    · rcases Bool.eq_false_or_eq_true (p id) with hI' | hI'
      · simp only [hI', if_true] at hB
        exact (q2.blk id B hB).on (hb id B hB) (hm id hI') (fun i h => ⟨hm i (hliveP i h).1, (hliveP i h).2⟩) hav
      · simp only [hI', Bool.false_eq_true, if_false] at hB
        refine (hr.blk id B hB).evo (hm0 id hI') (fun b k e => q4.keep b (hr.scope id b k e).2 fun id' k' e' => ?_) hE2
        obtain ⟨e1, e2⟩ := muI_some e'
        rw [hr.inj _ _ _ _ _ e e2] at hI'
        rw [(hp0 hI').1] at e1; cases e1
  exact ⟨u, _, _, _, _, rfl, hk, hH2, q3.on hv (fun i h => ⟨hm i (hliveP i h).1, (hliveP i h).2⟩) hav, hE2⟩
end
end Go.Abs

/- Calls of functions that change blocks: contracts, numbers renamed. -/
set_option linter.unusedSimpArgs false
set_option linter.unusedVariables false
set_option linter.constructorNameAsVariable false
namespace Go.Abs
open Go Go.RowKit

section
variable (P : Program)
/-- an argument, as a contract's premise tells it -/
def A1 : (t : Ty) → t.den → AV → Prop
  | .fn n x y, F, a => CV P n x y F a
  | t, x, a => t.dat = true ∧ a = t.av x
/-- arguments one by one -/
inductive AL : List ((t : Ty) × t.den) → List AV → Prop
  | nil : AL [] []
  | cons {p : (t : Ty) × t.den} {a : AV} {l : List ((t : Ty) × t.den)} {as : List AV} (h : A1 P p.1 p.2 a) (hl : AL l as) : AL (p :: l) (a :: as)
/-- the plain arguments -/
def PArgs : List (Option Ty) → List ((t : Ty) × t.den) → List AV → Prop
  | some _ :: ks, p :: l, a :: as => A1 P p.1 p.2 a ∧ PArgs ks l as
  | none :: ks, l, _ :: as => PArgs ks l as
  | [], [], [] => True
  | _, _, _ => False
end
def tpA : List AV → AV
  | [a] => a
  | l => .tp l
def resE (vs : List AV) : Env := vs.zipIdx.map fun x => (1000000 + x.2, x.1)
def offD {A : Alg} (s : TS A) : TS A := ⟨s.env, s.hp, s.n, false⟩
/-- what a function that changes blocks answers, as its contract tells it -/
def AfterM (P : Program) (C : CtrM) (y : C.out.ty.den) (args : List AV) : K3 := fun v h' n' =>
  ∃ κ' ln' vs, vs.length = C.nr ∧ v = tpA vs ∧ Rel P κ' ln' ahN ⟨[], []⟩ (offD (unpack (A := sem) C.out C.n1 y)) (resE vs ++ enterEnv args) h' n' ∧ ∀ q B, h' q = some B → ∃ id b, alk (unpack (A := sem) C.out C.n1 y).hp id = some (some b) ∧ κ' id = some q
def GoodM (P : Program) (g : FuncId) (C : CtrM) : Prop :=
  ∀ x y, C.F x = some y → ∀ l1 l2, unT sem (C.ks.filterMap id ++ C.inp.tys) x = l1 ++ l2 → l1.length = (C.ks.filterMap id).length → ∀ κ ln h n args, PArgs P C.ks l1 args → Rel P κ ln ahN ⟨[], []⟩ (offD (unpackL (A := sem) C.inp C.n0 l2)) (enterEnv args) h n →
    HC P g args h n (AfterM P C y args)

section
variable {P : Program} {κ κ' κ2 : Nat → Option Nat} {ln ln' ln2 : Nat → Nat} {z z' : AH} {c : Cx sem} {s : TS sem} {env : Env} {h h' : AH} {n n' N N' : Nat}

theorem Snap.freeN {a a' : AV} (hs : Snap ahN a a') : Free a := by
  induction hs with
  | free a hf => exact hf
  | nilS => exact .sc _
  | own _ _ _ _ _ _ _ _ hB => cases hB
  | ms _ _ _ _ _ _ _ hB => cases hB
  | fp cs cs' hl _ ih =>
    refine (Free_fp cs).2 fun c hc => ?_
    obtain ⟨q, hq⟩ := List.mem_iff_getElem?.1 hc
    obtain ⟨c', hc'⟩ := other_of (l := cs') (l' := cs) hl.symm hq
    exact ih q c c' hq hc'
  | sl es es' hl hk _ ih =>
    refine (Free_sl es).2 fun e he c hc => ?_
    obtain ⟨q, hq⟩ := List.mem_iff_getElem?.1 he
    obtain ⟨e', he'⟩ := other_of (l := es') (l' := es) hl.symm hq
    obtain ⟨p, hp⟩ := List.mem_iff_getElem?.1 hc
    obtain ⟨c', hc'⟩ := other_of (l := e') (l' := e) (hk q e e' hq he').symm hp
    exact ih q e e' hq he' p c c' hp hc'
  | fn f cs cs' hl _ ih =>
    refine (Free_fn f cs).2 fun c hc => ?_
    obtain ⟨q, hq⟩ := List.mem_iff_getElem?.1 hc
    obtain ⟨c', hc'⟩ := other_of (l := cs') (l' := cs) hl.symm hq
    exact ih q c c' hq hc'
  | ag cs cs' hl _ ih =>
    refine (Free_ag cs).2 fun c hc => ?_
    obtain ⟨q, hq⟩ := List.mem_iff_getElem?.1 hc
    obtain ⟨c', hc'⟩ := other_of (l := cs') (l' := cs) hl.symm hq
    exact ih q c c' hq hc'
  | tp cs cs' hl _ ih =>
    refine (Free_tp cs).2 fun c hc => ?_
    obtain ⟨q, hq⟩ := List.mem_iff_getElem?.1 hc
    obtain ⟨c', hc'⟩ := other_of (l := cs') (l' := cs) hl.symm hq
    exact ih q c c' hq hc'
theorem HC.up {g : FuncId} {as as' : List AV} {K : K3} (hc : HC P g as' h n K) (hl : as'.length = as.length) (hs : ∀ (j : Nat) (a a' : AV), as[j]? = some a → as'[j]? = some a' → a' = a ∨ Snap ahN a a') : HC P g as h n K := by
  refine ⟨hc.1, fun O μ w vs hr hsz hv => hc.2 O μ w vs hr (hsz.trans hl.symm) fun j a' hj => ?_⟩
  obtain ⟨a, ha⟩ := other_of hl hj
  obtain ⟨u, hu, hvu⟩ := hv j a ha
  refine ⟨u, hu, ?_⟩
  rcases hs j a a' ha hj with rfl | hsn
  · exact hvu
  · have hz := HR.zero w (Av O μ) fun b hb => by
      rcases hb with hb | ⟨id, k, hb⟩
      · exact hr.olt b hb
      · exact (hr.scope id b k hb).2
    exact (hsn.vr hz (hvu.free hsn.freeN fun b hb => hb)).lift fun b hb => hb

/-- is an own block named in it, with its length? -/
def TV.hasW (id : Nat) : TV sem → Bool
  | .adr i _ _ => i == id
  | .aa i _ => i == id
  | .mw i => i == id
  | .ms i _ _ => i == id
  | .fn _ vs => hasL vs
  | .tp vs => hasL vs
  | .ag vs => hasL vs
  | _ => false
where hasL : List (TV sem) → Bool
  | [] => false
  | v :: vs => v.hasW id || hasL vs
def TB.hasW (id : Nat) : TB sem → Bool
  | .bx _ vs => TV.hasW.hasL id vs
  | _ => false
mutual
theorem TVR.ren {f : Nat → Nat} (hz : ∀ q B, z q = some B → z' q = some B) : ∀ {v : TV sem} {a : AV}, TVR P κ ln z N v a → (∀ i, v.has i = true → κ' (f i) = κ i ∧ f i < N') → (∀ i, v.hasW i = true → ln' (f i) = ln i) → TVR P κ' ln' z' N' (renV f v) a
  | _, _, .un a, _, _ => .un a
  | _, _, .ud, _, _ => .ud
  | _, _, .c t x a hd h, _, _ => .c t x a hd (h.mono hz)
  | _, _, .kb b, _, _ => .kb b
  | _, _, .sc v h1, _, _ => .sc v h1
  | _, _, .ptr id j q hi h, hf, _ => by
    obtain ⟨e1, e3⟩ := hf id (by simp [TV.has])
    exact .ptr _ j q e3 (e1.trans h)
  | _, _, .adr id i j q hi h h0 h1, hf, hw => by
    obtain ⟨e1, e3⟩ := hf id (by simp [TV.has])
    exact .adr _ i j q e3 (e1.trans h) h0 (by rw [hw id (by simp [TV.hasW])]; exact h1)
  | _, _, .aa id i q hi h h0 h1, hf, hw => by
    obtain ⟨e1, e3⟩ := hf id (by simp [TV.has])
    exact .aa _ i q e3 (e1.trans h) h0 (by rw [hw id (by simp [TV.hasW])]; exact h1)
  | _, _, .fq t x o a hd h, _, _ => .fq t x o a hd (h.mono hz)
  | _, _, .mw0 id hi h, hf, _ => by
    obtain ⟨e1, e3⟩ := hf id (by simp [TV.has])
    exact .mw0 _ e3 (e1.trans h)
  | _, _, .mw id q hi h, hf, hw => by
    obtain ⟨e1, e3⟩ := hf id (by simp [TV.has])
    rw [← hw id (by simp [TV.hasW])]; exact .mw _ q e3 (e1.trans h)
  | _, _, .ms0 id off len hi h ho hl, hf, _ => by
    obtain ⟨e1, e3⟩ := hf id (by simp [TV.has])
    exact .ms0 _ off len e3 (e1.trans h) ho hl
  | _, _, .ms id off len q hi h h0 h1 h2, hf, hw => by
    obtain ⟨e1, e3⟩ := hf id (by simp [TV.has])
    exact .ms _ off len q e3 (e1.trans h) h0 h1 (by rw [hw id (by simp [TV.hasW])]; exact h2)
  | _, _, .mp id q hi h, hf, _ => by
    obtain ⟨e1, e3⟩ := hf id (by simp [TV.has])
    exact .mp _ q e3 (e1.trans h)
  | _, _, .fn g vs as h, hf, hw => .fn g _ as (TVRs.ren hz h (fun i hi => hf i (by simpa [TV.has] using hi)) fun i hi => hw i (by simpa [TV.hasW] using hi))
  | _, _, .cv n x y F a h, _, _ => .cv n x y F a h
  | _, _, .tp vs as h, hf, hw => .tp _ as (TVRs.ren hz h (fun i hi => hf i (by simpa [TV.has] using hi)) fun i hi => hw i (by simpa [TV.hasW] using hi))
  | _, _, .ag vs as h h1, hf, hw => .ag _ as (TVRs.ren hz h (fun i hi => hf i (by simpa [TV.has] using hi)) fun i hi => hw i (by simpa [TV.hasW] using hi)) h1
theorem TVRs.ren {f : Nat → Nat} (hz : ∀ q B, z q = some B → z' q = some B) : ∀ {v : List (TV sem)} {a : List AV}, TVRs P κ ln z N v a → (∀ i, TV.has.hasL i v = true → κ' (f i) = κ i ∧ f i < N') → (∀ i, TV.hasW.hasL i v = true → ln' (f i) = ln i) → TVRs P κ' ln' z' N' (renL f v) a
  | _, _, .nil, _, _ => .nil
  | _, _, .cons v a vs as h hs, hf, hw => .cons _ a _ as (TVR.ren hz h (fun i hi => hf i (by simp [TV.has.hasL, hi])) fun i hi => hw i (by simp [TV.hasW.hasL, hi])) (TVRs.ren hz hs (fun i hi => hf i (by simp [TV.has.hasL, hi])) fun i hi => hw i (by simp [TV.hasW.hasL, hi]))
end
theorem renL_len (f : Nat → Nat) : ∀ vs : List (TV sem), (renL f vs).length = vs.length
  | [] => rfl
  | v :: vs => by simp [renL, renL_len f vs]
theorem BR.ren {f : Nat → Nat} {id : Nat} {B : TB sem} (hb : BR P κ ln z h N id B) (hz : ∀ q B, z q = some B → z' q = some B) (hh : ∀ q AB, κ id = some q → h q = some AB → h' q = some AB) (hi : κ' (f id) = κ id) (hl : B.needL = true → ln' (f id) = ln id) (hf : ∀ i, B.has i = true → κ' (f i) = κ i ∧ f i < N') (hw : ∀ i, B.hasW i = true → ln' (f i) = ln i) : BR P κ' ln' z' h' N' (f id) (renB f B) := by
  cases hb with
  | bx T vs q as hq hq2 hv h1 => exact .bx T _ q as (hi.trans hq) (by rw [renL_len]; exact hh q _ hq hq2) (TVRs.ren hz hv (fun i hii => hf i (by simpa [TB.has] using hii)) fun i hii => hw i (by simpa [TB.hasW] using hii)) h1
  | el T t x q cs hd hq hq2 hv h1 hl' => exact .el T t x q cs hd (hi.trans hq) (hh q _ hq hq2) (hv.mono hz) h1 (fun n u e => by subst e; rw [hl rfl]; exact hl' n u rfl)
  | sl0 T t l hd hq hl' hn => exact .sl0 T t l hd (hi.trans hq) hl' (by rw [hl rfl]; exact hn)
  | sl T t l q es hd hq hq2 hv h1 hn => exact .sl T t l q es hd (hi.trans hq) (hh q _ hq hq2) (hv.mono hz) h1 (by rw [hl rfl]; exact hn)
  | mp k v l q hk hf' ha hq hq2 => exact .mp k v l q hk hf' ha (hi.trans hq) (hh q _ hq hq2)

theorem alk_map_first {α β : Type} (f : Nat → Nat) (g : α → β) : ∀ (l : List (Nat × α)) {id : Nat} {b : β}, alk (l.map fun x => (f x.1, g x.2)) id = some b → ∃ k a, alk l k = some a ∧ f k = id ∧ b = g a
  | [], id, b, h => by cases h
  | (k, a) :: l, id, b, h => by
    simp only [List.map_cons, alk] at h
    split at h
    · rename_i e; cases h; exact ⟨k, a, by simp [alk], e.symm, rfl⟩
    · rename_i e
      obtain ⟨k', a', h1, h2, h3⟩ := alk_map_first f g l h
      refine ⟨k', a', ?_, h2, h3⟩
      simp only [alk]; rw [if_neg]; exact h1
      rintro rfl; exact e h2.symm
end
end Go.Abs

/- Calls of functions that change blocks: what is handed over. -/
set_option linter.unusedSimpArgs false
set_option linter.unusedVariables false
set_option linter.constructorNameAsVariable false
namespace Go.Abs
open Go Go.RowKit

section
variable {P : Program} {κ κ' κ2 : Nat → Option Nat} {ln ln' ln2 : Nat → Nat} {z z' : AH} {c : Cx sem} {s : TS sem} {env : Env} {h h' : AH} {n n' N N' : Nat}

theorem packM_rel (R : Rel P κ ln z c s env h n) {p : Pat} {m : Mt sem} (hp : packM c N p s = some m) (hs : m.sn = []) (hz0 : z = ahN) :
    ∃ κ2 ln2, Rel P κ2 ln2 ahN ⟨[], []⟩ (offD (unpackL (A := sem) p N m.cs)) env h n ∧ (∀ p q, alk m.ids p = some q → κ2 p = κ q ∧ ln2 p = ln q ∧ p < N) ∧
      (∀ id b, alk (unpackL (A := sem) p N m.cs).hp id = some b → ∃ B q B0, b = some B ∧ alk m.ids id = some q ∧ alk s.hp q = some (some B0)) ∧ (∀ x y a, alk m.ids x = some a → alk m.ids y = some a → x = y) ∧ (∀ id, (alk (unpackL (A := sem) p N m.cs).hp id).isSome = (alk p.hp id).isSome) := by
  unfold packM at hp
  obtain ⟨m1, hm1, hp⟩ := Option.bind_eq_some_iff.1 hp
  obtain ⟨m', hm, hp⟩ := Option.bind_eq_some_iff.1 hp
  obtain ⟨hchk, hp⟩ := Option.ite_none_right_eq_some.1 hp
  cases hp
  simp only [Bool.and_eq_true, List.all_eq_true, Bool.or_eq_true, Bool.not_eq_true', decide_eq_true_eq] at hchk
  obtain ⟨⟨hsn, hlt⟩, hid⟩ := hchk
  obtain ⟨new1, a1, a2, a3, a4⟩ := mtE_sound R _ hm1
  obtain ⟨new2, b1, b2, b3, b4⟩ := mtH_sound R _ hm
  simp only [List.nil_append] at a1
  have hcs : m.cs = new1 ++ new2 := by rw [b1, a1]
  have hinj : Inj m := b3 (a3 (fun x y a hx => by simp [alk] at hx))
  let κ2 : Nat → Option Nat := fun id => match alk m.ids id with | some q => κ q | none => none
  let ln2 : Nat → Nat := fun id => match alk m.ids id with | some q => ln q | none => 0
  have hk2 : ∀ {p q : Nat}, alk m.ids p = some q → κ2 p = κ q ∧ ln2 p = ln q := fun {p q} hq => by simp only [κ2, ln2, hq]; exact ⟨trivial, trivial⟩
  have hzz : hz κ h z m.sn = ahN := by rw [hs, hz_nil, hz0]
  have fin : Fin κ ln h z m κ2 ln2 ahN N := ⟨fun p q hq => ⟨(hk2 hq).1, (hk2 hq).2, hlt _ (alk_mem hq)⟩, fun q B hq => by rw [hzz] at hq; exact hq⟩
  obtain ⟨E, e1, e2, e3⟩ := a4 κ2 ln2 _ N (fin.back R.zin b2) new2
  obtain ⟨H, f1, f2, f3⟩ := b4 κ2 ln2 _ N fin []
  rw [List.append_nil] at f1
  have henv : (unpackL (A := sem) p N m.cs).env = E := by simp only [unpackL, hcs, e1]
  have hhp : (unpackL (A := sem) p N m.cs).hp = H := by simp only [unpackL, hcs, e1, f1]
  have ht : ∀ id B, thp (⟨[], []⟩ : Cx sem) (offD (unpackL (A := sem) p N m.cs)) id = some B → alk H id = some (some B) := fun id B hB => by
    unfold thp at hB
    rw [show (offD (unpackL (A := sem) p N m.cs)).hp = H from hhp] at hB
    cases hh : alk H id with
    | some b => rw [hh] at hB; exact congrArg some hB
    | none => rw [hh] at hB; cases hB
  have pat : ∀ {id : Nat} {B : TB sem}, alk H id = some (some B) → ∃ q B0, alk m.ids id = some q ∧ alk s.hp q = some (some B0) ∧ BR P κ2 ln2 ahN h N id B := fun {id B} hB => by
    obtain ⟨B', q, B0, g1, g2, g3, g4⟩ := f2 id _ hB
    cases g1
    exact ⟨q, B0, g2, g3, g4⟩
  refine ⟨κ2, ln2, ⟨fun y => ?_, fun id B hB => ?_, fun id B hB => ?_, fun i j B B' q hi hj ki kj => ?_, fun q B hq => (by cases hq), fun id B q hB hk => rfl, fun id B q hB hk => ?_, R.hn, fun x v hx => rfl, fun id b hb => rfl, fun _ => rfl, fun q k T es hq => (by cases hq)⟩, fun p q hq => ⟨(hk2 hq).1, (hk2 hq).2, hlt _ (alk_mem hq)⟩, fun id b hb => ?_, hinj, fun id => by rw [hhp]; exact f3 id⟩
  · unfold tlk
    rw [show (offD (unpackL (A := sem) p N m.cs)).env = E from henv]
    cases hy : alk E y with
    | some v => exact e2 y v hy
    | none => exact .un _
  · obtain ⟨q, B0, g2, g3, g4⟩ := pat (ht id B hB); exact g4
  · obtain ⟨q, B0, g2, g3, g4⟩ := pat (ht id B hB); exact hlt _ (alk_mem g2)
  · obtain ⟨qi, Bi, g2, g3, g4⟩ := pat (ht i B hi)
    obtain ⟨qj, Bj, k2, k3, k4⟩ := pat (ht j B' hj)
    rw [(hk2 g2).1] at ki
    rw [(hk2 k2).1] at kj
    have := R.inj qi qj _ _ q (own_thp g3) (own_thp k3) ki kj
    subst this
    exact hinj i j qi g2 k2
  · obtain ⟨q', B0, g2, g3, g4⟩ := pat (ht id B hB)
    rw [(hk2 g2).1] at hk
    exact R.bnd q' B0 q (own_thp g3) hk
  · rw [hhp] at hb
    obtain ⟨B', q, B0, g1, g2, g3, g4⟩ := f2 id b hb
    exact ⟨B', q, B0, g1, g2, g3⟩

/-- the slots of a pattern, for numbers alone -/
theorem unE_at : ∀ (l : List (Nat × PV)) (xs : List ((t : Ty) × sem.D t)) (x : Nat) (pv : PV) (v : TV sem), alk l x = some pv → (∀ xs : List ((t : Ty) × sem.D t), (unV (A := sem) pv xs).1 = v) → alk (unE (A := sem) l xs).1 x = some v
  | [], xs, x, pv, v, h, _ => by cases h
  | (k, p) :: l, xs, x, pv, v, h, hv => by
    simp only [unE, alk] at h ⊢
    split at h
    · rename_i e
      cases h
      rw [if_pos e, hv]
    · rename_i e
      rw [if_neg e]
      exact unE_at l _ x pv v h hv
end
end Go.Abs

/- Calls of functions that change blocks: arguments. -/
set_option linter.unusedSimpArgs false
set_option linter.unusedVariables false
set_option linter.constructorNameAsVariable false
namespace Go.Abs
open Go Go.RowKit

def pureA : List (Option Ty) → List AV → List AV
  | some _ :: ks, v :: vs => v :: pureA ks vs
  | none :: ks, _ :: vs => pureA ks vs
  | _, _ => []
def mergeA : List (Option Ty) → List AV → List AV → List AV
  | some _ :: ks, b :: bs, _ :: as => b :: mergeA ks bs as
  | none :: ks, bs, a :: as => a :: mergeA ks bs as
  | _, _, _ => []
section
variable {P : Program} {κ κ' κ2 : Nat → Option Nat} {ln ln' ln2 : Nat → Nat} {z z' : AH} {c : Cx sem} {s : TS sem} {env : Env} {h h' : AH} {n n' N N' : Nat}

theorem pure_tv : ∀ (ks : List (Option Ty)) {args : List (TV sem)} {as : List AV}, TVRs P κ ln z N args as → TVRs P κ ln z N (pureV ks args) (pureA ks as)
  | [], _, _, h => by cases h <;> exact .nil
  | some _ :: ks, _, _, .nil => .nil
  | none :: ks, _, _, .nil => .nil
  | some _ :: ks, _, _, .cons v a vs as h hs => .cons _ _ _ _ h (pure_tv ks hs)
  | none :: ks, _, _, .cons v a vs as h hs => pure_tv ks hs
theorem merge_ok : ∀ (ks : List (Option Ty)) {l : List ((t : Ty) × t.den)} {bs as : List AV}, as.length = ks.length → AL P l bs → l.length = (ks.filterMap id).length → SnapL z (pureA ks as) bs →
    (mergeA ks bs as).length = as.length ∧ PArgs P ks l (mergeA ks bs as) ∧ ∀ (j : Nat) (a a' : AV), as[j]? = some a → (mergeA ks bs as)[j]? = some a' → a' = a ∨ Snap z a a'
  | [], l, bs, as, hl, hA, hc, hs => by
    cases as with
    | cons _ _ => simp at hl
    | nil =>
      cases l with
      | cons _ _ => simp at hc
      | nil => exact ⟨rfl, trivial, fun j a a' h => by simp at h⟩
  | none :: ks, l, bs, as, hl, hA, hc, hs => by
    cases as with
    | nil => simp at hl
    | cons a as =>
      obtain ⟨h1, h2, h3⟩ := merge_ok ks (by simpa using hl) hA (by simpa using hc) hs
      refine ⟨by simp [mergeA, h1], h2, fun j x x' hx hx' => ?_⟩
      cases j with
      | zero => simp [mergeA] at hx hx'; subst hx; subst hx'; exact .inl rfl
      | succ j => exact h3 j x x' (by simpa using hx) (by simpa [mergeA] using hx')
  | some t :: ks, l, bs, as, hl, hA, hc, hs => by
    cases as with
    | nil => simp at hl
    | cons a as =>
      cases hs with
      | cons k1 k2 =>
        rename_i b bs
        cases hA with
        | cons g1 g2 =>
          rename_i p l
          obtain ⟨h1, h2, h3⟩ := merge_ok ks (by simpa using hl) g2 (by simpa using hc) k2
          refine ⟨by simp [mergeA, h1], ⟨g1, h2⟩, fun j x x' hx hx' => ?_⟩
          cases j with
          | zero => simp [mergeA] at hx hx'; subst hx; subst hx'; exact .inr k1
          | succ j => exact h3 j x x' (by simpa using hx) (by simpa [mergeA] using hx')
theorem patE_key : ∀ (ks : List (Option Ty)) (vs : List (TV sem)) (k x : Nat) (v : TV sem), alk (patE ks vs k) x = some v → k ≤ x
  | [], _, k, x, v, h => by simp [patE, alk] at h
  | some _ :: ks, [], k, x, v, h => by simp [patE, alk] at h
  | none :: ks, [], k, x, v, h => by simp [patE, alk] at h
  | some _ :: ks, _ :: vs, k, x, v, h => by have := patE_key ks vs (k + 1) x v h; omega
  | none :: ks, _ :: vs, k, x, v, h => by
    simp only [patE, alk] at h
    split at h
    · omega
    · have := patE_key ks vs (k + 1) x v h; omega
theorem patE_tv : ∀ (ks : List (Option Ty)) {args : List (TV sem)} {as bs : List AV} (k : Nat), TVRs P κ ln z N args as → args.length = ks.length → bs.length = (ks.filterMap id).length → ∀ x, TVR P κ ln z N ((alk (patE ks args k) x).getD .un) (lk (((mergeA ks bs as).zipIdx k).map fun (v, i) => (i, v)) x)
  | [], args, as, bs, k, h, hl, hb, x => by simp only [patE, alk]; exact .un _
  | some t :: ks, _, _, bs, k, .nil, hl, hb, x => by simp at hl
  | none :: ks, _, _, bs, k, .nil, hl, hb, x => by simp at hl
  | none :: ks, _, _, bs, k, .cons v a vs as h hs, hl, hb, x => by
    simp only [patE, mergeA, List.zipIdx_cons, List.map_cons, alk, lk]
    by_cases e : x = k
    · simp only [if_pos e]; exact h
    · simp only [if_neg e]; exact patE_tv ks (k + 1) hs (by simpa using hl) (by simpa using hb) x
  | some t :: ks, _, _, bs, k, .cons v a vs as h hs, hl, hb, x => by
    cases bs with
    | nil => simp at hb
    | cons b bs =>
      simp only [patE, mergeA, List.zipIdx_cons, List.map_cons, lk]
      by_cases e : x = k
      · simp only [if_pos e]
        cases hk : alk (patE ks vs (k + 1)) x with
        | some v => have := patE_key _ _ _ _ _ hk; omega
        | none => exact .un _
      · simp only [if_neg e]; exact patE_tv ks (k + 1) hs (by simpa using hl) (by simpa using hb) x

/-! what is told of all numbers -/
mutual
theorem all_has {f w : Nat → Bool} : ∀ {v : TV sem}, v.all f w = true → ∀ i, v.has i = true → f i = true
  | .ptr j _, h, i, hi | .mp j, h, i, hi => by simp only [TV.all, TV.has, beq_iff_eq] at h hi; rw [← hi]; exact h
  | .adr j _ _, h, i, hi | .aa j _, h, i, hi | .mw j, h, i, hi | .ms j _ _, h, i, hi => by simp only [TV.all, TV.has, beq_iff_eq, Bool.and_eq_true] at h hi; rw [← hi]; exact h.1
  | .fn _ vs, h, i, hi | .tp vs, h, i, hi | .ag vs, h, i, hi => allL_has (vs := vs) (by simpa [TV.all] using h) i (by simpa [TV.has] using hi)
  | .un, h, i, hi => by simp [TV.all] at h
  | .ud, h, i, hi | .c _ _, h, i, hi | .kb _, h, i, hi | .sc _, h, i, hi | .fq _ _ _, h, i, hi | .cv _ _ _ _, h, i, hi => by simp [TV.has] at hi
theorem allL_has {f w : Nat → Bool} : ∀ {vs : List (TV sem)}, TV.all.allL f w vs = true → ∀ i, TV.has.hasL i vs = true → f i = true
  | [], h, i, hi => by simp [TV.has.hasL] at hi
  | v :: vs, h, i, hi => by
    simp only [TV.all.allL, Bool.and_eq_true] at h
    simp only [TV.has.hasL, Bool.or_eq_true] at hi
    rcases hi with hi | hi
    · exact all_has h.1 i hi
    · exact allL_has h.2 i hi
end
mutual
theorem all_hasW {f w : Nat → Bool} : ∀ {v : TV sem}, v.all f w = true → ∀ i, v.hasW i = true → w i = true
  | .adr j _ _, h, i, hi | .aa j _, h, i, hi | .mw j, h, i, hi | .ms j _ _, h, i, hi => by simp only [TV.all, TV.hasW, beq_iff_eq, Bool.and_eq_true] at h hi; rw [← hi]; exact h.2
  | .fn _ vs, h, i, hi | .tp vs, h, i, hi | .ag vs, h, i, hi => allL_hasW (vs := vs) (by simpa [TV.all] using h) i (by simpa [TV.hasW] using hi)
  | .un, h, i, hi => by simp [TV.all] at h
  | .ptr _ _, h, i, hi | .mp _, h, i, hi | .ud, h, i, hi | .c _ _, h, i, hi | .kb _, h, i, hi | .sc _, h, i, hi | .fq _ _ _, h, i, hi | .cv _ _ _ _, h, i, hi => by simp [TV.hasW] at hi
theorem allL_hasW {f w : Nat → Bool} : ∀ {vs : List (TV sem)}, TV.all.allL f w vs = true → ∀ i, TV.hasW.hasL i vs = true → w i = true
  | [], h, i, hi => by simp [TV.hasW.hasL] at hi
  | v :: vs, h, i, hi => by
    simp only [TV.all.allL, Bool.and_eq_true] at h
    simp only [TV.hasW.hasL, Bool.or_eq_true] at hi
    rcases hi with hi | hi
    · exact all_hasW h.1 i hi
    · exact allL_hasW h.2 i hi
end
mutual
theorem on_tv {p : Nat → Bool} {f w : Nat → Bool} (hp : ∀ i q, f i = true → κ i = some q → p q = true) : ∀ {v : TV sem} {a : AV}, TVR P κ ln ahN N v a → v.all f w = true → On p a
  | _, _, .un a, h => by simp [TV.all] at h
  | _, _, .ud, h => .free _ .ud
  | _, _, .c t x a hd hs, h => .free _ hs.freeN
  | _, _, .kb b, h => .free _ (.sc _)
  | _, _, .sc v h1, h => .free _ (.sc _)
  | _, _, .ptr id j q hi hk, h => .own _ _ _ (hp id q (by simpa [TV.all] using h) hk)
  | _, _, .adr id i j q hi hk h0 h1, h => .own _ _ _ (hp id q (by simp [TV.all] at h; exact h.1) hk)
  | _, _, .aa id i q hi hk h0 h1, h => .own _ _ _ (hp id q (by simp [TV.all] at h; exact h.1) hk)
  | _, _, .fq t x o a hd hs, h => .free _ hs.freeN
  | _, _, .mw0 id hi hk, h => .free _ (.sc _)
  | _, _, .mw id q hi hk, h => .ms _ _ _ (hp id q (by simp [TV.all] at h; exact h.1) hk)
  | _, _, .ms0 id off len hi hk ho hl, h => .free _ (.sc _)
  | _, _, .ms id off len q hi hk h0 h1 h2, h => .ms _ _ _ (hp id q (by simp [TV.all] at h; exact h.1) hk)
  | _, _, .mp id q hi hk, h => .mp _ (hp id q (by simpa [TV.all] using h) hk)
  | _, _, .fn g vs as hs, h => .fn g as fun j a hj => on_tvs hp hs (by simpa [TV.all] using h) a (List.mem_of_getElem? hj)
  | _, _, .cv n x y F a hc, h => by
    obtain ⟨g, as, rfl, hf, _⟩ := hc
    exact .free _ ((Free_fn _ _).2 hf)
  | _, _, .tp vs as hs, h => .tp as fun j a hj => on_tvs hp hs (by simpa [TV.all] using h) a (List.mem_of_getElem? hj)
  | _, _, .ag vs as hs h1, h => .ag as fun j a hj => on_tvs hp hs (by simpa [TV.all] using h) a (List.mem_of_getElem? hj)
theorem on_tvs {p : Nat → Bool} {f w : Nat → Bool} (hp : ∀ i q, f i = true → κ i = some q → p q = true) : ∀ {vs : List (TV sem)} {as : List AV}, TVRs P κ ln ahN N vs as → TV.all.allL f w vs = true → ∀ a ∈ as, On p a
  | _, _, .nil, h, a, ha => by cases ha
  | _, _, .cons v a vs as hv hs, h, b, hb => by
    simp only [TV.all.allL, Bool.and_eq_true] at h
    rcases List.mem_cons.1 hb with rfl | hb
    · exact on_tv hp hv h.1
    · exact on_tvs hp hs h.2 b hb
end
theorem on_br {p : Nat → Bool} {f w : Nat → Bool} {id q : Nat} {B : TB sem} {AB : ABlk} (hp : ∀ i q, f i = true → κ i = some q → p q = true) (hb : BR P κ ln ahN h N id B) (ha : B.all f w = true) (hk : κ id = some q) (hq : h q = some AB) : OnB p AB := by
  cases hb with
  | bx T vs q' as hq1 hq2 hv h1 =>
    rw [hk] at hq1; cases hq1; rw [hq] at hq2; cases hq2
    intro e he a hae
    simp at he; subst he
    exact on_tvs hp hv (by simpa [TB.all] using ha) a hae
  | el T t x q' cs hd hq1 hq2 hv h1 hl =>
    rw [hk] at hq1; cases hq1; rw [hq] at hq2; cases hq2
    intro e he a hae
    simp at he; subst he
    obtain ⟨j, hj⟩ := List.mem_iff_getElem?.1 hae
    obtain ⟨c', hc'⟩ := other_of (l := t.enc x) (l' := e) hv.len.symm hj
    exact .free _ (hv.at j a c' hj hc').freeN
  | sl0 T t l hd hq1 hl hn => rw [hk] at hq1; cases hq1
  | sl T t l q' es hd hq1 hq2 hv h1 hn =>
    rw [hk] at hq1; cases hq1; rw [hq] at hq2; cases hq2
    intro e he a hae
    obtain ⟨i, hi⟩ := List.mem_iff_getElem?.1 he
    obtain ⟨e', he'⟩ := other_of (l := l.map t.enc) (l' := es) hv.1.symm hi
    have hs := hv.2 i e e' hi he'
    obtain ⟨j, hj⟩ := List.mem_iff_getElem?.1 hae
    obtain ⟨c', hc'⟩ := other_of (l := e') (l' := e) hs.len.symm hj
    exact .free _ (hs.at j a c' hj hc').freeN
  | mp k v l q' hk1 hf ha' hq1 hq2 =>
    rw [hk] at hq1; cases hq1; rw [hq] at hq2; cases hq2
    intro x hx
    obtain ⟨y, hy, rfl⟩ := List.mem_map.1 hx
    exact .free _ (av_free _ _ (flat_dat hf))
end
end Go.Abs

/- Functions that change own blocks which are given to them: others may be lent to them. -/
set_option linter.unusedSimpArgs false
set_option linter.unusedVariables false
namespace Go.Abs
open Go Go.RowKit

section
variable {P : Program} {f : FuncId} {args : List AV}
/-- the same, where all else is flat -/
inductive OnF (p : Nat → Bool) : AV → Prop
  | flat (a : AV) (h : Flat a) : OnF p a
  | own (id i j : Nat) (h : p id = true) : OnF p (.own id i j)
  | ms (id off len : Nat) (h : p id = true) : OnF p (.ms id off len)
  | mp (id : Nat) (h : p id = true) : OnF p (.mp id)
  | fn (f : FuncId) (cs : List AV) (h : ∀ (j : Nat) (c : AV), cs[j]? = some c → OnF p c) : OnF p (.fn f cs)
  | ag (cs : List AV) (h : ∀ (j : Nat) (c : AV), cs[j]? = some c → OnF p c) : OnF p (.ag cs)
  | tp (cs : List AV) (h : ∀ (j : Nat) (c : AV), cs[j]? = some c → OnF p c) : OnF p (.tp cs)
def OnBF (p : Nat → Bool) : ABlk → Prop
  | .cells _ _ es => ∀ e ∈ es, ∀ a ∈ e, OnF p a
  | .map kvs => ∀ x ∈ kvs, OnF p x.2
theorem VR.onF {w : World} {O1 O2 : Nat → Prop} {μ1 μ2 : Mu} {n1 n2 : Nat} {p : Nat → Bool} {a : AV} (ho : OnF p a) (hp : ∀ id, p id = true → μ2 id = μ1 id ∧ id < n2) : ∀ {v : Value}, VR w O1 μ1 n1 a v → VR w O2 μ2 n2 a v := by
  induction ho with
  | flat a h => intro v hv; exact hv.flat h _ _ _ _
  | own id i j h =>
    intro v hv
    cases hv with
    | own _ _ _ _ h0 h1 hv => exact .own id i j v (hp id h).2 h1 fun b k e => hv b k ((hp id h).1 ▸ e)
  | ms id off len h =>
    intro v hv
    cases hv with
    | ms _ _ _ _ h0 h1 hv => exact .ms id off len v (hp id h).2 h1 fun b k e => hv b k ((hp id h).1 ▸ e)
  | mp id h =>
    intro v hv
    cases hv with
    | mp _ _ h0 h1 hv => exact .mp id v (hp id h).2 h1 fun b k e => hv b k ((hp id h).1 ▸ e)
  | fn f cs h ih =>
    intro v hv
    cases hv with
    | fn _ _ vs us hs hc hr => exact .fn f cs vs us hs hc fun j c hj => ih j c hj (hr j c hj)
  | ag cs h ih =>
    intro v hv
    cases hv with
    | ag _ vs us hs hc h1 hr => exact .ag cs vs us hs hc h1 fun j c hj => ih j c hj (hr j c hj)
  | tp cs h ih =>
    intro v hv
    cases hv with
    | tp _ vs us hs hc hr => exact .tp cs vs us hs hc fun j c hj => ih j c hj (hr j c hj)
theorem BlkAt.onF {w : World} {O1 O2 : Nat → Prop} {μ1 μ2 : Mu} {n1 n2 id : Nat} {p : Nat → Bool} {B : ABlk} (hb : BlkAt w O1 μ1 n1 id B) (ho : OnBF p B) (hm : μ2 id = μ1 id) (hp : ∀ id, p id = true → μ2 id = μ1 id ∧ id < n2) : BlkAt w O2 μ2 n2 id B := by
  cases B with
  | cells k T es =>
    obtain ⟨b, c, h1, h2, h3⟩ := hb
    refine ⟨b, c, hm.trans h1, h2, fun i e hi => ⟨(h3 i e hi).1, fun j a hj => ?_⟩⟩
    obtain ⟨h4, u, h5, h6⟩ := (h3 i e hi).2 j a hj
    exact ⟨h4, u, h5, h6.onF (ho e (List.mem_of_getElem? hi) a (List.mem_of_getElem? hj)) hp⟩
  | map kvs =>
    obtain ⟨b, es, h1, h2, h3, h4⟩ := hb
    refine ⟨b, es, hm.trans h1, h2, h3, fun i x hi => ?_⟩
    obtain ⟨e, g1, g2, g3, g4, g5⟩ := h4 i x hi
    exact ⟨e, g1, g2, g3, g4, g5.onF (ho x (List.mem_of_getElem? hi)) hp⟩
theorem VR.less {w : World} {O O' : Nat → Prop} {μ : Mu} {n : Nat} (ho : ∀ b, O' b → O b) {a : AV} {v : Value} (hv : VR w O μ n a v) : VR w O' μ n a v := by
  have av : ∀ {b : Nat}, Av O' μ b → Av O μ b := fun h => by
    rcases h with h | h
    · exact .inl (ho _ h)
    · exact .inr h
  induction hv with
  | sc v h1 => exact .sc v h1
  | ud => exact .ud
  | un v => exact .un v
  | e0 p => exact .e0 p
  | own id i j v h h1 hv => exact .own id i j v h h1 hv
  | ms id off len v h h1 hv => exact .ms id off len v h h1 hv
  | mp id v h h1 hv => exact .mp id v h h1 hv
  | fp cs b o us hA hc h1 _ ih => exact .fp cs b o us (fun hne hb => hA hne (av hb)) hc h1 ih
  | slnil p => exact .slnil p
  | sl es b o cap k us hcap hmax hA hk hc h1 _ ih => exact .sl es b o cap k us hcap hmax (fun i e hi hne hb => hA i e hi hne (av hb)) hk hc h1 ih
  | fn f cs vs us hs hc _ ih => exact .fn f cs vs us hs hc ih
  | ag cs vs us hs hc h1 _ ih => exact .ag cs vs us hs hc h1 ih
  | tp cs vs us hs hc _ ih => exact .tp cs vs us hs hc ih
theorem HC.frm3 {h hE hL : AH} {n : Nat} {R K : K3} {args' : List AV} (I : List Nat) (hLs : ∀ i B, hL i = some B → h i = some B ∧ I.contains i = false) (hlen : args'.length = args.length) (hs : ∀ (j : Nat) (a a' : AV), args[j]? = some a → args'[j]? = some a' → a' = a ∨ Snap hL a a') (hi : ∀ i B, hE i = some B → I.contains i = true ∧ h i = some B) (hI : ∀ i, I.contains i = true → i < n) (hn : ∀ i, n ≤ i → h i = none)
    (hR : ∀ v h' n', R v h' n' → OnF (liveP h') v ∧ ∀ i B, h' i = some B → OnBF (liveP h') B)
    (hc : HC P f args' hE n R) (hk : ∀ v h' n', R v h' n' → n ≤ n' → (∀ i B, h' i = some B → I.contains i = true ∨ (n ≤ i ∧ i < n')) → K v (fun i => if I.contains i || decide (n ≤ i) then h' i else h i) n') : HC P f args h n K := by
  refine ⟨hc.1, fun O μ w vs hr hsz hva => ?_⟩
  let q0 : Nat → Bool := fun i => I.contains i || (hL i).isSome
  have hO2 : ∀ b, Av O (muP (fun i => !q0 i) μ) b → Av O (muO I μ) b := fun b hb => by
    rcases hb with hb | ⟨id, k, hb⟩
    · exact .inl hb
    · obtain ⟨h1, h2⟩ := muP_some hb
      simp only [q0, Bool.not_eq_true', Bool.or_eq_false_iff] at h1
      exact .inr ⟨id, k, by unfold muO; rw [if_neg (by rw [h1.1]; decide)]; exact h2⟩
  have hO3 : ∀ b, Av O (muP (fun i => !q0 i) μ) b → Av O (muP (fun i => !(hL i).isSome) μ) b := fun b hb => by
    rcases hb with hb | ⟨id, k, hb⟩
    · exact .inl hb
    · obtain ⟨h1, h2⟩ := muP_some hb
      simp only [q0, Bool.not_eq_true', Bool.or_eq_false_iff] at h1
      exact .inr ⟨id, k, by unfold muP; rw [if_pos (by show (!(hL id).isSome) = true; rw [h1.2]; rfl)]; exact h2⟩
  have sp : ∀ {a : AV} {v : Value}, VR w O μ n a v → VR w (Av O (muP (fun i => !q0 i) μ)) (muI I μ) n a v := fun hv => (hv.split I).less hO2
  have hrI : HR w (Av O (muP (fun i => !q0 i) μ)) (muI I μ) hE n := by
    refine ⟨fun b hb => ?_, fun id b k e => hr.scope id b k (muI_some e).2, fun id id' b k k' e e' => hr.inj id id' b k k' (muI_some e).2 (muI_some e').2, fun id b k e hO => ?_, fun id B hB => ?_⟩
    · rcases hb with hb | ⟨id, k, hb⟩
      · exact hr.olt b hb
      · exact (hr.scope id b k (muP_some hb).2).2
    · replace hO := hO2 b hO
      obtain ⟨e1, e2⟩ := muI_some e
      rcases hO with hO | ⟨id', k', hO⟩
      · exact hr.notO id b k e2 hO
      · obtain ⟨e3, e4⟩ := muO_some hO
        rw [hr.inj _ _ _ _ _ e2 e4] at e1
        rw [e1] at e3; cases e3
    · obtain ⟨h1, h2⟩ := hi id B hB
      exact (hr.blk id B h2).mapV (by simp only [muI]; rw [if_pos h1]) sp
  refine (hc.2 (Av O (muP (fun i => !q0 i) μ)) (muI I μ) w vs hrI (hsz.trans hlen.symm) (fun j c hj => ?_)).mono ?_
  · obtain ⟨a, ha⟩ := other_of hlen hj
    obtain ⟨u, h1, h2⟩ := hva j a ha
    refine ⟨u, h1, ?_⟩
    rcases hs j a c ha hj with rfl | hsn
    · exact sp h2
    · have hz : ∀ q B, hL q = some B → h q = some B ∧ (fun i => !(hL i).isSome) q = false := fun q B hq => ⟨(hLs q B hq).1, by simp [hq]⟩
      have hp := hsn.vr (hr.part (p := fun i => !(hL i).isSome) hz) (h2.splitP (fun i => !(hL i).isSome))
      exact hp.lift fun b hb => by
        rcases hb with hb | ⟨id, k, hb⟩
        · exact hO3 b hb
        · obtain ⟨e1, e2⟩ := muI_some hb
          have e3 : (!(hL id).isSome) = true := by
            cases hq : hL id with
            | none => rfl
            | some B => have := (hLs id B hq).2; rw [e1] at this; cases this
          exact .inr ⟨id, k, by unfold muP; rw [if_pos (by exact e3)]; exact e2⟩
  rintro e w' ⟨u, v, h', n', μ', rfl, q1, q2, q3, q4⟩
  have hnn := q4.le
  let p : Nat → Bool := fun i => I.contains i || decide (n ≤ i)
  have hp0 : ∀ {i}, p i = false → I.contains i = false ∧ i < n := fun {i} hp => by simpa [p] using hp
  have hm : ∀ id, p id = true → (fun i => if p i then μ' i else μ i) id = μ' id := fun id h => by simp only [h, if_true]
  have hm0 : ∀ id, p id = false → (fun i => if p i then μ' i else μ i) id = μ id := fun id h => by simp only [h, Bool.false_eq_true, if_false]
  -- what the function has, is given or new
  have hsome : ∀ id b k, μ' id = some (b, k) → p id = true := fun id b k e => by
    rcases Bool.eq_false_or_eq_true (p id) with hp | hp
    · exact hp
    · obtain ⟨e1, e2⟩ := hp0 hp
      rcases q4.ids id e2 with e3 | e3
      · rw [e3] at e; rw [(muI_some e).1] at e1; cases e1
      · rw [e3] at e; cases e
  have hlive : ∀ i B, h' i = some B → p i = true ∧ i < n' := fun i B hB => by
    have := q2.blk i B hB
    cases B with
    | cells k T es => obtain ⟨b, c, h1, _⟩ := this; exact ⟨hsome i b k h1, (q2.scope i b k h1).1⟩
    | map kvs => obtain ⟨b, es, h1, _⟩ := this; exact ⟨hsome i b 0 h1, (q2.scope i b 0 h1).1⟩
  have hliveP : ∀ i, liveP h' i = true → p i = true ∧ i < n' := fun i hi => by
    obtain ⟨B, hB⟩ := Option.isSome_iff_exists.1 hi
    exact hlive i B hB
  replace hk := hk v h' n' q1 hnn fun i B hB => by
    obtain ⟨h1, h2⟩ := hlive i B hB
    simp only [p, Bool.or_eq_true, decide_eq_true_eq] at h1
    rcases h1 with h1 | h1
    · exact .inl h1
    · exact .inr ⟨h1, h2⟩
  obtain ⟨hv, hb⟩ := hR v h' n' q1
  -- its blocks are handed over or new
  have hdis : ∀ id b k id2 k2, μ' id = some (b, k) → μ id2 = some (b, k2) → p id2 = false → False := fun id b k id2 k2 e e2 hp => by
    have hlt := hr.scope id2 b k2 e2
    by_cases hid : id < n
    · rcases q4.ids id hid with e3 | e3
      · rw [e3] at e
        obtain ⟨e4, e5⟩ := muI_some e
        rw [hr.inj id id2 b k k2 e5 e2] at e4
        rw [(hp0 hp).1] at e4; cases e4
      · rw [e3] at e; cases e
    · rcases q4.new id b k e (Nat.le_of_not_lt hid) with h1 | ⟨id0, k0, h1⟩
      · omega
      · obtain ⟨e4, e5⟩ := muI_some h1
        rw [hr.inj id0 id2 b k0 k2 e5 e2] at e4
        rw [(hp0 hp).1] at e4; cases e4
  have hE2 : Evo w μ n w' (fun i => if p i then μ' i else μ i) n' := by
    refine ⟨q4.os, q4.tape, q4.output, q4.size, hnn, fun b hb hn => q4.keep b hb fun id k e => hn id k (muI_some e).2, q4.row, fun id hid => ?_, fun id b k e hn => ?_⟩
    · rcases Bool.eq_false_or_eq_true (p id) with hI' | hI'
      · have e0 := hm id hI'
        simp only at e0
        rw [e0]
        have hIc : I.contains id = true := by
          simp only [p, Bool.or_eq_true, decide_eq_true_eq] at hI'
          rcases hI' with hI' | hI'
          · exact hI'
          · omega
        rcases q4.ids id hid with e1 | e1
        · rw [e1]; left; unfold muI; rw [if_pos hIc]
        · exact .inr e1
      · exact .inl (hm0 id hI')
    · rcases Bool.eq_false_or_eq_true (p id) with hI' | hI'
      · rcases q4.new id b k ((hm id hI') ▸ e) hn with h1 | ⟨id0, k0, h1⟩
        · exact .inl h1
        · exact .inr ⟨id0, k0, (muI_some h1).2⟩
      · exact absurd (hr.scope id b k ((hm0 id hI') ▸ e)).1 (by omega)
  have hH2 : HR w' O (fun i => if p i then μ' i else μ i) (fun i => if p i then h' i else h i) n' := by
    refine ⟨fun b hb => Nat.lt_of_lt_of_le (hr.olt b hb) q4.size, fun id b k e => ?_, fun id id' b k k' e e' => ?_, fun id b k e => ?_, fun id B hB => ?_⟩
    · rcases Bool.eq_false_or_eq_true (p id) with hI' | hI'
      · exact q2.scope id b k ((hm id hI') ▸ e)
      · have := hr.scope id b k ((hm0 id hI') ▸ e)
        exact ⟨Nat.lt_of_lt_of_le this.1 hnn, Nat.lt_of_lt_of_le this.2 q4.size⟩
    · rcases Bool.eq_false_or_eq_true (p id) with hI1 | hI1
      · have e1 : μ' id = some (b, k) := (hm id hI1) ▸ e
        rcases Bool.eq_false_or_eq_true (p id') with hI2 | hI2
        · exact q2.inj id id' b k k' e1 ((hm id' hI2) ▸ e')
        · exact (hdis id b k id' k' e1 ((hm0 id' hI2) ▸ e') hI2).elim
      · have e1 : μ id = some (b, k) := (hm0 id hI1) ▸ e
        rcases Bool.eq_false_or_eq_true (p id') with hI2 | hI2
        · exact (hdis id' b k' id k ((hm id' hI2) ▸ e') e1 hI1).elim
        · exact hr.inj id id' b k k' e1 ((hm0 id' hI2) ▸ e')
    · rcases Bool.eq_false_or_eq_true (p id) with hI' | hI'
      · exact fun hO => q2.notO id b k ((hm id hI') ▸ e) (.inl hO)
      · exact hr.notO id b k ((hm0 id hI') ▸ e)
    · rcases Bool.eq_false_or_eq_true (p id) with hI' | hI'
      · simp only [hI', if_true] at hB
        exact (q2.blk id B hB).onF (hb id B hB) (hm id hI') (fun i h => ⟨hm i (hliveP i h).1, (hliveP i h).2⟩)
      · simp only [hI', Bool.false_eq_true, if_false] at hB
        refine (hr.blk id B hB).evo (hm0 id hI') (fun b k e => q4.keep b (hr.scope id b k e).2 fun id' k' e' => ?_) hE2
        obtain ⟨e1, e2⟩ := muI_some e'
        rw [hr.inj _ _ _ _ _ e e2] at hI'
        rw [(hp0 hI').1] at e1; cases e1
  exact ⟨u, _, _, _, _, rfl, hk, hH2, q3.onF hv (fun i h => ⟨hm i (hliveP i h).1, (hliveP i h).2⟩), hE2⟩
end
end Go.Abs

/- Calls of functions that change blocks: the call. -/
set_option linter.unusedSimpArgs false
set_option linter.unusedVariables false
set_option linter.constructorNameAsVariable false
namespace Go.Abs
open Go Go.RowKit

section
variable {P : Program} {κ κ' κ2 : Nat → Option Nat} {ln ln' ln2 : Nat → Nat} {z z' : AH} {c : Cx sem} {s : TS sem} {env : Env} {h h' : AH} {n n' N N' : Nat}

theorem Rel.cut {t : TS sem} {h2 : AH} (R : Rel P κ ln ahN ⟨[], []⟩ t env h n) (hh : ∀ id B q, thp (⟨[], []⟩ : Cx sem) t id = some B → κ id = some q → h2 q = h q) (hn : ∀ q, n ≤ q → h2 q = none) : Rel P κ ln ahN ⟨[], []⟩ t env h2 n :=
  ⟨R.env, fun id B hB => (R.blk id B hB).mono (fun _ _ => rfl) (fun _ _ => rfl) (fun _ _ h => h) (Nat.le_refl _) (R.lt id B hB) (fun q B' hq hB' => by rw [hh id B q hB hq]; exact hB'), R.lt, R.inj, fun q B hq => (by cases hq), R.zout, R.bnd, hn, R.e0, R.g, R.dy, fun q k T es hq => (by cases hq)⟩

theorem okU_blk {C : CtrM} {u : TS sem} (hu : C.okU u = true) {id : Nat} {b : Option (TB sem)} (hb : alk u.hp id = some b) : ∃ B, b = some B ∧ id < C.n1 ∧ B.all (fun i => (alk u.hp i).isSome) C.keptW = true ∧ C.kept id = true ∧ (B.needL = true → C.keptW id = true) := by
  unfold CtrM.okU at hu
  simp only [Bool.and_eq_true] at hu
  have := List.all_eq_true.1 hu.1 _ (alk_mem hb)
  cases b with
  | none => simp at this
  | some B =>
    simp only [Bool.and_eq_true, Bool.or_eq_true, Bool.not_eq_true', decide_eq_true_eq] at this
    obtain ⟨⟨⟨h1, h2⟩, h3⟩, h4⟩ := this
    refine ⟨B, rfl, h1, h2, h3, fun hn => ?_⟩
    rcases h4 with h4 | h4
    · rw [hn] at h4; cases h4
    · exact h4
theorem okU_res {C : CtrM} {u : TS sem} (hu : C.okU u = true) {i : Nat} (hi : i < C.nr) : ∃ v, alk u.env (1000000 + i) = some v ∧ v.all (fun i => (alk u.hp i).isSome) C.keptW = true := by
  unfold CtrM.okU at hu
  simp only [Bool.and_eq_true] at hu
  have := List.all_eq_true.1 hu.2 i (List.mem_range.2 hi)
  split at this
  · rename_i v hv; exact ⟨v, hv, this⟩
  · cases this

theorem own_tlk {t : TS sem} {x : Nat} {v : TV sem} (hx : alk t.env x = some v) : tlk c t x = v := by unfold tlk; rw [hx]
theorem lk_res : ∀ (vs : List AV) (k i : Nat) (E : Env), k ≤ i → lk ((vs.zipIdx k).map (fun x => (1000000 + x.2, x.1)) ++ E) (1000000 + i) = (vs[i - k]?).getD (lk E (1000000 + i))
  | [], k, i, E, h => by simp
  | v :: vs, k, i, E, h => by
    simp only [List.zipIdx_cons, List.map_cons, List.cons_append, lk]
    by_cases e : i = k
    · subst e; simp
    · rw [if_neg (by omega), lk_res vs (k + 1) i E (by omega), show i - k = (i - (k + 1)) + 1 by omega, List.getElem?_cons_succ]
/-- what is answered lives in what is left -/
theorem after_on {C : CtrM} {y : C.out.ty.den} {args : List AV} (hu : C.okU (unpack (A := sem) C.out C.n1 y) = true) {v : AV} (ha : AfterM P C y args v h' n') : On (liveP h') v ∧ ∀ i B, h' i = some B → OnB (liveP h') B := by
  obtain ⟨κ3, ln3, vs, hvl, rfl, R, hmin⟩ := ha
  have hp : ∀ i q, (alk (unpack (A := sem) C.out C.n1 y).hp i).isSome = true → κ3 i = some q → liveP h' q = true := fun i q hi hk => by
    obtain ⟨b, hb⟩ := Option.isSome_iff_exists.1 hi
    obtain ⟨B, rfl, _⟩ := okU_blk hu hb
    have hB := R.blk i B (own_thp (s := offD (unpack (A := sem) C.out C.n1 y)) hb)
    have : ∃ AB, h' q = some AB := by cases hB <;> simp_all
    obtain ⟨AB, h1⟩ := this
    unfold liveP; rw [h1]; rfl
  have each : ∀ i a, vs[i]? = some a → On (liveP h') a := fun i a hi => by
    have hlt : i < C.nr := by rw [← hvl]; exact (List.getElem?_eq_some_iff.1 hi).1
    obtain ⟨v, h1, h2⟩ := okU_res hu hlt
    have hv := R.env (1000000 + i)
    have e1 : tlk (⟨[], []⟩ : Cx sem) (offD (unpack (A := sem) C.out C.n1 y)) (1000000 + i) = v := own_tlk (t := offD (unpack (A := sem) C.out C.n1 y)) h1
    rw [e1] at hv
    have e2 : lk (resE vs ++ enterEnv args) (1000000 + i) = a := by
      have := lk_res vs 0 i (enterEnv args) (Nat.zero_le _)
      rw [Nat.sub_zero, hi] at this
      exact this
    rw [e2] at hv
    exact on_tv hp hv h2
  refine ⟨?_, fun i B hB => ?_⟩
  · unfold tpA
    split
    · exact each 0 _ rfl
    · exact .tp _ fun j a hj => each j a hj
  · obtain ⟨id, b, h1, h2⟩ := hmin i B hB
    obtain ⟨B', e, _, h4, _⟩ := okU_blk hu h1
    cases e
    have hb := R.blk id b (own_thp (s := offD (unpack (A := sem) C.out C.n1 y)) h1)
    exact on_br hp hb h4 h2 hB
end
end Go.Abs

/- Calls of functions that change blocks: results that are flat but for own blocks. -/
set_option linter.unusedSimpArgs false
set_option linter.unusedVariables false
set_option linter.constructorNameAsVariable false
namespace Go.Abs
open Go Go.RowKit

section
variable {P : Program} {κ κ' κ2 : Nat → Option Nat} {ln ln' ln2 : Nat → Nat} {z z' : AH} {c : Cx sem} {s : TS sem} {env : Env} {h h' : AH} {n n' N N' : Nat}
theorem flat_enc : ∀ (t : Ty) (x : t.den), t.flat = true → FlatL (t.enc x)
  | .i _, x, _ | .b, x, _ | .s, x, _ => by intro a ha; simp [Ty.enc] at ha; subst ha; exact .sc _
  | .un, x, _ => by intro a ha; simp [Ty.enc] at ha
  | .w t, x, hf => flat_enc t x hf
  | .pr t u, x, hf => by
    simp only [Ty.flat, Bool.and_eq_true] at hf
    intro a ha
    replace ha : a ∈ t.enc x.1 ++ u.enc x.2 := ha
    rcases List.mem_append.1 ha with ha | ha
    · exact flat_enc t x.1 hf.1 a ha
    · exact flat_enc u x.2 hf.2 a ha
theorem flat_av (t : Ty) (x : t.den) (hf : t.flat = true) : Flat (t.av x) := by
  have h1 := flat_enc t x hf
  cases ha : t.agg with
  | true => rw [av_agg ha]; exact (Flat_ag _).2 h1
  | false => rw [av_one ha (flat_dat hf)] at h1; exact h1 _ (by simp)
theorem Snap.flat {a a' : AV} (hs : Snap z a a') : Flat a' → Flat a := by
  induction hs with
  | free a hf => exact id
  | nilS => intro h; cases h
  | own => intro h; cases h
  | ms => intro h; cases h
  | fp => intro h; cases h
  | sl => intro h; cases h
  | fn => intro h; cases h
  | ag cs cs' hl hr ih =>
    intro h
    cases h with
    | ag _ h =>
      refine .ag cs fun j c hj => ?_
      obtain ⟨c', hc'⟩ := other_of (l := cs') (l' := cs) hl.symm hj
      exact ih j c c' hj hc' (h j c' hc')
  | tp cs cs' hl hr ih =>
    intro h
    cases h with
    | tp _ h =>
      refine .tp cs fun j c hj => ?_
      obtain ⟨c', hc'⟩ := other_of (l := cs') (l' := cs) hl.symm hj
      exact ih j c c' hj hc' (h j c' hc')
mutual
theorem on_tvF {p : Nat → Bool} {f w : Nat → Bool} (hp : ∀ i q, f i = true → κ i = some q → p q = true) : ∀ {v : TV sem} {a : AV}, TVR P κ ln ahN N v a → v.all f w = true → v.flt = true → OnF p a
  | _, _, .un a, h, hf => by simp [TV.all] at h
  | _, _, .ud, h, hf => by simp [TV.flt] at hf
  | _, _, .c t x a hd hs, h, hf => .flat _ (hs.flat (flat_av t x (by simpa [TV.flt] using hf)))
  | _, _, .kb b, h, hf => .flat _ (.sc _)
  | _, _, .sc v h1, h, hf => .flat _ (.sc _)
  | _, _, .ptr id j q hi hk, h, hf => .own _ _ _ (hp id q (by simpa [TV.all] using h) hk)
  | _, _, .adr id i j q hi hk h0 h1, h, hf => .own _ _ _ (hp id q (by simp [TV.all] at h; exact h.1) hk)
  | _, _, .aa id i q hi hk h0 h1, h, hf => .own _ _ _ (hp id q (by simp [TV.all] at h; exact h.1) hk)
  | _, _, .fq t x o a hd hs, h, hf => by simp [TV.flt] at hf
  | _, _, .mw0 id hi hk, h, hf => .flat _ (.sc _)
  | _, _, .mw id q hi hk, h, hf => .ms _ _ _ (hp id q (by simp [TV.all] at h; exact h.1) hk)
  | _, _, .ms0 id off len hi hk ho hl, h, hf => .flat _ (.sc _)
  | _, _, .ms id off len q hi hk h0 h1 h2, h, hf => .ms _ _ _ (hp id q (by simp [TV.all] at h; exact h.1) hk)
  | _, _, .mp id q hi hk, h, hf => .mp _ (hp id q (by simpa [TV.all] using h) hk)
  | _, _, .fn g vs as hs, h, hf => .fn g as fun j a hj => on_tvsF hp hs (by simpa [TV.all] using h) (by simpa [TV.flt] using hf) a (List.mem_of_getElem? hj)
  | _, _, .cv n x y F a hc, h, hf => by simp [TV.flt] at hf
  | _, _, .tp vs as hs, h, hf => .tp as fun j a hj => on_tvsF hp hs (by simpa [TV.all] using h) (by simpa [TV.flt] using hf) a (List.mem_of_getElem? hj)
  | _, _, .ag vs as hs h1, h, hf => .ag as fun j a hj => on_tvsF hp hs (by simpa [TV.all] using h) (by simpa [TV.flt] using hf) a (List.mem_of_getElem? hj)
theorem on_tvsF {p : Nat → Bool} {f w : Nat → Bool} (hp : ∀ i q, f i = true → κ i = some q → p q = true) : ∀ {vs : List (TV sem)} {as : List AV}, TVRs P κ ln ahN N vs as → TV.all.allL f w vs = true → TV.flt.fltL vs = true → ∀ a ∈ as, OnF p a
  | _, _, .nil, h, hf, a, ha => by cases ha
  | _, _, .cons v a vs as hv hs, h, hf, b, hb => by
    simp only [TV.all.allL, Bool.and_eq_true] at h
    simp only [TV.flt.fltL, Bool.and_eq_true] at hf
    rcases List.mem_cons.1 hb with rfl | hb
    · exact on_tvF hp hv h.1 hf.1
    · exact on_tvsF hp hs h.2 hf.2 b hb
end
theorem on_brF {p : Nat → Bool} {f w : Nat → Bool} {id q : Nat} {B : TB sem} {AB : ABlk} (hp : ∀ i q, f i = true → κ i = some q → p q = true) (hb : BR P κ ln ahN h N id B) (ha : B.all f w = true) (hfl : B.flt = true) (hk : κ id = some q) (hq : h q = some AB) : OnBF p AB := by
  cases hb with
  | bx T vs q' as hq1 hq2 hv h1 =>
    rw [hk] at hq1; cases hq1; rw [hq] at hq2; cases hq2
    intro e he a hae
    simp at he; subst he
    exact on_tvsF hp hv (by simpa [TB.all] using ha) (by simpa [TB.flt] using hfl) a hae
  | el T t x q' cs hd hq1 hq2 hv h1 hl =>
    rw [hk] at hq1; cases hq1; rw [hq] at hq2; cases hq2
    intro e he a hae
    simp at he; subst he
    obtain ⟨j, hj⟩ := List.mem_iff_getElem?.1 hae
    obtain ⟨c', hc'⟩ := other_of (l := t.enc x) (l' := e) hv.len.symm hj
    exact .flat _ ((hv.at j a c' hj hc').flat (flat_enc t x (by simpa [TB.flt] using hfl) c' (List.mem_of_getElem? hc')))
  | sl0 T t l hd hq1 hl hn => rw [hk] at hq1; cases hq1
  | sl T t l q' es hd hq1 hq2 hv h1 hn =>
    rw [hk] at hq1; cases hq1; rw [hq] at hq2; cases hq2
    intro e he a hae
    obtain ⟨i, hi⟩ := List.mem_iff_getElem?.1 he
    obtain ⟨e', he'⟩ := other_of (l := l.map t.enc) (l' := es) hv.1.symm hi
    have hs := hv.2 i e e' hi he'
    obtain ⟨j, hj⟩ := List.mem_iff_getElem?.1 hae
    obtain ⟨c', hc'⟩ := other_of (l := e') (l' := e) hs.len.symm hj
    obtain ⟨y, hy, rfl⟩ := List.mem_map.1 (List.mem_of_getElem? he')
    exact .flat _ ((hs.at j a c' hj hc').flat (flat_enc t y (by simpa [TB.flt] using hfl) c' (List.mem_of_getElem? hc')))
  | mp k v l q' hk1 hf ha' hq1 hq2 =>
    rw [hk] at hq1; cases hq1; rw [hq] at hq2; cases hq2
    intro x hx
    obtain ⟨y, hy, rfl⟩ := List.mem_map.1 hx
    exact .flat _ (flat_av _ _ hf)

theorem okF_blk {C : CtrM} {u : TS sem} (hu : C.okF u = true) {id : Nat} {B : TB sem} (hb : alk u.hp id = some (some B)) : B.flt = true := by
  unfold CtrM.okF at hu
  simp only [Bool.and_eq_true] at hu
  exact List.all_eq_true.1 hu.1 _ (alk_mem hb)
theorem okF_res {C : CtrM} {u : TS sem} (hu : C.okF u = true) {i : Nat} (hi : i < C.nr) {v : TV sem} (hv : alk u.env (1000000 + i) = some v) : v.flt = true := by
  unfold CtrM.okF at hu
  simp only [Bool.and_eq_true] at hu
  have := List.all_eq_true.1 hu.2 i (List.mem_range.2 hi)
  rw [hv] at this; exact this
theorem after_onF {C : CtrM} {y : C.out.ty.den} {args : List AV} (hu : C.okU (unpack (A := sem) C.out C.n1 y) = true) (hfl : C.okF (unpack (A := sem) C.out C.n1 y) = true) {v : AV} (ha : AfterM P C y args v h' n') : OnF (liveP h') v ∧ ∀ i B, h' i = some B → OnBF (liveP h') B := by
  obtain ⟨κ3, ln3, vs, hvl, rfl, R, hmin⟩ := ha
  have hp : ∀ i q, (alk (unpack (A := sem) C.out C.n1 y).hp i).isSome = true → κ3 i = some q → liveP h' q = true := fun i q hi hk => by
    obtain ⟨b, hb⟩ := Option.isSome_iff_exists.1 hi
    obtain ⟨B, rfl, _⟩ := okU_blk hu hb
    have hB := R.blk i B (own_thp (s := offD (unpack (A := sem) C.out C.n1 y)) hb)
    have : ∃ AB, h' q = some AB := by cases hB <;> simp_all
    obtain ⟨AB, h1⟩ := this
    unfold liveP; rw [h1]; rfl
  have each : ∀ i a, vs[i]? = some a → OnF (liveP h') a := fun i a hi => by
    have hlt : i < C.nr := by rw [← hvl]; exact (List.getElem?_eq_some_iff.1 hi).1
    obtain ⟨v, h1, h2⟩ := okU_res hu hlt
    have hv := R.env (1000000 + i)
    have e1 : tlk (⟨[], []⟩ : Cx sem) (offD (unpack (A := sem) C.out C.n1 y)) (1000000 + i) = v := own_tlk (t := offD (unpack (A := sem) C.out C.n1 y)) h1
    rw [e1] at hv
    have e2 : lk (resE vs ++ enterEnv args) (1000000 + i) = a := by
      have := lk_res vs 0 i (enterEnv args) (Nat.zero_le _)
      rw [Nat.sub_zero, hi] at this
      exact this
    rw [e2] at hv
    exact on_tvF hp hv h2 (okF_res hfl hlt h1)
  refine ⟨?_, fun i B hB => ?_⟩
  · unfold tpA
    split
    · exact each 0 _ rfl
    · exact .tp _ fun j a hj => each j a hj
  · obtain ⟨id, b, h1, h2⟩ := hmin i B hB
    obtain ⟨B', e, _, h4, _⟩ := okU_blk hu h1
    cases e
    have hb := R.blk id b (own_thp (s := offD (unpack (A := sem) C.out C.n1 y)) h1)
    exact on_brF hp hb h4 (okF_blk hfl h1) h2 hB

/-- with others lent, or none -/
theorem HC.frm4 {f : FuncId} {args args' : List AV} {h hE hL : AH} {n : Nat} {R K : K3} (I : List Nat) (hLs : ∀ i B, hL i = some B → h i = some B ∧ I.contains i = false) (hlen : args'.length = args.length) (hs : ∀ (j : Nat) (a a' : AV), args[j]? = some a → args'[j]? = some a' → a' = a ∨ Snap hL a a') (hi : ∀ i B, hE i = some B → I.contains i = true ∧ h i = some B) (hI : ∀ i, I.contains i = true → i < n) (hn : ∀ i, n ≤ i → h i = none)
    (hR : ∀ v h' n', R v h' n' → On (liveP h') v ∧ ∀ i B, h' i = some B → OnB (liveP h') B) (hF : hL = ahN ∨ ∀ v h' n', R v h' n' → OnF (liveP h') v ∧ ∀ i B, h' i = some B → OnBF (liveP h') B)
    (hc : HC P f args' hE n R) (hk : ∀ v h' n', R v h' n' → n ≤ n' → (∀ i B, h' i = some B → I.contains i = true ∨ (n ≤ i ∧ i < n')) → K v (fun i => if I.contains i || decide (n ≤ i) then h' i else h i) n') : HC P f args h n K := by
  rcases hF with rfl | hF
  · exact (HC.frm2 I hi hI hn hR hc hk).up hlen hs
  · exact HC.frm3 I hLs hlen hs hi hI hn hF hc hk
end
end Go.Abs

/- Calls of functions that change blocks: the state behind the call. -/
set_option linter.unusedSimpArgs false
set_option linter.unusedVariables false
set_option linter.constructorNameAsVariable false
namespace Go.Abs
open Go Go.RowKit

section
variable {P : Program} {κ κ' κ2 κ3 : Nat → Option Nat} {ln ln' ln2 ln3 : Nat → Nat} {z z' : AH} {c : Cx sem} {s : TS sem} {env env3 : Env} {h h' h2 : AH} {n n' n2 N N' : Nat}

theorem alk_none {α : Type} : ∀ (l : List (Nat × Nat)) (q : Nat), alk (l.map fun x => (x.2, (none : Option α))) q = if l.any (fun x => x.2 == q) then some none else none
  | [], q => rfl
  | x :: l, q => by
    simp only [List.map_cons, alk]
    by_cases e : q = x.2
    · subst e; simp
    · have h2 : (x.2 == q) = false := by simp; exact fun h => e h.symm
      have h1 : (x :: l).any (fun x => x.2 == q) = l.any (fun x => x.2 == q) := by rw [List.any_cons, h2, Bool.false_or]
      rw [if_neg e, alk_none l q, h1]
theorem TVR.ptr_inv {id j : Nat} {a : AV} (h : TVR P κ ln z N (.ptr id j) a) : ∃ q, κ id = some q ∧ a = .own q 0 j := by cases h; exact ⟨_, by assumption, rfl⟩
theorem TVR.mp_inv {id : Nat} {a : AV} (h : TVR P κ ln z N (.mp id) a) : ∃ q, κ id = some q ∧ a = .mp q := by cases h; exact ⟨_, by assumption, rfl⟩
theorem TVR.mw_same {id id' : Nat} {a : AV} (h : TVR P κ ln z N (.mw id) a) (h' : TVR P κ' ln' z' N' (.mw id') a) : κ id = κ' id' ∧ (κ id ≠ none → ln id = ln' id') := by
  cases h with
  | mw0 _ hi hk =>
    generalize hn : nilS = a at h'
    cases h' with
    | mw0 _ hi' hk' => exact ⟨hk.trans hk'.symm, fun e => absurd hk e⟩
    | mw _ q hi' hk' => cases hn
  | mw _ q hi hk =>
    generalize hn : AV.ms q 0 (ln id) = a at h'
    cases h' with
    | mw0 _ hi' hk' => cases hn
    | mw _ q' hi' hk' => injection hn with e1 _ e2; subst e1; exact ⟨hk.trans hk'.symm, fun _ => e2⟩

/-- numbers before and after -/
theorem kept_spec {C : CtrM} {as : List AV} {u t : TS sem} (R2 : Rel P κ2 ln2 ahN ⟨[], []⟩ t (enterEnv as) h n) (R3 : Rel P κ3 ln3 ahN ⟨[], []⟩ u env3 h2 n2) (henv : ∀ i, i < C.ks.length → lk env3 i = lk (enterEnv as) i)
    (hin : ∀ i pv, alk C.inp.env i = some pv → ∀ v, (∀ xs : List ((t : Ty) × sem.D t), (unV (A := sem) pv xs).1 = v) → tlk (⟨[], []⟩ : Cx sem) t i = v) (hout : ∀ i pv, alk C.out.env i = some pv → ∀ v, (∀ xs : List ((t : Ty) × sem.D t), (unV (A := sem) pv xs).1 = v) → tlk (⟨[], []⟩ : Cx sem) u i = v)
    {p : Nat} (hp : p < C.n0) : (C.kept p = true → (alk C.inp.hp p).isSome = true ∧ κ3 p = κ2 p) ∧ (C.keptW p = true → κ2 p ≠ none → ln3 p = ln2 p) := by
  have sw : ∀ p, C.slot sameW p = true → (alk C.inp.hp p).isSome = true ∧ κ3 p = κ2 p ∧ (κ2 p ≠ none → ln3 p = ln2 p) := fun p hs => by
    unfold CtrM.slot at hs
    rw [Bool.and_eq_true] at hs
    obtain ⟨y, hy, hs2⟩ := List.any_eq_true.1 hs.2
    rw [Bool.and_eq_true, decide_eq_true_eq] at hs2
    obtain ⟨hlt, hs2⟩ := hs2
    split at hs2
    · rename_i a b ha hb
      cases a <;> cases b <;> simp only [sameW, Bool.and_eq_true, beq_iff_eq, Bool.false_eq_true] at hs2
      obtain ⟨rfl, rfl⟩ := hs2
      have e1 := R2.env y.1
      have e2 := R3.env y.1
      rw [hin _ _ ha (.mw _) (fun xs => rfl)] at e1
      rw [hout _ _ hb (.mw _) (fun xs => rfl), henv _ hlt] at e2
      obtain ⟨k1, k2⟩ := e1.mw_same e2
      exact ⟨hs.1, k1.symm, fun hk => (k2 hk).symm⟩
    · cases hs2
  have sp : ∀ p, C.slot samePV p = true → (alk C.inp.hp p).isSome = true ∧ κ3 p = κ2 p := fun p hs => by
    unfold CtrM.slot at hs
    rw [Bool.and_eq_true] at hs
    obtain ⟨y, hy, hs2⟩ := List.any_eq_true.1 hs.2
    rw [Bool.and_eq_true, decide_eq_true_eq] at hs2
    obtain ⟨hlt, hs2⟩ := hs2
    split at hs2
    · rename_i a b ha hb
      have e1 := R2.env y.1
      have e2 := R3.env y.1
      cases a <;> cases b <;> simp only [samePV, Bool.and_eq_true, beq_iff_eq, Bool.false_eq_true] at hs2
      · obtain ⟨⟨rfl, rfl⟩, rfl⟩ := hs2
        rw [hin _ _ ha (.ptr _ _) (fun xs => rfl)] at e1
        rw [hout _ _ hb (.ptr _ _) (fun xs => rfl), henv _ hlt] at e2
        obtain ⟨q1, k1, k2⟩ := e1.ptr_inv
        obtain ⟨q2, k3, k4⟩ := e2.ptr_inv
        rw [k2] at k4; cases k4
        exact ⟨hs.1, k3.trans k1.symm⟩
      · obtain ⟨rfl, rfl⟩ := hs2
        rw [hin _ _ ha (.mp _) (fun xs => rfl)] at e1
        rw [hout _ _ hb (.mp _) (fun xs => rfl), henv _ hlt] at e2
        obtain ⟨q1, k1, k2⟩ := e1.mp_inv
        obtain ⟨q2, k3, k4⟩ := e2.mp_inv
        rw [k2] at k4; cases k4
        exact ⟨hs.1, k3.trans k1.symm⟩
    · cases hs2
  have hw : C.keptW p = true → C.slot sameW p = true := fun hk => by
    unfold CtrM.keptW at hk
    simp only [Bool.or_eq_true, decide_eq_true_eq] at hk
    rcases hk with hk | hk
    · omega
    · exact hk
  refine ⟨fun hk => ?_, fun hk hne => (sw p (hw hk)).2.2 hne⟩
  unfold CtrM.kept at hk
  rw [Bool.or_eq_true] at hk
  rcases hk with hk | hk
  · exact ⟨(sw p (hw hk)).1, (sw p (hw hk)).2.1⟩
  · exact sp p hk
end
end Go.Abs

/- Calls of functions that change blocks: the state behind the call. -/
set_option linter.unusedSimpArgs false
set_option linter.unusedVariables false
set_option linter.constructorNameAsVariable false
namespace Go.Abs
open Go Go.RowKit

section
variable {P : Program} {κ κ3 : Nat → Option Nat} {ln ln3 : Nat → Nat} {c : Cx sem} {s : TS sem} {env env3 : Env} {h h' h2 : AH} {n n2 : Nat}

mutual
theorem hasW_has : ∀ {v : TV sem} {i : Nat}, v.hasW i = true → v.has i = true
  | .adr j _ _, i, hi | .aa j _, i, hi | .mw j, i, hi | .ms j _ _, i, hi => by simpa [TV.hasW, TV.has] using hi
  | .fn _ vs, i, hi | .tp vs, i, hi | .ag vs, i, hi => by have := hasWL_has (vs := vs) (i := i) (by simpa [TV.hasW] using hi); simpa [TV.has] using this
  | .un, i, hi | .ptr _ _, i, hi | .mp _, i, hi | .ud, i, hi | .c _ _, i, hi | .kb _, i, hi | .sc _, i, hi | .fq _ _ _, i, hi | .cv _ _ _ _, i, hi => by simp [TV.hasW] at hi
theorem hasWL_has : ∀ {vs : List (TV sem)} {i : Nat}, TV.hasW.hasL i vs = true → TV.has.hasL i vs = true
  | [], i, hi => by simp [TV.hasW.hasL] at hi
  | v :: vs, i, hi => by
    simp only [TV.hasW.hasL, Bool.or_eq_true] at hi
    simp only [TV.has.hasL, Bool.or_eq_true]
    rcases hi with hi | hi
    · exact .inl (hasW_has hi)
    · exact .inr (hasWL_has hi)
end
/-- numbers behind a call -/
def kapM (C : CtrM) (s : TS sem) (κ κ3 : Nat → Option Nat) : Nat → Option Nat := fun id => if id < s.n then κ id else κ3 (id - s.n + C.n0)
def lenM (C : CtrM) (s : TS sem) (ln ln3 : Nat → Nat) : Nat → Nat := fun id => if id < s.n then ln id else ln3 (id - s.n + C.n0)
theorem agreeM {C : CtrM} {u : TS sem} {ids : List (Nat × Nat)} (R : Rel P κ ln ahN c s env h n) (ag : ∀ p, p < C.n0 → C.kept p = true → (alk u.hp p).isSome = true → ∃ q, alk ids p = some q ∧ κ3 p = κ q ∧ (C.keptW p = true → ln3 p = ln q)) (own : ∀ x ∈ ids, ∃ B, alk s.hp x.2 = some (some B)) {p : Nat} (hk : C.kept p = true) (h1 : p < C.n1) (hs : (alk u.hp p).isSome = true) :
    kapM C s κ κ3 (renC C ids s.n p) = κ3 p ∧ renC C ids s.n p < s.n + (C.n1 - C.n0) ∧ (C.keptW p = true → lenM C s ln ln3 (renC C ids s.n p) = ln3 p) ∧ (renC C ids s.n p < s.n → ∃ x ∈ ids, x.2 = renC C ids s.n p) := by
  unfold renC
  by_cases hp : p < C.n0
  · rw [if_pos hp]
    obtain ⟨q, e1, e2, e3⟩ := ag p hp hk hs
    rw [e1, Option.getD_some]
    obtain ⟨B, hB⟩ := own _ (alk_mem e1)
    have hq : q < s.n := R.lt q B (own_thp hB)
    refine ⟨by unfold kapM; rw [if_pos hq]; exact e2.symm, by omega, fun hw => by unfold lenM; rw [if_pos hq]; exact (e3 hw).symm, fun _ => ⟨_, alk_mem e1, rfl⟩⟩
  · rw [if_neg hp]
    have e : s.n + (p - C.n0) - s.n + C.n0 = p := by omega
    refine ⟨by unfold kapM; rw [if_neg (by omega), e], by omega, fun _ => by unfold lenM; rw [if_neg (by omega), e], fun h => by omega⟩

theorem after_rel {C : CtrM} {ids : List (Nat × Nat)} {u : TS sem} (R : Rel P κ ln ahN c s env h n) (hu : C.okU u = true) (R3 : Rel P κ3 ln3 ahN ⟨[], []⟩ (offD u) env3 h2 n2) (hn : n ≤ n2)
    (ag : ∀ p, p < C.n0 → C.kept p = true → (alk u.hp p).isSome = true → ∃ q, alk ids p = some q ∧ κ3 p = κ q ∧ (C.keptW p = true → ln3 p = ln q)) (own : ∀ x ∈ ids, ∃ B, alk s.hp x.2 = some (some B))
    (live2 : ∀ i B, h2 i = some B → (∃ x ∈ ids, κ x.2 = some i) ∨ n ≤ i) (hh1 : ∀ i, (∃ x ∈ ids, κ x.2 = some i) ∨ n ≤ i → h' i = h2 i) (hh2 : ∀ i, i < n → ¬ (∃ x ∈ ids, κ x.2 = some i) → h' i = h i) :
    Rel P (kapM C s κ κ3) (lenM C s ln ln3) ahN c (afterM C s u ids) env h' n2 := by
  have kold : ∀ id, id < s.n → kapM C s κ κ3 id = κ id := fun id hi => by unfold kapM; rw [if_pos hi]
  have lold : ∀ id, id < s.n → lenM C s ln ln3 id = ln id := fun id hi => by unfold lenM; rw [if_pos hi]
  have hN : s.n ≤ (afterM C s u ids).n := Nat.le_add_right _ _
  -- blocks behind the call
  have blks : ∀ id B, thp c (afterM C s u ids) id = some B → (∃ p B0, alk u.hp p = some (some B0) ∧ renC C ids s.n p = id ∧ B = renB (renC C ids s.n) B0) ∨ (thp c s id = some B ∧ ∀ x ∈ ids, x.2 ≠ id) := fun id B hB => by
    unfold thp at hB
    simp only [afterM, alk_append] at hB
    cases h1 : alk (u.hp.map fun x => (renC C ids s.n x.1, x.2.map (renB (renC C ids s.n)))) id with
    | some b =>
      rw [h1] at hB
      obtain ⟨p, b0, k1, k2, k3⟩ := alk_map_first (renC C ids s.n) (fun b : Option (TB sem) => b.map (renB (renC C ids s.n))) u.hp h1
      obtain ⟨B0, rfl, _⟩ := okU_blk hu k1
      refine .inl ⟨p, B0, k1, k2, ?_⟩
      subst k3
      simp at hB
      exact hB.symm
    | none =>
      rw [h1] at hB
      simp only [alk_none] at hB
      by_cases ha : ids.any (fun x => x.2 == id) = true
      · rw [if_pos ha] at hB; cases hB
      · rw [if_neg ha] at hB
        refine .inr ⟨hB, fun x hx e => ha (List.any_eq_true.2 ⟨x, hx, by simp [e]⟩)⟩
  have ptr3 : ∀ {p B0}, alk u.hp p = some (some B0) → thp (⟨[], []⟩ : Cx sem) (offD u) p = some B0 := fun h => own_thp (s := offD u) h
  have old : ∀ {id B q}, thp c s id = some B → (∀ x ∈ ids, x.2 ≠ id) → κ id = some q → ¬ (∃ x ∈ ids, κ x.2 = some q) ∧ q < n := fun {id B q} hB hx hk => by
    refine ⟨fun ⟨x, hxi, hxk⟩ => ?_, R.bnd id B q hB hk⟩
    obtain ⟨B', hB'⟩ := own x hxi
    exact hx x hxi (R.inj _ _ _ _ q (own_thp hB') hB hxk hk)
  have new : ∀ {p B0 q}, alk u.hp p = some (some B0) → κ3 p = some q → ((∃ x ∈ ids, κ x.2 = some q) ∨ n ≤ q) ∧ ∃ AB, h2 q = some AB := fun {p B0 q} hB hk => by
    have hb := R3.blk p B0 (ptr3 hB)
    have : ∃ AB, h2 q = some AB := by cases hb <;> simp_all
    obtain ⟨AB, hq⟩ := this
    exact ⟨live2 q AB hq, AB, hq⟩
  have agr : ∀ {p B0}, alk u.hp p = some (some B0) → kapM C s κ κ3 (renC C ids s.n p) = κ3 p := fun {p B0} hB => by
    obtain ⟨B', e, k1, k2, k3, k4⟩ := okU_blk hu hB
    exact (agreeM (ln := ln) (ln3 := ln3) R ag own k3 k1 (by rw [hB]; rfl)).1
  refine ⟨fun x => ?_, fun id B hB => ?_, fun id B hB => ?_, fun i j B B' q hi hj ki kj => ?_, fun q B hq => (by cases hq), fun id B q hB hk => rfl, fun id B q hB hk => ?_, fun q hq => ?_, R.e0, fun id b hb => ?_, fun _ => rfl, fun q k T es hq => (by cases hq)⟩
  · exact (R.env x).mono kold lold (fun _ _ h => h) hN
  · rcases blks id B hB with ⟨p, B0, k1, rfl, rfl⟩ | ⟨k1, k2⟩
    · obtain ⟨B', e, j1, j2, j3, j4⟩ := okU_blk hu k1
      cases e
      have hb := R3.blk p B0 (ptr3 k1)
      have mem : ∀ i, (alk u.hp i).isSome = true → C.kept i = true ∧ i < C.n1 := fun i hi => by
        obtain ⟨b, hb⟩ := Option.isSome_iff_exists.1 hi
        obtain ⟨B', _, m1, _, m3, _⟩ := okU_blk hu hb
        exact ⟨m3, m1⟩
      have hasB : ∀ i, B0.has i = true → (alk u.hp i).isSome = true := fun i hi => by
        cases B0 with
        | bx T vs => exact allL_has (by simpa [TB.all] using j2) i (by simpa [TB.has] using hi)
        | _ => simp [TB.has] at hi
      have hasWB : ∀ i, B0.hasW i = true → C.keptW i = true ∧ (alk u.hp i).isSome = true := fun i hi => by
        cases B0 with
        | bx T vs =>
          refine ⟨allL_hasW (by simpa [TB.all] using j2) i (by simpa [TB.hasW] using hi), ?_⟩
          exact hasB i (by have := hasWL_has (vs := vs) (i := i) (by simpa [TB.hasW] using hi); simpa [TB.has] using this)
        | _ => simp [TB.hasW] at hi
      have A := agreeM (ln := ln) (ln3 := ln3) R ag own j3 j1 (by rw [k1]; rfl)
      refine BR.ren hb (fun _ _ h => h) (fun q AB hq hAB => by rw [hh1 q (new k1 hq).1]; exact hAB) A.1 (fun hw => A.2.2.1 (j4 hw)) (fun i hi => ?_) (fun i hi => ?_)
      · have := mem i (hasB i hi)
        have A2 := agreeM (ln := ln) (ln3 := ln3) R ag own this.1 this.2 (hasB i hi)
        exact ⟨A2.1, A2.2.1⟩
      · obtain ⟨w1, w2⟩ := hasWB i hi
        have := mem i w2
        exact (agreeM (ln := ln) (ln3 := ln3) R ag own this.1 this.2 w2).2.2.1 w1
    · exact (R.blk id B k1).mono kold lold (fun _ _ h => h) hN (R.lt id B k1) fun q AB hq hAB => by
        obtain ⟨o1, o2⟩ := old k1 k2 hq
        rw [hh2 q o2 o1]; exact hAB
  · rcases blks id B hB with ⟨p, B0, k1, rfl, rfl⟩ | ⟨k1, k2⟩
    · obtain ⟨B', e, j1, j2, j3, j4⟩ := okU_blk hu k1
      exact (agreeM (ln := ln) (ln3 := ln3) R ag own j3 j1 (by rw [k1]; rfl)).2.1
    · exact Nat.lt_of_lt_of_le (R.lt id B k1) hN
  · rcases blks i B hi with ⟨p, B0, k1, rfl, rfl⟩ | ⟨k1, k2⟩
    · rw [agr k1] at ki
      rcases blks j B' hj with ⟨p', B0', l1, rfl, rfl⟩ | ⟨l1, l2⟩
      · rw [agr l1] at kj
        have := R3.inj p p' _ _ q (ptr3 k1) (ptr3 l1) ki kj
        rw [this]
      · rw [kold j (R.lt j B' l1)] at kj
        obtain ⟨o1, o2⟩ := old l1 l2 kj
        rcases (new k1 ki).1 with h1 | h1
        · exact absurd h1 o1
        · omega
    · rw [kold i (R.lt i B k1)] at ki
      rcases blks j B' hj with ⟨p', B0', l1, rfl, rfl⟩ | ⟨l1, l2⟩
      · rw [agr l1] at kj
        obtain ⟨o1, o2⟩ := old k1 k2 ki
        rcases (new l1 kj).1 with h1 | h1
        · exact absurd h1 o1
        · omega
      · rw [kold j (R.lt j B' l1)] at kj
        exact R.inj i j _ _ q k1 l1 ki kj
  · rcases blks id B hB with ⟨p, B0, k1, rfl, rfl⟩ | ⟨k1, k2⟩
    · rw [agr k1] at hk
      exact R3.bnd p B0 q (ptr3 k1) hk
    · rw [kold id (R.lt id B k1)] at hk
      exact Nat.lt_of_lt_of_le (R.bnd id B q k1 hk) hn
  · rw [hh1 q (.inr (Nat.le_trans hn hq))]
    exact R3.hn q hq
  · simp only [afterM, alk_append] at hb
    have ownG : ∀ x ∈ ids, alk c.g x.2 = none := fun x hx => by obtain ⟨B, hB⟩ := own x hx; exact R.g _ _ hB
    cases h1 : alk (u.hp.map fun x => (renC C ids s.n x.1, x.2.map (renB (renC C ids s.n)))) id with
    | some b1 =>
      obtain ⟨p, b0, k1, k2, k3⟩ := alk_map_first (renC C ids s.n) (fun b : Option (TB sem) => b.map (renB (renC C ids s.n))) u.hp h1
      obtain ⟨B0, rfl, j1, j2, j3, j4⟩ := okU_blk hu k1
      have A := agreeM (ln := ln) (ln3 := ln3) R ag own j3 j1 (by rw [k1]; rfl)
      subst k2
      by_cases hlt : renC C ids s.n p < s.n
      · obtain ⟨x, hx, e⟩ := A.2.2.2 hlt
        rw [← e]; exact ownG x hx
      · cases hg : alk c.g (renC C ids s.n p) with
        | none => rfl
        | some B => exact absurd (R.lt _ B (R.g_thp hg)) hlt
    | none =>
      rw [h1] at hb
      simp only [alk_none] at hb
      by_cases ha : ids.any (fun x => x.2 == id) = true
      · obtain ⟨x, hx, e⟩ := List.any_eq_true.1 ha
        rw [show id = x.2 from (by simpa using e : x.2 = id).symm]
        exact ownG x hx
      · rw [if_neg ha] at hb
        exact R.g id b hb
end
end Go.Abs

/- Calls of functions that change blocks: all together. -/
set_option linter.unusedSimpArgs false
set_option linter.unusedVariables false
set_option linter.constructorNameAsVariable false
namespace Go.Abs
open Go Go.RowKit

section
variable {P : Program} {κ : Nat → Option Nat} {ln : Nat → Nat} {z : AH} {c : Cx sem} {s : TS sem} {env : Env} {h : AH} {n : Nat}

theorem BR.nil_ln {N id : Nat} {B : TB sem} (hb : BR P κ ln z h N id B) (hk : κ id = none) : ln id = 0 := by
  cases hb <;> simp_all

theorem AL.length {l : List ((t : Ty) × t.den)} {as : List AV} (h : AL P l as) : as.length = l.length := by induction h <;> simp [*]
theorem TVRs_at {N : Nat} : ∀ {vs : List (TV sem)} {as : List AV}, vs.length = as.length → (∀ (i : Nat) v a, vs[i]? = some v → as[i]? = some a → TVR P κ ln z N v a) → TVRs P κ ln z N vs as
  | [], [], _, _ => .nil
  | [], _ :: _, h, _ => by simp at h
  | _ :: _, [], h, _ => by simp at h
  | v :: vs, a :: as, h, hv => .cons _ _ _ _ (hv 0 v a rfl rfl) (TVRs_at (by simpa using h) fun i v a h1 h2 => hv (i + 1) v a (by simpa using h1) (by simpa using h2))
theorem res_tp {N : Nat} {C : CtrM} {u : TS sem} {f : Nat → Nat} {as : List AV} (h : TVRs P κ ln z N ((List.range C.nr).map fun i => renV f ((alk u.env (1000000 + i)).getD .un)) as) : TVR P κ ln z N (resT C u f) (tpA as) := by
  unfold resT
  generalize (List.range C.nr).map (fun i => renV f ((alk u.env (1000000 + i)).getD .un)) = l at h
  cases h with
  | nil => exact .tp _ _ .nil
  | cons v a vs as h hs => cases hs with
    | nil => exact h
    | cons v' a' vs' as' h' hs' => exact .tp _ _ (.cons _ _ _ _ h (.cons _ _ _ _ h' hs'))
theorem lk_res0 : ∀ (vs : List AV) (k i : Nat) (E : Env), i < 1000000 → lk ((vs.zipIdx k).map (fun x => (1000000 + x.2, x.1)) ++ E) i = lk E i
  | [], k, i, E, h => by simp
  | v :: vs, k, i, E, h => by
    simp only [List.zipIdx_cons, List.map_cons, List.cons_append, lk]
    rw [if_neg (by omega), lk_res0 vs (k + 1) i E h]
theorem callM_core {g : FuncId} {C : CtrM} (hG : GoodM P g C) (hok : C.ok = true) (R : Rel P κ ln z c s env h n) (hdy : s.dy = false) {args : List (TV sem)} {as : List AV} (hargs : TVRs P κ ln z s.n args as) (hlen : args.length = C.ks.length)
    {l : List ((t : Ty) × t.den)} {bs : List AV} (hl : l.length = (C.ks.filterMap id).length) (hA : AL P l bs) {ids : List Nat} (hS : SnapL (hz κ h z ids) (pureA C.ks as) bs) (hids : ∀ id ∈ ids, ∃ B, thp c s id = some B) {m : Mt sem} (hm : packM ⟨[], c.g⟩ C.n0 C.inp ⟨patE C.ks args 0, s.hp, s.n, s.dy⟩ = some m) (hsn : m.sn = []) (hown : m.ids.all (fun x => (ownB s x.2).isSome && (alk C.inp.hp x.1).isSome && (alk m.ids x.1 == some x.2)) = true) (hdis : ids.all (fun id => m.ids.all fun x => x.2 != id) = true)
    {a : (tup (C.ks.filterMap id ++ C.inp.tys)).den} (ha : mkT sem (C.ks.filterMap id ++ C.inp.tys) (l ++ m.cs) = some a) {y : C.out.ty.den} (hy : C.F a = some y) (hu : C.okU (unpack (A := sem) C.out C.n1 y) = true) (hfl : (ids.isEmpty || C.okF (unpack (A := sem) C.out C.n1 y)) = true) {K : K3}
    (hK : ∀ v h' n' κ' ln', Ke s.n κ ln κ' ln' → Rel P κ' ln' ahN c (afterM C s (unpack C.out C.n1 y) m.ids) env h' n' → TVR P κ' ln' ahN (afterM C s (unpack (A := sem) C.out C.n1 y) m.ids).n (resT C (unpack C.out C.n1 y) (renC C m.ids s.n)) v → K v h' n') : HC P g as h n K := by
  have hz0 := R.dy hdy
  subst hz0
  have hal : as.length = C.ks.length := by rw [hargs.len]; exact hlen
  have hbl : bs.length = (C.ks.filterMap id).length := by rw [AL.length hA]; exact hl
  obtain ⟨m1, m2, m3⟩ := merge_ok C.ks hal hA hl hS
  have R1 : Rel P κ ln ahN ⟨[], c.g⟩ ⟨patE C.ks args 0, s.hp, s.n, s.dy⟩ (enterEnv (mergeA C.ks bs as)) h n := by
    refine ⟨fun x => ?_, R.blk, R.lt, R.inj, R.zin, R.zout, R.bnd, R.hn, fun x v hx => rfl, R.g, R.dy, R.zk⟩
    have := patE_tv (P := P) (κ := κ) (ln := ln) (z := ahN) (N := s.n) C.ks 0 hargs hlen hbl x
    unfold tlk enterEnv
    cases hh : alk (patE C.ks args 0) x with
    | some v => rw [hh] at this; exact this
    | none => exact .un _
  obtain ⟨κ2, ln2, R2, q1, q2, q3, q4⟩ := packM_rel R1 hm hsn rfl
  have ownx : ∀ x ∈ m.ids, ∃ B, alk s.hp x.2 = some (some B) := fun x hx => by
    have := List.all_eq_true.1 hown x hx
    cases ho : ownB s x.2 with
    | none => simp [ho] at this
    | some B => exact ⟨B, own_def ho⟩
  have inx : ∀ x ∈ m.ids, (alk C.inp.hp x.1).isSome = true := fun x hx => by
    have := List.all_eq_true.1 hown x hx
    simp only [Bool.and_eq_true] at this
    exact this.1.2
  have liv : ∀ p, (alk C.inp.hp p).isSome = true → ∃ B, alk (unpackL (A := sem) C.inp C.n0 m.cs).hp p = some (some B) := fun p hp => by
    rw [← q4 p] at hp
    obtain ⟨b, hb⟩ := Option.isSome_iff_exists.1 hp
    obtain ⟨B, q, B0, rfl, _⟩ := q2 p b hb
    exact ⟨B, hb⟩
  have inb : ∀ id B, thp (⟨[], []⟩ : Cx sem) (offD (unpackL (A := sem) C.inp C.n0 m.cs)) id = some B → alk (unpackL (A := sem) C.inp C.n0 m.cs).hp id = some (some B) := fun id B hB => by
    unfold thp at hB
    rw [show (offD (unpackL (A := sem) C.inp C.n0 m.cs)).hp = (unpackL (A := sem) C.inp C.n0 m.cs).hp from rfl] at hB
    cases hh : alk (unpackL (A := sem) C.inp C.n0 m.cs).hp id with
    | some b => rw [hh] at hB; exact congrArg some hB
    | none => rw [hh] at hB; cases hB
  have keyb : ∀ id, (alk C.inp.hp id).isSome = true → id ∈ C.inp.hp.map (·.1) := fun id hi => by
    obtain ⟨b, hb⟩ := Option.isSome_iff_exists.1 hi
    exact List.mem_map.2 ⟨_, alk_mem hb, rfl⟩
  have bkey : ∀ id, id ∈ C.inp.hp.map (·.1) → (alk C.inp.hp id).isSome = true := fun id hi => by
    obtain ⟨x, hx, rfl⟩ := List.mem_map.1 hi
    generalize C.inp.hp = L at hx
    induction L with
    | nil => cases hx
    | cons y L ih =>
      simp only [alk]
      split
      · rfl
      · rename_i e
        rcases List.mem_cons.1 hx with rfl | hx
        · exact absurd rfl e
        · exact ih hx
  have R3 := R2.cut (h2 := rsH κ2 h (C.inp.hp.map (·.1))) (fun id B q hB hk => rsH_at (keyb id (by rw [← q4 id, inb id B hB]; rfl)) hk) (fun q hq => by
    unfold rsH; split
    · exact R.hn q hq
    · rfl)
  have hc := hG a y hy l m.cs (mkT_unT _ _ _ ha) hl κ2 ln2 _ n _ m2 R3
  -- the blocks that are handed over
  have given : ∀ i, ((C.inp.hp.map (·.1)).filterMap κ2).contains i = true → ∃ x ∈ m.ids, κ x.2 = some i := fun i hi => by
    obtain ⟨id, hid, hk⟩ := List.mem_filterMap.1 (List.contains_iff_mem.1 hi)
    obtain ⟨B, hB⟩ := liv id (bkey id hid)
    obtain ⟨_, q, B0, _, e2, e3⟩ := q2 id _ hB
    exact ⟨_, alk_mem e2, by rw [← (q1 id q e2).1]; exact hk⟩
  refine HC.frm4 (hL := hz κ h ahN ids) ((C.inp.hp.map (·.1)).filterMap κ2) (fun i B hi => ?_) m1 m3 (fun i B hi => ?_) (fun i hi => ?_) R.hn (fun v h' n' => after_on hu) ?_ hc ?_
  · refine ⟨hz_full (fun q B hq => by cases hq) i B hi, ?_⟩
    cases hcon : ((C.inp.hp.map (·.1)).filterMap κ2).contains i with
    | false => rfl
    | true =>
      obtain ⟨x, hx, hk⟩ := given i hcon
      unfold hz at hi
      split at hi
      · rename_i hany
        obtain ⟨id, hid, hke⟩ := List.any_eq_true.1 hany
        obtain ⟨B1, hB1⟩ := hids id hid
        obtain ⟨B2, hB2⟩ := ownx x hx
        have e := R.inj x.2 id _ _ i (own_thp hB2) hB1 hk (by simpa using hke)
        have := List.all_eq_true.1 (List.all_eq_true.1 hdis id hid) x hx
        rw [e] at this; simp at this
      · cases hi
  · obtain ⟨⟨id, hid, hk⟩, hB⟩ := rsH_some hi
    exact ⟨List.contains_iff_mem.2 (List.mem_filterMap.2 ⟨id, hid, hk⟩), hB⟩
  · obtain ⟨x, hx, hk⟩ := given i hi
    obtain ⟨B, hB⟩ := ownx x hx
    exact R.bnd _ B i (own_thp hB) hk
  · rw [Bool.or_eq_true] at hfl
    rcases hfl with hfl | hfl
    · left
      have : ids = [] := by simpa [List.isEmpty_iff] using hfl
      rw [this, hz_nil]
    · right
      exact fun v h' n' => after_onF hu hfl
  · rintro v h2 n2 ⟨κ3, ln3, vs, hvl, rfl, R4, hmin⟩ hnn hloc
    have taken : ∀ i, (∃ x ∈ m.ids, κ x.2 = some i) → ((C.inp.hp.map (·.1)).filterMap κ2).contains i = true := fun i ⟨x, hx, hk⟩ => by
      have hx1 := inx x hx
      obtain ⟨B, hB⟩ := liv x.1 hx1
      obtain ⟨_, q, B0, _, e2, e3⟩ := q2 x.1 _ hB
      refine List.contains_iff_mem.2 (List.mem_filterMap.2 ⟨x.1, keyb _ hx1, ?_⟩)
      have e4 : alk m.ids x.1 = some x.2 := by
        have := List.all_eq_true.1 hown x hx
        simp only [Bool.and_eq_true, beq_iff_eq] at this
        exact this.2
      rw [(q1 _ _ e4).1]; exact hk
    simp only [CtrM.ok, Bool.and_eq_true, decide_eq_true_eq] at hok
    obtain ⟨⟨ok1, ok2⟩, ok3⟩ := hok
    have ag : ∀ p, p < C.n0 → C.kept p = true → (alk (unpack (A := sem) C.out C.n1 y).hp p).isSome = true → ∃ q, alk m.ids p = some q ∧ κ3 p = κ q ∧ (C.keptW p = true → ln3 p = ln q) := fun p hp hk hal2 => by
      obtain ⟨s1, s2⟩ := kept_spec (C := C) R3 R4 (fun i hi => lk_res0 vs 0 i _ (by omega)) (fun i pv hi v hv => own_tlk (t := offD (unpackL (A := sem) C.inp C.n0 m.cs)) (unE_at C.inp.env m.cs i pv v hi hv)) (fun i pv hi v hv => own_tlk (t := offD (unpack (A := sem) C.out C.n1 y)) (unE_at C.out.env _ i pv v hi hv)) hp
      obtain ⟨t1, t2⟩ := s1 hk
      obtain ⟨B, hB⟩ := liv p t1
      obtain ⟨_, q, B0, _, e2, e3⟩ := q2 p _ hB
      obtain ⟨f1, f2, f3⟩ := q1 p q e2
      refine ⟨q, e2, t2.trans f1, fun hw => ?_⟩
      by_cases hn0 : κ2 p = none
      · obtain ⟨b2, hb2⟩ := Option.isSome_iff_exists.1 hal2
        obtain ⟨B2, rfl, _⟩ := okU_blk hu hb2
        rw [BR.nil_ln (R4.blk p B2 (own_thp (s := offD (unpack (A := sem) C.out C.n1 y)) hb2)) (t2.trans hn0), ← f2, BR.nil_ln (R3.blk p B (own_thp (s := offD (unpackL (A := sem) C.inp C.n0 m.cs)) hB)) hn0]
      · rw [s2 hw hn0, f2]
    have hnn' : n ≤ n2 := hnn
    have hR := after_rel (h' := fun i => if ((C.inp.hp.map (·.1)).filterMap κ2).contains i || decide (n ≤ i) then h2 i else h i) R hu R4 hnn' ag ownx (fun i B hB => ?_) (fun i hi => ?_) (fun i hi hx => ?_)
    · refine hK _ _ _ _ _ (fun id hi => ⟨by unfold kapM; rw [if_pos hi], by unfold lenM; rw [if_pos hi]⟩) hR ?_
      refine res_tp ?_ 
      refine TVRs_at (by simp [hvl]) fun i v a hv ha => ?_
      have hi : i < C.nr := by rw [← hvl]; exact (List.getElem?_eq_some_iff.1 ha).1
      rw [List.getElem?_map, List.getElem?_range hi] at hv
      cases hv
      obtain ⟨v, h1, h2⟩ := okU_res hu hi
      show TVR P _ _ _ _ (renV _ ((alk (unpack (A := sem) C.out C.n1 y).env (1000000 + i)).getD .un)) a
      rw [h1, Option.getD_some]
      have hv := R4.env (1000000 + i)
      have e1 : tlk (⟨[], []⟩ : Cx sem) (offD (unpack (A := sem) C.out C.n1 y)) (1000000 + i) = v := own_tlk (t := offD (unpack (A := sem) C.out C.n1 y)) h1
      rw [e1] at hv
      have e2 : lk (resE vs ++ enterEnv (mergeA C.ks bs as)) (1000000 + i) = a := by
        have := lk_res vs 0 i (enterEnv (mergeA C.ks bs as)) (Nat.zero_le _)
        rw [Nat.sub_zero, ha] at this
        exact this
      rw [e2] at hv
      have mem : ∀ i, (alk (unpack (A := sem) C.out C.n1 y).hp i).isSome = true → C.kept i = true ∧ i < C.n1 := fun i hi => by
        obtain ⟨b, hb⟩ := Option.isSome_iff_exists.1 hi
        obtain ⟨B', _, m1, _, m3, _⟩ := okU_blk hu hb
        exact ⟨m3, m1⟩
      refine hv.ren (fun _ _ h => h) (fun j hj => ?_) (fun j hj => ?_)
      · have h3 := all_has h2 j hj
        have := mem j h3
        have A2 := agreeM (C := C) (u := unpack (A := sem) C.out C.n1 y) (ids := m.ids) (ln := ln) (ln3 := ln3) R ag ownx this.1 this.2 h3
        exact ⟨A2.1, A2.2.1⟩
      · have h3 := all_has h2 j (hasW_has hj)
        have := mem j h3
        exact (agreeM (C := C) (u := unpack (A := sem) C.out C.n1 y) (ids := m.ids) (ln := ln) (ln3 := ln3) R ag ownx this.1 this.2 h3).2.2.1 (all_hasW h2 j hj)
    · rcases hloc i B hB with h1 | h1
      · exact .inl (given i h1)
      · exact .inr h1.1
    · show (if _ then _ else _) = _
      rw [if_pos]
      rw [Bool.or_eq_true, decide_eq_true_eq]
      rcases hi with h1 | h1
      · exact .inl (taken i h1)
      · exact .inr h1
    · show (if _ then _ else _) = _
      rw [if_neg]
      rw [Bool.or_eq_true, decide_eq_true_eq]
      rintro (h1 | h1)
      · exact hx (given i h1)
      · omega
end
end Go.Abs

/- The typed machine is sound, eleventh part: calls. -/
set_option linter.unusedSimpArgs false
set_option linter.unusedVariables false
set_option linter.constructorNameAsVariable false
namespace Go.Abs
open Go Go.RowKit

section
variable (P : Program)
def AR : (ts : List Ty) → (tup ts).den → List AV → Prop
  | [], _, l => l = []
  | [t], x, l => ∃ a, l = [a] ∧ A1 P t x a
  | t :: u :: ts, x, l => ∃ a l', l = a :: l' ∧ A1 P t x.1 a ∧ AR (u :: ts) x.2 l'
def avsL : (ts : List Ty) → (tup ts).den → List AV
  | [], _ => []
  | [t], x => [t.av x]
  | t :: u :: ts, x => t.av x.1 :: avsL (u :: ts) x.2
def rav (rs : List Ty) (x : (tup rs).den) : AV :=
  match rs with
  | [t] => t.av x
  | rs => .tp (avsL rs x)
def Good (g : FuncId) (C : Ctr) : Prop := C.rs.all Ty.dat = true ∧ (∀ x r, C.F x = some r → ∀ l, AR P C.as x l → PC P g l (· = rav C.rs r)) ∧ ∀ M ∈ C.mus, M.ok = true ∧ GoodM P g M
inductive Goods : List (FuncId × Ctr) → Prop
  | nil : Goods []
  | cons {g : FuncId} {C : Ctr} {l : List (FuncId × Ctr)} (h : Good P g C) (hl : Goods l) : Goods ((g, C) :: l)
end

section
variable {P : Program} {κ κ' : Nat → Option Nat} {ln ln' : Nat → Nat} {z z' : AH} {c : Cx sem} {s : TS sem} {env : Env} {h h' : AH} {n n' N N' : Nat}
variable {ρ : Ty} {Kf : TV sem → TS sem → sem.Ans ρ} {r : ρ.den}
variable {d : Option Tmp} {ty : TypeId} {pos : String} {after : Array Edge} {g : Option (Nat × Bool)}

theorem Goods.at {Δ : List (FuncId × Ctr)} (hΔ : Goods P Δ) : ∀ {f : FuncId} {C : Ctr}, alk Δ f = some C → Good P f C := by
  induction hΔ with
  | nil => intro f C hf; simp [alk] at hf
  | cons h hl ih =>
    intro f C hf
    simp only [alk] at hf
    split at hf
    · rename_i e; cases hf; subst e; exact h
    · exact ih hf
theorem AL.append {l l' : List ((t : Ty) × t.den)} {as as' : List AV} (h : AL P l as) (h' : AL P l' as') : AL P (l ++ l') (as ++ as') := by
  induction h with
  | nil => exact h'
  | cons h1 _ ih => exact .cons h1 ih
theorem A1_dat {t : Ty} {x : t.den} {a : AV} (hd : t.dat = true) : A1 P t x a ↔ a = t.av x := by
  cases t <;> first | (simp [Ty.dat] at hd; done) | exact ⟨fun h => h.2, fun h => ⟨hd, h⟩⟩
theorem A1_cast {t t' : Ty} (e : t' = t) {x : t'.den} {a : AV} (h : A1 P t' x a) : A1 P t (e ▸ x) a := by subst e; exact h
theorem mkT_AR : ∀ (ts : List Ty) (l : List ((t : Ty) × t.den)) (as : List AV) (x : (tup ts).den), AL P l as → mkT sem ts l = some x → AR P ts x as := by
  intro ts
  induction ts with
  | nil =>
    intro l as x hl h
    cases hl with
    | nil => exact rfl
    | cons h1 hl => exact semfail (r := x) h
  | cons t ts ih =>
    intro l as x hl h
    cases ts with
    | nil =>
      cases hl with
      | nil => exact semfail (r := x) h
      | cons h1 hl =>
        cases hl with
        | nil =>
          obtain ⟨e, rfl⟩ := tcast_sem h
          exact ⟨_, rfl, A1_cast e h1⟩
        | cons h2 hl => exact semfail (r := x) h
    | cons u ts =>
      cases hl with
      | nil => exact semfail (r := x) h
      | cons h1 hl =>
        rw [mkT_two] at h
        obtain ⟨x1, hx1, h⟩ := Option.bind_eq_some_iff.1 h
        obtain ⟨x2, hx2, rfl⟩ := Option.map_eq_some_iff.1 h
        obtain ⟨e, rfl⟩ := tcast_sem hx1
        exact ⟨_, _, rfl, A1_cast e h1, ih _ _ _ hl hx2⟩
theorem AR_avs : ∀ {ts : List Ty} {x : (tup ts).den} {as : List AV}, ts.all Ty.dat = true → AR P ts x as → as = avsL ts x
  | [], _, _, _, h => h
  | [t], x, _, hd, h => by
    obtain ⟨a, rfl, h1⟩ := h
    rw [(A1_dat (by simpa using hd)).1 h1]; rfl
  | t :: u :: ts, x, _, hd, h => by
    obtain ⟨a, l', rfl, h1, h2⟩ := h
    rw [List.all_cons, Bool.and_eq_true] at hd
    rw [(A1_dat hd.1).1 h1, AR_avs hd.2 h2]; rfl
theorem unT_AL : ∀ {ts : List Ty} (x : (tup ts).den), ts.all Ty.dat = true → AL P (unT sem ts x) (avsL ts x)
  | [], _, _ => .nil
  | [t], x, hd => .cons ((A1_dat (by simpa using hd)).2 rfl) .nil
  | t :: u :: ts, x, hd => by
    rw [List.all_cons, Bool.and_eq_true] at hd
    exact .cons ((A1_dat hd.1).2 rfl) (unT_AL (ts := u :: ts) x.2 hd.2)
theorem avsN_tup : ∀ (m : Nat) (ts : List Ty) (x : Ty) (e : tup ts = x) (v : (tup ts).den), ts.length = m → avsN m x (e ▸ v) = avsL ts v
  | 0, [], _, rfl, v, _ => rfl
  | 1, [t], _, rfl, v, _ => rfl
  | m + 2, t :: u :: ts, _, rfl, v, hl => by
    show t.av v.1 :: avsN (m + 1) (tup (u :: ts)) v.2 = t.av v.1 :: avsL (u :: ts) v.2
    rw [← avsN_tup (m + 1) (u :: ts) _ rfl v.2 (by simpa using hl)]
theorem untup_tup : ∀ (m : Nat) (ts : List Ty), ts.length = m → untup m (tup ts) = ts
  | 0, [], _ => rfl
  | 1, [t], _ => rfl
  | m + 2, t :: u :: ts, hl => by
    show t :: untup (m + 1) (tup (u :: ts)) = _
    rw [untup_tup (m + 1) (u :: ts) (by simpa using hl)]
theorem AL_free {l : List ((t : Ty) × t.den)} {as : List AV} (h : AL P l as) (hd : ∀ p ∈ l, p.1.dat = true) : FreeL as := by
  induction h with
  | nil => intro a ha; cases ha
  | @cons p a l as h1 _ ih =>
    have := hd p (by simp)
    rw [FreeL_cons]
    exact ⟨by rw [(A1_dat this).1 h1]; exact av_free _ _ this, ih fun q hq => hd q (by simp [hq])⟩

theorem snapM_sound (R : Rel P κ ln z c s env h n) : ∀ (ts : List Ty) (vs : List (TV sem)) (as : List AV) {l : List ((t : Ty) × t.den)} {ids : List Nat}, TVRs P κ ln z s.n vs as → snapM (A := sem) c s ts vs = some (l, ids) →
    ∃ as', AL P l as' ∧ SnapL (hz κ h z ids) as as' ∧ (∀ id ∈ ids, ∃ B, thp c s id = some B) ∧ l.map (·.1) = ts ∧ ∀ p ∈ l, p.1.dat = true
  | [], [], _, l, ids, .nil, hs => by cases hs; exact ⟨[], .nil, .nil, fun id hi => by simp at hi, rfl, fun p hp => by simp at hp⟩
  | [], _ :: _, _, l, ids, _, hs => by simp [snapM] at hs
  | _ :: _, [], _, l, ids, _, hs => by simp [snapM] at hs
  | t :: ts, v :: vs, _, l, ids, .cons _ a _ as hv hvs, hs => by
    simp only [snapM, Option.bind_eq_some_iff, Option.map_eq_some_iff] at hs
    obtain ⟨⟨x, i1⟩, hx, ⟨l', i2⟩, hl, he⟩ := hs
    cases he
    obtain ⟨hd, h1, h2⟩ := snapV_sound R hv hx
    obtain ⟨as', g1, g2, g3, g4, g5⟩ := snapM_sound R ts vs as hvs hl
    have m1 := hz_mono (κ := κ) (h := h) (z := z) (ids := i1) (ids' := i1 ++ i2) R.zin (fun id hi => by simp [hi])
    have m2 := hz_mono (κ := κ) (h := h) (z := z) (ids := i2) (ids' := i1 ++ i2) R.zin (fun id hi => by simp [hi])
    refine ⟨t.av x :: as', .cons ((A1_dat hd).2 rfl) g1, .cons (h1.mono m1) (g2.mono m2), fun id hi => ?_, by simp [g4], fun p hp => ?_⟩
    · rcases List.mem_append.1 hi with hi | hi
      · exact h2 id hi
      · exact g3 id hi
    · rcases List.mem_cons.1 hp with rfl | hp
      · exact hd
      · exact g5 p hp
theorem TVR.fn_inv {g : FuncId} {vs : List (TV sem)} {a : AV} (h : TVR P κ ln z N (.fn g vs) a) : ∃ as, a = .fn g as ∧ TVRs P κ ln z N vs as := by
  cases h with | fn _ _ as h => exact ⟨as, rfl, h⟩

theorem mkClo_sound {C : Ctr} {f : FuncId} (hC : Good P f C) {m : Nat} {x y : Ty} {caps : List ((t : Ty) × t.den)} {as : List AV} {F : x.den → Option y.den} (hcaps : AL P caps as) (hd : ∀ p ∈ caps, p.1.dat = true) (hm : m ≤ C.as.length) (hF : mkClo sem C m x y caps = some F) : CV P m x y F (.fn f as) := by
  unfold mkClo at hF
  split at hF
  · rename_i hx
    split at hF
    · rename_i hy
      split at hF
      · rename_i hdat
        cases hF
        have hlen : (C.as.take m).length = m := by rw [List.length_take]; omega
        subst hx
        have hun := untup_tup m (C.as.take m) hlen
        refine ⟨f, as, rfl, AL_free hcaps hd, by rw [hun, hlen], by rw [hun]; exact hdat, ?_, fun v r hr => ?_⟩
        · have := hC.1; rw [hy] at this; simpa using this
        · dsimp only at hr
          split at hr
          · rename_i a ha
            obtain ⟨r', hr', hr⟩ := Option.bind_eq_some_iff.1 hr
            cases hr
            have hAR := mkT_AR _ _ _ _ (AL.append (unT_AL v hdat) hcaps) ha
            rw [avsN_tup m _ _ rfl v hlen]
            obtain ⟨nm, as', rs, CF, mus⟩ := C
            simp only at hy
            subst hy
            exact hC.2.1 a r hr' _ hAR
          · cases hr
      · cases hF
    · cases hF
  · cases hF

theorem snapA_sound {Δ : List (FuncId × Ctr)} (hΔ : Goods P Δ) (R : Rel P κ ln z c s env h n) {t : Ty} {v : TV sem} {a : AV} {x : t.den} {ids : List Nat} (hv : TVR P κ ln z s.n v a) (hs : snapA (A := sem) c Δ s t v = some (x, ids)) :
    ∃ a', A1 P t x a' ∧ Snap (hz κ h z ids) a a' ∧ ∀ id ∈ ids, ∃ B, thp c s id = some B := by
  have dat : ∀ {t : Ty} {x : t.den}, snapV (A := sem) c s t v = some (x, ids) → ∃ a', A1 P t x a' ∧ Snap (hz κ h z ids) a a' ∧ ∀ id ∈ ids, ∃ B, thp c s id = some B := fun hs => by
    obtain ⟨hd, h1, h2⟩ := snapV_sound R hv hs
    exact ⟨_, (A1_dat hd).2 rfl, h1, h2⟩
  unfold snapA at hs
  split at hs
  · split at hs
    · simp only [Option.map_eq_some_iff] at hs
      obtain ⟨y, hy, he⟩ := hs
      cases he
      obtain ⟨e, rfl⟩ := tcast_sem hy
      cases e
      cases hv with
      | cv _ _ _ _ _ hc =>
        obtain ⟨f, as, rfl, hf, hrest⟩ := hc
        exact ⟨.fn f as, ⟨f, as, rfl, hf, hrest⟩, .free _ ((Free_fn _ _).2 hf), fun id hi => by simp at hi⟩
    · simp only [Option.bind_eq_some_iff] at hs
      obtain ⟨C, hC, hs⟩ := hs
      split at hs
      · rename_i hlen
        simp only [Option.bind_eq_some_iff, Option.map_eq_some_iff] at hs
        obtain ⟨⟨l, ids'⟩, hl, F, hF, he⟩ := hs
        cases he
        obtain ⟨as, rfl, hvs⟩ := hv.fn_inv
        obtain ⟨as', g1, g2, g3, g4, g5⟩ := snapM_sound R _ _ as hvs hl
        exact ⟨_, mkClo_sound (hΔ.at hC) g1 g5 (by omega) hF, Snap.fnL g2, g3⟩
      · cases hs
    · cases hs
  · exact dat hs
theorem snapAs_sound {Δ : List (FuncId × Ctr)} (hΔ : Goods P Δ) (R : Rel P κ ln z c s env h n) : ∀ (ts : List Ty) (vs : List (TV sem)) (as : List AV) {l : List ((t : Ty) × t.den)} {ids : List Nat}, TVRs P κ ln z s.n vs as → snapAs (A := sem) c Δ s ts vs = some (l, ids) →
    ∃ as', AL P l as' ∧ SnapL (hz κ h z ids) as as' ∧ (∀ id ∈ ids, ∃ B, thp c s id = some B)
  | [], [], _, l, ids, .nil, hs => by cases hs; exact ⟨[], .nil, .nil, fun id hi => by simp at hi⟩
  | [], _ :: _, _, l, ids, _, hs => by simp [snapAs] at hs
  | _ :: _, [], _, l, ids, _, hs => by simp [snapAs] at hs
  | t :: ts, v :: vs, _, l, ids, .cons _ a _ as hv hvs, hs => by
    simp only [snapAs, Option.bind_eq_some_iff, Option.map_eq_some_iff] at hs
    obtain ⟨⟨x, i1⟩, hx, ⟨l', i2⟩, hl, he⟩ := hs
    cases he
    obtain ⟨a', k1, h1, h2⟩ := snapA_sound hΔ R hv hx
    obtain ⟨as', g1, g2, g3⟩ := snapAs_sound hΔ R ts vs as hvs hl
    have m1 := hz_mono (κ := κ) (h := h) (z := z) (ids := i1) (ids' := i1 ++ i2) R.zin (fun id hi => by simp [hi])
    have m2 := hz_mono (κ := κ) (h := h) (z := z) (ids := i2) (ids' := i1 ++ i2) R.zin (fun id hi => by simp [hi])
    refine ⟨a' :: as', .cons k1 g1, .cons (h1.mono m1) (g2.mono m2), fun id hi => ?_⟩
    rcases List.mem_append.1 hi with hi | hi
    · exact h2 id hi
    · exact g3 id hi

/-! results -/
theorem flat_avsL : ∀ (ts : List Ty) (x : (tup ts).den), ts.all Ty.flat = true → FlatL (avsL ts x)
  | [], _, _ => by intro a ha; cases ha
  | [t], x, h => by intro a ha; simp [avsL] at ha; subst ha; exact flat_av t x (by simpa using h)
  | t :: u :: ts, x, h => by
    rw [List.all_cons, Bool.and_eq_true] at h
    intro a ha
    rcases List.mem_cons.1 ha with rfl | ha
    · exact flat_av t x.1 h.1
    · exact flat_avsL (u :: ts) x.2 h.2 a ha
theorem flat_rav (rs : List Ty) (x : (tup rs).den) (h : rs.all Ty.flat = true) : Flat (rav rs x) := by
  unfold rav
  split
  · exact flat_av _ _ (by simpa using h)
  · exact (Flat_tp _).2 (flat_avsL _ _ h)
theorem unT_TVRs : ∀ (ts : List Ty) (x : (tup ts).den), ts.all Ty.dat = true → TVRs P κ ln z N ((unT sem ts x).map fun y => TV.c y.1 y.2) (avsL ts x)
  | [], _, _ => .nil
  | [t], x, h => .cons _ _ _ _ (.free (by simpa using h)) .nil
  | t :: u :: ts, x, h => by
    rw [List.all_cons, Bool.and_eq_true] at h
    exact .cons _ _ _ _ (.free h.1) (unT_TVRs (u :: ts) x.2 h.2)
theorem tvR_sound (rs : List Ty) (x : (tup rs).den) (h : rs.all Ty.dat = true) : TVR P κ ln z N (tvR (A := sem) rs x) (rav rs x) := by
  match rs, x, h with
  | [], x, h => exact .tp _ _ (unT_TVRs [] x h)
  | [t], x, h => exact .free (by simpa using h)
  | t :: u :: ts, x, h => exact .tp _ _ (unT_TVRs (t :: u :: ts) x h)

/-- blocks that are given away with a call -/
theorem Rel.eat (R : Rel P κ ln z c s env h n) {ids : List Nat} {s' : TS sem} (hz0 : z = fun _ => none) (hs : Abs.retire s ids = some s') : Rel P κ ln z c { s' with dy := false } env (fun q => if (ids.filterMap κ).contains q then none else h q) n := by
  obtain ⟨R', e1, e2, e3, e4, e5⟩ := R.retire hs
  have live : ∀ id B q, thp c s' id = some B → κ id = some q → (ids.filterMap κ).contains q = false := fun id B q hB hk => by
    cases hcon : (ids.filterMap κ).contains q with
    | false => rfl
    | true =>
      rw [List.contains_iff_mem] at hcon
      obtain ⟨j, hj, hkj⟩ := List.mem_filterMap.1 hcon
      have hz := R'.zout id B q hB hk
      rw [hz_at hj hkj] at hz
      obtain ⟨Bj, hBj⟩ := e4 j hj
      have hb := R.blk j Bj (own_thp hBj)
      cases hb with
      | bx _ _ q' as hq' hh => rw [hkj] at hq'; cases hq'; rw [hh] at hz; cases hz
      | el _ _ _ q' cs hd hq' hh => rw [hkj] at hq'; cases hq'; rw [hh] at hz; cases hz
      | sl0 _ _ _ _ hq' => rw [hkj] at hq'; cases hq'
      | sl _ _ _ q' cs hd hq' hh => rw [hkj] at hq'; cases hq'; rw [hh] at hz; cases hz
      | mp _ _ _ q' _ _ _ hq' hh => rw [hkj] at hq'; cases hq'; rw [hh] at hz; cases hz
  subst hz0
  have sub : ∀ id B, thp c s' id = some B → thp c s id = some B := fun id B hB => by
    unfold Abs.retire at hs
    split at hs
    · cases hs
      unfold thp at hB ⊢
      rw [alk_map_none] at hB
      split at hB
      · rename_i b hb
        split at hb
        · cases hb; cases hB
        · rw [hb]; exact hB
      · rename_i hb
        split at hb
        · cases hb
        · rw [hb]; exact hB
    · cases hs
  have ht : ∀ id, thp c { s' with dy := false } id = thp c s' id := fun _ => rfl
  refine ⟨fun x => ?_, fun id B hB => ?_, fun id B hB => R'.lt id B hB, fun i j B B' q hi hj => R'.inj i j B B' q hi hj, (fun q B hq => by cases hq), fun _ _ _ _ _ => rfl, fun id B q hB hk => R'.bnd id B q hB hk, fun q hq => ?_, R'.e0, R'.g, fun _ => rfl, (fun q k T es hq => by cases hq)⟩
  · have := R.env x
    rw [← tlk_env (c := c) e1, ← e2] at this
    exact this
  · have hb := R.blk id B (sub id B hB)
    rw [← e2] at hb
    refine hb.mono (fun _ _ => rfl) (fun _ _ => rfl) (fun _ _ h => h) (Nat.le_refl _) (R'.lt id B hB) fun q B2 hk h2 => ?_
    rw [if_neg (by rw [live id B q hB hk]; simp)]; exact h2
  · split
    · rfl
    · exact R.hn q hq

theorem askfail {gg : Nat} {vs : List (TV sem)} {p : Prop} (hk : askX (A := sem) (ρ := ρ) c s gg vs = some r) : p := by
  unfold askX at hk
  split at hk <;> exact semfail hk
theorem callX_sound {Δ : List (FuncId × Ctr)} (hΔ : Goods P Δ) (R : Rel P κ ln z c s env h n) {l : Call} {f : Operand} (hc : l.callee = .value f) (hk : callX c Δ s (tev c s f) (l.args.toList.map (tev c s)) Kf = some r) : Res P κ ln z c s env h n ⟨d, .call l, ty, pos, after, g⟩ Kf r := by
  have hargs : TVRs P κ ln z s.n (l.args.toList.map (tev c s)) (l.args.toList.map (ev env)) := by
    generalize l.args.toList = xs
    induction xs with
    | nil => exact .nil
    | cons x xs ih => exact .cons _ _ _ _ (R.ev x) ih
  have hf := R.ev f
  unfold callX at hk
  split at hk
  · rename_i gg caps he
    rw [he] at hf
    obtain ⟨as, hfa, hcaps⟩ := hf.fn_inv
    split at hk
    · exact askfail hk
    · rename_i C hC
      have hG := hΔ.at hC
      split at hk
      · exact askfail hk
      · rename_i la ids hla
        obtain ⟨as', g1, g2, g3⟩ := snapAs_sound hΔ R _ _ _ (hargs.append hcaps) hla
        split at hk
        · exact semfail hk
        · rename_i a ha
          have hAR := mkT_AR _ _ _ _ g1 ha
          split at hk
          · rename_i hflat
            simp only [Option.bind_eq_some_iff] at hk
            obtain ⟨y, hy, hk⟩ := hk
            refine R.q (fun K hk => ?_) (tvR_sound C.rs y hG.1) hk
            exact s_call hc hfa rfl (PC.lend1 (g2.mono (hz_full R.zin)) (hG.2.1 a y hy _ hAR) (flat_rav _ _ hflat) hk)
          · split at hk
            · exact semfail hk
            · rename_i hdy
              split at hk
              · exact semfail hk
              · rename_i s' hs'
                simp only [Option.bind_eq_some_iff] at hk
                obtain ⟨y, hy, hk⟩ := hk
                have hz0 := R.dy (by simpa using hdy)
                obtain ⟨_, e1, e2, _⟩ := R.retire hs'
                refine ⟨_, _, rav C.rs y, _, n, κ, ln, z, fun K hk => ?_, hk, R.eat hz0 hs', tvR_sound C.rs y hG.1, e1, by simp [e2], fun _ _ => ⟨rfl, rfl⟩, fun hk => by obtain ⟨_, _, _⟩ := l; simp only at hc; subst hc; simp [calm, isCall] at hk⟩
                refine s_call hc hfa rfl (PC.eat (hE := hz κ h z ids) (ids.filterMap κ) (fun i B hi => ?_) (fun i B hi => ?_) g2 (hG.2.1 a y hy _ hAR) hk)
                · refine ⟨?_, hz_full R.zin i B hi⟩
                  unfold hz at hi
                  split at hi
                  · rename_i hany
                    obtain ⟨id, hid, hke⟩ := List.any_eq_true.1 hany
                    rw [List.contains_iff_mem]
                    exact List.mem_filterMap.2 ⟨id, hid, by simpa using hke⟩
                  · rw [hz0] at hi; cases hi
                · split at hi
                  · cases hi
                  · rename_i hcon; exact ⟨by simpa using hcon, hi⟩
  · rename_i m x y F he
    rw [he] at hf
    split at hk
    · rename_i hx
      split at hk
      · exact semfail hk
      · rename_i la ids hla
        obtain ⟨as', g1, g2, g3, g4, g5⟩ := snapM_sound R _ _ _ hargs hla
        split at hk
        · exact semfail hk
        · rename_i a ha
          split at hk
          · rename_i hflat
            simp only [Option.bind_eq_some_iff] at hk
            obtain ⟨w, hw, hk⟩ := hk
            generalize hfe : ev env f = fa at hf
            cases hf with
            | cv _ _ _ _ _ hcv =>
              obtain ⟨gg, as, rfl, hfree, hul, hud, hyd, hpc⟩ := hcv
              have hAR := AR_avs hud (mkT_AR _ _ _ _ g1 ha)
              have hp := hpc _ w hw
              rw [avsN_tup m (untup m x) x hx a hul, ← hAR] at hp
              refine R.q (fun K hk => ?_) (.free hyd) hk
              exact s_call hc hfe rfl (PC.lend1 ((g2.append (SnapL.free hfree)).mono (hz_full R.zin)) hp (flat_av _ _ hflat) hk)
          · exact semfail hk
    · exact semfail hk
  · exact semfail hk
end
end Go.Abs

/- The typed machine is sound, twelfth part: comparison of structs; operations, all together; regions in the order of the text. -/
set_option linter.unusedSimpArgs false
set_option linter.unusedVariables false
set_option linter.constructorNameAsVariable false
namespace Go.Abs
open Go Go.RowKit

def Ty.vals : (t : Ty) → t.den → List Value
  | .i k, x => [.int k x]
  | .b, x => [.bool x]
  | .s, x => [.string ⟨x.toArray⟩]
  | .w t, x => t.vals x
  | .pr t u, x => t.vals x.1 ++ u.vals x.2
  | _, _ => []
def eqB : (t : Ty) → t.den → t.den → Bool
  | .i _, x, y => let a : Int := x; let b : Int := y; a == b
  | .b, x, y => let a : Bool := x; let b : Bool := y; a == b
  | .s, x, y => let a : List UInt8 := x; let b : List UInt8 := y; a == b
  | .w t, x, y => eqB t x y
  | .pr t u, x, y => eqB t x.1 y.1 && eqB u x.2 y.2
  | _, _, _ => true
theorem vals_len : ∀ (t : Ty) (x : t.den), t.flat = true → (t.vals x).length = t.wd
  | .i _, _, _ | .b, _, _ | .s, _, _ | .un, _, _ => rfl
  | .w t, x, h => vals_len t x h
  | .pr t u, x, h => by
    simp only [Ty.flat, Bool.and_eq_true] at h
    show (t.vals x.1 ++ u.vals x.2).length = t.wd + u.wd
    rw [List.length_append, vals_len t x.1 h.1, vals_len u x.2 h.2]
theorem enc_vals : ∀ (t : Ty) (x : t.den), t.flat = true → t.enc x = (t.vals x).map .sc
  | .i _, _, _ | .b, _, _ | .s, _, _ | .un, _, _ => rfl
  | .w t, x, h => enc_vals t x h
  | .pr t u, x, h => by
    simp only [Ty.flat, Bool.and_eq_true] at h
    show t.enc x.1 ++ u.enc x.2 = (t.vals x.1 ++ u.vals x.2).map .sc
    rw [List.map_append, enc_vals t x.1 h.1, enc_vals u x.2 h.2]
theorem scV_map (l : List Value) : scV (l.map .sc) = some l := by
  induction l with
  | nil => rfl
  | cons v l ih => simp only [List.map_cons, scV, ih]; rfl
theorem eqD_sem : ∀ (t : Ty) (x y : t.den) (e : Bool), eqD (A := sem) t x y = some e → e = eqB t x y
  | .i _, x, y, e, h | .b, x, y, e, h | .s, x, y, e, h => by cases h; rfl
  | .w t, x, y, e, h => eqD_sem t x y e h
  | .pr t u, x, y, e, h => by
    simp only [eqD, Option.bind_eq_some_iff, Option.map_eq_some_iff] at h
    obtain ⟨p, hp, q, hq, rfl⟩ := h
    show (p && q) = (eqB t x.1 y.1 && eqB u x.2 y.2)
    rw [eqD_sem t x.1 y.1 p hp, eqD_sem u x.2 y.2 q hq]
  | .un, x, y, e, h | .sl _, x, y, e, h | .pt _, x, y, e, h | .op _, x, y, e, h | .ar _ _, x, y, e, h | .sm _ _, x, y, e, h | .fn _ _ _, x, y, e, h | .nt, x, y, e, h => by simp [eqD] at h

section
variable {P : Program}
theorem eqVF_ok {rec_ : TypeId → Ty → Bool} {recV : TypeId → List Value → List Value → Option Bool} (hrec : ∀ T t, rec_ T t = true → t.flat = true → ∀ a b : t.den, recV T (t.vals a) (t.vals b) = some (eqB t a b)) :
    ∀ (fs : List Field) (o : Nat) (t : Ty) (a b : t.den) (px py : List Value), eqOkL P rec_ fs o t = true → t.flat = true → px.length = o → py.length = o → eqVF P recV fs (px ++ t.vals a) (py ++ t.vals b) = some (eqB t a b) := by
  have field : ∀ (f : Field) (fs : List Field) (o : Nat) (u : Ty) (a b : u.den) (px py rx ry : List Value) (q : Bool), (f.name != "_") = true → f.offset = o → P.cellsOf f.type = u.wd → aggO P f.type = some u.agg → rec_ f.type u = true → u.flat = true → px.length = o → py.length = o →
      eqVF P recV fs (px ++ (u.vals a ++ rx)) (py ++ (u.vals b ++ ry)) = some q → eqVF P recV (f :: fs) (px ++ (u.vals a ++ rx)) (py ++ (u.vals b ++ ry)) = some (eqB u a b && q) := by
    intro f fs o u a b px py rx ry q h1 h2 h3 h4 h5 h6 h7 h8 h9
    have l1 := vals_len u a h6
    have l2 := vals_len u b h6
    have e : ∀ (p r : List Value) (v : List Value), p.length = o → v.length = u.wd → ((p ++ (v ++ r)).drop f.offset).take (P.cellsOf f.type) = v := fun p r v hp hv => by
      rw [h2, h3, ← hp, List.drop_left, ← hv, List.take_left]
    unfold eqVF
    rw [if_neg (by simp at h1; simp [h1, h2, h3, h7, h8, l1, l2]), h4]
    simp only
    rw [if_neg (by
      rintro ⟨e1, e2⟩
      rw [h3] at e2
      exact e2 (wd_one e1 (flat_dat h6)))]
    rw [e px rx _ h7 l1, e py ry _ h8 l2, hrec _ _ h5 h6, h9]
  intro fs
  induction fs with
  | nil =>
    intro o t a b px py h hf hx hy
    simp only [eqOkL, decide_eq_true_eq] at h
    subst h
    simp [eqVF, eqB]
  | cons f fs ih =>
    intro o t a b px py h hf hx hy
    cases fs with
    | nil =>
      simp only [eqOkL, Bool.and_eq_true, decide_eq_true_eq] at h
      obtain ⟨⟨⟨⟨h1, h2⟩, h3⟩, h4⟩, h5⟩ := h
      have := field f [] o t a b px py [] [] true h1 h2 h3 h4 h5 hf hx hy (by simp [eqVF])
      simp only [List.append_nil, Bool.and_true] at this
      exact this
    | cons g fs =>
      cases t <;> simp only [eqOkL, Bool.and_eq_true, decide_eq_true_eq, Bool.false_eq_true] at h
      rename_i u v
      obtain ⟨⟨⟨⟨⟨h1, h2⟩, h3⟩, h4⟩, h5⟩, h6⟩ := h
      simp only [Ty.flat, Bool.and_eq_true] at hf
      have l1 := vals_len u a.1 hf.1
      have l2 := vals_len u b.1 hf.1
      have hr := ih (o + u.wd) v a.2 b.2 (px ++ u.vals a.1) (py ++ u.vals b.1) h6 hf.2 (by simp [hx, l1]) (by simp [hy, l2])
      rw [List.append_assoc, List.append_assoc] at hr
      exact field f (g :: fs) o u a.1 b.1 px py (v.vals a.2) (v.vals b.2) _ h1 h2 h3 h4 h5 hf.1 hx hy hr
theorem eqV_ok : ∀ (d : Nat) (T : TypeId) (t : Ty), eqOkT P d T t = true → t.flat = true → ∀ a b : t.den, eqV P d T (t.vals a) (t.vals b) = some (eqB t a b)
  | 0, T, t, h, _, _, _ => by simp [eqOkT] at h
  | d + 1, T, t, h, hf, a, b => by
    simp only [eqOkT] at h
    split at h
    · rename_i hT
      simp only [decide_eq_true_eq] at h; subst h
      simp only [eqV, hT, Ty.vals]; rfl
    · rename_i hT
      simp only [decide_eq_true_eq] at h; subst h
      simp only [eqV, hT, Ty.vals, if_true]; rfl
    · rename_i hT
      simp only [decide_eq_true_eq] at h; subst h
      simp only [eqV, hT, Ty.vals, ba_toList]; rfl
    · rename_i fs hT
      simp only [Bool.and_eq_true, Bool.not_eq_true'] at h
      obtain ⟨h1, h2⟩ := h
      have go : ∀ t : Ty, t.flat = true → ∀ a b : t.den, eqOkL P (eqOkT P d) fs.toList 0 t = true → eqV P (d + 1) T (t.vals a) (t.vals b) = some (eqB t a b) := fun t hf a b h2 => by
        have := eqVF_ok (P := P) (fun T t h hf a b => eqV_ok d T t h hf a b) fs.toList 0 t a b [] [] h2 hf rfl rfl
        simp only [List.nil_append] at this
        unfold eqV
        rw [hT]
        simp only [h1, Bool.false_eq_true, if_false]
        exact this
      split at h2
      · rename_i f u e
        rw [← e] at h2
        exact go u hf a b h2
      · cases h2
      · exact go _ hf a b h2
    · cases h

variable {κ κ' : Nat → Option Nat} {ln ln' : Nat → Nat} {z z' : AH} {c : Cx sem} {s : TS sem} {env : Env} {h h' : AH} {n n' N N' : Nat}
variable {ρ : Ty} {Kf : TV sem → TS sem → sem.Ans ρ} {r : ρ.den}
variable {d : Option Tmp} {ty : TypeId} {pos : String} {after : Array Edge} {g : Option (Nat × Bool)}

theorem flat_snap (R : Rel P κ ln z c s env h n) {t : Ty} {v : TV sem} {a : AV} (hf : t.flat = true) (ha : t.agg = true) (hv : TVR P κ ln z s.n v a) {x : t.den} (hs : snapV (A := sem) c s t v = some (x, [])) : a = .ag (t.enc x) := by
  obtain ⟨_, h1, _⟩ := snapV_sound R hv hs
  rw [av_agg ha] at h1
  obtain ⟨cs, rfl, h2⟩ := h1.ag_inv
  rw [enc_vals t x hf] at h2 ⊢
  have : ∀ (l : List Value) (cs : List AV), SnapL (hz κ h z []) cs (l.map .sc) → cs = l.map .sc := by
    intro l
    induction l with
    | nil => intro cs h; cases h; rfl
    | cons v l ih =>
      intro cs h
      cases h with
      | cons k1 k2 => rw [k1.sc_inv, ih _ k2]; rfl
  rw [this _ _ h2]

theorem binX_sound (R : Rel P κ ln z c s env h n) {op : BinOp} {T T2 : TypeId} {x y : Operand} {u v : TV sem} (hu : TVR P κ ln z s.n u (ev env x)) (hv : TVR P κ ln z s.n v (ev env y)) (hk : binX P c s op T u v Kf = some r) : Res P κ ln z c s env h n ⟨d, .binOp op T x y T2, ty, pos, after, g⟩ Kf r := by
  have hk0 := hk
  unfold binX at hk
  split at hk
  · exact binX_int R hu.i_inv hv.i_inv hk0
  · exact binX_str R hu.s_inv hv.s_inv hk0
  · split at hk
    · rename_i a b ha hb
      have h1 := hu.getB_inv ha
      have h2 := hv.getB_inv hb
      split at hk
      · rename_i hT
        replace hT := isBoolT_eq hT
        split at hk
        · exact R.q (fun K hk => by simp only [aop, h1, h2, abin]; exact ⟨hT, hk⟩) (.bool _) hk
        · exact R.q (fun K hk => by simp only [aop, h1, h2, abin]; exact ⟨hT, hk⟩) (.bool _) hk
        · exact semfail hk
      · exact semfail hk
    · split at hk
      · rename_i t ht
        split at hk
        · rename_i hc
          simp only [Bool.and_eq_true, Bool.not_eq_true', decide_eq_true_eq] at hc
          obtain ⟨⟨⟨⟨hf, ha⟩, hok⟩, hgd⟩, hag⟩ := hc
          split at hk
          · rename_i a b hsa hsb
            have h1 := flat_snap R hf ha hu hsa
            have h2 := flat_snap R hf ha hv hsb
            have hcmp := fun e (he : e = eqB t a b) => cmp_of (P := P) (h := h) (T := T) (as := t.enc a) (bs := t.enc b) (xs := t.vals a) (ys := t.vals b) (d := 9) (r := eqB t a b) (r' := e) (by decide) hag hgd (by rw [enc_vals t a hf, scV_map]) (by rw [enc_vals t b hf, scV_map]) (eqV_ok 9 T t hok hf a b) he.symm
            split at hk
            · rename_i e he
              have := hcmp e (eqD_sem t a b e he)
              exact R.q (fun K hk => by simp only [aop, h1, h2]; exact b_steql this hk) (.bool _) hk
            · rename_i e he
              have := hcmp e (eqD_sem t a b e he)
              exact R.q (fun K hk => by simp only [aop, h1, h2]; exact b_stneq this hk) (.bool _) hk
            · exact semfail hk
          · exact semfail hk
        · exact semfail hk
      · exact semfail hk
end
end Go.Abs

/- The typed machine is sound, thirteenth part: one operation, whatever it is; regions in the order of the text. -/
set_option linter.unusedSimpArgs false
set_option linter.unusedVariables false
set_option linter.constructorNameAsVariable false
namespace Go.Abs
open Go Go.RowKit

section
variable {P : Program} {κ κ' : Nat → Option Nat} {ln ln' : Nat → Nat} {z z' : AH} {c : Cx sem} {s : TS sem} {env : Env} {h h' : AH} {n n' N N' : Nat}
variable {ρ : Ty} {Kf : TV sem → TS sem → sem.Ans ρ} {r : ρ.den}

theorem arr_of {α : Type} {a : Array α} {l : List α} (h : a.toList = l) : a = l.toArray := by rw [← h]

theorem pickM_mem {Δ : List (FuncId × Ctr)} {args : List (TV sem)} {M : CtrM} : ∀ {l : List CtrM}, pickM c Δ s args l = some M → M ∈ l
  | [], h => by cases h
  | C :: l, h => by
    unfold pickM at h
    split at h
    · cases h; exact List.mem_cons_self ..
    · exact List.mem_cons_of_mem _ (pickM_mem h)
theorem snapAs_len {Δ : List (FuncId × Ctr)} : ∀ {ts : List Ty} {vs : List (TV sem)} {l : List ((t : Ty) × t.den)} {ids : List Nat}, snapAs (A := sem) c Δ s ts vs = some (l, ids) → l.length = ts.length
  | [], [], l, ids, hs => by cases hs; rfl
  | [], _ :: _, l, ids, hs => by simp [snapAs] at hs
  | _ :: _, [], l, ids, hs => by simp [snapAs] at hs
  | t :: ts, v :: vs, l, ids, hs => by
    simp only [snapAs, Option.bind_eq_some_iff, Option.map_eq_some_iff] at hs
    obtain ⟨⟨x, i1⟩, hx, ⟨l', i2⟩, hl, he⟩ := hs
    cases he
    simp [snapAs_len hl]
theorem callMX_sound {Δ : List (FuncId × Ctr)} (hΔ : Goods P Δ) {g : FuncId} {C : CtrM} (hok : C.ok = true) (hG : GoodM P g C) (R : Rel P κ ln z c s env h n) {args : List (TV sem)} {as : List AV} (hargs : TVRs P κ ln z s.n args as) (hk : callMX c Δ s C args Kf = some r) {K : K3}
    (hK : ∀ tv s' v h' n' κ' ln', Kf tv s' = some r → Ke s.n κ ln κ' ln' → s.n ≤ s'.n → Rel P κ' ln' ahN c s' env h' n' → TVR P κ' ln' ahN s'.n tv v → s'.env = s.env → K v h' n') : HC P g as h n K := by
  unfold callMX at hk
  split at hk
  · exact semfail hk
  · rename_i hcond
    simp only [Bool.or_eq_true, decide_eq_true_eq, Bool.not_eq_true', not_or, Bool.not_eq_true, Bool.not_eq_false, ne_eq, Decidable.not_not] at hcond
    obtain ⟨⟨hlen, hdy⟩, _⟩ := hcond
    split at hk
    · rename_i l hl
      split at hk
      · rename_i m hm
        split at hk
        · rename_i hchk
          rw [Bool.and_eq_true, Bool.and_eq_true] at hchk
          split at hk
          · rename_i a ha
            obtain ⟨y, hy, hk⟩ := Option.bind_eq_some_iff.1 hk
            dsimp only at hk
            split at hk
            · rename_i hu
              rw [Bool.and_eq_true] at hu
              have hz0 := R.dy hdy
              obtain ⟨bs, g1, g2, g3⟩ := snapAs_sound hΔ R _ _ _ (pure_tv C.ks hargs) hl
              subst hz0
              refine callM_core hG hok R hdy hargs hlen (snapAs_len hl) g1 g2 g3 hm (by simpa [List.isEmpty_iff] using hchk.1.1) hchk.1.2 hchk.2 ha hy hu.1 hu.2 fun v h' n' κ' ln' h0 h1 h2 => hK _ _ v h' n' κ' ln' hk h0 (Nat.le_add_right _ _) h1 h2 rfl
            · exact semfail hk
          · exact semfail hk
        · exact semfail hk
      · exact semfail hk
    · exact semfail hk
theorem xop_sound {Δ : List (FuncId × Ctr)} (hΔ : Goods P Δ) (R : Rel P κ ln z c s env h n) (o : Oper) (hk : xop P c Δ s o Kf = some r) : Res P κ ln z c s env h n o Kf r := by
  obtain ⟨d, op, ty, pos, after, g⟩ := o
  unfold xop at hk
  simp only at hk
  split at hk
  · rename_i x; exact moveX_sound (o := ⟨d, .move x, ty, pos, after, g⟩) rfl R (R.ev x) (fun K hk => by simp only [aop]; exact hk) hk
  · rename_i x; exact moveX_sound (o := ⟨d, .assign x, ty, pos, after, g⟩) rfl R (R.ev x) (fun K hk => by simp only [aop]; exact hk) hk
  · rename_i x a b
    have hx := R.ev x
    split at hk
    · rename_i t he
      rw [he] at hx
      generalize hev : ev env x = av at hx
      cases hx
      cases t
      · exact R.q (fun K hk => by simp only [aop, hev]; exact hk) (R.ev b) hk
      · exact R.q (fun K hk => by simp only [aop, hev]; exact hk) (R.ev a) hk
    · rename_i y he
      rw [he] at hx
      have hev := hx.b_inv
      rcases ite_some hk with ⟨hb, hk⟩ | ⟨hb, hk⟩
      · rw [hb] at hev; exact R.q (fun K hk => by simp only [aop, hev]; exact hk) (R.ev a) hk
      · rw [hb] at hev; exact R.q (fun K hk => by simp only [aop, hev]; exact hk) (R.ev b) hk
    · exact semfail hk
  · exact allocX_sound R hk
  · exact boxX_sound R (R.ev _) hk
  · exact loadX_sound R (R.ev _) hk
  · exact storeX_sound R (R.ev _) (R.ev _) hk
  · exact nilX_sound R (R.ev _) hk
  · exact binX_sound R (R.ev _) (R.ev _) hk
  · exact unX_sound R (R.ev _) hk
  · exact convX_sound R (R.ev _) hk
  · rename_i f first caps
    split at hk
    · rename_i hfi
      have hf : first = #[] := by simpa [Array.isEmpty_iff] using hfi
      refine R.q (fun K hk => by simp only [aop]; exact ⟨hf, hk⟩) (.fn f _ (caps.toList.map (ev env)) ?_) hk
      generalize caps.toList = l
      induction l with
      | nil => exact .nil
      | cons x l ih => exact .cons _ _ _ _ (R.ev x) ih
    · exact semfail hk
  · exact makeSliceX_sound R hk
  · exact sliceX_sound R (R.ev _) hk
  · exact fieldAddrX_sound R (R.ev _) hk
  · exact fieldX_sound R (R.ev _) hk
  · exact idxAddrX_sound R (R.ev _) (R.ev _) hk
  · exact idxX_sound R (R.ev _) (R.ev _) hk
  · rename_i x i
    have hx := R.ev x
    split at hk
    · rename_i vs he
      rw [he] at hx
      generalize hev : ev env x = av at hx
      cases hx with
      | tp _ as hvs =>
        split at hk
        · rename_i v hv
          obtain ⟨a, ha, hva⟩ := hvs.at hv
          exact R.q (fun K hk => s_ext hev ha hk) hva hk
        · exact semfail hk
    · exact semfail hk
  · exact buildX_sound R hk
  · exact buildSliceX_sound R hk
  · exact makeMapX_sound R hk
  · exact lookupX_sound R (R.ev _) (R.ev _) hk
  · exact mapUpdX_sound R (R.ev _) (R.ev _) (R.ev _) hk
  · rename_i l
    obtain ⟨callee, args, ts⟩ := l
    split at hk
    · rename_i b hb
      simp only at hb
      subst hb
      split at hk
      · rename_i x T h1 h2
        obtain rfl := arr_of h1
        obtain rfl := arr_of h2
        exact lenX_sound R (R.ev _) hk
      · rename_i x y T T2 h1 h2
        obtain rfl := arr_of h1
        obtain rfl := arr_of h2
        exact appX_sound R (R.ev _) (R.ev _) hk
      · rename_i x y T T2 h1 h2
        obtain rfl := arr_of h1
        obtain rfl := arr_of h2
        exact copyX_sound R (R.ev _) (R.ev _) hk
      · rename_i x y h1
        obtain rfl := arr_of h1
        exact mmX_sound (mx := false) R (R.ev _) (R.ev _) hk
      · rename_i x y h1
        obtain rfl := arr_of h1
        exact mmX_sound (mx := true) R (R.ev _) (R.ev _) hk
      · exact semfail hk
    · rename_i f hf
      exact callX_sound hΔ R hf hk
    · exact semfail hk
  · exact semfail hk

/-- calls of functions that change blocks: what they answer isn't known ahead -/
theorem xopM_sound {Δ : List (FuncId × Ctr)} (hΔ : Goods P Δ) (R : Rel P κ ln z c s env h n) (o : Oper) (hk : xopM P c Δ s o Kf = some r) {K : K3}
    (hK : ∀ tv s' v h' n' κ' ln' z', Kf tv s' = some r → Ke s.n κ ln κ' ln' → s.n ≤ s'.n → Rel P κ' ln' z' c s' env h' n' → TVR P κ' ln' z' s'.n tv v → s'.env = s.env → K v h' n') : aop P env h n o K := by
  unfold xopM at hk
  split at hk
  · rename_i M args hu
    obtain ⟨d, op, ty, pos, after, g⟩ := o
    unfold useM at hu
    simp only at hu
    split at hu
    · rename_i l
      split at hu
      · rename_i f hf
        split at hu
        · rename_i gg caps hfe
          split at hu
          · rename_i C hC
            obtain ⟨M', hM, he⟩ := Option.map_eq_some_iff.1 hu
            cases he
            have hG := (hΔ.at hC).2.2 M (pickM_mem hM)
            have hargs : TVRs P κ ln z s.n (l.args.toList.map (tev c s)) (l.args.toList.map (ev env)) := by
              generalize l.args.toList = xs
              induction xs with
              | nil => exact .nil
              | cons x xs ih => exact .cons _ _ _ _ (R.ev x) ih
            have hff := R.ev f
            rw [hfe] at hff
            obtain ⟨as, hfa, hcaps⟩ := hff.fn_inv
            refine s_call hf hfa rfl (callMX_sound hΔ hG.1 hG.2 R (hargs.append hcaps) hk fun tv s' v h' n' κ' ln' h1 h2 h3 h4 h5 h6 => hK tv s' v h' n' κ' ln' ahN h1 h2 h3 h4 h5 h6)
          · cases hu
        · cases hu
      · cases hu
    · cases hu
  · obtain ⟨tv, s', v, h', n', κ', ln', z', g1, g2, g3, g4, g5, g6, g7, _⟩ := xop_sound hΔ R o hk
    exact g1 _ (hK tv s' v h' n' κ' ln' z' g2 g7 g6 g3 g4 g5)
theorem Rel.putT (R : Rel P κ ln z c s env h n) {v : TV sem} {a : AV} (hv : TVR P κ ln z s.n v a) (d : Option Tmp) (hd : ∀ x, d = some x → alk c.e0 x = none) : Rel P κ ln z c (Abs.putT s d v) (putE env d a) h n := by
  cases d with
  | none => exact R
  | some d =>
    refine ⟨fun x => ?_, R.blk, R.lt, R.inj, R.zin, R.zout, R.bnd, R.hn, fun x v' hx => ?_, R.g, R.dy, R.zk⟩
    · show TVR P κ ln z s.n (tlk c { s with env := (d, v) :: s.env } x) (if x = d then a else lk env x)
      unfold tlk
      simp only [alk]
      by_cases hxd : x = d
      · rw [if_pos hxd, if_pos hxd]; exact hv
      · rw [if_neg hxd, if_neg hxd]; exact R.env x
    · simp only [Abs.putT, alk] at hx
      split at hx
      · rename_i e; subst e; exact hd _ rfl
      · exact R.e0 x v' hx
theorem okD_spec {ds : List (Option Tmp)} (h : okD c ds = true) {j : Nat} {x : Tmp} (hj : slotOf ds j = some x) : alk c.e0 x = none := by
  unfold slotOf at hj
  cases hd : ds[j]? with
  | none => rw [hd] at hj; cases hj
  | some d =>
    rw [hd] at hj
    simp only [Option.bind_some, id] at hj
    subst hj
    have := List.all_eq_true.1 h _ (List.mem_of_getElem? hd)
    simpa using this
theorem okD_mem {ds : List (Option Tmp)} (h : okD c ds = true) {d : Option Tmp} (hd : d ∈ ds) : ∀ x, d = some x → alk c.e0 x = none := fun x hx => by
  subst hx
  have := List.all_eq_true.1 h _ hd
  simpa using this

theorem Rel.again {env' : Env} (R : Rel P κ ln z c s env h n) (he : ∀ x, lk env' x = lk env x) : Rel P κ ln z c s env' h n :=
  ⟨fun x => by rw [he]; exact R.env x, R.blk, R.lt, R.inj, R.zin, R.zout, R.bnd, R.hn, R.e0, R.g, R.dy, R.zk⟩
/-- a state with a slot known -/
theorem Rel.know (R : Rel P κ ln z c s env h n) {d : Tmp} {v : TV sem} {a : AV} (hv : TVR P κ ln z s.n v a) (hd : alk c.e0 d = none) : Rel P κ ln z c { s with env := (d, v) :: s.env } ((d, a) :: env) h n :=
  R.putT hv (some d) fun x hx => by cases hx; exact hd

theorem putT_n {d : Option Tmp} {v : TV sem} : (Abs.putT s d v).n = s.n := by cases d <;> rfl
theorem xops_sound {Δ : List (FuncId × Ctr)} (hΔ : Goods P Δ) {ds : List (Option Tmp)} (hds : okD c ds = true) {Kf : TS sem → sem.Ans ρ} {K : St → Prop} {N0 : Nat} {κ0 : Nat → Option Nat} {ln0 : Nat → Nat} (hK : ∀ κ ln z s' env' h' n', Ke N0 κ0 ln0 κ ln → Rel P κ ln z c s' env' h' n' → Kf s' = some r → K ⟨env', h', n'⟩) :
    ∀ (l : List Oper) {κ : Nat → Option Nat} {ln : Nat → Nat} {z : AH} {s : TS sem} {env : Env} {h : AH} {n : Nat}, Ke N0 κ0 ln0 κ ln → N0 ≤ s.n → (∀ o ∈ l, o.dst ∈ ds) → Rel P κ ln z c s env h n → xops P c Δ ds l s Kf = some r → aops P ds l ⟨env, h, n⟩ K
  | [], κ, ln, z, s, env, h, n, ke, kn, _, R, hk => hK _ _ _ _ _ _ _ ke R hk
  | o :: l, κ, ln, z, s, env, h, n, ke, kn, hl, R, hk => by
    have hl' : ∀ o ∈ l, o.dst ∈ ds := fun o ho => hl o (List.mem_cons_of_mem _ ho)
    have hod := okD_mem hds (hl o (List.mem_cons_self ..))
    have one : ∀ {κ : Nat → Option Nat} {ln : Nat → Nat} {z : AH} {s : TS sem} {env : Env} {h : AH} {n : Nat}, Ke N0 κ0 ln0 κ ln → N0 ≤ s.n → Rel P κ ln z c s env h n → (xopM P c Δ s o fun v s' => xops P c Δ ds l (putT s' o.dst v) Kf) = some r → aop P env h n o fun v h n => aops P ds l ⟨putE env o.dst v, h, n⟩ K := fun {κ ln z s env h n} ke kn R hk => by
      exact xopM_sound hΔ R o hk fun tv s' v h' n' κ' ln' z' g2 g6 g7 g3 g4 g5 => xops_sound hΔ hds hK l (ke.trans g6 kn) (by rw [putT_n]; omega) hl' (g3.putT g4 o.dst hod) g2
    simp only [xops] at hk
    simp only [aops]
    cases hg : o.guard with
    | none =>
      rw [hg] at hk
      exact one ke kn R hk
    | some jw =>
      obtain ⟨j, want⟩ := jw
      rw [hg] at hk
      simp only at hk ⊢
      cases hs : slotOf ds j with
      | none => rw [hs] at hk; exact semfail hk
      | some d =>
        rw [hs] at hk
        simp only at hk ⊢
        have hde := okD_spec hds hs
        have hv := R.env d
        generalize htl : tlk c s d = tv at hv hk
        generalize hlk : lk env d = a at hv
        cases hv <;> first | exact semfail hk | skip
        · -- ud
          exact xops_sound hΔ hds hK l ke (by rw [putT_n]; exact kn) hl' (R.putT .ud o.dst hod) hk
        · -- c
          rename_i t x hd hs2
          cases t <;> first | exact semfail hk | skip
          obtain rfl := hs2.sc_inv
          have k1 : ∀ w : Bool, x = w → Rel P κ ln z c { s with env := (d, .kb w) :: s.env } ((d, .sc (.bool w)) :: env) h n := fun w hw => R.know (.kb w) hde
          dsimp only at hk
          cases want
          · simp only [Bool.false_eq_true, if_false] at hk
            rcases ite_some hk with ⟨hb, hk⟩ | ⟨hb, hk⟩
            · refine ⟨fun e => ?_, fun _ => ?_⟩
              · exact absurd (hb.symm.trans e) (by decide)
              · exact xops_sound hΔ hds hK l ke (by rw [putT_n]; exact kn) hl' ((k1 true hb).putT .ud o.dst hod) hk
            · refine ⟨fun _ => ?_, fun e => ?_⟩
              · exact one ke (by exact kn) (k1 false hb) hk
              · exact absurd (hb.symm.trans e) (by decide)
          · simp only [if_true] at hk
            rcases ite_some hk with ⟨hb, hk⟩ | ⟨hb, hk⟩
            · refine ⟨fun _ => ?_, fun e => ?_⟩
              · exact one ke (by exact kn) (k1 true hb) hk
              · exact absurd (hb.symm.trans e) (by decide)
            · refine ⟨fun e => ?_, fun _ => ?_⟩
              · exact absurd (hb.symm.trans e) (by decide)
              · exact xops_sound hΔ hds hK l ke (by rw [putT_n]; exact kn) hl' ((k1 false hb).putT .ud o.dst hod) hk
        · -- kb
          rename_i b
          dsimp only at hk
          have ag : Rel P κ ln z c s ((d, .sc (.bool b)) :: env) h n := R.again fun x => by
            show (if x = d then _ else lk env x) = _
            split
            · rename_i e; rw [e, hlk]
            · rfl
          split at hk
          · rename_i hbw
            subst hbw
            refine ⟨fun _ => one ke (by exact kn) ag hk, fun e => ?_⟩
            cases b <;> cases e
          · rename_i hbw
            refine ⟨fun e => absurd e hbw, fun e => ?_⟩
            rw [← e]
            exact xops_sound hΔ hds hK l ke (by rw [putT_n]; exact kn) hl' (ag.putT .ud o.dst hod) hk
end
end Go.Abs
