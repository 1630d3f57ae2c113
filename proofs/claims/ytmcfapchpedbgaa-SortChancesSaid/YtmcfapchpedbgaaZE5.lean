/- Structs that are compared. -/
import Derived.Test.YtmcfapchpedbgaaZE4
import Derived.Laws.StructEq
set_option linter.unusedSimpArgs false
set_option linter.unusedVariables false
namespace Go.Abs
open Go Go.RowKit

/-- a value of a type out of its cells -/
def voC (P : Program) (t : TypeId) (xs : List Value) : Value :=
  match aggO P t with
  | some true => .agg xs.toArray
  | _ => xs.headD undef

/-- the fields, compared -/
def eqVF (P : Program) (rec_ : TypeId → List Value → List Value → Option Bool) : List Field → List Value → List Value → Option Bool
  | [], _, _ => some true
  | f :: fs, xs, ys => if f.name = "_" ∨ xs.length < f.offset + P.cellsOf f.type ∨ ys.length < f.offset + P.cellsOf f.type then none else
    match aggO P f.type with
    | none => none
    | some ag => if ag = false ∧ P.cellsOf f.type ≠ 1 then none else
      match rec_ f.type ((xs.drop f.offset).take (P.cellsOf f.type)) ((ys.drop f.offset).take (P.cellsOf f.type)), eqVF P rec_ fs xs ys with
      | some r, some s => some (r && s)
      | _, _ => none
/-- the comparison of cells -/
def eqV (P : Program) : Nat → TypeId → List Value → List Value → Option Bool
  | 0, _, _, _ => none
  | d + 1, t, xs, ys => match P.underlying t, xs, ys with
    | some .bool, [.bool a], [.bool b] => some (a == b)
    | some (.int _), [.int k a], [.int k' b] => if k = k' then some (a == b) else none
    | some .string, [.string a], [.string b] => some (a.toList == b.toList)
    | some (.struct fs), xs, ys => if P.stoodInHeld t then none else eqVF P (eqV P d) fs.toList xs ys
    | _, _, _ => none

theorem part_run {P : Program} {w : World} {e : TypeId} {X : Array Value} {o : Nat} {ag : Bool} (ha : aggO P e = some ag) (hl : o + P.cellsOf e ≤ X.size) (h1 : ag = false → P.cellsOf e = 1) : (part e X o).run P w = .ok (voC P e ((X.toList.drop o).take (P.cellsOf e))) w := by
  obtain ⟨i, hi⟩ := aggO_info ha
  cases ag with
  | true =>
    simp only [part, Sem.run_bind, run_isAgg ha, Result.andThen_ok, if_true, run_sizeOf hi, Sem.run_pure, voC, ha]
    congr 1
    congr 1
    apply Array.ext'
    rw [Array.toList_extract]; simp [List.extract]
  | false =>
    have hs := h1 rfl
    have ho : o < X.size := by omega
    simp only [part, Sem.run_bind, run_isAgg ha, Result.andThen_ok, Bool.false_eq_true, if_false, voC, ha, hs]
    have : X[o]? = some X[o] := Array.getElem?_eq_getElem ho
    have h2 : (X.toList.drop o).take 1 = [X[o]] := by
      rw [List.drop_eq_getElem_cons (by simpa using ho)]; simp
    rw [h2]
    simp [this]

theorem eqV_eqVF (P : Program) : ∀ (d : Nat), (∀ t xs ys r, eqV P d t xs ys = some r → ∀ D w, (Op.equalIn (D + d) t (voC P t xs) (voC P t ys)).run P w = .ok r w) ∧
    (∀ fs (X Y : Array Value) r, eqVF P (eqV P d) fs X.toList Y.toList = some r → ∀ D w, (Op.eqFields (D + d) X Y fs).run P w = .ok r w)
  | 0 => by
    refine ⟨fun t xs ys r h => by simp [eqV] at h, fun fs X Y r h D w => ?_⟩
    cases fs with
    | nil => simp [eqVF] at h; subst h; simp [Op.eqFields]
    | cons f fs =>
      unfold eqVF at h
      split at h
      · cases h
      · split at h
        · cases h
        · split at h
          · cases h
          · simp [eqV] at h
  | d + 1 => by
    obtain ⟨ih1, ih2⟩ := eqV_eqVF P d
    have first : ∀ t xs ys r, eqV P (d + 1) t xs ys = some r → ∀ D w, (Op.equalIn (D + (d + 1)) t (voC P t xs) (voC P t ys)).run P w = .ok r w := by
      intro t xs ys r h D w
      unfold eqV at h
      split at h
      · rename_i a b hu
        cases h
        have hag : aggO P t = some false := by simp [aggO, hu]
        simp only [voC, hag, List.headD_cons]
        exact run_equalIn_bool w (D + d) t a b hu
      · rename_i k0 k a k' b hu
        split at h
        · rename_i hk; subst hk; cases h
          have hag : aggO P t = some false := by simp [aggO, hu]
          simp only [voC, hag, List.headD_cons]
          exact run_equalIn_int w (D + d) t k k0 a b hu
        · cases h
      · rename_i a b hu
        cases h
        have hag : aggO P t = some false := by simp [aggO, hu]
        simp only [voC, hag, List.headD_cons]
        exact run_equalIn_string w (D + d) t a b hu
      · rename_i fs hu
        split at h
        · cases h
        · rename_i hp
          have hag : aggO P t = some true := by simp [aggO, hu]
          have hf : P.fieldsOf t = fs := by simp [Program.fieldsOf, hu]
          simp only [voC, hag]
          rw [show D + (d + 1) = (D + d) + 1 from rfl, run_equalIn_struct w (D + d) t _ _ (by rw [hf]; exact hu) (by simpa using hp), hf]
          exact ih2 fs.toList _ _ r (by simpa using h) D w
      · cases h
    refine ⟨first, ?_⟩
    intro fs
    induction fs with
    | nil => intro X Y r h D w; simp [eqVF] at h; subst h; simp [Op.eqFields]
    | cons f fs ihf =>
      intro X Y r h D w
      unfold eqVF at h
      split at h
      · cases h
      · rename_i hc
        split at h
        · cases h
        · rename_i ag hag
          split at h
          · cases h
          · rename_i h1
            split at h
            · rename_i r1 s1 e1 e2
              cases h
              have hn : f.name ≠ "_" := fun e => hc (.inl e)
              have hx : f.offset + P.cellsOf f.type ≤ X.size := by
                have := fun e => hc (.inr (.inl e)); simpa using this
              have hy : f.offset + P.cellsOf f.type ≤ Y.size := by
                have := fun e => hc (.inr (.inr e)); simpa using this
              have hag1 : ag = false → P.cellsOf f.type = 1 := fun e => by
                apply Classical.byContradiction; intro hne; exact h1 ⟨e, hne⟩
              have q1 := first _ _ _ _ e1 D w
              have q2 := ihf X Y s1 e2 D w
              simp only [Op.eqFields, hn, ne_eq, not_false_eq_true, if_true, Sem.run_bind, part_run hag hx hag1, part_run hag hy hag1, Result.andThen_ok, q1]
              cases r1
              · simp
              · simpa using q2
            · cases h

/-- cells that are numbers, bools and strings -/
def scV : List AV → Option (List Value)
  | [] => some []
  | .sc v :: l => (scV l).map (v :: ·)
  | _ => none
theorem scV_vr {w : World} {O : Nat → Prop} {μ : Mu} {n : Nat} : ∀ {cs : List AV} {vs : List Value} (us : List Value), scV cs = some vs → us.length = cs.length → (∀ (j : Nat) (c : AV), cs[j]? = some c → ∃ u, us[j]? = some u ∧ VR w O μ n c u) → us = vs
  | [], vs, us, h, hl, hv => by simp [scV] at h; subst h; exact List.eq_nil_of_length_eq_zero hl
  | c :: cs, vs, us, h, hl, hv => by
    cases c with
    | sc v =>
      simp only [scV, Option.map_eq_some_iff] at h
      obtain ⟨vs', h1, rfl⟩ := h
      cases us with
      | nil => simp at hl
      | cons u us =>
        obtain ⟨u', e, hu⟩ := hv 0 _ rfl
        simp at e; subst e
        rw [hu.sc_inv, scV_vr us h1 (by simpa using hl) fun j c hj => by simpa using hv (j + 1) c (by simpa using hj)]
    | _ => simp [scV] at h

theorem cmp_of {P : Program} {h : AH} {T : TypeId} {as bs : List AV} {xs ys : List Value} {d : Nat} {r r' : Bool} (hd : d ≤ Op.maxDepth) (hag : aggO P T = some true) (hg : P.eqGuardType P.depth T = false) (hx : scV as = some xs) (hy : scV bs = some ys) (he : eqV P d T xs ys = some r) (hr : r = r') :
    Cmp P h .eql T (.ag as) (.ag bs) r' ∧ Cmp P h .neq T (.ag as) (.ag bs) (!r') := by
  subst hr
  have key : ∀ (w : World) (O : Nat → Prop) (μ : Mu) (n : Nat) (u v : Value), VR w O μ n (.ag as) u → VR w O μ n (.ag bs) v → ∃ X Y : Array Value, u = .agg X ∧ v = .agg Y ∧ (Op.equal T (.agg X) (.agg Y)).run P w = .ok r w := by
    intro w O μ n u v hu hv
    obtain ⟨X, rfl, hX, hX2⟩ := hu.ag_cells
    obtain ⟨Y, rfl, hY, hY2⟩ := hv.ag_cells
    have eX := scV_vr X.toList hx (by simpa using hX) fun j c hj => by
      obtain ⟨_, y, h1, h2⟩ := hX2 j c hj; exact ⟨y, by simpa using h1, h2⟩
    have eY := scV_vr Y.toList hy (by simpa using hY) fun j c hj => by
      obtain ⟨_, y, h1, h2⟩ := hY2 j c hj; exact ⟨y, by simpa using h1, h2⟩
    subst eX; subst eY
    refine ⟨X, Y, rfl, rfl, ?_⟩
    have := (eqV_eqVF P d).1 T _ _ r he (Op.maxDepth - d) w
    rw [Nat.sub_add_cancel hd] at this
    have e : ∀ Z : Array Value, Z.toList.toArray = Z := fun Z => rfl
    simp only [voC, hag, e] at this
    exact this
  constructor
  all_goals
    intro w O μ n u v X Y hr hu hv
    obtain ⟨A, B, rfl, rfl, hq⟩ := key w O μ n u v hu hv
    simp [eqGuard, hg, binOp, hq]

section
variable {P : Program} {h : AH} {T : TypeId} {as bs : List AV} {b : Bool} {F : AV → Prop}
theorem b_steql (hc : Cmp P h .eql T (.ag as) (.ag bs) b ∧ Cmp P h .neq T (.ag as) (.ag bs) (!b)) (hk : F (.sc (.bool b))) : abin P h .eql T (.ag as) (.ag bs) F := ⟨b, hc.1, hk⟩
theorem b_stneq (hc : Cmp P h .eql T (.ag as) (.ag bs) b ∧ Cmp P h .neq T (.ag as) (.ag bs) (!b)) (hk : F (.sc (.bool (!b)))) : abin P h .neq T (.ag as) (.ag bs) F := ⟨!b, hc.2, hk⟩
end
end Go.Abs
