/- Regions in the order of the text; functions; contracts of functions that only read. -/
import Derived.Test.YtmcfapchpedbgaaZB4
set_option linter.unusedSimpArgs false
set_option linter.unusedVariables false
namespace Go.Abs
open Go Go.RowKit

def putE (env : Env) (d : Option Tmp) (v : AV) : Env :=
  match d with
  | some d => (d, v) :: env
  | none => env

def slotOf (ds : List (Option Tmp)) (j : Nat) : Option Tmp := (ds[j]?).bind id

def aops (P : Program) (ds : List (Option Tmp)) : List Oper → St → (St → Prop) → Prop
  | [], st, K => K st
  | o :: r, st, K =>
    match o.guard with
    | none => aop P st.env st.h st.n o (fun v h n => aops P ds r ⟨putE st.env o.dst v, h, n⟩ K)
    | some (j, want) => match slotOf ds j with
      | some d => match lk st.env d with
        | .sc (.bool b) => (b = want → aop P ((d, .sc (.bool want)) :: st.env) st.h st.n o (fun v h n => aops P ds r ⟨putE ((d, .sc (.bool want)) :: st.env) o.dst v, h, n⟩ K)) ∧
            (b = !want → aops P ds r ⟨putE ((d, .sc (.bool (!want))) :: st.env) o.dst .ud, st.h, st.n⟩ K)
        | .ud => aops P ds r ⟨putE st.env o.dst .ud, st.h, st.n⟩ K
        | _ => False
      | none => False

def dstsOk (N : Nat) (l : List Oper) : Bool := l.all fun o => match o.dst with | some d => decide (d < N) | none => true

section
variable {P : Program} {N : Nat} {D : List Deferred} {O : Nat → Prop} {Q : Exit → St → Prop} {st : St}

theorem SR.putE {μ μ' : Mu} {a : Act} {w w' : World} {h' : AH} {n' : Nat} {u : Value} {v : AV} (hs : SR N D O μ st a w) (hr : HR w' O μ' h' n') (he : Evo w μ st.n w' μ' n') (hv : VR w' O μ' n' v u) (d : Option Tmp) (hd : ∀ x, d = some x → x < N) :
    SR N D O μ' ⟨Abs.putE st.env d v, h', n'⟩ (a.put d u) w' := by
  cases d with
  | none => exact hs.step hr he
  | some d => exact hs.put hr he hv d (hd d rfl)

theorem guard_yields {μ : Mu} {a : Act} {w : World} (hs : SR N D O μ st a w) {l : List Oper} {j d : Nat} (hj : slotOf (l.map (·.dst)) j = some d) {v : AV} (hg : lk st.env d = v) : (∀ b, v = .sc (.bool b) → yielded l.toArray a.tmps j = some b) ∧ (v = .ud → yielded l.toArray a.tmps j = none) := by
  unfold slotOf at hj
  simp only [List.getElem?_map] at hj
  cases hl : l[j]? with
  | none => simp [hl] at hj
  | some o =>
    simp [hl] at hj
    have hv := hs.env d
    rw [hg] at hv
    constructor
    · rintro b rfl
      have hb := hv.bool_inv
      unfold yielded
      have hlt : d < a.tmps.size := by
        rcases Nat.lt_or_ge d a.tmps.size with h | h
        · exact h
        · simp [Array.getD_eq_getD_getElem?, Array.getElem?_eq_none h, undef] at hb
      simp only [List.getElem?_toArray, hl, Option.bind_some, hj]
      rw [Array.getElem?_eq_getElem hlt]
      rw [Array.getD_eq_getD_getElem?, Array.getElem?_eq_getElem hlt] at hb
      simp only [Option.getD_some] at hb
      rw [hb]
    · rintro rfl
      have hu : a.tmps.getD d undef = undef := by
        generalize a.tmps.getD d undef = u at hv
        cases hv; rfl
      unfold yielded
      simp only [List.getElem?_toArray, hl, Option.bind_some, hj]
      cases ht : a.tmps[d]? with
      | none => rfl
      | some u =>
        rw [Array.getD_eq_getD_getElem?, ht] at hu
        simp only [Option.getD_some] at hu
        rw [hu]
        rfl

/-- a slot's value said once more -/
theorem SR.again {μ : Mu} {a : Act} {w : World} (hs : SR N D O μ st a w) {d : Nat} {v : AV} (hv : lk st.env d = v) : SR N D O μ ⟨(d, v) :: st.env, st.h, st.n⟩ a w := by
  refine ⟨hs.hr, hs.size, hs.defers, fun s => ?_⟩
  simp only [lk]
  split
  · rename_i e; subst e; rw [← hv]; exact hs.env s
  · exact hs.env s

theorem aops_sound {l : List Oper} : ∀ (r : List Oper) (st : St) {μ : Mu} {a : Act} {w : World} {K : St → Prop} {Q' : Exit → Act → World → Prop}, dstsOk N r = true → SR N D O μ st a w → aops P (l.map (·.dst)) r st K →
    (∀ st' μ' a' w', K st' → SR N D O μ' st' a' w' → Evo w μ st.n w' μ' st'.n → Q' .normal a' w') → wpList P l.toArray Q' r a w
  | [], st, μ, a, w, K, Q', _, hs, hk, hq => wpList_nil (hq st μ a w hk hs hs.hr.refl)
  | o :: r, st, μ, a, w, K, Q', hd, hs, hk, hq => by
    simp only [dstsOk, List.all_cons, Bool.and_eq_true] at hd
    have hdo : ∀ x, o.dst = some x → x < N := fun x hx => by have := hd.1; rw [hx] at this; simpa using this
    have hd2 : dstsOk N r = true := hd.2
    have run : ∀ env, SR N D O μ ⟨env, st.h, st.n⟩ a w → aop P env st.h st.n o (fun v h n => aops P (l.map (·.dst)) r ⟨Abs.putE env o.dst v, h, n⟩ K) → o.wp P a w (wpList P l.toArray Q' r) Q' := fun env hs hk => by
      refine aop_sound hk hs.hr (fun x => hs.ev x) _ _ ?_
      intro u w' μ' v h' n' hk' hr' hv' he'
      exact aops_sound r ⟨Abs.putE env o.dst v, h', n'⟩ hd2 (hs.putE hr' he' hv' o.dst hdo) hk' fun st2 μ2 a2 w2 k2 s2 e2 => hq st2 μ2 a2 w2 k2 s2 (he'.trans e2)
    have skip : ∀ env, SR N D O μ ⟨env, st.h, st.n⟩ a w → aops P (l.map (·.dst)) r ⟨Abs.putE env o.dst .ud, st.h, st.n⟩ K → wpList P l.toArray Q' r (a.put o.dst undef) w := fun env hs hk =>
      aops_sound r ⟨Abs.putE env o.dst .ud, st.h, st.n⟩ hd2 (hs.putE hs.hr hs.hr.refl .ud o.dst hdo) hk fun st2 μ2 a2 w2 k2 s2 e2 => hq st2 μ2 a2 w2 k2 s2 e2
    simp only [aops] at hk
    unfold wpList
    cases hg : o.guard with
    | none =>
      simp only [hg] at hk
      rw [if_pos (by simp [Region.wanted, hg])]
      exact .inl (run st.env hs hk)
    | some jw =>
      obtain ⟨j, want⟩ := jw
      simp only [hg] at hk
      cases hj : slotOf (l.map (·.dst)) j with
      | none => simp only [hj] at hk
      | some d =>
        simp only [hj] at hk
        cases hga : lk st.env d with
        | ud =>
          obtain ⟨_, g2⟩ := guard_yields hs hj hga
          simp only [hga] at hk
          rw [if_neg (by simp [Region.wanted, hg, g2 rfl])]
          exact skip st.env hs hk
        | sc v =>
          cases v with
          | bool b =>
            obtain ⟨g1, _⟩ := guard_yields hs hj hga
            simp only [hga] at hk
            have hy := g1 b rfl
            by_cases hb : b = want
            · rw [if_pos (by simp [Region.wanted, hg, hy, hb])]
              exact .inl (run _ (hs.again (by rw [hga, hb])) (hk.1 hb))
            · have hb' : b = !want := by cases b <;> cases want <;> simp_all
              rw [if_neg (by simp [Region.wanted, hg, hy, hb])]
              exact skip _ (hs.again (by rw [hga, hb'])) (hk.2 hb')
          | _ => simp only [hga] at hk
        | _ => simp only [hga] at hk

theorem Sat.region {id : Nat} {l : List Oper} (hd : dstsOk N l = true) (h : aops P (l.map (·.dst)) l st (Q .normal)) : Sat P N D O (.region id l.toArray false) Q st := by
  intro μ a w hs
  refine wp_region_lit (aops_sound l st hd hs h ?_)
  exact fun st' μ' a' w' k s e => ⟨st', μ', k, s, e⟩

/-! ### functions -/
def aresult (P : Program) (h : AH) (env : Env) : ResultVar → Option AV
  | .tmp t => some (lk env t)
  | .cell x T => match deref h (lk env x) with
    | some cs => match aggO P T with
      | some true => if P.cellsOf T ≤ cs.length then some (.ag (cs.take (P.cellsOf T))) else none
      | some false => cs[0]?
      | none => none
    | none => none

def aresults (P : Program) (h : AH) (env : Env) (rs : List ResultVar) : Option AV :=
  match rs.mapM (aresult P h env) with
  | some [v] => some v
  | some vs => some (.tp vs)
  | none => none

def enterEnv (args : List AV) : Env := args.zipIdx.map fun (v, i) => (i, v)

theorem lk_enter (args : List AV) : ∀ (k s : Nat), lk ((args.zipIdx k).map fun (v, i) => (i, v)) s = if k ≤ s then (args[s - k]?).getD .un else .un := by
  induction args with
  | nil => intro k s; simp [lk]
  | cons v args ih =>
    intro k s
    simp only [List.zipIdx_cons, List.map_cons, lk]
    rw [ih]
    by_cases h : s = k
    · subst h; simp
    · rw [if_neg h]
      by_cases h2 : k ≤ s
      · rw [if_pos h2, if_pos (by omega), show s - k = (s - (k + 1)) + 1 by omega, List.getElem?_cons_succ]
      · rw [if_neg h2, if_neg (by omega)]

def resS (tmps : Array Value) : ResultVar → Sem Value
  | .tmp t => pure (tmps.getD t undef)
  | .cell x T => do loadVar T (← asAddr (tmps.getD x undef))

theorem results_eq (fn : Func) (tmps : Array Value) : results fn tmps = (do
    let vs ← fn.results.mapM (resS tmps)
    pure (if h : vs.size = 1 then vs[0] else .tuple vs)) := by
  unfold results
  congr 1

theorem run_result {μ : Mu} {a : Act} {w : World} (hs : SR N D O μ st a w) {rv : ResultVar} {v : AV} (h : aresult P st.h st.env rv = some v) :
    ∃ u, (resS a.tmps rv).run P w = .ok u w ∧ VR w O μ st.n v u := by
  cases rv with
  | tmp t => simp only [aresult, Option.some.injEq] at h; subst h; exact ⟨_, rfl, hs.env t⟩
  | cell x T =>
    simp only [aresult] at h
    split at h
    · rename_i cs hd
      obtain ⟨b, off, hv, hrd⟩ := deref_sound hs.hr (hs.env x) hd
      simp only [resS, hv]
      split at h
      · rename_i hagg
        split at h
        · rename_i hle
          cases h
          obtain ⟨i, hi⟩ := aggO_info hagg
          obtain ⟨vals, h1, h2, h3, h4⟩ := (hrd.take (P.cellsOf T)).vals
          have hlen : vals.length = P.cellsOf T := by rw [h1, List.length_take]; omega
          refine ⟨.agg vals.toArray, ?_, VR.ag_of h1 (fun j c hj => (hrd.take (P.cellsOf T) j c hj).1) h4⟩
          simp only [asAddr, pure_bind, loadVar, Sem.run_bind, run_isAgg hagg, Result.andThen_ok, if_true, run_sizeOf hi, loadCells_run h2 hlen, Sem.run_pure]
        · cases h
      · rename_i hagg
        obtain ⟨h1, u, h2, h3⟩ := hrd 0 v h
        simp only [Nat.add_zero] at h2
        exact ⟨u, by simp [asAddr, loadVar, run_isAgg hagg, h2], h3⟩
      · cases h
    · cases h

theorem run_results {μ : Mu} {a : Act} {w : World} (hs : SR N D O μ st a w) {fn : Func} {v : AV} (h : aresults P st.h st.env fn.results.toList = some v) : ∃ u, (results fn a.tmps).run P w = .ok u w ∧ VR w O μ st.n v u := by
  have step : ∀ (rs : List ResultVar) (vs : List AV), rs.mapM (aresult P st.h st.env) = some vs → ∃ us : List Value, us.length = vs.length ∧ (rs.mapM (resS a.tmps) : Sem (List Value)).run P w = .ok us w ∧
      ∀ (j : Nat) (c : AV), vs[j]? = some c → ∃ u, us[j]? = some u ∧ VR w O μ st.n c u := by
    intro rs
    induction rs with
    | nil => intro vs h; simp at h; subst h; exact ⟨[], rfl, by simp, fun j c hj => by simp at hj⟩
    | cons rv rs ih =>
      intro vs h
      simp only [List.mapM_cons, Option.bind_eq_bind, Option.bind_eq_some_iff, Option.pure_def, Option.some.injEq] at h
      obtain ⟨v, hv, vs', hvs, rfl⟩ := h
      obtain ⟨u, hu, hvr⟩ := run_result hs hv
      obtain ⟨us, h1, h2, h3⟩ := ih vs' hvs
      refine ⟨u :: us, by simp [h1], ?_, fun j c hj => ?_⟩
      · simp only [List.mapM_cons, Sem.run_bind, h2, hu, Result.andThen_ok, Sem.run_pure]
      · cases j with
        | zero => simp at hj; subst hj; exact ⟨u, rfl, hvr⟩
        | succ j => simpa using h3 j c (by simpa using hj)
  unfold aresults at h
  have fin : ∀ {us : List Value}, (fn.results.toList.mapM (resS a.tmps) : Sem (List Value)).run P w = .ok us w →
      (results fn a.tmps).run P w = .ok (match us with | [u] => u | us => .tuple us.toArray) w := by
    intro us hus
    rw [results_eq]
    have : (fn.results.mapM (resS a.tmps) : Sem (Array Value)).run P w = .ok us.toArray w := by
      rw [Array.mapM_eq_mapM_toList]
      simp only [Sem.run_map, hus, Result.andThen_ok]
    rw [Sem.run_bind]
    rw [this]
    simp only [Result.andThen_ok]
    match us with
    | [] => simp
    | [u] => simp
    | u :: v :: us => simp
  split at h
  · rename_i v' hvs
    cases h
    obtain ⟨us, h1, h2, h3⟩ := step _ _ hvs
    obtain ⟨u, hu⟩ : ∃ u, us = [u] := by
      match us, h1 with
      | [u], _ => exact ⟨u, rfl⟩
    subst hu
    refine ⟨u, fin h2, ?_⟩
    obtain ⟨u', hu', hvr⟩ := h3 0 v rfl
    simp at hu'; subst hu'; exact hvr
  · rename_i vs hne hvs
    cases h
    obtain ⟨us, h1, h2, h3⟩ := step _ _ hvs
    refine ⟨_, fin h2, ?_⟩
    have : (match us with | [u] => u | us => Value.tuple us.toArray) = .tuple us.toArray := by
      match us, vs, h1, hne with
      | [], _, _, _ => rfl
      | [u], [v], _, hne => exact absurd rfl (hne v)
      | u :: v :: us, _, _, _ => rfl
    rw [this]
    refine .tp vs us.toArray (fun j => us.getD j undef) (by simpa using h1) (fun j c hj => ?_) (fun j c hj => ?_)
    · obtain ⟨u, hu, _⟩ := h3 j c hj; simp [hu, List.getD]
    · obtain ⟨u, hu, hvr⟩ := h3 j c hj; simpa [hu, List.getD] using hvr
  · cases h

/-- what the body of a function is to end in -/
def fnQ (P : Program) (rs : List ResultVar) (R : K3) : Exit → St → Prop
  | .ret, s => ∃ v, aresults P s.h s.env rs = some v ∧ R v s.h s.n
  | .normal, s => ∃ v, aresults P s.h s.env rs = some v ∧ R v s.h s.n
  | _, _ => False

theorem HC.of_body {f : FuncId} {fn : Func} {c : Code} {args : List AV} {h : AH} {n : Nat} {R : K3} (hf : P.funcs[f]? = some fn) (hb : fn.body = some c) (hname : (fn.name == "runtime.NumGoroutine") = false) (hargs : args.length ≤ fn.ntmps)
    (hsat : ∀ O, Sat P fn.ntmps [] O c (fnQ P fn.results.toList R) ⟨enterEnv args, h, n⟩) : HC P f args h n R := by
  refine ⟨⟨fn, hf, by rw [hb]; rfl, hname⟩, fun O μ w vs hr hsz hvs => calls_of_wp hf hb ?_⟩
  refine wp_mono (hsat O μ _ w ⟨hr, ?_, rfl, fun s => ?_⟩) ?_
  · simp [hsz]; omega
  · simp only [enterEnv, lk_enter args 0 s, Nat.zero_le, if_true, Nat.sub_zero]
    cases hs : args[s]? with
    | none => simpa using VR.un _
    | some v =>
      obtain ⟨u, hu, hvr⟩ := hvs s v hs
      have : (vs ++ Array.replicate (fn.ntmps - vs.size) undef).getD s undef = u := by
        rw [Array.getD_eq_getD_getElem?, Array.getElem?_append_left (Array.getElem?_eq_some_iff.1 hu).1, hu]; rfl
      rw [this]
      exact hvr
  · rintro e a' w' ⟨st', μ', hq, hs', he⟩
    cases e with
    | ret =>
      obtain ⟨v, h1, h2⟩ := hq
      obtain ⟨u, h3, h4⟩ := run_results hs' h1
      exact ⟨hs'.defers, u, h3, u, v, st'.h, st'.n, μ', rfl, h2, hs'.hr, h4, he⟩
    | normal =>
      obtain ⟨v, h1, h2⟩ := hq
      obtain ⟨u, h3, h4⟩ := run_results hs' h1
      exact ⟨hs'.defers, u, h3, u, v, st'.h, st'.n, μ', rfl, h2, hs'.hr, h4, he⟩
    | exit id => exact hq.elim
    | goto l => exact hq.elim
    | panic c => exact hq.elim
    | outgrown => exact hq.elim

end
end Go.Abs
