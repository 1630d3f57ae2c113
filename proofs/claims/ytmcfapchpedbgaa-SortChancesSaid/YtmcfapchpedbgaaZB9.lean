/- Regions whose order is drawn: the walk in the order of the text, and what it has to look at twice. -/
import Derived.Test.YtmcfapchpedbgaaZB8
set_option linter.unusedSimpArgs false
set_option linter.unusedVariables false
namespace Go.Abs
open Go Go.RowKit

/-- may the operation change own blocks? wc: the calls that may -/
def isW (wc : List Nat) (j : Nat) (o : Oper) : Bool :=
  match o.op with
  | .alloc _ | .box _ _ | .store _ _ _ | .makeSlice _ _ _ | .makeMap _ _ | .mapUpdate _ _ _ _ | .insert _ _ _ _ | .mapEntry _ _ _ | .entryStore _ _ _ _ => true
  | .call { callee := .builtin .append, .. } | .call { callee := .builtin .copy, .. } | .call { callee := .builtin .delete, .. } => true
  | .call { callee := .value _, .. } => wc.contains j
  | .buildSlice _ _ _ => wc.contains j
  | _ => false

structure Rec where
  j : Nat
  o : Oper
  env : Env
  v : AV
  h : AH
  n : Nat
  h' : AH
  n' : Nat

def wants (rd : List (Nat × Nat)) (j : Nat) : Bool := rd.any fun p => p.1 == j || p.2 == j
def recOf (tr : List Rec) (j : Nat) : Option Rec := tr.find? fun r => r.j == j

def recheck (P : Program) (tr : List Rec) : List (Nat × Nat) → Prop
  | [] => True
  | (x, w) :: rest => (match recOf tr x, recOf tr w with
    | some a, some b => if w < x then aop P a.env b.h b.n a.o (fun v h n => v = a.v ∧ h = b.h ∧ n = b.n) else aop P a.env b.h' b.n' a.o (fun v h n => v = a.v ∧ h = b.h' ∧ n = b.n')
    | _, _ => True) ∧ recheck P tr rest

/-- ∃ and ∧ that simp doesn't walk through: the values behind a call aren't known yet -/
def callD (A B : AV → Prop) : Prop := ∃ v, A v ∧ B v
theorem callD.mk {A B : AV → Prop} (v : AV) (ha : A v) (hb : B v) : callD A B := ⟨v, ha, hb⟩
def isCall (o : Oper) : Bool :=
  match o.op with
  | .call { callee := .value _, .. } => true
  | _ => false

def stepD (P : Program) (wc : List Nat) (rd : List (Nat × Nat)) (o : Oper) (j : Nat) (env : Env) (h : AH) (n : Nat) (tr : List Rec) (next : St → List Rec → Prop) : Prop :=
  if isW wc j o then ∃ v h' n', aop P env h n o (fun a b c => a = v ∧ b = h' ∧ c = n') ∧ next ⟨putE env o.dst v, h', n'⟩ (if wants rd j then ⟨j, o, env, v, h, n, h', n'⟩ :: tr else tr)
  else if isCall o then callD (fun v => aop P env h n o (fun a b c => a = v ∧ b = h ∧ c = n)) fun v => next ⟨putE env o.dst v, h, n⟩ (if wants rd j then ⟨j, o, env, v, h, n, h, n⟩ :: tr else tr)
  else ∃ v, aop P env h n o (fun a b c => a = v ∧ b = h ∧ c = n) ∧ next ⟨putE env o.dst v, h, n⟩ (if wants rd j then ⟨j, o, env, v, h, n, h, n⟩ :: tr else tr)

def aopsD (P : Program) (ds : List (Option Tmp)) (wc : List Nat) (rd : List (Nat × Nat)) : List Oper → Nat → St → List Rec → (St → Prop) → Prop
  | [], _, st, tr, K => recheck P tr rd ∧ K st
  | o :: r, j, st, tr, K =>
    match o.guard with
    | none => stepD P wc rd o j st.env st.h st.n tr fun s t => aopsD P ds wc rd r (j + 1) s t K
    | some (g, want) => match slotOf ds g with
      | some d => match lk st.env d with
        | .sc (.bool b) => (b = want → stepD P wc rd o j ((d, .sc (.bool want)) :: st.env) st.h st.n tr fun s t => aopsD P ds wc rd r (j + 1) s t K) ∧
            (b = !want → aopsD P ds wc rd r (j + 1) ⟨putE ((d, .sc (.bool (!want))) :: st.env) o.dst .ud, st.h, st.n⟩ tr K)
        | .ud => aopsD P ds wc rd r (j + 1) ⟨putE st.env o.dst .ud, st.h, st.n⟩ tr K
        | _ => False
      | none => False

/-- writes wait for one another; reads and writes wait for one another, or are looked at twice -/
def drawW (l : List Oper) (wc : List Nat) (rd : List (Nat × Nat)) : Bool :=
  let anc := ancOf l
  l.zipIdx.all fun (o, j) => !isW wc j o || l.zipIdx.all fun (o', i) => i == j || (if isW wc i o' then decide (j < i) || (anc.getD j []).contains i else (anc.getD j []).contains i || (anc.getD i []).contains j || rd.contains (i, j))

section
variable {P : Program} {l : List Oper} {wc : List Nat} {rd : List (Nat × Nat)}

theorem drawW_spec (hd : drawW l wc rd = true) {i j : Nat} {oi oj : Oper} (hi : l[i]? = some oi) (hj : l[j]? = some oj) (hne : i ≠ j) (hw : isW wc j oj = true) :
    (isW wc i oi = true → i < j → Anc l i j) ∧ (isW wc i oi = false → Anc l i j ∨ Anc l j i ∨ (i, j) ∈ rd) := by
  simp only [drawW, List.all_eq_true, Prod.forall, Bool.or_eq_true, Bool.not_eq_true'] at hd
  have mem : ∀ {α : Type} {m : List α} {j : Nat} {x : α}, m[j]? = some x → (x, j) ∈ m.zipIdx := fun h => List.mem_zipIdx_iff_getElem?.2 (by simpa using h)
  rcases hd oj j (mem hj) with h | h
  · rw [hw] at h; cases h
  · have := h oi i (mem hi)
    simp only [beq_iff_eq, hne, false_or] at this
    constructor
    · intro hwi hlt
      rw [hwi] at this
      simp only [if_true, Bool.or_eq_true, decide_eq_true_eq, List.contains_iff_mem] at this
      rcases this with h1 | h1
      · omega
      · exact ancOf_spec h1
    · intro hwi
      rw [hwi] at this
      simp only [Bool.false_eq_true, if_false, Bool.or_eq_true, List.contains_iff_mem] at this
      rcases this with (h1 | h1) | h1
      · exact .inl (ancOf_spec h1)
      · exact .inr (.inl (ancOf_spec h1))
      · exact .inr (.inr h1)

/-- the facts of LF from place k on, without what compares two places -/
structure LG (P : Program) (l : List Oper) (wc : List Nat) (k : Nat) (E : Nat → Env) (V : Nat → AV) (A : Nat → Bool) (H : Nat → AH) (M : Nat → Nat) : Prop where
  next : ∀ (j : Nat) (o : Oper), k ≤ j → l[j]? = some o → ∀ s, lk (E (j + 1)) s = lk (putE (E j) o.dst (V j)) s
  off : ∀ (j : Nat) (o : Oper), k ≤ j → l[j]? = some o → A j = false → V j = .ud ∧ H (j + 1) = H j ∧ M (j + 1) = M j ∧
    ∃ jj want d, o.guard = some (jj, want) ∧ slotOf (l.map (·.dst)) jj = some d ∧ (lk (E j) d = .ud ∨ ∃ b, lk (E j) d = .sc (.bool b) ∧ b ≠ want)
  on : ∀ (j : Nat) (o : Oper), k ≤ j → l[j]? = some o → A j = true → (o.guard = none ∨ ∃ jj want d, o.guard = some (jj, want) ∧ slotOf (l.map (·.dst)) jj = some d ∧ lk (E j) d = .sc (.bool want)) ∧
    aop P (E j) (H j) (M j) o (fun v h n => v = V j ∧ h = H (j + 1) ∧ n = M (j + 1)) ∧ (isW wc j o = false → H (j + 1) = H j ∧ M (j + 1) = M j)

/-- the records of the active operations -/
def Recs (l : List Oper) (rd : List (Nat × Nat)) (k : Nat) (E : Nat → Env) (V : Nat → AV) (A : Nat → Bool) (H : Nat → AH) (M : Nat → Nat) (tr : List Rec) : Prop :=
  ∀ (j : Nat) (o : Oper), k ≤ j → l[j]? = some o → A j = true → wants rd j = true → ∃ env, recOf tr j = some ⟨j, o, env, V j, H j, M j, H (j + 1), M (j + 1)⟩ ∧ ∀ s, lk env s = lk (E j) s

theorem lk_put_congr {env env' : Env} (h : ∀ s, lk env s = lk env' s) (d : Option Tmp) (v : AV) : ∀ s, lk (putE env d v) s = lk (putE env' d v) s := by
  intro s
  cases d with
  | none => exact h s
  | some d => simp only [putE, lk, h s]

theorem lk_again {env : Env} {d : Nat} {v : AV} (h : lk env d = v) : ∀ s, lk ((d, v) :: env) s = lk env s := by
  intro s
  simp only [lk]
  split
  · rename_i e; rw [e, h]
  · rfl

theorem aopsD_LG : ∀ (r : List Oper) (k : Nat) (st : St) (tr : List Rec) (K : St → Prop), (∀ j, r[j]? = l[k + j]?) → k + r.length = l.length → (∀ x ∈ tr, x.j < k) → aopsD P (l.map (·.dst)) wc rd r k st tr K →
    ∃ E V A H M trF, E k = st.env ∧ H k = st.h ∧ M k = st.n ∧ LG P l wc k E V A H M ∧ K ⟨E l.length, H l.length, M l.length⟩ ∧ recheck P trF rd ∧ Recs l rd k E V A H M trF ∧ (∀ j, j < k → recOf trF j = recOf tr j)
  | [], k, st, tr, K, _, hl, htr, hk => by
    simp only [List.length_nil, Nat.add_zero] at hl
    obtain ⟨h1, h2⟩ := hk
    refine ⟨fun _ => st.env, fun _ => .ud, fun _ => false, fun _ => st.h, fun _ => st.n, tr, rfl, rfl, rfl, ⟨fun j o hj ho => ?_, fun j o hj ho => ?_, fun j o hj ho => ?_⟩, by cases st; exact h2, h1, fun j o hj ho => ?_, fun _ _ => rfl⟩
    all_goals have := (List.getElem?_eq_some_iff.1 ho).1; omega
  | o :: r, k, st, tr, K, hr, hl, htr, hk => by
    simp only [List.length_cons] at hl
    have ho : l[k]? = some o := by have := hr 0; simpa using this.symm
    have hr' : ∀ j, r[j]? = l[k + 1 + j]? := fun j => by have := hr (j + 1); simp at this; rw [this]; congr 1; omega
    -- put one operation in front
    have glue : ∀ (env : Env) (v : AV) (act : Bool) (h' : AH) (n' : Nat) (tr' : List Rec), (∀ s, lk env s = lk st.env s) → (∀ x ∈ tr', x.j < k + 1) → (∀ j, j < k → recOf tr' j = recOf tr j) →
        (act = true → wants rd k = true → ∃ env', recOf tr' k = some ⟨k, o, env', v, st.h, st.n, h', n'⟩ ∧ ∀ s, lk env' s = lk st.env s) →
        (act = false → v = .ud ∧ h' = st.h ∧ n' = st.n ∧ ∃ jj want d, o.guard = some (jj, want) ∧ slotOf (l.map (·.dst)) jj = some d ∧ (lk st.env d = .ud ∨ ∃ b, lk st.env d = .sc (.bool b) ∧ b ≠ want)) →
        (act = true → (o.guard = none ∨ ∃ jj want d, o.guard = some (jj, want) ∧ slotOf (l.map (·.dst)) jj = some d ∧ lk st.env d = .sc (.bool want)) ∧ aop P st.env st.h st.n o (fun a b c => a = v ∧ b = h' ∧ c = n') ∧ (isW wc k o = false → h' = st.h ∧ n' = st.n)) →
        aopsD P (l.map (·.dst)) wc rd r (k + 1) ⟨putE env o.dst v, h', n'⟩ tr' K →
        ∃ E V A H M trF, E k = st.env ∧ H k = st.h ∧ M k = st.n ∧ LG P l wc k E V A H M ∧ K ⟨E l.length, H l.length, M l.length⟩ ∧ recheck P trF rd ∧ Recs l rd k E V A H M trF ∧ (∀ j, j < k → recOf trF j = recOf tr j) := by
      intro env v act h' n' tr' henv htr' hold hrec hoff hon hk
      obtain ⟨E, V, A, H, M, trF, g1, g2, g3, g4, g5, g6, g7, g8⟩ := aopsD_LG r (k + 1) _ tr' K hr' (by omega) htr' hk
      refine ⟨fun i => if i = k then st.env else E i, fun i => if i = k then v else V i, fun i => if i = k then act else A i, fun i => if i = k then st.h else H i, fun i => if i = k then st.n else M i, trF,
        by simp, by simp, by simp, ⟨fun j o' hj ho' => ?_, fun j o' hj ho' ha => ?_, fun j o' hj ho' ha => ?_⟩, ?_, g6, fun j o' hj ho' ha hw => ?_, fun j hj => (g8 j (by omega)).trans (hold j hj)⟩
      · by_cases hjk : j = k
        · subst hjk
          rw [ho] at ho'; cases ho'
          simp only [if_true, show ¬ j + 1 = j by omega, if_false, g1]
          exact lk_put_congr henv _ _
        · simp only [if_neg hjk, show ¬ j + 1 = k by omega, if_false]
          exact g4.next j o' (by omega) ho'
      · by_cases hjk : j = k
        · subst hjk
          rw [ho] at ho'; cases ho'
          simp only [if_true] at ha
          simp only [if_true, show ¬ j + 1 = j by omega, if_false, g2, g3]
          exact hoff ha
        · simp only [if_neg hjk] at ha
          simp only [if_neg hjk, show ¬ j + 1 = k by omega, if_false]
          exact g4.off j o' (by omega) ho' ha
      · by_cases hjk : j = k
        · subst hjk
          rw [ho] at ho'; cases ho'
          simp only [if_true] at ha
          simp only [if_true, show ¬ j + 1 = j by omega, if_false, g2, g3]
          exact hon ha
        · simp only [if_neg hjk] at ha
          simp only [if_neg hjk, show ¬ j + 1 = k by omega, if_false]
          exact g4.on j o' (by omega) ho' ha
      · simp only [show ¬ l.length = k by omega, if_false]; exact g5
      · by_cases hjk : j = k
        · subst hjk
          rw [ho] at ho'; cases ho'
          simp only [if_true] at ha
          obtain ⟨env', q1, q2⟩ := hrec ha hw
          simp only [if_true, show ¬ j + 1 = j by omega, if_false, g2, g3]
          exact ⟨env', by rw [g8 j (by omega), q1], q2⟩
        · simp only [if_neg hjk] at ha
          simp only [if_neg hjk, show ¬ j + 1 = k by omega, if_false]
          exact g7 j o' (by omega) ho' ha hw
    have step : ∀ (env : Env), (∀ s, lk env s = lk st.env s) → (o.guard = none ∨ ∃ jj want d, o.guard = some (jj, want) ∧ slotOf (l.map (·.dst)) jj = some d ∧ lk st.env d = .sc (.bool want)) →
        stepD P wc rd o k env st.h st.n tr (fun s t => aopsD P (l.map (·.dst)) wc rd r (k + 1) s t K) →
        ∃ E V A H M trF, E k = st.env ∧ H k = st.h ∧ M k = st.n ∧ LG P l wc k E V A H M ∧ K ⟨E l.length, H l.length, M l.length⟩ ∧ recheck P trF rd ∧ Recs l rd k E V A H M trF ∧ (∀ j, j < k → recOf trF j = recOf tr j) := by
      intro env henv hg hs
      have hcong : ∀ x ∈ o.op.operands.toList, ev env x = ev st.env x := fun x hx => by
        cases x with
        | tmp t => exact henv t
        | _ => rfl
      have trok : ∀ (rc : Rec), rc.j = k → (∀ x ∈ (if wants rd k then rc :: tr else tr), x.j < k + 1) ∧ (∀ j, j < k → recOf (if wants rd k then rc :: tr else tr) j = recOf tr j) ∧ (wants rd k = true → recOf (if wants rd k then rc :: tr else tr) k = some rc) := by
        intro rc hrc
        refine ⟨fun x hx => ?_, fun j hj => ?_, fun hw => ?_⟩
        · split at hx
          · rcases List.mem_cons.1 hx with rfl | hx
            · omega
            · have := htr x hx; omega
          · have := htr x hx; omega
        · split
          · have hne : ¬ k = j := by omega
            simp [recOf, hrc, hne]
          · rfl
        · rw [if_pos hw]; simp [recOf, hrc]
      unfold stepD at hs
      have hdd : ∀ A B : AV → Prop, (if isCall o then callD A B else ∃ v, A v ∧ B v) → ∃ v, A v ∧ B v := fun A B h => by
        split at h
        · exact h
        · exact h
      split at hs
      · obtain ⟨v, h', n', h1, h2⟩ := hs
        rw [aop_congr hcong] at h1
        obtain ⟨t1, t2, t3⟩ := trok ⟨k, o, env, v, st.h, st.n, h', n'⟩ rfl
        exact glue env v true h' n' _ henv t1 t2 (fun _ hw => ⟨env, t3 hw, henv⟩) (fun h => by cases h) (fun _ => ⟨hg, h1, fun hw => by simp_all⟩) h2
      · obtain ⟨v, h1, h2⟩ := hdd _ _ hs
        rw [aop_congr hcong] at h1
        obtain ⟨t1, t2, t3⟩ := trok ⟨k, o, env, v, st.h, st.n, st.h, st.n⟩ rfl
        exact glue env v true st.h st.n _ henv t1 t2 (fun _ hw => ⟨env, t3 hw, henv⟩) (fun h => by cases h) (fun _ => ⟨hg, h1, fun _ => ⟨rfl, rfl⟩⟩) h2
    simp only [aopsD] at hk
    cases hg : o.guard with
    | none =>
      simp only [hg] at hk
      exact step st.env (fun _ => rfl) (.inl hg) hk
    | some gw =>
      obtain ⟨g, want⟩ := gw
      simp only [hg] at hk
      cases hj : slotOf (l.map (·.dst)) g with
      | none => simp only [hj] at hk
      | some d =>
        simp only [hj] at hk
        have skip : ∀ env, (∀ s, lk env s = lk st.env s) → (lk st.env d = .ud ∨ ∃ b, lk st.env d = .sc (.bool b) ∧ b ≠ want) → aopsD P (l.map (·.dst)) wc rd r (k + 1) ⟨putE env o.dst .ud, st.h, st.n⟩ tr K → _ := fun env henv hv hk =>
          glue env .ud false st.h st.n tr henv (fun x hx => by have := htr x hx; omega) (fun _ _ => rfl) (fun h => by cases h) (fun _ => ⟨rfl, rfl, rfl, g, want, d, hg, hj, hv⟩) (fun h => by cases h) hk
        cases hga : lk st.env d with
        | ud => simp only [hga] at hk; exact skip st.env (fun _ => rfl) (.inl hga) hk
        | sc v =>
          cases v with
          | bool b =>
            simp only [hga] at hk
            by_cases hb : b = want
            · exact step _ (lk_again (by rw [hga, hb])) (.inr ⟨g, want, d, hg, hj, by rw [hga, hb]⟩) (hk.1 hb)
            · have hb' : b = !want := by cases b <;> cases want <;> simp_all
              exact skip _ (lk_again (by rw [hga, hb'])) (.inr ⟨b, hga, hb⟩) (hk.2 hb')
          | _ => simp only [hga] at hk
        | _ => simp only [hga] at hk

theorem recheck_at {tr : List Rec} : ∀ {rd' : List (Nat × Nat)}, recheck P tr rd' → ∀ {x w : Nat}, (x, w) ∈ rd' → ∀ {a b : Rec}, recOf tr x = some a → recOf tr w = some b →
    (if w < x then aop P a.env b.h b.n a.o (fun v h n => v = a.v ∧ h = b.h ∧ n = b.n) else aop P a.env b.h' b.n' a.o (fun v h n => v = a.v ∧ h = b.h' ∧ n = b.n'))
  | [], _, x, w, hm, _, _, _, _ => by cases hm
  | (x', w') :: rest, hr, x, w, hm, a, b, ha, hb => by
    obtain ⟨h1, h2⟩ := hr
    rcases List.mem_cons.1 hm with e | hm
    · cases e
      rw [ha, hb] at h1
      exact h1
    · exact recheck_at h2 hm ha hb

theorem Anc.lt (hd : drawOk l = true) {i j : Nat} (h : Anc l i j) : i < j := by
  induction h with
  | one ho he hb hi => exact hi ▸ (drawOk_spec hd).1 _ _ ho _ he hb
  | step h ho he hb hi ih => exact Nat.lt_trans ih (hi ▸ (drawOk_spec hd).1 _ _ ho _ he hb)

theorem aopsD_LF {st : St} {K : St → Prop} (hd : drawOk l = true) (hw : drawW l wc rd = true) (hk : aopsD P (l.map (·.dst)) wc rd l 0 st [] K) :
    ∃ E V A H M, LF P l st E V A (fun j => ((l[j]?).map (isW wc j)).getD false) H M ∧ K ⟨E l.length, H l.length, M l.length⟩ := by
  obtain ⟨E, V, A, H, M, trF, g1, g2, g3, g4, g5, g6, g7, _⟩ := aopsD_LG l 0 st [] K (fun j => by simp) (by simp) (fun x hx => by cases hx) hk
  have hW : ∀ {j : Nat} {o : Oper}, l[j]? = some o → ((l[j]?).map (isW wc j)).getD false = isW wc j o := fun h => by rw [h]; rfl
  refine ⟨E, V, A, H, M, ⟨fun s => by rw [g1], g2, g3, fun j o ho => g4.next j o (Nat.zero_le _) ho, fun j o ho => g4.off j o (Nat.zero_le _) ho, fun j o ho ha => ?_, fun i j hij hjl hai hwi haj hwj => ?_, fun j w o ho hwl haj hwj haw hww => ?_⟩, g5⟩
  · obtain ⟨h1, h2, h3⟩ := g4.on j o (Nat.zero_le _) ho ha
    exact ⟨h1, h2, fun hwj => h3 (by rw [← hW ho]; exact hwj)⟩
  · have hi : l[i]? = some (l[i]'(by omega)) := List.getElem?_eq_getElem _
    have hj : l[j]? = some (l[j]'hjl) := List.getElem?_eq_getElem _
    rw [hW hi] at hwi
    rw [hW hj] at hwj
    exact (drawW_spec hw hi hj (by omega) hwj).1 hwi hij
  · have hwo : l[w]? = some (l[w]'hwl) := List.getElem?_eq_getElem _
    have hjl := (List.getElem?_eq_some_iff.1 ho).1
    rw [hW ho] at hwj
    rw [hW hwo] at hww
    have hne : j ≠ w := by
      rintro rfl
      rw [ho] at hwo; cases hwo
      rw [hwj] at hww; cases hww
    rcases (drawW_spec hw ho hwo hne hww).2 hwj with h | h | h
    · have := h.lt hd
      exact ⟨fun hlt => absurd this (by omega), fun _ => .inl h⟩
    · have := h.lt hd
      exact ⟨fun _ => .inl h, fun hlt => absurd this (by omega)⟩
    · have wj : wants rd j = true := by simp only [wants, List.any_eq_true, Bool.or_eq_true, beq_iff_eq]; exact ⟨_, h, .inl rfl⟩
      have ww : wants rd w = true := by simp only [wants, List.any_eq_true, Bool.or_eq_true, beq_iff_eq]; exact ⟨_, h, .inr rfl⟩
      obtain ⟨e1, r1, f1⟩ := g7 j o (Nat.zero_le _) ho haj wj
      obtain ⟨e2, r2, f2⟩ := g7 w _ (Nat.zero_le _) hwo haw ww
      have hre := recheck_at g6 h r1 r2
      simp only at hre
      have hcong : ∀ x ∈ o.op.operands.toList, ev e1 x = ev (E j) x := fun x hx => by
        cases x with
        | tmp t => exact f1 t
        | _ => rfl
      constructor
      · intro hlt
        rw [if_pos hlt, aop_congr hcong] at hre
        exact .inr hre
      · intro hlt
        rw [if_neg (by omega), aop_congr hcong] at hre
        exact .inr hre

end
end Go.Abs
