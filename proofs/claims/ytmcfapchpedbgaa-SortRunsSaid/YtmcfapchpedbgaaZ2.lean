/- The machinery, part 2. -/
import Derived.Orders
import Derived.Laws.StructEq
import Derived.Test.YtmcfapchpedbgaaZ1
set_option linter.constructorNameAsVariable false
set_option linter.unusedVariables false
set_option linter.unusedSimpArgs false
/- Regions whose order is drawn: what is behind them does not hang on the order. -/
set_option linter.unusedSimpArgs false
set_option linter.unusedVariables false
namespace Go.Abs
open Go Go.RowKit

section
variable {P : Program} {K : K3} {h : AH} {n : Nat}

theorem fillS_congr {env env' : Env} (pl : List (Nat × Nat)) : ∀ (parts : List (Nat × Operand)) (cs : List AV), (∀ p ∈ parts, ev env p.2 = ev env' p.2) → fillS pl env parts cs = fillS pl env' parts cs
  | [], cs, _ => rfl
  | (i, x) :: rest, cs, hp => by
    have h1 : ev env x = ev env' x := hp (i, x) (by simp)
    have ih := fun cs => fillS_congr pl rest cs (fun p hp' => hp p (by simp [hp']))
    unfold fillS
    rw [h1]
    split
    · split
      · exact ih _
      · rfl
    · rfl

theorem fillE_congr {env env' : Env} (k : Nat) : ∀ (parts : List (Nat × Operand)) (es : List (List AV)), (∀ p ∈ parts, ev env p.2 = ev env' p.2) → fillE k env parts es = fillE k env' parts es
  | [], es, _ => rfl
  | (i, x) :: rest, es, hp => by
    have h1 : ev env x = ev env' x := hp (i, x) (by simp)
    have ih := fun es => fillE_congr k rest es (fun p hp' => hp p (by simp [hp']))
    unfold fillE
    rw [h1]
    split
    · split
      · exact ih _
      · rfl
    · rfl

theorem builtinK_congr {env env' : Env} {b : Builtin} {args : Array Operand} {ts : Array TypeId} (hx : ∀ x ∈ args.toList, ev env x = ev env' x) : builtinK P env h n b args ts K = builtinK P env' h n b args ts K := by
  unfold builtinK
  split
  · rename_i ha _; rw [ha] at hx; rw [hx _ (by simp)]
  · rename_i ha _; rw [ha] at hx; rw [hx _ (by simp), hx _ (by simp)]
  · rename_i ha _; rw [ha] at hx; rw [hx _ (by simp), hx _ (by simp)]
  · rename_i ha; rw [ha] at hx; rw [hx _ (by simp), hx _ (by simp)]
  · rename_i ha; rw [ha] at hx; rw [hx _ (by simp), hx _ (by simp)]
  · rfl

theorem aop_congr {o : Oper} {env env' : Env} (H : ∀ x ∈ o.op.operands.toList, ev env x = ev env' x) : aop P env h n o K = aop P env' h n o K := by
  obtain ⟨dst, op, ty, pos, after, guard⟩ := o
  simp only at H
  cases op with
  | build T parts =>
    have : ∀ cs pl, fillS pl env parts.toList cs = fillS pl env' parts.toList cs := fun cs pl => fillS_congr pl _ _ (fun p hp => H p.2 (by simp only [Op.operands]; simpa using ⟨p.1, by simpa using hp⟩))
    simp only [aop, this]
  | buildSlice T len parts =>
    have : ∀ k es, fillE k env parts.toList es = fillE k env' parts.toList es := fun k es => fillE_congr k _ _ (fun p hp => H p.2 (by simp only [Op.operands]; simpa using ⟨p.1, by simpa using hp⟩))
    simp only [aop, this]
  | makeFunc f first caps =>
    have : caps.toList.map (ev env) = caps.toList.map (ev env') := List.map_congr_left fun x hx => H x (by simp only [Op.operands]; simp; exact .inr (by simpa using hx))
    cases f <;> simp only [aop, this]
  | call c =>
    obtain ⟨callee, args, ts⟩ := c
    cases callee with
    | builtin b =>
      simp only [aop]
      exact builtinK_congr fun x hx => H x (by simp only [Op.operands, Call.operands]; simpa using hx)
    | value f =>
      have h1 : ev env f = ev env' f := H f (by simp [Op.operands, Call.operands])
      have h2 : args.toList.map (ev env) = args.toList.map (ev env') := List.map_congr_left fun x hx => H x (by simp only [Op.operands, Call.operands]; simp; exact .inr (by simpa using hx))
      simp only [aop, h1, h2]
    | invoke r m => rfl
  | slice T x lo hi mx =>
    have h1 : ev env x = ev env' x := H x (by simp [Op.operands])
    have h2 : lo.map (ev env) = lo.map (ev env') := by
      cases lo with
      | none => rfl
      | some y => simp only [Option.map_some]; rw [H y (by simp [Op.operands])]
    have h3 : hi.map (ev env) = hi.map (ev env') := by
      cases hi with
      | none => rfl
      | some y => simp only [Option.map_some]; rw [H y (by simp [Op.operands])]
    cases mx <;> simp only [aop, h1, h2, h3]
  | makeMap T r => cases r <;> rfl
  | _ => simp [Op.operands] at H <;> simp only [aop, H]

/-! ### what waits for what -/
inductive Anc (l : List Oper) : Nat → Nat → Prop
  | one {i j : Nat} {o : Oper} {e : Edge} (ho : l[j]? = some o) (he : e ∈ o.after) (hb : Region.binds .any e = true) (hi : e.on = i) : Anc l i j
  | step {i k j : Nat} {o : Oper} {e : Edge} (h : Anc l i k) (ho : l[j]? = some o) (he : e ∈ o.after) (hb : Region.binds .any e = true) (hi : e.on = k) : Anc l i j

def ancOne (acc : List (List Nat)) (o : Oper) : List Nat :=
  (o.after.toList.filter (Region.binds .any)).flatMap fun e => e.on :: acc.getD e.on []
def ancGo : List (List Nat) → List Oper → List (List Nat)
  | acc, [] => acc
  | acc, o :: r => ancGo (acc ++ [ancOne acc o]) r
def ancOf (l : List Oper) : List (List Nat) := ancGo [] l

theorem ancGo_spec (l : List Oper) : ∀ (r : List Oper) (acc : List (List Nat)), (∀ j, r[j]? = l[acc.length + j]?) → (∀ j i, i ∈ acc.getD j [] → Anc l i j) → ∀ j i, i ∈ (ancGo acc r).getD j [] → Anc l i j
  | [], acc, _, ha => ha
  | o :: r, acc, hr, ha => by
    refine ancGo_spec l r (acc ++ [ancOne acc o]) (fun j => by have := hr (j + 1); simp at this ⊢; rw [this]; congr 1; omega) ?_
    intro j i hi
    rw [List.getD_eq_getElem?_getD, List.getElem?_append] at hi
    split at hi
    · exact ha j i (by rw [List.getD_eq_getElem?_getD]; exact hi)
    · rename_i hge
      have ho : l[acc.length]? = some o := by have := hr 0; simpa using this.symm
      rcases Nat.eq_or_lt_of_le (Nat.le_of_not_lt hge) with e | hlt
      · subst e
        simp only [Nat.sub_self, List.getElem?_cons_zero, Option.getD_some, ancOne, List.mem_flatMap, List.mem_filter, Array.mem_toList_iff, List.mem_cons] at hi
        obtain ⟨e, ⟨he, hb⟩, hi⟩ := hi
        rcases hi with rfl | hi
        · exact .one ho he hb rfl
        · exact .step (ha _ _ hi) ho he hb rfl
      · have : ([ancOne acc o] : List (List Nat))[j - acc.length]? = none := List.getElem?_eq_none (by simp; omega)
        rw [this] at hi
        simp at hi

theorem ancOf_spec {l : List Oper} {i j : Nat} (h : i ∈ (ancOf l).getD j []) : Anc l i j :=
  ancGo_spec l l [] (fun j => by simp) (fun j i hi => by simp at hi) j i h

/-- listed with all that it waits for -/
def Closed (l : List Oper) (S : Nat → Prop) : Prop := ∀ j o, l[j]? = some o → S j → ∀ e ∈ o.after, Region.binds .any e = true → S e.on

theorem Closed.anc {l : List Oper} {S : Nat → Prop} (hc : Closed l S) {i j : Nat} (h : Anc l i j) : (∀ o, l[j]? = some o → ∀ e ∈ o.after, Region.binds .any e = true → S e.on) → S i := by
  induction h with
  | one ho he hb hi => intro hs; rw [← hi]; exact hs _ ho _ he hb
  | step _ ho he hb hi ih => intro hs; exact ih fun o' ho' e' he' hb' => hc _ o' ho' (hi ▸ hs _ ho _ he hb) e' he' hb'

def tmpsOf (o : Oper) (ds : List (Option Tmp)) : List Tmp :=
  o.op.operands.toList.filterMap (fun | .tmp t => some t | _ => none) ++ (match o.guard with | some (j, _) => (slotOf ds j).toList | none => [])

/-- whoever reads a slot waits for who writes it, or is waited for -/
def drawOk (l : List Oper) : Bool :=
  let ds := l.map (·.dst)
  let anc := ancOf l
  (l.zipIdx.all fun (o, j) => o.after.all (fun e => !Region.binds .any e || decide (e.on < j)) &&
    (match o.dst with | some d => (ds.zipIdx.all fun (d', i) => i == j || d' != some d) | none => true) &&
    (tmpsOf o ds).all fun t => ds.zipIdx.all fun (d, i) => d != some t || (decide (i < j) && (anc.getD j []).contains i) || (decide (j < i) && (anc.getD i []).contains j))

theorem drawOk_spec {l : List Oper} (hd : drawOk l = true) :
    (∀ (j : Nat) (o : Oper), l[j]? = some o → ∀ e ∈ o.after, Region.binds .any e = true → e.on < j) ∧
    (∀ (i j : Nat) (oi oj : Oper) (d : Nat), l[i]? = some oi → l[j]? = some oj → oi.dst = some d → oj.dst = some d → i = j) ∧
    (∀ (j : Nat) (o : Oper) (t i : Nat) (oi : Oper), l[j]? = some o → t ∈ tmpsOf o (l.map (·.dst)) → l[i]? = some oi → oi.dst = some t → (i < j ∧ Anc l i j) ∨ (j < i ∧ Anc l j i)) := by
  simp only [drawOk, List.all_eq_true, Prod.forall, Bool.and_eq_true] at hd
  have mem : ∀ {α : Type} {m : List α} {j : Nat} {x : α}, m[j]? = some x → (x, j) ∈ m.zipIdx := fun h => List.mem_zipIdx_iff_getElem?.2 (by simpa using h)
  refine ⟨fun j o ho e he hb => ?_, fun i j oi oj d hi hj hdi hdj => ?_, fun j o t i oi ho ht hi hdi => ?_⟩
  · have := ((hd o j (mem ho)).1).1
    simp only [Array.all_eq_true_iff_forall_mem] at this
    have := this e he
    simpa [hb] using this
  · have := ((hd oj j (mem hj)).1).2
    rw [hdj] at this
    simp only [List.all_eq_true, Prod.forall] at this
    have := this (some d) i (mem (by simp [hi, hdi]))
    simpa using this
  · have := (hd o j (mem ho)).2 t ht (some t) i (mem (by simp [hi, hdi]))
    simp only [bne_self_eq_false, Bool.false_or, Bool.or_eq_true, Bool.and_eq_true, decide_eq_true_eq, List.contains_iff_mem] at this
    rcases this with ⟨h1, h2⟩ | ⟨h1, h2⟩
    · exact .inl ⟨h1, ancOf_spec h2⟩
    · exact .inr ⟨h1, ancOf_spec h2⟩

/-- What a walk in the order of the text has shown: the frame, the value, the heap at each operation. -/
structure LF (P : Program) (l : List Oper) (st : St) (E : Nat → Env) (V : Nat → AV) (A W : Nat → Bool) (H : Nat → AH) (M : Nat → Nat) : Prop where
  e0 : ∀ s, lk (E 0) s = lk st.env s
  h0 : H 0 = st.h
  m0 : M 0 = st.n
  next : ∀ (j : Nat) (o : Oper), l[j]? = some o → ∀ s, lk (E (j + 1)) s = lk (putE (E j) o.dst (V j)) s
  off : ∀ (j : Nat) (o : Oper), l[j]? = some o → A j = false → V j = .ud ∧ H (j + 1) = H j ∧ M (j + 1) = M j ∧
    ∃ jj want d, o.guard = some (jj, want) ∧ slotOf (l.map (·.dst)) jj = some d ∧ (lk (E j) d = .ud ∨ ∃ b, lk (E j) d = .sc (.bool b) ∧ b ≠ want)
  on : ∀ (j : Nat) (o : Oper), l[j]? = some o → A j = true → (o.guard = none ∨ ∃ jj want d, o.guard = some (jj, want) ∧ slotOf (l.map (·.dst)) jj = some d ∧ lk (E j) d = .sc (.bool want)) ∧
    aop P (E j) (H j) (M j) o (fun v h n => v = V j ∧ h = H (j + 1) ∧ n = M (j + 1)) ∧ (W j = false → H (j + 1) = H j ∧ M (j + 1) = M j)
  chain : ∀ i j, i < j → j < l.length → A i = true → W i = true → A j = true → W j = true → Anc l i j
  re : ∀ (j w : Nat) (o : Oper), l[j]? = some o → w < l.length → A j = true → W j = false → A w = true → W w = true →
    (w < j → Anc l w j ∨ aop P (E j) (H w) (M w) o (fun v h n => v = V j ∧ h = H w ∧ n = M w)) ∧
    (j < w → Anc l j w ∨ aop P (E j) (H (w + 1)) (M (w + 1)) o (fun v h n => v = V j ∧ h = H (w + 1) ∧ n = M (w + 1)))

section
variable {l : List Oper} {st : St} {E : Nat → Env} {V : Nat → AV} {A W : Nat → Bool} {H : Nat → AH} {M : Nat → Nat} {N : Nat} {D : List Deferred} {O : Nat → Prop}

/-- the slot s in the frame before operation j -/
theorem LF.slot (L : LF P l st E V A W H M) (hd : drawOk l = true) : ∀ (j s : Nat), j ≤ l.length → lk (E j) s = lk st.env s ∧ (∀ i oi, i < j → l[i]? = some oi → oi.dst ≠ some s) ∨ ∃ i oi, i < j ∧ l[i]? = some oi ∧ oi.dst = some s ∧ lk (E j) s = V i := by
  intro j
  induction j with
  | zero => intro s _; exact .inl ⟨L.e0 s, fun i oi hi => by omega⟩
  | succ j ih =>
    intro s hj
    have ho : l[j]? = some (l[j]'(by omega)) := List.getElem?_eq_getElem _
    have hn := L.next j _ ho s
    cases hdst : (l[j]'(by omega)).dst with
    | none =>
      rw [hdst] at hn
      simp only [putE] at hn
      rcases ih s (by omega) with ⟨h1, h2⟩ | ⟨i, oi, h1, h2, h3, h4⟩
      · refine .inl ⟨hn.trans h1, fun i oi hi hoi => ?_⟩
        rcases Nat.lt_succ_iff_lt_or_eq.1 hi with hlt | rfl
        · exact h2 i oi hlt hoi
        · rw [ho] at hoi; cases hoi; rw [hdst]; simp
      · exact .inr ⟨i, oi, by omega, h2, h3, hn.trans h4⟩
    | some d =>
      rw [hdst] at hn
      simp only [putE, lk] at hn
      by_cases hsd : s = d
      · subst hsd
        rw [if_pos rfl] at hn
        exact .inr ⟨j, _, by omega, ho, hdst, hn⟩
      · rw [if_neg hsd] at hn
        rcases ih s (by omega) with ⟨h1, h2⟩ | ⟨i, oi, h1, h2, h3, h4⟩
        · refine .inl ⟨hn.trans h1, fun i oi hi hoi => ?_⟩
          rcases Nat.lt_succ_iff_lt_or_eq.1 hi with hlt | rfl
          · exact h2 i oi hlt hoi
          · rw [ho] at hoi; cases hoi; rw [hdst]; intro e; cases e; exact hsd rfl
        · exact .inr ⟨i, oi, by omega, h2, h3, hn.trans h4⟩

/-- the frame when the operations of S are done -/
structure At (P : Program) (l : List Oper) (st : St) (V : Nat → AV) (S : Nat → Prop) (env : Env) : Prop where
  old : ∀ s, (∀ i oi, S i → l[i]? = some oi → oi.dst ≠ some s) → lk env s = lk st.env s
  new : ∀ s i oi, S i → l[i]? = some oi → oi.dst = some s → lk env s = V i

/-- whoever may come up now sees what the walk in the order of the text saw -/
theorem LF.sees (L : LF P l st E V A W H M) (hd : drawOk l = true) {S : Nat → Prop} {env : Env} (hat : At P l st V S env) (hc : Closed l S) {j : Nat} {o : Oper} (ho : l[j]? = some o) (hj : ¬ S j)
    (hr : ∀ e ∈ o.after, Region.binds .any e = true → S e.on) {t : Nat} (ht : t ∈ tmpsOf o (l.map (·.dst))) : lk env t = lk (E j) t := by
  obtain ⟨hd1, hd2, hd3⟩ := drawOk_spec hd
  have hjl := (List.getElem?_eq_some_iff.1 ho).1
  have ready : ∀ o', l[j]? = some o' → ∀ e ∈ o'.after, Region.binds .any e = true → S e.on := fun o' ho' => by rw [ho] at ho'; cases ho'; exact hr
  have later : ∀ i oi, l[i]? = some oi → Anc l j i → ¬ S i := fun i oi hoi ha hs => hj (hc.anc ha fun o' ho' e he hb => hc i o' ho' hs e he hb)
  rcases L.slot hd j t (by omega) with ⟨h1, h2⟩ | ⟨i, oi, h1, h2, h3, h4⟩
  · rw [h1]
    refine hat.old t fun i oi hs hoi hdi => ?_
    rcases hd3 j o t i oi ho ht hoi hdi with ⟨hlt, _⟩ | ⟨_, ha⟩
    · exact h2 i oi hlt hoi hdi
    · exact later i oi hoi ha hs
  · rw [h4]
    rcases hd3 j o t i oi ho ht h2 h3 with ⟨_, ha⟩ | ⟨hgt, _⟩
    · exact hat.new t i oi (hc.anc ha ready) h2 h3
    · omega

theorem mem_tmps_guard {o : Oper} {ds : List (Option Tmp)} {jj : Nat} {want : Bool} {d : Nat} (hg : o.guard = some (jj, want)) (hs : slotOf ds jj = some d) : d ∈ tmpsOf o ds := by
  simp [tmpsOf, hg, hs]
theorem mem_tmps_op {o : Oper} {ds : List (Option Tmp)} {t : Nat} (ht : Operand.tmp t ∈ o.op.operands.toList) : t ∈ tmpsOf o ds := by
  simp only [tmpsOf, List.mem_append, List.mem_filterMap]
  exact .inl ⟨_, ht, rfl⟩

/-- the own blocks when the operations of S are done: those of the walk after its last write in S -/
def HeapAt (l : List Oper) (A W : Nat → Bool) (S : Nat → Prop) (q : Nat) : Prop :=
  q ≤ l.length ∧ ∀ w, w < l.length → A w = true → W w = true → (S w ↔ w < q)

theorem LF.heap_same (L : LF P l st E V A W H M) : ∀ (k q : Nat), q + k ≤ l.length → (∀ w, q ≤ w → w < q + k → ¬ (A w = true ∧ W w = true)) → H (q + k) = H q ∧ M (q + k) = M q
  | 0, q, _, _ => ⟨rfl, rfl⟩
  | k + 1, q, hle, hno => by
    obtain ⟨h1, h2⟩ := LF.heap_same L k q (by omega) (fun w hw hw' => hno w hw (by omega))
    have ho : l[q + k]? = some (l[q + k]'(by omega)) := List.getElem?_eq_getElem _
    have hn := hno (q + k) (by omega) (by omega)
    show H (q + k + 1) = _ ∧ M (q + k + 1) = _
    cases ha : A (q + k) with
    | false =>
      obtain ⟨_, h3, h4, _⟩ := L.off _ _ ho ha
      exact ⟨h3.trans h1, h4.trans h2⟩
    | true =>
      cases hw : W (q + k) with
      | true => exact absurd ⟨ha, hw⟩ hn
      | false =>
        obtain ⟨h3, h4⟩ := (L.on _ _ ho ha).2.2 hw
        exact ⟨h3.trans h1, h4.trans h2⟩

/-- between two places without a write the heaps are one -/
theorem LF.heap_eq (L : LF P l st E V A W H M) {p q : Nat} (hpq : p ≤ q) (hq : q ≤ l.length) (hno : ∀ w, p ≤ w → w < q → ¬ (A w = true ∧ W w = true)) : H q = H p ∧ M q = M p := by
  have := LF.heap_same L (q - p) p (by omega) (fun w hw hw' => hno w hw (by omega))
  rwa [show p + (q - p) = q by omega] at this

/-- the heap before an operation that may come up now, and what it then makes of it -/
theorem LF.op_now (L : LF P l st E V A W H M) {S : Nat → Prop} (hc : Closed l S) {j q : Nat} {o : Oper} (ho : l[j]? = some o) (hj : ¬ S j) (hr : ∀ e ∈ o.after, Region.binds .any e = true → S e.on) (ha : A j = true) (hh : HeapAt l A W S q) :
    ∃ q', HeapAt l A W (fun i => i = j ∨ S i) q' ∧ aop P (E j) (H q) (M q) o (fun v h n => v = V j ∧ h = H q' ∧ n = M q') := by
  have hjl := (List.getElem?_eq_some_iff.1 ho).1
  have ready : ∀ o', l[j]? = some o' → ∀ e ∈ o'.after, Region.binds .any e = true → S e.on := fun o' ho' => by rw [ho] at ho'; cases ho'; exact hr
  have later : ∀ i oi, l[i]? = some oi → Anc l j i → ¬ S i := fun i oi hoi ha hs => hj (hc.anc ha fun o' ho' e he hb => hc i o' ho' hs e he hb)
  obtain ⟨hq, hW⟩ := hh
  obtain ⟨_, hop, hquiet⟩ := L.on j o ho ha
  cases hw : W j with
  | true =>
    -- all writes before it are done, none behind it
    have hbefore : ∀ w, w < j → A w = true → W w = true → S w := fun w hwj haw hww => hc.anc (L.chain w j hwj hjl haw hww ha hw) ready
    have hafter : ∀ w, j < w → w < l.length → A w = true → W w = true → ¬ S w := fun w hjw hwl haw hww => later w _ (List.getElem?_eq_getElem hwl) (L.chain j w hjw hwl ha hw haw hww)
    have hqj : ¬ j < q := fun hlt => hj ((hW j hjl ha hw).2 hlt)
    have heq : H j = H q ∧ M j = M q := L.heap_eq (by omega) (by omega) fun w hw1 hw2 ⟨haw, hww⟩ => by
      have := (hW w (by omega) haw hww).1 (hbefore w hw2 haw hww); omega
    refine ⟨j + 1, ⟨by omega, fun w hwl haw hww => ?_⟩, by rw [← heq.1, ← heq.2]; exact hop⟩
    constructor
    · rintro (rfl | hs)
      · omega
      · rcases Nat.lt_or_ge w (j + 1) with h | h
        · exact h
        · exact absurd hs (hafter w (by omega) hwl haw hww)
    · intro hlt
      rcases Nat.lt_succ_iff_lt_or_eq.1 hlt with h | rfl
      · exact .inr (hbefore w h haw hww)
      · exact .inl rfl
  | false =>
    have hsame : HeapAt l A W (fun i => i = j ∨ S i) q := ⟨hq, fun w hwl haw hww => by
      rw [← hW w hwl haw hww]
      constructor
      · rintro (rfl | hs)
        · rw [hw] at hww; cases hww
        · exact hs
      · exact .inr⟩
    refine ⟨q, hsame, ?_⟩
    obtain ⟨hH, hM⟩ := hquiet hw
    rw [hH, hM] at hop
    -- is there a write between q and j?
    by_cases hex : ∃ w, (q ≤ w ∧ w < j ∨ j ≤ w ∧ w < q) ∧ A w = true ∧ W w = true
    · obtain ⟨w0, hw0, haw0, hww0⟩ := hex
      rcases hw0 with ⟨h1, h2⟩ | ⟨h1, h2⟩
      · -- the first write not done yet
        have : ∃ w, q ≤ w ∧ w < j ∧ A w = true ∧ W w = true ∧ ∀ w', q ≤ w' → w' < w → ¬ (A w' = true ∧ W w' = true) := by
          clear hop hH hM hsame
          induction w0 using Nat.strongRecOn with
          | _ w0 ih =>
            by_cases h : ∃ w', q ≤ w' ∧ w' < w0 ∧ A w' = true ∧ W w' = true
            · obtain ⟨w', g1, g2, g3, g4⟩ := h
              exact ih w' g2 g3 g4 g1 (by omega)
            · exact ⟨w0, h1, h2, haw0, hww0, fun w' g1 g2 g3 => h ⟨w', g1, g2, g3.1, g3.2⟩⟩
        obtain ⟨w, g1, g2, g3, g4, g5⟩ := this
        have hns : ¬ S w := fun hs => by have := (hW w (by omega) g3 g4).1 hs; omega
        have heq : H w = H q ∧ M w = M q := L.heap_eq g1 (by omega) g5
        rcases (L.re j w o ho (by omega) ha hw g3 g4).1 g2 with hanc | h
        · exact absurd (hc.anc hanc ready) hns
        · rw [heq.1, heq.2] at h; exact h
      · -- the last write that is done
        have hne : j ≠ w0 := by rintro rfl; rw [hw] at hww0; cases hww0
        have : ∃ w, j < w ∧ w < q ∧ A w = true ∧ W w = true ∧ ∀ w', w + 1 ≤ w' → w' < q → ¬ (A w' = true ∧ W w' = true) := by
          clear hop hH hM hsame
          have key : ∀ d w0, q - w0 = d → j < w0 → w0 < q → A w0 = true → W w0 = true → ∃ w, j < w ∧ w < q ∧ A w = true ∧ W w = true ∧ ∀ w', w + 1 ≤ w' → w' < q → ¬ (A w' = true ∧ W w' = true) := by
            intro d
            induction d using Nat.strongRecOn with
            | _ d ih =>
              intro w0 hd h1 h2 h3 h4
              by_cases h : ∃ w', w0 + 1 ≤ w' ∧ w' < q ∧ A w' = true ∧ W w' = true
              · obtain ⟨w', g1, g2, g3, g4⟩ := h
                exact ih (q - w') (by omega) w' rfl (by omega) g2 g3 g4
              · exact ⟨w0, h1, h2, h3, h4, fun w' g1 g2 g3 => h ⟨w', g1, g2, g3.1, g3.2⟩⟩
          exact key _ w0 rfl (by omega) h2 haw0 hww0
        obtain ⟨w, g1, g2, g3, g4, g5⟩ := this
        have hs : S w := (hW w (by omega) g3 g4).2 g2
        have heq : H q = H (w + 1) ∧ M q = M (w + 1) := L.heap_eq (by omega) hq g5
        rcases (L.re j w o ho (by omega) ha hw g3 g4).2 g1 with hanc | h
        · exact absurd hs (later w _ (List.getElem?_eq_getElem (by omega)) hanc)
        · rw [heq.1, heq.2]; exact h
    · have hno : ∀ w, (q ≤ w ∧ w < j ∨ j ≤ w ∧ w < q) → ¬ (A w = true ∧ W w = true) := fun w hw' hb => hex ⟨w, hw', hb.1, hb.2⟩
      rcases Nat.le_total q j with hle | hle
      · have heq : H j = H q ∧ M j = M q := L.heap_eq hle (by omega) fun w h1 h2 => hno w (.inl ⟨h1, h2⟩)
        rw [heq.1, heq.2] at hop; exact hop
      · have heq : H q = H j ∧ M q = M j := L.heap_eq hle hq fun w h1 h2 => hno w (.inr ⟨h1, h2⟩)
        rw [heq.1, heq.2]; exact hop

theorem wp_any_sound (L : LF P l st E V A W H M) (hd : drawOk l = true) (hdst : dstsOk N l = true) {Q' : Exit → Act → World → Prop} {μ0 : Mu} {w0 : World}
    (hq : ∀ env μ a w, (∀ s, lk env s = lk (E l.length) s) → SR N D O μ ⟨env, H l.length, M l.length⟩ a w → Evo w0 μ0 st.n w μ (M l.length) → Q' .normal a w) :
    ∀ (fuel : Nat) (listed : Array Bool) (S : Nat → Prop) (env : Env) (q : Nat) (μ : Mu) (a : Act) (w : World), listed.size = l.length → (∀ i, i < l.length → (S i ↔ listed.getD i true = true)) → (∀ i, S i → i < l.length) → Closed l S →
      At P l st V S env → HeapAt l A W S q → SR N D O μ ⟨env, H q, M q⟩ a w → Evo w0 μ0 st.n w μ (M q) → (∃ c : List Nat, c.length = fuel ∧ ∀ i, i < l.length → ¬ S i → i ∈ c) → wpAny P .any l.toArray Q' fuel listed a w := by
  have hdone : ∀ (listed : Array Bool) (S : Nat → Prop) (env : Env) (q : Nat) (μ : Mu) (a : Act) (w : World), (∀ i, i < l.length → S i) → At P l st V S env → HeapAt l A W S q → SR N D O μ ⟨env, H q, M q⟩ a w → Evo w0 μ0 st.n w μ (M q) → Q' .normal a w := by
    intro listed S env q μ a w hall hat hh hs he
    have heq : H l.length = H q ∧ M l.length = M q := L.heap_eq hh.1 (Nat.le_refl _) fun w h1 h2 hb => by have := (hh.2 w h2 hb.1 hb.2).1 (hall w h2); omega
    refine hq env μ a w (fun s => ?_) (by rw [heq.1, heq.2]; exact hs) (by rw [heq.2]; exact he)
    rcases L.slot hd l.length s (Nat.le_refl _) with ⟨h1, h2⟩ | ⟨i, oi, h1, h2, h3, h4⟩
    · rw [h1]; exact hat.old s fun i oi hsi hoi => h2 i oi (List.getElem?_eq_some_iff.1 hoi).1 hoi
    · rw [h4]; exact hat.new s i oi (hall i h1) h2 h3
  have hready : ∀ (listed : Array Bool) (S : Nat → Prop), (∀ i, i < l.length → (S i ↔ listed.getD i true = true)) → listed.size = l.length → Region.ready .any l.toArray listed = [] → ∀ i, i < l.length → S i := by
    intro listed S hS hsz hr i
    induction i using Nat.strongRecOn with
    | _ i ih =>
      intro hi
      by_cases hs : S i
      · exact hs
      · have hl : listed.getD i true = false := by
          cases hb : listed.getD i true with
          | false => rfl
          | true => exact absurd ((hS i hi).2 hb) hs
        have : i ∈ Region.ready .any l.toArray listed := mem_ready.2 ⟨hl, l[i], by simp, fun e he hb => by
          have hlt := (drawOk_spec hd).1 i _ (List.getElem?_eq_getElem hi) e he hb
          have := (hS e.on (by omega)).1 (ih e.on hlt (by omega))
          have hsz' : e.on < listed.size := by omega
          simpa [Array.getD_eq_getD_getElem?, hsz'] using this⟩
        rw [hr] at this; cases this
  intro fuel
  induction fuel with
  | zero =>
    intro listed S env q μ a w hsz hS hSl hc hat hh hs he hcnt
    obtain ⟨c, hcl, hci⟩ := hcnt
    have hcn : c = [] := List.eq_nil_of_length_eq_zero hcl
    have hall : ∀ i, i < l.length → S i := fun i hi => Classical.byContradiction fun hn => by have := hci i hi hn; rw [hcn] at this; cases this
    refine ⟨?_, hdone listed S env q μ a w hall hat hh hs he⟩
    refine List.eq_nil_iff_forall_not_mem.2 fun i hi => ?_
    obtain ⟨h1, o, h2, _⟩ := mem_ready.1 hi
    have hil : i < l.length := by simpa using (Array.getElem?_eq_some_iff.1 h2).1
    rw [(hS i hil).1 (hall i hil)] at h1
    cases h1
  | succ fuel ih =>
    intro listed S env q μ a w hsz hS hSl hc hat hh hs he hcnt
    refine ⟨fun hr => hdone listed S env q μ a w (hready listed S hS hsz hr) hat hh hs he, fun j hj => ?_⟩
    obtain ⟨hjun, o, ho, hdeps⟩ := mem_ready.1 hj
    have ho' : l[j]? = some o := by simpa using ho
    have hjl := (List.getElem?_eq_some_iff.1 ho').1
    have hnS : ¬ S j := fun h => by rw [(hS j hjl).1 h] at hjun; cases hjun
    have hdl : ∀ e ∈ o.after, Region.binds .any e = true → S e.on := fun e he' hb => by
      have hlt := (drawOk_spec hd).1 j _ ho' e he' hb
      have := hdeps e he' hb
      have hsz' : e.on < listed.size := by omega
      exact (hS e.on (by omega)).2 (by simpa [Array.getD_eq_getD_getElem?, hsz'] using this)
    have hdo : ∀ x, o.dst = some x → x < N := fun x hx => by
      simp only [dstsOk, List.all_eq_true] at hdst
      have := hdst o (List.mem_of_getElem? ho'); rw [hx] at this; simpa using this
    have hlisted : (∀ i, i < l.length → ((i = j ∨ S i) ↔ (listed.setIfInBounds j true).getD i true = true)) := fun i hi => by
      by_cases hij : i = j
      · subst hij; simp [Array.getD_eq_getD_getElem?, hsz, hi]
      · rw [Array.getD_eq_getD_getElem?, Array.getElem?_setIfInBounds_ne (by omega), ← Array.getD_eq_getD_getElem?, ← hS i hi]
        simp [hij]
    have hcl : Closed l (fun i => i = j ∨ S i) := fun i oi hoi hi e he' hb => by
      rcases hi with rfl | hi
      · rw [ho'] at hoi; cases hoi; exact .inr (hdl e he' hb)
      · exact .inr (hc i oi hoi hi e he' hb)
    have hat' : At P l st V (fun i => i = j ∨ S i) (Abs.putE env o.dst (V j)) := by
      constructor
      · intro s hno
        have h1 := hno j o (.inl rfl) ho'
        have h2 := hat.old s fun i oi hi => hno i oi (.inr hi)
        cases hdd : o.dst with
        | none => exact h2
        | some d =>
          simp only [Abs.putE, lk]
          rw [if_neg (by rintro rfl; exact h1 hdd)]
          exact h2
      · intro s i oi hi hoi hdi
        by_cases hij : i = j
        · subst hij
          rw [ho'] at hoi; cases hoi
          rw [hdi]; simp [Abs.putE, lk]
        · have hSi : S i := by rcases hi with h | h; exact absurd h hij; exact h
          have h2 := hat.new s i oi hSi hoi hdi
          cases hdd : o.dst with
          | none => exact h2
          | some d =>
            simp only [Abs.putE, lk]
            rw [if_neg (by rintro rfl; exact hij ((drawOk_spec hd).2.1 i j oi o s hoi ho' hdi hdd))]
            exact h2
    have hcnt' : ∃ c : List Nat, c.length = fuel ∧ ∀ i, i < l.length → ¬ (i = j ∨ S i) → i ∈ c := by
      obtain ⟨c, hcl, hci⟩ := hcnt
      have hjc := hci j hjl hnS
      refine ⟨c.erase j, by rw [List.length_erase_of_mem hjc, hcl]; rfl, fun i hi hno => ?_⟩
      exact (List.mem_erase_of_ne (fun h => hno (.inl h))).2 (hci i hi fun h => hno (.inr h))
    have sees : ∀ t ∈ tmpsOf o (l.map (·.dst)), lk env t = lk (E j) t := fun t ht => L.sees hd hat hc ho' hnS hdl ht
    unfold wpOp
    rw [ho]
    simp only
    cases ha : A j with
    | false =>
      obtain ⟨hv, hHj, hMj, jj, want, d, hg, hsl, hgv⟩ := L.off j o ho' ha
      have hsd := sees d (mem_tmps_guard hg hsl)
      have hnw : Region.wanted o (yielded l.toArray a.tmps) = false := by
        rcases hgv with h | ⟨b, h, hb⟩
        · obtain ⟨_, g2⟩ := guard_yields (st := ⟨env, H q, M q⟩) hs hsl (hsd.trans h)
          simp [Region.wanted, hg, g2 rfl]
        · obtain ⟨g1, _⟩ := guard_yields (st := ⟨env, H q, M q⟩) hs hsl (hsd.trans h)
          simp [Region.wanted, hg, g1 b rfl, hb]
      rw [hnw]
      simp only [Bool.false_eq_true, if_false]
      rw [hv] at hat'
      refine ih _ (fun i => i = j ∨ S i) _ q μ _ w (by simp [hsz]) hlisted (fun i hi => by rcases hi with rfl | hi; exact hjl; exact hSl i hi) hcl hat' ⟨hh.1, fun x hx hax hwx => ?_⟩ (hs.putE hs.hr hs.hr.refl .ud o.dst hdo) he hcnt'
      rw [← hh.2 x hx hax hwx]
      constructor
      · rintro (rfl | h)
        · rw [ha] at hax; cases hax
        · exact h
      · exact .inr
    | true =>
      obtain ⟨hg, hop, _⟩ := L.on j o ho' ha
      have hyw : Region.wanted o (yielded l.toArray a.tmps) = true := by
        rcases hg with hg | ⟨jj, want, d, hg, hsl, hgv⟩
        · simp [Region.wanted, hg]
        · obtain ⟨g1, _⟩ := guard_yields (st := ⟨env, H q, M q⟩) hs hsl ((sees d (mem_tmps_guard hg hsl)).trans hgv)
          simp [Region.wanted, hg, g1 want rfl]
      rw [hyw]
      simp only [if_true]
      refine .inl ?_
      obtain ⟨q', hh', hop'⟩ := L.op_now hc ho' hnS hdl ha hh
      have hcong : ∀ x ∈ o.op.operands.toList, ev (E j) x = ev env x := fun x hx => by
        cases x with
        | tmp t => exact (sees t (mem_tmps_op hx)).symm
        | _ => rfl
      rw [aop_congr hcong] at hop'
      refine aop_sound hop' hs.hr (fun x => hs.ev x) _ _ ?_
      rintro u w' μ' v h' n' ⟨rfl, rfl, rfl⟩ hr' hv' he'
      exact ih _ (fun i => i = j ∨ S i) _ q' μ' _ w' (by simp [hsz]) hlisted (fun i hi => by rcases hi with rfl | hi; exact hjl; exact hSl i hi) hcl hat' hh' (hs.putE hr' he' hv' o.dst hdo) (he.trans he') hcnt'

theorem Sat.draw {id : Nat} {Q : Exit → St → Prop} (hm : P.follows .mixedOrders = true) (hd : drawOk l = true) (hdst : dstsOk N l = true) (L : LF P l st E V A W H M) (hk : Q .normal ⟨E l.length, H l.length, M l.length⟩) :
    Sat P N D O (.region id l.toArray true) Q st := by
  intro μ a w hs
  refine wp_region_any hm ?_
  obtain ⟨e1, hr1⟩ := hs.hr.drew
  have hs1 : SR N D O μ ⟨st.env, H 0, M 0⟩ a w.drew := by rw [L.h0, L.m0]; exact hs.step hr1 e1
  refine wp_any_sound (D := D) (O := O) L hd hdst (μ0 := μ) (w0 := w) (fun env μ' a' w' hl hs' he' => ⟨⟨E l.length, H l.length, M l.length⟩, μ', hk, ⟨hs'.hr, hs'.size, hs'.defers, fun s => ?_⟩, he'⟩)
    _ _ (fun _ => False) st.env 0 μ a w.drew (by simp) (fun i hi => by simp [Array.getD_eq_getD_getElem?, hi]) (fun i h => h.elim) (fun j o _ h => h.elim) ⟨fun s _ => rfl, fun s i oi h => h.elim⟩
    ⟨by omega, fun x hx _ _ => by simp⟩ hs1 (by rw [L.m0]; exact e1) ⟨List.range l.length, by simp, fun i hi _ => List.mem_range.2 hi⟩
  have := hs'.env s
  rw [← hl s]; exact this

end
end
end Go.Abs

/- Regions whose order is drawn: the walk in the order of the text, and what it has to look at twice. -/
set_option linter.unusedSimpArgs false
set_option linter.unusedVariables false
namespace Go.Abs
open Go Go.RowKit

/-- may the operation change own blocks? wc: the calls that may -/
def isW (wc : List Nat) (j : Nat) (o : Oper) : Bool :=
  match o.op with
  | .alloc _ | .box _ _ | .store _ _ _ | .makeSlice _ _ _ | .makeMap _ _ | .mapUpdate _ _ _ _ | .insert _ _ _ _ | .mapEntry _ _ _ | .entryStore _ _ _ _ => true
  | .call { callee := .builtin .append, .. } | .call { callee := .builtin .copy, .. } | .call { callee := .builtin .delete, .. } => true
  | .call { callee := .value _, .. } => wc.contains j
  | .buildSlice _ _ _ => wc.contains j
  | _ => false

structure Rec where
  j : Nat
  o : Oper
  env : Env
  v : AV
  h : AH
  n : Nat
  h' : AH
  n' : Nat

def wants (rd : List (Nat × Nat)) (j : Nat) : Bool := rd.any fun p => p.1 == j || p.2 == j
def recOf (tr : List Rec) (j : Nat) : Option Rec := tr.find? fun r => r.j == j

def recheck (P : Program) (tr : List Rec) : List (Nat × Nat) → Prop
  | [] => True
  | (x, w) :: rest => (match recOf tr x, recOf tr w with
    | some a, some b => if w < x then aop P a.env b.h b.n a.o (fun v h n => v = a.v ∧ h = b.h ∧ n = b.n) else aop P a.env b.h' b.n' a.o (fun v h n => v = a.v ∧ h = b.h' ∧ n = b.n')
    | _, _ => True) ∧ recheck P tr rest

/-- ∃ and ∧ that simp doesn't walk through: the values behind a call aren't known yet -/
def callD (A B : AV → Prop) : Prop := ∃ v, A v ∧ B v
theorem callD.mk {A B : AV → Prop} (v : AV) (ha : A v) (hb : B v) : callD A B := ⟨v, ha, hb⟩
def isCall (o : Oper) : Bool :=
  match o.op with
  | .call { callee := .value _, .. } => true
  | _ => false

def stepD (P : Program) (wc : List Nat) (rd : List (Nat × Nat)) (o : Oper) (j : Nat) (env : Env) (h : AH) (n : Nat) (tr : List Rec) (next : St → List Rec → Prop) : Prop :=
  if isW wc j o then ∃ v h' n', aop P env h n o (fun a b c => a = v ∧ b = h' ∧ c = n') ∧ next ⟨putE env o.dst v, h', n'⟩ (if wants rd j then ⟨j, o, env, v, h, n, h', n'⟩ :: tr else tr)
  else if isCall o then callD (fun v => aop P env h n o (fun a b c => a = v ∧ b = h ∧ c = n)) fun v => next ⟨putE env o.dst v, h, n⟩ (if wants rd j then ⟨j, o, env, v, h, n, h, n⟩ :: tr else tr)
  else ∃ v, aop P env h n o (fun a b c => a = v ∧ b = h ∧ c = n) ∧ next ⟨putE env o.dst v, h, n⟩ (if wants rd j then ⟨j, o, env, v, h, n, h, n⟩ :: tr else tr)

def aopsD (P : Program) (ds : List (Option Tmp)) (wc : List Nat) (rd : List (Nat × Nat)) : List Oper → Nat → St → List Rec → (St → Prop) → Prop
  | [], _, st, tr, K => recheck P tr rd ∧ K st
  | o :: r, j, st, tr, K =>
    match o.guard with
    | none => stepD P wc rd o j st.env st.h st.n tr fun s t => aopsD P ds wc rd r (j + 1) s t K
    | some (g, want) => match slotOf ds g with
      | some d => match lk st.env d with
        | .sc (.bool b) => (b = want → stepD P wc rd o j ((d, .sc (.bool want)) :: st.env) st.h st.n tr fun s t => aopsD P ds wc rd r (j + 1) s t K) ∧
            (b = !want → aopsD P ds wc rd r (j + 1) ⟨putE ((d, .sc (.bool (!want))) :: st.env) o.dst .ud, st.h, st.n⟩ tr K)
        | .ud => aopsD P ds wc rd r (j + 1) ⟨putE st.env o.dst .ud, st.h, st.n⟩ tr K
        | _ => False
      | none => False

/-- writes wait for one another; reads and writes wait for one another, or are looked at twice -/
def drawW (l : List Oper) (wc : List Nat) (rd : List (Nat × Nat)) : Bool :=
  let anc := ancOf l
  l.zipIdx.all fun (o, j) => !isW wc j o || l.zipIdx.all fun (o', i) => i == j || (if isW wc i o' then decide (j < i) || (anc.getD j []).contains i else (anc.getD j []).contains i || (anc.getD i []).contains j || rd.contains (i, j))

section
variable {P : Program} {l : List Oper} {wc : List Nat} {rd : List (Nat × Nat)}

theorem drawW_spec (hd : drawW l wc rd = true) {i j : Nat} {oi oj : Oper} (hi : l[i]? = some oi) (hj : l[j]? = some oj) (hne : i ≠ j) (hw : isW wc j oj = true) :
    (isW wc i oi = true → i < j → Anc l i j) ∧ (isW wc i oi = false → Anc l i j ∨ Anc l j i ∨ (i, j) ∈ rd) := by
  simp only [drawW, List.all_eq_true, Prod.forall, Bool.or_eq_true, Bool.not_eq_true'] at hd
  have mem : ∀ {α : Type} {m : List α} {j : Nat} {x : α}, m[j]? = some x → (x, j) ∈ m.zipIdx := fun h => List.mem_zipIdx_iff_getElem?.2 (by simpa using h)
  rcases hd oj j (mem hj) with h | h
  · rw [hw] at h; cases h
  · have := h oi i (mem hi)
    simp only [beq_iff_eq, hne, false_or] at this
    constructor
    · intro hwi hlt
      rw [hwi] at this
      simp only [if_true, Bool.or_eq_true, decide_eq_true_eq, List.contains_iff_mem] at this
      rcases this with h1 | h1
      · omega
      · exact ancOf_spec h1
    · intro hwi
      rw [hwi] at this
      simp only [Bool.false_eq_true, if_false, Bool.or_eq_true, List.contains_iff_mem] at this
      rcases this with (h1 | h1) | h1
      · exact .inl (ancOf_spec h1)
      · exact .inr (.inl (ancOf_spec h1))
      · exact .inr (.inr h1)

/-- the facts of LF from place k on, without what compares two places -/
structure LG (P : Program) (l : List Oper) (wc : List Nat) (k : Nat) (E : Nat → Env) (V : Nat → AV) (A : Nat → Bool) (H : Nat → AH) (M : Nat → Nat) : Prop where
  next : ∀ (j : Nat) (o : Oper), k ≤ j → l[j]? = some o → ∀ s, lk (E (j + 1)) s = lk (putE (E j) o.dst (V j)) s
  off : ∀ (j : Nat) (o : Oper), k ≤ j → l[j]? = some o → A j = false → V j = .ud ∧ H (j + 1) = H j ∧ M (j + 1) = M j ∧
    ∃ jj want d, o.guard = some (jj, want) ∧ slotOf (l.map (·.dst)) jj = some d ∧ (lk (E j) d = .ud ∨ ∃ b, lk (E j) d = .sc (.bool b) ∧ b ≠ want)
  on : ∀ (j : Nat) (o : Oper), k ≤ j → l[j]? = some o → A j = true → (o.guard = none ∨ ∃ jj want d, o.guard = some (jj, want) ∧ slotOf (l.map (·.dst)) jj = some d ∧ lk (E j) d = .sc (.bool want)) ∧
    aop P (E j) (H j) (M j) o (fun v h n => v = V j ∧ h = H (j + 1) ∧ n = M (j + 1)) ∧ (isW wc j o = false → H (j + 1) = H j ∧ M (j + 1) = M j)

/-- the records of the active operations -/
def Recs (l : List Oper) (rd : List (Nat × Nat)) (k : Nat) (E : Nat → Env) (V : Nat → AV) (A : Nat → Bool) (H : Nat → AH) (M : Nat → Nat) (tr : List Rec) : Prop :=
  ∀ (j : Nat) (o : Oper), k ≤ j → l[j]? = some o → A j = true → wants rd j = true → ∃ env, recOf tr j = some ⟨j, o, env, V j, H j, M j, H (j + 1), M (j + 1)⟩ ∧ ∀ s, lk env s = lk (E j) s

theorem lk_put_congr {env env' : Env} (h : ∀ s, lk env s = lk env' s) (d : Option Tmp) (v : AV) : ∀ s, lk (putE env d v) s = lk (putE env' d v) s := by
  intro s
  cases d with
  | none => exact h s
  | some d => simp only [putE, lk, h s]

theorem lk_again {env : Env} {d : Nat} {v : AV} (h : lk env d = v) : ∀ s, lk ((d, v) :: env) s = lk env s := by
  intro s
  simp only [lk]
  split
  · rename_i e; rw [e, h]
  · rfl

theorem aopsD_LG : ∀ (r : List Oper) (k : Nat) (st : St) (tr : List Rec) (K : St → Prop), (∀ j, r[j]? = l[k + j]?) → k + r.length = l.length → (∀ x ∈ tr, x.j < k) → aopsD P (l.map (·.dst)) wc rd r k st tr K →
    ∃ E V A H M trF, E k = st.env ∧ H k = st.h ∧ M k = st.n ∧ LG P l wc k E V A H M ∧ K ⟨E l.length, H l.length, M l.length⟩ ∧ recheck P trF rd ∧ Recs l rd k E V A H M trF ∧ (∀ j, j < k → recOf trF j = recOf tr j)
  | [], k, st, tr, K, _, hl, htr, hk => by
    simp only [List.length_nil, Nat.add_zero] at hl
    obtain ⟨h1, h2⟩ := hk
    refine ⟨fun _ => st.env, fun _ => .ud, fun _ => false, fun _ => st.h, fun _ => st.n, tr, rfl, rfl, rfl, ⟨fun j o hj ho => ?_, fun j o hj ho => ?_, fun j o hj ho => ?_⟩, by cases st; exact h2, h1, fun j o hj ho => ?_, fun _ _ => rfl⟩
    all_goals have := (List.getElem?_eq_some_iff.1 ho).1; omega
  | o :: r, k, st, tr, K, hr, hl, htr, hk => by
    simp only [List.length_cons] at hl
    have ho : l[k]? = some o := by have := hr 0; simpa using this.symm
    have hr' : ∀ j, r[j]? = l[k + 1 + j]? := fun j => by have := hr (j + 1); simp at this; rw [this]; congr 1; omega
    -- put one operation in front
    have glue : ∀ (env : Env) (v : AV) (act : Bool) (h' : AH) (n' : Nat) (tr' : List Rec), (∀ s, lk env s = lk st.env s) → (∀ x ∈ tr', x.j < k + 1) → (∀ j, j < k → recOf tr' j = recOf tr j) →
        (act = true → wants rd k = true → ∃ env', recOf tr' k = some ⟨k, o, env', v, st.h, st.n, h', n'⟩ ∧ ∀ s, lk env' s = lk st.env s) →
        (act = false → v = .ud ∧ h' = st.h ∧ n' = st.n ∧ ∃ jj want d, o.guard = some (jj, want) ∧ slotOf (l.map (·.dst)) jj = some d ∧ (lk st.env d = .ud ∨ ∃ b, lk st.env d = .sc (.bool b) ∧ b ≠ want)) →
        (act = true → (o.guard = none ∨ ∃ jj want d, o.guard = some (jj, want) ∧ slotOf (l.map (·.dst)) jj = some d ∧ lk st.env d = .sc (.bool want)) ∧ aop P st.env st.h st.n o (fun a b c => a = v ∧ b = h' ∧ c = n') ∧ (isW wc k o = false → h' = st.h ∧ n' = st.n)) →
        aopsD P (l.map (·.dst)) wc rd r (k + 1) ⟨putE env o.dst v, h', n'⟩ tr' K →
        ∃ E V A H M trF, E k = st.env ∧ H k = st.h ∧ M k = st.n ∧ LG P l wc k E V A H M ∧ K ⟨E l.length, H l.length, M l.length⟩ ∧ recheck P trF rd ∧ Recs l rd k E V A H M trF ∧ (∀ j, j < k → recOf trF j = recOf tr j) := by
      intro env v act h' n' tr' henv htr' hold hrec hoff hon hk
      obtain ⟨E, V, A, H, M, trF, g1, g2, g3, g4, g5, g6, g7, g8⟩ := aopsD_LG r (k + 1) _ tr' K hr' (by omega) htr' hk
      refine ⟨fun i => if i = k then st.env else E i, fun i => if i = k then v else V i, fun i => if i = k then act else A i, fun i => if i = k then st.h else H i, fun i => if i = k then st.n else M i, trF,
        by simp, by simp, by simp, ⟨fun j o' hj ho' => ?_, fun j o' hj ho' ha => ?_, fun j o' hj ho' ha => ?_⟩, ?_, g6, fun j o' hj ho' ha hw => ?_, fun j hj => (g8 j (by omega)).trans (hold j hj)⟩
      · by_cases hjk : j = k
        · subst hjk
          rw [ho] at ho'; cases ho'
          simp only [if_true, show ¬ j + 1 = j by omega, if_false, g1]
          exact lk_put_congr henv _ _
        · simp only [if_neg hjk, show ¬ j + 1 = k by omega, if_false]
          exact g4.next j o' (by omega) ho'
      · by_cases hjk : j = k
        · subst hjk
          rw [ho] at ho'; cases ho'
          simp only [if_true] at ha
          simp only [if_true, show ¬ j + 1 = j by omega, if_false, g2, g3]
          exact hoff ha
        · simp only [if_neg hjk] at ha
          simp only [if_neg hjk, show ¬ j + 1 = k by omega, if_false]
          exact g4.off j o' (by omega) ho' ha
      · by_cases hjk : j = k
        · subst hjk
          rw [ho] at ho'; cases ho'
          simp only [if_true] at ha
          simp only [if_true, show ¬ j + 1 = j by omega, if_false, g2, g3]
          exact hon ha
        · simp only [if_neg hjk] at ha
          simp only [if_neg hjk, show ¬ j + 1 = k by omega, if_false]
          exact g4.on j o' (by omega) ho' ha
      · simp only [show ¬ l.length = k by omega, if_false]; exact g5
      · by_cases hjk : j = k
        · subst hjk
          rw [ho] at ho'; cases ho'
          simp only [if_true] at ha
          obtain ⟨env', q1, q2⟩ := hrec ha hw
          simp only [if_true, show ¬ j + 1 = j by omega, if_false, g2, g3]
          exact ⟨env', by rw [g8 j (by omega), q1], q2⟩
        · simp only [if_neg hjk] at ha
          simp only [if_neg hjk, show ¬ j + 1 = k by omega, if_false]
          exact g7 j o' (by omega) ho' ha hw
    have step : ∀ (env : Env), (∀ s, lk env s = lk st.env s) → (o.guard = none ∨ ∃ jj want d, o.guard = some (jj, want) ∧ slotOf (l.map (·.dst)) jj = some d ∧ lk st.env d = .sc (.bool want)) →
        stepD P wc rd o k env st.h st.n tr (fun s t => aopsD P (l.map (·.dst)) wc rd r (k + 1) s t K) →
        ∃ E V A H M trF, E k = st.env ∧ H k = st.h ∧ M k = st.n ∧ LG P l wc k E V A H M ∧ K ⟨E l.length, H l.length, M l.length⟩ ∧ recheck P trF rd ∧ Recs l rd k E V A H M trF ∧ (∀ j, j < k → recOf trF j = recOf tr j) := by
      intro env henv hg hs
      have hcong : ∀ x ∈ o.op.operands.toList, ev env x = ev st.env x := fun x hx => by
        cases x with
        | tmp t => exact henv t
        | _ => rfl
      have trok : ∀ (rc : Rec), rc.j = k → (∀ x ∈ (if wants rd k then rc :: tr else tr), x.j < k + 1) ∧ (∀ j, j < k → recOf (if wants rd k then rc :: tr else tr) j = recOf tr j) ∧ (wants rd k = true → recOf (if wants rd k then rc :: tr else tr) k = some rc) := by
        intro rc hrc
        refine ⟨fun x hx => ?_, fun j hj => ?_, fun hw => ?_⟩
        · split at hx
          · rcases List.mem_cons.1 hx with rfl | hx
            · omega
            · have := htr x hx; omega
          · have := htr x hx; omega
        · split
          · have hne : ¬ k = j := by omega
            simp [recOf, hrc, hne]
          · rfl
        · rw [if_pos hw]; simp [recOf, hrc]
      unfold stepD at hs
      have hdd : ∀ A B : AV → Prop, (if isCall o then callD A B else ∃ v, A v ∧ B v) → ∃ v, A v ∧ B v := fun A B h => by
        split at h
        · exact h
        · exact h
      split at hs
      · obtain ⟨v, h', n', h1, h2⟩ := hs
        rw [aop_congr hcong] at h1
        obtain ⟨t1, t2, t3⟩ := trok ⟨k, o, env, v, st.h, st.n, h', n'⟩ rfl
        exact glue env v true h' n' _ henv t1 t2 (fun _ hw => ⟨env, t3 hw, henv⟩) (fun h => by cases h) (fun _ => ⟨hg, h1, fun hw => by simp_all⟩) h2
      · obtain ⟨v, h1, h2⟩ := hdd _ _ hs
        rw [aop_congr hcong] at h1
        obtain ⟨t1, t2, t3⟩ := trok ⟨k, o, env, v, st.h, st.n, st.h, st.n⟩ rfl
        exact glue env v true st.h st.n _ henv t1 t2 (fun _ hw => ⟨env, t3 hw, henv⟩) (fun h => by cases h) (fun _ => ⟨hg, h1, fun _ => ⟨rfl, rfl⟩⟩) h2
    simp only [aopsD] at hk
    cases hg : o.guard with
    | none =>
      simp only [hg] at hk
      exact step st.env (fun _ => rfl) (.inl hg) hk
    | some gw =>
      obtain ⟨g, want⟩ := gw
      simp only [hg] at hk
      cases hj : slotOf (l.map (·.dst)) g with
      | none => simp only [hj] at hk
      | some d =>
        simp only [hj] at hk
        have skip : ∀ env, (∀ s, lk env s = lk st.env s) → (lk st.env d = .ud ∨ ∃ b, lk st.env d = .sc (.bool b) ∧ b ≠ want) → aopsD P (l.map (·.dst)) wc rd r (k + 1) ⟨putE env o.dst .ud, st.h, st.n⟩ tr K → _ := fun env henv hv hk =>
          glue env .ud false st.h st.n tr henv (fun x hx => by have := htr x hx; omega) (fun _ _ => rfl) (fun h => by cases h) (fun _ => ⟨rfl, rfl, rfl, g, want, d, hg, hj, hv⟩) (fun h => by cases h) hk
        cases hga : lk st.env d with
        | ud => simp only [hga] at hk; exact skip st.env (fun _ => rfl) (.inl hga) hk
        | sc v =>
          cases v with
          | bool b =>
            simp only [hga] at hk
            by_cases hb : b = want
            · exact step _ (lk_again (by rw [hga, hb])) (.inr ⟨g, want, d, hg, hj, by rw [hga, hb]⟩) (hk.1 hb)
            · have hb' : b = !want := by cases b <;> cases want <;> simp_all
              exact skip _ (lk_again (by rw [hga, hb'])) (.inr ⟨b, hga, hb⟩) (hk.2 hb')
          | _ => simp only [hga] at hk
        | _ => simp only [hga] at hk

theorem recheck_at {tr : List Rec} : ∀ {rd' : List (Nat × Nat)}, recheck P tr rd' → ∀ {x w : Nat}, (x, w) ∈ rd' → ∀ {a b : Rec}, recOf tr x = some a → recOf tr w = some b →
    (if w < x then aop P a.env b.h b.n a.o (fun v h n => v = a.v ∧ h = b.h ∧ n = b.n) else aop P a.env b.h' b.n' a.o (fun v h n => v = a.v ∧ h = b.h' ∧ n = b.n'))
  | [], _, x, w, hm, _, _, _, _ => by cases hm
  | (x', w') :: rest, hr, x, w, hm, a, b, ha, hb => by
    obtain ⟨h1, h2⟩ := hr
    rcases List.mem_cons.1 hm with e | hm
    · cases e
      rw [ha, hb] at h1
      exact h1
    · exact recheck_at h2 hm ha hb

theorem Anc.lt (hd : drawOk l = true) {i j : Nat} (h : Anc l i j) : i < j := by
  induction h with
  | one ho he hb hi => exact hi ▸ (drawOk_spec hd).1 _ _ ho _ he hb
  | step h ho he hb hi ih => exact Nat.lt_trans ih (hi ▸ (drawOk_spec hd).1 _ _ ho _ he hb)

theorem aopsD_LF {st : St} {K : St → Prop} (hd : drawOk l = true) (hw : drawW l wc rd = true) (hk : aopsD P (l.map (·.dst)) wc rd l 0 st [] K) :
    ∃ E V A H M, LF P l st E V A (fun j => ((l[j]?).map (isW wc j)).getD false) H M ∧ K ⟨E l.length, H l.length, M l.length⟩ := by
  obtain ⟨E, V, A, H, M, trF, g1, g2, g3, g4, g5, g6, g7, _⟩ := aopsD_LG l 0 st [] K (fun j => by simp) (by simp) (fun x hx => by cases hx) hk
  have hW : ∀ {j : Nat} {o : Oper}, l[j]? = some o → ((l[j]?).map (isW wc j)).getD false = isW wc j o := fun h => by rw [h]; rfl
  refine ⟨E, V, A, H, M, ⟨fun s => by rw [g1], g2, g3, fun j o ho => g4.next j o (Nat.zero_le _) ho, fun j o ho => g4.off j o (Nat.zero_le _) ho, fun j o ho ha => ?_, fun i j hij hjl hai hwi haj hwj => ?_, fun j w o ho hwl haj hwj haw hww => ?_⟩, g5⟩
  · obtain ⟨h1, h2, h3⟩ := g4.on j o (Nat.zero_le _) ho ha
    exact ⟨h1, h2, fun hwj => h3 (by rw [← hW ho]; exact hwj)⟩
  · have hi : l[i]? = some (l[i]'(by omega)) := List.getElem?_eq_getElem _
    have hj : l[j]? = some (l[j]'hjl) := List.getElem?_eq_getElem _
    rw [hW hi] at hwi
    rw [hW hj] at hwj
    exact (drawW_spec hw hi hj (by omega) hwj).1 hwi hij
  · have hwo : l[w]? = some (l[w]'hwl) := List.getElem?_eq_getElem _
    have hjl := (List.getElem?_eq_some_iff.1 ho).1
    rw [hW ho] at hwj
    rw [hW hwo] at hww
    have hne : j ≠ w := by
      rintro rfl
      rw [ho] at hwo; cases hwo
      rw [hwj] at hww; cases hww
    rcases (drawW_spec hw ho hwo hne hww).2 hwj with h | h | h
    · have := h.lt hd
      exact ⟨fun hlt => absurd this (by omega), fun _ => .inl h⟩
    · have := h.lt hd
      exact ⟨fun _ => .inl h, fun hlt => absurd this (by omega)⟩
    · have wj : wants rd j = true := by simp only [wants, List.any_eq_true, Bool.or_eq_true, beq_iff_eq]; exact ⟨_, h, .inl rfl⟩
      have ww : wants rd w = true := by simp only [wants, List.any_eq_true, Bool.or_eq_true, beq_iff_eq]; exact ⟨_, h, .inr rfl⟩
      obtain ⟨e1, r1, f1⟩ := g7 j o (Nat.zero_le _) ho haj wj
      obtain ⟨e2, r2, f2⟩ := g7 w _ (Nat.zero_le _) hwo haw ww
      have hre := recheck_at g6 h r1 r2
      simp only at hre
      have hcong : ∀ x ∈ o.op.operands.toList, ev e1 x = ev (E j) x := fun x hx => by
        cases x with
        | tmp t => exact f1 t
        | _ => rfl
      constructor
      · intro hlt
        rw [if_pos hlt, aop_congr hcong] at hre
        exact .inr hre
      · intro hlt
        rw [if_neg (by omega), aop_congr hcong] at hre
        exact .inr hre

end
end Go.Abs

/- Rules in the form in which a walk uses them. -/
set_option linter.unusedSimpArgs false
set_option linter.unusedVariables false
namespace Go.Abs
open Go Go.RowKit

abbrev int (n : Int) : AV := .sc (.int .i64 n)
abbrev bool (b : Bool) : AV := .sc (.bool b)
abbrev u8 (n : Int) : AV := .sc (.int .u8 n)
abbrev nilS : AV := .sc (.slice none 0 0)

/-! The walks of regions, sealed: so that the kernel doesn't run them again at each step. -/
theorem aopsSeal : ∃ f : Program → List (Option Tmp) → List Oper → St → (St → Prop) → Prop, f = aops := ⟨aops, rfl⟩
noncomputable def aopsS := Classical.choose aopsSeal
theorem aopsS_eq : aopsS = aops := Classical.choose_spec aopsSeal
theorem aopsS_nil (P : Program) (ds : List (Option Tmp)) (st : St) (K : St → Prop) : aopsS P ds [] st K = K st := by rw [aopsS_eq]; rfl
theorem aopsS_cons (P : Program) (ds : List (Option Tmp)) (o : Oper) (r : List Oper) (st : St) (K : St → Prop) : aopsS P ds (o :: r) st K = (match o.guard with
    | none => aop P st.env st.h st.n o (fun v h n => aopsS P ds r ⟨putE st.env o.dst v, h, n⟩ K)
    | some (j, want) => match slotOf ds j with
      | some d => match lk st.env d with
        | .sc (.bool b) => (b = want → aop P ((d, .sc (.bool want)) :: st.env) st.h st.n o (fun v h n => aopsS P ds r ⟨putE ((d, .sc (.bool want)) :: st.env) o.dst v, h, n⟩ K)) ∧
            (b = !want → aopsS P ds r ⟨putE ((d, .sc (.bool (!want))) :: st.env) o.dst .ud, st.h, st.n⟩ K)
        | .ud => aopsS P ds r ⟨putE st.env o.dst .ud, st.h, st.n⟩ K
        | _ => False
      | none => False) := by rw [aopsS_eq]; rfl
section
variable {P : Program} {ds : List (Option Tmp)} {r : List Oper} {env : Env} {h : AH} {n : Nat} {K : St → Prop} {d : Tmp} {op : Op} {ty : TypeId} {pos : String} {after : Array Edge}
theorem aopsS_end {st : St} (hk : K st) : aopsS P ds [] st K := by rw [aopsS_nil]; exact hk
theorem aopsS_step (hs : ∀ K' : K3, (∀ v h' n', aopsS P ds r ⟨(d, v) :: env, h', n'⟩ K → K' v h' n') → aop P env h n ⟨some d, op, ty, pos, after, none⟩ K') : aopsS P ds (⟨some d, op, ty, pos, after, none⟩ :: r) ⟨env, h, n⟩ K := by
  rw [aopsS_cons]; exact hs _ fun _ _ _ h => h
theorem aopsS_step0 (hs : ∀ K' : K3, (∀ v h' n', aopsS P ds r ⟨env, h', n'⟩ K → K' v h' n') → aop P env h n ⟨none, op, ty, pos, after, none⟩ K') : aopsS P ds (⟨none, op, ty, pos, after, none⟩ :: r) ⟨env, h, n⟩ K := by
  rw [aopsS_cons]; exact hs _ fun _ _ _ h => h
theorem aopsS_split {j : Nat} {want : Bool} {g : Tmp} (hd : slotOf ds j = some g) (b : Bool) (hl : lk env g = .sc (.bool b))
    (h1 : b = want → ∀ K' : K3, (∀ v h' n', aopsS P ds r ⟨(d, v) :: (g, .sc (.bool want)) :: env, h', n'⟩ K → K' v h' n') → aop P ((g, .sc (.bool want)) :: env) h n ⟨some d, op, ty, pos, after, some (j, want)⟩ K')
    (h2 : b = !want → aopsS P ds r ⟨(d, .ud) :: (g, .sc (.bool (!want))) :: env, h, n⟩ K) : aopsS P ds (⟨some d, op, ty, pos, after, some (j, want)⟩ :: r) ⟨env, h, n⟩ K := by
  rw [aopsS_cons]
  simp only [hd, hl]
  exact ⟨fun e => h1 e _ fun _ _ _ h => h, fun e => h2 e⟩
theorem aopsS_on {j : Nat} {want : Bool} {g : Tmp} (hd : slotOf ds j = some g) (hl : lk env g = .sc (.bool want))
    (h1 : ∀ K' : K3, (∀ v h' n', aopsS P ds r ⟨(d, v) :: (g, .sc (.bool want)) :: env, h', n'⟩ K → K' v h' n') → aop P ((g, .sc (.bool want)) :: env) h n ⟨some d, op, ty, pos, after, some (j, want)⟩ K') : aopsS P ds (⟨some d, op, ty, pos, after, some (j, want)⟩ :: r) ⟨env, h, n⟩ K :=
  aopsS_split hd _ hl (fun _ => h1) fun e => absurd e (by cases want <;> decide)
theorem aopsS_off {j : Nat} {want : Bool} {g : Tmp} (hd : slotOf ds j = some g) (hl : lk env g = .sc (.bool (!want))) (h2 : aopsS P ds r ⟨(d, .ud) :: (g, .sc (.bool (!want))) :: env, h, n⟩ K) : aopsS P ds (⟨some d, op, ty, pos, after, some (j, want)⟩ :: r) ⟨env, h, n⟩ K :=
  aopsS_split hd _ hl (fun e => absurd e (by cases want <;> decide)) fun _ => h2
theorem aopsS_ud {j : Nat} {want : Bool} {g : Tmp} (hd : slotOf ds j = some g) (hl : lk env g = .ud) (h2 : aopsS P ds r ⟨(d, .ud) :: env, h, n⟩ K) : aopsS P ds (⟨some d, op, ty, pos, after, some (j, want)⟩ :: r) ⟨env, h, n⟩ K := by
  rw [aopsS_cons]
  simp only [hd, hl]
  exact h2
end
theorem aopsDSeal : ∃ f : Program → List (Option Tmp) → List Nat → List (Nat × Nat) → List Oper → Nat → St → List Rec → (St → Prop) → Prop, f = aopsD := ⟨aopsD, rfl⟩
noncomputable def aopsDS := Classical.choose aopsDSeal
theorem aopsDS_eq : aopsDS = aopsD := Classical.choose_spec aopsDSeal
theorem aopsDS_nil (P : Program) (ds : List (Option Tmp)) (wc : List Nat) (rd : List (Nat × Nat)) (j : Nat) (st : St) (tr : List Rec) (K : St → Prop) : aopsDS P ds wc rd [] j st tr K = (recheck P tr rd ∧ K st) := by rw [aopsDS_eq]; rfl
theorem aopsDS_cons (P : Program) (ds : List (Option Tmp)) (wc : List Nat) (rd : List (Nat × Nat)) (o : Oper) (r : List Oper) (j : Nat) (st : St) (tr : List Rec) (K : St → Prop) : aopsDS P ds wc rd (o :: r) j st tr K = (match o.guard with
    | none => stepD P wc rd o j st.env st.h st.n tr fun s t => aopsDS P ds wc rd r (j + 1) s t K
    | some (g, want) => match slotOf ds g with
      | some d => match lk st.env d with
        | .sc (.bool b) => (b = want → stepD P wc rd o j ((d, .sc (.bool want)) :: st.env) st.h st.n tr fun s t => aopsDS P ds wc rd r (j + 1) s t K) ∧
            (b = !want → aopsDS P ds wc rd r (j + 1) ⟨putE ((d, .sc (.bool (!want))) :: st.env) o.dst .ud, st.h, st.n⟩ tr K)
        | .ud => aopsDS P ds wc rd r (j + 1) ⟨putE st.env o.dst .ud, st.h, st.n⟩ tr K
        | _ => False
      | none => False) := by rw [aopsDS_eq]; rfl

section
variable {P : Program} {ds : List (Option Tmp)} {wc : List Nat} {r : List Oper} {j : Nat} {env : Env} {h : AH} {n : Nat} {tr : List Rec} {K : St → Prop} {d : Tmp} {op : Op} {ty : TypeId} {pos : String} {after : Array Edge}
theorem aopsDS_end {st : St} (hk : K st) : aopsDS P ds wc [] [] j st tr K := by rw [aopsDS_nil]; exact ⟨trivial, hk⟩

theorem stepD_mk {g : Option (Nat × Bool)} {next : St → List Rec → Prop} (v : AV) (hw : isW wc j ⟨some d, op, ty, pos, after, g⟩ = false) (hv : ∀ K' : K3, K' v h n → aop P env h n ⟨some d, op, ty, pos, after, g⟩ K') (hk : next ⟨(d, v) :: env, h, n⟩ tr) : stepD P wc [] ⟨some d, op, ty, pos, after, g⟩ j env h n tr next := by
  unfold stepD
  rw [if_neg (by rw [hw]; decide)]
  have : ∃ v, aop P env h n ⟨some d, op, ty, pos, after, g⟩ (fun a b c => a = v ∧ b = h ∧ c = n) ∧ next ⟨putE env (some d) v, h, n⟩ (if wants [] j = true then ⟨j, ⟨some d, op, ty, pos, after, g⟩, env, v, h, n, h, n⟩ :: tr else tr) :=
    ⟨v, hv _ ⟨rfl, rfl, rfl⟩, by simpa [wants, putE] using hk⟩
  split
  · exact this
  · exact this

theorem aopsDS_step (v : AV) (hw : isW wc j ⟨some d, op, ty, pos, after, none⟩ = false) (hv : ∀ K' : K3, K' v h n → aop P env h n ⟨some d, op, ty, pos, after, none⟩ K') (hk : aopsDS P ds wc [] r (j + 1) ⟨(d, v) :: env, h, n⟩ tr K) :
    aopsDS P ds wc [] (⟨some d, op, ty, pos, after, none⟩ :: r) j ⟨env, h, n⟩ tr K := by
  rw [aopsDS_cons]; exact stepD_mk v hw hv hk
theorem aopsDS_split {q : Nat} {want : Bool} {g : Tmp} (hd : slotOf ds q = some g) (b : Bool) (hl : lk env g = .sc (.bool b))
    (h1 : b = want → aopsDS P ds wc [] (⟨some d, op, ty, pos, after, none⟩ :: r) j ⟨(g, .sc (.bool want)) :: env, h, n⟩ tr K)
    (h2 : b = !want → aopsDS P ds wc [] r (j + 1) ⟨(d, .ud) :: (g, .sc (.bool (!want))) :: env, h, n⟩ tr K) : aopsDS P ds wc [] (⟨some d, op, ty, pos, after, some (q, want)⟩ :: r) j ⟨env, h, n⟩ tr K := by
  rw [aopsDS_cons]
  simp only [hd, hl]
  refine ⟨fun e => ?_, fun e => h2 e⟩
  have := h1 e
  rw [aopsDS_cons] at this
  have hwe : ∀ g', isW wc j ⟨some d, op, ty, pos, after, g'⟩ = isW wc j ⟨some d, op, ty, pos, after, none⟩ := fun _ => rfl
  simpa [stepD, wants, isCall, isW, aop] using this
end

section
variable {P : Program} {N : Nat} {D : List Deferred} {O : Nat → Prop} {Q : Exit → St → Prop} {st : St}

/-- code, and what comes after it -/
def SatL (P : Program) (N : Nat) (D : List Deferred) (O : Nat → Prop) : List Code → (Exit → St → Prop) → St → Prop
  | [], Q, st => Q .normal st
  | c :: cs, Q, st => Sat P N D O c (thenQ (SatL P N D O cs Q) Q) st

theorem thenQ_idem {K : St → Prop} {e : Exit} {s : St} (h : thenQ (Q .normal) Q e s) : Q e s := by cases e <;> exact h
theorem Sat.ofL {c : Code} (h : SatL P N D O [c] Q st) : Sat P N D O c Q st := Sat.mono h fun e s hq => by cases e <;> exact hq
theorem SatL.ofS {c : Code} (h : Sat P N D O c Q st) : SatL P N D O [c] Q st := Sat.mono h fun e s hq => by cases e <;> exact hq
theorem SatL.mono {cs : List Code} {Q' : Exit → St → Prop} (hq : ∀ e s, Q e s → Q' e s) : ∀ {cs : List Code} {st : St}, SatL P N D O cs Q st → SatL P N D O cs Q' st
  | [], st, h => hq _ _ h
  | c :: cs, st, h => Sat.mono h fun e s hs => by cases e <;> first | exact SatL.mono (cs := cs) hq hs | exact hq _ _ hs

theorem SatL.nil (h : Q .normal st) : SatL P N D O [] Q st := h
theorem SatL.seq {x y : Code} {cs : List Code} (h : SatL P N D O (x :: y :: cs) Q st) : SatL P N D O (.seq x y :: cs) Q st :=
  Sat.seq (Sat.mono h fun e s hs => by cases e <;> exact hs)
theorem SatL.skip {cs : List Code} (h : SatL P N D O cs Q st) : SatL P N D O (.skip :: cs) Q st := Sat.skip h
theorem SatL.exit {id : Nat} {cs : List Code} (h : Q (.exit id) st) : SatL P N D O (.exit id :: cs) Q st := Sat.exit h
theorem SatL.ret {cs : List Code} (h : Q .ret st) : SatL P N D O (.ret :: cs) Q st := Sat.ret h
theorem SatL.cond {c : Operand} {x y : Code} {cs : List Code} (b : Bool) (hc : ev st.env c = .sc (.bool b)) (ht : b = true → SatL P N D O (x :: cs) Q st) (hf : b = false → SatL P N D O (y :: cs) Q st) :
    SatL P N D O (.cond c x y :: cs) Q st := Sat.cond hc ht hf
theorem SatL.block {id : Nat} {c : Code} {cs : List Code} (h : SatL P N D O [c] (blockQ id (thenQ (SatL P N D O cs Q) Q)) st) : SatL P N D O (.block id c :: cs) Q st := Sat.block (Sat.ofL h)

theorem SatL.forget {cs : List Code} {c : Code} (live : List Nat) (h : SatL P N D O (c :: cs) Q ⟨keep live st.env, st.h, st.n⟩) : SatL P N D O (c :: cs) Q st := Sat.forget _ (lk_keep live st.env) h

/-- the states between two pieces of code -/
theorem SatL.mid {c c' : Code} {cs : List Code} (live : List Nat) (M : St → Prop) (h : SatL P N D O [c] (thenQ (fun s => M ⟨keep live s.env, s.h, s.n⟩) Q) st) (hk : ∀ s, M s → SatL P N D O (c' :: cs) Q s) : SatL P N D O (c :: c' :: cs) Q st :=
  Sat.mono (Sat.ofL h) fun e s hs => by
    cases e with
    | normal => exact SatL.forget live (hk _ hs)
    | _ => exact hs

/-- a loop; live: the slots that are told at its head -/
theorem SatL.loop {α : Type} {c : Code} {cs : List Code} (live : List Nat) (I : α → St → Prop) (m : α → Nat) (x0 : α) (h0 : I x0 ⟨keep live st.env, st.h, st.n⟩)
    (round : ∀ x s, I x s → SatL P N D O [c] (thenQ (fun s' => ∃ x', I x' ⟨keep live s'.env, s'.h, s'.n⟩ ∧ m x' < m x) (thenQ (SatL P N D O cs Q) Q)) s) : SatL P N D O (.loop c :: cs) Q st :=
  Sat.loop (fun x s => I x ⟨keep live s.env, s.h, s.n⟩) m x0 h0 fun x s hI => Sat.forget _ (lk_keep live s.env) (Sat.ofL (round x _ hI))

/-- own blocks may be forgotten -/
def keepH (ids : List Nat) (h : AH) : AH := fun i => if ids.contains i then h i else none
@[simp] theorem keepH_ah0 (ids : List Nat) : keepH ids (fun _ => none) = fun _ => none := by funext i; simp [keepH]
@[simp] theorem keepH_updH (ids : List Nat) (h : AH) (id : Nat) (B : ABlk) : keepH ids (updH h id B) = if ids.contains id then updH (keepH ids h) id B else keepH ids h := by
  split
  · rename_i hc
    funext i
    simp only [keepH, updH]
    by_cases hi : i = id
    · subst hi; simp only [hc, if_true]
    · simp only [if_neg hi]
  · rename_i hc
    funext i
    simp only [keepH, updH]
    by_cases hi : i = id
    · subst hi; simp only [hc, Bool.false_eq_true, if_false]
    · simp only [if_neg hi]

theorem Sat.weakH {c : Code} (h' : AH) (hs : ∀ id B, h' id = some B → st.h id = some B) (h : Sat P N D O c Q ⟨st.env, h', st.n⟩) : Sat P N D O c Q st :=
  fun μ a w hr => h μ a w ⟨⟨hr.hr.olt, hr.hr.scope, hr.hr.inj, hr.hr.notO, fun id B hB => hr.hr.blk id B (hs id B hB)⟩, hr.size, hr.defers, hr.env⟩
theorem keepH_sub (ids : List Nat) (h : AH) (id : Nat) (B : ABlk) (hb : keepH ids h id = some B) : h id = some B := by
  unfold keepH at hb
  split at hb
  · exact hb
  · cases hb
theorem SatL.weakH {c : Code} {cs : List Code} (ids : List Nat) (h : SatL P N D O (c :: cs) Q ⟨st.env, keepH ids st.h, st.n⟩) : SatL P N D O (c :: cs) Q st := Sat.weakH _ (keepH_sub ids st.h) h

/-- a loop; ids: the own blocks that are told at its head -/
theorem SatL.looph {α : Type} {c : Code} {cs : List Code} (live ids : List Nat) (I : α → St → Prop) (m : α → Nat) (x0 : α) (h0 : I x0 ⟨keep live st.env, keepH ids st.h, st.n⟩)
    (round : ∀ x s, I x s → SatL P N D O [c] (thenQ (fun s' => ∃ x', I x' ⟨keep live s'.env, keepH ids s'.h, s'.n⟩ ∧ m x' < m x) (thenQ (SatL P N D O cs Q) Q)) s) : SatL P N D O (.loop c :: cs) Q st :=
  Sat.loop (fun x s => I x ⟨keep live s.env, keepH ids s.h, s.n⟩) m x0 h0 fun x s hI => Sat.weakH _ (keepH_sub ids s.h) (Sat.forget _ (lk_keep live s.env) (Sat.ofL (round x _ hI)))

theorem SatL.reg {id : Nat} {l : List Oper} {c : Code} {cs : List Code} (live : List Nat) (ds : List (Option Tmp)) (hds : l.map (·.dst) = ds) (hd : dstsOk N l = true)
    (h : ∀ K : St → Prop, (∀ s, SatL P N D O (c :: cs) Q ⟨keep live s.env, s.h, s.n⟩ → K s) → aopsS P ds l st K) : SatL P N D O (.region id l.toArray false :: c :: cs) Q st := by
  subst hds
  simp only [aopsS_eq, aopsDS_eq] at h
  exact Sat.region hd (h _ fun s hs => SatL.forget live hs)

theorem SatL.rege {id : Nat} {l : List Oper} (ds : List (Option Tmp)) (hds : l.map (·.dst) = ds) (hd : dstsOk N l = true)
    (h : ∀ K : St → Prop, (∀ s, Q .normal s → K s) → aopsS P ds l st K) : SatL P N D O [.region id l.toArray false] Q st := by
  subst hds
  simp only [aopsS_eq, aopsDS_eq] at h
  exact Sat.region hd (h _ fun s hs => hs)

theorem SatL.draw {id : Nat} {l : List Oper} {c : Code} {cs : List Code} (live : List Nat) (wc : List Nat) (rd : List (Nat × Nat)) (ds : List (Option Tmp)) (hm : P.follows .mixedOrders = true) (hd : drawOk l = true) (hw : drawW l wc rd = true) (hds : l.map (·.dst) = ds) (hdst : dstsOk N l = true)
    (h : ∀ K : St → Prop, (∀ s, SatL P N D O (c :: cs) Q ⟨keep live s.env, s.h, s.n⟩ → K s) → aopsDS P ds wc rd l 0 st [] K) : SatL P N D O (.region id l.toArray true :: c :: cs) Q st := by
  subst hds
  simp only [aopsS_eq, aopsDS_eq] at h
  obtain ⟨E, V, A, H, M, L, hk⟩ := aopsD_LF hd hw (h (fun s => SatL P N D O (c :: cs) Q s) fun s hs => SatL.forget live hs)
  exact Sat.draw hm hd hdst L hk

theorem SatL.drawe {id : Nat} {l : List Oper} (wc : List Nat) (rd : List (Nat × Nat)) (ds : List (Option Tmp)) (hm : P.follows .mixedOrders = true) (hd : drawOk l = true) (hw : drawW l wc rd = true) (hds : l.map (·.dst) = ds) (hdst : dstsOk N l = true)
    (h : ∀ K : St → Prop, (∀ s, Q .normal s → K s) → aopsDS P ds wc rd l 0 st [] K) : SatL P N D O [.region id l.toArray true] Q st := by
  subst hds
  simp only [aopsS_eq, aopsDS_eq] at h
  obtain ⟨E, V, A, H, M, L, hk⟩ := aopsD_LF hd hw (h (fun s => Q .normal s) fun s hs => hs)
  exact Sat.draw hm hd hdst L hk

theorem thenN {K : St → Prop} (h : K st) : thenQ K Q .normal st := h
theorem blockN {id : Nat} (h : Q .normal st) : blockQ id Q .normal st := h
theorem blockQ_here {id : Nat} (h : Q .normal st) : blockQ id Q (.exit id) st := by simp only [blockQ, if_true]; exact h
theorem blockQ_away {id id' : Nat} (hne : id' ≠ id) (h : Q (.exit id') st) : blockQ id Q (.exit id') st := by simp only [blockQ, if_neg hne]; exact h

/-- a result that is given -/
theorem fnQ_ret {rs : List ResultVar} {R : K3} (v : AV) (hv : aresults P st.h st.env rs = some v) (hr : R v st.h st.n) : fnQ P rs R .ret st := ⟨v, hv, hr⟩

theorem drop_cons {α : Type} {l : List α} {i : Nat} {x : α} {r : List α} (h : l.drop i = x :: r) : l[i]? = some x ∧ l.drop (i + 1) = r ∧ i < l.length := by
  have h1 : i < l.length := by
    rcases Nat.lt_or_ge i l.length with h1 | h1
    · exact h1
    · rw [List.drop_eq_nil_of_le h1] at h; cases h
  rw [List.drop_eq_getElem_cons h1] at h
  cases h
  exact ⟨List.getElem?_eq_getElem h1, rfl, h1⟩
theorem drop_nil {α : Type} {l : List α} {i : Nat} (h : l.drop i = []) : l.length ≤ i := List.drop_eq_nil_iff.1 h

theorem wrap_in (n : Int) (h1 : -9223372036854775808 ≤ n) (h2 : n ≤ 9223372036854775807) : IntKind.i64.wrap n = n := IntWalk.i64_in n ⟨h1, h2⟩

end

@[congr] theorem HC_congr {P : Program} {f f' : FuncId} {args args' : List AV} {h : AH} {n : Nat} {R : K3} (hf : f = f') (ha : args = args') : HC P f args h n R = HC P f' args' h n R := by rw [hf, ha]
@[congr] theorem callD_congr {A A' B : AV → Prop} (h : A = A') : callD A B = callD A' B := by rw [h]
attribute [simp↓] aopsS_nil aopsS_cons aopsDS_nil aopsDS_cons
attribute [simp] isCall lookupK mapUpdK keyOkA keyB findA AV.one Value.oneCell' putAt blockQ stepD isW wants recheck recOf putE cst ev slotOf thenQ keep abinI abin unK loadK partK sliceK boundsK loA hiA lenK isCells idxAddrK idxK storeK liveA convK builtinK callK cellsA deref appendK srcA emptyA aresult aresults fillE fillS updH delH
@[simp] theorem updH_same (h : AH) (id : Nat) (A B : ABlk) : updH (updH h id A) id B = updH h id B := by
  funext i; simp only [updH]; split <;> rfl
theorem updH_sort {h : AH} {i j : Nat} {A B : ABlk} (hij : i < j) : updH (updH h j B) i A = updH (updH h i A) j B := by
  funext k; simp only [updH]; (repeat' split) <;> first | rfl | omega
@[simp] theorem lk_nil (s : Nat) : lk [] s = .un := rfl
@[simp] theorem lk_cons (d s : Nat) (v : AV) (l : Env) : lk ((d, v) :: l) s = if s = d then v else lk l s := rfl
@[simp] theorem enterEnv_eq (args : List AV) : enterEnv args = args.zipIdx.map fun (v, i) => (i, v) := rfl

end Go.Abs

/- Calls of functions that only read, in a walk; frozen data. -/
set_option linter.unusedSimpArgs false
set_option linter.unusedVariables false
namespace Go.Abs
open Go Go.RowKit

def FreeL (l : List AV) : Prop := ∀ c ∈ l, Free c
@[simp] theorem FreeL_nil : FreeL [] ↔ True := by simp [FreeL]
@[simp] theorem FreeL_cons (a : AV) (l : List AV) : FreeL (a :: l) ↔ Free a ∧ FreeL l := by simp [FreeL]
@[simp] theorem FreeL_append (a l : List AV) : FreeL (a ++ l) ↔ FreeL a ∧ FreeL l := by
  simp only [FreeL, List.mem_append]
  exact ⟨fun h => ⟨fun c hc => h c (.inl hc), fun c hc => h c (.inr hc)⟩, fun h c hc => hc.elim (h.1 c) (h.2 c)⟩
theorem FreeL.at {l : List AV} (h : FreeL l) (j : Nat) (c : AV) (hj : l[j]? = some c) : Free c := h c (List.mem_of_getElem? hj)
theorem FreeL.of_at {l : List AV} (h : ∀ (j : Nat) (c : AV), l[j]? = some c → Free c) : FreeL l := fun c hc => by
  obtain ⟨j, hj, e⟩ := List.mem_iff_getElem.1 hc
  exact h j c (by rw [List.getElem?_eq_getElem hj, e])
@[simp] theorem Free_sc (v : Value) : Free (.sc v) ↔ True := ⟨fun _ => trivial, fun _ => .sc v⟩
@[simp] theorem Free_ud : Free .ud ↔ True := ⟨fun _ => trivial, fun _ => .ud⟩
@[simp] theorem Free_e0 : Free .e0 ↔ True := ⟨fun _ => trivial, fun _ => .e0⟩
@[simp] theorem Free_fp (cs : List AV) : Free (.fp cs) ↔ FreeL cs := ⟨fun h => by cases h with | fp _ h => exact FreeL.of_at h, fun h => .fp cs h.at⟩
@[simp] theorem Free_ag (cs : List AV) : Free (.ag cs) ↔ FreeL cs := ⟨fun h => by cases h with | ag _ h => exact FreeL.of_at h, fun h => .ag cs h.at⟩
@[simp] theorem Free_tp (cs : List AV) : Free (.tp cs) ↔ FreeL cs := ⟨fun h => by cases h with | tp _ h => exact FreeL.of_at h, fun h => .tp cs h.at⟩
@[simp] theorem Free_fn (f : FuncId) (cs : List AV) : Free (.fn f cs) ↔ FreeL cs := ⟨fun h => by cases h with | fn _ _ h => exact FreeL.of_at h, fun h => .fn f cs h.at⟩
@[simp] theorem Free_sl (es : List (List AV)) : Free (.sl es) ↔ ∀ e ∈ es, FreeL e := by
  refine ⟨fun h => ?_, fun h => .sl es fun i e hi => (h e (List.mem_of_getElem? hi)).at⟩
  cases h with
  | sl _ h =>
    intro e he
    obtain ⟨j, hj, e1⟩ := List.mem_iff_getElem.1 he
    exact FreeL.of_at (h j e (by rw [List.getElem?_eq_getElem hj, e1]))

section
variable {P : Program}

theorem PC.call {f : FuncId} {args : List AV} {R : AV → Prop} {h : AH} {n : Nat} {K : K3} (hc : PC P f args R) (hf : FreeL args) (hk : ∀ v, R v → K v h n) : HC P f args h n K :=
  (hc.free hf.at h n).mono fun _ _ _ ⟨h1, h2, h3⟩ => h2 ▸ h3 ▸ hk _ h1

/-- a call whose result is known -/
theorem PC.call1 {f : FuncId} {args : List AV} {r : AV} {h : AH} {n : Nat} {K : K3} (hc : PC P f args (· = r)) (hf : FreeL args) (hk : K r h n) : HC P f args h n K :=
  hc.call hf fun _ e => e ▸ hk

theorem PC.of_body {f : FuncId} {fn : Func} {c : Code} {args : List AV} {R : AV → Prop} (hf : P.funcs[f]? = some fn) (hb : fn.body = some c) (hname : (fn.name == "runtime.NumGoroutine") = false) (hargs : args.length ≤ fn.ntmps)
    (hsat : ∀ O, SatL P fn.ntmps [] O [c] (fnQ P fn.results.toList (fun v h _ => ∃ v', Snap h v v' ∧ R v')) ⟨enterEnv args, ah0, 0⟩) : PC P f args R :=
  PC.of_HC (HC.of_body hf hb hname hargs fun O => Sat.ofL (hsat O))

theorem fnQ_freeN {rs : List ResultVar} {R : AV → Prop} {st : St} (v : AV) (hv : aresults P st.h st.env rs = some v) (hf : Free v) (hr : R v) : fnQ P rs (fun v h _ => ∃ v', Snap h v v' ∧ R v') .normal st :=
  ⟨v, hv, v, .free v hf, hr⟩

theorem fnQ_free {rs : List ResultVar} {R : AV → Prop} {st : St} (v : AV) (hv : aresults P st.h st.env rs = some v) (hf : Free v) (hr : R v) : fnQ P rs (fun v h _ => ∃ v', Snap h v v' ∧ R v') .ret st :=
  ⟨v, hv, v, .free v hf, hr⟩

end

theorem updH_self (h : AH) (id : Nat) (B : ABlk) : updH h id B id = some B := by simp [updH]
theorem updH_ne {h : AH} {id id' : Nat} {B : ABlk} {x : Option ABlk} (hne : id' ≠ id) (hx : h id' = x) : updH h id B id' = x := by simp only [updH, if_neg hne]; exact hx
inductive SnapL (h : AH) : List AV → List AV → Prop
  | nil : SnapL h [] []
  | cons {a a' : AV} {l l' : List AV} (h1 : Snap h a a') (h2 : SnapL h l l') : SnapL h (a :: l) (a' :: l')
theorem SnapL.len {h : AH} {l l' : List AV} (hs : SnapL h l l') : l'.length = l.length := by induction hs <;> simp [*]
theorem SnapL.at {h : AH} {l l' : List AV} (hs : SnapL h l l') : ∀ (j : Nat) (c c' : AV), l[j]? = some c → l'[j]? = some c' → Snap h c c' := by
  induction hs with
  | nil => intro j c c' hj; simp at hj
  | cons h1 h2 ih =>
    intro j c c' hj hj'
    cases j with
    | zero => simp at hj hj'; subst hj; subst hj'; exact h1
    | succ j => exact ih j c c' (by simpa using hj) (by simpa using hj')
theorem SnapL.free {h : AH} : ∀ {l : List AV}, FreeL l → SnapL h l l
  | [], _ => .nil
  | a :: l, hf => .cons (.free a ((FreeL_cons a l).1 hf).1) (SnapL.free ((FreeL_cons a l).1 hf).2)
theorem Snap.ownL {h : AH} {id i j k : Nat} {T : TypeId} {es : List (List AV)} {e cs : List AV} (hB : h id = some (.cells k T es)) (he : es[i]? = some e) (hs : SnapL h (e.drop j) cs) : Snap h (.own id i j) (.fp cs) :=
  .own id i j k T es e cs hB he hs.len hs.at
theorem Snap.fnL {h : AH} {f : FuncId} {cs cs' : List AV} (hs : SnapL h cs cs') : Snap h (.fn f cs) (.fn f cs') := .fn f cs cs' hs.len hs.at
theorem Snap.agL {h : AH} {cs cs' : List AV} (hs : SnapL h cs cs') : Snap h (.ag cs) (.ag cs') := .ag cs cs' hs.len hs.at
theorem Snap.tpL {h : AH} {cs cs' : List AV} (hs : SnapL h cs cs') : Snap h (.tp cs) (.tp cs') := .tp cs cs' hs.len hs.at
theorem Snap.fpL {h : AH} {cs cs' : List AV} (hs : SnapL h cs cs') : Snap h (.fp cs) (.fp cs') := .fp cs cs' hs.len hs.at
/-- a made slice whose elements are free -/
theorem Snap.msF {h : AH} {id off len k : Nat} {T : TypeId} {es es' : List (List AV)} (hB : h id = some (.cells k T es)) (he : es' = (es.drop off).take len) (hl : off + len ≤ es.length) (hf : ∀ e ∈ es', FreeL e) : Snap h (.ms id off len) (.sl es') := by
  subst he
  have sub : ∀ (q : Nat) (e e' : List AV), es[off + q]? = some e → ((es.drop off).take len)[q]? = some e' → e' = e := fun q e e' h1 h2 => by
    rw [List.getElem?_take] at h2
    split at h2
    · rw [List.getElem?_drop, h1] at h2; exact (Option.some.inj h2).symm
    · cases h2
  refine .ms id off len k T es _ hB hl (by simp; omega) (fun q e e' h1 h2 => by rw [sub q e e' h1 h2]) (fun q e e' h1 h2 p c c' h3 h4 => ?_)
  have := sub q e e' h1 h2
  subst this
  rw [h3] at h4; cases h4
  exact .free c ((hf _ (List.mem_of_getElem? h2)).at p c h3)

def FlatL (l : List AV) : Prop := ∀ c ∈ l, Flat c
@[simp] theorem FlatL_nil : FlatL [] ↔ True := by simp [FlatL]
@[simp] theorem FlatL_cons (a : AV) (l : List AV) : FlatL (a :: l) ↔ Flat a ∧ FlatL l := by simp [FlatL]
@[simp] theorem Flat_sc (v : Value) : Flat (.sc v) ↔ True := ⟨fun _ => trivial, fun _ => .sc v⟩
theorem FlatL.at {l : List AV} (h : FlatL l) (j : Nat) (c : AV) (hj : l[j]? = some c) : Flat c := h c (List.mem_of_getElem? hj)
@[simp] theorem Flat_ag (cs : List AV) : Flat (.ag cs) ↔ FlatL cs := ⟨fun h => by
  cases h with
  | ag _ h =>
    intro c hc
    obtain ⟨j, hj, e⟩ := List.mem_iff_getElem.1 hc
    exact h j c (by rw [List.getElem?_eq_getElem hj, e]), fun h => .ag cs h.at⟩
@[simp] theorem Flat_tp (cs : List AV) : Flat (.tp cs) ↔ FlatL cs := ⟨fun h => by
  cases h with
  | tp _ h =>
    intro c hc
    obtain ⟨j, hj, e⟩ := List.mem_iff_getElem.1 hc
    exact h j c (by rw [List.getElem?_eq_getElem hj, e]), fun h => .tp cs h.at⟩

section
variable {P : Program}
theorem PC.lend {f : FuncId} {args args' : List AV} {R : AV → Prop} {h : AH} {n : Nat} {K : K3} (hs : SnapL h args args') (hc : PC P f args' R) (hf : ∀ v, R v → Flat v) (hk : ∀ v, R v → K v h n) : HC P f args h n K :=
  (hc.lent h n hs.len hs.at hf).mono fun _ _ _ ⟨h1, h2, h3⟩ => h2 ▸ h3 ▸ hk _ h1
theorem PC.lend1 {f : FuncId} {args args' : List AV} {r : AV} {h : AH} {n : Nat} {K : K3} (hs : SnapL h args args') (hc : PC P f args' (· = r)) (hf : Flat r) (hk : K r h n) : HC P f args h n K :=
  hc.lend hs (fun _ e => e ▸ hf) fun _ e => e ▸ hk
end

/-- integers in a frozen slice -/
def int1 (n : Int) : List AV := [int n]
abbrev ints (l : List Int) : AV := .sl (l.map int1)
@[simp] theorem FreeL_int1 (n : Int) : FreeL (int1 n) ↔ True := by simp [int1]
@[simp] theorem int1_length (n : Int) : (int1 n).length = 1 := rfl
@[simp] theorem int1_0 (n : Int) : (int1 n)[0]? = some (int n) := rfl
@[simp] theorem int1_nil (n : Int) : int1 n = [] ↔ False := by simp [int1]
attribute [simp] aop
end Go.Abs

/- Steps of a walk, one lemma for each kind of operation. -/
set_option linter.unusedSimpArgs false
set_option linter.unusedVariables false
namespace Go.Abs
open Go Go.RowKit

theorem bindS {α β : Type} {o : Option α} {f : α → Option β} {r : β} (h : o.bind f = some r) : ∃ y, o = some y ∧ f y = some r := Option.bind_eq_some_iff.1 h
theorem iteT {α : Type} {b : Bool} {x y z : α} (h : (if b = true then x else y) = z) (hb : b = true) : x = z := by rw [if_pos hb] at h; exact h
theorem iteF {α : Type} {b : Bool} {x y z : α} (h : (if b = true then x else y) = z) (hb : b = false) : y = z := by rw [if_neg (by simp [hb])] at h; exact h

/-- 64 bits -/
def w64 (x : Int) : Int := IntKind.i64.wrap x
theorem w64_id {x : Int} (h1 : -9223372036854775808 ≤ x) (h2 : x ≤ 9223372036854775807) : w64 x = x := wrap_in x h1 h2
/-- an element, if the index is one -/
def gi {α : Type} (l : List α) (i : Int) : Option α := if 0 ≤ i then l[i.toNat]? else none
theorem gi_inv {α : Type} {l : List α} {i : Int} {y : α} (h : gi l i = some y) : 0 ≤ i ∧ l[i.toNat]? = some y := by
  unfold gi at h
  split at h
  · exact ⟨by assumption, h⟩
  · cases h
@[simp] theorem gi_nat {α : Type} (l : List α) (i : Nat) : gi l (i : Int) = l[i]? := by simp [gi]
theorem gi_lt {α : Type} {l : List α} {i : Int} {y : α} (h : gi l i = some y) : 0 ≤ i ∧ i.toNat < l.length := ⟨(gi_inv h).1, (List.getElem?_eq_some_iff.1 (gi_inv h).2).1⟩
/-- store into a list, if the index is one -/
def gs {α : Type} (l : List α) (i : Int) (x : α) : Option (List α) := if 0 ≤ i ∧ i.toNat < l.length then some (l.set i.toNat x) else none
theorem gs_inv {α : Type} {l l' : List α} {i : Int} {x : α} (h : gs l i x = some l') : 0 ≤ i ∧ i.toNat < l.length ∧ l' = l.set i.toNat x := by
  unfold gs at h
  split at h
  · rename_i hc; cases h; exact ⟨hc.1, hc.2, rfl⟩
  · cases h
/-- append, as far as the model's memory goes -/
def gapp {α : Type} (l xs : List α) : Option (List α) := if l.length + xs.length ≤ 1048576 then some (l ++ xs) else none
theorem gapp_inv {α : Type} {l xs l' : List α} (h : gapp l xs = some l') : l.length + xs.length ≤ 1048576 ∧ l' = l ++ xs := by
  unfold gapp at h
  split at h
  · cases h; exact ⟨by assumption, rfl⟩
  · cases h
theorem gapp_eq {α : Type} {l xs : List α} (h : l.length + xs.length ≤ 1048576) : gapp l xs = some (l ++ xs) := if_pos h
def gmk {α : Type} (n : Int) (z : α) : Option (List α) := if 0 ≤ n ∧ n ≤ 1048576 then some (List.replicate n.toNat z) else none
theorem gmk_inv {α : Type} {n : Int} {z : α} {l' : List α} (h : gmk n z = some l') : 0 ≤ n ∧ n ≤ 1048576 ∧ l' = List.replicate n.toNat z := by
  unfold gmk at h
  split at h
  · rename_i hc; cases h; exact ⟨hc.1, hc.2, rfl⟩
  · cases h
/-- l[lo:hi] -/
def gsl {α : Type} (l : List α) (lo hi : Int) : Option (List α) := if 0 ≤ lo ∧ lo ≤ hi ∧ hi ≤ l.length then some ((l.take hi.toNat).drop lo.toNat) else none
theorem gsl_inv {α : Type} {l l' : List α} {lo hi : Int} (h : gsl l lo hi = some l') : 0 ≤ lo ∧ lo ≤ hi ∧ hi ≤ l.length ∧ l' = (l.take hi.toNat).drop lo.toNat := by
  unfold gsl at h
  split at h
  · rename_i hc; cases h; exact ⟨hc.1, hc.2.1, hc.2.2, rfl⟩
  · cases h
/-- a test that has to hold -/
def grd (p : Prop) [Decidable p] : Option Unit := if p then some () else none
theorem grd_inv {p : Prop} [Decidable p] {u : Unit} (h : grd p = some u) : p := by
  unfold grd at h
  split at h
  · assumption
  · cases h
@[simp] theorem grd_true {p : Prop} [Decidable p] (h : p) : grd p = some () := if_pos h

/-! ### the heap as a list -/
def hl : List (Nat × Option ABlk) → AH
  | [], _ => none
  | (i, B) :: l, j => if j = i then B else hl l j
theorem hl_self (i : Nat) (B : Option ABlk) (l : List (Nat × Option ABlk)) : hl ((i, B) :: l) i = B := by simp [hl]
theorem hl_ne {i j : Nat} {B C : Option ABlk} {l : List (Nat × Option ABlk)} (hne : j ≠ i) (h : hl l j = B) : hl ((i, C) :: l) j = B := by simp [hl, hne, h]
theorem hl_new (l : List (Nat × Option ABlk)) (n : Nat) (B : ABlk) : updH (hl l) n B = hl ((n, some B) :: l) := rfl
theorem hu_self (i : Nat) (A : Option ABlk) (B : ABlk) (l : List (Nat × Option ABlk)) : updH (hl ((i, A) :: l)) i B = hl ((i, some B) :: l) := by
  funext j; simp only [updH, hl]; split <;> rfl
theorem hu_ne {i j : Nat} {A : Option ABlk} {B : ABlk} {l l' : List (Nat × Option ABlk)} (hne : j ≠ i) (h : updH (hl l) j B = hl l') : updH (hl ((i, A) :: l)) j B = hl ((i, A) :: l') := by
  funext q
  have := congrFun h q
  simp only [updH, hl] at this ⊢
  by_cases hq : q = j
  · subst hq; rw [if_pos rfl, if_neg hne]; simpa using this
  · rw [if_neg hq] at this ⊢; rw [this]
theorem hd_self (i : Nat) (A : Option ABlk) (l : List (Nat × Option ABlk)) : delH (hl ((i, A) :: l)) i = hl ((i, none) :: l) := by
  funext j; simp only [delH, hl]; split <;> rfl
theorem hd_ne {i j : Nat} {A : Option ABlk} {l l' : List (Nat × Option ABlk)} (hne : j ≠ i) (h : delH (hl l) j = hl l') : delH (hl ((i, A) :: l)) j = hl ((i, A) :: l') := by
  funext q
  have := congrFun h q
  simp only [delH, hl] at this ⊢
  by_cases hq : q = j
  · subst hq; rw [if_pos rfl, if_neg hne]; simpa using this
  · rw [if_neg hq] at this ⊢; rw [this]
theorem del_none {h : AH} {i : Nat} (hn : h i = none) : delH h i = h := by
  funext j; simp only [delH]; split
  · rename_i e; rw [e, hn]
  · rfl

/-- a slice that is nil or wholly own -/
def gsv (id len : Nat) : AV := match len with | 0 => nilS | m + 1 => .ms id 0 (m + 1)
def gsb (k : Nat) (T : TypeId) (es : List (List AV)) : Option ABlk := match es with | [] => none | x :: r => some (.cells k T (x :: r))
theorem gsb_pos {k : Nat} {T : TypeId} {es : List (List AV)} (h : es ≠ []) : gsb k T es = some (.cells k T es) := by cases es <;> first | exact absurd rfl h | rfl
theorem gsv_pos {id len : Nat} (h : 0 < len) : gsv id len = .ms id 0 len := by cases len <;> first | omega | rfl

section
variable {P : Program} {env : Env} {h : AH} {L L' : List (Nat × Option ABlk)} {n : Nat} {K : K3} {d : Option Tmp} {ty : TypeId} {pos : String} {after : Array Edge} {g : Option (Nat × Bool)}

theorem s_mv {x : Operand} {v : AV} (hx : ev env x = v) (hk : K v h n) : aop P env h n ⟨d, .move x, ty, pos, after, g⟩ K := by simp only [aop]; rw [hx]; exact hk
theorem s_as {x : Operand} {v : AV} (hx : ev env x = v) (hk : K v h n) : aop P env h n ⟨d, .assign x, ty, pos, after, g⟩ K := by simp only [aop]; rw [hx]; exact hk
theorem s_pickT {c x y : Operand} {v : AV} (hc : ev env c = .sc (.bool true)) (hx : ev env x = v) (hk : K v h n) : aop P env h n ⟨d, .pick c x y, ty, pos, after, g⟩ K := by simp only [aop, hc, if_true]; rw [hx]; exact hk
theorem s_pickF {c x y : Operand} {v : AV} (hc : ev env c = .sc (.bool false)) (hx : ev env y = v) (hk : K v h n) : aop P env h n ⟨d, .pick c x y, ty, pos, after, g⟩ K := by simp only [aop, hc, Bool.false_eq_true, if_false]; rw [hx]; exact hk
theorem s_alloc {n' : Nat} {T : TypeId} {z : List AV} {m : Nat} (hz : zeroO P T = some z) (hm : z.length = m) (hn : n + 1 = n') (hk : K (.own n 0 0) (hl ((n, some (.cells m T [z])) :: L)) n') : aop P env (hl L) n ⟨d, .alloc T, ty, pos, after, g⟩ K := by
  subst hn
  simp only [aop, hz, hm]; exact hk
theorem s_box {n' : Nat} {T : TypeId} {x : Operand} {cs : List AV} {m : Nat} (hx : cellsA (ev env x) = some cs) (hm : cs.length = m) (hn : n + 1 = n') (hk : K (.own n 0 0) (hl ((n, some (.cells m T [cs])) :: L)) n') : aop P env (hl L) n ⟨d, .box T x, ty, pos, after, g⟩ K := by
  subst hn
  simp only [aop, hx, hm]; exact hk
/-- load of one cell -/
theorem s_load1 {T : TypeId} {x : Operand} {cs : List AV} {c : AV} (ha : aggO P T = some false) (hp : deref h (ev env x) = some cs) (hc : cs[0]? = some c) (hk : K c h n) : aop P env h n ⟨d, .load T x, ty, pos, after, g⟩ K := by
  simp only [aop, hp, loadK, ha]; exact ⟨c, hc, hk⟩
theorem s_loadA {T : TypeId} {x : Operand} {cs cs' : List AV} {m : Nat} (ha : aggO P T = some true) (hm : P.cellsOf T = m) (hp : deref h (ev env x) = some cs) (hle : m ≤ cs.length) (hc : cs.take m = cs') (hk : K (.ag cs') h n) : aop P env h n ⟨d, .load T x, ty, pos, after, g⟩ K := by
  simp only [aop, hp, loadK, ha, hm, hc]; exact ⟨hle, hk⟩
theorem d_fp {x : Operand} {cs : List AV} (hx : ev env x = .fp cs) : deref h (ev env x) = some cs := by rw [hx]; rfl
theorem d_own {x : Operand} {id i j k : Nat} {T : TypeId} {es : List (List AV)} {e cs : List AV} (hx : ev env x = .own id i j) (hh : h id = some (.cells k T es)) (he : es[i]? = some e) (hc : e.drop j = cs) : deref h (ev env x) = some cs := by
  rw [hx]; simp only [deref, hh, he, Option.map_some, hc]
theorem d_gs {x : Operand} {id i j k : Nat} {T : TypeId} {es : List (List AV)} {e cs : List AV} (hx : ev env x = .own id i j) (hh : h id = gsb k T es) (he : es[i]? = some e) (hc : e.drop j = cs) : deref h (ev env x) = some cs :=
  d_own hx (by rw [hh]; exact gsb_pos (by rintro rfl; simp at he)) he hc
theorem s_store {T T' : TypeId} {p x : Operand} {id i j k : Nat} {es : List (List AV)} {e xs : List AV} {m : Nat} {E : List (List AV)} (hp : ev env p = .own id i j) (hh : hl L id = some (.cells k T' es)) (he : es[i]? = some e) (hx : cellsA (ev env x) = some xs) (hm : P.cellsOf T = m)
    (hl' : xs.length = m) (h0 : m ≠ 0) (hle : j + m ≤ e.length) (hE : es.set i (putAt e j xs) = E) (hu : updH (hl L) id (.cells k T' E) = hl L') (hk : K .ud (hl L') n) : aop P env (hl L) n ⟨d, .store T p x, ty, pos, after, g⟩ K := by
  simp only [aop, hp, storeK, hh, hx, he, hm]
  exact ⟨hl', by omega, by omega, by rw [hE, hu]; exact hk⟩
theorem s_nilFp {x : Operand} {cs : List AV} (hx : ev env x = .fp cs) (hk : K (.fp cs) h n) : aop P env h n ⟨d, .nilCheck x, ty, pos, after, g⟩ K := by simp only [aop, hx]; exact ⟨rfl, hk⟩
theorem s_nilOwn {x : Operand} {id i j k : Nat} {T : TypeId} {es : List (List AV)} (hx : ev env x = .own id i j) (hh : h id = some (.cells k T es)) (hk : K (.own id i j) h n) : aop P env h n ⟨d, .nilCheck x, ty, pos, after, g⟩ K := by
  simp only [aop, hx, liveA, hh, isCells]; exact ⟨trivial, hk⟩
theorem s_nilFn {x : Operand} {f : FuncId} {cs : List AV} (hx : ev env x = .fn f cs) (hk : K (.fn f cs) h n) : aop P env h n ⟨d, .nilCheck x, ty, pos, after, g⟩ K := by simp only [aop, hx]; exact ⟨rfl, hk⟩

/-! numbers -/
theorem s_bin {op : BinOp} {T T2 : TypeId} {x y : Operand} {a b : AV} (hx : ev env x = a) (hy : ev env y = b) (hk : abin P h op T a b fun v => K v h n) : aop P env h n ⟨d, .binOp op T x y T2, ty, pos, after, g⟩ K := by
  simp only [aop]; rw [hx, hy]; exact hk
section
variable {T : TypeId} {k : IntKind} {a b : Int} {F : AV → Prop}
theorem b_add (hk : F (.sc (.int k (k.wrap (a + b))))) : abin P h .add T (.sc (.int k a)) (.sc (.int k b)) F := ⟨rfl, hk⟩
theorem b_sub (hk : F (.sc (.int k (k.wrap (a - b))))) : abin P h .sub T (.sc (.int k a)) (.sc (.int k b)) F := ⟨rfl, hk⟩
theorem b_mul (hk : F (.sc (.int k (k.wrap (a * b))))) : abin P h .mul T (.sc (.int k a)) (.sc (.int k b)) F := ⟨rfl, hk⟩
theorem b_add64 (hk : F (.sc (.int .i64 (w64 (a + b))))) : abin P h .add T (.sc (.int .i64 a)) (.sc (.int .i64 b)) F := ⟨rfl, hk⟩
theorem b_sub64 (hk : F (.sc (.int .i64 (w64 (a - b))))) : abin P h .sub T (.sc (.int .i64 a)) (.sc (.int .i64 b)) F := ⟨rfl, hk⟩
theorem b_mul64 (hk : F (.sc (.int .i64 (w64 (a * b))))) : abin P h .mul T (.sc (.int .i64 a)) (.sc (.int .i64 b)) F := ⟨rfl, hk⟩
theorem b_quo64 (hb : b ≠ 0) (hk : F (.sc (.int .i64 (w64 (a.tdiv b))))) : abin P h .quo T (.sc (.int .i64 a)) (.sc (.int .i64 b)) F := ⟨rfl, hb, hk⟩
theorem b_quo (hb : b ≠ 0) (hk : F (.sc (.int k (k.wrap (a.tdiv b))))) : abin P h .quo T (.sc (.int k a)) (.sc (.int k b)) F := ⟨rfl, hb, hk⟩
theorem b_rem (hb : b ≠ 0) (hk : F (.sc (.int k (a.tmod b)))) : abin P h .rem T (.sc (.int k a)) (.sc (.int k b)) F := ⟨rfl, hb, hk⟩
theorem b_and (hk : F (.sc (.int k (bitsI .and k a b)))) : abin P h .and T (.sc (.int k a)) (.sc (.int k b)) F := ⟨rfl, hk⟩
theorem b_or (hk : F (.sc (.int k (bitsI .or k a b)))) : abin P h .or T (.sc (.int k a)) (.sc (.int k b)) F := ⟨rfl, hk⟩
theorem b_xor (hk : F (.sc (.int k (bitsI .xor k a b)))) : abin P h .xor T (.sc (.int k a)) (.sc (.int k b)) F := ⟨rfl, hk⟩
theorem b_andNot (hk : F (.sc (.int k (bitsI .andNot k a b)))) : abin P h .andNot T (.sc (.int k a)) (.sc (.int k b)) F := ⟨rfl, hk⟩
theorem b_eql (hk : F (.sc (.bool (a == b)))) : abin P h .eql T (.sc (.int k a)) (.sc (.int k b)) F := ⟨rfl, hk⟩
theorem b_neq (hk : F (.sc (.bool (a != b)))) : abin P h .neq T (.sc (.int k a)) (.sc (.int k b)) F := ⟨rfl, hk⟩
theorem b_lss (hk : F (.sc (.bool (decide (a < b))))) : abin P h .lss T (.sc (.int k a)) (.sc (.int k b)) F := ⟨rfl, hk⟩
theorem b_leq (hk : F (.sc (.bool (decide (a ≤ b))))) : abin P h .leq T (.sc (.int k a)) (.sc (.int k b)) F := ⟨rfl, hk⟩
theorem b_gtr (hk : F (.sc (.bool (decide (b < a))))) : abin P h .gtr T (.sc (.int k a)) (.sc (.int k b)) F := ⟨rfl, hk⟩
theorem b_geq (hk : F (.sc (.bool (decide (b ≤ a))))) : abin P h .geq T (.sc (.int k a)) (.sc (.int k b)) F := ⟨rfl, hk⟩
theorem b_shl {k' : IntKind} (h0 : 0 ≤ b) (hk : F (.sc (.int k (k.wrap (a * 2 ^ (min b.toNat k.bits)))))) : abin P h .shl T (.sc (.int k a)) (.sc (.int k' b)) F := ⟨h0, hk⟩
theorem b_shr {k' : IntKind} (h0 : 0 ≤ b) (hk : F (.sc (.int k (a.fdiv (2 ^ (min b.toNat k.bits)))))) : abin P h .shr T (.sc (.int k a)) (.sc (.int k' b)) F := ⟨h0, hk⟩
theorem b_beq {x y : Bool} (hT : P.underlying T = some .bool) (hk : F (.sc (.bool (x == y)))) : abin P h .eql T (.sc (.bool x)) (.sc (.bool y)) F := ⟨hT, hk⟩
theorem b_bne {x y : Bool} (hT : P.underlying T = some .bool) (hk : F (.sc (.bool (!(x == y))))) : abin P h .neq T (.sc (.bool x)) (.sc (.bool y)) F := ⟨hT, hk⟩
end
theorem s_not {T : TypeId} {x : Operand} {b : Bool} (hx : ev env x = .sc (.bool b)) (hk : K (.sc (.bool (!b))) h n) : aop P env h n ⟨d, .unOp .not T x, ty, pos, after, g⟩ K := by simp only [aop, hx, unK]; exact hk
theorem s_neg {T : TypeId} {x : Operand} {k : IntKind} {b : Int} (hx : ev env x = .sc (.int k b)) (hk : K (.sc (.int k (k.wrap (0 - b)))) h n) : aop P env h n ⟨d, .unOp .neg T x, ty, pos, after, g⟩ K := by simp only [aop, hx, unK]; exact hk
theorem s_conv {S T : TypeId} {x : Operand} {k k' : IntKind} {b : Int} (hx : ev env x = .sc (.int k b)) (hT : intO P T = some k') (hS : (P.underlying S).isSome = true) (hk : K (.sc (.int k' (k'.wrap b))) h n) : aop P env h n ⟨d, .convert S T x, ty, pos, after, g⟩ K := by
  simp only [aop, hx, convK, hT]; exact ⟨hS, hk⟩
theorem s_minmax {ts : Array TypeId} {x y : Operand} {k : IntKind} {a b : Int} (hx : ev env x = .sc (.int k a)) (hy : ev env y = .sc (.int k b)) : (K (.sc (.int k (if b < a then b else a))) h n → aop P env h n ⟨d, .call ⟨.builtin .min, #[x, y], ts⟩, ty, pos, after, g⟩ K) ∧
    (K (.sc (.int k (if a < b then b else a))) h n → aop P env h n ⟨d, .call ⟨.builtin .max, #[x, y], ts⟩, ty, pos, after, g⟩ K) := by
  simp only [aop, builtinK, hx, hy]; exact ⟨fun h => ⟨trivial, h⟩, fun h => ⟨trivial, h⟩⟩

/-! functions, fields, elements -/
theorem s_fn {f : FuncId} {caps : Array Operand} {cs : List AV} (hc : caps.toList.map (ev env) = cs) (hk : K (.fn f cs) h n) : aop P env h n ⟨d, .makeFunc (.func f) #[] caps, ty, pos, after, g⟩ K := by simp only [aop]; exact ⟨trivial, by rw [hc]; exact hk⟩
theorem s_faFp {T t : TypeId} {x : Operand} {f o : Nat} {cs cs' : List AV} (hf : fldO P T f = some (o, t)) (hx : ev env x = .fp cs) (hc : cs.drop o = cs') (hk : K (.fp cs') h n) : aop P env h n ⟨d, .fieldAddr T x f, ty, pos, after, g⟩ K := by
  simp only [aop, hf, hx, hc]; exact hk
theorem s_faOwn {T t : TypeId} {x : Operand} {f o id i j j' : Nat} (hf : fldO P T f = some (o, t)) (hx : ev env x = .own id i j) (hj : j + o = j') (hh : isCells (h id) = true) (hk : K (.own id i j') h n) : aop P env h n ⟨d, .fieldAddr T x f, ty, pos, after, g⟩ K := by
  simp only [aop, hf, hx]; exact ⟨hh, hj ▸ hk⟩
theorem isC {k : Nat} {T : TypeId} {es : List (List AV)} {B : Option ABlk} (h : B = some (.cells k T es)) : isCells B = true := by rw [h]; rfl
theorem isG {k : Nat} {T : TypeId} {es : List (List AV)} {B : Option ABlk} {i : Nat} {e : List AV} (h : B = gsb k T es) (he : es[i]? = some e) : isCells B = true := by rw [h, gsb_pos (by rintro rfl; simp at he)]; rfl
theorem s_fld1 {T t : TypeId} {x : Operand} {f o : Nat} {cs : List AV} {c : AV} (hf : fldO P T f = some (o, t)) (hx : ev env x = .ag cs) (ha : aggO P t = some false) (hc : cs[o]? = some c) (hk : K c h n) : aop P env h n ⟨d, .field T x f, ty, pos, after, g⟩ K := by
  simp only [aop, hf, hx, partK, ha]; exact ⟨c, hc, hk⟩
theorem s_fldA {T t : TypeId} {x : Operand} {f o m : Nat} {cs cs' : List AV} (hf : fldO P T f = some (o, t)) (hx : ev env x = .ag cs) (ha : aggO P t = some true) (hm : P.cellsOf t = m) (hc : (cs.drop o).take m = cs') (hk : K (.ag cs') h n) : aop P env h n ⟨d, .field T x f, ty, pos, after, g⟩ K := by
  simp only [aop, hf, hx, partK, ha, hm, hc]; exact hk
theorem s_ixSl {α : Type} {T e : TypeId} {x i : Operand} {k : IntKind} {l : List α} {f : α → List AV} {j : Int} {y : α} {m : Nat} (he : elemO P T = some e) (hx : ev env x = .sl (l.map f)) (hi : ev env i = .sc (.int k j)) (hg : gi l j = some y) (hm : P.cellsOf e = m) (hl : (f y).length = m) (h0 : m ≠ 0)
    (hk : K (.fp (f y)) h n) : aop P env h n ⟨d, .indexAddr T x i, ty, pos, after, g⟩ K := by
  obtain ⟨g0, g1⟩ := gi_inv hg
  simp only [aop, hx, hi, idxAddrK, he, hm]
  exact ⟨g0, f y, by rw [List.getElem?_map, g1]; rfl, hl, by omega, hk⟩
theorem s_ixMs {T T' e : TypeId} {x i : Operand} {k : IntKind} {id off len m : Nat} {es : List (List AV)} {j : Int} (he : elemO P T = some e) (hx : ev env x = .ms id off len) (hi : ev env i = .sc (.int k j)) (hh : h id = some (.cells m T' es)) (hj : 0 ≤ j) (hj' : j < len) (hm : P.cellsOf e = m) (h0 : m ≠ 0)
    (hk : K (.own id (off + j.toNat) 0) h n) : aop P env h n ⟨d, .indexAddr T x i, ty, pos, after, g⟩ K := by
  simp only [aop, hx, hi, idxAddrK, he, hm, hh]
  exact ⟨hj, hj', trivial, h0, hk⟩
theorem s_ixG {T T' e : TypeId} {x i : Operand} {k : IntKind} {id len m : Nat} {es : List (List AV)} {j : Int} (he : elemO P T = some e) (hx : ev env x = gsv id len) (hle : len = es.length) (hi : ev env i = .sc (.int k j)) (hh : h id = gsb m T' es) (hj : 0 ≤ j) (hj' : j < len) (hm : P.cellsOf e = m) (h0 : m ≠ 0)
    (hk : K (.own id j.toNat 0) h n) : aop P env h n ⟨d, .indexAddr T x i, ty, pos, after, g⟩ K := by
  rw [gsv_pos (by omega)] at hx
  rw [gsb_pos (by rintro rfl; simp at hle; omega)] at hh
  simp only [aop, hx, hi, idxAddrK, he, hm, hh]
  exact ⟨hj, hj', trivial, h0, by simpa using hk⟩
theorem s_ixArr {T e : TypeId} {x i : Operand} {k : IntKind} {id a q m w : Nat} {j : Int} (he : arrO P T = some (m, e)) (hx : ev env x = .own id a q) (hi : ev env i = .sc (.int k j)) (hh : isCells (h id) = true) (hj : 0 ≤ j) (hj' : j < m) (hw : P.cellsOf e = w) (h0 : w ≠ 0)
    (hk : K (.own id a (q + j.toNat * w)) h n) : aop P env h n ⟨d, .indexAddr T x i, ty, pos, after, g⟩ K := by
  obtain ⟨B, hB⟩ : ∃ B, h id = some B := by
    cases hb : h id with
    | none => rw [hb] at hh; cases hh
    | some B => exact ⟨B, rfl⟩
  cases B with
  | map kvs => rw [hB] at hh; cases hh
  | cells k T es =>
    simp only [aop, hx, hi, idxAddrK, he, hB, hw]
    exact ⟨hj, hj', h0, hk⟩
/-- an element of an array that is a value; elements of one cell -/
theorem s_ixAg {T e : TypeId} {x i : Operand} {k : IntKind} {m : Nat} {j : Int} {cs : List AV} {c : AV} (he : arrO P T = some (m, e)) (hx : ev env x = .ag cs) (hi : ev env i = .sc (.int k j)) (hj : 0 ≤ j) (hj' : j < m) (hw : P.cellsOf e = 1) (ha : aggO P e = some false) (hc : cs[j.toNat]? = some c)
    (hk : K c h n) : aop P env h n ⟨d, .index T x i, ty, pos, after, g⟩ K := by
  simp only [aop, hx, hi, idxK, he, hw, partK, ha, Nat.mul_one]
  exact ⟨hj, hj', by omega, c, hc, hk⟩
theorem s_ext {x : Operand} {i : Nat} {cs : List AV} {c : AV} (hx : ev env x = .tp cs) (hc : cs[i]? = some c) (hk : K c h n) : aop P env h n ⟨d, .extract x i, ty, pos, after, g⟩ K := by simp only [aop, hx]; exact ⟨c, hc, hk⟩
theorem s_build {T : TypeId} {parts : Array (Nat × Operand)} {z cs : List AV} {pl : List (Nat × Nat)} (hz : zeroO P T = some z) (hp : placesO P T = some pl) (hf : fillS pl env parts.toList z = some cs) (hk : K (.ag cs) h n) : aop P env h n ⟨d, .build T parts, ty, pos, after, g⟩ K := by
  simp only [aop, hz, hp, hf]; exact hk
theorem s_bsl {n' : Nat} {T e : TypeId} {len m : Nat} {parts : Array (Nat × Operand)} {z : List AV} {es : List (List AV)} (he : elemO P T = some e) (hz : zeroO P e = some z) (hm : z.length = m) (h1 : len ≤ 1000) (h2 : m ≤ 1000) (hf : fillE m env parts.toList (List.replicate len z) = some es)
    (hn : n + 1 = n') (hk : K (.ms n 0 len) (hl ((n, some (.cells m e es)) :: L)) n') : aop P env (hl L) n ⟨d, .buildSlice T len parts, ty, pos, after, g⟩ K := by
  subst hn
  simp only [aop, he, hz, hm, hf]; exact ⟨h1, h2, .inl hk⟩
theorem s_bslF {T e : TypeId} {len m : Nat} {parts : Array (Nat × Operand)} {z : List AV} {es es' : List (List AV)} (he : elemO P T = some e) (hz : zeroO P e = some z) (hm : z.length = m) (h1 : len ≤ 1000) (h2 : m ≤ 1000) (hf : fillE m env parts.toList (List.replicate len z) = some es)
    (hes : es = es') (hk : K (.sl es') h n) : aop P env h n ⟨d, .buildSlice T len parts, ty, pos, after, g⟩ K := by
  subst hes
  simp only [aop, he, hz, hm, hf]; exact ⟨h1, h2, .inr (.inl hk)⟩
theorem s_bsl0 {T e : TypeId} {m : Nat} {parts : Array (Nat × Operand)} {z : List AV} {es : List (List AV)} (he : elemO P T = some e) (hz : zeroO P e = some z) (hm : z.length = m) (h2 : m ≤ 1000) (hf : fillE m env parts.toList (List.replicate 0 z) = some es)
    (hk : K .e0 h n) : aop P env h n ⟨d, .buildSlice T 0 parts, ty, pos, after, g⟩ K := by
  simp only [aop, he, hz, hm, hf]; exact ⟨by omega, h2, .inr (.inr ⟨trivial, hk⟩)⟩
theorem s_mks {T e : TypeId} {m : Nat} {x y : Operand} {k k' : IntKind} {i : Int} {z : List AV} (he : elemO P T = some e) (hz : zeroO P e = some z) (hm : z.length = m) (hx : ev env x = .sc (.int k i)) (hy : ev env y = .sc (.int k' i)) (h0 : 0 ≤ i) (h1 : i ≤ 1048576) (hb : P.bytesOf e ≤ 1024) (hne : m ≠ 0)
    (hk : K (.ms n 0 i.toNat) (hl ((n, some (.cells m e (List.replicate i.toNat z))) :: L)) (n + 1)) : aop P env (hl L) n ⟨d, .makeSlice T x y, ty, pos, after, g⟩ K := by
  simp only [aop, he, hz, hx, hy, hm]
  exact ⟨trivial, h0, h1, hb, by rintro rfl; exact hne hm.symm, hk⟩
theorem s_mmap {n' : Nat} {T : TypeId} (hn : n + 1 = n') (hk : K (.mp n) (hl ((n, some (.map [])) :: L)) n') : aop P env (hl L) n ⟨d, .makeMap T none, ty, pos, after, g⟩ K := by
  subst hn
  simp only [aop]; exact hk

/-! slices -/
theorem s_lenSl {α : Type} {T e : TypeId} {x : Operand} {l : List α} {f : α → List AV} (he : elemO P T = some e) (hx : ev env x = .sl (l.map f)) (hk : l.length ≤ 9223372036854775807 → K (.sc (.int .i64 l.length)) h n) : aop P env h n ⟨d, .call ⟨.builtin .len, #[x], #[T]⟩, ty, pos, after, g⟩ K := by
  simp only [aop, builtinK, hx, lenK, he, List.length_map]; exact ⟨rfl, hk⟩
theorem s_lenMs {T e : TypeId} {x : Operand} {id off len : Nat} (he : elemO P T = some e) (hx : ev env x = .ms id off len) (hh : isCells (h id) = true) (hk : len ≤ 9223372036854775807 → K (.sc (.int .i64 len)) h n) : aop P env h n ⟨d, .call ⟨.builtin .len, #[x], #[T]⟩, ty, pos, after, g⟩ K := by
  simp only [aop, builtinK, hx, lenK, he]; exact ⟨rfl, hh, hk⟩
theorem s_lenNil {T e : TypeId} {x : Operand} (he : elemO P T = some e) (hx : ev env x = nilS) (hk : K (.sc (.int .i64 0)) h n) : aop P env h n ⟨d, .call ⟨.builtin .len, #[x], #[T]⟩, ty, pos, after, g⟩ K := by
  simp only [aop, builtinK, hx, lenK, he]; exact ⟨rfl, hk⟩
theorem s_lenG {T T' e : TypeId} {x : Operand} {id len m : Nat} {es : List (List AV)} (he : elemO P T = some e) (hx : ev env x = gsv id len) (hle : len = es.length) (hh : h id = gsb m T' es) (hk : len ≤ 9223372036854775807 → K (.sc (.int .i64 len)) h n) : aop P env h n ⟨d, .call ⟨.builtin .len, #[x], #[T]⟩, ty, pos, after, g⟩ K := by
  cases len with
  | zero => exact s_lenNil he hx (hk (by omega))
  | succ m => exact s_lenMs he hx (by rw [hh, gsb_pos (by rintro rfl; simp at hle)]; rfl) hk
theorem s_slSl {α : Type} {T e : TypeId} {x : Operand} {lo hi : Option Operand} {l l' : List α} {f : α → List AV} {a b : Int} {m : Nat} (he : elemO P T = some e) (hi0 : ∃ i, P.info? e = some i) (hx : ev env x = .sl (l.map f)) (hlo : loA (lo.map (ev env)) = some a) (hhi : hiA l.length (hi.map (ev env)) = some b)
    (hg : gsl l a b = some l') (hm : P.cellsOf e = m) (hf : ∀ y, (f y).length = m) (hk : K (.sl (l'.map f)) h n) : aop P env h n ⟨d, .slice T x lo hi none, ty, pos, after, g⟩ K := by
  obtain ⟨g1, g2, g3, rfl⟩ := gsl_inv hg
  simp only [aop, hx, sliceK, boundsK, hlo, List.length_map, hhi]
  refine ⟨⟨e, he, hi0, fun c hc => ?_⟩, g1, g2, g3, ?_⟩
  · cases l with
    | nil => simp at hc
    | cons y l => simp at hc; rw [← hc, hf, hm]
  · rw [← List.map_take, ← List.map_drop]; exact hk
theorem s_app {T T2 e : TypeId} {s x : Operand} {m : Nat} {z : List AV} {es xs : List (List AV)} {id : Nat} (hp : plainT P T2 = true) (he : elemO P T = some e) (hz : zeroO P e = some z) (hm : z.length = m) (h0 : m ≠ 0) (hb : P.bytesOf e ≤ 1024) (hs : ev env s = gsv id es.length) (hh : hl L id = gsb m e es) (hx : srcA (hl L) m (ev env x) = some xs) (hne : xs ≠ [])
    (hle : es.length + xs.length ≤ 1048576) (hd : delH (hl L) id = hl L') (hk : K (gsv n (es.length + xs.length)) (hl ((n, gsb m e (es ++ xs)) :: L')) (n + 1)) : aop P env (hl L) n ⟨d, .call ⟨.builtin .append, #[s, x], #[T, T2]⟩, ty, pos, after, g⟩ K := by
  have hx0 : 0 < xs.length := by cases xs with | nil => exact absurd rfl hne | cons _ _ => simp
  rw [gsv_pos (by omega), gsb_pos (by simp [hne])] at hk
  simp only [aop, builtinK, appendK, he, hz, hm, hx]
  refine ⟨hp, by rintro rfl; exact h0 hm.symm, hb, ?_⟩
  cases es with
  | nil =>
    rw [hs]
    simp only [List.length_nil, gsv]
    simp only [List.length_nil, Nat.zero_add, List.nil_append] at hk hle
    refine ⟨hle, fun e => absurd e hne, fun _ => ?_⟩
    rw [del_none hh] at hd
    rw [hd]; exact hk
  | cons y es =>
    rw [hs]
    simp only [List.length_cons, gsv]
    have hh' : hl L id = some (.cells m e (y :: es)) := hh
    rw [hh']
    refine ⟨rfl, rfl, rfl, by simpa using hle, ?_⟩
    rw [hd]
    simpa [hl_new] using hk
theorem s_appM {T T2 e : TypeId} {s x : Operand} {m len : Nat} {z : List AV} {es xs : List (List AV)} {id : Nat} (hp : plainT P T2 = true) (he : elemO P T = some e) (hz : zeroO P e = some z) (hm : z.length = m) (h0 : m ≠ 0) (hb : P.bytesOf e ≤ 1024) (hs : ev env s = .ms id 0 len) (hlen : es.length = len) (hh : hl L id = some (.cells m e es)) (hx : srcA (hl L) m (ev env x) = some xs)
    (hle : es.length + xs.length ≤ 1048576) (hd : delH (hl L) id = hl L') (hk : K (.ms n 0 (len + xs.length)) (hl ((n, some (.cells m e (es ++ xs))) :: L')) (n + 1)) : aop P env (hl L) n ⟨d, .call ⟨.builtin .append, #[s, x], #[T, T2]⟩, ty, pos, after, g⟩ K := by
  simp only [aop, builtinK, appendK, he, hz, hm, hx]
  refine ⟨hp, by rintro rfl; exact h0 hm.symm, hb, ?_⟩
  rw [hs]
  simp only [hh]
  refine ⟨trivial, trivial, hlen, by omega, ?_⟩
  rw [hd]
  exact hk
theorem src_ms {h : AH} {id off len k : Nat} {T : TypeId} {es xs : List (List AV)} {x : AV} (hx : x = .ms id off len) (hh : h id = some (.cells k T es)) (hle : off + len ≤ es.length) (hxs : (es.drop off).take len = xs) : srcA h k x = some xs := by
  rw [hx]; simp only [srcA, hh]; rw [if_pos ⟨trivial, hle⟩, hxs]
theorem src_sl {α : Type} {h : AH} {k : Nat} {l : List α} {f : α → List AV} {x : AV} (hx : x = .sl (l.map f)) (hf : ∀ y, (f y).length = k) : srcA h k x = some (l.map f) := by
  rw [hx]; simp only [srcA]; rw [if_pos]; simp [hf]
theorem src_nil {h : AH} {k : Nat} {x : AV} (hx : x = nilS) : srcA h k x = some [] := by rw [hx]; rfl

/-! calls -/
theorem s_call {c : Call} {f : Operand} {gg : FuncId} {caps avs : List AV} (hc : c.callee = .value f) (hf : ev env f = .fn gg caps) (ha : c.args.toList.map (ev env) ++ caps = avs) (hk : HC P gg avs h n K) : aop P env h n ⟨d, .call c, ty, pos, after, g⟩ K := by
  obtain ⟨callee, args, ts⟩ := c
  simp only at hc ha
  subst hc
  simp only [aop, callK, hf]
  rw [ha]; exact hk
end
/-! typed lists -/
theorem mapget {α β : Type} {l : List α} {f : α → β} {j : Int} {y : α} (h : gi l j = some y) : (l.map f)[j.toNat]? = some (f y) := by rw [List.getElem?_map, (gi_inv h).2]; rfl
theorem mapget1 {l : List Int} {j y : Int} (h : gi l j = some y) : (l.map int)[j.toNat]? = some (int y) := mapget h
theorem dropget {l : List Int} {j y : Int} (h : gi l j = some y) : ((l.map int).drop j.toNat)[0]? = some (int y) := by rw [List.getElem?_drop]; exact mapget h
theorem set_map {α β : Type} {l : List α} {f : α → β} {k : Nat} {c : β} {y : α} (h : c = f y) : (l.map f).set k c = (l.set k y).map f := by rw [h, List.map_set]
theorem set_arr (l : List Int) (k : Nat) (x : Int) : [l.map int].set 0 (putAt (l.map int) k [int x]) = [(l.set k x).map int] := by simp [putAt, List.map_set]
theorem ltl {α : Type} {l : List α} {j : Int} {y : α} {m : Nat} (h : gi l j = some y) (hl : l.length = m) : j < m := by have := gi_lt h; omega
theorem gmk_len {α : Type} {n : Int} {z : α} {l : List α} (h : gmk n z = some l) : n.toNat = l.length := by obtain ⟨_, _, rfl⟩ := gmk_inv h; simp
theorem zeroT {P : Program} {e : TypeId} {z z' : List AV} (h : zeroO P e = some z) (hz : z = z') : zeroO P e = some z' := hz ▸ h
theorem srcle {α : Type} {l : List α} {f : α → List AV} {len : Nat} (h : l.length = len) : 0 + len ≤ (l.map f).length := by simp; omega
theorem srctk {α : Type} {l : List α} {f : α → List AV} {len : Nat} (h : l.length = len) : ((l.map f).drop 0).take len = l.map f := by simp [← h, List.take_of_length_le]
section
variable {P : Program} {env : Env} {h : AH} {L L' : List (Nat × Option ABlk)} {n : Nat} {K : K3} {d : Option Tmp} {ty : TypeId} {pos : String} {after : Array Edge} {g : Option (Nat × Bool)}
theorem s_mkT {n' : Nat} {α : Type} {T e : TypeId} {m : Nat} {x y : Operand} {k k' : IntKind} {i : Int} {f : α → List AV} {z0 : α} {l : List α} (he : elemO P T = some e) (hz : zeroO P e = some (f z0)) (hm : (f z0).length = m ∧ m ≠ 0) (hx : ev env x = .sc (.int k i)) (hy : ev env y = .sc (.int k' i)) (hg : gmk i z0 = some l) (hb : P.bytesOf e ≤ 1024)
    (hn : n + 1 = n') (hk : K (.ms n 0 l.length) (hl ((n, some (.cells m e (l.map f))) :: L)) n') : aop P env (hl L) n ⟨d, .makeSlice T x y, ty, pos, after, g⟩ K := by
  subst hn
  obtain ⟨h0, h1, h2⟩ := gmk_inv hg
  refine s_mks he hz hm.1 hx hy h0 h1 hb hm.2 ?_
  rw [gmk_len hg, ← List.map_replicate, ← gmk_len hg, ← h2]
  rw [gmk_len hg]; exact hk
theorem s_loadArr {T T' : TypeId} {x : Operand} {id k m : Nat} {l : List Int} (ha : aggO P T = some true) (hm : P.cellsOf T = m) (hx : ev env x = .own id 0 0) (hh : h id = some (.cells k T' [l.map int])) (hlen : l.length = m) (hk : K (.ag (l.map int)) h n) : aop P env h n ⟨d, .load T x, ty, pos, after, g⟩ K :=
  s_loadA ha hm (d_own hx hh rfl rfl) (by simp [hlen]) (by rw [List.drop_zero]; exact List.take_of_length_le (by simp [hlen])) hk
theorem s_ixM0 {T T' e : TypeId} {x i : Operand} {k : IntKind} {id len m : Nat} {es : List (List AV)} {j : Int} (he : elemO P T = some e) (hx : ev env x = .ms id 0 len) (hi : ev env i = .sc (.int k j)) (hh : h id = some (.cells m T' es)) (hj : 0 ≤ j) (hj' : j < len) (hm : P.cellsOf e = m) (h0 : m ≠ 0)
    (hk : K (.own id j.toNat 0) h n) : aop P env h n ⟨d, .indexAddr T x i, ty, pos, after, g⟩ K := s_ixMs he hx hi hh hj hj' hm h0 (by simpa using hk)
theorem s_ixA1 {T e : TypeId} {x i : Operand} {k : IntKind} {id a m : Nat} {j : Int} (he : arrO P T = some (m, e)) (hx : ev env x = .own id a 0) (hi : ev env i = .sc (.int k j)) (hh : isCells (h id) = true) (hj : 0 ≤ j) (hj' : j < m) (hw : P.cellsOf e = 1)
    (hk : K (.own id a j.toNat) h n) : aop P env h n ⟨d, .indexAddr T x i, ty, pos, after, g⟩ K := s_ixArr he hx hi hh hj hj' hw (by omega) (by simpa using hk)
theorem s_ixStr {T : TypeId} {x i : Operand} {k : IntKind} {l : List UInt8} {j : Int} {y : UInt8} (hT : P.underlying T = some .string) (hx : ev env x = .sc (.string ⟨l.toArray⟩)) (hi : ev env i = .sc (.int k j)) (hg : gi l j = some y)
    (hk : K (.sc (.int .u8 (y.toNat : Int))) h n) : aop P env h n ⟨d, .index T x i, ty, pos, after, g⟩ K := by
  obtain ⟨g0, g1⟩ := gi_inv hg
  have g2 := (List.getElem?_eq_some_iff.1 g1)
  simp only [aop, hx, hi, idxK]
  refine ⟨hT, g0, y, ?_, hk⟩
  obtain ⟨h1, h2⟩ := g2
  have hs : j.toNat < (⟨l.toArray⟩ : ByteArray).size := by simpa [ByteArray.size] using h1
  rw [getElem?_pos (⟨l.toArray⟩ : ByteArray) j.toNat hs]
  exact congrArg some h2
theorem s_lenStr {T : TypeId} {x : Operand} {l : List UInt8} (hT : P.underlying T = some .string) (hx : ev env x = .sc (.string ⟨l.toArray⟩)) (hk : K (.sc (.int .i64 l.length)) h n) : aop P env h n ⟨d, .call ⟨.builtin .len, #[x], #[T]⟩, ty, pos, after, g⟩ K := by
  simp only [aop, builtinK, hx, lenK]; exact ⟨hT, by simpa [ByteArray.size] using hk⟩
theorem s_appT {n' : Nat} {α : Type} {T T2 e : TypeId} {s x : Operand} {m : Nat} {z : List AV} {l ys l' : List α} {f : α → List AV} {xs : List (List AV)} {id : Nat} (hp : plainT P T2 = true) (he : elemO P T = some e) (hz : zeroO P e = some z) (hm : z.length = m) (h0 : m ≠ 0) (hb : P.bytesOf e ≤ 1024) (hs : ev env s = gsv id l.length) (hh : hl L id = gsb m e (l.map f)) (hx : srcA (hl L) m (ev env x) = some xs) (hxs : xs = ys.map f) (hne : ys ≠ [])
    (hg : gapp l ys = some l') (hd : delH (hl L) id = hl L') (hn : n + 1 = n') (hk : K (gsv n l'.length) (hl ((n, gsb m e (l'.map f)) :: L')) n') : aop P env (hl L) n ⟨d, .call ⟨.builtin .append, #[s, x], #[T, T2]⟩, ty, pos, after, g⟩ K := by
  subst hn
  obtain ⟨g1, rfl⟩ := gapp_inv hg
  subst hxs
  refine s_app hp he hz hm h0 hb (by simpa using hs) hh hx (by simpa using hne) (by simpa using g1) hd ?_
  rw [← List.map_append, List.length_map, List.length_map, ← List.length_append]; exact hk
theorem s_appT0 {n' : Nat} {α : Type} {T T2 e : TypeId} {s x : Operand} {m : Nat} {z : List AV} {ys l' : List α} {f : α → List AV} {xs : List (List AV)} (hp : plainT P T2 = true) (he : elemO P T = some e) (hz : zeroO P e = some z) (hm : z.length = m) (h0 : m ≠ 0) (hb : P.bytesOf e ≤ 1024) (hs : ev env s = nilS) (hx : srcA (hl L) m (ev env x) = some xs) (hxs : xs = ys.map f) (hne : ys ≠ [])
    (hg : gapp [] ys = some l') (hn : n + 1 = n') (hk : K (gsv n l'.length) (hl ((n, gsb m e (l'.map f)) :: L)) n') : aop P env (hl L) n ⟨d, .call ⟨.builtin .append, #[s, x], #[T, T2]⟩, ty, pos, after, g⟩ K := by
  subst hn
  obtain ⟨g1, hl'⟩ := gapp_inv hg
  have hl2 : l' = ys := hl'
  clear hl' hg
  rw [hl2] at hk
  subst hxs
  have hx0 : 0 < ys.length := by cases ys with | nil => exact absurd rfl hne | cons _ _ => simp
  rw [gsv_pos hx0, gsb_pos (by simpa using hne)] at hk
  simp only [aop, builtinK, appendK, he, hz, hm, hx]
  refine ⟨hp, by rintro rfl; exact h0 hm.symm, hb, ?_⟩
  rw [hs]
  simp only [List.length_map]
  exact ⟨by simpa using g1, fun e => absurd e (by simpa using hne), fun _ => hk⟩
theorem s_appE0 {n' : Nat} {α : Type} {T T2 e : TypeId} {s x : Operand} {m : Nat} {z : List AV} {ys l' : List α} {f : α → List AV} {xs : List (List AV)} (hp : plainT P T2 = true) (he : elemO P T = some e) (hz : zeroO P e = some z) (hm : z.length = m) (h0 : m ≠ 0) (hb : P.bytesOf e ≤ 1024) (hs : ev env s = .e0) (hx : srcA (hl L) m (ev env x) = some xs) (hxs : xs = ys.map f) (hne : ys ≠ [])
    (hg : gapp [] ys = some l') (hn : n + 1 = n') (hk : K (gsv n l'.length) (hl ((n, gsb m e (l'.map f)) :: L)) n') : aop P env (hl L) n ⟨d, .call ⟨.builtin .append, #[s, x], #[T, T2]⟩, ty, pos, after, g⟩ K := by
  subst hn
  obtain ⟨g1, hl'⟩ := gapp_inv hg
  have hl2 : l' = ys := hl'
  clear hl' hg
  rw [hl2] at hk
  subst hxs
  have hx0 : 0 < ys.length := by cases ys with | nil => exact absurd rfl hne | cons _ _ => simp
  rw [gsv_pos hx0, gsb_pos (by simpa using hne)] at hk
  simp only [aop, builtinK, appendK, he, hz, hm, hx]
  refine ⟨hp, by rintro rfl; exact h0 hm.symm, hb, ?_⟩
  rw [hs]
  simp only [List.length_map]
  exact ⟨by simpa using g1, fun e => absurd e (by simpa using hne), fun _ => hk⟩
theorem s_appTM {n' : Nat} {α : Type} {T T2 e : TypeId} {s x : Operand} {m len : Nat} {z : List AV} {l ys l' : List α} {f : α → List AV} {xs : List (List AV)} {id : Nat} (hp : plainT P T2 = true) (he : elemO P T = some e) (hz : zeroO P e = some z) (hm : z.length = m) (h0 : m ≠ 0) (hb : P.bytesOf e ≤ 1024) (hs : ev env s = .ms id 0 len) (hh : hl L id = some (.cells m e (l.map f))) (hlen : l.length = len) (hx : srcA (hl L) m (ev env x) = some xs) (hxs : xs = ys.map f)
    (hg : gapp l ys = some l') (hd : delH (hl L) id = hl L') (hn : n + 1 = n') (hk : K (.ms n 0 l'.length) (hl ((n, some (.cells m e (l'.map f))) :: L')) n') : aop P env (hl L) n ⟨d, .call ⟨.builtin .append, #[s, x], #[T, T2]⟩, ty, pos, after, g⟩ K := by
  subst hn
  obtain ⟨g1, rfl⟩ := gapp_inv hg
  subst hxs
  refine s_appM hp he hz hm h0 hb hs (by simpa using hlen) hh hx (by simpa using g1) hd ?_
  rw [← List.map_append, List.length_map, ← hlen, ← List.length_append]; exact hk
theorem b_seql {T : TypeId} {a b : List UInt8} {F : AV → Prop} (hk : F (.sc (.bool (a == b)))) : abin P h .eql T (.sc (.string ⟨a.toArray⟩)) (.sc (.string ⟨b.toArray⟩)) F := by
  simp only [abin, abinS]; simpa [ByteArray.toList_mk] using hk
end

/-! maps -/
def mget {κ β : Type} [DecidableEq κ] : List (κ × β) → κ → Option β
  | [], _ => none
  | p :: r, k => if k = p.1 then some p.2 else mget r k
def mput {κ β : Type} [DecidableEq κ] : List (κ × β) → κ → β → List (κ × β)
  | [], k, v => [(k, v)]
  | p :: r, k, v => if k = p.1 then (k, v) :: r else p :: mput r k v
abbrev kvE {κ β : Type} (kf : κ → Value) (vf : β → AV) (p : κ × β) : Value × AV := (kf p.1, vf p.2)
abbrev ki (n : Int) : Value := .int .i64 n
abbrev ks (l : List UInt8) : Value := .string ⟨l.toArray⟩
theorem kb_int (a b : Int) : keyB (ki a) (ki b) = decide (a = b) := by simp [keyB]; rfl
theorem ba_beq (a b : List UInt8) : ((⟨a.toArray⟩ : ByteArray) == ⟨b.toArray⟩) = decide (a = b) := by
  show (a.toArray == b.toArray) = decide (a = b)
  by_cases h : a = b <;> simp [h]
theorem kb_str (a b : List UInt8) : keyB (ks a) (ks b) = decide (a = b) := ba_beq a b
theorem findA_get {κ β : Type} [DecidableEq κ] {kf : κ → Value} {vf : β → AV} (hkb : ∀ a b, keyB (kf a) (kf b) = decide (a = b)) (k : κ) : ∀ (E : List (κ × β)) (i : Nat), (findA (kf k) (E.map (kvE kf vf)) i).map (·.2) = (mget E k).map vf
  | [], i => rfl
  | p :: r, i => by
    simp only [List.map_cons, findA, mget, hkb, decide_eq_true_eq]
    split
    · rfl
    · exact findA_get hkb k r (i + 1)
theorem findA_put {κ β : Type} [DecidableEq κ] {kf : κ → Value} {vf : β → AV} (hkb : ∀ a b, keyB (kf a) (kf b) = decide (a = b)) (k : κ) (v : β) : ∀ (E F : List (κ × β)), (match findA (kf k) (E.map (kvE kf vf)) F.length with | some (i, _) => ((F ++ E).map (kvE kf vf)).set i (kf k, vf v) | none => (F ++ E).map (kvE kf vf) ++ [(kf k, vf v)]) = (F ++ mput E k v).map (kvE kf vf)
  | [], F => by simp [findA, mput]
  | p :: r, F => by
    simp only [List.map_cons, findA, mput, hkb, decide_eq_true_eq]
    split
    · rename_i i a hc
      split at hc
      · cases hc
        rename_i hk
        subst hk
        simp [List.set_append]
      · rename_i hk
        have := findA_put (vf := vf) hkb k v r (F ++ [p])
        rw [List.length_append, List.length_singleton, hc] at this
        simpa [hk] using this
    · rename_i hc
      split at hc
      · cases hc
      · rename_i hk
        have := findA_put (vf := vf) hkb k v r (F ++ [p])
        rw [List.length_append, List.length_singleton, hc] at this
        simpa [hk] using this
section
variable {P : Program} {env : Env} {h : AH} {L L' : List (Nat × Option ABlk)} {n : Nat} {K : K3} {d : Option Tmp} {ty : TypeId} {pos : String} {after : Array Edge} {g : Option (Nat × Bool)}
theorem lkK {κ β : Type} [DecidableEq κ] {T kt e : TypeId} {id : Nat} {E : List (κ × β)} {kf : κ → Value} {vf : β → AV} {k : κ} {z0 : β} {z : Value} {ok : Bool} {F : AV → Prop} (hT : mapO P T = some (kt, e)) (hz : zvO P e = some z) (hzz : cst z = vf z0) (hkb : ∀ a b, keyB (kf a) (kf b) = decide (a = b)) (hok : ∀ a, keyOkA P kt (kf a))
    (hh : h id = some (.map (E.map (kvE kf vf)))) (hK : F (if ok then .tp [vf ((mget E k).getD z0), bool (mget E k).isSome] else vf ((mget E k).getD z0))) : lookupK P h T (.mp id) (.sc (kf k)) ok F := by
  simp only [lookupK, hT, hh]
  refine ⟨hok k, fun x hx => ?_, ?_⟩
  · obtain ⟨p, _, rfl⟩ := List.mem_map.1 hx; exact hok _
  · have hf := findA_get (vf := vf) hkb k E 0
    cases hg : findA (kf k) (E.map (kvE kf vf)) 0 with
    | none =>
      rw [hg] at hf
      cases hm : mget E k with
      | none => rw [hm] at hK; simp only [hz]; rw [hzz]; exact hK
      | some v => rw [hm] at hf; simp at hf
    | some q =>
      obtain ⟨i, v⟩ := q
      rw [hg] at hf
      cases hm : mget E k with
      | none => rw [hm] at hf; simp at hf
      | some v' =>
        rw [hm] at hf hK
        simp only [Option.map_some, Option.some.injEq] at hf
        subst hf
        exact hK
theorem s_lk {κ β : Type} [DecidableEq κ] {T kt e : TypeId} {m key : Operand} {id : Nat} {E : List (κ × β)} {kf : κ → Value} {vf : β → AV} {k : κ} {z0 : β} {z : Value} (hT : mapO P T = some (kt, e)) (hz : zvO P e = some z) (hzz : cst z = vf z0) (hkb : ∀ a b, keyB (kf a) (kf b) = decide (a = b)) (hok : ∀ a, keyOkA P kt (kf a))
    (hm : ev env m = .mp id) (hk : ev env key = .sc (kf k)) (hh : h id = some (.map (E.map (kvE kf vf)))) (hK : K (vf ((mget E k).getD z0)) h n) : aop P env h n ⟨d, .lookup T m key false, ty, pos, after, g⟩ K := by
  simp only [aop]; rw [hm, hk]; exact lkK hT hz hzz hkb hok hh hK
theorem s_lko {κ β : Type} [DecidableEq κ] {T kt e : TypeId} {m key : Operand} {id : Nat} {E : List (κ × β)} {kf : κ → Value} {vf : β → AV} {k : κ} {z0 : β} {z : Value} (hT : mapO P T = some (kt, e)) (hz : zvO P e = some z) (hzz : cst z = vf z0) (hkb : ∀ a b, keyB (kf a) (kf b) = decide (a = b)) (hok : ∀ a, keyOkA P kt (kf a))
    (hm : ev env m = .mp id) (hk : ev env key = .sc (kf k)) (hh : h id = some (.map (E.map (kvE kf vf)))) (hK : K (.tp [vf ((mget E k).getD z0), bool (mget E k).isSome]) h n) : aop P env h n ⟨d, .lookup T m key true, ty, pos, after, g⟩ K := by
  simp only [aop]; rw [hm, hk]; exact lkK hT hz hzz hkb hok hh hK
theorem s_mu {κ β : Type} [DecidableEq κ] {T kt e : TypeId} {m key x : Operand} {id : Nat} {E : List (κ × β)} {kf : κ → Value} {vf : β → AV} {k : κ} {v : β} (hT : mapO P T = some (kt, e)) (hkb : ∀ a b, keyB (kf a) (kf b) = decide (a = b)) (hok : ∀ a, keyOkA P kt (kf a))
    (hm : ev env m = .mp id) (hk : ev env key = .sc (kf k)) (hx : ev env x = vf v) (h1 : (vf v).one = true) (hh : hl L id = some (.map (E.map (kvE kf vf)))) (hu : updH (hl L) id (.map ((mput E k v).map (kvE kf vf))) = hl L') (hK : K .ud (hl L') n) : aop P env (hl L) n ⟨d, .mapUpdate T m key x, ty, pos, after, g⟩ K := by
  simp only [aop]; rw [hm, hk, hx]
  simp only [mapUpdK, hT, hh]
  refine ⟨hok k, fun x hx => ?_, h1, ?_⟩
  · obtain ⟨p, _, rfl⟩ := List.mem_map.1 hx; exact hok _
  · have := findA_put (vf := vf) hkb k v E []
    simp only [List.length_nil, List.nil_append] at this
    generalize findA (kf k) (List.map (kvE kf vf) E) 0 = q at this ⊢
    cases q with
    | none => simp only at this ⊢; rw [this, hu]; exact hK
    | some q => obtain ⟨i, a⟩ := q; simp only at this ⊢; rw [this, hu]; exact hK
end
end Go.Abs

/- Pieces of code in a walk. -/
set_option linter.unusedSimpArgs false
set_option linter.unusedVariables false
namespace Go.Abs
open Go Go.RowKit

structure StLe (s : St) (env : Env) (L : List (Nat × Option ABlk)) (n : Nat) : Prop where
  env : s.env = env
  h : ∀ (i : Nat) (B : ABlk), hl L i = some B → s.h i = some B
  n : s.n ≤ n

theorem hs_nil {h : AH} : ∀ (i : Nat) (B : ABlk), hl [] i = some B → h i = some B := fun i B h => by simp [hl] at h
theorem hs_cons {h : AH} {i : Nat} {A : Option ABlk} {L : List (Nat × Option ABlk)} (h1 : h i = A) (h2 : ∀ (i : Nat) (B : ABlk), hl L i = some B → h i = some B) : ∀ (j : Nat) (B : ABlk), hl ((i, A) :: L) j = some B → h j = some B := fun j B hj => by
  simp only [hl] at hj
  split at hj
  · rename_i e; rw [e, h1, hj]
  · exact h2 j B hj
theorem hs_none {h : AH} {i : Nat} {L : List (Nat × Option ABlk)} (h2 : ∀ (i : Nat) (B : ABlk), hl L i = some B → h i = some B) : ∀ (j : Nat) (B : ABlk), hl ((i, none) :: L) j = some B → h j = some B := fun j B hj => by
  simp only [hl] at hj
  split at hj
  · cases hj
  · exact h2 j B hj
theorem hs_refl {L : List (Nat × Option ABlk)} : ∀ (i : Nat) (B : ABlk), hl L i = some B → hl L i = some B := fun _ _ h => h

section
variable {P : Program} {N : Nat} {D : List Deferred} {O : Nat → Prop} {Q : Exit → St → Prop} {st s : St} {c : Code} {cs : List Code} {env env' : Env} {L L' : List (Nat × Option ABlk)} {n : Nat} {h : AH}

theorem SR.bump {μ : Mu} {a : Act} {w : World} {N' : Nat} (hs : SR N D O μ ⟨env, h, n⟩ a w) (hn : n ≤ N') : SR N D O μ ⟨env, h, N'⟩ a w ∧ ∀ {w' : World} {μ' : Mu} {n'' : Nat}, Evo w μ N' w' μ' n'' → Evo w μ n w' μ' n'' := by
  have e0 : Evo w μ n w μ N' := ⟨rfl, rfl, rfl, Nat.le_refl _, hn, fun _ _ _ => rfl, fun b c T f hb => ⟨c, hb, rfl⟩, fun _ _ => .inl rfl, fun id b k e hi => absurd (hs.hr.scope id b k e).1 (Nat.not_lt.2 hi)⟩
  refine ⟨⟨⟨hs.hr.olt, fun id b k e => ⟨Nat.lt_of_lt_of_le (hs.hr.scope id b k e).1 hn, (hs.hr.scope id b k e).2⟩, hs.hr.inj, hs.hr.notO, fun id B hB => (hs.hr.blk id B hB).evo rfl (fun _ _ _ => rfl) e0⟩, hs.size, hs.defers, fun s => (hs.env s).evo e0⟩, fun e => e0.trans e⟩

theorem Sat.bump {N' : Nat} (hn : n ≤ N') (hk : Sat P N D O c Q ⟨env, h, N'⟩) : Sat P N D O c Q ⟨env, h, n⟩ := by
  intro μ a w hs
  obtain ⟨h1, h2⟩ := hs.bump hn
  refine wp_mono (hk μ a w h1) ?_
  rintro e a' w' ⟨st', μ', q, r, ev⟩
  exact ⟨st', μ', q, r, h2 ev⟩

theorem SatL.le (hs : StLe s env L n) (hk : SatL P N D O (c :: cs) Q ⟨env, hl L, n⟩) : SatL P N D O (c :: cs) Q s := by
  obtain ⟨e, h, m⟩ := s
  obtain ⟨rfl, h2, h3⟩ := hs
  exact Sat.weakH (st := ⟨e, h, m⟩) (hl L) h2 (Sat.bump h3 hk)
theorem StLe.of {env0 : Env} (L0 : List (Nat × Option ABlk)) (n0 : Nat) (he : env0 = env) (hh : ∀ (i : Nat) (B : ABlk), hl L i = some B → hl L0 i = some B) (hn : n0 ≤ n) : StLe ⟨env0, hl L0, n0⟩ env L n := ⟨he, hh, hn⟩
theorem SatL.norm (he : env = env') (hh : ∀ (i : Nat) (B : ABlk), hl L' i = some B → h i = some B) (hk : SatL P N D O (c :: cs) Q ⟨env', hl L', n⟩) : SatL P N D O (c :: cs) Q ⟨env, h, n⟩ :=
  SatL.le ⟨he, hh, Nat.le_refl _⟩ hk

theorem SatL.condT {x : Operand} {a b : Code} {v : Bool} (hc : ev env x = .sc (.bool v)) (hv : v = true) (ht : SatL P N D O (a :: cs) Q ⟨env, h, n⟩) : SatL P N D O (.cond x a b :: cs) Q ⟨env, h, n⟩ :=
  SatL.cond v hc (fun _ => ht) fun e => by rw [hv] at e; cases e
theorem SatL.condF {x : Operand} {a b : Code} {v : Bool} (hc : ev env x = .sc (.bool v)) (hv : v = false) (ht : SatL P N D O (b :: cs) Q ⟨env, h, n⟩) : SatL P N D O (.cond x a b :: cs) Q ⟨env, h, n⟩ :=
  SatL.cond v hc (fun e => by rw [hv] at e; cases e) fun _ => ht
theorem SatL.condX {x : Operand} {a b : Code} {v : Bool} (hc : ev env x = .sc (.bool v)) (ht : v = true → SatL P N D O (a :: cs) Q ⟨env, h, n⟩) (hf : v = false → SatL P N D O (b :: cs) Q ⟨env, h, n⟩) : SatL P N D O (.cond x a b :: cs) Q ⟨env, h, n⟩ :=
  SatL.cond v hc ht hf

theorem SatL.loopK (live : List Nat) (I : Nat → St → Prop) (k0 : Nat) (h0 : I k0 ⟨keep live st.env, st.h, st.n⟩)
    (round : ∀ k s, I k s → SatL P N D O [c] (thenQ (fun s' => ∃ k', I k' ⟨keep live s'.env, s'.h, s'.n⟩ ∧ k' < k) (thenQ (SatL P N D O cs Q) Q)) s) : SatL P N D O (.loop c :: cs) Q st :=
  SatL.loop live I (fun k => k) k0 h0 round

theorem SatL.mid2 {c1 c2 c' : Code} {cs : List Code} (live : List Nat) (M : St → Prop) (h : SatL P N D O [c1, c2] (thenQ (fun s => M ⟨keep live s.env, s.h, s.n⟩) Q) st) (hk : ∀ s, M s → SatL P N D O (c' :: cs) Q s) : SatL P N D O (c1 :: c2 :: c' :: cs) Q st := by
  refine Sat.mono h fun e s hs => ?_
  cases e with
  | normal =>
    refine Sat.mono hs fun e s hs => ?_
    cases e with
    | normal => exact SatL.forget live (hk _ hs)
    | _ => exact hs
  | _ => exact hs
theorem SatL.seqB {x y z : Code} {cs : List Code} (h : SatL P N D O (x :: y :: z :: cs) Q st) : SatL P N D O (x :: .seq y z :: cs) Q st := by
  refine Sat.mono h fun e s hs => ?_
  cases e with
  | normal => exact SatL.seq hs
  | _ => exact hs

theorem PC.of_bodyL {f : FuncId} {fn : Func} {c : Code} {args : List AV} {R : AV → Prop} (env : Env) (hf : P.funcs[f]? = some fn) (hb : fn.body = some c) (hname : (fn.name == "runtime.NumGoroutine") = false) (hargs : args.length ≤ fn.ntmps) (he : enterEnv args = env)
    (hsat : ∀ O, SatL P fn.ntmps [] O [c] (fnQ P fn.results.toList (fun v h _ => ∃ v', Snap h v v' ∧ R v')) ⟨env, hl [], 0⟩) : PC P f args R :=
  PC.of_body hf hb hname hargs fun O => by rw [he]; exact hsat O

theorem fnQ_snap {rs : List ResultVar} {R : AV → Prop} (L : List (Nat × Option ABlk)) (v v' : AV) (hv : aresults P (hl L) env rs = some v) (hs : Snap (hl L) v v') (hr : R v') : fnQ P rs (fun v h _ => ∃ v', Snap h v v' ∧ R v') .ret ⟨env, hl L, n⟩ :=
  ⟨v, hv, v', hs, hr⟩
theorem fnQ_snapN {rs : List ResultVar} {R : AV → Prop} (L : List (Nat × Option ABlk)) (v v' : AV) (hv : aresults P (hl L) env rs = some v) (hs : Snap (hl L) v v') (hr : R v') : fnQ P rs (fun v h _ => ∃ v', Snap h v v' ∧ R v') .normal ⟨env, hl L, n⟩ :=
  ⟨v, hv, v', hs, hr⟩
end

/-! frozen data -/
theorem FreeL.nil : FreeL [] := fun _ h => by cases h
theorem FreeL.cons {a : AV} {l : List AV} (h : Free a) (hl : FreeL l) : FreeL (a :: l) := (FreeL_cons a l).2 ⟨h, hl⟩
theorem Free.slm {α : Type} {l : List α} {f : α → List AV} (hf : ∀ y, FreeL (f y)) : Free (.sl (l.map f)) := (Free_sl _).2 fun e he => by
  obtain ⟨y, _, rfl⟩ := List.mem_map.1 he; exact hf y
theorem Free.agl {cs : List AV} (h : FreeL cs) : Free (.ag cs) := (Free_ag cs).2 h
theorem Free.tpl {cs : List AV} (h : FreeL cs) : Free (.tp cs) := (Free_tp cs).2 h
theorem Free.fpl {cs : List AV} (h : FreeL cs) : Free (.fp cs) := (Free_fp cs).2 h
theorem Free.fnl {f : FuncId} {cs : List AV} (h : FreeL cs) : Free (.fn f cs) := (Free_fn f cs).2 h

/-- one cell -/
abbrev bool1 (b : Bool) : List AV := [bool b]
abbrev ik1 (k : IntKind) (n : Int) : List AV := [.sc (.int k n)]
abbrev str (l : List UInt8) : AV := .sc (.string ⟨l.toArray⟩)
abbrev str1 (l : List UInt8) : List AV := [str l]
abbrev sl1 {α : Type} (f : α → List AV) (l : List α) : List AV := [.sl (l.map f)]
theorem fr_int1 (n : Int) : FreeL (int1 n) := FreeL.cons (.sc _) FreeL.nil
theorem fr_ik1 (k : IntKind) (n : Int) : FreeL (ik1 k n) := FreeL.cons (.sc _) FreeL.nil
theorem fr_bool1 (n : Bool) : FreeL (bool1 n) := FreeL.cons (.sc _) FreeL.nil
theorem fr_str1 (n : List UInt8) : FreeL (str1 n) := FreeL.cons (.sc _) FreeL.nil
theorem fr_sl1 {α : Type} {f : α → List AV} (hf : ∀ y, FreeL (f y)) (l : List α) : FreeL (sl1 f l) := FreeL.cons (Free.slm hf) FreeL.nil

theorem Snap.msT {α : Type} {h : AH} {id off len k : Nat} {T : TypeId} {l l' : List α} {f : α → List AV} (hB : h id = some (.cells k T (l.map f))) (he : l' = (l.drop off).take len) (hl : off + len ≤ l.length) (hf : ∀ y, FreeL (f y)) : Snap h (.ms id off len) (.sl (l'.map f)) :=
  Snap.msF hB (by rw [he, List.map_take, List.map_drop]) (by simpa using hl) fun e he => by
    obtain ⟨y, _, rfl⟩ := List.mem_map.1 he; exact hf y
/-- a whole own slice -/
theorem Snap.msW {α : Type} {h : AH} {id len k : Nat} {T : TypeId} {l : List α} {f : α → List AV} (hB : h id = some (.cells k T (l.map f))) (hlen : l.length = len) (hf : ∀ y, FreeL (f y)) : Snap h (.ms id 0 len) (.sl (l.map f)) :=
  Snap.msT hB (by simp [← hlen]) (by omega) hf
theorem Snap.gsT {α : Type} {h : AH} {id len k : Nat} {T : TypeId} {l : List α} {f : α → List AV} (hB : h id = gsb k T (l.map f)) (hlen : len = l.length) (hf : ∀ y, FreeL (f y)) : Snap h (gsv id len) (.sl (l.map f)) := by
  cases l with
  | nil => simp at hlen; subst hlen; exact Snap.nilS
  | cons y l =>
    rw [gsv_pos (by simp at hlen; omega)]
    exact Snap.msW hB hlen.symm hf

/-! results in parts -/
def un0 {α : Type} (_ : Unit) (f : α) : α := f
def un1 {A α : Type} (s : A) (f : A → α) : α := f s
def un2 {A B α : Type} (s : A × B) (f : A → B → α) : α := f s.1 s.2
def un3 {A B C α : Type} (s : A × B × C) (f : A → B → C → α) : α := f s.1 s.2.1 s.2.2
def un4 {A B C E α : Type} (s : A × B × C × E) (f : A → B → C → E → α) : α := f s.1 s.2.1 s.2.2.1 s.2.2.2
def un5 {A B C E F α : Type} (s : A × B × C × E × F) (f : A → B → C → E → F → α) : α := f s.1 s.2.1 s.2.2.1 s.2.2.2.1 s.2.2.2.2
def un6 {A B C E F G α : Type} (s : A × B × C × E × F × G) (f : A → B → C → E → F → G → α) : α := f s.1 s.2.1 s.2.2.1 s.2.2.2.1 s.2.2.2.2.1 s.2.2.2.2.2
def sumE {R S α : Type} (s : R ⊕ S) (f : R → α) (g : S → α) : α := match s with | .inl r => f r | .inr x => g x
section
variable {A B C E F G R α : Type} {a : A} {b : B} {c : C} {e : E} {f : F} {g : G} {x : α} {p : R → α}
theorem un0S {k : α} (h : un0 () k = x) : k = x := h
theorem un1S {k : A → α} (h : un1 a k = x) : k a = x := h
theorem un2S {k : A → B → α} (h : un2 (a, b) k = x) : k a b = x := h
theorem un3S {k : A → B → C → α} (h : un3 (a, b, c) k = x) : k a b c = x := h
theorem un4S {k : A → B → C → E → α} (h : un4 (a, b, c, e) k = x) : k a b c e = x := h
theorem un5S {k : A → B → C → E → F → α} (h : un5 (a, b, c, e, f) k = x) : k a b c e f = x := h
theorem un6S {k : A → B → C → E → F → G → α} (h : un6 (a, b, c, e, f, g) k = x) : k a b c e f g = x := h
theorem sumun0S {k : α} (h : sumE (.inr ()) p (fun s => un0 s k) = x) : k = x := h
theorem sumun1S {k : A → α} (h : sumE (.inr a) p (fun s => un1 s k) = x) : k a = x := h
theorem sumun2S {k : A → B → α} (h : sumE (.inr (a, b)) p (fun s => un2 s k) = x) : k a b = x := h
theorem sumun3S {k : A → B → C → α} (h : sumE (.inr (a, b, c)) p (fun s => un3 s k) = x) : k a b c = x := h
theorem sumun4S {k : A → B → C → E → α} (h : sumE (.inr (a, b, c, e)) p (fun s => un4 s k) = x) : k a b c e = x := h
theorem sumun5S {k : A → B → C → E → F → α} (h : sumE (.inr (a, b, c, e, f)) p (fun s => un5 s k) = x) : k a b c e f = x := h
theorem sumun6S {k : A → B → C → E → F → G → α} (h : sumE (.inr (a, b, c, e, f, g)) p (fun s => un6 s k) = x) : k a b c e f g = x := h
end
attribute [simp] un0 un1 un2 un3 un4 un5 un6 sumE

/-! calls -/
theorem freeL_app {a b : List AV} (ha : FreeL a) (hb : FreeL b) : FreeL (a ++ b) := (FreeL_append a b).2 ⟨ha, hb⟩
theorem FlatL.nil : FlatL [] := fun _ h => by cases h
theorem FlatL.cons {a : AV} {l : List AV} (h : Flat a) (hl : FlatL l) : FlatL (a :: l) := (FlatL_cons a l).2 ⟨h, hl⟩
/-- a pointer that may be nil -/
def ptrE {α : Type} (f : α → List AV) (o : Option α) : AV := match o with | some x => .fp (f x) | none => .sc (.pointer none)
theorem free_ptrE {α : Type} {f : α → List AV} (hf : ∀ y, FreeL (f y)) (o : Option α) : Free (ptrE f o) := by
  cases o with
  | none => exact .sc _
  | some x => exact Free.fpl (hf x)
/-- frozen, but for nil slices -/
inductive NilL : List AV → List AV → Prop
  | nil : NilL [] []
  | cons {a : AV} {l l' : List AV} (h : Free a) (hl : NilL l l') : NilL (a :: l) (a :: l')
  | nl {l l' : List AV} (hl : NilL l l') : NilL (Abs.nilS :: l) (.sl [] :: l')
theorem NilL.len {l l' : List AV} (h : NilL l l') : l'.length = l.length := by induction h <;> simp [*]
theorem NilL.at {l l' : List AV} (h : NilL l l') : ∀ (j : Nat) (c' : AV), l'[j]? = some c' → ∃ c, l[j]? = some c ∧ (c = c' ∧ Free c ∨ c = nilS ∧ c' = .sl []) := by
  induction h with
  | nil => intro j c hj; simp at hj
  | cons hf _ ih =>
    intro j c hj
    cases j with
    | zero => simp at hj; subst hj; exact ⟨_, rfl, .inl ⟨rfl, hf⟩⟩
    | succ j => simpa using ih j c (by simpa using hj)
  | nl _ ih =>
    intro j c hj
    cases j with
    | zero => simp at hj; subst hj; exact ⟨_, rfl, .inr ⟨rfl, rfl⟩⟩
    | succ j => simpa using ih j c (by simpa using hj)
theorem PC.call1N {P : Program} {f : FuncId} {args args' : List AV} {r : AV} {h : AH} {n : Nat} {K : K3} (hs : NilL args args') (hc : PC P f args' (· = r)) (hk : K r h n) : HC P f args h n K := by
  refine ⟨hc.1, fun O μ w vs hr hsz hv => (hc.2 (Av O μ) w vs (fun b hb => ?_) (by rw [hsz, hs.len]) (fun j c' hj => ?_)).mono ?_⟩
  · rcases hb with hb | ⟨id, k, hb⟩
    · exact hr.olt b hb
    · exact (hr.scope id b k hb).2
  · obtain ⟨c, hcj, h1 | h1⟩ := hs.at j c' hj
    · obtain ⟨rfl, hf⟩ := h1
      obtain ⟨u, h1, h2⟩ := hv j c hcj
      exact ⟨u, h1, h2.free hf fun b hb => hb⟩
    · obtain ⟨rfl, rfl⟩ := h1
      obtain ⟨u, h1, h2⟩ := hv j _ hcj
      refine ⟨u, h1, ?_⟩
      rw [h2.sc_inv]; exact .slnil none
  · rintro e w' ⟨u, v, rfl, rfl, q2, q3⟩
    obtain ⟨e1, h1⟩ := Evo.of_below hr q3
    exact ⟨u, _, h, n, μ, rfl, hk, h1, q2.lift fun b hb => hb, e1⟩

/-! own blocks given away with a call -/
def muI (I : List Nat) (μ : Mu) : Mu := fun i => if I.contains i then μ i else none
def muO (I : List Nat) (μ : Mu) : Mu := fun i => if I.contains i then none else μ i
theorem muI_some {I : List Nat} {μ : Mu} {i : Nat} {x : Nat × Nat} (h : muI I μ i = some x) : I.contains i = true ∧ μ i = some x := by
  unfold muI at h; split at h
  · exact ⟨by assumption, h⟩
  · cases h
theorem muO_some {I : List Nat} {μ : Mu} {i : Nat} {x : Nat × Nat} (h : muO I μ i = some x) : I.contains i = false ∧ μ i = some x := by
  unfold muO at h; split at h
  · cases h
  · rename_i hc; exact ⟨by simpa using hc, h⟩
theorem av_split {O : Nat → Prop} {I : List Nat} {μ : Mu} {b : Nat} (h : Av (Av O (muO I μ)) (muI I μ) b) : Av O μ b := by
  rcases h with (h | ⟨id, k, h⟩) | ⟨id, k, h⟩
  · exact .inl h
  · exact .inr ⟨id, k, (muO_some h).2⟩
  · exact .inr ⟨id, k, (muI_some h).2⟩
theorem VR.split {w : World} {O : Nat → Prop} {μ : Mu} {n : Nat} (I : List Nat) {a : AV} {v : Value} (hv : VR w O μ n a v) : VR w (Av O (muO I μ)) (muI I μ) n a v := by
  induction hv with
  | sc v h1 => exact .sc v h1
  | ud => exact .ud
  | un v => exact .un v
  | e0 p => exact .e0 p
  | own id i j v h h1 hv => exact .own id i j v h h1 fun b k e => hv b k (muI_some e).2
  | ms id off len v h h1 hv => exact .ms id off len v h h1 fun b k e => hv b k (muI_some e).2
  | mp id v h h1 hv => exact .mp id v h h1 fun b k e => hv b k (muI_some e).2
  | fp cs b o us hA hc h1 _ ih => exact .fp cs b o us (fun hne hb => hA hne (av_split hb)) hc h1 ih
  | slnil p => exact .slnil p
  | sl es b o cap k us hcap hmax hA hk hc h1 _ ih => exact .sl es b o cap k us hcap hmax (fun i e hi hne hb => hA i e hi hne (av_split hb)) hk hc h1 ih
  | fn f cs vs us hs hc _ ih => exact .fn f cs vs us hs hc ih
  | ag cs vs us hs hc h1 _ ih => exact .ag cs vs us hs hc h1 ih
  | tp cs vs us hs hc _ ih => exact .tp cs vs us hs hc ih
theorem VR.out {w : World} {O : Nat → Prop} {μ : Mu} {n : Nat} (I : List Nat) {a : AV} {v : Value} (hv : VR w O μ n a v) : VR w O (muO I μ) n a v := by
  have av : ∀ {b : Nat}, Av O (muO I μ) b → Av O μ b := fun h => by
    rcases h with h | ⟨id, k, h⟩
    · exact .inl h
    · exact .inr ⟨id, k, (muO_some h).2⟩
  induction hv with
  | sc v h1 => exact .sc v h1
  | ud => exact .ud
  | un v => exact .un v
  | e0 p => exact .e0 p
  | own id i j v h h1 hv => exact .own id i j v h h1 fun b k e => hv b k (muO_some e).2
  | ms id off len v h h1 hv => exact .ms id off len v h h1 fun b k e => hv b k (muO_some e).2
  | mp id v h h1 hv => exact .mp id v h h1 fun b k e => hv b k (muO_some e).2
  | fp cs b o us hA hc h1 _ ih => exact .fp cs b o us (fun hne hb => hA hne (av hb)) hc h1 ih
  | slnil p => exact .slnil p
  | sl es b o cap k us hcap hmax hA hk hc h1 _ ih => exact .sl es b o cap k us hcap hmax (fun i e hi hne hb => hA i e hi hne (av hb)) hk hc h1 ih
  | fn f cs vs us hs hc _ ih => exact .fn f cs vs us hs hc ih
  | ag cs vs us hs hc h1 _ ih => exact .ag cs vs us hs hc h1 ih
  | tp cs vs us hs hc _ ih => exact .tp cs vs us hs hc ih

theorem BlkAt.mapV {w : World} {O O' : Nat → Prop} {μ μ' : Mu} {n id : Nat} {B : ABlk} (hb : BlkAt w O μ n id B) (hm : μ' id = μ id) (hv : ∀ {a : AV} {v : Value}, VR w O μ n a v → VR w O' μ' n a v) : BlkAt w O' μ' n id B := by
  cases B with
  | cells k T es =>
    obtain ⟨b, c, h1, h2, h3⟩ := hb
    refine ⟨b, c, hm.trans h1, h2, fun i e hi => ⟨(h3 i e hi).1, fun j a hj => ?_⟩⟩
    obtain ⟨h4, u, h5, h6⟩ := (h3 i e hi).2 j a hj
    exact ⟨h4, u, h5, hv h6⟩
  | map kvs =>
    obtain ⟨b, es, h1, h2, h3, h4⟩ := hb
    refine ⟨b, es, hm.trans h1, h2, h3, fun i x hi => ?_⟩
    obtain ⟨e, h5, h6, h7, h8, h9⟩ := h4 i x hi
    exact ⟨e, h5, h6, h7, h8, hv h9⟩

theorem PC.eat {P : Program} {f : FuncId} {args args' : List AV} {r : AV} {h hE h' : AH} {n : Nat} {K : K3} (I : List Nat) (hi : ∀ i B, hE i = some B → I.contains i = true ∧ h i = some B) (ho : ∀ i B, h' i = some B → I.contains i = false ∧ h i = some B)
    (hs : SnapL hE args args') (hc : PC P f args' (· = r)) (hk : K r h' n) : HC P f args h n K := by
  refine ⟨hc.1, fun O μ w vs hr hsz hv => ?_⟩
  have hrI : HR w (Av O (muO I μ)) (muI I μ) hE n := by
    refine ⟨fun b hb => ?_, fun id b k e => hr.scope id b k (muI_some e).2, fun id id' b k k' e e' => hr.inj id id' b k k' (muI_some e).2 (muI_some e').2, fun id b k e hO => ?_, fun id B hB => ?_⟩
    · rcases hb with hb | ⟨id, k, hb⟩
      · exact hr.olt b hb
      · exact (hr.scope id b k (muO_some hb).2).2
    · obtain ⟨e1, e2⟩ := muI_some e
      rcases hO with hO | ⟨id', k', hO⟩
      · exact hr.notO id b k e2 hO
      · obtain ⟨e3, e4⟩ := muO_some hO
        rw [hr.inj _ _ _ _ _ e2 e4] at e1
        rw [e1] at e3; cases e3
    · obtain ⟨h1, h2⟩ := hi id B hB
      exact (hr.blk id B h2).mapV (by simp only [muI]; rw [if_pos h1]) fun hv => hv.split I
  have hrO : HR w O (muO I μ) h' n := by
    refine ⟨hr.olt, fun id b k e => hr.scope id b k (muO_some e).2, fun id id' b k k' e e' => hr.inj id id' b k k' (muO_some e).2 (muO_some e').2, fun id b k e => hr.notO id b k (muO_some e).2, fun id B hB => ?_⟩
    obtain ⟨h1, h2⟩ := ho id B hB
    exact (hr.blk id B h2).mapV (by simp only [muO]; rw [if_neg (by rw [h1]; decide)]) fun hv => hv.out I
  have he : Evo w μ n w (muO I μ) n := ⟨rfl, rfl, rfl, Nat.le_refl _, Nat.le_refl _, fun _ _ _ => rfl, fun b c T f hb => ⟨c, hb, rfl⟩, fun i _ => by unfold muO; split <;> simp, fun i b k e hn => absurd (hr.scope i b k (muO_some e).2).1 (by omega)⟩
  refine (hc.2 (Av O (muO I μ)) w vs hrI.olt (by rw [hsz, hs.len]) (fun j c' hj => ?_)).mono ?_
  · obtain ⟨c, hcj⟩ := other_of hs.len hj
    obtain ⟨u, h1, h2⟩ := hv j c hcj
    exact ⟨u, h1, (hs.at j c c' hcj hj).vr hrI (h2.split I)⟩
  · rintro e w' ⟨u, v, rfl, rfl, q2, q3⟩
    obtain ⟨e1, h1⟩ := Evo.of_below hrO q3
    exact ⟨u, _, h', n, muO I μ, rfl, hk, h1, q2.lift fun b hb => hb, he.trans e1⟩
end Go.Abs
namespace Go.Abs
theorem hi_nil {h : AH} {I : List Nat} : ∀ (i : Nat) (B : ABlk), hl [] i = some B → I.contains i = true ∧ h i = some B := fun i B h => by simp [hl] at h
theorem hi_cons {h : AH} {I : List Nat} {i : Nat} {A : Option ABlk} {L : List (Nat × Option ABlk)} (h0 : I.contains i = true) (h1 : h i = A) (h2 : ∀ (i : Nat) (B : ABlk), hl L i = some B → I.contains i = true ∧ h i = some B) : ∀ (j : Nat) (B : ABlk), hl ((i, A) :: L) j = some B → I.contains j = true ∧ h j = some B := fun j B hj => by
  simp only [hl] at hj
  split at hj
  · rename_i e; rw [e, h1, hj]; exact ⟨h0, rfl⟩
  · exact h2 j B hj
theorem ho_nil {h : AH} {I : List Nat} : ∀ (i : Nat) (B : ABlk), hl [] i = some B → I.contains i = false ∧ h i = some B := fun i B h => by simp [hl] at h
theorem ho_cons {h : AH} {I : List Nat} {i : Nat} {A : Option ABlk} {L : List (Nat × Option ABlk)} (h0 : I.contains i = false) (h1 : h i = A) (h2 : ∀ (i : Nat) (B : ABlk), hl L i = some B → I.contains i = false ∧ h i = some B) : ∀ (j : Nat) (B : ABlk), hl ((i, A) :: L) j = some B → I.contains j = false ∧ h j = some B := fun j B hj => by
  simp only [hl] at hj
  split at hj
  · rename_i e; rw [e, h1, hj]; exact ⟨h0, rfl⟩
  · exact h2 j B hj
end Go.Abs

/- Steps of regions whose order is drawn. -/
set_option linter.unusedSimpArgs false
set_option linter.unusedVariables false
namespace Go.Abs
open Go Go.RowKit

section
variable {P : Program} {ds : List (Option Tmp)} {wc : List Nat} {rd : List (Nat × Nat)} {r : List Oper} {j : Nat} {env : Env} {h h' : AH} {n n' : Nat} {tr : List Rec} {K : St → Prop} {dst : Option Tmp} {d : Tmp} {op : Op} {ty : TypeId} {pos : String} {after : Array Edge} {o : Oper} {next : St → List Rec → Prop} {g : Option (Nat × Bool)}

theorem dd_end {st : St} (hr : recheck P tr rd) (hk : K st) : aopsDS P ds wc rd [] j st tr K := by rw [aopsDS_nil]; exact ⟨hr, hk⟩
theorem dd_step (hs : stepD P wc rd ⟨dst, op, ty, pos, after, none⟩ j env h n tr fun s t => aopsDS P ds wc rd r (j + 1) s t K) : aopsDS P ds wc rd (⟨dst, op, ty, pos, after, none⟩ :: r) j ⟨env, h, n⟩ tr K := by
  rw [aopsDS_cons]; exact hs
theorem dd_split {q : Nat} {want : Bool} {g : Tmp} (hd : slotOf ds q = some g) (b : Bool) (hl : lk env g = .sc (.bool b))
    (h1 : b = want → stepD P wc rd ⟨some d, op, ty, pos, after, some (q, want)⟩ j ((g, .sc (.bool want)) :: env) h n tr fun s t => aopsDS P ds wc rd r (j + 1) s t K)
    (h2 : b = !want → aopsDS P ds wc rd r (j + 1) ⟨(d, .ud) :: (g, .sc (.bool (!want))) :: env, h, n⟩ tr K) : aopsDS P ds wc rd (⟨some d, op, ty, pos, after, some (q, want)⟩ :: r) j ⟨env, h, n⟩ tr K := by
  rw [aopsDS_cons]
  simp only [hd, hl]
  exact ⟨h1, h2⟩
theorem dd_on {q : Nat} {want : Bool} {g : Tmp} (hd : slotOf ds q = some g) (hl : lk env g = .sc (.bool want))
    (h1 : stepD P wc rd ⟨some d, op, ty, pos, after, some (q, want)⟩ j ((g, .sc (.bool want)) :: env) h n tr fun s t => aopsDS P ds wc rd r (j + 1) s t K) : aopsDS P ds wc rd (⟨some d, op, ty, pos, after, some (q, want)⟩ :: r) j ⟨env, h, n⟩ tr K :=
  dd_split hd _ hl (fun _ => h1) fun e => absurd e (by cases want <;> decide)
theorem dd_off {q : Nat} {want : Bool} {g : Tmp} (hd : slotOf ds q = some g) (hl : lk env g = .sc (.bool (!want))) (h2 : aopsDS P ds wc rd r (j + 1) ⟨(d, .ud) :: (g, .sc (.bool (!want))) :: env, h, n⟩ tr K) : aopsDS P ds wc rd (⟨some d, op, ty, pos, after, some (q, want)⟩ :: r) j ⟨env, h, n⟩ tr K :=
  dd_split hd _ hl (fun e => absurd e (by cases want <;> decide)) fun _ => h2
theorem dd_ud {q : Nat} {want : Bool} {g : Tmp} (hd : slotOf ds q = some g) (hl : lk env g = .ud) (h2 : aopsDS P ds wc rd r (j + 1) ⟨(d, .ud) :: env, h, n⟩ tr K) : aopsDS P ds wc rd (⟨some d, op, ty, pos, after, some (q, want)⟩ :: r) j ⟨env, h, n⟩ tr K := by
  rw [aopsDS_cons]
  simp only [hd, hl]
  exact h2
theorem ds_r0 (v : AV) (hw : isW wc j ⟨dst, op, ty, pos, after, g⟩ = false) (hn : wants rd j = false) (hv : ∀ K' : K3, K' v h n → aop P env h n ⟨dst, op, ty, pos, after, g⟩ K') (hk : next ⟨putE env dst v, h, n⟩ tr) : stepD P wc rd ⟨dst, op, ty, pos, after, g⟩ j env h n tr next := by
  unfold stepD
  rw [if_neg (by rw [hw]; decide)]
  have : ∃ v, aop P env h n ⟨dst, op, ty, pos, after, g⟩ (fun a b c => a = v ∧ b = h ∧ c = n) ∧ next ⟨putE env dst v, h, n⟩ (if wants rd j = true then ⟨j, ⟨dst, op, ty, pos, after, g⟩, env, v, h, n, h, n⟩ :: tr else tr) :=
    ⟨v, hv _ ⟨rfl, rfl, rfl⟩, by rw [if_neg (by rw [hn]; decide)]; exact hk⟩
  split <;> exact this
theorem ds_r1 (v : AV) (hw : isW wc j ⟨dst, op, ty, pos, after, g⟩ = false) (hn : wants rd j = true) (hv : ∀ K' : K3, K' v h n → aop P env h n ⟨dst, op, ty, pos, after, g⟩ K') (hk : next ⟨putE env dst v, h, n⟩ (⟨j, ⟨dst, op, ty, pos, after, g⟩, env, v, h, n, h, n⟩ :: tr)) : stepD P wc rd ⟨dst, op, ty, pos, after, g⟩ j env h n tr next := by
  unfold stepD
  rw [if_neg (by rw [hw]; decide)]
  simp only [hn, if_true]
  have : ∃ v, aop P env h n ⟨dst, op, ty, pos, after, g⟩ (fun a b c => a = v ∧ b = h ∧ c = n) ∧ next ⟨putE env dst v, h, n⟩ (⟨j, ⟨dst, op, ty, pos, after, g⟩, env, v, h, n, h, n⟩ :: tr) :=
    ⟨v, hv _ ⟨rfl, rfl, rfl⟩, hk⟩
  split <;> exact this
theorem ds_w0 (v : AV) (h' : AH) (n' : Nat) (hw : isW wc j o = true) (hn : wants rd j = false) (hv : ∀ K' : K3, K' v h' n' → aop P env h n o K') (hk : next ⟨putE env o.dst v, h', n'⟩ tr) : stepD P wc rd o j env h n tr next := by
  unfold stepD
  rw [if_pos hw]
  exact ⟨v, h', n', hv _ ⟨rfl, rfl, rfl⟩, by rw [if_neg (by rw [hn]; decide)]; exact hk⟩
theorem ds_w1 (v : AV) (h' : AH) (n' : Nat) (hw : isW wc j o = true) (hn : wants rd j = true) (hv : ∀ K' : K3, K' v h' n' → aop P env h n o K') (hk : next ⟨putE env o.dst v, h', n'⟩ (⟨j, o, env, v, h, n, h', n'⟩ :: tr)) : stepD P wc rd o j env h n tr next := by
  unfold stepD
  rw [if_pos hw]
  exact ⟨v, h', n', hv _ ⟨rfl, rfl, rfl⟩, by rw [if_pos hn]; exact hk⟩

/-! records looked at twice -/
theorem rc_nil : recheck P tr [] := trivial
theorem rc_lt {x w : Nat} {a b : Rec} (ha : recOf tr x = some a) (hb : recOf tr w = some b) (hlt : w < x) (h : aop P a.env b.h b.n a.o (fun v h n => v = a.v ∧ h = b.h ∧ n = b.n)) (hr : recheck P tr rd) : recheck P tr ((x, w) :: rd) := by
  refine ⟨?_, hr⟩
  simp only [ha, hb]; rw [if_pos hlt]; exact h
theorem rc_ge {x w : Nat} {a b : Rec} (ha : recOf tr x = some a) (hb : recOf tr w = some b) (hge : ¬ w < x) (h : aop P a.env b.h' b.n' a.o (fun v h n => v = a.v ∧ h = b.h' ∧ n = b.n')) (hr : recheck P tr rd) : recheck P tr ((x, w) :: rd) := by
  refine ⟨?_, hr⟩
  simp only [ha, hb]; rw [if_neg hge]; exact h
theorem rc_off1 {x w : Nat} (ha : recOf tr x = none) (hr : recheck P tr rd) : recheck P tr ((x, w) :: rd) := by
  refine ⟨?_, hr⟩
  simp only [ha]
theorem rc_off2 {x w : Nat} (hb : recOf tr w = none) (hr : recheck P tr rd) : recheck P tr ((x, w) :: rd) := by
  refine ⟨?_, hr⟩
  simp only [hb]; split <;> first | trivial | (rename_i h; cases h)
end

section
variable {P : Program} {ds : List (Option Tmp)} {r : List Oper} {env : Env} {h h' : AH} {n n' : Nat} {K : St → Prop} {d : Tmp} {op : Op} {ty : TypeId} {pos : String} {after : Array Edge} {v : AV}
theorem st (hs : ∀ K' : K3, K' v h' n' → aop P env h n ⟨some d, op, ty, pos, after, none⟩ K') (hk : aopsS P ds r ⟨(d, v) :: env, h', n'⟩ K) : aopsS P ds (⟨some d, op, ty, pos, after, none⟩ :: r) ⟨env, h, n⟩ K :=
  aopsS_step fun _ hK => hs _ (hK _ _ _ hk)
theorem s0 (hs : ∀ K' : K3, K' v h' n' → aop P env h n ⟨none, op, ty, pos, after, none⟩ K') (hk : aopsS P ds r ⟨env, h', n'⟩ K) : aopsS P ds (⟨none, op, ty, pos, after, none⟩ :: r) ⟨env, h, n⟩ K :=
  aopsS_step0 fun _ hK => hs _ (hK _ _ _ hk)
theorem sg {j : Nat} {want : Bool} {g : Tmp} (hd : slotOf ds j = some g) (hl : lk env g = .sc (.bool want))
    (hs : ∀ K' : K3, K' v h' n' → aop P ((g, .sc (.bool want)) :: env) h n ⟨some d, op, ty, pos, after, some (j, want)⟩ K') (hk : aopsS P ds r ⟨(d, v) :: (g, .sc (.bool want)) :: env, h', n'⟩ K) : aopsS P ds (⟨some d, op, ty, pos, after, some (j, want)⟩ :: r) ⟨env, h, n⟩ K :=
  aopsS_on hd hl fun _ hK => hs _ (hK _ _ _ hk)
/-- behind a split -/
theorem sx {o : Oper} {F : AV → AH → Nat → Prop} (hs : ∀ K' : K3, K' v h' n' → aop P env h n o K') (hk : F v h' n') : ∀ K' : K3, (∀ v h' n', F v h' n' → K' v h' n') → aop P env h n o K' :=
  fun _ hK => hs _ (hK _ _ _ hk)
end
end Go.Abs

/- Functions that change own blocks which are given to them: their contracts, and calls of them. -/
set_option linter.unusedSimpArgs false
set_option linter.unusedVariables false
namespace Go.Abs
open Go Go.RowKit

/-- own blocks of such numbers alone -/
inductive On (p : Nat → Bool) : AV → Prop
  | free (a : AV) (h : Free a) : On p a
  | own (id i j : Nat) (h : p id = true) : On p (.own id i j)
  | ms (id off len : Nat) (h : p id = true) : On p (.ms id off len)
  | mp (id : Nat) (h : p id = true) : On p (.mp id)
  | fn (f : FuncId) (cs : List AV) (h : ∀ (j : Nat) (c : AV), cs[j]? = some c → On p c) : On p (.fn f cs)
  | ag (cs : List AV) (h : ∀ (j : Nat) (c : AV), cs[j]? = some c → On p c) : On p (.ag cs)
  | tp (cs : List AV) (h : ∀ (j : Nat) (c : AV), cs[j]? = some c → On p c) : On p (.tp cs)
def OnB (p : Nat → Bool) : ABlk → Prop
  | .cells _ _ es => ∀ e ∈ es, ∀ a ∈ e, On p a
  | .map kvs => ∀ x ∈ kvs, On p x.2
def muP (p : Nat → Bool) (μ : Mu) : Mu := fun i => if p i then μ i else none
theorem muP_some {p : Nat → Bool} {μ : Mu} {i : Nat} {x : Nat × Nat} (h : muP p μ i = some x) : p i = true ∧ μ i = some x := by
  unfold muP at h; split at h
  · exact ⟨by assumption, h⟩
  · cases h

theorem VR.on {w : World} {O1 O2 : Nat → Prop} {μ1 μ2 : Mu} {n1 n2 : Nat} {p : Nat → Bool} {a : AV} (ho : On p a) (hp : ∀ id, p id = true → μ2 id = μ1 id ∧ id < n2) (hav : ∀ b, Av O2 μ2 b → Av O1 μ1 b) : ∀ {v : Value}, VR w O1 μ1 n1 a v → VR w O2 μ2 n2 a v := by
  induction ho with
  | free a h => intro v hv; exact (hv.free h hav).lift fun b hb => hb
  | own id i j h =>
    intro v hv
    cases hv with
    | own _ _ _ _ h0 h1 hv => exact .own id i j v (hp id h).2 h1 fun b k e => hv b k ((hp id h).1 ▸ e)
  | ms id off len h =>
    intro v hv
    cases hv with
    | ms _ _ _ _ h0 h1 hv => exact .ms id off len v (hp id h).2 h1 fun b k e => hv b k ((hp id h).1 ▸ e)
  | mp id h =>
    intro v hv
    cases hv with
    | mp _ _ h0 h1 hv => exact .mp id v (hp id h).2 h1 fun b k e => hv b k ((hp id h).1 ▸ e)
  | fn f cs h ih =>
    intro v hv
    cases hv with
    | fn _ _ vs us hs hc hr => exact .fn f cs vs us hs hc fun j c hj => ih j c hj (hr j c hj)
  | ag cs h ih =>
    intro v hv
    cases hv with
    | ag _ vs us hs hc h1 hr => exact .ag cs vs us hs hc h1 fun j c hj => ih j c hj (hr j c hj)
  | tp cs h ih =>
    intro v hv
    cases hv with
    | tp _ vs us hs hc hr => exact .tp cs vs us hs hc fun j c hj => ih j c hj (hr j c hj)

theorem BlkAt.on {w : World} {O1 O2 : Nat → Prop} {μ1 μ2 : Mu} {n1 n2 id : Nat} {p : Nat → Bool} {B : ABlk} (hb : BlkAt w O1 μ1 n1 id B) (ho : OnB p B) (hm : μ2 id = μ1 id) (hp : ∀ id, p id = true → μ2 id = μ1 id ∧ id < n2) (hav : ∀ b, Av O2 μ2 b → Av O1 μ1 b) : BlkAt w O2 μ2 n2 id B := by
  cases B with
  | cells k T es =>
    obtain ⟨b, c, h1, h2, h3⟩ := hb
    refine ⟨b, c, hm.trans h1, h2, fun i e hi => ⟨(h3 i e hi).1, fun j a hj => ?_⟩⟩
    obtain ⟨h4, u, h5, h6⟩ := (h3 i e hi).2 j a hj
    exact ⟨h4, u, h5, h6.on (ho e (List.mem_of_getElem? hi) a (List.mem_of_getElem? hj)) hp hav⟩
  | map kvs =>
    obtain ⟨b, es, h1, h2, h3, h4⟩ := hb
    refine ⟨b, es, hm.trans h1, h2, h3, fun i x hi => ?_⟩
    obtain ⟨e, h5, h6, h7, h8, h9⟩ := h4 i x hi
    exact ⟨e, h5, h6, h7, h8, h9.on (ho x (List.mem_of_getElem? hi)) hp hav⟩

theorem avP_split {O : Nat → Prop} {p : Nat → Bool} {μ : Mu} {b : Nat} (h : Av (Av O (muP p μ)) (muP (fun i => !p i) μ) b) : Av O μ b := by
  rcases h with (h | ⟨id, k, h⟩) | ⟨id, k, h⟩
  · exact .inl h
  · exact .inr ⟨id, k, (muP_some h).2⟩
  · exact .inr ⟨id, k, (muP_some h).2⟩
theorem VR.splitP {w : World} {O : Nat → Prop} {μ : Mu} {n : Nat} (p : Nat → Bool) {a : AV} {v : Value} (hv : VR w O μ n a v) : VR w (Av O (muP p μ)) (muP (fun i => !p i) μ) n a v := by
  induction hv with
  | sc v h1 => exact .sc v h1
  | ud => exact .ud
  | un v => exact .un v
  | e0 p => exact .e0 p
  | own id i j v h h1 hv => exact .own id i j v h h1 fun b k e => hv b k (muP_some e).2
  | ms id off len v h h1 hv => exact .ms id off len v h h1 fun b k e => hv b k (muP_some e).2
  | mp id v h h1 hv => exact .mp id v h h1 fun b k e => hv b k (muP_some e).2
  | fp cs b o us hA hc h1 _ ih => exact .fp cs b o us (fun hne hb => hA hne (avP_split hb)) hc h1 ih
  | slnil p => exact .slnil p
  | sl es b o cap k us hcap hmax hA hk hc h1 _ ih => exact .sl es b o cap k us hcap hmax (fun i e hi hne hb => hA i e hi hne (avP_split hb)) hk hc h1 ih
  | fn f cs vs us hs hc _ ih => exact .fn f cs vs us hs hc ih
  | ag cs vs us hs hc h1 _ ih => exact .ag cs vs us hs hc h1 ih
  | tp cs vs us hs hc _ ih => exact .tp cs vs us hs hc ih

section
variable {P : Program} {f : FuncId} {args : List AV}

/-- The end of a function that changes own blocks: what it makes itself is forgotten, or frozen where the result shows it. -/
theorem HC.shut {h0 : AH} {n : Nat} {R : K3} {v' : AV} {L' : List (Nat × Option ABlk)} {F : Prop} (hc : HC P f args h0 n R)
    (hR : ∀ v h' n', R v h' n' → F ∧ (∀ (i : Nat) (B : ABlk), hl L' i = some B → h' i = some B ∧ i < n ∧ OnB (fun i => decide (i < n)) B) ∧ ∃ hN : AH, (∀ i B, hN i = some B → n ≤ i ∧ h' i = some B) ∧ Snap hN v v') : HC P f args h0 n (fun v h' n' => (v = v' ∧ h' = hl L' ∧ n' = n) ∧ F) := by
  refine ⟨hc.1, fun O μ w vs hr hs hv => (hc.2 O μ w vs hr hs hv).mono ?_⟩
  rintro e w' ⟨u, v, h', n', μ', rfl, q1, q2, q3, q4⟩
  obtain ⟨hF, g1, hN, g2, g3⟩ := hR v h' n' q1
  have hle := q4.le
  have hpn : ∀ id, decide (id < n) = true → muP (fun i => decide (i < n)) μ' id = μ' id ∧ id < n := fun id h => ⟨by unfold muP; rw [if_pos h], by simpa using h⟩
  have hav : ∀ b, Av O (muP (fun i => decide (i < n)) μ') b → Av O μ' b := fun b hb => by
    rcases hb with hb | ⟨id, k, hb⟩
    · exact .inl hb
    · exact .inr ⟨id, k, (muP_some hb).2⟩
  have hE : Evo w μ n w' (muP (fun i => decide (i < n)) μ') n := ⟨q4.os, q4.tape, q4.output, q4.size, Nat.le_refl _, q4.keep, q4.row, fun id hi => by
      rw [(hpn id (by simpa using hi)).1]; exact q4.ids id hi, fun id b k e hn => absurd (muP_some e).1 (by simpa using hn)⟩
  have hH : HR w' O (muP (fun i => decide (i < n)) μ') (hl L') n := by
    refine ⟨q2.olt, fun id b k e => ⟨by simpa using (muP_some e).1, (q2.scope id b k (muP_some e).2).2⟩, fun id id' b k k' e e' => q2.inj id id' b k k' (muP_some e).2 (muP_some e').2, fun id b k e => q2.notO id b k (muP_some e).2, fun id B hB => ?_⟩
    obtain ⟨h1, h2, h3⟩ := g1 id B hB
    exact (q2.blk id B h1).on h3 (hpn id (by simpa using h2)).1 hpn hav
  refine ⟨u, v', hl L', n, _, rfl, ⟨⟨rfl, rfl, rfl⟩, hF⟩, hH, ?_, hE⟩
  -- the result, frozen
  have hrN : HR w' (Av O (muP (fun i => decide (i < n)) μ')) (muP (fun i => !decide (i < n)) μ') hN n' := by
    refine ⟨fun b hb => ?_, fun id b k e => q2.scope id b k (muP_some e).2, fun id id' b k k' e e' => q2.inj id id' b k k' (muP_some e).2 (muP_some e').2, fun id b k e hO => ?_, fun id B hB => ?_⟩
    · rcases hb with hb | ⟨id, k, hb⟩
      · exact q2.olt b hb
      · exact (q2.scope id b k (muP_some hb).2).2
    · obtain ⟨e1, e2⟩ := muP_some e
      rcases hO with hO | ⟨id', k', hO⟩
      · exact q2.notO id b k e2 hO
      · obtain ⟨e3, e4⟩ := muP_some hO
        rw [q2.inj _ _ _ _ _ e2 e4] at e1
        rw [e3] at e1; cases e1
    · obtain ⟨h1, h2⟩ := g2 id B hB
      refine (q2.blk id B h2).mapV (by unfold muP; rw [if_pos (by simp; omega)]) fun hv => ?_
      exact hv.splitP _
  have hv1 : VR w' (Av O (muP (fun i => decide (i < n)) μ')) (muP (fun i => !decide (i < n)) μ') n' v u := q3.splitP _
  exact (g3.vr hrN hv1).lift fun b hb => hb

/-- The frame: a function that is given some own blocks leaves all others as they are. -/
theorem HC.frm {h hE hE' : AH} {n : Nat} {v : AV} {K : K3} (I : List Nat) (hi : ∀ i B, hE i = some B → I.contains i = true ∧ h i = some B) (hI : ∀ i, I.contains i = true → i < n)
    (hv : On (fun i => I.contains i) v) (hb : ∀ i B, hE' i = some B → I.contains i = true ∧ OnB (fun i => I.contains i) B) {F : Prop} (hc : HC P f args hE n (fun a h' n' => (a = v ∧ h' = hE' ∧ n' = n) ∧ F)) (hk : F → K v (fun i => if I.contains i then hE' i else h i) n) : HC P f args h n K := by
  refine ⟨hc.1, fun O μ w vs hr hsz hva => ?_⟩
  have hrI : HR w (Av O (muO I μ)) (muI I μ) hE n := by
    refine ⟨fun b hb => ?_, fun id b k e => hr.scope id b k (muI_some e).2, fun id id' b k k' e e' => hr.inj id id' b k k' (muI_some e).2 (muI_some e').2, fun id b k e hO => ?_, fun id B hB => ?_⟩
    · rcases hb with hb | ⟨id, k, hb⟩
      · exact hr.olt b hb
      · exact (hr.scope id b k (muO_some hb).2).2
    · obtain ⟨e1, e2⟩ := muI_some e
      rcases hO with hO | ⟨id', k', hO⟩
      · exact hr.notO id b k e2 hO
      · obtain ⟨e3, e4⟩ := muO_some hO
        rw [hr.inj _ _ _ _ _ e2 e4] at e1
        rw [e1] at e3; cases e3
    · obtain ⟨h1, h2⟩ := hi id B hB
      exact (hr.blk id B h2).mapV (by simp only [muI]; rw [if_pos h1]) fun hv => hv.split I
  refine (hc.2 (Av O (muO I μ)) (muI I μ) w vs hrI hsz (fun j c hj => ?_)).mono ?_
  · obtain ⟨u, h1, h2⟩ := hva j c hj
    exact ⟨u, h1, h2.split I⟩
  rintro e w' ⟨u, v0, h', n', μ', rfl, ⟨⟨rfl, rfl, hnn⟩, hF⟩, q2, q3, q4⟩
  replace hk := hk hF
  obtain rfl : n = n' := hnn.symm
  have hm : ∀ id, I.contains id = true → (fun i => if I.contains i then μ' i else μ i) id = μ' id := fun id h => by simp only [h, if_true]
  have hm0 : ∀ id, I.contains id = false → (fun i => if I.contains i then μ' i else μ i) id = μ id := fun id h => by simp only [h, Bool.false_eq_true, if_false]
  have hin : ∀ id b k, μ' id = some (b, k) → I.contains id = true → μ id = some (b, k) := fun id b k e hI' => by
    rcases q4.ids id (hI id hI') with e1 | e1
    · rw [e1] at e; exact (muI_some e).2
    · rw [e1] at e; cases e
  have hout : ∀ id b k, μ id = some (b, k) → I.contains id = false → Av O (muO I μ) b := fun id b k e hI' => .inr ⟨id, k, by unfold muO; rw [if_neg (by rw [hI']; decide)]; exact e⟩
  have hav : ∀ b, Av O (fun i => if I.contains i then μ' i else μ i) b → Av (Av O (muO I μ)) μ' b := fun b hb => by
    rcases hb with hb | ⟨id, k, hb⟩
    · exact .inl (.inl hb)
    · rcases Bool.eq_false_or_eq_true (I.contains id) with hI' | hI'
      · exact .inr ⟨id, k, (hm id hI') ▸ hb⟩
      · exact .inl (hout id b k ((hm0 id hI') ▸ hb) hI')
  have hE2 : Evo w μ n w' (fun i => if I.contains i then μ' i else μ i) n := by
    refine ⟨q4.os, q4.tape, q4.output, q4.size, Nat.le_refl _, fun b hb hn => q4.keep b hb fun id k e => hn id k (muI_some e).2, q4.row, fun id hid => ?_, fun id b k e hn => ?_⟩
    · rcases Bool.eq_false_or_eq_true (I.contains id) with hI' | hI'
      ·
        have e0 := hm id hI'
        simp only at e0
        rw [e0]
        rcases q4.ids id hid with e1 | e1
        · rw [e1]; left; unfold muI; rw [if_pos hI']
        · exact .inr e1
      · exact .inl (hm0 id hI')
    · rcases Bool.eq_false_or_eq_true (I.contains id) with hI' | hI'
      · exact absurd (hI id hI') (by omega)
      · exact absurd (hr.scope id b k ((hm0 id hI') ▸ e)).1 (by omega)
  have hH2 : HR w' O (fun i => if I.contains i then μ' i else μ i) (fun i => if I.contains i then h' i else h i) n := by
    refine ⟨fun b hb => Nat.lt_of_lt_of_le (hr.olt b hb) q4.size, fun id b k e => ?_, fun id id' b k k' e e' => ?_, fun id b k e => ?_, fun id B hB => ?_⟩
    · rcases Bool.eq_false_or_eq_true (I.contains id) with hI' | hI'
      · exact q2.scope id b k ((hm id hI') ▸ e)
      ·
        have := hr.scope id b k ((hm0 id hI') ▸ e)
        exact ⟨this.1, Nat.lt_of_lt_of_le this.2 q4.size⟩
    · rcases Bool.eq_false_or_eq_true (I.contains id) with hI1 | hI1
      ·
        have e1 : μ' id = some (b, k) := (hm id hI1) ▸ e
        rcases Bool.eq_false_or_eq_true (I.contains id') with hI2 | hI2
        · exact q2.inj id id' b k k' e1 ((hm id' hI2) ▸ e')
        · exact absurd (hout id' b k' ((hm0 id' hI2) ▸ e') hI2) (q2.notO id b k e1)
      ·
        have e1 : μ id = some (b, k) := (hm0 id hI1) ▸ e
        rcases Bool.eq_false_or_eq_true (I.contains id') with hI2 | hI2
        · exact absurd (hout id b k e1 hI1) (q2.notO id' b k' ((hm id' hI2) ▸ e'))
        · exact hr.inj id id' b k k' e1 ((hm0 id' hI2) ▸ e')
    · rcases Bool.eq_false_or_eq_true (I.contains id) with hI' | hI'
      · exact fun hO => q2.notO id b k ((hm id hI') ▸ e) (.inl hO)
      · exact hr.notO id b k ((hm0 id hI') ▸ e)
    · rcases Bool.eq_false_or_eq_true (I.contains id) with hI' | hI'
      ·
        simp only [hI', if_true] at hB
        exact (q2.blk id B hB).on (hb id B hB).2 (hm id hI') (fun i h => ⟨hm i h, hI i h⟩) hav
      ·
        simp only [hI', Bool.false_eq_true, if_false] at hB
        refine (hr.blk id B hB).evo (hm0 id hI') (fun b k e => q4.keep b (hr.scope id b k e).2 fun id' k' e' => ?_) hE2
        obtain ⟨e1, e2⟩ := muI_some e'
        rw [hr.inj _ _ _ _ _ e e2] at hI'
        rw [e1] at hI'; cases hI'
  exact ⟨u, _, _, _, _, rfl, hk, hH2, q3.on hv (fun i h => ⟨hm i h, hI i h⟩) hav, hE2⟩

/-- what is to hold at the end of such a function -/
def Shut (n : Nat) (v' : AV) (L' : List (Nat × Option ABlk)) (F : Prop) : K3 := fun v h' n' =>
  F ∧ (∀ (i : Nat) (B : ABlk), hl L' i = some B → h' i = some B ∧ i < n ∧ OnB (fun i => decide (i < n)) B) ∧ ∃ hN : AH, (∀ i B, hN i = some B → n ≤ i ∧ h' i = some B) ∧ Snap hN v v'

theorem HC.of_bodyM {fn : Func} {c : Code} {L0 : List (Nat × Option ABlk)} {n : Nat} {v' : AV} {L' : List (Nat × Option ABlk)} {F : Prop} (env : Env) (hf : P.funcs[f]? = some fn) (hb : fn.body = some c) (hname : (fn.name == "runtime.NumGoroutine") = false) (hargs : args.length ≤ fn.ntmps) (he : enterEnv args = env)
    (hsat : ∀ O, SatL P fn.ntmps [] O [c] (fnQ P fn.results.toList (Shut n v' L' F)) ⟨env, hl L0, n⟩) : HC P f args (hl L0) n (fun v h' n' => (v = v' ∧ h' = hl L' ∧ n' = n) ∧ F) :=
  (HC.of_body hf hb hname hargs fun O => by rw [he]; exact Sat.ofL (hsat O)).shut fun _ _ _ h => h

theorem fnQ_shut {env : Env} {m : Nat} {rs : List ResultVar} {n : Nat} {v' : AV} {L' : List (Nat × Option ABlk)} {F : Prop} (L : List (Nat × Option ABlk)) (v : AV) (hv : aresults P (hl L) env rs = some v) (h1 : ∀ (i : Nat) (B : ABlk), hl L' i = some B → hl L i = some B ∧ i < n ∧ OnB (fun i => decide (i < n)) B) (hN : AH) (h2 : ∀ i B, hN i = some B → n ≤ i ∧ hl L i = some B) (h3 : Snap hN v v') (hF : F) : fnQ P rs (Shut n v' L' F) .ret ⟨env, hl L, m⟩ :=
  ⟨v, hv, hF, h1, hN, h2, h3⟩
theorem fnQ_shutN {env : Env} {m : Nat} {rs : List ResultVar} {n : Nat} {v' : AV} {L' : List (Nat × Option ABlk)} {F : Prop} (L : List (Nat × Option ABlk)) (v : AV) (hv : aresults P (hl L) env rs = some v) (h1 : ∀ (i : Nat) (B : ABlk), hl L' i = some B → hl L i = some B ∧ i < n ∧ OnB (fun i => decide (i < n)) B) (hN : AH) (h2 : ∀ i B, hN i = some B → n ≤ i ∧ hl L i = some B) (h3 : Snap hN v v') (hF : F) : fnQ P rs (Shut n v' L' F) .normal ⟨env, hl L, m⟩ :=
  ⟨v, hv, hF, h1, hN, h2, h3⟩

def OnO (p : Nat → Bool) (B : Option ABlk) : Prop := ∀ B', B = some B' → OnB p B'
def OnC (p : Nat → Bool) (cs : List AV) : Prop := ∀ a ∈ cs, On p a
theorem OnC.nil {p : Nat → Bool} : OnC p [] := fun _ h => by cases h
theorem OnC.cons {p : Nat → Bool} {a : AV} {l : List AV} (h : On p a) (hl : OnC p l) : OnC p (a :: l) := fun x hx => by
  rcases List.mem_cons.1 hx with rfl | hx
  · exact h
  · exact hl x hx
theorem OnC.at {p : Nat → Bool} {l : List AV} (h : OnC p l) (j : Nat) (c : AV) (hj : l[j]? = some c) : On p c := h c (List.mem_of_getElem? hj)
theorem On.agl {p : Nat → Bool} {l : List AV} (h : OnC p l) : On p (.ag l) := .ag l h.at
theorem On.tpl {p : Nat → Bool} {l : List AV} (h : OnC p l) : On p (.tp l) := .tp l h.at
theorem On.fnl {p : Nat → Bool} {f : FuncId} {l : List AV} (h : OnC p l) : On p (.fn f l) := .fn f l h.at
theorem On.gsv {p : Nat → Bool} {id len : Nat} (h : p id = true) : On p (gsv id len) := by
  cases len with
  | zero => exact .free _ (.sc _)
  | succ m => exact .ms _ _ _ h
theorem ono_typed {α : Type} {p : Nat → Bool} {k : Nat} {T : TypeId} {l : List α} {f : α → List AV} (hf : ∀ y, FreeL (f y)) : OnO p (some (.cells k T (l.map f))) := fun B' h => by
  cases h
  intro e he a ha
  obtain ⟨y, _, rfl⟩ := List.mem_map.1 he
  exact .free a (hf y a ha)
theorem ono_gsb {α : Type} {p : Nat → Bool} {k : Nat} {T : TypeId} {l : List α} {f : α → List AV} (hf : ∀ y, FreeL (f y)) : OnO p (gsb k T (l.map f)) := fun B' h => by
  cases l with
  | nil => cases h
  | cons x l => exact ono_typed (T := T) (k := k) (l := x :: l) hf B' h
theorem ono_s {p : Nat → Bool} {k : Nat} {T : TypeId} {cs : List AV} (h : OnC p cs) : OnO p (some (.cells k T [cs])) := fun B' hb => by
  cases hb
  intro e he a ha
  rw [List.mem_singleton] at he; subst he
  exact h a ha
theorem ono_a {p : Nat → Bool} {k : Nat} {T : TypeId} {l : List Int} : OnO p (some (.cells k T [l.map int])) := ono_s fun a ha => by
  obtain ⟨y, _, rfl⟩ := List.mem_map.1 ha; exact .free _ (.sc _)
theorem ono_none {p : Nat → Bool} : OnO p none := fun _ h => by cases h
theorem ono_mp {κ β : Type} {p : Nat → Bool} {l : List (κ × β)} {kf : κ → Value} {vf : β → AV} (hf : ∀ y, Free (vf y)) : OnO p (some (.map (l.map (kvE kf vf)))) := fun B' hb => by
  cases hb
  intro x hx
  obtain ⟨y, _, rfl⟩ := List.mem_map.1 hx
  exact .free _ (hf _)

/-- the blocks of a list, each in the heap -/
theorem sh_nil {n : Nat} {h' : AH} : ∀ (i : Nat) (B : ABlk), hl [] i = some B → h' i = some B ∧ i < n ∧ OnB (fun i => decide (i < n)) B := fun i B h => by simp [hl] at h
theorem sh_cons {n : Nat} {h' : AH} {i : Nat} {A : Option ABlk} {L : List (Nat × Option ABlk)} (h1 : h' i = A) (h2 : i < n) (h3 : OnO (fun i => decide (i < n)) A) (h4 : ∀ (i : Nat) (B : ABlk), hl L i = some B → h' i = some B ∧ i < n ∧ OnB (fun i => decide (i < n)) B) : ∀ (j : Nat) (B : ABlk), hl ((i, A) :: L) j = some B → h' j = some B ∧ j < n ∧ OnB (fun i => decide (i < n)) B := fun j B hj => by
  simp only [hl] at hj
  split at hj
  · rename_i e; subst e; exact ⟨h1.trans hj, h2, h3 B hj⟩
  · exact h4 j B hj
theorem hn_nil {n : Nat} {h' : AH} : ∀ (i : Nat) (B : ABlk), hl [] i = some B → n ≤ i ∧ h' i = some B := fun i B h => by simp [hl] at h
theorem hn_cons {n : Nat} {h' : AH} {i : Nat} {A : Option ABlk} {L : List (Nat × Option ABlk)} (h2 : n ≤ i) (h1 : h' i = A) (h4 : ∀ (i : Nat) (B : ABlk), hl L i = some B → n ≤ i ∧ h' i = some B) : ∀ (j : Nat) (B : ABlk), hl ((i, A) :: L) j = some B → n ≤ j ∧ h' j = some B := fun j B hj => by
  simp only [hl] at hj
  split at hj
  · rename_i e; subst e; exact ⟨h2, h1.trans hj⟩
  · exact h4 j B hj

inductive Rest (I : List Nat) : List (Nat × Option ABlk) → List (Nat × Option ABlk) → Prop
  | nil : Rest I [] []
  | keep {i : Nat} {B : Option ABlk} {L Lr : List (Nat × Option ABlk)} (h : I.contains i = false) (hr : Rest I L Lr) : Rest I ((i, B) :: L) ((i, B) :: Lr)
  | drop {i : Nat} {B : Option ABlk} {L Lr : List (Nat × Option ABlk)} (h : I.contains i = true) (hr : Rest I L Lr) : Rest I ((i, B) :: L) Lr
theorem Rest.hl {I : List Nat} {L Lr : List (Nat × Option ABlk)} (h : Rest I L Lr) (j : Nat) : (I.contains j = false → hl Lr j = hl L j) ∧ (I.contains j = true → hl Lr j = none) := by
  induction h with
  | nil => exact ⟨fun _ => rfl, fun _ => rfl⟩
  | keep h hr ih =>
    rename_i i B L Lr
    refine ⟨fun e => ?_, fun e => ?_⟩
    · simp only [Abs.hl]; rw [ih.1 e]
    · simp only [Abs.hl]
      rw [if_neg (by rintro rfl; rw [e] at h; cases h)]
      exact ih.2 e
  | drop h hr ih =>
    rename_i i B L Lr
    refine ⟨fun e => ?_, fun e => ih.2 e⟩
    simp only [Abs.hl]
    rw [if_neg (by rintro rfl; rw [e] at h; cases h)]
    exact ih.1 e
/-- blocks of such numbers -/
inductive OnL (I : List Nat) : List (Nat × Option ABlk) → Prop
  | nil : OnL I []
  | cons {i : Nat} {B : Option ABlk} {L : List (Nat × Option ABlk)} (h : I.contains i = true) (hB : OnO (fun i => I.contains i) B) (hl : OnL I L) : OnL I ((i, B) :: L)
theorem OnL.spec {I : List Nat} {L : List (Nat × Option ABlk)} (h : OnL I L) : ∀ i B, hl L i = some B → I.contains i = true ∧ OnB (fun i => I.contains i) B := by
  induction h with
  | nil => intro i B h; simp [hl] at h
  | cons h hB _ ih =>
    intro j B hj
    simp only [hl] at hj
    split at hj
    · rename_i e; subst e; exact ⟨h, hB B hj⟩
    · exact ih j B hj
theorem mrg {I : List Nat} {L' L Lr : List (Nat × Option ABlk)} (hO : OnL I L') (hr : Rest I L Lr) : (fun i => if I.contains i then hl L' i else hl L i) = hl (L' ++ Lr) := by
  funext j
  induction hO with
  | nil =>
    simp only [List.nil_append]
    split
    · rename_i h; rw [(hr.hl j).2 h]; rfl
    · rename_i h; rw [(hr.hl j).1 (by simpa using h)]
  | cons h hB _ ih =>
    rename_i i B L0 _
    simp only [List.cons_append, hl]
    by_cases e : j = i
    · rw [if_pos e, if_pos e, if_pos (by rw [e]; exact h)]
    · rw [if_neg e, if_neg e]; exact ih

theorem HC.mut {L LE L' Lr L2 : List (Nat × Option ABlk)} {n : Nat} {v : AV} {K : K3} (I : List Nat) (hi : ∀ i B, hl LE i = some B → I.contains i = true ∧ hl L i = some B) (hI : ∀ i ∈ I, i < n)
    (hv : On (fun i => I.contains i) v) (hb : OnL I L') {F : Prop} (hc : HC P f args (hl LE) n (fun a h' n' => (a = v ∧ h' = hl L' ∧ n' = n) ∧ F)) (hr : Rest I L Lr) (h2 : L' ++ Lr = L2) (hk : F → K v (hl L2) n) : HC P f args (hl L) n K := by
  refine HC.frm I hi (fun i h => hI i (by simpa using h)) hv hb.spec hc ?_
  intro hF
  rw [mrg hb hr, h2]; exact hk hF
end
end Go.Abs

/- Structs that are compared. -/
set_option linter.unusedSimpArgs false
set_option linter.unusedVariables false
namespace Go.Abs
open Go Go.RowKit

/-- a value of a type out of its cells -/
def voC (P : Program) (t : TypeId) (xs : List Value) : Value :=
  match aggO P t with
  | some true => .agg xs.toArray
  | _ => xs.headD undef

/-- the fields, compared -/
def eqVF (P : Program) (rec_ : TypeId → List Value → List Value → Option Bool) : List Field → List Value → List Value → Option Bool
  | [], _, _ => some true
  | f :: fs, xs, ys => if f.name = "_" ∨ xs.length < f.offset + P.cellsOf f.type ∨ ys.length < f.offset + P.cellsOf f.type then none else
    match aggO P f.type with
    | none => none
    | some ag => if ag = false ∧ P.cellsOf f.type ≠ 1 then none else
      match rec_ f.type ((xs.drop f.offset).take (P.cellsOf f.type)) ((ys.drop f.offset).take (P.cellsOf f.type)), eqVF P rec_ fs xs ys with
      | some r, some s => some (r && s)
      | _, _ => none
/-- the comparison of cells -/
def eqV (P : Program) : Nat → TypeId → List Value → List Value → Option Bool
  | 0, _, _, _ => none
  | d + 1, t, xs, ys => match P.underlying t, xs, ys with
    | some .bool, [.bool a], [.bool b] => some (a == b)
    | some (.int _), [.int k a], [.int k' b] => if k = k' then some (a == b) else none
    | some .string, [.string a], [.string b] => some (a.toList == b.toList)
    | some (.struct fs), xs, ys => if P.stoodInHeld t then none else eqVF P (eqV P d) fs.toList xs ys
    | _, _, _ => none

theorem part_run {P : Program} {w : World} {e : TypeId} {X : Array Value} {o : Nat} {ag : Bool} (ha : aggO P e = some ag) (hl : o + P.cellsOf e ≤ X.size) (h1 : ag = false → P.cellsOf e = 1) : (part e X o).run P w = .ok (voC P e ((X.toList.drop o).take (P.cellsOf e))) w := by
  obtain ⟨i, hi⟩ := aggO_info ha
  cases ag with
  | true =>
    simp only [part, Sem.run_bind, run_isAgg ha, Result.andThen_ok, if_true, run_sizeOf hi, Sem.run_pure, voC, ha]
    congr 1
    congr 1
    apply Array.ext'
    rw [Array.toList_extract]; simp [List.extract]
  | false =>
    have hs := h1 rfl
    have ho : o < X.size := by omega
    simp only [part, Sem.run_bind, run_isAgg ha, Result.andThen_ok, Bool.false_eq_true, if_false, voC, ha, hs]
    have : X[o]? = some X[o] := Array.getElem?_eq_getElem ho
    have h2 : (X.toList.drop o).take 1 = [X[o]] := by
      rw [List.drop_eq_getElem_cons (by simpa using ho)]; simp
    rw [h2]
    simp [this]

theorem eqV_eqVF (P : Program) : ∀ (d : Nat), (∀ t xs ys r, eqV P d t xs ys = some r → ∀ D w, (Op.equalIn (D + d) t (voC P t xs) (voC P t ys)).run P w = .ok r w) ∧
    (∀ fs (X Y : Array Value) r, eqVF P (eqV P d) fs X.toList Y.toList = some r → ∀ D w, (Op.eqFields (D + d) X Y fs).run P w = .ok r w)
  | 0 => by
    refine ⟨fun t xs ys r h => by simp [eqV] at h, fun fs X Y r h D w => ?_⟩
    cases fs with
    | nil => simp [eqVF] at h; subst h; simp [Op.eqFields]
    | cons f fs =>
      unfold eqVF at h
      split at h
      · cases h
      · split at h
        · cases h
        · split at h
          · cases h
          · simp [eqV] at h
  | d + 1 => by
    obtain ⟨ih1, ih2⟩ := eqV_eqVF P d
    have first : ∀ t xs ys r, eqV P (d + 1) t xs ys = some r → ∀ D w, (Op.equalIn (D + (d + 1)) t (voC P t xs) (voC P t ys)).run P w = .ok r w := by
      intro t xs ys r h D w
      unfold eqV at h
      split at h
      · rename_i a b hu
        cases h
        have hag : aggO P t = some false := by simp [aggO, hu]
        simp only [voC, hag, List.headD_cons]
        exact run_equalIn_bool w (D + d) t a b hu
      · rename_i k0 k a k' b hu
        split at h
        · rename_i hk; subst hk; cases h
          have hag : aggO P t = some false := by simp [aggO, hu]
          simp only [voC, hag, List.headD_cons]
          exact run_equalIn_int w (D + d) t k k0 a b hu
        · cases h
      · rename_i a b hu
        cases h
        have hag : aggO P t = some false := by simp [aggO, hu]
        simp only [voC, hag, List.headD_cons]
        exact run_equalIn_string w (D + d) t a b hu
      · rename_i fs hu
        split at h
        · cases h
        · rename_i hp
          have hag : aggO P t = some true := by simp [aggO, hu]
          have hf : P.fieldsOf t = fs := by simp [Program.fieldsOf, hu]
          simp only [voC, hag]
          rw [show D + (d + 1) = (D + d) + 1 from rfl, run_equalIn_struct w (D + d) t _ _ (by rw [hf]; exact hu) (by simpa using hp), hf]
          exact ih2 fs.toList _ _ r (by simpa using h) D w
      · cases h
    refine ⟨first, ?_⟩
    intro fs
    induction fs with
    | nil => intro X Y r h D w; simp [eqVF] at h; subst h; simp [Op.eqFields]
    | cons f fs ihf =>
      intro X Y r h D w
      unfold eqVF at h
      split at h
      · cases h
      · rename_i hc
        split at h
        · cases h
        · rename_i ag hag
          split at h
          · cases h
          · rename_i h1
            split at h
            · rename_i r1 s1 e1 e2
              cases h
              have hn : f.name ≠ "_" := fun e => hc (.inl e)
              have hx : f.offset + P.cellsOf f.type ≤ X.size := by
                have := fun e => hc (.inr (.inl e)); simpa using this
              have hy : f.offset + P.cellsOf f.type ≤ Y.size := by
                have := fun e => hc (.inr (.inr e)); simpa using this
              have hag1 : ag = false → P.cellsOf f.type = 1 := fun e => by
                apply Classical.byContradiction; intro hne; exact h1 ⟨e, hne⟩
              have q1 := first _ _ _ _ e1 D w
              have q2 := ihf X Y s1 e2 D w
              simp only [Op.eqFields, hn, ne_eq, not_false_eq_true, if_true, Sem.run_bind, part_run hag hx hag1, part_run hag hy hag1, Result.andThen_ok, q1]
              cases r1
              · simp
              · simpa using q2
            · cases h

/-- cells that are numbers, bools and strings -/
def scV : List AV → Option (List Value)
  | [] => some []
  | .sc v :: l => (scV l).map (v :: ·)
  | _ => none
theorem scV_vr {w : World} {O : Nat → Prop} {μ : Mu} {n : Nat} : ∀ {cs : List AV} {vs : List Value} (us : List Value), scV cs = some vs → us.length = cs.length → (∀ (j : Nat) (c : AV), cs[j]? = some c → ∃ u, us[j]? = some u ∧ VR w O μ n c u) → us = vs
  | [], vs, us, h, hl, hv => by simp [scV] at h; subst h; exact List.eq_nil_of_length_eq_zero hl
  | c :: cs, vs, us, h, hl, hv => by
    cases c with
    | sc v =>
      simp only [scV, Option.map_eq_some_iff] at h
      obtain ⟨vs', h1, rfl⟩ := h
      cases us with
      | nil => simp at hl
      | cons u us =>
        obtain ⟨u', e, hu⟩ := hv 0 _ rfl
        simp at e; subst e
        rw [hu.sc_inv, scV_vr us h1 (by simpa using hl) fun j c hj => by simpa using hv (j + 1) c (by simpa using hj)]
    | _ => simp [scV] at h

theorem cmp_of {P : Program} {h : AH} {T : TypeId} {as bs : List AV} {xs ys : List Value} {d : Nat} {r r' : Bool} (hd : d ≤ Op.maxDepth) (hag : aggO P T = some true) (hg : P.eqGuardType P.depth T = false) (hx : scV as = some xs) (hy : scV bs = some ys) (he : eqV P d T xs ys = some r) (hr : r = r') :
    Cmp P h .eql T (.ag as) (.ag bs) r' ∧ Cmp P h .neq T (.ag as) (.ag bs) (!r') := by
  subst hr
  have key : ∀ (w : World) (O : Nat → Prop) (μ : Mu) (n : Nat) (u v : Value), VR w O μ n (.ag as) u → VR w O μ n (.ag bs) v → ∃ X Y : Array Value, u = .agg X ∧ v = .agg Y ∧ (Op.equal T (.agg X) (.agg Y)).run P w = .ok r w := by
    intro w O μ n u v hu hv
    obtain ⟨X, rfl, hX, hX2⟩ := hu.ag_cells
    obtain ⟨Y, rfl, hY, hY2⟩ := hv.ag_cells
    have eX := scV_vr X.toList hx (by simpa using hX) fun j c hj => by
      obtain ⟨_, y, h1, h2⟩ := hX2 j c hj; exact ⟨y, by simpa using h1, h2⟩
    have eY := scV_vr Y.toList hy (by simpa using hY) fun j c hj => by
      obtain ⟨_, y, h1, h2⟩ := hY2 j c hj; exact ⟨y, by simpa using h1, h2⟩
    subst eX; subst eY
    refine ⟨X, Y, rfl, rfl, ?_⟩
    have := (eqV_eqVF P d).1 T _ _ r he (Op.maxDepth - d) w
    rw [Nat.sub_add_cancel hd] at this
    have e : ∀ Z : Array Value, Z.toList.toArray = Z := fun Z => rfl
    simp only [voC, hag, e] at this
    exact this
  constructor
  all_goals
    intro w O μ n u v X Y hr hu hv
    obtain ⟨A, B, rfl, rfl, hq⟩ := key w O μ n u v hu hv
    simp [eqGuard, hg, binOp, hq]

section
variable {P : Program} {h : AH} {T : TypeId} {as bs : List AV} {b : Bool} {F : AV → Prop}
theorem b_steql (hc : Cmp P h .eql T (.ag as) (.ag bs) b ∧ Cmp P h .neq T (.ag as) (.ag bs) (!b)) (hk : F (.sc (.bool b))) : abin P h .eql T (.ag as) (.ag bs) F := ⟨b, hc.1, hk⟩
theorem b_stneq (hc : Cmp P h .eql T (.ag as) (.ag bs) b ∧ Cmp P h .neq T (.ag as) (.ag bs) (!b)) (hk : F (.sc (.bool (!b)))) : abin P h .neq T (.ag as) (.ag bs) F := ⟨!b, hc.2, hk⟩
end
end Go.Abs

/- The typed machine, first part: types, the algebra of results, values and states. -/
set_option linter.unusedSimpArgs false
set_option linter.unusedVariables false
namespace Go.Abs
open Go Go.RowKit


inductive Ty where
  | i (k : IntKind) | b | s | un | nt
  | pr (x y : Ty) | w (x : Ty) | sl (x : Ty) | pt (x : Ty) | op (x : Ty) | ar (n : Nat) (x : Ty) | sm (x y : Ty) | fn (n : Nat) (x y : Ty)
  deriving DecidableEq

structure Arr (n : Nat) (α : Type) where
  l : List α
  h : l.length = n

@[reducible] def Ty.den : Ty → Type
  | .i _ => Int
  | .b => Bool
  | .s => List UInt8
  | .un => Unit
  | .nt => Nat
  | .pr x y => x.den × y.den
  | .w x => x.den
  | .sl x => List x.den
  | .pt x => x.den
  | .op x => Option x.den
  | .ar n x => Arr n x.den
  | .sm x y => x.den ⊕ y.den
  | .fn _ x y => x.den → Option y.den

/-- cells -/
def Ty.wd : Ty → Nat
  | .i _ | .b | .s | .sl _ | .pt _ | .op _ => 1
  | .pr x y => x.wd + y.wd
  | .w x => x.wd
  | .ar n x => n * x.wd
  | _ => 0
/-- a struct or an array -/
def Ty.agg : Ty → Bool
  | .pr _ _ | .w _ | .ar _ _ | .un => true
  | _ => false
/-- may it stand in cells? -/
def Ty.dat : Ty → Bool
  | .i _ | .b | .s | .un => true
  | .sl x | .pt x | .op x | .w x | .ar _ x => x.dat
  | .pr x y => x.dat && y.dat
  | _ => false
/-- numbers and the like alone -/
def Ty.flat : Ty → Bool
  | .i _ | .b | .s | .un => true
  | .w x => x.flat
  | .pr x y => x.flat && y.flat
  | _ => false

def Ty.enc : (t : Ty) → t.den → List AV
  | .i k, x => [.sc (.int k x)]
  | .b, x => [.sc (.bool x)]
  | .s, x => [str x]
  | .un, _ => []
  | .pr t u, x => t.enc x.1 ++ u.enc x.2
  | .w a, x => a.enc x
  | .sl a, l => [.sl (l.map a.enc)]
  | .pt a, x => [.fp (a.enc x)]
  | .op a, x => [ptrE a.enc x]
  | .ar _ a, x => (x.l.map a.enc).flatten
  | .nt, _ => [] | .sm _ _, _ => [] | .fn _ _ _, _ => []
def Ty.av (t : Ty) (x : t.den) : AV := if t.agg then .ag (t.enc x) else (t.enc x).headD .un

/-- the parts of a tuple type -/
def untup : Nat → Ty → List Ty
  | 0, _ => []
  | 1, t => [t]
  | n + 2, .pr a b => a :: untup (n + 1) b
  | _ + 2, t => [t]
/-- a tuple of types -/
def tup : List Ty → Ty
  | [] => .un
  | [t] => t
  | t :: ts => .pr t (tup ts)

/-! patterns: states without what they hold -/
inductive PV where
  | un | ud
  | c (t : Ty)
  | sc (v : Value)
  | ptr (id j : Nat)
  | mw (id : Nat) | mp (id : Nat) | fw (id : Nat)
  | fn (g : FuncId) (caps : List PV)
  | ag (vs : List PV)
inductive PB where
  | bx (T : TypeId) (vs : List PV)
  | el (T : TypeId) (t : Ty)
  | sl (T : TypeId) (t : Ty)
  | mp (k v : Ty)
  | fm (T : TypeId) (t : Ty) (j : Nat) (U : TypeId) (u : Ty)

/-! ways in which a program may be told: by its results (sem), by a text (in the generator) -/
structure Alg where
  D : Ty → Type
  Ans : Ty → Type
  k0 : {x : Ty} → String → x.den → D x
  k1 : {x y : Ty} → String → (x.den → y.den) → D x → D y
  k2 : {x y z : Ty} → String → (x.den → y.den → z.den) → D x → D y → D z
  k3 : {x y z u : Ty} → String → (x.den → y.den → z.den → u.den) → D x → D y → D z → D u
  ret : {t : Ty} → D t → Ans t
  fail : {t : Ty} → String → Ans t
  ask : {t : Ty} → Nat → List (Nat × PV) → List (Nat × PB) → Ans t
  note : {t : Ty} → String → Ans t → Ans t
  ite : {t : Ty} → D .b → Ans t → Ans t → Ans t
  p1 : {x y t : Ty} → String → (x.den → Option y.den) → D x → (D y → Ans t) → Ans t
  p2 : {x y z t : Ty} → String → (x.den → y.den → Option z.den) → D x → D y → (D z → Ans t) → Ans t
  p3 : {x y z u t : Ty} → String → (x.den → y.den → z.den → Option u.den) → D x → D y → D z → (D u → Ans t) → Ans t
  jn : {x t : Ty} → Ans x → (D x → Ans t) → Ans t
  lp : {x y t : Ty} → D x → (D x → Ans (.sm x y)) → (D y → Ans t) → Ans t
  cs : {x y t : Ty} → D (.sm x y) → (D x → Ans t) → (D y → Ans t) → Ans t
  lam : {n : Nat} → {x y : Ty} → (D x → Ans y) → D (.fn n x y)

/-- rounds until one says that it is the last -/
def itN {α β : Type} (F : α → Option (α ⊕ β)) : Nat → α → Option β
  | 0, _ => none
  | n + 1, x => match F x with
    | none => none
    | some (.inl y) => itN F n y
    | some (.inr z) => some z
def iter {α β : Type} (F : α → Option (α ⊕ β)) (x : α) : Option β := itN F 4611686018427387904 x

@[reducible] def sem : Alg where
  D := Ty.den
  Ans t := Option t.den
  k0 _ v := v
  k1 _ f a := f a
  k2 _ f a b := f a b
  k3 _ f a b c := f a b c
  ret v := some v
  fail _ := none
  ask _ _ _ := none
  note _ a := a
  ite c a b := if c = true then a else b
  p1 _ f a k := (f a).bind k
  p2 _ f a b k := (f a b).bind k
  p3 _ f a b c k := (f a b c).bind k
  jn a k := a.bind k
  lp x F k := (iter F x).bind k
  cs s f g := match s with | .inl a => f a | .inr b => g b
  lam f := f

/-! values and states -/
inductive TV (A : Alg) where
  | un | ud
  | c (t : Ty) (x : A.D t)
  | kb (b : Bool)
  | sc (v : Value)
  | ptr (id j : Nat)
  | adr (id : Nat) (i : A.D (.i .i64)) (j : Nat)
  | aa (id : Nat) (i : A.D (.i .i64))
  | fq (t : Ty) (x : A.D t) (off : Nat)
  | mw (id : Nat)
  | ms (id : Nat) (off len : A.D (.i .i64))
  | mp (id : Nat)
  | fw (id : Nat)
  | fr (id : Nat) (i : A.D (.i .i64))
  | fo (id : Nat) (i : A.D (.i .i64)) (j : Nat)
  | fa (id : Nat) (i k : A.D (.i .i64)) (o : Nat)
  | fn (g : FuncId) (caps : List (TV A))
  | cv (m : Nat) (x y : Ty) (F : A.D (.fn m x y))
  | tp (vs : List (TV A))
  | ag (vs : List (TV A))

inductive TB (A : Alg) where
  | bx (T : TypeId) (vs : List (TV A))
  | el (T : TypeId) (t : Ty) (x : A.D t)
  | sl (T : TypeId) (t : Ty) (l : A.D (.sl t))
  | mp (k v : Ty) (l : A.D (.sl (.pr k v)))
  | fm (T : TypeId) (t : Ty) (j : Nat) (U : TypeId) (u : Ty) (l : A.D (.sl t)) (ho : Option (A.D (.i .i64)))

structure Cx (A : Alg) where
  e0 : List (Nat × TV A)
  g : List (Nat × TB A)

structure TS (A : Alg) where
  env : List (Nat × TV A)
  hp : List (Nat × Option (TB A))
  n : Nat
  dy : Bool

def alk {α : Type} : List (Nat × α) → Nat → Option α
  | [], _ => none
  | (k, v) :: l, x => if x = k then some v else alk l x

def tlk {A : Alg} (c : Cx A) (s : TS A) (x : Nat) : TV A :=
  match alk s.env x with
  | some v => v
  | none => (alk c.e0 x).getD .un
def thp {A : Alg} (c : Cx A) (s : TS A) (id : Nat) : Option (TB A) :=
  match alk s.hp id with
  | some b => b
  | none => alk c.g id

structure Pat where
  env : List (Nat × PV)
  hp : List (Nat × PB)

mutual
def PV.tys : PV → List Ty
  | .c t => [t]
  | .fn _ caps => PV.tysL caps
  | .ag vs => PV.tysL vs
  | _ => []
def PV.tysL : List PV → List Ty
  | [] => []
  | v :: vs => v.tys ++ PV.tysL vs
end
def PB.tys : PB → List Ty
  | .bx _ vs => PV.tysL vs
  | .el _ t => [t]
  | .sl _ t => [.sl t]
  | .mp k v => [.sl (.pr k v)]
  | .fm _ t _ _ _ => [.sl t]
def Pat.tys (p : Pat) : List Ty := (p.env.map fun x => x.2.tys).flatten ++ (p.hp.map fun x => x.2.tys).flatten
def Pat.ty (p : Pat) : Ty := tup p.tys

end Go.Abs

/- The typed machine, second part: operations. -/
set_option linter.unusedSimpArgs false
set_option linter.unusedVariables false
namespace Go.Abs
open Go Go.RowKit

def stTy : List Ty → Ty
  | [] => .un
  | [t] => .w t
  | ts => tup ts
def tyF (P : Program) : Nat → TypeId → Option Ty
  | 0, _ => none
  | d + 1, T => match P.underlying T with
    | some .bool => some .b
    | some (.int k) => some (.i k)
    | some .string => some .s
    | some (.slice e) => (tyF P d e).map .sl
    | some (.pointer e) => (tyF P d e).map .op
    | some (.array n e) => (tyF P d e).map (.ar n)
    | some (.struct fs) => (fs.toList.mapM fun f => tyF P d f.type).map stTy
    | _ => none
def tyOf (P : Program) (T : TypeId) : Option Ty := tyF P 9 T
def isStrT (P : Program) (T : TypeId) : Bool := match P.underlying T with | some .string => true | _ => false
def isBoolT (P : Program) (T : TypeId) : Bool := match P.underlying T with | some .bool => true | _ => false
def isMapT (P : Program) (T : TypeId) : Bool := match P.underlying T with | some (.map _ _) => true | _ => false
theorem isStrT_eq {P : Program} {T : TypeId} (h : isStrT P T = true) : P.underlying T = some .string := by
  unfold isStrT at h; split at h
  · assumption
  · cases h
theorem isBoolT_eq {P : Program} {T : TypeId} (h : isBoolT P T = true) : P.underlying T = some .bool := by
  unfold isBoolT at h; split at h
  · assumption
  · cases h
theorem isMapT_eq {P : Program} {T : TypeId} (h : isMapT P T = true) : ∃ k v, P.underlying T = some (.map k v) := by
  unfold isMapT at h; split at h
  · exact ⟨_, _, by assumption⟩
  · cases h
/-- the types of the cells of a type -/
def leavesF (P : Program) : Nat → TypeId → Option (List TypeId)
  | 0, _ => none
  | d + 1, T => match P.underlying T with
    | some (.struct fs) => (fs.toList.mapM fun f => leavesF P d f.type).map List.flatten
    | some (.array n e) => (leavesF P d e).map fun l => (List.replicate n l).flatten
    | some _ => some [T]
    | none => none

/-- is a struct type laid out so that its comparison is that of its parts? -/
def eqOkL (P : Program) (rec_ : TypeId → Ty → Bool) : List Field → Nat → Ty → Bool
  | [], _, t => decide (t = .un)
  | [f], o, t => f.name != "_" && decide (f.offset = o) && decide (P.cellsOf f.type = t.wd) && decide (aggO P f.type = some t.agg) && rec_ f.type t
  | f :: g :: fs, o, t => match t with
    | .pr u v => f.name != "_" && decide (f.offset = o) && decide (P.cellsOf f.type = u.wd) && decide (aggO P f.type = some u.agg) && rec_ f.type u && eqOkL P rec_ (g :: fs) (o + u.wd) v
    | _ => false
def eqOkT (P : Program) : Nat → TypeId → Ty → Bool
  | 0, _, _ => false
  | d + 1, T, t => match P.underlying T with
    | some .bool => decide (t = .b)
    | some (.int k) => decide (t = .i k)
    | some .string => decide (t = .s)
    | some (.struct fs) => !P.stoodInHeld T && match fs.toList, t with
      | [f], .w u => eqOkL P (eqOkT P d) [f] 0 u
      | [_], _ => false
      | fs, t => eqOkL P (eqOkT P d) fs 0 t
    | _ => false

def kn : IntKind → String
  | .i64 => ".i64" | .i32 => ".i32" | .i16 => ".i16" | .i8 => ".i8" | .u64 => ".u64" | .u32 => ".u32" | .u16 => ".u16" | .u8 => ".u8" 
def wk (k : IntKind) (x : Int) : Int := match k with | .i64 => w64 x | k => k.wrap x
def wn (k : IntKind) : String := match k with | .i64 => "w64" | k => "IntKind.wrap " ++ kn k
def lenI {α : Type} (l : List α) : Int := l.length

def iop (op : BinOp) (k : IntKind) : Option (String × (Int → Int → Int)) :=
  match op with
  | .add => some ("" ++ wn k ++ "", fun a b => wk k (a + b))
  | .sub => some ("" ++ wn k ++ "", fun a b => wk k (a - b))
  | .mul => some ("" ++ wn k ++ "", fun a b => wk k (a * b))
  | .and => some ("" ++ kn k ++ "", fun a b => bitsI .and k a b)
  | .or => some ("" ++ kn k ++ "", fun a b => bitsI .or k a b)
  | .xor => some ("" ++ kn k ++ "", fun a b => bitsI .xor k a b)
  | .andNot => some ("" ++ kn k ++ "", fun a b => bitsI .andNot k a b)
  | _ => none
def icmp (op : BinOp) : Option (String × (Int → Int → Bool)) :=
  match op with
  | .eql => some ("", fun a b => a == b)
  | .neq => some ("", fun a b => a != b)
  | .lss => some ("", fun a b => decide (a < b))
  | .leq => some ("", fun a b => decide (a ≤ b))
  | .gtr => some ("", fun a b => decide (b < a))
  | .geq => some ("", fun a b => decide (b ≤ a))
  | _ => none
def gquo (k : IntKind) (a b : Int) : Option Int := if b = 0 then none else some (wk k (a.tdiv b))
def grem (a b : Int) : Option Int := if b = 0 then none else some (a.tmod b)
def gshl (k : IntKind) (a b : Int) : Option Int := if 0 ≤ b then some (wk k (a * 2 ^ (min b.toNat k.bits))) else none
def gshr (k : IntKind) (a b : Int) : Option Int := if 0 ≤ b then some (a.fdiv (2 ^ (min b.toNat k.bits))) else none
/-- partial ones -/
def ipop (op : BinOp) (k : IntKind) : Option (String × (Int → Int → Option Int)) :=
  match op with
  | .quo => some ("" ++ kn k ++ "", gquo k)
  | .rem => some ("", grem)
  | .shl => some ("" ++ kn k ++ "", gshl k)
  | .shr => some ("" ++ kn k ++ "", gshr k)
  | _ => none
def scmp (op : BinOp) : Option (String × (List UInt8 → List UInt8 → Bool)) :=
  match op with
  | .eql => some ("", fun a b => a == b)
  | .neq => some ("", fun a b => !(a == b))
  | .lss => some ("", fun a b => Op.bytesLess a b)
  | .leq => some ("", fun a b => Op.bytesLess a b || a == b)
  | .gtr => some ("", fun a b => !(Op.bytesLess a b || a == b))
  | .geq => some ("", fun a b => !(Op.bytesLess a b))
  | _ => none
def lset {α : Type} (l : List α) (i : Int) (x : α) : List α := l.set i.toNat x
/-- an index into a part of a list -/
def gmi (o n i : Int) : Option Int := if 0 ≤ i ∧ i < n then some (o + i) else none
def gmb (n a b : Int) : Option Unit := if 0 ≤ a ∧ a ≤ b ∧ b ≤ n then some () else none
/-- copy into a part of a list -/
def lcopy {α : Type} (l : List α) (o n : Int) (xs : List α) : List α := l.take o.toNat ++ xs.take (min xs.length n.toNat) ++ l.drop (o.toNat + min xs.length n.toNat)
def lcopy2 {α : Type} (l : List α) (p : Int × Int) (xs : List α) : List α := lcopy l p.1 p.2 xs
def gstr (l : List UInt8) (i : Int) : Option Int := (gi l i).map fun b => (b.toNat : Int)
def garr {n : Nat} {α : Type} (a : Arr n α) (i : Int) : Option α := gi a.l i
def aset {n : Nat} {α : Type} (a : Arr n α) (i : Int) (x : α) : Arr n α := ⟨a.l.set i.toNat x, by rw [List.length_set]; exact a.h⟩
def amk (n : Nat) {α : Type} (x : α) : Arr n α := ⟨List.replicate n x, List.length_replicate⟩
def gcat (a b : List UInt8) : Option (List UInt8) := if a.length + b.length ≤ 9223372036854775807 then some (a ++ b) else none

def isNilS : Value → Bool
  | .slice none 0 0 => true
  | _ => false
def isNilP : Value → Bool
  | .pointer none => true
  | _ => false
theorem isNilS_eq {v : Value} (h : isNilS v = true) : v = .slice none 0 0 := by
  unfold isNilS at h; split at h
  · rfl
  · cases h
theorem isNilP_eq {v : Value} (h : isNilP v = true) : v = .pointer none := by
  unfold isNilP at h; split at h
  · rfl
  · cases h

section
variable (A : Alg)

def toI (n : Int) (k : IntKind) : A.D (.i k) := A.k0 (if n < 0 then "" else "") n
def toB (b : Bool) : A.D .b := A.k0 (toString b) b
def toS (l : List UInt8) : A.D .s := A.k0 ("" ++ "".intercalate (l.map toString) ++ "") l
def tcast {A : Alg} {t' : Ty} (t : Ty) (x : A.D t') : Option (A.D t) := if h : t' = t then some (h ▸ x) else none
def mkT : (ts : List Ty) → List ((t : Ty) × A.D t) → Option (A.D (tup ts))
  | [], [] => some (A.k0 (x := .un) "" ())
  | [t], [v] => tcast t v.2
  | t :: u :: ts, v :: vs => (tcast t v.2).bind fun x => (mkT (u :: ts) vs).map fun y => A.k2 (x := t) (y := tup (u :: ts)) (z := .pr t (tup (u :: ts))) "" Prod.mk x y
  | _, _ => none
def unT : (ts : List Ty) → A.D (tup ts) → List ((t : Ty) × A.D t)
  | [], _ => []
  | [t], x => [⟨t, x⟩]
  | t :: u :: ts, x => ⟨t, A.k1 (x := .pr t (tup (u :: ts))) (y := t) "" Prod.fst x⟩ :: unT (u :: ts) (A.k1 (x := .pr t (tup (u :: ts))) (y := tup (u :: ts)) "" Prod.snd x)

def ofVal : Value → TV A
  | .int k n => .c (.i k) (toI A n k)
  | .bool b => .kb b
  | .string s => .c .s (toS A s.data.toList)
  | v => .sc v
def ofCst : Value → TV A
  | .agg cs => if cs.all (·.oneCell') then .ag (cs.toList.map (ofVal A)) else .un
  | .tuple _ => .un
  | v => ofVal A v

variable {A}
variable (P : Program) (c : Cx A)

def tev (s : TS A) : Operand → TV A
  | .tmp t => tlk c s t
  | .const v => ofCst A v
  | .global _ => .un
  | .func f => .fn f []

/-- cells of a value -/
def splitC : (t : Ty) → A.D t → List (TV A)
  | .pr a b, x => splitC a (A.k1 (x := .pr a b) (y := a) "" Prod.fst x) ++ splitC b (A.k1 (x := .pr a b) (y := b) "" Prod.snd x)
  | .w a, x => splitC a (A.k1 (x := .w a) (y := a) "" (fun v => v) x)
  | .un, _ => []
  | t, x => [.c t x]
/-- no arrays in it -/
def Ty.noAr : Ty → Bool
  | .pr t u => t.noAr && u.noAr
  | .w a => a.noAr
  | .ar _ _ => false
  | _ => true
def cellsT : TV A → Option (List (TV A))
  | .c t x => if t.noAr && t.dat then some (splitC t x) else none
  | .ag vs => some vs
  | .un | .ud | .tp _ => none
  | v => some [v]

/-- what a value holds, told by its type; with it the own blocks that were looked into -/
def snapL (s : TS A) : (t : Ty) → List (TV A) → Option (A.D t × List (TV A) × List Nat)
  | .pr a b, vs => (snapL s a vs).bind fun x => (snapL s b x.2.1).map fun y => (A.k2 (x := a) (y := b) (z := .pr a b) "" Prod.mk x.1 y.1, y.2.1, x.2.2 ++ y.2.2)
  | .w a, vs => (snapL s a vs).map fun x => (A.k1 (x := a) (y := .w a) "" (fun v => v) x.1, x.2)
  | .un, vs => some (A.k0 (x := .un) "" (), vs, [])
  | .i k, .c t x :: vs => (tcast (.i k) x).map fun x => (x, vs, [])
  | .b, .c t x :: vs => (tcast .b x).map fun x => (x, vs, [])
  | .b, .kb x :: vs => some (toB A x, vs, [])
  | .s, .c t x :: vs => (tcast .s x).map fun x => (x, vs, [])
  | .sl a, .c t x :: vs => (tcast (.sl a) x).map fun x => (x, vs, [])
  | .sl a, .sc v :: vs => if isNilS v then some (A.k0 (x := .sl a) "" [], vs, []) else none
  | .sl a, .mw id :: vs => match thp c s id with
    | some (.sl T t l) => (tcast (.sl a) l).map fun x => (x, vs, [id])
    | _ => none
  | .sl a, .ms id off len :: vs => match thp c s id with
    | some (.sl T t l) => (tcast (.sl a) l).map fun x => (A.k3 (x := .sl a) (y := .i .i64) (z := .i .i64) (u := .sl a) "" (fun l o n => (l.drop o.toNat).take n.toNat) x off len, vs, [id])
    | _ => none
  | .sl a, .fw id :: vs => match thp c s id with
    | some (.fm T t j U u l none) => (tcast (.sl a) l).map fun x => (x, vs, [id])
    | _ => none
  | .op a, .c t x :: vs => match tcast (.op a) x with
    | some x => some (x, vs, [])
    | none => (tcast (.pt a) x).map fun x => (A.k1 (x := .pt a) (y := .op a) "" some x, vs, [])
  | .op a, .sc v :: vs => if isNilP v then some (A.k0 (x := .op a) "none" none, vs, []) else none
  | .op a, .fq t x o :: vs => if o ≠ 0 then none else (tcast a x).map fun x => (A.k1 (x := a) (y := .op a) "" some x, vs, [])
  | .op a, .ptr id j :: vs => if j ≠ 0 then none else match thp c s id with
    | some (.bx T us) => match snapL s a us with
      | some (x, [], ids) => some (A.k1 (x := a) (y := .op a) "" some x, vs, id :: ids)
      | _ => none
    | some (.el T t x) => (tcast a x).map fun x => (A.k1 (x := a) (y := .op a) "" some x, vs, [id])
    | _ => none
  | .pt a, .c t x :: vs => (tcast (.pt a) x).map fun x => (x, vs, [])
  | .pt a, .fq t x o :: vs => if o ≠ 0 then none else (tcast a x).map fun x => (A.k1 (x := a) (y := .pt a) "" (fun v => v) x, vs, [])
  | .pt a, .ptr id j :: vs => if j ≠ 0 then none else match thp c s id with
    | some (.bx T us) => match snapL s a us with
      | some (x, [], ids) => some (A.k1 (x := a) (y := .pt a) "" (fun v => v) x, vs, id :: ids)
      | _ => none
    | some (.el T t x) => (tcast a x).map fun x => (A.k1 (x := a) (y := .pt a) "" (fun v => v) x, vs, [id])
    | _ => none
  | _, _ => none
def snapV (s : TS A) (t : Ty) (v : TV A) : Option (A.D t × List Nat) :=
  if t.dat = false then none else
  if t.agg then match v with
    | .c t' x => (tcast t x).map fun x => (x, [])
    | .ag vs => match snapL c s t vs with
      | some (x, [], ids) => some (x, ids)
      | _ => none
    | _ => none
  else match snapL c s t [v] with
    | some (x, [], ids) => some (x, ids)
    | _ => none
/-- own blocks that are frozen from now on -/
def retire (s : TS A) (ids : List Nat) : Option (TS A) :=
  if ids.all fun id => match alk s.hp id with | some (some _) => true | _ => false then some { s with hp := ids.map (fun id => (id, none)) ++ s.hp, dy := s.dy || !ids.isEmpty } else none

/-- the part of a value at an offset -/
def comp : (t : Ty) → A.D t → Nat → Nat → Bool → Option ((t : Ty) × A.D t)
  | .pr a b, x, o, m, ag => if o = 0 ∧ m = a.wd + b.wd ∧ ag = true then some ⟨.pr a b, x⟩ else
      if o + m ≤ a.wd then comp a (A.k1 (x := .pr a b) (y := a) "" Prod.fst x) o m ag else if a.wd ≤ o then comp b (A.k1 (x := .pr a b) (y := b) "" Prod.snd x) (o - a.wd) m ag else none
  | .w a, x, o, m, ag => if o = 0 ∧ m = a.wd ∧ ag = true then some ⟨.w a, x⟩ else comp a (A.k1 (x := .w a) (y := a) "" (fun v => v) x) o m ag
  | t, x, o, m, ag => if o = 0 ∧ m = t.wd ∧ ag = t.agg then some ⟨t, x⟩ else none
/-- a value with another part at an offset -/
def setC (val : (t : Ty) → Option (A.D t)) : (t : Ty) → A.D t → Nat → Nat → Bool → Option (A.D t)
  | .pr a b, x, o, m, ag => if o = 0 ∧ m = a.wd + b.wd ∧ ag = true then val (.pr a b) else
      if o + m ≤ a.wd then (setC val a (A.k1 (x := .pr a b) (y := a) "" Prod.fst x) o m ag).map fun y => A.k2 (x := a) (y := b) (z := .pr a b) "" Prod.mk y (A.k1 (x := .pr a b) (y := b) "" Prod.snd x)
      else if a.wd ≤ o then (setC val b (A.k1 (x := .pr a b) (y := b) "" Prod.snd x) (o - a.wd) m ag).map fun y => A.k2 (x := a) (y := b) (z := .pr a b) "" Prod.mk (A.k1 (x := .pr a b) (y := a) "" Prod.fst x) y else none
  | .w a, x, o, m, ag => if o = 0 ∧ m = a.wd ∧ ag = true then val (.w a) else (setC val a (A.k1 (x := .w a) (y := a) "" (fun v => v) x) o m ag).map fun y => A.k1 (x := a) (y := .w a) "" (fun v => v) y
  | t, x, o, m, ag => if o = 0 ∧ m = t.wd ∧ ag = t.agg then val t else none

/-- the contract of a function that changes blocks given to it: which arguments are plain (and of which type), how the others and the blocks look before and after; results are the slots from 1000000 on -/
structure CtrM where
  nm : String
  ks : List (Option Ty)
  inp : Pat
  n0 : Nat
  out : Pat
  n1 : Nat
  nr : Nat
  F : (tup (ks.filterMap id ++ inp.tys)).den → Option out.ty.den
/-- contracts -/
structure Ctr where
  nm : String
  as : List Ty
  rs : List Ty
  F : (tup as).den → Option (tup rs).den
  mus : List CtrM := []

/-- a function value, told by what it returns -/
def mkClo (A : Alg) (C : Ctr) (n : Nat) (x y : Ty) (caps : List ((t : Ty) × A.D t)) : Option (A.D (.fn n x y)) :=
  if hx : x = tup (C.as.take n) then if hy : C.rs = [y] then if (C.as.take n).all Ty.dat then
    some (A.lam fun v => match mkT A C.as (unT A (C.as.take n) (hx ▸ v) ++ caps) with
      | some a => A.p1 (x := tup C.as) (y := y) C.nm (fun v => ((hy ▸ C.F v : Option (tup [y]).den) : Option y.den)) a fun r => A.ret r
      | none => A.fail "mkClo")
  else none else none else none
def snapM (s : TS A) : List Ty → List (TV A) → Option (List ((t : Ty) × A.D t) × List Nat)
  | [], [] => some ([], [])
  | t :: ts, v :: vs => (snapV c s t v).bind fun x => (snapM s ts vs).map fun y => (⟨t, x.1⟩ :: y.1, x.2 ++ y.2)
  | _, _ => none
/-- the value of a function's argument -/
def snapA (Δ : List (FuncId × Ctr)) (s : TS A) (t : Ty) (v : TV A) : Option (A.D t × List Nat) :=
  match t with
  | .fn n x y => match v with
    | .cv n' x' y' F => (tcast (.fn n x y) F).map fun x => (x, [])
    | .fn g caps => (alk Δ g).bind fun C => if C.as.length = n + caps.length then (snapM c s (C.as.drop n) caps).bind fun l => (mkClo A C n x y l.1).map fun z => (z, l.2) else none
    | _ => none
  | t => snapV c s t v
def snapAs (Δ : List (FuncId × Ctr)) (s : TS A) : List Ty → List (TV A) → Option (List ((t : Ty) × A.D t) × List Nat)
  | [], [] => some ([], [])
  | t :: ts, v :: vs => (snapA c Δ s t v).bind fun x => (snapAs Δ s ts vs).map fun y => (⟨t, x.1⟩ :: y.1, x.2 ++ y.2)
  | _, _ => none

def toD : TV A → Option ((t : Ty) × A.D t)
  | .c t x => some ⟨t, x⟩
  | .kb b => some ⟨.b, toB A b⟩
  | _ => none
def getI : TV A → Option ((k : IntKind) × A.D (.i k))
  | .c (.i k) x => some ⟨k, x⟩
  | _ => none
def getI64 : TV A → Option (A.D (.i .i64))
  | .c (.i .i64) x => some x
  | _ => none
def getB : TV A → Option (A.D .b)
  | .c .b x => some x
  | .kb b => some (toB A b)
  | _ => none
/-- comparison of structs -/
def eqD : (t : Ty) → A.D t → A.D t → Option (A.D .b)
  | .i k, x, y => some (A.k2 (x := .i k) (y := .i k) (z := .b) "" (fun (a b : Int) => a == b) x y)
  | .b, x, y => some (A.k2 (x := .b) (y := .b) (z := .b) "" (fun (a b : Bool) => a == b) x y)
  | .s, x, y => some (A.k2 (x := .s) (y := .s) (z := .b) "" (fun (a b : List UInt8) => a == b) x y)
  | .w a, x, y => eqD a (A.k1 (x := .w a) (y := a) "" (fun v => v) x) (A.k1 (x := .w a) (y := a) "" (fun v => v) y)
  | .pr a b, x, y => (eqD a (A.k1 (x := .pr a b) (y := a) "" Prod.fst x) (A.k1 (x := .pr a b) (y := a) "" Prod.fst y)).bind fun p =>
      (eqD b (A.k1 (x := .pr a b) (y := b) "" Prod.snd x) (A.k1 (x := .pr a b) (y := b) "" Prod.snd y)).map fun q => A.k2 (x := .b) (y := .b) (z := .b) "" (fun a b => a && b) p q
  | _, _, _ => none

def TB.isF : TB A → Bool
  | .fm _ _ _ _ _ _ _ => true
  | _ => false
def isCellB : TB A → Bool
  | .mp _ _ _ => false
  | _ => true
variable {ρ : Ty}

/-- the results of a call -/
def tvR (rs : List Ty) (y : A.D (tup rs)) : TV A :=
  match rs with
  | [t] => .c t y
  | rs => .tp ((unT A rs y).map fun x => .c x.1 x.2)
/-- a fresh own slice -/
def newSl (s : TS A) (T : TypeId) (t : Ty) (l : A.D (.sl t)) (K : TV A → TS A → A.Ans ρ) : A.Ans ρ :=
  K (.mw s.n) { s with hp := (s.n, some (.sl T t l)) :: s.hp, n := s.n + 1 }
def nilV (s : TS A) (T : TypeId) (K : TV A → TS A → A.Ans ρ) : A.Ans ρ :=
  match elemO P T with
  | some e => match tyOf P e with
    | some t => newSl s e t (A.k0 (x := .sl t) "" []) K
    | none => K (.sc (.slice none 0 0)) s
  | none => K (.sc (.slice none 0 0)) s
def moveX (s : TS A) (T : TypeId) (v : TV A) (K : TV A → TS A → A.Ans ρ) : A.Ans ρ :=
  match v with
  | .sc u => if isNilS u then nilV P s T K else K (.sc u) s
  | v => K v s
/-- the cells of a zero value -/
def zeroC (s : TS A) : List AV → List TypeId → List (TV A) × TS A
  | .sc v :: vs, T :: Ts => if isNilS v then match elemO P T with
      | some e => match tyOf P e with
        | some t => let r := zeroC { s with hp := (s.n, some (.sl e t (A.k0 (x := .sl t) "" []))) :: s.hp, n := s.n + 1 } vs Ts; (.mw s.n :: r.1, r.2)
        | none => let r := zeroC s vs Ts; (ofVal A v :: r.1, r.2)
      | none => let r := zeroC s vs Ts; (ofVal A v :: r.1, r.2)
    else let r := zeroC s vs Ts; (ofVal A v :: r.1, r.2)
  | _, _ => ([], s)
def repO {α : Type} (f : α → Option α) : Nat → α → Option α
  | 0, x => some x
  | n + 1, x => (f x).bind (repO f n)
/-- are the first cells those of a zero value? what comes behind them -/
def isZ : Ty → List AV → Option (List AV)
  | .i k, .sc (.int k' m) :: r => if k = k' ∧ m = 0 then some r else none
  | .b, .sc (.bool b) :: r => if b then none else some r
  | .s, .sc (.string s) :: r => if s.data.toList.isEmpty then some r else none
  | .sl _, .sc v :: r => if isNilS v then some r else none
  | .op _, .sc v :: r => if isNilP v then some r else none
  | .un, r => some r
  | .w t, r => isZ t r
  | .pr t u, r => (isZ t r).bind (isZ u)
  | .ar n t, r => if t.dat then repO (isZ t) n r else none
  | _, _ => none
/-- the zero value of a type -/
def zeroD : (t : Ty) → Option (A.D t)
  | .i k => some (toI A 0 k)
  | .b => some (toB A false)
  | .s => some (toS A [])
  | .un => some (A.k0 (x := .un) "" ())
  | .sl a => some (A.k0 (x := .sl a) "" [])
  | .op a => some (A.k0 (x := .op a) "none" none)
  | .w a => (zeroD a).map fun x => A.k1 (x := a) (y := .w a) "" (fun v => v) x
  | .pr a b => (zeroD a).bind fun x => (zeroD b).map fun y => A.k2 (x := a) (y := b) (z := .pr a b) "" Prod.mk x y
  | .ar n a => (zeroD a).map fun x => A.k1 (x := a) (y := .ar n a) "" (fun v => amk n v) x
  | _ => none
def newBx (s : TS A) (B : TB A) (K : TV A → TS A → A.Ans ρ) : A.Ans ρ :=
  K (.ptr s.n 0) { s with hp := (s.n, some B) :: s.hp, n := s.n + 1 }
def allocX (s : TS A) (T : TypeId) (K : TV A → TS A → A.Ans ρ) : A.Ans ρ :=
  match zeroO P T, leavesF P 9 T with
  | some z, some Ts => if z.length = Ts.length then
      match tyOf P T with
      | some t => if t.noAr then let r := zeroC P s z Ts; newBx r.2 (.bx T r.1) K else match zeroD t with
        | some x => if (isZ t z).any List.isEmpty then newBx s (.el T t x) K else A.fail "alloc zero"
        | none => A.fail "alloc"
      | none => let r := zeroC P s z Ts; newBx r.2 (.bx T r.1) K
    else A.fail "alloc cells"
  | _, _ => A.fail "alloc type"
def boxX (s : TS A) (T : TypeId) (v : TV A) (K : TV A → TS A → A.Ans ρ) : A.Ans ρ :=
  match v with
  | .c t x => if t.noAr && t.dat then newBx s (.bx T (splitC t x)) K else newBx s (.el T t x) K
  | v => match cellsT v with
    | some vs => newBx s (.bx T vs) K
    | none => A.fail "box"
def partX (t : Ty) (x : A.D t) (o m : Nat) (ag : Bool) (K : TV A → A.Ans ρ) : A.Ans ρ :=
  match comp t x o m ag with
  | some y => K (.c y.1 y.2)
  | none => A.fail "part"
def loadX (s : TS A) (T : TypeId) (v : TV A) (K : TV A → TS A → A.Ans ρ) : A.Ans ρ :=
  match aggO P T with
  | none => A.fail "load type"
  | some ag =>
    let m := P.cellsOf T
    match v with
    | .ptr id j => match thp c s id with
      | some (.bx _ vs) => if ag then (if j + m ≤ vs.length then K (.ag ((vs.drop j).take m)) s else A.fail "load") else match vs[j]? with
        | some v => K v s
        | none => A.fail "load"
      | some (.el _ t x) => partX t x j m ag fun v => K v s
      | _ => A.fail "load block"
    | .adr id i j => match thp c s id with
      | some (.sl _ t l) => A.p2 (x := .sl t) (y := .i .i64) (z := t) "" (fun l i => gi l i) l i fun y => partX t y j m ag fun v => K v s
      | _ => A.fail "load block"
    | .aa id i => match thp c s id with
      | some (.el _ (.ar n t) x) => if t.wd ≠ 1 then A.fail "load array" else A.p2 (x := .ar n t) (y := .i .i64) (z := t) "" (fun l i => garr l i) x i fun y => partX t y 0 m ag fun v => K v s
      | _ => A.fail "load block"
    | .fq t x o => partX t x o m ag fun v => K v s
    | .c (.pt t) x => partX t (A.k1 (x := .pt t) (y := t) "" (fun v => v) x) 0 m ag fun v => K v s
    | _ => A.fail "load address"
/-- an own block that may be changed -/
def ownB (s : TS A) (id : Nat) : Option (TB A) :=
  match alk s.hp id with
  | some b => b
  | none => none
/-- a change of a block -/
def setB (s : TS A) (id : Nat) (B : TB A) (K : TV A → TS A → A.Ans ρ) : A.Ans ρ :=
  K .ud { s with hp := (id, some B) :: s.hp }
def storeX (s : TS A) (T : TypeId) (p v : TV A) (K : TV A → TS A → A.Ans ρ) : A.Ans ρ :=
  let m := P.cellsOf T
  match aggO P T with
  | none => A.fail "store type"
  | some ag =>
  if m = 0 then A.fail "store nothing" else
  match p with
  | .ptr id j => match ownB s id with
    | some (.bx T' vs) => match cellsT v with
      | some xs => if xs.length = m ∧ j + m ≤ vs.length then setB s id (.bx T' (vs.take j ++ xs ++ vs.drop (j + m))) K else A.fail "store cells"
      | none => A.fail "store value"
    | some (.el T' t x) => match setC (fun t => (snapV c s t v).bind fun y => if y.2.isEmpty then some y.1 else none) t x j m ag with
      | some y => setB s id (.el T' t y) K
      | none => A.fail "store el"
    | _ => A.fail ""
  | .adr id i j => match ownB s id with
    | some (.sl T' t l) =>
      if j = 0 ∧ m = t.wd ∧ ag = t.agg then
        match snapV c s t v with
        | some (y, ids) => match retire s ids with
          | some s' => if ids.contains id then A.fail "store own" else setB s' id (.sl T' t (A.k3 (x := .sl t) (y := .i .i64) (z := t) (u := .sl t) "" (fun l i y => lset l i y) l i y)) K
          | none => A.fail "store retire"
        | none => A.fail "store elem"
      else A.p2 (x := .sl t) (y := .i .i64) (z := t) "" (fun l i => gi l i) l i fun y =>
        match setC (fun t => (snapV c s t v).bind fun y => if y.2.isEmpty then some y.1 else none) t y j m ag with
        | some y => setB s id (.sl T' t (A.k3 (x := .sl t) (y := .i .i64) (z := t) (u := .sl t) "" (fun l i y => lset l i y) l i y)) K
        | none => A.fail "store part"
    | _ => A.fail ""
  | .aa id i => match ownB s id with
    | some (.el T' (.ar n t) x) => if t.wd ≠ 1 ∨ m ≠ 1 then A.fail "store array" else match snapV c s t v with
      | some (y, []) => setB s id (.el T' (.ar n t) (A.k3 (x := .ar n t) (y := .i .i64) (z := t) (u := .ar n t) "" (fun l i y => aset l i y) x i y)) K
      | _ => A.fail "store array"
    | _ => A.fail ""
  | _ => A.fail "store address"
def nilX (s : TS A) (v : TV A) (K : TV A → TS A → A.Ans ρ) : A.Ans ρ :=
  match v with
  | .ptr id j => if (thp c s id).any isCellB then K v s else A.fail "nilCheck block"
  | .fq _ _ _ | .c (.pt _) _ | .fn _ _ | .cv _ _ _ _ => K v s
  | .c (.op t) x => A.p1 (x := .op t) (y := t) "" (fun v => v) x fun y => K (.fq t y 0) s
  | _ => A.fail "nilCheck"
def binX (s : TS A) (op : BinOp) (T : TypeId) (x y : TV A) (K : TV A → TS A → A.Ans ρ) : A.Ans ρ :=
  match x, y with
  | .c (.i k) a, .c (.i k') b =>
    match ipop op k with
    | some (nm, f) => if op = .shl ∨ op = .shr ∨ k = k' then A.p2 (x := .i k) (y := .i k') (z := .i k) nm f a b fun z => K (.c (.i k) z) s else A.fail "bin kinds"
    | none => if k = k' then match iop op k with
        | some (nm, f) => K (.c (.i k) (A.k2 (x := .i k) (y := .i k') (z := .i k) nm f a b)) s
        | none => match icmp op with
          | some (nm, f) => K (.c .b (A.k2 (x := .i k) (y := .i k') (z := .b) nm f a b)) s
          | none => A.fail "bin op"
      else A.fail "bin kinds"
  | .c .s a, .c .s b => match scmp op with
    | some (nm, f) => K (.c .b (A.k2 (x := .s) (y := .s) (z := .b) nm f a b)) s
    | none => match op with
      | .add => A.p2 (x := .s) (y := .s) (z := .s) "" gcat a b fun z => K (.c .s z) s
      | _ => A.fail "bin string"
  | x, y => match getB x, getB y with
    | some a, some b => if isBoolT P T then match op with
        | .eql => K (.c .b (A.k2 (x := .b) (y := .b) (z := .b) "" (fun (a b : Bool) => a == b) a b)) s
        | .neq => K (.c .b (A.k2 (x := .b) (y := .b) (z := .b) "" (fun (a b : Bool) => !(a == b)) a b)) s
        | _ => A.fail "bin bool"
      else A.fail "bin bool type"
    | _, _ => match tyOf P T with
      | some t => if t.flat && t.agg && eqOkT P 9 T t && !P.eqGuardType P.depth T && decide (aggO P T = some true) then match snapV c s t x, snapV c s t y with
          | some (a, []), some (b, []) => match eqD t a b, op with
            | some e, .eql => K (.c .b e) s
            | some e, .neq => K (.c .b (A.k1 (x := .b) (y := .b) "" (fun a => !a) e)) s
            | _, _ => A.fail "bin struct"
          | _, _ => A.fail "bin struct value"
        else A.fail "bin"
      | none => A.fail "bin type"
def unX (s : TS A) (op : UnOp) (v : TV A) (K : TV A → TS A → A.Ans ρ) : A.Ans ρ :=
  match op, v with
  | .not, .kb b => K (.kb (!b)) s
  | .not, .c .b x => K (.c .b (A.k1 (x := .b) (y := .b) "" (fun a => !a) x)) s
  | .neg, .c (.i k) x => K (.c (.i k) (A.k1 (x := .i k) (y := .i k) ("" ++ wn k ++ "") (fun a => wk k (0 - a)) x)) s
  | _, _ => A.fail "un"
def convX (s : TS A) (S T : TypeId) (v : TV A) (K : TV A → TS A → A.Ans ρ) : A.Ans ρ :=
  match v, intO P T with
  | .c (.i k) x, some k' => if (P.underlying S).isSome then K (.c (.i k') (A.k1 (x := .i k) (y := .i k') ("" ++ wn k' ++ "") (fun a => wk k' a) x)) s else A.fail "conv"
  | _, _ => A.fail "conv"
end
end Go.Abs
