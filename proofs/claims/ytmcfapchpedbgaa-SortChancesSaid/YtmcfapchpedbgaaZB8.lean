/- Regions whose order is drawn: what is behind them does not hang on the order. -/
import Derived.Test.YtmcfapchpedbgaaZB6
import Derived.Orders
set_option linter.unusedSimpArgs false
set_option linter.unusedVariables false
namespace Go.Abs
open Go Go.RowKit

section
variable {P : Program} {K : K3} {h : AH} {n : Nat}

theorem fillS_congr {env env' : Env} (pl : List (Nat × Nat)) : ∀ (parts : List (Nat × Operand)) (cs : List AV), (∀ p ∈ parts, ev env p.2 = ev env' p.2) → fillS pl env parts cs = fillS pl env' parts cs
  | [], cs, _ => rfl
  | (i, x) :: rest, cs, hp => by
    have h1 : ev env x = ev env' x := hp (i, x) (by simp)
    have ih := fun cs => fillS_congr pl rest cs (fun p hp' => hp p (by simp [hp']))
    unfold fillS
    rw [h1]
    split
    · split
      · exact ih _
      · rfl
    · rfl

theorem fillE_congr {env env' : Env} (k : Nat) : ∀ (parts : List (Nat × Operand)) (es : List (List AV)), (∀ p ∈ parts, ev env p.2 = ev env' p.2) → fillE k env parts es = fillE k env' parts es
  | [], es, _ => rfl
  | (i, x) :: rest, es, hp => by
    have h1 : ev env x = ev env' x := hp (i, x) (by simp)
    have ih := fun es => fillE_congr k rest es (fun p hp' => hp p (by simp [hp']))
    unfold fillE
    rw [h1]
    split
    · split
      · exact ih _
      · rfl
    · rfl

theorem builtinK_congr {env env' : Env} {b : Builtin} {args : Array Operand} {ts : Array TypeId} (hx : ∀ x ∈ args.toList, ev env x = ev env' x) : builtinK P env h n b args ts K = builtinK P env' h n b args ts K := by
  unfold builtinK
  split
  · rename_i ha _; rw [ha] at hx; rw [hx _ (by simp)]
  · rename_i ha _; rw [ha] at hx; rw [hx _ (by simp), hx _ (by simp)]
  · rename_i ha; rw [ha] at hx; rw [hx _ (by simp), hx _ (by simp)]
  · rename_i ha; rw [ha] at hx; rw [hx _ (by simp), hx _ (by simp)]
  · rfl

theorem aop_congr {o : Oper} {env env' : Env} (H : ∀ x ∈ o.op.operands.toList, ev env x = ev env' x) : aop P env h n o K = aop P env' h n o K := by
  obtain ⟨dst, op, ty, pos, after, guard⟩ := o
  simp only at H
  cases op with
  | build T parts =>
    have : ∀ cs pl, fillS pl env parts.toList cs = fillS pl env' parts.toList cs := fun cs pl => fillS_congr pl _ _ (fun p hp => H p.2 (by simp only [Op.operands]; simpa using ⟨p.1, by simpa using hp⟩))
    simp only [aop, this]
  | buildSlice T len parts =>
    have : ∀ k es, fillE k env parts.toList es = fillE k env' parts.toList es := fun k es => fillE_congr k _ _ (fun p hp => H p.2 (by simp only [Op.operands]; simpa using ⟨p.1, by simpa using hp⟩))
    simp only [aop, this]
  | makeFunc f first caps =>
    have : caps.toList.map (ev env) = caps.toList.map (ev env') := List.map_congr_left fun x hx => H x (by simp only [Op.operands]; simp; exact .inr (by simpa using hx))
    cases f <;> simp only [aop, this]
  | call c =>
    obtain ⟨callee, args, ts⟩ := c
    cases callee with
    | builtin b =>
      simp only [aop]
      exact builtinK_congr fun x hx => H x (by simp only [Op.operands, Call.operands]; simpa using hx)
    | value f =>
      have h1 : ev env f = ev env' f := H f (by simp [Op.operands, Call.operands])
      have h2 : args.toList.map (ev env) = args.toList.map (ev env') := List.map_congr_left fun x hx => H x (by simp only [Op.operands, Call.operands]; simp; exact .inr (by simpa using hx))
      simp only [aop, h1, h2]
    | invoke r m => rfl
  | slice T x lo hi mx =>
    have h1 : ev env x = ev env' x := H x (by simp [Op.operands])
    have h2 : lo.map (ev env) = lo.map (ev env') := by
      cases lo with
      | none => rfl
      | some y => simp only [Option.map_some]; rw [H y (by simp [Op.operands])]
    have h3 : hi.map (ev env) = hi.map (ev env') := by
      cases hi with
      | none => rfl
      | some y => simp only [Option.map_some]; rw [H y (by simp [Op.operands])]
    cases mx <;> simp only [aop, h1, h2, h3]
  | makeMap T r => cases r <;> rfl
  | _ => simp [Op.operands] at H <;> simp only [aop, H]

/-! ### what waits for what -/
inductive Anc (l : List Oper) : Nat → Nat → Prop
  | one {i j : Nat} {o : Oper} {e : Edge} (ho : l[j]? = some o) (he : e ∈ o.after) (hb : Region.binds .any e = true) (hi : e.on = i) : Anc l i j
  | step {i k j : Nat} {o : Oper} {e : Edge} (h : Anc l i k) (ho : l[j]? = some o) (he : e ∈ o.after) (hb : Region.binds .any e = true) (hi : e.on = k) : Anc l i j

def ancOne (acc : List (List Nat)) (o : Oper) : List Nat :=
  (o.after.toList.filter (Region.binds .any)).flatMap fun e => e.on :: acc.getD e.on []
def ancGo : List (List Nat) → List Oper → List (List Nat)
  | acc, [] => acc
  | acc, o :: r => ancGo (acc ++ [ancOne acc o]) r
def ancOf (l : List Oper) : List (List Nat) := ancGo [] l

theorem ancGo_spec (l : List Oper) : ∀ (r : List Oper) (acc : List (List Nat)), (∀ j, r[j]? = l[acc.length + j]?) → (∀ j i, i ∈ acc.getD j [] → Anc l i j) → ∀ j i, i ∈ (ancGo acc r).getD j [] → Anc l i j
  | [], acc, _, ha => ha
  | o :: r, acc, hr, ha => by
    refine ancGo_spec l r (acc ++ [ancOne acc o]) (fun j => by have := hr (j + 1); simp at this ⊢; rw [this]; congr 1; omega) ?_
    intro j i hi
    rw [List.getD_eq_getElem?_getD, List.getElem?_append] at hi
    split at hi
    · exact ha j i (by rw [List.getD_eq_getElem?_getD]; exact hi)
    · rename_i hge
      have ho : l[acc.length]? = some o := by have := hr 0; simpa using this.symm
      rcases Nat.eq_or_lt_of_le (Nat.le_of_not_lt hge) with e | hlt
      · subst e
        simp only [Nat.sub_self, List.getElem?_cons_zero, Option.getD_some, ancOne, List.mem_flatMap, List.mem_filter, Array.mem_toList_iff, List.mem_cons] at hi
        obtain ⟨e, ⟨he, hb⟩, hi⟩ := hi
        rcases hi with rfl | hi
        · exact .one ho he hb rfl
        · exact .step (ha _ _ hi) ho he hb rfl
      · have : ([ancOne acc o] : List (List Nat))[j - acc.length]? = none := List.getElem?_eq_none (by simp; omega)
        rw [this] at hi
        simp at hi

theorem ancOf_spec {l : List Oper} {i j : Nat} (h : i ∈ (ancOf l).getD j []) : Anc l i j :=
  ancGo_spec l l [] (fun j => by simp) (fun j i hi => by simp at hi) j i h

/-- listed with all that it waits for -/
def Closed (l : List Oper) (S : Nat → Prop) : Prop := ∀ j o, l[j]? = some o → S j → ∀ e ∈ o.after, Region.binds .any e = true → S e.on

theorem Closed.anc {l : List Oper} {S : Nat → Prop} (hc : Closed l S) {i j : Nat} (h : Anc l i j) : (∀ o, l[j]? = some o → ∀ e ∈ o.after, Region.binds .any e = true → S e.on) → S i := by
  induction h with
  | one ho he hb hi => intro hs; rw [← hi]; exact hs _ ho _ he hb
  | step _ ho he hb hi ih => intro hs; exact ih fun o' ho' e' he' hb' => hc _ o' ho' (hi ▸ hs _ ho _ he hb) e' he' hb'

def tmpsOf (o : Oper) (ds : List (Option Tmp)) : List Tmp :=
  o.op.operands.toList.filterMap (fun | .tmp t => some t | _ => none) ++ (match o.guard with | some (j, _) => (slotOf ds j).toList | none => [])

/-- whoever reads a slot waits for who writes it, or is waited for -/
def drawOk (l : List Oper) : Bool :=
  let ds := l.map (·.dst)
  let anc := ancOf l
  (l.zipIdx.all fun (o, j) => o.after.all (fun e => !Region.binds .any e || decide (e.on < j)) &&
    (match o.dst with | some d => (ds.zipIdx.all fun (d', i) => i == j || d' != some d) | none => true) &&
    (tmpsOf o ds).all fun t => ds.zipIdx.all fun (d, i) => d != some t || (decide (i < j) && (anc.getD j []).contains i) || (decide (j < i) && (anc.getD i []).contains j))

theorem drawOk_spec {l : List Oper} (hd : drawOk l = true) :
    (∀ (j : Nat) (o : Oper), l[j]? = some o → ∀ e ∈ o.after, Region.binds .any e = true → e.on < j) ∧
    (∀ (i j : Nat) (oi oj : Oper) (d : Nat), l[i]? = some oi → l[j]? = some oj → oi.dst = some d → oj.dst = some d → i = j) ∧
    (∀ (j : Nat) (o : Oper) (t i : Nat) (oi : Oper), l[j]? = some o → t ∈ tmpsOf o (l.map (·.dst)) → l[i]? = some oi → oi.dst = some t → (i < j ∧ Anc l i j) ∨ (j < i ∧ Anc l j i)) := by
  simp only [drawOk, List.all_eq_true, Prod.forall, Bool.and_eq_true] at hd
  have mem : ∀ {α : Type} {m : List α} {j : Nat} {x : α}, m[j]? = some x → (x, j) ∈ m.zipIdx := fun h => List.mem_zipIdx_iff_getElem?.2 (by simpa using h)
  refine ⟨fun j o ho e he hb => ?_, fun i j oi oj d hi hj hdi hdj => ?_, fun j o t i oi ho ht hi hdi => ?_⟩
  · have := ((hd o j (mem ho)).1).1
    simp only [Array.all_eq_true_iff_forall_mem] at this
    have := this e he
    simpa [hb] using this
  · have := ((hd oj j (mem hj)).1).2
    rw [hdj] at this
    simp only [List.all_eq_true, Prod.forall] at this
    have := this (some d) i (mem (by simp [hi, hdi]))
    simpa using this
  · have := (hd o j (mem ho)).2 t ht (some t) i (mem (by simp [hi, hdi]))
    simp only [bne_self_eq_false, Bool.false_or, Bool.or_eq_true, Bool.and_eq_true, decide_eq_true_eq, List.contains_iff_mem] at this
    rcases this with ⟨h1, h2⟩ | ⟨h1, h2⟩
    · exact .inl ⟨h1, ancOf_spec h2⟩
    · exact .inr ⟨h1, ancOf_spec h2⟩

/-- What a walk in the order of the text has shown: the frame, the value, the heap at each operation. -/
structure LF (P : Program) (l : List Oper) (st : St) (E : Nat → Env) (V : Nat → AV) (A W : Nat → Bool) (H : Nat → AH) (M : Nat → Nat) : Prop where
  e0 : ∀ s, lk (E 0) s = lk st.env s
  h0 : H 0 = st.h
  m0 : M 0 = st.n
  next : ∀ (j : Nat) (o : Oper), l[j]? = some o → ∀ s, lk (E (j + 1)) s = lk (putE (E j) o.dst (V j)) s
  off : ∀ (j : Nat) (o : Oper), l[j]? = some o → A j = false → V j = .ud ∧ H (j + 1) = H j ∧ M (j + 1) = M j ∧
    ∃ jj want d, o.guard = some (jj, want) ∧ slotOf (l.map (·.dst)) jj = some d ∧ (lk (E j) d = .ud ∨ ∃ b, lk (E j) d = .sc (.bool b) ∧ b ≠ want)
  on : ∀ (j : Nat) (o : Oper), l[j]? = some o → A j = true → (o.guard = none ∨ ∃ jj want d, o.guard = some (jj, want) ∧ slotOf (l.map (·.dst)) jj = some d ∧ lk (E j) d = .sc (.bool want)) ∧
    aop P (E j) (H j) (M j) o (fun v h n => v = V j ∧ h = H (j + 1) ∧ n = M (j + 1)) ∧ (W j = false → H (j + 1) = H j ∧ M (j + 1) = M j)
  chain : ∀ i j, i < j → j < l.length → A i = true → W i = true → A j = true → W j = true → Anc l i j
  re : ∀ (j w : Nat) (o : Oper), l[j]? = some o → w < l.length → A j = true → W j = false → A w = true → W w = true →
    (w < j → Anc l w j ∨ aop P (E j) (H w) (M w) o (fun v h n => v = V j ∧ h = H w ∧ n = M w)) ∧
    (j < w → Anc l j w ∨ aop P (E j) (H (w + 1)) (M (w + 1)) o (fun v h n => v = V j ∧ h = H (w + 1) ∧ n = M (w + 1)))

section
variable {l : List Oper} {st : St} {E : Nat → Env} {V : Nat → AV} {A W : Nat → Bool} {H : Nat → AH} {M : Nat → Nat} {N : Nat} {D : List Deferred} {O : Nat → Prop}

/-- the slot s in the frame before operation j -/
theorem LF.slot (L : LF P l st E V A W H M) (hd : drawOk l = true) : ∀ (j s : Nat), j ≤ l.length → lk (E j) s = lk st.env s ∧ (∀ i oi, i < j → l[i]? = some oi → oi.dst ≠ some s) ∨ ∃ i oi, i < j ∧ l[i]? = some oi ∧ oi.dst = some s ∧ lk (E j) s = V i := by
  intro j
  induction j with
  | zero => intro s _; exact .inl ⟨L.e0 s, fun i oi hi => by omega⟩
  | succ j ih =>
    intro s hj
    have ho : l[j]? = some (l[j]'(by omega)) := List.getElem?_eq_getElem _
    have hn := L.next j _ ho s
    cases hdst : (l[j]'(by omega)).dst with
    | none =>
      rw [hdst] at hn
      simp only [putE] at hn
      rcases ih s (by omega) with ⟨h1, h2⟩ | ⟨i, oi, h1, h2, h3, h4⟩
      · refine .inl ⟨hn.trans h1, fun i oi hi hoi => ?_⟩
        rcases Nat.lt_succ_iff_lt_or_eq.1 hi with hlt | rfl
        · exact h2 i oi hlt hoi
        · rw [ho] at hoi; cases hoi; rw [hdst]; simp
      · exact .inr ⟨i, oi, by omega, h2, h3, hn.trans h4⟩
    | some d =>
      rw [hdst] at hn
      simp only [putE, lk] at hn
      by_cases hsd : s = d
      · subst hsd
        rw [if_pos rfl] at hn
        exact .inr ⟨j, _, by omega, ho, hdst, hn⟩
      · rw [if_neg hsd] at hn
        rcases ih s (by omega) with ⟨h1, h2⟩ | ⟨i, oi, h1, h2, h3, h4⟩
        · refine .inl ⟨hn.trans h1, fun i oi hi hoi => ?_⟩
          rcases Nat.lt_succ_iff_lt_or_eq.1 hi with hlt | rfl
          · exact h2 i oi hlt hoi
          · rw [ho] at hoi; cases hoi; rw [hdst]; intro e; cases e; exact hsd rfl
        · exact .inr ⟨i, oi, by omega, h2, h3, hn.trans h4⟩

/-- the frame when the operations of S are done -/
structure At (P : Program) (l : List Oper) (st : St) (V : Nat → AV) (S : Nat → Prop) (env : Env) : Prop where
  old : ∀ s, (∀ i oi, S i → l[i]? = some oi → oi.dst ≠ some s) → lk env s = lk st.env s
  new : ∀ s i oi, S i → l[i]? = some oi → oi.dst = some s → lk env s = V i

/-- whoever may come up now sees what the walk in the order of the text saw -/
theorem LF.sees (L : LF P l st E V A W H M) (hd : drawOk l = true) {S : Nat → Prop} {env : Env} (hat : At P l st V S env) (hc : Closed l S) {j : Nat} {o : Oper} (ho : l[j]? = some o) (hj : ¬ S j)
    (hr : ∀ e ∈ o.after, Region.binds .any e = true → S e.on) {t : Nat} (ht : t ∈ tmpsOf o (l.map (·.dst))) : lk env t = lk (E j) t := by
  obtain ⟨hd1, hd2, hd3⟩ := drawOk_spec hd
  have hjl := (List.getElem?_eq_some_iff.1 ho).1
  have ready : ∀ o', l[j]? = some o' → ∀ e ∈ o'.after, Region.binds .any e = true → S e.on := fun o' ho' => by rw [ho] at ho'; cases ho'; exact hr
  have later : ∀ i oi, l[i]? = some oi → Anc l j i → ¬ S i := fun i oi hoi ha hs => hj (hc.anc ha fun o' ho' e he hb => hc i o' ho' hs e he hb)
  rcases L.slot hd j t (by omega) with ⟨h1, h2⟩ | ⟨i, oi, h1, h2, h3, h4⟩
  · rw [h1]
    refine hat.old t fun i oi hs hoi hdi => ?_
    rcases hd3 j o t i oi ho ht hoi hdi with ⟨hlt, _⟩ | ⟨_, ha⟩
    · exact h2 i oi hlt hoi hdi
    · exact later i oi hoi ha hs
  · rw [h4]
    rcases hd3 j o t i oi ho ht h2 h3 with ⟨_, ha⟩ | ⟨hgt, _⟩
    · exact hat.new t i oi (hc.anc ha ready) h2 h3
    · omega

theorem mem_tmps_guard {o : Oper} {ds : List (Option Tmp)} {jj : Nat} {want : Bool} {d : Nat} (hg : o.guard = some (jj, want)) (hs : slotOf ds jj = some d) : d ∈ tmpsOf o ds := by
  simp [tmpsOf, hg, hs]
theorem mem_tmps_op {o : Oper} {ds : List (Option Tmp)} {t : Nat} (ht : Operand.tmp t ∈ o.op.operands.toList) : t ∈ tmpsOf o ds := by
  simp only [tmpsOf, List.mem_append, List.mem_filterMap]
  exact .inl ⟨_, ht, rfl⟩

/-- the own blocks when the operations of S are done: those of the walk after its last write in S -/
def HeapAt (l : List Oper) (A W : Nat → Bool) (S : Nat → Prop) (q : Nat) : Prop :=
  q ≤ l.length ∧ ∀ w, w < l.length → A w = true → W w = true → (S w ↔ w < q)

theorem LF.heap_same (L : LF P l st E V A W H M) : ∀ (k q : Nat), q + k ≤ l.length → (∀ w, q ≤ w → w < q + k → ¬ (A w = true ∧ W w = true)) → H (q + k) = H q ∧ M (q + k) = M q
  | 0, q, _, _ => ⟨rfl, rfl⟩
  | k + 1, q, hle, hno => by
    obtain ⟨h1, h2⟩ := LF.heap_same L k q (by omega) (fun w hw hw' => hno w hw (by omega))
    have ho : l[q + k]? = some (l[q + k]'(by omega)) := List.getElem?_eq_getElem _
    have hn := hno (q + k) (by omega) (by omega)
    show H (q + k + 1) = _ ∧ M (q + k + 1) = _
    cases ha : A (q + k) with
    | false =>
      obtain ⟨_, h3, h4, _⟩ := L.off _ _ ho ha
      exact ⟨h3.trans h1, h4.trans h2⟩
    | true =>
      cases hw : W (q + k) with
      | true => exact absurd ⟨ha, hw⟩ hn
      | false =>
        obtain ⟨h3, h4⟩ := (L.on _ _ ho ha).2.2 hw
        exact ⟨h3.trans h1, h4.trans h2⟩

/-- between two places without a write the heaps are one -/
theorem LF.heap_eq (L : LF P l st E V A W H M) {p q : Nat} (hpq : p ≤ q) (hq : q ≤ l.length) (hno : ∀ w, p ≤ w → w < q → ¬ (A w = true ∧ W w = true)) : H q = H p ∧ M q = M p := by
  have := LF.heap_same L (q - p) p (by omega) (fun w hw hw' => hno w hw (by omega))
  rwa [show p + (q - p) = q by omega] at this

/-- the heap before an operation that may come up now, and what it then makes of it -/
theorem LF.op_now (L : LF P l st E V A W H M) {S : Nat → Prop} (hc : Closed l S) {j q : Nat} {o : Oper} (ho : l[j]? = some o) (hj : ¬ S j) (hr : ∀ e ∈ o.after, Region.binds .any e = true → S e.on) (ha : A j = true) (hh : HeapAt l A W S q) :
    ∃ q', HeapAt l A W (fun i => i = j ∨ S i) q' ∧ aop P (E j) (H q) (M q) o (fun v h n => v = V j ∧ h = H q' ∧ n = M q') := by
  have hjl := (List.getElem?_eq_some_iff.1 ho).1
  have ready : ∀ o', l[j]? = some o' → ∀ e ∈ o'.after, Region.binds .any e = true → S e.on := fun o' ho' => by rw [ho] at ho'; cases ho'; exact hr
  have later : ∀ i oi, l[i]? = some oi → Anc l j i → ¬ S i := fun i oi hoi ha hs => hj (hc.anc ha fun o' ho' e he hb => hc i o' ho' hs e he hb)
  obtain ⟨hq, hW⟩ := hh
  obtain ⟨_, hop, hquiet⟩ := L.on j o ho ha
  cases hw : W j with
  | true =>
    -- all writes before it are done, none behind it
    have hbefore : ∀ w, w < j → A w = true → W w = true → S w := fun w hwj haw hww => hc.anc (L.chain w j hwj hjl haw hww ha hw) ready
    have hafter : ∀ w, j < w → w < l.length → A w = true → W w = true → ¬ S w := fun w hjw hwl haw hww => later w _ (List.getElem?_eq_getElem hwl) (L.chain j w hjw hwl ha hw haw hww)
    have hqj : ¬ j < q := fun hlt => hj ((hW j hjl ha hw).2 hlt)
    have heq : H j = H q ∧ M j = M q := L.heap_eq (by omega) (by omega) fun w hw1 hw2 ⟨haw, hww⟩ => by
      have := (hW w (by omega) haw hww).1 (hbefore w hw2 haw hww); omega
    refine ⟨j + 1, ⟨by omega, fun w hwl haw hww => ?_⟩, by rw [← heq.1, ← heq.2]; exact hop⟩
    constructor
    · rintro (rfl | hs)
      · omega
      · rcases Nat.lt_or_ge w (j + 1) with h | h
        · exact h
        · exact absurd hs (hafter w (by omega) hwl haw hww)
    · intro hlt
      rcases Nat.lt_succ_iff_lt_or_eq.1 hlt with h | rfl
      · exact .inr (hbefore w h haw hww)
      · exact .inl rfl
  | false =>
    have hsame : HeapAt l A W (fun i => i = j ∨ S i) q := ⟨hq, fun w hwl haw hww => by
      rw [← hW w hwl haw hww]
      constructor
      · rintro (rfl | hs)
        · rw [hw] at hww; cases hww
        · exact hs
      · exact .inr⟩
    refine ⟨q, hsame, ?_⟩
    obtain ⟨hH, hM⟩ := hquiet hw
    rw [hH, hM] at hop
    -- is there a write between q and j?
    by_cases hex : ∃ w, (q ≤ w ∧ w < j ∨ j ≤ w ∧ w < q) ∧ A w = true ∧ W w = true
    · obtain ⟨w0, hw0, haw0, hww0⟩ := hex
      rcases hw0 with ⟨h1, h2⟩ | ⟨h1, h2⟩
      · -- the first write not done yet
        have : ∃ w, q ≤ w ∧ w < j ∧ A w = true ∧ W w = true ∧ ∀ w', q ≤ w' → w' < w → ¬ (A w' = true ∧ W w' = true) := by
          clear hop hH hM hsame
          induction w0 using Nat.strongRecOn with
          | _ w0 ih =>
            by_cases h : ∃ w', q ≤ w' ∧ w' < w0 ∧ A w' = true ∧ W w' = true
            · obtain ⟨w', g1, g2, g3, g4⟩ := h
              exact ih w' g2 g3 g4 g1 (by omega)
            · exact ⟨w0, h1, h2, haw0, hww0, fun w' g1 g2 g3 => h ⟨w', g1, g2, g3.1, g3.2⟩⟩
        obtain ⟨w, g1, g2, g3, g4, g5⟩ := this
        have hns : ¬ S w := fun hs => by have := (hW w (by omega) g3 g4).1 hs; omega
        have heq : H w = H q ∧ M w = M q := L.heap_eq g1 (by omega) g5
        rcases (L.re j w o ho (by omega) ha hw g3 g4).1 g2 with hanc | h
        · exact absurd (hc.anc hanc ready) hns
        · rw [heq.1, heq.2] at h; exact h
      · -- the last write that is done
        have hne : j ≠ w0 := by rintro rfl; rw [hw] at hww0; cases hww0
        have : ∃ w, j < w ∧ w < q ∧ A w = true ∧ W w = true ∧ ∀ w', w + 1 ≤ w' → w' < q → ¬ (A w' = true ∧ W w' = true) := by
          clear hop hH hM hsame
          have key : ∀ d w0, q - w0 = d → j < w0 → w0 < q → A w0 = true → W w0 = true → ∃ w, j < w ∧ w < q ∧ A w = true ∧ W w = true ∧ ∀ w', w + 1 ≤ w' → w' < q → ¬ (A w' = true ∧ W w' = true) := by
            intro d
            induction d using Nat.strongRecOn with
            | _ d ih =>
              intro w0 hd h1 h2 h3 h4
              by_cases h : ∃ w', w0 + 1 ≤ w' ∧ w' < q ∧ A w' = true ∧ W w' = true
              · obtain ⟨w', g1, g2, g3, g4⟩ := h
                exact ih (q - w') (by omega) w' rfl (by omega) g2 g3 g4
              · exact ⟨w0, h1, h2, h3, h4, fun w' g1 g2 g3 => h ⟨w', g1, g2, g3.1, g3.2⟩⟩
          exact key _ w0 rfl (by omega) h2 haw0 hww0
        obtain ⟨w, g1, g2, g3, g4, g5⟩ := this
        have hs : S w := (hW w (by omega) g3 g4).2 g2
        have heq : H q = H (w + 1) ∧ M q = M (w + 1) := L.heap_eq (by omega) hq g5
        rcases (L.re j w o ho (by omega) ha hw g3 g4).2 g1 with hanc | h
        · exact absurd hs (later w _ (List.getElem?_eq_getElem (by omega)) hanc)
        · rw [heq.1, heq.2]; exact h
    · have hno : ∀ w, (q ≤ w ∧ w < j ∨ j ≤ w ∧ w < q) → ¬ (A w = true ∧ W w = true) := fun w hw' hb => hex ⟨w, hw', hb.1, hb.2⟩
      rcases Nat.le_total q j with hle | hle
      · have heq : H j = H q ∧ M j = M q := L.heap_eq hle (by omega) fun w h1 h2 => hno w (.inl ⟨h1, h2⟩)
        rw [heq.1, heq.2] at hop; exact hop
      · have heq : H q = H j ∧ M q = M j := L.heap_eq hle hq fun w h1 h2 => hno w (.inr ⟨h1, h2⟩)
        rw [heq.1, heq.2]; exact hop

theorem wp_any_sound (L : LF P l st E V A W H M) (hd : drawOk l = true) (hdst : dstsOk N l = true) {Q' : Exit → Act → World → Prop} {μ0 : Mu} {w0 : World}
    (hq : ∀ env μ a w, (∀ s, lk env s = lk (E l.length) s) → SR N D O μ ⟨env, H l.length, M l.length⟩ a w → Evo w0 μ0 st.n w μ (M l.length) → Q' .normal a w) :
    ∀ (fuel : Nat) (listed : Array Bool) (S : Nat → Prop) (env : Env) (q : Nat) (μ : Mu) (a : Act) (w : World), listed.size = l.length → (∀ i, i < l.length → (S i ↔ listed.getD i true = true)) → (∀ i, S i → i < l.length) → Closed l S →
      At P l st V S env → HeapAt l A W S q → SR N D O μ ⟨env, H q, M q⟩ a w → Evo w0 μ0 st.n w μ (M q) → (∃ c : List Nat, c.length = fuel ∧ ∀ i, i < l.length → ¬ S i → i ∈ c) → wpAny P .any l.toArray Q' fuel listed a w := by
  have hdone : ∀ (listed : Array Bool) (S : Nat → Prop) (env : Env) (q : Nat) (μ : Mu) (a : Act) (w : World), (∀ i, i < l.length → S i) → At P l st V S env → HeapAt l A W S q → SR N D O μ ⟨env, H q, M q⟩ a w → Evo w0 μ0 st.n w μ (M q) → Q' .normal a w := by
    intro listed S env q μ a w hall hat hh hs he
    have heq : H l.length = H q ∧ M l.length = M q := L.heap_eq hh.1 (Nat.le_refl _) fun w h1 h2 hb => by have := (hh.2 w h2 hb.1 hb.2).1 (hall w h2); omega
    refine hq env μ a w (fun s => ?_) (by rw [heq.1, heq.2]; exact hs) (by rw [heq.2]; exact he)
    rcases L.slot hd l.length s (Nat.le_refl _) with ⟨h1, h2⟩ | ⟨i, oi, h1, h2, h3, h4⟩
    · rw [h1]; exact hat.old s fun i oi hsi hoi => h2 i oi (List.getElem?_eq_some_iff.1 hoi).1 hoi
    · rw [h4]; exact hat.new s i oi (hall i h1) h2 h3
  have hready : ∀ (listed : Array Bool) (S : Nat → Prop), (∀ i, i < l.length → (S i ↔ listed.getD i true = true)) → listed.size = l.length → Region.ready .any l.toArray listed = [] → ∀ i, i < l.length → S i := by
    intro listed S hS hsz hr i
    induction i using Nat.strongRecOn with
    | _ i ih =>
      intro hi
      by_cases hs : S i
      · exact hs
      · have hl : listed.getD i true = false := by
          cases hb : listed.getD i true with
          | false => rfl
          | true => exact absurd ((hS i hi).2 hb) hs
        have : i ∈ Region.ready .any l.toArray listed := mem_ready.2 ⟨hl, l[i], by simp, fun e he hb => by
          have hlt := (drawOk_spec hd).1 i _ (List.getElem?_eq_getElem hi) e he hb
          have := (hS e.on (by omega)).1 (ih e.on hlt (by omega))
          have hsz' : e.on < listed.size := by omega
          simpa [Array.getD_eq_getD_getElem?, hsz'] using this⟩
        rw [hr] at this; cases this
  intro fuel
  induction fuel with
  | zero =>
    intro listed S env q μ a w hsz hS hSl hc hat hh hs he hcnt
    obtain ⟨c, hcl, hci⟩ := hcnt
    have hcn : c = [] := List.eq_nil_of_length_eq_zero hcl
    have hall : ∀ i, i < l.length → S i := fun i hi => Classical.byContradiction fun hn => by have := hci i hi hn; rw [hcn] at this; cases this
    refine ⟨?_, hdone listed S env q μ a w hall hat hh hs he⟩
    refine List.eq_nil_iff_forall_not_mem.2 fun i hi => ?_
    obtain ⟨h1, o, h2, _⟩ := mem_ready.1 hi
    have hil : i < l.length := by simpa using (Array.getElem?_eq_some_iff.1 h2).1
    rw [(hS i hil).1 (hall i hil)] at h1
    cases h1
  | succ fuel ih =>
    intro listed S env q μ a w hsz hS hSl hc hat hh hs he hcnt
    refine ⟨fun hr => hdone listed S env q μ a w (hready listed S hS hsz hr) hat hh hs he, fun j hj => ?_⟩
    obtain ⟨hjun, o, ho, hdeps⟩ := mem_ready.1 hj
    have ho' : l[j]? = some o := by simpa using ho
    have hjl := (List.getElem?_eq_some_iff.1 ho').1
    have hnS : ¬ S j := fun h => by rw [(hS j hjl).1 h] at hjun; cases hjun
    have hdl : ∀ e ∈ o.after, Region.binds .any e = true → S e.on := fun e he' hb => by
      have hlt := (drawOk_spec hd).1 j _ ho' e he' hb
      have := hdeps e he' hb
      have hsz' : e.on < listed.size := by omega
      exact (hS e.on (by omega)).2 (by simpa [Array.getD_eq_getD_getElem?, hsz'] using this)
    have hdo : ∀ x, o.dst = some x → x < N := fun x hx => by
      simp only [dstsOk, List.all_eq_true] at hdst
      have := hdst o (List.mem_of_getElem? ho'); rw [hx] at this; simpa using this
    have hlisted : (∀ i, i < l.length → ((i = j ∨ S i) ↔ (listed.setIfInBounds j true).getD i true = true)) := fun i hi => by
      by_cases hij : i = j
      · subst hij; simp [Array.getD_eq_getD_getElem?, hsz, hi]
      · rw [Array.getD_eq_getD_getElem?, Array.getElem?_setIfInBounds_ne (by omega), ← Array.getD_eq_getD_getElem?, ← hS i hi]
        simp [hij]
    have hcl : Closed l (fun i => i = j ∨ S i) := fun i oi hoi hi e he' hb => by
      rcases hi with rfl | hi
      · rw [ho'] at hoi; cases hoi; exact .inr (hdl e he' hb)
      · exact .inr (hc i oi hoi hi e he' hb)
    have hat' : At P l st V (fun i => i = j ∨ S i) (Abs.putE env o.dst (V j)) := by
      constructor
      · intro s hno
        have h1 := hno j o (.inl rfl) ho'
        have h2 := hat.old s fun i oi hi => hno i oi (.inr hi)
        cases hdd : o.dst with
        | none => exact h2
        | some d =>
          simp only [Abs.putE, lk]
          rw [if_neg (by rintro rfl; exact h1 hdd)]
          exact h2
      · intro s i oi hi hoi hdi
        by_cases hij : i = j
        · subst hij
          rw [ho'] at hoi; cases hoi
          rw [hdi]; simp [Abs.putE, lk]
        · have hSi : S i := by rcases hi with h | h; exact absurd h hij; exact h
          have h2 := hat.new s i oi hSi hoi hdi
          cases hdd : o.dst with
          | none => exact h2
          | some d =>
            simp only [Abs.putE, lk]
            rw [if_neg (by rintro rfl; exact hij ((drawOk_spec hd).2.1 i j oi o s hoi ho' hdi hdd))]
            exact h2
    have hcnt' : ∃ c : List Nat, c.length = fuel ∧ ∀ i, i < l.length → ¬ (i = j ∨ S i) → i ∈ c := by
      obtain ⟨c, hcl, hci⟩ := hcnt
      have hjc := hci j hjl hnS
      refine ⟨c.erase j, by rw [List.length_erase_of_mem hjc, hcl]; rfl, fun i hi hno => ?_⟩
      exact (List.mem_erase_of_ne (fun h => hno (.inl h))).2 (hci i hi fun h => hno (.inr h))
    have sees : ∀ t ∈ tmpsOf o (l.map (·.dst)), lk env t = lk (E j) t := fun t ht => L.sees hd hat hc ho' hnS hdl ht
    unfold wpOp
    rw [ho]
    simp only
    cases ha : A j with
    | false =>
      obtain ⟨hv, hHj, hMj, jj, want, d, hg, hsl, hgv⟩ := L.off j o ho' ha
      have hsd := sees d (mem_tmps_guard hg hsl)
      have hnw : Region.wanted o (yielded l.toArray a.tmps) = false := by
        rcases hgv with h | ⟨b, h, hb⟩
        · obtain ⟨_, g2⟩ := guard_yields (st := ⟨env, H q, M q⟩) hs hsl (hsd.trans h)
          simp [Region.wanted, hg, g2 rfl]
        · obtain ⟨g1, _⟩ := guard_yields (st := ⟨env, H q, M q⟩) hs hsl (hsd.trans h)
          simp [Region.wanted, hg, g1 b rfl, hb]
      rw [hnw]
      simp only [Bool.false_eq_true, if_false]
      rw [hv] at hat'
      refine ih _ (fun i => i = j ∨ S i) _ q μ _ w (by simp [hsz]) hlisted (fun i hi => by rcases hi with rfl | hi; exact hjl; exact hSl i hi) hcl hat' ⟨hh.1, fun x hx hax hwx => ?_⟩ (hs.putE hs.hr hs.hr.refl .ud o.dst hdo) he hcnt'
      rw [← hh.2 x hx hax hwx]
      constructor
      · rintro (rfl | h)
        · rw [ha] at hax; cases hax
        · exact h
      · exact .inr
    | true =>
      obtain ⟨hg, hop, _⟩ := L.on j o ho' ha
      have hyw : Region.wanted o (yielded l.toArray a.tmps) = true := by
        rcases hg with hg | ⟨jj, want, d, hg, hsl, hgv⟩
        · simp [Region.wanted, hg]
        · obtain ⟨g1, _⟩ := guard_yields (st := ⟨env, H q, M q⟩) hs hsl ((sees d (mem_tmps_guard hg hsl)).trans hgv)
          simp [Region.wanted, hg, g1 want rfl]
      rw [hyw]
      simp only [if_true]
      refine .inl ?_
      obtain ⟨q', hh', hop'⟩ := L.op_now hc ho' hnS hdl ha hh
      have hcong : ∀ x ∈ o.op.operands.toList, ev (E j) x = ev env x := fun x hx => by
        cases x with
        | tmp t => exact (sees t (mem_tmps_op hx)).symm
        | _ => rfl
      rw [aop_congr hcong] at hop'
      refine aop_sound hop' hs.hr (fun x => hs.ev x) _ _ ?_
      rintro u w' μ' v h' n' ⟨rfl, rfl, rfl⟩ hr' hv' he'
      exact ih _ (fun i => i = j ∨ S i) _ q' μ' _ w' (by simp [hsz]) hlisted (fun i hi => by rcases hi with rfl | hi; exact hjl; exact hSl i hi) hcl hat' hh' (hs.putE hr' he' hv' o.dst hdo) (he.trans he') hcnt'

theorem Sat.draw {id : Nat} {Q : Exit → St → Prop} (hm : P.follows .mixedOrders = true) (hd : drawOk l = true) (hdst : dstsOk N l = true) (L : LF P l st E V A W H M) (hk : Q .normal ⟨E l.length, H l.length, M l.length⟩) :
    Sat P N D O (.region id l.toArray true) Q st := by
  intro μ a w hs
  refine wp_region_any hm ?_
  obtain ⟨e1, hr1⟩ := hs.hr.drew
  have hs1 : SR N D O μ ⟨st.env, H 0, M 0⟩ a w.drew := by rw [L.h0, L.m0]; exact hs.step hr1 e1
  refine wp_any_sound (D := D) (O := O) L hd hdst (μ0 := μ) (w0 := w) (fun env μ' a' w' hl hs' he' => ⟨⟨E l.length, H l.length, M l.length⟩, μ', hk, ⟨hs'.hr, hs'.size, hs'.defers, fun s => ?_⟩, he'⟩)
    _ _ (fun _ => False) st.env 0 μ a w.drew (by simp) (fun i hi => by simp [Array.getD_eq_getD_getElem?, hi]) (fun i h => h.elim) (fun j o _ h => h.elim) ⟨fun s _ => rfl, fun s i oi h => h.elim⟩
    ⟨by omega, fun x hx _ _ => by simp⟩ hs1 (by rw [L.m0]; exact e1) ⟨List.range l.length, by simp, fun i hi _ => List.mem_range.2 hi⟩
  have := hs'.env s
  rw [← hl s]; exact this

end
end
end Go.Abs
