/- One operation, whatever it is; calls; regions that keep the order of the text. -/
import Derived.Test.YtmcfapchpedbgaaZB3
import Derived.Test.YtmcfapchpedbgaaZB0
set_option linter.unusedSimpArgs false
set_option linter.unusedVariables false
namespace Go.Abs
open Go Go.RowKit

/-- The contract of a function over abstract states. -/
def HC (P : Program) (f : FuncId) (args : List AV) (h : AH) (n : Nat) (R : K3) : Prop :=
  (∃ fn, P.funcs[f]? = some fn ∧ fn.body.isSome = true ∧ (fn.name == "runtime.NumGoroutine") = false) ∧
  ∀ (O : Nat → Prop) (μ : Mu) (w : World) (vs : Array Value), HR w O μ h n → vs.size = args.length → (∀ (j : Nat) (c : AV), args[j]? = some c → ∃ u, vs[j]? = some u ∧ VR w O μ n c u) →
    Calls P f vs w (fun e w' => ∃ u v h' n' μ', e = .returned u ∧ R v h' n' ∧ HR w' O μ' h' n' ∧ VR w' O μ' n' v u ∧ Evo w μ n w' μ' n')

theorem HC.mono {P : Program} {f : FuncId} {args : List AV} {h : AH} {n : Nat} {R R' : K3} (hc : HC P f args h n R) (hr : ∀ v h' n', R v h' n' → R' v h' n') : HC P f args h n R' :=
  ⟨hc.1, fun O μ w vs h1 h2 h3 => (hc.2 O μ w vs h1 h2 h3).mono fun _ _ ⟨u, v, h', n', μ', q1, q2, q3⟩ => ⟨u, v, h', n', μ', q1, hr _ _ _ q2, q3⟩⟩

/-- the call of a function value -/
def callK (P : Program) (h : AH) (n : Nat) (f : AV) (args : List AV) (K : K3) : Prop :=
  match f with
  | .fn g caps => HC P g (args ++ caps) h n K
  | _ => False

def idxAddrK (P : Program) (h : AH) (T : TypeId) (x i : AV) (K : AV → Prop) : Prop :=
  match i with
  | .sc (.int _ i) => match x with
    | .sl es => match elemO P T with
      | some e => 0 ≤ i ∧ ∃ c, es[i.toNat]? = some c ∧ c.length = P.cellsOf e ∧ c.length ≠ 0 ∧ K (.fp c)
      | none => False
    | .ms id off len => match elemO P T, h id with
      | some e, some (.cells k _ _) => 0 ≤ i ∧ i < len ∧ k = P.cellsOf e ∧ k ≠ 0 ∧ K (.own id (off + i.toNat) 0)
      | _, _ => False
    | .own id a j => match arrO P T, h id with
      | some (m, e), some (.cells _ _ _) => 0 ≤ i ∧ i < m ∧ P.cellsOf e ≠ 0 ∧ K (.own id a (j + i.toNat * P.cellsOf e))
      | _, _ => False
    | .fp cs => match arrO P T with
      | some (m, e) => 0 ≤ i ∧ i < m ∧ P.cellsOf e ≠ 0 ∧ K (.fp (cs.drop (i.toNat * P.cellsOf e)))
      | none => False
    | _ => False
  | _ => False

def idxK (P : Program) (T : TypeId) (x i : AV) (K : AV → Prop) : Prop :=
  match i with
  | .sc (.int _ i) => match x with
    | .ag cs => match arrO P T with
      | some (m, e) => 0 ≤ i ∧ i < m ∧ P.cellsOf e ≠ 0 ∧ partK P e cs (i.toNat * P.cellsOf e) K
      | none => False
    | .sc (.string s) => P.underlying T = some .string ∧ 0 ≤ i ∧ ∃ b, s[i.toNat]? = some b ∧ K (.sc (.int .u8 b.toNat))
    | _ => False
  | _ => False

/-- cells put over others -/
def putAt (e : List AV) (j : Nat) (xs : List AV) : List AV :=
  match xs with
  | [x] => e.set j x
  | xs => e.take j ++ xs ++ e.drop (j + xs.length)
theorem putAt_eq {e : List AV} {j : Nat} {xs : List AV} (h : j + xs.length ≤ e.length) : putAt e j xs = e.take j ++ xs ++ e.drop (j + xs.length) := by
  unfold putAt
  split
  · simp only [List.length_singleton] at h
    rw [List.set_eq_take_append_cons_drop, if_pos (by omega)]
    simp
  · rfl

def storeK (P : Program) (h : AH) (n : Nat) (T : TypeId) (p x : AV) (K : K3) : Prop :=
  match p with
  | .own id i j => match h id, cellsA x with
    | some (.cells k T' es), some xs => match es[i]? with
      | some e => xs.length = P.cellsOf T ∧ xs.length ≠ 0 ∧ j + xs.length ≤ e.length ∧ K .ud (updH h id (.cells k T' (es.set i (putAt e j xs)))) n
      | none => False
    | _, _ => False
  | _ => False

def liveA (h : AH) : AV → Bool
  | .fp _ | .fn _ _ => true
  | .own id _ _ => isCells (h id)
  | _ => false

def builtinK (P : Program) (env : Env) (h : AH) (n : Nat) (b : Builtin) (args : Array Operand) (ts : Array TypeId) (K : K3) : Prop :=
  match b, args.toList, ts.toList with
  | .len, [x], [T] => lenK P h T (ev env x) fun m => K (.sc (.int .i64 m)) h n
  | .append, [s, x], [T, T2] => appendK P h n T T2 (ev env s) (ev env x) K
  | .min, [x, y], _ => match ev env x, ev env y with
    | .sc (.int k i), .sc (.int k' j) => k = k' ∧ K (.sc (.int k (if j < i then j else i))) h n
    | _, _ => False
  | .max, [x, y], _ => match ev env x, ev env y with
    | .sc (.int k i), .sc (.int k' j) => k = k' ∧ K (.sc (.int k (if i < j then j else i))) h n
    | _, _ => False
  | _, _, _ => False

def convK (P : Program) (S T : TypeId) (x : AV) (K : AV → Prop) : Prop :=
  match x with
  | .sc (.int _ i) => match intO P T with
    | some k' => (P.underlying S).isSome = true ∧ K (.sc (.int k' (k'.wrap i)))
    | none => ∃ v, (∀ k w, (convert S T (.int k i)).run P w = .ok v w) ∧ v.oneCell' = true ∧ K (.sc v)
  | .sc u => ∃ v, (∀ w, (convert S T u).run P w = .ok v w) ∧ v.oneCell' = true ∧ K (.sc v)
  | _ => False

def unK (op : UnOp) (x : AV) (K : AV → Prop) : Prop :=
  match op, x with
  | .not, .sc (.bool b) => K (.sc (.bool (!b)))
  | .neg, .sc (.int k i) => K (.sc (.int k (k.wrap (0 - i))))
  | _, _ => False

def aop (P : Program) (env : Env) (h : AH) (n : Nat) (o : Oper) (K : K3) : Prop :=
  match o.op with
  | .move x => K (ev env x) h n
  | .assign x => K (ev env x) h n
  | .pick c a b => match ev env c with
    | .sc (.bool t) => K (if t then ev env a else ev env b) h n
    | _ => False
  | .alloc T => match zeroO P T with
    | some z => K (.own n 0 0) (updH h n (.cells z.length T [z])) (n + 1)
    | none => False
  | .box T x => match cellsA (ev env x) with
    | some cs => K (.own n 0 0) (updH h n (.cells cs.length T [cs])) (n + 1)
    | none => False
  | .load T x => match deref h (ev env x) with
    | some cs => loadK P h n T cs K
    | none => False
  | .store T p x => storeK P h n T (ev env p) (ev env x) K
  | .nilCheck x => liveA h (ev env x) = true ∧ K (ev env x) h n
  | .binOp op T x y _ => abin P h op T (ev env x) (ev env y) fun v => K v h n
  | .unOp op _ x => unK op (ev env x) fun v => K v h n
  | .convert S T x => convK P S T (ev env x) fun v => K v h n
  | .makeFunc (.func f) first caps => first = #[] ∧ K (.fn f (caps.toList.map (ev env))) h n
  | .makeSlice T x y => match elemO P T with
    | some e => match zeroO P e, ev env x, ev env y with
      | some z, .sc (.int _ i), .sc (.int _ j) => i = j ∧ 0 ≤ i ∧ i ≤ 1048576 ∧ P.bytesOf e ≤ 1024 ∧ z ≠ [] ∧ K (.ms n 0 i.toNat) (updH h n (.cells z.length e (List.replicate i.toNat z))) (n + 1)
      | _, _, _ => False
    | none => False
  | .slice T x lo hi none => sliceK P h T (ev env x) (lo.map (ev env)) (hi.map (ev env)) fun v => K v h n
  | .fieldAddr T x f => match fldO P T f with
    | some (d, _) => match ev env x with
      | .fp cs => K (.fp (cs.drop d)) h n
      | .own id i j => isCells (h id) = true ∧ K (.own id i (j + d)) h n
      | _ => False
    | none => False
  | .field T x f => match fldO P T f, ev env x with
    | some (d, t), .ag cs => partK P t cs d fun v => K v h n
    | _, _ => False
  | .indexAddr T x i => idxAddrK P h T (ev env x) (ev env i) fun v => K v h n
  | .index T x i => idxK P T (ev env x) (ev env i) fun v => K v h n
  | .extract x i => match ev env x with
    | .tp cs => ∃ c, cs[i]? = some c ∧ K c h n
    | _ => False
  | .build T parts => match zeroO P T, placesO P T with
    | some z, some pl => match fillS pl env parts.toList z with
      | some cs => K (.ag cs) h n
      | none => False
    | _, _ => False
  | .buildSlice T len parts => match elemO P T with
    | some e => match zeroO P e with
      | some z => len ≤ 1000 ∧ z.length ≤ 1000 ∧ match fillE z.length env parts.toList (List.replicate len z) with
        | some es => K (.ms n 0 len) (updH h n (.cells z.length e es)) (n + 1) ∨ K (.sl es) h n ∨ (len = 0 ∧ K .e0 h n)
        | none => False
      | none => False
    | none => False
  | .makeMap T none => K (.mp n) (updH h n (.map [])) (n + 1)
  | .lookup T m k ok => lookupK P h T (ev env m) (ev env k) ok fun v => K v h n
  | .mapUpdate T m k x => mapUpdK P h n T (ev env m) (ev env k) (ev env x) K
  | .call c => match c.callee with
    | .builtin b => builtinK P env h n b c.args c.argTypes K
    | .value f => callK P h n (ev env f) (c.args.toList.map (ev env)) K
    | .invoke _ _ => False
  | _ => False

section
variable {P : Program} {o : Oper} {a : Act} {w : World} {O : Nat → Prop} {μ : Mu} {h : AH} {n : Nat} {K : K3} {env : Env}

def OpW (P : Program) (o : Oper) (a : Act) (w : World) (O : Nat → Prop) (μ : Mu) (n : Nat) (K : K3) : Prop :=
  ∀ (next : Act → World → Prop) (Q : Exit → Act → World → Prop), (∀ u w' μ' v h' n', K v h' n' → HR w' O μ' h' n' → VR w' O μ' n' v u → Evo w μ n w' μ' n' → next (a.put o.dst u) w') → o.wp P a w next Q

theorem OpR.toW (hR : OpR P o a w O μ n K) : OpW P o a w O μ n K := by
  obtain ⟨u, w', μ', v, h', n', hrun, hk, h1, h2, h3⟩ := hR
  intro next Q hn
  unfold Oper.wp
  rcases hrun with hrun | ⟨hrun, rfl⟩
  · rw [hrun, Oper.upon_value]; exact hn u w' μ' v h' n' hk h1 h2 h3
  · rw [hrun, Oper.upon_skip]; exact hn undef w' μ' v h' n' hk h1 h2 h3

theorem snd_call {c : Call} {f : Operand} (ho : o.op = .call c) (hf : c.callee = .value f) (hr : HR w O μ h n) (hv : ∀ x, VR w O μ n (ev env x) (a.eval x)) (hk : callK P h n (ev env f) (c.args.toList.map (ev env)) K) : OpW P o a w O μ n K := by
  intro next Q hn
  unfold callK at hk
  have hfv := hv f
  generalize hu : a.eval f = u at hfv
  split at hk
  · rename_i g caps hcap
    rw [hcap] at hfv
    obtain ⟨⟨fn, hfn, hbody, hname⟩, hk⟩ := hk
    cases hfv with
    | fn _ _ vs us hs hc hr' =>
      have hrun : (execOp a.eval o).run P w = .ok (.enter g (c.args.map a.eval ++ vs)) w := by
        have hb : fn.body ≠ none := by intro hfb; rw [hfb] at hbody; cases hbody
        have hnm : fn.name ≠ "runtime.NumGoroutine" := by intro hnn; rw [hnn] at hname; simp at hname
        simp [execOp, ho, resolve, hf, hu, Deferred.ofValue, invoke, callFunc, hfn, hnm, hb]
      unfold Oper.wp
      rw [hrun, Oper.upon_enter]
      refine (hk O μ w _ hr (by simp [hs]) (fun j x hj => ?_)).mono ?_
      · rw [List.getElem?_append] at hj
        rw [Array.getElem?_append]
        simp only [List.length_map, Array.length_toList, Array.size_map] at hj ⊢
        split at hj
        · rename_i hlt
          rw [if_pos hlt]
          simp only [List.getElem?_map, Option.map_eq_some_iff, Array.getElem?_toList] at hj
          obtain ⟨y, hy, rfl⟩ := hj
          exact ⟨a.eval y, by simp [hy], hv y⟩
        · rename_i hge
          rw [if_neg hge]
          exact ⟨_, hc _ x hj, hr' _ x hj⟩
      · rintro e w' ⟨u', v, h', n', μ', rfl, q1, q2, q3, q4⟩
        exact hn u' w' μ' v h' n' q1 q2 q3 q4
  · exact hk.elim

theorem aop_sound (hk : aop P env h n o K) (hr : HR w O μ h n) (hv : ∀ x, VR w O μ n (ev env x) (a.eval x)) : OpW P o a w O μ n K := by
  unfold aop at hk
  split at hk
  · rename_i x ho; exact (snd_move (.inl ho) hr (hv x) hk).toW
  · rename_i x ho; exact (snd_move (.inr ho) hr (hv x) hk).toW
  · rename_i c x y ho
    split at hk
    · rename_i t hc; have := hv c; rw [hc] at this; exact (snd_pick ho hr this (hv x) (hv y) hk).toW
    · exact hk.elim
  · rename_i T ho
    split at hk
    · rename_i z hz; exact (snd_alloc ho hr hz hk).toW
    · exact hk.elim
  · rename_i T x ho
    split at hk
    · rename_i cs hc; exact (snd_box ho hr (hv x) hc hk).toW
    · exact hk.elim
  · rename_i T x ho
    split at hk
    · rename_i cs hc; exact (snd_load ho hr (hv x) hc hk).toW
    · exact hk.elim
  · rename_i T p x ho
    unfold storeK at hk
    split at hk
    · rename_i id i j hp
      split at hk
      · rename_i k T' es xs hB hx
        split at hk
        · rename_i e he
          obtain ⟨h1, h2, h3, hk⟩ := hk
          have := hv p; rw [hp] at this
          rw [putAt_eq h3] at hk
          exact (snd_store ho hr this hB he (hv x) hx h1 h2 h3 hk).toW
        · exact hk.elim
      · exact hk.elim
    · exact hk.elim
  · rename_i x ho
    obtain ⟨hl, hk⟩ := hk
    have hx := hv x
    generalize ev env x = v at *
    cases v <;> simp only [liveA, Bool.false_eq_true] at hl
    · obtain ⟨k, T, es, hB⟩ := isCells_some hl; exact (snd_nilCheck_own ho hr hB hx hk).toW
    · exact (snd_nilCheck_fp ho hr hx hk).toW
    · exact (snd_nilCheck_fn ho hr hx hk).toW
  · rename_i op T x y T2 ho; exact (snd_binOp ho hr (hv x) (hv y) hk).toW
  · rename_i op T x ho
    unfold unK at hk
    split at hk
    · rename_i b hx; have := hv x; rw [hx] at this; exact (snd_not T ho hr this hk).toW
    · rename_i k i hx; have := hv x; rw [hx] at this; exact (snd_neg T ho hr this hk).toW
    · exact hk.elim
  · rename_i S T x ho
    unfold convK at hk
    split at hk
    · rename_i k i hx
      have hxv := hv x; rw [hx] at hxv
      split at hk
      · rename_i k' hT; exact (snd_convert_int ho hr hk.1 hT hxv hk.2).toW
      · obtain ⟨v, h1, h2, hk⟩ := hk; exact (snd_convert_sc ho hr hxv (h1 k) h2 hk).toW
    · rename_i u hx hxe
      have hxv := hv x; rw [hxe] at hxv
      obtain ⟨v, h1, h2, hk⟩ := hk; exact (snd_convert_sc ho hr hxv h1 h2 hk).toW
    · exact hk.elim
  · rename_i f first caps ho
    obtain ⟨rfl, hk⟩ := hk
    exact (snd_makeFunc ho hr hv hk).toW
  · rename_i T x y ho
    split at hk
    · rename_i e he
      split at hk
      · rename_i z k i k' j hz hx hy
        obtain ⟨rfl, h0, h1, hb, hne, hk⟩ := hk
        have hxv := hv x; rw [hx] at hxv
        have hyv := hv y; rw [hy] at hyv
        exact (snd_makeSlice ho hr he hz hne hxv hyv h0 h1 hb hk).toW
      · exact hk.elim
    · exact hk.elim
  · rename_i T x lo hi ho; exact (snd_slice ho hr hv hk).toW
  · rename_i T x f ho
    split at hk
    · rename_i d t hf
      have hxv := hv x
      split at hk
      · rename_i cs hx; rw [hx] at hxv; exact (snd_fieldAddr_fp ho hr hf hxv hk).toW
      · rename_i id i j hx
        rw [hx] at hxv
        obtain ⟨hB, hk⟩ := hk
        obtain ⟨k, T', es, hB⟩ := isCells_some hB
        exact (snd_fieldAddr_own ho hr hf hB hxv hk).toW
      · exact hk.elim
    · exact hk.elim
  · rename_i T x f ho
    split at hk
    · rename_i d t cs hf hx
      have hxv := hv x; rw [hx] at hxv
      exact (snd_field ho hr hf hxv hk).toW
    · exact hk.elim
  · rename_i T x i ho
    unfold idxAddrK at hk
    split at hk
    · rename_i k i' hi
      have hiv := hv i; rw [hi] at hiv
      have hxv := hv x
      split at hk
      · rename_i es hx
        rw [hx] at hxv
        split at hk
        · rename_i e he
          obtain ⟨h0, c, hc, hl, hne, hk⟩ := hk
          exact (snd_indexAddr_sl ho hr he hxv hiv h0 hc hl hne hk).toW
        · exact hk.elim
      · rename_i id off len hx
        rw [hx] at hxv
        split at hk
        · rename_i e k T' es he hB
          obtain ⟨h0, h1, h2, h3, hk⟩ := hk
          exact (snd_indexAddr_ms ho hr he hB h2 h3 hxv hiv h0 h1 hk).toW
        · exact hk.elim
      · rename_i id i0 j0 hx
        rw [hx] at hxv
        split at hk
        · rename_i m e k T' es he hB
          obtain ⟨h0, h1, h2, hk⟩ := hk
          exact (snd_indexAddr_arr_own ho hr he h2 hB hxv hiv h0 h1 hk).toW
        · exact hk.elim
      · rename_i cs hx
        rw [hx] at hxv
        split at hk
        · rename_i m e he
          obtain ⟨h0, h1, h2, hk⟩ := hk
          exact (snd_indexAddr_arr_fp ho hr he h2 hxv hiv h0 h1 hk).toW
        · exact hk.elim
      · exact hk.elim
    · exact hk.elim
  · rename_i T x i ho
    unfold idxK at hk
    split at hk
    · rename_i k i' hi
      have hiv := hv i; rw [hi] at hiv
      have hxv := hv x
      split at hk
      · rename_i cs hx
        rw [hx] at hxv
        split at hk
        · rename_i m e he
          obtain ⟨h0, h1, h2, hk⟩ := hk
          exact (snd_index_arr ho hr he h2 hxv hiv h0 h1 hk).toW
        · exact hk.elim
      · rename_i s hx
        rw [hx] at hxv
        obtain ⟨hT, h0, b, hb, hk⟩ := hk
        exact (snd_index_str ho hr hT hxv hiv h0 hb hk).toW
      · exact hk.elim
    · exact hk.elim
  · rename_i x i ho
    split at hk
    · rename_i cs hx
      obtain ⟨c, hc, hk⟩ := hk
      have hxv := hv x; rw [hx] at hxv
      exact (snd_extract ho hr hxv hc hk).toW
    · exact hk.elim
  · rename_i T parts ho
    split at hk
    · rename_i z pl hz hp
      split at hk
      · rename_i cs hf; exact (snd_build ho hr hv hz hp hf hk).toW
      · exact hk.elim
    · exact hk.elim
  · rename_i T len parts ho
    split at hk
    · rename_i e he
      split at hk
      · rename_i z hz
        obtain ⟨h1, h2, hk⟩ := hk
        split at hk
        · rename_i es hf
          rcases hk with hk | hk | ⟨rfl, hk⟩
          · exact (snd_buildSlice ho hr he hv hz h1 h2 hf hk).toW
          · exact (snd_buildSliceF ho hr he hv hz h1 h2 hf hk).toW
          · exact (snd_buildSlice0 ho hr he hv hz h2 hf hk).toW
        · exact hk.elim
      · exact hk.elim
    · exact hk.elim
  · rename_i T ho; exact (snd_makeMap ho hr hk).toW
  · rename_i T m k ok ho; exact (snd_lookup ho hr (hv m) (hv k) hk).toW
  · rename_i T m k x ho; exact (snd_mapUpdate ho hr (hv m) (hv k) (hv x) hk).toW
  · rename_i c ho
    split at hk
    · rename_i b hb
      unfold builtinK at hk
      obtain ⟨callee, args, ts⟩ := c
      simp only at hb hk
      subst hb
      have eq1 : ∀ {α : Type} {xs : Array α} {l : List α}, xs.toList = l → xs = l.toArray := fun h => by rw [← h]
      split at hk
      · rename_i x T ha ht
        rw [eq1 ha, eq1 ht] at ho
        exact (snd_len ho hr (hv x) hk).toW
      · rename_i s x T T2 ha ht
        rw [eq1 ha, eq1 ht] at ho
        exact (snd_append ho hr (hv s) (hv x) hk).toW
      · rename_i ts' x y ha
        rw [eq1 ha] at ho
        split at hk
        · rename_i k i k' j hx hy
          obtain ⟨rfl, hk⟩ := hk
          have hxv := hv x; rw [hx] at hxv
          have hyv := hv y; rw [hy] at hyv
          exact ((snd_minmax hr hxv hyv).1 ho hk).toW
        · exact hk.elim
      · rename_i ts' x y ha
        rw [eq1 ha] at ho
        split at hk
        · rename_i k i k' j hx hy
          obtain ⟨rfl, hk⟩ := hk
          have hxv := hv x; rw [hx] at hxv
          have hyv := hv y; rw [hy] at hyv
          exact ((snd_minmax hr hxv hyv).2 ho hk).toW
        · exact hk.elim
      · exact hk.elim
    · rename_i f hf; exact snd_call ho hf hr hv hk
    · exact hk.elim
  · exact hk.elim

end
end Go.Abs
