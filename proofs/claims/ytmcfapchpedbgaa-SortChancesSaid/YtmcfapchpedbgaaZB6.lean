/- Contracts of functions that only read: PC. From HC to PC and back. -/
import Derived.Test.YtmcfapchpedbgaaZB5
set_option linter.unusedSimpArgs false
set_option linter.unusedVariables false
namespace Go.Abs
open Go Go.RowKit

abbrev mu0 : Mu := fun _ => none
abbrev ah0 : AH := fun _ => none

/-- no own block in it -/
inductive Free : AV → Prop
  | sc (v : Value) : Free (.sc v)
  | ud : Free .ud
  | un : Free .un
  | e0 : Free .e0
  | fp (cs : List AV) (h : ∀ (j : Nat) (c : AV), cs[j]? = some c → Free c) : Free (.fp cs)
  | sl (es : List (List AV)) (h : ∀ (i : Nat) (e : List AV), es[i]? = some e → ∀ (j : Nat) (c : AV), e[j]? = some c → Free c) : Free (.sl es)
  | fn (f : FuncId) (cs : List AV) (h : ∀ (j : Nat) (c : AV), cs[j]? = some c → Free c) : Free (.fn f cs)
  | ag (cs : List AV) (h : ∀ (j : Nat) (c : AV), cs[j]? = some c → Free c) : Free (.ag cs)
  | tp (cs : List AV) (h : ∀ (j : Nat) (c : AV), cs[j]? = some c → Free c) : Free (.tp cs)

/-- numbers and the like alone -/
inductive Flat : AV → Prop
  | sc (v : Value) : Flat (.sc v)
  | ag (cs : List AV) (h : ∀ (j : Nat) (c : AV), cs[j]? = some c → Flat c) : Flat (.ag cs)
  | tp (cs : List AV) (h : ∀ (j : Nat) (c : AV), cs[j]? = some c → Flat c) : Flat (.tp cs)

section
variable {P : Program} {w : World} {O : Nat → Prop} {μ : Mu} {h : AH} {n : Nat}

theorem VR.free {a : AV} {v : Value} (hv : VR w O μ n a v) (hf : Free a) {O' : Nat → Prop} (ho : ∀ b, O' b → Av O μ b) : VR w O' mu0 0 a v := by
  have hav : ∀ b, Av O' mu0 b → Av O μ b := fun b hb => by
    rcases hb with hb | ⟨id, k, hb⟩
    · exact ho b hb
    · cases hb
  induction hv with
  | sc v h1 => exact .sc v h1
  | ud => exact .ud
  | un v => exact .un v
  | e0 p => exact .e0 p
  | own => cases hf
  | ms => cases hf
  | mp => cases hf
  | fp cs b o us hA hc h1 _ ih => cases hf with | fp _ hf => exact .fp cs b o us (fun hne hb => hA hne (hav b hb)) hc h1 fun j c hj => ih j c hj (hf j c hj)
  | slnil p => exact .slnil p
  | sl es b o cap k us hcap hmax hA hk hc h1 _ ih => cases hf with | sl _ hf => exact .sl es b o cap k us hcap hmax (fun i e hi hne hb => hA i e hi hne (hav b hb)) hk hc h1 fun i e hi j c hj => ih i e hi j c hj (hf i e hi j c hj)
  | fn f cs vs us hs hc _ ih => cases hf with | fn _ _ hf => exact .fn f cs vs us hs hc fun j c hj => ih j c hj (hf j c hj)
  | ag cs vs us hs hc h1 _ ih => cases hf with | ag _ hf => exact .ag cs vs us hs hc h1 fun j c hj => ih j c hj (hf j c hj)
  | tp cs vs us hs hc _ ih => cases hf with | tp _ hf => exact .tp cs vs us hs hc fun j c hj => ih j c hj (hf j c hj)

/-- what was read with no own blocks may be read with more of them, where they were avoided -/
theorem VR.lift {a : AV} {v : Value} {O' : Nat → Prop} (hv : VR w O' mu0 0 a v) (ho : ∀ b, Av O μ b → O' b) : VR w O μ n a v := by
  induction hv with
  | sc v h1 => exact .sc v h1
  | ud => exact .ud
  | un v => exact .un v
  | e0 p => exact .e0 p
  | own _ _ _ _ h => omega
  | ms _ _ _ _ h => omega
  | mp _ _ h => omega
  | fp cs b o us hA hc h1 _ ih => exact .fp cs b o us (fun hne hb => hA hne (.inl (ho b hb))) hc h1 ih
  | slnil p => exact .slnil p
  | sl es b o cap k us hcap hmax hA hk hc h1 _ ih => exact .sl es b o cap k us hcap hmax (fun i e hi hne hb => hA i e hi hne (.inl (ho b hb))) hk hc h1 ih
  | fn f cs vs us hs hc _ ih => exact .fn f cs vs us hs hc ih
  | ag cs vs us hs hc h1 _ ih => exact .ag cs vs us hs hc h1 ih
  | tp cs vs us hs hc _ ih => exact .tp cs vs us hs hc ih

theorem VR.flat {a : AV} {v : Value} (hv : VR w O μ n a v) (hf : Flat a) (w' : World) (O' : Nat → Prop) (μ' : Mu) (n' : Nat) : VR w' O' μ' n' a v := by
  induction hv with
  | sc v h1 => exact .sc v h1
  | ag cs vs us hs hc h1 _ ih => cases hf with | ag _ hf => exact .ag cs vs us hs hc h1 fun j c hj => ih j c hj (hf j c hj)
  | tp cs vs us hs hc _ ih => cases hf with | tp _ hf => exact .tp cs vs us hs hc fun j c hj => ih j c hj (hf j c hj)
  | _ => cases hf

/-- own blocks told by what they hold -/
inductive Snap (h : AH) : AV → AV → Prop
  | free (a : AV) (hf : Free a) : Snap h a a
  | nilS : Snap h (.sc (.slice none 0 0)) (.sl [])
  | own (id i j k : Nat) (T : TypeId) (es : List (List AV)) (e cs : List AV) (hB : h id = some (.cells k T es)) (he : es[i]? = some e) (hl : cs.length = (e.drop j).length)
      (hr : ∀ (q : Nat) (c c' : AV), (e.drop j)[q]? = some c → cs[q]? = some c' → Snap h c c') : Snap h (.own id i j) (.fp cs)
  | ms (id off len k : Nat) (T : TypeId) (es es' : List (List AV)) (hB : h id = some (.cells k T es)) (hle : off + len ≤ es.length) (hl : es'.length = len)
      (hk : ∀ (q : Nat) (e e' : List AV), es[off + q]? = some e → es'[q]? = some e' → e'.length = e.length)
      (hr : ∀ (q : Nat) (e e' : List AV), es[off + q]? = some e → es'[q]? = some e' → ∀ (p : Nat) (c c' : AV), e[p]? = some c → e'[p]? = some c' → Snap h c c') : Snap h (.ms id off len) (.sl es')
  | fp (cs cs' : List AV) (hl : cs'.length = cs.length) (hr : ∀ (q : Nat) (c c' : AV), cs[q]? = some c → cs'[q]? = some c' → Snap h c c') : Snap h (.fp cs) (.fp cs')
  | sl (es es' : List (List AV)) (hl : es'.length = es.length) (hk : ∀ (q : Nat) (e e' : List AV), es[q]? = some e → es'[q]? = some e' → e'.length = e.length)
      (hr : ∀ (q : Nat) (e e' : List AV), es[q]? = some e → es'[q]? = some e' → ∀ (p : Nat) (c c' : AV), e[p]? = some c → e'[p]? = some c' → Snap h c c') : Snap h (.sl es) (.sl es')
  | fn (f : FuncId) (cs cs' : List AV) (hl : cs'.length = cs.length) (hr : ∀ (q : Nat) (c c' : AV), cs[q]? = some c → cs'[q]? = some c' → Snap h c c') : Snap h (.fn f cs) (.fn f cs')
  | ag (cs cs' : List AV) (hl : cs'.length = cs.length) (hr : ∀ (q : Nat) (c c' : AV), cs[q]? = some c → cs'[q]? = some c' → Snap h c c') : Snap h (.ag cs) (.ag cs')
  | tp (cs cs' : List AV) (hl : cs'.length = cs.length) (hr : ∀ (q : Nat) (c c' : AV), cs[q]? = some c → cs'[q]? = some c' → Snap h c c') : Snap h (.tp cs) (.tp cs')

theorem Snap.one {a a' : AV} (hs : Snap h a a') (h1 : a.one = true) : a'.one = true := by
  cases hs <;> first | exact h1 | rfl | (simp [AV.one] at h1; done)

theorem other_of {α : Type} {l l' : List α} (hl : l'.length = l.length) {q : Nat} {c' : α} (hq : l'[q]? = some c') : ∃ c, l[q]? = some c :=
  ⟨l[q]'(by rw [← hl]; exact (List.getElem?_eq_some_iff.1 hq).1), List.getElem?_eq_getElem _⟩

theorem Snap.vr {a a' : AV} (hs : Snap h a a') (hr : HR w O μ h n) : ∀ {v : Value}, VR w O μ n a v → VR w O mu0 0 a' v := by
  have hO : ∀ b, (∃ id k, μ id = some (b, k)) → ¬ Av O mu0 b := fun b hb ha => by
    obtain ⟨id, k, hb⟩ := hb
    rcases ha with ha | ⟨_, _, ha⟩
    · exact hr.notO id b k hb ha
    · cases ha
  have hO2 : ∀ b, ¬ Av O μ b → ¬ Av O mu0 b := fun b hb ha => by
    rcases ha with ha | ⟨_, _, ha⟩
    · exact hb (.inl ha)
    · cases ha
  induction hs with
  | free a hf => intro v hv; exact hv.free hf fun b hb => .inl hb
  | nilS => intro v hv; rw [hv.sc_inv]; exact .slnil none
  | own id i j k T es e cs hB he hl hsn ih =>
    intro v hv
    obtain ⟨b, c, g1, g2, rfl, g4⟩ := live_own hr hB hv
    obtain ⟨b', c', f1, f2, f3⟩ := hr.own_cells hB
    rw [g1] at f1; cases f1
    have hrd := ((f3 i e he).2).drop j
    have cell : ∀ q c', cs[q]? = some c' → ∃ x, (e.drop j)[q]? = some x := fun q c' hq => other_of hl hq
    refine .fp cs b (i * k + j) (fun q => (w.cell? ⟨b, i * k + j + q, none⟩).getD undef) (fun _ => hO b ⟨id, k, g1⟩) (fun q c' hq => ?_) (fun q c' hq => ?_) (fun q c' hq => ?_)
    all_goals
      obtain ⟨x, hx⟩ := cell q c' hq
      obtain ⟨p1, u, p2, p3⟩ := hrd q x hx
    · rw [p2]; rfl
    · exact (hsn q x c' hx hq).one p1
    · rw [p2]; exact ih q x c' hx hq p3
  | ms id off len k T es es' hB hle hl hk hsn ih =>
    intro v hv
    obtain ⟨b, c, oo, cap, g1, g2, rfl, g3, g4, g5, g6, g7⟩ := live_ms hr hB hv
    obtain ⟨b', c', f1, f2, f3⟩ := hr.own_cells hB
    rw [g1] at f1; cases f1
    have elem : ∀ q e', es'[q]? = some e' → ∃ x, es[off + q]? = some x := fun q e' hq => by
      have := (List.getElem?_eq_some_iff.1 hq).1
      exact ⟨es[off + q]'(by omega), List.getElem?_eq_getElem _⟩
    subst hl
    refine .sl es' b oo cap k (fun q p => (w.cell? ⟨b, oo + q * k + p, none⟩).getD undef) g4 g5 (fun _ _ _ _ => hO b ⟨id, k, g1⟩) (fun q e' hq => ?_) (fun q e' hq p c' hp => ?_) (fun q e' hq p c' hp => ?_) (fun q e' hq p c' hp => ?_)
    · obtain ⟨x, hx⟩ := elem q e' hq
      rw [hk q x e' hx hq]; exact (f3 _ x hx).1
    all_goals
      obtain ⟨x, hx⟩ := elem q e' hq
      obtain ⟨y, hy⟩ := other_of (hk q x e' hx hq) hp
      obtain ⟨p1, u, p2, p3⟩ := (f3 _ x hx).2 p y hy
      have hq' := (List.getElem?_eq_some_iff.1 hq).1
      have hadr : oo + q * k + p = (off + q) * k + p := by rw [g6 (by omega), Nat.add_mul]
    · rw [hadr, p2]; rfl
    · exact Snap.one (hsn q x e' hx hq p y c' hy hp) p1
    · rw [hadr, p2]; exact ih q x e' hx hq p y c' hy hp p3
  | fp cs cs' hl hsn ih =>
    intro v hv
    cases hv with
    | fp _ b o us hA hc h1 hr' =>
      refine .fp cs' b o us (fun hne => hO2 b (hA (by rintro rfl; simp at hl; exact hne hl))) (fun q c' hq => ?_) (fun q c' hq => ?_) (fun q c' hq => ?_)
      all_goals obtain ⟨x, hx⟩ := other_of hl hq
      · exact hc q x hx
      · exact (hsn q x c' hx hq).one (h1 q x hx)
      · exact ih q x c' hx hq (hr' q x hx)
  | sl es es' hl hk hsn ih =>
    intro v hv
    cases hv with
    | slnil => simp at hl; subst hl; exact .slnil _
    | sl _ b o cap k us hcap hmax hA hkk hc h1 hr' =>
      rw [← hl]
      refine .sl es' b o cap k us (by omega) hmax (fun q e' hq hne => ?_) (fun q e' hq => ?_) (fun q e' hq p c' hp => ?_) (fun q e' hq p c' hp => ?_) (fun q e' hq p c' hp => ?_)
      all_goals obtain ⟨x, hx⟩ := other_of hl hq
      · exact hO2 b (hA q x hx (by rintro rfl; have := hk q [] e' hx hq; simp at this; exact hne this))
      · rw [hk q x e' hx hq]; exact hkk q x hx
      all_goals obtain ⟨y, hy⟩ := other_of (hk q x e' hx hq) hp
      · exact hc q x hx p y hy
      · exact (hsn q x e' hx hq p y c' hy hp).one (h1 q x hx p y hy)
      · exact ih q x e' hx hq p y c' hy hp (hr' q x hx p y hy)
  | fn f cs cs' hl hsn ih =>
    intro v hv
    cases hv with
    | fn _ _ vs us hs hc hr' =>
      refine .fn f cs' vs us (by omega) (fun q c' hq => ?_) (fun q c' hq => ?_)
      all_goals obtain ⟨x, hx⟩ := other_of hl hq
      · exact hc q x hx
      · exact ih q x c' hx hq (hr' q x hx)
  | ag cs cs' hl hsn ih =>
    intro v hv
    cases hv with
    | ag _ vs us hs hc h1 hr' =>
      refine .ag cs' vs us (by omega) (fun q c' hq => ?_) (fun q c' hq => ?_) (fun q c' hq => ?_)
      all_goals obtain ⟨x, hx⟩ := other_of hl hq
      · exact hc q x hx
      · exact (hsn q x c' hx hq).one (h1 q x hx)
      · exact ih q x c' hx hq (hr' q x hx)
  | tp cs cs' hl hsn ih =>
    intro v hv
    cases hv with
    | tp _ vs us hs hc hr' =>
      refine .tp cs' vs us (by omega) (fun q c' hq => ?_) (fun q c' hq => ?_)
      all_goals obtain ⟨x, hx⟩ := other_of hl hq
      · exact hc q x hx
      · exact ih q x c' hx hq (hr' q x hx)

/-- The contract of a function that leaves everything as it is. -/
def PC (P : Program) (f : FuncId) (args : List AV) (R : AV → Prop) : Prop :=
  (∃ fn, P.funcs[f]? = some fn ∧ fn.body.isSome = true ∧ (fn.name == "runtime.NumGoroutine") = false) ∧
  ∀ (O : Nat → Prop) (w : World) (vs : Array Value), (∀ b, O b → b < w.heap.size) → vs.size = args.length → (∀ (j : Nat) (c : AV), args[j]? = some c → ∃ u, vs[j]? = some u ∧ VR w O mu0 0 c u) →
    Calls P f vs w (fun e w' => ∃ u v, e = .returned u ∧ R v ∧ VR w' O mu0 0 v u ∧ Below w.heap.size w w')

theorem PC.mono {f : FuncId} {args : List AV} {R R' : AV → Prop} (hc : PC P f args R) (hr : ∀ v, R v → R' v) : PC P f args R' :=
  ⟨hc.1, fun O w vs h1 h2 h3 => (hc.2 O w vs h1 h2 h3).mono fun _ _ ⟨u, v, q1, q2, q3⟩ => ⟨u, v, q1, hr _ q2, q3⟩⟩

theorem HR.zero (w : World) (O : Nat → Prop) (ho : ∀ b, O b → b < w.heap.size) : HR w O mu0 ah0 0 :=
  ⟨ho, fun id b k h => (by cases h), fun _ _ _ _ _ h => (by cases h), fun _ _ _ h => (by cases h), fun _ _ h => (by cases h)⟩

theorem PC.of_HC {f : FuncId} {args : List AV} {R : AV → Prop} (hc : HC P f args ah0 0 (fun v h _ => ∃ v', Snap h v v' ∧ R v')) : PC P f args R := by
  refine ⟨hc.1, fun O w vs ho hs hv => (hc.2 O mu0 w vs (HR.zero w O ho) hs hv).mono ?_⟩
  rintro e w' ⟨u, v, h', n', μ', rfl, ⟨v', q1, q2⟩, q3, q4, q5⟩
  exact ⟨u, v', rfl, q2, q1.vr q3 q4, ⟨q5.os, q5.tape, q5.output, q5.size, fun b hb => q5.keep b hb (fun id k h => by cases h)⟩⟩

theorem Evo.of_below {w' : World} (hr : HR w O μ h n) (hb : Below w.heap.size w w') : Evo w μ n w' μ n ∧ HR w' O μ h n := by
  have he : Evo w μ n w' μ n := ⟨hb.os, hb.tape, hb.output, hb.size, Nat.le_refl _, fun b hlt _ => hb.block b hlt, fun b c T f hc => ⟨c, by rw [hb.block b (Array.getElem?_eq_some_iff.1 hc).1]; exact hc, rfl⟩, fun _ _ => .inl rfl,
    fun id b k e hn => absurd (hr.scope id b k e).1 (by omega)⟩
  refine ⟨he, fun b h => Nat.lt_of_lt_of_le (hr.olt b h) hb.size, fun id b k e => ⟨(hr.scope id b k e).1, Nat.lt_of_lt_of_le (hr.scope id b k e).2 hb.size⟩, hr.inj, hr.notO, fun id B hB => ?_⟩
  exact (hr.blk id B hB).evo rfl (fun b k e => hb.block b (hr.scope id b k e).2) he

/-- a call with frozen arguments -/
theorem PC.free {f : FuncId} {args : List AV} {R : AV → Prop} (hc : PC P f args R) (hf : ∀ (j : Nat) (c : AV), args[j]? = some c → Free c) (h : AH) (n : Nat) : HC P f args h n (fun v h' n' => R v ∧ h' = h ∧ n' = n) := by
  refine ⟨hc.1, fun O μ w vs hr hs hv => (hc.2 (Av O μ) w vs (fun b hb => ?_) hs (fun j c hj => ?_)).mono ?_⟩
  · rcases hb with hb | ⟨id, k, hb⟩
    · exact hr.olt b hb
    · exact (hr.scope id b k hb).2
  · obtain ⟨u, h1, h2⟩ := hv j c hj
    exact ⟨u, h1, h2.free (hf j c hj) fun b hb => hb⟩
  · rintro e w' ⟨u, v, rfl, q1, q2, q3⟩
    obtain ⟨e1, h1⟩ := Evo.of_below hr q3
    exact ⟨u, v, h, n, μ, rfl, ⟨q1, rfl, rfl⟩, h1, q2.lift fun b hb => hb, e1⟩

/-- a call with own blocks lent, the result being numbers -/
theorem PC.lent {f : FuncId} {args args' : List AV} {R : AV → Prop} (hc : PC P f args' R) (h : AH) (n : Nat) (hl : args'.length = args.length) (hsn : ∀ (j : Nat) (c c' : AV), args[j]? = some c → args'[j]? = some c' → Snap h c c')
    (hflat : ∀ v, R v → Flat v) : HC P f args h n (fun v h' n' => R v ∧ h' = h ∧ n' = n) := by
  refine ⟨hc.1, fun O μ w vs hr hs hv => (hc.2 O w vs hr.olt (by omega) (fun j c' hj => ?_)).mono ?_⟩
  · obtain ⟨c, hcj⟩ := other_of hl hj
    obtain ⟨u, h1, h2⟩ := hv j c hcj
    exact ⟨u, h1, (hsn j c c' hcj hj).vr hr h2⟩
  · rintro e w' ⟨u, v, rfl, q1, q2, q3⟩
    obtain ⟨e1, h1⟩ := Evo.of_below hr q3
    exact ⟨u, v, h, n, μ, rfl, ⟨q1, rfl, rfl⟩, h1, q2.flat (hflat v q1) _ _ _ _, e1⟩

end
end Go.Abs
