/- Pieces of code in a walk. -/
import Derived.Test.YtmcfapchpedbgaaZE1
set_option linter.unusedSimpArgs false
set_option linter.unusedVariables false
namespace Go.Abs
open Go Go.RowKit

structure StLe (s : St) (env : Env) (L : List (Nat × Option ABlk)) (n : Nat) : Prop where
  env : s.env = env
  h : ∀ (i : Nat) (B : ABlk), hl L i = some B → s.h i = some B
  n : s.n ≤ n

theorem hs_nil {h : AH} : ∀ (i : Nat) (B : ABlk), hl [] i = some B → h i = some B := fun i B h => by simp [hl] at h
theorem hs_cons {h : AH} {i : Nat} {A : Option ABlk} {L : List (Nat × Option ABlk)} (h1 : h i = A) (h2 : ∀ (i : Nat) (B : ABlk), hl L i = some B → h i = some B) : ∀ (j : Nat) (B : ABlk), hl ((i, A) :: L) j = some B → h j = some B := fun j B hj => by
  simp only [hl] at hj
  split at hj
  · rename_i e; rw [e, h1, hj]
  · exact h2 j B hj
theorem hs_none {h : AH} {i : Nat} {L : List (Nat × Option ABlk)} (h2 : ∀ (i : Nat) (B : ABlk), hl L i = some B → h i = some B) : ∀ (j : Nat) (B : ABlk), hl ((i, none) :: L) j = some B → h j = some B := fun j B hj => by
  simp only [hl] at hj
  split at hj
  · cases hj
  · exact h2 j B hj
theorem hs_refl {L : List (Nat × Option ABlk)} : ∀ (i : Nat) (B : ABlk), hl L i = some B → hl L i = some B := fun _ _ h => h

section
variable {P : Program} {N : Nat} {D : List Deferred} {O : Nat → Prop} {Q : Exit → St → Prop} {st s : St} {c : Code} {cs : List Code} {env env' : Env} {L L' : List (Nat × Option ABlk)} {n : Nat} {h : AH}

theorem SR.bump {μ : Mu} {a : Act} {w : World} {N' : Nat} (hs : SR N D O μ ⟨env, h, n⟩ a w) (hn : n ≤ N') : SR N D O μ ⟨env, h, N'⟩ a w ∧ ∀ {w' : World} {μ' : Mu} {n'' : Nat}, Evo w μ N' w' μ' n'' → Evo w μ n w' μ' n'' := by
  have e0 : Evo w μ n w μ N' := ⟨rfl, rfl, rfl, Nat.le_refl _, hn, fun _ _ _ => rfl, fun b c T f hb => ⟨c, hb, rfl⟩, fun _ _ => .inl rfl, fun id b k e hi => absurd (hs.hr.scope id b k e).1 (Nat.not_lt.2 hi)⟩
  refine ⟨⟨⟨hs.hr.olt, fun id b k e => ⟨Nat.lt_of_lt_of_le (hs.hr.scope id b k e).1 hn, (hs.hr.scope id b k e).2⟩, hs.hr.inj, hs.hr.notO, fun id B hB => (hs.hr.blk id B hB).evo rfl (fun _ _ _ => rfl) e0⟩, hs.size, hs.defers, fun s => (hs.env s).evo e0⟩, fun e => e0.trans e⟩

theorem Sat.bump {N' : Nat} (hn : n ≤ N') (hk : Sat P N D O c Q ⟨env, h, N'⟩) : Sat P N D O c Q ⟨env, h, n⟩ := by
  intro μ a w hs
  obtain ⟨h1, h2⟩ := hs.bump hn
  refine wp_mono (hk μ a w h1) ?_
  rintro e a' w' ⟨st', μ', q, r, ev⟩
  exact ⟨st', μ', q, r, h2 ev⟩

theorem SatL.le (hs : StLe s env L n) (hk : SatL P N D O (c :: cs) Q ⟨env, hl L, n⟩) : SatL P N D O (c :: cs) Q s := by
  obtain ⟨e, h, m⟩ := s
  obtain ⟨rfl, h2, h3⟩ := hs
  exact Sat.weakH (st := ⟨e, h, m⟩) (hl L) h2 (Sat.bump h3 hk)
theorem StLe.of {env0 : Env} (L0 : List (Nat × Option ABlk)) (n0 : Nat) (he : env0 = env) (hh : ∀ (i : Nat) (B : ABlk), hl L i = some B → hl L0 i = some B) (hn : n0 ≤ n) : StLe ⟨env0, hl L0, n0⟩ env L n := ⟨he, hh, hn⟩
theorem SatL.norm (he : env = env') (hh : ∀ (i : Nat) (B : ABlk), hl L' i = some B → h i = some B) (hk : SatL P N D O (c :: cs) Q ⟨env', hl L', n⟩) : SatL P N D O (c :: cs) Q ⟨env, h, n⟩ :=
  SatL.le ⟨he, hh, Nat.le_refl _⟩ hk

theorem SatL.condT {x : Operand} {a b : Code} {v : Bool} (hc : ev env x = .sc (.bool v)) (hv : v = true) (ht : SatL P N D O (a :: cs) Q ⟨env, h, n⟩) : SatL P N D O (.cond x a b :: cs) Q ⟨env, h, n⟩ :=
  SatL.cond v hc (fun _ => ht) fun e => by rw [hv] at e; cases e
theorem SatL.condF {x : Operand} {a b : Code} {v : Bool} (hc : ev env x = .sc (.bool v)) (hv : v = false) (ht : SatL P N D O (b :: cs) Q ⟨env, h, n⟩) : SatL P N D O (.cond x a b :: cs) Q ⟨env, h, n⟩ :=
  SatL.cond v hc (fun e => by rw [hv] at e; cases e) fun _ => ht
theorem SatL.condX {x : Operand} {a b : Code} {v : Bool} (hc : ev env x = .sc (.bool v)) (ht : v = true → SatL P N D O (a :: cs) Q ⟨env, h, n⟩) (hf : v = false → SatL P N D O (b :: cs) Q ⟨env, h, n⟩) : SatL P N D O (.cond x a b :: cs) Q ⟨env, h, n⟩ :=
  SatL.cond v hc ht hf

theorem SatL.loopK (live : List Nat) (I : Nat → St → Prop) (k0 : Nat) (h0 : I k0 ⟨keep live st.env, st.h, st.n⟩)
    (round : ∀ k s, I k s → SatL P N D O [c] (thenQ (fun s' => ∃ k', I k' ⟨keep live s'.env, s'.h, s'.n⟩ ∧ k' < k) (thenQ (SatL P N D O cs Q) Q)) s) : SatL P N D O (.loop c :: cs) Q st :=
  SatL.loop live I (fun k => k) k0 h0 round

theorem SatL.mid2 {c1 c2 c' : Code} {cs : List Code} (live : List Nat) (M : St → Prop) (h : SatL P N D O [c1, c2] (thenQ (fun s => M ⟨keep live s.env, s.h, s.n⟩) Q) st) (hk : ∀ s, M s → SatL P N D O (c' :: cs) Q s) : SatL P N D O (c1 :: c2 :: c' :: cs) Q st := by
  refine Sat.mono h fun e s hs => ?_
  cases e with
  | normal =>
    refine Sat.mono hs fun e s hs => ?_
    cases e with
    | normal => exact SatL.forget live (hk _ hs)
    | _ => exact hs
  | _ => exact hs
theorem SatL.seqB {x y z : Code} {cs : List Code} (h : SatL P N D O (x :: y :: z :: cs) Q st) : SatL P N D O (x :: .seq y z :: cs) Q st := by
  refine Sat.mono h fun e s hs => ?_
  cases e with
  | normal => exact SatL.seq hs
  | _ => exact hs

theorem PC.of_bodyL {f : FuncId} {fn : Func} {c : Code} {args : List AV} {R : AV → Prop} (env : Env) (hf : P.funcs[f]? = some fn) (hb : fn.body = some c) (hname : (fn.name == "runtime.NumGoroutine") = false) (hargs : args.length ≤ fn.ntmps) (he : enterEnv args = env)
    (hsat : ∀ O, SatL P fn.ntmps [] O [c] (fnQ P fn.results.toList (fun v h _ => ∃ v', Snap h v v' ∧ R v')) ⟨env, hl [], 0⟩) : PC P f args R :=
  PC.of_body hf hb hname hargs fun O => by rw [he]; exact hsat O

theorem fnQ_snap {rs : List ResultVar} {R : AV → Prop} (L : List (Nat × Option ABlk)) (v v' : AV) (hv : aresults P (hl L) env rs = some v) (hs : Snap (hl L) v v') (hr : R v') : fnQ P rs (fun v h _ => ∃ v', Snap h v v' ∧ R v') .ret ⟨env, hl L, n⟩ :=
  ⟨v, hv, v', hs, hr⟩
theorem fnQ_snapN {rs : List ResultVar} {R : AV → Prop} (L : List (Nat × Option ABlk)) (v v' : AV) (hv : aresults P (hl L) env rs = some v) (hs : Snap (hl L) v v') (hr : R v') : fnQ P rs (fun v h _ => ∃ v', Snap h v v' ∧ R v') .normal ⟨env, hl L, n⟩ :=
  ⟨v, hv, v', hs, hr⟩
end

/-! frozen data -/
theorem FreeL.nil : FreeL [] := fun _ h => by cases h
theorem FreeL.cons {a : AV} {l : List AV} (h : Free a) (hl : FreeL l) : FreeL (a :: l) := (FreeL_cons a l).2 ⟨h, hl⟩
theorem Free.slm {α : Type} {l : List α} {f : α → List AV} (hf : ∀ y, FreeL (f y)) : Free (.sl (l.map f)) := (Free_sl _).2 fun e he => by
  obtain ⟨y, _, rfl⟩ := List.mem_map.1 he; exact hf y
theorem Free.agl {cs : List AV} (h : FreeL cs) : Free (.ag cs) := (Free_ag cs).2 h
theorem Free.tpl {cs : List AV} (h : FreeL cs) : Free (.tp cs) := (Free_tp cs).2 h
theorem Free.fpl {cs : List AV} (h : FreeL cs) : Free (.fp cs) := (Free_fp cs).2 h
theorem Free.fnl {f : FuncId} {cs : List AV} (h : FreeL cs) : Free (.fn f cs) := (Free_fn f cs).2 h

/-- one cell -/
abbrev bool1 (b : Bool) : List AV := [bool b]
abbrev ik1 (k : IntKind) (n : Int) : List AV := [.sc (.int k n)]
abbrev str (l : List UInt8) : AV := .sc (.string ⟨l.toArray⟩)
abbrev str1 (l : List UInt8) : List AV := [str l]
abbrev sl1 {α : Type} (f : α → List AV) (l : List α) : List AV := [.sl (l.map f)]
theorem fr_int1 (n : Int) : FreeL (int1 n) := FreeL.cons (.sc _) FreeL.nil
theorem fr_ik1 (k : IntKind) (n : Int) : FreeL (ik1 k n) := FreeL.cons (.sc _) FreeL.nil
theorem fr_bool1 (n : Bool) : FreeL (bool1 n) := FreeL.cons (.sc _) FreeL.nil
theorem fr_str1 (n : List UInt8) : FreeL (str1 n) := FreeL.cons (.sc _) FreeL.nil
theorem fr_sl1 {α : Type} {f : α → List AV} (hf : ∀ y, FreeL (f y)) (l : List α) : FreeL (sl1 f l) := FreeL.cons (Free.slm hf) FreeL.nil

theorem Snap.msT {α : Type} {h : AH} {id off len k : Nat} {T : TypeId} {l l' : List α} {f : α → List AV} (hB : h id = some (.cells k T (l.map f))) (he : l' = (l.drop off).take len) (hl : off + len ≤ l.length) (hf : ∀ y, FreeL (f y)) : Snap h (.ms id off len) (.sl (l'.map f)) :=
  Snap.msF hB (by rw [he, List.map_take, List.map_drop]) (by simpa using hl) fun e he => by
    obtain ⟨y, _, rfl⟩ := List.mem_map.1 he; exact hf y
/-- a whole own slice -/
theorem Snap.msW {α : Type} {h : AH} {id len k : Nat} {T : TypeId} {l : List α} {f : α → List AV} (hB : h id = some (.cells k T (l.map f))) (hlen : l.length = len) (hf : ∀ y, FreeL (f y)) : Snap h (.ms id 0 len) (.sl (l.map f)) :=
  Snap.msT hB (by simp [← hlen]) (by omega) hf
theorem Snap.gsT {α : Type} {h : AH} {id len k : Nat} {T : TypeId} {l : List α} {f : α → List AV} (hB : h id = gsb k T (l.map f)) (hlen : len = l.length) (hf : ∀ y, FreeL (f y)) : Snap h (gsv id len) (.sl (l.map f)) := by
  cases l with
  | nil => simp at hlen; subst hlen; exact Snap.nilS
  | cons y l =>
    rw [gsv_pos (by simp at hlen; omega)]
    exact Snap.msW hB hlen.symm hf

/-! results in parts -/
def un0 {α : Type} (_ : Unit) (f : α) : α := f
def un1 {A α : Type} (s : A) (f : A → α) : α := f s
def un2 {A B α : Type} (s : A × B) (f : A → B → α) : α := f s.1 s.2
def un3 {A B C α : Type} (s : A × B × C) (f : A → B → C → α) : α := f s.1 s.2.1 s.2.2
def un4 {A B C E α : Type} (s : A × B × C × E) (f : A → B → C → E → α) : α := f s.1 s.2.1 s.2.2.1 s.2.2.2
def un5 {A B C E F α : Type} (s : A × B × C × E × F) (f : A → B → C → E → F → α) : α := f s.1 s.2.1 s.2.2.1 s.2.2.2.1 s.2.2.2.2
def un6 {A B C E F G α : Type} (s : A × B × C × E × F × G) (f : A → B → C → E → F → G → α) : α := f s.1 s.2.1 s.2.2.1 s.2.2.2.1 s.2.2.2.2.1 s.2.2.2.2.2
def sumE {R S α : Type} (s : R ⊕ S) (f : R → α) (g : S → α) : α := match s with | .inl r => f r | .inr x => g x
section
variable {A B C E F G R α : Type} {a : A} {b : B} {c : C} {e : E} {f : F} {g : G} {x : α} {p : R → α}
theorem un0S {k : α} (h : un0 () k = x) : k = x := h
theorem un1S {k : A → α} (h : un1 a k = x) : k a = x := h
theorem un2S {k : A → B → α} (h : un2 (a, b) k = x) : k a b = x := h
theorem un3S {k : A → B → C → α} (h : un3 (a, b, c) k = x) : k a b c = x := h
theorem un4S {k : A → B → C → E → α} (h : un4 (a, b, c, e) k = x) : k a b c e = x := h
theorem un5S {k : A → B → C → E → F → α} (h : un5 (a, b, c, e, f) k = x) : k a b c e f = x := h
theorem un6S {k : A → B → C → E → F → G → α} (h : un6 (a, b, c, e, f, g) k = x) : k a b c e f g = x := h
theorem sumun0S {k : α} (h : sumE (.inr ()) p (fun s => un0 s k) = x) : k = x := h
theorem sumun1S {k : A → α} (h : sumE (.inr a) p (fun s => un1 s k) = x) : k a = x := h
theorem sumun2S {k : A → B → α} (h : sumE (.inr (a, b)) p (fun s => un2 s k) = x) : k a b = x := h
theorem sumun3S {k : A → B → C → α} (h : sumE (.inr (a, b, c)) p (fun s => un3 s k) = x) : k a b c = x := h
theorem sumun4S {k : A → B → C → E → α} (h : sumE (.inr (a, b, c, e)) p (fun s => un4 s k) = x) : k a b c e = x := h
theorem sumun5S {k : A → B → C → E → F → α} (h : sumE (.inr (a, b, c, e, f)) p (fun s => un5 s k) = x) : k a b c e f = x := h
theorem sumun6S {k : A → B → C → E → F → G → α} (h : sumE (.inr (a, b, c, e, f, g)) p (fun s => un6 s k) = x) : k a b c e f g = x := h
end
attribute [simp] un0 un1 un2 un3 un4 un5 un6 sumE

/-! calls -/
theorem freeL_app {a b : List AV} (ha : FreeL a) (hb : FreeL b) : FreeL (a ++ b) := (FreeL_append a b).2 ⟨ha, hb⟩
theorem FlatL.nil : FlatL [] := fun _ h => by cases h
theorem FlatL.cons {a : AV} {l : List AV} (h : Flat a) (hl : FlatL l) : FlatL (a :: l) := (FlatL_cons a l).2 ⟨h, hl⟩
/-- a pointer that may be nil -/
def ptrE {α : Type} (f : α → List AV) (o : Option α) : AV := match o with | some x => .fp (f x) | none => .sc (.pointer none)
theorem free_ptrE {α : Type} {f : α → List AV} (hf : ∀ y, FreeL (f y)) (o : Option α) : Free (ptrE f o) := by
  cases o with
  | none => exact .sc _
  | some x => exact Free.fpl (hf x)
/-- frozen, but for nil slices -/
inductive NilL : List AV → List AV → Prop
  | nil : NilL [] []
  | cons {a : AV} {l l' : List AV} (h : Free a) (hl : NilL l l') : NilL (a :: l) (a :: l')
  | nl {l l' : List AV} (hl : NilL l l') : NilL (Abs.nilS :: l) (.sl [] :: l')
theorem NilL.len {l l' : List AV} (h : NilL l l') : l'.length = l.length := by induction h <;> simp [*]
theorem NilL.at {l l' : List AV} (h : NilL l l') : ∀ (j : Nat) (c' : AV), l'[j]? = some c' → ∃ c, l[j]? = some c ∧ (c = c' ∧ Free c ∨ c = nilS ∧ c' = .sl []) := by
  induction h with
  | nil => intro j c hj; simp at hj
  | cons hf _ ih =>
    intro j c hj
    cases j with
    | zero => simp at hj; subst hj; exact ⟨_, rfl, .inl ⟨rfl, hf⟩⟩
    | succ j => simpa using ih j c (by simpa using hj)
  | nl _ ih =>
    intro j c hj
    cases j with
    | zero => simp at hj; subst hj; exact ⟨_, rfl, .inr ⟨rfl, rfl⟩⟩
    | succ j => simpa using ih j c (by simpa using hj)
theorem PC.call1N {P : Program} {f : FuncId} {args args' : List AV} {r : AV} {h : AH} {n : Nat} {K : K3} (hs : NilL args args') (hc : PC P f args' (· = r)) (hk : K r h n) : HC P f args h n K := by
  refine ⟨hc.1, fun O μ w vs hr hsz hv => (hc.2 (Av O μ) w vs (fun b hb => ?_) (by rw [hsz, hs.len]) (fun j c' hj => ?_)).mono ?_⟩
  · rcases hb with hb | ⟨id, k, hb⟩
    · exact hr.olt b hb
    · exact (hr.scope id b k hb).2
  · obtain ⟨c, hcj, h1 | h1⟩ := hs.at j c' hj
    · obtain ⟨rfl, hf⟩ := h1
      obtain ⟨u, h1, h2⟩ := hv j c hcj
      exact ⟨u, h1, h2.free hf fun b hb => hb⟩
    · obtain ⟨rfl, rfl⟩ := h1
      obtain ⟨u, h1, h2⟩ := hv j _ hcj
      refine ⟨u, h1, ?_⟩
      rw [h2.sc_inv]; exact .slnil none
  · rintro e w' ⟨u, v, rfl, rfl, q2, q3⟩
    obtain ⟨e1, h1⟩ := Evo.of_below hr q3
    exact ⟨u, _, h, n, μ, rfl, hk, h1, q2.lift fun b hb => hb, e1⟩

/-! own blocks given away with a call -/
def muI (I : List Nat) (μ : Mu) : Mu := fun i => if I.contains i then μ i else none
def muO (I : List Nat) (μ : Mu) : Mu := fun i => if I.contains i then none else μ i
theorem muI_some {I : List Nat} {μ : Mu} {i : Nat} {x : Nat × Nat} (h : muI I μ i = some x) : I.contains i = true ∧ μ i = some x := by
  unfold muI at h; split at h
  · exact ⟨by assumption, h⟩
  · cases h
theorem muO_some {I : List Nat} {μ : Mu} {i : Nat} {x : Nat × Nat} (h : muO I μ i = some x) : I.contains i = false ∧ μ i = some x := by
  unfold muO at h; split at h
  · cases h
  · rename_i hc; exact ⟨by simpa using hc, h⟩
theorem av_split {O : Nat → Prop} {I : List Nat} {μ : Mu} {b : Nat} (h : Av (Av O (muO I μ)) (muI I μ) b) : Av O μ b := by
  rcases h with (h | ⟨id, k, h⟩) | ⟨id, k, h⟩
  · exact .inl h
  · exact .inr ⟨id, k, (muO_some h).2⟩
  · exact .inr ⟨id, k, (muI_some h).2⟩
theorem VR.split {w : World} {O : Nat → Prop} {μ : Mu} {n : Nat} (I : List Nat) {a : AV} {v : Value} (hv : VR w O μ n a v) : VR w (Av O (muO I μ)) (muI I μ) n a v := by
  induction hv with
  | sc v h1 => exact .sc v h1
  | ud => exact .ud
  | un v => exact .un v
  | e0 p => exact .e0 p
  | own id i j v h h1 hv => exact .own id i j v h h1 fun b k e => hv b k (muI_some e).2
  | ms id off len v h h1 hv => exact .ms id off len v h h1 fun b k e => hv b k (muI_some e).2
  | mp id v h h1 hv => exact .mp id v h h1 fun b k e => hv b k (muI_some e).2
  | fp cs b o us hA hc h1 _ ih => exact .fp cs b o us (fun hne hb => hA hne (av_split hb)) hc h1 ih
  | slnil p => exact .slnil p
  | sl es b o cap k us hcap hmax hA hk hc h1 _ ih => exact .sl es b o cap k us hcap hmax (fun i e hi hne hb => hA i e hi hne (av_split hb)) hk hc h1 ih
  | fn f cs vs us hs hc _ ih => exact .fn f cs vs us hs hc ih
  | ag cs vs us hs hc h1 _ ih => exact .ag cs vs us hs hc h1 ih
  | tp cs vs us hs hc _ ih => exact .tp cs vs us hs hc ih
theorem VR.out {w : World} {O : Nat → Prop} {μ : Mu} {n : Nat} (I : List Nat) {a : AV} {v : Value} (hv : VR w O μ n a v) : VR w O (muO I μ) n a v := by
  have av : ∀ {b : Nat}, Av O (muO I μ) b → Av O μ b := fun h => by
    rcases h with h | ⟨id, k, h⟩
    · exact .inl h
    · exact .inr ⟨id, k, (muO_some h).2⟩
  induction hv with
  | sc v h1 => exact .sc v h1
  | ud => exact .ud
  | un v => exact .un v
  | e0 p => exact .e0 p
  | own id i j v h h1 hv => exact .own id i j v h h1 fun b k e => hv b k (muO_some e).2
  | ms id off len v h h1 hv => exact .ms id off len v h h1 fun b k e => hv b k (muO_some e).2
  | mp id v h h1 hv => exact .mp id v h h1 fun b k e => hv b k (muO_some e).2
  | fp cs b o us hA hc h1 _ ih => exact .fp cs b o us (fun hne hb => hA hne (av hb)) hc h1 ih
  | slnil p => exact .slnil p
  | sl es b o cap k us hcap hmax hA hk hc h1 _ ih => exact .sl es b o cap k us hcap hmax (fun i e hi hne hb => hA i e hi hne (av hb)) hk hc h1 ih
  | fn f cs vs us hs hc _ ih => exact .fn f cs vs us hs hc ih
  | ag cs vs us hs hc h1 _ ih => exact .ag cs vs us hs hc h1 ih
  | tp cs vs us hs hc _ ih => exact .tp cs vs us hs hc ih

theorem BlkAt.mapV {w : World} {O O' : Nat → Prop} {μ μ' : Mu} {n id : Nat} {B : ABlk} (hb : BlkAt w O μ n id B) (hm : μ' id = μ id) (hv : ∀ {a : AV} {v : Value}, VR w O μ n a v → VR w O' μ' n a v) : BlkAt w O' μ' n id B := by
  cases B with
  | cells k T es =>
    obtain ⟨b, c, h1, h2, h3⟩ := hb
    refine ⟨b, c, hm.trans h1, h2, fun i e hi => ⟨(h3 i e hi).1, fun j a hj => ?_⟩⟩
    obtain ⟨h4, u, h5, h6⟩ := (h3 i e hi).2 j a hj
    exact ⟨h4, u, h5, hv h6⟩
  | map kvs =>
    obtain ⟨b, es, h1, h2, h3, h4⟩ := hb
    refine ⟨b, es, hm.trans h1, h2, h3, fun i x hi => ?_⟩
    obtain ⟨e, h5, h6, h7, h8, h9⟩ := h4 i x hi
    exact ⟨e, h5, h6, h7, h8, hv h9⟩

theorem PC.eat {P : Program} {f : FuncId} {args args' : List AV} {r : AV} {h hE h' : AH} {n : Nat} {K : K3} (I : List Nat) (hi : ∀ i B, hE i = some B → I.contains i = true ∧ h i = some B) (ho : ∀ i B, h' i = some B → I.contains i = false ∧ h i = some B)
    (hs : SnapL hE args args') (hc : PC P f args' (· = r)) (hk : K r h' n) : HC P f args h n K := by
  refine ⟨hc.1, fun O μ w vs hr hsz hv => ?_⟩
  have hrI : HR w (Av O (muO I μ)) (muI I μ) hE n := by
    refine ⟨fun b hb => ?_, fun id b k e => hr.scope id b k (muI_some e).2, fun id id' b k k' e e' => hr.inj id id' b k k' (muI_some e).2 (muI_some e').2, fun id b k e hO => ?_, fun id B hB => ?_⟩
    · rcases hb with hb | ⟨id, k, hb⟩
      · exact hr.olt b hb
      · exact (hr.scope id b k (muO_some hb).2).2
    · obtain ⟨e1, e2⟩ := muI_some e
      rcases hO with hO | ⟨id', k', hO⟩
      · exact hr.notO id b k e2 hO
      · obtain ⟨e3, e4⟩ := muO_some hO
        rw [hr.inj _ _ _ _ _ e2 e4] at e1
        rw [e1] at e3; cases e3
    · obtain ⟨h1, h2⟩ := hi id B hB
      exact (hr.blk id B h2).mapV (by simp only [muI]; rw [if_pos h1]) fun hv => hv.split I
  have hrO : HR w O (muO I μ) h' n := by
    refine ⟨hr.olt, fun id b k e => hr.scope id b k (muO_some e).2, fun id id' b k k' e e' => hr.inj id id' b k k' (muO_some e).2 (muO_some e').2, fun id b k e => hr.notO id b k (muO_some e).2, fun id B hB => ?_⟩
    obtain ⟨h1, h2⟩ := ho id B hB
    exact (hr.blk id B h2).mapV (by simp only [muO]; rw [if_neg (by rw [h1]; decide)]) fun hv => hv.out I
  have he : Evo w μ n w (muO I μ) n := ⟨rfl, rfl, rfl, Nat.le_refl _, Nat.le_refl _, fun _ _ _ => rfl, fun b c T f hb => ⟨c, hb, rfl⟩, fun i _ => by unfold muO; split <;> simp, fun i b k e hn => absurd (hr.scope i b k (muO_some e).2).1 (by omega)⟩
  refine (hc.2 (Av O (muO I μ)) w vs hrI.olt (by rw [hsz, hs.len]) (fun j c' hj => ?_)).mono ?_
  · obtain ⟨c, hcj⟩ := other_of hs.len hj
    obtain ⟨u, h1, h2⟩ := hv j c hcj
    exact ⟨u, h1, (hs.at j c c' hcj hj).vr hrI (h2.split I)⟩
  · rintro e w' ⟨u, v, rfl, rfl, q2, q3⟩
    obtain ⟨e1, h1⟩ := Evo.of_below hrO q3
    exact ⟨u, _, h', n, muO I μ, rfl, hk, h1, q2.lift fun b hb => hb, he.trans e1⟩
end Go.Abs
namespace Go.Abs
theorem hi_nil {h : AH} {I : List Nat} : ∀ (i : Nat) (B : ABlk), hl [] i = some B → I.contains i = true ∧ h i = some B := fun i B h => by simp [hl] at h
theorem hi_cons {h : AH} {I : List Nat} {i : Nat} {A : Option ABlk} {L : List (Nat × Option ABlk)} (h0 : I.contains i = true) (h1 : h i = A) (h2 : ∀ (i : Nat) (B : ABlk), hl L i = some B → I.contains i = true ∧ h i = some B) : ∀ (j : Nat) (B : ABlk), hl ((i, A) :: L) j = some B → I.contains j = true ∧ h j = some B := fun j B hj => by
  simp only [hl] at hj
  split at hj
  · rename_i e; rw [e, h1, hj]; exact ⟨h0, rfl⟩
  · exact h2 j B hj
theorem ho_nil {h : AH} {I : List Nat} : ∀ (i : Nat) (B : ABlk), hl [] i = some B → I.contains i = false ∧ h i = some B := fun i B h => by simp [hl] at h
theorem ho_cons {h : AH} {I : List Nat} {i : Nat} {A : Option ABlk} {L : List (Nat × Option ABlk)} (h0 : I.contains i = false) (h1 : h i = A) (h2 : ∀ (i : Nat) (B : ABlk), hl L i = some B → I.contains i = false ∧ h i = some B) : ∀ (j : Nat) (B : ABlk), hl ((i, A) :: L) j = some B → I.contains j = false ∧ h j = some B := fun j B hj => by
  simp only [hl] at hj
  split at hj
  · rename_i e; rw [e, h1, hj]; exact ⟨h0, rfl⟩
  · exact h2 j B hj
end Go.Abs
