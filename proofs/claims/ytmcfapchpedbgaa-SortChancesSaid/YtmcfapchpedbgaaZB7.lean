/- Rules in the form in which a walk uses them. -/
import Derived.Test.YtmcfapchpedbgaaZB9
set_option linter.unusedSimpArgs false
set_option linter.unusedVariables false
namespace Go.Abs
open Go Go.RowKit

abbrev int (n : Int) : AV := .sc (.int .i64 n)
abbrev bool (b : Bool) : AV := .sc (.bool b)
abbrev u8 (n : Int) : AV := .sc (.int .u8 n)
abbrev nilS : AV := .sc (.slice none 0 0)

/-! The walks of regions, sealed: so that the kernel doesn't run them again at each step. -/
theorem aopsSeal : ∃ f : Program → List (Option Tmp) → List Oper → St → (St → Prop) → Prop, f = aops := ⟨aops, rfl⟩
noncomputable def aopsS := Classical.choose aopsSeal
theorem aopsS_eq : aopsS = aops := Classical.choose_spec aopsSeal
theorem aopsS_nil (P : Program) (ds : List (Option Tmp)) (st : St) (K : St → Prop) : aopsS P ds [] st K = K st := by rw [aopsS_eq]; rfl
theorem aopsS_cons (P : Program) (ds : List (Option Tmp)) (o : Oper) (r : List Oper) (st : St) (K : St → Prop) : aopsS P ds (o :: r) st K = (match o.guard with
    | none => aop P st.env st.h st.n o (fun v h n => aopsS P ds r ⟨putE st.env o.dst v, h, n⟩ K)
    | some (j, want) => match slotOf ds j with
      | some d => match lk st.env d with
        | .sc (.bool b) => (b = want → aop P ((d, .sc (.bool want)) :: st.env) st.h st.n o (fun v h n => aopsS P ds r ⟨putE ((d, .sc (.bool want)) :: st.env) o.dst v, h, n⟩ K)) ∧
            (b = !want → aopsS P ds r ⟨putE ((d, .sc (.bool (!want))) :: st.env) o.dst .ud, st.h, st.n⟩ K)
        | .ud => aopsS P ds r ⟨putE st.env o.dst .ud, st.h, st.n⟩ K
        | _ => False
      | none => False) := by rw [aopsS_eq]; rfl
section
variable {P : Program} {ds : List (Option Tmp)} {r : List Oper} {env : Env} {h : AH} {n : Nat} {K : St → Prop} {d : Tmp} {op : Op} {ty : TypeId} {pos : String} {after : Array Edge}
theorem aopsS_end {st : St} (hk : K st) : aopsS P ds [] st K := by rw [aopsS_nil]; exact hk
theorem aopsS_step (hs : ∀ K' : K3, (∀ v h' n', aopsS P ds r ⟨(d, v) :: env, h', n'⟩ K → K' v h' n') → aop P env h n ⟨some d, op, ty, pos, after, none⟩ K') : aopsS P ds (⟨some d, op, ty, pos, after, none⟩ :: r) ⟨env, h, n⟩ K := by
  rw [aopsS_cons]; exact hs _ fun _ _ _ h => h
theorem aopsS_step0 (hs : ∀ K' : K3, (∀ v h' n', aopsS P ds r ⟨env, h', n'⟩ K → K' v h' n') → aop P env h n ⟨none, op, ty, pos, after, none⟩ K') : aopsS P ds (⟨none, op, ty, pos, after, none⟩ :: r) ⟨env, h, n⟩ K := by
  rw [aopsS_cons]; exact hs _ fun _ _ _ h => h
theorem aopsS_split {j : Nat} {want : Bool} {g : Tmp} (hd : slotOf ds j = some g) (b : Bool) (hl : lk env g = .sc (.bool b))
    (h1 : b = want → ∀ K' : K3, (∀ v h' n', aopsS P ds r ⟨(d, v) :: (g, .sc (.bool want)) :: env, h', n'⟩ K → K' v h' n') → aop P ((g, .sc (.bool want)) :: env) h n ⟨some d, op, ty, pos, after, some (j, want)⟩ K')
    (h2 : b = !want → aopsS P ds r ⟨(d, .ud) :: (g, .sc (.bool (!want))) :: env, h, n⟩ K) : aopsS P ds (⟨some d, op, ty, pos, after, some (j, want)⟩ :: r) ⟨env, h, n⟩ K := by
  rw [aopsS_cons]
  simp only [hd, hl]
  exact ⟨fun e => h1 e _ fun _ _ _ h => h, fun e => h2 e⟩
theorem aopsS_on {j : Nat} {want : Bool} {g : Tmp} (hd : slotOf ds j = some g) (hl : lk env g = .sc (.bool want))
    (h1 : ∀ K' : K3, (∀ v h' n', aopsS P ds r ⟨(d, v) :: (g, .sc (.bool want)) :: env, h', n'⟩ K → K' v h' n') → aop P ((g, .sc (.bool want)) :: env) h n ⟨some d, op, ty, pos, after, some (j, want)⟩ K') : aopsS P ds (⟨some d, op, ty, pos, after, some (j, want)⟩ :: r) ⟨env, h, n⟩ K :=
  aopsS_split hd _ hl (fun _ => h1) fun e => absurd e (by cases want <;> decide)
theorem aopsS_off {j : Nat} {want : Bool} {g : Tmp} (hd : slotOf ds j = some g) (hl : lk env g = .sc (.bool (!want))) (h2 : aopsS P ds r ⟨(d, .ud) :: (g, .sc (.bool (!want))) :: env, h, n⟩ K) : aopsS P ds (⟨some d, op, ty, pos, after, some (j, want)⟩ :: r) ⟨env, h, n⟩ K :=
  aopsS_split hd _ hl (fun e => absurd e (by cases want <;> decide)) fun _ => h2
theorem aopsS_ud {j : Nat} {want : Bool} {g : Tmp} (hd : slotOf ds j = some g) (hl : lk env g = .ud) (h2 : aopsS P ds r ⟨(d, .ud) :: env, h, n⟩ K) : aopsS P ds (⟨some d, op, ty, pos, after, some (j, want)⟩ :: r) ⟨env, h, n⟩ K := by
  rw [aopsS_cons]
  simp only [hd, hl]
  exact h2
end
theorem aopsDSeal : ∃ f : Program → List (Option Tmp) → List Nat → List (Nat × Nat) → List Oper → Nat → St → List Rec → (St → Prop) → Prop, f = aopsD := ⟨aopsD, rfl⟩
noncomputable def aopsDS := Classical.choose aopsDSeal
theorem aopsDS_eq : aopsDS = aopsD := Classical.choose_spec aopsDSeal
theorem aopsDS_nil (P : Program) (ds : List (Option Tmp)) (wc : List Nat) (rd : List (Nat × Nat)) (j : Nat) (st : St) (tr : List Rec) (K : St → Prop) : aopsDS P ds wc rd [] j st tr K = (recheck P tr rd ∧ K st) := by rw [aopsDS_eq]; rfl
theorem aopsDS_cons (P : Program) (ds : List (Option Tmp)) (wc : List Nat) (rd : List (Nat × Nat)) (o : Oper) (r : List Oper) (j : Nat) (st : St) (tr : List Rec) (K : St → Prop) : aopsDS P ds wc rd (o :: r) j st tr K = (match o.guard with
    | none => stepD P wc rd o j st.env st.h st.n tr fun s t => aopsDS P ds wc rd r (j + 1) s t K
    | some (g, want) => match slotOf ds g with
      | some d => match lk st.env d with
        | .sc (.bool b) => (b = want → stepD P wc rd o j ((d, .sc (.bool want)) :: st.env) st.h st.n tr fun s t => aopsDS P ds wc rd r (j + 1) s t K) ∧
            (b = !want → aopsDS P ds wc rd r (j + 1) ⟨putE ((d, .sc (.bool (!want))) :: st.env) o.dst .ud, st.h, st.n⟩ tr K)
        | .ud => aopsDS P ds wc rd r (j + 1) ⟨putE st.env o.dst .ud, st.h, st.n⟩ tr K
        | _ => False
      | none => False) := by rw [aopsDS_eq]; rfl

section
variable {P : Program} {ds : List (Option Tmp)} {wc : List Nat} {r : List Oper} {j : Nat} {env : Env} {h : AH} {n : Nat} {tr : List Rec} {K : St → Prop} {d : Tmp} {op : Op} {ty : TypeId} {pos : String} {after : Array Edge}
theorem aopsDS_end {st : St} (hk : K st) : aopsDS P ds wc [] [] j st tr K := by rw [aopsDS_nil]; exact ⟨trivial, hk⟩

theorem stepD_mk {g : Option (Nat × Bool)} {next : St → List Rec → Prop} (v : AV) (hw : isW wc j ⟨some d, op, ty, pos, after, g⟩ = false) (hv : ∀ K' : K3, K' v h n → aop P env h n ⟨some d, op, ty, pos, after, g⟩ K') (hk : next ⟨(d, v) :: env, h, n⟩ tr) : stepD P wc [] ⟨some d, op, ty, pos, after, g⟩ j env h n tr next := by
  unfold stepD
  rw [if_neg (by rw [hw]; decide)]
  have : ∃ v, aop P env h n ⟨some d, op, ty, pos, after, g⟩ (fun a b c => a = v ∧ b = h ∧ c = n) ∧ next ⟨putE env (some d) v, h, n⟩ (if wants [] j = true then ⟨j, ⟨some d, op, ty, pos, after, g⟩, env, v, h, n, h, n⟩ :: tr else tr) :=
    ⟨v, hv _ ⟨rfl, rfl, rfl⟩, by simpa [wants, putE] using hk⟩
  split
  · exact this
  · exact this

theorem aopsDS_step (v : AV) (hw : isW wc j ⟨some d, op, ty, pos, after, none⟩ = false) (hv : ∀ K' : K3, K' v h n → aop P env h n ⟨some d, op, ty, pos, after, none⟩ K') (hk : aopsDS P ds wc [] r (j + 1) ⟨(d, v) :: env, h, n⟩ tr K) :
    aopsDS P ds wc [] (⟨some d, op, ty, pos, after, none⟩ :: r) j ⟨env, h, n⟩ tr K := by
  rw [aopsDS_cons]; exact stepD_mk v hw hv hk
theorem aopsDS_split {q : Nat} {want : Bool} {g : Tmp} (hd : slotOf ds q = some g) (b : Bool) (hl : lk env g = .sc (.bool b))
    (h1 : b = want → aopsDS P ds wc [] (⟨some d, op, ty, pos, after, none⟩ :: r) j ⟨(g, .sc (.bool want)) :: env, h, n⟩ tr K)
    (h2 : b = !want → aopsDS P ds wc [] r (j + 1) ⟨(d, .ud) :: (g, .sc (.bool (!want))) :: env, h, n⟩ tr K) : aopsDS P ds wc [] (⟨some d, op, ty, pos, after, some (q, want)⟩ :: r) j ⟨env, h, n⟩ tr K := by
  rw [aopsDS_cons]
  simp only [hd, hl]
  refine ⟨fun e => ?_, fun e => h2 e⟩
  have := h1 e
  rw [aopsDS_cons] at this
  have hwe : ∀ g', isW wc j ⟨some d, op, ty, pos, after, g'⟩ = isW wc j ⟨some d, op, ty, pos, after, none⟩ := fun _ => rfl
  simpa [stepD, wants, isCall, isW, aop] using this
end

section
variable {P : Program} {N : Nat} {D : List Deferred} {O : Nat → Prop} {Q : Exit → St → Prop} {st : St}

/-- code, and what comes after it -/
def SatL (P : Program) (N : Nat) (D : List Deferred) (O : Nat → Prop) : List Code → (Exit → St → Prop) → St → Prop
  | [], Q, st => Q .normal st
  | c :: cs, Q, st => Sat P N D O c (thenQ (SatL P N D O cs Q) Q) st

theorem thenQ_idem {K : St → Prop} {e : Exit} {s : St} (h : thenQ (Q .normal) Q e s) : Q e s := by cases e <;> exact h
theorem Sat.ofL {c : Code} (h : SatL P N D O [c] Q st) : Sat P N D O c Q st := Sat.mono h fun e s hq => by cases e <;> exact hq
theorem SatL.ofS {c : Code} (h : Sat P N D O c Q st) : SatL P N D O [c] Q st := Sat.mono h fun e s hq => by cases e <;> exact hq
theorem SatL.mono {cs : List Code} {Q' : Exit → St → Prop} (hq : ∀ e s, Q e s → Q' e s) : ∀ {cs : List Code} {st : St}, SatL P N D O cs Q st → SatL P N D O cs Q' st
  | [], st, h => hq _ _ h
  | c :: cs, st, h => Sat.mono h fun e s hs => by cases e <;> first | exact SatL.mono (cs := cs) hq hs | exact hq _ _ hs

theorem SatL.nil (h : Q .normal st) : SatL P N D O [] Q st := h
theorem SatL.seq {x y : Code} {cs : List Code} (h : SatL P N D O (x :: y :: cs) Q st) : SatL P N D O (.seq x y :: cs) Q st :=
  Sat.seq (Sat.mono h fun e s hs => by cases e <;> exact hs)
theorem SatL.skip {cs : List Code} (h : SatL P N D O cs Q st) : SatL P N D O (.skip :: cs) Q st := Sat.skip h
theorem SatL.exit {id : Nat} {cs : List Code} (h : Q (.exit id) st) : SatL P N D O (.exit id :: cs) Q st := Sat.exit h
theorem SatL.ret {cs : List Code} (h : Q .ret st) : SatL P N D O (.ret :: cs) Q st := Sat.ret h
theorem SatL.cond {c : Operand} {x y : Code} {cs : List Code} (b : Bool) (hc : ev st.env c = .sc (.bool b)) (ht : b = true → SatL P N D O (x :: cs) Q st) (hf : b = false → SatL P N D O (y :: cs) Q st) :
    SatL P N D O (.cond c x y :: cs) Q st := Sat.cond hc ht hf
theorem SatL.block {id : Nat} {c : Code} {cs : List Code} (h : SatL P N D O [c] (blockQ id (thenQ (SatL P N D O cs Q) Q)) st) : SatL P N D O (.block id c :: cs) Q st := Sat.block (Sat.ofL h)

theorem SatL.forget {cs : List Code} {c : Code} (live : List Nat) (h : SatL P N D O (c :: cs) Q ⟨keep live st.env, st.h, st.n⟩) : SatL P N D O (c :: cs) Q st := Sat.forget _ (lk_keep live st.env) h

/-- the states between two pieces of code -/
theorem SatL.mid {c c' : Code} {cs : List Code} (live : List Nat) (M : St → Prop) (h : SatL P N D O [c] (thenQ (fun s => M ⟨keep live s.env, s.h, s.n⟩) Q) st) (hk : ∀ s, M s → SatL P N D O (c' :: cs) Q s) : SatL P N D O (c :: c' :: cs) Q st :=
  Sat.mono (Sat.ofL h) fun e s hs => by
    cases e with
    | normal => exact SatL.forget live (hk _ hs)
    | _ => exact hs

/-- a loop; live: the slots that are told at its head -/
theorem SatL.loop {α : Type} {c : Code} {cs : List Code} (live : List Nat) (I : α → St → Prop) (m : α → Nat) (x0 : α) (h0 : I x0 ⟨keep live st.env, st.h, st.n⟩)
    (round : ∀ x s, I x s → SatL P N D O [c] (thenQ (fun s' => ∃ x', I x' ⟨keep live s'.env, s'.h, s'.n⟩ ∧ m x' < m x) (thenQ (SatL P N D O cs Q) Q)) s) : SatL P N D O (.loop c :: cs) Q st :=
  Sat.loop (fun x s => I x ⟨keep live s.env, s.h, s.n⟩) m x0 h0 fun x s hI => Sat.forget _ (lk_keep live s.env) (Sat.ofL (round x _ hI))

/-- own blocks may be forgotten -/
def keepH (ids : List Nat) (h : AH) : AH := fun i => if ids.contains i then h i else none
@[simp] theorem keepH_ah0 (ids : List Nat) : keepH ids (fun _ => none) = fun _ => none := by funext i; simp [keepH]
@[simp] theorem keepH_updH (ids : List Nat) (h : AH) (id : Nat) (B : ABlk) : keepH ids (updH h id B) = if ids.contains id then updH (keepH ids h) id B else keepH ids h := by
  split
  · rename_i hc
    funext i
    simp only [keepH, updH]
    by_cases hi : i = id
    · subst hi; simp only [hc, if_true]
    · simp only [if_neg hi]
  · rename_i hc
    funext i
    simp only [keepH, updH]
    by_cases hi : i = id
    · subst hi; simp only [hc, Bool.false_eq_true, if_false]
    · simp only [if_neg hi]

theorem Sat.weakH {c : Code} (h' : AH) (hs : ∀ id B, h' id = some B → st.h id = some B) (h : Sat P N D O c Q ⟨st.env, h', st.n⟩) : Sat P N D O c Q st :=
  fun μ a w hr => h μ a w ⟨⟨hr.hr.olt, hr.hr.scope, hr.hr.inj, hr.hr.notO, fun id B hB => hr.hr.blk id B (hs id B hB)⟩, hr.size, hr.defers, hr.env⟩
theorem keepH_sub (ids : List Nat) (h : AH) (id : Nat) (B : ABlk) (hb : keepH ids h id = some B) : h id = some B := by
  unfold keepH at hb
  split at hb
  · exact hb
  · cases hb
theorem SatL.weakH {c : Code} {cs : List Code} (ids : List Nat) (h : SatL P N D O (c :: cs) Q ⟨st.env, keepH ids st.h, st.n⟩) : SatL P N D O (c :: cs) Q st := Sat.weakH _ (keepH_sub ids st.h) h

/-- a loop; ids: the own blocks that are told at its head -/
theorem SatL.looph {α : Type} {c : Code} {cs : List Code} (live ids : List Nat) (I : α → St → Prop) (m : α → Nat) (x0 : α) (h0 : I x0 ⟨keep live st.env, keepH ids st.h, st.n⟩)
    (round : ∀ x s, I x s → SatL P N D O [c] (thenQ (fun s' => ∃ x', I x' ⟨keep live s'.env, keepH ids s'.h, s'.n⟩ ∧ m x' < m x) (thenQ (SatL P N D O cs Q) Q)) s) : SatL P N D O (.loop c :: cs) Q st :=
  Sat.loop (fun x s => I x ⟨keep live s.env, keepH ids s.h, s.n⟩) m x0 h0 fun x s hI => Sat.weakH _ (keepH_sub ids s.h) (Sat.forget _ (lk_keep live s.env) (Sat.ofL (round x _ hI)))

theorem SatL.reg {id : Nat} {l : List Oper} {c : Code} {cs : List Code} (live : List Nat) (ds : List (Option Tmp)) (hds : l.map (·.dst) = ds) (hd : dstsOk N l = true)
    (h : ∀ K : St → Prop, (∀ s, SatL P N D O (c :: cs) Q ⟨keep live s.env, s.h, s.n⟩ → K s) → aopsS P ds l st K) : SatL P N D O (.region id l.toArray false :: c :: cs) Q st := by
  subst hds
  simp only [aopsS_eq, aopsDS_eq] at h
  exact Sat.region hd (h _ fun s hs => SatL.forget live hs)

theorem SatL.rege {id : Nat} {l : List Oper} (ds : List (Option Tmp)) (hds : l.map (·.dst) = ds) (hd : dstsOk N l = true)
    (h : ∀ K : St → Prop, (∀ s, Q .normal s → K s) → aopsS P ds l st K) : SatL P N D O [.region id l.toArray false] Q st := by
  subst hds
  simp only [aopsS_eq, aopsDS_eq] at h
  exact Sat.region hd (h _ fun s hs => hs)

theorem SatL.draw {id : Nat} {l : List Oper} {c : Code} {cs : List Code} (live : List Nat) (wc : List Nat) (rd : List (Nat × Nat)) (ds : List (Option Tmp)) (hm : P.follows .mixedOrders = true) (hd : drawOk l = true) (hw : drawW l wc rd = true) (hds : l.map (·.dst) = ds) (hdst : dstsOk N l = true)
    (h : ∀ K : St → Prop, (∀ s, SatL P N D O (c :: cs) Q ⟨keep live s.env, s.h, s.n⟩ → K s) → aopsDS P ds wc rd l 0 st [] K) : SatL P N D O (.region id l.toArray true :: c :: cs) Q st := by
  subst hds
  simp only [aopsS_eq, aopsDS_eq] at h
  obtain ⟨E, V, A, H, M, L, hk⟩ := aopsD_LF hd hw (h (fun s => SatL P N D O (c :: cs) Q s) fun s hs => SatL.forget live hs)
  exact Sat.draw hm hd hdst L hk

theorem SatL.drawe {id : Nat} {l : List Oper} (wc : List Nat) (rd : List (Nat × Nat)) (ds : List (Option Tmp)) (hm : P.follows .mixedOrders = true) (hd : drawOk l = true) (hw : drawW l wc rd = true) (hds : l.map (·.dst) = ds) (hdst : dstsOk N l = true)
    (h : ∀ K : St → Prop, (∀ s, Q .normal s → K s) → aopsDS P ds wc rd l 0 st [] K) : SatL P N D O [.region id l.toArray true] Q st := by
  subst hds
  simp only [aopsS_eq, aopsDS_eq] at h
  obtain ⟨E, V, A, H, M, L, hk⟩ := aopsD_LF hd hw (h (fun s => Q .normal s) fun s hs => hs)
  exact Sat.draw hm hd hdst L hk

theorem thenN {K : St → Prop} (h : K st) : thenQ K Q .normal st := h
theorem blockN {id : Nat} (h : Q .normal st) : blockQ id Q .normal st := h
theorem blockQ_here {id : Nat} (h : Q .normal st) : blockQ id Q (.exit id) st := by simp only [blockQ, if_true]; exact h
theorem blockQ_away {id id' : Nat} (hne : id' ≠ id) (h : Q (.exit id') st) : blockQ id Q (.exit id') st := by simp only [blockQ, if_neg hne]; exact h

/-- a result that is given -/
theorem fnQ_ret {rs : List ResultVar} {R : K3} (v : AV) (hv : aresults P st.h st.env rs = some v) (hr : R v st.h st.n) : fnQ P rs R .ret st := ⟨v, hv, hr⟩

theorem drop_cons {α : Type} {l : List α} {i : Nat} {x : α} {r : List α} (h : l.drop i = x :: r) : l[i]? = some x ∧ l.drop (i + 1) = r ∧ i < l.length := by
  have h1 : i < l.length := by
    rcases Nat.lt_or_ge i l.length with h1 | h1
    · exact h1
    · rw [List.drop_eq_nil_of_le h1] at h; cases h
  rw [List.drop_eq_getElem_cons h1] at h
  cases h
  exact ⟨List.getElem?_eq_getElem h1, rfl, h1⟩
theorem drop_nil {α : Type} {l : List α} {i : Nat} (h : l.drop i = []) : l.length ≤ i := List.drop_eq_nil_iff.1 h

theorem wrap_in (n : Int) (h1 : -9223372036854775808 ≤ n) (h2 : n ≤ 9223372036854775807) : IntKind.i64.wrap n = n := IntWalk.i64_in n ⟨h1, h2⟩

end

@[congr] theorem HC_congr {P : Program} {f f' : FuncId} {args args' : List AV} {h : AH} {n : Nat} {R : K3} (hf : f = f') (ha : args = args') : HC P f args h n R = HC P f' args' h n R := by rw [hf, ha]
@[congr] theorem callD_congr {A A' B : AV → Prop} (h : A = A') : callD A B = callD A' B := by rw [h]
attribute [simp↓] aopsS_nil aopsS_cons aopsDS_nil aopsDS_cons
attribute [simp] isCall lookupK mapUpdK keyOkA keyB findA AV.one Value.oneCell' putAt blockQ stepD isW wants recheck recOf putE cst ev slotOf thenQ keep abinI abin unK loadK partK sliceK boundsK loA hiA lenK isCells idxAddrK idxK storeK liveA convK builtinK callK cellsA deref appendK srcA emptyA aresult aresults fillE fillS updH delH
@[simp] theorem updH_same (h : AH) (id : Nat) (A B : ABlk) : updH (updH h id A) id B = updH h id B := by
  funext i; simp only [updH]; split <;> rfl
theorem updH_sort {h : AH} {i j : Nat} {A B : ABlk} (hij : i < j) : updH (updH h j B) i A = updH (updH h i A) j B := by
  funext k; simp only [updH]; (repeat' split) <;> first | rfl | omega
@[simp] theorem lk_nil (s : Nat) : lk [] s = .un := rfl
@[simp] theorem lk_cons (d s : Nat) (v : AV) (l : Env) : lk ((d, v) :: l) s = if s = d then v else lk l s := rfl
@[simp] theorem enterEnv_eq (args : List AV) : enterEnv args = args.zipIdx.map fun (v, i) => (i, v) := rfl

end Go.Abs
