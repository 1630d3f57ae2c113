/- Slots, states, and the rules for code. -/
import Derived.Test.YtmcfapchpedbgaaZA2
namespace Go.Abs
open Go Go.RowKit

abbrev Env := List (Nat × AV)
def lk : Env → Nat → AV
  | [], _ => .un
  | (d, v) :: l, s => if s = d then v else lk l s

def cst : Value → AV
  | .tuple _ => .un
  | .agg cs => if cs.all (·.oneCell') then .ag (cs.toList.map .sc) else .un
  | v => .sc v

def ev (env : Env) : Operand → AV
  | .tmp t => lk env t
  | .const v => cst v
  | .global _ => .un
  | .func f => .fn f []

structure St where
  env : Env
  h : AH
  n : Nat

structure SR (N : Nat) (D : List Deferred) (O : Nat → Prop) (μ : Mu) (st : St) (a : Act) (w : World) : Prop where
  hr : HR w O μ st.h st.n
  size : a.tmps.size = N
  defers : a.defers = D
  env : ∀ s, VR w O μ st.n (lk st.env s) (a.tmps.getD s undef)

theorem VR.cst (w : World) (O : Nat → Prop) (μ : Mu) (n : Nat) (v : Value) : VR w O μ n (cst v) v := by
  unfold Abs.cst
  split
  · exact .un _
  · rename_i cs
    split
    · rename_i h
      refine .ag _ cs (fun j => cs.getD j undef) (by simp) (fun j c hj => ?_) (fun j c hj => ?_) (fun j c hj => ?_)
      · simp only [List.getElem?_map, Option.map_eq_some_iff] at hj
        obtain ⟨x, hx, rfl⟩ := hj
        simp at hx
        simp [hx]
      · simp only [List.getElem?_map, Option.map_eq_some_iff] at hj
        obtain ⟨x, hx, rfl⟩ := hj
        simp only [Array.all_eq_true_iff_forall_mem] at h
        exact h x (by simp at hx; exact Array.mem_of_getElem? hx)
      · simp only [List.getElem?_map, Option.map_eq_some_iff] at hj
        obtain ⟨x, hx, rfl⟩ := hj
        simp at hx
        simp only [Array.getD_eq_getD_getElem?, hx, Option.getD_some]
        simp only [Array.all_eq_true_iff_forall_mem] at h
        exact .sc x (h x (Array.mem_of_getElem? hx))
    · exact .un _
  · rename_i h1 h2
    exact .sc v (by cases v <;> first | rfl | exact absurd rfl (h1 _) | exact absurd rfl (h2 _))

theorem SR.ev {N : Nat} {D : List Deferred} {O : Nat → Prop} {μ : Mu} {st : St} {a : Act} {w : World} (hs : SR N D O μ st a w) (x : Operand) : VR w O μ st.n (ev st.env x) (a.eval x) := by
  cases x with
  | tmp t => exact hs.env t
  | const v => exact VR.cst w O μ st.n v
  | global g => exact .un _
  | func f => exact .fn f [] #[] (fun _ => undef) rfl (fun j c hj => by simp at hj) (fun j c hj => by simp at hj)

theorem SR.put {N : Nat} {D : List Deferred} {O : Nat → Prop} {μ μ' : Mu} {st : St} {a : Act} {w w' : World} {h' : AH} {n' : Nat} {u : Value} {v : AV} (hs : SR N D O μ st a w)
    (hr : HR w' O μ' h' n') (he : Evo w μ st.n w' μ' n') (hv : VR w' O μ' n' v u) (d : Nat) (hd : d < N) : SR N D O μ' ⟨(d, v) :: st.env, h', n'⟩ (a.put (some d) u) w' := by
  refine ⟨hr, by simp [Act.put, hs.size], by simp [Act.put, hs.defers], fun s => ?_⟩
  simp only [lk, Act.put]
  split
  · rename_i hsd; subst hsd
    have : s < a.tmps.size := by rw [hs.size]; exact hd
    simp [Array.getD_eq_getD_getElem?, this, hv]
  · rename_i hsd
    have := (hs.env s).evo he
    rw [Array.getD_eq_getD_getElem?] at this ⊢
    rw [Array.getElem?_setIfInBounds_ne (by omega)]
    exact this

theorem SR.step {N : Nat} {D : List Deferred} {O : Nat → Prop} {μ μ' : Mu} {st : St} {a : Act} {w w' : World} {h' : AH} {n' : Nat} (hs : SR N D O μ st a w)
    (hr : HR w' O μ' h' n') (he : Evo w μ st.n w' μ' n') : SR N D O μ' ⟨st.env, h', n'⟩ a w' :=
  ⟨hr, hs.size, hs.defers, fun s => (hs.env s).evo he⟩

/-- The judgement: code c, begun in the abstract state st, ends as Q says. -/
def Sat (P : Program) (N : Nat) (D : List Deferred) (O : Nat → Prop) (c : Code) (Q : Exit → St → Prop) (st : St) : Prop :=
  ∀ μ a w, SR N D O μ st a w → c.wp P (fun e a' w' => ∃ st' μ', Q e st' ∧ SR N D O μ' st' a' w' ∧ Evo w μ st.n w' μ' st'.n) a w

variable {P : Program} {N : Nat} {D : List Deferred} {O : Nat → Prop} {Q : Exit → St → Prop} {st : St}

theorem Sat.mono {c : Code} {Q' : Exit → St → Prop} (h : Sat P N D O c Q st) (hq : ∀ e s, Q e s → Q' e s) : Sat P N D O c Q' st :=
  fun μ a w hs => wp_mono (h μ a w hs) fun _ _ _ ⟨st', μ', q, r, e⟩ => ⟨st', μ', hq _ _ q, r, e⟩

def thenQ (K : St → Prop) (Q : Exit → St → Prop) : Exit → St → Prop
  | .normal, s => K s
  | e, s => Q e s
def blockQ (id : Nat) (Q : Exit → St → Prop) : Exit → St → Prop
  | .exit id', s => if id' = id then Q .normal s else Q (.exit id') s
  | e, s => Q e s

theorem Sat.seq {x y : Code} (h : Sat P N D O x (thenQ (fun s => Sat P N D O y Q s) Q) st) : Sat P N D O (.seq x y) Q st := by
  intro μ a w hs
  refine wp_seq (wp_mono (h μ a w hs) ?_)
  rintro e a' w' ⟨st', μ', hq, hs', he⟩
  cases e with
  | normal => exact wp_mono (hq μ' a' w' hs') fun _ _ _ ⟨st2, μ2, q2, s2, e2⟩ => ⟨st2, μ2, q2, s2, he.trans e2⟩
  | exit id => exact ⟨st', μ', hq, hs', he⟩
  | goto l => exact ⟨st', μ', hq, hs', he⟩
  | ret => exact ⟨st', μ', hq, hs', he⟩
  | panic c => exact ⟨st', μ', hq, hs', he⟩
  | outgrown => exact ⟨st', μ', hq, hs', he⟩

theorem Sat.skip (h : Q .normal st) : Sat P N D O .skip Q st := fun μ _ _ hs => wp_skip ⟨st, μ, h, hs, hs.hr.refl⟩
theorem Sat.exit {id : Nat} (h : Q (.exit id) st) : Sat P N D O (.exit id) Q st := fun μ _ _ hs => wp_exit ⟨st, μ, h, hs, hs.hr.refl⟩
theorem Sat.ret (h : Q .ret st) : Sat P N D O .ret Q st := fun μ _ _ hs => wp_ret ⟨st, μ, h, hs, hs.hr.refl⟩

theorem Sat.block {id : Nat} {c : Code} (h : Sat P N D O c (blockQ id Q) st) : Sat P N D O (.block id c) Q st := by
  intro μ a w hs
  refine wp_block (wp_mono (h μ a w hs) ?_)
  rintro e a' w' ⟨st', μ', hq, hs', he⟩
  cases e with
  | exit id' =>
    simp only [blockQ, Exit.inBlock] at hq ⊢
    split <;> rename_i hid
    · rw [if_pos hid] at hq; exact ⟨st', μ', hq, hs', he⟩
    · rw [if_neg hid] at hq; exact ⟨st', μ', hq, hs', he⟩
  | normal => exact ⟨st', μ', hq, hs', he⟩
  | goto l => exact ⟨st', μ', hq, hs', he⟩
  | ret => exact ⟨st', μ', hq, hs', he⟩
  | panic c => exact ⟨st', μ', hq, hs', he⟩
  | outgrown => exact ⟨st', μ', hq, hs', he⟩

theorem VR.bool_inv {w : World} {O : Nat → Prop} {μ : Mu} {n : Nat} {b : Bool} {v : Value} (h : VR w O μ n (.sc (.bool b)) v) : v = .bool b := by cases h; rfl

theorem Sat.cond {c : Operand} {x y : Code} {b : Bool} (hc : Abs.ev st.env c = .sc (.bool b)) (ht : b = true → Sat P N D O x Q st) (hf : b = false → Sat P N D O y Q st) : Sat P N D O (.cond c x y) Q st := by
  intro μ a w hs
  have hv := hs.ev c
  rw [hc] at hv
  exact wp_cond_split hv.bool_inv (fun e => ht e μ a w hs) (fun e => hf e μ a w hs)

theorem wp_loop_ix {α : Type} {c : Code} {Q : Exit → Act → World → Prop} {a : Act} {w : World} (I : α → Act → World → Prop) (m : α → Nat) (x0 : α) (h0 : I x0 a w)
    (round : ∀ x a w, I x a w → c.wp P (Exit.then (fun a' w' => ∃ x', I x' a' w' ∧ m x' < m x) Q) a w) : (Code.loop c).wp P Q a w := by
  intro b k cs
  have key : ∀ n x a w, m x = n → I x a w → ∃ e a' w', Q e a' w' ∧ Arrives P (lone (b.at a (.code c :: .inLoop c :: k)) cs w) b k cs e a' w' := by
    intro n
    induction n using Nat.strongRecOn with
    | _ n ih =>
      intro x a w hn hI
      obtain ⟨e, a₁, w₁, hq, harr⟩ := round x a w hI b (.inLoop c :: k) cs
      cases e with
      | normal =>
        obtain ⟨x', hI₁, hlt⟩ := hq
        obtain ⟨e₂, a₂, w₂, hq₂, harr₂⟩ := ih (m x') (hn ▸ hlt) x' a₁ w₁ rfl hI₁
        exact ⟨e₂, a₂, w₂, hq₂, .of_steps (Steps.trans harr (.one step_inLoop)) harr₂⟩
      | exit id => exact ⟨_, a₁, w₁, hq, .pass (x := .inLoop c) rfl (fun _ _ => .inl (by simp)) harr⟩
      | goto l => exact ⟨_, a₁, w₁, hq, .pass (x := .inLoop c) rfl (fun _ _ => .inl (by simp)) harr⟩
      | ret => exact ⟨_, a₁, w₁, hq, .pass (x := .inLoop c) rfl (fun _ _ => .inl (by simp)) harr⟩
      | panic ch => exact ⟨_, a₁, w₁, hq, .pass (x := .inLoop c) rfl (fun _ _ => .inl (by simp)) harr⟩
      | outgrown => exact ⟨_, a₁, w₁, hq, .pass (x := .inLoop c) rfl (fun _ _ => .inl (by simp)) harr⟩
  obtain ⟨e, a', w', hq, harr⟩ := key _ x0 a w rfl h0
  exact ⟨e, a', w', hq, .of_steps (.one step_loop) harr⟩

/-- A loop: the states at its head are I x, x a ghost; m x goes down. -/
theorem Sat.loop {α : Type} {c : Code} (I : α → St → Prop) (m : α → Nat) (x0 : α) (h0 : I x0 st)
    (round : ∀ x s, I x s → Sat P N D O c (thenQ (fun s' => ∃ x', I x' s' ∧ m x' < m x) Q) s) : Sat P N D O (.loop c) Q st := by
  intro μ a w hs
  refine wp_loop_ix (fun x a' w' => ∃ st' μ', I x st' ∧ SR N D O μ' st' a' w' ∧ Evo w μ st.n w' μ' st'.n) m x0 ⟨st, μ, h0, hs, hs.hr.refl⟩ ?_
  rintro x a1 w1 ⟨s1, μ1, hI, hs1, he1⟩
  refine wp_mono (round x s1 hI μ1 a1 w1 hs1) ?_
  rintro e a' w' ⟨st', μ', hq, hs', he⟩
  cases e with
  | normal => obtain ⟨x', h1, h2⟩ := hq; exact ⟨x', ⟨st', μ', h1, hs', he1.trans he⟩, h2⟩
  | exit id => exact ⟨st', μ', hq, hs', he1.trans he⟩
  | goto l => exact ⟨st', μ', hq, hs', he1.trans he⟩
  | ret => exact ⟨st', μ', hq, hs', he1.trans he⟩
  | panic c => exact ⟨st', μ', hq, hs', he1.trans he⟩
  | outgrown => exact ⟨st', μ', hq, hs', he1.trans he⟩

/-- Slots may be forgotten. -/
theorem Sat.forget {c : Code} (env' : Env) (henv : ∀ s, lk env' s = lk st.env s ∨ lk env' s = .un) (h : Sat P N D O c Q ⟨env', st.h, st.n⟩) : Sat P N D O c Q st := by
  intro μ a w hs
  refine h μ a w ⟨hs.hr, hs.size, hs.defers, fun s => ?_⟩
  rcases henv s with e | e
  · show VR w O μ st.n (lk env' s) _
    rw [e]; exact hs.env s
  · show VR w O μ st.n (lk env' s) _
    rw [e]; exact .un _

def keep (l : List Nat) (env : Env) : Env := l.map fun s => (s, lk env s)
theorem lk_keep (l : List Nat) (env : Env) (s : Nat) : lk (keep l env) s = lk env s ∨ lk (keep l env) s = .un := by
  induction l with
  | nil => exact .inr rfl
  | cons x l ih =>
    simp only [keep, List.map_cons, lk]
    split
    · rename_i e; subst e; exact .inl rfl
    · exact ih

end Go.Abs
