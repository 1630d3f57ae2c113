/- The heap told by own blocks, and what each change of the world does to it. -/
import Derived.Test.YtmcfapchpedbgaaZA1
namespace Go.Abs
open Go Go.RowKit

inductive ABlk where
  | cells (k : Nat) (T : TypeId) (es : List (List AV))
  | map (kvs : List (Value × AV))

abbrev AH := Nat → Option ABlk

def BlkAt (w : World) (O : Nat → Prop) (μ : Mu) (n id : Nat) : ABlk → Prop
  | .cells k T es => ∃ b c, μ id = some (b, k) ∧ w.heap[b]? = some (.cells c T (0, 0)) ∧
      ∀ (i : Nat) (e : List AV), es[i]? = some e → e.length = k ∧ ∀ (j : Nat) (a : AV), e[j]? = some a → a.one = true ∧ ∃ u, c[i * k + j]? = some u ∧ VR w O μ n a u
  | .map kvs => ∃ b es, μ id = some (b, 0) ∧ w.heap[b]? = some (.map es kvs.length) ∧ es.size = kvs.length ∧
      ∀ (i : Nat) (x : Value × AV), kvs[i]? = some x → ∃ e, es[i]? = some e ∧ e.key = x.1 ∧ e.born = i ∧ x.2.one = true ∧ VR w O μ n x.2 e.val

structure HR (w : World) (O : Nat → Prop) (μ : Mu) (h : AH) (n : Nat) : Prop where
  olt : ∀ b, O b → b < w.heap.size
  scope : ∀ id b k, μ id = some (b, k) → id < n ∧ b < w.heap.size
  inj : ∀ id id' b k k', μ id = some (b, k) → μ id' = some (b, k') → id = id'
  notO : ∀ id b k, μ id = some (b, k) → ¬ O b
  blk : ∀ id B, h id = some B → BlkAt w O μ n id B

def updH (h : AH) (id : Nat) (B : ABlk) : AH := fun i => if i = id then some B else h i
def delH (h : AH) (id : Nat) : AH := fun i => if i = id then none else h i
def updM (μ : Mu) (id : Nat) (x : Nat × Nat) : Mu := fun i => if i = id then some x else μ i
def delM (μ : Mu) (id : Nat) : Mu := fun i => if i = id then none else μ i

theorem HR.refl {w : World} {O : Nat → Prop} {μ : Mu} {h : AH} {n : Nat} (hr : HR w O μ h n) : Evo w μ n w μ n := Evo.refl w μ n fun id b k e => (hr.scope id b k e).1

theorem BlkAt.evo {w w' : World} {O : Nat → Prop} {μ μ' : Mu} {n n' id : Nat} {B : ABlk} (hb : BlkAt w O μ n id B) (hm : μ' id = μ id) (hh : ∀ b k, μ id = some (b, k) → w'.heap[b]? = w.heap[b]?) (he : Evo w μ n w' μ' n') :
    BlkAt w' O μ' n' id B := by
  cases B with
  | cells k T es =>
    obtain ⟨b, c, h1, h2, h3⟩ := hb
    refine ⟨b, c, hm.trans h1, (hh b k h1).trans h2, fun i e hi => ⟨(h3 i e hi).1, fun j a hj => ?_⟩⟩
    obtain ⟨h4, u, h5, h6⟩ := (h3 i e hi).2 j a hj
    exact ⟨h4, u, h5, h6.evo he⟩
  | map kvs =>
    obtain ⟨b, es, h1, h2, h3, h4⟩ := hb
    refine ⟨b, es, hm.trans h1, (hh b 0 h1).trans h2, h3, fun i x hi => ?_⟩
    obtain ⟨e, h5, h6, h7, h8, h9⟩ := h4 i x hi
    exact ⟨e, h5, h6, h7, h8, h9.evo he⟩

/-- A world that differs in its draws alone. -/
theorem HR.same {w w' : World} {O : Nat → Prop} {μ : Mu} {h : AH} {n : Nat} (hr : HR w O μ h n) (h1 : w'.heap = w.heap) (h2 : w'.os = w.os) (h3 : w'.tape = w.tape) (h4 : w'.output = w.output) :
    Evo w μ n w' μ n ∧ HR w' O μ h n := by
  have he : Evo w μ n w' μ n := ⟨h2, h3, h4, by rw [h1]; exact Nat.le_refl _, Nat.le_refl _, fun _ _ _ => by rw [h1], fun b c T f hb => ⟨c, by rw [h1]; exact hb, rfl⟩, fun _ _ => .inl rfl,
    fun id b k e hn => absurd (hr.scope id b k e).1 (by omega)⟩
  refine ⟨he, fun b hb => by rw [h1]; exact hr.olt b hb, fun id b k e => by rw [h1]; exact hr.scope id b k e, hr.inj, hr.notO, fun id B hB => ?_⟩
  exact (hr.blk id B hB).evo rfl (fun b k _ => by rw [h1]) he

theorem HR.drew {w : World} {O : Nat → Prop} {μ : Mu} {h : AH} {n : Nat} (hr : HR w O μ h n) : Evo w μ n w.drew μ n ∧ HR w.drew O μ h n := hr.same rfl rfl rfl rfl

theorem heap_alloc_lt (w : World) (o : Obj) (b : Nat) (h : b < w.heap.size) : (w.alloc o).heap[b]? = w.heap[b]? := Below.heap_alloc w o b h
theorem heap_alloc_self (w : World) (o : Obj) : (w.alloc o).heap[w.heap.size]? = some o := heap_alloc_new w o

theorem Evo.alloc {w : World} {O : Nat → Prop} {μ : Mu} {h : AH} {n : Nat} (hr : HR w O μ h n) (o : Obj) (k : Nat) : Evo w μ n (w.alloc o) (updM μ n (w.heap.size, k)) (n + 1) where
  os := rfl
  tape := rfl
  output := rfl
  size := by simp
  le := by omega
  keep b hb _ := heap_alloc_lt w o b hb
  row b c T f hb := ⟨c, by rw [heap_alloc_lt w o b (Array.getElem?_eq_some_iff.1 hb).1]; exact hb, rfl⟩
  ids id hi := by unfold updM; rw [if_neg (by omega)]; exact .inl rfl
  new id b k' e hn := by
    unfold updM at e
    split at e
    · cases e; exact .inl (Nat.le_refl _)
    · have := (hr.scope id b k' e).1; omega

theorem HR.alloc {w : World} {O : Nat → Prop} {μ : Mu} {h : AH} {n : Nat} (hr : HR w O μ h n) (o : Obj) (k : Nat) (B : ABlk) (hB : BlkAt (w.alloc o) O (updM μ n (w.heap.size, k)) (n + 1) n B) :
    HR (w.alloc o) O (updM μ n (w.heap.size, k)) (updH h n B) (n + 1) where
  olt b hb := by have := hr.olt b hb; simp; omega
  scope id b k' e := by
    unfold updM at e
    split at e
    · cases e; subst_vars; simp
    · have := hr.scope id b k' e; simp; omega
  inj id id' b k1 k2 e1 e2 := by
    unfold updM at e1 e2
    split at e1
    · split at e2
      · omega
      · cases e1; have := (hr.scope id' _ k2 e2).2; omega
    · split at e2
      · cases e2; have := (hr.scope id _ k1 e1).2; omega
      · exact hr.inj id id' b k1 k2 e1 e2
  notO id b k' e := by
    unfold updM at e
    split at e
    · cases e; intro ho; have := hr.olt _ ho; omega
    · exact hr.notO id b k' e
  blk id B' hB' := by
    unfold updH at hB'
    split at hB'
    · cases hB'; subst_vars; exact hB
    · rename_i hne
      refine (hr.blk id B' hB').evo ?_ ?_ (Evo.alloc hr o k)
      · unfold updM; rw [if_neg hne]
      · intro b k' e
        exact heap_alloc_lt w o b (hr.scope id b k' e).2

/-- Forget a block. -/
theorem HR.del {w : World} {O : Nat → Prop} {μ : Mu} {h : AH} {n : Nat} (hr : HR w O μ h n) (id : Nat) : Evo w μ n w (delM μ id) n ∧ HR w O (delM μ id) (delH h id) n := by
  have hd : ∀ i b k, delM μ id i = some (b, k) → i ≠ id ∧ μ i = some (b, k) := fun i b k e => by
    unfold delM at e; split at e
    · cases e
    · exact ⟨by assumption, e⟩
  have he : Evo w μ n w (delM μ id) n := ⟨rfl, rfl, rfl, Nat.le_refl _, Nat.le_refl _, fun _ _ _ => rfl, fun b c T f hb => ⟨c, hb, rfl⟩,
    fun i _ => by unfold delM; split <;> simp, fun i b k e hn => absurd (hr.scope i b k (hd i b k e).2).1 (by omega)⟩
  refine ⟨he, hr.olt, fun i b k e => hr.scope i b k (hd i b k e).2, fun i i' b k k' e e' => hr.inj i i' b k k' (hd i b k e).2 (hd i' b k' e').2, fun i b k e => hr.notO i b k (hd i b k e).2, fun i B hB => ?_⟩
  unfold delH at hB
  split at hB
  · cases hB
  · rename_i hne
    exact (hr.blk i B hB).evo (by unfold delM; rw [if_neg hne]) (fun _ _ _ => rfl) he

/-- A change of one own block. -/
theorem HR.set {w w' : World} {O : Nat → Prop} {μ : Mu} {h : AH} {n : Nat} (hr : HR w O μ h n) (id b k : Nat) (hm : μ id = some (b, k)) (B : ABlk)
    (hos : w'.os = w.os) (htape : w'.tape = w.tape) (hout : w'.output = w.output) (hsz : w'.heap.size = w.heap.size)
    (hkeep : ∀ i, i ≠ b → w'.heap[i]? = w.heap[i]?) (hrow : ∀ c T f, w.heap[b]? = some (.cells c T f) → ∃ c', w'.heap[b]? = some (.cells c' T f) ∧ c'.size = c.size)
    (hB : Evo w μ n w' μ n → BlkAt w' O μ n id B) : Evo w μ n w' μ n ∧ HR w' O μ (updH h id B) n := by
  have he : Evo w μ n w' μ n := ⟨hos, htape, hout, by omega, Nat.le_refl _, fun i hi hn => hkeep i (by rintro rfl; exact hn id k hm),
    fun i c T f hb => by
      by_cases hib : i = b
      · subst hib; exact hrow c T f hb
      · exact ⟨c, by rw [hkeep i hib]; exact hb, rfl⟩,
    fun _ _ => .inl rfl, fun i b' k' e hn => absurd (hr.scope i b' k' e).1 (by omega)⟩
  refine ⟨he, fun b hb => by rw [hsz]; exact hr.olt b hb, fun i b' k' e => by rw [hsz]; exact hr.scope i b' k' e, hr.inj, hr.notO, fun i B' hB' => ?_⟩
  unfold updH at hB'
  split at hB'
  · cases hB'; subst_vars; exact hB he
  · rename_i hne
    refine (hr.blk i B' hB').evo rfl (fun b' k' e => hkeep b' ?_) he
    rintro rfl
    exact hne (hr.inj _ _ _ _ _ e hm)

end Go.Abs
