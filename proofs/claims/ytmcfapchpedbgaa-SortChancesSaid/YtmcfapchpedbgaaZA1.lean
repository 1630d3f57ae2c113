/- Abstract values: what a slot or a cell holds, told by content. Frozen data are lists, own blocks have numbers. -/
import Derived.WalkKit
namespace Go.Abs
open Go Go.RowKit

inductive AV where
  | sc (v : Value)
  | ud
  | un
  | e0
  | own (id i j : Nat)
  | ms (id off len : Nat)
  | mp (id : Nat)
  | fp (cs : List AV)
  | sl (es : List (List AV))
  | fn (f : FuncId) (caps : List AV)
  | ag (cs : List AV)
  | tp (vs : List AV)

/-- May it stand in one cell? -/
def AV.one : AV → Bool
  | .ud | .un | .ag _ | .tp _ => false
  | .sc v => v.oneCell'
  | _ => true

/-- own block number to concrete block and cells per element -/
abbrev Mu := Nat → Option (Nat × Nat)

def Av (O : Nat → Prop) (μ : Mu) (b : Nat) : Prop := O b ∨ ∃ id k, μ id = some (b, k)

def MsAt (w : World) (b k off len : Nat) (v : Value) : Prop :=
  ∃ o cap c T, v = .slice (some ⟨b, o, none⟩) len cap ∧ len ≤ cap ∧ cap ≤ maxLen ∧ (cap ≠ 0 → o = off * k) ∧ w.heap[b]? = some (.cells c T (0, 0)) ∧ (off + cap) * k = c.size

inductive VR (w : World) (O : Nat → Prop) (μ : Mu) (n : Nat) : AV → Value → Prop where
  | sc (v : Value) (h : v.oneCell' = true) : VR w O μ n (.sc v) v
  | ud : VR w O μ n .ud undef
  | un (v : Value) : VR w O μ n .un v
  | e0 (p : Option Addr) : VR w O μ n .e0 (.slice p 0 0)
  | own (id i j : Nat) (v : Value) (h : id < n) (h1 : v.oneCell' = true) (hv : ∀ b k, μ id = some (b, k) → v = .pointer (some ⟨b, i * k + j, none⟩)) : VR w O μ n (.own id i j) v
  | ms (id off len : Nat) (v : Value) (h : id < n) (h1 : v.oneCell' = true) (hv : ∀ b k, μ id = some (b, k) → MsAt w b k off len v) : VR w O μ n (.ms id off len) v
  | mp (id : Nat) (v : Value) (h : id < n) (h1 : v.oneCell' = true) (hv : ∀ b k, μ id = some (b, k) → v = .map (some b)) : VR w O μ n (.mp id) v
  | fp (cs : List AV) (b o : Nat) (us : Nat → Value) (hA : cs ≠ [] → ¬ Av O μ b)
      (hc : ∀ (j : Nat) (c : AV), cs[j]? = some c → w.cell? ⟨b, o + j, none⟩ = some (us j)) (h1 : ∀ (j : Nat) (c : AV), cs[j]? = some c → c.one = true)
      (hr : ∀ (j : Nat) (c : AV), cs[j]? = some c → VR w O μ n c (us j)) : VR w O μ n (.fp cs) (.pointer (some ⟨b, o, none⟩))
  | slnil (p : Option Addr) : VR w O μ n (.sl []) (.slice p 0 0)
  | sl (es : List (List AV)) (b o cap k : Nat) (us : Nat → Nat → Value) (hcap : es.length ≤ cap) (hmax : cap ≤ maxLen) (hA : ∀ (i : Nat) (e : List AV), es[i]? = some e → e ≠ [] → ¬ Av O μ b)
      (hk : ∀ (i : Nat) (e : List AV), es[i]? = some e → e.length = k)
      (hc : ∀ (i : Nat) (e : List AV), es[i]? = some e → ∀ (j : Nat) (c : AV), e[j]? = some c → w.cell? ⟨b, o + i * k + j, none⟩ = some (us i j)) (h1 : ∀ (i : Nat) (e : List AV), es[i]? = some e → ∀ (j : Nat) (c : AV), e[j]? = some c → c.one = true)
      (hr : ∀ (i : Nat) (e : List AV), es[i]? = some e → ∀ (j : Nat) (c : AV), e[j]? = some c → VR w O μ n c (us i j)) : VR w O μ n (.sl es) (.slice (some ⟨b, o, none⟩) es.length cap)
  | fn (f : FuncId) (caps : List AV) (vs : Array Value) (us : Nat → Value) (hs : vs.size = caps.length) (hc : ∀ (j : Nat) (c : AV), caps[j]? = some c → vs[j]? = some (us j))
      (hr : ∀ (j : Nat) (c : AV), caps[j]? = some c → VR w O μ n c (us j)) : VR w O μ n (.fn f caps) (.func (.func f) #[] vs)
  | ag (cs : List AV) (vs : Array Value) (us : Nat → Value) (hs : vs.size = cs.length) (hc : ∀ (j : Nat) (c : AV), cs[j]? = some c → vs[j]? = some (us j)) (h1 : ∀ (j : Nat) (c : AV), cs[j]? = some c → c.one = true)
      (hr : ∀ (j : Nat) (c : AV), cs[j]? = some c → VR w O μ n c (us j)) : VR w O μ n (.ag cs) (.agg vs)
  | tp (cs : List AV) (vs : Array Value) (us : Nat → Value) (hs : vs.size = cs.length) (hc : ∀ (j : Nat) (c : AV), cs[j]? = some c → vs[j]? = some (us j))
      (hr : ∀ (j : Nat) (c : AV), cs[j]? = some c → VR w O μ n c (us j)) : VR w O μ n (.tp cs) (.tuple vs)

/-- How the world may go on: blocks that are not own stay as they are. -/
structure Evo (w : World) (μ : Mu) (n : Nat) (w' : World) (μ' : Mu) (n' : Nat) : Prop where
  os : w'.os = w.os
  tape : w'.tape = w.tape
  output : w'.output = w.output
  size : w.heap.size ≤ w'.heap.size
  le : n ≤ n'
  keep : ∀ b, b < w.heap.size → (∀ id k, μ id ≠ some (b, k)) → w'.heap[b]? = w.heap[b]?
  row : ∀ (b : Nat) c T f, w.heap[b]? = some (.cells c T f) → ∃ c', w'.heap[b]? = some (.cells c' T f) ∧ c'.size = c.size
  ids : ∀ id, id < n → μ' id = μ id ∨ μ' id = none
  new : ∀ id b k, μ' id = some (b, k) → n ≤ id → w.heap.size ≤ b ∨ ∃ id0 k0, μ id0 = some (b, k0)

theorem Evo.refl (w : World) (μ : Mu) (n : Nat) (hs : ∀ id b k, μ id = some (b, k) → id < n) : Evo w μ n w μ n :=
  ⟨rfl, rfl, rfl, Nat.le_refl _, Nat.le_refl _, fun _ _ _ => rfl, fun _ c _ _ h => ⟨c, h, rfl⟩, fun _ _ => .inl rfl, fun id b k h hn => absurd (hs id b k h) (by omega)⟩

theorem Evo.trans {w w1 w2 : World} {μ μ1 μ2 : Mu} {n n1 n2 : Nat} (h : Evo w μ n w1 μ1 n1) (g : Evo w1 μ1 n1 w2 μ2 n2) : Evo w μ n w2 μ2 n2 where
  os := g.os.trans h.os
  tape := g.tape.trans h.tape
  output := g.output.trans h.output
  size := Nat.le_trans h.size g.size
  le := Nat.le_trans h.le g.le
  keep b hb hn := by
    rw [g.keep b (Nat.lt_of_lt_of_le hb h.size) ?_, h.keep b hb hn]
    intro id k he
    rcases Nat.lt_or_ge id n with hi | hi
    · rcases h.ids id hi with e | e
      · rw [e] at he; exact hn id k he
      · rw [e] at he; cases he
    · rcases h.new id b k he hi with e | ⟨id0, k0, e⟩
      · omega
      · exact hn id0 k0 e
  row b c T f hb := by
    obtain ⟨c1, h1, e1⟩ := h.row b c T f hb
    obtain ⟨c2, h2, e2⟩ := g.row b c1 T f h1
    exact ⟨c2, h2, e2.trans e1⟩
  ids id hi := by
    rcases g.ids id (Nat.lt_of_lt_of_le hi h.le) with e | e
    · rw [e]; exact h.ids id hi
    · exact .inr e
  new id b k he hi := by
    rcases Nat.lt_or_ge id n1 with h1 | h1
    · rcases g.ids id h1 with e | e
      · exact h.new id b k (e ▸ he) hi
      · rw [e] at he; cases he
    · rcases g.new id b k he h1 with e | ⟨id0, k0, e⟩
      · exact .inl (Nat.le_trans h.size e)
      · rcases Nat.lt_or_ge id0 n with h0 | h0
        · rcases h.ids id0 h0 with e' | e'
          · exact .inr ⟨id0, k0, e' ▸ e⟩
          · rw [e'] at e; cases e
        · exact h.new id0 b k0 e h0

theorem cell_heap {w : World} {b o : Nat} {v : Value} : w.cell? ⟨b, o, none⟩ = some v ↔ ∃ c T f, w.heap[b]? = some (.cells c T f) ∧ c[o]? = some v := by
  unfold World.cell?
  constructor
  · intro h
    split at h
    · rename_i c T f hb
      exact ⟨c, T, f, hb, by simpa using h⟩
    · cases h
  · rintro ⟨c, T, f, hb, hc⟩
    simp [hb, hc]

theorem cell_lt {w : World} {b o : Nat} {v : Value} (h : w.cell? ⟨b, o, none⟩ = some v) : b < w.heap.size :=
  World.block_lt_of_cell? w ⟨b, o, none⟩ h

theorem cell_of_heap {w w' : World} {b : Nat} (h : w'.heap[b]? = w.heap[b]?) (o : Nat) : w'.cell? ⟨b, o, none⟩ = w.cell? ⟨b, o, none⟩ := by
  simp only [World.cell?, h]

theorem Evo.av {w w' : World} {μ μ' : Mu} {n n' : Nat} {O : Nat → Prop} (h : Evo w μ n w' μ' n') {b : Nat} (hb : b < w.heap.size) (ha : Av O μ' b) : Av O μ b := by
  rcases ha with ha | ⟨id, k, he⟩
  · exact .inl ha
  · rcases Nat.lt_or_ge id n with hi | hi
    · rcases h.ids id hi with e | e
      · exact .inr ⟨id, k, e ▸ he⟩
      · rw [e] at he; cases he
    · rcases h.new id b k he hi with e | ⟨id0, k0, e⟩
      · omega
      · exact .inr ⟨id0, k0, e⟩

theorem Evo.cell {w w' : World} {μ μ' : Mu} {n n' : Nat} {O : Nat → Prop} (h : Evo w μ n w' μ' n') {b o : Nat} {v : Value} (ha : ¬ Av O μ b) (hc : w.cell? ⟨b, o, none⟩ = some v) : w'.cell? ⟨b, o, none⟩ = some v := by
  rw [cell_of_heap (h.keep b (cell_lt hc) fun id k e => ha (.inr ⟨id, k, e⟩))]
  exact hc

theorem VR.evo {w w' : World} {μ μ' : Mu} {n n' : Nat} {O : Nat → Prop} (h : Evo w μ n w' μ' n') {a : AV} {v : Value} (hv : VR w O μ n a v) : VR w' O μ' n' a v := by
  induction hv with
  | sc v h1 => exact .sc v h1
  | ud => exact .ud
  | un v => exact .un v
  | e0 p => exact .e0 p
  | own id i j v hi h1 hv =>
    refine .own id i j v (Nat.lt_of_lt_of_le hi h.le) h1 fun b k hb => ?_
    rcases h.ids id hi with e | e
    · exact hv b k (e ▸ hb)
    · rw [e] at hb; cases hb
  | ms id off len v hi h1 hv =>
    refine .ms id off len v (Nat.lt_of_lt_of_le hi h.le) h1 fun b k hb => ?_
    rcases h.ids id hi with e | e
    · obtain ⟨o, cap, c, T, h1, h2, h3, h4, h5, h6⟩ := hv b k (e ▸ hb)
      obtain ⟨c', h7, h8⟩ := h.row b c T (0, 0) h5
      exact ⟨o, cap, c', T, h1, h2, h3, h4, h7, by rw [h8]; exact h6⟩
    · rw [e] at hb; cases hb
  | mp id v hi h1 hv =>
    refine .mp id v (Nat.lt_of_lt_of_le hi h.le) h1 fun b k hb => ?_
    rcases h.ids id hi with e | e
    · exact hv b k (e ▸ hb)
    · rw [e] at hb; cases hb
  | fp cs b o us hA hc h1 _ ih =>
    refine .fp cs b o us (fun hne ha => ?_) (fun j c hj => ?_) h1 (fun j c hj => ih j c hj)
    · cases cs with
      | nil => exact hne rfl
      | cons c cs => exact hA hne (h.av (cell_lt (hc 0 c rfl)) ha)
    · exact h.cell (hA (by rintro rfl; simp at hj)) (hc j c hj)
  | slnil p => exact .slnil p
  | sl es b o cap k us hcap hmax hA hk hc h1 _ ih =>
    refine .sl es b o cap k us hcap hmax (fun i e hi he ha => ?_) hk (fun i e hi j c hj => ?_) h1 (fun i e hi j c hj => ih i e hi j c hj)
    · cases e with
      | nil => exact he rfl
      | cons c e => exact hA i _ hi he (h.av (cell_lt (hc i _ hi 0 c rfl)) ha)
    · exact h.cell (hA i e hi (by rintro rfl; simp at hj)) (hc i e hi j c hj)
  | fn f caps vs us hs hc _ ih => exact .fn f caps vs us hs hc fun j c hj => ih j c hj
  | ag cs vs us hs hc h1 _ ih => exact .ag cs vs us hs hc h1 fun j c hj => ih j c hj
  | tp cs vs us hs hc _ ih => exact .tp cs vs us hs hc fun j c hj => ih j c hj

end Go.Abs
