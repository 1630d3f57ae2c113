/- Functions that change own blocks which are given to them: their contracts, and calls of them. -/
import Derived.Test.YtmcfapchpedbgaaZE3
set_option linter.unusedSimpArgs false
set_option linter.unusedVariables false
namespace Go.Abs
open Go Go.RowKit

/-- own blocks of such numbers alone -/
inductive On (p : Nat → Bool) : AV → Prop
  | free (a : AV) (h : Free a) : On p a
  | own (id i j : Nat) (h : p id = true) : On p (.own id i j)
  | ms (id off len : Nat) (h : p id = true) : On p (.ms id off len)
  | mp (id : Nat) (h : p id = true) : On p (.mp id)
  | fn (f : FuncId) (cs : List AV) (h : ∀ (j : Nat) (c : AV), cs[j]? = some c → On p c) : On p (.fn f cs)
  | ag (cs : List AV) (h : ∀ (j : Nat) (c : AV), cs[j]? = some c → On p c) : On p (.ag cs)
  | tp (cs : List AV) (h : ∀ (j : Nat) (c : AV), cs[j]? = some c → On p c) : On p (.tp cs)
def OnB (p : Nat → Bool) : ABlk → Prop
  | .cells _ _ es => ∀ e ∈ es, ∀ a ∈ e, On p a
  | .map kvs => ∀ x ∈ kvs, On p x.2
def muP (p : Nat → Bool) (μ : Mu) : Mu := fun i => if p i then μ i else none
theorem muP_some {p : Nat → Bool} {μ : Mu} {i : Nat} {x : Nat × Nat} (h : muP p μ i = some x) : p i = true ∧ μ i = some x := by
  unfold muP at h; split at h
  · exact ⟨by assumption, h⟩
  · cases h

theorem VR.on {w : World} {O1 O2 : Nat → Prop} {μ1 μ2 : Mu} {n1 n2 : Nat} {p : Nat → Bool} {a : AV} (ho : On p a) (hp : ∀ id, p id = true → μ2 id = μ1 id ∧ id < n2) (hav : ∀ b, Av O2 μ2 b → Av O1 μ1 b) : ∀ {v : Value}, VR w O1 μ1 n1 a v → VR w O2 μ2 n2 a v := by
  induction ho with
  | free a h => intro v hv; exact (hv.free h hav).lift fun b hb => hb
  | own id i j h =>
    intro v hv
    cases hv with
    | own _ _ _ _ h0 h1 hv => exact .own id i j v (hp id h).2 h1 fun b k e => hv b k ((hp id h).1 ▸ e)
  | ms id off len h =>
    intro v hv
    cases hv with
    | ms _ _ _ _ h0 h1 hv => exact .ms id off len v (hp id h).2 h1 fun b k e => hv b k ((hp id h).1 ▸ e)
  | mp id h =>
    intro v hv
    cases hv with
    | mp _ _ h0 h1 hv => exact .mp id v (hp id h).2 h1 fun b k e => hv b k ((hp id h).1 ▸ e)
  | fn f cs h ih =>
    intro v hv
    cases hv with
    | fn _ _ vs us hs hc hr => exact .fn f cs vs us hs hc fun j c hj => ih j c hj (hr j c hj)
  | ag cs h ih =>
    intro v hv
    cases hv with
    | ag _ vs us hs hc h1 hr => exact .ag cs vs us hs hc h1 fun j c hj => ih j c hj (hr j c hj)
  | tp cs h ih =>
    intro v hv
    cases hv with
    | tp _ vs us hs hc hr => exact .tp cs vs us hs hc fun j c hj => ih j c hj (hr j c hj)

theorem BlkAt.on {w : World} {O1 O2 : Nat → Prop} {μ1 μ2 : Mu} {n1 n2 id : Nat} {p : Nat → Bool} {B : ABlk} (hb : BlkAt w O1 μ1 n1 id B) (ho : OnB p B) (hm : μ2 id = μ1 id) (hp : ∀ id, p id = true → μ2 id = μ1 id ∧ id < n2) (hav : ∀ b, Av O2 μ2 b → Av O1 μ1 b) : BlkAt w O2 μ2 n2 id B := by
  cases B with
  | cells k T es =>
    obtain ⟨b, c, h1, h2, h3⟩ := hb
    refine ⟨b, c, hm.trans h1, h2, fun i e hi => ⟨(h3 i e hi).1, fun j a hj => ?_⟩⟩
    obtain ⟨h4, u, h5, h6⟩ := (h3 i e hi).2 j a hj
    exact ⟨h4, u, h5, h6.on (ho e (List.mem_of_getElem? hi) a (List.mem_of_getElem? hj)) hp hav⟩
  | map kvs =>
    obtain ⟨b, es, h1, h2, h3, h4⟩ := hb
    refine ⟨b, es, hm.trans h1, h2, h3, fun i x hi => ?_⟩
    obtain ⟨e, h5, h6, h7, h8, h9⟩ := h4 i x hi
    exact ⟨e, h5, h6, h7, h8, h9.on (ho x (List.mem_of_getElem? hi)) hp hav⟩

theorem avP_split {O : Nat → Prop} {p : Nat → Bool} {μ : Mu} {b : Nat} (h : Av (Av O (muP p μ)) (muP (fun i => !p i) μ) b) : Av O μ b := by
  rcases h with (h | ⟨id, k, h⟩) | ⟨id, k, h⟩
  · exact .inl h
  · exact .inr ⟨id, k, (muP_some h).2⟩
  · exact .inr ⟨id, k, (muP_some h).2⟩
theorem VR.splitP {w : World} {O : Nat → Prop} {μ : Mu} {n : Nat} (p : Nat → Bool) {a : AV} {v : Value} (hv : VR w O μ n a v) : VR w (Av O (muP p μ)) (muP (fun i => !p i) μ) n a v := by
  induction hv with
  | sc v h1 => exact .sc v h1
  | ud => exact .ud
  | un v => exact .un v
  | e0 p => exact .e0 p
  | own id i j v h h1 hv => exact .own id i j v h h1 fun b k e => hv b k (muP_some e).2
  | ms id off len v h h1 hv => exact .ms id off len v h h1 fun b k e => hv b k (muP_some e).2
  | mp id v h h1 hv => exact .mp id v h h1 fun b k e => hv b k (muP_some e).2
  | fp cs b o us hA hc h1 _ ih => exact .fp cs b o us (fun hne hb => hA hne (avP_split hb)) hc h1 ih
  | slnil p => exact .slnil p
  | sl es b o cap k us hcap hmax hA hk hc h1 _ ih => exact .sl es b o cap k us hcap hmax (fun i e hi hne hb => hA i e hi hne (avP_split hb)) hk hc h1 ih
  | fn f cs vs us hs hc _ ih => exact .fn f cs vs us hs hc ih
  | ag cs vs us hs hc h1 _ ih => exact .ag cs vs us hs hc h1 ih
  | tp cs vs us hs hc _ ih => exact .tp cs vs us hs hc ih

section
variable {P : Program} {f : FuncId} {args : List AV}

/-- The end of a function that changes own blocks: what it makes itself is forgotten, or frozen where the result shows it. -/
theorem HC.shut {h0 : AH} {n : Nat} {R : K3} {v' : AV} {L' : List (Nat × Option ABlk)} {F : Prop} (hc : HC P f args h0 n R)
    (hR : ∀ v h' n', R v h' n' → F ∧ (∀ (i : Nat) (B : ABlk), hl L' i = some B → h' i = some B ∧ i < n ∧ OnB (fun i => decide (i < n)) B) ∧ ∃ hN : AH, (∀ i B, hN i = some B → n ≤ i ∧ h' i = some B) ∧ Snap hN v v') : HC P f args h0 n (fun v h' n' => (v = v' ∧ h' = hl L' ∧ n' = n) ∧ F) := by
  refine ⟨hc.1, fun O μ w vs hr hs hv => (hc.2 O μ w vs hr hs hv).mono ?_⟩
  rintro e w' ⟨u, v, h', n', μ', rfl, q1, q2, q3, q4⟩
  obtain ⟨hF, g1, hN, g2, g3⟩ := hR v h' n' q1
  have hle := q4.le
  have hpn : ∀ id, decide (id < n) = true → muP (fun i => decide (i < n)) μ' id = μ' id ∧ id < n := fun id h => ⟨by unfold muP; rw [if_pos h], by simpa using h⟩
  have hav : ∀ b, Av O (muP (fun i => decide (i < n)) μ') b → Av O μ' b := fun b hb => by
    rcases hb with hb | ⟨id, k, hb⟩
    · exact .inl hb
    · exact .inr ⟨id, k, (muP_some hb).2⟩
  have hE : Evo w μ n w' (muP (fun i => decide (i < n)) μ') n := ⟨q4.os, q4.tape, q4.output, q4.size, Nat.le_refl _, q4.keep, q4.row, fun id hi => by
      rw [(hpn id (by simpa using hi)).1]; exact q4.ids id hi, fun id b k e hn => absurd (muP_some e).1 (by simpa using hn)⟩
  have hH : HR w' O (muP (fun i => decide (i < n)) μ') (hl L') n := by
    refine ⟨q2.olt, fun id b k e => ⟨by simpa using (muP_some e).1, (q2.scope id b k (muP_some e).2).2⟩, fun id id' b k k' e e' => q2.inj id id' b k k' (muP_some e).2 (muP_some e').2, fun id b k e => q2.notO id b k (muP_some e).2, fun id B hB => ?_⟩
    obtain ⟨h1, h2, h3⟩ := g1 id B hB
    exact (q2.blk id B h1).on h3 (hpn id (by simpa using h2)).1 hpn hav
  refine ⟨u, v', hl L', n, _, rfl, ⟨⟨rfl, rfl, rfl⟩, hF⟩, hH, ?_, hE⟩
  -- the result, frozen
  have hrN : HR w' (Av O (muP (fun i => decide (i < n)) μ')) (muP (fun i => !decide (i < n)) μ') hN n' := by
    refine ⟨fun b hb => ?_, fun id b k e => q2.scope id b k (muP_some e).2, fun id id' b k k' e e' => q2.inj id id' b k k' (muP_some e).2 (muP_some e').2, fun id b k e hO => ?_, fun id B hB => ?_⟩
    · rcases hb with hb | ⟨id, k, hb⟩
      · exact q2.olt b hb
      · exact (q2.scope id b k (muP_some hb).2).2
    · obtain ⟨e1, e2⟩ := muP_some e
      rcases hO with hO | ⟨id', k', hO⟩
      · exact q2.notO id b k e2 hO
      · obtain ⟨e3, e4⟩ := muP_some hO
        rw [q2.inj _ _ _ _ _ e2 e4] at e1
        rw [e3] at e1; cases e1
    · obtain ⟨h1, h2⟩ := g2 id B hB
      refine (q2.blk id B h2).mapV (by unfold muP; rw [if_pos (by simp; omega)]) fun hv => ?_
      exact hv.splitP _
  have hv1 : VR w' (Av O (muP (fun i => decide (i < n)) μ')) (muP (fun i => !decide (i < n)) μ') n' v u := q3.splitP _
  exact (g3.vr hrN hv1).lift fun b hb => hb

/-- The frame: a function that is given some own blocks leaves all others as they are. -/
theorem HC.frm {h hE hE' : AH} {n : Nat} {v : AV} {K : K3} (I : List Nat) (hi : ∀ i B, hE i = some B → I.contains i = true ∧ h i = some B) (hI : ∀ i, I.contains i = true → i < n)
    (hv : On (fun i => I.contains i) v) (hb : ∀ i B, hE' i = some B → I.contains i = true ∧ OnB (fun i => I.contains i) B) {F : Prop} (hc : HC P f args hE n (fun a h' n' => (a = v ∧ h' = hE' ∧ n' = n) ∧ F)) (hk : F → K v (fun i => if I.contains i then hE' i else h i) n) : HC P f args h n K := by
  refine ⟨hc.1, fun O μ w vs hr hsz hva => ?_⟩
  have hrI : HR w (Av O (muO I μ)) (muI I μ) hE n := by
    refine ⟨fun b hb => ?_, fun id b k e => hr.scope id b k (muI_some e).2, fun id id' b k k' e e' => hr.inj id id' b k k' (muI_some e).2 (muI_some e').2, fun id b k e hO => ?_, fun id B hB => ?_⟩
    · rcases hb with hb | ⟨id, k, hb⟩
      · exact hr.olt b hb
      · exact (hr.scope id b k (muO_some hb).2).2
    · obtain ⟨e1, e2⟩ := muI_some e
      rcases hO with hO | ⟨id', k', hO⟩
      · exact hr.notO id b k e2 hO
      · obtain ⟨e3, e4⟩ := muO_some hO
        rw [hr.inj _ _ _ _ _ e2 e4] at e1
        rw [e1] at e3; cases e3
    · obtain ⟨h1, h2⟩ := hi id B hB
      exact (hr.blk id B h2).mapV (by simp only [muI]; rw [if_pos h1]) fun hv => hv.split I
  refine (hc.2 (Av O (muO I μ)) (muI I μ) w vs hrI hsz (fun j c hj => ?_)).mono ?_
  · obtain ⟨u, h1, h2⟩ := hva j c hj
    exact ⟨u, h1, h2.split I⟩
  rintro e w' ⟨u, v0, h', n', μ', rfl, ⟨⟨rfl, rfl, hnn⟩, hF⟩, q2, q3, q4⟩
  replace hk := hk hF
  obtain rfl : n = n' := hnn.symm
  have hm : ∀ id, I.contains id = true → (fun i => if I.contains i then μ' i else μ i) id = μ' id := fun id h => by simp only [h, if_true]
  have hm0 : ∀ id, I.contains id = false → (fun i => if I.contains i then μ' i else μ i) id = μ id := fun id h => by simp only [h, Bool.false_eq_true, if_false]
  have hin : ∀ id b k, μ' id = some (b, k) → I.contains id = true → μ id = some (b, k) := fun id b k e hI' => by
    rcases q4.ids id (hI id hI') with e1 | e1
    · rw [e1] at e; exact (muI_some e).2
    · rw [e1] at e; cases e
  have hout : ∀ id b k, μ id = some (b, k) → I.contains id = false → Av O (muO I μ) b := fun id b k e hI' => .inr ⟨id, k, by unfold muO; rw [if_neg (by rw [hI']; decide)]; exact e⟩
  have hav : ∀ b, Av O (fun i => if I.contains i then μ' i else μ i) b → Av (Av O (muO I μ)) μ' b := fun b hb => by
    rcases hb with hb | ⟨id, k, hb⟩
    · exact .inl (.inl hb)
    · rcases Bool.eq_false_or_eq_true (I.contains id) with hI' | hI'
      · exact .inr ⟨id, k, (hm id hI') ▸ hb⟩
      · exact .inl (hout id b k ((hm0 id hI') ▸ hb) hI')
  have hE2 : Evo w μ n w' (fun i => if I.contains i then μ' i else μ i) n := by
    refine ⟨q4.os, q4.tape, q4.output, q4.size, Nat.le_refl _, fun b hb hn => q4.keep b hb fun id k e => hn id k (muI_some e).2, q4.row, fun id hid => ?_, fun id b k e hn => ?_⟩
    · rcases Bool.eq_false_or_eq_true (I.contains id) with hI' | hI'
      ·
        have e0 := hm id hI'
        simp only at e0
        rw [e0]
        rcases q4.ids id hid with e1 | e1
        · rw [e1]; left; unfold muI; rw [if_pos hI']
        · exact .inr e1
      · exact .inl (hm0 id hI')
    · rcases Bool.eq_false_or_eq_true (I.contains id) with hI' | hI'
      · exact absurd (hI id hI') (by omega)
      · exact absurd (hr.scope id b k ((hm0 id hI') ▸ e)).1 (by omega)
  have hH2 : HR w' O (fun i => if I.contains i then μ' i else μ i) (fun i => if I.contains i then h' i else h i) n := by
    refine ⟨fun b hb => Nat.lt_of_lt_of_le (hr.olt b hb) q4.size, fun id b k e => ?_, fun id id' b k k' e e' => ?_, fun id b k e => ?_, fun id B hB => ?_⟩
    · rcases Bool.eq_false_or_eq_true (I.contains id) with hI' | hI'
      · exact q2.scope id b k ((hm id hI') ▸ e)
      ·
        have := hr.scope id b k ((hm0 id hI') ▸ e)
        exact ⟨this.1, Nat.lt_of_lt_of_le this.2 q4.size⟩
    · rcases Bool.eq_false_or_eq_true (I.contains id) with hI1 | hI1
      ·
        have e1 : μ' id = some (b, k) := (hm id hI1) ▸ e
        rcases Bool.eq_false_or_eq_true (I.contains id') with hI2 | hI2
        · exact q2.inj id id' b k k' e1 ((hm id' hI2) ▸ e')
        · exact absurd (hout id' b k' ((hm0 id' hI2) ▸ e') hI2) (q2.notO id b k e1)
      ·
        have e1 : μ id = some (b, k) := (hm0 id hI1) ▸ e
        rcases Bool.eq_false_or_eq_true (I.contains id') with hI2 | hI2
        · exact absurd (hout id b k e1 hI1) (q2.notO id' b k' ((hm id' hI2) ▸ e'))
        · exact hr.inj id id' b k k' e1 ((hm0 id' hI2) ▸ e')
    · rcases Bool.eq_false_or_eq_true (I.contains id) with hI' | hI'
      · exact fun hO => q2.notO id b k ((hm id hI') ▸ e) (.inl hO)
      · exact hr.notO id b k ((hm0 id hI') ▸ e)
    · rcases Bool.eq_false_or_eq_true (I.contains id) with hI' | hI'
      ·
        simp only [hI', if_true] at hB
        exact (q2.blk id B hB).on (hb id B hB).2 (hm id hI') (fun i h => ⟨hm i h, hI i h⟩) hav
      ·
        simp only [hI', Bool.false_eq_true, if_false] at hB
        refine (hr.blk id B hB).evo (hm0 id hI') (fun b k e => q4.keep b (hr.scope id b k e).2 fun id' k' e' => ?_) hE2
        obtain ⟨e1, e2⟩ := muI_some e'
        rw [hr.inj _ _ _ _ _ e e2] at hI'
        rw [e1] at hI'; cases hI'
  exact ⟨u, _, _, _, _, rfl, hk, hH2, q3.on hv (fun i h => ⟨hm i h, hI i h⟩) hav, hE2⟩

/-- what is to hold at the end of such a function -/
def Shut (n : Nat) (v' : AV) (L' : List (Nat × Option ABlk)) (F : Prop) : K3 := fun v h' n' =>
  F ∧ (∀ (i : Nat) (B : ABlk), hl L' i = some B → h' i = some B ∧ i < n ∧ OnB (fun i => decide (i < n)) B) ∧ ∃ hN : AH, (∀ i B, hN i = some B → n ≤ i ∧ h' i = some B) ∧ Snap hN v v'

theorem HC.of_bodyM {fn : Func} {c : Code} {L0 : List (Nat × Option ABlk)} {n : Nat} {v' : AV} {L' : List (Nat × Option ABlk)} {F : Prop} (env : Env) (hf : P.funcs[f]? = some fn) (hb : fn.body = some c) (hname : (fn.name == "runtime.NumGoroutine") = false) (hargs : args.length ≤ fn.ntmps) (he : enterEnv args = env)
    (hsat : ∀ O, SatL P fn.ntmps [] O [c] (fnQ P fn.results.toList (Shut n v' L' F)) ⟨env, hl L0, n⟩) : HC P f args (hl L0) n (fun v h' n' => (v = v' ∧ h' = hl L' ∧ n' = n) ∧ F) :=
  (HC.of_body hf hb hname hargs fun O => by rw [he]; exact Sat.ofL (hsat O)).shut fun _ _ _ h => h

theorem fnQ_shut {env : Env} {m : Nat} {rs : List ResultVar} {n : Nat} {v' : AV} {L' : List (Nat × Option ABlk)} {F : Prop} (L : List (Nat × Option ABlk)) (v : AV) (hv : aresults P (hl L) env rs = some v) (h1 : ∀ (i : Nat) (B : ABlk), hl L' i = some B → hl L i = some B ∧ i < n ∧ OnB (fun i => decide (i < n)) B) (hN : AH) (h2 : ∀ i B, hN i = some B → n ≤ i ∧ hl L i = some B) (h3 : Snap hN v v') (hF : F) : fnQ P rs (Shut n v' L' F) .ret ⟨env, hl L, m⟩ :=
  ⟨v, hv, hF, h1, hN, h2, h3⟩
theorem fnQ_shutN {env : Env} {m : Nat} {rs : List ResultVar} {n : Nat} {v' : AV} {L' : List (Nat × Option ABlk)} {F : Prop} (L : List (Nat × Option ABlk)) (v : AV) (hv : aresults P (hl L) env rs = some v) (h1 : ∀ (i : Nat) (B : ABlk), hl L' i = some B → hl L i = some B ∧ i < n ∧ OnB (fun i => decide (i < n)) B) (hN : AH) (h2 : ∀ i B, hN i = some B → n ≤ i ∧ hl L i = some B) (h3 : Snap hN v v') (hF : F) : fnQ P rs (Shut n v' L' F) .normal ⟨env, hl L, m⟩ :=
  ⟨v, hv, hF, h1, hN, h2, h3⟩

def OnO (p : Nat → Bool) (B : Option ABlk) : Prop := ∀ B', B = some B' → OnB p B'
def OnC (p : Nat → Bool) (cs : List AV) : Prop := ∀ a ∈ cs, On p a
theorem OnC.nil {p : Nat → Bool} : OnC p [] := fun _ h => by cases h
theorem OnC.cons {p : Nat → Bool} {a : AV} {l : List AV} (h : On p a) (hl : OnC p l) : OnC p (a :: l) := fun x hx => by
  rcases List.mem_cons.1 hx with rfl | hx
  · exact h
  · exact hl x hx
theorem OnC.at {p : Nat → Bool} {l : List AV} (h : OnC p l) (j : Nat) (c : AV) (hj : l[j]? = some c) : On p c := h c (List.mem_of_getElem? hj)
theorem On.agl {p : Nat → Bool} {l : List AV} (h : OnC p l) : On p (.ag l) := .ag l h.at
theorem On.tpl {p : Nat → Bool} {l : List AV} (h : OnC p l) : On p (.tp l) := .tp l h.at
theorem On.fnl {p : Nat → Bool} {f : FuncId} {l : List AV} (h : OnC p l) : On p (.fn f l) := .fn f l h.at
theorem On.gsv {p : Nat → Bool} {id len : Nat} (h : p id = true) : On p (gsv id len) := by
  cases len with
  | zero => exact .free _ (.sc _)
  | succ m => exact .ms _ _ _ h
theorem ono_typed {α : Type} {p : Nat → Bool} {k : Nat} {T : TypeId} {l : List α} {f : α → List AV} (hf : ∀ y, FreeL (f y)) : OnO p (some (.cells k T (l.map f))) := fun B' h => by
  cases h
  intro e he a ha
  obtain ⟨y, _, rfl⟩ := List.mem_map.1 he
  exact .free a (hf y a ha)
theorem ono_gsb {α : Type} {p : Nat → Bool} {k : Nat} {T : TypeId} {l : List α} {f : α → List AV} (hf : ∀ y, FreeL (f y)) : OnO p (gsb k T (l.map f)) := fun B' h => by
  cases l with
  | nil => cases h
  | cons x l => exact ono_typed (T := T) (k := k) (l := x :: l) hf B' h
theorem ono_s {p : Nat → Bool} {k : Nat} {T : TypeId} {cs : List AV} (h : OnC p cs) : OnO p (some (.cells k T [cs])) := fun B' hb => by
  cases hb
  intro e he a ha
  rw [List.mem_singleton] at he; subst he
  exact h a ha
theorem ono_a {p : Nat → Bool} {k : Nat} {T : TypeId} {l : List Int} : OnO p (some (.cells k T [l.map int])) := ono_s fun a ha => by
  obtain ⟨y, _, rfl⟩ := List.mem_map.1 ha; exact .free _ (.sc _)
theorem ono_none {p : Nat → Bool} : OnO p none := fun _ h => by cases h
theorem ono_mp {κ β : Type} {p : Nat → Bool} {l : List (κ × β)} {kf : κ → Value} {vf : β → AV} (hf : ∀ y, Free (vf y)) : OnO p (some (.map (l.map (kvE kf vf)))) := fun B' hb => by
  cases hb
  intro x hx
  obtain ⟨y, _, rfl⟩ := List.mem_map.1 hx
  exact .free _ (hf _)

/-- the blocks of a list, each in the heap -/
theorem sh_nil {n : Nat} {h' : AH} : ∀ (i : Nat) (B : ABlk), hl [] i = some B → h' i = some B ∧ i < n ∧ OnB (fun i => decide (i < n)) B := fun i B h => by simp [hl] at h
theorem sh_cons {n : Nat} {h' : AH} {i : Nat} {A : Option ABlk} {L : List (Nat × Option ABlk)} (h1 : h' i = A) (h2 : i < n) (h3 : OnO (fun i => decide (i < n)) A) (h4 : ∀ (i : Nat) (B : ABlk), hl L i = some B → h' i = some B ∧ i < n ∧ OnB (fun i => decide (i < n)) B) : ∀ (j : Nat) (B : ABlk), hl ((i, A) :: L) j = some B → h' j = some B ∧ j < n ∧ OnB (fun i => decide (i < n)) B := fun j B hj => by
  simp only [hl] at hj
  split at hj
  · rename_i e; subst e; exact ⟨h1.trans hj, h2, h3 B hj⟩
  · exact h4 j B hj
theorem hn_nil {n : Nat} {h' : AH} : ∀ (i : Nat) (B : ABlk), hl [] i = some B → n ≤ i ∧ h' i = some B := fun i B h => by simp [hl] at h
theorem hn_cons {n : Nat} {h' : AH} {i : Nat} {A : Option ABlk} {L : List (Nat × Option ABlk)} (h2 : n ≤ i) (h1 : h' i = A) (h4 : ∀ (i : Nat) (B : ABlk), hl L i = some B → n ≤ i ∧ h' i = some B) : ∀ (j : Nat) (B : ABlk), hl ((i, A) :: L) j = some B → n ≤ j ∧ h' j = some B := fun j B hj => by
  simp only [hl] at hj
  split at hj
  · rename_i e; subst e; exact ⟨h2, h1.trans hj⟩
  · exact h4 j B hj

inductive Rest (I : List Nat) : List (Nat × Option ABlk) → List (Nat × Option ABlk) → Prop
  | nil : Rest I [] []
  | keep {i : Nat} {B : Option ABlk} {L Lr : List (Nat × Option ABlk)} (h : I.contains i = false) (hr : Rest I L Lr) : Rest I ((i, B) :: L) ((i, B) :: Lr)
  | drop {i : Nat} {B : Option ABlk} {L Lr : List (Nat × Option ABlk)} (h : I.contains i = true) (hr : Rest I L Lr) : Rest I ((i, B) :: L) Lr
theorem Rest.hl {I : List Nat} {L Lr : List (Nat × Option ABlk)} (h : Rest I L Lr) (j : Nat) : (I.contains j = false → hl Lr j = hl L j) ∧ (I.contains j = true → hl Lr j = none) := by
  induction h with
  | nil => exact ⟨fun _ => rfl, fun _ => rfl⟩
  | keep h hr ih =>
    rename_i i B L Lr
    refine ⟨fun e => ?_, fun e => ?_⟩
    · simp only [Abs.hl]; rw [ih.1 e]
    · simp only [Abs.hl]
      rw [if_neg (by rintro rfl; rw [e] at h; cases h)]
      exact ih.2 e
  | drop h hr ih =>
    rename_i i B L Lr
    refine ⟨fun e => ?_, fun e => ih.2 e⟩
    simp only [Abs.hl]
    rw [if_neg (by rintro rfl; rw [e] at h; cases h)]
    exact ih.1 e
/-- blocks of such numbers -/
inductive OnL (I : List Nat) : List (Nat × Option ABlk) → Prop
  | nil : OnL I []
  | cons {i : Nat} {B : Option ABlk} {L : List (Nat × Option ABlk)} (h : I.contains i = true) (hB : OnO (fun i => I.contains i) B) (hl : OnL I L) : OnL I ((i, B) :: L)
theorem OnL.spec {I : List Nat} {L : List (Nat × Option ABlk)} (h : OnL I L) : ∀ i B, hl L i = some B → I.contains i = true ∧ OnB (fun i => I.contains i) B := by
  induction h with
  | nil => intro i B h; simp [hl] at h
  | cons h hB _ ih =>
    intro j B hj
    simp only [hl] at hj
    split at hj
    · rename_i e; subst e; exact ⟨h, hB B hj⟩
    · exact ih j B hj
theorem mrg {I : List Nat} {L' L Lr : List (Nat × Option ABlk)} (hO : OnL I L') (hr : Rest I L Lr) : (fun i => if I.contains i then hl L' i else hl L i) = hl (L' ++ Lr) := by
  funext j
  induction hO with
  | nil =>
    simp only [List.nil_append]
    split
    · rename_i h; rw [(hr.hl j).2 h]; rfl
    · rename_i h; rw [(hr.hl j).1 (by simpa using h)]
  | cons h hB _ ih =>
    rename_i i B L0 _
    simp only [List.cons_append, hl]
    by_cases e : j = i
    · rw [if_pos e, if_pos e, if_pos (by rw [e]; exact h)]
    · rw [if_neg e, if_neg e]; exact ih

theorem HC.mut {L LE L' Lr L2 : List (Nat × Option ABlk)} {n : Nat} {v : AV} {K : K3} (I : List Nat) (hi : ∀ i B, hl LE i = some B → I.contains i = true ∧ hl L i = some B) (hI : ∀ i ∈ I, i < n)
    (hv : On (fun i => I.contains i) v) (hb : OnL I L') {F : Prop} (hc : HC P f args (hl LE) n (fun a h' n' => (a = v ∧ h' = hl L' ∧ n' = n) ∧ F)) (hr : Rest I L Lr) (h2 : L' ++ Lr = L2) (hk : F → K v (hl L2) n) : HC P f args (hl L) n K := by
  refine HC.frm I hi (fun i h => hI i (by simpa using h)) hv hb.spec hc ?_
  intro hF
  rw [mrg hb hr, h2]; exact hk hF
end
end Go.Abs
