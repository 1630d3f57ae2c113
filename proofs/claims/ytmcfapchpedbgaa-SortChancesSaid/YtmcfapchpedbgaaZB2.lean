/- append and copy, second part. -/
import Derived.Test.YtmcfapchpedbgaaZB1
namespace Go.Abs
open Go Go.RowKit

section
variable {P : Program} {o : Oper} {a : Act} {w : World} {O : Nat → Prop} {μ : Mu} {h : AH} {n : Nat} {K : K3}

theorem zeroCells_run (P : Program) {e : TypeId} {i : TypeInfo} {zv : Value} (hi : P.info? e = some i) (hz : i.zero = some zv) (w : World) : (zeroValue e).run P w = .ok zv w := by
  simp [zeroValue, typeInfo, hi, hz]

/-- append where a new row is made -/
theorem append_grow {T T2 e : TypeId} {i : TypeInfo} {zv : Value} (hT : P.underlying T = some (.slice e)) {d2 : TypeDesc} (hT2 : P.underlying T2 = some d2) (hn2 : (∃ e2, d2 = .slice e2) ∨ d2 = .string) (hi : P.info? e = some i) (hz : i.zero = some zv)
    {k : Nat} (hk : P.cellsOf e = k) {base : Option Addr} {len cap m : Nat} {vold vnew : List Value} {x : Value} (hlen : ∀ w', (Builtin.lenOf x).run P w' = .ok m w') (hnew : ∀ w', w'.heap = w.heap → (Builtin.firstCells k m x).run P w' = .ok vnew.toArray w')
    (hold : ∀ w', w'.heap = w.heap → (Builtin.firstCells k len (.slice base len cap)).run P w' = .ok vold.toArray w') (hneed : cap < len + m) (hsmall : len + m ≤ 1048576) (hb : i.bytes ≤ 1024) (ty : TypeId) :
    ∃ newCap rest, len + m ≤ newCap ∧ newCap ≤ maxLen ∧ rest.length = (newCap - (len + m)) * zv.cells.size ∧
      (Builtin.append_ #[T, T2] ty #[.slice base len cap, x]).run P w = .ok (.slice (some ⟨w.heap.size, 0, none⟩) (len + m) newCap) (w.drew.alloc (.cells (vold ++ vnew ++ rest).toArray e)) := by
  have hcap := grownCap_ge w (len + m) cap e
  have hcap2 := grownCap_le_maxLen w (len + m) cap e (by unfold maxLen; omega)
  refine ⟨grownCap w (len + m) cap e, (Builtin.zeroCells zv.cells (grownCap w (len + m) cap e - (len + m))).toList, hcap, hcap2, by simp [Builtin.zeroCells], ?_⟩
  have hnext : ¬ Builtin.nextslicecap (len + m) cap * i.bytes > 2 ^ 48 := by
    have h1 : Builtin.nextslicecap (len + m) cap ≤ 4 * (len + m) + 1024 := by
      unfold Builtin.nextslicecap
      split
      · omega
      · split
        · omega
        · rename_i h1 h2
          have : ∀ r c, c < len + m → Builtin.growBy (len + m) r c ≤ 2 * (len + m) + 768 := by
            intro r
            induction r with
            | zero => intro c hc; simp only [Builtin.growBy]; omega
            | succ r ih =>
              intro c hc
              simp only [Builtin.growBy]
              rw [if_neg (by omega)]
              rcases Nat.lt_or_ge (c + (c + 768) / 4) (len + m) with h | h
              · exact ih _ h
              · cases r with
                | zero => simp only [Builtin.growBy]; omega
                | succ r => simp only [Builtin.growBy]; rw [if_pos (by omega)]; omega
          have := this 4 cap hneed
          omega
    have : Builtin.nextslicecap (len + m) cap * i.bytes ≤ (4 * 1048576 + 1024) * 1024 := Nat.mul_le_mul (by omega) hb
    omega
  have hmax : ¬ (((len + m : Nat) : Int) > IntKind.i64.max ∧ ((false : Bool) = true ∨ i.bytes = 0)) := by
    simp [IntKind.max, IntKind.signed, IntKind.bits]; omega
  have hforce : (Question.appendCap (len + m) cap e).forced = false := rfl
  have hnew' := hnew w.drew rfl
  have hold' := hold w.drew rfl
  have hzv := zeroCells_run P hi hz w.drew
  rcases hn2 with ⟨e2, rfl⟩ | rfl
  all_goals
    simp only [Builtin.append_, List.getElem?_toArray, List.getElem?_cons_zero, List.getElem?_cons_succ, pure_bind, Sem.run_bind, run_underlying hT, run_underlying hT2, Result.andThen_ok, run_sizeOf hi, hk, Bool.false_eq_true, if_false, hlen]
    rw [if_neg (by omega)]
    simp only [Sem.run_bind, typeInfo, run_program, Result.andThen_ok, hi, Sem.run_pure]
    rw [if_neg (by simpa using hmax)]
    simp only [Sem.run_bind, run_program, Result.andThen_ok, hi, Sem.run_pure]
    rw [if_neg hnext]
    simp only [Sem.run_bind, run_choose, hforce, Bool.false_eq_true, if_false, Result.andThen_ok, run_program, hi, Sem.run_pure, run_askRoom, World.drew_eq, hold', hnew', hzv, Bool.not_false, if_true, newRow, run_newObj]
    simp only [grownCap]
    congr 2
    show w.drew.heap.push _ = w.drew.heap.push _
    congr 2
    apply Array.ext'
    simp

/-- append in place -/
theorem append_fits {T T2 e : TypeId} {i : TypeInfo} (hT : P.underlying T = some (.slice e)) {d2 : TypeDesc} (hT2 : P.underlying T2 = some d2) (hn2 : (∃ e2, d2 = .slice e2) ∨ d2 = .string) (hi : P.info? e = some i)
    {k : Nat} (hk : P.cellsOf e = k) {base : Option Addr} {len cap m : Nat} {vnew : List Value} {x : Value} (hlen : ∀ w', (Builtin.lenOf x).run P w' = .ok m w') (hnew : (Builtin.firstCells k m x).run P w = .ok vnew.toArray w)
    {w' : World} (hst : ∀ ad, base = some ad → (storeCells (ad.add (len * k)) vnew 0).run P w = .ok () w') (hbn : base = none → w' = w) (hneed : len + m ≤ cap) (ty : TypeId) :
    (Builtin.append_ #[T, T2] ty #[.slice base len cap, x]).run P w = .ok (.slice base (len + m) cap) w' := by
  rcases hn2 with ⟨e2, rfl⟩ | rfl
  all_goals
    simp only [Builtin.append_, List.getElem?_toArray, List.getElem?_cons_zero, List.getElem?_cons_succ, pure_bind, Sem.run_bind, run_underlying hT, run_underlying hT2, Result.andThen_ok, run_sizeOf hi, hk, Bool.false_eq_true, if_false, hlen]
    rw [if_pos hneed]
    simp only [Sem.run_bind, Bool.not_false, if_true, hnew, Result.andThen_ok]
    cases base with
    | none => rw [hbn rfl]; rfl
    | some ad => simp only [Sem.run_bind, hst ad rfl, Result.andThen_ok, Sem.run_pure]

/-- The block id goes over into a new number, its cells being in block b now. -/
theorem HR.adopt {w w' : World} (hr : HR w O μ h n) {id b k : Nat} (hm : μ id = some (b, k)) (B : ABlk) (hos : w'.os = w.os) (htape : w'.tape = w.tape) (hout : w'.output = w.output) (hsz : w'.heap.size = w.heap.size)
    (hkeep : ∀ i, i ≠ b → w'.heap[i]? = w.heap[i]?) (hrow : ∀ c T f, w.heap[b]? = some (.cells c T f) → ∃ c', w'.heap[b]? = some (.cells c' T f) ∧ c'.size = c.size)
    (hB : Evo w μ n w' (updM (delM μ id) n (b, k)) (n + 1) → BlkAt w' O (updM (delM μ id) n (b, k)) (n + 1) n B) :
    Evo w μ n w' (updM (delM μ id) n (b, k)) (n + 1) ∧ HR w' O (updM (delM μ id) n (b, k)) (updH (delH h id) n B) (n + 1) := by
  have hidn := (hr.scope id b k hm).1
  have hmu : ∀ i b' k', updM (delM μ id) n (b, k) i = some (b', k') → (i = n ∧ b' = b ∧ k' = k) ∨ (i ≠ n ∧ i ≠ id ∧ μ i = some (b', k')) := by
    intro i b' k' e
    unfold updM delM at e
    split at e
    · cases e; exact .inl ⟨by assumption, rfl, rfl⟩
    · split at e
      · cases e
      · exact .inr ⟨by assumption, by assumption, e⟩
  have he : Evo w μ n w' (updM (delM μ id) n (b, k)) (n + 1) := by
    refine ⟨hos, htape, hout, by omega, by omega, fun i hi hn => hkeep i (by rintro rfl; exact hn id k hm), fun i c T f hb => ?_, fun i hi => ?_, fun i b' k' e hi => ?_⟩
    · by_cases hib : i = b
      · subst hib; exact hrow c T f hb
      · exact ⟨c, by rw [hkeep i hib]; exact hb, rfl⟩
    · unfold updM delM
      rw [if_neg (by omega)]
      split
      · exact .inr rfl
      · exact .inl rfl
    · rcases hmu i b' k' e with ⟨_, rfl, _⟩ | ⟨_, _, e'⟩
      · exact .inr ⟨id, k, hm⟩
      · exact .inr ⟨i, k', e'⟩
  refine ⟨he, fun b hb => by rw [hsz]; exact hr.olt b hb, fun i b' k' e => ?_, fun i i' b' k1 k2 e1 e2 => ?_, fun i b' k' e => ?_, fun i B' hB' => ?_⟩
  · rcases hmu i b' k' e with ⟨rfl, rfl, _⟩ | ⟨_, _, e'⟩
    · have := hr.scope id _ k hm; omega
    · have := hr.scope i b' k' e'; omega
  · rcases hmu i b' k1 e1 with ⟨rfl, rfl, _⟩ | ⟨a1, a2, e1'⟩
    · rcases hmu i' _ k2 e2 with ⟨rfl, _, _⟩ | ⟨a3, a4, e2'⟩
      · rfl
      · exact absurd (hr.inj _ _ _ _ _ e2' hm) a4
    · rcases hmu i' _ k2 e2 with ⟨rfl, rfl, _⟩ | ⟨a3, a4, e2'⟩
      · exact absurd (hr.inj _ _ _ _ _ e1' hm) a2
      · exact hr.inj _ _ _ _ _ e1' e2'
  · rcases hmu i b' k' e with ⟨rfl, rfl, _⟩ | ⟨_, _, e'⟩
    · exact hr.notO id _ k hm
    · exact hr.notO i b' k' e'
  · unfold updH delH at hB'
    split at hB'
    · cases hB'; subst_vars; exact hB he
    · rename_i hne
      split at hB'
      · cases hB'
      · rename_i hne2
        refine (hr.blk i B' hB').evo ?_ ?_ he
        · unfold updM delM; rw [if_neg hne, if_neg hne2]
        · intro b' k' e
          refine hkeep b' ?_
          rintro rfl
          exact hne2 (hr.inj _ _ _ _ _ e hm)

end
end Go.Abs
