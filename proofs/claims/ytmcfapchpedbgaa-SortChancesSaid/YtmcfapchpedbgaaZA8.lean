/- Operations, fourth part: len, min, max, slices, new slices and structs, append, copy. -/
import Derived.Test.YtmcfapchpedbgaaZA7
namespace Go.Abs
open Go Go.RowKit

def isCells : Option ABlk → Bool
  | some (.cells _ _ _) => true
  | _ => false

def lenK (P : Program) (h : AH) (T : TypeId) (v : AV) (K : Nat → Prop) : Prop :=
  match v with
  | .sl es => (elemO P T).isSome = true ∧ (es.length ≤ 9223372036854775807 → K es.length)
  | .ms id _ len => (elemO P T).isSome = true ∧ isCells (h id) = true ∧ (len ≤ 9223372036854775807 → K len)
  | .e0 => (elemO P T).isSome = true ∧ K 0
  | .sc (.slice _ l _) => (elemO P T).isSome = true ∧ K l
  | .sc (.string s) => P.underlying T = some .string ∧ K s.size
  | .mp id => match h id, P.underlying T with
    | some (.map kvs), some (.map _ _) => K kvs.length
    | _, _ => False
  | _ => False

section
variable {P : Program} {o : Oper} {a : Act} {w : World} {O : Nat → Prop} {μ : Mu} {h : AH} {n : Nat} {K : K3}

theorem elemO_some {T : TypeId} (he : (elemO P T).isSome = true) : ∃ e, P.underlying T = some (.slice e) := by
  obtain ⟨e, h⟩ := Option.isSome_iff_exists.1 he
  exact ⟨e, elemO_spec h⟩

theorem run_len_slice' {T e : TypeId} (hT : P.underlying T = some (.slice e)) (ty : TypeId) (base : Option Addr) (m c : Nat) (w : World) : (Builtin.len_ #[T] ty #[.slice base m c]).run P w = .ok (goInt m) w := by
  simp [Builtin.len_, run_underlying hT]

theorem isCells_some {B : Option ABlk} (hB : isCells B = true) : ∃ k T es, B = some (.cells k T es) := by
  cases B with
  | none => simp [isCells] at hB
  | some B => cases B with
    | cells k T es => exact ⟨k, T, es, rfl⟩
    | map kvs => simp [isCells] at hB

theorem builtin_exec {b : Builtin} {args : Array Operand} {ts : Array TypeId} (ho : o.op = .call { callee := .builtin b, args := args, argTypes := ts }) :
    execOp a.eval o = builtin b ts o.type (args.map fun | .const _ => true | _ => false) (args.map a.eval) := by
  simp only [execOp, ho, resolve, pure_bind, invoke]
  rfl

theorem snd_len {T : TypeId} {x : Operand} (ho : o.op = .call { callee := .builtin .len, args := #[x], argTypes := #[T] }) (hr : HR w O μ h n) {v : AV} (hv : VR w O μ n v (a.eval x))
    (hk : lenK P h T v (fun m => K (.sc (.int .i64 m)) h n)) : OpR P o a w O μ n K := by
  have fin : ∀ {m : Nat}, (Builtin.len_ #[T] o.type #[a.eval x]).run P w = .ok (goInt m) w → K (.sc (.int .i64 m)) h n → OpR P o a w O μ n K := by
    intro m h1 h2
    refine OpR.value hr (u := .int .i64 m) ?_ (.sc _ rfl) h2
    rw [builtin_exec ho]
    simp only [List.map_toArray, List.map_cons, List.map_nil]
    exact run_val h1
  unfold lenK at hk
  generalize hu : a.eval x = u at *
  split at hk
  · obtain ⟨he, hk⟩ := hk
    obtain ⟨e, he⟩ := elemO_some he
    cases hv with
    | slnil => exact fin (run_len_slice' he _ _ _ _ w) (hk (by simp))
    | sl _ _ _ _ _ _ hcap hmax => exact fin (run_len_slice' he _ _ _ _ w) (hk (by simp only [maxLen] at hmax; omega))
  · obtain ⟨he, hB, hk⟩ := hk
    obtain ⟨e, he⟩ := elemO_some he
    obtain ⟨k, T', es, hB⟩ := isCells_some hB
    obtain ⟨b, c, oo, cap, g1, g2, rfl, _, q1, q2, _⟩ := live_ms hr hB hv
    exact fin (run_len_slice' he _ _ _ _ w) (hk (by simp only [maxLen] at q2; omega))
  · obtain ⟨he, hk⟩ := hk
    obtain ⟨e, he⟩ := elemO_some he
    cases hv with
    | e0 p => exact fin (run_len_slice' he _ _ _ _ w) hk
  · obtain ⟨he, hk⟩ := hk
    obtain ⟨e, he⟩ := elemO_some he
    rw [hv.sc_inv] at fin
    exact fin (run_len_slice' he _ _ _ _ w) hk
  · obtain ⟨he, hk⟩ := hk
    rw [hv.sc_inv] at fin
    exact fin (by simp [Builtin.len_, run_underlying he]) hk
  · split at hk
    · rename_i kvs k e hB hT
      obtain ⟨b, es, g1, g2, g3, g4⟩ := hr.blk _ _ hB
      cases hv with
      | mp _ _ hi h1 hv =>
        rw [hv b 0 g1] at fin
        refine fin (m := kvs.length) ?_ hk
        simp [Builtin.len_, run_underlying hT, getObj, Sem.run, g2, g3]
    · exact hk.elim
  · exact hk.elim

theorem snd_minmax {x y : Operand} {ts : Array TypeId} {k : IntKind} {i j : Int} (hr : HR w O μ h n) (hi : VR w O μ n (.sc (.int k i)) (a.eval x)) (hj : VR w O μ n (.sc (.int k j)) (a.eval y)) :
    (o.op = .call { callee := .builtin .min, args := #[x, y], argTypes := ts } → K (.sc (.int k (if j < i then j else i))) h n → OpR P o a w O μ n K) ∧
    (o.op = .call { callee := .builtin .max, args := #[x, y], argTypes := ts } → K (.sc (.int k (if i < j then j else i))) h n → OpR P o a w O μ n K) := by
  constructor
  · intro ho hk
    refine OpR.value hr (u := .int k (if j < i then j else i)) ?_ (.sc _ rfl) hk
    rw [builtin_exec ho]
    simp only [List.map_toArray, List.map_cons, List.map_nil, hi.int_inv, hj.int_inv]
    exact run_val (run_min_int2 w ts o.type k k i j)
  · intro ho hk
    refine OpR.value hr (u := .int k (if i < j then j else i)) ?_ (.sc _ rfl) hk
    rw [builtin_exec ho]
    simp only [List.map_toArray, List.map_cons, List.map_nil, hi.int_inv, hj.int_inv]
    exact run_val (run_max_int2 w ts o.type k k i j)

/-! ### slice expressions -/
def loA : Option AV → Option Int
  | none => some 0
  | some (.sc (.int _ i)) => some i
  | _ => none
def hiA (len : Nat) : Option AV → Option Int
  | none => some len
  | some (.sc (.int _ i)) => some i
  | _ => none

/-- what the bounds come to -/
def boundsK (len : Nat) (lo hi : Option AV) (K : Nat → Nat → Prop) : Prop :=
  match loA lo, hiA len hi with
  | some l, some u => 0 ≤ l ∧ l ≤ u ∧ u ≤ len ∧ K l.toNat u.toNat
  | _, _ => False

theorem run_sliceBound' {k : IntKind} {i : Int} {y : Nat} {code : BoundsCode} (h0 : 0 ≤ i) (h1 : i ≤ y) (w : World) : (Instr.sliceBound (.int k i) y code).run P w = .ok i.toNat w := by
  simp [Instr.sliceBound, asIntOf, h0, h1]

theorem run_sliceBounds {isS : Bool} {len cap : Nat} {lo hi : Option Value} {la ha : Option AV} (hcap : len ≤ cap) {K' : Nat → Nat → Prop} (hk : boundsK len la ha K')
    (hl : ∀ v, lo = some v → ∃ x, la = some x ∧ VR w O μ n x v) (hh : ∀ v, hi = some v → ∃ x, ha = some x ∧ VR w O μ n x v) (hl0 : lo = none → la = none) (hh0 : hi = none → ha = none) :
    ∃ l u, (Instr.sliceBounds isS len cap lo hi none).run P w = .ok (l, u, cap) w ∧ K' l u ∧ l ≤ u ∧ u ≤ len := by
  unfold boundsK at hk
  split at hk
  · rename_i l u hla hha
    obtain ⟨h0, h1, h2, hk⟩ := hk
    refine ⟨l.toNat, u.toNat, ?_, hk, by omega, by omega⟩
    have eh : ∀ code, ((match hi, (none : Option Value) with
        | some v, some _ => Instr.sliceBound v cap .slice3B
        | some v, none => Instr.sliceBound v cap code
        | none, none => pure len
        | none, some _ => stuck "Slice: max without high" : Sem Nat)).run P w = .ok u.toNat w := by
      intro code
      cases hi with
      | none => rw [hh0 rfl] at hha; simp [hiA] at hha; subst hha; simp
      | some v =>
        obtain ⟨x, rfl, hx⟩ := hh v rfl
        unfold hiA at hha
        split at hha
        · rename_i e; cases e
        · rename_i e; cases e; cases hha; rw [hx.int_inv]; exact run_sliceBound' (by omega) (by omega) w
        · cases hha
    have el : ∀ code, ((match lo with
        | some v => Instr.sliceBound v u.toNat code
        | none => pure 0 : Sem Nat)).run P w = .ok l.toNat w := by
      intro code
      cases lo with
      | none => rw [hl0 rfl] at hla; simp [loA] at hla; subst hla; simp
      | some v =>
        obtain ⟨x, rfl, hx⟩ := hl v rfl
        unfold loA at hla
        split at hla
        · rename_i e; cases e
        · rename_i e; cases e; cases hla; rw [hx.int_inv]; exact run_sliceBound' h0 (by omega) w
        · cases hla
    have e2 := el .sliceB
    cases isS
    · have e1 := eh .sliceAlen
      cases hi with
      | none =>
        simp only [Sem.run_pure, Result.ok.injEq, and_true] at e1
        cases lo with
        | none => simp only [Sem.run_pure, Result.ok.injEq, and_true] at e2; simp [Instr.sliceBounds, ← e1, ← e2]
        | some v => rw [← e1] at e2 ⊢; simp [Instr.sliceBounds, e2]
      | some v =>
        simp only at e1
        cases lo with
        | none => simp only [Sem.run_pure, Result.ok.injEq, and_true] at e2; simp [Instr.sliceBounds, e1, ← e2]
        | some v => simp only at e2; simp [Instr.sliceBounds, e1, e2]
    · have e1 := eh .sliceAcap
      cases hi with
      | none =>
        simp only [Sem.run_pure, Result.ok.injEq, and_true] at e1
        cases lo with
        | none => simp only [Sem.run_pure, Result.ok.injEq, and_true] at e2; simp [Instr.sliceBounds, ← e1, ← e2]
        | some v => rw [← e1] at e2 ⊢; simp [Instr.sliceBounds, e2]
      | some v =>
        simp only at e1
        cases lo with
        | none => simp only [Sem.run_pure, Result.ok.injEq, and_true] at e2; simp [Instr.sliceBounds, e1, ← e2]
        | some v => simp only at e2; simp [Instr.sliceBounds, e1, e2]
  · exact hk.elim

def sliceK (P : Program) (h : AH) (T : TypeId) (x : AV) (lo hi : Option AV) (K : AV → Prop) : Prop :=
  match x with
  | .sl es => (∃ e, elemO P T = some e ∧ (∃ i, P.info? e = some i) ∧ ∀ c, es.head? = some c → c.length = P.cellsOf e) ∧ boundsK es.length lo hi fun l u => K (.sl ((es.take u).drop l))
  | .ms id off len => (∃ e, elemO P T = some e ∧ match h id with | some (.cells k _ _) => k = P.cellsOf e ∧ k ≠ 0 | _ => False) ∧ boundsK len lo hi fun l u => K (.ms id (off + l) (u - l))
  | .sc (.slice none 0 0) => (∃ e, elemO P T = some e ∧ ∃ i, P.info? e = some i) ∧ boundsK 0 lo hi fun _ _ => K (.sc (.slice none 0 0))
  | .sc (.string s) => P.underlying T = some .string ∧ boundsK s.size lo hi fun l u => K (.sc (.string (s.extract l u)))
  | _ => False

theorem optAV {env : Env} (hv : ∀ x, VR w O μ n (ev env x) (a.eval x)) (lo : Option Operand) : (∀ v, lo.map a.eval = some v → ∃ x, lo.map (ev env) = some x ∧ VR w O μ n x v) ∧ (lo.map a.eval = none → lo.map (ev env) = none) := by
  cases lo with
  | none => exact ⟨fun v hv' => by simp at hv', fun _ => rfl⟩
  | some x => exact ⟨fun v hv' => by simp at hv'; subst hv'; exact ⟨_, rfl, hv x⟩, fun hn => by simp at hn⟩

theorem run_sliceAt_of {T e : TypeId} (he : P.underlying T = some (.slice e)) {ie : TypeInfo} (hie : P.info? e = some ie) {p : Option Addr} {len cap : Nat} {lo hi : Option Value} {l u : Nat} (hb : (Instr.sliceBounds true len cap lo hi none).run P w = .ok (l, u, cap) w) :
    (Instr.sliceAt T (.slice p len cap) lo hi none).run P w = .ok (.slice (if cap = l then p else p.map (·.add (l * P.cellsOf e))) (u - l) (cap - l)) w := by
  simp [Instr.sliceAt, run_underlying he, Instr.slice, hb, run_sizeOf hie]

theorem snd_slice {T : TypeId} {x : Operand} {lo hi : Option Operand} (ho : o.op = .slice T x lo hi none) (hr : HR w O μ h n) {env : Env} (hv : ∀ x, VR w O μ n (ev env x) (a.eval x))
    (hk : sliceK P h T (ev env x) (lo.map (ev env)) (hi.map (ev env)) (fun v => K v h n)) : OpR P o a w O μ n K := by
  have hx := hv x
  obtain ⟨l1, l2⟩ := optAV hv lo
  obtain ⟨u1, u2⟩ := optAV hv hi
  have fin : ∀ {u : Value} {v : AV}, (Instr.sliceAt T (a.eval x) (lo.map a.eval) (hi.map a.eval) none).run P w = .ok u w → VR w O μ n v u → K v h n → OpR P o a w O μ n K := by
    intro u v h1 h2 h3
    refine OpR.value hr ?_ h2 h3
    simp only [execOp, ho]
    exact run_val h1
  unfold sliceK at hk
  generalize hu : a.eval x = u at *
  split at hk
  · rename_i es hes
    rw [hes] at hx
    obtain ⟨⟨e, he, ⟨ie, hie⟩, hlen⟩, hk⟩ := hk
    have hT := elemO_spec he
    cases hx with
    | slnil =>
      obtain ⟨l, u, g1, g2, g3, g4⟩ := run_sliceBounds (P := P) (isS := true) (cap := 0) (by simp) hk l1 u1 l2 u2
      simp at g4; subst g4
      have : l = 0 := by omega
      subst this
      exact fin (run_sliceAt_of hT hie g1) (by simp; exact .slnil _) g2
    | sl _ b off cap k us hcap hmax hA hkk hc h1 hr' =>
      obtain ⟨l, u, g1, g2, g3, g4⟩ := run_sliceBounds (P := P) (isS := true) hcap hk l1 u1 l2 u2
      refine fin (run_sliceAt_of hT hie g1) ?_ g2
      have hll : ((es.take u).drop l).length = u - l := by simp; omega
      by_cases hcl : cap = l
      · rw [if_pos hcl]
        have : (es.take u).drop l = [] := List.eq_nil_of_length_eq_zero (by omega)
        have hul : u - l = 0 := by omega
        rw [this, hul]
        exact .sl [] b off _ k us (by simp) (by omega) (fun i e hi => by simp at hi) (fun i e hi => by simp at hi) (fun i e hi => by simp at hi) (fun i e hi => by simp at hi) (fun i e hi => by simp at hi)
      · rw [if_neg hcl]
        simp only [Option.map_some, add_mk]
        rw [← hll]
        have hg : ∀ (i : Nat) (e' : List AV), ((es.take u).drop l)[i]? = some e' → es[l + i]? = some e' := by
          intro i e' hi
          rw [List.getElem?_drop, List.getElem?_take] at hi
          split at hi
          · exact hi
          · cases hi
        have hkeq : es ≠ [] → k = P.cellsOf e := by
          intro hne
          cases es with
          | nil => exact absurd rfl hne
          | cons c es => rw [← hkk 0 c rfl]; exact hlen c rfl
        refine .sl _ b _ (cap - l) k (fun i j => us (l + i) j) (by omega) (by omega) (fun i e' hi => hA _ e' (hg i e' hi)) (fun i e' hi => hkk _ e' (hg i e' hi)) (fun i e' hi j c hj => ?_) (fun i e' hi j c hj => h1 _ e' (hg i e' hi) j c hj) (fun i e' hi j c hj => hr' _ e' (hg i e' hi) j c hj)
        have hne : es ≠ [] := by rintro rfl; simp at hi
        rw [← hkeq hne]
        rw [show off + l * k + i * k + j = off + (l + i) * k + j by rw [Nat.add_mul]; omega]
        exact hc _ e' (hg i e' hi) j c hj
  · rename_i id off len hes
    rw [hes] at hx
    obtain ⟨⟨e, he, hB⟩, hk⟩ := hk
    have hT := elemO_spec he
    split at hB
    · rename_i k T' es hB'
      obtain ⟨hke, hk0⟩ := hB
      obtain ⟨b, c, oo, cap, g1, g2, rfl, g3, g4, g5, g6, g7⟩ := live_ms hr hB' hx
      obtain ⟨ie, hie⟩ := info_of_cells (P := P) (T := e) (by omega)
      obtain ⟨l, u, f1, f2, f3, f4⟩ := run_sliceBounds (P := P) (isS := true) g4 hk l1 u1 l2 u2
      refine fin (run_sliceAt_of hT hie f1) ?_ f2
      refine .ms id _ _ _ g3 rfl fun b' k' e' => ?_
      rw [g1] at e'; cases e'
      by_cases hcl : cap = l
      · rw [if_pos hcl]
        exact ⟨oo, cap - l, c, T', rfl, by omega, by omega, fun hn => by omega, g2, by rw [← g7]; congr 1; omega⟩
      · rw [if_neg hcl]
        simp only [Option.map_some, add_mk]
        exact ⟨oo + l * P.cellsOf e, cap - l, c, T', rfl, by omega, by omega, fun hn => by rw [g6 (by omega), hke, Nat.add_mul], g2, by rw [← g7]; congr 1; omega⟩
    · exact hB.elim
  · rename_i hes
    rw [hes] at hx
    obtain ⟨⟨e, he, ie, hie⟩, hk⟩ := hk
    have hT := elemO_spec he
    obtain ⟨l, u, g1, g2, g3, g4⟩ := run_sliceBounds (P := P) (isS := true) (cap := 0) (by simp) hk l1 u1 l2 u2
    simp at g4; subst g4
    have : l = 0 := by omega
    subst this
    rw [hx.sc_inv] at fin
    exact fin (run_sliceAt_of hT hie g1) (.sc _ rfl) g2
  · rename_i s hes
    rw [hes] at hx
    obtain ⟨hT, hk⟩ := hk
    obtain ⟨l, u, g1, g2, g3, g4⟩ := run_sliceBounds (P := P) (isS := false) (cap := s.size) (by simp) hk l1 u1 l2 u2
    rw [hx.sc_inv] at fin
    refine fin ?_ (.sc _ rfl) g2
    simp [Instr.sliceAt, run_underlying hT, Instr.slice, g1]
  · exact hk.elim

end
end Go.Abs
