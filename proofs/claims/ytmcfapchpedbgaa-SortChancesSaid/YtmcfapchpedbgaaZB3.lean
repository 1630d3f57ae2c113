/- append and copy, third part: the operations. -/
import Derived.Test.YtmcfapchpedbgaaZB2
set_option linter.unusedSimpArgs false
set_option linter.unusedVariables false
namespace Go.Abs
open Go Go.RowKit

def plainT (P : Program) (T : TypeId) : Bool :=
  match P.underlying T with
  | some (.slice _) | some .string => true
  | _ => false

def emptyA : AV → Bool
  | .e0 => true
  | .sc (.slice none 0 0) => true
  | _ => false

def appendK (P : Program) (h : AH) (n : Nat) (T T2 : TypeId) (s x : AV) (K : K3) : Prop :=
  plainT P T2 = true ∧
  match elemO P T with
  | none => False
  | some e => match zeroO P e with
    | none => False
    | some z => z ≠ [] ∧ P.bytesOf e ≤ 1024 ∧ match srcA h z.length x with
      | none => False
      | some xs => match s with
        | .e0 => xs.length ≤ 1048576 ∧ (xs = [] → K .e0 h n) ∧ (xs ≠ [] → K (.ms n 0 xs.length) (updH h n (.cells z.length e xs)) (n + 1))
        | .sc (.slice none 0 0) => xs.length ≤ 1048576 ∧ (xs = [] → K (.sc (.slice none 0 0)) h n) ∧ (xs ≠ [] → K (.ms n 0 xs.length) (updH h n (.cells z.length e xs)) (n + 1))
        | .ms id 0 len => match h id with
          | some (.cells k e' es) => k = z.length ∧ e' = e ∧ es.length = len ∧ len + xs.length ≤ 1048576 ∧ K (.ms n 0 (len + xs.length)) (updH (delH h id) n (.cells k e (es ++ xs))) (n + 1)
          | _ => False
        | _ => False

section
variable {P : Program} {o : Oper} {a : Act} {w : World} {O : Nat → Prop} {μ : Mu} {h : AH} {n : Nat} {K : K3}

theorem plainT_spec {T : TypeId} (hp : plainT P T = true) : ∃ d, P.underlying T = some d ∧ ((∃ e, d = .slice e) ∨ d = .string) := by
  unfold plainT at hp
  split at hp
  · rename_i e hd; exact ⟨_, hd, .inl ⟨e, rfl⟩⟩
  · rename_i hd; exact ⟨_, hd, .inr rfl⟩
  · cases hp

theorem EsRel.app {k : Nat} {c : Array Value} {es xs : List (List AV)} {vo vn rest : List Value} (hl : vo.length = es.length * k) (ho : ∀ (i : Nat) (e : List AV), es[i]? = some e → e.length = k ∧ ∀ (j : Nat) (x : AV), e[j]? = some x → x.one = true ∧ ∃ u, vo[i * k + j]? = some u ∧ VR w O μ n x u)
    (hln : vn.length = xs.length * k) (hn : ∀ (i : Nat) (e : List AV), xs[i]? = some e → e.length = k ∧ ∀ (j : Nat) (x : AV), e[j]? = some x → x.one = true ∧ ∃ u, vn[i * k + j]? = some u ∧ VR w O μ n x u) :
    ∀ (i : Nat) (e : List AV), (es ++ xs)[i]? = some e → e.length = k ∧ ∀ (j : Nat) (x : AV), e[j]? = some x → x.one = true ∧ ∃ u, ((vo ++ vn ++ rest).toArray)[i * k + j]? = some u ∧ VR w O μ n x u := by
  intro i e hi
  rw [List.getElem?_append] at hi
  split at hi
  · rename_i hlt
    refine ⟨(ho i e hi).1, fun j x hj => ?_⟩
    obtain ⟨h1, u, h2, h3⟩ := (ho i e hi).2 j x hj
    refine ⟨h1, u, ?_, h3⟩
    have := (List.getElem?_eq_some_iff.1 h2).1
    simp only [List.getElem?_toArray]
    rw [List.append_assoc, List.getElem?_append_left this]
    exact h2
  · rename_i hge
    refine ⟨(hn _ e hi).1, fun j x hj => ?_⟩
    obtain ⟨h1, u, h2, h3⟩ := (hn _ e hi).2 j x hj
    refine ⟨h1, u, ?_, h3⟩
    have hlt := (List.getElem?_eq_some_iff.1 h2).1
    have hmul : (i - es.length) * k + es.length * k = i * k := by rw [← Nat.add_mul]; congr 1; omega
    simp only [List.getElem?_toArray]
    rw [List.append_assoc, List.getElem?_append_right (by omega), List.getElem?_append_left (by omega), hl, show i * k + j - es.length * k = (i - es.length) * k + j by omega]
    exact h2

theorem snd_append {T T2 : TypeId} {s x : Operand} (ho : o.op = .call { callee := .builtin .append, args := #[s, x], argTypes := #[T, T2] }) (hr : HR w O μ h n) {vs vx : AV} (hs : VR w O μ n vs (a.eval s)) (hx : VR w O μ n vx (a.eval x))
    (hk : appendK P h n T T2 vs vx K) : OpR P o a w O μ n K := by
  obtain ⟨hp, hk⟩ := hk
  obtain ⟨d2, hT2, hn2⟩ := plainT_spec hp
  split at hk
  · exact hk.elim
  rename_i e he
  split at hk
  · exact hk.elim
  rename_i z hz
  obtain ⟨hne, hbytes, hk⟩ := hk
  split at hk
  · exact hk.elim
  rename_i xs hxs
  have hT := elemO_spec he
  obtain ⟨i, zv, hi, hzv, hzz, hz1, hsz, hc⟩ := zeroO_spec hz
  have hzl : zv.cells.size = z.length := by rw [hzz]; simp
  have hzp : 0 < z.length := by cases z with | nil => exact absurd rfl hne | cons _ _ => simp
  have hbi : i.bytes ≤ 1024 := by have : P.bytesOf e = i.bytes := by simp [Program.bytesOf, hi]
                                  omega
  obtain ⟨vals, src⟩ := srcA_sound (P := P) hr hx hxs
  have full : ∀ w', w'.heap = w.heap → (Builtin.firstCells z.length xs.length (a.eval x)).run P w' = .ok vals.toArray w' := fun w' hw => by
    have := src.cells w' hw xs.length (Nat.le_refl _)
    rwa [← src.size, List.take_length] at this
  have fin : ∀ {u : Value} {w' : World} {μ' : Mu} {v : AV} {h' : AH} {n' : Nat}, (Builtin.append_ #[T, T2] o.type #[a.eval s, a.eval x]).run P w = .ok u w' → K v h' n' → HR w' O μ' h' n' → VR w' O μ' n' v u → Evo w μ n w' μ' n' → OpR P o a w O μ n K := by
    intro u w' μ' v h' n' f1 f2 f3 f4 f5
    refine ⟨u, w', μ', v, h', n', .inl ?_, f2, f3, f4, f5⟩
    rw [builtin_exec ho]
    simp only [List.map_toArray, List.map_cons, List.map_nil]
    exact run_val f1
  -- onto an empty slice without room
  have emp : ∀ {p : Option Addr}, a.eval s = .slice p 0 0 → xs.length ≤ 1048576 → (xs = [] → K vs h n) → (xs ≠ [] → K (.ms n 0 xs.length) (updH h n (.cells z.length e xs)) (n + 1)) → OpR P o a w O μ n K := by
    intro p hu hsm k1 k2
    by_cases hxe : xs = []
    · have hfull := full w rfl
      subst hxe
      have hv0 : vals = [] := List.eq_nil_of_length_eq_zero (by rw [src.size]; simp)
      subst hv0
      refine fin (u := .slice p 0 0) (w' := w) ?_ (k1 rfl) hr (hu ▸ hs) hr.refl
      rw [hu]
      exact append_fits (P := P) (w' := w) hT hT2 hn2 hi hc (base := p) (len := 0) (cap := 0) (m := 0) src.len hfull (fun ad _ => by simp [storeCells]) (fun _ => rfl) (by omega) o.type
    · have hxl : 0 < xs.length := by cases xs with | nil => exact absurd rfl hxe | cons _ _ => simp
      obtain ⟨newCap, rest, g1, g2, g3, g4⟩ := append_grow (P := P) (w := w) hT hT2 hn2 hi hzv hc (base := p) (len := 0) (cap := 0) (vold := []) src.len full (fun w' hw => by
        cases p with
        | none => simp [Builtin.firstCells]
        | some p => simp [Builtin.firstCells, loadCells, loadCellsFrom]) (by omega) (by omega) hbi o.type
      obtain ⟨e1, hr1⟩ := hr.drew
      have hes : ∀ (i : Nat) (e : List AV), xs[i]? = some e → e.length = z.length ∧ ∀ (j : Nat) (x : AV), e[j]? = some x → x.one = true ∧ ∃ u, (([] ++ vals ++ rest : List Value).toArray)[i * z.length + j]? = some u ∧ VR w.drew O μ n x u := by
        intro i e' hi'
        obtain ⟨q1, q2⟩ := src.rel i e' hi'
        refine ⟨q1, fun j y hj => ?_⟩
        obtain ⟨q3, u, q4, q5⟩ := q2 j y hj
        refine ⟨q3, u, ?_, q5.evo e1⟩
        have := (List.getElem?_eq_some_iff.1 q4).1
        simp only [List.nil_append, List.getElem?_toArray]
        rw [List.getElem?_append_left this]; exact q4
      obtain ⟨e2, hr2⟩ := new_block hr1 e ([] ++ vals ++ rest).toArray z.length xs hes
      refine fin (u := .slice (some ⟨w.heap.size, 0, none⟩) (0 + xs.length) newCap) (by rw [hu]; exact g4) (k2 hxe) hr2 ?_ (e1.trans e2)
      refine .ms n 0 _ _ (by omega) rfl fun b k3 e3 => ?_
      simp [updM] at e3
      obtain ⟨rfl, rfl⟩ := e3
      refine ⟨0, newCap, _, e, by simp, by omega, g2, fun _ => by simp, heap_alloc_self w.drew _, ?_⟩
      simp only [List.nil_append, List.size_toArray, List.length_append, src.size, g3, hzl]
      rw [← Nat.add_mul]; congr 1; omega
  split at hk
  · have : ∃ p, a.eval s = .slice p 0 0 := by
      generalize a.eval s = u at hs
      cases hs with
      | e0 p => exact ⟨p, rfl⟩
    obtain ⟨p, hp⟩ := this
    exact emp hp hk.1 hk.2.1 hk.2.2
  · exact emp (p := none) hs.sc_inv hk.1 hk.2.1 hk.2.2
  · rename_i id len
    split at hk
    · rename_i k e' es hB0
      obtain ⟨hkz, hee, hesl, hsm, hk⟩ := hk
      have hB : h id = some (.cells z.length e es) := by rw [hB0, hkz, hee]
      rw [hkz] at hk
      obtain ⟨b, c, oo, cap, g1, g2, g3, g4, g5, g6, g7, g8⟩ := live_ms hr hB hs
      simp only [Nat.zero_mul, Nat.zero_add] at g7 g8
      obtain ⟨b', c', f1, f2, f3⟩ := hr.blk id _ hB
      rw [g1] at f1; cases f1
      rw [g2] at f2; cases f2
      by_cases hfit : len + xs.length ≤ cap
      · -- there is room
        have hcs : (len + xs.length) * z.length ≤ c.size := by rw [← g8]; exact Nat.mul_le_mul_right _ hfit
        have hst : ∃ w', (∀ ad, (some ⟨b, oo, none⟩ : Option Addr) = some ad → (storeCells (ad.add (len * z.length)) vals 0).run P w = .ok () w') ∧
            w' = w.setRow b (c.toList.take (len * z.length) ++ vals ++ c.toList.drop (len * z.length + vals.length)).toArray := by
          refine ⟨_, fun ad had => ?_, rfl⟩
          cases had
          rw [add_mk]
          by_cases hcap : cap = 0
          · have h1 : len = 0 := by omega
            have h2 : xs.length = 0 := by omega
            have h3 : vals = [] := List.eq_nil_of_length_eq_zero (by rw [src.size, h2]; simp)
            subst h3
            simp [storeCells, h1, setRow_self w b c e (0, 0) g2]
          · rw [g7 hcap]
            have := run_storeCells_at P b (0 + len * z.length) e vals 0 c w g2 (by rw [src.size]; rw [Nat.add_mul] at hcs; omega) src.one
            simpa using this
        obtain ⟨w', hst, hw'⟩ := hst
        have hrun := append_fits (P := P) (w' := w') hT hT2 hn2 hi hc (base := some ⟨b, oo, none⟩) (len := len) (cap := cap) src.len (full w rfl) hst (fun h => by cases h) hfit o.type
        generalize hcn : (c.toList.take (len * z.length) ++ vals ++ c.toList.drop (len * z.length + vals.length)).toArray = cn at hw'
        have hcnsz : cn.size = c.size := by
          rw [← hcn]; simp [src.size]; rw [Nat.add_mul] at hcs; omega
        obtain ⟨ev1, hr1⟩ := hr.adopt (w' := w') g1 (.cells z.length e (es ++ xs)) (by rw [hw']; rfl) (by rw [hw']; rfl) (by rw [hw']; rfl) (by rw [hw']; simp) (fun i hi => by rw [hw']; exact setRow_other w b i cn hi)
          (fun c0 T0 f0 h0 => by rw [g2] at h0; cases h0; exact ⟨cn, by rw [hw']; exact setRow_heap w b c cn e (0, 0) g2, hcnsz⟩) (fun hev => by
            refine ⟨b, cn, by simp [updM], by rw [hw']; exact setRow_heap w b c cn e (0, 0) g2, ?_⟩
            have happ := EsRel.app (w := w) (O := O) (μ := μ) (n := n) (k := z.length) (c := cn) (es := es) (xs := xs) (vo := c.toList.take (len * z.length)) (vn := vals) (rest := c.toList.drop (len * z.length + vals.length))
              (by rw [List.length_take, hesl]; simp; rw [Nat.add_mul] at hcs; omega) (fun q e' hq => ⟨(f3 q e' hq).1, fun j y hj => by
                obtain ⟨q1, u, q2, q3⟩ := (f3 q e' hq).2 j y hj
                refine ⟨q1, u, ?_, q3⟩
                have hq' := (List.getElem?_eq_some_iff.1 hq).1
                have hj' : j < z.length := by rw [← (f3 q e' hq).1]; exact (List.getElem?_eq_some_iff.1 hj).1
                have : (q + 1) * z.length ≤ es.length * z.length := Nat.mul_le_mul_right _ hq'
                rw [Nat.add_mul] at this
                rw [List.getElem?_take, if_pos (by rw [← hesl]; omega)]
                simpa using q2⟩) src.size src.rel
            intro q e' hq
            obtain ⟨q1, q2⟩ := happ q e' hq
            refine ⟨q1, fun j y hj => ?_⟩
            obtain ⟨q3, u, q4, q5⟩ := q2 j y hj
            rw [hcn] at q4
            exact ⟨q3, u, q4, q5.evo hev⟩)
        refine fin (u := .slice (some ⟨b, oo, none⟩) (len + xs.length) cap) (by rw [g3]; exact hrun) hk hr1 ?_ ev1
        refine .ms n 0 _ _ (by omega) rfl fun b2 k2 e2 => ?_
        simp [updM] at e2
        obtain ⟨rfl, rfl⟩ := e2
        exact ⟨oo, cap, cn, e, rfl, hfit, g6, fun hc0 => by rw [g7 hc0]; simp, by rw [hw']; exact setRow_heap w b c cn e (0, 0) g2, by simp [hcnsz, g8]⟩
      · -- a new row
        have hold : ∀ w', w'.heap = w.heap → (Builtin.firstCells z.length len (.slice (some ⟨b, oo, none⟩) len cap)).run P w' = .ok (c.toList.take (len * z.length)).toArray w' := by
          intro w' hw
          simp only [Builtin.firstCells]
          have hlc : len * z.length ≤ c.size := by rw [← g8]; exact Nat.mul_le_mul_right _ g5
          refine loadCells_run (fun j v hj => ?_) (by rw [List.length_take]; simp; omega)
          rw [List.getElem?_take] at hj
          split at hj
          · rename_i hjl
            have hcap : cap ≠ 0 := by
              intro h0
              have : len = 0 := by omega
              subst this; simp at hjl
            rw [g7 hcap, Nat.zero_add]
            exact cell_heap.2 ⟨c, e, (0, 0), by rw [hw]; exact g2, by simpa using hj⟩
          · cases hj
        obtain ⟨newCap, rest, q1, q2, q3, q4⟩ := append_grow (P := P) (w := w) hT hT2 hn2 hi hzv hc (base := some ⟨b, oo, none⟩) (len := len) (cap := cap) src.len full hold (by omega) hsm hbi o.type
        obtain ⟨e0, hr0⟩ := hr.del id
        obtain ⟨e1, hr1⟩ := hr0.drew
        have hlc : len * z.length ≤ c.size := by rw [← g8]; exact Nat.mul_le_mul_right _ g5
        have happ := EsRel.app (w := w) (O := O) (μ := μ) (n := n) (k := z.length) (c := #[]) (es := es) (xs := xs) (vo := c.toList.take (len * z.length)) (vn := vals) (rest := rest)
              (by rw [List.length_take, hesl]; simp; omega) (fun q e' hq => ⟨(f3 q e' hq).1, fun j y hj => by
                obtain ⟨q1, u, q2, q3⟩ := (f3 q e' hq).2 j y hj
                refine ⟨q1, u, ?_, q3⟩
                have hq' := (List.getElem?_eq_some_iff.1 hq).1
                have hj' : j < z.length := by rw [← (f3 q e' hq).1]; exact (List.getElem?_eq_some_iff.1 hj).1
                have : (q + 1) * z.length ≤ es.length * z.length := Nat.mul_le_mul_right _ hq'
                rw [Nat.add_mul] at this
                rw [List.getElem?_take, if_pos (by rw [← hesl]; omega)]
                simpa using q2⟩) src.size src.rel
        obtain ⟨e2, hr2⟩ := new_block hr1 e (c.toList.take (len * z.length) ++ vals ++ rest).toArray z.length (es ++ xs) (fun q e' hq => ⟨(happ q e' hq).1, fun j y hj => by
          obtain ⟨p1, u, p2, p3⟩ := (happ q e' hq).2 j y hj
          exact ⟨p1, u, p2, p3.evo (e0.trans e1)⟩⟩)
        refine fin (u := .slice (some ⟨w.heap.size, 0, none⟩) (len + xs.length) newCap) (by rw [g3]; exact q4) hk hr2 ?_ ((e0.trans e1).trans e2)
        refine .ms n 0 _ _ (by omega) rfl fun b2 k2 e2 => ?_
        simp [updM] at e2
        obtain ⟨rfl, rfl⟩ := e2
        refine ⟨0, newCap, _, e, rfl, q1, q2, fun _ => by simp, heap_alloc_self w.drew _, ?_⟩
        simp only [List.size_toArray, List.length_append, List.length_take, Array.length_toList, src.size, q3, hzl, Nat.min_eq_left hlc]
        rw [← Nat.add_mul, ← Nat.add_mul, Nat.zero_add]; congr 1; omega
    · exact hk.elim
  · exact hk.elim

end
end Go.Abs
