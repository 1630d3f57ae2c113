/- append and copy. -/
import Derived.Test.YtmcfapchpedbgaaZA9
namespace Go.Abs
open Go Go.RowKit

def byteAV (b : UInt8) : List AV := [.sc (.int .u8 b.toNat)]

/-- the elements that are appended or copied; k: cells of one -/
def srcA (h : AH) (k : Nat) : AV → Option (List (List AV))
  | .sl es => if es.all (fun e => e.length == k) then some es else none
  | .ms id off len => match h id with
    | some (.cells k' _ es) => if k' = k ∧ off + len ≤ es.length then some ((es.drop off).take len) else none
    | _ => none
  | .e0 => some []
  | .sc (.slice none 0 0) => some []
  | .sc (.string s) => if k = 1 then some (s.data.toList.map byteAV) else none
  | _ => none

section
variable {P : Program} {o : Oper} {a : Act} {w : World} {O : Nat → Prop} {μ : Mu} {h : AH} {n : Nat} {K : K3}

/-- What is known of a source. -/
structure Src (P : Program) (w : World) (O : Nat → Prop) (μ : Mu) (n k : Nat) (u : Value) (xs : List (List AV)) (vals : List Value) : Prop where
  len : ∀ w', (Builtin.lenOf u).run P w' = .ok xs.length w'
  cells : ∀ w', w'.heap = w.heap → ∀ q, q ≤ xs.length → (Builtin.firstCells k q u).run P w' = .ok (vals.take (q * k)).toArray w'
  size : vals.length = xs.length * k
  one : ∀ v ∈ vals, v.oneCell' = true
  rel : ∀ (i : Nat) (e : List AV), xs[i]? = some e → e.length = k ∧ ∀ (j : Nat) (c : AV), e[j]? = some c → c.one = true ∧ ∃ u, vals[i * k + j]? = some u ∧ VR w O μ n c u

theorem Src.nil (u : Value) (hu : ∃ p c, u = .slice p 0 c) (k : Nat) : Src P w O μ n k u [] [] := by
  obtain ⟨p, c, rfl⟩ := hu
  refine ⟨fun w' => rfl, fun w' _ q hq => ?_, by simp, fun v hv => by simp at hv, fun i e hi => by simp at hi⟩
  simp at hq; subst hq
  cases p with
  | none => simp [Builtin.firstCells]
  | some p => simp [Builtin.firstCells, loadCells, loadCellsFrom]

theorem Src.of_reads {b off k cap : Nat} {xs : List (List AV)} (hr : xs ≠ [] → ReadsEs w O μ n b off k xs) : ∃ vals, Src P w O μ n k (.slice (some ⟨b, off, none⟩) xs.length cap) xs vals := by
  by_cases hne : xs = []
  · subst hne; exact ⟨[], Src.nil _ ⟨_, _, rfl⟩ k⟩
  · obtain ⟨vals, h1, h2, h3, h4⟩ := (hr hne).vals
    refine ⟨vals, fun w' => rfl, fun w' hw q hq => ?_, h1, h3, h4⟩
    simp only [Builtin.firstCells]
    refine loadCells_run (fun j v hj => ?_) (by
      rw [List.length_take, h1]
      have : q * k ≤ xs.length * k := Nat.mul_le_mul_right k hq
      omega)
    rw [List.getElem?_take] at hj
    split at hj
    · rw [cell_of_heap (w := w) (by rw [hw])]; exact h2 j v hj
    · cases hj

theorem srcA_sound (hr : HR w O μ h n) {x : AV} {u : Value} (hv : VR w O μ n x u) {k : Nat} {xs : List (List AV)} (hs : srcA h k x = some xs) : ∃ vals, Src P w O μ n k u xs vals := by
  unfold srcA at hs
  split at hs
  · rename_i es
    split at hs
    · rename_i hall
      cases hs
      cases hv with
      | slnil => exact ⟨[], Src.nil _ ⟨_, _, rfl⟩ k⟩
      | sl _ b off cap k' us hcap hmax hA hkk hc h1 hr' =>
        refine Src.of_reads fun hne => ?_
        have hke : k' = k := by
          cases xs with
          | nil => exact absurd rfl hne
          | cons e xs =>
            have e1 := hkk 0 e rfl
            simp only [List.all_cons, Bool.and_eq_true, beq_iff_eq] at hall
            rw [← e1, hall.1]
        subst hke
        exact fun i e hi => ⟨hkk i e hi, fun j c hj => ⟨h1 i e hi j c hj, us i j, hc i e hi j c hj, hr' i e hi j c hj⟩⟩
    · cases hs
  · rename_i id off len
    split at hs
    · rename_i k' T es hB
      split at hs
      · rename_i hcond
        cases hs
        obtain ⟨rfl, hle⟩ := hcond
        obtain ⟨b, c, oo, cap, g1, g2, rfl, g3, g4, g5, g6, g7⟩ := live_ms hr hB hv
        have hlen : ((es.drop off).take len).length = len := by simp; omega
        obtain ⟨b', c', f1, f2, f3⟩ := hr.own_cells hB
        rw [g1] at f1; cases f1
        have := Src.of_reads (P := P) (w := w) (O := O) (μ := μ) (n := n) (b := b) (off := oo) (k := k') (cap := cap) (xs := (es.drop off).take len) (fun hne i e hi => by
          rw [List.getElem?_take] at hi
          split at hi
          · rename_i hlt
            rw [List.getElem?_drop] at hi
            obtain ⟨q1, q2⟩ := f3 _ e hi
            refine ⟨q1, ?_⟩
            rw [g6 (by omega), ← Nat.add_mul]
            exact q2
          · cases hi)
        rw [hlen] at this
        exact this
      · cases hs
    · cases hs
  · cases hs
    cases hv with
    | e0 p => exact ⟨[], Src.nil _ ⟨p, _, rfl⟩ k⟩
  · cases hs
    rw [hv.sc_inv]
    exact ⟨[], Src.nil _ ⟨none, _, rfl⟩ k⟩
  · rename_i s
    split at hs
    · rename_i hk1
      cases hs
      subst hk1
      rw [hv.sc_inv]
      refine ⟨s.data.toList.map fun b => .int .u8 b.toNat, fun w' => by simp [Builtin.lenOf], fun w' _ q hq => ?_, by simp, fun v hv => ?_, fun i e hi => ?_⟩
      · simp only [Builtin.firstCells, Nat.mul_one]
        simp only [Sem.run_pure]
        congr 1
        apply Array.ext'
        simp only [Array.toList_map]
        simp only [List.length_map, Array.length_toList] at hq
        simp
      · simp only [List.mem_map] at hv; obtain ⟨b, _, rfl⟩ := hv; rfl
      · simp only [List.getElem?_map, Option.map_eq_some_iff] at hi
        obtain ⟨b, hb, rfl⟩ := hi
        refine ⟨rfl, fun j c hj => ?_⟩
        cases j with
        | zero =>
          simp [byteAV] at hj; subst hj
          exact ⟨rfl, .int .u8 b.toNat, by simpa using ⟨b, by simpa using hb, rfl⟩, .sc _ rfl⟩
        | succ j => simp [byteAV] at hj
    · cases hs
  · cases hs

end
end Go.Abs
