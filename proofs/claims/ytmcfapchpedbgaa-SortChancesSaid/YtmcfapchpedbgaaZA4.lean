/- Facts on memory behind abstract pointers and slices. -/
import Derived.Test.YtmcfapchpedbgaaZA3
namespace Go.Abs
open Go Go.RowKit

variable {P : Program} {w : World} {O : Nat → Prop} {μ : Mu} {h : AH} {n : Nat}

/-- the cells behind a pointer, to the end of what it points into -/
def deref (h : AH) : AV → Option (List AV)
  | .fp cs => some cs
  | .own id i j => match h id with
    | some (.cells _ _ es) => (es[i]?).map (·.drop j)
    | _ => none
  | _ => none

theorem add_mk (b o j : Nat) : (⟨b, o, none⟩ : Addr).add j = ⟨b, o + j, none⟩ := by unfold Addr.add; split <;> simp_all

/-- cells cs read at block b from o on -/
def Reads (w : World) (O : Nat → Prop) (μ : Mu) (n b o : Nat) (cs : List AV) : Prop :=
  ∀ (j : Nat) (c : AV), cs[j]? = some c → c.one = true ∧ ∃ u, w.cell? ⟨b, o + j, none⟩ = some u ∧ VR w O μ n c u

theorem HR.own_cells (hr : HR w O μ h n) {id k : Nat} {T : TypeId} {es : List (List AV)} (hB : h id = some (.cells k T es)) :
    ∃ b c, μ id = some (b, k) ∧ w.heap[b]? = some (.cells c T (0, 0)) ∧ (∀ (i : Nat) (e : List AV), es[i]? = some e → e.length = k ∧ Reads w O μ n b (i * k) e) := by
  obtain ⟨b, c, h1, h2, h3⟩ := hr.blk id _ hB
  refine ⟨b, c, h1, h2, fun i e hi => ⟨(h3 i e hi).1, fun j a hj => ?_⟩⟩
  obtain ⟨h4, u, h5, h6⟩ := (h3 i e hi).2 j a hj
  exact ⟨h4, u, cell_heap.2 ⟨c, T, (0, 0), h2, h5⟩, h6⟩

theorem deref_sound (hr : HR w O μ h n) {p : AV} {v : Value} (hv : VR w O μ n p v) {cs : List AV} (hd : deref h p = some cs) : ∃ b o, v = .pointer (some ⟨b, o, none⟩) ∧ Reads w O μ n b o cs := by
  unfold deref at hd
  split at hd
  · cases hd
    cases hv with
    | fp _ b o us hA hc h1 hr' => exact ⟨b, o, rfl, fun j c hj => ⟨h1 j c hj, us j, hc j c hj, hr' j c hj⟩⟩
  · rename_i id i j
    split at hd
    · rename_i k T es hB
      obtain ⟨b, c, h1, h2, h3⟩ := hr.own_cells hB
      cases he : es[i]? with
      | none => simp [he] at hd
      | some e =>
        simp [he] at hd
        subst hd
        cases hv with
        | own _ _ _ _ hi h1' hv =>
          refine ⟨b, i * k + j, hv b k h1, fun jj c hj => ?_⟩
          rw [List.getElem?_drop] at hj
          obtain ⟨h4, u, h5, h6⟩ := (h3 i e he).2 (j + jj) c hj
          exact ⟨h4, u, by rw [Nat.add_assoc]; exact h5, h6⟩
    · cases hd
  · cases hd

theorem VR.one {a : AV} {v : Value} (hv : VR w O μ n a v) (h1 : AV.one a = true) : v.oneCell' = true := by
  cases hv <;> first | assumption | rfl | (simp [AV.one] at h1; done)

/-- Cells that read make a list of values. -/
theorem Reads.vals {b : Nat} : ∀ {cs : List AV} {o : Nat}, Reads w O μ n b o cs → ∃ vals : List Value, vals.length = cs.length ∧ (∀ j v, vals[j]? = some v → w.cell? ⟨b, o + j, none⟩ = some v) ∧ (∀ v ∈ vals, v.oneCell' = true) ∧
    ∀ (j : Nat) (c : AV), cs[j]? = some c → ∃ u, vals[j]? = some u ∧ VR w O μ n c u
  | [], o, _ => ⟨[], rfl, fun j v hj => by simp at hj, fun v hv => by simp at hv, fun j c hj => by simp at hj⟩
  | c :: cs, o, hrd => by
    obtain ⟨h1, u, h2, h3⟩ := hrd 0 c rfl
    have htl : Reads w O μ n b (o + 1) cs := fun j c' hj => by
      obtain ⟨h4, u', h5, h6⟩ := hrd (j + 1) c' (by simpa using hj)
      exact ⟨h4, u', by rw [Nat.add_assoc, Nat.add_comm 1 j]; exact h5, h6⟩
    obtain ⟨vals, g1, g2, g3, g4⟩ := Reads.vals (b := b) htl
    refine ⟨u :: vals, by simp [g1], fun j v hj => ?_, fun v hv => ?_, fun j c' hj => ?_⟩
    · cases j with
      | zero => simp at hj; subst hj; exact h2
      | succ j =>
        have := g2 j v (by simpa using hj)
        rwa [Nat.add_assoc, Nat.add_comm 1 j] at this
    · rcases List.mem_cons.1 hv with rfl | hv
      · exact h3.one h1
      · exact g3 v hv
    · cases j with
      | zero => simp at hj; subst hj; exact ⟨u, rfl, h3⟩
      | succ j => obtain ⟨u', g5, g6⟩ := g4 j c' (by simpa using hj); exact ⟨u', by simpa using g5, g6⟩

theorem Reads.take {b o : Nat} {cs : List AV} (h : Reads w O μ n b o cs) (k : Nat) : Reads w O μ n b o (cs.take k) := fun j c hj => by
  rw [List.getElem?_take] at hj
  split at hj
  · exact h j c hj
  · cases hj
theorem Reads.drop {b o : Nat} {cs : List AV} (h : Reads w O μ n b o cs) (k : Nat) : Reads w O μ n b (o + k) (cs.drop k) := fun j c hj => by
  rw [List.getElem?_drop] at hj
  rw [Nat.add_assoc]; exact h _ c hj

/-- an aggregate out of cells -/
theorem VR.ag_of {cs : List AV} {vals : List Value} (hl : vals.length = cs.length) (h1 : ∀ (j : Nat) (c : AV), cs[j]? = some c → c.one = true) (h2 : ∀ (j : Nat) (c : AV), cs[j]? = some c → ∃ u, vals[j]? = some u ∧ VR w O μ n c u) :
    VR w O μ n (.ag cs) (.agg vals.toArray) := by
  refine .ag cs _ (fun j => vals.getD j undef) (by simpa using hl) (fun j c hj => ?_) h1 (fun j c hj => ?_)
  · obtain ⟨u, h3, _⟩ := h2 j c hj
    simp [h3, List.getD]
  · obtain ⟨u, h3, h4⟩ := h2 j c hj
    simpa [h3, List.getD] using h4

/-- Elements that read one behind the other. -/
def ReadsEs (w : World) (O : Nat → Prop) (μ : Mu) (n b o k : Nat) (es : List (List AV)) : Prop :=
  ∀ (i : Nat) (e : List AV), es[i]? = some e → e.length = k ∧ Reads w O μ n b (o + i * k) e

theorem ReadsEs.vals {b k : Nat} : ∀ {es : List (List AV)} {o : Nat}, ReadsEs w O μ n b o k es → ∃ vals : List Value, vals.length = es.length * k ∧ (∀ j v, vals[j]? = some v → w.cell? ⟨b, o + j, none⟩ = some v) ∧ (∀ v ∈ vals, v.oneCell' = true) ∧
    ∀ (i : Nat) (e : List AV), es[i]? = some e → e.length = k ∧ ∀ (j : Nat) (c : AV), e[j]? = some c → c.one = true ∧ ∃ u, vals[i * k + j]? = some u ∧ VR w O μ n c u
  | [], o, _ => ⟨[], by simp, fun j v hj => by simp at hj, fun v hv => by simp at hv, fun j c hj => by simp at hj⟩
  | e :: es, o, hrd => by
    obtain ⟨hk, h0⟩ := hrd 0 e rfl
    have h0' : Reads w O μ n b o e := by simpa using h0
    obtain ⟨v1, f1, f2, f3, f4⟩ := h0'.vals (o := o)
    have htl : ReadsEs w O μ n b (o + k) k es := fun i e' hi => by
      obtain ⟨h4, h5⟩ := hrd (i + 1) e' (by simpa using hi)
      refine ⟨h4, ?_⟩
      rw [show o + k + i * k = o + (i + 1) * k by rw [Nat.add_mul]; omega]
      exact h5
    obtain ⟨v2, g1, g2, g3, g4⟩ := ReadsEs.vals htl
    refine ⟨v1 ++ v2, by simp [f1, g1, hk, Nat.add_mul]; omega, fun j v hj => ?_, fun v hv => ?_, fun i e' hi => ?_⟩
    · rw [List.getElem?_append] at hj
      split at hj
      · exact f2 j v hj
      · rename_i hlt
        have := g2 _ v hj
        rw [f1, hk] at this hlt
        rwa [show o + k + (j - k) = o + j by omega] at this
    · rcases List.mem_append.1 hv with hv | hv
      · exact f3 v hv
      · exact g3 v hv
    · cases i with
      | zero =>
        simp at hi; subst hi
        refine ⟨hk, fun j c hj => ?_⟩
        obtain ⟨u, f5, f6⟩ := f4 j c hj
        refine ⟨(h0' j c hj).1, u, ?_, f6⟩
        simp only [Nat.zero_mul, Nat.zero_add]
        rw [List.getElem?_append_left]
        · exact f5
        · exact (List.getElem?_eq_some_iff.1 f5).1
      | succ i =>
        obtain ⟨g5, g6⟩ := g4 i e' (by simpa using hi)
        refine ⟨g5, fun j c hj => ?_⟩
        obtain ⟨g7, u, g8, g9⟩ := g6 j c hj
        refine ⟨g7, u, ?_, g9⟩
        rw [List.getElem?_append_right (by rw [f1, hk, Nat.add_mul]; omega), f1, hk]
        rw [show (i + 1) * k + j - k = i * k + j by rw [Nat.add_mul]; omega]
        exact g8

theorem loadCells_run {b o : Nat} {vals : List Value} (hv : ∀ j v, vals[j]? = some v → w.cell? ⟨b, o + j, none⟩ = some v) {m : Nat} (hm : vals.length = m) :
    (loadCells ⟨b, o, none⟩ m).run P w = .ok vals.toArray w := by
  subst hm
  exact run_loadCells_list w ⟨b, o, none⟩ vals fun j v hj => by rw [add_mk]; exact hv j v hj

end Go.Abs
