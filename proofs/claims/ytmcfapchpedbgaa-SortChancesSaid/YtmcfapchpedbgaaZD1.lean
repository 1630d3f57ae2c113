/- From what the row reads of an argument to abstract values. -/
import Derived.Test.YtmcfapchpedbgaaZC1
import Derived.ProofKit
set_option linter.unusedSimpArgs false
set_option linter.unusedVariables false
namespace Go.Abs
open Go Go.RowKit

inductive Sh where
  | int (k : IntKind)
  | bool
  | str
  | sl (e : Sh)
  | st (fs : List Sh)

def offsOk (P : Program) : List Field → Nat → Nat → Bool
  | [], o, n => o == n
  | f :: fs, o, n => f.offset == o && offsOk P fs (o + P.cellsOf f.type) n

def shapeOf (P : Program) : Nat → TypeId → Option Sh
  | 0, _ => none
  | d + 1, t => match P.underlying t with
    | some .bool => some .bool
    | some (.int k) => some (.int k)
    | some .string => some .str
    | some (.slice e) => if P.cellsOf e = 0 then none else (shapeOf P d e).map .sl
    | some (.struct fs) => if offsOk P fs.toList 0 (P.cellsOf t) then (fs.toList.mapM fun f => shapeOf P d f.type).map .st else none
    | some (.array n e) => if n * P.cellsOf e = P.cellsOf t then (shapeOf P d e).map fun s => .st (List.replicate n s) else none
    | _ => none

inductive Enc : Sh → List AV → Prop
  | int (k : IntKind) (n : Int) (h : (Lit.int k n).wf = true) : Enc (.int k) [.sc (.int k n)]
  | bool (b : Bool) : Enc .bool [.sc (.bool b)]
  | str (s : ByteArray) (h : s.size ≤ maxLen) : Enc .str [.sc (.string s)]
  | sl (e : Sh) (es : List (List AV)) (h : ∀ x ∈ es, Enc e x) (hl : es.length ≤ maxLen) : Enc (.sl e) [.sl es]
  | nil : Enc (.st []) []
  | cons (s : Sh) (ss : List Sh) (a as : List AV) (h1 : Enc s a) (h2 : Enc (.st ss) as) : Enc (.st (s :: ss)) (a ++ as)

abbrev noO : Nat → Prop := fun _ => False

def CR (w : World) (as : List AV) (cs : List Value) : Prop :=
  as.length = cs.length ∧ ∀ (j : Nat) (a : AV), as[j]? = some a → a.one = true ∧ ∃ v, cs[j]? = some v ∧ VR w noO mu0 0 a v

theorem CR.nil {w : World} : CR w [] [] := ⟨rfl, fun j a h => by simp at h⟩
theorem CR.one {w : World} {a : AV} {v : Value} (h1 : a.one = true) (h : VR w noO mu0 0 a v) : CR w [a] [v] := ⟨rfl, fun j x hj => by
  cases j with
  | zero => simp at hj; subst hj; exact ⟨h1, v, rfl, h⟩
  | succ j => simp at hj⟩
theorem CR.append {w : World} {as bs : List AV} {cs ds : List Value} (h : CR w as cs) (g : CR w bs ds) : CR w (as ++ bs) (cs ++ ds) := by
  refine ⟨by simp [h.1, g.1], fun j a hj => ?_⟩
  rw [List.getElem?_append] at hj
  split at hj
  · rename_i hlt
    obtain ⟨h1, v, h2, h3⟩ := h.2 j a hj
    exact ⟨h1, v, by rw [List.getElem?_append_left (by rw [← h.1]; exact hlt)]; exact h2, h3⟩
  · rename_i hge
    obtain ⟨h1, v, h2, h3⟩ := g.2 _ a hj
    exact ⟨h1, v, by rw [List.getElem?_append_right (by rw [← h.1]; omega), ← h.1]; exact h2, h3⟩

theorem noAv (b : Nat) : ¬ Av noO mu0 b := by
  rintro (h | ⟨_, _, h⟩)
  · exact h
  · cases h

section
variable {H : Type} {enc : TypeId × Value → H} {P : Program} {w : World} {held : Bool}

theorem fields_enc {d fuel : Nat} (ih : ∀ (t : TypeId) (sh : Sh) (cs : List Value) (x : DataW H × List MemPlace), shapeOf P d t = some sh → DataW.trod enc P w 0 (fun _ => true) held fuel t cs = some x → ∃ as, Enc sh as ∧ CR w as cs) {cs : List Value} :
    ∀ (fs : List Field) (o : Nat) (shs : List Sh) (xs : List (DataW H × List MemPlace)), offsOk P fs o cs.length = true → (fs.mapM fun f => shapeOf P d f.type) = some shs →
      (fs.mapM fun f => DataW.trod enc P w 0 (fun _ => true) held fuel f.type ((cs.drop f.offset).take (P.cellsOf f.type))) = some xs → (∀ f ∈ fs, f.offset + P.cellsOf f.type ≤ cs.length) → ∃ as, Enc (.st shs) as ∧ CR w as (cs.drop o)
  | [], o, shs, xs, ho, hs, hx, hle => by
    simp [offsOk] at ho
    simp at hs; subst hs
    exact ⟨[], .nil, by rw [ho]; simp; exact CR.nil⟩
  | f :: fs, o, shs, xs, ho, hs, hx, hle => by
    simp only [offsOk, Bool.and_eq_true, beq_iff_eq] at ho
    obtain ⟨rfl, ho⟩ := ho
    simp only [List.mapM_cons, Option.bind_eq_bind, Option.bind_eq_some_iff, Option.pure_def, Option.some.injEq] at hs hx
    obtain ⟨s, hs1, ss, hs2, rfl⟩ := hs
    obtain ⟨y, hy, ys, hys, rfl⟩ := hx
    obtain ⟨a, ha, hca⟩ := ih _ _ _ _ hs1 hy
    obtain ⟨as, has, hcas⟩ := fields_enc ih fs _ ss ys ho hs2 hys fun g hg => hle g (List.mem_cons_of_mem _ hg)
    refine ⟨a ++ as, .cons s ss a as ha has, ?_⟩
    have e : cs.drop f.offset = (cs.drop f.offset).take (P.cellsOf f.type) ++ cs.drop (f.offset + P.cellsOf f.type) := by
      rw [← List.drop_drop]; exact (List.take_append_drop _ _).symm
    rw [e]
    exact hca.append hcas

theorem offsOk_le {P : Program} : ∀ (fs : List Field) (o n : Nat), offsOk P fs o n = true → o ≤ n ∧ ∀ f ∈ fs, f.offset + P.cellsOf f.type ≤ n
  | [], o, n, h => by simp [offsOk] at h; exact ⟨by omega, fun f hf => by simp at hf⟩
  | f :: fs, o, n, h => by
    simp only [offsOk, Bool.and_eq_true, beq_iff_eq] at h
    obtain ⟨h1, h2⟩ := offsOk_le fs _ _ h.2
    refine ⟨by omega, fun g hg => ?_⟩
    rcases List.mem_cons.1 hg with rfl | hg
    · rw [h.1]; exact h1
    · exact h2 g hg

theorem elems_enc {d fuel : Nat} (ih : ∀ (t : TypeId) (sh : Sh) (cs : List Value) (x : DataW H × List MemPlace), shapeOf P d t = some sh → DataW.trod enc P w 0 (fun _ => true) held fuel t cs = some x → ∃ as, Enc sh as ∧ CR w as cs) {e : TypeId} {sh : Sh} (hsh : shapeOf P d e = some sh) (cs : List Value) :
    ∀ (n o : Nat), (∀ i, i < n → ∃ x, DataW.trod enc P w 0 (fun _ => true) held fuel e ((cs.drop ((o + i) * P.cellsOf e)).take (P.cellsOf e)) = some x) → (o + n) * P.cellsOf e = cs.length → ∃ as, Enc (.st (List.replicate n sh)) as ∧ CR w as (cs.drop (o * P.cellsOf e))
  | 0, o, _, hl => ⟨[], .nil, by rw [show o * P.cellsOf e = cs.length by simpa using hl]; simp; exact CR.nil⟩
  | n + 1, o, h, hl => by
    obtain ⟨x, hx⟩ := h 0 (by omega)
    simp only [Nat.add_zero] at hx
    obtain ⟨a, ha, hca⟩ := ih _ _ _ _ hsh hx
    obtain ⟨as, has, hcas⟩ := elems_enc ih hsh cs n (o + 1) (fun i hi => by rw [show o + 1 + i = o + (i + 1) by omega]; exact h (i + 1) (by omega)) (by rw [← hl]; congr 1; omega)
    refine ⟨a ++ as, .cons sh _ a as ha has, ?_⟩
    have e1 : cs.drop (o * P.cellsOf e) = (cs.drop (o * P.cellsOf e)).take (P.cellsOf e) ++ cs.drop ((o + 1) * P.cellsOf e) := by
      rw [Nat.add_mul, Nat.one_mul, ← List.drop_drop]; exact (List.take_append_drop _ _).symm
    rw [e1]
    exact hca.append hcas

theorem trod_enc : ∀ (d : Nat) (fuel : Nat) (t : TypeId) (sh : Sh) (cs : List Value) (x : DataW H × List MemPlace), shapeOf P d t = some sh → DataW.trod enc P w 0 (fun _ => true) held fuel t cs = some x → ∃ as, Enc sh as ∧ CR w as cs
  | 0, _, _, _, _, _, h, _ => by cases h
  | d + 1, 0, t, sh, cs, x, _, hx => by simp [DataW.trod] at hx
  | d + 1, fuel + 1, t, sh, cs, x, h, hx => by
    have ih := fun t sh cs x => trod_enc d fuel t sh cs x
    simp only [shapeOf] at h
    unfold DataW.trod at hx
    cases hu : P.underlying t with
    | none => simp [hu] at h
    | some u =>
      simp only [hu] at h hx
      cases u <;> simp only [reduceCtorEq] at h
      case bool =>
        cases h
        split at hx <;> simp only [reduceCtorEq, Option.some.injEq, TypeDesc.int.injEq] at * <;> try contradiction
        rename_i b _
        exact ⟨_, .bool b, CR.one rfl (.sc _ rfl)⟩
      case int k =>
        cases h
        split at hx <;> simp only [reduceCtorEq, Option.some.injEq, TypeDesc.int.injEq] at * <;> try contradiction
        rename_i h1
        subst h1
        split at hx
        · rename_i hc
          obtain ⟨rfl, hw⟩ := hc
          exact ⟨_, .int _ _ hw, CR.one rfl (.sc _ rfl)⟩
        · cases hx
      case string =>
        cases h
        split at hx <;> simp only [reduceCtorEq, Option.some.injEq] at * <;> try contradiction
        split at hx
        · rename_i hc
          exact ⟨_, .str _ hc, CR.one rfl (.sc _ rfl)⟩
        · cases hx
      case slice e =>
        split at h
        · cases h
        rename_i hk
        cases hse : shapeOf P d e with
        | none => simp [hse] at h
        | some she =>
        simp only [hse, Option.map_some, Option.some.injEq] at h
        subst h
        split at hx <;> simp only [reduceCtorEq, Option.some.injEq, TypeDesc.slice.injEq] at * <;> try contradiction
        · exact ⟨_, .sl she [] (fun x hx => by simp at hx) (by simp), CR.one rfl (.slnil none)⟩
        · rename_i a len cap h1
          subst h1
          split at hx
          · rename_i hb
            obtain ⟨elems, he, hx⟩ := Option.bind_eq_some_iff.1 hx
            simp only [if_true] at hx
            obtain ⟨rest, hrest, -⟩ := Option.map_eq_some_iff.1 hx
            have el1 := mapM_some_length he
            have el2 := mapM_some_length hrest
            simp only [List.length_range] at el1 el2
            have elem : ∀ i : Nat, ∃ p : List Value × List AV, i < cap → w.cells? 0 (a.add (i * P.cellsOf e)) (P.cellsOf e) = some p.1 ∧ Enc she p.2 ∧ CR w p.2 p.1 := by
              intro i
              by_cases hi : i < cap
              · have : ∃ y, ((w.cells? 0 (a.add (i * P.cellsOf e)) (P.cellsOf e)).bind (DataW.trod enc P w 0 (fun _ => true) held fuel e)) = some y := by
                  by_cases hil : i < len
                  · have := mapM_some_get he i i (by simp [hil])
                    exact ⟨elems[i]'(by omega), by rw [this]; exact List.getElem?_eq_getElem _⟩
                  · have := mapM_some_get hrest (i - len) (i - len) (by rw [List.getElem?_range (by omega)])
                    rw [show len + (i - len) = i by omega] at this
                    exact ⟨rest[i - len]'(by omega), by rw [this]; exact List.getElem?_eq_getElem _⟩
                obtain ⟨y, hy⟩ := this
                obtain ⟨csi, hc, hy⟩ := Option.bind_eq_some_iff.1 hy
                obtain ⟨as, g1, g2⟩ := ih e she csi y hse hy
                exact ⟨(csi, as), fun _ => ⟨hc, g1, g2⟩⟩
              · exact ⟨([], []), fun h => absurd h hi⟩
            obtain ⟨F, hF⟩ := Classical.axiomOfChoice elem
            by_cases hcap : cap = 0
            · subst hcap
              obtain rfl : len = 0 := by omega
              exact ⟨[.sl []], .sl she [] (fun x hx => by simp at hx) (by simp), CR.one rfl (.slnil _)⟩
            · have hspot : a.spot = none := by
                obtain ⟨h1, -, -⟩ := hF 0 (by omega)
                obtain ⟨-, h2, h3⟩ := World.cells?_some h1
                have h4 := h3 0 (by omega)
                rw [List.getElem?_eq_getElem (by omega)] at h4
                have := World.cell?_spot h4
                simpa [Addr.add] using this
              obtain ⟨b, o, spot⟩ := a
              subst hspot
              have hlen : ((List.range len).map fun i => (F i).2).length = len := by simp
              have hget : ∀ (i : Nat) (c : List AV), ((List.range len).map fun i => (F i).2)[i]? = some c → i < len ∧ c = (F i).2 := fun i c hi => by
                simp only [List.getElem?_map, Option.map_eq_some_iff] at hi
                obtain ⟨i', hi', rfl⟩ := hi
                have hlt : i < len := by have := (List.getElem?_eq_some_iff.1 hi').1; simpa using this
                rw [List.getElem?_range hlt] at hi'
                cases hi'
                exact ⟨hlt, rfl⟩
              have hval : ∀ (i : Nat) (c : List AV), ((List.range len).map fun i => (F i).2)[i]? = some c → c.length = P.cellsOf e ∧ ∀ (j : Nat) (x : AV), c[j]? = some x → x.one = true ∧ w.cell? ⟨b, o + i * P.cellsOf e + j, none⟩ = some (((F i).1[j]?).getD undef) ∧ VR w noO mu0 0 x (((F i).1[j]?).getD undef) := fun i c hi => by
                obtain ⟨hlt, rfl⟩ := hget i c hi
                obtain ⟨h1, h2, h3, h4⟩ := hF i (by omega)
                obtain ⟨-, h5, h6⟩ := World.cells?_some h1
                refine ⟨by omega, fun j x hj => ?_⟩
                obtain ⟨g1, v, g2, g3⟩ := h4 j x hj
                have hj' := (List.getElem?_eq_some_iff.1 hj).1
                have h7 := h6 j (by omega)
                rw [add_mk, add_mk] at h7
                rw [h7, g2]
                exact ⟨g1, rfl, g3⟩
              refine ⟨[.sl ((List.range len).map fun i => (F i).2)], .sl she _ (fun x hx => ?_) (by omega), CR.one rfl ?_⟩
              · simp only [List.mem_map, List.mem_range] at hx
                obtain ⟨i, hi, rfl⟩ := hx
                exact (hF i (by omega)).2.1
              · have hmain := VR.sl (w := w) (O := noO) (μ := mu0) (n := 0) ((List.range len).map fun i => (F i).2) b o cap (P.cellsOf e) (fun i j => ((F i).1[j]?).getD undef) (by omega) (by omega) (fun _ _ _ _ => noAv b)
                  (fun i c hi => (hval i c hi).1) (fun i c hi j x hj => ((hval i c hi).2 j x hj).2.1) (fun i c hi j x hj => ((hval i c hi).2 j x hj).1) (fun i c hi j x hj => ((hval i c hi).2 j x hj).2.2)
                rw [hlen] at hmain
                exact hmain
          · cases hx
      case struct fs =>
        split at h
        · rename_i ho
          cases hfs : fs.toList.mapM fun f => shapeOf P d f.type with
          | none => rw [hfs] at h; cases h
          | some shs =>
          rw [hfs] at h
          cases h
          split at hx <;> simp only [reduceCtorEq, Option.some.injEq, TypeDesc.struct.injEq] at * <;> try contradiction
          · rename_i h1
            subst h1
            split at hx
            · rename_i hl
              obtain ⟨xs, hxs, -⟩ := Option.map_eq_some_iff.1 hx
              obtain ⟨as, h1, h2⟩ := fields_enc ih fs.toList 0 shs xs (by rw [hl]; exact ho) hfs hxs (by rw [hl]; exact (offsOk_le _ _ _ ho).2)
              exact ⟨as, h1, by simpa using h2⟩
            · cases hx
          · exact (‹∀ fs_1 : Array Field, fs = fs_1 → False› _ rfl).elim
        · cases h
      case array n e =>
        split at h
        · rename_i ho
          cases hse : shapeOf P d e with
          | none => rw [hse] at h; cases h
          | some she =>
          rw [hse] at h
          cases h
          split at hx <;> simp only [reduceCtorEq, Option.some.injEq, TypeDesc.array.injEq] at * <;> try contradiction
          · rename_i h1
            obtain ⟨rfl, rfl⟩ := h1
            split at hx
            · rename_i hl
              obtain ⟨xs, hxs, -⟩ := Option.map_eq_some_iff.1 hx
              rename_i cs1 _ _
              have hl2 := mapM_some_length hxs
              simp only [List.length_range] at hl2
              have hel : ∀ i, i < n → ∃ x, DataW.trod enc P w 0 (fun _ => true) held fuel e ((List.drop ((0 + i) * P.cellsOf e) cs1).take (P.cellsOf e)) = some x := fun i hi => by
                have := mapM_some_get hxs i i (by simp [hi])
                rw [Nat.zero_add, this]
                exact ⟨_, List.getElem?_eq_getElem (by omega)⟩
              obtain ⟨as, h1, h2⟩ := elems_enc ih hse _ n 0 hel (by rw [hl, ← ho]; simp)
              exact ⟨as, h1, by simpa using h2⟩
            · cases hx
          · exact (‹∀ (n_1 : Nat) (e_1 : TypeId), n = n_1 ∧ e = e_1 → False› _ _ ⟨rfl, rfl⟩).elim
        · cases h

end
end Go.Abs
