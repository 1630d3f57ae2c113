/- Maps with plain keys. -/
import Derived.Test.YtmcfapchpedbgaaZA9
import Derived.MapKept
set_option linter.unusedSimpArgs false
set_option linter.unusedVariables false
namespace Go.Abs
open Go Go.RowKit

def mapO (P : Program) (T : TypeId) : Option (TypeId × TypeId) :=
  match P.underlying T with
  | some (.map k e) => some (k, e)
  | _ => none
def zvO (P : Program) (T : TypeId) : Option Value := (P.info? T).bind (·.zero)
def keyOkA (P : Program) (kt : TypeId) : Value → Prop
  | .int k _ => intO P kt = some k
  | .string _ => P.underlying kt = some .string
  | .bool _ => P.underlying kt = some .bool
  | _ => False
def keyB : Value → Value → Bool
  | .int k a, .int k' b => k == k' && a == b
  | .string a, .string b => a == b
  | .bool a, .bool b => a == b
  | _, _ => false
def findA (k : Value) : List (Value × AV) → Nat → Option (Nat × AV)
  | [], _ => none
  | x :: r, i => if keyB k x.1 then some (i, x.2) else findA k r (i + 1)

def lookupK (P : Program) (h : AH) (T : TypeId) (m key : AV) (ok : Bool) (K : AV → Prop) : Prop :=
  match m, key, mapO P T with
  | .mp id, .sc k, some (kt, e) => match h id with
    | some (.map kvs) => keyOkA P kt k ∧ (∀ x ∈ kvs, keyOkA P kt x.1) ∧ match findA k kvs 0, zvO P e with
      | some (_, v), _ => K (if ok then .tp [v, .sc (.bool true)] else v)
      | none, some z => K (if ok then .tp [cst z, .sc (.bool false)] else cst z)
      | none, none => False
    | _ => False
  | _, _, _ => False

def mapUpdK (P : Program) (h : AH) (n : Nat) (T : TypeId) (m key v : AV) (K : K3) : Prop :=
  match m, key, mapO P T with
  | .mp id, .sc k, some (kt, e) => match h id with
    | some (.map kvs) => keyOkA P kt k ∧ (∀ x ∈ kvs, keyOkA P kt x.1) ∧ v.one = true ∧ K .ud (updH h id (.map (match findA k kvs 0 with | some (i, _) => kvs.set i (k, v) | none => kvs ++ [(k, v)]))) n
    | _ => False
  | _, _, _ => False

section
variable {P : Program} {o : Oper} {a : Act} {w : World} {O : Nat → Prop} {μ : Mu} {h : AH} {n : Nat} {K : K3}

theorem mapO_spec {T k e : TypeId} (hm : mapO P T = some (k, e)) : P.underlying T = some (.map k e) := by
  unfold mapO at hm
  split at hm
  · cases hm; assumption
  · cases hm

theorem keyOkA_spec {kt : TypeId} {k : Value} (hk : keyOkA P kt k) : ∃ d, P.underlying kt = some d ∧ MapKept.IsKey d k := by
  cases k <;> simp only [keyOkA] at hk
  · exact ⟨_, hk, trivial⟩
  · rename_i kk m
    unfold intO at hk
    split at hk
    · rename_i q hq; cases hk; exact ⟨_, hq, rfl⟩
    · cases hk
  · exact ⟨_, hk, trivial⟩

theorem sameNow_keyB {d : TypeDesc} {a b : Value} (ha : MapKept.IsKey d a) (hb : MapKept.IsKey d b) : Instr.sameNow d a b = some (keyB a b) := by
  cases d <;> cases a <;> cases b <;> simp_all [MapKept.IsKey, Instr.sameNow, keyB]

theorem keyB_eq {d : TypeDesc} {a b : Value} (ha : MapKept.IsKey d a) (hb : MapKept.IsKey d b) : keyB a b = true ↔ a = b := by
  obtain ⟨r, h1, h2⟩ := MapKept.sameNow_of_keys ha hb
  rw [sameNow_keyB ha hb] at h1
  cases h1
  exact h2

/-- the search of the map, and of what tells it -/
theorem findNow_findA {d : TypeDesc} {k : Value} (hk : MapKept.IsKey d k) : ∀ (l : List MapEntry) (kvs : List (Value × AV)) (i : Nat), l.length = kvs.length → (∀ x ∈ kvs, MapKept.IsKey d x.1) → (∀ (j : Nat) (x : Value × AV), kvs[j]? = some x → ∃ e, l[j]? = some e ∧ e.key = x.1) →
    (findA k kvs i = none ∧ Instr.findNow d k l i = some none) ∨ ∃ j x e, findA k kvs i = some (i + j, x.2) ∧ kvs[j]? = some x ∧ l[j]? = some e ∧ Instr.findNow d k l i = some (some (i + j, e.val)) ∧ x.1 = k
  | [], [], i, _, _, _ => .inl ⟨rfl, rfl⟩
  | e :: l, [], i, h, _, _ => by simp at h
  | [], x :: kvs, i, h, _, _ => by simp at h
  | e :: l, x :: kvs, i, hl, hks, hx => by
    obtain ⟨e', he', hkey⟩ := hx 0 x rfl
    simp at he'; subst he'
    have hkx := hks x (by simp)
    have hs : Instr.sameNow d k e.key = some (keyB k x.1) := by rw [hkey]; exact sameNow_keyB hk hkx
    cases hb : keyB k x.1 with
    | true =>
      exact .inr ⟨0, x, e, by simp [findA, hb], rfl, rfl, by simp [Instr.findNow, hs, hb], ((keyB_eq hk hkx).1 hb).symm⟩
    | false =>
      rcases findNow_findA hk l kvs (i + 1) (by simpa using hl) (fun y hy => hks y (by simp [hy])) (fun j y hj => by simpa using hx (j + 1) y (by simpa using hj)) with ⟨h1, h2⟩ | ⟨j, y, e2, h1, h2, h3, h4, h5⟩
      · exact .inl ⟨by simp [findA, hb, h1], by simp [Instr.findNow, hs, hb, h2]⟩
      · exact .inr ⟨j + 1, y, e2, by simp [findA, hb, h1]; omega, by simpa using h2, by simpa using h3, by simp [Instr.findNow, hs, hb, h4]; omega, h5⟩

theorem HR.own_map (hr : HR w O μ h n) {id : Nat} {kvs : List (Value × AV)} (hB : h id = some (.map kvs)) : ∃ b es, μ id = some (b, 0) ∧ w.heap[b]? = some (.map es kvs.length) ∧ es.size = kvs.length ∧
      ∀ (i : Nat) (x : Value × AV), kvs[i]? = some x → ∃ e, es[i]? = some e ∧ e.key = x.1 ∧ e.born = i ∧ x.2.one = true ∧ VR w O μ n x.2 e.val := hr.blk id _ hB

theorem VR.mp_inv {id : Nat} {v : Value} (hv : VR w O μ n (.mp id) v) {b k : Nat} (hm : μ id = some (b, k)) : v = .map (some b) := by
  cases hv with
  | mp _ _ _ _ hv => exact hv b k hm

theorem snd_makeMap {T : TypeId} (ho : o.op = .makeMap T none) (hr : HR w O μ h n) (hk : K (.mp n) (updH h n (.map [])) (n + 1)) : OpR P o a w O μ n K := by
  have he := Evo.alloc hr (.map #[] 0) 0
  refine ⟨.map (some w.heap.size), w.alloc (.map #[] 0), updM μ n (w.heap.size, 0), .mp n, _, n + 1, .inl ?_, hk, ?_, ?_, he⟩
  · simp [execOp, ho, Instr.makeMap]
  · exact hr.alloc _ 0 _ ⟨w.heap.size, #[], by simp [updM], heap_alloc_self _ _, rfl, fun i x hi => by simp at hi⟩
  · exact .mp n _ (by omega) rfl fun b k e => by simp [updM] at e; rw [e.1]

theorem snd_lookup {T : TypeId} {m key : Operand} {ok : Bool} (ho : o.op = .lookup T m key ok) (hr : HR w O μ h n) {vm vk : AV} (hm : VR w O μ n vm (a.eval m)) (hkey : VR w O μ n vk (a.eval key)) (hk : lookupK P h T vm vk ok (fun v => K v h n)) : OpR P o a w O μ n K := by
  unfold lookupK at hk
  split at hk
  · rename_i id k kt e hT
    split at hk
    · rename_i kvs hB
      obtain ⟨hk1, hks, hk⟩ := hk
      obtain ⟨d, hd, hkd⟩ := keyOkA_spec hk1
      obtain ⟨b, es, g1, g2, g3, g4⟩ := hr.own_map hB
      have hkd' : ∀ x ∈ kvs, MapKept.IsKey d x.1 := fun x hx => by
        obtain ⟨d', h1, h2⟩ := keyOkA_spec (hks x hx)
        rw [hd] at h1; cases h1; exact h2
      have hmv := hm.mp_inv g1
      have hkv := hkey.sc_inv
      have fin : ∀ {v : AV} {u : Value} {r : Option (Nat × Value)} {t : Bool}, (Instr.findNow d k es.toList 0 = some r) → ((match r with | some (_, v) => pure (v, true) | none => do pure (← zeroValue e, false) : Sem (Value × Bool)).run P w = .ok (u, t) w) → VR w O μ n v u → K (if ok then .tp [v, .sc (.bool t)] else v) h n → OpR P o a w O μ n K := by
        intro v u r t h1 h2 h3 h4
        refine OpR.value hr (u := if ok then .tuple #[u, .bool t] else u) (v := if ok then .tp [v, .sc (.bool t)] else v) ?_ ?_ h4
        · simp only [execOp, ho, hmv, hkv]
          refine run_val ?_
          simp only [Instr.lookup, Sem.run_bind, run_underlying (mapO_spec hT), Result.andThen_ok, MapKept.run_getObj_map g2, Sem.run_pure, MapKept.run_checkKey hd hkd, MapKept.run_findKey hd h1]
          rcases r with _ | ⟨i, rv⟩
          · simp only [Sem.run_bind] at h2 ⊢
            cases hz : (zeroValue e).run P w with
            | ok z w1 =>
              rw [hz] at h2
              simp at h2 ⊢
              obtain ⟨⟨rfl, rfl⟩, rfl⟩ := h2
              simp
            | halt => rw [hz] at h2; simp [Result.andThen] at h2
          · simp at h2 ⊢
            obtain ⟨rfl, rfl⟩ := h2
            simp
        · cases ok
          · exact h3
          · exact .tp _ _ (fun j => (#[u, .bool t] : Array Value).getD j undef) rfl (fun j c hj => by match j with | 0 => simp | 1 => simp | j + 2 => simp at hj) (fun j c hj => by
              match j, hj with
              | 0, hj => simp at hj; subst hj; exact h3
              | 1, hj => simp at hj; subst hj; exact .sc _ rfl
              | j + 2, hj => simp at hj)
      rcases findNow_findA hkd es.toList kvs 0 (by simpa using g3) hkd' (fun j x hj => by
        obtain ⟨e', h1, h2, _⟩ := g4 j x hj
        exact ⟨e', by simpa using h1, h2⟩) with ⟨h1, h2⟩ | ⟨j, x, e', h1, h2, h3, h4, h5⟩
      · rw [h1] at hk
        split at hk
        · rename_i e2; cases e2
        · rename_i z _ hz
          unfold zvO at hz
          obtain ⟨ti, hi, hz⟩ := Option.bind_eq_some_iff.1 hz
          exact fin (t := false) h2 (by simp [zeroValue, typeInfo, hi, hz]) (VR.cst w O μ n z) hk
        · exact hk.elim
      · rw [h1] at hk
        simp only at hk
        obtain ⟨e2, q1, q2, q3, q4, q5⟩ := g4 j x h2
        have : e2 = e' := by rw [Array.getElem?_toList] at h3; rw [q1] at h3; cases h3; rfl
        subst this
        exact fin (t := true) h4 (by simp) q5 hk
    · exact hk.elim
  · exact hk.elim

theorem snd_mapUpdate {T : TypeId} {m key x : Operand} (ho : o.op = .mapUpdate T m key x) (hr : HR w O μ h n) {vm vk v : AV} (hm : VR w O μ n vm (a.eval m)) (hkey : VR w O μ n vk (a.eval key)) (hx : VR w O μ n v (a.eval x)) (hk : mapUpdK P h n T vm vk v K) : OpR P o a w O μ n K := by
  unfold mapUpdK at hk
  split at hk
  · rename_i id k kt e hT
    split at hk
    · rename_i kvs hB
      obtain ⟨hk1, hks, hone, hk⟩ := hk
      obtain ⟨d, hd, hkd⟩ := keyOkA_spec hk1
      obtain ⟨b, es, g1, g2, g3, g4⟩ := hr.own_map hB
      have hkd' : ∀ x ∈ kvs, MapKept.IsKey d x.1 := fun x hx => by
        obtain ⟨d', h1, h2⟩ := keyOkA_spec (hks x hx)
        rw [hd] at h1; cases h1; exact h2
      have hmv := hm.mp_inv g1
      have hkv := hkey.sc_inv
      have fin : ∀ (es' : Array MapEntry) (kvs' : List (Value × AV)), (Instr.mapUpdate T (.map (some b)) k (a.eval x)).run P w = .ok () { w with heap := w.heap.setIfInBounds b (.map es' kvs'.length) } → es'.size = kvs'.length →
          (∀ (i : Nat) (y : Value × AV), kvs'[i]? = some y → (kvs[i]? = some y ∧ ∃ e, es[i]? = some e ∧ es'[i]? = some e) ∨ (y = (k, v) ∧ ∃ e, es'[i]? = some e ∧ e.key = k ∧ e.born = i ∧ e.val = a.eval x)) → K .ud (updH h id (.map kvs')) n → OpR P o a w O μ n K := by
        intro es' kvs' hrun hsz hel hk
        have hbl : b < w.heap.size := (hr.scope id b 0 g1).2
        obtain ⟨he, hh⟩ := hr.set (w' := { w with heap := w.heap.setIfInBounds b (.map es' kvs'.length) }) id b 0 g1 (.map kvs') rfl rfl rfl (by simp) (fun i hi => by simp [Ne.symm hi]) (fun c T f hc => by rw [g2] at hc; cases hc) (fun he => by
          refine ⟨b, es', g1, by simp [hbl], hsz, fun i y hi => ?_⟩
          rcases hel i y hi with ⟨h1, e, h2, h3⟩ | ⟨rfl, e, h2, h3, h4, h5⟩
          · obtain ⟨e', q1, q2, q3, q4, q5⟩ := g4 i y h1
            rw [h2] at q1; cases q1
            exact ⟨e, h3, q2, q3, q4, q5.evo he⟩
          · exact ⟨e, h2, h3, h4, hone, by rw [h5]; exact hx.evo he⟩)
        refine ⟨undef, _, μ, .ud, _, n, .inr ⟨?_, rfl⟩, hk, hh, .ud, he⟩
        simp only [execOp, ho, hmv, hkv, Sem.run_bind, hrun, Result.andThen_ok, Sem.run_pure]
      rcases findNow_findA hkd es.toList kvs 0 (by simpa using g3) hkd' (fun j x hj => by
        obtain ⟨e', h1, h2, _⟩ := g4 j x hj
        exact ⟨e', by simpa using h1, h2⟩) with ⟨h1, h2⟩ | ⟨j, y, e', h1, h2, h3, h4, h5⟩
      · rw [h1] at hk
        refine fin (es.push { key := k, val := a.eval x, born := kvs.length }) _ ?_ (by simp [g3]) (fun i y hi => ?_) hk
        · simp [Instr.mapUpdate, run_underlying (mapO_spec hT), MapKept.run_getObj_map g2, MapKept.run_checkKey hd hkd, MapKept.run_findKey hd h2, MapKept.run_setObj_map _ g2]
        · rw [List.getElem?_append] at hi
          split at hi
          · rename_i hlt
            exact .inl ⟨hi, es[i]'(by omega), Array.getElem?_eq_getElem _, by rw [Array.getElem?_push, if_neg (by omega)]; exact Array.getElem?_eq_getElem _⟩
          · rename_i hge
            have hi0 : i - kvs.length = 0 := by
              rcases Nat.eq_zero_or_pos (i - kvs.length) with h | h
              · exact h
              · rw [List.getElem?_eq_none (by simp; omega)] at hi; cases hi
            rw [hi0] at hi; simp at hi; subst hi
            have : i = es.size := by omega
            subst this
            exact .inr ⟨rfl, { key := k, val := a.eval x, born := kvs.length }, by simp, rfl, by simp [g3], rfl⟩
      · rw [h1] at hk
        have hj : es[j]? = some e' := by simpa using h3
        have hjl := (Array.getElem?_eq_some_iff.1 hj).1
        obtain ⟨e2, q1, q2, q3, _⟩ := g4 j y h2
        rw [hj] at q1; cases q1
        simp only [Nat.zero_add] at hk h4
        have hkk : e'.key = k := by rw [q2, h5]
        refine fin (es.modify j fun e => { e with key := k, val := a.eval x }) _ ?_ (by simp [g3]) (fun i z hi => ?_) hk
        · simp [Instr.mapUpdate, run_underlying (mapO_spec hT), MapKept.run_getObj_map g2, MapKept.run_checkKey hd hkd, MapKept.run_findKey hd h4, hj, hkk, MapKept.run_keyThatStays hkd, MapKept.run_setObj_map _ g2]
        · rw [List.getElem?_set] at hi
          split at hi
          · rename_i hij
            subst hij
            split at hi
            · cases hi
              exact .inr ⟨rfl, { e' with key := k, val := a.eval x }, by rw [Array.getElem?_modify, if_pos rfl, hj]; rfl, rfl, q3, rfl⟩
            · cases hi
          · rename_i hij
            have hil := (List.getElem?_eq_some_iff.1 hi).1
            exact .inl ⟨hi, es[i]'(by omega), Array.getElem?_eq_getElem _, by rw [Array.getElem?_modify, if_neg hij]; exact Array.getElem?_eq_getElem _⟩
    · exact hk.elim
  · exact hk.elim

end
end Go.Abs
