/- Operations: what each does to an abstract state, and that the model does so (first part). -/
import Derived.Test.YtmcfapchpedbgaaZA4
namespace Go.Abs
open Go Go.RowKit

abbrev K3 := AV → AH → Nat → Prop

def OpR (P : Program) (o : Oper) (a : Act) (w : World) (O : Nat → Prop) (μ : Mu) (n : Nat) (K : K3) : Prop :=
  ∃ u w' μ' v h' n', ((execOp a.eval o).run P w = .ok (.value u) w' ∨ ((execOp a.eval o).run P w = .ok .skip w' ∧ u = undef)) ∧ K v h' n' ∧ HR w' O μ' h' n' ∧ VR w' O μ' n' v u ∧ Evo w μ n w' μ' n'

def aggO (P : Program) (T : TypeId) : Option Bool :=
  match P.underlying T with
  | some (.struct _) | some (.array _ _) => some true
  | some _ => some false
  | none => none
def fldO (P : Program) (T : TypeId) (f : Nat) : Option (Nat × TypeId) :=
  match P.underlying T with
  | some (.struct fs) => (fs[f]?).bind fun x => if P.cellsOf x.type = 0 then none else some (x.offset, x.type)
  | _ => none
def elemO (P : Program) (T : TypeId) : Option TypeId :=
  match P.underlying T with
  | some (.slice e) => some e
  | _ => none
def arrO (P : Program) (T : TypeId) : Option (Nat × TypeId) :=
  match P.underlying T with
  | some (.array m e) => some (m, e)
  | _ => none
def intO (P : Program) (T : TypeId) : Option IntKind :=
  match P.underlying T with
  | some (.int k) => some k
  | _ => none
def zeroO (P : Program) (T : TypeId) : Option (List AV) :=
  (P.info? T).bind fun i => i.zero.bind fun z => if z.cells.all (·.oneCell') && z.cells.size == i.size then some (z.cells.toList.map .sc) else none

def cellsA : AV → Option (List AV)
  | .ag cs => some cs
  | .ud | .un | .tp _ => none
  | a => some [a]

section
variable {P : Program} {o : Oper} {a : Act} {w : World} {O : Nat → Prop} {μ : Mu} {h : AH} {n : Nat} {K : K3}

theorem OpR.value {u : Value} {v : AV} (hr : HR w O μ h n) (hrun : (execOp a.eval o).run P w = .ok (.value u) w) (hv : VR w O μ n v u) (hk : K v h n) : OpR P o a w O μ n K :=
  ⟨u, w, μ, v, h, n, .inl hrun, hk, hr, hv, hr.refl⟩

theorem run_val {s : Sem Value} {u : Value} {w' : World} (h : s.run P w = .ok u w') : (do pure (Next.value (← s)) : Sem Next).run P w = .ok (.value u) w' := by simp [h]

theorem info_of_underlying {T : TypeId} {d : TypeDesc} (h : P.underlying T = some d) : ∃ i, P.info? T = some i := by
  unfold Program.underlying at h
  cases hi : P.info? T with
  | none => simp [hi] at h
  | some i => exact ⟨i, rfl⟩

theorem run_sizeOf {T : TypeId} {i : TypeInfo} (h : P.info? T = some i) (w : World) : (sizeOf T).run P w = .ok (P.cellsOf T) w := by
  simp [sizeOf, typeInfo, h, Program.cellsOf]

theorem run_isAgg {T : TypeId} {x : Bool} (h : aggO P T = some x) (w : World) : (isAgg T).run P w = .ok x w := by
  unfold aggO at h
  unfold isAgg
  split at h
  · rename_i hd; cases h; simp [run_underlying hd]
  · rename_i hd; cases h; simp [run_underlying hd]
  · rename_i d h1 h2 hd
    cases h
    rw [Sem.run_bind, run_underlying hd]
    simp only [Result.andThen_ok]
    rfl
  · cases h

theorem aggO_info {T : TypeId} {x : Bool} (h : aggO P T = some x) : ∃ i, P.info? T = some i := by
  unfold aggO at h
  split at h
  · rename_i hd; exact info_of_underlying hd
  · rename_i hd; exact info_of_underlying hd
  · rename_i hd; exact info_of_underlying hd
  · cases h

/-! ### load -/
def loadK (P : Program) (h : AH) (n : Nat) (T : TypeId) (cs : List AV) (K : K3) : Prop :=
  match aggO P T with
  | some true => P.cellsOf T ≤ cs.length ∧ K (.ag (cs.take (P.cellsOf T))) h n
  | some false => ∃ c, cs[0]? = some c ∧ K c h n
  | none => False

theorem snd_load {T : TypeId} {x : Operand} (ho : o.op = .load T x) (hr : HR w O μ h n) {p : AV} (hp : VR w O μ n p (a.eval x)) {cs : List AV} (hd : deref h p = some cs) (hk : loadK P h n T cs K) : OpR P o a w O μ n K := by
  obtain ⟨b, off, hv, hrd⟩ := deref_sound hr hp hd
  unfold loadK at hk
  split at hk
  · rename_i hagg
    obtain ⟨hle, hk⟩ := hk
    obtain ⟨i, hi⟩ := aggO_info hagg
    obtain ⟨vals, h1, h2, h3, h4⟩ := (hrd.take (P.cellsOf T)).vals
    have hlen : vals.length = P.cellsOf T := by rw [h1, List.length_take]; omega
    refine OpR.value hr (u := .agg vals.toArray) (v := .ag (cs.take (P.cellsOf T))) ?_ ?_ hk
    · simp only [execOp, ho, hv]
      refine run_val ?_
      simp only [Instr.loadAt, Instr.sureAddr, pure_bind, loadVar, Sem.run_bind, run_isAgg hagg, Result.andThen_ok, if_true, run_sizeOf hi, loadCells_run h2 hlen, Sem.run_pure]
    · exact VR.ag_of h1 (fun j c hj => (hrd.take (P.cellsOf T) j c hj).1) h4
  · rename_i hagg
    obtain ⟨c, hc, hk⟩ := hk
    obtain ⟨h1, u, h2, h3⟩ := hrd 0 c hc
    refine OpR.value hr (u := u) ?_ h3 hk
    simp only [execOp, ho, hv]
    refine run_val ?_
    simp only [Nat.add_zero] at h2
    simp [Instr.loadAt, Instr.sureAddr, loadVar, run_isAgg hagg, h2]
  · exact hk.elim

/-! ### move, assign, pick -/
theorem snd_move {x : Operand} (ho : o.op = .move x ∨ o.op = .assign x) (hr : HR w O μ h n) {v : AV} (hv : VR w O μ n v (a.eval x)) (hk : K v h n) : OpR P o a w O μ n K := by
  refine OpR.value hr (u := a.eval x) ?_ hv hk
  rcases ho with ho | ho <;> simp [execOp, ho]

theorem snd_pick {c x y : Operand} (ho : o.op = .pick c x y) (hr : HR w O μ h n) {t : Bool} {v1 v2 : AV} (hc : VR w O μ n (.sc (.bool t)) (a.eval c)) (h1 : VR w O μ n v1 (a.eval x)) (h2 : VR w O μ n v2 (a.eval y))
    (hk : K (if t then v1 else v2) h n) : OpR P o a w O μ n K := by
  refine OpR.value hr (u := if t then a.eval x else a.eval y) ?_ (by cases t <;> assumption) hk
  simp [execOp, ho, hc.bool_inv, asBool]

/-! ### cells of a value -/
theorem cellsA_sound {v : AV} {u : Value} (hv : VR w O μ n v u) {cs : List AV} (hc : cellsA v = some cs) : u.cells.size = cs.length ∧ (∀ x ∈ u.cells.toList, x.oneCell' = true) ∧
    ∀ (j : Nat) (c : AV), cs[j]? = some c → c.one = true ∧ ∃ y, u.cells[j]? = some y ∧ VR w O μ n c y := by
  have single : ∀ {v : AV} {u : Value}, VR w O μ n v u → v.one = true → u.cells.size = [v].length ∧ (∀ x ∈ u.cells.toList, x.oneCell' = true) ∧ ∀ (j : Nat) (c : AV), [v][j]? = some c → c.one = true ∧ ∃ y, u.cells[j]? = some y ∧ VR w O μ n c y := by
    intro v u hv h1
    have h1' := hv.one h1
    have hcu : u.cells = #[u] := by cases u <;> first | rfl | (simp [Value.oneCell'] at h1'; done)
    rw [hcu]
    refine ⟨rfl, fun x hx => by simp at hx; subst hx; exact h1', fun j c hj => ?_⟩
    cases j with
    | zero => simp at hj; subst hj; exact ⟨h1, u, rfl, hv⟩
    | succ j => simp at hj
  have hv0 := hv
  cases hv with
  | ag cs' vs us hs hcc h1 hr' =>
    simp only [cellsA, Option.some.injEq] at hc
    subst hc
    refine ⟨hs, fun x hx => ?_, fun j c hj => ⟨h1 j c hj, us j, hcc j c hj, hr' j c hj⟩⟩
    obtain ⟨j, hj, rfl⟩ := List.getElem_of_mem hx
    simp only [Value.cells, Array.length_toList] at hj
    have hj' : j < cs'.length := by omega
    have := hcc j cs'[j] (List.getElem?_eq_getElem hj')
    have h2 := (hr' j cs'[j] (List.getElem?_eq_getElem hj')).one (h1 j _ (List.getElem?_eq_getElem hj'))
    simp only [Value.cells, Array.getElem_toList]
    rw [Array.getElem?_eq_getElem hj] at this
    rw [Option.some.inj this]
    exact h2
  | ud => simp [cellsA] at hc
  | un _ => simp [cellsA] at hc
  | tp _ _ _ _ _ _ => simp [cellsA] at hc
  | sc _ h1 => simp only [cellsA, Option.some.injEq] at hc; subst hc; exact single hv0 h1
  | _ => simp only [cellsA, Option.some.injEq] at hc; subst hc; exact single hv0 rfl

/-! ### new blocks -/
/-- A new block of one element per entry. -/
theorem new_block (hr : HR w O μ h n) (T : TypeId) (c : Array Value) (k : Nat) (es : List (List AV))
    (hes : ∀ (i : Nat) (e : List AV), es[i]? = some e → e.length = k ∧ ∀ (j : Nat) (x : AV), e[j]? = some x → x.one = true ∧ ∃ u, c[i * k + j]? = some u ∧ VR w O μ n x u) :
    Evo w μ n (w.alloc (.cells c T)) (updM μ n (w.heap.size, k)) (n + 1) ∧ HR (w.alloc (.cells c T)) O (updM μ n (w.heap.size, k)) (updH h n (.cells k T es)) (n + 1) := by
  have he := Evo.alloc hr (.cells c T) k
  refine ⟨he, hr.alloc _ k _ ⟨w.heap.size, c, by simp [updM], heap_alloc_self _ _, fun i e hi => ⟨(hes i e hi).1, fun j x hj => ?_⟩⟩⟩
  obtain ⟨h1, u, h2, h3⟩ := (hes i e hi).2 j x hj
  exact ⟨h1, u, h2, h3.evo he⟩

theorem VR.own_new (w : World) (O : Nat → Prop) (μ : Mu) (n : Nat) (c : Array Value) (T : TypeId) (k : Nat) : VR (w.alloc (.cells c T)) O (updM μ n (w.heap.size, k)) (n + 1) (.own n 0 0) (.pointer (some ⟨w.heap.size, 0, none⟩)) := by
  refine .own n 0 0 _ (by omega) rfl fun b k' e => ?_
  simp [updM] at e
  obtain ⟨rfl, rfl⟩ := e
  simp

theorem snd_box {T : TypeId} {x : Operand} (ho : o.op = .box T x) (hr : HR w O μ h n) {v : AV} (hv : VR w O μ n v (a.eval x)) {cs : List AV} (hc : cellsA v = some cs)
    (hk : K (.own n 0 0) (updH h n (.cells cs.length T [cs])) (n + 1)) : OpR P o a w O μ n K := by
  obtain ⟨h1, _, h2⟩ := cellsA_sound hv hc
  obtain ⟨he, hh⟩ := new_block hr T (a.eval x).cells cs.length [cs] (fun i e hi => by
    cases i with
    | zero => simp at hi; subst hi; exact ⟨rfl, fun j y hj => by simpa using h2 j y hj⟩
    | succ i => simp at hi)
  refine ⟨_, _, _, _, _, _, .inl ?_, hk, hh, VR.own_new w O μ n _ T cs.length, he⟩
  simp [execOp, ho, Instr.box, newVar, newRow]

theorem snd_alloc {T : TypeId} (ho : o.op = .alloc T) (hr : HR w O μ h n) {z : List AV} (hz : zeroO P T = some z)
    (hk : K (.own n 0 0) (updH h n (.cells z.length T [z])) (n + 1)) : OpR P o a w O μ n K := by
  unfold zeroO at hz
  simp only [Option.bind_eq_some_iff] at hz
  obtain ⟨i, hi, zv, hzv, hz⟩ := hz
  split at hz
  · rename_i hall
    cases hz
    simp only [Bool.and_eq_true, Array.all_eq_true_iff_forall_mem] at hall
    obtain ⟨he, hh⟩ := new_block hr T zv.cells (zv.cells.toList.map AV.sc).length [zv.cells.toList.map .sc] (fun i e hi => by
      cases i with
      | zero =>
        simp at hi; subst hi
        refine ⟨rfl, fun j y hj => ?_⟩
        simp only [List.getElem?_map, Option.map_eq_some_iff] at hj
        obtain ⟨x, hx, rfl⟩ := hj
        simp only [Array.getElem?_toList] at hx
        have h1 := hall.1 x (Array.mem_of_getElem? hx)
        exact ⟨h1, x, by simpa using hx, .sc x h1⟩
      | succ i => simp at hi)
    refine ⟨_, _, _, _, _, _, .inl ?_, hk, hh, VR.own_new w O μ n _ T _, he⟩
    simp [execOp, ho, Instr.alloc, zeroValue, typeInfo, hi, hzv, newVar, newRow]
  · cases hz

end
end Go.Abs
