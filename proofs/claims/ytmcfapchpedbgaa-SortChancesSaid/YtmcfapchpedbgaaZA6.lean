/- Operations, second part: addresses, fields, numbers, tests. -/
import Derived.Test.YtmcfapchpedbgaaZA5
namespace Go.Abs
open Go Go.RowKit

section
variable {P : Program} {o : Oper} {a : Act} {w : World} {O : Nat → Prop} {μ : Mu} {h : AH} {n : Nat} {K : K3}

theorem VR.int_inv {k : IntKind} {x : Int} {u : Value} (hv : VR w O μ n (.sc (.int k x)) u) : u = .int k x := by cases hv; rfl
theorem VR.sc_inv {x u : Value} (hv : VR w O μ n (.sc x) u) : u = x := by cases hv; rfl

/-! ### fieldAddr -/
theorem fldO_spec {T : TypeId} {f d : Nat} {t : TypeId} (hf : fldO P T f = some (d, t)) : ∃ fs x, P.underlying T = some (.struct fs) ∧ fs[f]? = some x ∧ x.offset = d ∧ x.type = t ∧ P.cellsOf t ≠ 0 := by
  unfold fldO at hf
  split at hf
  · rename_i fs hd
    cases hx : fs[f]? with
    | none => simp [hx] at hf
    | some x =>
      simp [hx] at hf
      obtain ⟨h1, h2, h3⟩ := hf
      exact ⟨fs, x, hd, hx, h2, h3, by rw [← h3]; exact h1⟩
  · cases hf

theorem info_of_cells {T : TypeId} (hc : P.cellsOf T ≠ 0) : ∃ i, P.info? T = some i := by
  unfold Program.cellsOf at hc
  cases hi : P.info? T with
  | none => simp [hi] at hc
  | some i => exact ⟨i, rfl⟩

theorem run_fieldAt {T : TypeId} {f d : Nat} {t : TypeId} (hf : fldO P T f = some (d, t)) (b off : Nat) (w : World) : (Instr.fieldAt T (.pointer (some ⟨b, off, none⟩)) f).run P w = .ok (.pointer (some ⟨b, off + d, none⟩)) w := by
  obtain ⟨fs, x, h1, h2, h3, h4, h5⟩ := fldO_spec hf
  obtain ⟨i, hi⟩ := info_of_cells h5
  subst h4
  simp [Instr.fieldAt, run_underlying h1, h2, Instr.sureAddr, fieldPlace, run_sizeOf hi, h5, add_mk, h3]

theorem snd_fieldAddr_fp {T : TypeId} {x : Operand} {f d : Nat} {t : TypeId} (ho : o.op = .fieldAddr T x f) (hr : HR w O μ h n) (hf : fldO P T f = some (d, t)) {cs : List AV} (hv : VR w O μ n (.fp cs) (a.eval x))
    (hk : K (.fp (cs.drop d)) h n) : OpR P o a w O μ n K := by
  generalize hu : a.eval x = u at hv
  cases hv with
  | fp _ b off us hA hc h1 hr' =>
    refine OpR.value hr (u := .pointer (some ⟨b, off + d, none⟩)) ?_ ?_ hk
    · simp only [execOp, ho, hu]
      exact run_val (run_fieldAt hf b off w)
    · refine .fp _ b (off + d) (fun j => us (d + j)) (fun hne => hA (by rintro rfl; simp at hne)) (fun j c hj => ?_) (fun j c hj => ?_) (fun j c hj => ?_)
      · rw [List.getElem?_drop] at hj; rw [Nat.add_assoc]; exact hc _ c hj
      · rw [List.getElem?_drop] at hj; exact h1 _ c hj
      · rw [List.getElem?_drop] at hj; exact hr' _ c hj

theorem live_own (hr : HR w O μ h n) {id k : Nat} {T : TypeId} {es : List (List AV)} (hB : h id = some (.cells k T es)) {i j : Nat} {u : Value} (hv : VR w O μ n (.own id i j) u) :
    ∃ b c, μ id = some (b, k) ∧ w.heap[b]? = some (.cells c T (0, 0)) ∧ u = .pointer (some ⟨b, i * k + j, none⟩) ∧ id < n := by
  obtain ⟨b, c, h1, h2, h3⟩ := hr.own_cells hB
  cases hv with
  | own _ _ _ _ hi h1' hv => exact ⟨b, c, h1, h2, hv b k h1, hi⟩

theorem VR.own_mk (hr : HR w O μ h n) {id b k i j : Nat} (hm : μ id = some (b, k)) : VR w O μ n (.own id i j) (.pointer (some ⟨b, i * k + j, none⟩)) :=
  .own id i j _ (hr.scope id b k hm).1 rfl fun b' k' e => by rw [hm] at e; cases e; rfl

theorem snd_fieldAddr_own {T : TypeId} {x : Operand} {f d : Nat} {t : TypeId} (ho : o.op = .fieldAddr T x f) (hr : HR w O μ h n) (hf : fldO P T f = some (d, t)) {id i j k : Nat} {T' : TypeId} {es : List (List AV)}
    (hB : h id = some (.cells k T' es)) (hv : VR w O μ n (.own id i j) (a.eval x)) (hk : K (.own id i (j + d)) h n) : OpR P o a w O μ n K := by
  obtain ⟨b, c, h1, h2, h3, h4⟩ := live_own hr hB hv
  refine OpR.value hr (u := .pointer (some ⟨b, i * k + j + d, none⟩)) ?_ ?_ hk
  · simp only [execOp, ho, h3]
    exact run_val (run_fieldAt hf b _ w)
  · rw [Nat.add_assoc]; exact VR.own_mk hr h1

/-! ### indexAddr -/
theorem elemO_spec {T e : TypeId} (he : elemO P T = some e) : P.underlying T = some (.slice e) := by
  unfold elemO at he
  split at he
  · cases he; assumption
  · cases he
theorem arrO_spec {T e : TypeId} {m : Nat} (he : arrO P T = some (m, e)) : P.underlying T = some (.array m e) := by
  unfold arrO at he
  split at he
  · cases he; assumption
  · cases he

theorem run_indexAt_sl {T e : TypeId} (he : elemO P T = some e) {ie : TypeInfo} (hi : P.info? e = some ie) (b off len cap : Nat) (k : IntKind) (i : Int) (h0 : 0 ≤ i) (h1 : i < len) (w : World) :
    (Instr.indexAt T (.slice (some ⟨b, off, none⟩) len cap) (.int k i)).run P w = .ok (.pointer (some ⟨b, off + i.toNat * P.cellsOf e, none⟩)) w := by
  have hs := elemO_spec he
  simp [Instr.indexAt, run_underlying hs, asIntOf, h0, h1, run_sizeOf hi, add_mk]

theorem snd_indexAddr_sl {T e : TypeId} {x y : Operand} (ho : o.op = .indexAddr T x y) (hr : HR w O μ h n) (he : elemO P T = some e) {es : List (List AV)} (hv : VR w O μ n (.sl es) (a.eval x))
    {k : IntKind} {i : Int} (hi : VR w O μ n (.sc (.int k i)) (a.eval y)) (h0 : 0 ≤ i) {c : List AV} (hc : es[i.toNat]? = some c) (hlen : c.length = P.cellsOf e) (hne : c.length ≠ 0) (hk : K (.fp c) h n) : OpR P o a w O μ n K := by
  generalize hu : a.eval x = u at hv
  obtain ⟨ie, hie⟩ := info_of_cells (P := P) (T := e) (by omega)
  have hlt : i.toNat < es.length := (List.getElem?_eq_some_iff.1 hc).1
  cases hv with
  | slnil => simp at hlt
  | sl _ b off cap kk us hcap hmax hA hkk hcc h1 hr' =>
    have hkc := hkk _ _ hc
    refine OpR.value hr (u := .pointer (some ⟨b, off + i.toNat * P.cellsOf e, none⟩)) ?_ ?_ hk
    · simp only [execOp, ho, hu, hi.int_inv]
      exact run_val (run_indexAt_sl he hie b off _ cap k i h0 (by omega) w)
    · rw [← hlen, hkc]
      exact .fp c b _ (us i.toNat) (fun hn => hA _ c hc hn) (fun j y hj => hcc _ c hc j y hj) (fun j y hj => h1 _ c hc j y hj) (fun j y hj => hr' _ c hc j y hj)

theorem live_ms (hr : HR w O μ h n) {id k off len : Nat} {T : TypeId} {es : List (List AV)} (hB : h id = some (.cells k T es)) {u : Value} (hv : VR w O μ n (.ms id off len) u) :
    ∃ b c oo cap, μ id = some (b, k) ∧ w.heap[b]? = some (.cells c T (0, 0)) ∧ u = .slice (some ⟨b, oo, none⟩) len cap ∧ id < n ∧ len ≤ cap ∧ cap ≤ maxLen ∧ (cap ≠ 0 → oo = off * k) ∧ (off + cap) * k = c.size := by
  obtain ⟨b, c, h1, h2, h3⟩ := hr.own_cells hB
  cases hv with
  | ms _ _ _ _ hi h1' hv =>
    obtain ⟨oo, cap, c', T', g1, g2, g3, g4, g5, g6⟩ := hv b k h1
    rw [h2] at g5
    simp only [Option.some.injEq, Obj.cells.injEq] at g5
    obtain ⟨rfl, rfl, _⟩ := g5
    exact ⟨b, c, oo, cap, h1, h2, g1, hi, g2, g3, g4, g6⟩

theorem snd_indexAddr_ms {T e : TypeId} {x y : Operand} (ho : o.op = .indexAddr T x y) (hr : HR w O μ h n) (he : elemO P T = some e) {id off len kk : Nat} {T' : TypeId} {es : List (List AV)} (hB : h id = some (.cells kk T' es))
    (hkk : kk = P.cellsOf e) (hne : kk ≠ 0) (hv : VR w O μ n (.ms id off len) (a.eval x))
    {k : IntKind} {i : Int} (hi : VR w O μ n (.sc (.int k i)) (a.eval y)) (h0 : 0 ≤ i) (h1 : i < len) (hk : K (.own id (off + i.toNat) 0) h n) : OpR P o a w O μ n K := by
  obtain ⟨b, c, oo, cap, g1, g2, g3, g4, g5, g6, g7, g8⟩ := live_ms hr hB hv
  obtain ⟨ie, hie⟩ := info_of_cells (P := P) (T := e) (by omega)
  refine OpR.value hr (u := .pointer (some ⟨b, oo + i.toNat * P.cellsOf e, none⟩)) ?_ ?_ hk
  · simp only [execOp, ho, g3, hi.int_inv]
    exact run_val (run_indexAt_sl he hie b oo len cap k i h0 h1 w)
  · rw [g7 (by omega), ← hkk, ← Nat.add_mul]
    exact VR.own_mk (i := off + i.toNat) (j := 0) hr g1

theorem run_indexAt_arr {T e : TypeId} {m : Nat} (he : arrO P T = some (m, e)) {ie : TypeInfo} (hi : P.info? e = some ie) (b off : Nat) (k : IntKind) (i : Int) (h0 : 0 ≤ i) (h1 : i < m) (w : World) :
    (Instr.indexAt T (.pointer (some ⟨b, off, none⟩)) (.int k i)).run P w = .ok (.pointer (some ⟨b, off + i.toNat * P.cellsOf e, none⟩)) w := by
  have hs := arrO_spec he
  simp [Instr.indexAt, run_underlying hs, asIntOf, h0, h1, run_sizeOf hi, add_mk, Instr.sureAddr]

theorem snd_indexAddr_arr_own {T e : TypeId} {m : Nat} {x y : Operand} (ho : o.op = .indexAddr T x y) (hr : HR w O μ h n) (he : arrO P T = some (m, e)) (hne : P.cellsOf e ≠ 0) {id i0 j0 kk : Nat} {T' : TypeId} {es : List (List AV)} (hB : h id = some (.cells kk T' es))
    (hv : VR w O μ n (.own id i0 j0) (a.eval x)) {k : IntKind} {i : Int} (hi : VR w O μ n (.sc (.int k i)) (a.eval y)) (h0 : 0 ≤ i) (h1 : i < m) (hk : K (.own id i0 (j0 + i.toNat * P.cellsOf e)) h n) : OpR P o a w O μ n K := by
  obtain ⟨b, c, g1, g2, g3, g4⟩ := live_own hr hB hv
  obtain ⟨ie, hie⟩ := info_of_cells hne
  refine OpR.value hr (u := .pointer (some ⟨b, i0 * kk + j0 + i.toNat * P.cellsOf e, none⟩)) ?_ ?_ hk
  · simp only [execOp, ho, g3, hi.int_inv]
    exact run_val (run_indexAt_arr he hie b _ k i h0 h1 w)
  · rw [Nat.add_assoc]; exact VR.own_mk hr g1

theorem snd_indexAddr_arr_fp {T e : TypeId} {m : Nat} {x y : Operand} (ho : o.op = .indexAddr T x y) (hr : HR w O μ h n) (he : arrO P T = some (m, e)) (hne : P.cellsOf e ≠ 0) {cs : List AV}
    (hv : VR w O μ n (.fp cs) (a.eval x)) {k : IntKind} {i : Int} (hi : VR w O μ n (.sc (.int k i)) (a.eval y)) (h0 : 0 ≤ i) (h1 : i < m) (hk : K (.fp (cs.drop (i.toNat * P.cellsOf e))) h n) : OpR P o a w O μ n K := by
  generalize hu : a.eval x = u at hv
  obtain ⟨ie, hie⟩ := info_of_cells hne
  cases hv with
  | fp _ b off us hA hc hh1 hr' =>
    refine OpR.value hr (u := .pointer (some ⟨b, off + i.toNat * P.cellsOf e, none⟩)) ?_ ?_ hk
    · simp only [execOp, ho, hu, hi.int_inv]
      exact run_val (run_indexAt_arr he hie b off k i h0 h1 w)
    · refine .fp _ b _ (fun j => us (i.toNat * P.cellsOf e + j)) (fun hne => hA (by rintro rfl; simp at hne)) (fun j c hj => ?_) (fun j c hj => ?_) (fun j c hj => ?_)
      · rw [List.getElem?_drop] at hj; rw [Nat.add_assoc]; exact hc _ c hj
      · rw [List.getElem?_drop] at hj; exact hh1 _ c hj
      · rw [List.getElem?_drop] at hj; exact hr' _ c hj

/-! ### index, field, extract: parts of a value -/
theorem VR.ag_cells {cs : List AV} {u : Value} (hv : VR w O μ n (.ag cs) u) : ∃ vs, u = .agg vs ∧ vs.size = cs.length ∧ ∀ (j : Nat) (c : AV), cs[j]? = some c → c.one = true ∧ ∃ y, vs[j]? = some y ∧ VR w O μ n c y := by
  cases hv with
  | ag _ vs us hs hc h1 hr' => exact ⟨vs, rfl, hs, fun j c hj => ⟨h1 j c hj, us j, hc j c hj, hr' j c hj⟩⟩

def partK (P : Program) (t : TypeId) (cs : List AV) (d : Nat) (K : AV → Prop) : Prop :=
  match aggO P t with
  | some true => K (.ag ((cs.drop d).take (P.cellsOf t)))
  | some false => ∃ c, cs[d]? = some c ∧ K c
  | none => False

theorem part_sound {t : TypeId} {cs : List AV} {vs : Array Value} {d : Nat} {K' : AV → Prop} (hs : vs.size = cs.length) (hc : ∀ (j : Nat) (c : AV), cs[j]? = some c → c.one = true ∧ ∃ y, vs[j]? = some y ∧ VR w O μ n c y) (hk : partK P t cs d K') :
    ∃ u v, (part t vs d).run P w = .ok u w ∧ K' v ∧ VR w O μ n v u := by
  unfold partK at hk
  split at hk
  · rename_i hagg
    obtain ⟨i, hi⟩ := aggO_info hagg
    refine ⟨.agg (vs.extract d (d + P.cellsOf t)), _, ?_, hk, ?_⟩
    · simp [part, run_isAgg hagg, run_sizeOf hi]
    · refine .ag _ _ (fun j => vs.getD (d + j) undef) ?_ (fun j c hj => ?_) (fun j c hj => ?_) (fun j c hj => ?_)
      · simp [hs]; omega
      all_goals
        rw [List.getElem?_take] at hj
        split at hj
        case isFalse => cases hj
        rw [List.getElem?_drop] at hj
        obtain ⟨h1, y, h2, h3⟩ := hc _ c hj
      · have hlt := (Array.getElem?_eq_some_iff.1 h2).1
        rw [Array.getElem?_extract]
        rw [if_pos (by omega), Array.getD_eq_getD_getElem?, h2]; rfl
      · exact h1
      · rw [Array.getD_eq_getD_getElem?, h2]; exact h3
  · rename_i hagg
    obtain ⟨c, hcd, hk⟩ := hk
    obtain ⟨h1, y, h2, h3⟩ := hc d c hcd
    refine ⟨y, c, ?_, hk, h3⟩
    simp [part, run_isAgg hagg, h2]
  · exact hk.elim

theorem snd_field {T : TypeId} {x : Operand} {f d : Nat} {t : TypeId} (ho : o.op = .field T x f) (hr : HR w O μ h n) (hf : fldO P T f = some (d, t)) {cs : List AV} (hv : VR w O μ n (.ag cs) (a.eval x))
    (hk : partK P t cs d (fun v => K v h n)) : OpR P o a w O μ n K := by
  obtain ⟨fs, x', h1, h2, h3, h4, h5⟩ := fldO_spec hf
  obtain ⟨vs, hu, hs, hc⟩ := hv.ag_cells
  obtain ⟨u, v, g1, g2, g3⟩ := part_sound hs hc hk
  refine OpR.value hr (u := u) ?_ g3 g2
  simp only [execOp, ho, hu]
  refine run_val ?_
  subst h3 h4
  simp [Instr.field, run_underlying h1, h2, asAgg, g1]

theorem snd_index_arr {T e : TypeId} {m : Nat} {x y : Operand} (ho : o.op = .index T x y) (hr : HR w O μ h n) (he : arrO P T = some (m, e)) (hne : P.cellsOf e ≠ 0) {cs : List AV} (hv : VR w O μ n (.ag cs) (a.eval x))
    {k : IntKind} {i : Int} (hi : VR w O μ n (.sc (.int k i)) (a.eval y)) (h0 : 0 ≤ i) (h1 : i < m) (hk : partK P e cs (i.toNat * P.cellsOf e) (fun v => K v h n)) : OpR P o a w O μ n K := by
  obtain ⟨vs, hu, hs, hc⟩ := hv.ag_cells
  obtain ⟨u, v, g1, g2, g3⟩ := part_sound hs hc hk
  obtain ⟨ie, hie⟩ := info_of_cells hne
  have hs' := arrO_spec he
  refine OpR.value hr (u := u) ?_ g3 g2
  simp only [execOp, ho, hu, hi.int_inv]
  refine run_val ?_
  simp [Instr.index, run_underlying hs', asIntOf, h0, h1, run_sizeOf hie, g1]

theorem snd_index_str {T : TypeId} {x y : Operand} (ho : o.op = .index T x y) (hr : HR w O μ h n) (he : P.underlying T = some .string) {s : ByteArray} (hv : VR w O μ n (.sc (.string s)) (a.eval x))
    {k : IntKind} {i : Int} (hi : VR w O μ n (.sc (.int k i)) (a.eval y)) (h0 : 0 ≤ i) {b : UInt8} (hb : s[i.toNat]? = some b) (hk : K (.sc (.int .u8 b.toNat)) h n) : OpR P o a w O μ n K := by
  refine OpR.value hr (u := .int .u8 b.toNat) ?_ (.sc _ rfl) hk
  simp only [execOp, ho, hv.sc_inv, hi.int_inv]
  refine run_val ?_
  simp [Instr.index, run_underlying he, asIntOf, h0, hb]

theorem snd_extract {x : Operand} {i : Nat} (ho : o.op = .extract x i) (hr : HR w O μ h n) {cs : List AV} (hv : VR w O μ n (.tp cs) (a.eval x)) {c : AV} (hc : cs[i]? = some c) (hk : K c h n) : OpR P o a w O μ n K := by
  generalize hu : a.eval x = u at hv
  cases hv with
  | tp _ vs us hs hcc hr' =>
    refine OpR.value hr (u := us i) ?_ (hr' i c hc) hk
    simp only [execOp, ho, hu]
    refine run_val ?_
    simp [Instr.extract, hcc i c hc]

/-! ### makeFunc, nilCheck, unary -/
theorem snd_makeFunc {f : FuncId} {caps : Array Operand} (ho : o.op = .makeFunc (.func f) #[] caps) (hr : HR w O μ h n) {env : Env} (hv : ∀ x, VR w O μ n (ev env x) (a.eval x)) (hk : K (.fn f (caps.toList.map (ev env))) h n) : OpR P o a w O μ n K := by
  refine OpR.value hr (u := .func (.func f) #[] (caps.map a.eval)) ?_ ?_ hk
  · simp [execOp, ho, Instr.makeFunc]
  · refine .fn f _ _ (fun j => (caps.map a.eval).getD j undef) (by simp) (fun j c hj => ?_) (fun j c hj => ?_)
    all_goals
      simp only [List.getElem?_map, Option.map_eq_some_iff] at hj
      obtain ⟨x, hx, rfl⟩ := hj
      simp only [Array.getElem?_toList] at hx
    · simp [hx]
    · simp only [Array.getD_eq_getD_getElem?, Array.getElem?_map, hx, Option.map_some, Option.getD_some]; exact hv x

theorem snd_nilCheck_fp {x : Operand} (ho : o.op = .nilCheck x) (hr : HR w O μ h n) {cs : List AV} (hv : VR w O μ n (.fp cs) (a.eval x)) (hk : K (.fp cs) h n) : OpR P o a w O μ n K := by
  have hv0 := hv
  generalize hu : a.eval x = u at hv
  cases hv with
  | fp _ b off us hA hc hh1 hr' =>
    rw [hu] at hv0
    refine OpR.value hr ?_ hv0 hk
    simp [execOp, ho, hu]

theorem snd_nilCheck_own {x : Operand} (ho : o.op = .nilCheck x) (hr : HR w O μ h n) {id i j k : Nat} {T : TypeId} {es : List (List AV)} (hB : h id = some (.cells k T es)) (hv : VR w O μ n (.own id i j) (a.eval x)) (hk : K (.own id i j) h n) : OpR P o a w O μ n K := by
  obtain ⟨b, c, g1, g2, g3, g4⟩ := live_own hr hB hv
  refine OpR.value hr (u := a.eval x) ?_ hv hk
  simp [execOp, ho, g3]

theorem snd_nilCheck_fn {x : Operand} (ho : o.op = .nilCheck x) (hr : HR w O μ h n) {f : FuncId} {caps : List AV} (hv : VR w O μ n (.fn f caps) (a.eval x)) (hk : K (.fn f caps) h n) : OpR P o a w O μ n K := by
  have hv0 := hv
  generalize hu : a.eval x = u at hv
  cases hv with
  | fn _ _ vs us _ _ _ =>
    rw [hu] at hv0
    refine OpR.value hr ?_ hv0 hk
    simp [execOp, ho, hu]

theorem snd_not {x : Operand} (t : TypeId) (ho : o.op = .unOp .not t x) (hr : HR w O μ h n) {b : Bool} (hv : VR w O μ n (.sc (.bool b)) (a.eval x)) (hk : K (.sc (.bool (!b))) h n) : OpR P o a w O μ n K := by
  refine OpR.value hr (u := .bool !b) ?_ (.sc _ rfl) hk
  simp [execOp, ho, hv.bool_inv, Op.unary]
theorem snd_neg {x : Operand} (t : TypeId) (ho : o.op = .unOp .neg t x) (hr : HR w O μ h n) {k : IntKind} {i : Int} (hv : VR w O μ n (.sc (.int k i)) (a.eval x)) (hk : K (.sc (.int k (k.wrap (0 - i)))) h n) : OpR P o a w O μ n K := by
  refine OpR.value hr (u := .int k (k.wrap (0 - i))) ?_ (.sc _ rfl) hk
  simp [execOp, ho, hv.int_inv, Op.unary, Op.intArith]

theorem snd_convert_int {S T : TypeId} {x : Operand} (ho : o.op = .convert S T x) (hr : HR w O μ h n) {k k' : IntKind} {i : Int} (hS : (P.underlying S).isSome = true) (hT : intO P T = some k') (hv : VR w O μ n (.sc (.int k i)) (a.eval x))
    (hk : K (.sc (.int k' (k'.wrap i))) h n) : OpR P o a w O μ n K := by
  have hT' : P.underlying T = some (.int k') := by
    unfold intO at hT; split at hT
    · cases hT; assumption
    · cases hT
  obtain ⟨d, hd⟩ := Option.isSome_iff_exists.1 hS
  refine OpR.value hr (u := .int k' (k'.wrap i)) ?_ (.sc _ rfl) hk
  simp only [execOp, ho, hv.int_inv]
  exact run_val (by simp [convert, run_underlying hd, run_underlying hT', Conv.intToInt])

theorem snd_convert_sc {S T : TypeId} {x : Operand} (ho : o.op = .convert S T x) (hr : HR w O μ h n) {u v' : Value} (hv : VR w O μ n (.sc u) (a.eval x)) (hc : ∀ w, (convert S T u).run P w = .ok v' w) (h1 : v'.oneCell' = true)
    (hk : K (.sc v') h n) : OpR P o a w O μ n K := by
  refine OpR.value hr (u := v') ?_ (.sc _ h1) hk
  simp only [execOp, ho, hv.sc_inv]
  exact run_val (hc w)

end
end Go.Abs
