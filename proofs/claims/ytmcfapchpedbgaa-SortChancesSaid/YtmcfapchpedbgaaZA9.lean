/- Operations, fifth part: new slices and structs, append, copy. -/
import Derived.Test.YtmcfapchpedbgaaZA8
namespace Go.Abs
open Go Go.RowKit

section
variable {P : Program} {o : Oper} {a : Act} {w : World} {O : Nat → Prop} {μ : Mu} {h : AH} {n : Nat} {K : K3}

theorem zeroO_spec {T : TypeId} {z : List AV} (hz : zeroO P T = some z) : ∃ i zv, P.info? T = some i ∧ i.zero = some zv ∧ z = zv.cells.toList.map .sc ∧ (∀ x ∈ zv.cells.toList, x.oneCell' = true) ∧ zv.cells.size = i.size ∧ P.cellsOf T = z.length := by
  unfold zeroO at hz
  simp only [Option.bind_eq_some_iff] at hz
  obtain ⟨i, hi, zv, hzv, hz⟩ := hz
  split at hz
  · rename_i hall
    cases hz
    simp only [Bool.and_eq_true, Array.all_eq_true_iff_forall_mem, beq_iff_eq] at hall
    refine ⟨i, zv, hi, hzv, rfl, fun x hx => hall.1 x (by simpa using hx), hall.2, ?_⟩
    simp [Program.cellsOf, hi, hall.2]
  · cases hz

/-- rows of zero values -/
theorem zero_rows {zv : Value} (h1 : ∀ x ∈ zv.cells.toList, x.oneCell' = true) (m k : Nat) (hk : zv.cells.size = k) (w : World) (O : Nat → Prop) (μ : Mu) (n : Nat) :
    ∀ (i : Nat) (e : List AV), (List.replicate m (zv.cells.toList.map AV.sc))[i]? = some e → e.length = k ∧ ∀ (j : Nat) (x : AV), e[j]? = some x → x.one = true ∧
      ∃ u, ((Array.range (m * k)).map (fun q => zv.cells[q % zv.cells.size]!))[i * k + j]? = some u ∧ VR w O μ n x u := by
  intro i e hi
  have hlt := (List.getElem?_eq_some_iff.1 hi).1
  simp only [List.length_replicate] at hlt
  rw [List.getElem?_replicate, if_pos hlt] at hi
  cases hi
  refine ⟨by simp [hk], fun j x hj => ?_⟩
  simp only [List.getElem?_map, Option.map_eq_some_iff, Array.getElem?_toList] at hj
  obtain ⟨y, hy, rfl⟩ := hj
  have hjk : j < k := by rw [← hk]; exact (Array.getElem?_eq_some_iff.1 hy).1
  have hy1 := h1 y (by simpa using Array.mem_of_getElem? hy)
  refine ⟨hy1, y, ?_, .sc y hy1⟩
  have hin : i * k + j < m * k := by
    have : (i + 1) * k ≤ m * k := Nat.mul_le_mul_right k hlt
    rw [Nat.add_mul] at this; omega
  have hmod : (i * k + j) % zv.cells.size = j := by
    rw [hk, Nat.mul_comm, Nat.mul_add_mod, Nat.mod_eq_of_lt hjk]
  simp only [Array.getElem?_map, Array.getElem?_range, hin, ↓reduceIte, Option.map_some, hmod]
  have := Array.getElem?_eq_some_iff.1 hy
  obtain ⟨hj2, he⟩ := this
  rw [getElem!_pos zv.cells j hj2, he]

/-! ### makeSlice -/
theorem snd_makeSlice {T e : TypeId} {x y : Operand} (ho : o.op = .makeSlice T x y) (hr : HR w O μ h n) (he : elemO P T = some e) {z : List AV} (hz : zeroO P e = some z) (hne : z ≠ [])
    {k k' : IntKind} {m : Int} (hx : VR w O μ n (.sc (.int k m)) (a.eval x)) (hy : VR w O μ n (.sc (.int k' m)) (a.eval y)) (h0 : 0 ≤ m) (h1 : m ≤ 1048576) (hb : P.bytesOf e ≤ 1024)
    (hk : K (.ms n 0 m.toNat) (updH h n (.cells z.length e (List.replicate m.toNat z))) (n + 1)) : OpR P o a w O μ n K := by
  obtain ⟨i, zv, hi, hzv, hzz, hz1, hsz, hc⟩ := zeroO_spec hz
  have hzl : z.length = zv.cells.size := by rw [hzz]; simp
  have hzp : 0 < z.length := by cases z with | nil => exact absurd rfl hne | cons _ _ => simp
  have hT := elemO_spec he
  obtain ⟨hev, hh⟩ := new_block hr e ((Array.range (m.toNat * z.length)).map (fun q => zv.cells[q % zv.cells.size]!)) z.length (List.replicate m.toNat z) (by
    have := zero_rows hz1 m.toNat z.length hzl.symm w O μ n
    rw [hzz] at this ⊢
    exact this)
  refine ⟨.slice (some ⟨w.heap.size, 0, none⟩) m.toNat m.toNat, _, _, _, _, _, .inl ?_, hk, hh, ?_, hev⟩
  · simp only [execOp, ho, hx.int_inv, hy.int_inv]
    refine run_val (u := .slice (some ⟨w.heap.size, 0, none⟩) m.toNat m.toNat) ?_
    have hbi : (i.bytes : Int) ≤ 1024 := by have : P.bytesOf e = i.bytes := by simp [Program.bytesOf, hi]
                                            omega
    have hw : IntKind.i64.wrap m = m := IntWalk.i64_in m (by omega)
    have hmul : (i.bytes : Int) * m ≤ 1024 * 1048576 := Int.mul_le_mul hbi h1 h0 (by omega)
    have hf : ¬ (((decide (m < 0) || decide ((i.bytes : Int) * m > 2 ^ 48)) || decide (m < 0) || decide (m > m)) = true) := by
      simp; omega
    simp only [Instr.makeSlice, Sem.run_bind, run_underlying hT, Result.andThen_ok, asInt, asIntOf, pure_bind, Sem.run_pure, typeInfo, run_program, hi, hw]
    rw [if_neg hf]
    simp only [Sem.run_bind, run_askRoom, Result.andThen_ok, run_sizeOf hi]
    by_cases h00 : m.toNat * P.cellsOf e = 0
    · have hcell : ∀ f : Nat → Value, (Array.range (m.toNat * P.cellsOf e)).map f = (Array.range (m.toNat * z.length)).map (fun q => zv.cells[q % zv.cells.size]!) := fun f => by
        rw [← hc, h00]
        exact Array.ext (by simp) fun i h _ => by simp at h
      rw [if_pos h00]
      simp only [Sem.run_bind, newRow, run_newObj, Result.andThen_ok, Sem.run_pure, hcell]
      rfl
    · rw [if_neg h00]
      simp only [Sem.run_bind, zeroValue, typeInfo, run_program, Result.andThen_ok, hi, Sem.run_pure, hzv, newRow, run_newObj, hc]
      rfl
  · refine .ms n 0 _ _ (by omega) rfl fun b k2 e2 => ?_
    simp [updM] at e2
    obtain ⟨rfl, rfl⟩ := e2
    refine ⟨0, m.toNat, _, e, rfl, Nat.le_refl _, ?_, fun _ => by simp, heap_alloc_self _ _, by simp⟩
    unfold maxLen; omega

/-! ### structs and slices written out -/
theorem foldset (off : Nat) : ∀ (l : List Value) (s : Nat) (cells : Array Value), off + s + l.length ≤ cells.size →
    ((l.zipIdx s).foldl (fun cs x => cs.setIfInBounds (off + x.2) x.1) cells).size = cells.size ∧
    ∀ q, ((l.zipIdx s).foldl (fun cs x => cs.setIfInBounds (off + x.2) x.1) cells)[q]? = if off + s ≤ q ∧ q < off + s + l.length then l[q - (off + s)]? else cells[q]?
  | [], s, cells, _ => ⟨rfl, fun q => by simp; intro h1 h2; omega⟩
  | v :: l, s, cells, hl => by
    simp only [List.length_cons] at hl
    obtain ⟨h1, h2⟩ := foldset off l (s + 1) (cells.setIfInBounds (off + s) v) (by simp; omega)
    simp only [List.zipIdx_cons, List.foldl_cons]
    refine ⟨by rw [h1]; simp, fun q => ?_⟩
    rw [h2]
    by_cases hq : q = off + s
    · subst hq
      rw [if_neg (by omega), if_pos (by simp), Array.getElem?_setIfInBounds_self_of_lt (by omega)]
      simp
    · by_cases hq2 : off + s ≤ q ∧ q < off + s + (l.length + 1)
      · rw [if_pos (by omega), if_pos (by simpa using hq2)]
        rw [show q - (off + s) = (q - (off + (s + 1))) + 1 by omega, List.getElem?_cons_succ]
      · rw [if_neg (by omega), if_neg (by simpa using hq2), Array.getElem?_setIfInBounds_ne (by omega)]

theorem fill_step {place : Nat → Option (Nat × Nat)} {cells : Array Value} {i off size : Nat} {v : Value} {rest : List (Nat × Value)} (hp : place i = some (off, size)) (hs : v.cells.size = size) (hf : off + size ≤ cells.size) :
    ∃ c', Instr.fill place cells ((i, v) :: rest) = Instr.fill place c' rest ∧ c'.size = cells.size ∧ ∀ q, c'[q]? = if off ≤ q ∧ q < off + size then v.cells[q - off]? else cells[q]? := by
  obtain ⟨h1, h2⟩ := foldset off v.cells.toList 0 cells (by simp; omega)
  refine ⟨(v.cells.toList.zipIdx 0).foldl (fun cs x => cs.setIfInBounds (off + x.2) x.1) cells, ?_, h1, fun q => ?_⟩
  · simp only [Instr.fill, hp]
    rw [if_neg (by simp [hs]; omega)]
    congr 1
    rw [← Array.foldl_toList]
    simp
  · rw [h2]
    simp only [Nat.add_zero, Array.length_toList, hs, Array.getElem?_toList]

/-- parts put in, place by place -/
def fillS (pl : List (Nat × Nat)) (env : Env) : List (Nat × Operand) → List AV → Option (List AV)
  | [], cells => some cells
  | (i, x) :: rest, cells =>
    match pl[i]?, cellsA (ev env x) with
    | some (off, size), some xs => if xs.length = size ∧ off + size ≤ cells.length then fillS pl env rest (cells.take off ++ xs ++ cells.drop (off + size)) else none
    | _, _ => none

def CellsRel (w : World) (O : Nat → Prop) (μ : Mu) (n : Nat) (c : Array Value) (cells : List AV) : Prop :=
  c.size = cells.length ∧ ∀ (j : Nat) (x : AV), cells[j]? = some x → x.one = true ∧ ∃ u, c[j]? = some u ∧ VR w O μ n x u

theorem fillS_sound {env : Env} (hv : ∀ x, VR w O μ n (ev env x) (a.eval x)) {place : Nat → Option (Nat × Nat)} {pl : List (Nat × Nat)} (hpl : ∀ i, place i = pl[i]?) :
    ∀ (parts : List (Nat × Operand)) (cells : List AV) (c : Array Value) (r : List AV), CellsRel w O μ n c cells → fillS pl env parts cells = some r → ∃ c', Instr.fill place c (parts.map fun x => (x.1, a.eval x.2)) = some c' ∧ CellsRel w O μ n c' r
  | [], cells, c, r, hc, hf => by simp [fillS] at hf; subst hf; exact ⟨c, rfl, hc⟩
  | (i, x) :: rest, cells, c, r, hc, hf => by
    simp only [fillS] at hf
    split at hf
    · rename_i off size xs hi hx
      split at hf
      · rename_i hcond
        obtain ⟨f1, f2, f3⟩ := cellsA_sound (hv x) hx
        obtain ⟨c', g1, g2, g3⟩ := fill_step (place := place) (cells := c) (rest := rest.map fun x => (x.1, a.eval x.2)) ((hpl i).trans hi) (v := a.eval x) (by rw [f1]; exact hcond.1) (by rw [hc.1]; exact hcond.2)
        have hrel : CellsRel w O μ n c' (cells.take off ++ xs ++ cells.drop (off + size)) := by
          refine ⟨by rw [g2, hc.1]; simp; omega, fun j y hj => ?_⟩
          rw [← hcond.1, getElem_splice cells xs off (by omega) j] at hj
          rw [g3, ← hcond.1]
          split at hj
          · rename_i hin
            rw [if_pos hin]
            obtain ⟨q1, u, q2, q3⟩ := f3 _ y hj
            exact ⟨q1, u, q2, q3⟩
          · rename_i hout
            rw [if_neg hout]
            exact hc.2 j y hj
        obtain ⟨c'', k1, k2⟩ := fillS_sound hv hpl rest _ c' r hrel hf
        exact ⟨c'', by rw [List.map_cons, g1]; exact k1, k2⟩
      · cases hf
    · cases hf

/-- offsets and sizes of a struct's fields -/
def placesO (P : Program) (T : TypeId) : Option (List (Nat × Nat)) :=
  match P.underlying T with
  | some (.struct fs) => fs.toList.mapM fun f => (P.info? f.type).map fun i => (f.offset, i.size)
  | _ => none

theorem run_places : ∀ (fs : List Field) (r : List (Nat × Nat)), fs.mapM (fun f => (P.info? f.type).map fun i => (f.offset, i.size)) = some r →
    ∀ w, (fs.mapM (fun f => do pure (f.offset, ← sizeOf f.type)) : Sem (List (Nat × Nat))).run P w = .ok r w
  | [], r, h, w => by simp at h; subst h; simp
  | f :: fs, r, h, w => by
    simp only [List.mapM_cons, Option.bind_eq_bind, Option.bind_eq_some_iff, Option.map_eq_some_iff, Option.pure_def, Option.some.injEq] at h
    obtain ⟨x, ⟨i, hi, rfl⟩, r', hr, rfl⟩ := h
    have ih := run_places fs r' hr w
    simp only [List.mapM_cons, Sem.run_bind, run_sizeOf hi, Result.andThen_ok, Sem.run_pure, ih]
    simp [Program.cellsOf, hi]

theorem snd_build {T : TypeId} {parts : Array (Nat × Operand)} (ho : o.op = .build T parts) (hr : HR w O μ h n) {env : Env} (hv : ∀ x, VR w O μ n (ev env x) (a.eval x)) {z : List AV} (hz : zeroO P T = some z) {pl : List (Nat × Nat)} (hp : placesO P T = some pl)
    {cs : List AV} (hf : fillS pl env parts.toList z = some cs) (hk : K (.ag cs) h n) : OpR P o a w O μ n K := by
  obtain ⟨i, zv, hi, hzv, hzz, hz1, hsz, hc⟩ := zeroO_spec hz
  unfold placesO at hp
  split at hp
  · rename_i fs hT
    have hrel : CellsRel w O μ n zv.cells z := by
      refine ⟨by rw [hzz]; simp, fun j x hj => ?_⟩
      rw [hzz] at hj
      simp only [List.getElem?_map, Option.map_eq_some_iff, Array.getElem?_toList] at hj
      obtain ⟨y, hy, rfl⟩ := hj
      have hy1 := hz1 y (by simpa using Array.mem_of_getElem? hy)
      exact ⟨hy1, y, hy, .sc y hy1⟩
    obtain ⟨c', g1, g2, g3⟩ := fillS_sound hv (place := fun i => pl.toArray[i]?) (pl := pl) (fun i => by simp) parts.toList z zv.cells cs hrel hf
    refine OpR.value hr (u := .agg c') ?_ ?_ hk
    · simp only [execOp, ho]
      refine run_val ?_
      have hpr := run_places (P := P) fs.toList pl hp w
      have hpa : (fs.mapM (fun f => do pure (f.offset, ← sizeOf f.type)) : Sem (Array (Nat × Nat))).run P w = .ok pl.toArray w := by
        rw [Array.mapM_eq_mapM_toList]
        simp only [Sem.run_map, hpr, Result.andThen_ok]
      simp only [Instr.build, Sem.run_bind, zeroValue, typeInfo, run_program, Result.andThen_ok, hi, Sem.run_pure, hzv, run_underlying hT, hpa]
      have : (parts.map fun x => (x.1, a.eval x.2)).toList = parts.toList.map fun x => (x.1, a.eval x.2) := by simp
      rw [this, g1]
      rfl
    · exact .ag cs c' (fun j => c'.getD j undef) g2 (fun j x hj => by obtain ⟨_, u, h2, _⟩ := g3 j x hj; simp [h2]) (fun j x hj => (g3 j x hj).1) (fun j x hj => by obtain ⟨_, u, h2, h3⟩ := g3 j x hj; simpa [h2] using h3)
  · cases hp

def fillE (k : Nat) (env : Env) : List (Nat × Operand) → List (List AV) → Option (List (List AV))
  | [], es => some es
  | (i, x) :: rest, es =>
    match cellsA (ev env x) with
    | some xs => if xs.length = k ∧ i < es.length then fillE k env rest (es.set i xs) else none
    | none => none

def EsRel (w : World) (O : Nat → Prop) (μ : Mu) (n k : Nat) (c : Array Value) (es : List (List AV)) : Prop :=
  c.size = es.length * k ∧ ∀ (i : Nat) (e : List AV), es[i]? = some e → e.length = k ∧ ∀ (j : Nat) (x : AV), e[j]? = some x → x.one = true ∧ ∃ u, c[i * k + j]? = some u ∧ VR w O μ n x u

theorem EsRel.set {k i : Nat} {c c' : Array Value} {es : List (List AV)} (hc : EsRel w O μ n k c es) {xs : List AV} (hx : xs.length = k) (hi : i < es.length) (hs : c'.size = c.size) {us : Nat → Option Value}
    (hc' : ∀ q, c'[q]? = if i * k ≤ q ∧ q < i * k + k then us (q - i * k) else c[q]?) (hxs : ∀ (j : Nat) (x : AV), xs[j]? = some x → x.one = true ∧ ∃ u, us j = some u ∧ VR w O μ n x u) : EsRel w O μ n k c' (es.set i xs) := by
  refine ⟨by rw [hs, hc.1]; simp, fun q e hq => ?_⟩
  rw [List.getElem?_set] at hq
  by_cases hiq : i = q
  · subst hiq
    rw [if_pos rfl, if_pos hi] at hq
    cases hq
    refine ⟨hx, fun j x hj => ?_⟩
    obtain ⟨h1, u, h2, h3⟩ := hxs j x hj
    have hjk : j < k := by rw [← hx]; exact (List.getElem?_eq_some_iff.1 hj).1
    exact ⟨h1, u, by rw [hc', if_pos (by omega), show i * k + j - i * k = j by omega]; exact h2, h3⟩
  · rw [if_neg hiq] at hq
    refine ⟨(hc.2 q e hq).1, fun j x hj => ?_⟩
    obtain ⟨h1, u, h2, h3⟩ := (hc.2 q e hq).2 j x hj
    have hjk : j < k := by rw [← (hc.2 q e hq).1]; exact (List.getElem?_eq_some_iff.1 hj).1
    refine ⟨h1, u, ?_, h3⟩
    rw [hc', if_neg ?_]
    · exact h2
    · rintro ⟨l1, l2⟩
      rcases Nat.lt_or_gt_of_ne hiq with hlt | hgt
      · have : (i + 1) * k ≤ q * k := Nat.mul_le_mul_right k hlt
        rw [Nat.add_mul] at this; omega
      · have : (q + 1) * k ≤ i * k := Nat.mul_le_mul_right k hgt
        rw [Nat.add_mul] at this; omega

theorem fillE_sound {k : Nat} {env : Env} (hv : ∀ x, VR w O μ n (ev env x) (a.eval x)) :
    ∀ (parts : List (Nat × Operand)) (es : List (List AV)) (c : Array Value) (r : List (List AV)), EsRel w O μ n k c es → fillE k env parts es = some r →
      ∃ c', Instr.fill (fun i => some (i * k, k)) c (parts.map fun x => (x.1, a.eval x.2)) = some c' ∧ EsRel w O μ n k c' r ∧ r.length = es.length
  | [], es, c, r, hc, hf => by simp [fillE] at hf; subst hf; exact ⟨c, rfl, hc, rfl⟩
  | (i, x) :: rest, es, c, r, hc, hf => by
    simp only [fillE] at hf
    split at hf
    · rename_i xs hx
      split at hf
      · rename_i hcond
        obtain ⟨f1, f2, f3⟩ := cellsA_sound (hv x) hx
        have hfit : i * k + k ≤ c.size := by
          rw [hc.1]
          have : (i + 1) * k ≤ es.length * k := Nat.mul_le_mul_right k hcond.2
          rw [Nat.add_mul] at this; omega
        obtain ⟨c', g1, g2, g3⟩ := fill_step (place := fun i => some (i * k, k)) (cells := c) (rest := rest.map fun x => (x.1, a.eval x.2)) (i := i) rfl (v := a.eval x) (by rw [f1]; exact hcond.1) hfit
        have hrel := hc.set hcond.1 hcond.2 g2 (us := fun q => (a.eval x).cells[q]?) g3 f3
        obtain ⟨c'', k1, k2, k3⟩ := fillE_sound hv rest _ c' r hrel hf
        exact ⟨c'', by rw [List.map_cons, g1]; exact k1, k2, by rw [k3]; simp⟩
      · cases hf
    · cases hf

theorem VR.ms_new (w : World) (O : Nat → Prop) (μ : Mu) (n : Nat) (c : Array Value) (T : TypeId) (k len : Nat) (hs : c.size = len * k) (hl : len ≤ maxLen) : VR (w.alloc (.cells c T)) O (updM μ n (w.heap.size, k)) (n + 1) (.ms n 0 len) (.slice (some ⟨w.heap.size, 0, none⟩) len len) := by
  refine .ms n 0 _ _ (by omega) rfl fun b k2 e2 => ?_
  simp [updM] at e2
  obtain ⟨rfl, rfl⟩ := e2
  exact ⟨0, len, c, T, rfl, Nat.le_refl _, hl, fun _ => by simp, heap_alloc_self _ _, by simp [hs]⟩

theorem run_buildSlice {T e : TypeId} {len : Nat} {parts : Array (Nat × Operand)} (ho : o.op = .buildSlice T len parts) (he : elemO P T = some e) {env : Env} (hv : ∀ x, VR w O μ n (ev env x) (a.eval x)) {z : List AV} (hz : zeroO P e = some z)
    (hl : len ≤ 1000) (hzl : z.length ≤ 1000) {es : List (List AV)} (hf : fillE z.length env parts.toList (List.replicate len z) = some es) :
    ∃ c', (execOp a.eval o).run P w = .ok (.value (.slice (some ⟨w.heap.size, 0, none⟩) len len)) (w.alloc (.cells c' e)) ∧ EsRel w O μ n z.length c' es ∧ es.length = len := by
  obtain ⟨i, zv, hi, hzv, hzz, hz1, hsz, hc⟩ := zeroO_spec hz
  have hzl' : zv.cells.size = z.length := by rw [hzz]; simp
  have hT := elemO_spec he
  have hrel : EsRel w O μ n z.length ((Array.range (len * z.length)).map (fun q => zv.cells[q % zv.cells.size]!)) (List.replicate len z) := by
    refine ⟨by simp, ?_⟩
    have := zero_rows hz1 len z.length hzl' w O μ n
    rw [hzz] at this ⊢
    exact this
  obtain ⟨c', g1, g2, g3⟩ := fillE_sound hv parts.toList _ _ es hrel hf
  simp only [List.length_replicate] at g3
  refine ⟨c', ?_, g2, g3⟩
  simp only [execOp, ho]
  refine run_val ?_
  have hb : ¬ len * z.length > 2 ^ 24 := by
    have : len * z.length ≤ 1000 * 1000 := Nat.mul_le_mul hl hzl
    omega
  have hpm : (parts.map fun x => (x.1, a.eval x.2)).toList = parts.toList.map fun x => (x.1, a.eval x.2) := by simp
  simp only [Instr.buildSlice, Sem.run_bind, run_underlying hT, Result.andThen_ok, run_sizeOf hi, hc]
  rw [if_neg hb]
  simp only [hpm]
  by_cases h00 : len * z.length = 0
  · have hcell : ∀ f : Nat → Value, (Array.range (len * z.length)).map f = (Array.range (len * z.length)).map (fun q => zv.cells[q % zv.cells.size]!) := fun f => by
      rw [h00]
      exact Array.ext (by simp) fun i h _ => by simp at h
    rw [if_pos h00]
    simp only [Sem.run_bind, Result.andThen_ok, Sem.run_pure, hcell, g1, newRow, run_newObj]
    rfl
  · rw [if_neg h00]
    simp only [Sem.run_bind, zeroValue, typeInfo, run_program, Result.andThen_ok, hi, Sem.run_pure, hzv, g1, newRow, run_newObj]
    rfl


theorem snd_buildSlice {T e : TypeId} {len : Nat} {parts : Array (Nat × Operand)} (ho : o.op = .buildSlice T len parts) (hr : HR w O μ h n) (he : elemO P T = some e) {env : Env} (hv : ∀ x, VR w O μ n (ev env x) (a.eval x)) {z : List AV} (hz : zeroO P e = some z)
    (hl : len ≤ 1000) (hzl : z.length ≤ 1000) {es : List (List AV)} (hf : fillE z.length env parts.toList (List.replicate len z) = some es) (hk : K (.ms n 0 len) (updH h n (.cells z.length e es)) (n + 1)) : OpR P o a w O μ n K := by
  obtain ⟨c', g1, g2, g3⟩ := run_buildSlice ho he hv hz hl hzl hf
  obtain ⟨hev, hh⟩ := new_block hr e c' z.length es g2.2
  exact ⟨.slice (some ⟨w.heap.size, 0, none⟩) len len, _, _, _, _, _, .inl g1, hk, hh, VR.ms_new w O μ n c' e z.length len (by rw [g2.1, g3]) (by unfold maxLen; omega), hev⟩

theorem alloc_frozen (hr : HR w O μ h n) (o : Obj) : Evo w μ n (w.alloc o) μ n ∧ HR (w.alloc o) O μ h n := by
  have he : Evo w μ n (w.alloc o) μ n := ⟨rfl, rfl, rfl, by simp, Nat.le_refl _, fun b hb _ => heap_alloc_lt w o b hb, fun b c T f hc => ⟨c, by rw [heap_alloc_lt w o b (Array.getElem?_eq_some_iff.1 hc).1]; exact hc, rfl⟩, fun _ _ => .inl rfl,
    fun id b k e hn => absurd (hr.scope id b k e).1 (by omega)⟩
  refine ⟨he, fun b h => by have := hr.olt b h; simp; omega, fun id b k e => by have := hr.scope id b k e; simp; omega, hr.inj, hr.notO, fun id B hB => ?_⟩
  exact (hr.blk id B hB).evo rfl (fun b k e => heap_alloc_lt w o b (hr.scope id b k e).2) he

/-- the new slice as one that nobody changes -/
theorem snd_buildSliceF {T e : TypeId} {len : Nat} {parts : Array (Nat × Operand)} (ho : o.op = .buildSlice T len parts) (hr : HR w O μ h n) (he : elemO P T = some e) {env : Env} (hv : ∀ x, VR w O μ n (ev env x) (a.eval x)) {z : List AV} (hz : zeroO P e = some z)
    (hl : len ≤ 1000) (hzl : z.length ≤ 1000) {es : List (List AV)} (hf : fillE z.length env parts.toList (List.replicate len z) = some es) (hk : K (.sl es) h n) : OpR P o a w O μ n K := by
  obtain ⟨c', g1, g2, g3⟩ := run_buildSlice ho he hv hz hl hzl hf
  obtain ⟨hev, hh⟩ := alloc_frozen hr (.cells c' e)
  refine ⟨.slice (some ⟨w.heap.size, 0, none⟩) len len, _, _, _, _, _, .inl g1, hk, hh, ?_, hev⟩
  rw [← g3]
  refine .sl es w.heap.size 0 es.length z.length (fun i j => ((c'[i * z.length + j]?).getD undef)) (Nat.le_refl _) (by unfold maxLen; omega) (fun i e hi hne hA => ?_) (fun i e hi => (g2.2 i e hi).1) (fun i e hi j x hj => ?_) (fun i e hi j x hj => ((g2.2 i e hi).2 j x hj).1) (fun i e hi j x hj => ?_)
  · rcases hA with hA | ⟨id, k, hA⟩
    · exact absurd (hr.olt _ hA) (by omega)
    · exact absurd (hr.scope id _ k hA).2 (by omega)
  · obtain ⟨_, u, h2, _⟩ := (g2.2 i e hi).2 j x hj
    exact cell_heap.2 ⟨c', _, _, heap_alloc_self w _, by rw [Nat.zero_add, h2]; rfl⟩
  · obtain ⟨_, u, h2, h3⟩ := (g2.2 i e hi).2 j x hj
    rw [h2]; exact h3.evo hev
theorem snd_buildSlice0 {T e : TypeId} {parts : Array (Nat × Operand)} (ho : o.op = .buildSlice T 0 parts) (hr : HR w O μ h n) (he : elemO P T = some e) {env : Env} (hv : ∀ x, VR w O μ n (ev env x) (a.eval x)) {z : List AV} (hz : zeroO P e = some z)
    (hzl : z.length ≤ 1000) {es : List (List AV)} (hf : fillE z.length env parts.toList (List.replicate 0 z) = some es) (hk : K .e0 h n) : OpR P o a w O μ n K := by
  obtain ⟨c', g1, g2, g3⟩ := run_buildSlice ho he hv hz (by omega) hzl hf
  obtain ⟨hev, hh⟩ := alloc_frozen hr (.cells c' e)
  exact ⟨_, _, _, _, _, _, .inl g1, hk, hh, .e0 _, hev⟩

end
end Go.Abs
