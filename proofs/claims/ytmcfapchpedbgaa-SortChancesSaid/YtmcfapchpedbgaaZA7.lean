/- Operations, third part: binary operators, stores, builtins on numbers and slices. -/
import Derived.Test.YtmcfapchpedbgaaZA6
namespace Go.Abs
open Go Go.RowKit

def bitsI (op : BinOp) (k : IntKind) (x y : Int) : Int :=
  let a := BitVec.ofInt k.bits x
  let b := BitVec.ofInt k.bits y
  match op with
  | .and => k.wrap (a &&& b).toNat
  | .or => k.wrap (a ||| b).toNat
  | .xor => k.wrap (a ^^^ b).toNat
  | _ => k.wrap (a &&& ~~~b).toNat

def abinI (op : BinOp) (k : IntKind) (x : Int) (k' : IntKind) (y : Int) (K : AV → Prop) : Prop :=
  match op with
  | .shl => 0 ≤ y ∧ K (.sc (.int k (k.wrap (x * 2 ^ (min y.toNat k.bits)))))
  | .shr => 0 ≤ y ∧ K (.sc (.int k (x.fdiv (2 ^ (min y.toNat k.bits)))))
  | .add => k = k' ∧ K (.sc (.int k (k.wrap (x + y))))
  | .sub => k = k' ∧ K (.sc (.int k (k.wrap (x - y))))
  | .mul => k = k' ∧ K (.sc (.int k (k.wrap (x * y))))
  | .quo => k = k' ∧ y ≠ 0 ∧ K (.sc (.int k (k.wrap (x.tdiv y))))
  | .rem => k = k' ∧ y ≠ 0 ∧ K (.sc (.int k (x.tmod y)))
  | .and => k = k' ∧ K (.sc (.int k (bitsI .and k x y)))
  | .or => k = k' ∧ K (.sc (.int k (bitsI .or k x y)))
  | .xor => k = k' ∧ K (.sc (.int k (bitsI .xor k x y)))
  | .andNot => k = k' ∧ K (.sc (.int k (bitsI .andNot k x y)))
  | .eql => k = k' ∧ K (.sc (.bool (x == y)))
  | .neq => k = k' ∧ K (.sc (.bool (x != y)))
  | .lss => k = k' ∧ K (.sc (.bool (decide (x < y))))
  | .leq => k = k' ∧ K (.sc (.bool (decide (x ≤ y))))
  | .gtr => k = k' ∧ K (.sc (.bool (decide (y < x))))
  | .geq => k = k' ∧ K (.sc (.bool (decide (y ≤ x))))

def abinS (op : BinOp) (x y : ByteArray) (K : AV → Prop) : Prop :=
  match op with
  | .add => x.size + y.size ≤ 9223372036854775807 ∧ K (.sc (.string (x ++ y)))
  | .eql => K (.sc (.bool (x.toList == y.toList)))
  | .neq => K (.sc (.bool (!(x.toList == y.toList))))
  | .lss => K (.sc (.bool (Op.bytesLess x.toList y.toList)))
  | .leq => K (.sc (.bool (Op.bytesLess x.toList y.toList || x.toList == y.toList)))
  | .gtr => K (.sc (.bool (!(Op.bytesLess x.toList y.toList || x.toList == y.toList))))
  | .geq => K (.sc (.bool (!(Op.bytesLess x.toList y.toList))))
  | _ => False

/-- A comparison that the model answers so. -/
def Cmp (P : Program) (h : AH) (op : BinOp) (T : TypeId) (x y : AV) (b : Bool) : Prop :=
  ∀ (w : World) (O : Nat → Prop) (μ : Mu) (n : Nat) (u v : Value) (X Y : Operand), HR w O μ h n → VR w O μ n x u → VR w O μ n y v → (do eqGuard op T X Y u v; binOp op T u v : Sem Value).run P w = .ok (.bool b) w

def abin (P : Program) (h : AH) (op : BinOp) (T : TypeId) (x y : AV) (K : AV → Prop) : Prop :=
  match x, y with
  | .sc (.int k a), .sc (.int k' b) => abinI op k a k' b K
  | .sc (.string a), .sc (.string b) => abinS op a b K
  | .sc (.bool a), .sc (.bool b) => P.underlying T = some .bool ∧ (match op with | .eql => K (.sc (.bool (a == b))) | .neq => K (.sc (.bool (!(a == b)))) | _ => False)
  | x, y => ∃ b, Cmp P h op T x y b ∧ K (.sc (.bool b))

section
variable {P : Program} {o : Oper} {a : Act} {w : World} {O : Nat → Prop} {μ : Mu} {h : AH} {n : Nat} {K : K3}

theorem eqGuard_plain (op : BinOp) (T : TypeId) (X Y : Operand) {u v : Value} (h1 : ∀ cs, u ≠ .agg cs) (h2 : u ≠ .nilIface) (w : World) : (eqGuard op T X Y u v).run P w = .ok () w := by
  unfold eqGuard
  cases u <;> first | exact absurd rfl (h1 _) | exact absurd rfl h2 | (cases op <;> simp)

theorem abinI_sound {op : BinOp} {k k' : IntKind} {x y : Int} {K' : AV → Prop} (hk : abinI op k x k' y K') (T : TypeId) (w : World) : ∃ v, (binOp op T (.int k x) (.int k' y)).run P w = .ok v w ∧ v.oneCell' = true ∧ K' (.sc v) := by
  cases op
  case shl => obtain ⟨h0, hk⟩ := hk; exact ⟨_, by simp [binOp, Op.shift, show ¬ y < 0 by omega], rfl, hk⟩
  case shr => obtain ⟨h0, hk⟩ := hk; exact ⟨_, by simp [binOp, Op.shift, show ¬ y < 0 by omega], rfl, hk⟩
  case quo => obtain ⟨rfl, h0, hk⟩ := hk; exact ⟨_, by simp [binOp, Op.intDiv, h0], rfl, hk⟩
  case rem => obtain ⟨rfl, h0, hk⟩ := hk; exact ⟨_, by simp [binOp, Op.intDiv, h0], rfl, hk⟩
  all_goals
    obtain ⟨rfl, hk⟩ := hk
    refine ⟨_, ?_, ?_, hk⟩
    · simp [binOp, Op.intArith, Op.intCmp, Op.intBits, bitsI]
    · rfl

theorem abinS_sound {op : BinOp} {x y : ByteArray} {K' : AV → Prop} (hk : abinS op x y K') (T : TypeId) (w : World) : ∃ v, (binOp op T (.string x) (.string y)).run P w = .ok v w ∧ v.oneCell' = true ∧ K' (.sc v) := by
  cases op
  case add =>
    obtain ⟨h0, hk⟩ := hk
    refine ⟨_, ?_, rfl, hk⟩
    have : ¬ ((x.size + y.size : Nat) : Int) > IntKind.i64.max := by simp [IntKind.max, IntKind.signed, IntKind.bits]; omega
    simp only [binOp, Op.stringOp]
    rw [if_neg this]
    rfl
  all_goals first | exact hk.elim | exact ⟨_, by simp [binOp, Op.stringOp], rfl, hk⟩

theorem snd_binOp {op : BinOp} {T T2 : TypeId} {x y : Operand} (ho : o.op = .binOp op T x y T2) (hr : HR w O μ h n) {v1 v2 : AV} (h1 : VR w O μ n v1 (a.eval x)) (h2 : VR w O μ n v2 (a.eval y))
    (hk : abin P h op T v1 v2 (fun v => K v h n)) : OpR P o a w O μ n K := by
  unfold abin at hk
  split at hk
  · rename_i k i k' j
    obtain ⟨v, g1, g2, g3⟩ := abinI_sound (P := P) hk T w
    refine OpR.value hr (u := v) ?_ (.sc v g2) g3
    simp only [execOp, ho, h1.int_inv, h2.int_inv]
    refine run_val ?_
    rw [Sem.run_bind, eqGuard_plain op T x y (by intro cs hc; cases hc) (by intro hc; cases hc)]
    exact g1
  · rename_i s t
    obtain ⟨v, g1, g2, g3⟩ := abinS_sound (P := P) hk T w
    refine OpR.value hr (u := v) ?_ (.sc v g2) g3
    simp only [execOp, ho, h1.sc_inv, h2.sc_inv]
    refine run_val ?_
    rw [Sem.run_bind, eqGuard_plain op T x y (by intro cs hc; cases hc) (by intro hc; cases hc)]
    exact g1
  · rename_i s t
    obtain ⟨hT, hk⟩ := hk
    split at hk
    · refine OpR.value hr (u := .bool (s == t)) ?_ (.sc _ rfl) hk
      simp only [execOp, ho, h1.sc_inv, h2.sc_inv]
      refine run_val ?_
      rw [Sem.run_bind, eqGuard_plain _ T x y (by intro cs hc; cases hc) (by intro hc; cases hc)]
      exact run_eql_bool w T s t hT
    · refine OpR.value hr (u := .bool (!(s == t))) ?_ (.sc _ rfl) hk
      simp only [execOp, ho, h1.sc_inv, h2.sc_inv]
      refine run_val ?_
      rw [Sem.run_bind, eqGuard_plain _ T x y (by intro cs hc; cases hc) (by intro hc; cases hc)]
      exact run_neq_bool w T s t hT
    · exact hk.elim
  · obtain ⟨b, hc, hk⟩ := hk
    refine OpR.value hr (u := .bool b) ?_ (.sc _ rfl) hk
    simp only [execOp, ho]
    exact run_val (hc w O μ n _ _ x y hr h1 h2)

/-! ### store -/
theorem getElem_splice {α : Type} (l vs : List α) (p : Nat) (hp : p + vs.length ≤ l.length) (q : Nat) : (l.take p ++ vs ++ l.drop (p + vs.length))[q]? = if p ≤ q ∧ q < p + vs.length then vs[q - p]? else l[q]? := by
  have h1 : (l.take p).length = p := by rw [List.length_take]; omega
  split
  · rename_i h
    rw [List.append_assoc, List.getElem?_append_right (by omega), h1, List.getElem?_append_left (by omega)]
  · rename_i h
    rcases Nat.lt_or_ge q p with hq | hq
    · rw [List.append_assoc, List.getElem?_append_left (by omega), List.getElem?_take, if_pos hq]
    · rw [List.getElem?_append_right (by simp; omega), List.getElem?_drop]
      congr 1
      simp; omega

/-- What a store of cells does to one block. -/
theorem store_block (hr : HR w O μ h n) {id k b i j : Nat} {T : TypeId} {es : List (List AV)} {c : Array Value} (hm : μ id = some (b, k)) (hb : w.heap[b]? = some (.cells c T (0, 0)))
    (hB : h id = some (.cells k T es)) {e : List AV} (he : es[i]? = some e) {xs : List AV} {us : List Value} (hl : us.length = xs.length) (hfit : j + xs.length ≤ e.length)
    (h1 : ∀ x ∈ us, x.oneCell' = true) (hx : ∀ (q : Nat) (x : AV), xs[q]? = some x → x.one = true ∧ ∃ u, us[q]? = some u ∧ VR w O μ n x u) :
    ∃ w', (storeCells ⟨b, i * k + j, none⟩ us 0).run P w = .ok () w' ∧ Evo w μ n w' μ n ∧ HR w' O μ (updH h id (.cells k T (es.set i (e.take j ++ xs ++ e.drop (j + xs.length))))) n := by
  obtain ⟨b', c', g1, g2, g3⟩ := hr.blk id _ hB
  rw [hm] at g1; cases g1
  rw [hb] at g2; cases g2
  have hek : e.length = k := (g3 i e he).1
  have hsz : i * k + j + us.length ≤ c.size := by
    rcases Nat.eq_zero_or_pos us.length with h0 | h0
    · rw [h0]
      rcases Nat.eq_zero_or_pos k with hk0 | hk0
      · have : j = 0 := by omega
        simp [hk0, this]
      · obtain ⟨_, u, hu, _⟩ := (g3 i e he).2 (k - 1) (e[k-1]'(by omega)) (List.getElem?_eq_getElem (by omega))
        have := (Array.getElem?_eq_some_iff.1 hu).1
        omega
    · have hq : j + us.length - 1 < e.length := by omega
      obtain ⟨_, u, hu, _⟩ := (g3 i e he).2 (j + us.length - 1) (e[j + us.length - 1]'hq) (List.getElem?_eq_getElem hq)
      have := (Array.getElem?_eq_some_iff.1 hu).1
      omega
  have hrun := run_storeCells_at P b (i * k + j) T us 0 c w hb (by omega) h1
  simp only [Nat.add_zero] at hrun
  refine ⟨_, hrun, ?_⟩
  generalize hc' : (c.toList.take (i * k + j) ++ us ++ c.toList.drop (i * k + j + us.length)).toArray = c'
  have hsp : ∀ q, c'[q]? = if i * k + j ≤ q ∧ q < i * k + j + us.length then us[q - (i * k + j)]? else c[q]? := by
    intro q
    rw [← hc']
    have := getElem_splice c.toList us (i * k + j) (by simpa using hsz) q
    simpa using this
  refine hr.set id b k hm _ rfl rfl rfl (by simp) (fun q hq => setRow_other w b q c' hq) (fun c0 T0 f0 h0 => ?_) (fun hevo => ?_)
  · rw [hb] at h0; cases h0
    refine ⟨c', setRow_heap w b c c' T (0, 0) hb, ?_⟩
    rw [← hc']; simp; omega
  · refine ⟨b, c', hm, setRow_heap w b c c' T (0, 0) hb, fun q e' hq => ?_⟩
    rw [List.getElem?_set] at hq
    by_cases hiq : i = q
    · subst hiq
      rw [if_pos rfl, if_pos (List.getElem?_eq_some_iff.1 he).1] at hq
      cases hq
      refine ⟨by simp; omega, fun jj x hj => ?_⟩
      rw [getElem_splice e xs j hfit jj] at hj
      rw [hsp]
      split at hj
      · rename_i hin
        obtain ⟨f1, u, f2, f3⟩ := hx _ x hj
        refine ⟨f1, u, ?_, f3.evo hevo⟩
        rw [if_pos (by omega), show i * k + jj - (i * k + j) = jj - j by omega]
        exact f2
      · rename_i hout
        obtain ⟨f1, u, f2, f3⟩ := (g3 i e he).2 jj x hj
        refine ⟨f1, u, ?_, f3.evo hevo⟩
        rw [if_neg (by omega)]
        exact f2
    · rw [if_neg hiq] at hq
      refine ⟨(g3 q e' hq).1, fun jj x hj => ?_⟩
      obtain ⟨f1, u, f2, f3⟩ := (g3 q e' hq).2 jj x hj
      refine ⟨f1, u, ?_, f3.evo hevo⟩
      have hjj : jj < k := by rw [← (g3 q e' hq).1]; exact (List.getElem?_eq_some_iff.1 hj).1
      rw [hsp, if_neg ?_]
      · exact f2
      · rintro ⟨l1, l2⟩
        rcases Nat.lt_or_gt_of_ne hiq with hlt | hgt
        · have : (i + 1) * k ≤ q * k := Nat.mul_le_mul_right k hlt
          rw [Nat.add_mul] at this; omega
        · have : (q + 1) * k ≤ i * k := Nat.mul_le_mul_right k hgt
          rw [Nat.add_mul] at this; omega

theorem snd_store {T : TypeId} {x y : Operand} (ho : o.op = .store T x y) (hr : HR w O μ h n) {id i j k : Nat} {T' : TypeId} {es : List (List AV)} (hv : VR w O μ n (.own id i j) (a.eval x)) (hB : h id = some (.cells k T' es))
    {e : List AV} (he : es[i]? = some e) {v : AV} (hy : VR w O μ n v (a.eval y)) {xs : List AV} (hc : cellsA v = some xs) (hlen : xs.length = P.cellsOf T) (hne : xs.length ≠ 0) (hfit : j + xs.length ≤ e.length)
    (hk : K .ud (updH h id (.cells k T' (es.set i (e.take j ++ xs ++ e.drop (j + xs.length))))) n) : OpR P o a w O μ n K := by
  obtain ⟨b, c, g1, g2, g3, g4⟩ := live_own hr hB hv
  obtain ⟨f1, f2, f3⟩ := cellsA_sound hy hc
  obtain ⟨ie, hie⟩ := info_of_cells (P := P) (T := T) (by omega)
  obtain ⟨w', r1, r2, r3⟩ := store_block (P := P) hr g1 g2 hB he (xs := xs) (us := (a.eval y).cells.toList) (by simpa using f1) hfit f2 (fun q z hq => ⟨(f3 q z hq).1, by simpa using (f3 q z hq).2⟩)
  refine ⟨undef, w', μ, .ud, _, n, .inr ⟨?_, rfl⟩, hk, r3, .ud, r2⟩
  simp only [execOp, ho, g3]
  have : (Instr.storeAt T (.pointer (some ⟨b, i * k + j, none⟩)) (a.eval y)).run P w = .ok () w' := by
    simp [Instr.storeAt, Instr.sureAddr, storeVar, run_sizeOf hie, f1, hlen, r1]
  simp [this]

/-! ### len, min, max -/
def lenA (h : AH) : AV → Option Nat
  | .sl es => some es.length
  | .ms _ _ len => some len
  | .e0 => some 0
  | .sc (.slice none _ 0) => some 0
  | .sc (.string s) => some s.size
  | .sc (.map none) => some 0
  | .mp id => match h id with
    | some (.map kvs) => some kvs.length
    | _ => none
  | _ => none
end
end Go.Abs
