/- Steps of a walk, one lemma for each kind of operation. -/
import Derived.Test.YtmcfapchpedbgaaZC1
set_option linter.unusedSimpArgs false
set_option linter.unusedVariables false
namespace Go.Abs
open Go Go.RowKit

theorem bindS {α β : Type} {o : Option α} {f : α → Option β} {r : β} (h : o.bind f = some r) : ∃ y, o = some y ∧ f y = some r := Option.bind_eq_some_iff.1 h
theorem iteT {α : Type} {b : Bool} {x y z : α} (h : (if b = true then x else y) = z) (hb : b = true) : x = z := by rw [if_pos hb] at h; exact h
theorem iteF {α : Type} {b : Bool} {x y z : α} (h : (if b = true then x else y) = z) (hb : b = false) : y = z := by rw [if_neg (by simp [hb])] at h; exact h

/-- 64 bits -/
def w64 (x : Int) : Int := IntKind.i64.wrap x
theorem w64_id {x : Int} (h1 : -9223372036854775808 ≤ x) (h2 : x ≤ 9223372036854775807) : w64 x = x := wrap_in x h1 h2
/-- an element, if the index is one -/
def gi {α : Type} (l : List α) (i : Int) : Option α := if 0 ≤ i then l[i.toNat]? else none
theorem gi_inv {α : Type} {l : List α} {i : Int} {y : α} (h : gi l i = some y) : 0 ≤ i ∧ l[i.toNat]? = some y := by
  unfold gi at h
  split at h
  · exact ⟨by assumption, h⟩
  · cases h
@[simp] theorem gi_nat {α : Type} (l : List α) (i : Nat) : gi l (i : Int) = l[i]? := by simp [gi]
theorem gi_lt {α : Type} {l : List α} {i : Int} {y : α} (h : gi l i = some y) : 0 ≤ i ∧ i.toNat < l.length := ⟨(gi_inv h).1, (List.getElem?_eq_some_iff.1 (gi_inv h).2).1⟩
/-- store into a list, if the index is one -/
def gs {α : Type} (l : List α) (i : Int) (x : α) : Option (List α) := if 0 ≤ i ∧ i.toNat < l.length then some (l.set i.toNat x) else none
theorem gs_inv {α : Type} {l l' : List α} {i : Int} {x : α} (h : gs l i x = some l') : 0 ≤ i ∧ i.toNat < l.length ∧ l' = l.set i.toNat x := by
  unfold gs at h
  split at h
  · rename_i hc; cases h; exact ⟨hc.1, hc.2, rfl⟩
  · cases h
/-- append, as far as the model's memory goes -/
def gapp {α : Type} (l xs : List α) : Option (List α) := if l.length + xs.length ≤ 1048576 then some (l ++ xs) else none
theorem gapp_inv {α : Type} {l xs l' : List α} (h : gapp l xs = some l') : l.length + xs.length ≤ 1048576 ∧ l' = l ++ xs := by
  unfold gapp at h
  split at h
  · cases h; exact ⟨by assumption, rfl⟩
  · cases h
theorem gapp_eq {α : Type} {l xs : List α} (h : l.length + xs.length ≤ 1048576) : gapp l xs = some (l ++ xs) := if_pos h
def gmk {α : Type} (n : Int) (z : α) : Option (List α) := if 0 ≤ n ∧ n ≤ 1048576 then some (List.replicate n.toNat z) else none
theorem gmk_inv {α : Type} {n : Int} {z : α} {l' : List α} (h : gmk n z = some l') : 0 ≤ n ∧ n ≤ 1048576 ∧ l' = List.replicate n.toNat z := by
  unfold gmk at h
  split at h
  · rename_i hc; cases h; exact ⟨hc.1, hc.2, rfl⟩
  · cases h
/-- l[lo:hi] -/
def gsl {α : Type} (l : List α) (lo hi : Int) : Option (List α) := if 0 ≤ lo ∧ lo ≤ hi ∧ hi ≤ l.length then some ((l.take hi.toNat).drop lo.toNat) else none
theorem gsl_inv {α : Type} {l l' : List α} {lo hi : Int} (h : gsl l lo hi = some l') : 0 ≤ lo ∧ lo ≤ hi ∧ hi ≤ l.length ∧ l' = (l.take hi.toNat).drop lo.toNat := by
  unfold gsl at h
  split at h
  · rename_i hc; cases h; exact ⟨hc.1, hc.2.1, hc.2.2, rfl⟩
  · cases h
/-- a test that has to hold -/
def grd (p : Prop) [Decidable p] : Option Unit := if p then some () else none
theorem grd_inv {p : Prop} [Decidable p] {u : Unit} (h : grd p = some u) : p := by
  unfold grd at h
  split at h
  · assumption
  · cases h
@[simp] theorem grd_true {p : Prop} [Decidable p] (h : p) : grd p = some () := if_pos h

/-! ### the heap as a list -/
def hl : List (Nat × Option ABlk) → AH
  | [], _ => none
  | (i, B) :: l, j => if j = i then B else hl l j
theorem hl_self (i : Nat) (B : Option ABlk) (l : List (Nat × Option ABlk)) : hl ((i, B) :: l) i = B := by simp [hl]
theorem hl_ne {i j : Nat} {B C : Option ABlk} {l : List (Nat × Option ABlk)} (hne : j ≠ i) (h : hl l j = B) : hl ((i, C) :: l) j = B := by simp [hl, hne, h]
theorem hl_new (l : List (Nat × Option ABlk)) (n : Nat) (B : ABlk) : updH (hl l) n B = hl ((n, some B) :: l) := rfl
theorem hu_self (i : Nat) (A : Option ABlk) (B : ABlk) (l : List (Nat × Option ABlk)) : updH (hl ((i, A) :: l)) i B = hl ((i, some B) :: l) := by
  funext j; simp only [updH, hl]; split <;> rfl
theorem hu_ne {i j : Nat} {A : Option ABlk} {B : ABlk} {l l' : List (Nat × Option ABlk)} (hne : j ≠ i) (h : updH (hl l) j B = hl l') : updH (hl ((i, A) :: l)) j B = hl ((i, A) :: l') := by
  funext q
  have := congrFun h q
  simp only [updH, hl] at this ⊢
  by_cases hq : q = j
  · subst hq; rw [if_pos rfl, if_neg hne]; simpa using this
  · rw [if_neg hq] at this ⊢; rw [this]
theorem hd_self (i : Nat) (A : Option ABlk) (l : List (Nat × Option ABlk)) : delH (hl ((i, A) :: l)) i = hl ((i, none) :: l) := by
  funext j; simp only [delH, hl]; split <;> rfl
theorem hd_ne {i j : Nat} {A : Option ABlk} {l l' : List (Nat × Option ABlk)} (hne : j ≠ i) (h : delH (hl l) j = hl l') : delH (hl ((i, A) :: l)) j = hl ((i, A) :: l') := by
  funext q
  have := congrFun h q
  simp only [delH, hl] at this ⊢
  by_cases hq : q = j
  · subst hq; rw [if_pos rfl, if_neg hne]; simpa using this
  · rw [if_neg hq] at this ⊢; rw [this]
theorem del_none {h : AH} {i : Nat} (hn : h i = none) : delH h i = h := by
  funext j; simp only [delH]; split
  · rename_i e; rw [e, hn]
  · rfl

/-- a slice that is nil or wholly own -/
def gsv (id len : Nat) : AV := match len with | 0 => nilS | m + 1 => .ms id 0 (m + 1)
def gsb (k : Nat) (T : TypeId) (es : List (List AV)) : Option ABlk := match es with | [] => none | x :: r => some (.cells k T (x :: r))
theorem gsb_pos {k : Nat} {T : TypeId} {es : List (List AV)} (h : es ≠ []) : gsb k T es = some (.cells k T es) := by cases es <;> first | exact absurd rfl h | rfl
theorem gsv_pos {id len : Nat} (h : 0 < len) : gsv id len = .ms id 0 len := by cases len <;> first | omega | rfl

section
variable {P : Program} {env : Env} {h : AH} {L L' : List (Nat × Option ABlk)} {n : Nat} {K : K3} {d : Option Tmp} {ty : TypeId} {pos : String} {after : Array Edge} {g : Option (Nat × Bool)}

theorem s_mv {x : Operand} {v : AV} (hx : ev env x = v) (hk : K v h n) : aop P env h n ⟨d, .move x, ty, pos, after, g⟩ K := by simp only [aop]; rw [hx]; exact hk
theorem s_as {x : Operand} {v : AV} (hx : ev env x = v) (hk : K v h n) : aop P env h n ⟨d, .assign x, ty, pos, after, g⟩ K := by simp only [aop]; rw [hx]; exact hk
theorem s_pickT {c x y : Operand} {v : AV} (hc : ev env c = .sc (.bool true)) (hx : ev env x = v) (hk : K v h n) : aop P env h n ⟨d, .pick c x y, ty, pos, after, g⟩ K := by simp only [aop, hc, if_true]; rw [hx]; exact hk
theorem s_pickF {c x y : Operand} {v : AV} (hc : ev env c = .sc (.bool false)) (hx : ev env y = v) (hk : K v h n) : aop P env h n ⟨d, .pick c x y, ty, pos, after, g⟩ K := by simp only [aop, hc, Bool.false_eq_true, if_false]; rw [hx]; exact hk
theorem s_alloc {n' : Nat} {T : TypeId} {z : List AV} {m : Nat} (hz : zeroO P T = some z) (hm : z.length = m) (hn : n + 1 = n') (hk : K (.own n 0 0) (hl ((n, some (.cells m T [z])) :: L)) n') : aop P env (hl L) n ⟨d, .alloc T, ty, pos, after, g⟩ K := by
  subst hn
  simp only [aop, hz, hm]; exact hk
theorem s_box {n' : Nat} {T : TypeId} {x : Operand} {cs : List AV} {m : Nat} (hx : cellsA (ev env x) = some cs) (hm : cs.length = m) (hn : n + 1 = n') (hk : K (.own n 0 0) (hl ((n, some (.cells m T [cs])) :: L)) n') : aop P env (hl L) n ⟨d, .box T x, ty, pos, after, g⟩ K := by
  subst hn
  simp only [aop, hx, hm]; exact hk
/-- load of one cell -/
theorem s_load1 {T : TypeId} {x : Operand} {cs : List AV} {c : AV} (ha : aggO P T = some false) (hp : deref h (ev env x) = some cs) (hc : cs[0]? = some c) (hk : K c h n) : aop P env h n ⟨d, .load T x, ty, pos, after, g⟩ K := by
  simp only [aop, hp, loadK, ha]; exact ⟨c, hc, hk⟩
theorem s_loadA {T : TypeId} {x : Operand} {cs cs' : List AV} {m : Nat} (ha : aggO P T = some true) (hm : P.cellsOf T = m) (hp : deref h (ev env x) = some cs) (hle : m ≤ cs.length) (hc : cs.take m = cs') (hk : K (.ag cs') h n) : aop P env h n ⟨d, .load T x, ty, pos, after, g⟩ K := by
  simp only [aop, hp, loadK, ha, hm, hc]; exact ⟨hle, hk⟩
theorem d_fp {x : Operand} {cs : List AV} (hx : ev env x = .fp cs) : deref h (ev env x) = some cs := by rw [hx]; rfl
theorem d_own {x : Operand} {id i j k : Nat} {T : TypeId} {es : List (List AV)} {e cs : List AV} (hx : ev env x = .own id i j) (hh : h id = some (.cells k T es)) (he : es[i]? = some e) (hc : e.drop j = cs) : deref h (ev env x) = some cs := by
  rw [hx]; simp only [deref, hh, he, Option.map_some, hc]
theorem d_gs {x : Operand} {id i j k : Nat} {T : TypeId} {es : List (List AV)} {e cs : List AV} (hx : ev env x = .own id i j) (hh : h id = gsb k T es) (he : es[i]? = some e) (hc : e.drop j = cs) : deref h (ev env x) = some cs :=
  d_own hx (by rw [hh]; exact gsb_pos (by rintro rfl; simp at he)) he hc
theorem s_store {T T' : TypeId} {p x : Operand} {id i j k : Nat} {es : List (List AV)} {e xs : List AV} {m : Nat} {E : List (List AV)} (hp : ev env p = .own id i j) (hh : hl L id = some (.cells k T' es)) (he : es[i]? = some e) (hx : cellsA (ev env x) = some xs) (hm : P.cellsOf T = m)
    (hl' : xs.length = m) (h0 : m ≠ 0) (hle : j + m ≤ e.length) (hE : es.set i (putAt e j xs) = E) (hu : updH (hl L) id (.cells k T' E) = hl L') (hk : K .ud (hl L') n) : aop P env (hl L) n ⟨d, .store T p x, ty, pos, after, g⟩ K := by
  simp only [aop, hp, storeK, hh, hx, he, hm]
  exact ⟨hl', by omega, by omega, by rw [hE, hu]; exact hk⟩
theorem s_nilFp {x : Operand} {cs : List AV} (hx : ev env x = .fp cs) (hk : K (.fp cs) h n) : aop P env h n ⟨d, .nilCheck x, ty, pos, after, g⟩ K := by simp only [aop, hx]; exact ⟨rfl, hk⟩
theorem s_nilOwn {x : Operand} {id i j k : Nat} {T : TypeId} {es : List (List AV)} (hx : ev env x = .own id i j) (hh : h id = some (.cells k T es)) (hk : K (.own id i j) h n) : aop P env h n ⟨d, .nilCheck x, ty, pos, after, g⟩ K := by
  simp only [aop, hx, liveA, hh, isCells]; exact ⟨trivial, hk⟩
theorem s_nilFn {x : Operand} {f : FuncId} {cs : List AV} (hx : ev env x = .fn f cs) (hk : K (.fn f cs) h n) : aop P env h n ⟨d, .nilCheck x, ty, pos, after, g⟩ K := by simp only [aop, hx]; exact ⟨rfl, hk⟩

/-! numbers -/
theorem s_bin {op : BinOp} {T T2 : TypeId} {x y : Operand} {a b : AV} (hx : ev env x = a) (hy : ev env y = b) (hk : abin P h op T a b fun v => K v h n) : aop P env h n ⟨d, .binOp op T x y T2, ty, pos, after, g⟩ K := by
  simp only [aop]; rw [hx, hy]; exact hk
section
variable {T : TypeId} {k : IntKind} {a b : Int} {F : AV → Prop}
theorem b_add (hk : F (.sc (.int k (k.wrap (a + b))))) : abin P h .add T (.sc (.int k a)) (.sc (.int k b)) F := ⟨rfl, hk⟩
theorem b_sub (hk : F (.sc (.int k (k.wrap (a - b))))) : abin P h .sub T (.sc (.int k a)) (.sc (.int k b)) F := ⟨rfl, hk⟩
theorem b_mul (hk : F (.sc (.int k (k.wrap (a * b))))) : abin P h .mul T (.sc (.int k a)) (.sc (.int k b)) F := ⟨rfl, hk⟩
theorem b_add64 (hk : F (.sc (.int .i64 (w64 (a + b))))) : abin P h .add T (.sc (.int .i64 a)) (.sc (.int .i64 b)) F := ⟨rfl, hk⟩
theorem b_sub64 (hk : F (.sc (.int .i64 (w64 (a - b))))) : abin P h .sub T (.sc (.int .i64 a)) (.sc (.int .i64 b)) F := ⟨rfl, hk⟩
theorem b_mul64 (hk : F (.sc (.int .i64 (w64 (a * b))))) : abin P h .mul T (.sc (.int .i64 a)) (.sc (.int .i64 b)) F := ⟨rfl, hk⟩
theorem b_quo64 (hb : b ≠ 0) (hk : F (.sc (.int .i64 (w64 (a.tdiv b))))) : abin P h .quo T (.sc (.int .i64 a)) (.sc (.int .i64 b)) F := ⟨rfl, hb, hk⟩
theorem b_quo (hb : b ≠ 0) (hk : F (.sc (.int k (k.wrap (a.tdiv b))))) : abin P h .quo T (.sc (.int k a)) (.sc (.int k b)) F := ⟨rfl, hb, hk⟩
theorem b_rem (hb : b ≠ 0) (hk : F (.sc (.int k (a.tmod b)))) : abin P h .rem T (.sc (.int k a)) (.sc (.int k b)) F := ⟨rfl, hb, hk⟩
theorem b_and (hk : F (.sc (.int k (bitsI .and k a b)))) : abin P h .and T (.sc (.int k a)) (.sc (.int k b)) F := ⟨rfl, hk⟩
theorem b_or (hk : F (.sc (.int k (bitsI .or k a b)))) : abin P h .or T (.sc (.int k a)) (.sc (.int k b)) F := ⟨rfl, hk⟩
theorem b_xor (hk : F (.sc (.int k (bitsI .xor k a b)))) : abin P h .xor T (.sc (.int k a)) (.sc (.int k b)) F := ⟨rfl, hk⟩
theorem b_andNot (hk : F (.sc (.int k (bitsI .andNot k a b)))) : abin P h .andNot T (.sc (.int k a)) (.sc (.int k b)) F := ⟨rfl, hk⟩
theorem b_eql (hk : F (.sc (.bool (a == b)))) : abin P h .eql T (.sc (.int k a)) (.sc (.int k b)) F := ⟨rfl, hk⟩
theorem b_neq (hk : F (.sc (.bool (a != b)))) : abin P h .neq T (.sc (.int k a)) (.sc (.int k b)) F := ⟨rfl, hk⟩
theorem b_lss (hk : F (.sc (.bool (decide (a < b))))) : abin P h .lss T (.sc (.int k a)) (.sc (.int k b)) F := ⟨rfl, hk⟩
theorem b_leq (hk : F (.sc (.bool (decide (a ≤ b))))) : abin P h .leq T (.sc (.int k a)) (.sc (.int k b)) F := ⟨rfl, hk⟩
theorem b_gtr (hk : F (.sc (.bool (decide (b < a))))) : abin P h .gtr T (.sc (.int k a)) (.sc (.int k b)) F := ⟨rfl, hk⟩
theorem b_geq (hk : F (.sc (.bool (decide (b ≤ a))))) : abin P h .geq T (.sc (.int k a)) (.sc (.int k b)) F := ⟨rfl, hk⟩
theorem b_shl {k' : IntKind} (h0 : 0 ≤ b) (hk : F (.sc (.int k (k.wrap (a * 2 ^ (min b.toNat k.bits)))))) : abin P h .shl T (.sc (.int k a)) (.sc (.int k' b)) F := ⟨h0, hk⟩
theorem b_shr {k' : IntKind} (h0 : 0 ≤ b) (hk : F (.sc (.int k (a.fdiv (2 ^ (min b.toNat k.bits)))))) : abin P h .shr T (.sc (.int k a)) (.sc (.int k' b)) F := ⟨h0, hk⟩
theorem b_beq {x y : Bool} (hT : P.underlying T = some .bool) (hk : F (.sc (.bool (x == y)))) : abin P h .eql T (.sc (.bool x)) (.sc (.bool y)) F := ⟨hT, hk⟩
theorem b_bne {x y : Bool} (hT : P.underlying T = some .bool) (hk : F (.sc (.bool (!(x == y))))) : abin P h .neq T (.sc (.bool x)) (.sc (.bool y)) F := ⟨hT, hk⟩
end
theorem s_not {T : TypeId} {x : Operand} {b : Bool} (hx : ev env x = .sc (.bool b)) (hk : K (.sc (.bool (!b))) h n) : aop P env h n ⟨d, .unOp .not T x, ty, pos, after, g⟩ K := by simp only [aop, hx, unK]; exact hk
theorem s_neg {T : TypeId} {x : Operand} {k : IntKind} {b : Int} (hx : ev env x = .sc (.int k b)) (hk : K (.sc (.int k (k.wrap (0 - b)))) h n) : aop P env h n ⟨d, .unOp .neg T x, ty, pos, after, g⟩ K := by simp only [aop, hx, unK]; exact hk
theorem s_conv {S T : TypeId} {x : Operand} {k k' : IntKind} {b : Int} (hx : ev env x = .sc (.int k b)) (hT : intO P T = some k') (hS : (P.underlying S).isSome = true) (hk : K (.sc (.int k' (k'.wrap b))) h n) : aop P env h n ⟨d, .convert S T x, ty, pos, after, g⟩ K := by
  simp only [aop, hx, convK, hT]; exact ⟨hS, hk⟩
theorem s_minmax {ts : Array TypeId} {x y : Operand} {k : IntKind} {a b : Int} (hx : ev env x = .sc (.int k a)) (hy : ev env y = .sc (.int k b)) : (K (.sc (.int k (if b < a then b else a))) h n → aop P env h n ⟨d, .call ⟨.builtin .min, #[x, y], ts⟩, ty, pos, after, g⟩ K) ∧
    (K (.sc (.int k (if a < b then b else a))) h n → aop P env h n ⟨d, .call ⟨.builtin .max, #[x, y], ts⟩, ty, pos, after, g⟩ K) := by
  simp only [aop, builtinK, hx, hy]; exact ⟨fun h => ⟨trivial, h⟩, fun h => ⟨trivial, h⟩⟩

/-! functions, fields, elements -/
theorem s_fn {f : FuncId} {caps : Array Operand} {cs : List AV} (hc : caps.toList.map (ev env) = cs) (hk : K (.fn f cs) h n) : aop P env h n ⟨d, .makeFunc (.func f) #[] caps, ty, pos, after, g⟩ K := by simp only [aop]; exact ⟨trivial, by rw [hc]; exact hk⟩
theorem s_faFp {T t : TypeId} {x : Operand} {f o : Nat} {cs cs' : List AV} (hf : fldO P T f = some (o, t)) (hx : ev env x = .fp cs) (hc : cs.drop o = cs') (hk : K (.fp cs') h n) : aop P env h n ⟨d, .fieldAddr T x f, ty, pos, after, g⟩ K := by
  simp only [aop, hf, hx, hc]; exact hk
theorem s_faOwn {T t : TypeId} {x : Operand} {f o id i j j' : Nat} (hf : fldO P T f = some (o, t)) (hx : ev env x = .own id i j) (hj : j + o = j') (hh : isCells (h id) = true) (hk : K (.own id i j') h n) : aop P env h n ⟨d, .fieldAddr T x f, ty, pos, after, g⟩ K := by
  simp only [aop, hf, hx]; exact ⟨hh, hj ▸ hk⟩
theorem isC {k : Nat} {T : TypeId} {es : List (List AV)} {B : Option ABlk} (h : B = some (.cells k T es)) : isCells B = true := by rw [h]; rfl
theorem isG {k : Nat} {T : TypeId} {es : List (List AV)} {B : Option ABlk} {i : Nat} {e : List AV} (h : B = gsb k T es) (he : es[i]? = some e) : isCells B = true := by rw [h, gsb_pos (by rintro rfl; simp at he)]; rfl
theorem s_fld1 {T t : TypeId} {x : Operand} {f o : Nat} {cs : List AV} {c : AV} (hf : fldO P T f = some (o, t)) (hx : ev env x = .ag cs) (ha : aggO P t = some false) (hc : cs[o]? = some c) (hk : K c h n) : aop P env h n ⟨d, .field T x f, ty, pos, after, g⟩ K := by
  simp only [aop, hf, hx, partK, ha]; exact ⟨c, hc, hk⟩
theorem s_fldA {T t : TypeId} {x : Operand} {f o m : Nat} {cs cs' : List AV} (hf : fldO P T f = some (o, t)) (hx : ev env x = .ag cs) (ha : aggO P t = some true) (hm : P.cellsOf t = m) (hc : (cs.drop o).take m = cs') (hk : K (.ag cs') h n) : aop P env h n ⟨d, .field T x f, ty, pos, after, g⟩ K := by
  simp only [aop, hf, hx, partK, ha, hm, hc]; exact hk
theorem s_ixSl {α : Type} {T e : TypeId} {x i : Operand} {k : IntKind} {l : List α} {f : α → List AV} {j : Int} {y : α} {m : Nat} (he : elemO P T = some e) (hx : ev env x = .sl (l.map f)) (hi : ev env i = .sc (.int k j)) (hg : gi l j = some y) (hm : P.cellsOf e = m) (hl : (f y).length = m) (h0 : m ≠ 0)
    (hk : K (.fp (f y)) h n) : aop P env h n ⟨d, .indexAddr T x i, ty, pos, after, g⟩ K := by
  obtain ⟨g0, g1⟩ := gi_inv hg
  simp only [aop, hx, hi, idxAddrK, he, hm]
  exact ⟨g0, f y, by rw [List.getElem?_map, g1]; rfl, hl, by omega, hk⟩
theorem s_ixMs {T T' e : TypeId} {x i : Operand} {k : IntKind} {id off len m : Nat} {es : List (List AV)} {j : Int} (he : elemO P T = some e) (hx : ev env x = .ms id off len) (hi : ev env i = .sc (.int k j)) (hh : h id = some (.cells m T' es)) (hj : 0 ≤ j) (hj' : j < len) (hm : P.cellsOf e = m) (h0 : m ≠ 0)
    (hk : K (.own id (off + j.toNat) 0) h n) : aop P env h n ⟨d, .indexAddr T x i, ty, pos, after, g⟩ K := by
  simp only [aop, hx, hi, idxAddrK, he, hm, hh]
  exact ⟨hj, hj', trivial, h0, hk⟩
theorem s_ixG {T T' e : TypeId} {x i : Operand} {k : IntKind} {id len m : Nat} {es : List (List AV)} {j : Int} (he : elemO P T = some e) (hx : ev env x = gsv id len) (hle : len = es.length) (hi : ev env i = .sc (.int k j)) (hh : h id = gsb m T' es) (hj : 0 ≤ j) (hj' : j < len) (hm : P.cellsOf e = m) (h0 : m ≠ 0)
    (hk : K (.own id j.toNat 0) h n) : aop P env h n ⟨d, .indexAddr T x i, ty, pos, after, g⟩ K := by
  rw [gsv_pos (by omega)] at hx
  rw [gsb_pos (by rintro rfl; simp at hle; omega)] at hh
  simp only [aop, hx, hi, idxAddrK, he, hm, hh]
  exact ⟨hj, hj', trivial, h0, by simpa using hk⟩
theorem s_ixArr {T e : TypeId} {x i : Operand} {k : IntKind} {id a q m w : Nat} {j : Int} (he : arrO P T = some (m, e)) (hx : ev env x = .own id a q) (hi : ev env i = .sc (.int k j)) (hh : isCells (h id) = true) (hj : 0 ≤ j) (hj' : j < m) (hw : P.cellsOf e = w) (h0 : w ≠ 0)
    (hk : K (.own id a (q + j.toNat * w)) h n) : aop P env h n ⟨d, .indexAddr T x i, ty, pos, after, g⟩ K := by
  obtain ⟨B, hB⟩ : ∃ B, h id = some B := by
    cases hb : h id with
    | none => rw [hb] at hh; cases hh
    | some B => exact ⟨B, rfl⟩
  cases B with
  | map kvs => rw [hB] at hh; cases hh
  | cells k T es =>
    simp only [aop, hx, hi, idxAddrK, he, hB, hw]
    exact ⟨hj, hj', h0, hk⟩
/-- an element of an array that is a value; elements of one cell -/
theorem s_ixAg {T e : TypeId} {x i : Operand} {k : IntKind} {m : Nat} {j : Int} {cs : List AV} {c : AV} (he : arrO P T = some (m, e)) (hx : ev env x = .ag cs) (hi : ev env i = .sc (.int k j)) (hj : 0 ≤ j) (hj' : j < m) (hw : P.cellsOf e = 1) (ha : aggO P e = some false) (hc : cs[j.toNat]? = some c)
    (hk : K c h n) : aop P env h n ⟨d, .index T x i, ty, pos, after, g⟩ K := by
  simp only [aop, hx, hi, idxK, he, hw, partK, ha, Nat.mul_one]
  exact ⟨hj, hj', by omega, c, hc, hk⟩
theorem s_ext {x : Operand} {i : Nat} {cs : List AV} {c : AV} (hx : ev env x = .tp cs) (hc : cs[i]? = some c) (hk : K c h n) : aop P env h n ⟨d, .extract x i, ty, pos, after, g⟩ K := by simp only [aop, hx]; exact ⟨c, hc, hk⟩
theorem s_build {T : TypeId} {parts : Array (Nat × Operand)} {z cs : List AV} {pl : List (Nat × Nat)} (hz : zeroO P T = some z) (hp : placesO P T = some pl) (hf : fillS pl env parts.toList z = some cs) (hk : K (.ag cs) h n) : aop P env h n ⟨d, .build T parts, ty, pos, after, g⟩ K := by
  simp only [aop, hz, hp, hf]; exact hk
theorem s_bsl {n' : Nat} {T e : TypeId} {len m : Nat} {parts : Array (Nat × Operand)} {z : List AV} {es : List (List AV)} (he : elemO P T = some e) (hz : zeroO P e = some z) (hm : z.length = m) (h1 : len ≤ 1000) (h2 : m ≤ 1000) (hf : fillE m env parts.toList (List.replicate len z) = some es)
    (hn : n + 1 = n') (hk : K (.ms n 0 len) (hl ((n, some (.cells m e es)) :: L)) n') : aop P env (hl L) n ⟨d, .buildSlice T len parts, ty, pos, after, g⟩ K := by
  subst hn
  simp only [aop, he, hz, hm, hf]; exact ⟨h1, h2, .inl hk⟩
theorem s_bslF {T e : TypeId} {len m : Nat} {parts : Array (Nat × Operand)} {z : List AV} {es es' : List (List AV)} (he : elemO P T = some e) (hz : zeroO P e = some z) (hm : z.length = m) (h1 : len ≤ 1000) (h2 : m ≤ 1000) (hf : fillE m env parts.toList (List.replicate len z) = some es)
    (hes : es = es') (hk : K (.sl es') h n) : aop P env h n ⟨d, .buildSlice T len parts, ty, pos, after, g⟩ K := by
  subst hes
  simp only [aop, he, hz, hm, hf]; exact ⟨h1, h2, .inr (.inl hk)⟩
theorem s_bsl0 {T e : TypeId} {m : Nat} {parts : Array (Nat × Operand)} {z : List AV} {es : List (List AV)} (he : elemO P T = some e) (hz : zeroO P e = some z) (hm : z.length = m) (h2 : m ≤ 1000) (hf : fillE m env parts.toList (List.replicate 0 z) = some es)
    (hk : K .e0 h n) : aop P env h n ⟨d, .buildSlice T 0 parts, ty, pos, after, g⟩ K := by
  simp only [aop, he, hz, hm, hf]; exact ⟨by omega, h2, .inr (.inr ⟨trivial, hk⟩)⟩
theorem s_mks {T e : TypeId} {m : Nat} {x y : Operand} {k k' : IntKind} {i : Int} {z : List AV} (he : elemO P T = some e) (hz : zeroO P e = some z) (hm : z.length = m) (hx : ev env x = .sc (.int k i)) (hy : ev env y = .sc (.int k' i)) (h0 : 0 ≤ i) (h1 : i ≤ 1048576) (hb : P.bytesOf e ≤ 1024) (hne : m ≠ 0)
    (hk : K (.ms n 0 i.toNat) (hl ((n, some (.cells m e (List.replicate i.toNat z))) :: L)) (n + 1)) : aop P env (hl L) n ⟨d, .makeSlice T x y, ty, pos, after, g⟩ K := by
  simp only [aop, he, hz, hx, hy, hm]
  exact ⟨trivial, h0, h1, hb, by rintro rfl; exact hne hm.symm, hk⟩
theorem s_mmap {n' : Nat} {T : TypeId} (hn : n + 1 = n') (hk : K (.mp n) (hl ((n, some (.map [])) :: L)) n') : aop P env (hl L) n ⟨d, .makeMap T none, ty, pos, after, g⟩ K := by
  subst hn
  simp only [aop]; exact hk

/-! slices -/
theorem s_lenSl {α : Type} {T e : TypeId} {x : Operand} {l : List α} {f : α → List AV} (he : elemO P T = some e) (hx : ev env x = .sl (l.map f)) (hk : l.length ≤ 9223372036854775807 → K (.sc (.int .i64 l.length)) h n) : aop P env h n ⟨d, .call ⟨.builtin .len, #[x], #[T]⟩, ty, pos, after, g⟩ K := by
  simp only [aop, builtinK, hx, lenK, he, List.length_map]; exact ⟨rfl, hk⟩
theorem s_lenMs {T e : TypeId} {x : Operand} {id off len : Nat} (he : elemO P T = some e) (hx : ev env x = .ms id off len) (hh : isCells (h id) = true) (hk : len ≤ 9223372036854775807 → K (.sc (.int .i64 len)) h n) : aop P env h n ⟨d, .call ⟨.builtin .len, #[x], #[T]⟩, ty, pos, after, g⟩ K := by
  simp only [aop, builtinK, hx, lenK, he]; exact ⟨rfl, hh, hk⟩
theorem s_lenNil {T e : TypeId} {x : Operand} (he : elemO P T = some e) (hx : ev env x = nilS) (hk : K (.sc (.int .i64 0)) h n) : aop P env h n ⟨d, .call ⟨.builtin .len, #[x], #[T]⟩, ty, pos, after, g⟩ K := by
  simp only [aop, builtinK, hx, lenK, he]; exact ⟨rfl, hk⟩
theorem s_lenG {T T' e : TypeId} {x : Operand} {id len m : Nat} {es : List (List AV)} (he : elemO P T = some e) (hx : ev env x = gsv id len) (hle : len = es.length) (hh : h id = gsb m T' es) (hk : len ≤ 9223372036854775807 → K (.sc (.int .i64 len)) h n) : aop P env h n ⟨d, .call ⟨.builtin .len, #[x], #[T]⟩, ty, pos, after, g⟩ K := by
  cases len with
  | zero => exact s_lenNil he hx (hk (by omega))
  | succ m => exact s_lenMs he hx (by rw [hh, gsb_pos (by rintro rfl; simp at hle)]; rfl) hk
theorem s_slSl {α : Type} {T e : TypeId} {x : Operand} {lo hi : Option Operand} {l l' : List α} {f : α → List AV} {a b : Int} {m : Nat} (he : elemO P T = some e) (hi0 : ∃ i, P.info? e = some i) (hx : ev env x = .sl (l.map f)) (hlo : loA (lo.map (ev env)) = some a) (hhi : hiA l.length (hi.map (ev env)) = some b)
    (hg : gsl l a b = some l') (hm : P.cellsOf e = m) (hf : ∀ y, (f y).length = m) (hk : K (.sl (l'.map f)) h n) : aop P env h n ⟨d, .slice T x lo hi none, ty, pos, after, g⟩ K := by
  obtain ⟨g1, g2, g3, rfl⟩ := gsl_inv hg
  simp only [aop, hx, sliceK, boundsK, hlo, List.length_map, hhi]
  refine ⟨⟨e, he, hi0, fun c hc => ?_⟩, g1, g2, g3, ?_⟩
  · cases l with
    | nil => simp at hc
    | cons y l => simp at hc; rw [← hc, hf, hm]
  · rw [← List.map_take, ← List.map_drop]; exact hk
theorem s_app {T T2 e : TypeId} {s x : Operand} {m : Nat} {z : List AV} {es xs : List (List AV)} {id : Nat} (hp : plainT P T2 = true) (he : elemO P T = some e) (hz : zeroO P e = some z) (hm : z.length = m) (h0 : m ≠ 0) (hb : P.bytesOf e ≤ 1024) (hs : ev env s = gsv id es.length) (hh : hl L id = gsb m e es) (hx : srcA (hl L) m (ev env x) = some xs) (hne : xs ≠ [])
    (hle : es.length + xs.length ≤ 1048576) (hd : delH (hl L) id = hl L') (hk : K (gsv n (es.length + xs.length)) (hl ((n, gsb m e (es ++ xs)) :: L')) (n + 1)) : aop P env (hl L) n ⟨d, .call ⟨.builtin .append, #[s, x], #[T, T2]⟩, ty, pos, after, g⟩ K := by
  have hx0 : 0 < xs.length := by cases xs with | nil => exact absurd rfl hne | cons _ _ => simp
  rw [gsv_pos (by omega), gsb_pos (by simp [hne])] at hk
  simp only [aop, builtinK, appendK, he, hz, hm, hx]
  refine ⟨hp, by rintro rfl; exact h0 hm.symm, hb, ?_⟩
  cases es with
  | nil =>
    rw [hs]
    simp only [List.length_nil, gsv]
    simp only [List.length_nil, Nat.zero_add, List.nil_append] at hk hle
    refine ⟨hle, fun e => absurd e hne, fun _ => ?_⟩
    rw [del_none hh] at hd
    rw [hd]; exact hk
  | cons y es =>
    rw [hs]
    simp only [List.length_cons, gsv]
    have hh' : hl L id = some (.cells m e (y :: es)) := hh
    rw [hh']
    refine ⟨rfl, rfl, rfl, by simpa using hle, ?_⟩
    rw [hd]
    simpa [hl_new] using hk
theorem s_appM {T T2 e : TypeId} {s x : Operand} {m len : Nat} {z : List AV} {es xs : List (List AV)} {id : Nat} (hp : plainT P T2 = true) (he : elemO P T = some e) (hz : zeroO P e = some z) (hm : z.length = m) (h0 : m ≠ 0) (hb : P.bytesOf e ≤ 1024) (hs : ev env s = .ms id 0 len) (hlen : es.length = len) (hh : hl L id = some (.cells m e es)) (hx : srcA (hl L) m (ev env x) = some xs)
    (hle : es.length + xs.length ≤ 1048576) (hd : delH (hl L) id = hl L') (hk : K (.ms n 0 (len + xs.length)) (hl ((n, some (.cells m e (es ++ xs))) :: L')) (n + 1)) : aop P env (hl L) n ⟨d, .call ⟨.builtin .append, #[s, x], #[T, T2]⟩, ty, pos, after, g⟩ K := by
  simp only [aop, builtinK, appendK, he, hz, hm, hx]
  refine ⟨hp, by rintro rfl; exact h0 hm.symm, hb, ?_⟩
  rw [hs]
  simp only [hh]
  refine ⟨trivial, trivial, hlen, by omega, ?_⟩
  rw [hd]
  exact hk
theorem src_ms {h : AH} {id off len k : Nat} {T : TypeId} {es xs : List (List AV)} {x : AV} (hx : x = .ms id off len) (hh : h id = some (.cells k T es)) (hle : off + len ≤ es.length) (hxs : (es.drop off).take len = xs) : srcA h k x = some xs := by
  rw [hx]; simp only [srcA, hh]; rw [if_pos ⟨trivial, hle⟩, hxs]
theorem src_sl {α : Type} {h : AH} {k : Nat} {l : List α} {f : α → List AV} {x : AV} (hx : x = .sl (l.map f)) (hf : ∀ y, (f y).length = k) : srcA h k x = some (l.map f) := by
  rw [hx]; simp only [srcA]; rw [if_pos]; simp [hf]
theorem src_nil {h : AH} {k : Nat} {x : AV} (hx : x = nilS) : srcA h k x = some [] := by rw [hx]; rfl

/-! calls -/
theorem s_call {c : Call} {f : Operand} {gg : FuncId} {caps avs : List AV} (hc : c.callee = .value f) (hf : ev env f = .fn gg caps) (ha : c.args.toList.map (ev env) ++ caps = avs) (hk : HC P gg avs h n K) : aop P env h n ⟨d, .call c, ty, pos, after, g⟩ K := by
  obtain ⟨callee, args, ts⟩ := c
  simp only at hc ha
  subst hc
  simp only [aop, callK, hf]
  rw [ha]; exact hk
end
/-! typed lists -/
theorem mapget {α β : Type} {l : List α} {f : α → β} {j : Int} {y : α} (h : gi l j = some y) : (l.map f)[j.toNat]? = some (f y) := by rw [List.getElem?_map, (gi_inv h).2]; rfl
theorem mapget1 {l : List Int} {j y : Int} (h : gi l j = some y) : (l.map int)[j.toNat]? = some (int y) := mapget h
theorem dropget {l : List Int} {j y : Int} (h : gi l j = some y) : ((l.map int).drop j.toNat)[0]? = some (int y) := by rw [List.getElem?_drop]; exact mapget h
theorem set_map {α β : Type} {l : List α} {f : α → β} {k : Nat} {c : β} {y : α} (h : c = f y) : (l.map f).set k c = (l.set k y).map f := by rw [h, List.map_set]
theorem set_arr (l : List Int) (k : Nat) (x : Int) : [l.map int].set 0 (putAt (l.map int) k [int x]) = [(l.set k x).map int] := by simp [putAt, List.map_set]
theorem ltl {α : Type} {l : List α} {j : Int} {y : α} {m : Nat} (h : gi l j = some y) (hl : l.length = m) : j < m := by have := gi_lt h; omega
theorem gmk_len {α : Type} {n : Int} {z : α} {l : List α} (h : gmk n z = some l) : n.toNat = l.length := by obtain ⟨_, _, rfl⟩ := gmk_inv h; simp
theorem zeroT {P : Program} {e : TypeId} {z z' : List AV} (h : zeroO P e = some z) (hz : z = z') : zeroO P e = some z' := hz ▸ h
theorem srcle {α : Type} {l : List α} {f : α → List AV} {len : Nat} (h : l.length = len) : 0 + len ≤ (l.map f).length := by simp; omega
theorem srctk {α : Type} {l : List α} {f : α → List AV} {len : Nat} (h : l.length = len) : ((l.map f).drop 0).take len = l.map f := by simp [← h, List.take_of_length_le]
section
variable {P : Program} {env : Env} {h : AH} {L L' : List (Nat × Option ABlk)} {n : Nat} {K : K3} {d : Option Tmp} {ty : TypeId} {pos : String} {after : Array Edge} {g : Option (Nat × Bool)}
theorem s_mkT {n' : Nat} {α : Type} {T e : TypeId} {m : Nat} {x y : Operand} {k k' : IntKind} {i : Int} {f : α → List AV} {z0 : α} {l : List α} (he : elemO P T = some e) (hz : zeroO P e = some (f z0)) (hm : (f z0).length = m ∧ m ≠ 0) (hx : ev env x = .sc (.int k i)) (hy : ev env y = .sc (.int k' i)) (hg : gmk i z0 = some l) (hb : P.bytesOf e ≤ 1024)
    (hn : n + 1 = n') (hk : K (.ms n 0 l.length) (hl ((n, some (.cells m e (l.map f))) :: L)) n') : aop P env (hl L) n ⟨d, .makeSlice T x y, ty, pos, after, g⟩ K := by
  subst hn
  obtain ⟨h0, h1, h2⟩ := gmk_inv hg
  refine s_mks he hz hm.1 hx hy h0 h1 hb hm.2 ?_
  rw [gmk_len hg, ← List.map_replicate, ← gmk_len hg, ← h2]
  rw [gmk_len hg]; exact hk
theorem s_loadArr {T T' : TypeId} {x : Operand} {id k m : Nat} {l : List Int} (ha : aggO P T = some true) (hm : P.cellsOf T = m) (hx : ev env x = .own id 0 0) (hh : h id = some (.cells k T' [l.map int])) (hlen : l.length = m) (hk : K (.ag (l.map int)) h n) : aop P env h n ⟨d, .load T x, ty, pos, after, g⟩ K :=
  s_loadA ha hm (d_own hx hh rfl rfl) (by simp [hlen]) (by rw [List.drop_zero]; exact List.take_of_length_le (by simp [hlen])) hk
theorem s_ixM0 {T T' e : TypeId} {x i : Operand} {k : IntKind} {id len m : Nat} {es : List (List AV)} {j : Int} (he : elemO P T = some e) (hx : ev env x = .ms id 0 len) (hi : ev env i = .sc (.int k j)) (hh : h id = some (.cells m T' es)) (hj : 0 ≤ j) (hj' : j < len) (hm : P.cellsOf e = m) (h0 : m ≠ 0)
    (hk : K (.own id j.toNat 0) h n) : aop P env h n ⟨d, .indexAddr T x i, ty, pos, after, g⟩ K := s_ixMs he hx hi hh hj hj' hm h0 (by simpa using hk)
theorem s_ixA1 {T e : TypeId} {x i : Operand} {k : IntKind} {id a m : Nat} {j : Int} (he : arrO P T = some (m, e)) (hx : ev env x = .own id a 0) (hi : ev env i = .sc (.int k j)) (hh : isCells (h id) = true) (hj : 0 ≤ j) (hj' : j < m) (hw : P.cellsOf e = 1)
    (hk : K (.own id a j.toNat) h n) : aop P env h n ⟨d, .indexAddr T x i, ty, pos, after, g⟩ K := s_ixArr he hx hi hh hj hj' hw (by omega) (by simpa using hk)
theorem s_ixStr {T : TypeId} {x i : Operand} {k : IntKind} {l : List UInt8} {j : Int} {y : UInt8} (hT : P.underlying T = some .string) (hx : ev env x = .sc (.string ⟨l.toArray⟩)) (hi : ev env i = .sc (.int k j)) (hg : gi l j = some y)
    (hk : K (.sc (.int .u8 (y.toNat : Int))) h n) : aop P env h n ⟨d, .index T x i, ty, pos, after, g⟩ K := by
  obtain ⟨g0, g1⟩ := gi_inv hg
  have g2 := (List.getElem?_eq_some_iff.1 g1)
  simp only [aop, hx, hi, idxK]
  refine ⟨hT, g0, y, ?_, hk⟩
  obtain ⟨h1, h2⟩ := g2
  have hs : j.toNat < (⟨l.toArray⟩ : ByteArray).size := by simpa [ByteArray.size] using h1
  rw [getElem?_pos (⟨l.toArray⟩ : ByteArray) j.toNat hs]
  exact congrArg some h2
theorem s_lenStr {T : TypeId} {x : Operand} {l : List UInt8} (hT : P.underlying T = some .string) (hx : ev env x = .sc (.string ⟨l.toArray⟩)) (hk : K (.sc (.int .i64 l.length)) h n) : aop P env h n ⟨d, .call ⟨.builtin .len, #[x], #[T]⟩, ty, pos, after, g⟩ K := by
  simp only [aop, builtinK, hx, lenK]; exact ⟨hT, by simpa [ByteArray.size] using hk⟩
theorem s_appT {n' : Nat} {α : Type} {T T2 e : TypeId} {s x : Operand} {m : Nat} {z : List AV} {l ys l' : List α} {f : α → List AV} {xs : List (List AV)} {id : Nat} (hp : plainT P T2 = true) (he : elemO P T = some e) (hz : zeroO P e = some z) (hm : z.length = m) (h0 : m ≠ 0) (hb : P.bytesOf e ≤ 1024) (hs : ev env s = gsv id l.length) (hh : hl L id = gsb m e (l.map f)) (hx : srcA (hl L) m (ev env x) = some xs) (hxs : xs = ys.map f) (hne : ys ≠ [])
    (hg : gapp l ys = some l') (hd : delH (hl L) id = hl L') (hn : n + 1 = n') (hk : K (gsv n l'.length) (hl ((n, gsb m e (l'.map f)) :: L')) n') : aop P env (hl L) n ⟨d, .call ⟨.builtin .append, #[s, x], #[T, T2]⟩, ty, pos, after, g⟩ K := by
  subst hn
  obtain ⟨g1, rfl⟩ := gapp_inv hg
  subst hxs
  refine s_app hp he hz hm h0 hb (by simpa using hs) hh hx (by simpa using hne) (by simpa using g1) hd ?_
  rw [← List.map_append, List.length_map, List.length_map, ← List.length_append]; exact hk
theorem s_appT0 {n' : Nat} {α : Type} {T T2 e : TypeId} {s x : Operand} {m : Nat} {z : List AV} {ys l' : List α} {f : α → List AV} {xs : List (List AV)} (hp : plainT P T2 = true) (he : elemO P T = some e) (hz : zeroO P e = some z) (hm : z.length = m) (h0 : m ≠ 0) (hb : P.bytesOf e ≤ 1024) (hs : ev env s = nilS) (hx : srcA (hl L) m (ev env x) = some xs) (hxs : xs = ys.map f) (hne : ys ≠ [])
    (hg : gapp [] ys = some l') (hn : n + 1 = n') (hk : K (gsv n l'.length) (hl ((n, gsb m e (l'.map f)) :: L)) n') : aop P env (hl L) n ⟨d, .call ⟨.builtin .append, #[s, x], #[T, T2]⟩, ty, pos, after, g⟩ K := by
  subst hn
  obtain ⟨g1, hl'⟩ := gapp_inv hg
  have hl2 : l' = ys := hl'
  clear hl' hg
  rw [hl2] at hk
  subst hxs
  have hx0 : 0 < ys.length := by cases ys with | nil => exact absurd rfl hne | cons _ _ => simp
  rw [gsv_pos hx0, gsb_pos (by simpa using hne)] at hk
  simp only [aop, builtinK, appendK, he, hz, hm, hx]
  refine ⟨hp, by rintro rfl; exact h0 hm.symm, hb, ?_⟩
  rw [hs]
  simp only [List.length_map]
  exact ⟨by simpa using g1, fun e => absurd e (by simpa using hne), fun _ => hk⟩
theorem s_appE0 {n' : Nat} {α : Type} {T T2 e : TypeId} {s x : Operand} {m : Nat} {z : List AV} {ys l' : List α} {f : α → List AV} {xs : List (List AV)} (hp : plainT P T2 = true) (he : elemO P T = some e) (hz : zeroO P e = some z) (hm : z.length = m) (h0 : m ≠ 0) (hb : P.bytesOf e ≤ 1024) (hs : ev env s = .e0) (hx : srcA (hl L) m (ev env x) = some xs) (hxs : xs = ys.map f) (hne : ys ≠ [])
    (hg : gapp [] ys = some l') (hn : n + 1 = n') (hk : K (gsv n l'.length) (hl ((n, gsb m e (l'.map f)) :: L)) n') : aop P env (hl L) n ⟨d, .call ⟨.builtin .append, #[s, x], #[T, T2]⟩, ty, pos, after, g⟩ K := by
  subst hn
  obtain ⟨g1, hl'⟩ := gapp_inv hg
  have hl2 : l' = ys := hl'
  clear hl' hg
  rw [hl2] at hk
  subst hxs
  have hx0 : 0 < ys.length := by cases ys with | nil => exact absurd rfl hne | cons _ _ => simp
  rw [gsv_pos hx0, gsb_pos (by simpa using hne)] at hk
  simp only [aop, builtinK, appendK, he, hz, hm, hx]
  refine ⟨hp, by rintro rfl; exact h0 hm.symm, hb, ?_⟩
  rw [hs]
  simp only [List.length_map]
  exact ⟨by simpa using g1, fun e => absurd e (by simpa using hne), fun _ => hk⟩
theorem s_appTM {n' : Nat} {α : Type} {T T2 e : TypeId} {s x : Operand} {m len : Nat} {z : List AV} {l ys l' : List α} {f : α → List AV} {xs : List (List AV)} {id : Nat} (hp : plainT P T2 = true) (he : elemO P T = some e) (hz : zeroO P e = some z) (hm : z.length = m) (h0 : m ≠ 0) (hb : P.bytesOf e ≤ 1024) (hs : ev env s = .ms id 0 len) (hh : hl L id = some (.cells m e (l.map f))) (hlen : l.length = len) (hx : srcA (hl L) m (ev env x) = some xs) (hxs : xs = ys.map f)
    (hg : gapp l ys = some l') (hd : delH (hl L) id = hl L') (hn : n + 1 = n') (hk : K (.ms n 0 l'.length) (hl ((n, some (.cells m e (l'.map f))) :: L')) n') : aop P env (hl L) n ⟨d, .call ⟨.builtin .append, #[s, x], #[T, T2]⟩, ty, pos, after, g⟩ K := by
  subst hn
  obtain ⟨g1, rfl⟩ := gapp_inv hg
  subst hxs
  refine s_appM hp he hz hm h0 hb hs (by simpa using hlen) hh hx (by simpa using g1) hd ?_
  rw [← List.map_append, List.length_map, ← hlen, ← List.length_append]; exact hk
theorem b_seql {T : TypeId} {a b : List UInt8} {F : AV → Prop} (hk : F (.sc (.bool (a == b)))) : abin P h .eql T (.sc (.string ⟨a.toArray⟩)) (.sc (.string ⟨b.toArray⟩)) F := by
  simp only [abin, abinS]; simpa [ByteArray.toList_mk] using hk
end

/-! maps -/
def mget {κ β : Type} [DecidableEq κ] : List (κ × β) → κ → Option β
  | [], _ => none
  | p :: r, k => if k = p.1 then some p.2 else mget r k
def mput {κ β : Type} [DecidableEq κ] : List (κ × β) → κ → β → List (κ × β)
  | [], k, v => [(k, v)]
  | p :: r, k, v => if k = p.1 then (k, v) :: r else p :: mput r k v
abbrev kvE {κ β : Type} (kf : κ → Value) (vf : β → AV) (p : κ × β) : Value × AV := (kf p.1, vf p.2)
abbrev ki (n : Int) : Value := .int .i64 n
abbrev ks (l : List UInt8) : Value := .string ⟨l.toArray⟩
theorem kb_int (a b : Int) : keyB (ki a) (ki b) = decide (a = b) := by simp [keyB]; rfl
theorem ba_beq (a b : List UInt8) : ((⟨a.toArray⟩ : ByteArray) == ⟨b.toArray⟩) = decide (a = b) := by
  show (a.toArray == b.toArray) = decide (a = b)
  by_cases h : a = b <;> simp [h]
theorem kb_str (a b : List UInt8) : keyB (ks a) (ks b) = decide (a = b) := ba_beq a b
theorem findA_get {κ β : Type} [DecidableEq κ] {kf : κ → Value} {vf : β → AV} (hkb : ∀ a b, keyB (kf a) (kf b) = decide (a = b)) (k : κ) : ∀ (E : List (κ × β)) (i : Nat), (findA (kf k) (E.map (kvE kf vf)) i).map (·.2) = (mget E k).map vf
  | [], i => rfl
  | p :: r, i => by
    simp only [List.map_cons, findA, mget, hkb, decide_eq_true_eq]
    split
    · rfl
    · exact findA_get hkb k r (i + 1)
theorem findA_put {κ β : Type} [DecidableEq κ] {kf : κ → Value} {vf : β → AV} (hkb : ∀ a b, keyB (kf a) (kf b) = decide (a = b)) (k : κ) (v : β) : ∀ (E F : List (κ × β)), (match findA (kf k) (E.map (kvE kf vf)) F.length with | some (i, _) => ((F ++ E).map (kvE kf vf)).set i (kf k, vf v) | none => (F ++ E).map (kvE kf vf) ++ [(kf k, vf v)]) = (F ++ mput E k v).map (kvE kf vf)
  | [], F => by simp [findA, mput]
  | p :: r, F => by
    simp only [List.map_cons, findA, mput, hkb, decide_eq_true_eq]
    split
    · rename_i i a hc
      split at hc
      · cases hc
        rename_i hk
        subst hk
        simp [List.set_append]
      · rename_i hk
        have := findA_put (vf := vf) hkb k v r (F ++ [p])
        rw [List.length_append, List.length_singleton, hc] at this
        simpa [hk] using this
    · rename_i hc
      split at hc
      · cases hc
      · rename_i hk
        have := findA_put (vf := vf) hkb k v r (F ++ [p])
        rw [List.length_append, List.length_singleton, hc] at this
        simpa [hk] using this
section
variable {P : Program} {env : Env} {h : AH} {L L' : List (Nat × Option ABlk)} {n : Nat} {K : K3} {d : Option Tmp} {ty : TypeId} {pos : String} {after : Array Edge} {g : Option (Nat × Bool)}
theorem lkK {κ β : Type} [DecidableEq κ] {T kt e : TypeId} {id : Nat} {E : List (κ × β)} {kf : κ → Value} {vf : β → AV} {k : κ} {z0 : β} {z : Value} {ok : Bool} {F : AV → Prop} (hT : mapO P T = some (kt, e)) (hz : zvO P e = some z) (hzz : cst z = vf z0) (hkb : ∀ a b, keyB (kf a) (kf b) = decide (a = b)) (hok : ∀ a, keyOkA P kt (kf a))
    (hh : h id = some (.map (E.map (kvE kf vf)))) (hK : F (if ok then .tp [vf ((mget E k).getD z0), bool (mget E k).isSome] else vf ((mget E k).getD z0))) : lookupK P h T (.mp id) (.sc (kf k)) ok F := by
  simp only [lookupK, hT, hh]
  refine ⟨hok k, fun x hx => ?_, ?_⟩
  · obtain ⟨p, _, rfl⟩ := List.mem_map.1 hx; exact hok _
  · have hf := findA_get (vf := vf) hkb k E 0
    cases hg : findA (kf k) (E.map (kvE kf vf)) 0 with
    | none =>
      rw [hg] at hf
      cases hm : mget E k with
      | none => rw [hm] at hK; simp only [hz]; rw [hzz]; exact hK
      | some v => rw [hm] at hf; simp at hf
    | some q =>
      obtain ⟨i, v⟩ := q
      rw [hg] at hf
      cases hm : mget E k with
      | none => rw [hm] at hf; simp at hf
      | some v' =>
        rw [hm] at hf hK
        simp only [Option.map_some, Option.some.injEq] at hf
        subst hf
        exact hK
theorem s_lk {κ β : Type} [DecidableEq κ] {T kt e : TypeId} {m key : Operand} {id : Nat} {E : List (κ × β)} {kf : κ → Value} {vf : β → AV} {k : κ} {z0 : β} {z : Value} (hT : mapO P T = some (kt, e)) (hz : zvO P e = some z) (hzz : cst z = vf z0) (hkb : ∀ a b, keyB (kf a) (kf b) = decide (a = b)) (hok : ∀ a, keyOkA P kt (kf a))
    (hm : ev env m = .mp id) (hk : ev env key = .sc (kf k)) (hh : h id = some (.map (E.map (kvE kf vf)))) (hK : K (vf ((mget E k).getD z0)) h n) : aop P env h n ⟨d, .lookup T m key false, ty, pos, after, g⟩ K := by
  simp only [aop]; rw [hm, hk]; exact lkK hT hz hzz hkb hok hh hK
theorem s_lko {κ β : Type} [DecidableEq κ] {T kt e : TypeId} {m key : Operand} {id : Nat} {E : List (κ × β)} {kf : κ → Value} {vf : β → AV} {k : κ} {z0 : β} {z : Value} (hT : mapO P T = some (kt, e)) (hz : zvO P e = some z) (hzz : cst z = vf z0) (hkb : ∀ a b, keyB (kf a) (kf b) = decide (a = b)) (hok : ∀ a, keyOkA P kt (kf a))
    (hm : ev env m = .mp id) (hk : ev env key = .sc (kf k)) (hh : h id = some (.map (E.map (kvE kf vf)))) (hK : K (.tp [vf ((mget E k).getD z0), bool (mget E k).isSome]) h n) : aop P env h n ⟨d, .lookup T m key true, ty, pos, after, g⟩ K := by
  simp only [aop]; rw [hm, hk]; exact lkK hT hz hzz hkb hok hh hK
theorem s_mu {κ β : Type} [DecidableEq κ] {T kt e : TypeId} {m key x : Operand} {id : Nat} {E : List (κ × β)} {kf : κ → Value} {vf : β → AV} {k : κ} {v : β} (hT : mapO P T = some (kt, e)) (hkb : ∀ a b, keyB (kf a) (kf b) = decide (a = b)) (hok : ∀ a, keyOkA P kt (kf a))
    (hm : ev env m = .mp id) (hk : ev env key = .sc (kf k)) (hx : ev env x = vf v) (h1 : (vf v).one = true) (hh : hl L id = some (.map (E.map (kvE kf vf)))) (hu : updH (hl L) id (.map ((mput E k v).map (kvE kf vf))) = hl L') (hK : K .ud (hl L') n) : aop P env (hl L) n ⟨d, .mapUpdate T m key x, ty, pos, after, g⟩ K := by
  simp only [aop]; rw [hm, hk, hx]
  simp only [mapUpdK, hT, hh]
  refine ⟨hok k, fun x hx => ?_, h1, ?_⟩
  · obtain ⟨p, _, rfl⟩ := List.mem_map.1 hx; exact hok _
  · have := findA_put (vf := vf) hkb k v E []
    simp only [List.length_nil, List.nil_append] at this
    generalize findA (kf k) (List.map (kvE kf vf) E) 0 = q at this ⊢
    cases q with
    | none => simp only at this ⊢; rw [this, hu]; exact hK
    | some q => obtain ⟨i, a⟩ := q; simp only at this ⊢; rw [this, hu]; exact hK
end
end Go.Abs
