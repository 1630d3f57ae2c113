/- The machinery, part 3. -/
import Derived.Test.YtdpbpcgkcfbkmaaZ2
set_option linter.constructorNameAsVariable false
set_option linter.unusedVariables false
set_option linter.unusedSimpArgs false
/- The typed machine is sound, first part: values. -/
set_option linter.unusedSimpArgs false
set_option linter.unusedVariables false
set_option linter.constructorNameAsVariable false
namespace Go.Abs
open Go Go.RowKit

/-! snapshots -/
theorem Snap.mono {z z' : AH} (hz : ∀ q B, z q = some B → z' q = some B) {a a' : AV} (h : Snap z a a') : Snap z' a a' := by
  induction h with
  | free a hf => exact .free a hf
  | nilS => exact .nilS
  | own id i j k T es e cs hB he hl hr ih => exact .own id i j k T es e cs (hz _ _ hB) he hl ih
  | ms id off len k T es es' hB hle hl hk hr ih => exact .ms id off len k T es es' (hz _ _ hB) hle hl hk ih
  | fp cs cs' hl hr ih => exact .fp cs cs' hl ih
  | sl es es' hl hk hr ih => exact .sl es es' hl hk ih
  | fn f cs cs' hl hr ih => exact .fn f cs cs' hl ih
  | ag cs cs' hl hr ih => exact .ag cs cs' hl ih
  | tp cs cs' hl hr ih => exact .tp cs cs' hl ih
theorem SnapL.mono {z z' : AH} (hz : ∀ q B, z q = some B → z' q = some B) {l l' : List AV} (h : SnapL z l l') : SnapL z' l l' := by
  induction h with
  | nil => exact .nil
  | cons h1 h2 ih => exact .cons (h1.mono hz) ih
theorem SnapL.append {z : AH} {a a' b b' : List AV} (h : SnapL z a a') (g : SnapL z b b') : SnapL z (a ++ b) (a' ++ b') := by
  induction h with
  | nil => exact g
  | cons h1 h2 ih => exact .cons h1 ih
theorem SnapL.take {z : AH} {a a' : List AV} (h : SnapL z a a') : ∀ n, SnapL z (a.take n) (a'.take n) := by
  induction h with
  | nil => intro n; simp; exact .nil
  | cons h1 h2 ih =>
    intro n
    cases n with
    | zero => exact .nil
    | succ n => simpa using SnapL.cons h1 (ih n)
theorem SnapL.drop {z : AH} {a a' : List AV} (h : SnapL z a a') : ∀ n, SnapL z (a.drop n) (a'.drop n) := by
  induction h with
  | nil => intro n; simp; exact .nil
  | cons h1 h2 ih =>
    intro n
    cases n with
    | zero => exact .cons h1 h2
    | succ n => simpa using ih n
theorem SnapL.of_at {z : AH} : ∀ {l l' : List AV}, l'.length = l.length → (∀ (q : Nat) (c c' : AV), l[q]? = some c → l'[q]? = some c' → Snap z c c') → SnapL z l l'
  | [], [], _, _ => .nil
  | a :: l, a' :: l', hl, h => .cons (h 0 a a' rfl rfl) (SnapL.of_at (by simpa using hl) fun q c c' hq hq' => h (q + 1) c c' (by simpa using hq) (by simpa using hq'))
theorem SnapL.splitR {z : AH} : ∀ {a' b' l : List AV}, SnapL z l (a' ++ b') → ∃ a b, l = a ++ b ∧ SnapL z a a' ∧ SnapL z b b'
  | [], b', l, h => ⟨[], l, rfl, .nil, h⟩
  | x :: a', b', _, .cons h1 h2 => by
    obtain ⟨a, b, rfl, g1, g2⟩ := SnapL.splitR h2
    exact ⟨_ :: a, b, rfl, .cons h1 g1, g2⟩
theorem Snap.ag_inv {z : AH} {a : AV} {cs' : List AV} (h : Snap z a (.ag cs')) : ∃ cs, a = .ag cs ∧ SnapL z cs cs' := by
  cases h with
  | free _ hf => exact ⟨_, rfl, SnapL.free ((Free_ag _).1 hf)⟩
  | ag cs _ hl hr => exact ⟨cs, rfl, SnapL.of_at hl hr⟩
theorem Snap.sc_inv {z : AH} {a : AV} {v : Value} (h : Snap z a (.sc v)) : a = .sc v := by cases h; rfl
theorem Snap.fp_inv {z : AH} {a : AV} {cs' : List AV} (h : Snap z a (.fp cs')) : (∃ cs, a = .fp cs ∧ SnapL z cs cs') ∨ ∃ id i j k T es e, a = .own id i j ∧ z id = some (.cells k T es) ∧ es[i]? = some e ∧ SnapL z (e.drop j) cs' := by
  cases h with
  | free _ hf => exact .inl ⟨_, rfl, SnapL.free ((Free_fp _).1 hf)⟩
  | own id i j k T es e cs hB he hl hr => exact .inr ⟨id, i, j, k, T, es, e, rfl, hB, he, SnapL.of_at hl hr⟩
  | fp cs _ hl hr => exact .inl ⟨cs, rfl, SnapL.of_at hl hr⟩
/-- rows of cells -/
def SnapE (z : AH) (es es' : List (List AV)) : Prop := es'.length = es.length ∧ ∀ (q : Nat) (e e' : List AV), es[q]? = some e → es'[q]? = some e' → SnapL z e e'
theorem SnapE.free {z : AH} {es : List (List AV)} (h : ∀ e ∈ es, FreeL e) : SnapE z es es := ⟨rfl, fun q e e' hq hq' => by rw [hq] at hq'; cases hq'; exact SnapL.free (h e (List.mem_of_getElem? hq))⟩
theorem SnapE.mono {z z' : AH} (hz : ∀ q B, z q = some B → z' q = some B) {es es' : List (List AV)} (h : SnapE z es es') : SnapE z' es es' := ⟨h.1, fun q e e' hq hq' => (h.2 q e e' hq hq').mono hz⟩
theorem Snap.of_sl {z : AH} {es es' : List (List AV)} (h : SnapE z es es') : Snap z (.sl es) (.sl es') :=
  .sl es es' h.1 (fun q e e' hq hq' => (h.2 q e e' hq hq').len) fun q e e' hq hq' => (h.2 q e e' hq hq').at
theorem Snap.of_ms {z : AH} {id off len k : Nat} {T : TypeId} {es es' : List (List AV)} (hB : z id = some (.cells k T es)) (hle : off + len ≤ es.length) (h : SnapE z ((es.drop off).take len) es') : Snap z (.ms id off len) (.sl es') := by
  have hlen : es'.length = len := by rw [h.1, List.length_take, List.length_drop]; omega
  have key : ∀ q e e', es[off + q]? = some e → es'[q]? = some e' → SnapL z e e' := fun q e e' hq hq' => by
    have hlt : q < len := by have := (List.getElem?_eq_some_iff.1 hq').1; omega
    exact h.2 q e e' (by rw [List.getElem?_take, if_pos hlt, List.getElem?_drop]; exact hq) hq'
  exact .ms id off len k T es es' hB hle hlen (fun q e e' hq hq' => (key q e e' hq hq').len) fun q e e' hq hq' => (key q e e' hq hq').at
theorem Snap.sl_inv {z : AH} {a : AV} {es' : List (List AV)} (h : Snap z a (.sl es')) :
    (∃ es, a = .sl es ∧ SnapE z es es') ∨ (a = Abs.nilS ∧ es' = []) ∨ ∃ id off len k T es, a = .ms id off len ∧ z id = some (.cells k T es) ∧ off + len ≤ es.length ∧ SnapE z ((es.drop off).take len) es' := by
  cases h with
  | free _ hf => exact .inl ⟨_, rfl, SnapE.free ((Free_sl _).1 hf)⟩
  | nilS => exact .inr (.inl ⟨rfl, rfl⟩)
  | ms id off len k T es _ hB hle hl hk hr =>
    refine .inr (.inr ⟨id, off, len, k, T, es, rfl, hB, hle, by rw [hl, List.length_take, List.length_drop]; omega, fun q e e' hq hq' => ?_⟩)
    have hlt : q < len := by have := (List.getElem?_eq_some_iff.1 hq').1; omega
    rw [List.getElem?_take, if_pos hlt, List.getElem?_drop] at hq
    exact SnapL.of_at (hk q e e' hq hq') (hr q e e' hq hq')
  | sl es _ hl hk hr => exact .inl ⟨es, rfl, hl, fun q e e' hq hq' => SnapL.of_at (hk q e e' hq hq') (hr q e e' hq hq')⟩

/-! types that may stand in cells -/
theorem flatten_len {α β : Type} {k : Nat} {f : α → List β} (hf : ∀ y, (f y).length = k) : ∀ l : List α, (l.map f).flatten.length = l.length * k
  | [] => by simp
  | x :: l => by simp [flatten_len hf l, hf x, Nat.succ_mul, Nat.add_comm]
theorem enc_len : ∀ (t : Ty) (x : t.den), t.dat = true → (t.enc x).length = t.wd
  | .i _, _, _ | .b, _, _ | .s, _, _ | .un, _, _ | .sl _, _, _ | .pt _, _, _ => rfl
  | .op _, _, _ => rfl
  | .pr a b, x, h => by
    simp only [Ty.dat, Bool.and_eq_true] at h
    show (a.enc x.1 ++ b.enc x.2).length = a.wd + b.wd
    rw [List.length_append, enc_len a x.1 h.1, enc_len b x.2 h.2]
  | .w a, x, h => by simpa [Ty.enc, Ty.wd] using enc_len a x h
  | .ar n a, x, h => by
    simp only [Ty.enc, Ty.wd]
    rw [flatten_len (fun y => enc_len a y h), x.h]
theorem enc_one : ∀ (t : Ty) (x : t.den), t.dat = true → ∀ a ∈ t.enc x, a.one = true
  | .i _, _, _ | .b, _, _ | .s, _, _ | .sl _, _, _ | .pt _, _, _ => by intro a ha; simp [Ty.enc] at ha; subst ha; rfl
  | .un, _, _ => by intro a ha; simp [Ty.enc] at ha
  | .op _, x, _ => by intro a ha; simp [Ty.enc] at ha; subst ha; cases x <;> rfl
  | .pr a b, x, h => by
    simp only [Ty.dat, Bool.and_eq_true] at h
    intro v hv
    replace hv : v ∈ a.enc x.1 ++ b.enc x.2 := hv
    rw [List.mem_append] at hv
    rcases hv with hv | hv
    · exact enc_one a x.1 h.1 v hv
    · exact enc_one b x.2 h.2 v hv
  | .w a, x, h => enc_one a x h
  | .ar n a, x, h => by
    intro v hv
    simp only [Ty.enc, List.mem_flatten, List.mem_map] at hv
    obtain ⟨l, ⟨y, _, rfl⟩, hv⟩ := hv
    exact enc_one a y h v hv
theorem enc_free : ∀ (t : Ty) (x : t.den), t.dat = true → FreeL (t.enc x)
  | .i _, _, _ | .b, _, _ | .s, _, _ => by simp [Ty.enc]
  | .un, _, _ => by simp [Ty.enc]
  | .sl a, l, h => by
    simp only [Ty.enc, FreeL_cons, FreeL_nil, and_true, Free_sl]
    intro e he
    obtain ⟨y, _, rfl⟩ := List.mem_map.1 he
    exact enc_free a y h
  | .pt a, x, h => by simpa [Ty.enc] using enc_free a x h
  | .op a, x, h => by
    simp only [Ty.enc, FreeL_cons, FreeL_nil, and_true]
    exact free_ptrE (fun y => enc_free a y h) x
  | .pr a b, x, h => by
    simp only [Ty.dat, Bool.and_eq_true] at h
    exact (FreeL_append (a.enc x.1) (b.enc x.2)).2 ⟨enc_free a x.1 h.1, enc_free b x.2 h.2⟩
  | .w a, x, h => enc_free a x h
  | .ar n a, x, h => by
    intro v hv
    simp only [Ty.enc, List.mem_flatten, List.mem_map] at hv
    obtain ⟨l, ⟨y, _, rfl⟩, hv⟩ := hv
    exact enc_free a y h v hv
theorem av_agg {t : Ty} (h : t.agg = true) (x : t.den) : t.av x = .ag (t.enc x) := by simp [Ty.av, h]
theorem av_one {t : Ty} (h : t.agg = false) (hd : t.dat = true) (x : t.den) : t.enc x = [t.av x] := by
  cases t <;> simp [Ty.agg, Ty.dat] at h hd <;> rfl
theorem av_free (t : Ty) (x : t.den) (hd : t.dat = true) : Free (t.av x) := by
  cases h : t.agg with
  | true => rw [av_agg h]; exact (Free_ag _).2 (enc_free t x hd)
  | false => have := enc_free t x hd; rw [av_one h hd, FreeL_cons] at this; exact this.1
theorem wd_one {t : Ty} (h : t.agg = false) (hd : t.dat = true) : t.wd = 1 := by cases t <;> simp [Ty.agg, Ty.dat] at h hd <;> rfl

/-- AVs of a tuple -/
def avsN : Nat → (x : Ty) → x.den → List AV
  | 0, _, _ => []
  | 1, t, v => [t.av v]
  | n + 2, .pr a b, v => a.av v.1 :: avsN (n + 1) b v.2
  | _ + 2, t, v => [t.av v]

section
variable (P : Program)
/-- a function value that is what F says -/
def CV (n : Nat) (x y : Ty) (F : x.den → Option y.den) (a : AV) : Prop :=
  ∃ g as, a = .fn g as ∧ FreeL as ∧ (untup n x).length = n ∧ (untup n x).all Ty.dat = true ∧ y.dat = true ∧ ∀ v r, F v = some r → PC P g (avsN n x v ++ as) (· = y.av r)

mutual
inductive TVR (κ : Nat → Option Nat) (ln : Nat → Nat) (z : AH) (N : Nat) : TV sem → AV → Prop
  | un (a : AV) : TVR κ ln z N .un a
  | ud : TVR κ ln z N .ud .ud
  | c (t : Ty) (x : t.den) (a : AV) (hd : t.dat = true) (h : Snap z a (t.av x)) : TVR κ ln z N (.c t x) a
  | kb (b : Bool) : TVR κ ln z N (.kb b) (.sc (.bool b))
  | sc (v : Value) (h1 : v.oneCell' = true) : TVR κ ln z N (.sc v) (.sc v)
  | ptr (id j q : Nat) (hN : id < N) (h : κ id = some q) : TVR κ ln z N (.ptr id j) (.own q 0 j)
  | adr (id : Nat) (i : Int) (j q : Nat) (hN : id < N) (h : κ id = some q) (h0 : 0 ≤ i) (h1 : i.toNat < ln id) : TVR κ ln z N (.adr id i j) (.own q i.toNat j)
  | aa (id : Nat) (i : Int) (q : Nat) (hN : id < N) (h : κ id = some q) (h0 : 0 ≤ i) (h1 : i.toNat < ln id) : TVR κ ln z N (.aa id i) (.own q 0 i.toNat)
  | fq (t : Ty) (x : t.den) (o : Nat) (a : AV) (hd : t.dat = true) (h : Snap z a (.fp ((t.enc x).drop o))) : TVR κ ln z N (.fq t x o) a
  | mw0 (id : Nat) (hN : id < N) (h : κ id = none) : TVR κ ln z N (.mw id) nilS
  | mw (id q : Nat) (hN : id < N) (h : κ id = some q) : TVR κ ln z N (.mw id) (.ms q 0 (ln id))
  | ms0 (id : Nat) (off len : Int) (hN : id < N) (h : κ id = none) (ho : off = 0) (hl : len = 0) : TVR κ ln z N (.ms id off len) nilS
  | ms (id : Nat) (off len : Int) (q : Nat) (hN : id < N) (h : κ id = some q) (h0 : 0 ≤ off) (h1 : 0 ≤ len) (h2 : off + len ≤ ln id) : TVR κ ln z N (.ms id off len) (.ms q off.toNat len.toNat)
  | mp (id q : Nat) (hN : id < N) (h : κ id = some q) : TVR κ ln z N (.mp id) (.mp q)
  | fn (g : FuncId) (vs : List (TV sem)) (as : List AV) (h : TVRs κ ln z N vs as) : TVR κ ln z N (.fn g vs) (.fn g as)
  | cv (n : Nat) (x y : Ty) (F : x.den → Option y.den) (a : AV) (h : CV P n x y F a) : TVR κ ln z N (.cv n x y F) a
  | tp (vs : List (TV sem)) (as : List AV) (h : TVRs κ ln z N vs as) : TVR κ ln z N (.tp vs) (.tp as)
  | ag (vs : List (TV sem)) (as : List AV) (h : TVRs κ ln z N vs as) (h1 : ∀ a ∈ as, a.one = true) : TVR κ ln z N (.ag vs) (.ag as)
inductive TVRs (κ : Nat → Option Nat) (ln : Nat → Nat) (z : AH) (N : Nat) : List (TV sem) → List AV → Prop
  | nil : TVRs κ ln z N [] []
  | cons (v : TV sem) (a : AV) (vs : List (TV sem)) (as : List AV) (h : TVR κ ln z N v a) (hs : TVRs κ ln z N vs as) : TVRs κ ln z N (v :: vs) (a :: as)
end
variable {P}
variable {κ κ' : Nat → Option Nat} {ln ln' : Nat → Nat} {z z' : AH} {N N' : Nat}

mutual
theorem TVR.mono (hκ : ∀ id, id < N → κ' id = κ id) (hln : ∀ id, id < N → ln' id = ln id) (hz : ∀ q B, z q = some B → z' q = some B) (hN : N ≤ N') : ∀ {v : TV sem} {a : AV}, TVR P κ ln z N v a → TVR P κ' ln' z' N' v a
  | _, _, .un a => .un a
  | _, _, .ud => .ud
  | _, _, .c t x a hd h => .c t x a hd (h.mono hz)
  | _, _, .kb b => .kb b
  | _, _, .sc v h1 => .sc v h1
  | _, _, .ptr id j q hi h => .ptr id j q (by omega) (by rw [hκ id hi]; exact h)
  | _, _, .adr id i j q hi h h0 h1 => .adr id i j q (by omega) (by rw [hκ id hi]; exact h) h0 (by rw [hln id hi]; exact h1)
  | _, _, .aa id i q hi h h0 h1 => .aa id i q (by omega) (by rw [hκ id hi]; exact h) h0 (by rw [hln id hi]; exact h1)
  | _, _, .fq t x o a hd h => .fq t x o a hd (h.mono hz)
  | _, _, .mw0 id hi h => .mw0 id (by omega) (by rw [hκ id hi]; exact h)
  | _, _, .mw id q hi h => by rw [← hln id hi]; exact .mw id q (by omega) (by rw [hκ id hi]; exact h)
  | _, _, .ms0 id off len hi h ho hl => .ms0 id off len (by omega) (by rw [hκ id hi]; exact h) ho hl
  | _, _, .ms id off len q hi h h0 h1 h2 => .ms id off len q (by omega) (by rw [hκ id hi]; exact h) h0 h1 (by rw [hln id hi]; exact h2)
  | _, _, .mp id q hi h => .mp id q (by omega) (by rw [hκ id hi]; exact h)
  | _, _, .fn g vs as h => .fn g vs as (TVRs.mono hκ hln hz hN h)
  | _, _, .cv n x y F a h => .cv n x y F a h
  | _, _, .tp vs as h => .tp vs as (TVRs.mono hκ hln hz hN h)
  | _, _, .ag vs as h h1 => .ag vs as (TVRs.mono hκ hln hz hN h) h1
theorem TVRs.mono (hκ : ∀ id, id < N → κ' id = κ id) (hln : ∀ id, id < N → ln' id = ln id) (hz : ∀ q B, z q = some B → z' q = some B) (hN : N ≤ N') : ∀ {v : List (TV sem)} {a : List AV}, TVRs P κ ln z N v a → TVRs P κ' ln' z' N' v a
  | _, _, .nil => .nil
  | _, _, .cons v a vs as h hs => .cons v a vs as (TVR.mono hκ hln hz hN h) (TVRs.mono hκ hln hz hN hs)
end
theorem TVRs.len : ∀ {vs : List (TV sem)} {as : List AV}, TVRs P κ ln z N vs as → as.length = vs.length
  | _, _, .nil => rfl
  | _, _, .cons _ _ _ _ _ h => by simp [h.len]
theorem TVRs.append : ∀ {vs : List (TV sem)} {as : List AV} {us : List (TV sem)} {bs : List AV}, TVRs P κ ln z N vs as → TVRs P κ ln z N us bs → TVRs P κ ln z N (vs ++ us) (as ++ bs)
  | _, _, _, _, .nil, g => g
  | _, _, _, _, .cons v a vs as h hs, g => .cons v a _ _ h (hs.append g)
theorem TVRs.take : ∀ {vs : List (TV sem)} {as : List AV}, TVRs P κ ln z N vs as → ∀ n, TVRs P κ ln z N (vs.take n) (as.take n)
  | _, _, .nil, n => by simp; exact .nil
  | _, _, .cons v a vs as h hs, 0 => .nil
  | _, _, .cons v a vs as h hs, n + 1 => by simpa using TVRs.cons v a _ _ h (hs.take n)
theorem TVRs.drop : ∀ {vs : List (TV sem)} {as : List AV}, TVRs P κ ln z N vs as → ∀ n, TVRs P κ ln z N (vs.drop n) (as.drop n)
  | _, _, .nil, n => by simp; exact .nil
  | _, _, .cons v a vs as h hs, 0 => .cons v a vs as h hs
  | _, _, .cons v a vs as h hs, n + 1 => by simpa using hs.drop n
theorem TVRs.at : ∀ {vs : List (TV sem)} {as : List AV}, TVRs P κ ln z N vs as → ∀ {j : Nat} {v : TV sem}, vs[j]? = some v → ∃ a, as[j]? = some a ∧ TVR P κ ln z N v a
  | _, _, .nil, j, v, hj => by simp at hj
  | _, _, .cons v a vs as h hs, 0, u, hj => by simp at hj; subst hj; exact ⟨a, rfl, h⟩
  | _, _, .cons v a vs as h hs, j + 1, u, hj => by simpa using hs.at (j := j) (by simpa using hj)
theorem TVRs.splitL : ∀ {us vs : List (TV sem)} {as : List AV}, TVRs P κ ln z N (us ++ vs) as → ∃ a b, as = a ++ b ∧ TVRs P κ ln z N us a ∧ TVRs P κ ln z N vs b
  | [], vs, as, h => ⟨[], as, rfl, .nil, h⟩
  | u :: us, vs, _, .cons _ a _ as h hs => by
    obtain ⟨a', b', rfl, g1, g2⟩ := TVRs.splitL hs
    exact ⟨a :: a', b', rfl, .cons _ _ _ _ h g1, g2⟩

/-- a block -/
def keyV : (k : Ty) → k.den → Value
  | .i k, x => .int k x
  | .s, x => ks x
  | _, _ => .nilFunc
variable (P) in
inductive BR (κ : Nat → Option Nat) (ln : Nat → Nat) (z h : AH) (N id : Nat) : TB sem → Prop
  | bx (T : TypeId) (vs : List (TV sem)) (q : Nat) (as : List AV) (hq : κ id = some q) (hh : h q = some (.cells vs.length T [as])) (hv : TVRs P κ ln z N vs as) (h1 : ∀ a ∈ as, a.one = true) : BR κ ln z h N id (.bx T vs)
  | el (T : TypeId) (t : Ty) (x : t.den) (q : Nat) (cs : List AV) (hd : t.dat = true) (hq : κ id = some q) (hh : h q = some (.cells t.wd T [cs])) (hv : SnapL z cs (t.enc x)) (h1 : ∀ a ∈ cs, a.one = true) (hl : ∀ n u, t = .ar n u → ln id = n) : BR κ ln z h N id (.el T t x)
  | sl0 (T : TypeId) (t : Ty) (l : List t.den) (hd : t.dat = true) (hq : κ id = none) (hl : l = []) (hn : ln id = 0) : BR κ ln z h N id (.sl T t l)
  | sl (T : TypeId) (t : Ty) (l : List t.den) (q : Nat) (es : List (List AV)) (hd : t.dat = true) (hq : κ id = some q) (hh : h q = some (.cells t.wd T es)) (hv : SnapE z es (l.map t.enc)) (h1 : ∀ e ∈ es, ∀ a ∈ e, a.one = true) (hn : l.length = ln id) : BR κ ln z h N id (.sl T t l)
  | mp (k v : Ty) (l : List (k.den × v.den)) (q : Nat) (hk : isKey k = true) (hf : v.flat = true) (ha : v.agg = false) (hq : κ id = some q) (hh : h q = some (.map (l.map fun p => (keyV k p.1, v.av p.2)))) : BR κ ln z h N id (.mp k v l)
end
end Go.Abs

/- The typed machine is sound, second part: states. -/
set_option linter.unusedSimpArgs false
set_option linter.unusedVariables false
set_option linter.constructorNameAsVariable false
namespace Go.Abs
open Go Go.RowKit

structure Rel (P : Program) (κ : Nat → Option Nat) (ln : Nat → Nat) (z : AH) (c : Cx sem) (s : TS sem) (env : Env) (h : AH) (n : Nat) : Prop where
  env : ∀ x, TVR P κ ln z s.n (tlk c s x) (lk env x)
  blk : ∀ id B, thp c s id = some B → BR P κ ln z h s.n id B
  lt : ∀ id B, thp c s id = some B → id < s.n
  inj : ∀ i j B B' q, thp c s i = some B → thp c s j = some B' → κ i = some q → κ j = some q → i = j
  zin : ∀ q B, z q = some B → h q = some B
  zout : ∀ id B q, thp c s id = some B → κ id = some q → z q = none
  bnd : ∀ id B q, thp c s id = some B → κ id = some q → q < n
  hn : ∀ q, n ≤ q → h q = none
  e0 : ∀ x v, alk s.env x = some v → alk c.e0 x = none
  g : ∀ id b, alk s.hp id = some b → alk c.g id = none
  dy : s.dy = false → z = fun _ => none
  zk : ∀ q k T es, z q = some (.cells k T es) → ∀ e ∈ es, e.length = k

section
variable {P : Program} {κ : Nat → Option Nat} {ln : Nat → Nat} {z : AH} {c : Cx sem} {s : TS sem} {env : Env} {h : AH} {n : Nat}

/-- the blocks that were looked into, and the frozen ones -/
def hz (κ : Nat → Option Nat) (h z : AH) (ids : List Nat) : AH := fun q => if ids.any (fun id => κ id == some q) then h q else z q
theorem hz_nil : hz κ h z [] = z := by funext q; simp [hz]
theorem hz_mono {ids ids' : List Nat} (hzin : ∀ q B, z q = some B → h q = some B) (hs : ∀ id ∈ ids, id ∈ ids') : ∀ q B, hz κ h z ids q = some B → hz κ h z ids' q = some B := by
  intro q B hq
  unfold hz at hq ⊢
  by_cases h1 : ids.any (fun id => κ id == some q) = true
  · have h2 : ids'.any (fun id => κ id == some q) = true := by
      rw [List.any_eq_true] at h1 ⊢
      obtain ⟨id, hi, he⟩ := h1
      exact ⟨id, hs id hi, he⟩
    rw [if_pos h1] at hq; rw [if_pos h2]; exact hq
  · rw [if_neg h1] at hq
    split
    · exact hzin q B hq
    · exact hq
theorem hz_z {ids : List Nat} (hzin : ∀ q B, z q = some B → h q = some B) : ∀ q B, z q = some B → hz κ h z ids q = some B := fun q B hq => hz_mono (ids := []) hzin (by simp) q B (by rw [hz_nil]; exact hq)
theorem hz_full {ids : List Nat} (hzin : ∀ q B, z q = some B → h q = some B) : ∀ q B, hz κ h z ids q = some B → h q = some B := by
  intro q B hq
  unfold hz at hq
  split at hq
  · exact hq
  · exact hzin q B hq
theorem hz_at {ids : List Nat} {id q : Nat} (hi : id ∈ ids) (hk : κ id = some q) : hz κ h z ids q = h q := by
  unfold hz
  rw [if_pos (List.any_eq_true.2 ⟨id, hi, by simp [hk]⟩)]

theorem tcast_sem {t t' : Ty} {x : t'.den} {y : t.den} (h : tcast (A := sem) t x = some y) : ∃ e : t' = t, e ▸ x = y := by
  unfold tcast at h
  split at h
  · rename_i e; exact ⟨e, by simpa using h⟩
  · cases h

theorem ofVal_sound (v : Value) (h1 : v.oneCell' = true) {N : Nat} : TVR P κ ln z N (ofVal sem v) (.sc v) := by
  cases v with
  | int k m => exact .c (.i k) m _ rfl (.free _ (.sc _))
  | bool b => exact .kb b
  | string s => exact .c .s s.data.toList _ rfl (by simpa [Ty.av, Ty.agg, Ty.enc, str] using Snap.free _ (.sc _))
  | _ => exact .sc _ h1
theorem ofCst_sound (v : Value) {N : Nat} : TVR P κ ln z N (ofCst sem v) (cst v) := by
  cases v with
  | agg cs =>
    simp only [ofCst, cst]
    split
    · rename_i hall
      have hm : ∀ v ∈ cs.toList, v.oneCell' = true := by
        simp only [Array.all_eq_true_iff_forall_mem] at hall
        exact fun v hv => hall v (by simpa using hv)
      refine .ag _ _ ?_ (fun a ha => by obtain ⟨v, hv, rfl⟩ := List.mem_map.1 ha; exact hm v hv)
      generalize cs.toList = l at hm
      induction l with
      | nil => exact .nil
      | cons v l ih => exact .cons _ _ _ _ (ofVal_sound v (hm v (by simp))) (ih fun v hv => hm v (by simp [hv]))
    · exact .un _
  | tuple _ => exact .un _
  | _ => simp only [ofCst, cst]; exact ofVal_sound _ rfl
theorem Rel.ev (R : Rel P κ ln z c s env h n) (x : Operand) : TVR P κ ln z s.n (tev c s x) (Abs.ev env x) := by
  cases x with
  | tmp t => exact R.env t
  | const v => exact ofCst_sound v
  | global g => exact .un _
  | func f => exact .fn f [] [] .nil

theorem enc_cast {t t' : Ty} (e : t' = t) (x : t'.den) : t.enc (e ▸ x) = t'.enc x := by subst e; rfl
theorem av_cast {t t' : Ty} (e : t' = t) (x : t'.den) : t.av (e ▸ x) = t'.av x := by subst e; rfl

theorem SnapE.drop_take {z : AH} {es es' : List (List AV)} (h : SnapE z es es') (o m : Nat) : SnapE z ((es.drop o).take m) ((es'.drop o).take m) := by
  refine ⟨by simp [h.1], fun q e e' hq hq' => ?_⟩
  rw [List.getElem?_take] at hq hq'
  split at hq
  · rename_i hlt
    rw [if_pos hlt, List.getElem?_drop] at hq'
    rw [List.getElem?_drop] at hq
    exact h.2 _ e e' hq hq'
  · cases hq

theorem c_one {t : Ty} {x : t.den} {a : AV} {N : Nat} (hd : t.dat = true) (ha : t.agg = false) (hs : Snap z a (t.av x)) : SnapL z [a] (t.enc x) := by
  rw [av_one ha hd]; exact .cons hs .nil

set_option maxHeartbeats 1000000 in
theorem snapL_sound (R : Rel P κ ln z c s env h n) : ∀ (t : Ty) (vs : List (TV sem)) (as : List AV) (x : t.den) (rest : List (TV sem)) (ids : List Nat), t.dat = true → TVRs P κ ln z s.n vs as → snapL (A := sem) c s t vs = some (x, rest, ids) →
    ∃ a b, as = a ++ b ∧ TVRs P κ ln z s.n rest b ∧ SnapL (hz κ h z ids) a (t.enc x) ∧ ∀ id ∈ ids, ∃ B, thp c s id = some B
  | .pr t u, vs, as, x, rest, ids, hd, hv, hs => by
    simp only [Ty.dat, Bool.and_eq_true] at hd
    simp only [snapL, Option.bind_eq_some_iff, Option.map_eq_some_iff] at hs
    obtain ⟨⟨x1, r1, i1⟩, h1, ⟨x2, r2, i2⟩, h2, he⟩ := hs
    cases he
    obtain ⟨a1, b1, rfl, g1, g2, g3⟩ := snapL_sound R t vs as x1 r1 i1 hd.1 hv h1
    obtain ⟨a2, b2, rfl, k1, k2, k3⟩ := snapL_sound R u r1 b1 x2 r2 i2 hd.2 g1 h2
    refine ⟨a1 ++ a2, b2, by simp, k1, ?_, fun id hi => ?_⟩
    · exact (g2.mono (hz_mono R.zin fun id hi => by simp [hi])).append (k2.mono (hz_mono R.zin fun id hi => by simp [hi]))
    · rcases List.mem_append.1 hi with hi | hi
      · exact g3 id hi
      · exact k3 id hi
  | .w t, vs, as, x, rest, ids, hd, hv, hs => by
    simp only [snapL, Option.map_eq_some_iff] at hs
    obtain ⟨⟨x1, r1, i1⟩, h1, he⟩ := hs
    cases he
    exact snapL_sound R t vs as _ _ _ hd hv h1
  | .un, vs, as, x, rest, ids, hd, hv, hs => by
    simp only [snapL, Option.some.injEq] at hs
    cases hs
    exact ⟨[], as, rfl, hv, .nil, fun id hi => by simp at hi⟩
  | .i k, [], as, x, rest, ids, hd, hv, hs => by simp [snapL] at hs
  | .b, [], as, x, rest, ids, hd, hv, hs => by simp [snapL] at hs
  | .s, [], as, x, rest, ids, hd, hv, hs => by simp [snapL] at hs
  | .sl _, [], as, x, rest, ids, hd, hv, hs => by simp [snapL] at hs
  | .op _, [], as, x, rest, ids, hd, hv, hs => by simp [snapL] at hs
  | .pt _, [], as, x, rest, ids, hd, hv, hs => by simp [snapL] at hs
  | .ar _ _, vs, as, x, rest, ids, hd, hv, hs => by simp [snapL] at hs
  | .i k, v :: vs, _, x, rest, ids, hd, .cons _ a _ as hv hvs, hs => by
    cases v <;> simp only [snapL, Option.map_eq_some_iff, reduceCtorEq] at hs
    obtain ⟨y, hy, he⟩ := hs
    cases he
    obtain ⟨e, rfl⟩ := tcast_sem hy
    cases e
    cases hv with
    | c _ _ _ hd h1 => exact ⟨[a], as, rfl, hvs, by rw [hz_nil]; exact c_one (N := 0) rfl rfl h1, fun id hi => by simp at hi⟩
  | .s, v :: vs, _, x, rest, ids, hd, .cons _ a _ as hv hvs, hs => by
    cases v <;> simp only [snapL, Option.map_eq_some_iff, reduceCtorEq] at hs
    obtain ⟨y, hy, he⟩ := hs
    cases he
    obtain ⟨e, rfl⟩ := tcast_sem hy
    cases e
    cases hv with
    | c _ _ _ hd h1 => exact ⟨[a], as, rfl, hvs, by rw [hz_nil]; exact c_one (N := 0) rfl rfl h1, fun id hi => by simp at hi⟩
  | .b, v :: vs, _, x, rest, ids, hd, .cons _ a _ as hv hvs, hs => by
    cases v <;> simp only [snapL, Option.map_eq_some_iff, Option.some.injEq, reduceCtorEq] at hs
    · obtain ⟨y, hy, he⟩ := hs
      cases he
      obtain ⟨e, rfl⟩ := tcast_sem hy
      cases e
      cases hv with
      | c _ _ _ hd h1 => exact ⟨[a], as, rfl, hvs, by rw [hz_nil]; exact c_one (N := 0) rfl rfl h1, fun id hi => by simp at hi⟩
    · cases hs
      cases hv
      exact ⟨[_], as, rfl, hvs, .cons (.free _ (.sc _)) .nil, fun id hi => by simp at hi⟩
  | .sl t, v :: vs, _, x, rest, ids, hd, .cons _ a _ as hv hvs, hs => by
    cases v <;> simp only [snapL, Option.map_eq_some_iff, Option.some.injEq, reduceCtorEq] at hs
    · obtain ⟨y, hy, he⟩ := hs
      cases he
      obtain ⟨e, rfl⟩ := tcast_sem hy
      cases e
      cases hv with
      | c _ _ _ hd h1 => exact ⟨[a], as, rfl, hvs, by rw [hz_nil]; exact c_one (N := 0) hd rfl h1, fun id hi => by simp at hi⟩
    · split at hs
      · rename_i hn
        cases hs
        cases hv
        rw [isNilS_eq hn]
        exact ⟨[_], as, rfl, hvs, .cons .nilS .nil, fun id hi => by simp at hi⟩
      · cases hs
    · split at hs
      · rename_i T t' l hB
        simp only [Option.map_eq_some_iff] at hs
        obtain ⟨y, hy, he⟩ := hs
        cases he
        obtain ⟨e, rfl⟩ := tcast_sem hy
        cases e
        refine ⟨[a], as, rfl, hvs, ?_, fun id hi => by simp at hi; subst hi; exact ⟨_, hB⟩⟩
        show SnapL _ [a] [.sl (l.map t.enc)]
        refine .cons ?_ .nil
        have hb := R.blk _ _ hB
        cases hb with
        | sl0 _ _ _ hd' hq hl hn =>
          subst hl
          cases hv with
          | mw0 _ _ _ => exact .nilS
          | mw _ q _ hk => rw [hq] at hk; cases hk
        | sl _ _ _ q es hd' hq hh hv' h1 hn =>
          cases hv with
          | mw0 _ _ hk => rw [hq] at hk; cases hk
          | mw _ q' _ hk =>
            rw [hq] at hk; cases hk
            have hlen := hv'.1; rw [List.length_map, hn] at hlen
            refine Snap.of_ms (k := t.wd) (T := T) (es := es) (by rw [hz_at (by simp) hq]; exact hh) (by omega) ?_
            rw [List.drop_zero, List.take_of_length_le (by omega)]
            exact hv'.mono (hz_z R.zin)
      · cases hs
    · split at hs
      · rename_i off len T t' l hB
        simp only [Option.map_eq_some_iff] at hs
        obtain ⟨y, hy, he⟩ := hs
        cases he
        obtain ⟨e, rfl⟩ := tcast_sem hy
        cases e
        refine ⟨[a], as, rfl, hvs, ?_, fun id hi => by simp at hi; subst hi; exact ⟨_, hB⟩⟩
        show SnapL _ [a] [.sl (((l.drop _).take _).map t.enc)]
        refine .cons ?_ .nil
        have hb := R.blk _ _ hB
        cases hb with
        | sl0 _ _ _ hd' hq hl hn =>
          subst hl
          cases hv with
          | ms0 _ _ _ _ _ ho hl => subst ho; subst hl; exact .nilS
          | ms _ _ _ q _ hk => rw [hq] at hk; cases hk
        | sl _ _ _ q es hd' hq hh hv' h1 hn =>
          cases hv with
          | ms0 _ _ _ _ hk => rw [hq] at hk; cases hk
          | ms _ _ _ q' _ hk h0 h1' h2 =>
            rw [hq] at hk; cases hk
            have hlen := hv'.1; rw [List.length_map, hn] at hlen
            refine Snap.of_ms (k := t.wd) (T := T) (es := es) (by rw [hz_at (by simp) hq]; exact hh) (by omega) ?_
            rw [List.map_take, List.map_drop]
            exact (hv'.mono (hz_z R.zin)).drop_take _ _
      · cases hs
  | .op t, v :: vs, _, x, rest, ids, hd, .cons _ a _ as hv hvs, hs => by
    cases v <;> simp only [snapL, Option.map_eq_some_iff, Option.some.injEq, reduceCtorEq] at hs
    · split at hs
      · rename_i y hy
        cases hs
        obtain ⟨e, rfl⟩ := tcast_sem hy
        cases e
        cases hv with
        | c _ _ _ hd h1 => exact ⟨[a], as, rfl, hvs, by rw [hz_nil]; exact c_one (N := 0) hd rfl h1, fun id hi => by simp at hi⟩
      · simp only [Option.map_eq_some_iff] at hs
        obtain ⟨y, hy, he⟩ := hs
        cases he
        obtain ⟨e, rfl⟩ := tcast_sem hy
        cases e
        cases hv with
        | c _ _ _ hd h1 => exact ⟨[a], as, rfl, hvs, by rw [hz_nil]; exact .cons h1 .nil, fun id hi => by simp at hi⟩
    · split at hs
      · rename_i hn
        cases hs
        cases hv
        rw [isNilP_eq hn]
        exact ⟨[_], as, rfl, hvs, .cons (.free _ (.sc _)) .nil, fun id hi => by simp at hi⟩
      · cases hs
    · rename_i id j
      split at hs
      · cases hs
      · rename_i hj
        obtain rfl : j = 0 := by simpa using hj
        split at hs
        · rename_i T us hB
          split at hs
          · rename_i y ids' hy
            cases hs
            have hb := R.blk _ _ hB
            cases hb with
            | bx _ _ q as' hq hh hv' h1 =>
              obtain ⟨a1, b1, rfl, g1, g2, g3⟩ := snapL_sound R t us as' _ [] ids' hd hv' hy
              cases g1
              cases hv with
              | ptr _ _ q' _ hk =>
                rw [hq] at hk; cases hk
                refine ⟨[_], as, rfl, hvs, .cons ?_ .nil, fun i hi => ?_⟩
                · show Snap _ _ (.fp (t.enc y))
                  have g4 := g2.mono (hz_mono (ids' := id :: ids') R.zin fun i hi => by simp [hi])
                  exact .own q 0 0 us.length T _ (a1 ++ []) (t.enc y) (by rw [hz_at (by simp) hq]; exact hh) rfl (by simpa using g4.len) (by simpa using g4.at)
                · rcases List.mem_cons.1 hi with hi | hi
                  · subst hi; exact ⟨_, hB⟩
                  · exact g3 i hi
          · cases hs
        · rename_i T t' y hB
          simp only [Option.map_eq_some_iff] at hs
          obtain ⟨y', hy, he⟩ := hs
          cases he
          obtain ⟨e, rfl⟩ := tcast_sem hy
          cases e
          have hb := R.blk _ _ hB
          cases hb with
          | el _ _ _ q cs hd' hq hh hv' h1 hl =>
            cases hv with
            | ptr _ _ q' _ hk =>
              rw [hq] at hk; cases hk
              refine ⟨[_], as, rfl, hvs, .cons ?_ .nil, fun i hi => by simp at hi; subst hi; exact ⟨_, hB⟩⟩
              show Snap _ _ (.fp (t.enc y))
              have g4 := hv'.mono (hz_z (κ := κ) (ids := [id]) R.zin)
              exact .own q 0 0 _ T _ cs (t.enc y) (by rw [hz_at (by simp) hq]; exact hh) rfl (by simpa using g4.len) (by simpa using g4.at)
        · cases hs
    · rename_i o
      split at hs
      · cases hs
      · rename_i hj
        obtain rfl : o = 0 := by simpa using hj
        simp only [Option.map_eq_some_iff] at hs
        obtain ⟨y', hy, he⟩ := hs
        cases he
        obtain ⟨e, rfl⟩ := tcast_sem hy
        cases e
        cases hv with
        | fq _ _ _ _ hd' h1 => exact ⟨[_], as, rfl, hvs, by rw [hz_nil]; rw [List.drop_zero] at h1; exact .cons h1 .nil, fun id hi => by simp at hi⟩
  | .pt t, v :: vs, _, x, rest, ids, hd, .cons _ a _ as hv hvs, hs => by
    cases v <;> simp only [snapL, Option.map_eq_some_iff, Option.some.injEq, reduceCtorEq] at hs
    · obtain ⟨y, hy, he⟩ := hs
      cases he
      obtain ⟨e, rfl⟩ := tcast_sem hy
      cases e
      cases hv with
      | c _ _ _ hd h1 => exact ⟨[a], as, rfl, hvs, by rw [hz_nil]; exact c_one (N := 0) hd rfl h1, fun id hi => by simp at hi⟩
    · rename_i id j
      split at hs
      · cases hs
      · rename_i hj
        obtain rfl : j = 0 := by simpa using hj
        split at hs
        · rename_i T us hB
          split at hs
          · rename_i y ids' hy
            cases hs
            have hb := R.blk _ _ hB
            cases hb with
            | bx _ _ q as' hq hh hv' h1 =>
              obtain ⟨a1, b1, rfl, g1, g2, g3⟩ := snapL_sound R t us as' _ [] ids' hd hv' hy
              cases g1
              cases hv with
              | ptr _ _ q' _ hk =>
                rw [hq] at hk; cases hk
                refine ⟨[_], as, rfl, hvs, .cons ?_ .nil, fun i hi => ?_⟩
                · show Snap _ _ (.fp (t.enc _))
                  have g4 := g2.mono (hz_mono (ids' := id :: ids') R.zin fun i hi => by simp [hi])
                  exact .own q 0 0 us.length T _ (a1 ++ []) _ (by rw [hz_at (by simp) hq]; exact hh) rfl (by simpa using g4.len) (by simpa using g4.at)
                · rcases List.mem_cons.1 hi with hi | hi
                  · subst hi; exact ⟨_, hB⟩
                  · exact g3 i hi
          · cases hs
        · rename_i T t' y hB
          simp only [Option.map_eq_some_iff] at hs
          obtain ⟨y', hy, he⟩ := hs
          cases he
          obtain ⟨e, rfl⟩ := tcast_sem hy
          cases e
          have hb := R.blk _ _ hB
          cases hb with
          | el _ _ _ q cs hd' hq hh hv' h1 hl =>
            cases hv with
            | ptr _ _ q' _ hk =>
              rw [hq] at hk; cases hk
              refine ⟨[_], as, rfl, hvs, .cons ?_ .nil, fun i hi => by simp at hi; subst hi; exact ⟨_, hB⟩⟩
              show Snap _ _ (.fp (t.enc _))
              have g4 := hv'.mono (hz_z (κ := κ) (ids := [id]) R.zin)
              exact .own q 0 0 _ T _ cs _ (by rw [hz_at (by simp) hq]; exact hh) rfl (by simpa using g4.len) (by simpa using g4.at)
        · cases hs
    · rename_i o
      split at hs
      · cases hs
      · rename_i hj
        obtain rfl : o = 0 := by simpa using hj
        simp only [Option.map_eq_some_iff] at hs
        obtain ⟨y', hy, he⟩ := hs
        cases he
        obtain ⟨e, rfl⟩ := tcast_sem hy
        cases e
        cases hv with
        | fq _ _ _ _ hd' h1 => exact ⟨[_], as, rfl, hvs, by rw [hz_nil]; rw [List.drop_zero] at h1; exact .cons h1 .nil, fun id hi => by simp at hi⟩
  | .nt, vs, as, x, rest, ids, hd, hv, hs => by simp [Ty.dat] at hd
  | .sm _ _, vs, as, x, rest, ids, hd, hv, hs => by simp [Ty.dat] at hd
  | .fn _ _ _, vs, as, x, rest, ids, hd, hv, hs => by simp [Ty.dat] at hd
end
end Go.Abs

/- The typed machine is sound, third part: changes of states. -/
set_option linter.unusedSimpArgs false
set_option linter.unusedVariables false
set_option linter.constructorNameAsVariable false
namespace Go.Abs
open Go Go.RowKit

section
variable {P : Program} {κ κ' : Nat → Option Nat} {ln ln' : Nat → Nat} {z z' : AH} {c : Cx sem} {s : TS sem} {env : Env} {h h' : AH} {n n' N N' : Nat}

theorem snapV_sound (R : Rel P κ ln z c s env h n) {t : Ty} {v : TV sem} {a : AV} {x : t.den} {ids : List Nat} (hv : TVR P κ ln z s.n v a) (hs : snapV (A := sem) c s t v = some (x, ids)) :
    t.dat = true ∧ Snap (hz κ h z ids) a (t.av x) ∧ ∀ id ∈ ids, ∃ B, thp c s id = some B := by
  unfold snapV at hs
  split at hs
  · cases hs
  · rename_i hd
    replace hd : t.dat = true := by simpa using hd
    refine ⟨hd, ?_⟩
    split at hs
    · rename_i hag
      split at hs
      · simp only [Option.map_eq_some_iff] at hs
        obtain ⟨y, hy, he⟩ := hs
        cases he
        obtain ⟨e, rfl⟩ := tcast_sem hy
        cases e
        cases hv with
        | c _ _ _ _ h1 => exact ⟨by rw [hz_nil]; exact h1, fun id hi => by simp at hi⟩
      · rename_i vs
        split at hs
        · rename_i y ids' hy
          cases hs
          cases hv with
          | ag _ as hvs _ =>
            obtain ⟨a1, b1, rfl, g1, g2, g3⟩ := snapL_sound R t vs as _ [] _ hd hvs hy
            cases g1
            rw [av_agg hag, List.append_nil]
            exact ⟨Snap.agL g2, g3⟩
        · cases hs
      · cases hs
    · rename_i hag
      replace hag : t.agg = false := by simpa using hag
      split at hs
      · rename_i y ids' hy
        cases hs
        obtain ⟨a1, b1, he, g1, g2, g3⟩ := snapL_sound R t [v] [a] _ [] _ hd (.cons _ _ _ _ hv .nil) hy
        cases g1
        rw [List.append_nil] at he
        subst he
        rw [av_one hag hd] at g2
        cases g2 with
        | cons k1 k2 => exact ⟨k1, g3⟩
      · cases hs

/-! cells of values -/
theorem splitC_sound : ∀ (t : Ty) (x : t.den) (cs : List AV), t.dat = true → t.noAr = true → SnapL z cs (t.enc x) → TVRs P κ ln z N (splitC (A := sem) t x) cs
  | .pr t u, x, cs, hd, hn, hs => by
    simp only [Ty.dat, Bool.and_eq_true] at hd
    simp only [Ty.noAr, Bool.and_eq_true] at hn
    obtain ⟨a, b, rfl, h1, h2⟩ := SnapL.splitR (a' := t.enc x.1) (b' := u.enc x.2) hs
    exact (splitC_sound t x.1 a hd.1 hn.1 h1).append (splitC_sound u x.2 b hd.2 hn.2 h2)
  | .w t, x, cs, hd, hn, hs => splitC_sound t x cs hd hn hs
  | .un, x, cs, hd, hn, hs => by cases hs; exact .nil
  | .i k, x, _, hd, hn, .cons h1 .nil => .cons _ _ _ _ (.c _ _ _ hd h1) .nil
  | .b, x, _, hd, hn, .cons h1 .nil => .cons _ _ _ _ (.c _ _ _ hd h1) .nil
  | .s, x, _, hd, hn, .cons h1 .nil => .cons _ _ _ _ (.c _ _ _ hd h1) .nil
  | .sl t, x, _, hd, hn, .cons h1 .nil => .cons _ _ _ _ (.c _ _ _ hd h1) .nil
  | .pt t, x, _, hd, hn, .cons h1 .nil => .cons _ _ _ _ (.c _ _ _ hd h1) .nil
  | .op t, x, _, hd, hn, .cons h1 .nil => .cons _ _ _ _ (.c _ _ _ hd h1) .nil
  | .ar _ _, x, cs, hd, hn, hs => by simp [Ty.noAr] at hn
  | .nt, x, cs, hd, hn, hs => by simp [Ty.dat] at hd
  | .sm _ _, x, cs, hd, hn, hs => by simp [Ty.dat] at hd
  | .fn _ _ _, x, cs, hd, hn, hs => by simp [Ty.dat] at hd

theorem snap_cells1 {a v : AV} (hs : Snap z a v) (h1 : v.one = true) : cellsA a = some [a] := by
  cases hs with
  | free _ hf => cases a <;> first | rfl | (simp [AV.one] at h1; done)
  | ag | tp => simp [AV.one] at h1
  | _ => rfl
/-- the AV of a typed value, as cells -/
theorem c_cells {t : Ty} {x : t.den} {a : AV} (hd : t.dat = true) (hs : Snap z a (t.av x)) : ∃ cs, cellsA a = some cs ∧ SnapL z cs (t.enc x) := by
  cases hag : t.agg with
  | true =>
    rw [av_agg hag] at hs
    obtain ⟨cs, rfl, h1⟩ := hs.ag_inv
    exact ⟨cs, rfl, h1⟩
  | false =>
    refine ⟨[a], ?_, by rw [av_one hag hd]; exact .cons hs .nil⟩
    have h1 : (t.av x).one = true := enc_one t x hd _ (by rw [av_one hag hd]; simp)
    exact snap_cells1 hs h1
theorem TVR.one_cells {v : TV sem} {a : AV} (hv : TVR P κ ln z N v a) {vs : List (TV sem)} (hc : cellsT v = some vs) : ∃ as, cellsA a = some as ∧ TVRs P κ ln z N vs as := by
  cases hv with
  | c t x a hd h1 =>
    simp only [cellsT, Option.ite_none_right_eq_some, Bool.and_eq_true, Option.some.injEq] at hc
    obtain ⟨⟨hn, hd'⟩, rfl⟩ := hc
    obtain ⟨cs, h2, h3⟩ := c_cells hd h1
    exact ⟨cs, h2, splitC_sound t x cs hd hn h3⟩
  | ag vs' as h1 _ => simp only [cellsT, Option.some.injEq] at hc; subst hc; exact ⟨as, rfl, h1⟩
  | un | ud | tp => simp [cellsT] at hc
  | kb b => simp only [cellsT, Option.some.injEq] at hc; subst hc; exact ⟨_, rfl, .cons _ _ _ _ (.kb b) .nil⟩
  | sc w hw => simp only [cellsT, Option.some.injEq] at hc; subst hc; exact ⟨_, rfl, .cons _ _ _ _ (.sc w hw) .nil⟩
  | ptr id j q h1 h2 => simp only [cellsT, Option.some.injEq] at hc; subst hc; exact ⟨_, rfl, .cons _ _ _ _ (.ptr id j q h1 h2) .nil⟩
  | adr id i j q h1 h2 h3 h4 => simp only [cellsT, Option.some.injEq] at hc; subst hc; exact ⟨_, rfl, .cons _ _ _ _ (.adr id i j q h1 h2 h3 h4) .nil⟩
  | aa id i q h1 h2 h3 h4 => simp only [cellsT, Option.some.injEq] at hc; subst hc; exact ⟨_, rfl, .cons _ _ _ _ (.aa id i q h1 h2 h3 h4) .nil⟩
  | fq t x o a hd h1 =>
    simp only [cellsT, Option.some.injEq] at hc; subst hc
    refine ⟨[a], ?_, .cons _ _ _ _ (.fq t x o a hd h1) .nil⟩
    rcases h1.fp_inv with ⟨cs, rfl, _⟩ | ⟨id, i, j, k, T, es, e, rfl, _⟩ <;> rfl
  | mw0 id h1 h2 => simp only [cellsT, Option.some.injEq] at hc; subst hc; exact ⟨_, rfl, .cons _ _ _ _ (.mw0 id h1 h2) .nil⟩
  | mw id q h1 h2 => simp only [cellsT, Option.some.injEq] at hc; subst hc; exact ⟨_, rfl, .cons _ _ _ _ (.mw id q h1 h2) .nil⟩
  | ms0 id o l h1 h2 h3 h4 => simp only [cellsT, Option.some.injEq] at hc; subst hc; exact ⟨_, rfl, .cons _ _ _ _ (.ms0 id o l h1 h2 h3 h4) .nil⟩
  | ms id o l q h1 h2 h3 h4 h5 => simp only [cellsT, Option.some.injEq] at hc; subst hc; exact ⟨_, rfl, .cons _ _ _ _ (.ms id o l q h1 h2 h3 h4 h5) .nil⟩
  | mp id q h1 h2 => simp only [cellsT, Option.some.injEq] at hc; subst hc; exact ⟨_, rfl, .cons _ _ _ _ (.mp id q h1 h2) .nil⟩
  | fn g vs' as h1 => simp only [cellsT, Option.some.injEq] at hc; subst hc; exact ⟨_, rfl, .cons _ _ _ _ (.fn g vs' as h1) .nil⟩
  | cv m x y F a h1 =>
    simp only [cellsT, Option.some.injEq] at hc; subst hc
    refine ⟨[a], ?_, .cons _ _ _ _ (.cv m x y F a h1) .nil⟩
    obtain ⟨g, as, rfl, _⟩ := h1; rfl

/-! parts -/
theorem comp_sound : ∀ (t : Ty) (x : t.den) (o m : Nat) (ag : Bool) (cs : List AV) {t' : Ty} {y : t'.den}, t.dat = true → comp (A := sem) t x o m ag = some ⟨t', y⟩ → SnapL z cs (t.enc x) → t'.dat = true ∧ t'.agg = ag ∧ t'.wd = m ∧ o + m ≤ cs.length ∧ SnapL z ((cs.drop o).take m) (t'.enc y)
  | .pr t u, x, o, m, ag, cs, t', y, hd, hc, hs => by
    simp only [Ty.dat, Bool.and_eq_true] at hd
    have hlen := hs.len
    rw [enc_len (.pr t u) x (by simp [Ty.dat, hd])] at hlen
    simp only [Ty.wd] at hlen
    simp only [comp] at hc
    split at hc
    · rename_i hh
      obtain ⟨rfl, rfl, rfl⟩ := hh
      cases hc
      exact ⟨by simp [Ty.dat, hd], rfl, rfl, by omega, by rw [List.drop_zero, List.take_of_length_le (by omega)]; exact hs⟩
    · obtain ⟨a, b, rfl, h1, h2⟩ := SnapL.splitR (a' := t.enc x.1) (b' := u.enc x.2) hs
      have l1 := h1.len
      rw [enc_len t x.1 hd.1] at l1
      split at hc
      · rename_i hle
        obtain ⟨g1, g2, g3, g4, g5⟩ := comp_sound t x.1 o m ag a hd.1 hc h1
        refine ⟨g1, g2, g3, by simp; omega, ?_⟩
        rw [List.drop_append_of_le_length (by omega), List.take_append_of_le_length (by simp; omega)]
        exact g5
      · split at hc
        · rename_i hle
          obtain ⟨g1, g2, g3, g4, g5⟩ := comp_sound u x.2 (o - t.wd) m ag b hd.2 hc h2
          refine ⟨g1, g2, g3, by simp; omega, ?_⟩
          rw [List.drop_append, List.drop_eq_nil_of_le (by omega), List.nil_append]
          rw [← l1]; rw [l1]; exact l1 ▸ g5
        · cases hc
  | .w t, x, o, m, ag, cs, t', y, hd, hc, hs => by
    simp only [comp] at hc
    split at hc
    · rename_i hh
      obtain ⟨rfl, rfl, rfl⟩ := hh
      cases hc
      have hlen := hs.len
      rw [enc_len (.w t) x hd] at hlen
      simp only [Ty.wd] at hlen
      exact ⟨hd, rfl, rfl, by omega, by rw [List.drop_zero, List.take_of_length_le (by omega)]; exact hs⟩
    · exact comp_sound t x o m ag cs hd hc hs
  | .i _, x, o, m, ag, cs, t', y, hd, hc, hs | .b, x, o, m, ag, cs, t', y, hd, hc, hs | .s, x, o, m, ag, cs, t', y, hd, hc, hs | .un, x, o, m, ag, cs, t', y, hd, hc, hs
  | .sl _, x, o, m, ag, cs, t', y, hd, hc, hs | .pt _, x, o, m, ag, cs, t', y, hd, hc, hs | .op _, x, o, m, ag, cs, t', y, hd, hc, hs | .ar _ _, x, o, m, ag, cs, t', y, hd, hc, hs => by
    simp only [comp] at hc
    split at hc
    · rename_i hh
      obtain ⟨rfl, rfl, rfl⟩ := hh
      cases hc
      have hlen := hs.len
      rw [enc_len _ x hd] at hlen
      exact ⟨hd, rfl, rfl, by omega, by rw [List.drop_zero, List.take_of_length_le (by omega)]; exact hs⟩
    · cases hc
  | .nt, x, o, m, ag, cs, t', y, hd, hc, hs => by simp [Ty.dat] at hd
  | .sm _ _, x, o, m, ag, cs, t', y, hd, hc, hs => by simp [Ty.dat] at hd
  | .fn _ _ _, x, o, m, ag, cs, t', y, hd, hc, hs => by simp [Ty.dat] at hd

/-- a part is put in -/
theorem setC_sound {val : (t : Ty) → Option t.den} {xs : List AV} (hval : ∀ t y, val t = some y → t.dat = true ∧ SnapL z xs (t.enc y)) : ∀ (t : Ty) (x : t.den) (o m : Nat) (ag : Bool) (cs : List AV) {y : t.den}, t.dat = true → setC (A := sem) val t x o m ag = some y → SnapL z cs (t.enc x) →
    xs.length = m ∧ o + m ≤ cs.length ∧ SnapL z (cs.take o ++ xs ++ cs.drop (o + m)) (t.enc y)
  | .pr t u, x, o, m, ag, cs, y, hd, hc, hs => by
    simp only [Ty.dat, Bool.and_eq_true] at hd
    have hlen := hs.len
    rw [enc_len (.pr t u) x (by simp [Ty.dat, hd])] at hlen
    simp only [Ty.wd] at hlen
    simp only [setC] at hc
    split at hc
    · rename_i hh
      obtain ⟨rfl, rfl, rfl⟩ := hh
      obtain ⟨g1, g2⟩ := hval _ _ hc
      have l2 := g2.len
      rw [enc_len _ y g1] at l2
      simp only [Ty.wd] at l2
      refine ⟨by omega, by omega, ?_⟩
      rw [List.take_zero, List.nil_append, Nat.zero_add, List.drop_eq_nil_of_le (by omega), List.append_nil]; exact g2
    · obtain ⟨a, b, rfl, h1, h2⟩ := SnapL.splitR (a' := t.enc x.1) (b' := u.enc x.2) hs
      have l1 := h1.len
      rw [enc_len t x.1 hd.1] at l1
      split at hc
      · rename_i hle
        simp only [Option.map_eq_some_iff] at hc
        obtain ⟨w, hw, rfl⟩ := hc
        obtain ⟨g1, g2, g3⟩ := setC_sound hval t x.1 o m ag a hd.1 hw h1
        refine ⟨g1, by simp; omega, ?_⟩
        rw [List.take_append_of_le_length (by omega), List.drop_append_of_le_length (by omega)]
        show SnapL z _ (t.enc w ++ u.enc x.2)
        rw [← List.append_assoc]
        exact g3.append h2
      · split at hc
        · rename_i hle
          simp only [Option.map_eq_some_iff] at hc
          obtain ⟨w, hw, rfl⟩ := hc
          obtain ⟨g1, g2, g3⟩ := setC_sound hval u x.2 (o - t.wd) m ag b hd.2 hw h2
          refine ⟨g1, by simp; omega, ?_⟩
          show SnapL z _ (t.enc x.1 ++ u.enc w)
          rw [List.take_append, List.take_of_length_le (by omega), List.drop_append, List.drop_eq_nil_of_le (by omega), List.nil_append]
          have e1 : o - a.length = o - t.wd := by omega
          have e2 : o + m - a.length = o - t.wd + m := by omega
          rw [e1, e2, List.append_assoc, List.append_assoc, ← List.append_assoc (b.take _)]
          exact h1.append g3
        · cases hc
  | .w t, x, o, m, ag, cs, y, hd, hc, hs => by
    simp only [setC] at hc
    split at hc
    · rename_i hh
      obtain ⟨rfl, rfl, rfl⟩ := hh
      obtain ⟨g1, g2⟩ := hval _ _ hc
      have hlen := hs.len
      rw [enc_len (.w t) x hd] at hlen
      have l2 := g2.len
      rw [enc_len _ y g1] at l2
      simp only [Ty.wd] at l2 hlen
      refine ⟨by omega, by omega, ?_⟩
      rw [List.take_zero, List.nil_append, Nat.zero_add, List.drop_eq_nil_of_le (by omega), List.append_nil]; exact g2
    · simp only [Option.map_eq_some_iff] at hc
      obtain ⟨w, hw, rfl⟩ := hc
      exact setC_sound hval t x o m ag cs hd hw hs
  | .i _, x, o, m, ag, cs, y, hd, hc, hs | .b, x, o, m, ag, cs, y, hd, hc, hs | .s, x, o, m, ag, cs, y, hd, hc, hs | .un, x, o, m, ag, cs, y, hd, hc, hs
  | .sl _, x, o, m, ag, cs, y, hd, hc, hs | .pt _, x, o, m, ag, cs, y, hd, hc, hs | .op _, x, o, m, ag, cs, y, hd, hc, hs | .ar _ _, x, o, m, ag, cs, y, hd, hc, hs => by
    simp only [setC] at hc
    split at hc
    · rename_i hh
      obtain ⟨rfl, rfl, rfl⟩ := hh
      obtain ⟨g1, g2⟩ := hval _ _ hc
      have hlen := hs.len
      rw [enc_len _ x hd] at hlen
      have l2 := g2.len
      rw [enc_len _ y g1] at l2
      refine ⟨by omega, by omega, ?_⟩
      rw [List.take_zero, List.nil_append, Nat.zero_add, List.drop_eq_nil_of_le (by omega), List.append_nil]; exact g2
    · cases hc
  | .nt, x, o, m, ag, cs, y, hd, hc, hs => by simp [Ty.dat] at hd
  | .sm _ _, x, o, m, ag, cs, y, hd, hc, hs => by simp [Ty.dat] at hd
  | .fn _ _ _, x, o, m, ag, cs, y, hd, hc, hs => by simp [Ty.dat] at hd
end
end Go.Abs

/- The typed machine is sound, fourth part: new blocks, changed blocks; operations. -/
set_option linter.unusedSimpArgs false
set_option linter.unusedVariables false
set_option linter.constructorNameAsVariable false
namespace Go.Abs
open Go Go.RowKit

def updK {α : Type} (f : Nat → α) (i : Nat) (x : α) : Nat → α := fun j => if j = i then x else f j
theorem updK_self {α : Type} {f : Nat → α} {i : Nat} {x : α} : updK f i x i = x := by simp [updK]
theorem updK_lt {α : Type} {f : Nat → α} {i : Nat} {x : α} {j : Nat} (h : j < i) : updK f i x j = f j := by unfold updK; rw [if_neg (by omega)]

section
variable {P : Program} {κ κ' : Nat → Option Nat} {ln ln' : Nat → Nat} {z z' : AH} {c : Cx sem} {s : TS sem} {env : Env} {h h' : AH} {n n' N N' : Nat}

theorem BR.mono (hκ : ∀ id, id < N → κ' id = κ id) (hln : ∀ id, id < N → ln' id = ln id) (hz : ∀ q B, z q = some B → z' q = some B) (hN : N ≤ N') {id : Nat} (hi : id < N) (hh : ∀ q B, κ id = some q → h q = some B → h' q = some B) {B : TB sem} (hb : BR P κ ln z h N id B) : BR P κ' ln' z' h' N' id B := by
  cases hb with
  | bx T vs q as hq hB hv h1 => exact .bx T vs q as (by rw [hκ id hi]; exact hq) (hh q _ hq hB) (hv.mono hκ hln hz hN) h1
  | el T t x q cs hd hq hB hv h1 hl => exact .el T t x q cs hd (by rw [hκ id hi]; exact hq) (hh q _ hq hB) (hv.mono hz) h1 (by rw [hln id hi]; exact hl)
  | sl0 T t l hd hq hl hn => exact .sl0 T t l hd (by rw [hκ id hi]; exact hq) hl (by rw [hln id hi]; exact hn)
  | sl T t l q es hd hq hB hv h1 hn => exact .sl T t l q es hd (by rw [hκ id hi]; exact hq) (hh q _ hq hB) (hv.mono hz) h1 (by rw [hln id hi]; exact hn)
  | mp k v l q hk hf ha hq hB => exact .mp k v l q hk hf ha (by rw [hκ id hi]; exact hq) (hh q _ hq hB)

theorem BR.elen {id q : Nat} {B : TB sem} (hb : BR P κ ln z h N id B) (hk : κ id = some q) {k : Nat} {T : TypeId} {es : List (List AV)} (hq : h q = some (.cells k T es)) : ∀ e ∈ es, e.length = k := by
  intro e he
  cases hb with
  | bx T vs q' as hq' hB hv h1 =>
    rw [hk] at hq'; cases hq'; rw [hq] at hB; cases hB
    simp at he; subst he; exact hv.len
  | el T t x q' cs hd hq' hB hv h1 hl =>
    rw [hk] at hq'; cases hq'; rw [hq] at hB; cases hB
    simp at he; subst he; rw [← hv.len, enc_len t x hd]
  | sl0 T t l hd hq' hl hn => rw [hk] at hq'; cases hq'
  | sl T t l q' es' hd hq' hB hv h1 hn =>
    rw [hk] at hq'; cases hq'; rw [hq] at hB; cases hB
    obtain ⟨i, hi⟩ := List.getElem?_of_mem he
    have hlt := (List.getElem?_eq_some_iff.1 hi).1
    have hlen := hv.1
    rw [List.length_map] at hlen
    have := (hv.2 i e _ hi (by rw [List.getElem?_map, List.getElem?_eq_getElem (by omega)]; rfl)).len
    rw [enc_len t _ hd] at this; exact this.symm
  | mp k' v l q' hk' hf ha hq' hB => rw [hk] at hq'; cases hq'; rw [hq] at hB; cases hB

theorem thp_cons {b : Option (TB sem)} {i id : Nat} : thp c { s with hp := (i, b) :: s.hp } id = if id = i then b else thp c s id := by
  by_cases h : id = i <;> simp [thp, alk, h]
theorem thp_n {b : Option (TB sem)} {i id N : Nat} : thp c { s with hp := (i, b) :: s.hp, n := N } id = if id = i then b else thp c s id := by
  by_cases h : id = i <;> simp [thp, alk, h]
theorem Rel.gN (R : Rel P κ ln z c s env h n) : alk c.g s.n = none := by
  cases hh : alk s.hp s.n with
  | some b => exact R.g _ _ hh
  | none =>
    cases hg : alk c.g s.n with
    | none => rfl
    | some B =>
      have : thp c s s.n = some B := by unfold thp; rw [hh]; exact hg
      exact absurd (R.lt _ _ this) (Nat.lt_irrefl _)
theorem Rel.zN (R : Rel P κ ln z c s env h n) {q : Nat} (hq : n ≤ q) : z q = none := by
  cases hz : z q with
  | none => rfl
  | some B => have := R.zin q B hz; rw [R.hn q hq] at this; cases this

/-- a new block -/
theorem Rel.new (R : Rel P κ ln z c s env h n) (B : TB sem) (k : Option Nat) (l : Nat) (hh : ∀ q B, h q = some B → h' q = some B) (hnn : n ≤ n') (hk : ∀ q, k = some q → n ≤ q ∧ q < n') (hn' : ∀ q, n' ≤ q → h' q = none)
    (hB : BR P (updK κ s.n k) (updK ln s.n l) z h' (s.n + 1) s.n B) : Rel P (updK κ s.n k) (updK ln s.n l) z c { s with hp := (s.n, some B) :: s.hp, n := s.n + 1 } env h' n' := by
  have e1 : ∀ id, id < s.n → updK κ s.n k id = κ id := fun id hi => updK_lt hi
  have e2 : ∀ id, id < s.n → updK ln s.n l id = ln id := fun id hi => updK_lt hi
  refine ⟨fun x => (R.env x).mono e1 e2 (fun _ _ h => h) (Nat.le_succ _), fun id B' hb => ?_, fun id B' hb => ?_, fun i j B1 B2 q hi hj ki kj => ?_, fun q B' hq => hh q B' (R.zin q B' hq), fun id B' q hb hq => ?_, fun id B' q hb hq => ?_, hn', R.e0, fun id b hb => ?_, R.dy, R.zk⟩
  · rw [thp_n] at hb
    split at hb
    · rename_i e; cases hb; subst e; exact hB
    · exact (R.blk id B' hb).mono e1 e2 (fun _ _ h => h) (Nat.le_succ _) (R.lt id B' hb) fun q B _ => hh q B
  · rw [thp_n] at hb
    split at hb
    · rename_i e; subst e; exact Nat.lt_succ_self _
    · exact Nat.lt_succ_of_lt (R.lt id B' hb)
  · rw [thp_n] at hi hj
    split at hi
    · rename_i e; subst e
      rw [updK_self] at ki
      split at hj
      · rename_i e; exact e.symm
      · rw [e1 j (R.lt j _ hj)] at kj
        have := R.bnd j _ q hj kj
        have := hk q ki
        omega
    · rw [e1 i (R.lt i _ hi)] at ki
      split at hj
      · rename_i e; subst e
        rw [updK_self] at kj
        have := R.bnd i _ q hi ki
        have := hk q kj
        omega
      · rw [e1 j (R.lt j _ hj)] at kj
        exact R.inj i j _ _ q hi hj ki kj
  · rw [thp_n] at hb
    split at hb
    · rename_i e; subst e
      rw [updK_self] at hq
      exact R.zN (hk q hq).1
    · rw [e1 id (R.lt id _ hb)] at hq; exact R.zout id B' q hb hq
  · rw [thp_n] at hb
    split at hb
    · rename_i e; subst e
      rw [updK_self] at hq
      exact (hk q hq).2
    · rw [e1 id (R.lt id _ hb)] at hq; exact Nat.lt_of_lt_of_le (R.bnd id B' q hb hq) hnn
  · simp only [alk] at hb
    split at hb
    · rename_i e; subst e; exact R.gN
    · exact R.g id b hb

theorem own_thp {id : Nat} {B : TB sem} (hb : alk s.hp id = some (some B)) : thp c s id = some B := by unfold thp; rw [hb]

/-- a changed block -/
theorem Rel.set (R : Rel P κ ln z c s env h n) {id q : Nat} {B0 B : TB sem} {AB : ABlk} (hb : alk s.hp id = some (some B0)) (hq : κ id = some q) (hB : BR P κ ln z (updH h q AB) s.n id B) : Rel P κ ln z c { s with hp := (id, some B) :: s.hp } env (updH h q AB) n := by
  have hq' := R.bnd id B0 q (own_thp hb) hq
  refine ⟨R.env, fun i B' hi => ?_, fun i B' hi => ?_, fun i j B1 B2 q' hi hj ki kj => ?_, fun q' B' hz => ?_, fun i B' q' hi ki => ?_, fun i B' q' hi ki => ?_, fun q' hn => ?_, R.e0, fun i b hi => ?_, R.dy, R.zk⟩
  · rw [thp_cons] at hi
    split at hi
    · rename_i e; cases hi; subst e; exact hB
    · rename_i hne
      refine (R.blk i B' hi).mono (fun _ _ => rfl) (fun _ _ => rfl) (fun _ _ h => h) (Nat.le_refl _) (R.lt i B' hi) fun q1 B1 k1 h1 => ?_
      unfold updH
      rw [if_neg]; · exact h1
      rintro rfl
      exact hne (R.inj i id _ _ _ hi (own_thp hb) k1 hq)
  · rw [thp_cons] at hi
    split at hi
    · rename_i e; subst e; exact R.lt _ B0 (own_thp hb)
    · exact R.lt i B' hi
  · have : ∀ i B', thp c { s with hp := (id, some B) :: s.hp } i = some B' → ∃ B'', thp c s i = some B'' := fun i B' hi => by
      rw [thp_cons] at hi
      split at hi
      · rename_i e; subst e; exact ⟨B0, own_thp hb⟩
      · exact ⟨_, hi⟩
    obtain ⟨_, hi⟩ := this i _ hi
    obtain ⟨_, hj⟩ := this j _ hj
    exact R.inj i j _ _ q' hi hj ki kj
  · unfold updH
    split
    · rename_i e; subst e; rw [R.zout id B0 _ (own_thp hb) hq] at hz; cases hz
    · exact R.zin q' B' hz
  · rw [thp_cons] at hi
    split at hi
    · rename_i e; subst e; exact R.zout _ B0 q' (own_thp hb) ki
    · exact R.zout i B' q' hi ki
  · rw [thp_cons] at hi
    split at hi
    · rename_i e; subst e; exact R.bnd _ B0 q' (own_thp hb) ki
    · exact R.bnd i B' q' hi ki
  · unfold updH
    rw [if_neg (by omega)]; exact R.hn q' hn
  · simp only [alk] at hi
    split at hi
    · rename_i e; subst e; exact R.g _ _ hb
    · exact R.g i b hi

/-- a block that is given away -/
theorem Rel.del (R : Rel P κ ln z c s env h n) {id : Nat} {B0 : TB sem} (hb : alk s.hp id = some (some B0)) (hh : ∀ q B, h' q = some B → h q = some B) (hk : ∀ q B, κ id ≠ some q → h q = some B → h' q = some B) : Rel P κ ln z c { s with hp := (id, none) :: s.hp } env h' n := by
  have sub : ∀ i B', thp c { s with hp := (id, none) :: s.hp } i = some B' → i ≠ id ∧ thp c s i = some B' := fun i B' hi => by
    rw [thp_cons] at hi
    split at hi
    · cases hi
    · rename_i e; exact ⟨e, hi⟩
  refine ⟨R.env, fun i B' hi => ?_, fun i B' hi => R.lt i B' (sub i B' hi).2, fun i j B1 B2 q' hi hj ki kj => R.inj i j _ _ q' (sub _ _ hi).2 (sub _ _ hj).2 ki kj, fun q' B' hz => ?_, fun i B' q' hi ki => R.zout i B' q' (sub _ _ hi).2 ki, fun i B' q' hi ki => R.bnd i B' q' (sub _ _ hi).2 ki, fun q' hn => ?_, R.e0, fun i b hi => ?_, R.dy, R.zk⟩
  · obtain ⟨hne, hi⟩ := sub i B' hi
    exact (R.blk i B' hi).mono (fun _ _ => rfl) (fun _ _ => rfl) (fun _ _ h => h) (Nat.le_refl _) (R.lt i B' hi) fun q1 B1 k1 h1 => hk q1 B1 (fun e => hne (R.inj i id _ _ _ hi (own_thp hb) k1 e)) h1
  · exact hk q' B' (fun e => by rw [R.zout id B0 _ (own_thp hb) e] at hz; cases hz) (R.zin q' B' hz)
  · cases hx : h' q' with
    | none => rfl
    | some B => have := hh q' B hx; rw [R.hn q' hn] at this; cases this
  · simp only [alk] at hi
    split at hi
    · rename_i e; subst e; exact R.g _ _ hb
    · exact R.g i b hi

theorem alk_map_none {α : Type} : ∀ (ids : List Nat) (l : List (Nat × Option α)) (i : Nat), alk (ids.map (fun id => (id, none)) ++ l) i = if ids.contains i then some none else alk l i
  | [], l, i => by simp
  | id :: ids, l, i => by
    simp only [List.map_cons, List.cons_append, alk, alk_map_none ids l i, List.contains_cons]
    by_cases h : i = id
    · subst h; simp
    · simp [h]
/-- blocks that are frozen -/
theorem Rel.retire (R : Rel P κ ln z c s env h n) {ids : List Nat} {s' : TS sem} (hs : retire s ids = some s') : Rel P κ ln (hz κ h z ids) c s' env h n ∧ s'.env = s.env ∧ s'.n = s.n ∧ (∀ id b, alk s.hp id = some b → id ∉ ids → alk s'.hp id = some b) ∧ (∀ id ∈ ids, ∃ B, alk s.hp id = some (some B)) ∧ (∀ id B, alk s'.hp id = some (some B) → id ∉ ids) := by
  unfold Abs.retire at hs
  split at hs
  · rename_i hall
    cases hs
    have own : ∀ id ∈ ids, ∃ B, alk s.hp id = some (some B) := fun id hi => by
      have := List.all_eq_true.1 hall id hi
      split at this
      · rename_i B hB; exact ⟨_, hB⟩
      · cases this
    have sub : ∀ i B', thp c { s with hp := ids.map (fun id => (id, none)) ++ s.hp, dy := s.dy || !ids.isEmpty } i = some B' → i ∉ ids ∧ thp c s i = some B' := fun i B' hi => by
      unfold thp at hi ⊢
      rw [alk_map_none] at hi
      split at hi
      · rename_i b hb
        split at hb
        · cases hb; cases hi
        · rename_i hc
          rw [hb]; exact ⟨by simpa using hc, hi⟩
      · rename_i hb
        split at hb
        · cases hb
        · rename_i hc
          rw [hb]; exact ⟨by simpa using hc, hi⟩
    refine ⟨⟨fun x => (R.env x).mono (fun _ _ => rfl) (fun _ _ => rfl) (hz_z R.zin) (Nat.le_refl _), fun i B' hi => ?_, fun i B' hi => R.lt i B' (sub i B' hi).2, fun i j B1 B2 q' hi hj ki kj => R.inj i j _ _ q' (sub _ _ hi).2 (sub _ _ hj).2 ki kj, hz_full R.zin, fun i B' q' hi ki => ?_, fun i B' q' hi ki => R.bnd i B' q' (sub _ _ hi).2 ki, R.hn, R.e0, fun i b hi => ?_, fun hd => ?_, fun q k T es hq e he => ?_⟩, rfl, rfl, fun id b hb hni => ?_, own, fun id B hb => ?_⟩
    · exact (R.blk i B' (sub i B' hi).2).mono (fun _ _ => rfl) (fun _ _ => rfl) (hz_z R.zin) (Nat.le_refl _) (R.lt i B' (sub i B' hi).2) fun q1 B1 k1 h1 => h1
    · obtain ⟨hni, hi⟩ := sub i B' hi
      unfold hz
      rw [if_neg]
      · exact R.zout i B' q' hi ki
      · intro hany
        obtain ⟨id, hid, he⟩ := List.any_eq_true.1 hany
        obtain ⟨B, hB⟩ := own id hid
        have := R.inj i id _ _ q' hi (own_thp hB) ki (by simpa using he)
        subst this; exact hni hid
    · replace hi : alk (ids.map (fun id => (id, none)) ++ s.hp) i = some b := hi
      rw [alk_map_none] at hi
      split at hi
      · rename_i hc
        obtain ⟨B, hB⟩ := own i (by simpa using hc)
        exact R.g i _ hB
      · exact R.g i b hi
    · simp only [Bool.or_eq_false_iff, Bool.not_eq_eq_eq_not, Bool.not_false, List.isEmpty_iff] at hd
      rw [hd.2, hz_nil]; exact R.dy hd.1
    · unfold hz at hq
      split at hq
      · rename_i hany
        obtain ⟨id, hid, hke⟩ := List.any_eq_true.1 hany
        obtain ⟨B, hB⟩ := own id hid
        exact (R.blk id B (own_thp hB)).elen (by simpa using hke) hq e he
      · exact R.zk q k T es hq e he
    · show alk (ids.map (fun id => (id, none)) ++ s.hp) id = some b
      rw [alk_map_none, if_neg (by simpa using hni)]; exact hb
    · replace hb : alk (ids.map (fun id => (id, none)) ++ s.hp) id = some (some B) := hb
      rw [alk_map_none] at hb
      split at hb
      · cases hb
      · rename_i hc; simpa using hc
  · cases hs

/-- numbers below stay -/
def Ke (N : Nat) (κ : Nat → Option Nat) (ln : Nat → Nat) (κ' : Nat → Option Nat) (ln' : Nat → Nat) : Prop := ∀ id, id < N → κ' id = κ id ∧ ln' id = ln id
theorem Ke.refl {N : Nat} {κ : Nat → Option Nat} {ln : Nat → Nat} : Ke N κ ln κ ln := fun _ _ => ⟨rfl, rfl⟩
theorem Ke.trans {N M : Nat} {κ κ' κ2 : Nat → Option Nat} {ln ln' ln2 : Nat → Nat} (h : Ke N κ ln κ' ln') (h' : Ke M κ' ln' κ2 ln2) (hN : N ≤ M) : Ke N κ ln κ2 ln2 := fun id hi => ⟨(h' id (by omega)).1.trans (h id hi).1, (h' id (by omega)).2.trans (h id hi).2⟩
/-! what an operation does -/
/-- reads only -/
def calm (o : Oper) : Bool := !isW [] 0 o && !isCall o && (match o.op with | .buildSlice _ _ _ | .move _ | .assign _ | .build _ _ => false | _ => true)
def Res (P : Program) (κ : Nat → Option Nat) (ln : Nat → Nat) (z : AH) (c : Cx sem) (s : TS sem) (env : Env) (h : AH) (n : Nat) (o : Oper) {ρ : Ty} (Kf : TV sem → TS sem → sem.Ans ρ) (r : ρ.den) : Prop :=
  ∃ tv s' v h' n' κ' ln' z', (∀ K : K3, K v h' n' → aop P env h n o K) ∧ Kf tv s' = some r ∧ Rel P κ' ln' z' c s' env h' n' ∧ TVR P κ' ln' z' s'.n tv v ∧ s'.env = s.env ∧ s.n ≤ s'.n ∧ (∀ id, id < s.n → κ' id = κ id ∧ ln' id = ln id) ∧ (calm o = true → s' = s ∧ h' = h ∧ n' = n ∧ κ' = κ ∧ ln' = ln ∧ z' = z)
variable {o : Oper} {ρ : Ty} {Kf : TV sem → TS sem → sem.Ans ρ} {r : ρ.den}
theorem Rel.q (R : Rel P κ ln z c s env h n) {tv : TV sem} {v : AV} (ho : ∀ K : K3, K v h n → aop P env h n o K) (hv : TVR P κ ln z s.n tv v) (hk : Kf tv s = some r) : Res P κ ln z c s env h n o Kf r :=
  ⟨tv, s, v, h, n, κ, ln, z, ho, hk, R, hv, rfl, Nat.le_refl _, fun _ _ => ⟨rfl, rfl⟩, fun _ => ⟨rfl, rfl, rfl, rfl, rfl, rfl⟩⟩

theorem fails {m : String} {t : Ty} {r : t.den} : (sem.fail (t := t) m = some r) → False := fun h => by cases h

theorem newSl_sound (hw : calm o = false) (R : Rel P κ ln z c s env h n) {T : TypeId} {t : Ty} {l : List t.den} {es : List (List AV)} (hd : t.dat = true) (hv : SnapE z es (l.map t.enc)) (h1 : ∀ e ∈ es, ∀ a ∈ e, a.one = true)
    (ho : ∀ K : K3, K (.ms n 0 l.length) (updH h n (.cells t.wd T es)) (n + 1) → aop P env h n o K) (hk : newSl (A := sem) s T t l Kf = some r) : Res P κ ln z c s env h n o Kf r := by
  have R' := R.new (h' := updH h n (.cells t.wd T es)) (n' := n + 1) (.sl T t l) (some n) l.length (fun q B hq => by
      unfold updH; rw [if_neg]; · exact hq
      rintro rfl; rw [R.hn _ (Nat.le_refl _)] at hq; cases hq) (Nat.le_succ _) (fun q hq => by cases hq; omega) (fun q hq => by unfold updH; rw [if_neg (by omega)]; exact R.hn q (by omega))
    (.sl T t l n es hd updK_self (by simp [updH]) hv h1 updK_self.symm)
  exact ⟨.mw s.n, _, _, _, _, _, _, _, ho, hk, R', by have := TVR.mw (P := P) (κ := updK κ s.n (some n)) (ln := updK ln s.n l.length) (z := z) (N := s.n + 1) s.n n (Nat.lt_succ_self _) updK_self; rw [updK_self] at this; exact this, rfl, Nat.le_succ _, fun id hi => ⟨updK_lt hi, updK_lt hi⟩, fun hc => by rw [hw] at hc; cases hc⟩
theorem newNil_sound (hw : calm o = false) (R : Rel P κ ln z c s env h n) {T : TypeId} {t : Ty} (hd : t.dat = true)
    (ho : ∀ K : K3, K nilS h n → aop P env h n o K) (hk : newSl (A := sem) s T t ([] : List t.den) Kf = some r) : Res P κ ln z c s env h n o Kf r := by
  have R' := R.new (h' := h) (n' := n) (.sl T t []) none 0 (fun q B hq => hq) (Nat.le_refl _) (fun q hq => by cases hq) R.hn (.sl0 T t [] hd updK_self rfl updK_self)
  exact ⟨.mw s.n, _, _, _, _, _, _, _, ho, hk, R', .mw0 s.n (Nat.lt_succ_self _) updK_self, rfl, Nat.le_succ _, fun id hi => ⟨updK_lt hi, updK_lt hi⟩, fun hc => by rw [hw] at hc; cases hc⟩
theorem newBx_sound (hw : calm o = false) (R : Rel P κ ln z c s env h n) {T : TypeId} {vs : List (TV sem)} {as : List AV} (hv : TVRs P κ ln z s.n vs as) (h1 : ∀ a ∈ as, a.one = true)
    (ho : ∀ K : K3, K (.own n 0 0) (updH h n (.cells as.length T [as])) (n + 1) → aop P env h n o K) (hk : newBx (A := sem) s (.bx T vs) Kf = some r) : Res P κ ln z c s env h n o Kf r := by
  have R' := R.new (h' := updH h n (.cells as.length T [as])) (n' := n + 1) (.bx T vs) (some n) 0 (fun q B hq => by
      unfold updH; rw [if_neg]; · exact hq
      rintro rfl; rw [R.hn _ (Nat.le_refl _)] at hq; cases hq) (Nat.le_succ _) (fun q hq => by cases hq; omega) (fun q hq => by unfold updH; rw [if_neg (by omega)]; exact R.hn q (by omega))
    (.bx T vs n as updK_self (by simp [updH, hv.len]) (hv.mono (fun id hi => updK_lt hi) (fun id hi => updK_lt hi) (fun _ _ h => h) (Nat.le_succ _)) h1)
  exact ⟨.ptr s.n 0, _, _, _, _, _, _, _, ho, hk, R', .ptr s.n 0 n (Nat.lt_succ_self _) updK_self, rfl, Nat.le_succ _, fun id hi => ⟨updK_lt hi, updK_lt hi⟩, fun hc => by rw [hw] at hc; cases hc⟩
theorem newEl_sound (hw : calm o = false) (R : Rel P κ ln z c s env h n) {T : TypeId} {t : Ty} {x : t.den} {as : List AV} (hd : t.dat = true) (hv : SnapL z as (t.enc x)) (h1 : ∀ a ∈ as, a.one = true)
    (ho : ∀ K : K3, K (.own n 0 0) (updH h n (.cells as.length T [as])) (n + 1) → aop P env h n o K) (hk : newBx (A := sem) s (.el T t x) Kf = some r) : Res P κ ln z c s env h n o Kf r := by
  have hlen : as.length = t.wd := by rw [← enc_len t x hd]; exact hv.len.symm
  have R' := R.new (h' := updH h n (.cells as.length T [as])) (n' := n + 1) (.el T t x) (some n) (match t with | .ar m _ => m | _ => 0) (fun q B hq => by
      unfold updH; rw [if_neg]; · exact hq
      rintro rfl; rw [R.hn _ (Nat.le_refl _)] at hq; cases hq) (Nat.le_succ _) (fun q hq => by cases hq; omega) (fun q hq => by unfold updH; rw [if_neg (by omega)]; exact R.hn q (by omega))
    (.el T t x n as hd updK_self (by simp [updH, hlen]) hv h1 (fun m u e => by subst e; exact updK_self))
  exact ⟨.ptr s.n 0, _, _, _, _, _, _, _, ho, hk, R', .ptr s.n 0 n (Nat.lt_succ_self _) updK_self, rfl, Nat.le_succ _, fun id hi => ⟨updK_lt hi, updK_lt hi⟩, fun hc => by rw [hw] at hc; cases hc⟩

theorem Snap.one_rev {a a' : AV} (hs : Snap z a a') (h1 : a'.one = true) : a.one = true := by
  cases hs <;> first | exact h1 | rfl | (simp [AV.one] at h1; done)
theorem SnapL.one_rev {a b : List AV} (h : SnapL z a b) (hb : ∀ x ∈ b, x.one = true) : ∀ x ∈ a, x.one = true := by
  induction h with
  | nil => intro x hx; cases hx
  | cons h1 h2 ih =>
    intro x hx
    rcases List.mem_cons.1 hx with rfl | hx
    · exact h1.one_rev (hb _ (by simp))
    · exact ih (fun y hy => hb y (by simp [hy])) x hx
end
end Go.Abs

/- The typed machine is sound, fifth part: the operations. -/
set_option linter.unusedSimpArgs false
set_option linter.unusedVariables false
set_option linter.constructorNameAsVariable false
namespace Go.Abs
open Go Go.RowKit

theorem stTy_dat {l : List Ty} (h : ∀ t ∈ l, t.dat = true) : (stTy l).dat = true := by
  have ht : ∀ l : List Ty, (∀ t ∈ l, t.dat = true) → (tup l).dat = true := by
    intro l
    induction l with
    | nil => intro _; rfl
    | cons t ts ih =>
      intro h
      cases ts with
      | nil => exact h t (by simp)
      | cons u ts => simp only [tup, Ty.dat, Bool.and_eq_true]; exact ⟨h t (by simp), ih fun x hx => h x (by simp [hx])⟩
  unfold stTy
  split
  · rfl
  · simp only [Ty.dat]; exact h _ (by simp)
  · exact ht l h
theorem mapM_all {α β : Type} {f : α → Option β} {p : β → Prop} (hf : ∀ x y, f x = some y → p y) : ∀ (l : List α) (r : List β), l.mapM f = some r → ∀ y ∈ r, p y
  | [], r, h => by simp at h; subst h; simp
  | x :: l, r, h => by
    simp only [List.mapM_cons, Option.bind_eq_bind, Option.bind_eq_some_iff, Option.pure_def, Option.some.injEq] at h
    obtain ⟨y, hy, r', hr, rfl⟩ := h
    intro w hw
    rcases List.mem_cons.1 hw with rfl | hw
    · exact hf x _ hy
    · exact mapM_all hf l r' hr w hw
theorem tyF_dat {P : Program} : ∀ (d : Nat) (T : TypeId) (t : Ty), tyF P d T = some t → t.dat = true
  | 0, T, t, h => by simp [tyF] at h
  | d + 1, T, t, h => by
    simp only [tyF] at h
    split at h
    any_goals (simp only [Option.map_eq_some_iff] at h)
    all_goals first | (cases h; rfl) | (cases h; done) | (obtain ⟨u, hu, rfl⟩ := h; exact tyF_dat d _ u hu) | skip
    · obtain ⟨ts, hts, rfl⟩ := h
      exact stTy_dat (mapM_all (fun x y hy => tyF_dat d _ y hy) _ _ hts)
theorem tyOf_dat {P : Program} {T : TypeId} {t : Ty} (h : tyOf P T = some t) : t.dat = true := tyF_dat 9 T t h

section
variable {P : Program} {κ κ' : Nat → Option Nat} {ln ln' : Nat → Nat} {z z' : AH} {c : Cx sem} {s : TS sem} {env : Env} {h h' : AH} {n n' N N' : Nat}
variable {o : Oper} {ρ : Ty} {Kf : TV sem → TS sem → sem.Ans ρ} {r : ρ.den}
variable {d : Option Tmp} {ty : TypeId} {pos : String} {after : Array Edge} {g : Option (Nat × Bool)}

theorem semfail {α : Type} {r : α} (h : none = some r) {p : Prop} : p := by cases h

theorem moveX_sound (hw : calm o = false) (R : Rel P κ ln z c s env h n) {T : TypeId} {v : TV sem} {a : AV} (hv : TVR P κ ln z s.n v a) (ho : ∀ K : K3, K a h n → aop P env h n o K) (hk : moveX P s T v Kf = some r) : Res P κ ln z c s env h n o Kf r := by
  unfold moveX at hk
  split at hk
  · rename_i u
    split at hk
    · rename_i hn
      obtain rfl := isNilS_eq hn
      cases hv
      unfold nilV at hk
      split at hk
      · split at hk
        · rename_i t ht
          exact newNil_sound hw R (tyOf_dat ht) ho hk
        · exact R.q ho (.sc _ rfl) hk
      · exact R.q ho (.sc _ rfl) hk
    · exact R.q ho hv hk
  · exact R.q ho hv hk

theorem TVR.getB_inv {v : TV sem} {a : AV} {b : Bool} (hv : TVR P κ ln z N v a) (hb : getB v = some b) : a = .sc (.bool b) := by
  cases hv <;> try (simp only [getB, reduceCtorEq] at hb; done)
  · rename_i t x hd hs
    cases t <;> simp only [getB, Option.some.injEq, reduceCtorEq] at hb
    subst hb; exact hs.sc_inv
  · cases hb; rfl
theorem TVR.i_inv {k : IntKind} {x : Int} {a : AV} (hv : TVR P κ ln z N (.c (.i k) x) a) : a = .sc (.int k x) := by
  cases hv with | c _ _ _ _ hs => exact hs.sc_inv
theorem TVR.b_inv {x : Bool} {a : AV} (hv : TVR P κ ln z N (.c .b x) a) : a = .sc (.bool x) := by
  cases hv with | c _ _ _ _ hs => exact hs.sc_inv
theorem TVR.s_inv {x : List UInt8} {a : AV} (hv : TVR P κ ln z N (.c .s x) a) : a = str x := by
  cases hv with | c _ _ _ _ hs => exact hs.sc_inv
theorem TVR.i64_inv {v : TV sem} {x : Int} {a : AV} (hv : TVR P κ ln z N v a) (hx : getI64 v = some x) : a = .sc (.int .i64 x) := by
  cases hv <;> try (simp only [getI64, reduceCtorEq] at hx; done)
  rename_i t y hd hs
  cases t <;> simp only [getI64, reduceCtorEq] at hx
  rename_i k
  cases k <;> simp only [getI64, Option.some.injEq, reduceCtorEq] at hx
  subst hx
  exact hs.sc_inv
theorem TVR.int (k : IntKind) (x : Int) : TVR P κ ln z N (.c (.i k) x) (.sc (.int k x)) := .c (.i k) x _ rfl (.free _ (.sc _))
theorem TVR.bool (x : Bool) : TVR P κ ln z N (.c .b x) (.sc (.bool x)) := .c .b x _ rfl (.free _ (.sc _))
theorem TVR.str (x : List UInt8) : TVR P κ ln z N (.c .s x) (Abs.str x) := .c .s x _ rfl (.free _ (.sc _))
theorem TVR.free {t : Ty} {x : t.den} (hd : t.dat = true) : TVR P κ ln z N (.c t x) (t.av x) := .c t x _ hd (.free _ (av_free t x hd))

theorem ite_some {ρ : Ty} {b : Bool} {x y : sem.Ans ρ} {r : ρ.den} (h : sem.ite b x y = some r) : (b = true ∧ x = some r) ∨ (b = false ∧ y = some r) := by
  cases b
  · exact .inr ⟨rfl, by simpa using h⟩
  · exact .inl ⟨rfl, by simpa using h⟩

/-! zero values -/
theorem zeroO_sc {T : TypeId} {zs : List AV} (hz : zeroO P T = some zs) : ∀ a ∈ zs, ∃ v, a = .sc v ∧ v.oneCell' = true := by
  unfold zeroO at hz
  simp only [Option.bind_eq_some_iff] at hz
  obtain ⟨i, hi, zz, hzz, hz⟩ := hz
  split at hz
  · rename_i hc
    cases hz
    simp only [Bool.and_eq_true, Array.all_eq_true_iff_forall_mem] at hc
    intro a ha
    obtain ⟨v, hv, rfl⟩ := List.mem_map.1 ha
    exact ⟨v, rfl, hc.1 v (by simpa using hv)⟩
  · cases hz
theorem zeroC_sound : ∀ (zs : List AV) (Ts : List TypeId) {κ : Nat → Option Nat} {ln : Nat → Nat} {s : TS sem}, Rel P κ ln z c s env h n → (∀ a ∈ zs, ∃ v, a = .sc v ∧ v.oneCell' = true) → zs.length = Ts.length →
    ∃ κ' ln', Rel P κ' ln' z c (zeroC P s zs Ts).2 env h n ∧ TVRs P κ' ln' z (zeroC P s zs Ts).2.n (zeroC P s zs Ts).1 zs ∧ s.n ≤ (zeroC P s zs Ts).2.n ∧ (zeroC P s zs Ts).2.env = s.env ∧ (∀ id, id < s.n → κ' id = κ id) ∧ (∀ id, id < s.n → ln' id = ln id) ∧
      (∀ id b, alk s.hp id = some b → id < s.n → alk (zeroC P s zs Ts).2.hp id = some b)
  | [], [], κ, ln, s, R, _, _ => ⟨κ, ln, R, .nil, Nat.le_refl _, rfl, fun _ _ => rfl, fun _ _ => rfl, fun _ _ hb _ => hb⟩
  | [], _ :: _, _, _, _, _, _, hl => by simp at hl
  | _ :: _, [], _, _, _, _, _, hl => by simp at hl
  | a :: zs, T :: Ts, κ, ln, s, R, hz, hl => by
    obtain ⟨v, rfl, hv⟩ := hz _ (List.mem_cons_self ..)
    have hz' : ∀ a ∈ zs, ∃ v, a = .sc v ∧ v.oneCell' = true := fun a ha => hz a (List.mem_cons_of_mem _ ha)
    have hl' : zs.length = Ts.length := by simpa using hl
    have easy : ∃ κ' ln', Rel P κ' ln' z c (zeroC P s zs Ts).2 env h n ∧ TVRs P κ' ln' z (zeroC P s zs Ts).2.n (ofVal sem v :: (zeroC P s zs Ts).1) (.sc v :: zs) ∧ s.n ≤ (zeroC P s zs Ts).2.n ∧ (zeroC P s zs Ts).2.env = s.env ∧ (∀ id, id < s.n → κ' id = κ id) ∧ (∀ id, id < s.n → ln' id = ln id) ∧
      (∀ id b, alk s.hp id = some b → id < s.n → alk (zeroC P s zs Ts).2.hp id = some b) := by
      obtain ⟨κ', ln', R', h1, h2, h3, h4, h5, h6⟩ := zeroC_sound zs Ts R hz' hl'
      exact ⟨κ', ln', R', .cons _ _ _ _ (ofVal_sound v hv) h1, h2, h3, h4, h5, h6⟩
    simp only [zeroC]
    split
    · rename_i hn
      obtain rfl := isNilS_eq hn
      split
      · rename_i e he
        split
        · rename_i t ht
          have hd := tyOf_dat ht
          have R1 := R.new (h' := h) (n' := n) (.sl e t []) none 0 (fun q B hq => hq) (Nat.le_refl _) (fun q hq => by cases hq) R.hn (.sl0 e t [] hd updK_self rfl updK_self)
          obtain ⟨κ', ln', R', h1, h2, h3, h4, h5, h6⟩ := zeroC_sound zs Ts R1 hz' hl'
          refine ⟨κ', ln', R', .cons _ _ _ _ (.mw0 s.n (Nat.lt_of_lt_of_le (Nat.lt_succ_self _) h2) (by rw [h4 s.n (Nat.lt_succ_self _)]; exact updK_self)) h1, Nat.le_of_succ_le h2, h3, fun id hi => by rw [h4 id (Nat.lt_succ_of_lt hi)]; exact updK_lt hi, fun id hi => by rw [h5 id (Nat.lt_succ_of_lt hi)]; exact updK_lt hi, fun id b hb hi => h6 id b (by simp only [alk]; rw [if_neg (by omega)]; exact hb) (Nat.lt_succ_of_lt hi)⟩
        · exact easy
      · exact easy
    · exact easy
theorem repO_enc {t : Ty} {x : t.den} (hf : ∀ zs rest, isZ t zs = some rest → ∃ a, zs = a ++ rest ∧ SnapL z a (t.enc x)) : ∀ (m : Nat) (zs rest : List AV), repO (isZ t) m zs = some rest → ∃ a, zs = a ++ rest ∧ SnapL z a ((List.replicate m x).map t.enc).flatten
  | 0, zs, rest, h => by simp [repO] at h; subst h; exact ⟨[], rfl, .nil⟩
  | m + 1, zs, rest, h => by
    simp only [repO, Option.bind_eq_some_iff] at h
    obtain ⟨r1, h1, h2⟩ := h
    obtain ⟨a, rfl, g1⟩ := hf zs r1 h1
    obtain ⟨b, rfl, g2⟩ := repO_enc hf m r1 rest h2
    exact ⟨a ++ b, by simp, by simpa [List.replicate_succ] using g1.append g2⟩
theorem isZ_sound : ∀ (t : Ty) (x : t.den) (zs rest : List AV), t.dat = true → zeroD (A := sem) t = some x → isZ t zs = some rest → ∃ a, zs = a ++ rest ∧ SnapL z a (t.enc x)
  | .pr t u, x, zs, rest, hd, hx, hz => by
    simp only [zeroD, Option.bind_eq_some_iff, Option.map_eq_some_iff] at hx
    obtain ⟨x1, h1, x2, h2, rfl⟩ := hx
    simp only [isZ, Option.bind_eq_some_iff] at hz
    obtain ⟨r1, g1, g2⟩ := hz
    simp only [Ty.dat, Bool.and_eq_true] at hd
    obtain ⟨a, rfl, k1⟩ := isZ_sound t x1 zs r1 hd.1 h1 g1
    obtain ⟨b, rfl, k2⟩ := isZ_sound u x2 r1 rest hd.2 h2 g2
    exact ⟨a ++ b, by simp, k1.append k2⟩
  | .w t, x, zs, rest, hd, hx, hz => by
    simp only [zeroD, Option.map_eq_some_iff] at hx
    obtain ⟨x1, h1, rfl⟩ := hx
    exact isZ_sound t x1 zs rest hd h1 hz
  | .ar m t, x, zs, rest, hd, hx, hz => by
    simp only [zeroD, Option.map_eq_some_iff] at hx
    obtain ⟨x1, h1, rfl⟩ := hx
    simp only [isZ] at hz
    split at hz
    · obtain ⟨a, e, g1⟩ := repO_enc (z := z) (fun zs rest h => isZ_sound t x1 zs rest hd h1 h) m zs rest hz
      exact ⟨a, e, g1⟩
    · cases hz
  | .un, x, zs, rest, hd, hx, hz => by simp [isZ] at hz; subst hz; exact ⟨[], rfl, .nil⟩
  | .i k, x, zs, rest, hd, hx, hz => by
    cases zs with
    | nil => simp [isZ] at hz
    | cons a zs =>
      cases a <;> try (simp [isZ] at hz; done)
      rename_i v
      cases v <;> try (simp [isZ] at hz; done)
      simp only [isZ] at hz
      split at hz
      · rename_i hh
        obtain ⟨rfl, rfl⟩ := hh
        cases hz; cases hx
        exact ⟨[_], rfl, .cons (.free _ (.sc _)) .nil⟩
      · cases hz
  | .b, x, zs, rest, hd, hx, hz => by
    cases zs with
    | nil => simp [isZ] at hz
    | cons a zs =>
      cases a <;> try (simp [isZ] at hz; done)
      rename_i v
      cases v <;> try (simp [isZ] at hz; done)
      simp only [isZ] at hz
      split at hz
      · cases hz
      · rename_i hh
        cases hz; cases hx
        refine ⟨[_], rfl, .cons ?_ .nil⟩
        rw [Bool.not_eq_true] at hh; subst hh; exact .free _ (.sc _)
  | .s, x, zs, rest, hd, hx, hz => by
    cases zs with
    | nil => simp [isZ] at hz
    | cons a zs =>
      cases a <;> try (simp [isZ] at hz; done)
      rename_i v
      cases v <;> try (simp [isZ] at hz; done)
      simp only [isZ] at hz
      split at hz
      · rename_i w hh
        cases hz; cases hx
        refine ⟨[_], rfl, .cons ?_ .nil⟩
        obtain ⟨⟨l⟩⟩ := w
        simp at hh; subst hh
        exact .free _ (.sc _)
      · cases hz
  | .sl t, x, zs, rest, hd, hx, hz => by
    cases zs with
    | nil => simp [isZ] at hz
    | cons a zs =>
      cases a <;> try (simp [isZ] at hz; done)
      rename_i v
      simp only [isZ] at hz
      split at hz
      · rename_i hh
        cases hz; cases hx
        rw [isNilS_eq hh]
        exact ⟨[_], rfl, .cons .nilS .nil⟩
      · cases hz
  | .op t, x, zs, rest, hd, hx, hz => by
    cases zs with
    | nil => simp [isZ] at hz
    | cons a zs =>
      cases a <;> try (simp [isZ] at hz; done)
      rename_i v
      simp only [isZ] at hz
      split at hz
      · rename_i hh
        cases hz; cases hx
        rw [isNilP_eq hh]
        exact ⟨[_], rfl, .cons (.free _ (.sc _)) .nil⟩
      · cases hz
  | .pt _, x, zs, rest, hd, hx, hz => by simp [zeroD] at hx
  | .nt, x, zs, rest, hd, hx, hz => by simp [zeroD] at hx
  | .sm _ _, x, zs, rest, hd, hx, hz => by simp [zeroD] at hx
  | .fn _ _ _, x, zs, rest, hd, hx, hz => by simp [zeroD] at hx
end
end Go.Abs

/- The typed machine is sound, sixth part: operations one by one. -/
set_option linter.unusedSimpArgs false
set_option linter.unusedVariables false
set_option linter.constructorNameAsVariable false
namespace Go.Abs
open Go Go.RowKit

section
variable {P : Program} {κ κ' : Nat → Option Nat} {ln ln' : Nat → Nat} {z z' : AH} {c : Cx sem} {s : TS sem} {env : Env} {h h' : AH} {n n' N N' : Nat}
variable {ρ : Ty} {Kf : TV sem → TS sem → sem.Ans ρ} {r : ρ.den}
variable {d : Option Tmp} {ty : TypeId} {pos : String} {after : Array Edge} {g : Option (Nat × Bool)}

theorem allocX_sound (R : Rel P κ ln z c s env h n) {T : TypeId} (hk : allocX P s T Kf = some r) : Res P κ ln z c s env h n ⟨d, .alloc T, ty, pos, after, g⟩ Kf r := by
  unfold allocX at hk
  split at hk
  · rename_i zs Ts hz hT
    split at hk
    · rename_i hl
      have hsc := zeroO_sc hz
      have hone : ∀ a ∈ zs, a.one = true := fun a ha => by obtain ⟨v, rfl, hv⟩ := hsc a ha; exact hv
      have bx : newBx (zeroC P s zs Ts).2 (.bx T (zeroC P s zs Ts).1) Kf = some r → Res P κ ln z c s env h n ⟨d, .alloc T, ty, pos, after, g⟩ Kf r := fun hk => by
        obtain ⟨κ', ln', R', h1, h2, h3, h4, h5, h6⟩ := zeroC_sound zs Ts R hsc hl
        obtain ⟨tv, s', v, h', n', κ2, ln2, z2, g1, g2, g3, g4, g5⟩ := newBx_sound (o := ⟨d, .alloc T, ty, pos, after, g⟩) rfl R' h1 hone (fun K hk => by simp only [aop, hz]; exact hk) hk
        exact ⟨tv, s', v, h', n', κ2, ln2, z2, g1, g2, g3, g4, g5.1.trans h3, by have := g5.2.1; omega, fun id hi => ⟨(g5.2.2.1 id (by omega)).1.trans (h4 id hi), (g5.2.2.1 id (by omega)).2.trans (h5 id hi)⟩, fun hc => by cases hc⟩
      split at hk
      · rename_i t ht
        split at hk
        · exact bx hk
        · split at hk
          · rename_i x hx
            split at hk
            · rename_i hiz
              obtain ⟨rest, hr, hre⟩ := Option.any_eq_true _ _ |>.1 hiz
              obtain rfl := List.isEmpty_iff.1 hre
              obtain ⟨a, e, g1⟩ := isZ_sound (z := z) t x zs [] (tyOf_dat ht) hx hr
              rw [List.append_nil] at e; subst e
              exact newEl_sound rfl R (tyOf_dat ht) g1 hone (fun K hk => by simp only [aop, hz]; exact hk) hk
            · exact semfail hk
          · exact semfail hk
      · exact bx hk
    · exact semfail hk
  · exact semfail hk

theorem boxX_sound (R : Rel P κ ln z c s env h n) {T : TypeId} {x : Operand} {v : TV sem} (hv : TVR P κ ln z s.n v (ev env x)) (hk : boxX s T v Kf = some r) : Res P κ ln z c s env h n ⟨d, .box T x, ty, pos, after, g⟩ Kf r := by
  have other : ∀ vs, cellsT v = some vs → newBx s (.bx T vs) Kf = some r → Res P κ ln z c s env h n ⟨d, .box T x, ty, pos, after, g⟩ Kf r := fun vs hc hk => by
    obtain ⟨as, h1, h2⟩ := hv.one_cells hc
    refine newBx_sound rfl R h2 ?_ (fun K hk => by simp only [aop, h1]; exact hk) hk
    generalize ev env x = a at *
    intro b hb
    cases hv with
    | c t x a hd hs =>
      obtain ⟨cs, h3, h4⟩ := c_cells hd hs
      rw [h1] at h3; cases h3
      exact h4.one_rev (enc_one t x hd) b hb
    | ag vs' as' _ h5 => cases h1; exact h5 b hb
    | un | ud | tp => simp [cellsT] at hc
    | sc w hw => cases h1; simp at hb; subst hb; exact hw
    | fq t x o a hd hs => rcases hs.fp_inv with ⟨cs, rfl, _⟩ | ⟨id, i, j, k, T, es, e, rfl, _⟩ <;> (cases h1; simp at hb; subst hb; rfl)
    | cv m x y F a hcv => obtain ⟨g, as', rfl, _⟩ := hcv; cases h1; simp at hb; subst hb; rfl
    | _ => cases h1; simp at hb; subst hb; rfl
  unfold boxX at hk
  split at hk
  · rename_i t y
    split at hk
    · rename_i hc
      exact other _ (by simp only [cellsT, hc, if_true]) hk
    · cases hv with
      | c _ _ a hd hs =>
        obtain ⟨cs, h3, h4⟩ := c_cells hd hs
        exact newEl_sound rfl R hd h4 (h4.one_rev (enc_one t y hd)) (fun K hk => by simp only [aop, h3]; exact hk) hk
  · split at hk
    · rename_i vs hc
      exact other vs hc hk
    · exact semfail hk

/-- a part is read -/
theorem part_tv {t' : Ty} {y : t'.den} {cs : List AV} {m : Nat} {ag : Bool} (hd : t'.dat = true) (ha : t'.agg = ag) (hw : t'.wd = m) (hs : SnapL z (cs.take m) (t'.enc y)) (hl : m ≤ cs.length) :
    ∃ a, TVR P κ ln z N (.c t' y) a ∧ (ag = true → a = .ag (cs.take m)) ∧ (ag = false → cs[0]? = some a) := by
  cases ag with
  | true => exact ⟨.ag (cs.take m), .c _ _ _ hd (by rw [av_agg ha]; exact Snap.agL hs), fun _ => rfl, (fun e => by cases e)⟩
  | false =>
    have h1 := wd_one ha hd
    rw [av_one ha hd] at hs
    cases cs with
    | nil => simp at hl; omega
    | cons a cs =>
      rw [show m = 1 by omega] at hs
      simp only [List.take_succ_cons, List.take_zero] at hs
      cases hs with
      | cons k1 _ => exact ⟨a, .c _ _ _ hd k1, (fun e => by cases e), fun _ => rfl⟩
theorem gi_mem {α : Type} {l : List α} {i : Int} {y : α} (h : gi l i = some y) : 0 ≤ i ∧ l[i.toNat]? = some y ∧ i.toNat < l.length := by
  obtain ⟨h1, h2⟩ := gi_inv h
  exact ⟨h1, h2, (List.getElem?_eq_some_iff.1 h2).1⟩
theorem SnapE.at {es es' : List (List AV)} (hs : SnapE z es es') {q : Nat} {e' : List AV} (hq : es'[q]? = some e') : ∃ e, es[q]? = some e ∧ SnapL z e e' := by
  obtain ⟨e, he⟩ := other_of hs.1 hq
  exact ⟨e, he, hs.2 q e e' he hq⟩
theorem getMap {α β : Type} {l : List α} {f : α → β} {q : Nat} {y : α} (h : l[q]? = some y) : (l.map f)[q]? = some (f y) := by rw [List.getElem?_map, h]; rfl

theorem deref_fp {t : Ty} {x : t.den} {o : Nat} {a : AV} (hzin : ∀ q B, z q = some B → h q = some B) (hs : Snap z a (.fp ((t.enc x).drop o))) : ∃ cs, deref h a = some cs ∧ SnapL z cs ((t.enc x).drop o) := by
  rcases hs.fp_inv with ⟨cs, rfl, h1⟩ | ⟨id, i, j, k, T, es, e, rfl, h1, h2, h3⟩
  · exact ⟨cs, rfl, h1⟩
  · exact ⟨e.drop j, by simp only [deref, hzin _ _ h1, h2]; rfl, h3⟩
theorem comp_enc : ∀ (t : Ty) (x : t.den) (o m : Nat) (ag : Bool) {t' : Ty} {y : t'.den}, t.dat = true → comp (A := sem) t x o m ag = some ⟨t', y⟩ → t'.dat = true ∧ t'.agg = ag ∧ t'.wd = m ∧ o + m ≤ t.wd ∧ ((t.enc x).drop o).take m = t'.enc y
  | .pr t u, x, o, m, ag, t', y, hd, hc => by
    simp only [Ty.dat, Bool.and_eq_true] at hd
    have l1 := enc_len t x.1 hd.1
    have l2 := enc_len u x.2 hd.2
    show _ ∧ _ ∧ _ ∧ o + m ≤ t.wd + u.wd ∧ ((t.enc x.1 ++ u.enc x.2).drop o).take m = _
    simp only [comp] at hc
    split at hc
    · rename_i hh
      obtain ⟨rfl, rfl, rfl⟩ := hh
      cases hc
      exact ⟨by simp [Ty.dat, hd], rfl, rfl, by omega, by rw [List.drop_zero, List.take_of_length_le (by simp; omega)]; rfl⟩
    · split at hc
      · rename_i hle
        obtain ⟨g1, g2, g3, g4, g5⟩ := comp_enc t x.1 o m ag hd.1 hc
        refine ⟨g1, g2, g3, by omega, ?_⟩
        rw [List.drop_append_of_le_length (by omega), List.take_append_of_le_length (by simp; omega)]
        exact g5
      · split at hc
        · rename_i hle
          obtain ⟨g1, g2, g3, g4, g5⟩ := comp_enc u x.2 (o - t.wd) m ag hd.2 hc
          refine ⟨g1, g2, g3, by omega, ?_⟩
          rw [List.drop_append, List.drop_eq_nil_of_le (by omega), List.nil_append, l1]
          exact g5
        · cases hc
  | .w t, x, o, m, ag, t', y, hd, hc => by
    simp only [comp] at hc
    split at hc
    · rename_i hh
      obtain ⟨rfl, rfl, rfl⟩ := hh
      cases hc
      have hlen := enc_len (.w t) x hd
      simp only [Ty.wd] at hlen
      exact ⟨hd, rfl, rfl, by simp [Ty.wd], by rw [List.drop_zero, List.take_of_length_le (by omega)]⟩
    · exact comp_enc t x o m ag hd hc
  | .i _, x, o, m, ag, t', y, hd, hc | .b, x, o, m, ag, t', y, hd, hc | .s, x, o, m, ag, t', y, hd, hc | .un, x, o, m, ag, t', y, hd, hc
  | .sl _, x, o, m, ag, t', y, hd, hc | .pt _, x, o, m, ag, t', y, hd, hc | .op _, x, o, m, ag, t', y, hd, hc | .ar _ _, x, o, m, ag, t', y, hd, hc => by
    simp only [comp] at hc
    split at hc
    · rename_i hh
      obtain ⟨rfl, rfl, rfl⟩ := hh
      cases hc
      have hlen := enc_len _ x hd
      exact ⟨hd, rfl, rfl, by omega, by rw [List.drop_zero, List.take_of_length_le (by omega)]⟩
    · cases hc
  | .nt, x, o, m, ag, t', y, hd, hc => by simp [Ty.dat] at hd
  | .sm _ _, x, o, m, ag, t', y, hd, hc => by simp [Ty.dat] at hd
  | .fn _ _ _, x, o, m, ag, t', y, hd, hc => by simp [Ty.dat] at hd
theorem partX_gen (R : Rel P κ ln z c s env h n) {T : TypeId} {x : Operand} {t : Ty} {y : t.den} {j m : Nat} {ag : Bool} {D : List AV} (hd : t.dat = true) (hag : aggO P T = some ag) (hm : P.cellsOf T = m) (hp : deref h (ev env x) = some D) (hs : SnapL z (D.take (t.wd - j)) ((t.enc y).drop j))
    (hk : partX t y j m ag (fun v => Kf v s) = some r) : Res P κ ln z c s env h n ⟨d, .load T x, ty, pos, after, g⟩ Kf r := by
  unfold partX at hk
  split at hk
  · rename_i p hc
    obtain ⟨t', y'⟩ := p
    obtain ⟨g1, g2, g3, g4, g5⟩ := comp_enc t y j m ag hd hc
    have hl := hs.len
    rw [List.length_drop, enc_len t y hd, List.length_take] at hl
    have h1 := hs.take m
    rw [g5, List.take_take, Nat.min_eq_left (by omega)] at h1
    obtain ⟨a, k1, k2, k3⟩ := part_tv (P := P) (κ := κ) (ln := ln) (N := s.n) g1 g2 g3 h1 (by omega)
    refine R.q (fun K hk => ?_) k1 hk
    simp only [aop, hp, loadK, hag]
    cases ag with
    | true => refine ⟨by omega, ?_⟩; rw [hm, ← k2 rfl]; exact hk
    | false => exact ⟨a, k3 rfl, hk⟩
  · exact semfail hk
theorem partX_load (R : Rel P κ ln z c s env h n) {T : TypeId} {x : Operand} {t : Ty} {y : t.den} {j m : Nat} {ag : Bool} {cs : List AV} (hd : t.dat = true) (hag : aggO P T = some ag) (hm : P.cellsOf T = m) (hs : SnapL z cs (t.enc y)) (hp : deref h (ev env x) = some (cs.drop j))
    (hk : partX t y j m ag (fun v => Kf v s) = some r) : Res P κ ln z c s env h n ⟨d, .load T x, ty, pos, after, g⟩ Kf r := by
  refine partX_gen R hd hag hm hp ?_ hk
  have hl := hs.len
  rw [enc_len t y hd] at hl
  rw [List.take_of_length_le (by simp; omega)]
  exact hs.drop j
/-- a part of something frozen is read -/
theorem partX_fq (R : Rel P κ ln z c s env h n) {T : TypeId} {x : Operand} {t : Ty} {y : t.den} {j m : Nat} {ag : Bool} (hd : t.dat = true) (hag : aggO P T = some ag) (hm : P.cellsOf T = m) (hs : Snap z (ev env x) (.fp ((t.enc y).drop j)))
    (hk : partX t y j m ag (fun v => Kf v s) = some r) : Res P κ ln z c s env h n ⟨d, .load T x, ty, pos, after, g⟩ Kf r := by
  obtain ⟨cs, hp, h1⟩ := deref_fp R.zin hs
  refine partX_gen R hd hag hm hp ?_ hk
  have hl := h1.len
  rw [List.length_drop, enc_len t y hd] at hl
  rw [List.take_of_length_le (by omega)]
  exact h1

theorem bx_deref {q id j : Nat} {x : Operand} {k : Nat} {T : TypeId} {as : List AV} (he : ev env x = .own q 0 j) (hh : h q = some (.cells k T [as])) : deref h (ev env x) = some (as.drop j) := by
  rw [he]; simp only [deref, hh]; rfl
theorem row_deref {q i j : Nat} {x : Operand} {k : Nat} {T : TypeId} {es : List (List AV)} {e : List AV} (he : ev env x = .own q i j) (hh : h q = some (.cells k T es)) (hi : es[i]? = some e) : deref h (ev env x) = some (e.drop j) := by
  rw [he]; simp only [deref, hh, hi]; rfl

theorem arr_at {α : Type} {k : Nat} {f : α → List AV} (hf : ∀ y, (f y).length = k) : ∀ (l : List α) (i : Nat) (y : α), l[i]? = some y → (((l.map f).flatten).drop (i * k)).take k = f y
  | [], i, y, h => by simp at h
  | a :: l, 0, y, h => by simp at h; subst h; simp [← hf a]
  | a :: l, i + 1, y, h => by
    have := arr_at hf l i y (by simpa using h)
    rw [List.map_cons, List.flatten_cons, List.drop_append, List.drop_eq_nil_of_le (by rw [hf a, Nat.succ_mul]; omega), List.nil_append, hf a, show (i + 1) * k - k = i * k by rw [Nat.succ_mul]; omega]
    exact this

theorem loadX_sound (R : Rel P κ ln z c s env h n) {T : TypeId} {x : Operand} {v : TV sem} (hv : TVR P κ ln z s.n v (ev env x)) (hk : loadX P c s T v Kf = some r) : Res P κ ln z c s env h n ⟨d, .load T x, ty, pos, after, g⟩ Kf r := by
  unfold loadX at hk
  split at hk
  · exact semfail hk
  · rename_i ag hag
    simp only at hk
    split at hk
    · rename_i id j
      generalize he : ev env x = a at hv
      cases hv with
      | ptr _ _ q hN hq =>
        split at hk
        · rename_i T' vs hB
          cases R.blk _ _ hB with
          | bx _ _ q' as hq' hh hvs h1 =>
            rw [hq] at hq'; cases hq'
            have hp := bx_deref (id := id) he hh
            have hl := hvs.len
            split at hk
            · rename_i hagt
              split at hk
              · rename_i hle
                refine R.q (fun K hk => ?_) (.ag _ _ ((hvs.drop j).take _) (fun a ha => h1 a (List.mem_of_mem_drop (List.mem_of_mem_take ha)))) hk
                simp only [aop, hp, loadK, hag, hagt]
                exact ⟨by simp; omega, hk⟩
              · exact semfail hk
            · rename_i hagt
              split at hk
              · rename_i v hvj
                obtain ⟨a, ha, hva⟩ := hvs.at hvj
                refine R.q (fun K hk => ?_) hva hk
                simp only [aop, hp, loadK, hag]
                rw [Bool.not_eq_true] at hagt; subst hagt
                exact ⟨a, by rw [List.getElem?_drop]; simpa using ha, hk⟩
              · exact semfail hk
        · rename_i T' t y hB
          cases R.blk _ _ hB with
          | el _ _ _ q' cs hd hq' hh hvs h1 hl =>
            rw [hq] at hq'; cases hq'
            exact partX_load R hd hag rfl hvs (bx_deref (id := id) he hh) hk
        · exact semfail hk
    · rename_i id i j
      generalize he : ev env x = a at hv
      cases hv with
      | adr _ _ _ q hN hq h0 h1 =>
        split at hk
        · rename_i T' t l hB
          simp only [Option.bind_eq_some_iff] at hk
          obtain ⟨y, hg, hk⟩ := hk
          obtain ⟨_, hy, hlt⟩ := gi_mem hg
          cases R.blk _ _ hB with
          | sl0 _ _ _ hd hq' hl hn => rw [hq] at hq'; cases hq'
          | sl _ _ _ q' es hd hq' hh hvs h1' hn =>
            rw [hq] at hq'; cases hq'
            obtain ⟨e, hei, hse⟩ := hvs.at (getMap hy)
            exact partX_load R hd hag rfl hse (row_deref he hh hei) hk
        · exact semfail hk
    · rename_i id i
      generalize he : ev env x = a at hv
      cases hv with
      | aa _ _ q hN hq h0 h1 =>
        split at hk
        · rename_i T' m t y hB
          split at hk
          · exact semfail hk
          rename_i hw1
          replace hw1 : t.wd = 1 := by simpa using hw1
          simp only [Option.bind_eq_some_iff] at hk
          obtain ⟨w, hg, hk⟩ := hk
          obtain ⟨_, hy, hlt⟩ := gi_mem hg
          cases R.blk _ _ hB with
          | el _ _ _ q' cs hd hq' hh hvs h1' hl =>
            rw [hq] at hq'; cases hq'
            have h2 := arr_at (k := 1) (f := t.enc) (fun y => by rw [enc_len t y hd, hw1]) y.l i.toNat w hy
            have h3 := (hvs.drop i.toNat).take 1
            rw [Nat.mul_one] at h2
            replace h3 : SnapL z ((cs.drop i.toNat).take 1) (((y.l.map t.enc).flatten.drop i.toNat).take 1) := h3
            rw [h2] at h3
            exact partX_gen (t := t) (y := w) (j := 0) R hd hag rfl (bx_deref (id := id) he hh) (by rw [hw1]; exact h3) hk
        · exact semfail hk
    · rename_i t y j
      cases hv with
      | fq _ _ _ _ hd hs => exact partX_fq R hd hag rfl hs hk
    · rename_i t y
      cases hv with
      | c _ _ _ hd hs => exact partX_fq (t := t) (y := y) (j := 0) R hd hag rfl (by simpa [Ty.av, Ty.agg, Ty.enc] using hs) hk
    · exact semfail hk
end
end Go.Abs

/- The typed machine is sound, seventh part: more operations. -/
set_option linter.unusedSimpArgs false
set_option linter.unusedVariables false
set_option linter.constructorNameAsVariable false
namespace Go.Abs
open Go Go.RowKit

section
variable {P : Program} {κ κ' : Nat → Option Nat} {ln ln' : Nat → Nat} {z z' : AH} {c : Cx sem} {s : TS sem} {env : Env} {h h' : AH} {n n' N N' : Nat}
variable {ρ : Ty} {Kf : TV sem → TS sem → sem.Ans ρ} {r : ρ.den}
variable {d : Option Tmp} {ty : TypeId} {pos : String} {after : Array Edge} {g : Option (Nat × Bool)}

theorem nilX_sound (R : Rel P κ ln z c s env h n) {x : Operand} {v : TV sem} (hv : TVR P κ ln z s.n v (ev env x)) (hk : nilX c s v Kf = some r) : Res P κ ln z c s env h n ⟨d, .nilCheck x, ty, pos, after, g⟩ Kf r := by
  have fin : ∀ {w : TV sem}, TVR P κ ln z s.n w (ev env x) → liveA h (ev env x) = true → Kf w s = some r → Res P κ ln z c s env h n ⟨d, .nilCheck x, ty, pos, after, g⟩ Kf r := fun hw hl hk => R.q (fun K hk => by simp only [aop]; exact ⟨hl, hk⟩) hw hk
  have live : ∀ {a : AV} {cs : List AV}, Snap z a (.fp cs) → liveA h a = true := fun hs => by
    rcases hs.fp_inv with ⟨cs, he, _⟩ | ⟨id, i, j, k, T, es, e, he, h1, h2, h3⟩
    · rw [he]; rfl
    · rw [he]; simp only [liveA, R.zin _ _ h1]; rfl
  unfold nilX at hk
  split at hk
  · rename_i id j
    split at hk
    · rename_i hany
      obtain ⟨B, hB, hcb⟩ := (Option.any_eq_true _ _).1 hany
      refine fin hv ?_ hk
      generalize ev env x = a at hv
      cases hv with
      | ptr _ _ q hN hq =>
        simp only [liveA]
        cases R.blk _ _ hB with
        | bx _ _ q' as hq' hh => rw [hq] at hq'; cases hq'; rw [hh]; rfl
        | el _ _ _ q' cs hd hq' hh => rw [hq] at hq'; cases hq'; rw [hh]; rfl
        | sl0 _ _ _ _ hq' => rw [hq] at hq'; cases hq'
        | sl _ _ _ q' cs hd hq' hh => rw [hq] at hq'; cases hq'; rw [hh]; rfl
        | mp => simp [isCellB] at hcb
    · exact semfail hk
  · refine fin hv ?_ hk
    cases hv with | fq _ _ _ _ hd hs => exact live hs
  · refine fin hv ?_ hk
    cases hv with | c _ _ _ hd hs => exact live (cs := _) (by simpa [Ty.av, Ty.agg, Ty.enc] using hs)
  · refine fin hv ?_ hk
    generalize ev env x = a at hv
    cases hv; rfl
  · refine fin hv ?_ hk
    generalize ev env x = a at hv
    cases hv with | cv _ _ _ _ _ hc => obtain ⟨g, as, rfl, _⟩ := hc; rfl
  · rename_i t y
    simp only [Option.bind_eq_some_iff] at hk
    obtain ⟨w, hw, hk⟩ := hk
    replace hw : y = some w := hw
    subst hw
    cases hv with
    | c _ _ _ hd hs =>
      have hs' : Snap z (ev env x) (.fp (t.enc w)) := by simpa [Ty.av, Ty.agg, Ty.enc, ptrE] using hs
      exact fin (.fq t w 0 _ hd (by simpa using hs')) (live hs') hk
  · exact semfail hk

theorem wk_eq (k : IntKind) (x : Int) : wk k x = k.wrap x := by cases k <;> rfl

theorem binX_int (R : Rel P κ ln z c s env h n) {op : BinOp} {T T2 : TypeId} {x y : Operand} {k k' : IntKind} {a b : Int} (hx : ev env x = .sc (.int k a)) (hy : ev env y = .sc (.int k' b)) (hk : binX P c s op T (.c (.i k) a) (.c (.i k') b) Kf = some r) :
    Res P κ ln z c s env h n ⟨d, .binOp op T x y T2, ty, pos, after, g⟩ Kf r := by
  have fin : ∀ {k2 : IntKind} {w : Int}, (∀ F : AV → Prop, F (.sc (.int k2 w)) → abinI op k a k' b F) → Kf (.c (.i k2) w) s = some r → Res P κ ln z c s env h n ⟨d, .binOp op T x y T2, ty, pos, after, g⟩ Kf r := fun h1 hk =>
    R.q (fun K hk => by simp only [aop, hx, hy, abin]; exact h1 _ hk) (.int _ _) hk
  have finB : ∀ {w : Bool}, (∀ F : AV → Prop, F (.sc (.bool w)) → abinI op k a k' b F) → Kf (.c .b w) s = some r → Res P κ ln z c s env h n ⟨d, .binOp op T x y T2, ty, pos, after, g⟩ Kf r := fun h1 hk =>
    R.q (fun K hk => by simp only [aop, hx, hy, abin]; exact h1 _ hk) (.bool _) hk
  cases op <;> simp only [binX, ipop, iop, icmp] at hk
  case quo | rem | shl | shr =>
    split at hk
    · rename_i hc
      simp only [Option.bind_eq_some_iff] at hk
      obtain ⟨w, hw, hk⟩ := hk
      simp only [gquo, grem, gshl, gshr] at hw
      split at hw <;> cases hw
      refine fin (fun F hF => ?_) hk
      simp only [abinI]
      simp at hc
      first | exact ⟨hc, by assumption, by rw [wk_eq] at hF; exact hF⟩ | exact ⟨hc, by assumption, hF⟩ | exact ⟨by assumption, by rw [wk_eq] at hF; exact hF⟩ | exact ⟨by assumption, hF⟩
    · exact semfail hk
  all_goals
    split at hk
    · rename_i hc
      subst hc
      first
        | exact fin (fun F hF => ⟨rfl, by rw [wk_eq] at hF; exact hF⟩) hk
        | exact fin (fun F hF => ⟨rfl, hF⟩) hk
        | exact finB (fun F hF => ⟨rfl, hF⟩) hk
    · exact semfail hk

theorem ba_toList (l : List UInt8) : (⟨l.toArray⟩ : ByteArray).toList = l := by simp [ByteArray.toList_mk]

theorem binX_str (R : Rel P κ ln z c s env h n) {op : BinOp} {T T2 : TypeId} {x y : Operand} {a b : List UInt8} (hx : ev env x = str a) (hy : ev env y = str b) (hk : binX P c s op T (.c .s a) (.c .s b) Kf = some r) :
    Res P κ ln z c s env h n ⟨d, .binOp op T x y T2, ty, pos, after, g⟩ Kf r := by
  have finB : ∀ {w : Bool}, (∀ F : AV → Prop, F (.sc (.bool w)) → abinS op ⟨a.toArray⟩ ⟨b.toArray⟩ F) → Kf (.c .b w) s = some r → Res P κ ln z c s env h n ⟨d, .binOp op T x y T2, ty, pos, after, g⟩ Kf r := fun h1 hk =>
    R.q (fun K hk => by simp only [aop, hx, hy, abin, str]; exact h1 _ hk) (.bool _) hk
  cases op <;> simp only [binX, scmp] at hk
  case add =>
    simp only [Option.bind_eq_some_iff] at hk
    obtain ⟨w, hw, hk⟩ := hk
    unfold gcat at hw
    split at hw <;> cases hw
    rename_i hle
    refine R.q (fun K hk => ?_) (.str _) hk
    simp only [aop, hx, hy, abin, str, abinS]
    refine ⟨by simpa [ByteArray.size] using hle, ?_⟩
    have e : (⟨a.toArray⟩ : ByteArray) ++ ⟨b.toArray⟩ = ⟨(a ++ b).toArray⟩ := by
      apply ByteArray.ext; simp
    rw [e]; exact hk
  all_goals first
    | (refine finB (fun F hF => ?_) hk; simp only [abinS, ba_toList]; exact hF)
    | exact semfail hk

theorem blk_cells (R : Rel P κ ln z c s env h n) {id q : Nat} {B : TB sem} (hB : thp c s id = some B) (hq : κ id = some q) (hc : isCellB B = true) : isCells (h q) = true := by
  cases R.blk _ _ hB with
  | bx _ _ q' as hq' hh => rw [hq] at hq'; cases hq'; rw [hh]; rfl
  | el _ _ _ q' cs hd hq' hh => rw [hq] at hq'; cases hq'; rw [hh]; rfl
  | sl0 _ _ _ _ hq' => rw [hq] at hq'; cases hq'
  | sl _ _ _ q' cs hd hq' hh => rw [hq] at hq'; cases hq'; rw [hh]; rfl
  | mp => simp [isCellB] at hc
theorem fp_cells (hzin : ∀ q B, z q = some B → h q = some B) {a : AV} {cs : List AV} (hs : Snap z a (.fp cs)) : (∃ us, a = .fp us ∧ SnapL z us cs) ∨ ∃ id i j, a = .own id i j ∧ isCells (h id) = true ∧ ∃ k T es e, z id = some (.cells k T es) ∧ es[i]? = some e ∧ SnapL z (e.drop j) cs := by
  rcases hs.fp_inv with ⟨us, rfl, h1⟩ | ⟨id, i, j, k, T, es, e, rfl, h1, h2, h3⟩
  · exact .inl ⟨us, rfl, h1⟩
  · exact .inr ⟨id, i, j, rfl, by rw [hzin _ _ h1]; rfl, k, T, es, e, h1, h2, h3⟩

theorem fieldAddr_fq (R : Rel P κ ln z c s env h n) {T ft : TypeId} {x : Operand} {f o j : Nat} {t : Ty} {y : t.den} (hd : t.dat = true) (hf : fldO P T f = some (j, ft)) (hs : Snap z (ev env x) (.fp ((t.enc y).drop o))) (hk : Kf (.fq t y (o + j)) s = some r) :
    Res P κ ln z c s env h n ⟨d, .fieldAddr T x f, ty, pos, after, g⟩ Kf r := by
  rcases fp_cells R.zin hs with ⟨us, he, h1⟩ | ⟨id, i, q, he, hc, k, T', es, e, h1, h2, h3⟩
  · exact R.q (fun K hk => by simp only [aop, hf, he]; exact hk) (.fq t y _ (.fp (us.drop j)) hd (by rw [← List.drop_drop]; exact Snap.fpL (h1.drop j))) hk
  · refine R.q (fun K hk => by simp only [aop, hf, he]; exact ⟨hc, hk⟩) (.fq t y _ (.own id i (q + j)) hd ?_) hk
    have h4 := h3.drop j
    rw [List.drop_drop, List.drop_drop] at h4
    exact .own id i (q + j) k T' es e _ h1 h2 h4.len h4.at
theorem fieldAddrX_sound (R : Rel P κ ln z c s env h n) {T : TypeId} {x : Operand} {f : Nat} {v : TV sem} (hv : TVR P κ ln z s.n v (ev env x)) (hk : fieldAddrX P c s T v f Kf = some r) : Res P κ ln z c s env h n ⟨d, .fieldAddr T x f, ty, pos, after, g⟩ Kf r := by
  unfold fieldAddrX at hk
  split at hk
  · exact semfail hk
  · rename_i j ft hf
    split at hk
    · rename_i id o
      split at hk
      · rename_i hany
        obtain ⟨B, hB, hcb⟩ := (Option.any_eq_true _ _).1 hany
        generalize he : ev env x = a at hv
        cases hv with
        | ptr _ _ q hN hq => exact R.q (fun K hk => by simp only [aop, hf, he]; exact ⟨blk_cells R hB hq hcb, hk⟩) (.ptr id _ q hN hq) hk
      · exact semfail hk
    · rename_i id i o
      split at hk
      · rename_i hany
        obtain ⟨B, hB, hcb⟩ := (Option.any_eq_true _ _).1 hany
        generalize he : ev env x = a at hv
        cases hv with
        | adr _ _ _ q hN hq h0 h1 => exact R.q (fun K hk => by simp only [aop, hf, he]; exact ⟨blk_cells R hB hq hcb, hk⟩) (.adr id i _ q hN hq h0 h1) hk
      · exact semfail hk
    · cases hv with
      | fq _ _ _ _ hd hs => exact fieldAddr_fq R hd hf hs hk
    · rename_i t y
      cases hv with
      | c _ _ _ hd hs => exact fieldAddr_fq (t := t) (y := y) (o := 0) R hd hf (by simpa [Ty.av, Ty.agg, Ty.enc] using hs) (by rw [Nat.zero_add]; exact hk)
    · exact semfail hk

theorem fieldX_sound (R : Rel P κ ln z c s env h n) {T : TypeId} {x : Operand} {f : Nat} {v : TV sem} (hv : TVR P κ ln z s.n v (ev env x)) (hk : fieldX P s T v f Kf = some r) : Res P κ ln z c s env h n ⟨d, .field T x f, ty, pos, after, g⟩ Kf r := by
  unfold fieldX at hk
  split at hk
  · exact semfail hk
  · rename_i j ft hf
    split at hk
    · exact semfail hk
    · rename_i ag hag
      simp only at hk
      split at hk
      · rename_i t y
        split at hk
        · rename_i hta
          generalize he : ev env x = a at hv
          cases hv with
          | c _ _ _ hd hs =>
            rw [av_agg hta] at hs
            obtain ⟨cs, rfl, h1⟩ := hs.ag_inv
            unfold partX at hk
            split at hk
            · rename_i p hc
              obtain ⟨t', y'⟩ := p
              obtain ⟨g1, g2, g3, g4, g5⟩ := comp_sound t y j _ ag cs hd hc h1
              obtain ⟨a, k1, k2, k3⟩ := part_tv (P := P) (κ := κ) (ln := ln) (N := s.n) g1 g2 g3 g5 (by simp; omega)
              refine R.q (fun K hk => ?_) k1 hk
              simp only [aop, hf, he, partK, hag]
              cases ag with
              | true => simp only; rw [← k2 rfl]; exact hk
              | false => exact ⟨a, by simpa using k3 rfl, hk⟩
            · exact semfail hk
        · exact semfail hk
      · rename_i vs
        generalize he : ev env x = a at hv
        cases hv with
        | ag _ as hvs h1 =>
          have hl := hvs.len
          split at hk
          · rename_i hagt
            split at hk
            · rename_i hle
              refine R.q (fun K hk => ?_) (.ag _ _ ((hvs.drop j).take _) (fun a ha => h1 a (List.mem_of_mem_drop (List.mem_of_mem_take ha)))) hk
              subst hagt
              simp only [aop, hf, he, partK, hag]
              exact hk
            · exact semfail hk
          · rename_i hagt
            rw [Bool.not_eq_true] at hagt; subst hagt
            split at hk
            · rename_i v hvj
              obtain ⟨a, ha, hva⟩ := hvs.at hvj
              refine R.q (fun K hk => ?_) hva hk
              simp only [aop, hf, he, partK, hag]
              exact ⟨a, ha, hk⟩
            · exact semfail hk
      · exact semfail hk

theorem idxAddrX_sound (R : Rel P κ ln z c s env h n) {T : TypeId} {x i : Operand} {v w : TV sem} (hv : TVR P κ ln z s.n v (ev env x)) (hw : TVR P κ ln z s.n w (ev env i)) (hk : idxAddrX P c s T v w Kf = some r) : Res P κ ln z c s env h n ⟨d, .indexAddr T x i, ty, pos, after, g⟩ Kf r := by
  unfold idxAddrX at hk
  split at hk
  · exact semfail hk
  · rename_i j hj
    have hi := hw.i64_inv hj
    split at hk
    · rename_i t l
      split at hk
      · exact semfail hk
      · rename_i hc
        simp only [not_or, Decidable.not_not] at hc
        obtain ⟨hc1, hc2, hc3⟩ := hc
        obtain ⟨e, he⟩ := Option.ne_none_iff_exists'.1 hc1
        rw [he] at hc2
        have hc2 : P.cellsOf e = t.wd := by simpa using hc2
        simp only [Option.bind_eq_some_iff] at hk
        obtain ⟨y, hg, hk⟩ := hk
        obtain ⟨h0, hy, hlt⟩ := gi_mem hg
        generalize hx : ev env x = a at hv
        cases hv with
        | c _ _ _ hd hs =>
          replace hd : t.dat = true := hd
          replace hs : Snap z a (.sl (l.map t.enc)) := hs
          have hlen := enc_len t y hd
          rcases hs.sl_inv with ⟨es, rfl, h1⟩ | ⟨_, h1⟩ | ⟨id, off, len, k, T', es, rfl, h1, h2, h3⟩
          · obtain ⟨e', hei, hse⟩ := h1.at (getMap hy)
            have hl' := hse.len
            refine R.q (fun K hk => ?_) (.fq t y 0 (.fp e') hd (by rw [List.drop_zero]; exact Snap.fpL hse)) hk
            simp only [aop, hx, hi, idxAddrK, he]
            exact ⟨h0, e', hei, by omega, by omega, hk⟩
          · simp only [List.map_eq_nil_iff] at h1; subst h1; simp at hlt
          · obtain ⟨e', hei, hse⟩ := h3.at (getMap hy)
            have hl' := hse.len
            rw [List.getElem?_take] at hei
            split at hei
            · rename_i hlt'
              rw [List.getElem?_drop] at hei
              have hk' := R.zk _ _ _ _ h1 e' (List.mem_of_getElem? hei)
              refine R.q (fun K hk => ?_) (.fq t y 0 (.own id (off + j.toNat) 0) hd ?_) hk
              · simp only [aop, hx, hi, idxAddrK, he, R.zin _ _ h1]
                exact ⟨h0, by omega, by omega, by omega, hk⟩
              · rw [List.drop_zero]
                exact .own id _ 0 k T' es e' _ h1 hei (by simpa using hse.len) (by simpa using hse.at)
            · cases hei
    · rename_i id
      split at hk
      · rename_i T' t l e hB he
        split at hk
        · rename_i hc
          simp only [Option.bind_eq_some_iff] at hk
          obtain ⟨y, hg, hk⟩ := hk
          obtain ⟨h0, hy, hlt⟩ := gi_mem hg
          generalize hx : ev env x = a at hv
          cases R.blk _ _ hB with
          | sl0 _ _ _ hd hq' hl hn => subst hl; simp at hlt
          | sl _ _ _ q' es hd hq' hh hvs h1' hn =>
            cases hv with
            | mw0 _ _ hq => rw [hq'] at hq; cases hq
            | mw _ q hN hq =>
              rw [hq'] at hq; cases hq
              refine R.q (fun K hk => ?_) (.adr id j 0 q' hN hq' h0 (by omega)) hk
              simp only [aop, hx, hi, idxAddrK, he, hh]
              exact ⟨h0, by omega, hc.1, hc.2, by rw [Nat.zero_add]; exact hk⟩
        · exact semfail hk
      · exact semfail hk
    · rename_i id o
      split at hk
      · exact semfail hk
      · rename_i ho
        obtain rfl : o = 0 := by simpa using ho
        split at hk
        · rename_i T' m t y m' e hB he
          split at hk
          · rename_i hc
            obtain ⟨rfl, hc2, hc3⟩ := hc
            simp only [Option.bind_eq_some_iff] at hk
            obtain ⟨w', hg, hk⟩ := hk
            obtain ⟨h0, hy, hlt⟩ := gi_mem hg
            rw [y.h] at hlt
            generalize hx : ev env x = a at hv
            cases R.blk _ _ hB with
            | el _ _ _ q' cs hd hq' hh hvs h1' hl =>
              cases hv with
              | ptr _ _ q hN hq =>
                rw [hq'] at hq; cases hq
                refine R.q (fun K hk => ?_) (.aa id j q' hN hq' h0 (by rw [hl _ _ rfl]; exact hlt)) hk
                simp only [aop, hx, hi, idxAddrK, he, hh]
                exact ⟨h0, by omega, by omega, by rw [hc3, Nat.zero_add, Nat.mul_one]; exact hk⟩
          · exact semfail hk
        · exact semfail hk
    · exact semfail hk
end
end Go.Abs

/- The typed machine is sound, eighth part: stores and the rest. -/
set_option linter.unusedSimpArgs false
set_option linter.unusedVariables false
set_option linter.constructorNameAsVariable false
namespace Go.Abs
open Go Go.RowKit

section
variable {P : Program} {κ κ' : Nat → Option Nat} {ln ln' : Nat → Nat} {z z' : AH} {c : Cx sem} {s : TS sem} {env : Env} {h h' : AH} {n n' N N' : Nat}
variable {ρ : Ty} {Kf : TV sem → TS sem → sem.Ans ρ} {r : ρ.den}
variable {d : Option Tmp} {ty : TypeId} {pos : String} {after : Array Edge} {g : Option (Nat × Bool)}

theorem cells_one {v : TV sem} {a : AV} (hv : TVR P κ ln z N v a) {vs : List (TV sem)} (hc : cellsT v = some vs) {as : List AV} (h1 : cellsA a = some as) : ∀ b ∈ as, b.one = true := by
  intro b hb
  cases hv with
  | c t x a hd hs =>
    obtain ⟨cs, h3, h4⟩ := c_cells hd hs
    rw [h1] at h3; cases h3
    exact h4.one_rev (enc_one t x hd) b hb
  | ag vs' as' _ h5 => cases h1; exact h5 b hb
  | un | ud | tp => simp [cellsT] at hc
  | sc w hw => cases h1; simp at hb; subst hb; exact hw
  | fq t x o a hd hs => rcases hs.fp_inv with ⟨cs, rfl, _⟩ | ⟨id, i, j, k, T, es, e, rfl, _⟩ <;> (cases h1; simp at hb; subst hb; rfl)
  | cv m x y F a hcv => obtain ⟨g, as', rfl, _⟩ := hcv; cases h1; simp at hb; subst hb; rfl
  | _ => cases h1; simp at hb; subst hb; rfl

/-- the cells that a stored value has -/
theorem snap_cells (R : Rel P κ ln z c s env h n) {v : TV sem} {a : AV} (hv : TVR P κ ln z s.n v a) {t : Ty} {y : t.den} {ids : List Nat} (hs : snapV (A := sem) c s t v = some (y, ids)) : ∃ xs, cellsA a = some xs ∧ SnapL (hz κ h z ids) xs (t.enc y) ∧ t.dat = true := by
  obtain ⟨hd, h1, _⟩ := snapV_sound R hv hs
  obtain ⟨cs, h2, h3⟩ := c_cells hd h1
  exact ⟨cs, h2, h3, hd⟩

theorem own_def {s : TS sem} {id : Nat} {B : TB sem} (h : ownB s id = some B) : alk s.hp id = some (some B) := by
  unfold ownB at h
  cases hb : alk s.hp id with
  | none => rw [hb] at h; cases h
  | some b => rw [hb] at h; simp only at h; rw [h]

theorem set_SnapE {es es' : List (List AV)} (hs : SnapE z es es') {i : Nat} {e e' : List AV} (he : SnapL z e e') : SnapE z (es.set i e) (es'.set i e') := by
  refine ⟨by simp [hs.1], fun q x x' hq hq' => ?_⟩
  rw [List.getElem?_set] at hq hq'
  split at hq
  · rename_i hiq
    rw [if_pos hiq] at hq'
    split at hq
    · cases hq
      split at hq'
      · cases hq'; exact he
      · cases hq'
    · cases hq
  · rename_i hiq
    rw [if_neg hiq] at hq'
    exact hs.2 q x x' hq hq'
theorem ones_set {es : List (List AV)} {i : Nat} {e : List AV} (h : ∀ e ∈ es, ∀ a ∈ e, a.one = true) (he : ∀ a ∈ e, a.one = true) : ∀ x ∈ es.set i e, ∀ a ∈ x, a.one = true := by
  intro x hx a ha
  rcases List.mem_or_eq_of_mem_set hx with hx | rfl
  · exact h x hx a ha
  · exact he a ha

theorem storeX_sound (R : Rel P κ ln z c s env h n) {T : TypeId} {p x : Operand} {u v : TV sem} (hu : TVR P κ ln z s.n u (ev env p)) (hv : TVR P κ ln z s.n v (ev env x)) (hk : storeX P c s T u v Kf = some r) : Res P κ ln z c s env h n ⟨d, .store T p x, ty, pos, after, g⟩ Kf r := by
  unfold storeX at hk
  simp only at hk
  split at hk
  · exact semfail hk
  · rename_i ag hag
    split at hk
    · exact semfail hk
    · rename_i hm0
      have hval : ∀ (xs : List AV), cellsA (ev env x) = some xs → ∀ t y, ((snapV (A := sem) c s t v).bind fun y => if y.2.isEmpty then some y.1 else none) = some y → t.dat = true ∧ SnapL z xs (t.enc y) := fun xs hxs t y hy => by
        simp only [Option.bind_eq_some_iff] at hy
        obtain ⟨⟨w, ids⟩, hw, hy⟩ := hy
        split at hy
        · rename_i hem
          cases hy
          obtain rfl := List.isEmpty_iff.1 hem
          obtain ⟨xs', h1, h2, h3⟩ := snap_cells R hv hw
          rw [hxs] at h1; cases h1
          rw [hz_nil] at h2
          exact ⟨h3, h2⟩
        · cases hy
      have hex : ∀ t y, ((snapV (A := sem) c s t v).bind fun y => if y.2.isEmpty then some y.1 else none) = some y → ∃ xs, cellsA (ev env x) = some xs := fun t y hy => by
        simp only [Option.bind_eq_some_iff] at hy
        obtain ⟨⟨w, ids⟩, hw, hy⟩ := hy
        obtain ⟨xs', h1, h2, h3⟩ := snap_cells R hv hw
        exact ⟨xs', h1⟩
      split at hk
      · rename_i id j
        split at hk
        · rename_i T' vs hB
          replace hB := own_def hB
          split at hk
          · rename_i xs hxs
            split at hk
            · rename_i hc
              obtain ⟨as', h1, h2⟩ := hv.one_cells hxs
              have h1o := cells_one hv hxs h1
              have hl2 := h2.len
              generalize he : ev env p = a at hu
              cases hu with
              | ptr _ _ q hN hq =>
                cases R.blk _ _ (own_thp hB) with
                | bx _ _ q' as hq' hh hvs ho =>
                  rw [hq] at hq'; cases hq'
                  have hl := hvs.len
                  have hnew : BR P κ ln z (updH h q (.cells vs.length T' [putAt as j as'])) s.n id (.bx T' (vs.take j ++ xs ++ vs.drop (j + P.cellsOf T))) := by
                    refine .bx _ _ q (as.take j ++ as' ++ as.drop (j + P.cellsOf T)) hq ?_ (((hvs.take j).append h2).append (hvs.drop _)) ?_
                    · simp only [updH, if_true]
                      rw [putAt_eq (by omega), hl2, hc.1]
                      congr 2
                      simp; omega
                    · intro b hb
                      rcases List.mem_append.1 hb with hb | hb
                      · rcases List.mem_append.1 hb with hb | hb
                        · exact ho b (List.mem_of_mem_take hb)
                        · exact h1o b hb
                      · exact ho b (List.mem_of_mem_drop hb)
                  exact ⟨.ud, _, .ud, _, _, κ, ln, z, fun K hk => by
                    simp only [aop, he, storeK, hh, h1]
                    exact ⟨by omega, by omega, by omega, hk⟩, hk, R.set hB hq hnew, .ud, rfl, Nat.le_refl _, fun _ _ => ⟨rfl, rfl⟩, fun hc => by cases hc⟩
            · exact semfail hk
          · exact semfail hk
        · rename_i T' t y hB
          replace hB := own_def hB
          split at hk
          · rename_i y' hy'
            generalize he : ev env p = a at hu
            cases hu with
            | ptr _ _ q hN hq =>
              cases R.blk _ _ (own_thp hB) with
              | el _ _ _ q' cs hd hq' hh hvs ho hl =>
                rw [hq] at hq'; cases hq'
                have ⟨xs, hxs⟩ : ∃ xs, cellsA (ev env x) = some xs := by
                  cases hca : cellsA (ev env x) with
                  | some xs => exact ⟨xs, rfl⟩
                  | none =>
                    exfalso
                    have := setC_sound (z := z) (xs := []) (val := fun t => (snapV (A := sem) c s t v).bind fun y => if y.2.isEmpty then some y.1 else none) (fun t y hy => by obtain ⟨xs, h⟩ := hex t y hy; rw [hca] at h; cases h) t y j _ ag cs hd hy' hvs
                    simp at this
                    omega
                obtain ⟨g1, g2, g3⟩ := setC_sound (z := z) (hval xs hxs) t y j _ ag cs hd hy' hvs
                have hone : ∀ b ∈ xs, b.one = true := by
                  intro b hb
                  have : b ∈ cs.take j ++ xs ++ cs.drop (j + P.cellsOf T) := by simp [hb]
                  exact g3.one_rev (enc_one t y' hd) b this
                have hnew : BR P κ ln z (updH h q (.cells t.wd T' [putAt cs j xs])) s.n id (.el T' t y') := by
                  rw [putAt_eq (by omega), g1]
                  refine .el _ _ _ q _ hd hq (by simp [updH]) g3 (g3.one_rev (enc_one t y' hd)) hl
                exact ⟨.ud, _, .ud, _, _, κ, ln, z, fun K hk => by
                  simp only [aop, he, storeK, hh, hxs]
                  exact ⟨by omega, by omega, by omega, hk⟩, hk, R.set hB hq hnew, .ud, rfl, Nat.le_refl _, fun _ _ => ⟨rfl, rfl⟩, fun hc => by cases hc⟩
          · exact semfail hk
        · exact semfail hk
      · rename_i id i j
        split at hk
        · rename_i T' t l hB
          replace hB := own_def hB
          generalize he : ev env p = a at hu
          cases hu with
          | adr _ _ _ q hN hq h0 h1 =>
            cases R.blk _ _ (own_thp hB) with
            | sl0 _ _ _ _ hq' => rw [hq] at hq'; cases hq'
            | sl _ _ _ q' es hd hq' hh hvs ho hn =>
              rw [hq] at hq'; cases hq'
              have hlen := hvs.1
              rw [List.length_map, hn] at hlen
              obtain ⟨e, hei⟩ : ∃ e, es[i.toNat]? = some e := ⟨es[i.toNat]'(by omega), List.getElem?_eq_getElem _⟩
              obtain ⟨y0, hy0⟩ : ∃ y0, l[i.toNat]? = some y0 := ⟨l[i.toNat]'(by omega), List.getElem?_eq_getElem _⟩
              have hse := hvs.2 _ _ _ hei (getMap hy0)
              have hel := hse.len
              rw [enc_len t y0 hd] at hel
              split at hk
              · rename_i hc
                obtain ⟨rfl, hm, rfl⟩ := hc
                split at hk
                · rename_i y ids hy
                  split at hk
                  · rename_i s' hs'
                    split at hk
                    · exact semfail hk
                    · rename_i hnid
                      replace hnid : id ∉ ids := by simpa using hnid
                      obtain ⟨R', e1, e2, e3, e4, e5⟩ := R.retire hs'
                      have hB' := e3 id _ hB hnid
                      obtain ⟨xs, hxs, hsx, _⟩ := snap_cells R hv hy
                      have hxl := hsx.len
                      rw [enc_len t y hd] at hxl
                      have hnew : BR P κ ln (hz κ h z ids) (updH h q (.cells t.wd T' (es.set i.toNat (putAt e 0 xs)))) s'.n id (.sl T' t (lset l i y)) := by
                        rw [putAt_eq (by omega), List.take_zero, List.nil_append, Nat.zero_add, List.drop_eq_nil_of_le (by omega), List.append_nil]
                        refine .sl _ _ _ q (es.set i.toNat xs) hd hq (by simp [updH]) ?_ (ones_set ho (hsx.one_rev (enc_one t y hd))) (by simp [lset]; exact hn)
                        rw [lset, List.map_set]
                        exact set_SnapE (hvs.mono (hz_z R.zin)) hsx
                      exact ⟨.ud, _, .ud, _, _, κ, ln, _, fun K hk => by
                        simp only [aop, he, storeK, hh, hxs, hei]
                        exact ⟨by omega, by omega, by omega, hk⟩, hk, R'.set hB' hq hnew, .ud, e1, by simp [e2], fun _ _ => ⟨rfl, rfl⟩, fun hc => by cases hc⟩
                  · exact semfail hk
                · exact semfail hk
              · simp only [Option.bind_eq_some_iff] at hk
                obtain ⟨y1, hg, hk⟩ := hk
                obtain ⟨_, hy1, _⟩ := gi_mem hg
                rw [hy0] at hy1; cases hy1
                split at hk
                · rename_i y' hy'
                  have ⟨xs, hxs⟩ : ∃ xs, cellsA (ev env x) = some xs := by
                    cases hca : cellsA (ev env x) with
                    | some xs => exact ⟨xs, rfl⟩
                    | none =>
                      exfalso
                      have := setC_sound (z := z) (xs := []) (val := fun t => (snapV (A := sem) c s t v).bind fun y => if y.2.isEmpty then some y.1 else none) (fun t y hy => by obtain ⟨xs, h⟩ := hex t y hy; rw [hca] at h; cases h) t y0 j _ ag e hd hy' hse
                      simp at this
                      omega
                  obtain ⟨g1, g2, g3⟩ := setC_sound (z := z) (hval xs hxs) t y0 j _ ag e hd hy' hse
                  have hnew : BR P κ ln z (updH h q (.cells t.wd T' (es.set i.toNat (putAt e j xs)))) s.n id (.sl T' t (lset l i y')) := by
                    rw [putAt_eq (by omega), g1]
                    refine .sl _ _ _ q (es.set i.toNat (e.take j ++ xs ++ e.drop (j + P.cellsOf T))) hd hq (by simp [updH]) ?_ (ones_set ho (g3.one_rev (enc_one t y' hd))) (by simp [lset]; exact hn)
                    rw [lset, List.map_set]
                    exact set_SnapE hvs g3
                  exact ⟨.ud, _, .ud, _, _, κ, ln, z, fun K hk => by
                    simp only [aop, he, storeK, hh, hxs, hei]
                    exact ⟨by omega, by omega, by omega, hk⟩, hk, R.set hB hq hnew, .ud, rfl, Nat.le_refl _, fun _ _ => ⟨rfl, rfl⟩, fun hc => by cases hc⟩
                · exact semfail hk
        · exact semfail hk
      · rename_i id i
        split at hk
        · rename_i T' m t y hB
          replace hB := own_def hB
          split at hk
          · exact semfail hk
          · rename_i hc
            simp only [not_or, Decidable.not_not] at hc
            split at hk
            · rename_i w hw
              generalize he : ev env p = a at hu
              cases hu with
              | aa _ _ q hN hq h0 h1 =>
                cases R.blk _ _ (own_thp hB) with
                | el _ _ _ q' cs hd hq' hh hvs ho hl =>
                  rw [hq] at hq'; cases hq'
                  obtain ⟨xs, hxs, hsx, hdt⟩ := snap_cells R hv hw
                  rw [hz_nil] at hsx
                  have hxl := hsx.len
                  rw [enc_len t w hdt, hc.1] at hxl
                  have hlt : i.toNat < m := by rw [← hl _ _ rfl]; exact h1
                  have hcl := hvs.len
                  rw [enc_len (.ar m t) y hd] at hcl
                  simp only [Ty.wd, hc.1, Nat.mul_one] at hcl
                  have one1 : ∀ y : t.den, ∃ a, t.enc y = [a] := fun y => by
                    have := enc_len t y hdt
                    rw [hc.1] at this
                    match hh : t.enc y, this with
                    | [a], _ => exact ⟨a, rfl⟩
                  have setf : ∀ (l : List t.den) (k : Nat), k < l.length → ((l.set k w).map t.enc).flatten = (l.map t.enc).flatten.take k ++ t.enc w ++ (l.map t.enc).flatten.drop (k + 1) := by
                    intro l
                    induction l with
                    | nil => intro k hk; simp at hk
                    | cons b l ih =>
                      intro k hk
                      obtain ⟨a, ha⟩ := one1 b
                      cases k with
                      | zero => simp [ha]
                      | succ k =>
                        have := ih k (by simpa using hk)
                        rw [List.set_cons_succ, List.map_cons, List.flatten_cons, List.map_cons, List.flatten_cons, ha, this]
                        simp
                  have hsn : SnapL z (cs.take i.toNat ++ xs ++ cs.drop (i.toNat + 1)) ((Ty.ar m t).enc (aset y i w)) := by
                    show SnapL z _ (((y.l.set i.toNat w).map t.enc).flatten)
                    rw [setf y.l i.toNat (by rw [y.h]; exact hlt)]
                    exact ((hvs.take _).append hsx).append (hvs.drop _)
                  have hnew : BR P κ ln z (updH h q (.cells (Ty.ar m t).wd T' [putAt cs i.toNat xs])) s.n id (.el T' (.ar m t) (aset y i w)) := by
                    rw [putAt_eq (by omega), ← hxl] 
                    exact .el _ _ _ q _ hd hq (by simp [updH]) hsn (hsn.one_rev (enc_one (.ar m t) _ hd)) hl
                  exact ⟨.ud, _, .ud, _, _, κ, ln, z, fun K hk => by
                    simp only [aop, he, storeK, hh, hxs]
                    exact ⟨by omega, by omega, by omega, hk⟩, hk, R.set hB hq hnew, .ud, rfl, Nat.le_refl _, fun _ _ => ⟨rfl, rfl⟩, fun hc => by cases hc⟩
            · exact semfail hk
        · exact semfail hk
      · exact semfail hk

theorem unX_sound (R : Rel P κ ln z c s env h n) {op : UnOp} {T : TypeId} {x : Operand} {v : TV sem} (hv : TVR P κ ln z s.n v (ev env x)) (hk : unX s op v Kf = some r) : Res P κ ln z c s env h n ⟨d, .unOp op T x, ty, pos, after, g⟩ Kf r := by
  unfold unX at hk
  generalize hx : ev env x = a at hv
  split at hk
  · cases hv
    exact R.q (fun K hk => by simp only [aop, hx, unK]; exact hk) (.kb _) hk
  · rw [hv.b_inv] at hx
    exact R.q (fun K hk => by simp only [aop, hx, unK]; exact hk) (.bool _) hk
  · rw [hv.i_inv] at hx
    exact R.q (fun K hk => by simp only [aop, hx, unK]; rw [← wk_eq]; exact hk) (.int _ _) hk
  · exact semfail hk
theorem convX_sound (R : Rel P κ ln z c s env h n) {S T : TypeId} {x : Operand} {v : TV sem} (hv : TVR P κ ln z s.n v (ev env x)) (hk : convX P s S T v Kf = some r) : Res P κ ln z c s env h n ⟨d, .convert S T x, ty, pos, after, g⟩ Kf r := by
  unfold convX at hk
  generalize hx : ev env x = a at hv
  split at hk
  · rename_i k y k' hT
    split at hk
    · rename_i hS
      rw [hv.i_inv] at hx
      exact R.q (fun K hk => by simp only [aop, hx, convK, hT]; rw [← wk_eq]; exact ⟨hS, hk⟩) (.int _ _) hk
    · exact semfail hk
  · exact semfail hk
theorem mmX_sound (R : Rel P κ ln z c s env h n) {mx : Bool} {T : Array TypeId} {x y : Operand} {u v : TV sem} (hu : TVR P κ ln z s.n u (ev env x)) (hv : TVR P κ ln z s.n v (ev env y)) (hk : mmX mx s u v Kf = some r) :
    Res P κ ln z c s env h n ⟨d, .call ⟨.builtin (if mx then .max else .min), #[x, y], T⟩, ty, pos, after, g⟩ Kf r := by
  unfold mmX at hk
  generalize hx : ev env x = a at hu
  generalize hy : ev env y = b at hv
  split at hk
  · rename_i k i k' j
    split at hk
    · rename_i e
      subst e
      rw [hu.i_inv] at hx
      rw [hv.i_inv] at hy
      cases mx
      · exact R.q (fun K hk => by simp only [aop, builtinK, Bool.false_eq_true, if_false, if_true]; rw [hx, hy]; exact ⟨rfl, hk⟩) (.int _ _) hk
      · exact R.q (fun K hk => by simp only [aop, builtinK, Bool.false_eq_true, if_false, if_true]; rw [hx, hy]; exact ⟨rfl, hk⟩) (.int _ _) hk
    · exact semfail hk
  · exact semfail hk

theorem idxX_sound (R : Rel P κ ln z c s env h n) {T : TypeId} {x i : Operand} {v w : TV sem} (hv : TVR P κ ln z s.n v (ev env x)) (hw : TVR P κ ln z s.n w (ev env i)) (hk : idxX P s T v w Kf = some r) : Res P κ ln z c s env h n ⟨d, .index T x i, ty, pos, after, g⟩ Kf r := by
  unfold idxX at hk
  split at hk
  · exact semfail hk
  · rename_i j hj
    have hi := hw.i64_inv hj
    generalize hx : ev env x = a at hv
    split at hk
    · rename_i l
      split at hk
      · rename_i hT
        replace hT := isStrT_eq hT
        simp only [Option.bind_eq_some_iff] at hk
        obtain ⟨y, hg, hk⟩ := hk
        simp only [gstr, Option.map_eq_some_iff] at hg
        obtain ⟨b, hg, rfl⟩ := hg
        rw [hv.s_inv] at hx
        exact R.q (fun K hk => s_ixStr (l := l) hT hx hi hg hk) (.int _ _) hk
      · exact semfail hk
    · rename_i m t y
      split at hk
      · rename_i m' e he
        split at hk
        · rename_i hc
          obtain ⟨rfl, hw1, hw0, hag⟩ := hc
          simp only [Option.bind_eq_some_iff] at hk
          obtain ⟨w', hg, hk⟩ := hk
          obtain ⟨h0, hy, hlt⟩ := gi_mem hg
          rw [y.h] at hlt
          cases hv with
          | c _ _ _ hd hs =>
            rw [av_agg rfl] at hs
            obtain ⟨cs, rfl, h1⟩ := hs.ag_inv
            replace hd : t.dat = true := hd
            have h2 := arr_at (k := t.wd) (f := t.enc) (fun y => enc_len t y hd) y.l j.toNat w' hy
            have h3 := (h1.drop (j.toNat * t.wd)).take t.wd
            replace h3 : SnapL z ((cs.drop (j.toNat * t.wd)).take t.wd) (((y.l.map t.enc).flatten.drop (j.toNat * t.wd)).take t.wd) := h3
            rw [h2] at h3
            have h4 := h3.len
            rw [enc_len t w' hd, List.length_take] at h4
            obtain ⟨a, k1, k2, k3⟩ := part_tv (P := P) (κ := κ) (ln := ln) (N := s.n) hd rfl rfl h3 (by omega)
            refine R.q (fun K hk => ?_) k1 hk
            simp only [aop, hx, hi, idxK, he, partK, hag]
            refine ⟨h0, by omega, by omega, ?_⟩
            cases hag' : t.agg with
            | true => simp only; rw [← hw1, ← k2 hag']; exact hk
            | false => simp only; exact ⟨a, by rw [← hw1]; simpa using k3 hag', hk⟩
        · exact semfail hk
      · exact semfail hk
    · exact semfail hk

theorem lenX_sound (R : Rel P κ ln z c s env h n) {T : TypeId} {x : Operand} {v : TV sem} (hv : TVR P κ ln z s.n v (ev env x)) (hk : lenX P c s T v Kf = some r) : Res P κ ln z c s env h n ⟨d, .call ⟨.builtin .len, #[x], #[T]⟩, ty, pos, after, g⟩ Kf r := by
  unfold lenX at hk
  generalize hx : ev env x = a at hv
  split at hk
  · rename_i t l
    split at hk
    · rename_i he
      refine R.q (fun K hk => ?_) (.int _ _) hk
      simp only [aop, builtinK, hx]
      replace hk : K (.sc (.int .i64 (l.length : Int))) h n := hk
      cases hv with
      | c _ _ _ hd hs =>
        replace hs : Snap z a (.sl (l.map t.enc)) := hs
        rcases hs.sl_inv with ⟨es, rfl, h1⟩ | ⟨rfl, h1⟩ | ⟨id, off, len, k, T', es, rfl, h1, h2, h3⟩
        · have hl := h1.1
          rw [List.length_map] at hl
          simp only [lenK]
          exact ⟨he, fun _ => by rw [← hl]; exact hk⟩
        · simp only [List.map_eq_nil_iff] at h1; subst h1
          simp only [lenK]
          exact ⟨he, hk⟩
        · have hl := h3.1
          rw [List.length_map, List.length_take, List.length_drop] at hl
          have hl' : l.length = len := by omega
          simp only [lenK, R.zin _ _ h1]
          exact ⟨he, rfl, fun _ => by rw [← hl']; exact hk⟩
    · exact semfail hk
  · rename_i id
    split at hk
    · rename_i T' t l hB
      split at hk
      · rename_i he
        refine R.q (fun K hk => ?_) (.int _ _) hk
        simp only [aop, builtinK, hx]
        replace hk : K (.sc (.int .i64 (l.length : Int))) h n := hk
        cases R.blk _ _ hB with
        | sl0 _ _ _ hd hq' hl hn =>
          subst hl
          cases hv with
          | mw0 => simp only [lenK]; exact ⟨he, hk⟩
          | mw _ q _ hq => rw [hq'] at hq; cases hq
        | sl _ _ _ q' es hd hq' hh hvs h1' hn =>
          cases hv with
          | mw0 _ _ hq => rw [hq'] at hq; cases hq
          | mw _ q _ hq =>
            rw [hq'] at hq; cases hq
            simp only [lenK, hh]
            exact ⟨he, rfl, fun _ => by rw [← hn]; exact hk⟩
      · exact semfail hk
    · exact semfail hk
  · rename_i u
    split at hk
    · rename_i hc
      obtain ⟨hc, he⟩ := hc
      cases hv
      rw [isNilS_eq hc] at hx
      refine R.q (fun K hk => ?_) (.int _ _) hk
      simp only [aop, builtinK, hx, lenK]
      exact ⟨he, hk⟩
    · exact semfail hk
  · rename_i l
    split at hk
    · rename_i hT
      replace hT := isStrT_eq hT
      rw [hv.s_inv] at hx
      exact R.q (fun K hk => s_lenStr (l := l) hT hx hk) (.int _ _) hk
    · exact semfail hk
  · rename_i id
    split at hk
    · rename_i k v' l hB
      split at hk
      · rename_i hT
        obtain ⟨k1, v1, hT⟩ := isMapT_eq hT
        cases R.blk _ _ hB with
        | mp _ _ _ q hk' hf ha hq hh =>
          cases hv with
          | mp _ q' _ hq' =>
            rw [hq] at hq'; cases hq'
            refine R.q (fun K hk => ?_) (.int _ _) hk
            simp only [aop, builtinK, hx, lenK, hh, hT, List.length_map]
            exact hk
      · exact semfail hk
    · exact semfail hk
  · exact semfail hk

theorem bounds_lo {lo : Option Operand} {l : Int} (hlo : ∀ x, TVR P κ ln z s.n (tev c s x) (ev env x)) (h : loD (lo.map (tev c s)) = some l) : loA (lo.map (ev env)) = some l := by
  cases lo with
  | none => cases h; rfl
  | some x => simp only [Option.map_some] at h ⊢; rw [(hlo x).i64_inv h]; rfl
theorem bounds_hi {hi : Option Operand} {l : Int} {m : Nat} (hlo : ∀ x, TVR P κ ln z s.n (tev c s x) (ev env x)) (h : hiD (A := sem) (hi.map (tev c s)) (m : Int) = some l) : hiA m (hi.map (ev env)) = some l := by
  cases hi with
  | none => cases h; rfl
  | some x => simp only [Option.map_some] at h ⊢; rw [(hlo x).i64_inv h]; rfl
end
end Go.Abs

/- The typed machine is sound, ninth part: slices, append, what is built. -/
set_option linter.unusedSimpArgs false
set_option linter.unusedVariables false
set_option linter.constructorNameAsVariable false
namespace Go.Abs
open Go Go.RowKit

section
variable {P : Program} {κ κ' : Nat → Option Nat} {ln ln' : Nat → Nat} {z z' : AH} {c : Cx sem} {s : TS sem} {env : Env} {h h' : AH} {n n' N N' : Nat}
variable {ρ : Ty} {Kf : TV sem → TS sem → sem.Ans ρ} {r : ρ.den}
variable {d : Option Tmp} {ty : TypeId} {pos : String} {after : Array Edge} {g : Option (Nat × Bool)}

theorem SnapE.heads {t : Ty} {l : List t.den} {es : List (List AV)} (hd : t.dat = true) (hs : SnapE z es (l.map t.enc)) : ∀ e ∈ es, e.length = t.wd := by
  intro e he
  obtain ⟨i, hi⟩ := List.getElem?_of_mem he
  have hlt := (List.getElem?_eq_some_iff.1 hi).1
  have hlen := hs.1
  rw [List.length_map] at hlen
  have := (hs.2 i e _ hi (by rw [List.getElem?_map, List.getElem?_eq_getElem (by omega)]; rfl)).len
  rw [enc_len t _ hd] at this; exact this.symm

theorem SnapE.td {es es' : List (List AV)} (h : SnapE z es es') (o m : Nat) : SnapE z ((es.take m).drop o) ((es'.take m).drop o) := by
  refine ⟨by simp [h.1], fun q e e' hq hq' => ?_⟩
  rw [List.getElem?_drop, List.getElem?_take] at hq hq'
  split at hq
  · rename_i hlt
    rw [if_pos hlt] at hq'
    exact h.2 _ e e' hq hq'
  · cases hq
theorem gsl_nil0 {l u : Int} {m : Nat} (g1 : 0 ≤ l) (g2 : l ≤ u) (g3 : u ≤ (m : Int)) (hm : m = 0) : l = 0 ∧ u = 0 := by omega
theorem sliceX_sound (R : Rel P κ ln z c s env h n) {T : TypeId} {x : Operand} {lo hi : Option Operand} {v : TV sem} (hv : TVR P κ ln z s.n v (ev env x)) (hk : sliceX P c s T v (lo.map (tev c s)) (hi.map (tev c s)) Kf = some r) : Res P κ ln z c s env h n ⟨d, .slice T x lo hi none, ty, pos, after, g⟩ Kf r := by
  unfold sliceX at hk
  split at hk
  · exact semfail hk
  · rename_i l hl
    have hlo := bounds_lo (fun x => R.ev x) hl
    simp only at hk
    generalize hx : ev env x = a at hv
    split at hk
    · rename_i t y
      split at hk
      · rename_i u e hu he
        have hhi := bounds_hi (m := y.length) (fun x => R.ev x) hu
        split at hk
        · rename_i hc
          obtain ⟨hw, hie, hdy⟩ := hc
          simp only [Option.bind_eq_some_iff] at hk
          obtain ⟨w, hg, hk⟩ := hk
          obtain ⟨g1, g2, g3, hg⟩ := gsl_inv hg
          subst hg
          have hz0 := R.dy hdy
          cases hv with
          | c _ _ _ hd hs =>
            replace hs : Snap z a (.sl (y.map t.enc)) := hs
            replace hd : t.dat = true := hd
            have hie' : ∃ i, P.info? e = some i := Option.isSome_iff_exists.1 hie
            rcases hs.sl_inv with ⟨es, rfl, h1⟩ | ⟨rfl, h1⟩ | ⟨id, off, len, k, T', es, rfl, h1, h2, h3⟩
            · have hl1 := h1.1
              rw [List.length_map] at hl1
              refine R.q (fun K hk => ?_) (.c (.sl t) ((y.take u.toNat).drop l.toNat) (.sl ((es.take u.toNat).drop l.toNat)) hd ?_) hk
              · simp only [aop, hx, sliceK, boundsK, hlo]
                rw [← hl1, hhi]
                exact ⟨⟨e, he, hie', fun c hc => by rw [← hw]; exact h1.heads hd c (List.mem_of_mem_head? hc)⟩, g1, g2, g3, hk⟩
              · show Snap z _ (.sl (((y.take u.toNat).drop l.toNat).map t.enc))
                rw [List.map_drop, List.map_take]
                exact Snap.of_sl (h1.td _ _)
            · simp only [List.map_eq_nil_iff] at h1
              subst h1
              obtain ⟨gl, gu⟩ := gsl_nil0 g1 g2 g3 rfl
              subst gu; subst gl
              refine R.q (fun K hk => ?_) (.c (.sl t) _ nilS hd .nilS) hk
              simp only [aop, hx, sliceK, boundsK, hlo]
              rw [show hiA 0 (hi.map (ev env)) = some 0 from hhi]
              exact ⟨⟨e, he, hie'⟩, Int.le_refl _, Int.le_refl _, Int.le_refl _, hk⟩
            · rw [hz0] at h1; cases h1
        · exact semfail hk
      · exact semfail hk
    · rename_i id
      split at hk
      · rename_i T' t y hB
        split at hk
        · rename_i u e hu he
          have hhi := bounds_hi (m := y.length) (fun x => R.ev x) hu
          split at hk
          · rename_i hc
            obtain ⟨hw, hw0, hie⟩ := hc
            have hie' : ∃ i, P.info? e = some i := Option.isSome_iff_exists.1 hie
            simp only [Option.bind_eq_some_iff] at hk
            obtain ⟨w, hg, hk⟩ := hk
            obtain ⟨g1, g2, g3, _⟩ := gsl_inv hg
            cases R.blk _ _ hB with
            | sl0 _ _ _ hd hq' hl' hn =>
              subst hl'
              obtain ⟨gl, gu⟩ := gsl_nil0 g1 g2 g3 rfl
              subst gu; subst gl
              cases hv with
              | mw0 _ hN _ =>
                refine R.q (fun K hk => ?_) (.ms0 id 0 (0 - 0) hN hq' rfl (by simp)) hk
                simp only [aop, hx, sliceK, boundsK, hlo]
                rw [show hiA 0 (hi.map (ev env)) = some 0 from hhi]
                exact ⟨⟨e, he, hie'⟩, Int.le_refl _, Int.le_refl _, Int.le_refl _, hk⟩
              | mw _ q _ hq => rw [hq'] at hq; cases hq
            | sl _ _ _ q' es hd hq' hh hvs h1' hn =>
              cases hv with
              | mw0 _ _ hq => rw [hq'] at hq; cases hq
              | mw _ q hN hq =>
                rw [hq'] at hq; cases hq
                refine R.q (fun K hk => ?_) (.ms id l (u - l) q' hN hq' g1 (by omega) (by rw [← hn]; omega)) hk
                simp only [aop, hx, sliceK, boundsK, hlo, hh]
                rw [← hn, hhi]
                refine ⟨⟨e, he, hw, hw0⟩, g1, g2, g3, ?_⟩
                rw [Nat.zero_add, show u.toNat - l.toNat = (u - l).toNat by omega]; exact hk
          · exact semfail hk
        · exact semfail hk
      · exact semfail hk
    · rename_i y
      split at hk
      · rename_i u hu
        have hhi := bounds_hi (m := y.length) (fun x => R.ev x) hu
        split at hk
        · rename_i hT
          replace hT := isStrT_eq hT
          simp only [Option.bind_eq_some_iff] at hk
          obtain ⟨w, hg, hk⟩ := hk
          obtain ⟨g1, g2, g3, hg⟩ := gsl_inv hg
          subst hg
          rw [hv.s_inv] at hx
          refine R.q (fun K hk => ?_) (.str _) hk
          simp only [aop, hx, str, sliceK, boundsK, hlo]
          rw [show (⟨y.toArray⟩ : ByteArray).size = y.length by simp [ByteArray.size], hhi]
          refine ⟨hT, g1, g2, g3, ?_⟩
          have e : (⟨y.toArray⟩ : ByteArray).extract l.toNat u.toNat = ⟨((y.take u.toNat).drop l.toNat).toArray⟩ := by
            apply ByteArray.ext
            simp [List.drop_take]
          rw [e]; exact hk
        · exact semfail hk
      · exact semfail hk
    · exact semfail hk

/-- the elements of a value -/
theorem src_sound (R : Rel P κ ln z c s env h n) {t : Ty} {v : TV sem} {a : AV} (hv : TVR P κ ln z s.n v a) {l : List t.den} {ids : List Nat} (hs : srcX (A := sem) c s t v = some (l, ids)) :
    t.dat = true ∧ ∃ xs, srcA h t.wd a = some xs ∧ SnapE z xs (l.map t.enc) := by
  have all : ∀ {es : List (List AV)} {l : List t.den}, t.dat = true → SnapE z es (l.map t.enc) → srcA h t.wd (.sl es) = some es := fun hd h2 => by
    simp only [srcA]
    rw [if_pos]
    rw [List.all_eq_true]
    exact fun e he => by simpa using h2.heads hd e he
  have bl : ∀ {id q : Nat} {T : TypeId} {es : List (List AV)} {t' : Ty} {l' : List t'.den}, thp c s id = some (.sl T t' l') → κ id = some q → ∃ es, h q = some (.cells t'.wd T es) ∧ SnapE z es (l'.map t'.enc) ∧ es.length = ln id := fun hB hq => by
    cases R.blk _ _ hB with
    | sl0 _ _ _ hd hq' hl hn => rw [hq] at hq'; cases hq'
    | sl _ _ _ q' es hd hq' hh hvs h1 hn =>
      rw [hq] at hq'; cases hq'
      have hl := hvs.1
      rw [List.length_map, hn] at hl
      exact ⟨es, hh, hvs, hl.symm⟩
  have nl : ∀ {id : Nat} {T : TypeId} {t' : Ty} {l' : List t'.den}, thp c s id = some (.sl T t' l') → κ id = none → l' = [] := fun hB hq => by
    cases R.blk _ _ hB with
    | sl0 _ _ _ hd hq' hl hn => exact hl
    | sl _ _ _ q' es hd hq' => rw [hq] at hq'; cases hq'
  unfold srcX at hs
  split at hs
  · split at hs
    · cases hs
    · rename_i hdy
      obtain ⟨hd, h1, _⟩ := snapV_sound R hv hs
      have hz0 := R.dy (by simpa using hdy)
      replace hd : t.dat = true := hd
      refine ⟨hd, ?_⟩
      have hids : ids = [] := by
        unfold snapV at hs
        simp only [Ty.dat, hd, Bool.true_eq_false, if_false, Ty.agg, Bool.false_eq_true, snapL] at hs
        split at hs
        · rename_i x ids' hm
          cases hs
          simp only [Option.map_eq_some_iff] at hm
          obtain ⟨y, _, he⟩ := hm
          cases he; rfl
        · cases hs
      subst hids
      rw [hz_nil] at h1
      replace h1 : Snap z a (.sl (l.map t.enc)) := h1
      rcases h1.sl_inv with ⟨es, rfl, h2⟩ | ⟨rfl, h2⟩ | ⟨id, off, len, k, T', es, rfl, h2, h3, h4⟩
      · exact ⟨es, all hd h2, h2⟩
      · simp only [List.map_eq_nil_iff] at h2; subst h2
        exact ⟨[], rfl, rfl, fun q e e' hq => by simp at hq⟩
      · rw [hz0] at h2; cases h2
  · unfold snapV at hs
    split at hs
    · cases hs
    · rename_i hd
      replace hd : t.dat = true := by simpa [Ty.dat] using hd
      refine ⟨hd, ?_⟩
      simp only [Ty.agg, Bool.false_eq_true, if_false] at hs
      split at hs
      · rename_i y ids' hm
        cases hs
        cases v <;> simp only [snapL, Option.map_eq_some_iff, Option.some.injEq, reduceCtorEq] at hm
        · rename_i hcc; exact (hcc _ _ rfl).elim
        · split at hm
          · rename_i hn
            cases hm
            cases hv
            rw [isNilS_eq hn]
            exact ⟨[], rfl, rfl, fun q e e' hq => by simp at hq⟩
          · cases hm
        · split at hm
          · rename_i T' t' l' hB
            simp only [Option.map_eq_some_iff] at hm
            obtain ⟨y, hy, he⟩ := hm
            cases he
            obtain ⟨e, rfl⟩ := tcast_sem hy
            cases e
            cases hv with
            | mw0 _ hN hq =>
              obtain rfl := nl hB hq
              exact ⟨[], rfl, rfl, fun q e e' hq => by simp at hq⟩
            | mw _ q hN hq =>
              obtain ⟨es, g1, g2, g3⟩ := bl (es := []) hB hq
              refine ⟨es, ?_, g2⟩
              simp only [srcA, g1]
              rw [if_pos ⟨trivial, by omega⟩, List.drop_zero, List.take_of_length_le (by omega)]
          · cases hm
        · split at hm
          · rename_i T' t' l' hB
            simp only [Option.map_eq_some_iff] at hm
            obtain ⟨y, hy, he⟩ := hm
            cases he
            obtain ⟨e, rfl⟩ := tcast_sem hy
            cases e
            cases hv with
            | ms0 _ _ _ hN hq ho hl =>
              obtain rfl := nl hB hq
              subst ho; subst hl
              exact ⟨[], rfl, rfl, fun q e e' hq => by simp at hq⟩
            | ms _ _ _ q hN hq h0 h1 h2 =>
              obtain ⟨es, g1, g2, g3⟩ := bl (es := []) hB hq
              refine ⟨_, (by simp only [srcA, g1]; exact if_pos ⟨trivial, by omega⟩), ?_⟩
              show SnapE z _ (((l'.drop _).take _).map t.enc)
              rw [List.map_take, List.map_drop]
              exact g2.drop_take _ _
          · cases hm
      · cases hs

theorem SnapE.append {a a' b b' : List (List AV)} (h : SnapE z a a') (g : SnapE z b b') : SnapE z (a ++ b) (a' ++ b') := by
  refine ⟨by simp [h.1, g.1], fun q e e' hq hq' => ?_⟩
  rw [List.getElem?_append] at hq hq'
  rw [h.1] at hq'
  split at hq
  · rename_i hlt; rw [if_pos hlt] at hq'; exact h.2 _ e e' hq hq'
  · rename_i hlt; rw [if_neg hlt] at hq'; exact g.2 _ e e' hq hq'
theorem SnapE.ones {t : Ty} {l : List t.den} {es : List (List AV)} (hd : t.dat = true) (hs : SnapE z es (l.map t.enc)) : ∀ e ∈ es, ∀ a ∈ e, a.one = true := by
  intro e he a ha
  obtain ⟨i, hi⟩ := List.getElem?_of_mem he
  have hlt := (List.getElem?_eq_some_iff.1 hi).1
  have hlen := hs.1
  rw [List.length_map] at hlen
  exact (hs.2 i e _ hi (by rw [List.getElem?_map, List.getElem?_eq_getElem (by omega)]; rfl)).one_rev (enc_one t _ hd) a ha

theorem Rel.delA (R : Rel P κ ln z c s env h n) {id q : Nat} {B0 : TB sem} (hb : alk s.hp id = some (some B0)) (hq : κ id = some q) : Rel P κ ln z c { s with hp := (id, none) :: s.hp } env (delH h q) n := by
  refine R.del hb (fun q2 B hq2 => ?_) (fun q2 B hne h2 => ?_)
  · unfold delH at hq2
    split at hq2
    · cases hq2
    · exact hq2
  · unfold delH
    rw [if_neg]
    · exact h2
    · rintro rfl; exact hne hq
theorem appX_sound (R : Rel P κ ln z c s env h n) {T T2 : TypeId} {x y : Operand} {u v : TV sem} (hu : TVR P κ ln z s.n u (ev env x)) (hv : TVR P κ ln z s.n v (ev env y)) (hk : appX P c s T T2 u v Kf = some r) :
    Res P κ ln z c s env h n ⟨d, .call ⟨.builtin .append, #[x, y], #[T, T2]⟩, ty, pos, after, g⟩ Kf r := by
  unfold appX at hk
  split at hk
  · exact semfail hk
  · rename_i e he
    split at hk
    · rename_i t zs ht hz
      split at hk
      · rename_i hc
        obtain ⟨hp, hzl, hw0, hb⟩ := hc
        have hzne : zs ≠ [] := by rintro rfl; simp at hzl; omega
        split at hk
        · exact semfail hk
        · rename_i l ids hsrc
          obtain ⟨hd, xs, hxs, hsx⟩ := src_sound R hv hsrc
          rw [← hzl] at hxs
          simp only at hk
          generalize hx : ev env x = a at hu
          -- a nil slice
          have nilc : ev env x = nilS → (sem.p2 (x := .sl t) (y := .sl t) (z := .sl t) "" (fun a b => gapp a b) ([] : List t.den) l fun l' => newSl s e t l' Kf) = some r → Res P κ ln z c s env h n ⟨d, .call ⟨.builtin .append, #[x, y], #[T, T2]⟩, ty, pos, after, g⟩ Kf r := fun hx hk => by
            simp only [Option.bind_eq_some_iff] at hk
            obtain ⟨l', hg, hk⟩ := hk
            obtain ⟨hle, hg⟩ := gapp_inv hg
            rw [List.nil_append] at hg
            rw [hg] at hk
            have hlen := hsx.1
            rw [List.length_map] at hlen
            have hle' : xs.length ≤ 1048576 := by simp at hle; omega
            by_cases hne : xs = []
            · subst hne
              have : l = [] := by simpa using hlen
              subst this
              refine newNil_sound rfl R hd (fun K hk => ?_) hk
              simp only [aop, builtinK, hx, appendK, he, hz, hxs]
              exact ⟨hp, hzne, hb, hle', fun _ => hk, fun h => absurd rfl h⟩
            · refine newSl_sound rfl R hd hsx (hsx.ones hd) (fun K hk => ?_) hk
              simp only [aop, builtinK, hx, appendK, he, hz, hxs]
              refine ⟨hp, hzne, hb, hle', fun h => absurd h hne, fun _ => ?_⟩
              rw [hzl, ← hlen]; exact hk
          split at hk
          · rename_i id
            split at hk
            · rename_i e' t' l0 hB
              split at hk
              · rename_i hc2
                obtain ⟨rfl, hni⟩ := hc2
                split at hk
                · rename_i l1 hl1
                  obtain ⟨et, rfl⟩ := tcast_sem hl1
                  cases et
                  cases R.blk _ _ (own_thp hB) with
                  | sl0 _ _ _ hd' hq' hl hn =>
                    subst hl
                    cases hu with
                    | mw0 => 
                      simp only [Option.bind_eq_some_iff] at hk
                      obtain ⟨l', hg, hk⟩ := hk
                      have R1 := R.del (h' := h) hB (fun _ _ h => h) (fun _ _ _ h => h)
                      obtain ⟨hle, hg⟩ := gapp_inv hg
                      rw [List.nil_append] at hg
                      rw [hg] at hk
                      have hlen := hsx.1
                      rw [List.length_map] at hlen
                      have hle' : xs.length ≤ 1048576 := by simp at hle; omega
                      have up : ∀ {Q : Res P κ ln z c { s with hp := (id, none) :: s.hp } env h n ⟨d, .call ⟨.builtin .append, #[x, y], #[T, T2]⟩, ty, pos, after, g⟩ Kf r}, Res P κ ln z c s env h n ⟨d, .call ⟨.builtin .append, #[x, y], #[T, T2]⟩, ty, pos, after, g⟩ Kf r := fun {Q} => by
                        obtain ⟨tv, s', v, h', n', κ2, ln2, z2, g1, g2, g3, g4, g5, g6, g7, _⟩ := Q
                        exact ⟨tv, s', v, h', n', κ2, ln2, z2, g1, g2, g3, g4, g5, g6, g7, fun hc => by cases hc⟩
                      by_cases hne : xs = []
                      · subst hne
                        have : l = [] := by simpa using hlen
                        subst this
                        refine up (Q := newNil_sound rfl R1 hd (fun K hk => ?_) hk)
                        simp only [aop, builtinK, hx, appendK, he, hz, hxs]
                        exact ⟨hp, hzne, hb, hle', fun _ => hk, fun h => absurd rfl h⟩
                      · refine up (Q := newSl_sound rfl R1 hd hsx (hsx.ones hd) (fun K hk => ?_) hk)
                        simp only [aop, builtinK, hx, appendK, he, hz, hxs]
                        refine ⟨hp, hzne, hb, hle', fun h => absurd h hne, fun _ => ?_⟩
                        rw [hzl, ← hlen]; exact hk
                    | mw _ q _ hq => rw [hq'] at hq; cases hq
                  | sl _ _ _ q' es hd' hq' hh hvs h1' hn =>
                    cases hu with
                    | mw0 _ _ hq => rw [hq'] at hq; cases hq
                    | mw _ q hN hq =>
                      rw [hq'] at hq; cases hq
                      simp only [Option.bind_eq_some_iff] at hk
                      obtain ⟨l', hg, hk⟩ := hk
                      obtain ⟨hle, hg⟩ := gapp_inv hg
                      subst hg
                      have hlen := hsx.1
                      rw [List.length_map] at hlen
                      have hlen0 := hvs.1
                      rw [List.length_map] at hlen0
                      have R1 := R.delA hB hq'
                      have hq0 : delH h q' q' = none := by simp [delH]
                      have hsn : SnapE z (es ++ xs) ((l0 ++ l).map t.enc) := by rw [List.map_append]; exact hvs.append hsx
                      have R2 := R1.new (h' := updH (delH h q') n (.cells t.wd e' (es ++ xs))) (n' := n + 1) (.sl e' t (l0 ++ l)) (some n) (l0 ++ l).length (fun q B hq => by
                          unfold updH; rw [if_neg]; · exact hq
                          rintro rfl; rw [R1.hn _ (Nat.le_refl _)] at hq; cases hq) (Nat.le_succ _) (fun q hq => by cases hq; omega) (fun q hq => by unfold updH; rw [if_neg (by omega)]; exact R1.hn q (by omega))
                        (.sl e' t (l0 ++ l) n (es ++ xs) hd updK_self (by simp [updH]) hsn (hsn.ones hd) updK_self.symm)
                      refine ⟨.mw s.n, _, .ms n 0 (ln id + xs.length), _, _, _, _, _, fun K hk => ?_, hk, R2, ?_, rfl, Nat.le_succ _, fun id hi => ⟨updK_lt hi, updK_lt hi⟩, fun hc => by cases hc⟩
                      · simp only [aop, builtinK, hx, appendK, he, hz, hxs, hh]
                        refine ⟨hp, hzne, hb, hzl.symm, trivial, by omega, by omega, ?_⟩
                        exact hk
                      · have := TVR.mw (P := P) (κ := updK κ s.n (some n)) (ln := updK ln s.n (l0 ++ l).length) (z := z) (N := s.n + 1) s.n n (Nat.lt_succ_self _) updK_self
                        rw [updK_self] at this
                        have e0 : (l0 ++ l).length = ln id + xs.length := by rw [List.length_append, hn]; omega
                        rw [e0] at this
                        exact e0 ▸ this
                · exact semfail hk
              · exact semfail hk
            · exact semfail hk
          · rename_i w
            split at hk
            · rename_i hn
              cases hu
              rw [isNilS_eq hn] at hx
              exact nilc hx hk
            · exact semfail hk
          · exact semfail hk
      · exact semfail hk
    · exact semfail hk
end
end Go.Abs

/- The typed machine is sound, tenth part: structs and slices that are built, maps. -/
set_option linter.unusedSimpArgs false
set_option linter.unusedVariables false
set_option linter.constructorNameAsVariable false
namespace Go.Abs
open Go Go.RowKit

section
variable {P : Program} {κ κ' : Nat → Option Nat} {ln ln' : Nat → Nat} {z z' : AH} {c : Cx sem} {s : TS sem} {env : Env} {h h' : AH} {n n' N N' : Nat}
variable {ρ : Ty} {Kf : TV sem → TS sem → sem.Ans ρ} {r : ρ.den}
variable {d : Option Tmp} {ty : TypeId} {pos : String} {after : Array Edge} {g : Option (Nat × Bool)}

theorem fillT_sound {pl : List (Nat × Nat)} (hev : ∀ x, TVR P κ ln z N (tev c s x) (ev env x)) : ∀ (parts : List (Nat × Operand)) (cs : List (TV sem)) (as : List AV) {vs : List (TV sem)}, TVRs P κ ln z N cs as → (∀ a ∈ as, a.one = true) → fillT c pl s parts cs = some vs → ∃ bs, fillS pl env parts as = some bs ∧ TVRs P κ ln z N vs bs ∧ ∀ a ∈ bs, a.one = true
  | [], cs, as, vs, hc, h1, hf => by cases hf; exact ⟨as, rfl, hc, h1⟩
  | (i, x) :: rest, cs, as, vs, hc, h1, hf => by
    simp only [fillT] at hf
    split at hf
    · rename_i o m xs hp hx
      split at hf
      · rename_i hl
        obtain ⟨xa, g1, g2⟩ := (hev x).one_cells hx
        have g3 := cells_one (hev x) hx g1
        have l1 := g2.len
        have l2 := hc.len
        obtain ⟨bs, k1, k2, k3⟩ := fillT_sound hev rest _ (as.take o ++ xa ++ as.drop (o + m)) (((hc.take o).append g2).append (hc.drop _)) (fun a ha => by
          rcases List.mem_append.1 ha with ha | ha
          · rcases List.mem_append.1 ha with ha | ha
            · exact h1 a (List.mem_of_mem_take ha)
            · exact g3 a ha
          · exact h1 a (List.mem_of_mem_drop ha)) hf
        refine ⟨bs, ?_, k2, k3⟩
        simp only [fillS, hp, g1]
        rw [if_pos ⟨by omega, by omega⟩]; exact k1
      · cases hf
    · cases hf
theorem tlk_env {s s' : TS sem} (he : s'.env = s.env) (x : Nat) : tlk c s' x = tlk c s x := by unfold tlk; rw [he]
theorem tev_env {s s' : TS sem} (he : s'.env = s.env) (x : Operand) : tev c s' x = tev c s x := by cases x <;> simp [tev, tlk_env he]

theorem buildX_sound (R : Rel P κ ln z c s env h n) {T : TypeId} {parts : Array (Nat × Operand)} (hk : buildX P c s T parts.toList Kf = some r) : Res P κ ln z c s env h n ⟨d, .build T parts, ty, pos, after, g⟩ Kf r := by
  unfold buildX at hk
  split at hk
  · rename_i zs Ts pl hz hT hp
    split at hk
    · rename_i hl
      simp only at hk
      have hsc := zeroO_sc hz
      obtain ⟨κ', ln', R', h1, h2, h3, h4, h5, _⟩ := zeroC_sound zs Ts R hsc hl
      split at hk
      · rename_i vs hf
        have hev : ∀ x, TVR P κ' ln' z (zeroC P s zs Ts).2.n (tev c s x) (ev env x) := fun x => by rw [← tev_env (c := c) h3]; exact R'.ev x
        obtain ⟨bs, k1, k2, k3⟩ := fillT_sound hev parts.toList _ zs h1 (fun a ha => by obtain ⟨v, rfl, hv⟩ := hsc a ha; exact hv) hf
        exact ⟨.ag vs, _, .ag bs, h, n, κ', ln', z, fun K hk => s_build hz hp k1 hk, hk, R', .ag vs bs k2 k3, h3, h2, fun id hi => ⟨h4 id hi, h5 id hi⟩, fun hc => by cases hc⟩
      · exact semfail hk
    · exact semfail hk
  · exact semfail hk

theorem partsL_sound (R : Rel P κ ln z c s env h n) {t : Ty} (hd : t.dat = true) : ∀ (parts : List (Nat × Operand)) (j : Nat) {ys : List t.den} {ids : List Nat} (len : Nat), len = j + parts.length → partsL (A := sem) c s t parts j = some (ys, ids) → (∀ id ∈ ids, ∃ B, thp c s id = some B) ∧
    ∃ xs : List (List AV), xs.length = parts.length ∧ (∀ es : List (List AV), es.length = len → fillE t.wd env parts es = some (es.take j ++ xs)) ∧ SnapE (hz κ h z ids) xs (ys.map t.enc)
  | [], j, ys, ids, len, hl, hp => by
    cases hp
    refine ⟨fun id hi => by simp at hi, [], rfl, fun es he => ?_, rfl, fun q e e' hq => by simp at hq⟩
    simp only [List.length_nil, Nat.add_zero] at hl
    simp [fillE, ← hl, ← he]
  | (i, x) :: rest, j, ys, ids, len, hl, hp => by
    simp only [partsL] at hp
    split at hp
    · rename_i hij
      subst hij
      simp only [Option.bind_eq_some_iff, Option.map_eq_some_iff] at hp
      obtain ⟨⟨y, i1⟩, hy, ⟨ys', i2⟩, hr, he⟩ := hp
      cases he
      obtain ⟨g0, g1, g2⟩ := snapV_sound R (R.ev x) hy
      obtain ⟨xa, g3, g4⟩ := c_cells g0 g1
      obtain ⟨k0, xs, k1, k2, k3⟩ := partsL_sound R hd rest (i + 1) len (by simp at hl; omega) hr
      refine ⟨fun id hi => ?_, xa :: xs, by simp [k1], fun es he => ?_, ?_⟩
      · rcases List.mem_append.1 hi with hi | hi
        · exact g2 id hi
        · exact k0 id hi
      · have hlt : i < es.length := by simp at hl; omega
        simp only [fillE, g3]
        rw [if_pos ⟨by rw [← g4.len, enc_len t y hd], hlt⟩, k2 (es.set i xa) (by simpa using he)]
        congr 1
        rw [List.take_set, List.take_succ_eq_append_getElem hlt, List.set_append, if_neg (by simp; omega)]
        simp [Nat.min_eq_left (Nat.le_of_lt hlt)]
      · have m1 := hz_mono (κ := κ) (h := h) (z := z) (ids := i1) (ids' := i1 ++ i2) R.zin (fun id hi => by simp [hi])
        have m2 := hz_mono (κ := κ) (h := h) (z := z) (ids := i2) (ids' := i1 ++ i2) R.zin (fun id hi => by simp [hi])
        have k3 := k3.mono m2
        refine ⟨by simp [k3.1], fun q e e' hq hq' => ?_⟩
        cases q with
        | zero => simp at hq hq'; subst hq; subst hq'; exact g4.mono m1
        | succ q => exact k3.2 q e e' (by simpa using hq) (by simpa using hq')
    · cases hp

theorem buildSliceX_sound (R : Rel P κ ln z c s env h n) {T : TypeId} {len : Nat} {parts : Array (Nat × Operand)} (hk : buildSliceX P c s T len parts.toList Kf = some r) : Res P κ ln z c s env h n ⟨d, .buildSlice T len parts, ty, pos, after, g⟩ Kf r := by
  unfold buildSliceX at hk
  split at hk
  · exact semfail hk
  · rename_i e he
    split at hk
    · rename_i t zs ht hz
      split at hk
      · rename_i hc
        obtain ⟨hc1, hc2, hc3⟩ := hc
        have hd := tyOf_dat ht
        split at hk
        · rename_i hl
          split at hk
          · rename_i ys ids hp
            split at hk
            · rename_i s' hs'
              obtain ⟨k0, xs, k1, k2, k3⟩ := partsL_sound R hd parts.toList 0 len (by omega) hp
              obtain ⟨R', e1, e2, e3, e4, e5⟩ := R.retire hs'
              have hlen := k3.1
              rw [List.length_map] at hlen
              have hlst : ∀ l : List t.den, lstD (A := sem) t l = l := by
                intro l
                induction l with
                | nil => rfl
                | cons a l ih => simp only [lstD]; rw [ih]
              rw [hlst] at hk
              have hres := newSl_sound (o := ⟨d, .buildSlice T len parts, ty, pos, after, g⟩) rfl R' hd k3 (k3.ones hd) (fun K hk => ?_) hk
              · obtain ⟨tv, s2, v, h2, n2, κ2, ln2, z2, g1, g2, g3, g4, g5⟩ := hres
                exact ⟨tv, s2, v, h2, n2, κ2, ln2, z2, g1, g2, g3, g4, g5.1.trans e1, by have := g5.2.1; omega, fun id hi => g5.2.2.1 id (by omega), fun hc => by cases hc⟩
              · simp only [aop, he, hz, hc3]
                rw [k2 (List.replicate len zs) (by simp)]
                simp only [List.take_zero, List.nil_append]
                rw [hc3] at hc2
                refine ⟨hc1, hc2, .inl ?_⟩
                rw [show len = ys.length by omega]; exact hk
            · exact semfail hk
          · exact semfail hk
        · exact semfail hk
      · exact semfail hk
    · exact semfail hk

theorem makeSliceX_sound (R : Rel P κ ln z c s env h n) {T : TypeId} {x y : Operand} (hk : makeSliceX P s T (tev c s x) (tev c s y) (sameOp x y) Kf = some r) : Res P κ ln z c s env h n ⟨d, .makeSlice T x y, ty, pos, after, g⟩ Kf r := by
  unfold makeSliceX at hk
  split at hk
  · exact semfail hk
  · rename_i e he
    split at hk
    · rename_i t zs m ht hz hm
      split at hk
      · rename_i z0 hz0
        split at hk
        · rename_i hc
          obtain ⟨hs, hiz, hzl, hw0, hb⟩ := hc
          have hd := tyOf_dat ht
          have hx := R.ev x
          rw [hm] at hx
          have hx' := hx.i_inv
          have hy' : ∃ k', ev env y = .sc (.int k' m) := by
            unfold sameOp at hs
            split at hs
            · rename_i a b
              obtain rfl : a = b := by simpa using hs
              exact ⟨_, hx'⟩
            · rename_i k a k' b
              have hab : a = b := by simpa using hs
              subst hab
              have : (Value.int k a) = .int .i64 m := by simpa [ev, cst] using hx'
              cases this
              exact ⟨k', rfl⟩
            · cases hs
          obtain ⟨k', hy'⟩ := hy'
          simp only [Option.bind_eq_some_iff] at hk
          obtain ⟨l, hg, hk⟩ := hk
          obtain ⟨g1, g2, hg⟩ := gmk_inv hg
          obtain ⟨rest, hr, hre⟩ := (Option.any_eq_true _ _).1 hiz
          obtain rfl := List.isEmpty_iff.1 hre
          obtain ⟨a, ea, ha⟩ := isZ_sound (z := z) t z0 zs [] hd hz0 hr
          rw [List.append_nil] at ea; subst ea
          have hsn : SnapE z (List.replicate m.toNat zs) (l.map t.enc) := by
            rw [hg]
            refine ⟨by simp, fun q e e' hq hq' => ?_⟩
            rw [List.getElem?_replicate] at hq
            rw [List.map_replicate, List.getElem?_replicate] at hq'
            split at hq
            · rename_i hlt; rw [if_pos hlt] at hq'; cases hq; cases hq'; exact ha
            · cases hq
          refine newSl_sound rfl R hd hsn (hsn.ones hd) (fun K hk => ?_) hk
          simp only [aop, he, hz, hx', hy']
          refine ⟨trivial, g1, g2, hb, by rintro rfl; simp at hzl; omega, ?_⟩
          have hml : l.length = m.toNat := by rw [hg]; simp
          rw [hml] at hk
          rw [hzl]; exact hk
        · exact semfail hk
      · exact semfail hk
    · exact semfail hk

theorem newMp (R : Rel P κ ln z c s env h n) {k v : Ty} (hk : isKey k = true) (hf : v.flat = true) (ha : v.agg = false) : Rel P (updK κ s.n (some n)) (updK ln s.n 0) z c { s with hp := (s.n, some (.mp k v [])) :: s.hp, n := s.n + 1 } env (updH h n (.map [])) (n + 1) :=
  R.new (.mp k v []) (some n) 0 (fun q B hq => by
      unfold updH; rw [if_neg]; · exact hq
      rintro rfl; rw [R.hn _ (Nat.le_refl _)] at hq; cases hq) (Nat.le_succ _) (fun q hq => by cases hq; omega) (fun q hq => by unfold updH; rw [if_neg (by omega)]; exact R.hn q (by omega))
    (.mp k v [] n hk hf ha updK_self (by simp [updH]))
theorem makeMapX_sound (R : Rel P κ ln z c s env h n) {T : TypeId} (hk : makeMapX P s T Kf = some r) : Res P κ ln z c s env h n ⟨d, .makeMap T none, ty, pos, after, g⟩ Kf r := by
  unfold makeMapX at hk
  split at hk
  · split at hk
    · split at hk
      · rename_i hc
        obtain ⟨h1, h2, h3⟩ := hc
        exact ⟨.mp s.n, _, .mp n, _, _, _, _, _, fun K hk => by simp only [aop]; exact hk, hk, newMp R h1 h3 (by simpa using h2), .mp s.n n (Nat.lt_succ_self _) updK_self, rfl, Nat.le_succ _, fun id hi => ⟨updK_lt hi, updK_lt hi⟩, fun hc => by cases hc⟩
      · exact semfail hk
    · exact semfail hk
  · exact semfail hk

theorem keyB_ok : ∀ {k : Ty}, isKey k = true → ∀ a b : k.den, keyB (keyV k a) (keyV k b) = true ↔ a = b
  | .i k, _, a, b => by simp [keyV, keyB]
  | .s, _, a, b => by simp only [keyV, kb_str]; simp
theorem keyB_dec {k : Ty} (hk : isKey k = true) (a b : k.den) [Decidable (a = b)] : keyB (keyV k a) (keyV k b) = decide (a = b) := by
  have := keyB_ok hk a b
  by_cases h : a = b
  · subst h; rw [(keyB_ok hk a a).2 rfl]; simp
  · have h2 : ¬ keyB (keyV k a) (keyV k b) = true := fun e => h (this.1 e)
    rw [Bool.not_eq_true] at h2; rw [h2]; simp [h]
theorem keyT_ok {kt : TypeId} : ∀ {k : Ty}, keyT P kt k = true → ∀ a : k.den, keyOkA P kt (keyV k a)
  | .i k, h, a => by simpa [keyV, keyOkA, keyT] using h
  | .s, h, a => by simpa [keyV, keyOkA, ks] using isStrT_eq h
theorem key_av : ∀ {k : Ty}, isKey k = true → ∀ a : k.den, k.av a = .sc (keyV k a)
  | .i k, _, a => rfl
  | .s, _, a => rfl
theorem key_snap {k : Ty} (hk : isKey k = true) {v : TV sem} {a : AV} (R : Rel P κ ln z c s env h n) (hv : TVR P κ ln z s.n v a) {x : k.den} {ids : List Nat} (hs : snapV (A := sem) c s k v = some (x, ids)) : a = .sc (keyV k x) := by
  obtain ⟨_, h1, _⟩ := snapV_sound R hv hs
  rw [key_av hk] at h1
  exact h1.sc_inv
theorem flat_one : ∀ {v : Ty}, v.flat = true → v.agg = false → ∀ x : v.den, ∃ w, v.av x = .sc w ∧ w.oneCell' = true
  | .i k, _, _, x => ⟨_, rfl, rfl⟩
  | .b, _, _, x => ⟨_, rfl, rfl⟩
  | .s, _, _, x => ⟨_, rfl, rfl⟩
theorem zv_ok {e : TypeId} {v : Ty} (hf : v.flat = true) (ha : v.agg = false) (hd : v.dat = true) {z0 : v.den} (hz : zeroD (A := sem) v = some z0) (hc : ((zvO P e).any fun u => (isZ v [.sc u]).any List.isEmpty) = true) : ∃ u, zvO P e = some u ∧ cst u = v.av z0 := by
  obtain ⟨u, hu, hc⟩ := (Option.any_eq_true _ _).1 hc
  obtain ⟨rest, hr, hre⟩ := (Option.any_eq_true _ _).1 hc
  obtain rfl := List.isEmpty_iff.1 hre
  obtain ⟨a, ea, hsn⟩ := isZ_sound (z := fun _ => none) v z0 _ _ hd hz hr
  rw [List.append_nil] at ea; subst ea
  rw [av_one ha hd] at hsn
  obtain ⟨w, hw, _⟩ := flat_one hf ha z0
  refine ⟨u, hu, ?_⟩
  cases hsn with
  | cons k1 _ =>
    rw [hw] at k1 ⊢
    have := k1.sc_inv
    cases this
    have e : ∀ v : Ty, v.flat = true → v.agg = false → ∀ x : v.den, v.av x = .sc u → cst u = .sc u := fun v hf ha x hx => by
      cases v <;> simp [Ty.flat, Ty.agg] at hf ha <;> (simp only [Ty.av, Ty.agg, Ty.enc, Bool.false_eq_true, if_false, List.headD_cons, str] at hx; cases hx; rfl)
    exact e v hf ha z0 hw
theorem flat_dat : ∀ {v : Ty}, v.flat = true → v.dat = true
  | .i _, _ | .b, _ | .s, _ | .un, _ => rfl
  | .w t, h => flat_dat (v := t) h
  | .pr t u, h => by simp only [Ty.flat, Bool.and_eq_true] at h; simp [Ty.dat, flat_dat h.1, flat_dat h.2]

theorem mget_eq {k : Ty} {β : Type} (hk : isKey k = true) (l : List (k.den × β)) (x : k.den) [i : DecidableEq k.den] : mgetT k l x = mget l x := by
  cases k <;> simp [isKey] at hk <;> (simp only [mgetT]; congr)
theorem mput_eq {k : Ty} {β : Type} (hk : isKey k = true) (l : List (k.den × β)) (x : k.den) (v : β) [i : DecidableEq k.den] : mputT k l x v = mput l x v := by
  cases k <;> simp [isKey] at hk <;> (simp only [mputT]; congr; exact Subsingleton.elim _ _)
theorem key_dec {k : Ty} (hk : isKey k = true) : Nonempty (DecidableEq k.den) := by
  cases k <;> simp [isKey] at hk
  · exact ⟨(inferInstance : DecidableEq Int)⟩
  · exact ⟨(inferInstance : DecidableEq (List UInt8))⟩

theorem lookupX_sound (R : Rel P κ ln z c s env h n) {T : TypeId} {m key : Operand} {ok : Bool} {u v : TV sem} (hu : TVR P κ ln z s.n u (ev env m)) (hv : TVR P κ ln z s.n v (ev env key)) (hk : lookupX P c s T u v ok Kf = some r) : Res P κ ln z c s env h n ⟨d, .lookup T m key ok, ty, pos, after, g⟩ Kf r := by
  unfold lookupX at hk
  split at hk
  · rename_i id
    split at hk
    · rename_i k w l kt e hB hT
      split at hk
      · rename_i x z0 hx hz0
        simp only at hk
        split at hk
        · rename_i hc
          obtain ⟨c1, c2, c3, c4, c5⟩ := hc
          have c4 : w.agg = false := by simpa using c4
          have hd := flat_dat c3
          obtain ⟨zv, hzv, hcz⟩ := zv_ok c3 c4 hd hz0 c5
          have hkey := key_snap c1 R hv hx
          generalize hm : ev env m = a at hu
          cases R.blk _ _ hB with
          | mp _ _ _ q _ _ _ hq hh =>
            cases hu with
            | mp _ q' hN hq' =>
              rw [hq] at hq'; cases hq'
              obtain ⟨hdec⟩ := key_dec c1
              have hh' : h q = some (.map (List.map (kvE (keyV k) w.av) l)) := hh
              have hfree : ∀ y : w.den, TVR P κ ln z s.n (.c w y) (w.av y) := fun y => .free hd
              have key := fun (F : AV → Prop) hF => lkK (P := P) (h := h) (T := T) (F := F) (ok := ok) (k := x) hT hzv hcz (fun a b => keyB_dec c1 a b) (keyT_ok c2) hh' hF
              cases ok with
              | true =>
                simp only [if_true] at hk
                refine R.q (fun K hk => ?_) (.tp _ [w.av ((mgetT k l x).getD z0), .sc (.bool (mgetT k l x).isSome)] (.cons _ _ _ _ (hfree _) (.cons _ _ _ _ (.bool _) .nil))) hk
                simp only [aop, hm, hkey]
                refine key _ ?_
                simp only [if_true]
                rw [← mget_eq c1]; exact hk
              | false =>
                simp only [Bool.false_eq_true, if_false] at hk
                refine R.q (fun K hk => ?_) (hfree _) hk
                simp only [aop, hm, hkey]
                refine key _ ?_
                simp only [Bool.false_eq_true, if_false]
                rw [← mget_eq c1]; exact hk
        · exact semfail hk
      · exact semfail hk
    · exact semfail hk
  · exact semfail hk

theorem mapUpdX_sound (R : Rel P κ ln z c s env h n) {T : TypeId} {m key x : Operand} {u v w : TV sem} (hu : TVR P κ ln z s.n u (ev env m)) (hv : TVR P κ ln z s.n v (ev env key)) (hw : TVR P κ ln z s.n w (ev env x)) (hk : mapUpdX P c s T u v w Kf = some r) : Res P κ ln z c s env h n ⟨d, .mapUpdate T m key x, ty, pos, after, g⟩ Kf r := by
  unfold mapUpdX at hk
  split at hk
  · rename_i id
    split at hk
    · rename_i k w' l kt e hB hT
      split at hk
      · rename_i y y' hy hy'
        split at hk
        · rename_i hc
          obtain ⟨c1, c2⟩ := hc
          have hkey := key_snap c1 R hv hy
          generalize hm : ev env m = a at hu
          cases R.blk _ _ (own_thp hB) with
          | mp _ _ _ q _ hf ha hq hh =>
            cases hu with
            | mp _ q' hN hq' =>
              rw [hq] at hq'; cases hq'
              obtain ⟨hdec⟩ := key_dec c1
              obtain ⟨_, hs1, _⟩ := snapV_sound R hw hy'
              obtain ⟨ww, hww, hone⟩ := flat_one hf ha y'
              rw [hww] at hs1
              have hval : ev env x = w'.av y' := by rw [hww]; exact hs1.sc_inv
              have hh' : h q = some (.map (List.map (kvE (keyV k) w'.av) l)) := hh
              have hput := findA_put (vf := w'.av) (fun a b => keyB_dec c1 a b) y y' l []
              refine ⟨.ud, _, .ud, updH h q (.map ((mputT k l y y').map (kvE (keyV k) w'.av))), n, κ, ln, z, fun K hk => ?_, hk, R.set hB hq (.mp k w' _ q c1 hf ha hq (by simp only [updH, if_true])), .ud, rfl, Nat.le_refl _, fun _ _ => ⟨rfl, rfl⟩, fun hc => by cases hc⟩
              simp only [aop, hm, hkey, hval, mapUpdK, hT, hh']
              refine ⟨keyT_ok c2 y, fun x hx => ?_, by rw [hww]; exact hone, ?_⟩
              · obtain ⟨p, _, rfl⟩ := List.mem_map.1 hx; exact keyT_ok c2 _
              · rw [mput_eq c1] at hk
                simp only [List.length_nil, List.nil_append] at hput
                generalize findA (keyV k y) (List.map (kvE (keyV k) w'.av) l) 0 = fq at hput ⊢
                cases fq with
                | none => simp only at hput ⊢; rw [hput]; exact hk
                | some q => obtain ⟨i, a⟩ := q; simp only at hput ⊢; rw [hput]; exact hk
        · exact semfail hk
      · exact semfail hk
    · exact semfail hk
  · exact semfail hk
end
end Go.Abs

/- The typed machine is sound, fourteenth part: patterns. -/
set_option linter.unusedSimpArgs false
set_option linter.unusedVariables false
set_option linter.constructorNameAsVariable false
namespace Go.Abs
open Go Go.RowKit

section
variable {P : Program} {κ κ' : Nat → Option Nat} {ln ln' : Nat → Nat} {z z' : AH} {c : Cx sem} {s : TS sem} {env : Env} {h h' : AH} {n n' N N' : Nat}

mutual
theorem TVR.has_lt : ∀ {v : TV sem} {a : AV}, TVR P κ ln z N v a → ∀ id, v.has id = true → id < N
  | _, _, .un _, id, h | _, _, .ud, id, h | _, _, .c _ _ _ _ _, id, h | _, _, .kb _, id, h | _, _, .sc _ _, id, h | _, _, .fq _ _ _ _ _ _, id, h | _, _, .cv _ _ _ _ _ _, id, h => by simp [TV.has] at h
  | _, _, .ptr i j q hN _, id, h | _, _, .adr i _ j q hN _ _ _, id, h | _, _, .aa i _ q hN _ _ _, id, h | _, _, .mw0 i hN _, id, h | _, _, .mw i q hN _, id, h | _, _, .ms0 i _ _ hN _ _ _, id, h | _, _, .ms i _ _ q hN _ _ _ _, id, h | _, _, .mp i q hN _, id, h => by
    simp only [TV.has, beq_iff_eq] at h; omega
  | _, _, .fn g vs as hs, id, h => TVRs.has_lt hs id h
  | _, _, .tp vs as hs, id, h => TVRs.has_lt hs id h
  | _, _, .ag vs as hs _, id, h => TVRs.has_lt hs id h
theorem TVRs.has_lt : ∀ {vs : List (TV sem)} {as : List AV}, TVRs P κ ln z N vs as → ∀ id, TV.has.hasL id vs = true → id < N
  | _, _, .nil, id, h => by simp [TV.has.hasL] at h
  | _, _, .cons v a vs as hv hs, id, h => by
    simp only [TV.has.hasL, Bool.or_eq_true] at h
    rcases h with h | h
    · exact TVR.has_lt hv id h
    · exact TVRs.has_lt hs id h
end
mutual
theorem TVR.congr : ∀ {v : TV sem} {a : AV}, TVR P κ ln z N v a → (∀ id, v.has id = true → κ' id = κ id ∧ ln' id = ln id ∧ id < N') → (∀ q B, z q = some B → z' q = some B) → TVR P κ' ln' z' N' v a
  | _, _, .un a, _, _ => .un a
  | _, _, .ud, _, _ => .ud
  | _, _, .c t x a hd h, _, hz => .c t x a hd (h.mono hz)
  | _, _, .kb b, _, _ => .kb b
  | _, _, .sc v h1, _, _ => .sc v h1
  | _, _, .ptr id j q hi h, hc, _ => by obtain ⟨h1, h2, h3⟩ := hc id (by simp [TV.has]); exact .ptr id j q h3 (by rw [h1]; exact h)
  | _, _, .adr id i j q hi h g0 g1, hc, _ => by obtain ⟨h1, h2, h3⟩ := hc id (by simp [TV.has]); exact .adr id i j q h3 (by rw [h1]; exact h) g0 (by rw [h2]; exact g1)
  | _, _, .aa id i q hi h g0 g1, hc, _ => by obtain ⟨h1, h2, h3⟩ := hc id (by simp [TV.has]); exact .aa id i q h3 (by rw [h1]; exact h) g0 (by rw [h2]; exact g1)
  | _, _, .fq t x o a hd h, _, hz => .fq t x o a hd (h.mono hz)
  | _, _, .mw0 id hi h, hc, _ => by obtain ⟨h1, h2, h3⟩ := hc id (by simp [TV.has]); exact .mw0 id h3 (by rw [h1]; exact h)
  | _, _, .mw id q hi h, hc, _ => by obtain ⟨h1, h2, h3⟩ := hc id (by simp [TV.has]); rw [← h2]; exact .mw id q h3 (by rw [h1]; exact h)
  | _, _, .ms0 id o l hi h ho hl, hc, _ => by obtain ⟨h1, h2, h3⟩ := hc id (by simp [TV.has]); exact .ms0 id o l h3 (by rw [h1]; exact h) ho hl
  | _, _, .ms id o l q hi h g0 g1 g2, hc, _ => by obtain ⟨h1, h2, h3⟩ := hc id (by simp [TV.has]); exact .ms id o l q h3 (by rw [h1]; exact h) g0 g1 (by rw [h2]; exact g2)
  | _, _, .mp id q hi h, hc, _ => by obtain ⟨h1, h2, h3⟩ := hc id (by simp [TV.has]); exact .mp id q h3 (by rw [h1]; exact h)
  | _, _, .fn g vs as h, hc, hz => .fn g vs as (TVRs.congr h (fun id hi => hc id hi) hz)
  | _, _, .cv m x y F a h, _, _ => .cv m x y F a h
  | _, _, .tp vs as h, hc, hz => .tp vs as (TVRs.congr h (fun id hi => hc id hi) hz)
  | _, _, .ag vs as h h1, hc, hz => .ag vs as (TVRs.congr h (fun id hi => hc id hi) hz) h1
theorem TVRs.congr : ∀ {vs : List (TV sem)} {as : List AV}, TVRs P κ ln z N vs as → (∀ id, TV.has.hasL id vs = true → κ' id = κ id ∧ ln' id = ln id ∧ id < N') → (∀ q B, z q = some B → z' q = some B) → TVRs P κ' ln' z' N' vs as
  | _, _, .nil, _, _ => .nil
  | _, _, .cons v a vs as h hs, hc, hz => .cons v a vs as (TVR.congr h (fun id hi => hc id (by simp [TV.has.hasL, hi])) hz) (TVRs.congr hs (fun id hi => hc id (by simp [TV.has.hasL, hi])) hz)
end
theorem BR.congr {id : Nat} {B : TB sem} (hb : BR P κ ln z h N id B) (hi : κ' id = κ id ∧ ln' id = ln id) (hc : ∀ i, B.has i = true → κ' i = κ i ∧ ln' i = ln i ∧ i < N') (hz : ∀ q B, z q = some B → z' q = some B) : BR P κ' ln' z' h N' id B := by
  cases hb with
  | bx T vs q as hq hB hv h1 => exact .bx T vs q as (by rw [hi.1]; exact hq) hB (hv.congr (fun i h => hc i h) hz) h1
  | el T t x q cs hd hq hB hv h1 hl => exact .el T t x q cs hd (by rw [hi.1]; exact hq) hB (hv.mono hz) h1 (by rw [hi.2]; exact hl)
  | sl0 T t l hd hq hl hn => exact .sl0 T t l hd (by rw [hi.1]; exact hq) hl (by rw [hi.2]; exact hn)
  | sl T t l q es hd hq hB hv h1 hn => exact .sl T t l q es hd (by rw [hi.1]; exact hq) hB (hv.mono hz) h1 (by rw [hi.2]; exact hn)
  | mp k v l q hk hf ha hq hB => exact .mp k v l q hk hf ha (by rw [hi.1]; exact hq) hB
theorem BR.has_lt {id : Nat} {B : TB sem} (hb : BR P κ ln z h N id B) : ∀ i, B.has i = true → i < N := by
  intro i hi
  cases hb with
  | bx T vs q as hq hB hv h1 => exact hv.has_lt i hi
  | _ => simp [TB.has] at hi

/-! matching -/
structure MExt (m m' : Mt sem) : Prop where
  ids : ∀ p q, alk m.ids p = some q → alk m'.ids p = some q
  sn : ∀ x ∈ m.sn, x ∈ m'.sn
theorem MExt.refl (m : Mt sem) : MExt m m := ⟨fun _ _ h => h, fun _ h => h⟩
theorem MExt.trans {m m1 m2 : Mt sem} (h : MExt m m1) (g : MExt m1 m2) : MExt m m2 := ⟨fun p q e => g.ids p q (h.ids p q e), fun x e => g.sn x (h.sn x e)⟩
theorem bindId_ext {m m' : Mt sem} {p q : Nat} (h : m.bindId p q = some m') : MExt m m' ∧ alk m'.ids p = some q ∧ m'.cs = m.cs ∧ m'.sn = m.sn ∧ (∀ x y a, alk m'.ids x = some a → alk m'.ids y = some a → (∀ x y a, alk m.ids x = some a → alk m.ids y = some a → x = y) → x = y) := by
  unfold Mt.bindId at h
  split at h
  · rename_i q' hq
    split at h
    · rename_i e; cases h; subst e
      exact ⟨.refl _, hq, rfl, rfl, fun x y a hx hy hi => hi x y a hx hy⟩
    · cases h
  · rename_i hq
    split at h
    · rename_i hall
      cases h
      have mem : ∀ (l : List (Nat × Nat)) (x a : Nat), alk l x = some a → ∃ y ∈ l, y.2 = a := by
        intro l
        induction l with
        | nil => intro x a h; simp [alk] at h
        | cons y l ih =>
          intro x a h
          simp only [alk] at h
          split at h
          · cases h; exact ⟨y, by simp, rfl⟩
          · obtain ⟨w, hw, e⟩ := ih x a h; exact ⟨w, by simp [hw], e⟩
      refine ⟨⟨fun p' q' e => ?_, fun x h => h⟩, by simp [alk], rfl, rfl, fun x y a hx hy hi => ?_⟩
      · simp only [alk]
        rw [if_neg (by rintro rfl; rw [hq] at e; cases e)]; exact e
      · simp only [alk] at hx hy
        split at hx
        · rename_i e1
          split at hy
          · rename_i e2; omega
          · cases hx
            obtain ⟨w, hw, e⟩ := mem _ _ _ hy
            have := List.all_eq_true.1 hall w hw
            simp [e] at this
        · split at hy
          · cases hy
            obtain ⟨w, hw, e⟩ := mem _ _ _ hx
            have := List.all_eq_true.1 hall w hw
            simp [e] at this
          · exact hi x y a hx hy
    · cases h

/-- the new numbers of own blocks -/
structure Fin (κ : Nat → Option Nat) (ln : Nat → Nat) (h z : AH) (m : Mt sem) (κ2 : Nat → Option Nat) (ln2 : Nat → Nat) (z2 : AH) (N2 : Nat) : Prop where
  k : ∀ p q, alk m.ids p = some q → κ2 p = κ q ∧ ln2 p = ln q ∧ p < N2
  z : ∀ q B, hz κ h z m.sn q = some B → z2 q = some B
theorem Fin.back {m m' : Mt sem} {κ2 : Nat → Option Nat} {ln2 : Nat → Nat} {z2 : AH} {N2 : Nat} (hzin : ∀ q B, z q = some B → h q = some B) (e : MExt m m') (f : Fin κ ln h z m' κ2 ln2 z2 N2) : Fin κ ln h z m κ2 ln2 z2 N2 :=
  ⟨fun p q hq => f.k p q (e.ids p q hq), fun q B hq => f.z q B (hz_mono hzin e.sn q B hq)⟩

def Inj (m : Mt sem) : Prop := ∀ x y a, alk m.ids x = some a → alk m.ids y = some a → x = y

mutual
theorem mtV_sound (R : Rel P κ ln z c s env h n) : ∀ (pv : PV) {v : TV sem} {a : AV} {m m' : Mt sem}, TVR P κ ln z s.n v a → mtV c s pv v m = some m' →
    ∃ new, m'.cs = m.cs ++ new ∧ MExt m m' ∧ (Inj m → Inj m') ∧ ∀ κ2 ln2 z2 N2, Fin κ ln h z m' κ2 ln2 z2 N2 → ∀ rest, ∃ v', unV pv (new ++ rest) = (v', rest) ∧ TVR P κ2 ln2 z2 N2 v' a
  | .un, v, a, m, m', hv, hm => by simp only [mtV, Option.some.injEq] at hm; subst hm; exact ⟨[], by simp, .refl _, id, fun _ _ _ _ _ rest => ⟨.un, rfl, .un a⟩⟩
  | .ud, v, a, m, m', hv, hm => by
    cases v <;> simp only [mtV, Option.some.injEq, reduceCtorEq] at hm
    subst hm; cases hv
    exact ⟨[], by simp, .refl _, id, fun _ _ _ _ _ rest => ⟨.ud, rfl, .ud⟩⟩
  | .c t, v, a, m, m', hv, hm => by
    simp only [mtV, Option.map_eq_some_iff] at hm
    obtain ⟨y, hy, rfl⟩ := hm
    obtain ⟨hd, h1, h2⟩ := snapV_sound R hv hy
    refine ⟨[⟨t, y.1⟩], rfl, ⟨fun _ _ h => h, fun x hx => by simp [hx]⟩, id, fun κ2 ln2 z2 N2 f rest => ⟨.c t y.1, rfl, .c t y.1 a hd (h1.mono fun q B hq => f.z q B (hz_mono R.zin (fun i hi => by simp [hi]) q B hq))⟩⟩
  | .sc u, v, a, m, m', hv, hm => by
    cases v <;> simp only [mtV, Option.ite_none_right_eq_some, Option.some.injEq, reduceCtorEq] at hm
    rename_i w
    obtain ⟨hc, rfl⟩ := hm
    cases hv with
    | sc _ hw =>
      have e : u = w := by
        rcases hc with ⟨h1, h2⟩ | ⟨h1, h2⟩
        · rw [isNilS_eq h1, isNilS_eq h2]
        · rw [isNilP_eq h1, isNilP_eq h2]
      rw [e]
      exact ⟨[], by simp, .refl _, id, fun _ _ _ _ _ rest => ⟨.sc w, rfl, .sc w hw⟩⟩
  | .ptr p j, v, a, m, m', hv, hm => by
    cases v <;> simp only [mtV, Option.ite_none_right_eq_some, reduceCtorEq] at hm
    obtain ⟨rfl, hm⟩ := hm
    obtain ⟨h1, h2, h3, h4, h5⟩ := bindId_ext hm
    cases hv with
    | ptr id j q hN hq => exact ⟨[], by simp [h3], h1, fun hi x y a hx hy => h5 x y a hx hy hi, fun κ2 ln2 z2 N2 f rest => ⟨.ptr p j, rfl, by obtain ⟨k1, k2, k3⟩ := f.k p _ h2; exact .ptr p j q k3 (by rw [k1]; exact hq)⟩⟩
  | .mw p, v, a, m, m', hv, hm => by
    cases v <;> simp only [mtV, reduceCtorEq] at hm
    obtain ⟨h1, h2, h3, h4, h5⟩ := bindId_ext hm
    refine ⟨[], by simp [h3], h1, fun hi x y a hx hy => h5 x y a hx hy hi, fun κ2 ln2 z2 N2 f rest => ⟨.mw p, rfl, ?_⟩⟩
    obtain ⟨k1, k2, k3⟩ := f.k p _ h2
    cases hv with
    | mw0 _ hN hq => exact .mw0 p k3 (by rw [k1]; exact hq)
    | mw _ q hN hq => rw [← k2]; exact .mw p q k3 (by rw [k1]; exact hq)
  | .mp p, v, a, m, m', hv, hm => by
    cases v <;> simp only [mtV, reduceCtorEq] at hm
    obtain ⟨h1, h2, h3, h4, h5⟩ := bindId_ext hm
    cases hv with
    | mp id q hN hq => exact ⟨[], by simp [h3], h1, fun hi x y a hx hy => h5 x y a hx hy hi, fun κ2 ln2 z2 N2 f rest => ⟨.mp p, rfl, by obtain ⟨k1, k2, k3⟩ := f.k p _ h2; exact .mp p q k3 (by rw [k1]; exact hq)⟩⟩
  | .fn g vs, v, a, m, m', hv, hm => by
    cases v <;> simp only [mtV, Option.ite_none_right_eq_some, reduceCtorEq] at hm
    obtain ⟨rfl, hm⟩ := hm
    cases hv with
    | fn _ us as hs =>
      obtain ⟨new, g1, g2, g3, g4⟩ := mtL_sound R vs hs hm
      refine ⟨new, g1, g2, g3, fun κ2 ln2 z2 N2 f rest => ?_⟩
      obtain ⟨vs', k1, k2⟩ := g4 κ2 ln2 z2 N2 f rest
      exact ⟨.fn g vs', by simp only [unV, k1], .fn g vs' as k2⟩
  | .ag vs, v, a, m, m', hv, hm => by
    cases v <;> simp only [mtV, reduceCtorEq] at hm
    cases hv with
    | ag us as hs h1 =>
      obtain ⟨new, g1, g2, g3, g4⟩ := mtL_sound R vs hs hm
      refine ⟨new, g1, g2, g3, fun κ2 ln2 z2 N2 f rest => ?_⟩
      obtain ⟨vs', k1, k2⟩ := g4 κ2 ln2 z2 N2 f rest
      exact ⟨.ag vs', by simp only [unV, k1], .ag vs' as k2 h1⟩
theorem mtL_sound (R : Rel P κ ln z c s env h n) : ∀ (pvs : List PV) {vs : List (TV sem)} {as : List AV} {m m' : Mt sem}, TVRs P κ ln z s.n vs as → mtL c s pvs vs m = some m' →
    ∃ new, m'.cs = m.cs ++ new ∧ MExt m m' ∧ (Inj m → Inj m') ∧ ∀ κ2 ln2 z2 N2, Fin κ ln h z m' κ2 ln2 z2 N2 → ∀ rest, ∃ vs', unL pvs (new ++ rest) = (vs', rest) ∧ TVRs P κ2 ln2 z2 N2 vs' as
  | [], [], _, m, m', .nil, hm => by simp only [mtL, Option.some.injEq] at hm; subst hm; exact ⟨[], by simp, .refl _, id, fun _ _ _ _ _ rest => ⟨[], rfl, .nil⟩⟩
  | [], _ :: _, _, m, m', _, hm => by simp [mtL] at hm
  | _ :: _, [], _, m, m', _, hm => by simp [mtL] at hm
  | pv :: pvs, v :: vs, _, m, m', .cons _ a _ as hv hvs, hm => by
    simp only [mtL, Option.bind_eq_some_iff] at hm
    obtain ⟨m1, h1, h2⟩ := hm
    obtain ⟨new1, a1, a2, a3, a4⟩ := mtV_sound R pv hv h1
    obtain ⟨new2, b1, b2, b3, b4⟩ := mtL_sound R pvs hvs h2
    refine ⟨new1 ++ new2, by rw [b1, a1, List.append_assoc], a2.trans b2, fun hi => b3 (a3 hi), fun κ2 ln2 z2 N2 f rest => ?_⟩
    obtain ⟨v', k1, k2⟩ := a4 κ2 ln2 z2 N2 (f.back R.zin b2) (new2 ++ rest)
    obtain ⟨vs', k3, k4⟩ := b4 κ2 ln2 z2 N2 f rest
    exact ⟨v' :: vs', by simp only [unL, List.append_assoc, k1, k3], .cons _ _ _ _ k2 k4⟩
end
theorem mtB_sound (R : Rel P κ ln z c s env h n) {pb : PB} {q p : Nat} {B : TB sem} {m m' : Mt sem} (hB : thp c s q = some B) (hm : mtB c s pb B m = some m') :
    ∃ new, m'.cs = m.cs ++ new ∧ MExt m m' ∧ (Inj m → Inj m') ∧ ∀ κ2 ln2 z2 N2, Fin κ ln h z m' κ2 ln2 z2 N2 → κ2 p = κ q ∧ ln2 p = ln q → ∀ rest, ∃ B', unB pb (new ++ rest) = (some B', rest) ∧ BR P κ2 ln2 z2 h N2 p B' := by
  have hb := R.blk q B hB
  unfold mtB at hm
  split at hm
  · rename_i T vs T' us
    split at hm
    · rename_i e
      subst e
      cases hb with
      | bx _ _ q' as hq hh hv h1 =>
        obtain ⟨new, g1, g2, g3, g4⟩ := mtL_sound R vs hv hm
        refine ⟨new, g1, g2, g3, fun κ2 ln2 z2 N2 f hp rest => ?_⟩
        obtain ⟨vs', k1, k2⟩ := g4 κ2 ln2 z2 N2 f rest
        exact ⟨.bx T vs', by simp only [unB, k1], .bx T vs' q' as (by rw [hp.1]; exact hq) (by rw [← k2.len, hv.len]; exact hh) k2 h1⟩
    · cases hm
  · rename_i T t T' t' x
    split at hm
    · rename_i e
      subst e
      simp only [Option.map_eq_some_iff] at hm
      obtain ⟨y, hy, rfl⟩ := hm
      obtain ⟨e, rfl⟩ := tcast_sem hy
      cases e
      cases hb with
      | el _ _ _ q' cs hd hq hh hv h1 hl =>
        exact ⟨[⟨t, x⟩], rfl, ⟨fun _ _ h => h, fun _ h => h⟩, id, fun κ2 ln2 z2 N2 f hp rest => ⟨.el T t x, by simp [unB, tcast], .el T t x q' cs hd (by rw [hp.1]; exact hq) hh (hv.mono fun q B hq => f.z q B (hz_z R.zin q B hq)) h1 (by rw [hp.2]; exact hl)⟩⟩
    · cases hm
  · rename_i T t T' t' l
    split at hm
    · rename_i e
      subst e
      simp only [Option.map_eq_some_iff] at hm
      obtain ⟨y, hy, rfl⟩ := hm
      obtain ⟨e, rfl⟩ := tcast_sem hy
      cases e
      refine ⟨[⟨.sl t, l⟩], rfl, ⟨fun _ _ h => h, fun _ h => h⟩, id, fun κ2 ln2 z2 N2 f hp rest => ⟨.sl T t l, by simp [unB, tcast], ?_⟩⟩
      cases hb with
      | sl0 _ _ _ hd hq hl hn => exact .sl0 T t l hd (by rw [hp.1]; exact hq) hl (by rw [hp.2]; exact hn)
      | sl _ _ _ q' es hd hq hh hv h1 hn => exact .sl T t l q' es hd (by rw [hp.1]; exact hq) hh (hv.mono fun q B hq => f.z q B (hz_z R.zin q B hq)) h1 (by rw [hp.2]; exact hn)
    · cases hm
  · rename_i k v k' v' l
    simp only [Option.map_eq_some_iff] at hm
    obtain ⟨y, hy, rfl⟩ := hm
    obtain ⟨e, rfl⟩ := tcast_sem hy
    cases e
    cases hb with
    | mp _ _ _ q' hk hf ha hq hh => exact ⟨[⟨.sl (.pr k v), l⟩], rfl, ⟨fun _ _ h => h, fun _ h => h⟩, id, fun κ2 ln2 z2 N2 f hp rest => ⟨.mp k v l, by simp [unB, tcast], .mp k v l q' hk hf ha (by rw [hp.1]; exact hq) hh⟩⟩
  · cases hm
end
end Go.Abs

/- The typed machine is sound, fifteenth part: states told by patterns. -/
set_option linter.unusedSimpArgs false
set_option linter.unusedVariables false
set_option linter.constructorNameAsVariable false
namespace Go.Abs
open Go Go.RowKit

theorem alk_mem {α : Type} : ∀ {l : List (Nat × α)} {x : Nat} {v : α}, alk l x = some v → (x, v) ∈ l
  | [], x, v, h => by simp [alk] at h
  | (k, w) :: l, x, v, h => by
    simp only [alk] at h
    split at h
    · rename_i e; cases h; subst e; simp
    · exact List.mem_cons_of_mem _ (alk_mem h)
theorem alk_append {α : Type} : ∀ (l l' : List (Nat × α)) (x : Nat), alk (l ++ l') x = match alk l x with | some v => some v | none => alk l' x
  | [], l', x => rfl
  | (k, w) :: l, l', x => by
    simp only [List.cons_append, alk]
    split
    · rfl
    · exact alk_append l l' x

theorem mkT_two {t u : Ty} {ts : List Ty} {p : (t : Ty) × t.den} {l : List ((t : Ty) × t.den)} : mkT sem (t :: u :: ts) (p :: l) = (tcast (A := sem) t p.2).bind fun x => (mkT sem (u :: ts) l).map fun y => ((x, y) : t.den × (tup (u :: ts)).den) := rfl

section
variable {P : Program} {κ κ' : Nat → Option Nat} {ln ln' : Nat → Nat} {z z' : AH} {c : Cx sem} {s : TS sem} {env : Env} {h h' : AH} {n n' N N' : Nat}

theorem mkT_unT : ∀ (ts : List Ty) (l : List ((t : Ty) × t.den)) (x : (tup ts).den), mkT sem ts l = some x → unT sem ts x = l := by
  intro ts
  induction ts with
  | nil =>
    intro l x h
    cases l with
    | nil => rfl
    | cons p l => exact semfail (r := x) h
  | cons t ts ih =>
    intro l x h
    cases ts with
    | nil =>
      cases l with
      | nil => exact semfail (r := x) h
      | cons p l =>
        cases l with
        | nil =>
          obtain ⟨t', y⟩ := p
          obtain ⟨e, rfl⟩ := tcast_sem h
          cases e; rfl
        | cons q l => exact semfail (r := x) h
    | cons u ts =>
      cases l with
      | nil => exact semfail (r := x) h
      | cons p l =>
        rw [mkT_two] at h
        obtain ⟨x1, hx1, h⟩ := Option.bind_eq_some_iff.1 h
        obtain ⟨x2, hx2, rfl⟩ := Option.map_eq_some_iff.1 h
        obtain ⟨t', y⟩ := p
        obtain ⟨e, rfl⟩ := tcast_sem hx1
        cases e
        show _ :: unT sem (u :: ts) x2 = _ :: l
        rw [ih l x2 hx2]

theorem mtE_sound (R : Rel P κ ln z c s env h n) : ∀ (l : List (Nat × PV)) {m m' : Mt sem}, mtE c s l m = some m' →
    ∃ new, m'.cs = m.cs ++ new ∧ MExt m m' ∧ (Inj m → Inj m') ∧ ∀ κ2 ln2 z2 N2, Fin κ ln h z m' κ2 ln2 z2 N2 → ∀ rest, ∃ E, unE l (new ++ rest) = (E, rest) ∧ (∀ y v, alk E y = some v → TVR P κ2 ln2 z2 N2 v (lk env y)) ∧ ∀ y, (alk E y).isSome = (alk l y).isSome
  | [], m, m', hm => by simp only [mtE, Option.some.injEq] at hm; subst hm; exact ⟨[], by simp, .refl _, id, fun _ _ _ _ _ rest => ⟨[], rfl, fun y v hy => by simp [alk] at hy, fun _ => rfl⟩⟩
  | (x, pv) :: l, m, m', hm => by
    simp only [mtE, Option.bind_eq_some_iff] at hm
    obtain ⟨m1, h1, h2⟩ := hm
    obtain ⟨new1, a1, a2, a3, a4⟩ := mtV_sound R pv (R.env x) h1
    obtain ⟨new2, b1, b2, b3, b4⟩ := mtE_sound R l h2
    refine ⟨new1 ++ new2, by rw [b1, a1, List.append_assoc], a2.trans b2, fun hi => b3 (a3 hi), fun κ2 ln2 z2 N2 f rest => ?_⟩
    obtain ⟨v', k1, k2⟩ := a4 κ2 ln2 z2 N2 (f.back R.zin b2) (new2 ++ rest)
    obtain ⟨E, k3, k4, k5⟩ := b4 κ2 ln2 z2 N2 f rest
    refine ⟨(x, v') :: E, by simp only [unE, List.append_assoc, k1, k3], fun y v hy => ?_, fun y => ?_⟩
    · simp only [alk] at hy
      split at hy
      · rename_i e; cases hy; subst e; exact k2
      · exact k4 y v hy
    · simp only [alk]
      split
      · rfl
      · exact k5 y
theorem mtI_ext {m m' : Mt sem} {id : Nat} (h : mtI c m id = some m') : m'.cs = m.cs ∧ MExt m m' ∧ (Inj m → Inj m') := by
  unfold mtI at h
  split at h
  · obtain ⟨h1, h2, h3, h4, h5⟩ := bindId_ext h
    exact ⟨h3, h1, fun hi x y a hx hy => h5 x y a hx hy hi⟩
  · cases h; exact ⟨rfl, .refl _, fun h => h⟩
theorem mtH_sound (R : Rel P κ ln z c s env h n) : ∀ (l : List (Nat × PB)) {m m' : Mt sem}, mtH c s l m = some m' →
    ∃ new, m'.cs = m.cs ++ new ∧ MExt m m' ∧ (Inj m → Inj m') ∧ ∀ κ2 ln2 z2 N2, Fin κ ln h z m' κ2 ln2 z2 N2 → ∀ rest, ∃ H, unH l (new ++ rest) = (H, rest) ∧ (∀ id b, alk H id = some b → ∃ B q B0, b = some B ∧ alk m'.ids id = some q ∧ alk s.hp q = some (some B0) ∧ BR P κ2 ln2 z2 h N2 id B) ∧ ∀ y, (alk H y).isSome = (alk l y).isSome
  | [], m, m', hm => by simp only [mtH, Option.some.injEq] at hm; subst hm; exact ⟨[], by simp, .refl _, id, fun _ _ _ _ _ rest => ⟨[], rfl, fun y v hy => by simp [alk] at hy, fun _ => rfl⟩⟩
  | (x, pb) :: l, m, m', hm => by
    simp only [mtH] at hm
    obtain ⟨m0, h0, hm⟩ := Option.bind_eq_some_iff.1 hm
    obtain ⟨i1, i2, i3⟩ := mtI_ext h0
    split at hm
    · cases hm
    · rename_i q hq
      split at hm
      · rename_i B0 hB0
        simp only [Option.bind_eq_some_iff] at hm
        obtain ⟨m1, h1, h2⟩ := hm
        obtain ⟨new1, a1, a2, a3, a4⟩ := mtB_sound (p := x) R (own_thp hB0) h1
        obtain ⟨new2, b1, b2, b3, b4⟩ := mtH_sound R l h2
        refine ⟨new1 ++ new2, by rw [b1, a1, i1, List.append_assoc], i2.trans (a2.trans b2), fun hi => b3 (a3 (i3 hi)), fun κ2 ln2 z2 N2 f rest => ?_⟩
        have hq' := b2.ids _ _ (a2.ids _ _ hq)
        obtain ⟨k0, k0', _⟩ := f.k x q hq'
        obtain ⟨B', k1, k2⟩ := a4 κ2 ln2 z2 N2 (f.back R.zin b2) ⟨k0, k0'⟩ (new2 ++ rest)
        obtain ⟨H, k3, k4, k5⟩ := b4 κ2 ln2 z2 N2 f rest
        refine ⟨(x, some B') :: H, by simp only [unH, List.append_assoc, k1, k3], fun y b hy => ?_, fun y => ?_⟩
        · simp only [alk] at hy
          split at hy
          · rename_i e; cases hy; subst e; exact ⟨B', q, B0, rfl, hq', hB0, k2⟩
          · exact k4 y b hy
        · simp only [alk]
          split
          · rfl
          · exact k5 y
      · cases hm

theorem has_e0 {x : Nat} {v : TV sem} (hx : alk c.e0 x = some v) {id : Nat} (hv : v.has id = true) : c.has id = true := by
  unfold Cx.has
  simp only [Bool.or_eq_true, List.any_eq_true]
  exact .inl (.inr ⟨_, alk_mem hx, hv⟩)
theorem has_g {id : Nat} {B : TB sem} (hx : alk c.g id = some B) : c.has id = true := by unfold Cx.has; simp [hx]
theorem has_gB {j : Nat} {B : TB sem} (hx : alk c.g j = some B) {id : Nat} (hv : B.has id = true) : c.has id = true := by
  unfold Cx.has
  simp only [Bool.or_eq_true, List.any_eq_true]
  exact .inr ⟨_, alk_mem hx, hv⟩
theorem Rel.g_thp (R : Rel P κ ln z c s env h n) {id : Nat} {B : TB sem} (hg : alk c.g id = some B) : thp c s id = some B := by
  unfold thp
  cases hh : alk s.hp id with
  | some b => have := R.g _ _ hh; rw [hg] at this; cases this
  | none => exact hg
theorem Rel.e0_tlk (R : Rel P κ ln z c s env h n) {x : Nat} {v : TV sem} (hx : alk c.e0 x = some v) : tlk c s x = v := by
  unfold tlk
  cases hh : alk s.env x with
  | some b => have := R.e0 _ _ hh; rw [hx] at this; cases this
  | none => simp [hx]

theorem pack_rel (R : Rel P κ ln z c s env h n) {p : Pat} {x : p.ty.den} (hc : ∀ id, c.has id = true → id < N) (hp : pack c N p s = some x) (c2 : Cx sem) (s2 : TS sem) (hN : N ≤ s2.n)
    (hE : ∀ y, tlk c2 s2 y = (match alk (unpack (A := sem) p N x).env y with | some v => v | none => (alk c.e0 y).getD .un) ∨ tlk c2 s2 y = .un)
    (hH : ∀ id B, thp c2 s2 id = some B → alk (unpack (A := sem) p N x).hp id = some (some B) ∨ alk c.g id = some B)
    (he0 : ∀ x v, alk s2.env x = some v → alk c2.e0 x = none) (hg : ∀ id b, alk s2.hp id = some b → alk c2.g id = none) (hdy : s2.dy = true) : ∃ κ2 ln2 z2, Rel P κ2 ln2 z2 c2 s2 env h n ∧ ∀ id, c.has id = true → κ2 id = κ id ∧ ln2 id = ln id := by
  unfold pack at hp
  obtain ⟨m1, hm1, hp⟩ := Option.bind_eq_some_iff.1 hp
  obtain ⟨m, hm, hp⟩ := Option.bind_eq_some_iff.1 hp
  obtain ⟨hchk, hp⟩ := Option.ite_none_right_eq_some.1 hp
  simp only [Bool.and_eq_true, List.all_eq_true, Bool.or_eq_true, Bool.not_eq_true', decide_eq_true_eq] at hchk
  obtain ⟨⟨hsn, hlt⟩, hid⟩ := hchk
  obtain ⟨new1, a1, a2, a3, a4⟩ := mtE_sound R _ hm1
  obtain ⟨new2, b1, b2, b3, b4⟩ := mtH_sound R _ hm
  simp only [List.nil_append] at a1
  have hcs : m.cs = new1 ++ new2 := by rw [b1, a1]
  have hinj : Inj m := b3 (a3 (fun x y a hx => by simp [alk] at hx))
  let κ2 : Nat → Option Nat := fun id => match alk m.ids id with | some q => κ q | none => κ id
  let ln2 : Nat → Nat := fun id => match alk m.ids id with | some q => ln q | none => ln id
  have hk2 : ∀ {p q : Nat}, alk m.ids p = some q → κ2 p = κ q ∧ ln2 p = ln q := fun {p q} hq => by simp only [κ2, ln2, hq]; exact ⟨trivial, trivial⟩
  have hkc : ∀ {id : Nat}, c.has id = true → κ2 id = κ id ∧ ln2 id = ln id := fun {id} hi => by
    cases hq : alk m.ids id with
    | none => simp only [κ2, ln2, hq]; exact ⟨trivial, trivial⟩
    | some q =>
      rcases hid _ (alk_mem hq) with e | ⟨_, e⟩
      · have e : id = q := e
        subst e; exact hk2 hq
      · have e : c.has id = false := e
        rw [e] at hi; cases hi
  have fin : Fin κ ln h z m κ2 ln2 (hz κ h z m.sn) s2.n := ⟨fun p q hq => ⟨(hk2 hq).1, (hk2 hq).2, Nat.lt_of_lt_of_le (hlt _ (alk_mem hq)) hN⟩, fun q B hq => hq⟩
  obtain ⟨E, e1, e2, e3⟩ := a4 κ2 ln2 _ s2.n (fin.back R.zin b2) new2
  obtain ⟨H, f1, f2, f3⟩ := b4 κ2 ln2 _ s2.n fin []
  have hun : unT sem p.tys x = new1 ++ new2 := by rw [← hcs]; exact mkT_unT _ _ _ hp
  rw [List.append_nil] at f1
  have henv : (unpack (A := sem) p N x).env = E := by simp only [unpack, hun, e1]
  have hhp : (unpack (A := sem) p N x).hp = H := by simp only [unpack, hun, e1, f1]
  rw [henv] at hE
  rw [hhp] at hH
  have own : ∀ id ∈ m.sn, ∃ B, alk s.hp id = some (some B) := fun id hi => by
    have := (hsn id hi).1.1
    cases ho : ownB s id with
    | none => rw [ho] at this; cases this
    | some B => exact ⟨B, own_def ho⟩
  have hzo : ∀ {id q : Nat} {B : TB sem}, thp c s id = some B → κ id = some q → (id ∉ m.sn) → hz κ h z m.sn q = none := fun {id q B} hB hk hni => by
    unfold hz
    rw [if_neg]
    · exact R.zout id B q hB hk
    · intro hany
      obtain ⟨j, hj, hkj⟩ := List.any_eq_true.1 hany
      obtain ⟨Bj, hBj⟩ := own j hj
      have := R.inj id j _ _ q hB (own_thp hBj) hk (by simpa using hkj)
      subst this; exact hni hj
  have pat : ∀ {id : Nat} {B : TB sem}, alk H id = some (some B) → ∃ q B0, alk m.ids id = some q ∧ alk s.hp q = some (some B0) ∧ BR P κ2 ln2 (hz κ h z m.sn) h s2.n id B := fun {id B} hB => by
    obtain ⟨B', q, B0, g1, g2, g3, g4⟩ := f2 id _ hB
    cases g1
    exact ⟨q, B0, g2, g3, g4⟩
  have pni : ∀ {id q : Nat}, alk m.ids id = some q → q ∉ m.sn := fun {id q} hq hi => by
    have := (hsn q hi).2 _ (alk_mem hq)
    simp at this
  have gni : ∀ {id : Nat} {B : TB sem}, alk c.g id = some B → id ∉ m.sn := fun {id B} hB hi => by
    have := (hsn id hi).1.2
    rw [has_g hB] at this; cases this
  refine ⟨κ2, ln2, hz κ h z m.sn, ⟨fun y => ?_, fun id B hB => ?_, fun id B hB => ?_, fun i j B B' q hi hj ki kj => ?_, hz_full R.zin, fun id B q hB hk => ?_, fun id B q hB hk => ?_, R.hn, he0, hg, (fun hd => by rw [hdy] at hd; cases hd), fun q k T es hq e he => ?_⟩, fun id hi => hkc hi⟩
  · rcases hE y with hE | hE
    · rw [hE]
      split
      · rename_i v hv; exact e2 y v hv
      · cases hy : alk c.e0 y with
        | none => exact .un _
        | some v =>
          simp only [Option.getD_some]
          have := R.env y
          rw [R.e0_tlk hy] at this
          exact this.congr (fun id hi => ⟨(hkc (has_e0 hy hi)).1, (hkc (has_e0 hy hi)).2, Nat.lt_of_lt_of_le (hc id (has_e0 hy hi)) hN⟩) (hz_z R.zin)
    · rw [hE]; exact .un _
  · rcases hH id B hB with hB | hB
    · obtain ⟨q, B0, g2, g3, g4⟩ := pat hB; exact g4
    · exact (R.blk id B (R.g_thp hB)).congr (hkc (has_g hB)) (fun i hi => ⟨(hkc (has_gB hB hi)).1, (hkc (has_gB hB hi)).2, Nat.lt_of_lt_of_le (hc i (has_gB hB hi)) hN⟩) (hz_z R.zin)
  · rcases hH id B hB with hB | hB
    · obtain ⟨q, B0, g2, g3, g4⟩ := pat hB; exact Nat.lt_of_lt_of_le (hlt _ (alk_mem g2)) hN
    · exact Nat.lt_of_lt_of_le (hc id (has_g hB)) hN
  · rcases hH i B hi with hi | hi
    · obtain ⟨qi, Bi, g2, g3, g4⟩ := pat hi
      rw [(hk2 g2).1] at ki
      rcases hH j B' hj with hj | hj
      · obtain ⟨qj, Bj, k2, k3, k4⟩ := pat hj
        rw [(hk2 k2).1] at kj
        have := R.inj qi qj _ _ q (own_thp g3) (own_thp k3) ki kj
        subst this
        exact hinj i j qi g2 k2
      · rw [(hkc (has_g hj)).1] at kj
        have := R.inj qi j _ _ q (own_thp g3) (R.g_thp hj) ki kj
        subst this
        have := R.g _ _ g3
        rw [hj] at this; cases this
    · rw [(hkc (has_g hi)).1] at ki
      rcases hH j B' hj with hj | hj
      · obtain ⟨qj, Bj, k2, k3, k4⟩ := pat hj
        rw [(hk2 k2).1] at kj
        have := R.inj i qj _ _ q (R.g_thp hi) (own_thp k3) ki kj
        subst this
        have := R.g _ _ k3
        rw [hi] at this; cases this
      · rw [(hkc (has_g hj)).1] at kj
        exact R.inj i j _ _ q (R.g_thp hi) (R.g_thp hj) ki kj
  · rcases hH id B hB with hB | hB
    · obtain ⟨q', B0, g2, g3, g4⟩ := pat hB
      rw [(hk2 g2).1] at hk
      exact hzo (own_thp g3) hk (pni g2)
    · rw [(hkc (has_g hB)).1] at hk
      exact hzo (R.g_thp hB) hk (gni hB)
  · rcases hH id B hB with hB | hB
    · obtain ⟨q', B0, g2, g3, g4⟩ := pat hB
      rw [(hk2 g2).1] at hk
      exact R.bnd q' B0 q (own_thp g3) hk
    · rw [(hkc (has_g hB)).1] at hk
      exact R.bnd id B q (R.g_thp hB) hk
  · unfold hz at hq
    split at hq
    · rename_i hany
      obtain ⟨id, hid, hke⟩ := List.any_eq_true.1 hany
      obtain ⟨B, hB⟩ := own id hid
      exact (R.blk id B (own_thp hB)).elen (by simpa using hke) hq e he
    · exact R.zk q k T es hq e he
end
end Go.Abs

/- The typed machine is sound, sixteenth part: what was frozen is told by its content. -/
set_option linter.unusedSimpArgs false
set_option linter.unusedVariables false
set_option linter.constructorNameAsVariable false
namespace Go.Abs
open Go Go.RowKit

section
variable {P : Program} {κ κ' : Nat → Option Nat} {ln ln' : Nat → Nat} {z z' : AH} {c : Cx sem} {s : TS sem} {env : Env} {h h' : AH} {n n' N N' : Nat}
variable {w : World} {O : Nat → Prop} {μ : Mu} {p : Nat → Bool}

abbrev ahN : AH := fun _ => none
theorem muP_av {b : Nat} (h : Av O (muP p μ) b) : Av O μ b := by
  rcases h with h | ⟨id, k, h⟩
  · exact .inl h
  · exact .inr ⟨id, k, (muP_some h).2⟩
theorem VR.freeP {a : AV} {v : Value} (hv : VR w O μ n a v) (hf : Free a) : VR w O (muP p μ) n a v :=
  (hv.free hf (O' := Av O (muP p μ)) fun b hb => muP_av hb).lift fun b hb => hb
/-- blocks of a part of the heap -/
theorem HR.part (hr : HR w O μ h n) (hz : ∀ q B, z q = some B → h q = some B ∧ p q = false) : HR w (Av O (muP p μ)) (muP (fun i => !p i) μ) z n := by
  refine ⟨fun b hb => ?_, fun id b k e => hr.scope id b k (muP_some e).2, fun id id' b k k' e e' => hr.inj id id' b k k' (muP_some e).2 (muP_some e').2, fun id b k e hO => ?_, fun id B hB => ?_⟩
  · rcases hb with hb | ⟨id, k, hb⟩
    · exact hr.olt b hb
    · exact (hr.scope id b k (muP_some hb).2).2
  · obtain ⟨e1, e2⟩ := muP_some e
    rcases hO with hO | ⟨id', k', hO⟩
    · exact hr.notO id b k e2 hO
    · obtain ⟨e3, e4⟩ := muP_some hO
      rw [hr.inj _ _ _ _ _ e2 e4] at e1
      simp [e3] at e1
  · obtain ⟨h1, h2⟩ := hz id B hB
    exact (hr.blk id B h1).mapV (by simp only [muP]; rw [if_pos (by simp [h2])]) fun hv => hv.splitP p
theorem VR.snapP (hr : HR w O μ h n) (hz : ∀ q B, z q = some B → h q = some B ∧ p q = false) {a a' : AV} {v : Value} (hs : Snap z a a') (hv : VR w O μ n a v) : VR w O (muP p μ) n a' v :=
  ((hs.vr (hr.part hz)) (hv.splitP p)).lift fun b hb => hb
theorem VR.ownP {a : AV} {v : Value} (hv : VR w O μ n a v) (ha : (∃ q i j, a = .own q i j) ∨ (∃ q i j, a = .ms q i j) ∨ ∃ q, a = .mp q) : VR w O (muP p μ) n a v := by
  rcases ha with ⟨q, i, j, rfl⟩ | ⟨q, i, j, rfl⟩ | ⟨q, rfl⟩
  · cases hv with | own _ _ _ _ h h1 hv => exact .own _ _ _ _ h h1 fun b k e => hv b k (muP_some e).2
  · cases hv with | ms _ _ _ _ h h1 hv => exact .ms _ _ _ _ h h1 fun b k e => hv b k (muP_some e).2
  · cases hv with | mp _ _ h h1 hv => exact .mp _ _ h h1 fun b k e => hv b k (muP_some e).2

mutual
/-- the same told without frozen blocks -/
theorem conv_tv (hr : HR w O μ h n) (hz : ∀ q B, z q = some B → h q = some B ∧ p q = false) : ∀ {tv : TV sem} {a : AV}, TVR P κ ln z N tv a → ∀ v, VR w O μ n a v → ∃ a', TVR P κ ln ahN N tv a' ∧ (a.one = true → a'.one = true) ∧ VR w O (muP p μ) n a' v
  | _, _, .un a, v, hv => by
    cases h1 : a.one with
    | true => exact ⟨.sc v, .un _, fun _ => hv.one h1, .sc v (hv.one h1)⟩
    | false => exact ⟨.un, .un _, fun h => (by cases h), .un v⟩
  | _, _, .ud, v, hv => ⟨.ud, .ud, fun h => h, hv.freeP .ud⟩
  | _, _, .c t x a hd hs, v, hv => ⟨t.av x, .free hd, (fun h1 => hs.one h1), VR.snapP hr hz hs hv⟩
  | _, _, .kb b, v, hv => ⟨_, .kb b, fun h => h, hv.freeP (.sc _)⟩
  | _, _, .sc u h1, v, hv => ⟨_, .sc u h1, fun h => h, hv.freeP (.sc _)⟩
  | _, _, .ptr id j q hN hq, v, hv => ⟨_, .ptr id j q hN hq, fun h => h, hv.ownP (.inl ⟨_, _, _, rfl⟩)⟩
  | _, _, .adr id i j q hN hq h0 h1, v, hv => ⟨_, .adr id i j q hN hq h0 h1, fun h => h, hv.ownP (.inl ⟨_, _, _, rfl⟩)⟩
  | _, _, .aa id i q hN hq h0 h1, v, hv => ⟨_, .aa id i q hN hq h0 h1, fun h => h, hv.ownP (.inl ⟨_, _, _, rfl⟩)⟩
  | _, _, .fq t x o a hd hs, v, hv => ⟨.fp ((t.enc x).drop o), .fq t x o _ hd (.free _ ((Free_fp _).2 fun c hc => enc_free t x hd c (List.mem_of_mem_drop hc))), fun _ => rfl, VR.snapP hr hz hs hv⟩
  | _, _, .mw0 id hN hq, v, hv => ⟨_, .mw0 id hN hq, fun h => h, hv.freeP (.sc _)⟩
  | _, _, .mw id q hN hq, v, hv => ⟨_, .mw id q hN hq, fun h => h, hv.ownP (.inr (.inl ⟨_, _, _, rfl⟩))⟩
  | _, _, .ms0 id off len hN hq ho hl, v, hv => ⟨_, .ms0 id off len hN hq ho hl, fun h => h, hv.freeP (.sc _)⟩
  | _, _, .ms id off len q hN hq h0 h1 h2, v, hv => ⟨_, .ms id off len q hN hq h0 h1 h2, fun h => h, hv.ownP (.inr (.inl ⟨_, _, _, rfl⟩))⟩
  | _, _, .mp id q hN hq, v, hv => ⟨_, .mp id q hN hq, fun h => h, hv.ownP (.inr (.inr ⟨_, rfl⟩))⟩
  | _, _, .fn g vs as hs, v, hv => by
    cases hv with
    | fn _ _ vs' us hsz hc hr' =>
      obtain ⟨as', h1, h2, h3, h4⟩ := conv_tvs hr hz hs us hr'
      refine ⟨.fn g as', .fn g vs as' h1, fun h => h, .fn g as' vs' us (by omega) (fun j c hj => ?_) h4⟩
      obtain ⟨c0, hc0⟩ := other_of h2 hj
      exact hc j c0 hc0
  | _, _, .cv m x y F a hcv, v, hv => ⟨a, .cv m x y F a hcv, fun h => h, hv.freeP (by obtain ⟨g, as, rfl, hf, _⟩ := hcv; exact (Free_fn _ _).2 hf)⟩
  | _, _, .tp vs as hs, v, hv => by
    cases hv with
    | tp _ vs' us hsz hc hr' =>
      obtain ⟨as', h1, h2, h3, h4⟩ := conv_tvs hr hz hs us hr'
      refine ⟨.tp as', .tp vs as' h1, fun h => h, .tp as' vs' us (by omega) (fun j c hj => ?_) h4⟩
      obtain ⟨c0, hc0⟩ := other_of h2 hj
      exact hc j c0 hc0
  | _, _, .ag vs as hs hone, v, hv => by
    cases hv with
    | ag _ vs' us hsz hc h1' hr' =>
      obtain ⟨as', h1, h2, h3, h4⟩ := conv_tvs hr hz hs us hr'
      refine ⟨.ag as', .ag vs as' h1 (h3 hone), fun h => h, .ag as' vs' us (by omega) (fun j c hj => ?_) (fun j c hj => h3 hone c (List.mem_of_getElem? hj)) h4⟩
      obtain ⟨c0, hc0⟩ := other_of h2 hj
      exact hc j c0 hc0
theorem conv_tvs (hr : HR w O μ h n) (hz : ∀ q B, z q = some B → h q = some B ∧ p q = false) : ∀ {vs : List (TV sem)} {as : List AV}, TVRs P κ ln z N vs as → ∀ us : Nat → Value, (∀ (j : Nat) (c : AV), as[j]? = some c → VR w O μ n c (us j)) →
    ∃ as', TVRs P κ ln ahN N vs as' ∧ as'.length = as.length ∧ ((∀ a ∈ as, a.one = true) → ∀ a ∈ as', a.one = true) ∧ ∀ (j : Nat) (c : AV), as'[j]? = some c → VR w O (muP p μ) n c (us j)
  | _, _, .nil, us, _ => ⟨[], .nil, rfl, fun _ a h => (by cases h), fun j a h => by simp at h⟩
  | _, _, .cons v a vs as hv hs, us, hus => by
    obtain ⟨a', h1, h2, h3⟩ := conv_tv hr hz hv (us 0) (hus 0 a rfl)
    obtain ⟨as', g1, g2, g3, g4⟩ := conv_tvs hr hz hs (fun j => us (j + 1)) (fun j c hj => hus (j + 1) c (by simpa using hj))
    refine ⟨a' :: as', .cons _ _ _ _ h1 g1, by simp [g2], fun hone b hb => ?_, fun j b hj => ?_⟩
    · rcases List.mem_cons.1 hb with rfl | hb
      · exact h2 (hone a (by simp))
      · exact g3 (fun x hx => hone x (by simp [hx])) b hb
    · cases j with
      | zero => simp at hj; subst hj; exact h3
      | succ j => exact g4 j b (by simpa using hj)
end

/-- the same for rows of cells -/
theorem conv_cells (hr : HR w O μ h n) (hz : ∀ q B, z q = some B → h q = some B ∧ p q = false) {cs cs' : List AV} (hs : SnapL z cs cs') : ∀ (j : Nat) (a a' : AV), cs[j]? = some a → cs'[j]? = some a' → ∀ v, VR w O μ n a v → VR w O (muP p μ) n a' v :=
  fun j a a' hj hj' v hv => VR.snapP hr hz (hs.at j a a' hj hj') hv

/-- a block, told without frozen ones -/
theorem conv_blk (hr : HR w O μ h n) (hz : ∀ q B, z q = some B → h q = some B ∧ p q = false) {id q : Nat} {B : TB sem} (hb : BR P κ ln z h N id B) (hk : κ id = some q) (hp : p q = true) :
    ∃ B2, (∀ h2 : AH, h2 q = some B2 → BR P κ ln ahN h2 N id B) ∧ BlkAt w O (muP p μ) n q B2 := by
  have hmu : muP p μ q = μ q := by simp [muP, hp]
  cases hb with
  | bx T vs q' as hq hh hv h1 =>
    rw [hk] at hq; cases hq
    obtain ⟨b, cc, e1, e2, e3⟩ := hr.blk q _ hh
    have hcc : ∀ (j : Nat) (c : AV), as[j]? = some c → cc[0 * vs.length + j]? = some ((cc[0 * vs.length + j]?).getD undef) ∧ VR w O μ n c ((cc[0 * vs.length + j]?).getD undef) := fun j c hj => by
      obtain ⟨l1, u, l2, l3⟩ := (e3 0 as rfl).2 j c hj
      rw [l2]; exact ⟨rfl, l3⟩
    obtain ⟨as', g1, g2, g3, g4⟩ := conv_tvs hr hz hv _ (fun j c hj => (hcc j c hj).2)
    refine ⟨.cells vs.length T [as'], fun h2 hh2 => .bx T vs q as' hk hh2 g1 (g3 h1), ?_⟩
    refine ⟨b, cc, hmu.trans e1, e2, fun i e hi => ?_⟩
    cases i with
    | zero =>
      simp at hi; subst hi
      obtain ⟨k1, k2⟩ := e3 0 as rfl
      refine ⟨by rw [g2]; exact k1, fun j a hj => ?_⟩
      obtain ⟨a0, ha0⟩ := other_of g2 hj
      exact ⟨g3 h1 a (List.mem_of_getElem? hj), _, (hcc j a0 ha0).1, g4 j a hj⟩
    | succ i => simp at hi
  | el T t x q' cs hd hq hh hv h1 hl =>
    rw [hk] at hq; cases hq
    refine ⟨.cells t.wd T [t.enc x], fun h2 hh2 => .el T t x q (t.enc x) hd hk hh2 (SnapL.free (enc_free t x hd)) (enc_one t x hd) hl, ?_⟩
    obtain ⟨b, cc, e1, e2, e3⟩ := hr.blk q _ hh
    refine ⟨b, cc, hmu.trans e1, e2, fun i e hi => ?_⟩
    cases i with
    | zero =>
      simp at hi; subst hi
      obtain ⟨k1, k2⟩ := e3 0 cs rfl
      refine ⟨enc_len t x hd, fun j a hj => ?_⟩
      obtain ⟨a0, ha0⟩ := other_of hv.len hj
      obtain ⟨l1, u, l2, l3⟩ := k2 j a0 ha0
      exact ⟨enc_one t x hd a (List.mem_of_getElem? hj), u, l2, conv_cells hr hz hv j a0 a ha0 hj u l3⟩
    | succ i => simp at hi
  | sl0 T t l hd hq hl hn => rw [hk] at hq; cases hq
  | sl T t l q' es hd hq hh hv h1 hn =>
    rw [hk] at hq; cases hq
    have hf : ∀ e ∈ l.map t.enc, FreeL e := fun e he => by obtain ⟨y, _, rfl⟩ := List.mem_map.1 he; exact enc_free t y hd
    refine ⟨.cells t.wd T (l.map t.enc), fun h2 hh2 => .sl T t l q _ hd hk hh2 (SnapE.free hf) (fun e he => by obtain ⟨y, _, rfl⟩ := List.mem_map.1 he; exact enc_one t y hd) hn, ?_⟩
    obtain ⟨b, cc, e1, e2, e3⟩ := hr.blk q _ hh
    refine ⟨b, cc, hmu.trans e1, e2, fun i e hi => ?_⟩
    obtain ⟨e0, he0⟩ := other_of hv.1 hi
    have hse := hv.2 i e0 e he0 hi
    obtain ⟨k1, k2⟩ := e3 i e0 he0
    refine ⟨by rw [hse.len]; exact k1, fun j a hj => ?_⟩
    obtain ⟨a0, ha0⟩ := other_of hse.len hj
    obtain ⟨l1, u, l2, l3⟩ := k2 j a0 ha0
    exact ⟨(hse.at j a0 a ha0 hj).one l1, u, l2, conv_cells hr hz hse j a0 a ha0 hj u l3⟩
  | mp k v l q' hkk hf ha hq hh =>
    rw [hk] at hq; cases hq
    refine ⟨_, fun h2 hh2 => .mp k v l q hkk hf ha hk hh2, ?_⟩
    obtain ⟨b, es, e1, e2, e3, e4⟩ := hr.blk q _ hh
    refine ⟨b, es, hmu.trans e1, e2, e3, fun i x hi => ?_⟩
    obtain ⟨e, g1, g2, g3, g4, g5⟩ := e4 i x hi
    refine ⟨e, g1, g2, g3, g4, g5.freeP ?_⟩
    obtain ⟨y, _, rfl⟩ := List.mem_map.1 (List.mem_of_getElem? hi)
    exact av_free v y.2 (flat_dat hf)
end
end Go.Abs

/- The typed machine is sound, seventeenth part: freezing in a walk; contexts. -/
set_option linter.unusedSimpArgs false
set_option linter.unusedVariables false
set_option linter.constructorNameAsVariable false
namespace Go.Abs
open Go Go.RowKit

section
variable {P : Program} {κ κ' : Nat → Option Nat} {ln ln' : Nat → Nat} {z z' : AH} {c : Cx sem} {s : TS sem} {env : Env} {h h' : AH} {n n' N N' : Nat}

theorem lk_map (f : Nat → AV) : ∀ (l : List Nat) (x : Nat), lk (l.map fun k => (k, f k)) x = if l.contains x then f x else .un
  | [], x => rfl
  | k :: l, x => by
    simp only [List.map_cons, lk, List.contains_cons]
    by_cases hx : x = k
    · subst hx; simp
    · rw [if_neg hx, lk_map f l x]
      have : (x == k) = false := by simpa using hx
      rw [this, Bool.false_or]
theorem alk_keys {α : Type} {l : List (Nat × α)} {x : Nat} {v : α} (h : alk l x = some v) : x ∈ l.map (·.1) := List.mem_map.2 ⟨_, alk_mem h, rfl⟩

theorem Rel.wk (R : Rel P κ ln z c s env h n) {D : List Deferred} {O : Nat → Prop} {μ : Mu} {a : Act} {w : World} (hs : SR N D O μ ⟨env, h, n⟩ a w) :
    ∃ μ' env2 h2, Rel P κ ln ahN c { s with dy := false } env2 h2 n ∧ SR N D O μ' ⟨env2, h2, n⟩ a w ∧ Evo w μ n w μ' n := by
  let ids := s.hp.map (·.1) ++ c.g.map (·.1)
  let p : Nat → Bool := fun q => ids.any fun id => (thp c s id).isSome && (κ id == some q)
  have p1 : ∀ {id q : Nat} {B : TB sem}, thp c s id = some B → κ id = some q → p q = true := fun {id q B} hB hk => by
    refine List.any_eq_true.2 ⟨id, ?_, by simp [hB, hk]⟩
    unfold thp at hB
    cases hh : alk s.hp id with
    | some b => exact List.mem_append.2 (.inl (alk_keys hh))
    | none => rw [hh] at hB; exact List.mem_append.2 (.inr (alk_keys hB))
  have p2 : ∀ {q : Nat}, p q = true → ∃ id B, thp c s id = some B ∧ κ id = some q := fun {q} hq => by
    obtain ⟨id, _, h1⟩ := List.any_eq_true.1 hq
    simp only [Bool.and_eq_true] at h1
    obtain ⟨B, hB⟩ := Option.isSome_iff_exists.1 h1.1
    exact ⟨id, B, hB, by simpa using h1.2⟩
  have hz : ∀ q B, z q = some B → h q = some B ∧ p q = false := fun q B hq => by
    refine ⟨R.zin q B hq, ?_⟩
    cases hp : p q with
    | false => rfl
    | true =>
      obtain ⟨id, B', hB, hk⟩ := p2 hp
      rw [R.zout id B' q hB hk] at hq; cases hq
  have hf : ∀ x, ∃ a', TVR P κ ln ahN s.n (tlk c s x) a' ∧ VR w O (muP p μ) n a' (a.tmps.getD x undef) := fun x => by
    obtain ⟨a', h1, _, h3⟩ := conv_tv hs.hr hz (R.env x) _ (hs.env x)
    exact ⟨a', h1, h3⟩
  let f : Nat → AV := fun x => Classical.choose (hf x)
  have f1 : ∀ x, TVR P κ ln ahN s.n (tlk c s x) (f x) := fun x => (Classical.choose_spec (hf x)).1
  have f2 : ∀ x, VR w O (muP p μ) n (f x) (a.tmps.getD x undef) := fun x => (Classical.choose_spec (hf x)).2
  let ks := s.env.map (·.1) ++ c.e0.map (·.1)
  have hks : ∀ x, ks.contains x = false → tlk c s x = .un := fun x hx => by
    have hx : x ∉ ks := by simpa using hx
    unfold tlk
    cases he : alk s.env x with
    | some v => exact absurd (List.mem_append.2 (.inl (alk_keys he))) hx
    | none =>
      cases he0 : alk c.e0 x with
      | some v => exact absurd (List.mem_append.2 (.inr (alk_keys he0))) hx
      | none => rfl
  have hb : ∀ q, (∃ id B, thp c s id = some B ∧ κ id = some q) → ∃ B2, (∀ id B, thp c s id = some B → κ id = some q → ∀ h2 : AH, h2 q = some B2 → BR P κ ln ahN h2 s.n id B) ∧ BlkAt w O (muP p μ) n q B2 := fun q ⟨id, B, hB, hk⟩ => by
    obtain ⟨B2, g1, g2⟩ := conv_blk hs.hr hz (R.blk id B hB) hk (p1 hB hk)
    refine ⟨B2, fun id' B' hB' hk' h2 hh => ?_, g2⟩
    have := R.inj id' id B' B q hB' hB hk' hk
    subst this
    rw [hB] at hB'; cases hB'
    exact g1 h2 hh
  open Classical in
  let h2 : AH := fun q => if hq : ∃ id B, thp c s id = some B ∧ κ id = some q then some (Classical.choose (hb q hq)) else none
  have h2s : ∀ q, (hq : ∃ id B, thp c s id = some B ∧ κ id = some q) → h2 q = some (Classical.choose (hb q hq)) := fun q hq => dif_pos hq
  have h2n : ∀ q B, h2 q = some B → ∃ hq : (∃ id B, thp c s id = some B ∧ κ id = some q), B = Classical.choose (hb q hq) := fun q B hB => by
    by_cases hq : ∃ id B, thp c s id = some B ∧ κ id = some q
    · rw [h2s q hq] at hB; exact ⟨hq, (Option.some.inj hB).symm⟩
    · have : h2 q = none := dif_neg hq
      rw [this] at hB; cases hB
  refine ⟨muP p μ, ks.map fun k => (k, f k), h2, ⟨fun x => ?_, fun id B hB => ?_, R.lt, R.inj, fun q B hq => (by cases hq), fun _ _ _ _ _ => rfl, R.bnd, fun q hq => ?_, R.e0, R.g, fun _ => rfl, fun q k T es hq => (by cases hq)⟩, ⟨⟨hs.hr.olt, fun id b k e => hs.hr.scope id b k (muP_some e).2, fun id id' b k k' e e' => hs.hr.inj id id' b k k' (muP_some e).2 (muP_some e').2, fun id b k e => hs.hr.notO id b k (muP_some e).2, fun q B hB => ?_⟩, hs.size, hs.defers, fun x => ?_⟩, ?_⟩
  · rw [lk_map]
    split
    · exact f1 x
    · rename_i hx
      rw [show tlk c { s with dy := false } x = .un from hks x (by simpa using hx)]
      exact .un _
  · cases hk : κ id with
    | none =>
      have hbr := R.blk id B hB
      cases hbr with
      | bx _ _ q as hq => rw [hk] at hq; cases hq
      | el _ _ _ q cs hd hq => rw [hk] at hq; cases hq
      | sl0 T t l hd hq hl hn => exact .sl0 T t l hd hq hl hn
      | sl _ _ _ q cs hd hq => rw [hk] at hq; cases hq
      | mp _ _ _ q _ _ _ hq => rw [hk] at hq; cases hq
    | some q =>
      have hq : ∃ id B, thp c s id = some B ∧ κ id = some q := ⟨id, B, hB, hk⟩
      exact (Classical.choose_spec (hb q hq)).1 id B hB hk h2 (h2s q hq)
  · cases hh : h2 q with
    | none => rfl
    | some B =>
      obtain ⟨⟨id, B', hB, hk⟩, _⟩ := h2n q B hh
      have := R.bnd id B' q hB hk
      omega
  · obtain ⟨hq, rfl⟩ := h2n q B hB
    exact (Classical.choose_spec (hb q hq)).2
  · show VR w O (muP p μ) n (lk _ x) _
    rw [lk_map]
    split
    · exact f2 x
    · exact .un _
  · exact ⟨rfl, rfl, rfl, Nat.le_refl _, Nat.le_refl _, fun _ _ _ => rfl, fun b c T f hb => ⟨c, hb, rfl⟩, fun i _ => by unfold muP; split <;> simp, fun i b k e hn => absurd (hs.hr.scope i b k (muP_some e).2).1 (Nat.not_lt.2 hn)⟩

theorem SatL.wk {D : List Deferred} {O : Nat → Prop} {cd : Code} {cs : List Code} {Q : Exit → St → Prop} (R : Rel P κ ln z c s env h n) (hk : ∀ env2 h2, Rel P κ ln ahN c { s with dy := false } env2 h2 n → SatL P N D O (cd :: cs) Q ⟨env2, h2, n⟩) : SatL P N D O (cd :: cs) Q ⟨env, h, n⟩ := by
  intro μ a w hs
  obtain ⟨μ', env2, h2, R2, hs2, he⟩ := R.wk hs
  refine wp_mono (hk env2 h2 R2 μ' a w hs2) ?_
  rintro e a' w' ⟨st', μ2, q, r, ev⟩
  exact ⟨st', μ2, q, r, he.trans ev⟩

/-! contexts -/
structure CxWf (c : Cx sem) : Prop where
  e0 : ∀ x v, (x, v) ∈ c.e0 → alk c.e0 x = some v
  g : ∀ x B, (x, B) ∈ c.g → alk c.g x = some B
theorem Rel.has_lt (R : Rel P κ ln z c s env h n) (W : CxWf c) {id : Nat} (hi : c.has id = true) : id < s.n := by
  unfold Cx.has at hi
  simp only [Bool.or_eq_true, List.any_eq_true] at hi
  rcases hi with (hi | ⟨⟨x, v⟩, hx, hv⟩) | ⟨⟨x, B⟩, hx, hv⟩
  · obtain ⟨B, hB⟩ := Option.isSome_iff_exists.1 hi
    exact R.lt id B (R.g_thp hB)
  · have h1 := W.e0 x v hx
    have := R.env x
    rw [R.e0_tlk h1] at this
    exact this.has_lt id hv
  · have h1 := W.g x B hx
    exact (R.blk x B (R.g_thp h1)).has_lt id hv

theorem alk_mapk {α : Type} (f : Nat → α) : ∀ (l : List Nat) (x : Nat), alk (l.map fun k => (k, f k)) x = if l.contains x then some (f x) else none
  | [], x => rfl
  | k :: l, x => by
    simp only [List.map_cons, alk, List.contains_cons]
    by_cases hx : x = k
    · subst hx; simp
    · rw [if_neg hx, alk_mapk f l x]
      have : (x == k) = false := by simpa using hx
      rw [this, Bool.false_or]
theorem alk_fmap {α : Type} (f : Nat → Option α) : ∀ (l : List Nat) (x : Nat), alk (l.filterMap fun k => (f k).map fun b => (k, b)) x = if l.contains x then f x else none
  | [], x => rfl
  | k :: l, x => by
    have ih := alk_fmap f l x
    rw [List.filterMap_cons, List.contains_cons]
    cases hk : f k with
    | none =>
      simp only [Option.map_none]
      rw [ih]
      by_cases hx : x = k
      · subst hx; simp [hk]
      · have : (x == k) = false := by simpa using hx
        rw [this, Bool.false_or]
    | some b =>
      simp only [Option.map_some, alk]
      by_cases hx : x = k
      · subst hx; simp [hk]
      · have : (x == k) = false := by simpa using hx
        rw [if_neg hx, ih, this, Bool.false_or]
theorem alk_filter {α : Type} (f : Nat → Bool) : ∀ (l : List (Nat × α)) (x : Nat), alk (l.filter fun y => f y.1) x = if f x then alk l x else none
  | [], x => by simp [alk]
  | (k, v) :: l, x => by
    have ih := alk_filter f l x
    rw [List.filter_cons]
    by_cases hk : f k = true
    · rw [if_pos hk]
      simp only [alk]
      by_cases hx : x = k
      · subst hx; simp [hk]
      · rw [if_neg hx, if_neg hx, ih]
    · rw [if_neg hk, ih]
      simp only [alk]
      by_cases hx : x = k
      · subst hx; simp [hk]
      · rw [if_neg hx]
end
end Go.Abs

/- The typed machine is sound, last part: code, and functions. -/
set_option linter.unusedSimpArgs false
set_option linter.unusedVariables false
set_option linter.constructorNameAsVariable false
namespace Go.Abs
open Go Go.RowKit

section
variable {P : Program} {κ κ' : Nat → Option Nat} {ln ln' : Nat → Nat} {z z' : AH} {c : Cx sem} {s : TS sem} {env : Env} {h h' : AH} {n n' N N' : Nat}

theorem okLa_spec {l : La} (hk : okLa l c s = true) : (∀ x ∈ l.keep, alk c.e0 x = none) ∧ (∀ id ∈ l.gids, ∃ B, alk s.hp id = some (some B)) ∧
    (∀ x ∈ l.head.env, alk c.e0 x.1 = none ∧ x.1 ∉ l.keep) ∧ (∀ x ∈ l.head.hp, alk c.g x.1 = none ∧ x.1 ∉ l.gids ∧ x.1 < s.n) ∧ (∀ x ∈ l.out.env, alk c.e0 x.1 = none ∧ x.1 ∉ l.keep) ∧ (∀ x ∈ l.out.hp, alk c.g x.1 = none ∧ x.1 ∉ l.gids ∧ x.1 < l.n) ∧ s.n ≤ l.n := by
  unfold okLa okP at hk
  simp only [Bool.and_eq_true, List.all_eq_true, Option.isNone_iff_eq_none, Bool.not_eq_true', decide_eq_true_eq] at hk
  obtain ⟨⟨⟨⟨h1, h2⟩, ⟨h3, h4⟩⟩, ⟨h5, h6⟩⟩, h7⟩ := hk
  refine ⟨h1, fun id hi => ?_, fun x hx => ⟨(h3 x hx).1, by simpa using (h3 x hx).2⟩, fun x hx => ⟨(h4 x hx).1.1, by simpa using (h4 x hx).1.2, (h4 x hx).2⟩, fun x hx => ⟨(h5 x hx).1, by simpa using (h5 x hx).2⟩, fun x hx => ⟨(h6 x hx).1.1, by simpa using (h6 x hx).1.2, (h6 x hx).2⟩, h7⟩
  have := h2 id hi
  cases ho : ownB s id with
  | none => rw [ho] at this; cases this
  | some B => exact ⟨B, own_def ho⟩
theorem ownB_of {id : Nat} {B : TB sem} (h : alk s.hp id = some (some B)) : ownB s id = some B := by unfold ownB; rw [h]

theorem inCx_e0 (l : La) (x : Nat) : alk (inCx l c s).e0 x = if l.keep.contains x then some (tlk c s x) else alk c.e0 x := by
  simp only [inCx, alk_append, alk_mapk]
  split <;> rename_i hx <;> split at hx <;> simp_all
theorem inCx_g (l : La) (hg : ∀ id ∈ l.gids, ∃ B, alk s.hp id = some (some B)) (x : Nat) : alk (inCx l c s).g x = if l.gids.contains x then ownB s x else alk c.g x := by
  simp only [inCx, alk_append, alk_fmap]
  split
  · rename_i v hx
    split at hx
    · rename_i hc; rw [if_pos hc, hx]
    · cases hx
  · rename_i hx
    split at hx
    · rename_i hc
      obtain ⟨B, hB⟩ := hg x (by simpa using hc)
      rw [ownB_of hB] at hx; cases hx
    · rename_i hc; rw [if_neg hc]
theorem inCx_wf (R : Rel P κ ln z c s env h n) (W : CxWf c) {l : La} (hk : okLa l c s = true) : CxWf (inCx l c s) := by
  obtain ⟨k1, k2, _⟩ := okLa_spec hk
  refine ⟨fun x v hx => ?_, fun x B hx => ?_⟩
  · rw [inCx_e0]
    simp only [inCx, List.mem_append, List.mem_map] at hx
    rcases hx with ⟨y, hy, he⟩ | hx
    · cases he; rw [if_pos (by simpa using hy)]
    · have := W.e0 x v hx
      rw [if_neg]; · exact this
      intro hc
      rw [k1 x (by simpa using hc)] at this; cases this
  · rw [inCx_g l k2]
    simp only [inCx, List.mem_append, List.mem_filterMap, Option.map_eq_some_iff] at hx
    rcases hx with ⟨y, hy, B', hB', he⟩ | hx
    · cases he; rw [if_pos (by simpa using hy)]; exact hB'
    · have := W.g x B hx
      rw [if_neg]; · exact this
      intro hc
      obtain ⟨B', hB'⟩ := k2 x (by simpa using hc)
      rw [R.g x _ hB'] at this; cases this

/-- into the context of a loop or a join -/
theorem Rel.into (R : Rel P κ ln z c s env h n) {l : La} (hk : okLa l c s = true) : Rel P κ ln z (inCx l c s) ⟨s.env.filter (fun x => !l.keep.contains x.1), s.hp.filter (fun x => !l.gids.contains x.1), s.n, s.dy⟩ env h n := by
  obtain ⟨k1, k2, _⟩ := okLa_spec hk
  have htl : ∀ x, tlk (inCx l c s) ⟨s.env.filter (fun x => !l.keep.contains x.1), s.hp.filter (fun x => !l.gids.contains x.1), s.n, s.dy⟩ x = tlk c s x := fun x => by
    unfold tlk
    have ef : alk (s.env.filter fun x => !l.keep.contains x.1) x = if (!l.keep.contains x) then alk s.env x else none := alk_filter (fun k => !l.keep.contains k) s.env x
    rw [inCx_e0, ef]
    by_cases hc : l.keep.contains x = true
    · simp only [hc, Bool.not_true, Bool.false_eq_true, if_false, if_true, Option.getD_some]; rfl
    · simp only [hc, Bool.not_false, if_true, if_false]
      rw [Bool.not_eq_true] at hc; simp only [hc, Bool.not_false, if_true, Bool.false_eq_true, if_false]
  have hth : ∀ id B, thp (inCx l c s) ⟨s.env.filter (fun x => !l.keep.contains x.1), s.hp.filter (fun x => !l.gids.contains x.1), s.n, s.dy⟩ id = some B → thp c s id = some B := fun id B hB => by
    unfold thp at hB ⊢
    have ef : alk (s.hp.filter fun x => !l.gids.contains x.1) id = if (!l.gids.contains id) then alk s.hp id else none := alk_filter (fun k => !l.gids.contains k) s.hp id
    rw [inCx_g l k2, ef] at hB
    by_cases hc : l.gids.contains id = true
    · simp only [hc, Bool.not_true, Bool.false_eq_true, if_false, if_true] at hB
      rw [own_def hB]
    · rw [Bool.not_eq_true] at hc
      simp only [hc, Bool.not_false, if_true, Bool.false_eq_true, if_false] at hB
      exact hB
  refine ⟨fun x => by rw [htl]; exact R.env x, fun id B hB => R.blk id B (hth id B hB), fun id B hB => R.lt id B (hth id B hB), fun i j B B' q hi hj => R.inj i j B B' q (hth _ _ hi) (hth _ _ hj), R.zin, fun id B q hB => R.zout id B q (hth _ _ hB), fun id B q hB => R.bnd id B q (hth _ _ hB), R.hn, fun x v hx => ?_, fun id b hb => ?_, R.dy, R.zk⟩
  · have ef : alk (s.env.filter fun x => !l.keep.contains x.1) x = if (!l.keep.contains x) then alk s.env x else none := alk_filter (fun k => !l.keep.contains k) s.env x
    rw [ef] at hx
    rw [inCx_e0]
    split at hx
    · rename_i hc
      rw [if_neg (by simpa using hc)]; exact R.e0 x v hx
    · cases hx
  · have ef : alk (s.hp.filter fun x => !l.gids.contains x.1) id = if (!l.gids.contains id) then alk s.hp id else none := alk_filter (fun k => !l.gids.contains k) s.hp id
    rw [ef] at hb
    rw [inCx_g l k2]
    split at hb
    · rename_i hc
      rw [if_neg (by simpa using hc)]; exact R.g id b hb
    · cases hb

theorem unE_keys : ∀ (l : List (Nat × PV)) (xs : List ((t : Ty) × t.den)) (y : Nat), (alk (unE (A := sem) l xs).1 y).isSome = (alk l y).isSome
  | [], xs, y => rfl
  | (k, v) :: l, xs, y => by
    simp only [unE, alk]
    split
    · rfl
    · exact unE_keys l _ y
theorem unH_keys : ∀ (l : List (Nat × PB)) (xs : List ((t : Ty) × t.den)) (y : Nat), (alk (unH (A := sem) l xs).1 y).isSome = (alk l y).isSome
  | [], xs, y => rfl
  | (k, v) :: l, xs, y => by
    simp only [unH, alk]
    split
    · rfl
    · exact unH_keys l _ y
theorem env_key {p : Pat} {N : Nat} {x : p.ty.den} {y : Nat} {v : TV sem} (hy : alk (unpack (A := sem) p N x).env y = some v) : ∃ pv, (y, pv) ∈ p.env := by
  have h1 := unE_keys p.env (unT sem p.tys x) y
  have : alk (unE (A := sem) p.env (unT sem p.tys x)).1 y = some v := hy
  rw [this] at h1
  obtain ⟨pv, hpv⟩ := Option.isSome_iff_exists.1 h1.symm
  exact ⟨pv, alk_mem hpv⟩
theorem hp_key {p : Pat} {N : Nat} {x : p.ty.den} {y : Nat} {b : Option (TB sem)} (hy : alk (unpack (A := sem) p N x).hp y = some b) : ∃ pb, (y, pb) ∈ p.hp := by
  have h1 := unH_keys p.hp (unE (A := sem) p.env (unT sem p.tys x)).2 y
  have : alk (unH (A := sem) p.hp (unE (A := sem) p.env (unT sem p.tys x)).2).1 y = some b := hy
  rw [this] at h1
  obtain ⟨pv, hpv⟩ := Option.isSome_iff_exists.1 h1.symm
  exact ⟨pv, alk_mem hpv⟩

/-- at the head of a loop -/
theorem head_rel {l : La} {s1 : TS sem} (hk : okLa l c s = true) (hc : ∀ id, (inCx l c s).has id = true → id < s.n) (R : Rel P κ ln z (inCx l c s) s1 env h n) {x : l.head.ty.den} (hp : pack (inCx l c s) s.n l.head s1 = some x) :
    ∃ κ2 ln2 z2, Rel P κ2 ln2 z2 (inCx l c s) (unpack l.head s.n x) env h n ∧ ∀ id, (inCx l c s).has id = true → κ2 id = κ id ∧ ln2 id = ln id := by
  obtain ⟨k1, k2, k3, k4, _⟩ := okLa_spec hk
  refine pack_rel R hc hp _ _ (Nat.le_refl _) (fun y => .inl (by unfold tlk; cases alk (unpack (A := sem) l.head s.n x).env y <;> rfl)) (fun id B hB => ?_) (fun y v hy => ?_) (fun id b hb => ?_) rfl
  · unfold thp at hB
    cases hh : alk (unpack (A := sem) l.head s.n x).hp id with
    | some b => rw [hh] at hB; exact .inl (by rw [← hB])
    | none => rw [hh] at hB; exact .inr hB
  · obtain ⟨pv, hpv⟩ := env_key hy
    obtain ⟨g1, g2⟩ := k3 _ hpv
    rw [inCx_e0, if_neg (by simpa using g2)]; exact g1
  · obtain ⟨pb, hpb⟩ := hp_key hb
    obtain ⟨g1, g2, g3⟩ := k4 _ hpb
    rw [inCx_g l k2, if_neg (by simpa using g2)]; exact g1
/-- behind a loop or a join -/
theorem out_rel {l : La} {s1 : TS sem} {κ0 : Nat → Option Nat} {ln0 : Nat → Nat} {z0 : AH} {env0 : Env} {h0 : AH} {n0 : Nat} (R0 : Rel P κ0 ln0 z0 c s env0 h0 n0) (hk : okLa l c s = true) (hc : ∀ id, (inCx l c s).has id = true → id < l.n) (R : Rel P κ ln z (inCx l c s) s1 env h n) {x : l.out.ty.den} (hp : pack (inCx l c s) l.n l.out s1 = some x) :
    ∃ κ2 ln2 z2, Rel P κ2 ln2 z2 c (outTS l c s x) env h n ∧ ∀ id, (inCx l c s).has id = true → κ2 id = κ id ∧ ln2 id = ln id := by
  obtain ⟨k1, k2, _, _, k5, k6, k7⟩ := okLa_spec hk
  have henv : ∀ y, alk (outTS l c s x).env y = match alk (unpack (A := sem) l.out l.n x).env y with | some v => some v | none => if l.keep.contains y then some (tlk c s y) else none := fun y => by
    show alk ((unpack (A := sem) l.out l.n x).env ++ l.keep.map fun x => (x, tlk c s x)) y = _
    rw [alk_append, alk_mapk]
    cases alk (unpack (A := sem) l.out l.n x).env y <;> rfl
  have hhp : ∀ y, alk (outTS l c s x).hp y = match alk (unpack (A := sem) l.out l.n x).hp y with | some v => some v | none => if l.gids.contains y then (ownB s y).map some else none := fun y => by
    show alk ((unpack (A := sem) l.out l.n x).hp ++ l.gids.filterMap fun id => (ownB s id).map fun b => (id, some b)) y = _
    have : (l.gids.filterMap fun id => (ownB s id).map fun b => (id, some b)) = l.gids.filterMap fun id => (((ownB s id).map some).map fun b => (id, b)) := by
      congr; funext id; cases ownB s id <;> rfl
    rw [this, alk_append, alk_fmap (fun id => (ownB s id).map some)]
    cases alk (unpack (A := sem) l.out l.n x).hp y <;> rfl
  refine pack_rel R hc hp c _ (Nat.le_refl _) (fun y => ?_) (fun id B hB => ?_) (fun y v hy => ?_) (fun id b hb => ?_) rfl
  · left
    unfold tlk
    rw [henv]
    cases hy : alk (unpack (A := sem) l.out l.n x).env y with
    | some v => rfl
    | none =>
      simp only
      rw [inCx_e0]
      by_cases hkp : l.keep.contains y = true
      · rw [if_pos hkp, if_pos hkp]; rfl
      · rw [if_neg hkp, if_neg hkp]
  · unfold thp at hB
    rw [hhp] at hB
    cases hy : alk (unpack (A := sem) l.out l.n x).hp id with
    | some b => rw [hy] at hB; exact .inl (by rw [← hB])
    | none =>
      rw [hy] at hB
      simp only at hB
      right
      rw [inCx_g l k2]
      by_cases hkp : l.gids.contains id = true
      · rw [if_pos hkp] at hB ⊢
        obtain ⟨B', hB'⟩ := k2 id (by simpa using hkp)
        rw [ownB_of hB'] at hB ⊢
        exact hB
      · rw [if_neg hkp] at hB ⊢; exact hB
  · rw [henv] at hy
    cases hu : alk (unpack (A := sem) l.out l.n x).env y with
    | some w =>
      obtain ⟨pv, hpv⟩ := env_key hu
      exact (k5 _ hpv).1
    | none =>
      rw [hu] at hy
      simp only at hy
      split at hy
      · rename_i hkp; exact k1 y (by simpa using hkp)
      · cases hy
  · rw [hhp] at hb
    cases hu : alk (unpack (A := sem) l.out l.n x).hp id with
    | some w =>
      obtain ⟨pb, hpb⟩ := hp_key hu
      exact (k6 _ hpb).1
    | none =>
      rw [hu] at hb
      simp only at hb
      split at hb
      · rename_i hkp
        obtain ⟨B', hB'⟩ := k2 id (by simpa using hkp)
        exact R0.g id _ hB'
      · cases hb
end
end Go.Abs
