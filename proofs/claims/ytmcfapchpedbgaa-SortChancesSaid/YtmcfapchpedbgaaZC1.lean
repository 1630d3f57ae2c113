/- Calls of functions that only read, in a walk; frozen data. -/
import Derived.Test.YtmcfapchpedbgaaZB7
set_option linter.unusedSimpArgs false
set_option linter.unusedVariables false
namespace Go.Abs
open Go Go.RowKit

def FreeL (l : List AV) : Prop := ∀ c ∈ l, Free c
@[simp] theorem FreeL_nil : FreeL [] ↔ True := by simp [FreeL]
@[simp] theorem FreeL_cons (a : AV) (l : List AV) : FreeL (a :: l) ↔ Free a ∧ FreeL l := by simp [FreeL]
@[simp] theorem FreeL_append (a l : List AV) : FreeL (a ++ l) ↔ FreeL a ∧ FreeL l := by
  simp only [FreeL, List.mem_append]
  exact ⟨fun h => ⟨fun c hc => h c (.inl hc), fun c hc => h c (.inr hc)⟩, fun h c hc => hc.elim (h.1 c) (h.2 c)⟩
theorem FreeL.at {l : List AV} (h : FreeL l) (j : Nat) (c : AV) (hj : l[j]? = some c) : Free c := h c (List.mem_of_getElem? hj)
theorem FreeL.of_at {l : List AV} (h : ∀ (j : Nat) (c : AV), l[j]? = some c → Free c) : FreeL l := fun c hc => by
  obtain ⟨j, hj, e⟩ := List.mem_iff_getElem.1 hc
  exact h j c (by rw [List.getElem?_eq_getElem hj, e])
@[simp] theorem Free_sc (v : Value) : Free (.sc v) ↔ True := ⟨fun _ => trivial, fun _ => .sc v⟩
@[simp] theorem Free_ud : Free .ud ↔ True := ⟨fun _ => trivial, fun _ => .ud⟩
@[simp] theorem Free_e0 : Free .e0 ↔ True := ⟨fun _ => trivial, fun _ => .e0⟩
@[simp] theorem Free_fp (cs : List AV) : Free (.fp cs) ↔ FreeL cs := ⟨fun h => by cases h with | fp _ h => exact FreeL.of_at h, fun h => .fp cs h.at⟩
@[simp] theorem Free_ag (cs : List AV) : Free (.ag cs) ↔ FreeL cs := ⟨fun h => by cases h with | ag _ h => exact FreeL.of_at h, fun h => .ag cs h.at⟩
@[simp] theorem Free_tp (cs : List AV) : Free (.tp cs) ↔ FreeL cs := ⟨fun h => by cases h with | tp _ h => exact FreeL.of_at h, fun h => .tp cs h.at⟩
@[simp] theorem Free_fn (f : FuncId) (cs : List AV) : Free (.fn f cs) ↔ FreeL cs := ⟨fun h => by cases h with | fn _ _ h => exact FreeL.of_at h, fun h => .fn f cs h.at⟩
@[simp] theorem Free_sl (es : List (List AV)) : Free (.sl es) ↔ ∀ e ∈ es, FreeL e := by
  refine ⟨fun h => ?_, fun h => .sl es fun i e hi => (h e (List.mem_of_getElem? hi)).at⟩
  cases h with
  | sl _ h =>
    intro e he
    obtain ⟨j, hj, e1⟩ := List.mem_iff_getElem.1 he
    exact FreeL.of_at (h j e (by rw [List.getElem?_eq_getElem hj, e1]))

section
variable {P : Program}

theorem PC.call {f : FuncId} {args : List AV} {R : AV → Prop} {h : AH} {n : Nat} {K : K3} (hc : PC P f args R) (hf : FreeL args) (hk : ∀ v, R v → K v h n) : HC P f args h n K :=
  (hc.free hf.at h n).mono fun _ _ _ ⟨h1, h2, h3⟩ => h2 ▸ h3 ▸ hk _ h1

/-- a call whose result is known -/
theorem PC.call1 {f : FuncId} {args : List AV} {r : AV} {h : AH} {n : Nat} {K : K3} (hc : PC P f args (· = r)) (hf : FreeL args) (hk : K r h n) : HC P f args h n K :=
  hc.call hf fun _ e => e ▸ hk

theorem PC.of_body {f : FuncId} {fn : Func} {c : Code} {args : List AV} {R : AV → Prop} (hf : P.funcs[f]? = some fn) (hb : fn.body = some c) (hname : (fn.name == "runtime.NumGoroutine") = false) (hargs : args.length ≤ fn.ntmps)
    (hsat : ∀ O, SatL P fn.ntmps [] O [c] (fnQ P fn.results.toList (fun v h _ => ∃ v', Snap h v v' ∧ R v')) ⟨enterEnv args, ah0, 0⟩) : PC P f args R :=
  PC.of_HC (HC.of_body hf hb hname hargs fun O => Sat.ofL (hsat O))

theorem fnQ_freeN {rs : List ResultVar} {R : AV → Prop} {st : St} (v : AV) (hv : aresults P st.h st.env rs = some v) (hf : Free v) (hr : R v) : fnQ P rs (fun v h _ => ∃ v', Snap h v v' ∧ R v') .normal st :=
  ⟨v, hv, v, .free v hf, hr⟩

theorem fnQ_free {rs : List ResultVar} {R : AV → Prop} {st : St} (v : AV) (hv : aresults P st.h st.env rs = some v) (hf : Free v) (hr : R v) : fnQ P rs (fun v h _ => ∃ v', Snap h v v' ∧ R v') .ret st :=
  ⟨v, hv, v, .free v hf, hr⟩

end

theorem updH_self (h : AH) (id : Nat) (B : ABlk) : updH h id B id = some B := by simp [updH]
theorem updH_ne {h : AH} {id id' : Nat} {B : ABlk} {x : Option ABlk} (hne : id' ≠ id) (hx : h id' = x) : updH h id B id' = x := by simp only [updH, if_neg hne]; exact hx
inductive SnapL (h : AH) : List AV → List AV → Prop
  | nil : SnapL h [] []
  | cons {a a' : AV} {l l' : List AV} (h1 : Snap h a a') (h2 : SnapL h l l') : SnapL h (a :: l) (a' :: l')
theorem SnapL.len {h : AH} {l l' : List AV} (hs : SnapL h l l') : l'.length = l.length := by induction hs <;> simp [*]
theorem SnapL.at {h : AH} {l l' : List AV} (hs : SnapL h l l') : ∀ (j : Nat) (c c' : AV), l[j]? = some c → l'[j]? = some c' → Snap h c c' := by
  induction hs with
  | nil => intro j c c' hj; simp at hj
  | cons h1 h2 ih =>
    intro j c c' hj hj'
    cases j with
    | zero => simp at hj hj'; subst hj; subst hj'; exact h1
    | succ j => exact ih j c c' (by simpa using hj) (by simpa using hj')
theorem SnapL.free {h : AH} : ∀ {l : List AV}, FreeL l → SnapL h l l
  | [], _ => .nil
  | a :: l, hf => .cons (.free a ((FreeL_cons a l).1 hf).1) (SnapL.free ((FreeL_cons a l).1 hf).2)
theorem Snap.ownL {h : AH} {id i j k : Nat} {T : TypeId} {es : List (List AV)} {e cs : List AV} (hB : h id = some (.cells k T es)) (he : es[i]? = some e) (hs : SnapL h (e.drop j) cs) : Snap h (.own id i j) (.fp cs) :=
  .own id i j k T es e cs hB he hs.len hs.at
theorem Snap.fnL {h : AH} {f : FuncId} {cs cs' : List AV} (hs : SnapL h cs cs') : Snap h (.fn f cs) (.fn f cs') := .fn f cs cs' hs.len hs.at
theorem Snap.agL {h : AH} {cs cs' : List AV} (hs : SnapL h cs cs') : Snap h (.ag cs) (.ag cs') := .ag cs cs' hs.len hs.at
theorem Snap.tpL {h : AH} {cs cs' : List AV} (hs : SnapL h cs cs') : Snap h (.tp cs) (.tp cs') := .tp cs cs' hs.len hs.at
theorem Snap.fpL {h : AH} {cs cs' : List AV} (hs : SnapL h cs cs') : Snap h (.fp cs) (.fp cs') := .fp cs cs' hs.len hs.at
/-- a made slice whose elements are free -/
theorem Snap.msF {h : AH} {id off len k : Nat} {T : TypeId} {es es' : List (List AV)} (hB : h id = some (.cells k T es)) (he : es' = (es.drop off).take len) (hl : off + len ≤ es.length) (hf : ∀ e ∈ es', FreeL e) : Snap h (.ms id off len) (.sl es') := by
  subst he
  have sub : ∀ (q : Nat) (e e' : List AV), es[off + q]? = some e → ((es.drop off).take len)[q]? = some e' → e' = e := fun q e e' h1 h2 => by
    rw [List.getElem?_take] at h2
    split at h2
    · rw [List.getElem?_drop, h1] at h2; exact (Option.some.inj h2).symm
    · cases h2
  refine .ms id off len k T es _ hB hl (by simp; omega) (fun q e e' h1 h2 => by rw [sub q e e' h1 h2]) (fun q e e' h1 h2 p c c' h3 h4 => ?_)
  have := sub q e e' h1 h2
  subst this
  rw [h3] at h4; cases h4
  exact .free c ((hf _ (List.mem_of_getElem? h2)).at p c h3)

def FlatL (l : List AV) : Prop := ∀ c ∈ l, Flat c
@[simp] theorem FlatL_nil : FlatL [] ↔ True := by simp [FlatL]
@[simp] theorem FlatL_cons (a : AV) (l : List AV) : FlatL (a :: l) ↔ Flat a ∧ FlatL l := by simp [FlatL]
@[simp] theorem Flat_sc (v : Value) : Flat (.sc v) ↔ True := ⟨fun _ => trivial, fun _ => .sc v⟩
theorem FlatL.at {l : List AV} (h : FlatL l) (j : Nat) (c : AV) (hj : l[j]? = some c) : Flat c := h c (List.mem_of_getElem? hj)
@[simp] theorem Flat_ag (cs : List AV) : Flat (.ag cs) ↔ FlatL cs := ⟨fun h => by
  cases h with
  | ag _ h =>
    intro c hc
    obtain ⟨j, hj, e⟩ := List.mem_iff_getElem.1 hc
    exact h j c (by rw [List.getElem?_eq_getElem hj, e]), fun h => .ag cs h.at⟩
@[simp] theorem Flat_tp (cs : List AV) : Flat (.tp cs) ↔ FlatL cs := ⟨fun h => by
  cases h with
  | tp _ h =>
    intro c hc
    obtain ⟨j, hj, e⟩ := List.mem_iff_getElem.1 hc
    exact h j c (by rw [List.getElem?_eq_getElem hj, e]), fun h => .tp cs h.at⟩

section
variable {P : Program}
theorem PC.lend {f : FuncId} {args args' : List AV} {R : AV → Prop} {h : AH} {n : Nat} {K : K3} (hs : SnapL h args args') (hc : PC P f args' R) (hf : ∀ v, R v → Flat v) (hk : ∀ v, R v → K v h n) : HC P f args h n K :=
  (hc.lent h n hs.len hs.at hf).mono fun _ _ _ ⟨h1, h2, h3⟩ => h2 ▸ h3 ▸ hk _ h1
theorem PC.lend1 {f : FuncId} {args args' : List AV} {r : AV} {h : AH} {n : Nat} {K : K3} (hs : SnapL h args args') (hc : PC P f args' (· = r)) (hf : Flat r) (hk : K r h n) : HC P f args h n K :=
  hc.lend hs (fun _ e => e ▸ hf) fun _ e => e ▸ hk
end

/-- integers in a frozen slice -/
def int1 (n : Int) : List AV := [int n]
abbrev ints (l : List Int) : AV := .sl (l.map int1)
@[simp] theorem FreeL_int1 (n : Int) : FreeL (int1 n) ↔ True := by simp [int1]
@[simp] theorem int1_length (n : Int) : (int1 n).length = 1 := rfl
@[simp] theorem int1_0 (n : Int) : (int1 n)[0]? = some (int n) := rfl
@[simp] theorem int1_nil (n : Int) : int1 n = [] ↔ False := by simp [int1]
attribute [simp] aop
end Go.Abs
