/- From what a row reads of an argument to Lean values: how each shape is told. -/
import Derived.Test.YtmcfapchpedbgaaZE3
import Derived.Test.YtmcfapchpedbgaaZD2
set_option linter.unusedSimpArgs false
set_option linter.unusedVariables false
namespace Go.Abs
open Go

/-- whatever has the shape reads as such a value -/
def Dec {α : Type} (sh : Sh) (f : α → List AV) (ok : α → Prop) : Prop := ∀ as, Enc sh as → ∃ x, as = f x ∧ ok x
def okI (k : IntKind) (n : Int) : Prop := (Lit.int k n).wf = true
def okB (_ : Bool) : Prop := True
def okS (l : List UInt8) : Prop := l.length ≤ maxLen
def okL {α : Type} (ok : α → Prop) (l : List α) : Prop := l.length ≤ maxLen ∧ ∀ x ∈ l, ok x
theorem dec_i64 : Dec (.int .i64) int1 (okI .i64) := fun as h => by cases h with | int _ n h => exact ⟨n, rfl, h⟩
theorem dec_int (k : IntKind) : Dec (.int k) (ik1 k) (okI k) := fun as h => by cases h with | int _ n h => exact ⟨n, rfl, h⟩
theorem dec_bool : Dec .bool bool1 okB := fun as h => by cases h with | bool b => exact ⟨b, rfl, trivial⟩
theorem dec_str : Dec .str str1 okS := fun as h => by
  cases h with
  | str s h => exact ⟨s.data.toList, by simp, by simpa [okS] using h⟩
theorem dec_sl {α : Type} {e : Sh} {f : α → List AV} {ok : α → Prop} (h : Dec e f ok) : Dec (.sl e) (sl1 f) (okL ok) := fun as ha => by
  cases ha with
  | sl _ es he hl =>
    have : ∀ es : List (List AV), (∀ x ∈ es, Enc e x) → ∃ l : List α, es = l.map f ∧ ∀ x ∈ l, ok x := by
      intro es
      induction es with
      | nil => exact fun _ => ⟨[], rfl, fun x hx => by cases hx⟩
      | cons a es ih =>
        intro h2
        obtain ⟨x, rfl, ox⟩ := h a (h2 a (by simp))
        obtain ⟨l, rfl, ol⟩ := ih fun y hy => h2 y (by simp [hy])
        exact ⟨x :: l, rfl, fun y hy => by
          rcases List.mem_cons.1 hy with rfl | hy
          · exact ox
          · exact ol y hy⟩
    obtain ⟨l, rfl, ol⟩ := this es he
    exact ⟨l, rfl, by simpa using hl, ol⟩
theorem enc_nil {as : List AV} (h : Enc (.st []) as) : as = [] := by cases h; rfl
theorem enc_cons {s : Sh} {ss : List Sh} {bs : List AV} (h : Enc (.st (s :: ss)) bs) : ∃ a as, bs = a ++ as ∧ Enc s a ∧ Enc (.st ss) as := by
  cases h with
  | cons _ _ a as h1 h2 => exact ⟨a, as, rfl, h1, h2⟩
theorem encPs_nil {xs : List AV} (h : EncPs [] xs) : xs = [] := by cases xs with | nil => rfl | cons _ _ => exact h.elim
theorem encPs_cons {s : Sh} {ss : List Sh} {xs : List AV} (h : EncPs (s :: ss) xs) : ∃ a as, xs = a :: as ∧ EncP s a ∧ EncPs ss as := by
  cases xs with
  | nil => exact h.elim
  | cons a as => exact ⟨a, as, rfl, h.1, h.2⟩
theorem decP_st {α : Type} {fs : List Sh} {f : α → List AV} {ok : α → Prop} (h : Dec (.st fs) f ok) {a : AV} (ha : EncP (.st fs) a) : ∃ x, a = .ag (f x) ∧ ok x := by
  obtain ⟨as, rfl, he⟩ := ha
  obtain ⟨x, rfl, ox⟩ := h as he
  exact ⟨x, rfl, ox⟩
theorem decP_i64 {a : AV} (ha : EncP (.int .i64) a) : ∃ n, a = int n ∧ okI .i64 n := by
  obtain ⟨n, e, o⟩ := dec_i64 _ ha
  cases e; exact ⟨n, rfl, o⟩
theorem decP_int {k : IntKind} {a : AV} (ha : EncP (.int k) a) : ∃ n, a = .sc (.int k n) ∧ okI k n := by
  obtain ⟨n, e, o⟩ := dec_int k _ ha
  cases e; exact ⟨n, rfl, o⟩
theorem decP_bool {a : AV} (ha : EncP .bool a) : ∃ n, a = bool n ∧ okB n := by
  obtain ⟨n, e, o⟩ := dec_bool _ ha
  cases e; exact ⟨n, rfl, o⟩
theorem decP_str {a : AV} (ha : EncP .str a) : ∃ n, a = str n ∧ okS n := by
  obtain ⟨n, e, o⟩ := dec_str _ ha
  cases e; exact ⟨n, rfl, o⟩
theorem decP_sl {α : Type} {e : Sh} {f : α → List AV} {ok : α → Prop} (h : Dec e f ok) {a : AV} (ha : EncP (.sl e) a) : ∃ l, a = .sl (List.map f l) ∧ okL ok l := by
  obtain ⟨n, e, o⟩ := dec_sl h _ ha
  cases e; exact ⟨n, rfl, o⟩
theorem okI_i64 {n : Int} (h : okI .i64 n) : -9223372036854775808 ≤ n ∧ n ≤ 9223372036854775807 := by
  simp [okI, Lit.wf, IntKind.min, IntKind.max, IntKind.signed, IntKind.bits] at h
  omega
end Go.Abs
