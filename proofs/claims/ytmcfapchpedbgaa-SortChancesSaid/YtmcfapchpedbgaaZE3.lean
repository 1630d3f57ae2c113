/- Steps of regions whose order is drawn. -/
import Derived.Test.YtmcfapchpedbgaaZE2
set_option linter.unusedSimpArgs false
set_option linter.unusedVariables false
namespace Go.Abs
open Go Go.RowKit

section
variable {P : Program} {ds : List (Option Tmp)} {wc : List Nat} {rd : List (Nat × Nat)} {r : List Oper} {j : Nat} {env : Env} {h h' : AH} {n n' : Nat} {tr : List Rec} {K : St → Prop} {dst : Option Tmp} {d : Tmp} {op : Op} {ty : TypeId} {pos : String} {after : Array Edge} {o : Oper} {next : St → List Rec → Prop} {g : Option (Nat × Bool)}

theorem dd_end {st : St} (hr : recheck P tr rd) (hk : K st) : aopsDS P ds wc rd [] j st tr K := by rw [aopsDS_nil]; exact ⟨hr, hk⟩
theorem dd_step (hs : stepD P wc rd ⟨dst, op, ty, pos, after, none⟩ j env h n tr fun s t => aopsDS P ds wc rd r (j + 1) s t K) : aopsDS P ds wc rd (⟨dst, op, ty, pos, after, none⟩ :: r) j ⟨env, h, n⟩ tr K := by
  rw [aopsDS_cons]; exact hs
theorem dd_split {q : Nat} {want : Bool} {g : Tmp} (hd : slotOf ds q = some g) (b : Bool) (hl : lk env g = .sc (.bool b))
    (h1 : b = want → stepD P wc rd ⟨some d, op, ty, pos, after, some (q, want)⟩ j ((g, .sc (.bool want)) :: env) h n tr fun s t => aopsDS P ds wc rd r (j + 1) s t K)
    (h2 : b = !want → aopsDS P ds wc rd r (j + 1) ⟨(d, .ud) :: (g, .sc (.bool (!want))) :: env, h, n⟩ tr K) : aopsDS P ds wc rd (⟨some d, op, ty, pos, after, some (q, want)⟩ :: r) j ⟨env, h, n⟩ tr K := by
  rw [aopsDS_cons]
  simp only [hd, hl]
  exact ⟨h1, h2⟩
theorem dd_on {q : Nat} {want : Bool} {g : Tmp} (hd : slotOf ds q = some g) (hl : lk env g = .sc (.bool want))
    (h1 : stepD P wc rd ⟨some d, op, ty, pos, after, some (q, want)⟩ j ((g, .sc (.bool want)) :: env) h n tr fun s t => aopsDS P ds wc rd r (j + 1) s t K) : aopsDS P ds wc rd (⟨some d, op, ty, pos, after, some (q, want)⟩ :: r) j ⟨env, h, n⟩ tr K :=
  dd_split hd _ hl (fun _ => h1) fun e => absurd e (by cases want <;> decide)
theorem dd_off {q : Nat} {want : Bool} {g : Tmp} (hd : slotOf ds q = some g) (hl : lk env g = .sc (.bool (!want))) (h2 : aopsDS P ds wc rd r (j + 1) ⟨(d, .ud) :: (g, .sc (.bool (!want))) :: env, h, n⟩ tr K) : aopsDS P ds wc rd (⟨some d, op, ty, pos, after, some (q, want)⟩ :: r) j ⟨env, h, n⟩ tr K :=
  dd_split hd _ hl (fun e => absurd e (by cases want <;> decide)) fun _ => h2
theorem dd_ud {q : Nat} {want : Bool} {g : Tmp} (hd : slotOf ds q = some g) (hl : lk env g = .ud) (h2 : aopsDS P ds wc rd r (j + 1) ⟨(d, .ud) :: env, h, n⟩ tr K) : aopsDS P ds wc rd (⟨some d, op, ty, pos, after, some (q, want)⟩ :: r) j ⟨env, h, n⟩ tr K := by
  rw [aopsDS_cons]
  simp only [hd, hl]
  exact h2
theorem ds_r0 (v : AV) (hw : isW wc j ⟨dst, op, ty, pos, after, g⟩ = false) (hn : wants rd j = false) (hv : ∀ K' : K3, K' v h n → aop P env h n ⟨dst, op, ty, pos, after, g⟩ K') (hk : next ⟨putE env dst v, h, n⟩ tr) : stepD P wc rd ⟨dst, op, ty, pos, after, g⟩ j env h n tr next := by
  unfold stepD
  rw [if_neg (by rw [hw]; decide)]
  have : ∃ v, aop P env h n ⟨dst, op, ty, pos, after, g⟩ (fun a b c => a = v ∧ b = h ∧ c = n) ∧ next ⟨putE env dst v, h, n⟩ (if wants rd j = true then ⟨j, ⟨dst, op, ty, pos, after, g⟩, env, v, h, n, h, n⟩ :: tr else tr) :=
    ⟨v, hv _ ⟨rfl, rfl, rfl⟩, by rw [if_neg (by rw [hn]; decide)]; exact hk⟩
  split <;> exact this
theorem ds_r1 (v : AV) (hw : isW wc j ⟨dst, op, ty, pos, after, g⟩ = false) (hn : wants rd j = true) (hv : ∀ K' : K3, K' v h n → aop P env h n ⟨dst, op, ty, pos, after, g⟩ K') (hk : next ⟨putE env dst v, h, n⟩ (⟨j, ⟨dst, op, ty, pos, after, g⟩, env, v, h, n, h, n⟩ :: tr)) : stepD P wc rd ⟨dst, op, ty, pos, after, g⟩ j env h n tr next := by
  unfold stepD
  rw [if_neg (by rw [hw]; decide)]
  simp only [hn, if_true]
  have : ∃ v, aop P env h n ⟨dst, op, ty, pos, after, g⟩ (fun a b c => a = v ∧ b = h ∧ c = n) ∧ next ⟨putE env dst v, h, n⟩ (⟨j, ⟨dst, op, ty, pos, after, g⟩, env, v, h, n, h, n⟩ :: tr) :=
    ⟨v, hv _ ⟨rfl, rfl, rfl⟩, hk⟩
  split <;> exact this
theorem ds_w0 (v : AV) (h' : AH) (n' : Nat) (hw : isW wc j o = true) (hn : wants rd j = false) (hv : ∀ K' : K3, K' v h' n' → aop P env h n o K') (hk : next ⟨putE env o.dst v, h', n'⟩ tr) : stepD P wc rd o j env h n tr next := by
  unfold stepD
  rw [if_pos hw]
  exact ⟨v, h', n', hv _ ⟨rfl, rfl, rfl⟩, by rw [if_neg (by rw [hn]; decide)]; exact hk⟩
theorem ds_w1 (v : AV) (h' : AH) (n' : Nat) (hw : isW wc j o = true) (hn : wants rd j = true) (hv : ∀ K' : K3, K' v h' n' → aop P env h n o K') (hk : next ⟨putE env o.dst v, h', n'⟩ (⟨j, o, env, v, h, n, h', n'⟩ :: tr)) : stepD P wc rd o j env h n tr next := by
  unfold stepD
  rw [if_pos hw]
  exact ⟨v, h', n', hv _ ⟨rfl, rfl, rfl⟩, by rw [if_pos hn]; exact hk⟩

/-! records looked at twice -/
theorem rc_nil : recheck P tr [] := trivial
theorem rc_lt {x w : Nat} {a b : Rec} (ha : recOf tr x = some a) (hb : recOf tr w = some b) (hlt : w < x) (h : aop P a.env b.h b.n a.o (fun v h n => v = a.v ∧ h = b.h ∧ n = b.n)) (hr : recheck P tr rd) : recheck P tr ((x, w) :: rd) := by
  refine ⟨?_, hr⟩
  simp only [ha, hb]; rw [if_pos hlt]; exact h
theorem rc_ge {x w : Nat} {a b : Rec} (ha : recOf tr x = some a) (hb : recOf tr w = some b) (hge : ¬ w < x) (h : aop P a.env b.h' b.n' a.o (fun v h n => v = a.v ∧ h = b.h' ∧ n = b.n')) (hr : recheck P tr rd) : recheck P tr ((x, w) :: rd) := by
  refine ⟨?_, hr⟩
  simp only [ha, hb]; rw [if_neg hge]; exact h
theorem rc_off1 {x w : Nat} (ha : recOf tr x = none) (hr : recheck P tr rd) : recheck P tr ((x, w) :: rd) := by
  refine ⟨?_, hr⟩
  simp only [ha]
theorem rc_off2 {x w : Nat} (hb : recOf tr w = none) (hr : recheck P tr rd) : recheck P tr ((x, w) :: rd) := by
  refine ⟨?_, hr⟩
  simp only [hb]; split <;> first | trivial | (rename_i h; cases h)
end

section
variable {P : Program} {ds : List (Option Tmp)} {r : List Oper} {env : Env} {h h' : AH} {n n' : Nat} {K : St → Prop} {d : Tmp} {op : Op} {ty : TypeId} {pos : String} {after : Array Edge} {v : AV}
theorem st (hs : ∀ K' : K3, K' v h' n' → aop P env h n ⟨some d, op, ty, pos, after, none⟩ K') (hk : aopsS P ds r ⟨(d, v) :: env, h', n'⟩ K) : aopsS P ds (⟨some d, op, ty, pos, after, none⟩ :: r) ⟨env, h, n⟩ K :=
  aopsS_step fun _ hK => hs _ (hK _ _ _ hk)
theorem s0 (hs : ∀ K' : K3, K' v h' n' → aop P env h n ⟨none, op, ty, pos, after, none⟩ K') (hk : aopsS P ds r ⟨env, h', n'⟩ K) : aopsS P ds (⟨none, op, ty, pos, after, none⟩ :: r) ⟨env, h, n⟩ K :=
  aopsS_step0 fun _ hK => hs _ (hK _ _ _ hk)
theorem sg {j : Nat} {want : Bool} {g : Tmp} (hd : slotOf ds j = some g) (hl : lk env g = .sc (.bool want))
    (hs : ∀ K' : K3, K' v h' n' → aop P ((g, .sc (.bool want)) :: env) h n ⟨some d, op, ty, pos, after, some (j, want)⟩ K') (hk : aopsS P ds r ⟨(d, v) :: (g, .sc (.bool want)) :: env, h', n'⟩ K) : aopsS P ds (⟨some d, op, ty, pos, after, some (j, want)⟩ :: r) ⟨env, h, n⟩ K :=
  aopsS_on hd hl fun _ hK => hs _ (hK _ _ _ hk)
/-- behind a split -/
theorem sx {o : Oper} {F : AV → AH → Nat → Prop} (hs : ∀ K' : K3, K' v h' n' → aop P env h n o K') (hk : F v h' n') : ∀ K' : K3, (∀ v h' n', F v h' n' → K' v h' n') → aop P env h n o K' :=
  fun _ hK => hs _ (hK _ _ _ hk)
end
end Go.Abs
