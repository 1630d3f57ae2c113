/- A law's row from the contract of the law's function. -/
import Derived.Test.YtmcfapchpedbgaaZD1
set_option linter.unusedSimpArgs false
set_option linter.unusedVariables false
namespace Go.Abs
open Go Go.RowKit Go.ChangeShapes Go.WideShapes

/-- how a parameter of a shape is told -/
def EncP : Sh → AV → Prop
  | .st fs, a => ∃ as, a = .ag as ∧ Enc (.st fs) as
  | s, a => Enc s [a]

def EncPs : List Sh → List AV → Prop
  | [], [] => True
  | s :: ss, a :: as => EncP s a ∧ EncPs ss as
  | _, _ => False

section
variable {H : Type} {enc : TypeId × Value → H} {P : Program} {W : World}

theorem EncP.of_one {sh : Sh} {a : AV} (h : Enc sh [a]) (hs : ∀ fs, sh ≠ .st fs) : EncP sh a := by
  cases sh <;> first | exact h | exact absurd rfl (hs _)

theorem CR.ag {as : List AV} {cs : Array Value} (h : CR W as cs.toList) : VR W noO mu0 0 (.ag as) (.agg cs) := by
  refine .ag as cs (fun j => cs.getD j undef) (by simpa using h.1.symm) (fun j c hj => ?_) (fun j c hj => (h.2 j c hj).1) (fun j c hj => ?_)
  all_goals
    obtain ⟨h1, v, h2, h3⟩ := h.2 j c hj
    rw [Array.getElem?_toList] at h2
    simp only [Array.getD_eq_getD_getElem?, h2, Option.getD_some]
  exact h3

theorem param_enc {d : Nat} {t : TypeId} {sh : Sh} {v : Value} {x : DataW H} {p : List MemPlace} {r : Reach} {b : Nat} (hs : shapeOf P d t = some sh) (hv : Value.okWide P W r b t v) (ht : DataW.Trod enc P W 0 (fun _ => true) true t v x p) :
    ∃ a, EncP sh a ∧ VR W noO mu0 0 a v := by
  obtain ⟨fuel, hx⟩ := ht
  obtain ⟨as, h1, h2⟩ := trod_enc d fuel t sh _ _ hs hx
  have single : ∀ {sh : Sh} {u : Value}, Enc sh as → CR W as [u] → (∀ fs, sh ≠ .st fs) → ∃ a, EncP sh a ∧ VR W noO mu0 0 a u := by
    intro sh u g1 g2 g3
    match as, g1, g2 with
    | [a], g1, g2 =>
      obtain ⟨_, v, e, g⟩ := g2.2 0 a rfl
      simp at e; subst e
      exact ⟨a, .of_one g1 g3, g⟩
    | [], _, g2 => have := g2.1; simp at this
    | _ :: _ :: _, _, g2 => have := g2.1; simp at this
  cases d with
  | zero => cases hs
  | succ d =>
    simp only [shapeOf] at hs
    cases hu : P.underlying t with
    | none => simp [hu] at hs
    | some u =>
      simp only [hu] at hs
      cases u <;> simp only [reduceCtorEq] at hs
      case bool => obtain ⟨b, rfl⟩ := okWide_bool hu hv; cases hs; exact single h1 (by simpa [Value.cells] using h2) (by simp)
      case int k => obtain ⟨b, rfl⟩ := okWide_int hu hv; cases hs; exact single h1 (by simpa [Value.cells] using h2) (by simp)
      case string => obtain ⟨b, rfl⟩ := okWide_string hu hv; cases hs; exact single h1 (by simpa [Value.cells] using h2) (by simp)
      case slice e =>
        obtain ⟨a, len, cap, rfl⟩ := okWide_slice hu hv
        have : ∀ fs, sh ≠ .st fs := by
          rintro fs rfl
          split at hs
          · cases hs
          · obtain ⟨_, _, h⟩ := Option.map_eq_some_iff.1 hs; cases h
        exact single h1 (by simpa [Value.cells] using h2) this
      case struct fs =>
        obtain ⟨cs, rfl, _⟩ := okWide_struct hu hv
        obtain ⟨fs', rfl⟩ : ∃ fs', sh = .st fs' := by
          split at hs
          · obtain ⟨s, _, h⟩ := Option.map_eq_some_iff.1 hs; exact ⟨s, h.symm⟩
          · cases hs
        exact ⟨.ag as, ⟨as, rfl, h1⟩, CR.ag (by simpa [Value.cells] using h2)⟩
      case array n e =>
        obtain ⟨cs, rfl, _⟩ : ∃ cs, v = .agg cs ∧ cs.size = P.cellsOf t := by
          simp only [Value.okWide, hu] at hv
          obtain ⟨cs, h1, h2, _⟩ := hv
          exact ⟨cs, h1, h2⟩
        obtain ⟨fs', rfl⟩ : ∃ fs', sh = .st fs' := by
          split at hs
          · obtain ⟨s, _, h⟩ := Option.map_eq_some_iff.1 hs; exact ⟨_, h.symm⟩
          · cases hs
        exact ⟨.ag as, ⟨as, rfl, h1⟩, CR.ag (by simpa [Value.cells] using h2)⟩

theorem params_enc {d : Nat} {r : Reach} {b : Nat} : ∀ {ts : List TypeId} {shs : List Sh} {vs : List Value} {ds : List (DataW H)} {ps : List MemPlace}, ts.mapM (shapeOf P d) = some shs →
    (∀ (j : Nat) t v, ts[j]? = some t → vs[j]? = some v → Value.okWide P W r b t v) → DataW.TrodAll enc P W 0 (fun _ => true) true ts vs ds ps →
    ∃ as, EncPs shs as ∧ vs.length = as.length ∧ ds.length = ts.length ∧ ∀ (j : Nat) (c : AV), as[j]? = some c → ∃ u, vs[j]? = some u ∧ VR W noO mu0 0 c u
  | [], shs, vs, ds, ps, hs, hv, ht => by
    simp at hs; subst hs
    cases vs <;> cases ds <;> simp [DataW.TrodAll] at ht
    exact ⟨[], trivial, rfl, rfl, fun j c hj => by simp at hj⟩
  | t :: ts, shs, vs, ds, ps, hs, hv, ht => by
    simp only [List.mapM_cons, Option.bind_eq_bind, Option.bind_eq_some_iff, Option.pure_def, Option.some.injEq] at hs
    obtain ⟨s, hs1, ss, hs2, rfl⟩ := hs
    obtain ⟨v, vs', dd, ds', p, q, rfl, rfl, rfl, h1, h2⟩ := trodAll_cons ht
    obtain ⟨a, g1, g2⟩ := param_enc hs1 (hv 0 t v rfl rfl) h1
    obtain ⟨as, f1, f2, f3, f4⟩ := params_enc hs2 (fun j t v e1 e2 => hv (j + 1) t v (by simpa using e1) (by simpa using e2)) h2
    refine ⟨a :: as, ⟨g1, f1⟩, by simp [f2], by simp [f3], fun j c hj => ?_⟩
    cases j with
    | zero => simp at hj; subst hj; exact ⟨v, rfl, g2⟩
    | succ j => simpa using f4 j c (by simpa using hj)

theorem trodAll_below (hl : laidOutB P = true) {W' : World} (hb : Below W.heap.size W W') : ∀ {ts : List TypeId} {vs : List Value} {ds : List (DataW H)} {ps : List MemPlace}, (∀ t ∈ ts, P.readableRec t = true ∧ t < P.types.size) →
    DataW.TrodAll enc P W 0 (fun _ => true) true ts vs ds ps → (∀ x ∈ ps, x.block < W.heap.size) → DataW.TrodAll enc P W' 0 (fun b => decide (b < W.heap.size)) true ts vs ds ps
  | [], vs, ds, ps, _, h, _ => by cases vs <;> cases ds <;> simp [DataW.TrodAll] at h ⊢; exact h
  | t :: ts, vs, ds, ps, hr, h, hlt => by
    obtain ⟨v, vs', d, ds', p, q, rfl, rfl, rfl, h1, h2⟩ := trodAll_cons h
    obtain ⟨r1, r2⟩ := hr t (by simp)
    exact ⟨p, q, Below.trod hl r1 r2 h1 hb fun x hx => hlt x (by simp [hx]), trodAll_below hl hb (fun t' ht' => hr t' (by simp [ht'])) h2 fun x hx => hlt x (by simp [hx]), rfl⟩

theorem law_lifted {C : Checked} {os : Os} {f : FuncId} {fn : Func} {s : ChangeSpec} (own : ownKnob C.prog.godebug = none) (started : os.Started) (laid : laidOutB C.prog = true) (noInit : C.prog.inits.idxOf? f = none) (hfn : C.prog.funcs[f]? = some fn)
    (witness : ∃ (w : World) (tape : Tape) (i : Input), w.os = os ∧ (w.forCall tape i).Shaped C.prog ∧ i.vars = [] ∧ Input.okWide C.prog (w.forCall tape i) .any w.heap.size f i ∧
      s.pre6 enc C.prog fn [] false (w.forCall tape i).memory i.args ∧ ({} : Assume).holds C.prog (lone (Frame.enter C.prog f i.args .normal) [] (w.forCall tape i)))
    (hvars : s.vars = []) (hspec : ∀ ds : List (DataW H), ds.length = fn.params.toList.length → s.fn H ds = { results := [.lit (.bool true)], args := ds })
    {tb : TypeId} (hres : fn.resultTypes = #[tb]) (hb : C.prog.underlying tb = some .bool) {d : Nat} {shs : List Sh} (hsh : fn.params.toList.mapM (shapeOf C.prog d) = some shs)
    (hread : fn.params.toList.all (fun t => C.prog.readableRec t && decide (t < C.prog.types.size)) = true) (pc : ∀ as, EncPs shs as → PC C.prog f as (· = .sc (.bool true))) :
    ReturnsInHanded {} C os f .any (s.pre6 enc C.prog fn [] false) (s.post enc C.prog fn false true false false) := by
  refine returnsInHanded_of_change own started noInit hfn witness ?_
  intro W base args ds gs before hval hW hcnd _
  have hW' := hW
  obtain ⟨p, q, hA, hV, rfl, hfz, hnd⟩ := hW
  rw [hvars] at hV
  obtain ⟨rfl, rfl⟩ := trodVars_none hV
  obtain ⟨as, h1, h2, h3, h4⟩ := params_enc hsh (fun j t v e1 e2 => hval j t v (by simpa using e1) (by simpa using e2)) hA
  refine ((pc as h1).2 noO W args (fun b h => h.elim) (by simpa using h2) (fun j c hj => by simpa using h4 j c hj)).mono ?_
  rintro e W' ⟨u, v, rfl, rfl, hu, hB⟩
  have hu' := hu.bool_inv
  subst hu'
  have hlt : ∀ x ∈ p, x.block < W.heap.size := fun x hx => by simpa using hW'.lt x (List.mem_append_left _ hx)
  have hsp := hspec ds h3
  refine ⟨_, rfl, ds, [], p ++ [], [], p, [], hW', ?_, ?_, ?_, hB.frame _, fun h => by cases h⟩
  · rw [List.append_nil, hsp, hres]
    exact trodAll_mk1 (shut_bool hb true)
  · rw [List.append_nil, hsp]
    exact trodAll_below laid hB (fun t ht => by have := List.all_eq_true.1 hread t ht; simpa only [Bool.and_eq_true, decide_eq_true_eq] using this) hA hlt
  · rw [hvars, List.append_nil, hsp]
    rfl

end
end Go.Abs
