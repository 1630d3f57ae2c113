/- The machinery, part 7. -/
import Derived.Test.YtcpnbpelcdjpdaaZ2
import Derived.Test.YtcpnbpelcdjpdaaZ6
set_option linter.constructorNameAsVariable false
set_option linter.unusedVariables false
set_option linter.unusedSimpArgs false
set_option linter.unusedSectionVars false
namespace Go.Abs
open Go Go.RowKit Go.ChangeShapes Go.WideShapes
def EncP:Sh→AV→Prop
 | .st fs,a=>∃ as,a = .ag as∧Enc (.st fs) as
 | s,a=>Enc s [a]
def EncPs:List Sh→List AV→Prop
 | [],[]=>True
 | s::ss,a::as=>EncP s a∧EncPs ss as
 | _,_=>False
section
variable {H:Type} {enc:TypeId×Value→H} {P:Program} {W:World}
theorem EncP.of_one {sh:Sh} {a:AV} (h:Enc sh [a]) (hs:∀ fs,sh≠.st fs):EncP sh a:=by
 cases sh <;> first | exact h | exact absurd rfl (hs _)
theorem CR.ag {as:List AV} {cs:Array Value} (h:CR W as cs.toList):VR W noO mu0 0 (.ag as) (.agg cs):=by
 refine .ag as cs (fun j=>cs.getD j undef) (by simpa using h.1.symm) (fun j c hj=>?_) (fun j c hj=>(h.2 j c hj).1) (fun j c hj=>?_)
 all_goals
  obtain ⟨h1,v,h2,h3⟩:=h.2 j c hj
  rw [Array.getElem?_toList] at h2
  simp only [Array.getD_eq_getD_getElem?,h2,Option.getD_some]
 exact h3
theorem krx {d:Nat} {t:TypeId} {sh:Sh} {v:Value} {x:DataW H} {p:List MemPlace} {r:Reach} {b:Nat} (hs:shapeOf P d t=some sh) (hv:Value.okWide P W r b t v) (ht:DataW.Trod enc P W 0 (fun _=>true) true t v x p) :
  ∃ a,EncP sh a∧VR W noO mu0 0 a v:=by
 obtain ⟨fuel,hx⟩:=ht
 obtain ⟨as,h1,h2⟩:=kop d fuel t sh _ _ hs hx
 have single:∀ {sh:Sh} {u:Value},Enc sh as→CR W as [u]→(∀ fs,sh≠.st fs)→∃ a,EncP sh a∧VR W noO mu0 0 a u:=by
  intro sh u g1 g2 g3
  match as,g1,g2 with
  | [a],g1,g2=>
   obtain ⟨_,v,e,g⟩:=g2.2 0 a rfl
   simp at e; subst e
   exact ⟨a,.of_one g1 g3,g⟩
  | [],_,g2=>have:=g2.1; simp at this
  | _::_::_,_,g2=>have:=g2.1; simp at this
 cases d with
 | zero=>cases hs
 | succ d=>
  simp only [shapeOf] at hs
  cases hu:P.underlying t with
  | none=>simp [hu] at hs
  | some u=>
   simp only [hu] at hs
   cases u <;> simp only [reduceCtorEq] at hs
   case bool=>obtain ⟨b,rfl⟩:=okWide_bool hu hv; cases hs; exact single h1 (by simpa [Value.cells] using h2) (by simp)
   case int k=>obtain ⟨b,rfl⟩:=okWide_int hu hv; cases hs; exact single h1 (by simpa [Value.cells] using h2) (by simp)
   case string=>obtain ⟨b,rfl⟩:=okWide_string hu hv; cases hs; exact single h1 (by simpa [Value.cells] using h2) (by simp)
   case slice e=>
    obtain ⟨a,len,cap,rfl⟩:=okWide_slice hu hv
    have:∀ fs,sh≠.st fs:=by
     rintro fs rfl
     split at hs
     ·cases hs
     ·obtain ⟨_,_,h⟩:=Option.map_eq_some_iff.1 hs; cases h
    exact single h1 (by simpa [Value.cells] using h2) this
   case struct fs=>
    obtain ⟨cs,rfl,_⟩:=okWide_struct hu hv
    obtain ⟨fs',rfl⟩:∃ fs',sh = .st fs':=by
     split at hs
     ·obtain ⟨s,_,h⟩:=Option.map_eq_some_iff.1 hs; exact ⟨s,h.symm⟩
     ·cases hs
    exact ⟨.ag as,⟨as,rfl,h1⟩,CR.ag (by simpa [Value.cells] using h2)⟩
   case array n e=>
    obtain ⟨cs,rfl,_⟩:∃ cs,v = .agg cs∧cs.size=P.cellsOf t:=by
     simp only [Value.okWide,hu] at hv
     obtain ⟨cs,h1,h2,_⟩:=hv
     exact ⟨cs,h1,h2⟩
    obtain ⟨fs',rfl⟩:∃ fs',sh = .st fs':=by
     split at hs
     ·obtain ⟨s,_,h⟩:=Option.map_eq_some_iff.1 hs; exact ⟨_,h.symm⟩
     ·cases hs
    exact ⟨.ag as,⟨as,rfl,h1⟩,CR.ag (by simpa [Value.cells] using h2)⟩
theorem klf {d:Nat} {r:Reach} {b:Nat}:∀ {ts:List TypeId} {shs:List Sh} {vs:List Value} {ds:List (DataW H)} {ps:List MemPlace},ts.mapM (shapeOf P d)=some shs→
  (∀ (j:Nat) t v,ts[j]?=some t→vs[j]?=some v→Value.okWide P W r b t v)→DataW.TrodAll enc P W 0 (fun _=>true) true ts vs ds ps→
  ∃ as,EncPs shs as∧vs.length=as.length∧ds.length=ts.length∧∀ (j:Nat) (c:AV),as[j]?=some c→∃ u,vs[j]?=some u∧VR W noO mu0 0 c u
 | [],shs,vs,ds,ps,hs,hv,ht=>by
  simp at hs; subst hs
  cases vs <;> cases ds <;> simp [DataW.TrodAll] at ht
  exact ⟨[],trivial,rfl,rfl,fun j c hj=>by simp at hj⟩
 | t::ts,shs,vs,ds,ps,hs,hv,ht=>by
  simp only [List.mapM_cons,Option.bind_eq_bind,Option.bind_eq_some_iff,Option.pure_def,Option.some.injEq] at hs
  obtain ⟨s,hs1,ss,hs2,rfl⟩:=hs
  obtain ⟨v,vs',dd,ds',p,q,rfl,rfl,rfl,h1,h2⟩:=trodAll_cons ht
  obtain ⟨a,g1,g2⟩:=krx hs1 (hv 0 t v rfl rfl) h1
  obtain ⟨as,f1,f2,f3,f4⟩:=klf hs2 (fun j t v e1 e2=>hv (j+1) t v (by simpa using e1) (by simpa using e2)) h2
  refine ⟨a::as,⟨g1,f1⟩,by simp [f2],by simp [f3],fun j c hj=>?_⟩
  cases j with
  | zero=>simp at hj; subst hj; exact ⟨v,rfl,g2⟩
  | succ j=>simpa using f4 j c (by simpa using hj)
theorem kih (hl:laidOutB P=true) {W':World} (hb:Below W.heap.size W W'):∀ {ts:List TypeId} {vs:List Value} {ds:List (DataW H)} {ps:List MemPlace},(∀ t∈ts,P.readableRec t=true∧t<P.types.size)→
  DataW.TrodAll enc P W 0 (fun _=>true) true ts vs ds ps→(∀ x∈ps,x.block<W.heap.size)→DataW.TrodAll enc P W' 0 (fun b=>decide (b<W.heap.size)) true ts vs ds ps
 | [],vs,ds,ps,_,h,_=>by cases vs <;> cases ds <;> simp [DataW.TrodAll] at h ⊢; exact h
 | t::ts,vs,ds,ps,hr,h,hlt=>by
  obtain ⟨v,vs',d,ds',p,q,rfl,rfl,rfl,h1,h2⟩:=trodAll_cons h
  obtain ⟨r1,r2⟩:=hr t (by simp)
  exact ⟨p,q,Below.trod hl r1 r2 h1 hb fun x hx=>hlt x (by simp [hx]),kih hl hb (fun t' ht'=>hr t' (by simp [ht'])) h2 fun x hx=>hlt x (by simp [hx]),rfl⟩
theorem law_lifted {C:Checked} {os:Os} {f:FuncId} {fn:Func} {s:ChangeSpec} (own:ownKnob C.prog.godebug=none) (started:os.Started) (laid:laidOutB C.prog=true) (noInit:C.prog.inits.idxOf? f=none) (hfn:C.prog.funcs[f]?=some fn)
  (witness:∃ (w:World) (tape:Tape) (i:Input),w.os=os∧(w.forCall tape i).Shaped C.prog∧i.vars=[]∧Input.okWide C.prog (w.forCall tape i) .any w.heap.size f i∧
   s.pre6 enc C.prog fn [] false (w.forCall tape i).memory i.args∧({}:Assume).holds C.prog (lone (Frame.enter C.prog f i.args .normal) [] (w.forCall tape i)))
  (hvars:s.vars=[]) (hspec:∀ ds:List (DataW H),ds.length=fn.params.toList.length→s.fn H ds = { results:=[.lit (.bool true)],args:=ds })
  {tb:TypeId} (hres:fn.resultTypes = #[tb]) (hb:C.prog.underlying tb=some .bool) {d:Nat} {shs:List Sh} (hsh:fn.params.toList.mapM (shapeOf C.prog d)=some shs)
  (hread:fn.params.toList.all (fun t=>C.prog.readableRec t&&decide (t<C.prog.types.size))=true) (pc:∀ as,EncPs shs as→PC C.prog f as (·= .sc (.bool true))) :
  ReturnsInHanded {} C os f .any (s.pre6 enc C.prog fn [] false) (s.post enc C.prog fn false true false false):=by
 refine returnsInHanded_of_change own started noInit hfn witness ?_
 intro W base args ds gs before hval hW hcnd _
 have hW':=hW
 obtain ⟨p,q,hA,hV,rfl,hfz,hnd⟩:=hW
 rw [hvars] at hV
 obtain ⟨rfl,rfl⟩:=trodVars_none hV
 obtain ⟨as,h1,h2,h3,h4⟩:=klf hsh (fun j t v e1 e2=>hval j t v (by simpa using e1) (by simpa using e2)) hA
 refine ((pc as h1).2 noO W args (fun b h=>h.elim) (by simpa using h2) (fun j c hj=>by simpa using h4 j c hj)).mono ?_
 rintro e W' ⟨u,v,rfl,rfl,hu,hB⟩
 have hu':=hu.bool_inv
 subst hu'
 have hlt:∀ x∈p,x.block<W.heap.size:=fun x hx=>by simpa using hW'.lt x (List.mem_append_left _ hx)
 have hsp:=hspec ds h3
 refine ⟨_,rfl,ds,[],p++[],[],p,[],hW',?_,?_,?_,hB.frame _,fun h=>by cases h⟩
 ·rw [List.append_nil,hsp,hres]
  exact trodAll_mk1 (shut_bool hb true)
 ·rw [List.append_nil,hsp]
  exact kih laid hB (fun t ht=>by have:=List.all_eq_true.1 hread t ht; simpa only [Bool.and_eq_true,decide_eq_true_eq] using this) hA hlt
 ·rw [hvars,List.append_nil,hsp]
  rfl
end
end Go.Abs
namespace Go.Abs
open Go
def Dec {α:Type} (sh:Sh) (f:α→List AV) (ok:α→Prop):Prop:=∀ as,Enc sh as→∃ x,as=f x∧ok x
def okI (k:IntKind) (n:Int):Prop:=(Lit.int k n).wf=true
def okS (l:List UInt8):Prop:=l.length≤maxLen
def okL {α:Type} (ok:α→Prop) (l:List α):Prop:=l.length≤maxLen∧∀ x∈l,ok x
theorem ksz:Dec .str str1 okS:=fun as h=>by
 cases h with
 | str s h=>exact ⟨s.data.toList,by simp,by simpa [okS] using h⟩
theorem kte {α:Type} {e:Sh} {f:α→List AV} {ok:α→Prop} (h:Dec e f ok):Dec (.sl e) (sl1 f) (okL ok):=fun as ha=>by
 cases ha with
 | sl _ es he hl=>
  have:∀ es:List (List AV),(∀ x∈es,Enc e x)→∃ l:List α,es=l.map f∧∀ x∈l,ok x:=by
   intro es
   induction es with
   | nil=>exact fun _=>⟨[],rfl,fun x hx=>by cases hx⟩
   | cons a es ih=>
    intro h2
    obtain ⟨x,rfl,ox⟩:=h a (h2 a (by simp))
    obtain ⟨l,rfl,ol⟩:=ih fun y hy=>h2 y (by simp [hy])
    exact ⟨x::l,rfl,fun y hy=>by
     rcases List.mem_cons.1 hy with rfl | hy
     ·exact ox
     ·exact ol y hy⟩
  obtain ⟨l,rfl,ol⟩:=this es he
  exact ⟨l,rfl,by simpa using hl,ol⟩
theorem kly {as:List AV} (h:Enc (.st []) as):as=[]:=by cases h; rfl
theorem khI {s:Sh} {ss:List Sh} {bs:List AV} (h:Enc (.st (s::ss)) bs):∃ a as,bs=a++as∧Enc s a∧Enc (.st ss) as:=by
 cases h with
 | cons _ _ a as h1 h2=>exact ⟨a,as,rfl,h1,h2⟩
theorem kmk {xs:List AV} (h:EncPs [] xs):xs=[]:=by cases xs with | nil=>rfl | cons _ _=>exact h.elim
theorem kle {s:Sh} {ss:List Sh} {xs:List AV} (h:EncPs (s::ss) xs):∃ a as,xs=a::as∧EncP s a∧EncPs ss as:=by
 cases xs with
 | nil=>exact h.elim
 | cons a as=>exact ⟨a,as,rfl,h.1,h.2⟩
end Go.Abs
namespace Go.Abs
open Go Go.RowKit
def okT:(t:Ty)→t.den→Prop
 | .i k,n=>okI k n
 | .s,l=>okS l
 | .sl t,l=>okL (okT t) l
 | .pr t u,x=>okT t x.1∧okT u x.2
 | .w t,x=>okT t x
 | _,_=>True
def okTs:(ts:List Ty)→(tup ts).den→Prop
 | [],_=>True
 | [t],x=>okT t x
 | t::u::ts,x=>okT t x.1∧okTs (u::ts) x.2
mutual
def shOk:Sh→Ty→Bool
 | .int k,.i k'=>k==k'
 | .bool,.b=>true
 | .str,.s=>true
 | .sl e,.sl t=>shOk e t
 | .st [],.un=>true
 | .st [f],.w t=>shOk f t
 | .st (f::g::fs),.pr t u=>shOk f t&&stOk (g::fs) u
 | _,_=>false
def stOk:List Sh→Ty→Bool
 | [f],t=>shOk f t
 | f::fs,.pr t u=>shOk f t&&stOk fs u
 | _,_=>false
end
mutual
theorem kgn:∀ (sh:Sh) (t:Ty),shOk sh t=true→Dec sh t.enc (okT t)
 | .int k,.i k',h=>by
  simp only [shOk,beq_iff_eq] at h
  subst h
  intro as ha
  cases ha with | int _ n h=>exact ⟨n,rfl,h⟩
 | .bool,.b,_=>by
  intro as ha
  cases ha with | bool b=>exact ⟨b,rfl,trivial⟩
 | .str,.s,_=>ksz
 | .sl e,.sl t,h=>kte (kgn e t (by simpa [shOk] using h))
 | .st [],.un,_=>fun as ha=>⟨(),kly ha,trivial⟩
 | .st [f],.w t,h=>fun as ha=>by
  obtain ⟨a,bs,rfl,h1,h2⟩:=khI ha
  cases kly h2
  obtain ⟨x,rfl,ox⟩:=kgn f t (by simpa [shOk] using h) a h1
  exact ⟨x,by rw [List.append_nil]; rfl,ox⟩
 | .st (f::g::fs),.pr t u,h=>fun as ha=>by
  simp only [shOk,Bool.and_eq_true] at h
  obtain ⟨a,bs,rfl,h1,h2⟩:=khI ha
  obtain ⟨x,rfl,ox⟩:=kgn f t h.1 a h1
  obtain ⟨y,rfl,oy⟩:=krs (g::fs) u h.2 bs h2
  exact ⟨(x,y),rfl,ox,oy⟩
theorem krs:∀ (fs:List Sh) (t:Ty),stOk fs t=true→∀ as,Enc (.st fs) as→∃ x,as=t.enc x∧okT t x
 | [f],t,h,as,ha=>by
  obtain ⟨a,bs,rfl,h1,h2⟩:=khI ha
  cases kly h2
  obtain ⟨x,rfl,ox⟩:=kgn f t (by simpa [stOk] using h) a h1
  exact ⟨x,by rw [List.append_nil],ox⟩
 | f::g::fs,.pr t u,h,as,ha=>by
  simp only [stOk,Bool.and_eq_true] at h
  obtain ⟨a,bs,rfl,h1,h2⟩:=khI ha
  obtain ⟨x,rfl,ox⟩:=kgn f t h.1 a h1
  obtain ⟨y,rfl,oy⟩:=krs (g::fs) u h.2 bs h2
  exact ⟨(x,y),rfl,ox,oy⟩
end
theorem kpS {sh:Sh} {t:Ty} (h:shOk sh t=true) {a:AV} (ha:EncP sh a):∃ x,t.dat=true→a=t.av x∧okT t x:=by
 cases sh with
 | st fs=>
  obtain ⟨as,rfl,he⟩:=ha
  obtain ⟨x,rfl,ox⟩:=kgn (.st fs) t h as he
  refine ⟨x,fun _=>⟨?_,ox⟩⟩
  have:t.agg=true:=by
   cases t <;> first | rfl | (cases fs with
    | nil=>simp [shOk] at h
    | cons f fs=>cases fs <;> simp [shOk] at h)
  rw [kdP this]
 | _=>
  obtain ⟨x,e,ox⟩:=kgn _ t h [a] ha
  refine ⟨x,fun hd=>⟨?_,ox⟩⟩
  have:t.agg=false:=by
   cases t <;> first | rfl | simp [shOk] at h
  have:=kdS (x:=x) this hd
  rw [←e] at this
  exact (List.cons.inj this).1
def shsOk:List Sh→List Ty→Bool
 | [],[]=>true
 | s::ss,t::ts=>shOk s t&&t.dat&&shsOk ss ts
 | _,_=>false
theorem decPs {P:Program}:∀ {shs:List Sh} {ts:List Ty} {xs:List AV},shsOk shs ts=true→EncPs shs xs→∃ x:(tup ts).den,AR P ts x xs∧okTs ts x
 | [],[],xs,h,he=>by cases kmk he; exact ⟨(),rfl,trivial⟩
 | s::ss,[t],xs,h,he=>by
  simp only [shsOk,Bool.and_eq_true] at h
  obtain ⟨a,as,rfl,h1,h2⟩:=kle he
  cases ss with
  | cons s' ss=>simp [shsOk] at h
  | nil=>
   cases kmk h2
   obtain ⟨x,hx⟩:=kpS h.1.1 h1
   obtain ⟨rfl,ox⟩:=hx h.1.2
   exact ⟨x,⟨_,rfl,(kdq h.1.2).2 rfl⟩,ox⟩
 | s::ss,t::u::ts,xs,h,he=>by
  rw [show shsOk (s::ss) (t::u::ts)=(shOk s t&&t.dat&&shsOk ss (u::ts)) from rfl] at h
  simp only [Bool.and_eq_true] at h
  obtain ⟨a,as,rfl,h1,h2⟩:=kle he
  obtain ⟨x,hx⟩:=kpS h.1.1 h1
  obtain ⟨rfl,ox⟩:=hx h.1.2
  obtain ⟨y,hy,oy⟩:=decPs (ts:=u::ts) h.2 h2
  exact ⟨(x,y),⟨_,_,rfl,(kdq h.1.2).2 rfl,hy⟩,ox,oy⟩
 | [],_::_,xs,h,he=>by simp [shsOk] at h
 | _::_,[],xs,h,he=>by simp [shsOk] at h
theorem okI_u8 {n:Int} (h:okI .u8 n):0≤n:=by
 simp [okI,Lit.wf,IntKind.min,IntKind.max,IntKind.signed,IntKind.bits] at h
 omega
theorem law_of {P:Program} {g:FuncId} {C:Ctr} (hG:Good P g C) {shs:List Sh} (hs:shsOk shs C.as=true) (hF:∀ x,okTs C.as x→∃ r,C.F x=some r∧rav C.rs r = .sc (.bool true)) (xs:List AV) (h0:EncPs shs xs):PC P g xs (·= .sc (.bool true)):=by
 obtain ⟨x,hx,ox⟩:=decPs (P:=P) hs h0
 obtain ⟨r,hr,er⟩:=hF x ox
 have:=hG.2.1 x r hr xs hx
 rw [er] at this
 exact this
end Go.Abs
