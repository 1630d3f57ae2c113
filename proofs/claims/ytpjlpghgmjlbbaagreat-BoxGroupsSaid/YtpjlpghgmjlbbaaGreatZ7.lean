/- The machinery, part 7. -/
import Derived.ProofKit
import Derived.Test.YtpjlpghgmjlbbaaGreatZ2
import Derived.Test.YtpjlpghgmjlbbaaGreatZ6
set_option linter.constructorNameAsVariable false
set_option linter.unusedVariables false
set_option linter.unusedSimpArgs false
set_option linter.unusedSectionVars false
namespace Go.Abs
open Go Go.RowKit
inductive Sh where
 | int (k:IntKind)
 | bool
 | str
 | sl (e:Sh)
 | st (fs:List Sh)
def kiG (P:Program):List Field->Nat->Nat->Bool
 | [],o,n=>o==n
 | f::fs,o,n=>f.offset==o&&kiG P fs (o+P.cellsOf f.type) n
def shapeOf (P:Program):Nat->TypeId->Option Sh
 | 0,_=>none
 | d+1,t=>match P.underlying t with
  | some .bool=>some .bool
  | some (.int k)=>some (.int k)
  | some .string=>some .str
  | some (.slice e)=>if P.cellsOf e=0 then none else (shapeOf P d e).map .sl
  | some (.struct fs)=>if kiG P fs.toList 0 (P.cellsOf t) then (fs.toList.mapM fun f=>shapeOf P d f.type).map .st else none
  | some (.array n e)=>if n*P.cellsOf e=P.cellsOf t then (shapeOf P d e).map fun s=>.st (List.replicate n s) else none
  | _=>none
inductive Enc:Sh->List AV->Prop
 | int (k:IntKind) (n:Int) (h:(Lit.int k n).wf=true):Enc (.int k) [.sc (.int k n)]
 | bool (b:Bool):Enc .bool [.sc (.bool b)]
 | str (s:ByteArray) (h:s.size<=maxLen):Enc .str [.sc (.string s)]
 | sl (e:Sh) (es:List (List AV)) (h:∀ x∈es,Enc e x) (hl:es.length<=maxLen):Enc (.sl e) [.sl es]
 | nil:Enc (.st []) []
 | cons (s:Sh) (ss:List Sh) (a as:List AV) (h1:Enc s a) (h2:Enc (.st ss) as):Enc (.st (s::ss)) (a++as)
abbrev noO:Nat->Prop:=fun _=>False
def CR (w:World) (as:List AV) (cs:List Value):Prop:=
 as.length=cs.length/\∀ (j:Nat) (a:AV),as[j]?=some a->a.one=true/\∃ v,cs[j]?=some v/\VR w noO mu0 0 a v
theorem CR.nil {w:World}:CR w [] []:=⟨rfl,fun j a h=>by simp at h⟩
theorem CR.one {w:World} {a:AV} {v:Value} (h1:a.one=true) (h:VR w noO mu0 0 a v):CR w [a] [v]:=⟨rfl,fun j x hj=>by
 cases j with
 | zero=>simp at hj; subst hj; exact ⟨h1,v,rfl,h⟩
 | succ j=>simp at hj⟩
theorem CR.append {w:World} {as bs:List AV} {cs ds:List Value} (h:CR w as cs) (g:CR w bs ds):CR w (as++bs) (cs++ds):=by
 refine ⟨by simp [h.1,g.1],fun j a hj=>?_⟩
 rw [jbm] at hj
 split at hj
 ·rename_i hlt
  obtain ⟨h1,v,h2,h3⟩:=h.2 j a hj
  exact ⟨h1,v,by rw [jbl (by rw [<-h.1]; exact hlt)]; exact h2,h3⟩
 ·rename_i hge
  obtain ⟨h1,v,h2,h3⟩:=g.2 _ a hj
  exact ⟨h1,v,by rw [jcf (by rw [<-h.1]; omega),<-h.1]; exact h2,h3⟩
theorem noAv (b:Nat):¬ Av noO mu0 b:=by
 rintro (h | ⟨_,_,h⟩)
 ·exact h
 ·cases h
section
variable {H:Type} {enc:TypeId×Value->H} {P:Program} {w:World} {held:Bool}
theorem kqt {d fuel:Nat} (ih:∀ (t:TypeId) (sh:Sh) (cs:List Value) (x:DataW H×List MemPlace),shapeOf P d t=some sh->DataW.trod enc P w 0 (fun _=>true) held fuel t cs=some x->∃ as,Enc sh as/\CR w as cs) {cs:List Value} :
  ∀ (fs:List Field) (o:Nat) (shs:List Sh) (xs:List (DataW H×List MemPlace)),kiG P fs o cs.length=true->(fs.mapM fun f=>shapeOf P d f.type)=some shs->
   (fs.mapM fun f=>DataW.trod enc P w 0 (fun _=>true) held fuel f.type ((cs.drop f.offset).take (P.cellsOf f.type)))=some xs->(∀ f∈fs,f.offset+P.cellsOf f.type<=cs.length)->∃ as,Enc (.st shs) as/\CR w as (cs.drop o)
 | [],o,shs,xs,ho,hs,hx,hle=>by
  simp [kiG] at ho
  simp at hs; subst hs
  exact ⟨[],.nil,by rw [ho]; simp; exact CR.nil⟩
 | f::fs,o,shs,xs,ho,hs,hx,hle=>by
  simp only [kiG,jac,beq_iff_eq] at ho
  obtain ⟨rfl,ho⟩:=ho
  simp only [jdn,Option.bind_eq_bind,jaa,Option.pure_def,Option.some.injEq] at hs hx
  obtain ⟨s,hs1,ss,hs2,rfl⟩:=hs
  obtain ⟨y,hy,ys,hys,rfl⟩:=hx
  obtain ⟨a,ha,hca⟩:=ih _ _ _ _ hs1 hy
  obtain ⟨as,has,hcas⟩:=kqt ih fs _ ss ys ho hs2 hys fun g hg=>hle g (jbb _ hg)
  refine ⟨a++as,.cons s ss a as ha has,?_⟩
  have e:cs.drop f.offset=(cs.drop f.offset).take (P.cellsOf f.type)++cs.drop (f.offset+P.cellsOf f.type):=by
   rw [<-List.drop_drop]; exact (List.take_append_drop _ _).symm
  rw [e]
  exact hca.append hcas
theorem krU {P:Program}:∀ (fs:List Field) (o n:Nat),kiG P fs o n=true->o<=n/\∀ f∈fs,f.offset+P.cellsOf f.type<=n
 | [],o,n,h=>by simp [kiG] at h; exact ⟨by omega,fun f hf=>by simp at hf⟩
 | f::fs,o,n,h=>by
  simp only [kiG,jac,beq_iff_eq] at h
  obtain ⟨h1,h2⟩:=krU fs _ _ h.2
  refine ⟨by omega,fun g hg=>?_⟩
  rcases jbu.1 hg with rfl | hg
  ·rw [h.1]; exact h1
  ·exact h2 g hg
theorem krL {d fuel:Nat} (ih:∀ (t:TypeId) (sh:Sh) (cs:List Value) (x:DataW H×List MemPlace),shapeOf P d t=some sh->DataW.trod enc P w 0 (fun _=>true) held fuel t cs=some x->∃ as,Enc sh as/\CR w as cs) {e:TypeId} {sh:Sh} (hsh:shapeOf P d e=some sh) (cs:List Value) :
  ∀ (n o:Nat),(∀ i,i<n->∃ x,DataW.trod enc P w 0 (fun _=>true) held fuel e ((cs.drop ((o+i)*P.cellsOf e)).take (P.cellsOf e))=some x)->(o+n)*P.cellsOf e=cs.length->∃ as,Enc (.st (List.replicate n sh)) as/\CR w as (cs.drop (o*P.cellsOf e))
 | 0,o,_,hl=>⟨[],.nil,by rw [show o*P.cellsOf e=cs.length by simpa using hl]; simp; exact CR.nil⟩
 | n+1,o,h,hl=>by
  obtain ⟨x,hx⟩:=h 0 (by omega)
  simp only [Nat.add_zero] at hx
  obtain ⟨a,ha,hca⟩:=ih _ _ _ _ hsh hx
  obtain ⟨as,has,hcas⟩:=krL ih hsh cs n (o+1) (fun i hi=>by rw [show o+1+i=o+(i+1) by omega]; exact h (i+1) (by omega)) (by rw [<-hl]; congr 1; omega)
  refine ⟨a++as,.cons sh _ a as ha has,?_⟩
  have e1:cs.drop (o*P.cellsOf e)=(cs.drop (o*P.cellsOf e)).take (P.cellsOf e)++cs.drop ((o+1)*P.cellsOf e):=by
   rw [jby,Nat.one_mul,<-List.drop_drop]; exact (List.take_append_drop _ _).symm
  rw [e1]
  exact hca.append hcas
theorem ksz:∀ (d:Nat) (fuel:Nat) (t:TypeId) (sh:Sh) (cs:List Value) (x:DataW H×List MemPlace),shapeOf P d t=some sh->DataW.trod enc P w 0 (fun _=>true) held fuel t cs=some x->∃ as,Enc sh as/\CR w as cs
 | 0,_,_,_,_,_,h,_=>by cases h
 | d+1,0,t,sh,cs,x,_,hx=>by simp [DataW.trod] at hx
 | d+1,fuel+1,t,sh,cs,x,h,hx=>by
  have ih:=fun t sh cs x=>ksz d fuel t sh cs x
  simp only [shapeOf] at h
  unfold DataW.trod at hx
  cases hu:P.underlying t with
  | none=>simp [hu] at h
  | some u=>
   simp only [hu] at h hx
   cases u <;> simp only [reduceCtorEq] at h
   case bool=>
    cases h
    split at hx <;> simp only [reduceCtorEq,Option.some.injEq,TypeDesc.int.injEq] at * <;> try contradiction
    rename_i b _
    exact ⟨_,.bool b,CR.one rfl (.sc _ rfl)⟩
   case int k=>
    cases h
    split at hx <;> simp only [reduceCtorEq,Option.some.injEq,TypeDesc.int.injEq] at * <;> try contradiction
    rename_i h1
    subst h1
    split at hx
    ·rename_i hc
     obtain ⟨rfl,hw⟩:=hc
     exact ⟨_,.int _ _ hw,CR.one rfl (.sc _ rfl)⟩
    ·cases hx
   case string=>
    cases h
    split at hx <;> simp only [reduceCtorEq,Option.some.injEq] at * <;> try contradiction
    split at hx
    ·rename_i hc
     exact ⟨_,.str _ hc,CR.one rfl (.sc _ rfl)⟩
    ·cases hx
   case slice e=>
    split at h
    ·cases h
    rename_i hk
    cases hse:shapeOf P d e with
    | none=>simp [hse] at h
    | some she=>
    simp only [hse,jcg,Option.some.injEq] at h
    subst h
    split at hx <;> simp only [reduceCtorEq,Option.some.injEq,TypeDesc.slice.injEq] at * <;> try contradiction
    ·exact ⟨_,.sl she [] (fun x hx=>by simp at hx) (by simp),CR.one rfl (.slnil none)⟩
    ·rename_i a len cap h1
     subst h1
     split at hx
     ·rename_i hb
      obtain ⟨elems,he,hx⟩:=jaa.1 hx
      simp only [if_true] at hx
      obtain ⟨rest,hrest,-⟩:=jab.1 hx
      have el1:=mapM_some_length he
      have el2:=mapM_some_length hrest
      simp only [List.length_range] at el1 el2
      have elem:∀ i:Nat,∃ p:List Value×List AV,i<cap->w.cells? 0 (a.add (i*P.cellsOf e)) (P.cellsOf e)=some p.1/\Enc she p.2/\CR w p.2 p.1:=by
       intro i
       by_cases hi:i<cap
       ·have:∃ y,((w.cells? 0 (a.add (i*P.cellsOf e)) (P.cellsOf e)).bind (DataW.trod enc P w 0 (fun _=>true) held fuel e))=some y:=by
         by_cases hil:i<len
         ·have:=mapM_some_get he i i (by simp [hil])
          exact ⟨elems[i]'(by omega),by rw [this]; exact jae _⟩
         ·have:=mapM_some_get hrest (i-len) (i-len) (by rw [List.getElem?_range (by omega)])
          rw [show len+(i-len)=i by omega] at this
          exact ⟨rest[i-len]'(by omega),by rw [this]; exact jae _⟩
        obtain ⟨y,hy⟩:=this
        obtain ⟨csi,hc,hy⟩:=jaa.1 hy
        obtain ⟨as,g1,g2⟩:=ih e she csi y hse hy
        exact ⟨(csi,as),fun _=>⟨hc,g1,g2⟩⟩
       ·exact ⟨([],[]),fun h=>absurd h hi⟩
      obtain ⟨F,hF⟩:=Classical.axiomOfChoice elem
      by_cases hcap:cap=0
      ·subst hcap
       obtain rfl:len=0:=by omega
       exact ⟨[.sl []],.sl she [] (fun x hx=>by simp at hx) (by simp),CR.one rfl (.slnil _)⟩
      ·have hspot:a.spot=none:=by
        obtain ⟨h1,-,-⟩:=hF 0 (by omega)
        obtain ⟨-,h2,h3⟩:=World.cells?_some h1
        have h4:=h3 0 (by omega)
        rw [jae (by omega)] at h4
        have:=World.cell?_spot h4
        simpa [Addr.add] using this
       obtain ⟨b,o,spot⟩:=a
       subst hspot
       have hlen:((List.range len).map fun i=>(F i).2).length=len:=by simp
       have hget:∀ (i:Nat) (c:List AV),((List.range len).map fun i=>(F i).2)[i]?=some c->i<len/\c=(F i).2:=fun i c hi=>by
        simp only [jaw,jab] at hi
        obtain ⟨i',hi',rfl⟩:=hi
        have hlt:i<len:=by have:=(jad.1 hi').1; simpa using this
        rw [List.getElem?_range hlt] at hi'
        cases hi'
        exact ⟨hlt,rfl⟩
       have hval:∀ (i:Nat) (c:List AV),((List.range len).map fun i=>(F i).2)[i]?=some c->c.length=P.cellsOf e/\∀ (j:Nat) (x:AV),c[j]?=some x->x.one=true/\w.cell? ⟨b,o+i*P.cellsOf e+j,none⟩=some (((F i).1[j]?).getD undef)/\VR w noO mu0 0 x (((F i).1[j]?).getD undef):=fun i c hi=>by
        obtain ⟨hlt,rfl⟩:=hget i c hi
        obtain ⟨h1,h2,h3,h4⟩:=hF i (by omega)
        obtain ⟨-,h5,h6⟩:=World.cells?_some h1
        refine ⟨by omega,fun j x hj=>?_⟩
        obtain ⟨g1,v,g2,g3⟩:=h4 j x hj
        have hj':=(jad.1 hj).1
        have h7:=h6 j (by omega)
        rw [khy,khy] at h7
        rw [h7,g2]
        exact ⟨g1,rfl,g3⟩
       refine ⟨[.sl ((List.range len).map fun i=>(F i).2)],.sl she _ (fun x hx=>?_) (by omega),CR.one rfl ?_⟩
       ·simp only [jay,jcj] at hx
        obtain ⟨i,hi,rfl⟩:=hx
        exact (hF i (by omega)).2.1
       ·have hmain:=VR.sl (w:=w) (O:=noO) (μ:=mu0) (n:=0) ((List.range len).map fun i=>(F i).2) b o cap (P.cellsOf e) (fun i j=>((F i).1[j]?).getD undef) (by omega) (by omega) (fun _ _ _ _=>noAv b)
         (fun i c hi=>(hval i c hi).1) (fun i c hi j x hj=>((hval i c hi).2 j x hj).2.1) (fun i c hi j x hj=>((hval i c hi).2 j x hj).1) (fun i c hi j x hj=>((hval i c hi).2 j x hj).2.2)
        rw [hlen] at hmain
        exact hmain
     ·cases hx
   case struct fs=>
    split at h
    ·rename_i ho
     cases hfs:fs.toList.mapM fun f=>shapeOf P d f.type with
     | none=>rw [hfs] at h; cases h
     | some shs=>
     rw [hfs] at h
     cases h
     split at hx <;> simp only [reduceCtorEq,Option.some.injEq,TypeDesc.struct.injEq] at * <;> try contradiction
     ·rename_i h1
      subst h1
      split at hx
      ·rename_i hl
       obtain ⟨xs,hxs,-⟩:=jab.1 hx
       obtain ⟨as,h1,h2⟩:=kqt ih fs.toList 0 shs xs (by rw [hl]; exact ho) hfs hxs (by rw [hl]; exact (krU _ _ _ ho).2)
       exact ⟨as,h1,by simpa using h2⟩
      ·cases hx
     ·exact (‹∀ fs_1:Array Field,fs=fs_1->False› _ rfl).elim
    ·cases h
   case array n e=>
    split at h
    ·rename_i ho
     cases hse:shapeOf P d e with
     | none=>rw [hse] at h; cases h
     | some she=>
     rw [hse] at h
     cases h
     split at hx <;> simp only [reduceCtorEq,Option.some.injEq,TypeDesc.array.injEq] at * <;> try contradiction
     ·rename_i h1
      obtain ⟨rfl,rfl⟩:=h1
      split at hx
      ·rename_i hl
       obtain ⟨xs,hxs,-⟩:=jab.1 hx
       rename_i cs1 _ _
       have hl2:=mapM_some_length hxs
       simp only [List.length_range] at hl2
       have hel:∀ i,i<n->∃ x,DataW.trod enc P w 0 (fun _=>true) held fuel e ((List.drop ((0+i)*P.cellsOf e) cs1).take (P.cellsOf e))=some x:=fun i hi=>by
        have:=mapM_some_get hxs i i (by simp [hi])
        rw [jcb,this]
        exact ⟨_,jae (by omega)⟩
       obtain ⟨as,h1,h2⟩:=krL ih hse _ n 0 hel (by rw [hl,<-ho]; simp)
       exact ⟨as,h1,by simpa using h2⟩
      ·cases hx
     ·exact (‹∀ (n_1:Nat) (e_1:TypeId),n=n_1/\e=e_1->False› _ _ ⟨rfl,rfl⟩).elim
    ·cases h
end
end Go.Abs
namespace Go.Abs
open Go Go.RowKit Go.ChangeShapes Go.WideShapes
def EncP:Sh->AV->Prop
 | .st fs,a=>∃ as,a = .ag as/\Enc (.st fs) as
 | s,a=>Enc s [a]
def EncPs:List Sh->List AV->Prop
 | [],[]=>True
 | s::ss,a::as=>EncP s a/\EncPs ss as
 | _,_=>False
section
variable {H:Type} {enc:TypeId×Value->H} {P:Program} {W:World}
theorem EncP.of_one {sh:Sh} {a:AV} (h:Enc sh [a]) (hs:∀ fs,sh≠.st fs):EncP sh a:=by
 cases sh <;> first | exact h | exact absurd rfl (hs _)
theorem CR.ag {as:List AV} {cs:Array Value} (h:CR W as cs.toList):VR W noO mu0 0 (.ag as) (.agg cs):=by
 refine .ag as cs (fun j=>cs.getD j undef) (by simpa using h.1.symm) (fun j c hj=>?_) (fun j c hj=>(h.2 j c hj).1) (fun j c hj=>?_)
 all_goals
  obtain ⟨h1,v,h2,h3⟩:=h.2 j c hj
  rw [jcl] at h2
  simp only [jaf,h2,jca]
 exact h3
theorem kwM {d:Nat} {t:TypeId} {sh:Sh} {v:Value} {x:DataW H} {p:List MemPlace} {r:Reach} {b:Nat} (hs:shapeOf P d t=some sh) (hv:Value.okWide P W r b t v) (ht:DataW.Trod enc P W 0 (fun _=>true) true t v x p) :
  ∃ a,EncP sh a/\VR W noO mu0 0 a v:=by
 obtain ⟨fuel,hx⟩:=ht
 obtain ⟨as,h1,h2⟩:=ksz d fuel t sh _ _ hs hx
 have single:∀ {sh:Sh} {u:Value},Enc sh as->CR W as [u]->(∀ fs,sh≠.st fs)->∃ a,EncP sh a/\VR W noO mu0 0 a u:=by
  intro sh u g1 g2 g3
  match as,g1,g2 with
  | [a],g1,g2=>
   obtain ⟨_,v,e,g⟩:=g2.2 0 a rfl
   simp at e; subst e
   exact ⟨a,.of_one g1 g3,g⟩
  | [],_,g2=>have:=g2.1; simp at this
  | _::_::_,_,g2=>have:=g2.1; simp at this
 cases d with
 | zero=>cases hs
 | succ d=>
  simp only [shapeOf] at hs
  cases hu:P.underlying t with
  | none=>simp [hu] at hs
  | some u=>
   simp only [hu] at hs
   cases u <;> simp only [reduceCtorEq] at hs
   case bool=>obtain ⟨b,rfl⟩:=okWide_bool hu hv; cases hs; exact single h1 (by simpa [Value.cells] using h2) (by simp)
   case int k=>obtain ⟨b,rfl⟩:=okWide_int hu hv; cases hs; exact single h1 (by simpa [Value.cells] using h2) (by simp)
   case string=>obtain ⟨b,rfl⟩:=okWide_string hu hv; cases hs; exact single h1 (by simpa [Value.cells] using h2) (by simp)
   case slice e=>
    obtain ⟨a,len,cap,rfl⟩:=okWide_slice hu hv
    have:∀ fs,sh≠.st fs:=by
     rintro fs rfl
     split at hs
     ·cases hs
     ·obtain ⟨_,_,h⟩:=jab.1 hs; cases h
    exact single h1 (by simpa [Value.cells] using h2) this
   case struct fs=>
    obtain ⟨cs,rfl,_⟩:=okWide_struct hu hv
    obtain ⟨fs',rfl⟩:∃ fs',sh = .st fs':=by
     split at hs
     ·obtain ⟨s,_,h⟩:=jab.1 hs; exact ⟨s,h.symm⟩
     ·cases hs
    exact ⟨.ag as,⟨as,rfl,h1⟩,CR.ag (by simpa [Value.cells] using h2)⟩
   case array n e=>
    obtain ⟨cs,rfl,_⟩:∃ cs,v = .agg cs/\cs.size=P.cellsOf t:=by
     simp only [Value.okWide,hu] at hv
     obtain ⟨cs,h1,h2,_⟩:=hv
     exact ⟨cs,h1,h2⟩
    obtain ⟨fs',rfl⟩:∃ fs',sh = .st fs':=by
     split at hs
     ·obtain ⟨s,_,h⟩:=jab.1 hs; exact ⟨_,h.symm⟩
     ·cases hs
    exact ⟨.ag as,⟨as,rfl,h1⟩,CR.ag (by simpa [Value.cells] using h2)⟩
theorem kqy {d:Nat} {r:Reach} {b:Nat}:∀ {ts:List TypeId} {shs:List Sh} {vs:List Value} {ds:List (DataW H)} {ps:List MemPlace},ts.mapM (shapeOf P d)=some shs->
  (∀ (j:Nat) t v,ts[j]?=some t->vs[j]?=some v->Value.okWide P W r b t v)->DataW.TrodAll enc P W 0 (fun _=>true) true ts vs ds ps->
  ∃ as,EncPs shs as/\vs.length=as.length/\ds.length=ts.length/\∀ (j:Nat) (c:AV),as[j]?=some c->∃ u,vs[j]?=some u/\VR W noO mu0 0 c u
 | [],shs,vs,ds,ps,hs,hv,ht=>by
  simp at hs; subst hs
  cases vs <;> cases ds <;> simp [DataW.TrodAll] at ht
  exact ⟨[],trivial,rfl,rfl,fun j c hj=>by simp at hj⟩
 | t::ts,shs,vs,ds,ps,hs,hv,ht=>by
  simp only [jdn,Option.bind_eq_bind,jaa,Option.pure_def,Option.some.injEq] at hs
  obtain ⟨s,hs1,ss,hs2,rfl⟩:=hs
  obtain ⟨v,vs',dd,ds',p,q,rfl,rfl,rfl,h1,h2⟩:=trodAll_cons ht
  obtain ⟨a,g1,g2⟩:=kwM hs1 (hv 0 t v rfl rfl) h1
  obtain ⟨as,f1,f2,f3,f4⟩:=kqy hs2 (fun j t v e1 e2=>hv (j+1) t v (by simpa using e1) (by simpa using e2)) h2
  refine ⟨a::as,⟨g1,f1⟩,by simp [f2],by simp [f3],fun j c hj=>?_⟩
  cases j with
  | zero=>simp at hj; subst hj; exact ⟨v,rfl,g2⟩
  | succ j=>simpa using f4 j c (by simpa using hj)
theorem kmw (hl:laidOutB P=true) {W':World} (hb:Below W.heap.size W W'):∀ {ts:List TypeId} {vs:List Value} {ds:List (DataW H)} {ps:List MemPlace},(∀ t∈ts,P.readableRec t=true/\t<P.types.size)->
  DataW.TrodAll enc P W 0 (fun _=>true) true ts vs ds ps->(∀ x∈ps,x.block<W.heap.size)->DataW.TrodAll enc P W' 0 (fun b=>decide (b<W.heap.size)) true ts vs ds ps
 | [],vs,ds,ps,_,h,_=>by cases vs <;> cases ds <;> simp [DataW.TrodAll] at h ⊢; exact h
 | t::ts,vs,ds,ps,hr,h,hlt=>by
  obtain ⟨v,vs',d,ds',p,q,rfl,rfl,rfl,h1,h2⟩:=trodAll_cons h
  obtain ⟨r1,r2⟩:=hr t (by simp)
  exact ⟨p,q,Below.trod hl r1 r2 h1 hb fun x hx=>hlt x (by simp [hx]),kmw hl hb (fun t' ht'=>hr t' (by simp [ht'])) h2 fun x hx=>hlt x (by simp [hx]),rfl⟩
theorem law_lifted {C:Checked} {os:Os} {f:FuncId} {fn:Func} {s:ChangeSpec} (own:ownKnob C.prog.godebug=none) (started:os.Started) (laid:laidOutB C.prog=true) (noInit:C.prog.inits.idxOf? f=none) (hfn:C.prog.funcs[f]?=some fn)
  (witness:∃ (w:World) (tape:Tape) (i:Input),w.os=os/\(w.forCall tape i).Shaped C.prog/\i.vars=[]/\Input.okWide C.prog (w.forCall tape i) .any w.heap.size f i/\
   s.pre6 enc C.prog fn [] false (w.forCall tape i).memory i.args/\({}:Assume).holds C.prog (lone (Frame.enter C.prog f i.args .normal) [] (w.forCall tape i)))
  (hvars:s.vars=[]) (hspec:∀ ds:List (DataW H),ds.length=fn.params.toList.length->s.fn H ds = { results:=[.lit (.bool true)],args:=ds })
  {tb:TypeId} (hres:fn.resultTypes = #[tb]) (hb:C.prog.underlying tb=some .bool) {d:Nat} {shs:List Sh} (hsh:fn.params.toList.mapM (shapeOf C.prog d)=some shs)
  (hread:fn.params.toList.all (fun t=>C.prog.readableRec t&&decide (t<C.prog.types.size))=true) (pc:∀ as,EncPs shs as->PC C.prog f as (·= .sc (.bool true))) :
  ReturnsInHanded {} C os f .any (s.pre6 enc C.prog fn [] false) (s.post enc C.prog fn false true false false):=by
 refine returnsInHanded_of_change own started noInit hfn witness ?_
 intro W base args ds gs before hval hW hcnd _
 have hW':=hW
 obtain ⟨p,q,hA,hV,rfl,hfz,hnd⟩:=hW
 rw [hvars] at hV
 obtain ⟨rfl,rfl⟩:=trodVars_none hV
 obtain ⟨as,h1,h2,h3,h4⟩:=kqy hsh (fun j t v e1 e2=>hval j t v (by simpa using e1) (by simpa using e2)) hA
 refine ((pc as h1).2 noO W args (fun b h=>h.elim) (by simpa using h2) (fun j c hj=>by simpa using h4 j c hj)).mono ?_
 rintro e W' ⟨u,v,rfl,rfl,hu,hB⟩
 have hu':=hu.bool_inv
 subst hu'
 have hlt:∀ x∈p,x.block<W.heap.size:=fun x hx=>by simpa using hW'.lt x (List.mem_append_left _ hx)
 have hsp:=hspec ds h3
 refine ⟨_,rfl,ds,[],p++[],[],p,[],hW',?_,?_,?_,hB.frame _,fun h=>by cases h⟩
 ·rw [jbd,hsp,hres]
  exact trodAll_mk1 (shut_bool hb true)
 ·rw [jbd,hsp]
  exact kmw laid hB (fun t ht=>by have:=jam.1 hread t ht; simpa only [jac,jai] using this) hA hlt
 ·rw [hvars,jbd,hsp]
  rfl
end
end Go.Abs
namespace Go.Abs
open Go
def Dec {α:Type} (sh:Sh) (f:α->List AV) (ok:α->Prop):Prop:=∀ as,Enc sh as->∃ x,as=f x/\ok x
def okI (k:IntKind) (n:Int):Prop:=(Lit.int k n).wf=true
def okS (l:List UInt8):Prop:=l.length<=maxLen
def okL {α:Type} (ok:α->Prop) (l:List α):Prop:=l.length<=maxLen/\∀ x∈l,ok x
theorem kyi:Dec .str str1 okS:=fun as h=>by
 cases h with
 | str s h=>exact ⟨s.data.toList,by simp,by simpa [okS] using h⟩
theorem kyZ {α:Type} {e:Sh} {f:α->List AV} {ok:α->Prop} (h:Dec e f ok):Dec (.sl e) (sl1 f) (okL ok):=fun as ha=>by
 cases ha with
 | sl _ es he hl=>
  have:∀ es:List (List AV),(∀ x∈es,Enc e x)->∃ l:List α,es=l.map f/\∀ x∈l,ok x:=by
   intro es
   induction es with
   | nil=>exact fun _=>⟨[],rfl,fun x hx=>by cases hx⟩
   | cons a es ih=>
    intro h2
    obtain ⟨x,rfl,ox⟩:=h a (h2 a (by simp))
    obtain ⟨l,rfl,ol⟩:=ih fun y hy=>h2 y (by simp [hy])
    exact ⟨x::l,rfl,fun y hy=>by
     rcases jbu.1 hy with rfl | hy
     ·exact ox
     ·exact ol y hy⟩
  obtain ⟨l,rfl,ol⟩:=this es he
  exact ⟨l,rfl,by simpa using hl,ol⟩
theorem krm {as:List AV} (h:Enc (.st []) as):as=[]:=by cases h; rfl
theorem klR {s:Sh} {ss:List Sh} {bs:List AV} (h:Enc (.st (s::ss)) bs):∃ a as,bs=a++as/\Enc s a/\Enc (.st ss) as:=by
 cases h with
 | cons _ _ a as h1 h2=>exact ⟨a,as,rfl,h1,h2⟩
theorem krO {xs:List AV} (h:EncPs [] xs):xs=[]:=by cases xs with | nil=>rfl | cons _ _=>exact h.elim
theorem kqj {s:Sh} {ss:List Sh} {xs:List AV} (h:EncPs (s::ss) xs):∃ a as,xs=a::as/\EncP s a/\EncPs ss as:=by
 cases xs with
 | nil=>exact h.elim
 | cons a as=>exact ⟨a,as,rfl,h.1,h.2⟩
end Go.Abs
namespace Go.Abs
open Go Go.RowKit
def okT:(t:Ty)->t.den->Prop
 | .i k,n=>okI k n
 | .s,l=>okS l
 | .sl t,l=>okL (okT t) l
 | .pr t u,x=>okT t x.1/\okT u x.2
 | .w t,x=>okT t x
 | _,_=>True
def okTs:(ts:List Ty)->(tup ts).den->Prop
 | [],_=>True
 | [t],x=>okT t x
 | t::u::ts,x=>okT t x.1/\okTs (u::ts) x.2
mutual
def shOk:Sh->Ty->Bool
 | .int k,.i k'=>k==k'
 | .bool,.b=>true
 | .str,.s=>true
 | .sl e,.sl t=>shOk e t
 | .st [],.un=>true
 | .st [f],.w t=>shOk f t
 | .st (f::g::fs),.pr t u=>shOk f t&&stOk (g::fs) u
 | _,_=>false
def stOk:List Sh->Ty->Bool
 | [f],t=>shOk f t
 | f::fs,.pr t u=>shOk f t&&stOk fs u
 | _,_=>false
end
mutual
theorem kka:∀ (sh:Sh) (t:Ty),shOk sh t=true->Dec sh t.enc (okT t)
 | .int k,.i k',h=>by
  simp only [shOk,beq_iff_eq] at h
  subst h
  intro as ha
  cases ha with | int _ n h=>exact ⟨n,rfl,h⟩
 | .bool,.b,_=>by
  intro as ha
  cases ha with | bool b=>exact ⟨b,rfl,trivial⟩
 | .str,.s,_=>kyi
 | .sl e,.sl t,h=>kyZ (kka e t (by simpa [shOk] using h))
 | .st [],.un,_=>fun as ha=>⟨(),krm ha,trivial⟩
 | .st [f],.w t,h=>fun as ha=>by
  obtain ⟨a,bs,rfl,h1,h2⟩:=klR ha
  cases krm h2
  obtain ⟨x,rfl,ox⟩:=kka f t (by simpa [shOk] using h) a h1
  exact ⟨x,by rw [jbd]; rfl,ox⟩
 | .st (f::g::fs),.pr t u,h=>fun as ha=>by
  simp only [shOk,jac] at h
  obtain ⟨a,bs,rfl,h1,h2⟩:=klR ha
  obtain ⟨x,rfl,ox⟩:=kka f t h.1 a h1
  obtain ⟨y,rfl,oy⟩:=kwx (g::fs) u h.2 bs h2
  exact ⟨(x,y),rfl,ox,oy⟩
theorem kwx:∀ (fs:List Sh) (t:Ty),stOk fs t=true->∀ as,Enc (.st fs) as->∃ x,as=t.enc x/\okT t x
 | [f],t,h,as,ha=>by
  obtain ⟨a,bs,rfl,h1,h2⟩:=klR ha
  cases krm h2
  obtain ⟨x,rfl,ox⟩:=kka f t (by simpa [stOk] using h) a h1
  exact ⟨x,by rw [jbd],ox⟩
 | f::g::fs,.pr t u,h,as,ha=>by
  simp only [stOk,jac] at h
  obtain ⟨a,bs,rfl,h1,h2⟩:=klR ha
  obtain ⟨x,rfl,ox⟩:=kka f t h.1 a h1
  obtain ⟨y,rfl,oy⟩:=kwx (g::fs) u h.2 bs h2
  exact ⟨(x,y),rfl,ox,oy⟩
end
theorem kvu {sh:Sh} {t:Ty} (h:shOk sh t=true) {a:AV} (ha:EncP sh a):∃ x,t.dat=true->a=t.av x/\okT t x:=by
 cases sh with
 | st fs=>
  obtain ⟨as,rfl,he⟩:=ha
  obtain ⟨x,rfl,ox⟩:=kka (.st fs) t h as he
  refine ⟨x,fun _=>⟨?_,ox⟩⟩
  have:t.agg=true:=by
   cases t <;> first | rfl | (cases fs with
    | nil=>simp [shOk] at h
    | cons f fs=>cases fs <;> simp [shOk] at h)
  rw [kgq this]
 | _=>
  obtain ⟨x,e,ox⟩:=kka _ t h [a] ha
  refine ⟨x,fun hd=>⟨?_,ox⟩⟩
  have:t.agg=false:=by
   cases t <;> first | rfl | simp [shOk] at h
  have:=kgj (x:=x) this hd
  rw [<-e] at this
  exact (List.cons.inj this).1
def shsOk:List Sh->List Ty->Bool
 | [],[]=>true
 | s::ss,t::ts=>shOk s t&&t.dat&&shsOk ss ts
 | _,_=>false
theorem decPs {P:Program}:∀ {shs:List Sh} {ts:List Ty} {xs:List AV},shsOk shs ts=true->EncPs shs xs->∃ x:(tup ts).den,AR P ts x xs/\okTs ts x
 | [],[],xs,h,he=>by cases krO he; exact ⟨(),rfl,trivial⟩
 | s::ss,[t],xs,h,he=>by
  simp only [shsOk,jac] at h
  obtain ⟨a,as,rfl,h1,h2⟩:=kqj he
  cases ss with
  | cons s' ss=>simp [shsOk] at h
  | nil=>
   cases krO h2
   obtain ⟨x,hx⟩:=kvu h.1.1 h1
   obtain ⟨rfl,ox⟩:=hx h.1.2
   exact ⟨x,⟨_,rfl,(kcz h.1.2).2 rfl⟩,ox⟩
 | s::ss,t::u::ts,xs,h,he=>by
  rw [show shsOk (s::ss) (t::u::ts)=(shOk s t&&t.dat&&shsOk ss (u::ts)) from rfl] at h
  simp only [jac] at h
  obtain ⟨a,as,rfl,h1,h2⟩:=kqj he
  obtain ⟨x,hx⟩:=kvu h.1.1 h1
  obtain ⟨rfl,ox⟩:=hx h.1.2
  obtain ⟨y,hy,oy⟩:=decPs (ts:=u::ts) h.2 h2
  exact ⟨(x,y),⟨_,_,rfl,(kcz h.1.2).2 rfl,hy⟩,ox,oy⟩
 | [],_::_,xs,h,he=>by simp [shsOk] at h
 | _::_,[],xs,h,he=>by simp [shsOk] at h
theorem okI_u8 {n:Int} (h:okI .u8 n):0<=n:=by
 simp [okI,Lit.wf,IntKind.min,IntKind.max,IntKind.signed,IntKind.bits] at h
 omega
theorem law_of {P:Program} {g:FuncId} {C:Ctr} (hG:Good P g C) {shs:List Sh} (hs:shsOk shs C.as=true) (hF:∀ x,okTs C.as x->∃ r,C.F x=some r/\rav C.rs r = .sc (.bool true)) (xs:List AV) (h0:EncPs shs xs):PC P g xs (·= .sc (.bool true)):=by
 obtain ⟨x,hx,ox⟩:=decPs (P:=P) hs h0
 obtain ⟨r,hr,er⟩:=hF x ox
 have:=hG.2.1 x r hr xs hx
 rw [er] at this
 exact this
end Go.Abs
