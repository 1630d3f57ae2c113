/- The machinery, part 7. -/
import Derived.ProofKit
import Derived.Test.YtpjlpghgmjlbbaaGreatZ2
import Derived.Test.YtpjlpghgmjlbbaaGreatZ6
set_option linter.constructorNameAsVariable false
set_option linter.unusedVariables false
set_option linter.unusedSimpArgs false
set_option linter.unusedSectionVars false
namespace Go.Abs
open Go Go.RowKit
inductive Sh where
 | int (k:IntKind)
 | bool
 | str
 | sl (e:Sh)
 | st (fs:List Sh)
def kjs (P:Yd):Ya Field->Nat->Nat->Bool
 | [],o,n=>o==n
 | f::fs,o,n=>f.offset==o&&kjs P fs (o+P.cellsOf f.type) n
def shapeOf (P:Yd):Nat->Yc->Yb Sh
 | 0,_=>none
 | d+1,t=>match P.underlying t with
  | some .bool=>some .bool
  | some (.int k)=>some (.int k)
  | some .string=>some .str
  | some (.slice e)=>if P.cellsOf e=0 then none else (shapeOf P d e).map .sl
  | some (.struct fs)=>if kjs P fs.toList 0 (P.cellsOf t) then (fs.toList.mapM λf=>shapeOf P d f.type).map .st else none
  | some (.array n e)=>if n*P.cellsOf e=P.cellsOf t then (shapeOf P d e).map λs=>.st (List.replicate n s) else none
  | _=>none
inductive Enc:Sh->List AV->Prop
 | int (k:IntKind) (n:Int) (h:(Lit.int k n).wf=true):Enc (.int k) [.sc (.int k n)]
 | bool (b:Bool):Enc .bool [.sc (.bool b)]
 | str (s:ByteArray) (h:s.size<=maxLen):Enc .str [.sc (.string s)]
 | sl (e:Sh) (es:List (List AV)) (h:∀ x∈es,Enc e x) (hl:es.length<=maxLen):Enc (.sl e) [.sl es]
 | nil:Enc (.st []) []
 | cons (s:Sh) (ss:List Sh) (a as:List AV) (h1:Enc s a) (h2:Enc (.st ss) as):Enc (.st (s::ss)) (a++as)
abbrev noO:Nat->Prop:=λ_=>False
def CR (w:World) (as:Ya AV) (cs:Ya Ye):Prop:=
 as.length=cs.length/\∀ (j:Nat) (a:AV),as[j]?=some a->a.one=true/\∃ v,cs[j]?=some v/\VR w noO mu0 0 a v
theorem CR.nil {w:World}:CR w [] []:=⟨rfl,λj a h=>by simp at h⟩
theorem CR.one {w:World} {a:AV} {v:Ye} (c:a.one=true) (h:VR w noO mu0 0 a v):CR w [a] [v]:=⟨rfl,λj x b=>by
 cases j with
 | zero=>simp at b; subst b; exact ⟨c,v,rfl,h⟩
 | succ j=>simp at b⟩
theorem CR.append {w:World} {as bs:Ya AV} {cs i:Ya Ye} (h:CR w as cs) (g:CR w bs i):CR w (as++bs) (cs++i):=by
 refine ⟨by simp [h.1,g.1],λj a b=>?_⟩;rw [jbm] at b;split at b
 ·rename_i c;obtain ⟨f,v,h2,e⟩:=h.2 j a b;exact ⟨f,v,by rw [jbo (by rw [<-h.1]; exact c)]; exact h2,e⟩
 ·rename_i k;obtain ⟨f,v,h2,e⟩:=g.2 _ a b;exact ⟨f,v,by rw [jcj (by rw [<-h.1]; omega),<-h.1]; exact h2,e⟩
theorem noAv (b:Nat):¬ Av noO mu0 b:=by
 rintro (h | ⟨_,_,h⟩)
 ·exact h
 ·cases h
section
variable {H:Type} {enc:Yc×Ye->H} {P:Yd} {w:World} {held:Bool}
theorem krG {d c:Nat} (r:∀ (t:Yc) (sh:Sh) (cs:Ya Ye) (x:DataW H×Ya MemPlace),shapeOf P d t=some sh->DataW.trod enc P w 0 (λ_=>true) held c t cs=some x->∃ as,Enc sh as/\CR w as cs) {cs:Ya Ye} :
  ∀ (j:Ya Field) (o:Nat) (b:Ya Sh) (xs:Ya (DataW H×Ya MemPlace)),kjs P j o cs.length=true->(j.mapM λf=>shapeOf P d f.type)=some b->
   (j.mapM λf=>DataW.trod enc P w 0 (λ_=>true) held c f.type ((cs.drop f.offset).take (P.cellsOf f.type)))=some xs->(∀ f∈j,f.offset+P.cellsOf f.type<=cs.length)->∃ as,Enc (.st b) as/\CR w as (cs.drop o)
 | [],o,b,xs,i,hs,hx,hle=>by
  simp [kjs] at i;simp at hs; subst hs;exact ⟨[],.nil,by rw [i]; simp; exact CR.nil⟩
 | f::j,o,b,xs,i,hs,hx,hle=>by
  simp only [kjs,jac,beq_iff_eq] at i;obtain ⟨rfl,i⟩:=i;simp only [jdu,Option.bind_eq_bind,jaa,Option.pure_def,Option.some.injEq] at hs hx;obtain ⟨s,p,u,m,rfl⟩:=hs;obtain ⟨y,v,ys,n,rfl⟩:=hx;obtain ⟨a,z,l⟩:=r _ _ _ _ p v;obtain ⟨as,has,k⟩:=krG r j _ u ys i m n λg A=>hle g (jax _ A);refine ⟨a++as,.cons s u a as z has,?_⟩;have e:cs.drop f.offset=(cs.drop f.offset).take (P.cellsOf f.type)++cs.drop (f.offset+P.cellsOf f.type):=by
   rw [<-List.drop_drop]; exact (List.take_append_drop _ _).symm
  rw [e];exact l.append k
theorem kts {P:Yd}:∀ (a:Ya Field) (o n:Nat),kjs P a o n=true->o<=n/\∀ f∈a,f.offset+P.cellsOf f.type<=n
 | [],o,n,h=>by simp [kjs] at h; exact ⟨by omega,λf c=>by simp at c⟩
 | f::a,o,n,h=>by
  simp only [kjs,jac,beq_iff_eq] at h;obtain ⟨e,h2⟩:=kts a _ _ h.2;refine ⟨by omega,λg b=>?_⟩;rcases jbq.1 b with rfl | b
  ·rw [h.1]; exact e
  ·exact h2 g b
theorem ktc {d b:Nat} (k:∀ (t:Yc) (sh:Sh) (cs:Ya Ye) (x:DataW H×Ya MemPlace),shapeOf P d t=some sh->DataW.trod enc P w 0 (λ_=>true) held b t cs=some x->∃ as,Enc sh as/\CR w as cs) {e:Yc} {sh:Sh} (f:shapeOf P d e=some sh) (cs:Ya Ye) :
  ∀ (n o:Nat),(∀ i,i<n->∃ x,DataW.trod enc P w 0 (λ_=>true) held b e ((cs.drop ((o+i)*P.cellsOf e)).take (P.cellsOf e))=some x)->(o+n)*P.cellsOf e=cs.length->∃ as,Enc (.st (List.replicate n sh)) as/\CR w as (cs.drop (o*P.cellsOf e))
 | 0,o,_,hl=>⟨[],.nil,by rw [show o*P.cellsOf e=cs.length by simpa using hl]; simp; exact CR.nil⟩
 | n+1,o,h,hl=>by
  obtain ⟨x,j⟩:=h 0 (by omega);simp only [Nat.add_zero] at j;obtain ⟨a,l,g⟩:=k _ _ _ _ f j;obtain ⟨as,has,c⟩:=ktc k f cs n (o+1) (λi hi=>by rw [show o+1+i=o+(i+1) by omega]; exact h (i+1) (by omega)) (by rw [<-hl]; congr 1; omega);refine ⟨a++as,.cons sh _ a as l has,?_⟩;have m:cs.drop (o*P.cellsOf e)=(cs.drop (o*P.cellsOf e)).take (P.cellsOf e)++cs.drop ((o+1)*P.cellsOf e):=by
   rw [jcc,Nat.one_mul,<-List.drop_drop]; exact (List.take_append_drop _ _).symm
  rw [m];exact g.append c
theorem kui:∀ (d:Nat) (l:Nat) (t:Yc) (sh:Sh) (cs:Ya Ye) (x:DataW H×Ya MemPlace),shapeOf P d t=some sh->DataW.trod enc P w 0 (λ_=>true) held l t cs=some x->∃ as,Enc sh as/\CR w as cs
 | 0,_,_,_,_,_,h,_=>by cases h
 | d+1,0,t,sh,cs,x,_,g=>by simp [DataW.trod] at g
 | d+1,l+1,t,sh,cs,x,h,g=>by
  have ih:=λt sh cs x=>kui d l t sh cs x;simp only [shapeOf] at h;unfold DataW.trod at g;cases hu:P.underlying t with
  | none=>simp [hu] at h
  | some u=>
   simp only [hu] at h g;cases u <;> simp only [reduceCtorEq] at h;case bool=>
    cases h;split at g <;> simp only [reduceCtorEq,Option.some.injEq,TypeDesc.int.injEq] at * <;> try contradiction
    rename_i b _;exact ⟨_,.bool b,CR.one rfl (.sc _ rfl)⟩
   case int k=>
    cases h;split at g <;> simp only [reduceCtorEq,Option.some.injEq,TypeDesc.int.injEq] at * <;> try contradiction
    rename_i r;subst r;split at g
    ·rename_i Q;obtain ⟨rfl,hw⟩:=Q;exact ⟨_,.int _ _ hw,CR.one rfl (.sc _ rfl)⟩
    ·cases g
   case string=>
    cases h;split at g <;> simp only [reduceCtorEq,Option.some.injEq] at * <;> try contradiction
    split at g
    ·rename_i Q;exact ⟨_,.str _ Q,CR.one rfl (.sc _ rfl)⟩
    ·cases g
   case slice e=>
    split at h
    ·cases h
    rename_i hk;cases m:shapeOf P d e with
    | none=>simp [m] at h
    | some z=>
    simp only [m,jck,Option.some.injEq] at h;subst h;split at g <;> simp only [reduceCtorEq,Option.some.injEq,TypeDesc.slice.injEq] at * <;> try contradiction
    ·exact ⟨_,.sl z [] (λx g=>by simp at g) (by simp),CR.one rfl (.slnil none)⟩
    ·rename_i a len cap r;subst r;split at g
     ·rename_i hb;obtain ⟨G,he,g⟩:=jaa.1 g;simp only [if_true] at g;obtain ⟨rest,A,-⟩:=jad.1 g;have ae:=mapM_some_length he;have ad:=mapM_some_length A;simp only [List.length_range] at ae ad;have M:∀ i:Nat,∃ p:Ya Ye×Ya AV,i<cap->w.cells? 0 (a.add (i*P.cellsOf e)) (P.cellsOf e)=some p.1/\Enc z p.2/\CR w p.2 p.1:=by
       intro i;by_cases hi:i<cap
       ·have:∃ y,((w.cells? 0 (a.add (i*P.cellsOf e)) (P.cellsOf e)).bind (DataW.trod enc P w 0 (λ_=>true) held l e))=some y:=by
         by_cases Z:i<len
         ·have:=mapM_some_get he i i (by simp [Z]);exact ⟨G[i]'(by omega),by rw [this]; exact jae _⟩
         ·have:=mapM_some_get A (i-len) (i-len) (by rw [List.getElem?_range (by omega)]);rw [show len+(i-len)=i by omega] at this;exact ⟨rest[i-len]'(by omega),by rw [this]; exact jae _⟩
        obtain ⟨y,hy⟩:=this;obtain ⟨T,Q,hy⟩:=jaa.1 hy;obtain ⟨as,g1,g2⟩:=ih e z T y m hy;exact ⟨(T,as),λ_=>⟨Q,g1,g2⟩⟩
       ·exact ⟨([],[]),λh=>absurd h hi⟩
      obtain ⟨F,hF⟩:=Classical.axiomOfChoice M;by_cases N:cap=0
      ·subst N;obtain rfl:len=0:=by omega
       exact ⟨[.sl []],.sl z [] (λx g=>by simp at g) (by simp),CR.one rfl (.slnil _)⟩
      ·have J:a.spot=none:=by
        obtain ⟨r,-,-⟩:=hF 0 (by omega);obtain ⟨-,h2,h3⟩:=World.cells?_some r;have U:=h3 0 (by omega);rw [jae (by omega)] at U;have:=World.cell?_spot U;simpa [Addr.add] using this
       obtain ⟨b,o,aj⟩:=a;subst J;have L:((List.range len).map λi=>(F i).2).length=len:=by simp
       have R:∀ (i:Nat) (c:Ya AV),((List.range len).map λi=>(F i).2)[i]?=some c->i<len/\c=(F i).2:=λi c hi=>by
        simp only [jas,jad] at hi;obtain ⟨i',K,rfl⟩:=hi;have E:i<len:=by have:=(jaf.1 K).1; simpa using this
        rw [List.getElem?_range E] at K;cases K;exact ⟨E,rfl⟩
       have s:∀ (i:Nat) (c:Ya AV),((List.range len).map λi=>(F i).2)[i]?=some c->c.length=P.cellsOf e/\∀ (j:Nat) (x:AV),c[j]?=some x->x.one=true/\w.cell? ⟨b,o+i*P.cellsOf e+j,none⟩=some (((F i).1[j]?).getD undef)/\VR w noO mu0 0 x (((F i).1[j]?).getD undef):=λi c hi=>by
        obtain ⟨E,rfl⟩:=R i c hi;obtain ⟨r,h2,h3,U⟩:=hF i (by omega);obtain ⟨-,h5,h6⟩:=World.cells?_some r;refine ⟨by omega,λj x D=>?_⟩;obtain ⟨g1,v,g2,g3⟩:=U j x D;have ak:=(jaf.1 D).1;have h7:=h6 j (by omega);rw [kiD,kiD] at h7;rw [h7,g2];exact ⟨g1,rfl,g3⟩
       refine ⟨[.sl ((List.range len).map λi=>(F i).2)],.sl z _ (λx g=>?_) (by omega),CR.one rfl ?_⟩
       ·simp only [jbb,jdl] at g;obtain ⟨i,hi,rfl⟩:=g;exact (hF i (by omega)).2.1
       ·have B:=VR.sl (w:=w) (O:=noO) (μ:=mu0) (n:=0) ((List.range len).map λi=>(F i).2) b o cap (P.cellsOf e) (λi j=>((F i).1[j]?).getD undef) (by omega) (by omega) (λ_ _ _ _=>noAv b)
         (λi c hi=>(s i c hi).1) (λi c hi j x D=>((s i c hi).2 j x D).2.1) (λi c hi j x D=>((s i c hi).2 j x D).1) (λi c hi j x D=>((s i c hi).2 j x D).2.2)
        rw [L] at B;exact B
     ·cases g
   case struct Y=>
    split at h
    ·rename_i X;cases I:Y.toList.mapM λf=>shapeOf P d f.type with
     | none=>rw [I] at h; cases h
     | some ac=>
     rw [I] at h;cases h;split at g <;> simp only [reduceCtorEq,Option.some.injEq,TypeDesc.struct.injEq] at * <;> try contradiction
     ·rename_i r;subst r;split at g
      ·rename_i hl;obtain ⟨xs,C,-⟩:=jad.1 g;obtain ⟨as,r,h2⟩:=krG ih Y.toList 0 ac xs (by rw [hl]; exact X) I C (by rw [hl]; exact (kts _ _ _ X).2);exact ⟨as,r,by simpa using h2⟩
      ·cases g
     ·exact (‹∀ S:Array Field,Y=S->False› _ rfl).elim
    ·cases h
   case array n e=>
    split at h
    ·rename_i X;cases m:shapeOf P d e with
     | none=>rw [m] at h; cases h
     | some z=>
     rw [m] at h;cases h;split at g <;> simp only [reduceCtorEq,Option.some.injEq,TypeDesc.array.injEq] at * <;> try contradiction
     ·rename_i r;obtain ⟨rfl,rfl⟩:=r;split at g
      ·rename_i hl;obtain ⟨xs,C,-⟩:=jad.1 g;rename_i aa _ _;have ah:=mapM_some_length C;simp only [List.length_range] at ah;have ai:∀ i,i<n->∃ x,DataW.trod enc P w 0 (λ_=>true) held l e ((List.drop ((0+i)*P.cellsOf e) aa).take (P.cellsOf e))=some x:=λi hi=>by
        have:=mapM_some_get C i i (by simp [hi]);rw [jcf,this];exact ⟨_,jae (by omega)⟩
       obtain ⟨as,r,h2⟩:=ktc ih m _ n 0 ai (by rw [hl,<-X]; simp);exact ⟨as,r,by simpa using h2⟩
      ·cases g
     ·exact (‹∀ (ab:Nat) (af:Yc),n=ab/\e=af->False› _ _ ⟨rfl,rfl⟩).elim
    ·cases h
end
end Go.Abs
namespace Go.Abs
open Go Go.RowKit Go.ChangeShapes Go.WideShapes
def EncP:Sh->AV->Prop
 | .st fs,a=>∃ as,a = .ag as/\Enc (.st fs) as
 | s,a=>Enc s [a]
def EncPs:Ya Sh->Ya AV->Prop
 | [],[]=>True
 | s::ss,a::as=>EncP s a/\EncPs ss as
 | _,_=>False
section
variable {H:Type} {enc:Yc×Ye->H} {P:Yd} {W:World}
theorem EncP.of_one {sh:Sh} {a:AV} (h:Enc sh [a]) (c:∀ b,sh≠.st b):EncP sh a:=by
 cases sh <;> first | exact h | exact absurd rfl (c _)
theorem CR.ag {as:Ya AV} {cs:Array Ye} (h:CR W as cs.toList):VR W noO mu0 0 (.ag as) (.agg cs):=by
 refine .ag as cs (λj=>cs.getD j undef) (by simpa using h.1.symm) (λj c a=>?_) (λj c a=>(h.2 j c a).1) (λj c a=>?_);all_goals
  obtain ⟨e,v,h2,b⟩:=h.2 j c a;rw [jcr] at h2;simp only [jah,h2,jcb]
 exact b
theorem kyy {d:Nat} {t:Yc} {sh:Sh} {v:Ye} {x:DataW H} {p:Ya MemPlace} {r:Reach} {b:Nat} (f:shapeOf P d t=some sh) (o:Value.okWide P W r b t v) (C:DataW.Trod enc P W 0 (λ_=>true) true t v x p) :
  ∃ a,EncP sh a/\VR W noO mu0 0 a v:=by
 obtain ⟨z,A⟩:=C;obtain ⟨as,l,h2⟩:=kui d z t sh _ _ f A;have c:∀ {sh:Sh} {u:Ye},Enc sh as->CR W as [u]->(∀ y,sh≠.st y)->∃ a,EncP sh a/\VR W noO mu0 0 a u:=by
  intro sh u g1 m B;match as,g1,m with
  | [a],g1,m=>
   obtain ⟨_,v,e,g⟩:=m.2 0 a rfl;simp at e; subst e;exact ⟨a,.of_one g1 B,g⟩
  | [],_,m=>have:=m.1; simp at this
  | _::_::_,_,m=>have:=m.1; simp at this
 cases d with
 | zero=>cases f
 | succ d=>
  simp only [shapeOf] at f;cases j:P.underlying t with
  | none=>simp [j] at f
  | some u=>
   simp only [j] at f;cases u <;> simp only [reduceCtorEq] at f;case bool=>obtain ⟨b,rfl⟩:=okWide_bool j o; cases f; exact c l (by simpa [Value.cells] using h2) (by simp)
   case int k=>obtain ⟨b,rfl⟩:=okWide_int j o; cases f; exact c l (by simpa [Value.cells] using h2) (by simp)
   case string=>obtain ⟨b,rfl⟩:=okWide_string j o; cases f; exact c l (by simpa [Value.cells] using h2) (by simp)
   case slice e=>
    obtain ⟨a,len,cap,rfl⟩:=okWide_slice j o;have:∀ y,sh≠.st y:=by
     rintro y rfl;split at f
     ·cases f
     ·obtain ⟨_,_,h⟩:=jad.1 f; cases h
    exact c l (by simpa [Value.cells] using h2) this
   case struct y=>
    obtain ⟨cs,rfl,_⟩:=okWide_struct j o;obtain ⟨i,rfl⟩:∃ i,sh = .st i:=by
     split at f
     ·obtain ⟨s,_,h⟩:=jad.1 f; exact ⟨s,h.symm⟩
     ·cases f
    exact ⟨.ag as,⟨as,rfl,l⟩,CR.ag (by simpa [Value.cells] using h2)⟩
   case array n e=>
    obtain ⟨cs,rfl,_⟩:∃ cs,v = .agg cs/\cs.size=P.cellsOf t:=by
     simp only [Value.okWide,j] at o;obtain ⟨cs,l,h2,_⟩:=o;exact ⟨cs,l,h2⟩
    obtain ⟨i,rfl⟩:∃ i,sh = .st i:=by
     split at f
     ·obtain ⟨s,_,h⟩:=jad.1 f; exact ⟨_,h.symm⟩
     ·cases f
    exact ⟨.ag as,⟨as,rfl,l⟩,CR.ag (by simpa [Value.cells] using h2)⟩
theorem krx {d:Nat} {r:Reach} {b:Nat}:∀ {ts:Ya Yc} {e:Ya Sh} {vs:Ya Ye} {g:Ya (DataW H)} {k:Ya MemPlace},ts.mapM (shapeOf P d)=some e->
  (∀ (j:Nat) t v,ts[j]?=some t->vs[j]?=some v->Value.okWide P W r b t v)->DataW.TrodAll enc P W 0 (λ_=>true) true ts vs g k->
  ∃ as,EncPs e as/\vs.length=as.length/\g.length=ts.length/\∀ (j:Nat) (c:AV),as[j]?=some c->∃ u,vs[j]?=some u/\VR W noO mu0 0 c u
 | [],e,vs,g,k,hs,hv,ht=>by
  simp at hs; subst hs;cases vs <;> cases g <;> simp [DataW.TrodAll] at ht;exact ⟨[],trivial,rfl,rfl,λj c f=>by simp at f⟩
 | t::ts,e,vs,g,k,hs,hv,ht=>by
  simp only [jdu,Option.bind_eq_bind,jaa,Option.pure_def,Option.some.injEq] at hs;obtain ⟨s,l,E,i,rfl⟩:=hs;obtain ⟨v,n,F,m,p,q,rfl,rfl,rfl,C,h2⟩:=trodAll_cons ht;obtain ⟨a,g1,o⟩:=kyy l (hv 0 t v rfl rfl) C;obtain ⟨as,A,y,B,z⟩:=krx i (λj t v D x=>hv (j+1) t v (by simpa using D) (by simpa using x)) h2;refine ⟨a::as,⟨g1,A⟩,by simp [y],by simp [B],λj c f=>?_⟩;cases j with
  | zero=>simp at f; subst f; exact ⟨v,rfl,o⟩
  | succ j=>simpa using z j c (by simpa using f)
theorem knp (hl:laidOutB P=true) {g:World} (i:Below W.heap.size W g):∀ {ts:Ya Yc} {vs:Ya Ye} {c:Ya (DataW H)} {a:Ya MemPlace},(∀ t∈ts,P.readableRec t=true/\t<P.types.size)->
  DataW.TrodAll enc P W 0 (λ_=>true) true ts vs c a->(∀ x∈a,x.block<W.heap.size)->DataW.TrodAll enc P g 0 (λb=>decide (b<W.heap.size)) true ts vs c a
 | [],vs,c,a,_,h,_=>by cases vs <;> cases c <;> simp [DataW.TrodAll] at h ⊢; exact h
 | t::ts,vs,c,a,hr,h,hlt=>by
  obtain ⟨v,k,d,j,p,q,rfl,rfl,rfl,l,h2⟩:=trodAll_cons h;obtain ⟨r1,r2⟩:=hr t (by simp);exact ⟨p,q,Below.trod hl r1 r2 l i λx e=>hlt x (by simp [e]),knp hl i (λt' f=>hr t' (by simp [f])) h2 λx e=>hlt x (by simp [e]),rfl⟩
theorem law_lifted {C:Checked} {os:Os} {f:FuncId} {fn:Func} {s:ChangeSpec} (E:ownKnob C.prog.godebug=none) (g:os.Started) (y:laidOutB C.prog=true) (noInit:C.prog.inits.idxOf? f=none) (G:C.prog.funcs[f]?=some fn)
  (k:∃ (w:World) (tape:Tape) (i:Input),w.os=os/\(w.forCall tape i).Shaped C.prog/\i.vars=[]/\Input.okWide C.prog (w.forCall tape i) .any w.heap.size f i/\
   s.pre6 enc C.prog fn [] false (w.forCall tape i).memory i.args/\({}:Assume).holds C.prog (lone (Frame.enter C.prog f i.args .normal) [] (w.forCall tape i)))
  (a:s.vars=[]) (l:∀ o:Ya (DataW H),o.length=fn.params.toList.length->s.fn H o = { results:=[.lit (.bool true)],args:=o })
  {tb:Yc} (r:fn.resultTypes = #[tb]) (Y:C.prog.underlying tb=some .bool) {d:Nat} {A:Ya Sh} (D:fn.params.toList.mapM (shapeOf C.prog d)=some A)
  (m:fn.params.toList.all (λt=>C.prog.readableRec t&&decide (t<C.prog.types.size))=true) (S:∀ as,EncPs A as->PC C.prog f as (·= .sc (.bool true))) :
  ReturnsInHanded {} C os f .any (s.pre6 enc C.prog fn [] false) (s.post enc C.prog fn false true false false):=by
 refine returnsInHanded_of_change E g noInit G k ?_;intro W base args o gs B z hW J _;have hW':=hW;obtain ⟨p,q,hA,hV,rfl,M,R⟩:=hW;rw [a] at hV;obtain ⟨rfl,rfl⟩:=trodVars_none hV;obtain ⟨as,X,h2,Q,N⟩:=krx D (λj t v Z O=>z j t v (by simpa using Z) (by simpa using O)) hA;refine ((S as X).2 noO W args (λb h=>h.elim) (by simpa using h2) (λj c K=>by simpa using N j c K)).mono ?_;rintro e W' ⟨u,v,rfl,rfl,T,hB⟩;have F:=T.bool_inv;subst F;have I:∀ x∈p,x.block<W.heap.size:=λx L=>by simpa using hW'.lt x (List.mem_append_left _ L)
 have n:=l o Q;refine ⟨_,rfl,o,[],p++[],[],p,[],hW',?_,?_,?_,hB.frame _,λh=>by cases h⟩
 ·rw [jbe,n,r];exact trodAll_mk1 (shut_bool Y true)
 ·rw [jbe,n];exact knp y hB (λt U=>by have:=jam.1 m t U; simpa only [jac,jaj] using this) hA I
 ·rw [a,jbe,n];rfl
end
end Go.Abs
namespace Go.Abs
open Go
def Dec {α:Type} (sh:Sh) (f:α->Ya AV) (ok:α->Prop):Prop:=∀ as,Enc sh as->∃ x,as=f x/\ok x
def okI (k:IntKind) (n:Int):Prop:=(Lit.int k n).wf=true
def okS (l:Ya UInt8):Prop:=l.length<=maxLen
def okL {α:Type} (ok:α->Prop) (l:Ya α):Prop:=l.length<=maxLen/\∀ x∈l,ok x
theorem kAT:Dec .str str1 okS:=λas h=>by
 cases h with
 | str s h=>exact ⟨s.data.toList,by simp,by simpa [okS] using h⟩
theorem kAZ {α:Type} {e:Sh} {f:α->Ya AV} {ok:α->Prop} (h:Dec e f ok):Dec (.sl e) (sl1 f) (okL ok):=λas k=>by
 cases k with
 | sl _ es m hl=>
  have:∀ es:Ya (Ya AV),(∀ x∈es,Enc e x)->∃ l:Ya α,es=l.map f/\∀ x∈l,ok x:=by
   intro es;induction es with
   | nil=>exact λ_=>⟨[],rfl,λx g=>by cases g⟩
   | cons a es j=>
    intro h2;obtain ⟨x,rfl,i⟩:=h a (h2 a (by simp));obtain ⟨l,rfl,c⟩:=j λy b=>h2 y (by simp [b]);exact ⟨x::l,rfl,λy b=>by
     rcases jbq.1 b with rfl | b
     ·exact i
     ·exact c y b⟩
  obtain ⟨l,rfl,c⟩:=this es m;exact ⟨l,rfl,by simpa using hl,c⟩
theorem ksK {as:Ya AV} (h:Enc (.st []) as):as=[]:=by cases h; rfl
theorem kmP {s:Sh} {b:Ya Sh} {bs:Ya AV} (h:Enc (.st (s::b)) bs):∃ a as,bs=a++as/\Enc s a/\Enc (.st b) as:=by
 cases h with
 | cons _ _ a as c h2=>exact ⟨a,as,rfl,c,h2⟩
theorem ktm {xs:Ya AV} (h:EncPs [] xs):xs=[]:=by cases xs with | nil=>rfl | cons _ _=>exact h.elim
theorem kqX {s:Sh} {b:Ya Sh} {xs:Ya AV} (h:EncPs (s::b) xs):∃ a as,xs=a::as/\EncP s a/\EncPs b as:=by
 cases xs with
 | nil=>exact h.elim
 | cons a as=>exact ⟨a,as,rfl,h.1,h.2⟩
end Go.Abs
namespace Go.Abs
open Go Go.RowKit
def okT:(t:Ty)->t.den->Prop
 | .i k,n=>okI k n
 | .s,l=>okS l
 | .sl t,l=>okL (okT t) l
 | .pr t u,x=>okT t x.1/\okT u x.2
 | .w t,x=>okT t x
 | _,_=>True
def okTs:(ts:Ya Ty)->(tup ts).den->Prop
 | [],_=>True
 | [t],x=>okT t x
 | t::u::ts,x=>okT t x.1/\okTs (u::ts) x.2
mutual
def shOk:Sh->Ty->Bool
 | .int k,.i k'=>k==k'
 | .bool,.b=>true
 | .str,.s=>true
 | .sl e,.sl t=>shOk e t
 | .st [],.un=>true
 | .st [f],.w t=>shOk f t
 | .st (f::g::fs),.pr t u=>shOk f t&&stOk (g::fs) u
 | _,_=>false
def stOk:Ya Sh->Ty->Bool
 | [f],t=>shOk f t
 | f::fs,.pr t u=>shOk f t&&stOk fs u
 | _,_=>false
end
mutual
theorem kkw:∀ (sh:Sh) (t:Ty),shOk sh t=true->Dec sh t.enc (okT t)
 | .int k,.i k',h=>by
  simp only [shOk,beq_iff_eq] at h;subst h;intro as c;cases c with | int _ n h=>exact ⟨n,rfl,h⟩
 | .bool,.b,_=>by
  intro as c;cases c with | bool b=>exact ⟨b,rfl,trivial⟩
 | .str,.s,_=>kAT
 | .sl e,.sl t,h=>kAZ (kkw e t (by simpa [shOk] using h))
 | .st [],.un,_=>λas c=>⟨(),ksK c,trivial⟩
 | .st [f],.w t,h=>λas c=>by
  obtain ⟨a,bs,rfl,l,h2⟩:=kmP c;cases ksK h2;obtain ⟨x,rfl,j⟩:=kkw f t (by simpa [shOk] using h) a l;exact ⟨x,by rw [jbe]; rfl,j⟩
 | .st (f::g::fs),.pr t u,h=>λas c=>by
  simp only [shOk,jac] at h;obtain ⟨a,bs,rfl,l,h2⟩:=kmP c;obtain ⟨x,rfl,j⟩:=kkw f t h.1 a l;obtain ⟨y,rfl,m⟩:=kym (g::fs) u h.2 bs h2;exact ⟨(x,y),rfl,j,m⟩
theorem kym:∀ (b:Ya Sh) (t:Ty),stOk b t=true->∀ as,Enc (.st b) as->∃ x,as=t.enc x/\okT t x
 | [f],t,h,as,ha=>by
  obtain ⟨a,bs,rfl,e,h2⟩:=kmP ha;cases ksK h2;obtain ⟨x,rfl,c⟩:=kkw f t (by simpa [stOk] using h) a e;exact ⟨x,by rw [jbe],c⟩
 | f::g::b,.pr t u,h,as,ha=>by
  simp only [stOk,jac] at h;obtain ⟨a,bs,rfl,e,h2⟩:=kmP ha;obtain ⟨x,rfl,c⟩:=kkw f t h.1 a e;obtain ⟨y,rfl,i⟩:=kym (g::b) u h.2 bs h2;exact ⟨(x,y),rfl,c,i⟩
end
theorem kxb {sh:Sh} {t:Ty} (h:shOk sh t=true) {a:AV} (g:EncP sh a):∃ x,t.dat=true->a=t.av x/\okT t x:=by
 cases sh with
 | st b=>
  obtain ⟨as,rfl,i⟩:=g;obtain ⟨x,rfl,c⟩:=kkw (.st b) t h as i;refine ⟨x,λ_=>⟨?_,c⟩⟩;have:t.agg=true:=by
   cases t <;> first | rfl | (cases b with
    | nil=>simp [shOk] at h
    | cons f b=>cases b <;> simp [shOk] at h)
  rw [khb this]
 | _=>
  obtain ⟨x,e,c⟩:=kkw _ t h [a] g;refine ⟨x,λj=>⟨?_,c⟩⟩;have:t.agg=false:=by
   cases t <;> first | rfl | simp [shOk] at h
  have:=khk (x:=x) this j;rw [<-e] at this;exact (List.cons.inj this).1
def shsOk:Ya Sh->Ya Ty->Bool
 | [],[]=>true
 | s::ss,t::ts=>shOk s t&&t.dat&&shsOk ss ts
 | _,_=>false
theorem decPs {P:Yd}:∀ {c:Ya Sh} {ts:Ya Ty} {xs:Ya AV},shsOk c ts=true->EncPs c xs->∃ x:(tup ts).den,AR P ts x xs/\okTs ts x
 | [],[],xs,h,he=>by cases ktm he; exact ⟨(),rfl,trivial⟩
 | s::b,[t],xs,h,he=>by
  simp only [shsOk,jac] at h;obtain ⟨a,as,rfl,g,h2⟩:=kqX he;cases b with
  | cons s' b=>simp [shsOk] at h
  | nil=>
   cases ktm h2;obtain ⟨x,e⟩:=kxb h.1.1 g;obtain ⟨rfl,f⟩:=e h.1.2;exact ⟨x,⟨_,rfl,(kdk h.1.2).2 rfl⟩,f⟩
 | s::b,t::u::ts,xs,h,he=>by
  rw [show shsOk (s::b) (t::u::ts)=(shOk s t&&t.dat&&shsOk b (u::ts)) from rfl] at h;simp only [jac] at h;obtain ⟨a,as,rfl,g,h2⟩:=kqX he;obtain ⟨x,e⟩:=kxb h.1.1 g;obtain ⟨rfl,f⟩:=e h.1.2;obtain ⟨y,j,i⟩:=decPs (ts:=u::ts) h.2 h2;exact ⟨(x,y),⟨_,_,rfl,(kdk h.1.2).2 rfl,j⟩,f,i⟩
 | [],_::_,xs,h,he=>by simp [shsOk] at h
 | _::_,[],xs,h,he=>by simp [shsOk] at h
theorem law_of {P:Yd} {g:FuncId} {C:Ctr} (hG:Good P g C) {a:Ya Sh} (b:shsOk a C.as=true) (hF:∀ x,okTs C.as x->∃ r,C.F x=some r/\rav C.rs r = .sc (.bool true)) (xs:Ya AV) (c:EncPs a xs):PC P g xs (·= .sc (.bool true)):=by
 obtain ⟨x,f,i⟩:=decPs (P:=P) b c;obtain ⟨r,hr,e⟩:=hF x i;have:=hG.2.1 x r hr xs f;rw [e] at this;exact this
end Go.Abs
