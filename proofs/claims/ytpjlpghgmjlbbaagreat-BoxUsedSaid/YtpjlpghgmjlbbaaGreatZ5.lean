/- The machinery, part 5. -/
import Derived.Test.YtpjlpghgmjlbbaaGreatZ2
import Derived.Test.YtpjlpghgmjlbbaaGreatZ4
set_option linter.constructorNameAsVariable false
set_option linter.unusedVariables false
set_option linter.unusedSimpArgs false
set_option linter.unusedSectionVars false
namespace Go.Abs
open Go Go.RowKit
def liveP (h:AH):Nat->Bool:=λi=>(h i).isSome
section
variable {P:Yd} {f:FuncId} {args:Ya AV}
theorem HC.frm2 {h hE:AH} {n:Nat} {R K:K3} (I:Ya Nat) (hi:∀ i B,hE i=some B->I.contains i=true/\h i=some B) (hI:∀ i,I.contains i=true->i<n) (hn:∀ i,n<=i->h i=none)
  (hR:∀ v h' n',R v h' n'->On (liveP h') v/\∀ i B,h' i=some B->OnB (liveP h') B)
  (hc:HC P f args hE n R) (Z:∀ v h' n',R v h' n'->n<=n'->(∀ i B,h' i=some B->I.contains i=true\/(n<=i/\i<n'))->K v (λi=>if I.contains i||decide (n<=i) then h' i else h i) n'):HC P f args h n K:=by
 refine ⟨hc.1,λO μ w vs hr W S=>?_⟩;have hrI:HR w (Av O (muO I μ)) (muI I μ) hE n:=by
  refine ⟨λb o=>?_,λid b k e=>hr.scope id b k (kav e).2,λid a b k G e e'=>hr.inj id a b k G (kav e).2 (kav e').2,λid b k e hO=>?_,λid B hB=>?_⟩
  ·rcases o with o | ⟨id,k,o⟩
   ·exact hr.olt b o
   ·exact (hr.scope id b k (kbb o).2).2
  ·obtain ⟨t,M⟩:=kav e;rcases hO with hO | ⟨a,G,hO⟩
   ·exact hr.notO id b k M hO
   ·obtain ⟨L,e4⟩:=kbb hO;rw [hr.inj _ _ _ _ _ M e4] at t;rw [t] at L; cases L
  ·obtain ⟨l,h2⟩:=hi id B hB;exact (hr.blk id B h2).mapV (by simp only [muI]; rw [if_pos l]) λU=>U.split I
 refine (hc.2 (Av O (muO I μ)) (muI I μ) w vs hrI W (λj c hj=>?_)).mono ?_
 ·obtain ⟨u,l,h2⟩:=S j c hj;exact ⟨u,l,h2.split I⟩
 rintro e w' ⟨u,v,h',n',F,rfl,q1,E,q3,y⟩;have J:=y.le;let p:Nat->Bool:=λi=>I.contains i||decide (n<=i)
 have H:∀ {i},p i=false->I.contains i=false/\i<n:=λ{i} hp=>by simpa [p] using hp
 have A:∀ id,p id=true->(λi=>if p i then F i else μ i) id = F id:=λid h=>by simp only [h,if_true]
 have m:∀ id,p id=false->(λi=>if p i then F i else μ i) id = μ id:=λid h=>by simp only [h,jaf,if_false]
 have x:∀ id b k,F id=some (b,k)->p id=true:=λid b k e=>by
  rcases jbb (p id) with hp | hp
  ·exact hp
  ·obtain ⟨t,M⟩:=H hp;rcases y.ids id M with L | L
   ·rw [L] at e; rw [(kav e).1] at t; cases t
   ·rw [L] at e; cases e
 have C:∀ i B,h' i=some B->p i=true/\i<n':=λi B hB=>by
  have:=E.blk i B hB;cases B with
  | cells k T es=>obtain ⟨b,c,l,_⟩:=this; exact ⟨x i b k l,(E.scope i b k l).1⟩
  | map aa=>obtain ⟨b,es,l,_⟩:=this; exact ⟨x i b 0 l,(E.scope i b 0 l).1⟩
  | si s pos=>obtain ⟨b,l,_⟩:=this; exact ⟨x i b 0 l,(E.scope i b 0 l).1⟩
 have hliveP:∀ i,liveP h' i=true->p i=true/\i<n':=λi hi=>by
  obtain ⟨B,hB⟩:=jap.1 hi;exact C i B hB
 replace Z:=Z v h' n' q1 J λi B hB=>by
  obtain ⟨l,h2⟩:=C i B hB;simp only [p,jax,jaj] at l;rcases l with l | l
  ·exact .inl l
  ·exact .inr ⟨l,h2⟩
 obtain ⟨U,o⟩:=hR v h' n' q1;have D:∀ id b k,μ id=some (b,k)->p id=false->Av O (muO I μ) b:=λid b k e hp=>.inr ⟨id,k,by unfold muO; rw [if_neg (by rw [(H hp).1]; decide)]; exact e⟩;have Q:∀ b,Av O (λi=>if p i then F i else μ i) b->Av (Av O (muO I μ)) F b:=λb o=>by
  rcases o with o | ⟨id,k,o⟩
  ·exact .inl (.inl o)
  ·rcases jbb (p id) with hI' | hI'
   ·exact .inr ⟨id,k,(A id hI') ▸ o⟩
   ·exact .inl (D id b k ((m id hI') ▸ o) hI')
 have hE2:Evo w μ n w' (λi=>if p i then F i else μ i) n':=by
  refine ⟨y.os,y.tape,y.output,y.size,J,λb o hn=>y.keep b o λid k e=>hn id k (kav e).2,y.row,λid X=>?_,λid b k e hn=>?_⟩
  ·rcases jbb (p id) with hI' | hI'
   ·have e0:=A id hI';simp only at e0;rw [e0];have hIc:I.contains id=true:=by
     simp only [p,jax,jaj] at hI';rcases hI' with hI' | hI'
     ·exact hI'
     ·omega
    rcases y.ids id X with t | t
    ·rw [t]; left; unfold muI; rw [if_pos hIc]
    ·exact .inr t
   ·exact .inl (m id hI')
  ·rcases jbb (p id) with hI' | hI'
   ·rcases y.new id b k ((A id hI') ▸ e) hn with l | ⟨Y,k0,l⟩
    ·exact .inl l
    ·exact .inr ⟨Y,k0,(kav l).2⟩
   ·exact absurd (hr.scope id b k ((m id hI') ▸ e)).1 (by omega)
 have hH2:HR w' O (λi=>if p i then F i else μ i) (λi=>if p i then h' i else h i) n':=by
  refine ⟨λb o=>jao (hr.olt b o) y.size,λid b k e=>?_,λid a b k G e e'=>?_,λid b k e=>?_,λid B hB=>?_⟩
  ·rcases jbb (p id) with hI' | hI'
   ·exact E.scope id b k ((A id hI') ▸ e)
   ·have:=hr.scope id b k ((m id hI') ▸ e);exact ⟨jao this.1 J,jao this.2 y.size⟩
  ·rcases jbb (p id) with hI1 | hI1
   ·have t:F id=some (b,k):=(A id hI1) ▸ e;rcases jbb (p a) with hI2 | hI2
    ·exact E.inj id a b k G t ((A a hI2) ▸ e')
    ·exact absurd (D a b G ((m a hI2) ▸ e') hI2) (E.notO id b k t)
   ·have t:μ id=some (b,k):=(m id hI1) ▸ e;rcases jbb (p a) with hI2 | hI2
    ·exact absurd (D id b k t hI1) (E.notO a b G ((A a hI2) ▸ e'))
    ·exact hr.inj id a b k G t ((m a hI2) ▸ e')
  ·rcases jbb (p id) with hI' | hI'
   ·exact λhO=>E.notO id b k ((A id hI') ▸ e) (.inl hO)
   ·exact hr.notO id b k ((m id hI') ▸ e)
  ·rcases jbb (p id) with hI' | hI'
   ·simp only [hI',if_true] at hB;exact (E.blk id B hB).on (o id B hB) (A id hI') (λi h=>⟨A i (hliveP i h).1,(hliveP i h).2⟩) Q
   ·simp only [hI',jaf,if_false] at hB;refine (hr.blk id B hB).evo (m id hI') (λb k e=>y.keep b (hr.scope id b k e).2 λa G e'=>?_) hE2;obtain ⟨t,M⟩:=kav e';rw [hr.inj _ _ _ _ _ e M] at hI';rw [(H hI').1] at t; cases t
 exact ⟨u,_,_,_,_,rfl,Z,hH2,q3.on U (λi h=>⟨A i (hliveP i h).1,(hliveP i h).2⟩) Q,hE2⟩
end
section
variable (P:Yd)
def A1:(t:Ty)->t.den->AV->Prop
 | .fn n x y,F,a=>CV P n x y F a
 | t,x,a=>t.dat=true/\a=t.av x
inductive AL:List ((t:Ty)×t.den)->List AV->Prop
 | nil:AL [] []
 | cons {p:(t:Ty)×t.den} {a:AV} {l:List ((t:Ty)×t.den)} {as:List AV} (h:A1 P p.1 p.2 a) (hl:AL l as):AL (p::l) (a::as)
def PArgs:Ya (Yb Ty)->Ya ((t:Ty)×t.den)->Ya AV->Prop
 | some _::ks,p::l,a::as=>A1 P p.1 p.2 a/\PArgs ks l as
 | none::ks,l,_::as=>PArgs ks l as
 | [],[],[]=>True
 | _,_,_=>False
end
def tpA:Ya AV->AV
 | [a]=>a
 | l=>.tp l
def resE (vs:Ya AV):Env:=vs.zipIdx.map λx=>(1000000+x.2,x.1)
def offD {A:Alg} (s:TS A):TS A:=⟨s.env,s.hp,s.n,false⟩
def klE (P:Yd) (C:CtrM) (κ:Nat->Yb Nat) (ln:Nat->Nat) (y:C.out.ty.den) (args:Ya AV):K3:=λv h' n'=>
 ∃ κ' ln' vs,vs.length=C.nr/\v=tpA vs/\Rel P κ' ln' ahN ⟨[],[]⟩ (offD (kaf (A:=sem) C.out C.n1 y)) (resE vs++kat args) h' n'/\(∀ q B,h' q=some B->∃ id b,alk (kaf (A:=sem) C.out C.n1 y).hp id=some (some b)/\Ow κ' ln' id b q)/\∀ p∈C.inn,κ' p = κ p/\ln' p=ln p
def GoodM (P:Yd) (g:FuncId) (C:CtrM):Prop:=
 ∀ x y,C.F x=some y->∀ l1 l2,unT sem (C.ks.filterMap id++C.inp.tys) x=l1++l2->l1.length=(C.ks.filterMap id).length->∀ κ ln h n args,PArgs P C.ks l1 args->Rel P κ ln ahN ⟨[],[]⟩ (offD (kao (A:=sem) C.inp C.n0 l2)) (kat args) h n->
  HC P g args h n (klE P C κ ln y args)
section
variable {P:Yd} {κ κ' κ2:Nat->Yb Nat} {ln ln' ln2:Nat->Nat} {z z':AH} {c:Cx sem} {s:TS sem} {env:Env} {h h':AH} {n n' N N':Nat}
theorem Snap.freeN {a a':AV} (u:Snap ahN a a'):Free a:=by
 induction u with
 | free a v=>exact v
 | nilS=>exact .sc _
 | own _ _ _ _ _ _ _ _ hB=>cases hB
 | ms _ _ _ _ _ _ _ hB=>cases hB
 | fp cs i hl _ k=>
  refine (kkb cs).2 λc m=>?_;obtain ⟨q,j⟩:=jbg.1 m;obtain ⟨c',b⟩:=kai (l:=i) (l':=cs) hl.symm j;exact k q c c' j b
 | sl es es' hl w _ k=>
  refine (kqc es).2 λe t c m=>?_;obtain ⟨q,j⟩:=jbg.1 t;obtain ⟨e',o⟩:=kai (l:=es') (l':=es) hl.symm j;obtain ⟨p,hp⟩:=jbg.1 m;obtain ⟨c',b⟩:=kai (l:=e') (l':=e) (w q e e' j o).symm hp;exact k q e e' j o p c c' hp b
 | fn f cs i hl _ k=>
  refine (kiI f cs).2 λc m=>?_;obtain ⟨q,j⟩:=jbg.1 m;obtain ⟨c',b⟩:=kai (l:=i) (l':=cs) hl.symm j;exact k q c c' j b
 | ag cs i hl _ k=>
  refine (kqg cs).2 λc m=>?_;obtain ⟨q,j⟩:=jbg.1 m;obtain ⟨c',b⟩:=kai (l:=i) (l':=cs) hl.symm j;exact k q c c' j b
 | tp cs i hl _ k=>
  refine (kyH cs).2 λc m=>?_;obtain ⟨q,j⟩:=jbg.1 m;obtain ⟨c',b⟩:=kai (l:=i) (l':=cs) hl.symm j;exact k q c c' j b
theorem HC.up {g:FuncId} {as i:Ya AV} {K:K3} (v:HC P g i h n K) (hl:i.length=as.length) (A:∀ (j:Nat) (a a':AV),as[j]?=some a->i[j]?=some a'->a'=a\/Snap ahN a a'):HC P g as h n K:=by
 refine ⟨v.1,λO μ w vs hr o y=>v.2 O μ w vs hr (o.trans hl.symm) λj a' p=>?_⟩;obtain ⟨a,t⟩:=kai hl p;obtain ⟨u,x,m⟩:=y j a t;refine ⟨u,x,?_⟩;rcases A j a a' t p with rfl | l
 ·exact m
 ·have hz:=HR.zero w (Av O μ) λb e=>by
   rcases e with e | ⟨id,k,e⟩
   ·exact hr.olt b e
   ·exact (hr.scope id b k e).2
  exact (l.vr hz (m.free l.freeN λb e=>e)).lift λb e=>e
def TV.hasW (id:Nat):TV sem->Bool
 | .adr i _ _=>i==id
 | .aa i _=>i==id
 | .mw i=>i==id
 | .ms i _ _=>i==id
 | .fw i=>i==id
 | .fr i _=>i==id
 | .fo i _ _=>i==id
 | .fa i _ _ _=>i==id
 | .fn _ vs=>hasL vs
 | .tp vs=>hasL vs
 | .ag vs=>hasL vs
 | _=>false
where hasL:Ya (TV sem)->Bool
 | []=>false
 | v::vs=>v.hasW id||hasL vs
def TB.hasW (id:Nat):TB sem->Bool
 | .bx _ vs=>TV.hasW.hasL id vs
 | _=>false
mutual
theorem TVR.ren {f:Nat->Nat} (hz:∀ q B,z q=some B->z' q=some B):∀ {v:TV sem} {a:AV},TVR P κ ln z N v a->(∀ i,v.has i=true->κ' (f i) = κ i/\f i<N')->(∀ i,v.hasW i=true->ln' (f i)=ln i)->TVR P κ' ln' z' N' (renV f v) a
 | _,_,.un a,_,_=>.un a
 | _,_,.ud,_,_=>.ud
 | _,_,.gs t l,_,_=>.gs t l
 | _,_,.yl id q hi h,hf,_=>by
  obtain ⟨p,e⟩:=hf id (by simp [TV.has]);exact .yl _ q e (p.trans h)
 | _,_,.kp id hi,hf,_=>.kp _ (hf id (by simp [TV.has])).2
 | _,_,.c t x a hd h,_,_=>.c t x a hd (h.mono hz)
 | _,_,.kb b,_,_=>.kb b
 | _,_,.sc v h1,_,_=>.sc v h1
 | _,_,.ptr id j q hi h,hf,_=>by
  obtain ⟨p,e⟩:=hf id (by simp [TV.has]);exact .ptr _ j q e (p.trans h)
 | _,_,.adr id i j q hi h h0 h1,hf,hw=>by
  obtain ⟨p,e⟩:=hf id (by simp [TV.has]);exact .adr _ i j q e (p.trans h) h0 (by rw [hw id (by simp [TV.hasW])]; exact h1)
 | _,_,.aa id i q hi h h0 h1,hf,hw=>by
  obtain ⟨p,e⟩:=hf id (by simp [TV.has]);exact .aa _ i q e (p.trans h) h0 (by rw [hw id (by simp [TV.hasW])]; exact h1)
 | _,_,.fq t x o a hd h,_,_=>.fq t x o a hd (h.mono hz)
 | _,_,.mw0 id hi h,hf,_=>by
  obtain ⟨p,e⟩:=hf id (by simp [TV.has]);exact .mw0 _ e (p.trans h)
 | _,_,.mw id q hi h,hf,hw=>by
  obtain ⟨p,e⟩:=hf id (by simp [TV.has]);rw [<-hw id (by simp [TV.hasW])]; exact .mw _ q e (p.trans h)
 | _,_,.ms0 id off len hi h ho hl,hf,_=>by
  obtain ⟨p,e⟩:=hf id (by simp [TV.has]);exact .ms0 _ off len e (p.trans h) ho hl
 | _,_,.ms id off len q hi h h0 h1 h2,hf,hw=>by
  obtain ⟨p,e⟩:=hf id (by simp [TV.has]);exact .ms _ off len q e (p.trans h) h0 h1 (by rw [hw id (by simp [TV.hasW])]; exact h2)
 | _,_,.mp id q hi h,hf,_=>by
  obtain ⟨p,e⟩:=hf id (by simp [TV.has]);exact .mp _ q e (p.trans h)
 | _,_,.fw0 id hi h,hf,_=>by
  obtain ⟨p,e⟩:=hf id (by simp [TV.has]);exact .fw0 _ e (p.trans h)
 | _,_,.fw id q hi h,hf,hw=>by
  obtain ⟨p,e⟩:=hf id (by simp [TV.has]);rw [<-hw id (by simp [TV.hasW])]; exact .fw _ q e (p.trans h)
 | _,_,.fr0 id i m hi h0 h,hf,hw=>by
  obtain ⟨p,e⟩:=hf id (by simp [TV.has]);exact .fr0 _ i m e h0 (by rw [hw id (by simp [TV.hasW])]; exact h)
 | _,_,.fr id i r m hi h0 h,hf,hw=>by
  obtain ⟨p,e⟩:=hf id (by simp [TV.has]);exact .fr _ i r m e h0 (by rw [hw id (by simp [TV.hasW])]; exact h)
 | _,_,.fo id i j q hi h h0 h1,hf,hw=>by
  obtain ⟨p,e⟩:=hf id (by simp [TV.has]);exact .fo _ i j q e (p.trans h) h0 (by rw [hw id (by simp [TV.hasW])]; exact h1)
 | _,_,.fa id i k o r m hi h0 h hk hm,hf,hw=>by
  obtain ⟨p,e⟩:=hf id (by simp [TV.has]);exact .fa _ i k o r m e h0 (by rw [hw id (by simp [TV.hasW])]; exact h) hk hm
 | _,_,.fn g vs as h,hf,hw=>.fn g _ as (TVRs.ren hz h (λi hi=>hf i (by simpa [TV.has] using hi)) λi hi=>hw i (by simpa [TV.hasW] using hi))
 | _,_,.cv n x y F a h,_,_=>.cv n x y F a h
 | _,_,.tp vs as h,hf,hw=>.tp _ as (TVRs.ren hz h (λi hi=>hf i (by simpa [TV.has] using hi)) λi hi=>hw i (by simpa [TV.hasW] using hi))
 | _,_,.ag vs as h h1,hf,hw=>.ag _ as (TVRs.ren hz h (λi hi=>hf i (by simpa [TV.has] using hi)) λi hi=>hw i (by simpa [TV.hasW] using hi)) h1
theorem TVRs.ren {f:Nat->Nat} (hz:∀ q B,z q=some B->z' q=some B):∀ {v:Ya (TV sem)} {a:Ya AV},TVRs P κ ln z N v a->(∀ i,TV.has.hasL i v=true->κ' (f i) = κ i/\f i<N')->(∀ i,TV.hasW.hasL i v=true->ln' (f i)=ln i)->TVRs P κ' ln' z' N' (renL f v) a
 | _,_,.nil,_,_=>.nil
 | _,_,.cons v a vs as h hs,hf,hw=>.cons _ a _ as (TVR.ren hz h (λi hi=>hf i (by simp [TV.has.hasL,hi])) λi hi=>hw i (by simp [TV.hasW.hasL,hi])) (TVRs.ren hz hs (λi hi=>hf i (by simp [TV.has.hasL,hi])) λi hi=>hw i (by simp [TV.hasW.hasL,hi]))
end
theorem kwu (f:Nat->Nat):∀ vs:Ya (TV sem),(renL f vs).length=vs.length
 | []=>rfl
 | v::vs=>by simp [renL,kwu f vs]
theorem BR.ren {f:Nat->Nat} {id:Nat} {B:TB sem} (J:BR P κ ln z h N id B) (hz:∀ q B,z q=some B->z' q=some B) (C:∀ q AB,Ow κ ln id B q->h q=some AB->h' q=some AB) (hi:κ' (f id) = κ id) (hl:B.needL=true->ln' (f id)=ln id) (L:∀ i,B.has i=true->κ' (f i) = κ i/\f i<N') (Q:∀ i,B.hasW i=true->ln' (f i)=ln i):BR P κ' ln' z' h' N' (f id) (renB f B):=by
 cases J with
 | bx T vs q as b a y w=>exact .bx T _ q as (hi.trans b) (by rw [kwu]; exact C q _ (.inl b) a) (TVRs.ren hz y (λi A=>L i (by simpa [TB.has] using A)) λi A=>Q i (by simpa [TB.hasW] using A)) w
 | el T t x q cs p b a y w o=>exact .el T t x q cs p (hi.trans b) (C q _ (.inl b) a) (y.mono hz) w (λn u e=>by subst e; rw [hl rfl]; exact o n u rfl)
 | sl0 T t l p b o hn=>exact .sl0 T t l p (hi.trans b) o (by rw [hl rfl]; exact hn)
 | sl T t l q es p b a y w hn=>exact .sl T t l q es p (hi.trans b) (C q _ (.inl b) a) (y.mono hz) w (by rw [hl rfl]; exact hn)
 | mp k v l q O D b a=>exact .mp k v l q O D (hi.trans b) (C q _ (.inl b) a)
 | si x q b F a=>exact .si x q (hi.trans b) F (C q _ (.inl b) a)
 | fm0 T t j U u l H p b o hn=>exact .fm0 T t j U u l H p (hi.trans b) o (by rw [hl rfl]; exact hn)
 | fm T t j U u l H q es p b a hn G y F w=>
  refine .fm T t j U u l H q es p (hi.trans b) (C q _ (.inl b) a) (by rw [hl rfl]; exact hn) G (λi x e I h2 M E K=>?_) (by rw [hl rfl]; exact F) w;rw [hl rfl] at E;refine (y i x e I h2 M E K).mono hz λr B hr hB=>C r B (.inr ⟨rfl,?_⟩) hB;obtain ⟨r',m⟩:=I;simp only at hr; subst hr;exact kaL E
theorem kkL {α β:Type} (f:Nat->Nat) (g:α->β):∀ (l:Ya (Nat×α)) {id:Nat} {b:β},alk (l.map λx=>(f x.1,g x.2)) id=some b->∃ k a,alk l k=some a/\f k=id/\b=g a
 | [],id,b,h=>by cases h
 | (k,a)::l,id,b,h=>by
  simp only [jas,alk] at h;split at h
  ·rename_i e; cases h; exact ⟨k,a,by simp [alk],e.symm,rfl⟩
  ·rename_i e;obtain ⟨m,a',i,h2,j⟩:=kkL f g l h;refine ⟨m,a',?_,h2,j⟩;simp only [alk]; rw [if_neg]; exact i;rintro rfl; exact e h2.symm
end
section
variable {P:Yd} {κ κ' κ2:Nat->Yb Nat} {ln ln' ln2:Nat->Nat} {z z':AH} {c:Cx sem} {s:TS sem} {env:Env} {h h':AH} {n n' N N':Nat}
theorem krU:∀ (l:Ya Nat) {x a:Nat},alk (l.map λi=>(i,i)) x=some a->x=a
 | [],x,a,h=>by simp [alk] at h
 | i::l,x,a,h=>by
  simp only [jas,alk] at h;split at h
  ·rename_i e; cases h; exact e
  ·exact krU l h
theorem kuF (R:Rel P κ ln z c s env h n) {p:Pat} {m:Mt sem} {S:Ya Nat} (hp:packM c N p s S=some m) (hs:m.sn=[]) (ad:z=ahN) :
  ∃ κ2 ln2,Rel P κ2 ln2 ahN ⟨[],[]⟩ (offD (kao (A:=sem) p N m.cs)) env h n/\(∀ p q,alk m.ids p=some q->κ2 p = κ q/\ln2 p=ln q/\p<N)/\
   (∀ id b,alk (kao (A:=sem) p N m.cs).hp id=some b->∃ B q t,b=some B/\alk m.ids id=some q/\alk s.hp q=some (some t)/\B.isF=t.isF)/\(∀ x y a,alk m.ids x=some a->alk m.ids y=some a->x=y)/\(∀ id,(alk (kao (A:=sem) p N m.cs).hp id).isSome=(alk p.hp id).isSome):=by
 unfold packM at hp;obtain ⟨m1,ab,hp⟩:=jab.1 hp;obtain ⟨m',hm,hp⟩:=jab.1 hp;obtain ⟨F,hp⟩:=jdl.1 hp;cases hp;simp only [jan,jaj] at F;have L:=F;obtain ⟨U,a1,O,W,a4⟩:=kpE R _ ab;obtain ⟨G,b1,b2,b3,b4⟩:=koU R _ hm;simp only [jbd] at a1;have Y:m.cs=U++G:=by rw [b1,a1]
 have C:Inj m:=b3 (W (λx y a hx Z=>(krU S hx).trans (krU S Z).symm));let κ2:Nat->Yb Nat:=λid=>match alk m.ids id with | some q=>κ q | none=>none
 let ln2:Nat->Nat:=λid=>match alk m.ids id with | some q=>ln q | none=>0
 have e:∀ {p q:Nat},alk m.ids p=some q->κ2 p = κ q/\ln2 p=ln q:=λ{p q} o=>by simp only [κ2,ln2,o]; exact ⟨trivial,trivial⟩
 have aa:hz (ows κ ln c s) h z m.sn=ahN:=by rw [hs,kbG,ad]
 have fin:Fin (ows κ ln c s) κ ln h z m κ2 ln2 ahN N:=⟨λp q o=>⟨(e o).1,(e o).2,L _ (kaE o)⟩,λq B o=>by rw [aa] at o; exact o⟩;obtain ⟨E,e1,e2,e3⟩:=a4 κ2 ln2 _ N (fin.back R.zin b2) G;obtain ⟨H,f1,f2,f3⟩:=b4 κ2 ln2 _ N fin [];rw [jbe] at f1;have Q:(kao (A:=sem) p N m.cs).env=E:=by simp only [kao,Y,e1]
 have K:(kao (A:=sem) p N m.cs).hp=H:=by simp only [kao,Y,e1,f1]
 have J:∀ id B,thp (⟨[],[]⟩:Cx sem) (offD (kao (A:=sem) p N m.cs)) id=some B->alk H id=some (some B):=λid B hB=>by
  unfold thp at hB;rw [show (offD (kao (A:=sem) p N m.cs)).hp=H from K] at hB;cases hh:alk H id with
  | some b=>rw [hh] at hB; exact congrArg some hB
  | none=>rw [hh] at hB; cases hB
 have l:∀ {id:Nat} {B:TB sem},alk H id=some (some B)->∃ q t,alk m.ids id=some q/\alk s.hp q=some (some t)/\BR P κ2 ln2 ahN h N id B/\B.isF=t.isF:=λ{id B} hB=>by
  obtain ⟨I,q,t,g1,u,w,D⟩:=f2 id _ hB;cases g1;exact ⟨q,t,u,w,D⟩
 refine ⟨κ2,ln2,⟨λy=>?_,λid B hB=>?_,λid B hB=>?_,λi j B I q hi X ki kj=>?_,λq B o=>(by cases o),λid B q hB hk=>rfl,λid B q hB hk=>?_,R.hn,λx v hx=>rfl,λid b hb=>rfl,λ_=>rfl,λq k T es o=>(by cases o),λid B hB hf=>?_⟩,λp q o=>⟨(e o).1,(e o).2,L _ (kaE o)⟩,λid b hb=>?_,C,λid=>by rw [K]; exact f3 id⟩
 ·unfold tlk;rw [show (offD (kao (A:=sem) p N m.cs)).env=E from Q];cases Z:alk E y with
  | some v=>exact e2 y v Z
  | none=>exact .un _
 ·obtain ⟨q,t,u,w,D⟩:=l (J id B hB); exact D.1
 ·obtain ⟨q,t,u,w,D⟩:=l (J id B hB); exact L _ (kaE u)
 ·obtain ⟨qi,Bi,u,w,D⟩:=l (J i B hi);obtain ⟨qj,Bj,k2,k3,k4⟩:=l (J j I X);rw [(e u).1] at ki;rw [(e k2).1] at kj;have:=R.inj qi qj _ _ q (kab w) (kab k3) ki kj;subst this;exact C i j qi u k2
 ·obtain ⟨q',t,u,w,D⟩:=l (J id B hB);rw [(e u).1] at hk;exact R.bnd q' t q (kab w) hk
 ·obtain ⟨S,t,u,w,D,g5⟩:=l (J id B hB);obtain ⟨k1,k2⟩:=R.fam S t (kab w) (by rw [<-g5]; exact hf);rw [(e u).2];refine ⟨k1,λr hr=>?_⟩;obtain ⟨l1,l2,l3,l4⟩:=k2 r hr;refine ⟨l1,rfl,λj I X=>?_,λj I X ac M=>?_⟩
  ·obtain ⟨j0,B1,O,W,a4⟩:=l (J j I X);rw [(e O).1]; exact l3 j0 B1 (kab W)
  ·obtain ⟨j0,B1,O,W,a4,a5⟩:=l (J j I X);rw [(e O).2] at M;have:=l4 j0 B1 (kab W) (by rw [<-a5]; exact ac) M;subst this;exact C _ _ _ O u
 ·rw [K] at hb;obtain ⟨I,q,t,g1,u,w,D,g5⟩:=f2 id b hb;exact ⟨I,q,t,g1,u,w,g5⟩
theorem kpU:∀ (l:Ya (Nat×PV)) (xs:Ya ((t:Ty)×sem.D t)) (x:Nat) (a:PV) (v:TV sem),alk l x=some a->(∀ xs:Ya ((t:Ty)×sem.D t),(unV (A:=sem) a xs).1=v)->alk (unE (A:=sem) l xs).1 x=some v
 | [],xs,x,a,v,h,_=>by cases h
 | (k,p)::l,xs,x,a,v,h,hv=>by
  simp only [unE,alk] at h ⊢;split at h
  ·rename_i e;cases h;rw [if_pos e,hv]
  ·rename_i e;rw [if_neg e];exact kpU l _ x a v h hv
end
def pureA:Ya (Yb Ty)->Ya AV->Ya AV
 | some _::ks,v::vs=>v::pureA ks vs
 | none::ks,_::vs=>pureA ks vs
 | _,_=>[]
def kdd:Ya (Yb Ty)->Ya AV->Ya AV->Ya AV
 | some _::ks,b::bs,_::as=>b::kdd ks bs as
 | none::ks,bs,a::as=>a::kdd ks bs as
 | _,_,_=>[]
section
variable {P:Yd} {κ κ' κ2:Nat->Yb Nat} {ln ln' ln2:Nat->Nat} {z z':AH} {c:Cx sem} {s:TS sem} {env:Env} {h h':AH} {n n' N N':Nat}
theorem ktk:∀ (ks:Ya (Yb Ty)) {args:Ya (TV sem)} {as:Ya AV},TVRs P κ ln z N args as->TVRs P κ ln z N (pureV ks args) (pureA ks as)
 | [],_,_,h=>by cases h <;> exact .nil
 | some _::ks,_,_,.nil=>.nil
 | none::ks,_,_,.nil=>.nil
 | some _::ks,_,_,.cons v a vs as h hs=>.cons _ _ _ _ h (ktk ks hs)
 | none::ks,_,_,.cons v a vs as h hs=>ktk ks hs
theorem ksb:∀ (ks:Ya (Yb Ty)) {l:Ya ((t:Ty)×t.den)} {bs as:Ya AV},as.length=ks.length->AL P l bs->l.length=(ks.filterMap id).length->SnapL z (pureA ks as) bs->
  (kdd ks bs as).length=as.length/\PArgs P ks l (kdd ks bs as)/\∀ (j:Nat) (a a':AV),as[j]?=some a->(kdd ks bs as)[j]?=some a'->a'=a\/Snap z a a'
 | [],l,bs,as,hl,hA,hc,hs=>by
  cases as with
  | cons _ _=>simp at hl
  | nil=>
   cases l with
   | cons _ _=>simp at hc
   | nil=>exact ⟨rfl,trivial,λj a a' h=>by simp at h⟩
 | none::ks,l,bs,as,hl,hA,hc,hs=>by
  cases as with
  | nil=>simp at hl
  | cons a as=>
   obtain ⟨k,h2,o⟩:=ksb ks (by simpa using hl) hA (by simpa using hc) hs;refine ⟨by simp [kdd,k],h2,λj x m i e=>?_⟩;cases j with
   | zero=>simp [kdd] at i e; subst i; subst e; exact .inl rfl
   | succ j=>exact o j x m (by simpa using i) (by simpa [kdd] using e)
 | some t::ks,l,bs,as,hl,hA,hc,hs=>by
  cases as with
  | nil=>simp at hl
  | cons a as=>
   cases hs with
   | cons k1 k2=>
    rename_i b bs;cases hA with
    | cons g1 u=>
     rename_i p l;obtain ⟨k,h2,o⟩:=ksb ks (by simpa using hl) u (by simpa using hc) k2;refine ⟨by simp [kdd,k],⟨g1,h2⟩,λj x m i e=>?_⟩;cases j with
     | zero=>simp [kdd] at i e; subst i; subst e; exact .inr k1
     | succ j=>exact o j x m (by simpa using i) (by simpa [kdd] using e)
theorem krS:∀ (ks:Ya (Yb Ty)) (vs:Ya (TV sem)) (k x:Nat) (v:TV sem),alk (patE ks vs k) x=some v->k<=x
 | [],_,k,x,v,h=>by simp [patE,alk] at h
 | some _::ks,[],k,x,v,h=>by simp [patE,alk] at h
 | none::ks,[],k,x,v,h=>by simp [patE,alk] at h
 | some _::ks,_::vs,k,x,v,h=>by have:=krS ks vs (k+1) x v h; omega
 | none::ks,_::vs,k,x,v,h=>by
  simp only [patE,alk] at h;split at h
  ·omega
  ·have:=krS ks vs (k+1) x v h; omega
theorem ktL:∀ (ks:Ya (Yb Ty)) {args:Ya (TV sem)} {as bs:Ya AV} (k:Nat),TVRs P κ ln z N args as->args.length=ks.length->bs.length=(ks.filterMap id).length->∀ x,TVR P κ ln z N ((alk (patE ks args k) x).getD .un) (lk (((kdd ks bs as).zipIdx k).map λ(v,i)=>(i,v)) x)
 | [],args,as,bs,k,h,hl,hb,x=>by simp only [patE,alk]; exact .un _
 | some t::ks,_,_,bs,k,.nil,hl,hb,x=>by simp at hl
 | none::ks,_,_,bs,k,.nil,hl,hb,x=>by simp at hl
 | none::ks,_,_,bs,k,.cons v a vs as h hs,hl,hb,x=>by
  simp only [patE,kdd,jbj,jas,alk,lk];by_cases e:x=k
  ·simp only [if_pos e]; exact h
  ·simp only [if_neg e]; exact ktL ks (k+1) hs (by simpa using hl) (by simpa using hb) x
 | some t::ks,_,_,bs,k,.cons v a vs as h hs,hl,hb,x=>by
  cases bs with
  | nil=>simp at hb
  | cons b bs=>
   simp only [patE,kdd,jbj,jas,lk];by_cases e:x=k
   ·simp only [if_pos e];cases j:alk (patE ks vs (k+1)) x with
    | some v=>have:=krS _ _ _ _ _ j; omega
    | none=>exact .un _
   ·simp only [if_neg e]; exact ktL ks (k+1) hs (by simpa using hl) (by simpa using hb) x
mutual
theorem ktx {f w:Nat->Bool}:∀ {v:TV sem},v.all f w=true->∀ i,v.has i=true->f i=true
 | .ptr j _,h,i,hi | .mp j,h,i,hi=>by simp only [TV.all,TV.has,beq_iff_eq] at h hi; rw [<-hi]; exact h
 | .adr j _ _,h,i,hi | .aa j _,h,i,hi | .mw j,h,i,hi | .ms j _ _,h,i,hi | .fw j,h,i,hi | .fo j _ _,h,i,hi=>by simp only [TV.all,TV.has,beq_iff_eq,jac] at h hi; rw [<-hi]; exact h.1
 | .fr _ _,h,i,hi | .fa _ _ _ _,h,i,hi=>by simp [TV.all] at h
 | .fn _ vs,h,i,hi | .tp vs,h,i,hi | .ag vs,h,i,hi=>krk (vs:=vs) (by simpa [TV.all] using h) i (by simpa [TV.has] using hi)
 | .un,h,i,hi=>by simp [TV.all] at h
 | .ud,h,i,hi | .c _ _,h,i,hi | .kb _,h,i,hi | .sc _,h,i,hi | .fq _ _ _,h,i,hi | .cv _ _ _ _,h,i,hi=>by simp [TV.has] at hi
theorem krk {f w:Nat->Bool}:∀ {vs:Ya (TV sem)},TV.all.allL f w vs=true->∀ i,TV.has.hasL i vs=true->f i=true
 | [],h,i,hi=>by simp [TV.has.hasL] at hi
 | v::vs,h,i,hi=>by
  simp only [TV.all.allL,jac] at h;simp only [TV.has.hasL,jax] at hi;rcases hi with hi | hi
  ·exact ktx h.1 i hi
  ·exact krk h.2 i hi
end
mutual
theorem kxm {f w:Nat->Bool}:∀ {v:TV sem},v.all f w=true->∀ i,v.hasW i=true->w i=true
 | .adr j _ _,h,i,hi | .aa j _,h,i,hi | .mw j,h,i,hi | .ms j _ _,h,i,hi | .fw j,h,i,hi | .fo j _ _,h,i,hi=>by simp only [TV.all,TV.hasW,beq_iff_eq,jac] at h hi; rw [<-hi]; exact h.2
 | .fr _ _,h,i,hi | .fa _ _ _ _,h,i,hi=>by simp [TV.all] at h
 | .fn _ vs,h,i,hi | .tp vs,h,i,hi | .ag vs,h,i,hi=>kpu (vs:=vs) (by simpa [TV.all] using h) i (by simpa [TV.hasW] using hi)
 | .un,h,i,hi=>by simp [TV.all] at h
 | .ptr _ _,h,i,hi | .mp _,h,i,hi | .ud,h,i,hi | .c _ _,h,i,hi | .kb _,h,i,hi | .sc _,h,i,hi | .fq _ _ _,h,i,hi | .cv _ _ _ _,h,i,hi=>by simp [TV.hasW] at hi
theorem kpu {f w:Nat->Bool}:∀ {vs:Ya (TV sem)},TV.all.allL f w vs=true->∀ i,TV.hasW.hasL i vs=true->w i=true
 | [],h,i,hi=>by simp [TV.hasW.hasL] at hi
 | v::vs,h,i,hi=>by
  simp only [TV.all.allL,jac] at h;simp only [TV.hasW.hasL,jax] at hi;rcases hi with hi | hi
  ·exact kxm h.1 i hi
  ·exact kpu h.2 i hi
end
mutual
theorem on_tv {p:Nat->Bool} {f w:Nat->Bool} (hp:∀ i q,f i=true->κ i=some q->p q=true):∀ {v:TV sem} {a:AV},TVR P κ ln ahN N v a->v.all f w=true->On p a
 | _,_,.un a,h=>by simp [TV.all] at h
 | _,_,.ud,h=>.free _ .ud
 | _,_,.gs t l,h=>by simp [TV.all] at h
 | _,_,.yl id q hi hq,h=>by simp [TV.all] at h
 | _,_,.kp id hi,h=>by simp [TV.all] at h
 | _,_,.c t x a hd hs,h=>.free _ hs.freeN
 | _,_,.kb b,h=>.free _ (.sc _)
 | _,_,.sc v h1,h=>.free _ (.sc _)
 | _,_,.ptr id j q hi hk,h=>.own _ _ _ (hp id q (by simpa [TV.all] using h) hk)
 | _,_,.adr id i j q hi hk h0 h1,h=>.own _ _ _ (hp id q (by simp [TV.all] at h; exact h.1) hk)
 | _,_,.aa id i q hi hk h0 h1,h=>.own _ _ _ (hp id q (by simp [TV.all] at h; exact h.1) hk)
 | _,_,.fq t x o a hd hs,h=>.free _ hs.freeN
 | _,_,.mw0 id hi hk,h=>.free _ (.sc _)
 | _,_,.mw id q hi hk,h=>.ms _ _ _ (hp id q (by simp [TV.all] at h; exact h.1) hk)
 | _,_,.ms0 id off len hi hk ho hl,h=>.free _ (.sc _)
 | _,_,.ms id off len q hi hk h0 h1 h2,h=>.ms _ _ _ (hp id q (by simp [TV.all] at h; exact h.1) hk)
 | _,_,.mp id q hi hk,h=>.mp _ (hp id q (by simpa [TV.all] using h) hk)
 | _,_,.fw0 id hi hk,h=>.free _ (.sc _)
 | _,_,.fw id q hi hk,h=>.ms _ _ _ (hp id q (by simp [TV.all] at h; exact h.1) hk)
 | _,_,.fr0 _ _ _ _ _ _,h | _,_,.fr _ _ _ _ _ _ _,h | _,_,.fa _ _ _ _ _ _ _ _ _ _ _,h=>by simp [TV.all] at h
 | _,_,.fo id i j q hi hk h0 h1,h=>.own _ _ _ (hp id q (by simp [TV.all] at h; exact h.1) hk)
 | _,_,.fn g vs as hs,h=>.fn g as λj a e=>kpO hp hs (by simpa [TV.all] using h) a (jak e)
 | _,_,.cv n x y F a hc,h=>by
  obtain ⟨g,as,rfl,k,_⟩:=hc;exact .free _ ((kiI _ _).2 k)
 | _,_,.tp vs as hs,h=>.tp as λj a e=>kpO hp hs (by simpa [TV.all] using h) a (jak e)
 | _,_,.ag vs as hs h1,h=>.ag as λj a e=>kpO hp hs (by simpa [TV.all] using h) a (jak e)
theorem kpO {p:Nat->Bool} {f w:Nat->Bool} (hp:∀ i q,f i=true->κ i=some q->p q=true):∀ {vs:Ya (TV sem)} {as:Ya AV},TVRs P κ ln ahN N vs as->TV.all.allL f w vs=true->∀ a∈as,On p a
 | _,_,.nil,h,a,ha=>by cases ha
 | _,_,.cons v a vs as hv hs,h,b,e=>by
  simp only [TV.all.allL,jac] at h;rcases jbu.1 e with rfl | e
  ·exact on_tv hp hv h.1
  ·exact kpO hp hs h.2 b e
end
theorem on_br {p:Nat->Bool} {f w:Nat->Bool} {id q:Nat} {B:TB sem} {AB:ABlk} (hp:∀ i q,f i=true->κ i=some q->p q=true) (hb:BR P κ ln ahN h N id B) (ha:B.all f w=true) (aa:∀ r,B.isF=true->r∈kar (ln id)->p r=true) (E:Ow κ ln id B q) (I:h q=some AB):OnB p AB:=by
 have L:∀ {es ys:Ya (Ya AV)},SnapE ahN es ys->∀ e∈es,∀ a∈e,On p a:=λ{es ys} Q e D a A=>by
  obtain ⟨i,hi⟩:=jbg.1 D;obtain ⟨e',K⟩:=kai (l:=ys) (l':=es) Q.1.symm hi;have O:=Q.2 i e e' hi K;obtain ⟨j,H⟩:=jbg.1 A;obtain ⟨c',C⟩:=kai (l:=e') (l':=e) O.len.symm H;exact .free _ (O.at j a c' H C).freeN
 have ac:=hb;rcases E with E | ⟨hf,hr⟩
 case inr=>
  cases B <;> simp only [TB.isF,jaf] at hf;obtain ⟨i,m,x,e,_,_,_,_,_,ys,_,_,_,es,g1,Y,_⟩:=hb.row hr;rw [g1] at I; cases I;exact L Y
 cases hb with
 | bx T vs M as b o F h1=>
  rw [E] at b; cases b; rw [I] at o; cases o;intro e D a A;simp at D; subst D;exact kpO hp F (by simpa [TB.all] using ha) a A
 | el T t x M cs W b o F h1 hl=>
  rw [E] at b; cases b; rw [I] at o; cases o;intro e D a A;simp at D; subst D;obtain ⟨j,H⟩:=jbg.1 A;obtain ⟨c',C⟩:=kai (l:=t.enc x) (l':=e) F.len.symm H;exact .free _ (F.at j a c' H C).freeN
 | sl0 T t l W b hl hn=>rw [E] at b; cases b
 | sl T t l M es W b o F h1 hn=>
  rw [E] at b; cases b; rw [I] at o; cases o;intro e D a A;obtain ⟨i,hi⟩:=jbg.1 D;obtain ⟨e',K⟩:=kai (l:=l.map t.enc) (l':=es) F.1.symm hi;have Q:=F.2 i e e' hi K;obtain ⟨j,H⟩:=jbg.1 A;obtain ⟨c',C⟩:=kai (l:=e') (l':=e) Q.len.symm H;exact .free _ (Q.at j a c' H C).freeN
 | mp k v l M ae hf b o=>
  rw [E] at b; cases b; rw [I] at o; cases o;intro x hx;obtain ⟨y,hy,rfl⟩:=jbc.1 hx;exact .free _ (kiD _ _ (kdt hf))
 | si x M b h0 o=>rw [E] at b; cases b; rw [I] at o; cases o; trivial
 | fm0 T t j U u l ho W b hl hn=>rw [E] at b; cases b
 | fm T t j U u l ho M es W b o hn ab F h0 h1=>
  rw [E] at b; cases b; rw [I] at o; cases o;have X:ho=none:=by simpa [TB.all] using ha
  subst X;intro e D a A;obtain ⟨i,hi⟩:=jbg.1 D;have ad:=(jag.1 hi).1;have hx:l[i]?=some (l[i]'(by omega)):=jae _;have J:(kae (ln id))[i]?=some ((kae (ln id))[i]'(by omega)):=jae _;obtain ⟨g1,Y,ys,g3,g4,Z⟩:=F i _ e _ hx hi J (by simp);obtain ⟨k,G⟩:=jbg.1 A;by_cases S:k=j
  ·subst S;generalize (kae (ln id))[i]'(by omega)=rm at Z J;obtain ⟨r,m⟩:=rm;cases r with
   | none=>obtain ⟨R,_⟩:=Z; rw [G] at R; cases R; exact .free _ (.sc _)
   | some r=>obtain ⟨R,_⟩:=Z; rw [G] at R; cases R; exact .ms _ _ _ (aa r rfl (kaL J))
  ·obtain ⟨c',C⟩:=kai (l:=t.enc (l[i]'(by omega))) (l':=e) g1 G;exact .free _ (Y k a c' S G C).freeN
end
section
variable {P:Yd} {f:FuncId} {args:Ya AV}
inductive OnF (p:Nat->Bool):AV->Prop
 | flat (a:AV) (h:Flat a):OnF p a
 | own (id i j:Nat) (h:p id=true):OnF p (.own id i j)
 | ms (id off len:Nat) (h:p id=true):OnF p (.ms id off len)
 | mp (id:Nat) (h:p id=true):OnF p (.mp id)
 | fn (f:FuncId) (cs:List AV) (h:∀ (j:Nat) (c:AV),cs[j]?=some c->OnF p c):OnF p (.fn f cs)
 | ag (cs:List AV) (h:∀ (j:Nat) (c:AV),cs[j]?=some c->OnF p c):OnF p (.ag cs)
 | tp (cs:List AV) (h:∀ (j:Nat) (c:AV),cs[j]?=some c->OnF p c):OnF p (.tp cs)
def OnBF (p:Nat->Bool):ABlk->Prop
 | .cells _ _ es=>∀ e∈es,∀ a∈e,OnF p a
 | .map b=>∀ x∈b,OnF p x.2
 | .si _ _=>True
theorem VR.onF {w:World} {C D:Nat->Prop} {B y:Mu} {n1 n2:Nat} {p:Nat->Bool} {a:AV} (E:OnF p a) (hp:∀ id,p id=true->y id = B id/\id<n2):∀ {v:Ye},VR w C B n1 a v->VR w D y n2 a v:=by
 induction E with
 | flat a h=>intro v l; exact l.flat h _ _ _ _
 | own id i j h=>
  intro v l;cases l with
  | own _ _ _ _ A o l=>exact .own id i j v (hp id h).2 o λb k e=>l b k ((hp id h).1 ▸ e)
 | ms id off len h=>
  intro v l;cases l with
  | ms _ _ _ _ A o l=>exact .ms id off len v (hp id h).2 o λb k e=>l b k ((hp id h).1 ▸ e)
 | mp id h=>
  intro v l;cases l with
  | mp _ _ A o l=>exact .mp id v (hp id h).2 o λb k e=>l b k ((hp id h).1 ▸ e)
 | fn f cs h u=>
  intro v l;cases l with
  | fn _ _ vs us t x hr=>exact .fn f cs vs us t x λj c m=>u j c m (hr j c m)
 | ag cs h u=>
  intro v l;cases l with
  | ag _ vs us t x o hr=>exact .ag cs vs us t x o λj c m=>u j c m (hr j c m)
 | tp cs h u=>
  intro v l;cases l with
  | tp _ vs us t x hr=>exact .tp cs vs us t x λj c m=>u j c m (hr j c m)
theorem BlkAt.onF {w:World} {H J:Nat->Prop} {A o:Mu} {n1 n2 id:Nat} {p:Nat->Bool} {B:ABlk} (v:BlkAt w H A n1 id B) (D:OnBF p B) (y:o id = A id) (hp:∀ id,p id=true->o id = A id/\id<n2):BlkAt w J o n2 id B:=by
 cases B with
 | cells k T es=>
  obtain ⟨b,c,l,h2,m⟩:=v;refine ⟨b,c,y.trans l,h2,λi e hi=>⟨(m i e hi).1,λj a C=>?_⟩⟩;obtain ⟨t,u,L,I⟩:=(m i e hi).2 j a C;exact ⟨t,u,L,I.onF (D e (jak hi) a (jak C)) hp⟩
 | map K=>
  obtain ⟨b,es,l,h2,m,t⟩:=v;refine ⟨b,es,y.trans l,h2,m,λi x hi=>?_⟩;obtain ⟨e,g1,E,F,M,G⟩:=t i x hi;exact ⟨e,g1,E,F,M,G.onF (D x (jak hi)) hp⟩
 | si s pos=>
  obtain ⟨b,l,h2⟩:=v;exact ⟨b,y.trans l,h2⟩
theorem VR.less {w:World} {O O':Nat->Prop} {μ:Mu} {n:Nat} (D:∀ b,O' b->O b) {a:AV} {v:Ye} (u:VR w O μ n a v):VR w O' μ n a v:=by
 have av:∀ {b:Nat},Av O' μ b->Av O μ b:=λh=>by
  rcases h with h | h
  ·exact .inl (D _ h)
  ·exact .inr h
 induction u with
 | sc v l=>exact .sc v l
 | ud=>exact .ud
 | gs es=>exact .gs es
 | un v=>exact .un v
 | e0 p=>exact .e0 p
 | own id i j v h l u=>exact .own id i j v h l u
 | ms id off len v h l u=>exact .ms id off len v h l u
 | mp id v h l u=>exact .mp id v h l u
 | fp cs b o us hA t l _ m=>exact .fp cs b o us (λx C=>hA x (av C)) t l m
 | slnil p=>exact .slnil p
 | sl es b o cap k us A y hA E t l _ m=>exact .sl es b o cap k us A y (λi e hi x C=>hA i e hi x (av C)) E t l m
 | fn f cs vs us B t _ m=>exact .fn f cs vs us B t m
 | ag cs vs us B t l _ m=>exact .ag cs vs us B t l m
 | tp cs vs us B t _ m=>exact .tp cs vs us B t m
theorem HC.frm3 {h hE hL:AH} {n:Nat} {R K:K3} {A:Ya AV} (I:Ya Nat) (hLs:∀ i B,hL i=some B->h i=some B/\I.contains i=false) (X:A.length=args.length) (hs:∀ (j:Nat) (a a':AV),args[j]?=some a->A[j]?=some a'->a'=a\/Snap hL a a') (hi:∀ i B,hE i=some B->I.contains i=true/\h i=some B) (hI:∀ i,I.contains i=true->i<n) (hn:∀ i,n<=i->h i=none)
  (hR:∀ v h' n',R v h' n'->OnF (liveP h') v/\∀ i B,h' i=some B->OnBF (liveP h') B)
  (hc:HC P f A hE n R) (hk:∀ v h' n',R v h' n'->n<=n'->(∀ i B,h' i=some B->I.contains i=true\/(n<=i/\i<n'))->K v (λi=>if I.contains i||decide (n<=i) then h' i else h i) n'):HC P f args h n K:=by
 refine ⟨hc.1,λO μ w vs hr ac ab=>?_⟩;let Z:Nat->Bool:=λi=>I.contains i||(hL i).isSome
 have hO2:∀ b,Av O (muP (λi=>!Z i) μ) b->Av O (muO I μ) b:=λb o=>by
  rcases o with o | ⟨id,k,o⟩
  ·exact .inl o
  ·obtain ⟨l,h2⟩:=kaR o;simp only [Z,jbf,jdo] at l;exact .inr ⟨id,k,by unfold muO; rw [if_neg (by rw [l.1]; decide)]; exact h2⟩
 have hO3:∀ b,Av O (muP (λi=>!Z i) μ) b->Av O (muP (λi=>!(hL i).isSome) μ) b:=λb o=>by
  rcases o with o | ⟨id,k,o⟩
  ·exact .inl o
  ·obtain ⟨l,h2⟩:=kaR o;simp only [Z,jbf,jdo] at l;exact .inr ⟨id,k,by unfold muP; rw [if_pos (by show (!(hL id).isSome)=true; rw [l.2]; rfl)]; exact h2⟩
 have sp:∀ {a:AV} {v:Ye},VR w O μ n a v->VR w (Av O (muP (λi=>!Z i) μ)) (muI I μ) n a v:=λhv=>(hv.split I).less hO2;have hrI:HR w (Av O (muP (λi=>!Z i) μ)) (muI I μ) hE n:=by
  refine ⟨λb o=>?_,λid b k e=>hr.scope id b k (kav e).2,λid m b k U e e'=>hr.inj id m b k U (kav e).2 (kav e').2,λid b k e hO=>?_,λid B hB=>?_⟩
  ·rcases o with o | ⟨id,k,o⟩
   ·exact hr.olt b o
   ·exact (hr.scope id b k (kaR o).2).2
  ·replace hO:=hO2 b hO;obtain ⟨t,F⟩:=kav e;rcases hO with hO | ⟨m,U,hO⟩
   ·exact hr.notO id b k F hO
   ·obtain ⟨E,M⟩:=kbb hO;rw [hr.inj _ _ _ _ _ F M] at t;rw [t] at E; cases E
  ·obtain ⟨l,h2⟩:=hi id B hB;exact (hr.blk id B h2).mapV (by simp only [muI]; rw [if_pos l]) sp
 refine (hc.2 (Av O (muP (λi=>!Z i) μ)) (muI I μ) w vs hrI (ac.trans X.symm) (λj c hj=>?_)).mono ?_
 ·obtain ⟨a,ha⟩:=kai X hj;obtain ⟨u,l,h2⟩:=ab j a ha;refine ⟨u,l,?_⟩;rcases hs j a c ha hj with rfl | ad
  ·exact sp h2
  ·have hz:∀ q B,hL q=some B->h q=some B/\(λi=>!(hL i).isSome) q=false:=λq B hq=>⟨(hLs q B hq).1,by simp [hq]⟩;have hp:=ad.vr (hr.part (p:=λi=>!(hL i).isSome) hz) (h2.splitP (λi=>!(hL i).isSome));exact hp.lift λb o=>by
    rcases o with o | ⟨id,k,o⟩
    ·exact hO3 b o
    ·obtain ⟨t,F⟩:=kav o;have E:(!(hL id).isSome)=true:=by
      cases hq:hL id with
      | none=>rfl
      | some B=>have:=(hLs id B hq).2; rw [t] at this; cases this
     exact .inr ⟨id,k,by unfold muP; rw [if_pos (by exact E)]; exact F⟩
 rintro e w' ⟨u,v,h',n',S,rfl,q1,W,q3,y⟩;have aa:=y.le;let p:Nat->Bool:=λi=>I.contains i||decide (n<=i)
 have J:∀ {i},p i=false->I.contains i=false/\i<n:=λ{i} hp=>by simpa [p] using hp
 have H:∀ id,p id=true->(λi=>if p i then S i else μ i) id = S id:=λid h=>by simp only [h,if_true]
 have x:∀ id,p id=false->(λi=>if p i then S i else μ i) id = μ id:=λid h=>by simp only [h,jaf,if_false]
 have C:∀ id b k,S id=some (b,k)->p id=true:=λid b k e=>by
  rcases jbb (p id) with hp | hp
  ·exact hp
  ·obtain ⟨t,F⟩:=J hp;rcases y.ids id F with E | E
   ·rw [E] at e; rw [(kav e).1] at t; cases t
   ·rw [E] at e; cases e
 have G:∀ i B,h' i=some B->p i=true/\i<n':=λi B hB=>by
  have:=W.blk i B hB;cases B with
  | cells k T es=>obtain ⟨b,c,l,_⟩:=this; exact ⟨C i b k l,(W.scope i b k l).1⟩
  | map ae=>obtain ⟨b,es,l,_⟩:=this; exact ⟨C i b 0 l,(W.scope i b 0 l).1⟩
  | si s pos=>obtain ⟨b,l,_⟩:=this; exact ⟨C i b 0 l,(W.scope i b 0 l).1⟩
 have hliveP:∀ i,liveP h' i=true->p i=true/\i<n':=λi hi=>by
  obtain ⟨B,hB⟩:=jap.1 hi;exact G i B hB
 replace hk:=hk v h' n' q1 aa λi B hB=>by
  obtain ⟨l,h2⟩:=G i B hB;simp only [p,jax,jaj] at l;rcases l with l | l
  ·exact .inl l
  ·exact .inr ⟨l,h2⟩
 obtain ⟨hv,o⟩:=hR v h' n' q1;have Q:∀ id b k D k2,S id=some (b,k)->μ D=some (b,k2)->p D=false->False:=λid b k D k2 e F hp=>by
  have af:=hr.scope D b k2 F;by_cases L:id<n
  ·rcases y.ids id L with E | E
   ·rw [E] at e;obtain ⟨M,e5⟩:=kav e;rw [hr.inj id D b k k2 e5 F] at M;rw [(J hp).1] at M; cases M
   ·rw [E] at e; cases e
  ·rcases y.new id b k e (Nat.le_of_not_lt L) with l | ⟨Y,k0,l⟩
   ·omega
   ·obtain ⟨M,e5⟩:=kav l;rw [hr.inj Y D b k0 k2 e5 F] at M;rw [(J hp).1] at M; cases M
 have hE2:Evo w μ n w' (λi=>if p i then S i else μ i) n':=by
  refine ⟨y.os,y.tape,y.output,y.size,aa,λb o hn=>y.keep b o λid k e=>hn id k (kav e).2,y.row,λid L=>?_,λid b k e hn=>?_⟩
  ·rcases jbb (p id) with hI' | hI'
   ·have e0:=H id hI';simp only at e0;rw [e0];have hIc:I.contains id=true:=by
     simp only [p,jax,jaj] at hI';rcases hI' with hI' | hI'
     ·exact hI'
     ·omega
    rcases y.ids id L with t | t
    ·rw [t]; left; unfold muI; rw [if_pos hIc]
    ·exact .inr t
   ·exact .inl (x id hI')
  ·rcases jbb (p id) with hI' | hI'
   ·rcases y.new id b k ((H id hI') ▸ e) hn with l | ⟨Y,k0,l⟩
    ·exact .inl l
    ·exact .inr ⟨Y,k0,(kav l).2⟩
   ·exact absurd (hr.scope id b k ((x id hI') ▸ e)).1 (by omega)
 have hH2:HR w' O (λi=>if p i then S i else μ i) (λi=>if p i then h' i else h i) n':=by
  refine ⟨λb o=>jao (hr.olt b o) y.size,λid b k e=>?_,λid m b k U e e'=>?_,λid b k e=>?_,λid B hB=>?_⟩
  ·rcases jbb (p id) with hI' | hI'
   ·exact W.scope id b k ((H id hI') ▸ e)
   ·have:=hr.scope id b k ((x id hI') ▸ e);exact ⟨jao this.1 aa,jao this.2 y.size⟩
  ·rcases jbb (p id) with hI1 | hI1
   ·have t:S id=some (b,k):=(H id hI1) ▸ e;rcases jbb (p m) with hI2 | hI2
    ·exact W.inj id m b k U t ((H m hI2) ▸ e')
    ·exact (Q id b k m U t ((x m hI2) ▸ e') hI2).elim
   ·have t:μ id=some (b,k):=(x id hI1) ▸ e;rcases jbb (p m) with hI2 | hI2
    ·exact (Q m b U id k ((H m hI2) ▸ e') t hI1).elim
    ·exact hr.inj id m b k U t ((x m hI2) ▸ e')
  ·rcases jbb (p id) with hI' | hI'
   ·exact λhO=>W.notO id b k ((H id hI') ▸ e) (.inl hO)
   ·exact hr.notO id b k ((x id hI') ▸ e)
  ·rcases jbb (p id) with hI' | hI'
   ·simp only [hI',if_true] at hB;exact (W.blk id B hB).onF (o id B hB) (H id hI') (λi h=>⟨H i (hliveP i h).1,(hliveP i h).2⟩)
   ·simp only [hI',jaf,if_false] at hB;refine (hr.blk id B hB).evo (x id hI') (λb k e=>y.keep b (hr.scope id b k e).2 λm U e'=>?_) hE2;obtain ⟨t,F⟩:=kav e';rw [hr.inj _ _ _ _ _ e F] at hI';rw [(J hI').1] at t; cases t
 exact ⟨u,_,_,_,_,rfl,hk,hH2,q3.onF hv (λi h=>⟨H i (hliveP i h).1,(hliveP i h).2⟩),hE2⟩
end
section
variable {P:Yd} {κ κ' κ2:Nat->Yb Nat} {ln ln' ln2:Nat->Nat} {z z':AH} {c:Cx sem} {s:TS sem} {env:Env} {h h':AH} {n n' N N':Nat}
theorem Rel.cut {t:TS sem} {h2:AH} (R:Rel P κ ln ahN ⟨[],[]⟩ t env h n) (b:∀ id B q,thp (⟨[],[]⟩:Cx sem) t id=some B->Ow κ ln id B q->h2 q=h q) (hn:∀ q,n<=q->h2 q=none):Rel P κ ln ahN ⟨[],[]⟩ t env h2 n:=
 ⟨R.env,λid B hB=>(R.blk id B hB).mono (λ_ _=>rfl) (λ_ _=>rfl) (λ_ _ h=>h) (jah _) (R.lt id B hB) (λq e a hB'=>by rw [b id B q hB a]; exact hB'),R.lt,R.inj,λq B a=>(by cases a),R.zout,R.bnd,hn,R.e0,R.g,R.dy,λq k T es a=>(by cases a),R.fam⟩
theorem kee {C:CtrM} {u:TS sem} (e:C.okU u=true) {id:Nat} {b:Yb (TB sem)} (l:alk u.hp id=some b):∃ B,b=some B/\id<C.n1/\B.all (λi=>(alk u.hp i).isSome) C.keptW=true/\C.kept id=true/\(B.needL=true->C.keptW id=true):=by
 unfold CtrM.okU at e;simp only [jac] at e;have:=jan.1 e.1 _ (kaE l);cases b with
 | none=>simp at this
 | some B=>
  simp only [jac,jax,jbf,jaj] at this;obtain ⟨⟨⟨j,h2⟩,k⟩,a⟩:=this;refine ⟨B,rfl,j,h2,k,λhn=>?_⟩;rcases a with a | a
  ·rw [hn] at a; cases a
  ·exact a
theorem ktt {C:CtrM} {u:TS sem} (a:C.okU u=true) {i:Nat} (hi:i<C.nr):∃ v,alk u.env (1000000+i)=some v/\v.all (λi=>(alk u.hp i).isSome) C.keptW=true:=by
 unfold CtrM.okU at a;simp only [jac] at a;have:=jan.1 a.2 i (jcw.2 hi);split at this
 ·rename_i v b; exact ⟨v,b,this⟩
 ·cases this
theorem knv {t:TS sem} {x:Nat} {v:TV sem} (a:alk t.env x=some v):tlk c t x=v:=by unfold tlk; rw [a]
theorem ksv:∀ (vs:Ya AV) (k i:Nat) (E:Env),k<=i->lk ((vs.zipIdx k).map (λx=>(1000000+x.2,x.1))++E) (1000000+i)=(vs[i-k]?).getD (lk E (1000000+i))
 | [],k,i,E,h=>by simp
 | v::vs,k,i,E,h=>by
  simp only [jbj,jas,jdv,lk];by_cases e:i=k
  ·subst e; simp
  ·rw [if_neg (by omega),ksv vs (k+1) i E (by omega),show i-k=(i-(k+1))+1 by omega,jbz]
theorem kBu {C:CtrM} {y:C.out.ty.den} {args:Ya AV} (p:C.okU (kaf (A:=sem) C.out C.n1 y)=true) {v:AV} {κ:Nat->Yb Nat} {ln:Nat->Nat} (G:klE P C κ ln y args v h' n'):On (liveP h') v/\∀ i B,h' i=some B->OnB (liveP h') B:=by
 obtain ⟨κ3,ln3,vs,u,rfl,R,m,_⟩:=G;have hp:∀ i q,(alk (kaf (A:=sem) C.out C.n1 y).hp i).isSome=true->κ3 i=some q->liveP h' q=true:=λi q hi K=>by
  obtain ⟨b,o⟩:=jap.1 hi;obtain ⟨B,rfl,_⟩:=kee p o;have hB:=R.blk i B (kab (s:=offD (kaf (A:=sem) C.out C.n1 y)) o);have:∃ AB,h' q=some AB:=by cases hB <;> simp_all
  obtain ⟨AB,l⟩:=this;unfold liveP; rw [l]; rfl
 have k:∀ i a,vs[i]?=some a->On (liveP h') a:=λi a hi=>by
  have x:i<C.nr:=by rw [<-u]; exact (jag.1 hi).1
  obtain ⟨v,l,h2⟩:=ktt p x;have w:=R.env (1000000+i);have F:tlk (⟨[],[]⟩:Cx sem) (offD (kaf (A:=sem) C.out C.n1 y)) (1000000+i)=v:=knv (t:=offD (kaf (A:=sem) C.out C.n1 y)) l;rw [F] at w;have I:lk (resE vs++kat args) (1000000+i)=a:=by
   have:=ksv vs 0 i (kat args) (Nat.zero_le _);rw [Nat.sub_zero,hi] at this;exact this
  rw [I] at w;exact on_tv hp w h2
 refine ⟨?_,λi B hB=>?_⟩
 ·unfold tpA;split
  ·exact k 0 _ rfl
  ·exact .tp _ λj a E=>k j a E
 ·obtain ⟨id,b,l,h2⟩:=m i B hB;obtain ⟨J,e,_,D,_⟩:=kee p l;cases e;have o:=R.blk id b (kab (s:=offD (kaf (A:=sem) C.out C.n1 y)) l);refine on_br hp o D (λr H hr=>?_) h2 hB;cases b <;> simp only [TB.isF,jaf] at H;obtain ⟨_,_,_,_,_,_,_,_,_,_,_,_,_,es,g1,_⟩:=o.row hr;unfold liveP; rw [g1]; rfl
end
section
variable {P:Yd} {κ κ' κ2:Nat->Yb Nat} {ln ln' ln2:Nat->Nat} {z z':AH} {c:Cx sem} {s:TS sem} {env:Env} {h h':AH} {n n' N N':Nat}
theorem kip:∀ (t:Ty) (x:t.den),t.flat=true->FlatL (t.enc x)
 | .i _,x,_ | .b,x,_ | .s,x,_=>by intro a e; simp [Ty.enc] at e; subst e; exact .sc _
 | .un,x,_=>by intro a e; simp [Ty.enc] at e
 | .w t,x,hf=>kip t x hf
 | .pr t u,x,hf=>by
  simp only [Ty.flat,jac] at hf;intro a e;replace e:a∈t.enc x.1++u.enc x.2:=e;rcases jaz.1 e with e | e
  ·exact kip t x.1 hf.1 a e
  ·exact kip u x.2 hf.2 a e
theorem kjU (t:Ty) (x:t.den) (e:t.flat=true):Flat (t.av x):=by
 have a:=kip t x e;cases b:t.agg with
 | true=>rw [kib b]; exact (kBX _).2 a
 | false=>rw [khO b (kdt e)] at a; exact a _ (by simp)
theorem Snap.flat {a a':AV} (m:Snap z a a'):Flat a'->Flat a:=by
 induction m with
 | free a o=>exact id
 | nilS=>intro h; cases h
 | own=>intro h; cases h
 | ms=>intro h; cases h
 | fp=>intro h; cases h
 | sl=>intro h; cases h
 | fn=>intro h; cases h
 | ag cs e hl hr k=>
  intro h;cases h with
  | ag _ h=>
   refine .ag cs λj c i=>?_;obtain ⟨c',b⟩:=kai (l:=e) (l':=cs) hl.symm i;exact k j c c' i b (h j c' b)
 | tp cs e hl hr k=>
  intro h;cases h with
  | tp _ h=>
   refine .tp cs λj c i=>?_;obtain ⟨c',b⟩:=kai (l:=e) (l':=cs) hl.symm i;exact k j c c' i b (h j c' b)
mutual
theorem kzU {p:Nat->Bool} {f w:Nat->Bool} (hp:∀ i q,f i=true->κ i=some q->p q=true):∀ {v:TV sem} {a:AV},TVR P κ ln ahN N v a->v.all f w=true->v.flt=true->OnF p a
 | _,_,.un a,h,hf=>by simp [TV.all] at h
 | _,_,.ud,h,hf=>by simp [TV.flt] at hf
 | _,_,.gs t l,h,hf=>by simp [TV.flt] at hf
 | _,_,.yl id q hi hq,h,hf=>by simp [TV.flt] at hf
 | _,_,.kp id hi,h,hf=>by simp [TV.flt] at hf
 | _,_,.c t x a hd hs,h,hf=>.flat _ (hs.flat (kjU t x (by simpa [TV.flt] using hf)))
 | _,_,.kb b,h,hf=>.flat _ (.sc _)
 | _,_,.sc v h1,h,hf=>.flat _ (.sc _)
 | _,_,.ptr id j q hi hk,h,hf=>.own _ _ _ (hp id q (by simpa [TV.all] using h) hk)
 | _,_,.adr id i j q hi hk h0 h1,h,hf=>.own _ _ _ (hp id q (by simp [TV.all] at h; exact h.1) hk)
 | _,_,.aa id i q hi hk h0 h1,h,hf=>.own _ _ _ (hp id q (by simp [TV.all] at h; exact h.1) hk)
 | _,_,.fq t x o a hd hs,h,hf=>by simp [TV.flt] at hf
 | _,_,.mw0 id hi hk,h,hf=>.flat _ (.sc _)
 | _,_,.mw id q hi hk,h,hf=>.ms _ _ _ (hp id q (by simp [TV.all] at h; exact h.1) hk)
 | _,_,.ms0 id off len hi hk ho hl,h,hf=>.flat _ (.sc _)
 | _,_,.ms id off len q hi hk h0 h1 h2,h,hf=>.ms _ _ _ (hp id q (by simp [TV.all] at h; exact h.1) hk)
 | _,_,.mp id q hi hk,h,hf=>.mp _ (hp id q (by simpa [TV.all] using h) hk)
 | _,_,.fw0 id hi hk,h,hf=>.flat _ (.sc _)
 | _,_,.fw id q hi hk,h,hf=>.ms _ _ _ (hp id q (by simp [TV.all] at h; exact h.1) hk)
 | _,_,.fr0 _ _ _ _ _ _,h,hf | _,_,.fr _ _ _ _ _ _ _,h,hf | _,_,.fa _ _ _ _ _ _ _ _ _ _ _,h,hf=>by simp [TV.all] at h
 | _,_,.fo id i j q hi hk h0 h1,h,hf=>.own _ _ _ (hp id q (by simp [TV.all] at h; exact h.1) hk)
 | _,_,.fn g vs as hs,h,hf=>.fn g as λj a e=>kmT hp hs (by simpa [TV.all] using h) (by simpa [TV.flt] using hf) a (jak e)
 | _,_,.cv n x y F a hc,h,hf=>by simp [TV.flt] at hf
 | _,_,.tp vs as hs,h,hf=>.tp as λj a e=>kmT hp hs (by simpa [TV.all] using h) (by simpa [TV.flt] using hf) a (jak e)
 | _,_,.ag vs as hs h1,h,hf=>.ag as λj a e=>kmT hp hs (by simpa [TV.all] using h) (by simpa [TV.flt] using hf) a (jak e)
theorem kmT {p:Nat->Bool} {f w:Nat->Bool} (hp:∀ i q,f i=true->κ i=some q->p q=true):∀ {vs:Ya (TV sem)} {as:Ya AV},TVRs P κ ln ahN N vs as->TV.all.allL f w vs=true->TV.flt.fltL vs=true->∀ a∈as,OnF p a
 | _,_,.nil,h,hf,a,ha=>by cases ha
 | _,_,.cons v a vs as hv hs,h,hf,b,e=>by
  simp only [TV.all.allL,jac] at h;simp only [TV.flt.fltL,jac] at hf;rcases jbu.1 e with rfl | e
  ·exact kzU hp hv h.1 hf.1
  ·exact kmT hp hs h.2 hf.2 b e
end
theorem kkz:∀ t:Ty,t.dat=true->(cellF t).length=t.wd
 | .i _,_ | .b,_ | .s,_ | .un,_ | .sl _,_ | .pt _,_ | .op _,_=>rfl
 | .w x,h=>kkz x h
 | .pr x y,h=>by
  simp only [Ty.dat,jac] at h;simp only [cellF,jba,Ty.wd];rw [kkz x h.1,kkz y h.2]
 | .ar n x,_=>by simp [cellF,Ty.wd]
theorem klh:∀ (t:Ty) (x:t.den),t.dat=true->∀ (q k:Nat) (a:AV),(cellF t)[q]?=some k->(t.enc x)[q]?=some a->(k=0->Flat a)/\(k=1->∀ ys,a = .sl ys->∀ e∈ys,FlatL e)
 | .i _,x,_,q,k,a,h1,h2 | .b,x,_,q,k,a,h1,h2 | .s,x,_,q,k,a,h1,h2=>by
  cases q with
  | zero=>simp only [cellF,jdj,Option.some.injEq] at h1; simp [Ty.enc] at h2; subst h1; subst h2; exact ⟨λ_=>.sc _,λe=>(by cases e)⟩
  | succ q=>simp [cellF] at h1
 | .un,x,_,q,k,a,h1,h2=>by simp [cellF] at h1
 | .w t,x,h,q,k,a,h1,h2=>klh t x h q k a h1 h2
 | .pr t u,x,h,q,k,a,h1,h2=>by
  simp only [Ty.dat,jac] at h;simp only [cellF] at h1;replace h2:(t.enc x.1++u.enc x.2)[q]?=some a:=h2;rw [jbo] at h1 h2;rw [kkz t h.1] at h1;rw [kag t x.1 h.1] at h2;split at h1
  ·rename_i j;rw [if_pos j] at h2;exact klh t x.1 h.1 q k a h1 h2
  ·rename_i j;rw [if_neg j] at h2;exact klh u x.2 h.2 _ k a h1 h2
 | .sl t,l,h,q,k,a,h1,h2=>by
  cases q with
  | succ q=>simp [cellF] at h1
  | zero=>
   simp only [cellF,jdj,Option.some.injEq] at h1;simp [Ty.enc] at h2;subst h1; subst h2;refine ⟨λe=>?_,λe ys m y p=>?_⟩
   ·split at e <;> cases e
   ·split at e
    ·rename_i o;cases m;obtain ⟨z,hz,rfl⟩:=jbc.1 p;exact kip t z o
    ·cases e
 | .pt t,x,h,q,k,a,h1,h2 | .op t,x,h,q,k,a,h1,h2=>by
  cases q with
  | succ q=>simp [cellF] at h1
  | zero=>
   simp only [cellF,jdj,Option.some.injEq] at h1;subst h1;exact ⟨λe=>(by cases e),λe=>(by cases e)⟩
 | .ar n t,x,h,q,k,a,h1,h2=>by
  simp only [cellF,jcd] at h1;split at h1
  ·cases h1;exact ⟨λe=>(by cases e),λe=>(by cases e)⟩
  ·cases h1
theorem kCO {p:Nat->Bool} {f w:Nat->Bool} {id q:Nat} {B:TB sem} {AB:ABlk} (hp:∀ i q,f i=true->κ i=some q->p q=true) (hb:BR P κ ln ahN h N id B) (S:B.all f w=true) (E:B.flt=true) (ac:∀ r,B.isF=true->r∈kar (ln id)->p r=true) (H:Ow κ ln id B q) (K:h q=some AB):OnBF p AB:=by
 have R:∀ {t:Ty} {j:Nat},t.dat=true->((cellF t).zipIdx.all λx=>x.1==0||(x.1==1&&x.2==j))=true->∀ (x:t.den) (k:Nat) (a:AV),(t.enc x)[k]?=some a->(k≠j->Flat a)/\(k=j->∀ ys,a = .sl ys->∀ e∈ys,FlatL e):=λ{t j} F W x k a S=>by
  have aa:k<(cellF t).length:=by rw [kkz t F,<-kag t x F]; exact (jag.1 S).1
  have hg:(cellF t)[k]?=some ((cellF t)[k]):=jae aa;have O:=klh t x F k _ a hg S;have:=jan.1 W ((cellF t)[k],k) (jdy.2 (by simp));simp only [jax,beq_iff_eq,jac] at this;refine ⟨λae=>?_,λD ys Z e ab=>?_⟩
  ·rcases this with h | ⟨_,h⟩
   ·exact O.1 h
   ·exact absurd h ae
  ·rcases this with h | ⟨h,_⟩
   ·have:=O.1 h; rw [Z] at this; cases this
   ·exact O.2 h ys Z e ab
 have af:=hb;rcases H with H | ⟨hf,hr⟩
 case inr=>
  cases B <;> simp only [TB.isF,jaf] at hf;rename_i T t jj U u l ho;have F:t.dat=true:=by cases af <;> assumption
  obtain ⟨i,m,x,e,_,_,_,_,_,ys,g3,_,_,es,g1,g2,_⟩:=hb.row hr;rw [g1] at K; cases K;intro e D a C;obtain ⟨i,hi⟩:=jbg.1 D;obtain ⟨e',G⟩:=kai (l:=ys) (l':=es) g2.1.symm hi;have Y:=g2.2 i e e' hi G;obtain ⟨j,L⟩:=jbg.1 C;obtain ⟨c',A⟩:=kai (l:=e') (l':=e) Y.len.symm L;exact .flat _ ((Y.at j a c' L A).flat ((R F (by simpa [TB.flt] using E) x jj _ g3).2 rfl ys rfl e' (jak G) c' (jak A)))
 cases hb with
 | bx T vs X as b o J h1=>
  rw [H] at b; cases b; rw [K] at o; cases o;intro e D a C;simp at D; subst D;exact kmT hp J (by simpa [TB.all] using S) (by simpa [TB.flt] using E) a C
 | el T t x X cs F b o J h1 hl=>
  rw [H] at b; cases b; rw [K] at o; cases o;intro e D a C;simp at D; subst D;obtain ⟨j,L⟩:=jbg.1 C;obtain ⟨c',A⟩:=kai (l:=t.enc x) (l':=e) J.len.symm L;exact .flat _ ((J.at j a c' L A).flat (kip t x (by simpa [TB.flt] using E) c' (jak A)))
 | sl0 T t l F b hl hn=>rw [H] at b; cases b
 | sl T t l X es F b o J h1 hn=>
  rw [H] at b; cases b; rw [K] at o; cases o;intro e D a C;obtain ⟨i,hi⟩:=jbg.1 D;obtain ⟨e',G⟩:=kai (l:=l.map t.enc) (l':=es) J.1.symm hi;have hs:=J.2 i e e' hi G;obtain ⟨j,L⟩:=jbg.1 C;obtain ⟨c',A⟩:=kai (l:=e') (l':=e) hs.len.symm L;obtain ⟨y,hy,rfl⟩:=jbc.1 (jak G);exact .flat _ ((hs.at j a c' L A).flat (kip t y (by simpa [TB.flt] using E) c' (jak A)))
 | mp k v l X ai hf b o=>
  rw [H] at b; cases b; rw [K] at o; cases o;intro x hx;obtain ⟨y,hy,rfl⟩:=jbc.1 hx;exact .flat _ (kjU _ _ hf)
 | si x X b h0 o=>rw [H] at b; cases b; rw [K] at o; cases o; trivial
 | fm0 T t j U u l ho F b hl hn=>rw [H] at b; cases b
 | fm T t j U u l ho X es F b o hn ah J h0 h1=>
  rw [H] at b; cases b; rw [K] at o; cases o;have ad:ho=none:=by simpa [TB.all] using S
  subst ad;intro e D a C;obtain ⟨i,hi⟩:=jbg.1 D;have aa:=(jag.1 hi).1;have hx:l[i]?=some (l[i]'(by omega)):=jae _;have M:(kae (ln id))[i]?=some ((kae (ln id))[i]'(by omega)):=jae _;obtain ⟨g1,g2,ys,g3,g4,g5⟩:=J i _ e _ hx hi M (by simp);obtain ⟨k,I⟩:=jbg.1 C;by_cases Q:k=j
  ·subst Q;generalize (kae (ln id))[i]'(by omega)=rm at g5 M;obtain ⟨r,m⟩:=rm;cases r with
   | none=>obtain ⟨g6,_⟩:=g5; rw [I] at g6; cases g6; exact .flat _ (.sc _)
   | some r=>obtain ⟨g6,_⟩:=g5; rw [I] at g6; cases g6; exact .ms _ _ _ (ac r rfl (kaL M))
  ·obtain ⟨c',A⟩:=kai (l:=t.enc (l[i]'(by omega))) (l':=e) g1 I;exact .flat _ ((g2 k a c' Q I A).flat ((R F (by simpa [TB.flt] using E) _ k c' A).1 Q))
theorem kBD {C:CtrM} {u:TS sem} (a:C.okF u=true) {id:Nat} {B:TB sem} (b:alk u.hp id=some (some B)):B.flt=true:=by
 unfold CtrM.okF at a;simp only [jac] at a;exact jan.1 a.1 _ (kaE b)
theorem kCg {C:CtrM} {u:TS sem} (a:C.okF u=true) {i:Nat} (hi:i<C.nr) {v:TV sem} (b:alk u.env (1000000+i)=some v):v.flt=true:=by
 unfold CtrM.okF at a;simp only [jac] at a;have:=jan.1 a.2 i (jcw.2 hi);rw [b] at this; exact this
theorem kzW {C:CtrM} {y:C.out.ty.den} {args:Ya AV} (w:C.okU (kaf (A:=sem) C.out C.n1 y)=true) (o:C.okF (kaf (A:=sem) C.out C.n1 y)=true) {v:AV} {κ:Nat->Yb Nat} {ln:Nat->Nat} (H:klE P C κ ln y args v h' n'):OnF (liveP h') v/\∀ i B,h' i=some B->OnBF (liveP h') B:=by
 obtain ⟨κ3,ln3,vs,x,rfl,R,m,_⟩:=H;have hp:∀ i q,(alk (kaf (A:=sem) C.out C.n1 y).hp i).isSome=true->κ3 i=some q->liveP h' q=true:=λi q hi L=>by
  obtain ⟨b,p⟩:=jap.1 hi;obtain ⟨B,rfl,_⟩:=kee w p;have hB:=R.blk i B (kab (s:=offD (kaf (A:=sem) C.out C.n1 y)) p);have:∃ AB,h' q=some AB:=by cases hB <;> simp_all
  obtain ⟨AB,k⟩:=this;unfold liveP; rw [k]; rfl
 have l:∀ i a,vs[i]?=some a->OnF (liveP h') a:=λi a hi=>by
  have u:i<C.nr:=by rw [<-x]; exact (jag.1 hi).1
  obtain ⟨v,k,h2⟩:=ktt w u;have D:=R.env (1000000+i);have G:tlk (⟨[],[]⟩:Cx sem) (offD (kaf (A:=sem) C.out C.n1 y)) (1000000+i)=v:=knv (t:=offD (kaf (A:=sem) C.out C.n1 y)) k;rw [G] at D;have J:lk (resE vs++kat args) (1000000+i)=a:=by
   have:=ksv vs 0 i (kat args) (Nat.zero_le _);rw [Nat.sub_zero,hi] at this;exact this
  rw [J] at D;exact kzU hp D h2 (kCg o u k)
 refine ⟨?_,λi B hB=>?_⟩
 ·unfold tpA;split
  ·exact l 0 _ rfl
  ·exact .tp _ λj a F=>l j a F
 ·obtain ⟨id,b,k,h2⟩:=m i B hB;obtain ⟨K,e,_,E,_⟩:=kee w k;cases e;have p:=R.blk id b (kab (s:=offD (kaf (A:=sem) C.out C.n1 y)) k);refine kCO hp p E (kBD o k) (λr I hr=>?_) h2 hB;cases b <;> simp only [TB.isF,jaf] at I;obtain ⟨_,_,_,_,_,_,_,_,_,_,_,_,_,es,g1,_⟩:=p.row hr;unfold liveP; rw [g1]; rfl
theorem HC.frm4 {f:FuncId} {args b:Ya AV} {h hE hL:AH} {n:Nat} {R K:K3} (I:Ya Nat) (hLs:∀ i B,hL i=some B->h i=some B/\I.contains i=false) (e:b.length=args.length) (k:∀ (j:Nat) (a a':AV),args[j]?=some a->b[j]?=some a'->a'=a\/Snap hL a a') (hi:∀ i B,hE i=some B->I.contains i=true/\h i=some B) (hI:∀ i,I.contains i=true->i<n) (hn:∀ i,n<=i->h i=none)
  (hR:∀ v h' n',R v h' n'->On (liveP h') v/\∀ i B,h' i=some B->OnB (liveP h') B) (hF:hL=ahN\/∀ v h' n',R v h' n'->OnF (liveP h') v/\∀ i B,h' i=some B->OnBF (liveP h') B)
  (l:HC P f b hE n R) (m:∀ v h' n',R v h' n'->n<=n'->(∀ i B,h' i=some B->I.contains i=true\/(n<=i/\i<n'))->K v (λi=>if I.contains i||decide (n<=i) then h' i else h i) n'):HC P f args h n K:=by
 rcases hF with rfl | hF
 ·exact (HC.frm2 I hi hI hn hR l m).up e k
 ·exact HC.frm3 I hLs e k hi hI hn hF l m
end
section
variable {P:Yd} {κ κ' κ2 κ3:Nat->Yb Nat} {ln ln' ln2 ln3:Nat->Nat} {z z':AH} {c:Cx sem} {s:TS sem} {env env3:Env} {h h' h2:AH} {n n' n2 N N':Nat}
theorem krf {α:Type}:∀ (l:Ya (Nat×Nat)) (q:Nat),alk (l.map λx=>(x.2,(none:Yb α))) q=if l.any (λx=>x.2==q) then some none else none
 | [],q=>rfl
 | x::l,q=>by
  simp only [jas,alk];by_cases e:q=x.2
  ·subst e; simp
  ·have h2:(x.2==q)=false:=by simp; exact λh=>e h.symm
   have a:(x::l).any (λx=>x.2==q)=l.any (λx=>x.2==q):=by rw [jdr,h2,jcn]
   rw [if_neg e,krf l q,a]
theorem TVR.ptr_inv {id j:Nat} {a:AV} (h:TVR P κ ln z N (.ptr id j) a):∃ q,κ id=some q/\a = .own q 0 j:=by cases h; exact ⟨_,by assumption,rfl⟩
theorem TVR.mp_inv {id:Nat} {a:AV} (h:TVR P κ ln z N (.mp id) a):∃ q,κ id=some q/\a = .mp q:=by cases h; exact ⟨_,by assumption,rfl⟩
theorem TVR.mw_same {id j:Nat} {a:AV} (h:TVR P κ ln z N (.mw id) a) (h':TVR P κ' ln' z' N' (.mw j) a):κ id = κ' j/\(κ id≠none->ln id=ln' j):=by
 cases h with
 | mw0 _ hi k=>
  generalize hn:nilS=a at h';cases h' with
  | mw0 _ i b=>exact ⟨k.trans b.symm,λe=>absurd k e⟩
  | mw _ q i b=>cases hn
 | mw _ q hi k=>
  generalize hn:AV.ms q 0 (ln id)=a at h';cases h' with
  | mw0 _ i b=>cases hn
  | mw _ l i b=>injection hn with e1 _ e2; subst e1; exact ⟨k.trans b.symm,λ_=>e2⟩
theorem kzS {C:CtrM} {as:Ya AV} {u t:TS sem} (S:Rel P κ2 ln2 ahN ⟨[],[]⟩ t (kat as) h n) (R:Rel P κ3 ln3 ahN ⟨[],[]⟩ u env3 h2 n2) (l:∀ i,i<C.ks.length->lk env3 i=lk (kat as) i)
  (E:∀ i J,alk C.inp.env i=some J->∀ v,(∀ xs:Ya ((t:Ty)×sem.D t),(unV (A:=sem) J xs).1=v)->tlk (⟨[],[]⟩:Cx sem) t i=v) (m:∀ i J,alk C.out.env i=some J->∀ v,(∀ xs:Ya ((t:Ty)×sem.D t),(unV (A:=sem) J xs).1=v)->tlk (⟨[],[]⟩:Cx sem) u i=v)
  (o:∀ p∈C.inn,κ3 p = κ2 p/\ln3 p=ln2 p) {p:Nat} (hp:p<C.n0):(C.kept p=true->(alk C.inp.hp p).isSome=true/\κ3 p = κ2 p)/\(C.keptW p=true->κ2 p≠none->ln3 p=ln2 p):=by
 have sw:∀ p,C.slot sameW p=true->(alk C.inp.hp p).isSome=true/\κ3 p = κ2 p/\(κ2 p≠none->ln3 p=ln2 p):=λp w=>by
  unfold CtrM.slot at w;rw [jac] at w;obtain ⟨y,W,j⟩:=jbm.1 w.2;rw [jac,jaj] at j;obtain ⟨B,j⟩:=j;split at j
  ·rename_i a b O M;cases a <;> cases b <;> simp only [sameW,jac,beq_iff_eq,jaf] at j;obtain ⟨rfl,rfl⟩:=j;have F:=S.env y.1;have G:=R.env y.1;rw [E _ _ O (.mw _) (λxs=>rfl)] at F;rw [m _ _ M (.mw _) (λxs=>rfl),l _ B] at G;obtain ⟨k1,k2⟩:=F.mw_same G;exact ⟨w.1,k1.symm,λk=>(k2 k).symm⟩
  ·cases j
 have X:∀ p,C.slot kwJ p=true->(alk C.inp.hp p).isSome=true/\κ3 p = κ2 p:=λp w=>by
  unfold CtrM.slot at w;rw [jac] at w;obtain ⟨y,W,j⟩:=jbm.1 w.2;rw [jac,jaj] at j;obtain ⟨B,j⟩:=j;split at j
  ·rename_i a b O M;have F:=S.env y.1;have G:=R.env y.1;cases a <;> cases b <;> simp only [kwJ,jac,beq_iff_eq,jaf] at j
   ·obtain ⟨⟨rfl,rfl⟩,rfl⟩:=j;rw [E _ _ O (.ptr _ _) (λxs=>rfl)] at F;rw [m _ _ M (.ptr _ _) (λxs=>rfl),l _ B] at G;obtain ⟨Y,k1,k2⟩:=F.ptr_inv;obtain ⟨U,k3,I⟩:=G.ptr_inv;rw [k2] at I; cases I;exact ⟨w.1,k3.trans k1.symm⟩
   ·obtain ⟨rfl,rfl⟩:=j;rw [E _ _ O (.mp _) (λxs=>rfl)] at F;rw [m _ _ M (.mp _) (λxs=>rfl),l _ B] at G;obtain ⟨Y,k1,k2⟩:=F.mp_inv;obtain ⟨U,k3,I⟩:=G.mp_inv;rw [k2] at I; cases I;exact ⟨w.1,k3.trans k1.symm⟩
  ·cases j
 have T:C.keptW p=true->C.slot sameW p=true\/p∈C.inn:=λk=>by
  unfold CtrM.keptW at k;simp only [jax,jaj] at k;rcases k with (k | k) | k
  ·omega
  ·exact .inl k
  ·exact .inr (jbv.1 k)
 have hi:∀ p∈C.inn,(alk C.inp.hp p).isSome=true:=λp K=>by
  unfold CtrM.inn at K;obtain ⟨x,H,rfl⟩:=jbc.1 K;have H:=(jdt.1 H).1;generalize C.inp.hp=L at H;induction L with
  | nil=>cases H
  | cons y L Z=>
   simp only [alk];split
   ·rfl
   ·rename_i e;rcases jbu.1 H with rfl | H
    ·exact absurd rfl e
    ·exact Z H
 refine ⟨λk=>?_,λk Q=>(T k).elim (λh=>(sw p h).2.2 Q) λh=>(o p h).2⟩;unfold CtrM.kept at k;rw [jax,jax] at k;rcases k with (k | k) | k
 ·exact (T k).elim (λh=>⟨(sw p h).1,(sw p h).2.1⟩) λh=>⟨hi p h,(o p h).1⟩
 ·exact X p k
 ·have K:=jbv.1 k;exact ⟨hi p K,(o p K).1⟩
end
section
variable {P:Yd} {κ κ3:Nat->Yb Nat} {ln ln3:Nat->Nat} {c:Cx sem} {s:TS sem} {env env3:Env} {h h' h2:AH} {n n2:Nat}
mutual
theorem kwh:∀ {v:TV sem} {i:Nat},v.hasW i=true->v.has i=true
 | .adr j _ _,i,hi | .aa j _,i,hi | .mw j,i,hi | .ms j _ _,i,hi | .fw j,i,hi | .fr j _,i,hi | .fo j _ _,i,hi | .fa j _ _ _,i,hi=>by simpa [TV.hasW,TV.has] using hi
 | .fn _ vs,i,hi | .tp vs,i,hi | .ag vs,i,hi=>by have:=kpS (vs:=vs) (i:=i) (by simpa [TV.hasW] using hi); simpa [TV.has] using this
 | .un,i,hi | .ptr _ _,i,hi | .mp _,i,hi | .ud,i,hi | .c _ _,i,hi | .kb _,i,hi | .sc _,i,hi | .fq _ _ _,i,hi | .cv _ _ _ _,i,hi=>by simp [TV.hasW] at hi
theorem kpS:∀ {vs:Ya (TV sem)} {i:Nat},TV.hasW.hasL i vs=true->TV.has.hasL i vs=true
 | [],i,hi=>by simp [TV.hasW.hasL] at hi
 | v::vs,i,hi=>by
  simp only [TV.hasW.hasL,jax] at hi;simp only [TV.has.hasL,jax];rcases hi with hi | hi
  ·exact .inl (kwh hi)
  ·exact .inr (kpS hi)
end
def kapM (C:CtrM) (s:TS sem) (κ κ3:Nat->Yb Nat):Nat->Yb Nat:=λid=>if id<s.n then κ id else κ3 (id-s.n+C.n0)
def lenM (C:CtrM) (s:TS sem) (ln ln3:Nat->Nat):Nat->Nat:=λid=>if id<s.n then ln id else ln3 (id-s.n+C.n0)
theorem kjg {C:CtrM} {u:TS sem} {ids:Ya (Nat×Nat)} (R:Rel P κ ln ahN c s env h n) (ag:∀ p,p<C.n0->C.kept p=true->(alk u.hp p).isSome=true->∃ q,alk ids p=some q/\κ3 p = κ q/\(C.keptW p=true->ln3 p=ln q)) (b:∀ x∈ids,∃ B,alk s.hp x.2=some (some B)) {p:Nat} (m:C.kept p=true) (t:p<C.n1) (k:(alk u.hp p).isSome=true) :
  kapM C s κ κ3 (renC C ids s.n p) = κ3 p/\renC C ids s.n p<s.n+(C.n1-C.n0)/\(C.keptW p=true->lenM C s ln ln3 (renC C ids s.n p)=ln3 p)/\(renC C ids s.n p<s.n->∃ x∈ids,x.2=renC C ids s.n p):=by
 unfold renC;by_cases hp:p<C.n0
 ·rw [if_pos hp];obtain ⟨q,a,l,j⟩:=ag p hp m k;rw [a,jcc];obtain ⟨B,hB⟩:=b _ (kaE a);have i:q<s.n:=R.lt q B (kab hB);refine ⟨by unfold kapM; rw [if_pos i]; exact l.symm,by omega,λo=>by unfold lenM; rw [if_pos i]; exact (j o).symm,λ_=>⟨_,kaE a,rfl⟩⟩
 ·rw [if_neg hp];have e:s.n+(p-C.n0)-s.n+C.n0=p:=by omega
  refine ⟨by unfold kapM; rw [if_neg (by omega),e],by omega,λ_=>by unfold lenM; rw [if_neg (by omega),e],λh=>by omega⟩
theorem kzD {C:CtrM} {ids:Ya (Nat×Nat)} {u:TS sem} (R:Rel P κ ln ahN c s env h n) (U:C.okU u=true) (Z:Rel P κ3 ln3 ahN ⟨[],[]⟩ (offD u) env3 h2 n2) (hn:n<=n2)
  (ag:∀ p,p<C.n0->C.kept p=true->(alk u.hp p).isSome=true->∃ q,alk ids p=some q/\κ3 p = κ q/\(C.keptW p=true->ln3 p=ln q)) (D:∀ x∈ids,∃ B,alk s.hp x.2=some (some B))
  (X:∀ i B,h2 i=some B->(∃ x∈ids,i∈ows κ ln c s x.2)\/n<=i) (aa:∀ i,(∃ x∈ids,i∈ows κ ln c s x.2)\/n<=i->h' i=h2 i) (ad:∀ i,i<n->¬ (∃ x∈ids,i∈ows κ ln c s x.2)->h' i=h i) :
  Rel P (kapM C s κ κ3) (lenM C s ln ln3) ahN c (khI C s u ids) env h' n2:=by
 have m:∀ id,id<s.n->kapM C s κ κ3 id = κ id:=λid hi=>by unfold kapM; rw [if_pos hi]
 have F:∀ id,id<s.n->lenM C s ln ln3 id=ln id:=λid hi=>by unfold lenM; rw [if_pos hi]
 have hN:s.n<=(khI C s u ids).n:=Nat.le_add_right _ _;have a:∀ id B,thp c (khI C s u ids) id=some B->(∃ p l,alk u.hp p=some (some l)/\renC C ids s.n p=id/\B=renB (renC C ids s.n) l)\/(thp c s id=some B/\∀ x∈ids,x.2≠id):=λid B hB=>by
  unfold thp at hB;simp only [khI,kbQ] at hB;cases v:alk (u.hp.map λx=>(renC C ids s.n x.1,x.2.map (renB (renC C ids s.n)))) id with
  | some b=>
   rw [v] at hB;obtain ⟨p,b0,k1,k2,k3⟩:=kkL (renC C ids s.n) (λb:Yb (TB sem)=>b.map (renB (renC C ids s.n))) u.hp v;obtain ⟨l,rfl,_⟩:=kee U k1;refine .inl ⟨p,l,k1,k2,?_⟩;subst k3;simp at hB;exact hB.symm
  | none=>
   rw [v] at hB;simp only [krf] at hB;by_cases ha:ids.any (λx=>x.2==id)=true
   ·rw [if_pos ha] at hB; cases hB
   ·rw [if_neg ha] at hB;refine .inr ⟨hB,λx M e=>ha (jbm.2 ⟨x,M,by simp [e]⟩)⟩
 have o:∀ {p l},alk u.hp p=some (some l)->thp (⟨[],[]⟩:Cx sem) (offD u) p=some l:=λh=>kab (s:=offD u) h;have old:∀ {id B q},thp c s id=some B->(∀ x∈ids,x.2≠id)->Ow κ ln id B q->¬ (∃ x∈ids,q∈ows κ ln c s x.2)/\q<n:=λ{id B q} hB M w=>by
  refine ⟨λ⟨x,ab,ae⟩=>?_,R.owN hB w⟩;obtain ⟨t,hB'⟩:=D x ab;exact M x ab (R.owI (kab hB') hB (keg (kab hB') ae) w)
 have new:∀ {p l q},alk u.hp p=some (some l)->Ow κ3 ln3 p l q->((∃ x∈ids,q∈ows κ ln c s x.2)\/n<=q)/\∃ AB,h2 q=some AB:=λ{p l q} hB w=>by
  have J:=Z.blk p l (o hB);have:∃ AB,h2 q=some AB:=by
   rcases w with w | ⟨O,hr⟩
   ·cases J <;> simp_all
   ·cases l <;> simp only [TB.isF,jaf] at O;obtain ⟨_,_,_,_,_,_,_,_,_,_,_,_,_,es,g1,_⟩:=J.row hr;exact ⟨_,g1⟩
  obtain ⟨AB,G⟩:=this;exact ⟨X q AB G,AB,G⟩
 have H:∀ {p l},alk u.hp p=some (some l)->kapM C s κ κ3 (renC C ids s.n p) = κ3 p:=λ{p l} hB=>by
  obtain ⟨t,e,k1,k2,k3,k4⟩:=kee U hB;exact (kjg (ln:=ln) (ln3:=ln3) R ag D k3 k1 (by rw [hB]; rfl)).1
 refine ⟨λx=>?_,λid B hB=>?_,λid B hB=>?_,λi j B t q hi L ki Q=>?_,λq B G=>(by cases G),λid B q hB w=>rfl,λid B q hB w=>?_,λq G=>?_,R.e0,λid b J=>?_,λ_=>rfl,λq k T es G=>(by cases G),λid B hB O=>?_⟩
 ·exact (R.env x).mono m F (λ_ _ h=>h) hN
 ·rcases a id B hB with ⟨p,l,k1,rfl,rfl⟩ | ⟨k1,k2⟩
  ·obtain ⟨t,e,j1,j2,j3,j4⟩:=kee U k1;cases e;have J:=Z.blk p l (o k1);have mem:∀ i,(alk u.hp i).isSome=true->C.kept i=true/\i<C.n1:=λi hi=>by
    obtain ⟨b,J⟩:=jap.1 hi;obtain ⟨t,_,m1,_,m3,_⟩:=kee U J;exact ⟨m3,m1⟩
   have hasB:∀ i,l.has i=true->(alk u.hp i).isSome=true:=λi hi=>by
    cases l with
    | bx T vs=>exact krk (by simpa [TB.all] using j2) i (by simpa [TB.has] using hi)
    | _=>simp [TB.has] at hi
   have hasWB:∀ i,l.hasW i=true->C.keptW i=true/\(alk u.hp i).isSome=true:=λi hi=>by
    cases l with
    | bx T vs=>
     refine ⟨kpu (by simpa [TB.all] using j2) i (by simpa [TB.hasW] using hi),?_⟩;exact hasB i (by have:=kpS (vs:=vs) (i:=i) (by simpa [TB.hasW] using hi); simpa [TB.has] using this)
    | _=>simp [TB.hasW] at hi
   have A:=kjg (ln:=ln) (ln3:=ln3) R ag D j3 j1 (by rw [k1]; rfl);refine BR.ren J (λ_ _ h=>h) (λq AB G hAB=>by rw [aa q (new k1 G).1]; exact hAB) A.1 (λhw=>A.2.2.1 (j4 hw)) (λi hi=>?_) (λi hi=>?_)
   ·have:=mem i (hasB i hi);have A2:=kjg (ln:=ln) (ln3:=ln3) R ag D this.1 this.2 (hasB i hi);exact ⟨A2.1,A2.2.1⟩
   ·obtain ⟨w1,w2⟩:=hasWB i hi;have:=mem i w2;exact (kjg (ln:=ln) (ln3:=ln3) R ag D this.1 this.2 w2).2.2.1 w1
  ·exact (R.blk id B k1).mono m F (λ_ _ h=>h) hN (R.lt id B k1) λq AB G hAB=>by
    obtain ⟨I,Y⟩:=old k1 k2 G;rw [ad q Y I]; exact hAB
 ·rcases a id B hB with ⟨p,l,k1,rfl,rfl⟩ | ⟨k1,k2⟩
  ·obtain ⟨t,e,j1,j2,j3,j4⟩:=kee U k1;exact (kjg (ln:=ln) (ln3:=ln3) R ag D j3 j1 (by rw [k1]; rfl)).2.1
  ·exact jao (R.lt id B k1) hN
 ·rcases a i B hi with ⟨p,l,k1,rfl,rfl⟩ | ⟨k1,k2⟩
  ·rw [H k1] at ki;rcases a j t L with ⟨S,K,l1,rfl,rfl⟩ | ⟨l1,l2⟩
   ·rw [H l1] at Q;have:=Z.inj p S _ _ q (o k1) (o l1) ki Q;rw [this]
   ·rw [m j (R.lt j t l1)] at Q;obtain ⟨I,Y⟩:=old l1 l2 (.inl Q);rcases (new k1 (.inl ki)).1 with v | v
    ·exact absurd v I
    ·omega
  ·rw [m i (R.lt i B k1)] at ki;rcases a j t L with ⟨S,K,l1,rfl,rfl⟩ | ⟨l1,l2⟩
   ·rw [H l1] at Q;obtain ⟨I,Y⟩:=old k1 k2 (.inl ki);rcases (new l1 (.inl Q)).1 with v | v
    ·exact absurd v I
    ·omega
   ·rw [m j (R.lt j t l1)] at Q;exact R.inj i j _ _ q k1 l1 ki Q
 ·rcases a id B hB with ⟨p,l,k1,rfl,rfl⟩ | ⟨k1,k2⟩
  ·rw [H k1] at w;exact Z.bnd p l q (o k1) w
  ·rw [m id (R.lt id B k1)] at w;exact jao (R.bnd id B q k1 w) hn
 ·rw [aa q (.inr (jdg hn G))];exact Z.hn q G
 ·simp only [khI,kbQ] at J;have ownG:∀ x∈ids,alk c.g x.2=none:=λx M=>by obtain ⟨B,hB⟩:=D x M; exact R.g _ _ hB
  cases v:alk (u.hp.map λx=>(renC C ids s.n x.1,x.2.map (renB (renC C ids s.n)))) id with
  | some b1=>
   obtain ⟨p,b0,k1,k2,k3⟩:=kkL (renC C ids s.n) (λb:Yb (TB sem)=>b.map (renB (renC C ids s.n))) u.hp v;obtain ⟨l,rfl,j1,j2,j3,j4⟩:=kee U k1;have A:=kjg (ln:=ln) (ln3:=ln3) R ag D j3 j1 (by rw [k1]; rfl);subst k2;by_cases ac:renC C ids s.n p<s.n
   ·obtain ⟨x,M,e⟩:=A.2.2.2 ac;rw [<-e]; exact ownG x M
   ·cases hg:alk c.g (renC C ids s.n p) with
    | none=>rfl
    | some B=>exact absurd (R.lt _ B (R.g_thp hg)) ac
  | none=>
   rw [v] at J;simp only [krf] at J;by_cases ha:ids.any (λx=>x.2==id)=true
   ·obtain ⟨x,M,e⟩:=jbm.1 ha;rw [show id=x.2 from (by simpa using e:x.2=id).symm];exact ownG x M
   ·rw [if_neg ha] at J;exact R.g id b J
 ·have renF:∀ {f:Nat->Nat} {B:TB sem},(renB f B).isF=B.isF:=λ{f B}=>by cases B <;> rfl
  have W:∀ {p l},alk u.hp p=some (some l)->l.isF=true->lenM C s ln ln3 (renC C ids s.n p)=ln3 p:=λ{p l} hB O=>by
   obtain ⟨t,e,k1,k2,k3,k4⟩:=kee U hB;cases e;exact (kjg (ln:=ln) (ln3:=ln3) R ag D k3 k1 (by rw [hB]; rfl)).2.2.1 (k4 (by cases l <;> simp_all [TB.isF,TB.needL]))
  rcases a id B hB with ⟨p,l,k1,rfl,rfl⟩ | ⟨k1,k2⟩
  ·rw [renF] at O;obtain ⟨f1,f2⟩:=Z.fam p l (o k1) O;rw [W k1 O];refine ⟨f1,λr hr=>?_⟩;obtain ⟨g1,g2,g3,g4⟩:=f2 r hr;have nw:=(new k1 (.inr ⟨O,hr⟩)).1;refine ⟨g1,rfl,λj t L w=>?_,λj t L E y=>?_⟩
   ·rcases a j t L with ⟨S,K,l1,rfl,rfl⟩ | ⟨l1,l2⟩
    ·rw [H l1] at w; exact g3 S _ (o l1) w
    ·rw [m j (R.lt j t l1)] at w;obtain ⟨I,Y⟩:=old l1 l2 (.inl w);rcases nw with v | v
     ·exact I v
     ·omega
   ·rcases a j t L with ⟨S,K,l1,rfl,rfl⟩ | ⟨l1,l2⟩
    ·rw [renF] at E;rw [W l1 E] at y;rw [g4 S _ (o l1) E y]
    ·rw [F j (R.lt j t l1)] at y;obtain ⟨I,Y⟩:=old l1 l2 (.inr ⟨E,y⟩);rcases nw with v | v
     ·exact absurd v I
     ·omega
  ·obtain ⟨f1,f2⟩:=R.fam id B k1 O;rw [F id (R.lt id B k1)];refine ⟨f1,λr hr=>?_⟩;obtain ⟨g1,g2,g3,g4⟩:=f2 r hr;obtain ⟨I,Y⟩:=old k1 k2 (.inr ⟨O,hr⟩);refine ⟨by omega,rfl,λj t L w=>?_,λj t L E y=>?_⟩
   ·rcases a j t L with ⟨S,K,l1,rfl,rfl⟩ | ⟨l1,l2⟩
    ·rw [H l1] at w;rcases (new l1 (.inl w)).1 with v | v
     ·exact I v
     ·omega
    ·rw [m j (R.lt j t l1)] at w; exact g3 j t l1 w
   ·rcases a j t L with ⟨S,K,l1,rfl,rfl⟩ | ⟨l1,l2⟩
    ·rw [renF] at E;rw [W l1 E] at y;rcases (new l1 (.inr ⟨E,y⟩)).1 with v | v
     ·exact absurd v I
     ·omega
    ·rw [F j (R.lt j t l1)] at y; exact g4 j t l1 E y
end
section
variable {P:Yd} {κ:Nat->Yb Nat} {ln:Nat->Nat} {z:AH} {c:Cx sem} {s:TS sem} {env:Env} {h:AH} {n:Nat}
theorem BR.nil_ln {N id:Nat} {B:TB sem} (a:BR P κ ln z h N id B) (b:κ id=none):ln id=0:=by
 cases a <;> simp_all
theorem AL.length {l:Ya ((t:Ty)×t.den)} {as:Ya AV} (h:AL P l as):as.length=l.length:=by induction h <;> simp [*]
theorem kyn {N:Nat}:∀ {vs:Ya (TV sem)} {as:Ya AV},vs.length=as.length->(∀ (i:Nat) v a,vs[i]?=some v->as[i]?=some a->TVR P κ ln z N v a)->TVRs P κ ln z N vs as
 | [],[],_,_=>.nil
 | [],_::_,h,_=>by simp at h
 | _::_,[],h,_=>by simp at h
 | v::vs,a::as,h,hv=>.cons _ _ _ _ (hv 0 v a rfl rfl) (kyn (by simpa using h) λi v a b h2=>hv (i+1) v a (by simpa using b) (by simpa using h2))
theorem kCY {N:Nat} {C:CtrM} {u:TS sem} {f:Nat->Nat} {as:Ya AV} (h:TVRs P κ ln z N ((List.range C.nr).map λi=>renV f ((alk u.env (1000000+i)).getD .un)) as):TVR P κ ln z N (resT C u f) (tpA as):=by
 unfold resT;generalize (List.range C.nr).map (λi=>renV f ((alk u.env (1000000+i)).getD .un))=l at h;cases h with
 | nil=>exact .tp _ _ .nil
 | cons v a vs as h k=>cases k with
  | nil=>exact h
  | cons m a' e j h' b=>exact .tp _ _ (.cons _ _ _ _ h (.cons _ _ _ _ h' b))
theorem kys:∀ (vs:Ya AV) (k i:Nat) (E:Env),i<1000000->lk ((vs.zipIdx k).map (λx=>(1000000+x.2,x.1))++E) i=lk E i
 | [],k,i,E,h=>by simp
 | v::vs,k,i,E,h=>by
  simp only [jbj,jas,jdv,lk];rw [if_neg (by omega),kys vs (k+1) i E h]
theorem kzg {g:FuncId} {C:CtrM} (hG:GoodM P g C) (ai:C.ok=true) (R:Rel P κ ln z c s env h n) (aq:s.dy=false) {args:Ya (TV sem)} {as:Ya AV} (M:TVRs P κ ln z s.n args as) (U:args.length=C.ks.length)
  {l:Ya ((t:Ty)×t.den)} {bs:Ya AV} (hl:l.length=(C.ks.filterMap id).length) (hA:AL P l bs) {ids:Ya Nat} (hS:SnapL (hz (ows κ ln c s) h z ids) (pureA C.ks as) bs) (ad:∀ id∈ids,∃ B,thp c s id=some B) {m:Mt sem} (hm:packM ⟨[],c.g⟩ C.n0 C.inp ⟨patE C.ks args 0,s.hp,s.n,s.dy⟩=some m) (aw:m.sn=[]) (J:m.ids.all (λx=>(ownB s x.2).isSome&&(alk C.inp.hp x.1).isSome&&(alk m.ids x.1==some x.2))=true) (ac:ids.all (λid=>m.ids.all λx=>x.2 != id)=true)
  {a:(tup (C.ks.filterMap id++C.inp.tys)).den} (ha:mkT sem (C.ks.filterMap id++C.inp.tys) (l++m.cs)=some a) {y:C.out.ty.den} (hy:C.F a=some y) (hu:C.okU (kaf (A:=sem) C.out C.n1 y)=true) (G:(ids.isEmpty||C.okF (kaf (A:=sem) C.out C.n1 y))=true) {K:K3}
  (hK:∀ v h' n' κ' ln',Ke c s.n κ ln κ' ln'->Rel P κ' ln' ahN c (khI C s (kaf C.out C.n1 y) m.ids) env h' n'->TVR P κ' ln' ahN (khI C s (kaf (A:=sem) C.out C.n1 y) m.ids).n (resT C (kaf C.out C.n1 y) (renC C m.ids s.n)) v->(∀ q,q<n->h' q=h q\/∃ x∈m.ids,(∃ B,thp c s x.2=some B)/\q∈ows κ ln c s x.2)->K v h' n'):HC P g as h n K:=by
 have ar:=R.dy aq;subst ar;have ap:as.length=C.ks.length:=by rw [M.len]; exact U
 have am:bs.length=(C.ks.filterMap id).length:=by rw [AL.length hA]; exact hl
 obtain ⟨m1,m2,m3⟩:=ksb C.ks ap hA hl hS;have R1:Rel P κ ln ahN ⟨[],c.g⟩ ⟨patE C.ks args 0,s.hp,s.n,s.dy⟩ (kat (kdd C.ks bs as)) h n:=by
  refine ⟨λx=>?_,R.blk,R.lt,R.inj,R.zin,R.zout,R.bnd,R.hn,λx v k=>rfl,R.g,R.dy,R.zk,R.fam⟩;have:=ktL (P:=P) (κ:=κ) (ln:=ln) (z:=ahN) (N:=s.n) C.ks 0 M U am x;unfold tlk kat;cases hh:alk (patE C.ks args 0) x with
  | some v=>rw [hh] at this; exact this
  | none=>exact .un _
 obtain ⟨κ2,ln2,R2,q1,q2,q3,q4⟩:=kuF R1 hm aw rfl;have w:∀ x∈m.ids,∃ B,alk s.hp x.2=some (some B):=λx k=>by
  have:=jan.1 J x k;cases ho:ownB s x.2 with
  | none=>simp [ho] at this
  | some B=>exact ⟨B,kea ho⟩
 have an:∀ x∈m.ids,(alk C.inp.hp x.1).isSome=true:=λx k=>by
  have:=jan.1 J x k;simp only [jac] at this;exact this.1.2
 have W:∀ p,(alk C.inp.hp p).isSome=true->∃ B,alk (kao (A:=sem) C.inp C.n0 m.cs).hp p=some (some B):=λp hp=>by
  rw [<-q4 p] at hp;obtain ⟨b,hb⟩:=jap.1 hp;obtain ⟨B,q,B0,rfl,_⟩:=q2 p b hb;exact ⟨B,hb⟩
 have au:∀ id B,thp (⟨[],[]⟩:Cx sem) (offD (kao (A:=sem) C.inp C.n0 m.cs)) id=some B->alk (kao (A:=sem) C.inp C.n0 m.cs).hp id=some (some B):=λid B hB=>by
  unfold thp at hB;rw [show (offD (kao (A:=sem) C.inp C.n0 m.cs)).hp=(kao (A:=sem) C.inp C.n0 m.cs).hp from rfl] at hB;cases hh:alk (kao (A:=sem) C.inp C.n0 m.cs).hp id with
  | some b=>rw [hh] at hB; exact congrArg some hB
  | none=>rw [hh] at hB; cases hB
 have T:∀ id,(alk C.inp.hp id).isSome=true->id∈C.inp.hp.map (·.1):=λid hi=>by
  obtain ⟨b,hb⟩:=jap.1 hi;exact jbc.2 ⟨_,kaE hb,rfl⟩
 have ah:∀ id,id∈C.inp.hp.map (·.1)->(alk C.inp.hp id).isSome=true:=λid hi=>by
  obtain ⟨x,k,rfl⟩:=jbc.1 hi;generalize C.inp.hp=L at k;induction L with
  | nil=>cases k
  | cons y L ih=>
   simp only [alk];split
   ·rfl
   ·rename_i e;rcases jbu.1 k with rfl | k
    ·exact absurd rfl e
    ·exact ih k
 generalize X:ows κ2 ln2 (⟨[],[]⟩:Cx sem) (offD (kao (A:=sem) C.inp C.n0 m.cs))=o2;have R3:=R2.cut (h2:=hz o2 h ahN (C.inp.hp.map (·.1))) (λid B q hB D=>hz_in (T id (by rw [<-q4 id,au id B hB]; rfl)) (by rw [<-X]; exact kpN hB D)) (λq hq=>by
  unfold hz; split
  ·exact R.hn q hq
  ·rfl)
 have hc:=hG a y hy l m.cs (kti _ _ _ ha) hl κ2 ln2 _ n _ m2 R3;have o:∀ i,((C.inp.hp.map (·.1)).flatMap o2).contains i=true->∃ x∈m.ids,i∈ows κ ln c s x.2:=λi hi=>by
  obtain ⟨id,H,D⟩:=List.mem_flatMap.1 (jbv.1 hi);obtain ⟨B,hB⟩:=W id (ah id H);rw [<-X] at D;have D:=keg (kab (s:=offD (kao (A:=sem) C.inp C.n0 m.cs)) hB) D;obtain ⟨_,q,B0,eB,S,e3,e4⟩:=q2 id _ hB;cases eB;obtain ⟨f1,f2,f3⟩:=q1 id q S;refine ⟨_,kaE S,kpN (kab e3) ?_⟩;unfold Ow at D ⊢;rw [<-f1,<-f2,<-e4]; exact D
 refine HC.frm4 (hL:=hz (ows κ ln c s) h ahN ids) ((C.inp.hp.map (·.1)).flatMap o2) (λi B hi=>?_) m1 m3 (λi B hi=>?_) (λi hi=>?_) R.hn (λv h' n'=>kBu hu) ?_ hc ?_
 ·refine ⟨kfv (λq B hq=>by cases hq) i B hi,?_⟩;cases E:((C.inp.hp.map (·.1)).flatMap o2).contains i with
  | false=>rfl
  | true=>
   obtain ⟨x,k,D⟩:=o i E;unfold hz at hi;split at hi
   ·rename_i O;obtain ⟨id,H,ao⟩:=jbm.1 O;obtain ⟨B1,hB1⟩:=ad id H;obtain ⟨B2,hB2⟩:=w x k;have e:=R.owI (kab hB2) hB1 (keg (kab hB2) D) (keg hB1 (by simpa using ao));have:=jan.1 (jan.1 ac id H) x k;rw [e] at this; simp at this
   ·cases hi
 ·unfold hz at hi;split at hi
  ·rename_i O;obtain ⟨id,H,D⟩:=jbm.1 O;exact ⟨jbv.2 (List.mem_flatMap.2 ⟨id,H,by simpa using D⟩),hi⟩
  ·cases hi
 ·obtain ⟨x,k,D⟩:=o i hi;obtain ⟨B,hB⟩:=w x k;exact R.owN (kab hB) (keg (kab hB) D)
 ·rw [jax] at G;rcases G with G | G
  ·left;have:ids=[]:=by simpa [jdd] using G
   rw [this,kbG]
  ·right;exact λv h' n'=>kzW hu G
 ·rintro v h2 n2 ⟨κ3,ln3,vs,al,rfl,R4,az,aj⟩ ay aa;have Y:∀ i,(∃ x∈m.ids,i∈ows κ ln c s x.2)->((C.inp.hp.map (·.1)).flatMap o2).contains i=true:=λi ⟨x,k,D⟩=>by
   have af:=an x k;obtain ⟨B,hB⟩:=W x.1 af;obtain ⟨_,q,B0,eB,S,e3,e5⟩:=q2 x.1 _ hB;cases eB;refine jbv.2 (List.mem_flatMap.2 ⟨x.1,T _ af,?_⟩);have e4:alk m.ids x.1=some x.2:=by
    have:=jan.1 J x k;simp only [jac,beq_iff_eq] at this;exact this.2
   rw [S] at e4; cases e4;obtain ⟨f1,f2,f3⟩:=q1 _ _ S;have D:=keg (kab e3) D;rw [<-X];refine kpN (kab (s:=offD (kao (A:=sem) C.inp C.n0 m.cs)) hB) ?_;unfold Ow at D ⊢;rw [f1,f2,e5]; exact D
  simp only [CtrM.ok,jac,jaj] at ai;obtain ⟨⟨aB,aC⟩,aA⟩:=ai;have ag:∀ p,p<C.n0->C.kept p=true->(alk (kaf (A:=sem) C.out C.n1 y).hp p).isSome=true->∃ q,alk m.ids p=some q/\κ3 p = κ q/\(C.keptW p=true->ln3 p=ln q):=λp hp D ae=>by
   obtain ⟨s1,s2⟩:=kzS (C:=C) R3 R4 (λi hi=>kys vs 0 i _ (by omega)) (λi pv hi v Q=>knv (t:=offD (kao (A:=sem) C.inp C.n0 m.cs)) (kpU C.inp.env m.cs i pv v hi Q)) (λi pv hi v Q=>knv (t:=offD (kaf (A:=sem) C.out C.n1 y)) (kpU C.out.env _ i pv v hi Q)) aj hp;obtain ⟨t1,t2⟩:=s1 D;obtain ⟨B,hB⟩:=W p t1;obtain ⟨_,q,B0,_,S,e3,_⟩:=q2 p _ hB;obtain ⟨f1,f2,f3⟩:=q1 p q S;refine ⟨q,S,t2.trans f1,λhw=>?_⟩;by_cases Z:κ2 p=none
   ·obtain ⟨b2,ak⟩:=jap.1 ae;obtain ⟨B2,rfl,_⟩:=kee hu ak;rw [BR.nil_ln (R4.blk p B2 (kab (s:=offD (kaf (A:=sem) C.out C.n1 y)) ak)) (t2.trans Z),<-f2,BR.nil_ln (R3.blk p B (kab (s:=offD (kao (A:=sem) C.inp C.n0 m.cs)) hB)) Z]
   ·rw [s2 hw Z,f2]
  have ab:n<=n2:=ay;have hR:=kzD (h':=λi=>if ((C.inp.hp.map (·.1)).flatMap o2).contains i||decide (n<=i) then h2 i else h i) R hu R4 ab ag w (λi B hB=>?_) (λi hi=>?_) (λi hi k=>?_)
  ·refine hK _ _ _ _ _ (λid hi=>⟨by unfold kapM; rw [if_pos hi],λ_=>by unfold lenM; rw [if_pos hi]⟩) hR ?_ λq hq=>by
    cases E:((C.inp.hp.map (·.1)).flatMap o2).contains q with
    | false=>left; simp only [E,jcn]; rw [if_neg (by simp; omega)]
    | true=>obtain ⟨x,k,ax⟩:=o q E; obtain ⟨B,hB⟩:=w x k; exact .inr ⟨x,k,⟨B,kab hB⟩,ax⟩
   refine kCY ?_;refine kyn (by simp [al]) λi v a Q ha=>?_;have hi:i<C.nr:=by rw [<-al]; exact (jag.1 ha).1
   rw [jau,List.getElem?_range hi] at Q;cases Q;obtain ⟨v,I,h2⟩:=ktt hu hi;show TVR P _ _ _ _ (renV _ ((alk (kaf (A:=sem) C.out C.n1 y).env (1000000+i)).getD .un)) a;rw [I,jcc];have Q:=R4.env (1000000+i);have e1:tlk (⟨[],[]⟩:Cx sem) (offD (kaf (A:=sem) C.out C.n1 y)) (1000000+i)=v:=knv (t:=offD (kaf (A:=sem) C.out C.n1 y)) I;rw [e1] at Q;have S:lk (resE vs++kat (kdd C.ks bs as)) (1000000+i)=a:=by
    have:=ksv vs 0 i (kat (kdd C.ks bs as)) (Nat.zero_le _);rw [Nat.sub_zero,ha] at this;exact this
   rw [S] at Q;have mem:∀ i,(alk (kaf (A:=sem) C.out C.n1 y).hp i).isSome=true->C.kept i=true/\i<C.n1:=λi hi=>by
    obtain ⟨b,hb⟩:=jap.1 hi;obtain ⟨B',_,m1,_,m3,_⟩:=kee hu hb;exact ⟨m3,m1⟩
   refine Q.ren (λ_ _ h=>h) (λj hj=>?_) (λj hj=>?_)
   ·have h3:=ktx h2 j hj;have:=mem j h3;have A2:=kjg (C:=C) (u:=kaf (A:=sem) C.out C.n1 y) (ids:=m.ids) (ln:=ln) (ln3:=ln3) R ag w this.1 this.2 h3;exact ⟨A2.1,A2.2.1⟩
   ·have h3:=ktx h2 j (kwh hj);have:=mem j h3;exact (kjg (C:=C) (u:=kaf (A:=sem) C.out C.n1 y) (ids:=m.ids) (ln:=ln) (ln3:=ln3) R ag w this.1 this.2 h3).2.2.1 (kxm h2 j hj)
  ·rcases aa i B hB with I | I
   ·exact .inl (o i I)
   ·exact .inr I.1
  ·show (if _ then _ else _)=_;rw [if_pos];rw [jax,jaj];rcases hi with I | I
   ·exact .inl (Y i I)
   ·exact .inr I
  ·show (if _ then _ else _)=_;rw [if_neg];rw [jax,jaj];rintro (I | I)
   ·exact k (o i I)
   ·omega
end
section
variable (P:Yd)
def AR:(ts:Ya Ty)->(tup ts).den->Ya AV->Prop
 | [],_,l=>l=[]
 | [t],x,l=>∃ a,l=[a]/\A1 P t x a
 | t::u::ts,x,l=>∃ a l',l=a::l'/\A1 P t x.1 a/\AR (u::ts) x.2 l'
def avsL:(ts:Ya Ty)->(tup ts).den->Ya AV
 | [],_=>[]
 | [t],x=>[t.av x]
 | t::u::ts,x=>t.av x.1::avsL (u::ts) x.2
def rav (rs:Ya Ty) (x:(tup rs).den):AV:=
 match rs with
 | [t]=>t.av x
 | rs=>.tp (avsL rs x)
def GoodI (g:FuncId) (I:CtrI):Prop:=I.ts.all Ty.dat=true/\∀ x xs,I.F x=some xs->∀ l,AR P I.as x l->IT P g l (xs.map λy=>avsL I.ts y)
def Good (g:FuncId) (C:Ctr):Prop:=C.rs.all Ty.dat=true/\(∀ x r,C.F x=some r->∀ l,AR P C.as x l->PC P g l (·= rav C.rs r))/\(∀ M∈C.mus,M.ok=true/\GoodM P g M)/\∀ I∈C.its,GoodI P g I
inductive Goods:List (FuncId×Ctr)->Prop
 | nil:Goods []
 | cons {g:FuncId} {C:Ctr} {l:List (FuncId×Ctr)} (h:Good P g C) (hl:Goods l):Goods ((g,C)::l)
end
section
variable {P:Yd} {κ κ':Nat->Yb Nat} {ln ln':Nat->Nat} {z z':AH} {c:Cx sem} {s:TS sem} {env:Env} {h h':AH} {n n' N N':Nat}
variable {ρ:Ty} {Kf:TV sem->TS sem->sem.Ans ρ} {r:ρ.den}
variable {d:Yb Tmp} {ty:Yc} {pos:String} {after:Array Edge} {g:Yb (Nat×Bool)}
theorem Goods.at {Δ:Ya (FuncId×Ctr)} (i:Goods P Δ):∀ {f:FuncId} {C:Ctr},alk Δ f=some C->Good P f C:=by
 induction i with
 | nil=>intro f C a; simp [alk] at a
 | cons h hl b=>
  intro f C a;simp only [alk] at a;split at a
  ·rename_i e; cases a; subst e; exact h
  ·exact b a
theorem AL.append {l l':Ya ((t:Ty)×t.den)} {as a:Ya AV} (h:AL P l as) (h':AL P l' a):AL P (l++l') (as++a):=by
 induction h with
 | nil=>exact h'
 | cons b _ e=>exact .cons b e
theorem kdx {t:Ty} {x:t.den} {a:AV} (b:t.dat=true):A1 P t x a↔a=t.av x:=by
 cases t <;> first | (simp [Ty.dat] at b; done) | exact ⟨λh=>h.2,λh=>⟨b,h⟩⟩
theorem kyI {t t':Ty} (e:t'=t) {x:t'.den} {a:AV} (h:A1 P t' x a):A1 P t (e ▸ x) a:=by subst e; exact h
theorem kkt:∀ (ts:Ya Ty) (l:Ya ((t:Ty)×t.den)) (as:Ya AV) (x:(tup ts).den),AL P l as->mkT sem ts l=some x->AR P ts x as:=by
 intro ts;induction ts with
 | nil=>
  intro l as x hl h;cases hl with
  | nil=>exact rfl
  | cons a hl=>exact kaa (r:=x) h
 | cons t ts j=>
  intro l as x hl h;cases ts with
  | nil=>
   cases hl with
   | nil=>exact kaa (r:=x) h
   | cons a hl=>
    cases hl with
    | nil=>
     obtain ⟨e,rfl⟩:=kam h;exact ⟨_,rfl,kyI e a⟩
    | cons h2 hl=>exact kaa (r:=x) h
  | cons u ts=>
   cases hl with
   | nil=>exact kaa (r:=x) h
   | cons a hl=>
    rw [kyo] at h;obtain ⟨k,i,h⟩:=jab.1 h;obtain ⟨m,b,rfl⟩:=jad.1 h;obtain ⟨e,rfl⟩:=kam i;exact ⟨_,_,rfl,kyI e a,j _ _ _ hl b⟩
theorem kpz:∀ {ts:Ya Ty} {x:(tup ts).den} {as:Ya AV},ts.all Ty.dat=true->AR P ts x as->as=avsL ts x
 | [],_,_,_,h=>h
 | [t],x,_,hd,h=>by
  obtain ⟨a,rfl,b⟩:=h;rw [(kdx (by simpa using hd)).1 b]; rfl
 | t::u::ts,x,_,hd,h=>by
  obtain ⟨a,l',rfl,b,h2⟩:=h;rw [jea,jac] at hd;rw [(kdx hd.1).1 b,kpz hd.2 h2]; rfl
theorem kAC:∀ {ts:Ya Ty} (x:(tup ts).den),ts.all Ty.dat=true->AL P (unT sem ts x) (avsL ts x)
 | [],_,_=>.nil
 | [t],x,hd=>.cons ((kdx (by simpa using hd)).2 rfl) .nil
 | t::u::ts,x,hd=>by
  rw [jea,jac] at hd;exact .cons ((kdx hd.1).2 rfl) (kAC (ts:=u::ts) x.2 hd.2)
theorem kny:∀ (m:Nat) (ts:Ya Ty) (x:Ty) (e:tup ts=x) (v:(tup ts).den),ts.length=m->avsN m x (e ▸ v)=avsL ts v
 | 0,[],_,rfl,v,_=>rfl
 | 1,[t],_,rfl,v,_=>rfl
 | m+2,t::u::ts,_,rfl,v,hl=>by
  show t.av v.1::avsN (m+1) (tup (u::ts)) v.2=t.av v.1::avsL (u::ts) v.2;rw [<-kny (m+1) (u::ts) _ rfl v.2 (by simpa using hl)]
theorem kud:∀ (m:Nat) (ts:Ya Ty),ts.length=m->untup m (tup ts)=ts
 | 0,[],_=>rfl
 | 1,[t],_=>rfl
 | m+2,t::u::ts,hl=>by
  show t::untup (m+1) (tup (u::ts))=_;rw [kud (m+1) (u::ts) (by simpa using hl)]
theorem kCo {l:Ya ((t:Ty)×t.den)} {as:Ya AV} (h:AL P l as) (b:∀ p∈l,p.1.dat=true):FreeL as:=by
 induction h with
 | nil=>intro a e; cases e
 | @cons p a l as i _ k=>
  have:=b p (by simp);rw [kch];exact ⟨by rw [(kdx this).1 i]; exact kiD _ _ this,k λq j=>b q (by simp [j])⟩
theorem khV (R:Rel P κ ln z c s env h n):∀ (ts:Ya Ty) (vs:Ya (TV sem)) (as:Ya AV) {l:Ya ((t:Ty)×t.den)} {ids:Ya Nat},TVRs P κ ln z s.n vs as->snapM (A:=sem) c s ts vs=some (l,ids)->
  ∃ b,AL P l b/\SnapL (hz (ows κ ln c s) h z ids) as b/\(∀ id∈ids,∃ B,thp c s id=some B)/\l.map (·.1)=ts/\∀ p∈l,p.1.dat=true
 | [],[],_,l,ids,.nil,hs=>by cases hs; exact ⟨[],.nil,.nil,λid hi=>by simp at hi,rfl,λp hp=>by simp at hp⟩
 | [],_::_,_,l,ids,_,hs=>by simp [snapM] at hs
 | _::_,[],_,l,ids,_,hs=>by simp [snapM] at hs
 | t::ts,v::vs,_,l,ids,.cons _ a _ as hv hvs,hs=>by
  simp only [snapM,jab,jad] at hs;obtain ⟨⟨x,i⟩,F,⟨l',e⟩,hl,k⟩:=hs;cases k;obtain ⟨j,C,h2⟩:=kbN R hv F;obtain ⟨b,g1,m,w,D,y⟩:=khV R ts vs as hvs hl;have E:=keb (o:=ows κ ln c s) (h:=h) (z:=z) (ids:=i) (ids':=i++e) R.zin (λid hi=>by simp [hi]);have u:=keb (o:=ows κ ln c s) (h:=h) (z:=z) (ids:=e) (ids':=i++e) R.zin (λid hi=>by simp [hi]);refine ⟨t.av x::b,.cons ((kdx j).2 rfl) g1,.cons (C.mono E) (m.mono u),λid hi=>?_,by simp [D],λp hp=>?_⟩
  ·rcases jaz.1 hi with hi | hi
   ·exact h2 id hi
   ·exact w id hi
  ·rcases jbu.1 hp with rfl | hp
   ·exact j
   ·exact y p hp
theorem TVR.fn_inv {g:FuncId} {vs:Ya (TV sem)} {a:AV} (h:TVR P κ ln z N (.fn g vs) a):∃ as,a = .fn g as/\TVRs P κ ln z N vs as:=by
 cases h with | fn _ _ as h=>exact ⟨as,rfl,h⟩
theorem kxA {C:Ctr} {f:FuncId} (hC:Good P f C) {m:Nat} {x y:Ty} {i:Ya ((t:Ty)×t.den)} {as:Ya AV} {F:x.den->Yb y.den} (b:AL P i as) (w:∀ p∈i,p.1.dat=true) (E:m<=C.as.length) (hF:mkClo sem C m x y i=some F):CV P m x y F (.fn f as):=by
 unfold mkClo at hF;split at hF
 ·rename_i B;split at hF
  ·rename_i l;split at hF
   ·rename_i j;cases hF;have e:(C.as.take m).length=m:=by rw [jbi]; omega
    subst B;have k:=kud m (C.as.take m) e;refine ⟨f,as,rfl,kCo b w,by rw [k,e],by rw [k]; exact j,?_,λv r hr=>?_⟩
    ·have:=hC.1; rw [l] at this; simpa using this
    ·dsimp only at hr;split at hr
     ·rename_i a A;obtain ⟨r',o,hr⟩:=jab.1 hr;cases hr;have hAR:=kkt _ _ _ _ (AL.append (kAC v j) b) A;rw [kny m _ _ rfl v e];obtain ⟨nm,u,rs,D,mus⟩:=C;simp only at l;subst l;exact hC.2.1 a r o _ hAR
     ·cases hr
   ·cases hF
  ·cases hF
 ·cases hF
theorem kxu {Δ:Ya (FuncId×Ctr)} (J:Goods P Δ) (R:Rel P κ ln z c s env h n) {t:Ty} {v:TV sem} {a:AV} {x:t.den} {ids:Ya Nat} (k:TVR P κ ln z s.n v a) (b:snapA (A:=sem) c Δ s t v=some (x,ids)) :
  ∃ a',A1 P t x a'/\Snap (hz (ows κ ln c s) h z ids) a a'/\∀ id∈ids,∃ B,thp c s id=some B:=by
 have dat:∀ {t:Ty} {x:t.den},snapV (A:=sem) c s t v=some (x,ids)->∃ a',A1 P t x a'/\Snap (hz (ows κ ln c s) h z ids) a a'/\∀ id∈ids,∃ B,thp c s id=some B:=λb=>by
  obtain ⟨H,I,h2⟩:=kbN R k b;exact ⟨_,(kdx H).2 rfl,I,h2⟩
 unfold snapA at b;split at b
 ·split at b
  ·simp only [jad] at b;obtain ⟨y,w,j⟩:=b;cases j;obtain ⟨e,rfl⟩:=kam w;cases e;cases k with
   | cv _ _ _ _ _ K=>
    obtain ⟨f,as,rfl,p,i⟩:=K;exact ⟨.fn f as,⟨f,as,rfl,p,i⟩,.free _ ((kiI _ _).2 p),λid hi=>by simp at hi⟩
  ·simp only [jab] at b;obtain ⟨C,hC,b⟩:=b;split at b
   ·rename_i o;simp only [jab,jad] at b;obtain ⟨⟨l,ids'⟩,hl,F,hF,j⟩:=b;cases j;obtain ⟨as,rfl,m⟩:=k.fn_inv;obtain ⟨u,g1,D,E,L,G⟩:=khV R _ _ as m hl;exact ⟨_,kxA (J.at hC) g1 G (by omega) hF,Snap.fnL D,E⟩
   ·cases b
  ·cases b
 ·exact dat b
theorem khb {Δ:Ya (FuncId×Ctr)} (j:Goods P Δ) (R:Rel P κ ln z c s env h n):∀ (ts:Ya Ty) (vs:Ya (TV sem)) (as:Ya AV) {l:Ya ((t:Ty)×t.den)} {ids:Ya Nat},TVRs P κ ln z s.n vs as->kes (A:=sem) c Δ s ts vs=some (l,ids)->
  ∃ b,AL P l b/\SnapL (hz (ows κ ln c s) h z ids) as b/\(∀ id∈ids,∃ B,thp c s id=some B)
 | [],[],_,l,ids,.nil,hs=>by cases hs; exact ⟨[],.nil,.nil,λid hi=>by simp at hi⟩
 | [],_::_,_,l,ids,_,hs=>by simp [kes] at hs
 | _::_,[],_,l,ids,_,hs=>by simp [kes] at hs
 | t::ts,v::vs,_,l,ids,.cons _ a _ as hv hvs,hs=>by
  simp only [kes,jab,jad] at hs;obtain ⟨⟨x,i⟩,C,⟨l',e⟩,hl,k⟩:=hs;cases k;obtain ⟨a',k1,w,h2⟩:=kxu j R hv C;obtain ⟨b,g1,m,u⟩:=khb j R ts vs as hvs hl;have y:=keb (o:=ows κ ln c s) (h:=h) (z:=z) (ids:=i) (ids':=i++e) R.zin (λid hi=>by simp [hi]);have p:=keb (o:=ows κ ln c s) (h:=h) (z:=z) (ids:=e) (ids':=i++e) R.zin (λid hi=>by simp [hi]);refine ⟨a'::b,.cons k1 g1,.cons (w.mono y) (m.mono p),λid hi=>?_⟩;rcases jaz.1 hi with hi | hi
  ·exact h2 id hi
  ·exact u id hi
theorem kun:∀ (ts:Ya Ty) (x:(tup ts).den),ts.all Ty.flat=true->FlatL (avsL ts x)
 | [],_,_=>by intro a b; cases b
 | [t],x,h=>by intro a b; simp [avsL] at b; subst b; exact kjU t x (by simpa using h)
 | t::u::ts,x,h=>by
  rw [jea,jac] at h;intro a b;rcases jbu.1 b with rfl | b
  ·exact kjU t x.1 h.1
  ·exact kun (u::ts) x.2 h.2 a b
theorem kvV (rs:Ya Ty) (x:(tup rs).den) (h:rs.all Ty.flat=true):Flat (rav rs x):=by
 unfold rav;split
 ·exact kjU _ _ (by simpa using h)
 ·exact (kBW _).2 (kun _ _ h)
theorem knC:∀ (ts:Ya Ty) (x:(tup ts).den),ts.all Ty.dat=true->TVRs P κ ln z N ((unT sem ts x).map λy=>TV.c y.1 y.2) (avsL ts x)
 | [],_,_=>.nil
 | [t],x,h=>.cons _ _ _ _ (.free (by simpa using h)) .nil
 | t::u::ts,x,h=>by
  rw [jea,jac] at h;exact .cons _ _ _ _ (.free h.1) (knC (u::ts) x.2 h.2)
theorem kpp (rs:Ya Ty) (x:(tup rs).den) (h:rs.all Ty.dat=true):TVR P κ ln z N (tvR (A:=sem) rs x) (rav rs x):=by
 match rs,x,h with
 | [],x,h=>exact .tp _ _ (knC [] x h)
 | [t],x,h=>exact .free (by simpa using h)
 | t::u::ts,x,h=>exact .tp _ _ (knC (t::u::ts) x h)
theorem Rel.eat (R:Rel P κ ln z c s env h n) {ids:Ya Nat} {s':TS sem} (v:z=λ_=>none) (o:Abs.retire s ids=some s'):Rel P κ ln z c { s' with dy:=false } env (λq=>if (ids.flatMap (ows κ ln c s)).contains q then none else h q) n:=by
 obtain ⟨l,A,w,G,C,H⟩:=R.retire o;have live:∀ id B q,thp c s' id=some B->Ow κ ln id B q->(ids.flatMap (ows κ ln c s)).contains q=false:=λid B q hB t=>by
  cases e:(ids.flatMap (ows κ ln c s)).contains q with
  | false=>rfl
  | true=>
   rw [jbv] at e;obtain ⟨j,u,p⟩:=List.mem_flatMap.1 e;have hz:=l.owZ hB t;rw [hz_in u p] at hz;obtain ⟨D,hBj⟩:=C j u;exact absurd hz ((R.blk j D (kab hBj)).live (keg (kab hBj) p))
 subst v;have sub:∀ id B,thp c s' id=some B->thp c s id=some B:=λid B hB=>by
  unfold Abs.retire at o;split at o
  ·cases o;unfold thp at hB ⊢;rw [kfu] at hB;split at hB
   ·rename_i b a;split at a
    ·cases a; cases hB
    ·rw [a]; exact hB
   ·rename_i a;split at a
    ·cases a
    ·rw [a]; exact hB
  ·cases o
 have F:∀ id,thp c { s' with dy:=false } id=thp c s' id:=λ_=>rfl;refine ⟨λx=>?_,λid B hB=>?_,λid B hB=>l.lt id B hB,λi j B y q hi u=>l.inj i j B y q hi u,(λq B m=>by cases m),λ_ _ _ _ _=>rfl,λid B q hB t=>l.bnd id B q hB t,λq m=>?_,l.e0,l.g,λ_=>rfl,(λq k T es m=>by cases m),l.fam.map (λid B hB=>.inl ⟨B,hB,λh=>h,rfl,rfl⟩) (λ_ _ _ _ _ _ _ _=>rfl) (jah _)⟩
 ·have:=R.env x;rw [<-kyy (c:=c) A,<-w] at this;exact this
 ·have a:=R.blk id B (sub id B hB);rw [<-w] at a;refine a.mono (λ_ _=>rfl) (λ_ _=>rfl) (λ_ _ h=>h) (jah _) (l.lt id B hB) λq E t h2=>?_;rw [if_neg (by rw [live id B q hB t]; simp)]; exact h2
 ·split
  ·rfl
  ·exact R.hn q m
theorem ktp {gg:Nat} {vs:Ya (TV sem)} {p:Prop} (a:askX (A:=sem) (ρ:=ρ) c s gg vs=some r):p:=by
 unfold askX at a;split at a
 ·cases a
 ·split at a
  ·exact kaa a
  ·split at a <;> exact kaa a
theorem kxY {Δ:Ya (FuncId×Ctr)} (hΔ:Goods P Δ) (R:Rel P κ ln z c s env h n) {l:Call} {f:Yf} (G:l.callee = .value f) (b:callX c Δ s (tev c s f) (l.args.toList.map (tev c s)) Kf=some r):Res P κ ln z c s env h n ⟨d,.call l,ty,pos,after,g⟩ Kf r:=by
 have j:TVRs P κ ln z s.n (l.args.toList.map (tev c s)) (l.args.toList.map (ev env)):=by
  generalize l.args.toList=xs;induction xs with
  | nil=>exact .nil
  | cons x xs ih=>exact .cons _ _ _ _ (R.ev x) ih
 have E:=R.ev f;unfold callX at b;split at b
 ·rename_i gg aa L;rw [L] at E;obtain ⟨as,u,k⟩:=E.fn_inv;split at b
  ·exact ktp b
  ·rename_i C hC;have hG:=hΔ.at hC;split at b
   ·exact ktp b
   ·rename_i la ids p;obtain ⟨I,g1,H,g3⟩:=khb hΔ R _ _ _ (j.append k) p;split at b
    ·exact kaa b
    ·rename_i a W;have hAR:=kkt _ _ _ _ g1 W;split at b
     ·rename_i e;simp only [jab] at b;obtain ⟨y,J,b⟩:=b;refine R.q (λK b=>?_) (kpp C.rs y hG.1) b;exact kiX G u rfl (PC.lend1 (H.mono (kfv R.zin)) (hG.2.1 a y J _ hAR) (kvV _ _ e) b)
     ·split at b
      ·exact kaa b
      ·rename_i Y;split at b
       ·exact kaa b
       ·rename_i s' D;simp only [jab] at b;obtain ⟨y,J,b⟩:=b;have t:=R.dy (by simpa using Y);obtain ⟨_,e1,e2,_⟩:=R.retire D;refine ⟨_,_,rav C.rs y,_,n,κ,ln,z,λK b=>?_,b,R.eat t D,kpp C.rs y hG.1,by simp [e2],λ_ _=>⟨rfl,λ_=>rfl⟩,λb=>by obtain ⟨_,_,_⟩:=l; simp only at G; subst G; simp [calm,kku] at b⟩;refine kiX G u rfl (PC.eat (hE:=hz (ows κ ln c s) h z ids) (ids.flatMap (ows κ ln c s)) (λi B hi=>?_) (λi B hi=>?_) H (hG.2.1 a y J _ hAR) b)
        ·refine ⟨?_,kfv R.zin i B hi⟩;unfold hz at hi;split at hi
         ·rename_i v;obtain ⟨id,U,Z⟩:=jbm.1 v;rw [jbv];exact List.mem_flatMap.2 ⟨id,U,by simpa using Z⟩
         ·rw [t] at hi; cases hi
        ·split at hi
         ·cases hi
         ·rename_i A; exact ⟨by simpa using A,hi⟩
 ·rename_i m x y F L;rw [L] at E;split at b
  ·rename_i hx;split at b
   ·exact kaa b
   ·rename_i la ids p;obtain ⟨I,g1,H,g3,g4,g5⟩:=khV R _ _ _ j p;split at b
    ·exact kaa b
    ·rename_i a W;split at b
     ·rename_i e;simp only [jab] at b;obtain ⟨w,hw,b⟩:=b;generalize T:ev env f=fa at E;cases E with
      | cv _ _ _ _ _ Q=>
       obtain ⟨gg,as,rfl,o,S,X,O,M⟩:=Q;have hAR:=kpz X (kkt _ _ _ _ g1 W);have hp:=M _ w hw;rw [kny m (untup m x) x hx a S,<-hAR] at hp;refine R.q (λK b=>?_) (.free O) b;exact kiX G T rfl (PC.lend1 ((H.append (SnapL.free o)).mono (kfv R.zin)) hp (kjU _ _ e) b)
     ·exact kaa b
  ·exact kaa b
 ·exact kaa b
end
def Ty.vals:(t:Ty)->t.den->Ya Ye
 | .i k,x=>[.int k x]
 | .b,x=>[.bool x]
 | .s,x=>[.string ⟨x.toArray⟩]
 | .w t,x=>t.vals x
 | .pr t u,x=>t.vals x.1++u.vals x.2
 | _,_=>[]
def eqB:(t:Ty)->t.den->t.den->Bool
 | .i _,x,y=>let a:Int:=x; let b:Int:=y; a==b
 | .b,x,y=>let a:Bool:=x; let b:Bool:=y; a==b
 | .s,x,y=>let a:Ya UInt8:=x; let b:Ya UInt8:=y; a==b
 | .w t,x,y=>eqB t x y
 | .pr t u,x,y=>eqB t x.1 y.1&&eqB u x.2 y.2
 | _,_,_=>true
theorem kir:∀ (t:Ty) (x:t.den),t.flat=true->(t.vals x).length=t.wd
 | .i _,_,_ | .b,_,_ | .s,_,_ | .un,_,_=>rfl
 | .w t,x,h=>kir t x h
 | .pr t u,x,h=>by
  simp only [Ty.flat,jac] at h;show (t.vals x.1++u.vals x.2).length=t.wd+u.wd;rw [jba,kir t x.1 h.1,kir u x.2 h.2]
theorem kjK:∀ (t:Ty) (x:t.den),t.flat=true->t.enc x=(t.vals x).map .sc
 | .i _,_,_ | .b,_,_ | .s,_,_ | .un,_,_=>rfl
 | .w t,x,h=>kjK t x h
 | .pr t u,x,h=>by
  simp only [Ty.flat,jac] at h;show t.enc x.1++u.enc x.2=(t.vals x.1++u.vals x.2).map .sc;rw [jcj,kjK t x.1 h.1,kjK u x.2 h.2]
theorem kyJ (l:Ya Ye):scV (l.map .sc)=some l:=by
 induction l with
 | nil=>rfl
 | cons v l a=>simp only [jas,scV,a]; rfl
theorem kni:∀ (t:Ty) (x y:t.den) (e:Bool),eqD (A:=sem) t x y=some e->e=eqB t x y
 | .i _,x,y,e,h | .b,x,y,e,h | .s,x,y,e,h=>by cases h; rfl
 | .w t,x,y,e,h=>kni t x y e h
 | .pr t u,x,y,e,h=>by
  simp only [eqD,jab,jad] at h;obtain ⟨p,hp,q,a,rfl⟩:=h;show (p&&q)=(eqB t x.1 y.1&&eqB u x.2 y.2);rw [kni t x.1 y.1 p hp,kni u x.2 y.2 q a]
 | .un,x,y,e,h | .sl _,x,y,e,h | .pt _,x,y,e,h | .op _,x,y,e,h | .ar _ _,x,y,e,h | .sm _ _,x,y,e,h | .fn _ _ _,x,y,e,h | .nt,x,y,e,h=>by simp [eqD] at h
section
variable {P:Yd}
theorem kCa {l:Yc->Ty->Bool} {recV:Yc->Ya Ye->Ya Ye->Yb Bool} (D:∀ T t,l T t=true->t.flat=true->∀ a b:t.den,recV T (t.vals a) (t.vals b)=some (eqB t a b)) :
  ∀ (k:Ya Field) (o:Nat) (t:Ty) (a b:t.den) (i j:Ya Ye),eqOkL P l k o t=true->t.flat=true->i.length=o->j.length=o->eqVF P recV k (i++t.vals a) (j++t.vals b)=some (eqB t a b):=by
 have m:∀ (f:Field) (k:Ya Field) (o:Nat) (u:Ty) (a b:u.den) (i j F H:Ya Ye) (q:Bool),(f.name != "_")=true->f.offset=o->P.cellsOf f.type=u.wd->aggO P f.type=some u.agg->l f.type u=true->u.flat=true->i.length=o->j.length=o->
   eqVF P recV k (i++(u.vals a++F)) (j++(u.vals b++H))=some q->eqVF P recV (f::k) (i++(u.vals a++F)) (j++(u.vals b++H))=some (eqB u a b&&q):=by
  intro f k o u a b i j F H q A h2 x B C y I J O;have l1:=kir u a y;have l2:=kir u b y;have e:∀ (p r:Ya Ye) (v:Ya Ye),p.length=o->v.length=u.wd->((p++(v++r)).drop f.offset).take (P.cellsOf f.type)=v:=λp r v hp M=>by
   rw [h2,x,<-hp,List.drop_left,<-M,List.take_left]
  unfold eqVF;rw [if_neg (by simp at A; simp [A,h2,x,I,J,l1,l2]),B];simp only;rw [if_neg (by
   rintro ⟨L,K⟩;rw [x] at K;exact K (kzY L (kdt y)))]
  rw [e i F _ I l1,e j H _ J l2,D _ _ C y,O]
 intro k;induction k with
 | nil=>
  intro o t a b i j h w G E;simp only [eqOkL,jaj] at h;subst h;simp [eqVF,eqB]
 | cons f k Q=>
  intro o t a b i j h w G E;cases k with
  | nil=>
   simp only [eqOkL,jac,jaj] at h;obtain ⟨⟨⟨⟨A,h2⟩,x⟩,B⟩,C⟩:=h;have:=m f [] o t a b i j [] [] true A h2 x B C w G E (by simp [eqVF]);simp only [jbe,Bool.and_true] at this;exact this
  | cons g k=>
   cases t <;> simp only [eqOkL,jac,jaj,jaf] at h;rename_i u v;obtain ⟨⟨⟨⟨⟨A,h2⟩,x⟩,B⟩,C⟩,y⟩:=h;simp only [Ty.flat,jac] at w;have l1:=kir u a.1 w.1;have l2:=kir u b.1 w.1;have hr:=Q (o+u.wd) v a.2 b.2 (i++u.vals a.1) (j++u.vals b.1) y w.2 (by simp [G,l1]) (by simp [E,l2]);rw [jav,jav] at hr;exact m f (g::k) o u a.1 b.1 i j (v.vals a.2) (v.vals b.2) _ A h2 x B C w.1 G E hr
theorem kzK:∀ (d:Nat) (T:Yc) (t:Ty),eqOkT P d T t=true->t.flat=true->∀ a b:t.den,eqV P d T (t.vals a) (t.vals b)=some (eqB t a b)
 | 0,T,t,h,_,_,_=>by simp [eqOkT] at h
 | d+1,T,t,h,i,a,b=>by
  simp only [eqOkT] at h;split at h
  ·rename_i hT;simp only [jaj] at h; subst h;simp only [eqV,hT,Ty.vals]; rfl
  ·rename_i hT;simp only [jaj] at h; subst h;simp only [eqV,hT,Ty.vals,if_true]; rfl
  ·rename_i hT;simp only [jaj] at h; subst h;simp only [eqV,hT,Ty.vals,kuC]; rfl
  ·rename_i j hT;simp only [jac,jbf] at h;obtain ⟨l,h2⟩:=h;have k:∀ t:Ty,t.flat=true->∀ a b:t.den,eqOkL P (eqOkT P d) j.toList 0 t=true->eqV P (d+1) T (t.vals a) (t.vals b)=some (eqB t a b):=λt i a b h2=>by
    have:=kCa (P:=P) (λT t h i a b=>kzK d T t h i a b) j.toList 0 t a b [] [] h2 i rfl rfl;simp only [jbd] at this;unfold eqV;rw [hT];simp only [l,jaf,if_false];exact this
   split at h2
   ·rename_i f u e;rw [<-e] at h2;exact k u i a b h2
   ·cases h2
   ·exact k _ i a b h2
  ·cases h
variable {κ κ':Nat->Yb Nat} {ln ln':Nat->Nat} {z z':AH} {c:Cx sem} {s:TS sem} {env:Env} {h h':AH} {n n' N N':Nat}
variable {ρ:Ty} {Kf:TV sem->TS sem->sem.Ans ρ} {r:ρ.den}
variable {d:Yb Tmp} {ty:Yc} {pos:String} {after:Array Edge} {g:Yb (Nat×Bool)}
theorem kuB (R:Rel P κ ln z c s env h n) {t:Ty} {v:TV sem} {a:AV} (k:t.flat=true) (e:t.agg=true) (i:TVR P κ ln z s.n v a) {x:t.den} (j:snapV (A:=sem) c s t v=some (x,[])):a = .ag (t.enc x):=by
 obtain ⟨_,b,_⟩:=kbN R i j;rw [kib e] at b;obtain ⟨cs,rfl,h2⟩:=b.ag_inv;rw [kjK t x k] at h2 ⊢;have:∀ (l:Ya Ye) (cs:Ya AV),SnapL (hz (ows κ ln c s) h z []) cs (l.map .sc)->cs=l.map .sc:=by
  intro l;induction l with
  | nil=>intro cs h; cases h; rfl
  | cons v l m=>
   intro cs h;cases h with
   | cons k1 k2=>rw [k1.sc_inv,m _ k2]; rfl
 rw [this _ _ h2]
theorem kyQ (R:Rel P κ ln z c s env h n) {G:BinOp} {T J:Yc} {x y:Yf} {u v:TV sem} (p:TVR P κ ln z s.n u (ev env x)) (A:TVR P κ ln z s.n v (ev env y)) (i:binX P c s G T u v Kf=some r):Res P κ ln z c s env h n ⟨d,.binOp G T x y J,ty,pos,after,g⟩ Kf r:=by
 have l:=i;unfold binX at i;split at i
 ·exact kBe R p.i_inv A.i_inv l
 ·exact kBg R p.s_inv A.s_inv l
 ·split at i
  ·rename_i a b w I;have m:=p.getB_inv w;have h2:=A.getB_inv I;split at i
   ·rename_i hT;replace hT:=ksh hT;split at i
    ·exact R.q (λK i=>by simp only [aop,m,h2,abin]; exact ⟨hT,i⟩) (.bool _) i
    ·exact R.q (λK i=>by simp only [aop,m,h2,abin]; exact ⟨hT,i⟩) (.bool _) i
    ·exact kaa i
   ·exact kaa i
  ·split at i
   ·rename_i t L;split at i
    ·rename_i H;simp only [jac,jbf,jaj] at H;obtain ⟨⟨⟨⟨o,w⟩,B⟩,F⟩,E⟩:=H;split at i
     ·rename_i a b C D;have m:=kuB R o w p C;have h2:=kuB R o w A D;have j:=λe (k:e=eqB t a b)=>kCQ (P:=P) (h:=h) (T:=T) (as:=t.enc a) (bs:=t.enc b) (xs:=t.vals a) (ys:=t.vals b) (d:=9) (r:=eqB t a b) (r':=e) (by decide) E F (by rw [kjK t a o,kyJ]) (by rw [kjK t b o,kyJ]) (kzK 9 T t B o a b) k.symm;split at i
      ·rename_i e k;have:=j e (kni t a b e k);exact R.q (λK i=>by simp only [aop,m,h2]; exact kCi this i) (.bool _) i
      ·rename_i e k;have:=j e (kni t a b e k);exact R.q (λK i=>by simp only [aop,m,h2]; exact kBP this i) (.bool _) i
      ·exact kaa i
     ·exact kaa i
    ·exact kaa i
   ·exact kaa i
end
mutual
theorem kwx {id:Nat}:∀ (v:TV sem),v.has id=false->drpV id v=v
 | .adr i x j,h=>by simp [TV.has] at h; simp [drpV,h]
 | .aa i x,h=>by simp [TV.has] at h; simp [drpV,h]
 | .mw i,h=>by simp [TV.has] at h; simp [drpV,h]
 | .ms i a b,h=>by simp [TV.has] at h; simp [drpV,h]
 | .fr i x,h=>by simp [TV.has] at h; simp [drpV,h]
 | .fa i x k o,h=>by simp [TV.has] at h; simp [drpV,h]
 | .fn g vs,h=>by simp only [TV.has] at h; simp only [drpV,klU vs h]
 | .tp vs,h=>by simp only [TV.has] at h; simp only [drpV,klU vs h]
 | .ag vs,h=>by simp only [TV.has] at h; simp only [drpV,klU vs h]
 | .un,_ | .gs _ _,_ | .yl _,_ | .kp _,_ | .ud,_ | .c _ _,_ | .kb _,_ | .sc _,_ | .ptr _ _,_ | .fq _ _ _,_ | .mp _,_ | .fw _,_ | .fo _ _ _,_ | .cv _ _ _ _,_=>by simp [drpV]
theorem klU {id:Nat}:∀ (vs:Ya (TV sem)),TV.has.hasL id vs=false->drpL id vs=vs
 | [],_=>by simp [drpL]
 | v::vs,h=>by simp only [TV.has.hasL,jdo] at h; simp only [drpL,kwx v h.1,klU vs h.2]
end
theorem kwZ {id:Nat}:∀ (vs:Ya (TV sem)),(drpL id vs).length=vs.length
 | []=>by simp [drpL]
 | v::vs=>by simp [drpL,kwZ vs]
theorem kBt {id:Nat} {B:TB sem} (h:B.has id=false):drpB id B=B:=by
 cases B <;> simp [drpB,TB.has] at h ⊢;exact klU _ h
theorem kse {id:Nat} {B:TB sem}:(drpB id B).isF=B.isF:=by cases B <;> rfl
theorem klR {α β:Type} (f:α->β):∀ (l:Ya (Nat×α)) (x:Nat),alk (l.map λy=>(y.1,f y.2)) x=(alk l x).map f
 | [],x=>rfl
 | (k,v)::l,x=>by
  simp only [jas,alk,klR f l x];split <;> rfl
theorem krD {α:Type}:∀ {l:Ya (Nat×α)} {x:Nat} {v:α},alk l x=some v->(x,v)∈l
 | (k,u)::l,x,v,h=>by
  simp only [alk] at h;split at h
  ·rename_i e; cases h; subst e; simp
  ·exact jaw _ (krD h)
section
variable {P:Yd} {κ κ':Nat->Yb Nat} {ln ln':Nat->Nat} {z z':AH} {c:Cx sem} {s:TS sem} {env:Env} {h h':AH} {n n' N N':Nat} {id q:Nat}
theorem kCF (a:c.has id=false) {x:Nat} {v:TV sem} (b:alk c.e0 x=some v):v.has id=false:=by
 unfold Cx.has at a;simp only [jdo] at a;have:=a.1.2;rw [List.any_eq_false] at this;simpa using this _ (krD b)
theorem kCB (a:c.has id=false) {x:Nat} {B:TB sem} (b:alk c.g x=some B):B.has id=false:=by
 unfold Cx.has at a;simp only [jdo] at a;have:=a.2;rw [List.any_eq_false] at this;simpa using this _ (krD b)
theorem kBS (b:c.has id=false) (x:Nat):tlk c (drpS s id) x=drpV id (tlk c s x):=by
 unfold tlk;have e:(drpS s id).env=s.env.map λx=>(x.1,drpV id x.2):=rfl;rw [e,klR];cases alk s.env x with
 | some v=>rfl
 | none=>
  simp only [Option.map_none];cases a:alk c.e0 x with
  | none=>simp [drpV]
  | some v=>exact (kwx v (kCF b a)).symm
theorem kCl (j:c.has id=false) (i:Nat):thp c (drpS s id) i=(thp c s i).map (drpB id):=by
 unfold thp;have e:(drpS s id).hp=s.hp.map λx=>(x.1,x.2.map (drpB id)):=rfl;rw [e,klR (λb:Yb (TB sem)=>b.map (drpB id))];cases alk s.hp i with
 | some v=>rfl
 | none=>
  simp only [Option.map_none];cases a:alk c.g i with
  | none=>rfl
  | some v=>simp [kBt (kCB j a)]
mutual
theorem TVR.drp (hl:(kae (ln' id)).length=(kae (ln id)).length) (p:∀ i,i≠id->ln' i=ln i):∀ {v:TV sem} {a:AV},TVR P κ ln z N v a->TVR P κ ln' z N (drpV id v) a
 | _,_,.un a=>by simp only [drpV]; exact .un a
 | _,_,.ud=>by simp only [drpV]; exact .ud
 | _,_,.gs t l=>by simp only [drpV]; exact .gs t l
 | _,_,.yl i q hi h=>by simp only [drpV]; exact .yl i q hi h
 | _,_,.kp i hi=>by simp only [drpV]; exact .kp i hi
 | _,_,.c t x a hd h=>by simp only [drpV]; exact .c t x a hd h
 | _,_,.kb b=>by simp only [drpV]; exact .kb b
 | _,_,.sc v h1=>by simp only [drpV]; exact .sc v h1
 | _,_,.ptr i j q hi h=>by simp only [drpV]; exact .ptr i j q hi h
 | _,_,.adr i x j q hi h h0 h1=>by
  simp only [drpV]; split
  ·exact .un _
  ·rename_i e; exact .adr i x j q hi h h0 (by rw [p i e]; exact h1)
 | _,_,.aa i x q hi h h0 h1=>by
  simp only [drpV]; split
  ·exact .un _
  ·rename_i e; exact .aa i x q hi h h0 (by rw [p i e]; exact h1)
 | _,_,.fq t x o a hd h=>by simp only [drpV]; exact .fq t x o a hd h
 | _,_,.mw0 i hi h=>by
  simp only [drpV]; split
  ·exact .un _
  ·exact .mw0 i hi h
 | _,_,.mw i q hi h=>by
  simp only [drpV]; split
  ·exact .un _
  ·rename_i e; rw [<-p i e]; exact .mw i q hi h
 | _,_,.ms0 i off len hi h h1 h2=>by
  simp only [drpV]; split
  ·exact .un _
  ·exact .ms0 i off len hi h h1 h2
 | _,_,.ms i off len q hi h h0 h1 h2=>by
  simp only [drpV]; split
  ·exact .un _
  ·rename_i e; exact .ms i off len q hi h h0 h1 (by rw [p i e]; exact h2)
 | _,_,.mp i q hi h=>by simp only [drpV]; exact .mp i q hi h
 | _,_,.fw0 i hi h=>by simp only [drpV]; exact .fw0 i hi h
 | _,_,.fw i q hi h=>by
  simp only [drpV];have e:(kae (ln' i)).length=(kae (ln i)).length:=by
   by_cases e:i=id
   ·subst e; exact hl
   ·rw [p i e]
  rw [<-e]; exact .fw i q hi h
 | _,_,.fr0 i x m hi h0 h=>by
  simp only [drpV]; split
  ·exact .un _
  ·rename_i e; exact .fr0 i x m hi h0 (by rw [p i e]; exact h)
 | _,_,.fr i x r m hi h0 h=>by
  simp only [drpV]; split
  ·exact .un _
  ·rename_i e; exact .fr i x r m hi h0 (by rw [p i e]; exact h)
 | _,_,.fo i x j q hi h h0 h1=>by
  simp only [drpV];have e:(kae (ln' i)).length=(kae (ln i)).length:=by
   by_cases e:i=id
   ·subst e; exact hl
   ·rw [p i e]
  exact .fo i x j q hi h h0 (by rw [e]; exact h1)
 | _,_,.fa i x k o r m hi h0 h hk hm=>by
  simp only [drpV]; split
  ·exact .un _
  ·rename_i e; exact .fa i x k o r m hi h0 (by rw [p i e]; exact h) hk hm
 | _,_,.fn g vs as h=>by simp only [drpV]; exact .fn g _ as (TVRs.drp hl p h)
 | _,_,.cv n x y F a h=>by simp only [drpV]; exact .cv n x y F a h
 | _,_,.tp vs as h=>by simp only [drpV]; exact .tp _ as (TVRs.drp hl p h)
 | _,_,.ag vs as h h1=>by simp only [drpV]; exact .ag _ as (TVRs.drp hl p h) h1
theorem TVRs.drp (hl:(kae (ln' id)).length=(kae (ln id)).length) (b:∀ i,i≠id->ln' i=ln i):∀ {v:Ya (TV sem)} {a:Ya AV},TVRs P κ ln z N v a->TVRs P κ ln' z N (drpL id v) a
 | _,_,.nil=>by simp only [drpL]; exact .nil
 | _,_,.cons v a vs as h hs=>by simp only [drpL]; exact .cons _ a _ as (TVR.drp hl b h) (TVRs.drp hl b hs)
end
theorem BR.drp (hl:(kae (ln' id)).length=(kae (ln id)).length) (y:∀ i,i≠id->ln' i=ln i) {i:Nat} {B:TB sem} (hi:i≠id) (w:∀ q AB,Ow κ ln i B q->h q=some AB->h' q=some AB) (F:BR P κ ln z h N i B):BR P κ ln' z h' N i (drpB id B):=by
 have e:=y i hi;cases F with
 | bx T vs q as a hB p o=>
  have:=kwZ (id:=id) vs;exact .bx T (drpL id vs) q as a (by rw [this]; exact w q _ (.inl a) hB) (p.drp hl y) o
 | el T t x q cs b a hB p o hl=>exact .el T t x q cs b a (w q _ (.inl a) hB) p o (by rw [e]; exact hl)
 | sl0 T t l b a hl hn=>exact .sl0 T t l b a hl (by rw [e]; exact hn)
 | sl T t l q es b a hB p o hn=>exact .sl T t l q es b a (w q _ (.inl a) hB) p o (by rw [e]; exact hn)
 | mp k v l q J H a hB=>exact .mp k v l q J H a (w q _ (.inl a) hB)
 | si x q a C hB=>exact .si x q a C (w q _ (.inl a) hB)
 | fm0 T t j U u l y b a hl hn=>exact .fm0 T t j U u l y b a hl (by rw [e]; exact hn)
 | fm T t j U u l y q es b a hB hn hl p C o=>
  refine .fm T t j U u l y q es b a (w q _ (.inl a) hB) (by rw [e]; exact hn) hl (λE x e' D h2 I A G=>?_) (by rw [e]; exact C) o;rw [e] at A;refine (p E x e' D h2 I A G).mono (λ_ _ h=>h) λr B hr hB=>w r B (.inr ⟨rfl,?_⟩) hB;obtain ⟨r',m⟩:=D;simp only at hr; subst hr;exact kaL A
theorem Rel.famSet (R:Rel P κ ln z c s env h n) {K B:TB sem} (S:c.has id=false) (Q:alk s.hp id=some (some K)) (T:K.isF=true) (hF:B.isF=true) (hl:(kae (ln' id)).length=(kae (ln id)).length) (G:∀ i,i≠id->ln' i=ln i)
  (H:n<=n') (M:∀ q,n'<=q->h' q=none) (L:∀ q B,z q=some B->h' q=some B) (X:∀ i B D AB,i≠id->thp c s i=some B->Ow κ ln i B D->h D=some AB->h' D=some AB) (hB:BR P κ ln' z h' s.n id B)
  (hr:(kar (ln' id)).Nodup/\∀ r∈kar (ln' id),r<n'/\z r=none/\κ id≠some r/\∀ i a,i≠id->thp c s i=some a->¬ Ow κ ln i a r) :
  Rel P κ ln' z c { drpS s id with hp:=(id,some B)::(drpS s id).hp } env h' n':=by
 have old:∀ i a,thp c { drpS s id with hp:=(id,some B)::(drpS s id).hp } i=some a->(i=id/\a=B)\/(i≠id/\∃ k,thp c s i=some k/\a=drpB id k):=λi a hi=>by
  rw [kbx] at hi;split at hi
  ·rename_i e; cases hi; exact .inl ⟨e,rfl⟩
  ·rename_i e;rw [kCl S,jad] at hi;obtain ⟨k,m,rfl⟩:=hi;exact .inr ⟨e,k,m,rfl⟩
 have live:∀ i a,thp c { drpS s id with hp:=(id,some B)::(drpS s id).hp } i=some a->∃ k,thp c s i=some k:=λi a hi=>by
  rcases old i a hi with ⟨rfl,_⟩ | ⟨_,k,m,_⟩
  ·exact ⟨K,kab Q⟩
  ·exact ⟨k,m⟩
 refine ⟨λx=>?_,λi a hi=>?_,λi a hi=>?_,λi j k w F hi u ki W=>?_,L,λi a F hi ki=>?_,λi a F hi ki=>?_,M,λx v C=>?_,λi b hi=>?_,R.dy,R.zk,λi a hi O=>?_⟩
 ·rw [show tlk c { drpS s id with hp:=(id,some B)::(drpS s id).hp } x=tlk c (drpS s id) x from rfl,kBS S];exact (R.env x).drp hl G
 ·rcases old i a hi with ⟨rfl,rfl⟩ | ⟨l,k,m,rfl⟩
  ·exact hB
  ·exact (R.blk i k m).drp hl G l λD AB k1 k2=>X i k D AB l m k1 k2
 ·obtain ⟨k,m⟩:=live i a hi;exact R.lt i k m
 ·obtain ⟨_,m⟩:=live i _ hi;obtain ⟨_,h2⟩:=live j _ u;exact R.inj i j _ _ F m h2 ki W
 ·obtain ⟨k,m⟩:=live i a hi;exact R.zout i k F m ki
 ·obtain ⟨k,m⟩:=live i a hi;exact jao (R.bnd i k F m ki) H
 ·replace C:alk (s.env.map λx=>(x.1,drpV id x.2)) x=some v:=C;rw [klR,jad] at C;obtain ⟨J,C,_⟩:=C;exact R.e0 x J C
 ·simp only [alk] at hi;split at hi
  ·rename_i e; subst e; exact R.g _ _ Q
  ·replace hi:alk (s.hp.map λx=>(x.1,x.2.map (drpB id))) i=some b:=hi;rw [klR (λb:Yb (TB sem)=>b.map (drpB id)),jad] at hi;obtain ⟨J,hi,_⟩:=hi;exact R.g i J hi
 ·rcases old i a hi with ⟨rfl,rfl⟩ | ⟨l,k,m,rfl⟩
  ·refine ⟨hr.1,λr t=>?_⟩;obtain ⟨k1,k2,k3,I⟩:=hr.2 r t;refine ⟨k1,k2,λj w u=>?_,λj w u p o=>?_⟩
   ·rcases old j w u with ⟨rfl,_⟩ | ⟨l,y,A,_⟩
    ·exact k3
    ·exact λe=>I j y l A (.inl e)
   ·rcases old j w u with ⟨rfl,_⟩ | ⟨l,y,A,rfl⟩
    ·rfl
    ·rw [kse] at p;rw [G j l] at o;exact absurd (.inr ⟨p,o⟩) (I j y l A)
  ·rw [kse] at O;obtain ⟨g1,U⟩:=R.fam i k m O;rw [G i l];refine ⟨g1,λr t=>?_⟩;obtain ⟨k1,k2,k3,I⟩:=U r t;refine ⟨jao k1 H,k2,λj w u=>?_,λj w u p o=>?_⟩
   ·obtain ⟨y,A⟩:=live j w u;exact k3 j y A
   ·rcases old j w u with ⟨rfl,_⟩ | ⟨E,y,A,rfl⟩
    ·exact absurd (.inr ⟨O,t⟩) ((hr.2 r o).2.2.2 i k l m)
    ·rw [kse] at p;rw [G j E] at o;exact I j y A p o
theorem Rel.newF (R:Rel P κ ln z c s env h n) (B:TB sem) (k:Yb Nat) (l:Nat) (H:∀ q B,h q=some B->h' q=some B) (E:n<=n') (C:∀ q,k=some q->n<=q/\q<n') (F:∀ q,n'<=q->h' q=none)
  (hB:BR P (updK κ s.n k) (updK ln s.n l) z h' (s.n+1) s.n B) (hr:(kar l).Nodup/\∀ r∈kar l,r<n/\z r=none/\∀ i o,thp c s i=some o->¬ Ow κ ln i o r):Rel P (updK κ s.n k) (updK ln s.n l) z c { s with hp:=(s.n,some B)::s.hp,n:=s.n+1 } env h' n':=by
 have v:∀ id,id<s.n->updK κ s.n k id = κ id:=λid hi=>kaF hi;have D:∀ id,id<s.n->updK ln s.n l id=ln id:=λid hi=>kaF hi;refine ⟨λx=>(R.env x).mono v D (λ_ _ h=>h) (jcb _),λid o a=>?_,λid o a=>?_,λi j K w q hi m ki A=>?_,λq o t=>H q o (R.zin q o t),λid o q a t=>?_,λid o q a t=>?_,F,R.e0,λid b a=>?_,R.dy,R.zk,λid o a G=>?_⟩
 ·rw [thp_n] at a;split at a
  ·rename_i e; cases a; subst e; exact hB
  ·exact (R.blk id o a).mono v D (λ_ _ h=>h) (jcb _) (R.lt id o a) λq B _=>H q B
 ·rw [thp_n] at a;split at a
  ·rename_i e; subst e; exact jbn _
  ·exact jej (R.lt id o a)
 ·rw [thp_n] at hi m;split at hi
  ·rename_i e; subst e;rw [updK_self] at ki;split at m
   ·rename_i e; exact e.symm
   ·rw [v j (R.lt j _ m)] at A;have:=R.bnd j _ q m A;have:=C q ki;omega
  ·rw [v i (R.lt i _ hi)] at ki;split at m
   ·rename_i e; subst e;rw [updK_self] at A;have:=R.bnd i _ q hi ki;have:=C q A;omega
   ·rw [v j (R.lt j _ m)] at A;exact R.inj i j _ _ q hi m ki A
 ·rw [thp_n] at a;split at a
  ·rename_i e; subst e;rw [updK_self] at t;exact R.zN (C q t).1
  ·rw [v id (R.lt id _ a)] at t; exact R.zout id o q a t
 ·rw [thp_n] at a;split at a
  ·rename_i e; subst e;rw [updK_self] at t;exact (C q t).2
  ·rw [v id (R.lt id _ a)] at t; exact jao (R.bnd id o q a t) E
 ·simp only [alk] at a;split at a
  ·rename_i e; subst e; exact R.gN
  ·exact R.g id b a
 ·rw [thp_n] at a;split at a
  ·rename_i e; cases a; subst e;rw [updK_self];refine ⟨hr.1,λr u=>?_⟩;obtain ⟨k1,k2,k3⟩:=hr.2 r u;refine ⟨by omega,k2,λj w m=>?_,λj w m y p=>?_⟩
   ·rw [thp_n] at m;split at m
    ·rename_i e; subst e;rw [updK_self];intro e;have:=C r e;omega
    ·rw [v j (R.lt j _ m)];exact λe=>k3 j w m (.inl e)
   ·rw [thp_n] at m;split at m
    ·rename_i e; exact e
    ·rw [D j (R.lt j _ m)] at p;exact absurd (.inr ⟨y,p⟩) (k3 j w m)
  ·obtain ⟨g1,I⟩:=R.fam id o a G;rw [D id (R.lt id _ a)];refine ⟨g1,λr u=>?_⟩;obtain ⟨k1,k2,k3,J⟩:=I r u;refine ⟨jao k1 E,k2,λj w m=>?_,λj w m y p=>?_⟩
   ·rw [thp_n] at m;split at m
    ·rename_i e; subst e;rw [updK_self];intro e;have:=C r e;omega
    ·rw [v j (R.lt j _ m)]; exact k3 j w m
   ·rw [thp_n] at m;split at m
    ·rename_i e; subst e;rw [updK_self] at p;exact absurd (.inr ⟨G,u⟩) ((hr.2 r p).2.2 id o a)
    ·rw [D j (R.lt j _ m)] at p;exact J j w m y p
theorem Rel.setO (R:Rel P κ ln z c s env h n) {m B:TB sem} {AB:ABlk} (l:alk s.hp id=some (some m)) (v:Ow κ ln id m q) (hB:BR P κ ln z (updH h q AB) s.n id B) (hF:B.isF=true->m.isF=true):Rel P κ ln z c { s with hp:=(id,some B)::s.hp } env (updH h q AB) n:=by
 have A:=R.owN (kab l) v;have p:=R.owZ (kab l) v;refine ⟨R.env,λi a hi=>?_,λi a hi=>?_,λi j x D k hi o ki y=>?_,λk a hz=>?_,λi a k hi ki=>?_,λi a k hi ki=>?_,λk hn=>?_,R.e0,λi b hi=>?_,R.dy,R.zk,R.fam.map (λi a hi=>?_) (λid _ B r _ u h2 C=>((R.fam id B u h2).2 r C).2.1) (jah _)⟩
 ·rw [kbx] at hi;split at hi
  ·rename_i e; cases hi; subst e; exact hB
  ·rename_i w;refine (R.blk i a hi).mono (λ_ _=>rfl) (λ_ _=>rfl) (λ_ _ h=>h) (jah _) (R.lt i a hi) λE x k1 u=>?_;unfold updH;rw [if_neg]; ·exact u
   rintro rfl;exact w (R.owI hi (kab l) k1 v)
 ·rw [kbx] at hi;split at hi
  ·rename_i e; subst e; exact R.lt _ m (kab l)
  ·exact R.lt i a hi
 ·have:∀ i a,thp c { s with hp:=(id,some B)::s.hp } i=some a->∃ t,thp c s i=some t:=λi a hi=>by
   rw [kbx] at hi;split at hi
   ·rename_i e; subst e; exact ⟨m,kab l⟩
   ·exact ⟨_,hi⟩
  obtain ⟨_,hi⟩:=this i _ hi;obtain ⟨_,o⟩:=this j _ o;exact R.inj i j _ _ k hi o ki y
 ·unfold updH;split
  ·rename_i e; subst e; rw [p] at hz; cases hz
  ·exact R.zin k a hz
 ·rw [kbx] at hi;split at hi
  ·rename_i e; subst e; exact R.zout _ m k (kab l) ki
  ·exact R.zout i a k hi ki
 ·rw [kbx] at hi;split at hi
  ·rename_i e; subst e; exact R.bnd _ m k (kab l) ki
  ·exact R.bnd i a k hi ki
 ·unfold updH;rw [if_neg (by omega)]; exact R.hn k hn
 ·simp only [alk] at hi;split at hi
  ·rename_i e; subst e; exact R.g _ _ l
  ·exact R.g i b hi
 ·rw [kbx] at hi;split at hi
  ·rename_i e; cases hi; subst e; exact .inl ⟨m,kab l,hF,rfl,rfl⟩
  ·exact .inl ⟨a,hi,λh=>h,rfl,rfl⟩
theorem Rel.famAt (R:Rel P κ ln z c s env h n) {i:Int} {T U:Yc} {t u:Ty} {j:Nat} {l:Ya t.den} {k:Yb Int} (hB:thp c s id=some (.fm T t j U u l k)) {y:t.den} (E:gi l i=some y) :
  t.dat=true/\0<=i/\l[i.toNat]?=some y/\∃ q es e b,κ id=some q/\h q=some (.cells t.wd T es)/\es[i.toNat]?=some e/\(kae (ln id))[i.toNat]?=some b/\(k≠some i->FamE z h j U u.wd (t.enc y) e b)/\l.length=(kae (ln id)).length/\es.length=l.length/\(∀ e∈es,e.length=t.wd/\∀ a∈e,a.one=true)/\
   (∀ (i:Nat) (x:t.den) (e:Ya AV) (b:Yb Nat×Nat),l[i]?=some x->es[i]?=some e->(kae (ln id))[i]?=some b->k≠some (i:Int)->FamE z h j U u.wd (t.enc x) e b)/\(∀ (i:Nat) (b:Yb Nat×Nat),k=some (i:Int)->(kae (ln id))[i]?=some b->b.1=none):=by
 obtain ⟨A,o,h2⟩:=kgZ E;cases R.blk _ _ hB with
 | fm0 _ _ _ _ _ _ _ B C hl hn=>subst hl; simp at o
 | fm _ _ _ _ _ _ _ q es B C F hn hl D p m=>
  have w:es[i.toNat]?=some (es[i.toNat]'(by omega)):=jae _;have hr:(kae (ln id))[i.toNat]?=some ((kae (ln id))[i.toNat]'(by omega)):=jae _;refine ⟨B,A,o,q,es,_,_,C,F,w,hr,λv=>D _ _ _ _ o w hr ?_,hn,hl,m,D,p⟩;rw [Int.toNat_of_nonneg A]; exact v
theorem kfQ {t u:Ty} {j:Nat} {y:t.den} {ys:Ya u.den} (b:t.dat=true) (hr:rowD (A:=sem) t u j y=some ys):u.dat=true/\j<t.wd/\(t.enc y)[j]?=some (.sl (ys.map u.enc)):=by
 unfold rowD at hr;simp only [jab] at hr;obtain ⟨⟨t',a⟩,i,hr⟩:=hr;obtain ⟨g1,l,m,o,k⟩:=kjP t y j 1 false b i;obtain ⟨e,rfl⟩:=kam hr;simp only at e; subst e;refine ⟨g1,by omega,?_⟩;have:((t.enc y).drop j).take 1=[.sl (a.map u.enc)]:=k;have h2:(((t.enc y).drop j).take 1)[0]?=some (.sl (a.map u.enc)):=by rw [this]; rfl
 rwa [jdx (by omega),jat,Nat.add_zero] at h2
theorem klO {val:(t:Ty)->Yb t.den} (a:∀ t y,val t=some y->t.dat=true):∀ (t:Ty) (x:t.den) (o m:Nat) (ag:Bool) {y:t.den},t.dat=true->setC (A:=sem) val t x o m ag=some y->
  ∃ t' e,val t'=some e/\(t'.enc e).length=m/\o+m<=t.wd/\t.enc y=(t.enc x).take o++t'.enc e++(t.enc x).drop (o+m)
 | .pr t u,x,o,m,ag,y,hd,hc=>by
  simp only [Ty.dat,jac] at hd;have l1:=kag t x.1 hd.1;have l2:=kag u x.2 hd.2;simp only [setC] at hc;show ∃ t' e,val t'=some e/\(t'.enc e).length=m/\o+m<=t.wd+u.wd/\t.enc y.1++u.enc y.2=(t.enc x.1++u.enc x.2).take o++t'.enc e++(t.enc x.1++u.enc x.2).drop (o+m);split at hc
  ·rename_i k;obtain ⟨rfl,rfl,rfl⟩:=k;have B:=kag _ y (a _ _ hc);simp only [Ty.wd] at B;refine ⟨_,y,hc,B,by omega,?_⟩;rw [jdq,jbd,jck,jbx (by simp; omega),jbe]; rfl
  ·split at hc
   ·rename_i v;simp only [jad] at hc;obtain ⟨w,l,rfl⟩:=hc;obtain ⟨t',e,g0,g1,C,p⟩:=klO a t x.1 o m ag hd.1 l;refine ⟨t',e,g0,g1,by omega,?_⟩;rw [List.take_append_of_le_length (by omega),List.drop_append_of_le_length (by omega),<-jav];show t.enc w++u.enc x.2=_;rw [p]
   ·split at hc
    ·rename_i v;simp only [jad] at hc;obtain ⟨w,l,rfl⟩:=hc;obtain ⟨t',e,g0,g1,C,p⟩:=klO a u x.2 (o-t.wd) m ag hd.2 l;refine ⟨t',e,g0,g1,by omega,?_⟩;show t.enc x.1++u.enc w=_;rw [List.take_append,jbq (by omega),List.drop_append,jbx (by omega),jbd];have D:o-(t.enc x.1).length=o-t.wd:=by omega
     have E:o+m-(t.enc x.1).length=o-t.wd+m:=by omega
     rw [D,E,jav,jav,<-jav ((u.enc x.2).take _),p]
    ·cases hc
 | .w t,x,o,m,ag,y,hd,hc=>by
  simp only [setC] at hc;split at hc
  ·rename_i k;obtain ⟨rfl,rfl,rfl⟩:=k;have j:=kag (.w t) x hd;have l2:=kag _ y (a _ _ hc);simp only [Ty.wd] at l2 j;refine ⟨_,y,hc,l2,by simp [Ty.wd],?_⟩;rw [jdq,jbd,jck,jbx (by omega),jbe]
  ·simp only [jad] at hc;obtain ⟨w,l,rfl⟩:=hc;exact klO a t x o m ag hd l
 | .i _,x,o,m,ag,y,hd,hc | .b,x,o,m,ag,y,hd,hc | .s,x,o,m,ag,y,hd,hc | .un,x,o,m,ag,y,hd,hc
 | .sl _,x,o,m,ag,y,hd,hc | .pt _,x,o,m,ag,y,hd,hc | .op _,x,o,m,ag,y,hd,hc | .ar _ _,x,o,m,ag,y,hd,hc=>by
  simp only [setC] at hc;split at hc
  ·rename_i k;obtain ⟨rfl,rfl,rfl⟩:=k;have j:=kag _ x hd;have l2:=kag _ y (a _ _ hc);refine ⟨_,y,hc,l2,by omega,?_⟩;rw [jdq,jbd,jck,jbx (by omega),jbe]
  ·cases hc
 | .nt,x,o,m,ag,y,hd,hc=>by simp [Ty.dat] at hd
 | .sm _ _,x,o,m,ag,y,hd,hc=>by simp [Ty.dat] at hd
 | .fn _ _ _,x,o,m,ag,y,hd,hc=>by simp [Ty.dat] at hd
theorem kBl {val:(t:Ty)->Yb t.den} (a:∀ t y,val t=some y->t.dat=true) (t:Ty) (x:t.den) (o m:Nat) (ag:Bool) {y:t.den} (e:t.dat=true) (l:setC (A:=sem) val t x o m ag=some y) (j:Nat) (b:o+m<=j\/j<o):(t.enc y)[j]?=(t.enc x)[j]?:=by
 obtain ⟨t',u,g0,g1,p,k⟩:=klO a t x o m ag e l;have i:=kag t x e;rw [k];rcases b with b | b
 ·rw [jci (by simp; omega),jat];congr 1;simp; omega
 ·rw [jav,jbl (by simp; omega),jdx b]
theorem kjc {t u:Ty} {j:Nat} {y i:t.den} {v:Ya u.den} (a:t.dat=true) (m:u.dat=true) (hr:rowS (A:=sem) t u j y v=some i):j<t.wd/\t.enc i=(t.enc y).set j (.sl (v.map u.enc)):=by
 unfold rowS at hr;obtain ⟨t',w,g0,g1,o,l⟩:=klO (val:=λt'=>tcast (A:=sem) (t':=.sl u) t' v) (λt' y k=>by
  obtain ⟨e,_⟩:=kam k;rw [<-e]; exact m) t y j 1 false a hr
 obtain ⟨e,rfl⟩:=kam g0;cases e;refine ⟨by omega,?_⟩;have b:=kag t y a;rw [l,List.set_eq_take_append_cons_drop,if_pos (by omega)];simp [Ty.enc]
theorem knS {val:(t:Ty)->Yb t.den}:∀ (t:Ty) (x:t.den) (o m:Nat) (ag:Bool) {y:t.den},t.dat=true->setC (A:=sem) val t x o m ag=some y->∃ t' j,val t'=some j/\t'.dat=true
 | .pr t u,x,o,m,ag,y,hd,hc=>by
  have e:=hd;simp only [Ty.dat,jac] at hd;simp only [setC] at hc;split at hc
  ·exact ⟨_,_,hc,e⟩
  ·split at hc
   ·simp only [jad] at hc;obtain ⟨w,a,_⟩:=hc;exact knS t x.1 o m ag hd.1 a
   ·split at hc
    ·simp only [jad] at hc;obtain ⟨w,a,_⟩:=hc;exact knS u x.2 (o-t.wd) m ag hd.2 a
    ·cases hc
 | .w t,x,o,m,ag,y,hd,hc=>by
  simp only [setC] at hc;split at hc
  ·exact ⟨_,_,hc,hd⟩
  ·simp only [jad] at hc;obtain ⟨w,a,_⟩:=hc;exact knS t x o m ag hd a
 | .i _,x,o,m,ag,y,hd,hc | .b,x,o,m,ag,y,hd,hc | .s,x,o,m,ag,y,hd,hc | .un,x,o,m,ag,y,hd,hc
 | .sl _,x,o,m,ag,y,hd,hc | .pt _,x,o,m,ag,y,hd,hc | .op _,x,o,m,ag,y,hd,hc | .ar _ _,x,o,m,ag,y,hd,hc=>by
  simp only [setC] at hc;split at hc
  ·exact ⟨_,_,hc,hd⟩
  ·cases hc
 | .nt,x,o,m,ag,y,hd,hc=>by simp [Ty.dat] at hd
 | .sm _ _,x,o,m,ag,y,hd,hc=>by simp [Ty.dat] at hd
 | .fn _ _ _,x,o,m,ag,y,hd,hc=>by simp [Ty.dat] at hd
theorem kwf {t u:Ty} {j:Nat} {y b:t.den} {v:Ya u.den} (a:t.dat=true) (hr:rowS (A:=sem) t u j y v=some b):u.dat=true:=by
 obtain ⟨t',w,g0,g1⟩:=knS (val:=λt'=>tcast (A:=sem) (t':=.sl u) t' v) t y j 1 false a hr;obtain ⟨e,_⟩:=kam g0;rw [<-e] at g1; exact g1
theorem FamE.snap {w:Nat} {U:Yc} {cs e:Ya AV} {l:Yb Nat×Nat} {j:Nat} (f:FamE z h j U w cs e l) (t:FreeL cs):∃ ys,cs[j]?=some (.sl ys)/\j<e.length/\l.2=ys.length/\SnapL z (e.set j (.sl ys)) cs:=by
 obtain ⟨o,h2,ys,k,m,v⟩:=f;have u:=(jag.1 k).1;refine ⟨ys,k,by omega,m,SnapL.of_at (by simp [o]) λp b b' hp i=>?_⟩;by_cases a:p=j
 ·subst a;rw [k] at i; cases i;rw [jby (by omega)] at hp; cases hp;exact .free _ (t _ (jak k))
 ·rw [jbh (λe=>a e.symm)] at hp;exact h2 p b b' a hp i
theorem FamE.row {w:Nat} {U:Yc} {cs e:Ya AV} {b:Yb Nat×Nat} {j:Nat} (f:FamE z h j U w cs e b) {ys:Ya (Ya AV)} (v:cs[j]?=some (.sl ys)):b.2=ys.length/\((b.1=none/\e[j]?=some nilS/\ys=[])\/∃ r es,b.1=some r/\e[j]?=some (.ms r 0 b.2)/\h r=some (.cells w U es)/\SnapE z es ys/\∀ x∈es,x.length=w/\∀ a∈x,a.one=true):=by
 obtain ⟨y,h2,t,l,k,i⟩:=f;rw [v] at l; cases l;obtain ⟨r,m⟩:=b;cases r with
 | none=>exact ⟨k,.inl ⟨rfl,i.1,i.2⟩⟩
 | some r=>
  obtain ⟨g1,es,o,p,u⟩:=i;exact ⟨k,.inr ⟨r,es,rfl,g1,o,p,u⟩⟩
end
section
variable {P:Yd} {κ κ':Nat->Yb Nat} {ln ln':Nat->Nat} {z z':AH} {c:Cx sem} {s:TS sem} {env:Env} {h h':AH} {n n' N N':Nat} {id:Nat}
variable {ρ:Ty} {Kf:TV sem->TS sem->sem.Ans ρ} {r:ρ.den}
variable {d:Yb Tmp} {ty:Yc} {pos:String} {after:Array Edge} {g:Yb (Nat×Bool)}
theorem TVRs.set {vs:Ya (TV sem)} {as:Ya AV} (e:TVRs P κ ln z N vs as) {v:TV sem} {a:AV} (i:TVR P κ ln z N v a) (j:Nat):TVRs P κ ln z N (vs.set j v) (as.set j a):=by
 induction vs generalizing as j with
 | nil=>cases e; exact .nil
 | cons o vs k=>
  cases e with
  | cons _ p _ m l b=>
   cases j with
   | zero=>exact .cons _ _ _ _ i b
   | succ j=>exact .cons _ _ _ _ l (k b j)
theorem kvv (R:Rel P κ ln z c s env h n) {T:Yc} {x i:Yf} {w:TV sem} (B:TVR P κ ln z s.n (.fw id) (ev env x)) (J:TVR P κ ln z s.n w (ev env i)) (b:kxn P c s T id w Kf=some r):Res P κ ln z c s env h n ⟨d,.indexAddr T x i,ty,pos,after,g⟩ Kf r:=by
 unfold kxn at b;split at b
 ·rename_i F T' t j U u l Q e hi hB E;split at b
  ·rename_i C;simp only [jab] at b;obtain ⟨y,D,b⟩:=b;obtain ⟨O,A,_,q,es,e',L,o,H,G,hr,_⟩:=R.famAt hB D;have v:=(jag.1 hr).1;have p:=J.i64_inv hi;generalize I:ev env x=a at B;cases B with
   | fw0 _ _ k=>rw [o] at k; cases k
   | fw _ M hN m=>
    rw [o] at m; cases m;refine R.q (λK b=>?_) (.fo id F 0 q hN o A v) b;simp only [aop,I,p,kds,E,H];exact ⟨A,by omega,C.1,C.2,by simpa using b⟩
  ·exact kaa b
 ·exact kaa b
theorem TVR.fr_inv {i:Int} {a:AV} (e:TVR P κ ln z N (.fr id i) a):id<N/\0<=i/\((∃ m,(kae (ln id))[i.toNat]?=some (none,m)/\a=nilS)\/∃ r m,(kae (ln id))[i.toNat]?=some (some r,m)/\a = .ms r 0 m):=by
 cases e with
 | fr0 _ _ m hN b h=>exact ⟨hN,b,.inl ⟨m,h,rfl⟩⟩
 | fr _ _ r m hN b h=>exact ⟨hN,b,.inr ⟨r,m,h,rfl⟩⟩
theorem kvP (R:Rel P κ ln z c s env h n) {T:Yc} {x i:Yf} {a:Int} {w:TV sem} (L:TVR P κ ln z s.n (.fr id a) (ev env x)) (G:TVR P κ ln z s.n w (ev env i)) (b:kwl P c s T id a w Kf=some r):Res P κ ln z c s env h n ⟨d,.indexAddr T x i,ty,pos,after,g⟩ Kf r:=by
 unfold kwl at b;split at b
 ·rename_i k T' t j U u l e hi hB I;split at b
  ·rename_i F;simp only [jab] at b;obtain ⟨y,H,b⟩:=b;split at b
   ·rename_i ys C;simp only [jab] at b;obtain ⟨w',p,b⟩:=b;obtain ⟨J,X,_,q,es,e',W,hq,hh,M,hr,O,_⟩:=R.famAt hB H;obtain ⟨k0,k1,k2⟩:=kgZ p;have B:=G.i64_inv hi;obtain ⟨Z,Y,v⟩:=kfQ J C;obtain ⟨A,E⟩:=(O (by simp)).row v;rw [jar] at A;obtain ⟨hN,S,⟨m,g1,D⟩ | ⟨r',m,g1,D⟩⟩:=L.fr_inv
    ·rw [hr] at g1; cases g1;rcases E with ⟨_,_,o⟩ | ⟨r2,es',o,_⟩
     ·rw [jdw] at o; subst o; simp at k1
     ·cases o
    ·rw [hr] at g1; cases g1;rcases E with ⟨o,_⟩ | ⟨r2,es',o,f4,Q,f6,f7⟩
     ·cases o
     ·cases o;refine R.q (λK b=>?_) (.fa id a k 0 r' m hN S hr k0 (by simp only at A; omega)) b;simp only [aop,D,B,kds,I,Q];exact ⟨k0,by simp only at A; omega,F.1,F.2,by simpa using b⟩
   ·exact kaa b
  ·exact kaa b
 ·exact kaa b
theorem kxo (R:Rel P κ ln z c s env h n) {T:Yc} {x:Yf} {i:Int} {j f:Nat} (l:TVR P κ ln z s.n (.fo id i j) (ev env x)) (b:kwD P c s T id i j f Kf=some r):Res P κ ln z c s env h n ⟨d,.fieldAddr T x f,ty,pos,after,g⟩ Kf r:=by
 unfold kwD at b;split at b
 ·exact kaa b
 ·rename_i m w u;split at b
  ·rename_i e;obtain ⟨B,hB,p⟩:=(jda _ _).1 e;generalize v:ev env x=a at l;cases l with
   | fo _ _ _ q hN k o t=>
    refine R.q (λK b=>?_) (.fo id i (j+m) q hN k o t) b;simp only [aop,u,v];exact ⟨kpX R hB k (by cases B <;> simp_all [TB.isF,keE]),b⟩
  ·exact kaa b
theorem Rel.rowAt (R:Rel P κ ln z c s env h n) {B:TB sem} (hB:thp c s id=some B) (j:B.isF=true) {i a m:Nat} (hr:(kae (ln id))[i]?=some (some a,m)):∃ k U es,h a=some (.cells k U es):=by
 cases B <;> simp only [TB.isF,jaf] at j;obtain ⟨p,t,x,e,g1,l,o,_,_,ys,_,_,u,es',b,v,w⟩:=(R.blk _ _ hB).row (kaL hr);exact ⟨_,_,_,b⟩
theorem kxa (R:Rel P κ ln z c s env h n) {T:Yc} {x:Yf} {a k:Int} {j f:Nat} (o:TVR P κ ln z s.n (.fa id a k j) (ev env x)) (b:kwy P c s T id a k j f Kf=some r):Res P κ ln z c s env h n ⟨d,.fieldAddr T x f,ty,pos,after,g⟩ Kf r:=by
 unfold kwy at b;split at b
 ·exact kaa b
 ·rename_i p C v;split at b
  ·rename_i e;obtain ⟨B,hB,i⟩:=(jda _ _).1 e;generalize y:ev env x=a at o;cases o with
   | fa _ _ _ _ t m hN u l h2 w=>
    refine R.q (λK b=>?_) (.fa id _ k (j+p) t m hN u l h2 w) b;obtain ⟨_,_,_,A⟩:=R.rowAt hB i l;simp only [aop,v,y,A];exact ⟨rfl,b⟩
  ·exact kaa b
theorem kvY (R:Rel P κ ln z c s env h n) {T:Yc} {x:Yf} (o:TVR P κ ln z s.n (.fw id) (ev env x)) (i:kvr P c s T id Kf=some r):Res P κ ln z c s env h n ⟨d,.call ⟨.builtin .len,#[x],#[T]⟩,ty,pos,after,g⟩ Kf r:=by
 unfold kvr at i;split at i
 ·rename_i T' t j U u l E e hB p;generalize v:ev env x=a at o;cases R.blk _ _ hB with
  | fm0 _ _ _ _ _ _ _ A m hl hn=>
   subst hl;cases o with
   | fw0=>
    refine R.q (λK i=>?_) (.int _ _) i;simp only [aop,kal,v,lenK,p];exact ⟨rfl,i⟩
   | fw _ y hN b=>rw [m] at b; cases b
  | fm _ _ _ _ _ _ _ q es A m B hn hl C w D=>
   cases o with
   | fw0 _ _ k=>rw [m] at k; cases k
   | fw _ y hN b=>
    rw [m] at b; cases b;refine R.q (λK i=>?_) (.int _ _) i;simp only [aop,kal,v,lenK,p,B];rw [<-hn]; exact ⟨rfl,rfl,λ_=>i⟩
 ·exact kaa i
theorem kww (R:Rel P κ ln z c s env h n) {T:Yc} {x:Yf} {a:Int} (D:TVR P κ ln z s.n (.fr id a) (ev env x)) (b:kvL P c s T id a Kf=some r):Res P κ ln z c s env h n ⟨d,.call ⟨.builtin .len,#[x],#[T]⟩,ty,pos,after,g⟩ Kf r:=by
 unfold kvL at b;split at b
 ·rename_i T' t j U u l e hB w;simp only [jab] at b;obtain ⟨y,B,b⟩:=b;split at b
  ·rename_i ys v;obtain ⟨C,I,_,q,es,e',H,O,S,E,hr,F,_⟩:=R.famAt hB B;obtain ⟨L,J,o⟩:=kfQ C v;obtain ⟨p,A⟩:=(F (by simp)).row o;rw [jar] at p;obtain ⟨hN,W,⟨m,g1,k⟩ | ⟨r',m,g1,k⟩⟩:=D.fr_inv
   ·rw [hr] at g1; cases g1;rcases A with ⟨_,_,i⟩ | ⟨r2,es',i,_⟩
    ·rw [jdw] at i; subst i;refine R.q (λK b=>?_) (.int _ _) b;simp only [aop,kal,k,lenK,w];exact ⟨rfl,b⟩
    ·cases i
   ·rw [hr] at g1; cases g1;rcases A with ⟨i,_⟩ | ⟨r2,es',i,M,G,Q,X⟩
    ·cases i
    ·cases i;refine R.q (λK b=>?_) (.int _ _) b;simp only [aop,kal,k,lenK,w,G];simp only at p;rw [p]; exact ⟨rfl,rfl,λ_=>b⟩
  ·exact kaa b
 ·exact kaa b
theorem kAb (R:Rel P κ ln z c s env h n) {T:Yc} {x:Yf} {t:Ty} {y:t.den} {o:Nat} {ag:Bool} {cs D:Ya AV} (u:t.dat=true) (e:aggO P T=some ag) (w:SnapL z cs (t.enc y)) (hp:deref h (ev env x)=some D) (hD:D.take (P.cellsOf T)=(cs.drop o).take (P.cellsOf T)) (hl:o+P.cellsOf T<=t.wd->P.cellsOf T<=D.length)
  (b:partX t y o (P.cellsOf T) ag (λv=>Kf v s)=some r):Res P κ ln z c s env h n ⟨d,.load T x,ty,pos,after,g⟩ Kf r:=by
 unfold partX at b;split at b
 ·rename_i p A;obtain ⟨t',B⟩:=p;obtain ⟨g1,k,l,j,m⟩:=kjP t y o _ ag u A;have i:=(w.drop o).take (P.cellsOf T);rw [m,<-hD] at i;obtain ⟨a,k1,k2,k3⟩:=knt (P:=P) (κ:=κ) (ln:=ln) (N:=s.n) g1 k l i (hl j);refine R.q (λK b=>?_) k1 b;simp only [aop,hp,loadK,e];cases ag with
  | true=>refine ⟨hl j,?_⟩; rw [<-k2 rfl]; exact b
  | false=>exact ⟨a,k3 rfl,b⟩
 ·exact kaa b
theorem kva (R:Rel P κ ln z c s env h n) {T:Yc} {x:Yf} {a k:Int} {o:Nat} (A:TVR P κ ln z s.n (.fa id a k o) (ev env x)) (b:ktK P c s T id a k o Kf=some r):Res P κ ln z c s env h n ⟨d,.load T x,ty,pos,after,g⟩ Kf r:=by
 unfold ktK at b;split at b
 ·rename_i ag T' t j U u l w hB;simp only [jab] at b;obtain ⟨y,B,b⟩:=b;split at b
  ·rename_i ys v;simp only [jab] at b;obtain ⟨w',e,b⟩:=b;obtain ⟨D,W,_,q,es,e',M,Z,hh,H,hr,I,_⟩:=R.famAt hB B;obtain ⟨k0,k1,k2⟩:=kgZ e;obtain ⟨C,X,p⟩:=kfQ D v;obtain ⟨F,E⟩:=(I (by simp)).row p;rw [jar] at F;generalize L:ev env x=av at A;cases A with
   | fa _ _ _ _ O m hN a0 g1 Q S=>
    rw [hr] at g1; cases g1;rcases E with ⟨i,_⟩ | ⟨r2,es',i,Y,J,G,f7⟩
    ·cases i
    ·cases i;obtain ⟨e2,h2,K⟩:=G.at (kno k1);have hp:=koI (env:=env) L J h2;exact knI R C w rfl K hp b
  ·exact kaa b
 ·exact kaa b
theorem kuQ {α:Type} {l:Ya α} {j o m:Nat} {a:α} (b:o+m<=j\/j<o):((l.set j a).drop o).take m=(l.drop o).take m:=by
 apply List.ext_getElem?;intro i;rw [jbr,jbr];split
 ·rw [jat,jat,jbh (by omega)]
 ·rfl
theorem kuP (R:Rel P κ ln z c s env h n) {T:Yc} {x:Yf} {i:Int} {o:Nat} (Q:TVR P κ ln z s.n (.fo id i o) (ev env x)) (k:ktT P c s T id i o Kf=some r):Res P κ ln z c s env h n ⟨d,.load T x,ty,pos,after,g⟩ Kf r:=by
 unfold ktT at k;split at k
 ·rename_i ag T' t j U u l v hB;simp only [jab] at k;obtain ⟨y,X,k⟩:=k;obtain ⟨H,J,_,q,es,e,W,hq,hh,E,hr,S,hn,hl,O,_⟩:=R.famAt hB X;generalize hx:ev env x=av at Q;cases Q with
  | fo _ _ _ q' hN B i0 i1=>
   rw [hq] at B; cases B;have hp:=koI (env:=env) hx hh E;obtain ⟨ys,f1,f2,f3,L⟩:=(S (by simp)).snap (kbV t y H);obtain ⟨_,f5⟩:=(S (by simp)).row f1;have aa:=(O e (jak E)).1;have row:∃ a,e[j]?=some a/\TVR P κ ln z s.n (.fr id i) a:=by
    obtain ⟨rr,m⟩:=W;rcases f5 with ⟨g1,F,Y⟩ | ⟨r2,es',g1,F,Y,g4,g5⟩
    ·simp only at g1; subst g1;exact ⟨_,F,.fr0 id i m hN J hr⟩
    ·simp only at g1; subst g1;exact ⟨_,F,.fr id i r2 m hN J hr⟩
   obtain ⟨a,M,A⟩:=row;split at k
   ·rename_i D;obtain ⟨rfl,rfl⟩:=D;refine R.q (λK k=>?_) A k;simp only [aop,hp,loadK,v];exact ⟨a,by rw [jat]; exact M,k⟩
   ·split at k
    ·rename_i D;exact kAb R H v L hp (kuQ D).symm (λI=>by simp; omega) k
    ·split at k
     ·rename_i D;obtain ⟨rfl,G,I⟩:=D;have C:=(kgX (P:=P) (κ:=κ) (ln:=ln) (N:=s.n) t y _ H G L).set A j;rw [List.set_set,show e.set j a=e by
       apply List.ext_getElem?;intro p;by_cases w:p=j
       ·subst w; rw [jby (by omega),M]
       ·rw [jbh (λe=>w e.symm)]] at C
      refine R.q (λK k=>?_) (.ag _ _ ((C.drop o).take (P.cellsOf T)) (λb Z=>(O e (jak E)).2 b (jcx (jcq Z)))) k;simp only [aop,hp,loadK,v];exact ⟨by simp; omega,k⟩
     ·exact kaa k
 ·exact kaa k
end
theorem kll {α β:Type} {f:α->Yb β} {x:β} {p:α}:∀ {l:Ya α} {a:Nat},x∈(l.set a p).filterMap f->x∈l.filterMap f\/f p=some x
 | [],a,h=>by simp at h
 | y::l,0,h=>by
  rw [List.set_cons_zero,jco] at h;obtain ⟨w,b,e⟩:=h;rcases jbu.1 b with rfl | b
  ·exact .inr e
  ·exact .inl (jco.2 ⟨w,jaw _ b,e⟩)
 | y::l,a+1,h=>by
  rw [List.set_cons_succ,jco] at h;obtain ⟨w,b,e⟩:=h;rcases jbu.1 b with rfl | b
  ·exact .inl (jco.2 ⟨w,jcm ..,e⟩)
  ·rcases kll (jco.2 ⟨w,b,e⟩) with j | j
   ·obtain ⟨w',k,i⟩:=jco.1 j;exact .inl (jco.2 ⟨w',jaw _ k,i⟩)
   ·exact .inr j
theorem kjm {α β:Type} {f:α->Yb β} {p:α}:∀ {l:Ya α} {a:Nat},(l.filterMap f).Nodup->(∀ x,f p=some x->x∉l.filterMap f)->((l.set a p).filterMap f).Nodup
 | [],a,h,_=>by simp
 | y::l,0,h,hp=>by
  have hl:(l.filterMap f).Nodup:=by
   rw [jdb] at h;split at h
   ·exact h
   ·exact (jcz.1 h).2
  rw [List.set_cons_zero,jdb];split
  ·exact hl
  ·rename_i x k;refine jcz.2 ⟨λe=>hp x k ?_,hl⟩;rw [jdb];split
   ·exact e
   ·exact jaw _ e
 | y::l,a+1,h,hp=>by
  rw [List.set_cons_succ,jdb];rw [jdb] at h;have i:∀ x,f p=some x->x∉l.filterMap f:=λx k e=>hp x k (by
   rw [jdb];split
   ·exact e
   ·exact jaw _ e)
  split
  ·rename_i hn;rw [hn] at h;exact kjm h i
  ·rename_i b m;rw [m] at h;obtain ⟨o,h2⟩:=jcz.1 h;refine jcz.2 ⟨λe=>?_,kjm h2 i⟩;rcases kll e with j | j
   ·exact o j
   ·refine hp b j ?_;rw [jdb,m];exact jcm ..
theorem kmE {α β:Type} {f:α->Yb β} {x:β} {u v:α}:∀ {l:Ya α} {i j:Nat},(l.filterMap f).Nodup->l[i]?=some u->l[j]?=some v->f u=some x->f v=some x->i=j
 | [],i,j,h,hi,_,_,_=>by simp at hi
 | y::l,i,j,h,hi,hj,hu,hv=>by
  rw [jdb] at h;cases i with
  | zero=>
   simp at hi; subst hi;cases j with
   | zero=>rfl
   | succ j=>
    rw [jbz] at hj;rw [hu] at h;exact absurd (jco.2 ⟨v,jak hj,hv⟩) (jcz.1 h).1
  | succ i=>
   rw [jbz] at hi;cases j with
   | zero=>
    simp at hj; subst hj;rw [hv] at h;exact absurd (jco.2 ⟨u,jak hi,hu⟩) (jcz.1 h).1
   | succ j=>
    rw [jbz] at hj;have h':(l.filterMap f).Nodup:=by
     split at h
     ·exact h
     ·exact (jcz.1 h).2
    rw [kmE h' hi hj hu hv]
theorem koM (l:Ya (Yb Nat×Nat)):kar (codeR l)=l.filterMap (·.1):=by unfold kar; rw [kcg]
section
variable {P:Yd} {κ κ':Nat->Yb Nat} {ln ln':Nat->Nat} {z z':AH} {c:Cx sem} {s:TS sem} {env:Env} {h h':AH} {n n' N N':Nat} {id:Nat}
variable {ρ:Ty} {Kf:TV sem->TS sem->sem.Ans ρ} {r:ρ.den}
variable {d:Yb Tmp} {ty:Yc} {pos:String} {after:Array Edge} {g:Yb (Nat×Bool)}
theorem BR.fmSet {q a j:Nat} {T U:Yc} {t u:Ty} {l:Ya t.den} {es:Ya (Ya AV)} {F:t.den} {e':Ya AV} {G:Yb Int} (H:t.dat=true) (J:κ id=some q) (L:h' q=some (.cells t.wd T (es.set a e'))) (hn:l.length=(kae (ln id)).length) (hl:es.length=l.length)
  (K:∀ (i:Nat) (x:t.den) (e:Ya AV) (k:Yb Nat×Nat),l[i]?=some x->es[i]?=some e->(kae (ln id))[i]?=some k->G≠some (i:Int)->FamE z h j U u.wd (t.enc x) e k) (A:∀ i:Nat,G=some (i:Int)->i=a)
  (D:(kae (ln' id)).length=(kae (ln id)).length) (w:∀ i,i≠a->(kae (ln' id))[i]?=(kae (ln id))[i]?) (C:∀ (i r m:Nat) (B:ABlk),i≠a->(kae (ln id))[i]?=some (some r,m)->h r=some B->h' r=some B)
  (v:∀ k,(kae (ln' id))[a]?=some k->FamE z h' j U u.wd (t.enc F) e' k) (I:∀ e∈es,e.length=t.wd/\∀ a∈e,a.one=true) (E:e'.length=t.wd/\∀ a∈e',a.one=true):BR P κ ln' z h' N id (.fm T t j U u (l.set a F) none):=by
 refine .fm T t j U u (l.set a F) none q (es.set a e') H J L (by rw [jbs,hn,D]) (by simp [hl]) (λi x e k y o hr _=>?_) (λi k hi=>by cases hi) (λe o=>?_)
 ·by_cases b:i=a
  ·subst b;rw [jby (by have:=(jag.1 y).1; rwa [jbs] at this)] at y;rw [jby (by have:=(jag.1 o).1; rwa [jbs] at this)] at o;cases y; cases o;exact v k hr
  ·rw [jbh (λe=>b e.symm)] at y o;rw [w i b] at hr;refine (K i x e k y o hr (λe=>b (A i e))).mono (λ_ _ h=>h) λr B p hB=>?_;obtain ⟨r',m⟩:=k;simp only at p; subst p;exact C i r m B b hr hB
 ·rcases List.mem_or_eq_of_mem_set o with o | rfl
  ·exact I e o
  ·exact E
theorem snapC (R:Rel P κ ln z c s env h n) {x:Yf} {v:TV sem} (l:TVR P κ ln z s.n v (ev env x)) {xs:Ya AV} (b:kaK (ev env x)=some xs) (t:Ty) (y:t.den) (a:((snapV (A:=sem) c s t v).bind λy=>if y.2.isEmpty then some y.1 else none)=some y):t.dat=true/\SnapL z xs (t.enc y):=by
 simp only [jab] at a;obtain ⟨⟨w,ids⟩,m,a⟩:=a;split at a
 ·rename_i e;cases a;obtain rfl:=jdd.1 e;obtain ⟨j,i,h2,k⟩:=kho R l m;rw [b] at i; cases i;rw [kbG] at h2;exact ⟨k,h2⟩
 ·cases a
theorem ktg (R:Rel P κ ln z c s env h n) {x:Yf} {v:TV sem} (k:TVR P κ ln z s.n v (ev env x)) {t:Ty} {y u:t.den} {o m:Nat} {ag:Bool} {e:Ya AV} (D:m≠0) (i:t.dat=true) (l:SnapL z e (t.enc y)) (p:setC (A:=sem) (λt=>(snapV c s t v).bind λy=>if y.2.isEmpty then some y.1 else none) t y o m ag=some u) :
  ∃ xs,kaK (ev env x)=some xs/\xs.length=m/\o+m<=e.length/\SnapL z (e.take o++xs++e.drop (o+m)) (t.enc u):=by
 cases a:kaK (ev env x) with
 | some xs=>exact ⟨xs,rfl,kdQ (snapC R k a) t y o m ag e i p l⟩
 | none=>
  exfalso;have:=kdQ (z:=z) (xs:=[]) (val:=λt=>(snapV (A:=sem) c s t v).bind λy=>if y.2.isEmpty then some y.1 else none) (λt y b=>by
   simp only [jab] at b;obtain ⟨⟨w,ids⟩,C,b⟩:=b;obtain ⟨B,j,h2,E⟩:=kho R k C;rw [a] at j; cases j) t y o m ag e i p l
  simp at this;omega
theorem Rel.famNums (R:Rel P κ ln z c s env h n) {B:TB sem} (hB:thp c s id=some B) (a:B.isF=true):(kar (ln id)).Nodup:=(R.fam id B hB a).1
theorem ktz (R:Rel P κ ln z c s env h n) {T:Yc} {p x:Yf} {a k:Int} {o:Nat} {v:TV sem} (hu:TVR P κ ln z s.n (.fa id a k o) (ev env p)) (hv:TVR P κ ln z s.n v (ev env x)) (w:krR P c s T id a k o v Kf=some r):Res P κ ln z c s env h n ⟨d,.store T p x,ty,pos,after,g⟩ Kf r:=by
 unfold krR at w;split at w
 ·rename_i ag T' t j U u l ai hB;replace hB:=kea hB;split at w
  ·exact kaa w
  ·rename_i Q;simp only [jab] at w;obtain ⟨y,hy,w⟩:=w;split at w
   ·rename_i ys aa;simp only [jab] at w;obtain ⟨w',Y,w⟩:=w;split at w
    ·rename_i x' ae;split at w
     ·rename_i y' W;obtain ⟨hd,h0,ah,q,es,e',rm,hq,hh,D,hr,hf,hn,hl,h1,ad,_⟩:=R.famAt (kab hB) hy;obtain ⟨k0,k1,k2⟩:=kgZ Y;obtain ⟨A,hj,I⟩:=kfQ hd aa;have f:=hf (by simp);obtain ⟨f1,f2⟩:=f.row I;rw [jar] at f1;generalize L:ev env p=av at hu;cases hu with
      | fa _ _ _ _ M m hN a0 g1 g2 g3=>
       rw [hr] at g1; cases g1;rcases f2 with ⟨f3,_⟩ | ⟨r2,es',f3,f4,f5,f6,f7⟩
       ·cases f3
       ·cases f3;obtain ⟨e2,h2,h3⟩:=f6.at (kno k1);have af:=(f7 e2 (jak h2)).1;obtain ⟨xs,Z,c1,c2,c3⟩:=ktg R hv Q A h3 ae;obtain ⟨_,C⟩:=kjc hd A W;have X:Ow κ ln id (TB.fm T' t j U u l none) M:=.inr ⟨rfl,kaL hr⟩;have ac:∀ q',κ id=some q'->q'≠M:=λq' ab e=>((R.fam id _ (kab hB) rfl).2 M (kaL hr)).2.2.1 id _ (kab hB) (by rw [ab,e]);have E:es.set a.toNat e'=es:=by
         apply List.ext_getElem?;intro p;by_cases G:p=a.toNat
         ·subst G; rw [jby (jag.1 D).1,D]
         ·rw [jbh (λe=>G e.symm)]
        have F:BR P κ ln z (updH h M (.cells u.wd U (es'.set k.toNat (putAt e2 o xs)))) s.n id (.fm T' t j U u (lset l a y') none):=by
         unfold lset;refine BR.fmSet (e':=e') hd hq (by rw [E]; unfold updH; rw [if_neg (ac q hq)]; exact hh) hn hl ad (λi e=>by cases e) rfl (λ_ _=>rfl) (λi r m B hi O hB'=>?_) (λrm H=>?_) h1 (h1 e' (jak D))
         ·unfold updH;rw [if_neg]
          ·exact hB'
          ·rintro rfl;exact hi (kmE (R.famNums (kab hB) rfl) O hr rfl rfl)
         ·rw [hr] at H; cases H;obtain ⟨w1,w2,w3⟩:=f;have S:j<(t.enc y).length:=(jag.1 I).1;refine ⟨by rw [C,jbs]; exact w1,λp b b' hp hb J=>?_,_,by rw [C,jby S],by simp [lset]; exact f1,f4,es'.set k.toNat (putAt e2 o xs),if_pos rfl,?_,λx L=>?_⟩
          ·rw [C,jbh (λe=>hp e.symm)] at J;exact w2 p b b' hp hb J
          ·unfold lset;rw [List.map_set,kcj (by omega),c1];exact kpg f6 c3
          ·rcases List.mem_or_eq_of_mem_set L with L | rfl
           ·exact f7 x L
           ·rw [kcj (by omega),c1];refine ⟨by simp; omega,c3.one_rev (kbq u x' A)⟩
        exact ⟨.ud,_,.ud,_,_,κ,ln,z,λK w=>by
         simp only [aop,L,kcr,f5,Z,h2];exact ⟨c1,by omega,by omega,w⟩,w,R.setO hB X F (λ_=>rfl),.ud,jah _,λ_ _=>⟨rfl,λ_=>rfl⟩,λhc=>by cases hc⟩
     ·exact kaa w
    ·exact kaa w
   ·exact kaa w
 ·exact kaa w
theorem kBL {e xs:Ya AV} {j o:Nat} {b:AV} (a:o+xs.length<=j\/j<o) (i:o+xs.length<=e.length):(e.set j b).take o++xs++(e.set j b).drop (o+xs.length)=(e.take o++xs++e.drop (o+xs.length)).set j b:=by
 apply List.ext_getElem?;intro p;by_cases hp:p=j
 ·subst hp;by_cases hl:p<e.length
  ·rw [jby (by simp; omega)];rcases a with a | a
   ·rw [jci (by simp; omega),jat];simp only [jba,jbi,jbs];rw [show o+xs.length+(p-(min o e.length+xs.length))=p by omega,jby hl]
   ·rw [jav,jbl (by simp; omega),jdx (by omega),jby hl]
  ·rw [jce (by simp; omega),jce (by simp; omega)]
 ·rw [jbh (λe=>hp e.symm)];rw [jbo,jbo,jbo,jbo];simp only [jba,jbi,jbs];by_cases k:p<min o e.length
  ·rw [if_pos (by omega),if_pos (by omega),if_pos (by omega),if_pos (by omega),jdx (by omega),jdx (by omega),jbh (λe=>hp e.symm)]
  ·by_cases h2:p<min o e.length+xs.length
   ·rw [if_pos (by omega),if_neg (by omega),if_pos (by omega),if_neg (by omega)]
   ·rw [if_neg (by omega),if_neg (by omega),jat,jat,jbh (by omega)]
theorem kuN (R:Rel P κ ln z c s env h n) {T T' U:Yc} {t u:Ty} {j:Nat} {l:Ya t.den} {p x:Yf} {i:Int} {o:Nat} {ag:Bool} {v:TV sem} (hu:TVR P κ ln z s.n (.fo id i o) (ev env p)) (hv:TVR P κ ln z s.n v (ev env x)) (hB:alk s.hp id=some (some (.fm T' t j U u l none))) (Y:P.cellsOf T≠0) (E:o+P.cellsOf T<=j\/j<o) {y D:t.den} (hy:gi l i=some y)
  (I:setC (A:=sem) (λt=>(snapV c s t v).bind λy=>if y.2.isEmpty then some y.1 else none) t y o (P.cellsOf T) ag=some D) (Q:setB (A:=sem) s id (.fm T' t j U u (lset l i D) none) Kf=some r):Res P κ ln z c s env h n ⟨d,.store T p x,ty,pos,after,g⟩ Kf r:=by
 obtain ⟨a,h0,ai,q,es,e,rm,L,hh,he,hr,hf,hn,hl,h1,af,_⟩:=R.famAt (kab hB) hy;have f:=hf (by simp);obtain ⟨ys,f1,f2,f3,f4⟩:=f.snap (kbV t y a);have ah:=(h1 e (jak he)).1;obtain ⟨xs,ac,c1,c2,S⟩:=ktg R hv Y a f4 I;rw [jbs] at c2;rw [<-c1,kBL (by omega) (by omega)] at S;rw [<-c1] at E;generalize hx:ev env p=av at hu;cases hu with
 | fo _ _ _ q' hN M i0 i1=>
  rw [L] at M; cases M;have O:(putAt e o xs).length=t.wd:=by rw [kcj (by omega)]; simp; omega
  have C:(putAt e o xs)[j]?=e[j]?:=by
   rw [kcj (by omega)];rcases E with E | E
   ·rw [jci (by simp; omega),jat];congr 1;simp;omega
   ·rw [jav,jbl (by simp; omega),jdx (by omega)]
  have Z:=S.len;rw [jbs] at Z;have ab:(t.enc D)[j]?=some (.sl ys):=by
   have key:∀ (t:Ty) (x:t.den) (o m:Nat) (ag:Bool) {y:t.den},t.dat=true->setC (A:=sem) (λt=>(snapV c s t v).bind λy=>if y.2.isEmpty then some y.1 else none) t x o m ag=some y->∀ j,(o+m<=j\/j<o)->(t.enc y)[j]?=(t.enc x)[j]?:=by
    intro t x o m ag y a Q j hj;have aa:∀ t' w,((snapV (A:=sem) c s t' v).bind λy=>if y.2.isEmpty then some y.1 else none)=some w->t'.dat=true:=λt' w F=>by
     simp only [jab] at F;obtain ⟨⟨w1,ids⟩,F,_⟩:=F;unfold snapV at F;split at F
     ·cases F
     ·rename_i ae; simpa using ae
    exact kBl aa t x o m ag a Q j hj
   rw [key t y o _ ag a I j (by omega)]; exact f1
  have G:BR P κ ln z (updH h q (.cells t.wd T' (es.set i.toNat (putAt e o xs)))) s.n id (.fm T' t j U u (lset l i D) none):=by
   unfold lset;refine BR.fmSet (e':=putAt e o xs) a L (by simp [updH]) hn hl af (λi e=>by cases e) rfl (λ_ _=>rfl) (λi' r m B hi X hB'=>?_) (λaj J=>?_) h1 ⟨O,λb W=>?_⟩
   ·unfold updH;rw [if_neg]
    ·exact hB'
    ·rintro rfl;exact ((R.fam id _ (kab hB) rfl).2 r (kaL X)).2.2.1 id _ (kab hB) L
   ·rw [hr] at J; cases J;obtain ⟨g1,g2⟩:=f.row f1;refine ⟨by rw [O,kag t D a],λp b b' hp W ad=>?_,ys,ab,g1,?_⟩
    ·refine S.at p b b' ?_ ad;rw [jbh (λe=>hp e.symm),<-kcj (by omega)]; exact W
    ·obtain ⟨rr,m⟩:=rm;rcases g2 with ⟨k1,k2,k3⟩ | ⟨r2,es',k1,k2,k3,k4,k5⟩
     ·simp only at k1; subst k1;exact ⟨by rw [C]; exact k2,k3⟩
     ·simp only at k1; subst k1;refine ⟨by rw [C]; exact k2,es',?_,k4,k5⟩;unfold updH;rw [if_neg]
      ·exact k3
      ·rintro rfl;exact ((R.fam id _ (kab hB) rfl).2 _ (kaL hr)).2.2.1 id _ (kab hB) L
   ·rw [kcj (by omega)] at W;obtain ⟨p,hp⟩:=jdn W;by_cases k:p=j
    ·subst k;rw [<-kcj (by omega),C] at hp;exact (h1 e (jak he)).2 b (jak hp)
    ·have H:=S.one_rev (kbq t D a);refine H b (jak (i:=p) ?_);rw [jbh (λe=>k e.symm)]; exact hp
  exact ⟨.ud,_,.ud,_,_,κ,ln,z,λK Q=>by
   simp only [aop,hx,kcr,hh,ac,he];exact ⟨c1,by omega,by omega,Q⟩,Q,R.setO hB (.inl L) G (λ_=>rfl),.ud,jah _,λ_ _=>⟨rfl,λ_=>rfl⟩,λE=>by cases E⟩
end
section
variable {P:Yd} {κ κ':Nat->Yb Nat} {ln ln':Nat->Nat} {z z':AH} {c:Cx sem} {s:TS sem} {env:Env} {h h':AH} {n n' N N':Nat} {id:Nat}
variable {ρ:Ty} {Kf:TV sem->TS sem->sem.Ans ρ} {r:ρ.den}
variable {d:Yb Tmp} {ty:Yc} {pos:String} {after:Array Edge} {g:Yb (Nat×Bool)}
theorem kAA {l:Yb Int} {i:Int} {K:sem.Ans ρ} (b:holeX (A:=sem) l i K=some r):K=some r/\∀ k:Int,l=some k->k=i:=by
 unfold holeX at b;split at b
 ·exact ⟨b,λk e=>by cases e⟩
 ·rename_i a;simp only [jab] at b;obtain ⟨_,j,b⟩:=b;unfold gsame at j;split at j
  ·rename_i e; exact ⟨b,λk e'=>by cases e'; exact e⟩
  ·cases j
theorem kou (R:Rel P κ ln z c s env h n) {T T' U:Yc} {t u:Ty} {j:Nat} {l:Ya t.den} {pv xv av:AV} {i:Int} {ho:Yb Int} (hB:alk s.hp id=some (some (.fm T' t j U u l ho))) (aq:u.dat=true) (hc:c.has id=false)
  (ak:∀ k:Int,ho=some k->k=i) {y y' y0:t.den} {xs:Ya u.den} (hy:gi l i=some y) (af:rowS (A:=sem) t u j y0 xs=some y')
  (al:∀ q es e,κ id=some q->h q=some (.cells t.wd T' es)->es[i.toNat]?=some e->e.length=t.wd->(∀ b∈e,b.one=true)->0<=i->
   (ho=none->∀ p b b',p≠j->e[p]?=some b->(t.enc y)[p]?=some b'->Snap z b b')->
   ∃ e',e'.length=t.wd/\(∀ b∈e',b.one=true)/\e'[j]?=some av/\(∀ p b b',p≠j->e'[p]?=some b->(t.enc y0)[p]?=some b'->Snap z b b')/\∀ K:K3,K .ud (updH h q (.cells t.wd T' (es.set i.toNat e'))) n->kcr P h n T pv xv K)
  {D:Yb Nat} (Q:av.one=true/\((D=none/\xs=[]/\av=nilS)\/∃ w es,D=some w/\av = .ms w 0 xs.length/\h w=some (.cells u.wd U es)/\SnapE z es (xs.map u.enc)/\(∀ e∈es,e.length=u.wd/\∀ a∈e,a.one=true)))
  (J:∀ w,D=some w->w<n/\z w=none/\∀ E B',thp c s E=some B'->¬ Ow κ ln E B' w)
  (hk:Kf .ud { drpS s id with hp:=(id,some (.fm T' t j U u (lset l i y') none))::(drpS s id).hp }=some r) :
  ∃ ln',Ke c s.n κ ln κ ln'/\∃ h',(∀ K:K3,K .ud h' n->kcr P h n T pv xv K)/\Rel P κ ln' z c { drpS s id with hp:=(id,some (.fm T' t j U u (lset l i y') none))::(drpS s id).hp } env h' n:=by
 obtain ⟨hd,h0,aj,q,es,e,rm,H,hh,he,hr,hf,hn,hl,h1,ao,au⟩:=R.famAt (kab hB) hy;obtain ⟨hj,ab⟩:=kjc hd aq af;have hB':=kab (c:=c) hB;have ai:=(h1 e (jak he)).1;have C:=R.fam id _ hB' rfl;have hFam:∀ h':AH,(∀ w,D=some w->h' w=h w)->(match D with | none=>av=nilS/\xs=[] | some r=>av = .ms r 0 xs.length/\∃ es,h' r=some (.cells u.wd U es)/\SnapE z es (xs.map u.enc)/\∀ x∈es,x.length=u.wd/\∀ a∈x,a.one=true):=by
  rcases Q.2 with ⟨rfl,rfl,hx⟩ | ⟨w,es',rfl,hx,g1,g2,g3⟩
  ·exact λ_ _=>⟨hx,rfl⟩
  ·exact λh' ae=>⟨hx,es',by rw [ae w rfl]; exact g1,g2,g3⟩
 obtain ⟨e',S,O,ah,an,hK0⟩:=al q es e H hh he ai (h1 e (jak he)).2 h0 (λe=>(hf (by simp [e])).2.1);have I:∀ X,X=updK ln id (codeR ((kae (ln id)).set i.toNat (D,xs.length)))->kae (X id)=(kae (ln id)).set i.toNat (D,xs.length):=λX e=>by rw [e,updK_self,kcg]
 refine ⟨updK ln id (codeR ((kae (ln id)).set i.toNat (D,xs.length))),λas ar=>⟨rfl,λac=>?_⟩,updH h q (.cells t.wd T' (es.set i.toNat e')),λK hK=>?_,?_⟩
 ·unfold updK;rw [if_neg];rintro rfl;rw [hc] at ac; cases ac
 ·exact hK0 K hK
 ·have hX:=I _ rfl;have aa:∀ r,r∈kar (updK ln id (codeR ((kae (ln id)).set i.toNat (D,xs.length))) id)->r∈kar (ln id)\/D=some r:=λr o=>by
   unfold kar at o ⊢;rw [hX] at o;exact kll o
  have ap:∀ F B,z F=some B->F≠q:=λF B hz e=>by rw [e,R.zout id _ q hB' H] at hz; cases hz
  refine R.famSet hc hB rfl rfl (by rw [hX,jbs]) (λE v=>by unfold updK; rw [if_neg v]) (jah _) (λF am=>?_) (λF B hz=>?_) (λE B w AB v M G h2=>?_) ?_ ⟨?_,λr o=>?_⟩
  ·unfold updH;rw [if_neg]
   ·exact R.hn F am
   ·rintro rfl;have:=R.bnd id _ _ hB' H;omega
  ·unfold updH;rw [if_neg (ap F B hz)]; exact R.zin F B hz
  ·unfold updH;rw [if_neg]
   ·exact h2
   ·rintro rfl;exact v (R.owI M hB' G (.inl H))
  ·unfold lset;refine BR.fmSet (e':=e') hd H (by simp [updH]) hn hl ao (λE v=>?_) (by rw [hX,jbs]) (λE v=>by rw [hX,jbh (λe=>v e.symm)]) (λE r m B v o hB1=>?_) (λaw W=>?_) h1 ⟨S,O⟩
   ·have:=ak _ v;omega
   ·unfold updH;rw [if_neg]
    ·exact hB1
    ·rintro rfl;exact (C.2 r (kaL o)).2.2.1 id _ hB' H
   ·rw [hX,jby (by rw [<-hn]; exact (jag.1 aj).1)] at W;cases W;refine ⟨by rw [S,kag t y' hd],λp b b' hp M Z=>?_,xs.map u.enc,by rw [ab,jby (by rw [kag t y0 hd]; exact hj)],by simp,?_⟩
    ·rw [ab,jbh (λe=>hp e.symm)] at Z;exact an p b b' hp M Z
    ·have hF:=hFam (updH h q (.cells t.wd T' (es.set i.toNat e'))) (λw L=>by
      unfold updH;rw [if_neg];rintro rfl;exact (J w L).2.2 id _ hB' (.inl H))
     have Y:=ah;cases D with
     | none=>
      obtain ⟨k1,k2⟩:=hF;exact ⟨by rw [Y,k1],by rw [k2]; rfl⟩
     | some w=>
      obtain ⟨k1,ad,k2⟩:=hF;exact ⟨by rw [Y,k1],ad,k2⟩
  ·unfold kar;rw [hX];refine kjm C.1 λw L hm=>?_;exact (J w L).2.2 id _ hB' (.inr ⟨rfl,hm⟩)
  ·rcases aa r o with o | o
   ·obtain ⟨k1,k2,k3,k4⟩:=C.2 r o;refine ⟨k1,k2,k3 id _ hB',λE B' v M G=>?_⟩;exact v (R.owI M hB' G (.inr ⟨rfl,o⟩))
   ·obtain ⟨k1,k2,k3⟩:=J r o;exact ⟨k1,k2,λe=>k3 id _ hB' (.inl e),λE B' _ M=>k3 E B' M⟩
theorem kvO (R:Rel P κ ln z c s env h n) {T T' U:Yc} {t u:Ty} {j:Nat} {l:Ya t.den} {p:Yf} {v:AV} {i:Int} {H:Yb Int} (Z:TVR P κ ln z s.n (.fo id i j) (ev env p)) (hB:alk s.hp id=some (some (.fm T' t j U u l H))) (hm:P.cellsOf T=1) (F:u.dat=true) (hc:c.has id=false)
  (J:∀ k:Int,H=some k->k=i) (o:H.isNone=true\/t.wd=1) {y S:t.den} {xs:Ya u.den} (W:gi l i=some y) (E:rowS (A:=sem) t u j y xs=some S)
  {I:Yb Nat} (C:(I=none/\xs=[]/\v=nilS)\/∃ x es,I=some x/\v = .ms x 0 xs.length/\h x=some (.cells u.wd U es)/\SnapE z es (xs.map u.enc)/\(∀ e∈es,e.length=u.wd/\∀ a∈e,a.one=true))
  (L:∀ x,I=some x->x<n/\z x=none/\∀ Y X,thp c s Y=some X->¬ Ow κ ln Y X x)
  (hk:Kf .ud { drpS s id with hp:=(id,some (.fm T' t j U u (lset l i S) none))::(drpS s id).hp }=some r) :
  ∃ ln',Ke c s.n κ ln κ ln'/\∃ h',(∀ K:K3,K .ud h' n->kcr P h n T (ev env p) v K)/\Rel P κ ln' z c { drpS s id with hp:=(id,some (.fm T' t j U u (lset l i S) none))::(drpS s id).hp } env h' n:=by
 have m:v.one=true/\kaK v=some [v]:=by
  rcases C with ⟨_,_,rfl⟩ | ⟨_,_,_,rfl,_⟩ <;> exact ⟨rfl,rfl⟩
 obtain ⟨hd,_⟩:=R.famAt (kab hB) W;obtain ⟨hj,_⟩:=kjc hd F E;refine kou (av:=v) (y0:=y) R hB F hc J W E (λq es e hq hh he O M h0 hf=>?_) ⟨m.1,C⟩ L hk;have w:putAt e j [v]=e.set j v:=rfl;refine ⟨putAt e j [v],by rw [w,jbs]; exact O,λb B=>?_,by rw [w,jby (by omega)],λp b b' hp B Q=>?_,λK hK=>?_⟩
 ·rw [w] at B;rcases List.mem_or_eq_of_mem_set B with B | rfl
  ·exact M b B
  ·exact m.1
 ·rw [w,jbh (λe=>hp e.symm)] at B;by_cases D:H=none
  ·exact hf D p b b' hp B Q
  ·exfalso;have hw:t.wd=1:=by
    rcases o with o | o
    ·exact absurd (jdu.1 o) D
    ·exact o
   have:=(jag.1 B).1;omega
 ·generalize hx:ev env p=aa at Z;cases Z with
  | fo _ _ _ q' hN G i0 i1=>
   rw [hq] at G; cases G;simp only [kcr,hh,m.2,he];exact ⟨hm.symm,by simp,by simp; omega,hK⟩
theorem kuO (R:Rel P κ ln z c s env h n) {T T' U:Yc} {t u:Ty} {j:Nat} {l:Ya t.den} {p x:Yf} {i:Int} (Q:TVR P κ ln z s.n (.fo id i 0) (ev env p)) (hB:alk s.hp id=some (some (.fm T' t j U u l none))) (X:P.cellsOf T≠0) (ab:P.cellsOf T=t.wd) (J:u.dat=true) (hc:c.has id=false)
  {as:Ya AV} (hx:ev env x = .ag as) (v:∀ a∈as,a.one=true) (D:as.length=t.wd) {y L y0:t.den} {xs:Ya u.den} (H:∀ p b b',p≠j->as[p]?=some b->(t.enc y0)[p]?=some b'->Snap z b b') {C:AV} (w:as[j]?=some C) (S:gi l i=some y) (I:rowS (A:=sem) t u j y0 xs=some L)
  {F:Yb Nat} (o:(F=none/\xs=[]/\C=nilS)\/∃ m es,F=some m/\C = .ms m 0 xs.length/\h m=some (.cells u.wd U es)/\SnapE z es (xs.map u.enc)/\(∀ e∈es,e.length=u.wd/\∀ a∈e,a.one=true))
  (G:∀ m,F=some m->m<n/\z m=none/\∀ O M,thp c s O=some M->¬ Ow κ ln O M m)
  (hk:Kf .ud { drpS s id with hp:=(id,some (.fm T' t j U u (lset l i L) none))::(drpS s id).hp }=some r) :
  ∃ ln',Ke c s.n κ ln κ ln'/\∃ h',(∀ K:K3,K .ud h' n->kcr P h n T (ev env p) (ev env x) K)/\Rel P κ ln' z c { drpS s id with hp:=(id,some (.fm T' t j U u (lset l i L) none))::(drpS s id).hp } env h' n:=by
 refine kou (av:=C) (y0:=y0) R hB J hc (λk e=>by cases e) S I (λq es e hq hh W aa Z h0 hf=>?_) ⟨v C (jak w),o⟩ G hk;have B:putAt e 0 as=as:=by
  rw [kcj (by omega)];simp only [jdq,jbd,jck];rw [jbx (by omega),jbe]
 refine ⟨as,D,v,w,H,λK hK=>?_⟩;generalize Y:ev env p=ac at Q;cases Q with
 | fo _ _ _ q' hN E i0 i1=>
  rw [hq] at E; cases E;simp only [kcr,hx,hh,kaK,W,B];exact ⟨by omega,by omega,by omega,hK⟩
theorem kto (R:Rel P κ ln z c s env h n) {T T' U:Yc} {t u:Ty} {j:Nat} {l:Ya t.den} {p x:Yf} {i:Int} {vs:Ya (TV sem)} (hu:TVR P κ ln z s.n (.fo id i 0) (ev env p)) (hv:TVR P κ ln z s.n (.ag vs) (ev env x)) (ab:vs[j]?=some (.fr id i)) (hB:alk s.hp id=some (some (.fm T' t j U u l none))) (ai:P.cellsOf T≠0) (am:P.cellsOf T=t.wd)
  {y0 y F:t.den} (ad:snapL (A:=sem) c s t (vs.set j (.sc (.slice none 0 0)))=some (y0,[],[])) (hy:gi l i=some y) {ys:Ya u.den} (ac:rowD (A:=sem) t u j y=some ys) (Y:rowS (A:=sem) t u j y0 ys=some F) (hk:setB (A:=sem) s id (.fm T' t j U u (lset l i F) none) Kf=some r):Res P κ ln z c s env h n ⟨d,.store T p x,ty,pos,after,g⟩ Kf r:=by
 obtain ⟨k,h0,al,q,es,e,rm,H,hh,he,hr,hf,hn,hl,h1,ae,_⟩:=R.famAt (kab hB) hy;have f:=hf (by simp);obtain ⟨ah,hj,aa⟩:=kfQ k ac;obtain ⟨f1,Z⟩:=f.row aa;obtain ⟨_,S⟩:=kjc k ah Y;generalize hx:ev env p=av at hu;generalize af:ev env x=xv at hv;cases hv with
 | ag _ as I C=>
 cases hu with
 | fo _ _ _ q' hN M i0 i1=>
  rw [H] at M; cases M;obtain ⟨aj,O,Q⟩:=I.at ab;have v:=I.set (.sc (.slice none 0 0) rfl:TVR P κ ln z s.n (.sc (.slice none 0 0)) nilS) j;obtain ⟨a1,b1,e1,e2,X,_⟩:=kcx R t _ _ _ _ _ k v ad;cases e2;rw [jbe] at e1;rw [kbG] at X;subst e1;have a:as.length=t.wd:=by have:=X.len; rw [jbs,kag t y0 k] at this; exact this.symm
  have ak:=(h1 e (jak he)).1;have D:(t.enc F)[j]?=some (.sl (ys.map u.enc)):=by rw [S,jby (by rw [kag t y0 k]; exact hj)]
  have G:e[j]?=some aj:=by
   obtain ⟨_,_,⟨m,g1,g2⟩ | ⟨r',m,g1,g2⟩⟩:=Q.fr_inv
   ·rw [hr] at g1; cases g1;rcases Z with ⟨_,o,_⟩ | ⟨r2,es',o,_⟩
    ·rw [o,g2]
    ·cases o
   ·rw [hr] at g1; cases g1;rcases Z with ⟨o,_⟩ | ⟨r2,es',o,f4,_⟩
    ·cases o
    ·rw [f4,g2]; cases o; rfl
  have L:putAt e 0 as=as:=by
   rw [kcj (by omega)];simp only [jdq,jbd,jck];rw [jbx (by omega),jbe]
  have w:BR P κ ln z (updH h q (.cells t.wd T' (es.set i.toNat as))) s.n id (.fm T' t j U u (lset l i F) none):=by
   unfold lset;refine BR.fmSet (e':=as) k H (by simp [updH]) hn hl ae (λi e=>by cases e) rfl (λ_ _=>rfl) (λi' r m B hi W hB'=>?_) (λan E=>?_) h1 ⟨a,λb hb=>C b hb⟩
   ·unfold updH;rw [if_neg]
    ·exact hB'
    ·rintro rfl;exact ((R.fam id _ (kab hB) rfl).2 r (kaL W)).2.2.1 id _ (kab hB) H
   ·rw [hr] at E; cases E;refine ⟨by rw [a,kag t F k],λp b b' hp hb J=>?_,ys.map u.enc,D,f1,?_⟩
    ·rw [S,jbh (λe=>hp e.symm)] at J;exact X.at p b b' (by rw [jbh (λe=>hp e.symm)]; exact hb) J
    ·obtain ⟨rr,m⟩:=rm;rcases Z with ⟨k1,k2,k3⟩ | ⟨r2,es',k1,k2,k3,k4,k5⟩
     ·simp only at k1; subst k1;rw [G] at k2;exact ⟨by rw [O]; exact k2,k3⟩
     ·simp only at k1; subst k1;rw [G] at k2;refine ⟨by rw [O]; exact k2,es',?_,k4,k5⟩;unfold updH;rw [if_neg]
      ·exact k3
      ·rintro rfl;exact ((R.fam id _ (kab hB) rfl).2 _ (kaL hr)).2.2.1 id _ (kab hB) H
  have R':=R.setO (AB:=.cells t.wd T' (es.set i.toNat as)) hB (.inl H) w (λ_=>rfl);exact ⟨.ud,_,.ud,_,n,κ,ln,z,λK hK=>by
   simp only [aop,kcr,hx,af,hh,kaK,he,L];exact ⟨by omega,by omega,by omega,hK⟩,hk,R',.ud,jah _,.refl,λhc=>by cases hc⟩
theorem kng (s:TS sem) (r:Yb Nat):(rowN s r).n=s.n:=by cases r <;> rfl
theorem kzB (s:TS sem) (id:Nat):(drpS s id).n=s.n:=rfl
theorem kpd (R:Rel P κ ln z c s env h n) {U:Yc} {u:Ty} {v:TV sem} {F:AV} (I:TVR P κ ln z s.n v F) {xs:Ya u.den} {rd:Yb Nat} (b:kmW (A:=sem) s U u v=some (xs,rd)) :
  Rel P κ ln z c (rowN s rd) env h n/\(∀ i B,alk s.hp i=some (some B)->B.isF=true->alk (rowN s rd).hp i=some (some B))/\∃ E:Yb Nat,((E=none/\xs=[]/\F=nilS)\/∃ l es,E=some l/\F = .ms l 0 xs.length/\h l=some (.cells u.wd U es)/\SnapE z es (xs.map u.enc)/\(∀ e∈es,e.length=u.wd/\∀ a∈e,a.one=true))/\
   (∀ l,E=some l->l<n/\z l=none/\∀ m o,thp c (rowN s rd) m=some o->¬ Ow κ ln m o l):=by
 unfold kmW at b;split at b
 ·rename_i t;split at b
  ·rename_i Z u' l' hBr;split at b
   ·rename_i hU;simp only [jad] at b;obtain ⟨T,J,L⟩:=b;cases L;obtain ⟨W,rfl⟩:=kam J;cases W;subst hU;have x:∀ m o,thp c (rowN s (some t)) m=some o->m≠t/\thp c s m=some o:=λm o j=>by
     unfold rowN at j;rw [kbx] at j;split at j
     ·cases j
     ·rename_i e; exact ⟨e,j⟩
    refine ⟨R.del (h':=h) hBr (λ_ _ h=>h) (λ_ _ _ h=>h),λi B hB hF=>?_,?_⟩
    ·have O:i≠t:=by rintro rfl; rw [hB] at hBr; cases hBr; cases hF
     simp only [rowN,alk]; rw [if_neg O]; exact hB
    ·cases R.blk _ _ (kab hBr) with
     | sl0 _ _ _ y k M C=>
      subst M;refine ⟨none,.inl ⟨rfl,rfl,?_⟩,λl e=>by cases e⟩;cases I with
      | mw0=>rfl
      | mw _ q _ p=>rw [k] at p; cases p
     | sl _ _ _ S es' y k G D K C=>
      refine ⟨some S,.inr ⟨S,es',rfl,?_,G,D,λe Q=>⟨D.heads y e Q,K e Q⟩⟩,λl e=>?_⟩
      ·rw [C];cases I with
       | mw0 _ _ p=>rw [k] at p; cases p
       | mw _ q _ p=>rw [k] at p; cases p; rfl
      ·cases e;refine ⟨R.bnd _ _ _ (kab hBr) k,R.zout _ _ _ (kab hBr) k,λm o j H=>?_⟩;obtain ⟨Y,X⟩:=x m o j;exact Y (R.owI X (kab hBr) H (.inl k))
   ·cases b
  ·cases b
 ·rename_i w;split at b
  ·rename_i hn;cases b;exact ⟨R,λ_ _ h _=>h,none,.inl ⟨rfl,rfl,by cases I; rw [kbl hn]⟩,λl e=>by cases e⟩
  ·cases b
 ·cases b
theorem ktj (R:Rel P κ ln z c s env h n) {T:Yc} {p x:Yf} {i:Int} {o:Nat} {v:TV sem} (Y:TVR P κ ln z s.n (.fo id i o) (ev env p)) (O:TVR P κ ln z s.n v (ev env x)) (a:krn P c s T id i o v Kf=some r):Res P κ ln z c s env h n ⟨d,.store T p x,ty,pos,after,g⟩ Kf r:=by
 unfold krn at a;split at a
 ·rename_i ag T' t j U u l ho am hB;replace hB:=kea hB;split at a
  ·exact kaa a
  ·rename_i L;split at a
   ·rename_i B;obtain ⟨_,rfl,ab,aa⟩:=B;split at a
    ·rename_i xs rv C;split at a
     ·exact kaa a
     ·rename_i m;have m:c.has id=false:=by simpa using m
      obtain ⟨A,ad⟩:=kAA a;clear a;simp only [jab] at A;obtain ⟨y,E,A⟩:=A;split at A
      ·rename_i y' k;have I:u.dat=true:=by
        obtain ⟨S,_⟩:=R.famAt (kab hB) E;exact kwf S k
       obtain ⟨R0,hB0,ae,w1,w2⟩:=kpd R O C;have hB0:=hB0 _ _ hB rfl;obtain ⟨ln',g1,h',g2,g3⟩:=kvO R0 (by rw [kng]; exact Y) hB0 ab I m ad aa E k w1 w2 A;rw [kng] at g1;exact ⟨_,_,_,_,_,_,_,_,λK hK=>by simp only [aop]; exact g2 K hK,A,g3,.ud,by simp [kng,kzB],g1,λB=>by cases B⟩
      ·exact kaa A
    ·exact kaa a
   ·split at a
    ·rename_i B;obtain ⟨B,D⟩:=B;obtain rfl:=jdu.1 D;simp only [jab] at a;obtain ⟨y,E,a⟩:=a;split at a
     ·rename_i y' k;exact kuN R Y O hB L B E k a
     ·exact kaa a
    ·split at a
     ·rename_i vs;split at a
      ·rename_i al i' F;split at a
       ·rename_i B;obtain ⟨rfl,G,D,rfl⟩:=B;obtain rfl:=jdu.1 D;split at a
        ·rename_i y0 H;simp only [jab] at a;obtain ⟨y,E,_,hg,a⟩:=a;have af:i=i':=by
          unfold gsame at hg;split at hg
          ·assumption
          ·cases hg
         subst af;split at a
         ·rename_i y' k;obtain ⟨ys,ah,k⟩:=jab.1 k;exact kto R Y O F hB (by omega) G H E ah k a
         ·exact kaa a
        ·exact kaa a
       ·exact kaa a
      ·rename_i w an F;split at a
       ·rename_i B;obtain ⟨rfl,G,D⟩:=B;obtain rfl:=jdu.1 D;split at a
        ·rename_i xs rd C;split at a
         ·exact kaa a
         ·rename_i m;have m:c.has id=false:=by simpa using m
          split at a
          ·rename_i y0 H;simp only [jab] at a;obtain ⟨y,E,a⟩:=a;split at a
           ·rename_i y' k;obtain ⟨S,_⟩:=R.famAt (kab hB) E;have I:=kwf S k;generalize ai:ev env x=xv at O;cases O with
            | ag _ as Q M=>
             obtain ⟨aj,ak,W⟩:=Q.at F;obtain ⟨R0,hB0,ae,w1,w2⟩:=kpd R W C;have hB0:=hB0 _ _ hB rfl;have J:=Q.set (.sc (.slice none 0 0) rfl:TVR P κ ln z s.n (.sc (.slice none 0 0)) nilS) j;obtain ⟨a1,b1,e1,e2,Z,_⟩:=kcx R t _ _ _ _ _ S J H;cases e2;rw [jbe] at e1;rw [kbG] at Z;subst e1;have X:as.length=t.wd:=by have:=Z.len; rw [jbs,kag t y0 S] at this; exact this.symm
             obtain ⟨ln',g1,h',g2,g3⟩:=kuO R0 (by rw [kng]; exact Y) hB0 L G I m ai M X (λp b b' hp hb ac=>Z.at p b b' (by rw [jbh (λe=>hp e.symm)]; exact hb) ac) ak E k w1 w2 a;rw [kng] at g1;exact ⟨_,_,_,_,_,_,_,_,λK hK=>by simp only [aop]; exact g2 K hK,a,g3,.ud,by simp [kng,kzB],g1,λB=>by cases B⟩
           ·exact kaa a
          ·exact kaa a
        ·exact kaa a
       ·exact kaa a
      ·exact kaa a
     ·exact kaa a
 ·exact kaa a
end
theorem arr_of' {α:Type} {a:Array α} {l:Ya α} (h:a.toList=l):a=l.toArray:=by rw [<-h]
section
variable {P:Yd} {κ κ':Nat->Yb Nat} {ln ln':Nat->Nat} {z z':AH} {c:Cx sem} {s:TS sem} {env:Env} {h h':AH} {n n' N N':Nat} {id:Nat}
variable {ρ:Ty} {Kf:TV sem->TS sem->sem.Ans ρ} {r:ρ.den}
variable {d:Yb Tmp} {ty:Yc} {pos:String} {after:Array Edge} {g:Yb (Nat×Bool)}
theorem kAW (R:Rel P κ ln z c s env h n) {x y:Yf} {m:Int} (j:kmc x y=true) (t:tev c s x = .c (.i .i64) m):ev env x = .sc (.int .i64 m)/\∃ l,ev env y = .sc (.int l m):=by
 have p:=R.ev x;rw [t] at p;have e:=p.i_inv;refine ⟨e,?_⟩;unfold kmc at j;split at j
 ·rename_i a b;obtain rfl:a=b:=by simpa using j
  exact ⟨_,e⟩
 ·rename_i k a l b;have o:a=b:=by simpa using j
  subst o;have:(Value.int k a) = .int .i64 m:=by simpa [ev,cst] using e
  cases this;exact ⟨l,rfl⟩
 ·cases j
theorem FamE.nil {w:Nat} {U:Yc} {cs e:Ya AV} {j:Nat} {ys:Ya (Ya AV)} (i:SnapL z e cs) (m:cs[j]?=some (.sl ys)) (b:∃ v,e[j]?=some (.sc v)):FamE z h j U w cs e (none,0):=by
 obtain ⟨v,b⟩:=b;have o:=i.at j _ _ b m;rcases o.sl_inv with ⟨es,h2,_⟩ | ⟨h2,l⟩ | ⟨_,_,_,_,_,_,h2,_⟩
 ·cases h2
 ·exact ⟨i.len.symm,λq a a' _ p k=>i.at q a a' p k,ys,m,by rw [l]; rfl,by rw [b,h2],l⟩
 ·cases h2
theorem knE {e:Yc} {t u:Ty} {j:Nat} {U:Yc} (h:famO P e=some (t,j,U,u)):t.dat=true/\u.dat=true/\tyOf P e=some t:=by
 unfold famO at h;split at h
 ·rename_i t' k a hT;split at h
  ·simp only [jad] at h;obtain ⟨u',b,i⟩:=h;cases i;exact ⟨kfS a,kfS b,a⟩
  ·cases h
 ·cases h
theorem kuS (R:Rel P κ ln z c s env h n) {T:Yc} {e:Yc} {x y:Yf} (he:elemO P T=some e) (k:ktF P s e (tev c s x) (kmc x y) Kf=some r):Res P κ ln z c s env h n ⟨d,.makeSlice T x y,ty,pos,after,g⟩ Kf r:=by
 unfold ktF at k;split at k
 ·rename_i t j U u w m hf hz hm;split at k
  ·rename_i I G;split at k
   ·rename_i Y;obtain ⟨hs,H,o,aa,hb,D⟩:=Y;obtain ⟨F,ab,_⟩:=knE hf;obtain ⟨Q,k',L⟩:=kAW R hs hm;simp only [jab] at k;obtain ⟨l,E,k⟩:=k;obtain ⟨g1,g2,E⟩:=kyr E;obtain ⟨rest,hr,M⟩:=(jda _ _).1 H;obtain rfl:=jdd.1 M;obtain ⟨a,ea,Z⟩:=keZ (z:=z) t I w [] F G hr;rw [jbe] at ea; subst ea;obtain ⟨ys,W⟩:=jap.1 D;obtain ⟨_,hj,O⟩:=kfQ F W;have J:FamE z (updH h n (.cells t.wd e (List.replicate m.toNat w))) j U u.wd (t.enc I) w (none,0):=by
     refine FamE.nil Z O ?_;have h1:w[j]?=some (w[j]'(by omega)):=jae _;obtain ⟨v,hv,_⟩:=klX hz _ (jak h1);exact ⟨v,by rw [h1,hv]⟩
    have C:kar (codeR (List.replicate m.toNat (none,0)))=[]:=by
     rw [koM];generalize m.toNat=p;induction p with
     | zero=>rfl
     | succ p ih=>rw [List.replicate_succ,jdb]; exact ih
    have R':=R.newF (h':=updH h n (.cells t.wd e (List.replicate m.toNat w))) (n':=n+1) (.fm e t j U u l none) (some n) (codeR (List.replicate m.toNat (none,0))) (λq B A=>by
      unfold updH; rw [if_neg]; ·exact A
      rintro rfl; rw [R.hn _ (jah _)] at A; cases A) (jcb _) (λq A=>by cases A; omega) (λq A=>by unfold updH; rw [if_neg (by omega)]; exact R.hn q (by omega))
     (.fm e t j U u l none n (List.replicate m.toNat w) F updK_self (by simp [updH]) (by rw [updK_self,kcg,E]; simp) (by rw [E]; simp) (λi x e' rm X b hr _=>by
      rw [updK_self,kcg,jcd] at hr;rw [E,jcd] at X;rw [jcd] at b;split at hr
      ·rename_i S;rw [if_pos S] at X b;cases hr; cases X; cases b;exact J
      ·cases hr) (λi rm hi=>by cases hi) (λe' b=>by
       obtain ⟨_,rfl⟩:=List.mem_replicate.1 b;exact ⟨o,Z.one_rev (kbq t I F)⟩)) (by rw [C]; exact ⟨List.nodup_nil,λr hr=>by cases hr⟩)
    refine ⟨.fw s.n,_,.ms n 0 m.toNat,_,_,_,_,_,λK hK=>?_,k,R',?_,jcb _,λid hi=>⟨kaF hi,λ_=>kaF hi⟩,λY=>by cases Y⟩
    ·simp only [aop,he,hz,Q,L];refine ⟨trivial,g1,g2,hb,by rintro rfl; simp at o; omega,?_⟩;rw [o]; exact hK
    ·have:=TVR.fw (P:=P) (κ:=updK κ s.n (some n)) (ln:=updK ln s.n (codeR (List.replicate m.toNat (none,0)))) (z:=z) (N:=s.n+1) s.n n (jbn _) updK_self;rw [updK_self,kcg,jdh] at this;exact this
   ·exact kaa k
  ·exact kaa k
 ·exact kaa k
theorem kvX (R:Rel P κ ln z c s env h n) {T T2:Yc} {x y:Yf} {a:Int} {v:TV sem} (hu:TVR P κ ln z s.n (.fr id a) (ev env x)) (hv:TVR P κ ln z s.n v (ev env y)) (o:kvk P c s T T2 id a v Kf=some r) :
  Res P κ ln z c s env h n ⟨d,.call ⟨.builtin .append,#[x,y],#[T,T2]⟩,ty,pos,after,g⟩ Kf r:=by
 unfold kvk at o;split at o
 ·rename_i e T' t j U u l he hB;replace hB:=kea hB;split at o
  ·rename_i zs hz;split at o
   ·rename_i hc;obtain ⟨hp,J,ax,hb,rfl⟩:=hc;have D:zs≠[]:=by rintro rfl; simp at J; omega
    split at o
    ·exact kaa o
    ·rename_i F;have F:c.has id=false:=by simpa using F
     split at o
     ·exact kaa o
     ·rename_i xs ids af;simp only [jab] at o;obtain ⟨w,hw,o⟩:=o;split at o
      ·rename_i ys ap;simp only [jab] at o;obtain ⟨l',hg,o⟩:=o;obtain ⟨am,hg⟩:=kjY hg;subst hg;obtain ⟨ad,bs,H,Y⟩:=koZ R hv af;have I:=Y.1;rw [jar] at I;obtain ⟨hd,h0,ay,q,es,e',rm,C,hh,aA,hr,hf,hn,hl,M,ar,az⟩:=R.famAt (kab hB) hw;obtain ⟨_,hj,ao⟩:=kfQ hd ap;obtain ⟨f1,f2⟩:=(hf (by simp)).row ao;rw [jar] at f1;have hB':=kab (c:=c) hB;have A:=R.fam id _ hB' rfl;have au:=(jag.1 hr).1;rw [<-J] at H;have hX:∀ X,X=updK ln id (codeR ((kae (ln id)).set a.toNat (none,0)))->kae (X id)=(kae (ln id)).set a.toNat (none,0):=λX e=>by rw [e,updK_self,kcg]
       have Q:∀ (M:AH),(∀ i,(∀ m,(kae (ln id))[a.toNat]?≠some (some i,m))->M i=h i)->(∀ i,n<=i->M i=none)->Rel P κ (updK ln id (codeR ((kae (ln id)).set a.toNat (none,0)))) z c { drpS s id with hp:=(id,some (.fm T' t j e u l (some a)))::(drpS s id).hp } env M n:=λG k1 k2=>by
        have hX':=hX _ rfl;have kz:∀ i,(∀ r,r∈kar (ln id)->r≠i)->G i=h i:=λi E=>k1 i λm hm=>E i (kaL hm) rfl;have ah:∀ r,r∈kar (updK ln id (codeR ((kae (ln id)).set a.toNat (none,0))) id)->r∈kar (ln id):=λr b=>by
         unfold kar at b ⊢;rw [hX'] at b;rcases kll b with h | h
         ·exact h
         ·cases h
        refine R.famSet F hB rfl rfl (by rw [hX',jbs]) (λW p=>by unfold updK; rw [if_neg p]) (jah _) k2 (λi B ac=>?_) (λW B rr AB p aa Z h2=>?_) ?_ ⟨?_,λr b=>?_⟩
        ·rw [kz i λr b e=>?_]
         ·exact R.zin i B ac
         ·subst e; rw [(A.2 r b).2.1] at ac; cases ac
        ·rw [kz rr λr b e=>?_]
         ·exact h2
         ·subst e; exact p (R.owI aa hB' Z (.inr ⟨rfl,b⟩))
        ·refine .fm T' t j e u l (some a) q es hd C ?_ (by rw [hX',jbs]; exact hn) hl (λW x' e2 ab as an b L=>?_) (λW ab p b=>?_) M
         ·rw [kz q λr b e=>?_]
          ·exact hh
          ·subst e; exact (A.2 r b).2.2.1 id _ hB' C
         ·have ai:W≠a.toNat:=λe=>L (by rw [e,Int.toNat_of_nonneg h0]);rw [hX',jbh (λe=>ai e.symm)] at b;refine (ar W x' e2 ab as an b (by simp)).mono (λ_ _ h=>h) λrr B aj hBB=>?_;obtain ⟨aw,m'⟩:=ab;simp only at aj; subst aj;rw [k1 rr λm hm=>?_]
          ·exact hBB
          ·exact ai (kmE A.1 b hm rfl rfl)
         ·have:W=a.toNat:=by cases p; simp
          subst this;rw [hX',jby au] at b;cases b; rfl
        ·unfold kar;rw [hX'];exact kjm A.1 λrr aq=>by cases aq
        ·have b:=ah r b;obtain ⟨w1,w2,w3,w4⟩:=A.2 r b;refine ⟨w1,w2,w3 id _ hB',λW B2 p aa Z=>?_⟩;exact p (R.owI aa hB' Z (.inr ⟨rfl,b⟩))
       have ke:∀ m k,Ke c s.n κ ln (updK κ s.n k) (updK (updK ln id (codeR ((kae (ln id)).set a.toNat (none,0)))) s.n m):=λm k W p=>⟨kaF p,λal=>by
        rw [kaF p];unfold updK;rw [if_neg];rintro rfl;rw [F] at al; cases al⟩
       have fin:∀ (M:AH) (es':Ya (Ya AV)),(∀ i,(∀ m,(kae (ln id))[a.toNat]?≠some (some i,m))->M i=h i)->(∀ i,n<=i->M i=none)->SnapE z es' ((ys++xs).map u.enc)->(∀ K:K3,K (.ms n 0 (ys++xs).length) (updH M n (.cells u.wd e es')) (n+1)->aop P env h n ⟨d,.call ⟨.builtin .append,#[x,y],#[T,T2]⟩,ty,pos,after,g⟩ K)->Res P κ ln z c s env h n ⟨d,.call ⟨.builtin .append,#[x,y],#[T,T2]⟩,ty,pos,after,g⟩ Kf r:=λG es' k1 k2 ak hK=>by
        have R1:=Q G k1 k2;have R2:=R1.new (h':=updH G n (.cells u.wd e es')) (n':=n+1) (.sl e u (ys++xs)) (some n) (ys++xs).length (λq B C=>by
          unfold updH; rw [if_neg]; ·exact C
          rintro rfl; rw [R1.hn _ (jah _)] at C; cases C) (jcb _) (λq C=>by cases C; omega) (λq C=>by unfold updH; rw [if_neg (by omega)]; exact R1.hn q (by omega))
         (.sl e u (ys++xs) n es' ad updK_self (by simp [updH]) ak (ak.ones ad) updK_self.symm)
        refine ⟨.mw s.n,_,_,_,_,_,_,_,hK,o,R2,?_,jcb _,ke _ _,λhc=>by cases hc⟩;have:=TVR.mw (P:=P) (κ:=updK κ s.n (some n)) (ln:=updK (updK ln id (codeR ((kae (ln id)).set a.toNat (none,0)))) s.n (ys++xs).length) (z:=z) (N:=s.n+1) s.n n (jbn _) updK_self;rw [updK_self] at this;exact this
       obtain ⟨hN,a0,⟨m,g1,g2⟩ | ⟨r',m,g1,g2⟩⟩:=hu.fr_inv
       ·rw [hr] at g1; cases g1;rcases f2 with ⟨_,_,S⟩ | ⟨r2,es',S,_⟩
        ·rw [jdw] at S; subst S;rw [jbd] at o fin;have O:bs.length<=1048576:=by simp at am; omega
         by_cases L:bs=[]
         ·subst L;have:xs=[]:=by simpa using I
          subst this;have R1:=Q h (λ_ _=>rfl) R.hn;have R2:=R1.new (h':=h) (n':=n) (.sl e u []) none 0 (λq B C=>C) (jah _) (λq C=>by cases C) R1.hn (.sl0 e u [] ad updK_self rfl updK_self);refine ⟨.mw s.n,_,nilS,_,_,_,_,_,λK hK=>?_,o,R2,.mw0 s.n (jbn _) updK_self,jcb _,ke _ _,λhc=>by cases hc⟩;simp only [aop,kal,g2,kco,he,hz,H];exact ⟨hp,D,hb,O,λ_=>hK,λh=>absurd rfl h⟩
         ·refine fin h bs (λ_ _=>rfl) R.hn Y λK hK=>?_;simp only [aop,kal,g2,kco,he,hz,H];refine ⟨hp,D,hb,O,λh=>absurd h L,λ_=>?_⟩;rw [J,<-I]; exact hK
        ·cases S
       ·rw [hr] at g1; cases g1;rcases f2 with ⟨S,_⟩ | ⟨r2,es',S,f4,f5,f6,f7⟩
        ·cases S
        ·cases S;simp only at f1;subst f1;have ae:=f6.1;rw [jar] at ae;refine fin (delH h r') (es'++bs) (λi E=>?_) (λi E=>?_) (by rw [jcj]; exact f6.append Y) λK hK=>?_
         ·unfold delH;rw [if_neg];rintro rfl;exact E _ hr
         ·unfold delH;split
          ·rfl
          ·exact R.hn i E
         ·simp only [aop,kal,g2,kco,he,hz,H,f5];refine ⟨hp,D,hb,J.symm,trivial,ae.symm,by omega,?_⟩;rw [jba,I] at hK;exact hK
      ·exact kaa o
   ·exact kaa o
  ·exact kaa o
 ·exact kaa o
end
end Go.Abs
