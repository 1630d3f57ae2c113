/- The machinery, part 5. -/
import Derived.Test.YtpjlpghgmjlbbaaGreatZ2
import Derived.Test.YtpjlpghgmjlbbaaGreatZ4
set_option linter.constructorNameAsVariable false
set_option linter.unusedVariables false
set_option linter.unusedSimpArgs false
set_option linter.unusedSectionVars false
namespace Go.Abs
open Go Go.RowKit
def liveP (h:AH):Nat->Bool:=λi=>(h i).isSome
section
variable {P:Yd} {f:FuncId} {args:Ya AV}
theorem HC.frm2 {h hE:AH} {n:Nat} {R K:K3} (I:Ya Nat) (hi:∀ i B,hE i=some B->I.contains i=true/\h i=some B) (hI:∀ i,I.contains i=true->i<n) (hn:∀ i,n<=i->h i=none)
  (hR:∀ v h' n',R v h' n'->On (liveP h') v/\∀ i B,h' i=some B->OnB (liveP h') B)
  (hc:HC P f args hE n R) (Z:∀ v h' n',R v h' n'->n<=n'->(∀ i B,h' i=some B->I.contains i=true\/(n<=i/\i<n'))->K v (λi=>if I.contains i||decide (n<=i) then h' i else h i) n'):HC P f args h n K:=by
 refine ⟨hc.1,λO μ w vs hr Y S=>?_⟩;have hrI:HR w (Av O (muO I μ)) (muI I μ) hE n:=by
  refine ⟨λb t=>?_,λid b k e=>hr.scope id b k (kau e).2,λid a b k G e e'=>hr.inj id a b k G (kau e).2 (kau e').2,λid b k e hO=>?_,λid B hB=>?_⟩
  ·rcases t with t | ⟨id,k,t⟩
   ·exact hr.olt b t
   ·exact (hr.scope id b k (kaZ t).2).2
  ·obtain ⟨o,L⟩:=kau e;rcases hO with hO | ⟨a,G,hO⟩
   ·exact hr.notO id b k L hO
   ·obtain ⟨M,e4⟩:=kaZ hO;rw [hr.inj _ _ _ _ _ L e4] at o;rw [o] at M; cases M
  ·obtain ⟨l,h2⟩:=hi id B hB;exact (hr.blk id B h2).mapV (by simp only [muI]; rw [if_pos l]) λU=>U.split I
 refine (hc.2 (Av O (muO I μ)) (muI I μ) w vs hrI Y (λj c hj=>?_)).mono ?_
 ·obtain ⟨u,l,h2⟩:=S j c hj;exact ⟨u,l,h2.split I⟩
 rintro e w' ⟨u,v,h',n',F,rfl,q1,E,q3,y⟩;have J:=y.le;let p:Nat->Bool:=λi=>I.contains i||decide (n<=i)
 have H:∀ {i},p i=false->I.contains i=false/\i<n:=λ{i} hp=>by simpa [p] using hp
 have D:∀ id,p id=true->(λi=>if p i then F i else μ i) id = F id:=λid h=>by simp only [h,if_true]
 have m:∀ id,p id=false->(λi=>if p i then F i else μ i) id = μ id:=λid h=>by simp only [h,jai,if_false]
 have x:∀ id b k,F id=some (b,k)->p id=true:=λid b k e=>by
  rcases jaz (p id) with hp | hp
  ·exact hp
  ·obtain ⟨o,L⟩:=H hp;rcases y.ids id L with M | M
   ·rw [M] at e; rw [(kau e).1] at o; cases o
   ·rw [M] at e; cases e
 have A:∀ i B,h' i=some B->p i=true/\i<n':=λi B hB=>by
  have:=E.blk i B hB;cases B with
  | cells k T es=>obtain ⟨b,c,l,_⟩:=this; exact ⟨x i b k l,(E.scope i b k l).1⟩
  | map aa=>obtain ⟨b,es,l,_⟩:=this; exact ⟨x i b 0 l,(E.scope i b 0 l).1⟩
  | si s pos=>obtain ⟨b,l,_⟩:=this; exact ⟨x i b 0 l,(E.scope i b 0 l).1⟩
 have hliveP:∀ i,liveP h' i=true->p i=true/\i<n':=λi hi=>by
  obtain ⟨B,hB⟩:=jao.1 hi;exact A i B hB
 replace Z:=Z v h' n' q1 J λi B hB=>by
  obtain ⟨l,h2⟩:=A i B hB;simp only [p,jat,jaj] at l;rcases l with l | l
  ·exact .inl l
  ·exact .inr ⟨l,h2⟩
 obtain ⟨U,t⟩:=hR v h' n' q1;have C:∀ id b k,μ id=some (b,k)->p id=false->Av O (muO I μ) b:=λid b k e hp=>.inr ⟨id,k,by unfold muO; rw [if_neg (by rw [(H hp).1]; decide)]; exact e⟩;have Q:∀ b,Av O (λi=>if p i then F i else μ i) b->Av (Av O (muO I μ)) F b:=λb t=>by
  rcases t with t | ⟨id,k,t⟩
  ·exact .inl (.inl t)
  ·rcases jaz (p id) with hI' | hI'
   ·exact .inr ⟨id,k,(D id hI') ▸ t⟩
   ·exact .inl (C id b k ((m id hI') ▸ t) hI')
 have hE2:Evo w μ n w' (λi=>if p i then F i else μ i) n':=by
  refine ⟨y.os,y.tape,y.output,y.size,J,λb t hn=>y.keep b t λid k e=>hn id k (kau e).2,y.row,λid X=>?_,λid b k e hn=>?_⟩
  ·rcases jaz (p id) with hI' | hI'
   ·have e0:=D id hI';simp only at e0;rw [e0];have hIc:I.contains id=true:=by
     simp only [p,jat,jaj] at hI';rcases hI' with hI' | hI'
     ·exact hI'
     ·omega
    rcases y.ids id X with o | o
    ·rw [o]; left; unfold muI; rw [if_pos hIc]
    ·exact .inr o
   ·exact .inl (m id hI')
  ·rcases jaz (p id) with hI' | hI'
   ·rcases y.new id b k ((D id hI') ▸ e) hn with l | ⟨W,k0,l⟩
    ·exact .inl l
    ·exact .inr ⟨W,k0,(kau l).2⟩
   ·exact absurd (hr.scope id b k ((m id hI') ▸ e)).1 (by omega)
 have hH2:HR w' O (λi=>if p i then F i else μ i) (λi=>if p i then h' i else h i) n':=by
  refine ⟨λb t=>jan (hr.olt b t) y.size,λid b k e=>?_,λid a b k G e e'=>?_,λid b k e=>?_,λid B hB=>?_⟩
  ·rcases jaz (p id) with hI' | hI'
   ·exact E.scope id b k ((D id hI') ▸ e)
   ·have:=hr.scope id b k ((m id hI') ▸ e);exact ⟨jan this.1 J,jan this.2 y.size⟩
  ·rcases jaz (p id) with hI1 | hI1
   ·have o:F id=some (b,k):=(D id hI1) ▸ e;rcases jaz (p a) with hI2 | hI2
    ·exact E.inj id a b k G o ((D a hI2) ▸ e')
    ·exact absurd (C a b G ((m a hI2) ▸ e') hI2) (E.notO id b k o)
   ·have o:μ id=some (b,k):=(m id hI1) ▸ e;rcases jaz (p a) with hI2 | hI2
    ·exact absurd (C id b k o hI1) (E.notO a b G ((D a hI2) ▸ e'))
    ·exact hr.inj id a b k G o ((m a hI2) ▸ e')
  ·rcases jaz (p id) with hI' | hI'
   ·exact λhO=>E.notO id b k ((D id hI') ▸ e) (.inl hO)
   ·exact hr.notO id b k ((m id hI') ▸ e)
  ·rcases jaz (p id) with hI' | hI'
   ·simp only [hI',if_true] at hB;exact (E.blk id B hB).on (t id B hB) (D id hI') (λi h=>⟨D i (hliveP i h).1,(hliveP i h).2⟩) Q
   ·simp only [hI',jai,if_false] at hB;refine (hr.blk id B hB).evo (m id hI') (λb k e=>y.keep b (hr.scope id b k e).2 λa G e'=>?_) hE2;obtain ⟨o,L⟩:=kau e';rw [hr.inj _ _ _ _ _ e L] at hI';rw [(H hI').1] at o; cases o
 exact ⟨u,_,_,_,_,rfl,Z,hH2,q3.on U (λi h=>⟨D i (hliveP i h).1,(hliveP i h).2⟩) Q,hE2⟩
end
section
variable (P:Yd)
def A1:(t:Ty)->t.den->AV->Prop
 | .fn n x y,F,a=>CV P n x y F a
 | t,x,a=>t.dat=true/\a=t.av x
inductive AL:List ((t:Ty)×t.den)->List AV->Prop
 | nil:AL [] []
 | cons {p:(t:Ty)×t.den} {a:AV} {l:List ((t:Ty)×t.den)} {as:List AV} (h:A1 P p.1 p.2 a) (hl:AL l as):AL (p::l) (a::as)
def PArgs:Ya (Yb Ty)->Ya ((t:Ty)×t.den)->Ya AV->Prop
 | some _::ks,p::l,a::as=>A1 P p.1 p.2 a/\PArgs ks l as
 | none::ks,l,_::as=>PArgs ks l as
 | [],[],[]=>True
 | _,_,_=>False
end
def tpA:Ya AV->AV
 | [a]=>a
 | l=>.tp l
def resE (vs:Ya AV):Env:=vs.zipIdx.map λx=>(1000000+x.2,x.1)
def offD {A:Alg} (s:TS A):TS A:=⟨s.env,s.hp,s.n,false⟩
def kkP (P:Yd) (C:CtrM) (κ:Nat->Yb Nat) (ln:Nat->Nat) (y:C.out.ty.den) (args:Ya AV):K3:=λv h' n'=>
 ∃ κ' ln' vs,vs.length=C.nr/\v=tpA vs/\Rel P κ' ln' ahN ⟨[],[]⟩ (offD (kae (A:=sem) C.out C.n1 y)) (resE vs++kar args) h' n'/\(∀ q B,h' q=some B->∃ id b,alk (kae (A:=sem) C.out C.n1 y).hp id=some (some b)/\Ow κ' ln' id b q)/\∀ p∈C.inn,κ' p = κ p/\ln' p=ln p
def GoodM (P:Yd) (g:FuncId) (C:CtrM):Prop:=
 ∀ x y,C.F x=some y->∀ l1 l2,unT sem (C.ks.filterMap id++C.inp.tys) x=l1++l2->l1.length=(C.ks.filterMap id).length->∀ κ ln h n args,PArgs P C.ks l1 args->Rel P κ ln ahN ⟨[],[]⟩ (offD (kal (A:=sem) C.inp C.n0 l2)) (kar args) h n->
  HC P g args h n (kkP P C κ ln y args)
section
variable {P:Yd} {κ κ' κ2:Nat->Yb Nat} {ln ln' ln2:Nat->Nat} {z z':AH} {c:Cx sem} {s:TS sem} {env:Env} {h h':AH} {n n' N N':Nat}
theorem Snap.freeN {a a':AV} (u:Snap ahN a a'):Free a:=by
 induction u with
 | free a t=>exact t
 | nilS=>exact .sc _
 | own _ _ _ _ _ _ _ _ hB=>cases hB
 | ms _ _ _ _ _ _ _ hB=>cases hB
 | fp cs j hl _ m=>
  refine (kiW cs).2 λc k=>?_;obtain ⟨q,i⟩:=jbf.1 k;obtain ⟨c',b⟩:=kah (l:=j) (l':=cs) hl.symm i;exact m q c c' i b
 | sl es es' hl w _ m=>
  refine (koZ es).2 λe v c k=>?_;obtain ⟨q,i⟩:=jbf.1 v;obtain ⟨e',o⟩:=kah (l:=es') (l':=es) hl.symm i;obtain ⟨p,hp⟩:=jbf.1 k;obtain ⟨c',b⟩:=kah (l:=e') (l':=e) (w q e e' i o).symm hp;exact m q e e' i o p c c' hp b
 | fn f cs j hl _ m=>
  refine (khT f cs).2 λc k=>?_;obtain ⟨q,i⟩:=jbf.1 k;obtain ⟨c',b⟩:=kah (l:=j) (l':=cs) hl.symm i;exact m q c c' i b
 | ag cs j hl _ m=>
  refine (koV cs).2 λc k=>?_;obtain ⟨q,i⟩:=jbf.1 k;obtain ⟨c',b⟩:=kah (l:=j) (l':=cs) hl.symm i;exact m q c c' i b
 | tp cs j hl _ m=>
  refine (kwz cs).2 λc k=>?_;obtain ⟨q,i⟩:=jbf.1 k;obtain ⟨c',b⟩:=kah (l:=j) (l':=cs) hl.symm i;exact m q c c' i b
theorem HC.up {g:FuncId} {as i:Ya AV} {K:K3} (p:HC P g i h n K) (hl:i.length=as.length) (y:∀ (j:Nat) (a a':AV),as[j]?=some a->i[j]?=some a'->a'=a\/Snap ahN a a'):HC P g as h n K:=by
 refine ⟨p.1,λO μ w vs hr o x=>p.2 O μ w vs hr (o.trans hl.symm) λj a' t=>?_⟩;obtain ⟨a,v⟩:=kah hl t;obtain ⟨u,A,l⟩:=x j a v;refine ⟨u,A,?_⟩;rcases y j a a' v t with rfl | m
 ·exact l
 ·have hz:=HR.zero w (Av O μ) λb e=>by
   rcases e with e | ⟨id,k,e⟩
   ·exact hr.olt b e
   ·exact (hr.scope id b k e).2
  exact (m.vr hz (l.free m.freeN λb e=>e)).lift λb e=>e
def TV.hasW (id:Nat):TV sem->Bool
 | .adr i _ _=>i==id
 | .aa i _=>i==id
 | .mw i=>i==id
 | .ms i _ _=>i==id
 | .fw i=>i==id
 | .fr i _=>i==id
 | .fo i _ _=>i==id
 | .fa i _ _ _=>i==id
 | .fn _ vs=>hasL vs
 | .tp vs=>hasL vs
 | .ag vs=>hasL vs
 | _=>false
where hasL:Ya (TV sem)->Bool
 | []=>false
 | v::vs=>v.hasW id||hasL vs
def TB.hasW (id:Nat):TB sem->Bool
 | .bx _ vs=>TV.hasW.hasL id vs
 | _=>false
mutual
theorem TVR.ren {f:Nat->Nat} (hz:∀ q B,z q=some B->z' q=some B):∀ {v:TV sem} {a:AV},TVR P κ ln z N v a->(∀ i,v.has i=true->κ' (f i) = κ i/\f i<N')->(∀ i,v.hasW i=true->ln' (f i)=ln i)->TVR P κ' ln' z' N' (renV f v) a
 | _,_,.un a,_,_=>.un a
 | _,_,.ud,_,_=>.ud
 | _,_,.gs t l,_,_=>.gs t l
 | _,_,.yl id q hi h,hf,_=>by
  obtain ⟨p,e⟩:=hf id (by simp [TV.has]);exact .yl _ q e (p.trans h)
 | _,_,.kp id hi,hf,_=>.kp _ (hf id (by simp [TV.has])).2
 | _,_,.c t x a hd h,_,_=>.c t x a hd (h.mono hz)
 | _,_,.kb b,_,_=>.kb b
 | _,_,.sc v h1,_,_=>.sc v h1
 | _,_,.ptr id j q hi h,hf,_=>by
  obtain ⟨p,e⟩:=hf id (by simp [TV.has]);exact .ptr _ j q e (p.trans h)
 | _,_,.adr id i j q hi h h0 h1,hf,hw=>by
  obtain ⟨p,e⟩:=hf id (by simp [TV.has]);exact .adr _ i j q e (p.trans h) h0 (by rw [hw id (by simp [TV.hasW])]; exact h1)
 | _,_,.aa id i q hi h h0 h1,hf,hw=>by
  obtain ⟨p,e⟩:=hf id (by simp [TV.has]);exact .aa _ i q e (p.trans h) h0 (by rw [hw id (by simp [TV.hasW])]; exact h1)
 | _,_,.fq t x o a hd h,_,_=>.fq t x o a hd (h.mono hz)
 | _,_,.mw0 id hi h,hf,_=>by
  obtain ⟨p,e⟩:=hf id (by simp [TV.has]);exact .mw0 _ e (p.trans h)
 | _,_,.mw id q hi h,hf,hw=>by
  obtain ⟨p,e⟩:=hf id (by simp [TV.has]);rw [<-hw id (by simp [TV.hasW])]; exact .mw _ q e (p.trans h)
 | _,_,.ms0 id off len hi h ho hl,hf,_=>by
  obtain ⟨p,e⟩:=hf id (by simp [TV.has]);exact .ms0 _ off len e (p.trans h) ho hl
 | _,_,.ms id off len q hi h h0 h1 h2,hf,hw=>by
  obtain ⟨p,e⟩:=hf id (by simp [TV.has]);exact .ms _ off len q e (p.trans h) h0 h1 (by rw [hw id (by simp [TV.hasW])]; exact h2)
 | _,_,.mp id q hi h,hf,_=>by
  obtain ⟨p,e⟩:=hf id (by simp [TV.has]);exact .mp _ q e (p.trans h)
 | _,_,.fw0 id hi h,hf,_=>by
  obtain ⟨p,e⟩:=hf id (by simp [TV.has]);exact .fw0 _ e (p.trans h)
 | _,_,.fw id q hi h,hf,hw=>by
  obtain ⟨p,e⟩:=hf id (by simp [TV.has]);rw [<-hw id (by simp [TV.hasW])]; exact .fw _ q e (p.trans h)
 | _,_,.fr0 id i m hi h0 h,hf,hw=>by
  obtain ⟨p,e⟩:=hf id (by simp [TV.has]);exact .fr0 _ i m e h0 (by rw [hw id (by simp [TV.hasW])]; exact h)
 | _,_,.fr id i r m hi h0 h,hf,hw=>by
  obtain ⟨p,e⟩:=hf id (by simp [TV.has]);exact .fr _ i r m e h0 (by rw [hw id (by simp [TV.hasW])]; exact h)
 | _,_,.fo id i j q hi h h0 h1,hf,hw=>by
  obtain ⟨p,e⟩:=hf id (by simp [TV.has]);exact .fo _ i j q e (p.trans h) h0 (by rw [hw id (by simp [TV.hasW])]; exact h1)
 | _,_,.fa id i k o r m hi h0 h hk hm,hf,hw=>by
  obtain ⟨p,e⟩:=hf id (by simp [TV.has]);exact .fa _ i k o r m e h0 (by rw [hw id (by simp [TV.hasW])]; exact h) hk hm
 | _,_,.fn g vs as h,hf,hw=>.fn g _ as (TVRs.ren hz h (λi hi=>hf i (by simpa [TV.has] using hi)) λi hi=>hw i (by simpa [TV.hasW] using hi))
 | _,_,.cv n x y F a h,_,_=>.cv n x y F a h
 | _,_,.tp vs as h,hf,hw=>.tp _ as (TVRs.ren hz h (λi hi=>hf i (by simpa [TV.has] using hi)) λi hi=>hw i (by simpa [TV.hasW] using hi))
 | _,_,.ag vs as h h1,hf,hw=>.ag _ as (TVRs.ren hz h (λi hi=>hf i (by simpa [TV.has] using hi)) λi hi=>hw i (by simpa [TV.hasW] using hi)) h1
theorem TVRs.ren {f:Nat->Nat} (hz:∀ q B,z q=some B->z' q=some B):∀ {v:Ya (TV sem)} {a:Ya AV},TVRs P κ ln z N v a->(∀ i,TV.has.hasL i v=true->κ' (f i) = κ i/\f i<N')->(∀ i,TV.hasW.hasL i v=true->ln' (f i)=ln i)->TVRs P κ' ln' z' N' (renL f v) a
 | _,_,.nil,_,_=>.nil
 | _,_,.cons v a vs as h hs,hf,hw=>.cons _ a _ as (TVR.ren hz h (λi hi=>hf i (by simp [TV.has.hasL,hi])) λi hi=>hw i (by simp [TV.hasW.hasL,hi])) (TVRs.ren hz hs (λi hi=>hf i (by simp [TV.has.hasL,hi])) λi hi=>hw i (by simp [TV.hasW.hasL,hi]))
end
theorem kvH (f:Nat->Nat):∀ vs:Ya (TV sem),(renL f vs).length=vs.length
 | []=>rfl
 | v::vs=>by simp [renL,kvH f vs]
theorem BR.ren {f:Nat->Nat} {id:Nat} {B:TB sem} (Q:BR P κ ln z h N id B) (hz:∀ q B,z q=some B->z' q=some B) (y:∀ q AB,Ow κ ln id B q->h q=some AB->h' q=some AB) (hi:κ' (f id) = κ id) (hl:B.needL=true->ln' (f id)=ln id) (L:∀ i,B.has i=true->κ' (f i) = κ i/\f i<N') (K:∀ i,B.hasW i=true->ln' (f i)=ln i):BR P κ' ln' z' h' N' (f id) (renB f B):=by
 cases Q with
 | bx T vs q as b a w C=>exact .bx T _ q as (hi.trans b) (by rw [kvH]; exact y q _ (.inl b) a) (TVRs.ren hz w (λi A=>L i (by simpa [TB.has] using A)) λi A=>K i (by simpa [TB.hasW] using A)) C
 | el T t x q cs p b a w C o=>exact .el T t x q cs p (hi.trans b) (y q _ (.inl b) a) (w.mono hz) C (λn u e=>by subst e; rw [hl rfl]; exact o n u rfl)
 | sl0 T t l p b o hn=>exact .sl0 T t l p (hi.trans b) o (by rw [hl rfl]; exact hn)
 | sl T t l q es p b a w C hn=>exact .sl T t l q es p (hi.trans b) (y q _ (.inl b) a) (w.mono hz) C (by rw [hl rfl]; exact hn)
 | mp k v l q O G b a=>exact .mp k v l q O G (hi.trans b) (y q _ (.inl b) a)
 | si x q b D a=>exact .si x q (hi.trans b) D (y q _ (.inl b) a)
 | fm0 T t j U u l H p b o hn=>exact .fm0 T t j U u l H p (hi.trans b) o (by rw [hl rfl]; exact hn)
 | fm T t j U u l H q es p b a hn E w D C=>
  refine .fm T t j U u l H q es p (hi.trans b) (y q _ (.inl b) a) (by rw [hl rfl]; exact hn) E (λi x e I h2 M F J=>?_) (by rw [hl rfl]; exact D) C;rw [hl rfl] at F;refine (w i x e I h2 M F J).mono hz λr B hr hB=>y r B (.inr ⟨rfl,?_⟩) hB;obtain ⟨r',m⟩:=I;simp only at hr; subst hr;exact kaK F
theorem kjH {α β:Type} (f:Nat->Nat) (g:α->β):∀ (l:Ya (Nat×α)) {id:Nat} {b:β},alk (l.map λx=>(f x.1,g x.2)) id=some b->∃ k a,alk l k=some a/\f k=id/\b=g a
 | [],id,b,h=>by cases h
 | (k,a)::l,id,b,h=>by
  simp only [jap,alk] at h;split at h
  ·rename_i e; cases h; exact ⟨k,a,by simp [alk],e.symm,rfl⟩
  ·rename_i e;obtain ⟨i,a',m,h2,j⟩:=kjH f g l h;refine ⟨i,a',?_,h2,j⟩;simp only [alk]; rw [if_neg]; exact m;rintro rfl; exact e h2.symm
end
section
variable {P:Yd} {κ κ' κ2:Nat->Yb Nat} {ln ln' ln2:Nat->Nat} {z z':AH} {c:Cx sem} {s:TS sem} {env:Env} {h h':AH} {n n' N N':Nat}
theorem kqM:∀ (l:Ya Nat) {x a:Nat},alk (l.map λi=>(i,i)) x=some a->x=a
 | [],x,a,h=>by simp [alk] at h
 | i::l,x,a,h=>by
  simp only [jap,alk] at h;split at h
  ·rename_i e; cases h; exact e
  ·exact kqM l h
theorem ksZ (R:Rel P κ ln z c s env h n) {p:Pat} {m:Mt sem} {X:Ya Nat} (hp:packM c N p s X=some m) (hs:m.sn=[]) (ab:z=ahN) :
  ∃ κ2 ln2,Rel P κ2 ln2 ahN ⟨[],[]⟩ (offD (kal (A:=sem) p N m.cs)) env h n/\(∀ p q,alk m.ids p=some q->κ2 p = κ q/\ln2 p=ln q/\p<N)/\
   (∀ id b,alk (kal (A:=sem) p N m.cs).hp id=some b->∃ B q t,b=some B/\alk m.ids id=some q/\alk s.hp q=some (some t)/\B.isF=t.isF)/\(∀ x y a,alk m.ids x=some a->alk m.ids y=some a->x=y)/\(∀ id,(alk (kal (A:=sem) p N m.cs).hp id).isSome=(alk p.hp id).isSome):=by
 unfold packM at hp;obtain ⟨m1,aa,hp⟩:=jaa.1 hp;obtain ⟨m',hm,hp⟩:=jaa.1 hp;obtain ⟨F,hp⟩:=jdf.1 hp;cases hp;simp only [jam,jaj] at F;have K:=F;obtain ⟨Y,a1,S,M,a4⟩:=kot R _ aa;obtain ⟨I,b1,b2,b3,b4⟩:=knL R _ hm;simp only [jbc] at a1;have Q:m.cs=Y++I:=by rw [b1,a1]
 have w:Inj m:=b3 (M (λx y a hx hy=>(kqM X hx).trans (kqM X hy).symm));let κ2:Nat->Yb Nat:=λid=>match alk m.ids id with | some q=>κ q | none=>none
 let ln2:Nat->Nat:=λid=>match alk m.ids id with | some q=>ln q | none=>0
 have e:∀ {p q:Nat},alk m.ids p=some q->κ2 p = κ q/\ln2 p=ln q:=λ{p q} o=>by simp only [κ2,ln2,o]; exact ⟨trivial,trivial⟩
 have ac:hz (ows κ ln c s) h z m.sn=ahN:=by rw [hs,kbB,ab]
 have fin:Fin (ows κ ln c s) κ ln h z m κ2 ln2 ahN N:=⟨λp q o=>⟨(e o).1,(e o).2,K _ (kaD o)⟩,λq B o=>by rw [ac] at o; exact o⟩;obtain ⟨E,e1,e2,e3⟩:=a4 κ2 ln2 _ N (fin.back R.zin b2) I;obtain ⟨H,f1,f2,f3⟩:=b4 κ2 ln2 _ N fin [];rw [jbe] at f1;have O:(kal (A:=sem) p N m.cs).env=E:=by simp only [kal,Q,e1]
 have L:(kal (A:=sem) p N m.cs).hp=H:=by simp only [kal,Q,e1,f1]
 have J:∀ id B,thp (⟨[],[]⟩:Cx sem) (offD (kal (A:=sem) p N m.cs)) id=some B->alk H id=some (some B):=λid B hB=>by
  unfold thp at hB;rw [show (offD (kal (A:=sem) p N m.cs)).hp=H from L] at hB;cases hh:alk H id with
  | some b=>rw [hh] at hB; exact congrArg some hB
  | none=>rw [hh] at hB; cases hB
 have l:∀ {id:Nat} {B:TB sem},alk H id=some (some B)->∃ q t,alk m.ids id=some q/\alk s.hp q=some (some t)/\BR P κ2 ln2 ahN h N id B/\B.isF=t.isF:=λ{id B} hB=>by
  obtain ⟨D,q,t,g1,u,C,G⟩:=f2 id _ hB;cases g1;exact ⟨q,t,u,C,G⟩
 refine ⟨κ2,ln2,⟨λy=>?_,λid B hB=>?_,λid B hB=>?_,λi j B D q hi W ki kj=>?_,λq B o=>(by cases o),λid B q hB hk=>rfl,λid B q hB hk=>?_,R.hn,λx v hx=>rfl,λid b hb=>rfl,λ_=>rfl,λq k T es o=>(by cases o),λid B hB hf=>?_⟩,λp q o=>⟨(e o).1,(e o).2,K _ (kaD o)⟩,λid b hb=>?_,w,λid=>by rw [L]; exact f3 id⟩
 ·unfold tlk;rw [show (offD (kal (A:=sem) p N m.cs)).env=E from O];cases hy:alk E y with
  | some v=>exact e2 y v hy
  | none=>exact .un _
 ·obtain ⟨q,t,u,C,G⟩:=l (J id B hB); exact G.1
 ·obtain ⟨q,t,u,C,G⟩:=l (J id B hB); exact K _ (kaD u)
 ·obtain ⟨qi,Bi,u,C,G⟩:=l (J i B hi);obtain ⟨qj,Bj,k2,k3,k4⟩:=l (J j D W);rw [(e u).1] at ki;rw [(e k2).1] at kj;have:=R.inj qi qj _ _ q (kab C) (kab k3) ki kj;subst this;exact w i j qi u k2
 ·obtain ⟨q',t,u,C,G⟩:=l (J id B hB);rw [(e u).1] at hk;exact R.bnd q' t q (kab C) hk
 ·obtain ⟨X,t,u,C,G,g5⟩:=l (J id B hB);obtain ⟨k1,k2⟩:=R.fam X t (kab C) (by rw [<-g5]; exact hf);rw [(e u).2];refine ⟨k1,λr hr=>?_⟩;obtain ⟨l1,l2,l3,l4⟩:=k2 r hr;refine ⟨l1,rfl,λj D W=>?_,λj D W Z U=>?_⟩
  ·obtain ⟨j0,B1,S,M,a4⟩:=l (J j D W);rw [(e S).1]; exact l3 j0 B1 (kab M)
  ·obtain ⟨j0,B1,S,M,a4,a5⟩:=l (J j D W);rw [(e S).2] at U;have:=l4 j0 B1 (kab M) (by rw [<-a5]; exact Z) U;subst this;exact w _ _ _ S u
 ·rw [L] at hb;obtain ⟨D,q,t,g1,u,C,G,g5⟩:=f2 id b hb;exact ⟨D,q,t,g1,u,C,g5⟩
theorem knQ:∀ (l:Ya (Nat×PV)) (xs:Ya ((t:Ty)×sem.D t)) (x:Nat) (a:PV) (v:TV sem),alk l x=some a->(∀ xs:Ya ((t:Ty)×sem.D t),(unV (A:=sem) a xs).1=v)->alk (unE (A:=sem) l xs).1 x=some v
 | [],xs,x,a,v,h,_=>by cases h
 | (k,p)::l,xs,x,a,v,h,hv=>by
  simp only [unE,alk] at h ⊢;split at h
  ·rename_i e;cases h;rw [if_pos e,hv]
  ·rename_i e;rw [if_neg e];exact knQ l _ x a v h hv
end
def pureA:Ya (Yb Ty)->Ya AV->Ya AV
 | some _::ks,v::vs=>v::pureA ks vs
 | none::ks,_::vs=>pureA ks vs
 | _,_=>[]
def kcM:Ya (Yb Ty)->Ya AV->Ya AV->Ya AV
 | some _::ks,b::bs,_::as=>b::kcM ks bs as
 | none::ks,bs,a::as=>a::kcM ks bs as
 | _,_,_=>[]
section
variable {P:Yd} {κ κ' κ2:Nat->Yb Nat} {ln ln' ln2:Nat->Nat} {z z':AH} {c:Cx sem} {s:TS sem} {env:Env} {h h':AH} {n n' N N':Nat}
theorem krV:∀ (ks:Ya (Yb Ty)) {args:Ya (TV sem)} {as:Ya AV},TVRs P κ ln z N args as->TVRs P κ ln z N (pureV ks args) (pureA ks as)
 | [],_,_,h=>by cases h <;> exact .nil
 | some _::ks,_,_,.nil=>.nil
 | none::ks,_,_,.nil=>.nil
 | some _::ks,_,_,.cons v a vs as h hs=>.cons _ _ _ _ h (krV ks hs)
 | none::ks,_,_,.cons v a vs as h hs=>krV ks hs
theorem kqO:∀ (ks:Ya (Yb Ty)) {l:Ya ((t:Ty)×t.den)} {bs as:Ya AV},as.length=ks.length->AL P l bs->l.length=(ks.filterMap id).length->SnapL z (pureA ks as) bs->
  (kcM ks bs as).length=as.length/\PArgs P ks l (kcM ks bs as)/\∀ (j:Nat) (a a':AV),as[j]?=some a->(kcM ks bs as)[j]?=some a'->a'=a\/Snap z a a'
 | [],l,bs,as,hl,hA,hc,hs=>by
  cases as with
  | cons _ _=>simp at hl
  | nil=>
   cases l with
   | cons _ _=>simp at hc
   | nil=>exact ⟨rfl,trivial,λj a a' h=>by simp at h⟩
 | none::ks,l,bs,as,hl,hA,hc,hs=>by
  cases as with
  | nil=>simp at hl
  | cons a as=>
   obtain ⟨o,h2,k⟩:=kqO ks (by simpa using hl) hA (by simpa using hc) hs;refine ⟨by simp [kcM,o],h2,λj x m i e=>?_⟩;cases j with
   | zero=>simp [kcM] at i e; subst i; subst e; exact .inl rfl
   | succ j=>exact k j x m (by simpa using i) (by simpa [kcM] using e)
 | some t::ks,l,bs,as,hl,hA,hc,hs=>by
  cases as with
  | nil=>simp at hl
  | cons a as=>
   cases hs with
   | cons k1 k2=>
    rename_i b bs;cases hA with
    | cons g1 u=>
     rename_i p l;obtain ⟨o,h2,k⟩:=kqO ks (by simpa using hl) u (by simpa using hc) k2;refine ⟨by simp [kcM,o],⟨g1,h2⟩,λj x m i e=>?_⟩;cases j with
     | zero=>simp [kcM] at i e; subst i; subst e; exact .inr k1
     | succ j=>exact k j x m (by simpa using i) (by simpa [kcM] using e)
theorem kqU:∀ (ks:Ya (Yb Ty)) (vs:Ya (TV sem)) (k x:Nat) (v:TV sem),alk (patE ks vs k) x=some v->k<=x
 | [],_,k,x,v,h=>by simp [patE,alk] at h
 | some _::ks,[],k,x,v,h=>by simp [patE,alk] at h
 | none::ks,[],k,x,v,h=>by simp [patE,alk] at h
 | some _::ks,_::vs,k,x,v,h=>by have:=kqU ks vs (k+1) x v h; omega
 | none::ks,_::vs,k,x,v,h=>by
  simp only [patE,alk] at h;split at h
  ·omega
  ·have:=kqU ks vs (k+1) x v h; omega
theorem kso:∀ (ks:Ya (Yb Ty)) {args:Ya (TV sem)} {as bs:Ya AV} (k:Nat),TVRs P κ ln z N args as->args.length=ks.length->bs.length=(ks.filterMap id).length->∀ x,TVR P κ ln z N ((alk (patE ks args k) x).getD .un) (lk (((kcM ks bs as).zipIdx k).map λ(v,i)=>(i,v)) x)
 | [],args,as,bs,k,h,hl,hb,x=>by simp only [patE,alk]; exact .un _
 | some t::ks,_,_,bs,k,.nil,hl,hb,x=>by simp at hl
 | none::ks,_,_,bs,k,.nil,hl,hb,x=>by simp at hl
 | none::ks,_,_,bs,k,.cons v a vs as h hs,hl,hb,x=>by
  simp only [patE,kcM,jbj,jap,alk,lk];by_cases e:x=k
  ·simp only [if_pos e]; exact h
  ·simp only [if_neg e]; exact kso ks (k+1) hs (by simpa using hl) (by simpa using hb) x
 | some t::ks,_,_,bs,k,.cons v a vs as h hs,hl,hb,x=>by
  cases bs with
  | nil=>simp at hb
  | cons b bs=>
   simp only [patE,kcM,jbj,jap,lk];by_cases e:x=k
   ·simp only [if_pos e];cases j:alk (patE ks vs (k+1)) x with
    | some v=>have:=kqU _ _ _ _ _ j; omega
    | none=>exact .un _
   ·simp only [if_neg e]; exact kso ks (k+1) hs (by simpa using hl) (by simpa using hb) x
mutual
theorem ksw {f w:Nat->Bool}:∀ {v:TV sem},v.all f w=true->∀ i,v.has i=true->f i=true
 | .ptr j _,h,i,hi | .mp j,h,i,hi=>by simp only [TV.all,TV.has,beq_iff_eq] at h hi; rw [<-hi]; exact h
 | .adr j _ _,h,i,hi | .aa j _,h,i,hi | .mw j,h,i,hi | .ms j _ _,h,i,hi | .fw j,h,i,hi | .fo j _ _,h,i,hi=>by simp only [TV.all,TV.has,beq_iff_eq,jac] at h hi; rw [<-hi]; exact h.1
 | .fr _ _,h,i,hi | .fa _ _ _ _,h,i,hi=>by simp [TV.all] at h
 | .fn _ vs,h,i,hi | .tp vs,h,i,hi | .ag vs,h,i,hi=>kqJ (vs:=vs) (by simpa [TV.all] using h) i (by simpa [TV.has] using hi)
 | .un,h,i,hi=>by simp [TV.all] at h
 | .ud,h,i,hi | .c _ _,h,i,hi | .kb _,h,i,hi | .sc _,h,i,hi | .fq _ _ _,h,i,hi | .cv _ _ _ _,h,i,hi=>by simp [TV.has] at hi
theorem kqJ {f w:Nat->Bool}:∀ {vs:Ya (TV sem)},TV.all.allL f w vs=true->∀ i,TV.has.hasL i vs=true->f i=true
 | [],h,i,hi=>by simp [TV.has.hasL] at hi
 | v::vs,h,i,hi=>by
  simp only [TV.all.allL,jac] at h;simp only [TV.has.hasL,jat] at hi;rcases hi with hi | hi
  ·exact ksw h.1 i hi
  ·exact kqJ h.2 i hi
end
mutual
theorem kvn {f w:Nat->Bool}:∀ {v:TV sem},v.all f w=true->∀ i,v.hasW i=true->w i=true
 | .adr j _ _,h,i,hi | .aa j _,h,i,hi | .mw j,h,i,hi | .ms j _ _,h,i,hi | .fw j,h,i,hi | .fo j _ _,h,i,hi=>by simp only [TV.all,TV.hasW,beq_iff_eq,jac] at h hi; rw [<-hi]; exact h.2
 | .fr _ _,h,i,hi | .fa _ _ _ _,h,i,hi=>by simp [TV.all] at h
 | .fn _ vs,h,i,hi | .tp vs,h,i,hi | .ag vs,h,i,hi=>koG (vs:=vs) (by simpa [TV.all] using h) i (by simpa [TV.hasW] using hi)
 | .un,h,i,hi=>by simp [TV.all] at h
 | .ptr _ _,h,i,hi | .mp _,h,i,hi | .ud,h,i,hi | .c _ _,h,i,hi | .kb _,h,i,hi | .sc _,h,i,hi | .fq _ _ _,h,i,hi | .cv _ _ _ _,h,i,hi=>by simp [TV.hasW] at hi
theorem koG {f w:Nat->Bool}:∀ {vs:Ya (TV sem)},TV.all.allL f w vs=true->∀ i,TV.hasW.hasL i vs=true->w i=true
 | [],h,i,hi=>by simp [TV.hasW.hasL] at hi
 | v::vs,h,i,hi=>by
  simp only [TV.all.allL,jac] at h;simp only [TV.hasW.hasL,jat] at hi;rcases hi with hi | hi
  ·exact kvn h.1 i hi
  ·exact koG h.2 i hi
end
mutual
theorem on_tv {p:Nat->Bool} {f w:Nat->Bool} (hp:∀ i q,f i=true->κ i=some q->p q=true):∀ {v:TV sem} {a:AV},TVR P κ ln ahN N v a->v.all f w=true->On p a
 | _,_,.un a,h=>by simp [TV.all] at h
 | _,_,.ud,h=>.free _ .ud
 | _,_,.gs t l,h=>by simp [TV.all] at h
 | _,_,.yl id q hi hq,h=>by simp [TV.all] at h
 | _,_,.kp id hi,h=>by simp [TV.all] at h
 | _,_,.c t x a hd hs,h=>.free _ hs.freeN
 | _,_,.kb b,h=>.free _ (.sc _)
 | _,_,.sc v h1,h=>.free _ (.sc _)
 | _,_,.ptr id j q hi hk,h=>.own _ _ _ (hp id q (by simpa [TV.all] using h) hk)
 | _,_,.adr id i j q hi hk h0 h1,h=>.own _ _ _ (hp id q (by simp [TV.all] at h; exact h.1) hk)
 | _,_,.aa id i q hi hk h0 h1,h=>.own _ _ _ (hp id q (by simp [TV.all] at h; exact h.1) hk)
 | _,_,.fq t x o a hd hs,h=>.free _ hs.freeN
 | _,_,.mw0 id hi hk,h=>.free _ (.sc _)
 | _,_,.mw id q hi hk,h=>.ms _ _ _ (hp id q (by simp [TV.all] at h; exact h.1) hk)
 | _,_,.ms0 id off len hi hk ho hl,h=>.free _ (.sc _)
 | _,_,.ms id off len q hi hk h0 h1 h2,h=>.ms _ _ _ (hp id q (by simp [TV.all] at h; exact h.1) hk)
 | _,_,.mp id q hi hk,h=>.mp _ (hp id q (by simpa [TV.all] using h) hk)
 | _,_,.fw0 id hi hk,h=>.free _ (.sc _)
 | _,_,.fw id q hi hk,h=>.ms _ _ _ (hp id q (by simp [TV.all] at h; exact h.1) hk)
 | _,_,.fr0 _ _ _ _ _ _,h | _,_,.fr _ _ _ _ _ _ _,h | _,_,.fa _ _ _ _ _ _ _ _ _ _ _,h=>by simp [TV.all] at h
 | _,_,.fo id i j q hi hk h0 h1,h=>.own _ _ _ (hp id q (by simp [TV.all] at h; exact h.1) hk)
 | _,_,.fn g vs as hs,h=>.fn g as λj a e=>kou hp hs (by simpa [TV.all] using h) a (jak e)
 | _,_,.cv n x y F a hc,h=>by
  obtain ⟨g,as,rfl,k,_⟩:=hc;exact .free _ ((khT _ _).2 k)
 | _,_,.tp vs as hs,h=>.tp as λj a e=>kou hp hs (by simpa [TV.all] using h) a (jak e)
 | _,_,.ag vs as hs h1,h=>.ag as λj a e=>kou hp hs (by simpa [TV.all] using h) a (jak e)
theorem kou {p:Nat->Bool} {f w:Nat->Bool} (hp:∀ i q,f i=true->κ i=some q->p q=true):∀ {vs:Ya (TV sem)} {as:Ya AV},TVRs P κ ln ahN N vs as->TV.all.allL f w vs=true->∀ a∈as,On p a
 | _,_,.nil,h,a,ha=>by cases ha
 | _,_,.cons v a vs as hv hs,h,b,e=>by
  simp only [TV.all.allL,jac] at h;rcases jbq.1 e with rfl | e
  ·exact on_tv hp hv h.1
  ·exact kou hp hs h.2 b e
end
theorem on_br {p:Nat->Bool} {f w:Nat->Bool} {id q:Nat} {B:TB sem} {AB:ABlk} (hp:∀ i q,f i=true->κ i=some q->p q=true) (hb:BR P κ ln ahN h N id B) (ha:B.all f w=true) (Y:∀ r,B.isF=true->r∈kao (ln id)->p r=true) (E:Ow κ ln id B q) (I:h q=some AB):OnB p AB:=by
 have Q:∀ {es ys:Ya (Ya AV)},SnapE ahN es ys->∀ e∈es,∀ a∈e,On p a:=λ{es ys} R e D a A=>by
  obtain ⟨i,hi⟩:=jbf.1 D;obtain ⟨e',K⟩:=kah (l:=ys) (l':=es) R.1.symm hi;have M:=R.2 i e e' hi K;obtain ⟨j,H⟩:=jbf.1 A;obtain ⟨c',C⟩:=kah (l:=e') (l':=e) M.len.symm H;exact .free _ (M.at j a c' H C).freeN
 have ab:=hb;rcases E with E | ⟨hf,hr⟩
 case inr=>
  cases B <;> simp only [TB.isF,jai] at hf;obtain ⟨i,m,x,e,_,_,_,_,_,ys,_,_,_,es,g1,Z,_⟩:=hb.row hr;rw [g1] at I; cases I;exact Q Z
 cases hb with
 | bx T vs L as b o F h1=>
  rw [E] at b; cases b; rw [I] at o; cases o;intro e D a A;simp at D; subst D;exact kou hp F (by simpa [TB.all] using ha) a A
 | el T t x L cs W b o F h1 hl=>
  rw [E] at b; cases b; rw [I] at o; cases o;intro e D a A;simp at D; subst D;obtain ⟨j,H⟩:=jbf.1 A;obtain ⟨c',C⟩:=kah (l:=t.enc x) (l':=e) F.len.symm H;exact .free _ (F.at j a c' H C).freeN
 | sl0 T t l W b hl hn=>rw [E] at b; cases b
 | sl T t l L es W b o F h1 hn=>
  rw [E] at b; cases b; rw [I] at o; cases o;intro e D a A;obtain ⟨i,hi⟩:=jbf.1 D;obtain ⟨e',K⟩:=kah (l:=l.map t.enc) (l':=es) F.1.symm hi;have R:=F.2 i e e' hi K;obtain ⟨j,H⟩:=jbf.1 A;obtain ⟨c',C⟩:=kah (l:=e') (l':=e) R.len.symm H;exact .free _ (R.at j a c' H C).freeN
 | mp k v l L ac hf b o=>
  rw [E] at b; cases b; rw [I] at o; cases o;intro x X;obtain ⟨y,hy,rfl⟩:=jbb.1 X;exact .free _ (khL _ _ (kcY hf))
 | si x L b h0 o=>rw [E] at b; cases b; rw [I] at o; cases o; trivial
 | fm0 T t j U u l ho W b hl hn=>rw [E] at b; cases b
 | fm T t j U u l ho L es W b o hn ad F h0 h1=>
  rw [E] at b; cases b; rw [I] at o; cases o;have aa:ho=none:=by simpa [TB.all] using ha
  subst aa;intro e D a A;obtain ⟨i,hi⟩:=jbf.1 D;have ae:=(jaf.1 hi).1;have X:l[i]?=some (l[i]'(by omega)):=jae _;have J:(kad (ln id))[i]?=some ((kad (ln id))[i]'(by omega)):=jae _;obtain ⟨g1,Z,ys,g3,g4,g5⟩:=F i _ e _ X hi J (by simp);obtain ⟨k,G⟩:=jbf.1 A;by_cases O:k=j
  ·subst O;generalize (kad (ln id))[i]'(by omega)=rm at g5 J;obtain ⟨r,m⟩:=rm;cases r with
   | none=>obtain ⟨S,_⟩:=g5; rw [G] at S; cases S; exact .free _ (.sc _)
   | some r=>obtain ⟨S,_⟩:=g5; rw [G] at S; cases S; exact .ms _ _ _ (Y r rfl (kaK J))
  ·obtain ⟨c',C⟩:=kah (l:=t.enc (l[i]'(by omega))) (l':=e) g1 G;exact .free _ (Z k a c' O G C).freeN
end
section
variable {P:Yd} {f:FuncId} {args:Ya AV}
inductive OnF (p:Nat->Bool):AV->Prop
 | flat (a:AV) (h:Flat a):OnF p a
 | own (id i j:Nat) (h:p id=true):OnF p (.own id i j)
 | ms (id off len:Nat) (h:p id=true):OnF p (.ms id off len)
 | mp (id:Nat) (h:p id=true):OnF p (.mp id)
 | fn (f:FuncId) (cs:List AV) (h:∀ (j:Nat) (c:AV),cs[j]?=some c->OnF p c):OnF p (.fn f cs)
 | ag (cs:List AV) (h:∀ (j:Nat) (c:AV),cs[j]?=some c->OnF p c):OnF p (.ag cs)
 | tp (cs:List AV) (h:∀ (j:Nat) (c:AV),cs[j]?=some c->OnF p c):OnF p (.tp cs)
def OnBF (p:Nat->Bool):ABlk->Prop
 | .cells _ _ es=>∀ e∈es,∀ a∈e,OnF p a
 | .map b=>∀ x∈b,OnF p x.2
 | .si _ _=>True
theorem VR.onF {w:World} {D E:Nat->Prop} {B y:Mu} {n1 n2:Nat} {p:Nat->Bool} {a:AV} (C:OnF p a) (hp:∀ id,p id=true->y id = B id/\id<n2):∀ {v:Ye},VR w D B n1 a v->VR w E y n2 a v:=by
 induction C with
 | flat a h=>intro v l; exact l.flat h _ _ _ _
 | own id i j h=>
  intro v l;cases l with
  | own _ _ _ _ A o l=>exact .own id i j v (hp id h).2 o λb k e=>l b k ((hp id h).1 ▸ e)
 | ms id off len h=>
  intro v l;cases l with
  | ms _ _ _ _ A o l=>exact .ms id off len v (hp id h).2 o λb k e=>l b k ((hp id h).1 ▸ e)
 | mp id h=>
  intro v l;cases l with
  | mp _ _ A o l=>exact .mp id v (hp id h).2 o λb k e=>l b k ((hp id h).1 ▸ e)
 | fn f cs h u=>
  intro v l;cases l with
  | fn _ _ vs us x t hr=>exact .fn f cs vs us x t λj c m=>u j c m (hr j c m)
 | ag cs h u=>
  intro v l;cases l with
  | ag _ vs us x t o hr=>exact .ag cs vs us x t o λj c m=>u j c m (hr j c m)
 | tp cs h u=>
  intro v l;cases l with
  | tp _ vs us x t hr=>exact .tp cs vs us x t λj c m=>u j c m (hr j c m)
theorem BlkAt.onF {w:World} {H J:Nat->Prop} {y o:Mu} {n1 n2 id:Nat} {p:Nat->Bool} {B:ABlk} (A:BlkAt w H y n1 id B) (D:OnBF p B) (t:o id = y id) (hp:∀ id,p id=true->o id = y id/\id<n2):BlkAt w J o n2 id B:=by
 cases B with
 | cells k T es=>
  obtain ⟨b,c,l,h2,m⟩:=A;refine ⟨b,c,t.trans l,h2,λi e hi=>⟨(m i e hi).1,λj a C=>?_⟩⟩;obtain ⟨v,u,E,M⟩:=(m i e hi).2 j a C;exact ⟨v,u,E,M.onF (D e (jak hi) a (jak C)) hp⟩
 | map F=>
  obtain ⟨b,es,l,h2,m,v⟩:=A;refine ⟨b,es,t.trans l,h2,m,λi x hi=>?_⟩;obtain ⟨e,g1,G,I,L,K⟩:=v i x hi;exact ⟨e,g1,G,I,L,K.onF (D x (jak hi)) hp⟩
 | si s pos=>
  obtain ⟨b,l,h2⟩:=A;exact ⟨b,t.trans l,h2⟩
theorem VR.less {w:World} {O O':Nat->Prop} {μ:Mu} {n:Nat} (D:∀ b,O' b->O b) {a:AV} {v:Ye} (u:VR w O μ n a v):VR w O' μ n a v:=by
 have av:∀ {b:Nat},Av O' μ b->Av O μ b:=λh=>by
  rcases h with h | h
  ·exact .inl (D _ h)
  ·exact .inr h
 induction u with
 | sc v l=>exact .sc v l
 | ud=>exact .ud
 | gs es=>exact .gs es
 | un v=>exact .un v
 | e0 p=>exact .e0 p
 | own id i j v h l u=>exact .own id i j v h l u
 | ms id off len v h l u=>exact .ms id off len v h l u
 | mp id v h l u=>exact .mp id v h l u
 | fp cs b o us hA m l _ t=>exact .fp cs b o us (λx C=>hA x (av C)) m l t
 | slnil p=>exact .slnil p
 | sl es b o cap k us y B hA E m l _ t=>exact .sl es b o cap k us y B (λi e hi x C=>hA i e hi x (av C)) E m l t
 | fn f cs vs us A m _ t=>exact .fn f cs vs us A m t
 | ag cs vs us A m l _ t=>exact .ag cs vs us A m l t
 | tp cs vs us A m _ t=>exact .tp cs vs us A m t
theorem HC.frm3 {h hE hL:AH} {n:Nat} {R K:K3} {C:Ya AV} (I:Ya Nat) (hLs:∀ i B,hL i=some B->h i=some B/\I.contains i=false) (S:C.length=args.length) (hs:∀ (j:Nat) (a a':AV),args[j]?=some a->C[j]?=some a'->a'=a\/Snap hL a a') (hi:∀ i B,hE i=some B->I.contains i=true/\h i=some B) (hI:∀ i,I.contains i=true->i<n) (hn:∀ i,n<=i->h i=none)
  (hR:∀ v h' n',R v h' n'->OnF (liveP h') v/\∀ i B,h' i=some B->OnBF (liveP h') B)
  (hc:HC P f C hE n R) (hk:∀ v h' n',R v h' n'->n<=n'->(∀ i B,h' i=some B->I.contains i=true\/(n<=i/\i<n'))->K v (λi=>if I.contains i||decide (n<=i) then h' i else h i) n'):HC P f args h n K:=by
 refine ⟨hc.1,λO μ w vs hr ac ab=>?_⟩;let Y:Nat->Bool:=λi=>I.contains i||(hL i).isSome
 have hO2:∀ b,Av O (muP (λi=>!Y i) μ) b->Av O (muO I μ) b:=λb o=>by
  rcases o with o | ⟨id,k,o⟩
  ·exact .inl o
  ·obtain ⟨l,h2⟩:=kaQ o;simp only [Y,jbd,jdn] at l;exact .inr ⟨id,k,by unfold muO; rw [if_neg (by rw [l.1]; decide)]; exact h2⟩
 have hO3:∀ b,Av O (muP (λi=>!Y i) μ) b->Av O (muP (λi=>!(hL i).isSome) μ) b:=λb o=>by
  rcases o with o | ⟨id,k,o⟩
  ·exact .inl o
  ·obtain ⟨l,h2⟩:=kaQ o;simp only [Y,jbd,jdn] at l;exact .inr ⟨id,k,by unfold muP; rw [if_pos (by show (!(hL id).isSome)=true; rw [l.2]; rfl)]; exact h2⟩
 have sp:∀ {a:AV} {v:Ye},VR w O μ n a v->VR w (Av O (muP (λi=>!Y i) μ)) (muI I μ) n a v:=λhv=>(hv.split I).less hO2;have hrI:HR w (Av O (muP (λi=>!Y i) μ)) (muI I μ) hE n:=by
  refine ⟨λb o=>?_,λid b k e=>hr.scope id b k (kau e).2,λid m b k Q e e'=>hr.inj id m b k Q (kau e).2 (kau e').2,λid b k e hO=>?_,λid B hB=>?_⟩
  ·rcases o with o | ⟨id,k,o⟩
   ·exact hr.olt b o
   ·exact (hr.scope id b k (kaQ o).2).2
  ·replace hO:=hO2 b hO;obtain ⟨t,E⟩:=kau e;rcases hO with hO | ⟨m,Q,hO⟩
   ·exact hr.notO id b k E hO
   ·obtain ⟨F,L⟩:=kaZ hO;rw [hr.inj _ _ _ _ _ E L] at t;rw [t] at F; cases F
  ·obtain ⟨l,h2⟩:=hi id B hB;exact (hr.blk id B h2).mapV (by simp only [muI]; rw [if_pos l]) sp
 refine (hc.2 (Av O (muP (λi=>!Y i) μ)) (muI I μ) w vs hrI (ac.trans S.symm) (λj c hj=>?_)).mono ?_
 ·obtain ⟨a,ha⟩:=kah S hj;obtain ⟨u,l,h2⟩:=ab j a ha;refine ⟨u,l,?_⟩;rcases hs j a c ha hj with rfl | ad
  ·exact sp h2
  ·have hz:∀ q B,hL q=some B->h q=some B/\(λi=>!(hL i).isSome) q=false:=λq B hq=>⟨(hLs q B hq).1,by simp [hq]⟩;have hp:=ad.vr (hr.part (p:=λi=>!(hL i).isSome) hz) (h2.splitP (λi=>!(hL i).isSome));exact hp.lift λb o=>by
    rcases o with o | ⟨id,k,o⟩
    ·exact hO3 b o
    ·obtain ⟨t,E⟩:=kau o;have F:(!(hL id).isSome)=true:=by
      cases hq:hL id with
      | none=>rfl
      | some B=>have:=(hLs id B hq).2; rw [t] at this; cases this
     exact .inr ⟨id,k,by unfold muP; rw [if_pos (by exact F)]; exact E⟩
 rintro e w' ⟨u,v,h',n',U,rfl,q1,X,q3,y⟩;have aa:=y.le;let p:Nat->Bool:=λi=>I.contains i||decide (n<=i)
 have J:∀ {i},p i=false->I.contains i=false/\i<n:=λ{i} hp=>by simpa [p] using hp
 have H:∀ id,p id=true->(λi=>if p i then U i else μ i) id = U id:=λid h=>by simp only [h,if_true]
 have x:∀ id,p id=false->(λi=>if p i then U i else μ i) id = μ id:=λid h=>by simp only [h,jai,if_false]
 have A:∀ id b k,U id=some (b,k)->p id=true:=λid b k e=>by
  rcases jaz (p id) with hp | hp
  ·exact hp
  ·obtain ⟨t,E⟩:=J hp;rcases y.ids id E with F | F
   ·rw [F] at e; rw [(kau e).1] at t; cases t
   ·rw [F] at e; cases e
 have G:∀ i B,h' i=some B->p i=true/\i<n':=λi B hB=>by
  have:=X.blk i B hB;cases B with
  | cells k T es=>obtain ⟨b,c,l,_⟩:=this; exact ⟨A i b k l,(X.scope i b k l).1⟩
  | map af=>obtain ⟨b,es,l,_⟩:=this; exact ⟨A i b 0 l,(X.scope i b 0 l).1⟩
  | si s pos=>obtain ⟨b,l,_⟩:=this; exact ⟨A i b 0 l,(X.scope i b 0 l).1⟩
 have hliveP:∀ i,liveP h' i=true->p i=true/\i<n':=λi hi=>by
  obtain ⟨B,hB⟩:=jao.1 hi;exact G i B hB
 replace hk:=hk v h' n' q1 aa λi B hB=>by
  obtain ⟨l,h2⟩:=G i B hB;simp only [p,jat,jaj] at l;rcases l with l | l
  ·exact .inl l
  ·exact .inr ⟨l,h2⟩
 obtain ⟨hv,o⟩:=hR v h' n' q1;have W:∀ id b k D k2,U id=some (b,k)->μ D=some (b,k2)->p D=false->False:=λid b k D k2 e E hp=>by
  have ae:=hr.scope D b k2 E;by_cases M:id<n
  ·rcases y.ids id M with F | F
   ·rw [F] at e;obtain ⟨L,e5⟩:=kau e;rw [hr.inj id D b k k2 e5 E] at L;rw [(J hp).1] at L; cases L
   ·rw [F] at e; cases e
  ·rcases y.new id b k e (Nat.le_of_not_lt M) with l | ⟨Z,k0,l⟩
   ·omega
   ·obtain ⟨L,e5⟩:=kau l;rw [hr.inj Z D b k0 k2 e5 E] at L;rw [(J hp).1] at L; cases L
 have hE2:Evo w μ n w' (λi=>if p i then U i else μ i) n':=by
  refine ⟨y.os,y.tape,y.output,y.size,aa,λb o hn=>y.keep b o λid k e=>hn id k (kau e).2,y.row,λid M=>?_,λid b k e hn=>?_⟩
  ·rcases jaz (p id) with hI' | hI'
   ·have e0:=H id hI';simp only at e0;rw [e0];have hIc:I.contains id=true:=by
     simp only [p,jat,jaj] at hI';rcases hI' with hI' | hI'
     ·exact hI'
     ·omega
    rcases y.ids id M with t | t
    ·rw [t]; left; unfold muI; rw [if_pos hIc]
    ·exact .inr t
   ·exact .inl (x id hI')
  ·rcases jaz (p id) with hI' | hI'
   ·rcases y.new id b k ((H id hI') ▸ e) hn with l | ⟨Z,k0,l⟩
    ·exact .inl l
    ·exact .inr ⟨Z,k0,(kau l).2⟩
   ·exact absurd (hr.scope id b k ((x id hI') ▸ e)).1 (by omega)
 have hH2:HR w' O (λi=>if p i then U i else μ i) (λi=>if p i then h' i else h i) n':=by
  refine ⟨λb o=>jan (hr.olt b o) y.size,λid b k e=>?_,λid m b k Q e e'=>?_,λid b k e=>?_,λid B hB=>?_⟩
  ·rcases jaz (p id) with hI' | hI'
   ·exact X.scope id b k ((H id hI') ▸ e)
   ·have:=hr.scope id b k ((x id hI') ▸ e);exact ⟨jan this.1 aa,jan this.2 y.size⟩
  ·rcases jaz (p id) with hI1 | hI1
   ·have t:U id=some (b,k):=(H id hI1) ▸ e;rcases jaz (p m) with hI2 | hI2
    ·exact X.inj id m b k Q t ((H m hI2) ▸ e')
    ·exact (W id b k m Q t ((x m hI2) ▸ e') hI2).elim
   ·have t:μ id=some (b,k):=(x id hI1) ▸ e;rcases jaz (p m) with hI2 | hI2
    ·exact (W m b Q id k ((H m hI2) ▸ e') t hI1).elim
    ·exact hr.inj id m b k Q t ((x m hI2) ▸ e')
  ·rcases jaz (p id) with hI' | hI'
   ·exact λhO=>X.notO id b k ((H id hI') ▸ e) (.inl hO)
   ·exact hr.notO id b k ((x id hI') ▸ e)
  ·rcases jaz (p id) with hI' | hI'
   ·simp only [hI',if_true] at hB;exact (X.blk id B hB).onF (o id B hB) (H id hI') (λi h=>⟨H i (hliveP i h).1,(hliveP i h).2⟩)
   ·simp only [hI',jai,if_false] at hB;refine (hr.blk id B hB).evo (x id hI') (λb k e=>y.keep b (hr.scope id b k e).2 λm Q e'=>?_) hE2;obtain ⟨t,E⟩:=kau e';rw [hr.inj _ _ _ _ _ e E] at hI';rw [(J hI').1] at t; cases t
 exact ⟨u,_,_,_,_,rfl,hk,hH2,q3.onF hv (λi h=>⟨H i (hliveP i h).1,(hliveP i h).2⟩),hE2⟩
end
section
variable {P:Yd} {κ κ' κ2:Nat->Yb Nat} {ln ln' ln2:Nat->Nat} {z z':AH} {c:Cx sem} {s:TS sem} {env:Env} {h h':AH} {n n' N N':Nat}
theorem Rel.cut {t:TS sem} {h2:AH} (R:Rel P κ ln ahN ⟨[],[]⟩ t env h n) (b:∀ id B q,thp (⟨[],[]⟩:Cx sem) t id=some B->Ow κ ln id B q->h2 q=h q) (hn:∀ q,n<=q->h2 q=none):Rel P κ ln ahN ⟨[],[]⟩ t env h2 n:=
 ⟨R.env,λid B hB=>(R.blk id B hB).mono (λ_ _=>rfl) (λ_ _=>rfl) (λ_ _ h=>h) (jag _) (R.lt id B hB) (λq e a hB'=>by rw [b id B q hB a]; exact hB'),R.lt,R.inj,λq B a=>(by cases a),R.zout,R.bnd,hn,R.e0,R.g,R.dy,λq k T es a=>(by cases a),R.fam⟩
theorem kdy {C:CtrM} {u:TS sem} (e:C.okU u=true) {id:Nat} {b:Yb (TB sem)} (l:alk u.hp id=some b):∃ B,b=some B/\id<C.n1/\B.all (λi=>(alk u.hp i).isSome) C.keptW=true/\C.kept id=true/\(B.needL=true->C.keptW id=true):=by
 unfold CtrM.okU at e;simp only [jac] at e;have:=jam.1 e.1 _ (kaD l);cases b with
 | none=>simp at this
 | some B=>
  simp only [jac,jat,jbd,jaj] at this;obtain ⟨⟨⟨k,h2⟩,j⟩,a⟩:=this;refine ⟨B,rfl,k,h2,j,λhn=>?_⟩;rcases a with a | a
  ·rw [hn] at a; cases a
  ·exact a
theorem ksI {C:CtrM} {u:TS sem} (a:C.okU u=true) {i:Nat} (hi:i<C.nr):∃ v,alk u.env (1000000+i)=some v/\v.all (λi=>(alk u.hp i).isSome) C.keptW=true:=by
 unfold CtrM.okU at a;simp only [jac] at a;have:=jam.1 a.2 i (jdl.2 hi);split at this
 ·rename_i v b; exact ⟨v,b,this⟩
 ·cases this
theorem kmk {t:TS sem} {x:Nat} {v:TV sem} (a:alk t.env x=some v):tlk c t x=v:=by unfold tlk; rw [a]
theorem krR:∀ (vs:Ya AV) (k i:Nat) (E:Env),k<=i->lk ((vs.zipIdx k).map (λx=>(1000000+x.2,x.1))++E) (1000000+i)=(vs[i-k]?).getD (lk E (1000000+i))
 | [],k,i,E,h=>by simp
 | v::vs,k,i,E,h=>by
  simp only [jbj,jap,jdp,lk];by_cases e:i=k
  ·subst e; simp
  ·rw [if_neg (by omega),krR vs (k+1) i E (by omega),show i-k=(i-(k+1))+1 by omega,jby]
theorem kzQ {C:CtrM} {y:C.out.ty.den} {args:Ya AV} (x:C.okU (kae (A:=sem) C.out C.n1 y)=true) {v:AV} {κ:Nat->Yb Nat} {ln:Nat->Nat} (H:kkP P C κ ln y args v h' n'):On (liveP h') v/\∀ i B,h' i=some B->OnB (liveP h') B:=by
 obtain ⟨κ3,ln3,vs,p,rfl,R,m,_⟩:=H;have hp:∀ i q,(alk (kae (A:=sem) C.out C.n1 y).hp i).isSome=true->κ3 i=some q->liveP h' q=true:=λi q hi K=>by
  obtain ⟨b,o⟩:=jao.1 hi;obtain ⟨B,rfl,_⟩:=kdy x o;have hB:=R.blk i B (kab (s:=offD (kae (A:=sem) C.out C.n1 y)) o);have:∃ AB,h' q=some AB:=by cases hB <;> simp_all
  obtain ⟨AB,l⟩:=this;unfold liveP; rw [l]; rfl
 have k:∀ i a,vs[i]?=some a->On (liveP h') a:=λi a hi=>by
  have w:i<C.nr:=by rw [<-p]; exact (jaf.1 hi).1
  obtain ⟨v,l,h2⟩:=ksI x w;have u:=R.env (1000000+i);have I:tlk (⟨[],[]⟩:Cx sem) (offD (kae (A:=sem) C.out C.n1 y)) (1000000+i)=v:=kmk (t:=offD (kae (A:=sem) C.out C.n1 y)) l;rw [I] at u;have G:lk (resE vs++kar args) (1000000+i)=a:=by
   have:=krR vs 0 i (kar args) (Nat.zero_le _);rw [Nat.sub_zero,hi] at this;exact this
  rw [G] at u;exact on_tv hp u h2
 refine ⟨?_,λi B hB=>?_⟩
 ·unfold tpA;split
  ·exact k 0 _ rfl
  ·exact .tp _ λj a D=>k j a D
 ·obtain ⟨id,b,l,h2⟩:=m i B hB;obtain ⟨J,e,_,E,_⟩:=kdy x l;cases e;have o:=R.blk id b (kab (s:=offD (kae (A:=sem) C.out C.n1 y)) l);refine on_br hp o E (λr F hr=>?_) h2 hB;cases b <;> simp only [TB.isF,jai] at F;obtain ⟨_,_,_,_,_,_,_,_,_,_,_,_,_,es,g1,_⟩:=o.row hr;unfold liveP; rw [g1]; rfl
end
section
variable {P:Yd} {κ κ' κ2:Nat->Yb Nat} {ln ln' ln2:Nat->Nat} {z z':AH} {c:Cx sem} {s:TS sem} {env:Env} {h h':AH} {n n' N N':Nat}
theorem khw:∀ (t:Ty) (x:t.den),t.flat=true->FlatL (t.enc x)
 | .i _,x,_ | .b,x,_ | .s,x,_=>by intro a e; simp [Ty.enc] at e; subst e; exact .sc _
 | .un,x,_=>by intro a e; simp [Ty.enc] at e
 | .w t,x,hf=>khw t x hf
 | .pr t u,x,hf=>by
  simp only [Ty.flat,jac] at hf;intro a e;replace e:a∈t.enc x.1++u.enc x.2:=e;rcases jaw.1 e with e | e
  ·exact khw t x.1 hf.1 a e
  ·exact khw u x.2 hf.2 a e
theorem kje (t:Ty) (x:t.den) (b:t.flat=true):Flat (t.av x):=by
 have a:=khw t x b;cases e:t.agg with
 | true=>rw [khb e]; exact (kAn _).2 a
 | false=>rw [khk e (kcY b)] at a; exact a _ (by simp)
theorem Snap.flat {a a':AV} (m:Snap z a a'):Flat a'->Flat a:=by
 induction m with
 | free a o=>exact id
 | nilS=>intro h; cases h
 | own=>intro h; cases h
 | ms=>intro h; cases h
 | fp=>intro h; cases h
 | sl=>intro h; cases h
 | fn=>intro h; cases h
 | ag cs e hl hr k=>
  intro h;cases h with
  | ag _ h=>
   refine .ag cs λj c i=>?_;obtain ⟨c',b⟩:=kah (l:=e) (l':=cs) hl.symm i;exact k j c c' i b (h j c' b)
 | tp cs e hl hr k=>
  intro h;cases h with
  | tp _ h=>
   refine .tp cs λj c i=>?_;obtain ⟨c',b⟩:=kah (l:=e) (l':=cs) hl.symm i;exact k j c c' i b (h j c' b)
mutual
theorem kyq {p:Nat->Bool} {f w:Nat->Bool} (hp:∀ i q,f i=true->κ i=some q->p q=true):∀ {v:TV sem} {a:AV},TVR P κ ln ahN N v a->v.all f w=true->v.flt=true->OnF p a
 | _,_,.un a,h,hf=>by simp [TV.all] at h
 | _,_,.ud,h,hf=>by simp [TV.flt] at hf
 | _,_,.gs t l,h,hf=>by simp [TV.flt] at hf
 | _,_,.yl id q hi hq,h,hf=>by simp [TV.flt] at hf
 | _,_,.kp id hi,h,hf=>by simp [TV.flt] at hf
 | _,_,.c t x a hd hs,h,hf=>.flat _ (hs.flat (kje t x (by simpa [TV.flt] using hf)))
 | _,_,.kb b,h,hf=>.flat _ (.sc _)
 | _,_,.sc v h1,h,hf=>.flat _ (.sc _)
 | _,_,.ptr id j q hi hk,h,hf=>.own _ _ _ (hp id q (by simpa [TV.all] using h) hk)
 | _,_,.adr id i j q hi hk h0 h1,h,hf=>.own _ _ _ (hp id q (by simp [TV.all] at h; exact h.1) hk)
 | _,_,.aa id i q hi hk h0 h1,h,hf=>.own _ _ _ (hp id q (by simp [TV.all] at h; exact h.1) hk)
 | _,_,.fq t x o a hd hs,h,hf=>by simp [TV.flt] at hf
 | _,_,.mw0 id hi hk,h,hf=>.flat _ (.sc _)
 | _,_,.mw id q hi hk,h,hf=>.ms _ _ _ (hp id q (by simp [TV.all] at h; exact h.1) hk)
 | _,_,.ms0 id off len hi hk ho hl,h,hf=>.flat _ (.sc _)
 | _,_,.ms id off len q hi hk h0 h1 h2,h,hf=>.ms _ _ _ (hp id q (by simp [TV.all] at h; exact h.1) hk)
 | _,_,.mp id q hi hk,h,hf=>.mp _ (hp id q (by simpa [TV.all] using h) hk)
 | _,_,.fw0 id hi hk,h,hf=>.flat _ (.sc _)
 | _,_,.fw id q hi hk,h,hf=>.ms _ _ _ (hp id q (by simp [TV.all] at h; exact h.1) hk)
 | _,_,.fr0 _ _ _ _ _ _,h,hf | _,_,.fr _ _ _ _ _ _ _,h,hf | _,_,.fa _ _ _ _ _ _ _ _ _ _ _,h,hf=>by simp [TV.all] at h
 | _,_,.fo id i j q hi hk h0 h1,h,hf=>.own _ _ _ (hp id q (by simp [TV.all] at h; exact h.1) hk)
 | _,_,.fn g vs as hs,h,hf=>.fn g as λj a e=>klR hp hs (by simpa [TV.all] using h) (by simpa [TV.flt] using hf) a (jak e)
 | _,_,.cv n x y F a hc,h,hf=>by simp [TV.flt] at hf
 | _,_,.tp vs as hs,h,hf=>.tp as λj a e=>klR hp hs (by simpa [TV.all] using h) (by simpa [TV.flt] using hf) a (jak e)
 | _,_,.ag vs as hs h1,h,hf=>.ag as λj a e=>klR hp hs (by simpa [TV.all] using h) (by simpa [TV.flt] using hf) a (jak e)
theorem klR {p:Nat->Bool} {f w:Nat->Bool} (hp:∀ i q,f i=true->κ i=some q->p q=true):∀ {vs:Ya (TV sem)} {as:Ya AV},TVRs P κ ln ahN N vs as->TV.all.allL f w vs=true->TV.flt.fltL vs=true->∀ a∈as,OnF p a
 | _,_,.nil,h,hf,a,ha=>by cases ha
 | _,_,.cons v a vs as hv hs,h,hf,b,e=>by
  simp only [TV.all.allL,jac] at h;simp only [TV.flt.fltL,jac] at hf;rcases jbq.1 e with rfl | e
  ·exact kyq hp hv h.1 hf.1
  ·exact klR hp hs h.2 hf.2 b e
end
theorem kjq:∀ t:Ty,t.dat=true->(cellF t).length=t.wd
 | .i _,_ | .b,_ | .s,_ | .un,_ | .sl _,_ | .pt _,_ | .op _,_=>rfl
 | .w x,h=>kjq x h
 | .pr x y,h=>by
  simp only [Ty.dat,jac] at h;simp only [cellF,jbh,Ty.wd];rw [kjq x h.1,kjq y h.2]
 | .ar n x,_=>by simp [cellF,Ty.wd]
theorem kjV:∀ (t:Ty) (x:t.den),t.dat=true->∀ (q k:Nat) (a:AV),(cellF t)[q]?=some k->(t.enc x)[q]?=some a->(k=0->Flat a)/\(k=1->∀ ys,a = .sl ys->∀ e∈ys,FlatL e)
 | .i _,x,_,q,k,a,h1,h2 | .b,x,_,q,k,a,h1,h2 | .s,x,_,q,k,a,h1,h2=>by
  cases q with
  | zero=>simp only [cellF,jdd,Option.some.injEq] at h1; simp [Ty.enc] at h2; subst h1; subst h2; exact ⟨λ_=>.sc _,λe=>(by cases e)⟩
  | succ q=>simp [cellF] at h1
 | .un,x,_,q,k,a,h1,h2=>by simp [cellF] at h1
 | .w t,x,h,q,k,a,h1,h2=>kjV t x h q k a h1 h2
 | .pr t u,x,h,q,k,a,h1,h2=>by
  simp only [Ty.dat,jac] at h;simp only [cellF] at h1;replace h2:(t.enc x.1++u.enc x.2)[q]?=some a:=h2;rw [jbm] at h1 h2;rw [kjq t h.1] at h1;rw [kag t x.1 h.1] at h2;split at h1
  ·rename_i j;rw [if_pos j] at h2;exact kjV t x.1 h.1 q k a h1 h2
  ·rename_i j;rw [if_neg j] at h2;exact kjV u x.2 h.2 _ k a h1 h2
 | .sl t,l,h,q,k,a,h1,h2=>by
  cases q with
  | succ q=>simp [cellF] at h1
  | zero=>
   simp only [cellF,jdd,Option.some.injEq] at h1;simp [Ty.enc] at h2;subst h1; subst h2;refine ⟨λe=>?_,λe ys m y p=>?_⟩
   ·split at e <;> cases e
   ·split at e
    ·rename_i o;cases m;obtain ⟨z,hz,rfl⟩:=jbb.1 p;exact khw t z o
    ·cases e
 | .pt t,x,h,q,k,a,h1,h2 | .op t,x,h,q,k,a,h1,h2=>by
  cases q with
  | succ q=>simp [cellF] at h1
  | zero=>
   simp only [cellF,jdd,Option.some.injEq] at h1;subst h1;exact ⟨λe=>(by cases e),λe=>(by cases e)⟩
 | .ar n t,x,h,q,k,a,h1,h2=>by
  simp only [cellF,jcd] at h1;split at h1
  ·cases h1;exact ⟨λe=>(by cases e),λe=>(by cases e)⟩
  ·cases h1
theorem kBh {p:Nat->Bool} {f w:Nat->Bool} {id q:Nat} {B:TB sem} {AB:ABlk} (hp:∀ i q,f i=true->κ i=some q->p q=true) (hb:BR P κ ln ahN h N id B) (Y:B.all f w=true) (E:B.flt=true) (ae:∀ r,B.isF=true->r∈kao (ln id)->p r=true) (H:Ow κ ln id B q) (K:h q=some AB):OnBF p AB:=by
 have X:∀ {t:Ty} {j:Nat},t.dat=true->((cellF t).zipIdx.all λx=>x.1==0||(x.1==1&&x.2==j))=true->∀ (x:t.den) (k:Nat) (a:AV),(t.enc x)[k]?=some a->(k≠j->Flat a)/\(k=j->∀ ys,a = .sl ys->∀ e∈ys,FlatL e):=λ{t j} F R x k a Y=>by
  have W:k<(cellF t).length:=by rw [kjq t F,<-kag t x F]; exact (jaf.1 Y).1
  have hg:(cellF t)[k]?=some ((cellF t)[k]):=jae W;have Q:=kjV t x F k _ a hg Y;have:=jam.1 R ((cellF t)[k],k) (jdt.2 (by simp));simp only [jat,beq_iff_eq,jac] at this;refine ⟨λaf=>?_,λD ys S e ab=>?_⟩
  ·rcases this with h | ⟨_,h⟩
   ·exact Q.1 h
   ·exact absurd h af
  ·rcases this with h | ⟨h,_⟩
   ·have:=Q.1 h; rw [S] at this; cases this
   ·exact Q.2 h ys S e ab
 have ad:=hb;rcases H with H | ⟨hf,hr⟩
 case inr=>
  cases B <;> simp only [TB.isF,jai] at hf;rename_i T t jj U u l ho;have F:t.dat=true:=by cases ad <;> assumption
  obtain ⟨i,m,x,e,_,_,_,_,_,ys,g3,_,_,es,g1,g2,_⟩:=hb.row hr;rw [g1] at K; cases K;intro e D a C;obtain ⟨i,hi⟩:=jbf.1 D;obtain ⟨e',G⟩:=kah (l:=ys) (l':=es) g2.1.symm hi;have aa:=g2.2 i e e' hi G;obtain ⟨j,L⟩:=jbf.1 C;obtain ⟨c',A⟩:=kah (l:=e') (l':=e) aa.len.symm L;exact .flat _ ((aa.at j a c' L A).flat ((X F (by simpa [TB.flt] using E) x jj _ g3).2 rfl ys rfl e' (jak G) c' (jak A)))
 cases hb with
 | bx T vs q' as b o J h1=>
  rw [H] at b; cases b; rw [K] at o; cases o;intro e D a C;simp at D; subst D;exact klR hp J (by simpa [TB.all] using Y) (by simpa [TB.flt] using E) a C
 | el T t x q' cs F b o J h1 hl=>
  rw [H] at b; cases b; rw [K] at o; cases o;intro e D a C;simp at D; subst D;obtain ⟨j,L⟩:=jbf.1 C;obtain ⟨c',A⟩:=kah (l:=t.enc x) (l':=e) J.len.symm L;exact .flat _ ((J.at j a c' L A).flat (khw t x (by simpa [TB.flt] using E) c' (jak A)))
 | sl0 T t l F b hl hn=>rw [H] at b; cases b
 | sl T t l q' es F b o J h1 hn=>
  rw [H] at b; cases b; rw [K] at o; cases o;intro e D a C;obtain ⟨i,hi⟩:=jbf.1 D;obtain ⟨e',G⟩:=kah (l:=l.map t.enc) (l':=es) J.1.symm hi;have hs:=J.2 i e e' hi G;obtain ⟨j,L⟩:=jbf.1 C;obtain ⟨c',A⟩:=kah (l:=e') (l':=e) hs.len.symm L;obtain ⟨y,hy,rfl⟩:=jbb.1 (jak G);exact .flat _ ((hs.at j a c' L A).flat (khw t y (by simpa [TB.flt] using E) c' (jak A)))
 | mp k v l q' ah hf b o=>
  rw [H] at b; cases b; rw [K] at o; cases o;intro x hx;obtain ⟨y,hy,rfl⟩:=jbb.1 hx;exact .flat _ (kje _ _ hf)
 | si x q' b h0 o=>rw [H] at b; cases b; rw [K] at o; cases o; trivial
 | fm0 T t j U u l ho F b hl hn=>rw [H] at b; cases b
 | fm T t j U u l ho q' es F b o hn ai J h0 h1=>
  rw [H] at b; cases b; rw [K] at o; cases o;have ac:ho=none:=by simpa [TB.all] using Y
  subst ac;intro e D a C;obtain ⟨i,hi⟩:=jbf.1 D;have W:=(jaf.1 hi).1;have hx:l[i]?=some (l[i]'(by omega)):=jae _;have M:(kad (ln id))[i]?=some ((kad (ln id))[i]'(by omega)):=jae _;obtain ⟨g1,g2,ys,g3,g4,g5⟩:=J i _ e _ hx hi M (by simp);obtain ⟨k,I⟩:=jbf.1 C;by_cases O:k=j
  ·subst O;generalize (kad (ln id))[i]'(by omega)=rm at g5 M;obtain ⟨r,m⟩:=rm;cases r with
   | none=>obtain ⟨Z,_⟩:=g5; rw [I] at Z; cases Z; exact .flat _ (.sc _)
   | some r=>obtain ⟨Z,_⟩:=g5; rw [I] at Z; cases Z; exact .ms _ _ _ (ae r rfl (kaK M))
  ·obtain ⟨c',A⟩:=kah (l:=t.enc (l[i]'(by omega))) (l':=e) g1 I;exact .flat _ ((g2 k a c' O I A).flat ((X F (by simpa [TB.flt] using E) _ k c' A).1 O))
theorem kAR {C:CtrM} {u:TS sem} (a:C.okF u=true) {id:Nat} {B:TB sem} (b:alk u.hp id=some (some B)):B.flt=true:=by
 unfold CtrM.okF at a;simp only [jac] at a;exact jam.1 a.1 _ (kaD b)
theorem kAS {C:CtrM} {u:TS sem} (a:C.okF u=true) {i:Nat} (hi:i<C.nr) {v:TV sem} (b:alk u.env (1000000+i)=some v):v.flt=true:=by
 unfold CtrM.okF at a;simp only [jac] at a;have:=jam.1 a.2 i (jdl.2 hi);rw [b] at this; exact this
theorem kyE {C:CtrM} {y:C.out.ty.den} {args:Ya AV} (D:C.okU (kae (A:=sem) C.out C.n1 y)=true) (o:C.okF (kae (A:=sem) C.out C.n1 y)=true) {v:AV} {κ:Nat->Yb Nat} {ln:Nat->Nat} (I:kkP P C κ ln y args v h' n'):OnF (liveP h') v/\∀ i B,h' i=some B->OnBF (liveP h') B:=by
 obtain ⟨κ3,ln3,vs,w,rfl,R,m,_⟩:=I;have hp:∀ i q,(alk (kae (A:=sem) C.out C.n1 y).hp i).isSome=true->κ3 i=some q->liveP h' q=true:=λi q hi L=>by
  obtain ⟨b,u⟩:=jao.1 hi;obtain ⟨B,rfl,_⟩:=kdy D u;have hB:=R.blk i B (kab (s:=offD (kae (A:=sem) C.out C.n1 y)) u);have:∃ AB,h' q=some AB:=by cases hB <;> simp_all
  obtain ⟨AB,l⟩:=this;unfold liveP; rw [l]; rfl
 have k:∀ i a,vs[i]?=some a->OnF (liveP h') a:=λi a hi=>by
  have p:i<C.nr:=by rw [<-w]; exact (jaf.1 hi).1
  obtain ⟨v,l,h2⟩:=ksI D p;have x:=R.env (1000000+i);have J:tlk (⟨[],[]⟩:Cx sem) (offD (kae (A:=sem) C.out C.n1 y)) (1000000+i)=v:=kmk (t:=offD (kae (A:=sem) C.out C.n1 y)) l;rw [J] at x;have H:lk (resE vs++kar args) (1000000+i)=a:=by
   have:=krR vs 0 i (kar args) (Nat.zero_le _);rw [Nat.sub_zero,hi] at this;exact this
  rw [H] at x;exact kyq hp x h2 (kAS o p l)
 refine ⟨?_,λi B hB=>?_⟩
 ·unfold tpA;split
  ·exact k 0 _ rfl
  ·exact .tp _ λj a E=>k j a E
 ·obtain ⟨id,b,l,h2⟩:=m i B hB;obtain ⟨K,e,_,F,_⟩:=kdy D l;cases e;have u:=R.blk id b (kab (s:=offD (kae (A:=sem) C.out C.n1 y)) l);refine kBh hp u F (kAR o l) (λr G hr=>?_) h2 hB;cases b <;> simp only [TB.isF,jai] at G;obtain ⟨_,_,_,_,_,_,_,_,_,_,_,_,_,es,g1,_⟩:=u.row hr;unfold liveP; rw [g1]; rfl
theorem HC.frm4 {f:FuncId} {args b:Ya AV} {h hE hL:AH} {n:Nat} {R K:K3} (I:Ya Nat) (hLs:∀ i B,hL i=some B->h i=some B/\I.contains i=false) (e:b.length=args.length) (l:∀ (j:Nat) (a a':AV),args[j]?=some a->b[j]?=some a'->a'=a\/Snap hL a a') (hi:∀ i B,hE i=some B->I.contains i=true/\h i=some B) (hI:∀ i,I.contains i=true->i<n) (hn:∀ i,n<=i->h i=none)
  (hR:∀ v h' n',R v h' n'->On (liveP h') v/\∀ i B,h' i=some B->OnB (liveP h') B) (hF:hL=ahN\/∀ v h' n',R v h' n'->OnF (liveP h') v/\∀ i B,h' i=some B->OnBF (liveP h') B)
  (k:HC P f b hE n R) (m:∀ v h' n',R v h' n'->n<=n'->(∀ i B,h' i=some B->I.contains i=true\/(n<=i/\i<n'))->K v (λi=>if I.contains i||decide (n<=i) then h' i else h i) n'):HC P f args h n K:=by
 rcases hF with rfl | hF
 ·exact (HC.frm2 I hi hI hn hR k m).up e l
 ·exact HC.frm3 I hLs e l hi hI hn hF k m
end
section
variable {P:Yd} {κ κ' κ2 κ3:Nat->Yb Nat} {ln ln' ln2 ln3:Nat->Nat} {z z':AH} {c:Cx sem} {s:TS sem} {env env3:Env} {h h' h2:AH} {n n' n2 N N':Nat}
theorem kqQ {α:Type}:∀ (l:Ya (Nat×Nat)) (q:Nat),alk (l.map λx=>(x.2,(none:Yb α))) q=if l.any (λx=>x.2==q) then some none else none
 | [],q=>rfl
 | x::l,q=>by
  simp only [jap,alk];by_cases e:q=x.2
  ·subst e; simp
  ·have h2:(x.2==q)=false:=by simp; exact λh=>e h.symm
   have a:(x::l).any (λx=>x.2==q)=l.any (λx=>x.2==q):=by rw [jdq,h2,jcn]
   rw [if_neg e,kqQ l q,a]
theorem TVR.ptr_inv {id j:Nat} {a:AV} (h:TVR P κ ln z N (.ptr id j) a):∃ q,κ id=some q/\a = .own q 0 j:=by cases h; exact ⟨_,by assumption,rfl⟩
theorem TVR.mp_inv {id:Nat} {a:AV} (h:TVR P κ ln z N (.mp id) a):∃ q,κ id=some q/\a = .mp q:=by cases h; exact ⟨_,by assumption,rfl⟩
theorem TVR.mw_same {id i:Nat} {a:AV} (h:TVR P κ ln z N (.mw id) a) (h':TVR P κ' ln' z' N' (.mw i) a):κ id = κ' i/\(κ id≠none->ln id=ln' i):=by
 cases h with
 | mw0 _ hi k=>
  generalize hn:nilS=a at h';cases h' with
  | mw0 _ j b=>exact ⟨k.trans b.symm,λe=>absurd k e⟩
  | mw _ q j b=>cases hn
 | mw _ q hi k=>
  generalize hn:AV.ms q 0 (ln id)=a at h';cases h' with
  | mw0 _ j b=>cases hn
  | mw _ l j b=>injection hn with e1 _ e2; subst e1; exact ⟨k.trans b.symm,λ_=>e2⟩
theorem kzd {C:CtrM} {as:Ya AV} {u t:TS sem} (T:Rel P κ2 ln2 ahN ⟨[],[]⟩ t (kar as) h n) (S:Rel P κ3 ln3 ahN ⟨[],[]⟩ u env3 h2 n2) (m:∀ i,i<C.ks.length->lk env3 i=lk (kar as) i)
  (G:∀ i J,alk C.inp.env i=some J->∀ v,(∀ xs:Ya ((t:Ty)×sem.D t),(unV (A:=sem) J xs).1=v)->tlk (⟨[],[]⟩:Cx sem) t i=v) (l:∀ i J,alk C.out.env i=some J->∀ v,(∀ xs:Ya ((t:Ty)×sem.D t),(unV (A:=sem) J xs).1=v)->tlk (⟨[],[]⟩:Cx sem) u i=v)
  (o:∀ p∈C.inn,κ3 p = κ2 p/\ln3 p=ln2 p) {p:Nat} (hp:p<C.n0):(C.kept p=true->(alk C.inp.hp p).isSome=true/\κ3 p = κ2 p)/\(C.keptW p=true->κ2 p≠none->ln3 p=ln2 p):=by
 have sw:∀ p,C.slot sameW p=true->(alk C.inp.hp p).isSome=true/\κ3 p = κ2 p/\(κ2 p≠none->ln3 p=ln2 p):=λp w=>by
  unfold CtrM.slot at w;rw [jac] at w;obtain ⟨y,U,j⟩:=jbt.1 w.2;rw [jac,jaj] at j;obtain ⟨B,j⟩:=j;split at j
  ·rename_i a b M O;cases a <;> cases b <;> simp only [sameW,jac,beq_iff_eq,jai] at j;obtain ⟨rfl,rfl⟩:=j;have H:=T.env y.1;have F:=S.env y.1;rw [G _ _ M (.mw _) (λxs=>rfl)] at H;rw [l _ _ O (.mw _) (λxs=>rfl),m _ B] at F;obtain ⟨k1,k2⟩:=H.mw_same F;exact ⟨w.1,k1.symm,λk=>(k2 k).symm⟩
  ·cases j
 have Y:∀ p,C.slot kvA p=true->(alk C.inp.hp p).isSome=true/\κ3 p = κ2 p:=λp w=>by
  unfold CtrM.slot at w;rw [jac] at w;obtain ⟨y,U,j⟩:=jbt.1 w.2;rw [jac,jaj] at j;obtain ⟨B,j⟩:=j;split at j
  ·rename_i a b M O;have H:=T.env y.1;have F:=S.env y.1;cases a <;> cases b <;> simp only [kvA,jac,beq_iff_eq,jai] at j
   ·obtain ⟨⟨rfl,rfl⟩,rfl⟩:=j;rw [G _ _ M (.ptr _ _) (λxs=>rfl)] at H;rw [l _ _ O (.ptr _ _) (λxs=>rfl),m _ B] at F;obtain ⟨W,k1,k2⟩:=H.ptr_inv;obtain ⟨Z,k3,K⟩:=F.ptr_inv;rw [k2] at K; cases K;exact ⟨w.1,k3.trans k1.symm⟩
   ·obtain ⟨rfl,rfl⟩:=j;rw [G _ _ M (.mp _) (λxs=>rfl)] at H;rw [l _ _ O (.mp _) (λxs=>rfl),m _ B] at F;obtain ⟨W,k1,k2⟩:=H.mp_inv;obtain ⟨Z,k3,K⟩:=F.mp_inv;rw [k2] at K; cases K;exact ⟨w.1,k3.trans k1.symm⟩
  ·cases j
 have R:C.keptW p=true->C.slot sameW p=true\/p∈C.inn:=λk=>by
  unfold CtrM.keptW at k;simp only [jat,jaj] at k;rcases k with (k | k) | k
  ·omega
  ·exact .inl k
  ·exact .inr (jbu.1 k)
 have hi:∀ p∈C.inn,(alk C.inp.hp p).isSome=true:=λp I=>by
  unfold CtrM.inn at I;obtain ⟨x,E,rfl⟩:=jbb.1 I;have E:=(jeb.1 E).1;generalize C.inp.hp=L at E;induction L with
  | nil=>cases E
  | cons y L X=>
   simp only [alk];split
   ·rfl
   ·rename_i e;rcases jbq.1 E with rfl | E
    ·exact absurd rfl e
    ·exact X E
 refine ⟨λk=>?_,λk Q=>(R k).elim (λh=>(sw p h).2.2 Q) λh=>(o p h).2⟩;unfold CtrM.kept at k;rw [jat,jat] at k;rcases k with (k | k) | k
 ·exact (R k).elim (λh=>⟨(sw p h).1,(sw p h).2.1⟩) λh=>⟨hi p h,(o p h).1⟩
 ·exact Y p k
 ·have I:=jbu.1 k;exact ⟨hi p I,(o p I).1⟩
end
section
variable {P:Yd} {κ κ3:Nat->Yb Nat} {ln ln3:Nat->Nat} {c:Cx sem} {s:TS sem} {env env3:Env} {h h' h2:AH} {n n2:Nat}
mutual
theorem ktT:∀ {v:TV sem} {i:Nat},v.hasW i=true->v.has i=true
 | .adr j _ _,i,hi | .aa j _,i,hi | .mw j,i,hi | .ms j _ _,i,hi | .fw j,i,hi | .fr j _,i,hi | .fo j _ _,i,hi | .fa j _ _ _,i,hi=>by simpa [TV.hasW,TV.has] using hi
 | .fn _ vs,i,hi | .tp vs,i,hi | .ag vs,i,hi=>by have:=koT (vs:=vs) (i:=i) (by simpa [TV.hasW] using hi); simpa [TV.has] using this
 | .un,i,hi | .ptr _ _,i,hi | .mp _,i,hi | .ud,i,hi | .c _ _,i,hi | .kb _,i,hi | .sc _,i,hi | .fq _ _ _,i,hi | .cv _ _ _ _,i,hi=>by simp [TV.hasW] at hi
theorem koT:∀ {vs:Ya (TV sem)} {i:Nat},TV.hasW.hasL i vs=true->TV.has.hasL i vs=true
 | [],i,hi=>by simp [TV.hasW.hasL] at hi
 | v::vs,i,hi=>by
  simp only [TV.hasW.hasL,jat] at hi;simp only [TV.has.hasL,jat];rcases hi with hi | hi
  ·exact .inl (ktT hi)
  ·exact .inr (koT hi)
end
def kapM (C:CtrM) (s:TS sem) (κ κ3:Nat->Yb Nat):Nat->Yb Nat:=λid=>if id<s.n then κ id else κ3 (id-s.n+C.n0)
def lenM (C:CtrM) (s:TS sem) (ln ln3:Nat->Nat):Nat->Nat:=λid=>if id<s.n then ln id else ln3 (id-s.n+C.n0)
theorem kif {C:CtrM} {u:TS sem} {ids:Ya (Nat×Nat)} (R:Rel P κ ln ahN c s env h n) (ag:∀ p,p<C.n0->C.kept p=true->(alk u.hp p).isSome=true->∃ q,alk ids p=some q/\κ3 p = κ q/\(C.keptW p=true->ln3 p=ln q)) (b:∀ x∈ids,∃ B,alk s.hp x.2=some (some B)) {p:Nat} (o:C.kept p=true) (t:p<C.n1) (m:(alk u.hp p).isSome=true) :
  kapM C s κ κ3 (renC C ids s.n p) = κ3 p/\renC C ids s.n p<s.n+(C.n1-C.n0)/\(C.keptW p=true->lenM C s ln ln3 (renC C ids s.n p)=ln3 p)/\(renC C ids s.n p<s.n->∃ x∈ids,x.2=renC C ids s.n p):=by
 unfold renC;by_cases hp:p<C.n0
 ·rw [if_pos hp];obtain ⟨q,a,l,j⟩:=ag p hp o m;rw [a,jcb];obtain ⟨B,hB⟩:=b _ (kaD a);have i:q<s.n:=R.lt q B (kab hB);refine ⟨by unfold kapM; rw [if_pos i]; exact l.symm,by omega,λk=>by unfold lenM; rw [if_pos i]; exact (j k).symm,λ_=>⟨_,kaD a,rfl⟩⟩
 ·rw [if_neg hp];have e:s.n+(p-C.n0)-s.n+C.n0=p:=by omega
  refine ⟨by unfold kapM; rw [if_neg (by omega),e],by omega,λ_=>by unfold lenM; rw [if_neg (by omega),e],λh=>by omega⟩
theorem kyv {C:CtrM} {ids:Ya (Nat×Nat)} {u:TS sem} (R:Rel P κ ln ahN c s env h n) (X:C.okU u=true) (Y:Rel P κ3 ln3 ahN ⟨[],[]⟩ (offD u) env3 h2 n2) (hn:n<=n2)
  (ag:∀ p,p<C.n0->C.kept p=true->(alk u.hp p).isSome=true->∃ q,alk ids p=some q/\κ3 p = κ q/\(C.keptW p=true->ln3 p=ln q)) (D:∀ x∈ids,∃ B,alk s.hp x.2=some (some B))
  (U:∀ i B,h2 i=some B->(∃ x∈ids,i∈ows κ ln c s x.2)\/n<=i) (aa:∀ i,(∃ x∈ids,i∈ows κ ln c s x.2)\/n<=i->h' i=h2 i) (ad:∀ i,i<n->¬ (∃ x∈ids,i∈ows κ ln c s x.2)->h' i=h i) :
  Rel P (kapM C s κ κ3) (lenM C s ln ln3) ahN c (khh C s u ids) env h' n2:=by
 have o:∀ id,id<s.n->kapM C s κ κ3 id = κ id:=λid hi=>by unfold kapM; rw [if_pos hi]
 have F:∀ id,id<s.n->lenM C s ln ln3 id=ln id:=λid hi=>by unfold lenM; rw [if_pos hi]
 have hN:s.n<=(khh C s u ids).n:=Nat.le_add_right _ _;have a:∀ id B,thp c (khh C s u ids) id=some B->(∃ p l,alk u.hp p=some (some l)/\renC C ids s.n p=id/\B=renB (renC C ids s.n) l)\/(thp c s id=some B/\∀ x∈ids,x.2≠id):=λid B hB=>by
  unfold thp at hB;simp only [khh,kbF] at hB;cases v:alk (u.hp.map λx=>(renC C ids s.n x.1,x.2.map (renB (renC C ids s.n)))) id with
  | some b=>
   rw [v] at hB;obtain ⟨p,b0,k1,k2,k3⟩:=kjH (renC C ids s.n) (λb:Yb (TB sem)=>b.map (renB (renC C ids s.n))) u.hp v;obtain ⟨l,rfl,_⟩:=kdy X k1;refine .inl ⟨p,l,k1,k2,?_⟩;subst k3;simp at hB;exact hB.symm
  | none=>
   rw [v] at hB;simp only [kqQ] at hB;by_cases ha:ids.any (λx=>x.2==id)=true
   ·rw [if_pos ha] at hB; cases hB
   ·rw [if_neg ha] at hB;refine .inr ⟨hB,λx M e=>ha (jbt.2 ⟨x,M,by simp [e]⟩)⟩
 have m:∀ {p l},alk u.hp p=some (some l)->thp (⟨[],[]⟩:Cx sem) (offD u) p=some l:=λh=>kab (s:=offD u) h;have old:∀ {id B q},thp c s id=some B->(∀ x∈ids,x.2≠id)->Ow κ ln id B q->¬ (∃ x∈ids,q∈ows κ ln c s x.2)/\q<n:=λ{id B q} hB M w=>by
  refine ⟨λ⟨x,ac,ae⟩=>?_,R.owN hB w⟩;obtain ⟨t,hB'⟩:=D x ac;exact M x ac (R.owI (kab hB') hB (kdC (kab hB') ae) w)
 have new:∀ {p l q},alk u.hp p=some (some l)->Ow κ3 ln3 p l q->((∃ x∈ids,q∈ows κ ln c s x.2)\/n<=q)/\∃ AB,h2 q=some AB:=λ{p l q} hB w=>by
  have J:=Y.blk p l (m hB);have:∃ AB,h2 q=some AB:=by
   rcases w with w | ⟨O,hr⟩
   ·cases J <;> simp_all
   ·cases l <;> simp only [TB.isF,jai] at O;obtain ⟨_,_,_,_,_,_,_,_,_,_,_,_,_,es,g1,_⟩:=J.row hr;exact ⟨_,g1⟩
  obtain ⟨AB,G⟩:=this;exact ⟨U q AB G,AB,G⟩
 have H:∀ {p l},alk u.hp p=some (some l)->kapM C s κ κ3 (renC C ids s.n p) = κ3 p:=λ{p l} hB=>by
  obtain ⟨t,e,k1,k2,k3,k4⟩:=kdy X hB;exact (kif (ln:=ln) (ln3:=ln3) R ag D k3 k1 (by rw [hB]; rfl)).1
 refine ⟨λx=>?_,λid B hB=>?_,λid B hB=>?_,λi j B t q hi L ki S=>?_,λq B G=>(by cases G),λid B q hB w=>rfl,λid B q hB w=>?_,λq G=>?_,R.e0,λid b J=>?_,λ_=>rfl,λq k T es G=>(by cases G),λid B hB O=>?_⟩
 ·exact (R.env x).mono o F (λ_ _ h=>h) hN
 ·rcases a id B hB with ⟨p,l,k1,rfl,rfl⟩ | ⟨k1,k2⟩
  ·obtain ⟨t,e,j1,j2,j3,j4⟩:=kdy X k1;cases e;have J:=Y.blk p l (m k1);have mem:∀ i,(alk u.hp i).isSome=true->C.kept i=true/\i<C.n1:=λi hi=>by
    obtain ⟨b,J⟩:=jao.1 hi;obtain ⟨t,_,m1,_,m3,_⟩:=kdy X J;exact ⟨m3,m1⟩
   have hasB:∀ i,l.has i=true->(alk u.hp i).isSome=true:=λi hi=>by
    cases l with
    | bx T vs=>exact kqJ (by simpa [TB.all] using j2) i (by simpa [TB.has] using hi)
    | _=>simp [TB.has] at hi
   have hasWB:∀ i,l.hasW i=true->C.keptW i=true/\(alk u.hp i).isSome=true:=λi hi=>by
    cases l with
    | bx T vs=>
     refine ⟨koG (by simpa [TB.all] using j2) i (by simpa [TB.hasW] using hi),?_⟩;exact hasB i (by have:=koT (vs:=vs) (i:=i) (by simpa [TB.hasW] using hi); simpa [TB.has] using this)
    | _=>simp [TB.hasW] at hi
   have A:=kif (ln:=ln) (ln3:=ln3) R ag D j3 j1 (by rw [k1]; rfl);refine BR.ren J (λ_ _ h=>h) (λq AB G hAB=>by rw [aa q (new k1 G).1]; exact hAB) A.1 (λhw=>A.2.2.1 (j4 hw)) (λi hi=>?_) (λi hi=>?_)
   ·have:=mem i (hasB i hi);have A2:=kif (ln:=ln) (ln3:=ln3) R ag D this.1 this.2 (hasB i hi);exact ⟨A2.1,A2.2.1⟩
   ·obtain ⟨w1,w2⟩:=hasWB i hi;have:=mem i w2;exact (kif (ln:=ln) (ln3:=ln3) R ag D this.1 this.2 w2).2.2.1 w1
  ·exact (R.blk id B k1).mono o F (λ_ _ h=>h) hN (R.lt id B k1) λq AB G hAB=>by
    obtain ⟨I,Z⟩:=old k1 k2 G;rw [ad q Z I]; exact hAB
 ·rcases a id B hB with ⟨p,l,k1,rfl,rfl⟩ | ⟨k1,k2⟩
  ·obtain ⟨t,e,j1,j2,j3,j4⟩:=kdy X k1;exact (kif (ln:=ln) (ln3:=ln3) R ag D j3 j1 (by rw [k1]; rfl)).2.1
  ·exact jan (R.lt id B k1) hN
 ·rcases a i B hi with ⟨p,l,k1,rfl,rfl⟩ | ⟨k1,k2⟩
  ·rw [H k1] at ki;rcases a j t L with ⟨Q,K,l1,rfl,rfl⟩ | ⟨l1,l2⟩
   ·rw [H l1] at S;have:=Y.inj p Q _ _ q (m k1) (m l1) ki S;rw [this]
   ·rw [o j (R.lt j t l1)] at S;obtain ⟨I,Z⟩:=old l1 l2 (.inl S);rcases (new k1 (.inl ki)).1 with v | v
    ·exact absurd v I
    ·omega
  ·rw [o i (R.lt i B k1)] at ki;rcases a j t L with ⟨Q,K,l1,rfl,rfl⟩ | ⟨l1,l2⟩
   ·rw [H l1] at S;obtain ⟨I,Z⟩:=old k1 k2 (.inl ki);rcases (new l1 (.inl S)).1 with v | v
    ·exact absurd v I
    ·omega
   ·rw [o j (R.lt j t l1)] at S;exact R.inj i j _ _ q k1 l1 ki S
 ·rcases a id B hB with ⟨p,l,k1,rfl,rfl⟩ | ⟨k1,k2⟩
  ·rw [H k1] at w;exact Y.bnd p l q (m k1) w
  ·rw [o id (R.lt id B k1)] at w;exact jan (R.bnd id B q k1 w) hn
 ·rw [aa q (.inr (jda hn G))];exact Y.hn q G
 ·simp only [khh,kbF] at J;have ownG:∀ x∈ids,alk c.g x.2=none:=λx M=>by obtain ⟨B,hB⟩:=D x M; exact R.g _ _ hB
  cases v:alk (u.hp.map λx=>(renC C ids s.n x.1,x.2.map (renB (renC C ids s.n)))) id with
  | some b1=>
   obtain ⟨p,b0,k1,k2,k3⟩:=kjH (renC C ids s.n) (λb:Yb (TB sem)=>b.map (renB (renC C ids s.n))) u.hp v;obtain ⟨l,rfl,j1,j2,j3,j4⟩:=kdy X k1;have A:=kif (ln:=ln) (ln3:=ln3) R ag D j3 j1 (by rw [k1]; rfl);subst k2;by_cases ab:renC C ids s.n p<s.n
   ·obtain ⟨x,M,e⟩:=A.2.2.2 ab;rw [<-e]; exact ownG x M
   ·cases hg:alk c.g (renC C ids s.n p) with
    | none=>rfl
    | some B=>exact absurd (R.lt _ B (R.g_thp hg)) ab
  | none=>
   rw [v] at J;simp only [kqQ] at J;by_cases ha:ids.any (λx=>x.2==id)=true
   ·obtain ⟨x,M,e⟩:=jbt.1 ha;rw [show id=x.2 from (by simpa using e:x.2=id).symm];exact ownG x M
   ·rw [if_neg ha] at J;exact R.g id b J
 ·have renF:∀ {f:Nat->Nat} {B:TB sem},(renB f B).isF=B.isF:=λ{f B}=>by cases B <;> rfl
  have W:∀ {p l},alk u.hp p=some (some l)->l.isF=true->lenM C s ln ln3 (renC C ids s.n p)=ln3 p:=λ{p l} hB O=>by
   obtain ⟨t,e,k1,k2,k3,k4⟩:=kdy X hB;cases e;exact (kif (ln:=ln) (ln3:=ln3) R ag D k3 k1 (by rw [hB]; rfl)).2.2.1 (k4 (by cases l <;> simp_all [TB.isF,TB.needL]))
  rcases a id B hB with ⟨p,l,k1,rfl,rfl⟩ | ⟨k1,k2⟩
  ·rw [renF] at O;obtain ⟨f1,f2⟩:=Y.fam p l (m k1) O;rw [W k1 O];refine ⟨f1,λr hr=>?_⟩;obtain ⟨g1,g2,g3,g4⟩:=f2 r hr;have nw:=(new k1 (.inr ⟨O,hr⟩)).1;refine ⟨g1,rfl,λj t L w=>?_,λj t L y E=>?_⟩
   ·rcases a j t L with ⟨Q,K,l1,rfl,rfl⟩ | ⟨l1,l2⟩
    ·rw [H l1] at w; exact g3 Q _ (m l1) w
    ·rw [o j (R.lt j t l1)] at w;obtain ⟨I,Z⟩:=old l1 l2 (.inl w);rcases nw with v | v
     ·exact I v
     ·omega
   ·rcases a j t L with ⟨Q,K,l1,rfl,rfl⟩ | ⟨l1,l2⟩
    ·rw [renF] at y;rw [W l1 y] at E;rw [g4 Q _ (m l1) y E]
    ·rw [F j (R.lt j t l1)] at E;obtain ⟨I,Z⟩:=old l1 l2 (.inr ⟨y,E⟩);rcases nw with v | v
     ·exact absurd v I
     ·omega
  ·obtain ⟨f1,f2⟩:=R.fam id B k1 O;rw [F id (R.lt id B k1)];refine ⟨f1,λr hr=>?_⟩;obtain ⟨g1,g2,g3,g4⟩:=f2 r hr;obtain ⟨I,Z⟩:=old k1 k2 (.inr ⟨O,hr⟩);refine ⟨by omega,rfl,λj t L w=>?_,λj t L y E=>?_⟩
   ·rcases a j t L with ⟨Q,K,l1,rfl,rfl⟩ | ⟨l1,l2⟩
    ·rw [H l1] at w;rcases (new l1 (.inl w)).1 with v | v
     ·exact I v
     ·omega
    ·rw [o j (R.lt j t l1)] at w; exact g3 j t l1 w
   ·rcases a j t L with ⟨Q,K,l1,rfl,rfl⟩ | ⟨l1,l2⟩
    ·rw [renF] at y;rw [W l1 y] at E;rcases (new l1 (.inr ⟨y,E⟩)).1 with v | v
     ·exact absurd v I
     ·omega
    ·rw [F j (R.lt j t l1)] at E; exact g4 j t l1 y E
end
section
variable {P:Yd} {κ:Nat->Yb Nat} {ln:Nat->Nat} {z:AH} {c:Cx sem} {s:TS sem} {env:Env} {h:AH} {n:Nat}
theorem BR.nil_ln {N id:Nat} {B:TB sem} (a:BR P κ ln z h N id B) (b:κ id=none):ln id=0:=by
 cases a <;> simp_all
theorem AL.length {l:Ya ((t:Ty)×t.den)} {as:Ya AV} (h:AL P l as):as.length=l.length:=by induction h <;> simp [*]
theorem kwV {N:Nat}:∀ {vs:Ya (TV sem)} {as:Ya AV},vs.length=as.length->(∀ (i:Nat) v a,vs[i]?=some v->as[i]?=some a->TVR P κ ln z N v a)->TVRs P κ ln z N vs as
 | [],[],_,_=>.nil
 | [],_::_,h,_=>by simp at h
 | _::_,[],h,_=>by simp at h
 | v::vs,a::as,h,hv=>.cons _ _ _ _ (hv 0 v a rfl rfl) (kwV (by simpa using h) λi v a b h2=>hv (i+1) v a (by simpa using b) (by simpa using h2))
theorem kBf {N:Nat} {C:CtrM} {u:TS sem} {f:Nat->Nat} {as:Ya AV} (h:TVRs P κ ln z N ((List.range C.nr).map λi=>renV f ((alk u.env (1000000+i)).getD .un)) as):TVR P κ ln z N (resT C u f) (tpA as):=by
 unfold resT;generalize (List.range C.nr).map (λi=>renV f ((alk u.env (1000000+i)).getD .un))=l at h;cases h with
 | nil=>exact .tp _ _ .nil
 | cons v a vs as h e=>cases e with
  | nil=>exact h
  | cons m a' k j h' b=>exact .tp _ _ (.cons _ _ _ _ h (.cons _ _ _ _ h' b))
theorem kxh:∀ (vs:Ya AV) (k i:Nat) (E:Env),i<1000000->lk ((vs.zipIdx k).map (λx=>(1000000+x.2,x.1))++E) i=lk E i
 | [],k,i,E,h=>by simp
 | v::vs,k,i,E,h=>by
  simp only [jbj,jap,jdp,lk];rw [if_neg (by omega),kxh vs (k+1) i E h]
theorem kxF {g:FuncId} {C:CtrM} (hG:GoodM P g C) (ak:C.ok=true) (R:Rel P κ ln z c s env h n) (ax:s.dy=false) {args:Ya (TV sem)} {as:Ya AV} (M:TVRs P κ ln z s.n args as) (T:args.length=C.ks.length)
  {l:Ya ((t:Ty)×t.den)} {bs:Ya AV} (hl:l.length=(C.ks.filterMap id).length) (hA:AL P l bs) {ids:Ya Nat} (hS:SnapL (hz (ows κ ln c s) h z ids) (pureA C.ks as) bs) (ab:∀ id∈ids,∃ B,thp c s id=some B) {m:Mt sem} (hm:packM ⟨[],c.g⟩ C.n0 C.inp ⟨patE C.ks args 0,s.hp,s.n,s.dy⟩=some m) (ay:m.sn=[]) (O:m.ids.all (λx=>(ownB s x.2).isSome&&(alk C.inp.hp x.1).isSome&&(alk m.ids x.1==some x.2))=true) (ai:ids.all (λid=>m.ids.all λx=>x.2 != id)=true)
  {a:(tup (C.ks.filterMap id++C.inp.tys)).den} (ha:mkT sem (C.ks.filterMap id++C.inp.tys) (l++m.cs)=some a) {y:C.out.ty.den} (hy:C.F a=some y) (hu:C.okU (kae (A:=sem) C.out C.n1 y)=true) (G:(ids.isEmpty||C.okF (kae (A:=sem) C.out C.n1 y))=true) {K:K3}
  (hK:∀ v h' n' κ' ln',Ke c s.n κ ln κ' ln'->Rel P κ' ln' ahN c (khh C s (kae C.out C.n1 y) m.ids) env h' n'->TVR P κ' ln' ahN (khh C s (kae (A:=sem) C.out C.n1 y) m.ids).n (resT C (kae C.out C.n1 y) (renC C m.ids s.n)) v->(∀ q,q<n->h' q=h q\/∃ x∈m.ids,(∃ B,thp c s x.2=some B)/\q∈ows κ ln c s x.2)->K v h' n'):HC P g as h n K:=by
 have au:=R.dy ax;subst au;have ap:as.length=C.ks.length:=by rw [M.len]; exact T
 have aw:bs.length=(C.ks.filterMap id).length:=by rw [AL.length hA]; exact hl
 obtain ⟨m1,m2,m3⟩:=kqO C.ks ap hA hl hS;have R1:Rel P κ ln ahN ⟨[],c.g⟩ ⟨patE C.ks args 0,s.hp,s.n,s.dy⟩ (kar (kcM C.ks bs as)) h n:=by
  refine ⟨λx=>?_,R.blk,R.lt,R.inj,R.zin,R.zout,R.bnd,R.hn,λx v k=>rfl,R.g,R.dy,R.zk,R.fam⟩;have:=kso (P:=P) (κ:=κ) (ln:=ln) (z:=ahN) (N:=s.n) C.ks 0 M T aw x;unfold tlk kar;cases hh:alk (patE C.ks args 0) x with
  | some v=>rw [hh] at this; exact this
  | none=>exact .un _
 obtain ⟨κ2,ln2,R2,q1,q2,q3,q4⟩:=ksZ R1 hm ay rfl;have w:∀ x∈m.ids,∃ B,alk s.hp x.2=some (some B):=λx k=>by
  have:=jam.1 O x k;cases ho:ownB s x.2 with
  | none=>simp [ho] at this
  | some B=>exact ⟨B,kdv ho⟩
 have ao:∀ x∈m.ids,(alk C.inp.hp x.1).isSome=true:=λx k=>by
  have:=jam.1 O x k;simp only [jac] at this;exact this.1.2
 have W:∀ p,(alk C.inp.hp p).isSome=true->∃ B,alk (kal (A:=sem) C.inp C.n0 m.cs).hp p=some (some B):=λp hp=>by
  rw [<-q4 p] at hp;obtain ⟨b,hb⟩:=jao.1 hp;obtain ⟨B,q,B0,rfl,_⟩:=q2 p b hb;exact ⟨B,hb⟩
 have an:∀ id B,thp (⟨[],[]⟩:Cx sem) (offD (kal (A:=sem) C.inp C.n0 m.cs)) id=some B->alk (kal (A:=sem) C.inp C.n0 m.cs).hp id=some (some B):=λid B hB=>by
  unfold thp at hB;rw [show (offD (kal (A:=sem) C.inp C.n0 m.cs)).hp=(kal (A:=sem) C.inp C.n0 m.cs).hp from rfl] at hB;cases hh:alk (kal (A:=sem) C.inp C.n0 m.cs).hp id with
  | some b=>rw [hh] at hB; exact congrArg some hB
  | none=>rw [hh] at hB; cases hB
 have U:∀ id,(alk C.inp.hp id).isSome=true->id∈C.inp.hp.map (·.1):=λid hi=>by
  obtain ⟨b,hb⟩:=jao.1 hi;exact jbb.2 ⟨_,kaD hb,rfl⟩
 have ac:∀ id,id∈C.inp.hp.map (·.1)->(alk C.inp.hp id).isSome=true:=λid hi=>by
  obtain ⟨x,k,rfl⟩:=jbb.1 hi;generalize C.inp.hp=L at k;induction L with
  | nil=>cases k
  | cons y L ih=>
   simp only [alk];split
   ·rfl
   ·rename_i e;rcases jbq.1 k with rfl | k
    ·exact absurd rfl e
    ·exact ih k
 generalize Y:ows κ2 ln2 (⟨[],[]⟩:Cx sem) (offD (kal (A:=sem) C.inp C.n0 m.cs))=o2;have R3:=R2.cut (h2:=hz o2 h ahN (C.inp.hp.map (·.1))) (λid B q hB D=>hz_in (U id (by rw [<-q4 id,an id B hB]; rfl)) (by rw [<-Y]; exact koL hB D)) (λq hq=>by
  unfold hz; split
  ·exact R.hn q hq
  ·rfl)
 have hc:=hG a y hy l m.cs (ksr _ _ _ ha) hl κ2 ln2 _ n _ m2 R3;have o:∀ i,((C.inp.hp.map (·.1)).flatMap o2).contains i=true->∃ x∈m.ids,i∈ows κ ln c s x.2:=λi hi=>by
  obtain ⟨id,H,D⟩:=List.mem_flatMap.1 (jbu.1 hi);obtain ⟨B,hB⟩:=W id (ac id H);rw [<-Y] at D;have D:=kdC (kab (s:=offD (kal (A:=sem) C.inp C.n0 m.cs)) hB) D;obtain ⟨_,q,B0,eB,Q,e3,e4⟩:=q2 id _ hB;cases eB;obtain ⟨f1,f2,f3⟩:=q1 id q Q;refine ⟨_,kaD Q,koL (kab e3) ?_⟩;unfold Ow at D ⊢;rw [<-f1,<-f2,<-e4]; exact D
 refine HC.frm4 (hL:=hz (ows κ ln c s) h ahN ids) ((C.inp.hp.map (·.1)).flatMap o2) (λi B hi=>?_) m1 m3 (λi B hi=>?_) (λi hi=>?_) R.hn (λv h' n'=>kzQ hu) ?_ hc ?_
 ·refine ⟨keQ (λq B hq=>by cases hq) i B hi,?_⟩;cases E:((C.inp.hp.map (·.1)).flatMap o2).contains i with
  | false=>rfl
  | true=>
   obtain ⟨x,k,D⟩:=o i E;unfold hz at hi;split at hi
   ·rename_i J;obtain ⟨id,H,am⟩:=jbt.1 J;obtain ⟨B1,hB1⟩:=ab id H;obtain ⟨B2,hB2⟩:=w x k;have e:=R.owI (kab hB2) hB1 (kdC (kab hB2) D) (kdC hB1 (by simpa using am));have:=jam.1 (jam.1 ai id H) x k;rw [e] at this; simp at this
   ·cases hi
 ·unfold hz at hi;split at hi
  ·rename_i J;obtain ⟨id,H,D⟩:=jbt.1 J;exact ⟨jbu.2 (List.mem_flatMap.2 ⟨id,H,by simpa using D⟩),hi⟩
  ·cases hi
 ·obtain ⟨x,k,D⟩:=o i hi;obtain ⟨B,hB⟩:=w x k;exact R.owN (kab hB) (kdC (kab hB) D)
 ·rw [jat] at G;rcases G with G | G
  ·left;have:ids=[]:=by simpa [jcw] using G
   rw [this,kbB]
  ·right;exact λv h' n'=>kyE hu G
 ·rintro v h2 n2 ⟨κ3,ln3,vs,af,rfl,R4,az,ad⟩ ar aa;have Z:∀ i,(∃ x∈m.ids,i∈ows κ ln c s x.2)->((C.inp.hp.map (·.1)).flatMap o2).contains i=true:=λi ⟨x,k,D⟩=>by
   have aj:=ao x k;obtain ⟨B,hB⟩:=W x.1 aj;obtain ⟨_,q,B0,eB,Q,e3,e5⟩:=q2 x.1 _ hB;cases eB;refine jbu.2 (List.mem_flatMap.2 ⟨x.1,U _ aj,?_⟩);have e4:alk m.ids x.1=some x.2:=by
    have:=jam.1 O x k;simp only [jac,beq_iff_eq] at this;exact this.2
   rw [Q] at e4; cases e4;obtain ⟨f1,f2,f3⟩:=q1 _ _ Q;have D:=kdC (kab e3) D;rw [<-Y];refine koL (kab (s:=offD (kal (A:=sem) C.inp C.n0 m.cs)) hB) ?_;unfold Ow at D ⊢;rw [f1,f2,e5]; exact D
  simp only [CtrM.ok,jac,jaj] at ak;obtain ⟨⟨aB,aC⟩,aA⟩:=ak;have ag:∀ p,p<C.n0->C.kept p=true->(alk (kae (A:=sem) C.out C.n1 y).hp p).isSome=true->∃ q,alk m.ids p=some q/\κ3 p = κ q/\(C.keptW p=true->ln3 p=ln q):=λp hp D ae=>by
   obtain ⟨s1,s2⟩:=kzd (C:=C) R3 R4 (λi hi=>kxh vs 0 i _ (by omega)) (λi pv hi v S=>kmk (t:=offD (kal (A:=sem) C.inp C.n0 m.cs)) (knQ C.inp.env m.cs i pv v hi S)) (λi pv hi v S=>kmk (t:=offD (kae (A:=sem) C.out C.n1 y)) (knQ C.out.env _ i pv v hi S)) ad hp;obtain ⟨t1,t2⟩:=s1 D;obtain ⟨B,hB⟩:=W p t1;obtain ⟨_,q,B0,_,Q,e3,_⟩:=q2 p _ hB;obtain ⟨f1,f2,f3⟩:=q1 p q Q;refine ⟨q,Q,t2.trans f1,λhw=>?_⟩;by_cases X:κ2 p=none
   ·obtain ⟨b2,ah⟩:=jao.1 ae;obtain ⟨B2,rfl,_⟩:=kdy hu ah;rw [BR.nil_ln (R4.blk p B2 (kab (s:=offD (kae (A:=sem) C.out C.n1 y)) ah)) (t2.trans X),<-f2,BR.nil_ln (R3.blk p B (kab (s:=offD (kal (A:=sem) C.inp C.n0 m.cs)) hB)) X]
   ·rw [s2 hw X,f2]
  have al:n<=n2:=ar;have hR:=kyv (h':=λi=>if ((C.inp.hp.map (·.1)).flatMap o2).contains i||decide (n<=i) then h2 i else h i) R hu R4 al ag w (λi B hB=>?_) (λi hi=>?_) (λi hi k=>?_)
  ·refine hK _ _ _ _ _ (λid hi=>⟨by unfold kapM; rw [if_pos hi],λ_=>by unfold lenM; rw [if_pos hi]⟩) hR ?_ λq hq=>by
    cases E:((C.inp.hp.map (·.1)).flatMap o2).contains q with
    | false=>left; simp only [E,jcn]; rw [if_neg (by simp; omega)]
    | true=>obtain ⟨x,k,aq⟩:=o q E; obtain ⟨B,hB⟩:=w x k; exact .inr ⟨x,k,⟨B,kab hB⟩,aq⟩
   refine kBf ?_;refine kwV (by simp [af]) λi v a S ha=>?_;have hi:i<C.nr:=by rw [<-af]; exact (jaf.1 ha).1
   rw [jas,List.getElem?_range hi] at S;cases S;obtain ⟨v,I,h2⟩:=ksI hu hi;show TVR P _ _ _ _ (renV _ ((alk (kae (A:=sem) C.out C.n1 y).env (1000000+i)).getD .un)) a;rw [I,jcb];have S:=R4.env (1000000+i);have e1:tlk (⟨[],[]⟩:Cx sem) (offD (kae (A:=sem) C.out C.n1 y)) (1000000+i)=v:=kmk (t:=offD (kae (A:=sem) C.out C.n1 y)) I;rw [e1] at S;have Q:lk (resE vs++kar (kcM C.ks bs as)) (1000000+i)=a:=by
    have:=krR vs 0 i (kar (kcM C.ks bs as)) (Nat.zero_le _);rw [Nat.sub_zero,ha] at this;exact this
   rw [Q] at S;have mem:∀ i,(alk (kae (A:=sem) C.out C.n1 y).hp i).isSome=true->C.kept i=true/\i<C.n1:=λi hi=>by
    obtain ⟨b,hb⟩:=jao.1 hi;obtain ⟨B',_,m1,_,m3,_⟩:=kdy hu hb;exact ⟨m3,m1⟩
   refine S.ren (λ_ _ h=>h) (λj hj=>?_) (λj hj=>?_)
   ·have h3:=ksw h2 j hj;have:=mem j h3;have A2:=kif (C:=C) (u:=kae (A:=sem) C.out C.n1 y) (ids:=m.ids) (ln:=ln) (ln3:=ln3) R ag w this.1 this.2 h3;exact ⟨A2.1,A2.2.1⟩
   ·have h3:=ksw h2 j (ktT hj);have:=mem j h3;exact (kif (C:=C) (u:=kae (A:=sem) C.out C.n1 y) (ids:=m.ids) (ln:=ln) (ln3:=ln3) R ag w this.1 this.2 h3).2.2.1 (kvn h2 j hj)
  ·rcases aa i B hB with I | I
   ·exact .inl (o i I)
   ·exact .inr I.1
  ·show (if _ then _ else _)=_;rw [if_pos];rw [jat,jaj];rcases hi with I | I
   ·exact .inl (Z i I)
   ·exact .inr I
  ·show (if _ then _ else _)=_;rw [if_neg];rw [jat,jaj];rintro (I | I)
   ·exact k (o i I)
   ·omega
end
section
variable (P:Yd)
def AR:(ts:Ya Ty)->(tup ts).den->Ya AV->Prop
 | [],_,l=>l=[]
 | [t],x,l=>∃ a,l=[a]/\A1 P t x a
 | t::u::ts,x,l=>∃ a l',l=a::l'/\A1 P t x.1 a/\AR (u::ts) x.2 l'
def avsL:(ts:Ya Ty)->(tup ts).den->Ya AV
 | [],_=>[]
 | [t],x=>[t.av x]
 | t::u::ts,x=>t.av x.1::avsL (u::ts) x.2
def rav (rs:Ya Ty) (x:(tup rs).den):AV:=
 match rs with
 | [t]=>t.av x
 | rs=>.tp (avsL rs x)
def GoodI (g:FuncId) (I:CtrI):Prop:=I.ts.all Ty.dat=true/\∀ x xs,I.F x=some xs->∀ l,AR P I.as x l->IT P g l (xs.map λy=>avsL I.ts y)
def Good (g:FuncId) (C:Ctr):Prop:=C.rs.all Ty.dat=true/\(∀ x r,C.F x=some r->∀ l,AR P C.as x l->PC P g l (·= rav C.rs r))/\(∀ M∈C.mus,M.ok=true/\GoodM P g M)/\∀ I∈C.its,GoodI P g I
inductive Goods:List (FuncId×Ctr)->Prop
 | nil:Goods []
 | cons {g:FuncId} {C:Ctr} {l:List (FuncId×Ctr)} (h:Good P g C) (hl:Goods l):Goods ((g,C)::l)
end
section
variable {P:Yd} {κ κ':Nat->Yb Nat} {ln ln':Nat->Nat} {z z':AH} {c:Cx sem} {s:TS sem} {env:Env} {h h':AH} {n n' N N':Nat}
variable {ρ:Ty} {Kf:TV sem->TS sem->sem.Ans ρ} {r:ρ.den}
variable {d:Yb Tmp} {ty:Yc} {pos:String} {after:Array Edge} {g:Yb (Nat×Bool)}
theorem Goods.at {Δ:Ya (FuncId×Ctr)} (b:Goods P Δ):∀ {f:FuncId} {C:Ctr},alk Δ f=some C->Good P f C:=by
 induction b with
 | nil=>intro f C a; simp [alk] at a
 | cons h hl i=>
  intro f C a;simp only [alk] at a;split at a
  ·rename_i e; cases a; subst e; exact h
  ·exact i a
theorem AL.append {l l':Ya ((t:Ty)×t.den)} {as a:Ya AV} (h:AL P l as) (h':AL P l' a):AL P (l++l') (as++a):=by
 induction h with
 | nil=>exact h'
 | cons e _ b=>exact .cons e b
theorem kdk {t:Ty} {x:t.den} {a:AV} (b:t.dat=true):A1 P t x a↔a=t.av x:=by
 cases t <;> first | (simp [Ty.dat] at b; done) | exact ⟨λh=>h.2,λh=>⟨b,h⟩⟩
theorem kwW {t t':Ty} (e:t'=t) {x:t'.den} {a:AV} (h:A1 P t' x a):A1 P t (e ▸ x) a:=by subst e; exact h
theorem kjr:∀ (ts:Ya Ty) (l:Ya ((t:Ty)×t.den)) (as:Ya AV) (x:(tup ts).den),AL P l as->mkT sem ts l=some x->AR P ts x as:=by
 intro ts;induction ts with
 | nil=>
  intro l as x hl h;cases hl with
  | nil=>exact rfl
  | cons a hl=>exact kaa (r:=x) h
 | cons t ts j=>
  intro l as x hl h;cases ts with
  | nil=>
   cases hl with
   | nil=>exact kaa (r:=x) h
   | cons a hl=>
    cases hl with
    | nil=>
     obtain ⟨e,rfl⟩:=kak h;exact ⟨_,rfl,kwW e a⟩
    | cons h2 hl=>exact kaa (r:=x) h
  | cons u ts=>
   cases hl with
   | nil=>exact kaa (r:=x) h
   | cons a hl=>
    rw [kwT] at h;obtain ⟨k,b,h⟩:=jaa.1 h;obtain ⟨m,i,rfl⟩:=jad.1 h;obtain ⟨e,rfl⟩:=kak b;exact ⟨_,_,rfl,kwW e a,j _ _ _ hl i⟩
theorem knN:∀ {ts:Ya Ty} {x:(tup ts).den} {as:Ya AV},ts.all Ty.dat=true->AR P ts x as->as=avsL ts x
 | [],_,_,_,h=>h
 | [t],x,_,hd,h=>by
  obtain ⟨a,rfl,b⟩:=h;rw [(kdk (by simpa using hd)).1 b]; rfl
 | t::u::ts,x,_,hd,h=>by
  obtain ⟨a,l',rfl,b,h2⟩:=h;rw [jed,jac] at hd;rw [(kdk hd.1).1 b,knN hd.2 h2]; rfl
theorem kyD:∀ {ts:Ya Ty} (x:(tup ts).den),ts.all Ty.dat=true->AL P (unT sem ts x) (avsL ts x)
 | [],_,_=>.nil
 | [t],x,hd=>.cons ((kdk (by simpa using hd)).2 rfl) .nil
 | t::u::ts,x,hd=>by
  rw [jed,jac] at hd;exact .cons ((kdk hd.1).2 rfl) (kyD (ts:=u::ts) x.2 hd.2)
theorem kna:∀ (m:Nat) (ts:Ya Ty) (x:Ty) (e:tup ts=x) (v:(tup ts).den),ts.length=m->avsN m x (e ▸ v)=avsL ts v
 | 0,[],_,rfl,v,_=>rfl
 | 1,[t],_,rfl,v,_=>rfl
 | m+2,t::u::ts,_,rfl,v,hl=>by
  show t.av v.1::avsN (m+1) (tup (u::ts)) v.2=t.av v.1::avsL (u::ts) v.2;rw [<-kna (m+1) (u::ts) _ rfl v.2 (by simpa using hl)]
theorem ksX:∀ (m:Nat) (ts:Ya Ty),ts.length=m->untup m (tup ts)=ts
 | 0,[],_=>rfl
 | 1,[t],_=>rfl
 | m+2,t::u::ts,hl=>by
  show t::untup (m+1) (tup (u::ts))=_;rw [ksX (m+1) (u::ts) (by simpa using hl)]
theorem kAl {l:Ya ((t:Ty)×t.den)} {as:Ya AV} (h:AL P l as) (b:∀ p∈l,p.1.dat=true):FreeL as:=by
 induction h with
 | nil=>intro a e; cases e
 | @cons p a l as j _ i=>
  have:=b p (by simp);rw [kbW];exact ⟨by rw [(kdk this).1 j]; exact khL _ _ this,i λq k=>b q (by simp [k])⟩
theorem kha (R:Rel P κ ln z c s env h n):∀ (ts:Ya Ty) (vs:Ya (TV sem)) (as:Ya AV) {l:Ya ((t:Ty)×t.den)} {ids:Ya Nat},TVRs P κ ln z s.n vs as->snapM (A:=sem) c s ts vs=some (l,ids)->
  ∃ b,AL P l b/\SnapL (hz (ows κ ln c s) h z ids) as b/\(∀ id∈ids,∃ B,thp c s id=some B)/\l.map (·.1)=ts/\∀ p∈l,p.1.dat=true
 | [],[],_,l,ids,.nil,hs=>by cases hs; exact ⟨[],.nil,.nil,λid hi=>by simp at hi,rfl,λp hp=>by simp at hp⟩
 | [],_::_,_,l,ids,_,hs=>by simp [snapM] at hs
 | _::_,[],_,l,ids,_,hs=>by simp [snapM] at hs
 | t::ts,v::vs,_,l,ids,.cons _ a _ as hv hvs,hs=>by
  simp only [snapM,jaa,jad] at hs;obtain ⟨⟨x,i⟩,k,⟨l',e⟩,hl,C⟩:=hs;cases C;obtain ⟨j,F,h2⟩:=kbE R hv k;obtain ⟨b,g1,u,y,E,D⟩:=kha R ts vs as hvs hl;have m:=kdw (o:=ows κ ln c s) (h:=h) (z:=z) (ids:=i) (ids':=i++e) R.zin (λid hi=>by simp [hi]);have w:=kdw (o:=ows κ ln c s) (h:=h) (z:=z) (ids:=e) (ids':=i++e) R.zin (λid hi=>by simp [hi]);refine ⟨t.av x::b,.cons ((kdk j).2 rfl) g1,.cons (F.mono m) (u.mono w),λid hi=>?_,by simp [E],λp hp=>?_⟩
  ·rcases jaw.1 hi with hi | hi
   ·exact h2 id hi
   ·exact y id hi
  ·rcases jbq.1 hp with rfl | hp
   ·exact j
   ·exact D p hp
theorem TVR.fn_inv {g:FuncId} {vs:Ya (TV sem)} {a:AV} (h:TVR P κ ln z N (.fn g vs) a):∃ as,a = .fn g as/\TVRs P κ ln z N vs as:=by
 cases h with | fn _ _ as h=>exact ⟨as,rfl,h⟩
theorem kwc {C:Ctr} {f:FuncId} (hC:Good P f C) {m:Nat} {x y:Ty} {b:Ya ((t:Ty)×t.den)} {as:Ya AV} {F:x.den->Yb y.den} (e:AL P b as) (u:∀ p∈b,p.1.dat=true) (D:m<=C.as.length) (hF:mkClo sem C m x y b=some F):CV P m x y F (.fn f as):=by
 unfold mkClo at hF;split at hF
 ·rename_i w;split at hF
  ·rename_i l;split at hF
   ·rename_i j;cases hF;have i:(C.as.take m).length=m:=by rw [jbi]; omega
    subst w;have k:=ksX m (C.as.take m) i;refine ⟨f,as,rfl,kAl e u,by rw [k,i],by rw [k]; exact j,?_,λv r hr=>?_⟩
    ·have:=hC.1; rw [l] at this; simpa using this
    ·dsimp only at hr;split at hr
     ·rename_i a A;obtain ⟨r',o,hr⟩:=jaa.1 hr;cases hr;have hAR:=kjr _ _ _ _ (AL.append (kyD v j) e) A;rw [kna m _ _ rfl v i];obtain ⟨nm,B,rs,E,mus⟩:=C;simp only at l;subst l;exact hC.2.1 a r o _ hAR
     ·cases hr
   ·cases hF
  ·cases hF
 ·cases hF
theorem kwp {Δ:Ya (FuncId×Ctr)} (w:Goods P Δ) (R:Rel P κ ln z c s env h n) {t:Ty} {v:TV sem} {a:AV} {x:t.den} {ids:Ya Nat} (k:TVR P κ ln z s.n v a) (b:snapA (A:=sem) c Δ s t v=some (x,ids)) :
  ∃ a',A1 P t x a'/\Snap (hz (ows κ ln c s) h z ids) a a'/\∀ id∈ids,∃ B,thp c s id=some B:=by
 have dat:∀ {t:Ty} {x:t.den},snapV (A:=sem) c s t v=some (x,ids)->∃ a',A1 P t x a'/\Snap (hz (ows κ ln c s) h z ids) a a'/\∀ id∈ids,∃ B,thp c s id=some B:=λb=>by
  obtain ⟨u,K,h2⟩:=kbE R k b;exact ⟨_,(kdk u).2 rfl,K,h2⟩
 unfold snapA at b;split at b
 ·split at b
  ·simp only [jad] at b;obtain ⟨y,E,m⟩:=b;cases m;obtain ⟨e,rfl⟩:=kak E;cases e;cases k with
   | cv _ _ _ _ _ D=>
    obtain ⟨f,as,rfl,o,i⟩:=D;exact ⟨.fn f as,⟨f,as,rfl,o,i⟩,.free _ ((khT _ _).2 o),λid hi=>by simp at hi⟩
  ·simp only [jaa] at b;obtain ⟨C,hC,b⟩:=b;split at b
   ·rename_i p;simp only [jaa,jad] at b;obtain ⟨⟨l,ids'⟩,hl,F,hF,m⟩:=b;cases m;obtain ⟨as,rfl,j⟩:=k.fn_inv;obtain ⟨I,g1,G,H,L,J⟩:=kha R _ _ as j hl;exact ⟨_,kwc (w.at hC) g1 J (by omega) hF,Snap.fnL G,H⟩
   ·cases b
  ·cases b
 ·exact dat b
theorem kfX {Δ:Ya (FuncId×Ctr)} (j:Goods P Δ) (R:Rel P κ ln z c s env h n):∀ (ts:Ya Ty) (vs:Ya (TV sem)) (as:Ya AV) {l:Ya ((t:Ty)×t.den)} {ids:Ya Nat},TVRs P κ ln z s.n vs as->kdH (A:=sem) c Δ s ts vs=some (l,ids)->
  ∃ b,AL P l b/\SnapL (hz (ows κ ln c s) h z ids) as b/\(∀ id∈ids,∃ B,thp c s id=some B)
 | [],[],_,l,ids,.nil,hs=>by cases hs; exact ⟨[],.nil,.nil,λid hi=>by simp at hi⟩
 | [],_::_,_,l,ids,_,hs=>by simp [kdH] at hs
 | _::_,[],_,l,ids,_,hs=>by simp [kdH] at hs
 | t::ts,v::vs,_,l,ids,.cons _ a _ as hv hvs,hs=>by
  simp only [kdH,jaa,jad] at hs;obtain ⟨⟨x,i⟩,k,⟨l',e⟩,hl,y⟩:=hs;cases y;obtain ⟨a',k1,C,h2⟩:=kwp j R hv k;obtain ⟨b,g1,p,w⟩:=kfX j R ts vs as hvs hl;have m:=kdw (o:=ows κ ln c s) (h:=h) (z:=z) (ids:=i) (ids':=i++e) R.zin (λid hi=>by simp [hi]);have u:=kdw (o:=ows κ ln c s) (h:=h) (z:=z) (ids:=e) (ids':=i++e) R.zin (λid hi=>by simp [hi]);refine ⟨a'::b,.cons k1 g1,.cons (C.mono m) (p.mono u),λid hi=>?_⟩;rcases jaw.1 hi with hi | hi
  ·exact h2 id hi
  ·exact w id hi
theorem ksU:∀ (ts:Ya Ty) (x:(tup ts).den),ts.all Ty.flat=true->FlatL (avsL ts x)
 | [],_,_=>by intro a b; cases b
 | [t],x,h=>by intro a b; simp [avsL] at b; subst b; exact kje t x (by simpa using h)
 | t::u::ts,x,h=>by
  rw [jed,jac] at h;intro a b;rcases jbq.1 b with rfl | b
  ·exact kje t x.1 h.1
  ·exact ksU (u::ts) x.2 h.2 a b
theorem kuf (rs:Ya Ty) (x:(tup rs).den) (h:rs.all Ty.flat=true):Flat (rav rs x):=by
 unfold rav;split
 ·exact kje _ _ (by simpa using h)
 ·exact (kAi _).2 (ksU _ _ h)
theorem kmK:∀ (ts:Ya Ty) (x:(tup ts).den),ts.all Ty.dat=true->TVRs P κ ln z N ((unT sem ts x).map λy=>TV.c y.1 y.2) (avsL ts x)
 | [],_,_=>.nil
 | [t],x,h=>.cons _ _ _ _ (.free (by simpa using h)) .nil
 | t::u::ts,x,h=>by
  rw [jed,jac] at h;exact .cons _ _ _ _ (.free h.1) (kmK (u::ts) x.2 h.2)
theorem koo (rs:Ya Ty) (x:(tup rs).den) (h:rs.all Ty.dat=true):TVR P κ ln z N (tvR (A:=sem) rs x) (rav rs x):=by
 match rs,x,h with
 | [],x,h=>exact .tp _ _ (kmK [] x h)
 | [t],x,h=>exact .free (by simpa using h)
 | t::u::ts,x,h=>exact .tp _ _ (kmK (t::u::ts) x h)
theorem Rel.eat (R:Rel P κ ln z c s env h n) {ids:Ya Nat} {s':TS sem} (v:z=λ_=>none) (p:Abs.retire s ids=some s'):Rel P κ ln z c { s' with dy:=false } env (λq=>if (ids.flatMap (ows κ ln c s)).contains q then none else h q) n:=by
 obtain ⟨e,C,w,D,A,E⟩:=R.retire p;have live:∀ id B q,thp c s' id=some B->Ow κ ln id B q->(ids.flatMap (ows κ ln c s)).contains q=false:=λid B q hB t=>by
  cases l:(ids.flatMap (ows κ ln c s)).contains q with
  | false=>rfl
  | true=>
   rw [jbu] at l;obtain ⟨j,u,m⟩:=List.mem_flatMap.1 l;have hz:=e.owZ hB t;rw [hz_in u m] at hz;obtain ⟨Bj,hBj⟩:=A j u;exact absurd hz ((R.blk j Bj (kab hBj)).live (kdC (kab hBj) m))
 subst v;have sub:∀ id B,thp c s' id=some B->thp c s id=some B:=λid B hB=>by
  unfold Abs.retire at p;split at p
  ·cases p;unfold thp at hB ⊢;rw [keH] at hB;split at hB
   ·rename_i b a;split at a
    ·cases a; cases hB
    ·rw [a]; exact hB
   ·rename_i a;split at a
    ·cases a
    ·rw [a]; exact hB
  ·cases p
 have G:∀ id,thp c { s' with dy:=false } id=thp c s' id:=λ_=>rfl;refine ⟨λx=>?_,λid B hB=>?_,λid B hB=>e.lt id B hB,λi j B y q hi u=>e.inj i j B y q hi u,(λq B o=>by cases o),λ_ _ _ _ _=>rfl,λid B q hB t=>e.bnd id B q hB t,λq o=>?_,e.e0,e.g,λ_=>rfl,(λq k T es o=>by cases o),e.fam.map (λid B hB=>.inl ⟨B,hB,λh=>h,rfl,rfl⟩) (λ_ _ _ _ _ _ _ _=>rfl) (jag _)⟩
 ·have:=R.env x;rw [<-kwG (c:=c) C,<-w] at this;exact this
 ·have a:=R.blk id B (sub id B hB);rw [<-w] at a;refine a.mono (λ_ _=>rfl) (λ_ _=>rfl) (λ_ _ h=>h) (jag _) (e.lt id B hB) λq F t h2=>?_;rw [if_neg (by rw [live id B q hB t]; simp)]; exact h2
 ·split
  ·rfl
  ·exact R.hn q o
theorem ksi {gg:Nat} {vs:Ya (TV sem)} {p:Prop} (a:askX (A:=sem) (ρ:=ρ) c s gg vs=some r):p:=by
 unfold askX at a;split at a
 ·cases a
 ·split at a
  ·exact kaa a
  ·split at a <;> exact kaa a
theorem kwj {Δ:Ya (FuncId×Ctr)} (hΔ:Goods P Δ) (R:Rel P κ ln z c s env h n) {l:Call} {f:Yf} (u:l.callee = .value f) (b:callX c Δ s (tev c s f) (l.args.toList.map (tev c s)) Kf=some r):Res P κ ln z c s env h n ⟨d,.call l,ty,pos,after,g⟩ Kf r:=by
 have j:TVRs P κ ln z s.n (l.args.toList.map (tev c s)) (l.args.toList.map (ev env)):=by
  generalize l.args.toList=xs;induction xs with
  | nil=>exact .nil
  | cons x xs ih=>exact .cons _ _ _ _ (R.ev x) ih
 have A:=R.ev f;unfold callX at b;split at b
 ·rename_i gg aa T;rw [T] at A;obtain ⟨as,G,p⟩:=A.fn_inv;split at b
  ·exact ksi b
  ·rename_i C hC;have hG:=hΔ.at hC;split at b
   ·exact ksi b
   ·rename_i la ids o;obtain ⟨W,g1,H,g3⟩:=kfX hΔ R _ _ _ (j.append p) o;split at b
    ·exact kaa b
    ·rename_i a O;have hAR:=kjr _ _ _ _ g1 O;split at b
     ·rename_i e;simp only [jaa] at b;obtain ⟨y,J,b⟩:=b;refine R.q (λK b=>?_) (koo C.rs y hG.1) b;exact kic u G rfl (PC.lend1 (H.mono (keQ R.zin)) (hG.2.1 a y J _ hAR) (kuf _ _ e) b)
     ·split at b
      ·exact kaa b
      ·rename_i Q;split at b
       ·exact kaa b
       ·rename_i s' D;simp only [jaa] at b;obtain ⟨y,J,b⟩:=b;have E:=R.dy (by simpa using Q);obtain ⟨_,e1,e2,_⟩:=R.retire D;refine ⟨_,_,rav C.rs y,_,n,κ,ln,z,λK b=>?_,b,R.eat E D,koo C.rs y hG.1,by simp [e2],λ_ _=>⟨rfl,λ_=>rfl⟩,λb=>by obtain ⟨_,_,_⟩:=l; simp only at u; subst u; simp [calm,kju] at b⟩;refine kic u G rfl (PC.eat (hE:=hz (ows κ ln c s) h z ids) (ids.flatMap (ows κ ln c s)) (λi B hi=>?_) (λi B hi=>?_) H (hG.2.1 a y J _ hAR) b)
        ·refine ⟨?_,keQ R.zin i B hi⟩;unfold hz at hi;split at hi
         ·rename_i t;obtain ⟨id,I,L⟩:=jbt.1 t;rw [jbu];exact List.mem_flatMap.2 ⟨id,I,by simpa using L⟩
         ·rw [E] at hi; cases hi
        ·split at hi
         ·cases hi
         ·rename_i v; exact ⟨by simpa using v,hi⟩
 ·rename_i m x y F T;rw [T] at A;split at b
  ·rename_i hx;split at b
   ·exact kaa b
   ·rename_i la ids o;obtain ⟨W,g1,H,g3,g4,g5⟩:=kha R _ _ _ j o;split at b
    ·exact kaa b
    ·rename_i a O;split at b
     ·rename_i e;simp only [jaa] at b;obtain ⟨w,hw,b⟩:=b;generalize Z:ev env f=fa at A;cases A with
      | cv _ _ _ _ _ U=>
       obtain ⟨gg,as,rfl,k,M,X,Y,S⟩:=U;have hAR:=knN X (kjr _ _ _ _ g1 O);have hp:=S _ w hw;rw [kna m (untup m x) x hx a M,<-hAR] at hp;refine R.q (λK b=>?_) (.free Y) b;exact kic u Z rfl (PC.lend1 ((H.append (SnapL.free k)).mono (keQ R.zin)) hp (kje _ _ e) b)
     ·exact kaa b
  ·exact kaa b
 ·exact kaa b
end
def Ty.vals:(t:Ty)->t.den->Ya Ye
 | .i k,x=>[.int k x]
 | .b,x=>[.bool x]
 | .s,x=>[.string ⟨x.toArray⟩]
 | .w t,x=>t.vals x
 | .pr t u,x=>t.vals x.1++u.vals x.2
 | _,_=>[]
def eqB:(t:Ty)->t.den->t.den->Bool
 | .i _,x,y=>let a:Int:=x; let b:Int:=y; a==b
 | .b,x,y=>let a:Bool:=x; let b:Bool:=y; a==b
 | .s,x,y=>let a:Ya UInt8:=x; let b:Ya UInt8:=y; a==b
 | .w t,x,y=>eqB t x y
 | .pr t u,x,y=>eqB t x.1 y.1&&eqB u x.2 y.2
 | _,_,_=>true
theorem khy:∀ (t:Ty) (x:t.den),t.flat=true->(t.vals x).length=t.wd
 | .i _,_,_ | .b,_,_ | .s,_,_ | .un,_,_=>rfl
 | .w t,x,h=>khy t x h
 | .pr t u,x,h=>by
  simp only [Ty.flat,jac] at h;show (t.vals x.1++u.vals x.2).length=t.wd+u.wd;rw [jbh,khy t x.1 h.1,khy u x.2 h.2]
theorem kiX:∀ (t:Ty) (x:t.den),t.flat=true->t.enc x=(t.vals x).map .sc
 | .i _,_,_ | .b,_,_ | .s,_,_ | .un,_,_=>rfl
 | .w t,x,h=>kiX t x h
 | .pr t u,x,h=>by
  simp only [Ty.flat,jac] at h;show t.enc x.1++u.enc x.2=(t.vals x.1++u.vals x.2).map .sc;rw [jcm,kiX t x.1 h.1,kiX u x.2 h.2]
theorem kxm (l:Ya Ye):scV (l.map .sc)=some l:=by
 induction l with
 | nil=>rfl
 | cons v l a=>simp only [jap,scV,a]; rfl
theorem kmt:∀ (t:Ty) (x y:t.den) (e:Bool),eqD (A:=sem) t x y=some e->e=eqB t x y
 | .i _,x,y,e,h | .b,x,y,e,h | .s,x,y,e,h=>by cases h; rfl
 | .w t,x,y,e,h=>kmt t x y e h
 | .pr t u,x,y,e,h=>by
  simp only [eqD,jaa,jad] at h;obtain ⟨p,hp,q,a,rfl⟩:=h;show (p&&q)=(eqB t x.1 y.1&&eqB u x.2 y.2);rw [kmt t x.1 y.1 p hp,kmt u x.2 y.2 q a]
 | .un,x,y,e,h | .sl _,x,y,e,h | .pt _,x,y,e,h | .op _,x,y,e,h | .ar _ _,x,y,e,h | .sm _ _,x,y,e,h | .fn _ _ _,x,y,e,h | .nt,x,y,e,h=>by simp [eqD] at h
section
variable {P:Yd}
theorem kAA {l:Yc->Ty->Bool} {recV:Yc->Ya Ye->Ya Ye->Yb Bool} (C:∀ T t,l T t=true->t.flat=true->∀ a b:t.den,recV T (t.vals a) (t.vals b)=some (eqB t a b)) :
  ∀ (k:Ya Field) (o:Nat) (t:Ty) (a b:t.den) (i j:Ya Ye),eqOkL P l k o t=true->t.flat=true->i.length=o->j.length=o->eqVF P recV k (i++t.vals a) (j++t.vals b)=some (eqB t a b):=by
 have m:∀ (f:Field) (k:Ya Field) (o:Nat) (u:Ty) (a b:u.den) (i j H E:Ya Ye) (q:Bool),(f.name != "_")=true->f.offset=o->P.cellsOf f.type=u.wd->aggO P f.type=some u.agg->l f.type u=true->u.flat=true->i.length=o->j.length=o->
   eqVF P recV k (i++(u.vals a++H)) (j++(u.vals b++E))=some q->eqVF P recV (f::k) (i++(u.vals a++H)) (j++(u.vals b++E))=some (eqB u a b&&q):=by
  intro f k o u a b i j H E q A h2 x D B y K I O;have l1:=khy u a y;have l2:=khy u b y;have e:∀ (p r:Ya Ye) (v:Ya Ye),p.length=o->v.length=u.wd->((p++(v++r)).drop f.offset).take (P.cellsOf f.type)=v:=λp r v hp L=>by
   rw [h2,x,<-hp,List.drop_left,<-L,List.take_left]
  unfold eqVF;rw [if_neg (by simp at A; simp [A,h2,x,K,I,l1,l2]),D];simp only;rw [if_neg (by
   rintro ⟨Q,J⟩;rw [x] at J;exact J (kyW Q (kcY y)))]
  rw [e i H _ K l1,e j E _ I l2,C _ _ B y,O]
 intro k;induction k with
 | nil=>
  intro o t a b i j h w G F;simp only [eqOkL,jaj] at h;subst h;simp [eqVF,eqB]
 | cons f k M=>
  intro o t a b i j h w G F;cases k with
  | nil=>
   simp only [eqOkL,jac,jaj] at h;obtain ⟨⟨⟨⟨A,h2⟩,x⟩,D⟩,B⟩:=h;have:=m f [] o t a b i j [] [] true A h2 x D B w G F (by simp [eqVF]);simp only [jbe,Bool.and_true] at this;exact this
  | cons g k=>
   cases t <;> simp only [eqOkL,jac,jaj,jai] at h;rename_i u v;obtain ⟨⟨⟨⟨⟨A,h2⟩,x⟩,D⟩,B⟩,y⟩:=h;simp only [Ty.flat,jac] at w;have l1:=khy u a.1 w.1;have l2:=khy u b.1 w.1;have hr:=M (o+u.wd) v a.2 b.2 (i++u.vals a.1) (j++u.vals b.1) y w.2 (by simp [G,l1]) (by simp [F,l2]);rw [jau,jau] at hr;exact m f (g::k) o u a.1 b.1 i j (v.vals a.2) (v.vals b.2) _ A h2 x D B w.1 G F hr
theorem kyL:∀ (d:Nat) (T:Yc) (t:Ty),eqOkT P d T t=true->t.flat=true->∀ a b:t.den,eqV P d T (t.vals a) (t.vals b)=some (eqB t a b)
 | 0,T,t,h,_,_,_=>by simp [eqOkT] at h
 | d+1,T,t,h,i,a,b=>by
  simp only [eqOkT] at h;split at h
  ·rename_i hT;simp only [jaj] at h; subst h;simp only [eqV,hT,Ty.vals]; rfl
  ·rename_i hT;simp only [jaj] at h; subst h;simp only [eqV,hT,Ty.vals,if_true]; rfl
  ·rename_i hT;simp only [jaj] at h; subst h;simp only [eqV,hT,Ty.vals,ktl]; rfl
  ·rename_i j hT;simp only [jac,jbd] at h;obtain ⟨l,h2⟩:=h;have k:∀ t:Ty,t.flat=true->∀ a b:t.den,eqOkL P (eqOkT P d) j.toList 0 t=true->eqV P (d+1) T (t.vals a) (t.vals b)=some (eqB t a b):=λt i a b h2=>by
    have:=kAA (P:=P) (λT t h i a b=>kyL d T t h i a b) j.toList 0 t a b [] [] h2 i rfl rfl;simp only [jbc] at this;unfold eqV;rw [hT];simp only [l,jai,if_false];exact this
   split at h2
   ·rename_i f u e;rw [<-e] at h2;exact k u i a b h2
   ·cases h2
   ·exact k _ i a b h2
  ·cases h
variable {κ κ':Nat->Yb Nat} {ln ln':Nat->Nat} {z z':AH} {c:Cx sem} {s:TS sem} {env:Env} {h h':AH} {n n' N N':Nat}
variable {ρ:Ty} {Kf:TV sem->TS sem->sem.Ans ρ} {r:ρ.den}
variable {d:Yb Tmp} {ty:Yc} {pos:String} {after:Array Edge} {g:Yb (Nat×Bool)}
theorem ktk (R:Rel P κ ln z c s env h n) {t:Ty} {v:TV sem} {a:AV} (e:t.flat=true) (m:t.agg=true) (i:TVR P κ ln z s.n v a) {x:t.den} (k:snapV (A:=sem) c s t v=some (x,[])):a = .ag (t.enc x):=by
 obtain ⟨_,b,_⟩:=kbE R i k;rw [khb m] at b;obtain ⟨cs,rfl,h2⟩:=b.ag_inv;rw [kiX t x e] at h2 ⊢;have:∀ (l:Ya Ye) (cs:Ya AV),SnapL (hz (ows κ ln c s) h z []) cs (l.map .sc)->cs=l.map .sc:=by
  intro l;induction l with
  | nil=>intro cs h; cases h; rfl
  | cons v l j=>
   intro cs h;cases h with
   | cons k1 k2=>rw [k1.sc_inv,j _ k2]; rfl
 rw [this _ _ h2]
theorem kxA (R:Rel P κ ln z c s env h n) {H:BinOp} {T I:Yc} {x y:Yf} {u v:TV sem} (A:TVR P κ ln z s.n u (ev env x)) (p:TVR P κ ln z s.n v (ev env y)) (i:binX P c s H T u v Kf=some r):Res P κ ln z c s env h n ⟨d,.binOp H T x y I,ty,pos,after,g⟩ Kf r:=by
 have l:=i;unfold binX at i;split at i
 ·exact kzV R A.i_inv p.i_inv l
 ·exact kzC R A.s_inv p.s_inv l
 ·split at i
  ·rename_i a b w J;have o:=A.getB_inv w;have h2:=p.getB_inv J;split at i
   ·rename_i hT;replace hT:=kre hT;split at i
    ·exact R.q (λK i=>by simp only [aop,o,h2,abin]; exact ⟨hT,i⟩) (.bool _) i
    ·exact R.q (λK i=>by simp only [aop,o,h2,abin]; exact ⟨hT,i⟩) (.bool _) i
    ·exact kaa i
   ·exact kaa i
  ·split at i
   ·rename_i t L;split at i
    ·rename_i G;simp only [jac,jbd,jaj] at G;obtain ⟨⟨⟨⟨k,w⟩,D⟩,F⟩,C⟩:=G;split at i
     ·rename_i a b E B;have o:=ktk R k w A E;have h2:=ktk R k w p B;have j:=λe (m:e=eqB t a b)=>kBc (P:=P) (h:=h) (T:=T) (as:=t.enc a) (bs:=t.enc b) (xs:=t.vals a) (ys:=t.vals b) (d:=9) (r:=eqB t a b) (r':=e) (by decide) C F (by rw [kiX t a k,kxm]) (by rw [kiX t b k,kxm]) (kyL 9 T t D k a b) m.symm;split at i
      ·rename_i e m;have:=j e (kmt t a b e m);exact R.q (λK i=>by simp only [aop,o,h2]; exact kAd this i) (.bool _) i
      ·rename_i e m;have:=j e (kmt t a b e m);exact R.q (λK i=>by simp only [aop,o,h2]; exact kAj this i) (.bool _) i
      ·exact kaa i
     ·exact kaa i
    ·exact kaa i
   ·exact kaa i
end
mutual
theorem kuk {id:Nat}:∀ (v:TV sem),v.has id=false->drpV id v=v
 | .adr i x j,h=>by simp [TV.has] at h; simp [drpV,h]
 | .aa i x,h=>by simp [TV.has] at h; simp [drpV,h]
 | .mw i,h=>by simp [TV.has] at h; simp [drpV,h]
 | .ms i a b,h=>by simp [TV.has] at h; simp [drpV,h]
 | .fr i x,h=>by simp [TV.has] at h; simp [drpV,h]
 | .fa i x k o,h=>by simp [TV.has] at h; simp [drpV,h]
 | .fn g vs,h=>by simp only [TV.has] at h; simp only [drpV,kkE vs h]
 | .tp vs,h=>by simp only [TV.has] at h; simp only [drpV,kkE vs h]
 | .ag vs,h=>by simp only [TV.has] at h; simp only [drpV,kkE vs h]
 | .un,_ | .gs _ _,_ | .yl _,_ | .kp _,_ | .ud,_ | .c _ _,_ | .kb _,_ | .sc _,_ | .ptr _ _,_ | .fq _ _ _,_ | .mp _,_ | .fw _,_ | .fo _ _ _,_ | .cv _ _ _ _,_=>by simp [drpV]
theorem kkE {id:Nat}:∀ (vs:Ya (TV sem)),TV.has.hasL id vs=false->drpL id vs=vs
 | [],_=>by simp [drpL]
 | v::vs,h=>by simp only [TV.has.hasL,jdn] at h; simp only [drpL,kuk v h.1,kkE vs h.2]
end
theorem kuI {id:Nat}:∀ (vs:Ya (TV sem)),(drpL id vs).length=vs.length
 | []=>by simp [drpL]
 | v::vs=>by simp [drpL,kuI vs]
theorem kzr {id:Nat} {B:TB sem} (h:B.has id=false):drpB id B=B:=by
 cases B <;> simp [drpB,TB.has] at h ⊢;exact kkE _ h
theorem kqi {id:Nat} {B:TB sem}:(drpB id B).isF=B.isF:=by cases B <;> rfl
theorem kkR {α β:Type} (f:α->β):∀ (l:Ya (Nat×α)) (x:Nat),alk (l.map λy=>(y.1,f y.2)) x=(alk l x).map f
 | [],x=>rfl
 | (k,v)::l,x=>by
  simp only [jap,alk,kkR f l x];split <;> rfl
theorem kqG {α:Type}:∀ {l:Ya (Nat×α)} {x:Nat} {v:α},alk l x=some v->(x,v)∈l
 | (k,u)::l,x,v,h=>by
  simp only [alk] at h;split at h
  ·rename_i e; cases h; subst e; simp
  ·exact jax _ (kqG h)
section
variable {P:Yd} {κ κ':Nat->Yb Nat} {ln ln':Nat->Nat} {z z':AH} {c:Cx sem} {s:TS sem} {env:Env} {h h':AH} {n n' N N':Nat} {id q:Nat}
theorem kBi (a:c.has id=false) {x:Nat} {v:TV sem} (b:alk c.e0 x=some v):v.has id=false:=by
 unfold Cx.has at a;simp only [jdn] at a;have:=a.1.2;rw [List.any_eq_false] at this;simpa using this _ (kqG b)
theorem kBl (a:c.has id=false) {x:Nat} {B:TB sem} (b:alk c.g x=some B):B.has id=false:=by
 unfold Cx.has at a;simp only [jdn] at a;have:=a.2;rw [List.any_eq_false] at this;simpa using this _ (kqG b)
theorem kAe (b:c.has id=false) (x:Nat):tlk c (drpS s id) x=drpV id (tlk c s x):=by
 unfold tlk;have e:(drpS s id).env=s.env.map λx=>(x.1,drpV id x.2):=rfl;rw [e,kkR];cases alk s.env x with
 | some v=>rfl
 | none=>
  simp only [Option.map_none];cases a:alk c.e0 x with
  | none=>simp [drpV]
  | some v=>exact (kuk v (kBi b a)).symm
theorem kAf (j:c.has id=false) (i:Nat):thp c (drpS s id) i=(thp c s i).map (drpB id):=by
 unfold thp;have e:(drpS s id).hp=s.hp.map λx=>(x.1,x.2.map (drpB id)):=rfl;rw [e,kkR (λb:Yb (TB sem)=>b.map (drpB id))];cases alk s.hp i with
 | some v=>rfl
 | none=>
  simp only [Option.map_none];cases a:alk c.g i with
  | none=>rfl
  | some v=>simp [kzr (kBl j a)]
mutual
theorem TVR.drp (hl:(kad (ln' id)).length=(kad (ln id)).length) (p:∀ i,i≠id->ln' i=ln i):∀ {v:TV sem} {a:AV},TVR P κ ln z N v a->TVR P κ ln' z N (drpV id v) a
 | _,_,.un a=>by simp only [drpV]; exact .un a
 | _,_,.ud=>by simp only [drpV]; exact .ud
 | _,_,.gs t l=>by simp only [drpV]; exact .gs t l
 | _,_,.yl i q hi h=>by simp only [drpV]; exact .yl i q hi h
 | _,_,.kp i hi=>by simp only [drpV]; exact .kp i hi
 | _,_,.c t x a hd h=>by simp only [drpV]; exact .c t x a hd h
 | _,_,.kb b=>by simp only [drpV]; exact .kb b
 | _,_,.sc v h1=>by simp only [drpV]; exact .sc v h1
 | _,_,.ptr i j q hi h=>by simp only [drpV]; exact .ptr i j q hi h
 | _,_,.adr i x j q hi h h0 h1=>by
  simp only [drpV]; split
  ·exact .un _
  ·rename_i e; exact .adr i x j q hi h h0 (by rw [p i e]; exact h1)
 | _,_,.aa i x q hi h h0 h1=>by
  simp only [drpV]; split
  ·exact .un _
  ·rename_i e; exact .aa i x q hi h h0 (by rw [p i e]; exact h1)
 | _,_,.fq t x o a hd h=>by simp only [drpV]; exact .fq t x o a hd h
 | _,_,.mw0 i hi h=>by
  simp only [drpV]; split
  ·exact .un _
  ·exact .mw0 i hi h
 | _,_,.mw i q hi h=>by
  simp only [drpV]; split
  ·exact .un _
  ·rename_i e; rw [<-p i e]; exact .mw i q hi h
 | _,_,.ms0 i off len hi h h1 h2=>by
  simp only [drpV]; split
  ·exact .un _
  ·exact .ms0 i off len hi h h1 h2
 | _,_,.ms i off len q hi h h0 h1 h2=>by
  simp only [drpV]; split
  ·exact .un _
  ·rename_i e; exact .ms i off len q hi h h0 h1 (by rw [p i e]; exact h2)
 | _,_,.mp i q hi h=>by simp only [drpV]; exact .mp i q hi h
 | _,_,.fw0 i hi h=>by simp only [drpV]; exact .fw0 i hi h
 | _,_,.fw i q hi h=>by
  simp only [drpV];have e:(kad (ln' i)).length=(kad (ln i)).length:=by
   by_cases e:i=id
   ·subst e; exact hl
   ·rw [p i e]
  rw [<-e]; exact .fw i q hi h
 | _,_,.fr0 i x m hi h0 h=>by
  simp only [drpV]; split
  ·exact .un _
  ·rename_i e; exact .fr0 i x m hi h0 (by rw [p i e]; exact h)
 | _,_,.fr i x r m hi h0 h=>by
  simp only [drpV]; split
  ·exact .un _
  ·rename_i e; exact .fr i x r m hi h0 (by rw [p i e]; exact h)
 | _,_,.fo i x j q hi h h0 h1=>by
  simp only [drpV];have e:(kad (ln' i)).length=(kad (ln i)).length:=by
   by_cases e:i=id
   ·subst e; exact hl
   ·rw [p i e]
  exact .fo i x j q hi h h0 (by rw [e]; exact h1)
 | _,_,.fa i x k o r m hi h0 h hk hm=>by
  simp only [drpV]; split
  ·exact .un _
  ·rename_i e; exact .fa i x k o r m hi h0 (by rw [p i e]; exact h) hk hm
 | _,_,.fn g vs as h=>by simp only [drpV]; exact .fn g _ as (TVRs.drp hl p h)
 | _,_,.cv n x y F a h=>by simp only [drpV]; exact .cv n x y F a h
 | _,_,.tp vs as h=>by simp only [drpV]; exact .tp _ as (TVRs.drp hl p h)
 | _,_,.ag vs as h h1=>by simp only [drpV]; exact .ag _ as (TVRs.drp hl p h) h1
theorem TVRs.drp (hl:(kad (ln' id)).length=(kad (ln id)).length) (b:∀ i,i≠id->ln' i=ln i):∀ {v:Ya (TV sem)} {a:Ya AV},TVRs P κ ln z N v a->TVRs P κ ln' z N (drpL id v) a
 | _,_,.nil=>by simp only [drpL]; exact .nil
 | _,_,.cons v a vs as h hs=>by simp only [drpL]; exact .cons _ a _ as (TVR.drp hl b h) (TVRs.drp hl b hs)
end
theorem BR.drp (hl:(kad (ln' id)).length=(kad (ln id)).length) (y:∀ i,i≠id->ln' i=ln i) {i:Nat} {B:TB sem} (hi:i≠id) (p:∀ q AB,Ow κ ln i B q->h q=some AB->h' q=some AB) (J:BR P κ ln z h N i B):BR P κ ln' z h' N i (drpB id B):=by
 have e:=y i hi;cases J with
 | bx T vs q as a hB o w=>
  have:=kuI (id:=id) vs;exact .bx T (drpL id vs) q as a (by rw [this]; exact p q _ (.inl a) hB) (o.drp hl y) w
 | el T t x q cs b a hB o w hl=>exact .el T t x q cs b a (p q _ (.inl a) hB) o w (by rw [e]; exact hl)
 | sl0 T t l b a hl hn=>exact .sl0 T t l b a hl (by rw [e]; exact hn)
 | sl T t l q es b a hB o w hn=>exact .sl T t l q es b a (p q _ (.inl a) hB) o w (by rw [e]; exact hn)
 | mp k v l q H F a hB=>exact .mp k v l q H F a (p q _ (.inl a) hB)
 | si x q a A hB=>exact .si x q a A (p q _ (.inl a) hB)
 | fm0 T t j U u l y b a hl hn=>exact .fm0 T t j U u l y b a hl (by rw [e]; exact hn)
 | fm T t j U u l y q es b a hB hn hl o A w=>
  refine .fm T t j U u l y q es b a (p q _ (.inl a) hB) (by rw [e]; exact hn) hl (λI x e' D h2 G C E=>?_) (by rw [e]; exact A) w;rw [e] at C;refine (o I x e' D h2 G C E).mono (λ_ _ h=>h) λr B hr hB=>p r B (.inr ⟨rfl,?_⟩) hB;obtain ⟨r',m⟩:=D;simp only at hr; subst hr;exact kaK C
theorem Rel.famSet (R:Rel P κ ln z c s env h n) {K B:TB sem} (Q:c.has id=false) (S:alk s.hp id=some (some K)) (T:K.isF=true) (hF:B.isF=true) (hl:(kad (ln' id)).length=(kad (ln id)).length) (E:∀ i,i≠id->ln' i=ln i)
  (G:n<=n') (M:∀ q,n'<=q->h' q=none) (L:∀ q B,z q=some B->h' q=some B) (W:∀ i B H AB,i≠id->thp c s i=some B->Ow κ ln i B H->h H=some AB->h' H=some AB) (hB:BR P κ ln' z h' s.n id B)
  (hr:(kao (ln' id)).Nodup/\∀ r∈kao (ln' id),r<n'/\z r=none/\κ id≠some r/\∀ i a,i≠id->thp c s i=some a->¬ Ow κ ln i a r) :
  Rel P κ ln' z c { drpS s id with hp:=(id,some B)::(drpS s id).hp } env h' n':=by
 have old:∀ i a,thp c { drpS s id with hp:=(id,some B)::(drpS s id).hp } i=some a->(i=id/\a=B)\/(i≠id/\∃ k,thp c s i=some k/\a=drpB id k):=λi a hi=>by
  rw [kbs] at hi;split at hi
  ·rename_i e; cases hi; exact .inl ⟨e,rfl⟩
  ·rename_i e;rw [kAf Q,jad] at hi;obtain ⟨k,m,rfl⟩:=hi;exact .inr ⟨e,k,m,rfl⟩
 have live:∀ i a,thp c { drpS s id with hp:=(id,some B)::(drpS s id).hp } i=some a->∃ k,thp c s i=some k:=λi a hi=>by
  rcases old i a hi with ⟨rfl,_⟩ | ⟨_,k,m,_⟩
  ·exact ⟨K,kab S⟩
  ·exact ⟨k,m⟩
 refine ⟨λx=>?_,λi a hi=>?_,λi a hi=>?_,λi j k w D hi t ki X=>?_,L,λi a D hi ki=>?_,λi a D hi ki=>?_,M,λx v C=>?_,λi b hi=>?_,R.dy,R.zk,λi a hi O=>?_⟩
 ·rw [show tlk c { drpS s id with hp:=(id,some B)::(drpS s id).hp } x=tlk c (drpS s id) x from rfl,kAe Q];exact (R.env x).drp hl E
 ·rcases old i a hi with ⟨rfl,rfl⟩ | ⟨l,k,m,rfl⟩
  ·exact hB
  ·exact (R.blk i k m).drp hl E l λH AB k1 k2=>W i k H AB l m k1 k2
 ·obtain ⟨k,m⟩:=live i a hi;exact R.lt i k m
 ·obtain ⟨_,m⟩:=live i _ hi;obtain ⟨_,h2⟩:=live j _ t;exact R.inj i j _ _ D m h2 ki X
 ·obtain ⟨k,m⟩:=live i a hi;exact R.zout i k D m ki
 ·obtain ⟨k,m⟩:=live i a hi;exact jan (R.bnd i k D m ki) G
 ·replace C:alk (s.env.map λx=>(x.1,drpV id x.2)) x=some v:=C;rw [kkR,jad] at C;obtain ⟨J,C,_⟩:=C;exact R.e0 x J C
 ·simp only [alk] at hi;split at hi
  ·rename_i e; subst e; exact R.g _ _ S
  ·replace hi:alk (s.hp.map λx=>(x.1,x.2.map (drpB id))) i=some b:=hi;rw [kkR (λb:Yb (TB sem)=>b.map (drpB id)),jad] at hi;obtain ⟨J,hi,_⟩:=hi;exact R.g i J hi
 ·rcases old i a hi with ⟨rfl,rfl⟩ | ⟨l,k,m,rfl⟩
  ·refine ⟨hr.1,λr u=>?_⟩;obtain ⟨k1,k2,k3,I⟩:=hr.2 r u;refine ⟨k1,k2,λj w t=>?_,λj w t p o=>?_⟩
   ·rcases old j w t with ⟨rfl,_⟩ | ⟨l,A,y,_⟩
    ·exact k3
    ·exact λe=>I j A l y (.inl e)
   ·rcases old j w t with ⟨rfl,_⟩ | ⟨l,A,y,rfl⟩
    ·rfl
    ·rw [kqi] at p;rw [E j l] at o;exact absurd (.inr ⟨p,o⟩) (I j A l y)
  ·rw [kqi] at O;obtain ⟨g1,U⟩:=R.fam i k m O;rw [E i l];refine ⟨g1,λr u=>?_⟩;obtain ⟨k1,k2,k3,I⟩:=U r u;refine ⟨jan k1 G,k2,λj w t=>?_,λj w t p o=>?_⟩
   ·obtain ⟨A,y⟩:=live j w t;exact k3 j A y
   ·rcases old j w t with ⟨rfl,_⟩ | ⟨F,A,y,rfl⟩
    ·exact absurd (.inr ⟨O,u⟩) ((hr.2 r o).2.2.2 i k l m)
    ·rw [kqi] at p;rw [E j F] at o;exact I j A y p o
theorem Rel.newF (R:Rel P κ ln z c s env h n) (B:TB sem) (k:Yb Nat) (l:Nat) (H:∀ q B,h q=some B->h' q=some B) (E:n<=n') (C:∀ q,k=some q->n<=q/\q<n') (F:∀ q,n'<=q->h' q=none)
  (hB:BR P (updK κ s.n k) (updK ln s.n l) z h' (s.n+1) s.n B) (hr:(kao l).Nodup/\∀ r∈kao l,r<n/\z r=none/\∀ i o,thp c s i=some o->¬ Ow κ ln i o r):Rel P (updK κ s.n k) (updK ln s.n l) z c { s with hp:=(s.n,some B)::s.hp,n:=s.n+1 } env h' n':=by
 have v:∀ id,id<s.n->updK κ s.n k id = κ id:=λid hi=>kaC hi;have D:∀ id,id<s.n->updK ln s.n l id=ln id:=λid hi=>kaC hi;refine ⟨λx=>(R.env x).mono v D (λ_ _ h=>h) (jca _),λid o a=>?_,λid o a=>?_,λi j K w q hi m ki A=>?_,λq o t=>H q o (R.zin q o t),λid o q a t=>?_,λid o q a t=>?_,F,R.e0,λid b a=>?_,R.dy,R.zk,λid o a G=>?_⟩
 ·rw [thp_n] at a;split at a
  ·rename_i e; cases a; subst e; exact hB
  ·exact (R.blk id o a).mono v D (λ_ _ h=>h) (jca _) (R.lt id o a) λq B _=>H q B
 ·rw [thp_n] at a;split at a
  ·rename_i e; subst e; exact jbl _
  ·exact jef (R.lt id o a)
 ·rw [thp_n] at hi m;split at hi
  ·rename_i e; subst e;rw [updK_self] at ki;split at m
   ·rename_i e; exact e.symm
   ·rw [v j (R.lt j _ m)] at A;have:=R.bnd j _ q m A;have:=C q ki;omega
  ·rw [v i (R.lt i _ hi)] at ki;split at m
   ·rename_i e; subst e;rw [updK_self] at A;have:=R.bnd i _ q hi ki;have:=C q A;omega
   ·rw [v j (R.lt j _ m)] at A;exact R.inj i j _ _ q hi m ki A
 ·rw [thp_n] at a;split at a
  ·rename_i e; subst e;rw [updK_self] at t;exact R.zN (C q t).1
  ·rw [v id (R.lt id _ a)] at t; exact R.zout id o q a t
 ·rw [thp_n] at a;split at a
  ·rename_i e; subst e;rw [updK_self] at t;exact (C q t).2
  ·rw [v id (R.lt id _ a)] at t; exact jan (R.bnd id o q a t) E
 ·simp only [alk] at a;split at a
  ·rename_i e; subst e; exact R.gN
  ·exact R.g id b a
 ·rw [thp_n] at a;split at a
  ·rename_i e; cases a; subst e;rw [updK_self];refine ⟨hr.1,λr u=>?_⟩;obtain ⟨k1,k2,k3⟩:=hr.2 r u;refine ⟨by omega,k2,λj w m=>?_,λj w m y p=>?_⟩
   ·rw [thp_n] at m;split at m
    ·rename_i e; subst e;rw [updK_self];intro e;have:=C r e;omega
    ·rw [v j (R.lt j _ m)];exact λe=>k3 j w m (.inl e)
   ·rw [thp_n] at m;split at m
    ·rename_i e; exact e
    ·rw [D j (R.lt j _ m)] at p;exact absurd (.inr ⟨y,p⟩) (k3 j w m)
  ·obtain ⟨g1,I⟩:=R.fam id o a G;rw [D id (R.lt id _ a)];refine ⟨g1,λr u=>?_⟩;obtain ⟨k1,k2,k3,J⟩:=I r u;refine ⟨jan k1 E,k2,λj w m=>?_,λj w m y p=>?_⟩
   ·rw [thp_n] at m;split at m
    ·rename_i e; subst e;rw [updK_self];intro e;have:=C r e;omega
    ·rw [v j (R.lt j _ m)]; exact k3 j w m
   ·rw [thp_n] at m;split at m
    ·rename_i e; subst e;rw [updK_self] at p;exact absurd (.inr ⟨G,u⟩) ((hr.2 r p).2.2 id o a)
    ·rw [D j (R.lt j _ m)] at p;exact J j w m y p
theorem Rel.setO (R:Rel P κ ln z c s env h n) {m B:TB sem} {AB:ABlk} (l:alk s.hp id=some (some m)) (t:Ow κ ln id m q) (hB:BR P κ ln z (updH h q AB) s.n id B) (hF:B.isF=true->m.isF=true):Rel P κ ln z c { s with hp:=(id,some B)::s.hp } env (updH h q AB) n:=by
 have x:=R.owN (kab l) t;have v:=R.owZ (kab l) t;refine ⟨R.env,λi a hi=>?_,λi a hi=>?_,λi j A E k hi o ki C=>?_,λk a hz=>?_,λi a k hi ki=>?_,λi a k hi ki=>?_,λk hn=>?_,R.e0,λi b hi=>?_,R.dy,R.zk,R.fam.map (λi a hi=>?_) (λid _ B r _ w h2 y=>((R.fam id B w h2).2 r y).2.1) (jag _)⟩
 ·rw [kbs] at hi;split at hi
  ·rename_i e; cases hi; subst e; exact hB
  ·rename_i u;refine (R.blk i a hi).mono (λ_ _=>rfl) (λ_ _=>rfl) (λ_ _ h=>h) (jag _) (R.lt i a hi) λD A k1 w=>?_;unfold updH;rw [if_neg]; ·exact w
   rintro rfl;exact u (R.owI hi (kab l) k1 t)
 ·rw [kbs] at hi;split at hi
  ·rename_i e; subst e; exact R.lt _ m (kab l)
  ·exact R.lt i a hi
 ·have:∀ i a,thp c { s with hp:=(id,some B)::s.hp } i=some a->∃ p,thp c s i=some p:=λi a hi=>by
   rw [kbs] at hi;split at hi
   ·rename_i e; subst e; exact ⟨m,kab l⟩
   ·exact ⟨_,hi⟩
  obtain ⟨_,hi⟩:=this i _ hi;obtain ⟨_,o⟩:=this j _ o;exact R.inj i j _ _ k hi o ki C
 ·unfold updH;split
  ·rename_i e; subst e; rw [v] at hz; cases hz
  ·exact R.zin k a hz
 ·rw [kbs] at hi;split at hi
  ·rename_i e; subst e; exact R.zout _ m k (kab l) ki
  ·exact R.zout i a k hi ki
 ·rw [kbs] at hi;split at hi
  ·rename_i e; subst e; exact R.bnd _ m k (kab l) ki
  ·exact R.bnd i a k hi ki
 ·unfold updH;rw [if_neg (by omega)]; exact R.hn k hn
 ·simp only [alk] at hi;split at hi
  ·rename_i e; subst e; exact R.g _ _ l
  ·exact R.g i b hi
 ·rw [kbs] at hi;split at hi
  ·rename_i e; cases hi; subst e; exact .inl ⟨m,kab l,hF,rfl,rfl⟩
  ·exact .inl ⟨a,hi,λh=>h,rfl,rfl⟩
theorem Rel.famAt (R:Rel P κ ln z c s env h n) {i:Int} {T U:Yc} {t u:Ty} {j:Nat} {l:Ya t.den} {k:Yb Int} (hB:thp c s id=some (.fm T t j U u l k)) {y:t.den} (E:gi l i=some y) :
  t.dat=true/\0<=i/\l[i.toNat]?=some y/\∃ q es e b,κ id=some q/\h q=some (.cells t.wd T es)/\es[i.toNat]?=some e/\(kad (ln id))[i.toNat]?=some b/\(k≠some i->FamE z h j U u.wd (t.enc y) e b)/\l.length=(kad (ln id)).length/\es.length=l.length/\(∀ e∈es,e.length=t.wd/\∀ a∈e,a.one=true)/\
   (∀ (i:Nat) (x:t.den) (e:Ya AV) (b:Yb Nat×Nat),l[i]?=some x->es[i]?=some e->(kad (ln id))[i]?=some b->k≠some (i:Int)->FamE z h j U u.wd (t.enc x) e b)/\(∀ (i:Nat) (b:Yb Nat×Nat),k=some (i:Int)->(kad (ln id))[i]?=some b->b.1=none):=by
 obtain ⟨A,v,h2⟩:=kfY E;cases R.blk _ _ hB with
 | fm0 _ _ _ _ _ _ _ w C hl hn=>subst hl; simp at v
 | fm _ _ _ _ _ _ _ q es w C F hn hl B m p=>
  have D:es[i.toNat]?=some (es[i.toNat]'(by omega)):=jae _;have hr:(kad (ln id))[i.toNat]?=some ((kad (ln id))[i.toNat]'(by omega)):=jae _;refine ⟨w,A,v,q,es,_,_,C,F,D,hr,λo=>B _ _ _ _ v D hr ?_,hn,hl,p,B,m⟩;rw [Int.toNat_of_nonneg A]; exact o
theorem kfh {t u:Ty} {j:Nat} {y:t.den} {ys:Ya u.den} (b:t.dat=true) (hr:rowD (A:=sem) t u j y=some ys):u.dat=true/\j<t.wd/\(t.enc y)[j]?=some (.sl (ys.map u.enc)):=by
 unfold rowD at hr;simp only [jaa] at hr;obtain ⟨⟨t',a⟩,k,hr⟩:=hr;obtain ⟨g1,l,o,m,i⟩:=kjc t y j 1 false b k;obtain ⟨e,rfl⟩:=kak hr;simp only at e; subst e;refine ⟨g1,by omega,?_⟩;have:((t.enc y).drop j).take 1=[.sl (a.map u.enc)]:=i;have h2:(((t.enc y).drop j).take 1)[0]?=some (.sl (a.map u.enc)):=by rw [this]; rfl
 rwa [jds (by omega),jar,Nat.add_zero] at h2
theorem kkK {val:(t:Ty)->Yb t.den} (a:∀ t y,val t=some y->t.dat=true):∀ (t:Ty) (x:t.den) (o m:Nat) (ag:Bool) {y:t.den},t.dat=true->setC (A:=sem) val t x o m ag=some y->
  ∃ t' e,val t'=some e/\(t'.enc e).length=m/\o+m<=t.wd/\t.enc y=(t.enc x).take o++t'.enc e++(t.enc x).drop (o+m)
 | .pr t u,x,o,m,ag,y,hd,hc=>by
  simp only [Ty.dat,jac] at hd;have l1:=kag t x.1 hd.1;have l2:=kag u x.2 hd.2;simp only [setC] at hc;show ∃ t' e,val t'=some e/\(t'.enc e).length=m/\o+m<=t.wd+u.wd/\t.enc y.1++u.enc y.2=(t.enc x.1++u.enc x.2).take o++t'.enc e++(t.enc x.1++u.enc x.2).drop (o+m);split at hc
  ·rename_i l;obtain ⟨rfl,rfl,rfl⟩:=l;have B:=kag _ y (a _ _ hc);simp only [Ty.wd] at B;refine ⟨_,y,hc,B,by omega,?_⟩;rw [jdm,jbc,jcf,jbw (by simp; omega),jbe]; rfl
  ·split at hc
   ·rename_i p;simp only [jad] at hc;obtain ⟨w,k,rfl⟩:=hc;obtain ⟨t',e,g0,g1,C,v⟩:=kkK a t x.1 o m ag hd.1 k;refine ⟨t',e,g0,g1,by omega,?_⟩;rw [List.take_append_of_le_length (by omega),List.drop_append_of_le_length (by omega),<-jau];show t.enc w++u.enc x.2=_;rw [v]
   ·split at hc
    ·rename_i p;simp only [jad] at hc;obtain ⟨w,k,rfl⟩:=hc;obtain ⟨t',e,g0,g1,C,v⟩:=kkK a u x.2 (o-t.wd) m ag hd.2 k;refine ⟨t',e,g0,g1,by omega,?_⟩;show t.enc x.1++u.enc w=_;rw [List.take_append,jbp (by omega),List.drop_append,jbw (by omega),jbc];have E:o-(t.enc x.1).length=o-t.wd:=by omega
     have D:o+m-(t.enc x.1).length=o-t.wd+m:=by omega
     rw [E,D,jau,jau,<-jau ((u.enc x.2).take _),v]
    ·cases hc
 | .w t,x,o,m,ag,y,hd,hc=>by
  simp only [setC] at hc;split at hc
  ·rename_i l;obtain ⟨rfl,rfl,rfl⟩:=l;have j:=kag (.w t) x hd;have l2:=kag _ y (a _ _ hc);simp only [Ty.wd] at l2 j;refine ⟨_,y,hc,l2,by simp [Ty.wd],?_⟩;rw [jdm,jbc,jcf,jbw (by omega),jbe]
  ·simp only [jad] at hc;obtain ⟨w,k,rfl⟩:=hc;exact kkK a t x o m ag hd k
 | .i _,x,o,m,ag,y,hd,hc | .b,x,o,m,ag,y,hd,hc | .s,x,o,m,ag,y,hd,hc | .un,x,o,m,ag,y,hd,hc
 | .sl _,x,o,m,ag,y,hd,hc | .pt _,x,o,m,ag,y,hd,hc | .op _,x,o,m,ag,y,hd,hc | .ar _ _,x,o,m,ag,y,hd,hc=>by
  simp only [setC] at hc;split at hc
  ·rename_i l;obtain ⟨rfl,rfl,rfl⟩:=l;have j:=kag _ x hd;have l2:=kag _ y (a _ _ hc);refine ⟨_,y,hc,l2,by omega,?_⟩;rw [jdm,jbc,jcf,jbw (by omega),jbe]
  ·cases hc
 | .nt,x,o,m,ag,y,hd,hc=>by simp [Ty.dat] at hd
 | .sm _ _,x,o,m,ag,y,hd,hc=>by simp [Ty.dat] at hd
 | .fn _ _ _,x,o,m,ag,y,hd,hc=>by simp [Ty.dat] at hd
theorem kzn {val:(t:Ty)->Yb t.den} (a:∀ t y,val t=some y->t.dat=true) (t:Ty) (x:t.den) (o m:Nat) (ag:Bool) {y:t.den} (e:t.dat=true) (k:setC (A:=sem) val t x o m ag=some y) (j:Nat) (b:o+m<=j\/j<o):(t.enc y)[j]?=(t.enc x)[j]?:=by
 obtain ⟨t',u,g0,g1,p,l⟩:=kkK a t x o m ag e k;have i:=kag t x e;rw [l];rcases b with b | b
 ·rw [jcj (by simp; omega),jar];congr 1;simp; omega
 ·rw [jau,jbo (by simp; omega),jds b]
theorem kin {t u:Ty} {j:Nat} {y b:t.den} {v:Ya u.den} (a:t.dat=true) (m:u.dat=true) (hr:rowS (A:=sem) t u j y v=some b):j<t.wd/\t.enc b=(t.enc y).set j (.sl (v.map u.enc)):=by
 unfold rowS at hr;obtain ⟨t',w,g0,g1,o,l⟩:=kkK (val:=λt'=>tcast (A:=sem) (t':=.sl u) t' v) (λt' y k=>by
  obtain ⟨e,_⟩:=kak k;rw [<-e]; exact m) t y j 1 false a hr
 obtain ⟨e,rfl⟩:=kak g0;cases e;refine ⟨by omega,?_⟩;have i:=kag t y a;rw [l,List.set_eq_take_append_cons_drop,if_pos (by omega)];simp [Ty.enc]
theorem kmF {val:(t:Ty)->Yb t.den}:∀ (t:Ty) (x:t.den) (o m:Nat) (ag:Bool) {y:t.den},t.dat=true->setC (A:=sem) val t x o m ag=some y->∃ t' j,val t'=some j/\t'.dat=true
 | .pr t u,x,o,m,ag,y,hd,hc=>by
  have e:=hd;simp only [Ty.dat,jac] at hd;simp only [setC] at hc;split at hc
  ·exact ⟨_,_,hc,e⟩
  ·split at hc
   ·simp only [jad] at hc;obtain ⟨w,a,_⟩:=hc;exact kmF t x.1 o m ag hd.1 a
   ·split at hc
    ·simp only [jad] at hc;obtain ⟨w,a,_⟩:=hc;exact kmF u x.2 (o-t.wd) m ag hd.2 a
    ·cases hc
 | .w t,x,o,m,ag,y,hd,hc=>by
  simp only [setC] at hc;split at hc
  ·exact ⟨_,_,hc,hd⟩
  ·simp only [jad] at hc;obtain ⟨w,a,_⟩:=hc;exact kmF t x o m ag hd a
 | .i _,x,o,m,ag,y,hd,hc | .b,x,o,m,ag,y,hd,hc | .s,x,o,m,ag,y,hd,hc | .un,x,o,m,ag,y,hd,hc
 | .sl _,x,o,m,ag,y,hd,hc | .pt _,x,o,m,ag,y,hd,hc | .op _,x,o,m,ag,y,hd,hc | .ar _ _,x,o,m,ag,y,hd,hc=>by
  simp only [setC] at hc;split at hc
  ·exact ⟨_,_,hc,hd⟩
  ·cases hc
 | .nt,x,o,m,ag,y,hd,hc=>by simp [Ty.dat] at hd
 | .sm _ _,x,o,m,ag,y,hd,hc=>by simp [Ty.dat] at hd
 | .fn _ _ _,x,o,m,ag,y,hd,hc=>by simp [Ty.dat] at hd
theorem ktP {t u:Ty} {j:Nat} {y b:t.den} {v:Ya u.den} (a:t.dat=true) (hr:rowS (A:=sem) t u j y v=some b):u.dat=true:=by
 obtain ⟨t',w,g0,g1⟩:=kmF (val:=λt'=>tcast (A:=sem) (t':=.sl u) t' v) t y j 1 false a hr;obtain ⟨e,_⟩:=kak g0;rw [<-e] at g1; exact g1
theorem FamE.snap {w:Nat} {U:Yc} {cs e:Ya AV} {l:Yb Nat×Nat} {j:Nat} (f:FamE z h j U w cs e l) (o:FreeL cs):∃ ys,cs[j]?=some (.sl ys)/\j<e.length/\l.2=ys.length/\SnapL z (e.set j (.sl ys)) cs:=by
 obtain ⟨t,h2,ys,k,m,u⟩:=f;have v:=(jaf.1 k).1;refine ⟨ys,k,by omega,m,SnapL.of_at (by simp [t]) λp b b' hp a=>?_⟩;by_cases i:p=j
 ·subst i;rw [k] at a; cases a;rw [jbx (by omega)] at hp; cases hp;exact .free _ (o _ (jak k))
 ·rw [jbg (λe=>i e.symm)] at hp;exact h2 p b b' i hp a
theorem FamE.row {w:Nat} {U:Yc} {cs e:Ya AV} {b:Yb Nat×Nat} {j:Nat} (f:FamE z h j U w cs e b) {ys:Ya (Ya AV)} (o:cs[j]?=some (.sl ys)):b.2=ys.length/\((b.1=none/\e[j]?=some nilS/\ys=[])\/∃ r es,b.1=some r/\e[j]?=some (.ms r 0 b.2)/\h r=some (.cells w U es)/\SnapE z es ys/\∀ x∈es,x.length=w/\∀ a∈x,a.one=true):=by
 obtain ⟨y,h2,p,l,k,i⟩:=f;rw [o] at l; cases l;obtain ⟨r,m⟩:=b;cases r with
 | none=>exact ⟨k,.inl ⟨rfl,i.1,i.2⟩⟩
 | some r=>
  obtain ⟨g1,es,t,u,v⟩:=i;exact ⟨k,.inr ⟨r,es,rfl,g1,t,u,v⟩⟩
end
section
variable {P:Yd} {κ κ':Nat->Yb Nat} {ln ln':Nat->Nat} {z z':AH} {c:Cx sem} {s:TS sem} {env:Env} {h h':AH} {n n' N N':Nat} {id:Nat}
variable {ρ:Ty} {Kf:TV sem->TS sem->sem.Ans ρ} {r:ρ.den}
variable {d:Yb Tmp} {ty:Yc} {pos:String} {after:Array Edge} {g:Yb (Nat×Bool)}
theorem TVRs.set {vs:Ya (TV sem)} {as:Ya AV} (e:TVRs P κ ln z N vs as) {v:TV sem} {a:AV} (k:TVR P κ ln z N v a) (j:Nat):TVRs P κ ln z N (vs.set j v) (as.set j a):=by
 induction vs generalizing as j with
 | nil=>cases e; exact .nil
 | cons o vs m=>
  cases e with
  | cons _ p _ l i b=>
   cases j with
   | zero=>exact .cons _ _ _ _ k b
   | succ j=>exact .cons _ _ _ _ i (m b j)
theorem ktQ (R:Rel P κ ln z c s env h n) {T:Yc} {x i:Yf} {w:TV sem} (C:TVR P κ ln z s.n (.fw id) (ev env x)) (F:TVR P κ ln z s.n w (ev env i)) (b:kuK P c s T id w Kf=some r):Res P κ ln z c s env h n ⟨d,.indexAddr T x i,ty,pos,after,g⟩ Kf r:=by
 unfold kuK at b;split at b
 ·rename_i I T' t j U u l O e hi hB G;split at b
  ·rename_i A;simp only [jaa] at b;obtain ⟨y,D,b⟩:=b;obtain ⟨L,B,_,q,es,e',Q,p,H,J,hr,_⟩:=R.famAt hB D;have v:=(jaf.1 hr).1;have o:=F.i64_inv hi;generalize E:ev env x=a at C;cases C with
   | fw0 _ _ m=>rw [p] at m; cases m
   | fw _ M hN k=>
    rw [p] at k; cases k;refine R.q (λK b=>?_) (.fo id I 0 q hN p B v) b;simp only [aop,E,o,kcV,G,H];exact ⟨B,by omega,A.1,A.2,by simpa using b⟩
  ·exact kaa b
 ·exact kaa b
theorem TVR.fr_inv {i:Int} {a:AV} (e:TVR P κ ln z N (.fr id i) a):id<N/\0<=i/\((∃ m,(kad (ln id))[i.toNat]?=some (none,m)/\a=nilS)\/∃ r m,(kad (ln id))[i.toNat]?=some (some r,m)/\a = .ms r 0 m):=by
 cases e with
 | fr0 _ _ m hN b h=>exact ⟨hN,b,.inl ⟨m,h,rfl⟩⟩
 | fr _ _ r m hN b h=>exact ⟨hN,b,.inr ⟨r,m,h,rfl⟩⟩
theorem kuY (R:Rel P κ ln z c s env h n) {T:Yc} {x i:Yf} {a:Int} {w:TV sem} (L:TVR P κ ln z s.n (.fr id a) (ev env x)) (I:TVR P κ ln z s.n w (ev env i)) (b:kud P c s T id a w Kf=some r):Res P κ ln z c s env h n ⟨d,.indexAddr T x i,ty,pos,after,g⟩ Kf r:=by
 unfold kud at b;split at b
 ·rename_i k T' t j U u l e hi hB M;split at b
  ·rename_i D;simp only [jaa] at b;obtain ⟨y,H,b⟩:=b;split at b
   ·rename_i ys A;simp only [jaa] at b;obtain ⟨w',B,b⟩:=b;obtain ⟨G,W,_,q,es,e',rm,Z,hh,Q,hr,J,_⟩:=R.famAt hB H;obtain ⟨k0,k1,k2⟩:=kfY B;have v:=I.i64_inv hi;obtain ⟨hu,X,p⟩:=kfh G A;obtain ⟨C,F⟩:=(J (by simp)).row p;rw [jaq] at C;obtain ⟨hN,S,⟨m,g1,E⟩ | ⟨r',m,g1,E⟩⟩:=L.fr_inv
    ·rw [hr] at g1; cases g1;rcases F with ⟨_,_,o⟩ | ⟨r2,es',o,_⟩
     ·rw [jdr] at o; subst o; simp at k1
     ·cases o
    ·rw [hr] at g1; cases g1;rcases F with ⟨o,_⟩ | ⟨r2,es',o,f4,O,f6,Y⟩
     ·cases o
     ·cases o;refine R.q (λK b=>?_) (.fa id a k 0 r' m hN S hr k0 (by simp only at C; omega)) b;simp only [aop,E,v,kcV,M,O];exact ⟨k0,by simp only at C; omega,D.1,D.2,by simpa using b⟩
   ·exact kaa b
  ·exact kaa b
 ·exact kaa b
theorem kvg (R:Rel P κ ln z c s env h n) {T:Yc} {x:Yf} {i:Int} {j f:Nat} (k:TVR P κ ln z s.n (.fo id i j) (ev env x)) (b:kur P c s T id i j f Kf=some r):Res P κ ln z c s env h n ⟨d,.fieldAddr T x f,ty,pos,after,g⟩ Kf r:=by
 unfold kur at b;split at b
 ·exact kaa b
 ·rename_i p w t;split at b
  ·rename_i e;obtain ⟨B,hB,u⟩:=(jct _ _).1 e;generalize o:ev env x=a at k;cases k with
   | fo _ _ _ q hN l m v=>
    refine R.q (λK b=>?_) (.fo id i (j+p) q hN l m v) b;simp only [aop,t,o];exact ⟨knZ R hB l (by cases B <;> simp_all [TB.isF,kdT]),b⟩
  ·exact kaa b
theorem Rel.rowAt (R:Rel P κ ln z c s env h n) {B:TB sem} (hB:thp c s id=some B) (b:B.isF=true) {i a m:Nat} (hr:(kad (ln id))[i]?=some (some a,m)):∃ k U es,h a=some (.cells k U es):=by
 cases B <;> simp only [TB.isF,jai] at b;obtain ⟨v,o,x,e,g1,l,t,_,_,ys,_,_,w,es',j,u,p⟩:=(R.blk _ _ hB).row (kaK hr);exact ⟨_,_,_,j⟩
theorem kup (R:Rel P κ ln z c s env h n) {T:Yc} {x:Yf} {a k:Int} {j f:Nat} (l:TVR P κ ln z s.n (.fa id a k j) (ev env x)) (b:kvb P c s T id a k j f Kf=some r):Res P κ ln z c s env h n ⟨d,.fieldAddr T x f,ty,pos,after,g⟩ Kf r:=by
 unfold kvb at b;split at b
 ·exact kaa b
 ·rename_i v C w;split at b
  ·rename_i e;obtain ⟨B,hB,i⟩:=(jct _ _).1 e;generalize u:ev env x=a at l;cases l with
   | fa _ _ _ _ A m hN t o h2 y=>
    refine R.q (λK b=>?_) (.fa id _ k (j+v) A m hN t o h2 y) b;obtain ⟨_,_,_,p⟩:=R.rowAt hB i o;simp only [aop,w,u,p];exact ⟨rfl,b⟩
  ·exact kaa b
theorem kvJ (R:Rel P κ ln z c s env h n) {T:Yc} {x:Yf} (o:TVR P κ ln z s.n (.fw id) (ev env x)) (i:kvu P c s T id Kf=some r):Res P κ ln z c s env h n ⟨d,.call ⟨.builtin .len,#[x],#[T]⟩,ty,pos,after,g⟩ Kf r:=by
 unfold kvu at i;split at i
 ·rename_i T' t j U u l D e hB v;generalize p:ev env x=a at o;cases R.blk _ _ hB with
  | fm0 _ _ _ _ _ _ _ w m hl hn=>
   subst hl;cases o with
   | fw0=>
    refine R.q (λK i=>?_) (.int _ _) i;simp only [aop,kai,p,lenK,v];exact ⟨rfl,i⟩
   | fw _ y hN b=>rw [m] at b; cases b
  | fm _ _ _ _ _ _ _ q es w m C hn hl B A E=>
   cases o with
   | fw0 _ _ k=>rw [m] at k; cases k
   | fw _ y hN b=>
    rw [m] at b; cases b;refine R.q (λK i=>?_) (.int _ _) i;simp only [aop,kai,p,lenK,v,C];rw [<-hn]; exact ⟨rfl,rfl,λ_=>i⟩
 ·exact kaa i
theorem kvG (R:Rel P κ ln z c s env h n) {T:Yc} {x:Yf} {a:Int} (E:TVR P κ ln z s.n (.fr id a) (ev env x)) (b:kuq P c s T id a Kf=some r):Res P κ ln z c s env h n ⟨d,.call ⟨.builtin .len,#[x],#[T]⟩,ty,pos,after,g⟩ Kf r:=by
 unfold kuq at b;split at b
 ·rename_i T' t j U u l e hB A;simp only [jaa] at b;obtain ⟨y,C,b⟩:=b;split at b
  ·rename_i ys p;obtain ⟨B,H,_,q,es,e',S,L,O,G,hr,D,_⟩:=R.famAt hB C;obtain ⟨W,I,k⟩:=kfh B p;obtain ⟨v,w⟩:=(D (by simp)).row k;rw [jaq] at v;obtain ⟨hN,X,⟨m,g1,o⟩ | ⟨r',m,g1,o⟩⟩:=E.fr_inv
   ·rw [hr] at g1; cases g1;rcases w with ⟨_,_,i⟩ | ⟨r2,es',i,_⟩
    ·rw [jdr] at i; subst i;refine R.q (λK b=>?_) (.int _ _) b;simp only [aop,kai,o,lenK,A];exact ⟨rfl,b⟩
    ·cases i
   ·rw [hr] at g1; cases g1;rcases w with ⟨i,_⟩ | ⟨r2,es',i,M,F,Q,J⟩
    ·cases i
    ·cases i;refine R.q (λK b=>?_) (.int _ _) b;simp only [aop,kai,o,lenK,A,F];simp only at v;rw [v]; exact ⟨rfl,rfl,λ_=>b⟩
  ·exact kaa b
 ·exact kaa b
theorem kyf (R:Rel P κ ln z c s env h n) {T:Yc} {x:Yf} {t:Ty} {y:t.den} {o:Nat} {ag:Bool} {cs D:Ya AV} (k:t.dat=true) (e:aggO P T=some ag) (u:SnapL z cs (t.enc y)) (hp:deref h (ev env x)=some D) (hD:D.take (P.cellsOf T)=(cs.drop o).take (P.cellsOf T)) (hl:o+P.cellsOf T<=t.wd->P.cellsOf T<=D.length)
  (b:partX t y o (P.cellsOf T) ag (λv=>Kf v s)=some r):Res P κ ln z c s env h n ⟨d,.load T x,ty,pos,after,g⟩ Kf r:=by
 unfold partX at b;split at b
 ·rename_i p l;obtain ⟨t',B⟩:=p;obtain ⟨g1,m,w,i,A⟩:=kjc t y o _ ag k l;have j:=(u.drop o).take (P.cellsOf T);rw [A,<-hD] at j;obtain ⟨a,k1,k2,k3⟩:=kmd (P:=P) (κ:=κ) (ln:=ln) (N:=s.n) g1 m w j (hl i);refine R.q (λK b=>?_) k1 b;simp only [aop,hp,loadK,e];cases ag with
  | true=>refine ⟨hl i,?_⟩; rw [<-k2 rfl]; exact b
  | false=>exact ⟨a,k3 rfl,b⟩
 ·exact kaa b
theorem ktJ (R:Rel P κ ln z c s env h n) {T:Yc} {x:Yf} {a k:Int} {o:Nat} (A:TVR P κ ln z s.n (.fa id a k o) (ev env x)) (b:ksm P c s T id a k o Kf=some r):Res P κ ln z c s env h n ⟨d,.load T x,ty,pos,after,g⟩ Kf r:=by
 unfold ksm at b;split at b
 ·rename_i ag T' t j U u l i hB;simp only [jaa] at b;obtain ⟨y,C,b⟩:=b;split at b
  ·rename_i ys p;simp only [jaa] at b;obtain ⟨w',v,b⟩:=b;obtain ⟨B,M,_,q,es,e',rm,X,Z,K,hr,E,_⟩:=R.famAt hB C;obtain ⟨k0,k1,k2⟩:=kfY v;obtain ⟨L,O,e⟩:=kfh B p;obtain ⟨I,G⟩:=(E (by simp)).row e;rw [jaq] at I;generalize D:ev env x=av at A;cases A with
   | fa _ _ _ _ rr m hN a0 g1 Q Y=>
    rw [hr] at g1; cases g1;rcases G with ⟨w,_⟩ | ⟨r2,es',w,f4,J,H,W⟩
    ·cases w
    ·cases w;obtain ⟨S,h2,F⟩:=H.at (kmc k1);have hp:=knS (env:=env) D J h2;exact knd R L i rfl F hp b
  ·exact kaa b
 ·exact kaa b
theorem kty {α:Type} {l:Ya α} {j o m:Nat} {a:α} (b:o+m<=j\/j<o):((l.set j a).drop o).take m=(l.drop o).take m:=by
 apply List.ext_getElem?;intro i;rw [jbr,jbr];split
 ·rw [jar,jar,jbg (by omega)]
 ·rfl
theorem ktK (R:Rel P κ ln z c s env h n) {T:Yc} {x:Yf} {i:Int} {o:Nat} (M:TVR P κ ln z s.n (.fo id i o) (ev env x)) (k:ksn P c s T id i o Kf=some r):Res P κ ln z c s env h n ⟨d,.load T x,ty,pos,after,g⟩ Kf r:=by
 unfold ksn at k;split at k
 ·rename_i ag T' t j U u l v hB;simp only [jaa] at k;obtain ⟨y,W,k⟩:=k;obtain ⟨E,J,_,q,es,e,rm,Y,Z,H,hr,L,hn,hl,S,_⟩:=R.famAt hB W;generalize X:ev env x=av at M;cases M with
  | fo _ _ _ q' hN B i0 i1=>
   rw [Y] at B; cases B;have hp:=knS (env:=env) X Z H;obtain ⟨ys,f1,f2,f3,Q⟩:=(L (by simp)).snap (kbN t y E);obtain ⟨_,f5⟩:=(L (by simp)).row f1;have aa:=(S e (jak H)).1;have row:∃ a,e[j]?=some a/\TVR P κ ln z s.n (.fr id i) a:=by
    obtain ⟨rr,m⟩:=rm;rcases f5 with ⟨g1,G,g3⟩ | ⟨r2,es',g1,G,g3,g4,g5⟩
    ·simp only at g1; subst g1;exact ⟨_,G,.fr0 id i m hN J hr⟩
    ·simp only at g1; subst g1;exact ⟨_,G,.fr id i r2 m hN J hr⟩
   obtain ⟨a,O,D⟩:=row;split at k
   ·rename_i w;obtain ⟨rfl,rfl⟩:=w;refine R.q (λK k=>?_) D k;simp only [aop,hp,loadK,v];exact ⟨a,by rw [jar]; exact O,k⟩
   ·split at k
    ·rename_i w;exact kyf R E v Q hp (kty w).symm (λF=>by simp; omega) k
    ·split at k
     ·rename_i w;obtain ⟨rfl,I,F⟩:=w;have A:=(kgl (P:=P) (κ:=κ) (ln:=ln) (N:=s.n) t y _ E I Q).set D j;rw [List.set_set,show e.set j a=e by
       apply List.ext_getElem?;intro p;by_cases C:p=j
       ·subst C; rw [jbx (by omega),O]
       ·rw [jbg (λe=>C e.symm)]] at A
      refine R.q (λK k=>?_) (.ag _ _ ((A.drop o).take (P.cellsOf T)) (λb hb=>(S e (jak H)).2 b (jdi (jcl hb)))) k;simp only [aop,hp,loadK,v];exact ⟨by simp; omega,k⟩
     ·exact kaa k
 ·exact kaa k
end
theorem kjZ {α β:Type} {f:α->Yb β} {x:β} {p:α}:∀ {l:Ya α} {a:Nat},x∈(l.set a p).filterMap f->x∈l.filterMap f\/f p=some x
 | [],a,h=>by simp at h
 | y::l,0,h=>by
  rw [List.set_cons_zero,jci] at h;obtain ⟨w,b,e⟩:=h;rcases jbq.1 b with rfl | b
  ·exact .inr e
  ·exact .inl (jci.2 ⟨w,jax _ b,e⟩)
 | y::l,a+1,h=>by
  rw [List.set_cons_succ,jci] at h;obtain ⟨w,b,e⟩:=h;rcases jbq.1 b with rfl | b
  ·exact .inl (jci.2 ⟨w,jcs ..,e⟩)
  ·rcases kjZ (jci.2 ⟨w,b,e⟩) with k | k
   ·obtain ⟨w',i,j⟩:=jci.1 k;exact .inl (jci.2 ⟨w',jax _ i,j⟩)
   ·exact .inr k
theorem kix {α β:Type} {f:α->Yb β} {p:α}:∀ {l:Ya α} {a:Nat},(l.filterMap f).Nodup->(∀ x,f p=some x->x∉l.filterMap f)->((l.set a p).filterMap f).Nodup
 | [],a,h,_=>by simp
 | y::l,0,h,hp=>by
  have hl:(l.filterMap f).Nodup:=by
   rw [jcu] at h;split at h
   ·exact h
   ·exact (jde.1 h).2
  rw [List.set_cons_zero,jcu];split
  ·exact hl
  ·rename_i x j;refine jde.2 ⟨λe=>hp x j ?_,hl⟩;rw [jcu];split
   ·exact e
   ·exact jax _ e
 | y::l,a+1,h,hp=>by
  rw [List.set_cons_succ,jcu];rw [jcu] at h;have i:∀ x,f p=some x->x∉l.filterMap f:=λx j e=>hp x j (by
   rw [jcu];split
   ·exact e
   ·exact jax _ e)
  split
  ·rename_i hn;rw [hn] at h;exact kix h i
  ·rename_i b m;rw [m] at h;obtain ⟨o,h2⟩:=jde.1 h;refine jde.2 ⟨λe=>?_,kix h2 i⟩;rcases kjZ e with k | k
   ·exact o k
   ·refine hp b k ?_;rw [jcu,m];exact jcs ..
theorem klK {α β:Type} {f:α->Yb β} {x:β} {u v:α}:∀ {l:Ya α} {i j:Nat},(l.filterMap f).Nodup->l[i]?=some u->l[j]?=some v->f u=some x->f v=some x->i=j
 | [],i,j,h,hi,_,_,_=>by simp at hi
 | y::l,i,j,h,hi,hj,hu,hv=>by
  rw [jcu] at h;cases i with
  | zero=>
   simp at hi; subst hi;cases j with
   | zero=>rfl
   | succ j=>
    rw [jby] at hj;rw [hu] at h;exact absurd (jci.2 ⟨v,jak hj,hv⟩) (jde.1 h).1
  | succ i=>
   rw [jby] at hi;cases j with
   | zero=>
    simp at hj; subst hj;rw [hv] at h;exact absurd (jci.2 ⟨u,jak hi,hu⟩) (jde.1 h).1
   | succ j=>
    rw [jby] at hj;have h':(l.filterMap f).Nodup:=by
     split at h
     ·exact h
     ·exact (jde.1 h).2
    rw [klK h' hi hj hu hv]
theorem koe (l:Ya (Yb Nat×Nat)):kao (codeR l)=l.filterMap (·.1):=by unfold kao; rw [kbS]
section
variable {P:Yd} {κ κ':Nat->Yb Nat} {ln ln':Nat->Nat} {z z':AH} {c:Cx sem} {s:TS sem} {env:Env} {h h':AH} {n n' N N':Nat} {id:Nat}
variable {ρ:Ty} {Kf:TV sem->TS sem->sem.Ans ρ} {r:ρ.den}
variable {d:Yb Tmp} {ty:Yc} {pos:String} {after:Array Edge} {g:Yb (Nat×Bool)}
theorem BR.fmSet {q a j:Nat} {T U:Yc} {t u:Ty} {l:Ya t.den} {es:Ya (Ya AV)} {E:t.den} {e':Ya AV} {G:Yb Int} (H:t.dat=true) (J:κ id=some q) (K:h' q=some (.cells t.wd T (es.set a e'))) (hn:l.length=(kad (ln id)).length) (hl:es.length=l.length)
  (I:∀ (i:Nat) (x:t.den) (e:Ya AV) (k:Yb Nat×Nat),l[i]?=some x->es[i]?=some e->(kad (ln id))[i]?=some k->G≠some (i:Int)->FamE z h j U u.wd (t.enc x) e k) (D:∀ i:Nat,G=some (i:Int)->i=a)
  (A:(kad (ln' id)).length=(kad (ln id)).length) (v:∀ i,i≠a->(kad (ln' id))[i]?=(kad (ln id))[i]?) (C:∀ (i r m:Nat) (B:ABlk),i≠a->(kad (ln id))[i]?=some (some r,m)->h r=some B->h' r=some B)
  (w:∀ k,(kad (ln' id))[a]?=some k->FamE z h' j U u.wd (t.enc E) e' k) (L:∀ e∈es,e.length=t.wd/\∀ a∈e,a.one=true) (F:e'.length=t.wd/\∀ a∈e',a.one=true):BR P κ ln' z h' N id (.fm T t j U u (l.set a E) none):=by
 refine .fm T t j U u (l.set a E) none q (es.set a e') H J K (by rw [jbs,hn,A]) (by simp [hl]) (λi x e k p o hr _=>?_) (λi k hi=>by cases hi) (λe o=>?_)
 ·by_cases b:i=a
  ·subst b;rw [jbx (by have:=(jaf.1 p).1; rwa [jbs] at this)] at p;rw [jbx (by have:=(jaf.1 o).1; rwa [jbs] at this)] at o;cases p; cases o;exact w k hr
  ·rw [jbg (λe=>b e.symm)] at p o;rw [v i b] at hr;refine (I i x e k p o hr (λe=>b (D i e))).mono (λ_ _ h=>h) λr B y hB=>?_;obtain ⟨r',m⟩:=k;simp only at y; subst y;exact C i r m B b hr hB
 ·rcases List.mem_or_eq_of_mem_set o with o | rfl
  ·exact L e o
  ·exact F
theorem snapC (R:Rel P κ ln z c s env h n) {x:Yf} {v:TV sem} (k:TVR P κ ln z s.n v (ev env x)) {xs:Ya AV} (e:kaI (ev env x)=some xs) (t:Ty) (y:t.den) (a:((snapV (A:=sem) c s t v).bind λy=>if y.2.isEmpty then some y.1 else none)=some y):t.dat=true/\SnapL z xs (t.enc y):=by
 simp only [jaa] at a;obtain ⟨⟨w,ids⟩,j,a⟩:=a;split at a
 ·rename_i b;cases a;obtain rfl:=jcw.1 b;obtain ⟨m,i,h2,l⟩:=kgs R k j;rw [e] at i; cases i;rw [kbB] at h2;exact ⟨l,h2⟩
 ·cases a
theorem kry (R:Rel P κ ln z c s env h n) {x:Yf} {v:TV sem} (j:TVR P κ ln z s.n v (ev env x)) {t:Ty} {y l:t.den} {o m:Nat} {ag:Bool} {e:Ya AV} (D:m≠0) (i:t.dat=true) (k:SnapL z e (t.enc y)) (u:setC (A:=sem) (λt=>(snapV c s t v).bind λy=>if y.2.isEmpty then some y.1 else none) t y o m ag=some l) :
  ∃ xs,kaI (ev env x)=some xs/\xs.length=m/\o+m<=e.length/\SnapL z (e.take o++xs++e.drop (o+m)) (t.enc l):=by
 cases a:kaI (ev env x) with
 | some xs=>exact ⟨xs,rfl,kdo (snapC R j a) t y o m ag e i u k⟩
 | none=>
  exfalso;have:=kdo (z:=z) (xs:=[]) (val:=λt=>(snapV (A:=sem) c s t v).bind λy=>if y.2.isEmpty then some y.1 else none) (λt y b=>by
   simp only [jaa] at b;obtain ⟨⟨w,ids⟩,B,b⟩:=b;obtain ⟨C,p,h2,E⟩:=kgs R j B;rw [a] at p; cases p) t y o m ag e i u k
  simp at this;omega
theorem Rel.famNums (R:Rel P κ ln z c s env h n) {B:TB sem} (hB:thp c s id=some B) (a:B.isF=true):(kao (ln id)).Nodup:=(R.fam id B hB a).1
theorem ksu (R:Rel P κ ln z c s env h n) {T:Yc} {p x:Yf} {a k:Int} {o:Nat} {v:TV sem} (hu:TVR P κ ln z s.n (.fa id a k o) (ev env p)) (hv:TVR P κ ln z s.n v (ev env x)) (w:kqb P c s T id a k o v Kf=some r):Res P κ ln z c s env h n ⟨d,.store T p x,ty,pos,after,g⟩ Kf r:=by
 unfold kqb at w;split at w
 ·rename_i ag T' t j U u l ai hB;replace hB:=kdv hB;split at w
  ·exact kaa w
  ·rename_i ac;simp only [jaa] at w;obtain ⟨y,hy,w⟩:=w;split at w
   ·rename_i ys Q;simp only [jaa] at w;obtain ⟨w',X,w⟩:=w;split at w
    ·rename_i x' Z;split at w
     ·rename_i y' ad;obtain ⟨hd,h0,ah,q,es,e',rm,hq,hh,D,hr,hf,hn,hl,h1,af,_⟩:=R.famAt (kab hB) hy;obtain ⟨k0,k1,k2⟩:=kfY X;obtain ⟨C,hj,I⟩:=kfh hd Q;have f:=hf (by simp);obtain ⟨f1,f2⟩:=f.row I;rw [jaq] at f1;generalize E:ev env p=av at hu;cases hu with
      | fa _ _ _ _ M m hN a0 g1 g2 g3=>
       rw [hr] at g1; cases g1;rcases f2 with ⟨f3,_⟩ | ⟨r2,es',f3,f4,f5,f6,f7⟩
       ·cases f3
       ·cases f3;obtain ⟨O,h2,h3⟩:=f6.at (kmc k1);have aj:=(f7 O (jak h2)).1;obtain ⟨xs,Y,c1,c2,c3⟩:=kry R hv ac C h3 Z;obtain ⟨_,A⟩:=kin hd C ad;have W:Ow κ ln id (TB.fm T' t j U u l none) M:=.inr ⟨rfl,kaK hr⟩;have ae:∀ q',κ id=some q'->q'≠M:=λq' aa e=>((R.fam id _ (kab hB) rfl).2 M (kaK hr)).2.2.1 id _ (kab hB) (by rw [aa,e]);have H:es.set a.toNat e'=es:=by
         apply List.ext_getElem?;intro p;by_cases G:p=a.toNat
         ·subst G; rw [jbx (jaf.1 D).1,D]
         ·rw [jbg (λe=>G e.symm)]
        have J:BR P κ ln z (updH h M (.cells u.wd U (es'.set k.toNat (putAt O o xs)))) s.n id (.fm T' t j U u (lset l a y') none):=by
         unfold lset;refine BR.fmSet (e':=e') hd hq (by rw [H]; unfold updH; rw [if_neg (ae q hq)]; exact hh) hn hl af (λi e=>by cases e) rfl (λ_ _=>rfl) (λi r m B hi ab hB'=>?_) (λrm F=>?_) h1 (h1 e' (jak D))
         ·unfold updH;rw [if_neg]
          ·exact hB'
          ·rintro rfl;exact hi (klK (R.famNums (kab hB) rfl) ab hr rfl rfl)
         ·rw [hr] at F; cases F;obtain ⟨w1,w2,w3⟩:=f;have S:j<(t.enc y).length:=(jaf.1 I).1;refine ⟨by rw [A,jbs]; exact w1,λp b b' hp hb L=>?_,_,by rw [A,jbx S],by simp [lset]; exact f1,f4,es'.set k.toNat (putAt O o xs),if_pos rfl,?_,λx E=>?_⟩
          ·rw [A,jbg (λe=>hp e.symm)] at L;exact w2 p b b' hp hb L
          ·unfold lset;rw [List.map_set,kbY (by omega),c1];exact kor f6 c3
          ·rcases List.mem_or_eq_of_mem_set E with E | rfl
           ·exact f7 x E
           ·rw [kbY (by omega),c1];refine ⟨by simp; omega,c3.one_rev (kbk u x' C)⟩
        exact ⟨.ud,_,.ud,_,_,κ,ln,z,λK w=>by
         simp only [aop,E,kcd,f5,Y,h2];exact ⟨c1,by omega,by omega,w⟩,w,R.setO hB W J (λ_=>rfl),.ud,jag _,λ_ _=>⟨rfl,λ_=>rfl⟩,λhc=>by cases hc⟩
     ·exact kaa w
    ·exact kaa w
   ·exact kaa w
 ·exact kaa w
theorem kAp {e xs:Ya AV} {j o:Nat} {b:AV} (a:o+xs.length<=j\/j<o) (i:o+xs.length<=e.length):(e.set j b).take o++xs++(e.set j b).drop (o+xs.length)=(e.take o++xs++e.drop (o+xs.length)).set j b:=by
 apply List.ext_getElem?;intro p;by_cases hp:p=j
 ·subst hp;by_cases hl:p<e.length
  ·rw [jbx (by simp; omega)];rcases a with a | a
   ·rw [jcj (by simp; omega),jar];simp only [jbh,jbi,jbs];rw [show o+xs.length+(p-(min o e.length+xs.length))=p by omega,jbx hl]
   ·rw [jau,jbo (by simp; omega),jds (by omega),jbx hl]
  ·rw [jch (by simp; omega),jch (by simp; omega)]
 ·rw [jbg (λe=>hp e.symm)];rw [jbm,jbm,jbm,jbm];simp only [jbh,jbi,jbs];by_cases k:p<min o e.length
  ·rw [if_pos (by omega),if_pos (by omega),if_pos (by omega),if_pos (by omega),jds (by omega),jds (by omega),jbg (λe=>hp e.symm)]
  ·by_cases h2:p<min o e.length+xs.length
   ·rw [if_pos (by omega),if_neg (by omega),if_pos (by omega),if_neg (by omega)]
   ·rw [if_neg (by omega),if_neg (by omega),jar,jar,jbg (by omega)]
theorem ktD (R:Rel P κ ln z c s env h n) {T T' U:Yc} {t u:Ty} {j:Nat} {l:Ya t.den} {p x:Yf} {i:Int} {o:Nat} {ag:Bool} {v:TV sem} (hu:TVR P κ ln z s.n (.fo id i o) (ev env p)) (hv:TVR P κ ln z s.n v (ev env x)) (hB:alk s.hp id=some (some (.fm T' t j U u l none))) (ae:P.cellsOf T≠0) (F:o+P.cellsOf T<=j\/j<o) {y D:t.den} (hy:gi l i=some y)
  (O:setC (A:=sem) (λt=>(snapV c s t v).bind λy=>if y.2.isEmpty then some y.1 else none) t y o (P.cellsOf T) ag=some D) (Q:setB (A:=sem) s id (.fm T' t j U u (lset l i D) none) Kf=some r):Res P κ ln z c s env h n ⟨d,.store T p x,ty,pos,after,g⟩ Kf r:=by
 obtain ⟨k,h0,ai,q,es,e,rm,H,hh,Y,hr,hf,hn,hl,h1,ah,_⟩:=R.famAt (kab hB) hy;have f:=hf (by simp);obtain ⟨ys,f1,f2,f3,f4⟩:=f.snap (kbN t y k);have ak:=(h1 e (jak Y)).1;obtain ⟨xs,ab,c1,c2,S⟩:=kry R hv ae k f4 O;rw [jbs] at c2;rw [<-c1,kAp (by omega) (by omega)] at S;rw [<-c1] at F;generalize hx:ev env p=av at hu;cases hu with
 | fo _ _ _ q' hN I i0 i1=>
  rw [H] at I; cases I;have M:(putAt e o xs).length=t.wd:=by rw [kbY (by omega)]; simp; omega
  have C:(putAt e o xs)[j]?=e[j]?:=by
   rw [kbY (by omega)];rcases F with F | F
   ·rw [jcj (by simp; omega),jar];congr 1;simp;omega
   ·rw [jau,jbo (by simp; omega),jds (by omega)]
  have Z:=S.len;rw [jbs] at Z;have aa:(t.enc D)[j]?=some (.sl ys):=by
   have key:∀ (t:Ty) (x:t.den) (o m:Nat) (ag:Bool) {y:t.den},t.dat=true->setC (A:=sem) (λt=>(snapV c s t v).bind λy=>if y.2.isEmpty then some y.1 else none) t x o m ag=some y->∀ j,(o+m<=j\/j<o)->(t.enc y)[j]?=(t.enc x)[j]?:=by
    intro t x o m ag y k Q j hj;have X:∀ t' w,((snapV (A:=sem) c s t' v).bind λy=>if y.2.isEmpty then some y.1 else none)=some w->t'.dat=true:=λt' w E=>by
     simp only [jaa] at E;obtain ⟨⟨w1,ids⟩,E,_⟩:=E;unfold snapV at E;split at E
     ·cases E
     ·rename_i af; simpa using af
    exact kzn X t x o m ag k Q j hj
   rw [key t y o _ ag k O j (by omega)]; exact f1
  have L:BR P κ ln z (updH h q (.cells t.wd T' (es.set i.toNat (putAt e o xs)))) s.n id (.fm T' t j U u (lset l i D) none):=by
   unfold lset;refine BR.fmSet (e':=putAt e o xs) k H (by simp [updH]) hn hl ah (λi e=>by cases e) rfl (λ_ _=>rfl) (λi' r m B hi ac hB'=>?_) (λaj G=>?_) h1 ⟨M,λb W=>?_⟩
   ·unfold updH;rw [if_neg]
    ·exact hB'
    ·rintro rfl;exact ((R.fam id _ (kab hB) rfl).2 r (kaK ac)).2.2.1 id _ (kab hB) H
   ·rw [hr] at G; cases G;obtain ⟨g1,g2⟩:=f.row f1;refine ⟨by rw [M,kag t D k],λp b b' hp W ad=>?_,ys,aa,g1,?_⟩
    ·refine S.at p b b' ?_ ad;rw [jbg (λe=>hp e.symm),<-kbY (by omega)]; exact W
    ·obtain ⟨rr,m⟩:=rm;rcases g2 with ⟨k1,k2,k3⟩ | ⟨r2,es',k1,k2,k3,k4,k5⟩
     ·simp only at k1; subst k1;exact ⟨by rw [C]; exact k2,k3⟩
     ·simp only at k1; subst k1;refine ⟨by rw [C]; exact k2,es',?_,k4,k5⟩;unfold updH;rw [if_neg]
      ·exact k3
      ·rintro rfl;exact ((R.fam id _ (kab hB) rfl).2 _ (kaK hr)).2.2.1 id _ (kab hB) H
   ·rw [kbY (by omega)] at W;obtain ⟨p,hp⟩:=jdh W;by_cases a:p=j
    ·subst a;rw [<-kbY (by omega),C] at hp;exact (h1 e (jak Y)).2 b (jak hp)
    ·have J:=S.one_rev (kbk t D k);refine J b (jak (i:=p) ?_);rw [jbg (λe=>a e.symm)]; exact hp
  exact ⟨.ud,_,.ud,_,_,κ,ln,z,λK Q=>by
   simp only [aop,hx,kcd,hh,ab,Y];exact ⟨c1,by omega,by omega,Q⟩,Q,R.setO hB (.inl H) L (λ_=>rfl),.ud,jag _,λ_ _=>⟨rfl,λ_=>rfl⟩,λF=>by cases F⟩
end
section
variable {P:Yd} {κ κ':Nat->Yb Nat} {ln ln':Nat->Nat} {z z':AH} {c:Cx sem} {s:TS sem} {env:Env} {h h':AH} {n n' N N':Nat} {id:Nat}
variable {ρ:Ty} {Kf:TV sem->TS sem->sem.Ans ρ} {r:ρ.den}
variable {d:Yb Tmp} {ty:Yc} {pos:String} {after:Array Edge} {g:Yb (Nat×Bool)}
theorem kzi {l:Yb Int} {i:Int} {K:sem.Ans ρ} (b:holeX (A:=sem) l i K=some r):K=some r/\∀ k:Int,l=some k->k=i:=by
 unfold holeX at b;split at b
 ·exact ⟨b,λk e=>by cases e⟩
 ·rename_i a;simp only [jaa] at b;obtain ⟨_,j,b⟩:=b;unfold gsame at j;split at j
  ·rename_i e; exact ⟨b,λk e'=>by cases e'; exact e⟩
  ·cases j
theorem knj (R:Rel P κ ln z c s env h n) {T T' U:Yc} {t u:Ty} {j:Nat} {l:Ya t.den} {pv xv av:AV} {i:Int} {ho:Yb Int} (hB:alk s.hp id=some (some (.fm T' t j U u l ho))) (an:u.dat=true) (hc:c.has id=false)
  (ad:∀ k:Int,ho=some k->k=i) {y y' y0:t.den} {xs:Ya u.den} (hy:gi l i=some y) (al:rowS (A:=sem) t u j y0 xs=some y')
  (ao:∀ q es e,κ id=some q->h q=some (.cells t.wd T' es)->es[i.toNat]?=some e->e.length=t.wd->(∀ b∈e,b.one=true)->0<=i->
   (ho=none->∀ p b b',p≠j->e[p]?=some b->(t.enc y)[p]?=some b'->Snap z b b')->
   ∃ e',e'.length=t.wd/\(∀ b∈e',b.one=true)/\e'[j]?=some av/\(∀ p b b',p≠j->e'[p]?=some b->(t.enc y0)[p]?=some b'->Snap z b b')/\∀ K:K3,K .ud (updH h q (.cells t.wd T' (es.set i.toNat e'))) n->kcd P h n T pv xv K)
  {D:Yb Nat} (W:av.one=true/\((D=none/\xs=[]/\av=nilS)\/∃ w es,D=some w/\av = .ms w 0 xs.length/\h w=some (.cells u.wd U es)/\SnapE z es (xs.map u.enc)/\(∀ e∈es,e.length=u.wd/\∀ a∈e,a.one=true)))
  (M:∀ w,D=some w->w<n/\z w=none/\∀ E B',thp c s E=some B'->¬ Ow κ ln E B' w)
  (hk:Kf .ud { drpS s id with hp:=(id,some (.fm T' t j U u (lset l i y') none))::(drpS s id).hp }=some r) :
  ∃ ln',Ke c s.n κ ln κ ln'/\∃ h',(∀ K:K3,K .ud h' n->kcd P h n T pv xv K)/\Rel P κ ln' z c { drpS s id with hp:=(id,some (.fm T' t j U u (lset l i y') none))::(drpS s id).hp } env h' n:=by
 obtain ⟨hd,h0,ae,q,es,e,rm,G,hh,he,hr,hf,hn,hl,h1,am,aw⟩:=R.famAt (kab hB) hy;obtain ⟨hj,S⟩:=kin hd an al;have hB':=kab (c:=c) hB;have aq:=(h1 e (jak he)).1;have C:=R.fam id _ hB' rfl;have hFam:∀ h':AH,(∀ w,D=some w->h' w=h w)->(match D with | none=>av=nilS/\xs=[] | some r=>av = .ms r 0 xs.length/\∃ es,h' r=some (.cells u.wd U es)/\SnapE z es (xs.map u.enc)/\∀ x∈es,x.length=u.wd/\∀ a∈x,a.one=true):=by
  rcases W.2 with ⟨rfl,rfl,hx⟩ | ⟨w,es',rfl,hx,g1,g2,g3⟩
  ·exact λ_ _=>⟨hx,rfl⟩
  ·exact λh' ai=>⟨hx,es',by rw [ai w rfl]; exact g1,g2,g3⟩
 obtain ⟨e',ac,aa,ak,ap,hK0⟩:=ao q es e G hh he aq (h1 e (jak he)).2 h0 (λe=>(hf (by simp [e])).2.1);have I:∀ X,X=updK ln id (codeR ((kad (ln id)).set i.toNat (D,xs.length)))->kad (X id)=(kad (ln id)).set i.toNat (D,xs.length):=λX e=>by rw [e,updK_self,kbS]
 refine ⟨updK ln id (codeR ((kad (ln id)).set i.toNat (D,xs.length))),λau ar=>⟨rfl,λY=>?_⟩,updH h q (.cells t.wd T' (es.set i.toNat e')),λK hK=>?_,?_⟩
 ·unfold updK;rw [if_neg];rintro rfl;rw [hc] at Y; cases Y
 ·exact hK0 K hK
 ·have hX:=I _ rfl;have Z:∀ r,r∈kao (updK ln id (codeR ((kad (ln id)).set i.toNat (D,xs.length))) id)->r∈kao (ln id)\/D=some r:=λr o=>by
   unfold kao at o ⊢;rw [hX] at o;exact kjZ o
  have ah:∀ F B,z F=some B->F≠q:=λF B hz e=>by rw [e,R.zout id _ q hB' G] at hz; cases hz
  refine R.famSet hc hB rfl rfl (by rw [hX,jbs]) (λE v=>by unfold updK; rw [if_neg v]) (jag _) (λF af=>?_) (λF B hz=>?_) (λE B w AB v J H h2=>?_) ?_ ⟨?_,λr o=>?_⟩
  ·unfold updH;rw [if_neg]
   ·exact R.hn F af
   ·rintro rfl;have:=R.bnd id _ _ hB' G;omega
  ·unfold updH;rw [if_neg (ah F B hz)]; exact R.zin F B hz
  ·unfold updH;rw [if_neg]
   ·exact h2
   ·rintro rfl;exact v (R.owI J hB' H (.inl G))
  ·unfold lset;refine BR.fmSet (e':=e') hd G (by simp [updH]) hn hl am (λE v=>?_) (by rw [hX,jbs]) (λE v=>by rw [hX,jbg (λe=>v e.symm)]) (λE r m B v o hB1=>?_) (λax Q=>?_) h1 ⟨ac,aa⟩
   ·have:=ad _ v;omega
   ·unfold updH;rw [if_neg]
    ·exact hB1
    ·rintro rfl;exact (C.2 r (kaK o)).2.2.1 id _ hB' G
   ·rw [hX,jbx (by rw [<-hn]; exact (jaf.1 ae).1)] at Q;cases Q;refine ⟨by rw [ac,kag t y' hd],λp b b' hp J ab=>?_,xs.map u.enc,by rw [S,jbx (by rw [kag t y0 hd]; exact hj)],by simp,?_⟩
    ·rw [S,jbg (λe=>hp e.symm)] at ab;exact ap p b b' hp J ab
    ·have hF:=hFam (updH h q (.cells t.wd T' (es.set i.toNat e'))) (λw L=>by
      unfold updH;rw [if_neg];rintro rfl;exact (M w L).2.2 id _ hB' (.inl G))
     have O:=ak;cases D with
     | none=>
      obtain ⟨k1,k2⟩:=hF;exact ⟨by rw [O,k1],by rw [k2]; rfl⟩
     | some w=>
      obtain ⟨k1,aj,k2⟩:=hF;exact ⟨by rw [O,k1],aj,k2⟩
  ·unfold kao;rw [hX];refine kix C.1 λw L hm=>?_;exact (M w L).2.2 id _ hB' (.inr ⟨rfl,hm⟩)
  ·rcases Z r o with o | o
   ·obtain ⟨k1,k2,k3,k4⟩:=C.2 r o;refine ⟨k1,k2,k3 id _ hB',λE B' v J H=>?_⟩;exact v (R.owI J hB' H (.inr ⟨rfl,o⟩))
   ·obtain ⟨k1,k2,k3⟩:=M r o;exact ⟨k1,k2,λe=>k3 id _ hB' (.inl e),λE B' _ J=>k3 E B' J⟩
theorem kuM (R:Rel P κ ln z c s env h n) {T T' U:Yc} {t u:Ty} {j:Nat} {l:Ya t.den} {p:Yf} {v:AV} {i:Int} {H:Yb Int} (Z:TVR P κ ln z s.n (.fo id i j) (ev env p)) (hB:alk s.hp id=some (some (.fm T' t j U u l H))) (hm:P.cellsOf T=1) (G:u.dat=true) (hc:c.has id=false)
  (J:∀ k:Int,H=some k->k=i) (m:H.isNone=true\/t.wd=1) {y M:t.den} {xs:Ya u.den} (W:gi l i=some y) (F:rowS (A:=sem) t u j y xs=some M)
  {L:Yb Nat} (x:(L=none/\xs=[]/\v=nilS)\/∃ B es,L=some B/\v = .ms B 0 xs.length/\h B=some (.cells u.wd U es)/\SnapE z es (xs.map u.enc)/\(∀ e∈es,e.length=u.wd/\∀ a∈e,a.one=true))
  (I:∀ B,L=some B->B<n/\z B=none/\∀ Y X,thp c s Y=some X->¬ Ow κ ln Y X B)
  (hk:Kf .ud { drpS s id with hp:=(id,some (.fm T' t j U u (lset l i M) none))::(drpS s id).hp }=some r) :
  ∃ ln',Ke c s.n κ ln κ ln'/\∃ h',(∀ K:K3,K .ud h' n->kcd P h n T (ev env p) v K)/\Rel P κ ln' z c { drpS s id with hp:=(id,some (.fm T' t j U u (lset l i M) none))::(drpS s id).hp } env h' n:=by
 have o:v.one=true/\kaI v=some [v]:=by
  rcases x with ⟨_,_,rfl⟩ | ⟨_,_,_,rfl,_⟩ <;> exact ⟨rfl,rfl⟩
 obtain ⟨hd,_⟩:=R.famAt (kab hB) W;obtain ⟨hj,_⟩:=kin hd G F;refine knj (av:=v) (y0:=y) R hB G hc J W F (λq es e hq hh he S O h0 hf=>?_) ⟨o.1,x⟩ I hk;have w:putAt e j [v]=e.set j v:=rfl;refine ⟨putAt e j [v],by rw [w,jbs]; exact S,λb C=>?_,by rw [w,jbx (by omega)],λp b b' hp C Q=>?_,λK hK=>?_⟩
 ·rw [w] at C;rcases List.mem_or_eq_of_mem_set C with C | rfl
  ·exact O b C
  ·exact o.1
 ·rw [w,jbg (λe=>hp e.symm)] at C;by_cases E:H=none
  ·exact hf E p b b' hp C Q
  ·exfalso;have hw:t.wd=1:=by
    rcases m with m | m
    ·exact absurd (jdo.1 m) E
    ·exact m
   have:=(jaf.1 C).1;omega
 ·generalize hx:ev env p=aa at Z;cases Z with
  | fo _ _ _ q' hN D i0 i1=>
   rw [hq] at D; cases D;simp only [kcd,hh,o.2,he];exact ⟨hm.symm,by simp,by simp; omega,hK⟩
theorem ktI (R:Rel P κ ln z c s env h n) {T T' U:Yc} {t u:Ty} {j:Nat} {l:Ya t.den} {p x:Yf} {i:Int} (Q:TVR P κ ln z s.n (.fo id i 0) (ev env p)) (hB:alk s.hp id=some (some (.fm T' t j U u l none))) (X:P.cellsOf T≠0) (ac:P.cellsOf T=t.wd) (I:u.dat=true) (S:c.has id=false)
  {as:Ya AV} (Y:ev env x = .ag as) (E:∀ a∈as,a.one=true) (B:as.length=t.wd) {y J y0:t.den} {xs:Ya u.den} (L:∀ p b b',p≠j->as[p]?=some b->(t.enc y0)[p]?=some b'->Snap z b b') {v:AV} (w:as[j]?=some v) (W:gi l i=some y) (G:rowS (A:=sem) t u j y0 xs=some J)
  {H:Yb Nat} (D:(H=none/\xs=[]/\v=nilS)\/∃ m es,H=some m/\v = .ms m 0 xs.length/\h m=some (.cells u.wd U es)/\SnapE z es (xs.map u.enc)/\(∀ e∈es,e.length=u.wd/\∀ a∈e,a.one=true))
  (F:∀ m,H=some m->m<n/\z m=none/\∀ O M,thp c s O=some M->¬ Ow κ ln O M m)
  (hk:Kf .ud { drpS s id with hp:=(id,some (.fm T' t j U u (lset l i J) none))::(drpS s id).hp }=some r) :
  ∃ ln',Ke c s.n κ ln κ ln'/\∃ h',(∀ K:K3,K .ud h' n->kcd P h n T (ev env p) (ev env x) K)/\Rel P κ ln' z c { drpS s id with hp:=(id,some (.fm T' t j U u (lset l i J) none))::(drpS s id).hp } env h' n:=by
 refine knj (av:=v) (y0:=y0) R hB I S (λk e=>by cases e) W G (λq es e Z hh he ae ad h0 hf=>?_) ⟨E v (jak w),D⟩ F hk;have C:putAt e 0 as=as:=by
  rw [kbY (by omega)];simp only [jdm,jbc,jcf];rw [jbw (by omega),jbe]
 refine ⟨as,B,E,w,L,λK hK=>?_⟩;generalize ab:ev env p=aa at Q;cases Q with
 | fo _ _ _ q' hN o i0 i1=>
  rw [Z] at o; cases o;simp only [kcd,Y,hh,kaI,he,C];exact ⟨by omega,by omega,by omega,hK⟩
theorem krS (R:Rel P κ ln z c s env h n) {T T' U:Yc} {t u:Ty} {j:Nat} {l:Ya t.den} {p x:Yf} {i:Int} {vs:Ya (TV sem)} (hu:TVR P κ ln z s.n (.fo id i 0) (ev env p)) (hv:TVR P κ ln z s.n (.ag vs) (ev env x)) (Z:vs[j]?=some (.fr id i)) (hB:alk s.hp id=some (some (.fm T' t j U u l none))) (ak:P.cellsOf T≠0) (al:P.cellsOf T=t.wd)
  {y0 y F:t.den} (ah:snapL (A:=sem) c s t (vs.set j (.sc (.slice none 0 0)))=some (y0,[],[])) (hy:gi l i=some y) {ys:Ya u.den} (W:rowD (A:=sem) t u j y=some ys) (ad:rowS (A:=sem) t u j y0 ys=some F) (hk:setB (A:=sem) s id (.fm T' t j U u (lset l i F) none) Kf=some r):Res P κ ln z c s env h n ⟨d,.store T p x,ty,pos,after,g⟩ Kf r:=by
 obtain ⟨o,h0,ai,q,es,e,rm,C,hh,he,hr,hf,hn,hl,h1,ae,_⟩:=R.famAt (kab hB) hy;have f:=hf (by simp);obtain ⟨af,hj,aa⟩:=kfh o W;obtain ⟨f1,Y⟩:=f.row aa;obtain ⟨_,D⟩:=kin o af ad;generalize hx:ev env p=av at hu;generalize ab:ev env x=xv at hv;cases hv with
 | ag _ as v J=>
 cases hu with
 | fo _ _ _ q' hN H i0 i1=>
  rw [C] at H; cases H;obtain ⟨aj,S,E⟩:=v.at Z;have I:=v.set (.sc (.slice none 0 0) rfl:TVR P κ ln z s.n (.sc (.slice none 0 0)) nilS) j;obtain ⟨a1,b1,e1,e2,X,_⟩:=kcl R t _ _ _ _ _ o I ah;cases e2;rw [jbe] at e1;rw [kbB] at X;subst e1;have a:as.length=t.wd:=by have:=X.len; rw [jbs,kag t y0 o] at this; exact this.symm
  have an:=(h1 e (jak he)).1;have G:(t.enc F)[j]?=some (.sl (ys.map u.enc)):=by rw [D,jbx (by rw [kag t y0 o]; exact hj)]
  have Q:e[j]?=some aj:=by
   obtain ⟨_,_,⟨m,g1,g2⟩ | ⟨r',m,g1,g2⟩⟩:=E.fr_inv
   ·rw [hr] at g1; cases g1;rcases Y with ⟨_,k,_⟩ | ⟨r2,es',k,_⟩
    ·rw [k,g2]
    ·cases k
   ·rw [hr] at g1; cases g1;rcases Y with ⟨k,_⟩ | ⟨r2,es',k,f4,_⟩
    ·cases k
    ·rw [f4,g2]; cases k; rfl
  have M:putAt e 0 as=as:=by
   rw [kbY (by omega)];simp only [jdm,jbc,jcf];rw [jbw (by omega),jbe]
  have L:BR P κ ln z (updH h q (.cells t.wd T' (es.set i.toNat as))) s.n id (.fm T' t j U u (lset l i F) none):=by
   unfold lset;refine BR.fmSet (e':=as) o C (by simp [updH]) hn hl ae (λi e=>by cases e) rfl (λ_ _=>rfl) (λi' r m B hi ac hB'=>?_) (λam w=>?_) h1 ⟨a,λb hb=>J b hb⟩
   ·unfold updH;rw [if_neg]
    ·exact hB'
    ·rintro rfl;exact ((R.fam id _ (kab hB) rfl).2 r (kaK ac)).2.2.1 id _ (kab hB) C
   ·rw [hr] at w; cases w;refine ⟨by rw [a,kag t F o],λp b b' hp hb O=>?_,ys.map u.enc,G,f1,?_⟩
    ·rw [D,jbg (λe=>hp e.symm)] at O;exact X.at p b b' (by rw [jbg (λe=>hp e.symm)]; exact hb) O
    ·obtain ⟨rr,m⟩:=rm;rcases Y with ⟨k1,k2,k3⟩ | ⟨r2,es',k1,k2,k3,k4,k5⟩
     ·simp only at k1; subst k1;rw [Q] at k2;exact ⟨by rw [S]; exact k2,k3⟩
     ·simp only at k1; subst k1;rw [Q] at k2;refine ⟨by rw [S]; exact k2,es',?_,k4,k5⟩;unfold updH;rw [if_neg]
      ·exact k3
      ·rintro rfl;exact ((R.fam id _ (kab hB) rfl).2 _ (kaK hr)).2.2.1 id _ (kab hB) C
  have R':=R.setO (AB:=.cells t.wd T' (es.set i.toNat as)) hB (.inl C) L (λ_=>rfl);exact ⟨.ud,_,.ud,_,n,κ,ln,z,λK hK=>by
   simp only [aop,kcd,hx,ab,hh,kaI,he,M];exact ⟨by omega,by omega,by omega,hK⟩,hk,R',.ud,jag _,.refl,λhc=>by cases hc⟩
theorem klV (s:TS sem) (r:Yb Nat):(rowN s r).n=s.n:=by cases r <;> rfl
theorem kyl (s:TS sem) (id:Nat):(drpS s id).n=s.n:=rfl
theorem koC (R:Rel P κ ln z c s env h n) {U:Yc} {u:Ty} {v:TV sem} {G:AV} (H:TVR P κ ln z s.n v G) {xs:Ya u.den} {rd:Yb Nat} (b:klZ (A:=sem) s U u v=some (xs,rd)) :
  Rel P κ ln z c (rowN s rd) env h n/\(∀ i B,alk s.hp i=some (some B)->B.isF=true->alk (rowN s rd).hp i=some (some B))/\∃ M:Yb Nat,((M=none/\xs=[]/\G=nilS)\/∃ l es,M=some l/\G = .ms l 0 xs.length/\h l=some (.cells u.wd U es)/\SnapE z es (xs.map u.enc)/\(∀ e∈es,e.length=u.wd/\∀ a∈e,a.one=true))/\
   (∀ l,M=some l->l<n/\z l=none/\∀ m o,thp c (rowN s rd) m=some o->¬ Ow κ ln m o l):=by
 unfold klZ at b;split at b
 ·rename_i t;split at b
  ·rename_i Z u' l' hBr;split at b
   ·rename_i hU;simp only [jad] at b;obtain ⟨W,E,O⟩:=b;cases O;obtain ⟨X,rfl⟩:=kak E;cases X;subst hU;have C:∀ m o,thp c (rowN s (some t)) m=some o->m≠t/\thp c s m=some o:=λm o k=>by
     unfold rowN at k;rw [kbs] at k;split at k
     ·cases k
     ·rename_i e; exact ⟨e,k⟩
    refine ⟨R.del (h':=h) hBr (λ_ _ h=>h) (λ_ _ _ h=>h),λi B hB hF=>?_,?_⟩
    ·have L:i≠t:=by rintro rfl; rw [hB] at hBr; cases hBr; cases hF
     simp only [rowN,alk]; rw [if_neg L]; exact hB
    ·cases R.blk _ _ (kab hBr) with
     | sl0 _ _ _ D j I x=>
      subst I;refine ⟨none,.inl ⟨rfl,rfl,?_⟩,λl e=>by cases e⟩;cases H with
      | mw0=>rfl
      | mw _ q _ p=>rw [j] at p; cases p
     | sl _ _ _ S es' D j F y K x=>
      refine ⟨some S,.inr ⟨S,es',rfl,?_,F,y,λe Q=>⟨y.heads D e Q,K e Q⟩⟩,λl e=>?_⟩
      ·rw [x];cases H with
       | mw0 _ _ p=>rw [j] at p; cases p
       | mw _ q _ p=>rw [j] at p; cases p; rfl
      ·cases e;refine ⟨R.bnd _ _ _ (kab hBr) j,R.zout _ _ _ (kab hBr) j,λm o k J=>?_⟩;obtain ⟨T,Y⟩:=C m o k;exact T (R.owI Y (kab hBr) J (.inl j))
   ·cases b
  ·cases b
 ·rename_i w;split at b
  ·rename_i hn;cases b;exact ⟨R,λ_ _ h _=>h,none,.inl ⟨rfl,rfl,by cases H; rw [kbh hn]⟩,λl e=>by cases e⟩
  ·cases b
 ·cases b
theorem ksB (R:Rel P κ ln z c s env h n) {T:Yc} {p x:Yf} {i:Int} {o:Nat} {v:TV sem} (Y:TVR P κ ln z s.n (.fo id i o) (ev env p)) (Q:TVR P κ ln z s.n v (ev env x)) (a:kqB P c s T id i o v Kf=some r):Res P κ ln z c s env h n ⟨d,.store T p x,ty,pos,after,g⟩ Kf r:=by
 unfold kqB at a;split at a
 ·rename_i ag T' t j U u l ho am hB;replace hB:=kdv hB;split at a
  ·exact kaa a
  ·rename_i X;split at a
   ·rename_i B;obtain ⟨_,rfl,ac,ab⟩:=B;split at a
    ·rename_i xs rv C;split at a
     ·exact kaa a
     ·rename_i m;have m:c.has id=false:=by simpa using m
      obtain ⟨A,Z⟩:=kzi a;clear a;simp only [jaa] at A;obtain ⟨y,E,A⟩:=A;split at A
      ·rename_i y' k;have H:u.dat=true:=by
        obtain ⟨W,_⟩:=R.famAt (kab hB) E;exact ktP W k
       obtain ⟨R0,hB0,ad,w1,w2⟩:=koC R Q C;have hB0:=hB0 _ _ hB rfl;obtain ⟨ln',g1,h',g2,g3⟩:=kuM R0 (by rw [klV]; exact Y) hB0 ac H m Z ab E k w1 w2 A;rw [klV] at g1;exact ⟨_,_,_,_,_,_,_,_,λK hK=>by simp only [aop]; exact g2 K hK,A,g3,.ud,by simp [klV,kyl],g1,λB=>by cases B⟩
      ·exact kaa A
    ·exact kaa a
   ·split at a
    ·rename_i B;obtain ⟨B,D⟩:=B;obtain rfl:=jdo.1 D;simp only [jaa] at a;obtain ⟨y,E,a⟩:=a;split at a
     ·rename_i y' k;exact ktD R Y Q hB X B E k a
     ·exact kaa a
    ·split at a
     ·rename_i vs;split at a
      ·rename_i al i' F;split at a
       ·rename_i B;obtain ⟨rfl,G,D,rfl⟩:=B;obtain rfl:=jdo.1 D;split at a
        ·rename_i y0 I;simp only [jaa] at a;obtain ⟨y,E,_,hg,a⟩:=a;have ah:i=i':=by
          unfold gsame at hg;split at hg
          ·assumption
          ·cases hg
         subst ah;split at a
         ·rename_i y' k;obtain ⟨ys,aa,k⟩:=jaa.1 k;exact krS R Y Q F hB (by omega) G I E aa k a
         ·exact kaa a
        ·exact kaa a
       ·exact kaa a
      ·rename_i w ak F;split at a
       ·rename_i B;obtain ⟨rfl,G,D⟩:=B;obtain rfl:=jdo.1 D;split at a
        ·rename_i xs rd C;split at a
         ·exact kaa a
         ·rename_i m;have m:c.has id=false:=by simpa using m
          split at a
          ·rename_i y0 I;simp only [jaa] at a;obtain ⟨y,E,a⟩:=a;split at a
           ·rename_i y' k;obtain ⟨W,_⟩:=R.famAt (kab hB) E;have H:=ktP W k;generalize ae:ev env x=xv at Q;cases Q with
            | ag _ as J S=>
             obtain ⟨aj,ai,L⟩:=J.at F;obtain ⟨R0,hB0,ad,w1,w2⟩:=koC R L C;have hB0:=hB0 _ _ hB rfl;have O:=J.set (.sc (.slice none 0 0) rfl:TVR P κ ln z s.n (.sc (.slice none 0 0)) nilS) j;obtain ⟨a1,b1,e1,e2,e3,_⟩:=kcl R t _ _ _ _ _ W O I;cases e2;rw [jbe] at e1;rw [kbB] at e3;subst e1;have M:as.length=t.wd:=by have:=e3.len; rw [jbs,kag t y0 W] at this; exact this.symm
             obtain ⟨ln',g1,h',g2,g3⟩:=ktI R0 (by rw [klV]; exact Y) hB0 X G H m ae S M (λp b b' hp hb af=>e3.at p b b' (by rw [jbg (λe=>hp e.symm)]; exact hb) af) ai E k w1 w2 a;rw [klV] at g1;exact ⟨_,_,_,_,_,_,_,_,λK hK=>by simp only [aop]; exact g2 K hK,a,g3,.ud,by simp [klV,kyl],g1,λB=>by cases B⟩
           ·exact kaa a
          ·exact kaa a
        ·exact kaa a
       ·exact kaa a
      ·exact kaa a
     ·exact kaa a
 ·exact kaa a
end
theorem arr_of' {α:Type} {a:Array α} {l:Ya α} (h:a.toList=l):a=l.toArray:=by rw [<-h]
section
variable {P:Yd} {κ κ':Nat->Yb Nat} {ln ln':Nat->Nat} {z z':AH} {c:Cx sem} {s:TS sem} {env:Env} {h h':AH} {n n' N N':Nat} {id:Nat}
variable {ρ:Ty} {Kf:TV sem->TS sem->sem.Ans ρ} {r:ρ.den}
variable {d:Yb Tmp} {ty:Yc} {pos:String} {after:Array Edge} {g:Yb (Nat×Bool)}
theorem kzF (R:Rel P κ ln z c s env h n) {x y:Yf} {m:Int} (j:kkI x y=true) (t:tev c s x = .c (.i .i64) m):ev env x = .sc (.int .i64 m)/\∃ l,ev env y = .sc (.int l m):=by
 have p:=R.ev x;rw [t] at p;have e:=p.i_inv;refine ⟨e,?_⟩;unfold kkI at j;split at j
 ·rename_i a b;obtain rfl:a=b:=by simpa using j
  exact ⟨_,e⟩
 ·rename_i k a l b;have o:a=b:=by simpa using j
  subst o;have:(Value.int k a) = .int .i64 m:=by simpa [ev,cst] using e
  cases this;exact ⟨l,rfl⟩
 ·cases j
theorem FamE.nil {w:Nat} {U:Yc} {cs e:Ya AV} {j:Nat} {ys:Ya (Ya AV)} (k:SnapL z e cs) (l:cs[j]?=some (.sl ys)) (b:∃ v,e[j]?=some (.sc v)):FamE z h j U w cs e (none,0):=by
 obtain ⟨v,b⟩:=b;have p:=k.at j _ _ b l;rcases p.sl_inv with ⟨es,h2,_⟩ | ⟨h2,m⟩ | ⟨_,_,_,_,_,_,h2,_⟩
 ·cases h2
 ·exact ⟨k.len.symm,λq a a' _ o i=>k.at q a a' o i,ys,l,by rw [m]; rfl,by rw [b,h2],m⟩
 ·cases h2
theorem kmJ {e:Yc} {t u:Ty} {j:Nat} {U:Yc} (h:famO P e=some (t,j,U,u)):t.dat=true/\u.dat=true/\tyOf P e=some t:=by
 unfold famO at h;split at h
 ·rename_i t' Ts a hT;split at h
  ·simp only [jad] at h;obtain ⟨u',i,b⟩:=h;cases b;exact ⟨kfg a,kfg i,a⟩
  ·cases h
 ·cases h
theorem ktz (R:Rel P κ ln z c s env h n) {T:Yc} {e:Yc} {x y:Yf} (he:elemO P T=some e) (k:ksc P s e (tev c s x) (kkI x y) Kf=some r):Res P κ ln z c s env h n ⟨d,.makeSlice T x y,ty,pos,after,g⟩ Kf r:=by
 unfold ksc at k;split at k
 ·rename_i t j U u w m hf hz hm;split at k
  ·rename_i M O;split at k
   ·rename_i H;obtain ⟨hs,L,o,aa,hb,D⟩:=H;obtain ⟨F,ab,_⟩:=kmJ hf;obtain ⟨G,k',S⟩:=kzF R hs hm;simp only [jaa] at k;obtain ⟨l,E,k⟩:=k;obtain ⟨g1,g2,E⟩:=kxj E;obtain ⟨rest,hr,Q⟩:=(jct _ _).1 L;obtain rfl:=jcw.1 Q;obtain ⟨a,Z,ha⟩:=kek (z:=z) t M w [] F O hr;rw [jbe] at Z; subst Z;obtain ⟨ys,W⟩:=jao.1 D;obtain ⟨_,hj,J⟩:=kfh F W;have Y:FamE z (updH h n (.cells t.wd e (List.replicate m.toNat w))) j U u.wd (t.enc M) w (none,0):=by
     refine FamE.nil ha J ?_;have h1:w[j]?=some (w[j]'(by omega)):=jae _;obtain ⟨v,hv,_⟩:=kkY hz _ (jak h1);exact ⟨v,by rw [h1,hv]⟩
    have C:kao (codeR (List.replicate m.toNat (none,0)))=[]:=by
     rw [koe];generalize m.toNat=p;induction p with
     | zero=>rfl
     | succ p ih=>rw [List.replicate_succ,jcu]; exact ih
    have R':=R.newF (h':=updH h n (.cells t.wd e (List.replicate m.toNat w))) (n':=n+1) (.fm e t j U u l none) (some n) (codeR (List.replicate m.toNat (none,0))) (λq B A=>by
      unfold updH; rw [if_neg]; ·exact A
      rintro rfl; rw [R.hn _ (jag _)] at A; cases A) (jca _) (λq A=>by cases A; omega) (λq A=>by unfold updH; rw [if_neg (by omega)]; exact R.hn q (by omega))
     (.fm e t j U u l none n (List.replicate m.toNat w) F updK_self (by simp [updH]) (by rw [updK_self,kbS,E]; simp) (by rw [E]; simp) (λi x e' rm I b hr _=>by
      rw [updK_self,kbS,jcd] at hr;rw [E,jcd] at I;rw [jcd] at b;split at hr
      ·rename_i X;rw [if_pos X] at I b;cases hr; cases I; cases b;exact Y
      ·cases hr) (λi rm hi=>by cases hi) (λe' b=>by
       obtain ⟨_,rfl⟩:=List.mem_replicate.1 b;exact ⟨o,ha.one_rev (kbk t M F)⟩)) (by rw [C]; exact ⟨List.nodup_nil,λr hr=>by cases hr⟩)
    refine ⟨.fw s.n,_,.ms n 0 m.toNat,_,_,_,_,_,λK hK=>?_,k,R',?_,jca _,λid hi=>⟨kaC hi,λ_=>kaC hi⟩,λH=>by cases H⟩
    ·simp only [aop,he,hz,G,S];refine ⟨trivial,g1,g2,hb,by rintro rfl; simp at o; omega,?_⟩;rw [o]; exact hK
    ·have:=TVR.fw (P:=P) (κ:=updK κ s.n (some n)) (ln:=updK ln s.n (codeR (List.replicate m.toNat (none,0)))) (z:=z) (N:=s.n+1) s.n n (jbl _) updK_self;rw [updK_self,kbS,jdb] at this;exact this
   ·exact kaa k
  ·exact kaa k
 ·exact kaa k
theorem ktV (R:Rel P κ ln z c s env h n) {T T2:Yc} {x y:Yf} {a:Int} {v:TV sem} (hu:TVR P κ ln z s.n (.fr id a) (ev env x)) (hv:TVR P κ ln z s.n v (ev env y)) (o:kvp P c s T T2 id a v Kf=some r) :
  Res P κ ln z c s env h n ⟨d,.call ⟨.builtin .append,#[x,y],#[T,T2]⟩,ty,pos,after,g⟩ Kf r:=by
 unfold kvp at o;split at o
 ·rename_i e T' t j U u l he hB;replace hB:=kdv hB;split at o
  ·rename_i zs hz;split at o
   ·rename_i hc;obtain ⟨hp,F,ax,hb,rfl⟩:=hc;have E:zs≠[]:=by rintro rfl; simp at F; omega
    split at o
    ·exact kaa o
    ·rename_i H;have H:c.has id=false:=by simpa using H
     split at o
     ·exact kaa o
     ·rename_i xs ids ae;simp only [jaa] at o;obtain ⟨w,hw,o⟩:=o;split at o
      ·rename_i ys am;simp only [jaa] at o;obtain ⟨l',hg,o⟩:=o;obtain ⟨au,hg⟩:=kiQ hg;subst hg;obtain ⟨ad,bs,I,ab⟩:=kow R hv ae;have J:=ab.1;rw [jaq] at J;obtain ⟨hd,h0,ay,q,es,e',rm,C,hh,aB,hr,hf,hn,hl,M,aw,aA⟩:=R.famAt (kab hB) hw;obtain ⟨_,hj,ar⟩:=kfh hd am;obtain ⟨f1,f2⟩:=(hf (by simp)).row ar;rw [jaq] at f1;have hB':=kab (c:=c) hB;have A:=R.fam id _ hB' rfl;have an:=(jaf.1 hr).1;rw [<-F] at I;have hX:∀ X,X=updK ln id (codeR ((kad (ln id)).set a.toNat (none,0)))->kad (X id)=(kad (ln id)).set a.toNat (none,0):=λX e=>by rw [e,updK_self,kbS]
       have Q:∀ (M:AH),(∀ i,(∀ m,(kad (ln id))[a.toNat]?≠some (some i,m))->M i=h i)->(∀ i,n<=i->M i=none)->Rel P κ (updK ln id (codeR ((kad (ln id)).set a.toNat (none,0)))) z c { drpS s id with hp:=(id,some (.fm T' t j e u l (some a)))::(drpS s id).hp } env M n:=λG k1 k2=>by
        have hX':=hX _ rfl;have kz:∀ i,(∀ r,r∈kao (ln id)->r≠i)->G i=h i:=λi D=>k1 i λm hm=>D i (kaK hm) rfl;have ai:∀ r,r∈kao (updK ln id (codeR ((kad (ln id)).set a.toNat (none,0))) id)->r∈kao (ln id):=λr b=>by
         unfold kao at b ⊢;rw [hX'] at b;rcases kjZ b with h | h
         ·exact h
         ·cases h
        refine R.famSet H hB rfl rfl (by rw [hX',jbs]) (λO p=>by unfold updK; rw [if_neg p]) (jag _) k2 (λi B aa=>?_) (λO B rr AB p Z Y h2=>?_) ?_ ⟨?_,λr b=>?_⟩
        ·rw [kz i λr b e=>?_]
         ·exact R.zin i B aa
         ·subst e; rw [(A.2 r b).2.1] at aa; cases aa
        ·rw [kz rr λr b e=>?_]
         ·exact h2
         ·subst e; exact p (R.owI Z hB' Y (.inr ⟨rfl,b⟩))
        ·refine .fm T' t j e u l (some a) q es hd C ?_ (by rw [hX',jbs]; exact hn) hl (λO x' e2 ac ap ao b L=>?_) (λO ac p b=>?_) M
         ·rw [kz q λr b e=>?_]
          ·exact hh
          ·subst e; exact (A.2 r b).2.2.1 id _ hB' C
         ·have af:O≠a.toNat:=λe=>L (by rw [e,Int.toNat_of_nonneg h0]);rw [hX',jbg (λe=>af e.symm)] at b;refine (aw O x' e2 ac ap ao b (by simp)).mono (λ_ _ h=>h) λrr B aj hBB=>?_;obtain ⟨az,m'⟩:=ac;simp only at aj; subst aj;rw [k1 rr λm hm=>?_]
          ·exact hBB
          ·exact af (klK A.1 b hm rfl rfl)
         ·have:O=a.toNat:=by cases p; simp
          subst this;rw [hX',jbx an] at b;cases b; rfl
        ·unfold kao;rw [hX'];exact kix A.1 λrr aq=>by cases aq
        ·have b:=ai r b;obtain ⟨w1,w2,w3,w4⟩:=A.2 r b;refine ⟨w1,w2,w3 id _ hB',λO B2 p Z Y=>?_⟩;exact p (R.owI Z hB' Y (.inr ⟨rfl,b⟩))
       have ke:∀ m k,Ke c s.n κ ln (updK κ s.n k) (updK (updK ln id (codeR ((kad (ln id)).set a.toNat (none,0)))) s.n m):=λm k O p=>⟨kaC p,λah=>by
        rw [kaC p];unfold updK;rw [if_neg];rintro rfl;rw [H] at ah; cases ah⟩
       have fin:∀ (M:AH) (es':Ya (Ya AV)),(∀ i,(∀ m,(kad (ln id))[a.toNat]?≠some (some i,m))->M i=h i)->(∀ i,n<=i->M i=none)->SnapE z es' ((ys++xs).map u.enc)->(∀ K:K3,K (.ms n 0 (ys++xs).length) (updH M n (.cells u.wd e es')) (n+1)->aop P env h n ⟨d,.call ⟨.builtin .append,#[x,y],#[T,T2]⟩,ty,pos,after,g⟩ K)->Res P κ ln z c s env h n ⟨d,.call ⟨.builtin .append,#[x,y],#[T,T2]⟩,ty,pos,after,g⟩ Kf r:=λG es' k1 k2 ak hK=>by
        have R1:=Q G k1 k2;have R2:=R1.new (h':=updH G n (.cells u.wd e es')) (n':=n+1) (.sl e u (ys++xs)) (some n) (ys++xs).length (λq B C=>by
          unfold updH; rw [if_neg]; ·exact C
          rintro rfl; rw [R1.hn _ (jag _)] at C; cases C) (jca _) (λq C=>by cases C; omega) (λq C=>by unfold updH; rw [if_neg (by omega)]; exact R1.hn q (by omega))
         (.sl e u (ys++xs) n es' ad updK_self (by simp [updH]) ak (ak.ones ad) updK_self.symm)
        refine ⟨.mw s.n,_,_,_,_,_,_,_,hK,o,R2,?_,jca _,ke _ _,λhc=>by cases hc⟩;have:=TVR.mw (P:=P) (κ:=updK κ s.n (some n)) (ln:=updK (updK ln id (codeR ((kad (ln id)).set a.toNat (none,0)))) s.n (ys++xs).length) (z:=z) (N:=s.n+1) s.n n (jbl _) updK_self;rw [updK_self] at this;exact this
       obtain ⟨hN,a0,⟨m,g1,g2⟩ | ⟨r',m,g1,g2⟩⟩:=hu.fr_inv
       ·rw [hr] at g1; cases g1;rcases f2 with ⟨_,_,S⟩ | ⟨r2,es',S,_⟩
        ·rw [jdr] at S; subst S;rw [jbc] at o fin;have W:bs.length<=1048576:=by simp at au; omega
         by_cases L:bs=[]
         ·subst L;have:xs=[]:=by simpa using J
          subst this;have R1:=Q h (λ_ _=>rfl) R.hn;have R2:=R1.new (h':=h) (n':=n) (.sl e u []) none 0 (λq B C=>C) (jag _) (λq C=>by cases C) R1.hn (.sl0 e u [] ad updK_self rfl updK_self);refine ⟨.mw s.n,_,nilS,_,_,_,_,_,λK hK=>?_,o,R2,.mw0 s.n (jbl _) updK_self,jca _,ke _ _,λhc=>by cases hc⟩;simp only [aop,kai,g2,kcf,he,hz,I];exact ⟨hp,E,hb,W,λ_=>hK,λh=>absurd rfl h⟩
         ·refine fin h bs (λ_ _=>rfl) R.hn ab λK hK=>?_;simp only [aop,kai,g2,kcf,he,hz,I];refine ⟨hp,E,hb,W,λh=>absurd h L,λ_=>?_⟩;rw [F,<-J]; exact hK
        ·cases S
       ·rw [hr] at g1; cases g1;rcases f2 with ⟨S,_⟩ | ⟨r2,es',S,f4,f5,f6,f7⟩
        ·cases S
        ·cases S;simp only at f1;subst f1;have al:=f6.1;rw [jaq] at al;refine fin (delH h r') (es'++bs) (λi D=>?_) (λi D=>?_) (by rw [jcm]; exact f6.append ab) λK hK=>?_
         ·unfold delH;rw [if_neg];rintro rfl;exact D _ hr
         ·unfold delH;split
          ·rfl
          ·exact R.hn i D
         ·simp only [aop,kai,g2,kcf,he,hz,I,f5];refine ⟨hp,E,hb,F.symm,trivial,al.symm,by omega,?_⟩;rw [jbh,J] at hK;exact hK
      ·exact kaa o
   ·exact kaa o
  ·exact kaa o
 ·exact kaa o
end
end Go.Abs
