/- The machinery, part 5. -/
import Derived.Test.YtpjlpghgmjlbbaaGreatZ2
import Derived.Test.YtpjlpghgmjlbbaaGreatZ4
set_option linter.constructorNameAsVariable false
set_option linter.unusedVariables false
set_option linter.unusedSimpArgs false
set_option linter.unusedSectionVars false
namespace Go.Abs
open Go Go.RowKit
def liveP (h:AH):Nat->Bool:=fun i=>(h i).isSome
section
variable {P:Program} {f:FuncId} {args:List AV}
theorem HC.frm2 {h hE:AH} {n:Nat} {R K:K3} (I:List Nat) (hi:∀ i B,hE i=some B->I.contains i=true/\h i=some B) (hI:∀ i,I.contains i=true->i<n) (hn:∀ i,n<=i->h i=none)
  (hR:∀ v h' n',R v h' n'->On (liveP h') v/\∀ i B,h' i=some B->OnB (liveP h') B)
  (hc:HC P f args hE n R) (hk:∀ v h' n',R v h' n'->n<=n'->(∀ i B,h' i=some B->I.contains i=true\/(n<=i/\i<n'))->K v (fun i=>if I.contains i||decide (n<=i) then h' i else h i) n'):HC P f args h n K:=by
 refine ⟨hc.1,fun O μ w vs hr hsz hva=>?_⟩
 have hrI:HR w (Av O (muO I μ)) (muI I μ) hE n:=by
  refine ⟨fun b hb=>?_,fun id b k e=>hr.scope id b k (kap e).2,fun id id' b k k' e e'=>hr.inj id id' b k k' (kap e).2 (kap e').2,fun id b k e hO=>?_,fun id B hB=>?_⟩
  ·rcases hb with hb | ⟨id,k,hb⟩
   ·exact hr.olt b hb
   ·exact (hr.scope id b k (kaE hb).2).2
  ·obtain ⟨e1,e2⟩:=kap e
   rcases hO with hO | ⟨id',k',hO⟩
   ·exact hr.notO id b k e2 hO
   ·obtain ⟨e3,e4⟩:=kaE hO
    rw [hr.inj _ _ _ _ _ e2 e4] at e1
    rw [e1] at e3; cases e3
  ·obtain ⟨h1,h2⟩:=hi id B hB
   exact (hr.blk id B h2).mapV (by simp only [muI]; rw [if_pos h1]) fun hv=>hv.split I
 refine (hc.2 (Av O (muO I μ)) (muI I μ) w vs hrI hsz (fun j c hj=>?_)).mono ?_
 ·obtain ⟨u,h1,h2⟩:=hva j c hj
  exact ⟨u,h1,h2.split I⟩
 rintro e w' ⟨u,v,h',n',μ',rfl,q1,q2,q3,q4⟩
 have hnn:=q4.le
 let p:Nat->Bool:=fun i=>I.contains i||decide (n<=i)
 have hp0:∀ {i},p i=false->I.contains i=false/\i<n:=fun {i} hp=>by simpa [p] using hp
 have hm:∀ id,p id=true->(fun i=>if p i then μ' i else μ i) id = μ' id:=fun id h=>by simp only [h,if_true]
 have hm0:∀ id,p id=false->(fun i=>if p i then μ' i else μ i) id = μ id:=fun id h=>by simp only [h,jaj,if_false]
 have hsome:∀ id b k,μ' id=some (b,k)->p id=true:=fun id b k e=>by
  rcases jax (p id) with hp | hp
  ·exact hp
  ·obtain ⟨e1,e2⟩:=hp0 hp
   rcases q4.ids id e2 with e3 | e3
   ·rw [e3] at e; rw [(kap e).1] at e1; cases e1
   ·rw [e3] at e; cases e
 have hlive:∀ i B,h' i=some B->p i=true/\i<n':=fun i B hB=>by
  have:=q2.blk i B hB
  cases B with
  | cells k T es=>obtain ⟨b,c,h1,_⟩:=this; exact ⟨hsome i b k h1,(q2.scope i b k h1).1⟩
  | map kvs=>obtain ⟨b,es,h1,_⟩:=this; exact ⟨hsome i b 0 h1,(q2.scope i b 0 h1).1⟩
  | si s pos=>obtain ⟨b,h1,_⟩:=this; exact ⟨hsome i b 0 h1,(q2.scope i b 0 h1).1⟩
 have hliveP:∀ i,liveP h' i=true->p i=true/\i<n':=fun i hi=>by
  obtain ⟨B,hB⟩:=jao.1 hi
  exact hlive i B hB
 replace hk:=hk v h' n' q1 hnn fun i B hB=>by
  obtain ⟨h1,h2⟩:=hlive i B hB
  simp only [p,jav,jai] at h1
  rcases h1 with h1 | h1
  ·exact .inl h1
  ·exact .inr ⟨h1,h2⟩
 obtain ⟨hv,hb⟩:=hR v h' n' q1
 have hout:∀ id b k,μ id=some (b,k)->p id=false->Av O (muO I μ) b:=fun id b k e hp=>.inr ⟨id,k,by unfold muO; rw [if_neg (by rw [(hp0 hp).1]; decide)]; exact e⟩
 have hav:∀ b,Av O (fun i=>if p i then μ' i else μ i) b->Av (Av O (muO I μ)) μ' b:=fun b hb=>by
  rcases hb with hb | ⟨id,k,hb⟩
  ·exact .inl (.inl hb)
  ·rcases jax (p id) with hI' | hI'
   ·exact .inr ⟨id,k,(hm id hI') ▸ hb⟩
   ·exact .inl (hout id b k ((hm0 id hI') ▸ hb) hI')
 have hE2:Evo w μ n w' (fun i=>if p i then μ' i else μ i) n':=by
  refine ⟨q4.os,q4.tape,q4.output,q4.size,hnn,fun b hb hn=>q4.keep b hb fun id k e=>hn id k (kap e).2,q4.row,fun id hid=>?_,fun id b k e hn=>?_⟩
  ·rcases jax (p id) with hI' | hI'
   ·have e0:=hm id hI'
    simp only at e0
    rw [e0]
    have hIc:I.contains id=true:=by
     simp only [p,jav,jai] at hI'
     rcases hI' with hI' | hI'
     ·exact hI'
     ·omega
    rcases q4.ids id hid with e1 | e1
    ·rw [e1]; left; unfold muI; rw [if_pos hIc]
    ·exact .inr e1
   ·exact .inl (hm0 id hI')
  ·rcases jax (p id) with hI' | hI'
   ·rcases q4.new id b k ((hm id hI') ▸ e) hn with h1 | ⟨id0,k0,h1⟩
    ·exact .inl h1
    ·exact .inr ⟨id0,k0,(kap h1).2⟩
   ·exact absurd (hr.scope id b k ((hm0 id hI') ▸ e)).1 (by omega)
 have hH2:HR w' O (fun i=>if p i then μ' i else μ i) (fun i=>if p i then h' i else h i) n':=by
  refine ⟨fun b hb=>jan (hr.olt b hb) q4.size,fun id b k e=>?_,fun id id' b k k' e e'=>?_,fun id b k e=>?_,fun id B hB=>?_⟩
  ·rcases jax (p id) with hI' | hI'
   ·exact q2.scope id b k ((hm id hI') ▸ e)
   ·have:=hr.scope id b k ((hm0 id hI') ▸ e)
    exact ⟨jan this.1 hnn,jan this.2 q4.size⟩
  ·rcases jax (p id) with hI1 | hI1
   ·have e1:μ' id=some (b,k):=(hm id hI1) ▸ e
    rcases jax (p id') with hI2 | hI2
    ·exact q2.inj id id' b k k' e1 ((hm id' hI2) ▸ e')
    ·exact absurd (hout id' b k' ((hm0 id' hI2) ▸ e') hI2) (q2.notO id b k e1)
   ·have e1:μ id=some (b,k):=(hm0 id hI1) ▸ e
    rcases jax (p id') with hI2 | hI2
    ·exact absurd (hout id b k e1 hI1) (q2.notO id' b k' ((hm id' hI2) ▸ e'))
    ·exact hr.inj id id' b k k' e1 ((hm0 id' hI2) ▸ e')
  ·rcases jax (p id) with hI' | hI'
   ·exact fun hO=>q2.notO id b k ((hm id hI') ▸ e) (.inl hO)
   ·exact hr.notO id b k ((hm0 id hI') ▸ e)
  ·rcases jax (p id) with hI' | hI'
   ·simp only [hI',if_true] at hB
    exact (q2.blk id B hB).on (hb id B hB) (hm id hI') (fun i h=>⟨hm i (hliveP i h).1,(hliveP i h).2⟩) hav
   ·simp only [hI',jaj,if_false] at hB
    refine (hr.blk id B hB).evo (hm0 id hI') (fun b k e=>q4.keep b (hr.scope id b k e).2 fun id' k' e'=>?_) hE2
    obtain ⟨e1,e2⟩:=kap e'
    rw [hr.inj _ _ _ _ _ e e2] at hI'
    rw [(hp0 hI').1] at e1; cases e1
 exact ⟨u,_,_,_,_,rfl,hk,hH2,q3.on hv (fun i h=>⟨hm i (hliveP i h).1,(hliveP i h).2⟩) hav,hE2⟩
end
section
variable (P:Program)
def A1:(t:Ty)->t.den->AV->Prop
 | .fn n x y,F,a=>CV P n x y F a
 | t,x,a=>t.dat=true/\a=t.av x
inductive AL:List ((t:Ty)×t.den)->List AV->Prop
 | nil:AL [] []
 | cons {p:(t:Ty)×t.den} {a:AV} {l:List ((t:Ty)×t.den)} {as:List AV} (h:A1 P p.1 p.2 a) (hl:AL l as):AL (p::l) (a::as)
def PArgs:List (Option Ty)->List ((t:Ty)×t.den)->List AV->Prop
 | some _::ks,p::l,a::as=>A1 P p.1 p.2 a/\PArgs ks l as
 | none::ks,l,_::as=>PArgs ks l as
 | [],[],[]=>True
 | _,_,_=>False
end
def tpA:List AV->AV
 | [a]=>a
 | l=>.tp l
def resE (vs:List AV):Env:=vs.zipIdx.map fun x=>(1000000+x.2,x.1)
def offD {A:Alg} (s:TS A):TS A:=⟨s.env,s.hp,s.n,false⟩
def kjB (P:Program) (C:CtrM) (κ:Nat->Option Nat) (ln:Nat->Nat) (y:C.out.ty.den) (args:List AV):K3:=fun v h' n'=>
 ∃ κ' ln' vs,vs.length=C.nr/\v=tpA vs/\Rel P κ' ln' ahN ⟨[],[]⟩ (offD (kad (A:=sem) C.out C.n1 y)) (resE vs++kao args) h' n'/\(∀ q B,h' q=some B->∃ id b,alk (kad (A:=sem) C.out C.n1 y).hp id=some (some b)/\Ow κ' ln' id b q)/\∀ p∈C.inn,κ' p = κ p/\ln' p=ln p
def GoodM (P:Program) (g:FuncId) (C:CtrM):Prop:=
 ∀ x y,C.F x=some y->∀ l1 l2,unT sem (C.ks.filterMap id++C.inp.tys) x=l1++l2->l1.length=(C.ks.filterMap id).length->∀ κ ln h n args,PArgs P C.ks l1 args->Rel P κ ln ahN ⟨[],[]⟩ (offD (kak (A:=sem) C.inp C.n0 l2)) (kao args) h n->
  HC P g args h n (kjB P C κ ln y args)
section
variable {P:Program} {κ κ' κ2:Nat->Option Nat} {ln ln' ln2:Nat->Nat} {z z':AH} {c:Cx sem} {s:TS sem} {env:Env} {h h':AH} {n n' N N':Nat}
theorem Snap.freeN {a a':AV} (hs:Snap ahN a a'):Free a:=by
 induction hs with
 | free a hf=>exact hf
 | nilS=>exact .sc _
 | own _ _ _ _ _ _ _ _ hB=>cases hB
 | ms _ _ _ _ _ _ _ hB=>cases hB
 | fp cs cs' hl _ ih=>
  refine (kif cs).2 fun c hc=>?_
  obtain ⟨q,hq⟩:=jbe.1 hc
  obtain ⟨c',hc'⟩:=kag (l:=cs') (l':=cs) hl.symm hq
  exact ih q c c' hq hc'
 | sl es es' hl hk _ ih=>
  refine (knR es).2 fun e he c hc=>?_
  obtain ⟨q,hq⟩:=jbe.1 he
  obtain ⟨e',he'⟩:=kag (l:=es') (l':=es) hl.symm hq
  obtain ⟨p,hp⟩:=jbe.1 hc
  obtain ⟨c',hc'⟩:=kag (l:=e') (l':=e) (hk q e e' hq he').symm hp
  exact ih q e e' hq he' p c c' hp hc'
 | fn f cs cs' hl _ ih=>
  refine (kgX f cs).2 fun c hc=>?_
  obtain ⟨q,hq⟩:=jbe.1 hc
  obtain ⟨c',hc'⟩:=kag (l:=cs') (l':=cs) hl.symm hq
  exact ih q c c' hq hc'
 | ag cs cs' hl _ ih=>
  refine (knS cs).2 fun c hc=>?_
  obtain ⟨q,hq⟩:=jbe.1 hc
  obtain ⟨c',hc'⟩:=kag (l:=cs') (l':=cs) hl.symm hq
  exact ih q c c' hq hc'
 | tp cs cs' hl _ ih=>
  refine (kve cs).2 fun c hc=>?_
  obtain ⟨q,hq⟩:=jbe.1 hc
  obtain ⟨c',hc'⟩:=kag (l:=cs') (l':=cs) hl.symm hq
  exact ih q c c' hq hc'
theorem HC.up {g:FuncId} {as as':List AV} {K:K3} (hc:HC P g as' h n K) (hl:as'.length=as.length) (hs:∀ (j:Nat) (a a':AV),as[j]?=some a->as'[j]?=some a'->a'=a\/Snap ahN a a'):HC P g as h n K:=by
 refine ⟨hc.1,fun O μ w vs hr hsz hv=>hc.2 O μ w vs hr (hsz.trans hl.symm) fun j a' hj=>?_⟩
 obtain ⟨a,ha⟩:=kag hl hj
 obtain ⟨u,hu,hvu⟩:=hv j a ha
 refine ⟨u,hu,?_⟩
 rcases hs j a a' ha hj with rfl | hsn
 ·exact hvu
 ·have hz:=HR.zero w (Av O μ) fun b hb=>by
   rcases hb with hb | ⟨id,k,hb⟩
   ·exact hr.olt b hb
   ·exact (hr.scope id b k hb).2
  exact (hsn.vr hz (hvu.free hsn.freeN fun b hb=>hb)).lift fun b hb=>hb
def TV.hasW (id:Nat):TV sem->Bool
 | .adr i _ _=>i==id
 | .aa i _=>i==id
 | .mw i=>i==id
 | .ms i _ _=>i==id
 | .fw i=>i==id
 | .fr i _=>i==id
 | .fo i _ _=>i==id
 | .fa i _ _ _=>i==id
 | .fn _ vs=>hasL vs
 | .tp vs=>hasL vs
 | .ag vs=>hasL vs
 | _=>false
where hasL:List (TV sem)->Bool
 | []=>false
 | v::vs=>v.hasW id||hasL vs
def TB.hasW (id:Nat):TB sem->Bool
 | .bx _ vs=>TV.hasW.hasL id vs
 | _=>false
mutual
theorem TVR.ren {f:Nat->Nat} (hz:∀ q B,z q=some B->z' q=some B):∀ {v:TV sem} {a:AV},TVR P κ ln z N v a->(∀ i,v.has i=true->κ' (f i) = κ i/\f i<N')->(∀ i,v.hasW i=true->ln' (f i)=ln i)->TVR P κ' ln' z' N' (renV f v) a
 | _,_,.un a,_,_=>.un a
 | _,_,.ud,_,_=>.ud
 | _,_,.gs t l,_,_=>.gs t l
 | _,_,.yl id q hi h,hf,_=>by
  obtain ⟨e1,e3⟩:=hf id (by simp [TV.has])
  exact .yl _ q e3 (e1.trans h)
 | _,_,.kp id hi,hf,_=>.kp _ (hf id (by simp [TV.has])).2
 | _,_,.c t x a hd h,_,_=>.c t x a hd (h.mono hz)
 | _,_,.kb b,_,_=>.kb b
 | _,_,.sc v h1,_,_=>.sc v h1
 | _,_,.ptr id j q hi h,hf,_=>by
  obtain ⟨e1,e3⟩:=hf id (by simp [TV.has])
  exact .ptr _ j q e3 (e1.trans h)
 | _,_,.adr id i j q hi h h0 h1,hf,hw=>by
  obtain ⟨e1,e3⟩:=hf id (by simp [TV.has])
  exact .adr _ i j q e3 (e1.trans h) h0 (by rw [hw id (by simp [TV.hasW])]; exact h1)
 | _,_,.aa id i q hi h h0 h1,hf,hw=>by
  obtain ⟨e1,e3⟩:=hf id (by simp [TV.has])
  exact .aa _ i q e3 (e1.trans h) h0 (by rw [hw id (by simp [TV.hasW])]; exact h1)
 | _,_,.fq t x o a hd h,_,_=>.fq t x o a hd (h.mono hz)
 | _,_,.mw0 id hi h,hf,_=>by
  obtain ⟨e1,e3⟩:=hf id (by simp [TV.has])
  exact .mw0 _ e3 (e1.trans h)
 | _,_,.mw id q hi h,hf,hw=>by
  obtain ⟨e1,e3⟩:=hf id (by simp [TV.has])
  rw [<-hw id (by simp [TV.hasW])]; exact .mw _ q e3 (e1.trans h)
 | _,_,.ms0 id off len hi h ho hl,hf,_=>by
  obtain ⟨e1,e3⟩:=hf id (by simp [TV.has])
  exact .ms0 _ off len e3 (e1.trans h) ho hl
 | _,_,.ms id off len q hi h h0 h1 h2,hf,hw=>by
  obtain ⟨e1,e3⟩:=hf id (by simp [TV.has])
  exact .ms _ off len q e3 (e1.trans h) h0 h1 (by rw [hw id (by simp [TV.hasW])]; exact h2)
 | _,_,.mp id q hi h,hf,_=>by
  obtain ⟨e1,e3⟩:=hf id (by simp [TV.has])
  exact .mp _ q e3 (e1.trans h)
 | _,_,.fw0 id hi h,hf,_=>by
  obtain ⟨e1,e3⟩:=hf id (by simp [TV.has])
  exact .fw0 _ e3 (e1.trans h)
 | _,_,.fw id q hi h,hf,hw=>by
  obtain ⟨e1,e3⟩:=hf id (by simp [TV.has])
  rw [<-hw id (by simp [TV.hasW])]; exact .fw _ q e3 (e1.trans h)
 | _,_,.fr0 id i m hi h0 h,hf,hw=>by
  obtain ⟨e1,e3⟩:=hf id (by simp [TV.has])
  exact .fr0 _ i m e3 h0 (by rw [hw id (by simp [TV.hasW])]; exact h)
 | _,_,.fr id i r m hi h0 h,hf,hw=>by
  obtain ⟨e1,e3⟩:=hf id (by simp [TV.has])
  exact .fr _ i r m e3 h0 (by rw [hw id (by simp [TV.hasW])]; exact h)
 | _,_,.fo id i j q hi h h0 h1,hf,hw=>by
  obtain ⟨e1,e3⟩:=hf id (by simp [TV.has])
  exact .fo _ i j q e3 (e1.trans h) h0 (by rw [hw id (by simp [TV.hasW])]; exact h1)
 | _,_,.fa id i k o r m hi h0 h hk hm,hf,hw=>by
  obtain ⟨e1,e3⟩:=hf id (by simp [TV.has])
  exact .fa _ i k o r m e3 h0 (by rw [hw id (by simp [TV.hasW])]; exact h) hk hm
 | _,_,.fn g vs as h,hf,hw=>.fn g _ as (TVRs.ren hz h (fun i hi=>hf i (by simpa [TV.has] using hi)) fun i hi=>hw i (by simpa [TV.hasW] using hi))
 | _,_,.cv n x y F a h,_,_=>.cv n x y F a h
 | _,_,.tp vs as h,hf,hw=>.tp _ as (TVRs.ren hz h (fun i hi=>hf i (by simpa [TV.has] using hi)) fun i hi=>hw i (by simpa [TV.hasW] using hi))
 | _,_,.ag vs as h h1,hf,hw=>.ag _ as (TVRs.ren hz h (fun i hi=>hf i (by simpa [TV.has] using hi)) fun i hi=>hw i (by simpa [TV.hasW] using hi)) h1
theorem TVRs.ren {f:Nat->Nat} (hz:∀ q B,z q=some B->z' q=some B):∀ {v:List (TV sem)} {a:List AV},TVRs P κ ln z N v a->(∀ i,TV.has.hasL i v=true->κ' (f i) = κ i/\f i<N')->(∀ i,TV.hasW.hasL i v=true->ln' (f i)=ln i)->TVRs P κ' ln' z' N' (renL f v) a
 | _,_,.nil,_,_=>.nil
 | _,_,.cons v a vs as h hs,hf,hw=>.cons _ a _ as (TVR.ren hz h (fun i hi=>hf i (by simp [TV.has.hasL,hi])) fun i hi=>hw i (by simp [TV.hasW.hasL,hi])) (TVRs.ren hz hs (fun i hi=>hf i (by simp [TV.has.hasL,hi])) fun i hi=>hw i (by simp [TV.hasW.hasL,hi]))
end
theorem kud (f:Nat->Nat):∀ vs:List (TV sem),(renL f vs).length=vs.length
 | []=>rfl
 | v::vs=>by simp [renL,kud f vs]
theorem BR.ren {f:Nat->Nat} {id:Nat} {B:TB sem} (hb:BR P κ ln z h N id B) (hz:∀ q B,z q=some B->z' q=some B) (hh:∀ q AB,Ow κ ln id B q->h q=some AB->h' q=some AB) (hi:κ' (f id) = κ id) (hl:B.needL=true->ln' (f id)=ln id) (hf:∀ i,B.has i=true->κ' (f i) = κ i/\f i<N') (hw:∀ i,B.hasW i=true->ln' (f i)=ln i):BR P κ' ln' z' h' N' (f id) (renB f B):=by
 cases hb with
 | bx T vs q as hq hq2 hv h1=>exact .bx T _ q as (hi.trans hq) (by rw [kud]; exact hh q _ (.inl hq) hq2) (TVRs.ren hz hv (fun i hii=>hf i (by simpa [TB.has] using hii)) fun i hii=>hw i (by simpa [TB.hasW] using hii)) h1
 | el T t x q cs hd hq hq2 hv h1 hl'=>exact .el T t x q cs hd (hi.trans hq) (hh q _ (.inl hq) hq2) (hv.mono hz) h1 (fun n u e=>by subst e; rw [hl rfl]; exact hl' n u rfl)
 | sl0 T t l hd hq hl' hn=>exact .sl0 T t l hd (hi.trans hq) hl' (by rw [hl rfl]; exact hn)
 | sl T t l q es hd hq hq2 hv h1 hn=>exact .sl T t l q es hd (hi.trans hq) (hh q _ (.inl hq) hq2) (hv.mono hz) h1 (by rw [hl rfl]; exact hn)
 | mp k v l q hk hf' hq hq2=>exact .mp k v l q hk hf' (hi.trans hq) (hh q _ (.inl hq) hq2)
 | si x q hq h0 hq2=>exact .si x q (hi.trans hq) h0 (hh q _ (.inl hq) hq2)
 | fm0 T t j U u l ho hd hq hl' hn=>exact .fm0 T t j U u l ho hd (hi.trans hq) hl' (by rw [hl rfl]; exact hn)
 | fm T t j U u l ho q es hd hq hq2 hn hle hv h0 h1=>
  refine .fm T t j U u l ho q es hd (hi.trans hq) (hh q _ (.inl hq) hq2) (by rw [hl rfl]; exact hn) hle (fun i x e rm h2 h3 h4 h5=>?_) (by rw [hl rfl]; exact h0) h1
  rw [hl rfl] at h4
  refine (hv i x e rm h2 h3 h4 h5).mono hz fun r B hr hB=>hh r B (.inr ⟨rfl,?_⟩) hB
  obtain ⟨r',m⟩:=rm
  simp only at hr; subst hr
  exact kay h4
theorem kiR {α β:Type} (f:Nat->Nat) (g:α->β):∀ (l:List (Nat×α)) {id:Nat} {b:β},alk (l.map fun x=>(f x.1,g x.2)) id=some b->∃ k a,alk l k=some a/\f k=id/\b=g a
 | [],id,b,h=>by cases h
 | (k,a)::l,id,b,h=>by
  simp only [jap,alk] at h
  split at h
  ·rename_i e; cases h; exact ⟨k,a,by simp [alk],e.symm,rfl⟩
  ·rename_i e
   obtain ⟨k',a',h1,h2,h3⟩:=kiR f g l h
   refine ⟨k',a',?_,h2,h3⟩
   simp only [alk]; rw [if_neg]; exact h1
   rintro rfl; exact e h2.symm
end
section
variable {P:Program} {κ κ' κ2:Nat->Option Nat} {ln ln' ln2:Nat->Nat} {z z':AH} {c:Cx sem} {s:TS sem} {env:Env} {h h':AH} {n n' N N':Nat}
theorem kpg:∀ (l:List Nat) {x a:Nat},alk (l.map fun i=>(i,i)) x=some a->x=a
 | [],x,a,h=>by simp [alk] at h
 | i::l,x,a,h=>by
  simp only [jap,alk] at h
  split at h
  ·rename_i e; cases h; exact e
  ·exact kpg l h
theorem krG (R:Rel P κ ln z c s env h n) {p:Pat} {m:Mt sem} {i0:List Nat} (hp:packM c N p s i0=some m) (hs:m.sn=[]) (hz0:z=ahN) :
  ∃ κ2 ln2,Rel P κ2 ln2 ahN ⟨[],[]⟩ (offD (kak (A:=sem) p N m.cs)) env h n/\(∀ p q,alk m.ids p=some q->κ2 p = κ q/\ln2 p=ln q/\p<N)/\
   (∀ id b,alk (kak (A:=sem) p N m.cs).hp id=some b->∃ B q B0,b=some B/\alk m.ids id=some q/\alk s.hp q=some (some B0)/\B.isF=B0.isF)/\(∀ x y a,alk m.ids x=some a->alk m.ids y=some a->x=y)/\(∀ id,(alk (kak (A:=sem) p N m.cs).hp id).isSome=(alk p.hp id).isSome):=by
 unfold packM at hp
 obtain ⟨m1,hm1,hp⟩:=jaa.1 hp
 obtain ⟨m',hm,hp⟩:=jaa.1 hp
 obtain ⟨hchk,hp⟩:=jcw.1 hp
 cases hp
 simp only [jam,jai] at hchk
 have hlt:=hchk
 obtain ⟨new1,a1,a2,a3,a4⟩:=knv R _ hm1
 obtain ⟨new2,b1,b2,b3,b4⟩:=kmN R _ hm
 simp only [jba] at a1
 have hcs:m.cs=new1++new2:=by rw [b1,a1]
 have hinj:Inj m:=b3 (a3 (fun x y a hx hy=>(kpg i0 hx).trans (kpg i0 hy).symm))
 let κ2:Nat->Option Nat:=fun id=>match alk m.ids id with | some q=>κ q | none=>none
 let ln2:Nat->Nat:=fun id=>match alk m.ids id with | some q=>ln q | none=>0
 have hk2:∀ {p q:Nat},alk m.ids p=some q->κ2 p = κ q/\ln2 p=ln q:=fun {p q} hq=>by simp only [κ2,ln2,hq]; exact ⟨trivial,trivial⟩
 have hzz:hz (ows κ ln c s) h z m.sn=ahN:=by rw [hs,kbe,hz0]
 have fin:Fin (ows κ ln c s) κ ln h z m κ2 ln2 ahN N:=⟨fun p q hq=>⟨(hk2 hq).1,(hk2 hq).2,hlt _ (kat hq)⟩,fun q B hq=>by rw [hzz] at hq; exact hq⟩
 obtain ⟨E,e1,e2,e3⟩:=a4 κ2 ln2 _ N (fin.back R.zin b2) new2
 obtain ⟨H,f1,f2,f3⟩:=b4 κ2 ln2 _ N fin []
 rw [jbd] at f1
 have henv:(kak (A:=sem) p N m.cs).env=E:=by simp only [kak,hcs,e1]
 have hhp:(kak (A:=sem) p N m.cs).hp=H:=by simp only [kak,hcs,e1,f1]
 have ht:∀ id B,thp (⟨[],[]⟩:Cx sem) (offD (kak (A:=sem) p N m.cs)) id=some B->alk H id=some (some B):=fun id B hB=>by
  unfold thp at hB
  rw [show (offD (kak (A:=sem) p N m.cs)).hp=H from hhp] at hB
  cases hh:alk H id with
  | some b=>rw [hh] at hB; exact congrArg some hB
  | none=>rw [hh] at hB; cases hB
 have pat:∀ {id:Nat} {B:TB sem},alk H id=some (some B)->∃ q B0,alk m.ids id=some q/\alk s.hp q=some (some B0)/\BR P κ2 ln2 ahN h N id B/\B.isF=B0.isF:=fun {id B} hB=>by
  obtain ⟨B',q,B0,g1,g2,g3,g4⟩:=f2 id _ hB
  cases g1
  exact ⟨q,B0,g2,g3,g4⟩
 refine ⟨κ2,ln2,⟨fun y=>?_,fun id B hB=>?_,fun id B hB=>?_,fun i j B B' q hi hj ki kj=>?_,fun q B hq=>(by cases hq),fun id B q hB hk=>rfl,fun id B q hB hk=>?_,R.hn,fun x v hx=>rfl,fun id b hb=>rfl,fun _=>rfl,fun q k T es hq=>(by cases hq),fun id B hB hf=>?_⟩,fun p q hq=>⟨(hk2 hq).1,(hk2 hq).2,hlt _ (kat hq)⟩,fun id b hb=>?_,hinj,fun id=>by rw [hhp]; exact f3 id⟩
 ·unfold tlk
  rw [show (offD (kak (A:=sem) p N m.cs)).env=E from henv]
  cases hy:alk E y with
  | some v=>exact e2 y v hy
  | none=>exact .un _
 ·obtain ⟨q,B0,g2,g3,g4⟩:=pat (ht id B hB); exact g4.1
 ·obtain ⟨q,B0,g2,g3,g4⟩:=pat (ht id B hB); exact hlt _ (kat g2)
 ·obtain ⟨qi,Bi,g2,g3,g4⟩:=pat (ht i B hi)
  obtain ⟨qj,Bj,k2,k3,k4⟩:=pat (ht j B' hj)
  rw [(hk2 g2).1] at ki
  rw [(hk2 k2).1] at kj
  have:=R.inj qi qj _ _ q (kab g3) (kab k3) ki kj
  subst this
  exact hinj i j qi g2 k2
 ·obtain ⟨q',B0,g2,g3,g4⟩:=pat (ht id B hB)
  rw [(hk2 g2).1] at hk
  exact R.bnd q' B0 q (kab g3) hk
 ·obtain ⟨i0,B0,g2,g3,g4,g5⟩:=pat (ht id B hB)
  obtain ⟨k1,k2⟩:=R.fam i0 B0 (kab g3) (by rw [<-g5]; exact hf)
  rw [(hk2 g2).2]
  refine ⟨k1,fun r hr=>?_⟩
  obtain ⟨l1,l2,l3,l4⟩:=k2 r hr
  refine ⟨l1,rfl,fun j B' hj=>?_,fun j B' hj hf' hr'=>?_⟩
  ·obtain ⟨j0,B1,a2,a3,a4⟩:=pat (ht j B' hj)
   rw [(hk2 a2).1]; exact l3 j0 B1 (kab a3)
  ·obtain ⟨j0,B1,a2,a3,a4,a5⟩:=pat (ht j B' hj)
   rw [(hk2 a2).2] at hr'
   have:=l4 j0 B1 (kab a3) (by rw [<-a5]; exact hf') hr'
   subst this
   exact hinj _ _ _ a2 g2
 ·rw [hhp] at hb
  obtain ⟨B',q,B0,g1,g2,g3,g4,g5⟩:=f2 id b hb
  exact ⟨B',q,B0,g1,g2,g3,g5⟩
theorem kmZ:∀ (l:List (Nat×PV)) (xs:List ((t:Ty)×sem.D t)) (x:Nat) (pv:PV) (v:TV sem),alk l x=some pv->(∀ xs:List ((t:Ty)×sem.D t),(unV (A:=sem) pv xs).1=v)->alk (unE (A:=sem) l xs).1 x=some v
 | [],xs,x,pv,v,h,_=>by cases h
 | (k,p)::l,xs,x,pv,v,h,hv=>by
  simp only [unE,alk] at h ⊢
  split at h
  ·rename_i e
   cases h
   rw [if_pos e,hv]
  ·rename_i e
   rw [if_neg e]
   exact kmZ l _ x pv v h hv
end
def pureA:List (Option Ty)->List AV->List AV
 | some _::ks,v::vs=>v::pureA ks vs
 | none::ks,_::vs=>pureA ks vs
 | _,_=>[]
def kch:List (Option Ty)->List AV->List AV->List AV
 | some _::ks,b::bs,_::as=>b::kch ks bs as
 | none::ks,bs,a::as=>a::kch ks bs as
 | _,_,_=>[]
section
variable {P:Program} {κ κ' κ2:Nat->Option Nat} {ln ln' ln2:Nat->Nat} {z z':AH} {c:Cx sem} {s:TS sem} {env:Env} {h h':AH} {n n' N N':Nat}
theorem kqK:∀ (ks:List (Option Ty)) {args:List (TV sem)} {as:List AV},TVRs P κ ln z N args as->TVRs P κ ln z N (pureV ks args) (pureA ks as)
 | [],_,_,h=>by cases h <;> exact .nil
 | some _::ks,_,_,.nil=>.nil
 | none::ks,_,_,.nil=>.nil
 | some _::ks,_,_,.cons v a vs as h hs=>.cons _ _ _ _ h (kqK ks hs)
 | none::ks,_,_,.cons v a vs as h hs=>kqK ks hs
theorem kpu:∀ (ks:List (Option Ty)) {l:List ((t:Ty)×t.den)} {bs as:List AV},as.length=ks.length->AL P l bs->l.length=(ks.filterMap id).length->SnapL z (pureA ks as) bs->
  (kch ks bs as).length=as.length/\PArgs P ks l (kch ks bs as)/\∀ (j:Nat) (a a':AV),as[j]?=some a->(kch ks bs as)[j]?=some a'->a'=a\/Snap z a a'
 | [],l,bs,as,hl,hA,hc,hs=>by
  cases as with
  | cons _ _=>simp at hl
  | nil=>
   cases l with
   | cons _ _=>simp at hc
   | nil=>exact ⟨rfl,trivial,fun j a a' h=>by simp at h⟩
 | none::ks,l,bs,as,hl,hA,hc,hs=>by
  cases as with
  | nil=>simp at hl
  | cons a as=>
   obtain ⟨h1,h2,h3⟩:=kpu ks (by simpa using hl) hA (by simpa using hc) hs
   refine ⟨by simp [kch,h1],h2,fun j x x' hx hx'=>?_⟩
   cases j with
   | zero=>simp [kch] at hx hx'; subst hx; subst hx'; exact .inl rfl
   | succ j=>exact h3 j x x' (by simpa using hx) (by simpa [kch] using hx')
 | some t::ks,l,bs,as,hl,hA,hc,hs=>by
  cases as with
  | nil=>simp at hl
  | cons a as=>
   cases hs with
   | cons k1 k2=>
    rename_i b bs
    cases hA with
    | cons g1 g2=>
     rename_i p l
     obtain ⟨h1,h2,h3⟩:=kpu ks (by simpa using hl) g2 (by simpa using hc) k2
     refine ⟨by simp [kch,h1],⟨g1,h2⟩,fun j x x' hx hx'=>?_⟩
     cases j with
     | zero=>simp [kch] at hx hx'; subst hx; subst hx'; exact .inr k1
     | succ j=>exact h3 j x x' (by simpa using hx) (by simpa [kch] using hx')
theorem koP:∀ (ks:List (Option Ty)) (vs:List (TV sem)) (k x:Nat) (v:TV sem),alk (patE ks vs k) x=some v->k<=x
 | [],_,k,x,v,h=>by simp [patE,alk] at h
 | some _::ks,[],k,x,v,h=>by simp [patE,alk] at h
 | none::ks,[],k,x,v,h=>by simp [patE,alk] at h
 | some _::ks,_::vs,k,x,v,h=>by have:=koP ks vs (k+1) x v h; omega
 | none::ks,_::vs,k,x,v,h=>by
  simp only [patE,alk] at h
  split at h
  ·omega
  ·have:=koP ks vs (k+1) x v h; omega
theorem krn:∀ (ks:List (Option Ty)) {args:List (TV sem)} {as bs:List AV} (k:Nat),TVRs P κ ln z N args as->args.length=ks.length->bs.length=(ks.filterMap id).length->∀ x,TVR P κ ln z N ((alk (patE ks args k) x).getD .un) (lk (((kch ks bs as).zipIdx k).map fun (v,i)=>(i,v)) x)
 | [],args,as,bs,k,h,hl,hb,x=>by simp only [patE,alk]; exact .un _
 | some t::ks,_,_,bs,k,.nil,hl,hb,x=>by simp at hl
 | none::ks,_,_,bs,k,.nil,hl,hb,x=>by simp at hl
 | none::ks,_,_,bs,k,.cons v a vs as h hs,hl,hb,x=>by
  simp only [patE,kch,jbx,jap,alk,lk]
  by_cases e:x=k
  ·simp only [if_pos e]; exact h
  ·simp only [if_neg e]; exact krn ks (k+1) hs (by simpa using hl) (by simpa using hb) x
 | some t::ks,_,_,bs,k,.cons v a vs as h hs,hl,hb,x=>by
  cases bs with
  | nil=>simp at hb
  | cons b bs=>
   simp only [patE,kch,jbx,jap,lk]
   by_cases e:x=k
   ·simp only [if_pos e]
    cases hk:alk (patE ks vs (k+1)) x with
    | some v=>have:=koP _ _ _ _ _ hk; omega
    | none=>exact .un _
   ·simp only [if_neg e]; exact krn ks (k+1) hs (by simpa using hl) (by simpa using hb) x
mutual
theorem krh {f w:Nat->Bool}:∀ {v:TV sem},v.all f w=true->∀ i,v.has i=true->f i=true
 | .ptr j _,h,i,hi | .mp j,h,i,hi=>by simp only [TV.all,TV.has,beq_iff_eq] at h hi; rw [<-hi]; exact h
 | .adr j _ _,h,i,hi | .aa j _,h,i,hi | .mw j,h,i,hi | .ms j _ _,h,i,hi | .fw j,h,i,hi | .fo j _ _,h,i,hi=>by simp only [TV.all,TV.has,beq_iff_eq,jac] at h hi; rw [<-hi]; exact h.1
 | .fr _ _,h,i,hi | .fa _ _ _ _,h,i,hi=>by simp [TV.all] at h
 | .fn _ vs,h,i,hi | .tp vs,h,i,hi | .ag vs,h,i,hi=>kpf (vs:=vs) (by simpa [TV.all] using h) i (by simpa [TV.has] using hi)
 | .un,h,i,hi=>by simp [TV.all] at h
 | .ud,h,i,hi | .c _ _,h,i,hi | .kb _,h,i,hi | .sc _,h,i,hi | .fq _ _ _,h,i,hi | .cv _ _ _ _,h,i,hi=>by simp [TV.has] at hi
theorem kpf {f w:Nat->Bool}:∀ {vs:List (TV sem)},TV.all.allL f w vs=true->∀ i,TV.has.hasL i vs=true->f i=true
 | [],h,i,hi=>by simp [TV.has.hasL] at hi
 | v::vs,h,i,hi=>by
  simp only [TV.all.allL,jac] at h
  simp only [TV.has.hasL,jav] at hi
  rcases hi with hi | hi
  ·exact krh h.1 i hi
  ·exact kpf h.2 i hi
end
mutual
theorem ktx {f w:Nat->Bool}:∀ {v:TV sem},v.all f w=true->∀ i,v.hasW i=true->w i=true
 | .adr j _ _,h,i,hi | .aa j _,h,i,hi | .mw j,h,i,hi | .ms j _ _,h,i,hi | .fw j,h,i,hi | .fo j _ _,h,i,hi=>by simp only [TV.all,TV.hasW,beq_iff_eq,jac] at h hi; rw [<-hi]; exact h.2
 | .fr _ _,h,i,hi | .fa _ _ _ _,h,i,hi=>by simp [TV.all] at h
 | .fn _ vs,h,i,hi | .tp vs,h,i,hi | .ag vs,h,i,hi=>knr (vs:=vs) (by simpa [TV.all] using h) i (by simpa [TV.hasW] using hi)
 | .un,h,i,hi=>by simp [TV.all] at h
 | .ptr _ _,h,i,hi | .mp _,h,i,hi | .ud,h,i,hi | .c _ _,h,i,hi | .kb _,h,i,hi | .sc _,h,i,hi | .fq _ _ _,h,i,hi | .cv _ _ _ _,h,i,hi=>by simp [TV.hasW] at hi
theorem knr {f w:Nat->Bool}:∀ {vs:List (TV sem)},TV.all.allL f w vs=true->∀ i,TV.hasW.hasL i vs=true->w i=true
 | [],h,i,hi=>by simp [TV.hasW.hasL] at hi
 | v::vs,h,i,hi=>by
  simp only [TV.all.allL,jac] at h
  simp only [TV.hasW.hasL,jav] at hi
  rcases hi with hi | hi
  ·exact ktx h.1 i hi
  ·exact knr h.2 i hi
end
mutual
theorem on_tv {p:Nat->Bool} {f w:Nat->Bool} (hp:∀ i q,f i=true->κ i=some q->p q=true):∀ {v:TV sem} {a:AV},TVR P κ ln ahN N v a->v.all f w=true->On p a
 | _,_,.un a,h=>by simp [TV.all] at h
 | _,_,.ud,h=>.free _ .ud
 | _,_,.gs t l,h=>by simp [TV.all] at h
 | _,_,.yl id q hi hq,h=>by simp [TV.all] at h
 | _,_,.kp id hi,h=>by simp [TV.all] at h
 | _,_,.c t x a hd hs,h=>.free _ hs.freeN
 | _,_,.kb b,h=>.free _ (.sc _)
 | _,_,.sc v h1,h=>.free _ (.sc _)
 | _,_,.ptr id j q hi hk,h=>.own _ _ _ (hp id q (by simpa [TV.all] using h) hk)
 | _,_,.adr id i j q hi hk h0 h1,h=>.own _ _ _ (hp id q (by simp [TV.all] at h; exact h.1) hk)
 | _,_,.aa id i q hi hk h0 h1,h=>.own _ _ _ (hp id q (by simp [TV.all] at h; exact h.1) hk)
 | _,_,.fq t x o a hd hs,h=>.free _ hs.freeN
 | _,_,.mw0 id hi hk,h=>.free _ (.sc _)
 | _,_,.mw id q hi hk,h=>.ms _ _ _ (hp id q (by simp [TV.all] at h; exact h.1) hk)
 | _,_,.ms0 id off len hi hk ho hl,h=>.free _ (.sc _)
 | _,_,.ms id off len q hi hk h0 h1 h2,h=>.ms _ _ _ (hp id q (by simp [TV.all] at h; exact h.1) hk)
 | _,_,.mp id q hi hk,h=>.mp _ (hp id q (by simpa [TV.all] using h) hk)
 | _,_,.fw0 id hi hk,h=>.free _ (.sc _)
 | _,_,.fw id q hi hk,h=>.ms _ _ _ (hp id q (by simp [TV.all] at h; exact h.1) hk)
 | _,_,.fr0 _ _ _ _ _ _,h | _,_,.fr _ _ _ _ _ _ _,h | _,_,.fa _ _ _ _ _ _ _ _ _ _ _,h=>by simp [TV.all] at h
 | _,_,.fo id i j q hi hk h0 h1,h=>.own _ _ _ (hp id q (by simp [TV.all] at h; exact h.1) hk)
 | _,_,.fn g vs as hs,h=>.fn g as fun j a hj=>kmY hp hs (by simpa [TV.all] using h) a (jag hj)
 | _,_,.cv n x y F a hc,h=>by
  obtain ⟨g,as,rfl,hf,_⟩:=hc
  exact .free _ ((kgX _ _).2 hf)
 | _,_,.tp vs as hs,h=>.tp as fun j a hj=>kmY hp hs (by simpa [TV.all] using h) a (jag hj)
 | _,_,.ag vs as hs h1,h=>.ag as fun j a hj=>kmY hp hs (by simpa [TV.all] using h) a (jag hj)
theorem kmY {p:Nat->Bool} {f w:Nat->Bool} (hp:∀ i q,f i=true->κ i=some q->p q=true):∀ {vs:List (TV sem)} {as:List AV},TVRs P κ ln ahN N vs as->TV.all.allL f w vs=true->∀ a∈as,On p a
 | _,_,.nil,h,a,ha=>by cases ha
 | _,_,.cons v a vs as hv hs,h,b,hb=>by
  simp only [TV.all.allL,jac] at h
  rcases jbu.1 hb with rfl | hb
  ·exact on_tv hp hv h.1
  ·exact kmY hp hs h.2 b hb
end
theorem on_br {p:Nat->Bool} {f w:Nat->Bool} {id q:Nat} {B:TB sem} {AB:ABlk} (hp:∀ i q,f i=true->κ i=some q->p q=true) (hb:BR P κ ln ahN h N id B) (ha:B.all f w=true) (hpr:∀ r,B.isF=true->r∈kam (ln id)->p r=true) (hk:Ow κ ln id B q) (hq:h q=some AB):OnB p AB:=by
 have rowf:∀ {es ys:List (List AV)},SnapE ahN es ys->∀ e∈es,∀ a∈e,On p a:=fun {es ys} hs e he a hae=>by
  obtain ⟨i,hi⟩:=jbe.1 he
  obtain ⟨e',he'⟩:=kag (l:=ys) (l':=es) hs.1.symm hi
  have hs2:=hs.2 i e e' hi he'
  obtain ⟨j,hj⟩:=jbe.1 hae
  obtain ⟨c',hc'⟩:=kag (l:=e') (l':=e) hs2.len.symm hj
  exact .free _ (hs2.at j a c' hj hc').freeN
 have hb0:=hb
 rcases hk with hk | ⟨hf,hr⟩
 case inr=>
  cases B <;> simp only [TB.isF,jaj] at hf
  obtain ⟨i,m,x,e,_,_,_,_,_,ys,_,_,_,es,g1,g2,_⟩:=hb.row hr
  rw [g1] at hq; cases hq
  exact rowf g2
 cases hb with
 | bx T vs q' as hq1 hq2 hv h1=>
  rw [hk] at hq1; cases hq1; rw [hq] at hq2; cases hq2
  intro e he a hae
  simp at he; subst he
  exact kmY hp hv (by simpa [TB.all] using ha) a hae
 | el T t x q' cs hd hq1 hq2 hv h1 hl=>
  rw [hk] at hq1; cases hq1; rw [hq] at hq2; cases hq2
  intro e he a hae
  simp at he; subst he
  obtain ⟨j,hj⟩:=jbe.1 hae
  obtain ⟨c',hc'⟩:=kag (l:=t.enc x) (l':=e) hv.len.symm hj
  exact .free _ (hv.at j a c' hj hc').freeN
 | sl0 T t l hd hq1 hl hn=>rw [hk] at hq1; cases hq1
 | sl T t l q' es hd hq1 hq2 hv h1 hn=>
  rw [hk] at hq1; cases hq1; rw [hq] at hq2; cases hq2
  intro e he a hae
  obtain ⟨i,hi⟩:=jbe.1 he
  obtain ⟨e',he'⟩:=kag (l:=l.map t.enc) (l':=es) hv.1.symm hi
  have hs:=hv.2 i e e' hi he'
  obtain ⟨j,hj⟩:=jbe.1 hae
  obtain ⟨c',hc'⟩:=kag (l:=e') (l':=e) hs.len.symm hj
  exact .free _ (hs.at j a c' hj hc').freeN
 | mp k v l q' hk1 hf hq1 hq2=>
  rw [hk] at hq1; cases hq1; rw [hq] at hq2; cases hq2
  intro x hx
  obtain ⟨y,hy,rfl⟩:=jay.1 hx
  exact .free _ (kgR _ _ (kcv hf))
 | si x q' hq1 h0 hq2=>rw [hk] at hq1; cases hq1; rw [hq] at hq2; cases hq2; trivial
 | fm0 T t j U u l ho hd hq1 hl hn=>rw [hk] at hq1; cases hq1
 | fm T t j U u l ho q' es hd hq1 hq2 hn hle hv h0 h1=>
  rw [hk] at hq1; cases hq1; rw [hq] at hq2; cases hq2
  have hho:ho=none:=by simpa [TB.all] using ha
  subst hho
  intro e he a hae
  obtain ⟨i,hi⟩:=jbe.1 he
  have hlt:=(jad.1 hi).1
  have hx:l[i]?=some (l[i]'(by omega)):=jae _
  have hrm:(kac (ln id))[i]?=some ((kac (ln id))[i]'(by omega)):=jae _
  obtain ⟨g1,g2,ys,g3,g4,g5⟩:=hv i _ e _ hx hi hrm (by simp)
  obtain ⟨k,hk'⟩:=jbe.1 hae
  by_cases hkj:k=j
  ·subst hkj
   generalize (kac (ln id))[i]'(by omega)=rm at g5 hrm
   obtain ⟨r,m⟩:=rm
   cases r with
   | none=>obtain ⟨g6,_⟩:=g5; rw [hk'] at g6; cases g6; exact .free _ (.sc _)
   | some r=>obtain ⟨g6,_⟩:=g5; rw [hk'] at g6; cases g6; exact .ms _ _ _ (hpr r rfl (kay hrm))
  ·obtain ⟨c',hc'⟩:=kag (l:=t.enc (l[i]'(by omega))) (l':=e) g1 hk'
   exact .free _ (g2 k a c' hkj hk' hc').freeN
end
section
variable {P:Program} {f:FuncId} {args:List AV}
inductive OnF (p:Nat->Bool):AV->Prop
 | flat (a:AV) (h:Flat a):OnF p a
 | own (id i j:Nat) (h:p id=true):OnF p (.own id i j)
 | ms (id off len:Nat) (h:p id=true):OnF p (.ms id off len)
 | mp (id:Nat) (h:p id=true):OnF p (.mp id)
 | fn (f:FuncId) (cs:List AV) (h:∀ (j:Nat) (c:AV),cs[j]?=some c->OnF p c):OnF p (.fn f cs)
 | ag (cs:List AV) (h:∀ (j:Nat) (c:AV),cs[j]?=some c->OnF p c):OnF p (.ag cs)
 | tp (cs:List AV) (h:∀ (j:Nat) (c:AV),cs[j]?=some c->OnF p c):OnF p (.tp cs)
def OnBF (p:Nat->Bool):ABlk->Prop
 | .cells _ _ es=>∀ e∈es,∀ a∈e,OnF p a
 | .map kvs=>∀ x∈kvs,OnF p x.2
 | .si _ _=>True
theorem VR.onF {w:World} {O1 O2:Nat->Prop} {μ1 μ2:Mu} {n1 n2:Nat} {p:Nat->Bool} {a:AV} (ho:OnF p a) (hp:∀ id,p id=true->μ2 id = μ1 id/\id<n2):∀ {v:Value},VR w O1 μ1 n1 a v->VR w O2 μ2 n2 a v:=by
 induction ho with
 | flat a h=>intro v hv; exact hv.flat h _ _ _ _
 | own id i j h=>
  intro v hv
  cases hv with
  | own _ _ _ _ h0 h1 hv=>exact .own id i j v (hp id h).2 h1 fun b k e=>hv b k ((hp id h).1 ▸ e)
 | ms id off len h=>
  intro v hv
  cases hv with
  | ms _ _ _ _ h0 h1 hv=>exact .ms id off len v (hp id h).2 h1 fun b k e=>hv b k ((hp id h).1 ▸ e)
 | mp id h=>
  intro v hv
  cases hv with
  | mp _ _ h0 h1 hv=>exact .mp id v (hp id h).2 h1 fun b k e=>hv b k ((hp id h).1 ▸ e)
 | fn f cs h ih=>
  intro v hv
  cases hv with
  | fn _ _ vs us hs hc hr=>exact .fn f cs vs us hs hc fun j c hj=>ih j c hj (hr j c hj)
 | ag cs h ih=>
  intro v hv
  cases hv with
  | ag _ vs us hs hc h1 hr=>exact .ag cs vs us hs hc h1 fun j c hj=>ih j c hj (hr j c hj)
 | tp cs h ih=>
  intro v hv
  cases hv with
  | tp _ vs us hs hc hr=>exact .tp cs vs us hs hc fun j c hj=>ih j c hj (hr j c hj)
theorem BlkAt.onF {w:World} {O1 O2:Nat->Prop} {μ1 μ2:Mu} {n1 n2 id:Nat} {p:Nat->Bool} {B:ABlk} (hb:BlkAt w O1 μ1 n1 id B) (ho:OnBF p B) (hm:μ2 id = μ1 id) (hp:∀ id,p id=true->μ2 id = μ1 id/\id<n2):BlkAt w O2 μ2 n2 id B:=by
 cases B with
 | cells k T es=>
  obtain ⟨b,c,h1,h2,h3⟩:=hb
  refine ⟨b,c,hm.trans h1,h2,fun i e hi=>⟨(h3 i e hi).1,fun j a hj=>?_⟩⟩
  obtain ⟨h4,u,h5,h6⟩:=(h3 i e hi).2 j a hj
  exact ⟨h4,u,h5,h6.onF (ho e (jag hi) a (jag hj)) hp⟩
 | map kvs=>
  obtain ⟨b,es,h1,h2,h3,h4⟩:=hb
  refine ⟨b,es,hm.trans h1,h2,h3,fun i x hi=>?_⟩
  obtain ⟨e,g1,g2,g3,g4,g5⟩:=h4 i x hi
  exact ⟨e,g1,g2,g3,g4,g5.onF (ho x (jag hi)) hp⟩
 | si s pos=>
  obtain ⟨b,h1,h2⟩:=hb
  exact ⟨b,hm.trans h1,h2⟩
theorem VR.less {w:World} {O O':Nat->Prop} {μ:Mu} {n:Nat} (ho:∀ b,O' b->O b) {a:AV} {v:Value} (hv:VR w O μ n a v):VR w O' μ n a v:=by
 have av:∀ {b:Nat},Av O' μ b->Av O μ b:=fun h=>by
  rcases h with h | h
  ·exact .inl (ho _ h)
  ·exact .inr h
 induction hv with
 | sc v h1=>exact .sc v h1
 | ud=>exact .ud
 | gs es=>exact .gs es
 | un v=>exact .un v
 | e0 p=>exact .e0 p
 | own id i j v h h1 hv=>exact .own id i j v h h1 hv
 | ms id off len v h h1 hv=>exact .ms id off len v h h1 hv
 | mp id v h h1 hv=>exact .mp id v h h1 hv
 | fp cs b o us hA hc h1 _ ih=>exact .fp cs b o us (fun hne hb=>hA hne (av hb)) hc h1 ih
 | slnil p=>exact .slnil p
 | sl es b o cap k us hcap hmax hA hk hc h1 _ ih=>exact .sl es b o cap k us hcap hmax (fun i e hi hne hb=>hA i e hi hne (av hb)) hk hc h1 ih
 | fn f cs vs us hs hc _ ih=>exact .fn f cs vs us hs hc ih
 | ag cs vs us hs hc h1 _ ih=>exact .ag cs vs us hs hc h1 ih
 | tp cs vs us hs hc _ ih=>exact .tp cs vs us hs hc ih
theorem HC.frm3 {h hE hL:AH} {n:Nat} {R K:K3} {args':List AV} (I:List Nat) (hLs:∀ i B,hL i=some B->h i=some B/\I.contains i=false) (hlen:args'.length=args.length) (hs:∀ (j:Nat) (a a':AV),args[j]?=some a->args'[j]?=some a'->a'=a\/Snap hL a a') (hi:∀ i B,hE i=some B->I.contains i=true/\h i=some B) (hI:∀ i,I.contains i=true->i<n) (hn:∀ i,n<=i->h i=none)
  (hR:∀ v h' n',R v h' n'->OnF (liveP h') v/\∀ i B,h' i=some B->OnBF (liveP h') B)
  (hc:HC P f args' hE n R) (hk:∀ v h' n',R v h' n'->n<=n'->(∀ i B,h' i=some B->I.contains i=true\/(n<=i/\i<n'))->K v (fun i=>if I.contains i||decide (n<=i) then h' i else h i) n'):HC P f args h n K:=by
 refine ⟨hc.1,fun O μ w vs hr hsz hva=>?_⟩
 let q0:Nat->Bool:=fun i=>I.contains i||(hL i).isSome
 have hO2:∀ b,Av O (muP (fun i=>!q0 i) μ) b->Av O (muO I μ) b:=fun b hb=>by
  rcases hb with hb | ⟨id,k,hb⟩
  ·exact .inl hb
  ·obtain ⟨h1,h2⟩:=kaB hb
   simp only [q0,jbi,jdg] at h1
   exact .inr ⟨id,k,by unfold muO; rw [if_neg (by rw [h1.1]; decide)]; exact h2⟩
 have hO3:∀ b,Av O (muP (fun i=>!q0 i) μ) b->Av O (muP (fun i=>!(hL i).isSome) μ) b:=fun b hb=>by
  rcases hb with hb | ⟨id,k,hb⟩
  ·exact .inl hb
  ·obtain ⟨h1,h2⟩:=kaB hb
   simp only [q0,jbi,jdg] at h1
   exact .inr ⟨id,k,by unfold muP; rw [if_pos (by show (!(hL id).isSome)=true; rw [h1.2]; rfl)]; exact h2⟩
 have sp:∀ {a:AV} {v:Value},VR w O μ n a v->VR w (Av O (muP (fun i=>!q0 i) μ)) (muI I μ) n a v:=fun hv=>(hv.split I).less hO2
 have hrI:HR w (Av O (muP (fun i=>!q0 i) μ)) (muI I μ) hE n:=by
  refine ⟨fun b hb=>?_,fun id b k e=>hr.scope id b k (kap e).2,fun id id' b k k' e e'=>hr.inj id id' b k k' (kap e).2 (kap e').2,fun id b k e hO=>?_,fun id B hB=>?_⟩
  ·rcases hb with hb | ⟨id,k,hb⟩
   ·exact hr.olt b hb
   ·exact (hr.scope id b k (kaB hb).2).2
  ·replace hO:=hO2 b hO
   obtain ⟨e1,e2⟩:=kap e
   rcases hO with hO | ⟨id',k',hO⟩
   ·exact hr.notO id b k e2 hO
   ·obtain ⟨e3,e4⟩:=kaE hO
    rw [hr.inj _ _ _ _ _ e2 e4] at e1
    rw [e1] at e3; cases e3
  ·obtain ⟨h1,h2⟩:=hi id B hB
   exact (hr.blk id B h2).mapV (by simp only [muI]; rw [if_pos h1]) sp
 refine (hc.2 (Av O (muP (fun i=>!q0 i) μ)) (muI I μ) w vs hrI (hsz.trans hlen.symm) (fun j c hj=>?_)).mono ?_
 ·obtain ⟨a,ha⟩:=kag hlen hj
  obtain ⟨u,h1,h2⟩:=hva j a ha
  refine ⟨u,h1,?_⟩
  rcases hs j a c ha hj with rfl | hsn
  ·exact sp h2
  ·have hz:∀ q B,hL q=some B->h q=some B/\(fun i=>!(hL i).isSome) q=false:=fun q B hq=>⟨(hLs q B hq).1,by simp [hq]⟩
   have hp:=hsn.vr (hr.part (p:=fun i=>!(hL i).isSome) hz) (h2.splitP (fun i=>!(hL i).isSome))
   exact hp.lift fun b hb=>by
    rcases hb with hb | ⟨id,k,hb⟩
    ·exact hO3 b hb
    ·obtain ⟨e1,e2⟩:=kap hb
     have e3:(!(hL id).isSome)=true:=by
      cases hq:hL id with
      | none=>rfl
      | some B=>have:=(hLs id B hq).2; rw [e1] at this; cases this
     exact .inr ⟨id,k,by unfold muP; rw [if_pos (by exact e3)]; exact e2⟩
 rintro e w' ⟨u,v,h',n',μ',rfl,q1,q2,q3,q4⟩
 have hnn:=q4.le
 let p:Nat->Bool:=fun i=>I.contains i||decide (n<=i)
 have hp0:∀ {i},p i=false->I.contains i=false/\i<n:=fun {i} hp=>by simpa [p] using hp
 have hm:∀ id,p id=true->(fun i=>if p i then μ' i else μ i) id = μ' id:=fun id h=>by simp only [h,if_true]
 have hm0:∀ id,p id=false->(fun i=>if p i then μ' i else μ i) id = μ id:=fun id h=>by simp only [h,jaj,if_false]
 have hsome:∀ id b k,μ' id=some (b,k)->p id=true:=fun id b k e=>by
  rcases jax (p id) with hp | hp
  ·exact hp
  ·obtain ⟨e1,e2⟩:=hp0 hp
   rcases q4.ids id e2 with e3 | e3
   ·rw [e3] at e; rw [(kap e).1] at e1; cases e1
   ·rw [e3] at e; cases e
 have hlive:∀ i B,h' i=some B->p i=true/\i<n':=fun i B hB=>by
  have:=q2.blk i B hB
  cases B with
  | cells k T es=>obtain ⟨b,c,h1,_⟩:=this; exact ⟨hsome i b k h1,(q2.scope i b k h1).1⟩
  | map kvs=>obtain ⟨b,es,h1,_⟩:=this; exact ⟨hsome i b 0 h1,(q2.scope i b 0 h1).1⟩
  | si s pos=>obtain ⟨b,h1,_⟩:=this; exact ⟨hsome i b 0 h1,(q2.scope i b 0 h1).1⟩
 have hliveP:∀ i,liveP h' i=true->p i=true/\i<n':=fun i hi=>by
  obtain ⟨B,hB⟩:=jao.1 hi
  exact hlive i B hB
 replace hk:=hk v h' n' q1 hnn fun i B hB=>by
  obtain ⟨h1,h2⟩:=hlive i B hB
  simp only [p,jav,jai] at h1
  rcases h1 with h1 | h1
  ·exact .inl h1
  ·exact .inr ⟨h1,h2⟩
 obtain ⟨hv,hb⟩:=hR v h' n' q1
 have hdis:∀ id b k id2 k2,μ' id=some (b,k)->μ id2=some (b,k2)->p id2=false->False:=fun id b k id2 k2 e e2 hp=>by
  have hlt:=hr.scope id2 b k2 e2
  by_cases hid:id<n
  ·rcases q4.ids id hid with e3 | e3
   ·rw [e3] at e
    obtain ⟨e4,e5⟩:=kap e
    rw [hr.inj id id2 b k k2 e5 e2] at e4
    rw [(hp0 hp).1] at e4; cases e4
   ·rw [e3] at e; cases e
  ·rcases q4.new id b k e (Nat.le_of_not_lt hid) with h1 | ⟨id0,k0,h1⟩
   ·omega
   ·obtain ⟨e4,e5⟩:=kap h1
    rw [hr.inj id0 id2 b k0 k2 e5 e2] at e4
    rw [(hp0 hp).1] at e4; cases e4
 have hE2:Evo w μ n w' (fun i=>if p i then μ' i else μ i) n':=by
  refine ⟨q4.os,q4.tape,q4.output,q4.size,hnn,fun b hb hn=>q4.keep b hb fun id k e=>hn id k (kap e).2,q4.row,fun id hid=>?_,fun id b k e hn=>?_⟩
  ·rcases jax (p id) with hI' | hI'
   ·have e0:=hm id hI'
    simp only at e0
    rw [e0]
    have hIc:I.contains id=true:=by
     simp only [p,jav,jai] at hI'
     rcases hI' with hI' | hI'
     ·exact hI'
     ·omega
    rcases q4.ids id hid with e1 | e1
    ·rw [e1]; left; unfold muI; rw [if_pos hIc]
    ·exact .inr e1
   ·exact .inl (hm0 id hI')
  ·rcases jax (p id) with hI' | hI'
   ·rcases q4.new id b k ((hm id hI') ▸ e) hn with h1 | ⟨id0,k0,h1⟩
    ·exact .inl h1
    ·exact .inr ⟨id0,k0,(kap h1).2⟩
   ·exact absurd (hr.scope id b k ((hm0 id hI') ▸ e)).1 (by omega)
 have hH2:HR w' O (fun i=>if p i then μ' i else μ i) (fun i=>if p i then h' i else h i) n':=by
  refine ⟨fun b hb=>jan (hr.olt b hb) q4.size,fun id b k e=>?_,fun id id' b k k' e e'=>?_,fun id b k e=>?_,fun id B hB=>?_⟩
  ·rcases jax (p id) with hI' | hI'
   ·exact q2.scope id b k ((hm id hI') ▸ e)
   ·have:=hr.scope id b k ((hm0 id hI') ▸ e)
    exact ⟨jan this.1 hnn,jan this.2 q4.size⟩
  ·rcases jax (p id) with hI1 | hI1
   ·have e1:μ' id=some (b,k):=(hm id hI1) ▸ e
    rcases jax (p id') with hI2 | hI2
    ·exact q2.inj id id' b k k' e1 ((hm id' hI2) ▸ e')
    ·exact (hdis id b k id' k' e1 ((hm0 id' hI2) ▸ e') hI2).elim
   ·have e1:μ id=some (b,k):=(hm0 id hI1) ▸ e
    rcases jax (p id') with hI2 | hI2
    ·exact (hdis id' b k' id k ((hm id' hI2) ▸ e') e1 hI1).elim
    ·exact hr.inj id id' b k k' e1 ((hm0 id' hI2) ▸ e')
  ·rcases jax (p id) with hI' | hI'
   ·exact fun hO=>q2.notO id b k ((hm id hI') ▸ e) (.inl hO)
   ·exact hr.notO id b k ((hm0 id hI') ▸ e)
  ·rcases jax (p id) with hI' | hI'
   ·simp only [hI',if_true] at hB
    exact (q2.blk id B hB).onF (hb id B hB) (hm id hI') (fun i h=>⟨hm i (hliveP i h).1,(hliveP i h).2⟩)
   ·simp only [hI',jaj,if_false] at hB
    refine (hr.blk id B hB).evo (hm0 id hI') (fun b k e=>q4.keep b (hr.scope id b k e).2 fun id' k' e'=>?_) hE2
    obtain ⟨e1,e2⟩:=kap e'
    rw [hr.inj _ _ _ _ _ e e2] at hI'
    rw [(hp0 hI').1] at e1; cases e1
 exact ⟨u,_,_,_,_,rfl,hk,hH2,q3.onF hv (fun i h=>⟨hm i (hliveP i h).1,(hliveP i h).2⟩),hE2⟩
end
section
variable {P:Program} {κ κ' κ2:Nat->Option Nat} {ln ln' ln2:Nat->Nat} {z z':AH} {c:Cx sem} {s:TS sem} {env:Env} {h h':AH} {n n' N N':Nat}
theorem Rel.cut {t:TS sem} {h2:AH} (R:Rel P κ ln ahN ⟨[],[]⟩ t env h n) (hh:∀ id B q,thp (⟨[],[]⟩:Cx sem) t id=some B->Ow κ ln id B q->h2 q=h q) (hn:∀ q,n<=q->h2 q=none):Rel P κ ln ahN ⟨[],[]⟩ t env h2 n:=
 ⟨R.env,fun id B hB=>(R.blk id B hB).mono (fun _ _=>rfl) (fun _ _=>rfl) (fun _ _ h=>h) (jah _) (R.lt id B hB) (fun q B' hq hB'=>by rw [hh id B q hB hq]; exact hB'),R.lt,R.inj,fun q B hq=>(by cases hq),R.zout,R.bnd,hn,R.e0,R.g,R.dy,fun q k T es hq=>(by cases hq),R.fam⟩
theorem kcN {C:CtrM} {u:TS sem} (hu:C.okU u=true) {id:Nat} {b:Option (TB sem)} (hb:alk u.hp id=some b):∃ B,b=some B/\id<C.n1/\B.all (fun i=>(alk u.hp i).isSome) C.keptW=true/\C.kept id=true/\(B.needL=true->C.keptW id=true):=by
 unfold CtrM.okU at hu
 simp only [jac] at hu
 have:=jam.1 hu.1 _ (kat hb)
 cases b with
 | none=>simp at this
 | some B=>
  simp only [jac,jav,jbi,jai] at this
  obtain ⟨⟨⟨h1,h2⟩,h3⟩,h4⟩:=this
  refine ⟨B,rfl,h1,h2,h3,fun hn=>?_⟩
  rcases h4 with h4 | h4
  ·rw [hn] at h4; cases h4
  ·exact h4
theorem kqE {C:CtrM} {u:TS sem} (hu:C.okU u=true) {i:Nat} (hi:i<C.nr):∃ v,alk u.env (1000000+i)=some v/\v.all (fun i=>(alk u.hp i).isSome) C.keptW=true:=by
 unfold CtrM.okU at hu
 simp only [jac] at hu
 have:=jam.1 hu.2 i (jcj.2 hi)
 split at this
 ·rename_i v hv; exact ⟨v,hv,this⟩
 ·cases this
theorem kkP {t:TS sem} {x:Nat} {v:TV sem} (hx:alk t.env x=some v):tlk c t x=v:=by unfold tlk; rw [hx]
theorem kpW:∀ (vs:List AV) (k i:Nat) (E:Env),k<=i->lk ((vs.zipIdx k).map (fun x=>(1000000+x.2,x.1))++E) (1000000+i)=(vs[i-k]?).getD (lk E (1000000+i))
 | [],k,i,E,h=>by simp
 | v::vs,k,i,E,h=>by
  simp only [jbx,jap,jdp,lk]
  by_cases e:i=k
  ·subst e; simp
  ·rw [if_neg (by omega),kpW vs (k+1) i E (by omega),show i-k=(i-(k+1))+1 by omega,jbz]
theorem kxN {C:CtrM} {y:C.out.ty.den} {args:List AV} (hu:C.okU (kad (A:=sem) C.out C.n1 y)=true) {v:AV} {κ:Nat->Option Nat} {ln:Nat->Nat} (ha:kjB P C κ ln y args v h' n'):On (liveP h') v/\∀ i B,h' i=some B->OnB (liveP h') B:=by
 obtain ⟨κ3,ln3,vs,hvl,rfl,R,hmin,_⟩:=ha
 have hp:∀ i q,(alk (kad (A:=sem) C.out C.n1 y).hp i).isSome=true->κ3 i=some q->liveP h' q=true:=fun i q hi hk=>by
  obtain ⟨b,hb⟩:=jao.1 hi
  obtain ⟨B,rfl,_⟩:=kcN hu hb
  have hB:=R.blk i B (kab (s:=offD (kad (A:=sem) C.out C.n1 y)) hb)
  have:∃ AB,h' q=some AB:=by cases hB <;> simp_all
  obtain ⟨AB,h1⟩:=this
  unfold liveP; rw [h1]; rfl
 have each:∀ i a,vs[i]?=some a->On (liveP h') a:=fun i a hi=>by
  have hlt:i<C.nr:=by rw [<-hvl]; exact (jad.1 hi).1
  obtain ⟨v,h1,h2⟩:=kqE hu hlt
  have hv:=R.env (1000000+i)
  have e1:tlk (⟨[],[]⟩:Cx sem) (offD (kad (A:=sem) C.out C.n1 y)) (1000000+i)=v:=kkP (t:=offD (kad (A:=sem) C.out C.n1 y)) h1
  rw [e1] at hv
  have e2:lk (resE vs++kao args) (1000000+i)=a:=by
   have:=kpW vs 0 i (kao args) (jea _)
   rw [Nat.sub_zero,hi] at this
   exact this
  rw [e2] at hv
  exact on_tv hp hv h2
 refine ⟨?_,fun i B hB=>?_⟩
 ·unfold tpA
  split
  ·exact each 0 _ rfl
  ·exact .tp _ fun j a hj=>each j a hj
 ·obtain ⟨id,b,h1,h2⟩:=hmin i B hB
  obtain ⟨B',e,_,h4,_⟩:=kcN hu h1
  cases e
  have hb:=R.blk id b (kab (s:=offD (kad (A:=sem) C.out C.n1 y)) h1)
  refine on_br hp hb h4 (fun r hf hr=>?_) h2 hB
  cases b <;> simp only [TB.isF,jaj] at hf
  obtain ⟨_,_,_,_,_,_,_,_,_,_,_,_,_,es,g1,_⟩:=hb.row hr
  unfold liveP; rw [g1]; rfl
end
section
variable {P:Program} {κ κ' κ2:Nat->Option Nat} {ln ln' ln2:Nat->Nat} {z z':AH} {c:Cx sem} {s:TS sem} {env:Env} {h h':AH} {n n' N N':Nat}
theorem kgP:∀ (t:Ty) (x:t.den),t.flat=true->FlatL (t.enc x)
 | .i _,x,_ | .b,x,_ | .s,x,_=>by intro a ha; simp [Ty.enc] at ha; subst ha; exact .sc _
 | .un,x,_=>by intro a ha; simp [Ty.enc] at ha
 | .w t,x,hf=>kgP t x hf
 | .pr t u,x,hf=>by
  simp only [Ty.flat,jac] at hf
  intro a ha
  replace ha:a∈t.enc x.1++u.enc x.2:=ha
  rcases jaz.1 ha with ha | ha
  ·exact kgP t x.1 hf.1 a ha
  ·exact kgP u x.2 hf.2 a ha
theorem khZ (t:Ty) (x:t.den) (hf:t.flat=true):Flat (t.av x):=by
 have h1:=kgP t x hf
 cases ha:t.agg with
 | true=>rw [kgq ha]; exact (kye _).2 h1
 | false=>rw [kgj ha (kcv hf)] at h1; exact h1 _ (by simp)
theorem Snap.flat {a a':AV} (hs:Snap z a a'):Flat a'->Flat a:=by
 induction hs with
 | free a hf=>exact id
 | nilS=>intro h; cases h
 | own=>intro h; cases h
 | ms=>intro h; cases h
 | fp=>intro h; cases h
 | sl=>intro h; cases h
 | fn=>intro h; cases h
 | ag cs cs' hl hr ih=>
  intro h
  cases h with
  | ag _ h=>
   refine .ag cs fun j c hj=>?_
   obtain ⟨c',hc'⟩:=kag (l:=cs') (l':=cs) hl.symm hj
   exact ih j c c' hj hc' (h j c' hc')
 | tp cs cs' hl hr ih=>
  intro h
  cases h with
  | tp _ h=>
   refine .tp cs fun j c hj=>?_
   obtain ⟨c',hc'⟩:=kag (l:=cs') (l':=cs) hl.symm hj
   exact ih j c c' hj hc' (h j c' hc')
mutual
theorem kwH {p:Nat->Bool} {f w:Nat->Bool} (hp:∀ i q,f i=true->κ i=some q->p q=true):∀ {v:TV sem} {a:AV},TVR P κ ln ahN N v a->v.all f w=true->v.flt=true->OnF p a
 | _,_,.un a,h,hf=>by simp [TV.all] at h
 | _,_,.ud,h,hf=>by simp [TV.flt] at hf
 | _,_,.gs t l,h,hf=>by simp [TV.flt] at hf
 | _,_,.yl id q hi hq,h,hf=>by simp [TV.flt] at hf
 | _,_,.kp id hi,h,hf=>by simp [TV.flt] at hf
 | _,_,.c t x a hd hs,h,hf=>.flat _ (hs.flat (khZ t x (by simpa [TV.flt] using hf)))
 | _,_,.kb b,h,hf=>.flat _ (.sc _)
 | _,_,.sc v h1,h,hf=>.flat _ (.sc _)
 | _,_,.ptr id j q hi hk,h,hf=>.own _ _ _ (hp id q (by simpa [TV.all] using h) hk)
 | _,_,.adr id i j q hi hk h0 h1,h,hf=>.own _ _ _ (hp id q (by simp [TV.all] at h; exact h.1) hk)
 | _,_,.aa id i q hi hk h0 h1,h,hf=>.own _ _ _ (hp id q (by simp [TV.all] at h; exact h.1) hk)
 | _,_,.fq t x o a hd hs,h,hf=>by simp [TV.flt] at hf
 | _,_,.mw0 id hi hk,h,hf=>.flat _ (.sc _)
 | _,_,.mw id q hi hk,h,hf=>.ms _ _ _ (hp id q (by simp [TV.all] at h; exact h.1) hk)
 | _,_,.ms0 id off len hi hk ho hl,h,hf=>.flat _ (.sc _)
 | _,_,.ms id off len q hi hk h0 h1 h2,h,hf=>.ms _ _ _ (hp id q (by simp [TV.all] at h; exact h.1) hk)
 | _,_,.mp id q hi hk,h,hf=>.mp _ (hp id q (by simpa [TV.all] using h) hk)
 | _,_,.fw0 id hi hk,h,hf=>.flat _ (.sc _)
 | _,_,.fw id q hi hk,h,hf=>.ms _ _ _ (hp id q (by simp [TV.all] at h; exact h.1) hk)
 | _,_,.fr0 _ _ _ _ _ _,h,hf | _,_,.fr _ _ _ _ _ _ _,h,hf | _,_,.fa _ _ _ _ _ _ _ _ _ _ _,h,hf=>by simp [TV.all] at h
 | _,_,.fo id i j q hi hk h0 h1,h,hf=>.own _ _ _ (hp id q (by simp [TV.all] at h; exact h.1) hk)
 | _,_,.fn g vs as hs,h,hf=>.fn g as fun j a hj=>klm hp hs (by simpa [TV.all] using h) (by simpa [TV.flt] using hf) a (jag hj)
 | _,_,.cv n x y F a hc,h,hf=>by simp [TV.flt] at hf
 | _,_,.tp vs as hs,h,hf=>.tp as fun j a hj=>klm hp hs (by simpa [TV.all] using h) (by simpa [TV.flt] using hf) a (jag hj)
 | _,_,.ag vs as hs h1,h,hf=>.ag as fun j a hj=>klm hp hs (by simpa [TV.all] using h) (by simpa [TV.flt] using hf) a (jag hj)
theorem klm {p:Nat->Bool} {f w:Nat->Bool} (hp:∀ i q,f i=true->κ i=some q->p q=true):∀ {vs:List (TV sem)} {as:List AV},TVRs P κ ln ahN N vs as->TV.all.allL f w vs=true->TV.flt.fltL vs=true->∀ a∈as,OnF p a
 | _,_,.nil,h,hf,a,ha=>by cases ha
 | _,_,.cons v a vs as hv hs,h,hf,b,hb=>by
  simp only [TV.all.allL,jac] at h
  simp only [TV.flt.fltL,jac] at hf
  rcases jbu.1 hb with rfl | hb
  ·exact kwH hp hv h.1 hf.1
  ·exact klm hp hs h.2 hf.2 b hb
end
theorem kiK:∀ t:Ty,t.dat=true->(cellF t).length=t.wd
 | .i _,_ | .b,_ | .s,_ | .un,_ | .sl _,_ | .pt _,_ | .op _,_=>rfl
 | .w x,h=>kiK x h
 | .pr x y,h=>by
  simp only [Ty.dat,jac] at h
  simp only [cellF,jbg,Ty.wd]
  rw [kiK x h.1,kiK y h.2]
 | .ar n x,_=>by simp [cellF,Ty.wd]
theorem kjk:∀ (t:Ty) (x:t.den),t.dat=true->∀ (q k:Nat) (a:AV),(cellF t)[q]?=some k->(t.enc x)[q]?=some a->(k=0->Flat a)/\(k=1->∀ ys,a = .sl ys->∀ e∈ys,FlatL e)
 | .i _,x,_,q,k,a,h1,h2 | .b,x,_,q,k,a,h1,h2 | .s,x,_,q,k,a,h1,h2=>by
  cases q with
  | zero=>simp only [cellF,jcu,Option.some.injEq] at h1; simp [Ty.enc] at h2; subst h1; subst h2; exact ⟨fun _=>.sc _,fun e=>(by cases e)⟩
  | succ q=>simp [cellF] at h1
 | .un,x,_,q,k,a,h1,h2=>by simp [cellF] at h1
 | .w t,x,h,q,k,a,h1,h2=>kjk t x h q k a h1 h2
 | .pr t u,x,h,q,k,a,h1,h2=>by
  simp only [Ty.dat,jac] at h
  simp only [cellF] at h1
  replace h2:(t.enc x.1++u.enc x.2)[q]?=some a:=h2
  rw [jbm] at h1 h2
  rw [kiK t h.1] at h1
  rw [kaf t x.1 h.1] at h2
  split at h1
  ·rename_i hlt
   rw [if_pos hlt] at h2
   exact kjk t x.1 h.1 q k a h1 h2
  ·rename_i hlt
   rw [if_neg hlt] at h2
   exact kjk u x.2 h.2 _ k a h1 h2
 | .sl t,l,h,q,k,a,h1,h2=>by
  cases q with
  | succ q=>simp [cellF] at h1
  | zero=>
   simp only [cellF,jcu,Option.some.injEq] at h1
   simp [Ty.enc] at h2
   subst h1; subst h2
   refine ⟨fun e=>?_,fun e ys hys y hy=>?_⟩
   ·split at e <;> cases e
   ·split at e
    ·rename_i hf
     cases hys
     obtain ⟨z,hz,rfl⟩:=jay.1 hy
     exact kgP t z hf
    ·cases e
 | .pt t,x,h,q,k,a,h1,h2 | .op t,x,h,q,k,a,h1,h2=>by
  cases q with
  | succ q=>simp [cellF] at h1
  | zero=>
   simp only [cellF,jcu,Option.some.injEq] at h1
   subst h1
   exact ⟨fun e=>(by cases e),fun e=>(by cases e)⟩
 | .ar n t,x,h,q,k,a,h1,h2=>by
  simp only [cellF,jct] at h1
  split at h1
  ·cases h1
   exact ⟨fun e=>(by cases e),fun e=>(by cases e)⟩
  ·cases h1
theorem kyJ {p:Nat->Bool} {f w:Nat->Bool} {id q:Nat} {B:TB sem} {AB:ABlk} (hp:∀ i q,f i=true->κ i=some q->p q=true) (hb:BR P κ ln ahN h N id B) (ha:B.all f w=true) (hfl:B.flt=true) (hpr:∀ r,B.isF=true->r∈kam (ln id)->p r=true) (hk:Ow κ ln id B q) (hq:h q=some AB):OnBF p AB:=by
 have fmc:∀ {t:Ty} {j:Nat},t.dat=true->((cellF t).zipIdx.all fun x=>x.1==0||(x.1==1&&x.2==j))=true->∀ (x:t.den) (k:Nat) (a:AV),(t.enc x)[k]?=some a->(k≠j->Flat a)/\(k=j->∀ ys,a = .sl ys->∀ e∈ys,FlatL e):=fun {t j} hd hall x k a ha=>by
  have hlt:k<(cellF t).length:=by rw [kiK t hd,<-kaf t x hd]; exact (jad.1 ha).1
  have hg:(cellF t)[k]?=some ((cellF t)[k]):=jae hlt
  have hsp:=kjk t x hd k _ a hg ha
  have:=jam.1 hall ((cellF t)[k],k) (jdc.2 (by simp))
  simp only [jav,beq_iff_eq,jac] at this
  refine ⟨fun hne=>?_,fun he ys hys e hee=>?_⟩
  ·rcases this with h | ⟨_,h⟩
   ·exact hsp.1 h
   ·exact absurd h hne
  ·rcases this with h | ⟨h,_⟩
   ·have:=hsp.1 h; rw [hys] at this; cases this
   ·exact hsp.2 h ys hys e hee
 have hb0:=hb
 rcases hk with hk | ⟨hf,hr⟩
 case inr=>
  cases B <;> simp only [TB.isF,jaj] at hf
  rename_i T t jj U u l ho
  have hd:t.dat=true:=by cases hb0 <;> assumption
  obtain ⟨i,m,x,e,_,_,_,_,_,ys,g3,_,_,es,g1,g2,_⟩:=hb.row hr
  rw [g1] at hq; cases hq
  intro e he a hae
  obtain ⟨i,hi⟩:=jbe.1 he
  obtain ⟨e',he'⟩:=kag (l:=ys) (l':=es) g2.1.symm hi
  have hs2:=g2.2 i e e' hi he'
  obtain ⟨j,hj⟩:=jbe.1 hae
  obtain ⟨c',hc'⟩:=kag (l:=e') (l':=e) hs2.len.symm hj
  exact .flat _ ((hs2.at j a c' hj hc').flat ((fmc hd (by simpa [TB.flt] using hfl) x jj _ g3).2 rfl ys rfl e' (jag he') c' (jag hc')))
 cases hb with
 | bx T vs q' as hq1 hq2 hv h1=>
  rw [hk] at hq1; cases hq1; rw [hq] at hq2; cases hq2
  intro e he a hae
  simp at he; subst he
  exact klm hp hv (by simpa [TB.all] using ha) (by simpa [TB.flt] using hfl) a hae
 | el T t x q' cs hd hq1 hq2 hv h1 hl=>
  rw [hk] at hq1; cases hq1; rw [hq] at hq2; cases hq2
  intro e he a hae
  simp at he; subst he
  obtain ⟨j,hj⟩:=jbe.1 hae
  obtain ⟨c',hc'⟩:=kag (l:=t.enc x) (l':=e) hv.len.symm hj
  exact .flat _ ((hv.at j a c' hj hc').flat (kgP t x (by simpa [TB.flt] using hfl) c' (jag hc')))
 | sl0 T t l hd hq1 hl hn=>rw [hk] at hq1; cases hq1
 | sl T t l q' es hd hq1 hq2 hv h1 hn=>
  rw [hk] at hq1; cases hq1; rw [hq] at hq2; cases hq2
  intro e he a hae
  obtain ⟨i,hi⟩:=jbe.1 he
  obtain ⟨e',he'⟩:=kag (l:=l.map t.enc) (l':=es) hv.1.symm hi
  have hs:=hv.2 i e e' hi he'
  obtain ⟨j,hj⟩:=jbe.1 hae
  obtain ⟨c',hc'⟩:=kag (l:=e') (l':=e) hs.len.symm hj
  obtain ⟨y,hy,rfl⟩:=jay.1 (jag he')
  exact .flat _ ((hs.at j a c' hj hc').flat (kgP t y (by simpa [TB.flt] using hfl) c' (jag hc')))
 | mp k v l q' hk1 hf hq1 hq2=>
  rw [hk] at hq1; cases hq1; rw [hq] at hq2; cases hq2
  intro x hx
  obtain ⟨y,hy,rfl⟩:=jay.1 hx
  exact .flat _ (khZ _ _ hf)
 | si x q' hq1 h0 hq2=>rw [hk] at hq1; cases hq1; rw [hq] at hq2; cases hq2; trivial
 | fm0 T t j U u l ho hd hq1 hl hn=>rw [hk] at hq1; cases hq1
 | fm T t j U u l ho q' es hd hq1 hq2 hn hle hv h0 h1=>
  rw [hk] at hq1; cases hq1; rw [hq] at hq2; cases hq2
  have hho:ho=none:=by simpa [TB.all] using ha
  subst hho
  intro e he a hae
  obtain ⟨i,hi⟩:=jbe.1 he
  have hlt:=(jad.1 hi).1
  have hx:l[i]?=some (l[i]'(by omega)):=jae _
  have hrm:(kac (ln id))[i]?=some ((kac (ln id))[i]'(by omega)):=jae _
  obtain ⟨g1,g2,ys,g3,g4,g5⟩:=hv i _ e _ hx hi hrm (by simp)
  obtain ⟨k,hk'⟩:=jbe.1 hae
  by_cases hkj:k=j
  ·subst hkj
   generalize (kac (ln id))[i]'(by omega)=rm at g5 hrm
   obtain ⟨r,m⟩:=rm
   cases r with
   | none=>obtain ⟨g6,_⟩:=g5; rw [hk'] at g6; cases g6; exact .flat _ (.sc _)
   | some r=>obtain ⟨g6,_⟩:=g5; rw [hk'] at g6; cases g6; exact .ms _ _ _ (hpr r rfl (kay hrm))
  ·obtain ⟨c',hc'⟩:=kag (l:=t.enc (l[i]'(by omega))) (l':=e) g1 hk'
   exact .flat _ ((g2 k a c' hkj hk' hc').flat ((fmc hd (by simpa [TB.flt] using hfl) _ k c' hc').1 hkj))
theorem kyb {C:CtrM} {u:TS sem} (hu:C.okF u=true) {id:Nat} {B:TB sem} (hb:alk u.hp id=some (some B)):B.flt=true:=by
 unfold CtrM.okF at hu
 simp only [jac] at hu
 exact jam.1 hu.1 _ (kat hb)
theorem kya {C:CtrM} {u:TS sem} (hu:C.okF u=true) {i:Nat} (hi:i<C.nr) {v:TV sem} (hv:alk u.env (1000000+i)=some v):v.flt=true:=by
 unfold CtrM.okF at hu
 simp only [jac] at hu
 have:=jam.1 hu.2 i (jcj.2 hi)
 rw [hv] at this; exact this
theorem kwI {C:CtrM} {y:C.out.ty.den} {args:List AV} (hu:C.okU (kad (A:=sem) C.out C.n1 y)=true) (hfl:C.okF (kad (A:=sem) C.out C.n1 y)=true) {v:AV} {κ:Nat->Option Nat} {ln:Nat->Nat} (ha:kjB P C κ ln y args v h' n'):OnF (liveP h') v/\∀ i B,h' i=some B->OnBF (liveP h') B:=by
 obtain ⟨κ3,ln3,vs,hvl,rfl,R,hmin,_⟩:=ha
 have hp:∀ i q,(alk (kad (A:=sem) C.out C.n1 y).hp i).isSome=true->κ3 i=some q->liveP h' q=true:=fun i q hi hk=>by
  obtain ⟨b,hb⟩:=jao.1 hi
  obtain ⟨B,rfl,_⟩:=kcN hu hb
  have hB:=R.blk i B (kab (s:=offD (kad (A:=sem) C.out C.n1 y)) hb)
  have:∃ AB,h' q=some AB:=by cases hB <;> simp_all
  obtain ⟨AB,h1⟩:=this
  unfold liveP; rw [h1]; rfl
 have each:∀ i a,vs[i]?=some a->OnF (liveP h') a:=fun i a hi=>by
  have hlt:i<C.nr:=by rw [<-hvl]; exact (jad.1 hi).1
  obtain ⟨v,h1,h2⟩:=kqE hu hlt
  have hv:=R.env (1000000+i)
  have e1:tlk (⟨[],[]⟩:Cx sem) (offD (kad (A:=sem) C.out C.n1 y)) (1000000+i)=v:=kkP (t:=offD (kad (A:=sem) C.out C.n1 y)) h1
  rw [e1] at hv
  have e2:lk (resE vs++kao args) (1000000+i)=a:=by
   have:=kpW vs 0 i (kao args) (jea _)
   rw [Nat.sub_zero,hi] at this
   exact this
  rw [e2] at hv
  exact kwH hp hv h2 (kya hfl hlt h1)
 refine ⟨?_,fun i B hB=>?_⟩
 ·unfold tpA
  split
  ·exact each 0 _ rfl
  ·exact .tp _ fun j a hj=>each j a hj
 ·obtain ⟨id,b,h1,h2⟩:=hmin i B hB
  obtain ⟨B',e,_,h4,_⟩:=kcN hu h1
  cases e
  have hb:=R.blk id b (kab (s:=offD (kad (A:=sem) C.out C.n1 y)) h1)
  refine kyJ hp hb h4 (kyb hfl h1) (fun r hf hr=>?_) h2 hB
  cases b <;> simp only [TB.isF,jaj] at hf
  obtain ⟨_,_,_,_,_,_,_,_,_,_,_,_,_,es,g1,_⟩:=hb.row hr
  unfold liveP; rw [g1]; rfl
theorem HC.frm4 {f:FuncId} {args args':List AV} {h hE hL:AH} {n:Nat} {R K:K3} (I:List Nat) (hLs:∀ i B,hL i=some B->h i=some B/\I.contains i=false) (hlen:args'.length=args.length) (hs:∀ (j:Nat) (a a':AV),args[j]?=some a->args'[j]?=some a'->a'=a\/Snap hL a a') (hi:∀ i B,hE i=some B->I.contains i=true/\h i=some B) (hI:∀ i,I.contains i=true->i<n) (hn:∀ i,n<=i->h i=none)
  (hR:∀ v h' n',R v h' n'->On (liveP h') v/\∀ i B,h' i=some B->OnB (liveP h') B) (hF:hL=ahN\/∀ v h' n',R v h' n'->OnF (liveP h') v/\∀ i B,h' i=some B->OnBF (liveP h') B)
  (hc:HC P f args' hE n R) (hk:∀ v h' n',R v h' n'->n<=n'->(∀ i B,h' i=some B->I.contains i=true\/(n<=i/\i<n'))->K v (fun i=>if I.contains i||decide (n<=i) then h' i else h i) n'):HC P f args h n K:=by
 rcases hF with rfl | hF
 ·exact (HC.frm2 I hi hI hn hR hc hk).up hlen hs
 ·exact HC.frm3 I hLs hlen hs hi hI hn hF hc hk
end
section
variable {P:Program} {κ κ' κ2 κ3:Nat->Option Nat} {ln ln' ln2 ln3:Nat->Nat} {z z':AH} {c:Cx sem} {s:TS sem} {env env3:Env} {h h' h2:AH} {n n' n2 N N':Nat}
theorem kps {α:Type}:∀ (l:List (Nat×Nat)) (q:Nat),alk (l.map fun x=>(x.2,(none:Option α))) q=if l.any (fun x=>x.2==q) then some none else none
 | [],q=>rfl
 | x::l,q=>by
  simp only [jap,alk]
  by_cases e:q=x.2
  ·subst e; simp
  ·have h2:(x.2==q)=false:=by simp; exact fun h=>e h.symm
   have h1:(x::l).any (fun x=>x.2==q)=l.any (fun x=>x.2==q):=by rw [List.any_cons,h2,jdk]
   rw [if_neg e,kps l q,h1]
theorem TVR.ptr_inv {id j:Nat} {a:AV} (h:TVR P κ ln z N (.ptr id j) a):∃ q,κ id=some q/\a = .own q 0 j:=by cases h; exact ⟨_,by assumption,rfl⟩
theorem TVR.mp_inv {id:Nat} {a:AV} (h:TVR P κ ln z N (.mp id) a):∃ q,κ id=some q/\a = .mp q:=by cases h; exact ⟨_,by assumption,rfl⟩
theorem TVR.mw_same {id id':Nat} {a:AV} (h:TVR P κ ln z N (.mw id) a) (h':TVR P κ' ln' z' N' (.mw id') a):κ id = κ' id'/\(κ id≠none->ln id=ln' id'):=by
 cases h with
 | mw0 _ hi hk=>
  generalize hn:nilS=a at h'
  cases h' with
  | mw0 _ hi' hk'=>exact ⟨hk.trans hk'.symm,fun e=>absurd hk e⟩
  | mw _ q hi' hk'=>cases hn
 | mw _ q hi hk=>
  generalize hn:AV.ms q 0 (ln id)=a at h'
  cases h' with
  | mw0 _ hi' hk'=>cases hn
  | mw _ q' hi' hk'=>injection hn with e1 _ e2; subst e1; exact ⟨hk.trans hk'.symm,fun _=>e2⟩
theorem kwD {C:CtrM} {as:List AV} {u t:TS sem} (R2:Rel P κ2 ln2 ahN ⟨[],[]⟩ t (kao as) h n) (R3:Rel P κ3 ln3 ahN ⟨[],[]⟩ u env3 h2 n2) (henv:∀ i,i<C.ks.length->lk env3 i=lk (kao as) i)
  (hin:∀ i pv,alk C.inp.env i=some pv->∀ v,(∀ xs:List ((t:Ty)×sem.D t),(unV (A:=sem) pv xs).1=v)->tlk (⟨[],[]⟩:Cx sem) t i=v) (hout:∀ i pv,alk C.out.env i=some pv->∀ v,(∀ xs:List ((t:Ty)×sem.D t),(unV (A:=sem) pv xs).1=v)->tlk (⟨[],[]⟩:Cx sem) u i=v)
  (hinn:∀ p∈C.inn,κ3 p = κ2 p/\ln3 p=ln2 p) {p:Nat} (hp:p<C.n0):(C.kept p=true->(alk C.inp.hp p).isSome=true/\κ3 p = κ2 p)/\(C.keptW p=true->κ2 p≠none->ln3 p=ln2 p):=by
 have sw:∀ p,C.slot sameW p=true->(alk C.inp.hp p).isSome=true/\κ3 p = κ2 p/\(κ2 p≠none->ln3 p=ln2 p):=fun p hs=>by
  unfold CtrM.slot at hs
  rw [jac] at hs
  obtain ⟨y,hy,hs2⟩:=jbc.1 hs.2
  rw [jac,jai] at hs2
  obtain ⟨hlt,hs2⟩:=hs2
  split at hs2
  ·rename_i a b ha hb
   cases a <;> cases b <;> simp only [sameW,jac,beq_iff_eq,jaj] at hs2
   obtain ⟨rfl,rfl⟩:=hs2
   have e1:=R2.env y.1
   have e2:=R3.env y.1
   rw [hin _ _ ha (.mw _) (fun xs=>rfl)] at e1
   rw [hout _ _ hb (.mw _) (fun xs=>rfl),henv _ hlt] at e2
   obtain ⟨k1,k2⟩:=e1.mw_same e2
   exact ⟨hs.1,k1.symm,fun hk=>(k2 hk).symm⟩
  ·cases hs2
 have sp:∀ p,C.slot kts p=true->(alk C.inp.hp p).isSome=true/\κ3 p = κ2 p:=fun p hs=>by
  unfold CtrM.slot at hs
  rw [jac] at hs
  obtain ⟨y,hy,hs2⟩:=jbc.1 hs.2
  rw [jac,jai] at hs2
  obtain ⟨hlt,hs2⟩:=hs2
  split at hs2
  ·rename_i a b ha hb
   have e1:=R2.env y.1
   have e2:=R3.env y.1
   cases a <;> cases b <;> simp only [kts,jac,beq_iff_eq,jaj] at hs2
   ·obtain ⟨⟨rfl,rfl⟩,rfl⟩:=hs2
    rw [hin _ _ ha (.ptr _ _) (fun xs=>rfl)] at e1
    rw [hout _ _ hb (.ptr _ _) (fun xs=>rfl),henv _ hlt] at e2
    obtain ⟨q1,k1,k2⟩:=e1.ptr_inv
    obtain ⟨q2,k3,k4⟩:=e2.ptr_inv
    rw [k2] at k4; cases k4
    exact ⟨hs.1,k3.trans k1.symm⟩
   ·obtain ⟨rfl,rfl⟩:=hs2
    rw [hin _ _ ha (.mp _) (fun xs=>rfl)] at e1
    rw [hout _ _ hb (.mp _) (fun xs=>rfl),henv _ hlt] at e2
    obtain ⟨q1,k1,k2⟩:=e1.mp_inv
    obtain ⟨q2,k3,k4⟩:=e2.mp_inv
    rw [k2] at k4; cases k4
    exact ⟨hs.1,k3.trans k1.symm⟩
  ·cases hs2
 have hw:C.keptW p=true->C.slot sameW p=true\/p∈C.inn:=fun hk=>by
  unfold CtrM.keptW at hk
  simp only [jav,jai] at hk
  rcases hk with (hk | hk) | hk
  ·omega
  ·exact .inl hk
  ·exact .inr (jbo.1 hk)
 have hi:∀ p∈C.inn,(alk C.inp.hp p).isSome=true:=fun p hm=>by
  unfold CtrM.inn at hm
  obtain ⟨x,hx,rfl⟩:=jay.1 hm
  have hx:=(jeb.1 hx).1
  generalize C.inp.hp=L at hx
  induction L with
  | nil=>cases hx
  | cons y L ih=>
   simp only [alk]
   split
   ·rfl
   ·rename_i e
    rcases jbu.1 hx with rfl | hx
    ·exact absurd rfl e
    ·exact ih hx
 refine ⟨fun hk=>?_,fun hk hne=>(hw hk).elim (fun h=>(sw p h).2.2 hne) fun h=>(hinn p h).2⟩
 unfold CtrM.kept at hk
 rw [jav,jav] at hk
 rcases hk with (hk | hk) | hk
 ·exact (hw hk).elim (fun h=>⟨(sw p h).1,(sw p h).2.1⟩) fun h=>⟨hi p h,(hinn p h).1⟩
 ·exact sp p hk
 ·have hm:=jbo.1 hk
  exact ⟨hi p hm,(hinn p hm).1⟩
end
section
variable {P:Program} {κ κ3:Nat->Option Nat} {ln ln3:Nat->Nat} {c:Cx sem} {s:TS sem} {env env3:Env} {h h' h2:AH} {n n2:Nat}
mutual
theorem ksG:∀ {v:TV sem} {i:Nat},v.hasW i=true->v.has i=true
 | .adr j _ _,i,hi | .aa j _,i,hi | .mw j,i,hi | .ms j _ _,i,hi | .fw j,i,hi | .fr j _,i,hi | .fo j _ _,i,hi | .fa j _ _ _,i,hi=>by simpa [TV.hasW,TV.has] using hi
 | .fn _ vs,i,hi | .tp vs,i,hi | .ag vs,i,hi=>by have:=knm (vs:=vs) (i:=i) (by simpa [TV.hasW] using hi); simpa [TV.has] using this
 | .un,i,hi | .ptr _ _,i,hi | .mp _,i,hi | .ud,i,hi | .c _ _,i,hi | .kb _,i,hi | .sc _,i,hi | .fq _ _ _,i,hi | .cv _ _ _ _,i,hi=>by simp [TV.hasW] at hi
theorem knm:∀ {vs:List (TV sem)} {i:Nat},TV.hasW.hasL i vs=true->TV.has.hasL i vs=true
 | [],i,hi=>by simp [TV.hasW.hasL] at hi
 | v::vs,i,hi=>by
  simp only [TV.hasW.hasL,jav] at hi
  simp only [TV.has.hasL,jav]
  rcases hi with hi | hi
  ·exact .inl (ksG hi)
  ·exact .inr (knm hi)
end
def kapM (C:CtrM) (s:TS sem) (κ κ3:Nat->Option Nat):Nat->Option Nat:=fun id=>if id<s.n then κ id else κ3 (id-s.n+C.n0)
def lenM (C:CtrM) (s:TS sem) (ln ln3:Nat->Nat):Nat->Nat:=fun id=>if id<s.n then ln id else ln3 (id-s.n+C.n0)
theorem khk {C:CtrM} {u:TS sem} {ids:List (Nat×Nat)} (R:Rel P κ ln ahN c s env h n) (ag:∀ p,p<C.n0->C.kept p=true->(alk u.hp p).isSome=true->∃ q,alk ids p=some q/\κ3 p = κ q/\(C.keptW p=true->ln3 p=ln q)) (own:∀ x∈ids,∃ B,alk s.hp x.2=some (some B)) {p:Nat} (hk:C.kept p=true) (h1:p<C.n1) (hs:(alk u.hp p).isSome=true) :
  kapM C s κ κ3 (renC C ids s.n p) = κ3 p/\renC C ids s.n p<s.n+(C.n1-C.n0)/\(C.keptW p=true->lenM C s ln ln3 (renC C ids s.n p)=ln3 p)/\(renC C ids s.n p<s.n->∃ x∈ids,x.2=renC C ids s.n p):=by
 unfold renC
 by_cases hp:p<C.n0
 ·rw [if_pos hp]
  obtain ⟨q,e1,e2,e3⟩:=ag p hp hk hs
  rw [e1,jca]
  obtain ⟨B,hB⟩:=own _ (kat e1)
  have hq:q<s.n:=R.lt q B (kab hB)
  refine ⟨by unfold kapM; rw [if_pos hq]; exact e2.symm,by omega,fun hw=>by unfold lenM; rw [if_pos hq]; exact (e3 hw).symm,fun _=>⟨_,kat e1,rfl⟩⟩
 ·rw [if_neg hp]
  have e:s.n+(p-C.n0)-s.n+C.n0=p:=by omega
  refine ⟨by unfold kapM; rw [if_neg (by omega),e],by omega,fun _=>by unfold lenM; rw [if_neg (by omega),e],fun h=>by omega⟩
theorem kxe {C:CtrM} {ids:List (Nat×Nat)} {u:TS sem} (R:Rel P κ ln ahN c s env h n) (hu:C.okU u=true) (R3:Rel P κ3 ln3 ahN ⟨[],[]⟩ (offD u) env3 h2 n2) (hn:n<=n2)
  (ag:∀ p,p<C.n0->C.kept p=true->(alk u.hp p).isSome=true->∃ q,alk ids p=some q/\κ3 p = κ q/\(C.keptW p=true->ln3 p=ln q)) (own:∀ x∈ids,∃ B,alk s.hp x.2=some (some B))
  (live2:∀ i B,h2 i=some B->(∃ x∈ids,i∈ows κ ln c s x.2)\/n<=i) (hh1:∀ i,(∃ x∈ids,i∈ows κ ln c s x.2)\/n<=i->h' i=h2 i) (hh2:∀ i,i<n->¬ (∃ x∈ids,i∈ows κ ln c s x.2)->h' i=h i) :
  Rel P (kapM C s κ κ3) (lenM C s ln ln3) ahN c (kgz C s u ids) env h' n2:=by
 have kold:∀ id,id<s.n->kapM C s κ κ3 id = κ id:=fun id hi=>by unfold kapM; rw [if_pos hi]
 have lold:∀ id,id<s.n->lenM C s ln ln3 id=ln id:=fun id hi=>by unfold lenM; rw [if_pos hi]
 have hN:s.n<=(kgz C s u ids).n:=Nat.le_add_right _ _
 have blks:∀ id B,thp c (kgz C s u ids) id=some B->(∃ p B0,alk u.hp p=some (some B0)/\renC C ids s.n p=id/\B=renB (renC C ids s.n) B0)\/(thp c s id=some B/\∀ x∈ids,x.2≠id):=fun id B hB=>by
  unfold thp at hB
  simp only [kgz,kbg] at hB
  cases h1:alk (u.hp.map fun x=>(renC C ids s.n x.1,x.2.map (renB (renC C ids s.n)))) id with
  | some b=>
   rw [h1] at hB
   obtain ⟨p,b0,k1,k2,k3⟩:=kiR (renC C ids s.n) (fun b:Option (TB sem)=>b.map (renB (renC C ids s.n))) u.hp h1
   obtain ⟨B0,rfl,_⟩:=kcN hu k1
   refine .inl ⟨p,B0,k1,k2,?_⟩
   subst k3
   simp at hB
   exact hB.symm
  | none=>
   rw [h1] at hB
   simp only [kps] at hB
   by_cases ha:ids.any (fun x=>x.2==id)=true
   ·rw [if_pos ha] at hB; cases hB
   ·rw [if_neg ha] at hB
    refine .inr ⟨hB,fun x hx e=>ha (jbc.2 ⟨x,hx,by simp [e]⟩)⟩
 have ptr3:∀ {p B0},alk u.hp p=some (some B0)->thp (⟨[],[]⟩:Cx sem) (offD u) p=some B0:=fun h=>kab (s:=offD u) h
 have old:∀ {id B q},thp c s id=some B->(∀ x∈ids,x.2≠id)->Ow κ ln id B q->¬ (∃ x∈ids,q∈ows κ ln c s x.2)/\q<n:=fun {id B q} hB hx hk=>by
  refine ⟨fun ⟨x,hxi,hxk⟩=>?_,R.owN hB hk⟩
  obtain ⟨B',hB'⟩:=own x hxi
  exact hx x hxi (R.owI (kab hB') hB (kcP (kab hB') hxk) hk)
 have new:∀ {p B0 q},alk u.hp p=some (some B0)->Ow κ3 ln3 p B0 q->((∃ x∈ids,q∈ows κ ln c s x.2)\/n<=q)/\∃ AB,h2 q=some AB:=fun {p B0 q} hB hk=>by
  have hb:=R3.blk p B0 (ptr3 hB)
  have:∃ AB,h2 q=some AB:=by
   rcases hk with hk | ⟨hf,hr⟩
   ·cases hb <;> simp_all
   ·cases B0 <;> simp only [TB.isF,jaj] at hf
    obtain ⟨_,_,_,_,_,_,_,_,_,_,_,_,_,es,g1,_⟩:=hb.row hr
    exact ⟨_,g1⟩
  obtain ⟨AB,hq⟩:=this
  exact ⟨live2 q AB hq,AB,hq⟩
 have agr:∀ {p B0},alk u.hp p=some (some B0)->kapM C s κ κ3 (renC C ids s.n p) = κ3 p:=fun {p B0} hB=>by
  obtain ⟨B',e,k1,k2,k3,k4⟩:=kcN hu hB
  exact (khk (ln:=ln) (ln3:=ln3) R ag own k3 k1 (by rw [hB]; rfl)).1
 refine ⟨fun x=>?_,fun id B hB=>?_,fun id B hB=>?_,fun i j B B' q hi hj ki kj=>?_,fun q B hq=>(by cases hq),fun id B q hB hk=>rfl,fun id B q hB hk=>?_,fun q hq=>?_,R.e0,fun id b hb=>?_,fun _=>rfl,fun q k T es hq=>(by cases hq),fun id B hB hf=>?_⟩
 ·exact (R.env x).mono kold lold (fun _ _ h=>h) hN
 ·rcases blks id B hB with ⟨p,B0,k1,rfl,rfl⟩ | ⟨k1,k2⟩
  ·obtain ⟨B',e,j1,j2,j3,j4⟩:=kcN hu k1
   cases e
   have hb:=R3.blk p B0 (ptr3 k1)
   have mem:∀ i,(alk u.hp i).isSome=true->C.kept i=true/\i<C.n1:=fun i hi=>by
    obtain ⟨b,hb⟩:=jao.1 hi
    obtain ⟨B',_,m1,_,m3,_⟩:=kcN hu hb
    exact ⟨m3,m1⟩
   have hasB:∀ i,B0.has i=true->(alk u.hp i).isSome=true:=fun i hi=>by
    cases B0 with
    | bx T vs=>exact kpf (by simpa [TB.all] using j2) i (by simpa [TB.has] using hi)
    | _=>simp [TB.has] at hi
   have hasWB:∀ i,B0.hasW i=true->C.keptW i=true/\(alk u.hp i).isSome=true:=fun i hi=>by
    cases B0 with
    | bx T vs=>
     refine ⟨knr (by simpa [TB.all] using j2) i (by simpa [TB.hasW] using hi),?_⟩
     exact hasB i (by have:=knm (vs:=vs) (i:=i) (by simpa [TB.hasW] using hi); simpa [TB.has] using this)
    | _=>simp [TB.hasW] at hi
   have A:=khk (ln:=ln) (ln3:=ln3) R ag own j3 j1 (by rw [k1]; rfl)
   refine BR.ren hb (fun _ _ h=>h) (fun q AB hq hAB=>by rw [hh1 q (new k1 hq).1]; exact hAB) A.1 (fun hw=>A.2.2.1 (j4 hw)) (fun i hi=>?_) (fun i hi=>?_)
   ·have:=mem i (hasB i hi)
    have A2:=khk (ln:=ln) (ln3:=ln3) R ag own this.1 this.2 (hasB i hi)
    exact ⟨A2.1,A2.2.1⟩
   ·obtain ⟨w1,w2⟩:=hasWB i hi
    have:=mem i w2
    exact (khk (ln:=ln) (ln3:=ln3) R ag own this.1 this.2 w2).2.2.1 w1
  ·exact (R.blk id B k1).mono kold lold (fun _ _ h=>h) hN (R.lt id B k1) fun q AB hq hAB=>by
    obtain ⟨o1,o2⟩:=old k1 k2 hq
    rw [hh2 q o2 o1]; exact hAB
 ·rcases blks id B hB with ⟨p,B0,k1,rfl,rfl⟩ | ⟨k1,k2⟩
  ·obtain ⟨B',e,j1,j2,j3,j4⟩:=kcN hu k1
   exact (khk (ln:=ln) (ln3:=ln3) R ag own j3 j1 (by rw [k1]; rfl)).2.1
  ·exact jan (R.lt id B k1) hN
 ·rcases blks i B hi with ⟨p,B0,k1,rfl,rfl⟩ | ⟨k1,k2⟩
  ·rw [agr k1] at ki
   rcases blks j B' hj with ⟨p',B0',l1,rfl,rfl⟩ | ⟨l1,l2⟩
   ·rw [agr l1] at kj
    have:=R3.inj p p' _ _ q (ptr3 k1) (ptr3 l1) ki kj
    rw [this]
   ·rw [kold j (R.lt j B' l1)] at kj
    obtain ⟨o1,o2⟩:=old l1 l2 (.inl kj)
    rcases (new k1 (.inl ki)).1 with h1 | h1
    ·exact absurd h1 o1
    ·omega
  ·rw [kold i (R.lt i B k1)] at ki
   rcases blks j B' hj with ⟨p',B0',l1,rfl,rfl⟩ | ⟨l1,l2⟩
   ·rw [agr l1] at kj
    obtain ⟨o1,o2⟩:=old k1 k2 (.inl ki)
    rcases (new l1 (.inl kj)).1 with h1 | h1
    ·exact absurd h1 o1
    ·omega
   ·rw [kold j (R.lt j B' l1)] at kj
    exact R.inj i j _ _ q k1 l1 ki kj
 ·rcases blks id B hB with ⟨p,B0,k1,rfl,rfl⟩ | ⟨k1,k2⟩
  ·rw [agr k1] at hk
   exact R3.bnd p B0 q (ptr3 k1) hk
  ·rw [kold id (R.lt id B k1)] at hk
   exact jan (R.bnd id B q k1 hk) hn
 ·rw [hh1 q (.inr (jcy hn hq))]
  exact R3.hn q hq
 ·simp only [kgz,kbg] at hb
  have ownG:∀ x∈ids,alk c.g x.2=none:=fun x hx=>by obtain ⟨B,hB⟩:=own x hx; exact R.g _ _ hB
  cases h1:alk (u.hp.map fun x=>(renC C ids s.n x.1,x.2.map (renB (renC C ids s.n)))) id with
  | some b1=>
   obtain ⟨p,b0,k1,k2,k3⟩:=kiR (renC C ids s.n) (fun b:Option (TB sem)=>b.map (renB (renC C ids s.n))) u.hp h1
   obtain ⟨B0,rfl,j1,j2,j3,j4⟩:=kcN hu k1
   have A:=khk (ln:=ln) (ln3:=ln3) R ag own j3 j1 (by rw [k1]; rfl)
   subst k2
   by_cases hlt:renC C ids s.n p<s.n
   ·obtain ⟨x,hx,e⟩:=A.2.2.2 hlt
    rw [<-e]; exact ownG x hx
   ·cases hg:alk c.g (renC C ids s.n p) with
    | none=>rfl
    | some B=>exact absurd (R.lt _ B (R.g_thp hg)) hlt
  | none=>
   rw [h1] at hb
   simp only [kps] at hb
   by_cases ha:ids.any (fun x=>x.2==id)=true
   ·obtain ⟨x,hx,e⟩:=jbc.1 ha
    rw [show id=x.2 from (by simpa using e:x.2=id).symm]
    exact ownG x hx
   ·rw [if_neg ha] at hb
    exact R.g id b hb
 ·have renF:∀ {f:Nat->Nat} {B:TB sem},(renB f B).isF=B.isF:=fun {f B}=>by cases B <;> rfl
  have agl:∀ {p B0},alk u.hp p=some (some B0)->B0.isF=true->lenM C s ln ln3 (renC C ids s.n p)=ln3 p:=fun {p B0} hB hf=>by
   obtain ⟨B',e,k1,k2,k3,k4⟩:=kcN hu hB
   cases e
   exact (khk (ln:=ln) (ln3:=ln3) R ag own k3 k1 (by rw [hB]; rfl)).2.2.1 (k4 (by cases B0 <;> simp_all [TB.isF,TB.needL]))
  rcases blks id B hB with ⟨p,B0,k1,rfl,rfl⟩ | ⟨k1,k2⟩
  ·rw [renF] at hf
   obtain ⟨f1,f2⟩:=R3.fam p B0 (ptr3 k1) hf
   rw [agl k1 hf]
   refine ⟨f1,fun r hr=>?_⟩
   obtain ⟨g1,g2,g3,g4⟩:=f2 r hr
   have nw:=(new k1 (.inr ⟨hf,hr⟩)).1
   refine ⟨g1,rfl,fun j B' hj hk=>?_,fun j B' hj hf' hr'=>?_⟩
   ·rcases blks j B' hj with ⟨p',B0',l1,rfl,rfl⟩ | ⟨l1,l2⟩
    ·rw [agr l1] at hk; exact g3 p' _ (ptr3 l1) hk
    ·rw [kold j (R.lt j B' l1)] at hk
     obtain ⟨o1,o2⟩:=old l1 l2 (.inl hk)
     rcases nw with h1 | h1
     ·exact o1 h1
     ·omega
   ·rcases blks j B' hj with ⟨p',B0',l1,rfl,rfl⟩ | ⟨l1,l2⟩
    ·rw [renF] at hf'
     rw [agl l1 hf'] at hr'
     rw [g4 p' _ (ptr3 l1) hf' hr']
    ·rw [lold j (R.lt j B' l1)] at hr'
     obtain ⟨o1,o2⟩:=old l1 l2 (.inr ⟨hf',hr'⟩)
     rcases nw with h1 | h1
     ·exact absurd h1 o1
     ·omega
  ·obtain ⟨f1,f2⟩:=R.fam id B k1 hf
   rw [lold id (R.lt id B k1)]
   refine ⟨f1,fun r hr=>?_⟩
   obtain ⟨g1,g2,g3,g4⟩:=f2 r hr
   obtain ⟨o1,o2⟩:=old k1 k2 (.inr ⟨hf,hr⟩)
   refine ⟨by omega,rfl,fun j B' hj hk=>?_,fun j B' hj hf' hr'=>?_⟩
   ·rcases blks j B' hj with ⟨p',B0',l1,rfl,rfl⟩ | ⟨l1,l2⟩
    ·rw [agr l1] at hk
     rcases (new l1 (.inl hk)).1 with h1 | h1
     ·exact o1 h1
     ·omega
    ·rw [kold j (R.lt j B' l1)] at hk; exact g3 j B' l1 hk
   ·rcases blks j B' hj with ⟨p',B0',l1,rfl,rfl⟩ | ⟨l1,l2⟩
    ·rw [renF] at hf'
     rw [agl l1 hf'] at hr'
     rcases (new l1 (.inr ⟨hf',hr'⟩)).1 with h1 | h1
     ·exact absurd h1 o1
     ·omega
    ·rw [lold j (R.lt j B' l1)] at hr'; exact g4 j B' l1 hf' hr'
end
section
variable {P:Program} {κ:Nat->Option Nat} {ln:Nat->Nat} {z:AH} {c:Cx sem} {s:TS sem} {env:Env} {h:AH} {n:Nat}
theorem BR.nil_ln {N id:Nat} {B:TB sem} (hb:BR P κ ln z h N id B) (hk:κ id=none):ln id=0:=by
 cases hb <;> simp_all
theorem AL.length {l:List ((t:Ty)×t.den)} {as:List AV} (h:AL P l as):as.length=l.length:=by induction h <;> simp [*]
theorem kvC {N:Nat}:∀ {vs:List (TV sem)} {as:List AV},vs.length=as.length->(∀ (i:Nat) v a,vs[i]?=some v->as[i]?=some a->TVR P κ ln z N v a)->TVRs P κ ln z N vs as
 | [],[],_,_=>.nil
 | [],_::_,h,_=>by simp at h
 | _::_,[],h,_=>by simp at h
 | v::vs,a::as,h,hv=>.cons _ _ _ _ (hv 0 v a rfl rfl) (kvC (by simpa using h) fun i v a h1 h2=>hv (i+1) v a (by simpa using h1) (by simpa using h2))
theorem kyL {N:Nat} {C:CtrM} {u:TS sem} {f:Nat->Nat} {as:List AV} (h:TVRs P κ ln z N ((List.range C.nr).map fun i=>renV f ((alk u.env (1000000+i)).getD .un)) as):TVR P κ ln z N (resT C u f) (tpA as):=by
 unfold resT
 generalize (List.range C.nr).map (fun i=>renV f ((alk u.env (1000000+i)).getD .un))=l at h
 cases h with
 | nil=>exact .tp _ _ .nil
 | cons v a vs as h hs=>cases hs with
  | nil=>exact h
  | cons v' a' vs' as' h' hs'=>exact .tp _ _ (.cons _ _ _ _ h (.cons _ _ _ _ h' hs'))
theorem kvA:∀ (vs:List AV) (k i:Nat) (E:Env),i<1000000->lk ((vs.zipIdx k).map (fun x=>(1000000+x.2,x.1))++E) i=lk E i
 | [],k,i,E,h=>by simp
 | v::vs,k,i,E,h=>by
  simp only [jbx,jap,jdp,lk]
  rw [if_neg (by omega),kvA vs (k+1) i E h]
theorem kvV {g:FuncId} {C:CtrM} (hG:GoodM P g C) (hok:C.ok=true) (R:Rel P κ ln z c s env h n) (hdy:s.dy=false) {args:List (TV sem)} {as:List AV} (hargs:TVRs P κ ln z s.n args as) (hlen:args.length=C.ks.length)
  {l:List ((t:Ty)×t.den)} {bs:List AV} (hl:l.length=(C.ks.filterMap id).length) (hA:AL P l bs) {ids:List Nat} (hS:SnapL (hz (ows κ ln c s) h z ids) (pureA C.ks as) bs) (hids:∀ id∈ids,∃ B,thp c s id=some B) {m:Mt sem} (hm:packM ⟨[],c.g⟩ C.n0 C.inp ⟨patE C.ks args 0,s.hp,s.n,s.dy⟩=some m) (hsn:m.sn=[]) (hown:m.ids.all (fun x=>(ownB s x.2).isSome&&(alk C.inp.hp x.1).isSome&&(alk m.ids x.1==some x.2))=true) (hdis:ids.all (fun id=>m.ids.all fun x=>x.2 != id)=true)
  {a:(tup (C.ks.filterMap id++C.inp.tys)).den} (ha:mkT sem (C.ks.filterMap id++C.inp.tys) (l++m.cs)=some a) {y:C.out.ty.den} (hy:C.F a=some y) (hu:C.okU (kad (A:=sem) C.out C.n1 y)=true) (hfl:(ids.isEmpty||C.okF (kad (A:=sem) C.out C.n1 y))=true) {K:K3}
  (hK:∀ v h' n' κ' ln',Ke c s.n κ ln κ' ln'->Rel P κ' ln' ahN c (kgz C s (kad C.out C.n1 y) m.ids) env h' n'->TVR P κ' ln' ahN (kgz C s (kad (A:=sem) C.out C.n1 y) m.ids).n (resT C (kad C.out C.n1 y) (renC C m.ids s.n)) v->(∀ q,q<n->h' q=h q\/∃ x∈m.ids,(∃ B,thp c s x.2=some B)/\q∈ows κ ln c s x.2)->K v h' n'):HC P g as h n K:=by
 have hz0:=R.dy hdy
 subst hz0
 have hal:as.length=C.ks.length:=by rw [hargs.len]; exact hlen
 have hbl:bs.length=(C.ks.filterMap id).length:=by rw [AL.length hA]; exact hl
 obtain ⟨m1,m2,m3⟩:=kpu C.ks hal hA hl hS
 have R1:Rel P κ ln ahN ⟨[],c.g⟩ ⟨patE C.ks args 0,s.hp,s.n,s.dy⟩ (kao (kch C.ks bs as)) h n:=by
  refine ⟨fun x=>?_,R.blk,R.lt,R.inj,R.zin,R.zout,R.bnd,R.hn,fun x v hx=>rfl,R.g,R.dy,R.zk,R.fam⟩
  have:=krn (P:=P) (κ:=κ) (ln:=ln) (z:=ahN) (N:=s.n) C.ks 0 hargs hlen hbl x
  unfold tlk kao
  cases hh:alk (patE C.ks args 0) x with
  | some v=>rw [hh] at this; exact this
  | none=>exact .un _
 obtain ⟨κ2,ln2,R2,q1,q2,q3,q4⟩:=krG R1 hm hsn rfl
 have ownx:∀ x∈m.ids,∃ B,alk s.hp x.2=some (some B):=fun x hx=>by
  have:=jam.1 hown x hx
  cases ho:ownB s x.2 with
  | none=>simp [ho] at this
  | some B=>exact ⟨B,kcK ho⟩
 have inx:∀ x∈m.ids,(alk C.inp.hp x.1).isSome=true:=fun x hx=>by
  have:=jam.1 hown x hx
  simp only [jac] at this
  exact this.1.2
 have liv:∀ p,(alk C.inp.hp p).isSome=true->∃ B,alk (kak (A:=sem) C.inp C.n0 m.cs).hp p=some (some B):=fun p hp=>by
  rw [<-q4 p] at hp
  obtain ⟨b,hb⟩:=jao.1 hp
  obtain ⟨B,q,B0,rfl,_⟩:=q2 p b hb
  exact ⟨B,hb⟩
 have inb:∀ id B,thp (⟨[],[]⟩:Cx sem) (offD (kak (A:=sem) C.inp C.n0 m.cs)) id=some B->alk (kak (A:=sem) C.inp C.n0 m.cs).hp id=some (some B):=fun id B hB=>by
  unfold thp at hB
  rw [show (offD (kak (A:=sem) C.inp C.n0 m.cs)).hp=(kak (A:=sem) C.inp C.n0 m.cs).hp from rfl] at hB
  cases hh:alk (kak (A:=sem) C.inp C.n0 m.cs).hp id with
  | some b=>rw [hh] at hB; exact congrArg some hB
  | none=>rw [hh] at hB; cases hB
 have keyb:∀ id,(alk C.inp.hp id).isSome=true->id∈C.inp.hp.map (·.1):=fun id hi=>by
  obtain ⟨b,hb⟩:=jao.1 hi
  exact jay.2 ⟨_,kat hb,rfl⟩
 have bkey:∀ id,id∈C.inp.hp.map (·.1)->(alk C.inp.hp id).isSome=true:=fun id hi=>by
  obtain ⟨x,hx,rfl⟩:=jay.1 hi
  generalize C.inp.hp=L at hx
  induction L with
  | nil=>cases hx
  | cons y L ih=>
   simp only [alk]
   split
   ·rfl
   ·rename_i e
    rcases jbu.1 hx with rfl | hx
    ·exact absurd rfl e
    ·exact ih hx
 generalize ho2:ows κ2 ln2 (⟨[],[]⟩:Cx sem) (offD (kak (A:=sem) C.inp C.n0 m.cs))=o2
 have R3:=R2.cut (h2:=hz o2 h ahN (C.inp.hp.map (·.1))) (fun id B q hB hk=>hz_in (keyb id (by rw [<-q4 id,inb id B hB]; rfl)) (by rw [<-ho2]; exact knx hB hk)) (fun q hq=>by
  unfold hz; split
  ·exact R.hn q hq
  ·rfl)
 have hc:=hG a y hy l m.cs (krs _ _ _ ha) hl κ2 ln2 _ n _ m2 R3
 have given:∀ i,((C.inp.hp.map (·.1)).flatMap o2).contains i=true->∃ x∈m.ids,i∈ows κ ln c s x.2:=fun i hi=>by
  obtain ⟨id,hid,hk⟩:=List.mem_flatMap.1 (jbo.1 hi)
  obtain ⟨B,hB⟩:=liv id (bkey id hid)
  rw [<-ho2] at hk
  have hk:=kcP (kab (s:=offD (kak (A:=sem) C.inp C.n0 m.cs)) hB) hk
  obtain ⟨_,q,B0,eB,e2,e3,e4⟩:=q2 id _ hB
  cases eB
  obtain ⟨f1,f2,f3⟩:=q1 id q e2
  refine ⟨_,kat e2,knx (kab e3) ?_⟩
  unfold Ow at hk ⊢
  rw [<-f1,<-f2,<-e4]; exact hk
 refine HC.frm4 (hL:=hz (ows κ ln c s) h ahN ids) ((C.inp.hp.map (·.1)).flatMap o2) (fun i B hi=>?_) m1 m3 (fun i B hi=>?_) (fun i hi=>?_) R.hn (fun v h' n'=>kxN hu) ?_ hc ?_
 ·refine ⟨kea (fun q B hq=>by cases hq) i B hi,?_⟩
  cases hcon:((C.inp.hp.map (·.1)).flatMap o2).contains i with
  | false=>rfl
  | true=>
   obtain ⟨x,hx,hk⟩:=given i hcon
   unfold hz at hi
   split at hi
   ·rename_i hany
    obtain ⟨id,hid,hke⟩:=jbc.1 hany
    obtain ⟨B1,hB1⟩:=hids id hid
    obtain ⟨B2,hB2⟩:=ownx x hx
    have e:=R.owI (kab hB2) hB1 (kcP (kab hB2) hk) (kcP hB1 (by simpa using hke))
    have:=jam.1 (jam.1 hdis id hid) x hx
    rw [e] at this; simp at this
   ·cases hi
 ·unfold hz at hi
  split at hi
  ·rename_i hany
   obtain ⟨id,hid,hk⟩:=jbc.1 hany
   exact ⟨jbo.2 (List.mem_flatMap.2 ⟨id,hid,by simpa using hk⟩),hi⟩
  ·cases hi
 ·obtain ⟨x,hx,hk⟩:=given i hi
  obtain ⟨B,hB⟩:=ownx x hx
  exact R.owN (kab hB) (kcP (kab hB) hk)
 ·rw [jav] at hfl
  rcases hfl with hfl | hfl
  ·left
   have:ids=[]:=by simpa [jcp] using hfl
   rw [this,kbe]
  ·right
   exact fun v h' n'=>kwI hu hfl
 ·rintro v h2 n2 ⟨κ3,ln3,vs,hvl,rfl,R4,hmin,hinn⟩ hnn hloc
  have taken:∀ i,(∃ x∈m.ids,i∈ows κ ln c s x.2)->((C.inp.hp.map (·.1)).flatMap o2).contains i=true:=fun i ⟨x,hx,hk⟩=>by
   have hx1:=inx x hx
   obtain ⟨B,hB⟩:=liv x.1 hx1
   obtain ⟨_,q,B0,eB,e2,e3,e5⟩:=q2 x.1 _ hB
   cases eB
   refine jbo.2 (List.mem_flatMap.2 ⟨x.1,keyb _ hx1,?_⟩)
   have e4:alk m.ids x.1=some x.2:=by
    have:=jam.1 hown x hx
    simp only [jac,beq_iff_eq] at this
    exact this.2
   rw [e2] at e4; cases e4
   obtain ⟨f1,f2,f3⟩:=q1 _ _ e2
   have hk:=kcP (kab e3) hk
   rw [<-ho2]
   refine knx (kab (s:=offD (kak (A:=sem) C.inp C.n0 m.cs)) hB) ?_
   unfold Ow at hk ⊢
   rw [f1,f2,e5]; exact hk
  simp only [CtrM.ok,jac,jai] at hok
  obtain ⟨⟨ok1,ok2⟩,ok3⟩:=hok
  have ag:∀ p,p<C.n0->C.kept p=true->(alk (kad (A:=sem) C.out C.n1 y).hp p).isSome=true->∃ q,alk m.ids p=some q/\κ3 p = κ q/\(C.keptW p=true->ln3 p=ln q):=fun p hp hk hal2=>by
   obtain ⟨s1,s2⟩:=kwD (C:=C) R3 R4 (fun i hi=>kvA vs 0 i _ (by omega)) (fun i pv hi v hv=>kkP (t:=offD (kak (A:=sem) C.inp C.n0 m.cs)) (kmZ C.inp.env m.cs i pv v hi hv)) (fun i pv hi v hv=>kkP (t:=offD (kad (A:=sem) C.out C.n1 y)) (kmZ C.out.env _ i pv v hi hv)) hinn hp
   obtain ⟨t1,t2⟩:=s1 hk
   obtain ⟨B,hB⟩:=liv p t1
   obtain ⟨_,q,B0,_,e2,e3,_⟩:=q2 p _ hB
   obtain ⟨f1,f2,f3⟩:=q1 p q e2
   refine ⟨q,e2,t2.trans f1,fun hw=>?_⟩
   by_cases hn0:κ2 p=none
   ·obtain ⟨b2,hb2⟩:=jao.1 hal2
    obtain ⟨B2,rfl,_⟩:=kcN hu hb2
    rw [BR.nil_ln (R4.blk p B2 (kab (s:=offD (kad (A:=sem) C.out C.n1 y)) hb2)) (t2.trans hn0),<-f2,BR.nil_ln (R3.blk p B (kab (s:=offD (kak (A:=sem) C.inp C.n0 m.cs)) hB)) hn0]
   ·rw [s2 hw hn0,f2]
  have hnn':n<=n2:=hnn
  have hR:=kxe (h':=fun i=>if ((C.inp.hp.map (·.1)).flatMap o2).contains i||decide (n<=i) then h2 i else h i) R hu R4 hnn' ag ownx (fun i B hB=>?_) (fun i hi=>?_) (fun i hi hx=>?_)
  ·refine hK _ _ _ _ _ (fun id hi=>⟨by unfold kapM; rw [if_pos hi],fun _=>by unfold lenM; rw [if_pos hi]⟩) hR ?_ fun q hq=>by
    cases hcon:((C.inp.hp.map (·.1)).flatMap o2).contains q with
    | false=>left; simp only [hcon,jdk]; rw [if_neg (by simp; omega)]
    | true=>obtain ⟨x,hx,hxq⟩:=given q hcon; obtain ⟨B,hB⟩:=ownx x hx; exact .inr ⟨x,hx,⟨B,kab hB⟩,hxq⟩
   refine kyL ?_
   refine kvC (by simp [hvl]) fun i v a hv ha=>?_
   have hi:i<C.nr:=by rw [<-hvl]; exact (jad.1 ha).1
   rw [jaw,List.getElem?_range hi] at hv
   cases hv
   obtain ⟨v,h1,h2⟩:=kqE hu hi
   show TVR P _ _ _ _ (renV _ ((alk (kad (A:=sem) C.out C.n1 y).env (1000000+i)).getD .un)) a
   rw [h1,jca]
   have hv:=R4.env (1000000+i)
   have e1:tlk (⟨[],[]⟩:Cx sem) (offD (kad (A:=sem) C.out C.n1 y)) (1000000+i)=v:=kkP (t:=offD (kad (A:=sem) C.out C.n1 y)) h1
   rw [e1] at hv
   have e2:lk (resE vs++kao (kch C.ks bs as)) (1000000+i)=a:=by
    have:=kpW vs 0 i (kao (kch C.ks bs as)) (jea _)
    rw [Nat.sub_zero,ha] at this
    exact this
   rw [e2] at hv
   have mem:∀ i,(alk (kad (A:=sem) C.out C.n1 y).hp i).isSome=true->C.kept i=true/\i<C.n1:=fun i hi=>by
    obtain ⟨b,hb⟩:=jao.1 hi
    obtain ⟨B',_,m1,_,m3,_⟩:=kcN hu hb
    exact ⟨m3,m1⟩
   refine hv.ren (fun _ _ h=>h) (fun j hj=>?_) (fun j hj=>?_)
   ·have h3:=krh h2 j hj
    have:=mem j h3
    have A2:=khk (C:=C) (u:=kad (A:=sem) C.out C.n1 y) (ids:=m.ids) (ln:=ln) (ln3:=ln3) R ag ownx this.1 this.2 h3
    exact ⟨A2.1,A2.2.1⟩
   ·have h3:=krh h2 j (ksG hj)
    have:=mem j h3
    exact (khk (C:=C) (u:=kad (A:=sem) C.out C.n1 y) (ids:=m.ids) (ln:=ln) (ln3:=ln3) R ag ownx this.1 this.2 h3).2.2.1 (ktx h2 j hj)
  ·rcases hloc i B hB with h1 | h1
   ·exact .inl (given i h1)
   ·exact .inr h1.1
  ·show (if _ then _ else _)=_
   rw [if_pos]
   rw [jav,jai]
   rcases hi with h1 | h1
   ·exact .inl (taken i h1)
   ·exact .inr h1
  ·show (if _ then _ else _)=_
   rw [if_neg]
   rw [jav,jai]
   rintro (h1 | h1)
   ·exact hx (given i h1)
   ·omega
end
section
variable (P:Program)
def AR:(ts:List Ty)->(tup ts).den->List AV->Prop
 | [],_,l=>l=[]
 | [t],x,l=>∃ a,l=[a]/\A1 P t x a
 | t::u::ts,x,l=>∃ a l',l=a::l'/\A1 P t x.1 a/\AR (u::ts) x.2 l'
def avsL:(ts:List Ty)->(tup ts).den->List AV
 | [],_=>[]
 | [t],x=>[t.av x]
 | t::u::ts,x=>t.av x.1::avsL (u::ts) x.2
def rav (rs:List Ty) (x:(tup rs).den):AV:=
 match rs with
 | [t]=>t.av x
 | rs=>.tp (avsL rs x)
def GoodI (g:FuncId) (I:CtrI):Prop:=I.ts.all Ty.dat=true/\∀ x xs,I.F x=some xs->∀ l,AR P I.as x l->IT P g l (xs.map fun y=>avsL I.ts y)
def Good (g:FuncId) (C:Ctr):Prop:=C.rs.all Ty.dat=true/\(∀ x r,C.F x=some r->∀ l,AR P C.as x l->PC P g l (·= rav C.rs r))/\(∀ M∈C.mus,M.ok=true/\GoodM P g M)/\∀ I∈C.its,GoodI P g I
inductive Goods:List (FuncId×Ctr)->Prop
 | nil:Goods []
 | cons {g:FuncId} {C:Ctr} {l:List (FuncId×Ctr)} (h:Good P g C) (hl:Goods l):Goods ((g,C)::l)
end
section
variable {P:Program} {κ κ':Nat->Option Nat} {ln ln':Nat->Nat} {z z':AH} {c:Cx sem} {s:TS sem} {env:Env} {h h':AH} {n n' N N':Nat}
variable {ρ:Ty} {Kf:TV sem->TS sem->sem.Ans ρ} {r:ρ.den}
variable {d:Option Tmp} {ty:TypeId} {pos:String} {after:Array Edge} {g:Option (Nat×Bool)}
theorem Goods.at {Δ:List (FuncId×Ctr)} (hΔ:Goods P Δ):∀ {f:FuncId} {C:Ctr},alk Δ f=some C->Good P f C:=by
 induction hΔ with
 | nil=>intro f C hf; simp [alk] at hf
 | cons h hl ih=>
  intro f C hf
  simp only [alk] at hf
  split at hf
  ·rename_i e; cases hf; subst e; exact h
  ·exact ih hf
theorem AL.append {l l':List ((t:Ty)×t.den)} {as as':List AV} (h:AL P l as) (h':AL P l' as'):AL P (l++l') (as++as'):=by
 induction h with
 | nil=>exact h'
 | cons h1 _ ih=>exact .cons h1 ih
theorem kcz {t:Ty} {x:t.den} {a:AV} (hd:t.dat=true):A1 P t x a↔a=t.av x:=by
 cases t <;> first | (simp [Ty.dat] at hd; done) | exact ⟨fun h=>h.2,fun h=>⟨hd,h⟩⟩
theorem kvl {t t':Ty} (e:t'=t) {x:t'.den} {a:AV} (h:A1 P t' x a):A1 P t (e ▸ x) a:=by subst e; exact h
theorem kiF:∀ (ts:List Ty) (l:List ((t:Ty)×t.den)) (as:List AV) (x:(tup ts).den),AL P l as->mkT sem ts l=some x->AR P ts x as:=by
 intro ts
 induction ts with
 | nil=>
  intro l as x hl h
  cases hl with
  | nil=>exact rfl
  | cons h1 hl=>exact kaa (r:=x) h
 | cons t ts ih=>
  intro l as x hl h
  cases ts with
  | nil=>
   cases hl with
   | nil=>exact kaa (r:=x) h
   | cons h1 hl=>
    cases hl with
    | nil=>
     obtain ⟨e,rfl⟩:=kai h
     exact ⟨_,rfl,kvl e h1⟩
    | cons h2 hl=>exact kaa (r:=x) h
  | cons u ts=>
   cases hl with
   | nil=>exact kaa (r:=x) h
   | cons h1 hl=>
    rw [kvB] at h
    obtain ⟨x1,hx1,h⟩:=jaa.1 h
    obtain ⟨x2,hx2,rfl⟩:=jab.1 h
    obtain ⟨e,rfl⟩:=kai hx1
    exact ⟨_,_,rfl,kvl e h1,ih _ _ _ hl hx2⟩
theorem knw:∀ {ts:List Ty} {x:(tup ts).den} {as:List AV},ts.all Ty.dat=true->AR P ts x as->as=avsL ts x
 | [],_,_,_,h=>h
 | [t],x,_,hd,h=>by
  obtain ⟨a,rfl,h1⟩:=h
  rw [(kcz (by simpa using hd)).1 h1]; rfl
 | t::u::ts,x,_,hd,h=>by
  obtain ⟨a,l',rfl,h1,h2⟩:=h
  rw [jdy,jac] at hd
  rw [(kcz hd.1).1 h1,knw hd.2 h2]; rfl
theorem kwO:∀ {ts:List Ty} (x:(tup ts).den),ts.all Ty.dat=true->AL P (unT sem ts x) (avsL ts x)
 | [],_,_=>.nil
 | [t],x,hd=>.cons ((kcz (by simpa using hd)).2 rfl) .nil
 | t::u::ts,x,hd=>by
  rw [jdy,jac] at hd
  exact .cons ((kcz hd.1).2 rfl) (kwO (ts:=u::ts) x.2 hd.2)
theorem kma:∀ (m:Nat) (ts:List Ty) (x:Ty) (e:tup ts=x) (v:(tup ts).den),ts.length=m->avsN m x (e ▸ v)=avsL ts v
 | 0,[],_,rfl,v,_=>rfl
 | 1,[t],_,rfl,v,_=>rfl
 | m+2,t::u::ts,_,rfl,v,hl=>by
  show t.av v.1::avsN (m+1) (tup (u::ts)) v.2=t.av v.1::avsL (u::ts) v.2
  rw [<-kma (m+1) (u::ts) _ rfl v.2 (by simpa using hl)]
theorem krS:∀ (m:Nat) (ts:List Ty),ts.length=m->untup m (tup ts)=ts
 | 0,[],_=>rfl
 | 1,[t],_=>rfl
 | m+2,t::u::ts,hl=>by
  show t::untup (m+1) (tup (u::ts))=_
  rw [krS (m+1) (u::ts) (by simpa using hl)]
theorem kyy {l:List ((t:Ty)×t.den)} {as:List AV} (h:AL P l as) (hd:∀ p∈l,p.1.dat=true):FreeL as:=by
 induction h with
 | nil=>intro a ha; cases ha
 | @cons p a l as h1 _ ih=>
  have:=hd p (by simp)
  rw [kbv]
  exact ⟨by rw [(kcz this).1 h1]; exact kgR _ _ this,ih fun q hq=>hd q (by simp [hq])⟩
theorem kgA (R:Rel P κ ln z c s env h n):∀ (ts:List Ty) (vs:List (TV sem)) (as:List AV) {l:List ((t:Ty)×t.den)} {ids:List Nat},TVRs P κ ln z s.n vs as->snapM (A:=sem) c s ts vs=some (l,ids)->
  ∃ as',AL P l as'/\SnapL (hz (ows κ ln c s) h z ids) as as'/\(∀ id∈ids,∃ B,thp c s id=some B)/\l.map (·.1)=ts/\∀ p∈l,p.1.dat=true
 | [],[],_,l,ids,.nil,hs=>by cases hs; exact ⟨[],.nil,.nil,fun id hi=>by simp at hi,rfl,fun p hp=>by simp at hp⟩
 | [],_::_,_,l,ids,_,hs=>by simp [snapM] at hs
 | _::_,[],_,l,ids,_,hs=>by simp [snapM] at hs
 | t::ts,v::vs,_,l,ids,.cons _ a _ as hv hvs,hs=>by
  simp only [snapM,jaa,jab] at hs
  obtain ⟨⟨x,i1⟩,hx,⟨l',i2⟩,hl,he⟩:=hs
  cases he
  obtain ⟨hd,h1,h2⟩:=kbf R hv hx
  obtain ⟨as',g1,g2,g3,g4,g5⟩:=kgA R ts vs as hvs hl
  have m1:=kcM (o:=ows κ ln c s) (h:=h) (z:=z) (ids:=i1) (ids':=i1++i2) R.zin (fun id hi=>by simp [hi])
  have m2:=kcM (o:=ows κ ln c s) (h:=h) (z:=z) (ids:=i2) (ids':=i1++i2) R.zin (fun id hi=>by simp [hi])
  refine ⟨t.av x::as',.cons ((kcz hd).2 rfl) g1,.cons (h1.mono m1) (g2.mono m2),fun id hi=>?_,by simp [g4],fun p hp=>?_⟩
  ·rcases jaz.1 hi with hi | hi
   ·exact h2 id hi
   ·exact g3 id hi
  ·rcases jbu.1 hp with rfl | hp
   ·exact hd
   ·exact g5 p hp
theorem TVR.fn_inv {g:FuncId} {vs:List (TV sem)} {a:AV} (h:TVR P κ ln z N (.fn g vs) a):∃ as,a = .fn g as/\TVRs P κ ln z N vs as:=by
 cases h with | fn _ _ as h=>exact ⟨as,rfl,h⟩
theorem kuM {C:Ctr} {f:FuncId} (hC:Good P f C) {m:Nat} {x y:Ty} {caps:List ((t:Ty)×t.den)} {as:List AV} {F:x.den->Option y.den} (hcaps:AL P caps as) (hd:∀ p∈caps,p.1.dat=true) (hm:m<=C.as.length) (hF:mkClo sem C m x y caps=some F):CV P m x y F (.fn f as):=by
 unfold mkClo at hF
 split at hF
 ·rename_i hx
  split at hF
  ·rename_i hy
   split at hF
   ·rename_i hdat
    cases hF
    have hlen:(C.as.take m).length=m:=by rw [jbh]; omega
    subst hx
    have hun:=krS m (C.as.take m) hlen
    refine ⟨f,as,rfl,kyy hcaps hd,by rw [hun,hlen],by rw [hun]; exact hdat,?_,fun v r hr=>?_⟩
    ·have:=hC.1; rw [hy] at this; simpa using this
    ·dsimp only at hr
     split at hr
     ·rename_i a ha
      obtain ⟨r',hr',hr⟩:=jaa.1 hr
      cases hr
      have hAR:=kiF _ _ _ _ (AL.append (kwO v hdat) hcaps) ha
      rw [kma m _ _ rfl v hlen]
      obtain ⟨nm,as',rs,CF,mus⟩:=C
      simp only at hy
      subst hy
      exact hC.2.1 a r hr' _ hAR
     ·cases hr
   ·cases hF
  ·cases hF
 ·cases hF
theorem kuH {Δ:List (FuncId×Ctr)} (hΔ:Goods P Δ) (R:Rel P κ ln z c s env h n) {t:Ty} {v:TV sem} {a:AV} {x:t.den} {ids:List Nat} (hv:TVR P κ ln z s.n v a) (hs:snapA (A:=sem) c Δ s t v=some (x,ids)) :
  ∃ a',A1 P t x a'/\Snap (hz (ows κ ln c s) h z ids) a a'/\∀ id∈ids,∃ B,thp c s id=some B:=by
 have dat:∀ {t:Ty} {x:t.den},snapV (A:=sem) c s t v=some (x,ids)->∃ a',A1 P t x a'/\Snap (hz (ows κ ln c s) h z ids) a a'/\∀ id∈ids,∃ B,thp c s id=some B:=fun hs=>by
  obtain ⟨hd,h1,h2⟩:=kbf R hv hs
  exact ⟨_,(kcz hd).2 rfl,h1,h2⟩
 unfold snapA at hs
 split at hs
 ·split at hs
  ·simp only [jab] at hs
   obtain ⟨y,hy,he⟩:=hs
   cases he
   obtain ⟨e,rfl⟩:=kai hy
   cases e
   cases hv with
   | cv _ _ _ _ _ hc=>
    obtain ⟨f,as,rfl,hf,hrest⟩:=hc
    exact ⟨.fn f as,⟨f,as,rfl,hf,hrest⟩,.free _ ((kgX _ _).2 hf),fun id hi=>by simp at hi⟩
  ·simp only [jaa] at hs
   obtain ⟨C,hC,hs⟩:=hs
   split at hs
   ·rename_i hlen
    simp only [jaa,jab] at hs
    obtain ⟨⟨l,ids'⟩,hl,F,hF,he⟩:=hs
    cases he
    obtain ⟨as,rfl,hvs⟩:=hv.fn_inv
    obtain ⟨as',g1,g2,g3,g4,g5⟩:=kgA R _ _ as hvs hl
    exact ⟨_,kuM (hΔ.at hC) g1 g5 (by omega) hF,Snap.fnL g2,g3⟩
   ·cases hs
  ·cases hs
 ·exact dat hs
theorem kfx {Δ:List (FuncId×Ctr)} (hΔ:Goods P Δ) (R:Rel P κ ln z c s env h n):∀ (ts:List Ty) (vs:List (TV sem)) (as:List AV) {l:List ((t:Ty)×t.den)} {ids:List Nat},TVRs P κ ln z s.n vs as->kda (A:=sem) c Δ s ts vs=some (l,ids)->
  ∃ as',AL P l as'/\SnapL (hz (ows κ ln c s) h z ids) as as'/\(∀ id∈ids,∃ B,thp c s id=some B)
 | [],[],_,l,ids,.nil,hs=>by cases hs; exact ⟨[],.nil,.nil,fun id hi=>by simp at hi⟩
 | [],_::_,_,l,ids,_,hs=>by simp [kda] at hs
 | _::_,[],_,l,ids,_,hs=>by simp [kda] at hs
 | t::ts,v::vs,_,l,ids,.cons _ a _ as hv hvs,hs=>by
  simp only [kda,jaa,jab] at hs
  obtain ⟨⟨x,i1⟩,hx,⟨l',i2⟩,hl,he⟩:=hs
  cases he
  obtain ⟨a',k1,h1,h2⟩:=kuH hΔ R hv hx
  obtain ⟨as',g1,g2,g3⟩:=kfx hΔ R ts vs as hvs hl
  have m1:=kcM (o:=ows κ ln c s) (h:=h) (z:=z) (ids:=i1) (ids':=i1++i2) R.zin (fun id hi=>by simp [hi])
  have m2:=kcM (o:=ows κ ln c s) (h:=h) (z:=z) (ids:=i2) (ids':=i1++i2) R.zin (fun id hi=>by simp [hi])
  refine ⟨a'::as',.cons k1 g1,.cons (h1.mono m1) (g2.mono m2),fun id hi=>?_⟩
  rcases jaz.1 hi with hi | hi
  ·exact h2 id hi
  ·exact g3 id hi
theorem ksb:∀ (ts:List Ty) (x:(tup ts).den),ts.all Ty.flat=true->FlatL (avsL ts x)
 | [],_,_=>by intro a ha; cases ha
 | [t],x,h=>by intro a ha; simp [avsL] at ha; subst ha; exact khZ t x (by simpa using h)
 | t::u::ts,x,h=>by
  rw [jdy,jac] at h
  intro a ha
  rcases jbu.1 ha with rfl | ha
  ·exact khZ t x.1 h.1
  ·exact ksb (u::ts) x.2 h.2 a ha
theorem ksJ (rs:List Ty) (x:(tup rs).den) (h:rs.all Ty.flat=true):Flat (rav rs x):=by
 unfold rav
 split
 ·exact khZ _ _ (by simpa using h)
 ·exact (kyp _).2 (ksb _ _ h)
theorem klU:∀ (ts:List Ty) (x:(tup ts).den),ts.all Ty.dat=true->TVRs P κ ln z N ((unT sem ts x).map fun y=>TV.c y.1 y.2) (avsL ts x)
 | [],_,_=>.nil
 | [t],x,h=>.cons _ _ _ _ (.free (by simpa using h)) .nil
 | t::u::ts,x,h=>by
  rw [jdy,jac] at h
  exact .cons _ _ _ _ (.free h.1) (klU (u::ts) x.2 h.2)
theorem kmO (rs:List Ty) (x:(tup rs).den) (h:rs.all Ty.dat=true):TVR P κ ln z N (tvR (A:=sem) rs x) (rav rs x):=by
 match rs,x,h with
 | [],x,h=>exact .tp _ _ (klU [] x h)
 | [t],x,h=>exact .free (by simpa using h)
 | t::u::ts,x,h=>exact .tp _ _ (klU (t::u::ts) x h)
theorem Rel.eat (R:Rel P κ ln z c s env h n) {ids:List Nat} {s':TS sem} (hz0:z=fun _=>none) (hs:Abs.retire s ids=some s'):Rel P κ ln z c { s' with dy:=false } env (fun q=>if (ids.flatMap (ows κ ln c s)).contains q then none else h q) n:=by
 obtain ⟨R',e1,e2,e3,e4,e5⟩:=R.retire hs
 have live:∀ id B q,thp c s' id=some B->Ow κ ln id B q->(ids.flatMap (ows κ ln c s)).contains q=false:=fun id B q hB hk=>by
  cases hcon:(ids.flatMap (ows κ ln c s)).contains q with
  | false=>rfl
  | true=>
   rw [jbo] at hcon
   obtain ⟨j,hj,hkj⟩:=List.mem_flatMap.1 hcon
   have hz:=R'.owZ hB hk
   rw [hz_in hj hkj] at hz
   obtain ⟨Bj,hBj⟩:=e4 j hj
   exact absurd hz ((R.blk j Bj (kab hBj)).live (kcP (kab hBj) hkj))
 subst hz0
 have sub:∀ id B,thp c s' id=some B->thp c s id=some B:=fun id B hB=>by
  unfold Abs.retire at hs
  split at hs
  ·cases hs
   unfold thp at hB ⊢
   rw [kef] at hB
   split at hB
   ·rename_i b hb
    split at hb
    ·cases hb; cases hB
    ·rw [hb]; exact hB
   ·rename_i hb
    split at hb
    ·cases hb
    ·rw [hb]; exact hB
  ·cases hs
 have ht:∀ id,thp c { s' with dy:=false } id=thp c s' id:=fun _=>rfl
 refine ⟨fun x=>?_,fun id B hB=>?_,fun id B hB=>R'.lt id B hB,fun i j B B' q hi hj=>R'.inj i j B B' q hi hj,(fun q B hq=>by cases hq),fun _ _ _ _ _=>rfl,fun id B q hB hk=>R'.bnd id B q hB hk,fun q hq=>?_,R'.e0,R'.g,fun _=>rfl,(fun q k T es hq=>by cases hq),R'.fam.map (fun id B hB=>.inl ⟨B,hB,fun h=>h,rfl,rfl⟩) (fun _ _ _ _ _ _ _ _=>rfl) (jah _)⟩
 ·have:=R.env x
  rw [<-kva (c:=c) e1,<-e2] at this
  exact this
 ·have hb:=R.blk id B (sub id B hB)
  rw [<-e2] at hb
  refine hb.mono (fun _ _=>rfl) (fun _ _=>rfl) (fun _ _ h=>h) (jah _) (R'.lt id B hB) fun q B2 hk h2=>?_
  rw [if_neg (by rw [live id B q hB hk]; simp)]; exact h2
 ·split
  ·rfl
  ·exact R.hn q hq
theorem kre {gg:Nat} {vs:List (TV sem)} {p:Prop} (hk:askX (A:=sem) (ρ:=ρ) c s gg vs=some r):p:=by
 unfold askX at hk
 split at hk
 ·cases hk
 ·split at hk
  ·exact kaa hk
  ·split at hk <;> exact kaa hk
theorem kuT {Δ:List (FuncId×Ctr)} (hΔ:Goods P Δ) (R:Rel P κ ln z c s env h n) {l:Call} {f:Operand} (hc:l.callee = .value f) (hk:callX c Δ s (tev c s f) (l.args.toList.map (tev c s)) Kf=some r):Res P κ ln z c s env h n ⟨d,.call l,ty,pos,after,g⟩ Kf r:=by
 have hargs:TVRs P κ ln z s.n (l.args.toList.map (tev c s)) (l.args.toList.map (ev env)):=by
  generalize l.args.toList=xs
  induction xs with
  | nil=>exact .nil
  | cons x xs ih=>exact .cons _ _ _ _ (R.ev x) ih
 have hf:=R.ev f
 unfold callX at hk
 split at hk
 ·rename_i gg caps he
  rw [he] at hf
  obtain ⟨as,hfa,hcaps⟩:=hf.fn_inv
  split at hk
  ·exact kre hk
  ·rename_i C hC
   have hG:=hΔ.at hC
   split at hk
   ·exact kre hk
   ·rename_i la ids hla
    obtain ⟨as',g1,g2,g3⟩:=kfx hΔ R _ _ _ (hargs.append hcaps) hla
    split at hk
    ·exact kaa hk
    ·rename_i a ha
     have hAR:=kiF _ _ _ _ g1 ha
     split at hk
     ·rename_i hflat
      simp only [jaa] at hk
      obtain ⟨y,hy,hk⟩:=hk
      refine R.q (fun K hk=>?_) (kmO C.rs y hG.1) hk
      exact khh hc hfa rfl (PC.lend1 (g2.mono (kea R.zin)) (hG.2.1 a y hy _ hAR) (ksJ _ _ hflat) hk)
     ·split at hk
      ·exact kaa hk
      ·rename_i hdy
       split at hk
       ·exact kaa hk
       ·rename_i s' hs'
        simp only [jaa] at hk
        obtain ⟨y,hy,hk⟩:=hk
        have hz0:=R.dy (by simpa using hdy)
        obtain ⟨_,e1,e2,_⟩:=R.retire hs'
        refine ⟨_,_,rav C.rs y,_,n,κ,ln,z,fun K hk=>?_,hk,R.eat hz0 hs',kmO C.rs y hG.1,by simp [e2],fun _ _=>⟨rfl,fun _=>rfl⟩,fun hk=>by obtain ⟨_,_,_⟩:=l; simp only at hc; subst hc; simp [calm,kiH] at hk⟩
        refine khh hc hfa rfl (PC.eat (hE:=hz (ows κ ln c s) h z ids) (ids.flatMap (ows κ ln c s)) (fun i B hi=>?_) (fun i B hi=>?_) g2 (hG.2.1 a y hy _ hAR) hk)
        ·refine ⟨?_,kea R.zin i B hi⟩
         unfold hz at hi
         split at hi
         ·rename_i hany
          obtain ⟨id,hid,hke⟩:=jbc.1 hany
          rw [jbo]
          exact List.mem_flatMap.2 ⟨id,hid,by simpa using hke⟩
         ·rw [hz0] at hi; cases hi
        ·split at hi
         ·cases hi
         ·rename_i hcon; exact ⟨by simpa using hcon,hi⟩
 ·rename_i m x y F he
  rw [he] at hf
  split at hk
  ·rename_i hx
   split at hk
   ·exact kaa hk
   ·rename_i la ids hla
    obtain ⟨as',g1,g2,g3,g4,g5⟩:=kgA R _ _ _ hargs hla
    split at hk
    ·exact kaa hk
    ·rename_i a ha
     split at hk
     ·rename_i hflat
      simp only [jaa] at hk
      obtain ⟨w,hw,hk⟩:=hk
      generalize hfe:ev env f=fa at hf
      cases hf with
      | cv _ _ _ _ _ hcv=>
       obtain ⟨gg,as,rfl,hfree,hul,hud,hyd,hpc⟩:=hcv
       have hAR:=knw hud (kiF _ _ _ _ g1 ha)
       have hp:=hpc _ w hw
       rw [kma m (untup m x) x hx a hul,<-hAR] at hp
       refine R.q (fun K hk=>?_) (.free hyd) hk
       exact khh hc hfe rfl (PC.lend1 ((g2.append (SnapL.free hfree)).mono (kea R.zin)) hp (khZ _ _ hflat) hk)
     ·exact kaa hk
  ·exact kaa hk
 ·exact kaa hk
end
def Ty.vals:(t:Ty)->t.den->List Value
 | .i k,x=>[.int k x]
 | .b,x=>[.bool x]
 | .s,x=>[.string ⟨x.toArray⟩]
 | .w t,x=>t.vals x
 | .pr t u,x=>t.vals x.1++u.vals x.2
 | _,_=>[]
def eqB:(t:Ty)->t.den->t.den->Bool
 | .i _,x,y=>let a:Int:=x; let b:Int:=y; a==b
 | .b,x,y=>let a:Bool:=x; let b:Bool:=y; a==b
 | .s,x,y=>let a:List UInt8:=x; let b:List UInt8:=y; a==b
 | .w t,x,y=>eqB t x y
 | .pr t u,x,y=>eqB t x.1 y.1&&eqB u x.2 y.2
 | _,_,_=>true
theorem kgH:∀ (t:Ty) (x:t.den),t.flat=true->(t.vals x).length=t.wd
 | .i _,_,_ | .b,_,_ | .s,_,_ | .un,_,_=>rfl
 | .w t,x,h=>kgH t x h
 | .pr t u,x,h=>by
  simp only [Ty.flat,jac] at h
  show (t.vals x.1++u.vals x.2).length=t.wd+u.wd
  rw [jbg,kgH t x.1 h.1,kgH u x.2 h.2]
theorem kij:∀ (t:Ty) (x:t.den),t.flat=true->t.enc x=(t.vals x).map .sc
 | .i _,_,_ | .b,_,_ | .s,_,_ | .un,_,_=>rfl
 | .w t,x,h=>kij t x h
 | .pr t u,x,h=>by
  simp only [Ty.flat,jac] at h
  show t.enc x.1++u.enc x.2=(t.vals x.1++u.vals x.2).map .sc
  rw [jcx,kij t x.1 h.1,kij u x.2 h.2]
theorem kvf (l:List Value):scV (l.map .sc)=some l:=by
 induction l with
 | nil=>rfl
 | cons v l ih=>simp only [jap,scV,ih]; rfl
theorem klh:∀ (t:Ty) (x y:t.den) (e:Bool),eqD (A:=sem) t x y=some e->e=eqB t x y
 | .i _,x,y,e,h | .b,x,y,e,h | .s,x,y,e,h=>by cases h; rfl
 | .w t,x,y,e,h=>klh t x y e h
 | .pr t u,x,y,e,h=>by
  simp only [eqD,jaa,jab] at h
  obtain ⟨p,hp,q,hq,rfl⟩:=h
  show (p&&q)=(eqB t x.1 y.1&&eqB u x.2 y.2)
  rw [klh t x.1 y.1 p hp,klh u x.2 y.2 q hq]
 | .un,x,y,e,h | .sl _,x,y,e,h | .pt _,x,y,e,h | .op _,x,y,e,h | .ar _ _,x,y,e,h | .sm _ _,x,y,e,h | .fn _ _ _,x,y,e,h | .nt,x,y,e,h=>by simp [eqD] at h
section
variable {P:Program}
theorem kyu {rec_:TypeId->Ty->Bool} {recV:TypeId->List Value->List Value->Option Bool} (hrec:∀ T t,rec_ T t=true->t.flat=true->∀ a b:t.den,recV T (t.vals a) (t.vals b)=some (eqB t a b)) :
  ∀ (fs:List Field) (o:Nat) (t:Ty) (a b:t.den) (px py:List Value),eqOkL P rec_ fs o t=true->t.flat=true->px.length=o->py.length=o->eqVF P recV fs (px++t.vals a) (py++t.vals b)=some (eqB t a b):=by
 have field:∀ (f:Field) (fs:List Field) (o:Nat) (u:Ty) (a b:u.den) (px py rx ry:List Value) (q:Bool),(f.name != "_")=true->f.offset=o->P.cellsOf f.type=u.wd->aggO P f.type=some u.agg->rec_ f.type u=true->u.flat=true->px.length=o->py.length=o->
   eqVF P recV fs (px++(u.vals a++rx)) (py++(u.vals b++ry))=some q->eqVF P recV (f::fs) (px++(u.vals a++rx)) (py++(u.vals b++ry))=some (eqB u a b&&q):=by
  intro f fs o u a b px py rx ry q h1 h2 h3 h4 h5 h6 h7 h8 h9
  have l1:=kgH u a h6
  have l2:=kgH u b h6
  have e:∀ (p r:List Value) (v:List Value),p.length=o->v.length=u.wd->((p++(v++r)).drop f.offset).take (P.cellsOf f.type)=v:=fun p r v hp hv=>by
   rw [h2,h3,<-hp,List.drop_left,<-hv,List.take_left]
  unfold eqVF
  rw [if_neg (by simp at h1; simp [h1,h2,h3,h7,h8,l1,l2]),h4]
  simp only
  rw [if_neg (by
   rintro ⟨e1,e2⟩
   rw [h3] at e2
   exact e2 (kwL e1 (kcv h6)))]
  rw [e px rx _ h7 l1,e py ry _ h8 l2,hrec _ _ h5 h6,h9]
 intro fs
 induction fs with
 | nil=>
  intro o t a b px py h hf hx hy
  simp only [eqOkL,jai] at h
  subst h
  simp [eqVF,eqB]
 | cons f fs ih=>
  intro o t a b px py h hf hx hy
  cases fs with
  | nil=>
   simp only [eqOkL,jac,jai] at h
   obtain ⟨⟨⟨⟨h1,h2⟩,h3⟩,h4⟩,h5⟩:=h
   have:=field f [] o t a b px py [] [] true h1 h2 h3 h4 h5 hf hx hy (by simp [eqVF])
   simp only [jbd,Bool.and_true] at this
   exact this
  | cons g fs=>
   cases t <;> simp only [eqOkL,jac,jai,jaj] at h
   rename_i u v
   obtain ⟨⟨⟨⟨⟨h1,h2⟩,h3⟩,h4⟩,h5⟩,h6⟩:=h
   simp only [Ty.flat,jac] at hf
   have l1:=kgH u a.1 hf.1
   have l2:=kgH u b.1 hf.1
   have hr:=ih (o+u.wd) v a.2 b.2 (px++u.vals a.1) (py++u.vals b.1) h6 hf.2 (by simp [hx,l1]) (by simp [hy,l2])
   rw [jau,jau] at hr
   exact field f (g::fs) o u a.1 b.1 px py (v.vals a.2) (v.vals b.2) _ h1 h2 h3 h4 h5 hf.1 hx hy hr
theorem kxl:∀ (d:Nat) (T:TypeId) (t:Ty),eqOkT P d T t=true->t.flat=true->∀ a b:t.den,eqV P d T (t.vals a) (t.vals b)=some (eqB t a b)
 | 0,T,t,h,_,_,_=>by simp [eqOkT] at h
 | d+1,T,t,h,hf,a,b=>by
  simp only [eqOkT] at h
  split at h
  ·rename_i hT
   simp only [jai] at h; subst h
   simp only [eqV,hT,Ty.vals]; rfl
  ·rename_i hT
   simp only [jai] at h; subst h
   simp only [eqV,hT,Ty.vals,if_true]; rfl
  ·rename_i hT
   simp only [jai] at h; subst h
   simp only [eqV,hT,Ty.vals,krI]; rfl
  ·rename_i fs hT
   simp only [jac,jbi] at h
   obtain ⟨h1,h2⟩:=h
   have go:∀ t:Ty,t.flat=true->∀ a b:t.den,eqOkL P (eqOkT P d) fs.toList 0 t=true->eqV P (d+1) T (t.vals a) (t.vals b)=some (eqB t a b):=fun t hf a b h2=>by
    have:=kyu (P:=P) (fun T t h hf a b=>kxl d T t h hf a b) fs.toList 0 t a b [] [] h2 hf rfl rfl
    simp only [jba] at this
    unfold eqV
    rw [hT]
    simp only [h1,jaj,if_false]
    exact this
   split at h2
   ·rename_i f u e
    rw [<-e] at h2
    exact go u hf a b h2
   ·cases h2
   ·exact go _ hf a b h2
  ·cases h
variable {κ κ':Nat->Option Nat} {ln ln':Nat->Nat} {z z':AH} {c:Cx sem} {s:TS sem} {env:Env} {h h':AH} {n n' N N':Nat}
variable {ρ:Ty} {Kf:TV sem->TS sem->sem.Ans ρ} {r:ρ.den}
variable {d:Option Tmp} {ty:TypeId} {pos:String} {after:Array Edge} {g:Option (Nat×Bool)}
theorem krF (R:Rel P κ ln z c s env h n) {t:Ty} {v:TV sem} {a:AV} (hf:t.flat=true) (ha:t.agg=true) (hv:TVR P κ ln z s.n v a) {x:t.den} (hs:snapV (A:=sem) c s t v=some (x,[])):a = .ag (t.enc x):=by
 obtain ⟨_,h1,_⟩:=kbf R hv hs
 rw [kgq ha] at h1
 obtain ⟨cs,rfl,h2⟩:=h1.ag_inv
 rw [kij t x hf] at h2 ⊢
 have:∀ (l:List Value) (cs:List AV),SnapL (hz (ows κ ln c s) h z []) cs (l.map .sc)->cs=l.map .sc:=by
  intro l
  induction l with
  | nil=>intro cs h; cases h; rfl
  | cons v l ih=>
   intro cs h
   cases h with
   | cons k1 k2=>rw [k1.sc_inv,ih _ k2]; rfl
 rw [this _ _ h2]
theorem kvX (R:Rel P κ ln z c s env h n) {op:BinOp} {T T2:TypeId} {x y:Operand} {u v:TV sem} (hu:TVR P κ ln z s.n u (ev env x)) (hv:TVR P κ ln z s.n v (ev env y)) (hk:binX P c s op T u v Kf=some r):Res P κ ln z c s env h n ⟨d,.binOp op T x y T2,ty,pos,after,g⟩ Kf r:=by
 have hk0:=hk
 unfold binX at hk
 split at hk
 ·exact kxB R hu.i_inv hv.i_inv hk0
 ·exact kxA R hu.s_inv hv.s_inv hk0
 ·split at hk
  ·rename_i a b ha hb
   have h1:=hu.getB_inv ha
   have h2:=hv.getB_inv hb
   split at hk
   ·rename_i hT
    replace hT:=kqo hT
    split at hk
    ·exact R.q (fun K hk=>by simp only [aop,h1,h2,abin]; exact ⟨hT,hk⟩) (.bool _) hk
    ·exact R.q (fun K hk=>by simp only [aop,h1,h2,abin]; exact ⟨hT,hk⟩) (.bool _) hk
    ·exact kaa hk
   ·exact kaa hk
  ·split at hk
   ·rename_i t ht
    split at hk
    ·rename_i hc
     simp only [jac,jbi,jai] at hc
     obtain ⟨⟨⟨⟨hf,ha⟩,hok⟩,hgd⟩,hag⟩:=hc
     split at hk
     ·rename_i a b hsa hsb
      have h1:=krF R hf ha hu hsa
      have h2:=krF R hf ha hv hsb
      have hcmp:=fun e (he:e=eqB t a b)=>kyN (P:=P) (h:=h) (T:=T) (as:=t.enc a) (bs:=t.enc b) (xs:=t.vals a) (ys:=t.vals b) (d:=9) (r:=eqB t a b) (r':=e) (by decide) hag hgd (by rw [kij t a hf,kvf]) (by rw [kij t b hf,kvf]) (kxl 9 T t hok hf a b) he.symm
      split at hk
      ·rename_i e he
       have:=hcmp e (klh t a b e he)
       exact R.q (fun K hk=>by simp only [aop,h1,h2]; exact kyw this hk) (.bool _) hk
      ·rename_i e he
       have:=hcmp e (klh t a b e he)
       exact R.q (fun K hk=>by simp only [aop,h1,h2]; exact kxZ this hk) (.bool _) hk
      ·exact kaa hk
     ·exact kaa hk
    ·exact kaa hk
   ·exact kaa hk
end
mutual
theorem ktz {id:Nat}:∀ (v:TV sem),v.has id=false->drpV id v=v
 | .adr i x j,h=>by simp [TV.has] at h; simp [drpV,h]
 | .aa i x,h=>by simp [TV.has] at h; simp [drpV,h]
 | .mw i,h=>by simp [TV.has] at h; simp [drpV,h]
 | .ms i a b,h=>by simp [TV.has] at h; simp [drpV,h]
 | .fr i x,h=>by simp [TV.has] at h; simp [drpV,h]
 | .fa i x k o,h=>by simp [TV.has] at h; simp [drpV,h]
 | .fn g vs,h=>by simp only [TV.has] at h; simp only [drpV,kjP vs h]
 | .tp vs,h=>by simp only [TV.has] at h; simp only [drpV,kjP vs h]
 | .ag vs,h=>by simp only [TV.has] at h; simp only [drpV,kjP vs h]
 | .un,_ | .gs _ _,_ | .yl _,_ | .kp _,_ | .ud,_ | .c _ _,_ | .kb _,_ | .sc _,_ | .ptr _ _,_ | .fq _ _ _,_ | .mp _,_ | .fw _,_ | .fo _ _ _,_ | .cv _ _ _ _,_=>by simp [drpV]
theorem kjP {id:Nat}:∀ (vs:List (TV sem)),TV.has.hasL id vs=false->drpL id vs=vs
 | [],_=>by simp [drpL]
 | v::vs,h=>by simp only [TV.has.hasL,jdg] at h; simp only [drpL,ktz v h.1,kjP vs h.2]
end
theorem ktR {id:Nat}:∀ (vs:List (TV sem)),(drpL id vs).length=vs.length
 | []=>by simp [drpL]
 | v::vs=>by simp [drpL,ktR vs]
theorem kxF {id:Nat} {B:TB sem} (h:B.has id=false):drpB id B=B:=by
 cases B <;> simp [drpB,TB.has] at h ⊢
 exact kjP _ h
theorem koU {id:Nat} {B:TB sem}:(drpB id B).isF=B.isF:=by cases B <;> rfl
theorem kkd {α β:Type} (f:α->β):∀ (l:List (Nat×α)) (x:Nat),alk (l.map fun y=>(y.1,f y.2)) x=(alk l x).map f
 | [],x=>rfl
 | (k,v)::l,x=>by
  simp only [jap,alk,kkd f l x]
  split <;> rfl
theorem kpG {α:Type}:∀ {l:List (Nat×α)} {x:Nat} {v:α},alk l x=some v->(x,v)∈l
 | (k,u)::l,x,v,h=>by
  simp only [alk] at h
  split at h
  ·rename_i e; cases h; subst e; simp
  ·exact jbb _ (kpG h)
section
variable {P:Program} {κ κ':Nat->Option Nat} {ln ln':Nat->Nat} {z z':AH} {c:Cx sem} {s:TS sem} {env:Env} {h h':AH} {n n' N N':Nat} {id q:Nat}
theorem kza (hc:c.has id=false) {x:Nat} {v:TV sem} (hv:alk c.e0 x=some v):v.has id=false:=by
 unfold Cx.has at hc
 simp only [jdg] at hc
 have:=hc.1.2
 rw [List.any_eq_false] at this
 simpa using this _ (kpG hv)
theorem kyX (hc:c.has id=false) {x:Nat} {B:TB sem} (hv:alk c.g x=some B):B.has id=false:=by
 unfold Cx.has at hc
 simp only [jdg] at hc
 have:=hc.2
 rw [List.any_eq_false] at this
 simpa using this _ (kpG hv)
theorem kyH (hc:c.has id=false) (x:Nat):tlk c (drpS s id) x=drpV id (tlk c s x):=by
 unfold tlk
 have e:(drpS s id).env=s.env.map fun x=>(x.1,drpV id x.2):=rfl
 rw [e,kkd]
 cases alk s.env x with
 | some v=>rfl
 | none=>
  simp only [Option.map_none]
  cases he:alk c.e0 x with
  | none=>simp [drpV]
  | some v=>exact (ktz v (kza hc he)).symm
theorem kyE (hc:c.has id=false) (i:Nat):thp c (drpS s id) i=(thp c s i).map (drpB id):=by
 unfold thp
 have e:(drpS s id).hp=s.hp.map fun x=>(x.1,x.2.map (drpB id)):=rfl
 rw [e,kkd (fun b:Option (TB sem)=>b.map (drpB id))]
 cases alk s.hp i with
 | some v=>rfl
 | none=>
  simp only [Option.map_none]
  cases he:alk c.g i with
  | none=>rfl
  | some v=>simp [kxF (kyX hc he)]
mutual
theorem TVR.drp (hl:(kac (ln' id)).length=(kac (ln id)).length) (ho:∀ i,i≠id->ln' i=ln i):∀ {v:TV sem} {a:AV},TVR P κ ln z N v a->TVR P κ ln' z N (drpV id v) a
 | _,_,.un a=>by simp only [drpV]; exact .un a
 | _,_,.ud=>by simp only [drpV]; exact .ud
 | _,_,.gs t l=>by simp only [drpV]; exact .gs t l
 | _,_,.yl i q hi h=>by simp only [drpV]; exact .yl i q hi h
 | _,_,.kp i hi=>by simp only [drpV]; exact .kp i hi
 | _,_,.c t x a hd h=>by simp only [drpV]; exact .c t x a hd h
 | _,_,.kb b=>by simp only [drpV]; exact .kb b
 | _,_,.sc v h1=>by simp only [drpV]; exact .sc v h1
 | _,_,.ptr i j q hi h=>by simp only [drpV]; exact .ptr i j q hi h
 | _,_,.adr i x j q hi h h0 h1=>by
  simp only [drpV]; split
  ·exact .un _
  ·rename_i e; exact .adr i x j q hi h h0 (by rw [ho i e]; exact h1)
 | _,_,.aa i x q hi h h0 h1=>by
  simp only [drpV]; split
  ·exact .un _
  ·rename_i e; exact .aa i x q hi h h0 (by rw [ho i e]; exact h1)
 | _,_,.fq t x o a hd h=>by simp only [drpV]; exact .fq t x o a hd h
 | _,_,.mw0 i hi h=>by
  simp only [drpV]; split
  ·exact .un _
  ·exact .mw0 i hi h
 | _,_,.mw i q hi h=>by
  simp only [drpV]; split
  ·exact .un _
  ·rename_i e; rw [<-ho i e]; exact .mw i q hi h
 | _,_,.ms0 i off len hi h h1 h2=>by
  simp only [drpV]; split
  ·exact .un _
  ·exact .ms0 i off len hi h h1 h2
 | _,_,.ms i off len q hi h h0 h1 h2=>by
  simp only [drpV]; split
  ·exact .un _
  ·rename_i e; exact .ms i off len q hi h h0 h1 (by rw [ho i e]; exact h2)
 | _,_,.mp i q hi h=>by simp only [drpV]; exact .mp i q hi h
 | _,_,.fw0 i hi h=>by simp only [drpV]; exact .fw0 i hi h
 | _,_,.fw i q hi h=>by
  simp only [drpV]
  have e:(kac (ln' i)).length=(kac (ln i)).length:=by
   by_cases e:i=id
   ·subst e; exact hl
   ·rw [ho i e]
  rw [<-e]; exact .fw i q hi h
 | _,_,.fr0 i x m hi h0 h=>by
  simp only [drpV]; split
  ·exact .un _
  ·rename_i e; exact .fr0 i x m hi h0 (by rw [ho i e]; exact h)
 | _,_,.fr i x r m hi h0 h=>by
  simp only [drpV]; split
  ·exact .un _
  ·rename_i e; exact .fr i x r m hi h0 (by rw [ho i e]; exact h)
 | _,_,.fo i x j q hi h h0 h1=>by
  simp only [drpV]
  have e:(kac (ln' i)).length=(kac (ln i)).length:=by
   by_cases e:i=id
   ·subst e; exact hl
   ·rw [ho i e]
  exact .fo i x j q hi h h0 (by rw [e]; exact h1)
 | _,_,.fa i x k o r m hi h0 h hk hm=>by
  simp only [drpV]; split
  ·exact .un _
  ·rename_i e; exact .fa i x k o r m hi h0 (by rw [ho i e]; exact h) hk hm
 | _,_,.fn g vs as h=>by simp only [drpV]; exact .fn g _ as (TVRs.drp hl ho h)
 | _,_,.cv n x y F a h=>by simp only [drpV]; exact .cv n x y F a h
 | _,_,.tp vs as h=>by simp only [drpV]; exact .tp _ as (TVRs.drp hl ho h)
 | _,_,.ag vs as h h1=>by simp only [drpV]; exact .ag _ as (TVRs.drp hl ho h) h1
theorem TVRs.drp (hl:(kac (ln' id)).length=(kac (ln id)).length) (ho:∀ i,i≠id->ln' i=ln i):∀ {v:List (TV sem)} {a:List AV},TVRs P κ ln z N v a->TVRs P κ ln' z N (drpL id v) a
 | _,_,.nil=>by simp only [drpL]; exact .nil
 | _,_,.cons v a vs as h hs=>by simp only [drpL]; exact .cons _ a _ as (TVR.drp hl ho h) (TVRs.drp hl ho hs)
end
theorem BR.drp (hl:(kac (ln' id)).length=(kac (ln id)).length) (ho:∀ i,i≠id->ln' i=ln i) {i:Nat} {B:TB sem} (hi:i≠id) (hh:∀ q AB,Ow κ ln i B q->h q=some AB->h' q=some AB) (hb:BR P κ ln z h N i B):BR P κ ln' z h' N i (drpB id B):=by
 have e:=ho i hi
 cases hb with
 | bx T vs q as hq hB hv h1=>
  have:=ktR (id:=id) vs
  exact .bx T (drpL id vs) q as hq (by rw [this]; exact hh q _ (.inl hq) hB) (hv.drp hl ho) h1
 | el T t x q cs hd hq hB hv h1 hl=>exact .el T t x q cs hd hq (hh q _ (.inl hq) hB) hv h1 (by rw [e]; exact hl)
 | sl0 T t l hd hq hl hn=>exact .sl0 T t l hd hq hl (by rw [e]; exact hn)
 | sl T t l q es hd hq hB hv h1 hn=>exact .sl T t l q es hd hq (hh q _ (.inl hq) hB) hv h1 (by rw [e]; exact hn)
 | mp k v l q hk hf hq hB=>exact .mp k v l q hk hf hq (hh q _ (.inl hq) hB)
 | si x q hq h0 hB=>exact .si x q hq h0 (hh q _ (.inl hq) hB)
 | fm0 T t j U u l ho hd hq hl hn=>exact .fm0 T t j U u l ho hd hq hl (by rw [e]; exact hn)
 | fm T t j U u l ho q es hd hq hB hn hl hv h0 h1=>
  refine .fm T t j U u l ho q es hd hq (hh q _ (.inl hq) hB) (by rw [e]; exact hn) hl (fun i' x e' rm h2 h3 h4 h5=>?_) (by rw [e]; exact h0) h1
  rw [e] at h4
  refine (hv i' x e' rm h2 h3 h4 h5).mono (fun _ _ h=>h) fun r B hr hB=>hh r B (.inr ⟨rfl,?_⟩) hB
  obtain ⟨r',m⟩:=rm
  simp only at hr; subst hr
  exact kay h4
theorem Rel.famSet (R:Rel P κ ln z c s env h n) {B0 B:TB sem} (hc:c.has id=false) (hb:alk s.hp id=some (some B0)) (hf0:B0.isF=true) (hF:B.isF=true) (hl:(kac (ln' id)).length=(kac (ln id)).length) (ho:∀ i,i≠id->ln' i=ln i)
  (hnn:n<=n') (hn':∀ q,n'<=q->h' q=none) (hz':∀ q B,z q=some B->h' q=some B) (hh:∀ i B rr AB,i≠id->thp c s i=some B->Ow κ ln i B rr->h rr=some AB->h' rr=some AB) (hB:BR P κ ln' z h' s.n id B)
  (hr:(kam (ln' id)).Nodup/\∀ r∈kam (ln' id),r<n'/\z r=none/\κ id≠some r/\∀ i B',i≠id->thp c s i=some B'->¬ Ow κ ln i B' r) :
  Rel P κ ln' z c { drpS s id with hp:=(id,some B)::(drpS s id).hp } env h' n':=by
 have old:∀ i B',thp c { drpS s id with hp:=(id,some B)::(drpS s id).hp } i=some B'->(i=id/\B'=B)\/(i≠id/\∃ B1,thp c s i=some B1/\B'=drpB id B1):=fun i B' hi=>by
  rw [kaW] at hi
  split at hi
  ·rename_i e; cases hi; exact .inl ⟨e,rfl⟩
  ·rename_i e
   rw [kyE hc,jab] at hi
   obtain ⟨B1,h1,rfl⟩:=hi
   exact .inr ⟨e,B1,h1,rfl⟩
 have live:∀ i B',thp c { drpS s id with hp:=(id,some B)::(drpS s id).hp } i=some B'->∃ B1,thp c s i=some B1:=fun i B' hi=>by
  rcases old i B' hi with ⟨rfl,_⟩ | ⟨_,B1,h1,_⟩
  ·exact ⟨B0,kab hb⟩
  ·exact ⟨B1,h1⟩
 refine ⟨fun x=>?_,fun i B' hi=>?_,fun i B' hi=>?_,fun i j B1 B2 q' hi hj ki kj=>?_,hz',fun i B' q' hi ki=>?_,fun i B' q' hi ki=>?_,hn',fun x v hx=>?_,fun i b hi=>?_,R.dy,R.zk,fun i B' hi hf=>?_⟩
 ·rw [show tlk c { drpS s id with hp:=(id,some B)::(drpS s id).hp } x=tlk c (drpS s id) x from rfl,kyH hc]
  exact (R.env x).drp hl ho
 ·rcases old i B' hi with ⟨rfl,rfl⟩ | ⟨hne,B1,h1,rfl⟩
  ·exact hB
  ·exact (R.blk i B1 h1).drp hl ho hne fun rr AB k1 k2=>hh i B1 rr AB hne h1 k1 k2
 ·obtain ⟨B1,h1⟩:=live i B' hi
  exact R.lt i B1 h1
 ·obtain ⟨_,h1⟩:=live i _ hi
  obtain ⟨_,h2⟩:=live j _ hj
  exact R.inj i j _ _ q' h1 h2 ki kj
 ·obtain ⟨B1,h1⟩:=live i B' hi
  exact R.zout i B1 q' h1 ki
 ·obtain ⟨B1,h1⟩:=live i B' hi
  exact jan (R.bnd i B1 q' h1 ki) hnn
 ·replace hx:alk (s.env.map fun x=>(x.1,drpV id x.2)) x=some v:=hx
  rw [kkd,jab] at hx
  obtain ⟨v',hx,_⟩:=hx
  exact R.e0 x v' hx
 ·simp only [alk] at hi
  split at hi
  ·rename_i e; subst e; exact R.g _ _ hb
  ·replace hi:alk (s.hp.map fun x=>(x.1,x.2.map (drpB id))) i=some b:=hi
   rw [kkd (fun b:Option (TB sem)=>b.map (drpB id)),jab] at hi
   obtain ⟨v',hi,_⟩:=hi
   exact R.g i v' hi
 ·rcases old i B' hi with ⟨rfl,rfl⟩ | ⟨hne,B1,h1,rfl⟩
  ·refine ⟨hr.1,fun r hr'=>?_⟩
   obtain ⟨k1,k2,k3,k4⟩:=hr.2 r hr'
   refine ⟨k1,k2,fun j B2 hj=>?_,fun j B2 hj hf2 hj'=>?_⟩
   ·rcases old j B2 hj with ⟨rfl,_⟩ | ⟨hne,B3,h3,_⟩
    ·exact k3
    ·exact fun e=>k4 j B3 hne h3 (.inl e)
   ·rcases old j B2 hj with ⟨rfl,_⟩ | ⟨hne,B3,h3,rfl⟩
    ·rfl
    ·rw [koU] at hf2
     rw [ho j hne] at hj'
     exact absurd (.inr ⟨hf2,hj'⟩) (k4 j B3 hne h3)
  ·rw [koU] at hf
   obtain ⟨g1,g2⟩:=R.fam i B1 h1 hf
   rw [ho i hne]
   refine ⟨g1,fun r hr'=>?_⟩
   obtain ⟨k1,k2,k3,k4⟩:=g2 r hr'
   refine ⟨jan k1 hnn,k2,fun j B2 hj=>?_,fun j B2 hj hf2 hj'=>?_⟩
   ·obtain ⟨B3,h3⟩:=live j B2 hj
    exact k3 j B3 h3
   ·rcases old j B2 hj with ⟨rfl,_⟩ | ⟨hne2,B3,h3,rfl⟩
    ·exact absurd (.inr ⟨hf,hr'⟩) ((hr.2 r hj').2.2.2 i B1 hne h1)
    ·rw [koU] at hf2
     rw [ho j hne2] at hj'
     exact k4 j B3 h3 hf2 hj'
theorem Rel.newF (R:Rel P κ ln z c s env h n) (B:TB sem) (k:Option Nat) (l:Nat) (hh:∀ q B,h q=some B->h' q=some B) (hnn:n<=n') (hk:∀ q,k=some q->n<=q/\q<n') (hn':∀ q,n'<=q->h' q=none)
  (hB:BR P (updK κ s.n k) (updK ln s.n l) z h' (s.n+1) s.n B) (hr:(kam l).Nodup/\∀ r∈kam l,r<n/\z r=none/\∀ i B',thp c s i=some B'->¬ Ow κ ln i B' r):Rel P (updK κ s.n k) (updK ln s.n l) z c { s with hp:=(s.n,some B)::s.hp,n:=s.n+1 } env h' n':=by
 have e1:∀ id,id<s.n->updK κ s.n k id = κ id:=fun id hi=>kau hi
 have e2:∀ id,id<s.n->updK ln s.n l id=ln id:=fun id hi=>kau hi
 refine ⟨fun x=>(R.env x).mono e1 e2 (fun _ _ h=>h) (jbw _),fun id B' hb=>?_,fun id B' hb=>?_,fun i j B1 B2 q hi hj ki kj=>?_,fun q B' hq=>hh q B' (R.zin q B' hq),fun id B' q hb hq=>?_,fun id B' q hb hq=>?_,hn',R.e0,fun id b hb=>?_,R.dy,R.zk,fun id B' hb hf=>?_⟩
 ·rw [thp_n] at hb
  split at hb
  ·rename_i e; cases hb; subst e; exact hB
  ·exact (R.blk id B' hb).mono e1 e2 (fun _ _ h=>h) (jbw _) (R.lt id B' hb) fun q B _=>hh q B
 ·rw [thp_n] at hb
  split at hb
  ·rename_i e; subst e; exact jbk _
  ·exact jdz (R.lt id B' hb)
 ·rw [thp_n] at hi hj
  split at hi
  ·rename_i e; subst e
   rw [updK_self] at ki
   split at hj
   ·rename_i e; exact e.symm
   ·rw [e1 j (R.lt j _ hj)] at kj
    have:=R.bnd j _ q hj kj
    have:=hk q ki
    omega
  ·rw [e1 i (R.lt i _ hi)] at ki
   split at hj
   ·rename_i e; subst e
    rw [updK_self] at kj
    have:=R.bnd i _ q hi ki
    have:=hk q kj
    omega
   ·rw [e1 j (R.lt j _ hj)] at kj
    exact R.inj i j _ _ q hi hj ki kj
 ·rw [thp_n] at hb
  split at hb
  ·rename_i e; subst e
   rw [updK_self] at hq
   exact R.zN (hk q hq).1
  ·rw [e1 id (R.lt id _ hb)] at hq; exact R.zout id B' q hb hq
 ·rw [thp_n] at hb
  split at hb
  ·rename_i e; subst e
   rw [updK_self] at hq
   exact (hk q hq).2
  ·rw [e1 id (R.lt id _ hb)] at hq; exact jan (R.bnd id B' q hb hq) hnn
 ·simp only [alk] at hb
  split at hb
  ·rename_i e; subst e; exact R.gN
  ·exact R.g id b hb
 ·rw [thp_n] at hb
  split at hb
  ·rename_i e; cases hb; subst e
   rw [updK_self]
   refine ⟨hr.1,fun r hr'=>?_⟩
   obtain ⟨k1,k2,k3⟩:=hr.2 r hr'
   refine ⟨by omega,k2,fun j B2 hj=>?_,fun j B2 hj hf2 hj'=>?_⟩
   ·rw [thp_n] at hj
    split at hj
    ·rename_i e; subst e
     rw [updK_self]
     intro e
     have:=hk r e
     omega
    ·rw [e1 j (R.lt j _ hj)]
     exact fun e=>k3 j B2 hj (.inl e)
   ·rw [thp_n] at hj
    split at hj
    ·rename_i e; exact e
    ·rw [e2 j (R.lt j _ hj)] at hj'
     exact absurd (.inr ⟨hf2,hj'⟩) (k3 j B2 hj)
  ·obtain ⟨g1,g2⟩:=R.fam id B' hb hf
   rw [e2 id (R.lt id _ hb)]
   refine ⟨g1,fun r hr'=>?_⟩
   obtain ⟨k1,k2,k3,k4⟩:=g2 r hr'
   refine ⟨jan k1 hnn,k2,fun j B2 hj=>?_,fun j B2 hj hf2 hj'=>?_⟩
   ·rw [thp_n] at hj
    split at hj
    ·rename_i e; subst e
     rw [updK_self]
     intro e
     have:=hk r e
     omega
    ·rw [e1 j (R.lt j _ hj)]; exact k3 j B2 hj
   ·rw [thp_n] at hj
    split at hj
    ·rename_i e; subst e
     rw [updK_self] at hj'
     exact absurd (.inr ⟨hf,hr'⟩) ((hr.2 r hj').2.2 id B' hb)
    ·rw [e2 j (R.lt j _ hj)] at hj'
     exact k4 j B2 hj hf2 hj'
theorem Rel.setO (R:Rel P κ ln z c s env h n) {B0 B:TB sem} {AB:ABlk} (hb:alk s.hp id=some (some B0)) (hq:Ow κ ln id B0 q) (hB:BR P κ ln z (updH h q AB) s.n id B) (hF:B.isF=true->B0.isF=true):Rel P κ ln z c { s with hp:=(id,some B)::s.hp } env (updH h q AB) n:=by
 have hq':=R.owN (kab hb) hq
 have hqz:=R.owZ (kab hb) hq
 refine ⟨R.env,fun i B' hi=>?_,fun i B' hi=>?_,fun i j B1 B2 q' hi hj ki kj=>?_,fun q' B' hz=>?_,fun i B' q' hi ki=>?_,fun i B' q' hi ki=>?_,fun q' hn=>?_,R.e0,fun i b hi=>?_,R.dy,R.zk,R.fam.map (fun i B' hi=>?_) (fun id _ B r _ h1 h2 h3=>((R.fam id B h1 h2).2 r h3).2.1) (jah _)⟩
 ·rw [kaW] at hi
  split at hi
  ·rename_i e; cases hi; subst e; exact hB
  ·rename_i hne
   refine (R.blk i B' hi).mono (fun _ _=>rfl) (fun _ _=>rfl) (fun _ _ h=>h) (jah _) (R.lt i B' hi) fun q1 B1 k1 h1=>?_
   unfold updH
   rw [if_neg]; ·exact h1
   rintro rfl
   exact hne (R.owI hi (kab hb) k1 hq)
 ·rw [kaW] at hi
  split at hi
  ·rename_i e; subst e; exact R.lt _ B0 (kab hb)
  ·exact R.lt i B' hi
 ·have:∀ i B',thp c { s with hp:=(id,some B)::s.hp } i=some B'->∃ B'',thp c s i=some B'':=fun i B' hi=>by
   rw [kaW] at hi
   split at hi
   ·rename_i e; subst e; exact ⟨B0,kab hb⟩
   ·exact ⟨_,hi⟩
  obtain ⟨_,hi⟩:=this i _ hi
  obtain ⟨_,hj⟩:=this j _ hj
  exact R.inj i j _ _ q' hi hj ki kj
 ·unfold updH
  split
  ·rename_i e; subst e; rw [hqz] at hz; cases hz
  ·exact R.zin q' B' hz
 ·rw [kaW] at hi
  split at hi
  ·rename_i e; subst e; exact R.zout _ B0 q' (kab hb) ki
  ·exact R.zout i B' q' hi ki
 ·rw [kaW] at hi
  split at hi
  ·rename_i e; subst e; exact R.bnd _ B0 q' (kab hb) ki
  ·exact R.bnd i B' q' hi ki
 ·unfold updH
  rw [if_neg (by omega)]; exact R.hn q' hn
 ·simp only [alk] at hi
  split at hi
  ·rename_i e; subst e; exact R.g _ _ hb
  ·exact R.g i b hi
 ·rw [kaW] at hi
  split at hi
  ·rename_i e; cases hi; subst e; exact .inl ⟨B0,kab hb,hF,rfl,rfl⟩
  ·exact .inl ⟨B',hi,fun h=>h,rfl,rfl⟩
theorem Rel.famAt (R:Rel P κ ln z c s env h n) {i:Int} {T U:TypeId} {t u:Ty} {j:Nat} {l:List t.den} {ho:Option Int} (hB:thp c s id=some (.fm T t j U u l ho)) {y:t.den} (hy:gi l i=some y) :
  t.dat=true/\0<=i/\l[i.toNat]?=some y/\∃ q es e rm,κ id=some q/\h q=some (.cells t.wd T es)/\es[i.toNat]?=some e/\(kac (ln id))[i.toNat]?=some rm/\(ho≠some i->FamE z h j U u.wd (t.enc y) e rm)/\l.length=(kac (ln id)).length/\es.length=l.length/\(∀ e∈es,e.length=t.wd/\∀ a∈e,a.one=true)/\
   (∀ (i:Nat) (x:t.den) (e:List AV) (rm:Option Nat×Nat),l[i]?=some x->es[i]?=some e->(kac (ln id))[i]?=some rm->ho≠some (i:Int)->FamE z h j U u.wd (t.enc x) e rm)/\(∀ (i:Nat) (rm:Option Nat×Nat),ho=some (i:Int)->(kac (ln id))[i]?=some rm->rm.1=none):=by
 obtain ⟨h0,h1,h2⟩:=kfE hy
 cases R.blk _ _ hB with
 | fm0 _ _ _ _ _ _ _ hd hq hl hn=>subst hl; simp at h1
 | fm _ _ _ _ _ _ _ q es hd hq hh hn hl hv hv0 ho1=>
  have he:es[i.toNat]?=some (es[i.toNat]'(by omega)):=jae _
  have hr:(kac (ln id))[i.toNat]?=some ((kac (ln id))[i.toNat]'(by omega)):=jae _
  refine ⟨hd,h0,h1,q,es,_,_,hq,hh,he,hr,fun hne=>hv _ _ _ _ h1 he hr ?_,hn,hl,ho1,hv,hv0⟩
  rw [Int.toNat_of_nonneg h0]; exact hne
theorem kes {t u:Ty} {j:Nat} {y:t.den} {ys:List u.den} (hd:t.dat=true) (hr:rowD (A:=sem) t u j y=some ys):u.dat=true/\j<t.wd/\(t.enc y)[j]?=some (.sl (ys.map u.enc)):=by
 unfold rowD at hr
 simp only [jaa] at hr
 obtain ⟨⟨t',y'⟩,hc,hr⟩:=hr
 obtain ⟨g1,g2,g3,g4,g5⟩:=kia t y j 1 false hd hc
 obtain ⟨e,rfl⟩:=kai hr
 simp only at e; subst e
 refine ⟨g1,by omega,?_⟩
 have:((t.enc y).drop j).take 1=[.sl (y'.map u.enc)]:=g5
 have h2:(((t.enc y).drop j).take 1)[0]?=some (.sl (y'.map u.enc)):=by rw [this]; rfl
 rwa [jdm (by omega),jaq,Nat.add_zero] at h2
theorem kjL {val:(t:Ty)->Option t.den} (hval:∀ t y,val t=some y->t.dat=true):∀ (t:Ty) (x:t.den) (o m:Nat) (ag:Bool) {y:t.den},t.dat=true->setC (A:=sem) val t x o m ag=some y->
  ∃ t' y',val t'=some y'/\(t'.enc y').length=m/\o+m<=t.wd/\t.enc y=(t.enc x).take o++t'.enc y'++(t.enc x).drop (o+m)
 | .pr t u,x,o,m,ag,y,hd,hc=>by
  simp only [Ty.dat,jac] at hd
  have l1:=kaf t x.1 hd.1
  have l2:=kaf u x.2 hd.2
  simp only [setC] at hc
  show ∃ t' y',val t'=some y'/\(t'.enc y').length=m/\o+m<=t.wd+u.wd/\t.enc y.1++u.enc y.2=(t.enc x.1++u.enc x.2).take o++t'.enc y'++(t.enc x.1++u.enc x.2).drop (o+m)
  split at hc
  ·rename_i hh
   obtain ⟨rfl,rfl,rfl⟩:=hh
   have l3:=kaf _ y (hval _ _ hc)
   simp only [Ty.wd] at l3
   refine ⟨_,y,hc,l3,by omega,?_⟩
   rw [jdi,jba,jcb,jbq (by simp; omega),jbd]; rfl
  ·split at hc
   ·rename_i hle
    simp only [jab] at hc
    obtain ⟨w,hw,rfl⟩:=hc
    obtain ⟨t',y',g0,g1,g2,g3⟩:=kjL hval t x.1 o m ag hd.1 hw
    refine ⟨t',y',g0,g1,by omega,?_⟩
    rw [List.take_append_of_le_length (by omega),List.drop_append_of_le_length (by omega),<-jau]
    show t.enc w++u.enc x.2=_
    rw [g3]
   ·split at hc
    ·rename_i hle
     simp only [jab] at hc
     obtain ⟨w,hw,rfl⟩:=hc
     obtain ⟨t',y',g0,g1,g2,g3⟩:=kjL hval u x.2 (o-t.wd) m ag hd.2 hw
     refine ⟨t',y',g0,g1,by omega,?_⟩
     show t.enc x.1++u.enc w=_
     rw [List.take_append,jbr (by omega),List.drop_append,jbq (by omega),jba]
     have e1:o-(t.enc x.1).length=o-t.wd:=by omega
     have e2:o+m-(t.enc x.1).length=o-t.wd+m:=by omega
     rw [e1,e2,jau,jau,<-jau ((u.enc x.2).take _),g3]
    ·cases hc
 | .w t,x,o,m,ag,y,hd,hc=>by
  simp only [setC] at hc
  split at hc
  ·rename_i hh
   obtain ⟨rfl,rfl,rfl⟩:=hh
   have hlen:=kaf (.w t) x hd
   have l2:=kaf _ y (hval _ _ hc)
   simp only [Ty.wd] at l2 hlen
   refine ⟨_,y,hc,l2,by simp [Ty.wd],?_⟩
   rw [jdi,jba,jcb,jbq (by omega),jbd]
  ·simp only [jab] at hc
   obtain ⟨w,hw,rfl⟩:=hc
   exact kjL hval t x o m ag hd hw
 | .i _,x,o,m,ag,y,hd,hc | .b,x,o,m,ag,y,hd,hc | .s,x,o,m,ag,y,hd,hc | .un,x,o,m,ag,y,hd,hc
 | .sl _,x,o,m,ag,y,hd,hc | .pt _,x,o,m,ag,y,hd,hc | .op _,x,o,m,ag,y,hd,hc | .ar _ _,x,o,m,ag,y,hd,hc=>by
  simp only [setC] at hc
  split at hc
  ·rename_i hh
   obtain ⟨rfl,rfl,rfl⟩:=hh
   have hlen:=kaf _ x hd
   have l2:=kaf _ y (hval _ _ hc)
   refine ⟨_,y,hc,l2,by omega,?_⟩
   rw [jdi,jba,jcb,jbq (by omega),jbd]
  ·cases hc
 | .nt,x,o,m,ag,y,hd,hc=>by simp [Ty.dat] at hd
 | .sm _ _,x,o,m,ag,y,hd,hc=>by simp [Ty.dat] at hd
 | .fn _ _ _,x,o,m,ag,y,hd,hc=>by simp [Ty.dat] at hd
theorem kxD {val:(t:Ty)->Option t.den} (hval:∀ t y,val t=some y->t.dat=true) (t:Ty) (x:t.den) (o m:Nat) (ag:Bool) {y:t.den} (hd:t.dat=true) (hc:setC (A:=sem) val t x o m ag=some y) (j:Nat) (hj:o+m<=j\/j<o):(t.enc y)[j]?=(t.enc x)[j]?:=by
 obtain ⟨t',y',g0,g1,g2,g3⟩:=kjL hval t x o m ag hd hc
 have hlen:=kaf t x hd
 rw [g3]
 rcases hj with hj | hj
 ·rw [jcf (by simp; omega),jaq]
  congr 1
  simp; omega
 ·rw [jau,jbl (by simp; omega),jdm hj]
theorem khF {t u:Ty} {j:Nat} {y y':t.den} {v:List u.den} (hd:t.dat=true) (hu:u.dat=true) (hr:rowS (A:=sem) t u j y v=some y'):j<t.wd/\t.enc y'=(t.enc y).set j (.sl (v.map u.enc)):=by
 unfold rowS at hr
 obtain ⟨t',w,g0,g1,g2,g3⟩:=kjL (val:=fun t'=>tcast (A:=sem) (t':=.sl u) t' v) (fun t' y hy=>by
  obtain ⟨e,_⟩:=kai hy
  rw [<-e]; exact hu) t y j 1 false hd hr
 obtain ⟨e,rfl⟩:=kai g0
 cases e
 refine ⟨by omega,?_⟩
 have hlen:=kaf t y hd
 rw [g3,List.set_eq_take_append_cons_drop,if_pos (by omega)]
 simp [Ty.enc]
theorem klW {val:(t:Ty)->Option t.den}:∀ (t:Ty) (x:t.den) (o m:Nat) (ag:Bool) {y:t.den},t.dat=true->setC (A:=sem) val t x o m ag=some y->∃ t' y',val t'=some y'/\t'.dat=true
 | .pr t u,x,o,m,ag,y,hd,hc=>by
  have hd':=hd
  simp only [Ty.dat,jac] at hd
  simp only [setC] at hc
  split at hc
  ·exact ⟨_,_,hc,hd'⟩
  ·split at hc
   ·simp only [jab] at hc
    obtain ⟨w,hw,_⟩:=hc
    exact klW t x.1 o m ag hd.1 hw
   ·split at hc
    ·simp only [jab] at hc
     obtain ⟨w,hw,_⟩:=hc
     exact klW u x.2 (o-t.wd) m ag hd.2 hw
    ·cases hc
 | .w t,x,o,m,ag,y,hd,hc=>by
  simp only [setC] at hc
  split at hc
  ·exact ⟨_,_,hc,hd⟩
  ·simp only [jab] at hc
   obtain ⟨w,hw,_⟩:=hc
   exact klW t x o m ag hd hw
 | .i _,x,o,m,ag,y,hd,hc | .b,x,o,m,ag,y,hd,hc | .s,x,o,m,ag,y,hd,hc | .un,x,o,m,ag,y,hd,hc
 | .sl _,x,o,m,ag,y,hd,hc | .pt _,x,o,m,ag,y,hd,hc | .op _,x,o,m,ag,y,hd,hc | .ar _ _,x,o,m,ag,y,hd,hc=>by
  simp only [setC] at hc
  split at hc
  ·exact ⟨_,_,hc,hd⟩
  ·cases hc
 | .nt,x,o,m,ag,y,hd,hc=>by simp [Ty.dat] at hd
 | .sm _ _,x,o,m,ag,y,hd,hc=>by simp [Ty.dat] at hd
 | .fn _ _ _,x,o,m,ag,y,hd,hc=>by simp [Ty.dat] at hd
theorem kur {t u:Ty} {j:Nat} {y y':t.den} {v:List u.den} (hd:t.dat=true) (hr:rowS (A:=sem) t u j y v=some y'):u.dat=true:=by
 obtain ⟨t',w,g0,g1⟩:=klW (val:=fun t'=>tcast (A:=sem) (t':=.sl u) t' v) t y j 1 false hd hr
 obtain ⟨e,_⟩:=kai g0
 rw [<-e] at g1; exact g1
theorem FamE.snap {w:Nat} {U:TypeId} {cs e:List AV} {rm:Option Nat×Nat} {j:Nat} (f:FamE z h j U w cs e rm) (hf:FreeL cs):∃ ys,cs[j]?=some (.sl ys)/\j<e.length/\rm.2=ys.length/\SnapL z (e.set j (.sl ys)) cs:=by
 obtain ⟨h1,h2,ys,h3,h4,h5⟩:=f
 have hj:=(jad.1 h3).1
 refine ⟨ys,h3,by omega,h4,SnapL.of_at (by simp [h1]) fun p b b' hp hp'=>?_⟩
 by_cases hpj:p=j
 ·subst hpj
  rw [h3] at hp'; cases hp'
  rw [jbs (by omega)] at hp; cases hp
  exact .free _ (hf _ (jag h3))
 ·rw [jbf (fun e=>hpj e.symm)] at hp
  exact h2 p b b' hpj hp hp'
theorem FamE.row {w:Nat} {U:TypeId} {cs e:List AV} {rm:Option Nat×Nat} {j:Nat} (f:FamE z h j U w cs e rm) {ys:List (List AV)} (hc:cs[j]?=some (.sl ys)):rm.2=ys.length/\((rm.1=none/\e[j]?=some nilS/\ys=[])\/∃ r es,rm.1=some r/\e[j]?=some (.ms r 0 rm.2)/\h r=some (.cells w U es)/\SnapE z es ys/\∀ x∈es,x.length=w/\∀ a∈x,a.one=true):=by
 obtain ⟨h1,h2,ys',h3,h4,h5⟩:=f
 rw [hc] at h3; cases h3
 obtain ⟨r,m⟩:=rm
 cases r with
 | none=>exact ⟨h4,.inl ⟨rfl,h5.1,h5.2⟩⟩
 | some r=>
  obtain ⟨g1,es,g2,g3,g4⟩:=h5
  exact ⟨h4,.inr ⟨r,es,rfl,g1,g2,g3,g4⟩⟩
end
section
variable {P:Program} {κ κ':Nat->Option Nat} {ln ln':Nat->Nat} {z z':AH} {c:Cx sem} {s:TS sem} {env:Env} {h h':AH} {n n' N N':Nat} {id:Nat}
variable {ρ:Ty} {Kf:TV sem->TS sem->sem.Ans ρ} {r:ρ.den}
variable {d:Option Tmp} {ty:TypeId} {pos:String} {after:Array Edge} {g:Option (Nat×Bool)}
theorem TVRs.set {vs:List (TV sem)} {as:List AV} (hs:TVRs P κ ln z N vs as) {v:TV sem} {a:AV} (hv:TVR P κ ln z N v a) (j:Nat):TVRs P κ ln z N (vs.set j v) (as.set j a):=by
 induction vs generalizing as j with
 | nil=>cases hs; exact .nil
 | cons v0 vs ih=>
  cases hs with
  | cons _ a0 _ as0 h0 hs0=>
   cases j with
   | zero=>exact .cons _ _ _ _ hv hs0
   | succ j=>exact .cons _ _ _ _ h0 (ih hs0 j)
theorem kue (R:Rel P κ ln z c s env h n) {T:TypeId} {x i:Operand} {w:TV sem} (hv:TVR P κ ln z s.n (.fw id) (ev env x)) (hw:TVR P κ ln z s.n w (ev env i)) (hk:ktY P c s T id w Kf=some r):Res P κ ln z c s env h n ⟨d,.indexAddr T x i,ty,pos,after,g⟩ Kf r:=by
 unfold ktY at hk
 split at hk
 ·rename_i i' T' t j U u l ho e hi hB he
  split at hk
  ·rename_i hc
   simp only [jaa] at hk
   obtain ⟨y,hy,hk⟩:=hk
   obtain ⟨hd,h0,_,q,es,e',rm,hq,hh,he',hr,_⟩:=R.famAt hB hy
   have hlt:=(jad.1 hr).1
   have hi':=hw.i64_inv hi
   generalize hx:ev env x=a at hv
   cases hv with
   | fw0 _ _ hk0=>rw [hq] at hk0; cases hk0
   | fw _ q' hN hq'=>
    rw [hq] at hq'; cases hq'
    refine R.q (fun K hk=>?_) (.fo id i' 0 q hN hq h0 hlt) hk
    simp only [aop,hx,hi',kct,he,hh]
    exact ⟨h0,by omega,hc.1,hc.2,by simpa using hk⟩
  ·exact kaa hk
 ·exact kaa hk
theorem TVR.fr_inv {i:Int} {a:AV} (hv:TVR P κ ln z N (.fr id i) a):id<N/\0<=i/\((∃ m,(kac (ln id))[i.toNat]?=some (none,m)/\a=nilS)\/∃ r m,(kac (ln id))[i.toNat]?=some (some r,m)/\a = .ms r 0 m):=by
 cases hv with
 | fr0 _ _ m hN h0 h=>exact ⟨hN,h0,.inl ⟨m,h,rfl⟩⟩
 | fr _ _ r m hN h0 h=>exact ⟨hN,h0,.inr ⟨r,m,h,rfl⟩⟩
theorem kug (R:Rel P κ ln z c s env h n) {T:TypeId} {x i:Operand} {a:Int} {w:TV sem} (hv:TVR P κ ln z s.n (.fr id a) (ev env x)) (hw:TVR P κ ln z s.n w (ev env i)) (hk:kut P c s T id a w Kf=some r):Res P κ ln z c s env h n ⟨d,.indexAddr T x i,ty,pos,after,g⟩ Kf r:=by
 unfold kut at hk
 split at hk
 ·rename_i k T' t j U u l e hi hB he
  split at hk
  ·rename_i hc
   simp only [jaa] at hk
   obtain ⟨y,hy,hk⟩:=hk
   split at hk
   ·rename_i ys hys
    simp only [jaa] at hk
    obtain ⟨w',hw',hk⟩:=hk
    obtain ⟨hd,h0,_,q,es,e',rm,hq,hh,he',hr,hf,_⟩:=R.famAt hB hy
    obtain ⟨k0,k1,k2⟩:=kfE hw'
    have hi':=hw.i64_inv hi
    obtain ⟨hu,hj,hcj⟩:=kes hd hys
    obtain ⟨f1,f2⟩:=(hf (by simp)).row hcj
    rw [jar] at f1
    obtain ⟨hN,a0,⟨m,g1,g2⟩ | ⟨r',m,g1,g2⟩⟩:=hv.fr_inv
    ·rw [hr] at g1; cases g1
     rcases f2 with ⟨_,_,f3⟩ | ⟨r2,es',f3,_⟩
     ·rw [jdl] at f3; subst f3; simp at k1
     ·cases f3
    ·rw [hr] at g1; cases g1
     rcases f2 with ⟨f3,_⟩ | ⟨r2,es',f3,f4,f5,f6,f7⟩
     ·cases f3
     ·cases f3
      refine R.q (fun K hk=>?_) (.fa id a k 0 r' m hN a0 hr k0 (by simp only at f1; omega)) hk
      simp only [aop,g2,hi',kct,he,f5]
      exact ⟨k0,by simp only at f1; omega,hc.1,hc.2,by simpa using hk⟩
   ·exact kaa hk
  ·exact kaa hk
 ·exact kaa hk
theorem ktk (R:Rel P κ ln z c s env h n) {T:TypeId} {x:Operand} {i:Int} {j f:Nat} (hv:TVR P κ ln z s.n (.fo id i j) (ev env x)) (hk:kuc P c s T id i j f Kf=some r):Res P κ ln z c s env h n ⟨d,.fieldAddr T x f,ty,pos,after,g⟩ Kf r:=by
 unfold kuc at hk
 split at hk
 ·exact kaa hk
 ·rename_i d' ft hf
  split at hk
  ·rename_i hany
   obtain ⟨B,hB,hcb⟩:=(jcm _ _).1 hany
   generalize hx:ev env x=a at hv
   cases hv with
   | fo _ _ _ q hN hq h0 h1=>
    refine R.q (fun K hk=>?_) (.fo id i (j+d') q hN hq h0 h1) hk
    simp only [aop,hf,hx]
    exact ⟨kne R hB hq (by cases B <;> simp_all [TB.isF,kdp]),hk⟩
  ·exact kaa hk
theorem Rel.rowAt (R:Rel P κ ln z c s env h n) {B:TB sem} (hB:thp c s id=some B) (hf:B.isF=true) {i rr m:Nat} (hr:(kac (ln id))[i]?=some (some rr,m)):∃ k U es,h rr=some (.cells k U es):=by
 cases B <;> simp only [TB.isF,jaj] at hf
 obtain ⟨i',m',x,e,g1,g2,g3,_,_,ys,_,_,g4,es',g5,g6,g7⟩:=(R.blk _ _ hB).row (kay hr)
 exact ⟨_,_,_,g5⟩
theorem kuv (R:Rel P κ ln z c s env h n) {T:TypeId} {x:Operand} {a k:Int} {j f:Nat} (hv:TVR P κ ln z s.n (.fa id a k j) (ev env x)) (hk:ksv P c s T id a k j f Kf=some r):Res P κ ln z c s env h n ⟨d,.fieldAddr T x f,ty,pos,after,g⟩ Kf r:=by
 unfold ksv at hk
 split at hk
 ·exact kaa hk
 ·rename_i d' ft hf
  split at hk
  ·rename_i hany
   obtain ⟨B,hB,hcb⟩:=(jcm _ _).1 hany
   generalize hx:ev env x=a at hv
   cases hv with
   | fa _ _ _ _ rr m hN h0 h1 h2 h3=>
    refine R.q (fun K hk=>?_) (.fa id _ k (j+d') rr m hN h0 h1 h2 h3) hk
    obtain ⟨_,_,_,hc⟩:=R.rowAt hB hcb h1
    simp only [aop,hf,hx,hc]
    exact ⟨rfl,hk⟩
  ·exact kaa hk
theorem ksy (R:Rel P κ ln z c s env h n) {T:TypeId} {x:Operand} (hv:TVR P κ ln z s.n (.fw id) (ev env x)) (hk:ksF P c s T id Kf=some r):Res P κ ln z c s env h n ⟨d,.call ⟨.builtin .len,#[x],#[T]⟩,ty,pos,after,g⟩ Kf r:=by
 unfold ksF at hk
 split at hk
 ·rename_i T' t j U u l ho e hB he
  generalize hx:ev env x=a at hv
  cases R.blk _ _ hB with
  | fm0 _ _ _ _ _ _ _ hd hq hl hn=>
   subst hl
   cases hv with
   | fw0=>
    refine R.q (fun K hk=>?_) (.int _ _) hk
    simp only [aop,kah,hx,lenK,he]
    exact ⟨rfl,hk⟩
   | fw _ q' hN hq'=>rw [hq] at hq'; cases hq'
  | fm _ _ _ _ _ _ _ q es hd hq hh hn hl hv0 hh0 h1=>
   cases hv with
   | fw0 _ _ hk0=>rw [hq] at hk0; cases hk0
   | fw _ q' hN hq'=>
    rw [hq] at hq'; cases hq'
    refine R.q (fun K hk=>?_) (.int _ _) hk
    simp only [aop,kah,hx,lenK,he,hh]
    rw [<-hn]; exact ⟨rfl,rfl,fun _=>hk⟩
 ·exact kaa hk
theorem ktI (R:Rel P κ ln z c s env h n) {T:TypeId} {x:Operand} {a:Int} (hv:TVR P κ ln z s.n (.fr id a) (ev env x)) (hk:kui P c s T id a Kf=some r):Res P κ ln z c s env h n ⟨d,.call ⟨.builtin .len,#[x],#[T]⟩,ty,pos,after,g⟩ Kf r:=by
 unfold kui at hk
 split at hk
 ·rename_i T' t j U u l e hB he
  simp only [jaa] at hk
  obtain ⟨y,hy,hk⟩:=hk
  split at hk
  ·rename_i ys hys
   obtain ⟨hd,h0,_,q,es,e',rm,hq,hh,he',hr,hf,_⟩:=R.famAt hB hy
   obtain ⟨hu,hj,hcj⟩:=kes hd hys
   obtain ⟨f1,f2⟩:=(hf (by simp)).row hcj
   rw [jar] at f1
   obtain ⟨hN,a0,⟨m,g1,g2⟩ | ⟨r',m,g1,g2⟩⟩:=hv.fr_inv
   ·rw [hr] at g1; cases g1
    rcases f2 with ⟨_,_,f3⟩ | ⟨r2,es',f3,_⟩
    ·rw [jdl] at f3; subst f3
     refine R.q (fun K hk=>?_) (.int _ _) hk
     simp only [aop,kah,g2,lenK,he]
     exact ⟨rfl,hk⟩
    ·cases f3
   ·rw [hr] at g1; cases g1
    rcases f2 with ⟨f3,_⟩ | ⟨r2,es',f3,f4,f5,f6,f7⟩
    ·cases f3
    ·cases f3
     refine R.q (fun K hk=>?_) (.int _ _) hk
     simp only [aop,kah,g2,lenK,he,f5]
     simp only at f1
     rw [f1]; exact ⟨rfl,rfl,fun _=>hk⟩
  ·exact kaa hk
 ·exact kaa hk
theorem kwQ (R:Rel P κ ln z c s env h n) {T:TypeId} {x:Operand} {t:Ty} {y:t.den} {o:Nat} {ag:Bool} {cs D:List AV} (hd:t.dat=true) (hag:aggO P T=some ag) (hs:SnapL z cs (t.enc y)) (hp:deref h (ev env x)=some D) (hD:D.take (P.cellsOf T)=(cs.drop o).take (P.cellsOf T)) (hl:o+P.cellsOf T<=t.wd->P.cellsOf T<=D.length)
  (hk:partX t y o (P.cellsOf T) ag (fun v=>Kf v s)=some r):Res P κ ln z c s env h n ⟨d,.load T x,ty,pos,after,g⟩ Kf r:=by
 unfold partX at hk
 split at hk
 ·rename_i p hc
  obtain ⟨t',y'⟩:=p
  obtain ⟨g1,g2,g3,g4,g5⟩:=kia t y o _ ag hd hc
  have h1:=(hs.drop o).take (P.cellsOf T)
  rw [g5,<-hD] at h1
  obtain ⟨a,k1,k2,k3⟩:=kls (P:=P) (κ:=κ) (ln:=ln) (N:=s.n) g1 g2 g3 h1 (hl g4)
  refine R.q (fun K hk=>?_) k1 hk
  simp only [aop,hp,loadK,hag]
  cases ag with
  | true=>refine ⟨hl g4,?_⟩; rw [<-k2 rfl]; exact hk
  | false=>exact ⟨a,k3 rfl,hk⟩
 ·exact kaa hk
theorem kso (R:Rel P κ ln z c s env h n) {T:TypeId} {x:Operand} {a k:Int} {o:Nat} (hv:TVR P κ ln z s.n (.fa id a k o) (ev env x)) (hk:kqW P c s T id a k o Kf=some r):Res P κ ln z c s env h n ⟨d,.load T x,ty,pos,after,g⟩ Kf r:=by
 unfold kqW at hk
 split at hk
 ·rename_i ag T' t j U u l hag hB
  simp only [jaa] at hk
  obtain ⟨y,hy,hk⟩:=hk
  split at hk
  ·rename_i ys hys
   simp only [jaa] at hk
   obtain ⟨w',hw',hk⟩:=hk
   obtain ⟨hd,h0,_,q,es,e',rm,hq,hh,he',hr,hf,_⟩:=R.famAt hB hy
   obtain ⟨k0,k1,k2⟩:=kfE hw'
   obtain ⟨hu,hj,hcj⟩:=kes hd hys
   obtain ⟨f1,f2⟩:=(hf (by simp)).row hcj
   rw [jar] at f1
   generalize hx:ev env x=av at hv
   cases hv with
   | fa _ _ _ _ rr m hN a0 g1 g2 g3=>
    rw [hr] at g1; cases g1
    rcases f2 with ⟨f3,_⟩ | ⟨r2,es',f3,f4,f5,f6,f7⟩
    ·cases f3
    ·cases f3
     obtain ⟨e2,h2,h3⟩:=f6.at (kll k1)
     have hp:=knf (env:=env) hx f5 h2
     exact klz R hu hag rfl h3 hp hk
  ·exact kaa hk
 ·exact kaa hk
theorem ksk {α:Type} {l:List α} {j o m:Nat} {a:α} (hc:o+m<=j\/j<o):((l.set j a).drop o).take m=(l.drop o).take m:=by
 apply List.ext_getElem?
 intro i
 rw [jbn,jbn]
 split
 ·rw [jaq,jaq,jbf (by omega)]
 ·rfl
theorem kss (R:Rel P κ ln z c s env h n) {T:TypeId} {x:Operand} {i:Int} {o:Nat} (hv:TVR P κ ln z s.n (.fo id i o) (ev env x)) (hk:kqF P c s T id i o Kf=some r):Res P κ ln z c s env h n ⟨d,.load T x,ty,pos,after,g⟩ Kf r:=by
 unfold kqF at hk
 split at hk
 ·rename_i ag T' t j U u l hag hB
  simp only [jaa] at hk
  obtain ⟨y,hy,hk⟩:=hk
  obtain ⟨hd,h0,_,q,es,e,rm,hq,hh,he,hr,hf,hn,hl,h1,_⟩:=R.famAt hB hy
  generalize hx:ev env x=av at hv
  cases hv with
  | fo _ _ _ q' hN hq' i0 i1=>
   rw [hq] at hq'; cases hq'
   have hp:=knf (env:=env) hx hh he
   obtain ⟨ys,f1,f2,f3,f4⟩:=(hf (by simp)).snap (kbl t y hd)
   obtain ⟨_,f5⟩:=(hf (by simp)).row f1
   have hel:=(h1 e (jag he)).1
   have row:∃ a,e[j]?=some a/\TVR P κ ln z s.n (.fr id i) a:=by
    obtain ⟨rr,m⟩:=rm
    rcases f5 with ⟨g1,g2,g3⟩ | ⟨r2,es',g1,g2,g3,g4,g5⟩
    ·simp only at g1; subst g1
     exact ⟨_,g2,.fr0 id i m hN h0 hr⟩
    ·simp only at g1; subst g1
     exact ⟨_,g2,.fr id i r2 m hN h0 hr⟩
   obtain ⟨a,ha,hta⟩:=row
   split at hk
   ·rename_i hc
    obtain ⟨rfl,rfl⟩:=hc
    refine R.q (fun K hk=>?_) hta hk
    simp only [aop,hp,loadK,hag]
    exact ⟨a,by rw [jaq]; exact ha,hk⟩
   ·split at hk
    ·rename_i hc
     exact kwQ R hd hag f4 hp (ksk hc).symm (fun hle=>by simp; omega) hk
    ·split at hk
     ·rename_i hc
      obtain ⟨rfl,hna,hle⟩:=hc
      have hts:=(kft (P:=P) (κ:=κ) (ln:=ln) (N:=s.n) t y _ hd hna f4).set hta j
      rw [List.set_set,show e.set j a=e by
       apply List.ext_getElem?
       intro p
       by_cases hpj:p=j
       ·subst hpj; rw [jbs (by omega),ha]
       ·rw [jbf (fun e=>hpj e.symm)]] at hts
      refine R.q (fun K hk=>?_) (.ag _ _ ((hts.drop o).take (P.cellsOf T)) (fun b hb=>(h1 e (jag he)).2 b (jda (jco hb)))) hk
      simp only [aop,hp,loadK,hag]
      exact ⟨by simp; omega,hk⟩
     ·exact kaa hk
 ·exact kaa hk
end
theorem kjo {α β:Type} {f:α->Option β} {x:β} {p:α}:∀ {l:List α} {a:Nat},x∈(l.set a p).filterMap f->x∈l.filterMap f\/f p=some x
 | [],a,h=>by simp at h
 | y::l,0,h=>by
  rw [List.set_cons_zero,jce] at h
  obtain ⟨w,hw,he⟩:=h
  rcases jbu.1 hw with rfl | hw
  ·exact .inr he
  ·exact .inl (jce.2 ⟨w,jbb _ hw,he⟩)
 | y::l,a+1,h=>by
  rw [List.set_cons_succ,jce] at h
  obtain ⟨w,hw,he⟩:=h
  rcases jbu.1 hw with rfl | hw
  ·exact .inl (jce.2 ⟨w,jdb ..,he⟩)
  ·rcases kjo (jce.2 ⟨w,hw,he⟩) with h1 | h1
   ·obtain ⟨w',hw',he'⟩:=jce.1 h1
    exact .inl (jce.2 ⟨w',jbb _ hw',he'⟩)
   ·exact .inr h1
theorem khB {α β:Type} {f:α->Option β} {p:α}:∀ {l:List α} {a:Nat},(l.filterMap f).Nodup->(∀ x,f p=some x->x∉l.filterMap f)->((l.set a p).filterMap f).Nodup
 | [],a,h,_=>by simp
 | y::l,0,h,hp=>by
  have hl:(l.filterMap f).Nodup:=by
   rw [jcn] at h
   split at h
   ·exact h
   ·exact (jcv.1 h).2
  rw [List.set_cons_zero,jcn]
  split
  ·exact hl
  ·rename_i x hx
   refine jcv.2 ⟨fun hm=>hp x hx ?_,hl⟩
   rw [jcn]
   split
   ·exact hm
   ·exact jbb _ hm
 | y::l,a+1,h,hp=>by
  rw [List.set_cons_succ,jcn]
  rw [jcn] at h
  have hp':∀ x,f p=some x->x∉l.filterMap f:=fun x hx hm=>hp x hx (by
   rw [jcn]
   split
   ·exact hm
   ·exact jbb _ hm)
  split
  ·rename_i hn
   rw [hn] at h
   exact khB h hp'
  ·rename_i b hb
   rw [hb] at h
   obtain ⟨h1,h2⟩:=jcv.1 h
   refine jcv.2 ⟨fun hm=>?_,khB h2 hp'⟩
   rcases kjo hm with h3 | h3
   ·exact h1 h3
   ·refine hp b h3 ?_
    rw [jcn,hb]
    exact jdb ..
theorem kkM {α β:Type} {f:α->Option β} {x:β} {u v:α}:∀ {l:List α} {i j:Nat},(l.filterMap f).Nodup->l[i]?=some u->l[j]?=some v->f u=some x->f v=some x->i=j
 | [],i,j,h,hi,_,_,_=>by simp at hi
 | y::l,i,j,h,hi,hj,hu,hv=>by
  rw [jcn] at h
  cases i with
  | zero=>
   simp at hi; subst hi
   cases j with
   | zero=>rfl
   | succ j=>
    rw [jbz] at hj
    rw [hu] at h
    exact absurd (jce.2 ⟨v,jag hj,hv⟩) (jcv.1 h).1
  | succ i=>
   rw [jbz] at hi
   cases j with
   | zero=>
    simp at hj; subst hj
    rw [hv] at h
    exact absurd (jce.2 ⟨u,jag hi,hu⟩) (jcv.1 h).1
   | succ j=>
    rw [jbz] at hj
    have h':(l.filterMap f).Nodup:=by
     split at h
     ·exact h
     ·exact (jcv.1 h).2
    rw [kkM h' hi hj hu hv]
theorem kmP (l:List (Option Nat×Nat)):kam (codeR l)=l.filterMap (·.1):=by unfold kam; rw [kbq]
section
variable {P:Program} {κ κ':Nat->Option Nat} {ln ln':Nat->Nat} {z z':AH} {c:Cx sem} {s:TS sem} {env:Env} {h h':AH} {n n' N N':Nat} {id:Nat}
variable {ρ:Ty} {Kf:TV sem->TS sem->sem.Ans ρ} {r:ρ.den}
variable {d:Option Tmp} {ty:TypeId} {pos:String} {after:Array Edge} {g:Option (Nat×Bool)}
theorem BR.fmSet {q a j:Nat} {T U:TypeId} {t u:Ty} {l:List t.den} {es:List (List AV)} {y':t.den} {e':List AV} {ho:Option Int} (hd:t.dat=true) (hq:κ id=some q) (hh:h' q=some (.cells t.wd T (es.set a e'))) (hn:l.length=(kac (ln id)).length) (hl:es.length=l.length)
  (hv:∀ (i:Nat) (x:t.den) (e:List AV) (rm:Option Nat×Nat),l[i]?=some x->es[i]?=some e->(kac (ln id))[i]?=some rm->ho≠some (i:Int)->FamE z h j U u.wd (t.enc x) e rm) (hho:∀ i:Nat,ho=some (i:Int)->i=a)
  (hn':(kac (ln' id)).length=(kac (ln id)).length) (hrow:∀ i,i≠a->(kac (ln' id))[i]?=(kac (ln id))[i]?) (hh':∀ (i r m:Nat) (B:ABlk),i≠a->(kac (ln id))[i]?=some (some r,m)->h r=some B->h' r=some B)
  (hnew:∀ rm,(kac (ln' id))[a]?=some rm->FamE z h' j U u.wd (t.enc y') e' rm) (h1:∀ e∈es,e.length=t.wd/\∀ a∈e,a.one=true) (he':e'.length=t.wd/\∀ a∈e',a.one=true):BR P κ ln' z h' N id (.fm T t j U u (l.set a y') none):=by
 refine .fm T t j U u (l.set a y') none q (es.set a e') hd hq hh (by rw [jcd,hn,hn']) (by simp [hl]) (fun i x e rm hx he hr _=>?_) (fun i rm hi=>by cases hi) (fun e he=>?_)
 ·by_cases hia:i=a
  ·subst hia
   rw [jbs (by have:=(jad.1 hx).1; rwa [jcd] at this)] at hx
   rw [jbs (by have:=(jad.1 he).1; rwa [jcd] at this)] at he
   cases hx; cases he
   exact hnew rm hr
  ·rw [jbf (fun e=>hia e.symm)] at hx he
   rw [hrow i hia] at hr
   refine (hv i x e rm hx he hr (fun e=>hia (hho i e))).mono (fun _ _ h=>h) fun r B hr' hB=>?_
   obtain ⟨r',m⟩:=rm
   simp only at hr'; subst hr'
   exact hh' i r m B hia hr hB
 ·rcases List.mem_or_eq_of_mem_set he with he | rfl
  ·exact h1 e he
  ·exact he'
theorem snapC (R:Rel P κ ln z c s env h n) {x:Operand} {v:TV sem} (hv:TVR P κ ln z s.n v (ev env x)) {xs:List AV} (hxs:kax (ev env x)=some xs) (t:Ty) (y:t.den) (hy:((snapV (A:=sem) c s t v).bind fun y=>if y.2.isEmpty then some y.1 else none)=some y):t.dat=true/\SnapL z xs (t.enc y):=by
 simp only [jaa] at hy
 obtain ⟨⟨w,ids⟩,hw,hy⟩:=hy
 split at hy
 ·rename_i hem
  cases hy
  obtain rfl:=jcp.1 hem
  obtain ⟨xs',h1,h2,h3⟩:=kfN R hv hw
  rw [hxs] at h1; cases h1
  rw [kbe] at h2
  exact ⟨h3,h2⟩
 ·cases hy
theorem kqe (R:Rel P κ ln z c s env h n) {x:Operand} {v:TV sem} (hv:TVR P κ ln z s.n v (ev env x)) {t:Ty} {y y':t.den} {o m:Nat} {ag:Bool} {e:List AV} (hm:m≠0) (hd:t.dat=true) (hs:SnapL z e (t.enc y)) (hk:setC (A:=sem) (fun t=>(snapV c s t v).bind fun y=>if y.2.isEmpty then some y.1 else none) t y o m ag=some y') :
  ∃ xs,kax (ev env x)=some xs/\xs.length=m/\o+m<=e.length/\SnapL z (e.take o++xs++e.drop (o+m)) (t.enc y'):=by
 cases hca:kax (ev env x) with
 | some xs=>exact ⟨xs,rfl,kcE (snapC R hv hca) t y o m ag e hd hk hs⟩
 | none=>
  exfalso
  have:=kcE (z:=z) (xs:=[]) (val:=fun t=>(snapV (A:=sem) c s t v).bind fun y=>if y.2.isEmpty then some y.1 else none) (fun t y hy=>by
   simp only [jaa] at hy
   obtain ⟨⟨w,ids⟩,hw,hy⟩:=hy
   obtain ⟨xs',h1,h2,h3⟩:=kfN R hv hw
   rw [hca] at h1; cases h1) t y o m ag e hd hk hs
  simp at this
  omega
theorem Rel.famNums (R:Rel P κ ln z c s env h n) {B:TB sem} (hB:thp c s id=some B) (hf:B.isF=true):(kam (ln id)).Nodup:=(R.fam id B hB hf).1
theorem kqO (R:Rel P κ ln z c s env h n) {T:TypeId} {p x:Operand} {a k:Int} {o:Nat} {v:TV sem} (hu:TVR P κ ln z s.n (.fa id a k o) (ev env p)) (hv:TVR P κ ln z s.n v (ev env x)) (hk:kpd P c s T id a k o v Kf=some r):Res P κ ln z c s env h n ⟨d,.store T p x,ty,pos,after,g⟩ Kf r:=by
 unfold kpd at hk
 split at hk
 ·rename_i ag T' t j U u l hag hB
  replace hB:=kcK hB
  split at hk
  ·exact kaa hk
  ·rename_i hm0
   simp only [jaa] at hk
   obtain ⟨y,hy,hk⟩:=hk
   split at hk
   ·rename_i ys hys
    simp only [jaa] at hk
    obtain ⟨w',hw',hk⟩:=hk
    split at hk
    ·rename_i x' hx'
     split at hk
     ·rename_i y' hy'
      obtain ⟨hd,h0,hl0,q,es,e',rm,hq,hh,he',hr,hf,hn,hl,h1,hvv,_⟩:=R.famAt (kab hB) hy
      obtain ⟨k0,k1,k2⟩:=kfE hw'
      obtain ⟨hu',hj,hcj⟩:=kes hd hys
      have f:=hf (by simp)
      obtain ⟨f1,f2⟩:=f.row hcj
      rw [jar] at f1
      generalize hx:ev env p=av at hu
      cases hu with
      | fa _ _ _ _ rr m hN a0 g1 g2 g3=>
       rw [hr] at g1; cases g1
       rcases f2 with ⟨f3,_⟩ | ⟨r2,es',f3,f4,f5,f6,f7⟩
       ·cases f3
       ·cases f3
        obtain ⟨e2,h2,h3⟩:=f6.at (kll k1)
        have hel:=(f7 e2 (jag h2)).1
        obtain ⟨xs,hxs,c1,c2,c3⟩:=kqe R hv hm0 hu' h3 hx'
        obtain ⟨_,hs'⟩:=khF hd hu' hy'
        have how:Ow κ ln id (TB.fm T' t j U u l none) rr:=.inr ⟨rfl,kay hr⟩
        have hne:∀ q',κ id=some q'->q'≠rr:=fun q' hq' e=>((R.fam id _ (kab hB) rfl).2 rr (kay hr)).2.2.1 id _ (kab hB) (by rw [hq',e])
        have hset:es.set a.toNat e'=es:=by
         apply List.ext_getElem?
         intro p
         by_cases hpa:p=a.toNat
         ·subst hpa; rw [jbs (jad.1 he').1,he']
         ·rw [jbf (fun e=>hpa e.symm)]
        have hnew:BR P κ ln z (updH h rr (.cells u.wd U (es'.set k.toNat (putAt e2 o xs)))) s.n id (.fm T' t j U u (lset l a y') none):=by
         unfold lset
         refine BR.fmSet (e':=e') hd hq (by rw [hset]; unfold updH; rw [if_neg (hne q hq)]; exact hh) hn hl hvv (fun i e=>by cases e) rfl (fun _ _=>rfl) (fun i r m B hi hr' hB'=>?_) (fun rm hrm=>?_) h1 (h1 e' (jag he'))
         ·unfold updH
          rw [if_neg]
          ·exact hB'
          ·rintro rfl
           exact hi (kkM (R.famNums (kab hB) rfl) hr' hr rfl rfl)
         ·rw [hr] at hrm; cases hrm
          obtain ⟨w1,w2,w3⟩:=f
          have hcl:j<(t.enc y).length:=(jad.1 hcj).1
          refine ⟨by rw [hs',jcd]; exact w1,fun p b b' hp hb hb'=>?_,_,by rw [hs',jbs hcl],by simp [lset]; exact f1,f4,es'.set k.toNat (putAt e2 o xs),if_pos rfl,?_,fun x hx=>?_⟩
          ·rw [hs',jbf (fun e=>hp e.symm)] at hb'
           exact w2 p b b' hp hb hb'
          ·unfold lset
           rw [List.map_set,kbx (by omega),c1]
           exact knt f6 c3
          ·rcases List.mem_or_eq_of_mem_set hx with hx | rfl
           ·exact f7 x hx
           ·rw [kbx (by omega),c1]
            refine ⟨by simp; omega,c3.one_rev (kaQ u x' hu')⟩
        exact ⟨.ud,_,.ud,_,_,κ,ln,z,fun K hk=>by
         simp only [aop,hx,kbz,f5,hxs,h2]
         exact ⟨c1,by omega,by omega,hk⟩,hk,R.setO hB how hnew (fun _=>rfl),.ud,jah _,fun _ _=>⟨rfl,fun _=>rfl⟩,fun hc=>by cases hc⟩
     ·exact kaa hk
    ·exact kaa hk
   ·exact kaa hk
 ·exact kaa hk
theorem kyc {e xs:List AV} {j o:Nat} {b:AV} (hc:o+xs.length<=j\/j<o) (hle:o+xs.length<=e.length):(e.set j b).take o++xs++(e.set j b).drop (o+xs.length)=(e.take o++xs++e.drop (o+xs.length)).set j b:=by
 apply List.ext_getElem?
 intro p
 by_cases hp:p=j
 ·subst hp
  by_cases hl:p<e.length
  ·rw [jbs (by simp; omega)]
   rcases hc with hc | hc
   ·rw [jcf (by simp; omega),jaq]
    simp only [jbg,jbh,jcd]
    rw [show o+xs.length+(p-(min o e.length+xs.length))=p by omega,jbs hl]
   ·rw [jau,jbl (by simp; omega),jdm (by omega),jbs hl]
  ·rw [jdv (by simp; omega),jdv (by simp; omega)]
 ·rw [jbf (fun e=>hp e.symm)]
  rw [jbm,jbm,jbm,jbm]
  simp only [jbg,jbh,jcd]
  by_cases h1:p<min o e.length
  ·rw [if_pos (by omega),if_pos (by omega),if_pos (by omega),if_pos (by omega),jdm (by omega),jdm (by omega),jbf (fun e=>hp e.symm)]
  ·by_cases h2:p<min o e.length+xs.length
   ·rw [if_pos (by omega),if_neg (by omega),if_pos (by omega),if_neg (by omega)]
   ·rw [if_neg (by omega),if_neg (by omega),jaq,jaq,jbf (by omega)]
theorem ksu (R:Rel P κ ln z c s env h n) {T T' U:TypeId} {t u:Ty} {j:Nat} {l:List t.den} {p x:Operand} {i:Int} {o:Nat} {ag:Bool} {v:TV sem} (hu:TVR P κ ln z s.n (.fo id i o) (ev env p)) (hv:TVR P κ ln z s.n v (ev env x)) (hB:alk s.hp id=some (some (.fm T' t j U u l none))) (hm0:P.cellsOf T≠0) (hc:o+P.cellsOf T<=j\/j<o) {y y':t.den} (hy:gi l i=some y)
  (hy':setC (A:=sem) (fun t=>(snapV c s t v).bind fun y=>if y.2.isEmpty then some y.1 else none) t y o (P.cellsOf T) ag=some y') (hk:setB (A:=sem) s id (.fm T' t j U u (lset l i y') none) Kf=some r):Res P κ ln z c s env h n ⟨d,.store T p x,ty,pos,after,g⟩ Kf r:=by
 obtain ⟨hd,h0,hl0,q,es,e,rm,hq,hh,he,hr,hf,hn,hl,h1,hvv,_⟩:=R.famAt (kab hB) hy
 have f:=hf (by simp)
 obtain ⟨ys,f1,f2,f3,f4⟩:=f.snap (kbl t y hd)
 have hel:=(h1 e (jag he)).1
 obtain ⟨xs,hxs,c1,c2,c3⟩:=kqe R hv hm0 hd f4 hy'
 rw [jcd] at c2
 rw [<-c1,kyc (by omega) (by omega)] at c3
 rw [<-c1] at hc
 generalize hx:ev env p=av at hu
 cases hu with
 | fo _ _ _ q' hN hq' i0 i1=>
  rw [hq] at hq'; cases hq'
  have hpl:(putAt e o xs).length=t.wd:=by rw [kbx (by omega)]; simp; omega
  have hpj:(putAt e o xs)[j]?=e[j]?:=by
   rw [kbx (by omega)]
   rcases hc with hc | hc
   ·rw [jcf (by simp; omega),jaq]
    congr 1
    simp
    omega
   ·rw [jau,jbl (by simp; omega),jdm (by omega)]
  have hcl:=c3.len
  rw [jcd] at hcl
  have hyj:(t.enc y')[j]?=some (.sl ys):=by
   have key:∀ (t:Ty) (x:t.den) (o m:Nat) (ag:Bool) {y:t.den},t.dat=true->setC (A:=sem) (fun t=>(snapV c s t v).bind fun y=>if y.2.isEmpty then some y.1 else none) t x o m ag=some y->∀ j,(o+m<=j\/j<o)->(t.enc y)[j]?=(t.enc x)[j]?:=by
    intro t x o m ag y hd hk j hj
    have hdv:∀ t' w,((snapV (A:=sem) c s t' v).bind fun y=>if y.2.isEmpty then some y.1 else none)=some w->t'.dat=true:=fun t' w hw=>by
     simp only [jaa] at hw
     obtain ⟨⟨w1,ids⟩,hw,_⟩:=hw
     unfold snapV at hw
     split at hw
     ·cases hw
     ·rename_i hdd; simpa using hdd
    exact kxD hdv t x o m ag hd hk j hj
   rw [key t y o _ ag hd hy' j (by omega)]; exact f1
  have hnew:BR P κ ln z (updH h q (.cells t.wd T' (es.set i.toNat (putAt e o xs)))) s.n id (.fm T' t j U u (lset l i y') none):=by
   unfold lset
   refine BR.fmSet (e':=putAt e o xs) hd hq (by simp [updH]) hn hl hvv (fun i e=>by cases e) rfl (fun _ _=>rfl) (fun i' r m B hi hr' hB'=>?_) (fun rm' hrm=>?_) h1 ⟨hpl,fun b hb=>?_⟩
   ·unfold updH
    rw [if_neg]
    ·exact hB'
    ·rintro rfl
     exact ((R.fam id _ (kab hB) rfl).2 r (kay hr')).2.2.1 id _ (kab hB) hq
   ·rw [hr] at hrm; cases hrm
    obtain ⟨g1,g2⟩:=f.row f1
    refine ⟨by rw [hpl,kaf t y' hd],fun p b b' hp hb hb'=>?_,ys,hyj,g1,?_⟩
    ·refine c3.at p b b' ?_ hb'
     rw [jbf (fun e=>hp e.symm),<-kbx (by omega)]; exact hb
    ·obtain ⟨rr,m⟩:=rm
     rcases g2 with ⟨k1,k2,k3⟩ | ⟨r2,es',k1,k2,k3,k4,k5⟩
     ·simp only at k1; subst k1
      exact ⟨by rw [hpj]; exact k2,k3⟩
     ·simp only at k1; subst k1
      refine ⟨by rw [hpj]; exact k2,es',?_,k4,k5⟩
      unfold updH
      rw [if_neg]
      ·exact k3
      ·rintro rfl
       exact ((R.fam id _ (kab hB) rfl).2 _ (kay hr)).2.2.1 id _ (kab hB) hq
   ·rw [kbx (by omega)] at hb
    obtain ⟨p,hp⟩:=jcz hb
    by_cases hpj':p=j
    ·subst hpj'
     rw [<-kbx (by omega),hpj] at hp
     exact (h1 e (jag he)).2 b (jag hp)
    ·have hone:=c3.one_rev (kaQ t y' hd)
     refine hone b (jag (i:=p) ?_)
     rw [jbf (fun e=>hpj' e.symm)]; exact hp
  exact ⟨.ud,_,.ud,_,_,κ,ln,z,fun K hk=>by
   simp only [aop,hx,kbz,hh,hxs,he]
   exact ⟨c1,by omega,by omega,hk⟩,hk,R.setO hB (.inl hq) hnew (fun _=>rfl),.ud,jah _,fun _ _=>⟨rfl,fun _=>rfl⟩,fun hc=>by cases hc⟩
end
section
variable {P:Program} {κ κ':Nat->Option Nat} {ln ln':Nat->Nat} {z z':AH} {c:Cx sem} {s:TS sem} {env:Env} {h h':AH} {n n' N N':Nat} {id:Nat}
variable {ρ:Ty} {Kf:TV sem->TS sem->sem.Ans ρ} {r:ρ.den}
variable {d:Option Tmp} {ty:TypeId} {pos:String} {after:Array Edge} {g:Option (Nat×Bool)}
theorem kxa {ho:Option Int} {i:Int} {K:sem.Ans ρ} (hk:holeX (A:=sem) ho i K=some r):K=some r/\∀ k:Int,ho=some k->k=i:=by
 unfold holeX at hk
 split at hk
 ·exact ⟨hk,fun k e=>by cases e⟩
 ·rename_i a
  simp only [jaa] at hk
  obtain ⟨_,hg,hk⟩:=hk
  unfold gsame at hg
  split at hg
  ·rename_i e; exact ⟨hk,fun k e'=>by cases e'; exact e⟩
  ·cases hg
theorem kmq (R:Rel P κ ln z c s env h n) {T T' U:TypeId} {t u:Ty} {j:Nat} {l:List t.den} {pv xv av:AV} {i:Int} {ho:Option Int} (hB:alk s.hp id=some (some (.fm T' t j U u l ho))) (hud:u.dat=true) (hc:c.has id=false)
  (hho:∀ k:Int,ho=some k->k=i) {y y' y0:t.den} {xs:List u.den} (hy:gi l i=some y) (hy':rowS (A:=sem) t u j y0 xs=some y')
  (hst:∀ q es e,κ id=some q->h q=some (.cells t.wd T' es)->es[i.toNat]?=some e->e.length=t.wd->(∀ b∈e,b.one=true)->0<=i->
   (ho=none->∀ p b b',p≠j->e[p]?=some b->(t.enc y)[p]?=some b'->Snap z b b')->
   ∃ e',e'.length=t.wd/\(∀ b∈e',b.one=true)/\e'[j]?=some av/\(∀ p b b',p≠j->e'[p]?=some b->(t.enc y0)[p]?=some b'->Snap z b b')/\∀ K:K3,K .ud (updH h q (.cells t.wd T' (es.set i.toNat e'))) n->kbz P h n T pv xv K)
  {rv:Option Nat} (hval:av.one=true/\((rv=none/\xs=[]/\av=nilS)\/∃ rr es,rv=some rr/\av = .ms rr 0 xs.length/\h rr=some (.cells u.wd U es)/\SnapE z es (xs.map u.enc)/\(∀ e∈es,e.length=u.wd/\∀ a∈e,a.one=true)))
  (hrr:∀ rr,rv=some rr->rr<n/\z rr=none/\∀ i' B',thp c s i'=some B'->¬ Ow κ ln i' B' rr)
  (hk:Kf .ud { drpS s id with hp:=(id,some (.fm T' t j U u (lset l i y') none))::(drpS s id).hp }=some r) :
  ∃ ln',Ke c s.n κ ln κ ln'/\∃ h',(∀ K:K3,K .ud h' n->kbz P h n T pv xv K)/\Rel P κ ln' z c { drpS s id with hp:=(id,some (.fm T' t j U u (lset l i y') none))::(drpS s id).hp } env h' n:=by
 obtain ⟨hd,h0,hl0,q,es,e,rm,hq,hh,he,hr,hf,hn,hl,h1,hvv,hv0⟩:=R.famAt (kab hB) hy
 obtain ⟨hj,hs'⟩:=khF hd hud hy'
 have hB':=kab (c:=c) hB
 have hel:=(h1 e (jag he)).1
 have hfam:=R.fam id _ hB' rfl
 have hFam:∀ h':AH,(∀ rr,rv=some rr->h' rr=h rr)->(match rv with | none=>av=nilS/\xs=[] | some r=>av = .ms r 0 xs.length/\∃ es,h' r=some (.cells u.wd U es)/\SnapE z es (xs.map u.enc)/\∀ x∈es,x.length=u.wd/\∀ a∈x,a.one=true):=by
  rcases hval.2 with ⟨rfl,rfl,hx⟩ | ⟨rr,es',rfl,hx,g1,g2,g3⟩
  ·exact fun _ _=>⟨hx,rfl⟩
  ·exact fun h' hh'=>⟨hx,es',by rw [hh' rr rfl]; exact g1,g2,g3⟩
 obtain ⟨e',hle,hone,hej,hsn,hK0⟩:=hst q es e hq hh he hel (h1 e (jag he)).2 h0 (fun e=>(hf (by simp [e])).2.1)
 have hrows:∀ X,X=updK ln id (codeR ((kac (ln id)).set i.toNat (rv,xs.length)))->kac (X id)=(kac (ln id)).set i.toNat (rv,xs.length):=fun X e=>by rw [e,updK_self,kbq]
 refine ⟨updK ln id (codeR ((kac (ln id)).set i.toNat (rv,xs.length))),fun id' hid'=>⟨rfl,fun hc'=>?_⟩,updH h q (.cells t.wd T' (es.set i.toNat e')),fun K hK=>?_,?_⟩
 ·unfold updK
  rw [if_neg]
  rintro rfl
  rw [hc] at hc'; cases hc'
 ·exact hK0 K hK
 ·have hX:=hrows _ rfl
  have hnum:∀ r,r∈kam (updK ln id (codeR ((kac (ln id)).set i.toNat (rv,xs.length))) id)->r∈kam (ln id)\/rv=some r:=fun r hr'=>by
   unfold kam at hr' ⊢
   rw [hX] at hr'
   exact kjo hr'
  have hz':∀ q' B,z q'=some B->q'≠q:=fun q' B hz e=>by rw [e,R.zout id _ q hB' hq] at hz; cases hz
  refine R.famSet hc hB rfl rfl (by rw [hX,jcd]) (fun i' hi'=>by unfold updK; rw [if_neg hi']) (jah _) (fun q' hq'=>?_) (fun q' B hz=>?_) (fun i' B rr AB hi' hb ho' h2=>?_) ?_ ⟨?_,fun r hr'=>?_⟩
  ·unfold updH
   rw [if_neg]
   ·exact R.hn q' hq'
   ·rintro rfl
    have:=R.bnd id _ _ hB' hq
    omega
  ·unfold updH
   rw [if_neg (hz' q' B hz)]; exact R.zin q' B hz
  ·unfold updH
   rw [if_neg]
   ·exact h2
   ·rintro rfl
    exact hi' (R.owI hb hB' ho' (.inl hq))
  ·unfold lset
   refine BR.fmSet (e':=e') hd hq (by simp [updH]) hn hl hvv (fun i' hi'=>?_) (by rw [hX,jcd]) (fun i' hi'=>by rw [hX,jbf (fun e=>hi' e.symm)]) (fun i' r m B hi' hr' hB1=>?_) (fun rm' hrm=>?_) h1 ⟨hle,hone⟩
   ·have:=hho _ hi'
    omega
   ·unfold updH
    rw [if_neg]
    ·exact hB1
    ·rintro rfl
     exact (hfam.2 r (kay hr')).2.2.1 id _ hB' hq
   ·rw [hX,jbs (by rw [<-hn]; exact (jad.1 hl0).1)] at hrm
    cases hrm
    refine ⟨by rw [hle,kaf t y' hd],fun p b b' hp hb hb'=>?_,xs.map u.enc,by rw [hs',jbs (by rw [kaf t y0 hd]; exact hj)],by simp,?_⟩
    ·rw [hs',jbf (fun e=>hp e.symm)] at hb'
     exact hsn p b b' hp hb hb'
    ·have hF:=hFam (updH h q (.cells t.wd T' (es.set i.toNat e'))) (fun rr hrv=>by
      unfold updH
      rw [if_neg]
      rintro rfl
      exact (hrr rr hrv).2.2 id _ hB' (.inl hq))
     have hee:=hej
     cases rv with
     | none=>
      obtain ⟨k1,k2⟩:=hF
      exact ⟨by rw [hee,k1],by rw [k2]; rfl⟩
     | some rr=>
      obtain ⟨k1,es2,k2⟩:=hF
      exact ⟨by rw [hee,k1],es2,k2⟩
  ·unfold kam
   rw [hX]
   refine khB hfam.1 fun rr hrv hm=>?_
   exact (hrr rr hrv).2.2 id _ hB' (.inr ⟨rfl,hm⟩)
  ·rcases hnum r hr' with hr' | hr'
   ·obtain ⟨k1,k2,k3,k4⟩:=hfam.2 r hr'
    refine ⟨k1,k2,k3 id _ hB',fun i' B' hi' hb ho'=>?_⟩
    exact hi' (R.owI hb hB' ho' (.inr ⟨rfl,hr'⟩))
   ·obtain ⟨k1,k2,k3⟩:=hrr r hr'
    exact ⟨k1,k2,fun e=>k3 id _ hB' (.inl e),fun i' B' _ hb=>k3 i' B' hb⟩
theorem kuf (R:Rel P κ ln z c s env h n) {T T' U:TypeId} {t u:Ty} {j:Nat} {l:List t.den} {p:Operand} {xv:AV} {i:Int} {ho:Option Int} (hu:TVR P κ ln z s.n (.fo id i j) (ev env p)) (hB:alk s.hp id=some (some (.fm T' t j U u l ho))) (hm:P.cellsOf T=1) (hud:u.dat=true) (hc:c.has id=false)
  (hho:∀ k:Int,ho=some k->k=i) (hw1:ho.isNone=true\/t.wd=1) {y y':t.den} {xs:List u.den} (hy:gi l i=some y) (hy':rowS (A:=sem) t u j y xs=some y')
  {rv:Option Nat} (hval:(rv=none/\xs=[]/\xv=nilS)\/∃ rr es,rv=some rr/\xv = .ms rr 0 xs.length/\h rr=some (.cells u.wd U es)/\SnapE z es (xs.map u.enc)/\(∀ e∈es,e.length=u.wd/\∀ a∈e,a.one=true))
  (hrr:∀ rr,rv=some rr->rr<n/\z rr=none/\∀ i' B',thp c s i'=some B'->¬ Ow κ ln i' B' rr)
  (hk:Kf .ud { drpS s id with hp:=(id,some (.fm T' t j U u (lset l i y') none))::(drpS s id).hp }=some r) :
  ∃ ln',Ke c s.n κ ln κ ln'/\∃ h',(∀ K:K3,K .ud h' n->kbz P h n T (ev env p) xv K)/\Rel P κ ln' z c { drpS s id with hp:=(id,some (.fm T' t j U u (lset l i y') none))::(drpS s id).hp } env h' n:=by
 have hone:xv.one=true/\kax xv=some [xv]:=by
  rcases hval with ⟨_,_,rfl⟩ | ⟨_,_,_,rfl,_⟩ <;> exact ⟨rfl,rfl⟩
 obtain ⟨hd,_⟩:=R.famAt (kab hB) hy
 obtain ⟨hj,_⟩:=khF hd hud hy'
 refine kmq (av:=xv) (y0:=y) R hB hud hc hho hy hy' (fun q es e hq hh he hel ho1 h0 hf=>?_) ⟨hone.1,hval⟩ hrr hk
 have hpl:putAt e j [xv]=e.set j xv:=rfl
 refine ⟨putAt e j [xv],by rw [hpl,jcd]; exact hel,fun b hb=>?_,by rw [hpl,jbs (by omega)],fun p b b' hp hb hb'=>?_,fun K hK=>?_⟩
 ·rw [hpl] at hb
  rcases List.mem_or_eq_of_mem_set hb with hb | rfl
  ·exact ho1 b hb
  ·exact hone.1
 ·rw [hpl,jbf (fun e=>hp e.symm)] at hb
  by_cases hno:ho=none
  ·exact hf hno p b b' hp hb hb'
  ·exfalso
   have hw:t.wd=1:=by
    rcases hw1 with hw1 | hw1
    ·exact absurd (jdj.1 hw1) hno
    ·exact hw1
   have:=(jad.1 hb).1
   omega
 ·generalize hx:ev env p=avp at hu
  cases hu with
  | fo _ _ _ q' hN hq' i0 i1=>
   rw [hq] at hq'; cases hq'
   simp only [kbz,hh,hone.2,he]
   exact ⟨hm.symm,by simp,by simp; omega,hK⟩
theorem ksn (R:Rel P κ ln z c s env h n) {T T' U:TypeId} {t u:Ty} {j:Nat} {l:List t.den} {p x:Operand} {i:Int} (hu:TVR P κ ln z s.n (.fo id i 0) (ev env p)) (hB:alk s.hp id=some (some (.fm T' t j U u l none))) (hm0:P.cellsOf T≠0) (hct:P.cellsOf T=t.wd) (hud:u.dat=true) (hc:c.has id=false)
  {as:List AV} (hx:ev env x = .ag as) (ha1:∀ a∈as,a.one=true) (hlen:as.length=t.wd) {y y' y0:t.den} {xs:List u.den} (hsn:∀ p b b',p≠j->as[p]?=some b->(t.enc y0)[p]?=some b'->Snap z b b') {aj:AV} (haj:as[j]?=some aj) (hy:gi l i=some y) (hy':rowS (A:=sem) t u j y0 xs=some y')
  {rv:Option Nat} (hval:(rv=none/\xs=[]/\aj=nilS)\/∃ rr es,rv=some rr/\aj = .ms rr 0 xs.length/\h rr=some (.cells u.wd U es)/\SnapE z es (xs.map u.enc)/\(∀ e∈es,e.length=u.wd/\∀ a∈e,a.one=true))
  (hrr:∀ rr,rv=some rr->rr<n/\z rr=none/\∀ i' B',thp c s i'=some B'->¬ Ow κ ln i' B' rr)
  (hk:Kf .ud { drpS s id with hp:=(id,some (.fm T' t j U u (lset l i y') none))::(drpS s id).hp }=some r) :
  ∃ ln',Ke c s.n κ ln κ ln'/\∃ h',(∀ K:K3,K .ud h' n->kbz P h n T (ev env p) (ev env x) K)/\Rel P κ ln' z c { drpS s id with hp:=(id,some (.fm T' t j U u (lset l i y') none))::(drpS s id).hp } env h' n:=by
 refine kmq (av:=aj) (y0:=y0) R hB hud hc (fun k e=>by cases e) hy hy' (fun q es e hq hh he hel ho1 h0 hf=>?_) ⟨ha1 aj (jag haj),hval⟩ hrr hk
 have hput:putAt e 0 as=as:=by
  rw [kbx (by omega)]
  simp only [jdi,jba,jcb]
  rw [jbq (by omega),jbd]
 refine ⟨as,hlen,ha1,haj,hsn,fun K hK=>?_⟩
 generalize hxp:ev env p=avp at hu
 cases hu with
 | fo _ _ _ q' hN hq' i0 i1=>
  rw [hq] at hq'; cases hq'
  simp only [kbz,hx,hh,kax,he,hput]
  exact ⟨by omega,by omega,by omega,hK⟩
theorem kqI (R:Rel P κ ln z c s env h n) {T T' U:TypeId} {t u:Ty} {j:Nat} {l:List t.den} {p x:Operand} {i:Int} {vs:List (TV sem)} (hu:TVR P κ ln z s.n (.fo id i 0) (ev env p)) (hv:TVR P κ ln z s.n (.ag vs) (ev env x)) (hvj:vs[j]?=some (.fr id i)) (hB:alk s.hp id=some (some (.fm T' t j U u l none))) (hm0:P.cellsOf T≠0) (hct:P.cellsOf T=t.wd)
  {y0 y y':t.den} (hsn:snapL (A:=sem) c s t (vs.set j (.sc (.slice none 0 0)))=some (y0,[],[])) (hy:gi l i=some y) {ys:List u.den} (hys:rowD (A:=sem) t u j y=some ys) (hy':rowS (A:=sem) t u j y0 ys=some y') (hk:setB (A:=sem) s id (.fm T' t j U u (lset l i y') none) Kf=some r):Res P κ ln z c s env h n ⟨d,.store T p x,ty,pos,after,g⟩ Kf r:=by
 obtain ⟨hd,h0,hl0,q,es,e,rm,hq,hh,he,hr,hf,hn,hl,h1,hvv,_⟩:=R.famAt (kab hB) hy
 have f:=hf (by simp)
 obtain ⟨hud,hj,hcj⟩:=kes hd hys
 obtain ⟨f1,f2⟩:=f.row hcj
 obtain ⟨_,hs'⟩:=khF hd hud hy'
 generalize hx:ev env p=av at hu
 generalize hxv:ev env x=xv at hv
 cases hv with
 | ag _ as hvs hone=>
 cases hu with
 | fo _ _ _ q' hN hq' i0 i1=>
  rw [hq] at hq'; cases hq'
  obtain ⟨aj,haj,hvaj⟩:=hvs.at hvj
  have hset:=hvs.set (.sc (.slice none 0 0) rfl:TVR P κ ln z s.n (.sc (.slice none 0 0)) nilS) j
  obtain ⟨a1,b1,e1,e2,e3,_⟩:=kbG R t _ _ _ _ _ hd hset hsn
  cases e2
  rw [jbd] at e1
  rw [kbe] at e3
  subst e1
  have hlen:as.length=t.wd:=by have:=e3.len; rw [jcd,kaf t y0 hd] at this; exact this.symm
  have hel:=(h1 e (jag he)).1
  have hell:(t.enc y')[j]?=some (.sl (ys.map u.enc)):=by rw [hs',jbs (by rw [kaf t y0 hd]; exact hj)]
  have hej:e[j]?=some aj:=by
   obtain ⟨_,_,⟨m,g1,g2⟩ | ⟨r',m,g1,g2⟩⟩:=hvaj.fr_inv
   ·rw [hr] at g1; cases g1
    rcases f2 with ⟨_,f3,_⟩ | ⟨r2,es',f3,_⟩
    ·rw [f3,g2]
    ·cases f3
   ·rw [hr] at g1; cases g1
    rcases f2 with ⟨f3,_⟩ | ⟨r2,es',f3,f4,_⟩
    ·cases f3
    ·rw [f4,g2]; cases f3; rfl
  have hput:putAt e 0 as=as:=by
   rw [kbx (by omega)]
   simp only [jdi,jba,jcb]
   rw [jbq (by omega),jbd]
  have hnew:BR P κ ln z (updH h q (.cells t.wd T' (es.set i.toNat as))) s.n id (.fm T' t j U u (lset l i y') none):=by
   unfold lset
   refine BR.fmSet (e':=as) hd hq (by simp [updH]) hn hl hvv (fun i e=>by cases e) rfl (fun _ _=>rfl) (fun i' r m B hi hr' hB'=>?_) (fun rm' hrm=>?_) h1 ⟨hlen,fun b hb=>hone b hb⟩
   ·unfold updH
    rw [if_neg]
    ·exact hB'
    ·rintro rfl
     exact ((R.fam id _ (kab hB) rfl).2 r (kay hr')).2.2.1 id _ (kab hB) hq
   ·rw [hr] at hrm; cases hrm
    refine ⟨by rw [hlen,kaf t y' hd],fun p b b' hp hb hb'=>?_,ys.map u.enc,hell,f1,?_⟩
    ·rw [hs',jbf (fun e=>hp e.symm)] at hb'
     exact e3.at p b b' (by rw [jbf (fun e=>hp e.symm)]; exact hb) hb'
    ·obtain ⟨rr,m⟩:=rm
     rcases f2 with ⟨k1,k2,k3⟩ | ⟨r2,es',k1,k2,k3,k4,k5⟩
     ·simp only at k1; subst k1
      rw [hej] at k2
      exact ⟨by rw [haj]; exact k2,k3⟩
     ·simp only at k1; subst k1
      rw [hej] at k2
      refine ⟨by rw [haj]; exact k2,es',?_,k4,k5⟩
      unfold updH
      rw [if_neg]
      ·exact k3
      ·rintro rfl
       exact ((R.fam id _ (kab hB) rfl).2 _ (kay hr)).2.2.1 id _ (kab hB) hq
  have R':=R.setO (AB:=.cells t.wd T' (es.set i.toNat as)) hB (.inl hq) hnew (fun _=>rfl)
  exact ⟨.ud,_,.ud,_,n,κ,ln,z,fun K hK=>by
   simp only [aop,kbz,hx,hxv,hh,kax,he,hput]
   exact ⟨by omega,by omega,by omega,hK⟩,hk,R',.ud,jah _,.refl,fun hc=>by cases hc⟩
theorem kkX (s:TS sem) (r:Option Nat):(rowN s r).n=s.n:=by cases r <;> rfl
theorem kwE (s:TS sem) (id:Nat):(drpS s id).n=s.n:=rfl
theorem knL (R:Rel P κ ln z c s env h n) {U:TypeId} {u:Ty} {v:TV sem} {xv:AV} (hv:TVR P κ ln z s.n v xv) {xs:List u.den} {rd:Option Nat} (hsrc:klg (A:=sem) s U u v=some (xs,rd)) :
  Rel P κ ln z c (rowN s rd) env h n/\(∀ i B,alk s.hp i=some (some B)->B.isF=true->alk (rowN s rd).hp i=some (some B))/\∃ rv:Option Nat,((rv=none/\xs=[]/\xv=nilS)\/∃ rr es,rv=some rr/\xv = .ms rr 0 xs.length/\h rr=some (.cells u.wd U es)/\SnapE z es (xs.map u.enc)/\(∀ e∈es,e.length=u.wd/\∀ a∈e,a.one=true))/\
   (∀ rr,rv=some rr->rr<n/\z rr=none/\∀ i' B',thp c (rowN s rd) i'=some B'->¬ Ow κ ln i' B' rr):=by
 unfold klg at hsrc
 split at hsrc
 ·rename_i rid
  split at hsrc
  ·rename_i U' u' l' hBr
   split at hsrc
   ·rename_i hU
    simp only [jab] at hsrc
    obtain ⟨xs',hx',he'⟩:=hsrc
    cases he'
    obtain ⟨et,rfl⟩:=kai hx'
    cases et
    subst hU
    have hthp:∀ i' B',thp c (rowN s (some rid)) i'=some B'->i'≠rid/\thp c s i'=some B':=fun i' B' hi'=>by
     unfold rowN at hi'
     rw [kaW] at hi'
     split at hi'
     ·cases hi'
     ·rename_i e; exact ⟨e,hi'⟩
    refine ⟨R.del (h':=h) hBr (fun _ _ h=>h) (fun _ _ _ h=>h),fun i B hB hF=>?_,?_⟩
    ·have hne:i≠rid:=by rintro rfl; rw [hB] at hBr; cases hBr; cases hF
     simp only [rowN,alk]; rw [if_neg hne]; exact hB
    ·cases R.blk _ _ (kab hBr) with
     | sl0 _ _ _ hd' hq' hl' hn'=>
      subst hl'
      refine ⟨none,.inl ⟨rfl,rfl,?_⟩,fun rr e=>by cases e⟩
      cases hv with
      | mw0=>rfl
      | mw _ q _ hq=>rw [hq'] at hq; cases hq
     | sl _ _ _ qr es' hd' hq' hh' hvs h1' hn'=>
      refine ⟨some qr,.inr ⟨qr,es',rfl,?_,hh',hvs,fun e he=>⟨hvs.heads hd' e he,h1' e he⟩⟩,fun rr e=>?_⟩
      ·rw [hn']
       cases hv with
       | mw0 _ _ hq=>rw [hq'] at hq; cases hq
       | mw _ q _ hq=>rw [hq'] at hq; cases hq; rfl
      ·cases e
       refine ⟨R.bnd _ _ _ (kab hBr) hq',R.zout _ _ _ (kab hBr) hq',fun i' B' hi' ho'=>?_⟩
       obtain ⟨w1,w2⟩:=hthp i' B' hi'
       exact w1 (R.owI w2 (kab hBr) ho' (.inl hq'))
   ·cases hsrc
  ·cases hsrc
 ·rename_i w
  split at hsrc
  ·rename_i hn
   cases hsrc
   exact ⟨R,fun _ _ h _=>h,none,.inl ⟨rfl,rfl,by cases hv; rw [kaK hn]⟩,fun rr e=>by cases e⟩
  ·cases hsrc
 ·cases hsrc
theorem kro (R:Rel P κ ln z c s env h n) {T:TypeId} {p x:Operand} {i:Int} {o:Nat} {v:TV sem} (hu:TVR P κ ln z s.n (.fo id i o) (ev env p)) (hv:TVR P κ ln z s.n v (ev env x)) (hk:kpb P c s T id i o v Kf=some r):Res P κ ln z c s env h n ⟨d,.store T p x,ty,pos,after,g⟩ Kf r:=by
 unfold kpb at hk
 split at hk
 ·rename_i ag T' t j U u l ho hag hB
  replace hB:=kcK hB
  split at hk
  ·exact kaa hk
  ·rename_i hm0
   split at hk
   ·rename_i hc
    obtain ⟨_,rfl,hm1,hw1⟩:=hc
    split at hk
    ·rename_i xs rv hsrc
     split at hk
     ·exact kaa hk
     ·rename_i hch
      have hch:c.has id=false:=by simpa using hch
      obtain ⟨hk2,hho⟩:=kxa hk
      clear hk
      simp only [jaa] at hk2
      obtain ⟨y,hy,hk2⟩:=hk2
      split at hk2
      ·rename_i y' hy'
       have hud:u.dat=true:=by
        obtain ⟨hd,_⟩:=R.famAt (kab hB) hy
        exact kur hd hy'
       obtain ⟨R0,hB0,rv0,w1,w2⟩:=knL R hv hsrc
       have hB0:=hB0 _ _ hB rfl
       obtain ⟨ln',g1,h',g2,g3⟩:=kuf R0 (by rw [kkX]; exact hu) hB0 hm1 hud hch hho hw1 hy hy' w1 w2 hk2
       rw [kkX] at g1
       exact ⟨_,_,_,_,_,_,_,_,fun K hK=>by simp only [aop]; exact g2 K hK,hk2,g3,.ud,by simp [kkX,kwE],g1,fun hc=>by cases hc⟩
      ·exact kaa hk2
    ·exact kaa hk
   ·split at hk
    ·rename_i hc
     obtain ⟨hc,hno⟩:=hc
     obtain rfl:=jdj.1 hno
     simp only [jaa] at hk
     obtain ⟨y,hy,hk⟩:=hk
     split at hk
     ·rename_i y' hy'
      exact ksu R hu hv hB hm0 hc hy hy' hk
     ·exact kaa hk
    ·split at hk
     ·rename_i vs
      split at hk
      ·rename_i id' i' hvj
       split at hk
       ·rename_i hc
        obtain ⟨rfl,hct,hno,rfl⟩:=hc
        obtain rfl:=jdj.1 hno
        split at hk
        ·rename_i y0 hsn
         simp only [jaa] at hk
         obtain ⟨y,hy,_,hg,hk⟩:=hk
         have hii:i=i':=by
          unfold gsame at hg
          split at hg
          ·assumption
          ·cases hg
         subst hii
         split at hk
         ·rename_i y' hy'
          obtain ⟨ys,hys,hy'⟩:=jaa.1 hy'
          exact kqI R hu hv hvj hB (by omega) hct hsn hy hys hy' hk
         ·exact kaa hk
        ·exact kaa hk
       ·exact kaa hk
      ·rename_i w hnf hvj
       split at hk
       ·rename_i hc
        obtain ⟨rfl,hct,hno⟩:=hc
        obtain rfl:=jdj.1 hno
        split at hk
        ·rename_i xs rd hsrc
         split at hk
         ·exact kaa hk
         ·rename_i hch
          have hch:c.has id=false:=by simpa using hch
          split at hk
          ·rename_i y0 hsn
           simp only [jaa] at hk
           obtain ⟨y,hy,hk⟩:=hk
           split at hk
           ·rename_i y' hy'
            obtain ⟨hd,_⟩:=R.famAt (kab hB) hy
            have hud:=kur hd hy'
            generalize hxv:ev env x=xv at hv
            cases hv with
            | ag _ as hvs hone=>
             obtain ⟨aj,haj,hvaj⟩:=hvs.at hvj
             obtain ⟨R0,hB0,rv0,w1,w2⟩:=knL R hvaj hsrc
             have hB0:=hB0 _ _ hB rfl
             have hset:=hvs.set (.sc (.slice none 0 0) rfl:TVR P κ ln z s.n (.sc (.slice none 0 0)) nilS) j
             obtain ⟨a1,b1,e1,e2,e3,_⟩:=kbG R t _ _ _ _ _ hd hset hsn
             cases e2
             rw [jbd] at e1
             rw [kbe] at e3
             subst e1
             have hlen:as.length=t.wd:=by have:=e3.len; rw [jcd,kaf t y0 hd] at this; exact this.symm
             obtain ⟨ln',g1,h',g2,g3⟩:=ksn R0 (by rw [kkX]; exact hu) hB0 hm0 hct hud hch hxv hone hlen (fun p b b' hp hb hb'=>e3.at p b b' (by rw [jbf (fun e=>hp e.symm)]; exact hb) hb') haj hy hy' w1 w2 hk
             rw [kkX] at g1
             exact ⟨_,_,_,_,_,_,_,_,fun K hK=>by simp only [aop]; exact g2 K hK,hk,g3,.ud,by simp [kkX,kwE],g1,fun hc=>by cases hc⟩
           ·exact kaa hk
          ·exact kaa hk
        ·exact kaa hk
       ·exact kaa hk
      ·exact kaa hk
     ·exact kaa hk
 ·exact kaa hk
end
theorem arr_of' {α:Type} {a:Array α} {l:List α} (h:a.toList=l):a=l.toArray:=by rw [<-h]
section
variable {P:Program} {κ κ':Nat->Option Nat} {ln ln':Nat->Nat} {z z':AH} {c:Cx sem} {s:TS sem} {env:Env} {h h':AH} {n n' N N':Nat} {id:Nat}
variable {ρ:Ty} {Kf:TV sem->TS sem->sem.Ans ρ} {r:ρ.den}
variable {d:Option Tmp} {ty:TypeId} {pos:String} {after:Array Edge} {g:Option (Nat×Bool)}
theorem kxK (R:Rel P κ ln z c s env h n) {x y:Operand} {m:Int} (hs:kjV x y=true) (hm:tev c s x = .c (.i .i64) m):ev env x = .sc (.int .i64 m)/\∃ k',ev env y = .sc (.int k' m):=by
 have hx:=R.ev x
 rw [hm] at hx
 have hx':=hx.i_inv
 refine ⟨hx',?_⟩
 unfold kjV at hs
 split at hs
 ·rename_i a b
  obtain rfl:a=b:=by simpa using hs
  exact ⟨_,hx'⟩
 ·rename_i k a k' b
  have hab:a=b:=by simpa using hs
  subst hab
  have:(Value.int k a) = .int .i64 m:=by simpa [ev,cst] using hx'
  cases this
  exact ⟨k',rfl⟩
 ·cases hs
theorem FamE.nil {w:Nat} {U:TypeId} {cs e:List AV} {j:Nat} {ys:List (List AV)} (hs:SnapL z e cs) (hc:cs[j]?=some (.sl ys)) (he:∃ v,e[j]?=some (.sc v)):FamE z h j U w cs e (none,0):=by
 obtain ⟨v,he⟩:=he
 have h1:=hs.at j _ _ he hc
 rcases h1.sl_inv with ⟨es,h2,_⟩ | ⟨h2,h3⟩ | ⟨_,_,_,_,_,_,h2,_⟩
 ·cases h2
 ·exact ⟨hs.len.symm,fun q a a' _ hq hq'=>hs.at q a a' hq hq',ys,hc,by rw [h3]; rfl,by rw [he,h2],h3⟩
 ·cases h2
theorem klG {e:TypeId} {t u:Ty} {j:Nat} {U:TypeId} (h:famO P e=some (t,j,U,u)):t.dat=true/\u.dat=true/\tyOf P e=some t:=by
 unfold famO at h
 split at h
 ·rename_i t' Ts ht hT
  split at h
  ·simp only [jab] at h
   obtain ⟨u',hu,he⟩:=h
   cases he
   exact ⟨ket ht,ket hu,ht⟩
  ·cases h
 ·cases h
theorem ksl (R:Rel P κ ln z c s env h n) {T:TypeId} {e:TypeId} {x y:Operand} (he:elemO P T=some e) (hk:krt P s e (tev c s x) (kjV x y) Kf=some r):Res P κ ln z c s env h n ⟨d,.makeSlice T x y,ty,pos,after,g⟩ Kf r:=by
 unfold krt at hk
 split at hk
 ·rename_i t j U u zs m hf hz hm
  split at hk
  ·rename_i z0 hz0
   split at hk
   ·rename_i hc
    obtain ⟨hs,hiz,hzl,hw0,hb,hrow⟩:=hc
    obtain ⟨hd,hud,_⟩:=klG hf
    obtain ⟨hx',k',hy'⟩:=kxK R hs hm
    simp only [jaa] at hk
    obtain ⟨l,hg,hk⟩:=hk
    obtain ⟨g1,g2,hg⟩:=kvb hg
    obtain ⟨rest,hr,hre⟩:=(jcm _ _).1 hiz
    obtain rfl:=jcp.1 hre
    obtain ⟨a,ea,ha⟩:=kdC (z:=z) t z0 zs [] hd hz0 hr
    rw [jbd] at ea; subst ea
    obtain ⟨ys,hys⟩:=jao.1 hrow
    obtain ⟨_,hj,hcj⟩:=kes hd hys
    have hfe:FamE z (updH h n (.cells t.wd e (List.replicate m.toNat zs))) j U u.wd (t.enc z0) zs (none,0):=by
     refine FamE.nil ha hcj ?_
     have h1:zs[j]?=some (zs[j]'(by omega)):=jae _
     obtain ⟨v,hv,_⟩:=kjD hz _ (jag h1)
     exact ⟨v,by rw [h1,hv]⟩
    have hnum:kam (codeR (List.replicate m.toNat (none,0)))=[]:=by
     rw [kmP]
     generalize m.toNat=p
     induction p with
     | zero=>rfl
     | succ p ih=>rw [List.replicate_succ,jcn]; exact ih
    have R':=R.newF (h':=updH h n (.cells t.wd e (List.replicate m.toNat zs))) (n':=n+1) (.fm e t j U u l none) (some n) (codeR (List.replicate m.toNat (none,0))) (fun q B hq=>by
      unfold updH; rw [if_neg]; ·exact hq
      rintro rfl; rw [R.hn _ (jah _)] at hq; cases hq) (jbw _) (fun q hq=>by cases hq; omega) (fun q hq=>by unfold updH; rw [if_neg (by omega)]; exact R.hn q (by omega))
     (.fm e t j U u l none n (List.replicate m.toNat zs) hd updK_self (by simp [updH]) (by rw [updK_self,kbq,hg]; simp) (by rw [hg]; simp) (fun i x e' rm hx he' hr _=>by
      rw [updK_self,kbq,jct] at hr
      rw [hg,jct] at hx
      rw [jct] at he'
      split at hr
      ·rename_i hlt
       rw [if_pos hlt] at hx he'
       cases hr; cases hx; cases he'
       exact hfe
      ·cases hr) (fun i rm hi=>by cases hi) (fun e' he'=>by
       obtain ⟨_,rfl⟩:=List.mem_replicate.1 he'
       exact ⟨hzl,ha.one_rev (kaQ t z0 hd)⟩)) (by rw [hnum]; exact ⟨List.nodup_nil,fun r hr=>by cases hr⟩)
    refine ⟨.fw s.n,_,.ms n 0 m.toNat,_,_,_,_,_,fun K hK=>?_,hk,R',?_,jbw _,fun id hi=>⟨kau hi,fun _=>kau hi⟩,fun hc=>by cases hc⟩
    ·simp only [aop,he,hz,hx',hy']
     refine ⟨trivial,g1,g2,hb,by rintro rfl; simp at hzl; omega,?_⟩
     rw [hzl]; exact hK
    ·have:=TVR.fw (P:=P) (κ:=updK κ s.n (some n)) (ln:=updK ln s.n (codeR (List.replicate m.toNat (none,0)))) (z:=z) (N:=s.n+1) s.n n (jbk _) updK_self
     rw [updK_self,kbq,jcr] at this
     exact this
   ·exact kaa hk
  ·exact kaa hk
 ·exact kaa hk
theorem ksR (R:Rel P κ ln z c s env h n) {T T2:TypeId} {x y:Operand} {a:Int} {v:TV sem} (hu:TVR P κ ln z s.n (.fr id a) (ev env x)) (hv:TVR P κ ln z s.n v (ev env y)) (hk:ksY P c s T T2 id a v Kf=some r) :
  Res P κ ln z c s env h n ⟨d,.call ⟨.builtin .append,#[x,y],#[T,T2]⟩,ty,pos,after,g⟩ Kf r:=by
 unfold ksY at hk
 split at hk
 ·rename_i e T' t j U u l he hB
  replace hB:=kcK hB
  split at hk
  ·rename_i zs hz
   split at hk
   ·rename_i hc
    obtain ⟨hp,hzl,hw0,hb,rfl⟩:=hc
    have hzne:zs≠[]:=by rintro rfl; simp at hzl; omega
    split at hk
    ·exact kaa hk
    ·rename_i hch
     have hch:c.has id=false:=by simpa using hch
     split at hk
     ·exact kaa hk
     ·rename_i xs ids hsrc
      simp only [jaa] at hk
      obtain ⟨w,hw,hk⟩:=hk
      split at hk
      ·rename_i ys hys
       simp only [jaa] at hk
       obtain ⟨l',hg,hk⟩:=hk
       obtain ⟨hle,hg⟩:=kib hg
       subst hg
       obtain ⟨hud,bs,hxs,hsx⟩:=kmT R hv hsrc
       have hxl:=hsx.1
       rw [jar] at hxl
       obtain ⟨hd,h0,hl0,q,es,e',rm,hq,hh,he',hr,hf,hn,hl,h1,hvv,hv0⟩:=R.famAt (kab hB) hw
       obtain ⟨_,hj,hcj⟩:=kes hd hys
       obtain ⟨f1,f2⟩:=(hf (by simp)).row hcj
       rw [jar] at f1
       have hB':=kab (c:=c) hB
       have hfam:=R.fam id _ hB' rfl
       have hlt:=(jad.1 hr).1
       rw [<-hzl] at hxs
       have hX:∀ X,X=updK ln id (codeR ((kac (ln id)).set a.toNat (none,0)))->kac (X id)=(kac (ln id)).set a.toNat (none,0):=fun X e=>by rw [e,updK_self,kbq]
       have hole:∀ (h1:AH),(∀ q',(∀ m,(kac (ln id))[a.toNat]?≠some (some q',m))->h1 q'=h q')->(∀ q',n<=q'->h1 q'=none)->Rel P κ (updK ln id (codeR ((kac (ln id)).set a.toNat (none,0)))) z c { drpS s id with hp:=(id,some (.fm T' t j e u l (some a)))::(drpS s id).hp } env h1 n:=fun hh1 k1 k2=>by
        have hX':=hX _ rfl
        have kz:∀ q',(∀ r,r∈kam (ln id)->r≠q')->hh1 q'=h q':=fun q' hq'=>k1 q' fun m hm=>hq' q' (kay hm) rfl
        have hnum:∀ r,r∈kam (updK ln id (codeR ((kac (ln id)).set a.toNat (none,0))) id)->r∈kam (ln id):=fun r hr'=>by
         unfold kam at hr' ⊢
         rw [hX'] at hr'
         rcases kjo hr' with h | h
         ·exact h
         ·cases h
        refine R.famSet hch hB rfl rfl (by rw [hX',jcd]) (fun i' hi'=>by unfold updK; rw [if_neg hi']) (jah _) k2 (fun q' B hz'=>?_) (fun i' B rr AB hi' hb' ho' h2=>?_) ?_ ⟨?_,fun r hr'=>?_⟩
        ·rw [kz q' fun r hr' e=>?_]
         ·exact R.zin q' B hz'
         ·subst e; rw [(hfam.2 r hr').2.1] at hz'; cases hz'
        ·rw [kz rr fun r hr' e=>?_]
         ·exact h2
         ·subst e; exact hi' (R.owI hb' hB' ho' (.inr ⟨rfl,hr'⟩))
        ·refine .fm T' t j e u l (some a) q es hd hq ?_ (by rw [hX',jcd]; exact hn) hl (fun i' x' e2 rm' hx' he2 hr' hne=>?_) (fun i' rm' hi' hr'=>?_) h1
         ·rw [kz q fun r hr' e=>?_]
          ·exact hh
          ·subst e; exact (hfam.2 r hr').2.2.1 id _ hB' hq
         ·have hia:i'≠a.toNat:=fun e=>hne (by rw [e,Int.toNat_of_nonneg h0])
          rw [hX',jbf (fun e=>hia e.symm)] at hr'
          refine (hvv i' x' e2 rm' hx' he2 hr' (by simp)).mono (fun _ _ h=>h) fun rr B hrr hBB=>?_
          obtain ⟨rr',m'⟩:=rm'
          simp only at hrr; subst hrr
          rw [k1 rr fun m hm=>?_]
          ·exact hBB
          ·exact hia (kkM hfam.1 hr' hm rfl rfl)
         ·have:i'=a.toNat:=by cases hi'; simp
          subst this
          rw [hX',jbs hlt] at hr'
          cases hr'; rfl
        ·unfold kam
         rw [hX']
         exact khB hfam.1 fun rr hrv=>by cases hrv
        ·have hr':=hnum r hr'
         obtain ⟨w1,w2,w3,w4⟩:=hfam.2 r hr'
         refine ⟨w1,w2,w3 id _ hB',fun i' B2 hi' hb' ho'=>?_⟩
         exact hi' (R.owI hb' hB' ho' (.inr ⟨rfl,hr'⟩))
       have ke:∀ m k,Ke c s.n κ ln (updK κ s.n k) (updK (updK ln id (codeR ((kac (ln id)).set a.toNat (none,0)))) s.n m):=fun m k i' hi'=>⟨kau hi',fun hc'=>by
        rw [kau hi']
        unfold updK
        rw [if_neg]
        rintro rfl
        rw [hch] at hc'; cases hc'⟩
       have fin:∀ (h1:AH) (es':List (List AV)),(∀ q',(∀ m,(kac (ln id))[a.toNat]?≠some (some q',m))->h1 q'=h q')->(∀ q',n<=q'->h1 q'=none)->SnapE z es' ((ys++xs).map u.enc)->(∀ K:K3,K (.ms n 0 (ys++xs).length) (updH h1 n (.cells u.wd e es')) (n+1)->aop P env h n ⟨d,.call ⟨.builtin .append,#[x,y],#[T,T2]⟩,ty,pos,after,g⟩ K)->Res P κ ln z c s env h n ⟨d,.call ⟨.builtin .append,#[x,y],#[T,T2]⟩,ty,pos,after,g⟩ Kf r:=fun hh1 es' k1 k2 hsn hK=>by
        have R1:=hole hh1 k1 k2
        have R2:=R1.new (h':=updH hh1 n (.cells u.wd e es')) (n':=n+1) (.sl e u (ys++xs)) (some n) (ys++xs).length (fun q B hq=>by
          unfold updH; rw [if_neg]; ·exact hq
          rintro rfl; rw [R1.hn _ (jah _)] at hq; cases hq) (jbw _) (fun q hq=>by cases hq; omega) (fun q hq=>by unfold updH; rw [if_neg (by omega)]; exact R1.hn q (by omega))
         (.sl e u (ys++xs) n es' hud updK_self (by simp [updH]) hsn (hsn.ones hud) updK_self.symm)
        refine ⟨.mw s.n,_,_,_,_,_,_,_,hK,hk,R2,?_,jbw _,ke _ _,fun hc=>by cases hc⟩
        have:=TVR.mw (P:=P) (κ:=updK κ s.n (some n)) (ln:=updK (updK ln id (codeR ((kac (ln id)).set a.toNat (none,0)))) s.n (ys++xs).length) (z:=z) (N:=s.n+1) s.n n (jbk _) updK_self
        rw [updK_self] at this
        exact this
       obtain ⟨hN,a0,⟨m,g1,g2⟩ | ⟨r',m,g1,g2⟩⟩:=hu.fr_inv
       ·rw [hr] at g1; cases g1
        rcases f2 with ⟨_,_,f3⟩ | ⟨r2,es',f3,_⟩
        ·rw [jdl] at f3; subst f3
         rw [jba] at hk fin
         have hle':bs.length<=1048576:=by simp at hle; omega
         by_cases hne:bs=[]
         ·subst hne
          have:xs=[]:=by simpa using hxl
          subst this
          have R1:=hole h (fun _ _=>rfl) R.hn
          have R2:=R1.new (h':=h) (n':=n) (.sl e u []) none 0 (fun q B hq=>hq) (jah _) (fun q hq=>by cases hq) R1.hn (.sl0 e u [] hud updK_self rfl updK_self)
          refine ⟨.mw s.n,_,nilS,_,_,_,_,_,fun K hK=>?_,hk,R2,.mw0 s.n (jbk _) updK_self,jbw _,ke _ _,fun hc=>by cases hc⟩
          simp only [aop,kah,g2,kby,he,hz,hxs]
          exact ⟨hp,hzne,hb,hle',fun _=>hK,fun h=>absurd rfl h⟩
         ·refine fin h bs (fun _ _=>rfl) R.hn hsx fun K hK=>?_
          simp only [aop,kah,g2,kby,he,hz,hxs]
          refine ⟨hp,hzne,hb,hle',fun h=>absurd h hne,fun _=>?_⟩
          rw [hzl,<-hxl]; exact hK
        ·cases f3
       ·rw [hr] at g1; cases g1
        rcases f2 with ⟨f3,_⟩ | ⟨r2,es',f3,f4,f5,f6,f7⟩
        ·cases f3
        ·cases f3
         simp only at f1
         subst f1
         have hel:=f6.1
         rw [jar] at hel
         refine fin (delH h r') (es'++bs) (fun q' hq'=>?_) (fun q' hq'=>?_) (by rw [jcx]; exact f6.append hsx) fun K hK=>?_
         ·unfold delH
          rw [if_neg]
          rintro rfl
          exact hq' _ hr
         ·unfold delH
          split
          ·rfl
          ·exact R.hn q' hq'
         ·simp only [aop,kah,g2,kby,he,hz,hxs,f5]
          refine ⟨hp,hzne,hb,hzl.symm,trivial,hel.symm,by omega,?_⟩
          rw [jbg,hxl] at hK
          exact hK
      ·exact kaa hk
   ·exact kaa hk
  ·exact kaa hk
 ·exact kaa hk
end
end Go.Abs
