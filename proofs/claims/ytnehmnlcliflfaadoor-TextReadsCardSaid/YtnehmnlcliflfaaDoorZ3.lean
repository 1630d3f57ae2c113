/- The machinery, part 3. -/
import Derived.Test.YtnehmnlcliflfaaDoorZ2
set_option linter.constructorNameAsVariable false
set_option linter.unusedVariables false
set_option linter.unusedSimpArgs false
set_option linter.unusedSectionVars false
namespace Go.Abs
open Go Go.RowKit
structure Pn where
 j:Nat
 o:Oper
 env:Env
 v:AV
 ok:AH->Prop
def Pn.fact (P:Ye) (p:Pn):Prop:=∀ h1 n1 (a:K3),p.ok h1->a p.v h1 n1->aop P p.env h1 n1 p.o a
def stepT (P:Ye) (W:Nat->Bool) (anc:Nat->Ya Nat) (o:Oper) (j:Nat) (env:Env) (h:AH) (n:Nat) (pd:Ya Pn) (next:St->Ya Pn->Prop):Prop:=
 if W j then aop P env h n o (λv h' n'=>(∀ p∈pd,p.j∈anc j\/(p.ok h->p.ok h'))/\next ⟨putE env o.dst v,h',n'⟩ pd)
 else ∃ p:Pn,p.j=j/\p.o=o/\p.env=env/\p.ok h/\p.fact P/\next ⟨putE env o.dst p.v,h,n⟩ (p::pd)
def treeD (P:Ye) (a:Ya (Yb Tmp)) (W:Nat->Bool) (anc:Nat->Ya Nat):Ya Oper->Nat->St->Ya Pn->(St->Prop)->Prop
 | [],_,st,_,K=>K st
 | o::r,j,st,pd,K=>
  match o.guard with
  | none=>stepT P W anc o j st.env st.h st.n pd λs t=>treeD P a W anc r (j+1) s t K
  | some (g,want)=>match kba a g with
   | some d=>match lk st.env d with
    | .sc (.bool b)=>(b=want->stepT P W anc o j ((d,.sc (.bool want))::st.env) st.h st.n pd λs t=>treeD P a W anc r (j+1) s t K)/\
      (b = !want->treeD P a W anc r (j+1) ⟨putE ((d,.sc (.bool (!want)))::st.env) o.dst .ud,st.h,st.n⟩ pd K)
    | .ud=>treeD P a W anc r (j+1) ⟨putE st.env o.dst .ud,st.h,st.n⟩ pd K
    | _=>False
   | none=>False
section
variable {P:Ye} {l:Ya Oper} {st0:St} {E:Nat->Env} {V:Nat->AV} {A W:Nat->Bool} {N:Nat} {D:DX} {O:Nat->Prop}
def GOn (l:Ya Oper) (o:Oper) (env:Env):Prop:=o.guard=none\/∃ b a d,o.guard=some (b,a)/\kba (l.map (·.dst)) b=some d/\lk env d = .sc (.bool a)
structure Can (P:Program) (l:List Oper) (st0:St) (W:Nat->Bool) (k:Nat) (E:Nat->Env) (V:Nat->AV) (A:Nat->Bool) (h:AH) (pd:List Pn) (S:Nat->Prop):Prop where
 e0:∀ s,lk (E 0) s=lk st0.env s
 next:∀ (j:Nat) (o:Oper),j<k->l[j]?=some o->∀ s,lk (E (j+1)) s=lk (putE (E j) o.dst (V j)) s
 off:∀ (j:Nat) (o:Oper),j<k->l[j]?=some o->A j=false->V j = .ud/\
  ∃ jj want d,o.guard=some (jj,want)/\kba (l.map (·.dst)) jj=some d/\(lk (E j) d = .ud\/∃ b,lk (E j) d = .sc (.bool b)/\b≠want)
 on:∀ (j:Nat) (o:Oper),j<k->l[j]?=some o->A j=true->GOn l o (E j)/\(S j\/∃ p∈pd,p.j=j/\p.o=o/\(∀ s,lk p.env s=lk (E j) s)/\p.v=V j/\p.fact P/\p.ok h)
variable {k:Nat} {h:AH} {n:Nat} {pd:Ya Pn} {S:Nat->Prop} {K:St->Prop}
theorem Can.slot (L:Can P l st0 W k E V A h pd S):∀ (j s:Nat),j<=k->k<=l.length->lk (E j) s=lk st0.env s/\(∀ i f,i<j->l[i]?=some f->f.dst≠some s)\/∃ i f,i<j/\l[i]?=some f/\f.dst=some s/\lk (E j) s=V i:=by
 intro j;induction j with
 | zero=>intro s _ _; exact .inl ⟨L.e0 s,λi f u=>by omega⟩
 | succ j y=>
  intro s B x;have t:l[j]?=some (l[j]'(by omega)):=jaf _;have hn:=L.next j _ (by omega) t s;cases a:(l[j]'(by omega)).dst with
  | none=>
   rw [a] at hn;simp only [putE] at hn;rcases y s (by omega) x with ⟨p,h2⟩ | ⟨i,f,p,h2,w,v⟩
   ·refine .inl ⟨hn.trans p,λi f u b=>?_⟩;rcases Nat.lt_succ_iff_lt_or_eq.1 u with g | rfl
    ·exact h2 i f g b
    ·rw [t] at b; cases b; rw [a]; simp
   ·exact .inr ⟨i,f,by omega,h2,w,hn.trans v⟩
  | some d=>
   rw [a] at hn;simp only [putE,lk] at hn;by_cases m:s=d
   ·subst m;rw [if_pos rfl] at hn;exact .inr ⟨j,_,by omega,t,a,hn⟩
   ·rw [if_neg m] at hn;rcases y s (by omega) x with ⟨p,h2⟩ | ⟨i,f,p,h2,w,v⟩
    ·refine .inl ⟨hn.trans p,λi f u b=>?_⟩;rcases Nat.lt_succ_iff_lt_or_eq.1 u with g | rfl
     ·exact h2 i f g b
     ·rw [t] at b; cases b; rw [a]; intro e; cases e; exact m rfl
    ·exact .inr ⟨i,f,by omega,h2,w,hn.trans v⟩
theorem Can.sees (L:Can P l st0 W k E V A h pd S) (Y:k<=l.length) (T:kcz l=true) {env:Env} (p:At P l st0 V S env) (H:Closed l S) {j:Nat} {o:Oper} (y:l[j]?=some o) (C:j<=k) (hj:¬ S j)
  (hr:∀ e∈o.after,Region.binds .any e=true->S e.on) {t:Nat} (I:t∈kfs o (l.map (·.dst))):lk env t=lk (E j) t:=by
 obtain ⟨aa,R,u⟩:=kbk T;have Z:=(jae.1 y).1;have g:∀ v,l[j]?=some v->∀ e∈v.after,Region.binds .any e=true->S e.on:=λv b=>by rw [y] at b; cases b; exact hr
 have m:∀ i a,l[i]?=some a->Anc l j i->¬ S i:=λi a f x G=>hj (H.anc x λv b e he U=>H i v b G e he U);rcases L.slot j t C Y with ⟨J,h2⟩ | ⟨i,a,J,h2,M,h4⟩
 ·rw [J];refine p.old t λi a G f w=>?_;rcases u j o t i a y I f w with ⟨B,_⟩ | ⟨_,x⟩
  ·exact h2 i a B f w
  ·exact m i a f x G
 ·rw [h4];rcases u j o t i a y I h2 M with ⟨_,x⟩ | ⟨X,_⟩
  ·exact p.new t i a (H.anc x g) h2 M
  ·omega
theorem Can.snoc (L:Can P l st0 W k E V A h pd S) {o:Oper} (C:l[k]?=some o) {env:Env} (x:∀ s,lk env s=lk (E k) s) (v:AV) (u:Bool) (t:Ya Pn) (G:Nat->Prop) (h':AH)
  (y:u=false->v = .ud/\∃ I m d,o.guard=some (I,m)/\kba (l.map (·.dst)) I=some d/\(lk (E k) d = .ud\/∃ b,lk (E k) d = .sc (.bool b)/\b≠m))
  (B:u=true->GOn l o (E k)/\(G k\/∃ p∈t,p.j=k/\p.o=o/\(∀ s,lk p.env s=lk (E k) s)/\p.v=v/\p.fact P/\p.ok h'))
  (w:∀ j f,j<k->l[j]?=some f->A j=true->S j\/(∃ p∈pd,p.j=j/\p.o=f/\(∀ s,lk p.env s=lk (E j) s)/\p.v=V j/\p.fact P/\p.ok h)->G j\/(∃ p∈t,p.j=j/\p.o=f/\(∀ s,lk p.env s=lk (E j) s)/\p.v=V j/\p.fact P/\p.ok h')) :
  Can P l st0 W (k+1) (λi=>if i=k+1 then putE env o.dst v else E i) (λi=>if i=k then v else V i) (λi=>if i=k then u else A i) h' t G:=by
 have hE:∀ j,j<=k->(if j=k+1 then putE env o.dst v else E j)=E j:=λj H=>by rw [if_neg (by omega)]
 refine ⟨by intro s; rw [hE 0 (by omega)]; exact L.e0 s,λj f H a s=>?_,λj f H a g=>?_,λj f H a g=>?_⟩
 ·by_cases e:j=k
  ·subst e;rw [C] at a; cases a;rw [hE j (jah _)];simp only [if_true];exact koW x _ _ s
  ·rw [hE (j+1) (by omega),hE j (by omega)];simp only [if_neg e];exact L.next j f (by omega) a s
 ·rw [hE j (by omega)];by_cases e:j=k
  ·subst e;rw [C] at a; cases a;simp only [if_true] at g ⊢;exact y g
  ·simp only [if_neg e] at g ⊢;exact L.off j f (by omega) a g
 ·rw [hE j (by omega)];by_cases e:j=k
  ·subst e;rw [C] at a; cases a;simp only [if_true] at g ⊢;exact B g
  ·simp only [if_neg e] at g ⊢;obtain ⟨g1,J⟩:=L.on j f (by omega) a g;exact ⟨g1,w j f (by omega) a g J⟩
theorem Can.adv {anc:Nat->Ya Nat}:∀ (m k:Nat) {E:Nat->Env} {V:Nat->AV} {A:Nat->Bool} {pd:Ya Pn} {env:Env},k+m=l.length->Can P l st0 W k E V A h pd S->(∀ s,lk env s=lk (E k) s)->treeD P (l.map (·.dst)) W anc (l.drop k) k ⟨env,h,n⟩ pd K->(∀ i,S i->i<k)->
  ∃ f y B H u a,k<=f/\f<=l.length/\Can P l st0 W f y B H h u S/\(∀ j,j<k->B j=V j)/\(∀ s,lk a s=lk (y f) s)/\
   ((f=l.length/\K ⟨a,h,n⟩)\/∃ o,l[f]?=some o/\W f=true/\GOn l o (y f)/\aop P a h n o (λv h2 n2=>(∀ p∈u,p.j∈anc f\/(p.ok h->p.ok h2))/\treeD P (l.map (·.dst)) W anc (l.drop (f+1)) (f+1) ⟨putE a o.dst v,h2,n2⟩ u K))
 | 0,k,E,V,A,pd,env,hkm,L,henv,ht,hS=>by
  rw [jbg (by omega)] at ht;exact ⟨k,E,V,A,pd,env,jah _,by omega,L,λ_ _=>rfl,henv,.inl ⟨by omega,ht⟩⟩
 | m+1,k,E,V,A,pd,env,hkm,L,henv,ht,hS=>by
  have X:k<l.length:=by omega
  have ho:l[k]?=some l[k]:=jaf X;rw [jbd X] at ht;have Y:∀ x:Env,(∀ s,lk x s=lk (E k) s)->GOn l l[k] (E k)->stepT P W anc l[k] k x h n pd (λs t=>treeD P (l.map (·.dst)) W anc (l.drop (k+1)) (k+1) s t K)->
    ∃ f y B H u a,k<=f/\f<=l.length/\Can P l st0 W f y B H h u S/\(∀ j,j<k->B j=V j)/\(∀ s,lk a s=lk (y f) s)/\
     ((f=l.length/\K ⟨a,h,n⟩)\/∃ o,l[f]?=some o/\W f=true/\GOn l o (y f)/\aop P a h n o (λv h2 n2=>(∀ p∈u,p.j∈anc f\/(p.ok h->p.ok h2))/\treeD P (l.map (·.dst)) W anc (l.drop (f+1)) (f+1) ⟨putE a o.dst v,h2,n2⟩ u K)):=by
   intro x C G I;unfold stepT at I;split at I
   ·rename_i hw;exact ⟨k,E,V,A,pd,x,jah _,by omega,L,λ_ _=>rfl,C,.inr ⟨_,ho,hw,G,I⟩⟩
   ·rename_i hw;obtain ⟨p,p1,p2,p3,p4,p5,I⟩:=I;have L':=L.snoc ho C p.v true (p::pd) S h (λe=>by cases e) (λ_=>⟨G,.inr ⟨p,by simp,p1,p2,λs=>by rw [p3]; exact C s,rfl,p5,p4⟩⟩) λj o' _ _ _ T=>by
     rcases T with T | ⟨q,hq,T⟩
     ·exact .inl T
     ·exact .inr ⟨q,jbm _ hq,T⟩
    obtain ⟨f,y,B,H,u,a,g1,g2,g3,g4,g5,g6⟩:=Can.adv m (k+1) (by omega) L' (λs=>by simp) I (λi hi=>by have:=hS i hi; omega);exact ⟨f,y,B,H,u,a,by omega,g2,g3,λj hj=>by rw [g4 j (by omega),if_neg (by omega)],g5,g6⟩
  have J:∀ x:Env,(∀ s,lk x s=lk (E k) s)->(∃ jj w d,l[k].guard=some (jj,w)/\kba (l.map (·.dst)) jj=some d/\(lk (E k) d = .ud\/∃ b,lk (E k) d = .sc (.bool b)/\b≠w))->treeD P (l.map (·.dst)) W anc (l.drop (k+1)) (k+1) ⟨putE x l[k].dst .ud,h,n⟩ pd K->
    ∃ f y B H u a,k<=f/\f<=l.length/\Can P l st0 W f y B H h u S/\(∀ j,j<k->B j=V j)/\(∀ s,lk a s=lk (y f) s)/\
     ((f=l.length/\K ⟨a,h,n⟩)\/∃ o,l[f]?=some o/\W f=true/\GOn l o (y f)/\aop P a h n o (λv h2 n2=>(∀ p∈u,p.j∈anc f\/(p.ok h->p.ok h2))/\treeD P (l.map (·.dst)) W anc (l.drop (f+1)) (f+1) ⟨putE a o.dst v,h2,n2⟩ u K)):=by
   intro x C G I;have L':=L.snoc ho C .ud false pd S h (λ_=>⟨rfl,G⟩) (λe=>by cases e) λj o' _ _ _ T=>T;obtain ⟨f,y,B,H,u,a,g1,g2,g3,g4,g5,g6⟩:=Can.adv m (k+1) (by omega) L' (λs=>by simp) I (λi hi=>by have:=hS i hi; omega);exact ⟨f,y,B,H,u,a,by omega,g2,g3,λj hj=>by rw [g4 j (by omega),if_neg (by omega)],g5,g6⟩
  unfold treeD at ht;split at ht
  ·rename_i G;exact Y env henv (.inl G) ht
  ·rename_i g w G;split at ht
   ·rename_i d R;simp only at ht;split at ht
    ·rename_i b U;by_cases M:b=w
     ·subst M;exact Y _ (λs=>(kqa U s).trans (henv s)) (.inr ⟨g,b,d,G,R,by rw [<-henv]; exact U⟩) (ht.1 rfl)
     ·have Z:b = !w:=by cases b <;> cases w <;> first | rfl | exact absurd rfl M
      exact J _ (λs=>(kqa (by rw [U,Z]) s).trans (henv s)) ⟨g,w,d,G,R,.inr ⟨b,by rw [<-henv]; exact U,M⟩⟩ (ht.2 Z)
    ·rename_i U;exact J _ henv ⟨g,w,d,G,R,.inl (by rw [<-henv]; exact U)⟩ ht
    ·exact ht.elim
   ·exact ht.elim
theorem krR {ro:Yb Nat} {anc:Nat->Ya Nat} (hd:kcz l=true) (au:kaY N l=true) (aI:∀ i j,i∈anc j->Anc l i j) (hW:∀ w j,w<j->j<l.length->W w=true->Anc l w j) {Q':Exit->Act->World->Prop} {μ0:Mu} {w0:World}
  (hq:∀ g env h n μ a w,K ⟨g,h,n⟩->(∀ s,lk env s=lk g s)->SR N D O μ ⟨env,h,n⟩ a w->Evo w0 μ0 st0.n w μ n->Q' .normal a w) :
  ∀ (I:Nat) (f:Array Bool) (S:Nat->Prop) (k:Nat) (E:Nat->Env) (V:Nat->AV) (A:Nat->Bool) (pd:Ya Pn) (g env:Env) (h:AH) (n:Nat) (μ:Mu) (a:Act) (w:World),f.size=l.length->(∀ i,i<l.length->(S i↔f.getD i true=true))->(∀ i,S i->i<k)->k<=l.length->Closed l S->
   At P l st0 V S env->Can P l st0 W k E V A h pd S->(∀ s,lk g s=lk (E k) s)->
   ((k=l.length/\K ⟨g,h,n⟩)\/∃ o,l[k]?=some o/\W k=true/\GOn l o (E k)/\aop P g h n o (λv h2 n2=>(∀ p∈pd,p.j∈anc k\/(p.ok h->p.ok h2))/\treeD P (l.map (·.dst)) W anc (l.drop (k+1)) (k+1) ⟨putE g o.dst v,h2,n2⟩ pd K))->
   SR N D O μ ⟨env,h,n⟩ a w->Evo w0 μ0 st0.n w μ n->(∃ c:Ya Nat,c.length=I/\∀ i,i<l.length->¬ S i->i∈c)->wpAnyIn (FF ro) 0 P .any l.toArray Q' I f a w:=by
 have am:∀ (f:Array Bool) (S:Nat->Prop) (k:Nat) (E:Nat->Env) (V:Nat->AV) (A:Nat->Bool) (pd:Ya Pn) (g env:Env) (h:AH) (n:Nat) (μ:Mu) (a:Act) (w:World),(∀ i,i<l.length->S i)->(∀ i,S i->i<k)->k<=l.length->At P l st0 V S env->Can P l st0 W k E V A h pd S->(∀ s,lk g s=lk (E k) s)->
   ((k=l.length/\K ⟨g,h,n⟩)\/∃ o,l[k]?=some o/\W k=true/\GOn l o (E k)/\aop P g h n o (λv h2 n2=>(∀ p∈pd,p.j∈anc k\/(p.ok h->p.ok h2))/\treeD P (l.map (·.dst)) W anc (l.drop (k+1)) (k+1) ⟨putE g o.dst v,h2,n2⟩ pd K))->
   SR N D O μ ⟨env,h,n⟩ a w->Evo w0 μ0 st0.n w μ n->Q' .normal a w:=by
  intro f S k E V A pd g env h n μ a w Z hSk hk T L U hT J he;rcases hT with ⟨rfl,hK⟩ | ⟨o,ho,_⟩
  ·refine hq g env h n μ a w hK (λs=>?_) J he;rw [U];rcases L.slot l.length s (jah _) (jah _) with ⟨h1,h2⟩ | ⟨i,H,h1,h2,h3,h4⟩
   ·rw [h1]; exact T.old s λi H aV y=>h2 i H (jae.1 y).1 y
   ·rw [h4]; exact T.new s i H (Z i h1) h2 h3
  ·have aK:=(jae.1 ho).1;have:=hSk k (Z k aK);omega
 have aq:∀ (f:Array Bool) (S:Nat->Prop),(∀ i,i<l.length->(S i↔f.getD i true=true))->f.size=l.length->Region.ready .any l.toArray f=[]->∀ i,i<l.length->S i:=by
  intro f S hS ab hr i;induction i using Nat.strongRecOn with
  | _ i ih=>
   intro m;by_cases J:S i
   ·exact J
   ·have hl:f.getD i true=false:=by
     cases hb:f.getD i true with
     | false=>rfl
     | true=>exact absurd ((hS i m).2 hb) J
    have:i∈Region.ready .any l.toArray f:=mem_ready.2 ⟨hl,l[i],by simp,λe he hb=>by
     have R:=(kbk hd).1 i _ (jaf m) e he hb;have:=(hS e.on (by omega)).1 (ih e.on R (by omega));have ao:e.on<f.size:=by omega
     simpa [jag,ao] using this⟩
    rw [hr] at this; cases this
 intro I;induction I with
 | zero=>
  intro f S k E V A pd g env h n μ a w ab hS hSk hk hc T L U hT J he aj;obtain ⟨c,ae,ar⟩:=aj;have aN:c=[]:=jbx ae;have Z:∀ i,i<l.length->S i:=λi m=>Classical.byContradiction λhn=>by have:=ar i m hn; rw [aN] at this; cases this
  refine ⟨?_,am f S k E V A pd g env h n μ a w Z hSk hk T L U hT J he⟩;refine jcy.2 λi m=>?_;obtain ⟨h1,o,h2,_⟩:=mem_ready.1 m;have aM:i<l.length:=by simpa using (jaj.1 h2).1
  rw [(hS i aM).1 (Z i aM)] at h1;cases h1
 | succ I ih=>
  intro f S k E V A pd g env h n μ a w ab hS hSk hk hc T L U hT J he aj;refine ⟨λhr=>am f S k E V A pd g env h n μ a w (aq f S hS ab hr) hSk hk T L U hT J he,λj hj=>?_⟩;obtain ⟨ax,o,ho,aD⟩:=mem_ready.1 hj;have B:l[j]?=some o:=by simpa using ho
  have aA:=(jae.1 B).1;have hnS:¬ S j:=λh=>by rw [(hS j aA).1 h] at ax; cases ax
  have aB:∀ e∈o.after,Region.binds .any e=true->S e.on:=λe C hb=>by
   have R:=(kbk hd).1 j _ B e C hb;have:=aD e C hb;have ao:e.on<f.size:=by omega
   exact (hS e.on (by omega)).2 (by simpa [jag,ao] using this)
  have al:∀ o',l[j]?=some o'->∀ e∈o'.after,Region.binds .any e=true->S e.on:=λo2 ah=>by rw [B] at ah; cases ah; exact aB
  have az:∀ x,o.dst=some x->x<N:=λx hx=>by
   simp only [kaY,jap] at au;have:=au o (jai B); rw [hx] at this; simpa using this
  have G:(∀ i,i<l.length->((i=j\/S i)↔(f.setIfInBounds j true).getD i true=true)):=λi m=>by
   by_cases ac:i=j
   ·subst ac; simp [jag,ab,m]
   ·rw [jag,jcx (by omega),<-jag,<-hS i m];simp [ac]
  have ae:Closed l (λi=>i=j\/S i):=λi H y m e C hb=>by
   rcases m with rfl | m
   ·rw [B] at y; cases y; exact .inr (aB e C hb)
   ·exact .inr (hc i H y m e C hb)
  have aH:j<=k:=by
   rcases hT with ⟨rfl,_⟩ | ⟨o2,ah,aG,_⟩
   ·omega
   ·rcases jbz k j with R | aT
    ·have:=hSk k (hc.anc (hW k j R aA aG) al);omega
    ·exact aT
  have an:∀ v,At P l st0 (λi=>if i=j then v else V i) (λi=>i=j\/S i) (Abs.putE env o.dst v):=λv=>by
   constructor
   ·intro s ak;have h1:=ak j o (.inl rfl) B;have h2:=T.old s λi H m=>ak i H (.inr m);cases aC:o.dst with
    | none=>exact h2
    | some d=>
     simp only [Abs.putE,lk];rw [if_neg (by rintro rfl; exact h1 aC)];exact h2
   ·intro s i H m y M;by_cases ac:i=j
    ·subst ac;rw [B] at y; cases y;rw [M]; simp [Abs.putE,lk]
    ·have hSi:S i:=by rcases m with h | h; exact absurd h ac; exact h
     have h2:=T.new s i H hSi y M;simp only [if_neg ac];cases aC:o.dst with
     | none=>exact h2
     | some d=>
      simp only [Abs.putE,lk];rw [if_neg (by rintro rfl; exact ac ((kbk hd).2.1 i j H o s y B M aC))];exact h2
  have ad:∃ c:Ya Nat,c.length=I/\∀ i,i<l.length->¬ (i=j\/S i)->i∈c:=by
   obtain ⟨c,ae,ar⟩:=aj;have aQ:=ar j aA hnS;refine ⟨c.erase j,by rw [List.length_erase_of_mem aQ,ae]; rfl,λi m ak=>?_⟩;exact (List.mem_erase_of_ne (λh=>ak (.inl h))).2 (ar i m λh=>ak (.inr h))
  have sees:∀ t∈kfs o (l.map (·.dst)),lk env t=lk (E j) t:=λt ht=>L.sees hk hd T hc B aH hnS aB ht;have guardOn:GOn l o (E j)->Region.wanted o (yielded l.toArray a.tmps)=true:=by
   rintro (hg | ⟨jj,aw,d,hg,af,aE⟩)
   ·simp [Region.wanted,hg]
   ·obtain ⟨g1,_⟩:=kcy (st:=⟨env,h,n⟩) J af ((sees d (khM hg af)).trans aE);simp [Region.wanted,hg,g1 aw rfl]
  have aS:∀ (V1 V':Nat->AV) (S':Nat->Prop) (X:Env),At P l st0 V1 S' X->(∀ i,S' i->V' i=V1 i)->At P l st0 V' S' X:=λV1 V' S' X hh hv=>⟨hh.old,λs i H m y M=>by rw [hv i m]; exact hh.new s i H m y M⟩;unfold wpOpIn;rw [ho];simp only;rcases Nat.lt_or_eq_of_le aH with R | rfl
  ·
   cases ha:A j with
   | false=>
    obtain ⟨hv,jj,aw,d,hg,af,aE⟩:=L.off j o R B ha;have aJ:=sees d (khM hg af);have aO:Region.wanted o (yielded l.toArray a.tmps)=false:=by
     rcases aE with h1 | ⟨b,h1,hb⟩
     ·obtain ⟨_,g2⟩:=kcy (st:=⟨env,h,n⟩) J af (aJ.trans h1);simp [Region.wanted,hg,g2 rfl]
     ·obtain ⟨g1,_⟩:=kcy (st:=⟨env,h,n⟩) J af (aJ.trans h1);simp [Region.wanted,hg,g1 b rfl,hb]
    rw [aO];simp only [jal,if_false];refine ⟨λ_ _=>trivial,?_⟩;have Y:=an .ud;refine ih _ (λi=>i=j\/S i) k E V A pd g (putE env o.dst .ud) h n μ _ w (by simp [ab]) G (λi m=>by rcases m with rfl | m; exact R; exact hSk i m) hk ae ?_ ⟨L.e0,L.next,L.off,λi H m y ap=>?_⟩ U hT (J.putE J.hr J.hr.refl .ud o.dst az) he ad
    ·refine ⟨Y.old,λs i H m y M=>?_⟩;rw [Y.new s i H m y M];split
     ·rename_i e; rw [e,hv]
     ·rfl
    ·obtain ⟨g1,g2⟩:=L.on i H m y ap;exact ⟨g1,g2.imp .inr id⟩
   | true=>
    obtain ⟨hg,hp⟩:=L.on j o R B ha;rw [guardOn hg];simp only [if_true];rcases hp with hp | ⟨p,hp,p1,p2,p3,p4,p5,p6⟩
    ·exact absurd hp hnS
    ·have ai:=p5 h n (λv h' n'=>v=V j/\h'=h/\n'=n) p6 ⟨p4,rfl,rfl⟩;rw [p2] at ai;have aa:∀ x∈o.op.operands.toList,ev p.env x=ev env x:=λx hx=>by
      cases x with
      | tmp t=>exact (p3 t).trans (sees t (kkx hx)).symm
      | _=>rfl
     rw [knY aa] at ai;refine kjO ai J.hr (λx=>J.ev x) _ _ _ ?_;rintro u w' μ' v h' n' ⟨rfl,rfl,rfl⟩ ay aF C;have Y:=an (V j);refine ih _ (λi=>i=j\/S i) k E V A pd g (putE env o.dst (V j)) h' n' μ' _ w' (by simp [ab]) G (λi m=>by rcases m with rfl | m; exact R; exact hSk i m) hk ae ?_ ⟨L.e0,L.next,L.off,λi H m y ap=>?_⟩ U hT (J.putE ay C aF o.dst az) (he.trans C) ad
     ·refine ⟨Y.old,λs i H m y M=>?_⟩;rw [Y.new s i H m y M];split
      ·rename_i e; rw [e]
      ·rfl
     ·obtain ⟨g1,g2⟩:=L.on i H m y ap;exact ⟨g1,g2.imp .inr id⟩
  ·
   rcases hT with ⟨aK,_⟩ | ⟨o2,ah,aG,aL,ai⟩
   ·omega
   rw [B] at ah; cases ah;rw [guardOn aL];simp only [if_true];have aa:∀ x∈o.op.operands.toList,ev g x=ev env x:=λx hx=>by
    cases x with
    | tmp t=>exact (U t).trans (sees t (kkx hx)).symm
    | _=>rfl
   rw [knY aa] at ai;refine kjO ai J.hr (λx=>J.ev x) _ _ _ ?_;rintro u w' μ' v h' n' ⟨aR,aP⟩ ay aF C;have L':=L.snoc B U v true pd (λi=>i=j\/S i) h' (λe=>by cases e) (λ_=>⟨aL,.inl (.inl rfl)⟩) (λi H m y ap hh=>by
    rcases hh with hh | ⟨p,hp,p1,p2,p3,p4,p5,p6⟩
    ·exact .inl (.inr hh)
    ·rcases aR p hp with hx | hx
     ·rw [p1] at hx;exact .inl (.inr (hc.anc (aI i j hx) al))
     ·exact .inr ⟨p,hp,p1,p2,p3,p4,p5,hx p6⟩)
   obtain ⟨k',E',V',A',aU,X,g1,g2,g3,g4,g5,g6⟩:=Can.adv (l.length-(j+1)) (j+1) (n:=n') (env:=putE g o.dst v) (by omega) L' (λs=>by simp) aP (λi m=>by
    rcases m with rfl | m
    ·omega
    ·have:=hSk i m; omega)
   exact ih _ (λi=>i=j\/S i) k' E' V' A' aU X (putE env o.dst v) h' n' μ' _ w' (by simp [ab]) G (λi m=>by
    rcases m with rfl | m
    ·omega
    ·have:=hSk i m; omega) g2 ae (aS _ _ _ _ (an v) λi m=>g4 i (by rcases m with rfl | m; omega; have:=hSk i m; omega)) g3 g5 g6 (J.putE ay C aF o.dst az) (he.trans C) ad
end
def Legal (ops:Array Oper):Array Bool->Ya Nat->Prop
 | listed,[]=>Region.ready .any ops listed=[]
 | listed,i :: σ=>i∈Region.ready .any ops listed/\Legal ops (listed.setIfInBounds i true) σ
section
variable {F:Fence} {n:Nat} {P:Ye} {Q:Exit->Act->World->Prop}
theorem kjK {ops:Array Oper}:∀ (e:Nat) (σ:Ya Nat) (b:Array Bool) (a:Act) (w:World),σ.length<=e->Legal ops b σ->wpAnyIn F n P .any ops Q e b a w->wpOpsIn F n P ops Q σ a w
 | 0,[],b,a,w,_,hl,h=>h.2
 | 0,i :: σ,b,a,w,hle,hl,h=>by simp at hle
 | e+1,[],b,a,w,_,hl,h=>h.1 hl
 | e+1,i :: σ,b,a,w,hle,hl,h=>by
  rw [wpOpsIn_cons];exact wpOpIn_mono (λa w f=>kjK e σ _ a w (by simpa using hle) hl.2 f) (h.2 i hl.1)
theorem kkN {ops:Array Oper}:∀ (b t:Nat) (a:Array Bool),(∃ c:Ya Nat,c.length=b/\∀ i,i<ops.size->a.getD i true=false->i∈c)->a.size=ops.size->
  Legal ops a (Region.linearise.go .any ops b t a [])/\(Region.linearise.go .any ops b t a []).length<=b
 | 0,t,a,hc,hsz=>by
  obtain ⟨c,g,f⟩:=hc;have y:c=[]:=jbx g;refine ⟨?_,by simp [Region.linearise.go]⟩;show Region.ready .any ops a=[];refine jcy.2 λi v=>?_;obtain ⟨B,o,h2,_⟩:=mem_ready.1 v;have:=f i (jaj.1 h2).1 B;rw [y] at this; cases this
 | b+1,t,a,hc,hsz=>by
  simp only [Region.linearise.go];change Legal ops a (match (Region.ready .any ops a)[t % (Region.ready .any ops a).length]? with
   | some i=>Region.linearise.go .any ops b (t / (Region.ready .any ops a).length) (a.setIfInBounds i true) [i]
   | none=>[].reverse)/\(match (Region.ready .any ops a)[t % (Region.ready .any ops a).length]? with
   | some i=>Region.linearise.go .any ops b (t / (Region.ready .any ops a).length) (a.setIfInBounds i true) [i]
   | none=>[].reverse).length<=b+1
  cases v:(Region.ready .any ops a)[t % (Region.ready .any ops a).length]? with
  | none=>
   have u:Region.ready .any ops a=[]:=by
    cases hr:Region.ready .any ops a with
    | nil=>rfl
    | cons x xs=>
     rw [hr] at v;have w:t % (x::xs).length<(x::xs).length:=Nat.mod_lt _ (by simp);simp at v;simp at w;omega
   exact ⟨u,by simp⟩
  | some i=>
   simp only [];rw [linearise_go_acc,List.reverse_singleton,List.singleton_append];have p:=jai v;obtain ⟨B,o,h2,_⟩:=mem_ready.1 p;have C:=(jaj.1 h2).1;obtain ⟨c,g,f⟩:=hc;have:=kkN b (t / (Region.ready .any ops a).length) (a.setIfInBounds i true) ⟨c.erase i,by rw [List.length_erase_of_mem (f i C B),g]; rfl,λj G e=>?_⟩ (by simpa using hsz)
   ·exact ⟨⟨p,this.1⟩,by simpa using this.2⟩
   ·have m:j≠i:=by
     rintro rfl;rw [jag,Array.getElem?_setIfInBounds_self] at e;simp [hsz,G] at e
    rw [getD_set_ne _ (Ne.symm m)] at e;exact (List.mem_erase_of_ne m).2 (f j G e)
end
def posOf (ps:Ya Nat) (i:Nat):Nat:=ps.idxOf i
def renO (ps:Ya Nat) (ex:Ya (Nat×Nat)) (i:Nat) (o:Oper):Oper:=
 ⟨o.dst,o.op,o.type,o.pos,((o.after.toList.filter (Region.binds .any)).map (λe=>(⟨posOf ps e.on,.data⟩:Edge))++(ex.filter (λx=>x.2==i)).map λx=>(⟨posOf ps x.1,.data⟩:Edge)).toArray,o.guard.map λg=>(posOf ps g.1,g.2)⟩
def dumO:Oper:=⟨none,.move (.func 0),0,"",#[],none⟩
def permL (l:Ya Oper) (ps:Ya Nat) (ex:Ya (Nat×Nat)):Ya Oper:=ps.map λi=>match l[i]? with | some o=>renO ps ex i o | none=>dumO
def kdR (n:Nat) (ps:Ya Nat):Bool:=ps.length==n&&ps.all (λi=>decide (i<n))&&(List.range n).all (λi=>ps.contains i)&&decide ps.Nodup
def backw (l:Ya Oper):Bool:=l.zipIdx.all λ(o,j)=>o.after.all λe=>!Region.binds .any e||decide (e.on<j)
theorem kmo {l:Ya Oper} (b:backw l=true) {j:Nat} {o:Oper} (f:l[j]?=some o):∀ e∈o.after,Region.binds .any e=true->e.on<j:=by
 simp only [backw,jap,Prod.forall] at b;have:=b o j (List.mem_zipIdx_iff_getElem?.2 (by simpa using f));simp only [jcj] at this;intro e g a;have:=this e g;simpa [a] using this
section
variable {l:Ya Oper} {ps:Ya Nat} {ex:Ya (Nat×Nat)}
theorem kbZ (hp:kdR l.length ps=true):ps.length=l.length/\(∀ i∈ps,i<l.length)/\(∀ i,i<l.length->i∈ps)/\ps.Nodup:=by
 simp only [kdR,jad,beq_iff_eq,jap,jak,jec,jbw] at hp;exact ⟨hp.1.1.1,hp.1.1.2,hp.1.2,hp.2⟩
theorem kiT {i:Nat} (h:i∈ps):posOf ps i<ps.length:=List.idxOf_lt_length_iff.2 h
theorem klK {i:Nat} (h:i∈ps):ps[posOf ps i]?=some i:=by
 rw [jaf (kiT h)];exact congrArg some (List.getElem_idxOf (kiT h))
theorem kuQ {i j:Nat} (e:i∈ps) (b:j∈ps) (h:posOf ps i=posOf ps j):i=j:=by
 have a:=klK e;rw [h,klK b] at a;exact (Option.some.inj a).symm
theorem kmY (hp:kdR l.length ps=true) {i:Nat} {o:Oper} (a:l[i]?=some o):(permL l ps ex)[posOf ps i]?=some (renO ps ex i o):=by
 have b:=(kbZ hp).2.2.1 i (jae.1 a).1;simp only [permL,jas,klK b,jcb,a]
theorem khd (hp:kdR l.length ps=true):(permL l ps ex).length=l.length:=by simp [permL,(kbZ hp).1]
def RespS (ex:Ya (Nat×Nat)):Array Bool->Ya Nat->Prop
 | _,[]=>True
 | listed,i :: σ=>(∀ x,(x,i)∈ex->listed.getD x false=true)/\RespS ex (listed.setIfInBounds i true) σ
theorem RespS.nil:∀ (σ:Ya Nat) (a:Array Bool),RespS [] a σ
 | [],_=>trivial
 | i :: σ,a=>⟨λx b=>(by cases b),RespS.nil σ _⟩
theorem RespS.cons {p:Nat×Nat} {ex:Ya (Nat×Nat)}:∀ {σ:Ya Nat} {a:Array Bool},RespS [p] a σ->RespS ex a σ->RespS (p::ex) a σ
 | [],_,_,_=>trivial
 | i :: σ,a,h,g=>⟨λx b=>(jbi.1 b).elim (λe=>h.1 x (by rw [<-e]; simp)) (λb=>g.1 x b),h.2.cons g.2⟩
theorem ktU {a:Array Bool} {i j:Nat} (h:a.getD i false=true):(a.setIfInBounds j true).getD i false=true:=by
 by_cases e:j=i
 ·subst e;have b:j<a.size:=by
   rw [jag] at h;rcases jbz j a.size with f | f
   ·exact f
   ·rw [jeb f] at h; cases h
  simp [jag,b]
 ·rw [getD_set_ne _ e]; exact h
theorem RespS.done {i j:Nat}:∀ {σ:Ya Nat} {a:Array Bool},a.getD i false=true->RespS [(i,j)] a σ
 | [],_,_=>trivial
 | k :: σ,a,h=>⟨λx b=>(by simp at b; rw [b.1]; exact h),RespS.done (ktU h)⟩
theorem knO {i j:Nat} (e:i≠j):∀ (σ:Ya Nat) (a:Array Bool),i<a.size->j<a.size->RespS [(i,j)] a σ\/RespS [(j,i)] a σ
 | [],_,_,_=>.inl trivial
 | k :: σ,a,hi,hj=>by
  by_cases f:k=i
  ·subst f;exact .inl ⟨λx b=>(by simp at b; exact absurd b.2 e),RespS.done (by simp [jag,hi])⟩
  ·by_cases g:k=j
   ·subst g;exact .inr ⟨λx b=>(by simp at b; exact absurd b.2.symm e),RespS.done (by simp [jag,hj])⟩
   ·rcases knO e σ (a.setIfInBounds k true) (by simpa using hi) (by simpa using hj) with h | h
    ·exact .inl ⟨λx b=>(by simp at b; exact absurd b.2 g),h⟩
    ·exact .inr ⟨λx b=>(by simp at b; exact absurd b.2 f),h⟩
def keS (n:Nat) (conf:Ya (Nat×Nat)->Yb (Nat×Nat)):Nat->Ya (Nat×Nat)->Ya (Ya (Nat×Nat))
 | 0,ex=>[ex]
 | f+1,ex=>match conf ex with
  | none=>[ex]
  | some (i,j)=>if i≠j/\i<n/\j<n then keS n conf f ((i,j)::ex)++keS n conf f ((j,i)::ex) else [ex]
theorem kjr {conf:Ya (Nat×Nat)->Yb (Nat×Nat)} {σ:Ya Nat} {a:Array Bool}:∀ (f:Nat) (ex:Ya (Nat×Nat)),RespS ex a σ->∃ e∈keS a.size conf f ex,RespS e a σ
 | 0,ex,h=>⟨ex,by simp [keS],h⟩
 | f+1,ex,h=>by
  unfold keS;split
  ·exact ⟨ex,by simp,h⟩
  ·rename_i i j _;split
   ·rename_i m;rcases knO m.1 σ a m.2.1 m.2.2 with g | g
    ·obtain ⟨e,b,hr⟩:=kjr (conf:=conf) f _ (g.cons h);exact ⟨e,List.mem_append_left _ b,hr⟩
    ·obtain ⟨e,b,hr⟩:=kjr (conf:=conf) f _ (g.cons h);exact ⟨e,List.mem_append_right _ b,hr⟩
   ·exact ⟨ex,by simp,h⟩
structure Lst (n:Nat) (ps:List Nat) (listed listed':Array Bool):Prop where
 s:listed.size=n
 s':listed'.size=n
 eq:∀ i,i<n->listed'.getD (posOf ps i) false=listed.getD i false
theorem kio {a:Array Bool} {i:Nat} (h:i<a.size) (b c:Bool):a.getD i b=a.getD i c:=by simp [jag,h]
theorem Lst.set (hp:kdR l.length ps=true) {b a:Array Bool} (h:Lst l.length ps b a) {i:Nat} (g:i<l.length):Lst l.length ps (b.setIfInBounds i true) (a.setIfInBounds (posOf ps i) true):=by
 obtain ⟨p1,p2,p3,p⟩:=kbZ hp;refine ⟨by simpa using h.s,by simpa using h.s',λj m=>?_⟩;by_cases f:i=j
 ·subst f;have:=kiT (p3 i g);simp [jag,h.s,h.s',g,show posOf ps i<l.length by omega]
 ·rw [getD_set_ne _ f,getD_set_ne _ (λe=>f (kuQ (p3 i g) (p3 j m) e))];exact h.eq j m
theorem ksR (m:backw l=true) {a:Array Bool} (t:a.size=l.length) (hr:Region.ready .any l.toArray a=[]):∀ i,i<l.length->a.getD i false=true:=by
 intro i;induction i using Nat.strongRecOn with
 | _ i j=>
  intro p;cases hl:a.getD i false with
  | true=>rfl
  | false=>
   have:i∈Region.ready .any l.toArray a:=mem_ready.2 ⟨by rw [kio (by omega) true false]; exact hl,l[i],by simp,λe g f=>by
    have b:=kmo m (jaf p) e g f;exact j e.on b (by omega)⟩
   rw [hr] at this; cases this
theorem koc (hp:kdR l.length ps=true) (y:backw l=true):∀ (σ:Ya Nat) (b a:Array Bool),Lst l.length ps b a->Legal l.toArray b σ->RespS ex b σ->Legal (permL l ps ex).toArray a (σ.map (posOf ps))
 | [],b,a,hl,h,_=>by
  obtain ⟨p1,p2,p3,M⟩:=kbZ hp;show Region.ready .any _ _=[];have t:=ksR y hl.s h;refine jcy.2 λk U=>?_;obtain ⟨B,o,h2,_⟩:=mem_ready.1 U;have w:k<l.length:=by have:=(jaj.1 h2).1; simpa [khd hp] using this
  have J:ps[k]'(by omega)∈ps:=jdh _;have I:posOf ps (ps[k]'(by omega))=k:=by
   have:=klK J;exact ((List.getElem?_inj (i:=k) (j:=posOf ps (ps[k]'(by omega))) (by rw [p1]; exact w) M).1 (by rw [this]; exact (jaf (by omega)))).symm
  have u:=hl.eq _ (p2 _ J);rw [I,t _ (p2 _ J),kio (by have:=hl.s'; omega) false true,B] at u;cases u
 | i :: σ,b,a,hl,h,hr=>by
  obtain ⟨p1,p2,p3,M⟩:=kbZ hp;obtain ⟨B,o,h2,u⟩:=mem_ready.1 h.1;have G:l[i]?=some o:=by simpa using h2
  have p:=(jae.1 G).1;refine ⟨mem_ready.2 ⟨?_,_,by rw [jca]; exact kmY hp G,λe R Y=>?_⟩,koc hp y σ _ _ (hl.set hp p) h.2 hr.2⟩
  ·have:=kiT (p3 i p);rw [kio (by have:=hl.s'; omega) true false,hl.eq i p,kio (by have:=hl.s; omega) false true];exact B
  ·simp only [renO,List.mem_toArray,jay,jba,jdy] at R;rcases R with ⟨e',⟨C,m⟩,rfl⟩ | ⟨x,⟨X,L⟩,rfl⟩
   ·have f:e'∈o.after:=by simpa using C
    have T:=kmo y G e' f m;show a.getD (posOf ps e'.on) false=true;rw [hl.eq _ (by omega)];exact u e' f m
   ·have:x.2=i:=by simpa using L
    have H:=hr.1 x.1 (by rw [<-this]; exact X);have v:x.1<l.length:=by
     rcases jbz x.1 b.size with g | g
     ·rw [hl.s] at g; exact g
     ·rw [jag,jeb g] at H; cases H
    show a.getD (posOf ps x.1) false=true;rw [hl.eq _ v];exact H
theorem kqq (hp:kdR l.length ps=true) (tmps:Array Yd) (g:Nat):yielded (permL l ps ex).toArray tmps (posOf ps g)=yielded l.toArray tmps g:=by
 obtain ⟨p1,p2,p3,f⟩:=kbZ hp;unfold yielded;have:((permL l ps ex).toArray[posOf ps g]?).bind (·.dst)=(l.toArray[g]?).bind (·.dst):=by
  rw [jca,jca];cases a:l[g]? with
  | some o=>rw [kmY hp a]; rfl
  | none=>
   have e:¬ g∈ps:=λb=>by have:=p2 g b; rw [jaf this] at a; cases a
   have:posOf ps g=ps.length:=List.idxOf_eq_length e;rw [this,jcd (by simp [permL])]
 rw [this]
theorem krJ {F:Fence} {n:Nat} {P:Ye} {Q:Exit->Act->World->Prop} (hp:kdR l.length ps=true):∀ (σ:Ya Nat) (a:Act) (w:World),(∀ i∈σ,i<l.length)->wpOpsIn F n P (permL l ps ex).toArray Q (σ.map (posOf ps)) a w->wpOpsIn F n P l.toArray Q σ a w
 | [],a,w,_,h=>h
 | i :: σ,a,w,hi,h=>by
  rw [jat,wpOpsIn_cons] at h;rw [wpOpsIn_cons];have h:=wpOpIn_mono (λa w m=>krJ hp σ a w (λj f=>hi j (jbm _ f)) m) h;have b:l[i]?=some (l[i]'(hi i (by simp))):=jaf _;unfold wpOpIn at h ⊢;rw [jca,kmY hp b] at h;rw [jca,b];simp only at h ⊢;have e:Region.wanted (renO ps ex i (l[i]'(hi i (by simp)))) (yielded (permL l ps ex).toArray a.tmps)=Region.wanted (l[i]'(hi i (by simp))) (yielded l.toArray a.tmps):=by
   unfold Region.wanted;simp only [renO];cases (l[i]'(hi i (by simp))).guard with
   | none=>rfl
   | some g=>simp only [jcb]; rw [kqq hp]
  rw [e] at h;exact h
theorem kpK {ops:Array Oper}:∀ {σ:Ya Nat} {a:Array Bool},Legal ops a σ->∀ i∈σ,i<ops.size
 | [],_,_,i,b=>by cases b
 | j :: σ,a,h,i,b=>by
  rcases jbi.1 b with rfl | b
  ·obtain ⟨_,o,h2,_⟩:=mem_ready.1 h.1;exact (jaj.1 h2).1
  ·exact kpK h.2 i b
end
section
variable {P:Ye} {N:Nat} {D:DX} {O:Nat->Prop} {st:St} {Q:Exit->St->Prop} {l:Ya Oper}
def SatA (P:Ye) (N:Nat) (D:DX) (O:Nat->Prop) (l:Ya Oper) (Q:Exit->St->Prop) (st:St):Prop:=
 ∀ b,OKO D O b->∀ ro μ a w,RO D ro w μ->SR N D b μ st a w->wpAnyIn (FF ro) 0 P .any l.toArray (Post N D O Q μ w st.n) l.length (Array.replicate l.length false) a w.drew
theorem Sat.drawV {id:Nat} (y:P.follows .mixedOrders=true) (u:backw l=true) {conf:Ya (Nat×Nat)->Yb (Nat×Nat)} {f:Nat}
  (C:∀ ex∈keS l.length conf f [],∃ ps,kdR l.length ps=true/\SatA P N D O (permL l ps ex) Q st):Sat P N D O (.region id l.toArray true) Q st:=by
 intro B o ro μ a w j x;refine wpIn_region_draw λt=>?_;simp only [Region.schedule,y,Bool.true_or,if_true,Region.linearise];have v:=kkN (ops:=l.toArray) l.toArray.size t (Array.replicate l.toArray.size false) ⟨List.range l.toArray.size,by simp,λi b _=>jec.2 b⟩ (by simp);obtain ⟨e,m⟩:=v;have p:(Array.replicate l.toArray.size false).size=l.length:=by simp
 obtain ⟨ex,g,hr⟩:=kjr (conf:=conf) f [] (RespS.nil (Region.linearise.go .any l.toArray l.toArray.size t (Array.replicate l.toArray.size false) []) (Array.replicate l.toArray.size false));rw [p] at g;obtain ⟨ps,hp,hA⟩:=C ex g;have h:=hA B o ro μ a w j x;refine krJ hp _ _ _ (λi b=>by simpa using kpK e i b) (kjK _ _ _ _ _ ?_ (koc hp u _ _ _ ⟨by simp,by simp [khd hp],λi b=>?_⟩ e hr) h)
 ·rw [jbb,khd hp]; simpa using m
 ·have G:=kiT ((kbZ hp).2.2.1 i b);have h2:=(kbZ hp).1;simp [jag,khd hp,b,show posOf ps i<l.length by omega]
theorem Sat.draw0 {id:Nat} (g:P.follows .mixedOrders=true) (h:SatA P N D O l Q st):Sat P N D O (.region id l.toArray true) Q st:=by
 intro j o ro μ a w f p;refine wpIn_region_draw λt=>?_;simp only [Region.schedule,g,Bool.true_or,if_true,Region.linearise];have u:=kkN (ops:=l.toArray) l.toArray.size t (Array.replicate l.toArray.size false) ⟨List.range l.toArray.size,by simp,λi m _=>jec.2 m⟩ (by simp);obtain ⟨e,b⟩:=u;exact kjK _ _ _ _ _ (by simpa using b) (by simpa using e) (h j o ro μ a w f p)
theorem SatA.of_tree {W:Nat->Bool} {anc:Nat->Ya Nat} (H:kcz l=true) (m:kaY N l=true) (g:∀ i j,i∈anc j->Anc l i j) (hW:∀ w j,w<j->j<l.length->W w=true->Anc l w j)
  (J:treeD P (l.map (·.dst)) W anc l 0 st [] λst=>Q .normal st):SatA P N D O l Q st:=by
 intro y o ro μ a w _ B;obtain ⟨C,x⟩:=B.hr.drew;have u:SR N D y μ ⟨st.env,st.h,st.n⟩ a w.drew:=B.step x C;have L:Can P l st W 0 (λ_=>st.env) (λ_=>.ud) (λ_=>false) st.h [] (λ_=>False):=⟨λs=>rfl,λj o G=>by omega,λj o G=>by omega,λj o G=>by omega⟩;obtain ⟨U,T,Z,X,v,e,g1,M,g3,g4,g5,I⟩:=Can.adv (anc:=anc) (K:=λst=>Q .normal st) l.length 0 (n:=st.n) (env:=st.env) (by omega) L (λs=>rfl) (by simpa using J) (λi p=>p.elim);refine krR (D:=D) (O:=y) (st0:=st) (K:=λst=>Q .normal st) H m g hW (μ0:=μ) (w0:=w) (λf env h n Y a' w' R hl b t=>⟨⟨f,h,n⟩,Y,y,o,R,⟨b.hr,b.size,b.defers,λs=>?_,b.gs,b.gi.evo b.hr.refl λ_=>.inl (hl GS).symm⟩,t.d⟩)
  _ _ (λ_=>False) U T Z X v e st.env st.h st.n μ a w.drew (by simp) (λi p=>by simp [jag,p]) (λi h=>h.elim) M (λj o _ h=>h.elim) ⟨λs _=>rfl,λs i oi h=>h.elim⟩ g3 g5 I u C ⟨List.range l.length,by simp,λi p _=>jec.2 p⟩
 have:=b.env s;rw [hl s] at this; exact this
end
section
variable {A:Alg} (P:Ye) (c:Cx A) {ρ:Ty}
def khX (s:TS A) (T:Yc) (v:TV A) (f:Nat) (K:TV A->TS A->A.Ans ρ):A.Ans ρ:=
 match fldO P T f with
 | none=>A.fail "fieldAddr type"
 | some (d,_)=>match v with
  | .ptr id j=>if (thp c s id).any kbe then K (.ptr id (j+d)) s else A.fail ""
  | .adr id i j=>if (thp c s id).any kbe then K (.adr id i (j+d)) s else A.fail ""
  | .fq t x o=>K (.fq t x (o+d)) s
  | .c (.pt t) x=>K (.fq t (A.k1 (x:=.pt t) (y:=t) "" (λv=>v) x) d) s
  | _=>A.fail "fieldAddr"
def koV (s:TS A) (T:Yc) (v:TV A) (f:Nat) (K:TV A->TS A->A.Ans ρ):A.Ans ρ:=
 match fldO P T f with
 | none=>A.fail "field type"
 | some (d,ft)=>match aggO P ft with
  | none=>A.fail "field type"
  | some ag=>let m:=P.cellsOf ft
   match v with
   | .c t x=>if t.agg then partX t x d m ag λv=>K v s else A.fail "field"
   | .ag vs=>if ag then (if d+m<=vs.length then K (.ag ((vs.drop d).take m)) s else A.fail "field") else match vs[d]? with
    | some v=>K v s
    | none=>A.fail "field"
   | _=>A.fail "field"
def klf (s:TS A) (T:Yc) (v i:TV A) (K:TV A->TS A->A.Ans ρ):A.Ans ρ:=
 match kcU i with
 | none=>A.fail "index kind"
 | some i=>match v with
  | .c (.sl t) l=>if elemO P T=none\/(elemO P T).map P.cellsOf≠some t.wd\/t.wd=0 then A.fail "index type" else A.p2 (x:=.sl t) (y:=.i .i64) (z:=t) "" (λl i=>gi l i) l i λy=>K (.fq t y 0) s
  | .mw id=>match thp c s id,elemO P T with
   | some (.sl _ t l),some e=>if t.wd=P.cellsOf e/\t.wd≠0 then A.p2 (x:=.sl t) (y:=.i .i64) (z:=t) "" (λl i=>gi l i) l i λ_=>K (.adr id i 0) s else A.fail "index width"
   | _,_=>A.fail ""
  | .ms id off len=>match thp c s id,elemO P T with
   | some (.sl _ t l),some e=>if t.wd=P.cellsOf e/\t.wd≠0 then A.p3 (x:=.i .i64) (y:=.i .i64) (z:=.i .i64) (u:=.i .i64) "" (λo n i=>gmi o n i) off len i λj=>K (.adr id j 0) s else A.fail "index width"
   | _,_=>A.fail ""
  | .ptr id j=>if j≠0 then A.fail "index array" else match thp c s id,arrO P T with
   | some (.el _ (.ar n t) x),some (m,e)=>if m=n/\t.wd=1/\P.cellsOf e=1 then A.p2 (x:=.ar n t) (y:=.i .i64) (z:=t) "" (λl i=>garr l i) x i λ_=>K (.aa id i) s else A.fail "index array"
   | _,_=>A.fail ""
  | .adr id a j=>if j≠0 then A.fail "index array" else match thp c s id,arrO P T with
   | some (.sl _ (.ar n t) l),some (m,e)=>if m=n/\t.wd=1/\P.cellsOf e=1 then A.p2 (x:=.sl (.ar n t)) (y:=.i .i64) (z:=.ar n t) "" (λl i=>gi l i) l a λx=>A.p2 (x:=.ar n t) (y:=.i .i64) (z:=t) "" (λl i=>garr l i) x i λ_=>K (.ax id a i) s else A.fail "index array"
   | _,_=>A.fail ""
  | _=>A.fail "indexAddr"
def idxAg (s:TS A) (m:Nat) (ag:Bool) (vs:Ya (TV A)) (i:A.D (.i .i64)) (K:TV A->TS A->A.Ans ρ):Nat->Nat->A.Ans ρ
 | 0,_=>A.stop
 | f+1,k=>A.ite (A.k1 (x:=.i .i64) (y:=.b) (""++toString k++ "") (λ(i:Int)=>decide (i=(k:Int))) i)
   (match ag with
    | true=>K (.ag ((vs.drop (k*m)).take m)) s
    | false=>match vs[k*m]? with
     | some v=>K v s
     | none=>A.fail "index of a value")
   (idxAg s m ag vs i K f (k+1))
def idxX (s:TS A) (T:Yc) (v i:TV A) (K:TV A->TS A->A.Ans ρ):A.Ans ρ:=
 match v with
 | .c .s l=>match getI i with
  | none=>A.fail "index kind"
  | some ⟨k,i⟩=>if ket P T then A.p2 (x:=.s) (y:=.i k) (z:=.i .u8) "" gstr l i λy=>K (.c (.i .u8) y) s else A.fail "index type"
 | v=>match kcU i with
 | none=>A.fail "index kind"
 | some i=>match v with
  | .c (.ar n t) x=>match arrO P T with
   | some (m,e)=>if m=n/\t.wd=P.cellsOf e/\t.wd≠0/\aggO P e=some t.agg then A.p2 (x:=.ar n t) (y:=.i .i64) (z:=t) "" (λl i=>garr l i) x i λy=>K (.c t y) s else A.fail "index array"
   | none=>A.fail "index array"
  | .ag vs=>match arrO P T with
   | some (m,e)=>match aggO P e with
    | some ag=>if P.cellsOf e≠0/\vs.length=m*P.cellsOf e then idxAg s (P.cellsOf e) ag vs i K m 0 else A.fail "index value"
    | none=>A.fail "index value"
   | none=>A.fail "index value"
  | _=>A.fail "index"
def lenX (s:TS A) (T:Yc) (v:TV A) (K:TV A->TS A->A.Ans ρ):A.Ans ρ:=
 match v with
 | .c (.sl t) l=>if (elemO P T).isSome then K (.c (.i .i64) (A.k1 (x:=.sl t) (y:=.i .i64) "" (λl=>lenI l) l)) s else A.fail "len type"
 | .mw id=>match thp c s id with
  | some (.sl _ t l)=>if (elemO P T).isSome then K (.c (.i .i64) (A.k1 (x:=.sl t) (y:=.i .i64) "" (λl=>lenI l) l)) s else A.fail "len type"
  | _=>A.fail ""
 | .ms id _ len=>match thp c s id with
  | some (.sl _ _ _)=>if (elemO P T).isSome then K (.c (.i .i64) len) s else A.fail "len type"
  | _=>A.fail ""
 | .sc u=>if kbz u/\(elemO P T).isSome then K (.c (.i .i64) (toI A 0 .i64)) s else A.fail "len type"
 | .c .s l=>if ket P T then K (.c (.i .i64) (A.k1 (x:=.s) (y:=.i .i64) "" (λl=>lenI l) l)) s else A.fail "len type"
 | .mp id=>match thp c s id with
  | some (.mp k v l)=>if kqi P T then K (.c (.i .i64) (A.k1 (x:=.sl (.pr k v)) (y:=.i .i64) "" (λl=>lenI l) l)) s else A.fail "len type"
  | _=>A.fail ""
 | _=>A.fail "len"
def loD (a:Yb (TV A)):Yb (A.D (.i .i64)):=
 match a with
 | none=>some (toI A 0 .i64)
 | some v=>kcU v
def hiD (a:Yb (TV A)) (n:A.D (.i .i64)):Yb (A.D (.i .i64)):=
 match a with
 | none=>some n
 | some v=>kcU v
def koG (s:TS A) (T:Yc) (v:TV A) (g f:Yb (TV A)) (K:TV A->TS A->A.Ans ρ):A.Ans ρ:=
 match loD g with
 | none=>A.fail "slice bounds"
 | some g=>
  match v with
  | .c (.sl t) l=>match hiD f (A.k1 (x:=.sl t) (y:=.i .i64) "" (λl=>lenI l) l),elemO P T with
   | some f,some e=>if t.wd=P.cellsOf e/\(P.info? e).isSome/\s.dy=false then A.p3 (x:=.sl t) (y:=.i .i64) (z:=.i .i64) (u:=.sl t) "" (λl a b=>gsl l a b) l g f λy=>K (.c (.sl t) y) s else A.fail "slice type"
   | _,_=>A.fail "slice bounds"
  | .mw id=>match thp c s id with
   | some (.sl _ t l)=>match hiD f (A.k1 (x:=.sl t) (y:=.i .i64) "" (λl=>lenI l) l),elemO P T with
    | some f,some e=>if t.wd=P.cellsOf e/\t.wd≠0/\(P.info? e).isSome then A.p3 (x:=.sl t) (y:=.i .i64) (z:=.i .i64) (u:=.sl t) "" (λl a b=>gsl l a b) l g f λ_=>
      K (.ms id g (A.k2 (x:=.i .i64) (y:=.i .i64) (z:=.i .i64) "" (λ(a b:Int)=>a-b) f g)) s else A.fail "slice type"
    | _,_=>A.fail "slice bounds"
   | _=>A.fail ""
  | .ms id off len=>match thp c s id with
   | some (.sl _ t _)=>match hiD f len,elemO P T with
    | some f,some e=>if t.wd=P.cellsOf e/\t.wd≠0/\(P.info? e).isSome then A.p3 (x:=.i .i64) (y:=.i .i64) (z:=.i .i64) (u:=.un) "" (λn a b=>gmb n a b) len g f λ_=>
      K (.ms id (A.k2 (x:=.i .i64) (y:=.i .i64) (z:=.i .i64) "" (λ(a b:Int)=>a+b) off g) (A.k2 (x:=.i .i64) (y:=.i .i64) (z:=.i .i64) "" (λ(a b:Int)=>a-b) f g)) s else A.fail "slice type"
    | _,_=>A.fail "slice bounds"
   | _=>A.fail ""
  | .fw id=>match thp c s id with
   | some (.fm _ t _ _ _ l none)=>match hiD f (A.k1 (x:=.sl t) (y:=.i .i64) "" (λl=>lenI l) l),elemO P T with
    | some f,some e=>if t.wd=P.cellsOf e/\t.wd≠0/\(P.info? e).isSome then A.p3 (x:=.sl t) (y:=.i .i64) (z:=.i .i64) (u:=.sl t) "" (λl a b=>gsl l a b) l g f λ_=>
      K (.fs id g (A.k2 (x:=.i .i64) (y:=.i .i64) (z:=.i .i64) "" (λ(a b:Int)=>a-b) f g)) s else A.fail "slice type"
    | _,_=>A.fail "slice bounds"
   | _=>A.fail ""
  | .c .s l=>match hiD f (A.k1 (x:=.s) (y:=.i .i64) "" (λl=>lenI l) l) with
   | some f=>if ket P T then A.p3 (x:=.s) (y:=.i .i64) (z:=.i .i64) (u:=.s) "" (λl a b=>gsl l a b) l g f λy=>K (.c .s y) s else A.fail "slice type"
   | none=>A.fail "slice bounds"
  | _=>A.fail "slice"
def strI (l:Ya UInt8):Ya Int:=l.map λb=>(b.toNat:Int)
def srcX (s:TS A) (t:Ty) (v:TV A):Yb (A.D (.sl t)×Ya Nat):=
 match v with
 | .c .s x=>(tcast (.sl t) (A.k1 (x:=.s) (y:=.sl (.i .u8)) "" strI x)).map λy=>(y,[])
 | .c _ _=>if s.dy then none else snapV c s (.sl t) v
 | .fw _=>none
 | .fr _ _=>none
 | .fs _ _ _=>none
 | v=>snapV c s (.sl t) v
def appX (s:TS A) (T g:Yc) (d v:TV A) (K:TV A->TS A->A.Ans ρ):A.Ans ρ:=
 match elemO P T with
 | none=>A.fail "append type"
 | some e=>match tyOf P e,zeroO P e with
  | some t,some z=>
   if khE P g/\z.length=t.wd/\t.wd≠0/\P.bytesOf e<=1024 then
    match srcX c s t v with
    | none=>A.fail "append source"
    | some (xs,ids)=>
     let f:=λ(s:TS A) (l:A.D (.sl t))=>A.p2 (x:=.sl t) (y:=.sl t) (z:=.sl t) "" (λa b=>gapp a b) l xs λl'=>newSl s e t l' K
     match d with
     | .mw id=>match alk s.hp id with
      | some (some (.sl e' t' l))=>if e'=e/\¬ id∈ids then match tcast (.sl t) l with
        | some l=>f { s with hp:=(id,none)::s.hp } l
        | none=>A.fail "append elem"
       else A.fail "append elem"
      | _=>A.fail ""
     | .sc u=>if kbz u then f s (A.k0 (x:=.sl t) "" []) else A.fail "append"
     | _=>A.fail "append"
   else A.fail "append plain"
  | _,_=>A.fail "append elem type"
def copyX (s:TS A) (T:Yc) (d v:TV A) (K:TV A->TS A->A.Ans ρ):A.Ans ρ:=
 match elemO P T with
 | none=>A.fail "copy type"
 | some e=>match tyOf P e,zeroO P e with
  | some t,some z=>
   if z.length=t.wd/\t.wd≠0 then
    match srcX c s t v with
    | none=>A.fail "copy source"
    | some (xs,_)=>
     let f:=λ(len:A.D (.i .i64))=>A.k2 (x:=.i .i64) (y:=.i .i64) (z:=.i .i64) "" (λ(a b:Int)=>if b<a then b else a) (A.k1 (x:=.sl t) (y:=.i .i64) "" (λl=>lenI l) xs) len
     match d with
     | .mw id=>match alk s.hp id with
      | some (some (.sl e' t' l))=>match tcast (.sl t) l with
       | some l=>K (.c (.i .i64) (f (A.k1 (x:=.sl t) (y:=.i .i64) "" (λl=>lenI l) l))) { s with hp:=(id,some (.sl e' t (A.k2 (x:=.sl t) (y:=.sl t) (z:=.sl t) "" (λl xs=>lcopy l 0 (lenI l) xs) l xs)))::s.hp }
       | none=>A.fail "copy elem"
      | _=>A.fail ""
     | .ms id off len=>match alk s.hp id with
      | some (some (.sl e' t' l))=>match tcast (.sl t) l with
       | some l=>K (.c (.i .i64) (f len)) { s with hp:=(id,some (.sl e' t (A.k3 (x:=.sl t) (y:=.pr (.i .i64) (.i .i64)) (z:=.sl t) (u:=.sl t) "" (λl p xs=>lcopy l p.1 p.2 xs) l (A.k2 (x:=.i .i64) (y:=.i .i64) (z:=.pr (.i .i64) (.i .i64)) "" Prod.mk off len) xs)))::s.hp }
       | none=>A.fail "copy elem"
      | _=>A.fail ""
     | .sc u=>if kbz u then K (.c (.i .i64) (toI A 0 .i64)) s else A.fail "copy"
     | _=>A.fail "copy"
   else A.fail "copy plain"
  | _,_=>A.fail "copy elem type"
def mmX (mx:Bool) (s:TS A) (x y:TV A) (K:TV A->TS A->A.Ans ρ):A.Ans ρ:=
 match x,y with
 | .c (.i k) a,.c (.i k') b=>if k=k' then K (.c (.i k) (if mx then A.k2 (x:=.i k) (y:=.i k') (z:=.i k) "" (λ(a b:Int)=>if a<b then b else a) a b else A.k2 (x:=.i k) (y:=.i k') (z:=.i k) "" (λ(a b:Int)=>if b<a then b else a) a b)) s else A.fail "minmax"
 | _,_=>A.fail "minmax"
def imax (a b:Int):Int:=if a<b then b else a
def imin (a b:Int):Int:=if b<a then b else a
def TV.has (id:Nat):TV A->Bool
 | .ptr i _=>i==id
 | .adr i _ _=>i==id
 | .aa i _=>i==id
 | .ax i _ _=>i==id
 | .mw i=>i==id
 | .ms i _ _=>i==id
 | .mp i=>i==id
 | .fw i=>i==id
 | .fr i _=>i==id
 | .fo i _ _=>i==id
 | .fa i _ _ _=>i==id
 | .fs i _ _=>i==id
 | .yl i=>i==id
 | .kp i=>i==id
 | .np i=>i==id
 | .fn _ vs=>hasL vs
 | .tp vs=>hasL vs
 | .ag vs=>hasL vs
 | _=>false
where hasL:Ya (TV A)->Bool
 | []=>false
 | v::vs=>v.has id||hasL vs
def TB.has (id:Nat):TB A->Bool
 | .bx _ vs=>TV.has.hasL id vs
 | _=>false
def Cx.has (c:Cx A) (id:Nat):Bool:=(alk c.g id).isSome||c.e0.any (λx=>x.2.has id)||c.g.any (λx=>x.2.has id)
mutual
def pvT:TV A->PV
 | .c t _=>.c t
 | .kb _=>.c .b
 | .sc v=>.sc v
 | .ptr i j=>.ptr i j
 | .mw i=>.mw i
 | .mp i=>.mp i
 | .fw i=>.fw i
 | .np i=>.np i
 | .fn g cs=>.fn g (pvTs cs)
 | .ag vs=>.ag (pvTs vs)
 | .ud=>.ud
 | .gs t _=>.gs t
 | .cv n x y _=>.c (.fn n x y)
 | _=>.un
def pvTs:Ya (TV A)->Ya PV
 | []=>[]
 | v::vs=>pvT v::pvTs vs
end
def pbT:TB A->PB
 | .bx T vs=>.bx T (pvTs vs)
 | .el T t _=>.el T t
 | .sl T t _=>.sl T t
 | .mp k v _=>.mp k v
 | .fm T t j U u _ _=>.fm T t j U u
 | .si _=>.si
 | .km l=>.km l
mutual
def TV.ids:TV A->Ya Nat
 | .ptr i _=>[i]
 | .adr i _ _=>[i]
 | .aa i _=>[i]
 | .ax i _ _=>[i]
 | .mw i=>[i]
 | .ms i _ _=>[i]
 | .mp i=>[i]
 | .fw i=>[i]
 | .fr i _=>[i]
 | .fo i _ _=>[i]
 | .fs i _ _=>[i]
 | .fa i _ _ _=>[i]
 | .yl i=>[i]
 | .kp i=>[i]
 | .np i=>[i]
 | .fn _ vs=>TV.idsL vs
 | .tp vs=>TV.idsL vs
 | .ag vs=>TV.idsL vs
 | _=>[]
def TV.idsL:Ya (TV A)->Ya Nat
 | []=>[]
 | v::vs=>v.ids++TV.idsL vs
end
def askX (s:TS A) (g:Nat) (args:Ya (TV A)):A.Ans ρ:=
 match args.any λv=>match v with | .sc (.pointer none)=>true | _=>false with
 | true=>A.stop
 | false=>match c.g.find? λx=>args.any (λv=>v.has x.1)||s.hp.any (λy=>y.2.any λb=>b.has x.1) with
 | some x=>A.fail ""
 | none=>match (args.flatMap λv=>v.ids++v.ids.flatMap λi=>match thp c s i with | some (.bx _ vs)=>TV.idsL vs | _=>[]).find? λi=>(thp c s i).isNone with
 | some i=>A.fail ""
 | none=>A.ask g (args.zipIdx.map λx=>(x.2,pvT x.1)) (s.hp.filterMap λx=>x.2.map λb=>(x.1,pbT b))
def askR (s:TS A):A.Ans ρ:=A.ask 1000000 ((s.env++c.e0).map λx=>(x.1,pvT x.2)) ((s.hp.filterMap λx=>x.2.map λb=>(x.1,pbT b))++c.g.map λx=>(x.1,pbT x.2))
structure Mt (A:Alg) where
 ids:List (Nat×Nat)
 cs:List ((t:Ty)×A.D t)
 sn:List Nat
def Mt.bindId (m:Mt A) (p q:Nat):Yb (Mt A):=
 match alk m.ids p with
 | some a=>if q=a then some m else none
 | none=>if m.ids.all λx=>x.2 != q then some { m with ids:=(p,q)::m.ids } else none
mutual
def mtV (s:TS A):PV->TV A->Mt A->Yb (Mt A)
 | .un,_,m=>some m
 | .ud,.ud,m=>some m
 | .gs t,.gs t' l,m=>(tcast (.sl t) l).map λy=>{ m with cs:=m.cs++[⟨.sl t,y⟩] }
 | .c t,v,m=>(snapV c s t v).map λy=>{ m with cs:=m.cs++[⟨t,y.1⟩],sn:=m.sn++y.2 }
 | .sc u,.sc v,m=>if (kbz u/\kbz v)\/(khF u/\khF v)\/(klF u/\klF v) then some m else none
 | .ptr p j,.ptr q j',m=>if j=j' then m.bindId p q else none
 | .mw p,.mw q,m=>m.bindId p q
 | .mp p,.mp q,m=>m.bindId p q
 | .fw p,.fw q,m=>m.bindId p q
 | .np p,.np q,m=>m.bindId p q
 | .fn g vs,.fn g' us,m=>if g=g' then mtL s vs us m else none
 | .ag vs,.ag us,m=>mtL s vs us m
 | _,_,_=>none
def mtL (s:TS A):Ya PV->Ya (TV A)->Mt A->Yb (Mt A)
 | [],[],m=>some m
 | v::vs,u::us,m=>(mtV s v u m).bind λm=>mtL s vs us m
 | _,_,_=>none
end
def mtB (s:TS A) (p:PB) (b:TB A) (m:Mt A):Yb (Mt A):=
 match p,b with
 | .bx T vs,.bx T' us=>if T=T' then mtL c s vs us m else none
 | .el T t,.el T' t' x=>if T=T' then (tcast t x).map λx=>{ m with cs:=m.cs++[⟨t,x⟩] } else none
 | .sl T t,.sl T' t' l=>if T=T' then (tcast (.sl t) l).map λx=>{ m with cs:=m.cs++[⟨.sl t,x⟩] } else none
 | .mp k v,.mp k' v' l=>(tcast (.sl (.pr k v)) l).map λx=>{ m with cs:=m.cs++[⟨.sl (.pr k v),x⟩] }
 | .fm T t j U u,.fm T' t' j' U' u' l none=>if T=T'/\j=j'/\U=U'/\u=u' then (tcast (.sl t) l).map λx=>{ m with cs:=m.cs++[⟨.sl t,x⟩] } else none
 | .si,.si x=>some { m with cs:=m.cs++[⟨.pr .s (.i .i64),x⟩] }
 | .km l,.km l'=>if l=l' then some m else none
 | _,_=>none
def mtE (s:TS A):Ya (Nat×PV)->Mt A->Yb (Mt A)
 | [],m=>some m
 | (x,p)::r,m=>(mtV c s p (tlk c s x) m).bind λm=>mtE s r m
def mtI (m:Mt A) (id:Nat):Yb (Mt A):=if (alk m.ids id).isNone&&c.has id then m.bindId id id else some m
def mtH (s:TS A):Ya (Nat×PB)->Mt A->Yb (Mt A)
 | [],m=>some m
 | (id,p)::r,m=>(mtI c m id).bind λm=>match alk m.ids id with
  | none=>none
  | some q=>match alk s.hp q with
   | some (some b)=>(mtB c s p b m).bind λm=>mtH s r m
   | _=>none
def pack (N:Nat) (p:Pat) (s:TS A):Yb (A.D p.ty):=
 (mtE c s p.env ⟨[],[],[]⟩).bind λm=>(mtH c s p.hp m).bind λm=>
  if m.sn.all (λq=>(ownB s q).isSome&&!c.has q&&m.ids.all λx=>x.2 != q)&&m.ids.all (λx=>decide (x.1<N))&&m.ids.all (λx=>decide (x.1=x.2)||((alk p.hp x.1).isSome&&!c.has x.1)) then mkT A p.tys m.cs else none
def packM (N:Nat) (p:Pat) (s:TS A) (i0:Ya Nat:=[]):Yb (Mt A):=
 (mtE c s p.env ⟨i0.map λi=>(i,i),[],[]⟩).bind λm=>(mtH c s p.hp m).bind λm=>
  if m.ids.all (λx=>decide (x.1<N)) then some m else none
mutual
def unV:PV->Ya ((t:Ty)×A.D t)->TV A×Ya ((t:Ty)×A.D t)
 | .c _,x::xs=>(.c x.1 x.2,xs)
 | .c _,[]=>(.un,[])
 | .gs t,x::xs=>(match tcast (.sl t) x.2 with | some y=>.gs t y | none=>.un,xs)
 | .gs _,[]=>(.un,[])
 | .un,xs=>(.un,xs)
 | .ud,xs=>(.ud,xs)
 | .sc v,xs=>(.sc v,xs)
 | .ptr p j,xs=>(.ptr p j,xs)
 | .mw p,xs=>(.mw p,xs)
 | .mp p,xs=>(.mp p,xs)
 | .fw p,xs=>(.fw p,xs)
 | .np p,xs=>(.np p,xs)
 | .fn g vs,xs=>let r:=unL vs xs; (.fn g r.1,r.2)
 | .ag vs,xs=>let r:=unL vs xs; (.ag r.1,r.2)
def unL:Ya PV->Ya ((t:Ty)×A.D t)->Ya (TV A)×Ya ((t:Ty)×A.D t)
 | [],xs=>([],xs)
 | v::vs,xs=>let r:=unV v xs; let q:=unL vs r.2; (r.1::q.1,q.2)
end
def unB:PB->Ya ((t:Ty)×A.D t)->Yb (TB A)×Ya ((t:Ty)×A.D t)
 | .bx T vs,xs=>let r:=unL vs xs; (some (.bx T r.1),r.2)
 | .el T t,x::xs=>((tcast t x.2).map λy=>.el T t y,xs)
 | .sl T t,x::xs=>((tcast (.sl t) x.2).map λy=>.sl T t y,xs)
 | .mp k v,x::xs=>((tcast (.sl (.pr k v)) x.2).map λy=>.mp k v y,xs)
 | .fm T t j U u,x::xs=>((tcast (.sl t) x.2).map λy=>.fm T t j U u y none,xs)
 | .si,x::xs=>((tcast (.pr .s (.i .i64)) x.2).map λy=>.si y,xs)
 | .km l,xs=>(some (.km l),xs)
 | _,[]=>(none,[])
def unE:Ya (Nat×PV)->Ya ((t:Ty)×A.D t)->Ya (Nat×TV A)×Ya ((t:Ty)×A.D t)
 | [],xs=>([],xs)
 | (k,v)::vs,xs=>let r:=unV v xs; let q:=unE vs r.2; ((k,r.1)::q.1,q.2)
def unH:Ya (Nat×PB)->Ya ((t:Ty)×A.D t)->Ya (Nat×Yb (TB A))×Ya ((t:Ty)×A.D t)
 | [],xs=>([],xs)
 | (k,v)::vs,xs=>let r:=unB v xs; let q:=unH vs r.2; ((k,r.1)::q.1,q.2)
def kak (p:Pat) (n:Nat) (l:Ya ((t:Ty)×A.D t)):TS A:=
 let e:=unE p.env l
 let h:=unH p.hp e.2
 ⟨e.1,h.1,n,true⟩
def kad (p:Pat) (n:Nat) (x:A.D p.ty):TS A:=
 let l:=unT A p.tys x
 let e:=unE p.env l
 let h:=unH p.hp e.2
 ⟨e.1,h.1,n,true⟩
mutual
def renV (f:Nat->Nat):TV A->TV A
 | .ptr i j=>.ptr (f i) j
 | .adr i x j=>.adr (f i) x j
 | .aa i x=>.aa (f i) x
 | .ax i x y=>.ax (f i) x y
 | .mw i=>.mw (f i)
 | .ms i a b=>.ms (f i) a b
 | .mp i=>.mp (f i)
 | .fw i=>.fw (f i)
 | .fr i x=>.fr (f i) x
 | .fo i x j=>.fo (f i) x j
 | .fs i x y=>.fs (f i) x y
 | .fa i x k o=>.fa (f i) x k o
 | .yl i=>.yl (f i)
 | .kp i=>.kp (f i)
 | .np i=>.np (f i)
 | .fn g vs=>.fn g (renL f vs)
 | .tp vs=>.tp (renL f vs)
 | .ag vs=>.ag (renL f vs)
 | v=>v
def renL (f:Nat->Nat):Ya (TV A)->Ya (TV A)
 | []=>[]
 | v::vs=>renV f v::renL f vs
end
def renB (f:Nat->Nat):TB A->TB A
 | .bx T vs=>.bx T (renL f vs)
 | b=>b
def pureV:Ya (Yb Ty)->Ya (TV A)->Ya (TV A)
 | some _::ks,v::vs=>v::pureV ks vs
 | none::ks,_::vs=>pureV ks vs
 | _,_=>[]
def TV.all (f w:Nat->Bool):TV A->Bool
 | .un=>false
 | .ptr i _=>f i
 | .adr i _ _=>f i&&w i
 | .aa i _=>f i&&w i
 | .ax i _ _=>f i&&w i
 | .mw i=>f i&&w i
 | .ms i _ _=>f i&&w i
 | .mp i=>f i
 | .np i=>f i
 | .fw i=>f i&&w i
 | .fr _ _=>false
 | .fo i _ _=>f i&&w i
 | .fs i _ _=>f i&&w i
 | .fa _ _ _ _=>false
 | .gs _ _=>false
 | .yl _=>false
 | .kp _=>false
 | .fn _ vs=>allL vs
 | .tp vs=>allL vs
 | .ag vs=>allL vs
 | _=>true
where allL:Ya (TV A)->Bool
 | []=>true
 | v::vs=>v.all f w&&allL vs
def TB.all (f w:Nat->Bool):TB A->Bool
 | .bx _ vs=>TV.all.allL f w vs
 | .fm _ _ _ _ _ _ a=>a.isNone
 | _=>true
def TB.needL:TB A->Bool
 | .sl _ _ _=>true
 | .el _ (.ar _ _) _=>true
 | .fm _ _ _ _ _ _ _=>true
 | _=>false
def kpY:PV->PV->Nat->Bool
 | .ptr i j,.ptr i' j',p=>i==p&&i'==p&&j==j'
 | .mp i,.mp i',p=>i==p&&i'==p
 | _,_,_=>false
def sameW:PV->PV->Nat->Bool
 | .mw i,.mw i',p=>i==p&&i'==p
 | _,_,_=>false
def CtrM.slot (C:CtrM) (f:PV->PV->Nat->Bool) (i:Nat):Bool:=
 (alk C.inp.hp i).isSome&&C.inp.env.any (λy=>decide (y.1<C.ks.length)&&match alk C.inp.env y.1,alk C.out.env y.1 with | some u,some v=>f u v i | _,_=>false)
def CtrM.inn (C:CtrM):Ya Nat:=(C.inp.hp.filter λx=>(alk C.out.hp x.1).isSome).map (·.1)
def CtrM.keptW (C:CtrM) (i:Nat):Bool:=decide (C.n0<=i)||C.slot sameW i||C.inn.contains i
def CtrM.kept (C:CtrM) (i:Nat):Bool:=C.keptW i||C.slot kpY i||C.inn.contains i
def CtrM.ok (C:CtrM):Bool:=
 decide (C.n0<=C.n1)&&decide (C.ks.length<=1000000)&&C.inp.hp.all (λx=>decide (x.1<C.n0))
def CtrM.okU (C:CtrM) (u:TS A):Bool:=
 let has:=λi=>(alk u.hp i).isSome
 u.hp.all (λx=>match x.2 with
  | some b=>decide (x.1<C.n1)&&b.all has C.keptW&&C.kept x.1&&(!b.needL||C.keptW x.1)
  | none=>false)
 && (List.range C.nr).all (λi=>match alk u.env (1000000+i) with
  | some v=>v.all has C.keptW
  | none=>false)
def TV.flt:TV A->Bool
 | .c t _=>t.flat
 | .un=>false
 | .ud=>false
 | .fq _ _ _=>false
 | .gs _ _=>false
 | .yl _=>false
 | .kp _=>false
 | .cv _ _ _ _=>false
 | .fn _ vs=>fltL vs
 | .tp vs=>fltL vs
 | .ag vs=>fltL vs
 | _=>true
where fltL:Ya (TV A)->Bool
 | []=>true
 | v::vs=>v.flt&&fltL vs
def cellF:Ty->Ya Nat
 | .i _ | .b | .s=>[0]
 | .un=>[]
 | .w x=>cellF x
 | .pr x y=>cellF x++cellF y
 | .sl x=>[if x.flat then 1 else 2]
 | .pt _ | .op _=>[2]
 | .ar n x=>List.replicate (n*x.wd) 2
 | _=>[]
def TB.flt:TB A->Bool
 | .bx _ vs=>TV.flt.fltL vs
 | .el _ t _=>t.flat
 | .sl _ t _=>t.flat
 | .mp _ v _=>v.flat
 | .fm _ t j _ _ _ _=>(cellF t).zipIdx.all λx=>x.1==0||(x.1==1&&x.2==j)
 | .si _=>true
 | .km _=>true
def CtrM.okF (C:CtrM) (u:TS A):Bool:=
 u.hp.all (λx=>match x.2 with
  | some b=>b.flt
  | none=>false)
 && (List.range C.nr).all (λi=>match alk u.env (1000000+i) with
  | some v=>v.flt
  | none=>false)
def patE:Ya (Yb Ty)->Ya (TV A)->Nat->Ya (Nat×TV A)
 | some _::ks,_::vs,i=>patE ks vs (i+1)
 | none::ks,v::vs,i=>(i,v)::patE ks vs (i+1)
 | _,_,_=>[]
def renC (C:CtrM) (ids:Ya (Nat×Nat)) (n:Nat) (p:Nat):Nat:=if p<C.n0 then (alk ids p).getD 0 else n+(p-C.n0)
def resT (C:CtrM) (u:TS A) (f:Nat->Nat):TV A:=
 match (List.range C.nr).map λi=>renV f ((alk u.env (1000000+i)).getD .un) with
 | [v]=>v
 | vs=>.tp vs
def kdD (C:CtrM) (s u:TS A) (ids:Ya (Nat×Nat)):TS A:=
 ⟨s.env,u.hp.map (λx=>(renC C ids s.n x.1,x.2.map (renB (renC C ids s.n))))++(ids.map λx=>(x.2,none))++s.hp,s.n+(C.n1-C.n0),false⟩
def pickM (Δ:Ya (FuncId×Ctr)) (s:TS A) (args:Ya (TV A)):Ya CtrM->Yb CtrM
 | []=>none
 | C::l=>if args.length=C.ks.length&&(kcg c Δ s (C.ks.filterMap id) (pureV C.ks args)).isSome&&(packM ⟨[],c.g⟩ C.n0 C.inp ⟨patE C.ks args 0,s.hp,s.n,s.dy⟩).isSome then some C else pickM Δ s args l
def kgE (Δ:Ya (FuncId×Ctr)) (s:TS A) (C:CtrM) (args:Ya (TV A)) (K:TV A->TS A->A.Ans ρ):A.Ans ρ:=
 if args.length≠C.ks.length||s.dy||!C.ok then A.fail "callM" else
 match kcg c Δ s (C.ks.filterMap id) (pureV C.ks args) with
 | some (l,ids)=>match packM ⟨[],c.g⟩ C.n0 C.inp ⟨patE C.ks args 0,s.hp,s.n,s.dy⟩ with
  | some m=>if m.sn.isEmpty&&m.ids.all (λx=>(ownB s x.2).isSome&&(alk C.inp.hp x.1).isSome&&(alk m.ids x.1==some x.2))&&ids.all (λid=>m.ids.all λx=>x.2 != id) then match mkT A (C.ks.filterMap id++C.inp.tys) (l++m.cs) with
    | some a=>A.p1 (x:=tup (C.ks.filterMap id++C.inp.tys)) (y:=C.out.ty) C.nm C.F a λy=>
      let u:=kad C.out C.n1 y
      if C.okU u&&(ids.isEmpty||C.okF u) then K (resT C u (renC C m.ids s.n)) (kdD C s u m.ids) else A.fail "callM state"
    | none=>A.fail "callM types"
   else A.fail "callM frozen"
  | none=>A.fail "callM pattern"
 | _=>A.fail "callM plain arguments"
def fillT (pl:Ya (Nat×Nat)) (s:TS A):Ya (Nat×Yf)->Ya (TV A)->Yb (Ya (TV A))
 | [],cs=>some cs
 | (i,x)::r,cs=>match pl[i]?,kas (tev c s x) with
  | some (o,m),some xs=>if xs.length=m/\o+m<=cs.length then fillT pl s r (cs.take o++xs++cs.drop (o+m)) else none
  | _,_=>none
def kpO (s:TS A) (T:Yc) (a:Ya (Nat×Yf)) (K:TV A->TS A->A.Ans ρ):A.Ans ρ:=
 match zeroO P T,kea P 9 T,kfZ P T with
 | some z,some Ts,some pl=>if z.length=Ts.length then
   let r:=zeroC P s z Ts
   match fillT c pl s a r.1 with
   | some vs=>K (.ag vs) r.2
   | none=>A.fail "build parts"
  else A.fail "build cells"
 | _,_,_=>A.fail "build type"
def lstD (t:Ty):Ya (A.D t)->A.D (.sl t)
 | []=>A.k0 (x:=.sl t) "" []
 | x::xs=>A.k2 (x:=t) (y:=.sl t) (z:=.sl t) "" List.cons x (lstD t xs)
def kjf (s:TS A) (t:Ty):Ya (Nat×Yf)->Nat->Yb (Ya (A.D t)×Ya Nat)
 | [],_=>some ([],[])
 | (i,x)::r,j=>if i=j then (snapV c s t (tev c s x)).bind λy=>(kjf s t r (j+1)).map λz=>(y.1::z.1,y.2++z.2) else none
def kht (s:TS A) (T:Yc) (len:Nat) (a:Ya (Nat×Yf)) (K:TV A->TS A->A.Ans ρ):A.Ans ρ:=
 match elemO P T with
 | none=>A.fail "buildSlice type"
 | some e=>match tyOf P e,zeroO P e with
  | some t,some z=>if len<=1000/\z.length<=1000/\z.length=t.wd then
    if a.length=len then match kjf c s t a 0 with
     | some (xs,ids)=>match retire s ids with
      | some s'=>newSl s' e t (lstD t xs) K
      | none=>A.fail "buildSlice retire"
     | none=>A.fail "buildSlice parts"
    else A.fail "buildSlice length"
   else A.fail "buildSlice"
  | _,_=>A.fail "buildSlice elem"
def kif (s:TS A) (T:Yc) (x y:TV A) (same:Bool) (K:TV A->TS A->A.Ans ρ):A.Ans ρ:=
 match elemO P T with
 | none=>A.fail "makeSlice type"
 | some e=>match tyOf P e,zeroO P e,x with
  | some t,some z,.c (.i .i64) n=>match zeroD t with
   | some z0=>if same/\(isZ t z).any List.isEmpty/\z.length=t.wd/\t.wd≠0/\P.bytesOf e<=1024 then A.p2 (x:=.i .i64) (y:=t) (z:=.sl t) "" (λn z=>gmk n z) n z0 λl=>newSl s e t l K else A.fail "makeSlice"
   | none=>A.fail "makeSlice zero"
  | _,_,_=>A.fail "makeSlice elem"
instance arrDec {n:Nat} {α:Type} [DecidableEq α]:DecidableEq (Arr n α):=λa b=>
 match decEq a.l b.l with
 | .isTrue h=>.isTrue (by cases a; cases b; simp only at h; subst h; rfl)
 | .isFalse h=>.isFalse λe=>h (by rw [e])
def isKey:Ty->Bool
 | .i _ | .s | .b=>true
 | .w a=>isKey a
 | .pr a b=>isKey a&&isKey b
 | .ar _ a=>isKey a
 | _=>false
def kbj:(k:Ty)->isKey k=true->DecidableEq k.den
 | .i _,_=>(inferInstance:DecidableEq Int)
 | .s,_=>(inferInstance:DecidableEq (Ya UInt8))
 | .b,_=>(inferInstance:DecidableEq Bool)
 | .w a,h=>kbj a h
 | .pr a b,h=>@instDecidableEqProd _ _ (kbj a (Bool.and_eq_true_iff.1 h).1) (kbj b (Bool.and_eq_true_iff.1 h).2)
 | .ar _ a,h=>@arrDec _ _ (kbj a h)
 | .un,h=>absurd h (by decide) | .nt,h=>absurd h (by decide) | .sl _,h=>absurd h Bool.false_ne_true | .pt _,h=>absurd h Bool.false_ne_true | .op _,h=>absurd h Bool.false_ne_true | .sm _ _,h=>absurd h Bool.false_ne_true | .fn _ _ _,h=>absurd h Bool.false_ne_true
def keyFs (P:Ye) (a:Yc->Ty->Bool):Ya Field->Nat->Ty->Bool
 | [],_,_=>false
 | [f],o,t=>f.name != "_"&&decide (f.offset=o)&&decide (P.cellsOf f.type=t.wd)&&decide (aggO P f.type=some t.agg)&&a f.type t
 | f::g::fs,o,t=>match t with
  | .pr u v=>f.name != "_"&&decide (f.offset=o)&&decide (P.cellsOf f.type=u.wd)&&decide (aggO P f.type=some u.agg)&&a f.type u&&keyFs P a (g::fs) (o+u.wd) v
  | _=>false
def keyTF (P:Ye):Nat->Yc->Ty->Bool
 | 0,_,_=>false
 | d+1,T,t=>match P.underlying T with
  | some .bool=>decide (t = .b)
  | some (.int k)=>decide (t = .i k)
  | some .string=>decide (t = .s)
  | some (.struct fs)=>!P.stoodInHeld T&&match fs.toList,t with
   | [f],.w u=>keyFs P (keyTF P d) [f] 0 u
   | [_],_=>false
   | fs,t=>keyFs P (keyTF P d) fs 0 t
  | some (.array n e)=>match t with
   | .ar m u=>decide (m=n)&&decide (P.cellsOf e=u.wd)&&decide (aggO P e=some u.agg)&&keyTF P d e u
   | _=>false
  | _=>false
def keyT (P:Ye) (kt:Yc):Ty->Bool
 | .i k=>decide (intO P kt=some k)
 | .s=>ket P kt
 | .b=>kkd P kt
 | t=>t.agg&&decide (aggO P kt=some true)&&keyTF P 9 kt t
def mgetT (k:Ty) {β:Type} (l:Ya (k.den×β)) (x:k.den):Yb β:=
 if h:isKey k=true then @mget _ _ (kbj k h) l x else none
def mputT (k:Ty) {β:Type} (l:Ya (k.den×β)) (x:k.den) (v:β):Ya (k.den×β):=
 if h:isKey k=true then @mput _ _ (kbj k h) l x v else l
def ment {κ β:Type} [DecidableEq κ] (l:Ya (κ×β)) (k:κ) (z:β):Ya (κ×β):=match mget l k with | some _=>l | none=>l++[(k,z)]
def midxN {κ β:Type} [DecidableEq κ] (k:κ):Ya (κ×β)->Nat
 | []=>0
 | p::r=>if k=p.1 then 0 else midxN k r+1
def midx {κ β:Type} [DecidableEq κ] (l:Ya (κ×β)) (k:κ):Int:=(midxN k l:Nat)
def mset {κ β:Type} (l:Ya (κ×β)) (i:Int) (v:β):Ya (κ×β):=match l[i.toNat]? with | some p=>l.set i.toNat (p.1,v) | none=>l
def mentT (k:Ty) {β:Type} (l:Ya (k.den×β)) (x:k.den) (z:β):Ya (k.den×β):=
 if h:isKey k=true then @ment _ _ (kbj k h) l x z else l
def midxT (k:Ty) {β:Type} (l:Ya (k.den×β)) (x:k.den):Int:=
 if h:isKey k=true then @midx _ _ (kbj k h) l x else 0
def zvOk (v:Ty) (u:Yd):Bool:=match cst u with
 | .ag cs=>v.agg&&(isZ v cs).any List.isEmpty
 | .sc w=>!v.agg&&(isZ v [.sc w]).any List.isEmpty
 | _=>false
def kkX (s:TS A) (T:Yc) (K:TV A->TS A->A.Ans ρ):A.Ans ρ:=
 match mapO P T with
 | some (k,v)=>match tyOf P k,tyOf P v with
  | some k,some v=>if isKey k/\v.flat then K (.mp s.n) { s with hp:=(s.n,some (.mp k v (A.k0 (x:=.sl (.pr k v)) "" [])))::s.hp,n:=s.n+1 } else A.fail "makeMap key"
  | _,_=>A.fail "makeMap elem"
 | none=>A.fail "makeMap type"
def kne (s:TS A) (T:Yc) (m key:TV A) (ok:Bool) (K:TV A->TS A->A.Ans ρ):A.Ans ρ:=
 match m with
 | .mp id=>match thp c s id,mapO P T with
  | some (.mp k v l),some (kt,e)=>match snapV c s k key,zeroD (A:=A) v with
   | some (x,[]),some z=>
    let g:=A.k3 (x:=.sl (.pr k v)) (y:=k) (z:=v) (u:=v) "" (λl x z=>(mgetT k l x).getD z) l x z
    if isKey k/\keyT P kt k/\v.flat/\((zvO P e).any (zvOk v)) then
     if ok then K (.tp [.c v g,.c .b (A.k2 (x:=.sl (.pr k v)) (y:=k) (z:=.b) "" (λl x=>(mgetT k l x).isSome) l x)]) s else K (.c v g) s
    else A.fail "lookup type"
   | _,_=>A.fail "lookup key"
  | _,_=>A.fail ""
 | _=>A.fail "lookup"
def kmW (s:TS A) (T:Yc) (m key x:TV A) (K:TV A->TS A->A.Ans ρ):A.Ans ρ:=
 match m with
 | .mp id=>match alk s.hp id,mapO P T with
  | some (some (.mp k v l)),some (kt,e)=>match snapV c s k key,snapV c s v x with
   | some (y,[]),some (z,[])=>if isKey k/\keyT P kt k then setB s id (.mp k v (A.k3 (x:=.sl (.pr k v)) (y:=k) (z:=v) (u:=.sl (.pr k v)) "" (λl x z=>mputT k l x z) l y z)) K else A.fail "mapUpdate type"
   | _,_=>A.fail "mapUpdate value"
  | _,_=>A.fail ""
 | _=>A.fail "mapUpdate"
def knk (s:TS A) (T:Yc) (m key:TV A) (K:TV A->TS A->A.Ans ρ):A.Ans ρ:=
 match m with
 | .mp id=>match alk s.hp id,mapO P T with
  | some (some (.mp k v l)),some (kt,e)=>match snapV c s k key,zeroD (A:=A) v with
   | some (x,[]),some z=>
    if isKey k/\keyT P kt k/\v.flat/\((zvO P e).any (zvOk v)) then
     K (.tp [.c v (A.k3 (x:=.sl (.pr k v)) (y:=k) (z:=v) (u:=v) "" (λl x z=>(mgetT k l x).getD z) l x z),.c (.i .i64) (A.k2 (x:=.sl (.pr k v)) (y:=k) (z:=.i .i64) "" (λl x=>midxT k l x) l x)])
      { s with hp:=(id,some (.mp k v (A.k3 (x:=.sl (.pr k v)) (y:=k) (z:=v) (u:=.sl (.pr k v)) "" (λl x z=>mentT k l x z) l x z)))::s.hp }
    else A.fail "mapEntry type"
   | _,_=>A.fail "mapEntry key"
  | _,_=>A.fail ""
 | _=>A.fail "mapEntry"
def kpI (s:TS A) (m st x:TV A) (K:TV A->TS A->A.Ans ρ):A.Ans ρ:=
 match m with
 | .mp id=>match alk s.hp id with
  | some (some (.mp k v l))=>match kcU st,snapV c s v x with
   | some i,some (z,[])=>A.p2 (x:=.sl (.pr k v)) (y:=.i .i64) (z:=.pr k v) "" (λl i=>gi l i) l i λ_=>
     setB s id (.mp k v (A.k3 (x:=.sl (.pr k v)) (y:=.i .i64) (z:=v) (u:=.sl (.pr k v)) "" (λl i z=>mset l i z) l i z)) K
   | _,_=>A.fail "entryStore value"
  | _=>A.fail ""
 | _=>A.fail "entryStore"
def callX (Δ:Ya (FuncId×Ctr)) (s:TS A) (f:TV A) (args:Ya (TV A)) (K:TV A->TS A->A.Ans ρ):A.Ans ρ:=
 match f with
 | .fn g b=>match alk Δ g with
  | none=>askX c s g (args++b)
  | some C=>match kcg c Δ s C.asZ (args++b) with
   | none=>askX c s g (args++b)
   | some (l,ids)=>match mkT A C.asZ l with
    | none=>A.fail ""
    | some a=>
     if C.rs.all Ty.flat then A.p1 C.nm C.F a λy=>K (tvR C.rs y) s
     else if s.dy then A.fail "" else match retire s ids with
      | none=>A.fail ""
      | some s'=>A.p1 C.nm C.F a λy=>K (tvR C.rs y) { s' with dy:=false }
 | .cv n x y F=>if h:tup (untup n x)=x then match snapM c s (untup n x) args with
   | none=>A.fail ""
   | some (l,_)=>match mkT A (untup n x) l with
    | none=>A.fail ""
    | some a=>if y.flat then A.p2 (x:=.fn n x y) (y:=x) (z:=y) "" (λF v=>F v) F (h ▸ a) λz=>K (.c y z) s else A.fail ""
  else A.fail ""
 | _=>A.fail "call"
def khz:Yf->Yf->Bool
 | .tmp a,.tmp b=>a==b
 | .const (.int k a),.const (.int k' b)=>decide (a<=b)&&decide (b<=1048576)
 | _,_=>false
def hintT (Δ:Ya (FuncId×Ctr)) (T:Yc):Bool:=(alk Δ (5000000+T)).isSome
def famO (e:Yc):Yb (Ty×Nat×Yc×Ty):=
 match tyOf P e,kea P 9 e with
 | some t,some Ts=>match Ts.zipIdx.filterMap λx=>(elemO P x.1).map λU=>(x.2,U) with
  | [(j,U)]=>(tyOf P U).map λu=>(t,j,U,u)
  | _=>none
 | _,_=>none
def rowD {A:Alg} (t u:Ty) (j:Nat) (y:A.D t):Yb (A.D (.sl u)):=(comp t y j 1 false).bind λp=>tcast (.sl u) p.2
def rowS {A:Alg} (t u:Ty) (j:Nat) (y:A.D t) (v:A.D (.sl u)):Yb (A.D t):=setC (λt'=>tcast t' v) t y j 1 false
def gsame (a b:Int):Yb Unit:=if a=b then some () else none
def glen {α:Type} (l:Ya α):Yb Unit:=if l.length<=9223372036854775807 then some () else none
mutual
def drpV (id:Nat):TV A->TV A
 | .adr i x j=>if i=id then .un else .adr i x j
 | .aa i x=>if i=id then .un else .aa i x
 | .ax i x y=>if i=id then .un else .ax i x y
 | .mw i=>if i=id then .un else .mw i
 | .ms i a b=>if i=id then .un else .ms i a b
 | .fr i x=>if i=id then .un else .fr i x
 | .fa i x k o=>if i=id then .un else .fa i x k o
 | .fn g vs=>.fn g (drpL id vs)
 | .tp vs=>.tp (drpL id vs)
 | .ag vs=>.ag (drpL id vs)
 | v=>v
def drpL (id:Nat):Ya (TV A)->Ya (TV A)
 | []=>[]
 | v::vs=>drpV id v::drpL id vs
end
def drpB (id:Nat):TB A->TB A
 | .bx T vs=>.bx T (drpL id vs)
 | b=>b
def drpS (s:TS A) (id:Nat):TS A:=⟨s.env.map λx=>(x.1,drpV id x.2),s.hp.map λx=>(x.1,x.2.map (drpB id)),s.n,s.dy⟩
def kpx (s:TS A) (T:Yc) (id:Nat) (i:TV A) (K:TV A->TS A->A.Ans ρ):A.Ans ρ:=
 match kcU i,thp c s id,elemO P T with
 | some i,some (.fm _ t _ _ _ l _),some e=>if t.wd=P.cellsOf e/\t.wd≠0 then A.p2 (x:=.sl t) (y:=.i .i64) (z:=t) "" (λl i=>gi l i) l i λ_=>K (.fo id i 0) s else A.fail "family index width"
 | _,_,_=>A.fail ""
def kqp (s:TS A) (T:Yc) (id:Nat) (a:A.D (.i .i64)) (k:TV A) (K:TV A->TS A->A.Ans ρ):A.Ans ρ:=
 match kcU k,thp c s id,elemO P T with
 | some k,some (.fm _ t j _ u l none),some e=>if u.wd=P.cellsOf e/\u.wd≠0 then A.p2 (x:=.sl t) (y:=.i .i64) (z:=t) "" (λl i=>gi l i) l a λy=>match rowD t u j y with
   | some ys=>A.p2 (x:=.sl u) (y:=.i .i64) (z:=u) "" (λl i=>gi l i) ys k λ_=>K (.fa id a k 0) s
   | none=>A.fail "row index cell"
  else A.fail "row index width"
 | _,_,_=>A.fail ""
def kpX (s:TS A) (T:Yc) (id:Nat) (i:A.D (.i .i64)) (j:Nat) (f:Nat) (K:TV A->TS A->A.Ans ρ):A.Ans ρ:=
 match fldO P T f with
 | none=>A.fail "fieldAddr type"
 | some (d,_)=>if (thp c s id).any TB.isF then K (.fo id i (j+d)) s else A.fail "family field"
def koD (s:TS A) (T:Yc) (id:Nat) (a k:A.D (.i .i64)) (j:Nat) (f:Nat) (K:TV A->TS A->A.Ans ρ):A.Ans ρ:=
 match fldO P T f with
 | none=>A.fail "fieldAddr type"
 | some (d,_)=>if (thp c s id).any TB.isF then K (.fa id a k (j+d)) s else A.fail "row field"
def koK (s:TS A) (T:Yc) (id:Nat) (K:TV A->TS A->A.Ans ρ):A.Ans ρ:=
 match thp c s id,elemO P T with
 | some (.fm _ t _ _ _ l _),some _=>K (.c (.i .i64) (A.k1 (x:=.sl t) (y:=.i .i64) "" (λl=>lenI l) l)) s
 | _,_=>A.fail ""
def kpe (s:TS A) (T:Yc) (id:Nat) (a:A.D (.i .i64)) (K:TV A->TS A->A.Ans ρ):A.Ans ρ:=
 match thp c s id,elemO P T with
 | some (.fm _ t j _ u l none),some _=>A.p2 (x:=.sl t) (y:=.i .i64) (z:=t) "" (λl i=>gi l i) l a λy=>match rowD t u j y with
   | some ys=>K (.c (.i .i64) (A.k1 (x:=.sl u) (y:=.i .i64) "" (λl=>lenI l) ys)) s
   | none=>A.fail "row len cell"
 | _,_=>A.fail ""
def kna (s:TS A) (T:Yc) (id:Nat) (i:A.D (.i .i64)) (o:Nat) (K:TV A->TS A->A.Ans ρ):A.Ans ρ:=
 match aggO P T,thp c s id with
 | some ag,some (.fm _ t j _ _ l none)=>A.p2 (x:=.sl t) (y:=.i .i64) (z:=t) "" (λl i=>gi l i) l i λy=>
   if ag=false/\o=j then K (.fr id i) s
   else if o+P.cellsOf T<=j\/j<o then partX t y o (P.cellsOf T) ag λv=>K v s
   else if ag=true/\t.noAr=true/\o+P.cellsOf T<=t.wd then K (.ag ((((kgp t y).set j (.fr id i)).drop o).take (P.cellsOf T))) s
   else A.fail "family load"
 | _,_=>A.fail ""
def kni (s:TS A) (T:Yc) (id:Nat) (a k:A.D (.i .i64)) (o:Nat) (K:TV A->TS A->A.Ans ρ):A.Ans ρ:=
 match aggO P T,thp c s id with
 | some ag,some (.fm _ t j _ u l none)=>A.p2 (x:=.sl t) (y:=.i .i64) (z:=t) "" (λl i=>gi l i) l a λy=>match rowD t u j y with
   | some ys=>A.p2 (x:=.sl u) (y:=.i .i64) (z:=u) "" (λl i=>gi l i) ys k λx=>partX u x o (P.cellsOf T) ag λv=>K v s
   | none=>A.fail "row load cell"
 | _,_=>A.fail ""
def klk (s:TS A) (T:Yc) (id:Nat) (a k:A.D (.i .i64)) (o:Nat) (v:TV A) (K:TV A->TS A->A.Ans ρ):A.Ans ρ:=
 match aggO P T,ownB s id with
 | some ag,some (.fm T' t j U u l none)=>if P.cellsOf T=0 then A.fail "store nothing" else
   A.p2 (x:=.sl t) (y:=.i .i64) (z:=t) "" (λl i=>gi l i) l a λy=>match rowD t u j y with
   | some ys=>A.p2 (x:=.sl u) (y:=.i .i64) (z:=u) "" (λl i=>gi l i) ys k λx=>
    match setC (λt=>(snapV c s t v).bind λy=>if y.2.isEmpty then some y.1 else none) u x o (P.cellsOf T) ag with
    | some e=>match rowS t u j y (A.k3 (x:=.sl u) (y:=.i .i64) (z:=u) (u:=.sl u) "" (λl i y=>lset l i y) ys k e) with
     | some b=>setB s id (.fm T' t j U u (A.k3 (x:=.sl t) (y:=.i .i64) (z:=t) (u:=.sl t) "" (λl i y=>lset l i y) l a b) none) K
     | none=>A.fail "row store cell"
    | none=>A.fail "row store part"
   | none=>A.fail "row store cell"
 | _,_=>A.fail ""
def khw (s:TS A) (U:Yc) (u:Ty) (v:TV A):Yb (A.D (.sl u)×Yb Nat):=
 match v with
 | .mw r=>match alk s.hp r with
  | some (some (.sl U' _ l))=>if U'=U then (tcast (.sl u) l).map λl=>(l,some r) else none
  | _=>none
 | .sc w=>if kbz w then some (A.k0 (x:=.sl u) "" [],none) else none
 | _=>none
def holeX {A:Alg} {ρ:Ty} (e:Yb (A.D (.i .i64))) (i:A.D (.i .i64)) (K:A.Ans ρ):A.Ans ρ:=
 match e with
 | none=>K
 | some a=>A.p2 (x:=.i .i64) (y:=.i .i64) (z:=.un) "" (λa b=>gsame a b) a i λ_=>K
def rowN (s:TS A):Yb Nat->TS A
 | some r=>{ s with hp:=(r,none)::s.hp }
 | none=>s
def kkW (s:TS A) (T:Yc) (id:Nat) (i:A.D (.i .i64)) (o:Nat) (v:TV A) (K:TV A->TS A->A.Ans ρ):A.Ans ρ:=
 match aggO P T,ownB s id with
 | some ag,some (.fm T' t j U u l ho)=>if P.cellsOf T=0 then A.fail "store nothing" else
   if ag=false/\o=j/\P.cellsOf T=1 then
    match khw s U u v with
    | some (xs,r)=>if c.has id then A.fail "" else
     holeX ho i<|A.p2 (x:=.sl t) (y:=.i .i64) (z:=t) "" (λl i=>gi l i) l i λy=>match rowS t u j y xs with
     | some e=>
      let f:=drpS (rowN s r) id
      K .ud { f with hp:=(id,some (.fm T' t j U u (A.k3 (x:=.sl t) (y:=.i .i64) (z:=t) (u:=.sl t) "" (λl i y=>lset l i y) l i e) none))::f.hp }
     | none=>A.fail "family store cell"
    | none=>A.fail "family store row"
   else if (o+P.cellsOf T<=j\/j<o)/\ho.isNone then
    A.p2 (x:=.sl t) (y:=.i .i64) (z:=t) "" (λl i=>gi l i) l i λy=>
     match setC (λt=>(snapV c s t v).bind λy=>if y.2.isEmpty then some y.1 else none) t y o (P.cellsOf T) ag with
     | some e=>setB s id (.fm T' t j U u (A.k3 (x:=.sl t) (y:=.i .i64) (z:=t) (u:=.sl t) "" (λl i y=>lset l i y) l i e) none) K
     | none=>A.fail "family store part"
   else match v with
    | .ag vs=>match vs[j]? with
     | some (.fr id' i')=>if o=0/\P.cellsOf T=t.wd/\ho.isNone/\id'=id then
       match snapL c s t (vs.set j (.sc (.slice none 0 0))) with
       | some (y0,[],[])=>A.p2 (x:=.sl t) (y:=.i .i64) (z:=t) "" (λl i=>gi l i) l i λy=>A.p2 (x:=.i .i64) (y:=.i .i64) (z:=.un) "" (λa b=>gsame a b) i i' λ_=>match (rowD t u j y).bind (rowS t u j y0) with
        | some e=>setB s id (.fm T' t j U u (A.k3 (x:=.sl t) (y:=.i .i64) (z:=t) (u:=.sl t) "" (λl i y=>lset l i y) l i e) none) K
        | none=>A.fail "family store cell"
       | _=>A.fail "family store parts"
      else A.fail "family store"
     | some w=>if o=0/\P.cellsOf T=t.wd/\ho.isNone then match khw s U u w with
       | some (xs,r)=>if c.has id then A.fail "" else match snapL c s t (vs.set j (.sc (.slice none 0 0))) with
        | some (y0,[],[])=>A.p2 (x:=.sl t) (y:=.i .i64) (z:=t) "" (λl i=>gi l i) l i λ_=>match rowS t u j y0 xs with
         | some e=>
          let f:=drpS (rowN s r) id
          K .ud { f with hp:=(id,some (.fm T' t j U u (A.k3 (x:=.sl t) (y:=.i .i64) (z:=t) (u:=.sl t) "" (λl i y=>lset l i y) l i e) none))::f.hp }
         | none=>A.fail "family store cell"
        | _=>A.fail "family store parts"
       | none=>A.fail "family store element"
      else A.fail "family store"
     | none=>A.fail "family store"
    | _=>A.fail "family store"
 | _,_=>A.fail ""
def kmM (s:TS A) (e:Yc) (x:TV A) (same:Bool) (K:TV A->TS A->A.Ans ρ):A.Ans ρ:=
 match famO P e,zeroO P e,x with
 | some (t,j,U,u),some z,.c (.i .i64) n=>match zeroD t with
  | some z0=>if same/\(isZ t z).any List.isEmpty/\z.length=t.wd/\t.wd≠0/\P.bytesOf e<=1024/\(rowD t u j z0).isSome then A.p2 (x:=.i .i64) (y:=t) (z:=.sl t) "" (λn z=>gmk n z) n z0 λl=>
     K (.fw s.n) { s with hp:=(s.n,some (.fm e t j U u l none))::s.hp,n:=s.n+1 } else A.fail "family make"
  | none=>A.fail "family zero"
 | _,_,_=>A.fail "family make elem"
def kpJ (s:TS A) (T g:Yc) (id:Nat) (a:A.D (.i .i64)) (v:TV A) (K:TV A->TS A->A.Ans ρ):A.Ans ρ:=
 match elemO P T,ownB s id with
 | some e,some (.fm T' t j U u l none)=>match zeroO P e with
  | some z=>if khE P g/\z.length=u.wd/\u.wd≠0/\P.bytesOf e<=1024/\e=U then
    if c.has id then A.fail "" else
    match srcX c s u v with
    | none=>A.fail "append source"
    | some (xs,_)=>A.p2 (x:=.sl t) (y:=.i .i64) (z:=t) "" (λl i=>gi l i) l a λy=>match rowD t u j y with
     | some ys=>A.p2 (x:=.sl u) (y:=.sl u) (z:=.sl u) "" (λa b=>gapp a b) ys xs λl'=>
       let f:=drpS s id
       newSl { f with hp:=(id,some (.fm T' t j U u l (some a)))::f.hp } U u l' K
     | none=>A.fail "row append cell"
   else A.fail "row append"
  | none=>A.fail "row append zero"
 | _,_=>A.fail ""
def zeroF (q:Nat->Bool) (i:Nat) (s:TS A):Ya AV->Ya Yc->Ya (TV A)×TS A
 | .sc v::vs,T::Ts=>
  match (if kbz v&&q i then (elemO P T).bind λe=>(famO P e).map λf=>(e,f) else none) with
  | some (e,(t,j,U,u))=>let r:=zeroF q (i+1) { s with hp:=(s.n,some (.fm e t j U u (A.k0 (x:=.sl t) "" []) none))::s.hp,n:=s.n+1 } vs Ts; (.fw s.n::r.1,r.2)
  | none=>let a:=zeroC P s [.sc v] [T]; let r:=zeroF q (i+1) a.2 vs Ts; (a.1++r.1,r.2)
 | _,_=>([],s)
def leafQ (Δ:Ya (FuncId×Ctr)) (T:Yc) (i:Nat):Bool:=(alk Δ (4000000+1000*T+i)).isNone
def koZ (q:Nat->Bool) (s:TS A) (T:Yc) (K:TV A->TS A->A.Ans ρ):A.Ans ρ:=
 match zeroO P T,kea P 9 T with
 | some z,some Ts=>if z.length=Ts.length then let r:=zeroF P q 0 s z Ts; newBx r.2 (.bx T r.1) K else A.fail "alloc cells"
 | _,_=>A.fail "alloc type"
def selfV (id:Nat):Ya (TV A)->Ya (TV A)
 | []=>[]
 | .sc (.pointer none)::vs=>.np id::selfV id vs
 | v::vs=>v::selfV id vs
def kpw (s:TS A) (T:Yc) (K:TV A->TS A->A.Ans ρ):A.Ans ρ:=
 match zeroO P T,kea P 9 T with
 | some z,some Ts=>if z.length=Ts.length then let r:=zeroC P s z Ts; newBx r.2 (.bx T (selfV r.2.n r.1)) K else A.fail "alloc cells"
 | _,_=>A.fail "alloc type"
def kpQ (q:Nat->Bool) (s:TS A) (T:Yc) (a:Ya (Nat×Yf)) (K:TV A->TS A->A.Ans ρ):A.Ans ρ:=
 match zeroO P T,kea P 9 T,kfZ P T with
 | some z,some Ts,some pl=>if z.length=Ts.length then
   let r:=zeroF P q 0 s z Ts
   match fillT c pl s a r.1 with
   | some vs=>K (.ag vs) r.2
   | none=>A.fail "build parts"
  else A.fail "build cells"
 | _,_,_=>A.fail "build type"
def kqn (s:TS A) (T:Yc) (K:TV A->TS A->A.Ans ρ):A.Ans ρ:=
 match (elemO P T).bind λe=>(famO P e).map λf=>(e,f) with
 | some (e,(t,j,U,u))=>K (.fw s.n) { s with hp:=(s.n,some (.fm e t j U u (A.k0 (x:=.sl t) "" []) none))::s.hp,n:=s.n+1 }
 | none=>match (elemO P T).bind λe=>(tyOf P e).map λt=>(e,t) with
  | some (e,t)=>if t.dat then K (.mw s.n) { s with hp:=(s.n,some (.sl e t (A.k0 (x:=.sl t) "" [])))::s.hp,n:=s.n+1 } else A.fail "own nil"
  | none=>A.fail "family nil"
def klw (s:TS A) (T:Yc) (len:Nat) (a:Ya (Nat×Yf)) (K:TV A->TS A->A.Ans ρ):A.Ans ρ:=
 match (elemO P T).bind λe=>(famO P e).map λf=>(e,f),a with
 | some (e,(t,j,U,u)),[(0,x)]=>match zeroO P e,kas (tev c s x) with
  | some z,some vs=>if len=1/\z.length=t.wd/\t.wd<=1000 then match (vs[j]?).bind (khw s U u),snapL c s t (vs.set j (.sc (.slice none 0 0))) with
   | some (xs,r),some (y0,[],[])=>match rowS t u j y0 xs with
    | some y=>
     let b:=match r with | some r=>{ s with hp:=(r,none)::s.hp } | none=>s
     K (.fw s.n) { b with hp:=(s.n,some (.fm e t j U u (lstD t [y]) none))::b.hp,n:=s.n+1 }
    | none=>A.fail ""
   | _,_=>A.fail (match vs[j]? with | some (.mw r)=> "" | _=> "") else A.fail ""
  | _,_=>A.fail ""
 | _,_=>A.fail "family build"
def klP (s:TS A) (T g:Yc) (da:Yb Nat) (b:Nat) (K:TV A->TS A->A.Ans ρ):A.Ans ρ:=
 match elemO P T,ownB s b with
 | some e,some (.fm Tb t j U u lb none)=>match zeroO P e with
  | some z=>if khE P g/\z.length=t.wd/\t.wd≠0/\P.bytesOf e<=1024/\Tb=e then
    match da with
    | none=>A.p2 (x:=.sl t) (y:=.sl t) (z:=.sl t) "" (λa b=>gapp a b) (A.k0 (x:=.sl t) "" []) lb λl'=>
      K (.fw s.n) { s with hp:=(s.n,some (.fm e t j U u l' none))::(b,none)::s.hp,n:=s.n+1 }
    | some a=>match ownB s a with
     | some (.fm Ta _ ja Ua ua f none)=>if Ta=e/\ja=j/\Ua=U/\ua=u/\a≠b then match tcast (.sl t) f with
       | some f=>A.p2 (x:=.sl t) (y:=.sl t) (z:=.sl t) "" (λa b=>gapp a b) f lb λl'=>
         K (.fw s.n) { s with hp:=(s.n,some (.fm e t j U u l' none))::(a,none)::(b,none)::s.hp,n:=s.n+1 }
       | none=>A.fail "family append elem"
      else A.fail "family append kind"
     | _=>A.fail ""
   else A.fail "family append"
  | none=>A.fail "family append zero"
 | _,_=>A.fail ""
def isFnT (P:Ye) (T:Yc):Bool:=match P.underlying T with | some (.func _ _ _)=>true | _=>false
def kfn (P:Ye) (T:Yc):Bool:=match mapO P T with
 | some (k,v)=>ket P k&&isFnT P v&&(match zvO P v with | some .nilFunc=>true | _=>false)
 | none=>false
def fnTV:Yb Nat->TV A
 | some f=>.fn f []
 | none=>.sc .nilFunc
def kmGet (s:TS A) (l:Ya (Ya UInt8×Yb Nat)) (x:A.D .s) (K:TV A->TS A->A.Ans ρ):A.Ans ρ:=
 match l with
 | []=>K (.sc .nilFunc) s
 | (k,f)::r=>A.ite (A.k1 (x:=.s) (y:=.b) (""++ "".intercalate (k.map toString)++ "") (λl=>l==k) x) (K (fnTV f) s) (kmGet s r x K)
def hintS (Δ:Ya (FuncId×Ctr)) (k:Nat) (d:Yb Tmp):Bool:=match d with | some d=>(alk Δ (k+d)).isSome | none=>false
def bsX (s:TS A) (T:Yc) (len:Nat) (a:Ya (Nat×Yf)) (K:TV A->A.Ans ρ):A.Ans ρ:=
 match elemO P T with
 | none=>A.fail "buildSlice type"
 | some e=>match tyOf P e,zeroO P e with
  | some t,some z=>if len<=1000/\z.length<=1000/\z.length=t.wd then
    if a.length=len then match kjf c s t a 0 with
     | some (xs,[])=>K (.c (.sl t) (lstD t xs))
     | some (_,id::_)=>A.fail ""
     | none=>A.fail "drawn buildSlice parts"
    else A.fail "buildSlice length"
   else A.fail "buildSlice"
  | _,_=>A.fail "buildSlice elem"
def famX (Δ:Ya (FuncId×Ctr)) (s:TS A) (o:Oper) (K:TV A->TS A->A.Ans ρ):Yb (A.Ans ρ):=
 match o.op with
 | .load T x=>match tev c s x with
  | .fo id i j=>some (kna P c s T id i j K)
  | .fa id i k j=>some (kni P c s T id i k j K)
  | _=>none
 | .store T p x=>match tev c s p with
  | .fo id i j=>some (kkW P c s T id i j (tev c s x) K)
  | .fa id i k j=>some (klk P c s T id i k j (tev c s x) K)
  | _=>none
 | .fieldAddr T x f=>match tev c s x with
  | .fo id i j=>some (kpX P c s T id i j f K)
  | .fa id i k j=>some (koD P c s T id i k j f K)
  | _=>none
 | .indexAddr T x i=>match tev c s x with
  | .fw id=>some (kpx P c s T id (tev c s i) K)
  | .fr id a=>some (kqp P c s T id a (tev c s i) K)
  | _=>none
 | .makeSlice T x y=>match elemO P T with
  | some e=>if hintT Δ e then some (kmM P s e (tev c s x) (khz x y) K) else none
  | none=>none
 | .call l=>match l.callee with
  | .builtin b=>match b,l.args.toList,l.argTypes.toList with
   | .len,[x],[T]=>match tev c s x with
    | .fw id=>some (koK P c s T id K)
    | .fr id a=>some (kpe P c s T id a K)
    | _=>none
   | .append,[d,x],[T,T2]=>match tev c s d with
    | .fr id a=>some (kpJ P c s T T2 id a (tev c s x) K)
    | .fw a=>match tev c s x with
     | .fw b=>some (klP P s T T2 (some a) b K)
     | _=>none
    | .sc u=>match tev c s x with
     | .fw b=>if kbz u then some (klP P s T T2 none b K) else none
     | _=>none
    | _=>none
   | _,_,_=>none
  | _=>none
 | .alloc T=>if hintS Δ 6000000 o.dst then some (koZ P (leafQ Δ T) s T K) else if hintS Δ 3000000 o.dst then some (kpw P s T K) else none
 | .build T g=>if hintS Δ 6000000 o.dst then some (kpQ P c (leafQ Δ T) s T g.toList K) else none
 | .buildSlice T len g=>if hintS Δ 7000000 o.dst then some (klw P c s T len g.toList K) else if hintS Δ 8000000 o.dst then some (bsX P c s T len g.toList λv=>K v s) else none
 | .assign x=>match tev c s x with
  | .sc u=>if kbz u&&hintS Δ 6000000 o.dst then some (kqn P s o.type K) else none
  | _=>none
 | .makeMap T none=>if kfn P T then some (K (.mp s.n) { s with hp:=(s.n,some (.km []))::s.hp,n:=s.n+1 }) else none
 | .insert T m (.const (.string k)) (.func f)=>match tev c s m with
  | .mp id=>match ownB s id with
   | some (.km l)=>if kfn P T then some (setB s id (.km (mput l k.data.toList (some f))) K) else none
   | _=>none
  | _=>none
 | .lookup T m k false=>match tev c s m,tev c s k with
  | .mp id,.c .s x=>match thp c s id with
   | some (.km l)=>if kfn P T then some (kmGet s l x K) else none
   | _=>none
  | _,_=>none
 | .binOp op T x (.const .nilFunc) _=>if isFnT P T then match tev c s x,op with
   | .fn _ _,.eql=>some (K (.kb false) s)
   | .fn _ _,.neq=>some (K (.kb true) s)
   | .sc .nilFunc,.eql=>some (K (.kb true) s)
   | .sc .nilFunc,.neq=>some (K (.kb false) s)
   | _,_=>none
  else none
 | _=>none
def koH (s:TS A) (T:Yc) (v:TV A) (K:TV A->TS A->A.Ans ρ):A.Ans ρ:=
 match v with
 | .c .s l=>if ket P T then newBx s (.si (A.k1 (x:=.s) (y:=.pr .s (.i .i64)) "" (λl=>(l,0)) l)) K else A.fail "range type"
 | _=>A.fail "range"
def runeV (x:Ya UInt8×Int):Int:=(Utf8.decode ⟨x.1.toArray⟩ x.2.toNat).1
def runeN (x:Ya UInt8×Int):Ya UInt8×Int:=(x.1,((x.2.toNat+(Utf8.decode ⟨x.1.toArray⟩ x.2.toNat).2:Nat):Int))
def nextX (s:TS A) (v:TV A) (K:TV A->TS A->A.Ans ρ):A.Ans ρ:=
 match v with
 | .ptr id 0=>match alk s.hp id with
  | some (some (.si x))=>A.ite (A.k1 (x:=.pr .s (.i .i64)) (y:=.b) "" (λx=>decide (x.2<lenI x.1)) x)
    (K (.tp [.kb true,.c (.i .i64) (A.k1 (x:=.pr .s (.i .i64)) (y:=.i .i64) "" Prod.snd x),.c (.i .i32) (A.k1 (x:=.pr .s (.i .i64)) (y:=.i .i32) "" runeV x)]) { s with hp:=(id,some (.si (A.k1 (x:=.pr .s (.i .i64)) (y:=.pr .s (.i .i64)) "" runeN x)))::s.hp })
    (K (.tp [.kb false]) s)
  | _=>A.fail ""
 | _=>A.fail "next"
def xop (Δ:Ya (FuncId×Ctr)) (s:TS A) (o:Oper) (K:TV A->TS A->A.Ans ρ):A.Ans ρ:=
 match famX P c Δ s o K with
 | some a=>a
 | none=>match o.op with
  | .move x=>moveX P s o.type (tev c s x) K
  | .assign x=>moveX P s o.type (tev c s x) K
  | .pick x a b=>match tev c s x with
   | .kb t=>K (if t then tev c s a else tev c s b) s
   | .c .b x=>A.ite x (K (tev c s a) s) (K (tev c s b) s)
   | _=>A.fail "pick"
  | .alloc T=>kqw P s T K
  | .box T x=>boxX s T (tev c s x) K
  | .load T x=>loadX P c s T (tev c s x) K
  | .store T p x=>kpU P c s T (tev c s p) (tev c s x) K
  | .nilCheck x=>nilX c s (tev c s x) K
  | .binOp g T x y _=>binX P c s g T (tev c s x) (tev c s y) K
  | .unOp g _ x=>unX s g (tev c s x) K
  | .convert S T x=>convX P s S T (tev c s x) K
  | .makeFunc (.func f) first caps=>if first.isEmpty then K (.fn f (caps.toList.map (tev c s))) s else A.fail "makeFunc"
  | .makeSlice T x y=>kif P s T (tev c s x) (tev c s y) (khz x y) K
  | .slice T x u j none=>koG P c s T (tev c s x) (u.map (tev c s)) (j.map (tev c s)) K
  | .fieldAddr T x f=>khX P c s T (tev c s x) f K
  | .field T x f=>koV P s T (tev c s x) f K
  | .indexAddr T x i=>klf P c s T (tev c s x) (tev c s i) K
  | .index T x i=>idxX P s T (tev c s x) (tev c s i) K
  | .extract x i=>match tev c s x with
   | .tp vs=>match vs[i]? with
    | some v=>K v s
    | none=>A.fail "extract"
   | _=>A.fail "extract"
  | .build T e=>kpO P c s T e.toList K
  | .buildSlice T len e=>kht P c s T len e.toList K
  | .makeMap T none=>kkX P s T K
  | .lookup T m k ok=>kne P c s T (tev c s m) (tev c s k) ok K
  | .mapUpdate T m k x=>kmW P c s T (tev c s m) (tev c s k) (tev c s x) K
  | .mapEntry T m k=>knk P c s T (tev c s m) (tev c s k) K
  | .entryStore T m st x=>kpI c s (tev c s m) (tev c s st) (tev c s x) K
  | .range T x=>koH P s T (tev c s x) K
  | .next x true=>nextX s (tev c s x) K
  | .makeInterface _ _=>A.stop
  | .call l=>match l.callee with
   | .builtin b=>match b,l.args.toList,l.argTypes.toList with
    | .len,[x],[T]=>lenX P c s T (tev c s x) K
    | .append,[d,x],[T,T2]=>appX P c s T T2 (tev c s d) (tev c s x) K
    | .copy,[d,x],[T,T2]=>copyX P c s T (tev c s d) (tev c s x) K
    | .min,[x,y],_=>mmX false s (tev c s x) (tev c s y) K
    | .max,[x,y],_=>mmX true s (tev c s x) (tev c s y) K
    | .min,[x,y,q],_=>mmX false s (tev c s x) (tev c s y) λv s=>mmX false s v (tev c s q) K
    | .max,[x,y,q],_=>mmX true s (tev c s x) (tev c s y) λv s=>mmX true s v (tev c s q) K
    | _,_,_=>A.fail "builtin"
   | .value f=>callX c Δ s (tev c s f) (l.args.toList.map (tev c s)) K
   | .invoke _ _=>A.fail "invoke"
  | _=>A.fail "op"
def putT (s:TS A) (d:Yb Tmp) (v:TV A):TS A:=
 match d with
 | some d=>{ s with env:=(d,v)::s.env }
 | none=>s
def okD (c:Cx A) (a:Ya (Yb Tmp)):Bool:=a.all λd=>match d with
 | some d=>(alk c.e0 d).isNone
 | none=>true
def useM (Δ:Ya (FuncId×Ctr)) (s:TS A) (o:Oper):Yb (CtrM×Ya (TV A)):=
 match o.op with
 | .call l=>match l.callee with
  | .value f=>match tev c s f with
   | .fn g a=>match alk Δ g with
    | some C=>(pickM c Δ s (l.args.toList.map (tev c s)++a) C.mus).map λM=>(M,l.args.toList.map (tev c s)++a)
    | none=>none
   | _=>none
  | _=>none
 | _=>none
def khA (p:Pat) (i:Nat) (v:TV A) (s:TS A):TV A×TS A:=
 match v,alk p.env i with
 | .sc u,some (.mw q)=>match alk p.hp q with
  | some (.sl T t)=>if kbz u&&t.dat then (.mw s.n,{ s with hp:=(s.n,some (.sl T t (A.k0 (x:=.sl t) "" [])))::s.hp,n:=s.n+1 }) else (v,s)
  | _=>(v,s)
 | _,_=>(v,s)
def kgb (p:Pat):Ya (TV A)->Nat->TS A->Ya (TV A)×TS A
 | [],_,s=>([],s)
 | v::vs,i,s=>let r:=khA p i v s; let q:=kgb p vs (i+1) r.2; (r.1::q.1,q.2)
def useN (Δ:Ya (FuncId×Ctr)) (s:TS A) (o:Oper):Yb (CtrM×Ya (TV A)×TS A):=
 match o.op with
 | .call l=>match l.callee with
  | .value f=>match tev c s f with
   | .fn g a=>match alk Δ g with
    | some C=>C.mus.findSome? λM=>let r:=kgb M.inp (l.args.toList.map (tev c s)++a) 0 s; (pickM c Δ r.2 r.1 [M]).map λM=>(M,r.1,r.2)
    | none=>none
   | _=>none
  | _=>none
 | _=>none
def nilC (s:TS A) (o:Oper):Yb (Bool×Yb (A.D .b)):=
 match o.op with
 | .binOp op T x (.const v) _=>
  match kbz v&&(elemO P T).isSome&&(op == .eql||op == .neq) with
  | true=>match tev c s x with
   | .c (.sl t) l=>some (op == .neq,some (A.k1 (x:=.sl t) (y:=.b) "" (λl=>isE l) l))
   | .mw id=>match thp c s id with
    | some (.sl _ t l)=>some (op == .neq,some (A.k1 (x:=.sl t) (y:=.b) "" (λl=>isE l) l))
    | _=>none
   | .sc u=>if kbz u then some (op == .neq,none) else none
   | _=>none
  | false=>none
 | _=>none
def altL:Ya (A.Ans ρ)->A.Ans ρ
 | []=>A.fail "no contract"
 | [x]=>x
 | x::l=>A.els x (altL l)
def altsM (Δ:Ya (FuncId×Ctr)) (s:TS A) (o:Oper):Ya CtrM:=
 match o.op with
 | .call l=>match l.callee with
  | .value f=>match tev c s f with
   | .fn g a=>match alk Δ g with
    | some C=>C.mus.filter λM=>M.alt&&(pickM c Δ s (l.args.toList.map (tev c s)++a) [M]).isSome
    | none=>[]
   | _=>[]
  | _=>[]
 | _=>[]
def xopM (Δ:Ya (FuncId×Ctr)) (s:TS A) (o:Oper) (K:TV A->TS A->A.Ans ρ):A.Ans ρ:=
 match useM c Δ s o with
 | some (M,args)=>match M.alt with
  | false=>kgE c Δ s M args K
  | true=>altL ((altsM c Δ s o).map λM=>kgE c Δ s M args K)
 | none=>match useN c Δ s o with
  | some (M,args,s')=>kgE c Δ s' M args K
  | none=>match nilC P c s o with
   | some (ne,some e)=>A.ite e (A.bth (K (.kb true) s) (K (.kb false) s)) (K (.kb ne) s)
   | some (ne,none)=>K (.kb (!ne)) s
   | none=>xop P c Δ s o K
def xops (Δ:Ya (FuncId×Ctr)) (a:Ya (Yb Tmp)):Ya Oper->TS A->(TS A->A.Ans ρ)->A.Ans ρ
 | [],s,K=>K s
 | o::r,s,K=>match o.guard with
  | none=>xopM P c Δ s o λv s'=>xops Δ a r (putT s' o.dst v) K
  | some (j,want)=>match kba a j with
   | none=>A.fail "guard"
   | some d=>match tlk c s d with
    | .kb b=>match b==want with | true=>xopM P c Δ s o λv s'=>xops Δ a r (putT s' o.dst v) K | false=>xops Δ a r (putT s o.dst .ud) K
    | .c .b x=>
     let on:=xopM P c Δ { s with env:=(d,.kb want)::s.env } o λv s'=>xops Δ a r (putT s' o.dst v) K
     let off:=xops Δ a r (putT { s with env:=(d,.kb (!want))::s.env } o.dst .ud) K
     match want with | true=>A.ite x on off | false=>A.ite x off on
    | .ud=>xops Δ a r (putT s o.dst .ud) K
    | _=>A.fail "guard value"
def cls (o:Oper):Nat:=
 match o.op with
 | .move _ | .assign _ | .pick _ _ _ | .unOp _ _ _ | .convert _ _ _ | .makeFunc _ _ _ | .field _ _ _ | .index _ _ _ | .extract _ _ | .build _ _=>0
 | .fieldAddr _ _ _ | .indexAddr _ _ _ | .slice _ _ _ _ _ | .nilCheck _=>1
 | .call { callee:=.builtin .len,.. }=>1
 | .call { callee:=.builtin .min,.. } | .call { callee:=.builtin .max,.. }=>0
 | .load _ _ | .binOp _ _ _ _ _ | .lookup _ _ _ _=>2
 | _=>3
def tgtOp (o:Oper):Yb Yf:=
 match o.op with
 | .store _ p _=>some p
 | .mapUpdate _ m _ _=>some m
 | .insert _ m _ _=>some m
 | .mapEntry _ m _=>some m
 | .entryStore _ m _ _=>some m
 | .next x _=>some x
 | .call { callee:=.builtin .append,args,.. }=>match args.toList with
  | [s,_]=>some s
  | _=>none
 | .call { callee:=.builtin .copy,args,.. }=>match args.toList with
  | [s,_]=>some s
  | _=>none
 | _=>none
def kmU (o:Oper):Bool:=
 match o.op with
 | .store _ _ _=>true
 | _=>false
def rst {A:Alg} (s:TS A) (b:Ya Nat):TS A:=⟨s.env,s.hp.filter λx=>b.contains x.1,s.n,s.dy⟩
def tid:TV A->Yb Nat
 | .ptr i _=>some i
 | .adr i _ _=>some i
 | .aa i _=>some i
 | .ax i _ _=>some i
 | .mw i=>some i
 | .ms i _ _=>some i
 | .mp i=>some i
 | .fw i=>some i
 | .fr i _=>some i
 | .fo i _ _=>some i
 | .fa i _ _ _=>some i
 | _=>none
def isSc:TV A->Bool
 | .sc _=>true
 | _=>false
def isRow:TV A->Bool
 | .fr _ _=>true
 | .fa _ _ _ _=>true
 | _=>false
def okW (s:TS A) (a b:Ya Nat) (o:Oper):Bool:=
 match tgtOp o with
 | none=>true
 | some x=>match tid (tev c s x) with
  | some i=>(thp c s i).isSome&&!b.contains i&&(kmU o||!a.contains i)&&(!isRow (tev c s x)||(thp c s i).any TB.isF)
  | none=>isSc (tev c s x)
def wcOf (l:Ya Oper):Ya Nat:=l.zipIdx.filterMap λ(o,j)=>match o.op with | .buildSlice _ 0 _=>some j | _=>none
def nowX (s:TS A) (k e:Nat) (args:Ya (TV A)) (K:TV A->A.Ans ρ):A.Ans ρ:=
 match args with
 | [.ptr id 0]=>match thp c s id with
  | some (.bx _ vs)=>match vs[k]? with
   | some (.fw p)=>match thp c s p with
    | some (.fm T t _ _ _ l none)=>if T=e/\t.wd=P.cellsOf e/\t.wd≠0 then
      let i:=A.k1 (x:=.sl t) (y:=.i .i64) "" (λl=>lenI l-1) l
      A.p1 (x:=.sl t) (y:=.un) "" (λl=>glen l) l λ_=>A.p2 (x:=.sl t) (y:=.i .i64) (z:=t) "" (λl i=>gi l i) l i λ_=>K (.fo p i 0)
     else A.fail ""
    | _=>A.fail ""
   | _=>A.fail ""
  | _=>A.fail ""
 | _=>A.fail ""
def kgz (Δ:Ya (FuncId×Ctr)) (s:TS A) (f:TV A) (args:Ya (TV A)) (K:TV A->A.Ans ρ):A.Ans ρ:=
 match f with
 | .fn g b=>match alk Δ g with
  | none=>A.fail ""
  | some C=>match C.now with
   | some ke=>nowX P c s ke.1 ke.2 (args++b) K
   | none=>match kcg c Δ s C.asZ (args++b) with
   | none=>A.fail ""
   | some (l,ids)=>match mkT A C.asZ l with
    | none=>A.fail ""
    | some a=>if C.rs.all Ty.flat||(ids.isEmpty&&!s.dy) then A.p1 C.nm C.F a λy=>K (tvR C.rs y) else A.fail "drawn call eats"
 | .cv n x y F=>if h:tup (untup n x)=x then match snapM c s (untup n x) args with
   | none=>A.fail ""
   | some (l,_)=>match mkT A (untup n x) l with
    | none=>A.fail ""
    | some a=>if y.flat then A.p2 (x:=.fn n x y) (y:=x) (z:=y) "" (λF v=>F v) F (h ▸ a) λz=>K (.c y z) else A.fail ""
  else A.fail ""
 | _=>A.fail "drawn call"
def seen (s:TS A) (b:Ya Nat):Bool:=!s.dy&&c.g.all (λx=>b.contains x.1)&&b.all (λid=>!(thp c s id).any TB.isF)
def famG (c:Cx A):String:=match c.g.find? λx=>x.2.isF with | some x=> "" | none=> ""
def stepX (Δ:Ya (FuncId×Ctr)) (wc:Ya Nat) (rd:Ya (Nat×Nat)) (e b:Ya Nat) (j:Nat) (s:TS A) (o:Oper) (K:TV A->TS A->A.Ans ρ):A.Ans ρ:=
 if isW wc j o then
  if !kfF o&&okW c s e b o&&e.all (λid=>(thp c s id).isSome)&&!rd.any (λx=>x.1==j) then xop P c Δ s o K else A.fail ""
 else match o.op with
 | .buildSlice T len a=>bsX P c s T len a.toList λv=>K v s
 | .call { callee:=.value f,args,.. }=>
  if wants rd j then (if seen c s b then kgz P c Δ (rst s b) (tev c s f) (args.toList.map (tev c s)) (λv=>K v s) else A.fail (""++famG c))
  else kgz P c Δ s (tev c s f) (args.toList.map (tev c s)) λv=>K v s
 | _=>
  if cls o=0 then xop P c Δ s o K
  else if cls o=1 then (if wants rd j then (if seen c s e then xop P c Δ (rst s e) o λv _=>K v s else A.fail (""++famG c)) else xop P c Δ s o λv _=>K v s)
  else if cls o=2 then (if wants rd j then (if seen c s b then xop P c Δ (rst s b) o λv _=>K v s else A.fail (""++famG c)) else xop P c Δ s o λv _=>K v s)
  else A.fail "drawn operation"
def TB.ids:TB A->Ya Nat
 | .bx _ vs=>TV.idsL vs
 | _=>[]
def closX (s:TS A):Nat->Ya Nat->Ya Nat
 | 0,l=>l
 | d+1,l=>closX s d (l++(l.flatMap λi=>match thp c s i with | some b=>b.ids | none=>[]).filter λi=>!l.contains i)
def footX (s:TS A) (o:Oper):Ya Nat:=
 let l:=(o.op.operands.toList.map λx=>(tev c s x).ids).flatten
 (c.g.map (·.1)++(if kfF o then closX c s 3 l else l)).filter λi=>(thp c s i).isSome
def tgtT (s:TS A) (o:Oper):Yb (Ya Nat):=
 match tgtOp o with
 | none=>some []
 | some x=>match tid (tev c s x) with
  | some i=>if (thp c s i).isSome&&(!isRow (tev c s x)||(thp c s i).any TB.isF) then some [i] else none
  | none=>if isSc (tev c s x) then some [] else none
def pdOk (s:TS A) (anc:Ya Nat) (st:Bool) (T:Ya Nat) (pd:Ya (Nat×Nat×Ya Nat)):Bool:=
 pd.all λp=>anc.contains p.1||p.2.1==0||((p.2.1==1||p.2.1==2)&&p.2.2.all λid=>(thp c s id).isSome&&(!T.contains id||(st&&p.2.1==1)))
def chgd (s s':TS A):Ya Nat:=(s'.hp.take (s'.hp.length-s.hp.length)).map (·.1)
def ownT (s:TS A):Ya Tmp:=s.env.filterMap λx=>match x.2 with | .mw _=>some x.1 | _=>none
def wcGo (Δ:Ya (FuncId×Ctr)):Ya Oper->Nat->Ya Tmp->Ya Nat->Ya Nat
 | [],_,_,wc=>wc
 | o::r,j,tn,wc=>
  let f:=λ(x:Yf)=>match x with | .tmp t=>tn.contains t | _=>false
  let a:=λ(b:Bool)=>match b,o.dst with | true,some d=>d::tn | _,_=>tn
  match o.op with
  | .buildSlice _ len e=>if len==0||hintS Δ 7000000 o.dst||e.toList.any (λp=>f p.2) then wcGo Δ r (j+1) (a true) (j::wc) else wcGo Δ r (j+1) tn wc
  | .call { callee:=.value (.func g),.. }=>if (alk Δ g).any (λC=>!C.mus.isEmpty) then wcGo Δ r (j+1) (a true) (j::wc) else wcGo Δ r (j+1) tn wc
  | .call { callee:=.value (.tmp t),.. }=>if tn.contains t then wcGo Δ r (j+1) (a true) (j::wc) else wcGo Δ r (j+1) tn wc
  | .index _ x _=>wcGo Δ r (j+1) (a (f x)) wc
  | .lookup _ _ _ _=>if r.any (λq=>match q.op with | .mapEntry _ _ _=>true | _=>false) then wcGo Δ r (j+1) tn (j::wc) else wcGo Δ r (j+1) tn wc
  | .load _ _=>wcGo Δ r (j+1) (a (r.any λq=>match q.op with | .call { callee:=.value (.tmp t),.. }=>o.dst==some t | _=>false)) wc
  | .call { callee:=.builtin .append,.. } | .makeSlice _ _ _=>wcGo Δ r (j+1) (a true) wc
  | .move x=>wcGo Δ r (j+1) (a (f x||r.any λq=>match q.op with | .call { callee:=.value (.tmp t),.. }=>o.dst==some t | _=>false)) wc
  | .assign x | .extract x _ | .field _ x _=>wcGo Δ r (j+1) (a (f x)) wc
  | .build _ e=>wcGo Δ r (j+1) (a (e.toList.any λp=>f p.2)) wc
  | _=>wcGo Δ r (j+1) tn wc
def askD (Δ:Ya (FuncId×Ctr)) (s:TS A) (f:TV A) (args:Ya (TV A)):Yb (Nat×Ya (TV A)):=
 match f with
 | .fn g a=>match (alk Δ g).bind λC=>kcg c Δ s C.asZ (args++a) with
  | some _=>none
  | none=>some (g,args++a)
 | _=>none
def khH (Δ:Ya (FuncId×Ctr)) (W:Nat->Bool) (anc:Nat->Ya Nat) (a:Nat->Bool) (j:Nat) (s:TS A) (o:Oper) (pd:Ya (Nat×Nat×Ya Nat)) (K:TV A->TS A->Ya (Nat×Nat×Ya Nat)->A.Ans ρ):A.Ans ρ:=
 match W j with
 | true=>match o.op with
  | .call { callee:=.value f,args,.. }=>match useM c Δ s o with
   | some (M,asZ)=>kgE c Δ s M asZ λv s'=>match pdOk c s (anc j) false (chgd s s') pd with | true=>K v s' pd | false=>A.fail ""
   | none=>match askD c Δ s (tev c s f) (args.toList.map (tev c s)) with
    | some q=>askX c s q.1 q.2
    | none=>kgz P c Δ s (tev c s f) (args.toList.map (tev c s)) λv=>K v s pd
  | _=>match kfF o with
   | true=>A.fail "drawn call"
   | false=>match tgtT c s o with
    | some T=>match pdOk c s (anc j) (kmU o) T pd with
     | true=>xop P c Δ s o λv s'=>K v s' pd
     | false=>A.fail ""
    | none=>A.fail ""
 | false=>
  let F:=footX c s o
  match o.op with
  | .buildSlice T len b=>bsX P c s T len b.toList λv=>K v s ((j,0,[])::pd)
  | .call { callee:=.value f,args,.. }=>match a j with
   | true=>if seen c s F then kgz P c Δ (rst s F) (tev c s f) (args.toList.map (tev c s)) λv=>K v s ((j,2,F)::pd) else A.fail (""++famG c)
   | false=>kgz P c Δ s (tev c s f) (args.toList.map (tev c s)) λv=>K v s ((j,3,[])::pd)
  | _=>
   if cls o=0 then xop P c Δ s o λv s'=>K v s' ((j,0,[])::pd)
   else if cls o=1 then match a j with
    | true=>if seen c s F then xop P c Δ (rst s F) o λv _=>K v s ((j,1,F)::pd) else A.fail (""++famG c)
    | false=>xop P c Δ s o λv _=>K v s ((j,3,[])::pd)
   else if cls o=2 then match a j with
    | true=>if seen c s F then xop P c Δ (rst s F) o λv _=>K v s ((j,2,F)::pd) else A.fail (""++famG c)
    | false=>xop P c Δ s o λv _=>K v s ((j,3,[])::pd)
   else A.fail "drawn operation"
def xopsT (Δ:Ya (FuncId×Ctr)) (W:Nat->Bool) (anc:Nat->Ya Nat) (a:Nat->Bool) (e:Ya (Yb Tmp)):Ya Oper->Nat->TS A->Ya (Nat×Nat×Ya Nat)->(TS A->A.Ans ρ)->A.Ans ρ
 | [],_,s,_,K=>K s
 | o::r,i,s,pd,K=>match o.guard with
  | none=>khH P c Δ W anc a i s o pd λv s' pd=>xopsT Δ W anc a e r (i+1) (putT s' o.dst v) pd K
  | some (j,want)=>match kba e j with
   | none=>A.fail "guard"
   | some d=>match tlk c s d with
    | .kb b=>match b==want with | true=>khH P c Δ W anc a i s o pd λv s' pd=>xopsT Δ W anc a e r (i+1) (putT s' o.dst v) pd K | false=>xopsT Δ W anc a e r (i+1) (putT s o.dst .ud) pd K
    | .c .b x=>
     let on:=khH P c Δ W anc a i { s with env:=(d,.kb want)::s.env } o pd λv s' pd=>xopsT Δ W anc a e r (i+1) (putT s' o.dst v) pd K
     let off:=xopsT Δ W anc a e r (i+1) (putT { s with env:=(d,.kb (!want))::s.env } o.dst .ud) pd K
     match want with | true=>A.ite x on off | false=>A.ite x off on
    | .ud=>xopsT Δ W anc a e r (i+1) (putT s o.dst .ud) pd K
    | _=>A.fail "guard value"
def kpb (l:Ya Oper) (wc:Ya Nat) (anc:Ya (Ya Nat)):Bool:=
 l.zipIdx.all λ(o,w)=>!isW wc w o||l.zipIdx.all λ(_,j)=>!decide (w<j)||(anc.getD j []).contains w
def ordGo (n:Nat) (a:Ya Nat->Nat->Bool) (w:Nat->Bool):Nat->Ya Nat->Ya Nat
 | 0,acc=>acc
 | f+1,acc=>match (List.range n).find? λi=>!acc.contains i&&!w i&&a acc i with
  | some i=>ordGo n a w f (acc++[i])
  | none=>match (List.range n).find? λi=>!acc.contains i&&a acc i with
   | some i=>ordGo n a w f (acc++[i])
   | none=>acc
def noWr (l:Ya Oper) (wc:Ya Nat):Bool:=l.zipIdx.all λx=>!isW wc x.2 x.1
def ordX (l:Ya Oper) (wc:Ya Nat) (ex:Ya (Nat×Nat)):Ya Nat:=
 if ex.isEmpty&&noWr l wc then List.range l.length else
 ordGo l.length (λa i=>(match l[i]? with | some o=>o.after.toList.all λe=>!Region.binds .any e||a.contains e.on | none=>false)&&ex.all λx=>x.2 != i||a.contains x.1) (λi=>match l[i]? with | some o=>isW wc i o | none=>false) l.length []
def confX (Δ:Ya (FuncId×Ctr)) (e:Ya Tmp) (l:Ya Oper) (ex:Ya (Nat×Nat)):Yb (Nat×Nat):=
 if noWr l (wcGo Δ l 0 e []) then none else
 let ps:=ordX l (wcGo Δ l 0 e []) ex
 let l':=permL l ps ex
 let wc:=wcGo Δ l' 0 e []
 let anc:=ancOf l'
 l'.zipIdx.findSome? λ(o,a)=>if isW wc a o then l'.zipIdx.findSome? λ(f,b)=>if decide (a<b)&&isW wc b f&&!(anc.getD b []).contains a then some (ps.getD a 0,ps.getD b 0) else none else none
def drawT (Δ:Ya (FuncId×Ctr)) (a:Nat) (l:Ya Oper) (s:TS A) (K:TS A->A.Ans ρ):A.Ans ρ:=
 let wc:=wcGo Δ l 0 (ownT s) []
 let anc:=ancOf l
 if kcz l&&kpb l wc anc&&okD c (l.map (·.dst))&&kaY a l then
  xopsT P c Δ (λj=>match l[j]? with | some o=>isW wc j o | none=>false) (λj=>anc.getD j []) (λj=>!noWr l wc&&l.zipIdx.any λ(o,w)=>decide (j<w)&&isW wc w o&&!(anc.getD w []).contains j) (l.map (·.dst)) l 0 s [] K
 else A.fail "drawn order"
def bthL {ρ:Ty} (f:Ya (Nat×Nat)->A.Ans ρ):Ya (Ya (Nat×Nat))->A.Ans ρ
 | []=>A.fail "no order"
 | [x]=>f x
 | x::l=>A.bth (f x) (bthL f l)
def drawV (Δ:Ya (FuncId×Ctr)) (a:Nat) (l:Ya Oper) (s:TS A) (K:TS A->A.Ans ρ):A.Ans ρ:=
 if P.follows .mixedOrders&&backw l then bthL (λex=>let ps:=ordX l (wcGo Δ l 0 (ownT s) []) ex
   if kdR l.length ps then drawT P c Δ a (permL l ps ex) s K else A.fail "") (keS l.length (confX Δ (ownT s) l) 3 [])
 else A.fail ""
structure La where
 head:Pat
 out:Pat
 keep:List Nat
 gids:List Nat
 n:Nat
 ret:Bool
 tx:String:= ""
structure Kon (A:Alg) (r ρ:Ty) where
 nrm:TS A->A.Ans ρ
 ext:Nat->TS A->A.Ans ρ
 retv:A.D r->A.Ans ρ
variable {r:Ty}
def inCx (a:La) (c:Cx A) (s:TS A):Cx A:=
 ⟨a.keep.map (λx=>(x,tlk c s x))++c.e0,a.gids.filterMap (λid=>(ownB s id).map λb=>(id,b))++c.g⟩
def okP (a:La) (c:Cx A) (p:Pat) (n:Nat):Bool:=
 p.env.all (λx=>(alk c.e0 x.1).isNone&&!a.keep.contains x.1)&&p.hp.all (λx=>(alk c.g x.1).isNone&&!a.gids.contains x.1&&decide (x.1<n))
def okLa (a:La) (c:Cx A) (s:TS A):Bool:=
 a.keep.all (λx=>(alk c.e0 x).isNone)&&a.gids.all (λid=>(ownB s id).isSome)&&okP a c a.head s.n&&okP a c a.out a.n&&decide (s.n<=a.n)
def outTS (a:La) (c:Cx A) (s:TS A) (y:A.D a.out.ty):TS A:=
 let u:=kad a.out a.n y
 ⟨u.env++a.keep.map (λx=>(x,tlk c s x)),u.hp++a.gids.filterMap (λid=>(ownB s id).map λb=>(id,some b)),a.n,true⟩
def IM:Nat:=9999999
mutual
def TV.solid:TV A->Bool
 | .c _ _ | .kb _ | .sc _ | .fq _ _ _ | .cv _ _ _ _=>true
 | .fn _ vs=>TV.solidL vs
 | .tp vs=>TV.solidL vs
 | .ag vs=>TV.solidL vs
 | _=>false
def TV.solidL:Ya (TV A)->Bool
 | []=>true
 | v::vs=>v.solid&&TV.solidL vs
end
def TV.pure:TV A->Bool
 | .un | .ud=>true
 | v=>v.solid
def Ty.beq:(t:Ty)->t.den->t.den->Bool
 | .i _,x,y=>decide ((x:Int)=y)
 | .b,x,y=>decide ((x:Bool)=y)
 | .s,x,y=>decide ((x:Ya UInt8)=y)
 | .un,_,_=>true
 | .pr u v,x,y=>u.beq x.1 y.1&&v.beq x.2 y.2
 | .w a,x,y=>a.beq x y
 | .pt a,x,y=>a.beq x y
 | .sl a,x,y=>decide (List.length (α:=a.den) x=List.length (α:=a.den) y)&&(List.zip (α:=a.den) (β:=a.den) x y).all λp=>a.beq p.1 p.2
 | .op a,x,y=>match (x:Yb a.den),(y:Yb a.den) with
  | none,none=>true
  | some x,some y=>a.beq x y
  | _,_=>false
 | .ar _ a,x,y=>(x.l.zip y.l).all λp=>a.beq p.1 p.2
 | _,_,_=>false
def gpre (t:Ty) (o:Yb (Ya t.den)) (ys:Ya t.den) (e:t.den):Yb (Ya t.den):=
 match o with
 | none=>some (ys++[e])
 | some xs=>match xs[ys.length]? with
  | some x=>if t.beq x e=true then some (ys++[e]) else none
  | none=>none
def runI {α:Type} (F:Yb (Ya α)->Yb (Ya α)):Yb (Ya α):=
 (F none).bind λxs=>(F (some xs)).bind λys=>if ys.length=xs.length then some xs else none
def Ty.txt:Ty->String
 | .i k=> ""++kn k++ "" | .b=> ".b" | .s=> ".s" | .un=> ".un" | .nt=> ".nt"
 | .pr x y=> ""++x.txt++ " "++y.txt++ "" | .w x=> ""++x.txt++ "" | .sl x=> ""++x.txt++ "" | .pt x=> ""++x.txt++ "" | .op x=> ""++x.txt++ ""
 | .ar n x=> ""++toString n++ " "++x.txt++ "" | .sm x y=> ""++x.txt++ " "++y.txt++ "" | .fn n x y=> ""++toString n++ " "++x.txt++ " "++y.txt++ ""
def yCall (s:TS A) (ops:Ya Oper) (o:Oper):Bool:=
 match o.op with
 | .call a=>match a.callee with
  | .value (.tmp t)=>match tlk c s t with
   | .yl _=>true
   | _=>ops.any λp=>p.dst==some t&&p.guard.isNone&&(match p.op with | .move (.tmp u)=>(match tlk c s u with | .yl _=>true | _=>false) | _=>false)
  | _=>false
 | _=>false
def yIdx (Δ:Ya (FuncId×Ctr)) (s:TS A) (ops:Ya Oper):Yb Nat:=
 if (alk Δ IM).isNone then none else match ops.findIdx (yCall c s ops) with
  | k=>if k<ops.length then some k else none
def yEnv (s:TS A):Ya (Nat×TV A):=s.env.map λx=>(x.1,if x.2.pure then x.2 else .un)
def yTS (s:TS A) (d:Yb Tmp) (b:Bool) (a:TV A):TS A:=⟨(match d with | some d=>[(d,.kb b)] | none=>[])++(GS,a)::yEnv s,[],s.n,false⟩
def klL (Δ:Ya (FuncId×Ctr)) (s:TS A) (y:Oper) (Kf:TS A->A.Ans .un) (K:TS A->A.Ans ρ):A.Ans ρ:=
 match y.op,(alk Δ IM).bind (·.its.head?) with
 | .call cl,some ⟨_,[.nt],ts,F⟩=>match cl.callee with
  | .value f=>match tev c s f,alk s.env GS with
   | .yl id,some (.gs t ys)=>match tcast (.sl (tup ts)) ys,snapM c s ts (cl.args.toList.map (tev c s)) with
    | some ys,some (l,_)=>
     if id != 0||s.dy||!c.g.isEmpty||!(c.e0.all λx=>x.2.pure||(x.1==0&&(match x.2 with | .yl _=>true | _=>false)))||!ts.all Ty.dat||y.guard.isSome||y.dst==some GS then A.fail "yield state" else match mkT A ts l with
     | some e=>A.p2 (x:=.sl (tup ts)) (y:=tup ts) (z:=.sl (tup ts)) (""++Ty.txt (tup ts)++ "") (λys e=>gpre (tup ts) (F (0:Nat)) ys e) ys e λa=>
       A.chk (Kf (yTS s y.dst false .ud)) (K (yTS s y.dst true (.gs (tup ts) a)))
     | none=>A.fail "yield types"
    | _,_=>A.fail "yield arguments"
   | _,_=>A.fail "yield"
  | _=>A.fail "yield"
 | _,_=>A.fail "yield"
def rndE (ps:Ya Tmp) (l:Ya ((t:Ty)×A.D t)) (env:Ya (Nat×TV A)):Ya (Nat×TV A):=(ps.zip l).foldl (λe p=>(p.1,.c p.2.1 p.2.2)::e) env
def kmX (c:Cx A) (s:TS A):Yb (A.D .un):=match alk s.env GS with | some .ud=>some (A.k0 (x:=.un) "" ()) | _=>none
def krm:Kon A .un .un:=⟨λ_=>A.fail "goes on after a stop",λ_ _=>A.fail "goes on after a stop",λv=>A.ret v⟩
def mach (Δ:Ya (FuncId×Ctr)) (An:Nat->(A:Alg)->Cx A->TS A->Yb La) (j:Nat) :
  Nat->{A:Alg}->{r ρ:Ty}->(Cx A->TS A->Yb (A.D r))->Cx A->Ya Code->Kon A r ρ->TS A->A.Ans ρ
 | 0,A,_,_,_,_,_,_,_=>A.fail "fuel"
 | fuel+1,A,r,ρ,res,c,cs,K,s=>match cs with
  | []=>K.nrm s
  | .skip::cs=>mach Δ An j fuel res c cs K s
  | .seq a b::cs=>mach Δ An j fuel res c (a::b::cs) K s
  | .ret::_=>match res c { s with dy:=false } with
   | some v=>K.retv v
   | none=>askR c s
  | .exit id::_=>K.ext id s
  | .region id ops draw::cs=>match yIdx c Δ s ops.toList with
   | some k=>
    match ops.toList[k]? with
    | none=>A.fail "yield place"
    | some y=>
     if okD c (ops.toList.map (·.dst))&&kaY j ops.toList&&y.guard.isNone&&(!draw||(P.follows .mixedOrders&&kcz ops.toList&&barOk ops.toList k)) then
      let M:=λ(B:TS A)=>klL c Δ B y (λJ=>xops P c Δ (ops.toList.map (·.dst)) (ops.toList.drop (k+1)) J λL=>mach Δ An j fuel (r:=.un) (ρ:=.un) kmX c cs krm L) λJ=>xops P c Δ (ops.toList.map (·.dst)) (ops.toList.drop (k+1)) J λL=>mach Δ An j fuel res c cs K L
      if draw then drawT P c Δ j (ops.toList.take k) { s with dy:=false } M else xops P c Δ (ops.toList.map (·.dst)) (ops.toList.take k) { s with dy:=false } M
     else A.fail "yield region"
   | none=>
    let run:=λ(c:Cx A) {ρ:Ty} (s:TS A) (K:TS A->A.Ans ρ)=>if okD c (ops.toList.map (·.dst))&&kaY j ops.toList then (if draw then drawV P c Δ j ops.toList { s with dy:=false } K else xops P c Δ (ops.toList.map (·.dst)) ops.toList { s with dy:=false } K) else A.fail "slot that stays"
    match An (4*id+2) A c s with
    | none=>run c s λs=>mach Δ An j fuel res c cs K s
    | some a=>
     let m:=inCx a c s
     if !okLa a c s then A.fail "pattern" else
     A.note a.tx<|A.jn (x:=a.out.ty) (run m ⟨s.env.filter (λx=>!a.keep.contains x.1),s.hp.filter (λx=>!a.gids.contains x.1),s.n,s.dy⟩ λs'=>match pack m a.n a.out s' with
      | some y=>A.ret y
      | none=>A.fail "join of a region") λy=>mach Δ An j fuel res c cs K (outTS a c s y)
  | .cond x a b::cs=>match tev c s x with
   | .kb true=>mach Δ An j fuel res c (a::cs) K s
   | .kb false=>mach Δ An j fuel res c (b::cs) K s
   | .c .b v=>
    match An (match x with | .tmp t=>4*t+1 | _=>3) A c s with
    | none=>A.ite v (mach Δ An j fuel res c (a::cs) K s) (mach Δ An j fuel res c (b::cs) K s)
    | some l=>
     let m:=inCx l c s
     if !okLa l c s then A.fail "pattern" else
     let B:TS A:=⟨s.env.filter (λx=>!l.keep.contains x.1),s.hp.filter (λx=>!l.gids.contains x.1),s.n,s.dy⟩
     A.note l.tx<|if l.ret then
      let H:Kon A r (.sm r l.out.ty):=⟨λs'=>match pack m l.n l.out s' with
       | some y=>A.ret (A.k1 (x:=l.out.ty) (y:=.sm r l.out.ty) "" Sum.inr y)
       | none=>A.fail "join",λ_ _=>A.fail "join exit",λv=>A.ret (A.k1 (x:=r) (y:=.sm r l.out.ty) "" Sum.inl v)⟩
      A.jn (x:=.sm r l.out.ty) (A.ite v (mach Δ An j fuel res m [a] H B) (mach Δ An j fuel res m [b] H B)) λz=>A.cs (x:=r) (y:=l.out.ty) z (λv=>K.retv v) λy=>mach Δ An j fuel res c cs K (outTS l c s y)
     else
      let H:Kon A r l.out.ty:=⟨λs'=>match pack m l.n l.out s' with
       | some y=>A.ret y
       | none=>A.fail "join",λ_ _=>A.fail "join exit",λ_=>A.fail "join return"⟩
      A.jn (x:=l.out.ty) (A.ite v (mach Δ An j fuel res m [a] H B) (mach Δ An j fuel res m [b] H B)) λy=>mach Δ An j fuel res c cs K (outTS l c s y)
   | _=>A.fail "cond"
  | .block id (.loop b)::cs=>match An (4*id) A c s with
   | none=>A.fail "loop without a pattern"
   | some l=>
    let m:=inCx l c s
    if !okLa l c s then A.fail "pattern" else
    match pack m s.n l.head ⟨s.env.filter (λx=>!l.keep.contains x.1),s.hp.filter (λx=>!l.gids.contains x.1),s.n,s.dy⟩ with
    | none=>A.fail "head of a loop"
    | some x=>
     A.note l.tx<|if l.ret then
      A.lp (x:=l.head.ty) (y:=.sm r l.out.ty) x (λx=>
       mach Δ An j fuel res m [b] ⟨λs'=>match pack m s.n l.head s' with
         | some y=>A.ret (A.k1 (x:=l.head.ty) (y:=.sm l.head.ty (.sm r l.out.ty)) "" Sum.inl y)
         | none=>A.fail "round",
        λw s'=>if w=id then match pack m l.n l.out s' with
         | some y=>A.ret (A.k1 (x:=l.out.ty) (y:=.sm l.head.ty (.sm r l.out.ty)) "" (λy=>Sum.inr (Sum.inr y)) y)
         | none=>A.fail "end of a loop" else A.fail "exit from a loop",
        λv=>A.ret (A.k1 (x:=r) (y:=.sm l.head.ty (.sm r l.out.ty)) "" (λy=>Sum.inr (Sum.inl y)) v)⟩ (kad l.head s.n x))
       λz=>A.cs (x:=r) (y:=l.out.ty) z (λv=>K.retv v) λy=>mach Δ An j fuel res c cs K (outTS l c s y)
     else
      A.lp (x:=l.head.ty) (y:=l.out.ty) x (λx=>
       mach Δ An j fuel res m [b] ⟨λs'=>match pack m s.n l.head s' with
         | some y=>A.ret (A.k1 (x:=l.head.ty) (y:=.sm l.head.ty l.out.ty) "" Sum.inl y)
         | none=>A.fail "round",
        λw s'=>if w=id then match pack m l.n l.out s' with
         | some y=>A.ret (A.k1 (x:=l.out.ty) (y:=.sm l.head.ty l.out.ty) "" Sum.inr y)
         | none=>A.fail "end of a loop" else A.fail "exit from a loop",
        λ_=>A.fail "return from a loop"⟩ (kad l.head s.n x))
       λy=>mach Δ An j fuel res c cs K (outTS l c s y)
  | .block id (.rangeFunc f ps assign body)::cs=>
   if (alk Δ IM).isSome then A.fail "loop over a function in an iterator" else
   let s:TS A:=⟨s.env,s.hp,s.n,false⟩
   match tev c s f with
   | .fn g G=>match (alk Δ g).bind (·.its.head?) with
    | none=>A.fail ""
    | some I=>if ((alk Δ g).map (·.own)).getD false&&!kmA c s I.asZ G then A.fail "captured cells" else
     match kcg c Δ s I.asZ G with
     | none=>A.fail ""
     | some (l,ids)=>match retire s ids,mkT A I.asZ l with
      | some s0,some a=>
       let s:TS A:=⟨s0.env,s0.hp,s0.n,false⟩
       match An (4*id) A c s with
       | none=>A.fail "loop without a pattern"
       | some l=>
        let m:=inCx l c s
        if !okLa l c s||!l.head.env.isEmpty||!l.out.env.isEmpty||!ps.toList.all (λp=>(alk m.e0 p).isNone&&decide (p<j))||I.ts.length≠ps.size||!I.ts.all Ty.dat then A.fail "pattern" else
        match pack m s.n l.head ⟨s.env.filter (λx=>!l.keep.contains x.1),s.hp.filter (λx=>!l.gids.contains x.1),s.n,s.dy⟩ with
        | none=>A.fail "head of a loop"
        | some x=>
         let C:=λ(R:Cx A) (B:TS A)=>res ⟨m.e0,R.g⟩ ⟨[],B.hp,B.n,B.dy⟩
         let stT:Ty:=.pr (.i .i64) l.head.ty
         A.note l.tx<|A.p1 (x:=tup I.asZ) (y:=.sl (tup I.ts)) I.nm I.F a λxs=>
         A.lp (x:=stT) (y:=.sm r l.out.ty) (A.k2 (x:=.i .i64) (y:=l.head.ty) (z:=stT) "" Prod.mk (toI A 0 .i64) x) (λst=>
          let i:A.D (.i .i64):=A.k1 (x:=stT) (y:=.i .i64) "" Prod.fst st
          let T:A.D l.head.ty:=A.k1 (x:=stT) (y:=l.head.ty) "" Prod.snd st
          let u:=kad l.head s.n T
          A.ite (A.k2 (x:=.i .i64) (y:=.sl (tup I.ts)) (z:=.b) "" (λ(i:Int) xs=>decide (i<lenI xs)) i xs)
           (A.p2 (x:=.sl (tup I.ts)) (y:=.i .i64) (z:=tup I.ts) "" (λl i=>gi l i) xs i λe=>
            mach Δ An j fuel C m [assign] ⟨λs'=>mach Δ An j fuel C m [body] ⟨λs'=>match pack m s.n l.head s' with
              | some y=>A.ret (A.k1 (x:=stT) (y:=.sm stT (.sm r l.out.ty)) "" Sum.inl (A.k2 (x:=.i .i64) (y:=l.head.ty) (z:=stT) "" Prod.mk (A.k1 (x:=.i .i64) (y:=.i .i64) "" (λ(i:Int)=>i+1) i) y))
              | none=>A.fail "round",
             λw s'=>if w=id then match pack m l.n l.out s' with
              | some y=>A.ret (A.k1 (x:=l.out.ty) (y:=.sm stT (.sm r l.out.ty)) "" (λy=>Sum.inr (Sum.inr y)) y)
              | none=>A.fail "end of a loop" else A.fail "exit from a loop",
             λv=>A.ret (A.k1 (x:=r) (y:=.sm stT (.sm r l.out.ty)) "" (λy=>Sum.inr (Sum.inl y)) v)⟩ s',λ_ _=>A.fail "exit",λ_=>A.fail "exit"⟩ ⟨rndE ps.toList (unT A I.ts e) u.env,u.hp,u.n,u.dy⟩)
           (match pack m l.n l.out u with
            | some y=>A.ret (A.k1 (x:=l.out.ty) (y:=.sm stT (.sm r l.out.ty)) "" (λy=>Sum.inr (Sum.inr y)) y)
            | none=>A.fail "end of a loop"))
          λz=>A.cs (x:=r) (y:=l.out.ty) z (λv=>K.retv v) λy=>mach Δ An j fuel res c cs K (outTS l c s y)
      | _,_=>A.fail ""
   | _=>A.fail "loop over a function"
  | .block id b::cs=>mach Δ An j fuel res c [b] ⟨λs=>mach Δ An j fuel res c cs K s,λw s=>if w=id then mach Δ An j fuel res c cs K s else K.ext w s,K.retv⟩ s
  | _=>A.fail "code"
def cellX {A:Alg} (c:Cx A) (s:TS A) (T:Yc) (v:TV A):Yb (TV A):=
 match aggO P T with
 | none=>none
 | some ag=>match v with
  | .ptr id j=>match thp c s id with
   | some (.bx _ vs)=>if ag then (if j+P.cellsOf T<=vs.length then some (.ag ((vs.drop j).take (P.cellsOf T))) else none) else vs[j]?
   | some (.el _ t x)=>(comp t x j (P.cellsOf T) ag).map λy=>.c y.1 y.2
   | _=>none
  | _=>none
def resX {A:Alg} (c:Cx A) (s:TS A):Ya ResultVar->(rs:Ya Ty)->Yb (Ya ((t:Ty)×A.D t))
 | [],[]=>some []
 | .tmp t::l,r::rs=>(snapV c s r (tlk c s t)).bind λx=>(resX c s l rs).map λy=>⟨r,x.1⟩::y
 | .cell a T::l,r::rs=>(cellX P c s T (tlk c s a)).bind λv=>(snapV c s r v).bind λx=>(resX c s l rs).map λy=>⟨r,x.1⟩::y
 | _,_=>none
def argT {A:Alg}:(t:Ty)->A.D t->TV A
 | .fn n x y,F=>.cv n x y F
 | t,x=>.c t x
def argsT {A:Alg} (asZ:Ya Ty) (x:A.D (tup asZ)) (n:Nat):TS A:=⟨(unT A asZ x).zipIdx.map λy=>(y.2,argT y.1.1 y.1.2),[],n,false⟩
def machF (Δ:Ya (FuncId×Ctr)) (An:Nat->(A:Alg)->Cx A->TS A->Yb La) (f:Func) (asZ rs:Ya Ty) {A:Alg} (x:A.D (tup asZ)):A.Ans (tup rs):=
 let a:=λ(c:Cx A) (s:TS A)=>(resX P c s f.results.toList rs).bind (mkT A rs)
 match f.body with
 | none=>A.fail "body"
 | some body=>mach P Δ An f.ntmps 1000000 a ⟨[],[]⟩ [body] ⟨λs=>match a ⟨[],[]⟩ s with | some v=>A.ret v | none=>A.fail "result",λ_ _=>A.fail "exit",λv=>A.ret v⟩ (argsT asZ x 0)
def kbg {A:Alg}:Ya (Yb Ty)->Ya ((t:Ty)×A.D t)->Nat->Ya (Nat×TV A)
 | some _::ks,p::l,i=>(i,argT p.1 p.2)::kbg ks l (i+1)
 | none::ks,l,i=>kbg ks l (i+1)
 | _,_,_=>[]
def kda:Ya (Yb Ty)->Nat->Ya Nat
 | some _::ks,i=>i::kda ks (i+1)
 | none::ks,i=>kda ks (i+1)
 | [],_=>[]
def resTV {A:Alg} (c:Cx A) (s:TS A):Ya ResultVar->Yb (Ya (TV A))
 | []=>some []
 | .tmp t::l=>(resTV c s l).map λvs=>tlk c s t::vs
 | .cell a T::l=>(cellX P c s T (tlk c s a)).bind λv=>(resTV c s l).map λvs=>v::vs
def endM {A:Alg} (c:Cx A) (s:TS A) (vs:Ya (TV A)):TS A:=⟨(vs.zipIdx.map λx=>(1000000+x.2,x.1))++(s.env++c.e0),s.hp++c.g.map (λx=>(x.1,some x.2)),s.n,false⟩
def resM {A:Alg} (C:CtrM) (l:Ya ResultVar) (c:Cx A) (s:TS A):Yb (A.D C.out.ty):=
 (resTV P c s l).bind λvs=>if vs.length=C.nr then (packM ⟨[],[]⟩ C.n1 C.out (endM c s vs) C.inn).bind λm=>if m.sn.isEmpty&&C.inn.all (λp=>alk m.ids p==some p) then mkT A C.out.tys m.cs else none else none
def CtrM.okS (C:CtrM):Bool:=
 decide (kda C.ks 0++C.inp.env.map (·.1)).Nodup&&C.inp.env.all (λx=>decide (x.1<C.ks.length))&&C.ok&&decide C.inn.Nodup &&
 C.out.env.all (λx=>(decide (1000000<=x.1)&&decide (x.1<1000000+C.nr))||(decide (x.1<C.ks.length)&&match alk C.inp.env x.1 with | some (.mw _)=>true | some (.ptr _ _)=>true | some (.mp _)=>true | _=>false))
def ktB (Δ:Ya (FuncId×Ctr)) (An:Nat->(A:Alg)->Cx A->TS A->Yb La) (f:Func) (C:CtrM) {A:Alg} (x:A.D (tup (C.ks.filterMap id++C.inp.tys))):A.Ans C.out.ty:=
 let l:=unT A (C.ks.filterMap id++C.inp.tys) x
 let u:=kak (A:=A) C.inp C.n0 (l.drop (C.ks.filterMap id).length)
 let c:Cx A:=⟨u.env.filter (λx=>(alk C.out.env x.1).isSome)++C.inn.map (λp=>(7000000+p,.kp p)),[]⟩
 match f.body with
 | none=>A.fail "body"
 | some body=>mach P Δ An f.ntmps 1000000 (resM P C f.results.toList) c [body] ⟨λs=>if f.results.toList.isEmpty then (match resM P C [] c ⟨[],s.hp,s.n,false⟩ with | some v=>A.ret v | none=>askR c s) else if s.dy then A.fail "dirty end" else match resM P C f.results.toList c s with | some v=>A.ret v | none=>askR c s,λ_ _=>A.fail "exit",λv=>A.ret v⟩ ⟨kbg C.ks (l.take (C.ks.filterMap id).length) 0++u.env.filter (λx=>!(alk C.out.env x.1).isSome),u.hp,C.n0,false⟩
def anFit {A:Alg} (k:Nat) (a:La) (c:Cx A) (s:TS A):Bool:=
 okLa a c s&&(k % 4 != 0||(pack (inCx a c s) s.n a.head ⟨s.env.filter (λx=>!a.keep.contains x.1),s.hp.filter (λx=>!a.gids.contains x.1),s.n,s.dy⟩).isSome)
def anL (l:Ya (Nat×La)):Nat->(A:Alg)->Cx A->TS A->Yb La:=λk _ c s=>match l.filter λx=>x.1==k with
 | []=>none
 | [x]=>match k % 4==0||anFit k x.2 c s with
  | true=>some x.2
  | false=>none
 | xs=>(xs.find? λx=>anFit k x.2 c s).map (·.2)
end
theorem Snap.mono {z z':AH} (hz:∀ q B,z q=some B->z' q=some B) {a a':AV} (h:Snap z a a'):Snap z' a a':=by
 induction h with
 | free a t=>exact .free a t
 | nilS=>exact .nilS
 | own id i j k T es e cs hB u hl hr g=>exact .own id i j k T es e cs (hz _ _ hB) u hl g
 | ms id off len k T es es' hB p hl m hr g=>exact .ms id off len k T es es' (hz _ _ hB) p hl m g
 | fp cs b hl hr g=>exact .fp cs b hl g
 | sl es es' hl m hr g=>exact .sl es es' hl m g
 | fn f cs b hl hr g=>exact .fn f cs b hl g
 | ag cs b hl hr g=>exact .ag cs b hl g
 | tp cs b hl hr g=>exact .tp cs b hl g
theorem SnapL.mono {z z':AH} (hz:∀ q B,z q=some B->z' q=some B) {l l':Ya AV} (h:SnapL z l l'):SnapL z' l l':=by
 induction h with
 | nil=>exact .nil
 | cons b h2 a=>exact .cons (b.mono hz) a
theorem SnapL.append {z:AH} {a a' b b':Ya AV} (h:SnapL z a a') (g:SnapL z b b'):SnapL z (a++b) (a'++b'):=by
 induction h with
 | nil=>exact g
 | cons f h2 e=>exact .cons f e
theorem SnapL.take {z:AH} {a a':Ya AV} (h:SnapL z a a'):∀ n,SnapL z (a.take n) (a'.take n):=by
 induction h with
 | nil=>intro n; simp; exact .nil
 | cons e h2 b=>
  intro n;cases n with
  | zero=>exact .nil
  | succ n=>simpa using SnapL.cons e (b n)
theorem SnapL.drop {z:AH} {a a':Ya AV} (h:SnapL z a a'):∀ n,SnapL z (a.drop n) (a'.drop n):=by
 induction h with
 | nil=>intro n; simp; exact .nil
 | cons e h2 b=>
  intro n;cases n with
  | zero=>exact .cons e h2
  | succ n=>simpa using b n
theorem SnapL.of_at {z:AH}:∀ {l l':Ya AV},l'.length=l.length->(∀ (q:Nat) (c b:AV),l[q]?=some c->l'[q]?=some b->Snap z c b)->SnapL z l l'
 | [],[],_,_=>.nil
 | a::l,a'::l',hl,h=>.cons (h 0 a a' rfl rfl) (SnapL.of_at (by simpa using hl) λq c b f e=>h (q+1) c b (by simpa using f) (by simpa using e))
theorem SnapL.splitR {z:AH}:∀ {a' b' l:Ya AV},SnapL z l (a'++b')->∃ a b,l=a++b/\SnapL z a a'/\SnapL z b b'
 | [],b',l,h=>⟨[],l,rfl,.nil,h⟩
 | x::a',b',_,.cons h1 h2=>by
  obtain ⟨a,b,rfl,g1,e⟩:=SnapL.splitR h2;exact ⟨_::a,b,rfl,.cons h1 g1,e⟩
theorem Snap.ag_inv {z:AH} {a:AV} {b:Ya AV} (h:Snap z a (.ag b)):∃ cs,a = .ag cs/\SnapL z cs b:=by
 cases h with
 | free _ e=>exact ⟨_,rfl,SnapL.free ((kjY _).1 e)⟩
 | ag cs _ hl hr=>exact ⟨cs,rfl,SnapL.of_at hl hr⟩
theorem Snap.sc_inv {z:AH} {a:AV} {v:Yd} (h:Snap z a (.sc v)):a = .sc v:=by cases h; rfl
theorem Snap.fp_inv {z:AH} {a:AV} {b:Ya AV} (h:Snap z a (.fp b)):(∃ cs,a = .fp cs/\SnapL z cs b)\/∃ id i j k T es e,a = .own id i j/\z id=some (.cells k T es)/\es[i]?=some e/\SnapL z (e.drop j) b:=by
 cases h with
 | free _ f=>exact .inl ⟨_,rfl,SnapL.free ((kjZ _).1 f)⟩
 | own id i j k T es e cs hB g hl hr=>exact .inr ⟨id,i,j,k,T,es,e,rfl,hB,g,SnapL.of_at hl hr⟩
 | fp cs _ hl hr=>exact .inl ⟨cs,rfl,SnapL.of_at hl hr⟩
def SnapE (z:AH) (es es':Ya (Ya AV)):Prop:=es'.length=es.length/\∀ (q:Nat) (e e':Ya AV),es[q]?=some e->es'[q]?=some e'->SnapL z e e'
theorem SnapE.free {z:AH} {es:Ya (Ya AV)} (h:∀ e∈es,FreeL e):SnapE z es es:=⟨rfl,λq e e' b a=>by rw [b] at a; cases a; exact SnapL.free (h e (jai b))⟩
theorem SnapE.mono {z z':AH} (hz:∀ q B,z q=some B->z' q=some B) {es es':Ya (Ya AV)} (h:SnapE z es es'):SnapE z' es es':=⟨h.1,λq e e' b a=>(h.2 q e e' b a).mono hz⟩
theorem Snap.of_sl {z:AH} {es es':Ya (Ya AV)} (h:SnapE z es es'):Snap z (.sl es) (.sl es'):=
 .sl es es' h.1 (λq e e' b a=>(h.2 q e e' b a).len) λq e e' b a=>(h.2 q e e' b a).at
theorem Snap.of_ms {z:AH} {id off len k:Nat} {T:Yc} {es es':Ya (Ya AV)} (hB:z id=some (.cells k T es)) (i:off+len<=es.length) (h:SnapE z ((es.drop off).take len) es'):Snap z (.ms id off len) (.sl es'):=by
 have f:es'.length=len:=by rw [h.1,jbh,jdb]; omega
 have key:∀ q e e',es[off+q]?=some e->es'[q]?=some e'->SnapL z e e':=λq e e' b a=>by
  have g:q<len:=by have:=(jae.1 a).1; omega
  exact h.2 q e e' (by rw [jbs,if_pos g,jau]; exact b) a
 exact .ms id off len k T es es' hB i f (λq e e' b a=>(key q e e' b a).len) λq e e' b a=>(key q e e' b a).at
theorem Snap.sl_inv {z:AH} {a:AV} {es':Ya (Ya AV)} (h:Snap z a (.sl es')) :
  (∃ es,a = .sl es/\SnapE z es es')\/(a=Abs.nilS/\es'=[])\/∃ id off len k T es,a = .ms id off len/\z id=some (.cells k T es)/\off+len<=es.length/\SnapE z ((es.drop off).take len) es':=by
 cases h with
 | free _ m=>exact .inl ⟨_,rfl,SnapE.free ((kjX _).1 m)⟩
 | nilS=>exact .inr (.inl ⟨rfl,rfl⟩)
 | ms id off len k T es _ hB j hl i hr=>
  refine .inr (.inr ⟨id,off,len,k,T,es,rfl,hB,j,by rw [hl,jbh,jdb]; omega,λq e e' f b=>?_⟩);have g:q<len:=by have:=(jae.1 b).1; omega
  rw [jbs,if_pos g,jau] at f;exact SnapL.of_at (i q e e' f b) (hr q e e' f b)
 | sl es _ hl i hr=>exact .inl ⟨es,rfl,hl,λq e e' f b=>SnapL.of_at (i q e e' f b) (hr q e e' f b)⟩
theorem kkJ {α β:Type} {k:Nat} {f:α->Ya β} (a:∀ y,(f y).length=k):∀ l:Ya α,(l.map f).flatten.length=l.length*k
 | []=>by simp
 | x::l=>by simp [kkJ a l,a x,Nat.succ_mul,Nat.add_comm]
theorem kaf:∀ (t:Ty) (x:t.den),t.dat=true->(t.enc x).length=t.wd
 | .i _,_,_ | .b,_,_ | .s,_,_ | .un,_,_ | .sl _,_,_ | .pt _,_,_=>rfl
 | .op _,_,_=>rfl
 | .pr a b,x,h=>by
  simp only [Ty.dat,jad] at h;show (a.enc x.1++b.enc x.2).length=a.wd+b.wd;rw [jax,kaf a x.1 h.1,kaf b x.2 h.2]
 | .w a,x,h=>by simpa [Ty.enc,Ty.wd] using kaf a x h
 | .ar n a,x,h=>by
  simp only [Ty.enc,Ty.wd];rw [kkJ (λy=>kaf a y h),x.h]
theorem kaH:∀ (t:Ty) (x:t.den),t.dat=true->∀ a∈t.enc x,a.one=true
 | .i _,_,_ | .b,_,_ | .s,_,_ | .sl _,_,_ | .pt _,_,_=>by intro a f; simp [Ty.enc] at f; subst f; rfl
 | .un,_,_=>by intro a f; simp [Ty.enc] at f
 | .op _,x,_=>by intro a f; simp [Ty.enc] at f; subst f; cases x <;> rfl
 | .pr a b,x,h=>by
  simp only [Ty.dat,jad] at h;intro v e;replace e:v∈a.enc x.1++b.enc x.2:=e;rw [jay] at e;rcases e with e | e
  ·exact kaH a x.1 h.1 v e
  ·exact kaH b x.2 h.2 v e
 | .w a,x,h=>kaH a x h
 | .ar n a,x,h=>by
  intro v e;simp only [Ty.enc,List.mem_flatten,jba] at e;obtain ⟨l,⟨y,_,rfl⟩,e⟩:=e;exact kaH a y h v e
theorem kaX:∀ (t:Ty) (x:t.den),t.dat=true->FreeL (t.enc x)
 | .i _,_,_ | .b,_,_ | .s,_,_=>by simp [Ty.enc]
 | .un,_,_=>by simp [Ty.enc]
 | .sl a,l,h=>by
  simp only [Ty.enc,kbV,kgS,and_true,kjX];intro e g;obtain ⟨y,_,rfl⟩:=jba.1 g;exact kaX a y h
 | .pt a,x,h=>by simpa [Ty.enc] using kaX a x h
 | .op a,x,h=>by
  simp only [Ty.enc,kbV,kgS,and_true];exact ktz (λy=>kaX a y h) x
 | .pr a b,x,h=>by
  simp only [Ty.dat,jad] at h;exact (kpu (a.enc x.1) (b.enc x.2)).2 ⟨kaX a x.1 h.1,kaX b x.2 h.2⟩
 | .w a,x,h=>kaX a x h
 | .ar n a,x,h=>by
  intro v f;simp only [Ty.enc,List.mem_flatten,jba] at f;obtain ⟨l,⟨y,_,rfl⟩,f⟩:=f;exact kaX a y h v f
theorem kdK {t:Ty} (h:t.agg=true) (x:t.den):t.av x = .ag (t.enc x):=by simp [Ty.av,h]
theorem kdN {t:Ty} (h:t.agg=false) (a:t.dat=true) (x:t.den):t.enc x=[t.av x]:=by
 cases t <;> simp [Ty.agg,Ty.dat] at h a <;> rfl
theorem kfX (t:Ty) (x:t.den) (a:t.dat=true):Free (t.av x):=by
 cases h:t.agg with
 | true=>rw [kdK h]; exact (kjY _).2 (kaX t x a)
 | false=>have:=kaX t x a; rw [kdN h a,kbV] at this; exact this.1
theorem ktt {t:Ty} (h:t.agg=false) (a:t.dat=true):t.wd=1:=by cases t <;> simp [Ty.agg,Ty.dat] at h a <;> rfl
def avsN:Nat->(x:Ty)->x.den->Ya AV
 | 0,_,_=>[]
 | 1,t,v=>[t.av v]
 | n+2,.pr a b,v=>a.av v.1::avsN (n+1) b v.2
 | _+2,t,v=>[t.av v]
section
variable (P:Ye)
def CV (n:Nat) (x y:Ty) (F:x.den->Yb y.den) (a:AV):Prop:=
 ∃ g asZ,a = .fn g asZ/\FreeL asZ/\(untup n x).length=n/\(untup n x).all Ty.dat=true/\y.dat=true/\∀ v r,F v=some r->PC P g (avsN n x v++asZ) (·= y.av r)
def decN:Nat->Nat->Ya Nat
 | 0,_=>[]
 | f+1,m=>if m=0 then [] else
  if m % 2=0 then (match decN f (m / 2) with | []=>[] | a::l=>(a+1)::l) else 0::decN f (m / 2)
def encN:Ya Nat->Nat
 | []=>0
 | a::l=>2 ^ a*(2*encN l+1)
def kjz:Ya Nat->Ya (Yb Nat×Nat)
 | r::m::l=>(if r=0 then none else some (r-1),m)::kjz l
 | _=>[]
def kgK:Ya (Yb Nat×Nat)->Ya Nat
 | []=>[]
 | (r,m)::l=>(match r with | none=>0 | some r=>r+1)::m::kgK l
def kac (x:Nat):Ya (Yb Nat×Nat):=kjz (decN x x)
theorem kpn (a:Nat) (l:Ya Nat):0<encN (a::l):=by
 unfold encN;exact Nat.mul_pos (Nat.pow_pos (by omega)) (by omega)
theorem klq:∀ (f:Nat) (l:Ya Nat),encN l<=f->decN f (encN l)=l
 | 0,[],_=>rfl
 | 0,a::l,h=>by have:=kpn a l; omega
 | f+1,[],_=>by simp [encN,decN]
 | f+1,0::l,h=>by
  have e:encN (0::l)=2*encN l+1:=by simp [encN]
  rw [e] at h ⊢;unfold decN;rw [if_neg (by omega),if_neg (by omega),show (2*encN l+1) / 2=encN l by omega,klq f l (by omega)]
 | f+1,(a+1)::l,h=>by
  have e:encN ((a+1)::l)=2*encN (a::l):=by simp only [encN]; rw [Nat.pow_succ,Nat.mul_comm (2 ^ a) 2,Nat.mul_assoc]
  have hp:=kpn a l;rw [e] at h ⊢;unfold decN;rw [if_neg (by omega),if_pos (by omega),show 2*encN (a::l) / 2=encN (a::l) by omega,klq f (a::l) (by omega)]
theorem kfI:∀ (l:Ya (Yb Nat×Nat)),kjz (kgK l)=l
 | []=>rfl
 | (none,m)::l=>by simp [kgK,kjz,kfI l]
 | (some r,m)::l=>by simp [kgK,kjz,kfI l]
def codeR (l:Ya (Yb Nat×Nat)):Nat:=encN (kgK l)
theorem kbi (l:Ya (Yb Nat×Nat)):kac (codeR l)=l:=by
 unfold kac codeR;rw [klq _ _ (jah _),kfI]
mutual
inductive TVR (κ:Nat->Option Nat) (ln:Nat->Nat) (z:AH) (N:Nat):TV sem->AV->Prop
 | un (a:AV):TVR κ ln z N .un a
 | ud:TVR κ ln z N .ud .ud
 | c (t:Ty) (x:t.den) (a:AV) (hd:t.dat=true) (h:Snap z a (t.av x)):TVR κ ln z N (.c t x) a
 | kb (b:Bool):TVR κ ln z N (.kb b) (.sc (.bool b))
 | sc (v:Value) (h1:v.oneCell'=true):TVR κ ln z N (.sc v) (.sc v)
 | ptr (id j q:Nat) (hN:id<N) (h:κ id=some q):TVR κ ln z N (.ptr id j) (.own q 0 j)
 | adr (id:Nat) (i:Int) (j q:Nat) (hN:id<N) (h:κ id=some q) (h0:0<=i) (h1:i.toNat<ln id):TVR κ ln z N (.adr id i j) (.own q i.toNat j)
 | aa (id:Nat) (i:Int) (q:Nat) (hN:id<N) (h:κ id=some q) (h0:0<=i) (h1:i.toNat<ln id):TVR κ ln z N (.aa id i) (.own q 0 i.toNat)
 | ax (id:Nat) (i k:Int) (q:Nat) (hN:id<N) (h:κ id=some q) (h0:0<=i) (h1:i.toNat<ln id) (hk:0<=k):TVR κ ln z N (.ax id i k) (.own q i.toNat k.toNat)
 | fq (t:Ty) (x:t.den) (o:Nat) (a:AV) (hd:t.dat=true) (h:Snap z a (.fp ((t.enc x).drop o))):TVR κ ln z N (.fq t x o) a
 | mw0 (id:Nat) (hN:id<N) (h:κ id=none):TVR κ ln z N (.mw id) nilS
 | mw (id q:Nat) (hN:id<N) (h:κ id=some q):TVR κ ln z N (.mw id) (.ms q 0 (ln id))
 | ms0 (id:Nat) (off len:Int) (hN:id<N) (h:κ id=none) (ho:off=0) (hl:len=0):TVR κ ln z N (.ms id off len) nilS
 | ms (id:Nat) (off len:Int) (q:Nat) (hN:id<N) (h:κ id=some q) (h0:0<=off) (h1:0<=len) (h2:off+len<=ln id):TVR κ ln z N (.ms id off len) (.ms q off.toNat len.toNat)
 | mp (id q:Nat) (hN:id<N) (h:κ id=some q):TVR κ ln z N (.mp id) (.mp q)
 | fw0 (id:Nat) (hN:id<N) (h:κ id=none):TVR κ ln z N (.fw id) nilS
 | fw (id q:Nat) (hN:id<N) (h:κ id=some q):TVR κ ln z N (.fw id) (.ms q 0 (kac (ln id)).length)
 | fr0 (id:Nat) (i:Int) (m:Nat) (hN:id<N) (h0:0<=i) (h:(kac (ln id))[i.toNat]?=some (none,m)):TVR κ ln z N (.fr id i) nilS
 | fr (id:Nat) (i:Int) (r m:Nat) (hN:id<N) (h0:0<=i) (h:(kac (ln id))[i.toNat]?=some (some r,m)):TVR κ ln z N (.fr id i) (.ms r 0 m)
 | fo (id:Nat) (i:Int) (j q:Nat) (hN:id<N) (h:κ id=some q) (h0:0<=i) (h1:i.toNat<(kac (ln id)).length):TVR κ ln z N (.fo id i j) (.own q i.toNat j)
 | fs0 (id:Nat) (off len:Int) (hN:id<N) (h:κ id=none) (ho:off=0) (hl:len=0):TVR κ ln z N (.fs id off len) nilS
 | fs (id:Nat) (off len:Int) (q:Nat) (hN:id<N) (h:κ id=some q) (h0:0<=off) (h1:0<=len) (h2:off+len<=(kac (ln id)).length):TVR κ ln z N (.fs id off len) (.ms q off.toNat len.toNat)
 | fa (id:Nat) (i k:Int) (o r m:Nat) (hN:id<N) (h0:0<=i) (h:(kac (ln id))[i.toNat]?=some (some r,m)) (hk:0<=k) (hm:k.toNat<m):TVR κ ln z N (.fa id i k o) (.own r k.toNat o)
 | fn (g:FuncId) (vs:List (TV sem)) (asZ:List AV) (h:TVRs κ ln z N vs asZ):TVR κ ln z N (.fn g vs) (.fn g asZ)
 | cv (n:Nat) (x y:Ty) (F:x.den->Option y.den) (a:AV) (h:CV P n x y F a):TVR κ ln z N (.cv n x y F) a
 | tp (vs:List (TV sem)) (asZ:List AV) (h:TVRs κ ln z N vs asZ):TVR κ ln z N (.tp vs) (.tp asZ)
 | ag (vs:List (TV sem)) (asZ:List AV) (h:TVRs κ ln z N vs asZ) (h1:∀ a∈asZ,a.one=true):TVR κ ln z N (.ag vs) (.ag asZ)
 | gs (t:Ty) (l:List t.den):TVR κ ln z N (.gs t l) (.gs (l.map t.enc))
 | yl (id q:Nat) (hN:id<N) (h:κ id=some q):TVR κ ln z N (.yl id) (.sc (.func (.yield q) #[] #[]))
 | kp (id:Nat) (hN:id<N):TVR κ ln z N (.kp id) .un
 | np0 (id:Nat) (hN:id<N):TVR κ ln z N (.np id) (.sc (.pointer none))
 | np (id q:Nat) (hN:id<N) (h:κ id=some q):TVR κ ln z N (.np id) (.own q 0 0)
inductive TVRs (κ:Nat->Option Nat) (ln:Nat->Nat) (z:AH) (N:Nat):List (TV sem)->List AV->Prop
 | nil:TVRs κ ln z N [] []
 | cons (v:TV sem) (a:AV) (vs:List (TV sem)) (asZ:List AV) (h:TVR κ ln z N v a) (hs:TVRs κ ln z N vs asZ):TVRs κ ln z N (v::vs) (a::asZ)
end
variable {P}
variable {κ κ':Nat->Yb Nat} {ln ln':Nat->Nat} {z z':AH} {N N':Nat}
mutual
theorem TVR.mono (f:∀ id,id<N->κ' id = κ id) (e:∀ id,id<N->ln' id=ln id) (hz:∀ q B,z q=some B->z' q=some B) (hN:N<=N'):∀ {v:TV sem} {a:AV},TVR P κ ln z N v a->TVR P κ' ln' z' N' v a
 | _,_,.un a=>.un a
 | _,_,.ud=>.ud
 | _,_,.c t x a hd h=>.c t x a hd (h.mono hz)
 | _,_,.kb b=>.kb b
 | _,_,.sc v h1=>.sc v h1
 | _,_,.ptr id j q hi h=>.ptr id j q (by omega) (by rw [f id hi]; exact h)
 | _,_,.adr id i j q hi h h0 h1=>.adr id i j q (by omega) (by rw [f id hi]; exact h) h0 (by rw [e id hi]; exact h1)
 | _,_,.aa id i q hi h h0 h1=>.aa id i q (by omega) (by rw [f id hi]; exact h) h0 (by rw [e id hi]; exact h1)
 | _,_,.ax id i k q hi h h0 h1 hk=>.ax id i k q (by omega) (by rw [f id hi]; exact h) h0 (by rw [e id hi]; exact h1) hk
 | _,_,.fq t x o a hd h=>.fq t x o a hd (h.mono hz)
 | _,_,.mw0 id hi h=>.mw0 id (by omega) (by rw [f id hi]; exact h)
 | _,_,.mw id q hi h=>by rw [<-e id hi]; exact .mw id q (by omega) (by rw [f id hi]; exact h)
 | _,_,.ms0 id off len hi h ho hl=>.ms0 id off len (by omega) (by rw [f id hi]; exact h) ho hl
 | _,_,.ms id off len q hi h h0 h1 h2=>.ms id off len q (by omega) (by rw [f id hi]; exact h) h0 h1 (by rw [e id hi]; exact h2)
 | _,_,.mp id q hi h=>.mp id q (by omega) (by rw [f id hi]; exact h)
 | _,_,.fw0 id hi h=>.fw0 id (by omega) (by rw [f id hi]; exact h)
 | _,_,.fw id q hi h=>by rw [<-e id hi]; exact .fw id q (by omega) (by rw [f id hi]; exact h)
 | _,_,.fr0 id i m hi h0 h=>.fr0 id i m (by omega) h0 (by rw [e id hi]; exact h)
 | _,_,.fr id i r m hi h0 h=>.fr id i r m (by omega) h0 (by rw [e id hi]; exact h)
 | _,_,.fs0 id off len hi h ho hl=>.fs0 id off len (by omega) (by rw [f id hi]; exact h) ho hl
 | _,_,.fs id off len q hi h h0 h1 h2=>.fs id off len q (by omega) (by rw [f id hi]; exact h) h0 h1 (by rw [e id hi]; exact h2)
 | _,_,.fo id i j q hi h h0 h1=>.fo id i j q (by omega) (by rw [f id hi]; exact h) h0 (by rw [e id hi]; exact h1)
 | _,_,.fa id i k o r m hi h0 h hk hm=>.fa id i k o r m (by omega) h0 (by rw [e id hi]; exact h) hk hm
 | _,_,.fn g vs asZ h=>.fn g vs asZ (TVRs.mono f e hz hN h)
 | _,_,.cv n x y F a h=>.cv n x y F a h
 | _,_,.tp vs asZ h=>.tp vs asZ (TVRs.mono f e hz hN h)
 | _,_,.ag vs asZ h h1=>.ag vs asZ (TVRs.mono f e hz hN h) h1
 | _,_,.gs t l=>.gs t l
 | _,_,.yl id q hi h=>.yl id q (by omega) (by rw [f id hi]; exact h)
 | _,_,.kp id hi=>.kp id (by omega)
 | _,_,.np0 id hi=>.np0 id (by omega)
 | _,_,.np id q hi h=>.np id q (by omega) (by rw [f id hi]; exact h)
theorem TVRs.mono (e:∀ id,id<N->κ' id = κ id) (b:∀ id,id<N->ln' id=ln id) (hz:∀ q B,z q=some B->z' q=some B) (hN:N<=N'):∀ {v:Ya (TV sem)} {a:Ya AV},TVRs P κ ln z N v a->TVRs P κ' ln' z' N' v a
 | _,_,.nil=>.nil
 | _,_,.cons v a vs asZ h hs=>.cons v a vs asZ (TVR.mono e b hz hN h) (TVRs.mono e b hz hN hs)
end
theorem TVRs.len:∀ {vs:Ya (TV sem)} {asZ:Ya AV},TVRs P κ ln z N vs asZ->asZ.length=vs.length
 | _,_,.nil=>rfl
 | _,_,.cons _ _ _ _ _ h=>by simp [h.len]
theorem TVRs.append:∀ {vs:Ya (TV sem)} {asZ:Ya AV} {us:Ya (TV sem)} {bs:Ya AV},TVRs P κ ln z N vs asZ->TVRs P κ ln z N us bs->TVRs P κ ln z N (vs++us) (asZ++bs)
 | _,_,_,_,.nil,g=>g
 | _,_,_,_,.cons v a vs asZ h hs,g=>.cons v a _ _ h (hs.append g)
theorem TVRs.take:∀ {vs:Ya (TV sem)} {asZ:Ya AV},TVRs P κ ln z N vs asZ->∀ n,TVRs P κ ln z N (vs.take n) (asZ.take n)
 | _,_,.nil,n=>by simp; exact .nil
 | _,_,.cons v a vs asZ h hs,0=>.nil
 | _,_,.cons v a vs asZ h hs,n+1=>by simpa using TVRs.cons v a _ _ h (hs.take n)
theorem TVRs.drop:∀ {vs:Ya (TV sem)} {asZ:Ya AV},TVRs P κ ln z N vs asZ->∀ n,TVRs P κ ln z N (vs.drop n) (asZ.drop n)
 | _,_,.nil,n=>by simp; exact .nil
 | _,_,.cons v a vs asZ h hs,0=>.cons v a vs asZ h hs
 | _,_,.cons v a vs asZ h hs,n+1=>by simpa using hs.drop n
theorem TVRs.at:∀ {vs:Ya (TV sem)} {asZ:Ya AV},TVRs P κ ln z N vs asZ->∀ {j:Nat} {v:TV sem},vs[j]?=some v->∃ a,asZ[j]?=some a/\TVR P κ ln z N v a
 | _,_,.nil,j,v,hj=>by simp at hj
 | _,_,.cons v a vs asZ h hs,0,u,hj=>by simp at hj; subst hj; exact ⟨a,rfl,h⟩
 | _,_,.cons v a vs asZ h hs,j+1,u,hj=>by simpa using hs.at (j:=j) (by simpa using hj)
def valsK:(k:Ty)->k.den->Ya Yd
 | .i k,x=>[.int k x]
 | .s,x=>[ks x]
 | .b,x=>[.bool x]
 | .w a,x=>valsK a x
 | .pr a b,x=>valsK a x.1++valsK b x.2
 | .ar _ a,x=>(x.l.map (valsK a)).flatten
 | _,_=>[]
def keyV:(k:Ty)->k.den->Yd
 | .i k,x=>.int k x
 | .s,x=>ks x
 | .b,x=>.bool x
 | k,x=>.agg (valsK k x).toArray
def FamE (z h:AH) (j:Nat) (U:Yc) (w:Nat) (cs e:Ya AV) (b:Yb Nat×Nat):Prop:=
 e.length=cs.length/\(∀ (q:Nat) (a a':AV),q≠j->e[q]?=some a->cs[q]?=some a'->Snap z a a')/\∃ ys,cs[j]?=some (.sl ys)/\b.2=ys.length/\
  match b.1 with
  | none=>e[j]?=some nilS/\ys=[]
  | some r=>e[j]?=some (.ms r 0 b.2)/\∃ es,h r=some (.cells w U es)/\SnapE z es ys/\∀ x∈es,x.length=w/\∀ a∈x,a.one=true
theorem FamE.mono {z z' h h':AH} {j w:Nat} {U:Yc} {cs e:Ya AV} {b:Yb Nat×Nat} (hz:∀ q B,z q=some B->z' q=some B) (y:∀ r B,b.1=some r->h r=some B->h' r=some B) (f:FamE z h j U w cs e b):FamE z' h' j U w cs e b:=by
 obtain ⟨v,h2,ys,C,u,i⟩:=f;refine ⟨v,λq a a' t G g=>(h2 q a a' t G g).mono hz,ys,C,u,?_⟩;obtain ⟨r,m⟩:=b;cases r with
 | none=>exact i
 | some r=>
  obtain ⟨g1,es,p,H,x⟩:=i;exact ⟨g1,es,y r _ rfl p,H.mono hz,x⟩
def fnV:Yb Nat->AV
 | some f=>.fn f []
 | none=>.sc .nilFunc
theorem koO (f:Yb Nat):Free (fnV f):=by
 cases f with
 | none=>exact .sc _
 | some f=>exact (kfa _ _).2 (λ_ h=>by cases h)
def kmL (l:Ya (Ya UInt8×Yb Nat)):Ya (Yd×AV):=l.map (kvE ks fnV)
def kan (x:Nat):Ya Nat:=(kac x).filterMap (·.1)
def HoleOk (z:AH) (j:Nat) {t:Ty} (l:Ya t.den) (es:Ya (Ya AV)) (rows:Ya (Yb Nat×Nat)) (a:Yb Int):Prop:=
 (∀ (i:Nat) (f:Yb Nat×Nat),a=some (i:Int)->rows[i]?=some f->f.1=none)/\
 ∀ (i:Nat) (x:t.den) (e:Ya AV),a=some (i:Int)->l[i]?=some x->es[i]?=some e->∀ (p:Nat) (b b':AV),p≠j->e[p]?=some b->(t.enc x)[p]?=some b'->Snap z b b'
theorem HoleOk.none {z:AH} {j:Nat} {t:Ty} {l:Ya t.den} {es:Ya (Ya AV)} {rows:Ya (Yb Nat×Nat)}:HoleOk z j l es rows none:=⟨λ_ _ h=>(by cases h),λ_ _ _ h=>(by cases h)⟩
theorem HoleOk.mono {z z':AH} {j:Nat} {t:Ty} {l:Ya t.den} {es:Ya (Ya AV)} {rows:Ya (Yb Nat×Nat)} {a:Yb Int} (h:HoleOk z j l es rows a) (hz:∀ q B,z q=some B->z' q=some B):HoleOk z' j l es rows a:=
 ⟨h.1,λi x e g h2 u p b b' f m v=>(h.2 i x e g h2 u p b b' f m v).mono hz⟩
variable (P) in
inductive BR (κ:Nat->Option Nat) (ln:Nat->Nat) (z h:AH) (N id:Nat):TB sem->Prop
 | bx (T:TypeId) (vs:List (TV sem)) (q:Nat) (asZ:List AV) (hq:κ id=some q) (hh:h q=some (.cells vs.length T [asZ])) (hv:TVRs P κ ln z N vs asZ) (h1:∀ a∈asZ,a.one=true):BR κ ln z h N id (.bx T vs)
 | el (T:TypeId) (t:Ty) (x:t.den) (q:Nat) (cs:List AV) (hd:t.dat=true) (hq:κ id=some q) (hh:h q=some (.cells t.wd T [cs])) (hv:SnapL z cs (t.enc x)) (h1:∀ a∈cs,a.one=true) (hl:∀ n u,t = .ar n u->ln id=n):BR κ ln z h N id (.el T t x)
 | sl0 (T:TypeId) (t:Ty) (l:List t.den) (hd:t.dat=true) (hq:κ id=none) (hl:l=[]) (hn:ln id=0):BR κ ln z h N id (.sl T t l)
 | sl (T:TypeId) (t:Ty) (l:List t.den) (q:Nat) (es:List (List AV)) (hd:t.dat=true) (hq:κ id=some q) (hh:h q=some (.cells t.wd T es)) (hv:SnapE z es (l.map t.enc)) (h1:∀ e∈es,∀ a∈e,a.one=true) (hn:l.length=ln id):BR κ ln z h N id (.sl T t l)
 | mp (k v:Ty) (l:List (k.den×v.den)) (q:Nat) (hk:isKey k=true) (hf:v.flat=true) (hq:κ id=some q) (hh:h q=some (.map (l.map λp=>(keyV k p.1,v.av p.2)))):BR κ ln z h N id (.mp k v l)
 | si (x:List UInt8×Int) (q:Nat) (hq:κ id=some q) (h0:0<=x.2) (hh:h q=some (.si ⟨x.1.toArray⟩ x.2.toNat)):BR κ ln z h N id (.si x)
 | km (l:List (List UInt8×Option Nat)) (q:Nat) (hq:κ id=some q) (hh:h q=some (.map (kmL l))):BR κ ln z h N id (.km l)
 | fm0 (T:TypeId) (t:Ty) (j:Nat) (U:TypeId) (u:Ty) (l:List t.den) (ho:Option Int) (hd:t.dat=true) (hq:κ id=none) (hl:l=[]) (hn:ln id=0):BR κ ln z h N id (.fm T t j U u l ho)
 | fm (T:TypeId) (t:Ty) (j:Nat) (U:TypeId) (u:Ty) (l:List t.den) (ho:Option Int) (q:Nat) (es:List (List AV)) (hd:t.dat=true) (hq:κ id=some q) (hh:h q=some (.cells t.wd T es)) (hn:l.length=(kac (ln id)).length) (hl:es.length=l.length)
   (hv:∀ (i:Nat) (x:t.den) (e:List AV) (rm:Option Nat×Nat),l[i]?=some x->es[i]?=some e->(kac (ln id))[i]?=some rm->ho≠some (i:Int)->FamE z h j U u.wd (t.enc x) e rm) (h0:HoleOk z j l es (kac (ln id)) ho) (h1:∀ e∈es,e.length=t.wd/\∀ a∈e,a.one=true):BR κ ln z h N id (.fm T t j U u l ho)
end
def FamOk (κ:Nat->Yb Nat) (ln:Nat->Nat) (z:AH) (c:Cx sem) (s:TS sem) (n:Nat):Prop:=
 ∀ id B,thp c s id=some B->B.isF=true->(kan (ln id)).Nodup/\∀ r∈kan (ln id),r<n/\z r=none/\(∀ j a,thp c s j=some a->κ j≠some r)/\∀ j a,thp c s j=some a->a.isF=true->r∈kan (ln j)->j=id
structure Rel (P:Program) (κ:Nat->Option Nat) (ln:Nat->Nat) (z:AH) (c:Cx sem) (s:TS sem) (env:Env) (h:AH) (n:Nat):Prop where
 env:∀ x,TVR P κ ln z s.n (tlk c s x) (lk env x)
 blk:∀ id B,thp c s id=some B->BR P κ ln z h s.n id B
 lt:∀ id B,thp c s id=some B->id<s.n
 inj:∀ i j B B' q,thp c s i=some B->thp c s j=some B'->κ i=some q->κ j=some q->i=j
 zin:∀ q B,z q=some B->h q=some B
 zout:∀ id B q,thp c s id=some B->κ id=some q->z q=none
 bnd:∀ id B q,thp c s id=some B->κ id=some q->q<n
 hn:∀ q,n<=q->h q=none
 e0:∀ x v,alk s.env x=some v->alk c.e0 x=none
 g:∀ id b,alk s.hp id=some b->alk c.g id=none
 dy:s.dy=false->z=λ_=>none
 zk:∀ q k T es,z q=some (.cells k T es)->∀ e∈es,e.length=k
 fam:FamOk κ ln z c s n
section
variable {P:Ye} {κ:Nat->Yb Nat} {ln:Nat->Nat} {z:AH} {c:Cx sem} {s:TS sem} {env:Env} {h:AH} {n:Nat}
def Ow (κ:Nat->Yb Nat) (ln:Nat->Nat) (id:Nat) (B:TB sem) (q:Nat):Prop:=κ id=some q\/(B.isF=true/\q∈kan (ln id))
theorem kav {x i r m:Nat} (h:(kac x)[i]?=some (some r,m)):r∈kan x:=jcn.2 ⟨_,jai h,rfl⟩
theorem Rel.owI (R:Rel P κ ln z c s env h n) {i j q:Nat} {B b:TB sem} (f:thp c s i=some B) (e:thp c s j=some b) (ki:Ow κ ln i B q) (a:Ow κ ln j b q):i=j:=by
 rcases ki with ki | ⟨m,ki⟩
 ·rcases a with a | ⟨g,a⟩
  ·exact R.inj i j B b q f e ki a
  ·exact absurd ki (((R.fam j b e g).2 q a).2.2.1 i B f)
 ·rcases a with a | ⟨g,a⟩
  ·exact absurd a (((R.fam i B f m).2 q ki).2.2.1 j b e)
  ·exact (((R.fam i B f m).2 q ki).2.2.2 j b e g a).symm
theorem Rel.owN (R:Rel P κ ln z c s env h n) {i q:Nat} {B:TB sem} (a:thp c s i=some B) (ki:Ow κ ln i B q):q<n:=by
 rcases ki with ki | ⟨f,ki⟩
 ·exact R.bnd i B q a ki
 ·exact ((R.fam i B a f).2 q ki).1
theorem Rel.owZ (R:Rel P κ ln z c s env h n) {i q:Nat} {B:TB sem} (a:thp c s i=some B) (ki:Ow κ ln i B q):z q=none:=by
 rcases ki with ki | ⟨f,ki⟩
 ·exact R.zout i B q a ki
 ·exact ((R.fam i B a f).2 q ki).2.1
def ows (κ:Nat->Yb Nat) (ln:Nat->Nat) (c:Cx sem) (s:TS sem) (id:Nat):Ya Nat:=(κ id).toList++(if (thp c s id).any TB.isF then kan (ln id) else [])
theorem ows_k {id q:Nat} (a:κ id=some q):q∈ows κ ln c s id:=by simp [ows,a]
theorem ows_r {id q:Nat} {B:TB sem} (hB:thp c s id=some B) (a:B.isF=true) (hr:q∈kan (ln id)):q∈ows κ ln c s id:=by simp [ows,hB,a,hr]
theorem kci {id q:Nat} {B:TB sem} (hB:thp c s id=some B) (h:q∈ows κ ln c s id):Ow κ ln id B q:=by
 simp only [ows,jay,Option.mem_toList,hB,Option.any_some] at h;rcases h with h | h
 ·exact .inl h
 ·split at h
  ·rename_i a; exact .inr ⟨a,h⟩
  ·cases h
def hz (o:Nat->Ya Nat) (h z:AH) (ids:Ya Nat):AH:=λq=>if ids.any (λid=>(o id).contains q) then h q else z q
variable {o:Nat->Ya Nat}
theorem kaP:hz o h z []=z:=by funext q; simp [hz]
theorem kcb {ids ids':Ya Nat} (b:∀ q B,z q=some B->h q=some B) (g:∀ id∈ids,id∈ids'):∀ q B,hz o h z ids q=some B->hz o h z ids' q=some B:=by
 intro q B a;unfold hz at a ⊢;by_cases e:ids.any (λid=>(o id).contains q)=true
 ·have h2:ids'.any (λid=>(o id).contains q)=true:=by
   rw [jbq] at e ⊢;obtain ⟨id,i,f⟩:=e;exact ⟨id,g id i,f⟩
  rw [if_pos e] at a; rw [if_pos h2]; exact a
 ·rw [if_neg e] at a;split
  ·exact b q B a
  ·exact a
theorem hz_z {ids:Ya Nat} (a:∀ q B,z q=some B->h q=some B):∀ q B,z q=some B->hz o h z ids q=some B:=λq B b=>kcb (ids:=[]) a (by simp) q B (by rw [kaP]; exact b)
theorem kcH {ids:Ya Nat} (a:∀ q B,z q=some B->h q=some B):∀ q B,hz o h z ids q=some B->h q=some B:=by
 intro q B b;unfold hz at b;split at b
 ·exact b
 ·exact a q B b
theorem hz_in {ids:Ya Nat} {id q:Nat} (b:id∈ids) (a:q∈o id):hz o h z ids q=h q:=by
 unfold hz;rw [if_pos (jbq.2 ⟨id,b,by simpa using a⟩)]
theorem hz_at {ids:Ya Nat} {id q:Nat} (b:id∈ids) (a:κ id=some q):hz (ows κ ln c s) h z ids q=h q:=hz_in b (ows_k a)
theorem kaj {t t':Ty} {x:t'.den} {y:t.den} (h:tcast (A:=sem) t x=some y):∃ e:t'=t,e ▸ x=y:=by
 unfold tcast at h;split at h
 ·rename_i e; exact ⟨e,by simpa using h⟩
 ·cases h
theorem khs (v:Yd) (a:v.oneCell'=true) {N:Nat}:TVR P κ ln z N (ofVal sem v) (.sc v):=by
 cases v with
 | int k m=>exact .c (.i k) m _ rfl (.free _ (.sc _))
 | bool b=>exact .kb b
 | string s=>exact .c .s s.data.toList _ rfl (by simpa [Ty.av,Ty.agg,Ty.enc,str] using Snap.free _ (.sc _))
 | _=>exact .sc _ a
theorem kqT (v:Yd) {N:Nat}:TVR P κ ln z N (ofCst sem v) (cst v):=by
 cases v with
 | agg cs=>
  simp only [ofCst,cst];split
  ·rename_i b;have f:∀ v∈cs.toList,v.oneCell'=true:=by
    simp only [jcj] at b;exact λv e=>b v (by simpa using e)
   refine .ag _ _ ?_ (λa g=>by obtain ⟨v,e,rfl⟩:=jba.1 g; exact f v e);generalize cs.toList=l at f;induction l with
   | nil=>exact .nil
   | cons v l i=>exact .cons _ _ _ _ (khs v (f v (by simp))) (i λv e=>f v (by simp [e]))
  ·exact .un _
 | tuple _=>exact .un _
 | _=>simp only [ofCst,cst]; exact khs _ rfl
theorem Rel.ev (R:Rel P κ ln z c s env h n) (x:Yf):TVR P κ ln z s.n (tev c s x) (Abs.ev env x):=by
 cases x with
 | tmp t=>exact R.env t
 | const v=>exact kqT v
 | global g=>exact .un _
 | func f=>exact .fn f [] [] .nil
theorem SnapE.drop_take {z:AH} {es es':Ya (Ya AV)} (h:SnapE z es es') (o m:Nat):SnapE z ((es.drop o).take m) ((es'.drop o).take m):=by
 refine ⟨by simp [h.1],λq e e' b a=>?_⟩;rw [jbs] at b a;split at b
 ·rename_i f;rw [if_pos f,jau] at a;rw [jau] at b;exact h.2 _ e e' b a
 ·cases b
theorem c_one {t:Ty} {x:t.den} {a:AV} {N:Nat} (b:t.dat=true) (e:t.agg=false) (f:Snap z a (t.av x)):SnapL z [a] (t.enc x):=by
 rw [kdN e b]; exact .cons f .nil
theorem Rel.snapE_fam (R:Rel P κ ln z c s env h n) {id H q:Nat} {T U:Yc} {t u:Ty} {l:Ya t.den} (hB:thp c s id=some (.fm T t H U u l none)) (v:κ id=some q) {ids:Ya Nat} (hi:id∈ids) :
  l.length=(kac (ln id)).length/\∃ es,h q=some (.cells t.wd T es)/\es.length=l.length/\SnapE (hz (ows κ ln c s) h z ids) es (l.map t.enc):=by
 have X:=R.blk _ _ hB;cases X with
 | fm0 _ _ _ _ _ _ _ G C hl hn=>rw [C] at v; cases v
 | fm _ _ _ _ _ _ _ q' es G C hh hn hl B h0 h1=>
   rw [C] at v; cases v;refine ⟨hn,es,hh,hl,?_⟩;refine ⟨by simp [hl],λi e e' he f=>?_⟩;rw [jas] at f;obtain ⟨x,L,rfl⟩:=jac.1 f;obtain ⟨w,j⟩:∃ w,(kac (ln id))[i]?=some w:=⟨_,jaf (by rw [<-hn]; exact (jae.1 L).1)⟩;obtain ⟨g1,Y,ys,g3,g4,M⟩:=B i x e w L he j (by simp);refine SnapL.of_at g1.symm λp b b' hp a=>?_;by_cases g:p=H
   ·subst g;rw [g3] at a; cases a;obtain ⟨r,m⟩:=w;cases r with
    | none=>
     obtain ⟨y,rfl⟩:=M;rw [y] at hp; cases hp;exact .nilS
    | some r=>
     obtain ⟨y,es',Z,J,g9⟩:=M;rw [y] at hp; cases hp;have I:=J.1;simp only at g4;refine Snap.of_ms (k:=u.wd) (T:=U) (es:=es') (by rw [hz_in hi (ows_r hB rfl (kav j))]; exact Z) (by simp only; omega) ?_;rw [jco,jaz (by simp only; omega)];exact J.mono (hz_z R.zin)
   ·exact (Y p b b' g hp a).mono (hz_z R.zin)
theorem Rel.snap_fs (R:Rel P κ ln z c s env h n) {id g:Nat} {T U:Yc} {t u:Ty} {l:Ya t.den} {off len:Int} (hB:thp c s id=some (.fm T t g U u l none)) {a:AV} (m:TVR P κ ln z s.n (.fs id off len) a) {ids:Ya Nat} (e:id∈ids):Snap (hz (ows κ ln c s) h z ids) a (.sl (((l.drop off.toNat).take len.toNat).map t.enc)):=by
 cases m with
 | fs0 _ _ _ _ _ j hl=>subst j; subst hl; simp; exact .nilS
 | fs _ _ _ q _ b p v h2=>
  obtain ⟨g1,es,f,w,i⟩:=R.snapE_fam hB b e;refine Snap.of_ms (k:=t.wd) (T:=T) (es:=es) (by rw [hz_at e b]; exact f) (by omega) ?_;rw [List.map_take,List.map_drop];exact i.drop_take _ _
theorem Rel.snap_fam (R:Rel P κ ln z c s env h n) {id m:Nat} {T U:Yc} {t u:Ty} {l:Ya t.den} (hB:thp c s id=some (.fm T t m U u l none)) {a:AV} (v:TVR P κ ln z s.n (.fw id) a) {ids:Ya Nat} (g:id∈ids):Snap (hz (ows κ ln c s) h z ids) a (.sl (l.map t.enc)):=by
 cases v with
 | fw0 _ _ b=>
  have i:=R.blk _ _ hB;cases i with
  | fm0 _ _ _ _ _ _ _ e f hl hn=>subst hl; exact .nilS
  | fm _ _ _ _ _ _ _ q es e f=>rw [f] at b; cases b
 | fw _ q _ b=>
  obtain ⟨g1,es,j,w,p⟩:=R.snapE_fam hB b g;refine Snap.of_ms (k:=t.wd) (T:=T) (es:=es) (by rw [hz_at g b]; exact j) (by omega) ?_;rw [jco,jaz (by omega)];exact p
theorem Rel.snap_row (R:Rel P κ ln z c s env h n) {id:Nat} {T U:Yc} {p u:Ty} {l:Ya (Ya p.den)} {i:Int} (hB:thp c s id=some (.fm T (.sl p) 0 U u l none)) {a:AV} (Z:TVR P κ ln z s.n (.fr id i) a) {ids:Ya Nat} (M:id∈ids):Snap (hz (ows κ ln c s) h z ids) a (.sl ((rowI l i).map p.enc)):=by
 have I:=R.blk _ _ hB;have e:∃ r m,(kac (ln id))[i.toNat]?=some (r,m)/\a=match r with | none=>nilS | some r=>.ms r 0 m:=by
  cases Z with
  | fr0 _ _ m _ _ h=>exact ⟨none,m,h,rfl⟩
  | fr _ _ r m _ _ h=>exact ⟨some r,m,h,rfl⟩
 obtain ⟨r,m,b,Y⟩:=e;cases I with
 | fm0 _ _ _ _ _ _ _ v L hl hn=>
  subst hl;have f:=(jae.1 b).1;rw [hn,show kac 0=[] from rfl] at b;simp at b
 | fm _ _ _ _ _ _ _ q es v L hh hn hl g h0 h1=>
  have f:=(jae.1 b).1;have G:l[i.toNat]?=some (l[i.toNat]'(by omega)):=jaf _;have X:=jaf (l:=es) (i:=i.toNat) (by omega);obtain ⟨g1,J,ys,w,C,t⟩:=g _ _ _ _ G X b (by simp);have hr:rowI l i=l[i.toNat]'(by omega):=by unfold rowI; rw [G]; rfl
  rw [hr];generalize l[i.toNat]'(by omega)=y at g1 J w C t;simp only [Ty.enc,jci,Option.some.injEq,AV.sl.injEq] at w;subst w;subst Y;cases r with
  | none=>
   obtain ⟨H,j⟩:=t;rw [j];exact .nilS
  | some r=>
   obtain ⟨H,es',j,B,g9⟩:=t;have x:=B.1;simp only at C;refine Snap.of_ms (k:=u.wd) (T:=U) (es:=es') (by rw [hz_in M (ows_r hB rfl (kav b))]; exact j) (by omega) ?_;rw [jco,jaz (by omega)];exact B.mono (hz_z R.zin)
set_option maxHeartbeats 1000000 in
theorem kbp (R:Rel P κ ln z c s env h n):∀ (t:Ty) (vs:Ya (TV sem)) (asZ:Ya AV) (x:t.den) (rest:Ya (TV sem)) (ids:Ya Nat),t.dat=true->TVRs P κ ln z s.n vs asZ->snapL (A:=sem) c s t vs=some (x,rest,ids)->
  ∃ a b,asZ=a++b/\TVRs P κ ln z s.n rest b/\SnapL (hz (ows κ ln c s) h z ids) a (t.enc x)/\∀ id∈ids,∃ B,thp c s id=some B
 | .pr t u,vs,asZ,x,rest,ids,g,hv,hs=>by
  simp only [Ty.dat,jad] at g;simp only [snapL,jaa,jac] at hs;obtain ⟨⟨x1,r1,i1⟩,G,⟨x2,r2,i2⟩,h2,p⟩:=hs;cases p;obtain ⟨a1,b1,rfl,g1,g2,g3⟩:=kbp R t vs asZ x1 r1 i1 g.1 hv G;obtain ⟨a2,b2,rfl,k1,k2,k3⟩:=kbp R u r1 b1 x2 r2 i2 g.2 g1 h2;refine ⟨a1++a2,b2,by simp,k1,?_,λid f=>?_⟩
  ·exact (g2.mono (kcb R.zin λid f=>by simp [f])).append (k2.mono (kcb R.zin λid f=>by simp [f]))
  ·rcases jay.1 f with f | f
   ·exact g3 id f
   ·exact k3 id f
 | .w t,vs,asZ,x,rest,ids,g,hv,hs=>by
  simp only [snapL,jac] at hs;obtain ⟨⟨x1,r1,i1⟩,G,p⟩:=hs;cases p;exact kbp R t vs asZ _ _ _ g hv G
 | .un,vs,asZ,x,rest,ids,g,hv,hs=>by
  simp only [snapL,Option.some.injEq] at hs;cases hs;exact ⟨[],asZ,rfl,hv,.nil,λid f=>by simp at f⟩
 | .i k,[],asZ,x,rest,ids,g,hv,hs=>by simp [snapL] at hs
 | .b,[],asZ,x,rest,ids,g,hv,hs=>by simp [snapL] at hs
 | .s,[],asZ,x,rest,ids,g,hv,hs=>by simp [snapL] at hs
 | .sl _,[],asZ,x,rest,ids,g,hv,hs=>by simp [snapL] at hs
 | .op _,[],asZ,x,rest,ids,g,hv,hs=>by simp [snapL] at hs
 | .pt _,[],asZ,x,rest,ids,g,hv,hs=>by simp [snapL] at hs
 | .ar _ _,vs,asZ,x,rest,ids,g,hv,hs=>by simp [snapL] at hs
 | .i k,v::vs,_,x,rest,ids,g,.cons _ a _ asZ hv hvs,hs=>by
  cases v <;> simp only [snapL,jac,reduceCtorEq] at hs;obtain ⟨y,m,p⟩:=hs;cases p;obtain ⟨e,rfl⟩:=kaj m;cases e;cases hv with
  | c _ _ _ g G=>exact ⟨[a],asZ,rfl,hvs,by rw [kaP]; exact c_one (N:=0) rfl rfl G,λid f=>by simp at f⟩
 | .s,v::vs,_,x,rest,ids,g,.cons _ a _ asZ hv hvs,hs=>by
  cases v <;> simp only [snapL,jac,reduceCtorEq] at hs;obtain ⟨y,m,p⟩:=hs;cases p;obtain ⟨e,rfl⟩:=kaj m;cases e;cases hv with
  | c _ _ _ g G=>exact ⟨[a],asZ,rfl,hvs,by rw [kaP]; exact c_one (N:=0) rfl rfl G,λid f=>by simp at f⟩
 | .b,v::vs,_,x,rest,ids,g,.cons _ a _ asZ hv hvs,hs=>by
  cases v <;> simp only [snapL,jac,Option.some.injEq,reduceCtorEq] at hs
  ·obtain ⟨y,m,p⟩:=hs;cases p;obtain ⟨e,rfl⟩:=kaj m;cases e;cases hv with
   | c _ _ _ g G=>exact ⟨[a],asZ,rfl,hvs,by rw [kaP]; exact c_one (N:=0) rfl rfl G,λid f=>by simp at f⟩
  ·cases hs;cases hv;exact ⟨[_],asZ,rfl,hvs,.cons (.free _ (.sc _)) .nil,λid f=>by simp at f⟩
 | .sl t,v::vs,_,x,rest,ids,g,.cons _ a _ asZ hv hvs,hs=>by
  cases v <;> simp only [snapL,jac,Option.some.injEq,reduceCtorEq] at hs
  ·obtain ⟨y,m,p⟩:=hs;cases p;obtain ⟨e,rfl⟩:=kaj m;cases e;cases hv with
   | c _ _ _ g G=>exact ⟨[a],asZ,rfl,hvs,by rw [kaP]; exact c_one (N:=0) g rfl G,λid f=>by simp at f⟩
  ·split at hs
   ·rename_i hn;cases hs;cases hv;rw [kaF hn];exact ⟨[_],asZ,rfl,hvs,.cons .nilS .nil,λid f=>by simp at f⟩
   ·cases hs
  ·split at hs
   ·rename_i T t' l hB;simp only [jac] at hs;obtain ⟨y,m,p⟩:=hs;cases p;obtain ⟨e,rfl⟩:=kaj m;cases e;refine ⟨[a],asZ,rfl,hvs,?_,λid f=>by simp at f; subst f; exact ⟨_,hB⟩⟩;show SnapL _ [a] [.sl (l.map t.enc)];refine .cons ?_ .nil;have L:=R.blk _ _ hB;cases L with
    | sl0 _ _ _ J I hl hn=>
     subst hl;cases hv with
     | mw0 _ _ _=>exact .nilS
     | mw _ q _ C=>rw [I] at C; cases C
    | sl _ _ _ q es J I Y H G hn=>
     cases hv with
     | mw0 _ _ C=>rw [I] at C; cases C
     | mw _ q' _ C=>
      rw [I] at C; cases C;have M:=H.1; rw [jbb,hn] at M;refine Snap.of_ms (k:=t.wd) (T:=T) (es:=es) (by rw [hz_at (by simp) I]; exact Y) (by omega) ?_;rw [jco,jaz (by omega)];exact H.mono (hz_z R.zin)
   ·cases hs
  ·split at hs
   ·rename_i off len T t' l hB;simp only [jac] at hs;obtain ⟨y,m,p⟩:=hs;cases p;obtain ⟨e,rfl⟩:=kaj m;cases e;refine ⟨[a],asZ,rfl,hvs,?_,λid f=>by simp at f; subst f; exact ⟨_,hB⟩⟩;show SnapL _ [a] [.sl (((l.drop _).take _).map t.enc)];refine .cons ?_ .nil;have L:=R.blk _ _ hB;cases L with
    | sl0 _ _ _ J I hl hn=>
     subst hl;cases hv with
     | ms0 _ _ _ _ _ ho hl=>subst ho; subst hl; exact .nilS
     | ms _ _ _ q _ C=>rw [I] at C; cases C
    | sl _ _ _ q es J I Y H G hn=>
     cases hv with
     | ms0 _ _ _ _ C=>rw [I] at C; cases C
     | ms _ _ _ q' _ C h0 aa h2=>
      rw [I] at C; cases C;have M:=H.1; rw [jbb,hn] at M;refine Snap.of_ms (k:=t.wd) (T:=T) (es:=es) (by rw [hz_at (by simp) I]; exact Y) (by omega) ?_;rw [List.map_take,List.map_drop];exact (H.mono (hz_z R.zin)).drop_take _ _
   ·cases hs
  ·split at hs
   ·rename_i T t' jj U u l hB;simp only [jac] at hs;obtain ⟨y,m,p⟩:=hs;cases p;obtain ⟨e,rfl⟩:=kaj m;cases e;refine ⟨[a],asZ,rfl,hvs,?_,λid f=>by simp at f; subst f; exact ⟨_,hB⟩⟩;show SnapL _ [a] [.sl (l.map t.enc)];exact .cons (R.snap_fam hB hv (by simp)) .nil
   ·cases hs
  ·split at hs
   ·rename_i T u' U u l hB;simp only [jac] at hs;obtain ⟨y,m,p⟩:=hs;cases p;obtain ⟨e,rfl⟩:=kaj m;cases e;exact ⟨[a],asZ,rfl,hvs,.cons (R.snap_row hB hv (by simp)) .nil,λid f=>by simp at f; subst f; exact ⟨_,hB⟩⟩
   ·cases hs
  ·split at hs
   ·rename_i off len T t' jj U u l hB;simp only [jac] at hs;obtain ⟨y,m,p⟩:=hs;cases p;obtain ⟨e,rfl⟩:=kaj m;cases e;exact ⟨[a],asZ,rfl,hvs,.cons (R.snap_fs hB hv (by simp)) .nil,λid f=>by simp at f; subst f; exact ⟨_,hB⟩⟩
   ·cases hs
 | .op t,v::vs,_,x,rest,ids,g,.cons _ a _ asZ hv hvs,hs=>by
  cases v <;> simp only [snapL,jac,Option.some.injEq,reduceCtorEq] at hs
  ·split at hs
   ·rename_i y m;cases hs;obtain ⟨e,rfl⟩:=kaj m;cases e;cases hv with
    | c _ _ _ g G=>exact ⟨[a],asZ,rfl,hvs,by rw [kaP]; exact c_one (N:=0) g rfl G,λid f=>by simp at f⟩
   ·simp only [jac] at hs;obtain ⟨y,m,p⟩:=hs;cases p;obtain ⟨e,rfl⟩:=kaj m;cases e;cases hv with
    | c _ _ _ g G=>exact ⟨[a],asZ,rfl,hvs,by rw [kaP]; exact .cons G .nil,λid f=>by simp at f⟩
  ·split at hs
   ·rename_i hn;cases hs;cases hv;rw [khf hn];exact ⟨[_],asZ,rfl,hvs,.cons (.free _ (.sc _)) .nil,λid f=>by simp at f⟩
   ·cases hs
  ·rename_i id j;split at hs
   ·cases hs
   ·rename_i hj;obtain rfl:j=0:=by simpa using hj
    split at hs
    ·rename_i T us hB;split at hs
     ·rename_i y ids' m;cases hs;have L:=R.blk _ _ hB;cases L with
      | bx _ _ q Z I Y H G=>
       obtain ⟨a1,b1,rfl,g1,g2,g3⟩:=kbp R t us Z _ [] ids' g H m;cases g1;cases hv with
       | ptr _ _ q' _ C=>
        rw [I] at C; cases C;refine ⟨[_],asZ,rfl,hvs,.cons ?_ .nil,λi f=>?_⟩
        ·show Snap _ _ (.fp (t.enc y));have X:=g2.mono (kcb (ids':=id::ids') R.zin λi f=>by simp [f]);exact .own q 0 0 us.length T _ (a1++[]) (t.enc y) (by rw [hz_at (by simp) I]; exact Y) rfl (by simpa using X.len) (by simpa using X.at)
        ·rcases jbi.1 f with f | f
         ·subst f; exact ⟨_,hB⟩
         ·exact g3 i f
     ·cases hs
    ·rename_i T t' y hB;simp only [jac] at hs;obtain ⟨y',m,p⟩:=hs;cases p;obtain ⟨e,rfl⟩:=kaj m;cases e;have L:=R.blk _ _ hB;cases L with
     | el _ _ _ q cs J I Y H G hl=>
      cases hv with
      | ptr _ _ q' _ C=>
       rw [I] at C; cases C;refine ⟨[_],asZ,rfl,hvs,.cons ?_ .nil,λi f=>by simp at f; subst f; exact ⟨_,hB⟩⟩;show Snap _ _ (.fp (t.enc y));have X:=H.mono (hz_z (o:=ows κ ln c s) (ids:=[id]) R.zin);exact .own q 0 0 _ T _ cs (t.enc y) (by rw [hz_at (by simp) I]; exact Y) rfl (by simpa using X.len) (by simpa using X.at)
    ·cases hs
  ·rename_i o;split at hs
   ·cases hs
   ·rename_i hj;obtain rfl:o=0:=by simpa using hj
    simp only [jac] at hs;obtain ⟨y',m,p⟩:=hs;cases p;obtain ⟨e,rfl⟩:=kaj m;cases e;cases hv with
    | fq _ _ _ _ J G=>exact ⟨[_],asZ,rfl,hvs,by rw [kaP]; rw [jco] at G; exact .cons G .nil,λid f=>by simp at f⟩
 | .pt t,v::vs,_,x,rest,ids,g,.cons _ a _ asZ hv hvs,hs=>by
  cases v <;> simp only [snapL,jac,Option.some.injEq,reduceCtorEq] at hs
  ·obtain ⟨y,m,p⟩:=hs;cases p;obtain ⟨e,rfl⟩:=kaj m;cases e;cases hv with
   | c _ _ _ g G=>exact ⟨[a],asZ,rfl,hvs,by rw [kaP]; exact c_one (N:=0) g rfl G,λid f=>by simp at f⟩
  ·rename_i id j;split at hs
   ·cases hs
   ·rename_i hj;obtain rfl:j=0:=by simpa using hj
    split at hs
    ·rename_i T us hB;split at hs
     ·rename_i y ids' m;cases hs;have L:=R.blk _ _ hB;cases L with
      | bx _ _ q Z I Y H G=>
       obtain ⟨a1,b1,rfl,g1,g2,g3⟩:=kbp R t us Z _ [] ids' g H m;cases g1;cases hv with
       | ptr _ _ q' _ C=>
        rw [I] at C; cases C;refine ⟨[_],asZ,rfl,hvs,.cons ?_ .nil,λi f=>?_⟩
        ·show Snap _ _ (.fp (t.enc _));have X:=g2.mono (kcb (ids':=id::ids') R.zin λi f=>by simp [f]);exact .own q 0 0 us.length T _ (a1++[]) _ (by rw [hz_at (by simp) I]; exact Y) rfl (by simpa using X.len) (by simpa using X.at)
        ·rcases jbi.1 f with f | f
         ·subst f; exact ⟨_,hB⟩
         ·exact g3 i f
     ·cases hs
    ·rename_i T t' y hB;simp only [jac] at hs;obtain ⟨y',m,p⟩:=hs;cases p;obtain ⟨e,rfl⟩:=kaj m;cases e;have L:=R.blk _ _ hB;cases L with
     | el _ _ _ q cs J I Y H G hl=>
      cases hv with
      | ptr _ _ q' _ C=>
       rw [I] at C; cases C;refine ⟨[_],asZ,rfl,hvs,.cons ?_ .nil,λi f=>by simp at f; subst f; exact ⟨_,hB⟩⟩;show Snap _ _ (.fp (t.enc _));have X:=H.mono (hz_z (o:=ows κ ln c s) (ids:=[id]) R.zin);exact .own q 0 0 _ T _ cs _ (by rw [hz_at (by simp) I]; exact Y) rfl (by simpa using X.len) (by simpa using X.at)
    ·cases hs
  ·rename_i o;split at hs
   ·cases hs
   ·rename_i hj;obtain rfl:o=0:=by simpa using hj
    simp only [jac] at hs;obtain ⟨y',m,p⟩:=hs;cases p;obtain ⟨e,rfl⟩:=kaj m;cases e;cases hv with
    | fq _ _ _ _ J G=>exact ⟨[_],asZ,rfl,hvs,by rw [kaP]; rw [jco] at G; exact .cons G .nil,λid f=>by simp at f⟩
 | .nt,vs,asZ,x,rest,ids,g,hv,hs=>by simp [Ty.dat] at g
 | .sm _ _,vs,asZ,x,rest,ids,g,hv,hs=>by simp [Ty.dat] at g
 | .fn _ _ _,vs,asZ,x,rest,ids,g,hv,hs=>by simp [Ty.dat] at g
end
section
variable {P:Ye} {κ κ':Nat->Yb Nat} {ln ln':Nat->Nat} {z z':AH} {c:Cx sem} {s:TS sem} {env:Env} {h h':AH} {n n' N N':Nat}
theorem kbc (R:Rel P κ ln z c s env h n) {t:Ty} {v:TV sem} {a:AV} {x:t.den} {ids:Ya Nat} (p:TVR P κ ln z s.n v a) (b:snapV (A:=sem) c s t v=some (x,ids)) :
  t.dat=true/\Snap (hz (ows κ ln c s) h z ids) a (t.av x)/\∀ id∈ids,∃ B,thp c s id=some B:=by
 unfold snapV at b;split at b
 ·cases b
 ·rename_i g;replace g:t.dat=true:=by simpa using g
  refine ⟨g,?_⟩;split at b
  ·rename_i f;split at b
   ·simp only [jac] at b;obtain ⟨y,i,m⟩:=b;cases m;obtain ⟨e,rfl⟩:=kaj i;cases e;cases p with
    | c _ _ _ _ G=>exact ⟨by rw [kaP]; exact G,λid H=>by simp at H⟩
   ·rename_i vs;split at b
    ·rename_i y ids' i;cases b;cases p with
     | ag _ asZ u _=>
      obtain ⟨I,C,rfl,g1,j,w⟩:=kbp R t vs asZ _ [] _ g u i;cases g1;rw [kdK f,jbf];exact ⟨Snap.agL j,w⟩
    ·cases b
   ·cases b
  ·rename_i f;replace f:t.agg=false:=by simpa using f
   split at b
   ·rename_i y ids' i;cases b;obtain ⟨I,C,m,g1,j,w⟩:=kbp R t [v] [a] _ [] _ g (.cons _ _ _ _ p .nil) i;cases g1;rw [jbf] at m;subst m;rw [kdN f g] at j;cases j with
    | cons k1 k2=>exact ⟨k1,w⟩
   ·cases b
theorem kdc:∀ (t:Ty) (x:t.den) (cs:Ya AV),t.dat=true->t.noAr=true->SnapL z cs (t.enc x)->TVRs P κ ln z N (kgp (A:=sem) t x) cs
 | .pr t u,x,cs,hd,hn,hs=>by
  simp only [Ty.dat,jad] at hd;simp only [Ty.noAr,jad] at hn;obtain ⟨a,b,rfl,e,h2⟩:=SnapL.splitR (a':=t.enc x.1) (b':=u.enc x.2) hs;exact (kdc t x.1 a hd.1 hn.1 e).append (kdc u x.2 b hd.2 hn.2 h2)
 | .w t,x,cs,hd,hn,hs=>kdc t x cs hd hn hs
 | .un,x,cs,hd,hn,hs=>by cases hs; exact .nil
 | .i k,x,_,hd,hn,.cons e .nil=>.cons _ _ _ _ (.c _ _ _ hd e) .nil
 | .b,x,_,hd,hn,.cons e .nil=>.cons _ _ _ _ (.c _ _ _ hd e) .nil
 | .s,x,_,hd,hn,.cons e .nil=>.cons _ _ _ _ (.c _ _ _ hd e) .nil
 | .sl t,x,_,hd,hn,.cons e .nil=>.cons _ _ _ _ (.c _ _ _ hd e) .nil
 | .pt t,x,_,hd,hn,.cons e .nil=>.cons _ _ _ _ (.c _ _ _ hd e) .nil
 | .op t,x,_,hd,hn,.cons e .nil=>.cons _ _ _ _ (.c _ _ _ hd e) .nil
 | .ar _ _,x,cs,hd,hn,hs=>by simp [Ty.noAr] at hn
 | .nt,x,cs,hd,hn,hs=>by simp [Ty.dat] at hd
 | .sm _ _,x,cs,hd,hn,hs=>by simp [Ty.dat] at hd
 | .fn _ _ _,x,cs,hd,hn,hs=>by simp [Ty.dat] at hd
theorem kqL {a v:AV} (e:Snap z a v) (b:v.one=true):kax a=some [a]:=by
 cases e with
 | free _ f=>cases a <;> first | rfl | (simp [AV.one] at b; done)
 | ag | tp=>simp [AV.one] at b
 | _=>rfl
theorem kfW {t:Ty} {x:t.den} {a:AV} (f:t.dat=true) (e:Snap z a (t.av x)):∃ cs,kax a=some cs/\SnapL z cs (t.enc x):=by
 cases b:t.agg with
 | true=>
  rw [kdK b] at e;obtain ⟨cs,rfl,g⟩:=e.ag_inv;exact ⟨cs,rfl,g⟩
 | false=>
  refine ⟨[a],?_,by rw [kdN b f]; exact .cons e .nil⟩;have g:(t.av x).one=true:=kaH t x f _ (by rw [kdN b f]; simp);exact kqL e g
theorem TVR.one_cells {v:TV sem} {a:AV} (J:TVR P κ ln z N v a) {vs:Ya (TV sem)} (f:kas v=some vs):∃ asZ,kax a=some asZ/\TVRs P κ ln z N vs asZ:=by
 cases J with
 | c t x a H p=>
  simp only [kas,jdc,jad,Option.some.injEq] at f;obtain ⟨⟨hn,L⟩,rfl⟩:=f;obtain ⟨cs,h2,u⟩:=kfW H p;exact ⟨cs,h2,kdc t x cs H hn u⟩
 | ag G asZ p _=>simp only [kas,Option.some.injEq] at f; subst f; exact ⟨asZ,rfl,p⟩
 | un | ud | tp | gs | yl | kp=>simp [kas] at f
 | kb b=>simp only [kas,Option.some.injEq] at f; subst f; exact ⟨_,rfl,.cons _ _ _ _ (.kb b) .nil⟩
 | sc w I=>simp only [kas,Option.some.injEq] at f; subst f; exact ⟨_,rfl,.cons _ _ _ _ (.sc w I) .nil⟩
 | ptr id j q p h2=>simp only [kas,Option.some.injEq] at f; subst f; exact ⟨_,rfl,.cons _ _ _ _ (.ptr id j q p h2) .nil⟩
 | np id q p h2=>simp only [kas,Option.some.injEq] at f; subst f; exact ⟨_,rfl,.cons _ _ _ _ (.np id q p h2) .nil⟩
 | np0 id p=>simp only [kas,Option.some.injEq] at f; subst f; exact ⟨_,rfl,.cons _ _ _ _ (.np0 id p) .nil⟩
 | adr id i j q p h2 u B=>simp only [kas,Option.some.injEq] at f; subst f; exact ⟨_,rfl,.cons _ _ _ _ (.adr id i j q p h2 u B) .nil⟩
 | aa id i q p h2 u B=>simp only [kas,Option.some.injEq] at f; subst f; exact ⟨_,rfl,.cons _ _ _ _ (.aa id i q p h2 u B) .nil⟩
 | ax id i k q p h2 u B C=>simp only [kas,Option.some.injEq] at f; subst f; exact ⟨_,rfl,.cons _ _ _ _ (.ax id i k q p h2 u B C) .nil⟩
 | fq t x o a H p=>
  simp only [kas,Option.some.injEq] at f; subst f;refine ⟨[a],?_,.cons _ _ _ _ (.fq t x o a H p) .nil⟩;rcases p.fp_inv with ⟨cs,rfl,_⟩ | ⟨id,i,j,k,T,es,e,rfl,_⟩ <;> rfl
 | mw0 id p h2=>simp only [kas,Option.some.injEq] at f; subst f; exact ⟨_,rfl,.cons _ _ _ _ (.mw0 id p h2) .nil⟩
 | mw id q p h2=>simp only [kas,Option.some.injEq] at f; subst f; exact ⟨_,rfl,.cons _ _ _ _ (.mw id q p h2) .nil⟩
 | ms0 id o l p h2 u B=>simp only [kas,Option.some.injEq] at f; subst f; exact ⟨_,rfl,.cons _ _ _ _ (.ms0 id o l p h2 u B) .nil⟩
 | ms id o l q p h2 u B C=>simp only [kas,Option.some.injEq] at f; subst f; exact ⟨_,rfl,.cons _ _ _ _ (.ms id o l q p h2 u B C) .nil⟩
 | mp id q p h2=>simp only [kas,Option.some.injEq] at f; subst f; exact ⟨_,rfl,.cons _ _ _ _ (.mp id q p h2) .nil⟩
 | fw0 id p h2=>simp only [kas,Option.some.injEq] at f; subst f; exact ⟨_,rfl,.cons _ _ _ _ (.fw0 id p h2) .nil⟩
 | fw id q p h2=>simp only [kas,Option.some.injEq] at f; subst f; exact ⟨_,rfl,.cons _ _ _ _ (.fw id q p h2) .nil⟩
 | fr0 id i m p h2 u=>simp only [kas,Option.some.injEq] at f; subst f; exact ⟨_,rfl,.cons _ _ _ _ (.fr0 id i m p h2 u) .nil⟩
 | fr id i r m p h2 u=>simp only [kas,Option.some.injEq] at f; subst f; exact ⟨_,rfl,.cons _ _ _ _ (.fr id i r m p h2 u) .nil⟩
 | fs0 id o l p h2 u B=>simp only [kas,Option.some.injEq] at f; subst f; exact ⟨_,rfl,.cons _ _ _ _ (.fs0 id o l p h2 u B) .nil⟩
 | fs id o l q p h2 u B C=>simp only [kas,Option.some.injEq] at f; subst f; exact ⟨_,rfl,.cons _ _ _ _ (.fs id o l q p h2 u B C) .nil⟩
 | fo id i j q p h2 u B=>simp only [kas,Option.some.injEq] at f; subst f; exact ⟨_,rfl,.cons _ _ _ _ (.fo id i j q p h2 u B) .nil⟩
 | fa id i k o r m p h2 u B C=>simp only [kas,Option.some.injEq] at f; subst f; exact ⟨_,rfl,.cons _ _ _ _ (.fa id i k o r m p h2 u B C) .nil⟩
 | fn g G asZ p=>simp only [kas,Option.some.injEq] at f; subst f; exact ⟨_,rfl,.cons _ _ _ _ (.fn g G asZ p) .nil⟩
 | cv m x y F a p=>
  simp only [kas,Option.some.injEq] at f; subst f;refine ⟨[a],?_,.cons _ _ _ _ (.cv m x y F a p) .nil⟩;obtain ⟨g,asZ,rfl,_⟩:=p; rfl
theorem keD:∀ (t:Ty) (x:t.den) (o m:Nat) (ag:Bool) (cs:Ya AV) {t':Ty} {y:t'.den},t.dat=true->comp (A:=sem) t x o m ag=some ⟨t',y⟩->SnapL z cs (t.enc x)->t'.dat=true/\t'.agg=ag/\t'.wd=m/\o+m<=cs.length/\SnapL z ((cs.drop o).take m) (t'.enc y)
 | .pr t u,x,o,m,ag,cs,t',y,hd,hc,hs=>by
  simp only [Ty.dat,jad] at hd;have e:=hs.len;rw [kaf (.pr t u) x (by simp [Ty.dat,hd])] at e;simp only [Ty.wd] at e;simp only [comp] at hc;split at hc
  ·rename_i f;obtain ⟨rfl,rfl,rfl⟩:=f;cases hc;exact ⟨by simp [Ty.dat,hd],rfl,rfl,by omega,by rw [jco,jaz (by omega)]; exact hs⟩
  ·obtain ⟨a,b,rfl,B,h2⟩:=SnapL.splitR (a':=t.enc x.1) (b':=u.enc x.2) hs;have l1:=B.len;rw [kaf t x.1 hd.1] at l1;split at hc
   ·rename_i p;obtain ⟨g1,g,v,C,j⟩:=keD t x.1 o m ag a hd.1 hc B;refine ⟨g1,g,v,by simp; omega,?_⟩;rw [jdo (by omega),List.take_append_of_le_length (by simp; omega)];exact j
   ·split at hc
    ·rename_i p;obtain ⟨g1,g,v,C,j⟩:=keD u x.2 (o-t.wd) m ag b hd.2 hc h2;refine ⟨g1,g,v,by simp; omega,?_⟩;rw [List.drop_append,jbg (by omega),jav];rw [<-l1]; rw [l1]; exact l1 ▸ j
    ·cases hc
 | .w t,x,o,m,ag,cs,t',y,hd,hc,hs=>by
  simp only [comp] at hc;split at hc
  ·rename_i f;obtain ⟨rfl,rfl,rfl⟩:=f;cases hc;have e:=hs.len;rw [kaf (.w t) x hd] at e;simp only [Ty.wd] at e;exact ⟨hd,rfl,rfl,by omega,by rw [jco,jaz (by omega)]; exact hs⟩
  ·exact keD t x o m ag cs hd hc hs
 | .i _,x,o,m,ag,cs,t',y,hd,hc,hs | .b,x,o,m,ag,cs,t',y,hd,hc,hs | .s,x,o,m,ag,cs,t',y,hd,hc,hs | .un,x,o,m,ag,cs,t',y,hd,hc,hs
 | .sl _,x,o,m,ag,cs,t',y,hd,hc,hs | .pt _,x,o,m,ag,cs,t',y,hd,hc,hs | .op _,x,o,m,ag,cs,t',y,hd,hc,hs | .ar _ _,x,o,m,ag,cs,t',y,hd,hc,hs=>by
  simp only [comp] at hc;split at hc
  ·rename_i f;obtain ⟨rfl,rfl,rfl⟩:=f;cases hc;have e:=hs.len;rw [kaf _ x hd] at e;exact ⟨hd,rfl,rfl,by omega,by rw [jco,jaz (by omega)]; exact hs⟩
  ·cases hc
 | .nt,x,o,m,ag,cs,t',y,hd,hc,hs=>by simp [Ty.dat] at hd
 | .sm _ _,x,o,m,ag,cs,t',y,hd,hc,hs=>by simp [Ty.dat] at hd
 | .fn _ _ _,x,o,m,ag,cs,t',y,hd,hc,hs=>by simp [Ty.dat] at hd
theorem kbU {val:(t:Ty)->Yb t.den} {xs:Ya AV} (f:∀ t y,val t=some y->t.dat=true/\SnapL z xs (t.enc y)):∀ (t:Ty) (x:t.den) (o m:Nat) (ag:Bool) (cs:Ya AV) {y:t.den},t.dat=true->setC (A:=sem) val t x o m ag=some y->SnapL z cs (t.enc x)->
  xs.length=m/\o+m<=cs.length/\SnapL z (cs.take o++xs++cs.drop (o+m)) (t.enc y)
 | .pr t u,x,o,m,ag,cs,y,hd,hc,hs=>by
  simp only [Ty.dat,jad] at hd;have e:=hs.len;rw [kaf (.pr t u) x (by simp [Ty.dat,hd])] at e;simp only [Ty.wd] at e;simp only [setC] at hc;split at hc
  ·rename_i p;obtain ⟨rfl,rfl,rfl⟩:=p;obtain ⟨g1,g⟩:=f _ _ hc;have l2:=g.len;rw [kaf _ y g1] at l2;simp only [Ty.wd] at l2;refine ⟨by omega,by omega,?_⟩;rw [jdi,jav,jce,jbg (by omega),jbf]; exact g
  ·obtain ⟨a,b,rfl,v,h2⟩:=SnapL.splitR (a':=t.enc x.1) (b':=u.enc x.2) hs;have l1:=v.len;rw [kaf t x.1 hd.1] at l1;split at hc
   ·rename_i B;simp only [jac] at hc;obtain ⟨w,j,rfl⟩:=hc;obtain ⟨g1,g,C⟩:=kbU f t x.1 o m ag a hd.1 j v;refine ⟨g1,by simp; omega,?_⟩;rw [List.take_append_of_le_length (by omega),jdo (by omega)];show SnapL z _ (t.enc w++u.enc x.2);rw [<-jaw];exact C.append h2
   ·split at hc
    ·rename_i B;simp only [jac] at hc;obtain ⟨w,j,rfl⟩:=hc;obtain ⟨g1,g,C⟩:=kbU f u x.2 (o-t.wd) m ag b hd.2 j h2;refine ⟨g1,by simp; omega,?_⟩;show SnapL z _ (t.enc x.1++u.enc w);rw [List.take_append,jaz (by omega),List.drop_append,jbg (by omega),jav];have H:o-a.length=o-t.wd:=by omega
     have G:o+m-a.length=o-t.wd+m:=by omega
     rw [H,G,jaw,jaw,<-jaw (b.take _)];exact v.append C
    ·cases hc
 | .w t,x,o,m,ag,cs,y,hd,hc,hs=>by
  simp only [setC] at hc;split at hc
  ·rename_i p;obtain ⟨rfl,rfl,rfl⟩:=p;obtain ⟨g1,g⟩:=f _ _ hc;have e:=hs.len;rw [kaf (.w t) x hd] at e;have l2:=g.len;rw [kaf _ y g1] at l2;simp only [Ty.wd] at l2 e;refine ⟨by omega,by omega,?_⟩;rw [jdi,jav,jce,jbg (by omega),jbf]; exact g
  ·simp only [jac] at hc;obtain ⟨w,j,rfl⟩:=hc;exact kbU f t x o m ag cs hd j hs
 | .i _,x,o,m,ag,cs,y,hd,hc,hs | .b,x,o,m,ag,cs,y,hd,hc,hs | .s,x,o,m,ag,cs,y,hd,hc,hs | .un,x,o,m,ag,cs,y,hd,hc,hs
 | .sl _,x,o,m,ag,cs,y,hd,hc,hs | .pt _,x,o,m,ag,cs,y,hd,hc,hs | .op _,x,o,m,ag,cs,y,hd,hc,hs | .ar _ _,x,o,m,ag,cs,y,hd,hc,hs=>by
  simp only [setC] at hc;split at hc
  ·rename_i p;obtain ⟨rfl,rfl,rfl⟩:=p;obtain ⟨g1,g⟩:=f _ _ hc;have e:=hs.len;rw [kaf _ x hd] at e;have l2:=g.len;rw [kaf _ y g1] at l2;refine ⟨by omega,by omega,?_⟩;rw [jdi,jav,jce,jbg (by omega),jbf]; exact g
  ·cases hc
 | .nt,x,o,m,ag,cs,y,hd,hc,hs=>by simp [Ty.dat] at hd
 | .sm _ _,x,o,m,ag,cs,y,hd,hc,hs=>by simp [Ty.dat] at hd
 | .fn _ _ _,x,o,m,ag,cs,y,hd,hc,hs=>by simp [Ty.dat] at hd
end
end Go.Abs
