/- The machinery, part 6. -/
import Derived.Test.YtnehmnlcliflfaaDoorZ2
import Derived.Test.YtnehmnlcliflfaaDoorZ3
import Derived.Test.YtnehmnlcliflfaaDoorZ4
import Derived.Test.YtnehmnlcliflfaaDoorZ5
set_option linter.constructorNameAsVariable false
set_option linter.unusedVariables false
set_option linter.unusedSimpArgs false
set_option linter.unusedSectionVars false
namespace Go.Abs
open Go Go.RowKit
theorem kfQ {α β:Type} {f:α->Yb β} {x:β} {p:α}:∀ {l:Ya α} {a:Nat},x∈(l.set a p).filterMap f->x∈l.filterMap f\/f p=some x
 | [],a,h=>by simp at h
 | y::l,0,h=>by
  rw [List.set_cons_zero,jcn] at h;obtain ⟨w,b,e⟩:=h;rcases jbi.1 b with rfl | b
  ·exact .inr e
  ·exact .inl (jcn.2 ⟨w,jbm _ b,e⟩)
 | y::l,a+1,h=>by
  rw [List.set_cons_succ,jcn] at h;obtain ⟨w,b,e⟩:=h;rcases jbi.1 b with rfl | b
  ·exact .inl (jcn.2 ⟨w,jdz ..,e⟩)
  ·rcases kfQ (jcn.2 ⟨w,b,e⟩) with k | k
   ·obtain ⟨w',i,m⟩:=jcn.1 k;exact .inl (jcn.2 ⟨w',jbm _ i,m⟩)
   ·exact .inr k
theorem keH {α β:Type} {f:α->Yb β} {p:α}:∀ {l:Ya α} {a:Nat},(l.filterMap f).Nodup->(∀ x,f p=some x->x∉l.filterMap f)->((l.set a p).filterMap f).Nodup
 | [],a,h,_=>by simp
 | y::l,0,h,hp=>by
  have hl:(l.filterMap f).Nodup:=by
   rw [jcp] at h;split at h
   ·exact h
   ·exact (jdg.1 h).2
  rw [List.set_cons_zero,jcp];split
  ·exact hl
  ·rename_i x m;refine jdg.2 ⟨λe=>hp x m ?_,hl⟩;rw [jcp];split
   ·exact e
   ·exact jbm _ e
 | y::l,a+1,h,hp=>by
  rw [List.set_cons_succ,jcp];rw [jcp] at h;have i:∀ x,f p=some x->x∉l.filterMap f:=λx m e=>hp x m (by
   rw [jcp];split
   ·exact e
   ·exact jbm _ e)
  split
  ·rename_i hn;rw [hn] at h;exact keH h i
  ·rename_i b t;rw [t] at h;obtain ⟨u,h2⟩:=jdg.1 h;refine jdg.2 ⟨λe=>?_,keH h2 i⟩;rcases kfQ e with k | k
   ·exact u k
   ·refine hp b k ?_;rw [jcp,t];exact jdz ..
theorem khr {α β:Type} {f:α->Yb β} {x:β} {u v:α}:∀ {l:Ya α} {i j:Nat},(l.filterMap f).Nodup->l[i]?=some u->l[j]?=some v->f u=some x->f v=some x->i=j
 | [],i,j,h,hi,_,_,_=>by simp at hi
 | y::l,i,j,h,hi,hj,hu,hv=>by
  rw [jcp] at h;cases i with
  | zero=>
   simp at hi; subst hi;cases j with
   | zero=>rfl
   | succ j=>
    rw [jch] at hj;rw [hu] at h;exact absurd (jcn.2 ⟨v,jai hj,hv⟩) (jdg.1 h).1
  | succ i=>
   rw [jch] at hi;cases j with
   | zero=>
    simp at hj; subst hj;rw [hv] at h;exact absurd (jcn.2 ⟨u,jai hi,hu⟩) (jdg.1 h).1
   | succ j=>
    rw [jch] at hj;have h':(l.filterMap f).Nodup:=by
     split at h
     ·exact h
     ·exact (jdg.1 h).2
    rw [khr h' hi hj hu hv]
theorem kjD (l:Ya (Yb Nat×Nat)):kan (codeR l)=l.filterMap (·.1):=by unfold kan; rw [kbi]
section
variable {P:Ye} {κ κ':Nat->Yb Nat} {ln ln':Nat->Nat} {z z':AH} {c:Cx sem} {s:TS sem} {env:Env} {h h':AH} {n n' N N':Nat} {id:Nat}
variable {ρ:Ty} {Kf:TV sem->TS sem->sem.Ans ρ} {r:ρ.den}
variable {d:Yb Tmp} {ty:Yc} {pos:String} {after:Array Edge} {g:Yb (Nat×Bool)}
theorem BR.fmSet {q a j:Nat} {T U:Yc} {t u:Ty} {l:Ya t.den} {es:Ya (Ya AV)} {E:t.den} {e':Ya AV} {K:Yb Int} (L:t.dat=true) (M:κ id=some q) (S:h' q=some (.cells t.wd T (es.set a e'))) (hn:l.length=(kac (ln id)).length) (hl:es.length=l.length)
  (X:∀ (i:Nat) (x:t.den) (e:Ya AV) (f:Yb Nat×Nat),l[i]?=some x->es[i]?=some e->(kac (ln id))[i]?=some f->K≠some (i:Int)->FamE z h j U u.wd (t.enc x) e f) (C:∀ i:Nat,K=some (i:Int)->i=a)
  (H:(kac (ln' id)).length=(kac (ln id)).length) (A:∀ i,i≠a->(kac (ln' id))[i]?=(kac (ln id))[i]?) (I:∀ (i r m:Nat) (B:ABlk),i≠a->(kac (ln id))[i]?=some (some r,m)->h r=some B->h' r=some B)
  (v:∀ f,(kac (ln' id))[a]?=some f->FamE z h' j U u.wd (t.enc E) e' f) (R:∀ e∈es,e.length=t.wd/\∀ a∈e,a.one=true) (F:e'.length=t.wd/\∀ a∈e',a.one=true):BR P κ ln' z h' N id (.fm T t j U u (l.set a E) none):=by
 refine .fm T t j U u (l.set a E) none q (es.set a e') L M S (by rw [jcq,hn,H]) (by simp [hl]) (λi x e f y k hr _=>?_) .none (λe k=>?_)
 ·by_cases b:i=a
  ·subst b;rw [jby (by have:=(jae.1 y).1; rwa [jcq] at this)] at y;rw [jby (by have:=(jae.1 k).1; rwa [jcq] at this)] at k;cases y; cases k;exact v f hr
  ·rw [jbn (λe=>b e.symm)] at y k;rw [A i b] at hr;refine (X i x e f y k hr (λe=>b (C i e))).mono (λ_ _ h=>h) λr B p hB=>?_;obtain ⟨r',m⟩:=f;simp only at p; subst p;exact I i r m B b hr hB
 ·rcases List.mem_or_eq_of_mem_set k with k | rfl
  ·exact R e k
  ·exact F
theorem snapC (R:Rel P κ ln z c s env h n) {x:Yf} {v:TV sem} (m:TVR P κ ln z s.n v (ev env x)) {xs:Ya AV} (e:kax (ev env x)=some xs) (t:Ty) (y:t.den) (a:((snapV (A:=sem) c s t v).bind λy=>if y.2.isEmpty then some y.1 else none)=some y):t.dat=true/\SnapL z xs (t.enc y):=by
 simp only [jaa] at a;obtain ⟨⟨w,ids⟩,i,a⟩:=a;split at a
 ·rename_i b;cases a;obtain rfl:=jcw.1 b;obtain ⟨k,f,h2,p⟩:=kcK R m i;rw [e] at f; cases f;rw [kaP] at h2;exact ⟨p,h2⟩
 ·cases a
theorem kmb (R:Rel P κ ln z c s env h n) {x:Yf} {v:TV sem} (u:TVR P κ ln z s.n v (ev env x)) {t:Ty} {y p:t.den} {o m:Nat} {ag:Bool} {e:Ya AV} (F:m≠0) (f:t.dat=true) (hs:SnapL z e (t.enc y)) (i:setC (A:=sem) (λt=>(snapV c s t v).bind λy=>if y.2.isEmpty then some y.1 else none) t y o m ag=some p) :
  ∃ xs,kax (ev env x)=some xs/\xs.length=m/\o+m<=e.length/\SnapL z (e.take o++xs++e.drop (o+m)) (t.enc p):=by
 cases a:kax (ev env x) with
 | some xs=>exact ⟨xs,rfl,kbU (snapC R u a) t y o m ag e f i hs⟩
 | none=>
  exfalso;have:=kbU (z:=z) (xs:=[]) (val:=λt=>(snapV (A:=sem) c s t v).bind λy=>if y.2.isEmpty then some y.1 else none) (λt y b=>by
   simp only [jaa] at b;obtain ⟨⟨w,ids⟩,C,b⟩:=b;obtain ⟨B,k,h2,E⟩:=kcK R u C;rw [a] at k; cases k) t y o m ag e f i hs
  simp at this;omega
theorem Rel.famNums (R:Rel P κ ln z c s env h n) {B:TB sem} (hB:thp c s id=some B) (a:B.isF=true):(kan (ln id)).Nodup:=(R.fam id B hB a).1
theorem kmD (R:Rel P κ ln z c s env h n) {T:Yc} {p x:Yf} {a k:Int} {o:Nat} {v:TV sem} (hu:TVR P κ ln z s.n (.fa id a k o) (ev env p)) (hv:TVR P κ ln z s.n v (ev env x)) (A:klk P c s T id a k o v Kf=some r):Res P κ ln z c s env h n ⟨d,.store T p x,ty,pos,after,g⟩ Kf r:=by
 unfold klk at A;split at A
 ·rename_i ag T' t j U u l an hB;replace hB:=kbC hB;split at A
  ·exact kaa A
  ·rename_i ac;simp only [jaa] at A;obtain ⟨y,hy,A⟩:=A;split at A
   ·rename_i ys ae;simp only [jaa] at A;obtain ⟨w',ab,A⟩:=A;split at A
    ·rename_i x' ad;split at A
     ·rename_i y' ai;obtain ⟨hd,h0,am,q,es,e',rm,hq,hh,C,hr,hf,hn,hl,h1,ak,_⟩:=R.famAt (kab hB) hy;obtain ⟨k0,k1,k2⟩:=kbL ab;obtain ⟨E,hj,H⟩:=kcO hd ae;have f:=hf (by simp);obtain ⟨f1,f2⟩:=f.row H;rw [jbb] at f1;generalize I:ev env p=av at hu;cases hu with
      | fa _ _ _ _ rr m hN a0 g1 g2 g3=>
       rw [hr] at g1; cases g1;rcases f2 with ⟨f3,_⟩ | ⟨r2,es',f3,f4,f5,f6,f7⟩
       ·cases f3
       ·cases f3;obtain ⟨e2,h2,h3⟩:=f6.at (kft k1);have ao:=(f7 e2 (jai h2)).1;obtain ⟨xs,ah,c1,c2,c3⟩:=kmb R hv ac E h3 ad;obtain ⟨_,F⟩:=kew hd E ai;have al:Ow κ ln id (TB.fm T' t j U u l none) rr:=.inr ⟨rfl,kav hr⟩;have Z:∀ q',κ id=some q'->q'≠rr:=λq' af e=>((R.fam id _ (kab hB) rfl).2 rr (kav hr)).2.2.1 id _ (kab hB) (by rw [af,e]);have M:es.set a.toNat e'=es:=by
         apply jcm;intro p;by_cases Y:p=a.toNat
         ·subst Y; rw [jby (jae.1 C).1,C]
         ·rw [jbn (λe=>Y e.symm)]
        have X:BR P κ ln z (updH h rr (.cells u.wd U (es'.set k.toNat (putAt e2 o xs)))) s.n id (.fm T' t j U u (lset l a y') none):=by
         unfold lset;refine BR.fmSet (e':=e') hd hq (by rw [M]; unfold updH; rw [if_neg (Z q hq)]; exact hh) hn hl ak (λi e=>by cases e) rfl (λ_ _=>rfl) (λi r m B hi aa hB'=>?_) (λrm L=>?_) h1 (h1 e' (jai C))
         ·unfold updH;rw [if_neg]
          ·exact hB'
          ·rintro rfl;exact hi (khr (R.famNums (kab hB) rfl) aa hr rfl rfl)
         ·rw [hr] at L; cases L;obtain ⟨w1,w2,w3⟩:=f;have aj:j<(t.enc y).length:=(jae.1 H).1;refine ⟨by rw [F,jcq]; exact w1,λp b b' hp hb S=>?_,_,by rw [F,jby aj],by simp [lset]; exact f1,f4,es'.set k.toNat (putAt e2 o xs),if_pos rfl,?_,λx I=>?_⟩
          ·rw [F,jbn (λe=>hp e.symm)] at S;exact w2 p b b' hp hb S
          ·unfold lset;rw [List.map_set,kbh (by omega),c1];exact kgZ f6 c3
          ·rcases List.mem_or_eq_of_mem_set I with I | rfl
           ·exact f7 x I
           ·rw [kbh (by omega),c1];refine ⟨by simp; omega,c3.one_rev (kaH u x' E)⟩
        exact ⟨.ud,_,.ud,_,_,κ,ln,z,λK A=>by
         simp only [aop,I,kbl,f5,ah,h2];exact ⟨c1,by omega,by omega,A⟩,A,R.setO hB al X (λ_=>rfl),.ud,jah _,λ_ _=>⟨rfl,λ_=>rfl⟩,λhc=>by cases hc⟩
     ·exact kaa A
    ·exact kaa A
   ·exact kaa A
 ·exact kaa A
theorem kvC {e xs:Ya AV} {j o:Nat} {b:AV} (a:o+xs.length<=j\/j<o) (f:o+xs.length<=e.length):(e.set j b).take o++xs++(e.set j b).drop (o+xs.length)=(e.take o++xs++e.drop (o+xs.length)).set j b:=by
 apply jcm;intro p;by_cases hp:p=j
 ·subst hp;by_cases hl:p<e.length
  ·rw [jby (by simp; omega)];rcases a with a | a
   ·rw [jbj (by simp; omega),jau];simp only [jax,jbh,jcq];rw [show o+xs.length+(p-(min o e.length+xs.length))=p by omega,jby hl]
   ·rw [jaw,jaq (by simp; omega),jdu (by omega),jby hl]
  ·rw [jcd (by simp; omega),jcd (by simp; omega)]
 ·rw [jbn (λe=>hp e.symm)];rw [jbu,jbu,jbu,jbu];simp only [jax,jbh,jcq];by_cases i:p<min o e.length
  ·rw [if_pos (by omega),if_pos (by omega),if_pos (by omega),if_pos (by omega),jdu (by omega),jdu (by omega),jbn (λe=>hp e.symm)]
  ·by_cases h2:p<min o e.length+xs.length
   ·rw [if_pos (by omega),if_neg (by omega),if_pos (by omega),if_neg (by omega)]
   ·rw [if_neg (by omega),if_neg (by omega),jau,jau,jbn (by omega)]
theorem kon (R:Rel P κ ln z c s env h n) {T T' U:Yc} {t u:Ty} {j:Nat} {l:Ya t.den} {p x:Yf} {i:Int} {o:Nat} {ag:Bool} {v:TV sem} (hu:TVR P κ ln z s.n (.fo id i o) (ev env p)) (hv:TVR P κ ln z s.n v (ev env x)) (hB:alk s.hp id=some (some (.fm T' t j U u l none))) (ad:P.cellsOf T≠0) (E:o+P.cellsOf T<=j\/j<o) {y F:t.den} (hy:gi l i=some y)
  (aa:setC (A:=sem) (λt=>(snapV c s t v).bind λy=>if y.2.isEmpty then some y.1 else none) t y o (P.cellsOf T) ag=some F) (M:setB (A:=sem) s id (.fm T' t j U u (lset l i F) none) Kf=some r):Res P κ ln z c s env h n ⟨d,.store T p x,ty,pos,after,g⟩ Kf r:=by
 obtain ⟨k,h0,al,q,es,e,rm,Y,hh,he,hr,hf,hn,hl,h1,ak,_⟩:=R.famAt (kab hB) hy;have f:=hf (by simp);obtain ⟨ys,f1,f2,f3,f4⟩:=f.snap (kaX t y k);have an:=(h1 e (jai he)).1;obtain ⟨xs,ai,c1,c2,c3⟩:=kmb R hv ad k f4 aa;rw [jcq] at c2;rw [<-c1,kvC (by omega) (by omega)] at c3;rw [<-c1] at E;generalize hx:ev env p=av at hu;cases hu with
 | fo _ _ _ q' hN X i0 i1=>
  rw [Y] at X; cases X;have S:(putAt e o xs).length=t.wd:=by rw [kbh (by omega)]; simp; omega
  have C:(putAt e o xs)[j]?=e[j]?:=by
   rw [kbh (by omega)];rcases E with E | E
   ·rw [jbj (by simp; omega),jau];congr 1;simp;omega
   ·rw [jaw,jaq (by simp; omega),jdu (by omega)]
  have aj:=c3.len;rw [jcq] at aj;have ab:(t.enc F)[j]?=some (.sl ys):=by
   have key:∀ (t:Ty) (x:t.den) (o m:Nat) (ag:Bool) {y:t.den},t.dat=true->setC (A:=sem) (λt=>(snapV c s t v).bind λy=>if y.2.isEmpty then some y.1 else none) t x o m ag=some y->∀ j,(o+m<=j\/j<o)->(t.enc y)[j]?=(t.enc x)[j]?:=by
    intro t x o m ag y k M j hj;have ah:∀ t' w,((snapV (A:=sem) c s t' v).bind λy=>if y.2.isEmpty then some y.1 else none)=some w->t'.dat=true:=λt' w H=>by
     simp only [jaa] at H;obtain ⟨⟨w1,ids⟩,H,_⟩:=H;unfold snapV at H;split at H
     ·cases H
     ·rename_i af; simpa using af
    exact ktT ah t x o m ag k M j hj
   rw [key t y o _ ag k aa j (by omega)]; exact f1
  have Z:BR P κ ln z (updH h q (.cells t.wd T' (es.set i.toNat (putAt e o xs)))) s.n id (.fm T' t j U u (lset l i F) none):=by
   unfold lset;refine BR.fmSet (e':=putAt e o xs) k Y (by simp [updH]) hn hl ak (λi e=>by cases e) rfl (λ_ _=>rfl) (λi' r m B hi ac hB'=>?_) (λam L=>?_) h1 ⟨S,λb hb=>?_⟩
   ·unfold updH;rw [if_neg]
    ·exact hB'
    ·rintro rfl;exact ((R.fam id _ (kab hB) rfl).2 r (kav ac)).2.2.1 id _ (kab hB) Y
   ·rw [hr] at L; cases L;obtain ⟨g1,g2⟩:=f.row f1;refine ⟨by rw [S,kaf t F k],λp b b' hp hb ae=>?_,ys,ab,g1,?_⟩
    ·refine c3.at p b b' ?_ ae;rw [jbn (λe=>hp e.symm),<-kbh (by omega)]; exact hb
    ·obtain ⟨rr,m⟩:=rm;rcases g2 with ⟨k1,k2,k3⟩ | ⟨r2,es',k1,k2,k3,k4,k5⟩
     ·simp only at k1; subst k1;exact ⟨by rw [C]; exact k2,k3⟩
     ·simp only at k1; subst k1;refine ⟨by rw [C]; exact k2,es',?_,k4,k5⟩;unfold updH;rw [if_neg]
      ·exact k3
      ·rintro rfl;exact ((R.fam id _ (kab hB) rfl).2 _ (kav hr)).2.2.1 id _ (kab hB) Y
   ·rw [kbh (by omega)] at hb;obtain ⟨p,hp⟩:=jde hb;by_cases a:p=j
    ·subst a;rw [<-kbh (by omega),C] at hp;exact (h1 e (jai he)).2 b (jai hp)
    ·have I:=c3.one_rev (kaH t F k);refine I b (jai (i:=p) ?_);rw [jbn (λe=>a e.symm)]; exact hp
  exact ⟨.ud,_,.ud,_,_,κ,ln,z,λK M=>by
   simp only [aop,hx,kbl,hh,ai,he];exact ⟨c1,by omega,by omega,M⟩,M,R.setO hB (.inl Y) Z (λ_=>rfl),.ud,jah _,λ_ _=>⟨rfl,λ_=>rfl⟩,λE=>by cases E⟩
end
section
variable {P:Ye} {κ κ':Nat->Yb Nat} {ln ln':Nat->Nat} {z z':AH} {c:Cx sem} {s:TS sem} {env:Env} {h h':AH} {n n' N N':Nat} {id:Nat}
variable {ρ:Ty} {Kf:TV sem->TS sem->sem.Ans ρ} {r:ρ.den}
variable {d:Yb Tmp} {ty:Yc} {pos:String} {after:Array Edge} {g:Yb (Nat×Bool)}
theorem ksL {m:Yb Int} {i:Int} {K:sem.Ans ρ} (b:holeX (A:=sem) m i K=some r):K=some r/\∀ k:Int,m=some k->k=i:=by
 unfold holeX at b;split at b
 ·exact ⟨b,λk e=>by cases e⟩
 ·rename_i a;simp only [jaa] at b;obtain ⟨_,f,b⟩:=b;unfold gsame at f;split at f
  ·rename_i e; exact ⟨b,λk e'=>by cases e'; exact e⟩
  ·cases f
theorem kiL (R:Rel P κ ln z c s env h n) {T T' U:Yc} {t u:Ty} {j:Nat} {l:Ya t.den} {pv xv av:AV} {i:Int} {ho:Yb Int} (hB:alk s.hp id=some (some (.fm T' t j U u l ho))) (au:u.dat=true) (hc:c.has id=false)
  (ao:∀ k:Int,ho=some k->k=i) {y y' y0:t.den} {xs:Ya u.den} (hy:gi l i=some y) (az:rowS (A:=sem) t u j y0 xs=some y')
  (an:∀ q es e,κ id=some q->h q=some (.cells t.wd T' es)->es[i.toNat]?=some e->e.length=t.wd->(∀ b∈e,b.one=true)->0<=i->
   (∀ p b b',p≠j->e[p]?=some b->(t.enc y)[p]?=some b'->Snap z b b')->
   ∃ e',e'.length=t.wd/\(∀ b∈e',b.one=true)/\e'[j]?=some av/\(∀ p b b',p≠j->e'[p]?=some b->(t.enc y0)[p]?=some b'->Snap z b b')/\∀ K:K3,K .ud (updH h q (.cells t.wd T' (es.set i.toNat e'))) n->kbl P h n T pv xv K)
  {E:Yb Nat} (aj:av.one=true/\((E=none/\xs=[]/\av=nilS)\/∃ rr es,E=some rr/\av = .ms rr 0 xs.length/\h rr=some (.cells u.wd U es)/\SnapE z es (xs.map u.enc)/\(∀ e∈es,e.length=u.wd/\∀ a∈e,a.one=true)))
  (aa:∀ rr,E=some rr->rr<n/\z rr=none/\∀ I B',thp c s I=some B'->¬ Ow κ ln I B' rr)
  (hk:Kf .ud { drpS s id with hp:=(id,some (.fm T' t j U u (lset l i y') none))::(drpS s id).hp }=some r) :
  ∃ ln',Ke c s.n κ ln κ ln'/\∃ h',(∀ K:K3,K .ud h' n->kbl P h n T pv xv K)/\Rel P κ ln' z c { drpS s id with hp:=(id,some (.fm T' t j U u (lset l i y') none))::(drpS s id).hp } env h' n:=by
 obtain ⟨hd,h0,ab,q,es,e,rm,hq,hh,he,hr,hf,hn,hl,h1,aA,ay⟩:=R.famAt (kab hB) hy;obtain ⟨hj,ah⟩:=kew hd au az;have hB':=kab (c:=c) hB;have ar:=(h1 e (jai he)).1;have C:=R.fam id _ hB' rfl;have hFam:∀ h':AH,(∀ rr,E=some rr->h' rr=h rr)->(match E with | none=>av=nilS/\xs=[] | some r=>av = .ms r 0 xs.length/\∃ es,h' r=some (.cells u.wd U es)/\SnapE z es (xs.map u.enc)/\∀ x∈es,x.length=u.wd/\∀ a∈x,a.one=true):=by
  rcases aj.2 with ⟨rfl,rfl,hx⟩ | ⟨rr,es',rfl,hx,g1,g2,g3⟩
  ·exact λ_ _=>⟨hx,rfl⟩
  ·exact λh' ap=>⟨hx,es',by rw [ap rr rfl]; exact g1,g2,g3⟩
 obtain ⟨e',af,ac,ax,am,hK0⟩:=an q es e hq hh he ar (h1 e (jai he)).2 h0 (λp b b' hp H F=>by
  by_cases M:ho=some i
  ·exact ay.2 i.toNat y e (by rw [Int.toNat_of_nonneg h0]; exact M) ab he p b b' hp H F
  ·exact (hf M).2.1 p b b' hp H F)
 have Z:∀ X,X=updK ln id (codeR ((kac (ln id)).set i.toNat (E,xs.length)))->kac (X id)=(kac (ln id)).set i.toNat (E,xs.length):=λX e=>by rw [e,updK_self,kbi]
 refine ⟨updK ln id (codeR ((kac (ln id)).set i.toNat (E,xs.length))),λaD aB=>⟨rfl,λae=>?_⟩,updH h q (.cells t.wd T' (es.set i.toNat e')),λK hK=>?_,?_⟩
 ·unfold updK;rw [if_neg];rintro rfl;rw [hc] at ae; cases ae
 ·exact hK0 K hK
 ·have hX:=Z _ rfl;have ak:∀ r,r∈kan (updK ln id (codeR ((kac (ln id)).set i.toNat (E,xs.length))) id)->r∈kan (ln id)\/E=some r:=λr f=>by
   unfold kan at f ⊢;rw [hX] at f;exact kfQ f
  have aq:∀ L B,z L=some B->L≠q:=λL B hz e=>by rw [e,R.zout id _ q hB' hq] at hz; cases hz
  refine R.famSet hc hB rfl rfl (by rw [hX,jcq]) (λI v=>by unfold updK; rw [if_neg v]) (jah _) (λL aw=>?_) (λL B hz=>?_) (λI B rr AB v H Y h2=>?_) ?_ ⟨?_,λr f=>?_⟩
  ·unfold updH;rw [if_neg]
   ·exact R.hn L aw
   ·rintro rfl;have:=R.bnd id _ _ hB' hq;omega
  ·unfold updH;rw [if_neg (aq L B hz)]; exact R.zin L B hz
  ·unfold updH;rw [if_neg]
   ·exact h2
   ·rintro rfl;exact v (R.owI H hB' Y (.inl hq))
  ·unfold lset;refine BR.fmSet (e':=e') hd hq (by simp [updH]) hn hl aA (λI v=>?_) (by rw [hX,jcq]) (λI v=>by rw [hX,jbn (λe=>v e.symm)]) (λI r m B v f hB1=>?_) (λaC ad=>?_) h1 ⟨af,ac⟩
   ·have:=ao _ v;omega
   ·unfold updH;rw [if_neg]
    ·exact hB1
    ·rintro rfl;exact (C.2 r (kav f)).2.2.1 id _ hB' hq
   ·rw [hX,jby (by rw [<-hn]; exact (jae.1 ab).1)] at ad;cases ad;refine ⟨by rw [af,kaf t y' hd],λp b b' hp H F=>?_,xs.map u.enc,by rw [ah,jby (by rw [kaf t y0 hd]; exact hj)],by simp,?_⟩
    ·rw [ah,jbn (λe=>hp e.symm)] at F;exact am p b b' hp H F
    ·have hF:=hFam (updH h q (.cells t.wd T' (es.set i.toNat e'))) (λrr S=>by
      unfold updH;rw [if_neg];rintro rfl;exact (aa rr S).2.2 id _ hB' (.inl hq))
     have ai:=ax;cases E with
     | none=>
      obtain ⟨k1,k2⟩:=hF;exact ⟨by rw [ai,k1],by rw [k2]; rfl⟩
     | some rr=>
      obtain ⟨k1,al,k2⟩:=hF;exact ⟨by rw [ai,k1],al,k2⟩
  ·unfold kan;rw [hX];refine keH C.1 λrr S hm=>?_;exact (aa rr S).2.2 id _ hB' (.inr ⟨rfl,hm⟩)
  ·rcases ak r f with f | f
   ·obtain ⟨k1,k2,k3,k4⟩:=C.2 r f;refine ⟨k1,k2,k3 id _ hB',λI B' v H Y=>?_⟩;exact v (R.owI H hB' Y (.inr ⟨rfl,f⟩))
   ·obtain ⟨k1,k2,k3⟩:=aa r f;exact ⟨k1,k2,λe=>k3 id _ hB' (.inl e),λI B' _ H=>k3 I B' H⟩
theorem kpr (R:Rel P κ ln z c s env h n) {T T' U:Yc} {t u:Ty} {j:Nat} {l:Ya t.den} {p:Yf} {m:AV} {i:Int} {ho:Yb Int} (hu:TVR P κ ln z s.n (.fo id i j) (ev env p)) (hB:alk s.hp id=some (some (.fm T' t j U u l ho))) (hm:P.cellsOf T=1) (C:u.dat=true) (hc:c.has id=false)
  (H:∀ k:Int,ho=some k->k=i) {y L:t.den} {xs:Ya u.den} (hy:gi l i=some y) (E:rowS (A:=sem) t u j y xs=some L)
  {M:Yb Nat} (x:(M=none/\xs=[]/\m=nilS)\/∃ rr es,M=some rr/\m = .ms rr 0 xs.length/\h rr=some (.cells u.wd U es)/\SnapE z es (xs.map u.enc)/\(∀ e∈es,e.length=u.wd/\∀ a∈e,a.one=true))
  (X:∀ rr,M=some rr->rr<n/\z rr=none/\∀ i' Z,thp c s i'=some Z->¬ Ow κ ln i' Z rr)
  (hk:Kf .ud { drpS s id with hp:=(id,some (.fm T' t j U u (lset l i L) none))::(drpS s id).hp }=some r) :
  ∃ ln',Ke c s.n κ ln κ ln'/\∃ h',(∀ K:K3,K .ud h' n->kbl P h n T (ev env p) m K)/\Rel P κ ln' z c { drpS s id with hp:=(id,some (.fm T' t j U u (lset l i L) none))::(drpS s id).hp } env h' n:=by
 have f:m.one=true/\kax m=some [m]:=by
  rcases x with ⟨_,_,rfl⟩ | ⟨_,_,_,rfl,_⟩ <;> exact ⟨rfl,rfl⟩
 obtain ⟨hd,_⟩:=R.famAt (kab hB) hy;obtain ⟨hj,_⟩:=kew hd C E;refine kiL (av:=m) (y0:=y) R hB C hc H hy E (λq es e hq hh he I S h0 hf=>?_) ⟨f.1,x⟩ X hk;have v:putAt e j [m]=e.set j m:=rfl;refine ⟨putAt e j [m],by rw [v,jcq]; exact I,λb B=>?_,by rw [v,jby (by omega)],λp b b' hp B Y=>?_,λK hK=>?_⟩
 ·rw [v] at B;rcases List.mem_or_eq_of_mem_set B with B | rfl
  ·exact S b B
  ·exact f.1
 ·rw [v,jbn (λe=>hp e.symm)] at B;exact hf p b b' hp B Y
 ·generalize hx:ev env p=aa at hu;cases hu with
  | fo _ _ _ q' hN F i0 i1=>
   rw [hq] at F; cases F;simp only [kbl,hh,f.2,he];exact ⟨hm.symm,by simp,by simp; omega,hK⟩
theorem koj (R:Rel P κ ln z c s env h n) {T T' U:Yc} {t u:Ty} {j:Nat} {l:Ya t.den} {p x:Yf} {i:Int} (Z:TVR P κ ln z s.n (.fo id i 0) (ev env p)) (hB:alk s.hp id=some (some (.fm T' t j U u l none))) (ac:P.cellsOf T≠0) (ab:P.cellsOf T=t.wd) (L:u.dat=true) (hc:c.has id=false)
  {asZ:Ya AV} (hx:ev env x = .ag asZ) (f:∀ a∈asZ,a.one=true) (B:asZ.length=t.wd) {y I y0:t.den} {xs:Ya u.den} (H:∀ p b b',p≠j->asZ[p]?=some b->(t.enc y0)[p]?=some b'->Snap z b b') {m:AV} (C:asZ[j]?=some m) (hy:gi l i=some y) (X:rowS (A:=sem) t u j y0 xs=some I)
  {M:Yb Nat} (v:(M=none/\xs=[]/\m=nilS)\/∃ rr es,M=some rr/\m = .ms rr 0 xs.length/\h rr=some (.cells u.wd U es)/\SnapE z es (xs.map u.enc)/\(∀ e∈es,e.length=u.wd/\∀ a∈e,a.one=true))
  (S:∀ rr,M=some rr->rr<n/\z rr=none/\∀ i' Y,thp c s i'=some Y->¬ Ow κ ln i' Y rr)
  (hk:Kf .ud { drpS s id with hp:=(id,some (.fm T' t j U u (lset l i I) none))::(drpS s id).hp }=some r) :
  ∃ ln',Ke c s.n κ ln κ ln'/\∃ h',(∀ K:K3,K .ud h' n->kbl P h n T (ev env p) (ev env x) K)/\Rel P κ ln' z c { drpS s id with hp:=(id,some (.fm T' t j U u (lset l i I) none))::(drpS s id).hp } env h' n:=by
 refine kiL (av:=m) (y0:=y0) R hB L hc (λk e=>by cases e) hy X (λq es e hq hh he aa ad h0 hf=>?_) ⟨f m (jai C),v⟩ S hk;have F:putAt e 0 asZ=asZ:=by
  rw [kbh (by omega)];simp only [jdi,jav,jce];rw [jbg (by omega),jbf]
 refine ⟨asZ,B,f,C,H,λK hK=>?_⟩;generalize af:ev env p=ae at Z;cases Z with
 | fo _ _ _ q' hN E i0 i1=>
  rw [hq] at E; cases E;simp only [kbl,hx,hh,kax,he,F];exact ⟨by omega,by omega,by omega,hK⟩
theorem kmy (R:Rel P κ ln z c s env h n) {T T' U:Yc} {t u:Ty} {j:Nat} {l:Ya t.den} {p x:Yf} {i:Int} {vs:Ya (TV sem)} (hu:TVR P κ ln z s.n (.fo id i 0) (ev env p)) (hv:TVR P κ ln z s.n (.ag vs) (ev env x)) (am:vs[j]?=some (.fr id i)) (hB:alk s.hp id=some (some (.fm T' t j U u l none))) (ar:P.cellsOf T≠0) (aw:P.cellsOf T=t.wd)
  {y0 y S:t.den} (ah:snapL (A:=sem) c s t (vs.set j (.sc (.slice none 0 0)))=some (y0,[],[])) (hy:gi l i=some y) {ys:Ya u.den} (ai:rowD (A:=sem) t u j y=some ys) (an:rowS (A:=sem) t u j y0 ys=some S) (hk:setB (A:=sem) s id (.fm T' t j U u (lset l i S) none) Kf=some r):Res P κ ln z c s env h n ⟨d,.store T p x,ty,pos,after,g⟩ Kf r:=by
 obtain ⟨k,h0,ap,q,es,e,rm,Z,hh,he,hr,hf,hn,hl,h1,ao,_⟩:=R.famAt (kab hB) hy;have f:=hf (by simp);obtain ⟨ak,hj,af⟩:=kcO k ai;obtain ⟨f1,f2⟩:=f.row af;obtain ⟨_,M⟩:=kew k ak an;generalize hx:ev env p=av at hu;generalize al:ev env x=xv at hv;cases hv with
 | ag _ asZ E C=>
 cases hu with
 | fo _ _ _ q' hN Y i0 i1=>
  rw [Z] at Y; cases Y;obtain ⟨aj,X,H⟩:=E.at am;have I:=E.set (.sc (.slice none 0 0) rfl:TVR P κ ln z s.n (.sc (.slice none 0 0)) nilS) j;obtain ⟨a1,b1,e1,e2,e3,_⟩:=kbp R t _ _ _ _ _ k I ah;cases e2;rw [jbf] at e1;rw [kaP] at e3;subst e1;have a:asZ.length=t.wd:=by have:=e3.len; rw [jcq,kaf t y0 k] at this; exact this.symm
  have au:=(h1 e (jai he)).1;have ac:(t.enc S)[j]?=some (.sl (ys.map u.enc)):=by rw [M,jby (by rw [kaf t y0 k]; exact hj)]
  have aa:e[j]?=some aj:=by
   obtain ⟨_,_,⟨m,g1,g2⟩ | ⟨r',m,g1,g2⟩⟩:=H.fr_inv
   ·rw [hr] at g1; cases g1;rcases f2 with ⟨_,v,_⟩ | ⟨r2,es',v,_⟩
    ·rw [v,g2]
    ·cases v
   ·rw [hr] at g1; cases g1;rcases f2 with ⟨v,_⟩ | ⟨r2,es',v,f4,_⟩
    ·cases v
    ·rw [f4,g2]; cases v; rfl
  have ad:putAt e 0 asZ=asZ:=by
   rw [kbh (by omega)];simp only [jdi,jav,jce];rw [jbg (by omega),jbf]
  have ab:BR P κ ln z (updH h q (.cells t.wd T' (es.set i.toNat asZ))) s.n id (.fm T' t j U u (lset l i S) none):=by
   unfold lset;refine BR.fmSet (e':=asZ) k Z (by simp [updH]) hn hl ao (λi e=>by cases e) rfl (λ_ _=>rfl) (λi' r m B hi ae hB'=>?_) (λaq F=>?_) h1 ⟨a,λb hb=>C b hb⟩
   ·unfold updH;rw [if_neg]
    ·exact hB'
    ·rintro rfl;exact ((R.fam id _ (kab hB) rfl).2 r (kav ae)).2.2.1 id _ (kab hB) Z
   ·rw [hr] at F; cases F;refine ⟨by rw [a,kaf t S k],λp b b' hp hb L=>?_,ys.map u.enc,ac,f1,?_⟩
    ·rw [M,jbn (λe=>hp e.symm)] at L;exact e3.at p b b' (by rw [jbn (λe=>hp e.symm)]; exact hb) L
    ·obtain ⟨rr,m⟩:=rm;rcases f2 with ⟨k1,k2,k3⟩ | ⟨r2,es',k1,k2,k3,k4,k5⟩
     ·simp only at k1; subst k1;rw [aa] at k2;exact ⟨by rw [X]; exact k2,k3⟩
     ·simp only at k1; subst k1;rw [aa] at k2;refine ⟨by rw [X]; exact k2,es',?_,k4,k5⟩;unfold updH;rw [if_neg]
      ·exact k3
      ·rintro rfl;exact ((R.fam id _ (kab hB) rfl).2 _ (kav hr)).2.2.1 id _ (kab hB) Z
  have R':=R.setO (AB:=.cells t.wd T' (es.set i.toNat asZ)) hB (.inl Z) ab (λ_=>rfl);exact ⟨.ud,_,.ud,_,n,κ,ln,z,λK hK=>by
   simp only [aop,kbl,hx,al,hh,kax,he,ad];exact ⟨by omega,by omega,by omega,hK⟩,hk,R',.ud,jah _,.refl,λhc=>by cases hc⟩
theorem khU (s:TS sem) (r:Yb Nat):(rowN s r).n=s.n:=by cases r <;> rfl
theorem ktv (s:TS sem) (id:Nat):(drpS s id).n=s.n:=rfl
theorem kjl (R:Rel P κ ln z c s env h n) {U:Yc} {u:Ty} {v:TV sem} {K:AV} (Y:TVR P κ ln z s.n v K) {xs:Ya u.den} {rd:Yb Nat} (b:khw (A:=sem) s U u v=some (xs,rd)) :
  Rel P κ ln z c (rowN s rd) env h n/\(∀ i B,alk s.hp i=some (some B)->B.isF=true->alk (rowN s rd).hp i=some (some B))/\∃ L:Yb Nat,((L=none/\xs=[]/\K=nilS)\/∃ rr es,L=some rr/\K = .ms rr 0 xs.length/\h rr=some (.cells u.wd U es)/\SnapE z es (xs.map u.enc)/\(∀ e∈es,e.length=u.wd/\∀ a∈e,a.one=true))/\
   (∀ rr,L=some rr->rr<n/\z rr=none/\∀ m p,thp c (rowN s rd) m=some p->¬ Ow κ ln m p rr):=by
 unfold khw at b;split at b
 ·rename_i x;split at b
  ·rename_i U' u' l' hBr;split at b
   ·rename_i hU;simp only [jac] at b;obtain ⟨aa,H,M⟩:=b;cases M;obtain ⟨et,rfl⟩:=kaj H;cases et;subst hU;have y:∀ m p,thp c (rowN s (some x)) m=some p->m≠x/\thp c s m=some p:=λm p f=>by
     unfold rowN at f;rw [kaO] at f;split at f
     ·cases f
     ·rename_i e; exact ⟨e,f⟩
    refine ⟨R.del (h':=h) hBr (λ_ _ h=>h) (λ_ _ _ h=>h),λi B hB hF=>?_,?_⟩
    ·have I:i≠x:=by rintro rfl; rw [hB] at hBr; cases hBr; cases hF
     simp only [rowN,alk]; rw [if_neg I]; exact hB
    ·cases R.blk _ _ (kab hBr) with
     | sl0 _ _ _ E k S C=>
      subst S;refine ⟨none,.inl ⟨rfl,rfl,?_⟩,λrr e=>by cases e⟩;cases Y with
      | mw0=>rfl
      | mw _ q _ t=>rw [k] at t; cases t
     | sl _ _ _ qr es' E k Z F X C=>
      refine ⟨some qr,.inr ⟨qr,es',rfl,?_,Z,F,λe he=>⟨F.heads E e he,X e he⟩⟩,λrr e=>?_⟩
      ·rw [C];cases Y with
       | mw0 _ _ t=>rw [k] at t; cases t
       | mw _ q _ t=>rw [k] at t; cases t; rfl
      ·cases e;refine ⟨R.bnd _ _ _ (kab hBr) k,R.zout _ _ _ (kab hBr) k,λm p f T=>?_⟩;obtain ⟨w1,w2⟩:=y m p f;exact w1 (R.owI w2 (kab hBr) T (.inl k))
   ·cases b
  ·cases b
 ·rename_i w;split at b
  ·rename_i hn;cases b;exact ⟨R,λ_ _ h _=>h,none,.inl ⟨rfl,rfl,by cases Y; rw [kaF hn]⟩,λrr e=>by cases e⟩
  ·cases b
 ·cases b
theorem kng (R:Rel P κ ln z c s env h n) {T:Yc} {p x:Yf} {i:Int} {o:Nat} {v:TV sem} (hu:TVR P κ ln z s.n (.fo id i o) (ev env p)) (hv:TVR P κ ln z s.n v (ev env x)) (a:kkW P c s T id i o v Kf=some r):Res P κ ln z c s env h n ⟨d,.store T p x,ty,pos,after,g⟩ Kf r:=by
 unfold kkW at a;split at a
 ·rename_i ag T' t j U u l ho an hB;replace hB:=kbC hB;split at a
  ·exact kaa a
  ·rename_i Z;split at a
   ·rename_i A;obtain ⟨_,rfl,ai⟩:=A;split at a
    ·rename_i xs rv C;split at a
     ·exact kaa a
     ·rename_i m;have m:c.has id=false:=by simpa using m
      obtain ⟨k,ab⟩:=ksL a;clear a;simp only [jaa] at k;obtain ⟨y,E,k⟩:=k;split at k
      ·rename_i y' f;have H:u.dat=true:=by
        obtain ⟨hd,_⟩:=R.famAt (kab hB) E;exact koF hd f
       obtain ⟨R0,hB0,ad,w1,w2⟩:=kjl R hv C;have hB0:=hB0 _ _ hB rfl;obtain ⟨ln',g1,h',g2,g3⟩:=kpr R0 (by rw [khU]; exact hu) hB0 ai H m ab E f w1 w2 k;rw [khU] at g1;exact ⟨_,_,_,_,_,_,_,_,λK hK=>by simp only [aop]; exact g2 K hK,k,g3,.ud,by simp [khU,ktv],g1,λA=>by cases A⟩
      ·exact kaa k
    ·exact kaa a
   ·split at a
    ·rename_i A;obtain ⟨A,B⟩:=A;obtain rfl:=jed.1 B;simp only [jaa] at a;obtain ⟨y,E,a⟩:=a;split at a
     ·rename_i y' f;exact kon R hu hv hB Z A E f a
     ·exact kaa a
    ·split at a
     ·rename_i vs;split at a
      ·rename_i am i' I;split at a
       ·rename_i A;obtain ⟨rfl,L,B,rfl⟩:=A;obtain rfl:=jed.1 B;split at a
        ·rename_i y0 F;simp only [jaa] at a;obtain ⟨y,E,_,hg,a⟩:=a;have ak:i=i':=by
          unfold gsame at hg;split at hg
          ·assumption
          ·cases hg
         subst ak;split at a
         ·rename_i y' f;obtain ⟨ys,ae,f⟩:=jaa.1 f;exact kmy R hu hv I hB (by omega) L F E ae f a
         ·exact kaa a
        ·exact kaa a
       ·exact kaa a
      ·rename_i w al I;split at a
       ·rename_i A;obtain ⟨rfl,L,B⟩:=A;obtain rfl:=jed.1 B;split at a
        ·rename_i xs rd C;split at a
         ·exact kaa a
         ·rename_i m;have m:c.has id=false:=by simpa using m
          split at a
          ·rename_i y0 F;simp only [jaa] at a;obtain ⟨y,E,a⟩:=a;split at a
           ·rename_i y' f;obtain ⟨hd,_⟩:=R.famAt (kab hB) E;have H:=koF hd f;generalize af:ev env x=xv at hv;cases hv with
            | ag _ asZ X S=>
             obtain ⟨aj,ah,Y⟩:=X.at I;obtain ⟨R0,hB0,ad,w1,w2⟩:=kjl R Y C;have hB0:=hB0 _ _ hB rfl;have aa:=X.set (.sc (.slice none 0 0) rfl:TVR P κ ln z s.n (.sc (.slice none 0 0)) nilS) j;obtain ⟨a1,b1,e1,e2,e3,_⟩:=kbp R t _ _ _ _ _ hd aa F;cases e2;rw [jbf] at e1;rw [kaP] at e3;subst e1;have M:asZ.length=t.wd:=by have:=e3.len; rw [jcq,kaf t y0 hd] at this; exact this.symm
             obtain ⟨ln',g1,h',g2,g3⟩:=koj R0 (by rw [khU]; exact hu) hB0 Z L H m af S M (λp b b' hp hb ac=>e3.at p b b' (by rw [jbn (λe=>hp e.symm)]; exact hb) ac) ah E f w1 w2 a;rw [khU] at g1;exact ⟨_,_,_,_,_,_,_,_,λK hK=>by simp only [aop]; exact g2 K hK,a,g3,.ud,by simp [khU,ktv],g1,λA=>by cases A⟩
           ·exact kaa a
          ·exact kaa a
        ·exact kaa a
       ·exact kaa a
      ·exact kaa a
     ·exact kaa a
 ·exact kaa a
end
theorem arr_of' {α:Type} {a:Array α} {l:Ya α} (h:a.toList=l):a=l.toArray:=by rw [<-h]
section
variable {P:Ye} {κ κ':Nat->Yb Nat} {ln ln':Nat->Nat} {z z':AH} {c:Cx sem} {s:TS sem} {env:Env} {h h':AH} {n n' N N':Nat} {id:Nat}
variable {ρ:Ty} {Kf:TV sem->TS sem->sem.Ans ρ} {r:ρ.den}
variable {d:Yb Tmp} {ty:Yc} {pos:String} {after:Array Edge} {g:Yb (Nat×Bool)}
theorem FamE.nil {w:Nat} {U:Yc} {cs e:Ya AV} {j:Nat} {ys:Ya (Ya AV)} (hs:SnapL z e cs) (k:cs[j]?=some (.sl ys)) (b:∃ v,e[j]?=some (.sc v)):FamE z h j U w cs e (none,0):=by
 obtain ⟨v,b⟩:=b;have p:=hs.at j _ _ b k;rcases p.sl_inv with ⟨es,h2,_⟩ | ⟨h2,i⟩ | ⟨_,_,_,_,_,_,h2,_⟩
 ·cases h2
 ·exact ⟨hs.len.symm,λq a a' _ m f=>hs.at q a a' m f,ys,k,by rw [i]; rfl,by rw [b,h2],i⟩
 ·cases h2
theorem kip {e:Yc} {t u:Ty} {j:Nat} {U:Yc} (h:famO P e=some (t,j,U,u)):t.dat=true/\u.dat=true/\tyOf P e=some t:=by
 unfold famO at h;split at h
 ·rename_i t' Ts a hT;split at h
  ·simp only [jac] at h;obtain ⟨i,f,b⟩:=h;cases b;exact ⟨kcL a,kcL f,a⟩
  ·cases h
 ·cases h
theorem kol (R:Rel P κ ln z c s env h n) {T:Yc} {e:Yc} {x y:Yf} (he:elemO P T=some e) (b:kmM P s e (tev c s x) (khz x y) Kf=some r):Res P κ ln z c s env h n ⟨d,.makeSlice T x y,ty,pos,after,g⟩ Kf r:=by
 unfold kmM at b;split at b
 ·rename_i t j U u zs m hf hz hm;split at b
  ·rename_i z0 M;split at b
   ·rename_i hc;obtain ⟨hs,Y,k,ad,hb,F⟩:=hc;obtain ⟨H,ac,_⟩:=kip hf;simp only [jaa] at b;obtain ⟨l,C,b⟩:=b;obtain ⟨g1,g2,C⟩:=krw C;obtain ⟨I,k',jc,aa,gj,gk⟩:=kpv R hs hm g2;obtain ⟨rest,hr,S⟩:=(jcu _ _).1 Y;obtain rfl:=jcw.1 S;obtain ⟨a,ea,ha⟩:=kct (z:=z) t z0 zs [] H M hr;rw [jbf] at ea; subst ea;obtain ⟨ys,Z⟩:=jan.1 F;obtain ⟨_,hj,X⟩:=kcO H Z;have ab:FamE z (updH h n (.cells t.wd e (List.replicate m.toNat zs))) j U u.wd (t.enc z0) zs (none,0):=by
     refine FamE.nil ha X ?_;have h1:zs[j]?=some (zs[j]'(by omega)):=jaf _;obtain ⟨v,hv,_⟩:=keT hz _ (jai h1);exact ⟨v,by rw [h1,hv]⟩
    have E:kan (codeR (List.replicate m.toNat (none,0)))=[]:=by
     rw [kjD];generalize m.toNat=p;induction p with
     | zero=>rfl
     | succ p ih=>rw [List.replicate_succ,jcp]; exact ih
    have R':=R.newF (h':=updH h n (.cells t.wd e (List.replicate m.toNat zs))) (n':=n+1) (.fm e t j U u l none) (some n) (codeR (List.replicate m.toNat (none,0))) (λq B A=>by
      unfold updH; rw [if_neg]; ·exact A
      rintro rfl; rw [R.hn _ (jah _)] at A; cases A) (jbp _) (λq A=>by cases A; omega) (λq A=>by unfold updH; rw [if_neg (by omega)]; exact R.hn q (by omega))
     (.fm e t j U u l none n (List.replicate m.toNat zs) H updK_self (by simp [updH]) (by rw [updK_self,kbi,C]; simp) (by rw [C]; simp) (λi x e' rm hx f hr _=>by
      rw [updK_self,kbi,jcz] at hr;rw [C,jcz] at hx;rw [jcz] at f;split at hr
      ·rename_i L;rw [if_pos L] at hx f;cases hr; cases hx; cases f;exact ab
      ·cases hr) .none (λe' f=>by
       obtain ⟨_,rfl⟩:=List.mem_replicate.1 f;exact ⟨k,ha.one_rev (kaH t z0 H)⟩)) (by rw [E]; exact ⟨List.nodup_nil,λr hr=>by cases hr⟩)
    refine ⟨.fw s.n,_,.ms n 0 m.toNat,_,_,_,_,_,λK hK=>?_,b,R',?_,jbp _,λid hi=>⟨kao hi,λ_=>kao hi⟩,λhc=>by cases hc⟩
    ·simp only [aop,he,hz,I,aa];refine ⟨g1,gj,gk,hb,by rintro rfl; simp at k; omega,?_⟩;rw [k]; exact hK
    ·have:=TVR.fw (P:=P) (κ:=updK κ s.n (some n)) (ln:=updK ln s.n (codeR (List.replicate m.toNat (none,0)))) (z:=z) (N:=s.n+1) s.n n (jbk _) updK_self;rw [updK_self,kbi,List.length_replicate] at this;exact this
   ·exact kaa b
  ·exact kaa b
 ·exact kaa b
theorem kpq (R:Rel P κ ln z c s env h n) {T T2:Yc} {x y:Yf} {a:Int} {v:TV sem} (hu:TVR P κ ln z s.n (.fr id a) (ev env x)) (hv:TVR P κ ln z s.n v (ev env y)) (C:kpJ P c s T T2 id a v Kf=some r) :
  Res P κ ln z c s env h n ⟨d,.call ⟨.builtin .append,#[x,y],#[T,T2]⟩,ty,pos,after,g⟩ Kf r:=by
 unfold kpJ at C;split at C
 ·rename_i e T' t j U u l he hB;replace hB:=kbC hB;split at C
  ·rename_i zs hz;split at C
   ·rename_i hc;obtain ⟨hp,Z,aF,hb,rfl⟩:=hc;have L:zs≠[]:=by rintro rfl; simp at Z; omega
    split at C
    ·exact kaa C
    ·rename_i ac;have ac:c.has id=false:=by simpa using ac
     split at C
     ·exact kaa C
     ·rename_i xs ids aw;simp only [jaa] at C;obtain ⟨w,hw,C⟩:=C;split at C
      ·rename_i ys aD;simp only [jaa] at C;obtain ⟨l',hg,C⟩:=C;obtain ⟨aC,hg⟩:=keY hg;subst hg;obtain ⟨al,bs,ad,am⟩:=kjE R hv aw;have aa:=am.1;rw [jbb] at aa;obtain ⟨hd,h0,ay,q,es,e',rm,F,hh,aA,hr,hf,hn,hl,h1,aE,aH⟩:=R.famAt (kab hB) hw;obtain ⟨_,hj,az⟩:=kcO hd aD;obtain ⟨f1,f2⟩:=(hf (by simp)).row az;rw [jbb] at f1;have hB':=kab (c:=c) hB;have E:=R.fam id _ hB' rfl;have aB:=(jae.1 hr).1;rw [<-Z] at ad;have hX:∀ X,X=updK ln id (codeR ((kac (ln id)).set a.toNat (none,0)))->kac (X id)=(kac (ln id)).set a.toNat (none,0):=λX e=>by rw [e,updK_self,kbi]
       have af:∀ (h1:AH),(∀ i,(∀ m,(kac (ln id))[a.toNat]?≠some (some i,m))->h1 i=h i)->(∀ i,n<=i->h1 i=none)->Rel P κ (updK ln id (codeR ((kac (ln id)).set a.toNat (none,0)))) z c { drpS s id with hp:=(id,some (.fm T' t j e u l (some a)))::(drpS s id).hp } env h1 n:=λY k1 k2=>by
        have hX':=hX _ rfl;have kz:∀ i,(∀ r,r∈kan (ln id)->r≠i)->Y i=h i:=λi I=>k1 i λm hm=>I i (kav hm) rfl;have au:∀ r,r∈kan (updK ln id (codeR ((kac (ln id)).set a.toNat (none,0))) id)->r∈kan (ln id):=λr f=>by
         unfold kan at f ⊢;rw [hX'] at f;rcases kfQ f with h | h
         ·exact h
         ·cases h
        refine R.famSet ac hB rfl rfl (by rw [hX',jcq]) (λM A=>by unfold updK; rw [if_neg A]) (jah _) k2 (λi B ak=>?_) (λM B rr AB A H aj h2=>?_) ?_ ⟨?_,λr f=>?_⟩
        ·rw [kz i λr f e=>?_]
         ·exact R.zin i B ak
         ·subst e; rw [(E.2 r f).2.1] at ak; cases ak
        ·rw [kz rr λr f e=>?_]
         ·exact h2
         ·subst e; exact A (R.owI H hB' aj (.inr ⟨rfl,f⟩))
        ·refine .fm T' t j e u l (some a) q es hd F ?_ (by rw [hX',jcq]; exact hn) hl (λM x' e2 ai ab ae f S=>?_) ⟨λM ai A f=>?_,λM x' e2 A ab ae p b b' hp hb H=>?_⟩ h1
         ·rw [kz q λr f e=>?_]
          ·exact hh
          ·subst e; exact (E.2 r f).2.2.1 id _ hB' F
         ·have an:M≠a.toNat:=λe=>S (by rw [e,Int.toNat_of_nonneg h0]);rw [hX',jbn (λe=>an e.symm)] at f;refine (aE M x' e2 ai ab ae f (by simp)).mono (λ_ _ h=>h) λrr B ar hBB=>?_;obtain ⟨aG,m'⟩:=ai;simp only at ar; subst ar;rw [k1 rr λm hm=>?_]
          ·exact hBB
          ·exact an (khr E.1 f hm rfl rfl)
         ·have:M=a.toNat:=by cases A; simp
          subst this;rw [hX',jby aB] at f;cases f; rfl
         ·have:M=a.toNat:=by cases A; simp
          subst this;rw [ay] at ab; cases ab;rw [aA] at ae; cases ae;exact (hf (by simp)).2.1 p b b' hp hb H
        ·unfold kan;rw [hX'];exact keH E.1 λrr ax=>by cases ax
        ·have f:=au r f;obtain ⟨w1,w2,w3,w4⟩:=E.2 r f;refine ⟨w1,w2,w3 id _ hB',λM B2 A H aj=>?_⟩;exact A (R.owI H hB' aj (.inr ⟨rfl,f⟩))
       have ke:∀ m k,Ke c s.n κ ln (updK κ s.n k) (updK (updK ln id (codeR ((kac (ln id)).set a.toNat (none,0)))) s.n m):=λm k M A=>⟨kao A,λap=>by
        rw [kao A];unfold updK;rw [if_neg];rintro rfl;rw [ac] at ap; cases ap⟩
       have fin:∀ (h1:AH) (es':Ya (Ya AV)),(∀ i,(∀ m,(kac (ln id))[a.toNat]?≠some (some i,m))->h1 i=h i)->(∀ i,n<=i->h1 i=none)->SnapE z es' ((ys++xs).map u.enc)->(∀ K:K3,K (.ms n 0 (ys++xs).length) (updH h1 n (.cells u.wd e es')) (n+1)->aop P env h n ⟨d,.call ⟨.builtin .append,#[x,y],#[T,T2]⟩,ty,pos,after,g⟩ K)->Res P κ ln z c s env h n ⟨d,.call ⟨.builtin .append,#[x,y],#[T,T2]⟩,ty,pos,after,g⟩ Kf r:=λY es' k1 k2 ao hK=>by
        have R1:=af Y k1 k2;have R2:=R1.new (h':=updH Y n (.cells u.wd e es')) (n':=n+1) (.sl e u (ys++xs)) (some n) (ys++xs).length (λq B F=>by
          unfold updH; rw [if_neg]; ·exact F
          rintro rfl; rw [R1.hn _ (jah _)] at F; cases F) (jbp _) (λq F=>by cases F; omega) (λq F=>by unfold updH; rw [if_neg (by omega)]; exact R1.hn q (by omega))
         (.sl e u (ys++xs) n es' al updK_self (by simp [updH]) ao (ao.ones al) updK_self.symm)
        refine ⟨.mw s.n,_,_,_,_,_,_,_,hK,C,R2,?_,jbp _,ke _ _,λhc=>by cases hc⟩;have:=TVR.mw (P:=P) (κ:=updK κ s.n (some n)) (ln:=updK (updK ln id (codeR ((kac (ln id)).set a.toNat (none,0)))) s.n (ys++xs).length) (z:=z) (N:=s.n+1) s.n n (jbk _) updK_self;rw [updK_self] at this;exact this
       obtain ⟨hN,a0,⟨m,g1,g2⟩ | ⟨r',m,g1,g2⟩⟩:=hu.fr_inv
       ·rw [hr] at g1; cases g1;rcases f2 with ⟨_,_,f3⟩ | ⟨r2,es',f3,_⟩
        ·rw [jdr] at f3; subst f3;rw [jav] at C fin;have ah:bs.length<=1048576:=by simp at aC; omega
         by_cases S:bs=[]
         ·subst S;have:xs=[]:=by simpa using aa
          subst this;have R1:=af h (λ_ _=>rfl) R.hn;have R2:=R1.new (h':=h) (n':=n) (.sl e u []) none 0 (λq B F=>F) (jah _) (λq F=>by cases F) R1.hn (.sl0 e u [] al updK_self rfl updK_self);refine ⟨.mw s.n,_,nilS,_,_,_,_,_,λK hK=>?_,C,R2,.mw0 s.n (jbk _) updK_self,jbp _,ke _ _,λhc=>by cases hc⟩;simp only [aop,kai,g2,kbm,he,hz,ad];exact ⟨hp,L,hb,ah,λ_=>hK,λh=>absurd rfl h⟩
         ·refine fin h bs (λ_ _=>rfl) R.hn am λK hK=>?_;simp only [aop,kai,g2,kbm,he,hz,ad];refine ⟨hp,L,hb,ah,λh=>absurd h S,λ_=>?_⟩;rw [Z,<-aa]; exact hK
        ·cases f3
       ·rw [hr] at g1; cases g1;rcases f2 with ⟨f3,_⟩ | ⟨r2,es',f3,f4,f5,f6,f7⟩
        ·cases f3
        ·cases f3;simp only at f1;subst f1;have aq:=f6.1;rw [jbb] at aq;refine fin (delH h r') (es'++bs) (λi I=>?_) (λi I=>?_) (by rw [jcr]; exact f6.append am) λK hK=>?_
         ·unfold delH;rw [if_neg];rintro rfl;exact I _ hr
         ·unfold delH;split
          ·rfl
          ·exact R.hn i I
         ·simp only [aop,kai,g2,kbm,he,hz,ad,f5];refine ⟨hp,L,hb,Z.symm,trivial,aq.symm,by omega,?_⟩;rw [jax,aa] at hK;exact hK
      ·exact kaa C
   ·exact kaa C
  ·exact kaa C
 ·exact kaa C
end
section
variable {P:Ye} {κ κ':Nat->Yb Nat} {ln ln':Nat->Nat} {z z':AH} {c:Cx sem} {s:TS sem} {env:Env} {h h':AH} {n n' N N':Nat} {id:Nat}
variable {ρ:Ty} {Kf:TV sem->TS sem->sem.Ans ρ} {r:ρ.den}
variable {d:Yb Tmp} {ty:Yc} {pos:String} {after:Array Edge} {g:Yb (Nat×Bool)}
theorem Rel.famAll (R:Rel P κ ln z c s env h n) {T U:Yc} {t u:Ty} {j:Nat} {l:Ya t.den} (hB:thp c s id=some (.fm T t j U u l none)) :
  t.dat=true/\∃ es:Ya (Ya AV),es.length=l.length/\l.length=(kac (ln id)).length/\(∀ (i:Nat) (x:t.den) (e:Ya AV) (b:Yb Nat×Nat),l[i]?=some x->es[i]?=some e->(kac (ln id))[i]?=some b->FamE z h j U u.wd (t.enc x) e b)/\
   (∀ e∈es,e.length=t.wd/\∀ a∈e,a.one=true)/\((κ id=none/\es=[])\/∃ q,κ id=some q/\h q=some (.cells t.wd T es)):=by
 have m:=R.blk _ _ hB;cases m with
 | fm0 _ _ _ _ _ _ _ f k hl hn=>subst hl; exact ⟨f,[],rfl,by rw [hn]; rfl,by simp,by simp,.inl ⟨k,rfl⟩⟩
 | fm _ _ _ _ _ _ _ q es f k v hn hl B C p=>exact ⟨f,es,hl,hn,λi x e b y A hr=>B i x e b y A hr (by simp),p,.inr ⟨q,k,v⟩⟩
theorem Rel.famNew (R:Rel P κ ln z c s env h n) {T U:Yc} {t u:Ty} {j:Nat} {l:Ya t.den} {es:Ya (Ya AV)} {rows:Ya (Yb Nat×Nat)} (p:t.dat=true) (hl:es.length=l.length) (hn:l.length=rows.length)
  (C:∀ (i:Nat) (x:t.den) (e:Ya AV) (k:Yb Nat×Nat),l[i]?=some x->es[i]?=some e->rows[i]?=some k->FamE z h j U u.wd (t.enc x) e k) (v:∀ e∈es,e.length=t.wd/\∀ a∈e,a.one=true)
  (hr:(rows.filterMap (·.1)).Nodup/\∀ r∈rows.filterMap (·.1),r<n/\z r=none/\∀ i m,thp c s i=some m->¬ Ow κ ln i m r) :
  Rel P (updK κ s.n (some n)) (updK ln s.n (codeR rows)) z c { s with hp:=(s.n,some (.fm T t j U u l none))::s.hp,n:=s.n+1 } env (updH h n (.cells t.wd T es)) (n+1):=by
 have up:∀ q B,h q=some B->updH h n (.cells t.wd T es) q=some B:=λq B b=>by
  unfold updH; rw [if_neg]; ·exact b
  rintro rfl; rw [R.hn _ (jah _)] at b; cases b
 exact R.newF (.fm T t j U u l none) (some n) (codeR rows) up (jbp _) (λq b=>by cases b; omega) (λq b=>by unfold updH; rw [if_neg (by omega)]; exact R.hn q (by omega))
  (.fm T t j U u l none n es p updK_self (by simp [updH]) (by rw [updK_self,kbi]; exact hn) hl (λi x e k y A f _=>(C i x e k y A (by rw [updK_self,kbi] at f; exact f)).mono (λ_ _ h=>h) (λr B _ hB=>up r B hB)) .none v)
  (by rw [kjD]; exact hr)
theorem Rel.famNew0 (R:Rel P κ ln z c s env h n) {T U:Yc} {t u:Ty} {j:Nat} (b:t.dat=true):Rel P (updK κ s.n none) (updK ln s.n 0) z c { s with hp:=(s.n,some (.fm T t j U u [] none))::s.hp,n:=s.n+1 } env h n:=
 R.newF (.fm T t j U u [] none) none 0 (λ_ _ a=>a) (jah _) (λq a=>by cases a) R.hn (.fm0 T t j U u [] none b updK_self rfl updK_self) ⟨List.nodup_nil,λr hr=>by cases hr⟩
theorem keJ {N:Nat} {k:Yb Nat} {m:Nat}:Ke c N κ ln (updK κ N k) (updK ln N m):=λid a=>⟨kao a,λ_=>kao a⟩
theorem kiS {T e:Yc} {f:Ty×Nat×Yc×Ty} (h:((elemO P T).bind λe=>(famO P e).map λf=>(e,f))=some (e,f)):elemO P T=some e/\famO P e=some f:=by
 obtain ⟨e',b,h2⟩:=jaa.1 h;obtain ⟨k,i,a⟩:=jac.1 h2;cases a;exact ⟨b,i⟩
theorem kpB (R:Rel P κ ln z c s env h n) {x:Yf} (m:ev env x=nilS) (a:kqn P s ty Kf=some r):Res P κ ln z c s env h n ⟨d,.assign x,ty,pos,after,g⟩ Kf r:=by
 unfold kqn at a;split at a
 ·rename_i e t j U u b;obtain ⟨y,b⟩:=kiS b;obtain ⟨f,p,_⟩:=kip b;exact ⟨.fw s.n,_,nilS,h,n,_,_,_,λK hK=>by simp only [aop,m]; exact hK,a,R.famNew0 f,.fw0 s.n (jbk _) updK_self,jbp _,keJ,λk=>by cases k⟩
 ·split at a
  ·rename_i e t b;split at a
   ·rename_i f;have v:=R.new (h':=h) (n':=n) (.sl e t []) none 0 (λq B i=>i) (jah _) (λq i=>by cases i) R.hn (.sl0 e t [] f updK_self rfl updK_self);exact ⟨.mw s.n,_,nilS,h,n,_,_,_,λK hK=>by simp only [aop,m]; exact hK,a,v,.mw0 s.n (jbk _) updK_self,jbp _,keJ,λk=>by cases k⟩
   ·exact kaa a
  ·exact kaa a
theorem kfc {q:Nat->Bool}:∀ (zs:Ya AV) (Ts:Ya Yc) {i:Nat} {κ:Nat->Yb Nat} {ln:Nat->Nat} {s:TS sem},Rel P κ ln z c s env h n->(∀ a∈zs,∃ v,a = .sc v/\v.oneCell'=true)->zs.length=Ts.length->
  ∃ κ' ln',Rel P κ' ln' z c (zeroF P q i s zs Ts).2 env h n/\TVRs P κ' ln' z (zeroF P q i s zs Ts).2.n (zeroF P q i s zs Ts).1 zs/\s.n<=(zeroF P q i s zs Ts).2.n/\(zeroF P q i s zs Ts).2.env=s.env/\(∀ id,id<s.n->κ' id = κ id)/\(∀ id,id<s.n->ln' id=ln id)
 | [],[],i,κ,ln,s,R,_,_=>⟨κ,ln,R,.nil,jah _,rfl,λ_ _=>rfl,λ_ _=>rfl⟩
 | [],_::_,_,_,_,_,_,_,hl=>by simp at hl
 | _::_,[],_,_,_,_,_,_,hl=>by simp at hl
 | a::zs,T::Ts,i,κ,ln,s,R,hz,hl=>by
  obtain ⟨v,rfl,I⟩:=hz _ (jdz ..);have p:∀ a∈zs,∃ v,a = .sc v/\v.oneCell'=true:=λa y=>hz a (jbm _ y);have m:zs.length=Ts.length:=by simpa using hl
  simp only [zeroF];split
  ·rename_i e t j U u k;split at k
   ·rename_i hn;rw [jad] at hn;obtain rfl:=kaF hn.1;obtain ⟨M,k⟩:=kiS k;obtain ⟨E,H,_⟩:=kip k;obtain ⟨κ',ln',C,A,h2,B,f,x⟩:=kfc zs Ts (R.famNew0 (T:=e) (U:=U) (u:=u) (j:=j) E) p m;exact ⟨κ',ln',C,.cons _ _ _ _ (.fw0 s.n (jar (jbk _) h2) (by rw [f s.n (jbk _)]; exact updK_self)) A,Nat.le_of_succ_le h2,B,λid b=>by rw [f id (jee b)]; exact kao b,λid b=>by rw [x id (jee b)]; exact kao b⟩
   ·cases k
  ·obtain ⟨L,F,R1,K,a2,a3,a4,a5,_⟩:=kcW [.sc v] [T] R (λa y=>by simp at y; subst y; exact ⟨v,rfl,I⟩) rfl;obtain ⟨κ',ln',C,A,h2,B,f,x⟩:=kfc zs Ts R1 p m;exact ⟨κ',ln',C,(K.mono f x (λ_ _ h=>h) h2).append A,jcl a2 h2,B.trans a3,λid b=>(f id (by omega)).trans (a4 id b),λid b=>(x id (by omega)).trans (a5 id b)⟩
theorem koS {q:Nat->Bool} (R:Rel P κ ln z c s env h n) {T:Yc} (b:koZ P q s T Kf=some r):Res P κ ln z c s env h n ⟨d,.alloc T,ty,pos,after,g⟩ Kf r:=by
 unfold koZ at b;split at b
 ·rename_i zs Ts hz hT;split at b
  ·rename_i hl;have f:=keT hz;have e:∀ a∈zs,a.one=true:=λa F=>by obtain ⟨v,rfl,E⟩:=f a F; exact E
   obtain ⟨κ',ln',H,A,h2,_,y,B⟩:=kfc zs Ts R f hl;obtain ⟨t,s',v,h',n',x,i,z2,g1,u,I,C,k⟩:=khj (o:=⟨d,.alloc T,ty,pos,after,g⟩) rfl H A e (λK b=>by simp only [aop,hz]; exact b) b;exact ⟨t,s',v,h',n',x,i,z2,g1,u,I,C,by have:=k.1; omega,λid p=>⟨(k.2.1 id (by omega)).1.trans (y id p),λm=>((k.2.1 id (by omega)).2 m).trans (B id p)⟩,λm=>by cases m⟩
  ·exact kaa b
 ·exact kaa b
theorem khq {id:Nat} (b:id<N):∀ {vs:Ya (TV sem)} {asZ:Ya AV},TVRs P κ ln z N vs asZ->TVRs P κ ln z N (selfV id vs) asZ
 | _,_,.nil=>.nil
 | _,_,.cons v a vs asZ h hs=>by
  unfold selfV;split
  ·rename_i e; cases e
  ·rename_i f e;cases e;cases h;exact .cons _ _ _ _ (.np0 id b) (khq b hs)
  ·rename_i k f i e;cases e;exact .cons _ _ _ _ h (khq b hs)
theorem kjc {id:Nat}:∀ (vs:Ya (TV sem)),(selfV id vs).length=vs.length
 | []=>rfl
 | v::vs=>by
  unfold selfV;split
  ·rename_i e; cases e
  ·rename_i a e; cases e; simp [kjc]
  ·rename_i b a _ e; cases e; simp [kjc]
theorem kpA (R:Rel P κ ln z c s env h n) {T:Yc} (b:kpw P s T Kf=some r):Res P κ ln z c s env h n ⟨d,.alloc T,ty,pos,after,g⟩ Kf r:=by
 unfold kpw at b;split at b
 ·rename_i zs Ts hz hT;split at b
  ·rename_i hl;have m:=keT hz;have k:∀ a∈zs,a.one=true:=λa F=>by obtain ⟨v,rfl,E⟩:=m a F; exact E
   obtain ⟨κ',ln',p,t,h2,_,x,y,_⟩:=kcW zs Ts R m hl;revert b p t h2 x y;generalize zeroC P s zs Ts=q;intro b p t h2 x y;have A:∀ i,i<q.2.n->updK κ' q.2.n (some n) i = κ' i:=λi e=>kao e;have C:=p.new (h':=updH h n (.cells zs.length T [zs])) (n':=n+1) (.bx T (selfV q.2.n q.1)) (some n) 0 (λu B f=>by
     unfold updH; rw [if_neg]; ·exact f
     rintro rfl; rw [p.hn _ (jah _)] at f; cases f) (jbp _) (λu f=>by cases f; omega) (λu f=>by unfold updH; rw [if_neg (by omega)]; exact p.hn u (by omega))
    (.bx T _ n zs updK_self (by simp [updH,kjc,t.len]) (khq (jbk _) (t.mono (λid e=>kao e) (λid e=>kao e) (λ_ _ h=>h) (jbp _))) k)
   exact ⟨.ptr q.2.n 0,_,_,_,_,_,_,_,λK b=>by simp only [aop,hz]; exact b,b,C,.ptr q.2.n 0 n (jbk _) updK_self,jcl h2 (jbp _),λid e=>⟨(kao (by omega)).trans (x id e),λ_=>(kao (by omega)).trans (y id e)⟩,λH=>by cases H⟩
  ·exact kaa b
 ·exact kaa b
theorem kqe {q:Nat->Bool} (R:Rel P κ ln z c s env h n) {T:Yc} {b:Array (Nat×Yf)} (e:kpQ P c q s T b.toList Kf=some r):Res P κ ln z c s env h n ⟨d,.build T b,ty,pos,after,g⟩ Kf r:=by
 unfold kpQ at e;split at e
 ·rename_i zs Ts pl hz hT hp;split at e
  ·rename_i hl;simp only at e;have f:=keT hz;obtain ⟨κ',ln',m,t,h2,A,p,u⟩:=kfc zs Ts R f hl;split at e
   ·rename_i vs y;have i:∀ x,TVR P κ' ln' z (zeroF P q 0 s zs Ts).2.n (tev c s x) (ev env x):=λx=>by rw [<-krb (c:=c) A]; exact m.ev x
    obtain ⟨bs,k1,k2,k3⟩:=kho i b.toList _ zs t (λa C=>by obtain ⟨v,rfl,B⟩:=f a C; exact B) y;exact ⟨.ag vs,_,.ag bs,h,n,κ',ln',z,λK e=>krq hz hp k1 e,e,m,.ag vs bs k2 k3,h2,λid k=>⟨p id k,λ_=>u id k⟩,λE=>by cases E⟩
   ·exact kaa e
  ·exact kaa e
 ·exact kaa e
theorem kmJ (R:Rel P κ ln z c s env h n) {T:Yc} {len:Nat} {p:Array (Nat×Yf)} (f:klw P c s T len p.toList Kf=some r):Res P κ ln z c s env h n ⟨d,.buildSlice T len p,ty,pos,after,g⟩ Kf r:=by
 unfold klw at f;split at f
 ·rename_i e t j U u x hf hp;obtain ⟨he,hf⟩:=kiS hf;obtain ⟨hd,ak,_⟩:=kip hf;split at f
  ·rename_i zs vs hz hc;split at f
   ·rename_i Z;obtain ⟨rfl,ap,hw⟩:=Z;split at f
    ·rename_i xs rr y0 al ar;split at f
     ·rename_i y hy;obtain ⟨vj,ay,b⟩:=jaa.1 al;obtain ⟨hj,ah⟩:=kew hd ak hy;obtain ⟨asZ,ao,ab⟩:=(R.ev x).one_cells hc;obtain ⟨aj,I,F⟩:=ab.at ay;have ae:=ab.set (.sc (.slice none 0 0) rfl:TVR P κ ln z s.n (.sc (.slice none 0 0)) nilS) j;obtain ⟨a1,b1,e1,e2,e3,_⟩:=kbp R t _ _ _ _ _ hd ae ar;cases e2;rw [jbf] at e1;rw [kaP] at e3;subst e1;have E:asZ.length=t.wd:=by have:=e3.len; rw [jcq,kaf t y0 hd] at this; exact this.symm
      have aa:∀ (q:Nat) (a:AV),q≠j->asZ[q]?=some a->a.one=true:=λq a k ha=>e3.one_rev (kaH t y0 hd) a (jai (i:=q) (by rw [jbn (λe=>k e.symm)]; exact ha));have am:(t.enc y)[j]?=some (.sl (xs.map u.enc)):=by rw [ah,jby (by rw [kaf t y0 hd]; exact hj)]
      have fin:∀ (s1:TS sem) (H:Yb Nat),s1.n=s.n->Rel P κ ln z c s1 env h n->(match H with | none=>aj=nilS/\xs=[] | some q=>aj = .ms q 0 xs.length/\∃ es,h q=some (.cells u.wd U es)/\SnapE z es (xs.map u.enc)/\∀ x∈es,x.length=u.wd/\∀ a∈x,a.one=true)->
        (∀ q,H=some q->q<n/\z q=none/\∀ M X,thp c s1 M=some X->¬ Ow κ ln M X q)->Kf (.fw s.n) { s1 with hp:=(s.n,some (.fm e t j U u (lstD (A:=sem) t [y]) none))::s1.hp,n:=s.n+1 }=some r->Res P κ ln z c s env h n ⟨d,.buildSlice T 1 p,ty,pos,after,g⟩ Kf r:=λs1 H ac R1 B az f=>by
       have Y:aj.one=true:=by
        cases H with
        | none=>rw [B.1]; rfl
        | some q=>rw [B.1]; rfl
       have af:∀ a∈asZ,a.one=true:=λa ha=>by
        obtain ⟨q,k,rfl⟩:=jdl.1 ha;by_cases e:q=j
        ·subst e;rw [jaf k] at I;cases I; exact Y
        ·exact aa q _ e (jaf k)
       have hFam:FamE z h j U u.wd (t.enc y) asZ (H,xs.length):=by
        refine ⟨by rw [E,kaf t y hd],λq a a' k ha an=>?_,xs.map u.enc,am,by simp,?_⟩
        ·rw [ah,jbn (λe=>k e.symm)] at an;exact e3.at q a a' (by rw [jbn (λe=>k e.symm)]; exact ha) an
        ·cases H with
         | none=>exact ⟨by rw [I,B.1],by rw [B.2]; rfl⟩
         | some q=>exact ⟨by rw [I,B.1],B.2⟩
       have R2:=R1.famNew (T:=e) (U:=U) (t:=t) (u:=u) (j:=j) (l:=[y]) (es:=[asZ]) (rows:=[(H,xs.length)]) hd rfl rfl (λi x' e' rm hx m hr=>by
         cases i with
         | zero=>simp at hx m hr; subst hx; subst m; subst hr; exact hFam
         | succ i=>simp at hx) (λe' m=>by simp at m; subst m; exact ⟨E,af⟩) (by
         cases H with
         | none=>exact ⟨by simp,λr hr=>by simp at hr⟩
         | some q=>exact ⟨by simp,λr hr=>by simp at hr; subst hr; exact az _ rfl⟩)
       rw [ac] at R2;refine ⟨.fw s.n,_,.ms n 0 1,_,_,_,_,_,λK hK=>?_,f,R2,?_,jbp _,keJ,λhc=>by cases hc⟩
       ·simp only [aop,he,hz,hp,fillE,ao,ap,E];simp only [List.length_replicate,List.replicate_succ,List.replicate_zero,Nat.lt_add_one,and_self,if_true,List.set_cons_zero,Nat.zero_lt_one,Nat.reduceLT];exact ⟨by omega,hw,.inl hK⟩
       ·have:=TVR.fw (P:=P) (κ:=updK κ s.n (some n)) (ln:=updK ln s.n (codeR [(H,xs.length)])) (z:=z) (N:=s.n+1) s.n n (jbk _) updK_self;rw [updK_self,kbi] at this;exact this
      unfold khw at b;split at b
      ·rename_i L;split at b
       ·rename_i U' u' l' hBr;split at b
        ·rename_i hU;simp only [jac] at b;obtain ⟨aC,ax,m⟩:=b;cases m;obtain ⟨et,rfl⟩:=kaj ax;cases et;subst hU;have R0:=R.del (h':=h) hBr (λ_ _ h=>h) (λ_ _ _ h=>h);have ai:∀ M X,thp c { s with hp:=(L,none)::s.hp } M=some X->M≠L/\thp c s M=some X:=λM X C=>by
          rw [kaO] at C;split at C
          ·cases C
          ·rename_i e; exact ⟨e,C⟩
         dsimp only at f;cases R.blk _ _ (kab hBr) with
         | sl0 _ _ _ aq v aA ad=>
          subst aA;refine fin { s with hp:=(L,none)::s.hp } none rfl R0 ⟨?_,rfl⟩ (λq e=>by cases e) f;cases F with
          | mw0=>rfl
          | mw _ q _ k=>rw [v] at k; cases k
         | sl _ _ _ qr es' aq v aw S aB ad=>
          refine fin { s with hp:=(L,none)::s.hp } (some qr) rfl R0 ⟨?_,es',aw,S,λe he=>⟨S.heads ak e he,aB e he⟩⟩ (λrr e=>?_) f
          ·rw [ad];cases F with
           | mw0 _ _ k=>rw [v] at k; cases k
           | mw _ q _ k=>rw [v] at k; cases k; rfl
          ·cases e;refine ⟨R.bnd _ _ _ (kab hBr) v,R.zout _ _ _ (kab hBr) v,λM X C au=>?_⟩;obtain ⟨w1,w2⟩:=ai M X C;exact w1 (R.owI w2 (kab hBr) au (.inl v))
        ·cases b
       ·cases b
      ·rename_i w;split at b
       ·rename_i hn;cases b;dsimp only at f;refine fin s none rfl R ⟨?_,rfl⟩ (λq e=>by cases e) f;cases F;exact congrArg AV.sc (kaF hn)
       ·cases b
      ·cases b
     ·exact kaa f
    ·exact kaa f
   ·exact kaa f
  ·exact kaa f
 ·exact kaa f
theorem kjn (R:Rel P κ ln z c s env h n) {T T2:Yc} {x y:Yf} {da:Yb Nat} {b:Nat} (hu:match da with | none=>ev env x=nilS | some a=>TVR P κ ln z s.n (.fw a) (ev env x)) (hv:TVR P κ ln z s.n (.fw b) (ev env y)) (k:klP P s T T2 da b Kf=some r) :
  Res P κ ln z c s env h n ⟨d,.call ⟨.builtin .append,#[x,y],#[T,T2]⟩,ty,pos,after,g⟩ Kf r:=by
 unfold klP at k;split at k
 ·rename_i e Tb t j U u lb he hBb;replace hBb:=kbC hBb;split at k
  ·rename_i zs hz;split at k
   ·rename_i X;obtain ⟨hp,S,al,hb,rfl⟩:=X;have E:zs≠[]:=by rintro rfl; simp at S; omega
    have hBb':=kab (c:=c) hBb;obtain ⟨hd,I,b1,b2,b3,b4,b5⟩:=R.famAll hBb';have H:=R.fam b _ hBb' rfl;have Y:srcA h zs.length (ev env y)=some I:=by
     rw [S];rcases b5 with ⟨b5,b6⟩ | ⟨q,b5,b6⟩
     ·generalize ev env y=av at hv;cases hv with
      | fw0=>rw [b6]; rfl
      | fw _ q _ f=>rw [b5] at f; cases f
     ·generalize ev env y=av at hv;cases hv with
      | fw0 _ _ f=>rw [b5] at f; cases f
      | fw _ q' _ f=>
       rw [b5] at f; cases f;simp only [srcA,b6];rw [if_pos ⟨trivial,by omega⟩,jco,jaz (by omega)]
    have Rb:=R.del (h':=h) hBb (λ_ _ h=>h) (λ_ _ _ h=>h);have tb:∀ i C,thp c { s with hp:=(b,none)::s.hp } i=some C->i≠b/\thp c s i=some C:=λi C F=>by
     rw [kaO] at F;split at F
     ·cases F
     ·rename_i e; exact ⟨e,F⟩
    split at k
    ·
     simp only [jaa] at k;obtain ⟨l',hg,k⟩:=k;obtain ⟨aa,hg⟩:=keY hg;rw [show ([]:Ya t.den)++lb=lb from rfl] at hg;rw [hg] at k;have A:I.length<=1048576:=by simp at aa; omega
     by_cases L:I=[]
     ·subst L;have M:lb=[]:=jbx (by rw [<-b1]; rfl);subst M;refine ⟨.fw s.n,_,nilS,h,n,_,_,_,λK hK=>?_,k,Rb.famNew0 hd,.fw0 s.n (jbk _) updK_self,jbp _,keJ,λX=>by cases X⟩;simp only [aop,kai,hu,kbm,he,hz,Y];exact ⟨hp,E,hb,A,λ_=>hK,λh=>absurd rfl h⟩
     ·have R2:=Rb.famNew (T:=Tb) (U:=U) (u:=u) (j:=j) (es:=I) (rows:=kac (ln b)) hd b1 b2 b3 b4 ⟨H.1,λr hr=>⟨(H.2 r hr).1,(H.2 r hr).2.1,λi C F ho=>by
       obtain ⟨w1,w2⟩:=tb i C F;exact w1 (R.owI w2 hBb' ho (.inr ⟨rfl,hr⟩))⟩⟩
      refine ⟨.fw s.n,_,.ms n 0 I.length,_,_,_,_,_,λK hK=>?_,k,R2,?_,jbp _,keJ,λX=>by cases X⟩
      ·simp only [aop,kai,hu,kbm,he,hz,Y];refine ⟨hp,E,hb,A,λh=>absurd h L,λ_=>?_⟩;rw [S]; exact hK
      ·have:=TVR.fw (P:=P) (κ:=updK κ s.n (some n)) (ln:=updK ln s.n (codeR (kac (ln b)))) (z:=z) (N:=s.n+1) s.n n (jbk _) updK_self;rw [updK_self,kbi,<-b2,<-b1] at this;exact this
    ·
     rename_i a;split at k
     ·rename_i Ta ta ja Ua ua la hBa;replace hBa:=kbC hBa;split at k
      ·rename_i ai;obtain ⟨rfl,rfl,rfl,rfl,ad⟩:=ai;split at k
       ·rename_i ak aj;obtain ⟨et,rfl⟩:=kaj aj;cases et;simp only [jaa] at k;obtain ⟨l',hg,k⟩:=k;obtain ⟨aa,hg⟩:=keY hg;subst hg;have hBa':=kab (c:=c) hBa;obtain ⟨_,ea,a1,a2,a3,a4,a5⟩:=R.famAll hBa';have Z:=R.fam a _ hBa' rfl;have hBa0:alk ((b,(none:Yb (TB sem)))::s.hp) a=some (some (.fm Ta t ja Ua ua la none)):=by simp only [alk]; rw [if_neg ad]; exact hBa
        have ac:∀ i C,thp c { s with hp:=(a,none)::(b,none)::s.hp } i=some C->i≠a/\i≠b/\thp c s i=some C:=λi C F=>by
         rw [kaO (s:={ s with hp:=(b,none)::s.hp })] at F;split at F
         ·cases F
         ·rename_i e;obtain ⟨w1,w2⟩:=tb i C F;exact ⟨e,w1,w2⟩
        have ab:(((kac (ln a))++(kac (ln b))).filterMap (·.1)).Nodup/\∀ r∈((kac (ln a))++(kac (ln b))).filterMap (·.1),r<n/\z r=none/\∀ i C,thp c { s with hp:=(a,none)::(b,none)::s.hp } i=some C->¬ Ow κ ln i C r:=by
         rw [List.filterMap_append];refine ⟨List.nodup_append.2 ⟨Z.1,H.1,λr1 af r2 ae e=>?_⟩,λr hr=>?_⟩
         ·subst e;exact ad (R.owI hBa' hBb' (.inr ⟨rfl,af⟩) (.inr ⟨rfl,ae⟩))
         ·rcases jay.1 hr with hr | hr
          ·refine ⟨(Z.2 r hr).1,(Z.2 r hr).2.1,λi C F ho=>?_⟩;obtain ⟨w1,w2,w3⟩:=ac i C F;exact w1 (R.owI w3 hBa' ho (.inr ⟨rfl,hr⟩))
          ·refine ⟨(H.2 r hr).1,(H.2 r hr).2.1,λi C F ho=>?_⟩;obtain ⟨w1,w2,w3⟩:=ac i C F;exact w2 (R.owI w3 hBb' ho (.inr ⟨rfl,hr⟩))
        have all:∀ h1:AH,(∀ q B,(∀ r,r∈kan (ln a)\/r∈kan (ln b)->q=r->h q=some B->h1 q=some B))->∀ (i:Nat) (x':t.den) (e':Ya AV) (rm:Yb Nat×Nat),(la++lb)[i]?=some x'->(ea++I)[i]?=some e'->((kac (ln a))++(kac (ln b)))[i]?=some rm->FamE z h1 ja Ua ua.wd (t.enc x') e' rm:=λh1 hh i x' e' rm hx p hr=>by
         rw [jbu] at hx p hr;split at hx
         ·rename_i ah;rw [if_pos (by omega)] at p hr;exact (a3 i x' e' rm hx p hr).mono (λ_ _ h=>h) λq B f hB=>by obtain ⟨r0,m⟩:=rm; simp only at f; subst f; exact hh q B q (.inl (kav hr)) rfl hB
         ·rename_i ah;rw [if_neg (by omega)] at p hr;rw [show i-ea.length=i-la.length by omega] at p;rw [show i-(kac (ln a)).length=i-la.length by omega] at hr;exact (b3 _ x' e' rm hx p hr).mono (λ_ _ h=>h) λq B f hB=>by obtain ⟨r0,m⟩:=rm; simp only at f; subst f; exact hh q B q (.inr (kav hr)) rfl hB
        have ones:∀ e'∈ea++I,e'.length=t.wd/\∀ v∈e',v.one=true:=λe' p=>(jay.1 p).elim (a4 e') (b4 e');have tv:∀ m,m=(kac (ln a)++kac (ln b)).length->TVR P (updK κ s.n (some n)) (updK ln s.n (codeR (kac (ln a)++kac (ln b)))) z (s.n+1) (.fw s.n) (.ms n 0 m):=λm hm=>by
         have:=TVR.fw (P:=P) (κ:=updK κ s.n (some n)) (ln:=updK ln s.n (codeR (kac (ln a)++kac (ln b)))) (z:=z) (N:=s.n+1) s.n n (jbk _) updK_self;rw [updK_self,kbi,<-hm] at this;exact this
        simp only at hu;rcases a5 with ⟨a5,a6⟩ | ⟨qa,a5,a6⟩
        ·
         subst a6;have M:la=[]:=jbx (by rw [<-a1]; rfl);subst M;have hx:ev env x=nilS:=by
          generalize ev env x=av at hu;cases hu with
          | fw0=>rfl
          | fw _ q _ f=>rw [a5] at f; cases f
         have Rab:=Rb.del (h':=h) hBa0 (λ_ _ h=>h) (λ_ _ _ h=>h);have A:I.length<=1048576:=by simp at aa; omega
         by_cases L:I=[]
         ·subst L;have M:lb=[]:=jbx (by rw [<-b1]; rfl);subst M;refine ⟨.fw s.n,_,nilS,h,n,_,_,_,λK hK=>?_,k,Rab.famNew0 hd,.fw0 s.n (jbk _) updK_self,jbp _,keJ,λX=>by cases X⟩;simp only [aop,kai,hx,kbm,he,hz,Y];exact ⟨hp,E,hb,A,λ_=>hK,λh=>absurd rfl h⟩
         ·have R2:=Rab.famNew (T:=Ta) (U:=Ua) (u:=ua) (j:=ja) (l:=[]++lb) (es:=[]++I) (rows:=kac (ln a)++kac (ln b)) hd (by simpa using b1) (by simp at a2 ⊢; omega) (all h (λq B r _ _ hB=>hB)) ones ab;refine ⟨.fw s.n,_,.ms n 0 I.length,_,_,_,_,_,λK hK=>?_,k,R2,tv _ (by simp at a2 ⊢; omega),jbp _,keJ,λX=>by cases X⟩;simp only [aop,kai,hx,kbm,he,hz,Y];refine ⟨hp,E,hb,A,λh=>absurd h L,λ_=>?_⟩;rw [S]; exact hK
        ·have hx:ev env x = .ms qa 0 (kac (ln a)).length:=by
          generalize ev env x=av at hu;cases hu with
          | fw0 _ _ f=>rw [a5] at f; cases f
          | fw _ q _ f=>rw [a5] at f; cases f; rfl
         have Rab:=Rb.del (h':=delH h qa) hBa0 (λq B f=>by unfold delH at f; split at f; cases f; exact f) (λq B f hB=>by unfold delH; rw [if_neg]; exact hB; rintro rfl; exact f a5);have R2:=Rab.famNew (T:=Ta) (U:=Ua) (u:=ua) (j:=ja) (l:=la++lb) (es:=ea++I) (rows:=kac (ln a)++kac (ln b)) hd (by simp; omega) (by simp; omega) (all (delH h qa) (λq B r hr f hB=>by
          unfold delH;rw [if_neg]
          ·exact hB
          ·rintro rfl;subst f;rcases hr with hr | hr
           ·exact (Z.2 _ hr).2.2.1 a _ hBa' a5
           ·exact (H.2 _ hr).2.2.1 a _ hBa' a5)) ones ab
         refine ⟨.fw s.n,_,.ms n 0 ((kac (ln a)).length+I.length),_,_,_,_,_,λK hK=>?_,k,R2,tv _ (by simp; omega),jbp _,keJ,λX=>by cases X⟩;simp only [aop,kai,hx,kbm,he,hz,Y,a6];refine ⟨hp,E,hb,S.symm,trivial,by omega,by have:=aa; omega,?_⟩;exact hK
       ·exact kaa k
      ·exact kaa k
     ·exact kaa k
   ·exact kaa k
  ·exact kaa k
 ·exact kaa k
theorem kpp (R:Rel P κ ln z c s env h n) {T:Yc} {x:Yf} {v:TV sem} (f:TVR P κ ln z s.n v (ev env x)) (b:koH P s T v Kf=some r):Res P κ ln z c s env h n ⟨d,.range T x,ty,pos,after,g⟩ Kf r:=by
 unfold koH at b;split at b
 ·rename_i l;split at b
  ·rename_i hT;have hs:ev env x=str l:=by
    generalize ev env x=a at f;cases f with
    | c _ _ _ m hs=>exact hs.sc_inv
   have i:=R.new (h':=updH h n (.si ⟨l.toArray⟩ 0)) (n':=n+1) (.si (l,0)) (some n) 0 (λq B e=>by
    unfold updH; rw [if_neg]; ·exact e
    rintro rfl; rw [R.hn _ (jah _)] at e; cases e) (jbp _) (λq e=>by cases e; omega) (λq e=>by unfold updH; rw [if_neg (by omega)]; exact R.hn q (by omega))
    (.si (l,0) n updK_self (by simp) (by simp [updH]))
   exact ⟨.ptr s.n 0,_,.own n 0 0,_,_,_,_,_,λK hK=>by simp only [aop,kjs,hs,str]; exact ⟨kdf hT,hK⟩,b,i,.ptr s.n 0 n (jbk _) updK_self,jbp _,keJ,λk=>by cases k⟩
  ·exact kaa b
 ·exact kaa b
theorem kqz (R:Rel P κ ln z c s env h n) {x:Yf} {v:TV sem} (p:TVR P κ ln z s.n v (ev env x)) (b:nextX s v Kf=some r):Res P κ ln z c s env h n ⟨d,.next x true,ty,pos,after,g⟩ Kf r:=by
 have key:∀ (id:Nat) (l:Ya UInt8) (i:Int),TVR P κ ln z s.n (.ptr id 0) (ev env x)->alk s.hp id=some (some (TB.si (A:=sem) (l,i)))->sem.ite (decide (i<lenI l)) (Kf (.tp [.kb true,.c (.i .i64) i,.c (.i .i32) (runeV (l,i))]) { s with hp:=(id,some (.si (runeN (l,i))))::s.hp }) (Kf (.tp [.kb false]) s)=some r->
   Res P κ ln z c s env h n ⟨d,.next x true,ty,pos,after,g⟩ Kf r:=by
  intro id l i p hB b;cases R.blk _ _ (kab hB) with
  | si _ q E H m=>
   replace H:0<=i:=H;replace m:h q=some (.si ⟨l.toArray⟩ i.toNat):=m;have I:ev env x = .own q 0 0:=by
    generalize ev env x=a at p;cases p with
    | ptr _ _ M _ f=>rw [E] at f; cases f; rfl
   have k:(⟨l.toArray⟩:ByteArray).size=l.length:=by simp [ByteArray.size]
   rcases kbS b with ⟨C,b⟩ | ⟨C,b⟩
   ·have u:i.toNat<(⟨l.toArray⟩:ByteArray).size:=by
     rw [k];have:i<lenI l:=of_decide_eq_true C;unfold lenI at this;omega
    have L:=R.setO (B:=.si (runeN (l,i))) (AB:=.si ⟨l.toArray⟩ (i.toNat+(Utf8.decode ⟨l.toArray⟩ i.toNat).2)) hB (.inl E) (.si (runeN (l,i)) q E (Int.natCast_nonneg _) (by unfold updH; rw [if_pos rfl]; rfl)) (λe=>by cases e);refine ⟨_,_,.tp [.sc (.bool true),.sc (.int .i64 i),.sc (.int .i32 (Utf8.decode ⟨l.toArray⟩ i.toNat).1)],_,_,_,_,_,λK hK=>?_,b,L,?_,jah _,.refl,λF=>by cases F⟩
    ·simp only [aop,nextK,I,m];rw [if_pos u];rw [show ((i.toNat:Nat):Int)=i by omega];exact hK
    ·exact .tp _ _ (.cons _ _ _ _ (.kb true) (.cons _ _ _ _ (.c (.i .i64) i _ rfl (.free _ (.sc _))) (.cons _ _ _ _ (.c (.i .i32) (runeV (l,i)) _ rfl (.free _ (.sc _))) .nil)))
   ·have t:¬ i.toNat<(⟨l.toArray⟩:ByteArray).size:=by
     rw [k];have:¬ i<lenI l:=of_decide_eq_false C;unfold lenI at this;omega
    refine ⟨_,_,.tp [.sc (.bool false)],h,n,_,_,_,λK hK=>?_,b,R,.tp _ _ (.cons _ _ _ _ (.kb false) .nil),jah _,.refl,λF=>by cases F⟩;simp only [aop,nextK,I,m];rw [if_neg t];exact hK
 unfold nextX at b;split at b
 ·rename_i id;split at b
  ·rename_i y hB;exact key id y.1 y.2 p hB b
  ·exact kaa b
 ·exact kaa b
theorem knX (R:Rel P κ ln z c s env h n) {dst:Yb Tmp} {ty:Yc} {pos:String} {after:Array Edge} {g:Yb (Nat×Bool)} {T:Yc} {len:Nat} {b:Array (Nat×Yf)} {Kf:TV sem->sem.Ans ρ} (f:bsX P c s T len b.toList Kf=some r) :
  ∃ y v,(∀ p n1 (K:K3),K v p n1->aop P env p n1 ⟨dst,.buildSlice T len b,ty,pos,after,g⟩ K)/\Kf y=some r/\TVR P κ ln z s.n y v:=by
 unfold bsX at f;split at f
 ·exact kaa f
 ·rename_i e C;split at f
  ·rename_i t zs B hz;split at f
   ·rename_i F;obtain ⟨u,k,m⟩:=F;have x:=kcL B;split at f
    ·rename_i hl;split at f
     ·rename_i ys hp;obtain ⟨k0,xs,k1,k2,k3⟩:=kgF R x b.toList 0 len (by omega) hp;rw [kaP] at k3;have i:∀ l:Ya t.den,lstD (A:=sem) t l=l:=by
       intro l;induction l with
       | nil=>rfl
       | cons a l E=>simp only [lstD]; rw [E]
      rw [i] at f;refine ⟨_,.sl xs,λp n1 K hK=>?_,f,.c _ _ _ x (Snap.of_sl k3)⟩;simp only [aop,C,hz,m];rw [k2 (List.replicate len zs) (by simp)];simp only [jdi,jav];rw [m] at k;exact ⟨u,k,.inr (.inl hK)⟩
     ·exact kaa f
     ·exact kaa f
    ·exact kaa f
   ·exact kaa f
  ·exact kaa f
theorem kkL {T:Yc} (h:kfn P T=true):∃ kt e,mapO P T=some (kt,e)/\P.underlying kt=some .string/\isFnT P e=true/\zvO P e=some .nilFunc:=by
 unfold kfn at h;split at h
 ·rename_i k v b;simp only [jad] at h;obtain ⟨⟨f,h2⟩,a⟩:=h;refine ⟨k,v,b,kdf f,h2,?_⟩;split at a
  ·rename_i e; exact e
  ·cases a
 ·cases h
theorem ktb (a b:Ya UInt8):keyB (ks a) (ks b)=decide (a=b):=by
 have:=@kil .s rfl a b (inferInstanceAs (Decidable (a=b)));exact this
theorem ktm {l:Ya (Ya UInt8×Yb Nat)} {x:Ya UInt8} {s:TS sem}:kmGet (A:=sem) s l x Kf=Kf (fnTV ((mget l x).getD none)) s:=by
 induction l with
 | nil=>rfl
 | cons p l a=>
  obtain ⟨k,f⟩:=p;show sem.ite (x==k) _ (kmGet (A:=sem) s l x Kf)=_;simp only [mget];by_cases h:x=k
  ·subst h;rw [if_pos rfl];simp [sem]
  ·rw [if_neg h,a];simp [sem,h]
theorem koB (R:Rel P κ ln z c s env h n) {T:Yc} (hT:kfn P T=true) (b:Kf (.mp s.n) { s with hp:=(s.n,some (.km []))::s.hp,n:=s.n+1 }=some r):Res P κ ln z c s env h n ⟨d,.makeMap T none,ty,pos,after,g⟩ Kf r:=by
 have f:=R.new (h':=updH h n (.map [])) (n':=n+1) (.km []) (some n) 0 (λq B a=>by
   unfold updH; rw [if_neg]; ·exact a
   rintro rfl; rw [R.hn _ (jah _)] at a; cases a) (jbp _) (λq a=>by cases a; omega) (λq a=>by unfold updH; rw [if_neg (by omega)]; exact R.hn q (by omega))
  (.km [] n updK_self (by simp [updH,kmL]))
 exact ⟨.mp s.n,_,.mp n,_,_,_,_,_,λK b=>by simp only [aop]; exact b,b,f,.mp s.n n (jbk _) updK_self,jbp _,λid e=>⟨kao e,λ_=>kao e⟩,λi=>by cases i⟩
theorem kqB (R:Rel P κ ln z c s env h n) {T:Yc} {m:Yf} {k:ByteArray} {f:FuncId} {id:Nat} {l:Ya (Ya UInt8×Yb Nat)} (hT:kfn P T=true) (L:tev c s m = .mp id) (hB:ownB s id=some (.km l))
  (u:setB (A:=sem) s id (.km (mput l k.data.toList (some f))) Kf=some r):Res P κ ln z c s env h n ⟨d,.insert T m (.const (.string k)) (.func f),ty,pos,after,g⟩ Kf r:=by
 obtain ⟨kt,e,F,h2,Y,X⟩:=kkL hT;have hB:=kbC hB;have C:=R.ev m;rw [L] at C;generalize B:ev env m=a at C;cases R.blk _ _ (kab hB) with
 | km _ q y H=>
  cases C with
  | mp _ Z hN t=>
   rw [y] at t; cases t;have E:h q=some (.map (List.map (kvE ks fnV) l)):=H;have b:=@khb _ _ _ ks fnV ktb k.data.toList (some f) l [];refine ⟨.ud,_,.ud,updH h q (.map (kmL (mput l k.data.toList (some f)))),n,κ,ln,z,λK u=>?_,u,R.set hB y (.km _ q y (by simp only [updH,if_true])),.ud,jah _,λ_ _=>⟨rfl,λ_=>rfl⟩,λU=>by cases U⟩;have v:keyA (ev env (.const (.string k)))=some (ks k.data.toList):=rfl;have S:ev env (.func f)=fnV (some f):=rfl;simp only [aop,B,S,kdv,v,F,E];refine ⟨h2,λx I=>?_,rfl,?_⟩
   ·obtain ⟨p,_,rfl⟩:=jba.1 I; exact h2
   ·simp only [jdn,jav] at b;generalize findA (ks k.data.toList) (List.map (kvE ks fnV) l) 0=M at b ⊢;cases M with
    | none=>simp only at b ⊢; rw [b]; exact u
    | some q=>obtain ⟨i,a⟩:=q; simp only at b ⊢; rw [b]; exact u
theorem kpT (R:Rel P κ ln z c s env h n) {T:Yc} {m key:Yf} {id:Nat} {x:Ya UInt8} {l:Ya (Ya UInt8×Yb Nat)} (hT:kfn P T=true) (X:tev c s m = .mp id) (U:tev c s key = .c .s x) (hB:thp c s id=some (.km l))
  (H:kmGet (A:=sem) s l x Kf=some r):Res P κ ln z c s env h n ⟨d,.lookup T m key false,ty,pos,after,g⟩ Kf r:=by
 obtain ⟨kt,e,M,h2,h3,L⟩:=kkL hT;have B:=R.ev m;rw [X] at B;have i:=R.ev key;rw [U] at i;generalize y:ev env m=a at B;generalize u:ev env key=b at i;cases i with
 | c _ _ _ Z t=>
  obtain rfl:=t.sc_inv;cases R.blk _ _ hB with
  | km _ q I S=>
   cases B with
   | mp _ q' hN p=>
    rw [I] at p; cases p;have C:h q=some (.map (List.map (kvE ks fnV) l)):=S;rw [ktm] at H;have Y:TVR P κ ln z s.n (fnTV ((mget l x).getD none)) (fnV ((mget l x).getD none)):=by
     cases (mget l x).getD none with
     | none=>exact .sc _ rfl
     | some f=>exact .fn f [] [] .nil
    refine R.q (λK hK=>?_) Y H;simp only [aop,y,u];exact lkK (kf:=ks) (vf:=fnV) (E:=l) (k:=x) (z0:=none) (ok:=false) (F:=λv=>K v h n) rfl M L rfl ktb (λa=>h2) C hK
theorem ksn {T:Yc} (h:isFnT P T=true):∃ a b v,P.underlying T=some (.func a b v):=by
 unfold isFnT at h;split at h
 ·exact ⟨_,_,_,by assumption⟩
 ·cases h
theorem kvM {T:Yc} (hT:isFnT P T=true) {a:AV} {b:Bool} (k:(∃ f cs,a = .fn f cs/\b=false)\/(a = .sc .nilFunc/\b=true)) :
  Cmp P h .eql T a (.sc .nilFunc) (·= b)/\Cmp P h .neq T a (.sc .nilFunc) (·= !b):=by
 obtain ⟨p,q,t,hU⟩:=ksn hT;have run:∀ (w:World) (O:Nat->Prop) (μ:Mu) (n:Nat) (u:Yd),VR w O μ n a u->(Op.equal T u .nilFunc).run P w = .ok b w/\(∀ cs,u≠.agg cs)/\u≠.nilIface:=by
  intro w O μ n u e;rcases k with ⟨f,cs,rfl,rfl⟩ | ⟨rfl,rfl⟩
  ·cases e with
   | fn _ _ vs us hs y hr=>exact ⟨by rw [show Op.equal T (.func (.func f) #[] vs) .nilFunc=Op.equalIn (9999+1) T (.func (.func f) #[] vs) .nilFunc from rfl]; unfold Op.equalIn; simp only [Sem.run_bind,run_underlying hU,Result.andThen_ok]; rfl,by simp,by simp⟩
  ·have:=e.sc_inv;subst this;exact ⟨by rw [show Op.equal T .nilFunc .nilFunc=Op.equalIn (9999+1) T .nilFunc .nilFunc from rfl]; unfold Op.equalIn; simp only [Sem.run_bind,run_underlying hU,Result.andThen_ok]; rfl,by simp,by simp⟩
 constructor;all_goals
  intro w O μ n u v X Y hr e m;have:=m.sc_inv; subst this;obtain ⟨i,h2,x⟩:=run w O μ n u e;refine ⟨_,rfl,?_⟩;rcases k with ⟨f,cs,rfl,rfl⟩ | ⟨rfl,rfl⟩
  ·cases e; simp [eqGuard,binOp,i]
  ·have:=e.sc_inv; subst this; simp [eqGuard,binOp,i]
theorem kfd (R:Rel P κ ln z c s env h n) {k:BinOp} {T F:Yc} {x:Yf} {b:Bool} (hT:isFnT P T=true) {u:TV sem} (C:tev c s x=u) (E:((∃ g vs,u = .fn g vs)/\b=false)\/(u = .sc .nilFunc/\b=true)) {b':Bool} (t:(k = .eql/\b'=b)\/(k = .neq/\b' = !b))
  (B:Kf (.kb b') s=some r):Res P κ ln z c s env h n ⟨d,.binOp k T x (.const .nilFunc) F,ty,pos,after,g⟩ Kf r:=by
 have i:=R.ev x;rw [C] at i;generalize m:ev env x=a at i;have y:(∃ f cs,a = .fn f cs/\b=false)\/(a = .sc .nilFunc/\b=true):=by
  rcases E with ⟨⟨g,vs,rfl⟩,e⟩ | ⟨rfl,e⟩
  ·cases i; exact .inl ⟨_,_,rfl,e⟩
  ·cases i; exact .inr ⟨rfl,e⟩
 have A:=kvM (h:=h) hT y;refine R.q (λK hK=>?_) (.kb b') B;have:abin P h k T a (.sc .nilFunc) λv=>K v h n:=by
  rcases y with ⟨f,cs,rfl,_⟩ | ⟨rfl,_⟩
  all_goals
   rcases t with ⟨rfl,rfl⟩ | ⟨rfl,rfl⟩
   ·exact ⟨_,A.1,λb p=>by rw [p]; exact hK⟩
   ·exact ⟨_,A.2,λb p=>by rw [p]; exact hK⟩
 simp only [aop,m];exact this
theorem ksh {Δ:Ya (FuncId×Ctr)} (R:Rel P κ ln z c s env h n) (o:Oper) {a:sem.Ans ρ} (t:famX P c Δ s o Kf=some a) (C:a=some r):Res P κ ln z c s env h n o Kf r:=by
 obtain ⟨d,Y,ty,pos,after,g⟩:=o;unfold famX at t;simp only at t;split at t
 ·rename_i T x;have A:=R.ev x;split at t
  ·rename_i id i j B; rw [B] at A; cases t; exact kof R A C
  ·rename_i id i k j B; rw [B] at A; cases t; exact kog R A C
  ·cases t
 ·rename_i T p x;have hp:=R.ev p;split at t
  ·rename_i id i j B; rw [B] at hp; cases t; exact kng R hp (R.ev x) C
  ·rename_i id i k j B; rw [B] at hp; cases t; exact kmD R hp (R.ev x) C
  ·cases t
 ·rename_i T x f;have A:=R.ev x;split at t
  ·rename_i id i j B; rw [B] at A; cases t; exact koU R A C
  ·rename_i id i k j B; rw [B] at A; cases t; exact kpR R A C
  ·cases t
 ·rename_i T x i;have A:=R.ev x;split at t
  ·rename_i id B; rw [B] at A; cases t; exact kqt R A (R.ev i) C
  ·rename_i id a B; rw [B] at A; cases t; exact koM R A (R.ev i) C
  ·cases t
 ·rename_i T x y;split at t
  ·rename_i e B;split at t
   ·cases t; exact kol R B C
   ·cases t
  ·cases t
 ·rename_i l;obtain ⟨S,args,ts⟩:=l;simp only at t;split at t
  ·rename_i b;split at t
   ·rename_i x T A H;obtain rfl:=arr_of' A;obtain rfl:=arr_of' H;have A:=R.ev x;split at t
    ·rename_i id B; rw [B] at A; cases t; exact kqo R A C
    ·rename_i id a B; rw [B] at A; cases t; exact kps R A C
    ·cases t
   ·rename_i x y T U A H;obtain rfl:=arr_of' A;obtain rfl:=arr_of' H;have A:=R.ev x;split at t
    ·rename_i id a B; rw [B] at A; cases t; exact kpq R A (R.ev y) C
    ·rename_i a B; rw [B] at A;have F:=R.ev y;split at t
     ·rename_i b E; rw [E] at F; cases t; exact kjn R (da:=some a) A F C
     ·cases t
    ·rename_i u B; rw [B] at A;have F:=R.ev y;split at t
     ·rename_i b E; rw [E] at F;split at t
      ·rename_i hn;cases t;refine kjn R (da:=none) ?_ F C;generalize ev env x=a at A;cases A;exact congrArg AV.sc (kaF hn)
      ·cases t
     ·cases t
    ·cases t
   ·cases t
  ·cases t
 ·split at t
  ·cases t; exact koS R C
  ·split at t
   ·cases t; exact kpA R C
   ·cases t
 ·split at t
  ·cases t; exact kqe R C
  ·cases t
 ·split at t
  ·cases t; exact kmJ R C
  ·split at t
   ·cases t;obtain ⟨X,v,k1,k2,k3⟩:=knX (dst:=d) (ty:=ty) (pos:=pos) (after:=after) (g:=g) R C;exact R.q (λK hK=>k1 _ _ K hK) k3 k2
   ·cases t
 ·rename_i x;split at t
  ·rename_i u B;split at t
   ·rename_i hn;rw [jad] at hn;cases t;refine kpB R ?_ C;have A:=R.ev x;rw [B] at A;generalize ev env x=a at A;cases A;exact congrArg AV.sc (kaF hn.1)
   ·cases t
  ·cases t
 ·rename_i T;split at t
  ·cases t; exact koB R (by assumption) C
  ·cases t
 ·rename_i T m k f;split at t
  ·rename_i id I;split at t
   ·rename_i l hB;split at t
    ·cases t; exact kqB R (by assumption) I hB C
    ·cases t
   ·cases t
  ·cases t
 ·rename_i T m k;split at t
  ·rename_i id x I A;split at t
   ·rename_i l hB;split at t
    ·cases t; exact kpT R (by assumption) I A hB C
    ·cases t
   ·cases t
  ·cases t
 ·rename_i L T x U;split at t
  ·rename_i hT;split at t
   ·rename_i M vs A; cases t; exact kfd R hT A (.inl ⟨⟨_,_,rfl⟩,rfl⟩) (.inl ⟨rfl,rfl⟩) C
   ·rename_i M vs A; cases t; exact kfd R hT A (.inl ⟨⟨_,_,rfl⟩,rfl⟩) (.inr ⟨rfl,rfl⟩) C
   ·rename_i A; cases t; exact kfd R hT A (.inr ⟨rfl,rfl⟩) (.inl ⟨rfl,rfl⟩) C
   ·rename_i A; cases t; exact kfd R hT A (.inr ⟨rfl,rfl⟩) (.inr ⟨rfl,rfl⟩) C
   ·cases t
  ·cases t
 ·cases t
end
section
variable {P:Ye} {κ κ':Nat->Yb Nat} {ln ln':Nat->Nat} {z z':AH} {c:Cx sem} {s:TS sem} {env:Env} {h h':AH} {n n' N N':Nat}
variable {ρ:Ty} {Kf:TV sem->TS sem->sem.Ans ρ} {r:ρ.den}
theorem kdM {α:Type} {a:Array α} {l:Ya α} (h:a.toList=l):a=l.toArray:=by rw [<-h]
theorem khe {Δ:Ya (FuncId×Ctr)} {args:Ya (TV sem)} {M:CtrM}:∀ {l:Ya CtrM},pickM c Δ s args l=some M->M∈l
 | [],h=>by cases h
 | C::l,h=>by
  unfold pickM at h;split at h
  ·cases h; exact jdz ..
  ·exact jbm _ (khe h)
theorem kmp {Δ:Ya (FuncId×Ctr)}:∀ {ts:Ya Ty} {vs:Ya (TV sem)} {l:Ya ((t:Ty)×t.den)} {ids:Ya Nat},kcg (A:=sem) c Δ s ts vs=some (l,ids)->l.length=ts.length
 | [],[],l,ids,hs=>by cases hs; rfl
 | [],_::_,l,ids,hs=>by simp [kcg] at hs
 | _::_,[],l,ids,hs=>by simp [kcg] at hs
 | t::ts,v::vs,l,ids,hs=>by
  simp only [kcg,jaa,jac] at hs;obtain ⟨⟨x,b⟩,e,⟨l',i2⟩,hl,a⟩:=hs;cases a;simp [kmp hl]
theorem kvp {s s':TS sem} {A:Ya (Nat×Yb (TB sem))} (h:s'.hp=A++s.hp):chgd s s'=A.map (·.1):=by
 unfold chgd;rw [h,jax,Nat.add_sub_cancel,List.take_left]
theorem ksq {C:CtrM} {u:TS sem} {ids:Ya (Nat×Nat)} {x:Nat×Nat} (a:x∈ids):x.2∈chgd s (kdD C s u ids):=by
 rw [kvp (s':=kdD C s u ids) rfl,jcr];exact List.mem_append_right _ (jba.2 ⟨(x.2,none),jba.2 ⟨x,a,rfl⟩,rfl⟩)
theorem kgH {Δ:Ya (FuncId×Ctr)} (Z:Goods P Δ) {g:FuncId} {C:CtrM} (E:C.ok=true) (hG:GoodM P g C) (R:Rel P κ ln z c s env h n) {args:Ya (TV sem)} {asZ:Ya AV} (i:TVRs P κ ln z s.n args asZ) (b:kgE c Δ s C args Kf=some r) {K:K3}
  (hK:∀ F s' v h' n' κ' ln',Kf F s'=some r->Ke c s.n κ ln κ' ln'->s.n<=s'.n->Rel P κ' ln' ahN c s' env h' n'->TVR P κ' ln' ahN s'.n F v->(∀ q,q<n->h' q=h q\/∃ id∈chgd s s',(∃ B,thp c s id=some B)/\q∈ows κ ln c s id)->K v h' n'):HC P g asZ h n K:=by
 unfold kgE at b;split at b
 ·exact kaa b
 ·rename_i f;simp only [jbe,jak,jbr,not_or,jcv,Bool.not_eq_false,ne_eq,Decidable.not_not] at f;obtain ⟨⟨k,p⟩,_⟩:=f;split at b
  ·rename_i l hl;split at b
   ·rename_i m X;split at b
    ·rename_i e;rw [jad,jad] at e;split at b
     ·rename_i a Y;obtain ⟨y,S,b⟩:=jaa.1 b;dsimp only at b;split at b
      ·rename_i A;rw [jad] at A;have t:=R.dy p;obtain ⟨bs,g1,I,g3⟩:=kdm Z R _ _ _ (kmv C.ks i) hl;subst t;refine ksg hG E R p i k (kmp hl) g1 I g3 X (by simpa [jcw] using e.1.1) e.1.2 e.2 Y S A.1 A.2 λv h' n' κ' ln' H M h2 T=>hK _ _ v h' n' κ' ln' b H (Nat.le_add_right _ _) M h2 λq L=>(T q L).imp id λ⟨x,U,u⟩=>⟨x.2,ksq U,u⟩
      ·exact kaa b
     ·exact kaa b
    ·exact kaa b
   ·exact kaa b
  ·exact kaa b
theorem kdo {Δ:Ya (FuncId×Ctr)} (S:Goods P Δ) (R:Rel P κ ln z c s env h n) (o:Oper) (e:xop P c Δ s o Kf=some r):Res P κ ln z c s env h n o Kf r:=by
 unfold xop at e;split at e
 ·rename_i a B;exact ksh R o B e
 rename_i E;clear E;obtain ⟨d,Y,ty,pos,after,g⟩:=o;simp only at e;split at e
 ·rename_i x; exact kkB (o:=⟨d,.move x,ty,pos,after,g⟩) rfl R (R.ev x) (λK e=>by simp only [aop]; exact e) e
 ·rename_i x; exact kkB (o:=⟨d,.assign x,ty,pos,after,g⟩) rfl R (R.ev x) (λK e=>by simp only [aop]; exact e) e
 ·rename_i x a b;have p:=R.ev x;split at e
  ·rename_i t C;rw [C] at p;generalize k:ev env x=av at p;cases p;cases t
   ·exact R.q (λK e=>by simp only [aop,k]; exact e) (R.ev b) e
   ·exact R.q (λK e=>by simp only [aop,k]; exact e) (R.ev a) e
  ·rename_i y C;rw [C] at p;have k:=p.b_inv;rcases kbS e with ⟨A,e⟩ | ⟨A,e⟩
   ·rw [A] at k; exact R.q (λK e=>by simp only [aop,k]; exact e) (R.ev a) e
   ·rw [A] at k; exact R.q (λK e=>by simp only [aop,k]; exact e) (R.ev b) e
  ·exact kaa e
 ·exact koJ R e
 ·exact ksl R (R.ev _) e
 ·exact kqJ R (R.ev _) e
 ·exact koY R (R.ev _) (R.ev _) e
 ·exact ksp R (R.ev _) e
 ·exact krU R (R.ev _) (R.ev _) e
 ·exact ktg R (R.ev _) e
 ·exact kqx R (R.ev _) e
 ·rename_i f first u
  split at e
  ·rename_i I;have B:first = #[]:=by simpa [Array.isEmpty_iff] using I
   refine R.q (λK e=>by simp only [aop]; exact ⟨B,e⟩) (.fn f _ (u.toList.map (ev env)) ?_) e;generalize u.toList=l;induction l with
   | nil=>exact .nil
   | cons x l U=>exact .cons _ _ _ _ (R.ev x) U
  ·exact kaa e
 ·exact klo R e
 ·exact kpM R (R.ev _) e
 ·exact kkY R (R.ev _) e
 ·exact kpC R (R.ev _) e
 ·exact knf R (R.ev _) (R.ev _) e
 ·exact kse R (R.ev _) (R.ev _) e
 ·rename_i x i;have p:=R.ev x;split at e
  ·rename_i vs C;rw [C] at p;generalize k:ev env x=av at p;cases p with
   | tp _ asZ H=>
    split at e
    ·rename_i v L;obtain ⟨a,M,F⟩:=H.at L;exact R.q (λK e=>s_ext k M e) F e
    ·exact kaa e
  ·exact kaa e
 ·exact kow R e
 ·exact kkl R e
 ·exact kmG R e
 ·exact kom R (R.ev _) (R.ev _) e
 ·exact koo R (R.ev _) (R.ev _) (R.ev _) e
 ·exact kop R (R.ev _) (R.ev _) e
 ·exact kqr R (R.ev _) (R.ev _) (R.ev _) e
 ·exact kpp R (R.ev _) e
 ·exact kqz R (R.ev _) e
 ·exact absurd (show (none:Yb ρ.den)=some r from e) (by simp)
 ·rename_i l;obtain ⟨callee,args,ts⟩:=l;split at e
  ·rename_i b A;simp only at A;subst A;split at e
   ·rename_i x T m h2;obtain rfl:=kdM m;obtain rfl:=kdM h2;exact ksr R (R.ev _) e
   ·rename_i x y T X m h2;obtain rfl:=kdM m;obtain rfl:=kdM h2;exact ksm R (R.ev _) (R.ev _) e
   ·rename_i x y T X m h2;obtain rfl:=kdM m;obtain rfl:=kdM h2;exact kqY R (R.ev _) (R.ev _) e
   ·rename_i x y m;obtain rfl:=kdM m;exact knV (mx:=false) R (R.ev _) (R.ev _) e
   ·rename_i x y m;obtain rfl:=kdM m;exact knV (mx:=true) R (R.ev _) (R.ev _) e
   ·rename_i x y q m;obtain rfl:=kdM m;exact kme (mx:=false) R (R.ev _) (R.ev _) (R.ev _) e
   ·rename_i x y q m;obtain rfl:=kdM m;exact kme (mx:=true) R (R.ev _) (R.ev _) (R.ev _) e
   ·exact kaa e
  ·rename_i f B;exact kqy S R B e
  ·exact kaa e
 ·exact kaa e
theorem koA {p:Pat} {i:Nat} (R:Rel P κ ln z c s env h n) {v:TV sem} {a:AV} (f:TVR P κ ln z s.n v a) :
  ∃ κ' ln',Rel P κ' ln' z c (khA (A:=sem) p i v s).2 env h n/\TVR P κ' ln' z (khA (A:=sem) p i v s).2.n (khA (A:=sem) p i v s).1 a/\(∀ id,id<s.n->κ' id = κ id/\ln' id=ln id)/\s.n<=(khA (A:=sem) p i v s).2.n:=by
 have same:∃ κ' ln',Rel P κ' ln' z c s env h n/\TVR P κ' ln' z s.n v a/\(∀ id,id<s.n->κ' id = κ id/\ln' id=ln id)/\s.n<=s.n:=⟨κ,ln,R,f,λ_ _=>⟨rfl,rfl⟩,jah _⟩;unfold khA;split
 ·rename_i u q b;split
  ·rename_i T t y;split
   ·rename_i k;simp only [jad] at k;obtain ⟨hn,m⟩:=k;obtain rfl:=kaF hn;cases f;have x:=R.new (h':=h) (n':=n) (.sl T t []) none 0 (λq B b=>b) (jah _) (λq b=>by cases b) R.hn (.sl0 T t [] m updK_self rfl updK_self);exact ⟨_,_,x,.mw0 s.n (jbk _) updK_self,λid e=>⟨kao e,kao e⟩,jbp _⟩
   ·exact same
  ·exact same
 ·exact same
theorem kiG {p:Pat}:∀ {vs:Ya (TV sem)} {asZ:Ya AV} {i:Nat} {κ:Nat->Yb Nat} {ln:Nat->Nat} {s:TS sem},Rel P κ ln z c s env h n->TVRs P κ ln z s.n vs asZ->
  ∃ κ' ln',Rel P κ' ln' z c (kgb (A:=sem) p vs i s).2 env h n/\TVRs P κ' ln' z (kgb (A:=sem) p vs i s).2.n (kgb (A:=sem) p vs i s).1 asZ/\(∀ id,id<s.n->κ' id = κ id/\ln' id=ln id)/\s.n<=(kgb (A:=sem) p vs i s).2.n
 | [],_,i,κ,ln,s,R,.nil=>⟨κ,ln,R,.nil,λ_ _=>⟨rfl,rfl⟩,jah _⟩
 | v::vs,_,i,κ,ln,s,R,.cons _ a _ asZ hv hs=>by
  obtain ⟨B,y,R1,e,k1,n1⟩:=koA (p:=p) (i:=i) R hv;have f:=hs.mono (λid b=>(k1 id b).1) (λid b=>(k1 id b).2) (λ_ _ h=>h) n1;obtain ⟨x,m,u,k,k2,t⟩:=kiG (p:=p) (i:=i+1) R1 f;exact ⟨x,m,u,.cons _ _ _ _ (e.mono (λid b=>(k2 id b).1) (λid b=>(k2 id b).2) (λ_ _ h=>h) t) k,λid b=>⟨((k2 id (by omega)).1).trans (k1 id b).1,((k2 id (by omega)).2).trans (k1 id b).2⟩,jcl n1 t⟩
def nilB (a:Bool) (e:Yb Bool) (b:Bool):Prop:=
 match e with
 | some e=>e=false->b=a
 | none=>b = !a
theorem kuO {P:Ye} {h:AH} {i:BinOp} {T:Yc} {a:AV} {e:Yb Bool} (hT:(elemO P T).isSome=true) (v:i = .eql\/i = .neq) (F:AV->Prop)
  (y:∀ (w:World) (O:Nat->Prop) (μ:Mu) (n:Nat) (u:Yd),HR w O μ h n->VR w O μ n a u->∃ p l c,u = .slice p l c/\nilB false e p.isNone)
  (hF:∀ b,nilB (i == .neq) e b->F (.sc (.bool b))) (A:∀ k x,a≠.sc (.int k x)) (hs:∀ x,a≠.sc (.string x)) (f:∀ x,a≠.sc (.bool x)):abin P h i T a (.sc (.slice none 0 0)) F:=by
 obtain ⟨E,hE⟩:=jan.1 hT;have hU:=kbD hE;have t:=kur (S:=nilB false e) hU y;have:∃ S,Cmp P h i T a (.sc (.slice none 0 0)) S/\∀ b,S b->F (.sc (.bool b)):=by
  rcases v with rfl | rfl
  ·exact ⟨_,t.1,λb f=>hF b f⟩
  ·refine ⟨_,t.2,λb f=>hF b ?_⟩;cases e <;> simp [nilB] at f ⊢
   ·exact f
   ·intro m; have:=f m; cases b <;> simp at this ⊢
 unfold abin;split
 ·rename_i m h2; cases h2
 ·rename_i m h2; cases h2
 ·rename_i m h2; cases h2
 ·exact this
theorem kiB (R:Rel P κ ln z c s env h n) {o:Oper} {Z:Bool} {e:Yb Bool} (hn:nilC (A:=sem) P c s o=some (Z,e)) {K:K3} (hK:∀ b,nilB Z e b->K (.sc (.bool b)) h n):aop P env h n o K:=by
 obtain ⟨d,op,ty,pos,after,g⟩:=o;unfold nilC at hn;split at hn
 ·rename_i L T x v T2 I;simp only at I; subst I;split at hn
  ·rename_i f;simp only [jad,jbe,beq_iff_eq] at f;obtain ⟨⟨E,hT⟩,H⟩:=f;have E:=kaF E;subst E;have F:=R.ev x;have ms:∀ {q off len:Nat} {k:Nat} {T':Yc} {es:Ya (Ya AV)} {e:Yb Bool},(e≠none)->h q=some (.cells k T' es)->∀ (w:World) (O:Nat->Prop) (μ:Mu) (n:Nat) (u:Yd),HR w O μ h n->VR w O μ n (.ms q off len) u->∃ p l c,u = .slice p l c/\nilB false e p.isNone:=by
    intro q off len k T' es e M i w O μ n u hr y;obtain ⟨b,cc,m,h2,X⟩:=hr.own_cells i;cases y with
    | ms _ _ _ _ aa ac E=>
     obtain ⟨o,cap,c,T,rfl,_⟩:=E b k m;refine ⟨_,_,_,rfl,?_⟩;cases e with
     | none=>exact absurd rfl M
     | some e=>intro _; rfl
   have Y:∀ {e:Yb Bool},(e=none\/e=some true)->∀ (w:World) (O:Nat->Prop) (μ:Mu) (n:Nat) (u:Yd),HR w O μ h n->VR w O μ n Abs.nilS u->∃ p l c,u = .slice p l c/\nilB false e p.isNone:=by
    intro e M w O μ n u hr y;refine ⟨none,0,0,y.sc_inv,?_⟩;rcases M with rfl | rfl
    ·rfl
    ·intro h; cases h
   have fin:∀ {a:AV} {e:Yb Bool},ev env x=a->(∀ b,nilB (L == .neq) e b->K (.sc (.bool b)) h n)->(∀ (w:World) (O:Nat->Prop) (μ:Mu) (n:Nat) (u:Yd),HR w O μ h n->VR w O μ n a u->∃ p l c,u = .slice p l c/\nilB false e p.isNone)->(∀ k x,a≠.sc (.int k x))->(∀ x,a≠.sc (.string x))->(∀ x,a≠.sc (.bool x))->
     aop P env h n ⟨d,.binOp L T x (.const (.slice none 0 0)) T2,ty,pos,after,g⟩ K:=by
    intro a e C hK E m h2 X;simp only [aop,C];exact kuO hT H _ E hK m h2 X
   generalize ab:tev c s x=tv at hn F;split at hn
   ·rename_i t l;cases hn;cases F with
    | c _ _ a S hs=>
     replace hs:Snap z _ (.sl (l.map t.enc)):=hs;rcases hs.sl_inv with ⟨es,C,m⟩ | ⟨C,m⟩ | ⟨id,off,len,k,T',es,C,m,h2,X⟩
     ·refine fin C hK (λw O μ n u hr y=>?_) (by intros; simp) (by intros; simp) (by intros; simp);obtain ⟨p,l',c',rfl,hp⟩:=kwc y;refine ⟨_,_,_,rfl,λhl=>hp ?_⟩;have:=m.1;rw [jbb] at this;intro M; subst M;have:l=[]:=jbx (by simpa using this);subst this; simp [isE] at hl
     ·simp only [jdr] at m; subst m;exact fin C hK (Y (.inr rfl)) (by intros; simp [Abs.nilS]) (by intros; simp [Abs.nilS]) (by intros; simp [Abs.nilS])
     ·exact fin C hK (ms (by simp) (R.zin _ _ m)) (by intros; simp) (by intros; simp) (by intros; simp)
   ·rename_i id;split at hn
    ·rename_i T' t l hb;cases hn;have hB:=R.blk _ _ hb;generalize B:ev env x=a at F;cases F with
     | mw0 _ hN U=>
      cases hB with
      | sl0 _ _ _ S i hl hn=>subst hl; exact fin B hK (Y (.inr rfl)) (by intros; simp [Abs.nilS]) (by intros; simp [Abs.nilS]) (by intros; simp [Abs.nilS])
      | sl _ _ _ q es S i=>rw [U] at i; cases i
     | mw _ q hN U=>
      cases hB with
      | sl0 _ _ _ S i hl hn=>rw [U] at i; cases i
      | sl _ _ _ q' es S i hh=>rw [U] at i; cases i; exact fin B hK (ms (by simp) hh) (by intros; simp) (by intros; simp) (by intros; simp)
    ·cases hn
   ·rename_i u;split at hn
    ·rename_i y;cases hn;have y:=kaF y;subst y;generalize B:ev env x=a at F;cases F with
     | sc _ m=>exact fin B hK (Y (.inl rfl)) (by intros; simp) (by intros; simp) (by intros; simp)
    ·cases hn
   ·cases hn
  ·cases hn
 ·cases hn
theorem knz:∀ {l:Ya (sem.Ans ρ)},altL (A:=sem) l=some r->∃ x∈l,x=some r
 | [],h=>by cases h
 | [x],h=>⟨x,by simp,h⟩
 | x::y::l,h=>by
  rcases kth h with h | h
  ·exact ⟨x,by simp,h⟩
  ·obtain ⟨z,hz,e⟩:=knz h;exact ⟨z,by simp only [jbi] at hz ⊢; exact .inr hz,e⟩
theorem ksv {Δ:Ya (FuncId×Ctr)} (L:Goods P Δ) (R:Rel P κ ln z c s env h n) (o:Oper) (k:xopM P c Δ s o Kf=some r) {K:K3}
  (hK:∀ B s' v h' n' κ' ln' z',Kf B s'=some r->Ke c s.n κ ln κ' ln'->s.n<=s'.n->Rel P κ' ln' z' c s' env h' n'->TVR P κ' ln' z' s'.n B v->K v h' n'):aop P env h n o K:=by
 unfold xopM at k;split at k
 ·rename_i M args a;obtain ⟨d,op,ty,pos,after,g⟩:=o;unfold useM at a;simp only at a;split at a
  ·rename_i l;split at a
   ·rename_i f T;split at a
    ·rename_i gg E A;split at a
     ·rename_i C hC;obtain ⟨M',hM,y⟩:=jac.1 a;cases y;have m:TVRs P κ ln z s.n (l.args.toList.map (tev c s)) (l.args.toList.map (ev env)):=by
       generalize l.args.toList=xs;induction xs with
       | nil=>exact .nil
       | cons x xs Y=>exact .cons _ _ _ _ (R.ev x) Y
      have u:=R.ev f;rw [A] at u;obtain ⟨asZ,F,t⟩:=u.fn_inv;have one:∀ M∈C.mus,kgE c Δ s M (l.args.toList.map (tev c s)++E) Kf=some r->aop P env h n ⟨d,.call l,ty,pos,after,g⟩ K:=λM hM k=>by
       have hG:=(L.at hC).2.2.1 M hM;exact kdS T F rfl (kgH L hG.1 hG.2 R (m.append t) k λB s' v h' n' κ' ln' h1 h2 X h4 Z _=>hK B s' v h' n' κ' ln' ahN h1 h2 X h4 Z)
      split at k
      ·exact one M (khe hM) k
      ·obtain ⟨x,hx,e⟩:=knz k;obtain ⟨M2,hM2,rfl⟩:=jba.1 hx;unfold altsM at hM2;simp only [T,A,hC] at hM2;exact one M2 (jdy.1 hM2).1 e
     ·cases a
    ·cases a
   ·cases a
  ·cases a
 ·rename_i H;clear H;split at k
  ·rename_i M args s1 a;obtain ⟨d,op,ty,pos,after,g⟩:=o;unfold useN at a;simp only at a;split at a
   ·rename_i l;split at a
    ·rename_i f T;split at a
     ·rename_i gg E A;split at a
      ·rename_i C hC;obtain ⟨M0,hM0,y⟩:=List.exists_of_findSome?_eq_some a;obtain ⟨M',hM,y⟩:=jac.1 y;have I:M'=M0:=by simpa using khe hM
       rw [I] at y;cases y;have hG:=(L.at hC).2.2.1 M hM0;have m:TVRs P κ ln z s.n (l.args.toList.map (tev c s)) (l.args.toList.map (ev env)):=by
        generalize l.args.toList=xs;induction xs with
        | nil=>exact .nil
        | cons x xs Y=>exact .cons _ _ _ _ (R.ev x) Y
       have u:=R.ev f;rw [A] at u;obtain ⟨asZ,F,t⟩:=u.fn_inv;obtain ⟨κ1,aa,R1,U,k1,n1⟩:=kiG (p:=M.inp) (i:=0) R (m.append t);have ab:Ke c s.n κ ln κ1 aa:=λid hi=>⟨(k1 id hi).1,λ_=>(k1 id hi).2⟩;exact kdS T F rfl (kgH L hG.1 hG.2 R1 U k λB s' v h' n' κ' ln' h1 h2 X h4 Z _=>hK B s' v h' n' κ' ln' ahN h1 (ab.trans h2 n1) (jcl n1 X) h4 Z)
      ·cases a
     ·cases a
    ·cases a
   ·cases a
  ·split at k
   ·rename_i ne e hn;rcases kbS k with ⟨y,k⟩ | ⟨y,k⟩
    ·obtain ⟨k1,k2⟩:=kny k;refine kiB R hn λb S=>?_;cases b
     ·exact hK _ s _ h n κ ln z k2 .refl (jah _) R (.kb false)
     ·exact hK _ s _ h n κ ln z k1 .refl (jah _) R (.kb true)
    ·refine kiB R hn λb S=>?_;obtain rfl:=S (by simpa using y);exact hK _ s _ h n κ ln z k .refl (jah _) R (.kb _)
   ·rename_i ne hn;refine kiB R hn λb S=>?_;subst S;exact hK _ s _ h n κ ln z k .refl (jah _) R (.kb _)
   ·obtain ⟨B,s',v,h',n',κ',ln',z',g1,g2,g3,g4,g6,g7,_⟩:=kdo L R o k;exact g1 _ (hK B s' v h' n' κ' ln' z' g2 g7 g6 g3 g4)
theorem Rel.putT (R:Rel P κ ln z c s env h n) {v:TV sem} {a:AV} (m:TVR P κ ln z s.n v a) (d:Yb Tmp) (i:∀ x,d=some x->alk c.e0 x=none):Rel P κ ln z c (Abs.putT s d v) (putE env d a) h n:=by
 cases d with
 | none=>exact R
 | some d=>
  refine ⟨λx=>?_,R.blk,R.lt,R.inj,R.zin,R.zout,R.bnd,R.hn,λx k f=>?_,R.g,R.dy,R.zk,R.fam⟩
  ·show TVR P κ ln z s.n (tlk c { s with env:=(d,v)::s.env } x) (if x=d then a else lk env x);unfold tlk;simp only [alk];by_cases b:x=d
   ·rw [if_pos b,if_pos b]; exact m
   ·rw [if_neg b,if_neg b]; exact R.env x
  ·simp only [Abs.putT,alk] at f;split at f
   ·rename_i e; subst e; exact i _ rfl
   ·exact R.e0 x k f
theorem koE {e:Ya (Yb Tmp)} (h:okD c e=true) {j:Nat} {x:Tmp} (a:kba e j=some x):alk c.e0 x=none:=by
 unfold kba at a;cases b:e[j]? with
 | none=>rw [b] at a; cases a
 | some d=>
  rw [b] at a;simp only [jab,id] at a;subst a;have:=jap.1 h _ (jai b);simpa using this
theorem kro {a:Ya (Yb Tmp)} (h:okD c a=true) {d:Yb Tmp} (b:d∈a):∀ x,d=some x->alk c.e0 x=none:=λx e=>by
 subst e;have:=jap.1 h _ b;simpa using this
theorem Rel.again {a:Env} (R:Rel P κ ln z c s env h n) (b:∀ x,lk a x=lk env x):Rel P κ ln z c s a h n:=
 ⟨λx=>by rw [b]; exact R.env x,R.blk,R.lt,R.inj,R.zin,R.zout,R.bnd,R.hn,R.e0,R.g,R.dy,R.zk,R.fam⟩
theorem Rel.know (R:Rel P κ ln z c s env h n) {d:Tmp} {v:TV sem} {a:AV} (e:TVR P κ ln z s.n v a) (b:alk c.e0 d=none):Rel P κ ln z c { s with env:=(d,v)::s.env } ((d,a)::env) h n:=
 R.putT e (some d) λx f=>by cases f; exact b
theorem kce {d:Yb Tmp} {v:TV sem}:(Abs.putT s d v).n=s.n:=by cases d <;> rfl
theorem kbT {Δ:Ya (FuncId×Ctr)} (C:Goods P Δ) {A:Ya (Yb Tmp)} (i:okD c A=true) {Kf:TS sem->sem.Ans ρ} {K:St->Prop} {F:Nat} {κ0:Nat->Yb Nat} {B:Nat->Nat} (hK:∀ κ ln z s' y h' n',Ke c F κ0 B κ ln->Rel P κ ln z c s' y h' n'->Kf s'=some r->K ⟨y,h',n'⟩) :
  ∀ (l:Ya Oper) {κ:Nat->Yb Nat} {ln:Nat->Nat} {z:AH} {s:TS sem} {env:Env} {h:AH} {n:Nat},Ke c F κ0 B κ ln->F<=s.n->(∀ o∈l,o.dst∈A)->Rel P κ ln z c s env h n->xops P c Δ A l s Kf=some r->aops P A l ⟨env,h,n⟩ K
 | [],κ,ln,z,s,env,h,n,ke,kn,_,R,f=>hK _ _ _ _ _ _ _ ke R f
 | o::l,κ,ln,z,s,env,h,n,ke,kn,hl,R,f=>by
  have p:∀ o∈l,o.dst∈A:=λo ho=>hl o (jbm _ ho);have u:=kro i (hl o (jdz ..));have one:∀ {κ:Nat->Yb Nat} {ln:Nat->Nat} {z:AH} {s:TS sem} {env:Env} {h:AH} {n:Nat},Ke c F κ0 B κ ln->F<=s.n->Rel P κ ln z c s env h n->(xopM P c Δ s o λv s'=>xops P c Δ A l (putT s' o.dst v) Kf)=some r->aop P env h n o λv h n=>aops P A l ⟨putE env o.dst v,h,n⟩ K:=λ{κ ln z s env h n} ke kn R f=>by
   exact ksv C R o f λX s' v h' n' κ' ln' z' Y T g7 g3 g4=>kbT C i hK l (ke.trans T kn) (by rw [kce]; omega) p (g3.putT g4 o.dst u) Y
  simp only [xops] at f;simp only [aops];cases S:o.guard with
  | none=>
   rw [S] at f;exact one ke kn R f
  | some Z=>
   obtain ⟨j,E⟩:=Z;rw [S] at f;simp only at f ⊢;cases hs:kba A j with
   | none=>rw [hs] at f; exact kaa f
   | some d=>
    rw [hs] at f;simp only at f ⊢;have H:=koE i hs;have M:=R.env d;generalize U:tlk c s d=X at M f;generalize L:lk env d=a at M;cases M <;> first | exact kaa f | skip
    ·
     exact kbT C i hK l ke (by rw [kce]; exact kn) p (R.putT .ud o.dst u) f
    ·
     rename_i t x hd I;cases t <;> first | exact kaa f | skip
     obtain rfl:=I.sc_inv;have k1:∀ w:Bool,x=w->Rel P κ ln z c { s with env:=(d,.kb w)::s.env } ((d,.sc (.bool w))::env) h n:=λw hw=>R.know (.kb w) H;dsimp only at f;cases E
     ·dsimp only at f;rcases kbS f with ⟨m,f⟩ | ⟨m,f⟩
      ·refine ⟨λe=>?_,λ_=>?_⟩
       ·exact absurd (m.symm.trans e) (by decide)
       ·exact kbT C i hK l ke (by rw [kce]; exact kn) p ((k1 true m).putT .ud o.dst u) f
      ·refine ⟨λ_=>?_,λe=>?_⟩
       ·exact one ke (by exact kn) (k1 false m) f
       ·exact absurd (m.symm.trans e) (by decide)
     ·dsimp only at f;rcases kbS f with ⟨m,f⟩ | ⟨m,f⟩
      ·refine ⟨λ_=>?_,λe=>?_⟩
       ·exact one ke (by exact kn) (k1 true m) f
       ·exact absurd (m.symm.trans e) (by decide)
      ·refine ⟨λe=>?_,λ_=>?_⟩
       ·exact absurd (m.symm.trans e) (by decide)
       ·exact kbT C i hK l ke (by rw [kce]; exact kn) p ((k1 false m).putT .ud o.dst u) f
    ·
     rename_i b;dsimp only at f;have ag:Rel P κ ln z c s ((d,.sc (.bool b))::env) h n:=R.again λx=>by
      show (if x=d then _ else lk env x)=_;split
      ·rename_i e; rw [e,L]
      ·rfl
     split at f
     ·rename_i k;have k:=eq_of_beq k;subst k;refine ⟨λ_=>one ke (by exact kn) ag f,λe=>?_⟩;cases b <;> cases e
     ·rename_i k;refine ⟨λe=>by rw [e] at k; simp at k,λe=>?_⟩;rw [<-e];exact kbT C i hK l ke (by rw [kce]; exact kn) p (ag.putT .ud o.dst u) f
end
section
variable {P:Ye} {κ κ' κ0:Nat->Yb Nat} {ln ln':Nat->Nat} {z z':AH} {c:Cx sem} {s:TS sem} {env:Env} {h h' hs:AH} {n n':Nat}
variable {ρ:Ty} {r:ρ.den} {o:Oper} {wc:Ya Nat} {rd:Ya (Nat×Nat)} {b1 b2:Ya Nat} {tr:Ya Rec} {j:Nat} {next:St->Ya Rec->Prop}
theorem kik (a:cls o=1\/cls o=2):calm o=true:=by
 obtain ⟨dst,e,ty,pos,after,g⟩:=o;cases e <;> simp only [cls] at a <;> try (first | rfl | (exfalso; rcases a with h | h <;> cases h; done))
 case call l=>
  obtain ⟨callee,args,ts⟩:=l;cases callee with
  | builtin b=>cases b <;> first | rfl | (exfalso; rcases a with h | h <;> cases h)
  | value _=>exfalso; rcases a with h | h <;> cases h
  | invoke _ _=>exfalso; rcases a with h | h <;> cases h
theorem kgJ {Δ:Ya (FuncId×Ctr)} (hΔ:Goods P Δ) (R:Rel P κ ln z c s env h n) {dst:Yb Tmp} {ty:Yc} {pos:String} {after:Array Edge} {g:Yb (Nat×Bool)} {l:Call} {f:Yf} (hc:l.callee = .value f) {Kf:TV sem->sem.Ans ρ} (b:kgz P c Δ s (tev c s f) (l.args.toList.map (tev c s)) Kf=some r) :
  ∃ tv v,(∀ X n1 (K:K3),(∀ q B,h q=some B->X q=some B)->K v X n1->aop P env X n1 ⟨dst,.call l,ty,pos,after,g⟩ K)/\Kf tv=some r/\TVR P κ ln z s.n tv v:=by
 have hf:=R.ev f;have A:TVRs P κ ln z s.n (l.args.toList.map (tev c s)) (l.args.toList.map (ev env)):=by
  generalize l.args.toList=asZ;induction asZ with
  | nil=>exact .nil
  | cons x asZ ih=>exact .cons _ _ _ _ (R.ev x) ih
 unfold kgz at b;split at b
 ·rename_i gg ak he;rw [he] at hf;obtain ⟨asZ,Y,H⟩:=hf.fn_inv;split at b
  ·exact kaa b
  ·rename_i C hC;have hG:=hΔ.at hC;split at b
   ·rename_i ke ao;have hN:=hG.nowOk ao;have I:=A.append H;generalize aE:l.args.toList.map (tev c s)++ak=vs at b I;generalize has:l.args.toList.map (ev env)++asZ=av at I;unfold nowX at b;split at b
    rotate_left
    ·exact kaa b
    rename_i id;split at b
    rotate_left
    ·exact kaa b
    rename_i Tb aD hB;split at b
    rotate_left
    ·exact kaa b
    rename_i p hp;split at b
    rotate_left
    ·exact kaa b
    rename_i T t j U u y hF;split at b
    rotate_left
    ·exact kaa b
    rename_i k;obtain ⟨rfl,am,al⟩:=k;simp only [jaa] at b;obtain ⟨_,M,w,hw,b⟩:=b;replace M:y.length<=9223372036854775807:=by
     unfold glen at M;split at M
     ·assumption
     ·cases M
    obtain ⟨i0,i1,_⟩:=kbL hw;have ac:y≠[]:=by rintro rfl; simp at i1
    cases I with
    | cons _ a _ aF hv ad=>
     cases ad;cases hv with
     | ptr _ _ q hN' hq=>
      cases R.blk _ _ hB with
      | bx _ _ q' cs ah hh af X=>
       rw [hq] at ah; cases ah;obtain ⟨a2,aj,au⟩:=af.at hp;cases R.blk _ _ hF with
       | fm0 _ _ _ _ _ _ _ hd S L ab=>exact absurd L ac
       | fm _ _ _ _ _ _ _ q2 es hd S aw ab L aH h0 aG=>
        cases au with
        | fw0 _ _ E=>rw [S] at E; cases E
        | fw _ q3 hN3 E=>
         rw [S] at E; cases E;rw [<-ab,<-L] at aj;refine ⟨_,.own q2 (es.length-1) 0,λX n1 K ai hK=>?_,b,?_⟩
         ·refine kdS hc Y has (HC.mono (hN X n1 q q2 _ _ Tb cs es (ai _ _ hh) aj (ai _ _ aw) (by rintro rfl; simp at L; exact ac (List.length_eq_zero_iff.1 L.symm)) (by omega) am al af.len) ?_);rintro v h' n' ⟨rfl,rfl,rfl⟩;exact hK
         ·have ae:(lenI y-1).toNat=es.length-1:=by unfold lenI; omega
          have:=TVR.fo (P:=P) (κ:=κ) (ln:=ln) (z:=z) (N:=s.n) p (lenI y-1) 0 q2 hN3 S i0 (by rw [<-ab]; have:=(jae.1 i1).1; exact this);rw [ae] at this;exact this
   rename_i aC;split at b
   ·exact kaa b
   ·rename_i la ids aa;obtain ⟨aq,g1,g2,g3⟩:=kdm hΔ R _ _ _ (A.append H) aa;split at b
    ·exact kaa b
    ·rename_i a ha;have hAR:=kfy _ _ _ _ g1 ha;split at b
     ·rename_i k;simp only [jaa] at b;obtain ⟨y,hy,b⟩:=b;refine ⟨_,_,λX n1 K hh hK=>?_,b,kjj C.rs y hG.1⟩;by_cases e:C.rs.all Ty.flat=true
      ·exact kdS hc Y rfl (PC.lend1 (g2.mono λq B hq=>hh q B (kcH R.zin q B hq)) (hG.2.1 a y hy _ hAR) (kpj _ _ e) hK)
      ·rw [jcv] at e;rw [e,jda,jad,jcw,jbr] at k;obtain ⟨rfl,aA⟩:=k;rw [kaP] at g2;have an:=R.dy aA;exact kdS hc Y rfl (PC.eat (hE:=z) (h':=X) [] (λi B hi=>by rw [an] at hi; cases hi) (λi B hi=>⟨rfl,hi⟩) g2 (hG.2.1 a y hy _ hAR) hK)
     ·exact kaa b
 ·rename_i m x y F he;rw [he] at hf;split at b
  ·rename_i hx;split at b
   ·exact kaa b
   ·rename_i la ids aa;obtain ⟨aq,g1,g2,g3,g4,g5⟩:=kdP R _ _ _ A aa;split at b
    ·exact kaa b
    ·rename_i a ha;split at b
     ·rename_i e;simp only [jaa] at b;obtain ⟨w,hw,b⟩:=b;generalize aB:ev env f=fa at hf;cases hf with
      | cv _ _ _ _ _ ap=>
       obtain ⟨gg,asZ,rfl,Z,az,ax,ar,ay⟩:=ap;have hAR:=kjI ax (kfy _ _ _ _ g1 ha);have hp:=ay _ w hw;rw [kig m (untup m x) x hx a az,<-hAR] at hp;refine ⟨_,_,λX n1 K hh hK=>?_,b,.free ar⟩;exact kdS hc aB rfl (PC.lend1 ((g2.append (SnapL.free Z)).mono λq B hq=>hh q B (kcH R.zin q B hq)) hp (keR _ _ e) hK)
     ·exact kaa b
  ·exact kaa b
 ·exact kaa b
theorem kvQ {v:TV sem} {a:AV} {i:Nat} {N:Nat} (f:TVR P κ ln z N v a) (e:tid v=some i):∀ q,avId a=some q->κ i=some q\/(isRow v=true/\q∈kan (ln i)):=by
 intro q b;cases f <;> simp only [tid,Option.some.injEq,reduceCtorEq] at e <;> subst e <;> simp only [avId,nilS,Option.some.injEq,reduceCtorEq] at b <;> subst b <;> first | (left; assumption) | (right; exact ⟨rfl,kav (by assumption)⟩)
end
section
variable {P:Ye} {κ0:Nat->Yb Nat} {c:Cx sem} {hs:AH}
variable {ρ:Ty} {r:ρ.den} {wc:Ya Nat} {rd:Ya (Nat×Nat)} {b1 b2:Ya Nat}
variable {N:Nat} {D:DX} {O:Nat->Prop} {Q:Exit->St->Prop}
end
theorem kmC {α:Type} {f:α->α->Bool}:∀ (x y:Ya α),x.length=y.length->(∀ a∈x,∀ b,f a b=true->a=b)->((x.zip y).all λp=>f p.1 p.2)=true->x=y
 | [],[],_,_,_=>rfl
 | [],_::_,h,_,_=>by simp at h
 | _::_,[],h,_,_=>by simp at h
 | a::x,b::y,h,hf,ha=>by
  simp only [List.zip_cons_cons,jdx,jad] at ha;rw [hf a (by simp) b ha.1,kmC x y (by simpa using h) (λa h=>hf a (jbm _ h)) ha.2]
theorem Ty.beq_eq:∀ (t:Ty) (x y:t.den),t.beq x y=true->x=y
 | .i _,x,y,h=>by simpa [Ty.beq] using h
 | .b,x,y,h=>by simpa [Ty.beq] using h
 | .s,x,y,h=>by simpa [Ty.beq] using h
 | .un,_,_,_=>rfl
 | .nt,_,_,h=>by simp [Ty.beq] at h
 | .pr u v,x,y,h=>by
  simp only [Ty.beq,jad] at h;exact Prod.ext (Ty.beq_eq u _ _ h.1) (Ty.beq_eq v _ _ h.2)
 | .w a,x,y,h=>Ty.beq_eq a x y h
 | .pt a,x,y,h=>Ty.beq_eq a x y h
 | .sl a,x,y,h=>by
  simp only [Ty.beq,jad,jak] at h;exact kmC (α:=a.den) x y h.1 (λp _ q=>Ty.beq_eq a p q) h.2
 | .op a,x,y,h=>by
  simp only [Ty.beq] at h;cases x with
  | none=>cases y with
   | none=>rfl
   | some y=>cases h
  | some x=>cases y with
   | none=>cases h
   | some y=>rw [Ty.beq_eq a x y h]
 | .ar n a,x,y,h=>by
  simp only [Ty.beq] at h;have:=kmC (α:=a.den) x.l y.l (by rw [x.h,y.h]) (λp _ q=>Ty.beq_eq a p q) h;cases x; cases y; simp only at this; subst this; rfl
 | .sm _ _,_,_,h=>by simp [Ty.beq] at h
 | .fn _ _ _,_,_,h=>by simp [Ty.beq] at h
theorem kus {t:Ty} {xs ys a:Ya t.den} {e:t.den} (h:gpre t (some xs) ys e=some a):xs[ys.length]?=some e/\a=ys++[e]:=by
 unfold gpre at h;simp only at h;split at h
 ·rename_i x b;split at h
  ·rename_i f;cases h;rw [Ty.beq_eq t x e f] at b;exact ⟨b,rfl⟩
  ·cases h
 ·cases h
section
variable {P:Ye} {κ:Nat->Yb Nat} {ln:Nat->Nat} {z:AH} {c:Cx sem} {s:TS sem} {env:Env} {h:AH} {n N:Nat} {ρ:Ty}
mutual
theorem klQ:∀ {v:TV sem} {a:AV},TVR P κ ln ahN N v a->v.solid=true->Free a
 | _,_,.c t x a hd hs,_=>hs.freeN
 | _,_,.kb b,_=>.sc _
 | _,_,.sc v h1,_=>.sc _
 | _,_,.fq t x o a hd hs,_=>hs.freeN
 | _,_,.cv n x y F a hc,_=>by
  obtain ⟨g,asZ,rfl,e,_⟩:=hc;exact (kfa g asZ).2 e
 | _,_,.fn g vs asZ hs,hp=>(kfa g asZ).2 (kff hs (by simpa [TV.solid] using hp))
 | _,_,.tp vs asZ hs,hp=>(krh asZ).2 (kff hs (by simpa [TV.solid] using hp))
 | _,_,.ag vs asZ hs h1,hp=>(kjY asZ).2 (kff hs (by simpa [TV.solid] using hp))
 | _,_,.un _,hp | _,_,.ud,hp | _,_,.gs _ _,hp | _,_,.yl ..,hp | _,_,.kp ..,hp | _,_,.np0 ..,hp | _,_,.np ..,hp | _,_,.ptr ..,hp | _,_,.adr ..,hp | _,_,.aa ..,hp | _,_,.ax ..,hp | _,_,.mw0 ..,hp | _,_,.mw ..,hp | _,_,.ms0 ..,hp | _,_,.fs0 ..,hp | _,_,.fs ..,hp | _,_,.ms ..,hp | _,_,.mp ..,hp | _,_,.fw0 ..,hp | _,_,.fw ..,hp | _,_,.fr0 ..,hp | _,_,.fr ..,hp | _,_,.fo ..,hp | _,_,.fa ..,hp=>by simp [TV.solid] at hp
theorem kff:∀ {vs:Ya (TV sem)} {asZ:Ya AV},TVRs P κ ln ahN N vs asZ->TV.solidL vs=true->FreeL asZ
 | _,_,.nil,_=>FreeL.nil
 | _,_,.cons v a vs asZ hv hs,hp=>by
  simp only [TV.solidL,jad] at hp;exact FreeL.cons (klQ hv hp.1) (kff hs hp.2)
end
def stays (v:TV sem):Bool:=match v with | .ud=>true | .yl _=>true | v=>v.solid
theorem kmj {v:TV sem} (hp:v.pure=true) (hs:¬ stays v=true):v = .un:=by
 cases v with
 | un=>rfl
 | ud=>exact absurd rfl hs
 | yl id=>exact absurd rfl hs
 | _=>exact absurd hp hs
theorem krT {v:TV sem} {a:AV} (b:TVR P κ ln ahN N v a) (hs:stays v=true):Free a:=by
 unfold stays at hs;split at hs
 ·cases b; exact .ud
 ·cases b; exact .sc _
 ·exact klQ b hs
theorem kfk {α β:Type} (f:α->β):∀ (l:Ya (Nat×α)) (x:Nat),alk (l.map λp=>(p.1,f p.2)) x=(alk l x).map f
 | [],x=>rfl
 | (k,v)::l,x=>by
  simp only [jat,alk];split
  ·rfl
  ·exact kfk f l x
theorem kql:∀ (env:Env) (x:Nat),(env.map (·.1)).contains x=false->lk env x = .un
 | [],x,_=>rfl
 | (k,v)::env,x,h=>by
  simp only [jat,List.contains_cons,jea] at h;simp only [lk];rw [if_neg (by simpa using h.1)];exact kql env x h.2
theorem kqg {G:IterG} {Δ:Ya (FuncId×Ctr)} (hI:∀ nm ts F,(alk Δ IM).bind (λC=>C.its.head?)=some ⟨nm,[.nt],ts,F⟩->∃ xs,F (0:Nat)=some xs/\G.xs=xs.map (avsL ts)) (W:CxWf c) (R:Rel P κ ln z c s env h n) (hκ:κ 0=some G.l)
  {y:Oper} (ac:∀ d,y.dst=some d->alk c.e0 d=none) {ds:Ya (Yb Tmp)} {l2:Ya Oper} {Qn:St->Prop} {Kf:TS sem->Yb Unit} {K:TS sem->sem.Ans ρ} {w:ρ.den} (H:klL (A:=sem) c Δ s y Kf K=some w)
  (hT:∀ s2 I,Rel P κ ln ahN c s2 I ah0 n->s2.n=s.n->K s2=some w->aops P ds l2 ⟨I,ah0,n⟩ Qn)
  (hF:∀ s2 I w0,Rel P κ ln ahN c s2 I ah0 n->s2.n=s.n->Kf s2=some w0->aops P ds l2 ⟨I,ah0,n⟩ Qn):YieldK P G ds y l2 Qn ⟨env,h,n⟩:=by
 unfold klL at H;split at H
 rotate_left
 ·exact kaa H
 rename_i cl nm ts F aw hIM;obtain ⟨xs,hF0,hGx⟩:=hI nm ts F hIM;split at H
 rotate_left
 ·exact kaa H
 rename_i f ay;split at H
 rotate_left
 ·exact kaa H
 rename_i id t ys hf ae;split at H
 rotate_left
 ·exact kaa H
 rename_i aB l ids ap hl;split at H
 ·exact kaa H
 rename_i S;simp only [jbe,jbr,not_or,jcv,Bool.not_eq_false',bne_iff_ne,ne_eq,Decidable.not_not,beq_iff_eq,Bool.not_eq_false] at S;obtain ⟨⟨⟨⟨⟨⟨au,ax⟩,hg⟩,al⟩,aq⟩,ak⟩,aA⟩:=S;subst au;split at H
 rotate_left
 ·exact kaa H
 rename_i e he;obtain ⟨az,Y,H⟩:=jaa.1 H;obtain ⟨w0,ar,H⟩:=jaa.1 H;rw [hF0] at Y;obtain ⟨m,rfl⟩:=kus Y;obtain ⟨ee,rfl⟩:=kaj ap;cases ee;have ao:z=ahN:=R.dy (by simpa using ax);subst ao;have am:y.guard=none:=by simpa using ak
 have aa:=R.ev f;rw [hf] at aa;have aj:ev env f = .sc (.func (.yield G.l) #[] #[]):=by
  generalize ev env f=a at aa;cases aa with
  | yl _ q hN hq=>rw [hκ] at hq; cases hq; rfl
 have htG:tlk c s GS = .gs (tup ts) ys:=by unfold tlk; rw [ae]
 have hGe:=R.env GS;rw [htG] at hGe;have hGe2:lk env GS = .gs (ys.map (tup ts).enc):=by
  generalize lk env GS=a at hGe;cases hGe; rfl
 have Z:TVRs P κ ln ahN s.n (cl.args.toList.map (tev c s)) (cl.args.toList.map (ev env)):=by
  generalize cl.args.toList=xs;induction xs with
  | nil=>exact .nil
  | cons x xs ih=>exact .cons _ _ _ _ (R.ev x) ih
 obtain ⟨af,g1,g2,_⟩:=kdP R _ _ _ Z hl;have has:af=avsL ts e:=kjI aq (kfy ts l af e g1 he);subst has;let g:Nat->AV:=λk=>if stays (tlk c s k)=true then lk env k else .un
 let E:Env:=(env.map (·.1)).map λk=>(k,g k)
 have hE:∀ x,lk E x=if stays (tlk c s x)=true then lk env x else .un:=λx=>by
  show lk ((env.map (·.1)).map λk=>(k,g k)) x=_;rw [kmn];split
  ·rfl
  ·rename_i hc;rw [kql env x (by simpa using hc)]; simp
 have rel:∀ (b:Bool) (X:TV sem) (ga:AV),TVR P κ ln ahN s.n X ga->Rel P κ ln ahN c (yTS s y.dst b X) (putE ((GS,ga)::E) y.dst (.sc (.bool b))) ah0 n:=λb X ga ad=>by
  have L:∀ id,thp c (yTS s y.dst b X) id=none:=λid=>by
   unfold thp;have:c.g=[]:=by simpa using hg
   rw [this]; rfl
  have M:∀ x,x≠GS->TVR P κ ln ahN s.n (match alk (yEnv s) x with | some v=>v | none=>(alk c.e0 x).getD .un) (lk E x):=λx m=>by
   have an:alk (yEnv s) x=(alk s.env x).map λv=>if v.pure then v else .un:=kfk (λv:TV sem=>if v.pure then v else .un) s.env x;rw [an,hE];have hRx:=R.env x;unfold tlk at hRx ⊢;cases ai:alk s.env x with
   | some v=>
    rw [ai] at hRx;simp only [jcb];simp only at hRx;by_cases hp:v.pure=true
    ·rw [if_pos hp];by_cases p:stays v=true
     ·rw [if_pos p]; exact hRx
     ·have:=kmj hp p;subst this; exact .un _
    ·rw [if_neg hp]; exact .un _
   | none=>
    rw [ai] at hRx;simp only [Option.map_none];simp only at hRx;cases ab:alk c.e0 x with
    | none=>simp only [Option.getD_none]; exact .un _
    | some v=>
     rw [ab] at hRx;simp only [jcc] at hRx ⊢;have hm:=jap.1 al _ (kau ab);by_cases p:stays v=true
     ·rw [if_pos p]; exact hRx
     ·have:v = .un:=by
       simp only [jbe,jad] at hm;rcases hm with hp | ⟨_,hp⟩
       ·exact kmj hp p
       ·cases v <;> first | (exact absurd rfl p) | (simp at hp)
      subst this; exact .un _
  refine ⟨λx=>?_,λid B hB=>(by rw [L] at hB; cases hB),λid B hB=>(by rw [L] at hB; cases hB),λi j B B' q hi=>(by rw [L] at hi; cases hi),λq B hq=>(by cases hq),λid B q hB=>(by rw [L] at hB; cases hB),λid B q hB=>(by rw [L] at hB; cases hB),λq hq=>rfl,λx v m=>?_,λid b hb=>(by cases hb),λ_=>rfl,λq k T es hq=>(by cases hq),λid B hB=>(by rw [L] at hB; cases hB)⟩
  ·show TVR P κ ln ahN s.n _ _;cases hd:y.dst with
   | none=>
    have h1:tlk c (yTS s none b X) x=if x=GS then X else (match alk (yEnv s) x with | some v=>v | none=>(alk c.e0 x).getD .un):=by
     unfold tlk yTS;simp only [jav,alk];by_cases m:x=GS
     ·rw [if_pos m,if_pos m]
     ·rw [if_neg m,if_neg m]; cases alk (yEnv s) x <;> rfl
    rw [h1];show TVR P κ ln ahN s.n _ (lk ((GS,ga)::E) x);simp only [lk];by_cases m:x=GS
    ·rw [if_pos m,if_pos m]; exact ad
    ·rw [if_neg m,if_neg m]; exact M x m
   | some d=>
    have h1:tlk c (yTS s (some d) b X) x=if x=d then .kb b else if x=GS then X else (match alk (yEnv s) x with | some v=>v | none=>(alk c.e0 x).getD .un):=by
     unfold tlk yTS;simp only [jdj,jav,alk];by_cases u:x=d
     ·rw [if_pos u,if_pos u]
     ·rw [if_neg u,if_neg u];by_cases m:x=GS
      ·rw [if_pos m,if_pos m]
      ·rw [if_neg m,if_neg m]; cases alk (yEnv s) x <;> rfl
    rw [h1];show TVR P κ ln ahN s.n _ (lk ((d,.sc (.bool b))::(GS,ga)::E) x);simp only [lk];by_cases u:x=d
    ·rw [if_pos u,if_pos u]; exact .kb b
    ·rw [if_neg u,if_neg u];by_cases m:x=GS
     ·rw [if_pos m,if_pos m]; exact ad
     ·rw [if_neg m,if_neg m]; exact M x m
  ·have ah:y.dst=some x\/x=GS\/∃ v,alk s.env x=some v:=by
    unfold yTS at m;simp only at m;cases hd:y.dst with
    | none=>
     rw [hd] at m;simp only [jav,alk] at m;split at m
     ·rename_i e; exact .inr (.inl e)
     ·rw [show alk (yEnv s) x=(alk s.env x).map λv=>if v.pure then v else .un from kfk (λv:TV sem=>if v.pure then v else .un) s.env x] at m;obtain ⟨v',U,_⟩:=jac.1 m;exact .inr (.inr ⟨v',U⟩)
    | some d=>
     rw [hd] at m;simp only [jdj,jav,alk] at m;split at m
     ·rename_i e; exact .inl (by rw [e])
     ·split at m
      ·rename_i e; exact .inr (.inl e)
      ·rw [show alk (yEnv s) x=(alk s.env x).map λv=>if v.pure then v else .un from kfk (λv:TV sem=>if v.pure then v else .un) s.env x] at m;obtain ⟨v',U,_⟩:=jac.1 m;exact .inr (.inr ⟨v',U⟩)
   rcases ah with hd | rfl | ⟨v',U⟩
   ·exact ac x hd
   ·exact R.e0 _ _ ae
   ·exact R.e0 x v' U
 refine ⟨.inl am,cl,f,_,avsL ts e,[avsL ts e],ys.map (tup ts).enc,hz (ows κ ln c s) h ahN ids,E,[(tup ts).enc e],aw,ay,.yield,hGe2,λj hj=>?_,kcH R.zin,(show SnapV _ (ev env f) _ by rw [aj]; exact Snap.V (.free _ (.sc _))),g2,λx m=>?_,rfl,?_,?_⟩
 ·obtain rfl:j=0:=by simpa using hj
  rw [hGx,jas,jbb,Nat.add_zero,m]; rfl
 ·rw [hE];by_cases p:stays (tlk c s x)=true
  ·rw [if_pos p]; exact .inr ⟨rfl,krT (R.env x) p⟩
  ·rw [if_neg p]; exact .inl rfl
 ·exact hT _ _ (rel true _ _ (by rw [show ys.map (tup ts).enc++[(tup ts).enc e]=(ys++[e]).map (tup ts).enc by simp]; exact .gs _ _)) rfl H
 ·exact hF _ _ w0 (rel false _ _ .ud) rfl ar
end
section
variable {P:Ye} {κ κ':Nat->Yb Nat} {ln ln':Nat->Nat} {z z':AH} {c:Cx sem} {s:TS sem} {env:Env} {h h':AH} {n n':Nat}
variable {ρ:Ty} {r:ρ.den} {o:Oper} {W:Nat->Bool} {anc:Nat->Ya Nat} {late:Nat->Bool} {j:Nat} {next:St->Ya Pn->Prop}
def DomF (κ:Nat->Yb Nat) (N:Nat) (F:Ya Nat) (hp:AH):Prop:=∀ q B,hp q=some B->∃ id∈F,id<N/\κ id=some q
structure PnOk (κ:Nat->Option Nat) (N:Nat) (p:Pn) (t:Nat×Nat×List Nat):Prop where
 j:p.j=t.1
 k0:t.2.1=0->∀ h1,p.ok h1
 k1:t.2.1=1->∃ hp,(∀ h1,p.ok h1↔shp hp h1)/\DomF κ N t.2.2 hp
 k2:t.2.1=2->∃ hp:AH,(∀ h1:AH,p.ok h1↔∀ q B,hp q=some B->h1 q=some B)/\DomF κ N t.2.2 hp
def PdR (κ:Nat->Yb Nat) (N:Nat) (a:Ya Pn) (b:Ya (Nat×Nat×Ya Nat)):Prop:=∀ p∈a,∃ t∈b,PnOk κ N p t
theorem DomF.mono {N N':Nat} {F:Ya Nat} {hp:AH} (h:DomF κ N F hp) (f:∀ id,id<N->κ' id = κ id) (hN:N<=N'):DomF κ' N' F hp:=λq B a=>by
 obtain ⟨id,b,h2,e⟩:=h q B a;exact ⟨id,b,by omega,by rw [f id h2]; exact e⟩
theorem PdR.mono {N N':Nat} {a:Ya Pn} {b:Ya (Nat×Nat×Ya Nat)} (h:PdR κ N a b) (f:∀ id,id<N->κ' id = κ id) (hN:N<=N'):PdR κ' N' a b:=λp hp=>by
 obtain ⟨t,i,g⟩:=h p hp;exact ⟨t,i,g.j,g.k0,λe=>(g.k1 e).imp λhp g=>⟨g.1,g.2.mono f hN⟩,λe=>(g.k2 e).imp λhp g=>⟨g.1,g.2.mono f hN⟩⟩
theorem PdR.cons {N:Nat} {b:Ya Pn} {e:Ya (Nat×Nat×Ya Nat)} (h:PdR κ N b e) {p:Pn} {t:Nat×Nat×Ya Nat} (g:PnOk κ N p t):PdR κ N (p::b) (t::e):=λq a=>by
 rcases jbi.1 a with rfl | a
 ·exact ⟨t,by simp,g⟩
 ·obtain ⟨t,f,g⟩:=h q a;exact ⟨t,jbm _ f,g⟩
theorem krt (R:Rel P κ ln z c s env h n) {I:Ya Pn} {M:Ya (Nat×Nat×Ya Nat)} (hp:PdR κ s.n I M) {L:Ya Nat} {st:Bool} {T:Ya Nat} (X:pdOk c s L st T M=true)
  (Z:∀ q,q<n->h' q=h q\/∃ id∈T,(∃ B,thp c s id=some B)/\q∈ows κ ln c s id) (A:st=true->shp h h'):∀ p∈I,p.j∈L\/(p.ok h->p.ok h'):=by
 intro p E;obtain ⟨t,U,g⟩:=hp p E;have i:=jap.1 X t U;simp only [jbe,beq_iff_eq,jad,jap,jbw,jbr] at i;rcases i with (i | i) | ⟨a,hF⟩
 ·exact .inl (by rw [g.j]; exact i)
 ·exact .inr λ_=>g.k0 i h'
 ·right;intro b;have same:∀ id q B,id∈t.2.2->T.contains id=false->κ id=some q->h q=some B->h' q=h q:=λid q B H hT hκ f=>by
   have v:q<n:=by
    rcases jbz q n with y | u
    ·exact y
    ·rw [R.hn q u] at f; cases f
   rcases Z q v with e | ⟨aa,Y,⟨m,h2⟩,h3⟩
   ·exact e
   ·obtain ⟨B1,hB1⟩:=jan.1 (hF id H).1;have e:=R.owI hB1 h2 (.inl hκ) (kci h2 h3);subst e;rw [jbw.2 Y] at hT; cases hT
  rcases a with a | a
  ·obtain ⟨hp,g1,C⟩:=g.k1 a;rw [g1] at b ⊢;intro q B f;obtain ⟨m,F,K⟩:=b q B f;obtain ⟨id,k,S,x⟩:=C q B f;rcases (hF id k).2 with hT | hT
   ·exact ⟨m,by rw [same id q m k hT x F]; exact F,K⟩
   ·obtain ⟨B2,e3,e4⟩:=A hT.1 q m F;exact ⟨B2,e3,ABlk.shp_trans K e4⟩
  ·obtain ⟨hp,g1,C⟩:=g.k2 a;rw [g1] at b ⊢;intro q B f;obtain ⟨id,k,S,x⟩:=C q B f;rcases (hF id k).2 with hT | hT
   ·rw [same id q B k hT x (b q B f)]; exact b q B f
   ·rw [a] at hT; exact absurd hT.2 (by decide)
theorem kqk {Δ:Ya (FuncId×Ctr)} (S:Goods P Δ) {wc:Ya Nat} {Kf:TV sem->TS sem->Ya (Nat×Nat×Ya Nat)->sem.Ans ρ} {ps:Ya Pn} {pd:Ya (Nat×Nat×Ya Nat)}
  (R:Rel P κ ln z c s env h n) (K:PdR κ s.n ps pd) (hW:W j=isW wc j o) (m:khH P c Δ W anc late j s o pd Kf=some r)
  (hn:∀ κ' ln' z' u s' v h' n' al am,Ke c s.n κ ln κ' ln'->s.n<=s'.n->Rel P κ' ln' z' c s' env h' n'->TVR P κ' ln' z' s'.n u v->Kf u s' am=some r->PdR κ' s'.n al am->next ⟨putE env o.dst v,h',n'⟩ al) :
  stepT P W anc o j env h n ps next:=by
 unfold khH at m;unfold stepT;cases hw:W j with
 | true=>
  rw [hw] at m hW;rw [if_pos rfl];obtain ⟨d,op,ty,pos,after,g⟩:=o;simp only at m;split at m
  ·
   rename_i f args ts;split at m
   ·rename_i M asZ hu;unfold useM at hu;simp only at hu;split at hu
    ·rename_i gg ax au;split at hu
     ·rename_i C hC;obtain ⟨M',hM,he⟩:=jac.1 hu;cases he;have hG:=(S.at hC).2.2.1 M (khe hM);have ad:TVRs P κ ln z s.n (args.toList.map (tev c s)) (args.toList.map (ev env)):=by
       generalize args.toList=xs;induction xs with
       | nil=>exact .nil
       | cons x xs ih=>exact .cons _ _ _ _ (R.ev x) ih
      have aj:=R.ev f;rw [au] at aj;obtain ⟨ay,an,ae⟩:=aj.fn_inv;refine kdS (f:=f) rfl an rfl (kgH S hG.1 hG.2 R (ad.append ae) m λu s' v h' n' κ' ln' k h2 Y h4 h5 h6=>?_);split at k
      ·rename_i ah;exact ⟨krt R K ah h6 (λe=>by cases e),hn _ _ _ _ _ _ _ _ _ _ h2 Y h4 h5 k (K.mono (λid hi=>(h2 id hi).1) Y)⟩
      ·exact kaa k
     ·cases hu
    ·cases hu
   ·split at m
    ·exact kmw m
    ·obtain ⟨u,v,k1,k2,k3⟩:=kgJ (dst:=d) (ty:=ty) (pos:=pos) (after:=after) (g:=g) (l:=⟨.value f,args,ts⟩) S R rfl m;exact k1 h n _ (λq B E=>E) ⟨λp _=>.inr id,hn _ _ _ _ _ _ _ _ _ _ .refl (jah _) R k3 k2 K⟩
  ·split at m
   ·exact kaa m
   ·rename_i aw;split at m
    ·rename_i T hT;split at m
     ·rename_i ah;obtain ⟨u,s',v,h',n',κ',ln',z',g1,X,g3,U,g6,g7,_⟩:=kdo S R _ m;have ha:=g1 (λa b c=>a=v/\b=h'/\c=n') ⟨rfl,rfl,rfl⟩;obtain ⟨f1,f2⟩:=ktJ hW.symm aw ha;refine g1 _ ⟨krt R K ah (λq E=>?_) f2,hn _ _ _ _ _ _ _ _ _ _ g7 g6 g3 U X (K.mono (λid hi=>(g7 id hi).1) g6)⟩;unfold tgtT at hT;split at hT
      ·rename_i ao;exact .inl (f1 q (by omega) λx hx=>by rw [ao] at hx; cases hx)
      ·rename_i x hx;by_cases aa:avId (ev env x)=some q
       ·split at hT
        ·rename_i i ar;split at hT
         ·rename_i hc;cases hT;simp only [jad,jbe,jbr] at hc;obtain ⟨B,hB⟩:=jan.1 hc.1;refine .inr ⟨i,by simp,⟨B,hB⟩,?_⟩;rcases kvQ (R.ev x) ar q aa with k | ⟨k,h2⟩
          ·exact ows_k k
          ·rw [k,hB] at hc;exact ows_r hB (by simpa using hc.2) h2
         ·cases hT
        ·split at hT
         ·rename_i ai;have af:=R.ev x;generalize tev c s x=u at af ai;generalize ev env x=av at af aa;cases af <;> first | (simp only [isSc,jal] at ai; done) | cases aa
         ·cases hT
       ·exact .inl (f1 q (by omega) λx' ak=>by rw [hx] at ak; cases ak; exact aa)
     ·exact kaa m
    ·exact kaa m
 | false=>
  rw [hw] at m hW;rw [if_neg (by decide)];have A:∀ {κ':Nat->Yb Nat} {ln':Nat->Nat} {z':AH} {s':TS sem} {u:TV sem} {v:AV} (ok:AH->Prop) (y:Nat) (F:Ya Nat),ok h->(∀ k n1 (I:K3),ok k->I v k n1->aop P env k n1 o I)->Ke c s.n κ ln κ' ln'->s.n<=s'.n->Rel P κ' ln' z' c s' env h n->TVR P κ' ln' z' s'.n u v->
    Kf u s' ((j,y,F)::pd)=some r->(y=0->∀ k,ok k)->(y=1->∃ hp,(∀ k,ok k↔shp hp k)/\DomF κ s.n F hp)->(y=2->∃ hp:AH,(∀ k:AH,ok k↔∀ q B,hp q=some B->k q=some B)/\DomF κ s.n F hp)->
    ∃ p:Pn,p.j=j/\p.o=o/\p.env=env/\p.ok h/\p.fact P/\next ⟨putE env o.dst p.v,h,n⟩ (p::ps):=λ{κ' ln' z' s' u v} ok y F k h2 Y h4 h5 h6 h7 h8 h9 ap=>
   ⟨⟨j,o,env,v,ok⟩,rfl,rfl,rfl,k,h2,hn _ _ _ _ _ _ _ _ _ _ Y h4 h5 h6 h7 ((K.mono (λid hi=>(Y id hi).1) h4).cons ⟨rfl,h8,λe=>(h9 e).imp λhp g=>⟨g.1,g.2.mono (λid hi=>(Y id hi).1) h4⟩,λe=>(ap e).imp λhp g=>⟨g.1,g.2.mono (λid hi=>(Y id hi).1) h4⟩⟩)⟩
  have ac:DomF κ s.n (footX c s o) (rsH κ h (footX c s o)):=λq B E=>by
   obtain ⟨⟨id,k,h2⟩,_⟩:=kiy E;have Y:=(jdy.1 (show id∈(_:Ya Nat).filter _ from k)).2;obtain ⟨B1,hB1⟩:=jan.1 Y;exact ⟨id,k,R.lt id B1 hB1,h2⟩
  obtain ⟨d,op,ty,pos,after,g⟩:=o;simp only at m;split at m
  ·obtain ⟨u,v,k1,k2,k3⟩:=knX (dst:=d) (ty:=ty) (pos:=pos) (after:=after) (g:=g) R m;exact A (λ_=>True) 0 [] trivial (λk n1 I _ hK=>k1 k n1 I hK) .refl (jah _) R k3 k2 (λ_ _=>trivial) (λe=>by cases e) (λe=>by cases e)
  ·rename_i f args ts;split at m
   ·split at m
    ·rename_i t;unfold seen at t;rw [jad,jad,jbr] at t;have R2:=R.rst t.1.1 t.1.2 t.2;obtain ⟨u,v,k1,k2,k3⟩:=kgJ (dst:=d) (ty:=ty) (pos:=pos) (after:=after) (g:=g) (l:=⟨.value f,args,ts⟩) S R2 rfl m;exact A (λk=>∀ q B,rsH κ h (footX c s _) q=some B->k q=some B) 2 _ (λq B E=>(kiy E).2) (λk n1 I L hK=>k1 k n1 I L hK) .refl (jah _) R k3 k2 (λe=>by cases e) (λe=>by cases e) (λ_=>⟨_,λ_=>Iff.rfl,ac⟩)
    ·exact kaa m
   ·obtain ⟨u,v,k1,k2,k3⟩:=kgJ (dst:=d) (ty:=ty) (pos:=pos) (after:=after) (g:=g) (l:=⟨.value f,args,ts⟩) S R rfl m;exact A (λk=>∀ q B,h q=some B->k q=some B) 3 [] (λq B E=>E) (λk n1 I L hK=>k1 k n1 I L hK) .refl (jah _) R k3 k2 (λe=>by cases e) (λe=>by cases e) (λe=>by cases e)
  ·split at m
   ·rename_i aq;obtain ⟨u,s',v,h',n',κ',ln',z',g1,X,g3,U,g6,g7,_⟩:=kdo S R _ m;obtain ⟨v2,⟨rfl,rfl,rfl⟩,k2⟩:=ktX aq (g1 (λa b c=>a=v/\b=h'/\c=n') ⟨rfl,rfl,rfl⟩);exact A (λ_=>True) 0 [] trivial (λk n1 I _ hK=>k2 k n1 I hK) g7 g6 g3 U X (λ_ _=>trivial) (λe=>by cases e) (λe=>by cases e)
   ·split at m
    ·rename_i ab;split at m
     ·split at m
      ·rename_i t;unfold seen at t;rw [jad,jad,jbr] at t;have R2:=R.rst t.1.1 t.1.2 t.2;obtain ⟨u,s',v,h',n',κ',ln',z',g1,X,g3,U,g6,g7,g8⟩:=kdo S R2 _ m;obtain ⟨rfl,rfl,rfl,rfl,rfl,rfl⟩:=g8 (kik (.inl ab));exact A (λk=>shp (rsH κ' h (footX c s _)) k) 1 _ (λq B E=>⟨B,(kiy E).2,B.shp_refl⟩) (λk n1 I L hK=>knE ab L (λv' H=>by obtain ⟨rfl,_,_⟩:=H; exact hK) (g1 (λa b c=>a=v/\True/\True) ⟨rfl,trivial,trivial⟩)) .refl (jah _) R U X (λe=>by cases e) (λ_=>⟨_,λ_=>Iff.rfl,ac⟩) (λe=>by cases e)
      ·exact kaa m
     ·obtain ⟨u,s',v,h',n',κ',ln',z',g1,X,g3,U,g6,g7,g8⟩:=kdo S R _ m;obtain ⟨rfl,rfl,rfl,rfl,rfl,rfl⟩:=g8 (kik (.inl ab));exact A (λk=>shp h' k) 3 [] (λq B E=>⟨B,E,B.shp_refl⟩) (λk n1 I L hK=>knE ab L (λv' H=>by obtain ⟨rfl,_,_⟩:=H; exact hK) (g1 (λa b c=>a=v/\True/\True) ⟨rfl,trivial,trivial⟩)) .refl (jah _) R U X (λe=>by cases e) (λe=>by cases e) (λe=>by cases e)
    ·split at m
     ·rename_i Z;split at m
      ·split at m
       ·rename_i t;unfold seen at t;rw [jad,jad,jbr] at t;have R2:=R.rst t.1.1 t.1.2 t.2;obtain ⟨u,s',v,h',n',κ',ln',z',g1,X,g3,U,g6,g7,g8⟩:=kdo S R2 _ m;obtain ⟨rfl,rfl,rfl,rfl,rfl,rfl⟩:=g8 (kik (.inr Z));exact A (λk=>∀ q B,rsH κ' h (footX c s _) q=some B->k q=some B) 2 _ (λq B E=>(kiy E).2) (λk n1 I L hK=>kpP Z L (λv' H=>by obtain ⟨rfl,_,_⟩:=H; exact hK) (g1 (λa b c=>a=v/\True/\True) ⟨rfl,trivial,trivial⟩)) .refl (jah _) R U X (λe=>by cases e) (λe=>by cases e) (λ_=>⟨_,λ_=>Iff.rfl,ac⟩)
       ·exact kaa m
      ·obtain ⟨u,s',v,h',n',κ',ln',z',g1,X,g3,U,g6,g7,g8⟩:=kdo S R _ m;obtain ⟨rfl,rfl,rfl,rfl,rfl,rfl⟩:=g8 (kik (.inr Z));exact A (λk=>∀ q B,h' q=some B->k q=some B) 3 [] (λq B E=>E) (λk n1 I L hK=>kpP Z L (λv' H=>by obtain ⟨rfl,_,_⟩:=H; exact hK) (g1 (λa b c=>a=v/\True/\True) ⟨rfl,trivial,trivial⟩)) .refl (jah _) R U X (λe=>by cases e) (λe=>by cases e) (λe=>by cases e)
     ·exact kaa m
theorem kcX {Δ:Ya (FuncId×Ctr)} (H:Goods P Δ) {wc:Ya Nat} {B:Ya (Yb Tmp)} (k:okD c B=true) {Kf:TS sem->sem.Ans ρ} {K:St->Prop}
  {M:Nat} {Y:Nat->Yb Nat} {E:Nat->Nat} (hK:∀ κ ln z s' A h' n',Ke c M Y E κ ln->Rel P κ ln z c s' A h' n'->Kf s'=some r->K ⟨A,h',n'⟩) :
  ∀ (l:Ya Oper) (i:Nat) {κ:Nat->Yb Nat} {ln:Nat->Nat} {z:AH} {s:TS sem} {env:Env} {h:AH} {n:Nat} {F:Ya Pn} {C:Ya (Nat×Nat×Ya Nat)},Ke c M Y E κ ln->M<=s.n->(∀ o∈l,o.dst∈B)->(∀ q o,l[q]?=some o->W (i+q)=isW wc (i+q) o)->Rel P κ ln z c s env h n->PdR κ s.n F C->
   xopsT P c Δ W anc late B l i s C Kf=some r->treeD P B W anc l i ⟨env,h,n⟩ F K
 | [],i,κ,ln,z,s,env,h,n,F,C,ke,kn,_,_,R,hp,f=>hK _ _ _ _ _ _ _ ke R f
 | o::l,i,κ,ln,z,s,env,h,n,F,C,ke,kn,hl,hW,R,hp,f=>by
  have u:∀ o∈l,o.dst∈B:=λo ho=>hl o (jbm _ ho);have hW':∀ q o,l[q]?=some o->W (i+1+q)=isW wc (i+1+q) o:=λq o hq=>by have:=hW (q+1) o (by simpa using hq); rwa [show i+(q+1)=i+1+q by omega] at this
  have hW0:W i=isW wc i o:=hW 0 o rfl;have y:=kro k (hl o (jdz ..));have one:∀ {κ:Nat->Yb Nat} {ln:Nat->Nat} {z:AH} {s:TS sem} {env:Env},Ke c M Y E κ ln->M<=s.n->Rel P κ ln z c s env h n->PdR κ s.n F C->(khH P c Δ W anc late i s o C λv s' C=>xopsT P c Δ W anc late B l (i+1) (putT s' o.dst v) C Kf)=some r->
    stepT P W anc o i env h n F λs t=>treeD P B W anc l (i+1) s t K:=λke kn R hp f=>by
   refine kqk H R hp hW0 f λκ' ln' z' tv s' v h' n' ad ac aa ae R' L S U=>?_;exact kcX H k hK l (i+1) (ke.trans aa kn) (by rw [kce]; omega) u hW' (R'.putT L o.dst y) (by rw [kce]; exact U) S
  simp only [xopsT] at f;simp only [treeD];cases hg:o.guard with
  | none=>
   rw [hg] at f;exact one ke kn R hp f
  | some jw=>
   obtain ⟨j,I⟩:=jw;rw [hg] at f;simp only at f ⊢;cases hs:kba B j with
   | none=>rw [hs] at f; exact kaa f
   | some d=>
    rw [hs] at f;simp only at f ⊢;have T:=koE k hs;have L:=R.env d;generalize ab:tlk c s d=tv at L f;generalize Z:lk env d=a at L;cases L <;> first | exact kaa f | skip
    ·
     exact kcX H k hK l (i+1) ke (by rw [kce]; exact kn) u hW' (R.putT .ud o.dst y) (by rw [kce]; exact hp) f
    ·
     rename_i t x hd X;cases t <;> first | exact kaa f | skip
     obtain rfl:=X.sc_inv;have k1:∀ w:Bool,x=w->Rel P κ ln z c { s with env:=(d,.kb w)::s.env } ((d,.sc (.bool w))::env) h n:=λw hw=>R.know (.kb w) T;dsimp only at f;cases I
     ·dsimp only at f;rcases kbS f with ⟨p,f⟩ | ⟨p,f⟩
      ·refine ⟨λe=>?_,λ_=>?_⟩
       ·exact absurd (p.symm.trans e) (by decide)
       ·exact kcX H k hK l (i+1) ke (by rw [kce]; exact kn) u hW' ((k1 true p).putT .ud o.dst y) (by rw [kce]; exact hp) f
      ·refine ⟨λ_=>?_,λe=>?_⟩
       ·exact one ke (by exact kn) (k1 false p) hp f
       ·exact absurd (p.symm.trans e) (by decide)
     ·dsimp only at f;rcases kbS f with ⟨p,f⟩ | ⟨p,f⟩
      ·refine ⟨λ_=>?_,λe=>?_⟩
       ·exact one ke (by exact kn) (k1 true p) hp f
       ·exact absurd (p.symm.trans e) (by decide)
      ·refine ⟨λe=>?_,λ_=>?_⟩
       ·exact absurd (p.symm.trans e) (by decide)
       ·exact kcX H k hK l (i+1) ke (by rw [kce]; exact kn) u hW' ((k1 false p).putT .ud o.dst y) (by rw [kce]; exact hp) f
    ·
     rename_i b;dsimp only at f;have ag:Rel P κ ln z c s ((d,.sc (.bool b))::env) h n:=R.again λx=>by
      show (if x=d then _ else lk env x)=_;split
      ·rename_i e; rw [e,Z]
      ·rfl
     split at f
     ·rename_i m;have m:=eq_of_beq m;subst m;refine ⟨λ_=>one ke (by exact kn) ag hp f,λe=>?_⟩;cases b <;> cases e
     ·rename_i m;refine ⟨λe=>by rw [e] at m; simp at m,λe=>?_⟩;rw [<-e];exact kcX H k hK l (i+1) ke (by rw [kce]; exact kn) u hW' (ag.putT .ud o.dst y) (by rw [kce]; exact hp) f
variable {N:Nat} {D:DX} {O:Nat->Prop} {Q:Exit->St->Prop}
theorem kqW {l:Ya Oper} {wc:Ya Nat} (h:kpb l wc (ancOf l)=true) {w j:Nat} {o:Oper} (f:l[w]?=some o) (e:isW wc w o=true) (b:w<j) (i:j<l.length):Anc l w j:=by
 simp only [kpb,jap,Prod.forall,jbe,jbr,decide_eq_false_iff_not] at h;have a:∀ {α:Type} {m:Ya α} {j:Nat} {x:α},m[j]?=some x->(x,j)∈m.zipIdx:=λh=>List.mem_zipIdx_iff_getElem?.2 (by simpa using h);rcases h o w (a f) with h | h
 ·rw [e] at h; cases h
 ·rcases h _ j (a (jaf i)) with h | h
  ·exact absurd b h
  ·exact keq (by simpa [jbw] using h)
theorem klU {Δ:Ya (FuncId×Ctr)} (B:Goods P Δ) {l:Ya Oper} (R:Rel P κ ln z c s env h n) {Kf:TS sem->sem.Ans ρ} {Kt:St->Prop}
  (hK:∀ κ' ln' z' s' a h' n',Ke c s.n κ ln κ' ln'->Rel P κ' ln' z' c s' a h' n'->Kf s'=some r->Kt ⟨a,h',n'⟩) (b:drawT P c Δ N l s Kf=some r):∃ (W:Nat->Bool) (anc:Nat->Ya Nat),kcz l=true/\kaY N l=true/\(∀ i j,i∈anc j->Anc l i j)/\(∀ w j,w<j->j<l.length->W w=true->Anc l w j)/\
   treeD P (l.map (·.dst)) W anc l 0 ⟨env,h,n⟩ [] Kt:=by
 unfold drawT at b;simp only at b;split at b
 ·rename_i m;simp only [jad] at m;obtain ⟨⟨⟨v,h2⟩,x⟩,u⟩:=m;refine ⟨λj=>match l[j]? with | some o=>isW (wcGo Δ l 0 (ownT s) []) j o | none=>false,λj=>(ancOf l).getD j [],v,u,λi j y=>keq y,λw j k A e=>?_,?_⟩
  ·dsimp only at e;split at e
   ·rename_i o f;exact kqW h2 f e k A
   ·cases e
  ·exact kcX B x (wc:=wcGo Δ l 0 (ownT s) []) (K:=Kt) hK l 0 .refl (jah _) (λo f=>jba.2 ⟨o,f,rfl⟩) (λq o t=>by simp only [jce,t]) R (λp hp=>by cases hp) b
 ·exact kaa b
theorem kqK {Δ:Ya (FuncId×Ctr)} (m:Goods P Δ) {l:Ya Oper} (R:Rel P κ ln z c s env h n) {Kf:TS sem->sem.Ans ρ}
  (hK:∀ κ' ln' z' s' a h' n',Ke c s.n κ ln κ' ln'->Rel P κ' ln' z' c s' a h' n'->Kf s'=some r->Q .normal ⟨a,h',n'⟩) (b:drawT P c Δ N l s Kf=some r):SatA P N D O l Q ⟨env,h,n⟩:=by
 obtain ⟨W,anc,f,h2,k,e,i⟩:=klU (N:=N) (Kt:=λst=>Q .normal st) m R hK b;exact SatA.of_tree f h2 k e i
theorem knq {f:Ya (Nat×Nat)->sem.Ans ρ}:∀ {l:Ya (Ya (Nat×Nat))},bthL (A:=sem) f l=some r->∀ x∈l,f x=some r
 | [],h=>kaa h
 | [x],h=>by
  intro y b;simp only [List.mem_singleton] at b;subst b;exact h
 | x::y::l,h=>by
  obtain ⟨e,h2⟩:=kny (show bthO _ _ _=some r from h);intro q a;rcases jbi.1 a with rfl | a
  ·exact e
  ·exact knq h2 q a
theorem kqR {Δ:Ya (FuncId×Ctr)} (m:Goods P Δ) {id:Nat} {cs:Ya Code} {l:Ya Oper} (R:Rel P κ ln z c s env h n) {Kf:TS sem->sem.Ans ρ}
  (hK:∀ κ' ln' z' s' a h' n',Ke c s.n κ ln κ' ln'->Rel P κ' ln' z' c s' a h' n'->Kf s'=some r->SatL P N D O cs Q ⟨a,h',n'⟩) (b:drawV P c Δ N l s Kf=some r):SatL P N D O (.region id l.toArray true::cs) Q ⟨env,h,n⟩:=by
 unfold drawV at b;split at b
 ·rename_i i;rw [jad] at i;refine Sat.drawV (Q:=thenQ (SatL P N D O cs Q) Q) (id:=id) i.1 i.2 (conf:=confX Δ (ownT { s with dy:=false }) l) (f:=3) λk e=>?_;have:=knq b k e;simp only at this;split at this
  ·rename_i hp;exact ⟨_,hp,kqK (Q:=thenQ (SatL P N D O cs Q) Q) m R hK this⟩
  ·exact kaa this
 ·exact kaa b
end
section
variable {P:Ye} {N:Nat} {D:DX} {O:Nat->Prop} {Q:Exit->St->Prop} {st:St} {μ:Mu} {w:World} {n:Nat} {h:AH} {G:IterG}
theorem kuj {args:Ya AV} {vs:Array Yd} {k:Nat} (f:vs.size=args.length) (a:∀ (j:Nat) (c:AV),args[j]?=some c->∃ u,vs[j]?=some u/\VR w O μ n c u) (s:Nat):VR w O μ n (lk (kar args) s) ((vs++Array.replicate k undef).getD s undef):=by
 simp only [kar,kos args 0 s,jdq,if_true,Nat.sub_zero];cases hs:args[s]? with
 | none=>simpa using VR.un _
 | some v=>
  obtain ⟨u,e,b⟩:=a s v hs;rw [jag,Array.getElem?_append_left (jaj.1 e).1,e];exact b
def rdO (P:Ye) (h:AH) (o:Oper) (env:Env) (v:AV):Prop:=∀ (n:Nat) (K:K3),K v h n->aop P env h n o K
def aopsR (P:Ye) (h:AH) (a:Ya (Yb Tmp)):Ya Oper->Env->(Env->Prop)->Prop
 | [],env,K=>K env
 | o::r,env,K=>
  match o.guard with
  | none=>∃ v,rdO P h o env v/\aopsR P h a r (putE env o.dst v) K
  | some (g,want)=>match kba a g with
   | some d=>match lk env d with
    | .sc (.bool b)=>if b=want then ∃ v,rdO P h o ((d,.sc (.bool want))::env) v/\aopsR P h a r (putE ((d,.sc (.bool want))::env) o.dst v) K else aopsR P h a r (putE ((d,.sc (.bool (!want)))::env) o.dst .ud) K
    | .ud=>aopsR P h a r (putE env o.dst .ud) K
    | _=>False
   | none=>False
theorem aopsR.plain {k:Ya (Yb Tmp)} {h:AH} {n:Nat} {K:St->Prop}:∀ {l:Ya Oper} {env:Env},aopsR P h k l env (λe=>K ⟨e,h,n⟩)->aops P k l ⟨env,h,n⟩ K
 | [],env,hk=>hk
 | o::r,env,hk=>by
  unfold aopsR at hk;unfold aops;cases m:o.guard with
  | none=>
   rw [m] at hk;obtain ⟨v,f,h2⟩:=hk;exact f _ _ (aopsR.plain h2)
  | some t=>
   obtain ⟨g,a⟩:=t;rw [m] at hk;simp only at hk ⊢;split at hk
   ·rename_i d p;rw [p];simp only at hk ⊢;split at hk
    ·rename_i b i;rw [i];simp only;refine ⟨λe=>?_,λe=>?_⟩
     ·rw [if_pos e] at hk;obtain ⟨v,f,h2⟩:=hk;exact f _ _ (aopsR.plain h2)
     ·rw [if_neg (by rw [e]; cases a <;> simp)] at hk;exact aopsR.plain hk
    ·rename_i i;rw [i];exact aopsR.plain hk
    ·exact hk.elim
   ·exact hk.elim
theorem aopsR.tree {k:Ya (Yb Tmp)} {h:AH} {n:Nat} {K:St->Prop}:∀ {l:Ya Oper} {env:Env} {j:Nat} {m:Ya Pn},aopsR P h k l env (λe=>K ⟨e,h,n⟩)->treeD P k (λ_=>false) (λ_=>[]) l j ⟨env,h,n⟩ m K
 | [],env,j,m,hk=>hk
 | o::r,env,j,m,hk=>by
  have i:∀ a:Env,(∃ v,rdO P h o a v/\aopsR P h k r (putE a o.dst v) (λe=>K ⟨e,h,n⟩))->stepT P (λ_=>false) (λ_=>[]) o j a h n m λs t=>treeD P k (λ_=>false) (λ_=>[]) r (j+1) s t K:=λa ⟨v,A,h2⟩=>by
   unfold stepT;rw [if_neg (by simp)];exact ⟨⟨j,o,a,v,(·= h)⟩,rfl,rfl,rfl,rfl,λC n1 E e u=>by cases e; exact A _ _ u,aopsR.tree h2⟩
  unfold aopsR at hk;unfold treeD;cases x:o.guard with
  | none=>
   rw [x] at hk;exact i env hk
  | some B=>
   obtain ⟨g,f⟩:=B;rw [x] at hk;simp only at hk ⊢;split at hk
   ·rename_i d y;rw [y];simp only at hk ⊢;split at hk
    ·rename_i b p;rw [p];simp only;refine ⟨λe=>?_,λe=>?_⟩
     ·rw [if_pos e] at hk;exact i _ hk
     ·rw [if_neg (by rw [e]; cases f <;> simp)] at hk;exact aopsR.tree hk
    ·rename_i p;rw [p];exact aopsR.tree hk
    ·exact hk.elim
   ·exact hk.elim
theorem PreY.of_tree {l:Ya Oper} {W:Nat->Bool} {anc:Nat->Ya Nat} {K:St->Prop} (B:kcz l=true) (k:kaY N l=true) (f:∀ i j,i∈anc j->Anc l i j) (hW:∀ w j,w<j->j<l.length->W w=true->Anc l w j)
  (E:treeD P (l.map (·.dst)) W anc l 0 st [] K):PreY P N D l st K:=by
 intro A μ a w Q' hs M;obtain ⟨x,u⟩:=hs.hr.drew;have p:SR N D A μ ⟨st.env,st.h,st.n⟩ a w.drew:=hs.step u x;have L:Can P l st W 0 (λ_=>st.env) (λ_=>.ud) (λ_=>false) st.h [] (λ_=>False):=⟨λs=>rfl,λj o y=>by omega,λj o y=>by omega,λj o y=>by omega⟩;obtain ⟨R,I,X,S,t,e,g1,F,Z,g4,Y,C⟩:=Can.adv (anc:=anc) (K:=K) l.length 0 (n:=st.n) (env:=st.env) (by omega) L (λs=>rfl) (by simpa using E) (λi m=>m.elim);refine krR (D:=D) (O:=A) (st0:=st) (K:=K) B k f hW (μ0:=μ) (w0:=w) (λv env h n T a' w' H hl b U=>M _ T a' w' H ⟨b.hr,b.size,b.defers,λs=>?_,b.gs,b.gi.evo b.hr.refl λ_=>.inl (hl GS).symm⟩)
  _ _ (λ_=>False) R I X S t e st.env st.h st.n μ a w.drew (by simp) (λi m=>by simp [jag,m]) (λi h=>h.elim) F (λj o _ h=>h.elim) ⟨λs _=>rfl,λs i oi h=>h.elim⟩ Z Y C p x ⟨List.range l.length,by simp,λi m _=>jec.2 m⟩
 have:=b.env s;rw [hl s] at this; exact this
theorem kuy {α:Type} {l:Ya α} {k:Nat} {y:α} (h:l[k]?=some y):l=l.take k++y::l.drop (k+1)/\(l.take k).length=k:=by
 obtain ⟨a,e⟩:=jae.1 h;exact ⟨by rw [<-e,<-jbd a,jdv],by rw [jbh]; omega⟩
variable {l:Ya Oper} {cs:Ya Code} {env:Env}
theorem SatL.rreg {id:Nat} (a:kaY N l=true) (b:aopsR P h (l.map (·.dst)) l env λe=>SatL P N D O cs Q ⟨e,h,n⟩):SatL P N D O (.region id l.toArray false::cs) Q ⟨env,h,n⟩:=
 Sat.region a b.plain
theorem SatL.rregD {id:Nat} (f:P.follows .mixedOrders=true) (a:kcz l=true) (b:kaY N l=true) (k:aopsR P h (l.map (·.dst)) l env λe=>SatL P N D O cs Q ⟨e,h,n⟩):SatL P N D O (.region id l.toArray true::cs) Q ⟨env,h,n⟩:=
 Sat.draw0 f (SatA.of_tree a b (W:=λ_=>false) (anc:=λ_=>[]) (λi j h=>by cases h) (λw j _ _ h=>by cases h) k.tree)
variable {o:Oper}
theorem rdO.move {x:Yf} {v:AV} (b:o.op = .move x) (e:ev env x=v):rdO P h o env v:=λn K a=>by unfold aop; rw [b]; simp only; rw [e]; exact a
theorem rdO.assign {x:Yf} {v:AV} (b:o.op = .assign x) (e:ev env x=v):rdO P h o env v:=λn K a=>by unfold aop; rw [b]; simp only; rw [e]; exact a
theorem rdO.load {T:Yc} {x:Yf} {v:AV} {cs:Ya AV} (b:o.op = .load T x) (e:deref h (ev env x)=some (v::cs)) (hT:aggO P T=some false):rdO P h o env v:=λn K a=>by
 unfold aop; rw [b]; simp only; rw [e]; simp only [loadK,hT]; exact ⟨v,rfl,a⟩
theorem rdO.bin {e:BinOp} {T A:Yc} {x y:Yf} {v:AV} (m:o.op = .binOp e T x y A) {k f:IntKind} {a b:Int} (u:ev env x = .sc (.int k a)) (p:ev env y = .sc (.int f b)) (t:∀ K:AV->Prop,K v->abinI e k a f b K):rdO P h o env v:=λn K i=>by
 unfold aop; rw [m]; simp only; rw [u,p]; exact t (λv=>K v h n) i
theorem rdO.not {T:Yc} {x:Yf} {v:AV} (b:Bool) (e:o.op = .unOp .not T x) (i:ev env x = .sc (.bool b)) (f:AV.sc (.bool !b)=v):rdO P h o env v:=λn K a=>by subst f; unfold aop; rw [e]; simp only; rw [i]; exact a
theorem rdO.call {c:Call} {f:Yf} {g:FuncId} {args:Ya AV} {r:AV} (e:o.op = .call c) (m:c.callee = .value f) (i:ev env f = .fn g []) (k:c.args.toList.map (ev env)=args) (hp:PC P g args (·= r)) (a:FreeL args):rdO P h o env r:=λn K b=>by
 unfold aop; rw [e]; simp only; rw [m]; simp only [callK]; rw [i]; simp only; rw [k,jbf]; exact hp.call1 a b
theorem aop.store {T:Yc} {p x:Yf} {id k:Nat} {T':Yc} {a b:AV} {K:K3} (f:o.op = .store T p x) (hp:ev env p = .own id 0 0) (hB:h id=some (.cells k T' [[a]])) (i:kax (ev env x)=some [b]) (hT:P.cellsOf T=1) (e:K .ud (updH h id (.cells k T' [[b]])) n):aop P env h n o K:=by
 unfold aop; rw [f]; simp only; rw [hp]; simp only [kbl,hB,i]; exact ⟨hT.symm,by simp,by simp,e⟩
theorem aops.cons {a:Ya (Yb Tmp)} {r:Ya Oper} {K:St->Prop} (e:o.guard=none) (b:aop P env h n o λv h n=>aops P a r ⟨putE env o.dst v,h,n⟩ K):aops P a (o::r) ⟨env,h,n⟩ K:=by unfold aops; rw [e]; exact b
end
section
variable {P:Ye} {D:DX}
structure Jd where
 e:List (Nat×TV sem)
 κ:Nat->Option Nat
 ln:Nat->Nat
structure RJ (J:Jd) (P:Program) (κ:Nat->Option Nat) (ln:Nat->Nat) (z:AH) (c:Cx sem) (s:TS sem) (env:Env) (h:AH) (n:Nat):Prop where
 R:Rel P κ ln z c s env h n
 j:∀ x v id,alk J.e x=some v->v.has id=true->κ id=J.κ id/\ln id=J.ln id
 w:∀ x v,alk J.e x=some v->alk c.e0 x=some v
section
variable {κ:Nat->Yb Nat} {ln:Nat->Nat} {z:AH} {c:Cx sem} {s:TS sem} {env:Env} {h:AH} {n:Nat} {J:Jd}
theorem RJ.ke (R:RJ J P κ ln z c s env h n) (W:CxWf c) {κ':Nat->Yb Nat} {ln':Nat->Nat} {z':AH} {s':TS sem} {a:Env} {h':AH} {n':Nat} (ke:Ke c s.n κ ln κ' ln') (m:Rel P κ' ln' z' c s' a h' n'):RJ J P κ' ln' z' c s' a h' n':=
 ⟨m,λx v id e b=>by
  obtain ⟨i,f⟩:=ke id (R.R.has_lt W (kcr (R.w x v e) b));obtain ⟨k,p⟩:=R.j x v id e b;exact ⟨i.trans k,(f (kcr (R.w x v e) b)).trans p⟩,R.w⟩
theorem RJ.into (R:RJ J P κ ln z c s env h n) {l:La} (a:okLa l c s=true):RJ J P κ ln z (inCx l c s) ⟨s.env.filter (λx=>!l.keep.contains x.1),s.hp.filter (λx=>!l.gids.contains x.1),s.n,s.dy⟩ env h n:=
 ⟨R.R.into a,R.j,λx v b=>by
  rw [keW,if_neg]
  ·exact R.w x v b
  ·intro f;have e:=(kcw a).1 x (by simpa using f);rw [R.w x v b] at e; cases e⟩
theorem kfE {l:La} {k:TS sem} (p:okLa l c s=true) (t:∀ id,(inCx l c s).has id=true->id<s.n) (R:RJ J P κ ln z (inCx l c s) k env h n) {x:l.head.ty.den} (hp:pack (inCx l c s) s.n l.head k=some x) :
  ∃ i a z2,RJ J P i a z2 (inCx l c s) (kad l.head s.n x) env h n:=by
 obtain ⟨i,a,z2,m,e⟩:=ktY p t R.R hp;exact ⟨i,a,z2,m,λx v id b f=>⟨(e id (kcr (R.w x v b) f)).1.trans (R.j x v id b f).1,(e id (kcr (R.w x v b) f)).2.trans (R.j x v id b f).2⟩,R.w⟩
theorem kgf {l:La} {p:TS sem} {κ0:Nat->Yb Nat} {k:Nat->Nat} {z0:AH} {b:Env} {u:AH} {n0:Nat} (t:RJ J P κ0 k z0 c s b u n0) (A:okLa l c s=true) (B:∀ id,(inCx l c s).has id=true->id<l.n) (R:RJ J P κ ln z (inCx l c s) p env h n) {x:l.out.ty.den} (hp:pack (inCx l c s) l.n l.out p=some x) :
  ∃ m a z2,RJ J P m a z2 c (outTS l c s x) env h n:=by
 obtain ⟨m,a,z2,y,e⟩:=krn t.R A B R.R hp;exact ⟨m,a,z2,y,λx v id i f=>⟨(e id (kcr (R.w x v i) f)).1.trans (R.j x v id i f).1,(e id (kcr (R.w x v i) f)).2.trans (R.j x v id i f).2⟩,t.w⟩
end
structure KonOk (D:DX) (J:Jd) (P:Program) {r ρ:Ty} (Q:Exit->St->Prop) (RetQ:r.den->St->Prop) (c:Cx sem) (K:Kon sem r ρ) (rr:ρ.den):Prop where
 nrm:∀ κ ln z s env h n,RJ J P κ ln z c s env h n->K.nrm s=some rr->Q .normal ⟨env,h,n⟩
 ext:∀ id κ ln z s env h n,RJ J P κ ln z c s env h n->K.ext id s=some rr->Q (.exit id) ⟨env,h,n⟩
 retv:∀ v st,RetQ v st->K.retv v=some rr->Q .ret st
 stop:D.it.isSome=true->∀ st,lk st.env GS = .ud->Q .ret st
def YOk (P:Ye) (D:DX) (Δ:Ya (FuncId×Ctr)) (J:Jd):Prop:=
 ((alk Δ IM).isNone=true->D.it=none)/\((alk Δ IM).isSome=true->∃ G,D.it=some G/\khJ P G/\
  (∀ nm ts F,(alk Δ IM).bind (λC=>C.its.head?)=some ⟨nm,[.nt],ts,F⟩->∃ xs,F (0:Nat)=some xs/\G.xs=xs.map (avsL ts))/\alk J.e 0=some (.yl 0)/\J.κ 0=some G.l)
theorem kle {α β:Type} {F:α->Yb (α⊕β)} {k:Nat} {x:α} {e:β} (h:itN F k x=some e):∃ a,k=a+1/\((∃ y,F x=some (.inl y)/\itN F a y=some e)\/F x=some (.inr e)):=by
 cases k with
 | zero=>simp [itN] at h
 | succ k=>
  refine ⟨k,rfl,?_⟩;simp only [itN] at h;split at h
  ·cases h
  ·rename_i y f; exact .inl ⟨y,f,h⟩
  ·rename_i w b; cases h; exact .inr b
theorem kst {α β:Type} {F:α->Yb (α⊕β)} {x:α} {e:β} (h:iter F x=some e):∃ G,G=F/\iter G x=some e:=⟨F,rfl,h⟩
theorem ktZ {α:Type} (l:Ya α):lenI l=(l.length:Int):=rfl
theorem kpl:∀ (ts:Ya Ty) (x:(tup ts).den),(unT sem ts x).length=ts.length
 | [],_=>rfl
 | [t],_=>rfl
 | t::u::ts,x=>by simp [unT,kpl (u::ts)]
theorem kiK {α:Type}:∀ {l:Ya α} {k:Nat} {y:α},l[k]?=some y->l=l.take k++y::l.drop (k+1)/\(l.take k).length=k
 | [],k,y,h=>by simp at h
 | x::l,0,y,h=>by simp at h; subst h; exact ⟨rfl,rfl⟩
 | x::l,k+1,y,h=>by
  obtain ⟨a,h2⟩:=kiK (l:=l) (k:=k) (y:=y) (by simpa using h);refine ⟨?_,by simp [h2]⟩;simp only [List.take_succ_cons,List.drop_succ_cons,jdj];rw [<-a]
theorem Rel.swap {κ:Nat->Yb Nat} {ln:Nat->Nat} {z:AH} {c:Cx sem} {s:TS sem} {env a:Env} {h:AH} {n:Nat} (R:Rel P κ ln z c s env h n) (b:∀ x,TVR P κ ln z s.n (tlk c s x) (lk a x)):Rel P κ ln z c s a h n:=
 ⟨b,R.blk,R.lt,R.inj,R.zin,R.zout,R.bnd,R.hn,R.e0,R.g,R.dy,R.zk,R.fam⟩
theorem koR:∀ (ts:Ya Ty) (x:(tup ts).den),(avsL ts x).length=ts.length
 | [],_=>rfl
 | [t],_=>rfl
 | t::u::ts,x=>by simp [avsL,koR (u::ts)]
theorem ksO {κ:Nat->Yb Nat} {ln:Nat->Nat} {z:AH} {N:Nat} {c:Cx sem} (hp:Ya (Nat×Yb (TB sem))) (m:Nat) (dy:Bool):∀ (e:Ya Tmp) (l:Ya ((t:Ty)×t.den)) (asZ:Ya AV) (E:Ya (Nat×TV sem)) (env:Env),l.length=e.length->TVRs P κ ln z N (l.map λy=>TV.c y.1 y.2) asZ->(∀ x,TVR P κ ln z N (tlk c ⟨E,hp,m,dy⟩ x) (lk env x))->
  ∀ x,TVR P κ ln z N (tlk c ⟨rndE (A:=sem) e l E,hp,m,dy⟩ x) (lk (kgx e asZ env) x)
 | [],l,asZ,E,env,hl,hs,he,x=>by simpa [rndE,kgx] using he x
 | p::e,[],asZ,E,env,hl,hs,he,x=>by simp at hl
 | p::e,y::l,_,E,env,hl,.cons _ a _ asZ hv hs,he,x=>by
  refine ksO hp m dy e l asZ ((p,.c y.1 y.2)::E) ((p,a)::env) (by simpa using hl) hs (λt=>?_) x;have f:tlk (A:=sem) c ⟨(p,.c y.1 y.2)::E,hp,m,dy⟩ t=if t=p then .c y.1 y.2 else tlk c ⟨E,hp,m,dy⟩ t:=by
   unfold tlk;simp only [alk];by_cases b:t=p
   ·rw [if_pos b,if_pos b]
   ·rw [if_neg b,if_neg b]
  rw [f];simp only [lk];by_cases b:t=p
  ·rw [if_pos b,if_pos b]; exact hv
  ·rw [if_neg b,if_neg b]; exact he t
theorem kvg (a:Ya Tmp):∀ (l:Ya ((t:Ty)×t.den)) (E:Ya (Nat×TV sem)) {x:Nat} {v:TV sem},alk (rndE (A:=sem) a l E) x=some v->x∈a\/alk E x=some v:=by
 induction a with
 | nil=>intro l E x v h; exact .inr h
 | cons p a b=>
  intro l E x v h;cases l with
  | nil=>exact .inr h
  | cons y l=>
   rcases b l ((p,.c y.1 y.2)::E) h with h | h
   ·exact .inl (jbm _ h)
   ·simp only [alk] at h;split at h
    ·rename_i e; exact .inl (by simp [e])
    ·exact .inr h
theorem AR.at:∀ {ts:Ya Ty} {x:(tup ts).den} {l:Ya AV},AR P ts x l->∀ {j:Nat} {a:AV},l[j]?=some a->∃ (t:Ty) (y:t.den),ts[j]?=some t/\A1 P t y a
 | [],_,l,h,j,a,hj=>by subst h; simp at hj
 | [t],x,l,⟨b,e,h⟩,j,a,hj=>by
  subst e;cases j with
  | zero=>simp at hj; subst hj; exact ⟨t,x,rfl,h⟩
  | succ j=>simp at hj
 | t::u::ts,x,l,⟨b,l',e,h,h'⟩,j,a,hj=>by
  subst e;cases j with
  | zero=>simp at hj; subst hj; exact ⟨t,x.1,rfl,h⟩
  | succ j=>exact AR.at h' (by simpa using hj)
theorem Rel.ownC {κ:Nat->Yb Nat} {ln:Nat->Nat} {z hE:AH} {c:Cx sem} {s:TS sem} {env:Env} {h:AH} {n N:Nat} (R:Rel P κ ln z c s env h n) {vs:Ya (TV sem)} {asZ b:Ya AV} {ts:Ya Ty} {x:(tup ts).den} (hT:TVRs P κ ln z N vs asZ) (hs:SnapL hE asZ b) (hA:AR P ts x b) (I:kmA c s ts vs=true):OwnC hE asZ b:=by
 unfold kmA at I;simp only [jad,jap,jak] at I;obtain ⟨⟨o1,o2⟩,o3⟩:=I;have hl:=hT.len;have key:∀ (j:Nat) (a:AV),asZ[j]?=some a->∃ id q B,vs[j]?=some (.ptr id 0)/\a = .own q 0 0/\κ id=some q/\thp c s id=some B:=λj a m=>by
  have aa:=(jae.1 m).1;have p:=jaf (l:=vs) (i:=j) (by omega);generalize vs[j]'(by omega)=v at p;obtain ⟨a',X,F⟩:=hT.at p;rw [m] at X; cases X;have h2:=o2 v (jai p);cases v <;> first | (simp at h2; done) | skip
  rename_i id k;cases k with
  | succ k=>simp at h2
  | zero=>
   obtain ⟨B,hB⟩:=jan.1 h2;cases F with
   | ptr _ _ q _ hk=>exact ⟨id,q,B,p,rfl,hk,hB⟩
 refine ⟨λj a m=>?_,λj Y m e=>?_⟩
 ·obtain ⟨id,q,B,H,rfl,U,M⟩:=key j a m;have ab:=hs.len;have f:=jaf (l:=b) (i:=j) (by have:=(jae.1 m).1; omega);generalize b[j]'(by have:=(jae.1 m).1; omega)=a' at f;obtain ⟨t,y,Z,hA1⟩:=hA.at f;have S:=o1 t (jai Z);obtain ⟨v,p⟩:∃ v,a' = .fp [.sc v]:=by
   cases t <;> first | (simp at S; done) | skip
   rename_i t;cases t <;> first | (simp at S; done) | exact ⟨_,hA1.2⟩
  subst p;have E:=hs.at j _ _ m f;cases E with
  | own _ _ _ k T es e _ hB=>exact ⟨q,k,T,es,v,rfl,hB,f⟩
 ·have A:=jaf m;rw [A] at e;obtain ⟨id,q,B,H,h2,U,M⟩:=key j _ A;obtain ⟨ac,q',B',K,u,L,C⟩:=key Y _ e.symm;rw [h2] at u; cases u;have:=R.inj _ _ _ _ _ M C U L;subst this;refine (List.getElem?_inj (by simpa using (jae.1 H).1) o3).1 ?_;rw [jas,jas,H,K]
theorem kia {Δ:Ya (FuncId×Ctr)} (hΔ:Goods P Δ) {An:Nat->(A:Alg)->Cx A->TS A->Yb La} {Y:Nat} :
  ∀ (ab:Nat) {O:Nat->Prop} {r:Ty} {ac:Cx sem->TS sem->Yb r.den} {J:Jd} {RetQ:r.den->St->Prop} (an:∀ (c:Cx sem) κ ln s env h n v,CxWf c->RJ J P κ ln ahN c s env h n->ac c s=some v->RetQ v ⟨env,h,n⟩) (hY:YOk P D Δ J) {ρ:Ty} (c:Cx sem) (cs:Ya Code) (K:Kon sem r ρ) (s:TS sem) (Q:Exit->St->Prop) (rr:ρ.den) (κ:Nat->Yb Nat) (ln:Nat->Nat) (z:AH) (env:Env) (h:AH) (n:Nat),CxWf c->RJ J P κ ln z c s env h n->KonOk D J P Q RetQ c K rr->
   mach P Δ An Y ab ac c cs K s=some rr->SatL P Y D O cs Q ⟨env,h,n⟩
 | 0,O,r,ac,J,RetQ,an,hY,ρ,c,cs,K,s,Q,rr,κ,ln,z,env,h,n,W,R,ok,M=>by simp only [mach] at M; exact kaa M
 | ab+1,O,r,ac,J,RetQ,an,hY,ρ,c,cs,K,s,Q,rr,κ,ln,z,env,h,n,W,R,ok,M=>by
  have aC:=@kia Δ hΔ An Y ab;have IH:=@aC O r ac J RetQ an hY;cases cs with
  | nil=>simp only [mach] at M; exact SatL.nil (ok.nrm _ _ _ _ _ _ _ R M)
  | cons cd cs=>
   cases cd <;> simp only [mach] at M;case skip=>exact SatL.skip (IH _ _ _ _ _ _ _ _ _ _ _ _ W R ok M)
   case seq a b=>exact SatL.seq (IH _ _ _ _ _ _ _ _ _ _ _ _ W R ok M)
   case ret=>
    split at M
    ·rename_i v hv;refine SatL.wk R.R λenv h R1=>?_;exact SatL.ret (ok.retv v _ (an _ _ _ _ _ _ _ _ W ⟨R1,R.j,R.w⟩ (by exact hv)) M)
    ·exact kaa M
   case exit id=>exact SatL.exit (ok.ext id _ _ _ _ _ _ _ R M)
   case region id ops aH=>
    refine SatL.wk R.R λenv h R1=>?_;replace R:RJ J P κ ln ahN c { s with dy:=false } env h n:=⟨R1,R.j,R.w⟩;clear R1;have bj:∀ (c:Cx sem) (W:CxWf c) (s:TS sem) {κ ln z env h n} (R:RJ J P κ ln z c { s with dy:=false } env h n) {ρ':Ty} (Kf:TS sem->sem.Ans ρ') (w:ρ'.den),(∀ κ ln z s' L h' n',RJ J P κ ln z c s' L h' n'->Kf s'=some w->SatL P Y D O cs Q ⟨L,h',n'⟩)->
      (if (okD c (ops.toList.map (·.dst))&&kaY Y ops.toList)=true then (if aH=true then drawV P c Δ Y ops.toList { s with dy:=false } Kf else xops P c Δ (ops.toList.map (·.dst)) ops.toList { s with dy:=false } Kf) else sem.fail "slot that stays")=some w->SatL P Y D O (.region id ops aH::cs) Q ⟨env,h,n⟩:=by
     intro c W s κ ln z env h n R ρ' Kf w hK aw;split at aw
     ·rename_i hc;rw [jad] at hc;split at aw
      ·rename_i hd;subst hd;have:=kqR (N:=Y) (D:=D) (O:=O) (Q:=Q) (id:=id) hΔ R.R (λκ' ln' z' s' L h' n' ke R' u=>hK κ' ln' z' s' L h' n' (R.ke W ke R') u) aw;rw [show ops.toList.toArray=ops from rfl] at this;exact this
      ·rename_i hd;rw [jcv] at hd;subst hd;have:=Sat.region (P:=P) (N:=Y) (D:=D) (O:=O) (Q:=thenQ (SatL P Y D O cs Q) Q) (st:=⟨env,h,n⟩) (id:=id) hc.2 (kbT hΔ hc.1 (K:=λst=>SatL P Y D O cs Q st) (λκ' ln' z' s' L h' n' ke R' u=>hK κ' ln' z' s' L h' n' (R.ke W ke R') u) ops.toList .refl (jah _) (λo ho=>jba.2 ⟨o,ho,rfl⟩) R.R aw);rw [show ops.toList.toArray=ops from rfl] at this;exact this
     ·exact kaa aw
    split at M
    ·
     rename_i k aL;have hIM:(alk Δ IM).isSome=true:=by
      unfold yIdx at aL;split at aL
      ·cases aL
      ·rename_i hn; cases hh:alk Δ IM with
       | none=>rw [hh] at hn; exact absurd rfl hn
       | some C=>rfl
     obtain ⟨G,hD,okG,hIF,hJ0,hJκ⟩:=hY.2 hIM;split at M
     ·exact kaa M
     rename_i y ai;obtain ⟨Z,aR⟩:=kiK ai;split at M
     rotate_left
     ·exact kaa M
     rename_i hc;simp only [jad] at hc;obtain ⟨⟨⟨aG,aE⟩,bm⟩,bb⟩:=hc;have bQ:y.guard=none:=by simpa using bm
     have hdstM:∀ (l:Ya Oper),(∀ o∈l,o∈ops.toList)->∀ o∈l,o.dst∈ops.toList.map (·.dst):=λl hl o ho=>jba.2 ⟨o,hl o ho,rfl⟩;have bK:∀ o∈ops.toList.take k,o∈ops.toList:=λo ho=>jdd ho;have aV:∀ o∈ops.toList.drop (k+1),o∈ops.toList:=λo ho=>jdf ho;have bE:y∈ops.toList:=jai ai;have bt:∀ d,y.dst=some d->alk c.e0 d=none:=λd hd=>by
      have:=jap.1 (show (ops.toList.map (·.dst)).all _=true from aG) (y.dst) (jba.2 ⟨y,bE,rfl⟩);rw [hd] at this; simpa using this
     have aT:∀ κ1 ak z1 s1 ah h1 n1,Ke c s.n κ ln κ1 ak->Rel P κ1 ak z1 c s1 ah h1 n1->klL (A:=sem) c Δ s1 y (λs2=>xops P c Δ (ops.toList.map (·.dst)) (ops.toList.drop (k+1)) s2 λs3=>mach P Δ An Y ab (A:=sem) (r:=.un) (ρ:=.un) kmX c cs krm s3)
       (λs2=>xops P c Δ (ops.toList.map (·.dst)) (ops.toList.drop (k+1)) s2 λs3=>mach P Δ An Y ab ac c cs K s3)=some rr->YieldK P G (ops.toList.map (·.dst)) y (ops.toList.drop (k+1)) (λst=>SatL P Y D O cs Q st) ⟨ah,h1,n1⟩:=λκ1 ak z1 s1 ah h1 n1 ke R1 bH=>by
      have aB:=R.ke W ke R1;have bJ:κ1 0=some G.l:=by rw [(aB.j 0 (.yl 0) 0 hJ0 (by simp [TV.has])).1]; exact hJκ
      refine kqg hIF W R1 bJ bt bH (λs2 aq R2 bM al=>?_) (λs2 aq w0 R2 bM al=>?_)
      ·exact kbT hΔ aG (K:=λst=>SatL P Y D O cs Q st) (λκ' ln' z' s' L h' n' aO R' u=>IH _ _ _ _ _ _ _ _ _ _ _ _ W ((⟨R2,aB.j,aB.w⟩:RJ J P κ1 ak ahN c s2 aq ah0 n1).ke W aO R') ok u) _ .refl (jah _) (hdstM _ aV) R2 al
      ·refine kbT hΔ aG (K:=λst=>SatL P Y D O cs Q st) (λκ' ln' z' s' L h' n' aO R' u=>?_) _ .refl (jah _) (hdstM _ aV) R2 al;refine @aC O .un _ J (λ_ st=>lk st.env GS = .ud) (λc κ ln s env h n v W R hv=>?_) hY .un c cs _ s' Q w0 κ' ln' z' L h' n' W ((⟨R2,aB.j,aB.w⟩:RJ J P κ1 ak ahN c s2 aq ah0 n1).ke W aO R') ⟨λ_ _ _ _ _ _ _ _ hf=>kaa hf,λ_ _ _ _ _ _ _ _ _ hf=>kaa hf,λv st hv _=>ok.stop (by rw [hD]; rfl) st hv,ok.stop⟩ u;unfold kmX at hv;split at hv
       ·rename_i bA;have hR:=R.R.env GS;have:tlk c s GS = .ud:=by unfold tlk; rw [bA]
        rw [this] at hR;show lk env GS = .ud;generalize lk env GS=a at hR;cases hR; rfl
       ·cases hv
     have hopsA:(ops.toList.take k++y::ops.toList.drop (k+1)).toArray=ops:=by rw [<-Z]
     split at M
     ·rename_i aF;subst aF;simp only [Bool.not_true,jda,jad] at bb;obtain ⟨⟨bx,bl⟩,be⟩:=bb;obtain ⟨W',anc,t1,t2,t3,t4,t5⟩:=klU (N:=Y) (Kt:=λst=>YieldK P G (ops.toList.map (·.dst)) y (ops.toList.drop (k+1)) (λst=>SatL P Y D O cs Q st) st) hΔ R.R aT M;have:=Sat.drawY (P:=P) (N:=Y) (D:=D) (O:=O) (Q:=thenQ (SatL P Y D O cs Q) Q) (id:=id) hD okG bx (by rw [<-Z]; exact bl) (by rw [<-Z,aR]; exact be) (by rw [<-Z]; exact aE) (PreY.of_tree t1 t2 t3 t4 (by rw [<-Z]; exact t5));rw [hopsA] at this;exact this
     ·rename_i aF;rw [jcv] at aF;subst aF;have hx:=kbT hΔ aG (K:=λst=>YieldK P G (ops.toList.map (·.dst)) y (ops.toList.drop (k+1)) (λst=>SatL P Y D O cs Q st) st) aT (ops.toList.take k) (s:={ s with dy:=false }) .refl (jah _) (hdstM _ bK) R.R M;have:=Sat.regionY (P:=P) (N:=Y) (D:=D) (O:=O) (Q:=thenQ (SatL P Y D O cs Q) Q) (id:=id) (st:=⟨env,h,n⟩) hD okG (by rw [<-Z]; exact aE) (by rw [<-Z]; exact hx);rw [hopsA] at this;exact this
    split at M
    ·exact bj c W s R _ rr (λκ ln z s' L h' n' R' u=>IH _ _ _ _ _ _ _ _ _ _ _ _ W R' ok u) M
    ·rename_i a ha;split at M
     ·exact kaa M
     ·rename_i T;replace T:okLa a c s=true:=by simpa using T
      obtain ⟨y,hy,M⟩:=jaa.1 M;have R0:RJ J P κ ln ahN c s env h n:=⟨⟨R.R.env,R.R.blk,R.R.lt,R.R.inj,R.R.zin,R.R.zout,R.R.bnd,R.R.hn,R.R.e0,R.R.g,λ_=>rfl,R.R.zk,R.R.fam⟩,R.j,R.w⟩;have W':=kjU R0.R W T;have R1:=R0.into T;have br:RJ J P κ ln ahN (inCx a c s) { (⟨s.env.filter (λx=>!a.keep.contains x.1),s.hp.filter (λx=>!a.gids.contains x.1),s.n,s.dy⟩:TS sem) with dy:=false } env h n:=⟨⟨R1.R.env,R1.R.blk,R1.R.lt,R1.R.inj,R1.R.zin,R1.R.zout,R1.R.bnd,R1.R.hn,R1.R.e0,R1.R.g,λ_=>rfl,R1.R.zk,R1.R.fam⟩,R1.j,R1.w⟩;have aj:∀ id,(inCx a c s).has id=true->id<a.n:=λid U=>jar (R1.R.has_lt W' U) (kcw T).2.2.2.2.2.2;refine bj (inCx a c s) W' ⟨s.env.filter (λx=>!a.keep.contains x.1),s.hp.filter (λx=>!a.gids.contains x.1),s.n,s.dy⟩ br _ y (λκ ln z s' L h' n' R' u=>?_) hy;split at u
      ·rename_i y' aA;cases u;obtain ⟨κ2,aa,z2,R2⟩:=kgf R0 T aj R' aA;exact IH _ _ _ _ _ _ _ _ _ _ _ _ W R2 ok M
      ·exact kaa u
   case cond x a b=>
    have hx:=R.R.ev x;split at M
    ·rename_i he;rw [he] at hx;generalize ao:ev env x=av at hx;cases hx;exact SatL.condT ao rfl (IH _ _ _ _ _ _ _ _ _ _ _ _ W R ok M)
    ·rename_i he;rw [he] at hx;generalize ao:ev env x=av at hx;cases hx;exact SatL.condF ao rfl (IH _ _ _ _ _ _ _ _ _ _ _ _ W R ok M)
    ·rename_i v he;rw [he] at hx;have ao:=hx.b_inv;split at M
     ·rcases kbS M with ⟨hb,M⟩ | ⟨hb,M⟩
      ·exact SatL.condT ao hb (IH _ _ _ _ _ _ _ _ _ _ _ _ W R ok M)
      ·exact SatL.condF ao hb (IH _ _ _ _ _ _ _ _ _ _ _ _ W R ok M)
     ·rename_i l hl;split at M
      ·exact kaa M
      ·rename_i T;replace T:okLa l c s=true:=by simpa using T
       have W':=kjU R.R W T;have R1:=R.into T;have aj:∀ id,(inCx l c s).has id=true->id<l.n:=λid U=>jar (R1.R.has_lt W' U) (kcw T).2.2.2.2.2.2;refine Sat.ofL (Q:=thenQ (SatL P Y D O cs Q) Q) ?_;have aJ:∀ {ρ':Ty} (K':Kon sem r ρ') (w:ρ'.den),KonOk D J P (thenQ (SatL P Y D O cs Q) Q) RetQ (inCx l c s) K' w->sem.ite v (mach P Δ An Y ab ac (inCx l c s) [a] K' ⟨s.env.filter (λx=>!l.keep.contains x.1),s.hp.filter (λx=>!l.gids.contains x.1),s.n,s.dy⟩) (mach P Δ An Y ab ac (inCx l c s) [b] K' ⟨s.env.filter (λx=>!l.keep.contains x.1),s.hp.filter (λx=>!l.gids.contains x.1),s.n,s.dy⟩)=some w->SatL P Y D O [.cond x a b] (thenQ (SatL P Y D O cs Q) Q) ⟨env,h,n⟩:=λK' w aU u=>by
        rcases kbS u with ⟨hb,u⟩ | ⟨hb,u⟩
        ·exact SatL.condT ao hb (IH _ _ _ _ _ _ _ _ _ _ _ _ W' R1 aU u)
        ·exact SatL.condF ao hb (IH _ _ _ _ _ _ _ _ _ _ _ _ W' R1 aU u)
       split at M
       ·obtain ⟨w,hw,M⟩:=jaa.1 M;refine aJ _ w ⟨λκ ln z s' L h' n' R' u=>?_,λid κ ln z s' L h' n' R' u=>kaa u,λv' st ap u=>?_,ok.stop⟩ hw
        ·dsimp only at u;split at u
         ·rename_i y' aA;cases u;obtain ⟨κ2,aa,z2,R2⟩:=kgf R T aj R' aA;exact IH _ _ _ _ _ _ _ _ _ _ _ _ W R2 ok M
         ·exact kaa u
        ·cases u;exact ok.retv v' st ap M
       ·obtain ⟨w,hw,M⟩:=jaa.1 M;refine aJ _ w ⟨λκ ln z s' L h' n' R' u=>?_,λid κ ln z s' L h' n' R' u=>kaa u,λv' st ap u=>kaa u,ok.stop⟩ hw;dsimp only at u;split at u
        ·rename_i y' aA;cases u;obtain ⟨κ2,aa,z2,R2⟩:=kgf R T aj R' aA;exact IH _ _ _ _ _ _ _ _ _ _ _ _ W R2 ok M
        ·exact kaa u
    ·exact kaa M
   case block id b=>
    have bo:∀ b',mach P Δ An Y ab ac c [b'] (⟨λs=>mach P Δ An Y ab ac c cs K s,λar s=>if ar=id then mach P Δ An Y ab ac c cs K s else K.ext ar s,K.retv⟩:Kon sem r ρ) s=some rr->SatL P Y D O (.block id b'::cs) Q ⟨env,h,n⟩:=λb' aM=>by
     refine SatL.block (IH _ _ _ _ (kcB id (thenQ (SatL P Y D O cs Q) Q)) _ _ _ _ _ _ _ W R ⟨λκ ln z s' L h' n' R' u=>?_,λar κ ln z s' L h' n' R' u=>?_,λv st hv u=>?_,ok.stop⟩ aM)
     ·exact IH _ _ _ _ _ _ _ _ _ _ _ _ W R' ok u
     ·dsimp only at u;simp only [kcB];split at u
      ·rename_i e;rw [if_pos e];exact IH _ _ _ _ _ _ _ _ _ _ _ _ W R' ok u
      ·rename_i e;rw [if_neg e];exact ok.ext ar _ _ _ _ _ _ _ R' u
     ·exact ok.retv v st hv u
    cases b with
    | loop b=>
     dsimp only at M;split at M
     ·exact kaa M
     ·rename_i l hl;split at M
      ·exact kaa M
      ·rename_i T;replace T:okLa l c s=true:=by simpa using T
       have W':=kjU R.R W T;have R1:=R.into T;have am:∀ id,(inCx l c s).has id=true->id<s.n:=λid U=>R1.R.has_lt W' U;have aj:∀ id,(inCx l c s).has id=true->id<l.n:=λid U=>jar (am id U) (kcw T).2.2.2.2.2.2;split at M
       ·exact kaa M
       ·rename_i x hx;obtain ⟨κ0,aK,z0,R0⟩:=kfE T am R1 hx;have loop:∀ {X:Type} (F:l.head.ty.den->Yb (l.head.ty.den⊕X)) (e:X),iter F x=some e->
          (∀ (k:Nat) (st:St) (x:l.head.ty.den) (κ:Nat->Yb Nat) (ln:Nat->Nat) (z:AH) (w:l.head.ty.den⊕X),RJ J P κ ln z (inCx l c s) (kad l.head s.n x) st.env st.h st.n->F x=some w->(w = .inr e\/∃ y,w = .inl y)->
           ∀ (I:l.head.ty.den->St->Prop),(∀ y st κ ln z,w = .inl y->RJ J P κ ln z (inCx l c s) (kad l.head s.n y) st.env st.h st.n->I y st)->SatL P Y D O [b] (thenQ (λs'=>∃ y,w = .inl y/\I y s') (kcB id (thenQ (SatL P Y D O cs Q) Q))) st)->
          SatL P Y D O (.block id (.loop b)::cs) Q ⟨env,h,n⟩:=by
         intro X F e he round;refine SatL.block (SatL.ofS (Sat.loop (λ(k:Nat) st=>∃ (x:l.head.ty.den) (κ:Nat->Yb Nat) (ln:Nat->Nat) (z:AH),RJ J P κ ln z (inCx l c s) (kad l.head s.n x) st.env st.h st.n/\itN F k x=some e) (λk=>k) 18446744073709551616 ⟨x,κ0,aK,z0,R0,he⟩ ?_));rintro k st ⟨x,κ,ln,z,Rx,aN⟩;obtain ⟨k',rfl,af⟩:=kle aN;have fin:∀ w,F x=some w->(w = .inr e\/∃ y,w = .inl y)->(∀ y,w = .inl y->itN F k' y=some e)->Sat P Y D O b (thenQ (λs'=>∃ x',(∃ (x:l.head.ty.den) (κ:Nat->Yb Nat) (ln:Nat->Nat) (z:AH),RJ J P κ ln z (inCx l c s) (kad l.head s.n x) s'.env s'.h s'.n/\itN F x' x=some e)/\x'<k'+1) (kcB id (thenQ (SatL P Y D O cs Q) Q))) st:=λw hw S bL=>by
          refine Sat.ofL (SatL.mono (cs:=[b]) ?_ (round k' st x κ ln z w Rx hw S (λy st=>∃ κ ln z,RJ J P κ ln z (inCx l c s) (kad l.head s.n y) st.env st.h st.n) (λy st κ ln z _ R=>⟨κ,ln,z,R⟩)));intro ex s' hq;cases ex with
          | normal=>
           obtain ⟨y,hy,κ,ln,z,Ry⟩:=hq;exact ⟨k',⟨y,κ,ln,z,Ry,bL y hy⟩,jbk _⟩
          | _=>exact hq
         rcases af with ⟨y,hy,ai⟩ | hr
         ·exact fin _ hy (.inr ⟨y,rfl⟩) (λy' e'=>by cases e'; exact ai)
         ·exact fin _ hr (.inl rfl) (λy' e'=>by cases e')
        split at M
        ·obtain ⟨e,he,al⟩:=jaa.1 M;refine loop _ e he λk st x κ ln z w Rx hw S I hI=>?_;refine IH _ _ _ _ _ _ _ _ _ _ _ _ W' Rx ⟨λκ ln z s' L h' n' R' u=>?_,λar κ ln z s' L h' n' R' u=>?_,λv aW hv u=>?_,ok.stop⟩ hw
         ·dsimp only at u;split at u
          ·rename_i y hy;cases u;obtain ⟨κ2,aa,z2,R2⟩:=kfE T am R' hy;exact ⟨y,rfl,hI y ⟨L,h',n'⟩ κ2 aa z2 rfl R2⟩
          ·exact kaa u
         ·dsimp only at u;split at u
          ·rename_i e1;split at u
           ·rename_i y hy;cases u;rcases S with S | ⟨y',S⟩
            ·cases S;obtain ⟨κ2,aa,z2,R2⟩:=kgf R T aj R' hy;subst e1;exact kfl (thenN (IH _ _ _ _ _ _ _ _ _ _ _ _ W R2 ok al))
            ·cases S
           ·exact kaa u
          ·exact kaa u
         ·cases u;rcases S with S | ⟨y',S⟩
          ·cases S; exact ok.retv v aW hv al
          ·cases S
        ·obtain ⟨e,he,al⟩:=jaa.1 M;refine loop _ e he λk st x κ ln z w Rx hw S I hI=>?_;refine IH _ _ _ _ _ _ _ _ _ _ _ _ W' Rx ⟨λκ ln z s' L h' n' R' u=>?_,λar κ ln z s' L h' n' R' u=>?_,λv aW hv u=>kaa u,ok.stop⟩ hw
         ·dsimp only at u;split at u
          ·rename_i y hy;cases u;obtain ⟨κ2,aa,z2,R2⟩:=kfE T am R' hy;exact ⟨y,rfl,hI y ⟨L,h',n'⟩ κ2 aa z2 rfl R2⟩
          ·exact kaa u
         ·dsimp only at u;split at u
          ·rename_i e1;split at u
           ·rename_i y hy;cases u;rcases S with S | ⟨y',S⟩
            ·cases S;obtain ⟨κ2,aa,z2,R2⟩:=kgf R T aj R' hy;subst e1;exact kfl (thenN (IH _ _ _ _ _ _ _ _ _ _ _ _ W R2 ok al))
            ·cases S
           ·exact kaa u
          ·exact kaa u
    | rangeFunc f ps assign body=>
     dsimp only at M;split at M
     ·exact kaa M
     rename_i hIM;have hD:D.it=none:=hY.1 (by cases hh:alk Δ IM with
      | none=>rfl
      | some C=>rw [hh] at hIM; exact absurd rfl hIM)
     refine SatL.wk R.R λenv h R1=>?_;replace R:RJ J P κ ln ahN c { s with dy:=false } env h n:=⟨R1,R.j,R.w⟩;clear R1;generalize bu:({ s with dy:=false }:TS sem)=s' at *
     clear bu;split at M
     rotate_left
     ·exact kaa M
     rename_i g bO hf;split at M
     ·exact kaa M
     rename_i I hI;split at M
     ·exact kaa M
     rename_i aI;split at M
     ·exact kaa M
     rename_i la ids hl;split at M
     rotate_left
     ·exact kaa M
     rename_i s0 a bn ha;obtain ⟨E,H,n0,bP⟩:=s0;split at M
     ·exact kaa M
     rename_i l bU;split at M
     ·exact kaa M
     rename_i au;simp only [jbe,jbr,not_or,jcv,Bool.not_eq_false',ne_eq,Decidable.not_not,jak,Bool.not_eq_false] at au;obtain ⟨⟨⟨⟨⟨T,bN⟩,bD⟩,aY⟩,bd⟩,bB⟩:=au;split at M
     ·exact kaa M
     rename_i x hx;obtain ⟨xs,bI,M⟩:=jaa.1 M;obtain ⟨e,he,hkE⟩:=jaa.1 M;obtain ⟨F,hF,he⟩:=kst he;have bi:=R.R.ev f;rw [hf] at bi;obtain ⟨asZ,bk,ay⟩:=bi.fn_inv;obtain ⟨C,hC,hIh⟩:=jaa.1 hI;have hG:=(hΔ.at hC).its I (List.mem_of_mem_head? hIh);obtain ⟨bc,g1,g2,g3⟩:=kdm hΔ R.R _ _ _ ay hl;have hAR:=kfy _ _ _ _ g1 ha;have aN:=hG.2 a xs bI bc hAR;have bg:C.own=true->OwnC (hz (ows κ ln c s') h ahN ids) asZ bc:=λho=>R.R.ownC ay g2 hAR (by
      rw [show alk Δ g=some C from hC,jcb,jcc,ho] at aI;simpa using aI)
     have Re:=R.R.eat rfl bn;have Rj:RJ J P κ ln ahN c ⟨E,H,n0,false⟩ env _ n:=⟨Re,R.j,R.w⟩;have W':=kjU Rj.R W T;have R1:=Rj.into T;have am:∀ id,(inCx l c (⟨E,H,n0,false⟩:TS sem)).has id=true->id<n0:=λid U=>R1.R.has_lt W' U;have aj:∀ id,(inCx l c (⟨E,H,n0,false⟩:TS sem)).has id=true->id<l.n:=λid U=>jar (am id U) (kcw T).2.2.2.2.2.2;have aQ:l.head.env=[]:=by simpa using bN
     have bf:l.out.env=[]:=by simpa using bD
     have bh:∀ y,(kad (A:=sem) l.head n0 y).env=[]:=λy=>by unfold kad; rw [aQ]; rfl
     have bC:∀ y,(kad (A:=sem) l.out l.n y).env=[]:=λy=>by unfold kad; rw [bf]; rfl
     have base:∀ x,TVR P κ ln ahN n0 ((alk (inCx l c (⟨E,H,n0,false⟩:TS sem)).e0 x).getD .un) (lk env x):=λx=>by
      cases aD:alk (inCx l c (⟨E,H,n0,false⟩:TS sem)).e0 x with
      | none=>exact .un _
      | some v=>have:=R1.R.env x; rw [R1.R.e0_tlk aD] at this; exact this
     have aP:∀ {κ':Nat->Yb Nat} {ln':Nat->Nat} {z':AH} {N':Nat},(∀ x v id,alk (inCx l c (⟨E,H,n0,false⟩:TS sem)).e0 x=some v->v.has id=true->κ' id = κ id/\ln' id=ln id/\id<N')->∀ x,TVR P κ' ln' z' N' ((alk (inCx l c (⟨E,H,n0,false⟩:TS sem)).e0 x).getD .un) (lk env x):=λ{κ' ln' z' N'} az x=>by
      have hb:=base x;cases aD:alk (inCx l c (⟨E,H,n0,false⟩:TS sem)).e0 x with
      | none=>exact .un _
      | some v=>
       rw [aD] at hb;exact hb.congr (λid U=>az x v id aD U) (λq B hq=>by cases hq)
     have bs:∀ (s1:TS sem) x,s1.env=[]->tlk (inCx l c (⟨E,H,n0,false⟩:TS sem)) s1 x=(alk (inCx l c (⟨E,H,n0,false⟩:TS sem)).e0 x).getD .un:=λs1 x hs=>by unfold tlk; rw [hs]; rfl
     have swapU:∀ {κ':Nat->Yb Nat} {ln':Nat->Nat} {z':AH} {y:l.head.ty.den} {L:Env} {h':AH} {n':Nat},RJ ⟨(inCx l c (⟨E,H,n0,false⟩:TS sem)).e0,κ,ln⟩ P κ' ln' z' (inCx l c (⟨E,H,n0,false⟩:TS sem)) (kad l.head n0 y) L h' n'->RJ ⟨(inCx l c (⟨E,H,n0,false⟩:TS sem)).e0,κ,ln⟩ P κ' ln' z' (inCx l c (⟨E,H,n0,false⟩:TS sem)) (kad l.head n0 y) env h' n':=λ{κ' ln' z' y L h' n'} Ru=>
      ⟨Ru.R.swap λx=>by rw [bs _ x (bh y)]; exact aP (λx v id ad U=>⟨(Ru.j x v id ad U).1,(Ru.j x v id ad U).2,Ru.R.has_lt W' (kcr ad U)⟩) x,Ru.j,Ru.w⟩
     have fin:∀ {κ':Nat->Yb Nat} {ln':Nat->Nat} {z':AH} {s1:TS sem} {y:l.out.ty.den} {L:Env} {h':AH} {n':Nat},RJ ⟨(inCx l c (⟨E,H,n0,false⟩:TS sem)).e0,κ,ln⟩ P κ' ln' z' (inCx l c (⟨E,H,n0,false⟩:TS sem)) s1 L h' n'->pack (inCx l c (⟨E,H,n0,false⟩:TS sem)) l.n l.out s1=some y->mach P Δ An Y ab ac c cs K (outTS l c (⟨E,H,n0,false⟩:TS sem) y)=some rr->SatL P Y D O cs Q ⟨env,h',n'⟩:=λ{κ' ln' z' s1 y L h' n'} Ru hy u=>by
      obtain ⟨κ2,aa,z2,R2,ag⟩:=krn Rj.R T aj Ru.R hy;have az:∀ x v id,alk (inCx l c (⟨E,H,n0,false⟩:TS sem)).e0 x=some v->v.has id=true->κ2 id = κ id/\aa id=ln id/\id<l.n:=λx v id ad U=>
       ⟨(ag id (kcr ad U)).1.trans (Ru.j x v id ad U).1,(ag id (kcr ad U)).2.trans (Ru.j x v id ad U).2,aj id (kcr ad U)⟩
      have R3:Rel P κ2 aa z2 c (outTS l c (⟨E,H,n0,false⟩:TS sem) y) env h' n':=R2.swap λx=>by
       have ht:tlk c (outTS l c (⟨E,H,n0,false⟩:TS sem) y) x=(alk (inCx l c (⟨E,H,n0,false⟩:TS sem)).e0 x).getD .un:=by
        unfold tlk;have:alk (outTS l c (⟨E,H,n0,false⟩:TS sem) y).env x=if l.keep.contains x then some (tlk c (⟨E,H,n0,false⟩:TS sem) x) else none:=by
         show alk ((kad (A:=sem) l.out l.n y).env++l.keep.map λx=>(x,tlk c (⟨E,H,n0,false⟩:TS sem) x)) x=_;rw [bC,jav,khY]
        rw [this,keW];split <;> rename_i aE <;> split at aE <;> simp_all
       rw [ht];exact aP az x
      refine IH _ _ _ _ _ _ _ _ _ _ _ _ W ⟨R3,λx v id hv U=>?_,Rj.w⟩ ok u;have ap:alk (inCx l c (⟨E,H,n0,false⟩:TS sem)).e0 x=some v:=R1.w x v hv;exact ⟨(az x v id ap U).1.trans (R.j x v id hv U).1,(az x v id ap U).2.1.trans (R.j x v id hv U).2⟩
     have bz:RJ ⟨(inCx l c (⟨E,H,n0,false⟩:TS sem)).e0,κ,ln⟩ P κ ln ahN (inCx l c (⟨E,H,n0,false⟩:TS sem)) ⟨E.filter (λx=>!l.keep.contains x.1),H.filter (λx=>!l.gids.contains x.1),n0,false⟩ env _ n:=⟨R1.R,λx v id _ _=>⟨rfl,rfl⟩,λx v h=>h⟩;obtain ⟨κ0,aK,z0,R0⟩:=kfE T am bz hx;have hnoIM:¬ (alk Δ IM).isSome=true:=hIM;have ax:∀ {Q':Exit->St->Prop},D.it.isSome=true->∀ st,lk st.env GS = .ud->Q' .ret st:=λU=>by rw [hD] at U; cases U
     refine SatL.block (SatL.ofS (Sat.rangeFunc hD (ids.flatMap (ows κ ln c s')) bk (hE:=hz (ows κ ln c s') h ahN ids) (λi B U=>?_) (λi B U=>?_) g2 C.own aN bg (λy hy=>?_) (λp hp=>?_)
      (λk h n=>∃ m x κ' ln' z',itN F m ((k:Int),x)=some e/\RJ ⟨(inCx l c (⟨E,H,n0,false⟩:TS sem)).e0,κ,ln⟩ P κ' ln' z' (inCx l c (⟨E,H,n0,false⟩:TS sem)) (kad l.head n0 x) env h n) ⟨18446744073709551616,x,κ0,aK,z0,he,R0⟩ (λk xA h1 n1 hxA hI1 O2=>?_) (λh1 n1 hI1=>?_)))
     ·refine ⟨?_,kcH R.R.zin i B U⟩;unfold hz at U;split at U
      ·rename_i aZ;obtain ⟨id,bF,bq⟩:=jbq.1 aZ;rw [jbw];exact List.mem_flatMap.2 ⟨id,bF,by simpa using bq⟩
      ·cases U
     ·split at U
      ·cases U
      ·rename_i aX; exact ⟨by simpa using aX,U⟩
     ·obtain ⟨y',_,rfl⟩:=jba.1 hy;rw [koR]; exact bd
     ·have:=jap.1 aY p hp;simp only [jad,jak] at this;exact this.2
     ·obtain ⟨m,x1,κ1,ak,z1,hm,Ru⟩:=hI1;rw [jas] at hxA;obtain ⟨e',aS,rfl⟩:=jac.1 hxA;obtain ⟨m',rfl,af⟩:=kle hm;obtain ⟨w,hw,S⟩:∃ w,F ((k:Int),x1)=some w/\(w = .inr e\/∃ y,w = .inl y/\itN F m' y=some e):=by
       rcases af with ⟨y,hy,ai⟩ | hr
       ·exact ⟨_,hy,.inr ⟨y,rfl,ai⟩⟩
       ·exact ⟨_,hr,.inl rfl⟩
      rw [hF] at hw;dsimp only at hw;rcases kbS hw with ⟨hb,hw⟩ | ⟨hb,hw⟩
      rotate_left
      ·exfalso;have bR:=(jae.1 aS).1;have bT:¬ ((k:Int)<(xs.length:Int)):=of_decide_eq_false hb;omega
      obtain ⟨e2,bG,hw⟩:=jaa.1 hw;have bv:e2=e':=by
       have h3:=(kmk bG).2;simp only [jam] at h3;rw [aS] at h3; cases h3; rfl
      subst bv;have bw:(unT sem I.ts e2).length=ps.toList.length:=by rw [kpl]; simpa using bd
      have Rr:RJ ⟨(inCx l c (⟨E,H,n0,false⟩:TS sem)).e0,κ,ln⟩ P κ1 ak z1 (inCx l c (⟨E,H,n0,false⟩:TS sem)) ⟨rndE ps.toList (unT sem I.ts e2) (kad (A:=sem) l.head n0 x1).env,(kad (A:=sem) l.head n0 x1).hp,(kad (A:=sem) l.head n0 x1).n,(kad (A:=sem) l.head n0 x1).dy⟩ (kgx ps.toList (avsL I.ts e2) env) h1 n1:=by
       refine ⟨⟨λy=>ksO _ _ _ ps.toList _ _ _ _ bw (kiq I.ts e2 bB) (λt=>Ru.R.env t) y,Ru.R.blk,Ru.R.lt,Ru.R.inj,Ru.R.zin,Ru.R.zout,Ru.R.bnd,Ru.R.hn,λy v hy=>?_,Ru.R.g,Ru.R.dy,Ru.R.zk,Ru.R.fam⟩,Ru.j,Ru.w⟩;rcases kvg ps.toList _ _ hy with hy | hy
       ·have:=jap.1 aY y hy;simp only [jad,jed] at this;exact this.1
       ·rw [bh] at hy; cases hy
      have hresR:∀ (c1:Cx sem) κ2 aa s1 ah h1 n1 v,CxWf c1->RJ ⟨(inCx l c (⟨E,H,n0,false⟩:TS sem)).e0,κ,ln⟩ P κ2 aa ahN c1 s1 ah h1 n1->(λ(c1:Cx sem) (s1:TS sem)=>ac ⟨(inCx l c (⟨E,H,n0,false⟩:TS sem)).e0,c1.g⟩ ⟨[],s1.hp,s1.n,s1.dy⟩) c1 s1=some v->(λv (st:St)=>RetQ v ⟨env,st.h,st.n⟩) v ⟨ah,h1,n1⟩:=λc1 κ2 aa s1 ah h1 n1 v W1 Rc hv=>by
       refine an ⟨(inCx l c (⟨E,H,n0,false⟩:TS sem)).e0,c1.g⟩ κ2 aa ⟨[],s1.hp,s1.n,s1.dy⟩ env h1 n1 v ⟨W'.e0,W1.g⟩ ⟨⟨λy=>?_,Rc.R.blk,Rc.R.lt,Rc.R.inj,Rc.R.zin,Rc.R.zout,Rc.R.bnd,Rc.R.hn,λy v hy=>(by cases hy),Rc.R.g,Rc.R.dy,Rc.R.zk,Rc.R.fam⟩,λy v id hv U=>?_,λy v hv=>R1.w y v hv⟩ hv
       ·show TVR P κ2 aa ahN s1.n ((alk (inCx l c (⟨E,H,n0,false⟩:TS sem)).e0 y).getD .un) (lk env y);exact aP (λx v id ad U=>⟨(Rc.j x v id ad U).1,(Rc.j x v id ad U).2,Rc.R.has_lt W1 (kcr (Rc.w x v ad) U)⟩) y
       ·have ap:alk (inCx l c (⟨E,H,n0,false⟩:TS sem)).e0 y=some v:=R1.w y v hv;exact ⟨(Rc.j y v id ap U).1.trans (R.j y v id hv U).1,(Rc.j y v id ap U).2.trans (R.j y v id hv U).2⟩
      have hYr:YOk P D Δ ⟨(inCx l c (⟨E,H,n0,false⟩:TS sem)).e0,κ,ln⟩:=⟨λ_=>hD,λhh=>absurd hh hnoIM⟩;refine Sat.ofL (SatL.mono (cs:=[assign]) (λe s hq=>hq) (@aC O2 r (λ(c1:Cx sem) (s1:TS sem)=>ac ⟨(inCx l c (⟨E,H,n0,false⟩:TS sem)).e0,c1.g⟩ ⟨[],s1.hp,s1.n,s1.dy⟩) ⟨(inCx l c (⟨E,H,n0,false⟩:TS sem)).e0,κ,ln⟩ (λv (st:St)=>RetQ v ⟨env,st.h,st.n⟩) hresR hYr (.sm (.pr (.i .i64) l.head.ty) (.sm r l.out.ty)) (inCx l c (⟨E,H,n0,false⟩:TS sem)) [assign] _ _ (thenQ (λs=>Sat P Y D O2 body (bodyQ (kcB id (thenQ (SatL P Y D O cs Q) Q)) env (λk h n=>∃ m x κ' ln' z',itN F m ((k:Int),x)=some e/\RJ ⟨(inCx l c (⟨E,H,n0,false⟩:TS sem)).e0,κ,ln⟩ P κ' ln' z' (inCx l c (⟨E,H,n0,false⟩:TS sem)) (kad l.head n0 x) env h n) k) s) (λ_ _=>False)) w κ1 ak z1 _ h1 n1 W' Rr
       ⟨λκ2 aa z2 s2 aq h2 n2 Rb aM=>?_,λ_ _ _ _ _ _ _ _ _ hf=>kaa hf,λ_ _ _ hf=>kaa hf,ax⟩ hw))
      refine Sat.ofL (@aC O2 r (λ(c1:Cx sem) (s1:TS sem)=>ac ⟨(inCx l c (⟨E,H,n0,false⟩:TS sem)).e0,c1.g⟩ ⟨[],s1.hp,s1.n,s1.dy⟩) ⟨(inCx l c (⟨E,H,n0,false⟩:TS sem)).e0,κ,ln⟩ (λv (st:St)=>RetQ v ⟨env,st.h,st.n⟩) hresR hYr (.sm (.pr (.i .i64) l.head.ty) (.sm r l.out.ty)) (inCx l c (⟨E,H,n0,false⟩:TS sem)) [body] _ s2 _ w κ2 aa z2 aq h2 n2 W' Rb ⟨λκ3 ln3 z3 s3 ba h3 n3 Rc ae=>?_,λar κ3 ln3 z3 s3 ba h3 n3 Rc ae=>?_,λv st hv ae=>?_,ax⟩ aM)
      ·dsimp only at ae;split at ae
       ·rename_i y hy;cases ae;obtain ⟨κ4,bp,z4,R4⟩:=kfE T am Rc hy;rcases S with S | ⟨y',S,ai⟩
        ·cases S
        ·cases S;exact ⟨m',y,κ4,bp,z4,by rw [show ((k+1:Nat):Int)=(k:Int)+1 by omega]; exact ai,swapU R4⟩
       ·exact kaa ae
      ·dsimp only at ae;split at ae
       ·rename_i e1;split at ae
        ·rename_i y hy;cases ae;rcases S with S | ⟨y',S,_⟩
         ·cases S;subst e1;exact kfl (thenN (fin Rc hy hkE))
         ·cases S
        ·exact kaa ae
       ·exact kaa ae
      ·cases ae;rcases S with S | ⟨y',S,_⟩
       ·cases S;exact ok.retv v _ hv hkE
       ·cases S
     ·obtain ⟨m,x1,κ1,ak,z1,hm,Ru⟩:=hI1;obtain ⟨m',rfl,af⟩:=kle hm;have hw:∃ w,F (((xs.map λy=>avsL I.ts y).length:Int),x1)=some w/\(w = .inr e\/∃ y,w = .inl y/\itN F m' y=some e):=by
       rcases af with ⟨y,hy,ai⟩ | hr
       ·exact ⟨_,hy,.inr ⟨y,rfl,ai⟩⟩
       ·exact ⟨_,hr,.inl rfl⟩
      obtain ⟨w,hw,S⟩:=hw;rw [hF] at hw;dsimp only at hw;rcases kbS hw with ⟨hb,hw⟩ | ⟨hb,hw⟩
      ·exfalso;simp only [jbb,jak,ktZ] at hb;omega
      split at hw
      ·rename_i y hy;cases hw;rcases S with S | ⟨y',S,_⟩
       ·cases S;exact fin Ru hy hkE
       ·cases S
      ·exact kaa hw
    | _=>exact bo _ M
   all_goals exact kaa M
end
end Go.Abs
