/- The machinery, part 6. -/
import Derived.Test.YtnehmnlcliflfaaDoorZ2
import Derived.Test.YtnehmnlcliflfaaDoorZ3
import Derived.Test.YtnehmnlcliflfaaDoorZ4
import Derived.Test.YtnehmnlcliflfaaDoorZ5
set_option linter.constructorNameAsVariable false
set_option linter.unusedVariables false
set_option linter.unusedSimpArgs false
set_option linter.unusedSectionVars false
namespace Go.Abs
open Go Go.RowKit
theorem keP {α β:Type} {f:α->Yb β} {x:β} {p:α}:∀ {l:Ya α} {a:Nat},x∈(l.set a p).filterMap f->x∈l.filterMap f\/f p=some x
 | [],a,h=>by simp at h
 | y::l,0,h=>by
  rw [List.set_cons_zero,jcd] at h;obtain ⟨w,b,e⟩:=h;rcases jbu.1 b with rfl | b
  ·exact .inr e
  ·exact .inl (jcd.2 ⟨w,jbc _ b,e⟩)
 | y::l,a+1,h=>by
  rw [List.set_cons_succ,jcd] at h;obtain ⟨w,b,e⟩:=h;rcases jbu.1 b with rfl | b
  ·exact .inl (jcd.2 ⟨w,jdk ..,e⟩)
  ·rcases keP (jcd.2 ⟨w,b,e⟩) with k | k
   ·obtain ⟨w',i,m⟩:=jcd.1 k;exact .inl (jcd.2 ⟨w',jbc _ i,m⟩)
   ·exact .inr k
theorem kdI {α β:Type} {f:α->Yb β} {p:α}:∀ {l:Ya α} {a:Nat},(l.filterMap f).Nodup->(∀ x,f p=some x->x∉l.filterMap f)->((l.set a p).filterMap f).Nodup
 | [],a,h,_=>by simp
 | y::l,0,h,hp=>by
  have hl:(l.filterMap f).Nodup:=by
   rw [jcq] at h;split at h
   ·exact h
   ·exact (jda.1 h).2
  rw [List.set_cons_zero,jcq];split
  ·exact hl
  ·rename_i x m;refine jda.2 ⟨λe=>hp x m ?_,hl⟩;rw [jcq];split
   ·exact e
   ·exact jbc _ e
 | y::l,a+1,h,hp=>by
  rw [List.set_cons_succ,jcq];rw [jcq] at h;have i:∀ x,f p=some x->x∉l.filterMap f:=λx m e=>hp x m (by
   rw [jcq];split
   ·exact e
   ·exact jbc _ e)
  split
  ·rename_i hn;rw [hn] at h;exact kdI h i
  ·rename_i b t;rw [t] at h;obtain ⟨u,h2⟩:=jda.1 h;refine jda.2 ⟨λe=>?_,kdI h2 i⟩;rcases keP e with k | k
   ·exact u k
   ·refine hp b k ?_;rw [jcq,t];exact jdk ..
theorem kfX {α β:Type} {f:α->Yb β} {x:β} {u v:α}:∀ {l:Ya α} {i j:Nat},(l.filterMap f).Nodup->l[i]?=some u->l[j]?=some v->f u=some x->f v=some x->i=j
 | [],i,j,h,hi,_,_,_=>by simp at hi
 | y::l,i,j,h,hi,hj,hu,hv=>by
  rw [jcq] at h;cases i with
  | zero=>
   simp at hi; subst hi;cases j with
   | zero=>rfl
   | succ j=>
    rw [jcc] at hj;rw [hu] at h;exact absurd (jcd.2 ⟨v,jai hj,hv⟩) (jda.1 h).1
  | succ i=>
   rw [jcc] at hi;cases j with
   | zero=>
    simp at hj; subst hj;rw [hv] at h;exact absurd (jcd.2 ⟨u,jai hi,hu⟩) (jda.1 h).1
   | succ j=>
    rw [jcc] at hj;have h':(l.filterMap f).Nodup:=by
     split at h
     ·exact h
     ·exact (jda.1 h).2
    rw [kfX h' hi hj hu hv]
theorem khR (l:Ya (Yb Nat×Nat)):kam (codeR l)=l.filterMap (·.1):=by unfold kam; rw [kaX]
section
variable {P:Ye} {κ κ':Nat->Yb Nat} {ln ln':Nat->Nat} {z z':AH} {c:Cx sem} {s:TS sem} {env:Env} {h h':AH} {n n' N N':Nat} {id:Nat}
variable {ρ:Ty} {Kf:TV sem->TS sem->sem.Ans ρ} {r:ρ.den}
variable {d:Yb Tmp} {ty:Yc} {pos:String} {after:Array Edge} {g:Yb (Nat×Bool)}
theorem BR.fmSet {q a j:Nat} {T U:Yc} {t u:Ty} {l:Ya t.den} {es:Ya (Ya AV)} {E:t.den} {e':Ya AV} {K:Yb Int} (L:t.dat=true) (M:κ id=some q) (S:h' q=some (.cells t.wd T (es.set a e'))) (hn:l.length=(kad (ln id)).length) (hl:es.length=l.length)
  (Y:∀ (i:Nat) (x:t.den) (e:Ya AV) (f:Yb Nat×Nat),l[i]?=some x->es[i]?=some e->(kad (ln id))[i]?=some f->K≠some (i:Int)->FamE z h j U u.wd (t.enc x) e f) (C:∀ i:Nat,K=some (i:Int)->i=a)
  (H:(kad (ln' id)).length=(kad (ln id)).length) (A:∀ i,i≠a->(kad (ln' id))[i]?=(kad (ln id))[i]?) (I:∀ (i r m:Nat) (B:ABlk),i≠a->(kad (ln id))[i]?=some (some r,m)->h r=some B->h' r=some B)
  (v:∀ f,(kad (ln' id))[a]?=some f->FamE z h' j U u.wd (t.enc E) e' f) (R:∀ e∈es,e.length=t.wd/\∀ a∈e,a.one=true) (F:e'.length=t.wd/\∀ a∈e',a.one=true):BR P κ ln' z h' N id (.fm T t j U u (l.set a E) none):=by
 refine .fm T t j U u (l.set a E) none q (es.set a e') L M S (by rw [jcf,hn,H]) (by simp [hl]) (λi x e f y k hr _=>?_) (λi f X=>by cases X) (λe k=>?_)
 ·by_cases b:i=a
  ·subst b;rw [jbs (by have:=(jae.1 y).1; rwa [jcf] at this)] at y;rw [jbs (by have:=(jae.1 k).1; rwa [jcf] at this)] at k;cases y; cases k;exact v f hr
  ·rw [jbd (λe=>b e.symm)] at y k;rw [A i b] at hr;refine (Y i x e f y k hr (λe=>b (C i e))).mono (λ_ _ h=>h) λr B p hB=>?_;obtain ⟨r',m⟩:=f;simp only at p; subst p;exact I i r m B b hr hB
 ·rcases List.mem_or_eq_of_mem_set k with k | rfl
  ·exact R e k
  ·exact F
theorem snapC (R:Rel P κ ln z c s env h n) {x:Yf} {v:TV sem} (m:TVR P κ ln z s.n v (ev env x)) {xs:Ya AV} (e:kav (ev env x)=some xs) (t:Ty) (y:t.den) (a:((snapV (A:=sem) c s t v).bind λy=>if y.2.isEmpty then some y.1 else none)=some y):t.dat=true/\SnapL z xs (t.enc y):=by
 simp only [jaa] at a;obtain ⟨⟨w,ids⟩,i,a⟩:=a;split at a
 ·rename_i b;cases a;obtain rfl:=jcr.1 b;obtain ⟨k,f,h2,p⟩:=kch R m i;rw [e] at f; cases f;rw [kaL] at h2;exact ⟨p,h2⟩
 ·cases a
theorem kjU (R:Rel P κ ln z c s env h n) {x:Yf} {v:TV sem} (u:TVR P κ ln z s.n v (ev env x)) {t:Ty} {y p:t.den} {o m:Nat} {ag:Bool} {e:Ya AV} (F:m≠0) (f:t.dat=true) (hs:SnapL z e (t.enc y)) (i:setC (A:=sem) (λt=>(snapV c s t v).bind λy=>if y.2.isEmpty then some y.1 else none) t y o m ag=some p) :
  ∃ xs,kav (ev env x)=some xs/\xs.length=m/\o+m<=e.length/\SnapL z (e.take o++xs++e.drop (o+m)) (t.enc p):=by
 cases a:kav (ev env x) with
 | some xs=>exact ⟨xs,rfl,kbz (snapC R u a) t y o m ag e f i hs⟩
 | none=>
  exfalso;have:=kbz (z:=z) (xs:=[]) (val:=λt=>(snapV (A:=sem) c s t v).bind λy=>if y.2.isEmpty then some y.1 else none) (λt y b=>by
   simp only [jaa] at b;obtain ⟨⟨w,ids⟩,C,b⟩:=b;obtain ⟨B,k,h2,E⟩:=kch R u C;rw [a] at k; cases k) t y o m ag e f i hs
  simp at this;omega
theorem Rel.famNums (R:Rel P κ ln z c s env h n) {B:TB sem} (hB:thp c s id=some B) (a:B.isF=true):(kam (ln id)).Nodup:=(R.fam id B hB a).1
theorem kkw (R:Rel P κ ln z c s env h n) {T:Yc} {p x:Yf} {a k:Int} {o:Nat} {v:TV sem} (hu:TVR P κ ln z s.n (.fa id a k o) (ev env p)) (hv:TVR P κ ln z s.n v (ev env x)) (A:kjf P c s T id a k o v Kf=some r):Res P κ ln z c s env h n ⟨d,.store T p x,ty,pos,after,g⟩ Kf r:=by
 unfold kjf at A;split at A
 ·rename_i ag T' t j U u l ao hB;replace hB:=kbo hB;split at A
  ·exact kaa A
  ·rename_i ad;simp only [jaa] at A;obtain ⟨y,hy,A⟩:=A;split at A
   ·rename_i ys af;simp only [jaa] at A;obtain ⟨w',ac,A⟩:=A;split at A
    ·rename_i x' ae;split at A
     ·rename_i y' aj;obtain ⟨hd,h0,an,q,es,e',rm,hq,hh,C,hr,hf,hn,hl,h1,al,_⟩:=R.famAt (kab hB) hy;obtain ⟨k0,k1,k2⟩:=kbw ac;obtain ⟨E,hj,H⟩:=kcl hd af;have f:=hf (by simp);obtain ⟨f1,f2⟩:=f.row H;rw [jax] at f1;generalize I:ev env p=av at hu;cases hu with
      | fa _ _ _ _ Z m hN a0 g1 g2 g3=>
       rw [hr] at g1; cases g1;rcases f2 with ⟨f3,_⟩ | ⟨r2,es',f3,f4,f5,f6,f7⟩
       ·cases f3
       ·cases f3;obtain ⟨e2,h2,h3⟩:=f6.at (keq k1);have ap:=(f7 e2 (jai h2)).1;obtain ⟨xs,ai,c1,c2,c3⟩:=kjU R hv ad E h3 ae;obtain ⟨_,F⟩:=kdz hd E aj;have am:Ow κ ln id (TB.fm T' t j U u l none) Z:=.inr ⟨rfl,kas hr⟩;have aa:∀ q',κ id=some q'->q'≠Z:=λq' ah e=>((R.fam id _ (kab hB) rfl).2 Z (kas hr)).2.2.1 id _ (kab hB) (by rw [ah,e]);have M:es.set a.toNat e'=es:=by
         apply jdq;intro p;by_cases Y:p=a.toNat
         ·subst Y; rw [jbs (jae.1 C).1,C]
         ·rw [jbd (λe=>Y e.symm)]
        have X:BR P κ ln z (updH h Z (.cells u.wd U (es'.set k.toNat (putAt e2 o xs)))) s.n id (.fm T' t j U u (lset l a y') none):=by
         unfold lset;refine BR.fmSet (e':=e') hd hq (by rw [M]; unfold updH; rw [if_neg (aa q hq)]; exact hh) hn hl al (λi e=>by cases e) rfl (λ_ _=>rfl) (λi r m B hi ab hB'=>?_) (λrm L=>?_) h1 (h1 e' (jai C))
         ·unfold updH;rw [if_neg]
          ·exact hB'
          ·rintro rfl;exact hi (kfX (R.famNums (kab hB) rfl) ab hr rfl rfl)
         ·rw [hr] at L; cases L;obtain ⟨w1,w2,w3⟩:=f;have ak:j<(t.enc y).length:=(jae.1 H).1;refine ⟨by rw [F,jcf]; exact w1,λp b b' hp hb S=>?_,_,by rw [F,jbs ak],by simp [lset]; exact f1,f4,es'.set k.toNat (putAt e2 o xs),if_pos rfl,?_,λx I=>?_⟩
          ·rw [F,jbd (λe=>hp e.symm)] at S;exact w2 p b b' hp hb S
          ·unfold lset;rw [List.map_set,kaW (by omega),c1];exact kfH f6 c3
          ·rcases List.mem_or_eq_of_mem_set I with I | rfl
           ·exact f7 x I
           ·rw [kaW (by omega),c1];refine ⟨by simp; omega,c3.one_rev (kaF u x' E)⟩
        exact ⟨.ud,_,.ud,_,_,κ,ln,z,λK A=>by
         simp only [aop,I,kbc,f5,ai,h2];exact ⟨c1,by omega,by omega,A⟩,A,R.setO hB am X (λ_=>rfl),.ud,jah _,λ_ _=>⟨rfl,λ_=>rfl⟩,λhc=>by cases hc⟩
     ·exact kaa A
    ·exact kaa A
   ·exact kaa A
 ·exact kaa A
theorem ksm {e xs:Ya AV} {j o:Nat} {b:AV} (a:o+xs.length<=j\/j<o) (f:o+xs.length<=e.length):(e.set j b).take o++xs++(e.set j b).drop (o+xs.length)=(e.take o++xs++e.drop (o+xs.length)).set j b:=by
 apply jdq;intro p;by_cases hp:p=j
 ·subst hp;by_cases hl:p<e.length
  ·rw [jbs (by simp; omega)];rcases a with a | a
   ·rw [jck (by simp; omega),jas];simp only [jap,jbh,jcf];rw [show o+xs.length+(p-(min o e.length+xs.length))=p by omega,jbs hl]
   ·rw [jar,jbp (by simp; omega),jdg (by omega),jbs hl]
  ·rw [jco (by simp; omega),jco (by simp; omega)]
 ·rw [jbd (λe=>hp e.symm)];rw [jbn,jbn,jbn,jbn];simp only [jap,jbh,jcf];by_cases i:p<min o e.length
  ·rw [if_pos (by omega),if_pos (by omega),if_pos (by omega),if_pos (by omega),jdg (by omega),jdg (by omega),jbd (λe=>hp e.symm)]
  ·by_cases h2:p<min o e.length+xs.length
   ·rw [if_pos (by omega),if_neg (by omega),if_pos (by omega),if_neg (by omega)]
   ·rw [if_neg (by omega),if_neg (by omega),jas,jas,jbd (by omega)]
theorem klU (R:Rel P κ ln z c s env h n) {T T' U:Yc} {t u:Ty} {j:Nat} {l:Ya t.den} {p x:Yf} {i:Int} {o:Nat} {ag:Bool} {v:TV sem} (hu:TVR P κ ln z s.n (.fo id i o) (ev env p)) (hv:TVR P κ ln z s.n v (ev env x)) (hB:alk s.hp id=some (some (.fm T' t j U u l none))) (ad:P.cellsOf T≠0) (E:o+P.cellsOf T<=j\/j<o) {y F:t.den} (hy:gi l i=some y)
  (aa:setC (A:=sem) (λt=>(snapV c s t v).bind λy=>if y.2.isEmpty then some y.1 else none) t y o (P.cellsOf T) ag=some F) (M:setB (A:=sem) s id (.fm T' t j U u (lset l i F) none) Kf=some r):Res P κ ln z c s env h n ⟨d,.store T p x,ty,pos,after,g⟩ Kf r:=by
 obtain ⟨k,h0,al,q,es,e,rm,Y,hh,he,hr,hf,hn,hl,h1,ak,_⟩:=R.famAt (kab hB) hy;have f:=hf (by simp);obtain ⟨ys,f1,f2,f3,f4⟩:=f.snap (kaV t y k);have an:=(h1 e (jai he)).1;obtain ⟨xs,ai,c1,c2,c3⟩:=kjU R hv ad k f4 aa;rw [jcf] at c2;rw [<-c1,ksm (by omega) (by omega)] at c3;rw [<-c1] at E;generalize hx:ev env p=av at hu;cases hu with
 | fo _ _ _ q' hN X i0 i1=>
  rw [Y] at X; cases X;have S:(putAt e o xs).length=t.wd:=by rw [kaW (by omega)]; simp; omega
  have C:(putAt e o xs)[j]?=e[j]?:=by
   rw [kaW (by omega)];rcases E with E | E
   ·rw [jck (by simp; omega),jas];congr 1;simp;omega
   ·rw [jar,jbp (by simp; omega),jdg (by omega)]
  have aj:=c3.len;rw [jcf] at aj;have ab:(t.enc F)[j]?=some (.sl ys):=by
   have key:∀ (t:Ty) (x:t.den) (o m:Nat) (ag:Bool) {y:t.den},t.dat=true->setC (A:=sem) (λt=>(snapV c s t v).bind λy=>if y.2.isEmpty then some y.1 else none) t x o m ag=some y->∀ j,(o+m<=j\/j<o)->(t.enc y)[j]?=(t.enc x)[j]?:=by
    intro t x o m ag y k M j hj;have ah:∀ t' w,((snapV (A:=sem) c s t' v).bind λy=>if y.2.isEmpty then some y.1 else none)=some w->t'.dat=true:=λt' w H=>by
     simp only [jaa] at H;obtain ⟨⟨w1,ids⟩,H,_⟩:=H;unfold snapV at H;split at H
     ·cases H
     ·rename_i af; simpa using af
    exact kqV ah t x o m ag k M j hj
   rw [key t y o _ ag k aa j (by omega)]; exact f1
  have Z:BR P κ ln z (updH h q (.cells t.wd T' (es.set i.toNat (putAt e o xs)))) s.n id (.fm T' t j U u (lset l i F) none):=by
   unfold lset;refine BR.fmSet (e':=putAt e o xs) k Y (by simp [updH]) hn hl ak (λi e=>by cases e) rfl (λ_ _=>rfl) (λi' r m B hi ac hB'=>?_) (λam L=>?_) h1 ⟨S,λb hb=>?_⟩
   ·unfold updH;rw [if_neg]
    ·exact hB'
    ·rintro rfl;exact ((R.fam id _ (kab hB) rfl).2 r (kas ac)).2.2.1 id _ (kab hB) Y
   ·rw [hr] at L; cases L;obtain ⟨g1,g2⟩:=f.row f1;refine ⟨by rw [S,kae t F k],λp b b' hp hb ae=>?_,ys,ab,g1,?_⟩
    ·refine c3.at p b b' ?_ ae;rw [jbd (λe=>hp e.symm),<-kaW (by omega)]; exact hb
    ·obtain ⟨rr,m⟩:=rm;rcases g2 with ⟨k1,k2,k3⟩ | ⟨r2,es',k1,k2,k3,k4,k5⟩
     ·simp only at k1; subst k1;exact ⟨by rw [C]; exact k2,k3⟩
     ·simp only at k1; subst k1;refine ⟨by rw [C]; exact k2,es',?_,k4,k5⟩;unfold updH;rw [if_neg]
      ·exact k3
      ·rintro rfl;exact ((R.fam id _ (kab hB) rfl).2 _ (kas hr)).2.2.1 id _ (kab hB) Y
   ·rw [kaW (by omega)] at hb;obtain ⟨p,hp⟩:=jcx hb;by_cases a:p=j
    ·subst a;rw [<-kaW (by omega),C] at hp;exact (h1 e (jai he)).2 b (jai hp)
    ·have I:=c3.one_rev (kaF t F k);refine I b (jai (i:=p) ?_);rw [jbd (λe=>a e.symm)]; exact hp
  exact ⟨.ud,_,.ud,_,_,κ,ln,z,λK M=>by
   simp only [aop,hx,kbc,hh,ai,he];exact ⟨c1,by omega,by omega,M⟩,M,R.setO hB (.inl Y) Z (λ_=>rfl),.ud,jah _,λ_ _=>⟨rfl,λ_=>rfl⟩,λE=>by cases E⟩
end
section
variable {P:Ye} {κ κ':Nat->Yb Nat} {ln ln':Nat->Nat} {z z':AH} {c:Cx sem} {s:TS sem} {env:Env} {h h':AH} {n n' N N':Nat} {id:Nat}
variable {ρ:Ty} {Kf:TV sem->TS sem->sem.Ans ρ} {r:ρ.den}
variable {d:Yb Tmp} {ty:Yc} {pos:String} {after:Array Edge} {g:Yb (Nat×Bool)}
theorem kqb {m:Yb Int} {i:Int} {K:sem.Ans ρ} (b:holeX (A:=sem) m i K=some r):K=some r/\∀ k:Int,m=some k->k=i:=by
 unfold holeX at b;split at b
 ·exact ⟨b,λk e=>by cases e⟩
 ·rename_i a;simp only [jaa] at b;obtain ⟨_,f,b⟩:=b;unfold gsame at f;split at f
  ·rename_i e; exact ⟨b,λk e'=>by cases e'; exact e⟩
  ·cases f
theorem kha (R:Rel P κ ln z c s env h n) {T Z U:Yc} {t u:Ty} {j:Nat} {l:Ya t.den} {pv xv av:AV} {i:Int} {ho:Yb Int} (hB:alk s.hp id=some (some (.fm Z t j U u l ho))) (aw:u.dat=true) (hc:c.has id=false)
  (ap:∀ k:Int,ho=some k->k=i) {y y' y0:t.den} {xs:Ya u.den} (hy:gi l i=some y) (az:rowS (A:=sem) t u j y0 xs=some y')
  (ao:∀ q es e,κ id=some q->h q=some (.cells t.wd Z es)->es[i.toNat]?=some e->e.length=t.wd->(∀ b∈e,b.one=true)->0<=i->
   (ho=none->∀ p b b',p≠j->e[p]?=some b->(t.enc y)[p]?=some b'->Snap z b b')->
   ∃ e',e'.length=t.wd/\(∀ b∈e',b.one=true)/\e'[j]?=some av/\(∀ p b b',p≠j->e'[p]?=some b->(t.enc y0)[p]?=some b'->Snap z b b')/\∀ K:K3,K .ud (updH h q (.cells t.wd Z (es.set i.toNat e'))) n->kbc P h n T pv xv K)
  {F:Yb Nat} (aj:av.one=true/\((F=none/\xs=[]/\av=nilS)\/∃ C es,F=some C/\av = .ms C 0 xs.length/\h C=some (.cells u.wd U es)/\SnapE z es (xs.map u.enc)/\(∀ e∈es,e.length=u.wd/\∀ a∈e,a.one=true)))
  (aa:∀ C,F=some C->C<n/\z C=none/\∀ H B',thp c s H=some B'->¬ Ow κ ln H B' C)
  (hk:Kf .ud { drpS s id with hp:=(id,some (.fm Z t j U u (lset l i y') none))::(drpS s id).hp }=some r) :
  ∃ ln',Ke c s.n κ ln κ ln'/\∃ h',(∀ K:K3,K .ud h' n->kbc P h n T pv xv K)/\Rel P κ ln' z c { drpS s id with hp:=(id,some (.fm Z t j U u (lset l i y') none))::(drpS s id).hp } env h' n:=by
 obtain ⟨hd,h0,al,q,es,e,rm,hq,hh,he,hr,hf,hn,hl,h1,aA,aE⟩:=R.famAt (kab hB) hy;obtain ⟨hj,ah⟩:=kdz hd aw az;have hB':=kab (c:=c) hB;have au:=(h1 e (jai he)).1;have E:=R.fam id _ hB' rfl;have hFam:∀ h':AH,(∀ C,F=some C->h' C=h C)->(match F with | none=>av=nilS/\xs=[] | some r=>av = .ms r 0 xs.length/\∃ es,h' r=some (.cells u.wd U es)/\SnapE z es (xs.map u.enc)/\∀ x∈es,x.length=u.wd/\∀ a∈x,a.one=true):=by
  rcases aj.2 with ⟨rfl,rfl,hx⟩ | ⟨C,es',rfl,hx,g1,g2,g3⟩
  ·exact λ_ _=>⟨hx,rfl⟩
  ·exact λh' aq=>⟨hx,es',by rw [aq C rfl]; exact g1,g2,g3⟩
 obtain ⟨e',af,ab,ay,an,hK0⟩:=ao q es e hq hh he au (h1 e (jai he)).2 h0 (λe=>(hf (by simp [e])).2.1);have Y:∀ X,X=updK ln id (codeR ((kad (ln id)).set i.toNat (F,xs.length)))->kad (X id)=(kad (ln id)).set i.toNat (F,xs.length):=λX e=>by rw [e,updK_self,kaX]
 refine ⟨updK ln id (codeR ((kad (ln id)).set i.toNat (F,xs.length))),λaD aB=>⟨rfl,λad=>?_⟩,updH h q (.cells t.wd Z (es.set i.toNat e')),λK hK=>?_,?_⟩
 ·unfold updK;rw [if_neg];rintro rfl;rw [hc] at ad; cases ad
 ·exact hK0 K hK
 ·have hX:=Y _ rfl;have ak:∀ r,r∈kam (updK ln id (codeR ((kad (ln id)).set i.toNat (F,xs.length))) id)->r∈kam (ln id)\/F=some r:=λr f=>by
   unfold kam at f ⊢;rw [hX] at f;exact keP f
  have ar:∀ I B,z I=some B->I≠q:=λI B hz e=>by rw [e,R.zout id _ q hB' hq] at hz; cases hz
  refine R.famSet hc hB rfl rfl (by rw [hX,jcf]) (λH v=>by unfold updK; rw [if_neg v]) (jah _) (λI ax=>?_) (λI B hz=>?_) (λH B C AB v M S h2=>?_) ?_ ⟨?_,λr f=>?_⟩
  ·unfold updH;rw [if_neg]
   ·exact R.hn I ax
   ·rintro rfl;have:=R.bnd id _ _ hB' hq;omega
  ·unfold updH;rw [if_neg (ar I B hz)]; exact R.zin I B hz
  ·unfold updH;rw [if_neg]
   ·exact h2
   ·rintro rfl;exact v (R.owI M hB' S (.inl hq))
  ·unfold lset;refine BR.fmSet (e':=e') hd hq (by simp [updH]) hn hl aA (λH v=>?_) (by rw [hX,jcf]) (λH v=>by rw [hX,jbd (λe=>v e.symm)]) (λH r m B v f hB1=>?_) (λaC ac=>?_) h1 ⟨af,ab⟩
   ·have:=ap _ v;omega
   ·unfold updH;rw [if_neg]
    ·exact hB1
    ·rintro rfl;exact (E.2 r (kas f)).2.2.1 id _ hB' hq
   ·rw [hX,jbs (by rw [<-hn]; exact (jae.1 al).1)] at ac;cases ac;refine ⟨by rw [af,kae t y' hd],λp b b' hp M ae=>?_,xs.map u.enc,by rw [ah,jbs (by rw [kae t y0 hd]; exact hj)],by simp,?_⟩
    ·rw [ah,jbd (λe=>hp e.symm)] at ae;exact an p b b' hp M ae
    ·have hF:=hFam (updH h q (.cells t.wd Z (es.set i.toNat e'))) (λC L=>by
      unfold updH;rw [if_neg];rintro rfl;exact (aa C L).2.2 id _ hB' (.inl hq))
     have ai:=ay;cases F with
     | none=>
      obtain ⟨k1,k2⟩:=hF;exact ⟨by rw [ai,k1],by rw [k2]; rfl⟩
     | some C=>
      obtain ⟨k1,am,k2⟩:=hF;exact ⟨by rw [ai,k1],am,k2⟩
  ·unfold kam;rw [hX];refine kdI E.1 λC L hm=>?_;exact (aa C L).2.2 id _ hB' (.inr ⟨rfl,hm⟩)
  ·rcases ak r f with f | f
   ·obtain ⟨k1,k2,k3,k4⟩:=E.2 r f;refine ⟨k1,k2,k3 id _ hB',λH B' v M S=>?_⟩;exact v (R.owI M hB' S (.inr ⟨rfl,f⟩))
   ·obtain ⟨k1,k2,k3⟩:=aa r f;exact ⟨k1,k2,λe=>k3 id _ hB' (.inl e),λH B' _ M=>k3 H B' M⟩
theorem knb (R:Rel P κ ln z c s env h n) {T T' U:Yc} {t u:Ty} {j:Nat} {l:Ya t.den} {p:Yf} {v:AV} {i:Int} {M:Yb Int} (hu:TVR P κ ln z s.n (.fo id i j) (ev env p)) (hB:alk s.hp id=some (some (.fm T' t j U u l M))) (hm:P.cellsOf T=1) (H:u.dat=true) (hc:c.has id=false)
  (S:∀ k:Int,M=some k->k=i) (f:M.isNone=true\/t.wd=1) {y Y:t.den} {xs:Ya u.den} (hy:gi l i=some y) (I:rowS (A:=sem) t u j y xs=some Y)
  {Z:Yb Nat} (C:(Z=none/\xs=[]/\v=nilS)\/∃ E es,Z=some E/\v = .ms E 0 xs.length/\h E=some (.cells u.wd U es)/\SnapE z es (xs.map u.enc)/\(∀ e∈es,e.length=u.wd/\∀ a∈e,a.one=true))
  (ab:∀ E,Z=some E->E<n/\z E=none/\∀ i' B',thp c s i'=some B'->¬ Ow κ ln i' B' E)
  (hk:Kf .ud { drpS s id with hp:=(id,some (.fm T' t j U u (lset l i Y) none))::(drpS s id).hp }=some r) :
  ∃ ln',Ke c s.n κ ln κ ln'/\∃ h',(∀ K:K3,K .ud h' n->kbc P h n T (ev env p) v K)/\Rel P κ ln' z c { drpS s id with hp:=(id,some (.fm T' t j U u (lset l i Y) none))::(drpS s id).hp } env h' n:=by
 have m:v.one=true/\kav v=some [v]:=by
  rcases C with ⟨_,_,rfl⟩ | ⟨_,_,_,rfl,_⟩ <;> exact ⟨rfl,rfl⟩
 obtain ⟨hd,_⟩:=R.famAt (kab hB) hy;obtain ⟨hj,_⟩:=kdz hd H I;refine kha (av:=v) (y0:=y) R hB H hc S hy I (λq es e hq hh he X aa h0 hf=>?_) ⟨m.1,C⟩ ab hk;have x:putAt e j [v]=e.set j v:=rfl;refine ⟨putAt e j [v],by rw [x,jcf]; exact X,λb B=>?_,by rw [x,jbs (by omega)],λp b b' hp B ac=>?_,λK hK=>?_⟩
 ·rw [x] at B;rcases List.mem_or_eq_of_mem_set B with B | rfl
  ·exact aa b B
  ·exact m.1
 ·rw [x,jbd (λe=>hp e.symm)] at B;by_cases F:M=none
  ·exact hf F p b b' hp B ac
  ·exfalso;have hw:t.wd=1:=by
    rcases f with f | f
    ·exact absurd (jde.1 f) F
    ·exact f
   have:=(jae.1 B).1;omega
 ·generalize hx:ev env p=ad at hu;cases hu with
  | fo _ _ _ q' hN L i0 i1=>
   rw [hq] at L; cases L;simp only [kbc,hh,m.2,he];exact ⟨hm.symm,by simp,by simp; omega,hK⟩
theorem klQ (R:Rel P κ ln z c s env h n) {T Z U:Yc} {t u:Ty} {j:Nat} {l:Ya t.den} {p x:Yf} {i:Int} (hu:TVR P κ ln z s.n (.fo id i 0) (ev env p)) (hB:alk s.hp id=some (some (.fm Z t j U u l none))) (ac:P.cellsOf T≠0) (ab:P.cellsOf T=t.wd) (M:u.dat=true) (hc:c.has id=false)
  {asZ:Ya AV} (hx:ev env x = .ag asZ) (m:∀ a∈asZ,a.one=true) (C:asZ.length=t.wd) {y L y0:t.den} {xs:Ya u.den} (I:∀ p b b',p≠j->asZ[p]?=some b->(t.enc y0)[p]?=some b'->Snap z b b') {v:AV} (E:asZ[j]?=some v) (hy:gi l i=some y) (Y:rowS (A:=sem) t u j y0 xs=some L)
  {S:Yb Nat} (B:(S=none/\xs=[]/\v=nilS)\/∃ f es,S=some f/\v = .ms f 0 xs.length/\h f=some (.cells u.wd U es)/\SnapE z es (xs.map u.enc)/\(∀ e∈es,e.length=u.wd/\∀ a∈e,a.one=true))
  (X:∀ f,S=some f->f<n/\z f=none/\∀ i' B',thp c s i'=some B'->¬ Ow κ ln i' B' f)
  (hk:Kf .ud { drpS s id with hp:=(id,some (.fm Z t j U u (lset l i L) none))::(drpS s id).hp }=some r) :
  ∃ ln',Ke c s.n κ ln κ ln'/\∃ h',(∀ K:K3,K .ud h' n->kbc P h n T (ev env p) (ev env x) K)/\Rel P κ ln' z c { drpS s id with hp:=(id,some (.fm Z t j U u (lset l i L) none))::(drpS s id).hp } env h' n:=by
 refine kha (av:=v) (y0:=y0) R hB M hc (λk e=>by cases e) hy Y (λq es e hq hh he aa ad h0 hf=>?_) ⟨m v (jai E),B⟩ X hk;have H:putAt e 0 asZ=asZ:=by
  rw [kaW (by omega)];simp only [jdd,jay,jbw];rw [jbr (by omega),jbf]
 refine ⟨asZ,C,m,E,I,λK hK=>?_⟩;generalize af:ev env p=ae at hu;cases hu with
 | fo _ _ _ q' hN F i0 i1=>
  rw [hq] at F; cases F;simp only [kbc,hx,hh,kav,he,H];exact ⟨by omega,by omega,by omega,hK⟩
theorem kks (R:Rel P κ ln z c s env h n) {T Z U:Yc} {t u:Ty} {j:Nat} {l:Ya t.den} {p x:Yf} {i:Int} {vs:Ya (TV sem)} (hu:TVR P κ ln z s.n (.fo id i 0) (ev env p)) (hv:TVR P κ ln z s.n (.ag vs) (ev env x)) (am:vs[j]?=some (.fr id i)) (hB:alk s.hp id=some (some (.fm Z t j U u l none))) (ar:P.cellsOf T≠0) (aw:P.cellsOf T=t.wd)
  {y0 y S:t.den} (ah:snapL (A:=sem) c s t (vs.set j (.sc (.slice none 0 0)))=some (y0,[],[])) (hy:gi l i=some y) {ys:Ya u.den} (ai:rowD (A:=sem) t u j y=some ys) (an:rowS (A:=sem) t u j y0 ys=some S) (hk:setB (A:=sem) s id (.fm Z t j U u (lset l i S) none) Kf=some r):Res P κ ln z c s env h n ⟨d,.store T p x,ty,pos,after,g⟩ Kf r:=by
 obtain ⟨k,h0,ap,q,es,e,rm,hq,hh,he,hr,hf,hn,hl,h1,ao,_⟩:=R.famAt (kab hB) hy;have f:=hf (by simp);obtain ⟨ak,hj,af⟩:=kcl k ai;obtain ⟨f1,f2⟩:=f.row af;obtain ⟨_,M⟩:=kdz k ak an;generalize hx:ev env p=av at hu;generalize al:ev env x=xv at hv;cases hv with
 | ag _ asZ E C=>
 cases hu with
 | fo _ _ _ q' hN Y i0 i1=>
  rw [hq] at Y; cases Y;obtain ⟨aj,X,H⟩:=E.at am;have I:=E.set (.sc (.slice none 0 0) rfl:TVR P κ ln z s.n (.sc (.slice none 0 0)) nilS) j;obtain ⟨a1,b1,e1,e2,e3,_⟩:=kbd R t _ _ _ _ _ k I ah;cases e2;rw [jbf] at e1;rw [kaL] at e3;subst e1;have a:asZ.length=t.wd:=by have:=e3.len; rw [jcf,kae t y0 k] at this; exact this.symm
  have au:=(h1 e (jai he)).1;have ac:(t.enc S)[j]?=some (.sl (ys.map u.enc)):=by rw [M,jbs (by rw [kae t y0 k]; exact hj)]
  have aa:e[j]?=some aj:=by
   obtain ⟨_,_,⟨m,g1,g2⟩ | ⟨r',m,g1,g2⟩⟩:=H.fr_inv
   ·rw [hr] at g1; cases g1;rcases f2 with ⟨_,v,_⟩ | ⟨r2,es',v,_⟩
    ·rw [v,g2]
    ·cases v
   ·rw [hr] at g1; cases g1;rcases f2 with ⟨v,_⟩ | ⟨r2,es',v,f4,_⟩
    ·cases v
    ·rw [f4,g2]; cases v; rfl
  have ad:putAt e 0 asZ=asZ:=by
   rw [kaW (by omega)];simp only [jdd,jay,jbw];rw [jbr (by omega),jbf]
  have ab:BR P κ ln z (updH h q (.cells t.wd Z (es.set i.toNat asZ))) s.n id (.fm Z t j U u (lset l i S) none):=by
   unfold lset;refine BR.fmSet (e':=asZ) k hq (by simp [updH]) hn hl ao (λi e=>by cases e) rfl (λ_ _=>rfl) (λi' r m B hi ae hB'=>?_) (λaq F=>?_) h1 ⟨a,λb hb=>C b hb⟩
   ·unfold updH;rw [if_neg]
    ·exact hB'
    ·rintro rfl;exact ((R.fam id _ (kab hB) rfl).2 r (kas ae)).2.2.1 id _ (kab hB) hq
   ·rw [hr] at F; cases F;refine ⟨by rw [a,kae t S k],λp b b' hp hb L=>?_,ys.map u.enc,ac,f1,?_⟩
    ·rw [M,jbd (λe=>hp e.symm)] at L;exact e3.at p b b' (by rw [jbd (λe=>hp e.symm)]; exact hb) L
    ·obtain ⟨rr,m⟩:=rm;rcases f2 with ⟨k1,k2,k3⟩ | ⟨r2,es',k1,k2,k3,k4,k5⟩
     ·simp only at k1; subst k1;rw [aa] at k2;exact ⟨by rw [X]; exact k2,k3⟩
     ·simp only at k1; subst k1;rw [aa] at k2;refine ⟨by rw [X]; exact k2,es',?_,k4,k5⟩;unfold updH;rw [if_neg]
      ·exact k3
      ·rintro rfl;exact ((R.fam id _ (kab hB) rfl).2 _ (kas hr)).2.2.1 id _ (kab hB) hq
  have R':=R.setO (AB:=.cells t.wd Z (es.set i.toNat asZ)) hB (.inl hq) ab (λ_=>rfl);exact ⟨.ud,_,.ud,_,n,κ,ln,z,λK hK=>by
   simp only [aop,kbc,hx,al,hh,kav,he,ad];exact ⟨by omega,by omega,by omega,hK⟩,hk,R',.ud,jah _,.refl,λhc=>by cases hc⟩
theorem kgx (s:TS sem) (r:Yb Nat):(rowN s r).n=s.n:=by cases r <;> rfl
theorem kqC (s:TS sem) (id:Nat):(drpS s id).n=s.n:=rfl
theorem khF (R:Rel P κ ln z c s env h n) {U:Yc} {u:Ty} {v:TV sem} {L:AV} (Z:TVR P κ ln z s.n v L) {xs:Ya u.den} {rd:Yb Nat} (b:kgc (A:=sem) s U u v=some (xs,rd)) :
  Rel P κ ln z c (rowN s rd) env h n/\(∀ i B,alk s.hp i=some (some B)->B.isF=true->alk (rowN s rd).hp i=some (some B))/\∃ M:Yb Nat,((M=none/\xs=[]/\L=nilS)\/∃ m es,M=some m/\L = .ms m 0 xs.length/\h m=some (.cells u.wd U es)/\SnapE z es (xs.map u.enc)/\(∀ e∈es,e.length=u.wd/\∀ a∈e,a.one=true))/\
   (∀ m,M=some m->m<n/\z m=none/\∀ p t,thp c (rowN s rd) p=some t->¬ Ow κ ln p t m):=by
 unfold kgc at b;split at b
 ·rename_i y;split at b
  ·rename_i U' u' l' hBr;split at b
   ·rename_i hU;simp only [jab] at b;obtain ⟨ab,I,S⟩:=b;cases S;obtain ⟨et,rfl⟩:=kah I;cases et;subst hU;have C:∀ p t,thp c (rowN s (some y)) p=some t->p≠y/\thp c s p=some t:=λp t f=>by
     unfold rowN at f;rw [kaK] at f;split at f
     ·cases f
     ·rename_i e; exact ⟨e,f⟩
    refine ⟨R.del (h':=h) hBr (λ_ _ h=>h) (λ_ _ _ h=>h),λi B hB hF=>?_,?_⟩
    ·have K:i≠y:=by rintro rfl; rw [hB] at hBr; cases hBr; cases hF
     simp only [rowN,alk]; rw [if_neg K]; exact hB
    ·cases R.blk _ _ (kab hBr) with
     | sl0 _ _ _ F k T E=>
      subst T;refine ⟨none,.inl ⟨rfl,rfl,?_⟩,λm e=>by cases e⟩;cases Z with
      | mw0=>rfl
      | mw _ q _ x=>rw [k] at x; cases x
     | sl _ _ _ qr es' F k aa H Y E=>
      refine ⟨some qr,.inr ⟨qr,es',rfl,?_,aa,H,λe he=>⟨H.heads F e he,Y e he⟩⟩,λm e=>?_⟩
      ·rw [E];cases Z with
       | mw0 _ _ x=>rw [k] at x; cases x
       | mw _ q _ x=>rw [k] at x; cases x; rfl
      ·cases e;refine ⟨R.bnd _ _ _ (kab hBr) k,R.zout _ _ _ (kab hBr) k,λp t f X=>?_⟩;obtain ⟨w1,w2⟩:=C p t f;exact w1 (R.owI w2 (kab hBr) X (.inl k))
   ·cases b
  ·cases b
 ·rename_i w;split at b
  ·rename_i hn;cases b;exact ⟨R,λ_ _ h _=>h,none,.inl ⟨rfl,rfl,by cases Z; rw [kaE hn]⟩,λm e=>by cases e⟩
  ·cases b
 ·cases b
theorem kkW (R:Rel P κ ln z c s env h n) {T:Yc} {p x:Yf} {i:Int} {o:Nat} {v:TV sem} (hu:TVR P κ ln z s.n (.fo id i o) (ev env p)) (hv:TVR P κ ln z s.n v (ev env x)) (a:kiR P c s T id i o v Kf=some r):Res P κ ln z c s env h n ⟨d,.store T p x,ty,pos,after,g⟩ Kf r:=by
 unfold kiR at a;split at a
 ·rename_i ag T' t j U u l ho ao hB;replace hB:=kbo hB;split at a
  ·exact kaa a
  ·rename_i Z;split at a
   ·rename_i A;obtain ⟨_,rfl,ak,ab⟩:=A;split at a
    ·rename_i xs rv C;split at a
     ·exact kaa a
     ·rename_i m;have m:c.has id=false:=by simpa using m
      obtain ⟨k,ac⟩:=kqb a;clear a;simp only [jaa] at k;obtain ⟨y,E,k⟩:=k;split at k
      ·rename_i y' f;have H:u.dat=true:=by
        obtain ⟨hd,_⟩:=R.famAt (kab hB) E;exact kml hd f
       obtain ⟨R0,hB0,ae,w1,w2⟩:=khF R hv C;have hB0:=hB0 _ _ hB rfl;obtain ⟨ln',g1,h',g2,g3⟩:=knb R0 (by rw [kgx]; exact hu) hB0 ak H m ac ab E f w1 w2 k;rw [kgx] at g1;exact ⟨_,_,_,_,_,_,_,_,λK hK=>by simp only [aop]; exact g2 K hK,k,g3,.ud,by simp [kgx,kqC],g1,λA=>by cases A⟩
      ·exact kaa k
    ·exact kaa a
   ·split at a
    ·rename_i A;obtain ⟨A,B⟩:=A;obtain rfl:=jde.1 B;simp only [jaa] at a;obtain ⟨y,E,a⟩:=a;split at a
     ·rename_i y' f;exact klU R hu hv hB Z A E f a
     ·exact kaa a
    ·split at a
     ·rename_i vs;split at a
      ·rename_i an i' I;split at a
       ·rename_i A;obtain ⟨rfl,L,B,rfl⟩:=A;obtain rfl:=jde.1 B;split at a
        ·rename_i y0 F;simp only [jaa] at a;obtain ⟨y,E,_,hg,a⟩:=a;have al:i=i':=by
          unfold gsame at hg;split at hg
          ·assumption
          ·cases hg
         subst al;split at a
         ·rename_i y' f;obtain ⟨ys,af,f⟩:=jaa.1 f;exact kks R hu hv I hB (by omega) L F E af f a
         ·exact kaa a
        ·exact kaa a
       ·exact kaa a
      ·rename_i w am I;split at a
       ·rename_i A;obtain ⟨rfl,L,B⟩:=A;obtain rfl:=jde.1 B;split at a
        ·rename_i xs rd C;split at a
         ·exact kaa a
         ·rename_i m;have m:c.has id=false:=by simpa using m
          split at a
          ·rename_i y0 F;simp only [jaa] at a;obtain ⟨y,E,a⟩:=a;split at a
           ·rename_i y' f;obtain ⟨hd,_⟩:=R.famAt (kab hB) E;have H:=kml hd f;generalize ah:ev env x=xv at hv;cases hv with
            | ag _ asZ X S=>
             obtain ⟨aj,ai,Y⟩:=X.at I;obtain ⟨R0,hB0,ae,w1,w2⟩:=khF R Y C;have hB0:=hB0 _ _ hB rfl;have aa:=X.set (.sc (.slice none 0 0) rfl:TVR P κ ln z s.n (.sc (.slice none 0 0)) nilS) j;obtain ⟨a1,b1,e1,e2,e3,_⟩:=kbd R t _ _ _ _ _ hd aa F;cases e2;rw [jbf] at e1;rw [kaL] at e3;subst e1;have M:asZ.length=t.wd:=by have:=e3.len; rw [jcf,kae t y0 hd] at this; exact this.symm
             obtain ⟨ln',g1,h',g2,g3⟩:=klQ R0 (by rw [kgx]; exact hu) hB0 Z L H m ah S M (λp b b' hp hb ad=>e3.at p b b' (by rw [jbd (λe=>hp e.symm)]; exact hb) ad) ai E f w1 w2 a;rw [kgx] at g1;exact ⟨_,_,_,_,_,_,_,_,λK hK=>by simp only [aop]; exact g2 K hK,a,g3,.ud,by simp [kgx,kqC],g1,λA=>by cases A⟩
           ·exact kaa a
          ·exact kaa a
        ·exact kaa a
       ·exact kaa a
      ·exact kaa a
     ·exact kaa a
 ·exact kaa a
end
theorem arr_of' {α:Type} {a:Array α} {l:Ya α} (h:a.toList=l):a=l.toArray:=by rw [<-h]
section
variable {P:Ye} {κ κ':Nat->Yb Nat} {ln ln':Nat->Nat} {z z':AH} {c:Cx sem} {s:TS sem} {env:Env} {h h':AH} {n n' N N':Nat} {id:Nat}
variable {ρ:Ty} {Kf:TV sem->TS sem->sem.Ans ρ} {r:ρ.den}
variable {d:Yb Tmp} {ty:Yc} {pos:String} {after:Array Edge} {g:Yb (Nat×Bool)}
theorem krh (R:Rel P κ ln z c s env h n) {x y:Yf} {m:Int} (hs:kfh x y=true) (u:tev c s x = .c (.i .i64) m):ev env x = .sc (.int .i64 m)/\∃ p,ev env y = .sc (.int p m):=by
 have t:=R.ev x;rw [u] at t;have e:=t.i_inv;refine ⟨e,?_⟩;unfold kfh at hs;split at hs
 ·rename_i a b;obtain rfl:a=b:=by simpa using hs
  exact ⟨_,e⟩
 ·rename_i k a p b;have f:a=b:=by simpa using hs
  subst f;have:(Value.int k a) = .int .i64 m:=by simpa [ev,cst] using e
  cases this;exact ⟨p,rfl⟩
 ·cases hs
theorem FamE.nil {w:Nat} {U:Yc} {cs e:Ya AV} {j:Nat} {ys:Ya (Ya AV)} (hs:SnapL z e cs) (k:cs[j]?=some (.sl ys)) (b:∃ v,e[j]?=some (.sc v)):FamE z h j U w cs e (none,0):=by
 obtain ⟨v,b⟩:=b;have p:=hs.at j _ _ b k;rcases p.sl_inv with ⟨es,h2,_⟩ | ⟨h2,i⟩ | ⟨_,_,_,_,_,_,h2,_⟩
 ·cases h2
 ·exact ⟨hs.len.symm,λq a a' _ m f=>hs.at q a a' m f,ys,k,by rw [i]; rfl,by rw [b,h2],i⟩
 ·cases h2
theorem kgN {e:Yc} {t u:Ty} {j:Nat} {U:Yc} (h:famO P e=some (t,j,U,u)):t.dat=true/\u.dat=true/\tyOf P e=some t:=by
 unfold famO at h;split at h
 ·rename_i t' Ts a hT;split at h
  ·simp only [jab] at h;obtain ⟨i,f,b⟩:=h;cases b;exact ⟨kci a,kci f,a⟩
  ·cases h
 ·cases h
theorem klS (R:Rel P κ ln z c s env h n) {T:Yc} {e:Yc} {x y:Yf} (he:elemO P T=some e) (b:kkC P s e (tev c s x) (kfh x y) Kf=some r):Res P κ ln z c s env h n ⟨d,.makeSlice T x y,ty,pos,after,g⟩ Kf r:=by
 unfold kkC at b;split at b
 ·rename_i t j U u zs m hf hz hm;split at b
  ·rename_i z0 S;split at b
   ·rename_i hc;obtain ⟨hs,Z,k,ae,hb,F⟩:=hc;obtain ⟨H,ad,_⟩:=kgN hf;obtain ⟨L,k',ab⟩:=krh R hs hm;simp only [jaa] at b;obtain ⟨l,C,b⟩:=b;obtain ⟨g1,g2,C⟩:=koT C;obtain ⟨rest,hr,X⟩:=(jcp _ _).1 Z;obtain rfl:=jcr.1 X;obtain ⟨a,ea,ha⟩:=kbW (z:=z) t z0 zs [] H S hr;rw [jbf] at ea; subst ea;obtain ⟨ys,aa⟩:=jan.1 F;obtain ⟨_,hj,Y⟩:=kcl H aa;have ac:FamE z (updH h n (.cells t.wd e (List.replicate m.toNat zs))) j U u.wd (t.enc z0) zs (none,0):=by
     refine FamE.nil ha Y ?_;have h1:zs[j]?=some (zs[j]'(by omega)):=jad _;obtain ⟨v,hv,_⟩:=kdR hz _ (jai h1);exact ⟨v,by rw [h1,hv]⟩
    have E:kam (codeR (List.replicate m.toNat (none,0)))=[]:=by
     rw [khR];generalize m.toNat=p;induction p with
     | zero=>rfl
     | succ p ih=>rw [List.replicate_succ,jcq]; exact ih
    have R':=R.newF (h':=updH h n (.cells t.wd e (List.replicate m.toNat zs))) (n':=n+1) (.fm e t j U u l none) (some n) (codeR (List.replicate m.toNat (none,0))) (λq B A=>by
      unfold updH; rw [if_neg]; ·exact A
      rintro rfl; rw [R.hn _ (jah _)] at A; cases A) (jbk _) (λq A=>by cases A; omega) (λq A=>by unfold updH; rw [if_neg (by omega)]; exact R.hn q (by omega))
     (.fm e t j U u l none n (List.replicate m.toNat zs) H updK_self (by simp [updH]) (by rw [updK_self,kaX,C]; simp) (by rw [C]; simp) (λi x e' rm hx f hr _=>by
      rw [updK_self,kaX,jdc] at hr;rw [C,jdc] at hx;rw [jdc] at f;split at hr
      ·rename_i M;rw [if_pos M] at hx f;cases hr; cases hx; cases f;exact ac
      ·cases hr) (λi rm I=>by cases I) (λe' f=>by
       obtain ⟨_,rfl⟩:=List.mem_replicate.1 f;exact ⟨k,ha.one_rev (kaF t z0 H)⟩)) (by rw [E]; exact ⟨List.nodup_nil,λr hr=>by cases hr⟩)
    refine ⟨.fw s.n,_,.ms n 0 m.toNat,_,_,_,_,_,λK hK=>?_,b,R',?_,jbk _,λid I=>⟨kao I,λ_=>kao I⟩,λhc=>by cases hc⟩
    ·simp only [aop,he,hz,L,ab];refine ⟨trivial,g1,g2,hb,by rintro rfl; simp at k; omega,?_⟩;rw [k]; exact hK
    ·have:=TVR.fw (P:=P) (κ:=updK κ s.n (some n)) (ln:=updK ln s.n (codeR (List.replicate m.toNat (none,0)))) (z:=z) (N:=s.n+1) s.n n (jbe _) updK_self;rw [updK_self,kaX,List.length_replicate] at this;exact this
   ·exact kaa b
  ·exact kaa b
 ·exact kaa b
theorem kna (R:Rel P κ ln z c s env h n) {T T2:Yc} {x y:Yf} {a:Int} {v:TV sem} (hu:TVR P κ ln z s.n (.fr id a) (ev env x)) (hv:TVR P κ ln z s.n v (ev env y)) (i:knt P c s T T2 id a v Kf=some r) :
  Res P κ ln z c s env h n ⟨d,.call ⟨.builtin .append,#[x,y],#[T,T2]⟩,ty,pos,after,g⟩ Kf r:=by
 unfold knt at i;split at i
 ·rename_i e T' t j U u l he hB;replace hB:=kbo hB;split at i
  ·rename_i zs hz;split at i
   ·rename_i hc;obtain ⟨hp,L,aD,hb,rfl⟩:=hc;have F:zs≠[]:=by rintro rfl; simp at L; omega
    split at i
    ·exact kaa i
    ·rename_i S;have S:c.has id=false:=by simpa using S
     split at i
     ·exact kaa i
     ·rename_i xs ids ap;simp only [jaa] at i;obtain ⟨w,hw,i⟩:=i;split at i
      ·rename_i ys ay;simp only [jaa] at i;obtain ⟨l',hg,i⟩:=i;obtain ⟨aw,hg⟩:=kdW hg;subst hg;obtain ⟨ah,bs,Y,ai⟩:=khS R hv ap;have M:=ai.1;rw [jax] at M;obtain ⟨hd,h0,aB,q,es,e',rm,C,hh,aC,hr,hf,hn,hl,Z,aA,aF⟩:=R.famAt (kab hB) hw;obtain ⟨_,hj,ar⟩:=kcl hd ay;obtain ⟨f1,f2⟩:=(hf (by simp)).row ar;rw [jax] at f1;have hB':=kab (c:=c) hB;have A:=R.fam id _ hB' rfl;have au:=(jae.1 hr).1;rw [<-L] at Y;have hX:∀ X,X=updK ln id (codeR ((kad (ln id)).set a.toNat (none,0)))->kad (X id)=(kad (ln id)).set a.toNat (none,0):=λX e=>by rw [e,updK_self,kaX]
       have aa:∀ (Z:AH),(∀ f,(∀ m,(kad (ln id))[a.toNat]?≠some (some f,m))->Z f=h f)->(∀ f,n<=f->Z f=none)->Rel P κ (updK ln id (codeR ((kad (ln id)).set a.toNat (none,0)))) z c { drpS s id with hp:=(id,some (.fm T' t j e u l (some a)))::(drpS s id).hp } env Z n:=λI k1 k2=>by
        have hX':=hX _ rfl;have kz:∀ f,(∀ r,r∈kam (ln id)->r≠f)->I f=h f:=λf E=>k1 f λm hm=>E f (kas hm) rfl;have ao:∀ r,r∈kam (updK ln id (codeR ((kad (ln id)).set a.toNat (none,0))) id)->r∈kam (ln id):=λr b=>by
         unfold kam at b ⊢;rw [hX'] at b;rcases keP b with h | h
         ·exact h
         ·cases h
        refine R.famSet S hB rfl rfl (by rw [hX',jcf]) (λi' p=>by unfold updK; rw [if_neg p]) (jah _) k2 (λf B af=>?_) (λi' B rr AB p ae ad h2=>?_) ?_ ⟨?_,λr b=>?_⟩
        ·rw [kz f λr b e=>?_]
         ·exact R.zin f B af
         ·subst e; rw [(A.2 r b).2.1] at af; cases af
        ·rw [kz rr λr b e=>?_]
         ·exact h2
         ·subst e; exact p (R.owI ae hB' ad (.inr ⟨rfl,b⟩))
        ·refine .fm T' t j e u l (some a) q es hd C ?_ (by rw [hX',jcf]; exact hn) hl (λi' x' e2 ac ax az b H=>?_) (λi' ac p b=>?_) Z
         ·rw [kz q λr b e=>?_]
          ·exact hh
          ·subst e; exact (A.2 r b).2.2.1 id _ hB' C
         ·have aj:i'≠a.toNat:=λe=>H (by rw [e,Int.toNat_of_nonneg h0]);rw [hX',jbd (λe=>aj e.symm)] at b;refine (aA i' x' e2 ac ax az b (by simp)).mono (λ_ _ h=>h) λrr B an hBB=>?_;obtain ⟨aE,m'⟩:=ac;simp only at an; subst an;rw [k1 rr λm hm=>?_]
          ·exact hBB
          ·exact aj (kfX A.1 b hm rfl rfl)
         ·have:i'=a.toNat:=by cases p; simp
          subst this;rw [hX',jbs au] at b;cases b; rfl
        ·unfold kam;rw [hX'];exact kdI A.1 λrr aq=>by cases aq
        ·have b:=ao r b;obtain ⟨w1,w2,w3,w4⟩:=A.2 r b;refine ⟨w1,w2,w3 id _ hB',λi' B2 p ae ad=>?_⟩;exact p (R.owI ae hB' ad (.inr ⟨rfl,b⟩))
       have ke:∀ m k,Ke c s.n κ ln (updK κ s.n k) (updK (updK ln id (codeR ((kad (ln id)).set a.toNat (none,0)))) s.n m):=λm k i' p=>⟨kao p,λal=>by
        rw [kao p];unfold updK;rw [if_neg];rintro rfl;rw [S] at al; cases al⟩
       have fin:∀ (Z:AH) (es':Ya (Ya AV)),(∀ f,(∀ m,(kad (ln id))[a.toNat]?≠some (some f,m))->Z f=h f)->(∀ f,n<=f->Z f=none)->SnapE z es' ((ys++xs).map u.enc)->(∀ K:K3,K (.ms n 0 (ys++xs).length) (updH Z n (.cells u.wd e es')) (n+1)->aop P env h n ⟨d,.call ⟨.builtin .append,#[x,y],#[T,T2]⟩,ty,pos,after,g⟩ K)->Res P κ ln z c s env h n ⟨d,.call ⟨.builtin .append,#[x,y],#[T,T2]⟩,ty,pos,after,g⟩ Kf r:=λI es' k1 k2 ak hK=>by
        have R1:=aa I k1 k2;have R2:=R1.new (h':=updH I n (.cells u.wd e es')) (n':=n+1) (.sl e u (ys++xs)) (some n) (ys++xs).length (λq B C=>by
          unfold updH; rw [if_neg]; ·exact C
          rintro rfl; rw [R1.hn _ (jah _)] at C; cases C) (jbk _) (λq C=>by cases C; omega) (λq C=>by unfold updH; rw [if_neg (by omega)]; exact R1.hn q (by omega))
         (.sl e u (ys++xs) n es' ah updK_self (by simp [updH]) ak (ak.ones ah) updK_self.symm)
        refine ⟨.mw s.n,_,_,_,_,_,_,_,hK,i,R2,?_,jbk _,ke _ _,λhc=>by cases hc⟩;have:=TVR.mw (P:=P) (κ:=updK κ s.n (some n)) (ln:=updK (updK ln id (codeR ((kad (ln id)).set a.toNat (none,0)))) s.n (ys++xs).length) (z:=z) (N:=s.n+1) s.n n (jbe _) updK_self;rw [updK_self] at this;exact this
       obtain ⟨hN,a0,⟨m,g1,g2⟩ | ⟨r',m,g1,g2⟩⟩:=hu.fr_inv
       ·rw [hr] at g1; cases g1;rcases f2 with ⟨_,_,f3⟩ | ⟨r2,es',f3,_⟩
        ·rw [jdf] at f3; subst f3;rw [jay] at i fin;have ab:bs.length<=1048576:=by simp at aw; omega
         by_cases H:bs=[]
         ·subst H;have:xs=[]:=by simpa using M
          subst this;have R1:=aa h (λ_ _=>rfl) R.hn;have R2:=R1.new (h':=h) (n':=n) (.sl e u []) none 0 (λq B C=>C) (jah _) (λq C=>by cases C) R1.hn (.sl0 e u [] ah updK_self rfl updK_self);refine ⟨.mw s.n,_,nilS,_,_,_,_,_,λK hK=>?_,i,R2,.mw0 s.n (jbe _) updK_self,jbk _,ke _ _,λhc=>by cases hc⟩;simp only [aop,kag,g2,kba,he,hz,Y];exact ⟨hp,F,hb,ab,λ_=>hK,λh=>absurd rfl h⟩
         ·refine fin h bs (λ_ _=>rfl) R.hn ai λK hK=>?_;simp only [aop,kag,g2,kba,he,hz,Y];refine ⟨hp,F,hb,ab,λh=>absurd h H,λ_=>?_⟩;rw [L,<-M]; exact hK
        ·cases f3
       ·rw [hr] at g1; cases g1;rcases f2 with ⟨f3,_⟩ | ⟨r2,es',f3,f4,f5,f6,f7⟩
        ·cases f3
        ·cases f3;simp only at f1;subst f1;have am:=f6.1;rw [jax] at am;refine fin (delH h r') (es'++bs) (λf E=>?_) (λf E=>?_) (by rw [jdb]; exact f6.append ai) λK hK=>?_
         ·unfold delH;rw [if_neg];rintro rfl;exact E _ hr
         ·unfold delH;split
          ·rfl
          ·exact R.hn f E
         ·simp only [aop,kag,g2,kba,he,hz,Y,f5];refine ⟨hp,F,hb,L.symm,trivial,am.symm,by omega,?_⟩;rw [jap,M] at hK;exact hK
      ·exact kaa i
   ·exact kaa i
  ·exact kaa i
 ·exact kaa i
end
section
variable {P:Ye} {κ κ':Nat->Yb Nat} {ln ln':Nat->Nat} {z z':AH} {c:Cx sem} {s:TS sem} {env:Env} {h h':AH} {n n' N N':Nat} {id:Nat}
variable {ρ:Ty} {Kf:TV sem->TS sem->sem.Ans ρ} {r:ρ.den}
variable {d:Yb Tmp} {ty:Yc} {pos:String} {after:Array Edge} {g:Yb (Nat×Bool)}
theorem Rel.famAll (R:Rel P κ ln z c s env h n) {T U:Yc} {t u:Ty} {j:Nat} {l:Ya t.den} (hB:thp c s id=some (.fm T t j U u l none)) :
  t.dat=true/\∃ es:Ya (Ya AV),es.length=l.length/\l.length=(kad (ln id)).length/\(∀ (i:Nat) (x:t.den) (e:Ya AV) (b:Yb Nat×Nat),l[i]?=some x->es[i]?=some e->(kad (ln id))[i]?=some b->FamE z h j U u.wd (t.enc x) e b)/\
   (∀ e∈es,e.length=t.wd/\∀ a∈e,a.one=true)/\((κ id=none/\es=[])\/∃ q,κ id=some q/\h q=some (.cells t.wd T es)):=by
 have m:=R.blk _ _ hB;cases m with
 | fm0 _ _ _ _ _ _ _ f k hl hn=>subst hl; exact ⟨f,[],rfl,by rw [hn]; rfl,by simp,by simp,.inl ⟨k,rfl⟩⟩
 | fm _ _ _ _ _ _ _ q es f k v hn hl B C p=>exact ⟨f,es,hl,hn,λi x e b y A hr=>B i x e b y A hr (by simp),p,.inr ⟨q,k,v⟩⟩
theorem Rel.famNew (R:Rel P κ ln z c s env h n) {T U:Yc} {t u:Ty} {j:Nat} {l:Ya t.den} {es:Ya (Ya AV)} {rows:Ya (Yb Nat×Nat)} (p:t.dat=true) (hl:es.length=l.length) (hn:l.length=rows.length)
  (E:∀ (i:Nat) (x:t.den) (e:Ya AV) (k:Yb Nat×Nat),l[i]?=some x->es[i]?=some e->rows[i]?=some k->FamE z h j U u.wd (t.enc x) e k) (v:∀ e∈es,e.length=t.wd/\∀ a∈e,a.one=true)
  (hr:(rows.filterMap (·.1)).Nodup/\∀ r∈rows.filterMap (·.1),r<n/\z r=none/\∀ i m,thp c s i=some m->¬ Ow κ ln i m r) :
  Rel P (updK κ s.n (some n)) (updK ln s.n (codeR rows)) z c { s with hp:=(s.n,some (.fm T t j U u l none))::s.hp,n:=s.n+1 } env (updH h n (.cells t.wd T es)) (n+1):=by
 have up:∀ q B,h q=some B->updH h n (.cells t.wd T es) q=some B:=λq B b=>by
  unfold updH; rw [if_neg]; ·exact b
  rintro rfl; rw [R.hn _ (jah _)] at b; cases b
 exact R.newF (.fm T t j U u l none) (some n) (codeR rows) up (jbk _) (λq b=>by cases b; omega) (λq b=>by unfold updH; rw [if_neg (by omega)]; exact R.hn q (by omega))
  (.fm T t j U u l none n es p updK_self (by simp [updH]) (by rw [updK_self,kaX]; exact hn) hl (λi x e k A C f _=>(E i x e k A C (by rw [updK_self,kaX] at f; exact f)).mono (λ_ _ h=>h) (λr B _ hB=>up r B hB)) (λi k y=>by cases y) v)
  (by rw [khR]; exact hr)
theorem Rel.famNew0 (R:Rel P κ ln z c s env h n) {T U:Yc} {t u:Ty} {j:Nat} (b:t.dat=true):Rel P (updK κ s.n none) (updK ln s.n 0) z c { s with hp:=(s.n,some (.fm T t j U u [] none))::s.hp,n:=s.n+1 } env h n:=
 R.newF (.fm T t j U u [] none) none 0 (λ_ _ a=>a) (jah _) (λq a=>by cases a) R.hn (.fm0 T t j U u [] none b updK_self rfl updK_self) ⟨List.nodup_nil,λr hr=>by cases hr⟩
theorem kdJ {N:Nat} {k:Yb Nat} {m:Nat}:Ke c N κ ln (updK κ N k) (updK ln N m):=λid a=>⟨kao a,λ_=>kao a⟩
theorem khk {T e:Yc} {f:Ty×Nat×Yc×Ty} (h:((elemO P T).bind λe=>(famO P e).map λf=>(e,f))=some (e,f)):elemO P T=some e/\famO P e=some f:=by
 obtain ⟨e',b,h2⟩:=jaa.1 h;obtain ⟨k,i,a⟩:=jab.1 h2;cases a;exact ⟨b,i⟩
theorem knl (R:Rel P κ ln z c s env h n) {x:Yf} (m:ev env x=nilS) (a:knT P s ty Kf=some r):Res P κ ln z c s env h n ⟨d,.assign x,ty,pos,after,g⟩ Kf r:=by
 unfold knT at a;split at a
 ·rename_i e t j U u b;obtain ⟨y,b⟩:=khk b;obtain ⟨f,p,_⟩:=kgN b;exact ⟨.fw s.n,_,nilS,h,n,_,_,_,λK hK=>by simp only [aop,m]; exact hK,a,R.famNew0 f,.fw0 s.n (jbe _) updK_self,jbk _,kdJ,λk=>by cases k⟩
 ·split at a
  ·rename_i e t b;split at a
   ·rename_i f;have v:=R.new (h':=h) (n':=n) (.sl e t []) none 0 (λq B i=>i) (jah _) (λq i=>by cases i) R.hn (.sl0 e t [] f updK_self rfl updK_self);exact ⟨.mw s.n,_,nilS,h,n,_,_,_,λK hK=>by simp only [aop,m]; exact hK,a,v,.mw0 s.n (jbe _) updK_self,jbk _,kdJ,λk=>by cases k⟩
   ·exact kaa a
  ·exact kaa a
theorem keb {q:Nat->Bool}:∀ (zs:Ya AV) (Ts:Ya Yc) {i:Nat} {κ:Nat->Yb Nat} {ln:Nat->Nat} {s:TS sem},Rel P κ ln z c s env h n->(∀ a∈zs,∃ v,a = .sc v/\v.oneCell'=true)->zs.length=Ts.length->
  ∃ κ' ln',Rel P κ' ln' z c (zeroF P q i s zs Ts).2 env h n/\TVRs P κ' ln' z (zeroF P q i s zs Ts).2.n (zeroF P q i s zs Ts).1 zs/\s.n<=(zeroF P q i s zs Ts).2.n/\(zeroF P q i s zs Ts).2.env=s.env/\(∀ id,id<s.n->κ' id = κ id)/\(∀ id,id<s.n->ln' id=ln id)
 | [],[],i,κ,ln,s,R,_,_=>⟨κ,ln,R,.nil,jah _,rfl,λ_ _=>rfl,λ_ _=>rfl⟩
 | [],_::_,_,_,_,_,_,_,hl=>by simp at hl
 | _::_,[],_,_,_,_,_,_,hl=>by simp at hl
 | a::zs,T::Ts,i,κ,ln,s,R,hz,hl=>by
  obtain ⟨v,rfl,K⟩:=hz _ (jdk ..);have p:∀ a∈zs,∃ v,a = .sc v/\v.oneCell'=true:=λa y=>hz a (jbc _ y);have m:zs.length=Ts.length:=by simpa using hl
  simp only [zeroF];split
  ·rename_i e t j U u k;split at k
   ·rename_i hn;rw [jac] at hn;obtain rfl:=kaE hn.1;obtain ⟨S,k⟩:=khk k;obtain ⟨E,H,_⟩:=kgN k;obtain ⟨κ',ln',C,A,h2,B,f,x⟩:=keb zs Ts (R.famNew0 (T:=e) (U:=U) (u:=u) (j:=j) E) p m;exact ⟨κ',ln',C,.cons _ _ _ _ (.fw0 s.n (jao (jbe _) h2) (by rw [f s.n (jbe _)]; exact updK_self)) A,Nat.le_of_succ_le h2,B,λid b=>by rw [f id (jdu b)]; exact kao b,λid b=>by rw [x id (jdu b)]; exact kao b⟩
   ·cases k
  ·obtain ⟨M,F,I,L,a2,a3,a4,a5,_⟩:=kcv [.sc v] [T] R (λa y=>by simp at y; subst y; exact ⟨v,rfl,K⟩) rfl;obtain ⟨κ',ln',C,A,h2,B,f,x⟩:=keb zs Ts I p m;exact ⟨κ',ln',C,(L.mono f x (λ_ _ h=>h) h2).append A,jct a2 h2,B.trans a3,λid b=>(f id (by omega)).trans (a4 id b),λid b=>(x id (by omega)).trans (a5 id b)⟩
theorem kmB {q:Nat->Bool} (R:Rel P κ ln z c s env h n) {T:Yc} (b:kmK P q s T Kf=some r):Res P κ ln z c s env h n ⟨d,.alloc T,ty,pos,after,g⟩ Kf r:=by
 unfold kmK at b;split at b
 ·rename_i zs Ts hz hT;split at b
  ·rename_i hl;have f:=kdR hz;have e:∀ a∈zs,a.one=true:=λa H=>by obtain ⟨v,rfl,F⟩:=f a H; exact F
   obtain ⟨κ',ln',I,A,h2,_,y,B⟩:=keb zs Ts R f hl;obtain ⟨t,s',v,h',n',x,i,z2,E,u,L,C,k⟩:=kfS (o:=⟨d,.alloc T,ty,pos,after,g⟩) rfl I A e (λK b=>by simp only [aop,hz]; exact b) b;exact ⟨t,s',v,h',n',x,i,z2,E,u,L,C,by have:=k.1; omega,λid p=>⟨(k.2.1 id (by omega)).1.trans (y id p),λm=>((k.2.1 id (by omega)).2 m).trans (B id p)⟩,λm=>by cases m⟩
  ·exact kaa b
 ·exact kaa b
theorem kfW {id:Nat} (b:id<N):∀ {vs:Ya (TV sem)} {asZ:Ya AV},TVRs P κ ln z N vs asZ->TVRs P κ ln z N (selfV id vs) asZ
 | _,_,.nil=>.nil
 | _,_,.cons v a vs asZ h hs=>by
  unfold selfV;split
  ·rename_i e; cases e
  ·rename_i f e;cases e;cases h;exact .cons _ _ _ _ (.np0 id b) (kfW b hs)
  ·rename_i k f i e;cases e;exact .cons _ _ _ _ h (kfW b hs)
theorem khu {id:Nat}:∀ (vs:Ya (TV sem)),(selfV id vs).length=vs.length
 | []=>rfl
 | v::vs=>by
  unfold selfV;split
  ·rename_i e; cases e
  ·rename_i a e; cases e; simp [khu]
  ·rename_i b a _ e; cases e; simp [khu]
theorem knk (R:Rel P κ ln z c s env h n) {T:Yc} (b:knf P s T Kf=some r):Res P κ ln z c s env h n ⟨d,.alloc T,ty,pos,after,g⟩ Kf r:=by
 unfold knf at b;split at b
 ·rename_i zs Ts hz hT;split at b
  ·rename_i hl;have m:=kdR hz;have k:∀ a∈zs,a.one=true:=λa F=>by obtain ⟨v,rfl,E⟩:=m a F; exact E
   obtain ⟨κ',ln',p,t,h2,_,x,y,_⟩:=kcv zs Ts R m hl;revert b p t h2 x y;generalize zeroC P s zs Ts=q;intro b p t h2 x y;have A:∀ i,i<q.2.n->updK κ' q.2.n (some n) i = κ' i:=λi e=>kao e;have C:=p.new (h':=updH h n (.cells zs.length T [zs])) (n':=n+1) (.bx T (selfV q.2.n q.1)) (some n) 0 (λu B f=>by
     unfold updH; rw [if_neg]; ·exact f
     rintro rfl; rw [p.hn _ (jah _)] at f; cases f) (jbk _) (λu f=>by cases f; omega) (λu f=>by unfold updH; rw [if_neg (by omega)]; exact p.hn u (by omega))
    (.bx T _ n zs updK_self (by simp [updH,khu,t.len]) (kfW (jbe _) (t.mono (λid e=>kao e) (λid e=>kao e) (λ_ _ h=>h) (jbk _))) k)
   exact ⟨.ptr q.2.n 0,_,_,_,_,_,_,_,λK b=>by simp only [aop,hz]; exact b,b,C,.ptr q.2.n 0 n (jbe _) updK_self,jct h2 (jbk _),λid e=>⟨(kao (by omega)).trans (x id e),λ_=>(kao (by omega)).trans (y id e)⟩,λH=>by cases H⟩
  ·exact kaa b
 ·exact kaa b
theorem knL {q:Nat->Bool} (R:Rel P κ ln z c s env h n) {T:Yc} {b:Array (Nat×Yf)} (e:knB P c q s T b.toList Kf=some r):Res P κ ln z c s env h n ⟨d,.build T b,ty,pos,after,g⟩ Kf r:=by
 unfold knB at e;split at e
 ·rename_i zs Ts pl hz hT hp;split at e
  ·rename_i hl;simp only at e;have f:=kdR hz;obtain ⟨κ',ln',m,t,h2,A,p,u⟩:=keb zs Ts R f hl;split at e
   ·rename_i vs y;have i:∀ x,TVR P κ' ln' z (zeroF P q 0 s zs Ts).2.n (tev c s x) (ev env x):=λx=>by rw [<-koE (c:=c) A]; exact m.ev x
    obtain ⟨bs,k1,k2,k3⟩:=kfV i b.toList _ zs t (λa C=>by obtain ⟨v,rfl,B⟩:=f a C; exact B) y;exact ⟨.ag vs,_,.ag bs,h,n,κ',ln',z,λK e=>koO hz hp k1 e,e,m,.ag vs bs k2 k3,h2,λid k=>⟨p id k,λ_=>u id k⟩,λE=>by cases E⟩
   ·exact kaa e
  ·exact kaa e
 ·exact kaa e
theorem kkB (R:Rel P κ ln z c s env h n) {T:Yc} {len:Nat} {p:Array (Nat×Yf)} (f:kjs P c s T len p.toList Kf=some r):Res P κ ln z c s env h n ⟨d,.buildSlice T len p,ty,pos,after,g⟩ Kf r:=by
 unfold kjs at f;split at f
 ·rename_i e t j U u x hf hp;obtain ⟨he,hf⟩:=khk hf;obtain ⟨hd,ak,_⟩:=kgN hf;split at f
  ·rename_i zs vs hz hc;split at f
   ·rename_i Z;obtain ⟨rfl,ap,hw⟩:=Z;split at f
    ·rename_i xs rr y0 al ar;split at f
     ·rename_i y hy;obtain ⟨vj,ay,b⟩:=jaa.1 al;obtain ⟨hj,ah⟩:=kdz hd ak hy;obtain ⟨asZ,ao,ab⟩:=(R.ev x).one_cells hc;obtain ⟨aj,I,F⟩:=ab.at ay;have ae:=ab.set (.sc (.slice none 0 0) rfl:TVR P κ ln z s.n (.sc (.slice none 0 0)) nilS) j;obtain ⟨a1,b1,e1,e2,e3,_⟩:=kbd R t _ _ _ _ _ hd ae ar;cases e2;rw [jbf] at e1;rw [kaL] at e3;subst e1;have E:asZ.length=t.wd:=by have:=e3.len; rw [jcf,kae t y0 hd] at this; exact this.symm
      have aa:∀ (q:Nat) (a:AV),q≠j->asZ[q]?=some a->a.one=true:=λq a k ha=>e3.one_rev (kaF t y0 hd) a (jai (i:=q) (by rw [jbd (λe=>k e.symm)]; exact ha));have am:(t.enc y)[j]?=some (.sl (xs.map u.enc)):=by rw [ah,jbs (by rw [kae t y0 hd]; exact hj)]
      have fin:∀ (s1:TS sem) (H:Yb Nat),s1.n=s.n->Rel P κ ln z c s1 env h n->(match H with | none=>aj=nilS/\xs=[] | some q=>aj = .ms q 0 xs.length/\∃ es,h q=some (.cells u.wd U es)/\SnapE z es (xs.map u.enc)/\∀ x∈es,x.length=u.wd/\∀ a∈x,a.one=true)->
        (∀ q,H=some q->q<n/\z q=none/\∀ M X,thp c s1 M=some X->¬ Ow κ ln M X q)->Kf (.fw s.n) { s1 with hp:=(s.n,some (.fm e t j U u (lstD (A:=sem) t [y]) none))::s1.hp,n:=s.n+1 }=some r->Res P κ ln z c s env h n ⟨d,.buildSlice T 1 p,ty,pos,after,g⟩ Kf r:=λs1 H ac R1 B az f=>by
       have Y:aj.one=true:=by
        cases H with
        | none=>rw [B.1]; rfl
        | some q=>rw [B.1]; rfl
       have af:∀ a∈asZ,a.one=true:=λa ha=>by
        obtain ⟨q,k,rfl⟩:=jce.1 ha;by_cases e:q=j
        ·subst e;rw [jad k] at I;cases I; exact Y
        ·exact aa q _ e (jad k)
       have hFam:FamE z h j U u.wd (t.enc y) asZ (H,xs.length):=by
        refine ⟨by rw [E,kae t y hd],λq a a' k ha an=>?_,xs.map u.enc,am,by simp,?_⟩
        ·rw [ah,jbd (λe=>k e.symm)] at an;exact e3.at q a a' (by rw [jbd (λe=>k e.symm)]; exact ha) an
        ·cases H with
         | none=>exact ⟨by rw [I,B.1],by rw [B.2]; rfl⟩
         | some q=>exact ⟨by rw [I,B.1],B.2⟩
       have R2:=R1.famNew (T:=e) (U:=U) (t:=t) (u:=u) (j:=j) (l:=[y]) (es:=[asZ]) (rows:=[(H,xs.length)]) hd rfl rfl (λi x' e' rm hx m hr=>by
         cases i with
         | zero=>simp at hx m hr; subst hx; subst m; subst hr; exact hFam
         | succ i=>simp at hx) (λe' m=>by simp at m; subst m; exact ⟨E,af⟩) (by
         cases H with
         | none=>exact ⟨by simp,λr hr=>by simp at hr⟩
         | some q=>exact ⟨by simp,λr hr=>by simp at hr; subst hr; exact az _ rfl⟩)
       rw [ac] at R2;refine ⟨.fw s.n,_,.ms n 0 1,_,_,_,_,_,λK hK=>?_,f,R2,?_,jbk _,kdJ,λhc=>by cases hc⟩
       ·simp only [aop,he,hz,hp,fillE,ao,ap,E];simp only [List.length_replicate,List.replicate_succ,List.replicate_zero,Nat.lt_add_one,and_self,if_true,List.set_cons_zero,Nat.zero_lt_one,Nat.reduceLT];exact ⟨by omega,hw,.inl hK⟩
       ·have:=TVR.fw (P:=P) (κ:=updK κ s.n (some n)) (ln:=updK ln s.n (codeR [(H,xs.length)])) (z:=z) (N:=s.n+1) s.n n (jbe _) updK_self;rw [updK_self,kaX] at this;exact this
      unfold kgc at b;split at b
      ·rename_i L;split at b
       ·rename_i U' u' l' hBr;split at b
        ·rename_i hU;simp only [jab] at b;obtain ⟨aC,ax,m⟩:=b;cases m;obtain ⟨et,rfl⟩:=kah ax;cases et;subst hU;have R0:=R.del (h':=h) hBr (λ_ _ h=>h) (λ_ _ _ h=>h);have ai:∀ M X,thp c { s with hp:=(L,none)::s.hp } M=some X->M≠L/\thp c s M=some X:=λM X C=>by
          rw [kaK] at C;split at C
          ·cases C
          ·rename_i e; exact ⟨e,C⟩
         dsimp only at f;cases R.blk _ _ (kab hBr) with
         | sl0 _ _ _ aq v aA ad=>
          subst aA;refine fin { s with hp:=(L,none)::s.hp } none rfl R0 ⟨?_,rfl⟩ (λq e=>by cases e) f;cases F with
          | mw0=>rfl
          | mw _ q _ k=>rw [v] at k; cases k
         | sl _ _ _ qr es' aq v aw S aB ad=>
          refine fin { s with hp:=(L,none)::s.hp } (some qr) rfl R0 ⟨?_,es',aw,S,λe he=>⟨S.heads ak e he,aB e he⟩⟩ (λrr e=>?_) f
          ·rw [ad];cases F with
           | mw0 _ _ k=>rw [v] at k; cases k
           | mw _ q _ k=>rw [v] at k; cases k; rfl
          ·cases e;refine ⟨R.bnd _ _ _ (kab hBr) v,R.zout _ _ _ (kab hBr) v,λM X C au=>?_⟩;obtain ⟨w1,w2⟩:=ai M X C;exact w1 (R.owI w2 (kab hBr) au (.inl v))
        ·cases b
       ·cases b
      ·rename_i w;split at b
       ·rename_i hn;cases b;dsimp only at f;refine fin s none rfl R ⟨?_,rfl⟩ (λq e=>by cases e) f;cases F;exact congrArg AV.sc (kaE hn)
       ·cases b
      ·cases b
     ·exact kaa f
    ·exact kaa f
   ·exact kaa f
  ·exact kaa f
 ·exact kaa f
theorem khG (R:Rel P κ ln z c s env h n) {T T2:Yc} {x y:Yf} {da:Yb Nat} {b:Nat} (hu:match da with | none=>ev env x=nilS | some a=>TVR P κ ln z s.n (.fw a) (ev env x)) (hv:TVR P κ ln z s.n (.fw b) (ev env y)) (k:kjK P s T T2 da b Kf=some r) :
  Res P κ ln z c s env h n ⟨d,.call ⟨.builtin .append,#[x,y],#[T,T2]⟩,ty,pos,after,g⟩ Kf r:=by
 unfold kjK at k;split at k
 ·rename_i e Tb t j U u lb he hBb;replace hBb:=kbo hBb;split at k
  ·rename_i zs hz;split at k
   ·rename_i X;obtain ⟨hp,S,al,hb,rfl⟩:=X;have E:zs≠[]:=by rintro rfl; simp at S; omega
    have hBb':=kab (c:=c) hBb;obtain ⟨hd,I,b1,b2,b3,b4,b5⟩:=R.famAll hBb';have H:=R.fam b _ hBb' rfl;have Y:srcA h zs.length (ev env y)=some I:=by
     rw [S];rcases b5 with ⟨b5,b6⟩ | ⟨q,b5,b6⟩
     ·generalize ev env y=av at hv;cases hv with
      | fw0=>rw [b6]; rfl
      | fw _ q _ f=>rw [b5] at f; cases f
     ·generalize ev env y=av at hv;cases hv with
      | fw0 _ _ f=>rw [b5] at f; cases f
      | fw _ q' _ f=>
       rw [b5] at f; cases f;simp only [srcA,b6];rw [if_pos ⟨trivial,by omega⟩,jcg,jbl (by omega)]
    have Rb:=R.del (h':=h) hBb (λ_ _ h=>h) (λ_ _ _ h=>h);have tb:∀ i C,thp c { s with hp:=(b,none)::s.hp } i=some C->i≠b/\thp c s i=some C:=λi C F=>by
     rw [kaK] at F;split at F
     ·cases F
     ·rename_i e; exact ⟨e,F⟩
    split at k
    ·
     simp only [jaa] at k;obtain ⟨l',hg,k⟩:=k;obtain ⟨aa,hg⟩:=kdW hg;rw [show ([]:Ya t.den)++lb=lb from rfl] at hg;rw [hg] at k;have A:I.length<=1048576:=by simp at aa; omega
     by_cases L:I=[]
     ·subst L;have M:lb=[]:=jbq (by rw [<-b1]; rfl);subst M;refine ⟨.fw s.n,_,nilS,h,n,_,_,_,λK hK=>?_,k,Rb.famNew0 hd,.fw0 s.n (jbe _) updK_self,jbk _,kdJ,λX=>by cases X⟩;simp only [aop,kag,hu,kba,he,hz,Y];exact ⟨hp,E,hb,A,λ_=>hK,λh=>absurd rfl h⟩
     ·have R2:=Rb.famNew (T:=Tb) (U:=U) (u:=u) (j:=j) (es:=I) (rows:=kad (ln b)) hd b1 b2 b3 b4 ⟨H.1,λr hr=>⟨(H.2 r hr).1,(H.2 r hr).2.1,λi C F ho=>by
       obtain ⟨w1,w2⟩:=tb i C F;exact w1 (R.owI w2 hBb' ho (.inr ⟨rfl,hr⟩))⟩⟩
      refine ⟨.fw s.n,_,.ms n 0 I.length,_,_,_,_,_,λK hK=>?_,k,R2,?_,jbk _,kdJ,λX=>by cases X⟩
      ·simp only [aop,kag,hu,kba,he,hz,Y];refine ⟨hp,E,hb,A,λh=>absurd h L,λ_=>?_⟩;rw [S]; exact hK
      ·have:=TVR.fw (P:=P) (κ:=updK κ s.n (some n)) (ln:=updK ln s.n (codeR (kad (ln b)))) (z:=z) (N:=s.n+1) s.n n (jbe _) updK_self;rw [updK_self,kaX,<-b2,<-b1] at this;exact this
    ·
     rename_i a;split at k
     ·rename_i Ta ta ja Ua ua la hBa;replace hBa:=kbo hBa;split at k
      ·rename_i ai;obtain ⟨rfl,rfl,rfl,rfl,ad⟩:=ai;split at k
       ·rename_i ak aj;obtain ⟨et,rfl⟩:=kah aj;cases et;simp only [jaa] at k;obtain ⟨l',hg,k⟩:=k;obtain ⟨aa,hg⟩:=kdW hg;subst hg;have hBa':=kab (c:=c) hBa;obtain ⟨_,ea,a1,a2,a3,a4,a5⟩:=R.famAll hBa';have Z:=R.fam a _ hBa' rfl;have hBa0:alk ((b,(none:Yb (TB sem)))::s.hp) a=some (some (.fm Ta t ja Ua ua la none)):=by simp only [alk]; rw [if_neg ad]; exact hBa
        have ac:∀ i C,thp c { s with hp:=(a,none)::(b,none)::s.hp } i=some C->i≠a/\i≠b/\thp c s i=some C:=λi C F=>by
         rw [kaK (s:={ s with hp:=(b,none)::s.hp })] at F;split at F
         ·cases F
         ·rename_i e;obtain ⟨w1,w2⟩:=tb i C F;exact ⟨e,w1,w2⟩
        have ab:(((kad (ln a))++(kad (ln b))).filterMap (·.1)).Nodup/\∀ r∈((kad (ln a))++(kad (ln b))).filterMap (·.1),r<n/\z r=none/\∀ i C,thp c { s with hp:=(a,none)::(b,none)::s.hp } i=some C->¬ Ow κ ln i C r:=by
         rw [List.filterMap_append];refine ⟨List.nodup_append.2 ⟨Z.1,H.1,λr1 af r2 ae e=>?_⟩,λr hr=>?_⟩
         ·subst e;exact ad (R.owI hBa' hBb' (.inr ⟨rfl,af⟩) (.inr ⟨rfl,ae⟩))
         ·rcases jba.1 hr with hr | hr
          ·refine ⟨(Z.2 r hr).1,(Z.2 r hr).2.1,λi C F ho=>?_⟩;obtain ⟨w1,w2,w3⟩:=ac i C F;exact w1 (R.owI w3 hBa' ho (.inr ⟨rfl,hr⟩))
          ·refine ⟨(H.2 r hr).1,(H.2 r hr).2.1,λi C F ho=>?_⟩;obtain ⟨w1,w2,w3⟩:=ac i C F;exact w2 (R.owI w3 hBb' ho (.inr ⟨rfl,hr⟩))
        have all:∀ h1:AH,(∀ q B,(∀ r,r∈kam (ln a)\/r∈kam (ln b)->q=r->h q=some B->h1 q=some B))->∀ (i:Nat) (x':t.den) (e':Ya AV) (rm:Yb Nat×Nat),(la++lb)[i]?=some x'->(ea++I)[i]?=some e'->((kad (ln a))++(kad (ln b)))[i]?=some rm->FamE z h1 ja Ua ua.wd (t.enc x') e' rm:=λh1 hh i x' e' rm hx p hr=>by
         rw [jbn] at hx p hr;split at hx
         ·rename_i ah;rw [if_pos (by omega)] at p hr;exact (a3 i x' e' rm hx p hr).mono (λ_ _ h=>h) λq B f hB=>by obtain ⟨r0,m⟩:=rm; simp only at f; subst f; exact hh q B q (.inl (kas hr)) rfl hB
         ·rename_i ah;rw [if_neg (by omega)] at p hr;rw [show i-ea.length=i-la.length by omega] at p;rw [show i-(kad (ln a)).length=i-la.length by omega] at hr;exact (b3 _ x' e' rm hx p hr).mono (λ_ _ h=>h) λq B f hB=>by obtain ⟨r0,m⟩:=rm; simp only at f; subst f; exact hh q B q (.inr (kas hr)) rfl hB
        have ones:∀ e'∈ea++I,e'.length=t.wd/\∀ v∈e',v.one=true:=λe' p=>(jba.1 p).elim (a4 e') (b4 e');have tv:∀ m,m=(kad (ln a)++kad (ln b)).length->TVR P (updK κ s.n (some n)) (updK ln s.n (codeR (kad (ln a)++kad (ln b)))) z (s.n+1) (.fw s.n) (.ms n 0 m):=λm hm=>by
         have:=TVR.fw (P:=P) (κ:=updK κ s.n (some n)) (ln:=updK ln s.n (codeR (kad (ln a)++kad (ln b)))) (z:=z) (N:=s.n+1) s.n n (jbe _) updK_self;rw [updK_self,kaX,<-hm] at this;exact this
        simp only at hu;rcases a5 with ⟨a5,a6⟩ | ⟨qa,a5,a6⟩
        ·
         subst a6;have M:la=[]:=jbq (by rw [<-a1]; rfl);subst M;have hx:ev env x=nilS:=by
          generalize ev env x=av at hu;cases hu with
          | fw0=>rfl
          | fw _ q _ f=>rw [a5] at f; cases f
         have Rab:=Rb.del (h':=h) hBa0 (λ_ _ h=>h) (λ_ _ _ h=>h);have A:I.length<=1048576:=by simp at aa; omega
         by_cases L:I=[]
         ·subst L;have M:lb=[]:=jbq (by rw [<-b1]; rfl);subst M;refine ⟨.fw s.n,_,nilS,h,n,_,_,_,λK hK=>?_,k,Rab.famNew0 hd,.fw0 s.n (jbe _) updK_self,jbk _,kdJ,λX=>by cases X⟩;simp only [aop,kag,hx,kba,he,hz,Y];exact ⟨hp,E,hb,A,λ_=>hK,λh=>absurd rfl h⟩
         ·have R2:=Rab.famNew (T:=Ta) (U:=Ua) (u:=ua) (j:=ja) (l:=[]++lb) (es:=[]++I) (rows:=kad (ln a)++kad (ln b)) hd (by simpa using b1) (by simp at a2 ⊢; omega) (all h (λq B r _ _ hB=>hB)) ones ab;refine ⟨.fw s.n,_,.ms n 0 I.length,_,_,_,_,_,λK hK=>?_,k,R2,tv _ (by simp at a2 ⊢; omega),jbk _,kdJ,λX=>by cases X⟩;simp only [aop,kag,hx,kba,he,hz,Y];refine ⟨hp,E,hb,A,λh=>absurd h L,λ_=>?_⟩;rw [S]; exact hK
        ·have hx:ev env x = .ms qa 0 (kad (ln a)).length:=by
          generalize ev env x=av at hu;cases hu with
          | fw0 _ _ f=>rw [a5] at f; cases f
          | fw _ q _ f=>rw [a5] at f; cases f; rfl
         have Rab:=Rb.del (h':=delH h qa) hBa0 (λq B f=>by unfold delH at f; split at f; cases f; exact f) (λq B f hB=>by unfold delH; rw [if_neg]; exact hB; rintro rfl; exact f a5);have R2:=Rab.famNew (T:=Ta) (U:=Ua) (u:=ua) (j:=ja) (l:=la++lb) (es:=ea++I) (rows:=kad (ln a)++kad (ln b)) hd (by simp; omega) (by simp; omega) (all (delH h qa) (λq B r hr f hB=>by
          unfold delH;rw [if_neg]
          ·exact hB
          ·rintro rfl;subst f;rcases hr with hr | hr
           ·exact (Z.2 _ hr).2.2.1 a _ hBa' a5
           ·exact (H.2 _ hr).2.2.1 a _ hBa' a5)) ones ab
         refine ⟨.fw s.n,_,.ms n 0 ((kad (ln a)).length+I.length),_,_,_,_,_,λK hK=>?_,k,R2,tv _ (by simp; omega),jbk _,kdJ,λX=>by cases X⟩;simp only [aop,kag,hx,kba,he,hz,Y,a6];refine ⟨hp,E,hb,S.symm,trivial,by omega,by have:=aa; omega,?_⟩;exact hK
       ·exact kaa k
      ·exact kaa k
     ·exact kaa k
   ·exact kaa k
  ·exact kaa k
 ·exact kaa k
theorem kmZ (R:Rel P κ ln z c s env h n) {T:Yc} {x:Yf} {v:TV sem} (f:TVR P κ ln z s.n v (ev env x)) (b:kmo P s T v Kf=some r):Res P κ ln z c s env h n ⟨d,.range T x,ty,pos,after,g⟩ Kf r:=by
 unfold kmo at b;split at b
 ·rename_i l;split at b
  ·rename_i hT;have hs:ev env x=str l:=by
    generalize ev env x=a at f;cases f with
    | c _ _ _ m hs=>exact hs.sc_inv
   have i:=R.new (h':=updH h n (.si ⟨l.toArray⟩ 0)) (n':=n+1) (.si (l,0)) (some n) 0 (λq B e=>by
    unfold updH; rw [if_neg]; ·exact e
    rintro rfl; rw [R.hn _ (jah _)] at e; cases e) (jbk _) (λq e=>by cases e; omega) (λq e=>by unfold updH; rw [if_neg (by omega)]; exact R.hn q (by omega))
    (.si (l,0) n updK_self (by simp) (by simp [updH]))
   exact ⟨.ptr s.n 0,_,.own n 0 0,_,_,_,_,_,λK hK=>by simp only [aop,khI,hs,str]; exact ⟨kdp hT,hK⟩,b,i,.ptr s.n 0 n (jbe _) updK_self,jbk _,kdJ,λk=>by cases k⟩
  ·exact kaa b
 ·exact kaa b
theorem kog (R:Rel P κ ln z c s env h n) {x:Yf} {v:TV sem} (p:TVR P κ ln z s.n v (ev env x)) (b:nextX s v Kf=some r):Res P κ ln z c s env h n ⟨d,.next x true,ty,pos,after,g⟩ Kf r:=by
 have key:∀ (id:Nat) (l:Ya UInt8) (i:Int),TVR P κ ln z s.n (.ptr id 0) (ev env x)->alk s.hp id=some (some (TB.si (A:=sem) (l,i)))->sem.ite (decide (i<lenI l)) (Kf (.tp [.kb true,.c (.i .i64) i,.c (.i .i32) (runeV (l,i))]) { s with hp:=(id,some (.si (runeN (l,i))))::s.hp }) (Kf (.tp [.kb false]) s)=some r->
   Res P κ ln z c s env h n ⟨d,.next x true,ty,pos,after,g⟩ Kf r:=by
  intro id l i p hB b;cases R.blk _ _ (kab hB) with
  | si _ q E H m=>
   replace H:0<=i:=H;replace m:h q=some (.si ⟨l.toArray⟩ i.toNat):=m;have I:ev env x = .own q 0 0:=by
    generalize ev env x=a at p;cases p with
    | ptr _ _ M _ f=>rw [E] at f; cases f; rfl
   have k:(⟨l.toArray⟩:ByteArray).size=l.length:=by simp [ByteArray.size]
   rcases kbt b with ⟨C,b⟩ | ⟨C,b⟩
   ·have u:i.toNat<(⟨l.toArray⟩:ByteArray).size:=by
     rw [k];have:i<lenI l:=of_decide_eq_true C;unfold lenI at this;omega
    have L:=R.setO (B:=.si (runeN (l,i))) (AB:=.si ⟨l.toArray⟩ (i.toNat+(Utf8.decode ⟨l.toArray⟩ i.toNat).2)) hB (.inl E) (.si (runeN (l,i)) q E (Int.natCast_nonneg _) (by unfold updH; rw [if_pos rfl]; rfl)) (λe=>by cases e);refine ⟨_,_,.tp [.sc (.bool true),.sc (.int .i64 i),.sc (.int .i32 (Utf8.decode ⟨l.toArray⟩ i.toNat).1)],_,_,_,_,_,λK hK=>?_,b,L,?_,jah _,.refl,λF=>by cases F⟩
    ·simp only [aop,nextK,I,m];rw [if_pos u];rw [show ((i.toNat:Nat):Int)=i by omega];exact hK
    ·exact .tp _ _ (.cons _ _ _ _ (.kb true) (.cons _ _ _ _ (.c (.i .i64) i _ rfl (.free _ (.sc _))) (.cons _ _ _ _ (.c (.i .i32) (runeV (l,i)) _ rfl (.free _ (.sc _))) .nil)))
   ·have t:¬ i.toNat<(⟨l.toArray⟩:ByteArray).size:=by
     rw [k];have:¬ i<lenI l:=of_decide_eq_false C;unfold lenI at this;omega
    refine ⟨_,_,.tp [.sc (.bool false)],h,n,_,_,_,λK hK=>?_,b,R,.tp _ _ (.cons _ _ _ _ (.kb false) .nil),jah _,.refl,λF=>by cases F⟩;simp only [aop,nextK,I,m];rw [if_neg t];exact hK
 unfold nextX at b;split at b
 ·rename_i id;split at b
  ·rename_i y hB;exact key id y.1 y.2 p hB b
  ·exact kaa b
 ·exact kaa b
theorem klF (R:Rel P κ ln z c s env h n) {dst:Yb Tmp} {ty:Yc} {pos:String} {after:Array Edge} {g:Yb (Nat×Bool)} {T:Yc} {len:Nat} {b:Array (Nat×Yf)} {Kf:TV sem->sem.Ans ρ} (f:bsX P c s T len b.toList Kf=some r) :
  ∃ y v,(∀ p n1 (K:K3),K v p n1->aop P env p n1 ⟨dst,.buildSlice T len b,ty,pos,after,g⟩ K)/\Kf y=some r/\TVR P κ ln z s.n y v:=by
 unfold bsX at f;split at f
 ·exact kaa f
 ·rename_i e C;split at f
  ·rename_i t zs B hz;split at f
   ·rename_i F;obtain ⟨u,k,m⟩:=F;have x:=kci B;split at f
    ·rename_i hl;split at f
     ·rename_i ys hp;obtain ⟨k0,xs,k1,k2,k3⟩:=kfy R x b.toList 0 len (by omega) hp;rw [kaL] at k3;have i:∀ l:Ya t.den,lstD (A:=sem) t l=l:=by
       intro l;induction l with
       | nil=>rfl
       | cons a l E=>simp only [lstD]; rw [E]
      rw [i] at f;refine ⟨_,.sl xs,λp n1 K hK=>?_,f,.c _ _ _ x (Snap.of_sl k3)⟩;simp only [aop,C,hz,m];rw [k2 (List.replicate len zs) (by simp)];simp only [jdd,jay];rw [m] at k;exact ⟨u,k,.inr (.inl hK)⟩
     ·exact kaa f
     ·exact kaa f
    ·exact kaa f
   ·exact kaa f
  ·exact kaa f
theorem kpx {Δ:Ya (FuncId×Ctr)} (R:Rel P κ ln z c s env h n) (o:Oper) {a:sem.Ans ρ} (m:famX P c Δ s o Kf=some a) (B:a=some r):Res P κ ln z c s env h n o Kf r:=by
 obtain ⟨d,L,ty,pos,after,g⟩:=o;unfold famX at m;simp only at m;split at m
 ·rename_i T x;have t:=R.ev x;split at m
  ·rename_i id i j A; rw [A] at t; cases m; exact klM R t B
  ·rename_i id i k j A; rw [A] at t; cases m; exact klN R t B
  ·cases m
 ·rename_i T p x;have hp:=R.ev p;split at m
  ·rename_i id i j A; rw [A] at hp; cases m; exact kkW R hp (R.ev x) B
  ·rename_i id i k j A; rw [A] at hp; cases m; exact kkw R hp (R.ev x) B
  ·cases m
 ·rename_i T x f;have t:=R.ev x;split at m
  ·rename_i id i j A; rw [A] at t; cases m; exact kmC R t B
  ·rename_i id i k j A; rw [A] at t; cases m; exact knC R t B
  ·cases m
 ·rename_i T x i;have t:=R.ev x;split at m
  ·rename_i id A; rw [A] at t; cases m; exact knZ R t (R.ev i) B
  ·rename_i id a A; rw [A] at t; cases m; exact kmw R t (R.ev i) B
  ·cases m
 ·rename_i T x y;split at m
  ·rename_i e A;split at m
   ·cases m; exact klS R A B
   ·cases m
  ·cases m
 ·rename_i l;obtain ⟨H,args,ts⟩:=l;simp only at m;split at m
  ·rename_i b;split at m
   ·rename_i x T t F;obtain rfl:=arr_of' t;obtain rfl:=arr_of' F;have t:=R.ev x;split at m
    ·rename_i id A; rw [A] at t; cases m; exact knU R t B
    ·rename_i id a A; rw [A] at t; cases m; exact knc R t B
    ·cases m
   ·rename_i x y T M t F;obtain rfl:=arr_of' t;obtain rfl:=arr_of' F;have t:=R.ev x;split at m
    ·rename_i id a A; rw [A] at t; cases m; exact kna R t (R.ev y) B
    ·rename_i a A; rw [A] at t;have E:=R.ev y;split at m
     ·rename_i b C; rw [C] at E; cases m; exact khG R (da:=some a) t E B
     ·cases m
    ·rename_i u A; rw [A] at t;have E:=R.ev y;split at m
     ·rename_i b C; rw [C] at E;split at m
      ·rename_i hn;cases m;refine khG R (da:=none) ?_ E B;generalize ev env x=a at t;cases t;exact congrArg AV.sc (kaE hn)
      ·cases m
     ·cases m
    ·cases m
   ·cases m
  ·cases m
 ·split at m
  ·cases m; exact kmB R B
  ·split at m
   ·cases m; exact knk R B
   ·cases m
 ·split at m
  ·cases m; exact knL R B
  ·cases m
 ·split at m
  ·cases m; exact kkB R B
  ·split at m
   ·cases m;obtain ⟨I,v,k1,k2,k3⟩:=klF (dst:=d) (ty:=ty) (pos:=pos) (after:=after) (g:=g) R B;exact R.q (λK hK=>k1 _ _ K hK) k3 k2
   ·cases m
 ·rename_i x;split at m
  ·rename_i u A;split at m
   ·rename_i hn;rw [jac] at hn;cases m;refine knl R ?_ B;have t:=R.ev x;rw [A] at t;generalize ev env x=a at t;cases t;exact congrArg AV.sc (kaE hn.1)
   ·cases m
  ·cases m
 ·cases m
end
section
variable {P:Ye} {κ κ':Nat->Yb Nat} {ln ln':Nat->Nat} {z z':AH} {c:Cx sem} {s:TS sem} {env:Env} {h h':AH} {n n' N N':Nat}
variable {ρ:Ty} {Kf:TV sem->TS sem->sem.Ans ρ} {r:ρ.den}
theorem kcU {α:Type} {a:Array α} {l:Ya α} (h:a.toList=l):a=l.toArray:=by rw [<-h]
theorem kfO {Δ:Ya (FuncId×Ctr)} {args:Ya (TV sem)} {M:CtrM}:∀ {l:Ya CtrM},pickM c Δ s args l=some M->M∈l
 | [],h=>by cases h
 | C::l,h=>by
  unfold pickM at h;split at h
  ·cases h; exact jdk ..
  ·exact jbc _ (kfO h)
theorem kkj {Δ:Ya (FuncId×Ctr)}:∀ {ts:Ya Ty} {vs:Ya (TV sem)} {l:Ya ((t:Ty)×t.den)} {ids:Ya Nat},kbJ (A:=sem) c Δ s ts vs=some (l,ids)->l.length=ts.length
 | [],[],l,ids,hs=>by cases hs; rfl
 | [],_::_,l,ids,hs=>by simp [kbJ] at hs
 | _::_,[],l,ids,hs=>by simp [kbJ] at hs
 | t::ts,v::vs,l,ids,hs=>by
  simp only [kbJ,jaa,jab] at hs;obtain ⟨⟨x,b⟩,e,⟨l',i2⟩,hl,a⟩:=hs;cases a;simp [kkj hl]
theorem ksb {s s':TS sem} {A:Ya (Nat×Yb (TB sem))} (h:s'.hp=A++s.hp):chgd s s'=A.map (·.1):=by
 unfold chgd;rw [h,jap,Nat.add_sub_cancel,List.take_left]
theorem kpG {C:CtrM} {u:TS sem} {ids:Ya (Nat×Nat)} {x:Nat×Nat} (a:x∈ids):x.2∈chgd s (kcQ C s u ids):=by
 rw [ksb (s':=kcQ C s u ids) rfl,jdb];exact List.mem_append_right _ (jaz.2 ⟨(x.2,none),jaz.2 ⟨x,a,rfl⟩,rfl⟩)
theorem kfz {Δ:Ya (FuncId×Ctr)} (hΔ:Goods P Δ) {g:FuncId} {C:CtrM} (E:C.ok=true) (hG:GoodM P g C) (R:Rel P κ ln z c s env h n) {args:Ya (TV sem)} {asZ:Ya AV} (i:TVRs P κ ln z s.n args asZ) (b:kfx c Δ s C args Kf=some r) {K:K3}
  (hK:∀ F s' v h' n' κ' ln',Kf F s'=some r->Ke c s.n κ ln κ' ln'->s.n<=s'.n->Rel P κ' ln' ahN c s' env h' n'->TVR P κ' ln' ahN s'.n F v->(∀ q,q<n->h' q=h q\/∃ id∈chgd s s',(∃ B,thp c s id=some B)/\q∈ows κ ln c s id)->K v h' n'):HC P g asZ h n K:=by
 unfold kfx at b;split at b
 ·exact kaa b
 ·rename_i f;simp only [jau,jak,jbj,not_or,jcl,Bool.not_eq_false,ne_eq,Decidable.not_not] at f;obtain ⟨⟨k,p⟩,_⟩:=f;split at b
  ·rename_i l hl;split at b
   ·rename_i m Y;split at b
    ·rename_i e;rw [jac,jac] at e;split at b
     ·rename_i a Z;obtain ⟨y,T,b⟩:=jaa.1 b;dsimp only at b;split at b
      ·rename_i A;rw [jac] at A;have t:=R.dy p;obtain ⟨bs,S,I,g3⟩:=kcF hΔ R _ _ _ (kkq C.ks i) hl;subst t;refine kpw hG E R p i k (kkj hl) S I g3 Y (by simpa [jcr] using e.1.1) e.1.2 e.2 Z T A.1 A.2 λv h' n' κ' ln' H M h2 U=>hK _ _ v h' n' κ' ln' b H (Nat.le_add_right _ _) M h2 λq L=>(U q L).imp id λ⟨x,X,u⟩=>⟨x.2,kpG X,u⟩
      ·exact kaa b
     ·exact kaa b
    ·exact kaa b
   ·exact kaa b
  ·exact kaa b
theorem kcI {Δ:Ya (FuncId×Ctr)} (S:Goods P Δ) (R:Rel P κ ln z c s env h n) (o:Oper) (e:xop P c Δ s o Kf=some r):Res P κ ln z c s env h n o Kf r:=by
 unfold xop at e;split at e
 ·rename_i a B;exact kpx R o B e
 rename_i E;clear E;obtain ⟨d,Y,ty,pos,after,g⟩:=o;simp only at e;split at e
 ·rename_i x; exact kiC (o:=⟨d,.move x,ty,pos,after,g⟩) rfl R (R.ev x) (λK e=>by simp only [aop]; exact e) e
 ·rename_i x; exact kiC (o:=⟨d,.assign x,ty,pos,after,g⟩) rfl R (R.ev x) (λK e=>by simp only [aop]; exact e) e
 ·rename_i x a b;have p:=R.ev x;split at e
  ·rename_i t C;rw [C] at p;generalize k:ev env x=av at p;cases p;cases t
   ·exact R.q (λK e=>by simp only [aop,k]; exact e) (R.ev b) e
   ·exact R.q (λK e=>by simp only [aop,k]; exact e) (R.ev a) e
  ·rename_i y C;rw [C] at p;have k:=p.b_inv;rcases kbt e with ⟨A,e⟩ | ⟨A,e⟩
   ·rw [A] at k; exact R.q (λK e=>by simp only [aop,k]; exact e) (R.ev a) e
   ·rw [A] at k; exact R.q (λK e=>by simp only [aop,k]; exact e) (R.ev b) e
  ·exact kaa e
 ·exact kmr R e
 ·exact kpD R (R.ev _) e
 ·exact kon R (R.ev _) e
 ·exact kmJ R (R.ev _) (R.ev _) e
 ·exact kpF R (R.ev _) e
 ·exact kpn R (R.ev _) (R.ev _) e
 ·exact kqq R (R.ev _) e
 ·exact kod R (R.ev _) e
 ·rename_i f first u
  split at e
  ·rename_i I;have B:first = #[]:=by simpa [Array.isEmpty_iff] using I
   refine R.q (λK e=>by simp only [aop]; exact ⟨B,e⟩) (.fn f _ (u.toList.map (ev env)) ?_) e;generalize u.toList=l;induction l with
   | nil=>exact .nil
   | cons x l U=>exact .cons _ _ _ _ (R.ev x) U
  ·exact kaa e
 ·exact kji R e
 ·exact knx R (R.ev _) e
 ·exact kiU R (R.ev _) e
 ·exact knm R (R.ev _) e
 ·exact kkV R (R.ev _) (R.ev _) e
 ·exact kpu R (R.ev _) (R.ev _) e
 ·rename_i x i;have p:=R.ev x;split at e
  ·rename_i vs C;rw [C] at p;generalize k:ev env x=av at p;cases p with
   | tp _ asZ H=>
    split at e
    ·rename_i v L;obtain ⟨a,M,F⟩:=H.at L;exact R.q (λK e=>s_ext k M e) F e
    ·exact kaa e
  ·exact kaa e
 ·exact kme R e
 ·exact kiq R e
 ·exact kkz R e
 ·exact klT R (R.ev _) (R.ev _) e
 ·exact klW R (R.ev _) (R.ev _) (R.ev _) e
 ·exact klY R (R.ev _) (R.ev _) e
 ·exact knX R (R.ev _) (R.ev _) (R.ev _) e
 ·exact kmZ R (R.ev _) e
 ·exact kog R (R.ev _) e
 ·exact absurd (show (none:Yb ρ.den)=some r from e) (by simp)
 ·rename_i l;obtain ⟨callee,args,ts⟩:=l;split at e
  ·rename_i b A;simp only at A;subst A;split at e
   ·rename_i x T m h2;obtain rfl:=kcU m;obtain rfl:=kcU h2;exact kpH R (R.ev _) e
   ·rename_i x y T X m h2;obtain rfl:=kcU m;obtain rfl:=kcU h2;exact kpE R (R.ev _) (R.ev _) e
   ·rename_i x y T X m h2;obtain rfl:=kcU m;obtain rfl:=kcU h2;exact koC R (R.ev _) (R.ev _) e
   ·rename_i x y m;obtain rfl:=kcU m;exact klD (mx:=false) R (R.ev _) (R.ev _) e
   ·rename_i x y m;obtain rfl:=kcU m;exact klD (mx:=true) R (R.ev _) (R.ev _) e
   ·rename_i x y q m;obtain rfl:=kcU m;exact kjX (mx:=false) R (R.ev _) (R.ev _) (R.ev _) e
   ·rename_i x y q m;obtain rfl:=kcU m;exact kjX (mx:=true) R (R.ev _) (R.ev _) (R.ev _) e
   ·exact kaa e
  ·rename_i f B;exact kof S R B e
  ·exact kaa e
 ·exact kaa e
theorem kmh {p:Pat} {i:Nat} (R:Rel P κ ln z c s env h n) {v:TV sem} {a:AV} (f:TVR P κ ln z s.n v a) :
  ∃ κ' ln',Rel P κ' ln' z c (kgg (A:=sem) p i v s).2 env h n/\TVR P κ' ln' z (kgg (A:=sem) p i v s).2.n (kgg (A:=sem) p i v s).1 a/\(∀ id,id<s.n->κ' id = κ id/\ln' id=ln id)/\s.n<=(kgg (A:=sem) p i v s).2.n:=by
 have same:∃ κ' ln',Rel P κ' ln' z c s env h n/\TVR P κ' ln' z s.n v a/\(∀ id,id<s.n->κ' id = κ id/\ln' id=ln id)/\s.n<=s.n:=⟨κ,ln,R,f,λ_ _=>⟨rfl,rfl⟩,jah _⟩;unfold kgg;split
 ·rename_i u q b;split
  ·rename_i T t y;split
   ·rename_i k;simp only [jac] at k;obtain ⟨hn,m⟩:=k;obtain rfl:=kaE hn;cases f;have x:=R.new (h':=h) (n':=n) (.sl T t []) none 0 (λq B b=>b) (jah _) (λq b=>by cases b) R.hn (.sl0 T t [] m updK_self rfl updK_self);exact ⟨_,_,x,.mw0 s.n (jbe _) updK_self,λid e=>⟨kao e,kao e⟩,jbk _⟩
   ·exact same
  ·exact same
 ·exact same
theorem kgY {p:Pat}:∀ {vs:Ya (TV sem)} {asZ:Ya AV} {i:Nat} {κ:Nat->Yb Nat} {ln:Nat->Nat} {s:TS sem},Rel P κ ln z c s env h n->TVRs P κ ln z s.n vs asZ->
  ∃ κ' ln',Rel P κ' ln' z c (keY (A:=sem) p vs i s).2 env h n/\TVRs P κ' ln' z (keY (A:=sem) p vs i s).2.n (keY (A:=sem) p vs i s).1 asZ/\(∀ id,id<s.n->κ' id = κ id/\ln' id=ln id)/\s.n<=(keY (A:=sem) p vs i s).2.n
 | [],_,i,κ,ln,s,R,.nil=>⟨κ,ln,R,.nil,λ_ _=>⟨rfl,rfl⟩,jah _⟩
 | v::vs,_,i,κ,ln,s,R,.cons _ a _ asZ hv hs=>by
  obtain ⟨C,y,B,e,k1,n1⟩:=kmh (p:=p) (i:=i) R hv;have f:=hs.mono (λid b=>(k1 id b).1) (λid b=>(k1 id b).2) (λ_ _ h=>h) n1;obtain ⟨x,m,u,k,k2,t⟩:=kgY (p:=p) (i:=i+1) B f;exact ⟨x,m,u,.cons _ _ _ _ (e.mono (λid b=>(k2 id b).1) (λid b=>(k2 id b).2) (λ_ _ h=>h) t) k,λid b=>⟨((k2 id (by omega)).1).trans (k1 id b).1,((k2 id (by omega)).2).trans (k1 id b).2⟩,jct n1 t⟩
def nilB (a:Bool) (e:Yb Bool) (b:Bool):Prop:=
 match e with
 | some e=>e=false->b=a
 | none=>b = !a
theorem krD {P:Ye} {h:AH} {i:BinOp} {T:Yc} {a:AV} {e:Yb Bool} (hT:(elemO P T).isSome=true) (v:i = .eql\/i = .neq) (F:AV->Prop)
  (y:∀ (w:World) (O:Nat->Prop) (μ:Mu) (n:Nat) (u:Yd),HR w O μ h n->VR w O μ n a u->∃ p l c,u = .slice p l c/\nilB false e p.isNone)
  (hF:∀ b,nilB (i == .neq) e b->F (.sc (.bool b))) (A:∀ k x,a≠.sc (.int k x)) (hs:∀ x,a≠.sc (.string x)) (f:∀ x,a≠.sc (.bool x)):abin P h i T a (.sc (.slice none 0 0)) F:=by
 obtain ⟨E,hE⟩:=jan.1 hT;have hU:=kbl hE;have t:=krm (S:=nilB false e) hU y;have:∃ S,Cmp P h i T a (.sc (.slice none 0 0)) S/\∀ b,S b->F (.sc (.bool b)):=by
  rcases v with rfl | rfl
  ·exact ⟨_,t.1,λb f=>hF b f⟩
  ·refine ⟨_,t.2,λb f=>hF b ?_⟩;cases e <;> simp [nilB] at f ⊢
   ·exact f
   ·intro m; have:=f m; cases b <;> simp at this ⊢
 unfold abin;split
 ·rename_i m h2; cases h2
 ·rename_i m h2; cases h2
 ·rename_i m h2; cases h2
 ·exact this
theorem kgU (R:Rel P κ ln z c s env h n) {o:Oper} {ne:Bool} {e:Yb Bool} (hn:nilC (A:=sem) P c s o=some (ne,e)) {K:K3} (hK:∀ b,nilB ne e b->K (.sc (.bool b)) h n):aop P env h n o K:=by
 obtain ⟨d,op,ty,pos,after,g⟩:=o;unfold nilC at hn;split at hn
 ·rename_i L T x v T2 I;simp only at I; subst I;split at hn
  ·rename_i f;simp only [jac,jau,beq_iff_eq] at f;obtain ⟨⟨E,hT⟩,H⟩:=f;have E:=kaE E;subst E;have F:=R.ev x;have ms:∀ {q off len:Nat} {k:Nat} {X:Yc} {es:Ya (Ya AV)} {e:Yb Bool},(e≠none)->h q=some (.cells k X es)->∀ (w:World) (O:Nat->Prop) (μ:Mu) (n:Nat) (u:Yd),HR w O μ h n->VR w O μ n (.ms q off len) u->∃ p l c,u = .slice p l c/\nilB false e p.isNone:=by
    intro q off len k X es e M i w O μ n u hr y;obtain ⟨b,cc,m,h2,Y⟩:=hr.own_cells i;cases y with
    | ms _ _ _ _ aa ac E=>
     obtain ⟨o,cap,c,T,rfl,_⟩:=E b k m;refine ⟨_,_,_,rfl,?_⟩;cases e with
     | none=>exact absurd rfl M
     | some e=>intro _; rfl
   have Z:∀ {e:Yb Bool},(e=none\/e=some true)->∀ (w:World) (O:Nat->Prop) (μ:Mu) (n:Nat) (u:Yd),HR w O μ h n->VR w O μ n Abs.nilS u->∃ p l c,u = .slice p l c/\nilB false e p.isNone:=by
    intro e M w O μ n u hr y;refine ⟨none,0,0,y.sc_inv,?_⟩;rcases M with rfl | rfl
    ·rfl
    ·intro h; cases h
   have fin:∀ {a:AV} {e:Yb Bool},ev env x=a->(∀ b,nilB (L == .neq) e b->K (.sc (.bool b)) h n)->(∀ (w:World) (O:Nat->Prop) (μ:Mu) (n:Nat) (u:Yd),HR w O μ h n->VR w O μ n a u->∃ p l c,u = .slice p l c/\nilB false e p.isNone)->(∀ k x,a≠.sc (.int k x))->(∀ x,a≠.sc (.string x))->(∀ x,a≠.sc (.bool x))->
     aop P env h n ⟨d,.binOp L T x (.const (.slice none 0 0)) T2,ty,pos,after,g⟩ K:=by
    intro a e C hK E m h2 Y;simp only [aop,C];exact krD hT H _ E hK m h2 Y
   generalize ab:tev c s x=tv at hn F;split at hn
   ·rename_i t l;cases hn;cases F with
    | c _ _ a S hs=>
     replace hs:Snap z _ (.sl (l.map t.enc)):=hs;rcases hs.sl_inv with ⟨es,C,m⟩ | ⟨C,m⟩ | ⟨id,off,len,k,X,es,C,m,h2,Y⟩
     ·refine fin C hK (λw O μ n u hr y=>?_) (by intros; simp) (by intros; simp) (by intros; simp);obtain ⟨p,l',c',rfl,hp⟩:=ksz y;refine ⟨_,_,_,rfl,λhl=>hp ?_⟩;have:=m.1;rw [jax] at this;intro M; subst M;have:l=[]:=jbq (by simpa using this);subst this; simp [isE] at hl
     ·simp only [jdf] at m; subst m;exact fin C hK (Z (.inr rfl)) (by intros; simp [Abs.nilS]) (by intros; simp [Abs.nilS]) (by intros; simp [Abs.nilS])
     ·exact fin C hK (ms (by simp) (R.zin _ _ m)) (by intros; simp) (by intros; simp) (by intros; simp)
   ·rename_i id;split at hn
    ·rename_i X t l hb;cases hn;have hB:=R.blk _ _ hb;generalize B:ev env x=a at F;cases F with
     | mw0 _ hN U=>
      cases hB with
      | sl0 _ _ _ S i hl hn=>subst hl; exact fin B hK (Z (.inr rfl)) (by intros; simp [Abs.nilS]) (by intros; simp [Abs.nilS]) (by intros; simp [Abs.nilS])
      | sl _ _ _ q es S i=>rw [U] at i; cases i
     | mw _ q hN U=>
      cases hB with
      | sl0 _ _ _ S i hl hn=>rw [U] at i; cases i
      | sl _ _ _ q' es S i hh=>rw [U] at i; cases i; exact fin B hK (ms (by simp) hh) (by intros; simp) (by intros; simp) (by intros; simp)
    ·cases hn
   ·rename_i u;split at hn
    ·rename_i y;cases hn;have y:=kaE y;subst y;generalize B:ev env x=a at F;cases F with
     | sc _ m=>exact fin B hK (Z (.inl rfl)) (by intros; simp) (by intros; simp) (by intros; simp)
    ·cases hn
   ·cases hn
  ·cases hn
 ·cases hn
theorem klk:∀ {l:Ya (sem.Ans ρ)},altL (A:=sem) l=some r->∃ x∈l,x=some r
 | [],h=>by cases h
 | [x],h=>⟨x,by simp,h⟩
 | x::y::l,h=>by
  rcases kqr h with h | h
  ·exact ⟨x,by simp,h⟩
  ·obtain ⟨z,hz,e⟩:=klk h;exact ⟨z,by simp only [jbu] at hz ⊢; exact .inr hz,e⟩
theorem kpL {Δ:Ya (FuncId×Ctr)} (L:Goods P Δ) (R:Rel P κ ln z c s env h n) (o:Oper) (k:xopM P c Δ s o Kf=some r) {K:K3}
  (hK:∀ B s' v h' n' κ' ln' z',Kf B s'=some r->Ke c s.n κ ln κ' ln'->s.n<=s'.n->Rel P κ' ln' z' c s' env h' n'->TVR P κ' ln' z' s'.n B v->K v h' n'):aop P env h n o K:=by
 unfold xopM at k;split at k
 ·rename_i M args a;obtain ⟨d,op,ty,pos,after,g⟩:=o;unfold useM at a;simp only at a;split at a
  ·rename_i l;split at a
   ·rename_i f T;split at a
    ·rename_i gg E A;split at a
     ·rename_i C hC;obtain ⟨M',hM,y⟩:=jab.1 a;cases y;have m:TVRs P κ ln z s.n (l.args.toList.map (tev c s)) (l.args.toList.map (ev env)):=by
       generalize l.args.toList=xs;induction xs with
       | nil=>exact .nil
       | cons x xs Y=>exact .cons _ _ _ _ (R.ev x) Y
      have u:=R.ev f;rw [A] at u;obtain ⟨asZ,F,t⟩:=u.fn_inv;have one:∀ M∈C.mus,kfx c Δ s M (l.args.toList.map (tev c s)++E) Kf=some r->aop P env h n ⟨d,.call l,ty,pos,after,g⟩ K:=λM hM k=>by
       have hG:=(L.at hC).2.2.1 M hM;exact kdK T F rfl (kfz L hG.1 hG.2 R (m.append t) k λB s' v h' n' κ' ln' h1 h2 X h4 Z _=>hK B s' v h' n' κ' ln' ahN h1 h2 X h4 Z)
      split at k
      ·exact one M (kfO hM) k
      ·obtain ⟨x,hx,e⟩:=klk k;obtain ⟨M2,hM2,rfl⟩:=jaz.1 hx;unfold altsM at hM2;simp only [T,A,hC] at hM2;exact one M2 (jdj.1 hM2).1 e
     ·cases a
    ·cases a
   ·cases a
  ·cases a
 ·rename_i H;clear H;split at k
  ·rename_i M args s1 a;obtain ⟨d,op,ty,pos,after,g⟩:=o;unfold useN at a;simp only at a;split at a
   ·rename_i l;split at a
    ·rename_i f T;split at a
     ·rename_i gg E A;split at a
      ·rename_i C hC;obtain ⟨M0,hM0,y⟩:=List.exists_of_findSome?_eq_some a;obtain ⟨M',hM,y⟩:=jab.1 y;have I:M'=M0:=by simpa using kfO hM
       rw [I] at y;cases y;have hG:=(L.at hC).2.2.1 M hM0;have m:TVRs P κ ln z s.n (l.args.toList.map (tev c s)) (l.args.toList.map (ev env)):=by
        generalize l.args.toList=xs;induction xs with
        | nil=>exact .nil
        | cons x xs Y=>exact .cons _ _ _ _ (R.ev x) Y
       have u:=R.ev f;rw [A] at u;obtain ⟨asZ,F,t⟩:=u.fn_inv;obtain ⟨κ1,aa,R1,U,k1,n1⟩:=kgY (p:=M.inp) (i:=0) R (m.append t);have ab:Ke c s.n κ ln κ1 aa:=λid hi=>⟨(k1 id hi).1,λ_=>(k1 id hi).2⟩;exact kdK T F rfl (kfz L hG.1 hG.2 R1 U k λB s' v h' n' κ' ln' h1 h2 X h4 Z _=>hK B s' v h' n' κ' ln' ahN h1 (ab.trans h2 n1) (jct n1 X) h4 Z)
      ·cases a
     ·cases a
    ·cases a
   ·cases a
  ·split at k
   ·rename_i ne e hn;rcases kbt k with ⟨y,k⟩ | ⟨y,k⟩
    ·obtain ⟨k1,k2⟩:=klj k;refine kgU R hn λb S=>?_;cases b
     ·exact hK _ s _ h n κ ln z k2 .refl (jah _) R (.kb false)
     ·exact hK _ s _ h n κ ln z k1 .refl (jah _) R (.kb true)
    ·refine kgU R hn λb S=>?_;obtain rfl:=S (by simpa using y);exact hK _ s _ h n κ ln z k .refl (jah _) R (.kb _)
   ·rename_i ne hn;refine kgU R hn λb S=>?_;subst S;exact hK _ s _ h n κ ln z k .refl (jah _) R (.kb _)
   ·obtain ⟨B,s',v,h',n',κ',ln',z',g1,g2,g3,g4,g6,g7,_⟩:=kcI L R o k;exact g1 _ (hK B s' v h' n' κ' ln' z' g2 g7 g6 g3 g4)
theorem Rel.putT (R:Rel P κ ln z c s env h n) {v:TV sem} {a:AV} (m:TVR P κ ln z s.n v a) (d:Yb Tmp) (i:∀ x,d=some x->alk c.e0 x=none):Rel P κ ln z c (Abs.putT s d v) (putE env d a) h n:=by
 cases d with
 | none=>exact R
 | some d=>
  refine ⟨λx=>?_,R.blk,R.lt,R.inj,R.zin,R.zout,R.bnd,R.hn,λx k f=>?_,R.g,R.dy,R.zk,R.fam⟩
  ·show TVR P κ ln z s.n (tlk c { s with env:=(d,v)::s.env } x) (if x=d then a else lk env x);unfold tlk;simp only [alk];by_cases b:x=d
   ·rw [if_pos b,if_pos b]; exact m
   ·rw [if_neg b,if_neg b]; exact R.env x
  ·simp only [Abs.putT,alk] at f;split at f
   ·rename_i e; subst e; exact i _ rfl
   ·exact R.e0 x k f
theorem kmk {e:Ya (Yb Tmp)} (h:okD c e=true) {j:Nat} {x:Tmp} (a:kaU e j=some x):alk c.e0 x=none:=by
 unfold kaU at a;cases b:e[j]? with
 | none=>rw [b] at a; cases a
 | some d=>
  rw [b] at a;simp only [jaf,id] at a;subst a;have:=jam.1 h _ (jai b);simpa using this
theorem koN {a:Ya (Yb Tmp)} (h:okD c a=true) {d:Yb Tmp} (b:d∈a):∀ x,d=some x->alk c.e0 x=none:=λx e=>by
 subst e;have:=jam.1 h _ b;simpa using this
theorem Rel.again {a:Env} (R:Rel P κ ln z c s env h n) (b:∀ x,lk a x=lk env x):Rel P κ ln z c s a h n:=
 ⟨λx=>by rw [b]; exact R.env x,R.blk,R.lt,R.inj,R.zin,R.zout,R.bnd,R.hn,R.e0,R.g,R.dy,R.zk,R.fam⟩
theorem Rel.know (R:Rel P κ ln z c s env h n) {d:Tmp} {v:TV sem} {a:AV} (e:TVR P κ ln z s.n v a) (b:alk c.e0 d=none):Rel P κ ln z c { s with env:=(d,v)::s.env } ((d,a)::env) h n:=
 R.putT e (some d) λx f=>by cases f; exact b
theorem kbI {d:Yb Tmp} {v:TV sem}:(Abs.putT s d v).n=s.n:=by cases d <;> rfl
theorem kbx {Δ:Ya (FuncId×Ctr)} (C:Goods P Δ) {A:Ya (Yb Tmp)} (i:okD c A=true) {Kf:TS sem->sem.Ans ρ} {K:St->Prop} {F:Nat} {κ0:Nat->Yb Nat} {B:Nat->Nat} (hK:∀ κ ln z s' y h' n',Ke c F κ0 B κ ln->Rel P κ ln z c s' y h' n'->Kf s'=some r->K ⟨y,h',n'⟩) :
  ∀ (l:Ya Oper) {κ:Nat->Yb Nat} {ln:Nat->Nat} {z:AH} {s:TS sem} {env:Env} {h:AH} {n:Nat},Ke c F κ0 B κ ln->F<=s.n->(∀ o∈l,o.dst∈A)->Rel P κ ln z c s env h n->xops P c Δ A l s Kf=some r->aops P A l ⟨env,h,n⟩ K
 | [],κ,ln,z,s,env,h,n,ke,kn,_,R,f=>hK _ _ _ _ _ _ _ ke R f
 | o::l,κ,ln,z,s,env,h,n,ke,kn,hl,R,f=>by
  have p:∀ o∈l,o.dst∈A:=λo ho=>hl o (jbc _ ho);have u:=koN i (hl o (jdk ..));have one:∀ {κ:Nat->Yb Nat} {ln:Nat->Nat} {z:AH} {s:TS sem} {env:Env} {h:AH} {n:Nat},Ke c F κ0 B κ ln->F<=s.n->Rel P κ ln z c s env h n->(xopM P c Δ s o λv s'=>xops P c Δ A l (putT s' o.dst v) Kf)=some r->aop P env h n o λv h n=>aops P A l ⟨putE env o.dst v,h,n⟩ K:=λ{κ ln z s env h n} ke kn R f=>by
   exact kpL C R o f λX s' v h' n' κ' ln' z' Y T g7 g3 g4=>kbx C i hK l (ke.trans T kn) (by rw [kbI]; omega) p (g3.putT g4 o.dst u) Y
  simp only [xops] at f;simp only [aops];cases S:o.guard with
  | none=>
   rw [S] at f;exact one ke kn R f
  | some Z=>
   obtain ⟨j,E⟩:=Z;rw [S] at f;simp only at f ⊢;cases hs:kaU A j with
   | none=>rw [hs] at f; exact kaa f
   | some d=>
    rw [hs] at f;simp only at f ⊢;have H:=kmk i hs;have M:=R.env d;generalize U:tlk c s d=X at M f;generalize L:lk env d=a at M;cases M <;> first | exact kaa f | skip
    ·
     exact kbx C i hK l ke (by rw [kbI]; exact kn) p (R.putT .ud o.dst u) f
    ·
     rename_i t x hd I;cases t <;> first | exact kaa f | skip
     obtain rfl:=I.sc_inv;have k1:∀ w:Bool,x=w->Rel P κ ln z c { s with env:=(d,.kb w)::s.env } ((d,.sc (.bool w))::env) h n:=λw hw=>R.know (.kb w) H;dsimp only at f;cases E
     ·dsimp only at f;rcases kbt f with ⟨m,f⟩ | ⟨m,f⟩
      ·refine ⟨λe=>?_,λ_=>?_⟩
       ·exact absurd (m.symm.trans e) (by decide)
       ·exact kbx C i hK l ke (by rw [kbI]; exact kn) p ((k1 true m).putT .ud o.dst u) f
      ·refine ⟨λ_=>?_,λe=>?_⟩
       ·exact one ke (by exact kn) (k1 false m) f
       ·exact absurd (m.symm.trans e) (by decide)
     ·dsimp only at f;rcases kbt f with ⟨m,f⟩ | ⟨m,f⟩
      ·refine ⟨λ_=>?_,λe=>?_⟩
       ·exact one ke (by exact kn) (k1 true m) f
       ·exact absurd (m.symm.trans e) (by decide)
      ·refine ⟨λe=>?_,λ_=>?_⟩
       ·exact absurd (m.symm.trans e) (by decide)
       ·exact kbx C i hK l ke (by rw [kbI]; exact kn) p ((k1 false m).putT .ud o.dst u) f
    ·
     rename_i b;dsimp only at f;have ag:Rel P κ ln z c s ((d,.sc (.bool b))::env) h n:=R.again λx=>by
      show (if x=d then _ else lk env x)=_;split
      ·rename_i e; rw [e,L]
      ·rfl
     split at f
     ·rename_i k;have k:=eq_of_beq k;subst k;refine ⟨λ_=>one ke (by exact kn) ag f,λe=>?_⟩;cases b <;> cases e
     ·rename_i k;refine ⟨λe=>by rw [e] at k; simp at k,λe=>?_⟩;rw [<-e];exact kbx C i hK l ke (by rw [kbI]; exact kn) p (ag.putT .ud o.dst u) f
end
section
variable {P:Ye} {κ κ' κ0:Nat->Yb Nat} {ln ln':Nat->Nat} {z z':AH} {c:Cx sem} {s:TS sem} {env:Env} {h h' hs:AH} {n n':Nat}
variable {ρ:Ty} {r:ρ.den} {o:Oper} {wc:Ya Nat} {rd:Ya (Nat×Nat)} {b1 b2:Ya Nat} {tr:Ya Rec} {j:Nat} {next:St->Ya Rec->Prop}
theorem kgJ (a:cls o=1\/cls o=2):calm o=true:=by
 obtain ⟨dst,e,ty,pos,after,g⟩:=o;cases e <;> simp only [cls] at a <;> try (first | rfl | (exfalso; rcases a with h | h <;> cases h; done))
 case call l=>
  obtain ⟨callee,args,ts⟩:=l;cases callee with
  | builtin b=>cases b <;> first | rfl | (exfalso; rcases a with h | h <;> cases h)
  | value _=>exfalso; rcases a with h | h <;> cases h
  | invoke _ _=>exfalso; rcases a with h | h <;> cases h
theorem kfA {Δ:Ya (FuncId×Ctr)} (hΔ:Goods P Δ) (R:Rel P κ ln z c s env h n) {dst:Yb Tmp} {ty:Yc} {pos:String} {after:Array Edge} {g:Yb (Nat×Bool)} {l:Call} {f:Yf} (hc:l.callee = .value f) {Kf:TV sem->sem.Ans ρ} (b:kfu c Δ s (tev c s f) (l.args.toList.map (tev c s)) Kf=some r) :
  ∃ tv v,(∀ E n1 (K:K3),(∀ q B,h q=some B->E q=some B)->K v E n1->aop P env E n1 ⟨dst,.call l,ty,pos,after,g⟩ K)/\Kf tv=some r/\TVR P κ ln z s.n tv v:=by
 have L:=R.ev f;have p:TVRs P κ ln z s.n (l.args.toList.map (tev c s)) (l.args.toList.map (ev env)):=by
  generalize l.args.toList=asZ;induction asZ with
  | nil=>exact .nil
  | cons x asZ ih=>exact .cons _ _ _ _ (R.ev x) ih
 unfold kfu at b;split at b
 ·rename_i gg ae he;rw [he] at L;obtain ⟨asZ,H,A⟩:=L.fn_inv;split at b
  ·exact kaa b
  ·rename_i C hC;have hG:=hΔ.at hC;split at b
   ·exact kaa b
   ·rename_i la ids u;obtain ⟨S,g1,I,g3⟩:=kcF hΔ R _ _ _ (p.append A) u;split at b
    ·exact kaa b
    ·rename_i a ha;have hAR:=ket _ _ _ _ g1 ha;split at b
     ·rename_i k;simp only [jaa] at b;obtain ⟨y,hy,b⟩:=b;refine ⟨_,_,λE n1 K hh hK=>?_,b,khD C.rs y hG.1⟩;by_cases e:C.rs.all Ty.flat=true
      ·exact kdK hc H rfl (PC.lend1 (I.mono λq B Y=>hh q B (kbR R.zin q B Y)) (hG.2.1 a y hy _ hAR) (kmV _ _ e) hK)
      ·rw [jcl] at e;rw [e,jdl,jac,jcr,jbj] at k;obtain ⟨rfl,aa⟩:=k;rw [kaL] at I;have U:=R.dy aa;exact kdK hc H rfl (PC.eat (hE:=z) (h':=E) [] (λi B M=>by rw [U] at M; cases M) (λi B M=>⟨rfl,M⟩) I (hG.2.1 a y hy _ hAR) hK)
     ·exact kaa b
 ·rename_i m x y F he;rw [he] at L;split at b
  ·rename_i hx;split at b
   ·exact kaa b
   ·rename_i la ids u;obtain ⟨S,g1,I,g3,g4,g5⟩:=kcW R _ _ _ p u;split at b
    ·exact kaa b
    ·rename_i a ha;split at b
     ·rename_i e;simp only [jaa] at b;obtain ⟨w,hw,b⟩:=b;generalize ac:ev env f=fa at L;cases L with
      | cv _ _ _ _ _ ad=>
       obtain ⟨gg,asZ,rfl,t,X,Z,T,ab⟩:=ad;have hAR:=khV Z (ket _ _ _ _ g1 ha);have hp:=ab _ w hw;rw [kgH m (untup m x) x hx a X,<-hAR] at hp;refine ⟨_,_,λE n1 K hh hK=>?_,b,.free T⟩;exact kdK hc ac rfl (PC.lend1 ((I.append (SnapL.free t)).mono λq B Y=>hh q B (kbR R.zin q B Y)) hp (kdN _ _ e) hK)
     ·exact kaa b
  ·exact kaa b
 ·exact kaa b
theorem kst {v:TV sem} {a:AV} {i:Nat} {N:Nat} (f:TVR P κ ln z N v a) (e:tid v=some i):∀ q,avId a=some q->κ i=some q\/(isRow v=true/\q∈kam (ln i)):=by
 intro q b;cases f <;> simp only [tid,Option.some.injEq,reduceCtorEq] at e <;> subst e <;> simp only [avId,nilS,Option.some.injEq,reduceCtorEq] at b <;> subst b <;> first | (left; assumption) | (right; exact ⟨rfl,kas (by assumption)⟩)
end
section
variable {P:Ye} {κ0:Nat->Yb Nat} {c:Cx sem} {hs:AH}
variable {ρ:Ty} {r:ρ.den} {wc:Ya Nat} {rd:Ya (Nat×Nat)} {b1 b2:Ya Nat}
variable {N:Nat} {D:DX} {O:Nat->Prop} {Q:Exit->St->Prop}
end
theorem kkv {α:Type} {f:α->α->Bool}:∀ (x y:Ya α),x.length=y.length->(∀ a∈x,∀ b,f a b=true->a=b)->((x.zip y).all λp=>f p.1 p.2)=true->x=y
 | [],[],_,_,_=>rfl
 | [],_::_,h,_,_=>by simp at h
 | _::_,[],h,_,_=>by simp at h
 | a::x,b::y,h,hf,ha=>by
  simp only [List.zip_cons_cons,jdi,jac] at ha;rw [hf a (by simp) b ha.1,kkv x y (by simpa using h) (λa h=>hf a (jbc _ h)) ha.2]
theorem Ty.beq_eq:∀ (t:Ty) (x y:t.den),t.beq x y=true->x=y
 | .i _,x,y,h=>by simpa [Ty.beq] using h
 | .b,x,y,h=>by simpa [Ty.beq] using h
 | .s,x,y,h=>by simpa [Ty.beq] using h
 | .un,_,_,_=>rfl
 | .nt,_,_,h=>by simp [Ty.beq] at h
 | .pr u v,x,y,h=>by
  simp only [Ty.beq,jac] at h;exact Prod.ext (Ty.beq_eq u _ _ h.1) (Ty.beq_eq v _ _ h.2)
 | .w a,x,y,h=>Ty.beq_eq a x y h
 | .pt a,x,y,h=>Ty.beq_eq a x y h
 | .sl a,x,y,h=>by
  simp only [Ty.beq,jac,jak] at h;exact kkv (α:=a.den) x y h.1 (λp _ q=>Ty.beq_eq a p q) h.2
 | .op a,x,y,h=>by
  simp only [Ty.beq] at h;cases x with
  | none=>cases y with
   | none=>rfl
   | some y=>cases h
  | some x=>cases y with
   | none=>cases h
   | some y=>rw [Ty.beq_eq a x y h]
 | .ar n a,x,y,h=>by
  simp only [Ty.beq] at h;have:=kkv (α:=a.den) x.l y.l (by rw [x.h,y.h]) (λp _ q=>Ty.beq_eq a p q) h;cases x; cases y; simp only at this; subst this; rfl
 | .sm _ _,_,_,h=>by simp [Ty.beq] at h
 | .fn _ _ _,_,_,h=>by simp [Ty.beq] at h
theorem krn {t:Ty} {xs ys a:Ya t.den} {e:t.den} (h:gpre t (some xs) ys e=some a):xs[ys.length]?=some e/\a=ys++[e]:=by
 unfold gpre at h;simp only at h;split at h
 ·rename_i x b;split at h
  ·rename_i f;cases h;rw [Ty.beq_eq t x e f] at b;exact ⟨b,rfl⟩
  ·cases h
 ·cases h
section
variable {P:Ye} {κ:Nat->Yb Nat} {ln:Nat->Nat} {z:AH} {c:Cx sem} {s:TS sem} {env:Env} {h:AH} {n N:Nat} {ρ:Ty}
mutual
theorem kjL:∀ {v:TV sem} {a:AV},TVR P κ ln ahN N v a->v.solid=true->Free a
 | _,_,.c t x a hd hs,_=>hs.freeN
 | _,_,.kb b,_=>.sc _
 | _,_,.sc v h1,_=>.sc _
 | _,_,.fq t x o a hd hs,_=>hs.freeN
 | _,_,.cv n x y F a hc,_=>by
  obtain ⟨g,asZ,rfl,e,_⟩:=hc;exact (kfa g asZ).2 e
 | _,_,.fn g vs asZ hs,hp=>(kfa g asZ).2 (kef hs (by simpa [TV.solid] using hp))
 | _,_,.tp vs asZ hs,hp=>(koI asZ).2 (kef hs (by simpa [TV.solid] using hp))
 | _,_,.ag vs asZ hs h1,hp=>(kig asZ).2 (kef hs (by simpa [TV.solid] using hp))
 | _,_,.un _,hp | _,_,.ud,hp | _,_,.gs _ _,hp | _,_,.yl ..,hp | _,_,.kp ..,hp | _,_,.np0 ..,hp | _,_,.np ..,hp | _,_,.ptr ..,hp | _,_,.adr ..,hp | _,_,.aa ..,hp | _,_,.ax ..,hp | _,_,.mw0 ..,hp | _,_,.mw ..,hp | _,_,.ms0 ..,hp | _,_,.ms ..,hp | _,_,.mp ..,hp | _,_,.fw0 ..,hp | _,_,.fw ..,hp | _,_,.fr0 ..,hp | _,_,.fr ..,hp | _,_,.fo ..,hp | _,_,.fa ..,hp=>by simp [TV.solid] at hp
theorem kef:∀ {vs:Ya (TV sem)} {asZ:Ya AV},TVRs P κ ln ahN N vs asZ->TV.solidL vs=true->FreeL asZ
 | _,_,.nil,_=>FreeL.nil
 | _,_,.cons v a vs asZ hv hs,hp=>by
  simp only [TV.solidL,jac] at hp;exact FreeL.cons (kjL hv hp.1) (kef hs hp.2)
end
def stays (v:TV sem):Bool:=match v with | .ud=>true | .yl _=>true | v=>v.solid
theorem kkc {v:TV sem} (hp:v.pure=true) (hs:¬ stays v=true):v = .un:=by
 cases v with
 | un=>rfl
 | ud=>exact absurd rfl hs
 | yl id=>exact absurd rfl hs
 | _=>exact absurd hp hs
theorem kpk {v:TV sem} {a:AV} (b:TVR P κ ln ahN N v a) (hs:stays v=true):Free a:=by
 unfold stays at hs;split at hs
 ·cases b; exact .ud
 ·cases b; exact .sc _
 ·exact kjL b hs
theorem kej {α β:Type} (f:α->β):∀ (l:Ya (Nat×α)) (x:Nat),alk (l.map λp=>(p.1,f p.2)) x=(alk l x).map f
 | [],x=>rfl
 | (k,v)::l,x=>by
  simp only [jat,alk];split
  ·rfl
  ·exact kej f l x
theorem knR:∀ (env:Env) (x:Nat),(env.map (·.1)).contains x=false->lk env x = .un
 | [],x,_=>rfl
 | (k,v)::env,x,h=>by
  simp only [jat,List.contains_cons,jdn] at h;simp only [lk];rw [if_neg (by simpa using h.1)];exact knR env x h.2
theorem knM {G:IterG} {Δ:Ya (FuncId×Ctr)} (hI:∀ nm ts F,(alk Δ IM).bind (λC=>C.its.head?)=some ⟨nm,[.nt],ts,F⟩->∃ xs,F (0:Nat)=some xs/\G.xs=xs.map (avsL ts)) (W:CxWf c) (R:Rel P κ ln z c s env h n) (hκ:κ 0=some G.l)
  {y:Oper} (ac:∀ d,y.dst=some d->alk c.e0 d=none) {ds:Ya (Yb Tmp)} {l2:Ya Oper} {Qn:St->Prop} {Kf:TS sem->Yb Unit} {K:TS sem->sem.Ans ρ} {w:ρ.den} (H:kjF (A:=sem) c Δ s y Kf K=some w)
  (hT:∀ s2 I,Rel P κ ln ahN c s2 I ah0 n->s2.n=s.n->K s2=some w->aops P ds l2 ⟨I,ah0,n⟩ Qn)
  (hF:∀ s2 I w0,Rel P κ ln ahN c s2 I ah0 n->s2.n=s.n->Kf s2=some w0->aops P ds l2 ⟨I,ah0,n⟩ Qn):YieldK P G ds y l2 Qn ⟨env,h,n⟩:=by
 unfold kjF at H;split at H
 rotate_left
 ·exact kaa H
 rename_i cl nm ts F aw hIM;obtain ⟨xs,hF0,hGx⟩:=hI nm ts F hIM;split at H
 rotate_left
 ·exact kaa H
 rename_i f ay;split at H
 rotate_left
 ·exact kaa H
 rename_i id t ys hf ae;split at H
 rotate_left
 ·exact kaa H
 rename_i aB l ids ap hl;split at H
 ·exact kaa H
 rename_i S;simp only [jau,jbj,not_or,jcl,Bool.not_eq_false',bne_iff_ne,ne_eq,Decidable.not_not,beq_iff_eq,Bool.not_eq_false] at S;obtain ⟨⟨⟨⟨⟨⟨au,ax⟩,hg⟩,al⟩,aq⟩,ak⟩,aA⟩:=S;subst au;split at H
 rotate_left
 ·exact kaa H
 rename_i e he;obtain ⟨az,Y,H⟩:=jaa.1 H;obtain ⟨w0,ar,H⟩:=jaa.1 H;rw [hF0] at Y;obtain ⟨m,rfl⟩:=krn Y;obtain ⟨ee,rfl⟩:=kah ap;cases ee;have ao:z=ahN:=R.dy (by simpa using ax);subst ao;have am:y.guard=none:=by simpa using ak
 have aa:=R.ev f;rw [hf] at aa;have aj:ev env f = .sc (.func (.yield G.l) #[] #[]):=by
  generalize ev env f=a at aa;cases aa with
  | yl _ q hN hq=>rw [hκ] at hq; cases hq; rfl
 have htG:tlk c s GS = .gs (tup ts) ys:=by unfold tlk; rw [ae]
 have hGe:=R.env GS;rw [htG] at hGe;have hGe2:lk env GS = .gs (ys.map (tup ts).enc):=by
  generalize lk env GS=a at hGe;cases hGe; rfl
 have Z:TVRs P κ ln ahN s.n (cl.args.toList.map (tev c s)) (cl.args.toList.map (ev env)):=by
  generalize cl.args.toList=xs;induction xs with
  | nil=>exact .nil
  | cons x xs ih=>exact .cons _ _ _ _ (R.ev x) ih
 obtain ⟨af,g1,g2,_⟩:=kcW R _ _ _ Z hl;have has:af=avsL ts e:=khV aq (ket ts l af e g1 he);subst has;let g:Nat->AV:=λk=>if stays (tlk c s k)=true then lk env k else .un
 let E:Env:=(env.map (·.1)).map λk=>(k,g k)
 have hE:∀ x,lk E x=if stays (tlk c s x)=true then lk env x else .un:=λx=>by
  show lk ((env.map (·.1)).map λk=>(k,g k)) x=_;rw [kkh];split
  ·rfl
  ·rename_i hc;rw [knR env x (by simpa using hc)]; simp
 have rel:∀ (b:Bool) (X:TV sem) (ga:AV),TVR P κ ln ahN s.n X ga->Rel P κ ln ahN c (yTS s y.dst b X) (putE ((GS,ga)::E) y.dst (.sc (.bool b))) ah0 n:=λb X ga ad=>by
  have L:∀ id,thp c (yTS s y.dst b X) id=none:=λid=>by
   unfold thp;have:c.g=[]:=by simpa using hg
   rw [this]; rfl
  have M:∀ x,x≠GS->TVR P κ ln ahN s.n (match alk (yEnv s) x with | some v=>v | none=>(alk c.e0 x).getD .un) (lk E x):=λx m=>by
   have an:alk (yEnv s) x=(alk s.env x).map λv=>if v.pure then v else .un:=kej (λv:TV sem=>if v.pure then v else .un) s.env x;rw [an,hE];have hRx:=R.env x;unfold tlk at hRx ⊢;cases ai:alk s.env x with
   | some v=>
    rw [ai] at hRx;simp only [jcb];simp only at hRx;by_cases hp:v.pure=true
    ·rw [if_pos hp];by_cases p:stays v=true
     ·rw [if_pos p]; exact hRx
     ·have:=kkc hp p;subst this; exact .un _
    ·rw [if_neg hp]; exact .un _
   | none=>
    rw [ai] at hRx;simp only [Option.map_none];simp only at hRx;cases ab:alk c.e0 x with
    | none=>simp only [Option.getD_none]; exact .un _
    | some v=>
     rw [ab] at hRx;simp only [jby] at hRx ⊢;have hm:=jam.1 al _ (kaq ab);by_cases p:stays v=true
     ·rw [if_pos p]; exact hRx
     ·have:v = .un:=by
       simp only [jau,jac] at hm;rcases hm with hp | ⟨_,hp⟩
       ·exact kkc hp p
       ·cases v <;> first | (exact absurd rfl p) | (simp at hp)
      subst this; exact .un _
  refine ⟨λx=>?_,λid B hB=>(by rw [L] at hB; cases hB),λid B hB=>(by rw [L] at hB; cases hB),λi j B B' q hi=>(by rw [L] at hi; cases hi),λq B hq=>(by cases hq),λid B q hB=>(by rw [L] at hB; cases hB),λid B q hB=>(by rw [L] at hB; cases hB),λq hq=>rfl,λx v m=>?_,λid b hb=>(by cases hb),λ_=>rfl,λq k T es hq=>(by cases hq),λid B hB=>(by rw [L] at hB; cases hB)⟩
  ·show TVR P κ ln ahN s.n _ _;cases hd:y.dst with
   | none=>
    have h1:tlk c (yTS s none b X) x=if x=GS then X else (match alk (yEnv s) x with | some v=>v | none=>(alk c.e0 x).getD .un):=by
     unfold tlk yTS;simp only [jay,alk];by_cases m:x=GS
     ·rw [if_pos m,if_pos m]
     ·rw [if_neg m,if_neg m]; cases alk (yEnv s) x <;> rfl
    rw [h1];show TVR P κ ln ahN s.n _ (lk ((GS,ga)::E) x);simp only [lk];by_cases m:x=GS
    ·rw [if_pos m,if_pos m]; exact ad
    ·rw [if_neg m,if_neg m]; exact M x m
   | some d=>
    have h1:tlk c (yTS s (some d) b X) x=if x=d then .kb b else if x=GS then X else (match alk (yEnv s) x with | some v=>v | none=>(alk c.e0 x).getD .un):=by
     unfold tlk yTS;simp only [jdp,jay,alk];by_cases u:x=d
     ·rw [if_pos u,if_pos u]
     ·rw [if_neg u,if_neg u];by_cases m:x=GS
      ·rw [if_pos m,if_pos m]
      ·rw [if_neg m,if_neg m]; cases alk (yEnv s) x <;> rfl
    rw [h1];show TVR P κ ln ahN s.n _ (lk ((d,.sc (.bool b))::(GS,ga)::E) x);simp only [lk];by_cases u:x=d
    ·rw [if_pos u,if_pos u]; exact .kb b
    ·rw [if_neg u,if_neg u];by_cases m:x=GS
     ·rw [if_pos m,if_pos m]; exact ad
     ·rw [if_neg m,if_neg m]; exact M x m
  ·have ah:y.dst=some x\/x=GS\/∃ v,alk s.env x=some v:=by
    unfold yTS at m;simp only at m;cases hd:y.dst with
    | none=>
     rw [hd] at m;simp only [jay,alk] at m;split at m
     ·rename_i e; exact .inr (.inl e)
     ·rw [show alk (yEnv s) x=(alk s.env x).map λv=>if v.pure then v else .un from kej (λv:TV sem=>if v.pure then v else .un) s.env x] at m;obtain ⟨v',U,_⟩:=jab.1 m;exact .inr (.inr ⟨v',U⟩)
    | some d=>
     rw [hd] at m;simp only [jdp,jay,alk] at m;split at m
     ·rename_i e; exact .inl (by rw [e])
     ·split at m
      ·rename_i e; exact .inr (.inl e)
      ·rw [show alk (yEnv s) x=(alk s.env x).map λv=>if v.pure then v else .un from kej (λv:TV sem=>if v.pure then v else .un) s.env x] at m;obtain ⟨v',U,_⟩:=jab.1 m;exact .inr (.inr ⟨v',U⟩)
   rcases ah with hd | rfl | ⟨v',U⟩
   ·exact ac x hd
   ·exact R.e0 _ _ ae
   ·exact R.e0 x v' U
 refine ⟨.inl am,cl,f,_,avsL ts e,[avsL ts e],ys.map (tup ts).enc,hz (ows κ ln c s) h ahN ids,E,[(tup ts).enc e],aw,ay,.yield,hGe2,λj hj=>?_,kbR R.zin,(show SnapV _ (ev env f) _ by rw [aj]; exact Snap.V (.free _ (.sc _))),g2,λx m=>?_,rfl,?_,?_⟩
 ·obtain rfl:j=0:=by simpa using hj
  rw [hGx,jaw,jax,Nat.add_zero,m]; rfl
 ·rw [hE];by_cases p:stays (tlk c s x)=true
  ·rw [if_pos p]; exact .inr ⟨rfl,kpk (R.env x) p⟩
  ·rw [if_neg p]; exact .inl rfl
 ·exact hT _ _ (rel true _ _ (by rw [show ys.map (tup ts).enc++[(tup ts).enc e]=(ys++[e]).map (tup ts).enc by simp]; exact .gs _ _)) rfl H
 ·exact hF _ _ w0 (rel false _ _ .ud) rfl ar
end
section
variable {P:Ye} {κ κ':Nat->Yb Nat} {ln ln':Nat->Nat} {z z':AH} {c:Cx sem} {s:TS sem} {env:Env} {h h':AH} {n n':Nat}
variable {ρ:Ty} {r:ρ.den} {o:Oper} {W:Nat->Bool} {anc:Nat->Ya Nat} {late:Nat->Bool} {j:Nat} {next:St->Ya Pn->Prop}
def DomF (κ:Nat->Yb Nat) (N:Nat) (F:Ya Nat) (hp:AH):Prop:=∀ q B,hp q=some B->∃ id∈F,id<N/\κ id=some q
structure PnOk (κ:Nat->Option Nat) (N:Nat) (p:Pn) (t:Nat×Nat×List Nat):Prop where
 j:p.j=t.1
 k0:t.2.1=0->∀ h1,p.ok h1
 k1:t.2.1=1->∃ hp,(∀ h1,p.ok h1↔shp hp h1)/\DomF κ N t.2.2 hp
 k2:t.2.1=2->∃ hp:AH,(∀ h1:AH,p.ok h1↔∀ q B,hp q=some B->h1 q=some B)/\DomF κ N t.2.2 hp
def PdR (κ:Nat->Yb Nat) (N:Nat) (a:Ya Pn) (b:Ya (Nat×Nat×Ya Nat)):Prop:=∀ p∈a,∃ t∈b,PnOk κ N p t
theorem DomF.mono {N N':Nat} {F:Ya Nat} {hp:AH} (h:DomF κ N F hp) (f:∀ id,id<N->κ' id = κ id) (hN:N<=N'):DomF κ' N' F hp:=λq B a=>by
 obtain ⟨id,b,h2,e⟩:=h q B a;exact ⟨id,b,by omega,by rw [f id h2]; exact e⟩
theorem PdR.mono {N N':Nat} {a:Ya Pn} {b:Ya (Nat×Nat×Ya Nat)} (h:PdR κ N a b) (f:∀ id,id<N->κ' id = κ id) (hN:N<=N'):PdR κ' N' a b:=λp hp=>by
 obtain ⟨t,i,g⟩:=h p hp;exact ⟨t,i,g.j,g.k0,λe=>(g.k1 e).imp λhp g=>⟨g.1,g.2.mono f hN⟩,λe=>(g.k2 e).imp λhp g=>⟨g.1,g.2.mono f hN⟩⟩
theorem PdR.cons {N:Nat} {b:Ya Pn} {e:Ya (Nat×Nat×Ya Nat)} (h:PdR κ N b e) {p:Pn} {t:Nat×Nat×Ya Nat} (g:PnOk κ N p t):PdR κ N (p::b) (t::e):=λq a=>by
 rcases jbu.1 a with rfl | a
 ·exact ⟨t,by simp,g⟩
 ·obtain ⟨t,f,g⟩:=h q a;exact ⟨t,jbc _ f,g⟩
theorem koR (R:Rel P κ ln z c s env h n) {K:Ya Pn} {S:Ya (Nat×Nat×Ya Nat)} (hp:PdR κ s.n K S) {M:Ya Nat} {st:Bool} {T:Ya Nat} (Y:pdOk c s M st T S=true)
  (hf:∀ q,q<n->h' q=h q\/∃ id∈T,(∃ B,thp c s id=some B)/\q∈ows κ ln c s id) (A:st=true->shp h h'):∀ p∈K,p.j∈M\/(p.ok h->p.ok h'):=by
 intro p F;obtain ⟨t,X,g⟩:=hp p F;have i:=jam.1 Y t X;simp only [jau,beq_iff_eq,jac,jam,jbo,jbj] at i;rcases i with (i | i) | ⟨a,hF⟩
 ·exact .inl (by rw [g.j]; exact i)
 ·exact .inr λ_=>g.k0 i h'
 ·right;intro b;have same:∀ id q B,id∈t.2.2->T.contains id=false->κ id=some q->h q=some B->h' q=h q:=λid q B I hT hκ f=>by
   have v:q<n:=by
    rcases jcj q n with y | u
    ·exact y
    ·rw [R.hn q u] at f; cases f
   rcases hf q v with e | ⟨aa,Z,⟨m,h2⟩,h3⟩
   ·exact e
   ·obtain ⟨B1,hB1⟩:=jan.1 (hF id I).1;have e:=R.owI hB1 h2 (.inl hκ) (kbu h2 h3);subst e;rw [jbo.2 Z] at hT; cases hT
  rcases a with a | a
  ·obtain ⟨hp,E,C⟩:=g.k1 a;rw [E] at b ⊢;intro q B f;obtain ⟨m,H,L⟩:=b q B f;obtain ⟨id,k,U,x⟩:=C q B f;rcases (hF id k).2 with hT | hT
   ·exact ⟨m,by rw [same id q m k hT x H]; exact H,L⟩
   ·obtain ⟨B2,e3,e4⟩:=A hT.1 q m H;exact ⟨B2,e3,ABlk.shp_trans L e4⟩
  ·obtain ⟨hp,E,C⟩:=g.k2 a;rw [E] at b ⊢;intro q B f;obtain ⟨id,k,U,x⟩:=C q B f;rcases (hF id k).2 with hT | hT
   ·rw [same id q B k hT x (b q B f)]; exact b q B f
   ·rw [a] at hT; exact absurd hT.2 (by decide)
theorem knQ {Δ:Ya (FuncId×Ctr)} (U:Goods P Δ) {wc:Ya Nat} {Kf:TV sem->TS sem->Ya (Nat×Nat×Ya Nat)->sem.Ans ρ} {ps:Ya Pn} {pd:Ya (Nat×Nat×Ya Nat)}
  (R:Rel P κ ln z c s env h n) (K:PdR κ s.n ps pd) (hW:W j=isW wc j o) (m:kgm P c Δ W anc late j s o pd Kf=some r)
  (hn:∀ κ' ln' z' u s' v h' n' am an,Ke c s.n κ ln κ' ln'->s.n<=s'.n->Rel P κ' ln' z' c s' env h' n'->TVR P κ' ln' z' s'.n u v->Kf u s' an=some r->PdR κ' s'.n am an->next ⟨putE env o.dst v,h',n'⟩ am) :
  stepT P W anc o j env h n ps next:=by
 unfold kgm at m;unfold stepT;cases hw:W j with
 | true=>
  rw [hw] at m hW;rw [if_pos rfl];obtain ⟨d,op,ty,pos,after,g⟩:=o;simp only at m;split at m
  ·
   rename_i f args ts;split at m
   ·rename_i M asZ hu;unfold useM at hu;simp only at hu;split at hu
    ·rename_i gg ay aw;split at hu
     ·rename_i C hC;obtain ⟨M',hM,he⟩:=jab.1 hu;cases he;have hG:=(U.at hC).2.2.1 M (kfO hM);have ae:TVRs P κ ln z s.n (args.toList.map (tev c s)) (args.toList.map (ev env)):=by
       generalize args.toList=xs;induction xs with
       | nil=>exact .nil
       | cons x xs ih=>exact .cons _ _ _ _ (R.ev x) ih
      have ak:=R.ev f;rw [aw] at ak;obtain ⟨az,ao,af⟩:=ak.fn_inv;refine kdK (f:=f) rfl ao rfl (kfz U hG.1 hG.2 R (ae.append af) m λu s' v h' n' κ' ln' k h2 Z h4 h5 h6=>?_);split at k
      ·rename_i ai;exact ⟨koR R K ai h6 (λe=>by cases e),hn _ _ _ _ _ _ _ _ _ _ h2 Z h4 h5 k (K.mono (λid hi=>(h2 id hi).1) Z)⟩
      ·exact kaa k
     ·cases hu
    ·cases hu
   ·split at m
    ·exact kkr m
    ·obtain ⟨u,v,k1,k2,k3⟩:=kfA (dst:=d) (ty:=ty) (pos:=pos) (after:=after) (g:=g) (l:=⟨.value f,args,ts⟩) U R rfl m;exact k1 h n _ (λq B E=>E) ⟨λp _=>.inr id,hn _ _ _ _ _ _ _ _ _ _ .refl (jah _) R k3 k2 K⟩
  ·split at m
   ·exact kaa m
   ·rename_i ax;split at m
    ·rename_i T hT;split at m
     ·rename_i ai;obtain ⟨u,s',v,h',n',κ',ln',z',L,Y,g3,X,g6,g7,_⟩:=kcI U R _ m;have ha:=L (λa b c=>a=v/\b=h'/\c=n') ⟨rfl,rfl,rfl⟩;obtain ⟨f1,f2⟩:=kqN hW.symm ax ha;refine L _ ⟨koR R K ai (λq E=>?_) f2,hn _ _ _ _ _ _ _ _ _ _ g7 g6 g3 X Y (K.mono (λid hi=>(g7 id hi).1) g6)⟩;unfold tgtT at hT;split at hT
      ·rename_i ap;exact .inl (f1 q (by omega) λx hx=>by rw [ap] at hx; cases hx)
      ·rename_i x hx;by_cases ab:avId (ev env x)=some q
       ·split at hT
        ·rename_i i au;split at hT
         ·rename_i hc;cases hT;simp only [jac,jau,jbj] at hc;obtain ⟨B,hB⟩:=jan.1 hc.1;refine .inr ⟨i,by simp,⟨B,hB⟩,?_⟩;rcases kst (R.ev x) au q ab with k | ⟨k,h2⟩
          ·exact ows_k k
          ·rw [k,hB] at hc;exact ows_r hB (by simpa using hc.2) h2
         ·cases hT
        ·split at hT
         ·rename_i aj;have ah:=R.ev x;generalize tev c s x=u at ah aj;generalize ev env x=av at ah ab;cases ah <;> first | (simp only [isSc,jal] at aj; done) | cases ab
         ·cases hT
       ·exact .inl (f1 q (by omega) λx' al=>by rw [hx] at al; cases al; exact ab)
     ·exact kaa m
    ·exact kaa m
 | false=>
  rw [hw] at m hW;rw [if_neg (by decide)];have A:∀ {κ':Nat->Yb Nat} {ln':Nat->Nat} {z':AH} {s':TS sem} {u:TV sem} {v:AV} (ok:AH->Prop) (y:Nat) (F:Ya Nat),ok h->(∀ k n1 (I:K3),ok k->I v k n1->aop P env k n1 o I)->Ke c s.n κ ln κ' ln'->s.n<=s'.n->Rel P κ' ln' z' c s' env h n->TVR P κ' ln' z' s'.n u v->
    Kf u s' ((j,y,F)::pd)=some r->(y=0->∀ k,ok k)->(y=1->∃ hp,(∀ k,ok k↔shp hp k)/\DomF κ s.n F hp)->(y=2->∃ hp:AH,(∀ k:AH,ok k↔∀ q B,hp q=some B->k q=some B)/\DomF κ s.n F hp)->
    ∃ p:Pn,p.j=j/\p.o=o/\p.env=env/\p.ok h/\p.fact P/\next ⟨putE env o.dst p.v,h,n⟩ (p::ps):=λ{κ' ln' z' s' u v} ok y F k h2 Z h4 h5 h6 h7 h8 h9 aq=>
   ⟨⟨j,o,env,v,ok⟩,rfl,rfl,rfl,k,h2,hn _ _ _ _ _ _ _ _ _ _ Z h4 h5 h6 h7 ((K.mono (λid hi=>(Z id hi).1) h4).cons ⟨rfl,h8,λe=>(h9 e).imp λhp g=>⟨g.1,g.2.mono (λid hi=>(Z id hi).1) h4⟩,λe=>(aq e).imp λhp g=>⟨g.1,g.2.mono (λid hi=>(Z id hi).1) h4⟩⟩)⟩
  have ad:DomF κ s.n (footX c s o) (rsH κ h (footX c s o)):=λq B E=>by
   obtain ⟨⟨id,k,h2⟩,_⟩:=kgS E;have Z:=(jdj.1 (show id∈(_:Ya Nat).filter _ from k)).2;obtain ⟨B1,hB1⟩:=jan.1 Z;exact ⟨id,k,R.lt id B1 hB1,h2⟩
  obtain ⟨d,op,ty,pos,after,g⟩:=o;simp only at m;split at m
  ·obtain ⟨u,v,k1,k2,k3⟩:=klF (dst:=d) (ty:=ty) (pos:=pos) (after:=after) (g:=g) R m;exact A (λ_=>True) 0 [] trivial (λk n1 I _ hK=>k1 k n1 I hK) .refl (jah _) R k3 k2 (λ_ _=>trivial) (λe=>by cases e) (λe=>by cases e)
  ·rename_i f args ts;split at m
   ·split at m
    ·rename_i t;unfold seen at t;rw [jac,jac,jbj] at t;have R2:=R.rst t.1.1 t.1.2 t.2;obtain ⟨u,v,k1,k2,k3⟩:=kfA (dst:=d) (ty:=ty) (pos:=pos) (after:=after) (g:=g) (l:=⟨.value f,args,ts⟩) U R2 rfl m;exact A (λk=>∀ q B,rsH κ h (footX c s _) q=some B->k q=some B) 2 _ (λq B E=>(kgS E).2) (λk n1 I S hK=>k1 k n1 I S hK) .refl (jah _) R k3 k2 (λe=>by cases e) (λe=>by cases e) (λ_=>⟨_,λ_=>Iff.rfl,ad⟩)
    ·exact kaa m
   ·obtain ⟨u,v,k1,k2,k3⟩:=kfA (dst:=d) (ty:=ty) (pos:=pos) (after:=after) (g:=g) (l:=⟨.value f,args,ts⟩) U R rfl m;exact A (λk=>∀ q B,h q=some B->k q=some B) 3 [] (λq B E=>E) (λk n1 I S hK=>k1 k n1 I S hK) .refl (jah _) R k3 k2 (λe=>by cases e) (λe=>by cases e) (λe=>by cases e)
  ·split at m
   ·rename_i ar;obtain ⟨u,s',v,h',n',κ',ln',z',L,Y,g3,X,g6,g7,_⟩:=kcI U R _ m;obtain ⟨v2,⟨rfl,rfl,rfl⟩,k2⟩:=kqY ar (L (λa b c=>a=v/\b=h'/\c=n') ⟨rfl,rfl,rfl⟩);exact A (λ_=>True) 0 [] trivial (λk n1 I _ hK=>k2 k n1 I hK) g7 g6 g3 X Y (λ_ _=>trivial) (λe=>by cases e) (λe=>by cases e)
   ·split at m
    ·rename_i ac;split at m
     ·split at m
      ·rename_i t;unfold seen at t;rw [jac,jac,jbj] at t;have R2:=R.rst t.1.1 t.1.2 t.2;obtain ⟨u,s',v,h',n',κ',ln',z',L,Y,g3,X,g6,g7,g8⟩:=kcI U R2 _ m;obtain ⟨rfl,rfl,rfl,rfl,rfl,rfl⟩:=g8 (kgJ (.inl ac));exact A (λk=>shp (rsH κ' h (footX c s _)) k) 1 _ (λq B E=>⟨B,(kgS E).2,B.shp_refl⟩) (λk n1 I S hK=>klo ac S (λv' H=>by obtain ⟨rfl,_,_⟩:=H; exact hK) (L (λa b c=>a=v/\True/\True) ⟨rfl,trivial,trivial⟩)) .refl (jah _) R X Y (λe=>by cases e) (λ_=>⟨_,λ_=>Iff.rfl,ad⟩) (λe=>by cases e)
      ·exact kaa m
     ·obtain ⟨u,s',v,h',n',κ',ln',z',L,Y,g3,X,g6,g7,g8⟩:=kcI U R _ m;obtain ⟨rfl,rfl,rfl,rfl,rfl,rfl⟩:=g8 (kgJ (.inl ac));exact A (λk=>shp h' k) 3 [] (λq B E=>⟨B,E,B.shp_refl⟩) (λk n1 I S hK=>klo ac S (λv' H=>by obtain ⟨rfl,_,_⟩:=H; exact hK) (L (λa b c=>a=v/\True/\True) ⟨rfl,trivial,trivial⟩)) .refl (jah _) R X Y (λe=>by cases e) (λe=>by cases e) (λe=>by cases e)
    ·split at m
     ·rename_i aa;split at m
      ·split at m
       ·rename_i t;unfold seen at t;rw [jac,jac,jbj] at t;have R2:=R.rst t.1.1 t.1.2 t.2;obtain ⟨u,s',v,h',n',κ',ln',z',L,Y,g3,X,g6,g7,g8⟩:=kcI U R2 _ m;obtain ⟨rfl,rfl,rfl,rfl,rfl,rfl⟩:=g8 (kgJ (.inr aa));exact A (λk=>∀ q B,rsH κ' h (footX c s _) q=some B->k q=some B) 2 _ (λq B E=>(kgS E).2) (λk n1 I S hK=>knA aa S (λv' H=>by obtain ⟨rfl,_,_⟩:=H; exact hK) (L (λa b c=>a=v/\True/\True) ⟨rfl,trivial,trivial⟩)) .refl (jah _) R X Y (λe=>by cases e) (λe=>by cases e) (λ_=>⟨_,λ_=>Iff.rfl,ad⟩)
       ·exact kaa m
      ·obtain ⟨u,s',v,h',n',κ',ln',z',L,Y,g3,X,g6,g7,g8⟩:=kcI U R _ m;obtain ⟨rfl,rfl,rfl,rfl,rfl,rfl⟩:=g8 (kgJ (.inr aa));exact A (λk=>∀ q B,h' q=some B->k q=some B) 3 [] (λq B E=>E) (λk n1 I S hK=>knA aa S (λv' H=>by obtain ⟨rfl,_,_⟩:=H; exact hK) (L (λa b c=>a=v/\True/\True) ⟨rfl,trivial,trivial⟩)) .refl (jah _) R X Y (λe=>by cases e) (λe=>by cases e) (λe=>by cases e)
     ·exact kaa m
theorem kcw {Δ:Ya (FuncId×Ctr)} (H:Goods P Δ) {wc:Ya Nat} {B:Ya (Yb Tmp)} (k:okD c B=true) {Kf:TS sem->sem.Ans ρ} {K:St->Prop}
  {M:Nat} {Y:Nat->Yb Nat} {E:Nat->Nat} (hK:∀ κ ln z s' A h' n',Ke c M Y E κ ln->Rel P κ ln z c s' A h' n'->Kf s'=some r->K ⟨A,h',n'⟩) :
  ∀ (l:Ya Oper) (i:Nat) {κ:Nat->Yb Nat} {ln:Nat->Nat} {z:AH} {s:TS sem} {env:Env} {h:AH} {n:Nat} {F:Ya Pn} {C:Ya (Nat×Nat×Ya Nat)},Ke c M Y E κ ln->M<=s.n->(∀ o∈l,o.dst∈B)->(∀ q o,l[q]?=some o->W (i+q)=isW wc (i+q) o)->Rel P κ ln z c s env h n->PdR κ s.n F C->
   xopsT P c Δ W anc late B l i s C Kf=some r->treeD P B W anc l i ⟨env,h,n⟩ F K
 | [],i,κ,ln,z,s,env,h,n,F,C,ke,kn,_,_,R,hp,f=>hK _ _ _ _ _ _ _ ke R f
 | o::l,i,κ,ln,z,s,env,h,n,F,C,ke,kn,hl,hW,R,hp,f=>by
  have u:∀ o∈l,o.dst∈B:=λo ho=>hl o (jbc _ ho);have hW':∀ q o,l[q]?=some o->W (i+1+q)=isW wc (i+1+q) o:=λq o hq=>by have:=hW (q+1) o (by simpa using hq); rwa [show i+(q+1)=i+1+q by omega] at this
  have hW0:W i=isW wc i o:=hW 0 o rfl;have y:=koN k (hl o (jdk ..));have one:∀ {κ:Nat->Yb Nat} {ln:Nat->Nat} {z:AH} {s:TS sem} {env:Env},Ke c M Y E κ ln->M<=s.n->Rel P κ ln z c s env h n->PdR κ s.n F C->(kgm P c Δ W anc late i s o C λv s' C=>xopsT P c Δ W anc late B l (i+1) (putT s' o.dst v) C Kf)=some r->
    stepT P W anc o i env h n F λs t=>treeD P B W anc l (i+1) s t K:=λke kn R hp f=>by
   refine knQ H R hp hW0 f λκ' ln' z' tv s' v h' n' ad ac aa ae R' L S U=>?_;exact kcw H k hK l (i+1) (ke.trans aa kn) (by rw [kbI]; omega) u hW' (R'.putT L o.dst y) (by rw [kbI]; exact U) S
  simp only [xopsT] at f;simp only [treeD];cases hg:o.guard with
  | none=>
   rw [hg] at f;exact one ke kn R hp f
  | some jw=>
   obtain ⟨j,I⟩:=jw;rw [hg] at f;simp only at f ⊢;cases hs:kaU B j with
   | none=>rw [hs] at f; exact kaa f
   | some d=>
    rw [hs] at f;simp only at f ⊢;have T:=kmk k hs;have L:=R.env d;generalize ab:tlk c s d=tv at L f;generalize Z:lk env d=a at L;cases L <;> first | exact kaa f | skip
    ·
     exact kcw H k hK l (i+1) ke (by rw [kbI]; exact kn) u hW' (R.putT .ud o.dst y) (by rw [kbI]; exact hp) f
    ·
     rename_i t x hd X;cases t <;> first | exact kaa f | skip
     obtain rfl:=X.sc_inv;have k1:∀ w:Bool,x=w->Rel P κ ln z c { s with env:=(d,.kb w)::s.env } ((d,.sc (.bool w))::env) h n:=λw hw=>R.know (.kb w) T;dsimp only at f;cases I
     ·dsimp only at f;rcases kbt f with ⟨p,f⟩ | ⟨p,f⟩
      ·refine ⟨λe=>?_,λ_=>?_⟩
       ·exact absurd (p.symm.trans e) (by decide)
       ·exact kcw H k hK l (i+1) ke (by rw [kbI]; exact kn) u hW' ((k1 true p).putT .ud o.dst y) (by rw [kbI]; exact hp) f
      ·refine ⟨λ_=>?_,λe=>?_⟩
       ·exact one ke (by exact kn) (k1 false p) hp f
       ·exact absurd (p.symm.trans e) (by decide)
     ·dsimp only at f;rcases kbt f with ⟨p,f⟩ | ⟨p,f⟩
      ·refine ⟨λ_=>?_,λe=>?_⟩
       ·exact one ke (by exact kn) (k1 true p) hp f
       ·exact absurd (p.symm.trans e) (by decide)
      ·refine ⟨λe=>?_,λ_=>?_⟩
       ·exact absurd (p.symm.trans e) (by decide)
       ·exact kcw H k hK l (i+1) ke (by rw [kbI]; exact kn) u hW' ((k1 false p).putT .ud o.dst y) (by rw [kbI]; exact hp) f
    ·
     rename_i b;dsimp only at f;have ag:Rel P κ ln z c s ((d,.sc (.bool b))::env) h n:=R.again λx=>by
      show (if x=d then _ else lk env x)=_;split
      ·rename_i e; rw [e,Z]
      ·rfl
     split at f
     ·rename_i m;have m:=eq_of_beq m;subst m;refine ⟨λ_=>one ke (by exact kn) ag hp f,λe=>?_⟩;cases b <;> cases e
     ·rename_i m;refine ⟨λe=>by rw [e] at m; simp at m,λe=>?_⟩;rw [<-e];exact kcw H k hK l (i+1) ke (by rw [kbI]; exact kn) u hW' (ag.putT .ud o.dst y) (by rw [kbI]; exact hp) f
variable {N:Nat} {D:DX} {O:Nat->Prop} {Q:Exit->St->Prop}
theorem koA {l:Ya Oper} {wc:Ya Nat} (h:kmM l wc (ancOf l)=true) {w j:Nat} {o:Oper} (f:l[w]?=some o) (e:isW wc w o=true) (b:w<j) (i:j<l.length):Anc l w j:=by
 simp only [kmM,jam,Prod.forall,jau,jbj,decide_eq_false_iff_not] at h;have a:∀ {α:Type} {m:Ya α} {j:Nat} {x:α},m[j]?=some x->(x,j)∈m.zipIdx:=λh=>List.mem_zipIdx_iff_getElem?.2 (by simpa using h);rcases h o w (a f) with h | h
 ·rw [e] at h; cases h
 ·rcases h _ j (a (jad i)) with h | h
  ·exact absurd b h
  ·exact kdw (by simpa [jbo] using h)
theorem kjP {Δ:Ya (FuncId×Ctr)} (B:Goods P Δ) {l:Ya Oper} (R:Rel P κ ln z c s env h n) {Kf:TS sem->sem.Ans ρ} {Kt:St->Prop}
  (hK:∀ κ' ln' z' s' a h' n',Ke c s.n κ ln κ' ln'->Rel P κ' ln' z' c s' a h' n'->Kf s'=some r->Kt ⟨a,h',n'⟩) (b:drawT P c Δ N l s Kf=some r):∃ (W:Nat->Bool) (anc:Nat->Ya Nat),kcp l=true/\kbh N l=true/\(∀ i j,i∈anc j->Anc l i j)/\(∀ w j,w<j->j<l.length->W w=true->Anc l w j)/\
   treeD P (l.map (·.dst)) W anc l 0 ⟨env,h,n⟩ [] Kt:=by
 unfold drawT at b;simp only at b;split at b
 ·rename_i m;simp only [jac] at m;obtain ⟨⟨⟨v,h2⟩,x⟩,u⟩:=m;refine ⟨λj=>match l[j]? with | some o=>isW (wcGo Δ l 0 (ownT s) []) j o | none=>false,λj=>(ancOf l).getD j [],v,u,λi j y=>kdw y,λw j k A e=>?_,?_⟩
  ·dsimp only at e;split at e
   ·rename_i o f;exact koA h2 f e k A
   ·cases e
  ·exact kcw B x (wc:=wcGo Δ l 0 (ownT s) []) (K:=Kt) hK l 0 .refl (jah _) (λo f=>jaz.2 ⟨o,f,rfl⟩) (λq o t=>by simp only [jbw,t]) R (λp hp=>by cases hp) b
 ·exact kaa b
theorem koo {Δ:Ya (FuncId×Ctr)} (m:Goods P Δ) {l:Ya Oper} (R:Rel P κ ln z c s env h n) {Kf:TS sem->sem.Ans ρ}
  (hK:∀ κ' ln' z' s' a h' n',Ke c s.n κ ln κ' ln'->Rel P κ' ln' z' c s' a h' n'->Kf s'=some r->Q .normal ⟨a,h',n'⟩) (b:drawT P c Δ N l s Kf=some r):SatA P N D O l Q ⟨env,h,n⟩:=by
 obtain ⟨W,anc,f,h2,k,e,i⟩:=kjP (N:=N) (Kt:=λst=>Q .normal st) m R hK b;exact SatA.of_tree f h2 k e i
theorem kle {f:Ya (Nat×Nat)->sem.Ans ρ}:∀ {l:Ya (Ya (Nat×Nat))},bthL (A:=sem) f l=some r->∀ x∈l,f x=some r
 | [],h=>kaa h
 | [x],h=>by
  intro y b;simp only [List.mem_singleton] at b;subst b;exact h
 | x::y::l,h=>by
  obtain ⟨e,h2⟩:=klj (show bthO _ _ _=some r from h);intro q a;rcases jbu.1 a with rfl | a
  ·exact e
  ·exact kle h2 q a
theorem kou {Δ:Ya (FuncId×Ctr)} (m:Goods P Δ) {id:Nat} {cs:Ya Code} {l:Ya Oper} (R:Rel P κ ln z c s env h n) {Kf:TS sem->sem.Ans ρ}
  (hK:∀ κ' ln' z' s' a h' n',Ke c s.n κ ln κ' ln'->Rel P κ' ln' z' c s' a h' n'->Kf s'=some r->SatL P N D O cs Q ⟨a,h',n'⟩) (b:drawV P c Δ N l s Kf=some r):SatL P N D O (.region id l.toArray true::cs) Q ⟨env,h,n⟩:=by
 unfold drawV at b;split at b
 ·rename_i i;rw [jac] at i;refine Sat.drawV (Q:=thenQ (SatL P N D O cs Q) Q) (id:=id) i.1 i.2 (conf:=confX Δ (ownT { s with dy:=false }) l) (f:=3) λk e=>?_;have:=kle b k e;simp only at this;split at this
  ·rename_i hp;exact ⟨_,hp,koo (Q:=thenQ (SatL P N D O cs Q) Q) m R hK this⟩
  ·exact kaa this
 ·exact kaa b
end
section
variable {P:Ye} {N:Nat} {D:DX} {O:Nat->Prop} {Q:Exit->St->Prop} {st:St} {μ:Mu} {w:World} {n:Nat} {h:AH} {G:IterG}
theorem PreY.of_tree {l:Ya Oper} {W:Nat->Bool} {anc:Nat->Ya Nat} {K:St->Prop} (B:kcp l=true) (k:kbh N l=true) (f:∀ i j,i∈anc j->Anc l i j) (hW:∀ w j,w<j->j<l.length->W w=true->Anc l w j)
  (E:treeD P (l.map (·.dst)) W anc l 0 st [] K):PreY P N D l st K:=by
 intro A μ a w Q' hs M;obtain ⟨x,u⟩:=hs.hr.drew;have p:SR N D A μ ⟨st.env,st.h,st.n⟩ a w.drew:=hs.step u x;have L:Can P l st W 0 (λ_=>st.env) (λ_=>.ud) (λ_=>false) st.h [] (λ_=>False):=⟨λs=>rfl,λj o y=>by omega,λj o y=>by omega,λj o y=>by omega⟩;obtain ⟨R,I,X,S,t,e,g1,F,Z,g4,Y,C⟩:=Can.adv (anc:=anc) (K:=K) l.length 0 (n:=st.n) (env:=st.env) (by omega) L (λs=>rfl) (by simpa using E) (λi m=>m.elim);refine kpj (D:=D) (O:=A) (st0:=st) (K:=K) B k f hW (μ0:=μ) (w0:=w) (λv env h n T a' w' H hl b U=>M _ T a' w' H ⟨b.hr,b.size,b.defers,λs=>?_,b.gs,b.gi.evo b.hr.refl λ_=>.inl (hl GS).symm⟩)
  _ _ (λ_=>False) R I X S t e st.env st.h st.n μ a w.drew (by simp) (λi m=>by simp [jag,m]) (λi h=>h.elim) F (λj o _ h=>h.elim) ⟨λs _=>rfl,λs i oi h=>h.elim⟩ Z Y C p x ⟨List.range l.length,by simp,λi m _=>jdt.2 m⟩
 have:=b.env s;rw [hl s] at this; exact this
variable {l:Ya Oper} {cs:Ya Code} {env:Env}
variable {o:Oper}
end
section
variable {P:Ye} {D:DX} {O:Nat->Prop}
structure Jd where
 e:List (Nat×TV sem)
 κ:Nat->Option Nat
 ln:Nat->Nat
structure RJ (J:Jd) (P:Program) (κ:Nat->Option Nat) (ln:Nat->Nat) (z:AH) (c:Cx sem) (s:TS sem) (env:Env) (h:AH) (n:Nat):Prop where
 R:Rel P κ ln z c s env h n
 j:∀ x v id,alk J.e x=some v->v.has id=true->κ id=J.κ id/\ln id=J.ln id
 w:∀ x v,alk J.e x=some v->alk c.e0 x=some v
section
variable {κ:Nat->Yb Nat} {ln:Nat->Nat} {z:AH} {c:Cx sem} {s:TS sem} {env:Env} {h:AH} {n:Nat} {J:Jd}
theorem RJ.ke (R:RJ J P κ ln z c s env h n) (W:CxWf c) {κ':Nat->Yb Nat} {ln':Nat->Nat} {z':AH} {s':TS sem} {a:Env} {h':AH} {n':Nat} (ke:Ke c s.n κ ln κ' ln') (m:Rel P κ' ln' z' c s' a h' n'):RJ J P κ' ln' z' c s' a h' n':=
 ⟨m,λx v id e b=>by
  obtain ⟨i,f⟩:=ke id (R.R.has_lt W (kbT (R.w x v e) b));obtain ⟨k,p⟩:=R.j x v id e b;exact ⟨i.trans k,(f (kbT (R.w x v e) b)).trans p⟩,R.w⟩
theorem RJ.into (R:RJ J P κ ln z c s env h n) {l:La} (a:okLa l c s=true):RJ J P κ ln z (inCx l c s) ⟨s.env.filter (λx=>!l.keep.contains x.1),s.hp.filter (λx=>!l.gids.contains x.1),s.n,s.dy⟩ env h n:=
 ⟨R.R.into a,R.j,λx v b=>by
  rw [kdU,if_neg]
  ·exact R.w x v b
  ·intro f;have e:=(kbZ a).1 x (by simpa using f);rw [R.w x v b] at e; cases e⟩
theorem kex {l:La} {k:TS sem} (p:okLa l c s=true) (t:∀ id,(inCx l c s).has id=true->id<s.n) (R:RJ J P κ ln z (inCx l c s) k env h n) {x:l.head.ty.den} (hp:pack (inCx l c s) s.n l.head k=some x) :
  ∃ i a z2,RJ J P i a z2 (inCx l c s) (kac l.head s.n x) env h n:=by
 obtain ⟨i,a,z2,m,e⟩:=kqZ p t R.R hp;exact ⟨i,a,z2,m,λx v id b f=>⟨(e id (kbT (R.w x v b) f)).1.trans (R.j x v id b f).1,(e id (kbT (R.w x v b) f)).2.trans (R.j x v id b f).2⟩,R.w⟩
theorem kfd {l:La} {p:TS sem} {κ0:Nat->Yb Nat} {k:Nat->Nat} {z0:AH} {b:Env} {u:AH} {n0:Nat} (t:RJ J P κ0 k z0 c s b u n0) (A:okLa l c s=true) (B:∀ id,(inCx l c s).has id=true->id<l.n) (R:RJ J P κ ln z (inCx l c s) p env h n) {x:l.out.ty.den} (hp:pack (inCx l c s) l.n l.out p=some x) :
  ∃ m a z2,RJ J P m a z2 c (outTS l c s x) env h n:=by
 obtain ⟨m,a,z2,y,e⟩:=koM t.R A B R.R hp;exact ⟨m,a,z2,y,λx v id i f=>⟨(e id (kbT (R.w x v i) f)).1.trans (R.j x v id i f).1,(e id (kbT (R.w x v i) f)).2.trans (R.j x v id i f).2⟩,t.w⟩
end
structure KonOk (D:DX) (J:Jd) (P:Program) {r ρ:Ty} (Q:Exit->St->Prop) (RetQ:r.den->St->Prop) (c:Cx sem) (K:Kon sem r ρ) (rr:ρ.den):Prop where
 nrm:∀ κ ln z s env h n,RJ J P κ ln z c s env h n->K.nrm s=some rr->Q .normal ⟨env,h,n⟩
 ext:∀ id κ ln z s env h n,RJ J P κ ln z c s env h n->K.ext id s=some rr->Q (.exit id) ⟨env,h,n⟩
 retv:∀ v st,RetQ v st->K.retv v=some rr->Q .ret st
 stop:D.it.isSome=true->∀ st,lk st.env GS = .ud->Q .ret st
def YOk (P:Ye) (D:DX) (Δ:Ya (FuncId×Ctr)) (J:Jd):Prop:=
 ((alk Δ IM).isNone=true->D.it=none)/\((alk Δ IM).isSome=true->∃ G,D.it=some G/\kev P G/\
  (∀ nm ts F,(alk Δ IM).bind (λC=>C.its.head?)=some ⟨nm,[.nt],ts,F⟩->∃ xs,F (0:Nat)=some xs/\G.xs=xs.map (avsL ts))/\alk J.e 0=some (.yl 0)/\J.κ 0=some G.l)
theorem kja {α β:Type} {F:α->Yb (α⊕β)} {k:Nat} {x:α} {e:β} (h:itN F k x=some e):∃ a,k=a+1/\((∃ y,F x=some (.inl y)/\itN F a y=some e)\/F x=some (.inr e)):=by
 cases k with
 | zero=>simp [itN] at h
 | succ k=>
  refine ⟨k,rfl,?_⟩;simp only [itN] at h;split at h
  ·cases h
  ·rename_i y f; exact .inl ⟨y,f,h⟩
  ·rename_i w b; cases h; exact .inr b
theorem kpJ {α β:Type} {F:α->Yb (α⊕β)} {x:α} {e:β} (h:iter F x=some e):∃ G,G=F/\iter G x=some e:=⟨F,rfl,h⟩
theorem kra {α:Type} (l:Ya α):lenI l=(l.length:Int):=rfl
theorem kmW:∀ (ts:Ya Ty) (x:(tup ts).den),(unT sem ts x).length=ts.length
 | [],_=>rfl
 | [t],_=>rfl
 | t::u::ts,x=>by simp [unT,kmW (u::ts)]
theorem kgZ {α:Type}:∀ {l:Ya α} {k:Nat} {y:α},l[k]?=some y->l=l.take k++y::l.drop (k+1)/\(l.take k).length=k
 | [],k,y,h=>by simp at h
 | x::l,0,y,h=>by simp at h; subst h; exact ⟨rfl,rfl⟩
 | x::l,k+1,y,h=>by
  obtain ⟨a,h2⟩:=kgZ (l:=l) (k:=k) (y:=y) (by simpa using h);refine ⟨?_,by simp [h2]⟩;simp only [List.take_succ_cons,List.drop_succ_cons,jdp];rw [<-a]
theorem Rel.swap {κ:Nat->Yb Nat} {ln:Nat->Nat} {z:AH} {c:Cx sem} {s:TS sem} {env a:Env} {h:AH} {n:Nat} (R:Rel P κ ln z c s env h n) (b:∀ x,TVR P κ ln z s.n (tlk c s x) (lk a x)):Rel P κ ln z c s a h n:=
 ⟨b,R.blk,R.lt,R.inj,R.zin,R.zout,R.bnd,R.hn,R.e0,R.g,R.dy,R.zk,R.fam⟩
theorem kmA:∀ (ts:Ya Ty) (x:(tup ts).den),(avsL ts x).length=ts.length
 | [],_=>rfl
 | [t],_=>rfl
 | t::u::ts,x=>by simp [avsL,kmA (u::ts)]
theorem kqd {κ:Nat->Yb Nat} {ln:Nat->Nat} {z:AH} {N:Nat} {c:Cx sem} (hp:Ya (Nat×Yb (TB sem))) (m:Nat) (dy:Bool):∀ (e:Ya Tmp) (l:Ya ((t:Ty)×t.den)) (asZ:Ya AV) (E:Ya (Nat×TV sem)) (env:Env),l.length=e.length->TVRs P κ ln z N (l.map λy=>TV.c y.1 y.2) asZ->(∀ x,TVR P κ ln z N (tlk c ⟨E,hp,m,dy⟩ x) (lk env x))->
  ∀ x,TVR P κ ln z N (tlk c ⟨rndE (A:=sem) e l E,hp,m,dy⟩ x) (lk (kfs e asZ env) x)
 | [],l,asZ,E,env,hl,hs,he,x=>by simpa [rndE,kfs] using he x
 | p::e,[],asZ,E,env,hl,hs,he,x=>by simp at hl
 | p::e,y::l,_,E,env,hl,.cons _ a _ asZ hv hs,he,x=>by
  refine kqd hp m dy e l asZ ((p,.c y.1 y.2)::E) ((p,a)::env) (by simpa using hl) hs (λt=>?_) x;have f:tlk (A:=sem) c ⟨(p,.c y.1 y.2)::E,hp,m,dy⟩ t=if t=p then .c y.1 y.2 else tlk c ⟨E,hp,m,dy⟩ t:=by
   unfold tlk;simp only [alk];by_cases b:t=p
   ·rw [if_pos b,if_pos b]
   ·rw [if_neg b,if_neg b]
  rw [f];simp only [lk];by_cases b:t=p
  ·rw [if_pos b,if_pos b]; exact hv
  ·rw [if_neg b,if_neg b]; exact he t
theorem krS (a:Ya Tmp):∀ (l:Ya ((t:Ty)×t.den)) (E:Ya (Nat×TV sem)) {x:Nat} {v:TV sem},alk (rndE (A:=sem) a l E) x=some v->x∈a\/alk E x=some v:=by
 induction a with
 | nil=>intro l E x v h; exact .inr h
 | cons p a b=>
  intro l E x v h;cases l with
  | nil=>exact .inr h
  | cons y l=>
   rcases b l ((p,.c y.1 y.2)::E) h with h | h
   ·exact .inl (jbc _ h)
   ·simp only [alk] at h;split at h
    ·rename_i e; exact .inl (by simp [e])
    ·exact .inr h
theorem kgD {Δ:Ya (FuncId×Ctr)} (hΔ:Goods P Δ) {An:Nat->(A:Alg)->Cx A->TS A->Yb La} {Y:Nat} :
  ∀ (fuel:Nat) {r:Ty} {ac:Cx sem->TS sem->Yb r.den} {J:Jd} {RetQ:r.den->St->Prop} (an:∀ (c:Cx sem) κ ln s env h n v,CxWf c->RJ J P κ ln ahN c s env h n->ac c s=some v->RetQ v ⟨env,h,n⟩) (hY:YOk P D Δ J) {ρ:Ty} (c:Cx sem) (cs:Ya Code) (K:Kon sem r ρ) (s:TS sem) (Q:Exit->St->Prop) (rr:ρ.den) (κ:Nat->Yb Nat) (ln:Nat->Nat) (z:AH) (env:Env) (h:AH) (n:Nat),CxWf c->RJ J P κ ln z c s env h n->KonOk D J P Q RetQ c K rr->
   mach P Δ An Y fuel ac c cs K s=some rr->SatL P Y D O cs Q ⟨env,h,n⟩
 | 0,r,ac,J,RetQ,an,hY,ρ,c,cs,K,s,Q,rr,κ,ln,z,env,h,n,W,R,ok,S=>by simp only [mach] at S; exact kaa S
 | fuel+1,r,ac,J,RetQ,an,hY,ρ,c,cs,K,s,Q,rr,κ,ln,z,env,h,n,W,R,ok,S=>by
  have aB:=@kgD Δ hΔ An Y fuel;have IH:=@aB r ac J RetQ an hY;cases cs with
  | nil=>simp only [mach] at S; exact SatL.nil (ok.nrm _ _ _ _ _ _ _ R S)
  | cons cd cs=>
   cases cd <;> simp only [mach] at S;case skip=>exact SatL.skip (IH _ _ _ _ _ _ _ _ _ _ _ _ W R ok S)
   case seq a b=>exact SatL.seq (IH _ _ _ _ _ _ _ _ _ _ _ _ W R ok S)
   case ret=>
    split at S
    ·rename_i v hv;refine SatL.wk R.R λenv h Z=>?_;exact SatL.ret (ok.retv v _ (an _ _ _ _ _ _ _ _ W ⟨Z,R.j,R.w⟩ (by exact hv)) S)
    ·exact kaa S
   case exit id=>exact SatL.exit (ok.ext id _ _ _ _ _ _ _ R S)
   case region id ops aG=>
    refine SatL.wk R.R λenv h Z=>?_;replace R:RJ J P κ ln ahN c { s with dy:=false } env h n:=⟨Z,R.j,R.w⟩;clear Z;have bg:∀ (c:Cx sem) (W:CxWf c) (s:TS sem) {κ ln z env h n} (R:RJ J P κ ln z c { s with dy:=false } env h n) {ρ':Ty} (Kf:TS sem->sem.Ans ρ') (w:ρ'.den),(∀ κ ln z s' L h' n',RJ J P κ ln z c s' L h' n'->Kf s'=some w->SatL P Y D O cs Q ⟨L,h',n'⟩)->
      (if (okD c (ops.toList.map (·.dst))&&kbh Y ops.toList)=true then (if aG=true then drawV P c Δ Y ops.toList { s with dy:=false } Kf else xops P c Δ (ops.toList.map (·.dst)) ops.toList { s with dy:=false } Kf) else sem.fail "slot that stays")=some w->SatL P Y D O (.region id ops aG::cs) Q ⟨env,h,n⟩:=by
     intro c W s κ ln z env h n R ρ' Kf w hK aw;split at aw
     ·rename_i hc;rw [jac] at hc;split at aw
      ·rename_i hd;subst hd;have:=kou (N:=Y) (D:=D) (O:=O) (Q:=Q) (id:=id) hΔ R.R (λκ' ln' z' s' L h' n' ke R' u=>hK κ' ln' z' s' L h' n' (R.ke W ke R') u) aw;rw [show ops.toList.toArray=ops from rfl] at this;exact this
      ·rename_i hd;rw [jcl] at hd;subst hd;have:=Sat.region (P:=P) (N:=Y) (D:=D) (O:=O) (Q:=thenQ (SatL P Y D O cs Q) Q) (st:=⟨env,h,n⟩) (id:=id) hc.2 (kbx hΔ hc.1 (K:=λst=>SatL P Y D O cs Q st) (λκ' ln' z' s' L h' n' ke R' u=>hK κ' ln' z' s' L h' n' (R.ke W ke R') u) ops.toList .refl (jah _) (λo ho=>jaz.2 ⟨o,ho,rfl⟩) R.R aw);rw [show ops.toList.toArray=ops from rfl] at this;exact this
     ·exact kaa aw
    split at S
    ·
     rename_i k aJ;have hIM:(alk Δ IM).isSome=true:=by
      unfold yIdx at aJ;split at aJ
      ·cases aJ
      ·rename_i hn; cases hh:alk Δ IM with
       | none=>rw [hh] at hn; exact absurd rfl hn
       | some C=>rfl
     obtain ⟨G,hD,okG,hIF,hJ0,hJκ⟩:=hY.2 hIM;split at S
     ·exact kaa S
     rename_i y ai;obtain ⟨aa,aQ⟩:=kgZ ai;split at S
     rotate_left
     ·exact kaa S
     rename_i hc;simp only [jac] at hc;obtain ⟨⟨⟨aF,aD⟩,bj⟩,ba⟩:=hc;have bO:y.guard=none:=by simpa using bj
     have hdstM:∀ (l:Ya Oper),(∀ o∈l,o∈ops.toList)->∀ o∈l,o.dst∈ops.toList.map (·.dst):=λl hl o ho=>jaz.2 ⟨o,hl o ho,rfl⟩;have bI:∀ o∈ops.toList.take k,o∈ops.toList:=λo ho=>jcw ho;have aU:∀ o∈ops.toList.drop (k+1),o∈ops.toList:=λo ho=>jcy ho;have bC:y∈ops.toList:=jai ai;have br:∀ d,y.dst=some d->alk c.e0 d=none:=λd hd=>by
      have:=jam.1 (show (ops.toList.map (·.dst)).all _=true from aF) (y.dst) (jaz.2 ⟨y,bC,rfl⟩);rw [hd] at this; simpa using this
     have aS:∀ κ1 ak z1 s1 ah h1 n1,Ke c s.n κ ln κ1 ak->Rel P κ1 ak z1 c s1 ah h1 n1->kjF (A:=sem) c Δ s1 y (λs2=>xops P c Δ (ops.toList.map (·.dst)) (ops.toList.drop (k+1)) s2 λs3=>mach P Δ An Y fuel (A:=sem) (r:=.un) (ρ:=.un) kkM c cs koL s3)
       (λs2=>xops P c Δ (ops.toList.map (·.dst)) (ops.toList.drop (k+1)) s2 λs3=>mach P Δ An Y fuel ac c cs K s3)=some rr->YieldK P G (ops.toList.map (·.dst)) y (ops.toList.drop (k+1)) (λst=>SatL P Y D O cs Q st) ⟨ah,h1,n1⟩:=λκ1 ak z1 s1 ah h1 n1 ke Z bF=>by
      have aA:=R.ke W ke Z;have bH:κ1 0=some G.l:=by rw [(aA.j 0 (.yl 0) 0 hJ0 (by simp [TV.has])).1]; exact hJκ
      refine knM hIF W Z bH br bF (λs2 aq R2 bK al=>?_) (λs2 aq w0 R2 bK al=>?_)
      ·exact kbx hΔ aF (K:=λst=>SatL P Y D O cs Q st) (λκ' ln' z' s' L h' n' aN R' u=>IH _ _ _ _ _ _ _ _ _ _ _ _ W ((⟨R2,aA.j,aA.w⟩:RJ J P κ1 ak ahN c s2 aq ah0 n1).ke W aN R') ok u) _ .refl (jah _) (hdstM _ aU) R2 al
      ·refine kbx hΔ aF (K:=λst=>SatL P Y D O cs Q st) (λκ' ln' z' s' L h' n' aN R' u=>?_) _ .refl (jah _) (hdstM _ aU) R2 al;refine @aB .un _ J (λ_ st=>lk st.env GS = .ud) (λc κ ln s env h n v W R hv=>?_) hY .un c cs _ s' Q w0 κ' ln' z' L h' n' W ((⟨R2,aA.j,aA.w⟩:RJ J P κ1 ak ahN c s2 aq ah0 n1).ke W aN R') ⟨λ_ _ _ _ _ _ _ _ hf=>kaa hf,λ_ _ _ _ _ _ _ _ _ hf=>kaa hf,λv st hv _=>ok.stop (by rw [hD]; rfl) st hv,ok.stop⟩ u;unfold kkM at hv;split at hv
       ·rename_i bx;have hR:=R.R.env GS;have:tlk c s GS = .ud:=by unfold tlk; rw [bx]
        rw [this] at hR;show lk env GS = .ud;generalize lk env GS=a at hR;cases hR; rfl
       ·cases hv
     have hopsA:(ops.toList.take k++y::ops.toList.drop (k+1)).toArray=ops:=by rw [<-aa]
     split at S
     ·rename_i aE;subst aE;simp only [jdy,jdl,jac] at ba;obtain ⟨⟨bv,bi⟩,bc⟩:=ba;obtain ⟨W',anc,t1,t2,t3,t4,t5⟩:=kjP (N:=Y) (Kt:=λst=>YieldK P G (ops.toList.map (·.dst)) y (ops.toList.drop (k+1)) (λst=>SatL P Y D O cs Q st) st) hΔ R.R aS S;have:=Sat.drawY (P:=P) (N:=Y) (D:=D) (O:=O) (Q:=thenQ (SatL P Y D O cs Q) Q) (id:=id) hD okG bv (by rw [<-aa]; exact bi) (by rw [<-aa,aQ]; exact bc) (by rw [<-aa]; exact aD) (PreY.of_tree t1 t2 t3 t4 (by rw [<-aa]; exact t5));rw [hopsA] at this;exact this
     ·rename_i aE;rw [jcl] at aE;subst aE;have hx:=kbx hΔ aF (K:=λst=>YieldK P G (ops.toList.map (·.dst)) y (ops.toList.drop (k+1)) (λst=>SatL P Y D O cs Q st) st) aS (ops.toList.take k) (s:={ s with dy:=false }) .refl (jah _) (hdstM _ bI) R.R S;have:=Sat.regionY (P:=P) (N:=Y) (D:=D) (O:=O) (Q:=thenQ (SatL P Y D O cs Q) Q) (id:=id) (st:=⟨env,h,n⟩) hD okG (by rw [<-aa]; exact aD) (by rw [<-aa]; exact hx);rw [hopsA] at this;exact this
    split at S
    ·exact bg c W s R _ rr (λκ ln z s' L h' n' R' u=>IH _ _ _ _ _ _ _ _ _ _ _ _ W R' ok u) S
    ·rename_i a ha;split at S
     ·exact kaa S
     ·rename_i T;replace T:okLa a c s=true:=by simpa using T
      obtain ⟨y,hy,S⟩:=jaa.1 S;have R0:RJ J P κ ln ahN c s env h n:=⟨⟨R.R.env,R.R.blk,R.R.lt,R.R.inj,R.R.zin,R.R.zout,R.R.bnd,R.R.hn,R.R.e0,R.R.g,λ_=>rfl,R.R.zk,R.R.fam⟩,R.j,R.w⟩;have W':=kid R0.R W T;have Z:=R0.into T;have bo:RJ J P κ ln ahN (inCx a c s) { (⟨s.env.filter (λx=>!a.keep.contains x.1),s.hp.filter (λx=>!a.gids.contains x.1),s.n,s.dy⟩:TS sem) with dy:=false } env h n:=⟨⟨Z.R.env,Z.R.blk,Z.R.lt,Z.R.inj,Z.R.zin,Z.R.zout,Z.R.bnd,Z.R.hn,Z.R.e0,Z.R.g,λ_=>rfl,Z.R.zk,Z.R.fam⟩,Z.j,Z.w⟩;have aj:∀ id,(inCx a c s).has id=true->id<a.n:=λid U=>jao (Z.R.has_lt W' U) (kbZ T).2.2.2.2.2.2;refine bg (inCx a c s) W' ⟨s.env.filter (λx=>!a.keep.contains x.1),s.hp.filter (λx=>!a.gids.contains x.1),s.n,s.dy⟩ bo _ y (λκ ln z s' L h' n' R' u=>?_) hy;split at u
      ·rename_i y' az;cases u;obtain ⟨κ2,ab,z2,R2⟩:=kfd R0 T aj R' az;exact IH _ _ _ _ _ _ _ _ _ _ _ _ W R2 ok S
      ·exact kaa u
   case cond x a b=>
    have hx:=R.R.ev x;split at S
    ·rename_i he;rw [he] at hx;generalize ao:ev env x=av at hx;cases hx;exact SatL.condT ao rfl (IH _ _ _ _ _ _ _ _ _ _ _ _ W R ok S)
    ·rename_i he;rw [he] at hx;generalize ao:ev env x=av at hx;cases hx;exact SatL.condF ao rfl (IH _ _ _ _ _ _ _ _ _ _ _ _ W R ok S)
    ·rename_i v he;rw [he] at hx;have ao:=hx.b_inv;split at S
     ·rcases kbt S with ⟨hb,S⟩ | ⟨hb,S⟩
      ·exact SatL.condT ao hb (IH _ _ _ _ _ _ _ _ _ _ _ _ W R ok S)
      ·exact SatL.condF ao hb (IH _ _ _ _ _ _ _ _ _ _ _ _ W R ok S)
     ·rename_i l hl;split at S
      ·exact kaa S
      ·rename_i T;replace T:okLa l c s=true:=by simpa using T
       have W':=kid R.R W T;have Z:=R.into T;have aj:∀ id,(inCx l c s).has id=true->id<l.n:=λid U=>jao (Z.R.has_lt W' U) (kbZ T).2.2.2.2.2.2;refine Sat.ofL (Q:=thenQ (SatL P Y D O cs Q) Q) ?_;have aH:∀ {ρ':Ty} (K':Kon sem r ρ') (w:ρ'.den),KonOk D J P (thenQ (SatL P Y D O cs Q) Q) RetQ (inCx l c s) K' w->sem.ite v (mach P Δ An Y fuel ac (inCx l c s) [a] K' ⟨s.env.filter (λx=>!l.keep.contains x.1),s.hp.filter (λx=>!l.gids.contains x.1),s.n,s.dy⟩) (mach P Δ An Y fuel ac (inCx l c s) [b] K' ⟨s.env.filter (λx=>!l.keep.contains x.1),s.hp.filter (λx=>!l.gids.contains x.1),s.n,s.dy⟩)=some w->SatL P Y D O [.cond x a b] (thenQ (SatL P Y D O cs Q) Q) ⟨env,h,n⟩:=λK' w aT u=>by
        rcases kbt u with ⟨hb,u⟩ | ⟨hb,u⟩
        ·exact SatL.condT ao hb (IH _ _ _ _ _ _ _ _ _ _ _ _ W' Z aT u)
        ·exact SatL.condF ao hb (IH _ _ _ _ _ _ _ _ _ _ _ _ W' Z aT u)
       split at S
       ·obtain ⟨w,hw,S⟩:=jaa.1 S;refine aH _ w ⟨λκ ln z s' L h' n' R' u=>?_,λid κ ln z s' L h' n' R' u=>kaa u,λv' st ap u=>?_,ok.stop⟩ hw
        ·dsimp only at u;split at u
         ·rename_i y' az;cases u;obtain ⟨κ2,ab,z2,R2⟩:=kfd R T aj R' az;exact IH _ _ _ _ _ _ _ _ _ _ _ _ W R2 ok S
         ·exact kaa u
        ·cases u;exact ok.retv v' st ap S
       ·obtain ⟨w,hw,S⟩:=jaa.1 S;refine aH _ w ⟨λκ ln z s' L h' n' R' u=>?_,λid κ ln z s' L h' n' R' u=>kaa u,λv' st ap u=>kaa u,ok.stop⟩ hw;dsimp only at u;split at u
        ·rename_i y' az;cases u;obtain ⟨κ2,ab,z2,R2⟩:=kfd R T aj R' az;exact IH _ _ _ _ _ _ _ _ _ _ _ _ W R2 ok S
        ·exact kaa u
    ·exact kaa S
   case block id b=>
    have bl:∀ b',mach P Δ An Y fuel ac c [b'] (⟨λs=>mach P Δ An Y fuel ac c cs K s,λar s=>if ar=id then mach P Δ An Y fuel ac c cs K s else K.ext ar s,K.retv⟩:Kon sem r ρ) s=some rr->SatL P Y D O (.block id b'::cs) Q ⟨env,h,n⟩:=λb' aK=>by
     refine SatL.block (IH _ _ _ _ (kcB id (thenQ (SatL P Y D O cs Q) Q)) _ _ _ _ _ _ _ W R ⟨λκ ln z s' L h' n' R' u=>?_,λar κ ln z s' L h' n' R' u=>?_,λv st hv u=>?_,ok.stop⟩ aK)
     ·exact IH _ _ _ _ _ _ _ _ _ _ _ _ W R' ok u
     ·dsimp only at u;simp only [kcB];split at u
      ·rename_i e;rw [if_pos e];exact IH _ _ _ _ _ _ _ _ _ _ _ _ W R' ok u
      ·rename_i e;rw [if_neg e];exact ok.ext ar _ _ _ _ _ _ _ R' u
     ·exact ok.retv v st hv u
    cases b with
    | loop b=>
     dsimp only at S;split at S
     ·exact kaa S
     ·rename_i l hl;split at S
      ·exact kaa S
      ·rename_i T;replace T:okLa l c s=true:=by simpa using T
       have W':=kid R.R W T;have Z:=R.into T;have am:∀ id,(inCx l c s).has id=true->id<s.n:=λid U=>Z.R.has_lt W' U;have aj:∀ id,(inCx l c s).has id=true->id<l.n:=λid U=>jao (am id U) (kbZ T).2.2.2.2.2.2;split at S
       ·exact kaa S
       ·rename_i x hx;obtain ⟨κ0,aI,z0,R0⟩:=kex T am Z hx;have loop:∀ {X:Type} (F:l.head.ty.den->Yb (l.head.ty.den⊕X)) (e:X),iter F x=some e->
          (∀ (k:Nat) (st:St) (x:l.head.ty.den) (κ:Nat->Yb Nat) (ln:Nat->Nat) (z:AH) (w:l.head.ty.den⊕X),RJ J P κ ln z (inCx l c s) (kac l.head s.n x) st.env st.h st.n->F x=some w->(w = .inr e\/∃ y,w = .inl y)->
           ∀ (I:l.head.ty.den->St->Prop),(∀ y st κ ln z,w = .inl y->RJ J P κ ln z (inCx l c s) (kac l.head s.n y) st.env st.h st.n->I y st)->SatL P Y D O [b] (thenQ (λs'=>∃ y,w = .inl y/\I y s') (kcB id (thenQ (SatL P Y D O cs Q) Q))) st)->
          SatL P Y D O (.block id (.loop b)::cs) Q ⟨env,h,n⟩:=by
         intro X F e he round;refine SatL.block (SatL.ofS (Sat.loop (λ(k:Nat) st=>∃ (x:l.head.ty.den) (κ:Nat->Yb Nat) (ln:Nat->Nat) (z:AH),RJ J P κ ln z (inCx l c s) (kac l.head s.n x) st.env st.h st.n/\itN F k x=some e) (λk=>k) 18446744073709551616 ⟨x,κ0,aI,z0,R0,he⟩ ?_));rintro k st ⟨x,κ,ln,z,Rx,aL⟩;obtain ⟨k',rfl,af⟩:=kja aL;have fin:∀ w,F x=some w->(w = .inr e\/∃ y,w = .inl y)->(∀ y,w = .inl y->itN F k' y=some e)->Sat P Y D O b (thenQ (λs'=>∃ x',(∃ (x:l.head.ty.den) (κ:Nat->Yb Nat) (ln:Nat->Nat) (z:AH),RJ J P κ ln z (inCx l c s) (kac l.head s.n x) s'.env s'.h s'.n/\itN F x' x=some e)/\x'<k'+1) (kcB id (thenQ (SatL P Y D O cs Q) Q))) st:=λw hw M bJ=>by
          refine Sat.ofL (SatL.mono (cs:=[b]) ?_ (round k' st x κ ln z w Rx hw M (λy st=>∃ κ ln z,RJ J P κ ln z (inCx l c s) (kac l.head s.n y) st.env st.h st.n) (λy st κ ln z _ R=>⟨κ,ln,z,R⟩)));intro ex s' hq;cases ex with
          | normal=>
           obtain ⟨y,hy,κ,ln,z,Ry⟩:=hq;exact ⟨k',⟨y,κ,ln,z,Ry,bJ y hy⟩,jbe _⟩
          | _=>exact hq
         rcases af with ⟨y,hy,ai⟩ | hr
         ·exact fin _ hy (.inr ⟨y,rfl⟩) (λy' e'=>by cases e'; exact ai)
         ·exact fin _ hr (.inl rfl) (λy' e'=>by cases e')
        split at S
        ·obtain ⟨e,he,al⟩:=jaa.1 S;refine loop _ e he λk st x κ ln z w Rx hw M I hI=>?_;refine IH _ _ _ _ _ _ _ _ _ _ _ _ W' Rx ⟨λκ ln z s' L h' n' R' u=>?_,λar κ ln z s' L h' n' R' u=>?_,λv aV hv u=>?_,ok.stop⟩ hw
         ·dsimp only at u;split at u
          ·rename_i y hy;cases u;obtain ⟨κ2,ab,z2,R2⟩:=kex T am R' hy;exact ⟨y,rfl,hI y ⟨L,h',n'⟩ κ2 ab z2 rfl R2⟩
          ·exact kaa u
         ·dsimp only at u;split at u
          ·rename_i e1;split at u
           ·rename_i y hy;cases u;rcases M with M | ⟨y',M⟩
            ·cases M;obtain ⟨κ2,ab,z2,R2⟩:=kfd R T aj R' hy;subst e1;exact kgb (thenN (IH _ _ _ _ _ _ _ _ _ _ _ _ W R2 ok al))
            ·cases M
           ·exact kaa u
          ·exact kaa u
         ·cases u;rcases M with M | ⟨y',M⟩
          ·cases M; exact ok.retv v aV hv al
          ·cases M
        ·obtain ⟨e,he,al⟩:=jaa.1 S;refine loop _ e he λk st x κ ln z w Rx hw M I hI=>?_;refine IH _ _ _ _ _ _ _ _ _ _ _ _ W' Rx ⟨λκ ln z s' L h' n' R' u=>?_,λar κ ln z s' L h' n' R' u=>?_,λv aV hv u=>kaa u,ok.stop⟩ hw
         ·dsimp only at u;split at u
          ·rename_i y hy;cases u;obtain ⟨κ2,ab,z2,R2⟩:=kex T am R' hy;exact ⟨y,rfl,hI y ⟨L,h',n'⟩ κ2 ab z2 rfl R2⟩
          ·exact kaa u
         ·dsimp only at u;split at u
          ·rename_i e1;split at u
           ·rename_i y hy;cases u;rcases M with M | ⟨y',M⟩
            ·cases M;obtain ⟨κ2,ab,z2,R2⟩:=kfd R T aj R' hy;subst e1;exact kgb (thenN (IH _ _ _ _ _ _ _ _ _ _ _ _ W R2 ok al))
            ·cases M
           ·exact kaa u
          ·exact kaa u
    | rangeFunc f ps assign body=>
     dsimp only at S;split at S
     ·exact kaa S
     rename_i hIM;have hD:D.it=none:=hY.1 (by cases hh:alk Δ IM with
      | none=>rfl
      | some C=>rw [hh] at hIM; exact absurd rfl hIM)
     refine SatL.wk R.R λenv h Z=>?_;replace R:RJ J P κ ln ahN c { s with dy:=false } env h n:=⟨Z,R.j,R.w⟩;clear Z;generalize bs:({ s with dy:=false }:TS sem)=s' at *
     clear bs;split at S
     rotate_left
     ·exact kaa S
     rename_i g bM hf;split at S
     ·exact kaa S
     rename_i I hI;split at S
     ·exact kaa S
     rename_i la ids hl;split at S
     rotate_left
     ·exact kaa S
     rename_i s0 a bk ha;obtain ⟨E,H,n0,bN⟩:=s0;split at S
     ·exact kaa S
     rename_i l bR;split at S
     ·exact kaa S
     rename_i au;simp only [jau,jbj,not_or,jcl,Bool.not_eq_false',ne_eq,Decidable.not_not,jak,Bool.not_eq_false] at au;obtain ⟨⟨⟨⟨⟨T,bL⟩,bB⟩,aX⟩,bb⟩,bz⟩:=au;split at S
     ·exact kaa S
     rename_i x hx;obtain ⟨xs,bG,S⟩:=jaa.1 S;obtain ⟨e,he,hkE⟩:=jaa.1 S;obtain ⟨F,hF,he⟩:=kpJ he;have bf:=R.R.ev f;rw [hf] at bf;obtain ⟨asZ,bh,aM⟩:=bf.fn_inv;obtain ⟨C,hC,hIh⟩:=jaa.1 hI;have hG:=(hΔ.at hC).2.2.2 I (List.mem_of_mem_head? hIh);obtain ⟨bq,g1,g2,g3⟩:=kcF hΔ R.R _ _ _ aM hl;have hAR:=ket _ _ _ _ g1 ha;have aL:=hG.2 a xs bG bq hAR;have Re:=R.R.eat rfl bk;have Rj:RJ J P κ ln ahN c ⟨E,H,n0,false⟩ env _ n:=⟨Re,R.j,R.w⟩;have W':=kid Rj.R W T;have Z:=Rj.into T;have am:∀ id,(inCx l c (⟨E,H,n0,false⟩:TS sem)).has id=true->id<n0:=λid U=>Z.R.has_lt W' U;have aj:∀ id,(inCx l c (⟨E,H,n0,false⟩:TS sem)).has id=true->id<l.n:=λid U=>jao (am id U) (kbZ T).2.2.2.2.2.2;have aP:l.head.env=[]:=by simpa using bL
     have bd:l.out.env=[]:=by simpa using bB
     have be:∀ y,(kac (A:=sem) l.head n0 y).env=[]:=λy=>by unfold kac; rw [aP]; rfl
     have bA:∀ y,(kac (A:=sem) l.out l.n y).env=[]:=λy=>by unfold kac; rw [bd]; rfl
     have base:∀ x,TVR P κ ln ahN n0 ((alk (inCx l c (⟨E,H,n0,false⟩:TS sem)).e0 x).getD .un) (lk env x):=λx=>by
      cases aC:alk (inCx l c (⟨E,H,n0,false⟩:TS sem)).e0 x with
      | none=>exact .un _
      | some v=>have:=Z.R.env x; rw [Z.R.e0_tlk aC] at this; exact this
     have aO:∀ {κ':Nat->Yb Nat} {ln':Nat->Nat} {z':AH} {N':Nat},(∀ x v id,alk (inCx l c (⟨E,H,n0,false⟩:TS sem)).e0 x=some v->v.has id=true->κ' id = κ id/\ln' id=ln id/\id<N')->∀ x,TVR P κ' ln' z' N' ((alk (inCx l c (⟨E,H,n0,false⟩:TS sem)).e0 x).getD .un) (lk env x):=λ{κ' ln' z' N'} ay x=>by
      have hb:=base x;cases aC:alk (inCx l c (⟨E,H,n0,false⟩:TS sem)).e0 x with
      | none=>exact .un _
      | some v=>
       rw [aC] at hb;exact hb.congr (λid U=>ay x v id aC U) (λq B hq=>by cases hq)
     have bp:∀ (s1:TS sem) x,s1.env=[]->tlk (inCx l c (⟨E,H,n0,false⟩:TS sem)) s1 x=(alk (inCx l c (⟨E,H,n0,false⟩:TS sem)).e0 x).getD .un:=λs1 x hs=>by unfold tlk; rw [hs]; rfl
     have swapU:∀ {κ':Nat->Yb Nat} {ln':Nat->Nat} {z':AH} {y:l.head.ty.den} {L:Env} {h':AH} {n':Nat},RJ ⟨(inCx l c (⟨E,H,n0,false⟩:TS sem)).e0,κ,ln⟩ P κ' ln' z' (inCx l c (⟨E,H,n0,false⟩:TS sem)) (kac l.head n0 y) L h' n'->RJ ⟨(inCx l c (⟨E,H,n0,false⟩:TS sem)).e0,κ,ln⟩ P κ' ln' z' (inCx l c (⟨E,H,n0,false⟩:TS sem)) (kac l.head n0 y) env h' n':=λ{κ' ln' z' y L h' n'} Ru=>
      ⟨Ru.R.swap λx=>by rw [bp _ x (be y)]; exact aO (λx v id ad U=>⟨(Ru.j x v id ad U).1,(Ru.j x v id ad U).2,Ru.R.has_lt W' (kbT ad U)⟩) x,Ru.j,Ru.w⟩
     have fin:∀ {κ':Nat->Yb Nat} {ln':Nat->Nat} {z':AH} {s1:TS sem} {y:l.out.ty.den} {L:Env} {h':AH} {n':Nat},RJ ⟨(inCx l c (⟨E,H,n0,false⟩:TS sem)).e0,κ,ln⟩ P κ' ln' z' (inCx l c (⟨E,H,n0,false⟩:TS sem)) s1 L h' n'->pack (inCx l c (⟨E,H,n0,false⟩:TS sem)) l.n l.out s1=some y->mach P Δ An Y fuel ac c cs K (outTS l c (⟨E,H,n0,false⟩:TS sem) y)=some rr->SatL P Y D O cs Q ⟨env,h',n'⟩:=λ{κ' ln' z' s1 y L h' n'} Ru hy u=>by
      obtain ⟨κ2,ab,z2,R2,ag⟩:=koM Rj.R T aj Ru.R hy;have ay:∀ x v id,alk (inCx l c (⟨E,H,n0,false⟩:TS sem)).e0 x=some v->v.has id=true->κ2 id = κ id/\ab id=ln id/\id<l.n:=λx v id ad U=>
       ⟨(ag id (kbT ad U)).1.trans (Ru.j x v id ad U).1,(ag id (kbT ad U)).2.trans (Ru.j x v id ad U).2,aj id (kbT ad U)⟩
      have R3:Rel P κ2 ab z2 c (outTS l c (⟨E,H,n0,false⟩:TS sem) y) env h' n':=R2.swap λx=>by
       have ht:tlk c (outTS l c (⟨E,H,n0,false⟩:TS sem) y) x=(alk (inCx l c (⟨E,H,n0,false⟩:TS sem)).e0 x).getD .un:=by
        unfold tlk;have:alk (outTS l c (⟨E,H,n0,false⟩:TS sem) y).env x=if l.keep.contains x then some (tlk c (⟨E,H,n0,false⟩:TS sem) x) else none:=by
         show alk ((kac (A:=sem) l.out l.n y).env++l.keep.map λx=>(x,tlk c (⟨E,H,n0,false⟩:TS sem) x)) x=_;rw [bA,jay,kgB]
        rw [this,kdU];split <;> rename_i aD <;> split at aD <;> simp_all
       rw [ht];exact aO ay x
      refine IH _ _ _ _ _ _ _ _ _ _ _ _ W ⟨R3,λx v id hv U=>?_,Rj.w⟩ ok u;have ap:alk (inCx l c (⟨E,H,n0,false⟩:TS sem)).e0 x=some v:=Z.w x v hv;exact ⟨(ay x v id ap U).1.trans (R.j x v id hv U).1,(ay x v id ap U).2.1.trans (R.j x v id hv U).2⟩
     have bw:RJ ⟨(inCx l c (⟨E,H,n0,false⟩:TS sem)).e0,κ,ln⟩ P κ ln ahN (inCx l c (⟨E,H,n0,false⟩:TS sem)) ⟨E.filter (λx=>!l.keep.contains x.1),H.filter (λx=>!l.gids.contains x.1),n0,false⟩ env _ n:=⟨Z.R,λx v id _ _=>⟨rfl,rfl⟩,λx v h=>h⟩;obtain ⟨κ0,aI,z0,R0⟩:=kex T am bw hx;have hnoIM:¬ (alk Δ IM).isSome=true:=hIM;have ax:∀ {Q':Exit->St->Prop},D.it.isSome=true->∀ st,lk st.env GS = .ud->Q' .ret st:=λU=>by rw [hD] at U; cases U
     refine SatL.block (SatL.ofS (Sat.rangeFunc hD (ids.flatMap (ows κ ln c s')) bh (hE:=hz (ows κ ln c s') h ahN ids) (λi B U=>?_) (λi B U=>?_) g2 aL (λy hy=>?_) (λp hp=>?_)
      (λk h n=>∃ m x κ' ln' z',itN F m ((k:Int),x)=some e/\RJ ⟨(inCx l c (⟨E,H,n0,false⟩:TS sem)).e0,κ,ln⟩ P κ' ln' z' (inCx l c (⟨E,H,n0,false⟩:TS sem)) (kac l.head n0 x) env h n) ⟨18446744073709551616,x,κ0,aI,z0,he,R0⟩ (λk xA h1 n1 hxA hI1=>?_) (λh1 n1 hI1=>?_)))
     ·refine ⟨?_,kbR R.R.zin i B U⟩;unfold hz at U;split at U
      ·rename_i aY;obtain ⟨id,bD,bn⟩:=jbi.1 aY;rw [jbo];exact List.mem_flatMap.2 ⟨id,bD,by simpa using bn⟩
      ·cases U
     ·split at U
      ·cases U
      ·rename_i aW; exact ⟨by simpa using aW,U⟩
     ·obtain ⟨y',_,rfl⟩:=jaz.1 hy;rw [kmA]; exact bb
     ·have:=jam.1 aX p hp;simp only [jac,jak] at this;exact this.2
     ·obtain ⟨m,x1,κ1,ak,z1,hm,Ru⟩:=hI1;rw [jaw] at hxA;obtain ⟨e',aR,rfl⟩:=jab.1 hxA;obtain ⟨m',rfl,af⟩:=kja hm;obtain ⟨w,hw,M⟩:∃ w,F ((k:Int),x1)=some w/\(w = .inr e\/∃ y,w = .inl y/\itN F m' y=some e):=by
       rcases af with ⟨y,hy,ai⟩ | hr
       ·exact ⟨_,hy,.inr ⟨y,rfl,ai⟩⟩
       ·exact ⟨_,hr,.inl rfl⟩
      rw [hF] at hw;dsimp only at hw;rcases kbt hw with ⟨hb,hw⟩ | ⟨hb,hw⟩
      rotate_left
      ·exfalso;have bP:=(jae.1 aR).1;have bQ:¬ ((k:Int)<(xs.length:Int)):=of_decide_eq_false hb;omega
      obtain ⟨e2,bE,hw⟩:=jaa.1 hw;have bt:e2=e':=by
       have h3:=(kke bE).2;simp only [jdv] at h3;rw [aR] at h3; cases h3; rfl
      subst bt;have bu:(unT sem I.ts e2).length=ps.toList.length:=by rw [kmW]; simpa using bb
      have Rr:RJ ⟨(inCx l c (⟨E,H,n0,false⟩:TS sem)).e0,κ,ln⟩ P κ1 ak z1 (inCx l c (⟨E,H,n0,false⟩:TS sem)) ⟨rndE ps.toList (unT sem I.ts e2) (kac (A:=sem) l.head n0 x1).env,(kac (A:=sem) l.head n0 x1).hp,(kac (A:=sem) l.head n0 x1).n,(kac (A:=sem) l.head n0 x1).dy⟩ (kfs ps.toList (avsL I.ts e2) env) h1 n1:=by
       refine ⟨⟨λy=>kqd _ _ _ ps.toList _ _ _ _ bu (kgO I.ts e2 bz) (λt=>Ru.R.env t) y,Ru.R.blk,Ru.R.lt,Ru.R.inj,Ru.R.zin,Ru.R.zout,Ru.R.bnd,Ru.R.hn,λy v hy=>?_,Ru.R.g,Ru.R.dy,Ru.R.zk,Ru.R.fam⟩,Ru.j,Ru.w⟩;rcases krS ps.toList _ _ hy with hy | hy
       ·have:=jam.1 aX y hy;simp only [jac,jde] at this;exact this.1
       ·rw [be] at hy; cases hy
      have hresR:∀ (c1:Cx sem) κ2 ab s1 ah h1 n1 v,CxWf c1->RJ ⟨(inCx l c (⟨E,H,n0,false⟩:TS sem)).e0,κ,ln⟩ P κ2 ab ahN c1 s1 ah h1 n1->(λ(c1:Cx sem) (s1:TS sem)=>ac ⟨(inCx l c (⟨E,H,n0,false⟩:TS sem)).e0,c1.g⟩ ⟨[],s1.hp,s1.n,s1.dy⟩) c1 s1=some v->(λv (st:St)=>RetQ v ⟨env,st.h,st.n⟩) v ⟨ah,h1,n1⟩:=λc1 κ2 ab s1 ah h1 n1 v W1 Rc hv=>by
       refine an ⟨(inCx l c (⟨E,H,n0,false⟩:TS sem)).e0,c1.g⟩ κ2 ab ⟨[],s1.hp,s1.n,s1.dy⟩ env h1 n1 v ⟨W'.e0,W1.g⟩ ⟨⟨λy=>?_,Rc.R.blk,Rc.R.lt,Rc.R.inj,Rc.R.zin,Rc.R.zout,Rc.R.bnd,Rc.R.hn,λy v hy=>(by cases hy),Rc.R.g,Rc.R.dy,Rc.R.zk,Rc.R.fam⟩,λy v id hv U=>?_,λy v hv=>Z.w y v hv⟩ hv
       ·show TVR P κ2 ab ahN s1.n ((alk (inCx l c (⟨E,H,n0,false⟩:TS sem)).e0 y).getD .un) (lk env y);exact aO (λx v id ad U=>⟨(Rc.j x v id ad U).1,(Rc.j x v id ad U).2,Rc.R.has_lt W1 (kbT (Rc.w x v ad) U)⟩) y
       ·have ap:alk (inCx l c (⟨E,H,n0,false⟩:TS sem)).e0 y=some v:=Z.w y v hv;exact ⟨(Rc.j y v id ap U).1.trans (R.j y v id hv U).1,(Rc.j y v id ap U).2.trans (R.j y v id hv U).2⟩
      have hYr:YOk P D Δ ⟨(inCx l c (⟨E,H,n0,false⟩:TS sem)).e0,κ,ln⟩:=⟨λ_=>hD,λhh=>absurd hh hnoIM⟩;refine Sat.ofL (SatL.mono (cs:=[assign]) (λe s hq=>hq) (@aB r (λ(c1:Cx sem) (s1:TS sem)=>ac ⟨(inCx l c (⟨E,H,n0,false⟩:TS sem)).e0,c1.g⟩ ⟨[],s1.hp,s1.n,s1.dy⟩) ⟨(inCx l c (⟨E,H,n0,false⟩:TS sem)).e0,κ,ln⟩ (λv (st:St)=>RetQ v ⟨env,st.h,st.n⟩) hresR hYr (.sm (.pr (.i .i64) l.head.ty) (.sm r l.out.ty)) (inCx l c (⟨E,H,n0,false⟩:TS sem)) [assign] _ _ (thenQ (λs=>Sat P Y D O body (bodyQ (kcB id (thenQ (SatL P Y D O cs Q) Q)) env (λk h n=>∃ m x κ' ln' z',itN F m ((k:Int),x)=some e/\RJ ⟨(inCx l c (⟨E,H,n0,false⟩:TS sem)).e0,κ,ln⟩ P κ' ln' z' (inCx l c (⟨E,H,n0,false⟩:TS sem)) (kac l.head n0 x) env h n) k) s) (λ_ _=>False)) w κ1 ak z1 _ h1 n1 W' Rr
       ⟨λκ2 ab z2 s2 aq h2 n2 Rb aK=>?_,λ_ _ _ _ _ _ _ _ _ hf=>kaa hf,λ_ _ _ hf=>kaa hf,ax⟩ hw))
      refine Sat.ofL (@aB r (λ(c1:Cx sem) (s1:TS sem)=>ac ⟨(inCx l c (⟨E,H,n0,false⟩:TS sem)).e0,c1.g⟩ ⟨[],s1.hp,s1.n,s1.dy⟩) ⟨(inCx l c (⟨E,H,n0,false⟩:TS sem)).e0,κ,ln⟩ (λv (st:St)=>RetQ v ⟨env,st.h,st.n⟩) hresR hYr (.sm (.pr (.i .i64) l.head.ty) (.sm r l.out.ty)) (inCx l c (⟨E,H,n0,false⟩:TS sem)) [body] _ s2 _ w κ2 ab z2 aq h2 n2 W' Rb ⟨λκ3 ln3 z3 s3 aZ h3 n3 Rc ae=>?_,λar κ3 ln3 z3 s3 aZ h3 n3 Rc ae=>?_,λv st hv ae=>?_,ax⟩ aK)
      ·dsimp only at ae;split at ae
       ·rename_i y hy;cases ae;obtain ⟨κ4,bm,z4,R4⟩:=kex T am Rc hy;rcases M with M | ⟨y',M,ai⟩
        ·cases M
        ·cases M;exact ⟨m',y,κ4,bm,z4,by rw [show ((k+1:Nat):Int)=(k:Int)+1 by omega]; exact ai,swapU R4⟩
       ·exact kaa ae
      ·dsimp only at ae;split at ae
       ·rename_i e1;split at ae
        ·rename_i y hy;cases ae;rcases M with M | ⟨y',M,_⟩
         ·cases M;subst e1;exact kgb (thenN (fin Rc hy hkE))
         ·cases M
        ·exact kaa ae
       ·exact kaa ae
      ·cases ae;rcases M with M | ⟨y',M,_⟩
       ·cases M;exact ok.retv v _ hv hkE
       ·cases M
     ·obtain ⟨m,x1,κ1,ak,z1,hm,Ru⟩:=hI1;obtain ⟨m',rfl,af⟩:=kja hm;have hw:∃ w,F (((xs.map λy=>avsL I.ts y).length:Int),x1)=some w/\(w = .inr e\/∃ y,w = .inl y/\itN F m' y=some e):=by
       rcases af with ⟨y,hy,ai⟩ | hr
       ·exact ⟨_,hy,.inr ⟨y,rfl,ai⟩⟩
       ·exact ⟨_,hr,.inl rfl⟩
      obtain ⟨w,hw,M⟩:=hw;rw [hF] at hw;dsimp only at hw;rcases kbt hw with ⟨hb,hw⟩ | ⟨hb,hw⟩
      ·exfalso;simp only [jax,jak,kra] at hb;omega
      split at hw
      ·rename_i y hy;cases hw;rcases M with M | ⟨y',M,_⟩
       ·cases M;exact fin Ru hy hkE
       ·cases M
      ·exact kaa hw
    | _=>exact bl _ S
   all_goals exact kaa S
end
section
variable {P:Ye} {κ:Nat->Yb Nat} {ln:Nat->Nat} {z:AH} {c:Cx sem} {s:TS sem} {env:Env} {h:AH} {n:Nat}
theorem hz_le (R:Rel P κ ln z c s env h n) (ids:Ya Nat):∀ q B,hz (ows κ ln c s) h z ids q=some B->h q=some B:=by
 intro q B a;unfold hz at a;split at a
 ·exact a
 ·exact R.zin q B a
theorem kiD (R:Rel P κ ln z c s env h n) {T:Yc} {x:Tmp} {w:TV sem} (b:cellX P c s T (tlk c s x)=some w) :
  ∃ a,kbH P h env (.cell x T)=some a/\TVR P κ ln z s.n w a:=by
 have C:=R.env x;unfold cellX at b;split at b
 ·cases b
 ·rename_i ag i;split at b
  ·rename_i id j L;rw [L] at C;generalize hE:lk env x=a at C;cases C with
   | ptr _ _ q hN E=>
    split at b
    ·rename_i M vs hB;cases R.blk _ _ hB with
     | bx _ _ U asZ e v f F=>
      rw [E] at e; cases e;have hl:=f.len;have k:deref h (lk env x)=some (asZ.drop j):=by rw [hE]; simp only [deref,v]; rfl
      cases ag with
      | true=>
       simp only [if_true] at b;split at b
       ·rename_i S;cases b;refine ⟨_,?_,.ag _ _ ((f.drop j).take _) (λa B=>F a (jcy (jcw B)))⟩;simp only [kbH,k,i];rw [if_pos (by simp; omega)]
       ·cases b
      | false=>
       simp only [jal,if_false] at b;obtain ⟨a,B,u⟩:=f.at b;refine ⟨a,?_,u⟩;simp only [kbH,k,i];rw [jas]; simpa using B
    ·rename_i M t y hB;cases R.blk _ _ hB with
     | el _ _ _ U cs k e v f F hl=>
      rw [E] at e; cases e;have A:deref h (lk env x)=some (cs.drop j):=by rw [hE]; simp only [deref,v]; rfl
      obtain ⟨p,hp,rfl⟩:=jab.1 b;obtain ⟨t',Y⟩:=p;obtain ⟨I,H,X,Z,K⟩:=kdE t y j (P.cellsOf T) ag cs k hp f;obtain ⟨a,k1,k2,k3⟩:=kgd (P:=P) (κ:=κ) (ln:=ln) (N:=s.n) (m:=P.cellsOf T) (cs:=cs.drop j) I H X K (by rw [jdo]; omega);refine ⟨a,?_,k1⟩;simp only [kbH,A,i];cases ag with
      | true=>simp only []; rw [if_pos (by rw [jdo]; omega),<-k2 rfl]
      | false=>exact k3 rfl
    ·cases b
  ·cases b
theorem kgL (R:Rel P κ ln z c s env h n):∀ (l:Ya ResultVar) (rs:Ya Ty) (ys:Ya ((t:Ty)×sem.D t)),resX (A:=sem) P c s l rs=some ys->
  ∃ asZ bs,l.mapM (kbH P h env)=some asZ/\SnapL h asZ bs/\AL P ys bs/\rs.all Ty.dat=true
 | [],[],ys,hr=>by
  simp only [resX,Option.some.injEq] at hr; subst hr;exact ⟨[],[],rfl,.nil,.nil,rfl⟩
 | .tmp t::l,r::rs,ys,hr=>by
  simp only [resX] at hr;obtain ⟨⟨x,ids⟩,p,hr⟩:=jaa.1 hr;obtain ⟨y,i,rfl⟩:=jab.1 hr;obtain ⟨asZ,bs,f,h2,k,e⟩:=kgL R l rs y i;obtain ⟨b,hs,_⟩:=kaR R (R.env t) p;refine ⟨lk env t::asZ,r.av x::bs,?_,.cons (hs.mono (hz_le R ids)) h2,.cons ((kco b).2 rfl) k,by simp [b,e]⟩;rw [jdh,f]; rfl
 | .cell a T::l,r::rs,ys,hr=>by
  simp only [resX] at hr;obtain ⟨v,C,hr⟩:=jaa.1 hr;obtain ⟨⟨x,ids⟩,p,hr⟩:=jaa.1 hr;obtain ⟨y,i,rfl⟩:=jab.1 hr;obtain ⟨asZ,bs,f,h2,k,e⟩:=kgL R l rs y i;obtain ⟨u,B,m⟩:=kiD R C;obtain ⟨b,hs,_⟩:=kaR R m p;refine ⟨u::asZ,r.av x::bs,?_,.cons (hs.mono (hz_le R ids)) h2,.cons ((kco b).2 rfl) k,by simp [b,e]⟩;rw [jdh,f,B]; rfl
 | [],_::_,ys,hr=>by simp [resX] at hr
 | .tmp _::_,[],ys,hr=>by simp [resX] at hr
 | .cell _ _::_,[],ys,hr=>by simp [resX] at hr
theorem SnapL.tp {asZ bs:Ya AV} (hs:SnapL h asZ bs):Snap h (.tp asZ) (.tp bs):=.tp asZ bs hs.len hs.at
theorem kls (R:Rel P κ ln z c s env h n) {l:Ya ResultVar} {rs:Ya Ty} {v:(tup rs).den} (hr:(resX (A:=sem) P c s l rs).bind (mkT sem rs)=some v) :
  ∃ a,kaQ P h env l=some a/\Snap h a (rav rs v):=by
 obtain ⟨ys,p,y⟩:=jaa.1 hr;obtain ⟨asZ,bs,f,h2,x,k⟩:=kgL R l rs ys p;have i:=khV k (ket rs ys bs v x y);subst i;have hl:=h2.len;match rs,v,h2,hl with
 | [],v,h2,hl=>
  cases h2;exact ⟨.tp [],by simp only [kaQ,f],SnapL.tp .nil⟩
 | [t],v,h2,hl=>
  cases h2 with
  | cons m B=>cases B; exact ⟨_,by simp only [kaQ,f],m⟩
 | t::u::ts,v,h2,hl=>
  have e:rav (t::u::ts) v = .tp (avsL (t::u::ts) v):=rfl;rw [e];match asZ,hl,f,h2 with
  | [],hl,_,_=>simp [avsL] at hl
  | [_],hl,_,_=>exfalso; cases ts <;> simp [avsL] at hl
  | a::b::asZ,_,f,h2=>exact ⟨_,by simp only [kaQ,f],SnapL.tp h2⟩
theorem knh:∀ {ys:Ya ((t:Ty)×t.den)} {asZ:Ya AV},AL P ys asZ->∀ (k x:Nat),TVR P κ ln z n (tlk (A:=sem) ⟨[],[]⟩ ⟨(ys.zipIdx k).map λy=>(y.2,argT (A:=sem) y.1.1 y.1.2),[],n,false⟩ x) (lk ((asZ.zipIdx k).map λ(v,i)=>(i,v)) x)
 | [],_,.nil,k,x=>by exact .un _
 | p::ys,_,.cons (a:=a) (asZ:=asZ) h1 hl,k,x=>by
  have f:=knh hl (k+1) x;simp only [jch,jat,tlk,alk,lk] at f ⊢;by_cases e:x=k
  ·simp only [if_pos e];obtain ⟨t,y⟩:=p;cases t <;> first | exact .cv _ _ _ _ _ h1 | (obtain ⟨b,rfl⟩:=h1; exact .c _ _ _ b (.free _ (keV _ _ b)))
  ·simp only [if_neg e]; exact f
theorem kpN:∀ {ts:Ya Ty} {x:(tup ts).den} {l:Ya AV},AR P ts x l->AL P (unT sem ts x) l
 | [],_,_,rfl=>.nil
 | [t],x,_,⟨a,rfl,h⟩=>.cons h .nil
 | t::u::ts,x,_,⟨a,l',rfl,h,h'⟩=>.cons h (kpN h')
theorem AL.len {ys:Ya ((t:Ty)×t.den)} {asZ:Ya AV} (h:AL P ys asZ):asZ.length=ys.length:=by induction h <;> simp [*]
theorem koS:∀ (ts:Ya Ty) (x:(tup ts).den),(unT sem ts x).length=ts.length
 | [],_=>rfl
 | [t],_=>rfl
 | t::u::ts,x=>by simp [unT,koS (u::ts)]
theorem kaw {g:FuncId} {C:Ctr} {f:Func} (L:P.funcs[g]?=some f) (y:(C.rs.all Ty.dat&&C.asZ.length<=f.ntmps&&!(f.name== "runtime.NumGoroutine"))=true) {An:Ya (Nat×La)} (Δ:Ya (FuncId×Ctr)) (Z:Goods P Δ)
  (Y:∀ x,C.F x=machF P Δ (anL An) f C.asZ C.rs (A:=sem) x) (hM:∀ M∈C.mus,M.ok=true/\GoodM P g M:=by intro M h; cases h) (hI:∀ I∈C.its,GoodI P g I:=by intro M h; cases h) (hM0:(alk Δ IM).isNone=true:=by rfl):Good P g C:=by
 simp only [jac,jbj,jak] at y;obtain ⟨⟨K,h2⟩,U⟩:=y;refine ⟨K,λx r hr l hl=>?_,hM,hI⟩;rw [Y,machF] at hr;dsimp only at hr;split at hr
 ·exact kaa hr
 ·rename_i body H;have p:=kpN hl;refine PC.of_body L H U (by rw [p.len,koS]; exact h2) λD O hD=>?_;refine kgD (D:=D) (O:=O) Z 1000000 (RetQ:=λv st=>∃ a,kaQ P st.h st.env f.results.toList=some a/\Snap st.h a (rav C.rs v)) (J:=⟨[],λ_=>none,λ_=>0⟩) (λc κ ln s env h n v _ R e=>kls R.R e) (hY:=⟨λ_=>hD,λS=>absurd S (by cases X:alk Δ IM with | none=>decide | some C=>rw [X] at hM0; cases hM0)⟩) ⟨[],[]⟩ [body] _ _ _ r (λ_=>none) (λ_=>0) (λ_=>none) (kap l) ah0 0
   ⟨λx v h=>(by cases h),λx B h=>(by cases h)⟩ ?_ ?_ hr
  ·refine ⟨⟨λx=>?_,λid B h=>(by cases h),λid B h=>(by cases h),λi j B B' q h=>(by cases h),λq B h=>(by cases h),λid B q h=>(by cases h),λid B q h=>(by cases h),λq _=>rfl,λx v h=>rfl,λid b h=>(by cases h),λ_=>rfl,λq k T es h=>(by cases h),λid B h=>(by cases h)⟩,λx v id e=>(by cases e),λx v e=>(by cases e)⟩;exact knh (n:=0) p 0 x
  ·refine ⟨λκ ln z s env h n R m=>?_,λid κ ln z s env h n R m=>kaa m,λv st e m=>?_,λE=>by rw [hD] at E; cases E⟩
   ·dsimp only at m;split at m
    ·rename_i v e;cases m;obtain ⟨a,t,u⟩:=kls R.R e;exact ⟨a,t,_,u,rfl⟩
    ·exact kaa m
   ·cases m;obtain ⟨a,t,u⟩:=e;exact ⟨a,t,_,u,rfl⟩
end
section
variable {P:Ye} {κ κ':Nat->Yb Nat} {ln ln':Nat->Nat} {z z':AH} {c:Cx sem} {s:TS sem} {env:Env} {h h':AH} {n n' N N':Nat}
def tied:TV sem->Bool
 | .mw _ | .ptr _ _ | .mp _ | .fw _ | .kp _=>true
 | _=>false
theorem TVR.tied {v:TV sem} {a:AV} (e:tied v=true) (h:TVR P κ ln z N v a):TVR P κ ln z' N v a:=by
 cases v <;> simp only [Abs.tied,jal] at e
 ·cases h with | ptr _ _ q b h2=>exact .ptr _ _ q b h2
 ·cases h with
  | mw0 _ b h2=>exact .mw0 _ b h2
  | mw _ q b h2=>exact .mw _ q b h2
 ·cases h with | mp _ q b h2=>exact .mp _ q b h2
 ·cases h with
  | fw0 _ b h2=>exact .fw0 _ b h2
  | fw _ q b h2=>exact .fw _ q b h2
 ·cases h with | kp _ b=>exact .kp _ b
theorem Rel.thaw (R:Rel P κ ln z c s env h n) (t:∀ x,tied (tlk c s x)=true\/tlk c s x = .un) {O:Nat->Prop} {μ:Mu} {w:World} (hr:HR w O μ h n) :
  ∃ m h2,Rel P κ ln ahN c { s with dy:=false } env h2 n/\HR w O m h2 n/\Evo w μ n w m n:=by
 obtain ⟨p,h2,hz,f,i,a⟩:=R.conv hr;refine ⟨muP p μ,h2,⟨λx=>?_,f,R.lt,R.inj,λq B b=>(by cases b),λ_ _ _ _ _=>rfl,R.bnd,i,R.e0,R.g,λ_=>rfl,λq k T es b=>(by cases b),R.famD⟩,a,kij hr p⟩;have u:=R.env x;show TVR P κ ln ahN s.n (tlk c s x) (lk env x);rcases t x with e | e
 ·exact u.tied e
 ·rw [e]; exact .un _
theorem HC.fin {f:FuncId} {args:Ya AV} {K:K3} (t:HC P f args h n (λv h' n'=>(∃ h2:AH,(∀ q B,h2 q=some B->h' q=some B)/\K v h2 n')\/
  (v = .tp []/\∃ κ ln z c s env,Rel P κ ln z c s env h' n'/\(∀ x,tied (tlk c s x)=true\/tlk c s x = .un)/\∀ h2:AH,Rel P κ ln ahN c { s with dy:=false } env h2 n'->∃ b:AH,(∀ q B,b q=some B->h2 q=some B)/\K v b n'))):HC P f args h n K:=by
 refine ⟨t.1,λO μ w vs hr hs I=>(t.2 O μ w vs hr hs I).mono ?_⟩;rintro e w' ⟨u,v,h',n',H,rfl,m,a,p,y⟩;rcases m with ⟨h2,i,k⟩ | ⟨rfl,κ,ln,z,c,s,env,R,A,C⟩
 ·exact ⟨u,v,h2,n',H,rfl,k,⟨a.olt,a.scope,a.inj,a.notO,λid B hB=>a.blk id B (i id B hB)⟩,p,y⟩
 ·obtain ⟨M,h2,E,r2,F⟩:=R.thaw A a;obtain ⟨b,i,k⟩:=C h2 E;exact ⟨u,_,b,n',M,rfl,k,⟨r2.olt,r2.scope,r2.inj,r2.notO,λid B hB=>r2.blk id B (i id B hB)⟩,p.flat (.tp [] λj c L=>by simp at L) _ _ _ _,y.trans F⟩
end
end Go.Abs
