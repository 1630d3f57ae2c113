/- The functions and the law, part 9. -/
import Derived.Test.YtdignlncdfbihaaZ7
import Derived.Test.YtdignlncdfbihaaS8
set_option linter.constructorNameAsVariable false
set_option linter.unusedVariables false
set_option linter.unusedSimpArgs false
set_option linter.unusedSectionVars false
namespace Go.Abs
open Go
def findN (d:Ya Sub) (nm:Ya UInt8):Int:=if d.any (λs=>s.1==nm)=true then ((d.findIdx λs=>s.1==nm:Nat):Int) else -1
theorem kwm (d:Ya Sub) (c:d.length<=100) (nm:Ya UInt8):kgD d nm=some (findN d nm):=by
 unfold kgD;rw [kcz (F:=ken d nm) d (by omega) (λi x=>if (x.1==nm)=true then some (i:Int) else none) (λi a=>by
  unfold ken;rw [if_pos (lenI_lt.2 a),kbw a,kap (by omega)];simp only [jag];by_cases h:(d[i].1==nm)=true <;> simp [h,nextL]) (by unfold ken; rw [if_neg kaC])]
 have:∀ (l:Ya Sub) (k:Nat),endL ((l.zipIdx k).findSome? λx=>if (x.1.1==nm)=true then some (x.2:Int) else none)=(if l.any (λs=>s.1==nm)=true then .inl ((k:Int)+(l.findIdx (λs=>s.1==nm):Nat)) else .inr ()):=by
  intro l;induction l with
  | nil=>intro k; rfl
  | cons x l b=>
   intro k;rw [jbu,jeb,List.any_cons,List.findIdx_cons];cases hp:(x.1==nm) with
   | true=>simp [endL]
   | false=>
    simp only [jak,if_false,jdg,cond_false];rw [b (k+1)];congr 2; push_cast; omega
 rw [this d 0];unfold findN;by_cases h:d.any (λs=>s.1==nm)=true <;> simp [h]
theorem kta (d:Ya Sub) (i:Nat) (g:i<d.length):(findN d d[i].1=(i:Int))↔((d.take i).any λt=>t.1==d[i].1)=false:=by
 have e:d.any (λs=>s.1==d[i].1)=true:=jbo.2 ⟨d[i],jct g,by simp⟩;unfold findN;rw [if_pos e];constructor
 ·intro h;have h':d.findIdx (λs=>s.1==d[i].1)=i:=by omega
  rw [List.any_eq_false];intro t f;obtain ⟨k,c,rfl⟩:=jcm.1 f;rw [jbh] at c;rw [List.getElem_take];have:=List.not_of_lt_findIdx (p:=λs:Sub=>s.1==d[i].1) (xs:=d) (i:=k) (by omega);simpa using this
 ·intro h;have b:d.findIdx (λs=>s.1==d[i].1)<=i:=Nat.le_of_not_lt λa=>by
   have:=List.not_of_lt_findIdx (p:=λs:Sub=>s.1==d[i].1) (xs:=d) (i:=i) a;simp at this
  have a:d.findIdx (λs=>s.1==d[i].1)<d.length:=by omega
  have hp:=List.findIdx_getElem (p:=λs:Sub=>s.1==d[i].1) (xs:=d) (w:=a);rcases Nat.lt_or_eq_of_le b with hl | j
  ·rw [List.any_eq_false] at h;exact absurd hp (h _ (jcm.2 ⟨d.findIdx (λs=>s.1==d[i].1),by rw [jbh]; omega,by rw [List.getElem_take]⟩))
  ·omega
theorem krM (d:Ya Sub) (b:d.length<=100) (i:Nat) (c:i<=100) (s:Sub) (e:s.2.length<=100) :
  iter (kcN d (i:Int) s) 0=some (if s.2.all (okRow d.length i)=true then .inr () else .inl false):=by
 rw [show (0:Int)=((0:Nat):Int) from rfl,iter_any' (F:=kcN d (i:Int) s) false (λk=>(k:Int)) s.2.length (by omega) (λk=>(s.2[k]?).all (okRow d.length i)) (λk a=>by
  unfold kcN;rw [if_pos (lenI_lt.2 a),kbw a,jab a];simp only [jag];rw [kwG d b i c,kap (by omega)];show _=some (if okRow d.length i s.2[k]=true then _ else _);simp only [jag];cases okRow d.length i s.2[k] <;> rfl) (by unfold kcN; rw [if_neg kaC]),kfx]
theorem kpy (d:Ya Sub) (j:Small d):kec d=some (valid d):=by
 have hl:=j.1;unfold kec valid;rw [kaX];by_cases h:((d.length:Nat):Int)<1
 ·have:wi 1 8 (d.length:Int)=false:=by unfold wi; simp; omega
  simp [h,this]
 by_cases h2:(8:Int)<((d.length:Nat):Int)
 ·have:wi 1 8 (d.length:Int)=false:=by unfold wi; simp; omega
  simp [h,h2,this]
 have k:wi 1 8 (d.length:Int)=true:=by rw [kcJ]; omega
 simp only [h,h2,decide_false,jak,if_false,k,jeh];rw [show (0:Int)=((0:Nat):Int) from rfl,iter_any' (F:=kdO d) false (λi:Nat=>(i:Int)) d.length (by omega) (rowOk d) (λi f=>?_) (by unfold kdO; rw [if_neg kaC])]
 ·cases (List.range d.length).all (rowOk d) <;> rfl
 ·obtain ⟨k1,k2⟩:=j.2 _ (jct f);unfold kdO;rw [if_pos (lenI_lt.2 f),kbw f];simp only [jag];rw [kwy _ (by omega),kwm d (by omega),krM d (by omega) i (by omega) _ (by omega),kap (by omega)];have hr:rowOk d i=(keU d[i].1&&!((d.take i).any λt=>t.1==d[i].1)&&decide (d[i].2.length<=20)&&d[i].2.all (okRow d.length i)):=by unfold rowOk; rw [jab f]; rfl
  rw [hr];simp only [jag,kaX];have b:=kta d i f;cases keU d[i].1
  ·simp
  by_cases a:(20:Int)<((d[i].2.length:Nat):Int)
  ·have:¬ d[i].2.length<=20:=by omega
   simp [a,this]
  ·have c:d[i].2.length<=20:=by omega
   cases g:((d.take i).any λt=>t.1==d[i].1)
   ·have b:=b.2 g;simp only [a,c,b,bne_self_eq_false,decide_false,decide_true,jei,jak,if_false,Bool.not_false,jeh,Bool.and_true,jag];cases d[i].2.all (okRow d.length i) <;> rfl
   ·have b:¬ findN d d[i].1=(i:Int):=λe=>by rw [b.1 e] at g; cases g
    have:(findN d d[i].1 != (i:Int))=true:=by simpa using b
    simp [a,this]
theorem kuR (d:Ya Sub):∃ b,kfI d=some b/\(b=false->Small d):=by
 unfold kfI;rw [kaX];by_cases k:(12:Int)<((d.length:Nat):Int)
 ·exact ⟨true,by simp [k],λe=>by cases e⟩
 simp only [k,decide_false,jak,if_false];rw [show (0:Int)=((0:Nat):Int) from rfl,iter_any' (F:=kdQ d) true (λi:Nat=>(i:Int)) d.length (by omega) (λi=>(d[i]?).all λs=>decide (s.2.length<=30)&&decide (s.1.length<=100)) (λi j=>?_) (by unfold kdQ; rw [if_neg kaC]),kfx]
 ·cases h:(d.all λs=>decide (s.2.length<=30)&&decide (s.1.length<=100))
  ·exact ⟨true,rfl,λe=>by cases e⟩
  ·refine ⟨false,rfl,λ_=>⟨by omega,λs l=>?_⟩⟩;have:=jao.1 h s l;simp only [jae,jaj] at this;exact ⟨this.2,this.1⟩
 ·unfold kdQ;rw [if_pos (lenI_lt.2 j),kbw j,jab j];simp only [jag,kaX];show _=some (if (decide (d[i].2.length<=30)&&decide (d[i].1.length<=100))=true then _ else _);rw [kap (by omega)];by_cases g:(30:Int)<((d[i].2.length:Nat):Int)
  ·have:¬ d[i].2.length<=30:=by omega
   simp [g,this]
  have a:d[i].2.length<=30:=by omega
  by_cases c:(100:Int)<((d[i].1.length:Nat):Int)
  ·have:¬ d[i].1.length<=100:=by omega
   simp [g,a,c,this]
  have f:d[i].1.length<=100:=by omega
  simp [g,a,c,f]
theorem klw {σ τ:Type} {F:σ->Yb (σ⊕τ)} (e:Nat->σ) (m:Nat) (hm:m<18446744073709551616) (z:τ) (b:∀ i,i<m->F (e i)=some (.inl (e (i+1)))) (h2:F (e m)=some (.inr z)):iter F (e 0)=some z:=by
 have:∀ k i:Nat,i+k=m->itN F (k+1) (e i)=some z:=by
  intro k;induction k with
  | zero=>
   intro i h;have:i=m:=by omega
   subst this;rw [kcb h2]
  | succ k a=>intro i h; rw [khl (b i (by omega)),a (i+1) (by omega)]
 exact kdq (this m 0 (by omega)) (by omega)
abbrev Cel:=Int×Int×Int
def rz (c:Cel):Cel:=(-c.2.1,c.1,c.2.2)
def rx (c:Cel):Cel:=(c.1,-c.2.2,c.2.1)
def rzN (c:Cel):Nat->Cel
 | 0=>c
 | k+1=>rz (rzN c k)
def rxN (c:Cel):Nat->Cel
 | 0=>c
 | k+1=>rx (rxN c k)
def turnF (t:Nat) (c:Cel):Cel:=
 match t / 4 with
 | 0=>rzN c (t % 4)
 | 1=>rx (rzN c (t % 4))
 | 2=>rx (rx (rzN c (t % 4)))
 | 3=>rx (rx (rx (rzN c (t % 4))))
 | 4=>rz (rx (rzN c (t % 4)))
 | _=>rz (rz (rz (rx (rzN c (t % 4)))))
def Nr (b:Int) (c:Cel):Prop:=(-b<=c.1/\c.1<=b)/\(-b<=c.2.1/\c.2.1<=b)/\(-b<=c.2.2/\c.2.2<=b)
theorem Nr.rz {b:Int} {c:Cel} (h:Nr b c):Nr b (rz c):=by unfold Nr Abs.rz at *; simp only; omega
theorem Nr.rx {b:Int} {c:Cel} (h:Nr b c):Nr b (rx c):=by unfold Nr Abs.rx at *; simp only; omega
theorem Nr.rzN {b:Int} {c:Cel} (h:Nr b c):∀ k,Nr b (rzN c k)
 | 0=>h
 | k+1=>(Nr.rzN h k).rz
theorem Nr.rxN {b:Int} {c:Cel} (h:Nr b c):∀ k,Nr b (rxN c k)
 | 0=>h
 | k+1=>(Nr.rxN h k).rx
theorem Nr.turn {b:Int} {c:Cel} (h:Nr b c) (t:Nat):Nr b (turnF t c):=by
 have h0:=h.rzN (t % 4);unfold turnF;split
 ·exact h0
 ·exact h0.rx
 ·exact h0.rx.rx
 ·exact h0.rx.rx.rx
 ·exact h0.rx.rz
 ·exact h0.rx.rz.rz.rz
theorem kgH {x:Int} (h:-400000<=x/\x<=400000):w64 (0-x) = -x:=by rw [kaJ (by omega) (by omega)]; omega
theorem quo4 {t:Nat} (a:t<24):gquo .i64 (t:Int) 4=some ((t / 4:Nat):Int):=by
 unfold gquo;rw [if_neg (by omega)];congr 1;have:((t:Int)).tdiv 4=((t / 4:Nat):Int):=by rw [Int.tdiv_eq_ediv_of_nonneg (by omega)]; omega
 rw [this];exact kaJ (by omega) (by omega)
theorem rem4 (t:Nat):grem (t:Int) 4=some ((t % 4:Nat):Int):=by
 unfold grem;rw [if_neg (by omega)];rfl
theorem kuz (c:Cel) (a:Nr 400000 c) (k:Nat) (e:k<=1000):iter (kcm (k:Int)) (0,c)=some (rzN c k):=by
 have:=klw (F:=kcm (k:Int)) (λi:Nat=>((i:Int),rzN c i)) k (by omega) (rzN c k) (λi b=>by
  have:=a.rzN i;unfold Nr at this;unfold kcm;simp only;rw [if_pos (by simpa using b),kap (by omega),kgH (by omega)];rfl) (by
  unfold kcm;simp only;rw [if_neg (by simp)])
 exact this
theorem c1_eq (c:Cel) (a:Nr 400000 c):kaE c=some (rx c):=by
 unfold Nr at a;unfold kaE;rw [kgH (by omega)]; rfl
theorem knf (c:Cel) (f:Nr 400000 c) (t:Nat) (i:t<24):kca c (t:Int)=some (turnF t c):=by
 unfold kca turnF;rw [rem4,quo4 i];simp only [jag];rw [kuz c f _ (by omega)];simp only [jag,lattice_turners_m0];have a:=f.rzN (t % 4);generalize rzN c (t % 4)=v at *
 have g:t / 4<6:=by omega
 generalize t / 4=q at *
 have e:=a.rx;have b:=e.rx;match q,g with
 | 0,_=>rfl
 | 1,_=>simp [c1_eq v a]
 | 2,_=>simp [kcH,c1_eq v a,c1_eq _ e]
 | 3,_=>simp [kcK,c1_eq v a,c1_eq _ e,c1_eq _ b]
 | 4,_=>simp [kdG,rz,rx]
 | 5,_=>
  unfold Nr at a;have h:kcA v=some (rz (rz (rz (rx v)))):=by
   unfold kcA;rw [kgH (x:=v.2.2) (by omega),kgH (x:=v.1) (by omega)];simp [rz,rx]
  simp [h]
theorem kjW (c:Cel) (a:Nr 400000 c) (k:Nat) (e:k<=1000):kbD c (k:Int)=some (rzN c k):=by
 unfold kbD;have:=klw (F:=kck (k:Int)) (λi:Nat=>((i:Int),rzN c i)) k (by omega) (rzN c k) (λi b=>by
  have:=a.rzN i;unfold Nr at this;unfold kck;simp only;rw [if_pos (by simpa using b),kap (by omega),kgH (by omega)];rfl) (by
  unfold kck;simp only;rw [if_neg (by simp)])
 replace this:iter (kck (k:Int)) (0,c)=_:=this;rw [this]; rfl
theorem koq (c:Cel) (a:Nr 400000 c) (k:Nat) (e:k<=1000):kcQ c (k:Int)=some (rxN c k):=by
 unfold kcQ;have:=klw (F:=kcx (k:Int)) (λi:Nat=>((i:Int),rxN c i)) k (by omega) (rxN c k) (λi b=>by
  have:=a.rxN i;unfold Nr at this;unfold kcx;simp only;rw [if_pos (by simpa using b),kap (by omega),kgH (by omega)];rfl) (by
  unfold kcx;simp only;rw [if_neg (by simp)])
 replace this:iter (kcx (k:Int)) (0,c)=_:=this;rw [this]; rfl
theorem kdI (c:Cel) (b:Nr 400000 c) (t:Nat) (f:t<24):kbi c (t:Int)=some (turnF t c):=by
 unfold kbi turnF;rw [rem4,quo4 f];simp only [jag];rw [kjW c b _ (by omega)];simp only [jag];have a:=b.rzN (t % 4);generalize rzN c (t % 4)=v at *
 have e:t / 4<6:=by omega
 generalize t / 4=q at *
 have hX:kcQ v 1=some (rx v):=koq v a 1 (by omega);have hZ1:kbD (rx v) 1=some (rz (rx v)):=kjW _ a.rx 1 (by omega);have hZ3:kbD (rx v) 3=some (rz (rz (rz (rx v)))):=kjW _ a.rx 3 (by omega);rw [koq v a q (by omega),hX];simp only [jag];rw [hZ1,hZ3];match q,e with
 | 0,_=>rfl
 | 1,_=>rfl
 | 2,_=>rfl
 | 3,_=>rfl
 | 4,_=>rfl
 | 5,_=>rfl
def lin (a b c:Cel) (p:Cel):Cel:=(p.1*a.1+p.2.1*b.1+p.2.2*c.1,p.1*a.2.1+p.2.1*b.2.1+p.2.2*c.2.1,p.1*a.2.2+p.2.1*b.2.2+p.2.2*c.2.2)
theorem kuv (a b c p:Cel):rz (lin a b c p)=lin (rz a) (rz b) (rz c) p:=by
 simp only [rz,lin,Int.mul_neg,Int.neg_add]
theorem kwX (a b c p:Cel):rx (lin a b c p)=lin (rx a) (rx b) (rx c) p:=by
 simp only [rx,lin,Int.mul_neg,Int.neg_add]
theorem ksJ (a b c p:Cel):∀ k,rzN (lin a b c p) k=lin (rzN a k) (rzN b k) (rzN c k) p
 | 0=>rfl
 | k+1=>by rw [rzN,ksJ a b c p k,kuv]; rfl
theorem kuE (a b c p:Cel) (t:Nat):turnF t (lin a b c p)=lin (turnF t a) (turnF t b) (turnF t c) p:=by
 unfold turnF;rw [ksJ];split <;> simp only [kwX,kuv]
theorem kvy (p:Cel):lin (1,0,0) (0,1,0) (0,0,1) p=p:=by
 simp [lin]
theorem mul_u {x a b:Int} (e:-b<=x/\x<=b) (c:-1<=a/\a<=1):-b<=x*a/\x*a<=b:=by
 have:a = -1\/a=0\/a=1:=by omega
 rcases this with rfl | rfl | rfl <;> omega
theorem knD {x y z a b c:Int} (i:-100000<=x/\x<=100000) (f:-100000<=y/\y<=100000) (hz:-100000<=z/\z<=100000) (e:-1<=a/\a<=1) (g:-1<=b/\b<=1) (h:-1<=c/\c<=1) :
  w64 (w64 (w64 (x*a)+w64 (y*b))+w64 (z*c))=x*a+y*b+z*c:=by
 have j:=mul_u i e;have h2:=mul_u f g;have k:=mul_u hz h;rw [kaJ (x:=x*a) (by omega) (by omega),kaJ (x:=y*b) (by omega) (by omega),kaJ (x:=z*c) (by omega) (by omega),kaJ (x:=x*a+y*b) (by omega) (by omega),kaJ (by omega) (by omega)]
theorem koF (l:Ya Int) (hl:l.length<=1000):kcV l=some (l.all (wi 0 23)):=by
 unfold kcV;rw [kcz (F:=kcE l) l (by omega) (λi x=>if wi 0 23 x=true then none else some false) (λi b=>by
  unfold kcE;rw [if_pos (lenI_lt.2 b),kbw b,kap (by omega)];simp only [jag];by_cases h:wi 0 23 l[i]=true
  ·rw [kcJ] at h;have a:¬ l[i]<0:=by omega
   have h2:¬ 24<=l[i]:=by omega
   have e:wi 0 23 l[i]=true:=by rw [kcJ]; omega
   simp [a,h2,e,nextL]
  ·have h':=h;rw [kcJ] at h;by_cases a:l[i]<0
   ·simp [a,h',nextL]
   ·have h2:24<=l[i]:=by omega
    simp [a,h2,h',nextL]) (by unfold kcE; rw [if_neg kaC])]
 have:∀ (l:Ya Int) (k:Nat),endL ((l.zipIdx k).findSome? λx=>if wi 0 23 x.1=true then none else some false)=(if l.all (wi 0 23)=true then .inr () else .inl false):=by
  intro l;induction l with
  | nil=>intro k; rfl
  | cons x l c=>
   intro k;rw [jbu,jeb,jdf];cases hp:wi 0 23 x with
   | true=>simp only [if_true,jeh]; exact c (k+1)
   | false=>simp [endL]
 rw [this l 0];cases l.all (wi 0 23) <;> rfl
theorem near1:kcW (1,0,0) (-2000) 2000=some true/\kcW (0,1,0) (-2000) 2000=some true/\kcW (0,0,1) (-2000) 2000=some true:=by
 refine ⟨?_,?_,?_⟩ <;> decide
theorem kjJ (c:Cel) (hn:kcW c (-2000) 2000=some true) (b:Nr 400000 c) (t:Nat) (a:t<24):kcS c (t:Int)=some (turnF t c,0):=by
 unfold kcS;rw [hn,koF _ (by simp),knf c b t a];have:wi 0 23 (t:Int)=true:=by rw [kcJ]; omega
 simp [this]
theorem ktJ (p:Cel) (hp:Nr 100000 p) (t:Nat) (f:t<24):kfB p (t:Int)=some (turnF t p):=by
 unfold kfB;have g:∀ c:Cel,Nr 1 c->Nr 400000 c:=λc h=>by unfold Nr at *; omega
 have l:Nr 1 (1,0,0):=by unfold Nr; simp
 have k:Nr 1 (0,1,0):=by unfold Nr; simp
 have m:Nr 1 (0,0,1):=by unfold Nr; simp
 rw [kjJ _ near1.1 (g _ l) t f,kjJ _ near1.2.1 (g _ k) t f,kjJ _ near1.2.2 (g _ m) t f];simp only [jag];have e:=kuE (1,0,0) (0,1,0) (0,0,1) p t;rw [kvy] at e;rw [e];have n:=l.turn t;have v:=k.turn t;have v3:=m.turn t;generalize turnF t (1,0,0)=a at *
 generalize turnF t (0,1,0)=b at *
 generalize turnF t (0,0,1)=c at *
 obtain ⟨i,h2,j⟩:=hp;obtain ⟨w,x,a3⟩:=n;obtain ⟨b1,b2,b3⟩:=v;obtain ⟨o,r,s⟩:=v3;rw [knD i h2 j w b1 o,knD i h2 j x b2 r,knD i h2 j a3 b3 s];rfl
end Go.Abs
set_option maxRecDepth 100000
namespace Go.Abs
open Go
theorem kbW {σ τ:Type} {F:Int×σ->Yb ((Int×σ)⊕τ)} (m:Nat) (hm:m<18446744073709551616) (I:Nat->σ->Prop) (fin:σ->τ)
  (c:∀ i s,i<m->I i s->∃ s',F ((i:Int),s)=some (.inl (((i+1:Nat):Int),s'))/\I (i+1) s') (h2:∀ s,I m s->F ((m:Int),s)=some (.inr (fin s))) (s:σ) (h0:I 0 s) :
  ∃ s',I m s'/\iter F (0,s)=some (fin s'):=by
 have:∀ k i s,i+k=m->I i s->∃ s',I m s'/\itN F (k+1) ((i:Int),s)=some (fin s'):=by
  intro k;induction k with
  | zero=>
   intro i s h a;have:i=m:=by omega
   subst this;exact ⟨s,a,kcb (h2 s a)⟩
  | succ k f=>
   intro i s h a;obtain ⟨s',e,b⟩:=c i s (by omega) a;rw [khl e];exact f (i+1) s' (by omega) b
 obtain ⟨s',h,e⟩:=this m 0 s (by omega) h0;exact ⟨s',h,kdq e (by omega)⟩
theorem koK {σ β γ:Type} {F:σ->Yb (σ⊕(β⊕γ))} (e:Nat->σ) (m:Nat) (hm:m<18446744073709551616) (f:Nat->Yb β) (z:γ)
  (a:∀ i,i<m->F (e i)=some (match f i with | some b=>.inr (.inl b) | none=>.inl (e (i+1)))) (h2:F (e m)=some (.inr (.inr z))) :
  iter F (e 0)=some (match (List.range m).findSome? f with | some b=>.inl b | none=>.inr z):=by
 have:∀ k i,i+k=m->itN F (k+1) (e i)=some (match (List.range' i k).findSome? f with | some b=>.inl b | none=>.inr z):=by
  intro k;induction k with
  | zero=>
   intro i h;have:i=m:=by omega
   subst this;exact kcb h2
  | succ k g=>
   intro i h;have a:=a i (by omega);rw [List.range'_succ,jeb];cases c:f i with
   | some b=>
    rw [c] at a;exact kcb a
   | none=>
    rw [c] at a;rw [khl a];exact g (i+1) (by omega)
 rw [jeg];exact kdq (this m 0 (by omega)) (by omega)
def c123:Cel:=(1,2,3)
def fT (a b n:Nat):Yb Int:=
 let c:=turnF n c123; let w:=turnF b (turnF a c123)
 if (c.1==w.1&&(c.2.1==w.2.1&&c.2.2==w.2.2))=true then some (n:Int) else none
def fR (a b n:Nat):Yb Int:=
 let c:=turnF n (1,0,0); let w:=turnF b (turnF a (1,0,0)); let c':=turnF n (0,1,0); let w':=turnF b (turnF a (0,1,0))
 if (c.1==w.1&&(c.2.1==w.2.1&&c.2.2==w.2.2))=true then (if (c'.1==w'.1&&(c'.2.1==w'.2.1&&c'.2.2==w'.2.2))=true then some (n:Int) else none) else none
def compF (a b:Nat):Int:=((List.range 24).findSome? (fT a b)).getD 0
def kup (a b:Nat):Bool:=match (List.range 24).findSome? (fT a b),(List.range 24).findSome? (fR a b) with | some x,some y=>x==y&&decide (0<=x)&&decide (x<24) | _,_=>false
theorem kuN:((List.range 24).all λa=>(List.range 24).all λb=>kup a b)=true:=by kernel_rfl
theorem kuF:(runI λo=>kdr o)=some ((List.range 24).map λn:Nat=>((n:Int),turnF n c123)):=by kernel_rfl
theorem knz {a b:Nat} (c:a<24) (g:b<24):(List.range 24).findSome? (fT a b)=some (compF a b)/\(List.range 24).findSome? (fR a b)=some (compF a b)/\0<=compF a b/\compF a b<24:=by
 have h:=jao.1 (jao.1 kuN a (by simpa using c)) b (by simpa using g);unfold kup at h;unfold compF;split at h
 ·rename_i x y i e;simp only [jae,beq_iff_eq,jaj] at h;obtain ⟨⟨rfl,f⟩,h2⟩:=h;rw [i,e];exact ⟨rfl,rfl,f,h2⟩
 ·cases h
theorem nr123:Nr 400000 c123:=by unfold Nr c123; simp
theorem ktq (a b:Nat) (f:a<24) (h:b<24):kds a b=some (compF a b):=by
 unfold kds;have g:=knf c123 nr123 a f;unfold c123 at g;rw [g];simp only [jag];rw [knf _ (by have:=nr123.turn a; unfold c123 at this; exact this) b h,kuF];simp only [jag,lattice_turners_m0];have e:=koK (F:=kcv (turnF b (turnF a (1,2,3))) ((List.range 24).map λn:Nat=>((n:Int),turnF n c123))) (λi=>((i:Int),(0:Int))) 24 (by omega) (fT a b) (0:Int) (λi j=>by
  unfold kcv;simp only;have c:i<((List.range 24).map λn:Nat=>((n:Int),turnF n c123)).length:=by simpa using j
  rw [if_pos (lenI_lt.2 c),kbw c];simp only [jag,List.getElem_map,List.getElem_range];unfold fT;simp only;rw [show ((1,2,3):Cel)=c123 from rfl];split
  ·rfl
  ·simp) (by
  unfold kcv;simp only;rw [if_neg (by simp [kaX])])
 rw [(knz f h).1] at e;replace e:iter _ ((0:Int),(0:Int))=_:=e;rw [e];rfl
theorem krH (a b:Nat) (e:a<24) (g:b<24):kdJ a b=some (compF a b):=by
 unfold kdJ;have h:Nr 400000 (1,0,0):=by unfold Nr; simp
 have f:Nr 400000 (0,1,0):=by unfold Nr; simp
 have c:=koK (F:=kcD a b) (λi=>(i:Int)) 24 (by omega) (fR a b) () (λi j=>by
  unfold kcD;rw [if_pos (by simp; omega),kdI _ h i j,kdI _ h a e,kdI _ f i j,kdI _ f a e,kap (by omega)];simp only [jag];rw [kdI _ (h.turn a) b g,kdI _ (f.turn a) b g];simp only [jag];unfold fR;simp only;split
  ·split <;> rfl
  ·rfl) (by
  unfold kcD;rw [if_neg (by simp)])
 rw [(knz e g).2.1] at c;replace c:iter _ (0:Int)=_:=c;rw [c];rfl
def kbU (b u:Brick):Brick:=
 let v:=turnF u.2.2.1.toNat b.2.1
 (b.1,(w64 (v.1+u.2.1.1),w64 (v.2.1+u.2.1.2.1),w64 (v.2.2+u.2.1.2.2)),IntKind.wrap .u8 (compF b.2.2.1.toNat u.2.2.1.toNat),if b.2.2.2=0 then u.2.2.2 else b.2.2.2)
def BOk (b:Brick):Prop:=Nr 1000 b.2.1/\0<=b.2.2.1/\b.2.2.1<24
def BOkM (M:Int) (b:Brick):Prop:=Nr M b.2.1/\0<=b.2.2.1/\b.2.2.1<24
theorem Or_eq (x y:Int):kbC [x,y]=some (if x=0 then y else x):=by
 unfold kbC;rw [kcz (F:=kbd [x,y]) [x,y] (by simp) (λi x=>if x=0 then none else some x) (λi a=>by
  unfold kbd;rw [if_pos (lenI_lt.2 a),kbw a,kap (by simp at a; omega)];simp only [jag];by_cases h:[x,y][i]=0 <;> simp [h,nextL]) (by unfold kbd; rw [if_neg kaC])]
 by_cases c:x=0 <;> by_cases b:y=0 <;> simp [c,b,endL]
theorem knW (b u:Brick) (m:BOkM 100000 b) (o:BOk u):kbP b u=some (kbU b u)/\keM b u=some (kbU b u):=by
 obtain ⟨hn,n,r⟩:=m;obtain ⟨_,p,l⟩:=o;have e:Nr 400000 b.2.1:=by unfold Nr at *; omega
 obtain ⟨t,f⟩:∃ t:Nat,b.2.2.1=(t:Int):=⟨b.2.2.1.toNat,by omega⟩;obtain ⟨s,g⟩:∃ s:Nat,u.2.2.1=(s:Int):=⟨u.2.2.1.toNat,by omega⟩;have a:s<24:=by omega
 have c:t<24:=by omega
 have j:w64 u.2.2.1=(s:Int):=by rw [kaJ (by omega) (by omega),g]
 have i:w64 b.2.2.1=(t:Int):=by rw [kaJ (by omega) (by omega),f]
 constructor
 ·unfold kbP kfa;rw [j,i,ktJ _ hn s a,ktq t s c a,Or_eq,koF _ (by simp)];have k:wi 0 23 (t:Int)=true:=by rw [kcJ]; omega
  have v:wi 0 23 (s:Int)=true:=by rw [kcJ]; omega
  simp only [jdf,k,v,List.all_nil,Bool.and_true,jei,jak,if_false,jag];unfold kbU;rw [g,f];rfl
 ·unfold keM;rw [j,i,kdI _ e s a,krH t s c a];simp only [jag];unfold kbU;rw [g,f];by_cases h:b.2.2.2=0 <;> simp [h]
theorem ktO {n i:Nat} {l:Line} (h:okRow n i l=true) (h0:0<=l.1):(i:Int)<l.1/\l.1<(n:Int):=by
 unfold okRow at h;simp only [jae] at h;have a:=h.1.1.1;rw [if_neg (by omega)] at a;simp only [jae,kcJ] at a;omega
structure VD (d:List Sub):Prop where
 len:1<=d.length/\d.length<=8
 rows:∀ s∈d,s.2.length<=20
 use:∀ (i:Nat) (s:Sub),d[i]?=some s->∀ l∈s.2,l.1 = -1\/((i:Int)<l.1/\l.1<(d.length:Int))
 bok:∀ s∈d,∀ l∈s.2,BOk l.2
 kc:∀ s∈d,∀ l∈s.2,0<=l.2.1/\l.2.1<=15/\0<=l.2.2.2.2/\l.2.2.2.2<=15
def U8 (d:Ya Sub):Prop:=∀ s∈d,∀ l∈s.2,0<=l.2.2.2.1/\0<=l.2.2.2.2
theorem VD.of {d:Ya Sub} (e:valid d=true) (h0:U8 d):VD d:=by
 unfold valid at e;rw [jae,kcJ,kjm] at e;obtain ⟨g,h2⟩:=e;have row:∀ (i:Nat) (s:Sub),d[i]?=some s->s.2.length<=20/\∀ l∈s.2,okRow d.length i l=true:=λi s a=>by
  have b:=(jac.1 a).1;have:=h2 i b;unfold rowOk at this;rw [a] at this;simp only [Option.all_some,jae,jaj,jao] at this;exact ⟨this.1.2,this.2⟩
 have at_:∀ s∈d,∃ i,d[i]?=some s:=λs a=>by
  obtain ⟨i,b,rfl⟩:=jcm.1 a;exact ⟨i,jab b⟩
 refine ⟨by omega,λs a=>?_,λi s a l hl=>?_,λs a l hl=>?_,λs a l hl=>?_⟩
 ·obtain ⟨i,b⟩:=at_ s a; exact (row i s b).1
 ·have h:=(row i s a).2 l hl;by_cases j:0<=l.1
  ·exact .inr (ktO h j)
  ·left;unfold okRow at h;simp only [jae] at h;have c:=h.1.1.1;by_cases f:l.1 = -1
   ·exact f
   ·rw [if_neg f] at c;simp only [jae,kcJ] at c;omega
 ·obtain ⟨i,b⟩:=at_ s a;have h:=(row i s b).2 l hl;unfold okRow at h;simp only [jae,jdf,List.all_nil,kcJ,jaj] at h;have:=h0 _ a l hl;unfold BOk Nr;omega
 ·obtain ⟨i,b⟩:=at_ s a;have h:=(row i s b).2 l hl;unfold okRow at h;simp only [jae,jaj] at h;have:=h0 _ a l hl;have g:0<=l.2.1/\l.2.1<=15:=by
   have c:=h.1.1.1;split at c
   ·rw [kcJ] at c; omega
   ·simp only [jae,kcJ,beq_iff_eq] at c; omega
  omega
def stF (Y:Nat->Ya Brick×Bool) (a:Ya Brick×Bool) (l:Line):Ya Brick×Bool:=
 if l.1<0 then (a.1++[l.2],a.2) else (a.1++(Y l.1.toNat).1.map (λb=>kbU b l.2),a.2||(Y l.1.toNat).2)
def capF (x:Ya Brick×Bool):Ya Brick×Bool:=if 40<x.1.length then ([],true) else x
def rsF (d:Ya Sub):Nat->Nat->Ya Brick×Bool
 | 0,_=>([],false)
 | f+1,i=>match d[i]? with
  | none=>([],false)
  | some s=>capF (s.2.foldl (stF (rsF d f)) ([],false))
def rs (d:Ya Sub) (i:Nat):Ya Brick×Bool:=rsF d d.length i
theorem kjj {α β:Type} {f g:α->β->α}:∀ {l:Ya β} {a:α},(∀ a,∀ b∈l,f a b=g a b)->l.foldl f a=l.foldl g a
 | [],_,_=>rfl
 | b::l,a,h=>by rw [jed,jed,h a b (by simp)]; exact kjj λa c e=>h a c (by simp [e])
theorem kpM {Y b:Nat->Ya Brick×Bool} {l:Line} (h:0<=l.1->Y l.1.toNat=b l.1.toNat) (a:Ya Brick×Bool):stF Y a l=stF b a l:=by
 unfold stF;split
 ·rfl
 ·rw [h (by omega)]
theorem kqN {d:Ya Sub} (v:VD d):∀ (f b i:Nat),d.length-i<=f->d.length-i<=b->i<d.length->rsF d f i=rsF d b i
 | 0,_,i,h,_,hi=>by omega
 | f+1,0,i,_,h,hi=>by omega
 | f+1,b+1,i,h1,h2,hi=>by
  simp only [rsF,jab hi];congr 1;refine kjj λa l hl=>kpM (λh0=>?_) a;have:=v.use i d[i] (jab hi) l hl;exact kqN v f b l.1.toNat (by omega) (by omega) (by omega)
theorem rs_at {d:Ya Sub} (v:VD d) {i:Nat} {s:Sub} (b:d[i]?=some s):rs d i=capF (s.2.foldl (stF (rs d)) ([],false)):=by
 have c:=(jac.1 b).1;obtain ⟨m,hm⟩:∃ m,d.length=m+1:=⟨d.length-1,by omega⟩;have:rs d i=rsF d (m+1) i:=by unfold rs; rw [hm]
 rw [this];simp only [rsF,b];congr 1;refine kjj λa l hl=>kpM (λh0=>?_) a;have:=v.use i s b l hl;exact kqN v m d.length l.1.toNat (by omega) (by omega) (by omega)
theorem kvn (x:Ya Brick×Bool):(capF x).1.length<=40:=by
 unfold capF; split
 ·exact jel _
 ·omega
theorem keJ (d:Ya Sub) (i:Nat):(rs d i).1.length<=40:=by
 unfold rs;cases d.length with
 | zero=>simp [rsF]
 | succ m=>
  simp only [rsF];split
  ·simp
  ·exact kvn _
theorem krU {a b:Nat} (c:a<24) (e:b<24):0<=compF a b/\compF a b<24:=(knz c e).2.2
theorem knG {x:Int} (h:0<=x/\x<256):IntKind.wrap .u8 x=x:=by
 unfold IntKind.wrap; simp [IntKind.bits,IntKind.signed]; omega
theorem ktl {M:Int} (hM:M<=90000) {b u:Brick} (f:BOkM M b) (e:BOk u):BOkM (M+1000) (kbU b u):=by
 obtain ⟨c,h2,j⟩:=f;obtain ⟨h,g,l⟩:=e;have i:=c.turn u.2.2.1.toNat;have k:=krU (a:=b.2.2.1.toNat) (b:=u.2.2.1.toNat) (by omega) (by omega);unfold BOkM kbU Nr at *
 simp only;rw [knG (by omega)];rw [kaJ (by omega) (by omega),kaJ (by omega) (by omega),kaJ (by omega) (by omega)];omega
theorem BOkM.mono {M a:Int} {b:Brick} (h:BOkM M b) (hM:M<=a):BOkM a b:=by unfold BOkM Nr at *; omega
theorem ksf {d:Ya Sub} (v:VD d):∀ (f i:Nat),f<=80->∀ b∈(rsF d f i).1,BOkM (1000*(f:Int)) b
 | 0,i,_,b,e=>by simp [rsF] at e
 | f+1,i,hf,b,e=>by
  simp only [rsF] at e;split at e
  ·simp at e
  ·rename_i s o;have g:∀ x:Ya Brick×Bool,b∈(capF x).1->b∈x.1:=λx k=>by
    unfold capF at k; split at k
    ·simp at k
    ·exact k
   have n:=g _ e;have key:∀ (ls:Ya Line) (a:Ya Brick×Bool),(∀ l∈ls,l∈s.2)->(∀ b∈a.1,BOkM (1000*((f+1:Nat):Int)) b)->∀ b∈(ls.foldl (stF (rsF d f)) a).1,BOkM (1000*((f+1:Nat):Int)) b:=by
    intro ls;induction ls with
    | nil=>intro a _ m; exact m
    | cons l ls p=>
     intro a j m;refine p _ (λl' h=>j l' (by simp [h])) λb e=>?_;have hl:=v.bok s (jaf o) l (j l (by simp));unfold stF at e;split at e
     ·rcases jbc.1 e with h | h
      ·exact m b h
      ·simp at h; subst h;exact BOkM.mono (M:=1000) hl (by omega)
     ·rcases jbc.1 e with h | h
      ·exact m b h
      ·obtain ⟨c,r,rfl⟩:=jaz.1 h;have:=ktl (by omega) (ksf v f l.1.toNat (by omega) c r) hl;exact this.mono (by omega)
   exact key s.2 _ (λl h=>h) (λb h=>by simp at h) b n
theorem kug {d:Ya Sub} (v:VD d) (i:Nat):∀ b∈(rs d i).1,BOkM 100000 b:=λb a=>by
 have:=ksf v d.length i (by have:=v.len; omega) b a;exact this.mono (by have:=v.len; omega)
def kB (d:Ya Sub) (i:Nat):Ya (Int×Int):=brk d d.length i
def kLn (d:Ya Sub) (l:Line):Ya (Int×Int):=if l.1<0 then [(l.2.1,l.2.2.2.2)] else (kB d l.1.toNat).map λp=>(p.1,orC p.2 l.2.2.2.2)
theorem ksF {d:Ya Sub} (v:VD d):∀ (f a i:Nat),d.length-i<=f->d.length-i<=a->i<d.length->brk d f i=brk d a i
 | 0,_,i,h,_,hi=>by omega
 | f+1,0,i,_,h,hi=>by omega
 | f+1,a+1,i,h1,h2,hi=>by
  simp only [brk,jab hi];refine keq λl hl=>?_;split
  ·rfl
  ·have:=v.use i d[i] (jab hi) l hl;rw [ksF v f a l.1.toNat (by omega) (by omega) (by omega)]
theorem kB_at {d:Ya Sub} (v:VD d) {i:Nat} {s:Sub} (a:d[i]?=some s):kB d i=s.2.flatMap (kLn d):=by
 have b:=(jac.1 a).1;obtain ⟨m,hm⟩:∃ m,d.length=m+1:=⟨d.length-1,by omega⟩;have:kB d i=brk d (m+1) i:=by unfold kB; rw [hm]
 rw [this];simp only [brk,a];refine keq λl hl=>?_;unfold kLn kB;split
 ·rfl
 ·have:=v.use i s a l hl;rw [ksF v m d.length l.1.toNat (by omega) (by omega) (by omega)]
theorem fm_le {α β:Type} {f:α->Ya β} {n:Nat}:∀ {l:Ya α},(∀ a∈l,(f a).length<=n)->(l.flatMap f).length<=n*l.length
 | [],_=>by simp
 | a::l,h=>by
  have e:=fm_le (l:=l) λb c=>h b (by simp [c]);have h2:=h a (by simp);rw [jcv,jau,jcq,Nat.mul_succ];omega
theorem ksK {d:Ya Sub} (v:VD d):∀ (f i:Nat),(brk d f i).length<=20 ^ f
 | 0,i=>by simp [brk]
 | f+1,i=>by
  simp only [brk];split
  ·simp
  ·rename_i s a;have hr:=v.rows s (jaf a);refine jck (fm_le (n:=20 ^ f) λl hl=>?_) ?_
   ·split
    ·simp; exact Nat.pos_of_ne_zero (by simp)
    ·rw [jas]; exact ksK v f _
   ·rw [Nat.pow_succ]; exact Nat.mul_le_mul_left _ hr
theorem kwN {a b:Int} (c:0<=a/\a<=15) (e:0<=b/\b<=15):0<=orC a b/\orC a b<=15:=by unfold orC; split <;> assumption
theorem kss {d:Ya Sub} (v:VD d):∀ (f i:Nat),∀ p∈brk d f i,(0<=p.1/\p.1<=15)/\0<=p.2/\p.2<=15
 | 0,i,p,hp=>by simp [brk] at hp
 | f+1,i,p,hp=>by
  simp only [brk] at hp;split at hp
  ·simp at hp
  ·rename_i s c;obtain ⟨l,hl,hp⟩:=jef.1 hp;have a:=v.kc s (jaf c) l hl;split at hp
   ·simp at hp; subst hp; simp only; omega
   ·obtain ⟨q,b,rfl⟩:=jaz.1 hp;have:=kss v f _ q b;exact ⟨this.1,kwN this.2 ⟨a.2.2.1,a.2.2.2⟩⟩
theorem mem_insK' {p x:Int×Int}:∀ {l:Ya (Int×Int)},x∈insK p l↔x=p\/x∈l
 | []=>by simp [insK]
 | q::r=>by
  simp only [insK];split
  ·simp
  ·split
   ·rename_i h; subst h; simp
   ·simp only [jat,mem_insK' (l:=r)];constructor
    ·rintro (h | h | h)
     ·exact .inr (.inl h)
     ·exact .inl h
     ·exact .inr (.inr h)
    ·rintro (h | h | h)
     ·exact .inr (.inl h)
     ·exact .inl h
     ·exact .inr (.inr h)
theorem mem_setK' {x:Int×Int}:∀ {L:Ya (Int×Int)},x∈setK L↔x∈L
 | []=>by simp [setK]
 | p::r=>by
  show x∈insK p (setK r)↔_;rw [mem_insK',mem_setK' (L:=r),jat]
theorem kLt_iff' {a b:Int×Int}:kLt a b=true↔a.1<b.1\/(a.1=b.1/\a.2<b.2):=by simp [kLt]
theorem insK_sorted' {p:Int×Int}:∀ {l:Ya (Int×Int)},l.Pairwise (λa b=>kLt a b=true)->(insK p l).Pairwise (λa b=>kLt a b=true)
 | [],_=>by simp [insK]
 | q::r,h=>by
  obtain ⟨e,h2⟩:=List.pairwise_cons.1 h;simp only [insK];split
  ·rename_i hp;refine List.pairwise_cons.2 ⟨λx c=>?_,h⟩;rcases jat.1 c with rfl | c
   ·exact hp
   ·have:=e x c;rw [kLt_iff'] at *; omega
  ·rename_i hp;split
   ·exact h
   ·rename_i f;refine List.pairwise_cons.2 ⟨λx c=>?_,insK_sorted' h2⟩;rcases mem_insK'.1 c with rfl | c
    ·rw [kLt_iff'] at hp ⊢;have:x.1≠q.1\/x.2≠q.2:=by
      by_cases e:x.1=q.1
      ·exact .inr λh2=>f (Prod.ext e h2)
      ·exact .inl e
     omega
    ·exact e x c
theorem setK_sorted':∀ (L:Ya (Int×Int)),(setK L).Pairwise (λa b=>kLt a b=true)
 | []=>List.Pairwise.nil
 | p::r=>insK_sorted' (setK_sorted' r)
theorem setK_nodup' (L:Ya (Int×Int)):(setK L).Nodup:=(setK_sorted' L).imp λ{a b} h e=>by subst e; rw [kLt_iff'] at h; omega
theorem koj {L:Ya (Int×Int)} (h:∀ p∈L,(0<=p.1/\p.1<=15)/\0<=p.2/\p.2<=15):(kba L).length<=256:=by
 unfold kba;rw [jas];have hn:((setK L).map λp=>p.1.toNat*16+p.2.toNat).Nodup:=by
  unfold List.Nodup;rw [List.pairwise_map];refine List.Pairwise.imp_of_mem (λ{a b} f g c=>?_) (setK_nodup' L);have k:=h a (mem_setK'.1 f);have h2:=h b (mem_setK'.1 g);intro e;exact c (Prod.ext (by omega) (by omega))
 have:=kku (N:=256) hn (λi j=>by
  obtain ⟨p,hp,rfl⟩:=jaz.1 j;have:=h p (mem_setK'.1 hp);omega)
 rwa [jas] at this
theorem kqW {d:Ya Sub} (v:VD d) (i:Nat):∀ p∈kB d i,(0<=p.1/\p.1<=15)/\0<=p.2/\p.2<=15:=kss v _ i
theorem kxs {d:Ya Sub} (v:VD d) (i:Nat):(kB d i).length<=25600000000:=by
 have h:=ksK v d.length i;have:(20:Nat) ^ d.length<=20 ^ 8:=Nat.pow_le_pow_right (by decide) v.len.2;exact jck h (jck this (by decide))
theorem kvg {d:Ya Sub} (v:VD d):cntOk d=true:=by
 have hl:=v.len;unfold cntOk;simp only [jae,jao,jaj,jba];refine ⟨⟨⟨⟨⟨by omega,by omega⟩,λs a=>by have:=v.rows s a; omega⟩,λx b l hl=>?_⟩,λi _=>?_⟩,?_⟩
 ·obtain ⟨s,i⟩:=x;have a:=jdn.1 b;have:=v.use i s (by simpa using a) l hl;simp only;omega
 ·have:=kxs v i;exact Nat.lt_of_le_of_lt this (by decide)
 ·have:=koj (kqW v 0);exact jck this (by decide)
def cntA (d:Ya Sub):Ya ItemT×Int:=if valid d=true then (kba (kB d 0),0) else ([],8)
theorem ksL (d:Ya Sub) (b:Small d) (h0:U8 d):keV d=some (cntA d):=by
 unfold keV cntA;rw [kpu d b];simp only [jag];by_cases a:valid d=true
 ·rw [if_pos a,if_pos rfl,if_pos (kvg (VD.of a h0)),if_pos a]; rfl
 ·rw [if_neg a,if_neg (by decide),if_neg a]
theorem kvC (d:Ya Sub) (h0:U8 d):(cntA d).1.length<=256:=by
 unfold cntA;split
 ·rename_i a; exact koj (kqW (VD.of a h0) 0)
 ·simp
theorem knS (l:Ya ItemT) (hl:l.length<=100000):kdv l l=some true:=by
 unfold kdv;rw [if_neg (by simp)];rw [kcz (F:=kcr l l) l (by omega) (λi x=>none) (λi a=>by
  unfold kcr;rw [if_pos (lenI_lt.2 a),kbw a,kap (by omega)];simp [nextL]) (by unfold kcr; rw [if_neg kaC])]
 have:∀ l:Ya (ItemT×Nat),endL (l.findSome? λx=>(none:Yb Bool)) = .inr ():=by
  intro l; induction l <;> simp_all [endL]
 rw [this]; rfl
def sumN:Nat->(Nat->Int)->Int
 | 0,_=>0
 | n+1,f=>sumN n f+f n
theorem kdL {f g:Nat->Int}:∀ {n:Nat},(∀ k,k<n->f k=g k)->sumN n f=sumN n g
 | 0,_=>rfl
 | n+1,h=>by simp only [sumN]; rw [kdL λk a=>h k (by omega),h n (by omega)]
theorem kgT {f g:Nat->Int} {j:Nat}:∀ {n:Nat},j<n->(∀ k,k<n->k≠j->g k=f k)->sumN n g=sumN n f+(g j-f j)
 | 0,h,_=>by omega
 | n+1,h,hk=>by
  simp only [sumN];by_cases e:j=n
  ·subst e;rw [kdL λk a=>hk k (by omega) (by omega)]; omega
  ·rw [kgT (n:=n) (by omega) λk b h2=>hk k (by omega) h2,hk n (by omega) (by omega)]; omega
theorem kfo {f:Nat->Int}:∀ {n:Nat},(∀ k,k<n->0<=f k)->0<=sumN n f
 | 0,_=>by simp [sumN]
 | n+1,h=>by have:=kfo (n:=n) λk a=>h k (by omega); have:=h n (by omega); simp only [sumN]; omega
theorem kjD {f:Nat->Int} {j:Nat}:∀ {n:Nat},(∀ k,k<n->0<=f k)->j<n->f j<=sumN n f
 | 0,_,h=>by omega
 | n+1,hp,h=>by
  simp only [sumN];by_cases e:j=n
  ·subst e; have:=kfo (n:=j) λk a=>hp k (by omega); omega
  ·have:=kjD (n:=n) (λk a=>hp k (by omega)) (show j<n by omega);have:=hp n (by omega);omega
theorem kob {f:Nat->Int} {n:Nat} (h:∀ k,k<n->f k=0):sumN n f=0:=by
 induction n with
 | zero=>rfl
 | succ n a=>simp only [sumN]; rw [a λk b=>h k (by omega),h n (by omega)]; rfl
def TT (n:Nat) (U w:Nat->Nat->Int):Int:=sumN n λj=>sumN 16 λc=>U j c*w j c
theorem TT_U {n:Nat} {U U' w:Nat->Nat->Int} {j y:Nat} (l:j<n) (m:y<16) (h:∀ a b,a<n->b<16->¬ (a=j/\b=y)->U' a b=U a b):TT n U' w=TT n U w+(U' j y-U j y)*w j y:=by
 unfold TT;rw [kgT (f:=λj=>sumN 16 λc=>U j c*w j c) l λk e i=>kdL λc o=>by rw [h k c e o (by omega)]];rw [kgT (f:=λc=>U j c*w j c) (g:=λc=>U' j c*w j c) m λk e i=>by rw [h j k l e (by omega)]];have:(U' j y-U j y)*w j y=U' j y*w j y-U j y*w j y:=Int.sub_mul ..;omega
theorem TT_w {n:Nat} {U w w':Nat->Nat->Int} {j y:Nat} (l:j<n) (m:y<16) (h:∀ a b,a<n->b<16->¬ (a=j/\b=y)->w' a b=w a b):TT n U w'=TT n U w+U j y*(w' j y-w j y):=by
 unfold TT;rw [kgT (f:=λj=>sumN 16 λc=>U j c*w j c) l λk e i=>kdL λc o=>by rw [h k c e o (by omega)]];rw [kgT (f:=λc=>U j c*w j c) (g:=λc=>U j c*w' j c) m λk e i=>by rw [h j k l e (by omega)]];have:U j y*(w' j y-w j y)=U j y*w' j y-U j y*w j y:=Int.mul_sub ..;omega
theorem kpL {n:Nat} {U w w':Nat->Nat->Int} (h:∀ a b,a<n->b<16->w' a b=w a b):TT n U w'=TT n U w:=kdL λa c=>kdL λb e=>by rw [h a b c e]
theorem TT_ge {n:Nat} {U w:Nat->Nat->Int} {j y:Nat} (g:j<n) (i:y<16) (hU:∀ a b,a<n->b<16->0<=U a b) (k:∀ a b,a<n->b<16->1<=w a b):U j y<=TT n U w:=by
 have hp:∀ a b,a<n->b<16->0<=U a b*w a b:=λa b h e=>Int.mul_nonneg (hU a b h e) (by have:=k a b h e; omega);have m:U j y*1<=U j y*w j y:=Int.mul_le_mul_of_nonneg_left (k j y g i) (hU j y g i);have h2:=kjD (f:=λc=>U j c*w j c) (n:=16) (λc l=>hp j c g l) i;have o:=kjD (f:=λj=>sumN 16 λc=>U j c*w j c) (n:=n) (λa h=>kfo λb e=>hp a b h e) g;unfold TT;omega
def orN (k:Int) (c:Nat):Nat:=if k=0 then c else k.toNat
def gl (G:Nat->Nat->Int) (c:Nat) (l:Line):Int:=if 0<=l.1 then G l.1.toNat (orN l.2.2.2.2 c) else 0
def Fair (d:Ya Sub) (H G:Nat->Nat->Int):Prop:=∀ (i:Nat) (s:Sub),d[i]?=some s->∀ c,c<16->G i c=H i c+(s.2.map (gl G c)).sum
def wt (H G:Nat->Nat->Int) (i:Nat) (b:Ya Line) (a:Yb (Line×Nat)) (j c:Nat):Int:=
 if j<i then H j c else if i<j then G j c else H i c+(b.map (gl G c)).sum+(match a with | none=>0 | some (l,c0)=>if c<c0 then 0 else gl G c l)
def gF (d:Ya Sub):Nat->Nat->Int
 | 0,_=>1
 | f+1,i=>match d[i]? with
  | none=>1
  | some s=>1+(s.2.map λl=>if 0<=l.1 then gF d f l.1.toNat else 0).sum
theorem kgn {α:Type} {f g:α->Int}:∀ {l:Ya α},(∀ a∈l,f a=g a)->(l.map f).sum=(l.map g).sum
 | [],_=>rfl
 | a::l,h=>by rw [jap,jap,List.sum_cons,List.sum_cons,h a (by simp),kgn λb c=>h b (by simp [c])]
theorem kmm {α:Type} {f:α->Int} {M:Int}:∀ {l:Ya α},(∀ a∈l,0<=f a/\f a<=M)->0<=(l.map f).sum/\(l.map f).sum<=M*l.length
 | [],_=>by simp
 | a::l,h=>by
  have e:=kmm (l:=l) λb c=>h b (by simp [c]);have h2:=h a (by simp);rw [jap,List.sum_cons,jcq];have:M*((l.length+1:Nat):Int)=M*(l.length:Int)+M:=by push_cast; rw [Int.mul_add,Int.mul_one]
  omega
theorem kmT {d:Ya Sub} (v:VD d):∀ (f i:Nat),1<=gF d f i/\gF d f i<=21 ^ f
 | 0,i=>by simp [gF]
 | f+1,i=>by
  have hp:(1:Int)<=21 ^ f:=by have:=kmT v f 0; omega
  simp only [gF];split
  ·refine ⟨jdx _,?_⟩;rw [Int.pow_succ]; omega
  ·rename_i s b;have hr:=v.rows s (jaf b);have:=kmm (f:=λl:Line=>if 0<=l.1 then gF d f l.1.toNat else 0) (M:=21 ^ f) (l:=s.2) λl _=>by
    have:=kmT v f l.1.toNat;split <;> omega
   have a:(21:Int) ^ f*(s.2.length:Int)<=21 ^ f*20:=Int.mul_le_mul_of_nonneg_left (by omega) (by omega);rw [Int.pow_succ];have key:∀ X:Int,0<=X->X<=21 ^ f*(s.2.length:Int)->1<=1+X/\1+X<=21 ^ f*21:=λX c h2=>by omega
   exact key _ this.1 this.2
theorem kse {d:Ya Sub} (v:VD d):∀ (f a i:Nat),d.length-i<=f->d.length-i<=a->i<d.length->gF d f i=gF d a i
 | 0,_,i,h,_,hi=>by omega
 | f+1,0,i,_,h,hi=>by omega
 | f+1,a+1,i,h1,h2,hi=>by
  simp only [gF,jab hi];congr 1;refine kgn λl hl=>?_;split
  ·have:=v.use i d[i] (jab hi) l hl;rw [kse v f a l.1.toNat (by omega) (by omega) (by omega)]
  ·rfl
def gG (d:Ya Sub) (i _:Nat):Int:=gF d d.length i
theorem ksQ {d:Ya Sub} (v:VD d):Fair d (λ_ _=>1) (gG d):=λi s a c _=>by
 have b:=(jac.1 a).1;obtain ⟨m,hm⟩:∃ m,d.length=m+1:=⟨d.length-1,by omega⟩;have:gG d i c=gF d (m+1) i:=by unfold gG; rw [hm]
 rw [this];simp only [gF,a];congr 1;refine kgn λl hl=>?_;unfold gl gG;split
 ·have:=v.use i s a l hl;rw [kse v m d.length l.1.toNat (by omega) (by omega) (by omega)]
 ·rfl
theorem gG_le {d:Ya Sub} (v:VD d):gG d 0 0<=37822859361:=by
 have h:=(kmT v d.length 0).2;have:∀ n,n<=8->(21:Int) ^ n<=37822859361:=by decide
 exact Int.le_trans h (this _ v.len.2)
theorem kvt {d:Ya Sub} (v:VD d) (i:Nat) (a:Ya Line) (b:Yb (Line×Nat)) (j c:Nat):1<=wt (λ_ _=>1) (gG d) i a b j c:=by
 have hg:∀ i c,1<=gG d i c:=λi c=>(kmT v d.length i).1;have hl:∀ l,0<=gl (gG d) c l:=λl=>by
  unfold gl; split
  ·have:=hg l.1.toNat (orN l.2.2.2.2 c); omega
  ·exact jdx _
 have f:∀ a:Ya Line,0<=(a.map (gl (gG d) c)).sum:=λa=>by
  induction a with
  | nil=>simp
  | cons l r k=>rw [jap,List.sum_cons]; have:=hl l; omega
 unfold wt;split
 ·exact jdx _
 ·split
  ·exact hg j c
  ·have:=f a;have g:0<=(match b with | none=>(0:Int) | some (l,e)=>if c<e then 0 else gl (gG d) c l):=by
    split
    ·exact jdx _
    ·rename_i l e;split
     ·exact jdx _
     ·exact hl l
   have key:∀ X Y:Int,0<=X->0<=Y->1<=1+X+Y:=λX Y h h2=>by omega
   exact key _ _ this g
def dirC (s:Sub) (p:Int×Int) (c:Nat):Nat:=s.2.countP λl=>decide (l.1<0)&&decide ((l.2.1,orC l.2.2.2.2 c)=p)
def cH (d:Ya Sub) (p:Int×Int) (i c:Nat):Int:=match d[i]? with | some s=>(dirC s p c:Int) | none=>0
def cG (d:Ya Sub) (p:Int×Int) (i c:Nat):Int:=(cntK ((kB d i).map λq=>(q.1,orC q.2 c)) p:Int)
theorem kwJ (a b c:Int):orC (orC a b) c=orC a (orC b c):=by
 unfold orC; by_cases h:a=0
 ·rw [if_pos h,if_pos h]
 ·rw [if_neg h,if_neg h,if_neg h]
theorem kvm (a b:Ya (Int×Int)) (p:Int×Int):cntK (a++b) p=cntK a p+cntK b p:=@List.count_append _ instBEqOfDecidableEq ..
theorem kvv {d:Ya Sub} (v:VD d) (p:Int×Int):Fair d (cH d p) (cG d p):=λi s f c _=>by
 have a:=v.kc s (jaf f);unfold cH cG;simp only [f];rw [kB_at v f];unfold dirC;generalize s.2=ls at a;induction ls with
 | nil=>simp [cntK]
 | cons l ls k=>
  have k:=k λl' h=>a l' (by simp [h]);have m:=a l (by simp);rw [jcv,jcn,kvm,jap,List.sum_cons,List.countP_cons]
  push_cast
  rw [k];by_cases h0:l.1<0
  ·have g:kLn d l=[(l.2.1,l.2.2.2.2)]:=by unfold kLn; rw [if_pos h0]
   have b:gl (cG d p) c l=0:=by unfold gl; rw [if_neg (by omega)]
   have j:cntK ((kLn d l).map λq=>(q.1,orC q.2 c)) p=if (decide (l.1<0)&&decide ((l.2.1,orC l.2.2.2.2 c)=p))=true then 1 else 0:=by
    rw [g];simp only [jap,jej,h0,decide_true,jeh,jaj];by_cases e:(l.2.1,orC l.2.2.2.2 c)=p
    ·rw [if_pos e]; subst e; simp [cntK]
    ·rw [if_neg e];unfold cntK;rw [@List.count_cons _ instBEqOfDecidableEq];simp [e]
   rw [j,show (gl (λi c=>(cntK ((kB d i).map λq=>(q.1,orC q.2 c)) p:Int)) c l)=0 from b];split <;> simp <;> omega
  ·have g:kLn d l=(kB d l.1.toNat).map λq=>(q.1,orC q.2 l.2.2.2.2):=by unfold kLn; rw [if_neg h0]
   have n:orC l.2.2.2.2 (c:Int)=((orN l.2.2.2.2 c:Nat):Int):=by
    unfold orC orN;split
    ·rfl
    ·omega
   have b:gl (cG d p) c l=(cntK ((kLn d l).map λq=>(q.1,orC q.2 c)) p:Int):=by
    unfold gl cG;rw [if_pos (by omega),g,List.map_map];congr 3;funext q;simp only [Function.comp,kwJ,n]
   have j:(decide (l.1<0)&&decide ((l.2.1,orC l.2.2.2.2 c)=p))=false:=by simp [h0]
   rw [j,show (gl (λi c=>(cntK ((kB d i).map λq=>(q.1,orC q.2 c)) p:Int)) c l)=_ from b];simp;omega
def Uof (u:Ya (Arr 16 Int)) (j c:Nat):Int:=match u[j]? with | some a=>(a.l[c]?).getD 0 | none=>0
structure Inv (d:List Sub) (i:Nat) (rem:List Line) (cur:Option (Line×Nat)) (u:List (Arr 16 Int)):Prop where
 len:u.length=d.length
 nn:∀ j c,0<=Uof u j c
 fair:∀ H G,Fair d H G->TT d.length (Uof u) (wt H G i rem cur)=G 0 0
theorem Inv.le {d:Ya Sub} (v:VD d) {i:Nat} {f:Ya Line} {e:Yb (Line×Nat)} {u:Ya (Arr 16 Int)} (I:Inv d i f e u) {j c:Nat} (g:j<d.length) (h:c<16):Uof u j c<=37822859361:=by
 have k:=I.fair _ _ (ksQ v);have h2:=TT_ge (U:=Uof u) (w:=wt (λ_ _=>1) (gG d) i f e) g h (λa b _ _=>I.nn a b) (λa b _ _=>kvt v i f e a b);have:=gG_le v;omega
theorem Inv.congr {d:Ya Sub} {i k:Nat} {j e:Ya Line} {g c:Yb (Line×Nat)} {u:Ya (Arr 16 Int)} (I:Inv d i j g u) (h:∀ H G,Fair d H G->∀ a b,a<d.length->b<16->wt H G k e c a b=wt H G i j g a b):Inv d k e c u:=
 ⟨I.len,I.nn,λH G f=>(kpL (h H G f)).trans (I.fair H G f)⟩
theorem kwc {a:Arr 16 Int} {c:Nat} (b:c<16):∃ x,a.l[c]?=some x:=⟨a.l[c]'(by rw [a.h]; exact b),jab _⟩
theorem kqT {u:Ya (Arr 16 Int)} {j c:Nat} {a:Arr 16 Int} (b:u[j]?=some a) (e:c<16):garr a (c:Int)=some (Uof u j c):=by
 obtain ⟨x,f⟩:=kwc (a:=a) e;unfold garr Uof;simp only [kbe,f,b,jbw]
theorem kkD {u:Ya (Arr 16 Int)} {j y:Nat} {a:Arr 16 Int} (e:u[j]?=some a) (g:y<16) (x:Int) (b c:Nat):Uof (lset u (j:Int) (aset a (y:Int) x)) b c=if b=j/\c=y then x else Uof u b c:=by
 have f:=(jac.1 e).1;unfold Uof lset aset;simp only [jci];by_cases i:b=j
 ·subst i;rw [jam f,e];simp only;by_cases h2:c=y
  ·subst h2;rw [jam (by rw [a.h]; exact g),if_pos (by simp)]; rfl
  ·rw [jan (by omega),if_neg (by omega)]
 ·rw [jan (by omega),if_neg (by omega)]
theorem kxr {k:Int} {c:Nat} (a:0<=k/\k<=15) (b:c<16):orN k c<16:=by unfold orN; split <;> omega
theorem kwn {d:Ya Sub} (v:VD d) {i:Nat} {s:Sub} (A:d[i]?=some s) {l:Line} (hl:l∈s.2) (h0:0<=l.1) {e:Ya Line} {c:Nat} (t:c<16) {u:Ya (Arr 16 Int)} (I:Inv d i e (some (l,c)) u) (w:Ya (Arr 16 Int)) :
  ∃ D,kbk ((i:Int),w) l ((c:Int),u)=some (.inl (((c+1:Nat):Int),D))/\Inv d i e (some (l,c+1)) D:=by
 have B:=(jac.1 A).1;have Q:=v.use i s A l hl;have M:=(v.kc s (jaf A) l hl).2.2;obtain ⟨j,F⟩:∃ j:Nat,l.1=(j:Int):=⟨l.1.toNat,by omega⟩;have z:i<j:=by omega
 have g:j<d.length:=by omega
 obtain ⟨a,r⟩:∃ a,u[j]?=some a:=⟨u[j]'(by rw [I.len]; exact g),jab _⟩;obtain ⟨b,C⟩:∃ b,u[i]?=some b:=⟨u[i]'(by rw [I.len]; exact B),jab _⟩;have h:=kxr M t;generalize p:orN l.2.2.2.2 c=y at h;have o:(if (l.2.2.2.2 != 0)=true then (some (w64 l.2.2.2.2)) else (some (c:Int)))=some (y:Int):=by
  rw [<-p];unfold orN;by_cases hz:l.2.2.2.2=0
  ·simp [hz]
  ·simp only [bne_iff_ne,ne_eq,hz,not_false_eq_true,if_true,if_false];rw [kaJ (by omega) (by omega)];congr 1; omega
 have b1:=I.le v g h;have b2:=I.le v B t;have n1:=I.nn j y;have R:=I.nn i c;refine ⟨lset u (j:Int) (aset a (y:Int) (Uof u j y+Uof u i c)),?_,?_⟩
 ·unfold kbk;rw [if_pos (by simpa using h0)];simp only;rw [if_pos (by simp; omega),o];simp only [jag,F,kbe,r,C,kqT r h,kqT C t];rw [kap (by omega),kaJ (x:=_+_) (by omega) (by omega)]
 ·refine ⟨by simp [lset,I.len],λK c'=>?_,λH G f=>?_⟩
  ·rw [kkD r h];split
   ·omega
   ·exact I.nn K c'
  ·have N:=I.fair H G f;have E:=TT_U (n:=d.length) (U:=Uof u) (U':=Uof (lset u (j:Int) (aset a (y:Int) (Uof u j y+Uof u i c)))) (w:=wt H G i e (some (l,c+1))) g h (λa' b' _ _ m=>by rw [kkD r h,if_neg m]);rw [kkD r h,if_pos ⟨rfl,rfl⟩] at E;have O:=TT_w (n:=d.length) (U:=Uof u) (w:=wt H G i e (some (l,c))) (w':=wt H G i e (some (l,c+1))) B t (λa' b' _ _ m=>by
    unfold wt;split
    ·rfl
    ·split
     ·rfl
     ·have:a'=i:=by omega
      have L:b'≠c:=by omega
      simp only;congr 1;by_cases k:b'<c
      ·rw [if_pos k,if_pos (by omega)]
      ·rw [if_neg k,if_neg (by omega)])
   have J:wt H G i e (some (l,c+1)) j y=G j y:=by unfold wt; rw [if_neg (by omega),if_pos z]
   have P:wt H G i e (some (l,c+1)) i c-wt H G i e (some (l,c)) i c =-G j y:=by
    unfold wt;rw [if_neg (by omega),if_neg (by omega),if_neg (by omega),if_neg (by omega)];simp only;rw [if_pos (by omega),if_neg (by omega)];have:gl G c l=G j y:=by unfold gl; rw [if_pos h0,p,F]; rfl
    rw [this]; omega
   rw [E,O,J,P,N,Int.mul_neg];have:(Uof u j y+Uof u i c-Uof u j y)*G j y=Uof u i c*G j y:=by congr 1; omega
   rw [this]; omega
theorem kxd {d:Ya Sub} (v:VD d) {i:Nat} {s:Sub} (k:d[i]?=some s) {m:Nat} (hm:m<s.2.length) {u:Ya (Arr 16 Int)} (I:Inv d i (s.2.drop m) none u) (w:Ya (Arr 16 Int)) :
  ∃ h,iter (kbk ((i:Int),w) s.2[m]) (0,u)=some h/\Inv d i (s.2.drop (m+1)) none h:=by
 have e:s.2[m]∈s.2:=jct _;have g:s.2.drop m=s.2[m]::s.2.drop (m+1):=jds hm;rw [g] at I;generalize s.2[m]=l at e I;by_cases h0:0<=l.1
 ·obtain ⟨z,hz,o⟩:=kbW (F:=kbk ((i:Int),w) l) 16 (by omega) (λc u=>Inv d i (s.2.drop (m+1)) (some (l,c)) u) id (λc u p hI=>kwn v k e h0 p hI w) (λu _=>by
   unfold kbk;rw [if_pos (by simpa using h0)];simp only;rw [if_neg (by simp)];rfl) u (I.congr λH G f a b _ _=>by
    unfold wt;simp only [jap,List.sum_cons,Nat.not_lt_zero,if_false];split
    ·rfl
    ·split
     ·rfl
     ·omega)
  refine ⟨z,o,hz.congr λH G f a b _ j=>?_⟩;unfold wt;simp only [j,if_true]
 ·refine ⟨u,?_,I.congr λH G f a b _ _=>?_⟩
  ·have:kbk ((i:Int),w) l (((0:Nat):Int),u)=some (.inr u):=by
    unfold kbk;rw [if_neg (by simpa using h0)]
   exact kdq (n:=1) (kcb (n:=0) this) (by omega)
  ·have hg:gl G b l=0:=by unfold gl; rw [if_neg h0]
   unfold wt;simp only [jap,List.sum_cons,hg];split
   ·rfl
   ·split
    ·rfl
    ·omega
def rws (d:Ya Sub) (i:Nat):Ya Line:=match d[i]? with | some s=>s.2 | none=>[]
theorem kxi {d:Ya Sub} (v:VD d) {i:Nat} (l:i<d.length) {u:Ya (Arr 16 Int)} (I:Inv d i (rws d i) none u) (w:Ya (Arr 16 Int)) :
  ∃ h,iter (kcX d ((i:Int),w)) (0,u)=some h/\Inv d (i+1) (rws d (i+1)) none h:=by
 have e:d[i]?=some d[i]:=jab l;have hr:=v.rows d[i] (jct _);unfold rws at I;rw [e] at I;simp only at I;generalize d[i]=s at e hr I;obtain ⟨z,hz,n⟩:=kbW (F:=kcX d ((i:Int),w)) s.2.length (by omega) (λm u=>Inv d i (s.2.drop m) none u) id (λm u hm hI=>by
  obtain ⟨h,g,h2⟩:=kxd v e hm hI w;refine ⟨h,?_,h2⟩;unfold kcX;simp only [kbe,e,jag];rw [if_pos (lenI_lt.2 hm),jab hm];simp only [jag];rw [g];simp only [jag];rw [kap (by omega)]) (λu _=>by
  unfold kcX;simp only [kbe,e,jag];rw [if_neg kaC];rfl) u (by rw [jcc]; exact I)
 refine ⟨z,n,hz.congr λH G f a b o k=>?_⟩;rw [List.drop_length];unfold wt;simp only [jej,List.sum_nil,Int.add_zero];by_cases g:a<i
 ·rw [if_pos (show a<i+1 by omega),if_pos g]
 ·rw [if_neg g];by_cases h2:a=i
  ·subst h2;rw [if_pos (by omega),if_neg (by omega)]
  ·rw [if_neg (by omega),if_pos (show i<a by omega)];by_cases j:i+1<a
   ·rw [if_pos j]
   ·rw [if_neg j];have:a=i+1:=by omega
    subst this;have c:d[i+1]?=some d[i+1]:=jab o;have:=f (i+1) _ c b k;unfold rws;rw [c];exact this.symm
theorem kxh {d:Ya Sub} (v:VD d) {u:Ya (Arr 16 Int)} (I:Inv d 0 (rws d 0) none u):∃ a,iter (kcI d) (0,u)=some a/\Inv d d.length (rws d d.length) none a:=by
 have f:=v.len;obtain ⟨z,hz,c⟩:=kbW (F:=kcI d) d.length (by omega) (λi u=>Inv d i (rws d i) none u) id (λi u b hI=>by
  obtain ⟨a,e,h2⟩:=kxi v b hI u;refine ⟨a,?_,h2⟩;unfold kcI;simp only;rw [if_pos (lenI_lt.2 b),e];simp only [jag];rw [kap (by omega)]) (λu _=>by
  unfold kcI;simp only;rw [if_neg kaC];rfl) u I
 exact ⟨z,c,hz⟩
theorem kvk {n j c:Nat}:Uof (List.replicate n (amk 16 (0:Int))) j c=0:=by
 unfold Uof;rw [jbq];split
 ·rename_i h;split at h
  ·cases h;simp only [amk,jbq];split <;> rfl
  ·cases h
 ·rfl
theorem kuO {d:Ya Sub} (v:VD d):∃ a,(List.replicate d.length (amk 16 (0:Int)))[0]?=some a/\a=amk 16 0/\Inv d 0 (rws d 0) none (lset (List.replicate d.length (amk 16 0)) 0 (aset a 0 1)):=by
 have m:=v.len;have h:(List.replicate d.length (amk 16 (0:Int)))[0]?=some (amk 16 0):=by rw [jbq,if_pos (by omega)]
 have hU:=λj c=>kkD h (y:=0) (by omega) 1 j c;refine ⟨_,h,rfl,?_⟩;replace hU:∀ j c,Uof (lset (List.replicate d.length (amk 16 0)) 0 (aset (amk 16 0) 0 1)) j c=if j=0/\c=0 then 1 else 0:=λj c=>by
  have:=hU j c;rw [kvk] at this;exact this
 refine ⟨by simp [lset],λj c=>by rw [hU]; split <;> omega,λH G f=>?_⟩;have g:=TT_U (n:=d.length) (U:=λ_ _=>0) (U':=Uof (lset (List.replicate d.length (amk 16 0)) 0 (aset (amk 16 0) 0 1))) (w:=wt H G 0 (rws d 0) none) (j:=0) (y:=0) (by omega) (by omega) (λa b _ _ e=>by rw [hU,if_neg e]);rw [hU,if_pos ⟨rfl,rfl⟩] at g;rw [g];have l:TT d.length (λ_ _=>(0:Int)) (wt H G 0 (rws d 0) none)=0:=kob λk _=>kob λc _=>Int.zero_mul _;rw [l];have i:d[0]?=some (d[0]'(by omega)):=jab _;have:=f 0 _ i 0 (by omega);unfold wt rws;rw [i];simp only [Nat.lt_irrefl,if_false];omega
theorem klC {α:Type} {f:α->α->Bool} (h:∀ a,f a a=true):∀ l:Ya α,((l.zip l).all λp=>f p.1 p.2)=true
 | []=>rfl
 | a::l=>by simp only [List.zip_cons_cons,jdf,h a,klC h l,Bool.and_self]
theorem beqPr (u v:Ty) (x y:(Ty.pr u v).den):Ty.beq (.pr u v) x y=(Ty.beq u x.1 y.1&&Ty.beq v x.2 y.2):=by
 simp only [Ty.beq]
theorem Ty.beq_self:∀ (t:Ty),t.dat=true->∀ x:t.den,t.beq x x=true
 | .i _,_,x=>by simp [Ty.beq]
 | .b,_,x=>by simp [Ty.beq]
 | .s,_,x=>by simp [Ty.beq]
 | .un,_,_=>rfl
 | .pr u v,h,x=>by
  simp only [Ty.dat,jae] at h;rw [beqPr,Ty.beq_self u h.1,Ty.beq_self v h.2]; rfl
 | .w a,h,x=>Ty.beq_self a h x
 | .pt a,h,x=>Ty.beq_self a h x
 | .sl a,h,x=>by
  unfold Ty.beq;simp only [decide_true,jeh];exact klC (α:=a.den) (Ty.beq_self a h) x
 | .op a,h,x=>by
  cases c:(x:Yb a.den) with
  | none=>unfold Ty.beq; rfl
  | some y=>unfold Ty.beq; exact Ty.beq_self a h y
 | .ar _ a,h,x=>by
  unfold Ty.beq;exact klC (α:=a.den) (Ty.beq_self a h) x.l
 | .nt,h,_=>by simp [Ty.dat] at h
 | .sm _ _,h,_=>by simp [Ty.dat] at h
 | .fn _ _ _,h,_=>by simp [Ty.dat] at h
theorem kwp (t:Ty) (a:t.dat=true) {o:Yb (Ya t.den)} {ys:Ya t.den} {e:t.den} (h:o=none\/∃ r,o=some (ys++e::r)):gpre t o ys e=some (ys++[e]):=by
 rcases h with rfl | ⟨r,rfl⟩
 ·rfl
 ·unfold gpre;dsimp only;rw [jcl (jai _)];simp only [Nat.sub_self,jco];rw [if_pos (Ty.beq_self t a e)]
theorem kpN {α β:Type} {f:α->Yb β} {g:α->β}:∀ {l:Ya α},(∀ b∈l,f b=some (g b))->l.mapM f=some (l.map g)
 | [],_=>rfl
 | a::l,h=>by rw [jdq,h a (by simp),kpN λb c=>h b (by simp [c])]; rfl
def bkX (d:Ya Sub):Nat->Ya (Int×Sub)
 | 0=>[]
 | k+1=>(match d[k]? with | some s=>[((k:Int),s)] | none=>[])++bkX d k
theorem kpU {d:Ya Sub} {k:Nat} (a:k<d.length):bkX d (k+1)=((k:Int),d[k])::bkX d k:=by simp [bkX,jab a]
theorem ksd (d:Ya Sub) (l:d.length<=1000) (o:Yb (Ya (Int×Sub))) (g:o=none\/o=some (bkX d d.length)):kan o d=some (bkX d d.length):=by
 have key:∀ (k:Nat) (ys:Ya (Int×Sub)),k<=d.length->ys++bkX d k=bkX d d.length->itN (kat o d) (k+1) ((k:Int)-1,ys)=some (.inr (bkX d d.length)):=by
  intro k;induction k with
  | zero=>
   intro ys _ b;refine kcb ?_;unfold kat;rw [if_neg (by simp)];simp only [bkX,jbg] at b;rw [b]
  | succ k h=>
   intro ys j b;have c:k<d.length:=by omega
   rw [kpU c] at b;have hg:gpre (.pr (.i .i64) tSub) o ys ((k:Int),d[k])=some (ys++[((k:Int),d[k])]):=kwp _ rfl (g.imp id λe=>⟨bkX d k,by rw [e,b]⟩);have a:kat o d (((k+1:Nat):Int)-1,ys)=some (.inl ((k:Int)-1,ys++[((k:Int),d[k])])):=by
    unfold kat;have f:((k+1:Nat):Int)-1=(k:Int):=by omega
    simp only [f];rw [if_pos (by simp)];rw [kbe,jab c];simp only [jag];refine (congrArg (λz=>Option.bind z _) hg).trans ?_;simp only [jag];rw [kaJ (by omega) (by omega)]
   rw [khl a];exact h _ (by omega) (by rw [jax]; exact b)
 unfold kan;rw [kaX,kaJ (by omega) (by omega),kdq (key d.length [] (jai _) (by simp)) (by omega)];rfl
theorem kuo (d:Ya Sub) (a:d.length<=1000):(runI λo=>kan o d)=some (bkX d d.length):=by
 unfold runI;dsimp only;rw [ksd d a none (.inl rfl)];simp only [jag];rw [ksd d a _ (.inr rfl)];simp
theorem kum {d:Ya Sub} (v:VD d) {k:Nat} {R:FlT} {a:Ya Brick×Bool} {s:Sub} (f:d[k]?=some s) (hR:R.length=d.length) (m:R[k]?=some a) (hY:∀ j,k<j->j<d.length->R[j]?=some (rs d j)) {l:Line} (hl:l∈s.2) (e:a.1.length+40<=1000000) :
  kic k R l=some (R.set k (stF (rs d) a l)):=by
 have n:=v.use k s f l hl;have h:=v.bok s (jaf f) l hl;unfold kic;rw [kbe,m];simp only [jag];unfold stF;by_cases h0:l.1<0
 ·rw [if_pos h0,if_pos h0];unfold flPut;rw [if_pos (by simp; omega)];simp [lset]
 ·rw [if_neg h0,if_neg h0,if_neg (by omega)];obtain ⟨j,i⟩:∃ j:Nat,l.1=(j:Int):=⟨l.1.toNat,by omega⟩;rw [i,kbe,hY j (by omega) (by omega)];simp only [jag,jci];rw [kpN (g:=λb=>kbU b l.2) λb c=>(knW b l.2 (kug v j b c) h).1];simp only [jag];have:=keJ d j;unfold flPut;rw [if_pos (by rw [jau,jas]; omega)];simp [lset]
theorem kwK {d:Ya Sub} (a:Ya Brick×Bool) (l:Line):(stF (rs d) a l).1.length<=a.1.length+40:=by
 unfold stF;split
 ·simp
 ·have:=keJ d l.1.toNat;simp only [jau,jas]; omega
theorem kml {d:Ya Sub} (v:VD d) {k:Nat} {s:Sub} (c:d[k]?=some s):∀ (ls:Ya Line) (R:FlT) (a:Ya Brick×Bool),R.length=d.length->R[k]?=some a->(∀ j,k<j->j<d.length->R[j]?=some (rs d j))->(∀ l∈ls,l∈s.2)->a.1.length+40*ls.length<=1000000->
  kdN k ls R=some (R.set k (ls.foldl (stF (rs d)) a))
 | [],R,a,hR,ha,hY,hl,hn=>by
  have:R.set k a=R:=by
   refine jcu λj=>?_;by_cases b:k=j
   ·subst b; rw [jam (jac.1 ha).1,ha]
   ·rw [jan b]
  simp only [kdN,List.foldl_nil,this]
 | l::ls,R,a,hR,ha,hY,hl,hn=>by
  have f:=(jac.1 ha).1;simp only [jcq] at hn;simp only [kdN];rw [kum v c hR ha hY (hl l (by simp)) (by omega)];simp only [jag];have e:=kwK (d:=d) a l;rw [kml v c ls (R.set k (stF (rs d) a l)) (stF (rs d) a l) (by simpa using hR) (jam f) (λj g h2=>by rw [jan (by omega)]; exact hY j g h2) (λl' h=>hl l' (by simp [h])) (by omega)];rw [List.set_set,jed]
def tab (d:Ya Sub) (k:Nat):FlT:=(List.range d.length).map λj=>if k<=j then rs d j else ([],false)
theorem khe {d:Ya Sub} {k j:Nat} (a:j<d.length):(tab d k)[j]?=some (if k<=j then rs d j else ([],false)):=by simp [tab,a]
theorem kvS {d:Ya Sub} {k:Nat} (a:k<d.length):(tab d (k+1)).set k (rs d k)=tab d k:=by
 refine jcu λj=>?_;by_cases b:k=j
 ·subst b;rw [jam (by simpa [tab] using a),khe a,if_pos (jai _)]
 ·rw [jan b];rcases jcg j d.length with h | h
  ·rw [khe h,khe h];by_cases c:k<=j
   ·rw [if_pos c,if_pos (by omega)]
   ·rw [if_neg c,if_neg (by omega)]
  ·rw [jcd (by simpa [tab] using h),jcd (by simpa [tab] using h)]
theorem kla {d:Ya Sub} (v:VD d):∀ k,k<=d.length->kdA (bkX d k) (tab d k)=some (tab d 0)
 | 0,_=>rfl
 | k+1,hk=>by
  have a:k<d.length:=by omega
  have c:d[k]?=some d[k]:=jab a;have hr:=v.rows d[k] (jct _);rw [kpU a];simp only [kdA];have b:kfg (tab d (k+1)) ((k:Int),d[k])=some (tab d k):=by
   unfold kfg;simp only;rw [if_pos (by omega),kml v c d[k].2 (tab d (k+1)) ([],false) (by simp [tab]) (by rw [khe a,if_neg (by omega)]) (λj b h2=>by rw [khe h2,if_pos (by omega)]) (λl h=>h) (by simp; omega)];simp only [jag,kbe];rw [jam (by simpa [tab] using a)];simp only [jag,lset,jci];rw [<-kvS a,rs_at v c];unfold capF;split
   ·rw [List.set_set]
   ·rfl
  rw [b];exact kla v k (by omega)
theorem kuW {d:Ya Sub}:tab d d.length=List.replicate d.length ([],false):=by
 refine jcu λj=>?_;rw [jbq];split
 ·rename_i h; rw [khe h,if_neg (by omega)]
 ·rename_i h; rw [jcd (by simpa [tab] using h)]
def outB (b:Brick):Bool:=!([b.2.1.1,b.2.1.2.1,b.2.1.2.2].all (wi (-1000) 1000))
theorem ktc (c:Int×Int×Int):kce c=some ([c.1,c.2.1,c.2.2].all (wi (-1000) 1000)):=by
 unfold kce;simp only [koc,jag,jdf,List.all_nil,Bool.and_true];cases wi (-1000) 1000 c.1 <;> simp;cases wi (-1000) 1000 c.2.1 <;> simp
theorem kxe (l:Ya Brick) (hl:l.length<=100000):kaj l kaH=some (l.any outB):=by
 have e:∀ b:Brick,kaH b=some (outB b):=λb=>by unfold kaH; rw [krY]; rfl
 unfold kaj kaN;rw [kcz (F:=kay l _) l (by omega) (λi x=>if outB x then some (i:Int) else none) (λi a=>by
  unfold kay;rw [if_pos (by rw [kaX]; simpa using a),kbw a,kap (by omega)];simp only [jag,e];by_cases h:outB l[i]=true <;> simp [h,nextL]) (by unfold kay; rw [if_neg (by simp [kaX])])]
 have:∀ (l:Ya Brick) (k:Nat),endL ((l.zipIdx k).findSome? λx=>if outB x.1 then some (x.2:Int) else none)=(if l.any outB then .inl ((k:Int)+(l.findIdx outB:Nat)) else .inr ()):=by
  intro l;induction l with
  | nil=>intro k; rfl
  | cons x l c=>
   intro k;rw [jbu,jeb,List.any_cons,List.findIdx_cons];cases hp:outB x with
   | true=>simp [endL]
   | false=>
    simp only [jak,if_false,jdg,cond_false];rw [c (k+1)];congr 2; push_cast; omega
 rw [this l 0];by_cases h:l.any outB=true <;> simp [h]
theorem kxn (l:Ya Brick) (hl:l.length<=100000):iter (kbX l) 0=some (if l.any outB=true then .inl ([],11) else .inr ()):=by
 rw [kcz (F:=kbX l) l (by omega) (λi x=>if outB x then some ([],11) else none) (λi a=>by
  unfold kbX;rw [if_pos (lenI_lt.2 a),kbw a,kap (by omega)];simp only [jag,ktc];have:outB l[i] = !([l[i].2.1.1,l[i].2.1.2.1,l[i].2.1.2.2].all (wi (-1000) 1000)):=rfl;rw [<-this];by_cases h:outB l[i]=true <;> simp [h,nextL]) (by unfold kbX; rw [if_neg kaC])]
 have:∀ (l:Ya Brick) (k:Nat),endL ((l.zipIdx k).findSome? λx=>if outB x.1 then some (([],11):Ya Brick×Int) else none)=(if l.any outB then .inl ([],11) else .inr ()):=by
  intro l;induction l with
  | nil=>intro k; rfl
  | cons x l b=>
   intro k;rw [jbu,jeb,List.any_cons];cases hp:outB x with
   | true=>simp [endL]
   | false=>
    simp only [jak,if_false,jdg];exact b (k+1)
 rw [this l 0]
def sz (x:Ya Brick×Bool):Int:=if x.2=true then 41 else (x.1.length:Int)
def szL (d:Ya Sub) (c:Int) (l:Line):Int:=imin (c+(if 0<=l.1 then sz (rs d l.1.toNat) else 1)) 41
structure SzR (c:Int) (a:List Brick×Bool):Prop where
 t:a.2=true->c=41
 f:a.2=false->c=imin (a.1.length:Int) 41
theorem ksA {a b:Int} (h:a<=b):imin a b=a:=by unfold imin; rw [if_neg (by omega)]
theorem keA {a b:Int} (h:b<=a):imin a b=b:=by unfold imin; split <;> omega
theorem kdS (a b:Int):(a<=b/\imin a b=a)\/(b<=a/\imin a b=b):=by
 rcases Int.le_total a b with h | h
 ·exact .inl ⟨h,ksA h⟩
 ·exact .inr ⟨h,keA h⟩
theorem SzR.step {d:Ya Sub} {c:Int} {a:Ya Brick×Bool} (h:SzR c a) (r:0<=c) (l:Line):SzR (szL d c l) (stF (rs d) a l)/\0<=szL d c l/\szL d c l<=41:=by
 have hl:=keJ d l.1.toNat;unfold szL stF;by_cases h0:0<=l.1
 ·rw [if_pos h0,if_neg (by omega)];generalize rs d l.1.toNat=y at hl;obtain ⟨k,o⟩:=y;obtain ⟨m,p⟩:=a;have hL:(m++k.map λb=>kbU b l.2).length=m.length+k.length:=by simp
  cases o with
  | true=>
   have e:sz (k,true)=41:=rfl;simp only [e];have n:imin (c+41) 41=41:=keA (by omega);rw [n];exact ⟨⟨λ_=>rfl,λh=>by simp at h⟩,by omega,by omega⟩
  | false=>
   have e:sz (k,false)=(k.length:Int):=rfl;simp only [e];refine ⟨⟨λj=>?_,λj=>?_⟩,?_,?_⟩
   ·simp only [Bool.or_false] at j;have:=h.t j;simp only at hl;exact keA (by omega)
   ·simp only [Bool.or_false] at j;have:=h.f j;simp only at this hl ⊢;rw [hL];rcases kdS (m.length:Int) 41 with ⟨i,g⟩ | ⟨i,g⟩
    ·rw [this,g]; push_cast; rfl
    ·rw [this,g,keA (by omega),keA (by push_cast; omega)]
   ·rcases kdS (c+(k.length:Int)) 41 with ⟨i,g⟩ | ⟨i,g⟩ <;> rw [g] <;> omega
   ·rcases kdS (c+(k.length:Int)) 41 with ⟨i,g⟩ | ⟨i,g⟩ <;> rw [g] <;> omega
 ·rw [if_neg h0,if_pos (by omega)];refine ⟨⟨λj=>?_,λj=>?_⟩,?_,?_⟩
  ·rw [h.t j]; rfl
  ·rw [h.f j];simp only [jau,jdp];rcases kdS (a.1.length:Int) 41 with ⟨i,g⟩ | ⟨i,g⟩
   ·rw [g]; push_cast; rfl
   ·rw [g,keA (by omega),keA (by push_cast; omega)]
  ·rcases kdS (c+1) 41 with ⟨i,g⟩ | ⟨i,g⟩ <;> rw [g] <;> omega
  ·rcases kdS (c+1) 41 with ⟨i,g⟩ | ⟨i,g⟩ <;> rw [g] <;> omega
theorem SzR.fold {d:Ya Sub}:∀ (ls:Ya Line) {c:Int} {a:Ya Brick×Bool},SzR c a->0<=c->c<=41->SzR (ls.foldl (szL d) c) (ls.foldl (stF (rs d)) a)/\0<=ls.foldl (szL d) c/\ls.foldl (szL d) c<=41
 | [],_,_,h,h0,h1=>⟨h,h0,h1⟩
 | l::ls,c,a,h,h0,h1=>by
  obtain ⟨e,b,f⟩:=h.step (d:=d) h0 l;exact SzR.fold ls e b f
theorem sz_at {d:Ya Sub} (v:VD d) {i:Nat} {s:Sub} (g:d[i]?=some s):s.2.foldl (szL d) 0=sz (rs d i):=by
 obtain ⟨h,_,_⟩:=SzR.fold (d:=d) s.2 (c:=0) (a:=([],false)) ⟨λh=>by simp at h,λ_=>rfl⟩ (by omega) (by omega);rw [rs_at v g];generalize s.2.foldl (stF (rs d)) ([],false)=x at h;obtain ⟨e,xb⟩:=x;unfold capF;by_cases b:40<e.length
 ·rw [if_pos b];cases xb with
  | true=>exact h.t rfl
  | false=>rw [h.f rfl]; exact keA (by simp only; omega)
 ·rw [if_neg b];cases xb with
  | true=>exact h.t rfl
  | false=>rw [h.f rfl]; exact ksA (by simp only; omega)
def szT (d:Ya Sub) (k:Nat):Ya Int:=(List.range d.length).map λj=>if k<=j then sz (rs d j) else 0
theorem kga {d:Ya Sub} {k j:Nat} (a:j<d.length):(szT d k)[j]?=some (if k<=j then sz (rs d j) else 0):=by simp [szT,a]
theorem kvL {d:Ya Sub} {k:Nat} (a:k<d.length):(szT d (k+1)).set k (sz (rs d k))=szT d k:=by
 refine jcu λj=>?_;by_cases b:k=j
 ·subst b;rw [jam (by simpa [szT] using a),kga a,if_pos (jai _)]
 ·rw [jan b];rcases jcg j d.length with h | h
  ·rw [kga h,kga h];by_cases c:k<=j
   ·rw [if_pos c,if_pos (by omega)]
   ·rw [if_neg c,if_neg (by omega)]
  ·rw [jcd (by simpa [szT] using h),jcd (by simpa [szT] using h)]
theorem kvo {d:Ya Sub} (v:VD d) {k:Nat} {s:Sub} (f:d[k]?=some s):iter (kcG d ((k:Int),szT d (k+1))) (0,szT d (k+1))=some (szT d k):=by
 have g:=(jac.1 f).1;have hr:=v.rows s (jaf f);have e:∀ m,0<=(s.2.take m).foldl (szL d) 0/\(s.2.take m).foldl (szL d) 0<=41:=λm=>(SzR.fold (d:=d) (s.2.take m) (c:=0) (a:=([],false)) ⟨λh=>by simp at h,λ_=>rfl⟩ (by omega) (by omega)).2;obtain ⟨z,hz,w⟩:=kbW (F:=kcG d ((k:Int),szT d (k+1))) s.2.length (by omega) (λm o=>o=(szT d (k+1)).set k ((s.2.take m).foldl (szL d) 0)) id (λm o hm n=>by
  subst n;refine ⟨_,?_,rfl⟩;have hl:s.2[m]?=some s.2[m]:=jab hm;have y:=v.use k s f s.2[m] (jct _);have p:=e m;unfold kcG;simp only [kbe,f,jag];rw [if_pos (lenI_lt.2 hm)];simp only [kbe,hl,jag];have b:((szT d (k+1)).set k ((s.2.take m).foldl (szL d) 0))[k]?=some ((s.2.take m).foldl (szL d) 0):=jam (by simpa [szT] using g);rw [jda hm,List.foldl_append,jed,List.foldl_nil];generalize (s.2.take m).foldl (szL d) 0=c at p b ⊢;unfold szL;by_cases h0:0<=s.2[m].1
  ·obtain ⟨j,i⟩:∃ j:Nat,s.2[m].1=(j:Int):=⟨s.2[m].1.toNat,by omega⟩;have r:k<j:=by omega
   have l:j<d.length:=by omega
   have t:0<=sz (rs d j)/\sz (rs d j)<=41:=by
    have:=keJ d j;unfold sz; split <;> omega
   rw [if_pos (by simpa using h0),if_pos h0,i];simp only [kbe,jci];rw [jan (by omega),kga l,if_pos (by omega)];simp only [jag,b];rw [kap (by omega),kaJ (x:=_+_) (by omega) (by omega)];simp [lset]
  ·rw [if_neg (by simpa using h0),if_neg h0];simp only [jag,b];rw [kap (by omega),kaJ (x:=_+_) (by omega) (by omega)];simp [lset]) (λo n=>by
  unfold kcG;simp only [kbe,f,jag];rw [if_neg kaC];rfl) (szT d (k+1)) (by
  simp only [jdj,List.foldl_nil];refine (jcu λj=>?_);by_cases i:k=j
  ·subst i;rw [jam (by simpa [szT] using g),kga g,if_neg (by omega)]
  ·rw [jan i])
 rw [w];rw [List.take_length,sz_at v f,kvL g] at hz;rw [hz]; rfl
theorem kvl {d:Ya Sub} (v:VD d):kfG d=some (szT d 0):=by
 have f:=v.len;have key:∀ (k:Nat),k<=d.length->itN (kcP d) (k+1) ((k:Int)-1,szT d k)=some (szT d 0):=by
  intro k;induction k with
  | zero=>
   intro _;refine kcb ?_;unfold kcP;rw [if_neg (by simp)]
  | succ k e=>
   intro g;have b:k<d.length:=by omega
   have a:kcP d (((k+1:Nat):Int)-1,szT d (k+1))=some (.inl ((k:Int)-1,szT d k)):=by
    unfold kcP;have c:((k+1:Nat):Int)-1=(k:Int):=by omega
    simp only [c];rw [if_pos (by simp),kvo v (jab b)];simp only [jag];rw [kaJ (by omega) (by omega)]
   rw [khl a];exact e (by omega)
 unfold kfG;rw [kaX,kaJ (by omega) (by omega)];have h0:gmk (d.length:Int) (0:Int)=some (szT d d.length):=by
  unfold gmk;rw [if_pos (by omega),jci];congr 1;refine jcu λj=>?_;rw [jbq];split
  ·rename_i h; rw [kga h,if_neg (by omega)]
  ·rename_i h; rw [jcd (by simpa [szT] using h)]
 rw [h0];simp only [jag];rw [kdq (key d.length (jai _)) (by omega)];rfl
def lnF (d:Ya Sub) (l:Line):Ya Brick:=if l.1<0 then [l.2] else (rs d l.1.toNat).1.map λb=>kbU b l.2
theorem kkv {d:Ya Sub}:∀ (ls:Ya Line) (a:Ya Brick×Bool),(ls.foldl (stF (rs d)) a).1=a.1++ls.flatMap (lnF d)
 | [],a=>by simp
 | l::ls,a=>by
  rw [jed,kkv ls,jcv,<-jax];congr 1;unfold stF lnF;split <;> rfl
theorem kmA {d:Ya Sub}:∀ (ls:Ya Line) (a:Ya Brick×Bool),(ls.foldl (stF (rs d)) a).2=(a.2||ls.any λl=>decide (0<=l.1)&&(rs d l.1.toNat).2)
 | [],a=>by simp
 | l::ls,a=>by
  rw [jed,kmA ls,List.any_cons,<-Bool.or_assoc];congr 1;unfold stF;split
  ·rename_i h; have:¬ 0<=l.1:=by omega
   simp [this]
  ·rename_i h; have:0<=l.1:=by omega
   simp [this]
theorem kuJ {d:Ya Sub} (v:VD d) {i:Nat} {s:Sub} (b:d[i]?=some s) (a:(rs d i).2=false):(rs d i).1=s.2.flatMap (lnF d)/\∀ l∈s.2,0<=l.1->(rs d l.1.toNat).2=false:=by
 rw [rs_at v b] at a ⊢;unfold capF at a ⊢;split at a
 ·simp at a
 ·rename_i h;rw [if_neg h];refine ⟨by rw [kkv]; simp,λl hl h0=>?_⟩;rw [kmA] at a;simp only [jdg,List.any_eq_false] at a;have:=a l hl;simpa [h0] using this
theorem kvX (d:Ya Sub) (l:Line):(lnF d l).length<=40:=by
 unfold lnF;split
 ·simp
 ·rw [jas]; exact keJ d _
theorem kwC {α β:Type} {l:Ya α} {f:α->Ya β} {j:Nat} (a:j<l.length):(l.take (j+1)).flatMap f=(l.take j).flatMap f++f l[j]:=by
 rw [jda a,jen]; simp
theorem kki {α β:Type} {f:α->Ya β} {n:Nat} (h:∀ a,(f a).length<=n):∀ l:Ya α,(l.flatMap f).length<=n*l.length
 | []=>by simp
 | a::l=>by
  have b:=kki h l;have h2:=h a;rw [jcv,jau,jcq,Nat.mul_succ];omega
theorem ktM {d:Ya Sub} (v:VD d) {l:Line} (h:BOk l.2) {j:Nat} (a:Ya Brick) (f:a.length<=100000) :
  iter (kcs l (rs d j).1) (0,a)=some (a++(rs d j).1.map λb=>kbU b l.2):=by
 have hl:=keJ d j;have c:=kug v j;generalize (rs d j).1=y at hl c;obtain ⟨z,hz,g⟩:=kbW (F:=kcs l y) y.length (by omega) (λm o=>o=a++(y.take m).map λb=>kbU b l.2) id (λm o hm e=>by
  subst e;refine ⟨_,?_,rfl⟩;unfold kcs;simp only;rw [if_pos (lenI_lt.2 hm),kbe,jab hm];simp only [jag];rw [(knW y[m] l.2 (c _ (jct _)) h).2];simp only [jag];rw [knH (by simp; omega)];simp only [jag];rw [kap (by omega),jda hm,jcn,jax];rfl) (λo e=>by
  unfold kcs;simp only;rw [if_neg kaC];rfl) a (by simp)
 rw [g];rw [List.take_length] at hz;rw [hz]; rfl
theorem koe {d:Ya Sub} (v:VD d):∀ (f i:Nat),d.length-i<=f->i<d.length->(rs d i).2=false->kbv f d (szT d 0) (i:Int)=some (rs d i).1
 | 0,i,h,hi,_=>by omega
 | f+1,i,h,hi,hf=>by
  have e:d[i]?=some d[i]:=jab hi;generalize d[i]=s at e;have hr:=v.rows s (jaf e);obtain ⟨B,h2⟩:=kuJ v e hf;simp only [kbv];unfold kip;obtain ⟨z,hz,D⟩:=kbW (F:=kdu (kbv f) d (szT d 0) (i:Int)) s.2.length (by omega) (λm o=>o=(s.2.take m).flatMap (lnF d)) id (λm o hm A=>by
   subst A;refine ⟨_,?_,rfl⟩;have a:=kki (kvX d) (s.2.take m);rw [jbh] at a;have c:s.2[m]∈s.2:=jct _;have C:=v.use i s e s.2[m] c;have t:=v.bok s (jaf e) s.2[m] c;have r:=h2 s.2[m] c;unfold kdu;simp only [kbe,e,jag];rw [if_pos (lenI_lt.2 hm),jab hm];simp only [jag];rw [kwC hm];generalize s.2[m]=l at C t r;generalize (s.2.take m).flatMap (lnF d)=w at a ⊢;by_cases h0:l.1 = -1
   ·rw [if_pos (by simp [h0]),knH (by simp; omega)];simp only [jag];rw [kap (by omega)];have:lnF d l=[l.2]:=by unfold lnF; rw [if_pos (by omega)]
    rw [this]
   ·rw [if_neg (by simpa using h0)];obtain ⟨j,y⟩:∃ j:Nat,l.1=(j:Int):=⟨l.1.toNat,by omega⟩;have g:j<d.length:=by omega
    have k:(rs d j).2=false:=by have:=r (by omega); rwa [y] at this
    have p:lnF d l=(rs d j).1.map λb=>kbU b l.2:=by unfold lnF; rw [if_neg (by omega),y]; rfl
    rw [y,kbe,kga g,if_pos (jel _)];simp only [jag];have x:sz (rs d j)=((rs d j).1.length:Int):=by unfold sz; rw [if_neg (by rw [k]; decide)]
    rw [x,kap (by omega)];by_cases hz:(rs d j).1.length=0
    ·have n:=jbi hz;rw [if_pos (by simp [hz]),p,n];simp
    ·rw [if_neg (by rw [beq_iff_eq]; omega),koe v f j (by omega) g k];simp only [jag];rw [ktM v t w (by omega)];simp only [jag];rw [p]) (λo A=>by
   unfold kdu;simp only [kbe,e,jag];rw [if_neg kaC];rfl) [] (by simp)
  rw [D];rw [List.take_length] at hz;simp only [jag,id];rw [hz,B]
def flatA (d:Ya Sub):Ya Brick×Int:=if valid d=true then (if (rs d 0).2=true then ([],4) else if (rs d 0).1.any outB=true then ([],11) else ((rs d 0).1,0)) else ([],8)
theorem kpt (d:Ya Sub) (e:Small d) (h0:U8 d):kdy d=some (flatA d):=by
 unfold kdy flatA;rw [kpu d e];simp only [jag];by_cases a:valid d=true
 ·have v:=VD.of a h0;have f:=v.len;rw [if_pos a,if_pos rfl,if_pos (by omega),kuo d (by omega),if_pos a];simp only [jag];rw [<-kuW,kla v d.length (jai _)];simp only [jag];have c:gi (tab d 0) 0=some (rs d 0):=by
   have:=khe (d:=d) (k:=0) (j:=0) (by omega);rw [if_pos (jai _)] at this;exact this
  rw [c];simp only [jag];by_cases b:(rs d 0).2=true
  ·rw [if_pos b,if_pos b]
  ·rw [if_neg b,if_neg b,kxe _ (by have:=keJ d 0; omega)];simp only [jag];split <;> rfl
 ·rw [if_neg a,if_neg (by decide),if_neg a]
theorem krz (d:Ya Sub) (i:Small d) (h0:U8 d):kej d=some (flatA d):=by
 unfold kej flatA;rw [kpy d i];simp only [jag];by_cases e:valid d=true
 ·have v:=VD.of e h0;have l:=v.len;rw [e,if_neg (by decide),if_pos rfl,kvl v];simp only [jag];have f:gi (szT d 0) 0=some (sz (rs d 0)):=by
   have:=kga (d:=d) (k:=0) (j:=0) (by omega);rw [if_pos (jai _)] at this;exact this
  have g:=keJ d 0;rw [f];simp only [jag];cases c:(rs d 0).2 with
  | true=>
   have:sz (rs d 0)=41:=by unfold sz; rw [if_pos c]
   rw [this,if_pos (by decide),if_pos rfl]
  | false=>
   have:sz (rs d 0)=((rs d 0).1.length:Int):=by unfold sz; rw [if_neg (by rw [c]; decide)]
   rw [this,if_neg (by simp; omega),if_neg (by decide)];have h:=koe v 1000000 0 (by omega) (by omega) c;unfold khf;rw [show kbv 1000000 d (szT d 0) 0=_ from h];simp only [jag];rw [kxn _ (by omega)];simp only [jag];by_cases a:(rs d 0).1.any outB=true
   ·rw [if_pos a,if_pos a]
   ·rw [if_neg a,if_neg a]
 ·have b:valid d=false:=by simpa using e
  rw [b,if_pos (by decide),if_neg (by decide)]
theorem ktD (d:Ya Sub):(flatA d).1.length<=40:=by
 unfold flatA;split
 ·split
  ·simp
  ·split
   ·simp
   ·exact keJ d 0
 ·simp
theorem knu (l:Ya Brick) (hl:l.length<=100000):kdw l l=some true:=by
 unfold kdw;rw [if_neg (by simp)];rw [kcz (F:=kco l l) l (by omega) (λi x=>none) (λi a=>by
  unfold kco;rw [if_pos (lenI_lt.2 a),kbw a,kap (by omega)];simp [nextL]) (by unfold kco; rw [if_neg kaC])]
 have:∀ l:Ya (Brick×Nat),endL (l.findSome? λx=>(none:Yb Bool)) = .inr ():=by
  intro l; induction l <;> simp_all [endL]
 rw [this]; rfl
def dirP (p:Int×Int) (c:Nat) (l:Line):Bool:=decide (l.1<0)&&decide ((l.2.1,orC l.2.2.2.2 c)=p)
theorem ktk {d:Ya Sub} (v:VD d) {i:Nat} {s:Sub} (f:d[i]?=some s) (p:Int×Int) (c:Nat):kdm d (i:Int) p.1 p.2 (c:Int)=some (dirC s p c:Int):=by
 have hr:=v.rows s (jaf f);unfold kdm;obtain ⟨z,hz,o⟩:=kbW (F:=kdc d (i:Int) p.1 p.2 (c:Int)) s.2.length (by omega) (λm n=>n=((s.2.take m).countP (dirP p c):Int)) id (λm n hm hn=>by
  subst hn;refine ⟨_,?_,rfl⟩;have k:=v.use i s f s.2[m] (jct _);have g:=List.countP_le_length (p:=dirP p c) (l:=s.2.take m);rw [jbh] at g;unfold kdc;simp only [kbe,f,jag];rw [if_pos (lenI_lt.2 hm),jab hm];simp only [jag];rw [jda hm,List.countP_append,List.countP_singleton];generalize s.2[m]=l at k;have r:(if (l.2.2.2.2==0)=true then (some (c:Int)) else (some l.2.2.2.2))=some (orC l.2.2.2.2 c):=by
   unfold orC;by_cases h:l.2.2.2.2=0 <;> simp [h]
  rw [r];simp only [jag];rw [kap (by omega)];by_cases j:l.1 = -1
  ·have a:l.1<0:=by omega
   rw [if_pos (by simp [j])];by_cases h2:l.2.1=p.1
   ·rw [if_pos (by simp [h2])];by_cases b:orC l.2.2.2.2 c=p.2
    ·have hp:(l.2.1,orC l.2.2.2.2 (c:Int))=p:=Prod.ext h2 b;rw [if_pos (by simp [b]),kap (by omega)];simp [dirP,a,hp]
    ·have hp:¬ (l.2.1,orC l.2.2.2.2 (c:Int))=p:=λe=>b (by rw [<-e]);rw [if_neg (by simp [b])];simp [dirP,a,hp]
   ·have hp:¬ (l.2.1,orC l.2.2.2.2 (c:Int))=p:=λe=>h2 (by rw [<-e]);rw [if_neg (by simp [h2])];simp [dirP,a,hp]
  ·have a:¬ l.1<0:=by omega
   rw [if_neg (by simp [j])];simp [dirP,a]) (λn hn=>by
  unfold kdc;simp only [kbe,f,jag];rw [if_neg kaC];rfl) 0 (by simp)
 rw [o];rw [List.take_length] at hz;simp only [jag,id];rw [hz]; rfl
theorem kkI {f:Nat->Int} {M:Int}:∀ {n:Nat},(∀ k,k<n->0<=f k/\f k<=M)->sumN n f<=M*n
 | 0,_=>by simp [sumN]
 | n+1,h=>by
  have b:=kkI (n:=n) λk a=>h k (by omega);have h2:=h n (by omega);have:M*((n+1:Nat):Int)=M*(n:Int)+M:=by push_cast; rw [Int.mul_add,Int.mul_one]
  simp only [sumN]; omega
theorem kwx {d:Ya Sub} (v:VD d) (p:Int×Int) (i c:Nat):0<=cH d p i c/\cH d p i c<=20:=by
 unfold cH;split
 ·rename_i s a;have hr:=v.rows s (jaf a);have:dirC s p c<=s.2.length:=List.countP_le_length;omega
 ·omega
section
variable {d:Ya Sub} {u:Ya (Arr 16 Int)}
theorem kpY (v:VD d) (I:Inv d d.length (rws d d.length) none u) (p:Int×Int) {i c:Nat} (f:i<d.length) (e:c<16):0<=Uof u i c*cH d p i c/\Uof u i c*cH d p i c<=756457187220:=by
 have a:=I.nn i c;have h2:=I.le v f e;have b:=kwx v p i c;refine ⟨Int.mul_nonneg a b.1,?_⟩;have g:Uof u i c*cH d p i c<=Uof u i c*20:=Int.mul_le_mul_of_nonneg_left b.2 a;omega
theorem L6_eq (v:VD d) (I:Inv d d.length (rws d d.length) none u) (k y:Nat) (t:k<16) (r:y<16) (A B:Ya ItemT) {i:Nat} (h:i<d.length) (n:Int) (hn:0<=n/\n<=1000000000000000) :
  iter (kcL d u ((k:Int),A) ((y:Int),B) ((i:Int),n)) (0,n)=some (n+sumN 16 λc=>Uof u i c*cH d ((k:Int),(y:Int)) i c):=by
 have o:d[i]?=some d[i]:=jab h;obtain ⟨b,j⟩:∃ b,u[i]?=some b:=⟨u[i]'(by rw [I.len]; exact h),jab _⟩;have g:=λc e=>kpY v I ((k:Int),(y:Int)) (i:=i) (c:=c) h e;obtain ⟨z,hz,s⟩:=kbW (F:=kcL d u ((k:Int),A) ((y:Int),B) ((i:Int),n)) 16 (by omega) (λc m=>m=n+sumN c λc=>Uof u i c*cH d ((k:Int),(y:Int)) i c) id (λc m e hm=>by
  subst hm;refine ⟨_,?_,rfl⟩;have hp:=kfo (f:=λc=>Uof u i c*cH d ((k:Int),(y:Int)) i c) (n:=c) λa p=>(g a (by omega)).1;have hl:=kkI (f:=λc=>Uof u i c*cH d ((k:Int),(y:Int)) i c) (M:=756457187220) (n:=c) λa p=>g a (by omega);have w:=g c e;unfold kcL;simp only;rw [if_pos (by simp; omega)];simp only [kbe,j,jag,kqT j e];have l:∀ a:Nat,a<16->IntKind.wrap .u8 (a:Int)=(a:Int):=λa p=>knG (by omega);rw [l y r,l c e,show kdm d (i:Int) (k:Int) (y:Int) (c:Int)=_ from ktk v o ((k:Int),(y:Int)) c];simp only [jag];have hH:cH d ((k:Int),(y:Int)) i c=(dirC d[i] ((k:Int),(y:Int)) c:Int):=by unfold cH; rw [o]
  rw [<-hH,kap (by omega),kaJ (x:=Uof u i c*_) (by omega) (by omega),kaJ (x:=_+_) (by omega) (by omega)];simp only [sumN];rw [Int.add_assoc]) (λm hm=>by
  unfold kcL;simp only;rw [if_neg (by simp)];rfl) n (by simp [sumN])
 rw [s,hz]; rfl
theorem L5_eq (v:VD d) (I:Inv d d.length (rws d d.length) none u) (k y:Nat) (p:k<16) (s:y<16) (A B:Ya ItemT) :
  iter (kcM d u ((k:Int),A) ((y:Int),B)) (0,0)=some (cntK (kB d 0) ((k:Int),(y:Int)):Int):=by
 have D:=v.len;have o:=λi c e C=>kpY v I ((k:Int),(y:Int)) (i:=i) (c:=c) e C;have j:∀ i,i<d.length->0<=sumN 16 (λc=>Uof u i c*cH d ((k:Int),(y:Int)) i c)/\sumN 16 (λc=>Uof u i c*cH d ((k:Int),(y:Int)) i c)<=12103314995520:=λi e=>by
  have E:=kfo (f:=λc=>Uof u i c*cH d ((k:Int),(y:Int)) i c) (n:=16) λa g=>(o i a e g).1;have h2:=kkI (f:=λc=>Uof u i c*cH d ((k:Int),(y:Int)) i c) (M:=756457187220) (n:=16) λa g=>o i a e g;omega
 obtain ⟨z,hz,x⟩:=kbW (F:=kcM d u ((k:Int),A) ((y:Int),B)) d.length (by omega) (λi m=>m=sumN i λi=>sumN 16 λc=>Uof u i c*cH d ((k:Int),(y:Int)) i c) id (λi m e hm=>by
  subst hm;refine ⟨_,?_,rfl⟩;have hp:=kfo (f:=λi=>sumN 16 λc=>Uof u i c*cH d ((k:Int),(y:Int)) i c) (n:=i) λa g=>(j a (by omega)).1;have hl:=kkI (f:=λi=>sumN 16 λc=>Uof u i c*cH d ((k:Int),(y:Int)) i c) (M:=12103314995520) (n:=i) λa g=>j a (by omega);unfold kcM;simp only;rw [if_pos (lenI_lt.2 e),L6_eq v I k y p s A B e _ (by omega)];simp only [jag];rw [kap (by omega)];rfl) (λm hm=>by
  unfold kcM;simp only;rw [if_neg kaC];rfl) 0 rfl
 rw [x,hz];have l:=I.fair _ _ (kvv v ((k:Int),(y:Int)));have t:TT d.length (Uof u) (wt (cH d ((k:Int),(y:Int))) (cG d ((k:Int),(y:Int))) d.length (rws d d.length) none)=TT d.length (Uof u) (cH d ((k:Int),(y:Int))):=kpL λa b g _=>by unfold wt; rw [if_pos g]
 rw [t] at l;have r:(kB d 0).map (λq=>(q.1,orC q.2 ((0:Nat):Int)))=kB d 0:=by
  have:∀ q:Int×Int,(q.1,orC q.2 ((0:Nat):Int))=q:=λq=>by
   unfold orC;split
   ·rename_i h; exact Prod.ext rfl h.symm
   ·rfl
  simp only [this,List.map_id']
 have w:cG d ((k:Int),(y:Int)) 0 0=(cntK (kB d 0) ((k:Int),(y:Int)):Int):=by unfold cG; rw [r]
 rw [w] at l;exact congrArg some l
def entK (L:Ya (Int×Int)) (k y:Nat):Ya ItemT:=if 0<cntK L ((k:Int),(y:Int)) then [((k:Int),(y:Int),(cntK L ((k:Int),(y:Int)):Int))] else []
theorem kpJ (L:Ya (Int×Int)) (k y:Nat):(entK L k y).length<=1:=by unfold entK; split <;> simp
theorem kra {β:Type} {f:Nat->Ya β} (m:Nat):(List.range (m+1)).flatMap f=(List.range m).flatMap f++f m:=by rw [List.range_succ,jen]; simp
theorem L4_eq (v:VD d) (I:Inv d d.length (rws d d.length) none u) (k:Nat) (b:k<16) (A:Ya ItemT) (hA:A.length<=1000) :
  iter (kcR d u ((k:Int),A)) (0,A)=some (A++(List.range 16).flatMap (entK (kB d 0) k)):=by
 obtain ⟨z,hz,c⟩:=kbW (F:=kcR d u ((k:Int),A)) 16 (by omega) (λy m=>m=A++(List.range y).flatMap (entK (kB d 0) k)) id (λy m e hm=>by
  subst hm;refine ⟨_,?_,rfl⟩;have a:((List.range y).flatMap (entK (kB d 0) k)).length<=y:=by
   have:=kki (kpJ (kB d 0) k) (List.range y);simpa using this
  unfold kcR;simp only;rw [if_pos (by simp; omega),L5_eq v I k y b e];simp only [jag];rw [kap (by omega),kra y,knG (by omega),show entK (kB d 0) k y=(if 0<cntK (kB d 0) ((k:Int),(y:Int)) then [((k:Int),(y:Int),(cntK (kB d 0) ((k:Int),(y:Int)):Int))] else []) from rfl];by_cases h:0<cntK (kB d 0) ((k:Int),(y:Int))
  ·rw [if_pos (by simp only [jaj]; omega),if_pos h];rw [knH (by rw [jau,jdp]; omega)];simp only [jag,jax]
  ·rw [if_neg (by simp only [jaj]; omega),if_neg h];simp) (λm hm=>by
  unfold kcR;simp only;rw [if_neg (by simp)];rfl) A (by simp)
 rw [c,hz]; rfl
theorem L3_eq (v:VD d) (I:Inv d d.length (rws d d.length) none u) :
  iter (kcY d u) (0,[])=some ((List.range 16).flatMap λk=>(List.range 16).flatMap (entK (kB d 0) k)):=by
 obtain ⟨z,hz,c⟩:=kbW (F:=kcY d u) 16 (by omega) (λk m=>m=(List.range k).flatMap λk=>(List.range 16).flatMap (entK (kB d 0) k)) id (λk m b hm=>by
  subst hm;refine ⟨_,?_,rfl⟩;have e:∀ k,((List.range 16).flatMap (entK (kB d 0) k)).length<=16:=λk=>by
   have:=kki (kpJ (kB d 0) k) (List.range 16);simpa using this
  have a:=kki e (List.range k);rw [List.length_range] at a;unfold kcY;simp only;rw [if_pos (by simp; omega),L4_eq v I k b _ (by omega)];simp only [jag];rw [kap (by omega),kra k]) (λm hm=>by
  unfold kcY;simp only;rw [if_neg (by simp)];rfl) [] (by simp)
 rw [c,hz]; rfl
end
def P16:Ya (Int×Int):=(List.range 16).flatMap λk:Nat=>(List.range 16).map λy:Nat=>((k:Int),(y:Int))
theorem P16_sorted:P16.Pairwise (λa b=>kLt a b=true):=by decide +kernel
theorem kwf {p:Int×Int} (h:(0<=p.1/\p.1<=15)/\0<=p.2/\p.2<=15):p∈P16:=by
 refine jef.2 ⟨p.1.toNat,jcp.2 (by omega),jaz.2 ⟨p.2.toNat,jcp.2 (by omega),?_⟩⟩;exact Prod.ext (by simp; omega) (by simp; omega)
theorem ktz {a b:Ya (Int×Int)} (c:a.Pairwise (λa b=>kLt a b=true)) (f:b.Pairwise (λa b=>kLt a b=true)) (h:∀ p,p∈a↔p∈b):a=b:=by
 have nd:∀ {l:Ya (Int×Int)},l.Pairwise (λa b=>kLt a b=true)->l.Nodup:=λhl=>hl.imp λ{a b} h e=>by subst e; rw [kLt_iff'] at h; omega
 refine ((List.perm_ext_iff_of_nodup (nd c) (nd f)).2 h).eq_of_pairwise (le:=λa b=>kLt a b=true) (λx y _ _ g h2=>?_) c f;rw [kLt_iff'] at g h2; omega
theorem ktR {L:Ya (Int×Int)} (h:∀ p∈L,(0<=p.1/\p.1<=15)/\0<=p.2/\p.2<=15):((List.range 16).flatMap λk=>(List.range 16).flatMap (entK L k))=kba L:=by
 have a:∀ p,0<cntK L p↔p∈L:=λp=>@List.count_pos_iff _ instBEqOfDecidableEq inferInstance _ _;have b:setK L=P16.filter λp=>decide (0<cntK L p):=ktz (setK_sorted' L) (P16_sorted.filter _) λp=>by
  rw [mem_setK',jdo,jaj,a];exact ⟨λhp=>⟨kwf (h p hp),hp⟩,λhp=>hp.2⟩
 unfold kba;rw [b];unfold P16;rw [List.filter_flatMap,List.map_flatMap];refine keq λk _=>?_;rw [List.filter_map,List.map_map];generalize List.range 16=r;induction r with
 | nil=>rfl
 | cons y r c=>
  rw [jcv,c,List.filter_cons];unfold entK;by_cases hp:0<cntK L ((k:Int),(y:Int))
  ·rw [if_pos hp,if_pos (by simpa using hp)]; rfl
  ·rw [if_neg hp,if_neg (by simpa using hp)]; rfl
theorem kts (d:Ya Sub) (h:Small d) (h0:U8 d):kfz d=some (cntA d):=by
 unfold kfz cntA;rw [kpy d h];simp only [jag];by_cases c:valid d=true
 ·have v:=VD.of c h0;have j:=v.len;obtain ⟨a,f,rfl,I⟩:=kuO v;obtain ⟨u,g,i⟩:=kxh v I;have hg:gmk (lenI d) (amk 16 (0:Int))=some (List.replicate d.length (amk 16 0)):=by
   unfold gmk; rw [kaX,if_pos (by omega),jci]
  have e:garr (amk 16 (0:Int)) 0=some 0:=rfl;rw [c,if_neg (by decide),if_pos rfl,hg];simp only [jag];rw [show gi (List.replicate d.length (amk 16 (0:Int))) 0=some (amk 16 0) from f];simp only [jag,e];rw [g];simp only [jag];rw [L3_eq v i,ktR (kqW v 0)];rfl
 ·have b:valid d=false:=by simpa using c
  rw [b,if_pos (by decide),if_neg (by decide)]
theorem law02_TextFlattens_eq (d:Ya Sub) (h0:U8 d):kdD d=some true:=by
 unfold kdD;obtain ⟨b,e,c⟩:=kuR d;rw [e];cases b with
 | true=>rfl
 | false=>
  have a:=c rfl;simp only [jag,jak,if_false];rw [kpt d a h0,krz d a h0,ksL d a h0,kts d a h0];simp only [jag];rw [knu _ (by have:=ktD d; omega),knS _ (by have:=kvC d h0; omega)];simp
end Go.Abs
