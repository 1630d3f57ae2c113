/- The functions and the law, part 9. -/
import Derived.Test.YtpjlpghgmjlbbaaGreatZ6
import Derived.Test.YtpjlpghgmjlbbaaGreatS8
set_option linter.constructorNameAsVariable false
set_option linter.unusedVariables false
set_option linter.unusedSimpArgs false
set_option linter.unusedSectionVars false
namespace Go.Abs.Fl
open Go Go.Abs
def sumN (f:Nat->Int):Nat->Int
 | 0=>0
 | n+1=>sumN f n+f n
theorem kap {f g:Nat->Int}:∀ {n:Nat},(∀ i,i<n->f i=g i)->sumN f n=sumN g n
 | 0,_=>rfl
 | n+1,h=>by simp only [sumN]; rw [kap λi hi=>h i (by omega),h n (by omega)]
theorem keM {f:Nat->Int}:∀ {n:Nat},(∀ i,i<n->0<=f i)->0<=sumN f n
 | 0,_=>jcq 0
 | n+1,h=>by
  have:=keM (f:=f) (n:=n) λi hi=>h i (by omega);have:=h n (by omega);simp only [sumN]; omega
theorem koB {f:Nat->Int}:∀ {n:Nat},(∀ i,i<n->0<=f i)->sumN f n<=0->∀ i,i<n->f i=0
 | 0,_,_,i,hi=>by omega
 | n+1,h,e,i,hi=>by
  have a:=keM (f:=f) (n:=n) λi hi=>h i (by omega);have h2:=h n (by omega);simp only [sumN] at e;by_cases hn:i=n
  ·subst hn; show f i=0; omega
  ·exact koB (f:=f) (n:=n) (λi hi=>h i (by omega)) (by omega) i (by omega)
theorem kqw (f g:Nat->Int):∀ n:Nat,sumN (λi=>f i+g i) n=sumN f n+sumN g n
 | 0=>rfl
 | n+1=>by simp only [sumN]; rw [kqw f g n]; omega
theorem kfi (f g:Nat->Int):∀ n:Nat,sumN (λi=>f i-g i) n=sumN f n-sumN g n
 | 0=>rfl
 | n+1=>by simp only [sumN]; rw [kfi f g n]; omega
theorem keL:∀ n:Nat,sumN (λ_=>0) n=0
 | 0=>rfl
 | n+1=>by simp only [sumN]; rw [keL n]; rfl
theorem ktd (f:Nat->Nat->Int) (m:Nat):∀ n:Nat,sumN (λi=>sumN (f i) m) n=sumN (λj=>sumN (λi=>f i j) n) m
 | 0=>by simp only [sumN]; rw [keL]
 | n+1=>by simp only [sumN]; rw [ktd f m n,<-kqw]
theorem kzz (b:Bool) (f:Nat->Int) (n:Nat):(if b=true then sumN f n else 0)=sumN (λi=>if b=true then f i else 0) n:=by
 cases b
 ·simp [keL]
 ·simp
theorem kfj {f g:Nat->Int} {i:Nat} {d:Int} (h:g i=f i+d):∀ {n:Nat},i<n->(∀ j,j<n->j≠i->g j=f j)->sumN g n=sumN f n+d
 | 0,hi,_=>by omega
 | n+1,hi,ho=>by
  simp only [sumN];by_cases e:i=n
  ·subst e;rw [kap (f:=g) (g:=f) λj a=>ho j (by omega) (by omega),h]; omega
  ·rw [kfj h (n:=n) (by omega) λj a hn=>ho j (by omega) hn,ho n (by omega) (by omega)]; omega
theorem kuA {f:Nat->Int}:∀ {n:Nat},(∀ i,i<n->0<=f i)->∀ {i:Nat},i<n->f i<=sumN f n
 | 0,_,i,hi=>by omega
 | n+1,h,i,hi=>by
  have a:=keM (f:=f) (n:=n) λi hi=>h i (by omega);have h2:=h n (by omega);simp only [sumN];by_cases hn:i=n
  ·subst hn; omega
  ·have:=kuA (λi hi=>h i (by omega)) (n:=n) (i:=i) (by omega); omega
section
variable (n m:Nat) (cap:Nat->Int) (may:Nat->Nat->Prop)
structure Val (u:Nat->Nat->Int) (l:Nat->Int):Prop where
 nn:∀ k,k<n->∀ j,j<m->0<=u k j
 ok:∀ k,k<n->∀ j,j<m->0<u k j->may k j
 ln:∀ j,j<m->0<=l j
 bal:∀ j,j<m->l j+sumN (λk=>u k j) n=cap j
structure Sat (u:Nat->Nat->Int) (l:Nat->Int) (S:Nat->Bool):Prop where
 z:∀ k,k<n->S k=true->∀ j,j<m->may k j->l j=0
 c:∀ k,k<n->S k=true->∀ j,j<m->may k j->∀ k',k'<n->0<u k' j->S k'=true
end
def row (m:Nat) (u:Nat->Nat->Int) (k:Nat):Int:=sumN (u k) m
variable {n m:Nat} {cap:Nat->Int} {may:Nat->Nat->Prop} {u u':Nat->Nat->Int} {l l':Nat->Int} {S T:Nat->Bool}
theorem kpd (v:Val n m cap may u l) (hT:∀ k,k<n->S k=true->∀ j,j<m->may k j->T j=true) :
  sumN (λk=>if S k=true then row m u k else 0) n=sumN (λj=>if T j=true then sumN (λk=>if S k=true then u k j else 0) n else 0) m:=by
 rw [kap (f:=λk=>if S k=true then row m u k else 0) (g:=λk=>sumN (λj=>if S k=true then u k j else 0) m) λk a=>kzz (S k) (u k) m];rw [ktd];apply kap;intro j b;by_cases t:T j=true
 ·rw [if_pos t]
 ·rw [if_neg t,kap (g:=λ_=>0) λk a=>?_,keL];by_cases s:S k=true
  ·rw [if_pos s];by_cases hp:0<u k j
   ·exact absurd (hT k a s j b (v.ok k a j b hp)) t
   ·have:=v.nn k a j b; omega
  ·rw [if_neg s]
theorem kqH (v:Val n m cap may u l) (g:Val n m cap may u' l') (s:Sat n m may u l S) (h:∀ k,k<n->S k=true->row m u k<=row m u' k) :
  Sat n m may u' l' S/\∀ k,k<n->S k=true->row m u k=row m u' k:=by
 classical
 obtain ⟨T,hT⟩:∃ T:Nat->Bool,∀ j,T j=true↔∃ k,k<n/\S k=true/\may k j:=⟨λj=>decide (∃ k,k<n/\S k=true/\may k j),λj=>by simp⟩;have hT1:∀ k,k<n->S k=true->∀ j,j<m->may k j->T j=true:=λk b hs j _ hm=>(hT j).2 ⟨k,b,hs,hm⟩;have F:=kpd v hT1;have D:=kpd g hT1;have A:sumN (λj=>if T j=true then sumN (λk=>if S k=true then u k j else 0) n else 0) m=sumN (λj=>if T j=true then cap j else 0) m:=by
  apply kap;intro j a;by_cases t:T j=true
  ·rw [if_pos t,if_pos t];obtain ⟨k,b,hs,hm⟩:=(hT j).1 t;rw [<-v.bal j a,s.z k b hs j a hm,Int.zero_add];apply kap;intro o e;by_cases s':S o=true
   ·rw [if_pos s']
   ·rw [if_neg s'];by_cases hp:0<u o j
    ·exact absurd (s.c k b hs j a hm o e hp) s'
    ·have:=v.nn o e j a; omega
  ·rw [if_neg t,if_neg t]
 have E:sumN (λj=>if T j=true then sumN (λk=>if S k=true then u' k j else 0) n else 0) m
   = sumN (λj=>if T j=true then cap j else 0) m-sumN (λj=>if T j=true then l' j+sumN (λk=>if S k=true then 0 else u' k j) n else 0) m:=by
  rw [<-kfi];apply kap;intro j a;by_cases t:T j=true
  ·simp only [if_pos t];rw [<-g.bal j a];have:sumN (λk=>u' k j) n=sumN (λk=>if S k=true then u' k j else 0) n+sumN (λk=>if S k=true then 0 else u' k j) n:=by
    rw [<-kqw];apply kap;intro k b;by_cases s':S k=true
    ·simp [s']
    ·simp [s']
   omega
  ·simp only [if_neg t]; rfl
 have nB:∀ j,j<m->0<=(if T j=true then l' j+sumN (λk=>if S k=true then 0 else u' k j) n else 0):=by
  intro j a;split
  ·have w:=g.ln j a;have h2:=keM (f:=λk=>if S k=true then 0 else u' k j) (n:=n) λk b=>by
    show 0<=if S k=true then 0 else u' k j;split
    ·omega
    ·exact g.nn k b j a
   omega
  ·omega
 have nA:∀ k,k<n->0<=(if S k=true then row m u' k else 0)-(if S k=true then row m u k else 0):=by
  intro k b;by_cases s':S k=true
  ·simp only [if_pos s']; have:=h k b s'; omega
  ·simp only [if_neg s']; omega
 have sA:=keM nA;have sB:=keM nB;have C:=kfi (λk=>if S k=true then row m u' k else 0) (λk=>if S k=true then row m u k else 0) n;have zA:=koB nA (by omega);have zB:=koB nB (by omega);refine ⟨⟨?_,?_⟩,?_⟩
 ·intro k b hs j a hm;have:=zB j a;rw [if_pos (hT1 k b hs j a hm)] at this;have w:=g.ln j a;have h2:=keM (f:=λk=>if S k=true then 0 else u' k j) (n:=n) λk b=>by
   show 0<=if S k=true then 0 else u' k j;split
   ·omega
   ·exact g.nn k b j a
  omega
 ·intro k b hs j a hm o e hp;have:=zB j a;rw [if_pos (hT1 k b hs j a hm)] at this;have w:=g.ln j a;have p:∀ k,k<n->0<=(λk=>if S k=true then 0 else u' k j) k:=λk b=>by
   show 0<=if S k=true then 0 else u' k j;split
   ·omega
   ·exact g.nn k b j a
  have h2:=keM p;have y:=koB p (by omega) o e;by_cases s':S o=true
  ·exact s'
  ·simp only [if_neg s'] at y; omega
 ·intro k b hs;have:=zA k b;simp only [if_pos hs] at this; omega
theorem kwQ (v:Val n m cap may u l) (a:Val n m cap may u' l') (s:Sat n m may u l S) {i:Nat} (hi:i<n) (hs:S i=true) (h:∀ k,k<n->k≠i->row m u k<=row m u' k):row m u' i<=row m u i:=by
 by_cases c:row m u' i<=row m u i
 ·exact c
 ·have:=(kqH v a s λk b hS=>by
   by_cases e:k=i
   ·subst e; omega
   ·exact h k b e).2 i hi hs
  omega
theorem Val.take (v:Val n m cap may u l) {i j:Nat} {d:Int} (hi:i<n) (t:j<m) (hm:may i j) (y:0<=d) (hl:d<=l j)
  (w:l' j=l j-d) (h2:u' i j=u i j+d) (p:∀ b,b<m->b≠j->l' b=l b) (o:∀ k,k<n->∀ b,b<m->¬ (k=i/\b=j)->u' k b=u k b) :
  Val n m cap may u' l'/\row m u' i=row m u i+d/\∀ k,k<n->k≠i->row m u' k=row m u k:=by
 refine ⟨⟨?_,?_,?_,?_⟩,?_,?_⟩
 ·intro k c b a;by_cases e:k=i/\b=j
  ·obtain ⟨rfl,rfl⟩:=e; rw [h2]; have:=v.nn k c b a; omega
  ·rw [o k c b a e]; exact v.nn k c b a
 ·intro k c b a hp;by_cases e:k=i/\b=j
  ·obtain ⟨rfl,rfl⟩:=e; exact hm
  ·rw [o k c b a e] at hp; exact v.ok k c b a hp
 ·intro b a;by_cases e:b=j
  ·subst e; omega
  ·rw [p b a e]; exact v.ln b a
 ·intro b a;by_cases e:b=j
  ·subst e;rw [<-v.bal b a,w,kfj (f:=λk=>u k b) (g:=λk=>u' k b) (i:=i) (d:=d) h2 hi λk c hn=>o k c b a (by omega)]; omega
  ·rw [<-v.bal b a,p b a e,kap λk c=>o k c b a (by omega)]
 ·exact kfj h2 t λb a hn=>o i hi b a (by omega)
 ·intro k c hn;exact kap λb a=>o k c b a (by omega)
theorem Val.swap (v:Val n m cap may u l) {i k j:Nat} {d:Int} (hi:i<n) (C:k<n) (z:j<m) (hm:may i j) (G:0<=d) (hl:d<=u k j) (D:k≠i)
  (F:u' k j=u k j-d) (h2:u' i j=u i j+d) (t:∀ p,p<n->∀ c,c<m->¬ (p=i/\c=j)->¬ (p=k/\c=j)->u' p c=u p c) :
  Val n m cap may u' l/\row m u' i=row m u i+d/\row m u' k=row m u k-d/\∀ p,p<n->p≠i->p≠k->row m u' p=row m u p:=by
 refine ⟨⟨?_,?_,v.ln,?_⟩,?_,?_,?_⟩
 ·intro a o c b;by_cases e:a=i/\c=j
  ·obtain ⟨rfl,rfl⟩:=e; rw [h2]; have:=v.nn a o c b; omega
  ·by_cases y:a=k/\c=j
   ·obtain ⟨rfl,rfl⟩:=y; rw [F]; omega
   ·rw [t a o c b e y]; exact v.nn a o c b
 ·intro a o c b hp;by_cases e:a=i/\c=j
  ·obtain ⟨rfl,rfl⟩:=e; exact hm
  ·by_cases y:a=k/\c=j
   ·obtain ⟨rfl,rfl⟩:=y; exact v.ok a o c b (by omega)
   ·rw [t a o c b e y] at hp; exact v.ok a o c b hp
 ·intro c b;by_cases e:c=j
  ·subst e;rw [<-v.bal c b];let w:Nat->Int:=λa=>if a=i then u i c+d else u a c
   have H:sumN w n=sumN (λa=>u a c) n+d:=kfj (i:=i) (by simp [w]) hi λa o hn=>by simp [w,hn]
   have y:sumN (λa=>u' a c) n=sumN w n+(-d):=kfj (i:=k) (by simp only [w,if_neg D]; omega) C λa o hn=>by
    by_cases A:a=i
    ·subst A; simp only [w,if_true]; exact h2
    ·simp only [w,if_neg A]; exact t a o c b (by omega) (by omega)
   omega
  ·rw [<-v.bal c b,kap λa o=>t a o c b (by omega) (by omega)]
 ·exact kfj h2 z λc b hn=>t i hi c b (by omega) (by omega)
 ·have:=kfj (f:=u k) (g:=u' k) (i:=j) (d:=-d) (by omega) z λc b hn=>t k C c b (by omega) (by omega);unfold row; omega
 ·intro a o hn E;exact kap λc b=>t a o c b (by omega) (by omega)
inductive Rch (n m:Nat) (may:Nat->Nat->Prop) (u:Nat->Nat->Int) (L:Nat->Prop):Nat->Prop
 | base {i:Nat}:i<n->L i->Rch n m may u L i
 | step {i j k:Nat}:Rch n m may u L i->j<m->may i j->k<n->0<u k j->Rch n m may u L k
theorem Rch.lt {L:Nat->Prop} {i:Nat} (h:Rch n m may u L i):i<n:=by cases h <;> assumption
theorem iter_inv {α β:Type} {F:α->Yb (α⊕β)} (I:α->Prop) (m:α->Nat) (R:β->Prop)
  (h:∀ x,I x->(∃ z,F x=some (.inr z)/\R z)\/∃ y,F x=some (.inl y)/\I y/\m y<m x) (x:α) (a:I x) (hm:m x<18446744073709551616):∃ z,iter F x=some z/\R z:=by
 have:∀ n x,I x->m x<n->∃ z,itN F n x=some z/\R z:=by
  intro n;induction n with
  | zero=>intro x _ g; omega
  | succ n c=>
   intro x a hm;rcases h x a with ⟨z,e,hz⟩ | ⟨y,e,b,f⟩
   ·exact ⟨z,kgh e,hz⟩
   ·rw [kmm e]; exact c y b (by omega)
 obtain ⟨z,e,hz⟩:=this 18446744073709551616 x a hm;exact ⟨z,kkq e (jag _),hz⟩
def ua (U:Ya (Ya Int)) (k j:Nat):Int:=(U.getD k []).getD j 0
def la (L:Ya Int) (j:Nat):Int:=L.getD j 0
def sa (s:Ya Bool) (j:Nat):Bool:=s.getD j false
def upd (U:Ya (Ya Int)) (k j:Nat) (x:Int):Ya (Ya Int):=U.set k ((U.getD k []).set j x)
structure Shp (n m:Nat) (U:List (List Int)) (L:List Int):Prop where
 u:U.length=n
 r:∀ k,k<n->(U.getD k []).length=m
 l:L.length=m
theorem gi_D {α:Type} {l:Ya α} {i:Nat} (d:α) (h:i<l.length):gi l (i:Int)=some (l.getD i d):=by rw [kas h,jba,jae h]; rfl
section
variable {n m:Nat} {U:Ya (Ya Int)} {L:Ya Int} {k j:Nat} {x:Int}
theorem Shp.gu (h:Shp n m U L) (a:k<n):gi U (k:Int)=some (U.getD k []):=gi_D [] (by rw [h.u]; exact a)
theorem Shp.guj (h:Shp n m U L) (a:k<n) (b:j<m):gi (U.getD k []) (j:Int)=some (ua U k j):=gi_D 0 (by rw [h.r k a]; exact b)
theorem Shp.gl (h:Shp n m U L) (a:j<m):gi L (j:Int)=some (la L j):=gi_D 0 (by rw [h.l]; exact a)
theorem gs {s:Ya Bool} (hs:s.length=m) (a:j<m):gi s (j:Int)=some (sa s j):=gi_D false (by omega)
theorem kzL:lset U (k:Int) (lset (U.getD k []) (j:Int) x)=upd U k j x:=rfl
theorem getD_set {α:Type} {l:Ya α} {i j:Nat} {x d:α} (h:i<l.length):(l.set i x).getD j d=if j=i then x else l.getD j d:=by
 rw [jba,jba,jcy];by_cases e:j=i
 ·subst e; simp [h]
 ·rw [if_neg (λh=>e h.symm),if_neg e]
theorem Shp.upd (h:Shp n m U L) (b:k<n) (e:j<m):Shp n m (upd U k j x) L:=by
 refine ⟨by simp [Fl.upd,h.u],λc a=>?_,h.l⟩;unfold Fl.upd;rw [getD_set (by rw [h.u]; exact b)];split
 ·rw [jbs]; exact h.r k b
 ·exact h.r c a
theorem Shp.ua_upd (h:Shp n m U L) (c:k<n) (f:j<m) (a b:Nat):ua (Fl.upd U k j x) a b=if a=k/\b=j then x else ua U a b:=by
 unfold ua Fl.upd;rw [getD_set (by rw [h.u]; exact c)];by_cases e:a=k
 ·subst e;rw [if_pos rfl,getD_set (by rw [h.r _ c]; exact f)];simp
 ·rw [if_neg e,if_neg (λh=>e h.1)]
theorem Shp.setL (h:Shp n m U L):Shp n m U (L.set j x):=⟨h.u,h.r,by simp [h.l]⟩
theorem keT (b:j<L.length) (a:Nat):la (L.set j x) a=if a=j then x else la L a:=getD_set b
theorem koS {s:Ya Bool} (b:j<s.length) (a:Nat):sa (s.set j true) a=if a=j then true else sa s a:=getD_set b
end
def uns (s:Ya Bool):Nat:=s.countP (λb=>!b)
theorem kwH:∀ {s:Ya Bool} {j:Nat},j<s.length->sa s j=false->uns (s.set j true)+1=uns s
 | [],j,h,_=>by simp at h
 | b::s,0,_,h=>by
  have:b=false:=by simpa [sa] using h
  subst this;simp [uns,List.countP_cons]
 | b::s,j+1,h,h2=>by
  have:=kwH (s:=s) (j:=j) (by simpa using h) (by simpa [sa] using h2);simp only [uns,List.set_cons_succ,List.countP_cons] at this ⊢;omega
theorem kqr:∀ {s s':Ya Bool},s'.length=s.length->(∀ j,sa s j=true->sa s' j=true)->uns s'<=uns s
 | [],[],_,_=>jag _
 | [],_::_,h,_=>by simp at h
 | _::_,[],h,_=>by simp at h
 | b::s,b'::s',h,hm=>by
  have:=kqr (s:=s) (s':=s') (by simpa using h) λj c=>by simpa [sa] using hm (j+1) (by simpa [sa] using c)
  have a:=hm 0;simp only [sa,List.getD_cons_zero] at a;simp only [uns,List.countP_cons] at this ⊢;cases b <;> cases b' <;> simp at a ⊢ <;> omega
section
variable (n m:Nat) (cap:Nat->Int) (may:Nat->Nat->Prop)
def Cl (U:Ya (Ya Int)) (L:Ya Int) (s s':Ya Bool):Prop:=
 ∀ j,j<m->sa s' j=true->sa s j=false->la L j=0/\∀ k,k<n->0<ua U k j->∀ a,a<m->may k a->sa s' a=true
structure Post (i:Nat) (most:Int) (U:List (List Int)) (L:List Int) (s:List Bool) (r:Int) (U':List (List Int)) (L':List Int) (s':List Bool):Prop where
 sh:Shp n m U' L'
 sl:s'.length=m
 mono:∀ j,sa s j=true->sa s' j=true
 v:Val n m cap may (ua U') (la L')
 fr:∀ j,j<m->sa s j=true->la L' j=la L j/\∀ k,k<n->ua U' k j=ua U k j
 r0:0<=r
 r1:r<=most
 ri:row m (ua U') i=row m (ua U) i+r
 ro:∀ k,k<n->k≠i->row m (ua U') k=row m (ua U) k
 z:r=0->U'=U/\L'=L/\(∀ j,j<m->may i j->sa s' j=true)/\Cl n m may U L s s'
end
variable {n m:Nat} {cap:Nat->Int} {may:Nat->Nat->Prop} {U U':Ya (Ya Int)} {L L':Ya Int} {s s' s1 s2:Ya Bool} {i j k:Nat} {most r:Int}
theorem Cl.mono (h:Cl n m may U L s s1) (h2:∀ j,sa s1 j=true->sa s2 j=true):∀ j,j<m->sa s1 j=true->sa s j=false->la L j=0/\∀ k,k<n->0<ua U k j->∀ a,a<m->may k a->sa s2 a=true:=
 λj e f c=>⟨(h j e f c).1,λk g hp a b hm=>h2 _ ((h j e f c).2 k g hp a b hm)⟩
theorem Cl.trans (h:Cl n m may U L s s1) (h':Cl n m may U L s1 s2) (h2:∀ j,sa s1 j=true->sa s2 j=true):Cl n m may U L s s2:=λj a c b=>by
 cases e:sa s1 j with
 | true=>exact h.mono h2 j a e b
 | false=>exact h' j a c e
theorem Val.le (v:Val n m cap may (ua U) (la L)) (b:k<n) (a:j<m):0<=ua U k j/\ua U k j<=cap j:=by
 have g:=v.bal j a;have h2:=v.ln j a;have e:=kuA (f:=λk=>ua U k j) (λk b=>v.nn k b j a) b;have c:=v.nn k b j a;omega
theorem Val.lle (v:Val n m cap may (ua U) (la L)) (a:j<m):0<=la L j/\la L j<=cap j:=by
 have e:=v.bal j a;have h2:=v.ln j a;have c:=keM (f:=λk=>ua U k j) (n:=n) (λk b=>v.nn k b j a);omega
theorem kyo (sh:Shp n m U L) (v:Val n m cap may (ua U) (la L)) (hl:s1.length=m) (hs:∀ j,sa s j=true->sa s1 j=true) (hi:i<n) (o:j<m) (hn:sa s1 j=false) (hm:may i j) {d:Int} (z:0<d) (y:d<=la L j) (h2:d<=most) :
  Post n m cap may i most U L s d (upd U i j (ua U i j+d)) (L.set j (la L j-d)) (s1.set j true):=by
 have w:sa s j=false:=by
  cases e:sa s j with
  | false=>rfl
  | true=>rw [hs j e] at hn; cases hn
 have g:j<L.length:=by rw [sh.l]; exact o
 obtain ⟨a,b,c⟩:=v.take (u':=ua (upd U i j (ua U i j+d))) (l':=la (L.set j (la L j-d))) hi o hm (by omega:(0:Int)<=d) y (by rw [keT g,if_pos rfl]) (by rw [sh.ua_upd hi o,if_pos ⟨rfl,rfl⟩])
  (λt _ f=>by rw [keT g,if_neg f]) (λk _ t _ f=>by rw [sh.ua_upd hi o,if_neg f])
 refine ⟨(sh.upd hi o).setL,by simp [hl],λt p=>?_,a,λt p h=>?_,by omega,h2,b,c,λe=>by omega⟩
 ·rw [koS (by omega)]; split
  ·rfl
  ·exact hs t p
 ·have f:t≠j:=by rintro rfl; rw [w] at h; cases h
  refine ⟨by rw [keT g,if_neg f],λk A=>by rw [sh.ua_upd hi o,if_neg (λh=>f h.2)]⟩
theorem kxr (hp:Post n m cap may k most U L s2 r U' L' s') (hi:i<n) (z:k<n) (o:j<m) (H:sa s j=false) (G:sa s2 j=true) (hs:∀ j,sa s j=true->sa s2 j=true) (hm:may i j) (P:0<r) (Q:most<=ua U k j) {y:Int} (h2:most<=y) :
  Post n m cap may i y U L s r (upd (upd U' k j (ua U' k j-r)) i j (ua (upd U' k j (ua U' k j-r)) i j+r)) L' s':=by
 have p:=hp.sh.upd z o (x:=ua U' k j-r);have D:∀ f,f<m->sa s f=true->la L' f=la L f/\∀ g,g<n->ua (upd (upd U' k j (ua U' k j-r)) i j (ua (upd U' k j (ua U' k j-r)) i j+r)) g f=ua U g f:=λf C h=>by
  have w:f≠j:=by rintro rfl; rw [H] at h; cases h
  obtain ⟨a,b⟩:=hp.fr f C (hs f h);exact ⟨a,λg t=>by rw [p.ua_upd hi o,if_neg (λh=>w h.2),hp.sh.ua_upd z o,if_neg (λh=>w h.2)]; exact b g t⟩
 have I:=(hp.fr j o G).2 k z;have hr:=hp.r1;by_cases e:k=i
 ·subst e;have J:∀ g f,ua (upd (upd U' k j (ua U' k j-r)) k j (ua (upd U' k j (ua U' k j-r)) k j+r)) g f=ua U' g f:=λg f=>by
   rw [p.ua_upd hi o,hp.sh.ua_upd z o,hp.sh.ua_upd z o];by_cases h:g=k/\f=j
   ·obtain ⟨rfl,rfl⟩:=h; simp
   ·rw [if_neg h,if_neg h]
  have O:Val n m cap may (ua (upd (upd U' k j (ua U' k j-r)) k j (ua (upd U' k j (ua U' k j-r)) k j+r))) (la L'):=by
   rw [show ua (upd (upd U' k j (ua U' k j-r)) k j (ua (upd U' k j (ua U' k j-r)) k j+r))=ua U' from funext λg=>funext λf=>J g f];exact hp.v
  have A:∀ g,row m (ua (upd (upd U' k j (ua U' k j-r)) k j (ua (upd U' k j (ua U' k j-r)) k j+r))) g=row m (ua U') g:=λg=>kap λf _=>J g f;exact ⟨p.upd hi o,hp.sl,λf h=>hp.mono f (hs f h),O,D,by omega,by omega,by rw [A]; exact hp.ri,λg t w=>by rw [A]; exact hp.ro g t w,λe=>by omega⟩
 ·have w:¬ (i=k/\j=j):=λh=>e h.1.symm;obtain ⟨a,b,c,d⟩:=hp.v.swap (u':=ua (upd (upd U' k j (ua U' k j-r)) i j (ua (upd U' k j (ua U' k j-r)) i j+r))) (i:=i) (k:=k) (j:=j) (d:=r) hi z o hm (by omega) (by omega) e
   (by rw [p.ua_upd hi o,if_neg (λh=>e h.1),hp.sh.ua_upd z o,if_pos ⟨rfl,rfl⟩]) (by rw [p.ua_upd hi o,if_pos ⟨rfl,rfl⟩,hp.sh.ua_upd z o,if_neg w])
   (λg t f C g1 K=>by rw [p.ua_upd hi o,if_neg g1,hp.sh.ua_upd z o,if_neg K])
  refine ⟨p.upd hi o,hp.sl,λf h=>hp.mono f (hs f h),a,D,by omega,by omega,?_,λg t E=>?_,λe=>by omega⟩
  ·rw [b,hp.ro i hi (λh=>e h.symm)]
  ·by_cases F:g=k
   ·subst F; rw [c,hp.ri]; omega
   ·rw [d g t E F,hp.ro g t F]
structure MayL (n m:Nat) (may:Nat->Nat->Prop) (M:List (List Int)):Prop where
 l:M.length=n
 s:∀ k,k<n->(M.getD k []).length<=1000
 a:∀ k,k<n->∀ x∈M.getD k [],∃ j,j<m/\x=(j:Int)/\may k j
 b:∀ k,k<n->∀ j,j<m->may k j->(j:Int)∈M.getD k []
theorem krE {a b:Int} (c:0<a):imin a b<=a/\imin a b<=b/\(0<imin a b↔0<b):=by
 unfold imin; split <;> omega
variable {n m:Nat} {cap:Nat->Int} {may:Nat->Nat->Prop} {M:Ya (Ya Int)} {N:Ya (Int×Int×Int)}
theorem kyF (hM:MayL n m may M) (hn:n<=1000) (hc:∀ j,j<m->cap j<=1000):∀ (g i:Nat) (most:Int) (U:Ya (Ya Int)) (L:Ya Int) (s:Ya Bool),i<n->0<most->Shp n m U L->s.length=m->Val n m cap may (ua U) (la L)->uns s<g->
  ∃ r U' L' s',kbi g (i:Int) most N M U L s=some (r,N,M,U',L',s')/\Post n m cap may i most U L s r U' L' s':=by
 intro g;induction g with
 | zero=>intro i most U L s _ _ _ _ _ h; omega
 | succ g ih=>
  intro i most U L s hi ai sh hs v hf;unfold kbi khQ;have gM:gi M (i:Int)=some (M.getD i []):=gi_D [] (by rw [hM.l]; exact hi);generalize hJ:M.getD i []=J at gM;have hJ1:∀ x∈J,∃ j,j<m/\x=(j:Int)/\may i j:=by rw [<-hJ]; exact hM.a i hi
  have hJ2:∀ j,j<m->may i j->(j:Int)∈J:=by rw [<-hJ]; exact hM.b i hi
  have hJl:J.length<=1000:=by rw [<-hJ]; exact hM.s i hi
  simp only [gM,jab];let Q:Nat->Ya Bool->Prop:=λt s1=>s1.length=m/\(∀ j,sa s j=true->sa s1 j=true)/\(∀ (t':Nat) (x:Int),t'<t->J[t']?=some x->∀ j:Nat,x=(j:Int)->sa s1 j=true)/\Cl n m may U L s s1
  have key:=iter_inv (F:=kbc (kbi g) (i:Int) most J)
   (λx=>∃ t s1,t<=J.length/\x=((t:Int),s1,N,M,U,L)/\Q t s1) (λx=>J.length-x.1.toNat)
   (λz=>(∃ r U' L' s',z = .inl (r,N,M,U',L',s')/\Post n m cap may i most U L s r U' L' s')\/∃ s1,z = .inr (s1,L,U,N,M)/\Q J.length s1)
   (λx hx=>by
    obtain ⟨t,s1,ht,rfl,I,W,q3,q4⟩:=hx;by_cases D:t<J.length
    ·obtain ⟨j,y,Z,H⟩:=hJ1 J[t] (jdx D);have g1:gi J (t:Int)=some (j:Int):=by rw [kas D,Z]
     have g2:gi s1 (j:Int)=some (sa s1 j):=gs I y;have g3:=sh.gl y;have g4:=sh.gu hi;have g5:=sh.guj hi y;have hw:w64 ((t:Int)+1)=((t+1:Nat):Int):=kax (by omega);have C:decide ((t:Int)<lenI J)=true:=lenI_lt.2 D;cases w:sa s1 j with
     | true=>
      refine .inr ⟨((t+1:Nat),s1,N,M,U,L),?_,⟨t+1,s1,by omega,rfl,I,W,λt' x G A c o=>?_,q4⟩,by simp only [jay]; omega⟩
      ·unfold kbc;simp only [C,if_true,g1,g2,jab,w,hw]
      ·by_cases e:t'=t
       ·subst e;rw [jae D,Z] at A;cases A;have:j=c:=by omega
        subst this; exact w
       ·exact q3 t' x (by omega) A c o
     | false=>
      obtain ⟨d1,d2,d3⟩:=krE (b:=la L j) ai;obtain ⟨b1,b2⟩:=v.le hi y;obtain ⟨b3,b4⟩:=v.lle y;have b5:=hc j y;by_cases hd:0<imin most (la L j)
      ·
       have e1:w64 (ua U i j+imin most (la L j))=ua U i j+imin most (la L j):=kbo (by omega) (by omega);have e2:w64 (la L j-imin most (la L j))=la L j-imin most (la L j):=kbo (by omega) (by omega);refine .inl ⟨.inl (imin most (la L j),N,M,upd U i j (ua U i j+imin most (la L j)),L.set j (la L j-imin most (la L j)),s1.set j true),?_,.inl ⟨_,_,_,_,rfl,kyo sh v I W hi y w H hd d2 d1⟩⟩;unfold kbc;simp only [C,if_true,g1,g2,g3,g4,g5,jab,w,jai,if_false,decide_eq_true hd,e1,e2];rfl
      ·
       have ap:la L j=0:=by
        have:¬ 0<la L j:=λh=>hd (d3.2 h);omega
       have ak:(s1.set j true).length=m:=by simp [I]
       have au:uns (s1.set j true)<g:=by
        have:=kwH (s:=s1) (j:=j) (by omega) w;have:=kqr (s:=s) (s':=s1) (by rw [I,hs]) W;omega
       have aq:sa s j=false:=by
        cases e:sa s j with
        | false=>rfl
        | true=>rw [W j e] at w; cases w
       let Q2:Nat->Ya Bool->Prop:=λk f=>f.length=m/\(∀ c,sa (s1.set j true) c=true->sa f c=true)/\(∀ E,E<k->0<ua U E j->∀ c,c<m->may E c->sa f c=true)/\Cl n m may U L (s1.set j true) f
       have ab:∀ f,(∀ c,sa (s1.set j true) c=true->sa f c=true)->sa f j=true:=λf h=>h j (by rw [koS (by omega)]; simp);have P:∀ f,(∀ c,sa (s1.set j true) c=true->sa f c=true)->∀ c,sa s c=true->sa f c=true:=λf h c o=>h c (by rw [koS (by omega)]; split; rfl; exact W c o);obtain ⟨z,hz,hR⟩:=iter_inv (F:=kbp (kbi g) (i:Int) most ((t:Int),s1,N,M,U,L) (j:Int))
        (λx=>∃ k f,k<=n/\x=((k:Int),N,M,U,L,f)/\Q2 k f) (λx=>n-x.1.toNat)
        (λz=>(∃ r U' L' s',z = .inl (r,N,M,U',L',s')/\Post n m cap may i most U L s r U' L' s')\/∃ f,z = .inr (N,M,U,L,f)/\Q2 n f)
        (λx hx=>by
         obtain ⟨k,f,hk,rfl,p1,p2,p3,p4⟩:=hx;have hlU:lenI U=(n:Int):=by rw [kaf,sh.u]
         by_cases p:k<n
         ·have hw:w64 ((k:Int)+1)=((k+1:Nat):Int):=kax (by omega);have aa:decide ((k:Int)<lenI U)=true:=by rw [hlU]; simp; omega
          have f1:=sh.gu p;have f2:=sh.guj p y;by_cases af:ua U k j=0
          ·refine .inr ⟨((k+1:Nat),N,M,U,L,f),?_,⟨k+1,f,by omega,rfl,p1,p2,λE ao hp=>?_,p4⟩,by simp only [jay]; omega⟩
           ·unfold kbp;simp only [aa,if_true,f1,f2,jab,af,hw];rfl
           ·by_cases e:E=k
            ·subst e; omega
            ·exact p3 E (by omega) hp
          ·have ah:0<ua U k j:=by have:=(v.le p y).1; omega
           obtain ⟨c1,c2,c3⟩:=krE (b:=ua U k j) ai;obtain ⟨r,U',L',s',O,hp⟩:=ih k (imin most (ua U k j)) U L f p (c3.2 ah) sh p1 v (by
            have:=kqr (s:=s1.set j true) (s':=f) (by rw [p1,ak]) p2;omega)
           have al:(ua U k j==0)=false:=by simp [af]
           by_cases hr:0<r
           ·have F1:=hp.sh.gu p;have F2:=hp.sh.guj p y;have aj:=hp.sh.upd p y (x:=ua U' k j-r);have F3:=aj.gu hi;have F4:=aj.guj hi y;have B1:=hp.v.le p y;have B2:=hp.v.le hi y;have B3:=hp.r1;have B4:=v.le p y;have E1:w64 (ua U' k j-r)=ua U' k j-r:=kbo (by omega) (by omega);have hb:-10000<=ua (upd U' k j (ua U' k j-r)) i j/\ua (upd U' k j (ua U' k j-r)) i j<=10000:=by
             rw [hp.sh.ua_upd p y]; split <;> omega
            have E2:w64 (ua (upd U' k j (ua U' k j-r)) i j+r)=ua (upd U' k j (ua U' k j-r)) i j+r:=kbo (by omega) (by omega);refine .inl ⟨.inl (r,N,M,upd (upd U' k j (ua U' k j-r)) i j (ua (upd U' k j (ua U' k j-r)) i j+r),L',s'),?_,.inl ⟨_,_,_,_,rfl,kxr hp hi p y aq (ab f p2) (P f p2) H hr c2 c1⟩⟩;unfold kbp;simp only [aa,if_true,f1,f2,jab,al,jai,if_false,O,decide_eq_true hr,F1,F2,E1,kzL,F3,F4,E2]
           ·have am:r=0:=by have:=hp.r0; omega
            obtain ⟨z1,z2,z3,z4⟩:=hp.z am;subst z1 z2;refine .inr ⟨((k+1:Nat),N,M,U',L',s'),?_,⟨k+1,s',by omega,rfl,hp.sl,λc h=>hp.mono c (p2 c h),λE ao an c o ae=>?_,p4.trans z4 hp.mono⟩,by simp only [jay]; omega⟩
            ·unfold kbp;simp only [aa,if_true,f1,f2,jab,al,jai,if_false,O,decide_eq_false hr,hw]
            ·by_cases e:E=k
             ·subst e; exact z3 c o ae
             ·exact hp.mono c (p3 E (by omega) an c o ae)
         ·have ar:¬ decide ((k:Int)<lenI U)=true:=by rw [hlU]; simp; omega
          have:k=n:=by omega
          subst this;refine .inl ⟨.inr (N,M,U,L,f),?_,.inr ⟨f,rfl,p1,p2,p3,p4⟩⟩;unfold kbp;simp only [ar,if_false];rfl)
        (0,N,M,U,L,s1.set j true) ⟨0,s1.set j true,by omega,rfl,ak,λ_ h=>h,λE h=>by omega,λc _ h1 h2=>by rw [h1] at h2; cases h2⟩ (by simp only; omega)
       have ac:decide (0<imin most (la L j))=false:=decide_eq_false hd;have K:lset s1 (j:Int) true=s1.set j true:=rfl;rcases hR with ⟨r,U',L',s',rfl,hp⟩ | ⟨f,rfl,p1,p2,p3,p4⟩
       ·refine .inl ⟨.inl (r,N,M,U',L',s'),?_,.inl ⟨_,_,_,_,rfl,hp⟩⟩;unfold kbc;simp only [C,if_true,g1,g2,g3,jab,w,jai,if_false,ac,K,hz]
       ·have ad:∀ c,sa s1 c=true->sa f c=true:=λc h=>p2 c (by rw [koS (by omega)]; split; rfl; exact h);refine .inr ⟨((t+1:Nat),f,N,M,U,L),?_,⟨t+1,f,by omega,rfl,p1,P f p2,λt' x G A c o=>?_,λc o h1 h2=>?_⟩,by simp only [jay]; omega⟩
        ·unfold kbc;simp only [C,if_true,g1,g2,g3,jab,w,jai,if_false,ac,K,hz,hw]
        ·by_cases e:t'=t
         ·subst e;rw [jae D,Z] at A;cases A;have:j=c:=by omega
          subst this; exact ab f p2
         ·exact ad c (q3 t' x (by omega) A c o)
        ·cases e:sa s1 c with
         | true=>exact q4.mono ad c o e h2
         | false=>
          by_cases e2:c=j
          ·subst e2;exact ⟨ap,λk hk hp=>p3 k hk hp⟩
          ·exact p4 c o h1 (by rw [koS (by omega),if_neg e2]; exact e)
    ·have:t=J.length:=by omega
     subst this;refine .inl ⟨.inr (s1,L,U,N,M),?_,.inr ⟨s1,rfl,I,W,q3,q4⟩⟩;unfold kbc;rw [if_neg kjy])
   (0,s,N,M,U,L) ⟨0,s,by omega,rfl,hs,λ_ h=>h,λt' x h=>by omega,λc _ h1 h2=>by rw [h1] at h2; cases h2⟩ (by simp only; omega)
  obtain ⟨z,hz,hR⟩:=key;rw [hz];rcases hR with ⟨r,U',L',s',rfl,hp⟩ | ⟨s1,rfl,I,W,q3,q4⟩
  ·exact ⟨r,U',L',s',rfl,hp⟩
  ·refine ⟨0,U,L,s1,rfl,sh,I,W,v,λ_ _ _=>⟨rfl,λ_ _=>rfl⟩,by omega,by omega,by omega,λ_ _ _=>rfl,λ_=>⟨rfl,rfl,λj y H=>?_,q4⟩⟩;obtain ⟨t',G,e⟩:=jdv.1 (hJ2 j y H);exact q3 t' (j:Int) G (by rw [jae G,e]) j rfl
structure MayB (n m:Nat) (may:Nat->Nat->Prop) (B:List (List Bool)):Prop where
 l:B.length=n
 r:∀ k,k<n->(B.getD k []).length=m
 a:∀ k,k<n->∀ j,j<m->(sa (B.getD k []) j=true↔may k j)
variable {n m:Nat} {cap:Nat->Int} {may:Nat->Nat->Prop} {B:Ya (Ya Bool)}
variable {n m:Nat} {cap:Nat->Int} {may:Nat->Nat->Prop}
structure Gave (n m:Nat) (cap:Nat->Int) (may:Nat->Nat->Prop) (i:Nat) (most:Int) (U:List (List Int)) (g:Int) (U':List (List Int)) (L':List Int):Prop where
 sh:Shp n m U' L'
 v:Val n m cap may (ua U') (la L')
 g0:0<=g
 g1:g<=most
 ri:row m (ua U') i=row m (ua U) i+g
 ro:∀ k,k<n->k≠i->row m (ua U') k=row m (ua U) k
 st:g<most->∃ S,S i=true/\Sat n m may (ua U') (la L') S
theorem kAc {i:Nat} {most:Int} {U U':Ya (Ya Int)} {L L':Ya Int} {s':Ya Bool} (hi:i<n) (h:Post n m cap may i most U L (List.replicate m false) 0 U' L' s'):∃ S,S i=true/\Sat n m may (ua U') (la L') S:=by
 classical
 obtain ⟨p,g,o,h2⟩:=h.z rfl;subst p g;have e:∀ j,sa (List.replicate m false) j=false:=λj=>by
  unfold sa;rw [jba,jcd];split <;> rfl
 obtain ⟨S,hS⟩:∃ S:Nat->Bool,∀ k,S k=true↔∀ j,j<m->may k j->sa s' j=true:=⟨λk=>decide (∀ j,j<m->may k j->sa s' j=true),λk=>by simp⟩;exact ⟨S,(hS i).2 o,λk _ c j a hm=>(h2 j a ((hS k).1 c j a hm) (e j)).1,λk _ c j a hm f b hp=>(hS f).2 ((h2 j a ((hS k).1 c j a hm) (e j)).2 f b hp)⟩
theorem kte {M:Ya (Ya Int)} {N:Ya (Int×Int×Int)} (hM:MayL n m may M) (hn:n<=1000) (hm:m<=1000) (hc:∀ j,j<m->cap j<=1000) {i:Nat} {most:Int} {U:Ya (Ya Int)} {L:Ya Int} (hi:i<n) (E:0<=most) (O:most<=1000) (sh:Shp n m U L) (v:Val n m cap may (ua U) (la L)) :
  ∃ g U' L',kdK (i:Int) most N M U L=some (g,N,M,U',L')/\Gave n m cap may i most U g U' L':=by
 unfold kdK;obtain ⟨z,hz,g,U',L',rfl,H⟩:=iter_inv (F:=kcy (i:Int) most)
  (λx=>∃ g U' L' s,x=(g,N,M,U',L',s)/\0<=g/\g<=most/\Shp n m U' L'/\Val n m cap may (ua U') (la L')/\row m (ua U') i=row m (ua U) i+g/\∀ k,k<n->k≠i->row m (ua U') k=row m (ua U) k) (λx=>(most-x.1).toNat)
  (λz=>∃ g U' L',z=(g,N,M,U',L')/\Gave n m cap may i most U g U' L')
  (λx G=>by
   obtain ⟨g,U',L',s,rfl,g0,g1,e,C,ri,ro⟩:=G;by_cases c:g<most
   ·have f:gmk (lenI L') false=some (List.replicate m false):=by
     unfold gmk;rw [kaf,e.l,if_pos (by omega),jay]
    have D:w64 (most-g)=most-g:=kbo (by omega) (by omega);obtain ⟨r,w,o,s2,hr,hp⟩:=kyF (N:=N) hM hn hc 1000000 i (most-g) U' L' (List.replicate m false) hi (by omega) e (by simp) C (by
     have:uns (List.replicate m false)<=m:=by
      unfold uns;have:=List.countP_le_length (p:=λb=>!b) (l:=List.replicate m false);simpa using this
     omega)
    have t:kfE (i:Int) (most-g) N M U' L' (List.replicate m false)=some (r,N,M,w,o,s2):=hr;by_cases hz:r=0
    ·subst hz;refine .inl ⟨(g,N,M,w,o),?_,g,w,o,rfl,hp.sh,hp.v,g0,g1,by rw [hp.ri,ri]; omega,λk y a=>by rw [hp.ro k y a,ro k y a],λ_=>kAc hi hp⟩;unfold kcy;simp only [decide_eq_true c,if_true,f,D,t,jab];rfl
    ·have K:=hp.r0;have J:=hp.r1;have A:w64 (g+r)=g+r:=kbo (by omega) (by omega);refine .inr ⟨(g+r,N,M,w,o,s2),?_,⟨g+r,w,o,s2,rfl,by omega,by omega,hp.sh,hp.v,by rw [hp.ri,ri]; omega,λk y a=>by rw [hp.ro k y a,ro k y a]⟩,by simp only; omega⟩;unfold kcy;have I:(r==0)=false:=by simp [hz]
     simp only [decide_eq_true c,if_true,f,D,t,jab,I,jai,if_false,A]
   ·refine .inl ⟨(g,N,M,U',L'),?_,g,U',L',rfl,e,C,g0,g1,ri,ro,λh=>absurd h c⟩;unfold kcy;simp only [decide_eq_false c,jai,if_false])
  (0,N,M,U,L,[]) ⟨0,U,L,[],rfl,by omega,E,sh,v,by omega,λ_ _ _=>rfl⟩ (by simp only; omega)
 exact ⟨g,U',L',by rw [hz]; rfl,H⟩
def Canon (n m:Nat) (cap:Nat->Int) (may:Nat->Nat->Prop) (N:Nat->Int) (i:Nat) (r:Nat->Int):Prop:=
 ∀ k,k<i->(∃ u l,Val n m cap may u l/\(∀ a,a<=k->row m u a=r a)/\(∀ a,k<a->a<n->row m u a=0)/\r k<=N k)/\
  ∀ u l,Val n m cap may u l->(∀ a,a<k->row m u a=r a)->(∀ a,k<a->a<n->row m u a=0)->row m u k<=N k->row m u k<=r k
theorem Canon.uniq {N:Nat->Int} {i:Nat} {r r':Nat->Int} (h:Canon n m cap may N i r) (h':Canon n m cap may N i r'):∀ k,k<i->r k=r' k:=by
 intro k;induction k using Nat.strongRecOn with
 | _ k g=>
  intro o;obtain ⟨⟨u,l,v,a,b,c⟩,d⟩:=h k o;obtain ⟨⟨u',l',p,a',b',c'⟩,t⟩:=h' k o;have y:=t u l v (λf e=>by rw [a f (by omega),g f e (by omega)]) b (by rw [a k (jag _)]; exact c);have w:=d u' l' p (λf e=>by rw [a' f (by omega),g f e (by omega)]) b' (by rw [a' k (jag _)]; exact c');rw [a k (jag _)] at y;rw [a' k (jag _)] at w;omega
structure At (n m:Nat) (cap:Nat->Int) (may:Nat->Nat->Prop) (N:Nat->Int) (i:Nat) (U:List (List Int)) (L:List Int) (K:List Bool) (t:Int):Prop where
 sh:Shp n m U L
 v:Val n m cap may (ua U) (la L)
 z:∀ k,i<=k->k<n->row m (ua U) k=0
 c:Canon n m cap may N i (row m (ua U))
 le:∀ k,k<i->row m (ua U) k<=N k
 st:∀ k,k<i->row m (ua U) k<N k->∃ S,S k=true/\Sat n m may (ua U) (la L) S
 kl:K.length=n
 k1:∀ k,k<i->sa K k=decide (row m (ua U) k<N k)
 k0:∀ k,i<=k->sa K k=false
 t:t=sumN (row m (ua U)) i
theorem At.step {N:Nat->Int} {i:Nat} {U U':Ya (Ya Int)} {L L':Ya Int} {K:Ya Bool} {t g:Int} (h:At n m cap may N i U L K t) (hi:i<n) (p:Gave n m cap may i (N i) U g U' L') :
  At n m cap may N (i+1) U' L' (K.set i (decide (g<N i))) (t+g):=by
 have r0:row m (ua U) i=0:=h.z i (jag _) hi;have ri:row m (ua U') i=g:=by rw [p.ri,r0]; omega
 have mono:∀ k,k<n->row m (ua U) k<=row m (ua U') k:=λk A=>by
  by_cases e:k=i
  ·subst e; have:=p.g0; omega
  ·rw [p.ro k A e]; omega
 refine ⟨p.sh,p.v,λk A C=>by rw [p.ro k C (by omega)]; exact h.z k (by omega) C,λk A=>?_,λk A=>?_,λk A y=>?_,by simp [h.kl],λk A=>?_,λk A=>?_,?_⟩
 ·by_cases e:k=i
  ·subst e;refine ⟨⟨_,_,p.v,λ_ _=>rfl,λo E h2=>by rw [p.ro o h2 (by omega)]; exact h.z o (by omega) h2,by rw [ri]; exact p.g1⟩,λu l v a b c=>?_⟩;by_cases hl:g<N k
   ·obtain ⟨S,s1,s2⟩:=p.st hl;exact kwQ p.v v s2 hi s1 λo w D=>by
     by_cases y:o<k
     ·rw [a o y]; omega
     ·rw [b o (by omega) w,p.ro o w D,h.z o (by omega) w]; omega
   ·have:=p.g1; omega
  ·have w:k<i:=by omega
   have same:∀ o,o<=k->row m (ua U') o=row m (ua U) o:=λo h'=>p.ro o (by omega) (by omega);obtain ⟨⟨u,l,v,a,b,c⟩,d⟩:=h.c k w;refine ⟨⟨u,l,v,λo h'=>by rw [same o h']; exact a o h',b,by rw [same k (jag _)]; exact c⟩,λu l v a b c=>?_⟩;rw [same k (jag _)];exact d u l v (λo h'=>by rw [a o h',same o (by omega)]) b c
 ·by_cases e:k=i
  ·subst e; rw [ri]; exact p.g1
  ·rw [p.ro k (by omega) e]; exact h.le k (by omega)
 ·by_cases e:k=i
  ·subst e; rw [ri] at y; exact p.st y
  ·rw [p.ro k (by omega) e] at y;obtain ⟨S,s1,s2⟩:=h.st k (by omega) y;exact ⟨S,s1,(kqH h.v p.v s2 λo w _=>mono o w).1⟩
 ·rw [show sa (K.set i (decide (g<N i))) k=if k=i then decide (g<N i) else sa K k from getD_set (by rw [h.kl]; exact hi)];by_cases e:k=i
  ·subst e; rw [if_pos rfl,ri]
  ·rw [if_neg e,p.ro k (by omega) e]; exact h.k1 k (by omega)
 ·rw [show sa (K.set i (decide (g<N i))) k=if k=i then decide (g<N i) else sa K k from getD_set (by rw [h.kl]; exact hi),if_neg (by omega)];exact h.k0 k (by omega)
 ·simp only [sumN];rw [ri,h.t,kap (f:=row m (ua U')) (g:=row m (ua U)) λk A=>p.ro k (by omega) (by omega)]
variable {n m:Nat} {cap:Nat->Int} {may:Nat->Nat->Prop}
abbrev It3:=Int×Int×Int
def needN (N:Ya It3) (k:Nat):Int:=((N[k]?).getD (0,0,0)).2.2
theorem kql {N:Ya It3} {k:Nat} (h:k<N.length):needN N k=N[k].2.2:=by unfold needN; rw [jae h]; rfl
theorem At.zero {U:Ya (Ya Int)} {L:Ya Int} {K:Ya Bool} (sh:Shp n m U L) (c:∀ k,k<n->∀ j,j<m->ua U k j=0) (hl:∀ j,j<m->la L j=cap j) (hc:∀ j,j<m->0<=cap j) (N:Nat->Int) (hK:K=List.replicate n false):At n m cap may N 0 U L K 0:=by
 have hz:∀ k,k<n->row m (ua U) k=0:=λk a=>by
  unfold row;rw [kap (g:=λ_=>0) λj b=>c k a j b,keL]
 refine ⟨sh,⟨λk a j b=>by rw [c k a j b]; exact jcq _,λk a j b h=>by rw [c k a j b] at h; omega,λj b=>by rw [hl j b]; exact hc j b,λj b=>?_⟩,λk _ a=>hz k a,λk a=>by omega,λk a=>by omega,λk a=>by omega,by simp [hK],λk a=>by omega,λk _=>?_,rfl⟩
 ·rw [hl j b,kap (g:=λ_=>0) λk a=>c k a j b,keL]; omega
 ·subst hK;unfold sa;rw [jba,jcd];split <;> rfl
variable {n m:Nat} {cap:Nat->Int} {may:Nat->Nat->Prop}
def Edg (m:Nat) (may:Nat->Nat->Prop) (U:Ya (Ya Int)) (i k:Nat):Prop:=∃ j,j<m/\may i j/\0<ua U k j
structure Vis (n m:Nat) (may:Nat->Nat->Prop) (U:List (List Int)) (i:Nat) (s s':List Bool):Prop where
 l:s'.length=n
 mono:∀ k,sa s k=true->sa s' k=true
 at0:sa s' i=true
 r:∀ P:Nat->Prop,(∀ a b,b<n->P a->Edg m may U a b->P b)->P i->∀ k,sa s' k=true->sa s k=false->P k
 c:∀ k,sa s' k=true->sa s k=false->∀ k',k'<n->Edg m may U k k'->sa s' k'=true
def idx (s:Ya Bool) (n:Nat):Ya Int:=((List.range n).filter λk=>sa s k).map λ(k:Nat)=>(k:Int)
theorem kzv (s:Ya Bool) (n:Nat):idx s (n+1)=if sa s n=true then idx s n++[(n:Int)] else idx s n:=by
 unfold idx;rw [List.range_succ,List.filter_append,jcm];cases h:sa s n <;> simp [h]
theorem kwY (s:Ya Bool) (n:Nat):(idx s n).length<=n:=by
 unfold idx;rw [jaq];exact jda (List.length_filter_le _ _) (by simp)
theorem collect {F:Int×Ya Int->Yb ((Int×Ya Int)⊕Ya Int)} {s:Ya Bool} (hs:s.length<=1000)
  (c:∀ (i:Nat) (l:Ya Int),i<s.length->l.length<=1000->F ((i:Int),l)=some (.inl (((i+1:Nat):Int),if sa s i=true then l++[(i:Int)] else l))) (h2:∀ l,F ((s.length:Int),l)=some (.inr l)):iter F (0,[])=some (idx s s.length):=by
 obtain ⟨z,hz,rfl⟩:=iter_inv (F:=F) (λx=>∃ i:Nat,i<=s.length/\x=((i:Int),idx s i)) (λx=>s.length-x.1.toNat) (λz=>z=idx s s.length)
  (λx b=>by
   obtain ⟨i,hi,rfl⟩:=b;by_cases a:i<s.length
   ·exact .inr ⟨_,c i _ a (by have:=kwY s i; omega),⟨i+1,by omega,by rw [kzv]⟩,by simp only [jay]; omega⟩
   ·have:i=s.length:=by omega
    subst this;exact .inl ⟨_,h2 _,rfl⟩)
  (0,[]) ⟨0,by omega,rfl⟩ (by simp only; omega)
 exact hz
end Go.Abs.Fl
namespace Go.Abs
open Go Go.Abs.Fl
theorem krz {a b:Ya It} (f:a.length<=1000) (g:b.length<=1000):kcG [a,b]=some (if stk a=true/\stk b=true then 0 else 8):=by
 unfold kcG;rw [kej (F:=kgv [a,b]) [a,b] (by simp) (λi x=>if stk x then none else some 8) (λi hi=>by
  have h2:i<2:=by simpa using hi
  unfold kgv;rw [if_pos (by rw [kaf]; simp; omega),kas hi,kax (by omega)];have hl:[a,b][i].length<=1000:=by
   have:[a,b][i]∈[a,b]:=jdx _;simp only [jbq,List.not_mem_nil,or_false] at this;rcases this with e | e <;> rw [e] <;> assumption
  simp only [jab,kuX _ hl];by_cases h:stk [a,b][i]=true <;> simp [h,nextL]) (by unfold kgv; rw [if_neg (by simp [kaf])])]
 simp only [jbj,List.zipIdx_nil,jdk,List.findSome?_nil];by_cases c:stk a=true <;> by_cases h2:stk b=true <;> simp [c,h2,endL]
theorem lots1 (l:Ya It):∃ b,kir l=some b/\(b=false->l.length<=40):=by
 unfold kir;rw [kaf];by_cases hl:(40:Int)<l.length
 ·exact ⟨true,by rw [if_pos (by simpa using hl)],λh=>by cases h⟩
 ·rw [if_neg (by simpa using hl)];have:∀ (k i:Nat) (v:Int),i+k=l.length->∃ r,itN (kfn l) (k+1) ((i:Int),v)=some r:=by
   intro k;induction k with
   | zero=>
    intro i v h;refine ⟨v,kgh ?_⟩;unfold kfn;rw [if_neg (by rw [kaf]; simp; omega)]
   | succ k c=>
    intro i v h;have hi:i<l.length:=by omega
    by_cases a:(decide (0<=l[i].2.2)&&decide (l[i].2.2<=1000))=true
    ·obtain ⟨r,hr⟩:=c (i+1) (w64 (v+l[i].2.2)) (by omega);refine ⟨r,?_⟩;rw [<-hr];refine kmm ?_;unfold kfn;rw [if_pos (by rw [kaf]; simpa using hi),kas hi,kax (by omega)];simp only [jab,kei,a,if_true]
    ·obtain ⟨r,hr⟩:=c (i+1) v (by omega);refine ⟨r,?_⟩;rw [<-hr];refine kmm ?_;unfold kfn;rw [if_pos (by rw [kaf]; simpa using hi),kas hi,kax (by omega)];simp only [jab,kei,a,if_false];rw [if_neg (by simp)]
  obtain ⟨r,hr⟩:=this l.length 0 0 (by omega);refine ⟨decide (8000<r),?_,λ_=>by omega⟩;rw [show ((0:Int),(0:Int))=(((0:Nat):Int),0) from rfl,kkq hr (by omega)]; rfl
theorem kAK (a b:Ya It):∃ c,kkc [a,b]=some c/\(c=false->a.length<=40/\b.length<=40):=by
 obtain ⟨u,p,f⟩:=lots1 a;obtain ⟨v,o,g⟩:=lots1 b;refine ⟨u||v,?_,λh=>?_⟩
 ·unfold kkc;rw [kej (F:=khq [a,b]) [a,b] (by simp) (λi x=>if kir x=some true then some true else none) (λi hi=>by
   have h2:i<2:=by simpa using hi
   unfold khq;rw [if_pos (by rw [kaf]; simp; omega),kas hi,kax (by omega)];have hm:[a,b][i]∈[a,b]:=jdx _;simp only [jbq,List.not_mem_nil,or_false] at hm;simp only [jab];rcases hm with e | e
   ·rw [e,p]; cases u <;> simp [nextL]
   ·rw [e,o]; cases v <;> simp [nextL]) (by unfold khq; rw [if_neg (by simp [kaf])])]
  simp only [jbj,List.zipIdx_nil,jdk,List.findSome?_nil,p,o];cases u <;> cases v <;> simp [endL]
 ·rw [jdn] at h;exact ⟨f h.1,g h.2⟩
def pOk (k c:Int):Bool:=decide (0<=k)&&decide (k<=15)&&decide (c<=15)
theorem kAQ (x:Int×Int):kcc x=some (pOk x.1 x.2):=kgM (x.1,x.2,0)
theorem kyB (k c:Int):kcI k c=some (pOk k c):=kiA (k,c,0)
def swBad (x:Swap):Bool:=!pOk x.1 x.2.1||!pOk x.2.2.1 x.2.2.2||(x.1==x.2.2.1&&x.2.1==x.2.2.2)
def swE (l:Ya Swap):Int:=if l.length<=30/\l.any swBad=false then 0 else 2
theorem koi {α:Type} {f:α->α->Bool} (h:∀ x,f x x=true):∀ l:Ya α,lbeq f l l=true
 | []=>rfl
 | x::l=>by simp [lbeq,h x,koi h l]
theorem keZ {t:Ty} {x:t.den} (h:teq t x x=true):bthO t (some x) (some x)=some x:=by
 unfold bthO;simp only [h,if_true]
theorem kyJ (x:Swap):bthO tSwap (some x) (some x)=some x:=keZ (by simp [teq])
theorem c1_eq (x:Swap):kdi x=some (swBad x):=by
 unfold kdi swBad;rw [kyJ];simp only [jab,kAQ];cases pOk x.1 x.2.1 <;> cases pOk x.2.2.1 x.2.2.2 <;> simp
theorem kpl (l:Ya Swap) (hl:l.length<=1000):kdx l=some (swE l):=by
 unfold kdx swE;rw [kaf];by_cases b:(30:Int)<l.length
 ·rw [if_pos (by simpa using b),if_neg (by omega)]
 ·rw [if_neg (by simpa using b)];unfold kbn kbA;have e:(λg:Swap=>(kdi g).bind λo=>some o)=λu=>some (swBad u):=by funext u; rw [c1_eq]; rfl
  rw [e,kej (F:=kaO l _) l (by omega) (λi x=>if swBad x then some (i:Int) else none) (λi hi=>by
   unfold kaO;rw [if_pos (by rw [kaf]; simpa using hi),kas hi,kax (by omega)];simp only [jab];by_cases h:swBad l[i]=true <;> simp [h,nextL]) (by unfold kaO; rw [if_neg (by simp [kaf])])]
  have:∀ (l:Ya Swap) (k:Nat),(endL ((l.zipIdx k).findSome? λx=>if swBad x.1 then some (x.2:Int) else none) = .inr ()/\l.any swBad=false)\/∃ p:Int,0<=p/\endL ((l.zipIdx k).findSome? λx=>if swBad x.1 then some (x.2:Int) else none) = .inl p/\l.any swBad=true:=by
   intro l;induction l with
   | nil=>intro k; exact .inl ⟨rfl,rfl⟩
   | cons x l f=>
    intro k;rw [jbj,jdk,jdq];cases hp:swBad x with
    | true=>exact .inr ⟨k,by omega,by simp [endL],by simp⟩
    | false=>
     simp only [jai,if_false,jcn];exact f (k+1)
  rcases this l 0 with ⟨c,h2⟩ | ⟨p,hp,c,h2⟩
  ·rw [c,h2];have a:l.length<=30:=by omega
   simp [a]
  ·rw [c,h2];simp only [jab,decide_eq_true hp,if_true];rw [if_neg (by simp)]
theorem knE (l:Ya Swap):khG l=some (swE l):=by
 unfold khG kfA swE;rw [kaf];by_cases a:(30:Int)<l.length
 ·rw [if_pos (by simpa using a),if_neg (by omega)]; rfl
 ·rw [if_neg (by simpa using a),khK (F:=kgu l) false l (by omega) (λ_ x=>swBad x) (λi hi=>by
   unfold kgu;rw [if_pos (by rw [kaf]; simpa using hi),kas hi,kax (by omega)];simp only [jab,kyB];unfold swBad;cases pOk l[i].1 l[i].2.1 <;> cases pOk l[i].2.2.1 l[i].2.2.2 <;> cases (l[i].1==l[i].2.2.1) <;> cases (l[i].2.1==l[i].2.2.2) <;> simp) (by unfold kgu; rw [if_neg (by simp [kaf])])]
  rw [ksg swBad l 0];cases h:l.any swBad with
  | true=>simp
  | false=>simp; omega
def mayB (sw:Ya Swap) (a b:Int×Int):Bool:=(a.1==b.1&&a.2==b.2)||sw.any λv=>a.1==v.1&&(a.2==v.2.1&&(b.1==v.2.2.1&&b.2==v.2.2.2))
theorem kxx (sw:Ya Swap) (hl:sw.length<=1000) (a b:Int×Int):kkp sw a b=some (mayB sw a b):=by
 unfold kkp mayB;cases hc:(a.1==b.1&&a.2==b.2) with
 | true=>simp
 | false=>
  simp only [jai,if_false,jcn];unfold kbH kbZ;let q:Swap->Bool:=λv=>a.1==v.1&&(a.2==v.2.1&&(b.1==v.2.2.1&&b.2==v.2.2.2))
  rw [kej (F:=kbg sw _) sw (by omega) (λi x=>if q x then some (i:Int) else none) (λi hi=>by
   unfold kbg;rw [if_pos (by rw [kaf]; simpa using hi),kas hi,kax (by omega)];simp only [jab];by_cases h:q sw[i]=true
   ·have h':=h;simp only [q] at h';rw [if_pos h',if_pos h]; rfl
   ·have h':=h;simp only [q] at h';rw [if_neg h',if_neg h]; rfl) (by unfold kbg; rw [if_neg (by simp [kaf])])]
  have:∀ (l:Ya Swap) (k:Nat),(endL ((l.zipIdx k).findSome? λx=>if q x.1 then some (x.2:Int) else none) = .inr ()/\l.any q=false)\/∃ p:Int,0<=p/\endL ((l.zipIdx k).findSome? λx=>if q x.1 then some (x.2:Int) else none) = .inl p/\l.any q=true:=by
   intro l;induction l with
   | nil=>intro k; exact .inl ⟨rfl,rfl⟩
   | cons x l e=>
    intro k;rw [jbj,jdk,jdq];cases hp:q x with
    | true=>exact .inr ⟨k,by omega,by simp [endL],by simp⟩
    | false=>
     simp only [jai,if_false,jcn];exact e (k+1)
  rcases this sw 0 with ⟨c,h2⟩ | ⟨p,hp,c,h2⟩
  ·rw [c,h2]; rfl
  ·rw [c,h2];simp only [jab,decide_eq_true hp]
theorem koD (sw:Ya Swap) (hl:sw.length<=1000) (a b:Int×Int):kgk sw a.1 a.2 b.1 b.2=some (mayB sw a b):=by
 unfold kgk mayB;have c:(if (a.1==b.1)=true then some (a.2==b.2) else some false)=some (a.1==b.1&&a.2==b.2):=by cases (a.1==b.1) <;> simp
 rw [c];simp only [jab];cases hc:(a.1==b.1&&a.2==b.2) with
 | true=>simp
 | false=>
  simp only [jai,if_false,jcn];rw [khK (F:=kia sw a.1 a.2 b.1 b.2) true sw (by omega) (λ_ v=>a.1==v.1&&(a.2==v.2.1&&(b.1==v.2.2.1&&b.2==v.2.2.2))) (λi hi=>by
   unfold kia;rw [if_pos (by rw [kaf]; simpa using hi),kas hi,kax (by omega)];have e:(sw[i].1==a.1&&(sw[i].2.1==a.2&&(sw[i].2.2.1==b.1&&sw[i].2.2.2==b.2)))=(a.1==sw[i].1&&(a.2==sw[i].2.1&&(b.1==sw[i].2.2.1&&b.2==sw[i].2.2.2))):=by
    rw [Bool.beq_comm (a:=sw[i].1),Bool.beq_comm (a:=sw[i].2.1),Bool.beq_comm (a:=sw[i].2.2.1),Bool.beq_comm (a:=sw[i].2.2.2)]
   simp only [jab,e];split <;> rfl) (by unfold kia; rw [if_neg (by simp [kaf])])]
  rw [ksg (λv:Swap=>a.1==v.1&&(a.2==v.2.1&&(b.1==v.2.2.1&&b.2==v.2.2.2))) sw 0];cases sw.any λv=>a.1==v.1&&(a.2==v.2.1&&(b.1==v.2.2.1&&b.2==v.2.2.2)) <;> rfl
def noFn:Ty->Bool
 | .fn _ _ _=>false
 | .pr p q | .sm p q=>noFn p&&noFn q
 | .w p | .pt p | .sl p | .op p | .ar _ p=>noFn p
 | _=>true
theorem kbM:∀ (t:Ty),noFn t=true->∀ x,teq t x x=true
 | .i _,_,x=>by simp [teq]
 | .b,_,x=>by simp [teq]
 | .s,_,x=>by simp [teq]
 | .un,_,x=>rfl
 | .nt,_,x=>by simp [teq]
 | .pr p q,h,x=>by
  simp only [noFn,jac] at h;simp [teq,kbM p h.1,kbM q h.2]
 | .w a,h,x=>kbM a h x
 | .pt a,h,x=>kbM a h x
 | .sl a,h,x=>koi (kbM a h) x
 | .op a,h,none=>rfl
 | .op a,h,some x=>kbM a h x
 | .ar _ a,h,x=>koi (kbM a h) x.l
 | .sm p q,h,.inl x=>by
  simp only [noFn,jac] at h;exact kbM p h.1 x
 | .sm p q,h,.inr x=>by
  simp only [noFn,jac] at h;exact kbM q h.2 x
 | .fn _ _ _,h,x=>by simp [noFn] at h
def at3 (l:Ya It) (k:Nat):It:=(l[k]?).getD (0,0,0)
theorem kcg {l:Ya It} {k:Nat} (h:k<l.length):at3 l k=l[k]:=by unfold at3; rw [jae h]; rfl
def kc (x:It):Int×Int:=(x.1,x.2.1)
def mayQ (X Y:Ya It) (sw:Ya Swap) (k j:Nat):Prop:=mayB sw (kc (at3 Y k)) (kc (at3 X j))=true
def rowQ (X:Ya It) (sw:Ya Swap) (y:It):Ya Bool:=X.map λx=>mayB sw (kc y) (kc x)
theorem ksx {X:Ya It} {sw:Ya Swap} {y:It} {j:Nat} (h:j<X.length):sa (rowQ X sw y) j=mayB sw (kc y) (kc (at3 X j)):=by
 unfold sa rowQ;rw [jba,jas,kcg h,jae h]; rfl
theorem idx_mem {s:Ya Bool} {n:Nat} {x:Int}:x∈idx s n↔∃ j,j<n/\x=(j:Int)/\sa s j=true:=by
 unfold idx;simp only [jbb,jeb,jdl];constructor
 ·rintro ⟨j,⟨a,h2⟩,rfl⟩; exact ⟨j,a,rfl,h2⟩
 ·rintro ⟨j,a,rfl,h2⟩; exact ⟨j,⟨a,h2⟩,rfl⟩
theorem ktf {α:Type} {l:Ya α} {x d:α} {k:Nat}:(l++[x]).getD k d=if k=l.length then x else l.getD k d:=by
 rw [jba,jba,jbm];by_cases h:k<l.length
 ·rw [if_pos h,if_neg (by omega)]
 ·rw [if_neg h];by_cases e:k=l.length
  ·subst e; simp
  ·rw [if_neg e,jch (l:=l) (by omega),jch (l:=[x]) (by simp only [jcv,List.length_nil]; omega)]
theorem kyr {U:Ya (Ya Int)} {n m:Nat} (h:∀ k,k<n->U.getD k []=List.replicate m 0) {k j:Nat} (b:k<n) (a:j<m):ua U k j=0:=by
 unfold ua;rw [h k b,jba,jcd,if_pos a]; rfl
theorem kjF {X:Ya It} {j:Nat} (h:j<X.length):la (X.map λx=>x.2.2) j=needN X j:=by
 unfold la needN;rw [jba,jas,jae h]; rfl
theorem kzp {X:Ya It} {i:Nat} (h:i<X.length):((X.take i).map λx=>x.2.2)++[X[i].2.2]=(X.take (i+1)).map λx=>x.2.2:=by
 rw [List.take_add_one,jae h,jcm]; rfl
section
variable {X Y:Ya It} {sw:Ya Swap}
theorem kBn (hX:X.length<=1000):iter (kpn X) (0,Y,[])=some (Y,X.map λx=>x.2.2):=by
 obtain ⟨z,hz,rfl⟩:=Fl.iter_inv (F:=kpn X) (λx=>∃ i:Nat,i<=X.length/\x=((i:Int),Y,(X.take i).map λx=>x.2.2)) (λx=>X.length-x.1.toNat) (λz=>z=(Y,X.map λx=>x.2.2))
  (λx c=>by
   obtain ⟨i,hi,rfl⟩:=c;by_cases a:i<X.length
   ·refine .inr ⟨((i+1:Nat),Y,(X.take (i+1)).map λx=>x.2.2),?_,⟨i+1,by omega,rfl⟩,by simp only [jay]; omega⟩;unfold kpn;have b:gapp ((X.take i).map λx=>x.2.2) [X[i].2.2]=some ((X.take (i+1)).map λx=>x.2.2):=by
     rw [khU (by simp only [jaq,jbi,jcv,List.length_nil]; omega),kzp a]
    simp only [lenI_lt.2 a,if_true,kas a,jab,b,kax (show i<9223372036854775807 by omega)]
   ·have:i=X.length:=by omega
    subst this;refine .inl ⟨(Y,X.map λx=>x.2.2),?_,rfl⟩;rw [List.take_length];unfold kpn;rw [if_neg kjy])
  (0,Y,[]) ⟨0,by omega,rfl⟩ (by simp only; omega)
 exact hz
theorem row_p (hX:X.length<=1000) (hs:sw.length<=1000) (y:It):iter (kpt X sw y) (0,[])=some (idx (rowQ X sw y) X.length):=by
 have hl:(rowQ X sw y).length=X.length:=by simp [rowQ]
 have:=Fl.collect (s:=rowQ X sw y) (F:=kpt X sw y) (by omega) (λi l hi a=>by
  rw [hl] at hi;unfold kpt;have b:kkp sw (kc y) (kc X[i])=some (mayB sw (kc y) (kc X[i])):=kxx sw hs _ _;unfold kc at b;simp only [lenI_lt.2 hi,if_true,kas hi,jab,kbt,b,kax (show i<9223372036854775807 by omega)];rw [ksx hi,kcg hi];unfold kc;cases mayB sw (y.1,y.2.1) (X[i].1,X[i].2.1) with
  | true=>simp only [if_true]; rw [khU (by simp; omega)]; rfl
  | false=>rfl) (λl=>by
  unfold kpt;rw [if_neg (by rw [hl]; exact kjy)])
 rw [hl] at this;exact this
theorem kAB (hX:X.length<=1000) (hY:Y.length<=1000) (hs:sw.length<=1000):∃ M U,iter (kpm X Y sw) (0,Y,[],[])=some (Y,M,U)/\MayL Y.length X.length (mayQ X Y sw) M/\U.length=Y.length/\∀ k,k<Y.length->U.getD k []=List.replicate X.length 0:=by
 obtain ⟨z,hz,M,U,rfl,a,b,c,d⟩:=Fl.iter_inv (F:=kpm X Y sw)
  (λx=>∃ (i:Nat) (M U:Ya (Ya Int)),i<=Y.length/\x=((i:Int),Y,M,U)/\M.length=i/\(∀ k,k<i->M.getD k []=idx (rowQ X sw (at3 Y k)) X.length)/\U.length=i/\∀ k,k<i->U.getD k []=List.replicate X.length 0) (λx=>Y.length-x.1.toNat)
  (λz=>∃ M U,z=(Y,M,U)/\M.length=Y.length/\(∀ k,k<Y.length->M.getD k []=idx (rowQ X sw (at3 Y k)) X.length)/\U.length=Y.length/\∀ k,k<Y.length->U.getD k []=List.replicate X.length 0)
  (λx o=>by
   obtain ⟨i,M,U,hi,rfl,a,b,c,d⟩:=o;by_cases f:i<Y.length
   ·have hr:=row_p hX hs Y[i];have g1:gapp M [idx (rowQ X sw Y[i]) X.length]=some (M++[idx (rowQ X sw Y[i]) X.length]):=khU (by simp; omega);have y:gmk (lenI X) (0:Int)=some (List.replicate X.length 0):=by
     unfold gmk;rw [kaf,if_pos (by omega),jay]
    have A:gapp U [List.replicate X.length (0:Int)]=some (U++[List.replicate X.length 0]):=khU (by simp; omega);refine .inr ⟨((i+1:Nat),Y,M++[idx (rowQ X sw Y[i]) X.length],U++[List.replicate X.length 0]),?_,⟨i+1,_,_,by omega,rfl,by simp [a],λk g=>?_,by simp [c],λk g=>?_⟩,by simp only [jay]; omega⟩
    ·unfold kpm;simp only [lenI_lt.2 f,if_true,kas f,jab,hr,g1,y,A,kax (show i<9223372036854775807 by omega)];rw [keZ (kbM _ rfl _),keZ (kbM _ rfl _),keZ (kbM _ rfl _),keZ (kbM _ rfl _),keZ (kbM _ rfl _)]
    ·rw [ktf];by_cases e:k=i
     ·subst e; rw [if_pos a.symm,kcg f]
     ·rw [if_neg (by omega)]; exact b k (by omega)
    ·rw [ktf];by_cases e:k=i
     ·subst e; rw [if_pos c.symm]
     ·rw [if_neg (by omega)]; exact d k (by omega)
   ·have:i=Y.length:=by omega
    subst this;refine .inl ⟨(Y,M,U),?_,M,U,rfl,a,b,c,d⟩;unfold kpm;rw [if_neg kjy])
  (0,Y,[],[]) ⟨0,[],[],by omega,rfl,rfl,λk h=>by omega,rfl,λk h=>by omega⟩ (by simp only; omega)
 refine ⟨M,U,hz,⟨a,λk g=>?_,λk g x o=>?_,λk g j p hm=>?_⟩,c,d⟩
 ·rw [b k g]; have:=kwY (rowQ X sw (at3 Y k)) X.length; omega
 ·rw [b k g] at o;obtain ⟨j,w,h2,t⟩:=idx_mem.1 o;rw [ksx w] at t;exact ⟨j,w,h2,t⟩
 ·rw [b k g];exact idx_mem.2 ⟨j,p,rfl,by rw [ksx p]; exact hm⟩
end
def askE (X Y:Ya It) (sw:Ya Swap):Int:=if stk X=true/\stk Y=true then swE sw else 8
theorem kxs {α β γ:Type} (x:Yb α) (f:α->Yb β):(x.bind λa=>(f a).bind λ_=>none:Yb γ)=none:=by
 cases x with
 | none=>rfl
 | some a=>simp only [jab]; cases f a <;> rfl
section
variable {X Y:Ya It} {sw:Ya Swap}
theorem bad_p (hs:sw.length<=1000):(if ((if stk X=true/\stk Y=true then (0:Int) else 8)==0)=true then (kdx sw).bind λa=>some a else some (if stk X=true/\stk Y=true then (0:Int) else 8))=some (askE X Y sw):=by
 unfold askE;rw [kpl sw hs];by_cases h:stk X=true/\stk Y=true
 ·simp [h]
 ·simp [h]
theorem g0_eq (hX:X.length<=1000) (hY:Y.length<=1000) (hs:sw.length<=1000):keN X Y sw=if askE X Y sw≠0 then some (askE X Y sw) else none:=by
 unfold keN;rw [krz hX hY];simp only [jab];rw [bad_p hs];simp only [jab];by_cases h:askE X Y sw=0
 ·rw [if_neg (by simp [h]),if_neg (by simp [h])];exact kxs _ _
 ·rw [if_pos (by simp [h]),if_pos h]
theorem g1_ok (hX:X.length<=1000) (hY:Y.length<=1000) (hs:sw.length<=1000) (h:askE X Y sw=0):∃ M U,keG X Y sw=some (0,Y,M,U,X.map λx=>x.2.2)/\MayL Y.length X.length (mayQ X Y sw) M/\U.length=Y.length/\∀ k,k<Y.length->U.getD k []=List.replicate X.length 0:=by
 obtain ⟨M,U,c,h2,b,a⟩:=kAB hX hY hs;refine ⟨M,U,?_,h2,b,a⟩;unfold keG;rw [krz hX hY];simp only [jab];rw [bad_p hs];simp only [jab];rw [if_neg (by simp [h]),kBn hX];simp only [jab,c]
end
theorem stk_N {l:Ya It} (h:stk l=true):l.length<=30/\∀ k,k<l.length->1<=needN l k/\needN l k<=1000:=by
 unfold stk at h;simp only [jac,jaj] at h;refine ⟨h.1.1,λk a=>?_⟩;rw [kql a];have:=jam.1 h.2 _ (jdx a);unfold okN at this;simpa using this
end Go.Abs
namespace Go.Abs.St
open Go Go.Abs
structure Is (σ:Nat->Nat) (l l':List Line):Prop where
 len:l'.length=l.length
 perm:l'.Perm l
 at':∀ k,l'[k]?=l[σ k]?
theorem Is.refl (l:Ya Line):Is (λk=>k) l l:=⟨rfl,.refl _,λ_=>rfl⟩
theorem Is.trans {σ τ:Nat->Nat} {l l' a:Ya Line} (h:Is σ l l') (h':Is τ l' a):Is (λk=>σ (τ k)) l a:=
 ⟨h'.len.trans h.len,h'.perm.trans h.perm,λk=>(h'.at' k).trans (h.at' _)⟩
theorem Is.congr {σ τ:Nat->Nat} {l l':Ya Line} (h:Is σ l l') (e:∀ k,k<l.length->σ k = τ k) (a:∀ k,l.length<=k->l.length<=τ k):Is τ l l':=
 ⟨h.len,h.perm,λk=>by
  by_cases b:k<l.length
  ·rw [h.at',e k b]
  ·rw [jch (by rw [h.len]; omega),jch (a k (by omega))]⟩
theorem Is.swap {l:Ya Line} {i j:Nat} (hi:i<l.length) (b:j<l.length):Is (λk=>if k=j then i else if k=i then j else k) l ((l.set i l[j]).set j l[i]):=by
 refine ⟨by simp,List.set_set_perm hi b,λk=>?_⟩;simp only [jcy,jbs];by_cases a:j=k
 ·subst a; simp [b,hi]
 ·rw [if_neg a];by_cases h2:i=k
  ·subst h2; simp [hi,b,a];rw [if_neg (λe=>a e.symm),jae b]
  ·rw [if_neg h2,if_neg (λe=>a e.symm),if_neg (λe=>h2 e.symm)]
theorem kmW (l:Ya Line) (i:Nat) (x:Line):lset l (i:Int) x=l.set i x:=rfl
theorem w64n {x:Int} {n:Nat} (h:x=n) (hn:n<=1000000):w64 x=(n:Int):=by rw [kbo (by omega) (by omega),h]
theorem kja (a b n:Nat) (cmp) (l:Ya Line) (t:a+n<=b) (h2:b+n<=l.length) (hl:l.length<=1000) :
  ∃ l',kaw a b n cmp l=some l'/\Is (λk=>if a<=k/\k<a+n then k+(b-a) else if b<=k/\k<b+n then k-(b-a) else k) l l':=by
 unfold kaw;obtain ⟨z,hz,hR⟩:=Fl.iter_inv (F:=kbr a b n)
  (λv=>∃ i:Nat,v.1=i/\i<=n/\Is (λk=>if a<=k/\k<a+i then k+(b-a) else if b<=k/\k<b+i then k-(b-a) else k) l v.2)
  (λv=>n-v.1.toNat) (λz=>Is (λk=>if a<=k/\k<a+n then k+(b-a) else if b<=k/\k<b+n then k-(b-a) else k) l z)
  (λ⟨p,v⟩ ⟨i,hi,o,c⟩=>by
   dsimp only at hi c ⊢;subst hi;unfold kbr;dsimp only;by_cases hc:i<n
   ·right;rw [if_pos (by simpa using hc)];have e:a+i<v.length:=by rw [c.len]; omega
    have f:b+i<v.length:=by rw [c.len]; omega
    rw [w64n (n:=b+i) (by push_cast; rfl) (by omega),w64n (n:=a+i) (by push_cast; rfl) (by omega),w64n (n:=i+1) (by push_cast; rfl) (by omega)];simp only [kkA,kmW,jae e,jae f,jab,jcy,jbs];rw [if_neg (by omega)];simp only [jab];refine ⟨_,rfl,⟨i+1,rfl,by omega,(c.trans (Is.swap e f)).congr (λk g=>?_) (λk g=>?_)⟩,by dsimp only; omega⟩
    ·repeat' split
     all_goals omega
    ·split <;> (try split) <;> omega
   ·left;rw [if_neg (by simpa using hc)];have:i=n:=by omega
    subst this;exact ⟨_,rfl,c⟩)
  (0,l) ⟨0,rfl,by omega,(Is.refl l).congr (λk g=>by rw [if_neg (by omega),if_neg (by omega)]) (λk g=>by rw [if_neg (by omega),if_neg (by omega)]; exact g)⟩ (by dsimp only; omega)
 rw [hz];exact ⟨z,rfl,hR⟩
def rotF (a m b k:Nat):Nat:=if k<a then k else if k<a+(b-m) then k+(m-a) else if k<b then k-(b-m) else k
theorem kwr (a m b:Nat) (cmp) (l:Ya Line) (O:a<m) (h2:m<b) (I:b<=l.length) (hl:l.length<=1000) :
  ∃ l',kaP a m b cmp l=some l'/\Is (rotF a m b) l l':=by
 unfold kaP;obtain ⟨z,hz,hR⟩:=Fl.iter_inv (F:=kbI m cmp)
  (λv=>∃ (i j:Nat) (σ:Nat->Nat),v.1=i/\v.2.1=j/\0<i/\0<j/\i<=m-a/\j<=b-m/\Is σ l v.2.2/\∀ k,k<l.length->σ (rotF (m-i) m (m+j) k)=rotF a m b k)
  (λv=>v.1.toNat+v.2.1.toNat)
  (λz=>∃ (i:Nat) (σ:Nat->Nat),z.1=i/\0<i/\i<=m-a/\i<=b-m/\Is σ l z.2/\∀ k,k<l.length->σ (rotF (m-i) m (m+i) k)=rotF a m b k)
  (λ⟨K,H,v⟩ ⟨i,j,σ,hi,A,o,G,t,y,c,p⟩=>by
   dsimp only at hi A c ⊢;subst hi; subst A;unfold kbI;dsimp only;by_cases E:i=j
   ·left;subst E;rw [if_neg (by simp)];exact ⟨_,rfl,i,σ,rfl,o,t,y,c,p⟩
   ·right;rw [if_pos (by simpa using (by omega:¬ ((i:Int)=j)))];by_cases w:j<i
    ·rw [if_pos (by simpa using w),w64n (n:=m-i) (by omega) (by omega),w64n (n:=i-j) (by omega) (by omega)];obtain ⟨l',e,f⟩:=kja (m-i) m j cmp v (by omega) (by rw [c.len]; omega) (by rw [c.len]; omega);rw [e];simp only [jab];refine ⟨_,rfl,⟨i-j,j,_,rfl,rfl,by omega,by omega,by omega,by omega,c.trans f,λk g=>?_⟩,by dsimp only; omega⟩;rw [<-p k g];congr 1;unfold rotF;split <;> (try split) <;> (try split) <;> (try split) <;> (try split) <;> (try split) <;> (try split) <;> (try split) <;> omega
    ·rw [if_neg (by simpa using w),w64n (x:=(m:Int)+j) (n:=m+j) (by omega) (by omega),w64n (x:=((m+j:Nat):Int)-i) (n:=m+j-i) (by omega) (by omega),w64n (x:=(m:Int)-i) (n:=m-i) (by omega) (by omega),w64n (x:=(j:Int)-i) (n:=j-i) (by omega) (by omega)];obtain ⟨l',e,f⟩:=kja (m-i) (m+j-i) i cmp v (by omega) (by rw [c.len]; omega) (by rw [c.len]; omega);rw [e];simp only [jab];refine ⟨_,rfl,⟨i,j-i,_,rfl,rfl,by omega,by omega,by omega,by omega,c.trans f,λk g=>?_⟩,by dsimp only; omega⟩;rw [<-p k g];congr 1;unfold rotF;split <;> (try split) <;> (try split) <;> (try split) <;> (try split) <;> (try split) <;> (try split) <;> (try split) <;> omega)
  (((m-a:Nat):Int),((b-m:Nat):Int),l) ⟨m-a,b-m,λk=>k,rfl,rfl,by omega,by omega,by omega,by omega,Is.refl l,λk g=>by rw [show m-(m-a)=a by omega,show m+(b-m)=b by omega]⟩ (by dsimp only; omega)
 rw [w64n (n:=m-a) (by omega) (by omega),w64n (n:=b-m) (by omega) (by omega),hz];simp only [jab];obtain ⟨i,σ,hi,o,t,C,c,p⟩:=hR;obtain ⟨J,D⟩:=z;dsimp only at hi c;subst hi;dsimp only;rw [w64n (n:=m-i) (by omega) (by omega)];obtain ⟨l',e,f⟩:=kja (m-i) m i cmp D (by omega) (by rw [c.len]; omega) (by rw [c.len]; omega);rw [e];refine ⟨l',rfl,(c.trans f).congr (λk g=>?_) (λk g=>by unfold rotF; split <;> (try split) <;> (try split) <;> omega)⟩;rw [<-p k g];congr 1;unfold rotF;split <;> (try split) <;> (try split) <;> (try split) <;> (try split) <;> (try split) <;> (try split) <;> (try split) <;> omega
def gg (l:Ya Line) (k:Nat):Line:=(l[k]?).getD (0,0,0,(0,0),false)
theorem kvT {l:Ya Line} {k:Nat} (h:k<l.length):gg l k=l[k]:=by unfold gg; rw [jae h]; rfl
theorem gi_gg {l:Ya Line} {k:Nat} (h:k<l.length):gi l (k:Int)=some (gg l k):=by rw [kkA,jae h,kvT h]
theorem Is.gg {σ:Nat->Nat} {l l':Ya Line} (h:Is σ l l') (k:Nat):gg l' k=gg l (σ k):=by unfold Go.Abs.St.gg; rw [h.at']
structure Mv (a b:Nat) (l l':List Line):Prop where
 len:l'.length=l.length
 perm:l'.Perm l
 out:∀ k,k<a\/b<=k->gg l' k=gg l k
 ins:∀ k,a<=k->k<b->∃ k',a<=k'/\k'<b/\gg l' k=gg l k'
theorem Mv.refl (a b:Nat) (l:Ya Line):Mv a b l l:=⟨rfl,.refl _,λ_ _=>rfl,λk c h2=>⟨k,c,h2,rfl⟩⟩
theorem Mv.trans {a b:Nat} {l l' c:Ya Line} (h:Mv a b l l') (h':Mv a b l' c):Mv a b l c:=
 ⟨h'.len.trans h.len,h'.perm.trans h.perm,λk f=>(h'.out k f).trans (h.out k f),λk z h2=>by
  obtain ⟨o,g1,g,p⟩:=h'.ins k z h2;obtain ⟨e,y,w,t⟩:=h.ins o g1 g;exact ⟨e,y,w,p.trans t⟩⟩
theorem Mv.wide {a b a' b':Nat} {l l':Ya Line} (h:Mv a b l l') (p:a'<=a) (t:b<=b'):Mv a' b' l l':=
 ⟨h.len,h.perm,λk c=>h.out k (by omega),λk f h2=>by
  by_cases c:a<=k/\k<b
  ·obtain ⟨e,g1,o,g⟩:=h.ins k c.1 c.2;exact ⟨e,by omega,by omega,g⟩
  ·exact ⟨k,f,h2,h.out k (by omega)⟩⟩
theorem Is.mv {σ:Nat->Nat} {a b:Nat} {l l':Ya Line} (h:Is σ l l') (e:∀ k,k<a\/b<=k->σ k=k) (h2:∀ k,a<=k->k<b->a<=σ k/\σ k<b):Mv a b l l':=
 ⟨h.len,h.perm,λk f=>by rw [h.gg,e k f],λk g1 c=>⟨σ k,(h2 k g1 c).1,(h2 k g1 c).2,h.gg k⟩⟩
def Lt (x y:Line):Prop:=x.1<y.1/\(0<=x.2.1/\x.2.1<=10000)/\0<=y.2.1/\y.2.1<=10000
structure COk (cmp:Line×Line->Option Int) (le:Line->Line->Prop):Prop where
 c:∀ x y,∃ v,cmp (x,y)=some v/\(Lt y x->(v<0↔¬ le y x))
 tr:∀ x y z,le x y->le y z->le x z
 tot:∀ x y,le x y\/le y x
def Tg (l:Ya Line) (a m b:Nat):Prop:=∀ i j,a<=i->i<m->m<=j->j<b->Lt (gg l i) (gg l j)
def Inc (l:Ya Line) (a b:Nat):Prop:=∀ i j,a<=i->i<j->j<b->Lt (gg l i) (gg l j)
def Srt (le:Line->Line->Prop) (l:Ya Line) (a b:Nat):Prop:=∀ i j,a<=i->i<j->j<b->le (gg l i) (gg l j)
section
variable {cmp:Line×Line->Yb Int} {le:Line->Line->Prop} (ok:COk cmp le)
include ok
theorem COk.rf (x:Line):le x x:=(ok.tot x x).elim id id
theorem Srt.le' {l:Ya Line} {a b:Nat} (h:Srt le l a b) {i j:Nat} (f:a<=i) (h2:i<=j) (c:j<b):le (gg l i) (gg l j):=by
 by_cases e:i=j
 ·subst e; exact ok.rf _
 ·exact h i j f (by omega) c
theorem COk.nle {x y:Line} (h:¬ le x y):le y x:=(ok.tot x y).resolve_left h
theorem ins1 {a i:Nat} {l:Ya Line} (hi:i<l.length) (K:a<=i) (hl:l.length<=1000) (hs:Srt le l a i) (O:Tg l a i (i+1)) :
  ∃ l',iter (kaF a cmp) ((i:Int),l)=some l'/\Mv a (i+1) l l'/\Srt le l' a (i+1):=by
 refine Fl.iter_inv (F:=kaF a cmp) (λv=>∃ j:Nat,v.1=j/\a<=j/\j<=i/\Mv a (i+1) l v.2/\(gg v.2 j=gg l i/\∀ k,a<=k->k<=i->k≠j->Lt (gg v.2 k) (gg l i))/\∀ x y,a<=x->x<y->y<=i->y≠j->le (gg v.2 x) (gg v.2 y))
  (λv=>v.1.toNat) (λl'=>Mv a (i+1) l l'/\Srt le l' a (i+1)) (λ⟨P,v⟩ ⟨j,I,Q,h2,hm,hT,p⟩=>?_) _ ⟨i,rfl,K,jag _,.refl _ _ _,⟨rfl,λk k1 k2 k3=>O k i k1 (by omega) (jag _) (by omega)⟩,λx y g1 o w J=>hs x y g1 o (by omega)⟩ (by dsimp only; omega)
 dsimp only at I hm hT p ⊢;subst I;unfold kaF;dsimp only;by_cases hc:a<j
 ·rw [if_pos (by simpa using hc)];have D:j<v.length:=by rw [hm.len]; omega
  have C:j-1<v.length:=by omega
  rw [w64n (n:=j-1) (by omega) (by omega)];obtain ⟨c,E,g⟩:=ok.c (gg v j) (gg v (j-1));replace g:=g (by rw [hT.1]; exact hT.2 (j-1) (by omega) (by omega) (by omega));rw [gi_gg D,gi_gg C];simp only [jab];rw [E];simp only [jab];by_cases b:c<0
  ·right;rw [if_pos (by simpa using b),kvT D,kvT C];simp only [kkA,kmW,jcy,jbs];rw [if_neg (by omega),jae C];simp only [jab];have f:=Is.swap D C;have G:=g.1 b;refine ⟨_,rfl,⟨j-1,rfl,by omega,by omega,hm.trans (f.mv (λk W=>?_) (λk g1 o=>?_)),⟨by dsimp only; rw [f.gg,if_pos rfl]; exact hT.1,λk k1 k2 k3=>?_⟩,λx y g1 o w J=>?_⟩,by dsimp only; omega⟩
   ·rw [if_neg (by omega),if_neg (by omega)]
   ·split
    ·omega
    ·split <;> omega
   ·dsimp only;rw [f.gg,if_neg (show ¬ k=j-1 from k3)];split
    ·exact hT.2 (j-1) (by omega) (by omega) (by omega)
    ·exact hT.2 k k1 k2 (by omega)
   ·dsimp only;rw [f.gg,f.gg];by_cases A:y=j
    ·subst A;rw [if_neg (show ¬ y=y-1 by omega),if_pos rfl];by_cases t:x=y-1
     ·rw [if_pos t]; exact ok.nle G
     ·rw [if_neg t,if_neg (by omega)]; exact p x (y-1) g1 (by omega) (by omega) (by omega)
    ·rw [if_neg (show ¬ y=j-1 from J),if_neg A];by_cases t:x=j-1
     ·rw [if_pos t]; exact p j y (by omega) (by omega) w A
     ·rw [if_neg t];by_cases H:x=j
      ·rw [if_pos H]; exact p (j-1) y (by omega) (by omega) w A
      ·rw [if_neg H]; exact p x y g1 o w A
  ·left;rw [if_neg (by simpa using b)];refine ⟨_,rfl,hm,λx y g1 o w=>?_⟩;have z:le (gg v (j-1)) (gg v j):=Classical.byContradiction λh=>b (g.2 h);by_cases e:y=j
   ·subst e;by_cases t:x=y-1
    ·rw [t]; exact z
    ·exact ok.tr _ _ _ (p x (y-1) g1 (by omega) (by omega) (by omega)) z
   ·exact p x y g1 o (by omega) e
 ·left;rw [if_neg (by simpa using hc)];exact ⟨_,rfl,hm,λx y g1 o w=>p x y g1 o (by omega) (by omega)⟩
theorem kvk {a b:Nat} {l:Ya Line} (E:a<=1000) (I:b<=l.length) (hl:l.length<=1000) (A:Inc l a b):∃ l',kay a b cmp l=some l'/\Mv a b l l'/\Srt le l' a b:=by
 unfold kay;by_cases C:b<=a
 ·refine ⟨l,?_,.refl _ _ _,λi j c h2 t=>by omega⟩;rw [w64n (n:=a+1) (by push_cast; rfl) (by omega),kkq (n:=1) (kgh (z:=l) (by unfold kaG; dsimp only; rw [if_neg (by simp; omega)])) (by omega)];rfl
 ·obtain ⟨z,hz,c,h2⟩:=Fl.iter_inv (F:=kaG a b cmp) (λv=>∃ i:Nat,v.1=i/\a<i/\i<=b/\Mv a i l v.2/\Srt le v.2 a i)
   (λv=>b-v.1.toNat) (λl'=>Mv a b l l'/\Srt le l' a b) (λ⟨H,v⟩ ⟨i,hi,c,h2,hm,f⟩=>by
    dsimp only at hi hm f ⊢;subst hi;unfold kaG;dsimp only;by_cases hc:i<b
    ·right;rw [if_pos (by simpa using hc)];obtain ⟨l',e,g1,p⟩:=ins1 ok (a:=a) (i:=i) (l:=v) (by rw [hm.len]; omega) (by omega) (by rw [hm.len]; omega) f (λx y k1 k2 k3 D=>by
      obtain ⟨w,g,G,o⟩:=hm.ins x k1 k2;rw [o,hm.out y (.inr k3)]; exact A w y g (by omega) (by omega))
     rw [e];simp only [jab];rw [w64n (n:=i+1) (by push_cast; rfl) (by omega)];exact ⟨_,rfl,⟨i+1,rfl,by omega,by omega,(hm.wide (jag _) (by omega)).trans (g1.wide (jag _) (jag _)),p⟩,by dsimp only; omega⟩
    ·left;rw [if_neg (by simpa using hc)];exact ⟨_,rfl,hm.wide (jag _) h2,by rwa [show i=b by omega] at f⟩)
   (((a+1:Nat):Int),l) ⟨a+1,rfl,by omega,by omega,.refl _ _ _,λi j c h2 t=>by omega⟩ (by dsimp only; omega)
  rw [w64n (n:=a+1) (by push_cast; rfl) (by omega),hz];exact ⟨z,rfl,c,h2⟩
end
theorem kmV {i j:Nat} (h:i+j<=100000):gshr .u64 (IntKind.wrap .u64 (w64 ((i:Int)+j))) 1=some (((i+j) / 2:Nat):Int):=by
 rw [w64n (n:=i+j) (by push_cast; rfl) (by omega)];have a:IntKind.wrap .u64 ((i+j:Nat):Int)=((i+j:Nat):Int):=by
  unfold IntKind.wrap;simp [IntKind.bits,IntKind.signed];omega
 rw [a];unfold gshr;rw [if_pos (by omega)];have:(2:Int) ^ (min (1:Int).toNat (IntKind.bits .u64))=2:=by decide
 rw [this,Int.fdiv_eq_ediv_of_nonneg _ (by omega)];congr 1
section
variable {cmp:Line×Line->Yb Int} {le:Line->Line->Prop} (ok:COk cmp le)
include ok
theorem sm_L0 {a m b:Nat} {l:Ya Line} (D:a<l.length) (hm:m<=b) (O:b<=l.length) (hl:l.length<=1000) (hs:Srt le l m b) (E:∀ k,m<=k->k<b->Lt (gg l a) (gg l k)) :
  ∃ z,iter (kaX a cmp l) ((m:Int),(b:Int))=some z/\∃ i:Nat,z=i/\m<=i/\i<=b/\(∀ k,m<=k->k<i->¬ le (gg l a) (gg l k))/\∀ k,i<=k->k<b->le (gg l a) (gg l k):=by
 refine Fl.iter_inv (F:=kaX a cmp l) (λv=>∃ i j:Nat,v.1=i/\v.2=j/\m<=i/\i<=j/\j<=b/\(∀ k,m<=k->k<i->¬ le (gg l a) (gg l k))/\∀ k,j<=k->k<b->le (gg l a) (gg l k))
  (λv=>v.2.toNat-v.1.toNat) (λz=>∃ i:Nat,z=i/\m<=i/\i<=b/\(∀ k,m<=k->k<i->¬ le (gg l a) (gg l k))/\∀ k,i<=k->k<b->le (gg l a) (gg l k)) (λ⟨K,G⟩ ⟨i,j,hi,w,A,h2,C,y,t⟩=>?_) _ ⟨m,b,rfl,rfl,jag _,hm,jag _,λk g1 o=>by omega,λk g1 o=>by omega⟩ (by dsimp only; omega)
 dsimp only at hi w ⊢;subst hi; subst w;unfold kaX;dsimp only;by_cases hc:i<j
 ·right;rw [if_pos (by simpa using hc),kmV (by omega)];generalize J:(i+j) / 2=h;have I:i<=h:=by omega
  have H:h<j:=by omega
  simp only [jab];rw [w64n (x:=(h:Int)) (n:=h) rfl (by omega),gi_gg (show h<l.length by omega),gi_gg D];simp only [jab];obtain ⟨c,p,f⟩:=ok.c (gg l h) (gg l a);replace f:=f (E h (by omega) (by omega));rw [p];simp only [jab];by_cases e:c<0
  ·rw [if_pos (by simpa using e),w64n (n:=h+1) (by push_cast; rfl) (by omega)];refine ⟨_,rfl,⟨h+1,j,rfl,rfl,by omega,by omega,C,λk g1 o g=>f.1 e ?_,t⟩,by dsimp only; omega⟩;exact ok.tr _ _ _ g (hs.le' ok g1 (by omega) (by omega))
  ·rw [if_neg (by simpa using e)];have g:le (gg l a) (gg l h):=Classical.byContradiction λx=>e (f.2 x);exact ⟨_,rfl,⟨i,h,rfl,rfl,A,by omega,by omega,y,λk g1 o=>ok.tr _ _ _ g (hs.le' ok (by omega) g1 o)⟩,by dsimp only; omega⟩
 ·left;rw [if_neg (by simpa using hc)];exact ⟨_,rfl,i,rfl,A,by omega,y,λk g1 o=>t k (by omega) o⟩
theorem sm_L2 {a m:Nat} {l:Ya Line} (hm:m<l.length) (C:a<=m) (hl:l.length<=1000) (hs:Srt le l a m) (D:∀ k,a<=k->k<m->Lt (gg l k) (gg l m)) :
  ∃ z,iter (kaU m cmp l) ((a:Int),(m:Int))=some z/\∃ i:Nat,z=i/\a<=i/\i<=m/\(∀ k,a<=k->k<i->le (gg l k) (gg l m))/\∀ k,i<=k->k<m->¬ le (gg l k) (gg l m):=by
 refine Fl.iter_inv (F:=kaU m cmp l) (λv=>∃ i j:Nat,v.1=i/\v.2=j/\a<=i/\i<=j/\j<=m/\(∀ k,a<=k->k<i->le (gg l k) (gg l m))/\∀ k,j<=k->k<m->¬ le (gg l k) (gg l m))
  (λv=>v.2.toNat-v.1.toNat) (λz=>∃ i:Nat,z=i/\a<=i/\i<=m/\(∀ k,a<=k->k<i->le (gg l k) (gg l m))/\∀ k,i<=k->k<m->¬ le (gg l k) (gg l m)) (λ⟨J,E⟩ ⟨i,j,hi,t,y,h2,A,w,p⟩=>?_) _ ⟨a,m,rfl,rfl,jag _,C,jag _,λk g1 g=>by omega,λk g1 g=>by omega⟩ (by dsimp only; omega)
 dsimp only at hi t ⊢;subst hi; subst t;unfold kaU;dsimp only;by_cases hc:i<j
 ·right;rw [if_pos (by simpa using hc),kmV (by omega)];generalize I:(i+j) / 2=h;have H:i<=h:=by omega
  have G:h<j:=by omega
  simp only [jab];rw [w64n (x:=(h:Int)) (n:=h) rfl (by omega),gi_gg (show h<l.length by omega),gi_gg hm];simp only [jab];obtain ⟨c,o,e⟩:=ok.c (gg l m) (gg l h);replace e:=e (D h (by omega) (by omega));rw [o];simp only [jab];by_cases b:c<0
  ·rw [if_neg (by simpa using b)];exact ⟨_,rfl,⟨i,h,rfl,rfl,y,by omega,by omega,w,λk g1 g f=>e.1 b (ok.tr _ _ _ (hs.le' ok (by omega) g1 g) f)⟩,by dsimp only; omega⟩
  ·rw [if_pos (by simpa using b),w64n (n:=h+1) (by push_cast; rfl) (by omega)];have f:le (gg l h) (gg l m):=Classical.byContradiction λx=>b (e.2 x);exact ⟨_,rfl,⟨h+1,j,rfl,rfl,by omega,by omega,A,λk g1 g=>ok.tr _ _ _ (hs.le' ok g1 (by omega) (by omega)) f,p⟩,by dsimp only; omega⟩
 ·left;rw [if_neg (by simpa using hc)];exact ⟨_,rfl,i,rfl,y,by omega,w,λk g1 g=>p k (by omega) g⟩
theorem sm_L4 {lo hi n m:Nat} {md:Int} {l:Ya Line} (o:lo<=hi) (G:md+m=n) (E:0<=md) (W:hi<n) (hn:n<=l.length+lo) (D:hi<=l.length) (hl:l.length<=1000) (H:n<=3000) (I:∀ k,lo<=k->k<hi->Lt (gg l k) (gg l (n-1-k))) :
  ∃ z,iter (kaY m cmp l md) ((lo:Int),(hi:Int))=some z/\∃ s:Nat,z=s/\lo<=s/\s<=hi/\(lo<s->le (gg l (s-1)) (gg l (n-s)))/\(s<hi->¬ le (gg l s) (gg l (n-1-s))):=by
 refine Fl.iter_inv (F:=kaY m cmp l md) (λv=>∃ i j:Nat,v.1=i/\v.2=j/\lo<=i/\i<=j/\j<=hi/\(lo<i->le (gg l (i-1)) (gg l (n-i)))/\(j<hi->¬ le (gg l j) (gg l (n-1-j))))
  (λv=>v.2.toNat-v.1.toNat) (λz=>∃ s:Nat,z=s/\lo<=s/\s<=hi/\(lo<s->le (gg l (s-1)) (gg l (n-s)))/\(s<hi->¬ le (gg l s) (gg l (n-1-s)))) (λ⟨Q,J⟩ ⟨i,j,e,w,C,h2,A,y,t⟩=>?_) _ ⟨lo,hi,rfl,rfl,jag _,o,jag _,λg=>by omega,λg=>by omega⟩ (by dsimp only; omega)
 dsimp only at e w ⊢;subst e; subst w;unfold kaY;dsimp only;by_cases hc:i<j
 ·right;rw [if_pos (by simpa using hc),kmV (by omega)];generalize P:(i+j) / 2=h;have O:i<=h:=by omega
  have K:h<j:=by omega
  simp only [jab];rw [w64n (x:=(h:Int)) (n:=h) rfl (by omega),kbo (x:=md) (by omega) (by omega),w64n (x:=md+m) (n:=n) (by omega) (by omega),w64n (x:=(n:Int)-1) (n:=n-1) (by omega) (by omega),w64n (x:=((n-1:Nat):Int)-h) (n:=n-1-h) (by omega) (by omega),gi_gg (show n-1-h<l.length by omega),gi_gg (show h<l.length by omega)];simp only [jab];obtain ⟨c,p,b⟩:=ok.c (gg l (n-1-h)) (gg l h);replace b:=b (I h (by omega) (by omega));rw [p];simp only [jab];by_cases a:c<0
  ·rw [if_neg (by simpa using a)];exact ⟨_,rfl,⟨i,h,rfl,rfl,C,by omega,by omega,y,λ_=>b.1 a⟩,by dsimp only; omega⟩
  ·rw [if_pos (by simpa using a),w64n (n:=h+1) (by push_cast; rfl) (by omega)];have f:le (gg l h) (gg l (n-1-h)):=Classical.byContradiction λx=>a (b.2 x);exact ⟨_,rfl,⟨h+1,j,rfl,rfl,by omega,by omega,A,λ_=>by rw [show h+1-1=h by omega,show n-(h+1)=n-1-h by omega]; exact f,t⟩,by dsimp only; omega⟩
 ·left;rw [if_neg (by simpa using hc)];obtain rfl:i=j:=by omega
  exact ⟨_,rfl,i,rfl,C,A,y,t⟩
end
theorem sm_L1 {a i:Nat} {l:Ya Line} (p:a<i) (hi:i<=l.length) (hl:l.length<=1000) :
  ∃ l',iter (kaV i) ((a:Int),l)=some l'/\Is (λk=>if a<=k/\k<i-1 then k+1 else if k=i-1 then a else k) l l':=by
 refine Fl.iter_inv (F:=kaV i) (λv=>∃ j:Nat,v.1=j/\a<=j/\j<=i-1/\Is (λk=>if a<=k/\k<j then k+1 else if k=j then a else k) l v.2)
  (λv=>i-v.1.toNat) (λl'=>Is (λk=>if a<=k/\k<i-1 then k+1 else if k=i-1 then a else k) l l') (λ⟨o,v⟩ ⟨j,e,t,h2,b⟩=>?_) _ ⟨a,rfl,jag _,by omega,(Is.refl l).congr (λk c=>by rw [if_neg (by omega)]; split <;> omega) (λk c=>by rw [if_neg (by omega),if_neg (by omega)]; exact c)⟩ (by dsimp only; omega)
 dsimp only at e b ⊢;subst e;unfold kaV;dsimp only;rw [w64n (x:=(i:Int)-1) (n:=i-1) (by omega) (by omega)];by_cases hc:j<i-1
 ·right;have g:j<v.length:=by rw [b.len]; omega
  have f:j+1<v.length:=by rw [b.len]; omega
  rw [if_pos (by simpa using hc),w64n (n:=j+1) (by push_cast; rfl) (by omega)];simp only [kkA,kmW,jae g,jae f,jab,jcy,jbs];rw [if_neg (by omega)];simp only [jab];refine ⟨_,rfl,⟨j+1,rfl,by omega,by omega,(b.trans (Is.swap g f)).congr (λk c=>?_) (λk c=>?_)⟩,by dsimp only; omega⟩
  ·repeat' split
   all_goals omega
  ·repeat' split
   all_goals omega
 ·left;rw [if_neg (by simpa using hc)];obtain rfl:j=i-1:=by omega
  exact ⟨_,rfl,b⟩
theorem sm_L3 {m i:Nat} {l:Ya Line} (hi:i<=m) (hm:m<l.length) (hl:l.length<=1000) :
  ∃ l',iter (kaW i) ((m:Int),l)=some l'/\Is (λk=>if k=i then m else if i<k/\k<=m then k-1 else k) l l':=by
 refine Fl.iter_inv (F:=kaW i) (λv=>∃ j:Nat,v.1=j/\i<=j/\j<=m/\Is (λk=>if k=j then m else if j<k/\k<=m then k-1 else k) l v.2)
  (λv=>v.1.toNat) (λl'=>Is (λk=>if k=i then m else if i<k/\k<=m then k-1 else k) l l') (λ⟨g,v⟩ ⟨j,c,o,h2,a⟩=>?_) _ ⟨m,rfl,hi,jag _,(Is.refl l).congr (λk b=>by split <;> (try split) <;> omega) (λk b=>by split <;> (try split) <;> omega)⟩ (by dsimp only; omega)
 dsimp only at c a ⊢;subst c;unfold kaW;dsimp only;by_cases hc:i<j
 ·right;have f:j<v.length:=by rw [a.len]; omega
  have e:j-1<v.length:=by omega
  rw [if_pos (by simpa using hc),w64n (n:=j-1) (by omega) (by omega)];simp only [kkA,kmW,jae f,jae e,jab,jcy,jbs];rw [if_neg (by omega)];simp only [jab];refine ⟨_,rfl,⟨j-1,rfl,by omega,by omega,(a.trans (Is.swap f e)).congr (λk b=>?_) (λk b=>?_)⟩,by dsimp only; omega⟩
  ·repeat' split
   all_goals omega
  ·repeat' split
   all_goals omega
 ·left;rw [if_neg (by simpa using hc)];obtain rfl:j=i:=by omega
  exact ⟨_,rfl,a⟩
theorem kxl {s m e k:Nat} (hs:s<=m) (hm:m<=e) (h:¬ (s<m/\m<e)):k=rotF s m e k:=by
 unfold rotF; repeat' split
 all_goals omega
theorem kzt {s m e k:Nat} (hs:s<=m) (hm:m<=e) (h:k<s\/e<=k):rotF s m e k=k:=by
 unfold rotF; repeat' split
 all_goals omega
theorem kAP {s m e k:Nat} (hs:s<=m) (hm:m<=e) (a:s<=k) (h2:k<e):s<=rotF s m e k/\rotF s m e k<e:=by
 unfold rotF; repeat' split
 all_goals omega
section
variable {cmp:Line×Line->Yb Int} {le:Line->Line->Prop} (ok:COk cmp le)
theorem Srt.out {l l':Ya Line} {a b x y:Nat} (h:Mv a b l l') (hs:Srt le l x y) (f:y<=a\/b<=x):Srt le l' x y:=λi j e h2 c=>by
 rw [h.out i (by omega),h.out j (by omega)]; exact hs i j e h2 c
include ok
theorem kht:∀ (N a m b:Nat) (l:Ya Line),b-a<=N->a<m->m<b->b<=l.length->l.length<=1000->Srt le l a m->Srt le l m b->Tg l a m b->
  ∃ l',kam N a m b cmp l=some l'/\Mv a b l l'/\Srt le l' a b
 | 0,a,m,b,l,hN,h1,h2,h3,hl,s1,s2,ht=>by omega
 | N+1,a,m,b,l,hN,h1,h2,h3,hl,s1,s2,ht=>by
  show ∃ l',kbC (kam N) a m b cmp l=some l'/\_;unfold kbC;rw [w64n (x:=(m:Int)-a) (n:=m-a) (by omega) (by omega),w64n (x:=(b:Int)-m) (n:=b-m) (by omega) (by omega)];by_cases c1:m-a=1
  ·rw [if_pos (by simpa using (by omega:((m-a:Nat):Int)=1))];obtain ⟨z,hz,i,rfl,g1,g2,g3,g4⟩:=sm_L0 ok (a:=a) (by omega) (Nat.le_of_lt h2) h3 hl s2 (λk k1 k2=>ht a k (jag _) h1 k1 k2);rw [hz];simp only [jab];obtain ⟨l',e,f⟩:=sm_L1 (a:=a) (i:=i) (l:=l) (by omega) (by omega) hl;rw [e];refine ⟨l',rfl,f.mv (λk G=>?_) (λk k1 k2=>?_),λx y k1 k2 k3=>?_⟩
   ·rw [if_neg (by omega),if_neg (by omega)]
   ·repeat' split
    all_goals omega
   ·rw [f.gg,f.gg];by_cases e1:y<i-1
    ·rw [if_pos (by omega),if_pos (by omega)]; exact s2 _ _ (by omega) (by omega) (by omega)
    ·by_cases H:y=i-1
     ·rw [if_pos (show a<=x/\x<i-1 by omega),if_neg (by omega),if_pos H];exact ok.nle (g3 (x+1) (by omega) (by omega))
     ·rw [if_neg (show ¬ (a<=y/\y<i-1) by omega),if_neg H];have hy:le (gg l a) (gg l y):=g4 y (by omega) k3;by_cases e3:x<i-1
      ·rw [if_pos (by omega)]; exact ok.tr _ _ _ (ok.nle (g3 (x+1) (by omega) (by omega))) hy
      ·rw [if_neg (by omega)];by_cases W:x=i-1
       ·rw [if_pos W]; exact hy
       ·rw [if_neg W]; exact s2 x y (by omega) k2 k3
  rw [if_neg (by simpa using (by omega:¬ ((m-a:Nat):Int)=1))];by_cases c2:b-m=1
  ·rw [if_pos (by simpa using (by omega:((b-m:Nat):Int)=1))];obtain ⟨z,hz,i,rfl,g1,g2,g3,g4⟩:=sm_L2 ok (a:=a) (m:=m) (by omega) (Nat.le_of_lt h1) hl s1 (λk k1 k2=>ht k m k1 k2 (jag _) h2);rw [hz];simp only [jab];obtain ⟨l',e,f⟩:=sm_L3 (m:=m) (i:=i) (l:=l) g2 (by omega) hl;rw [e];refine ⟨l',rfl,f.mv (λk G=>?_) (λk k1 k2=>?_),λx y k1 k2 k3=>?_⟩
   ·rw [if_neg (by omega),if_neg (by omega)]
   ·repeat' split
    all_goals omega
   ·rw [f.gg,f.gg];by_cases e1:y<i
    ·rw [if_neg (by omega),if_neg (by omega),if_neg (by omega),if_neg (by omega)]; exact s1 _ _ k1 k2 (by omega)
    ·by_cases H:y=i
     ·rw [if_neg (show ¬ x=i by omega),if_neg (by omega),if_pos H];exact g3 x k1 (by omega)
     ·rw [if_neg H,if_pos (show i<y/\y<=m by omega)];by_cases e3:x<i
      ·rw [if_neg (by omega),if_neg (by omega)];exact s1 x (y-1) k1 (by omega) (by omega)
      ·by_cases W:x=i
       ·rw [if_pos W];exact ok.nle (g4 (y-1) (by omega) (by omega))
       ·rw [if_neg W,if_pos (by omega)];exact s1 (x-1) (y-1) (by omega) (by omega) (by omega)
  rw [if_neg (by simpa using (by omega:¬ ((b-m:Nat):Int)=1)),kmV (by omega)];generalize al:(a+b) / 2=c;simp only [jab];rw [w64n (x:=(c:Int)) (n:=c) rfl (by omega),w64n (x:=(c:Int)+m) (n:=c+m) (by push_cast; rfl) (by omega)];obtain ⟨lo,hi,ak,q1,q2,q3,q4,q5,q6⟩:∃ lo hi:Nat,(if decide ((c:Int)<(m:Int))=true then (some (w64 (((c+m:Nat):Int)-b),(c:Int)):Yb (Int×Int)) else some ((a:Int),(m:Int)))=some ((lo:Int),(hi:Int))/\lo<=hi/\hi<c+m/\c+m<=l.length+lo/\hi<=l.length/\(hi=m/\m<=c\/hi=c/\c<m)/\(lo=a/\m<=c\/lo+b=c+m/\c<m):=by
   by_cases hc:c<m
   ·refine ⟨c+m-b,c,?_,by omega,by omega,by omega,by omega,.inr ⟨rfl,hc⟩,.inr ⟨by omega,hc⟩⟩;rw [if_pos (by simpa using hc),w64n (n:=c+m-b) (by omega) (by omega)]
   ·exact ⟨a,m,by rw [if_neg (by simpa using hc)],by omega,by omega,by omega,by omega,.inl ⟨rfl,by omega⟩,.inl ⟨rfl,by omega⟩⟩
  rw [ak];simp only [jab];obtain ⟨z,hz,s,rfl,r1,r2,r3,r4⟩:=sm_L4 ok (l:=l) (lo:=lo) (hi:=hi) (n:=c+m) (m:=m) (md:=c) q1 (by push_cast; rfl) (by omega) q2 q3 q4 hl (by omega) (λk k1 k2=>ht k _ (by omega) (by omega) (by omega) (by omega));rw [hz];simp only [jab];obtain ⟨e,he⟩:∃ e,e=c+m-s:=⟨_,rfl⟩;rw [w64n (x:=((c+m:Nat):Int)-s) (n:=e) (by omega) (by omega)];have am:e+s=c+m:=by omega
  have has:a<=s:=by omega
  have p:s<=m:=by omega
  have an:s<=c:=by omega
  have t:m<=e:=by omega
  have ac:c<=e:=by omega
  have ad:e<=b:=by omega
  rw [show c+m-s=e by omega,show c+m-1-s=e-1 by omega] at *
  obtain ⟨l1,o,f⟩:∃ l1,((if decide ((s:Int)<(m:Int))=true then (some (decide ((m:Int)<(e:Int))):Yb Bool) else some false).bind λaa=>((if aa=true then ((kaP s m e cmp l).bind λae=>some ae) else some l):Yb (Ya Line)))=some l1/\Is (rotF s m e) l l1:=by
   by_cases hc:s<m/\m<e
   ·rw [if_pos (by simpa using hc.1)];simp only [jab];rw [if_pos (by simpa using hc.2)];obtain ⟨l1,J,I⟩:=kwr s m e cmp l hc.1 hc.2 (by omega) hl;exact ⟨l1,by rw [J]; rfl,I⟩
   ·refine ⟨l,?_,(Is.refl l).congr (λk G=>kxl p t hc) (λk G=>by rw [<-kxl p t hc]; exact G)⟩;by_cases g:s<m
    ·rw [if_pos (by simpa using g)];simp only [jab];rw [if_neg (by simp; omega)]
    ·rw [if_neg (by simpa using g)]; rfl
  obtain ⟨aa,Z,o⟩:=jaa.1 o;rw [Z];simp only [jab];rw [o];simp only [jab];have ah:=f.len;have p1:Srt le l1 a s:=λx y k1 k2 k3=>by
   rw [f.gg,f.gg]; unfold rotF; rw [if_pos (by omega),if_pos (by omega)]; exact s1 x y k1 k2 (by omega)
  have p2:Srt le l1 s c:=λx y k1 k2 k3=>by
   rw [f.gg,f.gg]; unfold rotF;rw [if_neg (by omega),if_pos (by omega),if_neg (by omega),if_pos (by omega)]; exact s2 _ _ (by omega) (by omega) (by omega)
  have p3:Srt le l1 c e:=λx y k1 k2 k3=>by
   rw [f.gg,f.gg]; unfold rotF;rw [if_neg (by omega),if_neg (by omega),if_pos (by omega),if_neg (by omega),if_neg (by omega),if_pos (by omega)]; exact s1 _ _ (by omega) (by omega) (by omega)
  have p4:Srt le l1 e b:=λx y k1 k2 k3=>by
   rw [f.gg,f.gg]; unfold rotF;rw [if_neg (by omega),if_neg (by omega),if_neg (by omega),if_neg (by omega),if_neg (by omega),if_neg (by omega)]; exact s2 _ _ (by omega) k2 k3
  have t1:Tg l1 a s c:=λx y k1 k2 k3 C=>by
   rw [f.gg,f.gg]; unfold rotF; rw [if_pos (by omega),if_neg (by omega),if_pos (by omega)]; exact ht _ _ k1 (by omega) (by omega) (by omega)
  have t4:Tg l1 c e b:=λx y k1 k2 k3 C=>by
   rw [f.gg,f.gg]; unfold rotF;rw [if_neg (by omega),if_neg (by omega),if_pos (by omega),if_neg (by omega),if_neg (by omega),if_neg (by omega)]; exact ht _ _ (by omega) (by omega) (by omega) C
  have F:∀ x y,a<=x->x<c->c<=y->y<b->le (gg l1 x) (gg l1 y):=λx y k1 k2 k3 C=>by
   rw [f.gg,f.gg];unfold rotF;by_cases f1:x<s
   ·rw [if_pos f1,if_neg (by omega),if_neg (by omega)];by_cases A:y<e
    ·rw [if_pos A]; exact s1.le' ok k1 (by omega) (by omega)
    ·rw [if_neg A];exact ok.tr _ _ _ (s1.le' ok (i:=x) (j:=s-1) k1 (by omega) (by omega)) (ok.tr _ _ _ (r3 (by omega)) (s2.le' ok (i:=e) (j:=y) (by omega) (by omega) C))
   ·rw [if_neg f1,if_pos (by omega),if_neg (by omega),if_neg (by omega)];by_cases A:y<e
    ·rw [if_pos A];exact ok.tr _ _ _ (s2.le' ok (i:=x+(m-s)) (j:=e-1) (by omega) (by omega) (by omega)) (ok.tr _ _ _ (ok.nle (r4 (by omega))) (s1.le' ok (i:=s) (j:=y-(e-m)) (by omega) (by omega) (by omega)))
    ·rw [if_neg A]; exact s2.le' ok (by omega) (by omega) C
  have m1:Mv a b l l1:=(f.mv (a:=s) (b:=e) (λk G=>kzt p t G) (λk k1 k2=>kAP p t k1 k2)).wide has ad;obtain ⟨l2,D,w,t2⟩:∃ l2,((if decide ((a:Int)<(s:Int))=true then (some (decide ((s:Int)<(c:Int))):Yb Bool) else some false).bind λK=>((if K=true then ((kam N a s c cmp l1).bind λaf=>some af) else some l1):Yb (Ya Line)))=some l2/\Mv a c l1 l2/\Srt le l2 a c:=by
   by_cases hc:a<s/\s<c
   ·rw [if_pos (by simpa using hc.1)];simp only [jab];rw [if_pos (by simpa using hc.2)];obtain ⟨l2,J,I,h6⟩:=kht N a s c l1 (by omega) hc.1 hc.2 (by omega) (by omega) p1 p2 t1;exact ⟨l2,by rw [J]; rfl,I,h6⟩
   ·refine ⟨l1,?_,.refl _ _ _,λx y k1 k2 k3=>?_⟩
    ·by_cases g:a<s
     ·rw [if_pos (by simpa using g)];simp only [jab];rw [if_neg (by simp; omega)]
     ·rw [if_neg (by simpa using g)]; rfl
    ·by_cases g:a<s
     ·exact p1 x y k1 k2 (by omega)
     ·exact p2 x y (by omega) k2 k3
  obtain ⟨K,Q,D⟩:=jaa.1 D;rw [Q];simp only [jab];rw [D];simp only [jab];have aj:=w.len;have P:=p3.out w (.inr (jag _));have O:=p4.out w (.inr ac);obtain ⟨E,ab,m3,t3⟩:∃ E,((if decide ((c:Int)<(e:Int))=true then (if decide ((e:Int)<(b:Int))=true then ((kam N c e b cmp l2).bind λai=>some ai) else some l2) else some l2):Yb (Ya Line))=some E/\Mv c b l2 E/\Srt le E c b:=by
   by_cases hc:c<e/\e<b
   ·rw [if_pos (by simpa using hc.1),if_pos (by simpa using hc.2)];obtain ⟨E,J,I,h6⟩:=kht N c e b l2 (by omega) hc.1 hc.2 (by omega) (by omega) P O (λx y k1 k2 k3 C=>by rw [w.out x (by omega),w.out y (by omega)]; exact t4 x y k1 k2 k3 C);exact ⟨E,by rw [J]; rfl,I,h6⟩
   ·refine ⟨l2,?_,.refl _ _ _,λx y k1 k2 k3=>?_⟩
    ·by_cases g:c<e
     ·rw [if_pos (by simpa using g),if_neg (by simp; omega)]
     ·rw [if_neg (by simpa using g)]
    ·by_cases g:c<e
     ·exact P x y k1 k2 (by omega)
     ·exact O x y (by omega) k2 k3
  rw [ab];refine ⟨E,rfl,m1.trans ((w.wide (jag _) (by omega)).trans (m3.wide (by omega) (jag _))),λx y k1 k2 k3=>?_⟩;by_cases f1:y<c
  ·exact t2.out m3 (.inl (jag _)) x y k1 k2 f1
  ·by_cases A:c<=x
   ·exact t3 x y A k2 k3
   ·rw [m3.out x (by omega)];obtain ⟨y',y1,y2,y3⟩:=m3.ins y (by omega) k3;obtain ⟨x',x1,x2,x3⟩:=w.ins x k1 (by omega);rw [y3,x3,w.out y' (by omega)];exact F x' y' x1 x2 y1 y2
end
theorem kkZ {q a c:Nat} (h:a<q):a*c+c<=q*c:=by
 have:(a+1)*c<=q*c:=jbn c h
 rwa [jee] at this
section
variable {cmp:Line×Line->Yb Int} {le:Line->Line->Prop} (ok:COk cmp le)
def Tp (l:Ya Line) (c:Nat):Prop:=∀ i j,i<c->c<=j->j<l.length->Lt (gg l i) (gg l j)
theorem Tp.mv {l l':Ya Line} {a b c:Nat} (h:Tp l c) (hm:Mv a b l l') (A:b<=l.length) (hc:c<=a\/b<=c):Tp l' c:=λi j z h2 g=>by
 rw [hm.len] at g;obtain ⟨f,p,o⟩:∃ f,f<c/\gg l' i=gg l f:=by
  by_cases h:a<=i/\i<b
  ·obtain ⟨k,k1,k2,k3⟩:=hm.ins i h.1 h.2;exact ⟨k,by omega,k3⟩
  ·exact ⟨i,z,hm.out i (by omega)⟩
 obtain ⟨e,y,w,t⟩:∃ e,c<=e/\e<l.length/\gg l' j=gg l e:=by
  by_cases h:a<=j/\j<b
  ·obtain ⟨k,k1,k2,k3⟩:=hm.ins j h.1 h.2;exact ⟨k,by omega,by omega,k3⟩
  ·exact ⟨j,h2,g,hm.out j (by omega)⟩
 rw [o,t]; exact h f e p y w
theorem Tp.tg {l:Ya Line} {a m b:Nat} (h:Tp l m) (g:b<=l.length):Tg l a m b:=λi j f h2 c e=>h i j h2 c (by omega)
theorem Inc.mv {l v:Ya Line} {a b c:Nat} (h:Inc l 0 b) (hm:Mv 0 a l v) (hc:a<=c):Inc v c b:=λi j f h2 e=>by
 rw [hm.out i (.inr (by omega)),hm.out j (.inr (by omega))]; exact h i j (by omega) h2 e
def Blks (le:Line->Line->Prop) (n bs:Nat) (l:Ya Line):Prop:=∀ q,Srt le l (q*bs) (min n (q*bs+bs))
theorem Inc.sub {l:Ya Line} {a b b':Nat} (h:Inc l a b) (f:b'<=b):Inc l a b':=λi j c h2 e=>h i j c h2 (by omega)
theorem Srt.sub {l:Ya Line} {a b a' b':Nat} (h:Srt le l a b) (e:a<=a') (g:b'<=b):Srt le l a' b':=λi j f h2 c=>h i j (by omega) h2 (by omega)
include ok
theorem kyA {n:Nat} {l:Ya Line} (hn:n=l.length) (hl:l.length<=1000) (hI:Inc l 0 n) :
  ∃ z,iter (kbf n cmp) (20,0,l)=some z/\∃ a:Nat,z.1=a/\a<=n/\n<a+20/\(Mv 0 a l z.2/\∀ q,Tp z.2 (q*20))/\∀ q,q*20+20<=a/\Srt le z.2 (q*20) (q*20+20)\/q*20=a\/n<q*20:=by
 refine Fl.iter_inv (F:=kbf n cmp) (λv=>∃ q:Nat,v.1=((q*20+20:Nat):Int)/\v.2.1=((q*20:Nat):Int)/\q*20<=n/\(Mv 0 (q*20) l v.2.2/\∀ q,Tp v.2.2 (q*20))/\∀ c,c<q->Srt le v.2.2 (c*20) (c*20+20))
  (λv=>n+20-v.1.toNat) _ (λ⟨b',a',v⟩ ⟨q,g,f,p,⟨hm,hT⟩,hs⟩=>?_) _ ⟨0,rfl,rfl,by omega,⟨.refl _ _ _,λq i j k1 k2 k3=>hI i j (by omega) (by omega) (by rw [hn]; exact k3)⟩,λc h=>by omega⟩ (by dsimp only; omega)
 dsimp only at g f hm hT hs ⊢;subst g; subst f;unfold kbf;dsimp only;by_cases hc:q*20+20<=n
 ·right;rw [if_pos (by simp only [jaj]; omega)];obtain ⟨t,e,g1,o⟩:=kvk ok (a:=q*20) (b:=q*20+20) (l:=v) (by omega) (by rw [hm.len]; omega) (by rw [hm.len]; omega) ((hI.mv hm (jag _)).sub hc);rw [e];simp only [jab];rw [w64n (n:=(q+1)*20+20) (by omega) (by omega)];refine ⟨_,rfl,⟨q+1,rfl,by dsimp only; omega,by omega,⟨(hm.wide (jag _) (by omega)).trans (g1.wide (by omega) (by omega)),λc=>(hT c).mv g1 (by rw [hm.len]; omega) (by omega)⟩,λc h=>?_⟩,by dsimp only; omega⟩;by_cases e:c=q
  ·subst e; exact o
  ·exact (hs c (by omega)).out g1 (.inl (by omega))
 ·left;rw [if_neg (by simp only [jaj]; omega)];refine ⟨_,rfl,q*20,rfl,p,by omega,⟨hm,hT⟩,λc=>?_⟩;rcases Nat.lt_trichotomy c q with h | h | h
  ·exact .inl ⟨by omega,hs c h⟩
  ·exact .inr (.inl (by omega))
  ·exact .inr (.inr (by omega))
theorem kyT {n bs:Nat} {l:Ya Line} (w:Int×Ya Line) (y:w.1=bs) (E:0<bs) (D:bs<n) (hn:n=l.length) (hl:l.length<=1000) (hB:Blks le n bs l) (hT0:∀ q,Tp l (q*bs)) :
  ∃ z,iter (kbe n cmp w) (((2*bs:Nat):Int),0,l)=some z/\∃ q:Nat,z.1=((q*(2*bs):Nat):Int)/\q*(2*bs)<=n/\n<q*(2*bs)+2*bs/\(Mv 0 n l z.2/\(∀ a,Tp z.2 (a*(2*bs)))/\∀ a,q*(2*bs)<=a*bs->Tp z.2 (a*bs))/\(∀ a,a<q->Srt le z.2 (a*(2*bs)) (a*(2*bs)+2*bs))/\∀ a,q*(2*bs)<=a*bs->Srt le z.2 (a*bs) (min n (a*bs+bs)):=by
 refine Fl.iter_inv (F:=kbe n cmp w) (λv=>∃ q:Nat,v.1=((q*(2*bs)+2*bs:Nat):Int)/\v.2.1=((q*(2*bs):Nat):Int)/\q*(2*bs)<=n/\(Mv 0 n l v.2.2/\(∀ a,Tp v.2.2 (a*(2*bs)))/\∀ a,q*(2*bs)<=a*bs->Tp v.2.2 (a*bs))/\(∀ a,a<q->Srt le v.2.2 (a*(2*bs)) (a*(2*bs)+2*bs))/\∀ a,q*(2*bs)<=a*bs->Srt le v.2.2 (a*bs) (min n (a*bs+bs)))
  (λv=>n+2*bs-v.1.toNat) _ (λ⟨b',a',v⟩ ⟨q,o,g,G,⟨hm,hT1,hT2⟩,hs,hr⟩=>?_) _ ⟨0,by dsimp only; simp,by dsimp only; simp,by omega,⟨.refl _ _ _,λa=>by have:=hT0 (2*a); rwa [show 2*a*bs=a*(2*bs) by rw [Nat.mul_comm 2 a,Nat.mul_assoc]] at this,λa _=>hT0 a⟩,λa h=>by omega,λa _=>hB a⟩ (by dsimp only; omega)
 dsimp only at o g hm hT1 hT2 hs hr ⊢;subst o; subst g;unfold kbe;dsimp only;have p:(2*q)*bs=q*(2*bs):=by rw [Nat.mul_comm 2 q,Nat.mul_assoc]
 have f:(2*q+1)*bs=q*(2*bs)+bs:=by rw [jee,p]
 by_cases hc:q*(2*bs)+2*bs<=n
 ·right;generalize hA:q*(2*bs)=A at *
  rw [if_pos (by simp only [jaj]; omega),y,w64n (x:=(A:Int)+bs) (n:=A+bs) (by push_cast; rfl) (by omega),w64n (x:=2*(bs:Int)) (n:=2*bs) (by omega) (by omega),w64n (x:=((A+2*bs:Nat):Int)+((2*bs:Nat):Int)) (n:=A+2*bs+2*bs) (by omega) (by omega)];have r1:=hr (2*q) (by omega);have r2:=hr (2*q+1) (by omega);rw [p] at r1;rw [f] at r2;have tp:=hT2 (2*q+1) (by omega);rw [f] at tp;obtain ⟨t,e,g1,C⟩:=kht ok 1000000 A (A+bs) (A+2*bs) v (by omega) (by omega) (by omega) (by rw [hm.len]; omega) (by rw [hm.len]; omega) (r1.sub (jag _) (by omega)) (r2.sub (jag _) (by omega)) (tp.tg (by rw [hm.len]; omega));have e':kaJ A ((A+bs:Nat):Int) ((A+2*bs:Nat):Int) cmp v=some t:=e;rw [e'];simp only [jab];have b:(q+1)*(2*bs)=A+2*bs:=by rw [jee,hA]
  refine ⟨_,rfl,⟨q+1,by dsimp only; rw [b],by dsimp only; rw [b],by omega,⟨hm.trans (g1.wide (by omega) hc),λa=>(hT1 a).mv g1 (by rw [hm.len]; omega) ?_,λa h=>(hT2 a (by rw [b] at h; omega)).mv g1 (by rw [hm.len]; omega) (by rw [b] at h; omega)⟩,λa h=>?_,λa h=>?_⟩,by dsimp only; omega⟩
  ·rcases jdg q a with h | h
   ·have:=kkZ (c:=2*bs) h; right; omega
   ·left; rw [<-hA]; exact jbn _ h
  ·by_cases e:a=q
   ·subst e; rw [hA]; exact C
   ·refine (hs a (by omega)).out g1 (.inl ?_);have:=kkZ (c:=2*bs) (show a<q by omega);omega
  ·rw [b] at h;exact (hr a (by omega)).out g1 (.inr h)
 ·left;rw [if_neg (by simp only [jaj]; omega)];exact ⟨_,rfl,q,rfl,G,by omega,⟨hm,hT1,hT2⟩,hs,hr⟩
theorem stable_spec {l:Ya Line} (hl:l.length<=1000) (hI:Inc l 0 l.length):∃ l',kbl (lenI l) cmp l=some l'/\l'.Perm l/\Srt le l' 0 l.length:=by
 unfold kbl;rw [kaf];obtain ⟨⟨Q,w⟩,hz,a,J,H,h2,⟨hm,hTz⟩,t⟩:=kyA ok (n:=l.length) (l:=l) rfl hl hI;dsimp only at J hm hTz t;subst J;rw [hz];simp only [jab];obtain ⟨v,e,g1,p⟩:=kvk ok (a:=a) (b:=l.length) (l:=w) (by omega) (by rw [hm.len]; omega) (by rw [hm.len]; omega) (hI.mv hm (jag _));rw [e];simp only [jab];have hB:Blks le l.length 20 v:=λq=>by
  rcases t q with ⟨o,P⟩ | o | o
  ·exact (P.out g1 (.inl o)).sub (jag _) (by omega)
  ·rw [o]; exact p.sub (jag _) (by omega)
  ·intro i j k1 k2 k3; omega
 have hM:Mv 0 l.length l v:=(hm.wide (jag _) H).trans (g1.wide (by omega) (jag _));have hTv:∀ q,Tp v (q*20):=λq=>by
  by_cases D:q*20<=a\/l.length<=q*20
  ·exact (hTz q).mv g1 (by rw [hm.len]; exact jag _) D
  ·rcases t q with ⟨o,_⟩ | o | o <;> omega
 obtain ⟨z,hz,hR⟩:=Fl.iter_inv (F:=kbG l.length cmp) (λv=>∃ bs:Nat,v.1=bs/\0<bs/\bs<=100000/\(Mv 0 l.length l v.2/\∀ q,Tp v.2 (q*bs))/\Blks le l.length bs v.2)
  (λv=>l.length-v.1.toNat) (λl'=>l'.Perm l/\Srt le l' 0 l.length) (λ⟨b',v⟩ ⟨bs,C,H,h2,⟨hm,hTb⟩,hB⟩=>by
   dsimp only at C hm hTb hB ⊢;subst C;unfold kbG;dsimp only;by_cases hc:bs<l.length
   ·right;rw [if_pos (by simp only [jaj]; omega),w64n (x:=2*(bs:Int)) (n:=2*bs) (by omega) (by omega)];obtain ⟨⟨Q,w⟩,hz,q,t,k1,k2,⟨f,hT1,hT2⟩,hs,hr⟩:=kyT ok (n:=l.length) (bs:=bs) (l:=v) ((bs:Int),v) rfl H hc hm.len.symm (by rw [hm.len]; exact hl) hB hTb;dsimp only at t f hT1 hT2 hs hr;subst t;rw [hz];simp only [jab];have K:(2*q)*bs=q*(2*bs):=by rw [Nat.mul_comm 2 q,Nat.mul_assoc]
    have I:(2*q+1)*bs=q*(2*bs)+bs:=by rw [jee,K]
    have fin:∀ g:Ya Line,Mv (q*(2*bs)) l.length w g->Srt le g (q*(2*bs)) l.length->(Mv 0 l.length l g/\∀ q,Tp g (q*(2*bs)))/\Blks le l.length (2*bs) g:=λg g1 p=>by
     refine ⟨⟨hm.trans (f.trans (g1.wide (by omega) (jag _))),λy=>(hT1 y).mv g1 (by rw [f.len,hm.len]; exact jag _) ?_⟩,λy=>?_⟩
     ·rcases jdg q y with h | h
      ·have:=kkZ (c:=2*bs) h; right; omega
      ·left; exact jbn _ h
     rcases Nat.lt_trichotomy y q with h | h | h
     ·have:=kkZ (c:=2*bs) h;exact ((hs y h).out g1 (.inl this)).sub (jag _) (by omega)
     ·subst h; exact p.sub (jag _) (by omega)
     ·have:=kkZ (c:=2*bs) h;intro i j g1 p W; omega
    generalize hA:q*(2*bs)=A at *
    have r1:=hr (2*q) (by omega);have r2:=hr (2*q+1) (by omega);rw [K] at r1;rw [I] at r2;have tp:=hT2 (2*q+1) (by omega);rw [I] at tp;rw [w64n (x:=(A:Int)+bs) (n:=A+bs) (by push_cast; rfl) (by omega),w64n (x:=(bs:Int)*2) (n:=2*bs) (by omega) (by omega)];by_cases O:A+bs<l.length
    ·rw [if_pos (by simp only [jaj]; omega)];obtain ⟨g,e,g1,p⟩:=kht ok 1000000 A (A+bs) l.length w (by omega) (by omega) O (by rw [f.len,hm.len]; exact jag _) (by rw [f.len,hm.len]; exact hl) (r1.sub (jag _) (by omega)) (r2.sub (jag _) (by omega)) (tp.tg (by rw [f.len,hm.len]; exact jag _));have e':kaJ A ((A+bs:Nat):Int) l.length cmp w=some g:=e;rw [e'];simp only [jab];obtain ⟨G,E⟩:=fin g g1 p;exact ⟨_,rfl,⟨2*bs,rfl,by omega,by omega,G,E⟩,by dsimp only; omega⟩
    ·rw [if_neg (by simp only [jaj]; omega)];obtain ⟨G,E⟩:=fin w (.refl _ _ _) (r1.sub (jag _) (by omega));exact ⟨_,rfl,⟨2*bs,rfl,by omega,by omega,G,E⟩,by dsimp only; omega⟩
   ·left;rw [if_neg (by simp only [jaj]; omega)];refine ⟨_,rfl,hm.perm,?_⟩;have:=hB 0;rw [Nat.zero_mul] at this;exact this.sub (jag _) (by omega))
  (20,v) ⟨20,rfl,by omega,by omega,⟨hM,hTv⟩,hB⟩ (by dsimp only; omega)
 rw [hz];exact ⟨z,rfl,hR⟩
end
end Go.Abs.St
namespace Go.Abs
open Go Go.Abs.Fl
def okC (x:It):Bool:=decide (0<=x.2.2)&&decide (x.2.2<=10000)
def prOk (l:Ya It):Bool:=decide (l.length<=60)&&!(l.zipIdx.any λx=>badI l x.2 x.1)&&l.all okC
theorem ktA (l:Ya It) (hl:l.length<=1000):kdn l 60 (λu=>(kbt u).bind λv=>some v)=some (!(l.zipIdx.any λx=>badI l x.2 x.1)&&decide (l.length<=60)):=by
 unfold kdn;rw [khK (F:=kct l _) false l (by omega) (badI l) (λi hi=>?_) (by unfold kct; rw [if_neg (by simp [kaf])])]
 ·by_cases h:(l.zipIdx.any λx=>badI l x.2 x.1)=true
  rotate_left
  ·rw [jbk] at h;simp only [h,jai,if_false,jab,jcz,jei,kaf];congr 2; simp only [eq_iff_iff]; omega
  ·simp [h]
 ·unfold kct;rw [if_pos (by rw [kaf]; simpa using hi),kas hi,kax (by omega)];simp only [jab,kbt,kgM,badI];by_cases b:vP l[i]=true
  rotate_left
  ·rw [jbk] at b; simp [b]
  ·simp only [b,jcg,jai,if_false,jcn];by_cases a:0<i
   ·rw [if_pos (by simpa using a),klu a (by omega),kas (by omega)];simp only [jab,kkx,kwD,kls hi,a,decide_true,jei];by_cases c:ltI l[i-1] l[i]=true <;> simp [c]
   ·have:i=0:=by omega
    subst this; simp
theorem kse (l:Ya It) (hl:l.length<=1000) (p:It->Bool):kaz l (λx=>some (p x))=some (l.any p):=by
 unfold kaz kbD;rw [kej (F:=kaN l _) l (by omega) (λi x=>if p x then some (i:Int) else none) (λi hi=>by
  unfold kaN;rw [if_pos (by rw [kaf]; simpa using hi),kas hi,kax (by omega)];simp only [jab];by_cases h:p l[i]=true <;> simp [h,nextL]) (by unfold kaN; rw [if_neg (by simp [kaf])])]
 have:∀ (l:Ya It) (k:Nat),endL ((l.zipIdx k).findSome? λx=>if p x.1 then some (x.2:Int) else none)=(if l.any p then .inl ((k:Int)+(l.findIdx p:Nat)) else .inr ()):=by
  intro l;induction l with
  | nil=>intro k; rfl
  | cons x l a=>
   intro k;rw [jbj,jdk,jdq,List.findIdx_cons];cases hp:p x with
   | true=>simp [endL]
   | false=>
    simp only [jai,if_false,jcn,cond_false];rw [a (k+1)];congr 2; push_cast; omega
 rw [this l 0];by_cases h:l.any p=true <;> simp [h]
theorem kxU:(λb:It=>(kim b).bind λa=>some a)=λu=>some (!okC u):=by
 funext u; simp [kim,okC]
theorem kzk (l:Ya It):kiv l=some (prOk l):=by
 unfold kiv prOk;rw [kaf];by_cases hl:(60:Int)<l.length
 ·rw [if_pos (by simpa using hl)];have:¬ l.length<=60:=by omega
  simp [this]
 ·rw [if_neg (by simpa using hl)];have b:l.length<=60:=by omega
  rw [khK (F:=kfN l) false l (by omega) (λi x=>badI l i x||!okC x) (λi hi=>?_) (by unfold kfN; rw [if_neg (by simp [kaf])])]
  ·rw [kyU (λx:It×Nat=>badI l x.2 x.1) (λx=>!okC x.1),kss (λx=>!okC x),kmb];by_cases f:(l.zipIdx.any λx=>badI l x.2 x.1)=true <;> by_cases h2:l.all okC=true <;> simp [b,f,h2]
  ·unfold kfN;rw [if_pos (by rw [kaf]; simpa using hi),kas hi,kax (by omega)];simp only [jab,kiA,badI,kei];rw [show (decide (0<=l[i].2.2)&&decide (l[i].2.2<=10000))=okC l[i] from rfl];by_cases a:vP l[i]=true
   rotate_left
   ·rw [jbk] at a; simp [a]
   ·by_cases hn:okC l[i]=true
    rotate_left
    ·rw [jbk] at hn; simp [a,hn]
    ·simp only [a,hn,jcg,jai,if_false,jcn,Bool.or_false];by_cases c:0<i
     ·rw [if_pos (by simpa using c),klu c (by omega),kas (by omega)];simp only [jab,kls hi,c,decide_true,jei];rw [show kdJ l[i-1].1 l[i-1].2.1 l[i].1 l[i].2.1=_ from klk l[i-1] l[i]];by_cases e:ltI l[i-1] l[i]=true <;> simp [e]
     ·have:i=0:=by omega
      subst this; simp
structure Prs (R:List It):Prop where
 l:R.length<=60
 inc:∀ i j,i<j->j<R.length->ordI (kc (at3 R i)) (kc (at3 R j)) = -1
 c:∀ i,i<R.length->0<=(at3 R i).2.2/\(at3 R i).2.2<=10000
theorem kAV {a b c:Int×Int} (e:ordI a b = -1) (h2:ordI b c = -1):ordI a c = -1:=by
 unfold ordI at *
 repeat' split at e
 all_goals (try (first | cases e; done | skip))
 all_goals (repeat' split at h2)
 all_goals (repeat' split)
 all_goals omega
theorem knX {a b:Int×Int} (c:ordI a b = -1):ordI b a=1/\a≠b:=by
 refine ⟨?_,?_⟩
 ·unfold ordI at *
  repeat' split at c
  all_goals (repeat' split)
  all_goals omega
 ·rintro rfl;unfold ordI at c;repeat' split at c
  all_goals omega
theorem kyu (a:Int×Int):ordI a a=0:=by unfold ordI; simp
theorem kAs (x y:It):ltI x y=true↔ordI (kc x) (kc y) = -1:=by
 unfold ltI ordI kc;simp only [jat,jac,jaj,beq_iff_eq];constructor
 ·rintro (h | ⟨a,h2⟩)
  ·simp [h]
  ·simp [a,h2]
 ·intro h;repeat' split at h
  all_goals omega
theorem kyb {R:Ya It} (h:prOk R=true):Prs R:=by
 unfold prOk at h;simp only [jac,jaj,jbd] at h;obtain ⟨⟨g,h2⟩,b⟩:=h;have hs:∀ i,i+1<R.length->ordI (kc (at3 R i)) (kc (at3 R (i+1))) = -1:=λi hi=>by
  have:=(List.any_eq_false.1 h2) (R[i+1],i+1) (jdt.2 (jae hi));simp only [badI,jat,jbd,jac,jaj,not_or,not_and,Bool.not_eq_false] at this;have:=this.2 (by omega);rw [kAs] at this;rw [kcg (by omega),kcg hi];simpa [jae (show i<R.length by omega)] using this
 refine ⟨g,λi j f=>?_,λi hi=>?_⟩
 ·induction j with
  | zero=>omega
  | succ j c=>
   intro a;by_cases e:i=j
   ·subst e; exact hs i a
   ·exact kAV (c (by omega) (by omega)) (hs j a)
 ·have:=jam.1 b R[i] (jdx hi);rw [kcg hi];simpa [okC] using this
theorem Prs.inj {R:Ya It} (h:Prs R) {i j:Nat} (hi:i<R.length) (c:j<R.length) (e:kc (at3 R i)=kc (at3 R j)):i=j:=by
 rcases Nat.lt_trichotomy i j with a | b | a
 ·exact absurd e (knX (h.inc i j a c)).2
 ·exact b
 ·exact absurd e.symm (knX (h.inc j i a hi)).2
theorem koa {κ β:Type} [DecidableEq κ] (l:Ya (κ×β)) (k a:κ) (v:β):mget (mput l k v) a=if a=k then some v else mget l a:=by
 induction l with
 | nil=>simp only [mput,mget]
 | cons p r b=>
  simp only [mput];by_cases h:k=p.1
  ·rw [if_pos h];simp only [mget];by_cases h2:a=k
   ·rw [if_pos h2];simp [h2]
   ·rw [if_neg h2];simp only [h2,if_false];rw [if_neg (by rw [<-h]; exact h2)]
  ·rw [if_neg h];simp only [mget,b];by_cases h2:a=p.1
   ·rw [if_pos h2,if_neg (by rw [h2]; exact λe=>h e.symm),if_pos h2]
   ·rw [if_neg h2,if_neg h2]
def CMap (R:Ya It) (n:Nat) (M:Ya ((Int×Int)×Int)):Prop:=∀ p,(∀ c,mget M p=some c->∃ i,i<n/\kc (at3 R i)=p/\(at3 R i).2.2=c)/\(∀ i,i<n->kc (at3 R i)=p->mget M p=some (at3 R i).2.2)
theorem kAF {R:Ya It} (h:Prs R):∃ M,iter (kjW R) (0,[])=some M/\CMap R R.length M:=by
 obtain ⟨z,hz,hR⟩:=Fl.iter_inv (F:=kjW R) (λx=>∃ n:Nat,n<=R.length/\x.1=(n:Int)/\CMap R n x.2) (λx=>R.length-x.1.toNat) (λz=>CMap R R.length z)
  (λ⟨x,M⟩ ⟨n,hn,e,hM⟩=>by
   dsimp only at e hM;subst e;have:=h.l;unfold kjW;by_cases a:n<R.length
   ·right;rw [if_pos (by simpa [kaf] using a),kas a,kax (by omega)];simp only [jab,kbt];refine ⟨_,rfl,⟨n+1,by omega,rfl,λp=>⟨λc hc=>?_,λi hi hp=>?_⟩⟩,by simp only [jay]; omega⟩
    ·dsimp only at hc;rw [koa] at hc;split at hc
     ·rename_i hp;cases hc;exact ⟨n,by omega,by rw [kcg a,hp]; rfl,by rw [kcg a]⟩
     ·obtain ⟨i,hi,f,h2⟩:=(hM p).1 c hc;exact ⟨i,by omega,f,h2⟩
    ·dsimp only;rw [koa];by_cases e:i=n
     ·subst e;rw [kcg a] at hp ⊢;rw [if_pos (show p=(R[i].1,R[i].2.1) from hp.symm)]
     ·rw [if_neg,(hM p).2 i (by omega) hp];intro b;refine e (h.inj (by omega) a (hp.trans ?_));rw [b,kcg a]; rfl
   ·left;rw [if_neg (by simpa [kaf] using a)];have:n=R.length:=by omega
    subst this;exact ⟨_,rfl,hM⟩)
  (0,[]) ⟨0,by omega,rfl,λp=>⟨λc hc=>by simp [mget] at hc,λi hi=>by omega⟩⟩ (by simp only; have:=h.l; omega)
 exact ⟨z,hz,hR⟩
def cn (R:Ya It) (i:Nat):Int:=(at3 R i).2.2
def Bst (R:Ya It) (T:Nat->Prop):Yb Nat->Prop
 | none=>∀ j,j<R.length->¬ T j
 | some i=>i<R.length/\T i/\∀ j,j<R.length->T j->cn R i<cn R j\/(cn R i=cn R j/\i<=j)
def stepC (R:Ya It) (o:Yb Nat) (j:Nat):Yb Nat:=match o with
 | none=>some j
 | some i=>if cn R j<cn R i\/(cn R j=cn R i/\j<i) then some j else some i
theorem Bst.step {R:Ya It} {T:Nat->Prop} {o:Yb Nat} {j:Nat} (h:Bst R T o) (b:j<R.length):Bst R (λx=>T x\/x=j) (stepC R o j):=by
 cases o with
 | none=>
  refine ⟨b,.inr rfl,λk a hT=>?_⟩;rcases hT with hT | rfl
  ·exact absurd hT (h k a)
  ·exact .inr ⟨rfl,jag _⟩
 | some i=>
  obtain ⟨e,h2,c⟩:=h;simp only [stepC];split
  ·rename_i hc;refine ⟨b,.inr rfl,λk a hT=>?_⟩;rcases hT with hT | rfl
   ·have:=c k a hT; omega
   ·exact .inr ⟨rfl,jag _⟩
  ·rename_i hc;refine ⟨e,.inl h2,λk a hT=>?_⟩;rcases hT with hT | rfl
   ·exact c k a hT
   ·omega
theorem Bst.skip {R:Ya It} {T:Nat->Prop} {o:Yb Nat} {j:Nat} (h:Bst R T o) (b:¬ j<R.length):Bst R (λx=>T x\/x=j) o:=by
 cases o with
 | none=>exact λk a hT=>hT.elim (h k a) (λe=>b (e ▸ a))
 | some i=>exact ⟨h.1,.inl h.2.1,λk a hT=>hT.elim (h.2.2 k a) (λe=>absurd a (e ▸ b))⟩
theorem Bst.congr {R:Ya It} {T T':Nat->Prop} {o:Yb Nat} (h:Bst R T o) (e:∀ j,j<R.length->(T j↔T' j)):Bst R T' o:=by
 cases o with
 | none=>exact λk a hT=>h k a ((e k a).2 hT)
 | some i=>exact ⟨h.1,(e i h.1).1 h.2.1,λk a hT=>h.2.2 k a ((e k a).2 hT)⟩
theorem Bst.uniq {R:Ya It} {T:Nat->Prop} {o c:Yb Nat} (h:Bst R T o) (h':Bst R T c):o=c:=by
 cases o with
 | none=>cases c with
  | none=>rfl
  | some i=>exact absurd h'.2.1 (h i h'.1)
 | some i=>cases c with
  | none=>exact absurd h.2.1 (h' i h.1)
  | some j=>
   have a:=h.2.2 j h'.1 h'.2.1;have b:=h'.2.2 i h.1 h.2.1;congr 1; omega
def chI (o:Yb Nat):Int:=match o with | none=>-1 | some i=>(i:Int)
def Mq (R:Ya It) (sw:Ya Swap) (q:Int×Int) (j:Nat):Prop:=mayB sw q (kc (at3 R j))=true
theorem kwv {R:Ya It} (h:R.length<=1000) {sw:Ya Swap} (hs:sw.length<=1000) (q:Int×Int):∃ o,kcA sw R q.1 q.2=some (chI o)/\Bst R (Mq R sw q) o:=by
 unfold kcA;obtain ⟨z,hz,o,rfl,t⟩:=Fl.iter_inv (F:=kgH sw R q.1 q.2) (λx=>∃ (n:Nat) (o:Yb Nat),n<=R.length/\x=((n:Int),chI o)/\Bst R (λj=>j<n/\Mq R sw q j) o) (λx=>R.length-x.1.toNat) (λz=>∃ o,z=chI o/\Bst R (Mq R sw q) o)
  (λx ⟨n,o,hn,e,t⟩=>by
   subst e;unfold kgH;dsimp only;by_cases f:n<R.length
   ·right;rw [if_pos (by simpa [kaf] using f),kas f,kax (by omega)];simp only [jab];have w:=koD sw hs q (kc R[n]);rw [show kgk sw q.1 q.2 R[n].1 R[n].2.1=_ from w];simp only [jab];have p:at3 R n=R[n]:=kcg f;have g:∀ i,o=some i->i<n:=λi e=>by subst e; exact t.2.1.1
    cases A:mayB sw q (kc R[n]) with
    | false=>
     rw [if_neg (by simp)];refine ⟨_,rfl,⟨n+1,o,by omega,rfl,t.congr λj y=>⟨λ⟨a,b⟩=>⟨by omega,b⟩,λ⟨a,b⟩=>⟨?_,b⟩⟩⟩,by simp only [jay]; omega⟩;by_cases e:j=n
     ·subst e; unfold Mq at b; rw [p,A] at b; cases b
     ·omega
    | true=>
     rw [if_pos rfl];have c:=(t.step f).congr (T':=λj=>j<n+1/\Mq R sw q j) λj y=>by
      constructor
      ·rintro (⟨a,b⟩ | rfl)
       ·exact ⟨by omega,b⟩
       ·exact ⟨by omega,by unfold Mq; rw [p]; exact A⟩
      ·rintro ⟨a,b⟩;by_cases e:j=n
       ·exact .inr e
       ·exact .inl ⟨by omega,b⟩
     cases o with
     | none=>
      rw [if_pos (by simp [chI])];exact ⟨_,rfl,⟨n+1,some n,by omega,rfl,c⟩,by simp only [jay]; omega⟩
     | some i=>
      have hi:=g i rfl;rw [show chI (some i)=(i:Int) from rfl,if_neg (show ¬ decide (((i:Nat):Int)<0)=true by rw [jaj]; omega),kas (show i<R.length by omega)];simp only [jab];have D:R[n].2.2=cn R n:=by unfold cn; rw [p]
      have C:(R[i]'(by omega)).2.2=cn R i:=by unfold cn; rw [kcg (by omega)]
      rw [D,C];simp only [stepC] at c;by_cases hc:cn R n<cn R i
      ·rw [if_pos (by simpa using hc)];rw [if_pos (.inl hc)] at c;exact ⟨_,rfl,⟨n+1,some n,by omega,rfl,c⟩,by simp only [jay]; omega⟩
      ·rw [if_neg (by simpa using hc)];rw [if_neg (by omega)] at c;exact ⟨_,rfl,⟨n+1,some i,by omega,rfl,c⟩,by simp only [jay]; omega⟩
   ·left;rw [if_neg (by simpa [kaf] using f)];exact ⟨_,rfl,o,rfl,t.congr λj y=>⟨λ⟨_,b⟩=>b,λb=>⟨by omega,b⟩⟩⟩)
  (0,-1) ⟨0,none,by omega,rfl,λj y ⟨a,_⟩=>by omega⟩ (by simp only; omega)
 exact ⟨o,by rw [hz]; rfl,t⟩
def bq (R:Ya It) (o:Yb Nat):Int:=match o with | none=>0 | some i=>cn R i
def pq (R:Ya It) (o:Yb Nat):Int×Int:=match o with | none=>(0,0) | some i=>kc (at3 R i)
theorem kAw {R:Ya It} (h:Prs R) {M:Ya ((Int×Int)×Int)} (hM:CMap R R.length M) {j:Nat} (e:j<R.length) {o:Yb Nat} (p:∀ i,o=some i->i<R.length) :
  kba (kc (at3 R j)) M o.isSome (bq R o) (pq R o).1 (pq R o).2=some (M,(stepC R o j).isSome,bq R (stepC R o j),(pq R (stepC R o j)).1,(pq R (stepC R o j)).2):=by
 have f:mget M (kc (at3 R j))=some (cn R j):=(hM _).2 j e rfl;unfold kba;rw [f];simp only [Option.isSome_some,if_true,jcb];cases o with
 | none=>rfl
 | some i=>
  have hi:=p i rfl;have hs:stepC R (some i) j=if cn R j<cn R i\/(cn R j=cn R i/\j<i) then some j else some i:=rfl;rw [if_neg (show ¬ (!(some i).isSome)=true by simp)];change (if decide (cn R j<cn R i)=true then some (M,true,cn R j,kc (at3 R j)) else if (cn R j==cn R i)=true then (kfb (kc (at3 R j)) (kc (at3 R i))).bind λg=>(if decide (g<0)=true then some (M,true,cn R j,kc (at3 R j)) else some (M,true,cn R i,kc (at3 R i))) else some (M,true,cn R i,kc (at3 R i)))=_;rw [hs];by_cases hc:cn R j<cn R i
  ·rw [if_pos (show decide (cn R j<cn R i)=true by simpa using hc),if_pos (show cn R j<cn R i\/(cn R j=cn R i/\j<i) from .inl hc)]; rfl
  ·rw [if_neg (show ¬ decide (cn R j<cn R i)=true by simpa using hc)];by_cases b:cn R j=cn R i
   ·rw [if_pos (show (cn R j==cn R i)=true by simpa using b),kkx];simp only [jab];rcases Nat.lt_trichotomy j i with a | c | a
    ·rw [h.inc j i a hi,if_pos (show decide ((-1:Int)<0)=true by decide),if_pos (show cn R j<cn R i\/(cn R j=cn R i/\j<i) from .inr ⟨b,a⟩)]; rfl
    ·subst c;rw [kyu,if_neg (show ¬ decide ((0:Int)<0)=true by decide),if_neg (show ¬ (cn R j<cn R j\/(cn R j=cn R j/\j<j)) by omega)]; rfl
    ·rw [(knX (h.inc i j a e)).1,if_neg (show ¬ decide ((1:Int)<0)=true by decide),if_neg (show ¬ (cn R j<cn R i\/(cn R j=cn R i/\j<i)) by omega)]; rfl
   ·rw [if_neg (show ¬ (cn R j==cn R i)=true by simpa using b),if_neg (show ¬ (cn R j<cn R i\/(cn R j=cn R i/\j<i)) by omega)]; rfl
theorem kzK {R:Ya It} {M:Ya ((Int×Int)×Int)} (hM:CMap R R.length M) {p:Int×Int} (hp:∀ j,j<R.length->kc (at3 R j)≠p) {a:Bool} {b c d:Int}:kba p M a b c d=some (M,a,b,c,d):=by
 have e:mget M p=none:=by
  cases e:mget M p with
  | none=>rfl
  | some c=>
   obtain ⟨i,hi,f,_⟩:=(hM p).1 c e;exact absurd f (hp i hi)
 unfold kba;rw [e]; rfl
theorem kxg {R:Ya It} (h:Prs R) {M:Ya ((Int×Int)×Int)} (hM:CMap R R.length M) (p:Int×Int) {T:Nat->Prop} {o:Yb Nat} (f:Bst R T o) :
  ∃ b,kba p M o.isSome (bq R o) (pq R o).1 (pq R o).2=some (M,b.isSome,bq R b,(pq R b).1,(pq R b).2)/\Bst R (λj=>T j\/kc (at3 R j)=p) b:=by
 by_cases hp:∃ j,j<R.length/\kc (at3 R j)=p
 ·obtain ⟨j,c,rfl⟩:=hp;refine ⟨_,kAw h hM c (λi e=>by subst e; exact f.1),(f.step c).congr λk g=>?_⟩;constructor
  ·rintro (a | rfl)
   ·exact .inl a
   ·exact .inr rfl
  ·rintro (a | a)
   ·exact .inl a
   ·exact .inr (h.inj g c a)
 ·refine ⟨o,kzK hM (λj c e=>hp ⟨j,c,e⟩),f.congr λk g=>⟨.inl,λa=>a.elim id λe=>absurd ⟨k,g,e⟩ hp⟩⟩
theorem kxz {R:Ya It} (h:Prs R) {M:Ya ((Int×Int)×Int)} (hM:CMap R R.length M) {sw:Ya Swap} (hs:sw.length<=1000) (q:Int×Int) :
  ∃ o,kcS sw q M=some (bq R o,(pq R o).1,(pq R o).2,o.isSome,M)/\Bst R (Mq R sw q) o:=by
 unfold kcS;obtain ⟨g,e0,w⟩:=kxg h hM q (T:=λ_=>False) (o:=none) (λj _=>id);rw [show kba q M false 0 0 0=_ from e0];simp only [jab];obtain ⟨z,hz,o,rfl,f⟩:=Fl.iter_inv (F:=kgd sw q) (λx=>∃ (n:Nat) (o:Yb Nat),n<=sw.length/\x=((n:Int),M,o.isSome,bq R o,(pq R o).1,(pq R o).2)/\Bst R (λj=>mayB (sw.take n) q (kc (at3 R j))=true) o) (λx=>sw.length-x.1.toNat) (λz=>∃ o,z=(bq R o,(pq R o).1,(pq R o).2,o.isSome,M)/\Bst R (Mq R sw q) o)
  (λx ⟨n,o,hn,e,f⟩=>by
   subst e;unfold kgd;dsimp only;by_cases c:n<sw.length
   ·right;rw [if_pos (by simpa [kaf] using c),kas c,kax (by omega)];simp only [jab];have t:sw.take (n+1)=sw.take n++[sw[n]]:=by rw [List.take_add_one,jae c]; rfl
    have hm:∀ b:Int×Int,mayB (sw.take (n+1)) q b=(mayB (sw.take n) q b||(q.1==sw[n].1&&(q.2==sw[n].2.1&&(b.1==sw[n].2.2.1&&b.2==sw[n].2.2.2)))):=λb=>by
     unfold mayB;rw [t,List.any_append,jdq,List.any_nil,Bool.or_false,Bool.or_assoc]
    by_cases hc:(q.1==sw[n].1&&q.2==sw[n].2.1)=true
    ·rw [if_pos hc];obtain ⟨y,e',h'⟩:=kxg h hM sw[n].2.2 f;rw [e'];simp only [jab];refine ⟨_,rfl,⟨n+1,y,by omega,rfl,h'.congr λj p=>?_⟩,by simp only [jay]; omega⟩;rw [hm];simp only [jac] at hc;simp only [hc.1,hc.2,jei,jat,jac,beq_iff_eq];rw [Prod.ext_iff]
    ·rw [if_neg hc];refine ⟨_,rfl,⟨n+1,o,by omega,rfl,f.congr λj p=>?_⟩,by simp only [jay]; omega⟩;rw [hm];simp only [jat,jac,beq_iff_eq] at hc ⊢;constructor
     ·exact .inl
     ·rintro (a | a)
      ·exact a
      ·exact absurd ⟨a.1,a.2.1⟩ hc
   ·left;rw [if_neg (by simpa [kaf] using c)];refine ⟨_,rfl,o,rfl,f.congr λj p=>?_⟩;rw [jbp (by omega)]; rfl)
  (0,M,g.isSome,bq R g,(pq R g).1,(pq R g).2) ⟨0,g,by omega,rfl,w.congr λj p=>by
   unfold mayB;simp only [jdm,List.any_nil,Bool.or_false,jac,beq_iff_eq,false_or];rw [Prod.ext_iff];exact ⟨λe=>⟨e.1.symm,e.2.symm⟩,λe=>⟨e.1.symm,e.2.symm⟩⟩⟩ (by simp only; omega)
 exact ⟨o,by rw [hz]; rfl,f⟩
def chO (R:Ya It) (sw:Ya Swap) (q:Int×Int):Yb Nat:=match kcA sw R q.1 q.2 with
 | some v=>if v<0 then none else some v.toNat
 | none=>none
theorem kqL {R:Ya It} (h:R.length<=1000) {sw:Ya Swap} (hs:sw.length<=1000) (q:Int×Int):kcA sw R q.1 q.2=some (chI (chO R sw q))/\Bst R (Mq R sw q) (chO R sw q):=by
 obtain ⟨o,e,a⟩:=kwv h hs q;have:chO R sw q=o:=by
  unfold chO;rw [e];cases o with
  | none=>rfl
  | some i=>
   show (if ((i:Nat):Int)<0 then none else some (Int.toNat (i:Int)))=some i;rw [if_neg (by omega),jay]
 rw [this];exact ⟨e,a⟩
section
variable (Y R:Ya It) (sw:Ya Swap)
def oK (k:Nat):Yb Nat:=chO R sw (kc (at3 Y k))
def rkO (o:Yb Nat):Int:=match o with | none=>10001 | some i=>cn R i
def rkK (k:Nat):Int:=rkO R (oK Y R sw k)
def lnK (k:Nat):Line:=((k:Int),bq R (oK Y R sw k),needN Y k,pq R (oK Y R sw k),(oK Y R sw k).isSome)
end
section
variable {Y R:Ya It} {sw:Ya Swap} (h:Prs R) (hs:sw.length<=1000) (hY:Y.length<=1000)
include h hs
theorem oK_lt {k i:Nat} (e:oK Y R sw k=some i):i<R.length:=by
 have:=(kqL (R:=R) (by have:=h.l; omega) hs (kc (at3 Y k))).2;unfold oK at e;rw [e] at this;exact this.1
theorem rk_bd (k:Nat):0<=rkK Y R sw k/\rkK Y R sw k<=10001/\(rkK Y R sw k=10001↔oK Y R sw k=none):=by
 unfold rkK rkO;cases e:oK Y R sw k with
 | none=>simp
 | some i=>
  have:=h.c i (oK_lt h hs e);unfold cn;dsimp only;refine ⟨this.1,by omega,?_⟩;constructor
  ·intro; omega
  ·intro h; cases h
theorem bq_bd (k:Nat):0<=bq R (oK Y R sw k)/\bq R (oK Y R sw k)<=10000:=by
 cases e:oK Y R sw k with
 | none=>simp [bq]
 | some i=>
  have:=h.c i (oK_lt h hs e);unfold bq cn;exact this
include hY
theorem kzW {M:Ya ((Int×Int)×Int)} (hM:CMap R R.length M):iter (kka Y sw) (0,M,[])=some ((List.range Y.length).map (lnK Y R sw)):=by
 obtain ⟨z,hz,rfl⟩:=Fl.iter_inv (F:=kka Y sw) (λx=>∃ n:Nat,n<=Y.length/\x=((n:Int),M,(List.range n).map (lnK Y R sw))) (λx=>Y.length-x.1.toNat) (λz=>z=(List.range Y.length).map (lnK Y R sw))
  (λx ⟨n,hn,e⟩=>by
   subst e;unfold kka;dsimp only;by_cases a:n<Y.length
   ·right;rw [if_pos (by simpa [kaf] using a),kas a,kax (by omega)];simp only [jab,kbt];have c:at3 Y n=Y[n]:=kcg a;obtain ⟨o,p,g⟩:=kxz h hM hs (kc Y[n]);have b:oK Y R sw n=o:=by
     unfold oK; rw [c];exact (kqL (by have:=h.l; omega) hs (kc Y[n])).2.uniq g
    rw [show kcS sw (Y[n].1,Y[n].2.1) M=_ from p];simp only [jab];have f:gapp ((List.range n).map (lnK Y R sw)) [((n:Int),bq R o,Y[n].2.2,((pq R o).1,(pq R o).2),o.isSome)]=some ((List.range (n+1)).map (lnK Y R sw)):=by
     rw [List.range_succ,jcm,khU (by simp; omega)];simp only [jap,jeh,lnK,b,kql a]
    rw [f];exact ⟨_,rfl,⟨n+1,by omega,rfl⟩,by simp only [jay]; omega⟩
   ·left;rw [if_neg (by simpa [kaf] using a)];have:n=Y.length:=by omega
    subst this;exact ⟨_,rfl,rfl⟩)
  (0,M,[]) ⟨0,by omega,rfl⟩ (by simp only; omega)
 exact hz
omit hY in
omit h hs hY in
abbrev cmpB:Line×Line->Option Int:=λa=>(kdl a.1 a.2).bind λb=>some b
def rkL (x:Line):Int:=if x.2.2.2.2=true then x.2.1 else 20000+x.2.1
def leL (x y:Line):Prop:=rkL y<rkL x\/(rkL x=rkL y/\x.1<=y.1)
omit h hs hY in
theorem kAU:St.COk cmpB leL where
 c x y:=by
  obtain ⟨v,a⟩:∃ v,kdl x y=some v:=by
   unfold kdl;split
   ·split <;> exact ⟨_,rfl⟩
   ·exact ⟨_,rfl⟩
  refine ⟨v,by show (kdl x y).bind _=_; rw [a]; rfl,λb=>?_⟩;obtain ⟨g,h2,o⟩:=b;unfold kdl at a;unfold leL rkL;cases f:x.2.2.2.2 <;> cases e:y.2.2.2.2 <;> rw [f,e] at a <;> simp at a <;> subst a <;> simp only [jai,if_false,if_true]
  ·rw [kbo (by omega) (by omega)]; omega
  ·omega
  ·omega
  ·rw [kbo (by omega) (by omega)]; omega
 tr x y z g h2:=by unfold leL at *; omega
 tot x y:=by unfold leL; omega
def sigR (Y R:Ya It) (sw:Ya Swap) (j k:Nat):Prop:=rkK Y R sw k<rkK Y R sw j\/(rkK Y R sw j=rkK Y R sw k/\j<k)
omit hY in
theorem kAH {j k:Nat} (b:j≠k):leL (lnK Y R sw j) (lnK Y R sw k)↔sigR Y R sw j k:=by
 have key:∀ k,rkL (lnK Y R sw k)=if rkK Y R sw k=10001 then 20000 else rkK Y R sw k:=λk=>by
  obtain ⟨_,_,a⟩:=rk_bd (Y:=Y) h hs k;unfold rkL lnK;dsimp only;cases e:oK Y R sw k with
  | none=>rw [if_pos (a.2 e)]; rfl
  | some i=>
   rw [if_neg (show ¬ rkK Y R sw k=10001 from λc=>by rw [a.1 c] at e; cases e)];unfold rkK; rw [e]; rfl
 have g:=rk_bd (Y:=Y) h hs j;have f:=rk_bd (Y:=Y) h hs k;unfold leL sigR;rw [key,key];show _\/_/\(j:Int)<=k↔_;split <;> split <;> omega
theorem kAy:∃ ks:Ya Nat,kat cmpB ((List.range Y.length).map (lnK Y R sw))=some (ks.map (lnK Y R sw))/\ks.Perm (List.range Y.length)/\ks.Pairwise (sigR Y R sw):=by
 have b:((List.range Y.length).map (lnK Y R sw)).length=Y.length:=by simp
 have p:∀ k,k<Y.length->St.gg ((List.range Y.length).map (lnK Y R sw)) k=lnK Y R sw k:=λk G=>by
  unfold St.gg; rw [jas,List.getElem?_range G]; rfl
 obtain ⟨l',e,hp,c⟩:=St.stable_spec (cmp:=cmpB) (le:=leL) kAU (l:=(List.range Y.length).map (lnK Y R sw)) (by rw [b]; exact hY) (by
  rw [b];intro i j _ h2 E;rw [p i (by omega),p j E];exact ⟨by show (i:Int)<j; omega,bq_bd h hs i,bq_bd h hs j⟩)
 obtain ⟨ks,rfl⟩:∃ ks:Ya Nat,l'=ks.map (lnK Y R sw):=by
  have:∀ x∈l',∃ k,lnK Y R sw k=x:=λx D=>by
   obtain ⟨k,_,rfl⟩:=jbb.1 (hp.mem_iff.1 D); exact ⟨k,rfl⟩
  clear e hp c;induction l' with
  | nil=>exact ⟨[],rfl⟩
  | cons x l F=>
   obtain ⟨k,rfl⟩:=this x (by simp);obtain ⟨ks,rfl⟩:=F λy C=>this y (by simp [C]);exact ⟨k::ks,rfl⟩
 have f:ks.Perm (List.range Y.length):=by
  have:=hp.map (λx:Line=>x.1.toNat);rw [List.map_map,List.map_map] at this;have H:((λx:Line=>x.1.toNat) ∘ lnK Y R sw)=id:=by funext k; simp [lnK]
  rw [H,List.map_id,List.map_id] at this;exact this
 refine ⟨ks,?_,f,?_⟩
 ·unfold kat;rw [e]; rfl
 ·have w:ks.Nodup:=f.nodup_iff.2 List.nodup_range;rw [List.pairwise_iff_getElem];intro i j hi z o;have t:ks[i]≠ks[j]:=(List.pairwise_iff_getElem.1 w) i j hi z o;have:=c i j (Nat.zero_le _) o (by rw [b]; have:=f.length_eq; simp at this; omega);have g:∀ a,(A:a<ks.length)->St.gg (ks.map (lnK Y R sw)) a=lnK Y R sw ks[a]:=λa A=>by
   unfold St.gg; rw [jas,jae A]; rfl
  rw [g i hi,g j z] at this;exact (kAH h hs t).1 this
end
end Go.Abs
namespace Go.Abs.Fl
open Go Go.Abs
variable {n m:Nat} {cap:Nat->Int} {may:Nat->Nat->Prop}
theorem kzc {U U' V p:Ya (Ya Int)} {L' w:Ya Int} {i:Nat} {most g g':Int} (hi:i<n) (o:∀ k,k<n->row m (ua U) k=row m (ua V) k) (h:Gave n m cap may i most U g U' L') (h':Gave n m cap may i most V g' p w) :
  g=g'/\∀ k,k<n->row m (ua U') k=row m (ua p) k:=by
 have key:∀ {U U' V p:Ya (Ya Int)} {L' w:Ya Int} {g g':Int},(∀ k,k<n->row m (ua U) k=row m (ua V) k)->Gave n m cap may i most U g U' L'->Gave n m cap may i most V g' p w->¬ g<g':=λ{U U' V p L' w g g'} o h h' y=>by
  have z:=h'.g1;obtain ⟨S,s1,s2⟩:=h.st (by omega);have:=kwQ h.v h'.v s2 hi s1 λk c t=>by rw [h.ro k c t,h'.ro k c t,o k c]; exact jcq _
  rw [h.ri,h'.ri,o i hi] at this;omega
 have e:g=g':=by
  have a:=key o h h';have b:=key (λk c=>(o k c).symm) h' h;omega
 subst e;refine ⟨rfl,λk c=>?_⟩;by_cases f:k=i
 ·subst f; rw [h.ri,h'.ri,o k c]
 ·rw [h.ro k c f,h'.ro k c f,o k c]
end Go.Abs.Fl
namespace Go.Abs
open Go Go.Abs.Fl
section
variable {n m:Nat} {cap:Nat->Int} {may:Nat->Nat->Prop} {N:Nat->Int}
inductive Dn (n m:Nat) (cap:Nat->Int) (may:Nat->Nat->Prop) (N:Nat->Int) (U0:List (List Int)) (L0:List Int):List Nat->List (List Int)->List Int->(Nat->Int)->Prop
 | nil:Dn n m cap may N U0 L0 [] U0 L0 (λ_=>0)
 | snoc (ds:List Nat) (U:List (List Int)) (L:List Int) (f:Nat->Int) (i:Nat) (g:Int) (U':List (List Int)) (L':List Int) (h:Dn n m cap may N U0 L0 ds U L f) (hi:i<n) (hg:Gave n m cap may i (N i) U g U' L'):Dn n m cap may N U0 L0 (ds++[i]) U' L' (λk=>if k=i then g else f k)
variable {U0 V0:Ya (Ya Int)} {L0 M0:Ya Int}
theorem Dn.ok (sh:Shp n m U0 L0) (v:Val n m cap may (ua U0) (la L0)) {b:Ya Nat} {U:Ya (Ya Int)} {L:Ya Int} {f:Nat->Int} (h:Dn n m cap may N U0 L0 b U L f):Shp n m U L/\Val n m cap may (ua U) (la L):=by
 cases h with
 | nil=>exact ⟨sh,v⟩
 | snoc _ _ _ _ _ _ _ _ _ _ a=>exact ⟨a.sh,a.v⟩
theorem Dn.bd {b:Ya Nat} {U:Ya (Ya Int)} {L:Ya Int} {f:Nat->Int} (h:Dn n m cap may N U0 L0 b U L f):∀ k,(k∈b->0<=f k/\f k<=N k)/\(k∉b->f k=0):=by
 induction h with
 | nil=>intro k; exact ⟨(λa=>nomatch a),λ_=>rfl⟩
 | snoc b U L f i g U' L' h hi c o=>
  intro k;dsimp only;by_cases e:k=i
  ·subst e;rw [if_pos rfl];exact ⟨λ_=>⟨c.g0,c.g1⟩,λhn=>absurd (by simp) hn⟩
  ·rw [if_neg e];exact ⟨λa=>(o k).1 (by simpa [e] using a),λa=>(o k).2 (by simp at a; exact a.1)⟩
theorem Dn.same {a:Ya Nat} {U:Ya (Ya Int)} {L:Ya Int} {f:Nat->Int} (h:Dn n m cap may N U0 L0 a U L f) (o:∀ k,k<n->row m (ua U0) k=row m (ua V0) k):∀ {V:Ya (Ya Int)} {M:Ya Int} {c:Nat->Int},Dn n m cap may N V0 M0 a V M c->f=c/\∀ k,k<n->row m (ua U) k=row m (ua V) k:=by
 induction h with
 | nil=>
  intro V M c h';generalize b:([]:Ya Nat)=a at h';cases h' with
  | nil=>exact ⟨rfl,o⟩
  | snoc _ _ _ _ _ _ _ _=>simp at b
 | snoc a U L f i g U' L' h hi C y=>
  intro V M c h';generalize b:a++[i]=es at h';cases h' with
  | nil=>simp at b
  | snoc es G H I j g1 _ _ D F e=>
   obtain ⟨E,w⟩:=List.append_inj' b rfl;cases w;subst E;obtain ⟨p,A⟩:=y D;obtain ⟨t,z⟩:=kzc hi A C e;subst t; subst p;exact ⟨rfl,z⟩
theorem Dn.pre {c:Ya Nat} {U:Ya (Ya Int)} {L:Ya Int} {f:Nat->Int} (h:Dn n m cap may N U0 L0 c U L f):∀ {a b:Ya Nat},c=a++b->∃ U' L' p,Dn n m cap may N U0 L0 a U' L' p/\∀ k,k∉b->f k=p k:=by
 induction h with
 | nil=>
  intro a b e;obtain ⟨rfl,rfl⟩:=List.append_eq_nil_iff.1 e.symm;exact ⟨_,_,_,.nil,λk _=>rfl⟩
 | snoc c U L f i g U' L' h hi C z=>
  intro a b e;rcases List.eq_nil_or_concat b with rfl | ⟨b',j,rfl⟩
  ·rw [jbe] at e;subst e;exact ⟨_,_,_,.snoc c U L f i g U' L' h hi C,λk _=>rfl⟩
  ·rw [List.concat_eq_append,<-jau] at e;obtain ⟨E,y⟩:=List.append_inj' e rfl;cases y;obtain ⟨D,A,t,g1,w⟩:=z E;refine ⟨D,A,t,g1,λk o=>?_⟩;simp only [List.concat_eq_append,jaw,jdj,not_or] at o;show (if k=i then g else f k)=t k;rw [if_neg o.2];exact w k o.1
end
def blk (Y R:Ya It) (sw:Ya Swap) (p:Int):Ya Nat:=(List.range Y.length).filter λk=>rkK Y R sw k==p
section
variable {Y R:Ya It} {sw:Ya Swap} (h:Prs R) (hs:sw.length<=1000)
include h hs
end
def Tell (n:Nat) (F:Ya Int) (f:Nat->Int):Prop:=F.length=n/\∀ k,k<n->F[k]?=some (f k)
theorem Tell.set {n:Nat} {F:Ya Int} {f:Nat->Int} (h:Tell n F f) {i:Nat} (hi:i<n) (g:Int):Tell n (F.set i g) (λk=>if k=i then g else f k):=by
 refine ⟨by simp [h.1],λk a=>?_⟩;rw [jcy];by_cases e:i=k
 ·subst e; simp [h.1,a]
 ·rw [if_neg e];show F[k]?=some (if k=i then g else f k);rw [if_neg (λb:k=i=>e b.symm)]; exact h.2 k a
section
variable {Y R:Ya It} {sw:Ya Swap} {m:Nat} {cap:Nat->Int} {may:Nat->Nat->Prop} {B:Ya (Ya Bool)} {U0:Ya (Ya Int)} {L0:Ya Int}
variable (h:Prs R) (hs:sw.length<=1000) (hY:Y.length<=1000) (hm:m<=1000) (hc:∀ j,j<m->cap j<=1000) (hN:∀ k,k<Y.length->0<=needN Y k/\needN Y k<=1000)
variable (hB:MayB Y.length m may B) (sh:Shp Y.length m U0 L0) (v:Val Y.length m cap may (ua U0) (la L0))
include hs hY hm hc hN hB sh v
end
theorem kog {κ β:Type} [DecidableEq κ] (p:κ×β) (r:Ya (κ×β)) (k:κ) (z:β):ment (p::r) k z=if k=p.1 then p::r else p::ment r k z:=by
 unfold ment;simp only [mget];by_cases h:k=p.1
 ·rw [if_pos h,if_pos h]
 ·rw [if_neg h,if_neg h];cases mget r k <;> rfl
theorem kza {κ β:Type} [DecidableEq κ] (l:Ya (κ×β)) (k:κ) (z:β):(mget (ment l k z) k).getD z=(mget l k).getD z:=by
 induction l with
 | nil=>simp [ment,mget]
 | cons p r a=>
  rw [kog];by_cases h:k=p.1
  ·rw [if_pos h]
  ·rw [if_neg h]; simp only [mget,if_neg h]; exact a
theorem kta {κ β:Type} [DecidableEq κ] (p:κ×β) (r:Ya (κ×β)) (k:κ):midx (p::r) k=if k=p.1 then 0 else midx r k+1:=by
 unfold midx;simp only [midxN];split
 ·rfl
 ·push_cast; rfl
theorem kAN {κ β:Type} [DecidableEq κ] (l:Ya (κ×β)) (k:κ):0<=midx l k:=by unfold midx; omega
theorem kAo {κ β:Type} [DecidableEq κ] (l:Ya (κ×β)) (k:κ) (z:β):∃ e,gi (ment l k z) (midx l k)=some e:=by
 induction l with
 | nil=>exact ⟨(k,z),rfl⟩
 | cons p r b=>
  rw [kog,kta];by_cases h:k=p.1
  ·rw [if_pos h,if_pos h]; exact ⟨p,rfl⟩
  ·rw [if_neg h,if_neg h];obtain ⟨e,a⟩:=b;obtain ⟨f,c⟩:=klU a;refine ⟨e,?_⟩;unfold gi;rw [if_pos (by omega),show (midx r k+1).toNat=(midx r k).toNat+1 by omega,jby];exact c
theorem kyK {κ β:Type} [DecidableEq κ] (l:Ya (κ×β)) (k:κ) (z v:β):mset (ment l k z) (midx l k) v=mput l k v:=by
 induction l with
 | nil=>rfl
 | cons p r a=>
  rw [kog,kta];by_cases h:k=p.1
  ·rw [if_pos h,if_pos h];simp only [mput,if_pos h,mset];simp [h]
  ·rw [if_neg h,if_neg h];simp only [mput,if_neg h];rw [<-a];have hn:=kAN r k;unfold mset;rw [show (midx r k+1).toNat=(midx r k).toNat+1 by omega,jby];cases (ment r k z)[(midx r k).toNat]? <;> rfl
def sumL (g:Nat->Int) (l:Ya Nat):Int:=(l.map g).foldr (·+ ·) 0
theorem keq (g:Nat->Int):sumL g []=0:=rfl
theorem kbb (g:Nat->Int) (k:Nat) (l:Ya Nat):sumL g (k::l)=g k+sumL g l:=rfl
theorem klz (g:Nat->Int) (a b:Ya Nat):sumL g (a++b)=sumL g a+sumL g b:=by
 induction a with
 | nil=>simp [keq]
 | cons k a c=>rw [jdp,kbb,kbb,c]; omega
theorem kwM {g:Nat->Int} {c:Int} {l:Ya Nat} (h:∀ k∈l,0<=g k/\g k<=c) (hc:0<=c):0<=sumL g l/\sumL g l<=c*l.length:=by
 induction l with
 | nil=>simp [keq]
 | cons k l e=>
  have a:=h k (by simp);have b:=e λk f=>h k (by simp [f]);rw [kbb,jcv]
  push_cast
  rw [Int.mul_add,Int.mul_one];omega
theorem kmT {g g':Nat->Int} {l:Ya Nat} (h:∀ k∈l,g k=g' k):sumL g l=sumL g' l:=by
 unfold sumL; rw [List.map_congr_left h]
theorem kom {g:Nat->Int} {l l':Ya Nat} (h:l.Perm l'):sumL g l=sumL g l':=by
 induction h with
 | nil=>rfl
 | cons x _ c=>rw [kbb,kbb,c]
 | swap x y l=>rw [kbb,kbb,kbb,kbb]; omega
 | trans _ _ a b=>exact a.trans b
theorem krB {a b:Int} (c:0<=a) (f:a<=1000) (h2:0<=b) (e:b<=10000):0<=a*b/\a*b<=10000000:=by
 refine ⟨Int.mul_nonneg c h2,?_⟩;have:=Int.mul_le_mul f e h2 (by omega:(0:Int)<=1000);omega
section
variable {Y R:Ya It} {sw:Ya Swap} {m:Nat} {cap:Nat->Int} {may:Nat->Nat->Prop} {M:Ya (Ya Int)} {U0 V0:Ya (Ya Int)} {L0 M0:Ya Int}
variable (h:Prs R) (hs:sw.length<=1000) (hY:Y.length<=1000) (hm:m<=1000) (hc:∀ j,j<m->cap j<=1000) (hN:∀ k,k<Y.length->0<=needN Y k/\needN Y k<=1000)
variable (hM:MayL Y.length m may M) (sh:Shp Y.length m U0 L0) (v:Val Y.length m cap may (ua U0) (la L0))
def lks (Y:Ya It) (f:Nat->Int) (k:Nat):Int:=needN Y k-f k
structure Gv (Y R:List It) (sw:List Swap) (m:Nat) (cap:Nat->Int) (may:Nat->Nat->Prop) (U0:List (List Int)) (L0:List Int) (f:Nat->Int) (ds:List Nat) (U:List (List Int)) (L:List Int) (c:Int) (F:List Int) (B:List ((Int×Int)×Int)):Prop where
 g:∃ f',Dn Y.length m cap may (needN Y) U0 L0 ds U L f'/\(∀ k∈ds,f' k=f k)/\Tell Y.length F f'
 c:c=sumL (λk=>lks Y f k*bq R (oK Y R sw k)) ds
 b:∀ p,(mget B p).getD 0=sumL (λk=>if pq R (oK Y R sw k)=p then lks Y f k else 0) ds
 n:∀ k∈ds,oK Y R sw k=none->f k=needN Y k
include h hs hY hm hc hN hM sh v
theorem kyX {ks:Ya Nat} {V:Ya (Ya Int)} {W:Ya Int} {f:Nat->Int} (hT:Dn Y.length m cap may (needN Y) V0 M0 ks V W f) (h0:∀ k,k<Y.length->row m (ua U0) k=row m (ua V0) k) (I:∀ k∈ks,k<Y.length) (ad:ks.Nodup) (aj:ks.length<=1000) :
  ∃ z,iter (kkf (ks.map (lnK Y R sw))) (0,Y,M,U0,L0,0,List.replicate Y.length 0,0,[])=some z/\
   ((z = .inl (([],[],0),80)/\∃ k∈ks,oK Y R sw k=none/\f k<needN Y k)\/∃ U L c F B,z = .inr (B,0,c,F)/\Gv Y R sw m cap may U0 L0 f ks U L c F B):=by
 have K:∀ k∈ks,0<=lks Y f k/\lks Y f k<=1000:=λk w=>by
  have:=(hT.bd k).1 w;have:=hN k (I k w);unfold lks; omega
 refine Fl.iter_inv (F:=kkf (ks.map (lnK Y R sw))) (λx=>∃ (i:Nat) (U:Ya (Ya Int)) (L:Ya Int) (c:Int) (F:Ya Int) (B:Ya ((Int×Int)×Int)),i<=ks.length/\x=((i:Int),Y,M,U,L,c,F,0,B)/\Gv Y R sw m cap may U0 L0 f (ks.take i) U L c F B) (λx=>ks.length-x.1.toNat) _
  (λx ⟨i,U,L,c,F,B,hi,e,G⟩=>?_) _ ⟨0,U0,L0,0,_,[],by omega,rfl,⟨⟨_,.nil,(λk I=>by simp at I),by simp,λk I=>by rw [jcd,if_pos I]⟩,rfl,λp=>rfl,λk I=>by simp at I⟩⟩ (by simp only; omega)
 subst e;unfold kkf;dsimp only;have H:(ks.map (lnK Y R sw)).length=ks.length:=by simp
 by_cases t:i<ks.length
 ·have y:=I ks[i] (jdx t);have hg:gi (ks.map (lnK Y R sw)) (i:Int)=some (lnK Y R sw ks[i]):=by rw [kkA,jas,jae t]; rfl
  rw [if_pos (by rw [kaf,H]; simpa using t),hg];simp only [jab];generalize w:ks[i]=k at *
  obtain ⟨f',hD,an,hF⟩:=G.g;obtain ⟨ab,v'⟩:=hD.ok sh v;have hn:=hN k y;obtain ⟨g,U',L',e1,hG⟩:=kte (N:=Y) hM hY hm hc y hn.1 hn.2 ab v';have A:ks.take (i+1)=ks.take i++[k]:=by rw [List.take_add_one,jae t,w]; rfl
  have hD':=Dn.snoc _ _ _ _ k g U' L' hD y hG;rw [<-A] at hD';obtain ⟨U2,L2,f2,q1,q2⟩:=hT.pre (a:=ks.take (i+1)) (b:=ks.drop (i+1)) (List.take_append_drop (i+1) ks).symm;obtain ⟨Z,_⟩:=hD'.same h0 q1;have E:∀ x∈ks.take (i+1),x∉ks.drop (i+1):=λx h1 h2=>by
   have:=ad;rw [<-List.take_append_drop (i+1) ks,jea] at this;exact this.2.2 x h1 x h2 rfl
  have ac:k∈ks.take (i+1):=by rw [A]; simp
  have J:f k=g:=by rw [q2 k (E k ac),<-Z]; show (if k=k then g else f' k)=g; rw [if_pos rfl]
  rw [show (lnK Y R sw k).1=(k:Int) from rfl,show (lnK Y R sw k).2.2.1=needN Y k from rfl,show (lnK Y R sw k).2.2.2.2=(oK Y R sw k).isSome from rfl,show (lnK Y R sw k).2.2.2.1=pq R (oK Y R sw k) from rfl,show (lnK Y R sw k).2.1=bq R (oK Y R sw k) from rfl,e1];simp only [jab];rw [kas (show k<F.length by rw [hF.1]; exact y)];simp only [jab];by_cases o:g<needN Y k/\oK Y R sw k=none
  ·left;rw [if_pos (show decide (g<needN Y k)=true by simpa using o.1),o.2];simp only [jab,Option.isSome_none,jcz,if_true];exact ⟨_,rfl,.inl ⟨rfl,k,by rw [<-w]; exact jdx t,o.2,by rw [J]; exact o.1⟩⟩
  ·right;have ah:(if decide (g<needN Y k)=true then some (!(oK Y R sw k).isSome) else some false)=some false:=by
    by_cases P:g<needN Y k
    ·rw [if_pos (by simpa using P)];cases e:oK Y R sw k with
     | none=>exact absurd ⟨P,e⟩ o
     | some _=>rfl
    ·rw [if_neg (by simpa using P)]
   rw [ah];simp only [jab,jai,if_false];obtain ⟨en,af⟩:=kAo B (pq R (oK Y R sw k)) 0;rw [af];simp only [jab,kyK,kza];have ak:=hG.g0; have am:=hG.g1;have hb:=bq_bd (Y:=Y) h hs k;have ai:=krB (a:=needN Y k-g) (b:=bq R (oK Y R sw k)) (by omega) (by omega) hb.1 hb.2;have al:=kwM (g:=λk=>lks Y f k*bq R (oK Y R sw k)) (c:=10000000) (l:=ks.take i) (λx C=>by
    have D:=jcl C;exact krB (K x D).1 (K x D).2 (bq_bd (Y:=Y) h hs x).1 (bq_bd (Y:=Y) h hs x).2) (by omega)
   have ap:((ks.take i).length:Int)<=1000:=by rw [jbi]; omega
   have ae:=G.c;have aa:=G.b (pq R (oK Y R sw k));have ao:=kwM (g:=λk'=>if pq R (oK Y R sw k')=pq R (oK Y R sw k) then lks Y f k' else 0) (c:=1000) (l:=ks.take i) (λx C=>by
    have D:=jcl C;split
    ·exact K x D
    ·omega) (by omega)
   rw [kbo (x:=needN Y k-g) (by omega) (by omega),kbo (x:=(needN Y k-g)*bq R (oK Y R sw k)) (by omega) (by omega),kbo (x:=c+(needN Y k-g)*bq R (oK Y R sw k)) (by omega) (by omega),kbo (x:=(mget B (pq R (oK Y R sw k))).getD 0+(needN Y k-g)) (by omega) (by omega),kax (by omega)];rw [keZ (kbM _ rfl _)];have Q:lks Y f k=needN Y k-g:=by unfold lks; rw [J]
   refine ⟨_,rfl,⟨i+1,U',L',_,_,_,by omega,rfl,⟨⟨_,hD',λx C=>?_,hF.set y g⟩,?_,λp=>?_,λx C O=>?_⟩⟩,by simp only [jay]; omega⟩
   ·rw [q2 x (E x C),<-Z]
   ·rw [A,klz,kbb,keq,Q,ae]; omega
   ·rw [koa,A,klz,kbb,keq,Q];by_cases e:p=pq R (oK Y R sw k)
    ·subst e;rw [if_pos rfl,if_pos rfl];simp only [jcb];rw [aa]; omega
    ·rw [if_neg e,if_neg (λZ=>e Z.symm),G.b p]; omega
   ·rw [A,jaw,jdj] at C;rcases C with C | rfl
    ·exact G.n x C O
    ·rw [J];by_cases P:g<needN Y x
     ·exact absurd ⟨P,O⟩ o
     ·omega
 ·left;rw [if_neg (by rw [kaf,H]; simpa using t)];have:i=ks.length:=by omega
  subst this;rw [List.take_length] at G;exact ⟨_,rfl,.inr ⟨U,L,c,F,B,rfl,G⟩⟩
end
def buyL (R:Ya It) (S:Nat->Int) (n:Nat):Ya It:=((List.range n).filter λi=>decide (0<S i)).map λi=>((at3 R i).1,(at3 R i).2.1,S i)
theorem kyP (R:Ya It) (S:Nat->Int) (n:Nat):buyL R S (n+1)=if 0<S n then buyL R S n++[((at3 R n).1,(at3 R n).2.1,S n)] else buyL R S n:=by
 unfold buyL;rw [List.range_succ,List.filter_append,jcm];by_cases e:0<S n <;> simp [e]
theorem kzS (R:Ya It) (S:Nat->Int) (n:Nat):(buyL R S n).length<=n:=by
 unfold buyL;rw [jaq];exact jda (List.length_filter_le _ _) (by simp)
section
variable {Y R:Ya It} {sw:Ya Swap} (h:Prs R) (hs:sw.length<=1000) (hY:Y.length<=30)
include h
theorem kxJ {B:Ya ((Int×Int)×Int)} {S:Nat->Int} {c:Int} {F:Ya Int} (hB:∀ i,i<R.length->(mget B (kc (at3 R i))).getD 0=S i) :
  ∃ z,iter (kke R (B,0,c,F)) (0,0,c,[])=some z/\((z = .inl (([],[],0),4)/\∃ i,i<R.length/\1000<S i)\/(z = .inr (c,buyL R S R.length,0)/\∀ i,i<R.length->S i<=1000)):=by
 have hl:=h.l;refine Fl.iter_inv (F:=kke R (B,0,c,F)) (λx=>∃ n:Nat,n<=R.length/\x=((n:Int),0,c,buyL R S n)/\∀ i,i<n->S i<=1000) (λx=>R.length-x.1.toNat) _
  (λx ⟨n,hn,e,f⟩=>?_) _ ⟨0,by omega,rfl,λi hi=>by omega⟩ (by simp only; omega)
 subst e;unfold kke;dsimp only;by_cases a:n<R.length
 ·have g:at3 R n=R[n]:=kcg a;have w:=hB n a;rw [g] at w;rw [if_pos (by simpa [kaf] using a),kas a];simp only [jab,kbt];rw [show (mget B (R[n].1,R[n].2.1)).getD 0=S n from w];by_cases p:1000<S n
  ·left;rw [if_pos (by simpa using p)];exact ⟨_,rfl,.inl ⟨rfl,n,a,p⟩⟩
  ·right;rw [if_neg (by simpa using p),kax (by omega)];have b:=kyP R S n;rw [g] at b;have t:=kzS R S n;by_cases o:0<S n
   ·rw [if_pos (by simpa using o),khU (by simp; omega)];simp only [jab];rw [if_pos o] at b;refine ⟨_,rfl,⟨n+1,by omega,by rw [b],λi hi=>?_⟩,by simp only [jay]; omega⟩;by_cases e:i=n
    ·subst e; omega
    ·exact f i (by omega)
   ·rw [if_neg (by simpa using o)];rw [if_neg o] at b;refine ⟨_,rfl,⟨n+1,by omega,by rw [b],λi hi=>?_⟩,by simp only [jay]; omega⟩;by_cases e:i=n
    ·subst e; omega
    ·exact f i (by omega)
 ·left;rw [if_neg (by simpa [kaf] using a)];have:n=R.length:=by omega
  subst this;exact ⟨_,rfl,.inr ⟨rfl,f⟩⟩
include hs hY
end
def klQ (p u:It):Bool:=decide (u.1<p.1)||(u.1==p.1&&decide (u.2.1<=p.2.1))
def okU (X Y:Ya It) (sw:Ya Swap) (us:Ya It) (i:Nat) (W L:Ya Int):Bool:=
 wi 0 ((Y.length:Int)-1) (at3 us i).1&&wi 0 ((X.length:Int)-1) (at3 us i).2.1&&mayB sw (kc (at3 Y (at3 us i).1.toNat)) (kc (at3 X (at3 us i).2.1.toNat)) &&
  decide (1<=(at3 us i).2.2)&&decide ((at3 us i).2.2<=la W (at3 us i).1.toNat)&&decide ((at3 us i).2.2<=la L (at3 us i).2.1.toNat)&&!(decide (0<i)&&klQ (at3 us (i-1)) (at3 us i))
def run (X Y:Ya It) (sw:Ya Swap) (us:Ya It):Nat->Nat->Int->Ya Int->Ya Int->Yb Int
 | 0,_,t,_,_=>some t
 | k+1,i,t,W,L=>if okU X Y sw us i W L=true then run X Y sw us k (i+1) (t+(at3 us i).2.2) (W.set (at3 us i).1.toNat (la W (at3 us i).1.toNat-(at3 us i).2.2)) (L.set (at3 us i).2.1.toNat (la L (at3 us i).2.1.toNat-(at3 us i).2.2)) else none
def Sm (l:Ya Int):Prop:=∀ k,0<=la l k/\la l k<=1000
theorem Sm.set {l:Ya Int} (h:Sm l) {a:Nat} {v:Int} (b:0<=v) (e:v<=1000):Sm (l.set a v):=λk=>by
 by_cases c:a<l.length
 ·rw [keT c]; split
  ·exact ⟨b,e⟩
  ·exact h k
 ·rw [List.set_eq_of_length_le (by omega)]; exact h k
theorem kfa (n lo hi:Int):kby n lo hi=some (wi lo hi n):=kei n lo hi
theorem okU_iff {X Y us:Ya It} {sw:Ya Swap} {i:Nat} {W L:Ya Int}:okU X Y sw us i W L=true↔(0<=(at3 us i).1/\(at3 us i).1<=(Y.length:Int)-1)/\(0<=(at3 us i).2.1/\(at3 us i).2.1<=(X.length:Int)-1)/\mayB sw (kc (at3 Y (at3 us i).1.toNat)) (kc (at3 X (at3 us i).2.1.toNat))=true/\
  1<=(at3 us i).2.2/\(at3 us i).2.2<=la W (at3 us i).1.toNat/\(at3 us i).2.2<=la L (at3 us i).2.1.toNat/\(decide (0<i)&&klQ (at3 us (i-1)) (at3 us i))=false:=by
 unfold okU;simp only [jac,wi_iff,jaj,jbd,and_assoc]
section
variable {X Y us:Ya It} {sw:Ya Swap}
end
end Go.Abs
namespace Go.Abs.Fl
open Go Go.Abs
theorem kpf {f g:Nat->Int} {n:Nat} (h:∀ i,i<n->f i<=g i):sumN f n<=sumN g n:=by
 have:=keM (f:=λi=>g i-f i) (n:=n) λi hi=>by have:=h i hi; show 0<=g i-f i; omega
 rw [kfi] at this;omega
theorem kxw {f g:Nat->Int} {n:Nat} (h:∀ i,i<n->f i<=g i) (e:sumN g n<=sumN f n):∀ i,i<n->f i=g i:=λi hi=>by
 have:=koB (f:=λi=>g i-f i) (n:=n) (λi hi=>by have:=h i hi; show 0<=g i-f i; omega) (by rw [kfi]; omega) i hi;have:g i-f i=0:=this;omega
def Nb (n m:Nat) (may:Nat->Nat->Prop) (S T:Nat->Bool):Prop:=∀ j,j<m->(T j=true↔∃ k,k<n/\S k=true/\may k j)
def lack (n m:Nat) (cap N:Nat->Int) (S T:Nat->Bool):Int:=sumN (λk=>if S k=true then N k else 0) n-sumN (λj=>if T j=true then cap j else 0) m
variable {n m:Nat} {cap:Nat->Int} {may:Nat->Nat->Prop} {N:Nat->Int} {u u':Nat->Nat->Int} {l l':Nat->Int} {S T:Nat->Bool}
theorem kBb (v:Val n m cap may u l) (S:Nat->Bool) {j:Nat} (a:j<m):sumN (λk=>if S k=true then u k j else 0) n<=cap j:=by
 have c:=v.bal j a;have h2:=v.ln j a;have:sumN (λk=>if S k=true then u k j else 0) n<=sumN (λk=>u k j) n:=kpf λk b=>by
  have:=v.nn k b j a;show (if S k=true then u k j else 0)<=u k j;split <;> omega
 omega
theorem Nb.h (h:Nb n m may S T):∀ k,k<n->S k=true->∀ j,j<m->may k j->T j=true:=λk b hs j a hm=>(h j a).2 ⟨k,b,hs,hm⟩
theorem kzm (v:Val n m cap may u l) (hN:∀ k,k<n->row m u k<=N k) (hT:Nb n m may S T):lack n m cap N S T<=sumN N n-sumN (row m u) n:=by
 have e:=kpd v hT.h;have h2:sumN (λj=>if T j=true then sumN (λk=>if S k=true then u k j else 0) n else 0) m<=sumN (λj=>if T j=true then cap j else 0) m:=kpf λj a=>by
  show (if T j=true then sumN (λk=>if S k=true then u k j else 0) n else 0)<=(if T j=true then cap j else 0);split
  ·exact kBb v S a
  ·exact jcq 0
 have b:sumN (λk=>(if S k=true then N k else 0)-(if S k=true then row m u k else 0)) n<=sumN (λk=>N k-row m u k) n:=kpf λk c=>by
  have:=hN k c;show (if S k=true then N k else 0)-(if S k=true then row m u k else 0)<=N k-row m u k;split <;> omega
 rw [kfi,kfi] at b;unfold lack;omega
theorem kvV (v:Val n m cap may u l) (hN:∀ k,k<n->row m u k<=N k) (hS:Sat n m may u l S) (hT:Nb n m may S T) (h:∀ k,k<n->row m u k<N k->S k=true):lack n m cap N S T=sumN N n-sumN (row m u) n:=by
 have p:=kpd v hT.h;have h2:sumN (λj=>if T j=true then sumN (λk=>if S k=true then u k j else 0) n else 0) m=sumN (λj=>if T j=true then cap j else 0) m:=kap λj b=>by
  show (if T j=true then sumN (λk=>if S k=true then u k j else 0) n else 0)=(if T j=true then cap j else 0);split
  ·rename_i o;obtain ⟨k,f,hs,hm⟩:=(hT j b).1 o;have z:=hS.z k f hs j b hm;have t:=v.bal j b;have:sumN (λk=>if S k=true then u k j else 0) n=sumN (λk=>u k j) n:=kap λa e=>by
    show (if S a=true then u a j else 0)=u a j;split
    ·rfl
    ·rename_i hn;have:=v.nn a e j b;by_cases c:0<u a j
     ·exact absurd (hS.c k f hs j b hm a e c) hn
     ·omega
   omega
  ·rfl
 have g:sumN (λk=>(if S k=true then N k else 0)-(if S k=true then row m u k else 0)) n=sumN (λk=>N k-row m u k) n:=kap λk f=>by
  show (if S k=true then N k else 0)-(if S k=true then row m u k else 0)=N k-row m u k;split
  ·rfl
  ·rename_i hn;have:=hN k f;by_cases c:row m u k<N k
   ·exact absurd (h k f c) hn
   ·omega
 rw [kfi,kfi] at g;unfold lack;omega
theorem kwI {S:Nat->Bool} {L:Nat->Prop} (hS:∀ k,k<n->(S k=true↔Rch n m may u L k)) (hs:∀ i,i<n->L i->∃ a,a i=true/\Sat n m may u l a):Sat n m may u l S:=by
 have key:∀ k,Rch n m may u L k->∃ a,a k=true/\Sat n m may u l a:=by
  intro k hr;induction hr with
  | base hi hl=>exact hs _ hi hl
  | step hr e hm b g o=>
   obtain ⟨a,s1,s2⟩:=o;exact ⟨a,s2.c _ hr.lt s1 _ e hm _ b g,s2⟩
 refine ⟨λk b h j e hm=>?_,λk b h j e hm p f g=>?_⟩
 ·obtain ⟨a,s1,s2⟩:=key k ((hS k b).1 h);exact s2.z k b s1 j e hm
 ·exact (hS p f).2 (Rch.step ((hS k b).1 h) e hm f g)
theorem best (v:Val n m cap may u l) (hN:∀ k,k<n->row m u k<=N k) (hs:∀ k,k<n->row m u k<N k->∃ S,S k=true/\Sat n m may u l S) (a:Val n m cap may u' l') (hN':∀ k,k<n->row m u' k<=N k):sumN (row m u') n<=sumN (row m u) n:=by
 classical
 let S:Nat->Bool:=λk=>decide (Rch n m may u (λk=>row m u k<N k) k)
 let T:Nat->Bool:=λj=>decide (∃ k,k<n/\S k=true/\may k j)
 have hT:Nb n m may S T:=λj _=>by simp only [T,jaj]
 have c:=kvV (N:=N) v hN (kwI (S:=S) (L:=λk=>row m u k<N k) (λk _=>by simp only [S,jaj]) hs) hT (λk b hl=>by simp only [S,jaj]; exact .base b hl);have h2:=kzm (N:=N) a hN' hT;omega
end Go.Abs.Fl
namespace Go.Abs
open Go Go.Abs.Fl
theorem kzJ (l:Ya Swap):∃ b,kfA l=some b/\(b=true↔swE l=0):=by
 have h:=knE l;unfold khG at h;cases a:kfA l with
 | none=>rw [a] at h; cases h
 | some b=>
  rw [a] at h;refine ⟨b,rfl,?_⟩;cases b with
  | true=>simp at h; simp [<-h]
  | false=>simp at h; simp [<-h]
theorem ask0 {X Y:Ya It} {sw:Ya Swap} (h:askE X Y sw=0):stk X=true/\stk Y=true:=by
 by_cases c:stk X=true/\stk Y=true
 ·exact c
 ·unfold askE at h; rw [if_neg c] at h; omega
theorem kzN (X Y:Ya It) (sw:Ya Swap):∃ b,kji X Y sw=some b/\(b=true->X.length<=40/\Y.length<=40/\sw.length<=40/\askE X Y sw=0):=by
 obtain ⟨c,hc,a⟩:=kAK X Y;obtain ⟨d,o,e⟩:=kzJ sw;unfold kji;rw [hc];simp only [jab];cases c with
 | true=>exact ⟨false,rfl,λh=>by cases h⟩
 | false=>
  by_cases g:lenI sw<=40
  ·simp only [jcz,if_true,decide_eq_true g,ksG,jab,o];by_cases h2:stk X=true
   ·by_cases f:stk Y=true
    ·refine ⟨d,by rw [if_pos h2,if_pos f],λh=>⟨(a rfl).1,(a rfl).2,by rw [kaf] at g; omega,?_⟩⟩;unfold askE;rw [if_pos ⟨h2,f⟩]; exact e.1 h
    ·exact ⟨false,by rw [if_pos h2,if_neg f],λh=>by cases h⟩
   ·exact ⟨false,by rw [if_neg h2],λh=>by cases h⟩
  ·simp only [jcz,if_true,decide_eq_false g,jai,if_false];exact ⟨false,rfl,λh=>by cases h⟩
theorem kxa {f:Nat->Int} {c:Int}:∀ {n:Nat},(∀ i,i<n->0<=f i/\f i<=c)->0<=sumN f n/\sumN f n<=c*n
 | 0,_=>by simp [sumN]
 | n+1,h=>by
  have a:=kxa (n:=n) λi hi=>h i (by omega);have h2:=h n (by omega);simp only [sumN];have e:c*((n+1:Nat):Int)=c*(n:Int)+c:=by push_cast; rw [Int.mul_add,Int.mul_one]
  rw [e]; omega
theorem kyZ {l:Ya It} {k:Nat} (h:k<l.length):l[k].2.2=needN l k:=(kql h).symm
variable {X Y:Ya It} {sw:Ya Swap}
structure Fld (X Y:List It) (sw:List Swap) (t:Int) (s:List Bool):Prop where
 ex:∃ U L,Val Y.length X.length (needN X) (mayQ X Y sw) (ua U) (la L)/\(∀ k,k<Y.length->row X.length (ua U) k<=needN Y k)/\t=sumN (row X.length (ua U)) Y.length/\
  (∀ k,k<Y.length->row X.length (ua U) k<needN Y k->∃ S,S k=true/\Fl.Sat Y.length X.length (mayQ X Y sw) (ua U) (la L) S)/\
  ∀ k,k<Y.length->(sa s k=true↔Rch Y.length X.length (mayQ X Y sw) (ua U) (λk=>row X.length (ua U) k<needN Y k) k)
 sl:s.length=Y.length
theorem Rch.imp {n m:Nat} {may:Nat->Nat->Prop} {u:Nat->Nat->Int} {L L':Nat->Prop} (h:∀ k,k<n->L k->L' k) {i:Nat} (r:Rch n m may u L i):Rch n m may u L' i:=by
 induction r with
 | base hi hl=>exact .base hi (h _ hi hl)
 | step _ b hm e a c=>exact .step c b hm e a
section
variable {X Y us:Ya It} {sw:Ya Swap}
structure Rl (X Y:List It) (W L G K:List Int):Prop where
 w:W.length=Y.length
 l:L.length=X.length
 g:G.length=Y.length
 k:K.length=X.length
 a:∀ a,a<Y.length->la W a=needN Y a-la G a
 b:∀ b,b<X.length->la L b=needN X b-la K b
theorem kBd (hs:sw.length<=1000) (hX:X.length<=1000) (hY:Y.length<=1000) (hu:us.length<=1000) (nX:∀ b,b<X.length->0<=needN X b/\needN X b<=1000) (nY:∀ a,a<Y.length->0<=needN Y a/\needN Y a<=1000):∀ (k i:Nat) (t:Int) (W L G K:Ya Int),i+k=us.length->Rl X Y W L G K->Sm W->Sm L->
  itN (kaA X Y sw us) (k+1) ((i:Int),G,K)=some (match run X Y sw us k i t W L with | some _=>.inr () | none=>.inl false):=by
 intro k;induction k with
 | zero=>
  intro i t W L G K h r sW sL;have:i=us.length:=by omega
  subst this;refine kgh ?_;unfold kaA;rw [if_neg kjy]; rfl
 | succ k ih=>
  intro i t W L G K h r sW sL;have hi:i<us.length:=by omega
  have g0:gi us (i:Int)=some (at3 us i):=by rw [kas hi,kcg hi]
  have hn:w64 (lenI Y-1)=(Y.length:Int)-1:=by rw [kaf]; exact kbo (by omega) (by omega)
  have hm:w64 (lenI X-1)=(X.length:Int)-1:=by rw [kaf]; exact kbo (by omega) (by omega)
  have c:decide ((i:Int)<lenI us)=true:=lenI_lt.2 hi;have hw:w64 ((i:Int)+1)=((i+1:Nat):Int):=kax (by omega);simp only [run];generalize y:at3 us i=u at *
  have A:okU X Y sw us i W L=false->kaA X Y sw us ((i:Int),G,K)=some (.inr (.inl false))->itN (kaA X Y sw us) (k+1+1) ((i:Int),G,K)=some (match (if okU X Y sw us i W L=true then run X Y sw us k (i+1) (t+u.2.2) (W.set u.1.toNat (la W u.1.toNat-u.2.2)) (L.set u.2.1.toNat (la L u.2.1.toNat-u.2.2)) else none) with | some _=>.inr () | none=>.inl false):=λQ z=>by
   rw [Q,kgh z]; rfl
  by_cases D:wi 0 ((Y.length:Int)-1) u.1=true
  ·by_cases F:wi 0 ((X.length:Int)-1) u.2.1=true
   ·obtain ⟨a1,a2⟩:=wi_iff.1 D;obtain ⟨b1,b2⟩:=wi_iff.1 F;obtain ⟨a,Z⟩:∃ a:Nat,u.1=(a:Int):=⟨u.1.toNat,by omega⟩;obtain ⟨b,Q⟩:∃ b:Nat,u.2.1=(b:Int):=⟨u.2.1.toNat,by omega⟩;have o:a<Y.length:=by omega
    have p:b<X.length:=by omega
    have E:u.1.toNat=a:=by omega
    have H:u.2.1.toNat=b:=by omega
    have ra:=r.a a o;have rb:=r.b b p;have na:=nY a o;have nb:=nX b p;have ai:=sW a;have ah:=sL b;by_cases I:wi 1 1000 u.2.2=true
    ·obtain ⟨n1,n2⟩:=wi_iff.1 I;have gG:gi G (a:Int)=some (la G a):=gi_D 0 (by rw [r.g]; exact o);have gK:gi K (b:Int)=some (la K b):=gi_D 0 (by rw [r.k]; exact p);have gY:gi Y (a:Int)=some (at3 Y a):=by rw [kas o,kcg o]
     have gX:gi X (b:Int)=some (at3 X b):=by rw [kas p,kcg p]
     have e1:w64 (la G a+u.2.2)=la G a+u.2.2:=kbo (by omega) (by omega);have e2:w64 (la K b+u.2.2)=la K b+u.2.2:=kbo (by omega) (by omega);have gG2:gi (lset G (a:Int) (la G a+u.2.2)) (a:Int)=some (la G a+u.2.2):=by
      show gi (G.set a (la G a+u.2.2)) (a:Int)=_;rw [gi_D 0 (by rw [jbs,r.g]; exact o),Fl.getD_set (by rw [r.g]; exact o),if_pos rfl]
     have gK2:gi (lset K (b:Int) (la K b+u.2.2)) (b:Int)=some (la K b+u.2.2):=by
      show gi (K.set b (la K b+u.2.2)) (b:Int)=_;rw [gi_D 0 (by rw [jbs,r.k]; exact p),Fl.getD_set (by rw [r.k]; exact p),if_pos rfl]
     have hY2:(at3 Y a).2.2=needN Y a:=rfl;have hX2:(at3 X b).2.2=needN X b:=rfl;have C:kgk sw (at3 Y a).1 (at3 Y a).2.1 (at3 X b).1 (at3 X b).2.1=some (mayB sw (kc (at3 Y a)) (kc (at3 X b))):=koD sw hs (kc (at3 Y a)) (kc (at3 X b));have f:(if decide (0<(i:Int))=true then (gi us (w64 ((i:Int)-1))).bind λaa=>(if decide (u.1<aa.1)=true then some true else (gi us (w64 ((i:Int)-1))).bind λae=>if (u.1==ae.1)=true then (gi us (w64 ((i:Int)-1))).bind λaf=>some (decide (u.2.1<=af.2.1)) else some false) else some false)=some (decide (0<i)&&klQ (at3 us (i-1)) u):=by
      by_cases J:0<i
      ·rw [if_pos (by simp; omega),show w64 ((i:Int)-1)=((i-1:Nat):Int) by rw [kbo (by omega) (by omega)]; omega,kas (show i-1<us.length by omega)];simp only [jab,<-kcg (show i-1<us.length by omega)];unfold klQ;by_cases q1:u.1<(at3 us (i-1)).1
       ·simp [q1,J]
       ·by_cases q2:(u.1==(at3 us (i-1)).1)=true
        ·simp [q1,q2,J]
        ·rw [jbk] at q2; simp [q1,q2,J]
      ·rw [if_neg (by simp; omega)]; simp [J]
     cases O:(decide (0<i)&&klQ (at3 us (i-1)) u) with
     | true=>
      refine A ?_ ?_
      ·rw [jeg]; intro z;have:=(okU_iff.1 z).2.2.2.2.2.2;rw [y,O] at this; cases this
      ·unfold kaA;simp only [c,if_true,g0,jab,hn,hm,kfa,D,F,I,jcg,jai,if_false];rw [f,O];simp only [jab,if_true]
     | false=>
     cases P:mayB sw (kc (at3 Y a)) (kc (at3 X b)) with
     | false=>
      refine A ?_ ?_
      ·rw [jeg]; intro z;have:=(okU_iff.1 z).2.2.1;rw [y,E,H,P] at this; cases this
      ·unfold kaA;simp only [c,if_true,g0,jab,hn,hm,kfa,D,F,I,jcg,jai,if_false];rw [f,O];simp only [Z,Q,gG,gK,gY,gX,C,P,jab,jai,if_false,jcz,if_true]
     | true=>
      by_cases c6:needN Y a<la G a+u.2.2
      ·refine A ?_ ?_
       ·rw [jeg]; intro z;have:=(okU_iff.1 z).2.2.2.2.1;rw [y,E] at this; omega
       ·unfold kaA;simp only [c,if_true,g0,jab,hn,hm,kfa,D,F,I,jcg,jai,if_false];rw [f,O];simp only [Z,Q,gG,gK,gY,gX,C,P,jab,jai,if_false,jcg,e1,e2,gG2,hY2,decide_eq_true c6,if_true]
      ·by_cases c7:needN X b<la K b+u.2.2
       ·refine A ?_ ?_
        ·rw [jeg]; intro z;have:=(okU_iff.1 z).2.2.2.2.2.1;rw [y,H] at this; omega
        ·unfold kaA;simp only [c,if_true,g0,jab,hn,hm,kfa,D,F,I,jcg,jai,if_false];rw [f,O];simp only [Z,Q,gG,gK,gY,gX,C,P,jab,jai,if_false,jcg,e1,e2,gG2,gK2,hY2,hX2,decide_eq_false c6,decide_eq_true c7,if_true]
       ·have ac:okU X Y sw us i W L=true:=okU_iff.2 (by rw [y,E,H]; exact ⟨⟨a1,a2⟩,⟨b1,b2⟩,P,n1,by omega,by omega,O⟩);rw [if_pos ac,E,H];have haW:a<W.length:=by rw [r.w]; exact o
        have hbL:b<L.length:=by rw [r.l]; exact p
        have haG:a<G.length:=by rw [r.g]; exact o
        have hbK:b<K.length:=by rw [r.k]; exact p
        rw [<-ih (i+1) (t+u.2.2) (W.set a (la W a-u.2.2)) (L.set b (la L b-u.2.2)) (G.set a (la G a+u.2.2)) (K.set b (la K b+u.2.2)) (by omega) ⟨by simp [r.w],by simp [r.l],by simp [r.g],by simp [r.k],λa' ab=>?_,λb' ad=>?_⟩ (sW.set (by omega) (by omega)) (sL.set (by omega) (by omega))]
        ·refine kmm ?_;unfold kaA;simp only [c,if_true,g0,jab,hn,hm,kfa,D,F,I,jcg,jai,if_false];rw [f,O];simp only [Z,Q,gG,gK,gY,gX,C,P,jab,jai,if_false,jcg,e1,e2,gG2,gK2,hY2,hX2,decide_eq_false c6,decide_eq_false c7,hw];rfl
        ·rw [keT haW,keT haG];split
         ·rename_i e; subst e; omega
         ·exact r.a a' ab
        ·rw [keT hbL,keT hbK];split
         ·rename_i e; subst e; omega
         ·exact r.b b' ad
    ·rw [jbk] at I;refine A ?_ ?_
     ·rw [jeg]; intro z;obtain ⟨_,_,_,x1,x2,x3,_⟩:=okU_iff.1 z;rw [y] at x1 x2 x3;rw [E] at x2;have:wi 1 1000 u.2.2=true:=wi_iff.2 (by omega);rw [I] at this; cases this
     ·unfold kaA;simp only [c,if_true,g0,jab,hn,hm,kfa,D,F,I,jcg,jcz,jai,if_false]
   ·rw [jbk] at F;refine A ?_ ?_
    ·rw [jeg]; intro z;have:=wi_iff.2 (okU_iff.1 z).2.1;rw [y,F] at this; cases this
    ·unfold kaA;simp only [c,if_true,g0,jab,hn,hm,kfa,D,F,jcg,jcz,jai,if_false]
  ·rw [jbk] at D;refine A ?_ ?_
   ·rw [jeg]; intro z;have:=wi_iff.2 (okU_iff.1 z).1;rw [y,D] at this; cases this
   ·unfold kaA;simp only [c,if_true,g0,jab,hn,kfa,D,jcz]
end
theorem kxk {l:Ya It} (h:∀ k,k<l.length->0<=needN l k/\needN l k<=1000):Sm (l.map λx=>x.2.2):=λk=>by
 by_cases a:k<l.length
 ·rw [kjF a]; exact h k a
 ·unfold la;rw [jba,jch (by simp; omega)]; simp
theorem ktX (n k:Nat):la (List.replicate n 0) k=0:=by
 unfold la;rw [jba,jcd];split <;> rfl
variable {X Y us:Ya It} {sw:Ya Swap}
structure Ru (X Y:List It) (sw:List Swap) (t:Int) (W L:List Int) (u:Nat->Nat->Int):Prop where
 w:W.length=Y.length
 l:L.length=X.length
 w0:∀ a,0<=la W a
 v:Val Y.length X.length (needN X) (mayQ X Y sw) u (la L)
 r:∀ k,k<Y.length->row X.length u k=needN Y k-la W k
 t:t=sumN (row X.length u) Y.length
theorem kzA {i:Nat} {t:Int} {W L:Ya Int} {u:Nat->Nat->Int} (h:Ru X Y sw t W L u) (A:okU X Y sw us i W L=true) :
  ∃ u',Ru X Y sw (t+(at3 us i).2.2) (W.set (at3 us i).1.toNat (la W (at3 us i).1.toNat-(at3 us i).2.2)) (L.set (at3 us i).2.1.toNat (la L (at3 us i).2.1.toNat-(at3 us i).2.2)) u'/\
   (at3 us i).1.toNat<Y.length/\(at3 us i).1=((at3 us i).1.toNat:Int)/\∀ k,k<Y.length->row X.length u' k=row X.length u k+if k=(at3 us i).1.toNat then (at3 us i).2.2 else 0:=by
 obtain ⟨⟨I,E⟩,⟨H,F⟩,hm,n1,K,C,_⟩:=okU_iff.1 A;generalize G:(at3 us i).1.toNat=a at *
 generalize J:(at3 us i).2.1.toNat=b at *
 generalize D:(at3 us i).2.2=d at *
 have c:a<Y.length:=by omega
 have g:b<X.length:=by omega
 obtain ⟨y,r1,r2⟩:=h.v.take (l':=la (L.set b (la L b-d))) (u':=λk j=>if k=a/\j=b then u a b+d else u k j) c g hm (d:=d) (by omega) C
  (by rw [keT (by rw [h.l]; exact g),if_pos rfl]) (by rw [if_pos ⟨rfl,rfl⟩]) (λz p f=>by rw [keT (by rw [h.l]; exact g),if_neg f]) (λk o z p f=>by rw [if_neg f])
 have hr:∀ k,k<Y.length->row X.length (λk j=>if k=a/\j=b then u a b+d else u k j) k=row X.length u k+if k=a then d else 0:=λk o=>by
  by_cases e:k=a
  ·subst e; rw [if_pos rfl]; exact r1
  ·rw [if_neg e,r2 k o e]; omega
 refine ⟨_,⟨by simp [h.w],by simp [h.l],λk=>?_,y,λk o=>?_,?_⟩,c,by omega,hr⟩
 ·rw [keT (by rw [h.w]; exact c)];split
  ·omega
  ·exact h.w0 k
 ·rw [hr k o,h.r k o,keT (by rw [h.w]; exact c)];split
  ·rename_i e; subst e; omega
  ·omega
 ·rw [h.t];exact (kfj (i:=a) (d:=d) (by rw [hr a c,if_pos rfl]) c λj p f=>by rw [hr j p,if_neg f]; omega).symm
theorem kwX {l:Ya It} {i:Nat} (h:i<l.length):gi l (i:Int)=some (at3 l i):=by rw [kas h,kcg h]
theorem kvw {n m:Nat} {cap:Nat->Int} {may:Nat->Nat->Prop} {u:Nat->Nat->Int} {l:Nat->Int} (v:Val n m cap may u l) {k:Nat} (b:k<n):0<=row m u k:=keM λj a=>v.nn k b j a
theorem kzX:∀ (k i:Nat) (t T:Int) (W L G:Ya Int) (u:Nat->Nat->Int),i+k=us.length->us.length<=1000->run X Y sw us k i t W L=some T->Ru X Y sw t W L u->(∀ a,a<Y.length->needN Y a<=1000)->G.length=Y.length->(∀ a,a<Y.length->la G a=row X.length u a)->
  ∃ y L' c u',Ru X Y sw T y L' u'/\itN (khr us) (k+1) ((i:Int),G)=some c/\c.length=Y.length/\∀ a,a<Y.length->la c a=row X.length u' a:=by
 intro k;induction k with
 | zero=>
  intro i t T W L G u hi A h hR hN hG p;have e:t=T:=Option.some.inj h;subst e;refine ⟨W,L,G,u,hR,kgh ?_,hG,p⟩;unfold khr;rw [if_neg (by rw [jaj,kaf]; omega)]
 | succ k H=>
  intro i t T W L G u hi A h hR hN hG p;unfold run at h;by_cases o:okU X Y sw us i W L=true
  ·rw [if_pos o] at h;obtain ⟨u',hR',b,w,hr⟩:=kzA hR o;have g:i<us.length:=by omega
   have Q:=(okU_iff.1 o).2.2.2.1;have g1:gi G (at3 us i).1=some (la G (at3 us i).1.toNat):=by rw [w]; exact gi_D 0 (by rw [hG]; exact b)
   have Z:=hR'.w0 (at3 us i).1.toNat;have D:=hR'.r _ b;have E:=hr _ b;rw [if_pos rfl] at E;have J:=kvw hR'.v b;have C:=kvw hR.v b;have hNa:=hN _ b;have z:=p _ b;obtain ⟨y,L',c,I,F,K,O,P⟩:=H (i+1) _ T _ _ (G.set (at3 us i).1.toNat (la G (at3 us i).1.toNat+(at3 us i).2.2)) u' (by omega) A h hR' hN (by simp [hG]) (λa f=>by
    rw [keT (by rw [hG]; exact b),hr a f];split
    ·rename_i e; rw [e,z]
    ·rw [p a f]; omega)
   refine ⟨y,L',c,I,F,?_,O,P⟩;rw [<-K];refine kmm ?_;unfold khr;simp only [lenI_lt.2 g,if_true,kwX g,jab,g1,kax (show i<9223372036854775807 by omega)];rw [kbo (by omega) (by omega)];rfl
  ·rw [if_neg o] at h; cases h
theorem kuQ {n m:Nat} {u:Nat->Nat->Int} (a:∀ j,j<m->u n j=0):row m u n=0:=by
 unfold row;rw [kap (g:=λ_=>0) a,keL]
theorem kAx (hX:∀ k,k<X.length->0<=needN X k) (hY:∀ k,k<Y.length->0<=needN Y k):Ru X Y sw 0 (Y.map λx=>x.2.2) (X.map λx=>x.2.2) (λ_ _=>0):=by
 have z:∀ k,row X.length (λ_ _=>0) k=0:=λk=>kuQ (λ_ _=>rfl);refine ⟨by simp,by simp,λa=>?_,⟨λ_ _ _ _=>jcq 0,λ_ _ _ _ h=>absurd h (by omega),λj b=>by rw [kjF b]; exact hX j b,λj b=>by rw [kjF b,keL]; omega⟩,λk c=>by rw [z,kjF c]; omega,?_⟩
 ·by_cases h:a<Y.length
  ·rw [kjF h]; exact hY a h
  ·unfold la;rw [jba,jch (by simp; omega)];exact jcq 0
 ·rw [kap (g:=λ_=>0) λk _=>z k,keL]
def runT (X Y:Ya It) (sw:Ya Swap) (us:Ya It):Yb Int:=run X Y sw us us.length 0 0 (Y.map λx=>x.2.2) (X.map λx=>x.2.2)
theorem kzB {T:Int} (w:us.length<=1000) (hX:∀ k,k<X.length->0<=needN X k) (hY:∀ k,k<Y.length->0<=needN Y k/\needN Y k<=1000) (hY2:Y.length<=1000) (h:runT X Y sw us=some T) :
  ∃ u l G,Val Y.length X.length (needN X) (mayQ X Y sw) u l/\(∀ k,k<Y.length->row X.length u k<=needN Y k)/\T=sumN (row X.length u) Y.length/\kjX Y us=some G/\G.length=Y.length/\∀ a,a<Y.length->la G a=row X.length u a:=by
 obtain ⟨z,L',g,u',b,o,p,y⟩:=kzX us.length 0 0 T _ _ (List.replicate Y.length 0) _ (by omega) w h (kAx (sw:=sw) hX λk e=>(hY k e).1) (λa f=>(hY a f).2) (by simp) (λa f=>by rw [ktX,kuQ (λ_ _=>rfl)]);refine ⟨u',la L',g,b.v,λk e=>by have:=b.w0 k; have:=b.r k e; omega,b.t,?_,p,y⟩;have c:gmk (lenI Y) (0:Int)=some (List.replicate Y.length 0):=by
  unfold gmk;rw [kaf,if_pos (by omega),jay]
 have:=kkq o (by omega);rw [Int.natCast_zero] at this;unfold kjX;rw [c];simp only [jab,this]
theorem Fld.lack {t:Int} {s:Ya Bool} (h:Fld X Y sw t s) {T:Nat->Bool} (hT:Nb Y.length X.length (mayQ X Y sw) (sa s) T):Fl.lack Y.length X.length (needN X) (needN Y) (sa s) T=sumN (needN Y) Y.length-t:=by
 obtain ⟨U,L,v,le,b,st,hS⟩:=h.ex;rw [b];exact kvV v le (kwI hS st) hT λk a hl=>(hS k a).2 (.base a hl)
section
variable {n m:Nat} {cap:Nat->Int} {may:Nat->Nat->Prop} {N:Nat->Int} {U0:Ya (Ya Int)} {L0:Ya Int}
theorem Dn.make {M:Ya (Ya Int)} {Z:Ya (Int×Int×Int)} (hM:MayL n m may M) (hn:n<=1000) (hm:m<=1000) (hc:∀ j,j<m->cap j<=1000) (hN:∀ k,k<n->0<=N k/\N k<=1000) (sh:Shp n m U0 L0) (v:Val n m cap may (ua U0) (la L0)):∀ (r:Ya Nat),(∀ k∈r,k<n)->∃ U L f,Dn n m cap may N U0 L0 r.reverse U L f:=by
 intro r;induction r with
 | nil=>intro _; exact ⟨_,_,_,.nil⟩
 | cons i r c=>
  intro hr;obtain ⟨U,L,f,hD⟩:=c λk o=>hr k (jax _ o);have hi:=hr i (jcs ..);obtain ⟨a,b⟩:=hD.ok sh v;obtain ⟨g,U',L',_,e⟩:=kte (M:=M) (N:=Z) hM hn hm hc hi (hN i hi).1 (hN i hi).2 a b;rw [List.reverse_cons];exact ⟨_,_,_,.snoc _ _ _ _ _ _ _ _ hD hi e⟩
structure Drw (n m:Nat) (cap:Nat->Int) (may:Nat->Nat->Prop) (N:Nat->Int) (ds:List Nat) (U:List (List Int)) (L:List Int) (f:Nat->Int):Prop where
 v:Val n m cap may (ua U) (la L)
 r:∀ k,k<n->row m (ua U) k=f k
 z:∀ k,k∉ds->f k=0
 le:∀ k,k∈ds->0<=f k/\f k<=N k
 st:∀ k,k∈ds->f k<N k->∃ S,S k=true/\Fl.Sat n m may (ua U) (la L) S
theorem Dn.drw (sh:Shp n m U0 L0) (v:Val n m cap may (ua U0) (la L0)) (D:∀ k,k<n->row m (ua U0) k=0) {t:Ya Nat} {U:Ya (Ya Int)} {L:Ya Int} {f:Nat->Int} (h:Dn n m cap may N U0 L0 t U L f):t.Nodup->Drw n m cap may N t U L f:=by
 induction h with
 | nil=>intro _; exact ⟨v,D,λ_ _=>rfl,λk a=>(by simp at a),λk a=>(by simp at a)⟩
 | snoc t U L f i g U' L' hD hi b E=>
  intro o;rw [jea] at o;have p:i∉t:=λhc=>o.2.2 i hc i (jdj.2 rfl) rfl;obtain ⟨C,r',y,le',z⟩:=E o.1;have ri:row m (ua U') i=g:=by rw [b.ri,r' i hi,y i p]; omega
  refine ⟨b.v,λk a=>?_,λk a=>?_,λk a=>?_,λk a c=>?_⟩
  ·by_cases e:k=i
   ·subst e; simp only [if_pos]; exact ri
   ·simp only [if_neg e]; rw [b.ro k a e]; exact r' k a
  ·rw [jaw,jdj,not_or] at a;simp only [if_neg a.2]; exact y k a.1
  ·by_cases e:k=i
   ·subst e; simp only [if_pos]; exact ⟨b.g0,b.g1⟩
   ·simp only [if_neg e];rw [jaw,jdj] at a;exact le' k (a.resolve_right e)
  ·by_cases e:k=i
   ·subst e; simp only [if_pos] at c; exact b.st c
   ·simp only [if_neg e] at c;rw [jaw,jdj] at a;obtain ⟨S,s1,s2⟩:=z k (a.resolve_right e) c;refine ⟨S,s1,(kqH C b.v s2 λA w _=>?_).1⟩;by_cases e':A=i
    ·subst e'; rw [ri,r' _ w,y _ p]; exact b.g0
    ·rw [b.ro A w e']; exact jcq _
theorem kAt {u:Nat->Nat->Int} {l:Nat->Int} (v:Val n m cap may u l) (a:Nat->Prop) [DecidablePred a]:Val n m cap may (λk j=>if a k then u k j else 0) (λj=>cap j-sumN (λk=>if a k then u k j else 0) n):=by
 refine ⟨λk c j b=>?_,λk c j b h=>?_,λj b=>?_,λj b=>?_⟩
 ·show 0<=(if a k then u k j else 0);split
  ·exact v.nn k c j b
  ·exact jcq 0
 ·have h:0<(if a k then u k j else 0):=h;split at h
  ·exact v.ok k c j b h
  ·omega
 ·have e:=v.bal j b;have h2:=v.ln j b;have:sumN (λk=>if a k then u k j else 0) n<=sumN (λk=>u k j) n:=kpf λk c=>by
   have:=v.nn k c j b;show (if a k then u k j else 0)<=u k j;split <;> omega
  show 0<=cap j-sumN (λk=>if a k then u k j else 0) n;omega
 ·show cap j-sumN (λk=>if a k then u k j else 0) n+sumN (λk=>if a k then u k j else 0) n=cap j;omega
theorem kxf {u:Nat->Nat->Int} (a:Nat->Prop) [DecidablePred a] (k:Nat):row m (λk j=>if a k then u k j else 0) k=if a k then row m u k else 0:=by
 by_cases h:a k
 ·simp only [row,if_pos h]
 ·simp only [row,if_neg h]; rw [keL]
theorem kpY {f:Nat->Int}:∀ {a:Ya Nat},a.Nodup->(∀ k∈a,k<n)->sumL f a=sumN (λk=>if k∈a then f k else 0) n
 | [],_,_=>by
  rw [keq,kap (g:=λ_=>0) λk _=>by simp,keL]
 | i::a,hn,h=>by
  rw [jde] at hn;rw [kbb,kpY hn.2 λk c=>h k (jax _ c)];have:=kfj (f:=λk=>if k∈a then f k else 0) (g:=λk=>if k∈i::a then f k else 0) (i:=i) (d:=f i) (by simp [hn.1]) (h i (jcs ..)) (λj _ b=>by simp [b]);rw [this]; omega
theorem Drw.most {a:Ya Nat} {U:Ya (Ya Int)} {L:Ya Int} {f:Nat->Int} (h:Drw n m cap may N a U L f) (o:a.Nodup) (g:∀ k∈a,k<n) {u:Nat->Nat->Int} {l:Nat->Int} (v:Val n m cap may u l) (hN:∀ k,k<n->row m u k<=N k):sumL (row m u) a<=sumL f a:=by
 rw [kpY o g,kpY o g];have p:=best (N:=λk=>if k∈a then N k else 0) h.v (λk e=>by
  rw [h.r k e];by_cases c:k∈a
  ·rw [if_pos c]; exact (h.le k c).2
  ·rw [if_neg c,h.z k c]; exact jcq 0) (λk e b=>by
  rw [h.r k e] at b;by_cases c:k∈a
  ·rw [if_pos c] at b; exact h.st k c b
  ·rw [if_neg c,h.z k c] at b; omega) (kAt v λk=>k∈a) (λk e=>by
  rw [kxf];split
  ·exact hN k e
  ·exact jcq 0)
 have w:sumN (row m (ua U)) n=sumN (λk=>if k∈a then f k else 0) n:=kap λk e=>by
  rw [h.r k e];by_cases c:k∈a
  ·rw [if_pos c]
  ·rw [if_neg c,h.z k c]
 have t:sumN (row m λk j=>if k∈a then u k j else 0) n=sumN (λk=>if k∈a then row m u k else 0) n:=kap λk e=>kxf (u:=u) (λk=>k∈a) k;rw [w,t] at p;exact p
end
theorem abel {d w:Nat->Int}:∀ (ks:Ya Nat) (f W:Int),0<=f->(∀ k∈ks,0<=w k/\w k<=W)->ks.Pairwise (λa b=>w b<=w a)->(∀ a b,ks=a++b->0<=f+sumL d a)->0<=W*f+sumL (λk=>w k*d k) ks\/(ks=[]/\W<0)
 | [],f,W,h0,_,_,_=>by
  rw [keq];by_cases h:0<=W
  ·left; have:=Int.mul_nonneg h h0; omega
  ·exact .inr ⟨rfl,by omega⟩
 | k::ks,f,W,h0,hw,hp,hs=>by
  left;rw [List.pairwise_cons] at hp;have t:=hw k (jcs ..);have p:=hs [k] ks rfl;rw [kbb,keq] at p;have g:=abel (d:=d) (w:=w) ks (f+d k) (w k) (by omega) (λb o=>⟨(hw b (jax _ o)).1,hp.1 b o⟩) hp.2 λa b e=>by
   have:=hs (k::a) b (by rw [e]; rfl);rw [kbb] at this;omega
  have g:=g.resolve_right λc=>by omega
  rw [kbb];rw [Int.mul_add] at g;have:=Int.mul_le_mul_of_nonneg_right t.2 h0;show 0<=W*f+(w k*d k+sumL (λk=>w k*d k) ks);omega
theorem abel0 {d w:Nat->Int} {ks:Ya Nat} (g:∀ k∈ks,0<=w k) (hp:ks.Pairwise (λa b=>w b<=w a)) (hs:∀ a b,ks=a++b->0<=sumL d a):0<=sumL (λk=>w k*d k) ks:=by
 cases ks with
 | nil=>rw [keq]; exact jcq 0
 | cons k ks=>
  have o:=g k (jcs ..);have:=abel (d:=d) (w:=w) (k::ks) 0 (w k) (jcq 0) (λb f=>⟨g b f,by
   rw [jbq] at f;rcases f with rfl | f
   ·exact jcq _
   ·exact (List.pairwise_cons.1 hp).1 b f⟩) hp λa b e=>by rw [Int.zero_add]; exact hs a b e
  have:=this.resolve_right λc=>by simp at c
  rw [Int.mul_zero,Int.zero_add] at this;exact this
theorem row_zero' {n m:Nat} {U:Ya (Ya Int)} (b:∀ k,k<n->∀ j,j<m->ua U k j=0) {k:Nat} (c:k<n):row m (ua U) k=0:=by
 unfold row;rw [kap (g:=λ_=>0) λj a=>b k c j a,keL]
def byP (Y R:Ya It) (sw:Ya Swap) (f:Nat->Int) (i:Nat):Int:=sumL (λk=>if oK Y R sw k=some i then lks Y f k else 0) (List.range Y.length)
structure Bld (X Y R:List It) (sw:List Swap) (ks:List Nat) (f:Nat->Int):Prop where
 p:ks.Perm (List.range Y.length)
 w:ks.Pairwise (sigR Y R sw)
 d:∀ a b,ks=a++b->∃ U L f',Drw Y.length X.length (needN X) (mayQ X Y sw) (needN Y) a U L f'/\∀ k∈a,f k=f' k
theorem Bld.mem {X Y R:Ya It} {sw:Ya Swap} {ks:Ya Nat} {f:Nat->Int} (h:Bld X Y R sw ks f) (k:Nat):k∈ks↔k<Y.length:=by rw [h.p.mem_iff,jdl]
theorem Bld.nd {X Y R:Ya It} {sw:Ya Swap} {ks:Ya Nat} {f:Nat->Int} (h:Bld X Y R sw ks f):ks.Nodup:=h.p.nodup_iff.2 List.nodup_range
theorem Bld.bd {X Y R:Ya It} {sw:Ya Swap} {ks:Ya Nat} {f:Nat->Int} (h:Bld X Y R sw ks f) {k:Nat} (a:k<Y.length):0<=f k/\f k<=needN Y k:=by
 obtain ⟨U,L,c,b,e⟩:=h.d ks [] (by simp);rw [e k ((h.mem k).2 a)];exact b.le k ((h.mem k).2 a)
theorem kBm {X Y R:Ya It} {sw:Ya Swap} (hX:X.length<=1000) (hY:Y.length<=1000) (hs:sw.length<=1000) (hR:R.length<=1000) (h:askE X Y sw=0) :
  (prOk R=false/\kgt X Y sw R=some (([],[],0),2))\/(Prs R/\∃ ks f,Bld X Y R sw ks f/\
   ((kgt X Y sw R=some (([],[],0),80)/\∃ k,k<Y.length/\oK Y R sw k=none/\f k<needN Y k)\/
    ((∀ k,k<Y.length->oK Y R sw k=none->f k=needN Y k)/\(kgt X Y sw R=some (([],[],0),4)\/
     ∃ F,Tell Y.length F f/\(∀ i,i<R.length->byP Y R sw f i<=1000)/\kgt X Y sw R=some ((F,buyL R (byP Y R sw f) R.length,sumL (λk=>lks Y f k*bq R (oK Y R sw k)) ks),0))))):=by
 unfold kgt;rw [g0_eq hX hY hs];obtain ⟨x1,x2⟩:=stk_N (ask0 h).1;obtain ⟨y1,y2⟩:=stk_N (ask0 h).2;obtain ⟨M,U,p1,p2,p3,Q⟩:=g1_ok hX hY hs h;rw [if_neg (by simp [h]),p1];simp only [Option.bind_none,elsO,jab,h];rw [if_neg (by simp),ktA R hR,kxU,kse R hR];simp only [jab];by_cases hp:prOk R=true
 rotate_left
 ·left;refine ⟨by simpa using hp,?_⟩;by_cases E:(!(!(R.zipIdx.any λx=>badI R x.2 x.1)&&decide (R.length<=60)))=true
  ·rw [if_pos E]
  ·rw [if_neg E,if_pos];rw [kmb];unfold prOk at hp;simp only [jbd,Bool.and_eq_false_iff,not_or,Bool.not_eq_false] at E;rw [E.1,E.2] at hp;simpa using hp
 right;have P:=kyb hp;refine ⟨P,?_⟩;have t:=hp;unfold prOk at t;simp only [jac] at t;rw [if_neg (by rw [t.1.2,t.1.1]; simp),if_neg (by rw [kmb,t.2]; simp)];have ac:gmk (lenI Y) (0:Int)=some (List.replicate Y.length 0):=by
  unfold gmk;rw [kaf,if_pos (by omega),jay]
 have hc:∀ j,j<X.length->needN X j<=1000:=λj C=>(x2 j C).2;have ae:∀ j,j<X.length->0<=needN X j:=λj C=>by have:=(x2 j C).1; omega
 have hN:∀ k,k<Y.length->0<=needN Y k/\needN Y k<=1000:=λk o=>by have:=y2 k o; omega
 have shp:Shp Y.length X.length U (X.map λx=>x.2.2):=⟨p3,λk o=>by rw [Q k o]; simp,by simp⟩;have K:=(At.zero (cap:=needN X) (may:=mayQ X Y sw) shp (λk o j C=>kyr Q o C) (λj C=>kjF C) ae (needN Y) rfl).v;have h0:∀ k,k<Y.length->row X.length (ua U) k=0:=λk o=>row_zero' (λk o j C=>kyr Q o C) o;obtain ⟨Mp,m1,m2⟩:=kAF P;obtain ⟨ks,k1,k2,k3⟩:=kAy (Y:=Y) P hs hY;have p:∀ k,k∈ks↔k<Y.length:=λk=>by rw [k2.mem_iff,jdl]
 have A:ks.Nodup:=k2.nodup_iff.2 List.nodup_range;have af:ks.length=Y.length:=by rw [k2.length_eq]; simp
 obtain ⟨V,W,f,H⟩:=Dn.make (N:=needN Y) (Z:=Y) p2 hY hX hc hN shp K ks.reverse (λk o=>(p k).1 (List.mem_reverse.1 o));rw [List.reverse_reverse] at H;obtain ⟨z,z1,z2⟩:=kyX P hs hY hX hc hN p2 shp K H (λ_ _=>rfl) (λk o=>(p k).1 o) A (by omega);have hB:Bld X Y R sw ks f:=⟨k2,k3,λa b e=>by
  obtain ⟨U',L',f',d1,d2⟩:=H.pre e;rw [e] at A;rw [jea] at A;exact ⟨U',L',f',d1.drw shp K h0 A.1,λk o=>d2 k λhb=>A.2.2 k o k hb rfl⟩⟩
 refine ⟨ks,f,hB,?_⟩;rw [m1];simp only [jab];rw [kzW P hs hY m2];simp only [jab];rw [show (λu0:Line×Line=>(kdl u0.1 u0.2).bind λu1=>some u1)=cmpB from rfl,k1];simp only [jab,ac,z1];rcases z2 with ⟨rfl,k,I,aa,J⟩ | ⟨U2,L2,c,F2,B2,rfl,G⟩
 ·exact .inl ⟨rfl,k,(p k).1 I,aa,J⟩
 ·have w:∀ k,k<Y.length->oK Y R sw k=none->f k=needN Y k:=λk o e=>G.n k ((p k).2 o) e;refine .inr ⟨w,?_⟩;have hS:∀ i,i<R.length->(mget B2 (kc (at3 R i))).getD 0=byP Y R sw f i:=λi hi=>by
   unfold byP;rw [G.b,<-kom k2];refine kmT λk o=>?_;cases e:oK Y R sw k with
   | none=>
    have:lks Y f k=0:=by unfold lks; rw [w k ((p k).1 o) e]; omega
    rw [this]; simp
   | some j=>
    have C:=oK_lt P hs e;have:(pq R (some j)=kc (at3 R i))↔some j=some i:=⟨λD=>by rw [P.inj C hi D],λD=>by cases D; rfl⟩;by_cases c:some j=some i
    ·rw [if_pos c,if_pos (this.2 c)]
    ·rw [if_neg c,if_neg (λD=>c (this.1 D))]
  obtain ⟨y,ad,O⟩:=kxJ P (c:=c) (F:=F2) hS;simp only [ad,jab];rcases O with ⟨rfl,hm⟩ | ⟨rfl,ab⟩
  ·exact .inl rfl
  ·obtain ⟨f',q1,q2,q3⟩:=G.g;refine .inr ⟨F2,⟨q3.1,λk o=>by rw [q3.2 k o,q2 k ((p k).2 o)]⟩,ab,?_⟩;rw [<-G.c]
end Go.Abs
