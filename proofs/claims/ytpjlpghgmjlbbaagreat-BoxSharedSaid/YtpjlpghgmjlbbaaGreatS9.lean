/- The functions and the law, part 9. -/
import Derived.Test.YtpjlpghgmjlbbaaGreatZ6
import Derived.Test.YtpjlpghgmjlbbaaGreatZ7
import Derived.Test.YtpjlpghgmjlbbaaGreatS8
set_option linter.constructorNameAsVariable false
set_option linter.unusedVariables false
set_option linter.unusedSimpArgs false
set_option linter.unusedSectionVars false
namespace Go.Abs
open Go
theorem kyJ {x y:It} (hx:0<=x.2.1/\x.2.1<=15) (hy:0<=y.2.1/\y.2.1<=15):(ordI (x.1,x.2.1) (y.1,y.2.1)<0↔key x<key y)/\(ordI (x.1,x.2.1) (y.1,y.2.1)=0↔key x=key y):=by
 unfold ordI key
 simp only
 constructor <;> (repeat' split) <;> omega
theorem kvt (b:List It):kcM [] b=some 1:=by unfold kcM; rw [if_pos (by rfl)]
theorem ktt (x:It) (a:List It):kcM (x::a) []=some (-1):=by
 unfold kcM
 rw [if_neg (by rw [kah]; simp; omega),if_pos (by rfl)]
theorem kkw (x y:It) (a b:List It):kcM (x::a) (y::b)=some (ordI (x.1,x.2.1) (y.1,y.2.1)):=by
 unfold kcM
 rw [if_neg (by rw [kah]; simp; omega),if_neg (by rw [kah]; simp; omega),kiF,kiF]
 simp only [jag,kbm,knB]
structure Mrg (h:Int->Int->Int) (a b r:List It):Prop where
 s:srt r
 v:Vld r
 n:∀ x∈r,x.2.2≠0
 lo:∀ p,(∀ x∈a,p<key x)->(∀ x∈b,p<key x)->∀ x∈r,p<key x
 l:∀ q,look r q=h (look a q) (look b q)
 len:r.length<=a.length+b.length
theorem Mrg.cons {h:Int->Int->Int} {a b a2 b2 r:List It} (hm:Mrg h a2 b2 r) {k c:Int} (hv:0<=k/\k<=15/\0<=c/\c<=15) (ha2:∀ x∈a2,16*k+c<key x) (hb2:∀ x∈b2,16*k+c<key x) (h0:h 0 0=0)
  (hla:∀ q,q≠16*k+c->look a q=look a2 q) (hlb:∀ q,q≠16*k+c->look b q=look b2 q) (hlen:a2.length+b2.length<a.length+b.length) (hlo:∀ p,(∀ x∈a,p<key x)->(∀ x∈b,p<key x)->p<16*k+c/\(∀ x∈a2,p<key x)/\∀ x∈b2,p<key x) :
  Mrg h a b (if h (look a (16*k+c)) (look b (16*k+c))≠0 then (k,c,h (look a (16*k+c)) (look b (16*k+c)))::r else r):=by
 have hr:=hm.lo _ ha2 hb2
 generalize hn:h (look a (16*k+c)) (look b (16*k+c))=n
 have hkey:key (k,c,n)=16*k+c:=rfl
 by_cases hz:n≠0
 ·rw [if_pos hz]
  refine ⟨jdq.2 ⟨fun y hy=>by rw [hkey]; exact hr y hy,hm.s⟩,fun x hx=>?_,fun x hx=>?_,fun p h1 h2 x hx=>?_,fun q=>?_,by have:=hm.len; simp only [jau]; omega⟩
  ·rcases jaw.1 hx with rfl | hx
   ·exact hv
   ·exact hm.v x hx
  ·rcases jaw.1 hx with rfl | hx
   ·exact hz
   ·exact hm.n x hx
  ·obtain ⟨g1,g2,g3⟩:=hlo p h1 h2
   rcases jaw.1 hx with rfl | hx
   ·rw [hkey]; exact g1
   ·exact hm.lo p g2 g3 x hx
  ·simp only [look]
   rw [hkey]
   by_cases hq:16*k+c=q
   ·rw [if_pos hq,<-hq,hn]
   ·rw [if_neg hq,hm.l q,hla q (fun e=>hq e.symm),hlb q (fun e=>hq e.symm)]
 ·rw [if_neg hz]
  have hz:n=0:=by omega
  subst hz
  refine ⟨hm.s,hm.v,hm.n,fun p h1 h2 x hx=>?_,fun q=>?_,by have:=hm.len; omega⟩
  ·obtain ⟨g1,g2,g3⟩:=hlo p h1 h2
   exact hm.lo p g2 g3 x hx
  ·by_cases hq:q=16*k+c
   ·subst hq
    rw [hn]
    exact kdI fun x hx=>by have:=hr x hx; omega
   ·rw [hm.l q,hla q hq,hlb q hq]
theorem ken {x:It} {l:List It} {q:Int} (h:key x≠q):look (x::l) q=look l q:=by simp only [look]; rw [if_neg h]
theorem keg {x:It} {l:List It}:look (x::l) (key x)=x.2.2:=by simp [look]
theorem ksx (how:Int×Int->Option Int) (h:Int->Int->Int) (hh:∀ n m,how (n,m)=some (h n m)) (h0:h 0 0=0):∀ (n:Nat) (a b out:List It),a.length+b.length<=n->srt a->srt b->Vld a->Vld b->out.length+n<=1000->
  ∃ r,itN (kbz how) (n+1) (a,b,out)=some (out++r)/\Mrg h a b r:=by
 intro n
 induction n with
 | zero=>
  intro a b out hn sa sb va vb ho
  have ea:a=[]:=jbj (by omega)
  have eb:b=[]:=jbj (by omega)
  subst ea; subst eb
  refine ⟨[],?_,⟨List.Pairwise.nil,fun x hx=>(by cases hx),fun x hx=>(by cases hx),fun p _ _ x hx=>(by cases hx),fun q=>by simp [look,h0],by simp⟩⟩
  rw [jbd]
  exact kdN rfl
 | succ n ih=>
  intro a b out hn sa sb va vb ho
  have fin:∀ (a2 b2:List It) (k c:Int) (N:Int) (o:List It),kbz how (a,b,out)=some (.inl (a2,b2,if N≠0 then out++[(k,c,N)] else out))->N=h (look a (16*k+c)) (look b (16*k+c))->(0<=k/\k<=15/\0<=c/\c<=15)->
    (∀ x∈a2,16*k+c<key x)->(∀ x∈b2,16*k+c<key x)->(∀ q,q≠16*k+c->look a q=look a2 q)->(∀ q,q≠16*k+c->look b q=look b2 q)->a2.length+b2.length<a.length+b.length->srt a2->srt b2->Vld a2->Vld b2->
    (∀ p,(∀ x∈a,p<key x)->(∀ x∈b,p<key x)->p<16*k+c/\(∀ x∈a2,p<key x)/\∀ x∈b2,p<key x)->∃ r,itN (kbz how) (n+1+1) (a,b,out)=some (out++r)/\Mrg h a b r:=by
   intro a2 b2 k c N o hgo hN hv ha2 hb2 hla hlb hlen s2 t2 v2 w2 hlo
   obtain ⟨r,g1,g2⟩:=ih a2 b2 (if N≠0 then out++[(k,c,N)] else out) (by omega) s2 t2 v2 w2 (by split <;> (try simp only [jbe,jcx]) <;> omega)
   refine ⟨_,?_,g2.cons hv ha2 hb2 h0 hla hlb hlen hlo⟩
   rw [kil hgo,g1,<-hN]
   by_cases hz:N≠0
   ·rw [if_pos hz,if_pos hz,jar]; rfl
   ·rw [if_neg hz,if_neg hz]
  cases a with
  | nil=>
   cases b with
   | nil=>
    refine ⟨[],?_,⟨List.Pairwise.nil,fun x hx=>(by cases hx),fun x hx=>(by cases hx),fun p _ _ x hx=>(by cases hx),fun q=>by simp [look,h0],by simp⟩⟩
    rw [jbd]
    exact kdN rfl
   | cons y b=>
    have sb':=sb
    simp only [srt,jdq] at sb'
    have vy:=vb y (by simp)
    refine fin [] b y.1 y.2.1 (h 0 y.2.2) out ?_ ?_ vy (fun x hx=>by cases hx) (fun x hx=>sb'.1 x hx) (fun q _=>rfl) (fun q hq=>ken (fun e=>hq e.symm)) (by simp) List.Pairwise.nil sb'.2 va (fun x hx=>vb x (by simp [hx])) (fun p _ h2=>⟨h2 y (by simp),fun x hx=>(by cases hx),fun x hx=>h2 x (by simp [hx])⟩)
    ·unfold kbz
     simp only [kvt,kiF,kko,jag,hh]
     rw [if_neg (by simp [kah]),show decide (0<lenI (y::b))=true by (simp [kah] <;> omega)]
     simp only [jag,if_true]
     rw [if_neg (by decide)]
     simp only [jag]
     by_cases hz:h 0 y.2.2=0
     ·simp [hz]
     ·rw [keE (by simp only [jcx]; omega)]; simp [hz]
    ·show _=h (look [] (key y)) (look (y::b) (key y))
     rw [keg]; rfl
  | cons x a=>
   have sa':=sa
   simp only [srt,jdq] at sa'
   have vx:=va x (by simp)
   cases b with
   | nil=>
    refine fin a [] x.1 x.2.1 (h x.2.2 0) out ?_ ?_ vx (fun z hz=>sa'.1 z hz) (fun z hz=>by cases hz) (fun q hq=>ken (fun e=>hq e.symm)) (fun q _=>rfl) (by simp) sa'.2 List.Pairwise.nil (fun z hz=>va z (by simp [hz])) vb (fun p h1 _=>⟨h1 x (by simp),fun z hz=>h1 z (by simp [hz]),fun z hz=>(by cases hz)⟩)
    ·unfold kbz
     simp only [ktt,kiF,kko,jag,hh]
     rw [if_pos (by simp [kah] <;> omega)]
     simp only [jag,if_true]
     rw [if_pos (by decide),if_neg (by decide)]
     simp only [jag]
     by_cases hz:h x.2.2 0=0
     ·simp [hz]
     ·rw [keE (by simp only [jcx]; omega)]; simp [hz]
    ·show _=h (look (x::a) (key x)) (look [] (key x))
     rw [keg]; rfl
   | cons y b=>
    have sb':=sb
    simp only [srt,jdq] at sb'
    have vy:=vb y (by simp)
    obtain ⟨o1,o2⟩:=kyJ (x:=x) (y:=y) ⟨vx.2.2.1,vx.2.2.2⟩ ⟨vy.2.2.1,vy.2.2.2⟩
    rcases Int.lt_trichotomy (key x) (key y) with hxy | hxy | hxy
    ·have e1:=o1.2 hxy
     refine fin a (y::b) x.1 x.2.1 (h x.2.2 0) out ?_ ?_ vx (fun z hz=>sa'.1 z hz) (fun z hz=>?_) (fun q hq=>ken (fun e=>hq e.symm)) (fun q _=>rfl) (by simp) sa'.2 sb (fun z hz=>va z (by simp [hz])) vb (fun p h1 h2=>⟨h1 x (by simp),fun z hz=>h1 z (by simp [hz]),h2⟩)
     ·unfold kbz
      simp only [kkw,kiF,kko,jag,hh]
      rw [if_pos (by simp [kah] <;> omega)]
      simp only [jag,if_true]
      rw [if_pos (by simpa using Int.le_of_lt e1),if_neg (by simp; omega)]
      simp only [jag]
      by_cases hz:h x.2.2 0=0
      ·simp [hz]
      ·rw [keE (by simp only [jcx]; omega)]; simp [hz]
     ·show _=h (look (x::a) (key x)) (look (y::b) (key x))
      rw [keg,kdI (l:=y::b) (fun z hz=>by
       rcases jaw.1 hz with rfl | hz
       ·omega
       ·have:=sb'.1 z hz; omega)]
     ·show key x<key z
      rcases jaw.1 hz with rfl | hz
      ·exact hxy
      ·exact Int.lt_trans hxy (sb'.1 z hz)
    ·have e1:=o2.2 hxy
     refine fin a b x.1 x.2.1 (h x.2.2 y.2.2) out ?_ ?_ vx (fun z hz=>sa'.1 z hz) (fun z hz=>?_) (fun q hq=>ken (fun e=>hq e.symm)) (fun q hq=>ken (fun e=>hq (by rw [<-e,<-hxy]; rfl))) (by simp; omega) sa'.2 sb'.2 (fun z hz=>va z (by simp [hz])) (fun z hz=>vb z (by simp [hz])) (fun p h1 h2=>⟨h1 x (by simp),fun z hz=>h1 z (by simp [hz]),fun z hz=>h2 z (by simp [hz])⟩)
     ·unfold kbz
      simp only [kkw,kiF,kko,jag,hh,e1]
      rw [if_pos (by simp [kah] <;> omega)]
      simp only [jag,if_true]
      rw [if_pos (by decide),if_pos (by decide)]
      simp only [jag]
      by_cases hz:h x.2.2 y.2.2=0
      ·simp [hz]
      ·rw [keE (by simp only [jcx]; omega)]; simp [hz]
     ·show _=h (look (x::a) (key x)) (look (y::b) (key x))
      rw [keg,hxy,keg]
     ·show key x<key z
      have:=sb'.1 z hz; omega
    ·have e1:0<ordI (x.1,x.2.1) (y.1,y.2.1):=by
      have n1:¬ ordI (x.1,x.2.1) (y.1,y.2.1)<0:=fun e=>by have:=o1.1 e; omega
      have n2:¬ ordI (x.1,x.2.1) (y.1,y.2.1)=0:=fun e=>by have:=o2.1 e; omega
      omega
     refine fin (x::a) b y.1 y.2.1 (h 0 y.2.2) out ?_ ?_ vy (fun z hz=>?_) (fun z hz=>sb'.1 z hz) (fun q _=>rfl) (fun q hq=>ken (fun e=>hq e.symm)) (by simp) sa sb'.2 va (fun z hz=>vb z (by simp [hz])) (fun p h1 h2=>⟨h2 y (by simp),h1,fun z hz=>h2 z (by simp [hz])⟩)
     ·unfold kbz
      simp only [kkw,kiF,kko,jag,hh]
      rw [if_pos (by simp [kah] <;> omega)]
      simp only [jag,if_true]
      rw [if_neg (by simp; omega)]
      simp only [jag]
      by_cases hz:h 0 y.2.2=0
      ·simp [hz]
      ·rw [keE (by simp only [jcx]; omega)]; simp [hz]
     ·show _=h (look (x::a) (key y)) (look (y::b) (key y))
      rw [keg,kdI (l:=x::a) (fun z hz=>by
       rcases jaw.1 hz with rfl | hz
       ·omega
       ·have:=sa'.1 z hz; omega)]
     ·show key y<key z
      rcases jaw.1 hz with rfl | hz
      ·exact hxy
      ·exact Int.lt_trans hxy (sa'.1 z hz)
end Go.Abs
namespace Go.Abs.Fl
open Go Go.Abs
def sumN (f:Nat->Int):Nat->Int
 | 0=>0
 | n+1=>sumN f n+f n
theorem kjT {f g:Nat->Int}:∀ {n:Nat},(∀ i,i<n->f i=g i)->sumN f n=sumN g n
 | 0,_=>rfl
 | n+1,h=>by simp only [sumN]; rw [kjT fun i hi=>h i (by omega),h n (by omega)]
theorem krV {f:Nat->Int}:∀ {n:Nat},(∀ i,i<n->0<=f i)->0<=sumN f n
 | 0,_=>jee 0
 | n+1,h=>by
  have:=krV (f:=f) (n:=n) fun i hi=>h i (by omega)
  have:=h n (by omega)
  simp only [sumN]; omega
theorem kzV {f:Nat->Int}:∀ {n:Nat},(∀ i,i<n->0<=f i)->sumN f n<=0->∀ i,i<n->f i=0
 | 0,_,_,i,hi=>by omega
 | n+1,h,e,i,hi=>by
  have h1:=krV (f:=f) (n:=n) fun i hi=>h i (by omega)
  have h2:=h n (by omega)
  simp only [sumN] at e
  by_cases hn:i=n
  ·subst hn; show f i=0; omega
  ·exact kzV (f:=f) (n:=n) (fun i hi=>h i (by omega)) (by omega) i (by omega)
theorem kqe {f g:Nat->Int} {i:Nat} {d:Int} (h:g i=f i+d):∀ {n:Nat},i<n->(∀ j,j<n->j≠i->g j=f j)->sumN g n=sumN f n+d
 | 0,hi,_=>by omega
 | n+1,hi,ho=>by
  simp only [sumN]
  by_cases e:i=n
  ·subst e
   rw [kjT (f:=g) (g:=f) fun j hj=>ho j (by omega) (by omega),h]; omega
  ·rw [kqe h (n:=n) (by omega) fun j hj hn=>ho j (by omega) hn,ho n (by omega) (by omega)]; omega
theorem kti {f:Nat->Int}:∀ {n:Nat},(∀ i,i<n->0<=f i)->∀ {i:Nat},i<n->f i<=sumN f n
 | 0,_,i,hi=>by omega
 | n+1,h,i,hi=>by
  have h1:=krV (f:=f) (n:=n) fun i hi=>h i (by omega)
  have h2:=h n (by omega)
  simp only [sumN]
  by_cases hn:i=n
  ·subst hn; omega
  ·have:=kti (fun i hi=>h i (by omega)) (n:=n) (i:=i) (by omega); omega
section
variable (n m:Nat) (cap:Nat->Int) (may:Nat->Nat->Prop)
structure Val (u:Nat->Nat->Int) (l:Nat->Int):Prop where
 nn:∀ k,k<n->∀ j,j<m->0<=u k j
 ok:∀ k,k<n->∀ j,j<m->0<u k j->may k j
 ln:∀ j,j<m->0<=l j
 bal:∀ j,j<m->l j+sumN (fun k=>u k j) n=cap j
structure Sat (u:Nat->Nat->Int) (l:Nat->Int) (S:Nat->Bool):Prop where
 z:∀ k,k<n->S k=true->∀ j,j<m->may k j->l j=0
 c:∀ k,k<n->S k=true->∀ j,j<m->may k j->∀ k',k'<n->0<u k' j->S k'=true
end
def row (m:Nat) (u:Nat->Nat->Int) (k:Nat):Int:=sumN (u k) m
variable {n m:Nat} {cap:Nat->Int} {may:Nat->Nat->Prop} {u u':Nat->Nat->Int} {l l':Nat->Int} {S T:Nat->Bool}
theorem Val.take (v:Val n m cap may u l) {i j:Nat} {d:Int} (hi:i<n) (hj:j<m) (hm:may i j) (hd:0<=d) (hl:d<=l j)
  (h1:l' j=l j-d) (h2:u' i j=u i j+d) (h3:∀ j',j'<m->j'≠j->l' j'=l j') (h4:∀ k,k<n->∀ j',j'<m->¬ (k=i/\j'=j)->u' k j'=u k j') :
  Val n m cap may u' l'/\row m u' i=row m u i+d/\∀ k,k<n->k≠i->row m u' k=row m u k:=by
 refine ⟨⟨?_,?_,?_,?_⟩,?_,?_⟩
 ·intro k hk j' hj'
  by_cases e:k=i/\j'=j
  ·obtain ⟨rfl,rfl⟩:=e; rw [h2]; have:=v.nn k hk j' hj'; omega
  ·rw [h4 k hk j' hj' e]; exact v.nn k hk j' hj'
 ·intro k hk j' hj' hp
  by_cases e:k=i/\j'=j
  ·obtain ⟨rfl,rfl⟩:=e; exact hm
  ·rw [h4 k hk j' hj' e] at hp; exact v.ok k hk j' hj' hp
 ·intro j' hj'
  by_cases e:j'=j
  ·subst e; omega
  ·rw [h3 j' hj' e]; exact v.ln j' hj'
 ·intro j' hj'
  by_cases e:j'=j
  ·subst e
   rw [<-v.bal j' hj',h1,kqe (f:=fun k=>u k j') (g:=fun k=>u' k j') (i:=i) (d:=d) h2 hi fun k hk hn=>h4 k hk j' hj' (by omega)]; omega
  ·rw [<-v.bal j' hj',h3 j' hj' e,kjT fun k hk=>h4 k hk j' hj' (by omega)]
 ·exact kqe h2 hj fun j' hj' hn=>h4 i hi j' hj' (by omega)
 ·intro k hk hn
  exact kjT fun j' hj'=>h4 k hk j' hj' (by omega)
inductive Rch (n m:Nat) (may:Nat->Nat->Prop) (u:Nat->Nat->Int) (L:Nat->Prop):Nat->Prop
 | base {i:Nat}:i<n->L i->Rch n m may u L i
 | step {i j k:Nat}:Rch n m may u L i->j<m->may i j->k<n->0<u k j->Rch n m may u L k
theorem Rch.lt {L:Nat->Prop} {i:Nat} (h:Rch n m may u L i):i<n:=by cases h <;> assumption
theorem iter_inv {α β:Type} {F:α->Option (α⊕β)} (I:α->Prop) (m:α->Nat) (R:β->Prop)
  (h:∀ x,I x->(∃ z,F x=some (.inr z)/\R z)\/∃ y,F x=some (.inl y)/\I y/\m y<m x) (x:α) (hx:I x) (hm:m x<18446744073709551616):∃ z,iter F x=some z/\R z:=by
 have:∀ n x,I x->m x<n->∃ z,itN F n x=some z/\R z:=by
  intro n
  induction n with
  | zero=>intro x _ h0; omega
  | succ n ih=>
   intro x hx hm
   rcases h x hx with ⟨z,e,hz⟩ | ⟨y,e,hy,hlt⟩
   ·exact ⟨z,kdN e,hz⟩
   ·rw [kil e]; exact ih y hy (by omega)
 obtain ⟨z,e,hz⟩:=this 18446744073709551616 x hx hm
 exact ⟨z,kge e (jai _),hz⟩
def ua (U:List (List Int)) (k j:Nat):Int:=(U.getD k []).getD j 0
def la (L:List Int) (j:Nat):Int:=L.getD j 0
def sa (s:List Bool) (j:Nat):Bool:=s.getD j false
def upd (U:List (List Int)) (k j:Nat) (x:Int):List (List Int):=U.set k ((U.getD k []).set j x)
structure Shp (n m:Nat) (U:List (List Int)) (L:List Int):Prop where
 u:U.length=n
 r:∀ k,k<n->(U.getD k []).length=m
 l:L.length=m
theorem gi_D {α:Type} {l:List α} {i:Nat} (d:α) (h:i<l.length):gi l (i:Int)=some (l.getD i d):=by rw [kat h,jcz,jaf h]; rfl
section
variable {n m:Nat} {U:List (List Int)} {L:List Int} {k j:Nat} {x:Int}
theorem Shp.gu (h:Shp n m U L) (hk:k<n):gi U (k:Int)=some (U.getD k []):=gi_D [] (by rw [h.u]; exact hk)
theorem Shp.gl (h:Shp n m U L) (hj:j<m):gi L (j:Int)=some (la L j):=gi_D 0 (by rw [h.l]; exact hj)
theorem gs {s:List Bool} (hs:s.length=m) (hj:j<m):gi s (j:Int)=some (sa s j):=gi_D false (by omega)
theorem kmO {α:Type} {l:List α} {i j:Nat} {x d:α} (h:i<l.length):(l.set i x).getD j d=if j=i then x else l.getD j d:=by
 rw [jcz,jcz,List.getElem?_set]
 by_cases e:j=i
 ·subst e; simp [h]
 ·rw [if_neg (fun h=>e h.symm),if_neg e]
theorem Shp.upd (h:Shp n m U L) (hk:k<n) (hj:j<m):Shp n m (upd U k j x) L:=by
 refine ⟨by simp [Fl.upd,h.u],fun k' hk'=>?_,h.l⟩
 unfold Fl.upd
 rw [kmO (by rw [h.u]; exact hk)]
 split
 ·rw [jcg]; exact h.r k hk
 ·exact h.r k' hk'
end
section
variable (n m:Nat) (cap:Nat->Int) (may:Nat->Nat->Prop)
def Cl (U:List (List Int)) (L:List Int) (s s':List Bool):Prop:=
 ∀ j,j<m->sa s' j=true->sa s j=false->la L j=0/\∀ k,k<n->0<ua U k j->∀ j',j'<m->may k j'->sa s' j'=true
structure Post (i:Nat) (most:Int) (U:List (List Int)) (L:List Int) (s:List Bool) (r:Int) (U':List (List Int)) (L':List Int) (s':List Bool):Prop where
 sh:Shp n m U' L'
 sl:s'.length=m
 mono:∀ j,sa s j=true->sa s' j=true
 v:Val n m cap may (ua U') (la L')
 fr:∀ j,j<m->sa s j=true->la L' j=la L j/\∀ k,k<n->ua U' k j=ua U k j
 r0:0<=r
 r1:r<=most
 ri:row m (ua U') i=row m (ua U) i+r
 ro:∀ k,k<n->k≠i->row m (ua U') k=row m (ua U) k
 z:r=0->U'=U/\L'=L/\(∀ j,j<m->may i j->sa s' j=true)/\Cl n m may U L s s'
end
variable {n m:Nat} {cap:Nat->Int} {may:Nat->Nat->Prop} {U U':List (List Int)} {L L':List Int} {s s' s1 s2:List Bool} {i j k:Nat} {most r:Int}
theorem Cl.mono (h:Cl n m may U L s s1) (h2:∀ j,sa s1 j=true->sa s2 j=true):∀ j,j<m->sa s1 j=true->sa s j=false->la L j=0/\∀ k,k<n->0<ua U k j->∀ j',j'<m->may k j'->sa s2 j'=true:=
 fun j hj h1 h0=>⟨(h j hj h1 h0).1,fun k hk hp j' hj' hm=>h2 _ ((h j hj h1 h0).2 k hk hp j' hj' hm)⟩
theorem Cl.trans (h:Cl n m may U L s s1) (h':Cl n m may U L s1 s2) (h2:∀ j,sa s1 j=true->sa s2 j=true):Cl n m may U L s s2:=fun j hj h1 h0=>by
 cases e:sa s1 j with
 | true=>exact h.mono h2 j hj e h0
 | false=>exact h' j hj h1 e
theorem Val.le (v:Val n m cap may (ua U) (la L)) (hk:k<n) (hj:j<m):0<=ua U k j/\ua U k j<=cap j:=by
 have h1:=v.bal j hj
 have h2:=v.ln j hj
 have h3:=kti (f:=fun k=>ua U k j) (fun k hk=>v.nn k hk j hj) hk
 have h4:=v.nn k hk j hj
 omega
end Go.Abs.Fl
namespace Go.Abs.Pl
open Go Go.Abs
theorem stkB {l:List It} (h:Stk l):Abs.stk l=true:=by
 rw [kzI h.v h.s]
 simp only [jac,jaj,jam]
 exact ⟨h.len,fun x hx=>by have:=h.n x hx; simp [okN]; exact this⟩
theorem kun:∀ {a r:List It},srt r->srt a->(∀ x∈r,∃ y∈a,key y=key x)->r.length<=a.length
 | _,[],_,_,_=>by simp
 | [],x::r,_,_,h=>by obtain ⟨y,hy,_⟩:=h x (by simp); cases hy
 | y::a,x::r,hr,ha,h=>by
  have hr':=jdq.1 hr
  have ha':=jdq.1 ha
  by_cases e:key y=key x
  ·have:=kun hr'.2 ha'.2 fun z hz=>by
    obtain ⟨u,hu,hk⟩:=h z (by simp [hz])
    rcases jaw.1 hu with rfl | hu
    ·have:=hr'.1 z hz; omega
    ·exact ⟨u,hu,hk⟩
   simp; omega
  ·have hyx:key y<key x:=by
    obtain ⟨u,hu,hk⟩:=h x (by simp)
    rcases jaw.1 hu with rfl | hu
    ·exact absurd hk e
    ·have:=ha'.1 u hu; omega
   have:=kun hr ha'.2 fun z hz=>by
    obtain ⟨u,hu,hk⟩:=h z hz
    rcases jaw.1 hu with rfl | hu
    ·exfalso
     rcases jaw.1 hz with rfl | hz
     ·exact e hk
     ·have:=hr'.1 z hz; omega
    ·exact ⟨u,hu,hk⟩
   simp at this ⊢; omega
theorem kqo {l:List It} {q:Int} (h:look l q≠0):∃ x∈l,key x=q:=Classical.byContradiction fun hn=>h (kdI fun x hx e=>hn ⟨x,hx,e⟩)
theorem stkU {a b:List It} (ha:Stk a) (hb:Stk b) (h:∀ q,look a q=look b q):a=b:=
 Abs.uniq ha.s hb.s ha.v hb.v (fun x hx=>by have:=ha.n x hx; omega) (fun x hx=>by have:=hb.n x hx; omega) h
theorem kgF (ls:List (List It)) (hn:ls.length<=1000) (hl:∀ l∈ls,l.length<=1000):kbM ls=some (if ls.all Abs.stk then 0 else 8):=by
 unfold kbM
 rw [kgc (F:=kgk ls) ls (by omega) (fun i x=>if Abs.stk x then none else some 8) (fun i hi=>by
  unfold kgk
  rw [if_pos (by rw [kah]; simp; omega),kat hi,kaR (by omega)]
  simp only [jag,knV _ (hl _ (jcf hi))]
  by_cases h:Abs.stk ls[i]=true <;> simp [h,nextL]) (by unfold kgk; rw [if_neg (by simp [kah])])]
 have:∀ (ls:List (List It)) (k:Nat),(ls.zipIdx k).findSome? (fun x=>if Abs.stk x.1 then none else some (8:Int))=if ls.all Abs.stk then none else some 8:=by
  intro ls
  induction ls with
  | nil=>intro k; rfl
  | cons l ls ih=>
   intro k
   simp only [jbs,jdv,jdw]
   by_cases h:Abs.stk l=true
   ·simp only [h,if_true,Bool.true_and]; exact ih _
   ·rw [jbt] at h; simp [h]
 rw [this]
 by_cases h:ls.all Abs.stk=true
 ·simp [h,endL]
 ·simp [h,endL]
theorem kzy {a b:List It} (ha:Stk a) (hb:Stk b):(∃ r,kfM a b=some (r,0)/\(∀ q,look b q<=look a q)/\Stk r/\∀ q,look r q=look a q-look b q)\/(kfM a b=some ([],6)/\∃ q,look a q<look b q):=by
 have la:=ha.len
 have lb:=hb.len
 obtain ⟨r,g1,g2⟩:=ksx (fun u=>(kiU u.1 u.2).bind fun u1=>some u1) (fun n m=>w64 (n-m)) (fun n m=>rfl) rfl 60 a b [] (by omega) ha.s hb.s ha.v hb.v (by simp)
 have g1':keM a b (fun u0=>(kiU u0.1 u0.2).bind fun u1=>some u1)=some r:=by
  unfold keM
  rw [kge g1 (by omega)]; rfl
 have hlk:∀ q,look r q=look a q-look b q:=fun q=>by
  have ra:=kaW ha q
  have rb:=kaW hb q
  rw [g2.l q,kgR (by omega) (by omega)]
 have hlen:=g2.len
 have e2:(fun u0:It=>(klo u0).bind fun u1=>some u1)=fun u=>some (decide (u.2.2<0)):=by
  funext u; rfl
 have hT:kfM a b=some (if (r.any fun u=>decide (u.2.2<0))=true then ([],6) else (r,0)):=by
  unfold kfM
  rw [kgF [a,b] (by simp) (fun l hl=>by simp at hl; rcases hl with rfl | rfl <;> omega),if_pos (by simp [stkB ha,stkB hb]),g1',e2]
  simp only [jag,kpg r (by omega)]
  by_cases h:(r.any fun u=>decide (u.2.2<0))=true
  ·simp [h]
  ·simp [h]
 rw [hT]
 by_cases h:(r.any fun u=>decide (u.2.2<0))=true
 ·rw [if_pos h]
  right
  refine ⟨rfl,?_⟩
  obtain ⟨x,hx,hn⟩:=jbl.1 h
  have:=kkc g2.s hx
  have:=hlk (key x)
  simp at hn
  exact ⟨key x,by omega⟩
 ·rw [if_neg h]
  left
  have h0:∀ x∈r,0<=x.2.2:=fun x hx=>by
   refine Int.not_lt.1 fun hn=>h (jbl.2 ⟨x,hx,by simpa using hn⟩)
  have hle:∀ q,look b q<=look a q:=fun q=>by
   have:=hlk q
   by_cases hz:look r q=0
   ·omega
   ·obtain ⟨x,hx,rfl⟩:=kqo hz
    have:=kkc g2.s hx
    have:=h0 x hx
    omega
  refine ⟨r,rfl,hle,⟨g2.v,g2.s,fun x hx=>?_,?_⟩,hlk⟩
  ·have h1:=g2.n x hx
   have h2:=h0 x hx
   have h3:=kkc g2.s hx
   have h4:=hlk (key x)
   have h5:=kaW ha (key x)
   have h6:=kaW hb (key x)
   omega
  ·refine jdc (kun g2.s ha.s fun x hx=>?_) ha.len
   refine kqo fun hz=>?_
   have h1:=g2.n x hx
   have h2:=h0 x hx
   have h3:=kkc g2.s hx
   have h4:=hlk (key x)
   have h6:=kaW hb (key x)
   omega
def wl:List (List It)->Nat->Int->Int
 | [],_,_=>0
 | p::ps,S,q=>(if S % 2=1 then look p q else 0)+wl ps (S / 2) q
theorem wl_nn:∀ {ps:List (List It)} {S:Nat} {q:Int},(∀ p∈ps,Stk p)->0<=wl ps S q
 | [],_,_,_=>jee 0
 | p::ps,S,q,h=>by
  have h1:=kaW (h p (by simp)) q
  have h2:=wl_nn (ps:=ps) (S:=S / 2) (q:=q) fun x hx=>h x (by simp [hx])
  simp only [wl]
  split <;> omega
theorem kxL {a b:Nat} (ha:a<2 ^ 60) (hb:b<2 ^ 60):bitsI .or .i64 (a:Int) (b:Int)=((a ||| b:Nat):Int):=by
 have hab:a ||| b<2 ^ 60:=Nat.or_lt_two_pow ha hb
 show w64 ((BitVec.ofInt 64 (a:Int) ||| BitVec.ofInt 64 (b:Int)).toNat:Int)=_
 rw [BitVec.toNat_or,BitVec.ofInt_natCast,BitVec.ofInt_natCast,BitVec.toNat_ofNat,BitVec.toNat_ofNat,Nat.mod_eq_of_lt (by omega),Nat.mod_eq_of_lt (by omega),kgR (by omega) (by omega)]
theorem kvX {a b:Nat} (ha:a<2 ^ 60) (hb:b<2 ^ 60):bitsI .and .i64 (a:Int) (b:Int)=((a &&& b:Nat):Int):=by
 have hab:a &&& b<2 ^ 60:=Nat.and_lt_two_pow a hb
 show w64 ((BitVec.ofInt 64 (a:Int) &&& BitVec.ofInt 64 (b:Int)).toNat:Int)=_
 rw [BitVec.toNat_and,BitVec.ofInt_natCast,BitVec.ofInt_natCast,BitVec.toNat_ofNat,BitVec.toNat_ofNat,Nat.mod_eq_of_lt (by omega),Nat.mod_eq_of_lt (by omega),kgR (by omega) (by omega)]
theorem shl1 {i:Nat} (hi:i<20):w64 (1*2 ^ (min ((i:Int).toNat) 64))=((2 ^ i:Nat):Int):=by
 have h1:(2:Nat) ^ i<=2 ^ 20:=Nat.pow_le_pow_right (by omega) (by omega)
 have h2:(0:Nat)<2 ^ i:=Nat.pow_pos (by omega)
 rw [show min ((i:Int).toNat) 64=i by omega,show (1:Int)*2 ^ i=((2 ^ i:Nat):Int) by push_cast; omega,kgR (by omega) (by omega)]
theorem kzM {s i:Nat} (hs:s<2 ^ i) (hi:i<20):bitsI .or .i64 (s:Int) (w64 (1*2 ^ (min ((i:Int).toNat) 64)))=((s+2 ^ i:Nat):Int):=by
 have h1:(2:Nat) ^ i<=2 ^ 20:=Nat.pow_le_pow_right (by omega) (by omega)
 rw [shl1 hi,kxL (by omega) (by omega)]
 have:=Nat.two_pow_add_eq_or_of_lt hs 1
 rw [Nat.mul_one] at this
 rw [Nat.or_comm,<-this,Nat.add_comm]
theorem kxR (ps:List (List It)) (hn:ps.length<=12) (hp:∀ p∈ps,Stk p):∀ (rs:List (List It)) (i s:Nat) (l:List It) (d:Nat),ps.drop i=rs->i+rs.length=ps.length->rs.length<d->s<2 ^ i->Stk l->
  ∃ ls,kaI d ps (i:Int) (s:Int) l=some ls/\ls.length<=2 ^ rs.length/\(∀ y∈ls,∃ T,T<2 ^ rs.length/\y.1=((s+2 ^ i*T:Nat):Int)/\(∀ q,wl rs T q<=look l q)/\Stk y.2/\∀ q,look y.2 q=look l q-wl rs T q)/\
   ∀ T,T<2 ^ rs.length->(∀ q,wl rs T q<=look l q)->∃ y∈ls,y.1=((s+2 ^ i*T:Nat):Int):=by
 intro rs
 induction rs with
 | nil=>
  intro i s l d hd hlen hlt hs hl
  obtain ⟨d,rfl⟩:∃ d',d=d'+1:=⟨d-1,by omega⟩
  refine ⟨[((s:Int),l)],?_,by simp,fun y hy=>?_,fun T hT _=>⟨((s:Int),l),by simp,?_⟩⟩
  ·exact if_pos (show (i:Int)=lenI ps by rw [kah]; simp at hlen; omega)
  ·simp at hy; subst hy
   exact ⟨0,by simp,by simp,fun q=>by have:=kaW hl q; simp [wl]; omega,hl,fun q=>by simp [wl]⟩
  ·simp at hT; simp [hT]
 | cons p rs ih=>
  intro i s l d hd hlen hlt hs hl
  obtain ⟨d,rfl⟩:∃ d',d=d'+1:=⟨d-1,by omega⟩
  simp only [jau] at hlen hlt
  have hi:i<ps.length:=by omega
  have hpi:ps[i]=p:=by have:=jbb hi; rw [hd] at this; exact (List.cons.inj this).1.symm
  have hd1:ps.drop (i+1)=rs:=by have:=jbb hi; rw [hd] at this; exact (List.cons.inj this).2.symm
  have hstk:Stk p:=hp p (by rw [<-hpi]; exact jcf hi)
  have hw:w64 ((i:Int)+1)=((i+1:Nat):Int):=kaR (by omega)
  have hpow:2 ^ (i+1)=2*2 ^ i:=by rw [jeb]; omega
  obtain ⟨l2,h2,b0,b1,b2⟩:=ih (i+1) s l d hd1 (by omega) (by omega) (by omega) hl
  have heven:∀ T,s+2 ^ (i+1)*T=s+2 ^ i*(2*T):=fun T=>by rw [hpow,Nat.mul_comm 2 (2 ^ i),Nat.mul_assoc]
  have hodd:∀ T,s+2 ^ i+2 ^ (i+1)*T=s+2 ^ i*(2*T+1):=fun T=>by rw [hpow,Nat.mul_comm 2 (2 ^ i),Nat.mul_assoc,Nat.mul_add,Nat.mul_one]; omega
  have wodd:∀ T q,wl (p::rs) (2*T+1) q=look p q+wl rs T q:=fun T q=>by
   simp only [wl]; rw [if_pos (by omega),show (2*T+1) / 2=T by omega]
  have wev:∀ T q,wl (p::rs) (2*T) q=wl rs T q:=fun T q=>by
   simp only [wl]; rw [if_neg (by omega),show (2*T) / 2=T by omega]; omega
  have c2:∀ y∈l2,∃ T,T<2 ^ (rs.length+1)/\y.1=((s+2 ^ i*T:Nat):Int)/\(∀ q,wl (p::rs) T q<=look l q)/\Stk y.2/\∀ q,look y.2 q=look l q-wl (p::rs) T q:=fun y hy=>by
   obtain ⟨T,t1,t2,t3,t4,t5⟩:=b1 y hy
   exact ⟨2*T,by rw [jeb]; omega,by rw [t2,heven],fun q=>by rw [wev]; exact t3 q,t4,fun q=>by rw [wev]; exact t5 q⟩
  have gr:kaI (d+1) ps (i:Int) (s:Int) l=(kfM l p).bind fun r=>if r.2=0 then (gshl .i64 1 (i:Int)).bind fun b=>(kaI d ps (w64 (i+1)) (bitsI .or .i64 s b) r.1).bind fun x=>(kaI d ps (w64 (i+1)) s l).bind fun y=>some (x++y) else kaI d ps (w64 (i+1)) s l:=by
   refine (if_neg (show ¬ (i:Int)=lenI ps by rw [kah]; omega)).trans ?_
   rw [kat hi,hpi]; rfl
  rw [gr]
  rcases kzy hl hstk with ⟨r,hr,hle,hrs,hrl⟩ | ⟨hr,q0,hq0⟩
  ·obtain ⟨l1,h1,a0,a1,a2⟩:=ih (i+1) (s+2 ^ i) r d hd1 (by omega) (by omega) (by omega) hrs
   refine ⟨l1++l2,?_,by rw [jbe,jau,jeb]; omega,fun y hy=>?_,fun T hT hf=>?_⟩
   ·rw [hr]
    simp only [jag,if_true]
    rw [show gshl .i64 1 (i:Int)=some (w64 (1*2 ^ (min ((i:Int).toNat) 64))) from if_pos (by omega)]
    simp only [jag]
    rw [kzM hs (by omega),hw,h1,h2]; rfl
   ·rcases jax.1 hy with hy | hy
    ·obtain ⟨T,t1,t2,t3,t4,t5⟩:=a1 y hy
     exact ⟨2*T+1,by rw [jau,jeb]; omega,by rw [t2,hodd],fun q=>by rw [wodd]; have:=t3 q; rw [hrl] at this; omega,t4,fun q=>by rw [wodd,t5 q,hrl]; omega⟩
    ·exact c2 y hy
   ·rw [jau,jeb] at hT
    rcases jcj T with e | e
    ·obtain ⟨T',rfl⟩:∃ T',T=2*T':=⟨T / 2,by omega⟩
     obtain ⟨y,hy,e⟩:=b2 T' (by omega) fun q=>by rw [<-wev T']; exact hf q
     exact ⟨y,List.mem_append_right _ hy,by rw [e,heven]⟩
    ·obtain ⟨T',rfl⟩:∃ T',T=2*T'+1:=⟨T / 2,by omega⟩
     obtain ⟨y,hy,e⟩:=a2 T' (by omega) fun q=>by have:=hf q; rw [wodd] at this; rw [hrl]; omega
     exact ⟨y,List.mem_append_left _ hy,by rw [e,hodd]⟩
  ·refine ⟨l2,?_,by rw [jau,jeb]; omega,c2,fun T hT hf=>?_⟩
   ·rw [hr]
    simp only [jag]
    rw [if_neg (by decide),hw,h2]
   ·rw [jau,jeb] at hT
    rcases jcj T with e | e
    ·obtain ⟨T',rfl⟩:∃ T',T=2*T':=⟨T / 2,by omega⟩
     obtain ⟨y,hy,e⟩:=b2 T' (by omega) fun q=>by rw [<-wev T']; exact hf q
     exact ⟨y,hy,by rw [e,heven]⟩
    ·obtain ⟨T',rfl⟩:∃ T',T=2*T'+1:=⟨T / 2,by omega⟩
     exfalso
     have h1:=hf q0
     have h2:=wl_nn (ps:=rs) (S:=T') (q:=q0) fun x hx=>hp x (by rw [<-hd1] at hx; exact jcs hx)
     rw [wodd] at h1
     omega
theorem kuk (l:List It) (hl:l.length<=1000):kam l=some l:=by
 have h:gapp [] l=some l:=by rw [keE (by simp; omega)]; rfl
 unfold kam
 rw [h]
 cases l with
 | nil=>rfl
 | cons x l=>rfl
theorem kmx {ps:List (List It)} {box:List It} (hn:ps.length<=12) (hp:∀ p∈ps,Stk p) (hb:Stk box):∃ ls,(runI fun o=>kbs o ps box)=some ls/\ls.length<=2 ^ ps.length/\
  (∀ y∈ls,∃ T:Nat,T<2 ^ ps.length/\y.1=(T:Int)/\(∀ q,wl ps T q<=look box q)/\Stk y.2/\∀ q,look y.2 q=look box q-wl ps T q)/\∀ T:Nat,T<2 ^ ps.length->(∀ q,wl ps T q<=look box q)->∃ y∈ls,y.1=(T:Int):=by
 obtain ⟨ls,h1,h0,h2,h3⟩:=kxR ps hn hp ps 0 0 box (ps.length+1) rfl (by omega) (by omega) (by simp) hb
 refine ⟨ls,?_,h0,fun y hy=>?_,fun T hT hf=>?_⟩
 ·have hit:∀ o,kbs o ps box=some ls:=fun o=>by
   unfold kbs
   rw [kuk box (by have:=hb.len; omega)]
   exact h1
  unfold runI
  simp only [hit,jag,if_true]
 ·obtain ⟨T,t1,t2,t3⟩:=h2 y hy
  exact ⟨T,t1,by rw [t2]; simp,t3⟩
 ·obtain ⟨y,hy,e⟩:=h3 T hT hf
  exact ⟨y,hy,by rw [e]; simp⟩
def mem:List Int->Nat->Nat->List Int×Int
 | [],_,_=>([],0)
 | v::vs,T,i=>if T % 2=1 then ((i:Int)::(mem vs (T / 2) (i+1)).1,v+(mem vs (T / 2) (i+1)).2) else mem vs (T / 2) (i+1)
def okV (vs:List Int):Prop:=∀ v∈vs,0<=v/\v<=1000
theorem ksd:∀ {vs:List Int} {T i:Nat},okV vs->0<=(mem vs T i).2/\(mem vs T i).2<=1000*vs.length/\(mem vs T i).1.length<=vs.length
 | [],_,_,_=>by simp [mem]
 | v::vs,T,i,h=>by
  have h1:=ksd (vs:=vs) (T:=T / 2) (i:=i+1) fun x hx=>h x (by simp [hx])
  have h2:=h v (by simp)
  simp only [mem,jau]
  split <;> (try simp only [jau]) <;> omega
theorem kul:∀ {vs:List Int} {T i:Nat} {x:Int},x∈(mem vs T i).1->(i:Int)<=x
 | [],_,_,_,h=>by simp [mem] at h
 | v::vs,T,i,x,h=>by
  simp only [mem] at h
  split at h
  ·rcases jaw.1 h with rfl | h
   ·omega
   ·have:=kul h; omega
  ·have:=kul h; omega
theorem krW:∀ {vs:List Int} {T S i:Nat},T<2 ^ vs.length->S<2 ^ vs.length->(mem vs T i).1=(mem vs S i).1->T=S
 | [],T,S,_,hT,hS,_=>by simp at hT hS; omega
 | v::vs,T,S,i,hT,hS,h=>by
  rw [jau,jeb] at hT hS
  simp only [mem] at h
  have no:∀ T:Nat,∀ l,(i:Int)::l≠(mem vs T (i+1)).1:=fun T l e=>by
   have:=kul (vs:=vs) (T:=T) (i:=i+1) (x:=(i:Int)) (by rw [<-e]; simp)
   omega
  split at h <;> split at h
  ·have:=krW (by omega) (by omega) (List.cons.inj h).2
   omega
  ·exact absurd h (no _ _)
  ·exact absurd h.symm (no _ _)
  ·have:=krW (by omega) (by omega) h
   omega
theorem kwd {T i:Nat} (hi:i<64):gshr .i64 (T:Int) (i:Int)=some ((T / 2 ^ i:Nat):Int):=by
 unfold gshr
 rw [if_pos (by omega)]
 show some ((T:Int).fdiv (2 ^ (min ((i:Int).toNat) 64)))=_
 rw [show min ((i:Int).toNat) 64=i by omega,show (2:Int) ^ i=((2 ^ i:Nat):Int) by push_cast; rfl,Int.fdiv_eq_ediv_of_nonneg _ (Int.natCast_nonneg _)]
 rfl
theorem koD (T i:Nat):T / 2 ^ (i+1)=T / 2 ^ i / 2:=by rw [jeb,Nat.div_div_eq_div_mul]
theorem and1 {T:Nat} (h:T<2 ^ 20):bitsI .and .i64 (T:Int) 1=((T % 2:Nat):Int):=by
 have:=kvX (a:=T) (b:=1) (by omega) (by omega)
 rwa [Nat.and_one_is_mod] at this
theorem kwv {vals:List Int} {T:Nat} (hT:T<2 ^ 20) (hv:okV vals) (hl:vals.length<=20):∀ (vs:List Int) (i:Nat) (val:Int) (out:List Int),vals.drop i=vs->i+vs.length=vals.length->0<=val->val<=1000*i->out.length<=i->
  itN (kcR (T:Int) vals) (vs.length+1) ((i:Int),val,out)=some (val+(mem vs (T / 2 ^ i) i).2,out++(mem vs (T / 2 ^ i) i).1):=by
 intro vs
 induction vs with
 | nil=>
  intro i val out hd hlen h0 h1 h2
  refine kdN ?_
  unfold kcR
  rw [if_neg (by rw [lenI_lt]; simp at hlen; omega)]
  simp [mem]
 | cons v vs ih=>
  intro i val out hd hlen h0 h1 h2
  simp only [jau] at hlen
  have hi:i<vals.length:=by omega
  have e1:vals[i]=v:=by have:=jbb hi; rw [hd] at this; exact (List.cons.inj this).1.symm
  have e2:vals.drop (i+1)=vs:=by have:=jbb hi; rw [hd] at this; exact (List.cons.inj this).2.symm
  have hvv:=hv v (by rw [<-e1]; exact jcf hi)
  have hdiv:T / 2 ^ i<2 ^ 20:=Nat.lt_of_le_of_lt (Nat.div_le_self _ _) hT
  have hstep:kcR (T:Int) vals ((i:Int),val,out)=some (.inl (if T / 2 ^ i % 2=1 then (((i+1:Nat):Int),val+v,out++[(i:Int)]) else (((i+1:Nat):Int),val,out))):=by
   unfold kcR
   rw [if_pos (lenI_lt.2 hi)]
   simp only [kat hi,kwd (show i<64 by omega),jag,e1,kaR (show i<9223372036854775807 by omega)]
   rw [and1 hdiv]
   rcases jcj (T / 2 ^ i) with e | e
   ·rw [e,if_neg (by decide),if_neg (by omega)]
   ·rw [e,if_pos (by decide),if_pos rfl,keE (by simp; omega),kgR (by omega) (by omega)]; rfl
  rw [jau,kil hstep]
  by_cases hb:T / 2 ^ i % 2=1
  ·rw [if_pos hb,ih (i+1) _ _ e2 (by omega) (by omega) (by push_cast; omega) (by simp; omega),koD]
   simp only [mem,hb,if_true,jar,List.singleton_append]
   rw [Int.add_assoc]
  ·rw [if_neg hb,ih (i+1) _ _ e2 (by omega) h0 (by push_cast; omega) (by omega),koD]
   simp only [mem,hb,if_false]
theorem kra {vals:List Int} {T:Nat} (hT:T<2 ^ 20) (hv:okV vals) (hl:vals.length<=20):kgS (T:Int) vals=some (mem vals T 0):=by
 have:=kwv hT hv hl vals 0 0 [] rfl (by omega) (by omega) (by omega) (by simp)
 unfold kgS
 have h2:iter (kcR (T:Int) vals) (0,0,[])=_:=kge this (by omega)
 rw [h2]
 simp
def bl:Nat->Nat->List Int
 | 0,_=>[]
 | n+1,T=>((T % 2:Nat):Int)::bl n (T / 2)
def lexC:List Int->List Int->Int
 | [],[]=>0
 | [],_::_=>-1
 | _::_,[]=>1
 | x::a,y::b=>if cmpI x y≠0 then cmpI x y else lexC a b
theorem kyz {a b:List Int} {k:Nat} (h:¬ k<a.length) (hk:k<=a.length):lexC (a.drop k) (b.drop k)=if a.length<b.length then -1 else 0:=by
 have e:a.drop k=[]:=jbi (by omega)
 rw [e]
 by_cases hb:k<b.length
 ·rw [jbb hb,if_pos (by omega)]; rfl
 ·rw [jbi (by omega),if_neg (by omega)]; rfl
theorem kxz {a b:List Int} {k:Nat} (ha:k<a.length) (hb:k<b.length):lexC (a.drop k) (b.drop k)=if cmpI a[k] b[k]≠0 then cmpI a[k] b[k] else lexC (a.drop (k+1)) (b.drop (k+1)):=by
 rw [jbb ha,jbb hb]; rfl
theorem kyo {a b:List Int} {k:Nat} (ha:k<a.length) (hb:b.length<=k):lexC (a.drop k) (b.drop k)=1:=by
 rw [jbb ha,jbi hb]; rfl
theorem knS {F:Int->Option (Int⊕(Int⊕Unit))} (a b:List Int) (ha:a.length<=1000) (h1:∀ (k:Nat),k<a.length->b.length<=k->F (k:Int)=some (.inr (.inl 1))) (h2:∀ (k:Nat) (ha:k<a.length) (hb:k<b.length),F (k:Int)=some (if cmpI a[k] b[k]≠0 then .inr (.inl (cmpI a[k] b[k])) else .inl ((k+1:Nat):Int)))
  (h3:F (a.length:Int)=some (.inr (.inr ()))):∃ z,iter F 0=some z/\(match z with | .inl v=>v | .inr _=>if a.length<b.length then -1 else 0)=lexC a b:=by
 refine Fl.iter_inv (F:=F) (I:=fun i=>∃ k:Nat,i=k/\k<=a.length/\lexC (a.drop k) (b.drop k)=lexC a b) (m:=fun i=>a.length-i.toNat) (R:=fun z=>(match z with | .inl v=>v | .inr _=>if a.length<b.length then -1 else 0)=lexC a b) ?_ 0 ⟨0,rfl,by omega,rfl⟩ (by omega)
 rintro _ ⟨k,rfl,hk,e⟩
 by_cases hka:k<a.length
 ·by_cases hkb:k<b.length
  ·have hs:=kxz hka hkb
   have h2:=h2 k hka hkb
   by_cases hc:cmpI a[k] b[k]≠0
   ·rw [if_pos hc] at hs h2
    exact .inl ⟨_,h2,by rw [<-e,hs]⟩
   ·rw [if_neg hc] at hs h2
    exact .inr ⟨_,h2,⟨k+1,rfl,by omega,by rw [<-hs,e]⟩,by simp; omega⟩
  ·exact .inl ⟨_,h1 k hka (by omega),by rw [<-e,kyo hka (by omega)]⟩
 ·obtain rfl:k=a.length:=by omega
  exact .inl ⟨_,h3,by rw [<-e,kyz hka (by omega)]⟩
theorem kyS (a b:List Int) (ha:a.length<=1000):kbO a b=some (lexC a b):=by
 obtain ⟨z,e,hz⟩:=knS (F:=kaP a b) a b ha (fun k h1 h2=>by
  unfold kaP
  rw [if_pos (lenI_lt.2 h1),kat h1]
  simp only [jag]
  rw [if_pos (by rw [kah]; simpa using h2)]) (fun k h1 h2=>by
  unfold kaP
  rw [if_pos (lenI_lt.2 h1),kat h1,kat h2,kaR (by omega)]
  simp only [jag,kmH]
  rw [if_neg (by rw [kah]; simp; omega)]
  by_cases hc:cmpI a[k] b[k]=0 <;> simp [hc]) (by unfold kaP; rw [if_neg knP])
 unfold kbO
 rw [e,<-hz]
 cases z with
 | inl v=>rfl
 | inr v=>simp only [jag,kah]; by_cases h:a.length<b.length <;> simp [h]
theorem kza (a b:List Int) (ha:a.length<=1000):kbl a b=some (lexC a b):=by
 obtain ⟨z,e,hz⟩:=knS (F:=kaG a b) a b ha (fun k h1 h2=>by
  unfold kaG
  rw [if_pos (lenI_lt.2 h1),kat h1]
  simp only [jag]
  rw [if_pos (by rw [kah]; simpa using h2)]) (fun k h1 h2=>by
  unfold kaG
  rw [if_pos (lenI_lt.2 h1),kat h1,kat h2,kaR (by omega)]
  simp only [jag,ksz]
  rw [if_neg (by rw [kah]; simp; omega)]
  by_cases hc:cmpI a[k] b[k]=0 <;> simp [hc]) (by unfold kaG; rw [if_neg knP])
 unfold kbl
 rw [e,<-hz]
 cases z with
 | inl v=>rfl
 | inr v=>simp only [jag,kah]; by_cases h:a.length<b.length <;> simp [h]
def ltL (a b:List Int):Bool:=if a.length=b.length then decide (lexC a b<0) else decide (a.length<b.length)
theorem or_lt (a b:List Int) (ha:a.length<=1000):decide ((if cmpI (lenI a) (lenI b)≠0 then cmpI (lenI a) (lenI b) else lexC a b)<0)=ltL a b:=by
 unfold ltL cmpI
 rw [kah,kah]
 rcases Nat.lt_trichotomy a.length b.length with h | h | h
 ·have h1:(a.length:Int)<b.length:=by omega
  have h2:¬ a.length=b.length:=by omega
  simp [h1,h2]; omega
 ·simp [h]
 ·have h1:¬ (a.length:Int)<b.length:=by omega
  have h2:¬ a.length=b.length:=by omega
  have h3:(b.length:Int)<a.length:=by omega
  simp [h1,h2,h3]; omega
theorem krG:∀ {a b:List Int},lexC a b=0->a=b
 | [],[],_=>rfl
 | [],_::_,h=>by simp [lexC] at h
 | _::_,[],h=>by simp [lexC] at h
 | x::a,y::b,h=>by
  simp only [lexC] at h
  split at h
  ·contradiction
  ·rename_i hc
   have:x=y:=by unfold cmpI at hc; (repeat' split at hc) <;> omega
   rw [this,krG h]
theorem kjo:∀ {a b:List Int},lexC a b =-lexC b a
 | [],[]=>rfl
 | [],_::_=>rfl
 | _::_,[]=>rfl
 | x::a,y::b=>by
  have:=kjo (a:=a) (b:=b)
  simp only [lexC,cmpI]
  (repeat' split) <;> omega
theorem kmy:∀ {a b c:List Int},lexC a b<0->lexC b c<0->lexC a c<0
 | [],[],_,h,_=>by simp [lexC] at h
 | [],_::_,[],_,h=>by simp [lexC] at h
 | [],_::_,_::_,_,_=>by simp [lexC]
 | _::_,[],_,h,_=>by simp [lexC] at h
 | _::_,_::_,[],_,h=>by simp [lexC] at h
 | x::a,y::b,z::c,h1,h2=>by
  have ih:=kmy (a:=a) (b:=b) (c:=c)
  simp only [lexC,cmpI] at h1 h2 ⊢
  (repeat' split at h1) <;> (repeat' split at h2) <;> (repeat' split) <;> first | omega | exact ih h1 h2
theorem kyc {a b c:List Int} (h1:ltL a b=true) (h2:ltL b c=true):ltL a c=true:=by
 unfold ltL at *
 split at h1 <;> split at h2 <;> split <;> simp only [jaj] at * <;> first | omega | exact kmy h1 h2
theorem kzp {a b:List Int} (h1:ltL a b=false) (h2:ltL b a=false):a=b:=by
 unfold ltL at *
 have:=kjo (a:=a) (b:=b)
 split at h1
 ·rename_i e
  rw [if_pos e.symm] at h2
  simp only [decide_eq_false_iff_not] at h1 h2
  exact krG (by omega)
 ·rename_i e
  rw [if_neg (fun e2=>e e2.symm)] at h2
  simp only [decide_eq_false_iff_not] at h1 h2
  omega
theorem kym {pre:List Int} {x y:Int} {r:List Int} {i:Nat} (h:pre.length=i):lset (pre++x::r) (i:Int) y=pre++y::r:=by
 unfold lset
 rw [show ((i:Int)).toNat=i by omega,<-h,List.set_append_right _ _ (jai _),Nat.sub_self]; rfl
def wt:List (List It)->List Int->Int->Int->Int
 | p::ps,w::ws,m,q=>(if w=m then look p q else 0)+wt ps ws m q
 | _,_,_,_=>0
def allS (ps:List (List It)):Prop:=∀ p∈ps,Stk p
theorem kxy:∀ {ps:List (List It)} {ws:List Int} {m q:Int},allS ps->0<wt ps ws m q->∃ (i:Nat) (hi:i<ps.length) (hw:i<ws.length),ws[i]=m/\0<look ps[i] q
 | [],_,_,_,_,h=>by simp [wt] at h
 | p::ps,[],_,_,_,h=>by simp [wt] at h
 | p::ps,w::ws,m,q,hs,h=>by
  by_cases hc:w=m/\0<look p q
  ·exact ⟨0,by simp,by simp,hc.1,hc.2⟩
  ·have h0:0<wt ps ws m q:=by
    have:=kaW (hs p (by simp)) q
    simp only [wt] at h
    split at h
    ·rename_i e
     have:¬ 0<look p q:=fun h=>hc ⟨e,h⟩
     omega
    ·omega
   obtain ⟨i,hi,hw,e1,e2⟩:=kxy (fun x hx=>hs x (by simp [hx])) h0
   exact ⟨i+1,by simp; omega,by simp; omega,by simpa using e1,by simpa using e2⟩
def left (f:Int->Int):List It->List It
 | []=>[]
 | x::l=>if 0<x.2.2-f (key x) then (x.1,x.2.1,x.2.2-f (key x))::left f l else left f l
theorem lots1 (l:List It):∃ b,keL l=some b/\(b=false->l.length<=40):=by
 unfold keL
 rw [kah]
 by_cases hl:(40:Int)<l.length
 ·exact ⟨true,by rw [if_pos (by simpa using hl)],fun h=>by cases h⟩
 ·rw [if_neg (by simpa using hl)]
  have:∀ (k i:Nat) (v:Int),i+k=l.length->∃ r,itN (keQ l) (k+1) ((i:Int),v)=some r:=by
   intro k
   induction k with
   | zero=>
    intro i v h
    refine ⟨v,kdN ?_⟩
    unfold keQ
    rw [if_neg (by rw [kah]; simp; omega)]
   | succ k ih=>
    intro i v h
    have hi:i<l.length:=by omega
    by_cases hw:(decide (0<=l[i].2.2)&&decide (l[i].2.2<=1000))=true
    ·obtain ⟨r,hr⟩:=ih (i+1) (w64 (v+l[i].2.2)) (by omega)
     refine ⟨r,?_⟩
     rw [<-hr]
     refine kil ?_
     unfold keQ
     rw [if_pos (by rw [kah]; simpa using hi),kat hi,kaR (by omega)]
     simp only [jag,kla,hw,if_true]
    ·obtain ⟨r,hr⟩:=ih (i+1) v (by omega)
     refine ⟨r,?_⟩
     rw [<-hr]
     refine kil ?_
     unfold keQ
     rw [if_pos (by rw [kah]; simpa using hi),kat hi,kaR (by omega)]
     simp only [jag,kla,hw,if_false]
     rw [if_neg (by simp)]
  obtain ⟨r,hr⟩:=this l.length 0 0 (by omega)
  refine ⟨decide (8000<r),?_,fun _=>by omega⟩
  rw [show ((0:Int),(0:Int))=(((0:Nat):Int),0) from rfl,kge hr (by omega)]; rfl
theorem kxS (ls:List (List It)) (hl:ls.length<=9223372036854775807):∃ c,khS ls=some c/\(c=false->∀ l∈ls,l.length<=40):=by
 unfold khS
 rw [ksl (F:=khg ls) true ls hl (fun _ l=>decide (keL l=some true)) (fun i hi=>by
  unfold khg
  rw [if_pos (lenI_lt.2 hi),kat hi,kaR (by omega)]
  obtain ⟨u,hu,_⟩:=lots1 ls[i]
  simp only [jag,hu]
  cases u <;> rfl) (by unfold khg; rw [if_neg knP])]
 rw [kwe (fun l=>decide (keL l=some true)) ls 0]
 cases hc:ls.any fun l=>decide (keL l=some true) with
 | true=>exact ⟨true,rfl,fun h=>by cases h⟩
 | false=>
  refine ⟨_,rfl,fun _ l hl=>?_⟩
  have:=List.any_eq_false.1 hc l hl
  obtain ⟨u,hu,hu2⟩:=lots1 l
  rw [jaj,hu] at this
  cases u with
  | true=>exact absurd rfl this
  | false=>exact hu2 rfl
theorem kzQ {a b:List It} (ha:Stk a) (hb:Stk b):(∃ r,kiD a b=some (r,0)/\Stk r/\∀ q,look r q=look a q+look b q)\/(kiD a b=some ([],4)/\∀ r,Stk r->¬ ∀ q,look r q=look a q+look b q):=by
 have la:=ha.len
 have lb:=hb.len
 obtain ⟨r,g1,g2⟩:=ksx (fun u=>(kjU u.1 u.2).bind fun u1=>some u1) (fun n m=>w64 (n+m)) (fun n m=>rfl) rfl 60 a b [] (by omega) ha.s hb.s ha.v hb.v (by simp)
 have g1':keM a b (fun u0=>(kjU u0.1 u0.2).bind fun u1=>some u1)=some r:=by
  unfold keM
  rw [kge g1 (by omega)]; rfl
 have hlk:∀ q,look r q=look a q+look b q:=fun q=>by
  have ra:=kaW ha q
  have rb:=kaW hb q
  rw [g2.l q,kgR (by omega) (by omega)]
 have hlen:=g2.len
 have hA:kiD a b=some (if stk r=true then (r,0) else ([],4)):=by
  unfold kiD
  rw [kgF [a,b] (by simp) (fun l hl=>by simp at hl; rcases hl with rfl | rfl <;> omega),if_pos (by simp [stkB ha,stkB hb]),g1']
  simp only [jag,knV r (by omega)]
  by_cases h:stk r=true <;> simp [h]
 rw [hA]
 by_cases h:stk r=true
 ·rw [if_pos h]
  exact .inl ⟨r,rfl,klI h fun x hx=>(g2.v x hx).2.2.1,hlk⟩
 ·rw [if_neg h]
  refine .inr ⟨rfl,fun r' hr' hl'=>h ?_⟩
  have:r=r':=Abs.uniq g2.s hr'.s g2.v hr'.v g2.n (fun x hx=>by have:=hr'.n x hx; omega) fun q=>by rw [hlk,hl']
  rw [this]; exact stkB hr'
theorem kzH {ps:List (List It)} {who:List Int} {m k c u:Int} (hs:allS ps) (hw:who.length=ps.length) (hn:ps.length<=1000) (hc:0<=c/\c<=15):∀ (rs:List (List It)) (ws:List Int) (i:Nat) (n:Int),ps.drop i=rs->who.drop i=ws->i+rs.length=ps.length->0<=n->n<=1000*i->
  itN (ket ps who m (k,c,u)) (rs.length+1) ((i:Int),n)=some (n+wt rs ws m (16*k+c)):=by
 intro rs
 induction rs with
 | nil=>
  intro ws i n hd hd2 hlen h0 h1
  refine kdN ?_
  unfold ket
  rw [if_neg (by rw [lenI_lt]; simp at hlen; omega)]
  simp [wt]
 | cons p rs ih=>
  intro ws i n hd hd2 hlen h0 h1
  simp only [jau] at hlen
  have hi:i<ps.length:=by omega
  have hiw:i<who.length:=by omega
  have e1:ps[i]=p:=by have:=jbb hi; rw [hd] at this; exact (List.cons.inj this).1.symm
  have e2:ps.drop (i+1)=rs:=by have:=jbb hi; rw [hd] at this; exact (List.cons.inj this).2.symm
  have e3:ws=who[i]::who.drop (i+1):=by rw [<-hd2]; exact jbb hiw
  have hp:Stk p:=hs p (by rw [<-e1]; exact jcf hi)
  have hr:=kaW hp (16*k+c)
  have hst:ket ps who m (k,c,u) ((i:Int),n)=some (.inl (((i+1:Nat):Int),n+if who[i]=m then look p (16*k+c) else 0)):=by
   unfold ket
   rw [if_pos (lenI_lt.2 hi)]
   simp only [kat hi,kat hiw,jag,e1,kaR (show i<9223372036854775807 by omega)]
   by_cases h:who[i]=m
   ·rw [if_pos (by simpa using h),kop hp.v (by have:=hp.len; omega) hc]
    simp only [jag]
    rw [if_pos h,kgR (by omega) (by omega)]
   ·rw [if_neg (by simpa using h),if_neg h]; simp
  rw [jau,kil hst,ih _ (i+1) _ e2 rfl (by omega) (by split <;> omega) (by push_cast; split <;> omega),e3]
  simp only [wt,Int.add_assoc]
theorem kzj {ps:List (List It)} {who:List Int} {m k c u:Int} (hs:allS ps) (hw:who.length=ps.length) (hn:ps.length<=1000) (hc:0<=c/\c<=15):kll ps who m (k,c,u)=some (wt ps who m (16*k+c)):=by
 have:=kzH (m:=m) (k:=k) (u:=u) hs hw hn hc ps who 0 0 rfl rfl (by omega) (by omega) (by omega)
 unfold kll
 have h2:iter (ket ps who m (k,c,u)) (0,0)=_:=kge this (by omega)
 rw [h2]
 simp
theorem ksJ {box:List It} {ps:List (List It)} {who:List Int} {m:Int} (hb:Stk box) (hs:allS ps) (hw:who.length=ps.length) (hn:ps.length<=1000):∃ b,kgM box ps who m=some b/\(b=true↔∀ q,wt ps who m q<=look box q):=by
 have key1:∀ (i:Nat) (hi:i<ps.length) (hiw:i<who.length),∃ z,iter (kcP box ps who m (i:Int) ps[i]) 0=some z/\((∃ q,z = .inl false/\look box q<wt ps who m q)\/(z = .inr ()/\(who[i]=m->∀ x∈ps[i],wt ps who m (key x)<=look box (key x)))):=by
  intro i hi hiw
  have hp:Stk ps[i]:=hs _ (jcf hi)
  have hlen:=hp.len
  refine Fl.iter_inv (F:=kcP box ps who m (i:Int) ps[i]) (I:=fun v=>∃ k:Nat,v=k/\k<=ps[i].length/\(who[i]=m->∀ j (hj:j<ps[i].length),j<k->wt ps who m (key ps[i][j])<=look box (key ps[i][j]))) (m:=fun v=>ps[i].length-v.toNat) (R:=fun z=>(∃ q,z = .inl false/\look box q<wt ps who m q)\/(z = .inr ()/\(who[i]=m->∀ x∈ps[i],wt ps who m (key x)<=look box (key x)))) ?_ 0 ⟨0,rfl,by omega,fun _ j _ h=>by omega⟩ (by omega)
  rintro _ ⟨k,rfl,hk,hI⟩
  by_cases hkl:k<ps[i].length
  ·have hx:=hp.v _ (jcf hkl)
   have hF:kcP box ps who m (i:Int) ps[i] (k:Int)=some (if who[i]=m/\look box (key ps[i][k])<wt ps who m (key ps[i][k]) then .inr (.inl false) else .inl ((k+1:Nat):Int)):=by
    unfold kcP
    rw [if_pos (lenI_lt.2 hkl)]
    simp only [kat hkl,kat hiw,jag,kaR (show k<9223372036854775807 by omega)]
    by_cases h:who[i]=m
    ·rw [if_pos (by simpa using h),kzj hs hw hn ⟨hx.2.2.1,hx.2.2.2⟩,kop hb.v (by have:=hb.len; omega) ⟨hx.2.2.1,hx.2.2.2⟩]
     simp only [jag,h,true_and]
     show (if decide (look box (key ps[i][k])<wt ps who m (key ps[i][k]))=true then _ else _)=_
     by_cases hc:look box (key ps[i][k])<wt ps who m (key ps[i][k]) <;> simp [hc]
    ·rw [if_neg (by simpa using h),if_neg (fun hh=>h hh.1)]
   by_cases hc:who[i]=m/\look box (key ps[i][k])<wt ps who m (key ps[i][k])
   ·rw [if_pos hc] at hF
    exact .inl ⟨_,hF,.inl ⟨_,rfl,hc.2⟩⟩
   ·rw [if_neg hc] at hF
    refine .inr ⟨_,hF,⟨k+1,rfl,by omega,fun he j hj hjk=>?_⟩,by simp; omega⟩
    rcases Nat.lt_succ_iff_lt_or_eq.1 hjk with h | rfl
    ·exact hI he j hj h
    ·exact Int.not_lt.1 fun h=>hc ⟨he,h⟩
  ·refine .inl ⟨.inr (),?_,.inr ⟨rfl,fun he x hx=>?_⟩⟩
   ·unfold kcP
    rw [if_neg (by rw [lenI_lt]; exact hkl)]
   ·obtain ⟨j,hj,rfl⟩:=jdh.1 hx
    exact hI he j hj (by omega)
 obtain ⟨z,e,hz⟩:=Fl.iter_inv (F:=kcf box ps who m) (I:=fun v=>∃ k:Nat,v=k/\k<=ps.length/\∀ j (hj:j<ps.length) (hjw:j<who.length),j<k->who[j]=m->∀ x∈ps[j],wt ps who m (key x)<=look box (key x)) (m:=fun v=>ps.length-v.toNat)
  (R:=fun z=>(∃ q,z = .inl false/\look box q<wt ps who m q)\/(z = .inr ()/\∀ j (hj:j<ps.length) (hjw:j<who.length),who[j]=m->∀ x∈ps[j],wt ps who m (key x)<=look box (key x))) (by
  rintro _ ⟨k,rfl,hk,hI⟩
  by_cases hkl:k<ps.length
  ·have hkw:k<who.length:=by omega
   obtain ⟨z,e,hz⟩:=key1 k hkl hkw
   rcases hz with ⟨q,rfl,hq⟩ | ⟨rfl,hz⟩
   ·have hF:kcf box ps who m (k:Int)=some (.inr (.inl false)):=by
     unfold kcf
     rw [if_pos (lenI_lt.2 hkl),kat hkl]
     simp only [jag]
     rw [e]; rfl
    exact .inl ⟨_,hF,.inl ⟨q,rfl,hq⟩⟩
   ·have hF:kcf box ps who m (k:Int)=some (.inl ((k+1:Nat):Int)):=by
     unfold kcf
     rw [if_pos (lenI_lt.2 hkl),kat hkl]
     simp only [jag]
     rw [e,kaR (by omega)]; rfl
    refine .inr ⟨_,hF,⟨k+1,rfl,by omega,fun j hj hjw hjk=>?_⟩,by simp; omega⟩
    rcases Nat.lt_succ_iff_lt_or_eq.1 hjk with h | rfl
    ·exact hI j hj hjw h
    ·exact hz
  ·refine .inl ⟨.inr (),by unfold kcf; rw [if_neg (by rw [lenI_lt]; exact hkl)],.inr ⟨rfl,fun j hj hjw=>hI j hj hjw (by omega)⟩⟩) 0 ⟨0,rfl,by omega,fun j _ _ h=>by omega⟩ (by omega)
 unfold kgM
 rw [e]
 rcases hz with ⟨q,rfl,hq⟩ | ⟨rfl,hz⟩
 ·exact ⟨false,rfl,by simp; exact ⟨q,hq⟩⟩
 ·refine ⟨true,rfl,fun _ q=>?_,fun _=>rfl⟩
  have hb0:=kaW hb q
  by_cases h:0<wt ps who m q
  ·obtain ⟨i,hi,hiw,e1,e2⟩:=kxy hs h
   obtain ⟨x,hx,rfl⟩:=kqo (show look ps[i] q≠0 by omega)
   exact hz i hi hiw e1 x hx
  ·omega
section
variable {vals:List Int} {ps:List (List It)} {box:List It}
def bt (vals:List Int) (S:Nat) (c:keZ):Bool:=decide (c.2.1<(mem vals S 0).2)||(decide ((mem vals S 0).2=c.2.1)&&ltL (mem vals S 0).1 c.1)
structure Is (vals:List Int) (ps:List (List It)) (box:List It) (T:Nat) (c:keZ):Prop where
 lt:T<2 ^ vals.length
 l:c.1=(mem vals T 0).1
 v:c.2.1=(mem vals T 0).2
 s:Stk c.2.2
 k:∀ q,look c.2.2 q=look box q-wl ps T q
def St (vals:List Int) (ps:List (List It)) (box:List It) (P:Nat->Prop) (c:keZ):Prop:=
 (c=([],-1,[])/\∀ S,¬ P S)\/∃ T,P T/\Is vals ps box T c/\∀ S,P S->bt vals S c=false
theorem kyP (a:List Int):ltL a a=false:=by
 unfold ltL
 have:=kjo (a:=a) (b:=a)
 rw [if_pos rfl]; simp; omega
theorem St.add {P P':Nat->Prop} {c:keZ} (hv:okV vals) (h:St vals ps box P c) {S:Nat} (hP:∀ T,P' T↔P T\/T=S) {y:List It} (hs:Stk y) (hk:∀ q,look y q=look box q-wl ps S q) (hlt:S<2 ^ vals.length) :
  St vals ps box P' (if bt vals S c=true then ((mem vals S 0).1,(mem vals S 0).2,y) else c):=by
 by_cases hb:bt vals S c=true
 ·rw [if_pos hb]
  refine .inr ⟨S,(hP S).2 (.inr rfl),⟨hlt,rfl,rfl,hs,hk⟩,fun S' hS'=>?_⟩
  rcases (hP S').1 hS' with hS' | rfl
  ·rcases h with ⟨_,h⟩ | ⟨T,hT,hI,h⟩
   ·exact absurd hS' (h S')
   ·have h2:=h S' hS'
    unfold bt at hb h2 ⊢
    simp only [jat,jac,jaj,jbn,jdz,decide_eq_false_iff_not] at hb h2 ⊢
    refine ⟨by omega,?_⟩
    by_cases e:(mem vals S' 0).2=(mem vals S 0).2
    ·right
     cases hl:ltL (mem vals S' 0).1 (mem vals S 0).1 with
     | false=>rfl
     | true=>
      exfalso
      rcases hb with hb | ⟨hb1,hb2⟩
      ·omega
      ·rcases h2.2 with h3 | h3
       ·exact h3 (by omega)
       ·rw [kyc hl hb2] at h3; cases h3
    ·exact .inl e
  ·unfold bt
   simp [kyP]
 ·rw [if_neg hb]
  rw [jbt] at hb
  rcases h with ⟨rfl,h⟩ | ⟨T,hT,hI,h⟩
  ·exfalso
   have:=ksd (T:=S) (i:=0) hv
   unfold bt at hb
   simp only [jbn,decide_eq_false_iff_not] at hb
   omega
  ·refine .inr ⟨T,(hP T).2 (.inl hT),hI,fun S' hS'=>?_⟩
   rcases (hP S').1 hS' with hS' | rfl
   ·exact h S' hS'
   ·exact hb
theorem St.same {P P':Nat->Prop} {c:keZ} (h:St vals ps box P c) (hP:∀ T,P' T↔P T):St vals ps box P' c:=by
 obtain rfl:P'=P:=funext fun T=>propext (hP T)
 exact h
theorem St.uniq {P:Nat->Prop} {c d:keZ} (hc:St vals ps box P c) (hd:St vals ps box P d) (h0:∃ S,P S):c=d/\c.1.length<=vals.length/\c.2.2.length<=30/\okV vals=okV vals:=by
 obtain ⟨S0,h0⟩:=h0
 rcases hc with ⟨_,h⟩ | ⟨T,hT,hI,h⟩
 ·exact absurd h0 (h S0)
 rcases hd with ⟨_,g⟩ | ⟨U,hU,hJ,g⟩
 ·exact absurd h0 (g S0)
 have h1:=h U hU
 have h2:=g T hT
 unfold bt at h1 h2
 rw [<-hJ.l,<-hJ.v] at h1
 rw [<-hI.l,<-hI.v] at h2
 simp only [jbn,jdz,decide_eq_false_iff_not] at h1 h2
 have hv:c.2.1=d.2.1:=by omega
 have hl:c.1=d.1:=by
  rcases h1.2 with h3 | h3
  ·omega
  ·rcases h2.2 with h4 | h4
   ·omega
   ·exact kzp h4 h3
 have hTU:T=U:=krW hI.lt hJ.lt (by rw [<-hI.l,<-hJ.l,hl])
 subst hTU
 have hs:=stkU hI.s hJ.s fun q=>by rw [hI.k,hJ.k]
 refine ⟨?_,?_,hI.s.len,rfl⟩
 ·obtain ⟨c1,c2,c3⟩:=c
  obtain ⟨d1,d2,d3⟩:=d
  simp only at hl hv hs
  rw [hl,hv,hs]
 ·have:∀ (vs:List Int) (T i:Nat),(mem vs T i).1.length<=vs.length:=by
   intro vs
   induction vs with
   | nil=>intro T i; simp [mem]
   | cons v vs ih=>
    intro T i
    have:=ih (T / 2) (i+1)
    simp only [mem,jau]
    split <;> (try simp only [jau]) <;> omega
  rw [hI.l]; exact this _ _ _
theorem pow20 {n T:Nat} (hn:n<=12) (h:T<2 ^ n):T<2 ^ 20:=jan h (Nat.pow_le_pow_right (by omega) (by omega))
theorem kvH {ls:List (Int×List It)} (hv:okV vals) (hl:vals.length<=12) {k S:Nat} {c:keZ} (hk:k<ls.length) (hS:ls[k].1=(S:Int)) (hlt:S<2 ^ vals.length) (hs:Stk ls[k].2) :
  kdt vals ls ((k:Int),c)=some (.inl (((k+1:Nat):Int),if bt vals S c=true then ((mem vals S 0).1,(mem vals S 0).2,ls[k].2) else c)):=by
 have hm:=ksd (T:=S) (i:=0) hv
 unfold kdt
 rw [if_pos (lenI_lt.2 hk),kat hk]
 simp only [jag,hS,kra (pow20 hl hlt) hv (by omega),kuk _ (by have:=hs.len; omega:ls[k].2.length<=1000),kmH,kyS (mem vals S 0).1 c.1 (by omega),ksu,or_lt (mem vals S 0).1 c.1 (by omega)]
 unfold bt
 by_cases h1:c.2.1<(mem vals S 0).2
 ·simp [h1]
 ·by_cases h2:(mem vals S 0).2=c.2.1
  ·cases h3:ltL (mem vals S 0).1 c.1 <;> simp [h1,h2,h3]
  ·simp [h1,h2]
theorem kvI (hv:okV vals) (hl:vals.length<=12) (hp:ps.length=vals.length) {ls:List (Int×List It)} (hn:ls.length<9223372036854775807) (h1:∀ y∈ls,∃ T:Nat,T<2 ^ ps.length/\y.1=(T:Int)/\(∀ q,wl ps T q<=look box q)/\Stk y.2/\∀ q,look y.2 q=look box q-wl ps T q) :
  ∃ c,iter (kdt vals ls) (0,[],(-1),[])=some (.inr c)/\St vals ps box (fun T=>∃ y∈ls,y.1=(T:Int)) c:=by
 obtain ⟨z,e,c,rfl,hc⟩:=Fl.iter_inv (F:=kdt vals ls) (I:=fun v=>∃ k:Nat,v.1=k/\k<=ls.length/\St vals ps box (fun T=>∃ y∈ls.take k,y.1=(T:Int)) v.2) (m:=fun v=>ls.length-v.1.toNat)
  (R:=fun z=>∃ c,z = .inr c/\St vals ps box (fun T=>∃ y∈ls,y.1=(T:Int)) c) (by
  rintro ⟨v,c⟩ ⟨k,hkv,hk,hI⟩
  simp only at hkv hI
  subst hkv
  by_cases hkl:k<ls.length
  ·obtain ⟨T,t1,t2,t3,t4,t5⟩:=h1 _ (jcf hkl)
   refine .inr ⟨_,kvH hv hl hkl t2 (by rw [<-hp]; exact t1) t4,⟨k+1,rfl,by omega,?_⟩,by simp; omega⟩
   refine hI.add hv (fun U=>?_) t4 t5 (by rw [<-hp]; exact t1)
   rw [jcq hkl]
   constructor
   ·rintro ⟨y,hy,e⟩
    rcases jax.1 hy with hy | hy
    ·exact .inl ⟨y,hy,e⟩
    ·simp at hy; subst hy; right; rw [t2] at e; omega
   ·rintro (⟨y,hy,e⟩ | rfl)
    ·exact ⟨y,List.mem_append_left _ hy,e⟩
    ·exact ⟨_,List.mem_append_right _ (by simp),t2⟩
  ·obtain rfl:k=ls.length:=by omega
   refine .inl ⟨_,by unfold kdt; rw [if_neg (by rw [lenI_lt]; exact hkl)],c,rfl,?_⟩
   rwa [List.take_length] at hI) (0,[],(-1),[]) ⟨0,rfl,by omega,.inl ⟨rfl,fun S ⟨y,hy,_⟩=>by simp at hy⟩⟩ (by simp; omega)
 exact ⟨c,e,hc⟩
end
def wh:Nat->Nat->Nat->List Int
 | 0,_,_=>[]
 | n+1,M,S=>((M % 2+2*(S % 2):Nat):Int)::wh n (M / 2) (S / 2)
theorem klE:∀ n M S,(wh n M S).length=n
 | 0,_,_=>rfl
 | n+1,M,S=>by simp [wh,klE]
def vw:List Int->List Int->Int
 | v::vs,w::ws=>(if w≠0 then v else 0)+vw vs ws
 | _,_=>0
theorem kxr:∀ {vs ws:List Int},okV vs->0<=vw vs ws/\vw vs ws<=1000*vs.length
 | [],_,_=>by simp [vw]
 | v::vs,[],_=>by simp [vw]; omega
 | v::vs,w::ws,h=>by
  have h1:=kxr (vs:=vs) (ws:=ws) fun x hx=>h x (by simp [hx])
  have h2:=h v (by simp)
  simp only [vw,jau]
  split <;> omega
theorem and2 {M S:Nat} (h:M &&& S=0):¬ (M % 2=1/\S % 2=1)/\M / 2 &&& S / 2=0:=by
 refine ⟨fun hh=>?_,by rw [<-Nat.and_div_two,h]⟩
 have:=Nat.and_mod_two_eq_one.2 hh
 rw [h] at this; simp at this
theorem wt_wh:∀ {ps:List (List It)} {M S:Nat} {q:Int},M &&& S=0->wt ps (wh ps.length M S) 1 q=wl ps M q/\wt ps (wh ps.length M S) 2 q=wl ps S q
 | [],_,_,_,_=>⟨rfl,rfl⟩
 | p::ps,M,S,q,h=>by
  obtain ⟨h1,h2⟩:=and2 h
  obtain ⟨i1,i2⟩:=wt_wh (ps:=ps) (q:=q) h2
  simp only [jau,wh,wt,wl,i1,i2]
  rcases jcj M with e | e <;> rcases jcj S with f | f
  ·simp [e,f]
  ·simp [e,f]
  ·simp [e,f]
  ·exact absurd ⟨e,f⟩ h1
theorem vw_wh:∀ {vs:List Int} {M S i:Nat},M &&& S=0->(mem vs (M ||| S) i).2=vw vs (wh vs.length M S)
 | [],_,_,_,_=>rfl
 | v::vs,M,S,i,h=>by
  obtain ⟨h1,h2⟩:=and2 h
  have ih:=vw_wh (vs:=vs) (i:=i+1) h2
  have hm:(M ||| S) % 2=1↔M % 2=1\/S % 2=1:=Nat.or_mod_two_eq_one
  simp only [jau,wh,vw,mem,Nat.or_div_two,ih]
  rcases jcj M with e | e <;> rcases jcj S with f | f
  ·rw [if_neg (by rw [hm]; omega)]; simp [e,f,ih]
  ·rw [if_pos (by rw [hm]; omega)]; simp [e,f,ih]
  ·rw [if_pos (by rw [hm]; omega)]; simp [e,f,ih]
  ·exact absurd ⟨e,f⟩ h1
def tri (w:List Int):Prop:=∀ x∈w,x=0\/x=1\/x=2
theorem knu:∀ {n M S:Nat},M &&& S=0->tri (wh n M S)
 | 0,_,_,_=>fun x hx=>by simp [wh] at hx
 | n+1,M,S,h=>fun x hx=>by
  obtain ⟨h1,h2⟩:=and2 h
  rcases jaw.1 hx with rfl | hx
  ·omega
  ·exact knu h2 x hx
def mk (m:Int):List Int->Nat
 | []=>0
 | x::w=>(if x=m then 1 else 0)+2*mk m w
theorem mk_lt:∀ {m:Int} {w:List Int},mk m w<2 ^ w.length
 | _,[]=>by simp [mk]
 | m,x::w=>by
  have:=mk_lt (m:=m) (w:=w)
  simp only [mk,jau,jeb]
  split <;> omega
theorem kqC:∀ {w:List Int},mk 1 w &&& mk 2 w=0
 | []=>rfl
 | x::w=>by
  have ih:=kqC (w:=w)
  refine Nat.eq_of_testBit_eq fun i=>?_
  rw [Nat.zero_testBit,Nat.testBit_and]
  cases i with
  | zero=>
   simp only [Nat.testBit_zero,mk]
   by_cases h:x=1
   ·have:¬ x=2:=by omega
    simp [h]
   ·simp [h]
  | succ i=>
   have e1:(mk 1 (x::w)) / 2=mk 1 w:=by simp only [mk]; split <;> omega
   have e2:(mk 2 (x::w)) / 2=mk 2 w:=by simp only [mk]; split <;> omega
   rw [Nat.testBit_succ,Nat.testBit_succ,e1,e2,<-Nat.testBit_and,ih,Nat.zero_testBit]
theorem wh_mk:∀ {w:List Int},tri w->wh w.length (mk 1 w) (mk 2 w)=w
 | [],_=>rfl
 | x::w,h=>by
  have e1:(mk 1 (x::w)) / 2=mk 1 w:=by simp only [mk]; split <;> omega
  have e2:(mk 2 (x::w)) / 2=mk 2 w:=by simp only [mk]; split <;> omega
  have ih:=wh_mk (w:=w) fun y hy=>h y (jbf _ hy)
  simp only [jau,wh,e1,e2,ih]
  congr 1
  simp only [mk]
  rcases h x (by simp) with rfl | rfl | rfl <;> simp <;> omega
section
variable {vals:List Int}
def bw (vals w:List Int) (s:Int×List Int):Bool:=decide (s.1<vw vals w)||(decide (vw vals w=s.1)&&decide (lexC w s.2<0))
def Sw (vals:List Int) (P:List Int->Prop) (s:Int×List Int):Prop:=
 (s=(-1,[])/\∀ w,¬ P w)\/(P s.2/\s.1=vw vals s.2/\∀ w,P w->bw vals w s=false)
theorem Sw.add {P P':List Int->Prop} {s:Int×List Int} (hv:okV vals) (h:Sw vals P s) {w:List Int} (hP:∀ u,P' u↔P u\/u=w):Sw vals P' (if bw vals w s=true then (vw vals w,w) else s):=by
 by_cases hb:bw vals w s=true
 ·rw [if_pos hb]
  refine .inr ⟨(hP w).2 (.inr rfl),rfl,fun u hu=>?_⟩
  rcases (hP u).1 hu with hu | rfl
  ·rcases h with ⟨_,h⟩ | ⟨_,_,h⟩
   ·exact absurd hu (h u)
   ·have h2:=h u hu
    unfold bw at hb h2 ⊢
    simp only [jat,jac,jaj,jbn,jdz,decide_eq_false_iff_not] at hb h2 ⊢
    refine ⟨by omega,?_⟩
    by_cases e:vw vals u=vw vals w
    ·right
     intro hl
     rcases hb with hb | ⟨hb1,hb2⟩
     ·omega
     ·rcases h2.2 with h3 | h3
      ·exact h3 (by omega)
      ·exact h3 (kmy hl hb2)
    ·exact .inl e
  ·unfold bw
   have:=kjo (a:=u) (b:=u)
   simp; omega
 ·rw [if_neg hb]
  rw [jbt] at hb
  rcases h with ⟨rfl,h⟩ | ⟨h1,h2,h⟩
  ·exfalso
   have:=kxr (ws:=w) hv
   unfold bw at hb
   simp only [jbn,decide_eq_false_iff_not] at hb
   omega
  ·refine .inr ⟨(hP _).2 (.inl h1),h2,fun u hu=>?_⟩
   rcases (hP u).1 hu with hu | rfl
   ·exact h u hu
   ·exact hb
theorem Sw.same {P P':List Int->Prop} {s:Int×List Int} (h:Sw vals P s) (hP:∀ T,P' T↔P T):Sw vals P' s:=by
 obtain rfl:P'=P:=funext fun T=>propext (hP T)
 exact h
theorem Sw.uniq {P:List Int->Prop} {c d:Int×List Int} (hc:Sw vals P c) (hd:Sw vals P d) (h0:∃ S,P S):c=d/\P c.2:=by
 obtain ⟨S0,h0⟩:=h0
 rcases hc with ⟨_,h⟩ | ⟨hT,hI,h⟩
 ·exact absurd h0 (h S0)
 rcases hd with ⟨_,g⟩ | ⟨hU,hJ,g⟩
 ·exact absurd h0 (g S0)
 have h1:=h _ hU
 have h2:=g _ hT
 unfold bw at h1 h2
 rw [<-hJ] at h1
 rw [<-hI] at h2
 simp only [jbn,jdz,decide_eq_false_iff_not] at h1 h2
 have hv:c.1=d.1:=by omega
 have ha:=kjo (a:=c.2) (b:=d.2)
 have hl:c.2=d.2:=by
  rcases h1.2 with h3 | h3
  ·omega
  ·rcases h2.2 with h4 | h4
   ·omega
   ·exact krG (by omega)
 exact ⟨Prod.ext hv hl,hT⟩
end
section
variable {vals:List Int} {ps:List (List It)}
theorem kyr {y:Int×List It} {M S:Nat} (hy:y.1=(M:Int)) (hM:M<2 ^ 20) (hS:S<2 ^ 20) {w0:List Int} (hw0:w0.length<=12):∀ (r i:Nat) (pre:List Int),i+r=w0.length->pre.length=i->
  itN (kdh y (S:Int) w0) (r+1) ((i:Int),pre++List.replicate r 0)=some (pre++wh r (M / 2 ^ i) (S / 2 ^ i)):=by
 intro r
 induction r with
 | zero=>
  intro i pre hlen hpl
  refine kdN ?_
  unfold kdh
  rw [if_neg (by rw [lenI_lt]; omega)]
  simp [wh]
 | succ r ih=>
  intro i pre hlen hpl
  have hMi:M / 2 ^ i<2 ^ 20:=Nat.lt_of_le_of_lt (Nat.div_le_self _ _) hM
  have hSi:S / 2 ^ i<2 ^ 20:=Nat.lt_of_le_of_lt (Nat.div_le_self _ _) hS
  have hval:IntKind.wrap .u8 (w64 (((M / 2 ^ i % 2:Nat):Int)+w64 (2*((S / 2 ^ i % 2:Nat):Int))))=((M / 2 ^ i % 2+2*(S / 2 ^ i % 2):Nat):Int):=by
   rcases jcj (M / 2 ^ i) with e | e <;> rcases jcj (S / 2 ^ i) with f | f <;> rw [e,f] <;> decide
  have hst:kdh y (S:Int) w0 ((i:Int),pre++List.replicate (r+1) 0)=some (.inl (((i+1:Nat):Int),(pre++[((M / 2 ^ i % 2+2*(S / 2 ^ i % 2):Nat):Int)])++List.replicate r 0)):=by
   unfold kdh
   rw [if_pos (lenI_lt.2 (by omega))]
   have hw:i<(pre++List.replicate (r+1) (0:Int)).length:=by simp; omega
   simp only [hy,kwd (show i<64 by omega),jag,kat hw,kaR (show i<9223372036854775807 by omega),and1 hMi,and1 hSi,hval]
   rw [List.replicate_succ,kym hpl]; simp
  rw [kil hst,ih (i+1) _ (by omega) (by simp; omega),koD,koD]
  simp [wh]
theorem kxq {y:Int×List It} {M S:Nat} (hy:y.1=(M:Int)) (hM:M<2 ^ 20) (hS:S<2 ^ 20) {n:Nat} (hn:n<=12):iter (kdh y (S:Int) (List.replicate n 0)) (0,List.replicate n 0)=some (wh n M S):=by
 have:=kyr hy hM hS (w0:=List.replicate n 0) (by simpa using hn) n 0 [] (by simp) rfl
 have h2:iter (kdh y (S:Int) (List.replicate n 0)) (0,List.replicate n 0)=_:=kge this (by omega)
 rw [h2]; simp
theorem kwQ (hv:okV vals) (hl:vals.length<=12) (hp:ps.length=vals.length) {os:List Int} {y:Int×List It} {M S j:Nat} (hos:os.length<=1048576) (hj:j<os.length) (hS:os[j]=(S:Int)) (hy:y.1=(M:Int)) (hM:M<2 ^ 20) (hS2:S<2 ^ 20) (s:Int×List Int) :
  kej ps vals os y ((j:Int),s)=some (.inl (((j+1:Nat):Int),if M &&& S=0 then (if bw vals (wh vals.length M S) s=true then (vw vals (wh vals.length M S),wh vals.length M S) else s) else s)):=by
 have hMS:M ||| S<2 ^ 20:=Nat.or_lt_two_pow hM hS2
 unfold kej
 rw [if_pos (lenI_lt.2 hj)]
 simp only [kat hj,hS,hy,jag,kaR (show j<9223372036854775807 by omega)]
 rw [kvX (by omega) (by omega),kxL (by omega) (by omega),kah,show gmk (ps.length:Int) (0:Int)=some (List.replicate vals.length 0) by unfold gmk; rw [if_pos (by omega),hp]; simp]
 simp only [jag,kxq hy hM hS2 hl,kra hMS hv (by omega),kza (wh vals.length M S) s.2 (by rw [klE]; omega)]
 by_cases h:M &&& S=0
 ·rw [if_neg (by rw [Nat.and_comm,h]; decide),if_pos h,vw_wh h]
  unfold bw
  by_cases h1:s.1<vw vals (wh vals.length M S)
  ·simp [h1]
  ·by_cases h2:vw vals (wh vals.length M S)=s.1
   ·by_cases h3:lexC (wh vals.length M S) s.2<0 <;> simp [h1,h2,h3]
   ·simp [h1,h2]
 ·rw [if_pos (by rw [Nat.and_comm]; simp; omega),if_neg h]
theorem kyN (hv:okV vals) (hl:vals.length<=12) (hp:ps.length=vals.length) {os:List Int} {y:Int×List It} {M:Nat} (hos:os.length<=1048576) (hos2:∀ x∈os,∃ S:Nat,S<2 ^ 20/\x=(S:Int)) (hy:y.1=(M:Int)) (hM:M<2 ^ 20) {P:List Int->Prop} {s:Int×List Int} (hs:Sw vals P s) :
  ∃ z,iter (kej ps vals os y) (0,s)=some z/\∃ s',z=(s'.2,s'.1)/\Sw vals (fun w=>P w\/∃ S:Nat,(S:Int)∈os/\M &&& S=0/\w=wh vals.length M S) s':=by
 refine Fl.iter_inv (F:=kej ps vals os y) (I:=fun v=>∃ k:Nat,v.1=k/\k<=os.length/\Sw vals (fun w=>P w\/∃ S:Nat,(S:Int)∈os.take k/\M &&& S=0/\w=wh vals.length M S) v.2) (m:=fun v=>os.length-v.1.toNat)
  (R:=fun z=>∃ s',z=(s'.2,s'.1)/\Sw vals (fun w=>P w\/∃ S:Nat,(S:Int)∈os/\M &&& S=0/\w=wh vals.length M S) s') ?_ (0,s) ⟨0,rfl,by omega,hs.same fun w=>by simp⟩ (by simp; omega)
 rintro ⟨v,s⟩ ⟨k,hkv,hk,hI⟩
 simp only at hkv hI
 subst hkv
 by_cases hkl:k<os.length
 ·obtain ⟨S,hS,hSe⟩:=hos2 _ (jcf hkl)
  have hmem:∀ U:Nat,(U:Int)∈os.take (k+1)↔(U:Int)∈os.take k\/U=S:=fun U=>by
   rw [jcq hkl,jax,List.mem_singleton,hSe]; exact or_congr Iff.rfl Int.natCast_inj
  refine .inr ⟨_,kwQ hv hl hp hos hkl hSe hy hM hS s,⟨k+1,rfl,by omega,?_⟩,by simp; omega⟩
  by_cases h:M &&& S=0
  ·rw [if_pos h]
   refine hI.add hv fun u=>⟨?_,?_⟩
   ·rintro (hu | ⟨U,h1,h2,h3⟩)
    ·exact .inl (.inl hu)
    ·rcases (hmem U).1 h1 with h4 | rfl
     ·exact .inl (.inr ⟨U,h4,h2,h3⟩)
     ·exact .inr h3
   ·rintro ((hu | ⟨U,h1,h2,h3⟩) | rfl)
    ·exact .inl hu
    ·exact .inr ⟨U,(hmem U).2 (.inl h1),h2,h3⟩
    ·exact .inr ⟨S,(hmem S).2 (.inr rfl),h,rfl⟩
  ·rw [if_neg h]
   refine hI.same fun u=>⟨?_,?_⟩
   ·rintro (hu | ⟨U,h1,h2,h3⟩)
    ·exact .inl hu
    ·rcases (hmem U).1 h1 with h4 | rfl
     ·exact .inr ⟨U,h4,h2,h3⟩
     ·exact absurd h2 h
   ·rintro (hu | ⟨U,h1,h2,h3⟩)
    ·exact .inl hu
    ·exact .inr ⟨U,(hmem U).2 (.inl h1),h2,h3⟩
 ·obtain rfl:k=os.length:=by omega
  refine .inl ⟨_,by unfold kej; rw [if_neg (by rw [lenI_lt]; exact hkl)],s,rfl,?_⟩
  rwa [List.take_length] at hI
theorem kwC (hv:okV vals) (hl:vals.length<=12) (hp:ps.length=vals.length) {os:List Int} {ls:List (Int×List It)} (hos:os.length<=1048576) (hos2:∀ x∈os,∃ S:Nat,S<2 ^ 20/\x=(S:Int)) (hls:ls.length<=1048576) (hls2:∀ y∈ls,∃ M:Nat,M<2 ^ 20/\y.1=(M:Int)) :
  ∃ z,iter (kfK ps vals os ls) (0,[],(-1))=some z/\∃ s,z = .inr (s.2,s.1)/\Sw vals (fun w=>∃ y∈ls,∃ M S:Nat,y.1=(M:Int)/\(S:Int)∈os/\M &&& S=0/\w=wh vals.length M S) s:=by
 refine Fl.iter_inv (F:=kfK ps vals os ls) (I:=fun v=>∃ k:Nat,v.1=k/\k<=ls.length/\Sw vals (fun w=>∃ y∈ls.take k,∃ M S:Nat,y.1=(M:Int)/\(S:Int)∈os/\M &&& S=0/\w=wh vals.length M S) (v.2.2,v.2.1)) (m:=fun v=>ls.length-v.1.toNat)
  (R:=fun z=>∃ s,z = .inr (s.2,s.1)/\Sw vals (fun w=>∃ y∈ls,∃ M S:Nat,y.1=(M:Int)/\(S:Int)∈os/\M &&& S=0/\w=wh vals.length M S) s) ?_ (0,[],(-1)) ⟨0,rfl,by omega,.inl ⟨rfl,fun w ⟨y,hy,_⟩=>by simp at hy⟩⟩ (by simp; omega)
 rintro ⟨v,b,s⟩ ⟨k,hkv,hk,hI⟩
 simp only at hkv hI
 subst hkv
 by_cases hkl:k<ls.length
 ·obtain ⟨M,hM,hMe⟩:=hls2 _ (jcf hkl)
  obtain ⟨z,e,s',rfl,hs'⟩:=kyN hv hl hp hos hos2 hMe hM hI
  refine .inr ⟨(((k+1:Nat):Int),s'.2,s'.1),?_,⟨k+1,rfl,by omega,?_⟩,by simp; omega⟩
  ·unfold kfK
   rw [if_pos (lenI_lt.2 hkl),kat hkl]
   simp only [jag]
   rw [e]; rfl
  ·refine hs'.same fun w=>⟨?_,?_⟩
   ·rintro ⟨y,hy,M',S,h1,h2,h3,h4⟩
    rw [jcq hkl] at hy
    rcases jax.1 hy with hy | hy
    ·exact .inl ⟨y,hy,M',S,h1,h2,h3,h4⟩
    ·simp at hy; subst hy
     have:M'=M:=by rw [hMe] at h1; omega
     subst this
     exact .inr ⟨S,h2,h3,h4⟩
   ·rw [jcq hkl]
    rintro (⟨y,hy,h⟩ | ⟨S,h1,h2,h3⟩)
    ·exact ⟨y,List.mem_append_left _ hy,h⟩
    ·exact ⟨_,List.mem_append_right _ (by simp),M,S,hMe,h1,h2,h3⟩
 ·obtain rfl:k=ls.length:=by omega
  refine .inl ⟨.inr (b,s),by unfold kfK; rw [if_neg (by rw [lenI_lt]; exact hkl)],(s,b),rfl,?_⟩
  rwa [List.take_length] at hI
theorem kxo {ls:List (Int×List It)} (hls:ls.length<=1048576):iter (kfX ls) (0,[])=some (.inr (ls.map (·.1))):=by
 obtain ⟨z,e,rfl⟩:=Fl.iter_inv (F:=kfX ls) (I:=fun v=>∃ k:Nat,v.1=k/\k<=ls.length/\v.2=(ls.take k).map (·.1)) (m:=fun v=>ls.length-v.1.toNat) (R:=fun z=>z = .inr (ls.map (·.1))) (by
  rintro ⟨v,o⟩ ⟨k,hkv,hk,hI⟩
  simp only at hkv hI
  subst hkv hI
  by_cases hkl:k<ls.length
  ·refine .inr ⟨(((k+1:Nat):Int),(ls.take (k+1)).map (·.1)),?_,⟨k+1,rfl,by omega,rfl⟩,by simp; omega⟩
   unfold kfX
   rw [if_pos (lenI_lt.2 hkl),kat hkl]
   simp only [jag]
   rw [show (ls.take (k+1)).map (·.1)=(ls.take k).map (·.1)++[ls[k].1] by rw [jcq hkl,jcv]; rfl,keE (by simp; omega)]; rfl
  ·obtain rfl:k=ls.length:=by omega
   refine .inl ⟨_,by unfold kfX; rw [if_neg (by rw [lenI_lt]; exact hkl)],?_⟩
   rw [List.take_length]) (0,[]) ⟨0,rfl,by omega,by simp⟩ (by simp; omega)
 exact e
end
theorem ktE (l:List Int) (hl:l.length<=1000) (p:Int->Bool):kbc l (fun x=>some (p x))=some (l.any p):=by
 have:∃ v,kaU l (fun x=>some (p x))=some v/\decide (0<=v)=l.any p:=by
  unfold kaU
  rw [kgc (F:=kbb l fun x=>some (p x)) l (by omega) (fun i x=>if p x then some (i:Int) else none) (fun i hi=>by
   unfold kbb
   rw [if_pos (by rw [kah]; simpa using hi),kat hi,kaR (by omega)]
   simp only [jag]
   by_cases h:p l[i]=true <;> simp [h,nextL]) (by unfold kbb; rw [if_neg (by simp [kah])])]
  have key:∀ (l:List Int) (k:Nat),(∃ i:Nat,(l.zipIdx k).findSome? (fun x=>if p x.1 then some ((x.2:Nat):Int) else none)=some (i:Int))/\l.any p=true\/(l.zipIdx k).findSome? (fun x=>if p x.1 then some ((x.2:Nat):Int) else none)=none/\l.any p=false:=by
   intro l
   induction l with
   | nil=>intro k; exact .inr ⟨rfl,rfl⟩
   | cons x l ih=>
    intro k
    simp only [jbs,jdv,List.any_cons]
    by_cases h:p x=true
    ·left; simp [h]; exact ⟨k,rfl⟩
    ·rw [jbt] at h
     simp only [h,jal,if_false,jdl]
     exact ih (k+1)
  rcases key l 0 with ⟨⟨i,e⟩,h⟩ | ⟨e,h⟩
  ·rw [e,h]; exact ⟨_,rfl,by simp [endL]⟩
  ·rw [e,h]; exact ⟨_,rfl,by simp [endL]⟩
 obtain ⟨v,h1,h2⟩:=this
 unfold kbc
 rw [h1]; simp only [jag,h2]
def badV (v:Int):Bool:=!(decide (0<=v)&&decide (v<=1000))
def pe (ps:List (List It)) (vals:List Int):Int:=
 if ps.all stk=true then (if 8<ps.length then 4 else if vals.length≠ps.length then 2 else if vals.any badV=true then 2 else 0) else 8
section
variable {ps:List (List It)} {vals:List Int}
theorem kon (hn:ps.length<=12) (hl:∀ l∈ps,l.length<=40) (hv:vals.length<=20):kgN ps vals=some (pe ps vals):=by
 unfold kgN pe
 rw [kgF ps (by omega) (fun l h=>by have:=hl l h; omega)]
 have e:(fun u0:Int=>(kgo u0).bind fun u1=>some u1)=fun u=>some (badV u):=by
  funext u
  unfold kgo badV
  simp
 rw [e]
 simp only [jag,ktE vals (by omega)]
 by_cases h1:ps.all stk=true
 ·rw [if_pos h1,if_pos h1]
  by_cases h2:8<ps.length
  ·rw [if_neg (by decide),if_pos (decide_eq_true (by rw [kah]; omega)),if_pos h2]
  ·rw [if_neg (by decide),if_neg (by rw [jaj,kah]; omega),if_neg h2]
   by_cases h3:vals.length=ps.length
   ·rw [if_neg (by rw [kah,kah,h3]; simp),if_neg (show ¬ vals.length≠ps.length by simp [h3])]
    cases vals.any badV <;> rfl
   ·rw [if_pos (by rw [kah,kah,bne_iff_ne]; omega),if_pos h3]
 ·rw [if_neg h1,if_neg h1]; rfl
theorem pe_ok (h:pe ps vals=0):ps.all stk=true/\ps.length<=8/\ps.length=vals.length/\okV vals:=by
 unfold pe at h
 split at h
 ·rename_i h1
  split at h
  ·cases h
  ·rename_i h2
   split at h
   ·cases h
   ·rename_i h3
    split at h
    ·cases h
    ·rename_i h4
     refine ⟨h1,by omega,by omega,fun v hv=>?_⟩
     rw [jbt] at h4
     have:=List.any_eq_false.1 h4 v hv
     unfold badV at this
     simpa using this
 ·cases h
theorem kiM:∀ {ps:List (List It)} {q:Int},wl ps 0 q=0
 | [],_=>rfl
 | p::ps,q=>by simp only [wl,Nat.zero_mod,Nat.zero_div,kiM]; simp
end
section
variable {ps:List (List It)} {vals:List Int}
theorem koy {box:List It} (hb:box.length<=40) (cb:∀ x∈box,0<=x.2.1) (hn:ps.length<=12) (hl:∀ l∈ps,l.length<=40) (cp:∀ l∈ps,∀ x∈l,0<=x.2.1) (hv:vals.length<=20) :
  (∃ c,Stk box/\allS ps/\okV vals/\ps.length=vals.length/\kdF box ps vals=some (c,0)/\St vals ps box (fun T=>T<2 ^ ps.length/\∀ q,wl ps T q<=look box q) c)\/(∃ e,e≠0/\kdF box ps vals=some (([],0,[]),e)/\¬ (Stk box/\pe ps vals=0)):=by
 unfold kdF
 rw [kgF [box] (by simp) (fun l h=>by simp at h; subst h; omega),kon hn hl hv]
 by_cases hs:stk box=true
 ·rw [if_pos (by simp [hs])]
  simp only [jag]
  rw [if_pos (by rfl)]
  by_cases he:pe ps vals=0
  ·left
   obtain ⟨h1,h2,h3,hok⟩:=pe_ok he
   have hst:allS ps:=fun p hp=>klI (jam.1 h1 p hp) (cp p hp)
   have hbx:=klI hs cb
   obtain ⟨ls,e1,l0,l1,l2⟩:=kmx hn hst hbx
   have hpow:(2:Nat) ^ ps.length<=2 ^ 20:=Nat.pow_le_pow_right (by omega) (by omega)
   obtain ⟨c,c1,c2⟩:=kvI hok (by omega) h3 (by omega) l1
   refine ⟨c,hbx,hst,hok,h3,?_,c2.same fun T=>?_⟩
   ·rw [he]
    unfold keh
    simp only [jag]
    rw [if_neg (by decide),e1]
    simp only [jag]
    rw [c1]; rfl
   ·constructor
    ·rintro ⟨t1,t2⟩
     exact l2 T t1 t2
    ·rintro ⟨y,hy,e⟩
     obtain ⟨U,u1,u2,u3,_⟩:=l1 y hy
     obtain rfl:U=T:=by rw [u2] at e; omega
     exact ⟨u1,u3⟩
  ·right
   refine ⟨pe ps vals,he,?_,fun h=>he h.2⟩
   simp only [jag]; rw [if_pos (by simpa using he)]
 ·refine .inr ⟨8,by decide,?_,fun h=>hs (stkB h.1)⟩
  rw [jbt] at hs
  simp [hs]
end
def fs (vals:List Int) (s:Int×List Int) (k:Int):Int×List Int:=(s.1+vals.getD k.toNat 0,s.2.set k.toNat 1)
theorem kyq (ps:List (List It)) (vals:List Int):∃ b,kiZ ps vals=some b/\(b=true->ps.length<=6/\vals.length<=20/\∀ l∈ps,l.length<=40):=by
 unfold kiZ
 by_cases h:ps.length<=6
 ·rw [if_pos (decide_eq_true (by rw [kah]; omega))]
  obtain ⟨u,hu,hu2⟩:=kxS ps (by omega)
  rw [hu]
  cases u with
  | true=>exact ⟨false,rfl,fun h=>by cases h⟩
  | false=>
   refine ⟨_,rfl,fun hv=>⟨h,?_,hu2 rfl⟩⟩
   rw [jaj,kah] at hv; omega
 ·rw [if_neg (by rw [jaj,kah]; omega)]
  exact ⟨false,rfl,fun h=>by cases h⟩
section
variable {ps:List (List It)} {vals:List Int}
def Cand (ps:List (List It)) (a b:List It) (w:List Int):Prop:=w.length=ps.length/\tri w/\(∀ q,wt ps w 1 q<=look a q)/\∀ q,wt ps w 2 q<=look b q
theorem kyB {a b:List It} (ha:a.length<=40) (ca:∀ x∈a,0<=x.2.1) (hb:b.length<=40) (cb:∀ x∈b,0<=x.2.1) (hn:ps.length<=12) (hl:∀ l∈ps,l.length<=40) (cp:∀ l∈ps,∀ x∈l,0<=x.2.1) (hv:vals.length<=20) :
  (∃ s,Stk a/\Stk b/\pe ps vals=0/\allS ps/\okV vals/\ps.length=vals.length/\kjs a b ps vals=some (s.2,s.1,0)/\Sw vals (Cand ps a b) s)\/∃ e,e≠0/\kjs a b ps vals=some ([],0,e):=by
 unfold kjs
 rw [kgF [a,b] (by simp) (fun l h=>by simp at h; rcases h with rfl | rfl <;> omega),kon hn hl hv]
 by_cases hs:stk a=true/\stk b=true
 ·obtain ⟨hsa,hsb⟩:=hs
  rw [if_pos (by simp [hsa,hsb])]
  simp only [jag]
  rw [if_pos (by rfl)]
  by_cases he:pe ps vals=0
  ·left
   obtain ⟨h1,h2,h3,hok⟩:=pe_ok he
   have hst:allS ps:=fun p hp=>klI (jam.1 h1 p hp) (cp p hp)
   have hA:=klI hsa ca
   have hB:=klI hsb cb
   obtain ⟨lb,e1,b0,b1,b2⟩:=kmx hn hst hB
   obtain ⟨la,e2,a0,a1,a2⟩:=kmx hn hst hA
   have hpow:(2:Nat) ^ ps.length<=2 ^ 12:=Nat.pow_le_pow_right (by omega) (by omega)
   obtain ⟨z,s1,s,rfl,s2⟩:=kwC (os:=lb.map (·.1)) (ls:=la) hok (by omega) h3 (by simp; omega) (fun x hx=>by
    obtain ⟨y,hy,rfl⟩:=jba.1 hx
    obtain ⟨T,t1,t2,_⟩:=b1 y hy
    exact ⟨T,by omega,t2⟩) (by omega) (fun y hy=>by
    obtain ⟨T,t1,t2,_⟩:=a1 y hy
    exact ⟨T,by omega,t2⟩)
   have hPP:∀ w,(∃ y∈la,∃ M S:Nat,y.1=(M:Int)/\(S:Int)∈lb.map (·.1)/\M &&& S=0/\w=wh vals.length M S)↔Cand ps a b w:=fun w=>by
    constructor
    ·rintro ⟨y,hy,M,S,m1,m2,m3,rfl⟩
     obtain ⟨M',t1,t2,t3,_⟩:=a1 y hy
     obtain rfl:M'=M:=by rw [t2] at m1; omega
     obtain ⟨x,hx,ex⟩:=jba.1 m2
     obtain ⟨S',u1,u2,u3,_⟩:=b1 x hx
     obtain rfl:S'=S:=by rw [u2] at ex; omega
     rw [<-h3]
     refine ⟨klE _ _ _,knu m3,fun q=>?_,fun q=>?_⟩
     ·rw [(wt_wh m3).1]; exact t3 q
     ·rw [(wt_wh m3).2]; exact u3 q
    ·rintro ⟨w1,w2,w3,w4⟩
     have hw:=wh_mk w2
     rw [w1] at hw
     have hlt1:=mk_lt (m:=1) (w:=w)
     have hlt2:=mk_lt (m:=2) (w:=w)
     rw [w1] at hlt1 hlt2
     have hq:=fun q=>wt_wh (ps:=ps) (q:=q) (kqC (w:=w))
     rw [hw] at hq
     obtain ⟨y,hy,ey⟩:=a2 (mk 1 w) hlt1 fun q=>by rw [<-(hq q).1]; exact w3 q
     obtain ⟨x,hx,ex⟩:=b2 (mk 2 w) hlt2 fun q=>by rw [<-(hq q).2]; exact w4 q
     exact ⟨y,hy,mk 1 w,mk 2 w,ey,jba.2 ⟨x,hx,ex⟩,kqC,by rw [<-h3]; exact hw.symm⟩
   refine ⟨s,hA,hB,he,hst,hok,h3,?_,s2.same fun w=>(hPP w).symm⟩
   rw [he]
   unfold keh
   simp only [jag]
   rw [if_neg (by decide),e1]
   simp only [jag]
   rw [kxo (by omega)]
   simp only [jag]
   rw [e2]
   simp only [jag]
   rw [s1]; rfl
  ·right
   refine ⟨pe ps vals,he,?_⟩
   simp only [jag]; rw [if_pos (by simpa using he)]
 ·right
  refine ⟨8,by decide,?_⟩
  rw [if_neg (by simpa using hs)]; rfl
end
theorem wl_or:∀ {ps:List (List It)} {M S:Nat} {q:Int},M &&& S=0->wl ps (M ||| S) q=wl ps M q+wl ps S q
 | [],_,_,_,_=>rfl
 | p::ps,M,S,q,h=>by
  obtain ⟨h1,h2⟩:=and2 h
  have hm:(M ||| S) % 2=1↔M % 2=1\/S % 2=1:=Nat.or_mod_two_eq_one
  simp only [wl,Nat.or_div_two,wl_or h2]
  by_cases e:M % 2=1 <;> by_cases f:S % 2=1
  ·exact absurd ⟨e,f⟩ h1
  ·rw [if_pos (hm.2 (.inl e)),if_pos e,if_neg f]; omega
  ·rw [if_pos (hm.2 (.inr f)),if_neg e,if_pos f]; omega
  ·rw [if_neg (by rw [hm]; omega),if_neg e,if_neg f]; omega
theorem kxP {vals:List Int} {c:List Int×Int×Int} (hok:okV vals) (hn:vals.length<=12) (hl:c.1.length=vals.length) (ht:tri c.1):∀ (ws vs:List Int) (i:Nat) (v:Int),c.1.drop i=ws->vals.drop i=vs->i+ws.length=vals.length->0<=v->v<=1000*i->itN (kbf vals c) (ws.length+1) ((i:Int),v)=some (.inr (v+vw vs ws)):=by
 intro ws
 induction ws with
 | nil=>
  intro vs i v hd hd2 hlen h0 h1
  refine kdN ?_
  unfold kbf
  rw [if_neg (by rw [lenI_lt]; simp at hlen; omega)]
  cases vs <;> simp [vw]
 | cons w ws ih=>
  intro vs i v hd hd2 hlen h0 h1
  simp only [jau] at hlen
  have hi:i<c.1.length:=by omega
  have hiv:i<vals.length:=by omega
  have e1:c.1[i]=w:=by have:=jbb hi; rw [hd] at this; exact (List.cons.inj this).1.symm
  have e2:c.1.drop (i+1)=ws:=by have:=jbb hi; rw [hd] at this; exact (List.cons.inj this).2.symm
  have e3:vs=vals[i]::vals.drop (i+1):=by rw [<-hd2]; exact jbb hiv
  have hw:=ht w (by rw [<-e1]; exact jcf hi)
  have hvv:=hok _ (jcf hiv)
  have hst:kbf vals c ((i:Int),v)=some (.inl (((i+1:Nat):Int),v+if w≠0 then vals[i] else 0)):=by
   unfold kbf
   rw [if_pos (lenI_lt.2 hi),kat hi]
   simp only [jag,e1,kaR (show i<9223372036854775807 by omega),kat hiv]
   rw [if_neg (by rcases hw with rfl | rfl | rfl <;> decide)]
   by_cases h:w=0
   ·rw [if_neg (by simp [h]),if_neg (by simp [h])]; simp
   ·rw [if_pos (by rcases hw with rfl | rfl | rfl <;> first | exact absurd rfl h | decide),if_pos h,kgR (by omega) (by omega)]
  rw [jau,kil hst,ih (vals.drop (i+1)) (i+1) _ e2 rfl (by omega) (by split <;> omega) (by push_cast; split <;> omega),e3]
  simp only [vw,Int.add_assoc]
theorem law08_BoxShared_eq (a b:List It) (ps:List (List It)) (vals:List Int) (ca:∀ x∈a,0<=x.2.1) (cb:∀ x∈b,0<=x.2.1) (cp:∀ l∈ps,∀ x∈l,0<=x.2.1):kib a b ps vals=some true:=by
 unfold kib
 obtain ⟨u,hu,hu2⟩:=kxS [a,b] (by simp)
 obtain ⟨v,hv,hv2⟩:=kyq ps vals
 rw [hu,hv]
 cases u with
 | true=>rfl
 | false=>
  cases v with
  | false=>rfl
  | true=>
   have la:=hu2 rfl a (by simp)
   have lb:=hu2 rfl b (by simp)
   obtain ⟨hn,hvl,hl⟩:=hv2 rfl
   simp only [law08_alive,jag,jal,if_false,Bool.not_true,if_true]
   rcases kyB la ca lb cb (by omega) hl cp hvl with ⟨s,hA,hB,hpe,hs,hok,hp,e1,hst⟩ | ⟨e,he,e1⟩
   ·rw [e1]
    simp only [jag]
    have hz:Cand ps a b (wh ps.length 0 0):=⟨klE _ _ _,knu rfl,fun q=>by rw [(wt_wh rfl).1,kiM]; exact (kaW hA q).1,fun q=>by rw [(wt_wh rfl).2,kiM]; exact (kaW hB q).1⟩
    rcases hst with ⟨_,h0⟩ | ⟨⟨w1,w2,w3,w4⟩,hval,hbest⟩
    ·exact absurd hz (h0 _)
    ·rw [if_neg (by decide),if_neg (by rw [kah,kah,w1]; simp),if_neg (by rw [kah,kah,hp]; simp)]
     obtain ⟨f1,g1,i1⟩:=ksJ (m:=1) (who:=s.2) hA hs w1 (by omega)
     obtain ⟨f2,g2,i2⟩:=ksJ (m:=2) (who:=s.2) hB hs w1 (by omega)
     obtain rfl:=i1.2 w3
     obtain rfl:=i2.2 w4
     rw [g1,g2]
     simp only [jag,Bool.not_true,jal,if_false]
     have hloop:iter (kbf vals (s.2,s.1,0)) (0,0)=some (.inr s.1):=by
      have:=kxP (c:=(s.2,s.1,0)) hok (by omega) (by rw [<-hp]; exact w1) w2 s.2 vals 0 0 rfl rfl (by omega) (by omega) (by omega)
      have h2:iter (kbf vals (s.2,s.1,0)) (0,0)=_:=kge this (by omega)
      rw [h2,hval]; simp
     rw [hloop]
     simp only [jag]
     rcases koy la ca (by omega) hl cp hvl with ⟨x,_,_,_,_,x1,x2⟩ | ⟨_,_,_,hh⟩
     rotate_left
     ·exact absurd ⟨hA,hpe⟩ hh
     rcases koy lb cb (by omega) hl cp hvl with ⟨y,_,_,_,_,y1,y2⟩ | ⟨_,_,_,hh⟩
     rotate_left
     ·exact absurd ⟨hB,hpe⟩ hh
     rcases x2 with ⟨_,h0⟩ | ⟨T,hT,hI,_⟩
     ·exact absurd ⟨Nat.pow_pos (by omega),fun q=>by rw [kiM]; exact (kaW hA q).1⟩ (h0 0)
     rcases y2 with ⟨_,h0⟩ | ⟨U,hU,hJ,_⟩
     ·exact absurd ⟨Nat.pow_pos (by omega),fun q=>by rw [kiM]; exact (kaW hB q).1⟩ (h0 0)
     have hT0:T &&& 0=0:=by simp
     have h0U:0 &&& U=0:=by simp
     have cx:¬ s.1<x.2.1:=by
      have:=hbest (wh ps.length T 0) ⟨klE _ _ _,knu hT0,fun q=>by rw [(wt_wh hT0).1]; exact hT.2 q,fun q=>by rw [(wt_wh hT0).2,kiM]; exact (kaW hB q).1⟩
      unfold bw at this
      rw [hp,<-vw_wh (i:=0) hT0,Nat.or_zero,<-hI.v] at this
      simp only [jbn,decide_eq_false_iff_not] at this
      exact this.1
     have cy:¬ s.1<y.2.1:=by
      have:=hbest (wh ps.length 0 U) ⟨klE _ _ _,knu h0U,fun q=>by rw [(wt_wh h0U).1,kiM]; exact (kaW hA q).1,fun q=>by rw [(wt_wh h0U).2]; exact hU.2 q⟩
      unfold bw at this
      rw [hp,<-vw_wh (i:=0) h0U,Nat.zero_or,<-hJ.v] at this
      simp only [jbn,decide_eq_false_iff_not] at this
      exact this.1
     rw [x1,y1]
     simp only [jag]
     rcases kzQ hA hB with ⟨r,r1,r2,r3⟩ | ⟨r1,_⟩
     ·rw [r1]
      simp only [jag]
      rcases koy (by have:=r2.len; omega) (fun z hz=>(r2.v z hz).2.2.1) (by omega) hl cp hvl with ⟨z,_,_,_,_,z1,z2⟩ | ⟨_,_,_,hh⟩
      rotate_left
      ·exact absurd ⟨r2,hpe⟩ hh
      rw [z1]
      simp only [jag]
      have hmk:=kqC (w:=s.2)
      have hwm:=wh_mk w2
      rw [w1] at hwm
      have hq:=fun q=>wt_wh (ps:=ps) (q:=q) hmk
      rw [hwm] at hq
      have l1:=mk_lt (m:=1) (w:=s.2)
      have l2:=mk_lt (m:=2) (w:=s.2)
      rw [w1] at l1 l2
      have hc:(mk 1 s.2 ||| mk 2 s.2)<2 ^ ps.length/\∀ q,wl ps (mk 1 s.2 ||| mk 2 s.2) q<=look r q:=⟨Nat.or_lt_two_pow l1 l2,fun q=>by
       rw [wl_or hmk,r3,<-(hq q).1,<-(hq q).2]
       have:=w3 q
       have:=w4 q
       omega⟩
      have cz:s.1<=z.2.1:=by
       rcases z2 with ⟨_,h0⟩ | ⟨V,hV,hK,hb2⟩
       ·exact absurd hc (h0 _)
       ·have:=hb2 _ hc
        unfold bt at this
        rw [vw_wh (i:=0) hmk,<-hp,hwm,<-hval] at this
        simp only [jbn,decide_eq_false_iff_not] at this
        omega
      rw [if_neg (by decide),if_neg (by decide),if_neg (by simp),if_neg (by simpa using cx),if_neg (by simpa using cy),if_neg (by decide),if_pos (by rfl),decide_eq_true cz]
     ·rw [r1]
      simp only [jag]
      rw [if_neg (by decide),if_neg (by decide),if_neg (by simp),if_neg (by simpa using cx),if_neg (by simpa using cy),if_pos (by decide)]
   ·rw [e1]
    simp only [jag]
    rw [if_pos (by simpa using he)]
    rfl
end Go.Abs.Pl
