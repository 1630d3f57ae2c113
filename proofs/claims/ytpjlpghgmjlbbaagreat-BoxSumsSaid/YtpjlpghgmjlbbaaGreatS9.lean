/- The functions and the law, part 9. -/
import Derived.Test.YtpjlpghgmjlbbaaGreatZ6
import Derived.Test.YtpjlpghgmjlbbaaGreatS8
set_option linter.constructorNameAsVariable false
set_option linter.unusedVariables false
set_option linter.unusedSimpArgs false
set_option linter.unusedSectionVars false
namespace Go.Abs.Fl
open Go Go.Abs
def sumN (f:Nat->Int):Nat->Int
 | 0=>0
 | n+1=>sumN f n+f n
theorem kjd {f g:Nat->Int}:∀ {n:Nat},(∀ i,i<n->f i=g i)->sumN f n=sumN g n
 | 0,_=>rfl
 | n+1,h=>by simp only [sumN]; rw [kjd fun i hi=>h i (by omega),h n (by omega)]
theorem krk {f:Nat->Int}:∀ {n:Nat},(∀ i,i<n->0<=f i)->0<=sumN f n
 | 0,_=>jdx 0
 | n+1,h=>by
  have:=krk (f:=f) (n:=n) fun i hi=>h i (by omega)
  have:=h n (by omega)
  simp only [sumN]; omega
theorem kyo {f:Nat->Int}:∀ {n:Nat},(∀ i,i<n->0<=f i)->sumN f n<=0->∀ i,i<n->f i=0
 | 0,_,_,i,hi=>by omega
 | n+1,h,e,i,hi=>by
  have h1:=krk (f:=f) (n:=n) fun i hi=>h i (by omega)
  have h2:=h n (by omega)
  simp only [sumN] at e
  by_cases hn:i=n
  ·subst hn; show f i=0; omega
  ·exact kyo (f:=f) (n:=n) (fun i hi=>h i (by omega)) (by omega) i (by omega)
theorem koV {f g:Nat->Int} {i:Nat} {d:Int} (h:g i=f i+d):∀ {n:Nat},i<n->(∀ j,j<n->j≠i->g j=f j)->sumN g n=sumN f n+d
 | 0,hi,_=>by omega
 | n+1,hi,ho=>by
  simp only [sumN]
  by_cases e:i=n
  ·subst e
   rw [kjd (f:=g) (g:=f) fun j hj=>ho j (by omega) (by omega),h]; omega
  ·rw [koV h (n:=n) (by omega) fun j hj hn=>ho j (by omega) hn,ho n (by omega) (by omega)]; omega
theorem ktA {f:Nat->Int}:∀ {n:Nat},(∀ i,i<n->0<=f i)->∀ {i:Nat},i<n->f i<=sumN f n
 | 0,_,i,hi=>by omega
 | n+1,h,i,hi=>by
  have h1:=krk (f:=f) (n:=n) fun i hi=>h i (by omega)
  have h2:=h n (by omega)
  simp only [sumN]
  by_cases hn:i=n
  ·subst hn; omega
  ·have:=ktA (fun i hi=>h i (by omega)) (n:=n) (i:=i) (by omega); omega
section
variable (n m:Nat) (cap:Nat->Int) (may:Nat->Nat->Prop)
structure Val (u:Nat->Nat->Int) (l:Nat->Int):Prop where
 nn:∀ k,k<n->∀ j,j<m->0<=u k j
 ok:∀ k,k<n->∀ j,j<m->0<u k j->may k j
 ln:∀ j,j<m->0<=l j
 bal:∀ j,j<m->l j+sumN (fun k=>u k j) n=cap j
structure Sat (u:Nat->Nat->Int) (l:Nat->Int) (S:Nat->Bool):Prop where
 z:∀ k,k<n->S k=true->∀ j,j<m->may k j->l j=0
 c:∀ k,k<n->S k=true->∀ j,j<m->may k j->∀ k',k'<n->0<u k' j->S k'=true
end
def row (m:Nat) (u:Nat->Nat->Int) (k:Nat):Int:=sumN (u k) m
variable {n m:Nat} {cap:Nat->Int} {may:Nat->Nat->Prop} {u u':Nat->Nat->Int} {l l':Nat->Int} {S T:Nat->Bool}
theorem Val.take (v:Val n m cap may u l) {i j:Nat} {d:Int} (hi:i<n) (hj:j<m) (hm:may i j) (hd:0<=d) (hl:d<=l j)
  (h1:l' j=l j-d) (h2:u' i j=u i j+d) (h3:∀ j',j'<m->j'≠j->l' j'=l j') (h4:∀ k,k<n->∀ j',j'<m->¬ (k=i/\j'=j)->u' k j'=u k j') :
  Val n m cap may u' l'/\row m u' i=row m u i+d/\∀ k,k<n->k≠i->row m u' k=row m u k:=by
 refine ⟨⟨?_,?_,?_,?_⟩,?_,?_⟩
 ·intro k hk j' hj'
  by_cases e:k=i/\j'=j
  ·obtain ⟨rfl,rfl⟩:=e; rw [h2]; have:=v.nn k hk j' hj'; omega
  ·rw [h4 k hk j' hj' e]; exact v.nn k hk j' hj'
 ·intro k hk j' hj' hp
  by_cases e:k=i/\j'=j
  ·obtain ⟨rfl,rfl⟩:=e; exact hm
  ·rw [h4 k hk j' hj' e] at hp; exact v.ok k hk j' hj' hp
 ·intro j' hj'
  by_cases e:j'=j
  ·subst e; omega
  ·rw [h3 j' hj' e]; exact v.ln j' hj'
 ·intro j' hj'
  by_cases e:j'=j
  ·subst e
   rw [<-v.bal j' hj',h1,koV (f:=fun k=>u k j') (g:=fun k=>u' k j') (i:=i) (d:=d) h2 hi fun k hk hn=>h4 k hk j' hj' (by omega)]; omega
  ·rw [<-v.bal j' hj',h3 j' hj' e,kjd fun k hk=>h4 k hk j' hj' (by omega)]
 ·exact koV h2 hj fun j' hj' hn=>h4 i hi j' hj' (by omega)
 ·intro k hk hn
  exact kjd fun j' hj'=>h4 k hk j' hj' (by omega)
inductive Rch (n m:Nat) (may:Nat->Nat->Prop) (u:Nat->Nat->Int) (L:Nat->Prop):Nat->Prop
 | base {i:Nat}:i<n->L i->Rch n m may u L i
 | step {i j k:Nat}:Rch n m may u L i->j<m->may i j->k<n->0<u k j->Rch n m may u L k
theorem Rch.lt {L:Nat->Prop} {i:Nat} (h:Rch n m may u L i):i<n:=by cases h <;> assumption
def ua (U:List (List Int)) (k j:Nat):Int:=(U.getD k []).getD j 0
def la (L:List Int) (j:Nat):Int:=L.getD j 0
def sa (s:List Bool) (j:Nat):Bool:=s.getD j false
def upd (U:List (List Int)) (k j:Nat) (x:Int):List (List Int):=U.set k ((U.getD k []).set j x)
structure Shp (n m:Nat) (U:List (List Int)) (L:List Int):Prop where
 u:U.length=n
 r:∀ k,k<n->(U.getD k []).length=m
 l:L.length=m
theorem gi_D {α:Type} {l:List α} {i:Nat} (d:α) (h:i<l.length):gi l (i:Int)=some (l.getD i d):=by rw [keK h,jcs,jaf h]; rfl
section
variable {n m:Nat} {U:List (List Int)} {L:List Int} {k j:Nat} {x:Int}
theorem Shp.gu (h:Shp n m U L) (hk:k<n):gi U (k:Int)=some (U.getD k []):=gi_D [] (by rw [h.u]; exact hk)
theorem Shp.gl (h:Shp n m U L) (hj:j<m):gi L (j:Int)=some (la L j):=gi_D 0 (by rw [h.l]; exact hj)
theorem gs {s:List Bool} (hs:s.length=m) (hj:j<m):gi s (j:Int)=some (sa s j):=gi_D false (by omega)
theorem klT {α:Type} {l:List α} {i j:Nat} {x d:α} (h:i<l.length):(l.set i x).getD j d=if j=i then x else l.getD j d:=by
 rw [jcs,jcs,List.getElem?_set]
 by_cases e:j=i
 ·subst e; simp [h]
 ·rw [if_neg (fun h=>e h.symm),if_neg e]
theorem Shp.upd (h:Shp n m U L) (hk:k<n) (hj:j<m):Shp n m (upd U k j x) L:=by
 refine ⟨by simp [Fl.upd,h.u],fun k' hk'=>?_,h.l⟩
 unfold Fl.upd
 rw [klT (by rw [h.u]; exact hk)]
 split
 ·rw [jcc]; exact h.r k hk
 ·exact h.r k' hk'
end
section
variable (n m:Nat) (cap:Nat->Int) (may:Nat->Nat->Prop)
def Cl (U:List (List Int)) (L:List Int) (s s':List Bool):Prop:=
 ∀ j,j<m->sa s' j=true->sa s j=false->la L j=0/\∀ k,k<n->0<ua U k j->∀ j',j'<m->may k j'->sa s' j'=true
structure Post (i:Nat) (most:Int) (U:List (List Int)) (L:List Int) (s:List Bool) (r:Int) (U':List (List Int)) (L':List Int) (s':List Bool):Prop where
 sh:Shp n m U' L'
 sl:s'.length=m
 mono:∀ j,sa s j=true->sa s' j=true
 v:Val n m cap may (ua U') (la L')
 fr:∀ j,j<m->sa s j=true->la L' j=la L j/\∀ k,k<n->ua U' k j=ua U k j
 r0:0<=r
 r1:r<=most
 ri:row m (ua U') i=row m (ua U) i+r
 ro:∀ k,k<n->k≠i->row m (ua U') k=row m (ua U) k
 z:r=0->U'=U/\L'=L/\(∀ j,j<m->may i j->sa s' j=true)/\Cl n m may U L s s'
end
variable {n m:Nat} {cap:Nat->Int} {may:Nat->Nat->Prop} {U U':List (List Int)} {L L':List Int} {s s' s1 s2:List Bool} {i j k:Nat} {most r:Int}
theorem Cl.mono (h:Cl n m may U L s s1) (h2:∀ j,sa s1 j=true->sa s2 j=true):∀ j,j<m->sa s1 j=true->sa s j=false->la L j=0/\∀ k,k<n->0<ua U k j->∀ j',j'<m->may k j'->sa s2 j'=true:=
 fun j hj h1 h0=>⟨(h j hj h1 h0).1,fun k hk hp j' hj' hm=>h2 _ ((h j hj h1 h0).2 k hk hp j' hj' hm)⟩
theorem Cl.trans (h:Cl n m may U L s s1) (h':Cl n m may U L s1 s2) (h2:∀ j,sa s1 j=true->sa s2 j=true):Cl n m may U L s s2:=fun j hj h1 h0=>by
 cases e:sa s1 j with
 | true=>exact h.mono h2 j hj e h0
 | false=>exact h' j hj h1 e
theorem Val.le (v:Val n m cap may (ua U) (la L)) (hk:k<n) (hj:j<m):0<=ua U k j/\ua U k j<=cap j:=by
 have h1:=v.bal j hj
 have h2:=v.ln j hj
 have h3:=ktA (f:=fun k=>ua U k j) (fun k hk=>v.nn k hk j hj) hk
 have h4:=v.nn k hk j hj
 omega
end Go.Abs.Fl
namespace Go.Abs.Pl
open Go Go.Abs
theorem stkB {l:List It} (h:Stk l):Abs.stk l=true:=by
 rw [kym h.v h.s]
 simp only [jac,jai,jal]
 exact ⟨h.len,fun x hx=>by have:=h.n x hx; simp [okN]; exact this⟩
theorem kuk:∀ {a r:List It},srt r->srt a->(∀ x∈r,∃ y∈a,key y=key x)->r.length<=a.length
 | _,[],_,_,_=>by simp
 | [],x::r,_,_,h=>by obtain ⟨y,hy,_⟩:=h x (by simp); cases hy
 | y::a,x::r,hr,ha,h=>by
  have hr':=jdl.1 hr
  have ha':=jdl.1 ha
  by_cases e:key y=key x
  ·have:=kuk hr'.2 ha'.2 fun z hz=>by
    obtain ⟨u,hu,hk⟩:=h z (by simp [hz])
    rcases jax.1 hu with rfl | hu
    ·have:=hr'.1 z hz; omega
    ·exact ⟨u,hu,hk⟩
   simp; omega
  ·have hyx:key y<key x:=by
    obtain ⟨u,hu,hk⟩:=h x (by simp)
    rcases jax.1 hu with rfl | hu
    ·exact absurd hk e
    ·have:=ha'.1 u hu; omega
   have:=kuk hr ha'.2 fun z hz=>by
    obtain ⟨u,hu,hk⟩:=h z hz
    rcases jax.1 hu with rfl | hu
    ·exfalso
     rcases jax.1 hz with rfl | hz
     ·exact e hk
     ·have:=hr'.1 z hz; omega
    ·exact ⟨u,hu,hk⟩
   simp at this ⊢; omega
theorem kta {l:List It} {q:Int} (h:look l q≠0):∃ x∈l,key x=q:=Classical.byContradiction fun hn=>h (kdt fun x hx e=>hn ⟨x,hx,e⟩)
theorem stkU {a b:List It} (ha:Stk a) (hb:Stk b) (h:∀ q,look a q=look b q):a=b:=
 Abs.uniq ha.s hb.s ha.v hb.v (fun x hx=>by have:=ha.n x hx; omega) (fun x hx=>by have:=hb.n x hx; omega) h
theorem kkF (ls:List (List It)) (hn:ls.length<=1000) (hl:∀ l∈ls,l.length<=1000):kbX ls=some (if ls.all Abs.stk then 0 else 8):=by
 unfold kbX
 rw [kjh (F:=kfR ls) ls (by omega) (fun i x=>if Abs.stk x then none else some 8) (fun i hi=>by
  unfold kfR
  rw [if_pos (by rw [kay]; simp; omega),keK hi,kfA (by omega)]
  simp only [jao,kmP _ (hl _ (List.getElem_mem hi))]
  by_cases h:Abs.stk ls[i]=true <;> simp [h,nextL]) (by unfold kfR; rw [if_neg (by simp [kay])])]
 have:∀ (ls:List (List It)) (k:Nat),(ls.zipIdx k).findSome? (fun x=>if Abs.stk x.1 then none else some (8:Int))=if ls.all Abs.stk then none else some 8:=by
  intro ls
  induction ls with
  | nil=>intro k; rfl
  | cons l ls ih=>
   intro k
   simp only [jbs,List.findSome?_cons,jdr]
   by_cases h:Abs.stk l=true
   ·simp only [h,if_true,Bool.true_and]; exact ih _
   ·rw [jbz] at h; simp [h]
 rw [this]
 by_cases h:ls.all Abs.stk=true
 ·simp [h,endL]
 ·simp [h,endL]
theorem kvb {a b:List It} (ha:Stk a) (hb:Stk b):(∃ r,kbT a b=some (r,0)/\(∀ q,look b q<=look a q)/\Stk r/\∀ q,look r q=look a q-look b q)\/(kbT a b=some ([],6)/\∃ q,look a q<look b q):=by
 have la:=ha.len
 have lb:=hb.len
 obtain ⟨r,g1,g2⟩:=krP (fun u=>(kir u.1 u.2).bind fun u1=>some u1) (fun n m=>w64 (n-m)) (fun n m=>rfl) rfl 60 a b [] (by omega) ha.s hb.s ha.v hb.v (by simp)
 have g1':kes a b (fun u0=>(kir u0.1 u0.2).bind fun u1=>some u1)=some r:=by
  unfold kes
  rw [knM g1 (by omega)]; rfl
 have hlk:∀ q,look r q=look a q-look b q:=fun q=>by
  have ra:=kft ha q
  have rb:=kft hb q
  rw [g2.l q,kqt (by omega) (by omega)]
 have hlen:=g2.len
 have e2:(fun u0:It=>(kkH u0).bind fun u1=>some u1)=fun u=>some (decide (u.2.2<0)):=by
  funext u; rfl
 have hT:kbT a b=some (if (r.any fun u=>decide (u.2.2<0))=true then ([],6) else (r,0)):=by
  unfold kbT
  rw [kkF [a,b] (by simp) (fun l hl=>by simp at hl; rcases hl with rfl | rfl <;> omega),if_pos (by simp [stkB ha,stkB hb]),g1',e2]
  simp only [jao,kos r (by omega)]
  by_cases h:(r.any fun u=>decide (u.2.2<0))=true
  ·simp [h]
  ·simp [h]
 rw [hT]
 by_cases h:(r.any fun u=>decide (u.2.2<0))=true
 ·rw [if_pos h]
  right
  refine ⟨rfl,?_⟩
  obtain ⟨x,hx,hn⟩:=jbi.1 h
  have:=kjy g2.s hx
  have:=hlk (key x)
  simp at hn
  exact ⟨key x,by omega⟩
 ·rw [if_neg h]
  left
  have h0:∀ x∈r,0<=x.2.2:=fun x hx=>by
   refine Int.not_lt.1 fun hn=>h (jbi.2 ⟨x,hx,by simpa using hn⟩)
  have hle:∀ q,look b q<=look a q:=fun q=>by
   have:=hlk q
   by_cases hz:look r q=0
   ·omega
   ·obtain ⟨x,hx,rfl⟩:=kta hz
    have:=kjy g2.s hx
    have:=h0 x hx
    omega
  refine ⟨r,rfl,hle,⟨g2.v,g2.s,fun x hx=>?_,?_⟩,hlk⟩
  ·have h1:=g2.n x hx
   have h2:=h0 x hx
   have h3:=kjy g2.s hx
   have h4:=hlk (key x)
   have h5:=kft ha (key x)
   have h6:=kft hb (key x)
   omega
  ·refine jcx (kuk g2.s ha.s fun x hx=>?_) ha.len
   refine kta fun hz=>?_
   have h1:=g2.n x hx
   have h2:=h0 x hx
   have h3:=kjy g2.s hx
   have h4:=hlk (key x)
   have h6:=kft hb (key x)
   omega
theorem kip (l:List It) (hl:l.length<=1000):kbg l l=some true:=by
 unfold kbg
 rw [if_neg (by simp),knr (F:=kdn l l) false l (by omega) (fun _ _=>false) (fun i hi=>by
  unfold kdn
  rw [if_pos (by rw [kay]; simpa using hi),keK hi,kfA (by omega)]
  simp) (by unfold kdn; rw [if_neg (by simp [kay])])]
 simp
theorem lots1 (l:List It):∃ b,ken l=some b/\(b=false->l.length<=40):=by
 unfold ken
 rw [kay]
 by_cases hl:(40:Int)<l.length
 ·exact ⟨true,by rw [if_pos (by simpa using hl)],fun h=>by cases h⟩
 ·rw [if_neg (by simpa using hl)]
  have:∀ (k i:Nat) (v:Int),i+k=l.length->∃ r,itN (kex l) (k+1) ((i:Int),v)=some r:=by
   intro k
   induction k with
   | zero=>
    intro i v h
    refine ⟨v,kjB ?_⟩
    unfold kex
    rw [if_neg (by rw [kay]; simp; omega)]
   | succ k ih=>
    intro i v h
    have hi:i<l.length:=by omega
    by_cases hw:(decide (0<=l[i].2.2)&&decide (l[i].2.2<=1000))=true
    ·obtain ⟨r,hr⟩:=ih (i+1) (w64 (v+l[i].2.2)) (by omega)
     refine ⟨r,?_⟩
     rw [<-hr]
     refine kpP ?_
     unfold kex
     rw [if_pos (by rw [kay]; simpa using hi),keK hi,kfA (by omega)]
     simp only [jao,kkq,hw,if_true]
    ·obtain ⟨r,hr⟩:=ih (i+1) v (by omega)
     refine ⟨r,?_⟩
     rw [<-hr]
     refine kpP ?_
     unfold kex
     rw [if_pos (by rw [kay]; simpa using hi),keK hi,kfA (by omega)]
     simp only [jao,kkq,hw,if_false]
     rw [if_neg (by simp)]
  obtain ⟨r,hr⟩:=this l.length 0 0 (by omega)
  refine ⟨decide (8000<r),?_,fun _=>by omega⟩
  rw [show ((0:Int),(0:Int))=(((0:Nat):Int),0) from rfl,knM hr (by omega)]; rfl
theorem kyw (ls:List (List It)) (hl:ls.length<=9223372036854775807):∃ c,kjj ls=some c/\(c=false->∀ l∈ls,l.length<=40):=by
 unfold kjj
 rw [knr (F:=kgE ls) true ls hl (fun _ l=>decide (ken l=some true)) (fun i hi=>by
  unfold kgE
  rw [if_pos (lenI_lt.2 hi),keK hi,kfA (by omega)]
  obtain ⟨u,hu,_⟩:=lots1 ls[i]
  simp only [jao,hu]
  cases u <;> rfl) (by unfold kgE; rw [if_neg kwR])]
 rw [kvf (fun l=>decide (ken l=some true)) ls 0]
 cases hc:ls.any fun l=>decide (ken l=some true) with
 | true=>exact ⟨true,rfl,fun h=>by cases h⟩
 | false=>
  refine ⟨_,rfl,fun _ l hl=>?_⟩
  have:=List.any_eq_false.1 hc l hl
  obtain ⟨u,hu,hu2⟩:=lots1 l
  rw [jai,hu] at this
  cases u with
  | true=>exact absurd rfl this
  | false=>exact hu2 rfl
theorem kqA {a b:List It} (ha:a.length<=40) (hb:b.length<=40) (h:¬ (stk a=true/\stk b=true)):kbP a b=some ([],8)/\kbT a b=some ([],8):=by
 unfold kbP kbT
 rw [kkF [a,b] (by simp) (fun l hl=>by simp at hl; rcases hl with rfl | rfl <;> omega),if_neg (by simpa using h)]
 exact ⟨rfl,rfl⟩
theorem kpL {a b:List It} (ha:Stk a) (hb:Stk b):(∃ r,kbP a b=some (r,0)/\Stk r/\∀ q,look r q=look a q+look b q)\/(kbP a b=some ([],4)/\∀ r,Stk r->¬ ∀ q,look r q=look a q+look b q):=by
 have la:=ha.len
 have lb:=hb.len
 obtain ⟨r,g1,g2⟩:=krP (fun u=>(kji u.1 u.2).bind fun u1=>some u1) (fun n m=>w64 (n+m)) (fun n m=>rfl) rfl 60 a b [] (by omega) ha.s hb.s ha.v hb.v (by simp)
 have g1':kes a b (fun u0=>(kji u0.1 u0.2).bind fun u1=>some u1)=some r:=by
  unfold kes
  rw [knM g1 (by omega)]; rfl
 have hlk:∀ q,look r q=look a q+look b q:=fun q=>by
  have ra:=kft ha q
  have rb:=kft hb q
  rw [g2.l q,kqt (by omega) (by omega)]
 have hlen:=g2.len
 have hA:kbP a b=some (if stk r=true then (r,0) else ([],4)):=by
  unfold kbP
  rw [kkF [a,b] (by simp) (fun l hl=>by simp at hl; rcases hl with rfl | rfl <;> omega),if_pos (by simp [stkB ha,stkB hb]),g1']
  simp only [jao,kmP r (by omega)]
  by_cases h:stk r=true <;> simp [h]
 rw [hA]
 by_cases h:stk r=true
 ·rw [if_pos h]
  exact .inl ⟨r,rfl,ktb h fun x hx=>(g2.v x hx).2.2.1,hlk⟩
 ·rw [if_neg h]
  refine .inr ⟨rfl,fun r' hr' hl'=>h ?_⟩
  have:r=r':=Abs.uniq g2.s hr'.s g2.v hr'.v g2.n (fun x hx=>by have:=hr'.n x hx; omega) fun q=>by rw [hlk,hl']
  rw [this]; exact stkB hr'
theorem law08_BoxSums_eq (a b:List It) (ca:∀ x∈a,0<=x.2.1) (cb:∀ x∈b,0<=x.2.1):kiS a b=some true:=by
 unfold kiS
 obtain ⟨u,hu,hu2⟩:=kyw [a,b] (by simp)
 rw [hu]
 cases u with
 | true=>rfl
 | false=>
  have hu2:=hu2 rfl
  have la:=hu2 a (by simp)
  have lb:=hu2 b (by simp)
  simp only [law08_alive,jao,jak,if_false,Bool.not_true]
  by_cases h:stk a=true/\stk b=true
  ·have ha:=ktb h.1 ca
   have hb:=ktb h.2 cb
   have back:∀ {l:List It},Stk l->(∀ q,look l q=look a q-look b q)->kbP l b=some (a,0):=fun {l} hl hk=>by
    have e:∀ q,look a q=look l q+look b q:=fun q=>by rw [hk]; omega
    rcases kpL hl hb with ⟨r,h1,h2,h3⟩ | ⟨_,h2⟩
    ·rw [h1,stkU h2 ha fun q=>by rw [h3,e]]
    ·exact absurd e (h2 a ha)
   have sa:=kip a (by omega)
   have tail:(kbT a b).bind (fun v10=>if (v10.2 != 0)=true then some true else (kbP v10.1 b).bind fun v11=>if (v11.2==0)=true then (kbg v11.1 a).bind fun v12=>some v12 else some false)=some true:=by
    rcases kvb ha hb with ⟨r,h1,_,h2,h3⟩ | ⟨h1,_⟩
    ·rw [h1]
     simp only [jao]
     rw [if_neg (by decide),back h2 h3]
     simp only [jao]
     rw [if_pos (by rfl),sa]; rfl
    ·rw [h1]; rfl
   rcases kpL ha hb with ⟨r,h1,h2,h3⟩ | ⟨h1,h2⟩
   ·have e:kbP b a=some (r,0):=by
     rcases kpL hb ha with ⟨r',k1,k2,k3⟩ | ⟨_,k2⟩
     ·rw [k1,stkU k2 h2 fun q=>by rw [k3,h3]; omega]
     ·exact absurd (fun q=>by rw [h3]; omega) (k2 r h2)
    have et:kbT r b=some (a,0):=by
     rcases kvb h2 hb with ⟨x,k1,_,k2,k3⟩ | ⟨_,q,k2⟩
     ·rw [k1,stkU k2 ha fun q=>by rw [k3,h3]; omega]
     ·have:=kft ha q
      rw [h3] at k2; omega
    rw [h1,e]
    simp only [jao,kip r (by have:=h2.len; omega),et,sa]
    simpa using tail
   ·have e:kbP b a=some ([],4):=by
     rcases kpL hb ha with ⟨r',k1,k2,k3⟩ | ⟨k1,_⟩
     ·exact absurd (fun q=>by rw [k3]; omega) (h2 r' k2)
     ·exact k1
    rw [h1,e]
    simp only [jao,kip [] (by simp)]
    simpa using tail
  ·rw [(kqA la lb h).1,(kqA lb la fun hh=>h ⟨hh.2,hh.1⟩).1,(kqA la lb h).2]
   simp only [jao,kip [] (by simp)]
   rfl
end Go.Abs.Pl
