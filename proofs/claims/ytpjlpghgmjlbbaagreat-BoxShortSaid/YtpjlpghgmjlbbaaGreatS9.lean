/- The functions and the law, part 9. -/
import Derived.Test.YtpjlpghgmjlbbaaGreatZ6
import Derived.Test.YtpjlpghgmjlbbaaGreatS8
set_option linter.constructorNameAsVariable false
set_option linter.unusedVariables false
set_option linter.unusedSimpArgs false
set_option linter.unusedSectionVars false
namespace Go.Abs.Fl
open Go Go.Abs
def sumN (f:Nat->Int):Nat->Int
 | 0=>0
 | n+1=>sumN f n+f n
theorem kax {f g:Nat->Int}:∀ {n:Nat},(∀ i,i<n->f i=g i)->sumN f n=sumN g n
 | 0,_=>rfl
 | n+1,h=>by simp only [sumN]; rw [kax fun i hi=>h i (by omega),h n (by omega)]
theorem kdB {f:Nat->Int}:∀ {n:Nat},(∀ i,i<n->0<=f i)->0<=sumN f n
 | 0,_=>jdu 0
 | n+1,h=>by
  have:=kdB (f:=f) (n:=n) fun i hi=>h i (by omega)
  have:=h n (by omega)
  simp only [sumN]; omega
theorem koc {f:Nat->Int}:∀ {n:Nat},(∀ i,i<n->0<=f i)->sumN f n<=0->∀ i,i<n->f i=0
 | 0,_,_,i,hi=>by omega
 | n+1,h,e,i,hi=>by
  have h1:=kdB (f:=f) (n:=n) fun i hi=>h i (by omega)
  have h2:=h n (by omega)
  simp only [sumN] at e
  by_cases hn:i=n
  ·subst hn; show f i=0; omega
  ·exact koc (f:=f) (n:=n) (fun i hi=>h i (by omega)) (by omega) i (by omega)
theorem kqm (f g:Nat->Int):∀ n:Nat,sumN (fun i=>f i+g i) n=sumN f n+sumN g n
 | 0=>rfl
 | n+1=>by simp only [sumN]; rw [kqm f g n]; omega
theorem kce (f g:Nat->Int):∀ n:Nat,sumN (fun i=>f i-g i) n=sumN f n-sumN g n
 | 0=>rfl
 | n+1=>by simp only [sumN]; rw [kce f g n]; omega
theorem klH:∀ n:Nat,sumN (fun _=>0) n=0
 | 0=>rfl
 | n+1=>by simp only [sumN]; rw [klH n]; rfl
theorem ksI (f:Nat->Nat->Int) (m:Nat):∀ n:Nat,sumN (fun i=>sumN (f i) m) n=sumN (fun j=>sumN (fun i=>f i j) n) m
 | 0=>by simp only [sumN]; rw [klH]
 | n+1=>by simp only [sumN]; rw [ksI f m n,<-kqm]
theorem kyW (b:Bool) (f:Nat->Int) (n:Nat):(if b=true then sumN f n else 0)=sumN (fun i=>if b=true then f i else 0) n:=by
 cases b
 ·simp [klH]
 ·simp
theorem khp {f g:Nat->Int} {i:Nat} {d:Int} (h:g i=f i+d):∀ {n:Nat},i<n->(∀ j,j<n->j≠i->g j=f j)->sumN g n=sumN f n+d
 | 0,hi,_=>by omega
 | n+1,hi,ho=>by
  simp only [sumN]
  by_cases e:i=n
  ·subst e
   rw [kax (f:=g) (g:=f) fun j hj=>ho j (by omega) (by omega),h]; omega
  ·rw [khp h (n:=n) (by omega) fun j hj hn=>ho j (by omega) hn,ho n (by omega) (by omega)]; omega
theorem kuH {f:Nat->Int}:∀ {n:Nat},(∀ i,i<n->0<=f i)->∀ {i:Nat},i<n->f i<=sumN f n
 | 0,_,i,hi=>by omega
 | n+1,h,i,hi=>by
  have h1:=kdB (f:=f) (n:=n) fun i hi=>h i (by omega)
  have h2:=h n (by omega)
  simp only [sumN]
  by_cases hn:i=n
  ·subst hn; omega
  ·have:=kuH (fun i hi=>h i (by omega)) (n:=n) (i:=i) (by omega); omega
section
variable (n m:Nat) (cap:Nat->Int) (may:Nat->Nat->Prop)
structure Val (u:Nat->Nat->Int) (l:Nat->Int):Prop where
 nn:∀ k,k<n->∀ j,j<m->0<=u k j
 ok:∀ k,k<n->∀ j,j<m->0<u k j->may k j
 ln:∀ j,j<m->0<=l j
 bal:∀ j,j<m->l j+sumN (fun k=>u k j) n=cap j
structure Sat (u:Nat->Nat->Int) (l:Nat->Int) (S:Nat->Bool):Prop where
 z:∀ k,k<n->S k=true->∀ j,j<m->may k j->l j=0
 c:∀ k,k<n->S k=true->∀ j,j<m->may k j->∀ k',k'<n->0<u k' j->S k'=true
end
def row (m:Nat) (u:Nat->Nat->Int) (k:Nat):Int:=sumN (u k) m
variable {n m:Nat} {cap:Nat->Int} {may:Nat->Nat->Prop} {u u':Nat->Nat->Int} {l l':Nat->Int} {S T:Nat->Bool}
theorem klr (v:Val n m cap may u l) (hT:∀ k,k<n->S k=true->∀ j,j<m->may k j->T j=true) :
  sumN (fun k=>if S k=true then row m u k else 0) n=sumN (fun j=>if T j=true then sumN (fun k=>if S k=true then u k j else 0) n else 0) m:=by
 rw [kax (f:=fun k=>if S k=true then row m u k else 0) (g:=fun k=>sumN (fun j=>if S k=true then u k j else 0) m) fun k hk=>kyW (S k) (u k) m]
 rw [ksI]
 apply kax
 intro j hj
 by_cases t:T j=true
 ·rw [if_pos t]
 ·rw [if_neg t,kax (g:=fun _=>0) fun k hk=>?_,klH]
  by_cases s:S k=true
  ·rw [if_pos s]
   by_cases hp:0<u k j
   ·exact absurd (hT k hk s j hj (v.ok k hk j hj hp)) t
   ·have:=v.nn k hk j hj; omega
  ·rw [if_neg s]
theorem kus (v:Val n m cap may u l) (v':Val n m cap may u' l') (s:Sat n m may u l S) (h:∀ k,k<n->S k=true->row m u k<=row m u' k) :
  Sat n m may u' l' S/\∀ k,k<n->S k=true->row m u k=row m u' k:=by
 classical
 obtain ⟨T,hT⟩:∃ T:Nat->Bool,∀ j,T j=true↔∃ k,k<n/\S k=true/\may k j:=⟨fun j=>decide (∃ k,k<n/\S k=true/\may k j),fun j=>by simp⟩
 have hT1:∀ k,k<n->S k=true->∀ j,j<m->may k j->T j=true:=fun k hk hs j _ hm=>(hT j).2 ⟨k,hk,hs,hm⟩
 have e1:=klr v hT1
 have e2:=klr v' hT1
 have e3:sumN (fun j=>if T j=true then sumN (fun k=>if S k=true then u k j else 0) n else 0) m=sumN (fun j=>if T j=true then cap j else 0) m:=by
  apply kax
  intro j hj
  by_cases t:T j=true
  ·rw [if_pos t,if_pos t]
   obtain ⟨k,hk,hs,hm⟩:=(hT j).1 t
   rw [<-v.bal j hj,s.z k hk hs j hj hm,Int.zero_add]
   apply kax
   intro k' hk'
   by_cases s':S k'=true
   ·rw [if_pos s']
   ·rw [if_neg s']
    by_cases hp:0<u k' j
    ·exact absurd (s.c k hk hs j hj hm k' hk' hp) s'
    ·have:=v.nn k' hk' j hj; omega
  ·rw [if_neg t,if_neg t]
 have e4:sumN (fun j=>if T j=true then sumN (fun k=>if S k=true then u' k j else 0) n else 0) m
   = sumN (fun j=>if T j=true then cap j else 0) m-sumN (fun j=>if T j=true then l' j+sumN (fun k=>if S k=true then 0 else u' k j) n else 0) m:=by
  rw [<-kce]
  apply kax
  intro j hj
  by_cases t:T j=true
  ·simp only [if_pos t]
   rw [<-v'.bal j hj]
   have:sumN (fun k=>u' k j) n=sumN (fun k=>if S k=true then u' k j else 0) n+sumN (fun k=>if S k=true then 0 else u' k j) n:=by
    rw [<-kqm]
    apply kax
    intro k hk
    by_cases s':S k=true
    ·simp [s']
    ·simp [s']
   omega
  ·simp only [if_neg t]; rfl
 have nB:∀ j,j<m->0<=(if T j=true then l' j+sumN (fun k=>if S k=true then 0 else u' k j) n else 0):=by
  intro j hj
  split
  ·have h1:=v'.ln j hj
   have h2:=kdB (f:=fun k=>if S k=true then 0 else u' k j) (n:=n) fun k hk=>by
    show 0<=if S k=true then 0 else u' k j
    split
    ·omega
    ·exact v'.nn k hk j hj
   omega
  ·omega
 have nA:∀ k,k<n->0<=(if S k=true then row m u' k else 0)-(if S k=true then row m u k else 0):=by
  intro k hk
  by_cases s':S k=true
  ·simp only [if_pos s']; have:=h k hk s'; omega
  ·simp only [if_neg s']; omega
 have sA:=kdB nA
 have sB:=kdB nB
 have e5:=kce (fun k=>if S k=true then row m u' k else 0) (fun k=>if S k=true then row m u k else 0) n
 have zA:=koc nA (by omega)
 have zB:=koc nB (by omega)
 refine ⟨⟨?_,?_⟩,?_⟩
 ·intro k hk hs j hj hm
  have:=zB j hj
  rw [if_pos (hT1 k hk hs j hj hm)] at this
  have h1:=v'.ln j hj
  have h2:=kdB (f:=fun k=>if S k=true then 0 else u' k j) (n:=n) fun k hk=>by
   show 0<=if S k=true then 0 else u' k j
   split
   ·omega
   ·exact v'.nn k hk j hj
  omega
 ·intro k hk hs j hj hm k' hk' hp
  have:=zB j hj
  rw [if_pos (hT1 k hk hs j hj hm)] at this
  have h1:=v'.ln j hj
  have h3:∀ k,k<n->0<=(fun k=>if S k=true then 0 else u' k j) k:=fun k hk=>by
   show 0<=if S k=true then 0 else u' k j
   split
   ·omega
   ·exact v'.nn k hk j hj
  have h2:=kdB h3
  have h4:=koc h3 (by omega) k' hk'
  by_cases s':S k'=true
  ·exact s'
  ·simp only [if_neg s'] at h4; omega
 ·intro k hk hs
  have:=zA k hk
  simp only [if_pos hs] at this; omega
theorem kzE (v:Val n m cap may u l) (v':Val n m cap may u' l') (s:Sat n m may u l S) {i:Nat} (hi:i<n) (hs:S i=true) (h:∀ k,k<n->k≠i->row m u k<=row m u' k):row m u' i<=row m u i:=by
 by_cases c:row m u' i<=row m u i
 ·exact c
 ·have:=(kus v v' s fun k hk hS=>by
   by_cases e:k=i
   ·subst e; omega
   ·exact h k hk e).2 i hi hs
  omega
theorem Val.take (v:Val n m cap may u l) {i j:Nat} {d:Int} (hi:i<n) (hj:j<m) (hm:may i j) (hd:0<=d) (hl:d<=l j)
  (h1:l' j=l j-d) (h2:u' i j=u i j+d) (h3:∀ j',j'<m->j'≠j->l' j'=l j') (h4:∀ k,k<n->∀ j',j'<m->¬ (k=i/\j'=j)->u' k j'=u k j') :
  Val n m cap may u' l'/\row m u' i=row m u i+d/\∀ k,k<n->k≠i->row m u' k=row m u k:=by
 refine ⟨⟨?_,?_,?_,?_⟩,?_,?_⟩
 ·intro k hk j' hj'
  by_cases e:k=i/\j'=j
  ·obtain ⟨rfl,rfl⟩:=e; rw [h2]; have:=v.nn k hk j' hj'; omega
  ·rw [h4 k hk j' hj' e]; exact v.nn k hk j' hj'
 ·intro k hk j' hj' hp
  by_cases e:k=i/\j'=j
  ·obtain ⟨rfl,rfl⟩:=e; exact hm
  ·rw [h4 k hk j' hj' e] at hp; exact v.ok k hk j' hj' hp
 ·intro j' hj'
  by_cases e:j'=j
  ·subst e; omega
  ·rw [h3 j' hj' e]; exact v.ln j' hj'
 ·intro j' hj'
  by_cases e:j'=j
  ·subst e
   rw [<-v.bal j' hj',h1,khp (f:=fun k=>u k j') (g:=fun k=>u' k j') (i:=i) (d:=d) h2 hi fun k hk hn=>h4 k hk j' hj' (by omega)]; omega
  ·rw [<-v.bal j' hj',h3 j' hj' e,kax fun k hk=>h4 k hk j' hj' (by omega)]
 ·exact khp h2 hj fun j' hj' hn=>h4 i hi j' hj' (by omega)
 ·intro k hk hn
  exact kax fun j' hj'=>h4 k hk j' hj' (by omega)
theorem Val.swap (v:Val n m cap may u l) {i k j:Nat} {d:Int} (hi:i<n) (hk:k<n) (hj:j<m) (hm:may i j) (hd:0<=d) (hl:d<=u k j) (ne:k≠i)
  (h1:u' k j=u k j-d) (h2:u' i j=u i j+d) (h4:∀ k',k'<n->∀ j',j'<m->¬ (k'=i/\j'=j)->¬ (k'=k/\j'=j)->u' k' j'=u k' j') :
  Val n m cap may u' l/\row m u' i=row m u i+d/\row m u' k=row m u k-d/\∀ k',k'<n->k'≠i->k'≠k->row m u' k'=row m u k':=by
 refine ⟨⟨?_,?_,v.ln,?_⟩,?_,?_,?_⟩
 ·intro a ha j' hj'
  by_cases e:a=i/\j'=j
  ·obtain ⟨rfl,rfl⟩:=e; rw [h2]; have:=v.nn a ha j' hj'; omega
  ·by_cases e2:a=k/\j'=j
   ·obtain ⟨rfl,rfl⟩:=e2; rw [h1]; omega
   ·rw [h4 a ha j' hj' e e2]; exact v.nn a ha j' hj'
 ·intro a ha j' hj' hp
  by_cases e:a=i/\j'=j
  ·obtain ⟨rfl,rfl⟩:=e; exact hm
  ·by_cases e2:a=k/\j'=j
   ·obtain ⟨rfl,rfl⟩:=e2; exact v.ok a ha j' hj' (by omega)
   ·rw [h4 a ha j' hj' e e2] at hp; exact v.ok a ha j' hj' hp
 ·intro j' hj'
  by_cases e:j'=j
  ·subst e
   rw [<-v.bal j' hj']
   let w:Nat->Int:=fun a=>if a=i then u i j'+d else u a j'
   have e1:sumN w n=sumN (fun a=>u a j') n+d:=khp (i:=i) (by simp [w]) hi fun a ha hn=>by simp [w,hn]
   have e2:sumN (fun a=>u' a j') n=sumN w n+(-d):=khp (i:=k) (by simp only [w,if_neg ne]; omega) hk fun a ha hn=>by
    by_cases ea:a=i
    ·subst ea; simp only [w,if_true]; exact h2
    ·simp only [w,if_neg ea]; exact h4 a ha j' hj' (by omega) (by omega)
   omega
  ·rw [<-v.bal j' hj',kax fun a ha=>h4 a ha j' hj' (by omega) (by omega)]
 ·exact khp h2 hj fun j' hj' hn=>h4 i hi j' hj' (by omega) (by omega)
 ·have:=khp (f:=u k) (g:=u' k) (i:=j) (d:=-d) (by omega) hj fun j' hj' hn=>h4 k hk j' hj' (by omega) (by omega)
  unfold row; omega
 ·intro a ha hn hn2
  exact kax fun j' hj'=>h4 a ha j' hj' (by omega) (by omega)
inductive Rch (n m:Nat) (may:Nat->Nat->Prop) (u:Nat->Nat->Int) (L:Nat->Prop):Nat->Prop
 | base {i:Nat}:i<n->L i->Rch n m may u L i
 | step {i j k:Nat}:Rch n m may u L i->j<m->may i j->k<n->0<u k j->Rch n m may u L k
theorem Rch.lt {L:Nat->Prop} {i:Nat} (h:Rch n m may u L i):i<n:=by cases h <;> assumption
theorem iter_inv {α β:Type} {F:α->Option (α⊕β)} (I:α->Prop) (m:α->Nat) (R:β->Prop)
  (h:∀ x,I x->(∃ z,F x=some (.inr z)/\R z)\/∃ y,F x=some (.inl y)/\I y/\m y<m x) (x:α) (hx:I x) (hm:m x<18446744073709551616):∃ z,iter F x=some z/\R z:=by
 have:∀ n x,I x->m x<n->∃ z,itN F n x=some z/\R z:=by
  intro n
  induction n with
  | zero=>intro x _ h0; omega
  | succ n ih=>
   intro x hx hm
   rcases h x hx with ⟨z,e,hz⟩ | ⟨y,e,hy,hlt⟩
   ·exact ⟨z,kmc e,hz⟩
   ·rw [kqS e]; exact ih y hy (by omega)
 obtain ⟨z,e,hz⟩:=this 18446744073709551616 x hx hm
 exact ⟨z,ksg e (jah _),hz⟩
def ua (U:List (List Int)) (k j:Nat):Int:=(U.getD k []).getD j 0
def la (L:List Int) (j:Nat):Int:=L.getD j 0
def sa (s:List Bool) (j:Nat):Bool:=s.getD j false
def upd (U:List (List Int)) (k j:Nat) (x:Int):List (List Int):=U.set k ((U.getD k []).set j x)
structure Shp (n m:Nat) (U:List (List Int)) (L:List Int):Prop where
 u:U.length=n
 r:∀ k,k<n->(U.getD k []).length=m
 l:L.length=m
theorem gi_D {α:Type} {l:List α} {i:Nat} (d:α) (h:i<l.length):gi l (i:Int)=some (l.getD i d):=by rw [kaz h,jaz,jae h]; rfl
section
variable {n m:Nat} {U:List (List Int)} {L:List Int} {k j:Nat} {x:Int}
theorem Shp.gu (h:Shp n m U L) (hk:k<n):gi U (k:Int)=some (U.getD k []):=gi_D [] (by rw [h.u]; exact hk)
theorem Shp.guj (h:Shp n m U L) (hk:k<n) (hj:j<m):gi (U.getD k []) (j:Int)=some (ua U k j):=gi_D 0 (by rw [h.r k hk]; exact hj)
theorem Shp.gl (h:Shp n m U L) (hj:j<m):gi L (j:Int)=some (la L j):=gi_D 0 (by rw [h.l]; exact hj)
theorem gs {s:List Bool} (hs:s.length=m) (hj:j<m):gi s (j:Int)=some (sa s j):=gi_D false (by omega)
theorem kyL:lset U (k:Int) (lset (U.getD k []) (j:Int) x)=upd U k j x:=rfl
theorem kdU {α:Type} {l:List α} {i j:Nat} {x d:α} (h:i<l.length):(l.set i x).getD j d=if j=i then x else l.getD j d:=by
 rw [jaz,jaz,List.getElem?_set]
 by_cases e:j=i
 ·subst e; simp [h]
 ·rw [if_neg (fun h=>e h.symm),if_neg e]
theorem Shp.upd (h:Shp n m U L) (hk:k<n) (hj:j<m):Shp n m (upd U k j x) L:=by
 refine ⟨by simp [Fl.upd,h.u],fun k' hk'=>?_,h.l⟩
 unfold Fl.upd
 rw [kdU (by rw [h.u]; exact hk)]
 split
 ·rw [jcf]; exact h.r k hk
 ·exact h.r k' hk'
theorem Shp.ua_upd (h:Shp n m U L) (hk:k<n) (hj:j<m) (k' j':Nat):ua (Fl.upd U k j x) k' j'=if k'=k/\j'=j then x else ua U k' j':=by
 unfold ua Fl.upd
 rw [kdU (by rw [h.u]; exact hk)]
 by_cases e:k'=k
 ·subst e
  rw [if_pos rfl,kdU (by rw [h.r _ hk]; exact hj)]
  simp
 ·rw [if_neg e,if_neg (fun h=>e h.1)]
theorem Shp.setL (h:Shp n m U L):Shp n m U (L.set j x):=⟨h.u,h.r,by simp [h.l]⟩
theorem kqD (hj:j<L.length) (j':Nat):la (L.set j x) j'=if j'=j then x else la L j':=kdU hj
theorem klA {s:List Bool} (hj:j<s.length) (j':Nat):sa (s.set j true) j'=if j'=j then true else sa s j':=kdU hj
end
def uns (s:List Bool):Nat:=s.countP (fun b=>!b)
theorem ksb:∀ {s:List Bool} {j:Nat},j<s.length->sa s j=false->uns (s.set j true)+1=uns s
 | [],j,h,_=>by simp at h
 | b::s,0,_,h=>by
  have:b=false:=by simpa [sa] using h
  subst this
  simp [uns,List.countP_cons]
 | b::s,j+1,h,h2=>by
  have:=ksb (s:=s) (j:=j) (by simpa using h) (by simpa [sa] using h2)
  simp only [uns,List.set_cons_succ,List.countP_cons] at this ⊢
  omega
theorem klY:∀ {s s':List Bool},s'.length=s.length->(∀ j,sa s j=true->sa s' j=true)->uns s'<=uns s
 | [],[],_,_=>jah _
 | [],_::_,h,_=>by simp at h
 | _::_,[],h,_=>by simp at h
 | b::s,b'::s',h,hm=>by
  have:=klY (s:=s) (s':=s') (by simpa using h) fun j hj=>by simpa [sa] using hm (j+1) (by simpa [sa] using hj)
  have h0:=hm 0
  simp only [sa,List.getD_cons_zero] at h0
  simp only [uns,List.countP_cons] at this ⊢
  cases b <;> cases b' <;> simp at h0 ⊢ <;> omega
section
variable (n m:Nat) (cap:Nat->Int) (may:Nat->Nat->Prop)
def Cl (U:List (List Int)) (L:List Int) (s s':List Bool):Prop:=
 ∀ j,j<m->sa s' j=true->sa s j=false->la L j=0/\∀ k,k<n->0<ua U k j->∀ j',j'<m->may k j'->sa s' j'=true
structure Post (i:Nat) (most:Int) (U:List (List Int)) (L:List Int) (s:List Bool) (r:Int) (U':List (List Int)) (L':List Int) (s':List Bool):Prop where
 sh:Shp n m U' L'
 sl:s'.length=m
 mono:∀ j,sa s j=true->sa s' j=true
 v:Val n m cap may (ua U') (la L')
 fr:∀ j,j<m->sa s j=true->la L' j=la L j/\∀ k,k<n->ua U' k j=ua U k j
 r0:0<=r
 r1:r<=most
 ri:row m (ua U') i=row m (ua U) i+r
 ro:∀ k,k<n->k≠i->row m (ua U') k=row m (ua U) k
 z:r=0->U'=U/\L'=L/\(∀ j,j<m->may i j->sa s' j=true)/\Cl n m may U L s s'
end
variable {n m:Nat} {cap:Nat->Int} {may:Nat->Nat->Prop} {U U':List (List Int)} {L L':List Int} {s s' s1 s2:List Bool} {i j k:Nat} {most r:Int}
theorem Cl.mono (h:Cl n m may U L s s1) (h2:∀ j,sa s1 j=true->sa s2 j=true):∀ j,j<m->sa s1 j=true->sa s j=false->la L j=0/\∀ k,k<n->0<ua U k j->∀ j',j'<m->may k j'->sa s2 j'=true:=
 fun j hj h1 h0=>⟨(h j hj h1 h0).1,fun k hk hp j' hj' hm=>h2 _ ((h j hj h1 h0).2 k hk hp j' hj' hm)⟩
theorem Cl.trans (h:Cl n m may U L s s1) (h':Cl n m may U L s1 s2) (h2:∀ j,sa s1 j=true->sa s2 j=true):Cl n m may U L s s2:=fun j hj h1 h0=>by
 cases e:sa s1 j with
 | true=>exact h.mono h2 j hj e h0
 | false=>exact h' j hj h1 e
theorem Val.le (v:Val n m cap may (ua U) (la L)) (hk:k<n) (hj:j<m):0<=ua U k j/\ua U k j<=cap j:=by
 have h1:=v.bal j hj
 have h2:=v.ln j hj
 have h3:=kuH (f:=fun k=>ua U k j) (fun k hk=>v.nn k hk j hj) hk
 have h4:=v.nn k hk j hj
 omega
theorem Val.lle (v:Val n m cap may (ua U) (la L)) (hj:j<m):0<=la L j/\la L j<=cap j:=by
 have h1:=v.bal j hj
 have h2:=v.ln j hj
 have h3:=kdB (f:=fun k=>ua U k j) (n:=n) (fun k hk=>v.nn k hk j hj)
 omega
theorem kyk (sh:Shp n m U L) (v:Val n m cap may (ua U) (la L)) (hl:s1.length=m) (hs:∀ j,sa s j=true->sa s1 j=true) (hi:i<n) (hj:j<m) (hn:sa s1 j=false) (hm:may i j) {d:Int} (h0:0<d) (h1:d<=la L j) (h2:d<=most) :
  Post n m cap may i most U L s d (upd U i j (ua U i j+d)) (L.set j (la L j-d)) (s1.set j true):=by
 have hjs:sa s j=false:=by
  cases e:sa s j with
  | false=>rfl
  | true=>rw [hs j e] at hn; cases hn
 have hjl:j<L.length:=by rw [sh.l]; exact hj
 obtain ⟨a,b,c⟩:=v.take (u':=ua (upd U i j (ua U i j+d))) (l':=la (L.set j (la L j-d))) hi hj hm (by omega:(0:Int)<=d) h1 (by rw [kqD hjl,if_pos rfl]) (by rw [sh.ua_upd hi hj,if_pos ⟨rfl,rfl⟩])
  (fun j' _ hne=>by rw [kqD hjl,if_neg hne]) (fun k _ j' _ hne=>by rw [sh.ua_upd hi hj,if_neg hne])
 refine ⟨(sh.upd hi hj).setL,by simp [hl],fun j' hj'=>?_,a,fun j' hj' h=>?_,by omega,h2,b,c,fun e=>by omega⟩
 ·rw [klA (by omega)]; split
  ·rfl
  ·exact hs j' hj'
 ·have hne:j'≠j:=by rintro rfl; rw [hjs] at h; cases h
  refine ⟨by rw [kqD hjl,if_neg hne],fun k hk=>by rw [sh.ua_upd hi hj,if_neg (fun h=>hne h.2)]⟩
theorem kwM (hp:Post n m cap may k most U L s2 r U' L' s') (hi:i<n) (hk:k<n) (hj:j<m) (hjs:sa s j=false) (hj2:sa s2 j=true) (hs:∀ j,sa s j=true->sa s2 j=true) (hm:may i j) (h0:0<r) (h1:most<=ua U k j) {most':Int} (h2:most<=most') :
  Post n m cap may i most' U L s r (upd (upd U' k j (ua U' k j-r)) i j (ua (upd U' k j (ua U' k j-r)) i j+r)) L' s':=by
 have sh1:=hp.sh.upd hk hj (x:=ua U' k j-r)
 have hfr:∀ j',j'<m->sa s j'=true->la L' j'=la L j'/\∀ k',k'<n->ua (upd (upd U' k j (ua U' k j-r)) i j (ua (upd U' k j (ua U' k j-r)) i j+r)) k' j'=ua U k' j':=fun j' hj' h=>by
  have hne:j'≠j:=by rintro rfl; rw [hjs] at h; cases h
  obtain ⟨a,b⟩:=hp.fr j' hj' (hs j' h)
  exact ⟨a,fun k' hk'=>by rw [sh1.ua_upd hi hj,if_neg (fun h=>hne h.2),hp.sh.ua_upd hk hj,if_neg (fun h=>hne h.2)]; exact b k' hk'⟩
 have hcol:=(hp.fr j hj hj2).2 k hk
 have hr:=hp.r1
 by_cases e:k=i
 ·subst e
  have hu:∀ k' j',ua (upd (upd U' k j (ua U' k j-r)) k j (ua (upd U' k j (ua U' k j-r)) k j+r)) k' j'=ua U' k' j':=fun k' j'=>by
   rw [sh1.ua_upd hi hj,hp.sh.ua_upd hk hj,hp.sh.ua_upd hk hj]
   by_cases h:k'=k/\j'=j
   ·obtain ⟨rfl,rfl⟩:=h; simp
   ·rw [if_neg h,if_neg h]
  have hv:Val n m cap may (ua (upd (upd U' k j (ua U' k j-r)) k j (ua (upd U' k j (ua U' k j-r)) k j+r))) (la L'):=by
   rw [show ua (upd (upd U' k j (ua U' k j-r)) k j (ua (upd U' k j (ua U' k j-r)) k j+r))=ua U' from funext fun k'=>funext fun j'=>hu k' j']
   exact hp.v
  have hrow:∀ k',row m (ua (upd (upd U' k j (ua U' k j-r)) k j (ua (upd U' k j (ua U' k j-r)) k j+r))) k'=row m (ua U') k':=fun k'=>kax fun j' _=>hu k' j'
  exact ⟨sh1.upd hi hj,hp.sl,fun j' h=>hp.mono j' (hs j' h),hv,hfr,by omega,by omega,by rw [hrow]; exact hp.ri,fun k' hk' hne=>by rw [hrow]; exact hp.ro k' hk' hne,fun e=>by omega⟩
 ·have hne:¬ (i=k/\j=j):=fun h=>e h.1.symm
  obtain ⟨a,b,c,d⟩:=hp.v.swap (u':=ua (upd (upd U' k j (ua U' k j-r)) i j (ua (upd U' k j (ua U' k j-r)) i j+r))) (i:=i) (k:=k) (j:=j) (d:=r) hi hk hj hm (by omega) (by omega) e
   (by rw [sh1.ua_upd hi hj,if_neg (fun h=>e h.1),hp.sh.ua_upd hk hj,if_pos ⟨rfl,rfl⟩]) (by rw [sh1.ua_upd hi hj,if_pos ⟨rfl,rfl⟩,hp.sh.ua_upd hk hj,if_neg hne])
   (fun k' hk' j' hj' g1 g2=>by rw [sh1.ua_upd hi hj,if_neg g1,hp.sh.ua_upd hk hj,if_neg g2])
  refine ⟨sh1.upd hi hj,hp.sl,fun j' h=>hp.mono j' (hs j' h),a,hfr,by omega,by omega,?_,fun k' hk' hne'=>?_,fun e=>by omega⟩
  ·rw [b,hp.ro i hi (fun h=>e h.symm)]
  ·by_cases e2:k'=k
   ·subst e2; rw [c,hp.ri]; omega
   ·rw [d k' hk' hne' e2,hp.ro k' hk' e2]
structure MayL (n m:Nat) (may:Nat->Nat->Prop) (M:List (List Int)):Prop where
 l:M.length=n
 s:∀ k,k<n->(M.getD k []).length<=1000
 a:∀ k,k<n->∀ x∈M.getD k [],∃ j,j<m/\x=(j:Int)/\may k j
 b:∀ k,k<n->∀ j,j<m->may k j->(j:Int)∈M.getD k []
theorem kqC {a b:Int} (ha:0<a):imin a b<=a/\imin a b<=b/\(0<imin a b↔0<b):=by
 unfold imin; split <;> omega
variable {n m:Nat} {cap:Nat->Int} {may:Nat->Nat->Prop} {M:List (List Int)} {N:List (Int×Int×Int)}
theorem kyf (hM:MayL n m may M) (hn:n<=1000) (hc:∀ j,j<m->cap j<=1000):∀ (fuel i:Nat) (most:Int) (U:List (List Int)) (L:List Int) (s:List Bool),i<n->0<most->Shp n m U L->s.length=m->Val n m cap may (ua U) (la L)->uns s<fuel->
  ∃ r U' L' s',kaR fuel (i:Int) most N M U L s=some (r,N,M,U',L',s')/\Post n m cap may i most U L s r U' L' s':=by
 intro fuel
 induction fuel with
 | zero=>intro i most U L s _ _ _ _ _ h; omega
 | succ fuel ih=>
  intro i most U L s hi hm0 sh hs v hf
  unfold kaR khx
  have gM:gi M (i:Int)=some (M.getD i []):=gi_D [] (by rw [hM.l]; exact hi)
  generalize hJ:M.getD i []=J at gM
  have hJ1:∀ x∈J,∃ j,j<m/\x=(j:Int)/\may i j:=by rw [<-hJ]; exact hM.a i hi
  have hJ2:∀ j,j<m->may i j->(j:Int)∈J:=by rw [<-hJ]; exact hM.b i hi
  have hJl:J.length<=1000:=by rw [<-hJ]; exact hM.s i hi
  simp only [gM,jaj]
  let Q:Nat->List Bool->Prop:=fun t s1=>s1.length=m/\(∀ j,sa s j=true->sa s1 j=true)/\(∀ (t':Nat) (x:Int),t'<t->J[t']?=some x->∀ j:Nat,x=(j:Int)->sa s1 j=true)/\Cl n m may U L s s1
  have key:=iter_inv (F:=kaL (kaR fuel) (i:Int) most J)
   (fun x=>∃ t s1,t<=J.length/\x=((t:Int),s1,N,M,U,L)/\Q t s1) (fun x=>J.length-x.1.toNat)
   (fun z=>(∃ r U' L' s',z = .inl (r,N,M,U',L',s')/\Post n m cap may i most U L s r U' L' s')\/∃ s1,z = .inr (s1,L,U,N,M)/\Q J.length s1)
   (fun x hx=>by
    obtain ⟨t,s1,ht,rfl,q1,q2,q3,q4⟩:=hx
    by_cases hlt:t<J.length
    ·obtain ⟨j,hj,hxj,hmj⟩:=hJ1 J[t] (jde hlt)
     have g1:gi J (t:Int)=some (j:Int):=by rw [kaz hlt,hxj]
     have g2:gi s1 (j:Int)=some (sa s1 j):=gs q1 hj
     have g3:=sh.gl hj
     have g4:=sh.gu hi
     have g5:=sh.guj hi hj
     have hw:w64 ((t:Int)+1)=((t+1:Nat):Int):=kar (by omega)
     have hlen:decide ((t:Int)<lenI J)=true:=lenI_lt.2 hlt
     cases hsj:sa s1 j with
     | true=>
      refine .inr ⟨((t+1:Nat),s1,N,M,U,L),?_,⟨t+1,s1,by omega,rfl,q1,q2,fun t' x ht' hx' j' hj'=>?_,q4⟩,by simp only [jbf]; omega⟩
      ·unfold kaL
       simp only [hlen,if_true,g1,g2,jaj,hsj,hw]
      ·by_cases e:t'=t
       ·subst e
        rw [jae hlt,hxj] at hx'
        cases hx'
        have:j=j':=by omega
        subst this; exact hsj
       ·exact q3 t' x (by omega) hx' j' hj'
     | false=>
      obtain ⟨d1,d2,d3⟩:=kqC (b:=la L j) hm0
      obtain ⟨b1,b2⟩:=v.le hi hj
      obtain ⟨b3,b4⟩:=v.lle hj
      have b5:=hc j hj
      by_cases hd:0<imin most (la L j)
      ·
       have e1:w64 (ua U i j+imin most (la L j))=ua U i j+imin most (la L j):=keq (by omega) (by omega)
       have e2:w64 (la L j-imin most (la L j))=la L j-imin most (la L j):=keq (by omega) (by omega)
       refine .inl ⟨.inl (imin most (la L j),N,M,upd U i j (ua U i j+imin most (la L j)),L.set j (la L j-imin most (la L j)),s1.set j true),?_,.inl ⟨_,_,_,_,rfl,kyk sh v q1 q2 hi hj hsj hmj hd d2 d1⟩⟩
       unfold kaL
       simp only [hlen,if_true,g1,g2,g3,g4,g5,jaj,hsj,jai,if_false,decide_eq_true hd,e1,e2]
       rfl
      ·
       have hl0:la L j=0:=by
        have:¬ 0<la L j:=fun h=>hd (d3.2 h)
        omega
       have hs2:(s1.set j true).length=m:=by simp [q1]
       have hju:uns (s1.set j true)<fuel:=by
        have:=ksb (s:=s1) (j:=j) (by omega) hsj
        have:=klY (s:=s) (s':=s1) (by rw [q1,hs]) q2
        omega
       have hjs:sa s j=false:=by
        cases e:sa s j with
        | false=>rfl
        | true=>rw [q2 j e] at hsj; cases hsj
       let Q2:Nat->List Bool->Prop:=fun k s3=>s3.length=m/\(∀ j',sa (s1.set j true) j'=true->sa s3 j'=true)/\(∀ k',k'<k->0<ua U k' j->∀ j',j'<m->may k' j'->sa s3 j'=true)/\Cl n m may U L (s1.set j true) s3
       have hjt:∀ s3,(∀ j',sa (s1.set j true) j'=true->sa s3 j'=true)->sa s3 j=true:=fun s3 h=>h j (by rw [klA (by omega)]; simp)
       have hmon:∀ s3,(∀ j',sa (s1.set j true) j'=true->sa s3 j'=true)->∀ j',sa s j'=true->sa s3 j'=true:=fun s3 h j' hj'=>h j' (by rw [klA (by omega)]; split; rfl; exact q2 j' hj')
       obtain ⟨z,hz,hR⟩:=iter_inv (F:=kaY (kaR fuel) (i:Int) most ((t:Int),s1,N,M,U,L) (j:Int))
        (fun x=>∃ k s3,k<=n/\x=((k:Int),N,M,U,L,s3)/\Q2 k s3) (fun x=>n-x.1.toNat)
        (fun z=>(∃ r U' L' s',z = .inl (r,N,M,U',L',s')/\Post n m cap may i most U L s r U' L' s')\/∃ s3,z = .inr (N,M,U,L,s3)/\Q2 n s3)
        (fun x hx=>by
         obtain ⟨k,s3,hk,rfl,p1,p2,p3,p4⟩:=hx
         have hlU:lenI U=(n:Int):=by rw [kal,sh.u]
         by_cases hkn:k<n
         ·have hw:w64 ((k:Int)+1)=((k+1:Nat):Int):=kar (by omega)
          have hk1:decide ((k:Int)<lenI U)=true:=by rw [hlU]; simp; omega
          have f1:=sh.gu hkn
          have f2:=sh.guj hkn hj
          by_cases hz0:ua U k j=0
          ·refine .inr ⟨((k+1:Nat),N,M,U,L,s3),?_,⟨k+1,s3,by omega,rfl,p1,p2,fun k' hk' hp=>?_,p4⟩,by simp only [jbf]; omega⟩
           ·unfold kaY
            simp only [hk1,if_true,f1,f2,jaj,hz0,hw]
            rfl
           ·by_cases e:k'=k
            ·subst e; omega
            ·exact p3 k' (by omega) hp
          ·have hpos:0<ua U k j:=by have:=(v.le hkn hj).1; omega
           obtain ⟨c1,c2,c3⟩:=kqC (b:=ua U k j) hm0
           obtain ⟨r,U',L',s',hrec,hp⟩:=ih k (imin most (ua U k j)) U L s3 hkn (c3.2 hpos) sh p1 v (by
            have:=klY (s:=s1.set j true) (s':=s3) (by rw [p1,hs2]) p2
            omega)
           have hne:(ua U k j==0)=false:=by simp [hz0]
           by_cases hr:0<r
           ·have F1:=hp.sh.gu hkn
            have F2:=hp.sh.guj hkn hj
            have sh1:=hp.sh.upd hkn hj (x:=ua U' k j-r)
            have F3:=sh1.gu hi
            have F4:=sh1.guj hi hj
            have B1:=hp.v.le hkn hj
            have B2:=hp.v.le hi hj
            have B3:=hp.r1
            have B4:=v.le hkn hj
            have E1:w64 (ua U' k j-r)=ua U' k j-r:=keq (by omega) (by omega)
            have hb:-10000<=ua (upd U' k j (ua U' k j-r)) i j/\ua (upd U' k j (ua U' k j-r)) i j<=10000:=by
             rw [hp.sh.ua_upd hkn hj]; split <;> omega
            have E2:w64 (ua (upd U' k j (ua U' k j-r)) i j+r)=ua (upd U' k j (ua U' k j-r)) i j+r:=keq (by omega) (by omega)
            refine .inl ⟨.inl (r,N,M,upd (upd U' k j (ua U' k j-r)) i j (ua (upd U' k j (ua U' k j-r)) i j+r),L',s'),?_,.inl ⟨_,_,_,_,rfl,kwM hp hi hkn hj hjs (hjt s3 p2) (hmon s3 p2) hmj hr c2 c1⟩⟩
            unfold kaY
            simp only [hk1,if_true,f1,f2,jaj,hne,jai,if_false,hrec,decide_eq_true hr,F1,F2,E1,kyL,F3,F4,E2]
           ·have hr0:r=0:=by have:=hp.r0; omega
            obtain ⟨z1,z2,z3,z4⟩:=hp.z hr0
            subst z1 z2
            refine .inr ⟨((k+1:Nat),N,M,U',L',s'),?_,⟨k+1,s',by omega,rfl,hp.sl,fun j' h=>hp.mono j' (p2 j' h),fun k' hk' hp' j' hj' hm'=>?_,p4.trans z4 hp.mono⟩,by simp only [jbf]; omega⟩
            ·unfold kaY
             simp only [hk1,if_true,f1,f2,jaj,hne,jai,if_false,hrec,decide_eq_false hr,hw]
            ·by_cases e:k'=k
             ·subst e; exact z3 j' hj' hm'
             ·exact hp.mono j' (p3 k' (by omega) hp' j' hj' hm')
         ·have hk2:¬ decide ((k:Int)<lenI U)=true:=by rw [hlU]; simp; omega
          have:k=n:=by omega
          subst this
          refine .inl ⟨.inr (N,M,U,L,s3),?_,.inr ⟨s3,rfl,p1,p2,p3,p4⟩⟩
          unfold kaY
          simp only [hk2,if_false]
          rfl)
        (0,N,M,U,L,s1.set j true) ⟨0,s1.set j true,by omega,rfl,hs2,fun _ h=>h,fun k' h=>by omega,fun j' _ h1 h2=>by rw [h1] at h2; cases h2⟩ (by simp only; omega)
       have hd':decide (0<imin most (la L j))=false:=decide_eq_false hd
       have hset:lset s1 (j:Int) true=s1.set j true:=rfl
       rcases hR with ⟨r,U',L',s',rfl,hp⟩ | ⟨s3,rfl,p1,p2,p3,p4⟩
       ·refine .inl ⟨.inl (r,N,M,U',L',s'),?_,.inl ⟨_,_,_,_,rfl,hp⟩⟩
        unfold kaL
        simp only [hlen,if_true,g1,g2,g3,jaj,hsj,jai,if_false,hd',hset,hz]
       ·have hm3:∀ j',sa s1 j'=true->sa s3 j'=true:=fun j' h=>p2 j' (by rw [klA (by omega)]; split; rfl; exact h)
        refine .inr ⟨((t+1:Nat),s3,N,M,U,L),?_,⟨t+1,s3,by omega,rfl,p1,hmon s3 p2,fun t' x ht' hx' j' hj'=>?_,fun j' hj' h1 h2=>?_⟩,by simp only [jbf]; omega⟩
        ·unfold kaL
         simp only [hlen,if_true,g1,g2,g3,jaj,hsj,jai,if_false,hd',hset,hz,hw]
        ·by_cases e:t'=t
         ·subst e
          rw [jae hlt,hxj] at hx'
          cases hx'
          have:j=j':=by omega
          subst this; exact hjt s3 p2
         ·exact hm3 j' (q3 t' x (by omega) hx' j' hj')
        ·cases e:sa s1 j' with
         | true=>exact q4.mono hm3 j' hj' e h2
         | false=>
          by_cases e2:j'=j
          ·subst e2
           exact ⟨hl0,fun k hk hp=>p3 k hk hp⟩
          ·exact p4 j' hj' h1 (by rw [klA (by omega),if_neg e2]; exact e)
    ·have:t=J.length:=by omega
     subst this
     refine .inl ⟨.inr (s1,L,U,N,M),?_,.inr ⟨s1,rfl,q1,q2,q3,q4⟩⟩
     unfold kaL
     rw [if_neg kbU])
   (0,s,N,M,U,L) ⟨0,s,by omega,rfl,hs,fun _ h=>h,fun t' x h=>by omega,fun j' _ h1 h2=>by rw [h1] at h2; cases h2⟩ (by simp only; omega)
  obtain ⟨z,hz,hR⟩:=key
  rw [hz]
  rcases hR with ⟨r,U',L',s',rfl,hp⟩ | ⟨s1,rfl,q1,q2,q3,q4⟩
  ·exact ⟨r,U',L',s',rfl,hp⟩
  ·refine ⟨0,U,L,s1,rfl,sh,q1,q2,v,fun _ _ _=>⟨rfl,fun _ _=>rfl⟩,by omega,by omega,by omega,fun _ _ _=>rfl,fun _=>⟨rfl,rfl,fun j hj hmj=>?_,q4⟩⟩
   obtain ⟨t',ht',e⟩:=jdg.1 (hJ2 j hj hmj)
   exact q3 t' (j:Int) ht' (by rw [jae ht',e]) j rfl
structure MayB (n m:Nat) (may:Nat->Nat->Prop) (B:List (List Bool)):Prop where
 l:B.length=n
 r:∀ k,k<n->(B.getD k []).length=m
 a:∀ k,k<n->∀ j,j<m->(sa (B.getD k []) j=true↔may k j)
variable {n m:Nat} {cap:Nat->Int} {may:Nat->Nat->Prop} {B:List (List Bool)}
variable {n m:Nat} {cap:Nat->Int} {may:Nat->Nat->Prop}
structure Gave (n m:Nat) (cap:Nat->Int) (may:Nat->Nat->Prop) (i:Nat) (most:Int) (U:List (List Int)) (g:Int) (U':List (List Int)) (L':List Int):Prop where
 sh:Shp n m U' L'
 v:Val n m cap may (ua U') (la L')
 g0:0<=g
 g1:g<=most
 ri:row m (ua U') i=row m (ua U) i+g
 ro:∀ k,k<n->k≠i->row m (ua U') k=row m (ua U) k
 st:g<most->∃ S,S i=true/\Sat n m may (ua U') (la L') S
theorem kyw {i:Nat} {most:Int} {U U':List (List Int)} {L L':List Int} {s':List Bool} (hi:i<n) (h:Post n m cap may i most U L (List.replicate m false) 0 U' L' s'):∃ S,S i=true/\Sat n m may (ua U') (la L') S:=by
 classical
 obtain ⟨e1,e2,h1,h2⟩:=h.z rfl
 subst e1 e2
 have h0:∀ j,sa (List.replicate m false) j=false:=fun j=>by
  unfold sa
  rw [jaz,jce]
  split <;> rfl
 obtain ⟨S,hS⟩:∃ S:Nat->Bool,∀ k,S k=true↔∀ j,j<m->may k j->sa s' j=true:=⟨fun k=>decide (∀ j,j<m->may k j->sa s' j=true),fun k=>by simp⟩
 exact ⟨S,(hS i).2 h1,fun k _ hk j hj hm=>(h2 j hj ((hS k).1 hk j hj hm) (h0 j)).1,fun k _ hk j hj hm k' hk' hp=>(hS k').2 ((h2 j hj ((hS k).1 hk j hj hm) (h0 j)).2 k' hk' hp)⟩
theorem kxA {U:List (List Int)} {L:List Int} (v:Val n m cap may (ua U) (la L)) {k:Nat} (hk:k<n):0<=row m (ua U) k:=kdB fun j hj=>v.nn k hk j hj
theorem kyb {M:List (List Int)} {N:List (Int×Int×Int)} (hM:MayL n m may M) (hn:n<=1000) (hm:m<=1000) (hc:∀ j,j<m->cap j<=1000) {i:Nat} {most:Int} {U:List (List Int)} {L:List Int} (hi:i<n) (h0:0<=most) (h1:most<=1000) (sh:Shp n m U L) (v:Val n m cap may (ua U) (la L)) :
  ∃ g U' L',kdi (i:Int) most N M U L=some (g,N,M,U',L')/\Gave n m cap may i most U g U' L':=by
 unfold kdi
 obtain ⟨z,hz,g,U',L',rfl,hg⟩:=iter_inv (F:=kcd (i:Int) most)
  (fun x=>∃ g U' L' s,x=(g,N,M,U',L',s)/\0<=g/\g<=most/\Shp n m U' L'/\Val n m cap may (ua U') (la L')/\row m (ua U') i=row m (ua U) i+g/\∀ k,k<n->k≠i->row m (ua U') k=row m (ua U) k) (fun x=>(most-x.1).toNat)
  (fun z=>∃ g U' L',z=(g,N,M,U',L')/\Gave n m cap may i most U g U' L')
  (fun x hx=>by
   obtain ⟨g,U',L',s,rfl,g0,g1,sh',v',ri,ro⟩:=hx
   by_cases hlt:g<most
   ·have hgm:gmk (lenI L') false=some (List.replicate m false):=by
     unfold gmk
     rw [kal,sh'.l,if_pos (by omega),jbf]
    have hw:w64 (most-g)=most-g:=keq (by omega) (by omega)
    obtain ⟨r,U2,L2,s2,hr,hp⟩:=kyf (N:=N) hM hn hc 1000000 i (most-g) U' L' (List.replicate m false) hi (by omega) sh' (by simp) v' (by
     have:uns (List.replicate m false)<=m:=by
      unfold uns
      have:=List.countP_le_length (p:=fun b=>!b) (l:=List.replicate m false)
      simpa using this
     omega)
    have hr':kfr (i:Int) (most-g) N M U' L' (List.replicate m false)=some (r,N,M,U2,L2,s2):=hr
    by_cases hz:r=0
    ·subst hz
     refine .inl ⟨(g,N,M,U2,L2),?_,g,U2,L2,rfl,hp.sh,hp.v,g0,g1,by rw [hp.ri,ri]; omega,fun k hk hne=>by rw [hp.ro k hk hne,ro k hk hne],fun _=>kyw hi hp⟩
     unfold kcd
     simp only [decide_eq_true hlt,if_true,hgm,hw,hr',jaj]
     rfl
    ·have a0:=hp.r0
     have a1:=hp.r1
     have hw2:w64 (g+r)=g+r:=keq (by omega) (by omega)
     refine .inr ⟨(g+r,N,M,U2,L2,s2),?_,⟨g+r,U2,L2,s2,rfl,by omega,by omega,hp.sh,hp.v,by rw [hp.ri,ri]; omega,fun k hk hne=>by rw [hp.ro k hk hne,ro k hk hne]⟩,by simp only; omega⟩
     unfold kcd
     have hb:(r==0)=false:=by simp [hz]
     simp only [decide_eq_true hlt,if_true,hgm,hw,hr',jaj,hb,jai,if_false,hw2]
   ·refine .inl ⟨(g,N,M,U',L'),?_,g,U',L',rfl,sh',v',g0,g1,ri,ro,fun h=>absurd h hlt⟩
    unfold kcd
    simp only [decide_eq_false hlt,jai,if_false])
  (0,N,M,U,L,[]) ⟨0,U,L,[],rfl,by omega,h0,sh,v,by omega,fun _ _ _=>rfl⟩ (by simp only; omega)
 exact ⟨g,U',L',by rw [hz]; rfl,hg⟩
def Canon (n m:Nat) (cap:Nat->Int) (may:Nat->Nat->Prop) (N:Nat->Int) (i:Nat) (r:Nat->Int):Prop:=
 ∀ k,k<i->(∃ u l,Val n m cap may u l/\(∀ k',k'<=k->row m u k'=r k')/\(∀ k',k<k'->k'<n->row m u k'=0)/\r k<=N k)/\
  ∀ u l,Val n m cap may u l->(∀ k',k'<k->row m u k'=r k')->(∀ k',k<k'->k'<n->row m u k'=0)->row m u k<=N k->row m u k<=r k
structure At (n m:Nat) (cap:Nat->Int) (may:Nat->Nat->Prop) (N:Nat->Int) (i:Nat) (U:List (List Int)) (L:List Int) (K:List Bool) (t:Int):Prop where
 sh:Shp n m U L
 v:Val n m cap may (ua U) (la L)
 z:∀ k,i<=k->k<n->row m (ua U) k=0
 c:Canon n m cap may N i (row m (ua U))
 le:∀ k,k<i->row m (ua U) k<=N k
 st:∀ k,k<i->row m (ua U) k<N k->∃ S,S k=true/\Sat n m may (ua U) (la L) S
 kl:K.length=n
 k1:∀ k,k<i->sa K k=decide (row m (ua U) k<N k)
 k0:∀ k,i<=k->sa K k=false
 t:t=sumN (row m (ua U)) i
theorem At.step {N:Nat->Int} {i:Nat} {U U':List (List Int)} {L L':List Int} {K:List Bool} {t g:Int} (h:At n m cap may N i U L K t) (hi:i<n) (hg:Gave n m cap may i (N i) U g U' L') :
  At n m cap may N (i+1) U' L' (K.set i (decide (g<N i))) (t+g):=by
 have r0:row m (ua U) i=0:=h.z i (jah _) hi
 have ri:row m (ua U') i=g:=by rw [hg.ri,r0]; omega
 have mono:∀ k,k<n->row m (ua U) k<=row m (ua U') k:=fun k hk=>by
  by_cases e:k=i
  ·subst e; have:=hg.g0; omega
  ·rw [hg.ro k hk e]; omega
 refine ⟨hg.sh,hg.v,fun k hk hkn=>by rw [hg.ro k hkn (by omega)]; exact h.z k (by omega) hkn,fun k hk=>?_,fun k hk=>?_,fun k hk hlt=>?_,by simp [h.kl],fun k hk=>?_,fun k hk=>?_,?_⟩
 ·by_cases e:k=i
  ·subst e
   refine ⟨⟨_,_,hg.v,fun _ _=>rfl,fun k' h1 h2=>by rw [hg.ro k' h2 (by omega)]; exact h.z k' (by omega) h2,by rw [ri]; exact hg.g1⟩,fun u l v a b c=>?_⟩
   by_cases hl:g<N k
   ·obtain ⟨S,s1,s2⟩:=hg.st hl
    exact kzE hg.v v s2 hi s1 fun k' hk' hne=>by
     by_cases hlt:k'<k
     ·rw [a k' hlt]; omega
     ·rw [b k' (by omega) hk',hg.ro k' hk' hne,h.z k' (by omega) hk']; omega
   ·have:=hg.g1; omega
  ·have hk':k<i:=by omega
   have same:∀ k',k'<=k->row m (ua U') k'=row m (ua U) k':=fun k' h'=>hg.ro k' (by omega) (by omega)
   obtain ⟨⟨u,l,v,a,b,c⟩,d⟩:=h.c k hk'
   refine ⟨⟨u,l,v,fun k' h'=>by rw [same k' h']; exact a k' h',b,by rw [same k (jah _)]; exact c⟩,fun u l v a b c=>?_⟩
   rw [same k (jah _)]
   exact d u l v (fun k' h'=>by rw [a k' h',same k' (by omega)]) b c
 ·by_cases e:k=i
  ·subst e; rw [ri]; exact hg.g1
  ·rw [hg.ro k (by omega) e]; exact h.le k (by omega)
 ·by_cases e:k=i
  ·subst e; rw [ri] at hlt; exact hg.st hlt
  ·rw [hg.ro k (by omega) e] at hlt
   obtain ⟨S,s1,s2⟩:=h.st k (by omega) hlt
   exact ⟨S,s1,(kus h.v hg.v s2 fun k' hk' _=>mono k' hk').1⟩
 ·rw [show sa (K.set i (decide (g<N i))) k=if k=i then decide (g<N i) else sa K k from kdU (by rw [h.kl]; exact hi)]
  by_cases e:k=i
  ·subst e; rw [if_pos rfl,ri]
  ·rw [if_neg e,hg.ro k (by omega) e]; exact h.k1 k (by omega)
 ·rw [show sa (K.set i (decide (g<N i))) k=if k=i then decide (g<N i) else sa K k from kdU (by rw [h.kl]; exact hi),if_neg (by omega)]
  exact h.k0 k (by omega)
 ·simp only [sumN]
  rw [ri,h.t,kax (f:=row m (ua U')) (g:=row m (ua U)) fun k hk=>hg.ro k (by omega) (by omega)]
variable {n m:Nat} {cap:Nat->Int} {may:Nat->Nat->Prop}
abbrev It3:=Int×Int×Int
def needN (N:List It3) (k:Nat):Int:=((N[k]?).getD (0,0,0)).2.2
theorem kpY {N:List It3} {k:Nat} (h:k<N.length):needN N k=N[k].2.2:=by unfold needN; rw [jae h]; rfl
theorem At.zero {U:List (List Int)} {L:List Int} {K:List Bool} (sh:Shp n m U L) (hu:∀ k,k<n->∀ j,j<m->ua U k j=0) (hl:∀ j,j<m->la L j=cap j) (hc:∀ j,j<m->0<=cap j) (N:Nat->Int) (hK:K=List.replicate n false):At n m cap may N 0 U L K 0:=by
 have hz:∀ k,k<n->row m (ua U) k=0:=fun k hk=>by
  unfold row
  rw [kax (g:=fun _=>0) fun j hj=>hu k hk j hj,klH]
 refine ⟨sh,⟨fun k hk j hj=>by rw [hu k hk j hj]; exact jdu _,fun k hk j hj h=>by rw [hu k hk j hj] at h; omega,fun j hj=>by rw [hl j hj]; exact hc j hj,fun j hj=>?_⟩,fun k _ hk=>hz k hk,fun k hk=>by omega,fun k hk=>by omega,fun k hk=>by omega,by simp [hK],fun k hk=>by omega,fun k _=>?_,rfl⟩
 ·rw [hl j hj,kax (g:=fun _=>0) fun k hk=>hu k hk j hj,klH]; omega
 ·subst hK
  unfold sa
  rw [jaz,jce]
  split <;> rfl
theorem kzR {U:List (List Int)} {L:List Int} {K:List Bool} {N:Nat->Int} {i:Nat} {t:Int} (h:At n m cap may N i U L K t) (hi:i<=n) (hN:∀ k,k<n->N k<=1000):0<=t/\t<=1000*i:=by
 rw [h.t]
 have h1:∀ k,k<i->0<=row m (ua U) k/\row m (ua U) k<=1000:=fun k hk=>⟨kxA h.v (by omega),Int.le_trans (h.le k hk) (hN k (by omega))⟩
 generalize row m (ua U)=r at h1
 clear h
 induction i with
 | zero=>simp [sumN]
 | succ i ih=>
  obtain ⟨a,b⟩:=ih (by omega) fun k hk=>h1 k (by omega)
  obtain ⟨c,d⟩:=h1 i (by omega)
  simp only [sumN]
  push_cast
  omega
theorem kAb {M:List (List Int)} {N:List It3} {X:List It3} (hM:MayL n m may M) (hX:X.length=n) (hn:n<=1000) (hm:m<=1000) (hc:∀ j,j<m->cap j<=1000) (hN:∀ k,k<n->0<=needN X k/\needN X k<=1000) {U:List (List Int)} {L:List Int} {K:List Bool} (h:At n m cap may (needN X) 0 U L K 0) :
  ∃ t U' L' K',iter (kgQ X) (0,0,N,M,U,L,K)=some (t,N,M,U',L',K')/\At n m cap may (needN X) n U' L' K' t:=by
 obtain ⟨z,hz,t,U',L',K',rfl,hA⟩:=iter_inv (F:=kgQ X)
  (fun x=>∃ (i:Nat) (t:Int) (U:List (List Int)) (L:List Int) (K:List Bool),i<=n/\x=((i:Int),t,N,M,U,L,K)/\At n m cap may (needN X) i U L K t) (fun x=>n-x.1.toNat)
  (fun z=>∃ t U L K,z=(t,N,M,U,L,K)/\At n m cap may (needN X) n U L K t)
  (fun x hx=>by
   obtain ⟨i,t,U,L,K,hi,rfl,hA⟩:=hx
   by_cases hlt:i<n
   ·obtain ⟨g,U',L',hg,hG⟩:=kyb (N:=N) hM hn hm hc hlt (hN i hlt).1 (hN i hlt).2 hA.sh hA.v
    have g1:gi X (i:Int)=some X[i]:=kaz (by omega)
    have g2:=kpY (N:=X) (k:=i) (by omega)
    have g3:gi K (i:Int)=some (sa K i):=gs hA.kl hlt
    have hb:=kzR hA (by omega) fun k hk=>(hN k hk).2
    have hb2:=hG.g0
    have hb3:=hG.g1
    have hb4:=(hN i hlt).2
    have hw:w64 ((i:Int)+1)=((i+1:Nat):Int):=kar (by omega)
    have hw2:w64 (t+g)=t+g:=keq (by omega) (by omega)
    have hlen:decide ((i:Int)<lenI X)=true:=lenI_lt.2 (by omega)
    refine .inr ⟨((i+1:Nat),t+g,N,M,U',L',K.set i (decide (g<needN X i))),?_,⟨i+1,t+g,U',L',_,by omega,rfl,hA.step hlt hG⟩,by simp only [jbf]; omega⟩
    unfold kgQ
    rw [g2] at hg
    simp only [hlen,if_true,g1,hg,g3,jaj,hw,hw2,g2]
    rfl
   ·have:i=n:=by omega
    subst this
    refine .inl ⟨(t,N,M,U,L,K),?_,t,U,L,K,rfl,hA⟩
    unfold kgQ
    rw [if_neg (by rw [<-hX]; exact kbU)])
  (0,0,N,M,U,L,K) ⟨0,0,U,L,K,by omega,rfl,h⟩ (by simp only; omega)
 exact ⟨t,U',L',K',hz,hA⟩
variable {n m:Nat} {cap:Nat->Int} {may:Nat->Nat->Prop}
def Edg (m:Nat) (may:Nat->Nat->Prop) (U:List (List Int)) (i k:Nat):Prop:=∃ j,j<m/\may i j/\0<ua U k j
structure Vis (n m:Nat) (may:Nat->Nat->Prop) (U:List (List Int)) (i:Nat) (s s':List Bool):Prop where
 l:s'.length=n
 mono:∀ k,sa s k=true->sa s' k=true
 at0:sa s' i=true
 r:∀ P:Nat->Prop,(∀ a b,b<n->P a->Edg m may U a b->P b)->P i->∀ k,sa s' k=true->sa s k=false->P k
 c:∀ k,sa s' k=true->sa s k=false->∀ k',k'<n->Edg m may U k k'->sa s' k'=true
theorem kwN {M:List (List Int)} {N:List It3} {U:List (List Int)} {L:List Int} (hM:MayL n m may M) (hn:n<=1000) (sh:Shp n m U L):∀ (fuel i:Nat) (s:List Bool),i<n->s.length=n->uns s<fuel->
  ∃ s',kaM fuel (i:Int) s (some (N,M,U,L))=some (s',some (N,M,U,L))/\Vis n m may U i s s':=by
 intro fuel
 induction fuel with
 | zero=>intro i s _ _ h; omega
 | succ fuel ih=>
  intro i s hi hs hf
  unfold kaM kgH
  have g0:gi s (i:Int)=some (sa s i):=gs hs hi
  cases hsi:sa s i with
  | true=>
   refine ⟨s,by simp only [g0,hsi,jaj,if_true],hs,fun _ h=>h,hsi,fun P _ _ k h1 h2=>?_,fun k h1 h2=>?_⟩
   ·rw [h1] at h2; cases h2
   ·rw [h1] at h2; cases h2
  | false=>
  have gM:gi M (i:Int)=some (M.getD i []):=gi_D [] (by rw [hM.l]; exact hi)
  generalize hJ:M.getD i []=J at gM
  have hJ1:∀ x∈J,∃ j,j<m/\x=(j:Int)/\may i j:=by rw [<-hJ]; exact hM.a i hi
  have hJ2:∀ j,j<m->may i j->(j:Int)∈J:=by rw [<-hJ]; exact hM.b i hi
  have hJl:J.length<=1000:=by rw [<-hJ]; exact hM.s i hi
  have hset:lset s (i:Int) true=s.set i true:=rfl
  have hs0:(s.set i true).length=n:=by simp [hs]
  have hu0:uns (s.set i true)<fuel:=by have:=ksb (s:=s) (j:=i) (by omega) hsi; omega
  have sis:∀ k,sa (s.set i true) k=if k=i then true else sa s k:=klA (by omega)
  let Q:List Bool->Prop:=fun s1=>s1.length=n/\(∀ k,sa (s.set i true) k=true->sa s1 k=true)/\
   (∀ P:Nat->Prop,(∀ a b,b<n->P a->Edg m may U a b->P b)->P i->∀ k,sa s1 k=true->sa s k=false->P k)/\
   (∀ k,sa s1 k=true->sa (s.set i true) k=false->∀ k',k'<n->Edg m may U k k'->sa s1 k'=true)
  have hQu:∀ s1,Q s1->uns s1<fuel:=fun s1 q=>by
   have:=klY (s:=s.set i true) (s':=s1) (by rw [q.1,hs0]) q.2.1
   omega
  have hlU:lenI U=(n:Int):=by rw [kal,sh.u]
  obtain ⟨z,hz,s',rfl,q1,q2⟩:=iter_inv (F:=kbX (kaM fuel) J)
   (fun x=>∃ t s1,t<=J.length/\x=((t:Int),some (N,M,U,L),s1)/\Q s1/\∀ (t':Nat) (j:Nat),t'<t->J[t']?=some (j:Int)->∀ k',k'<n->0<ua U k' j->sa s1 k'=true) (fun x=>J.length-x.1.toNat)
   (fun z=>∃ s1,z=(some (N,M,U,L),s1)/\Q s1/\∀ (t':Nat) (j:Nat),t'<J.length->J[t']?=some (j:Int)->∀ k',k'<n->0<ua U k' j->sa s1 k'=true)
   (fun x hx=>by
    obtain ⟨t,s1,ht,rfl,q,qt⟩:=hx
    by_cases hlt:t<J.length
    ·obtain ⟨j,hj,hxj,hmj⟩:=hJ1 J[t] (jde hlt)
     have g1:gi J (t:Int)=some (j:Int):=by rw [kaz hlt,hxj]
     have hw:w64 ((t:Int)+1)=((t+1:Nat):Int):=kar (by omega)
     have hlen:decide ((t:Int)<lenI J)=true:=lenI_lt.2 hlt
     obtain ⟨z,hz,s3,rfl,p1,p2,p3⟩:=iter_inv (F:=kbp (kaM fuel) (j:Int) (N,M,U,L))
      (fun x=>∃ k s3,k<=n/\x=((k:Int),some (N,M,U,L),s3)/\Q s3/\(∀ k',sa s1 k'=true->sa s3 k'=true)/\∀ k',k'<k->0<ua U k' j->sa s3 k'=true) (fun x=>n-x.1.toNat)
      (fun z=>∃ s3,z=(some (N,M,U,L),s3)/\Q s3/\(∀ k',sa s1 k'=true->sa s3 k'=true)/\∀ k',k'<n->0<ua U k' j->sa s3 k'=true)
      (fun x hx=>by
       obtain ⟨k,s3,hk,rfl,p1,p2,p3⟩:=hx
       by_cases hkn:k<n
       ·have hw:w64 ((k:Int)+1)=((k+1:Nat):Int):=kar (by omega)
        have hk1:decide ((k:Int)<lenI U)=true:=by rw [hlU]; simp; omega
        have f1:=sh.gu hkn
        have f2:=sh.guj hkn hj
        by_cases hp:0<ua U k j
        ·obtain ⟨s4,hr,v⟩:=ih k s3 hkn p1.1 (hQu s3 p1)
         refine .inr ⟨((k+1:Nat),some (N,M,U,L),s4),?_,⟨k+1,s4,by omega,rfl,⟨v.l,fun k' h=>v.mono k' (p1.2.1 k' h),fun P hP hPi k' h1 h2=>?_,fun k' h1 h2 k2 hk2 he=>?_⟩,fun k' h=>v.mono k' (p2 k' h),fun k' hk' hp'=>?_⟩,by simp only [jbf]; omega⟩
         ·unfold kbp
          simp only [hk1,if_true,f1,f2,jaj,decide_eq_true hp,hr,hw]
         ·cases h3:sa s3 k' with
          | true=>exact p1.2.2.1 P hP hPi k' h3 h2
          | false=>exact v.r P hP (hP i k hkn hPi ⟨j,hj,hmj,hp⟩) k' h1 h3
         ·cases h3:sa s3 k' with
          | true=>exact v.mono _ (p1.2.2.2 k' h3 h2 k2 hk2 he)
          | false=>exact v.c k' h1 h3 k2 hk2 he
         ·by_cases e:k'=k
          ·subst e; exact v.at0
          ·exact v.mono _ (p3 k' (by omega) hp')
        ·refine .inr ⟨((k+1:Nat),some (N,M,U,L),s3),?_,⟨k+1,s3,by omega,rfl,p1,p2,fun k' hk' hp'=>?_⟩,by simp only [jbf]; omega⟩
         ·unfold kbp
          simp only [hk1,if_true,f1,f2,jaj,decide_eq_false hp,jai,if_false,hw]
         ·by_cases e:k'=k
          ·subst e; exact absurd hp' hp
          ·exact p3 k' (by omega) hp'
       ·have hk2:¬ decide ((k:Int)<lenI U)=true:=by rw [hlU]; simp; omega
        have:k=n:=by omega
        subst this
        refine .inl ⟨(some (N,M,U,L),s3),?_,s3,rfl,p1,p2,p3⟩
        unfold kbp
        simp only [hk2,if_false]
        rfl)
      (0,some (N,M,U,L),s1) ⟨0,s1,by omega,rfl,q,fun _ h=>h,fun k' h=>by omega⟩ (by simp only; omega)
     refine .inr ⟨((t+1:Nat),some (N,M,U,L),s3),?_,⟨t+1,s3,by omega,rfl,p1,fun t' j' ht' hx' k' hk' hp'=>?_⟩,by simp only [jbf]; omega⟩
     ·unfold kbX
      simp only [hlen,if_true,g1,jaj,hz,hw]
     ·by_cases e:t'=t
      ·subst e
       rw [jae hlt,hxj] at hx'
       have:j=j':=by injection hx' with h; omega
       subst this; exact p3 k' hk' hp'
      ·exact p2 _ (qt t' j' (by omega) hx' k' hk' hp')
    ·have:t=J.length:=by omega
     subst this
     refine .inl ⟨(some (N,M,U,L),s1),?_,s1,rfl,q,qt⟩
     unfold kbX
     rw [if_neg kbU])
   (0,some (N,M,U,L),s.set i true) ⟨0,s.set i true,by omega,rfl,⟨hs0,fun _ h=>h,fun P hP hPi k h1 h2=>(by
    rw [sis] at h1
    by_cases e:k=i
    ·rw [e]; exact hPi
    ·rw [if_neg e,h2] at h1; cases h1),fun k h1 h2=>(by rw [h1] at h2; cases h2)⟩,fun t' j h=>by omega⟩ (by simp only; omega)
  refine ⟨s',by simp only [g0,hsi,jaj,jai,if_false,gM,hset,hz],q1.1,fun k h=>q1.2.1 k (by rw [sis]; split; rfl; exact h),q1.2.1 i (by rw [sis,if_pos rfl]),q1.2.2.1,fun k h1 h2 k' hk' he=>?_⟩
  by_cases e:k=i
  ·subst e
   obtain ⟨j,hj,hm,hp⟩:=he
   obtain ⟨t',ht',e⟩:=jdg.1 (hJ2 j hj hm)
   exact q2 t' j ht' (by rw [jae ht',e]) k' hk' hp
  ·exact q1.2.2.2 k h1 (by rw [sis,if_neg e]; exact h2) k' hk' he
def idx (s:List Bool) (n:Nat):List Int:=((List.range n).filter fun k=>sa s k).map fun (k:Nat)=>(k:Int)
theorem kyG (s:List Bool) (n:Nat):idx s (n+1)=if sa s n=true then idx s n++[(n:Int)] else idx s n:=by
 unfold idx
 rw [List.range_succ,List.filter_append,jcn]
 cases h:sa s n <;> simp [h]
theorem krV (s:List Bool) (n:Nat):(idx s n).length<=n:=by
 unfold idx
 rw [jar]
 exact jcy (List.length_filter_le _ _) (by simp)
theorem collect {F:Int×List Int->Option ((Int×List Int)⊕List Int)} {s:List Bool} (hs:s.length<=1000)
  (h1:∀ (i:Nat) (l:List Int),i<s.length->l.length<=1000->F ((i:Int),l)=some (.inl (((i+1:Nat):Int),if sa s i=true then l++[(i:Int)] else l))) (h2:∀ l,F ((s.length:Int),l)=some (.inr l)):iter F (0,[])=some (idx s s.length):=by
 obtain ⟨z,hz,rfl⟩:=iter_inv (F:=F) (fun x=>∃ i:Nat,i<=s.length/\x=((i:Int),idx s i)) (fun x=>s.length-x.1.toNat) (fun z=>z=idx s s.length)
  (fun x hx=>by
   obtain ⟨i,hi,rfl⟩:=hx
   by_cases hlt:i<s.length
   ·exact .inr ⟨_,h1 i _ hlt (by have:=krV s i; omega),⟨i+1,by omega,by rw [kyG]⟩,by simp only [jbf]; omega⟩
   ·have:i=s.length:=by omega
    subst this
    exact .inl ⟨_,h2 _,rfl⟩)
  (0,[]) ⟨0,by omega,rfl⟩ (by simp only; omega)
 exact hz
theorem kzA {M:List (List Int)} {N:List It3} {U:List (List Int)} {L:List Int} {K:List Bool} (hM:MayL n m may M) (hn:n<=1000) (hmm:m<=1000) (sh:Shp n m U L) (hK:K.length=n) :
  ∃ s,s.length=n/\kcC (some (N,M,U,L)) K=some (idx s n)/\∀ k,k<n->(sa s k=true↔Rch n m may (ua U) (fun k=>sa K k=true) k):=by
 unfold kcC
 have hg:gmk (lenI K) false=some (List.replicate n false):=by
  unfold gmk
  rw [kal,hK,if_pos (by omega),jbf]
 have h0:∀ j,sa (List.replicate n false) j=false:=fun j=>by
  unfold sa
  rw [jaz,jce]
  split <;> rfl
 obtain ⟨z,hz,q1,q2,q3,q4⟩:=iter_inv (F:=kbP K)
  (fun x=>∃ (i:Nat) (s:List Bool),i<=n/\x=((i:Int),s,some (N,M,U,L))/\s.length=n/\(∀ k,k<i->sa K k=true->sa s k=true)/\(∀ k,sa s k=true->Rch n m may (ua U) (fun k=>sa K k=true) k)/\(∀ k,sa s k=true->∀ k',k'<n->Edg m may U k k'->sa s k'=true)) (fun x=>n-x.1.toNat)
  (fun s=>s.length=n/\(∀ k,k<n->sa K k=true->sa s k=true)/\(∀ k,sa s k=true->Rch n m may (ua U) (fun k=>sa K k=true) k)/\(∀ k,sa s k=true->∀ k',k'<n->Edg m may U k k'->sa s k'=true))
  (fun x hx=>by
   obtain ⟨i,s,hi,rfl,q1,q2,q3,q4⟩:=hx
   by_cases hlt:i<n
   ·have g1:gi K (i:Int)=some (sa K i):=gs hK hlt
    have hw:w64 ((i:Int)+1)=((i+1:Nat):Int):=kar (by omega)
    have hlen:decide ((i:Int)<lenI K)=true:=lenI_lt.2 (by omega)
    cases hk:sa K i with
    | true=>
     obtain ⟨s',hv,v⟩:=kwN (N:=N) hM hn sh 1000000 i s hlt q1 (by
      have:uns s<=n:=by
       unfold uns
       have:=List.countP_le_length (p:=fun b=>!b) (l:=s)
       omega
      omega)
     have hv':keT (i:Int) s (some (N,M,U,L))=some (s',some (N,M,U,L)):=hv
     refine .inr ⟨((i+1:Nat),s',some (N,M,U,L)),?_,⟨i+1,s',by omega,rfl,v.l,fun k hk' hK'=>?_,fun k h=>?_,fun k h k' hk' he=>?_⟩,by simp only [jbf]; omega⟩
     ·unfold kbP
      simp only [hlen,if_true,g1,hk,hv',jaj,hw]
     ·by_cases e:k=i
      ·subst e; exact v.at0
      ·exact v.mono _ (q2 k (by omega) hK')
     ·cases h3:sa s k with
      | true=>exact q3 k h3
      | false=>exact v.r (fun k=>Rch n m may (ua U) (fun k=>sa K k=true) k) (fun a b hb hP he=>by
        obtain ⟨j,hj,hm,hp⟩:=he
        exact .step hP hj hm hb hp) (.base hlt hk) k h h3
     ·cases h3:sa s k with
      | true=>exact v.mono _ (q4 k h3 k' hk' he)
      | false=>exact v.c k h h3 k' hk' he
    | false=>
     refine .inr ⟨((i+1:Nat),s,some (N,M,U,L)),?_,⟨i+1,s,by omega,rfl,q1,fun k hk' hK'=>?_,q3,q4⟩,by simp only [jbf]; omega⟩
     ·unfold kbP
      simp only [hlen,if_true,g1,hk,jaj,jai,if_false,hw]
     ·by_cases e:k=i
      ·subst e; rw [hk] at hK'; cases hK'
      ·exact q2 k (by omega) hK'
   ·have:i=n:=by omega
    subst this
    refine .inl ⟨s,?_,q1,q2,q3,q4⟩
    unfold kbP
    rw [if_neg (by rw [<-hK]; exact kbU)])
  (0,List.replicate n false,some (N,M,U,L)) ⟨0,_,by omega,rfl,by simp,fun k h=>by omega,fun k h=>(by rw [h0] at h; cases h),fun k h=>(by rw [h0] at h; cases h)⟩ (by simp only; omega)
 refine ⟨z,q1,?_,fun k hk=>⟨q3 k,fun h=>?_⟩⟩
 ·rw [hg]
  simp only [jaj,hz]
  rw [collect (s:=z) (F:=kcT z) (by omega) (fun i l hi hl=>by
   have g:gi z (i:Int)=some (sa z i):=gs rfl hi
   have hw:w64 ((i:Int)+1)=((i+1:Nat):Int):=kar (by omega)
   unfold kcT
   simp only [lenI_lt.2 hi,if_true,g,jaj,hw]
   cases sa z i with
   | true=>simp only [if_true]; rw [khy (by simp; omega)]; rfl
   | false=>rfl) (fun l=>by unfold kcT; rw [if_neg kbU])]
  rw [q1]; rfl
 ·induction h with
  | base a b=>exact q2 _ a b
  | step a b c d e ih=>exact q4 _ (ih a.lt) _ d ⟨_,b,c,e⟩
end Go.Abs.Fl
namespace Go.Abs
open Go Go.Abs.Fl
theorem kqB {a b:List It} (ha:a.length<=1000) (hb:b.length<=1000):kcl [a,b]=some (if stk a=true/\stk b=true then 0 else 8):=by
 unfold kcl
 rw [keO (F:=kgf [a,b]) [a,b] (by simp) (fun i x=>if stk x then none else some 8) (fun i hi=>by
  have h2:i<2:=by simpa using hi
  unfold kgf
  rw [if_pos (by rw [kal]; simp; omega),kaz hi,kar (by omega)]
  have hl:[a,b][i].length<=1000:=by
   have:[a,b][i]∈[a,b]:=jde _
   simp only [jbp,List.not_mem_nil,or_false] at this
   rcases this with e | e <;> rw [e] <;> assumption
  simp only [jaj,kty _ hl]
  by_cases h:stk [a,b][i]=true <;> simp [h,nextL]) (by unfold kgf; rw [if_neg (by simp [kal])])]
 simp only [jbi,List.zipIdx_nil,jdn,List.findSome?_nil]
 by_cases h1:stk a=true <;> by_cases h2:stk b=true <;> simp [h1,h2,endL]
theorem lots1 (l:List It):∃ b,khS l=some b/\(b=false->l.length<=40):=by
 unfold khS
 rw [kal]
 by_cases hl:(40:Int)<l.length
 ·exact ⟨true,by rw [if_pos (by simpa using hl)],fun h=>by cases h⟩
 ·rw [if_neg (by simpa using hl)]
  have:∀ (k i:Nat) (v:Int),i+k=l.length->∃ r,itN (kfe l) (k+1) ((i:Int),v)=some r:=by
   intro k
   induction k with
   | zero=>
    intro i v h
    refine ⟨v,kmc ?_⟩
    unfold kfe
    rw [if_neg (by rw [kal]; simp; omega)]
   | succ k ih=>
    intro i v h
    have hi:i<l.length:=by omega
    by_cases hw:(decide (0<=l[i].2.2)&&decide (l[i].2.2<=1000))=true
    ·obtain ⟨r,hr⟩:=ih (i+1) (w64 (v+l[i].2.2)) (by omega)
     refine ⟨r,?_⟩
     rw [<-hr]
     refine kqS ?_
     unfold kfe
     rw [if_pos (by rw [kal]; simpa using hi),kaz hi,kar (by omega)]
     simp only [jaj,khX,hw,if_true]
    ·obtain ⟨r,hr⟩:=ih (i+1) v (by omega)
     refine ⟨r,?_⟩
     rw [<-hr]
     refine kqS ?_
     unfold kfe
     rw [if_pos (by rw [kal]; simpa using hi),kaz hi,kar (by omega)]
     simp only [jaj,khX,hw,if_false]
     rw [if_neg (by simp)]
  obtain ⟨r,hr⟩:=this l.length 0 0 (by omega)
  refine ⟨decide (8000<r),?_,fun _=>by omega⟩
  rw [show ((0:Int),(0:Int))=(((0:Nat):Int),0) from rfl,ksg hr (by omega)]; rfl
theorem kzk (a b:List It):∃ c,kjO [a,b]=some c/\(c=false->a.length<=40/\b.length<=40):=by
 obtain ⟨u,hu,hu2⟩:=lots1 a
 obtain ⟨v,hv,hv2⟩:=lots1 b
 refine ⟨u||v,?_,fun h=>?_⟩
 ·unfold kjO
  rw [keO (F:=khg [a,b]) [a,b] (by simp) (fun i x=>if khS x=some true then some true else none) (fun i hi=>by
   have h2:i<2:=by simpa using hi
   unfold khg
   rw [if_pos (by rw [kal]; simp; omega),kaz hi,kar (by omega)]
   have hm:[a,b][i]∈[a,b]:=jde _
   simp only [jbp,List.not_mem_nil,or_false] at hm
   simp only [jaj]
   rcases hm with e | e
   ·rw [e,hu]; cases u <;> simp [nextL]
   ·rw [e,hv]; cases v <;> simp [nextL]) (by unfold khg; rw [if_neg (by simp [kal])])]
  simp only [jbi,List.zipIdx_nil,jdn,List.findSome?_nil,hu,hv]
  cases u <;> cases v <;> simp [endL]
 ·rw [jdh] at h
  exact ⟨hu2 h.1,hv2 h.2⟩
def pOk (k c:Int):Bool:=decide (0<=k)&&decide (k<=15)&&decide (c<=15)
theorem kzt (x:Int×Int):kbJ x=some (pOk x.1 x.2):=kjK (x.1,x.2,0)
theorem kxD (k c:Int):kdm k c=some (pOk k c):=kkY (k,c,0)
def swBad (x:Swap):Bool:=!pOk x.1 x.2.1||!pOk x.2.2.1 x.2.2.2||(x.1==x.2.2.1&&x.2.1==x.2.2.2)
def swE (l:List Swap):Int:=if l.length<=30/\l.any swBad=false then 0 else 2
theorem knC {α:Type} {f:α->α->Bool} (h:∀ x,f x x=true):∀ l:List α,lbeq f l l=true
 | []=>rfl
 | x::l=>by simp [lbeq,h x,knC h l]
theorem khG {t:Ty} {x:t.den} (h:teq t x x=true):bthO t (some x) (some x)=some x:=by
 unfold bthO
 simp only [h,if_true]
theorem kxm (x:Swap):bthO tSwap (some x) (some x)=some x:=khG (by simp [teq])
theorem c1_eq (x:Swap):kcM x=some (swBad x):=by
 unfold kcM swBad
 rw [kxm]
 simp only [jaj,kzt]
 cases pOk x.1 x.2.1 <;> cases pOk x.2.2.1 x.2.2.2 <;> simp
theorem koK (l:List Swap) (hl:l.length<=1000):kda l=some (swE l):=by
 unfold kda swE
 rw [kal]
 by_cases h30:(30:Int)<l.length
 ·rw [if_pos (by simpa using h30),if_neg (by omega)]
 ·rw [if_neg (by simpa using h30)]
  unfold kaW kbe
  have e:(fun u0:Swap=>(kcM u0).bind fun u1=>some u1)=fun u=>some (swBad u):=by funext u; rw [c1_eq]; rfl
  rw [e,keO (F:=kaE l _) l (by omega) (fun i x=>if swBad x then some (i:Int) else none) (fun i hi=>by
   unfold kaE
   rw [if_pos (by rw [kal]; simpa using hi),kaz hi,kar (by omega)]
   simp only [jaj]
   by_cases h:swBad l[i]=true <;> simp [h,nextL]) (by unfold kaE; rw [if_neg (by simp [kal])])]
  have:∀ (l:List Swap) (k:Nat),(endL ((l.zipIdx k).findSome? fun x=>if swBad x.1 then some (x.2:Int) else none) = .inr ()/\l.any swBad=false)\/∃ p:Int,0<=p/\endL ((l.zipIdx k).findSome? fun x=>if swBad x.1 then some (x.2:Int) else none) = .inl p/\l.any swBad=true:=by
   intro l
   induction l with
   | nil=>intro k; exact .inl ⟨rfl,rfl⟩
   | cons x l ih=>
    intro k
    rw [jbi,jdn,jdv]
    cases hp:swBad x with
    | true=>exact .inr ⟨k,by omega,by simp [endL],by simp⟩
    | false=>
     simp only [jai,if_false,jcq]
     exact ih (k+1)
  rcases this l 0 with ⟨h1,h2⟩ | ⟨p,hp,h1,h2⟩
  ·rw [h1,h2]
   have h30':l.length<=30:=by omega
   simp [h30']
  ·rw [h1,h2]
   simp only [jaj,decide_eq_true hp,if_true]
   rw [if_neg (by simp)]
theorem knh (l:List Swap):khn l=some (swE l):=by
 unfold khn kfj swE
 rw [kal]
 by_cases h30:(30:Int)<l.length
 ·rw [if_pos (by simpa using h30),if_neg (by omega)]; rfl
 ·rw [if_neg (by simpa using h30),kjt (F:=kge l) false l (by omega) (fun _ x=>swBad x) (fun i hi=>by
   unfold kge
   rw [if_pos (by rw [kal]; simpa using hi),kaz hi,kar (by omega)]
   simp only [jaj,kxD]
   unfold swBad
   cases pOk l[i].1 l[i].2.1 <;> cases pOk l[i].2.2.1 l[i].2.2.2 <;> cases (l[i].1==l[i].2.2.1) <;> cases (l[i].2.1==l[i].2.2.2) <;> simp) (by unfold kge; rw [if_neg (by simp [kal])])]
  rw [krp swBad l 0]
  cases h:l.any swBad with
  | true=>simp
  | false=>simp; omega
def mayB (sw:List Swap) (a b:Int×Int):Bool:=(a.1==b.1&&a.2==b.2)||sw.any fun v=>a.1==v.1&&(a.2==v.2.1&&(b.1==v.2.2.1&&b.2==v.2.2.2))
theorem kwC (sw:List Swap) (hl:sw.length<=1000) (a b:Int×Int):kjY sw a b=some (mayB sw a b):=by
 unfold kjY mayB
 cases hc:(a.1==b.1&&a.2==b.2) with
 | true=>simp
 | false=>
  simp only [jai,if_false,jcq]
  unfold kbl kbC
  let q:Swap->Bool:=fun v=>a.1==v.1&&(a.2==v.2.1&&(b.1==v.2.2.1&&b.2==v.2.2.2))
  rw [keO (F:=kaO sw _) sw (by omega) (fun i x=>if q x then some (i:Int) else none) (fun i hi=>by
   unfold kaO
   rw [if_pos (by rw [kal]; simpa using hi),kaz hi,kar (by omega)]
   simp only [jaj]
   by_cases h:q sw[i]=true
   ·have h':=h
    simp only [q] at h'
    rw [if_pos h',if_pos h]; rfl
   ·have h':=h
    simp only [q] at h'
    rw [if_neg h',if_neg h]; rfl) (by unfold kaO; rw [if_neg (by simp [kal])])]
  have:∀ (l:List Swap) (k:Nat),(endL ((l.zipIdx k).findSome? fun x=>if q x.1 then some (x.2:Int) else none) = .inr ()/\l.any q=false)\/∃ p:Int,0<=p/\endL ((l.zipIdx k).findSome? fun x=>if q x.1 then some (x.2:Int) else none) = .inl p/\l.any q=true:=by
   intro l
   induction l with
   | nil=>intro k; exact .inl ⟨rfl,rfl⟩
   | cons x l ih=>
    intro k
    rw [jbi,jdn,jdv]
    cases hp:q x with
    | true=>exact .inr ⟨k,by omega,by simp [endL],by simp⟩
    | false=>
     simp only [jai,if_false,jcq]
     exact ih (k+1)
  rcases this sw 0 with ⟨h1,h2⟩ | ⟨p,hp,h1,h2⟩
  ·rw [h1,h2]; rfl
  ·rw [h1,h2]
   simp only [jaj,decide_eq_true hp]
theorem ktF (sw:List Swap) (hl:sw.length<=1000) (a b:Int×Int):kjd sw a.1 a.2 b.1 b.2=some (mayB sw a b):=by
 unfold kjd mayB
 have h0:(if (a.1==b.1)=true then some (a.2==b.2) else some false)=some (a.1==b.1&&a.2==b.2):=by cases (a.1==b.1) <;> simp
 rw [h0]
 simp only [jaj]
 cases hc:(a.1==b.1&&a.2==b.2) with
 | true=>simp
 | false=>
  simp only [jai,if_false,jcq]
  rw [kjt (F:=kii sw a.1 a.2 b.1 b.2) true sw (by omega) (fun _ v=>a.1==v.1&&(a.2==v.2.1&&(b.1==v.2.2.1&&b.2==v.2.2.2))) (fun i hi=>by
   unfold kii
   rw [if_pos (by rw [kal]; simpa using hi),kaz hi,kar (by omega)]
   have e:(sw[i].1==a.1&&(sw[i].2.1==a.2&&(sw[i].2.2.1==b.1&&sw[i].2.2.2==b.2)))=(a.1==sw[i].1&&(a.2==sw[i].2.1&&(b.1==sw[i].2.2.1&&b.2==sw[i].2.2.2))):=by
    rw [Bool.beq_comm (a:=sw[i].1),Bool.beq_comm (a:=sw[i].2.1),Bool.beq_comm (a:=sw[i].2.2.1),Bool.beq_comm (a:=sw[i].2.2.2)]
   simp only [jaj,e]
   split <;> rfl) (by unfold kii; rw [if_neg (by simp [kal])])]
  rw [krp (fun v:Swap=>a.1==v.1&&(a.2==v.2.1&&(b.1==v.2.2.1&&b.2==v.2.2.2))) sw 0]
  cases sw.any fun v=>a.1==v.1&&(a.2==v.2.1&&(b.1==v.2.2.1&&b.2==v.2.2.2)) <;> rfl
def noFn:Ty->Bool
 | .fn _ _ _=>false
 | .pr p q | .sm p q=>noFn p&&noFn q
 | .w p | .pt p | .sl p | .op p | .ar _ p=>noFn p
 | _=>true
theorem kbR:∀ (t:Ty),noFn t=true->∀ x,teq t x x=true
 | .i _,_,x=>by simp [teq]
 | .b,_,x=>by simp [teq]
 | .s,_,x=>by simp [teq]
 | .un,_,x=>rfl
 | .nt,_,x=>by simp [teq]
 | .pr p q,h,x=>by
  simp only [noFn,jac] at h
  simp [teq,kbR p h.1,kbR q h.2]
 | .w a,h,x=>kbR a h x
 | .pt a,h,x=>kbR a h x
 | .sl a,h,x=>knC (kbR a h) x
 | .op a,h,none=>rfl
 | .op a,h,some x=>kbR a h x
 | .ar _ a,h,x=>knC (kbR a h) x.l
 | .sm p q,h,.inl x=>by
  simp only [noFn,jac] at h
  exact kbR p h.1 x
 | .sm p q,h,.inr x=>by
  simp only [noFn,jac] at h
  exact kbR q h.2 x
 | .fn _ _ _,h,x=>by simp [noFn] at h
def at3 (l:List It) (k:Nat):It:=(l[k]?).getD (0,0,0)
theorem knG {l:List It} {k:Nat} (h:k<l.length):at3 l k=l[k]:=by unfold at3; rw [jae h]; rfl
def kc (x:It):Int×Int:=(x.1,x.2.1)
def mayQ (X Y:List It) (sw:List Swap) (k j:Nat):Prop:=mayB sw (kc (at3 Y k)) (kc (at3 X j))=true
def rowQ (X:List It) (sw:List Swap) (y:It):List Bool:=X.map fun x=>mayB sw (kc y) (kc x)
theorem krO {X:List It} {sw:List Swap} {y:It} {j:Nat} (h:j<X.length):sa (rowQ X sw y) j=mayB sw (kc y) (kc (at3 X j)):=by
 unfold sa rowQ
 rw [jaz,jat,knG h,jae h]; rfl
theorem idx_mem {s:List Bool} {n:Nat} {x:Int}:x∈idx s n↔∃ j,j<n/\x=(j:Int)/\sa s j=true:=by
 unfold idx
 simp only [jay,jdd,jdf]
 constructor
 ·rintro ⟨j,⟨h1,h2⟩,rfl⟩; exact ⟨j,h1,rfl,h2⟩
 ·rintro ⟨j,h1,rfl,h2⟩; exact ⟨j,⟨h1,h2⟩,rfl⟩
theorem ksn {α:Type} {l:List α} {x d:α} {k:Nat}:(l++[x]).getD k d=if k=l.length then x else l.getD k d:=by
 rw [jaz,jaz,jbk]
 by_cases h:k<l.length
 ·rw [if_pos h,if_neg (by omega)]
 ·rw [if_neg h]
  by_cases e:k=l.length
  ·subst e; simp
  ·rw [if_neg e,jdb (l:=l) (by omega),jdb (l:=[x]) (by simp only [jcw,List.length_nil]; omega)]
theorem kzY {U:List (List Int)} {n m:Nat} (h:∀ k,k<n->U.getD k []=List.replicate m 0) {k j:Nat} (hk:k<n) (hj:j<m):ua U k j=0:=by
 unfold ua
 rw [h k hk,jaz,jce,if_pos hj]; rfl
theorem kzZ {X:List It} {j:Nat} (h:j<X.length):la (X.map fun x=>x.2.2) j=needN X j:=by
 unfold la needN
 rw [jaz,jat,jae h]; rfl
theorem kyD {X:List It} {i:Nat} (h:i<X.length):((X.take i).map fun x=>x.2.2)++[X[i].2.2]=(X.take (i+1)).map fun x=>x.2.2:=by
 rw [List.take_add_one,jae h,jcn]; rfl
section
variable {X Y:List It} {sw:List Swap}
theorem kAl (hX:X.length<=1000):iter (kcH X) (0,Y,[])=some (Y,X.map fun x=>x.2.2):=by
 obtain ⟨z,hz,rfl⟩:=Fl.iter_inv (F:=kcH X) (fun x=>∃ i:Nat,i<=X.length/\x=((i:Int),Y,(X.take i).map fun x=>x.2.2)) (fun x=>X.length-x.1.toNat) (fun z=>z=(Y,X.map fun x=>x.2.2))
  (fun x hx=>by
   obtain ⟨i,hi,rfl⟩:=hx
   by_cases hlt:i<X.length
   ·refine .inr ⟨((i+1:Nat),Y,(X.take (i+1)).map fun x=>x.2.2),?_,⟨i+1,by omega,rfl⟩,by simp only [jbf]; omega⟩
    unfold kcH
    have hg:gapp ((X.take i).map fun x=>x.2.2) [X[i].2.2]=some ((X.take (i+1)).map fun x=>x.2.2):=by
     rw [khy (by simp only [jar,jbh,jcw,List.length_nil]; omega),kyD hlt]
    simp only [lenI_lt.2 hlt,if_true,kaz hlt,jaj,hg,kar (show i<9223372036854775807 by omega)]
   ·have:i=X.length:=by omega
    subst this
    refine .inl ⟨(Y,X.map fun x=>x.2.2),?_,rfl⟩
    rw [List.take_length]
    unfold kcH
    rw [if_neg kbU])
  (0,Y,[]) ⟨0,by omega,rfl⟩ (by simp only; omega)
 exact hz
theorem row_p (hX:X.length<=1000) (hs:sw.length<=1000) (y:It):iter (kcI X sw y) (0,[])=some (idx (rowQ X sw y) X.length):=by
 have hl:(rowQ X sw y).length=X.length:=by simp [rowQ]
 have:=Fl.collect (s:=rowQ X sw y) (F:=kcI X sw y) (by omega) (fun i l hi hlen=>by
  rw [hl] at hi
  unfold kcI
  have h1:kjY sw (kc y) (kc X[i])=some (mayB sw (kc y) (kc X[i])):=kwC sw hs _ _
  unfold kc at h1
  simp only [lenI_lt.2 hi,if_true,kaz hi,jaj,kbn,h1,kar (show i<9223372036854775807 by omega)]
  rw [krO hi,knG hi]
  unfold kc
  cases mayB sw (y.1,y.2.1) (X[i].1,X[i].2.1) with
  | true=>simp only [if_true]; rw [khy (by simp; omega)]; rfl
  | false=>rfl) (fun l=>by
  unfold kcI
  rw [if_neg (by rw [hl]; exact kbU)])
 rw [hl] at this
 exact this
theorem kzj (hX:X.length<=1000) (hY:Y.length<=1000) (hs:sw.length<=1000):∃ M U,iter (kcK X Y sw) (0,Y,[],[])=some (Y,M,U)/\MayL Y.length X.length (mayQ X Y sw) M/\U.length=Y.length/\∀ k,k<Y.length->U.getD k []=List.replicate X.length 0:=by
 obtain ⟨z,hz,M,U,rfl,a,b,c,d⟩:=Fl.iter_inv (F:=kcK X Y sw)
  (fun x=>∃ (i:Nat) (M U:List (List Int)),i<=Y.length/\x=((i:Int),Y,M,U)/\M.length=i/\(∀ k,k<i->M.getD k []=idx (rowQ X sw (at3 Y k)) X.length)/\U.length=i/\∀ k,k<i->U.getD k []=List.replicate X.length 0) (fun x=>Y.length-x.1.toNat)
  (fun z=>∃ M U,z=(Y,M,U)/\M.length=Y.length/\(∀ k,k<Y.length->M.getD k []=idx (rowQ X sw (at3 Y k)) X.length)/\U.length=Y.length/\∀ k,k<Y.length->U.getD k []=List.replicate X.length 0)
  (fun x hx=>by
   obtain ⟨i,M,U,hi,rfl,a,b,c,d⟩:=hx
   by_cases hlt:i<Y.length
   ·have hr:=row_p hX hs Y[i]
    have g1:gapp M [idx (rowQ X sw Y[i]) X.length]=some (M++[idx (rowQ X sw Y[i]) X.length]):=khy (by simp; omega)
    have g2:gmk (lenI X) (0:Int)=some (List.replicate X.length 0):=by
     unfold gmk
     rw [kal,if_pos (by omega),jbf]
    have g3:gapp U [List.replicate X.length (0:Int)]=some (U++[List.replicate X.length 0]):=khy (by simp; omega)
    refine .inr ⟨((i+1:Nat),Y,M++[idx (rowQ X sw Y[i]) X.length],U++[List.replicate X.length 0]),?_,⟨i+1,_,_,by omega,rfl,by simp [a],fun k hk=>?_,by simp [c],fun k hk=>?_⟩,by simp only [jbf]; omega⟩
    ·unfold kcK
     simp only [lenI_lt.2 hlt,if_true,kaz hlt,jaj,hr,g1,g2,g3,kar (show i<9223372036854775807 by omega)]
     rw [khG (kbR _ rfl _),khG (kbR _ rfl _),khG (kbR _ rfl _),khG (kbR _ rfl _),khG (kbR _ rfl _)]
    ·rw [ksn]
     by_cases e:k=i
     ·subst e; rw [if_pos a.symm,knG hlt]
     ·rw [if_neg (by omega)]; exact b k (by omega)
    ·rw [ksn]
     by_cases e:k=i
     ·subst e; rw [if_pos c.symm]
     ·rw [if_neg (by omega)]; exact d k (by omega)
   ·have:i=Y.length:=by omega
    subst this
    refine .inl ⟨(Y,M,U),?_,M,U,rfl,a,b,c,d⟩
    unfold kcK
    rw [if_neg kbU])
  (0,Y,[],[]) ⟨0,[],[],by omega,rfl,rfl,fun k h=>by omega,rfl,fun k h=>by omega⟩ (by simp only; omega)
 refine ⟨M,U,hz,⟨a,fun k hk=>?_,fun k hk x hx=>?_,fun k hk j hj hm=>?_⟩,c,d⟩
 ·rw [b k hk]; have:=krV (rowQ X sw (at3 Y k)) X.length; omega
 ·rw [b k hk] at hx
  obtain ⟨j,h1,h2,h3⟩:=idx_mem.1 hx
  rw [krO h1] at h3
  exact ⟨j,h1,h2,h3⟩
 ·rw [b k hk]
  exact idx_mem.2 ⟨j,hj,rfl,by rw [krO hj]; exact hm⟩
end
def askE (X Y:List It) (sw:List Swap):Int:=if stk X=true/\stk Y=true then swE sw else 8
theorem kxe {α β γ:Type} (x:Option α) (f:α->Option β):(x.bind fun a=>(f a).bind fun _=>(none:Option γ))=none:=by
 cases x with
 | none=>rfl
 | some a=>simp only [jaj]; cases f a <;> rfl
section
variable {X Y:List It} {sw:List Swap}
theorem bad_p (hs:sw.length<=1000):(if ((if stk X=true/\stk Y=true then (0:Int) else 8)==0)=true then (kda sw).bind fun v1=>some v1 else some (if stk X=true/\stk Y=true then (0:Int) else 8))=some (askE X Y sw):=by
 unfold askE
 rw [koK sw hs]
 by_cases h:stk X=true/\stk Y=true
 ·simp [h]
 ·simp [h]
theorem g0_eq (hX:X.length<=1000) (hY:Y.length<=1000) (hs:sw.length<=1000):kes X Y sw=if askE X Y sw≠0 then some (askE X Y sw) else none:=by
 unfold kes
 rw [kqB hX hY]
 simp only [jaj]
 rw [bad_p hs]
 simp only [jaj]
 by_cases h:askE X Y sw=0
 ·rw [if_neg (by simp [h]),if_neg (by simp [h])]
  exact kxe _ _
 ·rw [if_pos (by simp [h]),if_pos h]
theorem g1_ok (hX:X.length<=1000) (hY:Y.length<=1000) (hs:sw.length<=1000) (h:askE X Y sw=0):∃ M U,kep X Y sw=some (0,Y,M,U,X.map fun x=>x.2.2)/\MayL Y.length X.length (mayQ X Y sw) M/\U.length=Y.length/\∀ k,k<Y.length->U.getD k []=List.replicate X.length 0:=by
 obtain ⟨M,U,h1,h2,h3,h4⟩:=kzj hX hY hs
 refine ⟨M,U,?_,h2,h3,h4⟩
 unfold kep
 rw [kqB hX hY]
 simp only [jaj]
 rw [bad_p hs]
 simp only [jaj]
 rw [if_neg (by simp [h]),kAl hX]
 simp only [jaj,h1]
end
theorem stk_N {l:List It} (h:stk l=true):l.length<=30/\∀ k,k<l.length->1<=needN l k/\needN l k<=1000:=by
 unfold stk at h
 simp only [jac,jak] at h
 refine ⟨h.1.1,fun k hk=>?_⟩
 rw [kpY hk]
 have:=jan.1 h.2 _ (jde hk)
 unfold okN at this
 simpa using this
def kzG (p u:It):Bool:=decide (u.1<p.1)||(u.1==p.1&&decide (u.2.1<=p.2.1))
def okU (X Y:List It) (sw:List Swap) (us:List It) (i:Nat) (W L:List Int):Bool:=
 wi 0 ((Y.length:Int)-1) (at3 us i).1&&wi 0 ((X.length:Int)-1) (at3 us i).2.1&&mayB sw (kc (at3 Y (at3 us i).1.toNat)) (kc (at3 X (at3 us i).2.1.toNat)) &&
  decide (1<=(at3 us i).2.2)&&decide ((at3 us i).2.2<=la W (at3 us i).1.toNat)&&decide ((at3 us i).2.2<=la L (at3 us i).2.1.toNat)&&!(decide (0<i)&&kzG (at3 us (i-1)) (at3 us i))
def run (X Y:List It) (sw:List Swap) (us:List It):Nat->Nat->Int->List Int->List Int->Option Int
 | 0,_,t,_,_=>some t
 | k+1,i,t,W,L=>if okU X Y sw us i W L=true then run X Y sw us k (i+1) (t+(at3 us i).2.2) (W.set (at3 us i).1.toNat (la W (at3 us i).1.toNat-(at3 us i).2.2)) (L.set (at3 us i).2.1.toNat (la L (at3 us i).2.1.toNat-(at3 us i).2.2)) else none
def Sm (l:List Int):Prop:=∀ k,0<=la l k/\la l k<=1000
theorem Sm.set {l:List Int} (h:Sm l) {a:Nat} {v:Int} (h0:0<=v) (h1:v<=1000):Sm (l.set a v):=fun k=>by
 by_cases ha:a<l.length
 ·rw [kqD ha]; split
  ·exact ⟨h0,h1⟩
  ·exact h k
 ·rw [List.set_eq_of_length_le (by omega)]; exact h k
section
variable {X Y us:List It} {sw:List Swap}
end
end Go.Abs
namespace Go.Abs.Fl
open Go Go.Abs
theorem kkb {f g:Nat->Int} {n:Nat} (h:∀ i,i<n->f i<=g i):sumN f n<=sumN g n:=by
 have:=kdB (f:=fun i=>g i-f i) (n:=n) fun i hi=>by have:=h i hi; show 0<=g i-f i; omega
 rw [kce] at this
 omega
theorem kmx {f g:Nat->Int} {n:Nat} (h:∀ i,i<n->f i<=g i) (e:sumN g n<=sumN f n):∀ i,i<n->f i=g i:=fun i hi=>by
 have:=koc (f:=fun i=>g i-f i) (n:=n) (fun i hi=>by have:=h i hi; show 0<=g i-f i; omega) (by rw [kce]; omega) i hi
 have:g i-f i=0:=this
 omega
def Nb (n m:Nat) (may:Nat->Nat->Prop) (S T:Nat->Bool):Prop:=∀ j,j<m->(T j=true↔∃ k,k<n/\S k=true/\may k j)
def lack (n m:Nat) (cap N:Nat->Int) (S T:Nat->Bool):Int:=sumN (fun k=>if S k=true then N k else 0) n-sumN (fun j=>if T j=true then cap j else 0) m
variable {n m:Nat} {cap:Nat->Int} {may:Nat->Nat->Prop} {N:Nat->Int} {u u':Nat->Nat->Int} {l l':Nat->Int} {S T:Nat->Bool}
theorem kxF (v:Val n m cap may u l) (S:Nat->Bool) {j:Nat} (hj:j<m):sumN (fun k=>if S k=true then u k j else 0) n<=cap j:=by
 have h1:=v.bal j hj
 have h2:=v.ln j hj
 have:sumN (fun k=>if S k=true then u k j else 0) n<=sumN (fun k=>u k j) n:=kkb fun k hk=>by
  have:=v.nn k hk j hj
  show (if S k=true then u k j else 0)<=u k j
  split <;> omega
 omega
theorem Nb.h (h:Nb n m may S T):∀ k,k<n->S k=true->∀ j,j<m->may k j->T j=true:=fun k hk hs j hj hm=>(h j hj).2 ⟨k,hk,hs,hm⟩
theorem kyU (v:Val n m cap may u l) (hN:∀ k,k<n->row m u k<=N k) (hT:Nb n m may S T):lack n m cap N S T<=sumN N n-sumN (row m u) n:=by
 have h1:=klr v hT.h
 have h2:sumN (fun j=>if T j=true then sumN (fun k=>if S k=true then u k j else 0) n else 0) m<=sumN (fun j=>if T j=true then cap j else 0) m:=kkb fun j hj=>by
  show (if T j=true then sumN (fun k=>if S k=true then u k j else 0) n else 0)<=(if T j=true then cap j else 0)
  split
  ·exact kxF v S hj
  ·exact jdu 0
 have h3:sumN (fun k=>(if S k=true then N k else 0)-(if S k=true then row m u k else 0)) n<=sumN (fun k=>N k-row m u k) n:=kkb fun k hk=>by
  have:=hN k hk
  show (if S k=true then N k else 0)-(if S k=true then row m u k else 0)<=N k-row m u k
  split <;> omega
 rw [kce,kce] at h3
 unfold lack
 omega
theorem kzd (v:Val n m cap may u l) (hN:∀ k,k<n->row m u k<=N k) (hT:Nb n m may S T) (h:sumN N n-sumN (row m u) n<=lack n m cap N S T) :
  (∀ k,k<n->row m u k<N k->S k=true)/\∀ a b,a<n->b<n->S a=true->(∃ j,j<m/\may a j/\0<u b j)->S b=true:=by
 have h1:=klr v hT.h
 have q2:∀ j,j<m->(if T j=true then sumN (fun k=>if S k=true then u k j else 0) n else 0)<=(if T j=true then cap j else 0):=fun j hj=>by
  split
  ·exact kxF v S hj
  ·exact jdu 0
 have q3:∀ k,k<n->(if S k=true then N k else 0)-(if S k=true then row m u k else 0)<=N k-row m u k:=fun k hk=>by
  have:=hN k hk
  split <;> omega
 have h2:=kkb q2
 have h3:=kkb q3
 have e3:sumN (fun k=>N k-row m u k) n<=sumN (fun k=>(if S k=true then N k else 0)-(if S k=true then row m u k else 0)) n:=by
  rw [kce,kce]; unfold lack at h; omega
 have e2:sumN (fun j=>if T j=true then cap j else 0) m<=sumN (fun j=>if T j=true then sumN (fun k=>if S k=true then u k j else 0) n else 0) m:=by
  rw [kce,kce] at h3; unfold lack at h; omega
 have e3':=kmx q3 e3
 have e2':=kmx q2 e2
 refine ⟨fun k hk hl=>?_,fun a b ha hb hs hj=>?_⟩
 ·have:=e3' k hk
  by_cases c:S k=true
  ·exact c
  ·rw [if_neg c,if_neg c] at this; omega
 ·obtain ⟨j,hj,hm,h0⟩:=hj
  have ht:T j=true:=(hT j hj).2 ⟨a,ha,hs,hm⟩
  have:=e2' j hj
  rw [if_pos ht,if_pos ht] at this
  have hb1:=v.bal j hj
  have hb2:=v.ln j hj
  have q:∀ k,k<n->(if S k=true then u k j else 0)<=u k j:=fun k hk=>by
   have:=v.nn k hk j hj
   split <;> omega
  have:=kmx q (by omega) b hb
  by_cases c:S b=true
  ·exact c
  ·rw [if_neg c] at this; omega
theorem kyN (v:Val n m cap may u l) (hN:∀ k,k<n->row m u k<=N k) (hS:Sat n m may u l S) (hT:Nb n m may S T) (h:∀ k,k<n->row m u k<N k->S k=true):lack n m cap N S T=sumN N n-sumN (row m u) n:=by
 have h1:=klr v hT.h
 have h2:sumN (fun j=>if T j=true then sumN (fun k=>if S k=true then u k j else 0) n else 0) m=sumN (fun j=>if T j=true then cap j else 0) m:=kax fun j hj=>by
  show (if T j=true then sumN (fun k=>if S k=true then u k j else 0) n else 0)=(if T j=true then cap j else 0)
  split
  ·rename_i ht
   obtain ⟨k,hk,hs,hm⟩:=(hT j hj).1 ht
   have z:=hS.z k hk hs j hj hm
   have hb:=v.bal j hj
   have:sumN (fun k=>if S k=true then u k j else 0) n=sumN (fun k=>u k j) n:=kax fun k' hk'=>by
    show (if S k'=true then u k' j else 0)=u k' j
    split
    ·rfl
    ·rename_i hn
     have:=v.nn k' hk' j hj
     by_cases c:0<u k' j
     ·exact absurd (hS.c k hk hs j hj hm k' hk' c) hn
     ·omega
   omega
  ·rfl
 have h3:sumN (fun k=>(if S k=true then N k else 0)-(if S k=true then row m u k else 0)) n=sumN (fun k=>N k-row m u k) n:=kax fun k hk=>by
  show (if S k=true then N k else 0)-(if S k=true then row m u k else 0)=N k-row m u k
  split
  ·rfl
  ·rename_i hn
   have:=hN k hk
   by_cases c:row m u k<N k
   ·exact absurd (h k hk c) hn
   ·omega
 rw [kce,kce] at h3
 unfold lack
 omega
theorem kzy {S:Nat->Bool} {L:Nat->Prop} (hS:∀ k,k<n->(S k=true↔Rch n m may u L k)) (hs:∀ i,i<n->L i->∃ S',S' i=true/\Sat n m may u l S'):Sat n m may u l S:=by
 have key:∀ k,Rch n m may u L k->∃ S',S' k=true/\Sat n m may u l S':=by
  intro k hr
  induction hr with
  | base hi hl=>exact hs _ hi hl
  | step hr hj hm hk h0 ih=>
   obtain ⟨S',s1,s2⟩:=ih
   exact ⟨S',s2.c _ hr.lt s1 _ hj hm _ hk h0,s2⟩
 refine ⟨fun k hk h j hj hm=>?_,fun k hk h j hj hm k' hk' h0=>?_⟩
 ·obtain ⟨S',s1,s2⟩:=key k ((hS k hk).1 h)
  exact s2.z k hk s1 j hj hm
 ·exact (hS k' hk').2 (Rch.step ((hS k hk).1 h) hj hm hk' h0)
end Go.Abs.Fl
namespace Go.Abs
open Go Go.Abs.Fl
theorem kyy (l:List Swap):∃ b,kfj l=some b/\(b=true↔swE l=0):=by
 have h:=knh l
 unfold khn at h
 cases hb:kfj l with
 | none=>rw [hb] at h; cases h
 | some b=>
  rw [hb] at h
  refine ⟨b,rfl,?_⟩
  cases b with
  | true=>simp at h; simp [<-h]
  | false=>simp at h; simp [<-h]
theorem ask0 {X Y:List It} {sw:List Swap} (h:askE X Y sw=0):stk X=true/\stk Y=true:=by
 by_cases c:stk X=true/\stk Y=true
 ·exact c
 ·unfold askE at h; rw [if_neg c] at h; omega
theorem kyP (X Y:List It) (sw:List Swap):∃ b,kiW X Y sw=some b/\(b=true->X.length<=40/\Y.length<=40/\sw.length<=40/\askE X Y sw=0):=by
 obtain ⟨c,hc,hc2⟩:=kzk X Y
 obtain ⟨d,hd,hd2⟩:=kyy sw
 unfold kiW
 rw [hc]
 simp only [jaj]
 cases c with
 | true=>exact ⟨false,rfl,fun h=>by cases h⟩
 | false=>
  by_cases h1:lenI sw<=40
  ·simp only [jdy,if_true,decide_eq_true h1,krL,jaj,hd]
   by_cases h2:stk X=true
   ·by_cases h3:stk Y=true
    ·refine ⟨d,by rw [if_pos h2,if_pos h3],fun h=>⟨(hc2 rfl).1,(hc2 rfl).2,by rw [kal] at h1; omega,?_⟩⟩
     unfold askE
     rw [if_pos ⟨h2,h3⟩]; exact hd2.1 h
    ·exact ⟨false,by rw [if_pos h2,if_neg h3],fun h=>by cases h⟩
   ·exact ⟨false,by rw [if_neg h2],fun h=>by cases h⟩
  ·simp only [jdy,if_true,decide_eq_false h1,jai,if_false]
   exact ⟨false,rfl,fun h=>by cases h⟩
def sumK (f:Nat->Int):List Nat->Int
 | []=>0
 | k::ks=>f k+sumK f ks
theorem kiV (f:Nat->Int):∀ a b,sumK f (a++b)=sumK f a+sumK f b
 | [],b=>by simp [sumK]
 | k::a,b=>by simp only [jdl,sumK,kiV f a b]; omega
theorem kpl (f:Nat->Int) (p:Nat->Bool):∀ n,sumK f ((List.range n).filter p)=sumN (fun k=>if p k=true then f k else 0) n
 | 0=>rfl
 | n+1=>by
  rw [List.range_succ,List.filter_append,kiV,kpl f p n]
  simp only [sumN]
  cases h:p n <;> simp [h,sumK]
theorem klN {f:Nat->Int} {c:Int}:∀ {n:Nat},(∀ i,i<n->0<=f i/\f i<=c)->0<=sumN f n/\sumN f n<=c*n
 | 0,_=>by simp [sumN]
 | n+1,h=>by
  have h1:=klN (n:=n) fun i hi=>h i (by omega)
  have h2:=h n (by omega)
  simp only [sumN]
  have e:c*((n+1:Nat):Int)=c*(n:Int)+c:=by push_cast; rw [Int.mul_add,Int.mul_one]
  rw [e]; omega
theorem knR {l:List It} {k:Nat} (h:k<l.length):l[k].2.2=needN l k:=(kpY h).symm
theorem kAj {l:List It} (hl:l.length<=1000) (hN:∀ k,k<l.length->0<=needN l k/\needN l k<=1000):kjj l=some (sumN (needN l) l.length):=by
 unfold kjj
 obtain ⟨z,hz,rfl⟩:=Fl.iter_inv (F:=khV l) (fun x=>∃ i:Nat,i<=l.length/\x=((i:Int),sumN (needN l) i)) (fun x=>l.length-x.1.toNat) (fun z=>z=sumN (needN l) l.length)
  (fun x hx=>by
   obtain ⟨i,hi,rfl⟩:=hx
   by_cases h:i<l.length
   ·refine .inr ⟨(((i+1:Nat):Int),sumN (needN l) (i+1)),?_,⟨i+1,by omega,rfl⟩,by simp only [jbf]; omega⟩
    have hb:=klN (f:=needN l) (c:=1000) (n:=i) fun k hk=>hN k (by omega)
    have hi2:=hN i h
    unfold khV
    simp only [lenI_lt.2 h,if_true,kaz h,jaj,kar (show i<9223372036854775807 by omega),knR h]
    rw [keq (by omega) (by omega)]
    rfl
   ·have:i=l.length:=by omega
    subst this
    refine .inl ⟨_,?_,rfl⟩
    unfold khV
    rw [if_neg kbU])
  (0,0) ⟨0,by omega,rfl⟩ (by simp; omega)
 rw [hz]; rfl
variable {X Y:List It} {sw:List Swap}
theorem kvJ (hY:Y.length<=40) (hN:∀ k,k<Y.length->0<=needN Y k/\needN Y k<=1000) {ks:List Nat} (hk:∀ k∈ks,k<Y.length) (hl:ks.length<=40):iter (ker Y (ks.map fun (k:Nat)=>(k:Int))) (0,0)=some (.inr (sumK (needN Y) ks)):=by
 have hb:∀ i,i<=ks.length->0<=sumK (needN Y) (ks.take i)/\sumK (needN Y) (ks.take i)<=1000*i:=by
  intro i
  induction i with
  | zero=>intro _; simp [sumK]
  | succ i ih=>
   intro hi
   have:=ih (by omega)
   have h2:=hN _ (hk _ (jde (show i<ks.length by omega)))
   rw [List.take_add_one,jae (show i<ks.length by omega),kiV]
   simp only [Option.toList_some,sumK]
   push_cast
   omega
 obtain ⟨z,hz,rfl⟩:=Fl.iter_inv (F:=ker Y (ks.map fun (k:Nat)=>(k:Int))) (fun x=>∃ i:Nat,i<=ks.length/\x=((i:Int),sumK (needN Y) (ks.take i))) (fun x=>ks.length-x.1.toNat) (fun z=>z = .inr (sumK (needN Y) ks))
  (fun x hx=>by
   obtain ⟨i,hi,rfl⟩:=hx
   by_cases h:i<ks.length
   ·have hki:=hk _ (jde h)
    have h1:=hb i hi
    have h2:=hN _ hki
    have g:gi (ks.map fun (k:Nat)=>(k:Int)) (i:Int)=some (ks[i]:Int):=by rw [kaz (by simpa using h)]; simp
    refine .inr ⟨(((i+1:Nat):Int),sumK (needN Y) (ks.take (i+1))),?_,⟨i+1,by omega,rfl⟩,by simp only [jbf]; omega⟩
    have hll:decide ((i:Int)<lenI (ks.map fun (k:Nat)=>(k:Int)))=true:=lenI_lt.2 (by simpa using h)
    unfold ker
    simp only [hll,if_true,g,jaj,kaz hki,knR hki,kar (show i<9223372036854775807 by omega)]
    rw [if_neg (by rw [jak]; omega),if_neg (by rw [jak,kal]; omega),keq (by omega) (by omega),List.take_add_one,jae h,kiV]
    simp only [Option.toList_some,sumK,Int.add_zero]
   ·have:i=ks.length:=by omega
    subst this
    refine .inl ⟨_,?_,rfl⟩
    rw [List.take_length]
    unfold ker
    rw [if_neg (by rw [jak,kal]; simp)])
  (0,0) ⟨0,by omega,rfl⟩ (by simp; omega)
 exact hz
theorem kvx (hs:sw.length<=40) {ks:List Nat} (hk:∀ k∈ks,k<Y.length) (hl:ks.length<=40) (x:It):iter (kem Y sw (ks.map fun (k:Nat)=>(k:Int)) x) (0,false)=some (ks.any fun k=>mayB sw (kc (at3 Y k)) (kc x)):=by
 obtain ⟨z,hz,rfl⟩:=Fl.iter_inv (F:=kem Y sw (ks.map fun (k:Nat)=>(k:Int)) x) (fun y=>∃ i:Nat,i<=ks.length/\y=((i:Int),(ks.take i).any fun k=>mayB sw (kc (at3 Y k)) (kc x))) (fun y=>ks.length-y.1.toNat) (fun z=>z=ks.any fun k=>mayB sw (kc (at3 Y k)) (kc x))
  (fun y hy=>by
   obtain ⟨i,hi,rfl⟩:=hy
   by_cases h:i<ks.length
   ·have hki:=hk _ (jde h)
    have g:gi (ks.map fun (k:Nat)=>(k:Int)) (i:Int)=some (ks[i]:Int):=by rw [kaz (by simpa using h)]; simp
    refine .inr ⟨(((i+1:Nat):Int),(ks.take (i+1)).any fun k=>mayB sw (kc (at3 Y k)) (kc x)),?_,⟨i+1,by omega,rfl⟩,by simp only [jbf]; omega⟩
    have hll:decide ((i:Int)<lenI (ks.map fun (k:Nat)=>(k:Int)))=true:=lenI_lt.2 (by simpa using h)
    have hm:kjd sw Y[ks[i]].1 Y[ks[i]].2.1 x.1 x.2.1=some (mayB sw (kc (at3 Y ks[i])) (kc x)):=by rw [knG hki]; exact ktF sw (by omega) (kc Y[ks[i]]) (kc x)
    unfold kem
    simp only [hll,if_true,g,jaj,kaz hki,kar (show i<9223372036854775807 by omega),hm]
    rw [List.take_add_one,jae h,List.any_append]
    cases ((ks.take i).any fun k=>mayB sw (kc (at3 Y k)) (kc x)) <;> simp
   ·have:i=ks.length:=by omega
    subst this
    refine .inl ⟨_,?_,rfl⟩
    rw [List.take_length]
    unfold kem
    rw [if_neg (by rw [jak,kal]; simp)])
  (0,false) ⟨0,by omega,rfl⟩ (by simp; omega)
 exact hz
def colT (X Y:List It) (sw:List Swap) (ks:List Nat) (j:Nat):Bool:=ks.any fun k=>mayB sw (kc (at3 Y k)) (kc (at3 X j))
theorem kvF (hX:X.length<=40) (hs:sw.length<=40) (hN:∀ k,k<X.length->0<=needN X k/\needN X k<=1000) {ks:List Nat} (hk:∀ k∈ks,k<Y.length) (hl:ks.length<=40) {v:Int} (v0:-1000000<=v) (v1:v<=1000000):iter (kev X Y sw (ks.map fun (k:Nat)=>(k:Int))) (0,v)=some (v-sumN (fun j=>if colT X Y sw ks j=true then needN X j else 0) X.length):=by
 have hb:∀ i,i<=X.length->0<=sumN (fun j=>if colT X Y sw ks j=true then needN X j else 0) i/\sumN (fun j=>if colT X Y sw ks j=true then needN X j else 0) i<=1000*i:=fun i hi=>klN fun k hk=>by
  have:=hN k (by omega)
  show 0<=(if colT X Y sw ks k=true then needN X k else 0)/\(if colT X Y sw ks k=true then needN X k else 0)<=1000
  split <;> omega
 obtain ⟨z,hz,rfl⟩:=Fl.iter_inv (F:=kev X Y sw (ks.map fun (k:Nat)=>(k:Int))) (fun x=>∃ i:Nat,i<=X.length/\x=((i:Int),v-sumN (fun j=>if colT X Y sw ks j=true then needN X j else 0) i)) (fun x=>X.length-x.1.toNat) (fun z=>z=v-sumN (fun j=>if colT X Y sw ks j=true then needN X j else 0) X.length)
  (fun x hx=>by
   obtain ⟨i,hi,rfl⟩:=hx
   by_cases h:i<X.length
   ·have h1:=hb i hi
    have h2:=hN i h
    have hc:(ks.any fun k=>mayB sw (kc (at3 Y k)) (kc X[i]))=colT X Y sw ks i:=by unfold colT; rw [knG h]
    refine .inr ⟨(((i+1:Nat):Int),v-sumN (fun j=>if colT X Y sw ks j=true then needN X j else 0) (i+1)),?_,⟨i+1,by omega,rfl⟩,by simp only [jbf]; omega⟩
    unfold kev
    simp only [lenI_lt.2 h,if_true,kaz h,jaj,kvx hs hk hl,hc,knR h,kar (show i<9223372036854775807 by omega),sumN]
    cases colT X Y sw ks i with
    | true=>
     simp only [if_true]
     rw [keq (by omega) (by omega)]
     rw [Int.sub_sub]
    | false=>simp
   ·have:i=X.length:=by omega
    subst this
    refine .inl ⟨_,?_,rfl⟩
    unfold kev
    rw [if_neg kbU])
  (0,v) ⟨0,by omega,by simp [sumN]⟩ (by simp; omega)
 exact hz
theorem kyT (hX:X.length<=40) (hY:Y.length<=40) (hs:sw.length<=40) (hNX:∀ k,k<X.length->0<=needN X k/\needN X k<=1000) (hNY:∀ k,k<Y.length->0<=needN Y k/\needN Y k<=1000) (s:List Bool):∃ T,Nb Y.length X.length (mayQ X Y sw) (sa s) T/\kiT X Y sw (idx s Y.length)=some (lack Y.length X.length (needN X) (needN Y) (sa s) T,true):=by
 have hk:∀ k∈(List.range Y.length).filter fun k=>sa s k,k<Y.length:=fun k hk=>jdf.1 (jdd.1 hk).1
 have hl:((List.range Y.length).filter fun k=>sa s k).length<=40:=by
  have:=List.length_filter_le (fun k=>sa s k) (List.range Y.length)
  rw [List.length_range] at this; omega
 refine ⟨colT X Y sw ((List.range Y.length).filter fun k=>sa s k),fun j hj=>?_,?_⟩
 ·unfold colT mayQ
  rw [jbm]
  constructor
  ·rintro ⟨k,h1,h2⟩
   exact ⟨k,hk k h1,(jdd.1 h1).2,h2⟩
  ·rintro ⟨k,h1,h2,h3⟩
   exact ⟨k,jdd.2 ⟨jdf.2 h1,h2⟩,h3⟩
 ·unfold kiT idx
  have hb:=klN (f:=fun k=>if sa s k=true then needN Y k else 0) (c:=1000) (n:=Y.length) fun k hk=>by
   have:=hNY k hk
   show 0<=(if sa s k=true then needN Y k else 0)/\(if sa s k=true then needN Y k else 0)<=1000
   split <;> omega
  rw [kvJ hY hNY hk hl,kpl]
  simp only [jaj]
  rw [kvF hX hs hNX hk hl (by omega) (by omega)]
  rfl
structure Fld (X Y:List It) (sw:List Swap) (t:Int) (s:List Bool):Prop where
 ex:∃ U L,Val Y.length X.length (needN X) (mayQ X Y sw) (ua U) (la L)/\(∀ k,k<Y.length->row X.length (ua U) k<=needN Y k)/\t=sumN (row X.length (ua U)) Y.length/\
  (∀ k,k<Y.length->row X.length (ua U) k<needN Y k->∃ S,S k=true/\Fl.Sat Y.length X.length (mayQ X Y sw) (ua U) (la L) S)/\
  ∀ k,k<Y.length->(sa s k=true↔Rch Y.length X.length (mayQ X Y sw) (ua U) (fun k=>row X.length (ua U) k<needN Y k) k)
 sl:s.length=Y.length
theorem Rch.imp {n m:Nat} {may:Nat->Nat->Prop} {u:Nat->Nat->Int} {L L':Nat->Prop} (h:∀ k,k<n->L k->L' k) {i:Nat} (r:Rch n m may u L i):Rch n m may u L' i:=by
 induction r with
 | base hi hl=>exact .base hi (h _ hi hl)
 | step _ hj hm hk h0 ih=>exact .step ih hj hm hk h0
theorem kzp {X Y:List It} {sw:List Swap} (hX:X.length<=1000) (hY:Y.length<=1000) (hs:sw.length<=1000) (h:askE X Y sw=0):∃ t s,kkF X Y sw=some ((t,idx s Y.length),0)/\Fld X Y sw t s:=by
 obtain ⟨x1,x2⟩:=stk_N (ask0 h).1
 obtain ⟨y1,y2⟩:=stk_N (ask0 h).2
 obtain ⟨M,U,p1,p2,p3,p4⟩:=g1_ok hX hY hs h
 have hgm:gmk (lenI Y) false=some (List.replicate Y.length false):=by
  unfold gmk
  rw [kal,if_pos (by omega),jbf]
 have hc:∀ j,j<X.length->needN X j<=1000:=fun j hj=>(x2 j hj).2
 have hc0:∀ j,j<X.length->0<=needN X j:=fun j hj=>by have:=(x2 j hj).1; omega
 have hN:∀ k,k<Y.length->0<=needN Y k/\needN Y k<=1000:=fun k hk=>by have:=y2 k hk; omega
 have shp:Shp Y.length X.length U (X.map fun x=>x.2.2):=⟨p3,fun k hk=>by rw [p4 k hk]; simp,by simp⟩
 have Ap:=At.zero (cap:=needN X) (may:=mayQ X Y sw) shp (fun k hk j hj=>kzY p4 hk hj) (fun j hj=>kzZ hj) hc0 (needN Y) rfl
 obtain ⟨t,U2,L2,K2,i1,A2⟩:=kAb (N:=Y) p2 rfl (by omega) (by omega) hc hN Ap
 obtain ⟨s,s1,s2,s3⟩:=kzA (N:=Y) p2 (by omega) (by omega) A2.sh A2.kl
 refine ⟨t,s,?_,⟨U2,L2,A2.v,A2.le,A2.t,A2.st,fun k hk=>(s3 k hk).trans ⟨Rch.imp fun k hk h=>?_,Rch.imp fun k hk h=>?_⟩⟩,s1⟩
 ·unfold kkF
  rw [g0_eq hX hY hs,if_neg (by simp [h])]
  simp only [Option.bind_none,elsO,p1,jaj,hgm]
  rw [if_neg (by simp)]
  simp only [i1,jaj,s2]
 ·rw [A2.k1 k hk,jak] at h; exact h
 ·rw [A2.k1 k hk,jak]; exact h
section
variable {X Y us:List It} {sw:List Swap}
structure Rl (X Y:List It) (W L G K:List Int):Prop where
 w:W.length=Y.length
 l:L.length=X.length
 g:G.length=Y.length
 k:K.length=X.length
 a:∀ a,a<Y.length->la W a=needN Y a-la G a
 b:∀ b,b<X.length->la L b=needN X b-la K b
end
variable {X Y us:List It} {sw:List Swap}
structure Ru (X Y:List It) (sw:List Swap) (t:Int) (W L:List Int) (u:Nat->Nat->Int):Prop where
 w:W.length=Y.length
 l:L.length=X.length
 w0:∀ a,0<=la W a
 v:Val Y.length X.length (needN X) (mayQ X Y sw) u (la L)
 r:∀ k,k<Y.length->row X.length u k=needN Y k-la W k
 t:t=sumN (row X.length u) Y.length
theorem Fld.lack {t:Int} {s:List Bool} (h:Fld X Y sw t s) {T:Nat->Bool} (hT:Nb Y.length X.length (mayQ X Y sw) (sa s) T):Fl.lack Y.length X.length (needN X) (needN Y) (sa s) T=sumN (needN Y) Y.length-t:=by
 obtain ⟨U,L,v,le,ht,st,hS⟩:=h.ex
 rw [ht]
 exact kyN v le (kzy hS st) hT fun k hk hl=>(hS k hk).2 (.base hk hl)
theorem Fld.bd {t:Int} {s:List Bool} (h:Fld X Y sw t s) (hY:Y.length<=40) (hN:∀ k,k<Y.length->0<=needN Y k/\needN Y k<=1000):0<=t/\t<=sumN (needN Y) Y.length/\sumN (needN Y) Y.length<=40000:=by
 obtain ⟨U,L,v,le,ht,st,hS⟩:=h.ex
 have h1:=klN (f:=needN Y) (c:=1000) hN
 have h2:=kdB (f:=row X.length (ua U)) (n:=Y.length) fun k hk=>kxA v hk
 have h3:=kkb le
 rw [<-ht] at h2 h3
 omega
theorem kwt {T i:Nat} (hi:i<64):gshr .i64 (T:Int) (i:Int)=some ((T / 2 ^ i:Nat):Int):=by
 unfold gshr
 rw [if_pos (by omega)]
 show some ((T:Int).fdiv (2 ^ (min ((i:Int).toNat) 64)))=_
 rw [show min ((i:Int).toNat) 64=i by omega,show (2:Int) ^ i=((2 ^ i:Nat):Int) by push_cast; rfl,Int.fdiv_eq_ediv_of_nonneg _ (Int.natCast_nonneg _)]
 rfl
theorem and1:∀ v:Nat,v<1024->bitsI .and .i64 (v:Int) 1=((v % 2:Nat):Int):=by decide +kernel
theorem shl10:∀ n<11,gshl .i64 1 ((n:Nat):Int)=some ((2 ^ n:Nat):Int)/\2 ^ n<=1024:=by decide +kernel
def bitl (v n:Nat):List Bool:=(List.range n).map fun i=>decide (v / 2 ^ i % 2=1)
theorem kmb (v n:Nat):(bitl v n).length=n:=by simp [bitl]
theorem kvU {v n i:Nat} (h:i<n):sa (bitl v n) i=decide (v / 2 ^ i % 2=1):=by
 unfold sa bitl
 rw [jaz,jae (by simpa using h)]
 simp
theorem kxI {v i:Nat} (h:v<1024):v / 2 ^ i<1024:=Nat.lt_of_le_of_lt (Nat.div_le_self _ _) h
variable {X Y:List It} {sw:List Swap}
theorem kyR {v:Nat} (hv:v<1024) (hY:Y.length<=10):iter (kcG Y (v:Int)) (0,[])=some (idx (bitl v Y.length) Y.length):=by
 have:=collect (F:=kcG Y (v:Int)) (s:=bitl v Y.length) (by rw [kmb]; omega) (fun i l hi hl=>by
  rw [kmb] at hi
  rw [kvU hi]
  unfold kcG
  simp only [lenI_lt.2 hi,if_true,kwt (T:=v) (i:=i) (by omega),jaj,and1 _ (kxI hv),kar (show i<9223372036854775807 by omega)]
  by_cases h:v / 2 ^ i % 2=1
  ·rw [if_pos (by rw [h]; rfl),khy (by simp; omega),decide_eq_true h]; rfl
  ·rw [if_neg (by rw [show v / 2 ^ i % 2=0 by omega]; decide),decide_eq_false h]; rfl) (fun l=>by
  rw [kmb]
  unfold kcG
  rw [if_neg kbU])
 rw [kmb] at this
 exact this
theorem Fld.sub {t:Int} {s:List Bool} (h:Fld X Y sw t s) {S T:Nat->Bool} (hT:Nb Y.length X.length (mayQ X Y sw) S T) (e:sumN (needN Y) Y.length-t<=Fl.lack Y.length X.length (needN X) (needN Y) S T):∀ k,k<Y.length->sa s k=true->S k=true:=by
 obtain ⟨U,L,v,le,ht,st,hS⟩:=h.ex
 rw [ht] at e
 obtain ⟨a,b⟩:=kzd v le hT e
 intro k hk hs
 have hr:=(hS k hk).1 hs
 clear hs
 induction hr with
 | base hi hl=>exact a _ hi hl
 | step hr hj hm hk' h0 ih=>exact b _ _ hr.lt hk' (ih hr.lt) ⟨_,hj,hm,h0⟩
theorem Fld.max {t:Int} {s:List Bool} (h:Fld X Y sw t s) {S T:Nat->Bool} (hT:Nb Y.length X.length (mayQ X Y sw) S T):Fl.lack Y.length X.length (needN X) (needN Y) S T<=sumN (needN Y) Y.length-t:=by
 obtain ⟨U,L,v,le,ht,st,hS⟩:=h.ex
 rw [ht]
 exact kyU v le hT
theorem kyA {t e:Int} {s:List Bool} {v:Nat} (hv:v<1024) (hY:Y.length<=10) (h:∀ k,k<Y.length->sa s k=true->sa (bitl v Y.length) k=true):iter (kcE Y ((t,idx s Y.length),e) (v:Int)) 0=some (.inr ()):=by
 have hl:=krV s Y.length
 rw [kjt (F:=kcE Y ((t,idx s Y.length),e) (v:Int)) false (idx s Y.length) (by omega) (fun _ _=>false) (fun i hi=>by
  obtain ⟨j,hj,hij,hs⟩:=idx_mem.1 (jde hi)
  have hb:=h j hj hs
  rw [kvU hj,jak] at hb
  unfold kcE
  simp only [lenI_lt.2 hi,if_true,kaz hi,jaj,hij,kwt (T:=v) (i:=j) (by omega),and1 _ (kxI hv),hb,kar (show i<9223372036854775807 by omega)]
  rw [if_neg (by rw [jak]; omega),if_neg (by rw [jak,kal]; omega),if_neg (by decide)]
  rfl) (by unfold kcE; rw [if_neg kbU])]
 simp
theorem law08_BoxShort_eq (X Y:List It) (sw:List Swap):kiK X Y sw=some true:=by
 obtain ⟨b,hb,hv⟩:=kyP X Y sw
 unfold kiK
 rw [hb]
 simp only [law08_alive,jaj,Bool.not_true,jai,if_false,if_true]
 cases b with
 | false=>rfl
 | true=>
  obtain ⟨hX,hY,hs,ha⟩:=hv rfl
  rw [if_neg (by decide)]
  by_cases h10:(10:Int)<lenI Y
  ·rw [if_pos (decide_eq_true h10)]
  ·rw [if_neg (by rw [jak]; exact h10)]
   rw [kal] at h10
   obtain ⟨t,s,f1,f2⟩:=kzp (X:=X) (Y:=Y) (sw:=sw) (by omega) (by omega) (by omega) ha
   obtain ⟨x1,x2⟩:=stk_N (ask0 ha).1
   obtain ⟨y1,y2⟩:=stk_N (ask0 ha).2
   have nX:∀ k,k<X.length->0<=needN X k/\needN X k<=1000:=fun k hk=>by have:=x2 k hk; omega
   have nY:∀ k,k<Y.length->0<=needN Y k/\needN Y k<=1000:=fun k hk=>by have:=y2 k hk; omega
   have hbd:=f2.bd hY nY
   obtain ⟨g1,g2⟩:=shl10 Y.length (by omega)
   rw [f1]
   simp only [jaj]
   rw [if_neg (by decide),kal,g1]
   simp only [jaj]
   obtain ⟨z,hz,rfl⟩:=Fl.iter_inv (F:=kei X Y sw ((t,idx s Y.length),0) ((2 ^ Y.length:Nat):Int)) (fun x=>∃ v:Nat,v<=2 ^ Y.length/\x=(v:Int)) (fun x=>2 ^ Y.length-x.toNat) (fun z=>z = .inr ())
    (fun x hx=>by
     obtain ⟨v,hv,rfl⟩:=hx
     by_cases h:v<2 ^ Y.length
     ·refine .inr ⟨((v+1:Nat):Int),?_,⟨v+1,by omega,rfl⟩,by simp only [jbf]; omega⟩
      obtain ⟨T,hT,l1⟩:=kyT hX hY hs nX nY (bitl v Y.length)
      have hm:=f2.max hT
      unfold kei
      simp only [decide_eq_true (show (v:Int)<((2 ^ Y.length:Nat):Int) by omega),if_true,kyR (show v<1024 by omega) (show Y.length<=10 by omega),jaj,l1,kAj (show Y.length<=1000 by omega) nY,kar (show v<9223372036854775807 by omega)]
      rw [keq (by omega) (by omega),if_neg (by rw [jak]; omega)]
      by_cases hlt:Fl.lack Y.length X.length (needN X) (needN Y) (sa (bitl v Y.length)) T<sumN (needN Y) Y.length-t
      ·rw [if_pos (decide_eq_true hlt)]
      ·rw [if_neg (by rw [jak]; exact hlt),kyA (show v<1024 by omega) (by omega) (f2.sub hT (by omega))]
       rfl
     ·refine .inl ⟨.inr (),?_,rfl⟩
      unfold kei
      rw [if_neg (by rw [jak]; omega)])
    0 ⟨0,Nat.zero_le _,rfl⟩ (by show 2 ^ Y.length-0<_; omega)
   rw [hz]
   rfl
end Go.Abs
