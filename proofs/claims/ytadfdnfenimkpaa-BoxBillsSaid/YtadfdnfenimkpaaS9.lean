/- The functions and the law, part 9. -/
import Derived.Test.YtadfdnfenimkpaaS8
set_option linter.constructorNameAsVariable false
set_option linter.unusedVariables false
set_option linter.unusedSimpArgs false
set_option linter.unusedSectionVars false
namespace Go.Abs.St
open Go Go.Abs
structure Is (σ:Nat->Nat) (l l':List Line):Prop where
 len:l'.length=l.length
 perm:l'.Perm l
 at':∀ k,l'[k]?=l[σ k]?
theorem Is.refl (l:List Line):Is (fun k=>k) l l:=⟨rfl,.refl _,fun _=>rfl⟩
theorem Is.trans {σ τ:Nat->Nat} {l l' l'':List Line} (h:Is σ l l') (h':Is τ l' l''):Is (fun k=>σ (τ k)) l l'':=
 ⟨h'.len.trans h.len,h'.perm.trans h.perm,fun k=>(h'.at' k).trans (h.at' _)⟩
theorem Is.congr {σ τ:Nat->Nat} {l l':List Line} (h:Is σ l l') (e:∀ k,k<l.length->σ k = τ k) (hb:∀ k,l.length<=k->l.length<=τ k):Is τ l l':=
 ⟨h.len,h.perm,fun k=>by
  by_cases hk:k<l.length
  ·rw [h.at',e k hk]
  ·rw [jce (by rw [h.len]; omega),jce (hb k (by omega))]⟩
theorem Is.swap {l:List Line} {i j:Nat} (hi:i<l.length) (hj:j<l.length):Is (fun k=>if k=j then i else if k=i then j else k) l ((l.set i l[j]).set j l[i]):=by
 refine ⟨by simp,List.set_set_perm hi hj,fun k=>?_⟩
 simp only [jcl,jby]
 by_cases h1:j=k
 ·subst h1; simp [hj,hi]
 ·rw [if_neg h1]
  by_cases h2:i=k
  ·subst h2; simp [hi,hj,h1]
   rw [if_neg (fun e=>h1 e.symm),jae hj]
  ·rw [if_neg h2,if_neg (fun e=>h1 e.symm),if_neg (fun e=>h2 e.symm)]
theorem kjF (l:List Line) (i:Nat) (x:Line):lset l (i:Int) x=l.set i x:=rfl
theorem w64n {x:Int} {n:Nat} (h:x=n) (hn:n<=1000000):w64 x=(n:Int):=by rw [kbb (by omega) (by omega),h]
theorem kgw (a b n:Nat) (cmp) (l:List Line) (h1:a+n<=b) (h2:b+n<=l.length) (hl:l.length<=1000) :
  ∃ l',kat a b n cmp l=some l'/\Is (fun k=>if a<=k/\k<a+n then k+(b-a) else if b<=k/\k<b+n then k-(b-a) else k) l l':=by
 unfold kat
 obtain ⟨z,hz,hR⟩:=Fl.iter_inv (F:=kbj a b n)
  (fun v=>∃ i:Nat,v.1=i/\i<=n/\Is (fun k=>if a<=k/\k<a+i then k+(b-a) else if b<=k/\k<b+i then k-(b-a) else k) l v.2)
  (fun v=>n-v.1.toNat) (fun z=>Is (fun k=>if a<=k/\k<a+n then k+(b-a) else if b<=k/\k<b+n then k-(b-a) else k) l z)
  (fun ⟨i',v⟩ ⟨i,hi,hin,his⟩=>by
   dsimp only at hi his ⊢
   subst hi
   unfold kbj
   dsimp only
   by_cases hc:i<n
   ·right
    rw [if_pos (by simpa using hc)]
    have ha':a+i<v.length:=by rw [his.len]; omega
    have hb':b+i<v.length:=by rw [his.len]; omega
    rw [w64n (n:=b+i) (by push_cast; rfl) (by omega),w64n (n:=a+i) (by push_cast; rfl) (by omega),w64n (n:=i+1) (by push_cast; rfl) (by omega)]
    simp only [kes,kjF,jae ha',jae hb',jab,jcl,jby]
    rw [if_neg (by omega)]
    simp only [jab]
    refine ⟨_,rfl,⟨i+1,rfl,by omega,(his.trans (Is.swap ha' hb')).congr (fun k hk=>?_) (fun k hk=>?_)⟩,by dsimp only; omega⟩
    ·repeat' split
     all_goals omega
    ·split <;> (try split) <;> omega
   ·left
    rw [if_neg (by simpa using hc)]
    have:i=n:=by omega
    subst this
    exact ⟨_,rfl,his⟩)
  (0,l) ⟨0,rfl,by omega,(Is.refl l).congr (fun k hk=>by rw [if_neg (by omega),if_neg (by omega)]) (fun k hk=>by rw [if_neg (by omega),if_neg (by omega)]; exact hk)⟩ (by dsimp only; omega)
 rw [hz]
 exact ⟨z,rfl,hR⟩
def rotF (a m b k:Nat):Nat:=if k<a then k else if k<a+(b-m) then k+(m-a) else if k<b then k-(b-m) else k
theorem krV (a m b:Nat) (cmp) (l:List Line) (h1:a<m) (h2:m<b) (h3:b<=l.length) (hl:l.length<=1000) :
  ∃ l',kaK a m b cmp l=some l'/\Is (rotF a m b) l l':=by
 unfold kaK
 obtain ⟨z,hz,hR⟩:=Fl.iter_inv (F:=kbt m cmp)
  (fun v=>∃ (i j:Nat) (σ:Nat->Nat),v.1=i/\v.2.1=j/\0<i/\0<j/\i<=m-a/\j<=b-m/\Is σ l v.2.2/\∀ k,k<l.length->σ (rotF (m-i) m (m+j) k)=rotF a m b k)
  (fun v=>v.1.toNat+v.2.1.toNat)
  (fun z=>∃ (i:Nat) (σ:Nat->Nat),z.1=i/\0<i/\i<=m-a/\i<=b-m/\Is σ l z.2/\∀ k,k<l.length->σ (rotF (m-i) m (m+i) k)=rotF a m b k)
  (fun ⟨i',j',v⟩ ⟨i,j,σ,hi,hj,hi0,hj0,him,hjm,his,hσ⟩=>by
   dsimp only at hi hj his ⊢
   subst hi; subst hj
   unfold kbt
   dsimp only
   by_cases he:i=j
   ·left
    subst he
    rw [if_neg (by simp)]
    exact ⟨_,rfl,i,σ,rfl,hi0,him,hjm,his,hσ⟩
   ·right
    rw [if_pos (by simpa using (by omega:¬ ((i:Int)=j)))]
    by_cases hlt:j<i
    ·rw [if_pos (by simpa using hlt),w64n (n:=m-i) (by omega) (by omega),w64n (n:=i-j) (by omega) (by omega)]
     obtain ⟨l',e,hl'⟩:=kgw (m-i) m j cmp v (by omega) (by rw [his.len]; omega) (by rw [his.len]; omega)
     rw [e]
     simp only [jab]
     refine ⟨_,rfl,⟨i-j,j,_,rfl,rfl,by omega,by omega,by omega,by omega,his.trans hl',fun k hk=>?_⟩,by dsimp only; omega⟩
     rw [<-hσ k hk]
     congr 1
     unfold rotF
     split <;> (try split) <;> (try split) <;> (try split) <;> (try split) <;> (try split) <;> (try split) <;> (try split) <;> omega
    ·rw [if_neg (by simpa using hlt),w64n (x:=(m:Int)+j) (n:=m+j) (by omega) (by omega),w64n (x:=((m+j:Nat):Int)-i) (n:=m+j-i) (by omega) (by omega),w64n (x:=(m:Int)-i) (n:=m-i) (by omega) (by omega),w64n (x:=(j:Int)-i) (n:=j-i) (by omega) (by omega)]
     obtain ⟨l',e,hl'⟩:=kgw (m-i) (m+j-i) i cmp v (by omega) (by rw [his.len]; omega) (by rw [his.len]; omega)
     rw [e]
     simp only [jab]
     refine ⟨_,rfl,⟨i,j-i,_,rfl,rfl,by omega,by omega,by omega,by omega,his.trans hl',fun k hk=>?_⟩,by dsimp only; omega⟩
     rw [<-hσ k hk]
     congr 1
     unfold rotF
     split <;> (try split) <;> (try split) <;> (try split) <;> (try split) <;> (try split) <;> (try split) <;> (try split) <;> omega)
  (((m-a:Nat):Int),((b-m:Nat):Int),l) ⟨m-a,b-m,fun k=>k,rfl,rfl,by omega,by omega,by omega,by omega,Is.refl l,fun k hk=>by rw [show m-(m-a)=a by omega,show m+(b-m)=b by omega]⟩ (by dsimp only; omega)
 rw [w64n (n:=m-a) (by omega) (by omega),w64n (n:=b-m) (by omega) (by omega),hz]
 simp only [jab]
 obtain ⟨i,σ,hi,hi0,him,hib,his,hσ⟩:=hR
 obtain ⟨z1,z2⟩:=z
 dsimp only at hi his
 subst hi
 dsimp only
 rw [w64n (n:=m-i) (by omega) (by omega)]
 obtain ⟨l',e,hl'⟩:=kgw (m-i) m i cmp z2 (by omega) (by rw [his.len]; omega) (by rw [his.len]; omega)
 rw [e]
 refine ⟨l',rfl,(his.trans hl').congr (fun k hk=>?_) (fun k hk=>by unfold rotF; split <;> (try split) <;> (try split) <;> omega)⟩
 rw [<-hσ k hk]
 congr 1
 unfold rotF
 split <;> (try split) <;> (try split) <;> (try split) <;> (try split) <;> (try split) <;> (try split) <;> (try split) <;> omega
def gg (l:List Line) (k:Nat):Line:=(l[k]?).getD (0,0,0,(0,0),false)
theorem krc {l:List Line} {k:Nat} (h:k<l.length):gg l k=l[k]:=by unfold gg; rw [jae h]; rfl
theorem gi_gg {l:List Line} {k:Nat} (h:k<l.length):gi l (k:Int)=some (gg l k):=by rw [kes,jae h,krc h]
theorem Is.gg {σ:Nat->Nat} {l l':List Line} (h:Is σ l l') (k:Nat):gg l' k=gg l (σ k):=by unfold Go.Abs.St.gg; rw [h.at']
structure Mv (a b:Nat) (l l':List Line):Prop where
 len:l'.length=l.length
 perm:l'.Perm l
 out:∀ k,k<a\/b<=k->gg l' k=gg l k
 ins:∀ k,a<=k->k<b->∃ k',a<=k'/\k'<b/\gg l' k=gg l k'
theorem Mv.refl (a b:Nat) (l:List Line):Mv a b l l:=⟨rfl,.refl _,fun _ _=>rfl,fun k h1 h2=>⟨k,h1,h2,rfl⟩⟩
theorem Mv.trans {a b:Nat} {l l' l'':List Line} (h:Mv a b l l') (h':Mv a b l' l''):Mv a b l l'':=
 ⟨h'.len.trans h.len,h'.perm.trans h.perm,fun k hk=>(h'.out k hk).trans (h.out k hk),fun k h1 h2=>by
  obtain ⟨k',g1,g2,g3⟩:=h'.ins k h1 h2
  obtain ⟨k'',g4,g5,g6⟩:=h.ins k' g1 g2
  exact ⟨k'',g4,g5,g3.trans g6⟩⟩
theorem Mv.wide {a b a' b':Nat} {l l':List Line} (h:Mv a b l l') (ha:a'<=a) (hb:b<=b'):Mv a' b' l l':=
 ⟨h.len,h.perm,fun k hk=>h.out k (by omega),fun k h1 h2=>by
  by_cases hk:a<=k/\k<b
  ·obtain ⟨k',g1,g2,g3⟩:=h.ins k hk.1 hk.2
   exact ⟨k',by omega,by omega,g3⟩
  ·exact ⟨k,h1,h2,h.out k (by omega)⟩⟩
theorem Is.mv {σ:Nat->Nat} {a b:Nat} {l l':List Line} (h:Is σ l l') (h1:∀ k,k<a\/b<=k->σ k=k) (h2:∀ k,a<=k->k<b->a<=σ k/\σ k<b):Mv a b l l':=
 ⟨h.len,h.perm,fun k hk=>by rw [h.gg,h1 k hk],fun k g1 g2=>⟨σ k,(h2 k g1 g2).1,(h2 k g1 g2).2,h.gg k⟩⟩
def Lt (x y:Line):Prop:=x.1<y.1/\(0<=x.2.1/\x.2.1<=10000)/\0<=y.2.1/\y.2.1<=10000
structure COk (cmp:Line×Line->Option Int) (le:Line->Line->Prop):Prop where
 c:∀ x y,∃ v,cmp (x,y)=some v/\(Lt y x->(v<0↔¬ le y x))
 tr:∀ x y z,le x y->le y z->le x z
 tot:∀ x y,le x y\/le y x
def Tg (l:List Line) (a m b:Nat):Prop:=∀ i j,a<=i->i<m->m<=j->j<b->Lt (gg l i) (gg l j)
def Inc (l:List Line) (a b:Nat):Prop:=∀ i j,a<=i->i<j->j<b->Lt (gg l i) (gg l j)
def Srt (le:Line->Line->Prop) (l:List Line) (a b:Nat):Prop:=∀ i j,a<=i->i<j->j<b->le (gg l i) (gg l j)
section
variable {cmp:Line×Line->Option Int} {le:Line->Line->Prop} (ok:COk cmp le)
include ok
theorem COk.rf (x:Line):le x x:=(ok.tot x x).elim id id
theorem Srt.le' {l:List Line} {a b:Nat} (h:Srt le l a b) {i j:Nat} (h1:a<=i) (h2:i<=j) (h3:j<b):le (gg l i) (gg l j):=by
 by_cases e:i=j
 ·subst e; exact ok.rf _
 ·exact h i j h1 (by omega) h3
theorem COk.nle {x y:Line} (h:¬ le x y):le y x:=(ok.tot x y).resolve_left h
theorem ins1 {a i:Nat} {l:List Line} (hi:i<l.length) (ha:a<=i) (hl:l.length<=1000) (hs:Srt le l a i) (ht:Tg l a i (i+1)) :
  ∃ l',iter (kax a cmp) ((i:Int),l)=some l'/\Mv a (i+1) l l'/\Srt le l' a (i+1):=by
 refine Fl.iter_inv (F:=kax a cmp) (fun v=>∃ j:Nat,v.1=j/\a<=j/\j<=i/\Mv a (i+1) l v.2/\(gg v.2 j=gg l i/\∀ k,a<=k->k<=i->k≠j->Lt (gg v.2 k) (gg l i))/\∀ x y,a<=x->x<y->y<=i->y≠j->le (gg v.2 x) (gg v.2 y))
  (fun v=>v.1.toNat) (fun l'=>Mv a (i+1) l l'/\Srt le l' a (i+1)) (fun ⟨j',v⟩ ⟨j,hj,h1,h2,hm,hT,hv⟩=>?_) _ ⟨i,rfl,ha,jag _,.refl _ _ _,⟨rfl,fun k k1 k2 k3=>ht k i k1 (by omega) (jag _) (by omega)⟩,fun x y g1 g2 g3 g4=>hs x y g1 g2 (by omega)⟩ (by dsimp only; omega)
 dsimp only at hj hm hT hv ⊢
 subst hj
 unfold kax
 dsimp only
 by_cases hc:a<j
 ·rw [if_pos (by simpa using hc)]
  have b1:j<v.length:=by rw [hm.len]; omega
  have b2:j-1<v.length:=by omega
  rw [w64n (n:=j-1) (by omega) (by omega)]
  obtain ⟨c,hcc,hlt⟩:=ok.c (gg v j) (gg v (j-1))
  replace hlt:=hlt (by rw [hT.1]; exact hT.2 (j-1) (by omega) (by omega) (by omega))
  rw [gi_gg b1,gi_gg b2]
  simp only [jab]
  rw [hcc]
  simp only [jab]
  by_cases hneg:c<0
  ·right
   rw [if_pos (by simpa using hneg),krc b1,krc b2]
   simp only [kes,kjF,jcl,jby]
   rw [if_neg (by omega),jae b2]
   simp only [jab]
   have his:=Is.swap b1 b2
   have hgt:=hlt.1 hneg
   refine ⟨_,rfl,⟨j-1,rfl,by omega,by omega,hm.trans (his.mv (fun k hk=>?_) (fun k g1 g2=>?_)),⟨by dsimp only; rw [his.gg,if_pos rfl]; exact hT.1,fun k k1 k2 k3=>?_⟩,fun x y g1 g2 g3 g4=>?_⟩,by dsimp only; omega⟩
   ·rw [if_neg (by omega),if_neg (by omega)]
   ·split
    ·omega
    ·split <;> omega
   ·dsimp only
    rw [his.gg,if_neg (show ¬ k=j-1 from k3)]
    split
    ·exact hT.2 (j-1) (by omega) (by omega) (by omega)
    ·exact hT.2 k k1 k2 (by omega)
   ·dsimp only
    rw [his.gg,his.gg]
    by_cases e1:y=j
    ·subst e1
     rw [if_neg (show ¬ y=y-1 by omega),if_pos rfl]
     by_cases e2:x=y-1
     ·rw [if_pos e2]; exact ok.nle hgt
     ·rw [if_neg e2,if_neg (by omega)]; exact hv x (y-1) g1 (by omega) (by omega) (by omega)
    ·rw [if_neg (show ¬ y=j-1 from g4),if_neg e1]
     by_cases e2:x=j-1
     ·rw [if_pos e2]; exact hv j y (by omega) (by omega) g3 e1
     ·rw [if_neg e2]
      by_cases e3:x=j
      ·rw [if_pos e3]; exact hv (j-1) y (by omega) (by omega) g3 e1
      ·rw [if_neg e3]; exact hv x y g1 g2 g3 e1
  ·left
   rw [if_neg (by simpa using hneg)]
   refine ⟨_,rfl,hm,fun x y g1 g2 g3=>?_⟩
   have hle:le (gg v (j-1)) (gg v j):=Classical.byContradiction fun h=>hneg (hlt.2 h)
   by_cases e:y=j
   ·subst e
    by_cases e2:x=y-1
    ·rw [e2]; exact hle
    ·exact ok.tr _ _ _ (hv x (y-1) g1 (by omega) (by omega) (by omega)) hle
   ·exact hv x y g1 g2 (by omega) e
 ·left
  rw [if_neg (by simpa using hc)]
  exact ⟨_,rfl,hm,fun x y g1 g2 g3=>hv x y g1 g2 (by omega) (by omega)⟩
theorem kqo {a b:Nat} {l:List Line} (ha:a<=1000) (hb:b<=l.length) (hl:l.length<=1000) (ht:Inc l a b):∃ l',kau a b cmp l=some l'/\Mv a b l l'/\Srt le l' a b:=by
 unfold kau
 by_cases hab:b<=a
 ·refine ⟨l,?_,.refl _ _ _,fun i j h1 h2 h3=>by omega⟩
  rw [w64n (n:=a+1) (by push_cast; rfl) (by omega),kly (n:=1) (khP (z:=l) (by unfold kay; dsimp only; rw [if_neg (by simp; omega)])) (by omega)]
  rfl
 ·obtain ⟨z,hz,h1,h2⟩:=Fl.iter_inv (F:=kay a b cmp) (fun v=>∃ i:Nat,v.1=i/\a<i/\i<=b/\Mv a i l v.2/\Srt le v.2 a i)
   (fun v=>b-v.1.toNat) (fun l'=>Mv a b l l'/\Srt le l' a b) (fun ⟨i',v⟩ ⟨i,hi,h1,h2,hm,hv⟩=>by
    dsimp only at hi hm hv ⊢
    subst hi
    unfold kay
    dsimp only
    by_cases hc:i<b
    ·right
     rw [if_pos (by simpa using hc)]
     obtain ⟨l',e,g1,g2⟩:=ins1 ok (a:=a) (i:=i) (l:=v) (by rw [hm.len]; omega) (by omega) (by rw [hm.len]; omega) hv (fun x y k1 k2 k3 k4=>by
      obtain ⟨x',x1,x2,x3⟩:=hm.ins x k1 k2
      rw [x3,hm.out y (.inr k3)]; exact ht x' y x1 (by omega) (by omega))
     rw [e]
     simp only [jab]
     rw [w64n (n:=i+1) (by push_cast; rfl) (by omega)]
     exact ⟨_,rfl,⟨i+1,rfl,by omega,by omega,(hm.wide (jag _) (by omega)).trans (g1.wide (jag _) (jag _)),g2⟩,by dsimp only; omega⟩
    ·left
     rw [if_neg (by simpa using hc)]
     exact ⟨_,rfl,hm.wide (jag _) h2,by rwa [show i=b by omega] at hv⟩)
   (((a+1:Nat):Int),l) ⟨a+1,rfl,by omega,by omega,.refl _ _ _,fun i j h1 h2 h3=>by omega⟩ (by dsimp only; omega)
  rw [w64n (n:=a+1) (by push_cast; rfl) (by omega),hz]
  exact ⟨z,rfl,h1,h2⟩
end
theorem kju {i j:Nat} (h:i+j<=100000):gshr .u64 (IntKind.wrap .u64 (w64 ((i:Int)+j))) 1=some (((i+j) / 2:Nat):Int):=by
 rw [w64n (n:=i+j) (by push_cast; rfl) (by omega)]
 have hw:IntKind.wrap .u64 ((i+j:Nat):Int)=((i+j:Nat):Int):=by
  unfold IntKind.wrap
  simp [IntKind.bits,IntKind.signed]
  omega
 rw [hw]
 unfold gshr
 rw [if_pos (by omega)]
 have:(2:Int) ^ (min (1:Int).toNat (IntKind.bits .u64))=2:=by decide
 rw [this,Int.fdiv_eq_ediv_of_nonneg _ (by omega)]
 congr 1
section
variable {cmp:Line×Line->Option Int} {le:Line->Line->Prop} (ok:COk cmp le)
include ok
theorem sm_L0 {a m b:Nat} {l:List Line} (ha:a<l.length) (hm:m<=b) (hb:b<=l.length) (hl:l.length<=1000) (hs:Srt le l m b) (ht:∀ k,m<=k->k<b->Lt (gg l a) (gg l k)) :
  ∃ z,iter (kaO a cmp l) ((m:Int),(b:Int))=some z/\∃ i:Nat,z=i/\m<=i/\i<=b/\(∀ k,m<=k->k<i->¬ le (gg l a) (gg l k))/\∀ k,i<=k->k<b->le (gg l a) (gg l k):=by
 refine Fl.iter_inv (F:=kaO a cmp l) (fun v=>∃ i j:Nat,v.1=i/\v.2=j/\m<=i/\i<=j/\j<=b/\(∀ k,m<=k->k<i->¬ le (gg l a) (gg l k))/\∀ k,j<=k->k<b->le (gg l a) (gg l k))
  (fun v=>v.2.toNat-v.1.toNat) (fun z=>∃ i:Nat,z=i/\m<=i/\i<=b/\(∀ k,m<=k->k<i->¬ le (gg l a) (gg l k))/\∀ k,i<=k->k<b->le (gg l a) (gg l k)) (fun ⟨i',j'⟩ ⟨i,j,hi,hj,h1,h2,h3,h4,h5⟩=>?_) _ ⟨m,b,rfl,rfl,jag _,hm,jag _,fun k g1 g2=>by omega,fun k g1 g2=>by omega⟩ (by dsimp only; omega)
 dsimp only at hi hj ⊢
 subst hi; subst hj
 unfold kaO
 dsimp only
 by_cases hc:i<j
 ·right
  rw [if_pos (by simpa using hc),kju (by omega)]
  generalize hh:(i+j) / 2=h
  have b1:i<=h:=by omega
  have b2:h<j:=by omega
  simp only [jab]
  rw [w64n (x:=(h:Int)) (n:=h) rfl (by omega),gi_gg (show h<l.length by omega),gi_gg ha]
  simp only [jab]
  obtain ⟨c,hcc,hlt⟩:=ok.c (gg l h) (gg l a)
  replace hlt:=hlt (ht h (by omega) (by omega))
  rw [hcc]
  simp only [jab]
  by_cases hneg:c<0
  ·rw [if_pos (by simpa using hneg),w64n (n:=h+1) (by push_cast; rfl) (by omega)]
   refine ⟨_,rfl,⟨h+1,j,rfl,rfl,by omega,by omega,h3,fun k g1 g2 hle=>hlt.1 hneg ?_,h5⟩,by dsimp only; omega⟩
   exact ok.tr _ _ _ hle (hs.le' ok g1 (by omega) (by omega))
  ·rw [if_neg (by simpa using hneg)]
   have hle:le (gg l a) (gg l h):=Classical.byContradiction fun x=>hneg (hlt.2 x)
   exact ⟨_,rfl,⟨i,h,rfl,rfl,h1,by omega,by omega,h4,fun k g1 g2=>ok.tr _ _ _ hle (hs.le' ok (by omega) g1 g2)⟩,by dsimp only; omega⟩
 ·left
  rw [if_neg (by simpa using hc)]
  exact ⟨_,rfl,i,rfl,h1,by omega,h4,fun k g1 g2=>h5 k (by omega) g2⟩
theorem sm_L2 {a m:Nat} {l:List Line} (hm:m<l.length) (ha:a<=m) (hl:l.length<=1000) (hs:Srt le l a m) (ht:∀ k,a<=k->k<m->Lt (gg l k) (gg l m)) :
  ∃ z,iter (kaS m cmp l) ((a:Int),(m:Int))=some z/\∃ i:Nat,z=i/\a<=i/\i<=m/\(∀ k,a<=k->k<i->le (gg l k) (gg l m))/\∀ k,i<=k->k<m->¬ le (gg l k) (gg l m):=by
 refine Fl.iter_inv (F:=kaS m cmp l) (fun v=>∃ i j:Nat,v.1=i/\v.2=j/\a<=i/\i<=j/\j<=m/\(∀ k,a<=k->k<i->le (gg l k) (gg l m))/\∀ k,j<=k->k<m->¬ le (gg l k) (gg l m))
  (fun v=>v.2.toNat-v.1.toNat) (fun z=>∃ i:Nat,z=i/\a<=i/\i<=m/\(∀ k,a<=k->k<i->le (gg l k) (gg l m))/\∀ k,i<=k->k<m->¬ le (gg l k) (gg l m)) (fun ⟨i',j'⟩ ⟨i,j,hi,hj,h1,h2,h3,h4,h5⟩=>?_) _ ⟨a,m,rfl,rfl,jag _,ha,jag _,fun k g1 g2=>by omega,fun k g1 g2=>by omega⟩ (by dsimp only; omega)
 dsimp only at hi hj ⊢
 subst hi; subst hj
 unfold kaS
 dsimp only
 by_cases hc:i<j
 ·right
  rw [if_pos (by simpa using hc),kju (by omega)]
  generalize hh:(i+j) / 2=h
  have b1:i<=h:=by omega
  have b2:h<j:=by omega
  simp only [jab]
  rw [w64n (x:=(h:Int)) (n:=h) rfl (by omega),gi_gg (show h<l.length by omega),gi_gg hm]
  simp only [jab]
  obtain ⟨c,hcc,hlt⟩:=ok.c (gg l m) (gg l h)
  replace hlt:=hlt (ht h (by omega) (by omega))
  rw [hcc]
  simp only [jab]
  by_cases hneg:c<0
  ·rw [if_neg (by simpa using hneg)]
   exact ⟨_,rfl,⟨i,h,rfl,rfl,h1,by omega,by omega,h4,fun k g1 g2 hle=>hlt.1 hneg (ok.tr _ _ _ (hs.le' ok (by omega) g1 g2) hle)⟩,by dsimp only; omega⟩
  ·rw [if_pos (by simpa using hneg),w64n (n:=h+1) (by push_cast; rfl) (by omega)]
   have hle:le (gg l h) (gg l m):=Classical.byContradiction fun x=>hneg (hlt.2 x)
   exact ⟨_,rfl,⟨h+1,j,rfl,rfl,by omega,by omega,h3,fun k g1 g2=>ok.tr _ _ _ (hs.le' ok g1 (by omega) (by omega)) hle,h5⟩,by dsimp only; omega⟩
 ·left
  rw [if_neg (by simpa using hc)]
  exact ⟨_,rfl,i,rfl,h1,by omega,h4,fun k g1 g2=>h5 k (by omega) g2⟩
theorem sm_L4 {lo hi n m:Nat} {md:Int} {l:List Line} (hlo:lo<=hi) (hmd:md+m=n) (hm0:0<=md) (hb:hi<n) (hn:n<=l.length+lo) (hhi:hi<=l.length) (hl:l.length<=1000) (hn1:n<=3000) (ht:∀ k,lo<=k->k<hi->Lt (gg l k) (gg l (n-1-k))) :
  ∃ z,iter (kaR m cmp l md) ((lo:Int),(hi:Int))=some z/\∃ s:Nat,z=s/\lo<=s/\s<=hi/\(lo<s->le (gg l (s-1)) (gg l (n-s)))/\(s<hi->¬ le (gg l s) (gg l (n-1-s))):=by
 refine Fl.iter_inv (F:=kaR m cmp l md) (fun v=>∃ i j:Nat,v.1=i/\v.2=j/\lo<=i/\i<=j/\j<=hi/\(lo<i->le (gg l (i-1)) (gg l (n-i)))/\(j<hi->¬ le (gg l j) (gg l (n-1-j))))
  (fun v=>v.2.toNat-v.1.toNat) (fun z=>∃ s:Nat,z=s/\lo<=s/\s<=hi/\(lo<s->le (gg l (s-1)) (gg l (n-s)))/\(s<hi->¬ le (gg l s) (gg l (n-1-s)))) (fun ⟨i',j'⟩ ⟨i,j,hi',hj,h1,h2,h3,h4,h5⟩=>?_) _ ⟨lo,hi,rfl,rfl,jag _,hlo,jag _,fun g=>by omega,fun g=>by omega⟩ (by dsimp only; omega)
 dsimp only at hi' hj ⊢
 subst hi'; subst hj
 unfold kaR
 dsimp only
 by_cases hc:i<j
 ·right
  rw [if_pos (by simpa using hc),kju (by omega)]
  generalize hh:(i+j) / 2=h
  have b1:i<=h:=by omega
  have b2:h<j:=by omega
  simp only [jab]
  rw [w64n (x:=(h:Int)) (n:=h) rfl (by omega),kbb (x:=md) (by omega) (by omega),w64n (x:=md+m) (n:=n) (by omega) (by omega),w64n (x:=(n:Int)-1) (n:=n-1) (by omega) (by omega),w64n (x:=((n-1:Nat):Int)-h) (n:=n-1-h) (by omega) (by omega),gi_gg (show n-1-h<l.length by omega),gi_gg (show h<l.length by omega)]
  simp only [jab]
  obtain ⟨c,hcc,hlt⟩:=ok.c (gg l (n-1-h)) (gg l h)
  replace hlt:=hlt (ht h (by omega) (by omega))
  rw [hcc]
  simp only [jab]
  by_cases hneg:c<0
  ·rw [if_neg (by simpa using hneg)]
   exact ⟨_,rfl,⟨i,h,rfl,rfl,h1,by omega,by omega,h4,fun _=>hlt.1 hneg⟩,by dsimp only; omega⟩
  ·rw [if_pos (by simpa using hneg),w64n (n:=h+1) (by push_cast; rfl) (by omega)]
   have hle:le (gg l h) (gg l (n-1-h)):=Classical.byContradiction fun x=>hneg (hlt.2 x)
   exact ⟨_,rfl,⟨h+1,j,rfl,rfl,by omega,by omega,h3,fun _=>by rw [show h+1-1=h by omega,show n-(h+1)=n-1-h by omega]; exact hle,h5⟩,by dsimp only; omega⟩
 ·left
  rw [if_neg (by simpa using hc)]
  obtain rfl:i=j:=by omega
  exact ⟨_,rfl,i,rfl,h1,h3,h4,h5⟩
end
theorem sm_L1 {a i:Nat} {l:List Line} (ha:a<i) (hi:i<=l.length) (hl:l.length<=1000) :
  ∃ l',iter (kaP i) ((a:Int),l)=some l'/\Is (fun k=>if a<=k/\k<i-1 then k+1 else if k=i-1 then a else k) l l':=by
 refine Fl.iter_inv (F:=kaP i) (fun v=>∃ j:Nat,v.1=j/\a<=j/\j<=i-1/\Is (fun k=>if a<=k/\k<j then k+1 else if k=j then a else k) l v.2)
  (fun v=>i-v.1.toNat) (fun l'=>Is (fun k=>if a<=k/\k<i-1 then k+1 else if k=i-1 then a else k) l l') (fun ⟨j',v⟩ ⟨j,hj,h1,h2,his⟩=>?_) _ ⟨a,rfl,jag _,by omega,(Is.refl l).congr (fun k hk=>by rw [if_neg (by omega)]; split <;> omega) (fun k hk=>by rw [if_neg (by omega),if_neg (by omega)]; exact hk)⟩ (by dsimp only; omega)
 dsimp only at hj his ⊢
 subst hj
 unfold kaP
 dsimp only
 rw [w64n (x:=(i:Int)-1) (n:=i-1) (by omega) (by omega)]
 by_cases hc:j<i-1
 ·right
  have b1:j<v.length:=by rw [his.len]; omega
  have b2:j+1<v.length:=by rw [his.len]; omega
  rw [if_pos (by simpa using hc),w64n (n:=j+1) (by push_cast; rfl) (by omega)]
  simp only [kes,kjF,jae b1,jae b2,jab,jcl,jby]
  rw [if_neg (by omega)]
  simp only [jab]
  refine ⟨_,rfl,⟨j+1,rfl,by omega,by omega,(his.trans (Is.swap b1 b2)).congr (fun k hk=>?_) (fun k hk=>?_)⟩,by dsimp only; omega⟩
  ·repeat' split
   all_goals omega
  ·repeat' split
   all_goals omega
 ·left
  rw [if_neg (by simpa using hc)]
  obtain rfl:j=i-1:=by omega
  exact ⟨_,rfl,his⟩
theorem sm_L3 {m i:Nat} {l:List Line} (hi:i<=m) (hm:m<l.length) (hl:l.length<=1000) :
  ∃ l',iter (kaQ i) ((m:Int),l)=some l'/\Is (fun k=>if k=i then m else if i<k/\k<=m then k-1 else k) l l':=by
 refine Fl.iter_inv (F:=kaQ i) (fun v=>∃ j:Nat,v.1=j/\i<=j/\j<=m/\Is (fun k=>if k=j then m else if j<k/\k<=m then k-1 else k) l v.2)
  (fun v=>v.1.toNat) (fun l'=>Is (fun k=>if k=i then m else if i<k/\k<=m then k-1 else k) l l') (fun ⟨j',v⟩ ⟨j,hj,h1,h2,his⟩=>?_) _ ⟨m,rfl,hi,jag _,(Is.refl l).congr (fun k hk=>by split <;> (try split) <;> omega) (fun k hk=>by split <;> (try split) <;> omega)⟩ (by dsimp only; omega)
 dsimp only at hj his ⊢
 subst hj
 unfold kaQ
 dsimp only
 by_cases hc:i<j
 ·right
  have b1:j<v.length:=by rw [his.len]; omega
  have b2:j-1<v.length:=by omega
  rw [if_pos (by simpa using hc),w64n (n:=j-1) (by omega) (by omega)]
  simp only [kes,kjF,jae b1,jae b2,jab,jcl,jby]
  rw [if_neg (by omega)]
  simp only [jab]
  refine ⟨_,rfl,⟨j-1,rfl,by omega,by omega,(his.trans (Is.swap b1 b2)).congr (fun k hk=>?_) (fun k hk=>?_)⟩,by dsimp only; omega⟩
  ·repeat' split
   all_goals omega
  ·repeat' split
   all_goals omega
 ·left
  rw [if_neg (by simpa using hc)]
  obtain rfl:j=i:=by omega
  exact ⟨_,rfl,his⟩
theorem kso {s m e k:Nat} (hs:s<=m) (hm:m<=e) (h:¬ (s<m/\m<e)):k=rotF s m e k:=by
 unfold rotF; repeat' split
 all_goals omega
theorem kuC {s m e k:Nat} (hs:s<=m) (hm:m<=e) (h:k<s\/e<=k):rotF s m e k=k:=by
 unfold rotF; repeat' split
 all_goals omega
theorem kwc {s m e k:Nat} (hs:s<=m) (hm:m<=e) (h1:s<=k) (h2:k<e):s<=rotF s m e k/\rotF s m e k<e:=by
 unfold rotF; repeat' split
 all_goals omega
section
variable {cmp:Line×Line->Option Int} {le:Line->Line->Prop} (ok:COk cmp le)
theorem Srt.out {l l':List Line} {a b x y:Nat} (h:Mv a b l l') (hs:Srt le l x y) (hd:y<=a\/b<=x):Srt le l' x y:=fun i j h1 h2 h3=>by
 rw [h.out i (by omega),h.out j (by omega)]; exact hs i j h1 h2 h3
include ok
theorem kfx:∀ (N a m b:Nat) (l:List Line),b-a<=N->a<m->m<b->b<=l.length->l.length<=1000->Srt le l a m->Srt le l m b->Tg l a m b->
  ∃ l',kan N a m b cmp l=some l'/\Mv a b l l'/\Srt le l' a b
 | 0,a,m,b,l,hN,h1,h2,h3,hl,s1,s2,ht=>by omega
 | N+1,a,m,b,l,hN,h1,h2,h3,hl,s1,s2,ht=>by
  show ∃ l',kbr (kan N) a m b cmp l=some l'/\_
  unfold kbr
  rw [w64n (x:=(m:Int)-a) (n:=m-a) (by omega) (by omega),w64n (x:=(b:Int)-m) (n:=b-m) (by omega) (by omega)]
  by_cases c1:m-a=1
  ·rw [if_pos (by simpa using (by omega:((m-a:Nat):Int)=1))]
   obtain ⟨z,hz,i,rfl,g1,g2,g3,g4⟩:=sm_L0 ok (a:=a) (by omega) (Nat.le_of_lt h2) h3 hl s2 (fun k k1 k2=>ht a k (jag _) h1 k1 k2)
   rw [hz]
   simp only [jab]
   obtain ⟨l',e,his⟩:=sm_L1 (a:=a) (i:=i) (l:=l) (by omega) (by omega) hl
   rw [e]
   refine ⟨l',rfl,his.mv (fun k hk=>?_) (fun k k1 k2=>?_),fun x y k1 k2 k3=>?_⟩
   ·rw [if_neg (by omega),if_neg (by omega)]
   ·repeat' split
    all_goals omega
   ·rw [his.gg,his.gg]
    by_cases e1:y<i-1
    ·rw [if_pos (by omega),if_pos (by omega)]; exact s2 _ _ (by omega) (by omega) (by omega)
    ·by_cases e2:y=i-1
     ·rw [if_pos (show a<=x/\x<i-1 by omega),if_neg (by omega),if_pos e2]
      exact ok.nle (g3 (x+1) (by omega) (by omega))
     ·rw [if_neg (show ¬ (a<=y/\y<i-1) by omega),if_neg e2]
      have hy:le (gg l a) (gg l y):=g4 y (by omega) k3
      by_cases e3:x<i-1
      ·rw [if_pos (by omega)]; exact ok.tr _ _ _ (ok.nle (g3 (x+1) (by omega) (by omega))) hy
      ·rw [if_neg (by omega)]
       by_cases e4:x=i-1
       ·rw [if_pos e4]; exact hy
       ·rw [if_neg e4]; exact s2 x y (by omega) k2 k3
  rw [if_neg (by simpa using (by omega:¬ ((m-a:Nat):Int)=1))]
  by_cases c2:b-m=1
  ·rw [if_pos (by simpa using (by omega:((b-m:Nat):Int)=1))]
   obtain ⟨z,hz,i,rfl,g1,g2,g3,g4⟩:=sm_L2 ok (a:=a) (m:=m) (by omega) (Nat.le_of_lt h1) hl s1 (fun k k1 k2=>ht k m k1 k2 (jag _) h2)
   rw [hz]
   simp only [jab]
   obtain ⟨l',e,his⟩:=sm_L3 (m:=m) (i:=i) (l:=l) g2 (by omega) hl
   rw [e]
   refine ⟨l',rfl,his.mv (fun k hk=>?_) (fun k k1 k2=>?_),fun x y k1 k2 k3=>?_⟩
   ·rw [if_neg (by omega),if_neg (by omega)]
   ·repeat' split
    all_goals omega
   ·rw [his.gg,his.gg]
    by_cases e1:y<i
    ·rw [if_neg (by omega),if_neg (by omega),if_neg (by omega),if_neg (by omega)]; exact s1 _ _ k1 k2 (by omega)
    ·by_cases e2:y=i
     ·rw [if_neg (show ¬ x=i by omega),if_neg (by omega),if_pos e2]
      exact g3 x k1 (by omega)
     ·rw [if_neg e2,if_pos (show i<y/\y<=m by omega)]
      by_cases e3:x<i
      ·rw [if_neg (by omega),if_neg (by omega)]
       exact s1 x (y-1) k1 (by omega) (by omega)
      ·by_cases e4:x=i
       ·rw [if_pos e4]
        exact ok.nle (g4 (y-1) (by omega) (by omega))
       ·rw [if_neg e4,if_pos (by omega)]
        exact s1 (x-1) (y-1) (by omega) (by omega) (by omega)
  rw [if_neg (by simpa using (by omega:¬ ((b-m:Nat):Int)=1)),kju (by omega)]
  generalize hmid:(a+b) / 2=mid
  simp only [jab]
  rw [w64n (x:=(mid:Int)) (n:=mid) rfl (by omega),w64n (x:=(mid:Int)+m) (n:=mid+m) (by push_cast; rfl) (by omega)]
  obtain ⟨lo,hi,hst,q1,q2,q3,q4,q5,q6⟩:∃ lo hi:Nat,(if decide ((mid:Int)<(m:Int))=true then (some (w64 (((mid+m:Nat):Int)-b),(mid:Int)):Option (Int×Int)) else some ((a:Int),(m:Int)))=some ((lo:Int),(hi:Int))/\lo<=hi/\hi<mid+m/\mid+m<=l.length+lo/\hi<=l.length/\(hi=m/\m<=mid\/hi=mid/\mid<m)/\(lo=a/\m<=mid\/lo+b=mid+m/\mid<m):=by
   by_cases hc:mid<m
   ·refine ⟨mid+m-b,mid,?_,by omega,by omega,by omega,by omega,.inr ⟨rfl,hc⟩,.inr ⟨by omega,hc⟩⟩
    rw [if_pos (by simpa using hc),w64n (n:=mid+m-b) (by omega) (by omega)]
   ·exact ⟨a,m,by rw [if_neg (by simpa using hc)],by omega,by omega,by omega,by omega,.inl ⟨rfl,by omega⟩,.inl ⟨rfl,by omega⟩⟩
  rw [hst]
  simp only [jab]
  obtain ⟨z,hz,s,rfl,r1,r2,r3,r4⟩:=sm_L4 ok (l:=l) (lo:=lo) (hi:=hi) (n:=mid+m) (m:=m) (md:=mid) q1 (by push_cast; rfl) (by omega) q2 q3 q4 hl (by omega) (fun k k1 k2=>ht k _ (by omega) (by omega) (by omega) (by omega))
  rw [hz]
  simp only [jab]
  obtain ⟨e,he⟩:∃ e,e=mid+m-s:=⟨_,rfl⟩
  rw [w64n (x:=((mid+m:Nat):Int)-s) (n:=e) (by omega) (by omega)]
  have hes:e+s=mid+m:=by omega
  have has:a<=s:=by omega
  have hsm:s<=m:=by omega
  have hsd:s<=mid:=by omega
  have hem:m<=e:=by omega
  have hed:mid<=e:=by omega
  have heb:e<=b:=by omega
  rw [show mid+m-s=e by omega,show mid+m-1-s=e-1 by omega] at *
  obtain ⟨l1,hrot,his⟩:∃ l1,((if decide ((s:Int)<(m:Int))=true then (some (decide ((m:Int)<(e:Int))):Option Bool) else some false).bind fun v42=>((if v42=true then ((kaK s m e cmp l).bind fun v43=>some v43) else some l):Option (List Line)))=some l1/\Is (rotF s m e) l l1:=by
   by_cases hc:s<m/\m<e
   ·rw [if_pos (by simpa using hc.1)]
    simp only [jab]
    rw [if_pos (by simpa using hc.2)]
    obtain ⟨l1,h4,h5⟩:=krV s m e cmp l hc.1 hc.2 (by omega) hl
    exact ⟨l1,by rw [h4]; rfl,h5⟩
   ·refine ⟨l,?_,(Is.refl l).congr (fun k hk=>kso hsm hem hc) (fun k hk=>by rw [<-kso hsm hem hc]; exact hk)⟩
    by_cases hc1:s<m
    ·rw [if_pos (by simpa using hc1)]
     simp only [jab]
     rw [if_neg (by simp; omega)]
    ·rw [if_neg (by simpa using hc1)]; rfl
  obtain ⟨v42,hv42,hrot⟩:=jaa.1 hrot
  rw [hv42]
  simp only [jab]
  rw [hrot]
  simp only [jab]
  have hlen1:=his.len
  have p1:Srt le l1 a s:=fun x y k1 k2 k3=>by
   rw [his.gg,his.gg]; unfold rotF; rw [if_pos (by omega),if_pos (by omega)]; exact s1 x y k1 k2 (by omega)
  have p2:Srt le l1 s mid:=fun x y k1 k2 k3=>by
   rw [his.gg,his.gg]; unfold rotF
   rw [if_neg (by omega),if_pos (by omega),if_neg (by omega),if_pos (by omega)]; exact s2 _ _ (by omega) (by omega) (by omega)
  have p3:Srt le l1 mid e:=fun x y k1 k2 k3=>by
   rw [his.gg,his.gg]; unfold rotF
   rw [if_neg (by omega),if_neg (by omega),if_pos (by omega),if_neg (by omega),if_neg (by omega),if_pos (by omega)]; exact s1 _ _ (by omega) (by omega) (by omega)
  have p4:Srt le l1 e b:=fun x y k1 k2 k3=>by
   rw [his.gg,his.gg]; unfold rotF
   rw [if_neg (by omega),if_neg (by omega),if_neg (by omega),if_neg (by omega),if_neg (by omega),if_neg (by omega)]; exact s2 _ _ (by omega) k2 k3
  have t1:Tg l1 a s mid:=fun x y k1 k2 k3 k4=>by
   rw [his.gg,his.gg]; unfold rotF; rw [if_pos (by omega),if_neg (by omega),if_pos (by omega)]; exact ht _ _ k1 (by omega) (by omega) (by omega)
  have t4:Tg l1 mid e b:=fun x y k1 k2 k3 k4=>by
   rw [his.gg,his.gg]; unfold rotF
   rw [if_neg (by omega),if_neg (by omega),if_pos (by omega),if_neg (by omega),if_neg (by omega),if_neg (by omega)]; exact ht _ _ (by omega) (by omega) (by omega) k4
  have cross:∀ x y,a<=x->x<mid->mid<=y->y<b->le (gg l1 x) (gg l1 y):=fun x y k1 k2 k3 k4=>by
   rw [his.gg,his.gg]
   unfold rotF
   by_cases f1:x<s
   ·rw [if_pos f1,if_neg (by omega),if_neg (by omega)]
    by_cases f2:y<e
    ·rw [if_pos f2]; exact s1.le' ok k1 (by omega) (by omega)
    ·rw [if_neg f2]
     exact ok.tr _ _ _ (s1.le' ok (i:=x) (j:=s-1) k1 (by omega) (by omega)) (ok.tr _ _ _ (r3 (by omega)) (s2.le' ok (i:=e) (j:=y) (by omega) (by omega) k4))
   ·rw [if_neg f1,if_pos (by omega),if_neg (by omega),if_neg (by omega)]
    by_cases f2:y<e
    ·rw [if_pos f2]
     exact ok.tr _ _ _ (s2.le' ok (i:=x+(m-s)) (j:=e-1) (by omega) (by omega) (by omega)) (ok.tr _ _ _ (ok.nle (r4 (by omega))) (s1.le' ok (i:=s) (j:=y-(e-m)) (by omega) (by omega) (by omega)))
    ·rw [if_neg f2]; exact s2.le' ok (by omega) (by omega) k4
  have m1:Mv a b l l1:=(his.mv (a:=s) (b:=e) (fun k hk=>kuC hsm hem hk) (fun k k1 k2=>kwc hsm hem k1 k2)).wide has heb
  obtain ⟨l2,hl2,m2,t2⟩:∃ l2,((if decide ((a:Int)<(s:Int))=true then (some (decide ((s:Int)<(mid:Int))):Option Bool) else some false).bind fun v45=>((if v45=true then ((kan N a s mid cmp l1).bind fun v46=>some v46) else some l1):Option (List Line)))=some l2/\Mv a mid l1 l2/\Srt le l2 a mid:=by
   by_cases hc:a<s/\s<mid
   ·rw [if_pos (by simpa using hc.1)]
    simp only [jab]
    rw [if_pos (by simpa using hc.2)]
    obtain ⟨l2,h4,h5,h6⟩:=kfx N a s mid l1 (by omega) hc.1 hc.2 (by omega) (by omega) p1 p2 t1
    exact ⟨l2,by rw [h4]; rfl,h5,h6⟩
   ·refine ⟨l1,?_,.refl _ _ _,fun x y k1 k2 k3=>?_⟩
    ·by_cases hc1:a<s
     ·rw [if_pos (by simpa using hc1)]
      simp only [jab]
      rw [if_neg (by simp; omega)]
     ·rw [if_neg (by simpa using hc1)]; rfl
    ·by_cases hc1:a<s
     ·exact p1 x y k1 k2 (by omega)
     ·exact p2 x y (by omega) k2 k3
  obtain ⟨v45,hv45,hl2⟩:=jaa.1 hl2
  rw [hv45]
  simp only [jab]
  rw [hl2]
  simp only [jab]
  have hlen2:=m2.len
  have p3':=p3.out m2 (.inr (jag _))
  have p4':=p4.out m2 (.inr hed)
  obtain ⟨l3,hl3,m3,t3⟩:∃ l3,((if decide ((mid:Int)<(e:Int))=true then (if decide ((e:Int)<(b:Int))=true then ((kan N mid e b cmp l2).bind fun v48=>some v48) else some l2) else some l2):Option (List Line))=some l3/\Mv mid b l2 l3/\Srt le l3 mid b:=by
   by_cases hc:mid<e/\e<b
   ·rw [if_pos (by simpa using hc.1),if_pos (by simpa using hc.2)]
    obtain ⟨l3,h4,h5,h6⟩:=kfx N mid e b l2 (by omega) hc.1 hc.2 (by omega) (by omega) p3' p4' (fun x y k1 k2 k3 k4=>by rw [m2.out x (by omega),m2.out y (by omega)]; exact t4 x y k1 k2 k3 k4)
    exact ⟨l3,by rw [h4]; rfl,h5,h6⟩
   ·refine ⟨l2,?_,.refl _ _ _,fun x y k1 k2 k3=>?_⟩
    ·by_cases hc1:mid<e
     ·rw [if_pos (by simpa using hc1),if_neg (by simp; omega)]
     ·rw [if_neg (by simpa using hc1)]
    ·by_cases hc1:mid<e
     ·exact p3' x y k1 k2 (by omega)
     ·exact p4' x y (by omega) k2 k3
  rw [hl3]
  refine ⟨l3,rfl,m1.trans ((m2.wide (jag _) (by omega)).trans (m3.wide (by omega) (jag _))),fun x y k1 k2 k3=>?_⟩
  by_cases f1:y<mid
  ·exact t2.out m3 (.inl (jag _)) x y k1 k2 f1
  ·by_cases f2:mid<=x
   ·exact t3 x y f2 k2 k3
   ·rw [m3.out x (by omega)]
    obtain ⟨y',y1,y2,y3⟩:=m3.ins y (by omega) k3
    obtain ⟨x',x1,x2,x3⟩:=m2.ins x k1 (by omega)
    rw [y3,x3,m2.out y' (by omega)]
    exact cross x' y' x1 x2 y1 y2
end
theorem khB {q q' c:Nat} (h:q'<q):q'*c+c<=q*c:=by
 have:(q'+1)*c<=q*c:=jbk c h
 rwa [jdz] at this
section
variable {cmp:Line×Line->Option Int} {le:Line->Line->Prop} (ok:COk cmp le)
def Tp (l:List Line) (c:Nat):Prop:=∀ i j,i<c->c<=j->j<l.length->Lt (gg l i) (gg l j)
theorem Tp.mv {l l':List Line} {a b c:Nat} (h:Tp l c) (hm:Mv a b l l') (hb:b<=l.length) (hc:c<=a\/b<=c):Tp l' c:=fun i j h1 h2 h3=>by
 rw [hm.len] at h3
 obtain ⟨i',i1,i2⟩:∃ i',i'<c/\gg l' i=gg l i':=by
  by_cases h:a<=i/\i<b
  ·obtain ⟨k,k1,k2,k3⟩:=hm.ins i h.1 h.2
   exact ⟨k,by omega,k3⟩
  ·exact ⟨i,h1,hm.out i (by omega)⟩
 obtain ⟨j',j1,j2,j3⟩:∃ j',c<=j'/\j'<l.length/\gg l' j=gg l j':=by
  by_cases h:a<=j/\j<b
  ·obtain ⟨k,k1,k2,k3⟩:=hm.ins j h.1 h.2
   exact ⟨k,by omega,by omega,k3⟩
  ·exact ⟨j,h2,h3,hm.out j (by omega)⟩
 rw [i2,j3]; exact h i' j' i1 j1 j2
theorem Tp.tg {l:List Line} {a m b:Nat} (h:Tp l m) (hb:b<=l.length):Tg l a m b:=fun i j h1 h2 h3 h4=>h i j h2 h3 (by omega)
theorem Inc.mv {l v:List Line} {a b c:Nat} (h:Inc l 0 b) (hm:Mv 0 a l v) (hc:a<=c):Inc v c b:=fun i j h1 h2 h3=>by
 rw [hm.out i (.inr (by omega)),hm.out j (.inr (by omega))]; exact h i j (by omega) h2 h3
def Blks (le:Line->Line->Prop) (n bs:Nat) (l:List Line):Prop:=∀ q,Srt le l (q*bs) (min n (q*bs+bs))
theorem Inc.sub {l:List Line} {a b b':Nat} (h:Inc l a b) (hb:b'<=b):Inc l a b':=fun i j h1 h2 h3=>h i j h1 h2 (by omega)
theorem Srt.sub {l:List Line} {a b a' b':Nat} (h:Srt le l a b) (ha:a<=a') (hb:b'<=b):Srt le l a' b':=fun i j h1 h2 h3=>h i j (by omega) h2 (by omega)
include ok
theorem ktU {n:Nat} {l:List Line} (hn:n=l.length) (hl:l.length<=1000) (hI:Inc l 0 n) :
  ∃ z,iter (kaY n cmp) (20,0,l)=some z/\∃ a:Nat,z.1=a/\a<=n/\n<a+20/\(Mv 0 a l z.2/\∀ q,Tp z.2 (q*20))/\∀ q,q*20+20<=a/\Srt le z.2 (q*20) (q*20+20)\/q*20=a\/n<q*20:=by
 refine Fl.iter_inv (F:=kaY n cmp) (fun v=>∃ q:Nat,v.1=((q*20+20:Nat):Int)/\v.2.1=((q*20:Nat):Int)/\q*20<=n/\(Mv 0 (q*20) l v.2.2/\∀ q,Tp v.2.2 (q*20))/\∀ q',q'<q->Srt le v.2.2 (q'*20) (q'*20+20))
  (fun v=>n+20-v.1.toNat) _ (fun ⟨b',a',v⟩ ⟨q,hb,ha,h1,⟨hm,hT⟩,hs⟩=>?_) _ ⟨0,rfl,rfl,by omega,⟨.refl _ _ _,fun q i j k1 k2 k3=>hI i j (by omega) (by omega) (by rw [hn]; exact k3)⟩,fun q' h=>by omega⟩ (by dsimp only; omega)
 dsimp only at hb ha hm hT hs ⊢
 subst hb; subst ha
 unfold kaY
 dsimp only
 by_cases hc:q*20+20<=n
 ·right
  rw [if_pos (by simp only [jak]; omega)]
  obtain ⟨v',e,g1,g2⟩:=kqo ok (a:=q*20) (b:=q*20+20) (l:=v) (by omega) (by rw [hm.len]; omega) (by rw [hm.len]; omega) ((hI.mv hm (jag _)).sub hc)
  rw [e]
  simp only [jab]
  rw [w64n (n:=(q+1)*20+20) (by omega) (by omega)]
  refine ⟨_,rfl,⟨q+1,rfl,by dsimp only; omega,by omega,⟨(hm.wide (jag _) (by omega)).trans (g1.wide (by omega) (by omega)),fun q'=>(hT q').mv g1 (by rw [hm.len]; omega) (by omega)⟩,fun q' h=>?_⟩,by dsimp only; omega⟩
  by_cases e:q'=q
  ·subst e; exact g2
  ·exact (hs q' (by omega)).out g1 (.inl (by omega))
 ·left
  rw [if_neg (by simp only [jak]; omega)]
  refine ⟨_,rfl,q*20,rfl,h1,by omega,⟨hm,hT⟩,fun q'=>?_⟩
  rcases Nat.lt_trichotomy q' q with h | h | h
  ·exact .inl ⟨by omega,hs q' h⟩
  ·exact .inr (.inl (by omega))
  ·exact .inr (.inr (by omega))
theorem kud {n bs:Nat} {l:List Line} (w:Int×List Line) (hw:w.1=bs) (hbs:0<bs) (hbn:bs<n) (hn:n=l.length) (hl:l.length<=1000) (hB:Blks le n bs l) (hT0:∀ q,Tp l (q*bs)) :
  ∃ z,iter (kaW n cmp w) (((2*bs:Nat):Int),0,l)=some z/\∃ q:Nat,z.1=((q*(2*bs):Nat):Int)/\q*(2*bs)<=n/\n<q*(2*bs)+2*bs/\(Mv 0 n l z.2/\(∀ q',Tp z.2 (q'*(2*bs)))/\∀ q',q*(2*bs)<=q'*bs->Tp z.2 (q'*bs))/\(∀ q',q'<q->Srt le z.2 (q'*(2*bs)) (q'*(2*bs)+2*bs))/\∀ q',q*(2*bs)<=q'*bs->Srt le z.2 (q'*bs) (min n (q'*bs+bs)):=by
 refine Fl.iter_inv (F:=kaW n cmp w) (fun v=>∃ q:Nat,v.1=((q*(2*bs)+2*bs:Nat):Int)/\v.2.1=((q*(2*bs):Nat):Int)/\q*(2*bs)<=n/\(Mv 0 n l v.2.2/\(∀ q',Tp v.2.2 (q'*(2*bs)))/\∀ q',q*(2*bs)<=q'*bs->Tp v.2.2 (q'*bs))/\(∀ q',q'<q->Srt le v.2.2 (q'*(2*bs)) (q'*(2*bs)+2*bs))/\∀ q',q*(2*bs)<=q'*bs->Srt le v.2.2 (q'*bs) (min n (q'*bs+bs)))
  (fun v=>n+2*bs-v.1.toNat) _ (fun ⟨b',a',v⟩ ⟨q,hb,ha,h1,⟨hm,hT1,hT2⟩,hs,hr⟩=>?_) _ ⟨0,by dsimp only; simp,by dsimp only; simp,by omega,⟨.refl _ _ _,fun q'=>by have:=hT0 (2*q'); rwa [show 2*q'*bs=q'*(2*bs) by rw [Nat.mul_comm 2 q',Nat.mul_assoc]] at this,fun q' _=>hT0 q'⟩,fun q' h=>by omega,fun q' _=>hB q'⟩ (by dsimp only; omega)
 dsimp only at hb ha hm hT1 hT2 hs hr ⊢
 subst hb; subst ha
 unfold kaW
 dsimp only
 have e1:(2*q)*bs=q*(2*bs):=by rw [Nat.mul_comm 2 q,Nat.mul_assoc]
 have e2:(2*q+1)*bs=q*(2*bs)+bs:=by rw [jdz,e1]
 by_cases hc:q*(2*bs)+2*bs<=n
 ·right
  generalize hA:q*(2*bs)=A at *
  rw [if_pos (by simp only [jak]; omega),hw,w64n (x:=(A:Int)+bs) (n:=A+bs) (by push_cast; rfl) (by omega),w64n (x:=2*(bs:Int)) (n:=2*bs) (by omega) (by omega),w64n (x:=((A+2*bs:Nat):Int)+((2*bs:Nat):Int)) (n:=A+2*bs+2*bs) (by omega) (by omega)]
  have r1:=hr (2*q) (by omega)
  have r2:=hr (2*q+1) (by omega)
  rw [e1] at r1
  rw [e2] at r2
  have tp:=hT2 (2*q+1) (by omega)
  rw [e2] at tp
  obtain ⟨v',e,g1,g2⟩:=kfx ok 1000000 A (A+bs) (A+2*bs) v (by omega) (by omega) (by omega) (by rw [hm.len]; omega) (by rw [hm.len]; omega) (r1.sub (jag _) (by omega)) (r2.sub (jag _) (by omega)) (tp.tg (by rw [hm.len]; omega))
  have e':kaB A ((A+bs:Nat):Int) ((A+2*bs:Nat):Int) cmp v=some v':=e
  rw [e']
  simp only [jab]
  have e3:(q+1)*(2*bs)=A+2*bs:=by rw [jdz,hA]
  refine ⟨_,rfl,⟨q+1,by dsimp only; rw [e3],by dsimp only; rw [e3],by omega,⟨hm.trans (g1.wide (by omega) hc),fun q'=>(hT1 q').mv g1 (by rw [hm.len]; omega) ?_,fun q' h=>(hT2 q' (by rw [e3] at h; omega)).mv g1 (by rw [hm.len]; omega) (by rw [e3] at h; omega)⟩,fun q' h=>?_,fun q' h=>?_⟩,by dsimp only; omega⟩
  ·rcases jcy q q' with h | h
   ·have:=khB (c:=2*bs) h; right; omega
   ·left; rw [<-hA]; exact jbk _ h
  ·by_cases e:q'=q
   ·subst e; rw [hA]; exact g2
   ·refine (hs q' (by omega)).out g1 (.inl ?_)
    have:=khB (c:=2*bs) (show q'<q by omega)
    omega
  ·rw [e3] at h
   exact (hr q' (by omega)).out g1 (.inr h)
 ·left
  rw [if_neg (by simp only [jak]; omega)]
  exact ⟨_,rfl,q,rfl,h1,by omega,⟨hm,hT1,hT2⟩,hs,hr⟩
theorem stable_spec {l:List Line} (hl:l.length<=1000) (hI:Inc l 0 l.length):∃ l',kbd (lenI l) cmp l=some l'/\l'.Perm l/\Srt le l' 0 l.length:=by
 unfold kbd
 rw [kae]
 obtain ⟨⟨z1,z2⟩,hz,a,ha,h1,h2,⟨hm,hTz⟩,hq⟩:=ktU ok (n:=l.length) (l:=l) rfl hl hI
 dsimp only at ha hm hTz hq
 subst ha
 rw [hz]
 simp only [jab]
 obtain ⟨v,e,g1,g2⟩:=kqo ok (a:=a) (b:=l.length) (l:=z2) (by omega) (by rw [hm.len]; omega) (by rw [hm.len]; omega) (hI.mv hm (jag _))
 rw [e]
 simp only [jab]
 have hB:Blks le l.length 20 v:=fun q=>by
  rcases hq q with ⟨h3,h4⟩ | h3 | h3
  ·exact (h4.out g1 (.inl h3)).sub (jag _) (by omega)
  ·rw [h3]; exact g2.sub (jag _) (by omega)
  ·intro i j k1 k2 k3; omega
 have hM:Mv 0 l.length l v:=(hm.wide (jag _) h1).trans (g1.wide (by omega) (jag _))
 have hTv:∀ q,Tp v (q*20):=fun q=>by
  by_cases hqa:q*20<=a\/l.length<=q*20
  ·exact (hTz q).mv g1 (by rw [hm.len]; exact jag _) hqa
  ·rcases hq q with ⟨h3,_⟩ | h3 | h3 <;> omega
 obtain ⟨z,hz,hR⟩:=Fl.iter_inv (F:=kbv l.length cmp) (fun v=>∃ bs:Nat,v.1=bs/\0<bs/\bs<=100000/\(Mv 0 l.length l v.2/\∀ q,Tp v.2 (q*bs))/\Blks le l.length bs v.2)
  (fun v=>l.length-v.1.toNat) (fun l'=>l'.Perm l/\Srt le l' 0 l.length) (fun ⟨b',v⟩ ⟨bs,hbs,h1,h2,⟨hm,hTb⟩,hB⟩=>by
   dsimp only at hbs hm hTb hB ⊢
   subst hbs
   unfold kbv
   dsimp only
   by_cases hc:bs<l.length
   ·right
    rw [if_pos (by simp only [jak]; omega),w64n (x:=2*(bs:Int)) (n:=2*bs) (by omega) (by omega)]
    obtain ⟨⟨z1,z2⟩,hz,q,hq,k1,k2,⟨hm2,hT1,hT2⟩,hs,hr⟩:=kud ok (n:=l.length) (bs:=bs) (l:=v) ((bs:Int),v) rfl h1 hc hm.len.symm (by rw [hm.len]; exact hl) hB hTb
    dsimp only at hq hm2 hT1 hT2 hs hr
    subst hq
    rw [hz]
    simp only [jab]
    have e1:(2*q)*bs=q*(2*bs):=by rw [Nat.mul_comm 2 q,Nat.mul_assoc]
    have e2:(2*q+1)*bs=q*(2*bs)+bs:=by rw [jdz,e1]
    have fin:∀ v':List Line,Mv (q*(2*bs)) l.length z2 v'->Srt le v' (q*(2*bs)) l.length->(Mv 0 l.length l v'/\∀ q,Tp v' (q*(2*bs)))/\Blks le l.length (2*bs) v':=fun v' g1 g2=>by
     refine ⟨⟨hm.trans (hm2.trans (g1.wide (by omega) (jag _))),fun q'=>(hT1 q').mv g1 (by rw [hm2.len,hm.len]; exact jag _) ?_⟩,fun q'=>?_⟩
     ·rcases jcy q q' with h | h
      ·have:=khB (c:=2*bs) h; right; omega
      ·left; exact jbk _ h
     rcases Nat.lt_trichotomy q' q with h | h | h
     ·have:=khB (c:=2*bs) h
      exact ((hs q' h).out g1 (.inl this)).sub (jag _) (by omega)
     ·subst h; exact g2.sub (jag _) (by omega)
     ·have:=khB (c:=2*bs) h
      intro i j g1 g2 g3; omega
    generalize hA:q*(2*bs)=A at *
    have r1:=hr (2*q) (by omega)
    have r2:=hr (2*q+1) (by omega)
    rw [e1] at r1
    rw [e2] at r2
    have tp:=hT2 (2*q+1) (by omega)
    rw [e2] at tp
    rw [w64n (x:=(A:Int)+bs) (n:=A+bs) (by push_cast; rfl) (by omega),w64n (x:=(bs:Int)*2) (n:=2*bs) (by omega) (by omega)]
    by_cases hd:A+bs<l.length
    ·rw [if_pos (by simp only [jak]; omega)]
     obtain ⟨v',e,g1,g2⟩:=kfx ok 1000000 A (A+bs) l.length z2 (by omega) (by omega) hd (by rw [hm2.len,hm.len]; exact jag _) (by rw [hm2.len,hm.len]; exact hl) (r1.sub (jag _) (by omega)) (r2.sub (jag _) (by omega)) (tp.tg (by rw [hm2.len,hm.len]; exact jag _))
     have e':kaB A ((A+bs:Nat):Int) l.length cmp z2=some v':=e
     rw [e']
     simp only [jab]
     obtain ⟨f1,f2⟩:=fin v' g1 g2
     exact ⟨_,rfl,⟨2*bs,rfl,by omega,by omega,f1,f2⟩,by dsimp only; omega⟩
    ·rw [if_neg (by simp only [jak]; omega)]
     obtain ⟨f1,f2⟩:=fin z2 (.refl _ _ _) (r1.sub (jag _) (by omega))
     exact ⟨_,rfl,⟨2*bs,rfl,by omega,by omega,f1,f2⟩,by dsimp only; omega⟩
   ·left
    rw [if_neg (by simp only [jak]; omega)]
    refine ⟨_,rfl,hm.perm,?_⟩
    have:=hB 0
    rw [Nat.zero_mul] at this
    exact this.sub (jag _) (by omega))
  (20,v) ⟨20,rfl,by omega,by omega,⟨hM,hTv⟩,hB⟩ (by dsimp only; omega)
 rw [hz]
 exact ⟨z,rfl,hR⟩
end
end Go.Abs.St
namespace Go.Abs
open Go Go.Abs.Fl
def okC (x:It):Bool:=decide (0<=x.2.2)&&decide (x.2.2<=10000)
def prOk (l:List It):Bool:=decide (l.length<=60)&&!(l.zipIdx.any fun x=>badI l x.2 x.1)&&l.all okC
theorem kpD (l:List It) (hl:l.length<=1000):kbQ l 60 (fun u=>(kbD u).bind fun v=>some v)=some (!(l.zipIdx.any fun x=>badI l x.2 x.1)&&decide (l.length<=60)):=by
 unfold kbQ
 rw [kdI (F:=kbY l _) false l (by omega) (badI l) (fun i hi=>?_) (by unfold kbY; rw [if_neg (by simp [kae])])]
 ·by_cases h:(l.zipIdx.any fun x=>badI l x.2 x.1)=true
  rotate_left
  ·rw [jbs] at h
   simp only [h,jai,if_false,jab,jdx,Bool.true_and,kae]
   congr 2; simp only [eq_iff_iff]; omega
  ·simp [h]
 ·unfold kbY
  rw [if_pos (by rw [kae]; simpa using hi),kaj hi,kam (by omega)]
  simp only [jab,kbD,kfa,badI]
  by_cases hv:vP l[i]=true
  rotate_left
  ·rw [jbs] at hv; simp [hv]
  ·simp only [hv,jdr,jai,if_false,jcj]
   by_cases h0:0<i
   ·rw [if_pos (by simpa using h0),kio h0 (by omega),kaj (by omega)]
    simp only [jab,kia,ksD,kim hi,h0,decide_true,Bool.true_and]
    by_cases h9:ltI l[i-1] l[i]=true <;> simp [h9]
   ·have:i=0:=by omega
    subst this; simp
theorem knU (l:List It) (hl:l.length<=1000) (p:It->Bool):kas l (fun x=>some (p x))=some (l.any p):=by
 unfold kas kbh
 rw [kdm (F:=kaA l _) l (by omega) (fun i x=>if p x then some (i:Int) else none) (fun i hi=>by
  unfold kaA
  rw [if_pos (by rw [kae]; simpa using hi),kaj hi,kam (by omega)]
  simp only [jab]
  by_cases h:p l[i]=true <;> simp [h,nextL]) (by unfold kaA; rw [if_neg (by simp [kae])])]
 have:∀ (l:List It) (k:Nat),endL ((l.zipIdx k).findSome? fun x=>if p x.1 then some (x.2:Int) else none)=(if l.any p then .inl ((k:Int)+(l.findIdx p:Nat)) else .inr ()):=by
  intro l
  induction l with
  | nil=>intro k; rfl
  | cons x l ih=>
   intro k
   rw [jbv,jdh,jdm,List.findIdx_cons]
   cases hp:p x with
   | true=>simp [endL]
   | false=>
    simp only [jai,if_false,jcj,cond_false]
    rw [ih (k+1)]
    congr 2; push_cast; omega
 rw [this l 0]
 by_cases h:l.any p=true <;> simp [h]
theorem ktg:(fun u0:It=>(kgc u0).bind fun u1=>some u1)=fun u=>some (!okC u):=by
 funext u; simp [kgc,okC]
theorem kuz (l:List It):kfZ l=some (prOk l):=by
 unfold kfZ prOk
 rw [kae]
 by_cases hl:(60:Int)<l.length
 ·rw [if_pos (by simpa using hl)]
  have:¬ l.length<=60:=by omega
  simp [this]
 ·rw [if_neg (by simpa using hl)]
  have h30:l.length<=60:=by omega
  rw [kdI (F:=kej l) false l (by omega) (fun i x=>badI l i x||!okC x) (fun i hi=>?_) (by unfold kej; rw [if_neg (by simp [kae])])]
  ·rw [kuk (fun x:It×Nat=>badI l x.2 x.1) (fun x=>!okC x.1),kou (fun x=>!okC x),kiQ]
   by_cases h1:(l.zipIdx.any fun x=>badI l x.2 x.1)=true <;> by_cases h2:l.all okC=true <;> simp [h30,h1,h2]
  ·unfold kej
   rw [if_pos (by rw [kae]; simpa using hi),kaj hi,kam (by omega)]
   simp only [jab,kfN,badI,keg]
   rw [show (decide (0<=l[i].2.2)&&decide (l[i].2.2<=10000))=okC l[i] from rfl]
   by_cases hv:vP l[i]=true
   rotate_left
   ·rw [jbs] at hv; simp [hv]
   ·by_cases hn:okC l[i]=true
    rotate_left
    ·rw [jbs] at hn; simp [hv,hn]
    ·simp only [hv,hn,jdr,jai,if_false,jcj,Bool.or_false]
     by_cases h0:0<i
     ·rw [if_pos (by simpa using h0),kio h0 (by omega),kaj (by omega)]
      simp only [jab,kim hi,h0,decide_true,Bool.true_and]
      rw [show kcU l[i-1].1 l[i-1].2.1 l[i].1 l[i].2.1=_ from kiv l[i-1] l[i]]
      by_cases h9:ltI l[i-1] l[i]=true <;> simp [h9]
     ·have:i=0:=by omega
      subst this; simp
structure Prs (R:List It):Prop where
 l:R.length<=60
 inc:∀ i j,i<j->j<R.length->ordI (kc (at3 R i)) (kc (at3 R j)) = -1
 c:∀ i,i<R.length->0<=(at3 R i).2.2/\(at3 R i).2.2<=10000
theorem kvt {a b c:Int×Int} (h1:ordI a b = -1) (h2:ordI b c = -1):ordI a c = -1:=by
 unfold ordI at *
 repeat' split at h1
 all_goals (try (first | cases h1; done | skip))
 all_goals (repeat' split at h2)
 all_goals (repeat' split)
 all_goals omega
theorem kls {a b:Int×Int} (h1:ordI a b = -1):ordI b a=1/\a≠b:=by
 refine ⟨?_,?_⟩
 ·unfold ordI at *
  repeat' split at h1
  all_goals (repeat' split)
  all_goals omega
 ·rintro rfl
  unfold ordI at h1
  repeat' split at h1
  all_goals omega
theorem ktL (a:Int×Int):ordI a a=0:=by unfold ordI; simp
theorem kvY (x y:It):ltI x y=true↔ordI (kc x) (kc y) = -1:=by
 unfold ltI ordI kc
 simp only [jaq,jac,jak,beq_iff_eq]
 constructor
 ·rintro (h | ⟨h1,h2⟩)
  ·simp [h]
  ·simp [h1,h2]
 ·intro h
  repeat' split at h
  all_goals omega
theorem kwF {R:List It} (h:prOk R=true):Prs R:=by
 unfold prOk at h
 simp only [jac,jak,jax] at h
 obtain ⟨⟨h1,h2⟩,h3⟩:=h
 have hs:∀ i,i+1<R.length->ordI (kc (at3 R i)) (kc (at3 R (i+1))) = -1:=fun i hi=>by
  have:=(List.any_eq_false.1 h2) (R[i+1],i+1) (jdf.2 (jae hi))
  simp only [badI,jaq,jax,jac,jak,not_or,not_and,Bool.not_eq_false] at this
  have:=this.2 (by omega)
  rw [kvY] at this
  rw [kbG (by omega),kbG hi]
  simpa [jae (show i<R.length by omega)] using this
 refine ⟨h1,fun i j hij=>?_,fun i hi=>?_⟩
 ·induction j with
  | zero=>omega
  | succ j ih=>
   intro hj
   by_cases e:i=j
   ·subst e; exact hs i hj
   ·exact kvt (ih (by omega) (by omega)) (hs j hj)
 ·have:=jam.1 h3 R[i] (jdu hi)
  rw [kbG hi]
  simpa [okC] using this
theorem Prs.inj {R:List It} (h:Prs R) {i j:Nat} (hi:i<R.length) (hj:j<R.length) (e:kc (at3 R i)=kc (at3 R j)):i=j:=by
 rcases Nat.lt_trichotomy i j with hlt | heq | hlt
 ·exact absurd e (kls (h.inc i j hlt hj)).2
 ·exact heq
 ·exact absurd e.symm (kls (h.inc j i hlt hi)).2
theorem klj {κ β:Type} [DecidableEq κ] (l:List (κ×β)) (k k':κ) (v:β):mget (mput l k v) k'=if k'=k then some v else mget l k':=by
 induction l with
 | nil=>simp only [mput,mget]
 | cons p r ih=>
  simp only [mput]
  by_cases h:k=p.1
  ·rw [if_pos h]
   simp only [mget]
   by_cases h2:k'=k
   ·rw [if_pos h2]
    simp [h2]
   ·rw [if_neg h2]
    simp only [h2,if_false]
    rw [if_neg (by rw [<-h]; exact h2)]
  ·rw [if_neg h]
   simp only [mget,ih]
   by_cases h2:k'=p.1
   ·rw [if_pos h2,if_neg (by rw [h2]; exact fun e=>h e.symm),if_pos h2]
   ·rw [if_neg h2,if_neg h2]
def CMap (R:List It) (n:Nat) (M:List ((Int×Int)×Int)):Prop:=∀ p,(∀ c,mget M p=some c->∃ i,i<n/\kc (at3 R i)=p/\(at3 R i).2.2=c)/\(∀ i,i<n->kc (at3 R i)=p->mget M p=some (at3 R i).2.2)
theorem kvV {R:List It} (h:Prs R):∃ M,iter (kfu R) (0,[])=some M/\CMap R R.length M:=by
 obtain ⟨z,hz,hR⟩:=Fl.iter_inv (F:=kfu R) (fun x=>∃ n:Nat,n<=R.length/\x.1=(n:Int)/\CMap R n x.2) (fun x=>R.length-x.1.toNat) (fun z=>CMap R R.length z)
  (fun ⟨x,M⟩ ⟨n,hn,e,hM⟩=>by
   dsimp only at e hM
   subst e
   have:=h.l
   unfold kfu
   by_cases hlt:n<R.length
   ·right
    rw [if_pos (by simpa [kae] using hlt),kaj hlt,kam (by omega)]
    simp only [jab,kbD]
    refine ⟨_,rfl,⟨n+1,by omega,rfl,fun p=>⟨fun c hc=>?_,fun i hi hp=>?_⟩⟩,by simp only [jao]; omega⟩
    ·dsimp only at hc
     rw [klj] at hc
     split at hc
     ·rename_i hp
      cases hc
      exact ⟨n,by omega,by rw [kbG hlt,hp]; rfl,by rw [kbG hlt]⟩
     ·obtain ⟨i,hi,h1,h2⟩:=(hM p).1 c hc
      exact ⟨i,by omega,h1,h2⟩
    ·dsimp only
     rw [klj]
     by_cases e:i=n
     ·subst e
      rw [kbG hlt] at hp ⊢
      rw [if_pos (show p=(R[i].1,R[i].2.1) from hp.symm)]
     ·rw [if_neg,(hM p).2 i (by omega) hp]
      intro hpn
      refine e (h.inj (by omega) hlt (hp.trans ?_))
      rw [hpn,kbG hlt]; rfl
   ·left
    rw [if_neg (by simpa [kae] using hlt)]
    have:n=R.length:=by omega
    subst this
    exact ⟨_,rfl,hM⟩)
  (0,[]) ⟨0,by omega,rfl,fun p=>⟨fun c hc=>by simp [mget] at hc,fun i hi=>by omega⟩⟩ (by simp only; have:=h.l; omega)
 exact ⟨z,hz,hR⟩
def cn (R:List It) (i:Nat):Int:=(at3 R i).2.2
def Bst (R:List It) (T:Nat->Prop):Option Nat->Prop
 | none=>∀ j,j<R.length->¬ T j
 | some i=>i<R.length/\T i/\∀ j,j<R.length->T j->cn R i<cn R j\/(cn R i=cn R j/\i<=j)
def stepC (R:List It) (o:Option Nat) (j:Nat):Option Nat:=match o with
 | none=>some j
 | some i=>if cn R j<cn R i\/(cn R j=cn R i/\j<i) then some j else some i
theorem Bst.step {R:List It} {T:Nat->Prop} {o:Option Nat} {j:Nat} (h:Bst R T o) (hj:j<R.length):Bst R (fun x=>T x\/x=j) (stepC R o j):=by
 cases o with
 | none=>
  refine ⟨hj,.inr rfl,fun k hk hT=>?_⟩
  rcases hT with hT | rfl
  ·exact absurd hT (h k hk)
  ·exact .inr ⟨rfl,jag _⟩
 | some i=>
  obtain ⟨h1,h2,h3⟩:=h
  simp only [stepC]
  split
  ·rename_i hc
   refine ⟨hj,.inr rfl,fun k hk hT=>?_⟩
   rcases hT with hT | rfl
   ·have:=h3 k hk hT; omega
   ·exact .inr ⟨rfl,jag _⟩
  ·rename_i hc
   refine ⟨h1,.inl h2,fun k hk hT=>?_⟩
   rcases hT with hT | rfl
   ·exact h3 k hk hT
   ·omega
theorem Bst.skip {R:List It} {T:Nat->Prop} {o:Option Nat} {j:Nat} (h:Bst R T o) (hj:¬ j<R.length):Bst R (fun x=>T x\/x=j) o:=by
 cases o with
 | none=>exact fun k hk hT=>hT.elim (h k hk) (fun e=>hj (e ▸ hk))
 | some i=>exact ⟨h.1,.inl h.2.1,fun k hk hT=>hT.elim (h.2.2 k hk) (fun e=>absurd hk (e ▸ hj))⟩
theorem Bst.congr {R:List It} {T T':Nat->Prop} {o:Option Nat} (h:Bst R T o) (e:∀ j,j<R.length->(T j↔T' j)):Bst R T' o:=by
 cases o with
 | none=>exact fun k hk hT=>h k hk ((e k hk).2 hT)
 | some i=>exact ⟨h.1,(e i h.1).1 h.2.1,fun k hk hT=>h.2.2 k hk ((e k hk).2 hT)⟩
theorem Bst.uniq {R:List It} {T:Nat->Prop} {o o':Option Nat} (h:Bst R T o) (h':Bst R T o'):o=o':=by
 cases o with
 | none=>cases o' with
  | none=>rfl
  | some i=>exact absurd h'.2.1 (h i h'.1)
 | some i=>cases o' with
  | none=>exact absurd h.2.1 (h' i h.1)
  | some j=>
   have a:=h.2.2 j h'.1 h'.2.1
   have b:=h'.2.2 i h.1 h.2.1
   congr 1; omega
def chI (o:Option Nat):Int:=match o with | none=>-1 | some i=>(i:Int)
def Mq (R:List It) (sw:List Swap) (q:Int×Int) (j:Nat):Prop:=mayB sw q (kc (at3 R j))=true
theorem krL {R:List It} (h:R.length<=1000) {sw:List Swap} (hs:sw.length<=1000) (q:Int×Int):∃ o,kbx sw R q.1 q.2=some (chI o)/\Bst R (Mq R sw q) o:=by
 unfold kbx
 obtain ⟨z,hz,o,rfl,ho⟩:=Fl.iter_inv (F:=kfc sw R q.1 q.2) (fun x=>∃ (n:Nat) (o:Option Nat),n<=R.length/\x=((n:Int),chI o)/\Bst R (fun j=>j<n/\Mq R sw q j) o) (fun x=>R.length-x.1.toNat) (fun z=>∃ o,z=chI o/\Bst R (Mq R sw q) o)
  (fun x ⟨n,o,hn,e,ho⟩=>by
   subst e
   unfold kfc
   dsimp only
   by_cases hlt:n<R.length
   ·right
    rw [if_pos (by simpa [kae] using hlt),kaj hlt,kam (by omega)]
    simp only [jab]
    have hmay:=kkz sw hs q (kc R[n])
    rw [show kew sw q.1 q.2 R[n].1 R[n].2.1=_ from hmay]
    simp only [jab]
    have hat:at3 R n=R[n]:=kbG hlt
    have hlast:∀ i,o=some i->i<n:=fun i e=>by subst e; exact ho.2.1.1
    cases hb:mayB sw q (kc R[n]) with
    | false=>
     rw [if_neg (by simp)]
     refine ⟨_,rfl,⟨n+1,o,by omega,rfl,ho.congr fun j hj=>⟨fun ⟨a,b⟩=>⟨by omega,b⟩,fun ⟨a,b⟩=>⟨?_,b⟩⟩⟩,by simp only [jao]; omega⟩
     by_cases e:j=n
     ·subst e; unfold Mq at b; rw [hat,hb] at b; cases b
     ·omega
    | true=>
     rw [if_pos rfl]
     have hstep:=(ho.step hlt).congr (T':=fun j=>j<n+1/\Mq R sw q j) fun j hj=>by
      constructor
      ·rintro (⟨a,b⟩ | rfl)
       ·exact ⟨by omega,b⟩
       ·exact ⟨by omega,by unfold Mq; rw [hat]; exact hb⟩
      ·rintro ⟨a,b⟩
       by_cases e:j=n
       ·exact .inr e
       ·exact .inl ⟨by omega,b⟩
     cases o with
     | none=>
      rw [if_pos (by simp [chI])]
      exact ⟨_,rfl,⟨n+1,some n,by omega,rfl,hstep⟩,by simp only [jao]; omega⟩
     | some i=>
      have hi:=hlast i rfl
      rw [show chI (some i)=(i:Int) from rfl,if_neg (show ¬ decide (((i:Nat):Int)<0)=true by rw [jak]; omega),kaj (show i<R.length by omega)]
      simp only [jab]
      have e1:R[n].2.2=cn R n:=by unfold cn; rw [hat]
      have e2:(R[i]'(by omega)).2.2=cn R i:=by unfold cn; rw [kbG (by omega)]
      rw [e1,e2]
      simp only [stepC] at hstep
      by_cases hc:cn R n<cn R i
      ·rw [if_pos (by simpa using hc)]
       rw [if_pos (.inl hc)] at hstep
       exact ⟨_,rfl,⟨n+1,some n,by omega,rfl,hstep⟩,by simp only [jao]; omega⟩
      ·rw [if_neg (by simpa using hc)]
       rw [if_neg (by omega)] at hstep
       exact ⟨_,rfl,⟨n+1,some i,by omega,rfl,hstep⟩,by simp only [jao]; omega⟩
   ·left
    rw [if_neg (by simpa [kae] using hlt)]
    exact ⟨_,rfl,o,rfl,ho.congr fun j hj=>⟨fun ⟨_,b⟩=>b,fun b=>⟨by omega,b⟩⟩⟩)
  (0,-1) ⟨0,none,by omega,rfl,fun j hj ⟨a,_⟩=>by omega⟩ (by simp only; omega)
 exact ⟨o,by rw [hz]; rfl,ho⟩
def bq (R:List It) (o:Option Nat):Int:=match o with | none=>0 | some i=>cn R i
def pq (R:List It) (o:Option Nat):Int×Int:=match o with | none=>(0,0) | some i=>kc (at3 R i)
theorem kwm {R:List It} (h:Prs R) {M:List ((Int×Int)×Int)} (hM:CMap R R.length M) {j:Nat} (hj:j<R.length) {o:Option Nat} (ho:∀ i,o=some i->i<R.length) :
  kaU (kc (at3 R j)) M o.isSome (bq R o) (pq R o).1 (pq R o).2=some (M,(stepC R o j).isSome,bq R (stepC R o j),(pq R (stepC R o j)).1,(pq R (stepC R o j)).2):=by
 have hg:mget M (kc (at3 R j))=some (cn R j):=(hM _).2 j hj rfl
 unfold kaU
 rw [hg]
 simp only [Option.isSome_some,if_true,jbt]
 cases o with
 | none=>rfl
 | some i=>
  have hi:=ho i rfl
  have hs:stepC R (some i) j=if cn R j<cn R i\/(cn R j=cn R i/\j<i) then some j else some i:=rfl
  rw [if_neg (show ¬ (!(some i).isSome)=true by simp)]
  change (if decide (cn R j<cn R i)=true then some (M,true,cn R j,kc (at3 R j)) else if (cn R j==cn R i)=true then (keC (kc (at3 R j)) (kc (at3 R i))).bind fun v0=>(if decide (v0<0)=true then some (M,true,cn R j,kc (at3 R j)) else some (M,true,cn R i,kc (at3 R i))) else some (M,true,cn R i,kc (at3 R i)))=_
  rw [hs]
  by_cases hc:cn R j<cn R i
  ·rw [if_pos (show decide (cn R j<cn R i)=true by simpa using hc),if_pos (show cn R j<cn R i\/(cn R j=cn R i/\j<i) from .inl hc)]; rfl
  ·rw [if_neg (show ¬ decide (cn R j<cn R i)=true by simpa using hc)]
   by_cases he:cn R j=cn R i
   ·rw [if_pos (show (cn R j==cn R i)=true by simpa using he),kia]
    simp only [jab]
    rcases Nat.lt_trichotomy j i with hlt | heq | hlt
    ·rw [h.inc j i hlt hi,if_pos (show decide ((-1:Int)<0)=true by decide),if_pos (show cn R j<cn R i\/(cn R j=cn R i/\j<i) from .inr ⟨he,hlt⟩)]; rfl
    ·subst heq
     rw [ktL,if_neg (show ¬ decide ((0:Int)<0)=true by decide),if_neg (show ¬ (cn R j<cn R j\/(cn R j=cn R j/\j<j)) by omega)]; rfl
    ·rw [(kls (h.inc i j hlt hj)).1,if_neg (show ¬ decide ((1:Int)<0)=true by decide),if_neg (show ¬ (cn R j<cn R i\/(cn R j=cn R i/\j<i)) by omega)]; rfl
   ·rw [if_neg (show ¬ (cn R j==cn R i)=true by simpa using he),if_neg (show ¬ (cn R j<cn R i\/(cn R j=cn R i/\j<i)) by omega)]; rfl
theorem kvk {R:List It} {M:List ((Int×Int)×Int)} (hM:CMap R R.length M) {p:Int×Int} (hp:∀ j,j<R.length->kc (at3 R j)≠p) {a:Bool} {b c d:Int}:kaU p M a b c d=some (M,a,b,c,d):=by
 have hg:mget M p=none:=by
  cases hg:mget M p with
  | none=>rfl
  | some c=>
   obtain ⟨i,hi,h1,_⟩:=(hM p).1 c hg
   exact absurd h1 (hp i hi)
 unfold kaU
 rw [hg]; rfl
theorem ksC {R:List It} (h:Prs R) {M:List ((Int×Int)×Int)} (hM:CMap R R.length M) (p:Int×Int) {T:Nat->Prop} {o:Option Nat} (ho:Bst R T o) :
  ∃ o',kaU p M o.isSome (bq R o) (pq R o).1 (pq R o).2=some (M,o'.isSome,bq R o',(pq R o').1,(pq R o').2)/\Bst R (fun j=>T j\/kc (at3 R j)=p) o':=by
 by_cases hp:∃ j,j<R.length/\kc (at3 R j)=p
 ·obtain ⟨j,hj,rfl⟩:=hp
  refine ⟨_,kwm h hM hj (fun i e=>by subst e; exact ho.1),(ho.step hj).congr fun k hk=>?_⟩
  constructor
  ·rintro (a | rfl)
   ·exact .inl a
   ·exact .inr rfl
  ·rintro (a | a)
   ·exact .inl a
   ·exact .inr (h.inj hk hj a)
 ·refine ⟨o,kvk hM (fun j hj e=>hp ⟨j,hj,e⟩),ho.congr fun k hk=>⟨.inl,fun a=>a.elim id fun e=>absurd ⟨k,hk,e⟩ hp⟩⟩
theorem ksV {R:List It} (h:Prs R) {M:List ((Int×Int)×Int)} (hM:CMap R R.length M) {sw:List Swap} (hs:sw.length<=1000) (q:Int×Int) :
  ∃ o,kcs sw q M=some (bq R o,(pq R o).1,(pq R o).2,o.isSome,M)/\Bst R (Mq R sw q) o:=by
 unfold kcs
 obtain ⟨o0,e0,h0⟩:=ksC h hM q (T:=fun _=>False) (o:=none) (fun j _=>id)
 rw [show kaU q M false 0 0 0=_ from e0]
 simp only [jab]
 obtain ⟨z,hz,o,rfl,ho⟩:=Fl.iter_inv (F:=keF sw q) (fun x=>∃ (n:Nat) (o:Option Nat),n<=sw.length/\x=((n:Int),M,o.isSome,bq R o,(pq R o).1,(pq R o).2)/\Bst R (fun j=>mayB (sw.take n) q (kc (at3 R j))=true) o) (fun x=>sw.length-x.1.toNat) (fun z=>∃ o,z=(bq R o,(pq R o).1,(pq R o).2,o.isSome,M)/\Bst R (Mq R sw q) o)
  (fun x ⟨n,o,hn,e,ho⟩=>by
   subst e
   unfold keF
   dsimp only
   by_cases hlt:n<sw.length
   ·right
    rw [if_pos (by simpa [kae] using hlt),kaj hlt,kam (by omega)]
    simp only [jab]
    have htk:sw.take (n+1)=sw.take n++[sw[n]]:=by rw [List.take_add_one,jae hlt]; rfl
    have hm:∀ b:Int×Int,mayB (sw.take (n+1)) q b=(mayB (sw.take n) q b||(q.1==sw[n].1&&(q.2==sw[n].2.1&&(b.1==sw[n].2.2.1&&b.2==sw[n].2.2.2)))):=fun b=>by
     unfold mayB
     rw [htk,List.any_append,jdm,List.any_nil,Bool.or_false,Bool.or_assoc]
    by_cases hc:(q.1==sw[n].1&&q.2==sw[n].2.1)=true
    ·rw [if_pos hc]
     obtain ⟨o',e',h'⟩:=ksC h hM sw[n].2.2 ho
     rw [e']
     simp only [jab]
     refine ⟨_,rfl,⟨n+1,o',by omega,rfl,h'.congr fun j hj=>?_⟩,by simp only [jao]; omega⟩
     rw [hm]
     simp only [jac] at hc
     simp only [hc.1,hc.2,Bool.true_and,jaq,jac,beq_iff_eq]
     rw [Prod.ext_iff]
    ·rw [if_neg hc]
     refine ⟨_,rfl,⟨n+1,o,by omega,rfl,ho.congr fun j hj=>?_⟩,by simp only [jao]; omega⟩
     rw [hm]
     simp only [jaq,jac,beq_iff_eq] at hc ⊢
     constructor
     ·exact .inl
     ·rintro (a | a)
      ·exact a
      ·exact absurd ⟨a.1,a.2.1⟩ hc
   ·left
    rw [if_neg (by simpa [kae] using hlt)]
    refine ⟨_,rfl,o,rfl,ho.congr fun j hj=>?_⟩
    rw [jbp (by omega)]; rfl)
  (0,M,o0.isSome,bq R o0,(pq R o0).1,(pq R o0).2) ⟨0,o0,by omega,rfl,h0.congr fun j hj=>by
   unfold mayB
   simp only [jdi,List.any_nil,Bool.or_false,jac,beq_iff_eq,false_or]
   rw [Prod.ext_iff]
   exact ⟨fun e=>⟨e.1.symm,e.2.symm⟩,fun e=>⟨e.1.symm,e.2.symm⟩⟩⟩ (by simp only; omega)
 exact ⟨o,by rw [hz]; rfl,ho⟩
def chO (R:List It) (sw:List Swap) (q:Int×Int):Option Nat:=match kbx sw R q.1 q.2 with
 | some v=>if v<0 then none else some v.toNat
 | none=>none
theorem kjQ {R:List It} (h:R.length<=1000) {sw:List Swap} (hs:sw.length<=1000) (q:Int×Int):kbx sw R q.1 q.2=some (chI (chO R sw q))/\Bst R (Mq R sw q) (chO R sw q):=by
 obtain ⟨o,e,ho⟩:=krL h hs q
 have:chO R sw q=o:=by
  unfold chO
  rw [e]
  cases o with
  | none=>rfl
  | some i=>
   show (if ((i:Nat):Int)<0 then none else some (Int.toNat (i:Int)))=some i
   rw [if_neg (by omega),jao]
 rw [this]
 exact ⟨e,ho⟩
section
variable (Y R:List It) (sw:List Swap)
def oK (k:Nat):Option Nat:=chO R sw (kc (at3 Y k))
def rkO (o:Option Nat):Int:=match o with | none=>10001 | some i=>cn R i
def rkK (k:Nat):Int:=rkO R (oK Y R sw k)
def lnK (k:Nat):Line:=((k:Int),bq R (oK Y R sw k),needN Y k,pq R (oK Y R sw k),(oK Y R sw k).isSome)
end
section
variable {Y R:List It} {sw:List Swap} (h:Prs R) (hs:sw.length<=1000) (hY:Y.length<=1000)
include h hs
theorem oK_lt {k i:Nat} (e:oK Y R sw k=some i):i<R.length:=by
 have:=(kjQ (R:=R) (by have:=h.l; omega) hs (kc (at3 Y k))).2
 unfold oK at e
 rw [e] at this
 exact this.1
theorem rk_bd (k:Nat):0<=rkK Y R sw k/\rkK Y R sw k<=10001/\(rkK Y R sw k=10001↔oK Y R sw k=none):=by
 unfold rkK rkO
 cases e:oK Y R sw k with
 | none=>simp
 | some i=>
  have:=h.c i (oK_lt h hs e)
  unfold cn
  dsimp only
  refine ⟨this.1,by omega,?_⟩
  constructor
  ·intro; omega
  ·intro h; cases h
theorem bq_bd (k:Nat):0<=bq R (oK Y R sw k)/\bq R (oK Y R sw k)<=10000:=by
 cases e:oK Y R sw k with
 | none=>simp [bq]
 | some i=>
  have:=h.c i (oK_lt h hs e)
  unfold bq cn
  exact this
include hY
theorem kuN {M:List ((Int×Int)×Int)} (hM:CMap R R.length M):iter (kfp Y sw) (0,M,[])=some ((List.range Y.length).map (lnK Y R sw)):=by
 obtain ⟨z,hz,rfl⟩:=Fl.iter_inv (F:=kfp Y sw) (fun x=>∃ n:Nat,n<=Y.length/\x=((n:Int),M,(List.range n).map (lnK Y R sw))) (fun x=>Y.length-x.1.toNat) (fun z=>z=(List.range Y.length).map (lnK Y R sw))
  (fun x ⟨n,hn,e⟩=>by
   subst e
   unfold kfp
   dsimp only
   by_cases hlt:n<Y.length
   ·right
    rw [if_pos (by simpa [kae] using hlt),kaj hlt,kam (by omega)]
    simp only [jab,kbH]
    have hat:at3 Y n=Y[n]:=kbG hlt
    obtain ⟨o,e1,ho⟩:=ksV h hM hs (kc Y[n])
    have hoo:oK Y R sw n=o:=by
     unfold oK; rw [hat]
     exact (kjQ (by have:=h.l; omega) hs (kc Y[n])).2.uniq ho
    rw [show kcs sw (Y[n].1,Y[n].2.1) M=_ from e1]
    simp only [jab]
    have hg:gapp ((List.range n).map (lnK Y R sw)) [((n:Int),bq R o,Y[n].2.2,((pq R o).1,(pq R o).2),o.isSome)]=some ((List.range (n+1)).map (lnK Y R sw)):=by
     rw [List.range_succ,jco,kbZ (by simp; omega)]
     simp only [jau,jef,lnK,hoo,kjH hlt]
    rw [hg]
    exact ⟨_,rfl,⟨n+1,by omega,rfl⟩,by simp only [jao]; omega⟩
   ·left
    rw [if_neg (by simpa [kae] using hlt)]
    have:n=Y.length:=by omega
    subst this
    exact ⟨_,rfl,rfl⟩)
  (0,M,[]) ⟨0,by omega,rfl⟩ (by simp only; omega)
 exact hz
omit hY in
theorem kvN {k:Nat} (hk:k<Y.length):kfX sw R Y[k]=some (rkK Y R sw k):=by
 unfold kfX
 have hat:at3 Y k=Y[k]:=kbG hk
 have hc:=(kjQ (R:=R) (by have:=h.l; omega) hs (kc Y[k])).1
 rw [show kbx sw R Y[k].1 Y[k].2.1=_ from hc]
 simp only [jab]
 have e:chO R sw (kc Y[k])=oK Y R sw k:=by unfold oK; rw [hat]
 rw [e]
 unfold rkK
 cases eo:oK Y R sw k with
 | none=>rfl
 | some i=>
  have hi:=oK_lt h hs eo
  rw [show chI (some i)=(i:Int) from rfl,if_neg (show ¬ decide (((i:Nat):Int)<0)=true by rw [jak]; omega),kaj hi]
  simp only [jab,rkO,cn,kbG hi]
theorem kuQ:iter (kdn Y sw R) (0,List.replicate Y.length 0)=some ((List.range Y.length).map (rkK Y R sw)):=by
 obtain ⟨z,hz,rfl⟩:=Fl.iter_inv (F:=kdn Y sw R) (fun x=>∃ (n:Nat) (l:List Int),n<=Y.length/\x=((n:Int),l)/\l.length=Y.length/\∀ k,k<n->l[k]?=some (rkK Y R sw k)) (fun x=>Y.length-x.1.toNat) (fun z=>z=(List.range Y.length).map (rkK Y R sw))
  (fun x ⟨n,l,hn,e,hl,hv⟩=>by
   subst e
   unfold kdn
   dsimp only
   by_cases hlt:n<Y.length
   ·right
    rw [if_pos (by simpa [kae] using hlt),kaj hlt,kam (by omega)]
    simp only [jab]
    rw [kvN h hs hlt,kaj (show n<l.length by omega)]
    simp only [jab]
    refine ⟨_,rfl,⟨n+1,l.set n (rkK Y R sw n),by omega,rfl,by simp [hl],fun k hk=>?_⟩,by simp only [jao]; omega⟩
    rw [jcl]
    by_cases e:n=k
    ·subst e; simp [show n<l.length by omega]
    ·rw [if_neg e]; exact hv k (by omega)
   ·left
    rw [if_neg (by simpa [kae] using hlt)]
    have:n=Y.length:=by omega
    subst this
    refine ⟨_,rfl,jea fun k=>?_⟩
    by_cases hk:k<Y.length
    ·rw [hv k hk,jav,jed hk]; rfl
    ·rw [jce (by omega),jce (by simp; omega)])
  (0,List.replicate Y.length 0) ⟨0,_,by omega,rfl,by simp,fun k hk=>by omega⟩ (by simp only; omega)
 exact hz
omit h hs hY in
abbrev cmpB:Line×Line->Option Int:=fun u0=>(kcF u0.1 u0.2).bind fun u1=>some u1
def rkL (x:Line):Int:=if x.2.2.2.2=true then x.2.1 else 20000+x.2.1
def leL (x y:Line):Prop:=rkL y<rkL x\/(rkL x=rkL y/\x.1<=y.1)
omit h hs hY in
theorem kvH:St.COk cmpB leL where
 c x y:=by
  obtain ⟨v,hv⟩:∃ v,kcF x y=some v:=by
   unfold kcF
   split
   ·split <;> exact ⟨_,rfl⟩
   ·exact ⟨_,rfl⟩
  refine ⟨v,by show (kcF x y).bind _=_; rw [hv]; rfl,fun hlt=>?_⟩
  obtain ⟨h1,h2,h3⟩:=hlt
  unfold kcF at hv
  unfold leL rkL
  cases hx:x.2.2.2.2 <;> cases hy:y.2.2.2.2 <;> rw [hx,hy] at hv <;> simp at hv <;> subst hv <;> simp only [jai,if_false,if_true]
  ·rw [kbb (by omega) (by omega)]; omega
  ·omega
  ·omega
  ·rw [kbb (by omega) (by omega)]; omega
 tr x y z h1 h2:=by unfold leL at *; omega
 tot x y:=by unfold leL; omega
def sigR (Y R:List It) (sw:List Swap) (j k:Nat):Prop:=rkK Y R sw k<rkK Y R sw j\/(rkK Y R sw j=rkK Y R sw k/\j<k)
omit hY in
theorem kvy {j k:Nat} (hjk:j≠k):leL (lnK Y R sw j) (lnK Y R sw k)↔sigR Y R sw j k:=by
 have key:∀ k,rkL (lnK Y R sw k)=if rkK Y R sw k=10001 then 20000 else rkK Y R sw k:=fun k=>by
  obtain ⟨_,_,h3⟩:=rk_bd (Y:=Y) h hs k
  unfold rkL lnK
  dsimp only
  cases e:oK Y R sw k with
  | none=>rw [if_pos (h3.2 e)]; rfl
  | some i=>
   rw [if_neg (show ¬ rkK Y R sw k=10001 from fun e2=>by rw [h3.1 e2] at e; cases e)]
   unfold rkK; rw [e]; rfl
 have b1:=rk_bd (Y:=Y) h hs j
 have b2:=rk_bd (Y:=Y) h hs k
 unfold leL sigR
 rw [key,key]
 show _\/_/\(j:Int)<=k↔_
 split <;> split <;> omega
theorem kwi:∃ ks:List Nat,kaq cmpB ((List.range Y.length).map (lnK Y R sw))=some (ks.map (lnK Y R sw))/\ks.Perm (List.range Y.length)/\ks.Pairwise (sigR Y R sw):=by
 have hlen:((List.range Y.length).map (lnK Y R sw)).length=Y.length:=by simp
 have hgg:∀ k,k<Y.length->St.gg ((List.range Y.length).map (lnK Y R sw)) k=lnK Y R sw k:=fun k hk=>by
  unfold St.gg; rw [jav,jed hk]; rfl
 obtain ⟨l',e,hp,hsrt⟩:=St.stable_spec (cmp:=cmpB) (le:=leL) kvH (l:=(List.range Y.length).map (lnK Y R sw)) (by rw [hlen]; exact hY) (by
  rw [hlen]
  intro i j _ h2 h3
  rw [hgg i (by omega),hgg j h3]
  exact ⟨by show (i:Int)<j; omega,bq_bd h hs i,bq_bd h hs j⟩)
 obtain ⟨ks,rfl⟩:∃ ks:List Nat,l'=ks.map (lnK Y R sw):=by
  have:∀ x∈l',∃ k,lnK Y R sw k=x:=fun x hx=>by
   obtain ⟨k,_,rfl⟩:=jay.1 (hp.mem_iff.1 hx); exact ⟨k,rfl⟩
  clear e hp hsrt
  induction l' with
  | nil=>exact ⟨[],rfl⟩
  | cons x l ih=>
   obtain ⟨k,rfl⟩:=this x (by simp)
   obtain ⟨ks,rfl⟩:=ih fun y hy=>this y (by simp [hy])
   exact ⟨k::ks,rfl⟩
 have hp2:ks.Perm (List.range Y.length):=by
  have:=hp.map (fun x:Line=>x.1.toNat)
  rw [List.map_map,List.map_map] at this
  have e1:((fun x:Line=>x.1.toNat) ∘ lnK Y R sw)=id:=by funext k; simp [lnK]
  rw [e1,List.map_id,List.map_id] at this
  exact this
 refine ⟨ks,?_,hp2,?_⟩
 ·unfold kaq
  rw [e]; rfl
 ·have hnd:ks.Nodup:=hp2.nodup_iff.2 List.nodup_range
  rw [List.pairwise_iff_getElem]
  intro i j hi hj hij
  have hne:ks[i]≠ks[j]:=(List.pairwise_iff_getElem.1 hnd) i j hi hj hij
  have:=hsrt i j (jeg _) hij (by rw [hlen]; have:=hp2.length_eq; simp at this; omega)
  have g:∀ a,(ha:a<ks.length)->St.gg (ks.map (lnK Y R sw)) a=lnK Y R sw ks[a]:=fun a ha=>by
   unfold St.gg; rw [jav,jae ha]; rfl
  rw [g i hi,g j hj] at this
  exact (kvy h hs hne).1 this
end
section
variable {n m:Nat} {cap:Nat->Int} {may:Nat->Nat->Prop} {N:Nat->Int}
inductive Dn (n m:Nat) (cap:Nat->Int) (may:Nat->Nat->Prop) (N:Nat->Int) (U0:List (List Int)) (L0:List Int):List Nat->List (List Int)->List Int->(Nat->Int)->Prop
 | nil:Dn n m cap may N U0 L0 [] U0 L0 (fun _=>0)
 | snoc (ds:List Nat) (U:List (List Int)) (L:List Int) (f:Nat->Int) (i:Nat) (g:Int) (U':List (List Int)) (L':List Int) (h:Dn n m cap may N U0 L0 ds U L f) (hi:i<n) (hg:Gave n m cap may i (N i) U g U' L'):Dn n m cap may N U0 L0 (ds++[i]) U' L' (fun k=>if k=i then g else f k)
variable {U0 V0:List (List Int)} {L0 M0:List Int}
theorem Dn.ok (sh:Shp n m U0 L0) (v:Val n m cap may (ua U0) (la L0)) {ds:List Nat} {U:List (List Int)} {L:List Int} {f:Nat->Int} (h:Dn n m cap may N U0 L0 ds U L f):Shp n m U L/\Val n m cap may (ua U) (la L):=by
 cases h with
 | nil=>exact ⟨sh,v⟩
 | snoc _ _ _ _ _ _ _ _ _ _ hg=>exact ⟨hg.sh,hg.v⟩
theorem Dn.bd {ds:List Nat} {U:List (List Int)} {L:List Int} {f:Nat->Int} (h:Dn n m cap may N U0 L0 ds U L f):∀ k,(k∈ds->0<=f k/\f k<=N k)/\(k∉ds->f k=0):=by
 induction h with
 | nil=>intro k; exact ⟨(fun hk=>nomatch hk),fun _=>rfl⟩
 | snoc ds U L f i g U' L' h hi hg ih=>
  intro k
  dsimp only
  by_cases e:k=i
  ·subst e
   rw [if_pos rfl]
   exact ⟨fun _=>⟨hg.g0,hg.g1⟩,fun hn=>absurd (by simp) hn⟩
  ·rw [if_neg e]
   exact ⟨fun hk=>(ih k).1 (by simpa [e] using hk),fun hk=>(ih k).2 (by simp at hk; exact hk.1)⟩
theorem Dn.same {ds:List Nat} {U:List (List Int)} {L:List Int} {f:Nat->Int} (h:Dn n m cap may N U0 L0 ds U L f) (h0:∀ k,k<n->row m (ua U0) k=row m (ua V0) k):∀ {V:List (List Int)} {M:List Int} {f':Nat->Int},Dn n m cap may N V0 M0 ds V M f'->f=f'/\∀ k,k<n->row m (ua U) k=row m (ua V) k:=by
 induction h with
 | nil=>
  intro V M f' h'
  generalize hd:([]:List Nat)=ds at h'
  cases h' with
  | nil=>exact ⟨rfl,h0⟩
  | snoc _ _ _ _ _ _ _ _=>simp at hd
 | snoc ds U L f i g U' L' h hi hg ih=>
  intro V M f' h'
  generalize hd:ds++[i]=es at h'
  cases h' with
  | nil=>simp at hd
  | snoc es V1 M1 f1 j g1 _ _ h1 hj hg1=>
   obtain ⟨e1,e2⟩:=List.append_inj' hd rfl
   cases e2
   subst e1
   obtain ⟨e3,e4⟩:=ih h1
   obtain ⟨e5,e6⟩:=kuv hi e4 hg hg1
   subst e5; subst e3
   exact ⟨rfl,e6⟩
theorem Dn.pre {ds:List Nat} {U:List (List Int)} {L:List Int} {f:Nat->Int} (h:Dn n m cap may N U0 L0 ds U L f):∀ {a b:List Nat},ds=a++b->∃ U' L' f',Dn n m cap may N U0 L0 a U' L' f'/\∀ k,k∉b->f k=f' k:=by
 induction h with
 | nil=>
  intro a b e
  obtain ⟨rfl,rfl⟩:=List.append_eq_nil_iff.1 e.symm
  exact ⟨_,_,_,.nil,fun k _=>rfl⟩
 | snoc ds U L f i g U' L' h hi hg ih=>
  intro a b e
  rcases List.eq_nil_or_concat b with rfl | ⟨b',j,rfl⟩
  ·rw [jbd] at e
   subst e
   exact ⟨_,_,_,.snoc ds U L f i g U' L' h hi hg,fun k _=>rfl⟩
  ·rw [List.concat_eq_append,<-jat] at e
   obtain ⟨e1,e2⟩:=List.append_inj' e rfl
   cases e2
   obtain ⟨U2,L2,f2,g1,g2⟩:=ih e1
   refine ⟨U2,L2,f2,g1,fun k hk=>?_⟩
   simp only [List.concat_eq_append,jbc,List.mem_singleton,not_or] at hk
   show (if k=i then g else f k)=f2 k
   rw [if_neg hk.2]
   exact g2 k hk.1
end
def blk (Y R:List It) (sw:List Swap) (p:Int):List Nat:=(List.range Y.length).filter fun k=>rkK Y R sw k==p
def sgt (Y R:List It) (sw:List Swap) (t:Nat):List Nat:=(List.range t).flatMap fun (s:Nat)=>blk Y R sw (10001-(s:Int))
theorem kuU (Y R:List It) (sw:List Swap) (t:Nat):sgt Y R sw (t+1)=sgt Y R sw t++blk Y R sw (10001-(t:Int)):=by
 unfold sgt
 rw [List.range_succ,List.flatMap_append]; simp
theorem mem_blk {Y R:List It} {sw:List Swap} {p:Int} {k:Nat}:k∈blk Y R sw p↔k<Y.length/\rkK Y R sw k=p:=by
 unfold blk; rw [jdq,jcv]; simp
section
variable {Y R:List It} {sw:List Swap} (h:Prs R) (hs:sw.length<=1000)
include h hs
theorem ktO:(sgt Y R sw 10002).Pairwise (sigR Y R sw):=by
 unfold sgt
 rw [List.pairwise_flatMap]
 refine ⟨fun s _=>?_,?_⟩
 ·have:(blk Y R sw (10001-s)).Pairwise (·< ·):=List.Pairwise.filter _ List.pairwise_lt_range
  refine List.Pairwise.imp_of_mem (fun {a b} ha hb hlt=>?_) this
  exact .inr ⟨by rw [(mem_blk.1 ha).2,(mem_blk.1 hb).2],hlt⟩
 ·refine List.Pairwise.imp (fun {a b} hlt x hx y hy=>?_) (List.pairwise_lt_range (n:=10002))
  left
  rw [(mem_blk.1 hx).2,(mem_blk.1 hy).2]; omega
theorem kwe (k:Nat):k∈sgt Y R sw 10002↔k<Y.length:=by
 unfold sgt
 rw [List.mem_flatMap]
 have b:=rk_bd (Y:=Y) h hs k
 constructor
 ·rintro ⟨s,_,hk⟩; exact (mem_blk.1 hk).1
 ·intro hk
  exact ⟨(10001-rkK Y R sw k).toNat,jcv.2 (by omega),mem_blk.2 ⟨hk,by omega⟩⟩
omit h hs in
theorem kvT (a:Nat):¬ sigR Y R sw a a:=by unfold sigR; omega
omit h hs in
theorem kvi {a b:Nat} (h1:sigR Y R sw a b) (h2:sigR Y R sw b a):False:=by unfold sigR at *; omega
theorem kuM {ks:List Nat} (hp:ks.Perm (List.range Y.length)) (hw:ks.Pairwise (sigR Y R sw)):ks=sgt Y R sw 10002:=by
 have hn1:ks.Nodup:=hp.nodup_iff.2 List.nodup_range
 have hn2:(sgt Y R sw 10002).Nodup:=List.Pairwise.imp (fun {a b} hab e=>by subst e; exact kvT _ hab) (ktO h hs)
 have hperm:ks.Perm (sgt Y R sw 10002):=(List.perm_ext_iff_of_nodup hn1 hn2).2 fun k=>by rw [kwe h hs,hp.mem_iff,jcv]
 exact List.Perm.eq_of_pairwise (le:=sigR Y R sw) (fun a b _ _ h1 h2=>(kvi h1 h2).elim) hw (ktO h hs) hperm
end
def Tell (n:Nat) (F:List Int) (f:Nat->Int):Prop:=F.length=n/\∀ k,k<n->F[k]?=some (f k)
theorem Tell.set {n:Nat} {F:List Int} {f:Nat->Int} (h:Tell n F f) {i:Nat} (hi:i<n) (g:Int):Tell n (F.set i g) (fun k=>if k=i then g else f k):=by
 refine ⟨by simp [h.1],fun k hk=>?_⟩
 rw [jcl]
 by_cases e:i=k
 ·subst e; simp [h.1,hk]
 ·rw [if_neg e]
  show F[k]?=some (if k=i then g else f k)
  rw [if_neg (fun e2:k=i=>e e2.symm)]; exact h.2 k hk
section
variable {Y R:List It} {sw:List Swap} {m:Nat} {cap:Nat->Int} {may:Nat->Nat->Prop} {B:List (List Bool)} {U0:List (List Int)} {L0:List Int}
variable (h:Prs R) (hs:sw.length<=1000) (hY:Y.length<=1000) (hm:m<=1000) (hc:∀ j,j<m->cap j<=1000) (hN:∀ k,k<Y.length->0<=needN Y k/\needN Y k<=1000)
variable (hB:MayB Y.length m may B) (sh:Shp Y.length m U0 L0) (v:Val Y.length m cap may (ua U0) (la L0))
include hs hY hm hc hN hB sh v
theorem kwn (t:Nat) {U:List (List Int)} {L:List Int} {f:Nat->Int} {F:List Int} {X0:List Int×Flow} (hD:Dn Y.length m cap may (needN Y) U0 L0 (sgt Y R sw t) U L f) (hF:Tell Y.length F f) :
  ∃ F' U' L' f',iter (kef Y ((List.range Y.length).map (rkK Y R sw)) (10001-(t:Int),X0)) (0,F,B,U,L)=some (F',B,U',L')/\Dn Y.length m cap may (needN Y) U0 L0 (sgt Y R sw (t+1)) U' L' f'/\Tell Y.length F' f':=by
 obtain ⟨z,hz,F',U',L',f',rfl,h1,h2⟩:=Fl.iter_inv (F:=kef Y ((List.range Y.length).map (rkK Y R sw)) (10001-(t:Int),X0))
  (fun x=>∃ (i:Nat) (F:List Int) (U:List (List Int)) (L:List Int) (f:Nat->Int),i<=Y.length/\x=((i:Int),F,B,U,L)/\Dn Y.length m cap may (needN Y) U0 L0 (sgt Y R sw t++(List.range i).filter fun k=>rkK Y R sw k==10001-(t:Int)) U L f/\Tell Y.length F f) (fun x=>Y.length-x.1.toNat)
  (fun z=>∃ (F':List Int) (U':List (List Int)) (L':List Int) (f':Nat->Int),z=(F',B,U',L')/\Dn Y.length m cap may (needN Y) U0 L0 (sgt Y R sw (t+1)) U' L' f'/\Tell Y.length F' f')
  (fun x ⟨i,F,U,L,f,hi,e,hD,hF⟩=>by
   subst e
   unfold kef
   dsimp only
   by_cases hlt:i<Y.length
   ·right
    have hr:gi ((List.range Y.length).map (rkK Y R sw)) (i:Int)=some (rkK Y R sw i):=by rw [kes,jav,jed hlt]; rfl
    rw [if_pos (by simpa [kae] using hlt),hr,kam (by omega),kaj hlt]
    simp only [jab]
    have hfl:(List.range (i+1)).filter (fun k=>rkK Y R sw k==10001-(t:Int))=(List.range i).filter (fun k=>rkK Y R sw k==10001-(t:Int))++(if (rkK Y R sw i==10001-(t:Int))=true then [i] else []):=by
     rw [List.range_succ,List.filter_append]
     by_cases e:(rkK Y R sw i==10001-(t:Int))=true <;> simp [e]
    by_cases e:(rkK Y R sw i==10001-(t:Int))=true
    ·rw [if_pos e] at hfl
     rw [if_pos e]
     obtain ⟨sh',v'⟩:=hD.ok sh v
     have hn:=hN i hlt
     obtain ⟨g,U',L',hg,hG⟩:=kvn hB hY hm hc hlt hn.1 hn.2 sh' v'
     rw [kjH hlt] at hg
     rw [hg]
     simp only [jab]
     rw [kaj (show i<F.length by rw [hF.1]; exact hlt)]
     simp only [jab]
     refine ⟨_,rfl,⟨i+1,F.set i g,U',L',_,by omega,rfl,?_,hF.set hlt g⟩,by simp only [jao]; omega⟩
     rw [hfl,<-jat]
     exact .snoc _ _ _ _ i g U' L' hD hlt hG
    ·rw [if_neg e] at hfl
     rw [if_neg e]
     refine ⟨_,rfl,⟨i+1,F,U,L,f,by omega,rfl,?_,hF⟩,by simp only [jao]; omega⟩
     rw [hfl,jbd]; exact hD
   ·left
    rw [if_neg (by simpa [kae] using hlt)]
    have:i=Y.length:=by omega
    subst this
    exact ⟨_,rfl,F,U,L,f,rfl,by rw [kuU]; exact hD,hF⟩)
  (0,F,B,U,L) ⟨0,F,U,L,f,by omega,rfl,by simpa using hD,hF⟩ (by simp only; omega)
 exact ⟨F',U',L',f',hz,h1,h2⟩
theorem kvI:∃ F V M f,iter (kdr Y ((List.range Y.length).map (rkK Y R sw))) (10001,List.replicate Y.length 0,B,U0,L0)=some F/\Dn Y.length m cap may (needN Y) U0 L0 (sgt Y R sw 10002) V M f/\Tell Y.length F f:=by
 obtain ⟨z,hz,V,M,f,h1,h2⟩:=Fl.iter_inv (F:=kdr Y ((List.range Y.length).map (rkK Y R sw)))
  (fun x=>∃ (t:Nat) (F:List Int) (U:List (List Int)) (L:List Int) (f:Nat->Int),t<=10002/\x=(10001-(t:Int),F,B,U,L)/\Dn Y.length m cap may (needN Y) U0 L0 (sgt Y R sw t) U L f/\Tell Y.length F f) (fun x=>(x.1+1).toNat)
  (fun F=>∃ (V:List (List Int)) (M:List Int) (f:Nat->Int),Dn Y.length m cap may (needN Y) U0 L0 (sgt Y R sw 10002) V M f/\Tell Y.length F f)
  (fun x ⟨t,F,U,L,f,ht,e,hD,hF⟩=>by
   subst e
   unfold kdr
   dsimp only
   by_cases hlt:t<=10001
   ·right
    rw [if_pos (by rw [jak]; omega)]
    obtain ⟨F',U',L',f',e1,e2,e3⟩:=kwn hs hY hm hc hN hB sh v t (X0:=(F,B,U,L)) hD hF
    rw [e1]
    simp only [jab]
    rw [kbb (by omega) (by omega)]
    exact ⟨_,rfl,⟨t+1,F',U',L',f',by omega,by rw [show (10001:Int)-((t+1:Nat):Int)=10001-(t:Int)-1 by omega],e2,e3⟩,by dsimp only; omega⟩
   ·left
    rw [if_neg (by rw [jak]; omega)]
    have:t=10002:=by omega
    subst this
    exact ⟨_,rfl,U,L,f,hD,hF⟩)
  (10001,List.replicate Y.length 0,B,U0,L0) ⟨0,_,_,_,_,by omega,rfl,.nil,by simp,fun k hk=>by rw [jcb,if_pos hk]⟩ (by simp only; omega)
 exact ⟨z,V,M,f,hz,h1,h2⟩
end
theorem kkL {κ β:Type} [DecidableEq κ] (p:κ×β) (r:List (κ×β)) (k:κ) (z:β):ment (p::r) k z=if k=p.1 then p::r else p::ment r k z:=by
 unfold ment
 simp only [mget]
 by_cases h:k=p.1
 ·rw [if_pos h,if_pos h]
 ·rw [if_neg h,if_neg h]
  cases mget r k <;> rfl
theorem ktu {κ β:Type} [DecidableEq κ] (l:List (κ×β)) (k:κ) (z:β):(mget (ment l k z) k).getD z=(mget l k).getD z:=by
 induction l with
 | nil=>simp [ment,mget]
 | cons p r ih=>
  rw [kkL]
  by_cases h:k=p.1
  ·rw [if_pos h]
  ·rw [if_neg h]; simp only [mget,if_neg h]; exact ih
theorem koX {κ β:Type} [DecidableEq κ] (p:κ×β) (r:List (κ×β)) (k:κ):midx (p::r) k=if k=p.1 then 0 else midx r k+1:=by
 unfold midx
 simp only [midxN]
 split
 ·rfl
 ·push_cast; rfl
theorem kvX {κ β:Type} [DecidableEq κ] (l:List (κ×β)) (k:κ):0<=midx l k:=by unfold midx; omega
theorem kvQ {κ β:Type} [DecidableEq κ] (l:List (κ×β)) (k:κ) (z:β):∃ e,gi (ment l k z) (midx l k)=some e:=by
 induction l with
 | nil=>exact ⟨(k,z),rfl⟩
 | cons p r ih=>
  rw [kkL,koX]
  by_cases h:k=p.1
  ·rw [if_pos h,if_pos h]; exact ⟨p,rfl⟩
  ·rw [if_neg h,if_neg h]
   obtain ⟨e,he⟩:=ih
   obtain ⟨h0,h1⟩:=kll he
   refine ⟨e,?_⟩
   unfold gi
   rw [if_pos (by omega),show (midx r k+1).toNat=(midx r k).toNat+1 by omega,jcc]
   exact h1
theorem ktM {κ β:Type} [DecidableEq κ] (l:List (κ×β)) (k:κ) (z v:β):mset (ment l k z) (midx l k) v=mput l k v:=by
 induction l with
 | nil=>rfl
 | cons p r ih=>
  rw [kkL,koX]
  by_cases h:k=p.1
  ·rw [if_pos h,if_pos h]
   simp only [mput,if_pos h,mset]
   simp [h]
  ·rw [if_neg h,if_neg h]
   simp only [mput,if_neg h]
   rw [<-ih]
   have hn:=kvX r k
   unfold mset
   rw [show (midx r k+1).toNat=(midx r k).toNat+1 by omega,jcc]
   cases (ment r k z)[(midx r k).toNat]? <;> rfl
def sumL (g:Nat->Int) (l:List Nat):Int:=(l.map g).foldr (·+ ·) 0
theorem khz (g:Nat->Int):sumL g []=0:=rfl
theorem kcc (g:Nat->Int) (k:Nat) (l:List Nat):sumL g (k::l)=g k+sumL g l:=rfl
theorem kiD (g:Nat->Int) (a b:List Nat):sumL g (a++b)=sumL g a+sumL g b:=by
 induction a with
 | nil=>simp [khz]
 | cons k a ih=>rw [jdl,kcc,kcc,ih]; omega
theorem klz {g:Nat->Int} {c:Int} {l:List Nat} (h:∀ k∈l,0<=g k/\g k<=c) (hc:0<=c):0<=sumL g l/\sumL g l<=c*l.length:=by
 induction l with
 | nil=>simp [khz]
 | cons k l ih=>
  have a:=h k (by simp)
  have b:=ih fun k hk=>h k (by simp [hk])
  rw [kcc,jcm]
  push_cast
  rw [Int.mul_add,Int.mul_one]
  omega
theorem ksY {g g':Nat->Int} {l:List Nat} (h:∀ k∈l,g k=g' k):sumL g l=sumL g' l:=by
 unfold sumL; rw [List.map_congr_left h]
theorem kpo {g:Nat->Int} {l l':List Nat} (h:l.Perm l'):sumL g l=sumL g l':=by
 induction h with
 | nil=>rfl
 | cons x _ ih=>rw [kcc,kcc,ih]
 | swap x y l=>rw [kcc,kcc,kcc,kcc]; omega
 | trans _ _ a b=>exact a.trans b
theorem knI {a b:Int} (h0:0<=a) (h1:a<=1000) (h2:0<=b) (h3:b<=10000):0<=a*b/\a*b<=10000000:=by
 refine ⟨Int.mul_nonneg h0 h2,?_⟩
 have:=Int.mul_le_mul h1 h3 h2 (by omega:(0:Int)<=1000)
 omega
section
variable {Y R:List It} {sw:List Swap} {m:Nat} {cap:Nat->Int} {may:Nat->Nat->Prop} {M:List (List Int)} {U0 V0:List (List Int)} {L0 M0:List Int}
variable (h:Prs R) (hs:sw.length<=1000) (hY:Y.length<=1000) (hm:m<=1000) (hc:∀ j,j<m->cap j<=1000) (hN:∀ k,k<Y.length->0<=needN Y k/\needN Y k<=1000)
variable (hM:MayL Y.length m may M) (sh:Shp Y.length m U0 L0) (v:Val Y.length m cap may (ua U0) (la L0))
def lks (Y:List It) (f:Nat->Int) (k:Nat):Int:=needN Y k-f k
structure Gv (Y R:List It) (sw:List Swap) (m:Nat) (cap:Nat->Int) (may:Nat->Nat->Prop) (U0:List (List Int)) (L0:List Int) (f:Nat->Int) (ds:List Nat) (U:List (List Int)) (L:List Int) (c:Int) (F:List Int) (B:List ((Int×Int)×Int)):Prop where
 g:∃ f',Dn Y.length m cap may (needN Y) U0 L0 ds U L f'/\(∀ k∈ds,f' k=f k)/\Tell Y.length F f'
 c:c=sumL (fun k=>lks Y f k*bq R (oK Y R sw k)) ds
 b:∀ p,(mget B p).getD 0=sumL (fun k=>if pq R (oK Y R sw k)=p then lks Y f k else 0) ds
 n:∀ k∈ds,oK Y R sw k=none->f k=needN Y k
include h hs hY hm hc hN hM sh v
theorem ktF {ks:List Nat} {V:List (List Int)} {W:List Int} {f:Nat->Int} (hT:Dn Y.length m cap may (needN Y) V0 M0 ks V W f) (h0:∀ k,k<Y.length->row m (ua U0) k=row m (ua V0) k) (hk:∀ k∈ks,k<Y.length) (hnd:ks.Nodup) (hkl:ks.length<=1000) :
  ∃ z,iter (kfw (ks.map (lnK Y R sw))) (0,Y,M,U0,L0,0,List.replicate Y.length 0,0,[])=some z/\
   ((z = .inl (0,80,[],[])/\∃ k∈ks,oK Y R sw k=none/\f k<needN Y k)\/∃ U L c F B,z = .inr (B,0,c,F)/\Gv Y R sw m cap may U0 L0 f ks U L c F B):=by
 have hfb:∀ k∈ks,0<=lks Y f k/\lks Y f k<=1000:=fun k hkk=>by
  have:=(hT.bd k).1 hkk
  have:=hN k (hk k hkk)
  unfold lks; omega
 refine Fl.iter_inv (F:=kfw (ks.map (lnK Y R sw))) (fun x=>∃ (i:Nat) (U:List (List Int)) (L:List Int) (c:Int) (F:List Int) (B:List ((Int×Int)×Int)),i<=ks.length/\x=((i:Int),Y,M,U,L,c,F,0,B)/\Gv Y R sw m cap may U0 L0 f (ks.take i) U L c F B) (fun x=>ks.length-x.1.toNat) _
  (fun x ⟨i,U,L,c,F,B,hi,e,G⟩=>?_) _ ⟨0,U0,L0,0,_,[],by omega,rfl,⟨⟨_,.nil,(fun k hk=>by simp at hk),by simp,fun k hk=>by rw [jcb,if_pos hk]⟩,rfl,fun p=>rfl,fun k hk=>by simp at hk⟩⟩ (by simp only; omega)
 subst e
 unfold kfw
 dsimp only
 have hlen:(ks.map (lnK Y R sw)).length=ks.length:=by simp
 by_cases hlt:i<ks.length
 ·have hki:=hk ks[i] (jdu hlt)
  have hg:gi (ks.map (lnK Y R sw)) (i:Int)=some (lnK Y R sw ks[i]):=by rw [kes,jav,jae hlt]; rfl
  rw [if_pos (by rw [kae,hlen]; simpa using hlt),hg]
  simp only [jab]
  generalize hkk:ks[i]=k at *
  obtain ⟨f',hD,hff,hF⟩:=G.g
  obtain ⟨sh',v'⟩:=hD.ok sh v
  have hn:=hN k hki
  obtain ⟨g,U',L',e1,hG⟩:=kul (N:=Y) hM hY hm hc hki hn.1 hn.2 sh' v'
  have htk:ks.take (i+1)=ks.take i++[k]:=by rw [List.take_add_one,jae hlt,hkk]; rfl
  have hD':=Dn.snoc _ _ _ _ k g U' L' hD hki hG
  rw [<-htk] at hD'
  obtain ⟨U2,L2,f2,q1,q2⟩:=hT.pre (a:=ks.take (i+1)) (b:=ks.drop (i+1)) (List.take_append_drop (i+1) ks).symm
  obtain ⟨e2,_⟩:=hD'.same h0 q1
  have hnd2:∀ x∈ks.take (i+1),x∉ks.drop (i+1):=fun x h1 h2=>by
   have:=hnd
   rw [<-List.take_append_drop (i+1) ks,List.nodup_append] at this
   exact this.2.2 x h1 x h2 rfl
  have hmk:k∈ks.take (i+1):=by rw [htk]; simp
  have hfg:f k=g:=by rw [q2 k (hnd2 k hmk),<-e2]; show (if k=k then g else f' k)=g; rw [if_pos rfl]
  rw [show (lnK Y R sw k).1=(k:Int) from rfl,show (lnK Y R sw k).2.2.1=needN Y k from rfl,show (lnK Y R sw k).2.2.2.2=(oK Y R sw k).isSome from rfl,show (lnK Y R sw k).2.2.2.1=pq R (oK Y R sw k) from rfl,show (lnK Y R sw k).2.1=bq R (oK Y R sw k) from rfl,e1]
  simp only [jab]
  rw [kaj (show k<F.length by rw [hF.1]; exact hki)]
  simp only [jab]
  by_cases herr:g<needN Y k/\oK Y R sw k=none
  ·left
   rw [if_pos (show decide (g<needN Y k)=true by simpa using herr.1),herr.2]
   simp only [jab,Option.isSome_none,jdx,if_true]
   exact ⟨_,rfl,.inl ⟨rfl,k,by rw [<-hkk]; exact jdu hlt,herr.2,by rw [hfg]; exact herr.1⟩⟩
  ·right
   have hif:(if decide (g<needN Y k)=true then some (!(oK Y R sw k).isSome) else some false)=some false:=by
    by_cases c1:g<needN Y k
    ·rw [if_pos (by simpa using c1)]
     cases e:oK Y R sw k with
     | none=>exact absurd ⟨c1,e⟩ herr
     | some _=>rfl
    ·rw [if_neg (by simpa using c1)]
   rw [hif]
   simp only [jab,jai,if_false]
   obtain ⟨en,hen⟩:=kvQ B (pq R (oK Y R sw k)) 0
   rw [hen]
   simp only [jab,ktM,ktu]
   have hg0:=hG.g0; have hg1:=hG.g1
   have hb:=bq_bd (Y:=Y) h hs k
   have hmb:=knI (a:=needN Y k-g) (b:=bq R (oK Y R sw k)) (by omega) (by omega) hb.1 hb.2
   have hcb:=klz (g:=fun k=>lks Y f k*bq R (oK Y R sw k)) (c:=10000000) (l:=ks.take i) (fun x hx=>by
    have hx':=jcq hx
    exact knI (hfb x hx').1 (hfb x hx').2 (bq_bd (Y:=Y) h hs x).1 (bq_bd (Y:=Y) h hs x).2) (by omega)
   have hcl:((ks.take i).length:Int)<=1000:=by rw [jbh]; omega
   have hcc:=G.c
   have hbb:=G.b (pq R (oK Y R sw k))
   have hbd:=klz (g:=fun k'=>if pq R (oK Y R sw k')=pq R (oK Y R sw k) then lks Y f k' else 0) (c:=1000) (l:=ks.take i) (fun x hx=>by
    have hx':=jcq hx
    split
    ·exact hfb x hx'
    ·omega) (by omega)
   rw [kbb (x:=needN Y k-g) (by omega) (by omega),kbb (x:=(needN Y k-g)*bq R (oK Y R sw k)) (by omega) (by omega),kbb (x:=c+(needN Y k-g)*bq R (oK Y R sw k)) (by omega) (by omega),kbb (x:=(mget B (pq R (oK Y R sw k))).getD 0+(needN Y k-g)) (by omega) (by omega),kam (by omega)]
   rw [kdJ (kbz _ rfl _)]
   have hlk:lks Y f k=needN Y k-g:=by unfold lks; rw [hfg]
   refine ⟨_,rfl,⟨i+1,U',L',_,_,_,by omega,rfl,⟨⟨_,hD',fun x hx=>?_,hF.set hki g⟩,?_,fun p=>?_,fun x hx hxo=>?_⟩⟩,by simp only [jao]; omega⟩
   ·rw [q2 x (hnd2 x hx),<-e2]
   ·rw [htk,kiD,kcc,khz,hlk,hcc]; omega
   ·rw [klj,htk,kiD,kcc,khz,hlk]
    by_cases e:p=pq R (oK Y R sw k)
    ·subst e
     rw [if_pos rfl,if_pos rfl]
     simp only [jbt]
     rw [hbb]; omega
    ·rw [if_neg e,if_neg (fun e2=>e e2.symm),G.b p]; omega
   ·rw [htk,jbc,List.mem_singleton] at hx
    rcases hx with hx | rfl
    ·exact G.n x hx hxo
    ·rw [hfg]
     by_cases c1:g<needN Y x
     ·exact absurd ⟨c1,hxo⟩ herr
     ·omega
 ·left
  rw [if_neg (by rw [kae,hlen]; simpa using hlt)]
  have:i=ks.length:=by omega
  subst this
  rw [List.take_length] at G
  exact ⟨_,rfl,.inr ⟨U,L,c,F,B,rfl,G⟩⟩
end
def buyL (R:List It) (S:Nat->Int) (n:Nat):List It:=((List.range n).filter fun i=>decide (0<S i)).map fun i=>((at3 R i).1,(at3 R i).2.1,S i)
theorem koW (R:List It) (S:Nat->Int) (n:Nat):buyL R S (n+1)=if 0<S n then buyL R S n++[((at3 R n).1,(at3 R n).2.1,S n)] else buyL R S n:=by
 unfold buyL
 rw [List.range_succ,List.filter_append,jco]
 by_cases e:0<S n <;> simp [e]
theorem kmQ (R:List It) (S:Nat->Int) (n:Nat):(buyL R S n).length<=n:=by
 unfold buyL
 rw [jaw]
 exact jdb (List.length_filter_le _ _) (by simp)
section
variable {Y R:List It} {sw:List Swap} (h:Prs R) (hs:sw.length<=1000) (hY:Y.length<=30)
include h
theorem ksT {B:List ((Int×Int)×Int)} {S:Nat->Int} {c:Int} {F:List Int} (hB:∀ i,i<R.length->(mget B (kc (at3 R i))).getD 0=S i) :
  ∃ z,iter (kfr R (B,0,c,F)) (0,0,c,[])=some z/\((z = .inl (0,4,[],[])/\∃ i,i<R.length/\1000<S i)\/(z = .inr (c,buyL R S R.length,0)/\∀ i,i<R.length->S i<=1000)):=by
 have hl:=h.l
 refine Fl.iter_inv (F:=kfr R (B,0,c,F)) (fun x=>∃ n:Nat,n<=R.length/\x=((n:Int),0,c,buyL R S n)/\∀ i,i<n->S i<=1000) (fun x=>R.length-x.1.toNat) _
  (fun x ⟨n,hn,e,hle⟩=>?_) _ ⟨0,by omega,rfl,fun i hi=>by omega⟩ (by simp only; omega)
 subst e
 unfold kfr
 dsimp only
 by_cases hlt:n<R.length
 ·have hat:at3 R n=R[n]:=kbG hlt
  have hb:=hB n hlt
  rw [hat] at hb
  rw [if_pos (by simpa [kae] using hlt),kaj hlt]
  simp only [jab,kbD]
  rw [show (mget B (R[n].1,R[n].2.1)).getD 0=S n from hb]
  by_cases c1:1000<S n
  ·left
   rw [if_pos (by simpa using c1)]
   exact ⟨_,rfl,.inl ⟨rfl,n,hlt,c1⟩⟩
  ·right
   rw [if_neg (by simpa using c1),kam (by omega)]
   have hbs:=koW R S n
   rw [hat] at hbs
   have hlen:=kmQ R S n
   by_cases c2:0<S n
   ·rw [if_pos (by simpa using c2),kbZ (by simp; omega)]
    simp only [jab]
    rw [if_pos c2] at hbs
    refine ⟨_,rfl,⟨n+1,by omega,by rw [hbs],fun i hi=>?_⟩,by simp only [jao]; omega⟩
    by_cases e:i=n
    ·subst e; omega
    ·exact hle i (by omega)
   ·rw [if_neg (by simpa using c2)]
    rw [if_neg c2] at hbs
    refine ⟨_,rfl,⟨n+1,by omega,by rw [hbs],fun i hi=>?_⟩,by simp only [jao]; omega⟩
    by_cases e:i=n
    ·subst e; omega
    ·exact hle i (by omega)
 ·left
  rw [if_neg (by simpa [kae] using hlt)]
  have:n=R.length:=by omega
  subst this
  exact ⟨_,rfl,.inr ⟨rfl,hle⟩⟩
theorem kuK {S:Nat->Int} {c:Int} {l:List Int} (hl:Tell R.length l S) :
  ∃ b,iter (kdi R (c,l)) (0,false,[])=some (b,buyL R S R.length)/\(b=true↔∃ i,i<R.length/\1000<S i):=by
 have hRl:=h.l
 obtain ⟨z,hz,b,rfl,hb⟩:=Fl.iter_inv (F:=kdi R (c,l)) (fun x=>∃ (n:Nat) (b:Bool),n<=R.length/\x=((n:Int),b,buyL R S n)/\(b=true↔∃ i,i<n/\1000<S i)) (fun x=>R.length-x.1.toNat) (fun z=>∃ b,z=(b,buyL R S R.length)/\(b=true↔∃ i,i<R.length/\1000<S i))
  (fun x ⟨n,b,hn,e,hb⟩=>by
   subst e
   unfold kdi
   dsimp only
   by_cases hlt:n<R.length
   ·right
    have hat:at3 R n=R[n]:=kbG hlt
    have hg:gi l (n:Int)=some (S n):=by rw [kes]; exact hl.2 n hlt
    rw [if_pos (by rw [kae,hl.1]; simpa using hlt),hg,kaj hlt,kam (by omega)]
    simp only [jab]
    have hbb:∃ b',(if b=true then some true else some (decide (1000<S n)):Option Bool)=some b'/\(b'=true↔∃ i,i<n+1/\1000<S i):=by
     cases b with
     | true=>
      obtain ⟨i,hi,h1⟩:=hb.1 rfl
      exact ⟨true,rfl,fun _=>⟨i,by omega,h1⟩,fun _=>rfl⟩
     | false=>
      refine ⟨decide (1000<S n),rfl,?_⟩
      rw [jak]
      constructor
      ·intro h1; exact ⟨n,by omega,h1⟩
      ·rintro ⟨i,hi,h1⟩
       by_cases e:i=n
       ·subst e; exact h1
       ·have:=hb.2 ⟨i,by omega,h1⟩; cases this
    obtain ⟨b',e',hb'⟩:=hbb
    rw [e']
    simp only [jab]
    have hbs:=koW R S n
    rw [hat] at hbs
    have hlen:=kmQ R S n
    by_cases c2:0<S n
    ·rw [if_pos (by simpa using c2),kbZ (by simp; omega)]
     simp only [jab]
     rw [if_pos c2] at hbs
     exact ⟨_,rfl,⟨n+1,b',by omega,by rw [hbs],hb'⟩,by simp only [jao]; omega⟩
    ·rw [if_neg (by simpa using c2)]
     rw [if_neg c2] at hbs
     exact ⟨_,rfl,⟨n+1,b',by omega,by rw [hbs],hb'⟩,by simp only [jao]; omega⟩
   ·left
    rw [if_neg (by rw [kae,hl.1]; simpa using hlt)]
    have:n=R.length:=by omega
    subst this
    exact ⟨_,rfl,b,rfl,hb⟩)
  (0,false,[]) ⟨0,false,by omega,rfl,by simp⟩ (by simp only; omega)
 exact ⟨b,hz,hb⟩
include hs hY
theorem ktN {f:Nat->Int} {F:List Int} (hF:Tell Y.length F f) (hf:∀ k,k<Y.length->0<=lks Y f k/\lks Y f k<=1000) (hN:∀ k,k<Y.length->0<=needN Y k/\needN Y k<=1000) :
  ∃ z,iter (kdq Y sw R F) (0,0,List.replicate R.length 0)=some z/\((z = .inl (true,false,0,[])/\∃ k,k<Y.length/\oK Y R sw k=none/\0<lks Y f k)\/
   ∃ l,z = .inr (sumL (fun k=>lks Y f k*bq R (oK Y R sw k)) (List.range Y.length),l)/\Tell R.length l (fun i=>sumL (fun k=>if oK Y R sw k=some i then lks Y f k else 0) (List.range Y.length))/\∀ k,k<Y.length->oK Y R sw k=none->lks Y f k=0):=by
 have hRl:=h.l
 refine Fl.iter_inv (F:=kdq Y sw R F) (fun x=>∃ (n:Nat) (l:List Int),n<=Y.length/\x=((n:Int),sumL (fun k=>lks Y f k*bq R (oK Y R sw k)) (List.range n),l)/\Tell R.length l (fun i=>sumL (fun k=>if oK Y R sw k=some i then lks Y f k else 0) (List.range n))/\∀ k,k<n->oK Y R sw k=none->lks Y f k=0) (fun x=>Y.length-x.1.toNat) _
  (fun x ⟨n,l,hn,e,hl,hz⟩=>?_) _ ⟨0,_,by omega,rfl,⟨by simp,fun k hk=>by rw [jcb,if_pos hk]; rfl⟩,fun k hk=>by omega⟩ (by simp only; omega)
 subst e
 unfold kdq
 dsimp only
 by_cases hlt:n<Y.length
 ·have hat:at3 Y n=Y[n]:=kbG hlt
  have hg:gi F (n:Int)=some (f n):=by rw [kes]; exact hF.2 n hlt
  have hfn:=hf n hlt
  have hc:=(kjQ (R:=R) (by omega) hs (kc Y[n])).1
  have eo:chO R sw (kc Y[n])=oK Y R sw n:=by unfold oK; rw [hat]
  rw [eo] at hc
  have hNn:=hN n hlt
  have hw:w64 (Y[n].2.2-f n)=lks Y f n:=by
   unfold lks at *
   rw [kjH hlt] at *
   exact kbb (by omega) (by omega)
  rw [if_pos (by simpa [kae] using hlt),kaj hlt,hg]
  simp only [jab]
  rw [show kbx sw R Y[n].1 Y[n].2.1=_ from hc,hw,kam (by omega)]
  simp only [jab]
  have hs1:∀ g:Nat->Int,sumL g (List.range (n+1))=sumL g (List.range n)+g n:=fun g=>by rw [List.range_succ,kiD,kcc,khz]; omega
  by_cases cp:0<lks Y f n
  ·rw [if_pos (show decide (0<lks Y f n)=true by simpa using cp)]
   cases ho:oK Y R sw n with
   | none=>
    left
    exact ⟨_,rfl,.inl ⟨rfl,n,hlt,ho,cp⟩⟩
   | some i=>
    right
    have hi:=oK_lt h hs ho
    rw [show chI (some i)=(i:Int) from rfl,show decide (((i:Nat):Int)<0)=false by simp]
    simp only [jab,jai,if_false]
    rw [if_pos (show decide (0<lks Y f n)=true by simpa using cp)]
    have hgl:gi l (i:Int)=some (sumL (fun k=>if oK Y R sw k=some i then lks Y f k else 0) (List.range n)):=by rw [kes]; exact hl.2 i hi
    rw [hgl,kaj hi]
    simp only [jab]
    have hb:=bq_bd (Y:=Y) h hs n
    have hbi:bq R (oK Y R sw n)=R[i].2.2:=by rw [ho]; show (at3 R i).2.2=_; rw [kbG hi]
    have hmb:=knI hfn.1 hfn.2 hb.1 hb.2
    rw [hbi] at hmb hb
    have hcb:=klz (g:=fun k=>lks Y f k*bq R (oK Y R sw k)) (c:=10000000) (l:=List.range n) (fun x hx=>by
     have hx':x<Y.length:=by have:=jcv.1 hx; omega
     exact knI (hf x hx').1 (hf x hx').2 (bq_bd (Y:=Y) h hs x).1 (bq_bd (Y:=Y) h hs x).2) (by omega)
    have hbd:=klz (g:=fun k=>if oK Y R sw k=some i then lks Y f k else 0) (c:=1000) (l:=List.range n) (fun x hx=>by
     have hx':x<Y.length:=by have:=jcv.1 hx; omega
     split
     ·exact hf x hx'
     ·omega) (by omega)
    rw [List.length_range] at hcb hbd
    rw [kbb (x:=lks Y f n*R[i].2.2) (by omega) (by omega),kbb (x:=_+lks Y f n*R[i].2.2) (by omega) (by omega),kbb (x:=_+lks Y f n) (by omega) (by omega)]
    refine ⟨_,rfl,⟨n+1,l.set i (sumL (fun k=>if oK Y R sw k=some i then lks Y f k else 0) (List.range n)+lks Y f n),by omega,?_,⟨by simp [hl.1],fun j hj=>?_⟩,fun k hk hko=>?_⟩,by simp only [jao]; omega⟩
    ·rw [hs1,hbi]; rfl
    ·dsimp only
     rw [hs1]
     rw [jcl]
     by_cases e:i=j
     ·subst e
      rw [if_pos rfl,if_pos (by rw [hl.1]; exact hi),if_pos ho]
     ·rw [if_neg e,hl.2 j hj,if_neg (by rw [ho]; intro e2; cases e2; exact e rfl)]
      simp
    ·by_cases e:k=n
     ·subst e; rw [ho] at hko; cases hko
     ·exact hz k (by omega) hko
  ·have hz0:lks Y f n=0:=by omega
   right
   rw [if_neg (show ¬ decide (0<lks Y f n)=true by simpa using cp)]
   simp only [jab,jai,if_false]
   rw [if_neg (show ¬ decide (0<lks Y f n)=true by simpa using cp)]
   refine ⟨_,rfl,⟨n+1,l,by omega,?_,⟨hl.1,fun j hj=>?_⟩,fun k hk hko=>?_⟩,by simp only [jao]; omega⟩
   ·rw [hs1,hz0]; simp
   ·dsimp only
    rw [hs1,hl.2 j hj,hz0]; simp
   ·by_cases e:k=n
    ·subst e; exact hz0
    ·exact hz k (by omega) hko
 ·left
  rw [if_neg (by simpa [kae] using hlt)]
  have:n=Y.length:=by omega
  subst this
  exact ⟨_,rfl,.inr ⟨l,rfl,hl,hz⟩⟩
end
theorem Tell.uniq {n:Nat} {F F':List Int} {f f':Nat->Int} (h:Tell n F f) (h':Tell n F' f') (e:∀ k,k<n->f k=f' k):F=F':=by
 refine jea fun k=>?_
 by_cases hk:k<n
 ·rw [h.2 k hk,h'.2 k hk,e k hk]
 ·rw [jce (by rw [h.1]; omega),jce (by rw [h'.1]; omega)]
theorem krr {n m:Nat} {U:List (List Int)} (hu:∀ k,k<n->∀ j,j<m->ua U k j=0) {k:Nat} (hk:k<n):row m (ua U) k=0:=by
 unfold row
 rw [kaN (g:=fun _=>0) fun j hj=>hu k hk j hj,khN]
theorem kmO {r:Int×Int×List Int×List It}:bthO (.pr (.i .i64) (.pr (.i .i64) (.pr (.sl (.i .i64)) (.sl (.pr (.i .i64) (.pr (.i .u8) (.i .i64))))))) (some r) (some r)=some r:=kdJ (kbz _ rfl _)
theorem kvx {X Y R:List It} {sw:List Swap} (hX:X.length<=1000) (hY:Y.length<=1000) (hs:sw.length<=1000) (hR:R.length<=1000):∃ c e F l,F.length<=1000/\l.length<=1000/\khm X Y sw R=some (c,e,F,l)/\kge X Y sw R=some (c,e,F,l):=by
 unfold khm kge
 rw [kuL,g0_eq hX hY hs]
 by_cases h:askE X Y sw=0
 rotate_left
 ·refine ⟨0,askE X Y sw,[],[],by simp,by simp,?_,?_⟩
  ·rw [if_pos h]
   simp only [jab]
   rw [if_pos (by simpa using h)]; rfl
  ·simp only [jab]
   rw [if_pos (by simpa using h)]
 have hst:stk X=true/\stk Y=true:=by
  by_cases c:stk X=true/\stk Y=true
  ·exact c
  ·unfold askE at h; rw [if_neg c] at h; omega
 obtain ⟨x1,x2⟩:=stk_N hst.1
 obtain ⟨y1,y2⟩:=stk_N hst.2
 obtain ⟨M,U,p1,p2,p3,p4⟩:=g1_ok hX hY hs h
 obtain ⟨B,U',r1,r2,r3,r4⟩:=kwa hX hY hs (X:=X) (Y:=Y) (sw:=sw)
 rw [if_neg (by simp [h]),p1,r1]
 simp only [Option.bind_none,elsO,jab,h]
 rw [if_neg (by simp),if_neg (by simp),kpD R hR,ktg,knU R hR,kuz]
 simp only [jab]
 by_cases hp:prOk R=true
 rotate_left
 ·refine ⟨0,2,[],[],by simp,by simp,?_,?_⟩
  ·by_cases c1:(!(!(R.zipIdx.any fun x=>badI R x.2 x.1)&&decide (R.length<=60)))=true
   ·rw [if_pos c1]
   ·rw [if_neg c1,if_pos]
    rw [kiQ]
    unfold prOk at hp
    simp only [jax,Bool.and_eq_false_iff,not_or,Bool.not_eq_false] at c1
    rw [c1.1,c1.2] at hp
    simpa using hp
  ·rw [if_pos (by simpa using hp)]
 have P:=kwF hp
 have hp2:=hp
 unfold prOk at hp2
 simp only [jac] at hp2
 rw [if_neg (by rw [hp2.1.2,hp2.1.1]; simp),if_neg (by rw [kiQ,hp2.2]; simp),if_neg (by rw [hp]; simp)]
 have hgm:gmk (lenI Y) (0:Int)=some (List.replicate Y.length 0):=by
  unfold gmk
  rw [kae,if_pos (by omega),jao]
 have hgr:gmk (lenI R) (0:Int)=some (List.replicate R.length 0):=by
  unfold gmk
  rw [kae,if_pos (by omega),jao]
 have hc:∀ j,j<X.length->needN X j<=1000:=fun j hj=>(x2 j hj).2
 have hc0:∀ j,j<X.length->0<=needN X j:=fun j hj=>by have:=(x2 j hj).1; omega
 have hN:∀ k,k<Y.length->0<=needN Y k/\needN Y k<=1000:=fun k hk=>by have:=y2 k hk; omega
 have shp:Shp Y.length X.length U (X.map fun x=>x.2.2):=⟨p3,fun k hk=>by rw [p4 k hk]; simp,by simp⟩
 have shr:Shp Y.length X.length U' (X.map fun x=>x.2.2):=⟨r3,fun k hk=>by rw [r4 k hk]; simp,by simp⟩
 have vp:=(At.zero (cap:=needN X) (may:=mayQ X Y sw) shp (fun k hk j hj=>knk p4 hk hj) (fun j hj=>kut hj) hc0 (needN Y) rfl).v
 have vr:=(At.zero (cap:=needN X) (may:=mayQ X Y sw) shr (fun k hk j hj=>knk r4 hk hj) (fun j hj=>kut hj) hc0 (needN Y) rfl).v
 have h0:∀ k,k<Y.length->row X.length (ua U) k=row X.length (ua U') k:=fun k hk=>by
  rw [krr (fun k hk j hj=>knk p4 hk hj) hk,krr (fun k hk j hj=>knk r4 hk hj) hk]
 obtain ⟨Mp,m1,m2⟩:=kvV P
 obtain ⟨ks,k1,k2,k3⟩:=kwi (Y:=Y) P hs hY
 have hks:=kuM P hs k2 k3
 have hkm:∀ k,k∈ks↔k<Y.length:=fun k=>by rw [k2.mem_iff,jcv]
 have hnd:ks.Nodup:=k2.nodup_iff.2 List.nodup_range
 have hkl:ks.length=Y.length:=by rw [k2.length_eq]; simp
 obtain ⟨F,V,W,f,o1,o2,o3⟩:=kvI (Y:=Y) (R:=R) hs hY hX hc hN r2 shr vr
 rw [<-hks] at o2
 obtain ⟨z,z1,z2⟩:=ktF P hs hY hX hc hN p2 shp vp o2 h0 (fun k hk=>(hkm k).1 hk) hnd (by omega)
 have hlk:∀ k,k<Y.length->0<=lks Y f k/\lks Y f k<=1000:=fun k hk=>by
  have a:=(o2.bd k).1 ((hkm k).2 hk)
  have b:=hN k hk
  unfold lks; omega
 obtain ⟨w,w1,w2⟩:=ktN P hs y1 o3 hlk hN
 have eL3:kii=kdn:=rfl
 have eL4:kih=kdr:=rfl
 have hrank:=kuQ (Y:=Y) P hs hY
 rw [m1]
 simp only [jab]
 rw [kuN P hs hY m2]
 simp only [jab]
 rw [show (fun u0:Line×Line=>(kcF u0.1 u0.2).bind fun u1=>some u1)=cmpB from rfl,k1]
 simp only [jab,hgm,eL3,eL4,hrank,o1,kei,hgr,w1,z1]
 rcases z2 with ⟨rfl,k,hk1,hk2,hk3⟩ | ⟨U2,L2,c,F2,B2,rfl,G⟩
 ·
  rcases w2 with ⟨rfl,_⟩ | ⟨l,rfl,_,w3⟩
  ·refine ⟨0,80,[],[],by simp,by simp,rfl,?_⟩
   simp only [jab,if_true]
   exact kmO
  ·have:=w3 k ((hkm k).1 hk1) hk2
   unfold lks at this; omega
 ·rcases w2 with ⟨rfl,k,g1,g2,g3⟩ | ⟨l,rfl,w3,w4⟩
  ·have:=G.n k ((hkm k).2 g1) g2
   unfold lks at g3; omega
  ·have hS:∀ i,i<R.length->(mget B2 (kc (at3 R i))).getD 0=sumL (fun k=>if oK Y R sw k=some i then lks Y f k else 0) (List.range Y.length):=fun i hi=>by
    rw [G.b,<-kpo k2]
    refine ksY fun k hk=>?_
    cases e:oK Y R sw k with
    | none=>rw [w4 k ((hkm k).1 hk) e]; simp
    | some j=>
     have hj:=oK_lt P hs e
     have:(pq R (some j)=kc (at3 R i))↔some j=some i:=⟨fun e2=>by rw [P.inj hj hi e2],fun e2=>by cases e2; rfl⟩
     by_cases c:some j=some i
     ·rw [if_pos c,if_pos (this.2 c)]
     ·rw [if_neg c,if_neg (fun e2=>c (this.1 e2))]
   obtain ⟨y,y1',y2'⟩:=ksT P (c:=c) (F:=F2) hS
   obtain ⟨b,b1,b2⟩:=kuK P (c:=sumL (fun k=>lks Y f k*bq R (oK Y R sw k)) (List.range Y.length)) w3
   simp only [y1',jab,b1]
   rcases y2' with ⟨rfl,hm⟩ | ⟨rfl,hle⟩
   ·have hb:b=true:=b2.2 hm
    subst hb
    refine ⟨0,4,[],[],by simp,by simp,rfl,?_⟩
    simp only [jai,if_false,if_true]
    exact kmO
   ·have hb:b=false:=by
     cases b with
     | false=>rfl
     | true=>
      obtain ⟨i,hi,h1⟩:=b2.1 rfl
      have:=hle i hi; omega
    subst hb
    obtain ⟨f',q1,q2,q3⟩:=G.g
    have hF:F2=F:=q3.uniq o3 fun k hk=>q2 k ((hkm k).2 hk)
    have hcc:c=sumL (fun k=>lks Y f k*bq R (oK Y R sw k)) (List.range Y.length):=by rw [G.c]; exact kpo k2
    refine ⟨c,0,F,_,by rw [o3.1]; exact hY,jdb (kmQ R _ R.length) hR,by rw [hF],?_⟩
    simp only [jai,if_false]
    rw [<-hcc]
    exact kmO
theorem kob (l:List It) (hl:l.length<=1000):kcu l l=some true:=by
 unfold kcu
 rw [if_neg (by simp),kdI (F:=kdl l l) false l (by omega) (fun _ _=>false) (fun i hi=>by
  unfold kdl
  rw [if_pos (by rw [kae]; simpa using hi),kaj hi,kam (by omega)]
  simp) (by unfold kdl; rw [if_neg (by simp [kae])])]
 simp
theorem kse (l:List Int) (hl:l.length<=1000):keJ l l=some true:=by
 unfold keJ
 rw [if_neg (by simp),kdI (F:=kdA l l) false l (by omega) (fun _ _=>false) (fun i hi=>by
  unfold kdA
  rw [if_pos (by rw [kae]; simpa using hi),kaj hi,kam (by omega)]
  simp) (by unfold kdA; rw [if_neg (by simp [kae])])]
 simp
theorem kvl (l:List It) (hl:l.length<=1000):∃ r,keN l=some r:=by
 unfold keN
 obtain ⟨z,hz,_⟩:=Fl.iter_inv (F:=kfb l) (fun x=>∃ (n:Nat) (l':List It),n<=l.length/\x=((n:Int),l')/\l'.length=l.length) (fun x=>l.length-x.1.toNat) (fun _=>True)
  (fun x ⟨n,l',hn,e,hl'⟩=>by
   subst e
   unfold kfb
   dsimp only
   by_cases hlt:n<l.length
   ·right
    rw [if_pos (by simpa [kae] using hlt),kaj (show n<l'.length by omega),kam (by omega)]
    simp only [jab]
    exact ⟨_,rfl,⟨n+1,_,by omega,rfl,by simp [lset,hl']⟩,by simp only [jao]; omega⟩
   ·left
    rw [if_neg (by simpa [kae] using hlt)]
    exact ⟨_,rfl,trivial⟩)
  (0,l) ⟨0,l,by omega,rfl,rfl⟩ (by simp only; omega)
 exact ⟨z,by rw [hz]; rfl⟩
theorem law08_BoxBills_eq (a b:List It) (sw:List Swap) (pr:List It):kgm a b sw pr=some true:=by
 obtain ⟨c,hc,hl⟩:=kvr a b
 unfold kgm
 rw [hc]
 cases c with
 | true=>rfl
 | false=>
  obtain ⟨ha,hb⟩:=hl rfl
  simp only [jab,jai,if_false]
  by_cases h1:decide ((40:Int)<lenI sw)=true
  ·rw [if_pos h1]
  ·rw [if_neg h1]
   by_cases h2:decide ((80:Int)<lenI pr)=true
   ·rw [if_pos h2]
   ·rw [if_neg h2]
    rw [jak,kae] at h1 h2
    obtain ⟨c,e,F,l,f0,f1,f2,f3⟩:=kvx (X:=a) (Y:=b) (sw:=sw) (R:=pr) (by omega) (by omega) (by omega) (by omega)
    rw [kbZ (by simp; omega),kbZ (by simp; omega)]
    obtain ⟨r,hr⟩:=kvl l f1
    simp only [jba,jab,f2,f3,kse F f0,kob l f1,kob a (show a.length<=1000 by omega),kob b (show b.length<=1000 by omega),hr]
    simp
end Go.Abs
