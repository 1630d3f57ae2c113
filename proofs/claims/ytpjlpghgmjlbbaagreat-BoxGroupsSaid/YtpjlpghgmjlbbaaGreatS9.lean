/- The functions and the law, part 9. -/
import Derived.Test.YtpjlpghgmjlbbaaGreatZ6
import Derived.Test.YtpjlpghgmjlbbaaGreatZ7
import Derived.Test.YtpjlpghgmjlbbaaGreatS8
set_option linter.constructorNameAsVariable false
set_option linter.unusedVariables false
set_option linter.unusedSimpArgs false
set_option linter.unusedSectionVars false
namespace Go.Abs
open Go Go.Abs.Fl
theorem kvq (o:Option (List Int)) {l:List Int} (hl:l.length<=1000) (ho:o=none\/o=some l):kaJ o l=some l:=by
 unfold kaJ
 obtain ⟨z,hz,rfl⟩:=Fl.iter_inv (F:=kaS o l) (fun x=>∃ i:Nat,i<=l.length/\x=((i:Int),l.take i)) (fun x=>l.length-x.1.toNat) (fun z=>z = .inr l)
  (fun x hx=>by
   obtain ⟨i,hi,rfl⟩:=hx
   by_cases hlt:i<l.length
   ·refine .inr ⟨((i+1:Nat),l.take (i+1)),?_,⟨i+1,by omega,rfl⟩,by simp only [jbj]; omega⟩
    have hg:gpre (.i .i64) o (l.take i) l[i]=some (l.take (i+1)):=by
     have e:l.take (i+1)=l.take i++[l[i]]:=by rw [List.take_add_one,jae hlt]; rfl
     rw [e]
     rcases ho with rfl | rfl
     ·rfl
     ·have:(l.take i).length=i:=by rw [jbh]; omega
      simp only [gpre,this,jae hlt,Ty.beq]
      simp
    unfold kaS
    simp only [lenI_lt.2 hlt,if_true,kcL hlt,jal,hg,kcZ (show i<9223372036854775807 by omega)]
   ·have:i=l.length:=by omega
    subst this
    refine .inl ⟨.inr l,?_,rfl⟩
    rw [List.take_length]
    unfold kaS
    rw [if_neg kdx])
  (0,[]) ⟨0,by omega,rfl⟩ (by simp only; omega)
 rw [hz]; rfl
theorem kuY {l:List Int} (hl:l.length<=1000):kck l=some l:=by
 unfold kck kbN
 have h1:(runI fun o=>kaJ o l)=some l:=by
  unfold runI
  simp only [kvq none hl (.inl rfl),kvq (some l) hl (.inr rfl),jal,if_true]
 rw [h1]
 simp only [jal]
 obtain ⟨z,hz,rfl⟩:=Fl.iter_inv (F:=kaR l) (fun x=>∃ i:Nat,i<=l.length/\x=((i:Int),l.take i)) (fun x=>l.length-x.1.toNat) (fun z=>z = .inr l)
  (fun x hx=>by
   obtain ⟨i,hi,rfl⟩:=hx
   by_cases hlt:i<l.length
   ·refine .inr ⟨((i+1:Nat),l.take (i+1)),?_,⟨i+1,by omega,rfl⟩,by simp only [jbj]; omega⟩
    have e:l.take (i+1)=l.take i++[l[i]]:=by rw [List.take_add_one,jae hlt]; rfl
    have hg:gapp (l.take i) [l[i]]=some (l.take (i+1)):=by rw [e]; exact kwv (by rw [jbh]; simp; omega)
    unfold kaR
    simp only [lenI_lt.2 hlt,if_true,kcL hlt,jal,hg]
    rfl
   ·have:i=l.length:=by omega
    subst this
    refine .inl ⟨.inr l,?_,rfl⟩
    rw [List.take_length]
    unfold kaR
    rw [if_neg kdx])
  (0,[]) ⟨0,by omega,rfl⟩ (by simp only; omega)
 rw [hz]; rfl
theorem kuG:∀ n:Nat,n<=12->∃ b,kgC (IntKind.wrap .u64 (n:Int))=some b
 | 0,_=>⟨_,rfl⟩ | 1,_=>⟨_,rfl⟩ | 2,_=>⟨_,rfl⟩ | 3,_=>⟨_,rfl⟩ | 4,_=>⟨_,rfl⟩ | 5,_=>⟨_,rfl⟩ | 6,_=>⟨_,rfl⟩ | 7,_=>⟨_,rfl⟩ | 8,_=>⟨_,rfl⟩ | 9,_=>⟨_,rfl⟩ | 10,_=>⟨_,rfl⟩ | 11,_=>⟨_,rfl⟩ | 12,_=>⟨_,rfl⟩
 | n+13,h=>by omega
theorem kwX {l:List Int} (hl:l.length<=12):∃ s,kcC l=some s/\s.Perm l/\∀ p q,p<q->q<l.length->la s p<=la s q:=by
 obtain ⟨s,h1,h2,h3⟩:=kyU (l:=l) (by omega)
 obtain ⟨b,hb⟩:=kuG l.length hl
 refine ⟨s,?_,h2,h3⟩
 unfold kcC kcX
 rw [kuY (by omega)]
 simp only [jal]
 rw [show (IntKind.wrap .u64 (lenI l))=IntKind.wrap .u64 (l.length:Int) from rfl,hb]
 simp only [jal]
 have:kbi 0 (lenI l) b l=some s:=by
  unfold kbi
  rw [show (1000000:Nat)=999999+1 from rfl]
  unfold kaY kdz
  rw [kli (n:=1) (kgL (z:=.inl s) ?_) (by omega)]; rfl
  unfold kdf
  have e:w64 (lenI l-0)=(l.length:Int):=by rw [kaM,kiI (by omega) (by omega)]; omega
  have e2:decide ((l.length:Int)<=12)=true:=decide_eq_true (by omega)
  simp only [e,e2,if_true,h1,jal]
 rw [this]; rfl
open Classical in
theorem kvp {l:List Int} (hl:l.length<=12) (n:Nat):khV l (n:Int)=some (decide (ordB l n)):=by
 obtain ⟨s,h1,h2,h3⟩:=kwX hl
 have hlen:=h2.length_eq
 unfold khV kcs
 simp only [jal,h1]
 rw [kmJ (F:=kit s) false s (by omega) (fun i x=>x != (i:Int)) (fun i hi=>by
  unfold kit
  simp only [lenI_lt.2 hi,if_true,kcL hi,jal,kcZ (show i<9223372036854775807 by omega)]
  split <;> rfl) (by unfold kit; rw [if_neg kdx])]
 have key:(s.zipIdx.any fun x=>x.1 != (x.2:Int))=false↔ordB l l.length:=by
  rw [<-kvP h2 h3,Bool.eq_false_iff,Ne,jbc]
  constructor
  ·intro h k hk
   by_cases e:la s k=(k:Int)
   ·exact e
   ·refine absurd ⟨(s[k],k),jdc.2 (by simp [jae hk]),?_⟩ h
    have:la s k=s[k]:=by unfold la; rw [jat,jae hk]; rfl
    rw [this] at e
    simpa using e
  ·rintro h ⟨⟨x,k⟩,hm,hx⟩
   have hk:=jdc.1 hm
   simp only at hk
   obtain ⟨hk1,hk2⟩:=jad.1 hk
   have:=h k hk1
   unfold la at this
   rw [jat,hk] at this
   simp at this hx
   exact hx this
 cases hc:(s.zipIdx.any fun x=>x.1 != (x.2:Int)) with
 | true=>
  have:¬ ordB l n:=fun h=>by
   have h':ordB l l.length:=by rw [h.1]; exact ⟨h.1,h.2⟩
   rw [key.2 h'] at hc; cases hc
  simp [this]
 | false=>
  have h':=key.1 hc
  simp only [jaj,if_false,jal,kaM]
  congr 1
  by_cases e:l.length=n
  ·subst e; simp [h']
  ·have:¬ ordB l n:=fun h=>e h.1
   have e2:¬ ((l.length:Int)=(n:Int)):=by omega
   simp [this,e2]
theorem kpC (n lo hi:Int):khn n lo hi=some (wi lo hi n):=by
 unfold khn wi; by_cases h:lo<=n <;> simp [h]
open Classical in
theorem kpn (l:List Int) {n:Nat} (hn:n<=1000):kcb l (n:Int)=some (decide (ordB l n)):=by
 unfold kcb
 by_cases hl:l.length=n
 ·rw [if_neg (by rw [kaM,hl]; simp)]
  have hg:gmk (n:Int) false=some (List.replicate n false):=by
   unfold gmk
   rw [if_pos (by omega),jbj]
  rw [hg]
  simp only [jal]
  have h0:∀ j,sa (List.replicate n false) j=false:=fun j=>by
   unfold sa
   rw [jat,jct]
   split <;> rfl
  obtain ⟨z,hz,hR⟩:=Fl.iter_inv (F:=kcJ l (n:Int))
   (fun x=>∃ (i:Nat) (s:List Bool),i<=n/\x=((i:Int),s)/\s.length=n/\(∀ x∈l.take i,0<=x/\x<n)/\(l.take i).Nodup/\∀ v,v<n->(sa s v=true↔(v:Int)∈l.take i)) (fun x=>n-x.1.toNat)
   (fun z=>(z = .inl false/\¬ ordB l n)\/(z = .inr ()/\ordB l n))
   (fun x hx=>by
    obtain ⟨i,s,hi,rfl,hs,a,b,c⟩:=hx
    by_cases hlt:i<n
    ·have hi':i<l.length:=by omega
     have g1:gi l (i:Int)=some l[i]:=kcL hi'
     have hw:w64 ((n:Int)-1)=(n:Int)-1:=kiI (by omega) (by omega)
     have hd:decide ((i:Int)<(n:Int))=true:=decide_eq_true (by omega)
     have htk:l.take (i+1)=l.take i++[l[i]]:=by rw [List.take_add_one,jae hi']; rfl
     by_cases h1:wi 0 ((n:Int)-1) l[i]=true
     ·obtain ⟨x0,x1⟩:=wi_iff.1 h1
      obtain ⟨v,hv⟩:∃ v:Nat,l[i]=(v:Int):=⟨l[i].toNat,by omega⟩
      have hvn:v<n:=by omega
      have g2:gi s (v:Int)=some (sa s v):=Fl.gs hs hvn
      cases hsv:sa s v with
      | true=>
       refine .inl ⟨.inl false,?_,.inl ⟨rfl,fun h=>?_⟩⟩
       ·unfold kcJ
        simp only [hd,if_true,g1,jal,hw,kpC,h1,jdu,jaj,if_false]
        simp only [hv,g2,hsv,jal,if_true]
       ·have hm:=(c v hvn).1 hsv
        rw [<-hv] at hm
        have:=h.2.2
        rw [<-List.take_append_drop i l,List.nodup_append] at this
        refine this.2.2 _ hm l[i] ?_ rfl
        rw [jdt hi']; exact jdb ..
      | false=>
       refine .inr ⟨((i+1:Nat),s.set v true),?_,⟨i+1,_,by omega,rfl,by simp [hs],fun x hx=>?_,?_,fun v' hv'=>?_⟩,by simp only [jbj]; omega⟩
       ·unfold kcJ
        simp only [hd,if_true,g1,jal,hw,kpC,h1,jdu,jaj,if_false,kcZ (show i<9223372036854775807 by omega)]
        simp only [hv,g2,hsv,jal,jaj,if_false]
        rfl
       ·rw [htk,jaz,jdw] at hx
        rcases hx with hx | rfl
        ·exact a x hx
        ·omega
       ·rw [htk,List.nodup_append]
        refine ⟨b,by simp,fun x hx y hy e=>?_⟩
        rw [jdw] at hy
        subst hy; subst e
        rw [hv] at hx
        rw [(c v hvn).2 hx] at hsv; cases hsv
       ·rw [kzd (by omega),htk,jaz,jdw,hv]
        by_cases e:v'=v
        ·subst e; simp
        ·rw [if_neg e,c v' hv']
         constructor
         ·exact .inl
         ·rintro (h | h)
          ·exact h
          ·omega
     ·rw [jch] at h1
      refine .inl ⟨.inl false,?_,.inl ⟨rfl,fun h=>?_⟩⟩
      ·unfold kcJ
       simp only [hd,if_true,g1,jal,hw,kpC,h1,jds]
      ·have:=h.2.1 l[i] (List.getElem_mem hi')
       have:wi 0 ((n:Int)-1) l[i]=true:=wi_iff.2 (by omega)
       rw [h1] at this; cases this
    ·have:i=n:=by omega
     subst this
     refine .inl ⟨.inr (),?_,.inr ⟨rfl,hl,?_,?_⟩⟩
     ·unfold kcJ
      have:decide ((i:Int)<(i:Int))=false:=decide_eq_false (by omega)
      simp only [this,jaj,if_false]
     ·rw [<-hl,List.take_length] at a; rw [<-hl]; exact a
     ·rw [<-hl,List.take_length] at b; exact b)
   (0,List.replicate n false) ⟨0,_,by omega,rfl,by simp,by simp,by simp,fun v _=>by rw [h0]; simp⟩ (by simp only; omega)
  rw [hz]
  rcases hR with ⟨rfl,h⟩ | ⟨rfl,h⟩ <;> simp [h]
 ·rw [if_pos (by rw [kaM]; simp; omega)]
  have:¬ ordB l n:=fun h=>hl h.1
  simp [this]
def wishB (W:List (List Int)):Prop:=1<=W.length/\W.length<=8/\∀ l∈W,ordB l W.length
open Classical in
theorem kwk {W:List (List Int)} (hW:∀ l∈W,l.length<=12):kgx W=some (decide (wishB W)):=by
 unfold kgx
 have hf:kfB 1 8 (lenI W)=some (wi 1 8 (lenI W)):=by
  unfold kfB wi; by_cases h:(1:Int)<=lenI W <;> simp [h]
 rw [hf]
 simp only [jal]
 by_cases h:wi 1 8 (lenI W)=true
 ·rw [if_pos h]
  have h':=wi_iff.1 h
  rw [kaM] at h'
  unfold kbs kbH
  let q:List Int->Bool:=fun l=>!decide (ordB l W.length)
  rw [kqf (F:=kaN W _) W (by omega) (fun i x=>if q x then some (i:Int) else none) (fun i hi=>by
   unfold kaN
   have he:kfT W[i] (lenI W)=some (q W[i]):=by
    unfold kfT
    rw [kaM,kvp (hW _ (List.getElem_mem hi)) W.length]; rfl
   simp only [lenI_lt.2 hi,if_true,kcL hi,jal,he,kcZ (show i<9223372036854775807 by omega)]
   cases q W[i] <;> rfl) (by unfold kaN; rw [if_neg kdx])]
  have:∀ (l:List (List Int)) (k:Nat),(endL ((l.zipIdx k).findSome? fun x=>if q x.1 then some (x.2:Int) else none) = .inr ()/\l.any q=false)\/∃ p:Int,0<=p/\endL ((l.zipIdx k).findSome? fun x=>if q x.1 then some (x.2:Int) else none) = .inl p/\l.any q=true:=by
   intro l
   induction l with
   | nil=>intro k; exact .inl ⟨rfl,rfl⟩
   | cons x l ih=>
    intro k
    rw [jbx,List.findSome?_cons,List.any_cons]
    cases hp:q x with
    | true=>exact .inr ⟨k,by omega,by simp [endL],by simp⟩
    | false=>
     simp only [jaj,if_false,jdk]
     exact ih (k+1)
  rcases this W 0 with ⟨h1,h2⟩ | ⟨p,hp,h1,h2⟩
  ·rw [h1]
   have:wishB W:=⟨by omega,by omega,fun l hl=>by
    rw [List.any_eq_false] at h2
    have:=h2 l hl
    simpa [q] using this⟩
   simp [this]
  ·rw [h1]
   have:¬ wishB W:=fun hw=>by
    obtain ⟨l,hl,hq⟩:=jbc.1 h2
    simp [q,hw.2.2 l hl] at hq
   simp only [jal,decide_eq_true hp]
   simp [this]
 ·rw [if_neg h]
  have:¬ wishB W:=fun hw=>h (wi_iff.2 (by rw [kaM]; have:=hw.1; have:=hw.2.1; omega))
  simp [this]
open Classical in
theorem kww {W:List (List Int)}:khs W=some (decide (wishB W)):=by
 unfold khs
 by_cases h1:lenI W<1
 ·have:¬ wishB W:=fun hw=>by rw [kaM] at h1; have:=hw.1; omega
  simp [h1,this]
 ·by_cases h2:8<lenI W
  ·have:¬ wishB W:=fun hw=>by rw [kaM] at h2; have:=hw.2.1; omega
   simp [h1,h2,this]
  ·rw [kaM] at h1 h2
   have e1:decide (lenI W<1)=false:=decide_eq_false (by rw [kaM]; exact h1)
   have e2:decide ((8:Int)<lenI W)=false:=decide_eq_false (by rw [kaM]; exact h2)
   simp only [e1,e2,jaj,if_false,jal]
   rw [kmJ (F:=kfb W) false W (by omega) (fun _ l=>!decide (ordB l W.length)) (fun i hi=>by
    unfold kfb
    have ho:kcb W[i] (lenI W)=some (decide (ordB W[i] W.length)):=by rw [kaM]; exact kpn W[i] (by omega)
    simp only [lenI_lt.2 hi,if_true,kcL hi,jal,ho,kcZ (show i<9223372036854775807 by omega)]
    cases decide (ordB W[i] W.length) <;> rfl) (by unfold kfb; rw [if_neg kdx])]
   rw [krf (fun l=>!decide (ordB l W.length)) W 0,kyh]
   by_cases hw:wishB W
   ·have:(W.all fun l=>decide (ordB l W.length))=true:=jam.2 fun l hl=>decide_eq_true (hw.2.2 l hl)
    simp [this,hw]
   ·have:(W.all fun l=>decide (ordB l W.length))=false:=by
     rw [Bool.eq_false_iff]; intro he
     exact hw ⟨by omega,by omega,fun l hl=>of_decide_eq_true (jam.1 he l hl)⟩
    simp [this,hw]
end Go.Abs
namespace Go.Abs.Td
open Go Go.Abs
theorem ksT:∀ {l l':List Nat},l.Nodup->(∀ x∈l,x∈l')->l.length<=l'.length
 | [],l',_,_=>jea _
 | a::l,l',hn,hs=>by
  rw [jcv] at hn
  have ha:a∈l':=hs a (jdb ..)
  have:=ksT (l:=l) (l':=l'.erase a) hn.2 fun x hx=>(List.mem_erase_of_ne (by rintro rfl; exact hn.1 hx)).2 (hs x (jbb _ hx))
  rw [List.length_erase_of_mem ha] at this
  have:0<l'.length:=List.length_pos_of_mem ha
  simp only [jdd]
  omega
def it (o:Nat->Nat):Nat->Nat->Nat
 | 0,i=>i
 | t+1,i=>o (it o t i)
theorem it_lt {o:Nat->Nat} {n:Nat} (h:∀ i,i<n->o i<n):∀ t i,i<n->it o t i<n
 | 0,i,hi=>hi
 | t+1,i,hi=>h _ (it_lt h t i hi)
theorem knD (o:Nat->Nat):∀ s t i,it o (s+t) i=it o s (it o t i)
 | 0,t,i=>by rw [jcb]; rfl
 | s+1,t,i=>by rw [show s+1+t=(s+t)+1 by omega]; simp only [it]; rw [knD o s t i]
theorem kwK {o:Nat->Nat} {n:Nat} (h:∀ i,i<n->o i<n) (hj:∀ i j,i<n->j<n->o i=o j->i=j):∀ t i j,i<n->j<n->it o t i=it o t j->i=j
 | 0,i,j,_,_,e=>e
 | t+1,i,j,hi,hj',e=>kwK h hj t i j hi hj' (hj _ _ (it_lt h t i hi) (it_lt h t j hj') e)
theorem back {o:Nat->Nat} {n:Nat} (h:∀ i,i<n->o i<n) (hj:∀ i j,i<n->j<n->o i=o j->i=j) {i:Nat} (hi:i<n):∃ t,it o (t+1) i=i:=by
 have:∃ p q,p<q/\q<=n/\it o p i=it o q i:=by
  refine Classical.byContradiction fun hc=>?_
  have hn:((List.range (n+1)).map fun t=>it o t i).Nodup:=by
   rw [jde,List.pairwise_map,List.pairwise_iff_getElem]
   intro a b ha hb hab e
   simp only [List.getElem_range,List.length_range] at e ha hb
   exact hc ⟨a,b,hab,by omega,e⟩
  have:=ksT (l':=List.range n) hn fun x hx=>by
   obtain ⟨t,_,rfl⟩:=jay.1 hx
   exact jcj.2 (it_lt h t i hi)
  simp at this
  omega
 obtain ⟨p,q,hpq,_,e⟩:=this
 refine ⟨q-p-1,?_⟩
 have e2:it o q i=it o p (it o (q-p) i):=by rw [<-knD]; congr 1; omega
 rw [e2] at e
 have:=kwK h hj p i (it o (q-p) i) hi (it_lt h _ i hi) e
 rw [show q-p-1+1=q-p by omega]
 exact this.symm
structure Rds (n:Nat) (P:Nat->Nat->Nat->Prop) (o r:Nat->Nat):Prop where
 lt:∀ i,i<n->o i<n
 inj:∀ i j,i<n->j<n->o i=o j->i=j
 b:∀ i,i<n->∀ j,j<n->P i j (o i)->r j<r i
 c:∀ i,i<n->r (o i)=r i
variable {n:Nat} {P:Nat->Nat->Nat->Prop} {o r o' r':Nat->Nat}
theorem Rds.same (h:Rds n P o r) (h':Rds n P o' r') (tot:∀ i,i<n->∀ a b,a<n->b<n->a=b\/P i a b\/P i b a):∀ i,i<n->o i=o' i:=by
 have main:∀ ρ,(∀ k,k<n->r k < ρ->o k=o' k)->∀ i,i<n->r i = ρ->o i=o' i:=by
  intro ρ ih i hi hρ
  refine Classical.byContradiction fun hne=>?_
  have weak:∀ k,k<n->r k = ρ->¬ P k (o' k) (o k):=fun k hk hr hp=>by
   have h1:=h.b k hk (o' k) (h'.lt k hk) hp
   obtain ⟨t,ht⟩:=back h.lt h.inj (h'.lt k hk)
   have hm:it o t (o' k)<n:=it_lt h.lt t _ (h'.lt k hk)
   have hrt:∀ t,r (it o t (o' k))=r (o' k):=by
    intro t
    induction t with
    | zero=>rfl
    | succ t iht=>simp only [it]; rw [h.c _ (it_lt h.lt t _ (h'.lt k hk)),iht]
   have e1:o (it o t (o' k))=o' k:=ht
   have e2:=ih _ hm (by rw [hrt t]; omega)
   rw [e1] at e2
   have:=h'.inj k (it o t (o' k)) hk hm e2
   have h3:=hrt t
   rw [<-this] at h3
   omega
  have step:∀ k,k<n->r k = ρ->r' (o k)<=r' k:=fun k hk hr=>by
   by_cases e:o k=o' k
   ·rw [e,h'.c k hk]; exact jah _
   ·rcases tot k hk (o k) (o' k) (h.lt k hk) (h'.lt k hk) with e2 | e2 | e2
    ·exact absurd e2 e
    ·exact Nat.le_of_lt (h'.b k hk (o k) (h.lt k hk) e2)
    ·exact absurd e2 (weak k hk hr)
  have strict:r' (o i)<r' i:=by
   rcases tot i hi (o i) (o' i) (h.lt i hi) (h'.lt i hi) with e2 | e2 | e2
   ·exact absurd e2 hne
   ·exact h'.b i hi (o i) (h.lt i hi) e2
   ·exact absurd e2 (weak i hi hρ)
  obtain ⟨t,ht⟩:=back h.lt h.inj hi
  have hrt:∀ t,r (it o t i) = ρ:=by
   intro t
   induction t with
   | zero=>exact hρ
   | succ t iht=>simp only [it]; rw [h.c _ (it_lt h.lt t i hi),iht]
  have dec:∀ t,r' (it o (t+1) i)<=r' (o i):=by
   intro t
   induction t with
   | zero=>exact jah _
   | succ t iht=>exact jcy (step _ (it_lt h.lt (t+1) i hi) (hrt (t+1))) iht
  have:=dec t
  rw [ht] at this
  omega
 have all:∀ ρ,∀ k,k<n->r k < ρ->o k=o' k:=by
  intro ρ
  induction ρ with
  | zero=>intro k _ h; omega
  | succ ρ ih=>
   intro k hk hr
   by_cases e:r k = ρ
   ·exact main ρ ih k hk e
   ·exact ih k hk (by omega)
 exact fun i hi=>all (r i+1) i hi (by omega)
def On (f:Nat->Nat) (n k:Nat):Prop:=∃ d,1<=d/\d<=n/\it f d k=k
theorem kyC (f:Nat->Nat) (t i:Nat):it f t (f i)=f (it f t i):=by
 have a:=knD f t 1 i
 simp only [it] at a
 exact a.symm
theorem On.next {f:Nat->Nat} {n k:Nat} (h:On f n k):On f n (f k):=by
 obtain ⟨d,h1,h2,h3⟩:=h
 exact ⟨d,h1,h2,by rw [kyC,h3]⟩
theorem per {f:Nat->Nat} {d k:Nat} (h:it f d k=k):∀ m,it f (m*d) k=k
 | 0=>by rw [Nat.zero_mul]; rfl
 | m+1=>by rw [Nat.succ_mul,knD,h,per h m]
theorem On.inj {f:Nat->Nat} {n k k':Nat} (h:On f n k) (h':On f n k') (e:f k=f k'):k=k':=by
 obtain ⟨d,h1,_,h3⟩:=h
 obtain ⟨d',h1',_,h3'⟩:=h'
 have a:it f (d'*d) k=k:=per h3 d'
 have b:it f (d*d') k'=k':=per h3' d
 have hd:d'*d=(d'*d-1)+1:=by
  have:0<d'*d:=Nat.mul_pos (by omega) (by omega)
  omega
 have c:∀ x,it f (d'*d) x=it f (d'*d-1) (f x):=fun x=>by
  rw [hd,show d'*d-1+1-1=d'*d-1 by omega,knD]; rfl
 rw [Nat.mul_comm d d'] at b
 rw [<-a,<-b,c k,c k',e]
structure PS (n:Nat) (P:Nat->Nat->Nat->Prop) (g:Nat->Int) (r:Nat->Nat) (R:Nat):Prop where
 v:∀ k,k<n->0<=g k->g k<n/\0<=g (g k).toNat/\r (g k).toNat=r k/\r k<R
 inj:∀ i j,i<n->j<n->0<=g i->g i=g j->i=j
 b:∀ i,i<n->0<=g i->∀ j,j<n->P i j (g i).toNat->0<=g j/\r j<r i
variable {n:Nat} {P:Nat->Nat->Nat->Prop} {g g':Nat->Int} {r:Nat->Nat} {R:Nat}
theorem PS.none (h:∀ k,k<n->g k<0):PS n P g r R:=⟨fun k hk h0=>by have:=h k hk; omega,fun i j hi _ h0=>by have:=h i hi; omega,fun i hi h0=>by have:=h i hi; omega⟩
theorem PS.step (h:PS n P g r R) (f:Nat->Nat) (C:Nat->Prop) (hC:∀ k,C k->k<n/\g k<0/\C (f k)) (hf:∀ i j,C i->C j->f i=f j->i=j)
  (hb:∀ k,C k->∀ j,j<n->P k j (f k)->0<=g j) (g1:∀ k,C k->g' k=f k) (g2:∀ k,k<n->¬ C k->g' k=g k):∃ r',PS n P g' r' (R+1):=by
 classical
 have old:∀ k,k<n->0<=g k->¬ C k:=fun k _ h0 hc=>by have:=(hC k hc).2.1; omega
 refine ⟨fun k=>if C k then R else r k,⟨fun k hk h0=>?_,fun i j hi hj h0 e=>?_,fun i hi h0 j hj hp=>?_⟩⟩
 ·by_cases c:C k
  ·have c':=(hC k c).2.2
   rw [g1 k c]
   simp only [jbj]
   refine ⟨by have:=(hC _ c').1; omega,by rw [g1 _ c']; omega,by rw [if_pos c',if_pos c],by rw [if_pos c]; omega⟩
  ·rw [g2 k hk c] at h0 ⊢
   obtain ⟨a,b,d,e⟩:=h.v k hk h0
   have hlt:(g k).toNat<n:=by omega
   have hn:=old _ hlt b
   exact ⟨a,by rw [g2 _ hlt hn]; exact b,by rw [if_neg hn,if_neg c]; exact d,by rw [if_neg c]; omega⟩
 ·by_cases ci:C i
  ·by_cases cj:C j
   ·rw [g1 i ci,g1 j cj] at e
    exact hf i j ci cj (by omega)
   ·rw [g1 i ci,g2 j hj cj] at e
    have a:=(h.v j hj (by omega)).2.1
    rw [<-e,jbj] at a
    have:=(hC _ (hC i ci).2.2).2.1
    omega
  ·rw [g2 i hi ci] at h0 e
   by_cases cj:C j
   ·rw [g1 j cj] at e
    have a:=(h.v i hi h0).2.1
    rw [e,jbj] at a
    have:=(hC _ (hC j cj).2.2).2.1
    omega
   ·rw [g2 j hj cj] at e
    exact h.inj i j hi hj h0 e
 ·by_cases ci:C i
  ·rw [g1 i ci,jbj] at hp
   have a:=hb i ci j hj hp
   have nj:=old j hj a
   rw [g2 j hj nj,if_neg nj,if_pos ci]
   exact ⟨a,(h.v j hj a).2.2.2⟩
  ·rw [g2 i hi ci] at h0 hp
   obtain ⟨a,b⟩:=h.b i hi h0 j hj hp
   have nj:=old j hj a
   rw [g2 j hj nj,if_neg nj,if_neg ci]
   exact ⟨a,b⟩
end Go.Abs.Td
namespace Go.Abs
open Go Go.Abs.Fl Go.Abs.Td
def Lik (W:List (List Int)) (k a b:Nat):Prop:=∃ p q:Nat,p<q/\(W.getD k [])[p]?=some (a:Int)/\(W.getD k [])[q]?=some (b:Int)
theorem klr {α:Type} {l:List α} {k:Nat} {d:α} (h:k<l.length):l.getD k d=l[k]:=by rw [jat,jae h]; rfl
theorem kkV {W:List (List Int)} (h:wishB W) {k:Nat} (hk:k<W.length):ordB (W.getD k []) W.length:=by
 rw [klr hk]; exact h.2.2 _ (List.getElem_mem hk)
theorem kyn {l:List Int} {n:Nat} (h:ordB l n) {a:Nat} (ha:a<n):(a:Int)∈l:=by
 refine Classical.byContradiction fun hc=>?_
 have hm:(l.map Int.toNat).Nodup:=by
  rw [jde,List.pairwise_map]
  refine List.Pairwise.imp_of_mem ?_ (jde.1 h.2.2)
  intro x y hx hy hne e
  have:=h.2.1 x hx
  have:=h.2.1 y hy
  omega
 have:=ksT (l:=l.map Int.toNat) (l':=(List.range n).erase a) hm fun x hx=>by
  obtain ⟨y,hy,rfl⟩:=jay.1 hx
  have:=h.2.1 y hy
  refine (List.mem_erase_of_ne ?_).2 (jcj.2 (by omega))
  intro e
  refine hc ?_
  have:(a:Int)=y:=by omega
  rw [this]; exact hy
 rw [List.length_erase_of_mem (jcj.2 ha)] at this
 simp [h.1] at this
 omega
structure Best (W:List (List Int)) (g:Nat->Int) (k a:Nat):Prop where
 lt:a<W.length
 free:g a<0
 b:∀ j,j<W.length->Lik W k j a->0<=g j
section
variable {W:List (List Int)} {O:List Int} {f:Nat->Nat}
end
def bt (x:Int) (v:Nat):Bool:=x.toNat.testBit v
def clr (x:Int) (v:Nat):Int:=bitsI .andNot .u8 x (2 ^ v)
theorem bits8:∀ x<256,∀ v<8,
  bitsI .and .u8 (Int.fdiv ((x:Nat):Int) (2 ^ v)) 1=(if x.testBit v then 1 else 0)/\Int.tmod (Int.fdiv ((x:Nat):Int) (2 ^ v)) 2=(if x.testBit v then 1 else 0)/\0<=clr x v/\clr x v<256:=by decide +kernel
theorem shr8 {x:Int} (h0:0<=x) (h1:x<256) {v:Nat} (hv:v<8):∃ y,gshr .u8 x (v:Int)=some y/\bitsI .and .u8 y 1=(if bt x v then 1 else 0)/\grem y 2=some (if bt x v then 1 else 0):=by
 obtain ⟨n,rfl⟩:=Int.eq_ofNat_of_zero_le h0
 obtain ⟨a,b,_,_⟩:=bits8 n (by omega) v hv
 refine ⟨Int.fdiv (n:Int) (2 ^ v),?_,a,?_⟩
 ·unfold gshr
  rw [if_pos (by omega),jbj,Nat.min_eq_left (show v<=IntKind.u8.bits by rw [show IntKind.u8.bits=8 from rfl]; omega)]
 ·unfold grem
  rw [if_neg (by decide),b]
  rfl
theorem shl8:∀ v<8,gshl .u8 1 ((v:Nat):Int)=some (2 ^ v):=by decide +kernel
theorem clr8 {x:Int} (h0:0<=x) (h1:x<256) {v:Nat} (hv:v<8):0<=clr x v/\clr x v<256:=by
 obtain ⟨n,rfl⟩:=Int.eq_ofNat_of_zero_le h0
 obtain ⟨_,_,a,b⟩:=bits8 n (by omega) v hv
 exact ⟨a,b⟩
def plc (W:List (List Int)) (i a:Nat):Nat:=(W.getD i []).idxOf (a:Int)
def dl (W:List (List Int)) (T:List Int) (g:Int):Nat->Nat->Int->Bool->Bool
 | 0,_,_,b=>b
 | m+1,i,f,b=>
  if bt g i=false then dl W T g m (i+1) f b
  else (List.range W.length).any fun a=>bt f a&&(decide (plc W i a<=plc W i (la T i).toNat)&&dl W T g m (i+1) (clr f a) (b||decide (plc W i a<plc W i (la T i).toNat)))
theorem kwV {W:List (List Int)} (h:wishB W) {i a:Nat} (hi:i<W.length) (ha:a<W.length):plc W i a<(W.getD i []).length:=List.idxOf_lt_length_of_mem (kyn (kkV h hi) ha)
theorem kjH {W:List (List Int)} (h:wishB W) {i a:Nat} (hi:i<W.length) (ha:a<W.length):(W.getD i [])[plc W i a]?=some (a:Int):=by
 have:=kwV h hi ha
 rw [jae this]
 exact congrArg some (List.getElem_idxOf this)
theorem kyQ {W:List (List Int)} (h:wishB W) {i q v:Nat} (hi:i<W.length) (e:(W.getD i [])[q]?=some (v:Int)):plc W i v=q:=by
 obtain ⟨hq,e'⟩:=jad.1 e
 unfold plc
 rw [<-e']
 exact List.Nodup.idxOf_getElem (kkV h hi).2.2 q hq
theorem klt {T:List Int} {n:Nat} (h:ordB T n) {i:Nat} (hi:i<n):∃ t:Nat,t<n/\la T i=(t:Int)/\gi T (i:Int)=some (t:Int):=by
 have:=h.2.1 _ (ktF (by rw [h.1]; exact hi))
 refine ⟨(la T i).toNat,by omega,by omega,?_⟩
 rw [show (((la T i).toNat:Nat):Int)=la T i by omega]
 exact gi_D 0 (by rw [h.1]; exact hi)
theorem kxP {W:List (List Int)} (h:wishB W) {T:List Int} (hT:ordB T W.length) {g:Int} (g0:0<=g) (g1:g<256):∀ (m K i:Nat) (f:Int) (b:Bool),0<=f->f<256->i+m=W.length->m<K->
  kaF K (i:Int) f b (W.length:Int) g W T=some (dl W T g m i f b,(W.length:Int),g,W,T):=by
 intro m
 induction m with
 | zero=>
  intro K i f b f0 f1 hi hK
  obtain ⟨K,rfl⟩:∃ k,K=k+1:=⟨K-1,by omega⟩
  unfold kaF kfy
  rw [if_pos (by rw [show i=W.length by omega]; simp)]
  rfl
 | succ m ih=>
  intro K i f b f0 f1 hi hK
  obtain ⟨K,rfl⟩:∃ k,K=k+1:=⟨K-1,by omega⟩
  have h8:=h.2.1
  have hil:i<W.length:=by omega
  obtain ⟨y,y1,y2,_⟩:=shr8 g0 g1 (v:=i) (by omega)
  obtain ⟨t,t0,t1,t2⟩:=klt hT hil
  have gW:gi W (i:Int)=some (W.getD i []):=gi_D [] hil
  have ol:=kkV h hil
  have hw:w64 ((i:Int)+1)=((i+1:Nat):Int):=kcZ (by omega)
  have hp:=kwV h hil t0
  have hpa:=kjH h hil t0
  unfold kaF kfy
  rw [if_neg (by simp; omega),y1]
  simp only [jal,y2]
  by_cases hb:bt g i=true
  ·rw [if_neg (by rw [hb]; simp)]
   simp only [gW,jal]
   let C:Nat->Bool:=fun v=>bt f v&&(dl W T g m (i+1) (clr f v) (b||decide (plc W i v<plc W i t)))
   have hd:dl W T g (m+1) i f b=(List.range W.length).any fun a=>decide (plc W i a<=plc W i t)&&C a:=by
    unfold dl
    rw [if_neg (by rw [hb]; decide)]
    congr 1
    funext a
    simp only [C,t1,jbj]
    cases bt f a <;> cases decide (plc W i a<=plc W i t) <;> rfl
   obtain ⟨z,hz,hR⟩:=Fl.iter_inv (F:=kde (kaF K) (i:Int) f b (W.getD i []))
    (fun x=>∃ k:Nat,k<=plc W i t/\x=((k:Int),T,(W.length:Int),g,W)/\∀ q v:Nat,q<k->(W.getD i [])[q]?=some (v:Int)->C v=false) (fun x=>plc W i t-x.1.toNat)
    (fun z=>z = .inl (dl W T g (m+1) i f b,(W.length:Int),g,W,T))
    (fun x hx=>by
     obtain ⟨k,hk,rfl,hq⟩:=hx
     have hkl:k<(W.getD i []).length:=by omega
     obtain ⟨v,v0,v1,v2⟩:=klt ol (i:=k) (by rw [<-ol.1]; exact hkl)
     have va:(W.getD i [])[k]?=some (v:Int):=by
      rw [kcL hkl] at v2
      rw [jae hkl]; exact v2
     have vk:=kyQ h hil va
     obtain ⟨y',z1,z2,_⟩:=shr8 f0 f1 (v:=v) (by omega)
     have hvt:((v:Int)==(t:Int))=decide (k=plc W i t):=by
      rw [Bool.eq_iff_iff,beq_iff_eq,jai]
      constructor
      ·intro e
       rw [<-vk,show v=t by omega]
      ·intro e
       rw [e,hpa] at va
       exact (Option.some.inj va).symm
     have hrec:kaF K ((i+1:Nat):Int) (clr f v) (b||decide (k<plc W i t)) (W.length:Int) g W T=some (dl W T g m (i+1) (clr f v) (b||decide (k<plc W i t)),(W.length:Int),g,W,T):=
      ih K (i+1) (clr f v) _ (clr8 f0 f1 (by omega)).1 (clr8 f0 f1 (by omega)).2 (by omega) (by omega)
     have hC:C v=(bt f v&&dl W T g m (i+1) (clr f v) (b||decide (k<plc W i t))):=by simp only [C,vk]
     have hstep:kde (kaF K) (i:Int) f b (W.getD i []) ((k:Int),T,(W.length:Int),g,W)=some (if C v=true then .inr (.inl (true,(W.length:Int),g,W,T)) else if k=plc W i t then .inr (.inl (false,(W.length:Int),g,W,T)) else .inl (((k+1:Nat):Int),T,(W.length:Int),g,W)):=by
      have hne:(!decide (k=plc W i t))=decide (k<plc W i t):=by
       rw [Bool.eq_iff_iff,jbi,decide_eq_false_iff_not,jai]; omega
      unfold kde
      simp only [lenI_lt.2 hkl,if_true,v2,t2,z1,z2,jal,shl8 v (by omega),hw,hvt,hne,kcZ (show k<9223372036854775807 by have:=ol.1; omega)]
      rw [hC]
      cases hbf:bt f v with
      | false=>
       simp only [Bool.false_and,jaj,if_false]
       rw [if_neg (by decide)]
       by_cases c:k=plc W i t <;> simp [c]
      | true=>
       simp only [Bool.true_and,if_true]
       rw [if_pos (by decide)]
       have hcl:bitsI .andNot .u8 f (2 ^ v)=clr f v:=rfl
       rw [hcl]
       cases b with
       | true=>
        simp only [Bool.true_or] at hrec
        simp only [if_true,hrec,jal,Bool.true_or]
        cases dl W T g m (i+1) (clr f v) true <;> by_cases c:k=plc W i t <;> simp [c]
       | false=>
        simp only [jdk] at hrec
        simp only [jaj,if_false,hrec,jal,jdk]
        cases dl W T g m (i+1) (clr f v) (decide (k<plc W i t)) <;> by_cases c:k=plc W i t <;> simp [c]
     by_cases hc:C v=true
     ·refine .inl ⟨_,by rw [hstep,if_pos hc],?_⟩
      have:dl W T g (m+1) i f b=true:=by
       rw [hd,jbc]
       exact ⟨v,jcj.2 v0,by rw [hc,vk,decide_eq_true hk]; rfl⟩
      rw [this]
     ·by_cases hkt:k=plc W i t
      ·refine .inl ⟨_,by rw [hstep,if_neg hc,if_pos hkt],?_⟩
       have:dl W T g (m+1) i f b=false:=by
        rw [hd,List.any_eq_false]
        intro a ha
        rw [jcj] at ha
        by_cases c:plc W i a<=plc W i t
        ·rw [decide_eq_true c,Bool.true_and]
         by_cases c2:plc W i a=k
         ·have:=kjH h hil ha
          rw [c2,va] at this
          rw [show a=v by have:=Option.some.inj this; omega]; exact hc
         ·rw [hq (plc W i a) a (by omega) (kjH h hil ha)]; decide
        ·rw [decide_eq_false c]; simp
       rw [this]
      ·refine .inr ⟨_,by rw [hstep,if_neg hc,if_neg hkt],⟨k+1,by omega,rfl,fun q v' hq' e=>?_⟩,by simp only [jbj]; omega⟩
       by_cases c:q=k
       ·subst c
        rw [va] at e
        rw [show v'=v by have:=Option.some.inj e; omega]
        rw [jch] at hc; exact hc
       ·exact hq q v' (by omega) e)
    (0,T,(W.length:Int),g,W) ⟨0,by omega,rfl,fun q v hq=>by omega⟩ (by have:=ol.1; simp only; omega)
   rw [hz,hR]
   rfl
  ·rw [jch] at hb
   rw [if_pos (by rw [hb]; simp),hw,ih K (i+1) f b f0 f1 (by omega) (by omega)]
   have hdl:dl W T g (m+1) i f b=dl W T g m (i+1) f b:=by
    conv=>lhs; unfold dl
    rw [if_pos hb]
   rw [hdl]
   rfl
theorem krX {l:List Int} (hl:l.length<=1000) (x:Int):kcV l x=some ((l.idxOf x:Nat):Int):=by
 unfold kcV
 obtain ⟨z,hz,hR⟩:=Fl.iter_inv (F:=kdA l x)
  (fun y=>∃ k:Nat,k<=l.length/\y=(k:Int)/\∀ q (h:q<l.length),q<k->l[q]≠x) (fun y=>l.length-y.toNat)
  (fun z=>(z = .inl ((l.idxOf x:Nat):Int))\/(z = .inr ()/\l.idxOf x=l.length))
  (fun y hy=>by
   obtain ⟨k,hk,rfl,hq⟩:=hy
   by_cases hlt:k<l.length
   ·by_cases e:l[k]=x
    ·refine .inl ⟨.inl (k:Int),?_,.inl ?_⟩
     ·unfold kdA
      simp only [lenI_lt.2 hlt,if_true,kcL hlt,jal]
      rw [if_pos (by rw [e]; simp)]
     ·have h1:l.idxOf x<=k:=by
       refine Nat.le_of_not_lt fun hc=>?_
       have:=List.not_of_lt_findIdx hc
       rw [e] at this
       simp at this
      have h2:l.idxOf x<l.length:=by omega
      have h3:=List.getElem_idxOf h2
      by_cases c:l.idxOf x=k
      ·rw [c]
      ·exact absurd h3 (hq _ h2 (by omega))
    ·refine .inr ⟨((k+1:Nat):Int),?_,⟨k+1,by omega,rfl,fun q h hq'=>?_⟩,by simp only [jbj]; omega⟩
     ·unfold kdA
      simp only [lenI_lt.2 hlt,if_true,kcL hlt,jal,kcZ (show k<9223372036854775807 by omega)]
      rw [if_neg (by simpa using e)]
     ·by_cases c:q=k
      ·subst c; exact e
      ·exact hq q h (by omega)
   ·refine .inl ⟨.inr (),?_,.inr ⟨rfl,?_⟩⟩
    ·unfold kdA
     rw [show k=l.length by omega,if_neg kdx]
    ·refine List.idxOf_eq_length fun hm=>?_
     obtain ⟨q,h,e⟩:=jdf.1 hm
     exact hq q h (by omega) e)
  0 ⟨0,by omega,rfl,fun q h hq=>by omega⟩ (by simp; omega)
 rw [hz]
 rcases hR with rfl | ⟨rfl,h⟩
 ·rfl
 ·simp only [jal,h,kaM]
theorem kyx:∀ x<256,∀ a<8,∀ v<8,(clr ((x:Nat):Int) a).toNat.testBit v=(x.testBit v&&decide (v≠a)):=by decide +kernel
theorem kwB {f:Int} (f0:0<=f) (f1:f<256) {a v:Nat} (ha:a<8) (hv:v<8):bt (clr f a) v=(bt f v&&decide (v≠a)):=by
 obtain ⟨n,rfl⟩:=Int.eq_ofNat_of_zero_le f0
 exact kyx n (by omega) a ha v hv
structure Asg (W:List (List Int)) (T:List Int) (g:Int) (i:Nat) (f:Int) (a:Nat->Nat):Prop where
 v:∀ k,i<=k->k<W.length->bt g k=true->a k<W.length/\bt f (a k)=true/\plc W k (a k)<=plc W k (la T k).toNat
 inj:∀ k k',i<=k->k<W.length->bt g k=true->i<=k'->k'<W.length->bt g k'=true->a k=a k'->k=k'
def Str (W:List (List Int)) (T:List Int) (g:Int) (i:Nat) (a:Nat->Nat):Prop:=∃ k,i<=k/\k<W.length/\bt g k=true/\plc W k (a k)<plc W k (la T k).toNat
theorem kqz {W:List (List Int)} (h8:W.length<=8) {T:List Int} {g:Int}:∀ (m i:Nat) (f:Int) (b:Bool),0<=f->f<256->i+m=W.length->dl W T g m i f b=true->∃ a,Asg W T g i f a/\(b=true\/Str W T g i a)
 | 0,i,f,b,f0,f1,hi,h=>⟨fun _=>0,⟨fun k _ _ _=>by omega,fun k _ _ _ _ _ _ _ _=>by omega⟩,.inl h⟩
 | m+1,i,f,b,f0,f1,hi,h=>by
  unfold dl at h
  by_cases hb:bt g i=false
  ·rw [if_pos hb] at h
   obtain ⟨a,⟨a1,a2⟩,a3⟩:=kqz h8 m (i+1) f b f0 f1 (by omega) h
   have ne:∀ k,i<=k->bt g k=true->i+1<=k:=fun k hk hg=>by
    by_cases e:k=i
    ·subst e; rw [hb] at hg; cases hg
    ·omega
   refine ⟨a,⟨fun k hk hl hg=>a1 k (ne k hk hg) hl hg,fun k k' hk hl hg hk' hl' hg' e=>a2 k k' (ne k hk hg) hl hg (ne k' hk' hg') hl' hg' e⟩,?_⟩
   rcases a3 with c | ⟨k,k1,k2,k3,k4⟩
   ·exact .inl c
   ·exact .inr ⟨k,by omega,k2,k3,k4⟩
  ·rw [if_neg hb,jbc] at h
   obtain ⟨x,hx,h⟩:=h
   rw [jcj] at hx
   simp only [jac,jai] at h
   obtain ⟨hfx,hp,hd⟩:=h
   have hc:=clr8 f0 f1 (v:=x) (by omega)
   obtain ⟨a,⟨a1,a2⟩,a3⟩:=kqz h8 m (i+1) (clr f x) _ hc.1 hc.2 (by omega) hd
   have hk1:∀ k,i<=k->k<W.length->bt g k=true->k≠i->a k<W.length/\bt f (a k)=true/\a k≠x/\plc W k (a k)<=plc W k (la T k).toNat:=fun k hk hl hg hne=>by
    obtain ⟨q1,q2,q3⟩:=a1 k (by omega) hl hg
    rw [kwB f0 f1 (by omega) (by omega),jac,jai] at q2
    exact ⟨q1,q2.1,q2.2,q3⟩
   refine ⟨fun k=>if k=i then x else a k,⟨fun k hk hl hg=>?_,fun k k' hk hl hg hk' hl' hg' e=>?_⟩,?_⟩
   ·by_cases c:k=i
    ·simp only [if_pos c]; subst c; exact ⟨hx,hfx,hp⟩
    ·simp only [if_neg c]; have:=hk1 k hk hl hg c; exact ⟨this.1,this.2.1,this.2.2.2⟩
   ·by_cases c:k=i <;> by_cases c':k'=i
    ·omega
    ·simp only [if_pos c,if_neg c'] at e
     exact absurd e.symm (hk1 k' hk' hl' hg' c').2.2.1
    ·simp only [if_neg c,if_pos c'] at e
     exact absurd e (hk1 k hk hl hg c).2.2.1
    ·simp only [if_neg c,if_neg c'] at e
     exact a2 k k' (by omega) hl hg (by omega) hl' hg' e
   ·rcases a3 with c | ⟨k,k1,k2,k3,k4⟩
    ·rw [jav,jai] at c
     rcases c with c | c
     ·exact .inl c
     ·refine .inr ⟨i,by omega,by omega,by simpa using hb,?_⟩
      simp only [if_pos]; exact c
    ·refine .inr ⟨k,by omega,k2,k3,?_⟩
     simp only [if_neg (show k≠i by omega)]; exact k4
theorem kqB {W:List (List Int)} (h8:W.length<=8) {T:List Int} {g:Int} {a:Nat->Nat}:∀ (m i:Nat) (f:Int) (b:Bool),0<=f->f<256->i+m=W.length->Asg W T g i f a->(b=true\/Str W T g i a)->dl W T g m i f b=true
 | 0,i,f,b,f0,f1,hi,h,hs=>by
  rcases hs with h | ⟨k,k1,k2,_,_⟩
  ·exact h
  ·omega
 | m+1,i,f,b,f0,f1,hi,h,hs=>by
  unfold dl
  by_cases hb:bt g i=false
  ·rw [if_pos hb]
   refine kqB h8 m (i+1) f b f0 f1 (by omega) ⟨fun k hk=>h.v k (by omega),fun k k' hk hl hg hk'=>h.inj k k' (by omega) hl hg (by omega)⟩ ?_
   rcases hs with h | ⟨k,k1,k2,k3,k4⟩
   ·exact .inl h
   ·refine .inr ⟨k,?_,k2,k3,k4⟩
    by_cases e:k=i
    ·subst e; rw [hb] at k3; cases k3
    ·omega
  ·rw [if_neg hb,jbc]
   have hg:bt g i=true:=by simpa using hb
   obtain ⟨q1,q2,q3⟩:=h.v i (by omega) (by omega) hg
   refine ⟨a i,jcj.2 q1,?_⟩
   have hc:=clr8 f0 f1 (v:=a i) (by omega)
   rw [q2,decide_eq_true q3,Bool.true_and,Bool.true_and]
   refine kqB h8 m (i+1) _ _ hc.1 hc.2 (by omega) ⟨fun k hk hl hgk=>?_,fun k k' hk hl hg hk'=>h.inj k k' (by omega) hl hg (by omega)⟩ ?_
   ·obtain ⟨p1,p2,p3⟩:=h.v k (by omega) hl hgk
    refine ⟨p1,?_,p3⟩
    rw [kwB f0 f1 (by omega) (by omega),p2,Bool.true_and,jai]
    intro e
    have:=h.inj k i (by omega) hl hgk (by omega) (by omega) hg e
    omega
   ·rcases hs with h | ⟨k,k1,k2,k3,k4⟩
    ·left; rw [h]; rfl
    ·by_cases e:k=i
     ·subst e; left; rw [decide_eq_true k4,Bool.or_true]
     ·exact .inr ⟨k,by omega,k2,k3,k4⟩
theorem kyW {W:List (List Int)} (h:wishB W) {k x y:Nat} (hk:k<W.length) (hx:x<W.length) (hy:y<W.length) (hp:plc W k x<plc W k y):Lik W k x y:=⟨_,_,hp,kjH h hk hx,kjH h hk hy⟩
theorem kyY {W:List (List Int)} (h:wishB W) {k x y:Nat} (hk:k<W.length) (hx:x<W.length) (hy:y<W.length) (hp:plc W k x=plc W k y):x=y:=by
 have a:=kjH h hk hx
 have b:=kjH h hk hy
 rw [hp,b] at a
 have:=Option.some.inj a; omega
theorem core {W:List (List Int)} (h:wishB W) {T:List Int} {r:Nat->Nat} (hr:Rds W.length (Lik W) (fun k=>(la T k).toNat) r) {g:Int} (g0:0<=g) (g1:g<256):dl W T g W.length 0 g false=false:=by
 cases hd:dl W T g W.length 0 g false with
 | false=>rfl
 | true=>
  exfalso
  obtain ⟨a,ha,hs⟩:=kqz h.2.1 W.length 0 g false g0 g1 (by omega) hd
  have lt:∀ k,k<W.length->(la T k).toNat<W.length:=hr.lt
  have main:∀ ρ k,r k = ρ->k<W.length->bt g k=true->a k=(la T k).toNat:=by
   intro ρ
   induction ρ using Nat.strongRecOn with
   | ind ρ ih=>
    intro k hk hl hg
    obtain ⟨p1,p2,p3⟩:=ha.v k (by omega) hl hg
    refine Classical.byContradiction fun hne=>?_
    have hlt:plc W k (a k)<plc W k (la T k).toNat:=by
     refine Nat.lt_of_le_of_ne p3 fun e=>hne (kyY h hl p1 (lt k hl) e)
    have hb:=hr.b k hl (a k) p1 (kyW h hl p1 (lt k hl) hlt)
    obtain ⟨t,ht⟩:=back hr.lt hr.inj p1
    have orb:∀ t,it (fun k=>(la T k).toNat) t (a k)<W.length/\r (it (fun k=>(la T k).toNat) t (a k))=r (a k)/\bt g (it (fun k=>(la T k).toNat) t (a k))=true:=by
     intro t
     induction t with
     | zero=>exact ⟨p1,rfl,p2⟩
     | succ t iht=>
      obtain ⟨c1,c2,c3⟩:=iht
      have e:=ih (r (a k)) (by omega) _ c2 c1 c3
      have hv:=ha.v _ (jea _) c1 c3
      rw [e] at hv
      exact ⟨hv.1,by simp only [it]; rw [<-c2]; exact hr.c _ c1,hv.2.1⟩
    obtain ⟨c1,c2,c3⟩:=orb t
    have e:=ih (r (a k)) (by omega) _ c2 c1 c3
    have e2:a (it (fun k=>(la T k).toNat) t (a k))=a k:=by rw [e]; exact ht
    have:=ha.inj _ k (jea _) c1 c3 (jea _) hl hg e2
    rw [this] at c2
    omega
  rcases hs with hs | ⟨k,_,k2,k3,k4⟩
  ·cases hs
  ·rw [main _ k rfl k2 k3] at k4; omega
theorem okI_u8c {n:Int} (h:okI .u8 n):n<256:=by
 simp [okI,Lit.wf,IntKind.min,IntKind.max,IntKind.signed,IntKind.bits] at h
 omega
theorem shl64:∀ n<9,gshl .i64 1 ((n:Nat):Int)=some (2 ^ n):=by decide +kernel
theorem krY {W:List (List Int)} (h:wishB W) (hW:∀ l∈W,l.length<=12) {T:List Int} (ho:ordB T W.length) {x:Int} (x0:0<x) (x1:x<256) (x2:x<2 ^ W.length):khE W T x=some (dl W T x W.length 0 x false,0):=by
 classical
 have h8:=h.2.1
 have e1:khV T (lenI W)=some (decide (ordB T W.length)):=by rw [kaM]; exact kvp (by rw [ho.1]; omega) _
 unfold khE
 rw [kwk hW]
 simp only [jal,decide_eq_true h,jdu,jaj,if_false,e1,decide_eq_true ho]
 rw [if_neg (by simp; omega),kaM,shl64 W.length (by omega)]
 simp only [jal,kiI (x:=x) (by omega) (by omega)]
 rw [if_neg (by rw [decide_eq_false (by omega)]; decide)]
 have p:=kxP h ho (Int.le_of_lt x0) x1 W.length 1000000 0 x false (by omega) x1 (by omega) (by omega)
 unfold kgI
 rw [Int.natCast_zero] at p
 rw [p]
 rfl
theorem kyD (W:List (List Int)) (hl:W.length<=9223372036854775807):∃ b,kjg W=some b/\(b=false->∀ l∈W,l.length<=12):=by
 unfold kjg
 rw [kmJ (F:=kgB W) true W hl (fun _ l=>decide ((12:Int)<lenI l)) (fun i hi=>by
  unfold kgB
  rw [if_pos (lenI_lt.2 hi),kcL hi,kcZ (by omega)]
  simp only [jal]
  cases decide ((12:Int)<lenI W[i]) <;> rfl) (by unfold kgB; rw [if_neg kdx])]
 rw [krf (fun l=>decide ((12:Int)<lenI l)) W 0]
 cases hc:W.any fun l=>decide ((12:Int)<lenI l) with
 | true=>exact ⟨true,rfl,fun h=>by cases h⟩
 | false=>
  refine ⟨_,rfl,fun _ l hl=>?_⟩
  have:=List.any_eq_false.1 hc l hl
  rw [jai,kaM] at this
  omega
theorem kyj {T:List Int} {n:Nat} (h:ordB T n) {i j:Nat} (hi:i<n) (hj:j<n) (e:la T i=la T j):i=j:=by
 have h1:i<T.length:=by rw [h.1]; exact hi
 have h2:j<T.length:=by rw [h.1]; exact hj
 unfold la at e
 rw [klr h1,klr h2] at e
 exact (List.getElem_inj h.2.2).1 e
theorem kvF (W:List (List Int)) (i a:Nat):(W.getD i []).idxOf (a:Int)=plc W i a:=rfl
theorem ktO:∀ n<9,(0:Int)<2 ^ n/\(2:Int) ^ n<=256:=by decide +kernel
theorem shl8':∀ v<9,gshl .u8 1 ((v:Nat):Int)=some (if v=8 then 0 else 2 ^ v):=by decide +kernel
theorem wr8:∀ v<9,IntKind.wrap .u8 ((if v=8 then 0 else 2 ^ v)-1)=2 ^ v-1:=by decide +kernel
theorem kiL:∀ i<8,∀ k<8,bt (2 ^ i) k=decide (k=i):=by decide +kernel
theorem kxj:∀ n<9,∀ k<n,bt (2 ^ n-1) k=true:=by decide +kernel
theorem kvx:∀ n<9,∀ i<n,(2:Int) ^ i<2 ^ n:=by decide +kernel
theorem kuC {W:List (List Int)} (h:wishB W) {T O:List Int} (hT:ordB T W.length) (hO:ordB O W.length):∃ w b,iter (kcc W T O) (0,false,false)=some (w,b)/\(w=false->∀ k,k<W.length->plc W k (la O k).toNat<=plc W k (la T k).toNat)/\(b=true->∃ k,k<W.length/\plc W k (la O k).toNat<plc W k (la T k).toNat):=by
 have h8:=h.2.1
 obtain ⟨z,hz,h1,h2⟩:=Fl.iter_inv (F:=kcc W T O)
  (fun y=>∃ (k:Nat) (w b:Bool),k<=W.length/\y=((k:Int),w,b)/\(w=false->∀ j,j<k->plc W j (la O j).toNat<=plc W j (la T j).toNat)/\(b=true->∃ j,j<k/\plc W j (la O j).toNat<plc W j (la T j).toNat)) (fun y=>W.length-y.1.toNat)
  (fun z=>(z.1=false->∀ k,k<W.length->plc W k (la O k).toNat<=plc W k (la T k).toNat)/\(z.2=true->∃ k,k<W.length/\plc W k (la O k).toNat<plc W k (la T k).toNat))
  (fun y hy=>by
   obtain ⟨k,w,b,hk,rfl,hw,hb⟩:=hy
   by_cases hlt:k<W.length
   ·obtain ⟨t,t0,t1,t2⟩:=klt hT hlt
    obtain ⟨u,u0,u1,u2⟩:=klt hO hlt
    have hwk:=kkV h hlt
    have hg:W[k]=W.getD k []:=(klr hlt).symm
    refine .inr ⟨(((k+1:Nat):Int),(w||decide (plc W k t<plc W k u)),(b||decide (plc W k u<plc W k t))),?_,⟨k+1,_,_,by omega,rfl,fun hf j hj=>?_,fun hf=>?_⟩,by simp only [jbj]; omega⟩
    ·unfold kcc
     rw [if_pos (lenI_lt.2 hlt),kcL hlt]
     simp only [jal,t2,u2,hg,kcZ (show k<9223372036854775807 by omega),krX (show (W.getD k []).length<=1000 by rw [hwk.1]; omega),kvF,Int.ofNat_lt]
     cases w <;> cases b <;> simp
    ·rw [jdg,decide_eq_false_iff_not] at hf
     by_cases e:j=k
     ·subst e; rw [t1,u1,jbj,jbj]; omega
     ·exact hw hf.1 j (by omega)
    ·rw [jav,jai] at hf
     rcases hf with hf | hf
     ·obtain ⟨j,j1,j2⟩:=hb hf; exact ⟨j,by omega,j2⟩
     ·exact ⟨k,by omega,by rw [t1,u1,jbj,jbj]; exact hf⟩
   ·have:k=W.length:=by omega
    subst this
    refine .inl ⟨(w,b),?_,hw,hb⟩
    unfold kcc
    rw [if_neg kdx])
  (0,false,false) ⟨0,false,false,by omega,rfl,fun _ j hj=>by omega,fun hf=>by cases hf⟩ (by simp; omega)
 exact ⟨z.1,z.2,hz,h1,h2⟩
theorem law08_BoxGroups_eq (W:List (List Int)) (T O:List Int) (x:Int) (hl:W.length<=9223372036854775807) (x0:0<=x) (x1:x<256):khw W T O x=some true:=by
 classical
 obtain ⟨c,hc,hw⟩:=kyD W hl
 unfold khw
 rw [hc]
 cases c with
 | true=>rfl
 | false=>
  have hW:=hw rfl
  simp only [law08_alive,jal,jaj,if_false,jdu,if_true]
  rw [kww]
  by_cases h:wishB W
  ·have h1:=h.1
   have h8:=h.2.1
   have e1:kcb T (lenI W)=some (decide (ordB T W.length)):=by rw [kaM]; exact kpn _ (by omega)
   have e2:kcb O (lenI W)=some (decide (ordB O W.length)):=by rw [kaM]; exact kpn _ (by omega)
   simp only [jal,decide_eq_true h,jdu,jaj,if_false,e1,e2]
   by_cases hT:ordB T W.length
   ·simp only [decide_eq_true hT,jdu,jaj,if_false]
    by_cases hO:ordB O W.length
    ·simp only [decide_eq_true hO,jdu,jaj,if_false]
     obtain ⟨i,hi,hm⟩:∃ i:Nat,i<W.length/\grem (w64 x) (lenI W)=some (i:Int):=by
      rw [kiI (by omega) (by omega),kaM]
      refine ⟨(x.tmod W.length).toNat,?_,?_⟩
      ·have:=Int.tmod_lt_of_pos x (b:=(W.length:Int)) (by omega)
       have:=Int.tmod_nonneg (W.length:Int) x0
       omega
      ·have:=Int.tmod_nonneg (W.length:Int) x0
       unfold grem
       rw [if_neg (by simp; intro hc; simp [hc] at h1)]
       rw [show (((x.tmod W.length).toNat:Nat):Int)=x.tmod W.length by omega]
     obtain ⟨t,t0,t1,t2⟩:=klt hT hi
     have hwi:=kkV h hi
     have p1:=ktO i (by omega)
     have p2:=kvx W.length (by omega) i hi
     have p3:=ktO W.length (by omega)
     have hg:W[i]=W.getD i []:=(klr hi).symm
     have hone:dl W T (2 ^ i) W.length 0 (2 ^ i) false=decide (plc W i i<plc W i t):=by
      rw [Bool.eq_iff_iff,jai]
      constructor
      ·intro hd
       obtain ⟨a,ha,hs⟩:=kqz h8 W.length 0 _ false (Int.le_of_lt p1.1) (by omega) (by omega) hd
       rcases hs with hs | ⟨k,_,k2,k3,k4⟩
       ·cases hs
       ·rw [kiL i (by omega) k (by omega),jai] at k3
        subst k3
        have hv:=ha.v k (jea _) k2 (by rw [kiL k (by omega) k (by omega)]; simp)
        have hak:=hv.2.1
        rw [kiL k (by omega) _ (by omega),jai] at hak
        rw [hak,t1,jbj] at k4
        exact k4
      ·intro hp
       refine kqB h8 (a:=fun _=>i) W.length 0 _ false (Int.le_of_lt p1.1) (by omega) (by omega) ⟨fun k _ hk hb=>?_,fun k k' _ hk hb _ hk' hb' _=>?_⟩ (.inr ⟨i,by omega,hi,by rw [kiL i (by omega) i (by omega)]; simp,by rw [t1,jbj]; exact hp⟩)
       ·rw [kiL i (by omega) k (by omega),jai] at hb
        subst hb
        exact ⟨hk,by rw [kiL k (by omega) k (by omega)]; simp,by rw [t1,jbj]; omega⟩
       ·rw [kiL i (by omega) k (by omega),jai] at hb
        rw [kiL i (by omega) k' (by omega),jai] at hb'
        omega
     rw [hm]
     simp only [jal,shl8' i (by omega),if_neg (show i≠8 by omega),krY h hW hT p1.1 (show (2:Int) ^ i<256 by omega) p2,kcL hi,t2,hg,krX (show (W.getD i []).length<=1000 by rw [hwi.1]; omega),kvF,Int.ofNat_lt,hone]
     rw [if_neg (by decide),if_neg (by simp)]
     obtain ⟨w,b,e3,g1,g2⟩:=kuC h hT hO
     rw [e3]
     simp only [jal]
     rw [kaM,shl8' W.length (by omega)]
     simp only [jal]
     rw [wr8 W.length (by omega)]
     have p4:(2:Int) ^ W.length≥2:=by
      have:=kvx W.length (by omega) 0 (by omega)
      rw [Int.pow_zero] at this; omega
     rw [krY h hW hT (x:=2 ^ W.length-1) (by omega) (by omega) (by omega)]
     simp only [jal]
     rw [if_pos (by rfl)]
     cases w with
     | true=>rfl
     | false=>
      cases b with
      | false=>rfl
      | true=>
       have:dl W T (2 ^ W.length-1) W.length 0 (2 ^ W.length-1) false=true:=by
        have la_:∀ k,k<W.length->(la O k).toNat<W.length/\0<=la O k:=fun k hk=>by
         obtain ⟨u,u0,u1,_⟩:=klt hO hk
         omega
        obtain ⟨k,k1,k2⟩:=g2 rfl
        refine kqB h8 (a:=fun k=>(la O k).toNat) W.length 0 _ false (by omega) (by omega) (by omega) ⟨fun k _ hk _=>⟨(la_ k hk).1,kxj W.length (by omega) _ (la_ k hk).1,g1 rfl k hk⟩,fun k k' _ hk _ _ hk' _ e=>?_⟩ (.inr ⟨k,by omega,k1,kxj W.length (by omega) k k1,k2⟩)
        have a1:=la_ k hk
        have a2:=la_ k' hk'
        exact kyj hO hk hk' (by have e':(la O k).toNat=(la O k').toNat:=e; omega)
       rw [this]
       rfl
    ·simp only [decide_eq_false hO,jds,if_true]
   ·simp only [decide_eq_false hT,jds,if_true]
  ·simp only [jal,decide_eq_false h,jds,if_true]
end Go.Abs
