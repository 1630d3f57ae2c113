/- The functions and the law, part 9. -/
import Derived.Test.YtpjlpghgmjlbbaaGreatZ6
import Derived.Test.YtpjlpghgmjlbbaaGreatZ7
import Derived.Test.YtpjlpghgmjlbbaaGreatS8
set_option linter.constructorNameAsVariable false
set_option linter.unusedVariables false
set_option linter.unusedSimpArgs false
set_option linter.unusedSectionVars false
namespace Go.Abs
open Go Go.Abs.Fl
theorem kvn (o:Option (List Int)) {l:List Int} (hl:l.length<=1000) (ho:o=none\/o=some l):kaK o l=some l:=by
 unfold kaK
 obtain ⟨z,hz,rfl⟩:=Fl.iter_inv (F:=kaR o l) (fun x=>∃ i:Nat,i<=l.length/\x=((i:Int),l.take i)) (fun x=>l.length-x.1.toNat) (fun z=>z = .inr l)
  (fun x hx=>by
   obtain ⟨i,hi,rfl⟩:=hx
   by_cases hlt:i<l.length
   ·refine .inr ⟨((i+1:Nat),l.take (i+1)),?_,⟨i+1,by omega,rfl⟩,by simp only [jbj]; omega⟩
    have hg:gpre (.i .i64) o (l.take i) l[i]=some (l.take (i+1)):=by
     have e:l.take (i+1)=l.take i++[l[i]]:=by rw [List.take_add_one,jae hlt]; rfl
     rw [e]
     rcases ho with rfl | rfl
     ·rfl
     ·have:(l.take i).length=i:=by rw [jbh]; omega
      simp only [gpre,this,jae hlt,Ty.beq]
      simp
    unfold kaR
    simp only [lenI_lt.2 hlt,if_true,kbt hlt,jal,hg,kbo (show i<9223372036854775807 by omega)]
   ·have:i=l.length:=by omega
    subst this
    refine .inl ⟨.inr l,?_,rfl⟩
    rw [List.take_length]
    unfold kaR
    rw [if_neg kck])
  (0,[]) ⟨0,by omega,rfl⟩ (by simp only; omega)
 rw [hz]; rfl
theorem kuC {l:List Int} (hl:l.length<=1000):kcr l=some l:=by
 unfold kcr kbS
 have h1:(runI fun o=>kaK o l)=some l:=by
  unfold runI
  simp only [kvn none hl (.inl rfl),kvn (some l) hl (.inr rfl),jal,if_true]
 rw [h1]
 simp only [jal]
 obtain ⟨z,hz,rfl⟩:=Fl.iter_inv (F:=kaT l) (fun x=>∃ i:Nat,i<=l.length/\x=((i:Int),l.take i)) (fun x=>l.length-x.1.toNat) (fun z=>z = .inr l)
  (fun x hx=>by
   obtain ⟨i,hi,rfl⟩:=hx
   by_cases hlt:i<l.length
   ·refine .inr ⟨((i+1:Nat),l.take (i+1)),?_,⟨i+1,by omega,rfl⟩,by simp only [jbj]; omega⟩
    have e:l.take (i+1)=l.take i++[l[i]]:=by rw [List.take_add_one,jae hlt]; rfl
    have hg:gapp (l.take i) [l[i]]=some (l.take (i+1)):=by rw [e]; exact kmX (by rw [jbh]; simp; omega)
    unfold kaT
    simp only [lenI_lt.2 hlt,if_true,kbt hlt,jal,hg]
    rfl
   ·have:i=l.length:=by omega
    subst this
    refine .inl ⟨.inr l,?_,rfl⟩
    rw [List.take_length]
    unfold kaT
    rw [if_neg kck])
  (0,[]) ⟨0,by omega,rfl⟩ (by simp only; omega)
 rw [hz]; rfl
theorem kuL:∀ n:Nat,n<=12->∃ b,kgL (IntKind.wrap .u64 (n:Int))=some b
 | 0,_=>⟨_,rfl⟩ | 1,_=>⟨_,rfl⟩ | 2,_=>⟨_,rfl⟩ | 3,_=>⟨_,rfl⟩ | 4,_=>⟨_,rfl⟩ | 5,_=>⟨_,rfl⟩ | 6,_=>⟨_,rfl⟩ | 7,_=>⟨_,rfl⟩ | 8,_=>⟨_,rfl⟩ | 9,_=>⟨_,rfl⟩ | 10,_=>⟨_,rfl⟩ | 11,_=>⟨_,rfl⟩ | 12,_=>⟨_,rfl⟩
 | n+13,h=>by omega
theorem kwQ {l:List Int} (hl:l.length<=12):∃ s,kcI l=some s/\s.Perm l/\∀ p q,p<q->q<l.length->la s p<=la s q:=by
 obtain ⟨s,h1,h2,h3⟩:=kyW (l:=l) (by omega)
 obtain ⟨b,hb⟩:=kuL l.length hl
 refine ⟨s,?_,h2,h3⟩
 unfold kcI kdc
 rw [kuC (by omega)]
 simp only [jal]
 rw [show (IntKind.wrap .u64 (lenI l))=IntKind.wrap .u64 (l.length:Int) from rfl,hb]
 simp only [jal]
 have:kbi 0 (lenI l) b l=some s:=by
  unfold kbi
  rw [show (1000000:Nat)=999999+1 from rfl]
  unfold kba kdC
  rw [klC (n:=1) (kgQ (z:=.inl s) ?_) (by omega)]; rfl
  unfold kdh
  have e:w64 (lenI l-0)=(l.length:Int):=by rw [kaH,kiQ (by omega) (by omega)]; omega
  have e2:decide ((l.length:Int)<=12)=true:=decide_eq_true (by omega)
  simp only [e,e2,if_true,h1,jal]
 rw [this]; rfl
open Classical in
theorem kuZ {l:List Int} (hl:l.length<=12) (n:Nat):kiq l (n:Int)=some (decide (ordB l n)):=by
 obtain ⟨s,h1,h2,h3⟩:=kwQ hl
 have hlen:=h2.length_eq
 unfold kiq kcu
 simp only [jal,h1]
 rw [kkt (F:=kiw s) false s (by omega) (fun i x=>x != (i:Int)) (fun i hi=>by
  unfold kiw
  simp only [lenI_lt.2 hi,if_true,kbt hi,jal,kbo (show i<9223372036854775807 by omega)]
  split <;> rfl) (by unfold kiw; rw [if_neg kck])]
 have key:(s.zipIdx.any fun x=>x.1 != (x.2:Int))=false↔ordB l l.length:=by
  rw [<-kvR h2 h3,Bool.eq_false_iff,Ne,jbf]
  constructor
  ·intro h k hk
   by_cases e:la s k=(k:Int)
   ·exact e
   ·refine absurd ⟨(s[k],k),jde.2 (by simp [jae hk]),?_⟩ h
    have:la s k=s[k]:=by unfold la; rw [jas,jae hk]; rfl
    rw [this] at e
    simpa using e
  ·rintro h ⟨⟨x,k⟩,hm,hx⟩
   have hk:=jde.1 hm
   simp only at hk
   obtain ⟨hk1,hk2⟩:=jad.1 hk
   have:=h k hk1
   unfold la at this
   rw [jas,hk] at this
   simp at this hx
   exact hx this
 cases hc:(s.zipIdx.any fun x=>x.1 != (x.2:Int)) with
 | true=>
  have:¬ ordB l n:=fun h=>by
   have h':ordB l l.length:=by rw [h.1]; exact ⟨h.1,h.2⟩
   rw [key.2 h'] at hc; cases hc
  simp [this]
 | false=>
  have h':=key.1 hc
  simp only [jai,if_false,jal,kaH]
  congr 1
  by_cases e:l.length=n
  ·subst e; simp [h']
  ·have:¬ ordB l n:=fun h=>e h.1
   have e2:¬ ((l.length:Int)=(n:Int)):=by omega
   simp [this,e2]
theorem kpw (n lo hi:Int):khK n lo hi=some (wi lo hi n):=by
 unfold khK wi; by_cases h:lo<=n <;> simp [h]
open Classical in
theorem ktG (l:List Int) {n:Nat} (hn:n<=1000):kdT l (n:Int)=some (decide (ordB l n)):=by
 unfold kdT
 by_cases hl:l.length=n
 ·rw [if_neg (by rw [kaH,hl]; simp)]
  have hg:gmk (n:Int) false=some (List.replicate n false):=by
   unfold gmk
   rw [if_pos (by omega),jbj]
  rw [hg]
  simp only [jal]
  have h0:∀ j,sa (List.replicate n false) j=false:=fun j=>by
   unfold sa
   rw [jas,jco]
   split <;> rfl
  obtain ⟨z,hz,hR⟩:=Fl.iter_inv (F:=kcO l (n:Int))
   (fun x=>∃ (i:Nat) (s:List Bool),i<=n/\x=((i:Int),s)/\s.length=n/\(∀ x∈l.take i,0<=x/\x<n)/\(l.take i).Nodup/\∀ v,v<n->(sa s v=true↔(v:Int)∈l.take i)) (fun x=>n-x.1.toNat)
   (fun z=>(z = .inl false/\¬ ordB l n)\/(z = .inr ()/\ordB l n))
   (fun x hx=>by
    obtain ⟨i,s,hi,rfl,hs,a,b,c⟩:=hx
    by_cases hlt:i<n
    ·have hi':i<l.length:=by omega
     have g1:gi l (i:Int)=some l[i]:=kbt hi'
     have hw:w64 ((n:Int)-1)=(n:Int)-1:=kiQ (by omega) (by omega)
     have hd:decide ((i:Int)<(n:Int))=true:=decide_eq_true (by omega)
     have htk:l.take (i+1)=l.take i++[l[i]]:=by rw [List.take_add_one,jae hi']; rfl
     by_cases h1:wi 0 ((n:Int)-1) l[i]=true
     ·obtain ⟨x0,x1⟩:=wi_iff.1 h1
      obtain ⟨v,hv⟩:∃ v:Nat,l[i]=(v:Int):=⟨l[i].toNat,by omega⟩
      have hvn:v<n:=by omega
      have g2:gi s (v:Int)=some (sa s v):=Fl.gs hs hvn
      cases hsv:sa s v with
      | true=>
       refine .inl ⟨.inl false,?_,.inl ⟨rfl,fun h=>?_⟩⟩
       ·unfold kcO
        simp only [hd,if_true,g1,jal,hw,kpw,h1,jdy,jai,if_false]
        simp only [hv,g2,hsv,jal,if_true]
       ·have hm:=(c v hvn).1 hsv
        rw [<-hv] at hm
        have:=h.2.2
        rw [<-List.take_append_drop i l,List.nodup_append] at this
        refine this.2.2 _ hm l[i] ?_ rfl
        rw [jdu hi']; exact jdd ..
      | false=>
       refine .inr ⟨((i+1:Nat),s.set v true),?_,⟨i+1,_,by omega,rfl,by simp [hs],fun x hx=>?_,?_,fun v' hv'=>?_⟩,by simp only [jbj]; omega⟩
       ·unfold kcO
        simp only [hd,if_true,g1,jal,hw,kpw,h1,jdy,jai,if_false,kbo (show i<9223372036854775807 by omega)]
        simp only [hv,g2,hsv,jal,jai,if_false]
        rfl
       ·rw [htk,jax,jdi] at hx
        rcases hx with hx | rfl
        ·exact a x hx
        ·omega
       ·rw [htk,List.nodup_append]
        refine ⟨b,by simp,fun x hx y hy e=>?_⟩
        rw [jdi] at hy
        subst hy; subst e
        rw [hv] at hx
        rw [(c v hvn).2 hx] at hsv; cases hsv
       ·rw [kyR (by omega),htk,jax,jdi,hv]
        by_cases e:v'=v
        ·subst e; simp
        ·rw [if_neg e,c v' hv']
         constructor
         ·exact .inl
         ·rintro (h | h)
          ·exact h
          ·omega
     ·rw [jci] at h1
      refine .inl ⟨.inl false,?_,.inl ⟨rfl,fun h=>?_⟩⟩
      ·unfold kcO
       simp only [hd,if_true,g1,jal,hw,kpw,h1,Bool.not_false]
      ·have:=h.2.1 l[i] (jdg hi')
       have:wi 0 ((n:Int)-1) l[i]=true:=wi_iff.2 (by omega)
       rw [h1] at this; cases this
    ·have:i=n:=by omega
     subst this
     refine .inl ⟨.inr (),?_,.inr ⟨rfl,hl,?_,?_⟩⟩
     ·unfold kcO
      have:decide ((i:Int)<(i:Int))=false:=decide_eq_false (by omega)
      simp only [this,jai,if_false]
     ·rw [<-hl,List.take_length] at a; rw [<-hl]; exact a
     ·rw [<-hl,List.take_length] at b; exact b)
   (0,List.replicate n false) ⟨0,_,by omega,rfl,by simp,by simp,by simp,fun v _=>by rw [h0]; simp⟩ (by simp only; omega)
  rw [hz]
  rcases hR with ⟨rfl,h⟩ | ⟨rfl,h⟩ <;> simp [h]
 ·rw [if_pos (by rw [kaH]; simp; omega)]
  have:¬ ordB l n:=fun h=>hl h.1
  simp [this]
def wishB (W:List (List Int)):Prop:=1<=W.length/\W.length<=8/\∀ l∈W,ordB l W.length
open Classical in
theorem klQ {W:List (List Int)} (hW:∀ l∈W,l.length<=12):kgH W=some (decide (wishB W)):=by
 unfold kgH
 have hf:kfs 1 8 (lenI W)=some (wi 1 8 (lenI W)):=by
  unfold kfs wi; by_cases h:(1:Int)<=lenI W <;> simp [h]
 rw [hf]
 simp only [jal]
 by_cases h:wi 1 8 (lenI W)=true
 ·rw [if_pos h]
  have h':=wi_iff.1 h
  rw [kaH] at h'
  unfold kbw kbN
  let q:List Int->Bool:=fun l=>!decide (ordB l W.length)
  rw [kpV (F:=kaN W _) W (by omega) (fun i x=>if q x then some (i:Int) else none) (fun i hi=>by
   unfold kaN
   have he:kfN W[i] (lenI W)=some (q W[i]):=by
    unfold kfN
    rw [kaH,kuZ (hW _ (jdg hi)) W.length]; rfl
   simp only [lenI_lt.2 hi,if_true,kbt hi,jal,he,kbo (show i<9223372036854775807 by omega)]
   cases q W[i] <;> rfl) (by unfold kaN; rw [if_neg kck])]
  have:∀ (l:List (List Int)) (k:Nat),(endL ((l.zipIdx k).findSome? fun x=>if q x.1 then some (x.2:Int) else none) = .inr ()/\l.any q=false)\/∃ p:Int,0<=p/\endL ((l.zipIdx k).findSome? fun x=>if q x.1 then some (x.2:Int) else none) = .inl p/\l.any q=true:=by
   intro l
   induction l with
   | nil=>intro k; exact .inl ⟨rfl,rfl⟩
   | cons x l ih=>
    intro k
    rw [jbx,List.findSome?_cons,List.any_cons]
    cases hp:q x with
    | true=>exact .inr ⟨k,by omega,by simp [endL],by simp⟩
    | false=>
     simp only [jai,if_false,jdl]
     exact ih (k+1)
  rcases this W 0 with ⟨h1,h2⟩ | ⟨p,hp,h1,h2⟩
  ·rw [h1]
   have:wishB W:=⟨by omega,by omega,fun l hl=>by
    rw [List.any_eq_false] at h2
    have:=h2 l hl
    simpa [q] using this⟩
   simp [this]
  ·rw [h1]
   have:¬ wishB W:=fun hw=>by
    obtain ⟨l,hl,hq⟩:=jbf.1 h2
    simp [q,hw.2.2 l hl] at hq
   simp only [jal,decide_eq_true hp]
   simp [this]
 ·rw [if_neg h]
  have:¬ wishB W:=fun hw=>h (wi_iff.2 (by rw [kaH]; have:=hw.1; have:=hw.2.1; omega))
  simp [this]
open Classical in
theorem kxm {W:List (List Int)}:khz W=some (decide (wishB W)):=by
 unfold khz
 by_cases h1:lenI W<1
 ·have:¬ wishB W:=fun hw=>by rw [kaH] at h1; have:=hw.1; omega
  simp [h1,this]
 ·by_cases h2:8<lenI W
  ·have:¬ wishB W:=fun hw=>by rw [kaH] at h2; have:=hw.2.1; omega
   simp [h1,h2,this]
  ·rw [kaH] at h1 h2
   have e1:decide (lenI W<1)=false:=decide_eq_false (by rw [kaH]; exact h1)
   have e2:decide ((8:Int)<lenI W)=false:=decide_eq_false (by rw [kaH]; exact h2)
   simp only [e1,e2,jai,if_false,jal]
   rw [kkt (F:=kfc W) false W (by omega) (fun _ l=>!decide (ordB l W.length)) (fun i hi=>by
    unfold kfc
    have ho:kdT W[i] (lenI W)=some (decide (ordB W[i] W.length)):=by rw [kaH]; exact ktG W[i] (by omega)
    simp only [lenI_lt.2 hi,if_true,kbt hi,jal,ho,kbo (show i<9223372036854775807 by omega)]
    cases decide (ordB W[i] W.length) <;> rfl) (by unfold kfc; rw [if_neg kck])]
   rw [krk (fun l=>!decide (ordB l W.length)) W 0,kyG]
   by_cases hw:wishB W
   ·have:(W.all fun l=>decide (ordB l W.length))=true:=jam.2 fun l hl=>decide_eq_true (hw.2.2 l hl)
    simp [this,hw]
   ·have:(W.all fun l=>decide (ordB l W.length))=false:=by
     rw [Bool.eq_false_iff]; intro he
     exact hw ⟨by omega,by omega,fun l hl=>of_decide_eq_true (jam.1 he l hl)⟩
    simp [this,hw]
end Go.Abs
namespace Go.Abs.Td
open Go Go.Abs
theorem kqx:∀ {l l':List Nat},l.Nodup->(∀ x∈l,x∈l')->l.length<=l'.length
 | [],l',_,_=>jeb _
 | a::l,l',hn,hs=>by
  rw [jcy] at hn
  have ha:a∈l':=hs a (jdd ..)
  have:=kqx (l:=l) (l':=l'.erase a) hn.2 fun x hx=>(List.mem_erase_of_ne (by rintro rfl; exact hn.1 hx)).2 (hs x (jbb _ hx))
  rw [List.length_erase_of_mem ha] at this
  have:0<l'.length:=List.length_pos_of_mem ha
  simp only [jdf]
  omega
def it (o:Nat->Nat):Nat->Nat->Nat
 | 0,i=>i
 | t+1,i=>o (it o t i)
theorem it_lt {o:Nat->Nat} {n:Nat} (h:∀ i,i<n->o i<n):∀ t i,i<n->it o t i<n
 | 0,i,hi=>hi
 | t+1,i,hi=>h _ (it_lt h t i hi)
theorem kgz (o:Nat->Nat):∀ s t i,it o (s+t) i=it o s (it o t i)
 | 0,t,i=>by rw [jcb]; rfl
 | s+1,t,i=>by rw [show s+1+t=(s+t)+1 by omega]; simp only [it]; rw [kgz o s t i]
theorem kws {o:Nat->Nat} {n:Nat} (h:∀ i,i<n->o i<n) (hj:∀ i j,i<n->j<n->o i=o j->i=j):∀ t i j,i<n->j<n->it o t i=it o t j->i=j
 | 0,i,j,_,_,e=>e
 | t+1,i,j,hi,hj',e=>kws h hj t i j hi hj' (hj _ _ (it_lt h t i hi) (it_lt h t j hj') e)
theorem back {o:Nat->Nat} {n:Nat} (h:∀ i,i<n->o i<n) (hj:∀ i j,i<n->j<n->o i=o j->i=j) {i:Nat} (hi:i<n):∃ t,it o (t+1) i=i:=by
 have:∃ p q,p<q/\q<=n/\it o p i=it o q i:=by
  refine Classical.byContradiction fun hc=>?_
  have hn:((List.range (n+1)).map fun t=>it o t i).Nodup:=by
   rw [jcm,List.pairwise_map,List.pairwise_iff_getElem]
   intro a b ha hb hab e
   simp only [List.getElem_range,List.length_range] at e ha hb
   exact hc ⟨a,b,hab,by omega,e⟩
  have:=kqx (l':=List.range n) hn fun x hx=>by
   obtain ⟨t,_,rfl⟩:=jav.1 hx
   exact jcd.2 (it_lt h t i hi)
  simp at this
  omega
 obtain ⟨p,q,hpq,_,e⟩:=this
 refine ⟨q-p-1,?_⟩
 have e2:it o q i=it o p (it o (q-p) i):=by rw [<-kgz]; congr 1; omega
 rw [e2] at e
 have:=kws h hj p i (it o (q-p) i) hi (it_lt h _ i hi) e
 rw [show q-p-1+1=q-p by omega]
 exact this.symm
structure Rds (n:Nat) (P:Nat->Nat->Nat->Prop) (o r:Nat->Nat):Prop where
 lt:∀ i,i<n->o i<n
 inj:∀ i j,i<n->j<n->o i=o j->i=j
 b:∀ i,i<n->∀ j,j<n->P i j (o i)->r j<r i
 c:∀ i,i<n->r (o i)=r i
variable {n:Nat} {P:Nat->Nat->Nat->Prop} {o r o' r':Nat->Nat}
theorem Rds.same (h:Rds n P o r) (h':Rds n P o' r') (tot:∀ i,i<n->∀ a b,a<n->b<n->a=b\/P i a b\/P i b a):∀ i,i<n->o i=o' i:=by
 have main:∀ ρ,(∀ k,k<n->r k < ρ->o k=o' k)->∀ i,i<n->r i = ρ->o i=o' i:=by
  intro ρ ih i hi hρ
  refine Classical.byContradiction fun hne=>?_
  have weak:∀ k,k<n->r k = ρ->¬ P k (o' k) (o k):=fun k hk hr hp=>by
   have h1:=h.b k hk (o' k) (h'.lt k hk) hp
   obtain ⟨t,ht⟩:=back h.lt h.inj (h'.lt k hk)
   have hm:it o t (o' k)<n:=it_lt h.lt t _ (h'.lt k hk)
   have hrt:∀ t,r (it o t (o' k))=r (o' k):=by
    intro t
    induction t with
    | zero=>rfl
    | succ t iht=>simp only [it]; rw [h.c _ (it_lt h.lt t _ (h'.lt k hk)),iht]
   have e1:o (it o t (o' k))=o' k:=ht
   have e2:=ih _ hm (by rw [hrt t]; omega)
   rw [e1] at e2
   have:=h'.inj k (it o t (o' k)) hk hm e2
   have h3:=hrt t
   rw [<-this] at h3
   omega
  have step:∀ k,k<n->r k = ρ->r' (o k)<=r' k:=fun k hk hr=>by
   by_cases e:o k=o' k
   ·rw [e,h'.c k hk]; exact jah _
   ·rcases tot k hk (o k) (o' k) (h.lt k hk) (h'.lt k hk) with e2 | e2 | e2
    ·exact absurd e2 e
    ·exact Nat.le_of_lt (h'.b k hk (o k) (h.lt k hk) e2)
    ·exact absurd e2 (weak k hk hr)
  have strict:r' (o i)<r' i:=by
   rcases tot i hi (o i) (o' i) (h.lt i hi) (h'.lt i hi) with e2 | e2 | e2
   ·exact absurd e2 hne
   ·exact h'.b i hi (o i) (h.lt i hi) e2
   ·exact absurd e2 (weak i hi hρ)
  obtain ⟨t,ht⟩:=back h.lt h.inj hi
  have hrt:∀ t,r (it o t i) = ρ:=by
   intro t
   induction t with
   | zero=>exact hρ
   | succ t iht=>simp only [it]; rw [h.c _ (it_lt h.lt t i hi),iht]
  have dec:∀ t,r' (it o (t+1) i)<=r' (o i):=by
   intro t
   induction t with
   | zero=>exact jah _
   | succ t iht=>exact jda (step _ (it_lt h.lt (t+1) i hi) (hrt (t+1))) iht
  have:=dec t
  rw [ht] at this
  omega
 have all:∀ ρ,∀ k,k<n->r k < ρ->o k=o' k:=by
  intro ρ
  induction ρ with
  | zero=>intro k _ h; omega
  | succ ρ ih=>
   intro k hk hr
   by_cases e:r k = ρ
   ·exact main ρ ih k hk e
   ·exact ih k hk (by omega)
 exact fun i hi=>all (r i+1) i hi (by omega)
theorem circ {f:Nat->Nat} {n:Nat} (h:∀ i,i<n->f i<n) {i:Nat} (hi:i<n):∃ d,1<=d/\d<=n/\it f d (it f n i)=it f n i:=by
 have:∃ p q,p<q/\q<=n/\it f p i=it f q i:=by
  refine Classical.byContradiction fun hc=>?_
  have hn:((List.range (n+1)).map fun t=>it f t i).Nodup:=by
   rw [jcm,List.pairwise_map,List.pairwise_iff_getElem]
   intro a b ha hb hab e
   simp only [List.getElem_range,List.length_range] at e ha hb
   exact hc ⟨a,b,hab,by omega,e⟩
  have:=kqx (l':=List.range n) hn fun x hx=>by
   obtain ⟨t,_,rfl⟩:=jav.1 hx
   exact jcd.2 (it_lt h t i hi)
  simp at this
  omega
 obtain ⟨p,q,hpq,hq,e⟩:=this
 refine ⟨q-p,by omega,by omega,?_⟩
 have e1:it f n i=it f (n-p) (it f p i):=by rw [<-kgz]; congr 1; omega
 have e2:it f (q-p) (it f n i)=it f (n-p) (it f q i):=by rw [<-kgz,<-kgz]; congr 1; omega
 rw [e2,<-e,<-e1]
def On (f:Nat->Nat) (n k:Nat):Prop:=∃ d,1<=d/\d<=n/\it f d k=k
theorem kyz (f:Nat->Nat) (t i:Nat):it f t (f i)=f (it f t i):=by
 have a:=kgz f t 1 i
 simp only [it] at a
 exact a.symm
theorem On.next {f:Nat->Nat} {n k:Nat} (h:On f n k):On f n (f k):=by
 obtain ⟨d,h1,h2,h3⟩:=h
 exact ⟨d,h1,h2,by rw [kyz,h3]⟩
theorem per {f:Nat->Nat} {d k:Nat} (h:it f d k=k):∀ m,it f (m*d) k=k
 | 0=>by rw [Nat.zero_mul]; rfl
 | m+1=>by rw [Nat.succ_mul,kgz,h,per h m]
theorem On.inj {f:Nat->Nat} {n k k':Nat} (h:On f n k) (h':On f n k') (e:f k=f k'):k=k':=by
 obtain ⟨d,h1,_,h3⟩:=h
 obtain ⟨d',h1',_,h3'⟩:=h'
 have a:it f (d'*d) k=k:=per h3 d'
 have b:it f (d*d') k'=k':=per h3' d
 have hd:d'*d=(d'*d-1)+1:=by
  have:0<d'*d:=Nat.mul_pos (by omega) (by omega)
  omega
 have c:∀ x,it f (d'*d) x=it f (d'*d-1) (f x):=fun x=>by
  rw [hd,show d'*d-1+1-1=d'*d-1 by omega,kgz]; rfl
 rw [Nat.mul_comm d d'] at b
 rw [<-a,<-b,c k,c k',e]
structure PS (n:Nat) (P:Nat->Nat->Nat->Prop) (g:Nat->Int) (r:Nat->Nat) (R:Nat):Prop where
 v:∀ k,k<n->0<=g k->g k<n/\0<=g (g k).toNat/\r (g k).toNat=r k/\r k<R
 inj:∀ i j,i<n->j<n->0<=g i->g i=g j->i=j
 b:∀ i,i<n->0<=g i->∀ j,j<n->P i j (g i).toNat->0<=g j/\r j<r i
variable {n:Nat} {P:Nat->Nat->Nat->Prop} {g g':Nat->Int} {r:Nat->Nat} {R:Nat}
theorem PS.none (h:∀ k,k<n->g k<0):PS n P g r R:=⟨fun k hk h0=>by have:=h k hk; omega,fun i j hi _ h0=>by have:=h i hi; omega,fun i hi h0=>by have:=h i hi; omega⟩
theorem PS.rds (h:PS n P g r R) (all:∀ k,k<n->0<=g k):Rds n P (fun k=>(g k).toNat) r:=
 ⟨fun i hi=>by have:=(h.v i hi (all i hi)).1; have:=all i hi; show (g i).toNat<n; omega,fun i j hi hj e=>h.inj i j hi hj (all i hi) (by have:=all i hi; have:=all j hj; have e':(g i).toNat=(g j).toNat:=e; omega),fun i hi j hj hp=>(h.b i hi (all i hi) j hj hp).2,fun i hi=>(h.v i hi (all i hi)).2.2.1⟩
theorem PS.step (h:PS n P g r R) (f:Nat->Nat) (C:Nat->Prop) (hC:∀ k,C k->k<n/\g k<0/\C (f k)) (hf:∀ i j,C i->C j->f i=f j->i=j)
  (hb:∀ k,C k->∀ j,j<n->P k j (f k)->0<=g j) (g1:∀ k,C k->g' k=f k) (g2:∀ k,k<n->¬ C k->g' k=g k):∃ r',PS n P g' r' (R+1):=by
 classical
 have old:∀ k,k<n->0<=g k->¬ C k:=fun k _ h0 hc=>by have:=(hC k hc).2.1; omega
 refine ⟨fun k=>if C k then R else r k,⟨fun k hk h0=>?_,fun i j hi hj h0 e=>?_,fun i hi h0 j hj hp=>?_⟩⟩
 ·by_cases c:C k
  ·have c':=(hC k c).2.2
   rw [g1 k c]
   simp only [jbj]
   refine ⟨by have:=(hC _ c').1; omega,by rw [g1 _ c']; omega,by rw [if_pos c',if_pos c],by rw [if_pos c]; omega⟩
  ·rw [g2 k hk c] at h0 ⊢
   obtain ⟨a,b,d,e⟩:=h.v k hk h0
   have hlt:(g k).toNat<n:=by omega
   have hn:=old _ hlt b
   exact ⟨a,by rw [g2 _ hlt hn]; exact b,by rw [if_neg hn,if_neg c]; exact d,by rw [if_neg c]; omega⟩
 ·by_cases ci:C i
  ·by_cases cj:C j
   ·rw [g1 i ci,g1 j cj] at e
    exact hf i j ci cj (by omega)
   ·rw [g1 i ci,g2 j hj cj] at e
    have a:=(h.v j hj (by omega)).2.1
    rw [<-e,jbj] at a
    have:=(hC _ (hC i ci).2.2).2.1
    omega
  ·rw [g2 i hi ci] at h0 e
   by_cases cj:C j
   ·rw [g1 j cj] at e
    have a:=(h.v i hi h0).2.1
    rw [e,jbj] at a
    have:=(hC _ (hC j cj).2.2).2.1
    omega
   ·rw [g2 j hj cj] at e
    exact h.inj i j hi hj h0 e
 ·by_cases ci:C i
  ·rw [g1 i ci,jbj] at hp
   have a:=hb i ci j hj hp
   have nj:=old j hj a
   rw [g2 j hj nj,if_neg nj,if_pos ci]
   exact ⟨a,(h.v j hj a).2.2.2⟩
  ·rw [g2 i hi ci] at h0 hp
   obtain ⟨a,b⟩:=h.b i hi h0 j hj hp
   have nj:=old j hj a
   rw [g2 j hj nj,if_neg nj,if_neg ci]
   exact ⟨a,b⟩
end Go.Abs.Td
namespace Go.Abs
open Go Go.Abs.Fl Go.Abs.Td
def Lik (W:List (List Int)) (k a b:Nat):Prop:=∃ p q:Nat,p<q/\(W.getD k [])[p]?=some (a:Int)/\(W.getD k [])[q]?=some (b:Int)
theorem krf {α:Type} {l:List α} {k:Nat} {d:α} (h:k<l.length):l.getD k d=l[k]:=by rw [jas,jae h]; rfl
theorem kjC {W:List (List Int)} (h:wishB W) {k:Nat} (hk:k<W.length):ordB (W.getD k []) W.length:=by
 rw [krf hk]; exact h.2.2 _ (jdg hk)
theorem kva {l:List Int} {n:Nat} (h:ordB l n) {a:Nat} (ha:a<n):(a:Int)∈l:=by
 refine Classical.byContradiction fun hc=>?_
 have hm:(l.map Int.toNat).Nodup:=by
  rw [jcm,List.pairwise_map]
  refine List.Pairwise.imp_of_mem ?_ (jcm.1 h.2.2)
  intro x y hx hy hne e
  have:=h.2.1 x hx
  have:=h.2.1 y hy
  omega
 have:=kqx (l:=l.map Int.toNat) (l':=(List.range n).erase a) hm fun x hx=>by
  obtain ⟨y,hy,rfl⟩:=jav.1 hx
  have:=h.2.1 y hy
  refine (List.mem_erase_of_ne ?_).2 (jcd.2 (by omega))
  intro e
  refine hc ?_
  have:(a:Int)=y:=by omega
  rw [this]; exact hy
 rw [List.length_erase_of_mem (jcd.2 ha)] at this
 simp [h.1] at this
 omega
structure Best (W:List (List Int)) (g:Nat->Int) (k a:Nat):Prop where
 lt:a<W.length
 free:g a<0
 b:∀ j,j<W.length->Lik W k j a->0<=g j
theorem kvO {W:List (List Int)} (h:wishB W) {g:Nat->Int} {k:Nat} (hk:k<W.length) {p:Nat} (hp:p<(W.getD k []).length) (hf:g (W.getD k [])[p].toNat<0) (hb:∀ p' (h':p'<(W.getD k []).length),p'<p->0<=g (W.getD k [])[p'].toNat):Best W g k (W.getD k [])[p].toNat:=by
 have o:=kjC h hk
 have hx:=o.2.1 _ (jdg hp)
 refine ⟨by omega,hf,fun j hj hl=>?_⟩
 obtain ⟨p',q,hpq,e1,e2⟩:=hl
 obtain ⟨h1,h1'⟩:=jad.1 e1
 obtain ⟨h2,h2'⟩:=jad.1 e2
 have:q=p:=by
  have hq:(W.getD k [])[q]=(W.getD k [])[p]:=by rw [h2']; omega
  exact (List.getElem_inj o.2.2).1 hq
 subst this
 have:=hb p' h1 hpq
 rw [h1',jbj] at this
 exact this
theorem kwV {W:List (List Int)} (h:wishB W) {O:List Int} (hO:O.length=W.length) {k:Nat} (hk:k<W.length) (hx:∃ a,a<W.length/\la O a<0):∃ a:Nat,kaW (k:Int) W O=some (a:Int)/\Best W (la O) k a:=by
 have o:=kjC h hk
 have h8:=h.2.1
 generalize hl:W.getD k []=l at o
 have hlen:=o.1
 obtain ⟨z,hz,p,hp,rfl,hf,hb⟩:=Fl.iter_inv (F:=kbd l (fun u0:Int=>((kdu u0 O).bind fun u1=>(some u1))))
  (fun x=>∃ i:Nat,i<=l.length/\x=(i:Int)/\∀ p' (h':p'<l.length),p'<i->0<=la O l[p'].toNat) (fun x=>l.length-x.toNat)
  (fun z=>∃ (p:Nat) (hp:p<l.length),z = .inl (p:Int)/\la O l[p].toNat<0/\∀ p' (h':p'<l.length),p'<p->0<=la O l[p'].toNat)
  (fun x hx'=>by
   obtain ⟨i,hi,rfl,hb⟩:=hx'
   by_cases hlt:i<l.length
   ·have hw:=o.2.1 _ (jdg hlt)
    have hg:gi O l[i]=some (la O l[i].toNat):=by
     have e:l[i]=((l[i].toNat:Nat):Int):=by omega
     conv=>lhs; rw [e]
     exact gi_D 0 (by omega)
    by_cases hn:la O l[i].toNat<0
    ·refine .inl ⟨.inl (i:Int),?_,i,hlt,rfl,hn,hb⟩
     unfold kbd
     simp only [lenI_lt.2 hlt,if_true,kbt hlt,jal,kdu,hg,decide_eq_true hn]
    ·refine .inr ⟨((i+1:Nat):Int),?_,⟨i+1,by omega,rfl,fun p' h' hp'=>?_⟩,by simp only [jbj]; omega⟩
     ·unfold kbd
      simp only [lenI_lt.2 hlt,if_true,kbt hlt,jal,kdu,hg,decide_eq_false hn,jai,if_false,kbo (show i<9223372036854775807 by omega)]
     ·by_cases e:p'=i
      ·subst e; omega
      ·exact hb p' h' (by omega)
   ·exfalso
    obtain ⟨a,ha,hn⟩:=hx
    obtain ⟨p,hp,e⟩:=jcs.1 (kva o ha)
    have:=hb p hp (by omega)
    rw [e,jbj] at this
    omega)
  0 ⟨0,by omega,rfl,fun p' _ h=>by omega⟩ (by have:=o.1; simp; omega)
 have hw:=o.2.1 _ (jdg hp)
 refine ⟨l[p].toNat,?_,?_⟩
 ·unfold kaW kbA
  have gW:gi W (k:Int)=some l:=by rw [<-hl]; exact gi_D [] hk
  simp only [gW,jal,hz,kbt hp]
  congr 1; omega
 ·subst hl
  exact kvO h hk hp hf hb
section
variable {W:List (List Int)} {O:List Int} {f:Nat->Nat}
theorem kzm (hW:W.length<=8) (hf:∀ k,k<W.length->kaW (k:Int) W O=some (f k:Int)) (hlt:∀ k,k<W.length->f k<W.length) {i:Nat} (hi:i<W.length):iter (kfG W O) (0,(i:Int))=some (it f W.length i:Int):=by
 obtain ⟨z,hz,rfl⟩:=Fl.iter_inv (F:=kfG W O) (fun x=>∃ t:Nat,t<=W.length/\x=((t:Int),(it f t i:Int))) (fun x=>W.length-x.1.toNat) (fun z=>z=(it f W.length i:Int))
  (fun x hx=>by
   obtain ⟨t,ht,rfl⟩:=hx
   by_cases hl:t<W.length
   ·refine .inr ⟨((t+1:Nat),(it f (t+1) i:Int)),?_,⟨t+1,by omega,rfl⟩,by simp only [jbj]; omega⟩
    unfold kfG
    simp only [lenI_lt.2 hl,if_true,hf _ (it_lt hlt t i hi),jal,kbo (show t<9223372036854775807 by omega)]
    rfl
   ·have:t=W.length:=by omega
    subst this
    refine .inl ⟨_,?_,rfl⟩
    unfold kfG
    rw [if_neg kck])
  (0,(i:Int)) ⟨0,by omega,rfl⟩ (by simp only; omega)
 exact hz
def cyc (f:Nat->Nat) (k t:Nat):List Nat:=(List.range t).map fun s=>it f s k
theorem kxF (f:Nat->Nat) (k t:Nat):cyc f k (t+1)=cyc f k t++[it f t k]:=by unfold cyc; rw [List.range_succ,jck]; rfl
theorem kxZ (hW:W.length<=8) (hf:∀ k,k<W.length->kaW (k:Int) W O=some (f k:Int)) (hlt:∀ k,k<W.length->f k<W.length) {k:Nat} (hk:k<W.length) (hc:∃ d,1<=d/\d<=W.length/\it f d k=k) :
  ∃ t,1<=t/\t<=W.length/\it f t k=k/\iter (kfx W O (k:Int)) ((f k:Int),[(k:Int)])=some ((cyc f k t).map fun x:Nat=>(x:Int)):=by
 obtain ⟨d,d1,d2,d3⟩:=hc
 obtain ⟨z,hz,t,t1,t2,t3,rfl⟩:=Fl.iter_inv (F:=kfx W O (k:Int))
  (fun x=>∃ t:Nat,1<=t/\t<=d/\x=((it f t k:Int),(cyc f k t).map fun x:Nat=>(x:Int))/\∀ s,1<=s->s<t->it f s k≠k) (fun x=>d-x.2.length)
  (fun z=>∃ t,1<=t/\t<=W.length/\it f t k=k/\z=(cyc f k t).map fun x:Nat=>(x:Int))
  (fun x hx=>by
   obtain ⟨t,t1,t2,rfl,hs⟩:=hx
   by_cases he:it f t k=k
   ·refine .inl ⟨(cyc f k t).map fun x:Nat=>(x:Int),?_,t,t1,by omega,he,rfl⟩
    unfold kfx
    simp only [he]
    rw [if_neg (by simp)]
   ·have htd:t<d:=by
     by_cases e:t=d
     ·subst e; exact absurd d3 he
     ·omega
    have hl:(cyc f k t).length=t:=by simp [cyc]
    refine .inr ⟨((it f (t+1) k:Int),(cyc f k (t+1)).map fun x:Nat=>(x:Int)),?_,⟨t+1,by omega,by omega,rfl,fun s s1 s2=>?_⟩,by simp only [jar,hl,show (cyc f k (t+1)).length=t+1 by simp [cyc]]; omega⟩
    ·have hne:((it f t k:Int) != (k:Int))=true:=by simp; omega
     have hg:gapp ((cyc f k t).map fun x:Nat=>(x:Int)) [(it f t k:Int)]=some ((cyc f k (t+1)).map fun x:Nat=>(x:Int)):=by
      rw [kmX (by simp [hl]; omega),kxF,jck]; rfl
     unfold kfx
     simp only [hne,if_true,hg,jal,hf _ (it_lt hlt t k hk)]
     rfl
    ·by_cases e:s=t
     ·subst e; exact he
     ·exact hs s s1 (by omega))
  ((f k:Int),[(k:Int)]) ⟨1,by omega,d1,rfl,fun s s1 s2=>by omega⟩ (by simp only; omega)
 exact ⟨t,t1,t2,t3,hz⟩
theorem kyQ (hf:∀ k,k<W.length->kaW (k:Int) W O=some (f k:Int)) {C:List Nat} (hC:∀ x∈C,x<W.length) (hl:C.length<=1000):iter (kfA W O (C.map fun x:Nat=>(x:Int))) (0,[])=some (C.map fun x=>(f x:Int)):=by
 obtain ⟨z,hz,rfl⟩:=Fl.iter_inv (F:=kfA W O (C.map fun x:Nat=>(x:Int))) (fun x=>∃ i:Nat,i<=C.length/\x=((i:Int),(C.take i).map fun x=>(f x:Int))) (fun x=>C.length-x.1.toNat) (fun z=>z=C.map fun x=>(f x:Int))
  (fun x hx=>by
   obtain ⟨i,hi,rfl⟩:=hx
   by_cases hlt:i<C.length
   ·have g:gi (C.map fun x:Nat=>(x:Int)) (i:Int)=some (C[i]:Int):=by rw [kbt (by simpa using hlt)]; simp
    have e:C.take (i+1)=C.take i++[C[i]]:=by rw [List.take_add_one,jae hlt]; rfl
    have hg:gapp ((C.take i).map fun x=>(f x:Int)) [(f C[i]:Int)]=some ((C.take (i+1)).map fun x=>(f x:Int)):=by
     rw [kmX (by simp; omega),e,jck]; rfl
    refine .inr ⟨((i+1:Nat),(C.take (i+1)).map fun x=>(f x:Int)),?_,⟨i+1,by omega,rfl⟩,by simp only [jbj]; omega⟩
    have hll:decide ((i:Int)<lenI (C.map fun x:Nat=>(x:Int)))=true:=lenI_lt.2 (by simpa using hlt)
    unfold kfA
    simp only [hll,if_true,g,jal,hf _ (hC _ (jdg hlt)),hg,kbo (show i<9223372036854775807 by omega)]
   ·have:i=C.length:=by omega
    subst this
    refine .inl ⟨C.map fun x=>(f x:Int),?_,rfl⟩
    rw [List.take_length]
    unfold kfA
    rw [if_neg (by rw [kaH]; simp)])
  (0,[]) ⟨0,by omega,rfl⟩ (by simp only; omega)
 exact hz
theorem kzj {C:List Nat} (hC:∀ x∈C,x<O.length) (hl:C.length<=1000):∃ O',iter (kfK (C.map fun x:Nat=>(x:Int)) (C.map fun x=>(f x:Int))) (0,O)=some O'/\O'.length=O.length/\(∀ x,x∈C->la O' x=f x)/\∀ x,x∉C->la O' x=la O x:=by
 obtain ⟨z,hz,a,b,c⟩:=Fl.iter_inv (F:=kfK (C.map fun x:Nat=>(x:Int)) (C.map fun x=>(f x:Int)))
  (fun x=>∃ (i:Nat) (O':List Int),i<=C.length/\x=((i:Int),O')/\O'.length=O.length/\(∀ x,x∈C.take i->la O' x=f x)/\∀ x,x∉C.take i->la O' x=la O x) (fun x=>C.length-x.1.toNat)
  (fun O'=>O'.length=O.length/\(∀ x,x∈C->la O' x=f x)/\∀ x,x∉C->la O' x=la O x)
  (fun x hx=>by
   obtain ⟨i,O',hi,rfl,a,b,c⟩:=hx
   by_cases hlt:i<C.length
   ·have g:gi (C.map fun x:Nat=>(x:Int)) (i:Int)=some (C[i]:Int):=by rw [kbt (by simpa using hlt)]; simp
    have g2:gi (C.map fun x=>(f x:Int)) (i:Int)=some (f C[i]:Int):=by rw [kbt (by simpa using hlt)]; simp
    have hx:=hC _ (jdg hlt)
    have g3:gi O' (C[i]:Int)=some (la O' C[i]):=gi_D 0 (by omega)
    have e:C.take (i+1)=C.take i++[C[i]]:=by rw [List.take_add_one,jae hlt]; rfl
    have hll:decide ((i:Int)<lenI (C.map fun x:Nat=>(x:Int)))=true:=lenI_lt.2 (by simpa using hlt)
    refine .inr ⟨((i+1:Nat),O'.set C[i] (f C[i])),?_,⟨i+1,_,by omega,rfl,by simp [a],fun x hx'=>?_,fun x hx'=>?_⟩,by simp only [jbj]; omega⟩
    ·unfold kfK
     simp only [hll,if_true,g,g2,g3,jal,kbo (show i<9223372036854775807 by omega)]
     rfl
    ·rw [kqt (by omega)]
     rw [e,jax,jdi] at hx'
     by_cases q:x=C[i]
     ·rw [if_pos q,q]
     ·rw [if_neg q]; exact b x (hx'.resolve_right q)
    ·rw [e,jax,jdi,not_or] at hx'
     rw [kqt (by omega),if_neg hx'.2]
     exact c x hx'.1
   ·have:i=C.length:=by omega
    subst this
    rw [List.take_length] at b c
    refine .inl ⟨O',?_,a,b,c⟩
    unfold kfK
    rw [if_neg (by rw [kaH]; simp)])
  (0,O) ⟨0,O,by omega,rfl,rfl,fun x h=>by simp at h,fun x _=>rfl⟩ (by simp only; omega)
 exact ⟨z,hz,a,b,c⟩
end
def fre (g:Nat->Int) (n:Nat):Int:=sumN (fun k=>if g k<0 then 1 else 0) n
theorem kyf {W:List (List Int)} (h:wishB W) {O:List Int} (hO:O.length=W.length) {r:Nat->Nat} {R:Nat} (hp:PS W.length (Lik W) (la O) r R) {i:Nat} (hi:i<W.length) (hn:la O i<0) (v2:kai) (h2:v2.1=i) :
  ∃ O' r',keh W v2 O=some (.inl O')/\O'.length=W.length/\PS W.length (Lik W) (la O') r' (R+1)/\fre (la O') W.length<fre (la O) W.length/\∀ x,0<=la O x->0<=la O' x:=by
 classical
 have h8:=h.2.1
 obtain ⟨f,hf⟩:∃ f:Nat->Nat,∀ k,k<W.length->kaW (k:Int) W O=some (f k:Int)/\Best W (la O) k (f k):=
  ⟨fun k=>if hk:k<W.length then Classical.choose (kwV h hO hk ⟨i,hi,hn⟩) else 0,fun k hk=>by
   simp only [dif_pos hk]
   exact Classical.choose_spec (kwV h hO hk ⟨i,hi,hn⟩)⟩
 have hf1:∀ k,k<W.length->kaW (k:Int) W O=some (f k:Int):=fun k hk=>(hf k hk).1
 have hlt:∀ k,k<W.length->f k<W.length:=fun k hk=>(hf k hk).2.lt
 have hfr:∀ k,k<W.length->la O (f k)<0:=fun k hk=>(hf k hk).2.free
 have w1:=kzm (O:=O) h8 hf1 hlt hi
 generalize hkk:it f W.length i=k at w1
 have hk:k<W.length:=by rw [<-hkk]; exact it_lt hlt _ _ hi
 have hkf:la O k<0:=by
  rw [<-hkk,show W.length=(W.length-1)+1 by have:=h.1; omega]
  exact hfr _ (it_lt hlt _ _ hi)
 obtain ⟨d,d1,d2,d3⟩:=circ hlt hi
 rw [hkk] at d3
 obtain ⟨t,t1,t2,t3,w2⟩:=kxZ (O:=O) h8 hf1 hlt hk ⟨d,d1,d2,d3⟩
 have hC:∀ x∈cyc f k t,x<W.length/\la O x<0/\f x∈cyc f k t/\Td.On f W.length x:=fun x hx=>by
  obtain ⟨s,hs,rfl⟩:=jav.1 hx
  have hs:=jcd.1 hs
  refine ⟨it_lt hlt _ _ hk,?_,?_,t,t1,t2,?_⟩
  ·cases s with
   | zero=>exact hkf
   | succ s=>exact hfr _ (it_lt hlt _ _ hk)
  ·by_cases e:s+1=t
   ·have:f (it f s k)=k:=by rw [show f (it f s k)=it f (s+1) k from rfl,e,t3]
    rw [this]
    exact jav.2 ⟨0,jcd.2 (by omega),rfl⟩
   ·exact jav.2 ⟨s+1,jcd.2 (by omega),rfl⟩
  ·rw [<-kgz,Nat.add_comm,kgz,t3]
 have hkC:k∈cyc f k t:=jav.2 ⟨0,jcd.2 (by omega),rfl⟩
 have hlC:(cyc f k t).length<=1000:=by simp [cyc]; omega
 have w3:=kyQ (O:=O) hf1 (C:=cyc f k t) (fun x hx=>(hC x hx).1) hlC
 obtain ⟨O',w4,o1,o2,o3⟩:=kzj (O:=O) (f:=f) (C:=cyc f k t) (fun x hx=>by rw [hO]; exact (hC x hx).1) hlC
 obtain ⟨r',hp'⟩:=hp.step (g':=la O') f (fun x=>x∈cyc f k t) (fun x hx=>⟨(hC x hx).1,(hC x hx).2.1,(hC x hx).2.2.1⟩) (fun a b ha hb e=>(hC a ha).2.2.2.inj (hC b hb).2.2.2 e) (fun x hx j hj hl=>(hf x (hC x hx).1).2.b j hj hl) (fun x hx=>o2 x hx) (fun x _ hx=>o3 x hx)
 refine ⟨O',r',?_,by omega,hp',?_,fun x h0=>by
  by_cases c:x∈cyc f k t
  ·rw [o2 x c]; omega
  ·rw [o3 x c]; exact h0⟩
 ·have g:gi O (i:Int)=some (la O i):=gi_D 0 (by omega)
  unfold keh
  simp only [h2,g,jal,decide_eq_true hn,if_true,w1,hf1 k hk,w2,w3,w4]
 ·unfold fre
  have hge:∀ x,x<W.length->0<=(if la O x<0 then (1:Int) else 0)-(if la O' x<0 then 1 else 0):=fun x hx=>by
   by_cases c:x∈cyc f k t
   ·rw [o2 x c,if_pos (hC x c).2.1,if_neg (by omega)]; decide
   ·rw [o3 x c]; omega
  have h1:=kph hge hk
  rw [o2 k hkC,if_pos hkf,if_neg (by omega),ktO] at h1
  omega
theorem kxG:∀ n:Nat,1<=n->n<=8->kcx [-1] (n:Int)=some (List.replicate n (-1))
 | 0,h,_=>by omega
 | 1,_,_=>by rfl
 | 2,_,_=>by rfl
 | 3,_,_=>by rfl
 | 4,_,_=>by rfl
 | 5,_,_=>by rfl
 | 6,_,_=>by rfl
 | 7,_,_=>by rfl
 | 8,_,_=>by rfl
 | n+9,_,h=>by omega
theorem kyP (g:Nat->Int) (n:Nat):0<=fre g n:=kof fun k _=>by
 show 0<=(if g k<0 then (1:Int) else 0)
 split <;> decide
theorem kwy (g:Nat->Int):∀ n:Nat,fre g n<=n
 | 0=>by simp [fre,sumN]
 | n+1=>by
  have:=kwy g n
  unfold fre at this ⊢
  simp only [sumN]
  split <;> omega
def Tr (W:List (List Int)) (O:List Int):Prop:=O.length=W.length/\∃ r R,PS W.length (Lik W) (la O) r R
theorem one_p {W:List (List Int)} (h:wishB W) {O:List Int} (hO:Tr W O) {i:Nat} (hi:i<W.length) (v2:kai) (h2:v2.1=i):∃ O',iter (keh W v2) O=some O'/\Tr W O'/\0<=la O' i/\∀ x,0<=la O x->0<=la O' x:=by
 have h8:=h.2.1
 obtain ⟨z,hz,a,b,c⟩:=Fl.iter_inv (F:=keh W v2) (fun O'=>Tr W O'/\∀ x,0<=la O x->0<=la O' x) (fun O'=>(fre (la O') W.length).toNat) (fun O'=>Tr W O'/\0<=la O' i/\∀ x,0<=la O x->0<=la O' x)
  (fun O1 hx=>by
   obtain ⟨⟨l,r,R,hp⟩,hm⟩:=hx
   by_cases hn:la O1 i<0
   ·obtain ⟨O',r',e1,e2,e3,e4,e5⟩:=kyf h l hp hi hn v2 h2
    exact .inr ⟨O',e1,⟨⟨e2,r',R+1,e3⟩,fun x hx=>e5 x (hm x hx)⟩,by have:=kyP (la O') W.length; omega⟩
   ·refine .inl ⟨O1,?_,⟨l,r,R,hp⟩,by omega,hm⟩
    have g:gi O1 (i:Int)=some (la O1 i):=gi_D 0 (by omega)
    unfold keh
    simp only [h2,g,jal,decide_eq_false hn,jai,if_false])
  O ⟨hO,fun _ h=>h⟩ (by have:=kwy (la O) W.length; omega)
 exact ⟨z,hz,a,b,c⟩
theorem kyE {W:List (List Int)} (h:wishB W) (hW:∀ l∈W,l.length<=12):∃ O r,kfB W=some (O,0)/\O.length=W.length/\(∀ k,k<W.length->0<=la O k)/\Rds W.length (Lik W) (fun k=>(la O k).toNat) r:=by
 classical
 have h8:=h.2.1
 have hr:∀ k,k<W.length->la (List.replicate W.length (-1)) k = -1:=fun k hk=>by
  unfold la
  rw [jas,jco,if_pos hk]; rfl
 obtain ⟨z,hz,⟨a,r,R,hp⟩,b⟩:=Fl.iter_inv (F:=khv W) (fun x=>∃ (i:Nat) (O:List Int),i<=W.length/\x=((i:Int),O)/\Tr W O/\∀ k,k<i->0<=la O k) (fun x=>W.length-x.1.toNat) (fun O=>Tr W O/\∀ k,k<W.length->0<=la O k)
  (fun x hx=>by
   obtain ⟨i,O,hi,rfl,hO,hk⟩:=hx
   by_cases hlt:i<W.length
   ·obtain ⟨O',e1,e2,e3,e4⟩:=one_p h hO hlt ((i:Int),O) rfl
    refine .inr ⟨((i+1:Nat),O'),?_,⟨i+1,O',by omega,rfl,e2,fun k hk'=>?_⟩,by simp only [jbj]; omega⟩
    ·unfold khv
     simp only [lenI_lt.2 hlt,if_true,e1,jal,kbo (show i<9223372036854775807 by omega)]
    ·by_cases e:k=i
     ·subst e; exact e3
     ·exact e4 k (hk k (by omega))
   ·have:i=W.length:=by omega
    subst this
    refine .inl ⟨O,?_,hO,hk⟩
    unfold khv
    rw [if_neg kck])
  (0,List.replicate W.length (-1)) ⟨0,_,by omega,rfl,⟨by simp,fun _=>0,0,PS.none fun k hk=>by rw [hr k hk]; decide⟩,fun k h=>by omega⟩ (by simp only; omega)
 refine ⟨z,r,?_,a,b,hp.rds b⟩
 unfold kfB
 rw [klQ hW,decide_eq_true h,kaH,kxG W.length h.1 h8]
 simp only [jal,jdy,jai,if_false,hz]
def bt (x:Int) (v:Nat):Bool:=x.toNat.testBit v
def clr (x:Int) (v:Nat):Int:=bitsI .andNot .u8 x (2 ^ v)
theorem bits8:∀ x<256,∀ v<8,
  bitsI .and .u8 (Int.fdiv ((x:Nat):Int) (2 ^ v)) 1=(if x.testBit v then 1 else 0)/\Int.tmod (Int.fdiv ((x:Nat):Int) (2 ^ v)) 2=(if x.testBit v then 1 else 0)/\0<=clr x v/\clr x v<256:=by decide +kernel
theorem shr8 {x:Int} (h0:0<=x) (h1:x<256) {v:Nat} (hv:v<8):∃ y,gshr .u8 x (v:Int)=some y/\bitsI .and .u8 y 1=(if bt x v then 1 else 0)/\grem y 2=some (if bt x v then 1 else 0):=by
 obtain ⟨n,rfl⟩:=Int.eq_ofNat_of_zero_le h0
 obtain ⟨a,b,_,_⟩:=bits8 n (by omega) v hv
 refine ⟨Int.fdiv (n:Int) (2 ^ v),?_,a,?_⟩
 ·unfold gshr
  rw [if_pos (by omega),jbj,Nat.min_eq_left (show v<=IntKind.u8.bits by rw [show IntKind.u8.bits=8 from rfl]; omega)]
 ·unfold grem
  rw [if_neg (by decide),b]
  rfl
theorem shl8:∀ v<8,gshl .u8 1 ((v:Nat):Int)=some (2 ^ v):=by decide +kernel
theorem clr8 {x:Int} (h0:0<=x) (h1:x<256) {v:Nat} (hv:v<8):0<=clr x v/\clr x v<256:=by
 obtain ⟨n,rfl⟩:=Int.eq_ofNat_of_zero_le h0
 obtain ⟨_,_,a,b⟩:=bits8 n (by omega) v hv
 exact ⟨a,b⟩
def plc (W:List (List Int)) (i a:Nat):Nat:=(W.getD i []).idxOf (a:Int)
def dl (W:List (List Int)) (T:List Int) (g:Int):Nat->Nat->Int->Bool->Bool
 | 0,_,_,b=>b
 | m+1,i,f,b=>
  if bt g i=false then dl W T g m (i+1) f b
  else (List.range W.length).any fun a=>bt f a&&(decide (plc W i a<=plc W i (la T i).toNat)&&dl W T g m (i+1) (clr f a) (b||decide (plc W i a<plc W i (la T i).toNat)))
theorem kwu {W:List (List Int)} (h:wishB W) {i a:Nat} (hi:i<W.length) (ha:a<W.length):plc W i a<(W.getD i []).length:=List.idxOf_lt_length_of_mem (kva (kjC h hi) ha)
theorem kjQ {W:List (List Int)} (h:wishB W) {i a:Nat} (hi:i<W.length) (ha:a<W.length):(W.getD i [])[plc W i a]?=some (a:Int):=by
 have:=kwu h hi ha
 rw [jae this]
 exact congrArg some (List.getElem_idxOf this)
theorem kyX {W:List (List Int)} (h:wishB W) {i q v:Nat} (hi:i<W.length) (e:(W.getD i [])[q]?=some (v:Int)):plc W i v=q:=by
 obtain ⟨hq,e'⟩:=jad.1 e
 unfold plc
 rw [<-e']
 exact List.Nodup.idxOf_getElem (kjC h hi).2.2 q hq
theorem kun {T:List Int} {n:Nat} (h:ordB T n) {i:Nat} (hi:i<n):∃ t:Nat,t<n/\la T i=(t:Int)/\gi T (i:Int)=some (t:Int):=by
 have:=h.2.1 _ (ktY (by rw [h.1]; exact hi))
 refine ⟨(la T i).toNat,by omega,by omega,?_⟩
 rw [show (((la T i).toNat:Nat):Int)=la T i by omega]
 exact gi_D 0 (by rw [h.1]; exact hi)
theorem kxQ {W:List (List Int)} (h:wishB W) {T:List Int} (hT:ordB T W.length) {g:Int} (g0:0<=g) (g1:g<256):∀ (m K i:Nat) (f:Int) (b:Bool),0<=f->f<256->i+m=W.length->m<K->
  kaF K (i:Int) f b (W.length:Int) g W T=some (dl W T g m i f b,(W.length:Int),g,W,T):=by
 intro m
 induction m with
 | zero=>
  intro K i f b f0 f1 hi hK
  obtain ⟨K,rfl⟩:∃ k,K=k+1:=⟨K-1,by omega⟩
  unfold kaF kfw
  rw [if_pos (by rw [show i=W.length by omega]; simp)]
  rfl
 | succ m ih=>
  intro K i f b f0 f1 hi hK
  obtain ⟨K,rfl⟩:∃ k,K=k+1:=⟨K-1,by omega⟩
  have h8:=h.2.1
  have hil:i<W.length:=by omega
  obtain ⟨y,y1,y2,_⟩:=shr8 g0 g1 (v:=i) (by omega)
  obtain ⟨t,t0,t1,t2⟩:=kun hT hil
  have gW:gi W (i:Int)=some (W.getD i []):=gi_D [] hil
  have ol:=kjC h hil
  have hw:w64 ((i:Int)+1)=((i+1:Nat):Int):=kbo (by omega)
  have hp:=kwu h hil t0
  have hpa:=kjQ h hil t0
  unfold kaF kfw
  rw [if_neg (by simp; omega),y1]
  simp only [jal,y2]
  by_cases hb:bt g i=true
  ·rw [if_neg (by rw [hb]; simp)]
   simp only [gW,jal]
   let C:Nat->Bool:=fun v=>bt f v&&(dl W T g m (i+1) (clr f v) (b||decide (plc W i v<plc W i t)))
   have hd:dl W T g (m+1) i f b=(List.range W.length).any fun a=>decide (plc W i a<=plc W i t)&&C a:=by
    unfold dl
    rw [if_neg (by rw [hb]; decide)]
    congr 1
    funext a
    simp only [C,t1,jbj]
    cases bt f a <;> cases decide (plc W i a<=plc W i t) <;> rfl
   obtain ⟨z,hz,hR⟩:=Fl.iter_inv (F:=kdg (kaF K) (i:Int) f b (W.getD i []))
    (fun x=>∃ k:Nat,k<=plc W i t/\x=((k:Int),T,(W.length:Int),g,W)/\∀ q v:Nat,q<k->(W.getD i [])[q]?=some (v:Int)->C v=false) (fun x=>plc W i t-x.1.toNat)
    (fun z=>z = .inl (dl W T g (m+1) i f b,(W.length:Int),g,W,T))
    (fun x hx=>by
     obtain ⟨k,hk,rfl,hq⟩:=hx
     have hkl:k<(W.getD i []).length:=by omega
     obtain ⟨v,v0,v1,v2⟩:=kun ol (i:=k) (by rw [<-ol.1]; exact hkl)
     have va:(W.getD i [])[k]?=some (v:Int):=by
      rw [kbt hkl] at v2
      rw [jae hkl]; exact v2
     have vk:=kyX h hil va
     obtain ⟨y',z1,z2,_⟩:=shr8 f0 f1 (v:=v) (by omega)
     have hvt:((v:Int)==(t:Int))=decide (k=plc W i t):=by
      rw [Bool.eq_iff_iff,beq_iff_eq,jaj]
      constructor
      ·intro e
       rw [<-vk,show v=t by omega]
      ·intro e
       rw [e,hpa] at va
       exact (Option.some.inj va).symm
     have hrec:kaF K ((i+1:Nat):Int) (clr f v) (b||decide (k<plc W i t)) (W.length:Int) g W T=some (dl W T g m (i+1) (clr f v) (b||decide (k<plc W i t)),(W.length:Int),g,W,T):=
      ih K (i+1) (clr f v) _ (clr8 f0 f1 (by omega)).1 (clr8 f0 f1 (by omega)).2 (by omega) (by omega)
     have hC:C v=(bt f v&&dl W T g m (i+1) (clr f v) (b||decide (k<plc W i t))):=by simp only [C,vk]
     have hstep:kdg (kaF K) (i:Int) f b (W.getD i []) ((k:Int),T,(W.length:Int),g,W)=some (if C v=true then .inr (.inl (true,(W.length:Int),g,W,T)) else if k=plc W i t then .inr (.inl (false,(W.length:Int),g,W,T)) else .inl (((k+1:Nat):Int),T,(W.length:Int),g,W)):=by
      have hne:(!decide (k=plc W i t))=decide (k<plc W i t):=by
       rw [Bool.eq_iff_iff,jbi,decide_eq_false_iff_not,jaj]; omega
      unfold kdg
      simp only [lenI_lt.2 hkl,if_true,v2,t2,z1,z2,jal,shl8 v (by omega),hw,hvt,hne,kbo (show k<9223372036854775807 by have:=ol.1; omega)]
      rw [hC]
      cases hbf:bt f v with
      | false=>
       simp only [Bool.false_and,jai,if_false]
       rw [if_neg (by decide)]
       by_cases c:k=plc W i t <;> simp [c]
      | true=>
       simp only [Bool.true_and,if_true]
       rw [if_pos (by decide)]
       have hcl:bitsI .andNot .u8 f (2 ^ v)=clr f v:=rfl
       rw [hcl]
       cases b with
       | true=>
        simp only [Bool.true_or] at hrec
        simp only [if_true,hrec,jal,Bool.true_or]
        cases dl W T g m (i+1) (clr f v) true <;> by_cases c:k=plc W i t <;> simp [c]
       | false=>
        simp only [jdl] at hrec
        simp only [jai,if_false,hrec,jal,jdl]
        cases dl W T g m (i+1) (clr f v) (decide (k<plc W i t)) <;> by_cases c:k=plc W i t <;> simp [c]
     by_cases hc:C v=true
     ·refine .inl ⟨_,by rw [hstep,if_pos hc],?_⟩
      have:dl W T g (m+1) i f b=true:=by
       rw [hd,jbf]
       exact ⟨v,jcd.2 v0,by rw [hc,vk,decide_eq_true hk]; rfl⟩
      rw [this]
     ·by_cases hkt:k=plc W i t
      ·refine .inl ⟨_,by rw [hstep,if_neg hc,if_pos hkt],?_⟩
       have:dl W T g (m+1) i f b=false:=by
        rw [hd,List.any_eq_false]
        intro a ha
        rw [jcd] at ha
        by_cases c:plc W i a<=plc W i t
        ·rw [decide_eq_true c,Bool.true_and]
         by_cases c2:plc W i a=k
         ·have:=kjQ h hil ha
          rw [c2,va] at this
          rw [show a=v by have:=Option.some.inj this; omega]; exact hc
         ·rw [hq (plc W i a) a (by omega) (kjQ h hil ha)]; decide
        ·rw [decide_eq_false c]; simp
       rw [this]
      ·refine .inr ⟨_,by rw [hstep,if_neg hc,if_neg hkt],⟨k+1,by omega,rfl,fun q v' hq' e=>?_⟩,by simp only [jbj]; omega⟩
       by_cases c:q=k
       ·subst c
        rw [va] at e
        rw [show v'=v by have:=Option.some.inj e; omega]
        rw [jci] at hc; exact hc
       ·exact hq q v' (by omega) e)
    (0,T,(W.length:Int),g,W) ⟨0,by omega,rfl,fun q v hq=>by omega⟩ (by have:=ol.1; simp only; omega)
   rw [hz,hR]
   rfl
  ·rw [jci] at hb
   rw [if_pos (by rw [hb]; simp),hw,ih K (i+1) f b f0 f1 (by omega) (by omega)]
   have hdl:dl W T g (m+1) i f b=dl W T g m (i+1) f b:=by
    conv=>lhs; unfold dl
    rw [if_pos hb]
   rw [hdl]
   rfl
theorem kwv {l:List Int} (hl:l.length<=1000) (x:Int):kfF l x=some ((l.idxOf x:Nat):Int):=by
 unfold kfF
 obtain ⟨z,hz,hR⟩:=Fl.iter_inv (F:=kdA l x)
  (fun y=>∃ k:Nat,k<=l.length/\y=(k:Int)/\∀ q (h:q<l.length),q<k->l[q]≠x) (fun y=>l.length-y.toNat)
  (fun z=>(z = .inl ((l.idxOf x:Nat):Int))\/(z = .inr ()/\l.idxOf x=l.length))
  (fun y hy=>by
   obtain ⟨k,hk,rfl,hq⟩:=hy
   by_cases hlt:k<l.length
   ·by_cases e:l[k]=x
    ·refine .inl ⟨.inl (k:Int),?_,.inl ?_⟩
     ·unfold kdA
      simp only [lenI_lt.2 hlt,if_true,kbt hlt,jal]
      rw [if_pos (by rw [e]; simp)]
     ·have h1:l.idxOf x<=k:=by
       refine Nat.le_of_not_lt fun hc=>?_
       have:=List.not_of_lt_findIdx hc
       rw [e] at this
       simp at this
      have h2:l.idxOf x<l.length:=by omega
      have h3:=List.getElem_idxOf h2
      by_cases c:l.idxOf x=k
      ·rw [c]
      ·exact absurd h3 (hq _ h2 (by omega))
    ·refine .inr ⟨((k+1:Nat):Int),?_,⟨k+1,by omega,rfl,fun q h hq'=>?_⟩,by simp only [jbj]; omega⟩
     ·unfold kdA
      simp only [lenI_lt.2 hlt,if_true,kbt hlt,jal,kbo (show k<9223372036854775807 by omega)]
      rw [if_neg (by simpa using e)]
     ·by_cases c:q=k
      ·subst c; exact e
      ·exact hq q h (by omega)
   ·refine .inl ⟨.inr (),?_,.inr ⟨rfl,?_⟩⟩
    ·unfold kdA
     rw [show k=l.length by omega,if_neg kck]
    ·refine List.idxOf_eq_length fun hm=>?_
     obtain ⟨q,h,e⟩:=jcs.1 hm
     exact hq q h (by omega) e)
  0 ⟨0,by omega,rfl,fun q h hq=>by omega⟩ (by simp; omega)
 rw [hz]
 rcases hR with rfl | ⟨rfl,h⟩
 ·rfl
 ·simp only [jal,h,kaH]
theorem kyA:∀ x<256,∀ a<8,∀ v<8,(clr ((x:Nat):Int) a).toNat.testBit v=(x.testBit v&&decide (v≠a)):=by decide +kernel
theorem kza {f:Int} (f0:0<=f) (f1:f<256) {a v:Nat} (ha:a<8) (hv:v<8):bt (clr f a) v=(bt f v&&decide (v≠a)):=by
 obtain ⟨n,rfl⟩:=Int.eq_ofNat_of_zero_le f0
 exact kyA n (by omega) a ha v hv
structure Asg (W:List (List Int)) (T:List Int) (g:Int) (i:Nat) (f:Int) (a:Nat->Nat):Prop where
 v:∀ k,i<=k->k<W.length->bt g k=true->a k<W.length/\bt f (a k)=true/\plc W k (a k)<=plc W k (la T k).toNat
 inj:∀ k k',i<=k->k<W.length->bt g k=true->i<=k'->k'<W.length->bt g k'=true->a k=a k'->k=k'
def Str (W:List (List Int)) (T:List Int) (g:Int) (i:Nat) (a:Nat->Nat):Prop:=∃ k,i<=k/\k<W.length/\bt g k=true/\plc W k (a k)<plc W k (la T k).toNat
theorem kuq {W:List (List Int)} (h8:W.length<=8) {T:List Int} {g:Int}:∀ (m i:Nat) (f:Int) (b:Bool),0<=f->f<256->i+m=W.length->dl W T g m i f b=true->∃ a,Asg W T g i f a/\(b=true\/Str W T g i a)
 | 0,i,f,b,f0,f1,hi,h=>⟨fun _=>0,⟨fun k _ _ _=>by omega,fun k _ _ _ _ _ _ _ _=>by omega⟩,.inl h⟩
 | m+1,i,f,b,f0,f1,hi,h=>by
  unfold dl at h
  by_cases hb:bt g i=false
  ·rw [if_pos hb] at h
   obtain ⟨a,⟨a1,a2⟩,a3⟩:=kuq h8 m (i+1) f b f0 f1 (by omega) h
   have ne:∀ k,i<=k->bt g k=true->i+1<=k:=fun k hk hg=>by
    by_cases e:k=i
    ·subst e; rw [hb] at hg; cases hg
    ·omega
   refine ⟨a,⟨fun k hk hl hg=>a1 k (ne k hk hg) hl hg,fun k k' hk hl hg hk' hl' hg' e=>a2 k k' (ne k hk hg) hl hg (ne k' hk' hg') hl' hg' e⟩,?_⟩
   rcases a3 with c | ⟨k,k1,k2,k3,k4⟩
   ·exact .inl c
   ·exact .inr ⟨k,by omega,k2,k3,k4⟩
  ·rw [if_neg hb,jbf] at h
   obtain ⟨x,hx,h⟩:=h
   rw [jcd] at hx
   simp only [jac,jaj] at h
   obtain ⟨hfx,hp,hd⟩:=h
   have hc:=clr8 f0 f1 (v:=x) (by omega)
   obtain ⟨a,⟨a1,a2⟩,a3⟩:=kuq h8 m (i+1) (clr f x) _ hc.1 hc.2 (by omega) hd
   have hk1:∀ k,i<=k->k<W.length->bt g k=true->k≠i->a k<W.length/\bt f (a k)=true/\a k≠x/\plc W k (a k)<=plc W k (la T k).toNat:=fun k hk hl hg hne=>by
    obtain ⟨q1,q2,q3⟩:=a1 k (by omega) hl hg
    rw [kza f0 f1 (by omega) (by omega),jac,jaj] at q2
    exact ⟨q1,q2.1,q2.2,q3⟩
   refine ⟨fun k=>if k=i then x else a k,⟨fun k hk hl hg=>?_,fun k k' hk hl hg hk' hl' hg' e=>?_⟩,?_⟩
   ·by_cases c:k=i
    ·simp only [if_pos c]; subst c; exact ⟨hx,hfx,hp⟩
    ·simp only [if_neg c]; have:=hk1 k hk hl hg c; exact ⟨this.1,this.2.1,this.2.2.2⟩
   ·by_cases c:k=i <;> by_cases c':k'=i
    ·omega
    ·simp only [if_pos c,if_neg c'] at e
     exact absurd e.symm (hk1 k' hk' hl' hg' c').2.2.1
    ·simp only [if_neg c,if_pos c'] at e
     exact absurd e (hk1 k hk hl hg c).2.2.1
    ·simp only [if_neg c,if_neg c'] at e
     exact a2 k k' (by omega) hl hg (by omega) hl' hg' e
   ·rcases a3 with c | ⟨k,k1,k2,k3,k4⟩
    ·rw [jaw,jaj] at c
     rcases c with c | c
     ·exact .inl c
     ·refine .inr ⟨i,by omega,by omega,by simpa using hb,?_⟩
      simp only [if_pos]; exact c
    ·refine .inr ⟨k,by omega,k2,k3,?_⟩
     simp only [if_neg (show k≠i by omega)]; exact k4
theorem kxg {W:List (List Int)} (h:wishB W) {k x y:Nat} (hk:k<W.length) (hx:x<W.length) (hy:y<W.length) (hp:plc W k x<plc W k y):Lik W k x y:=⟨_,_,hp,kjQ h hk hx,kjQ h hk hy⟩
theorem kzh {W:List (List Int)} (h:wishB W) {k x y:Nat} (hk:k<W.length) (hx:x<W.length) (hy:y<W.length) (hp:plc W k x=plc W k y):x=y:=by
 have a:=kjQ h hk hx
 have b:=kjQ h hk hy
 rw [hp,b] at a
 have:=Option.some.inj a; omega
theorem core {W:List (List Int)} (h:wishB W) {T:List Int} {r:Nat->Nat} (hr:Rds W.length (Lik W) (fun k=>(la T k).toNat) r) {g:Int} (g0:0<=g) (g1:g<256):dl W T g W.length 0 g false=false:=by
 cases hd:dl W T g W.length 0 g false with
 | false=>rfl
 | true=>
  exfalso
  obtain ⟨a,ha,hs⟩:=kuq h.2.1 W.length 0 g false g0 g1 (by omega) hd
  have lt:∀ k,k<W.length->(la T k).toNat<W.length:=hr.lt
  have main:∀ ρ k,r k = ρ->k<W.length->bt g k=true->a k=(la T k).toNat:=by
   intro ρ
   induction ρ using Nat.strongRecOn with
   | ind ρ ih=>
    intro k hk hl hg
    obtain ⟨p1,p2,p3⟩:=ha.v k (by omega) hl hg
    refine Classical.byContradiction fun hne=>?_
    have hlt:plc W k (a k)<plc W k (la T k).toNat:=by
     refine Nat.lt_of_le_of_ne p3 fun e=>hne (kzh h hl p1 (lt k hl) e)
    have hb:=hr.b k hl (a k) p1 (kxg h hl p1 (lt k hl) hlt)
    obtain ⟨t,ht⟩:=back hr.lt hr.inj p1
    have orb:∀ t,it (fun k=>(la T k).toNat) t (a k)<W.length/\r (it (fun k=>(la T k).toNat) t (a k))=r (a k)/\bt g (it (fun k=>(la T k).toNat) t (a k))=true:=by
     intro t
     induction t with
     | zero=>exact ⟨p1,rfl,p2⟩
     | succ t iht=>
      obtain ⟨c1,c2,c3⟩:=iht
      have e:=ih (r (a k)) (by omega) _ c2 c1 c3
      have hv:=ha.v _ (jeb _) c1 c3
      rw [e] at hv
      exact ⟨hv.1,by simp only [it]; rw [<-c2]; exact hr.c _ c1,hv.2.1⟩
    obtain ⟨c1,c2,c3⟩:=orb t
    have e:=ih (r (a k)) (by omega) _ c2 c1 c3
    have e2:a (it (fun k=>(la T k).toNat) t (a k))=a k:=by rw [e]; exact ht
    have:=ha.inj _ k (jeb _) c1 c3 (jeb _) hl hg e2
    rw [this] at c2
    omega
  rcases hs with hs | ⟨k,_,k2,k3,k4⟩
  ·cases hs
  ·rw [main _ k rfl k2 k3] at k4; omega
theorem okI_u8c {n:Int} (h:okI .u8 n):n<256:=by
 simp [okI,Lit.wf,IntKind.min,IntKind.max,IntKind.signed,IntKind.bits] at h
 omega
theorem shl64:∀ n<9,gshl .i64 1 ((n:Nat):Int)=some (2 ^ n):=by decide +kernel
theorem kxq {W:List (List Int)} (h:wishB W) (hW:∀ l∈W,l.length<=12) {T:List Int} (ho:ordB T W.length) {x:Int} (x0:0<x) (x1:x<256) (x2:x<2 ^ W.length):kjr W T x=some (dl W T x W.length 0 x false,0):=by
 classical
 have h8:=h.2.1
 have e1:kiq T (lenI W)=some (decide (ordB T W.length)):=by rw [kaH]; exact kuZ (by rw [ho.1]; omega) _
 unfold kjr
 rw [klQ hW]
 simp only [jal,decide_eq_true h,jdy,jai,if_false,e1,decide_eq_true ho]
 rw [if_neg (by simp; omega),kaH,shl64 W.length (by omega)]
 simp only [jal,kiQ (x:=x) (by omega) (by omega)]
 rw [if_neg (by rw [decide_eq_false (by omega)]; decide)]
 have p:=kxQ h ho (Int.le_of_lt x0) x1 W.length 1000000 0 x false (by omega) x1 (by omega) (by omega)
 unfold kgU
 rw [Int.natCast_zero] at p
 rw [p]
 rfl
theorem kyK (W:List (List Int)) (hl:W.length<=9223372036854775807):∃ b,kjo W=some b/\(b=false->∀ l∈W,l.length<=12):=by
 unfold kjo
 rw [kkt (F:=kgK W) true W hl (fun _ l=>decide ((12:Int)<lenI l)) (fun i hi=>by
  unfold kgK
  rw [if_pos (lenI_lt.2 hi),kbt hi,kbo (by omega)]
  simp only [jal]
  cases decide ((12:Int)<lenI W[i]) <;> rfl) (by unfold kgK; rw [if_neg kck])]
 rw [krk (fun l=>decide ((12:Int)<lenI l)) W 0]
 cases hc:W.any fun l=>decide ((12:Int)<lenI l) with
 | true=>exact ⟨true,rfl,fun h=>by cases h⟩
 | false=>
  refine ⟨_,rfl,fun _ l hl=>?_⟩
  have:=List.any_eq_false.1 hc l hl
  rw [jaj,kaH] at this
  omega
theorem kyb {O:List Int} {n:Nat} (hl:O.length=n) (h0:∀ k,k<n->0<=la O k) (lt:∀ k,k<n->(la O k).toNat<n) (inj:∀ i j,i<n->j<n->(la O i).toNat=(la O j).toNat->i=j):ordB O n:=by
 have at_:∀ k (h:k<O.length),O[k]=la O k:=fun k h=>(krf (d:=0) h).symm
 refine ⟨hl,fun x hx=>?_,?_⟩
 ·obtain ⟨k,hk,rfl⟩:=jcs.1 hx
  rw [at_ k hk]
  have:=h0 k (by omega); have:=lt k (by omega); omega
 ·rw [jcm,List.pairwise_iff_getElem]
  intro i j hi hj hij e
  rw [at_ i hi,at_ j hj] at e
  have:=inj i j (by omega) (by omega) (by rw [e])
  omega
theorem kxd {W:List (List Int)} (h:wishB W) {O:List Int} (ho:ordB O W.length) (e:Int) (hb:∀ i,i<W.length->plc W i (la O i).toNat<=plc W i i):iter (kcY W (O,e)) 0=some (.inr ()):=by
 have h8:=h.2.1
 rw [kkt (F:=kcY W (O,e)) false W (by omega) (fun _ _=>false) (fun i hi=>by
  obtain ⟨t,t0,t1,t2⟩:=kun ho hi
  have hw:=kjC h hi
  have hg:W[i]=W.getD i []:=(krf hi).symm
  have hbi:=hb i hi
  rw [t1,jbj] at hbi
  unfold plc at hbi
  unfold kcY
  rw [if_pos (lenI_lt.2 hi),kbt hi,kbo (by omega)]
  simp only [jal,t2,hg,kwv (show (W.getD i []).length<=1000 by rw [hw.1]; omega)]
  rw [if_neg (by rw [jaj]; omega)]
  rfl) (by unfold kcY; rw [if_neg kck])]
 simp
theorem law08_BoxCore_eq (W:List (List Int)) (x:Int) (hl:W.length<=9223372036854775807) (x0:0<=x) (x1:x<256):kiZ W x=some true:=by
 classical
 obtain ⟨c,hc,hw⟩:=kyK W hl
 unfold kiZ
 rw [hc]
 cases c with
 | true=>rfl
 | false=>
  have hW:=hw rfl
  simp only [law08_alive,jal,jai,if_false,jdy,if_true]
  by_cases h:wishB W
  ·have h8:=h.2.1
   obtain ⟨O,r,e1,o1,o2,o3⟩:=kyE h hW
   have ho:ordB O W.length:=kyb o1 o2 o3.lt (fun i j hi hj e=>o3.inj i j hi hj e)
   have hb:∀ i,i<W.length->plc W i (la O i).toNat<=plc W i i:=fun i hi=>by
    refine Nat.le_of_not_lt fun hc=>?_
    have:=o3.b i hi i hi (kxg h hi hi (o3.lt i hi) hc)
    omega
   have e2:kdT O (lenI W)=some (decide (ordB O W.length)):=by rw [kaH]; exact ktG _ (by omega)
   rw [e1,kxm]
   simp only [jal,e2,decide_eq_true h,decide_eq_true ho,jdy,jai,if_false,kxd h ho 0 hb]
   rw [if_neg (by decide)]
   by_cases hx:x=0
   ·rw [if_pos (by rw [hx]; rfl)]
   ·rw [if_neg (by simpa using hx),kaH,shl64 W.length (by omega)]
    simp only [jal,kiQ (x:=x) (by omega) (by omega)]
    by_cases hg:(2:Int) ^ W.length<=x
    ·rw [if_pos (decide_eq_true hg)]
    ·rw [if_neg (by rw [decide_eq_false hg]; decide),kxq h hW ho (by omega) x1 (by omega),core h o3 x0 x1]
     rfl
  ·have:kfB W=some ([],2):=by
    unfold kfB
    rw [klQ hW,decide_eq_false h]; rfl
   rw [this]
   rfl
end Go.Abs
