/- The functions and the law, part 10. -/
import Derived.Test.YtpjlpghgmjlbbaaGreatS8
import Derived.Test.YtpjlpghgmjlbbaaGreatS9
set_option linter.constructorNameAsVariable false
set_option linter.unusedVariables false
set_option linter.unusedSimpArgs false
set_option linter.unusedSectionVars false
namespace Go.Abs
open Go Go.Abs.Fl
def noFn:Ty->Bool
 | .fn _ _ _=>false
 | .pr p q | .sm p q=>noFn p&&noFn q
 | .w p | .pt p | .sl p | .op p | .ar _ p=>noFn p
 | _=>true
theorem kbX:∀ (t:Ty),noFn t=true->∀ x,teq t x x=true
 | .i _,_,x=>by simp [teq]
 | .b,_,x=>by simp [teq]
 | .s,_,x=>by simp [teq]
 | .un,_,x=>rfl
 | .nt,_,x=>by simp [teq]
 | .pr p q,h,x=>by
  simp only [noFn,jac] at h;simp [teq,kbX p h.1,kbX q h.2]
 | .w a,h,x=>kbX a h x
 | .pt a,h,x=>kbX a h x
 | .sl a,h,x=>kpj (kbX a h) x
 | .op a,h,none=>rfl
 | .op a,h,some x=>kbX a h x
 | .ar _ a,h,x=>kpj (kbX a h) x.l
 | .sm p q,h,.inl x=>by
  simp only [noFn,jac] at h;exact kbX p h.1 x
 | .sm p q,h,.inr x=>by
  simp only [noFn,jac] at h;exact kbX q h.2 x
 | .fn _ _ _,h,x=>by simp [noFn] at h
def at3 (l:Ya It) (k:Nat):It:=(l[k]?).getD (0,0,0)
theorem kbD {l:Ya It} {k:Nat} (h:k<l.length):at3 l k=l[k]:=by unfold at3; rw [jae h]; rfl
def kc (x:It):Int×Int:=(x.1,x.2.1)
def mayQ (X Y:Ya It) (sw:Ya Swap) (k j:Nat):Prop:=mayB sw (kc (at3 Y k)) (kc (at3 X j))=true
def rowQ (X:Ya It) (sw:Ya Swap) (y:It):Ya Bool:=X.map λx=>mayB sw (kc y) (kc x)
theorem ktU {X:Ya It} {sw:Ya Swap} {y:It} {j:Nat} (h:j<X.length):sa (rowQ X sw y) j=mayB sw (kc y) (kc (at3 X j)):=by
 unfold sa rowQ;rw [jaq,jau,kbD h,jae h]; rfl
theorem idx_mem {s:Ya Bool} {n:Nat} {x:Int}:x∈idx s n↔∃ j,j<n/\x=(j:Int)/\sa s j=true:=by
 unfold idx;simp only [jbc,jdt,jcw];constructor
 ·rintro ⟨j,⟨a,h2⟩,rfl⟩; exact ⟨j,a,rfl,h2⟩
 ·rintro ⟨j,a,rfl,h2⟩; exact ⟨j,⟨a,h2⟩,rfl⟩
theorem kmm {α:Type} {l:Ya α} {x d:α} {k:Nat}:(l++[x]).getD k d=if k=l.length then x else l.getD k d:=by
 rw [jaq,jaq,jbo];by_cases h:k<l.length
 ·rw [if_pos h,if_neg (by omega)]
 ·rw [if_neg h];by_cases e:k=l.length
  ·subst e; simp
  ·rw [if_neg e,jce (l:=l) (by omega),jce (l:=[x]) (by simp only [jcs,jeg]; omega)]
theorem kly {U:Ya (Ya Int)} {n m:Nat} (h:∀ k,k<n->U.getD k []=List.replicate m 0) {k j:Nat} (a:k<n) (b:j<m):ua U k j=0:=by
 unfold ua;rw [h k a,jaq,jcd,if_pos b]; rfl
theorem kfC {X:Ya It} {j:Nat} (h:j<X.length):la (X.map λx=>x.2.2) j=needN X j:=by
 unfold la needN;rw [jaq,jau,jae h]; rfl
theorem kvW {X:Ya It} {i:Nat} (h:i<X.length):((X.take i).map λx=>x.2.2)++[X[i].2.2]=(X.take (i+1)).map λx=>x.2.2:=by
 rw [List.take_add_one,jae h,jcj]; rfl
section
variable {X Y:Ya It} {sw:Ya Swap}
theorem kCE (hX:X.length<=1000):iter (kqB X) (0,Y,[])=some (Y,X.map λx=>x.2.2):=by
 obtain ⟨z,hz,rfl⟩:=Fl.iter_inv (F:=kqB X) (λx=>∃ i:Nat,i<=X.length/\x=((i:Int),Y,(X.take i).map λx=>x.2.2)) (λx=>X.length-x.1.toNat) (λz=>z=(Y,X.map λx=>x.2.2))
  (λx c=>by
   obtain ⟨i,hi,rfl⟩:=c;by_cases a:i<X.length
   ·refine .inr ⟨((i+1:Nat),Y,(X.take (i+1)).map λx=>x.2.2),?_,⟨i+1,by omega,rfl⟩,by simp only [jal]; omega⟩;unfold kqB;have b:gapp ((X.take i).map λx=>x.2.2) [X[i].2.2]=some ((X.take (i+1)).map λx=>x.2.2):=by
     rw [kdg (by simp only [jar,jbi,jcs,jeg]; omega),kvW a]
    simp only [lenI_lt.2 a,if_true,kan a,jaa,b,kah (show i<9223372036854775807 by omega)]
   ·have:i=X.length:=by omega
    subst this;refine .inl ⟨(Y,X.map λx=>x.2.2),?_,rfl⟩;rw [List.take_length];unfold kqB;rw [if_neg kbk])
  (0,Y,[]) ⟨0,by omega,rfl⟩ (by simp only; omega)
 exact hz
theorem kCD (hX:X.length<=1000):iter (kdO X) (0,[])=some (X.map λx=>x.2.2):=by
 obtain ⟨z,hz,rfl⟩:=Fl.iter_inv (F:=kdO X) (λx=>∃ i:Nat,i<=X.length/\x=((i:Int),(X.take i).map λx=>x.2.2)) (λx=>X.length-x.1.toNat) (λz=>z=X.map λx=>x.2.2)
  (λx c=>by
   obtain ⟨i,hi,rfl⟩:=c;by_cases a:i<X.length
   ·refine .inr ⟨((i+1:Nat),(X.take (i+1)).map λx=>x.2.2),?_,⟨i+1,by omega,rfl⟩,by simp only [jal]; omega⟩;unfold kdO;have b:gapp ((X.take i).map λx=>x.2.2) [X[i].2.2]=some ((X.take (i+1)).map λx=>x.2.2):=by
     rw [kdg (by simp only [jar,jbi,jcs,jeg]; omega),kvW a]
    simp only [lenI_lt.2 a,if_true,kan a,jaa,b,kah (show i<9223372036854775807 by omega)]
   ·have:i=X.length:=by omega
    subst this;refine .inl ⟨X.map λx=>x.2.2,?_,rfl⟩;rw [List.take_length];unfold kdO;rw [if_neg kbk])
  (0,[]) ⟨0,by omega,rfl⟩ (by simp only; omega)
 exact hz
theorem row_p (hX:X.length<=1000) (hs:sw.length<=1000) (y:It):iter (kqt X sw y) (0,[])=some (idx (rowQ X sw y) X.length):=by
 have hl:(rowQ X sw y).length=X.length:=by simp [rowQ]
 have:=Fl.collect (s:=rowQ X sw y) (F:=kqt X sw y) (by omega) (λi l hi b=>by
  rw [hl] at hi;unfold kqt;have a:klt sw (kc y) (kc X[i])=some (mayB sw (kc y) (kc X[i])):=kzu sw hs _ _;unfold kc at a;simp only [lenI_lt.2 hi,if_true,kan hi,jaa,kbC,a,kah (show i<9223372036854775807 by omega)];rw [ktU hi,kbD hi];unfold kc;cases mayB sw (y.1,y.2.1) (X[i].1,X[i].2.1) with
  | true=>simp only [if_true]; rw [kdg (by simp; omega)]; rfl
  | false=>rfl) (λl=>by
  unfold kqt;rw [if_neg (by rw [hl]; exact kbk)])
 rw [hl] at this;exact this
theorem kBI (hX:X.length<=1000) (hY:Y.length<=1000) (hs:sw.length<=1000):∃ M U,iter (kqs X Y sw) (0,Y,[],[])=some (Y,M,U)/\MayL Y.length X.length (mayQ X Y sw) M/\U.length=Y.length/\∀ k,k<Y.length->U.getD k []=List.replicate X.length 0:=by
 obtain ⟨z,hz,M,U,rfl,a,b,c,d⟩:=Fl.iter_inv (F:=kqs X Y sw)
  (λx=>∃ (i:Nat) (M U:Ya (Ya Int)),i<=Y.length/\x=((i:Int),Y,M,U)/\M.length=i/\(∀ k,k<i->M.getD k []=idx (rowQ X sw (at3 Y k)) X.length)/\U.length=i/\∀ k,k<i->U.getD k []=List.replicate X.length 0) (λx=>Y.length-x.1.toNat)
  (λz=>∃ M U,z=(Y,M,U)/\M.length=Y.length/\(∀ k,k<Y.length->M.getD k []=idx (rowQ X sw (at3 Y k)) X.length)/\U.length=Y.length/\∀ k,k<Y.length->U.getD k []=List.replicate X.length 0)
  (λx o=>by
   obtain ⟨i,M,U,hi,rfl,a,b,c,d⟩:=o;by_cases f:i<Y.length
   ·have hr:=row_p hX hs Y[i];have g1:gapp M [idx (rowQ X sw Y[i]) X.length]=some (M++[idx (rowQ X sw Y[i]) X.length]):=kdg (by simp; omega);have t:gmk (lenI X) (0:Int)=some (List.replicate X.length 0):=by
     unfold gmk;rw [kac,if_pos (by omega),jal]
    have w:gapp U [List.replicate X.length (0:Int)]=some (U++[List.replicate X.length 0]):=kdg (by simp; omega);refine .inr ⟨((i+1:Nat),Y,M++[idx (rowQ X sw Y[i]) X.length],U++[List.replicate X.length 0]),?_,⟨i+1,_,_,by omega,rfl,by simp [a],λk g=>?_,by simp [c],λk g=>?_⟩,by simp only [jal]; omega⟩
    ·unfold kqs;simp only [lenI_lt.2 f,if_true,kan f,jaa,hr,g1,t,w,kah (show i<9223372036854775807 by omega)];rw [kfJ (kbX _ rfl _),kfJ (kbX _ rfl _),kfJ (kbX _ rfl _),kfJ (kbX _ rfl _),kfJ (kbX _ rfl _)]
    ·rw [kmm];by_cases e:k=i
     ·subst e; rw [if_pos a.symm,kbD f]
     ·rw [if_neg (by omega)]; exact b k (by omega)
    ·rw [kmm];by_cases e:k=i
     ·subst e; rw [if_pos c.symm]
     ·rw [if_neg (by omega)]; exact d k (by omega)
   ·have:i=Y.length:=by omega
    subst this;refine .inl ⟨(Y,M,U),?_,M,U,rfl,a,b,c,d⟩;unfold kqs;rw [if_neg kbk])
  (0,Y,[],[]) ⟨0,[],[],by omega,rfl,rfl,λk h=>by omega,rfl,λk h=>by omega⟩ (by simp only; omega)
 refine ⟨M,U,hz,⟨a,λk g=>?_,λk g x o=>?_,λk g j p hm=>?_⟩,c,d⟩
 ·rw [b k g]; have:=kyj (rowQ X sw (at3 Y k)) X.length; omega
 ·rw [b k g] at o;obtain ⟨j,r,h2,s⟩:=idx_mem.1 o;rw [ktU r] at s;exact ⟨j,r,h2,s⟩
 ·rw [b k g];exact idx_mem.2 ⟨j,p,rfl,by rw [ktU p]; exact hm⟩
theorem row_r (hX:X.length<=1000) (hs:sw.length<=1000) {i:Nat} (hi:i<Y.length) (g:Int×Ya (Ya Bool)×Ya (Ya Int)) (o:g.1=i):∃ r,iter (kdH X Y sw g) (0,List.replicate X.length false)=some r/\r.length=X.length/\∀ j,j<X.length->sa r j=mayB sw (kc (at3 Y i)) (kc (at3 X j)):=by
 obtain ⟨z,hz,a,b⟩:=Fl.iter_inv (F:=kdH X Y sw g)
  (λx=>∃ (j:Nat) (r:Ya Bool),j<=X.length/\x=((j:Int),r)/\r.length=X.length/\∀ c,c<j->sa r c=mayB sw (kc (at3 Y i)) (kc (at3 X c))) (λx=>X.length-x.1.toNat)
  (λr=>r.length=X.length/\∀ j,j<X.length->sa r j=mayB sw (kc (at3 Y i)) (kc (at3 X j)))
  (λx t=>by
   obtain ⟨j,r,w,rfl,a,b⟩:=t;by_cases f:j<X.length
   ·have p:kfa sw Y[i].1 Y[i].2.1 X[j].1 X[j].2.1=some (mayB sw (kc Y[i]) (kc X[j])):=klM sw hs (kc Y[i]) (kc X[j]);have h2:gi r (j:Int)=some (sa r j):=Fl.gs a f;refine .inr ⟨((j+1:Nat),r.set j (mayB sw (kc Y[i]) (kc X[j]))),?_,⟨j+1,_,by omega,rfl,by simp [a],λc s=>?_⟩,by simp only [jal]; omega⟩
    ·unfold kdH;simp only [o,lenI_lt.2 f,if_true,kan f,kan hi,jaa,p,h2,kah (show j<9223372036854775807 by omega)];rfl
    ·rw [show sa (r.set j (mayB sw (kc Y[i]) (kc X[j]))) c=if c=j then mayB sw (kc Y[i]) (kc X[j]) else sa r c from Fl.getD_set (by omega)];by_cases e:c=j
     ·subst e; rw [if_pos rfl,kbD hi,kbD f]
     ·rw [if_neg e]; exact b c (by omega)
   ·have:j=X.length:=by omega
    subst this;refine .inl ⟨r,?_,a,b⟩;unfold kdH;rw [if_neg kbk])
  (0,List.replicate X.length false) ⟨0,_,by omega,rfl,by simp,λc h=>by omega⟩ (by simp only; omega)
 exact ⟨z,hz,a,b⟩
theorem kBB (hX:X.length<=1000) (hY:Y.length<=1000) (hs:sw.length<=1000):∃ B U,khf X Y sw=some (B,U,X.map λx=>x.2.2)/\MayB Y.length X.length (mayQ X Y sw) B/\U.length=Y.length/\∀ k,k<Y.length->U.getD k []=List.replicate X.length 0:=by
 obtain ⟨z,hz,B,U,rfl,a,b,c,d⟩:=Fl.iter_inv (F:=kfs X Y sw)
  (λx=>∃ (i:Nat) (B:Ya (Ya Bool)) (U:Ya (Ya Int)),i<=Y.length/\x=((i:Int),B,U)/\B.length=i/\(∀ k,k<i->(B.getD k []).length=X.length/\∀ j,j<X.length->sa (B.getD k []) j=mayB sw (kc (at3 Y k)) (kc (at3 X j)))/\U.length=i/\∀ k,k<i->U.getD k []=List.replicate X.length 0) (λx=>Y.length-x.1.toNat)
  (λz=>∃ B U,z=(B,U)/\B.length=Y.length/\(∀ k,k<Y.length->(B.getD k []).length=X.length/\∀ j,j<X.length->sa (B.getD k []) j=mayB sw (kc (at3 Y k)) (kc (at3 X j)))/\U.length=Y.length/\∀ k,k<Y.length->U.getD k []=List.replicate X.length 0)
  (λx t=>by
   obtain ⟨i,B,U,hi,rfl,a,b,c,d⟩:=t;by_cases f:i<Y.length
   ·obtain ⟨r,hr,r1,r2⟩:=row_r hX hs f ((i:Int),B,U) rfl;have g0:gmk (lenI X) false=some (List.replicate X.length false):=by
     unfold gmk;rw [kac,if_pos (by omega),jal]
    have g1:gapp B [r]=some (B++[r]):=kdg (by simp; omega);have o:gmk (lenI X) (0:Int)=some (List.replicate X.length 0):=by
     unfold gmk;rw [kac,if_pos (by omega),jal]
    have p:gapp U [List.replicate X.length (0:Int)]=some (U++[List.replicate X.length 0]):=kdg (by simp; omega);refine .inr ⟨((i+1:Nat),B++[r],U++[List.replicate X.length 0]),?_,⟨i+1,_,_,by omega,rfl,by simp [a],λk g=>?_,by simp [c],λk g=>?_⟩,by simp only [jal]; omega⟩
    ·unfold kfs;simp only [lenI_lt.2 f,if_true,g0,jaa,hr,g1,o,p,kah (show i<9223372036854775807 by omega)]
    ·rw [kmm];by_cases e:k=i
     ·subst e; rw [if_pos a.symm]; exact ⟨r1,r2⟩
     ·rw [if_neg (by omega)]; exact b k (by omega)
    ·rw [kmm];by_cases e:k=i
     ·subst e; rw [if_pos c.symm]
     ·rw [if_neg (by omega)]; exact d k (by omega)
   ·have:i=Y.length:=by omega
    subst this;refine .inl ⟨(B,U),?_,B,U,rfl,a,b,c,d⟩;unfold kfs;rw [if_neg kbk])
  (0,[],[]) ⟨0,[],[],by omega,rfl,rfl,λk h=>by omega,rfl,λk h=>by omega⟩ (by simp only; omega)
 refine ⟨B,U,?_,⟨a,λk g=>(b k g).1,λk g j s=>by rw [(b k g).2 j s]; exact Iff.rfl⟩,c,d⟩;unfold khf;rw [hz];simp only [jaa,kCD hX]
end
def askE (X Y:Ya It) (sw:Ya Swap):Int:=if stk X=true/\stk Y=true then swE sw else 8
theorem kAH (X Y:Ya It) (sw:Ya Swap):kkk X Y sw=some (askE X Y sw):=by
 unfold kkk askE;rw [kjS,kjS,kjG];cases stk X <;> cases stk Y <;> simp
theorem kyV {α β γ:Type} (x:Yb α) (f:α->Yb β):(x.bind λa=>(f a).bind λ_=>none:Yb γ)=none:=by
 cases x with
 | none=>rfl
 | some a=>simp only [jaa]; cases f a <;> rfl
section
variable {X Y:Ya It} {sw:Ya Swap}
theorem bad_p (hs:sw.length<=1000):(if ((if stk X=true/\stk Y=true then (0:Int) else 8)==0)=true then (kef sw).bind λa=>some a else some (if stk X=true/\stk Y=true then (0:Int) else 8))=some (askE X Y sw):=by
 unfold askE;rw [kqx sw hs];by_cases h:stk X=true/\stk Y=true
 ·simp [h]
 ·simp [h]
theorem g0_eq (hX:X.length<=1000) (hY:Y.length<=1000) (hs:sw.length<=1000):kcY X Y sw=if askE X Y sw≠0 then some (askE X Y sw) else none:=by
 unfold kcY;rw [kte hX hY];simp only [jaa];rw [bad_p hs];simp only [jaa];by_cases h:askE X Y sw=0
 ·rw [if_neg (by simp [h]),if_neg (by simp [h])];exact kyV _ _
 ·rw [if_pos (by simp [h]),if_pos h]
theorem g1_ok (hX:X.length<=1000) (hY:Y.length<=1000) (hs:sw.length<=1000) (h:askE X Y sw=0):∃ M U,kcT X Y sw=some (0,Y,M,U,X.map λx=>x.2.2)/\MayL Y.length X.length (mayQ X Y sw) M/\U.length=Y.length/\∀ k,k<Y.length->U.getD k []=List.replicate X.length 0:=by
 obtain ⟨M,U,a,h2,b,c⟩:=kBI hX hY hs;refine ⟨M,U,?_,h2,b,c⟩;unfold kcT;rw [kte hX hY];simp only [jaa];rw [bad_p hs];simp only [jaa];rw [if_neg (by simp [h]),kCE hX];simp only [jaa,a]
end
theorem stk_N {l:Ya It} (h:stk l=true):l.length<=30/\∀ k,k<l.length->1<=needN l k/\needN l k<=1000:=by
 unfold stk at h;simp only [jac,jaj] at h;refine ⟨h.1.1,λk a=>?_⟩;rw [kjO a];have:=jan.1 h.2 _ (jdk a);unfold okN at this;simpa using this
end Go.Abs
namespace Go.Abs.St
open Go Go.Abs
structure Is (σ:Nat->Nat) (l l':List Line):Prop where
 len:l'.length=l.length
 perm:l'.Perm l
 at':∀ k,l'[k]?=l[σ k]?
theorem Is.refl (l:Ya Line):Is (λk=>k) l l:=⟨rfl,.refl _,λ_=>rfl⟩
theorem Is.trans {σ τ:Nat->Nat} {l l' a:Ya Line} (h:Is σ l l') (h':Is τ l' a):Is (λk=>σ (τ k)) l a:=
 ⟨h'.len.trans h.len,h'.perm.trans h.perm,λk=>(h'.at' k).trans (h.at' _)⟩
theorem Is.congr {σ τ:Nat->Nat} {l l':Ya Line} (h:Is σ l l') (e:∀ k,k<l.length->σ k = τ k) (a:∀ k,l.length<=k->l.length<=τ k):Is τ l l':=
 ⟨h.len,h.perm,λk=>by
  by_cases b:k<l.length
  ·rw [h.at',e k b]
  ·rw [jce (by rw [h.len]; omega),jce (a k (by omega))]⟩
theorem Is.swap {l:Ya Line} {i j:Nat} (hi:i<l.length) (b:j<l.length):Is (λk=>if k=j then i else if k=i then j else k) l ((l.set i l[j]).set j l[i]):=by
 refine ⟨by simp,List.set_set_perm hi b,λk=>?_⟩;simp only [jdf,jbs];by_cases a:j=k
 ·subst a; simp [b,hi]
 ·rw [if_neg a];by_cases h2:i=k
  ·subst h2; simp [hi,b,a];rw [if_neg (λe=>a e.symm),jae b]
  ·rw [if_neg h2,if_neg (λe=>a e.symm),if_neg (λe=>h2 e.symm)]
theorem knZ (l:Ya Line) (i:Nat) (x:Line):lset l (i:Int) x=l.set i x:=rfl
theorem w64n {x:Int} {n:Nat} (h:x=n) (hn:n<=1000000):w64 x=(n:Int):=by rw [kaz (by omega) (by omega),h]
theorem kka (a b n:Nat) (cmp) (l:Ya Line) (r:a+n<=b) (h2:b+n<=l.length) (hl:l.length<=1000) :
  ∃ l',kax a b n cmp l=some l'/\Is (λk=>if a<=k/\k<a+n then k+(b-a) else if b<=k/\k<b+n then k-(b-a) else k) l l':=by
 unfold kax;obtain ⟨z,hz,hR⟩:=Fl.iter_inv (F:=kby a b n)
  (λv=>∃ i:Nat,v.1=i/\i<=n/\Is (λk=>if a<=k/\k<a+i then k+(b-a) else if b<=k/\k<b+i then k-(b-a) else k) l v.2)
  (λv=>n-v.1.toNat) (λz=>Is (λk=>if a<=k/\k<a+n then k+(b-a) else if b<=k/\k<b+n then k-(b-a) else k) l z)
  (λ⟨p,v⟩ ⟨i,hi,o,c⟩=>by
   dsimp only at hi c ⊢;subst hi;unfold kby;dsimp only;by_cases hc:i<n
   ·right;rw [if_pos (by simpa using hc)];have e:a+i<v.length:=by rw [c.len]; omega
    have f:b+i<v.length:=by rw [c.len]; omega
    rw [w64n (n:=b+i) (by push_cast; rfl) (by omega),w64n (n:=a+i) (by push_cast; rfl) (by omega),w64n (n:=i+1) (by push_cast; rfl) (by omega)];simp only [klx,knZ,jae e,jae f,jaa,jdf,jbs];rw [if_neg (by omega)];simp only [jaa];refine ⟨_,rfl,⟨i+1,rfl,by omega,(c.trans (Is.swap e f)).congr (λk g=>?_) (λk g=>?_)⟩,by dsimp only; omega⟩
    ·repeat' split
     all_goals omega
    ·split <;> (try split) <;> omega
   ·left;rw [if_neg (by simpa using hc)];have:i=n:=by omega
    subst this;exact ⟨_,rfl,c⟩)
  (0,l) ⟨0,rfl,by omega,(Is.refl l).congr (λk g=>by rw [if_neg (by omega),if_neg (by omega)]) (λk g=>by rw [if_neg (by omega),if_neg (by omega)]; exact g)⟩ (by dsimp only; omega)
 rw [hz];exact ⟨z,rfl,hR⟩
def rotF (a m b k:Nat):Nat:=if k<a then k else if k<a+(b-m) then k+(m-a) else if k<b then k-(b-m) else k
theorem kxI (a m b:Nat) (cmp) (l:Ya Line) (I:a<m) (h2:m<b) (K:b<=l.length) (hl:l.length<=1000) :
  ∃ l',kaQ a m b cmp l=some l'/\Is (rotF a m b) l l':=by
 unfold kaQ;obtain ⟨z,hz,hR⟩:=Fl.iter_inv (F:=kbS m cmp)
  (λv=>∃ (i j:Nat) (σ:Nat->Nat),v.1=i/\v.2.1=j/\0<i/\0<j/\i<=m-a/\j<=b-m/\Is σ l v.2.2/\∀ k,k<l.length->σ (rotF (m-i) m (m+j) k)=rotF a m b k)
  (λv=>v.1.toNat+v.2.1.toNat)
  (λz=>∃ (i:Nat) (σ:Nat->Nat),z.1=i/\0<i/\i<=m-a/\i<=b-m/\Is σ l z.2/\∀ k,k<l.length->σ (rotF (m-i) m (m+i) k)=rotF a m b k)
  (λ⟨G,H,v⟩ ⟨i,j,σ,hi,w,s,A,p,t,c,o⟩=>by
   dsimp only at hi w c ⊢;subst hi; subst w;unfold kbS;dsimp only;by_cases y:i=j
   ·left;subst y;rw [if_neg (by simp)];exact ⟨_,rfl,i,σ,rfl,s,p,t,c,o⟩
   ·right;rw [if_pos (by simpa using (by omega:¬ ((i:Int)=j)))];by_cases r:j<i
    ·rw [if_pos (by simpa using r),w64n (n:=m-i) (by omega) (by omega),w64n (n:=i-j) (by omega) (by omega)];obtain ⟨l',e,f⟩:=kka (m-i) m j cmp v (by omega) (by rw [c.len]; omega) (by rw [c.len]; omega);rw [e];simp only [jaa];refine ⟨_,rfl,⟨i-j,j,_,rfl,rfl,by omega,by omega,by omega,by omega,c.trans f,λk g=>?_⟩,by dsimp only; omega⟩;rw [<-o k g];congr 1;unfold rotF;split <;> (try split) <;> (try split) <;> (try split) <;> (try split) <;> (try split) <;> (try split) <;> (try split) <;> omega
    ·rw [if_neg (by simpa using r),w64n (x:=(m:Int)+j) (n:=m+j) (by omega) (by omega),w64n (x:=((m+j:Nat):Int)-i) (n:=m+j-i) (by omega) (by omega),w64n (x:=(m:Int)-i) (n:=m-i) (by omega) (by omega),w64n (x:=(j:Int)-i) (n:=j-i) (by omega) (by omega)];obtain ⟨l',e,f⟩:=kka (m-i) (m+j-i) i cmp v (by omega) (by rw [c.len]; omega) (by rw [c.len]; omega);rw [e];simp only [jaa];refine ⟨_,rfl,⟨i,j-i,_,rfl,rfl,by omega,by omega,by omega,by omega,c.trans f,λk g=>?_⟩,by dsimp only; omega⟩;rw [<-o k g];congr 1;unfold rotF;split <;> (try split) <;> (try split) <;> (try split) <;> (try split) <;> (try split) <;> (try split) <;> (try split) <;> omega)
  (((m-a:Nat):Int),((b-m:Nat):Int),l) ⟨m-a,b-m,λk=>k,rfl,rfl,by omega,by omega,by omega,by omega,Is.refl l,λk g=>by rw [show m-(m-a)=a by omega,show m+(b-m)=b by omega]⟩ (by dsimp only; omega)
 rw [w64n (n:=m-a) (by omega) (by omega),w64n (n:=b-m) (by omega) (by omega),hz];simp only [jaa];obtain ⟨i,σ,hi,s,p,D,c,o⟩:=hR;obtain ⟨J,E⟩:=z;dsimp only at hi c;subst hi;dsimp only;rw [w64n (n:=m-i) (by omega) (by omega)];obtain ⟨l',e,f⟩:=kka (m-i) m i cmp E (by omega) (by rw [c.len]; omega) (by rw [c.len]; omega);rw [e];refine ⟨l',rfl,(c.trans f).congr (λk g=>?_) (λk g=>by unfold rotF; split <;> (try split) <;> (try split) <;> omega)⟩;rw [<-o k g];congr 1;unfold rotF;split <;> (try split) <;> (try split) <;> (try split) <;> (try split) <;> (try split) <;> (try split) <;> (try split) <;> omega
def gg (l:Ya Line) (k:Nat):Line:=(l[k]?).getD (0,0,0,(0,0),false)
theorem kwG {l:Ya Line} {k:Nat} (h:k<l.length):gg l k=l[k]:=by unfold gg; rw [jae h]; rfl
theorem gi_gg {l:Ya Line} {k:Nat} (h:k<l.length):gi l (k:Int)=some (gg l k):=by rw [klx,jae h,kwG h]
theorem Is.gg {σ:Nat->Nat} {l l':Ya Line} (h:Is σ l l') (k:Nat):gg l' k=gg l (σ k):=by unfold Go.Abs.St.gg; rw [h.at']
structure Mv (a b:Nat) (l l':List Line):Prop where
 len:l'.length=l.length
 perm:l'.Perm l
 out:∀ k,k<a\/b<=k->gg l' k=gg l k
 ins:∀ k,a<=k->k<b->∃ k',a<=k'/\k'<b/\gg l' k=gg l k'
theorem Mv.refl (a b:Nat) (l:Ya Line):Mv a b l l:=⟨rfl,.refl _,λ_ _=>rfl,λk c h2=>⟨k,c,h2,rfl⟩⟩
theorem Mv.trans {a b:Nat} {l l' c:Ya Line} (h:Mv a b l l') (h':Mv a b l' c):Mv a b l c:=
 ⟨h'.len.trans h.len,h'.perm.trans h.perm,λk f=>(h'.out k f).trans (h.out k f),λk r h2=>by
  obtain ⟨p,g1,g,i⟩:=h'.ins k r h2;obtain ⟨e,s,o,t⟩:=h.ins p g1 g;exact ⟨e,s,o,i.trans t⟩⟩
theorem Mv.wide {a b a' b':Nat} {l l':Ya Line} (h:Mv a b l l') (i:a'<=a) (p:b<=b'):Mv a' b' l l':=
 ⟨h.len,h.perm,λk c=>h.out k (by omega),λk e h2=>by
  by_cases c:a<=k/\k<b
  ·obtain ⟨f,g1,o,g⟩:=h.ins k c.1 c.2;exact ⟨f,by omega,by omega,g⟩
  ·exact ⟨k,e,h2,h.out k (by omega)⟩⟩
theorem Is.mv {σ:Nat->Nat} {a b:Nat} {l l':Ya Line} (h:Is σ l l') (e:∀ k,k<a\/b<=k->σ k=k) (h2:∀ k,a<=k->k<b->a<=σ k/\σ k<b):Mv a b l l':=
 ⟨h.len,h.perm,λk f=>by rw [h.gg,e k f],λk g1 c=>⟨σ k,(h2 k g1 c).1,(h2 k g1 c).2,h.gg k⟩⟩
def Lt (x y:Line):Prop:=x.1<y.1/\(0<=x.2.1/\x.2.1<=10000)/\0<=y.2.1/\y.2.1<=10000
structure COk (cmp:Line×Line->Option Int) (le:Line->Line->Prop):Prop where
 c:∀ x y,∃ v,cmp (x,y)=some v/\(Lt y x->(v<0↔¬ le y x))
 tr:∀ x y z,le x y->le y z->le x z
 tot:∀ x y,le x y\/le y x
def Tg (l:Ya Line) (a m b:Nat):Prop:=∀ i j,a<=i->i<m->m<=j->j<b->Lt (gg l i) (gg l j)
def Inc (l:Ya Line) (a b:Nat):Prop:=∀ i j,a<=i->i<j->j<b->Lt (gg l i) (gg l j)
def Srt (le:Line->Line->Prop) (l:Ya Line) (a b:Nat):Prop:=∀ i j,a<=i->i<j->j<b->le (gg l i) (gg l j)
section
variable {cmp:Line×Line->Yb Int} {le:Line->Line->Prop} (ok:COk cmp le)
include ok
theorem COk.rf (x:Line):le x x:=(ok.tot x x).elim id id
theorem Srt.le' {l:Ya Line} {a b:Nat} (h:Srt le l a b) {i j:Nat} (c:a<=i) (h2:i<=j) (f:j<b):le (gg l i) (gg l j):=by
 by_cases e:i=j
 ·subst e; exact ok.rf _
 ·exact h i j c (by omega) f
theorem COk.nle {x y:Line} (h:¬ le x y):le y x:=(ok.tot x y).resolve_left h
theorem ins1 {a i:Nat} {l:Ya Line} (hi:i<l.length) (K:a<=i) (hl:l.length<=1000) (hs:Srt le l a i) (J:Tg l a i (i+1)) :
  ∃ l',iter (kaH a cmp) ((i:Int),l)=some l'/\Mv a (i+1) l l'/\Srt le l' a (i+1):=by
 refine Fl.iter_inv (F:=kaH a cmp) (λv=>∃ j:Nat,v.1=j/\a<=j/\j<=i/\Mv a (i+1) l v.2/\(gg v.2 j=gg l i/\∀ k,a<=k->k<=i->k≠j->Lt (gg v.2 k) (gg l i))/\∀ x y,a<=x->x<y->y<=i->y≠j->le (gg v.2 x) (gg v.2 y))
  (λv=>v.1.toNat) (λl'=>Mv a (i+1) l l'/\Srt le l' a (i+1)) (λ⟨L,v⟩ ⟨j,G,O,h2,hm,hT,p⟩=>?_) _ ⟨i,rfl,K,jah _,.refl _ _ _,⟨rfl,λk k1 k2 k3=>J k i k1 (by omega) (jah _) (by omega)⟩,λx y g1 o s I=>hs x y g1 o (by omega)⟩ (by dsimp only; omega)
 dsimp only at G hm hT p ⊢;subst G;unfold kaH;dsimp only;by_cases hc:a<j
 ·rw [if_pos (by simpa using hc)];have E:j<v.length:=by rw [hm.len]; omega
  have z:j-1<v.length:=by omega
  rw [w64n (n:=j-1) (by omega) (by omega)];obtain ⟨c,A,g⟩:=ok.c (gg v j) (gg v (j-1));replace g:=g (by rw [hT.1]; exact hT.2 (j-1) (by omega) (by omega) (by omega));rw [gi_gg E,gi_gg z];simp only [jaa];rw [A];simp only [jaa];by_cases b:c<0
  ·right;rw [if_pos (by simpa using b),kwG E,kwG z];simp only [klx,knZ,jdf,jbs];rw [if_neg (by omega),jae z];simp only [jaa];have f:=Is.swap E z;have D:=g.1 b;refine ⟨_,rfl,⟨j-1,rfl,by omega,by omega,hm.trans (f.mv (λk P=>?_) (λk g1 o=>?_)),⟨by dsimp only; rw [f.gg,if_pos rfl]; exact hT.1,λk k1 k2 k3=>?_⟩,λx y g1 o s I=>?_⟩,by dsimp only; omega⟩
   ·rw [if_neg (by omega),if_neg (by omega)]
   ·split
    ·omega
    ·split <;> omega
   ·dsimp only;rw [f.gg,if_neg (show ¬ k=j-1 from k3)];split
    ·exact hT.2 (j-1) (by omega) (by omega) (by omega)
    ·exact hT.2 k k1 k2 (by omega)
   ·dsimp only;rw [f.gg,f.gg];by_cases t:y=j
    ·subst t;rw [if_neg (show ¬ y=y-1 by omega),if_pos rfl];by_cases r:x=y-1
     ·rw [if_pos r]; exact ok.nle D
     ·rw [if_neg r,if_neg (by omega)]; exact p x (y-1) g1 (by omega) (by omega) (by omega)
    ·rw [if_neg (show ¬ y=j-1 from I),if_neg t];by_cases r:x=j-1
     ·rw [if_pos r]; exact p j y (by omega) (by omega) s t
     ·rw [if_neg r];by_cases H:x=j
      ·rw [if_pos H]; exact p (j-1) y (by omega) (by omega) s t
      ·rw [if_neg H]; exact p x y g1 o s t
  ·left;rw [if_neg (by simpa using b)];refine ⟨_,rfl,hm,λx y g1 o s=>?_⟩;have w:le (gg v (j-1)) (gg v j):=Classical.byContradiction λh=>b (g.2 h);by_cases e:y=j
   ·subst e;by_cases r:x=y-1
    ·rw [r]; exact w
    ·exact ok.tr _ _ _ (p x (y-1) g1 (by omega) (by omega) (by omega)) w
   ·exact p x y g1 o (by omega) e
 ·left;rw [if_neg (by simpa using hc)];exact ⟨_,rfl,hm,λx y g1 o s=>p x y g1 o (by omega) (by omega)⟩
theorem kwC {a b:Nat} {l:Ya Line} (G:a<=1000) (E:b<=l.length) (hl:l.length<=1000) (p:Inc l a b):∃ l',kaA a b cmp l=some l'/\Mv a b l l'/\Srt le l' a b:=by
 unfold kaA;by_cases s:b<=a
 ·refine ⟨l,?_,.refl _ _ _,λi j c h2 w=>by omega⟩;rw [w64n (n:=a+1) (by push_cast; rfl) (by omega),kfy (n:=1) (kck (z:=l) (by unfold kaG; dsimp only; rw [if_neg (by simp; omega)])) (by omega)];rfl
 ·obtain ⟨z,hz,c,h2⟩:=Fl.iter_inv (F:=kaG a b cmp) (λv=>∃ i:Nat,v.1=i/\a<i/\i<=b/\Mv a i l v.2/\Srt le v.2 a i)
   (λv=>b-v.1.toNat) (λl'=>Mv a b l l'/\Srt le l' a b) (λ⟨D,v⟩ ⟨i,hi,c,h2,hm,f⟩=>by
    dsimp only at hi hm f ⊢;subst hi;unfold kaG;dsimp only;by_cases hc:i<b
    ·right;rw [if_pos (by simpa using hc)];obtain ⟨l',e,g1,o⟩:=ins1 ok (a:=a) (i:=i) (l:=v) (by rw [hm.len]; omega) (by omega) (by rw [hm.len]; omega) f (λx y k1 k2 k3 A=>by
      obtain ⟨t,g,H,r⟩:=hm.ins x k1 k2;rw [r,hm.out y (.inr k3)]; exact p t y g (by omega) (by omega))
     rw [e];simp only [jaa];rw [w64n (n:=i+1) (by push_cast; rfl) (by omega)];exact ⟨_,rfl,⟨i+1,rfl,by omega,by omega,(hm.wide (jah _) (by omega)).trans (g1.wide (jah _) (jah _)),o⟩,by dsimp only; omega⟩
    ·left;rw [if_neg (by simpa using hc)];exact ⟨_,rfl,hm.wide (jah _) h2,by rwa [show i=b by omega] at f⟩)
   (((a+1:Nat):Int),l) ⟨a+1,rfl,by omega,by omega,.refl _ _ _,λi j c h2 w=>by omega⟩ (by dsimp only; omega)
  rw [w64n (n:=a+1) (by push_cast; rfl) (by omega),hz];exact ⟨z,rfl,c,h2⟩
end
theorem knK {i j:Nat} (h:i+j<=100000):gshr .u64 (IntKind.wrap .u64 (w64 ((i:Int)+j))) 1=some (((i+j) / 2:Nat):Int):=by
 rw [w64n (n:=i+j) (by push_cast; rfl) (by omega)];have a:IntKind.wrap .u64 ((i+j:Nat):Int)=((i+j:Nat):Int):=by
  unfold IntKind.wrap;simp [IntKind.bits,IntKind.signed];omega
 rw [a];unfold gshr;rw [if_pos (by omega)];have:(2:Int) ^ (min (1:Int).toNat (IntKind.bits .u64))=2:=by decide
 rw [this,Int.fdiv_eq_ediv_of_nonneg _ (by omega)];congr 1
section
variable {cmp:Line×Line->Yb Int} {le:Line->Line->Prop} (ok:COk cmp le)
include ok
theorem sm_L0 {a m b:Nat} {l:Ya Line} (A:a<l.length) (hm:m<=b) (H:b<=l.length) (hl:l.length<=1000) (hs:Srt le l m b) (y:∀ k,m<=k->k<b->Lt (gg l a) (gg l k)) :
  ∃ z,iter (kba a cmp l) ((m:Int),(b:Int))=some z/\∃ i:Nat,z=i/\m<=i/\i<=b/\(∀ k,m<=k->k<i->¬ le (gg l a) (gg l k))/\∀ k,i<=k->k<b->le (gg l a) (gg l k):=by
 refine Fl.iter_inv (F:=kba a cmp l) (λv=>∃ i j:Nat,v.1=i/\v.2=j/\m<=i/\i<=j/\j<=b/\(∀ k,m<=k->k<i->¬ le (gg l a) (gg l k))/\∀ k,j<=k->k<b->le (gg l a) (gg l k))
  (λv=>v.2.toNat-v.1.toNat) (λz=>∃ i:Nat,z=i/\m<=i/\i<=b/\(∀ k,m<=k->k<i->¬ le (gg l a) (gg l k))/\∀ k,i<=k->k<b->le (gg l a) (gg l k)) (λ⟨E,G⟩ ⟨i,j,hi,s,t,h2,D,r,w⟩=>?_) _ ⟨m,b,rfl,rfl,jah _,hm,jah _,λk g1 o=>by omega,λk g1 o=>by omega⟩ (by dsimp only; omega)
 dsimp only at hi s ⊢;subst hi; subst s;unfold kba;dsimp only;by_cases hc:i<j
 ·right;rw [if_pos (by simpa using hc),knK (by omega)];generalize K:(i+j) / 2=h;have J:i<=h:=by omega
  have I:h<j:=by omega
  simp only [jaa];rw [w64n (x:=(h:Int)) (n:=h) rfl (by omega),gi_gg (show h<l.length by omega),gi_gg A];simp only [jaa];obtain ⟨c,p,f⟩:=ok.c (gg l h) (gg l a);replace f:=f (y h (by omega) (by omega));rw [p];simp only [jaa];by_cases e:c<0
  ·rw [if_pos (by simpa using e),w64n (n:=h+1) (by push_cast; rfl) (by omega)];refine ⟨_,rfl,⟨h+1,j,rfl,rfl,by omega,by omega,D,λk g1 o g=>f.1 e ?_,w⟩,by dsimp only; omega⟩;exact ok.tr _ _ _ g (hs.le' ok g1 (by omega) (by omega))
  ·rw [if_neg (by simpa using e)];have g:le (gg l a) (gg l h):=Classical.byContradiction λx=>e (f.2 x);exact ⟨_,rfl,⟨i,h,rfl,rfl,t,by omega,by omega,r,λk g1 o=>ok.tr _ _ _ g (hs.le' ok (by omega) g1 o)⟩,by dsimp only; omega⟩
 ·left;rw [if_neg (by simpa using hc)];exact ⟨_,rfl,i,rfl,t,by omega,r,λk g1 o=>w k (by omega) o⟩
theorem sm_L2 {a m:Nat} {l:Ya Line} (hm:m<l.length) (y:a<=m) (hl:l.length<=1000) (hs:Srt le l a m) (w:∀ k,a<=k->k<m->Lt (gg l k) (gg l m)) :
  ∃ z,iter (kaX m cmp l) ((a:Int),(m:Int))=some z/\∃ i:Nat,z=i/\a<=i/\i<=m/\(∀ k,a<=k->k<i->le (gg l k) (gg l m))/\∀ k,i<=k->k<m->¬ le (gg l k) (gg l m):=by
 refine Fl.iter_inv (F:=kaX m cmp l) (λv=>∃ i j:Nat,v.1=i/\v.2=j/\a<=i/\i<=j/\j<=m/\(∀ k,a<=k->k<i->le (gg l k) (gg l m))/\∀ k,j<=k->k<m->¬ le (gg l k) (gg l m))
  (λv=>v.2.toNat-v.1.toNat) (λz=>∃ i:Nat,z=i/\a<=i/\i<=m/\(∀ k,a<=k->k<i->le (gg l k) (gg l m))/\∀ k,i<=k->k<m->¬ le (gg l k) (gg l m)) (λ⟨D,E⟩ ⟨i,j,hi,r,s,h2,A,p,t⟩=>?_) _ ⟨a,m,rfl,rfl,jah _,y,jah _,λk g1 g=>by omega,λk g1 g=>by omega⟩ (by dsimp only; omega)
 dsimp only at hi r ⊢;subst hi; subst r;unfold kaX;dsimp only;by_cases hc:i<j
 ·right;rw [if_pos (by simpa using hc),knK (by omega)];generalize I:(i+j) / 2=h;have H:i<=h:=by omega
  have G:h<j:=by omega
  simp only [jaa];rw [w64n (x:=(h:Int)) (n:=h) rfl (by omega),gi_gg (show h<l.length by omega),gi_gg hm];simp only [jaa];obtain ⟨c,o,e⟩:=ok.c (gg l m) (gg l h);replace e:=e (w h (by omega) (by omega));rw [o];simp only [jaa];by_cases b:c<0
  ·rw [if_neg (by simpa using b)];exact ⟨_,rfl,⟨i,h,rfl,rfl,s,by omega,by omega,p,λk g1 g f=>e.1 b (ok.tr _ _ _ (hs.le' ok (by omega) g1 g) f)⟩,by dsimp only; omega⟩
  ·rw [if_pos (by simpa using b),w64n (n:=h+1) (by push_cast; rfl) (by omega)];have f:le (gg l h) (gg l m):=Classical.byContradiction λx=>b (e.2 x);exact ⟨_,rfl,⟨h+1,j,rfl,rfl,by omega,by omega,A,λk g1 g=>ok.tr _ _ _ (hs.le' ok g1 (by omega) (by omega)) f,t⟩,by dsimp only; omega⟩
 ·left;rw [if_neg (by simpa using hc)];exact ⟨_,rfl,i,rfl,s,by omega,p,λk g1 g=>t k (by omega) g⟩
theorem sm_L4 {lo hi n m:Nat} {md:Int} {l:Ya Line} (p:lo<=hi) (G:md+m=n) (D:0<=md) (L:hi<n) (hn:n<=l.length+lo) (H:hi<=l.length) (hl:l.length<=1000) (I:n<=3000) (E:∀ k,lo<=k->k<hi->Lt (gg l k) (gg l (n-1-k))) :
  ∃ z,iter (kaZ m cmp l md) ((lo:Int),(hi:Int))=some z/\∃ s:Nat,z=s/\lo<=s/\s<=hi/\(lo<s->le (gg l (s-1)) (gg l (n-s)))/\(s<hi->¬ le (gg l s) (gg l (n-1-s))):=by
 refine Fl.iter_inv (F:=kaZ m cmp l md) (λv=>∃ i j:Nat,v.1=i/\v.2=j/\lo<=i/\i<=j/\j<=hi/\(lo<i->le (gg l (i-1)) (gg l (n-i)))/\(j<hi->¬ le (gg l j) (gg l (n-1-j))))
  (λv=>v.2.toNat-v.1.toNat) (λz=>∃ s:Nat,z=s/\lo<=s/\s<=hi/\(lo<s->le (gg l (s-1)) (gg l (n-s)))/\(s<hi->¬ le (gg l s) (gg l (n-1-s)))) (λ⟨J,K⟩ ⟨i,j,e,t,w,h2,A,r,y⟩=>?_) _ ⟨lo,hi,rfl,rfl,jah _,p,jah _,λg=>by omega,λg=>by omega⟩ (by dsimp only; omega)
 dsimp only at e t ⊢;subst e; subst t;unfold kaZ;dsimp only;by_cases hc:i<j
 ·right;rw [if_pos (by simpa using hc),knK (by omega)];generalize Q:(i+j) / 2=h;have P:i<=h:=by omega
  have O:h<j:=by omega
  simp only [jaa];rw [w64n (x:=(h:Int)) (n:=h) rfl (by omega),kaz (x:=md) (by omega) (by omega),w64n (x:=md+m) (n:=n) (by omega) (by omega),w64n (x:=(n:Int)-1) (n:=n-1) (by omega) (by omega),w64n (x:=((n-1:Nat):Int)-h) (n:=n-1-h) (by omega) (by omega),gi_gg (show n-1-h<l.length by omega),gi_gg (show h<l.length by omega)];simp only [jaa];obtain ⟨c,f,b⟩:=ok.c (gg l (n-1-h)) (gg l h);replace b:=b (E h (by omega) (by omega));rw [f];simp only [jaa];by_cases a:c<0
  ·rw [if_neg (by simpa using a)];exact ⟨_,rfl,⟨i,h,rfl,rfl,w,by omega,by omega,r,λ_=>b.1 a⟩,by dsimp only; omega⟩
  ·rw [if_pos (by simpa using a),w64n (n:=h+1) (by push_cast; rfl) (by omega)];have o:le (gg l h) (gg l (n-1-h)):=Classical.byContradiction λx=>a (b.2 x);exact ⟨_,rfl,⟨h+1,j,rfl,rfl,by omega,by omega,A,λ_=>by rw [show h+1-1=h by omega,show n-(h+1)=n-1-h by omega]; exact o,y⟩,by dsimp only; omega⟩
 ·left;rw [if_neg (by simpa using hc)];obtain rfl:i=j:=by omega
  exact ⟨_,rfl,i,rfl,w,A,r,y⟩
end
theorem sm_L1 {a i:Nat} {l:Ya Line} (p:a<i) (hi:i<=l.length) (hl:l.length<=1000) :
  ∃ l',iter (kaW i) ((a:Int),l)=some l'/\Is (λk=>if a<=k/\k<i-1 then k+1 else if k=i-1 then a else k) l l':=by
 refine Fl.iter_inv (F:=kaW i) (λv=>∃ j:Nat,v.1=j/\a<=j/\j<=i-1/\Is (λk=>if a<=k/\k<j then k+1 else if k=j then a else k) l v.2)
  (λv=>i-v.1.toNat) (λl'=>Is (λk=>if a<=k/\k<i-1 then k+1 else if k=i-1 then a else k) l l') (λ⟨o,v⟩ ⟨j,e,r,h2,b⟩=>?_) _ ⟨a,rfl,jah _,by omega,(Is.refl l).congr (λk c=>by rw [if_neg (by omega)]; split <;> omega) (λk c=>by rw [if_neg (by omega),if_neg (by omega)]; exact c)⟩ (by dsimp only; omega)
 dsimp only at e b ⊢;subst e;unfold kaW;dsimp only;rw [w64n (x:=(i:Int)-1) (n:=i-1) (by omega) (by omega)];by_cases hc:j<i-1
 ·right;have g:j<v.length:=by rw [b.len]; omega
  have f:j+1<v.length:=by rw [b.len]; omega
  rw [if_pos (by simpa using hc),w64n (n:=j+1) (by push_cast; rfl) (by omega)];simp only [klx,knZ,jae g,jae f,jaa,jdf,jbs];rw [if_neg (by omega)];simp only [jaa];refine ⟨_,rfl,⟨j+1,rfl,by omega,by omega,(b.trans (Is.swap g f)).congr (λk c=>?_) (λk c=>?_)⟩,by dsimp only; omega⟩
  ·repeat' split
   all_goals omega
  ·repeat' split
   all_goals omega
 ·left;rw [if_neg (by simpa using hc)];obtain rfl:j=i-1:=by omega
  exact ⟨_,rfl,b⟩
theorem sm_L3 {m i:Nat} {l:Ya Line} (hi:i<=m) (hm:m<l.length) (hl:l.length<=1000) :
  ∃ l',iter (kaY i) ((m:Int),l)=some l'/\Is (λk=>if k=i then m else if i<k/\k<=m then k-1 else k) l l':=by
 refine Fl.iter_inv (F:=kaY i) (λv=>∃ j:Nat,v.1=j/\i<=j/\j<=m/\Is (λk=>if k=j then m else if j<k/\k<=m then k-1 else k) l v.2)
  (λv=>v.1.toNat) (λl'=>Is (λk=>if k=i then m else if i<k/\k<=m then k-1 else k) l l') (λ⟨g,v⟩ ⟨j,c,o,h2,a⟩=>?_) _ ⟨m,rfl,hi,jah _,(Is.refl l).congr (λk b=>by split <;> (try split) <;> omega) (λk b=>by split <;> (try split) <;> omega)⟩ (by dsimp only; omega)
 dsimp only at c a ⊢;subst c;unfold kaY;dsimp only;by_cases hc:i<j
 ·right;have f:j<v.length:=by rw [a.len]; omega
  have e:j-1<v.length:=by omega
  rw [if_pos (by simpa using hc),w64n (n:=j-1) (by omega) (by omega)];simp only [klx,knZ,jae f,jae e,jaa,jdf,jbs];rw [if_neg (by omega)];simp only [jaa];refine ⟨_,rfl,⟨j-1,rfl,by omega,by omega,(a.trans (Is.swap f e)).congr (λk b=>?_) (λk b=>?_)⟩,by dsimp only; omega⟩
  ·repeat' split
   all_goals omega
  ·repeat' split
   all_goals omega
 ·left;rw [if_neg (by simpa using hc)];obtain rfl:j=i:=by omega
  exact ⟨_,rfl,a⟩
theorem kyA {s m e k:Nat} (hs:s<=m) (hm:m<=e) (h:¬ (s<m/\m<e)):k=rotF s m e k:=by
 unfold rotF; repeat' split
 all_goals omega
theorem kBj {s m e k:Nat} (hs:s<=m) (hm:m<=e) (h:k<s\/e<=k):rotF s m e k=k:=by
 unfold rotF; repeat' split
 all_goals omega
theorem kBF {s m e k:Nat} (hs:s<=m) (hm:m<=e) (a:s<=k) (h2:k<e):s<=rotF s m e k/\rotF s m e k<e:=by
 unfold rotF; repeat' split
 all_goals omega
section
variable {cmp:Line×Line->Yb Int} {le:Line->Line->Prop} (ok:COk cmp le)
theorem Srt.out {l l':Ya Line} {a b x y:Nat} (h:Mv a b l l') (hs:Srt le l x y) (f:y<=a\/b<=x):Srt le l' x y:=λi j c h2 e=>by
 rw [h.out i (by omega),h.out j (by omega)]; exact hs i j c h2 e
include ok
theorem kig:∀ (N a m b:Nat) (l:Ya Line),b-a<=N->a<m->m<b->b<=l.length->l.length<=1000->Srt le l a m->Srt le l m b->Tg l a m b->
  ∃ l',kaq N a m b cmp l=some l'/\Mv a b l l'/\Srt le l' a b
 | 0,a,m,b,l,hN,h1,h2,h3,hl,s1,s2,ht=>by omega
 | N+1,a,m,b,l,hN,h1,h2,h3,hl,s1,s2,ht=>by
  show ∃ l',kbH (kaq N) a m b cmp l=some l'/\_;unfold kbH;rw [w64n (x:=(m:Int)-a) (n:=m-a) (by omega) (by omega),w64n (x:=(b:Int)-m) (n:=b-m) (by omega) (by omega)];by_cases c1:m-a=1
  ·rw [if_pos (by simpa using (by omega:((m-a:Nat):Int)=1))];obtain ⟨z,hz,i,rfl,g1,g2,g3,g4⟩:=sm_L0 ok (a:=a) (by omega) (Nat.le_of_lt h2) h3 hl s2 (λk k1 k2=>ht a k (jah _) h1 k1 k2);rw [hz];simp only [jaa];obtain ⟨l',e,f⟩:=sm_L1 (a:=a) (i:=i) (l:=l) (by omega) (by omega) hl;rw [e];refine ⟨l',rfl,f.mv (λk G=>?_) (λk k1 k2=>?_),λx y k1 k2 k3=>?_⟩
   ·rw [if_neg (by omega),if_neg (by omega)]
   ·repeat' split
    all_goals omega
   ·rw [f.gg,f.gg];by_cases e1:y<i-1
    ·rw [if_pos (by omega),if_pos (by omega)]; exact s2 _ _ (by omega) (by omega) (by omega)
    ·by_cases W:y=i-1
     ·rw [if_pos (show a<=x/\x<i-1 by omega),if_neg (by omega),if_pos W];exact ok.nle (g3 (x+1) (by omega) (by omega))
     ·rw [if_neg (show ¬ (a<=y/\y<i-1) by omega),if_neg W];have hy:le (gg l a) (gg l y):=g4 y (by omega) k3;by_cases e3:x<i-1
      ·rw [if_pos (by omega)]; exact ok.tr _ _ _ (ok.nle (g3 (x+1) (by omega) (by omega))) hy
      ·rw [if_neg (by omega)];by_cases O:x=i-1
       ·rw [if_pos O]; exact hy
       ·rw [if_neg O]; exact s2 x y (by omega) k2 k3
  rw [if_neg (by simpa using (by omega:¬ ((m-a:Nat):Int)=1))];by_cases c2:b-m=1
  ·rw [if_pos (by simpa using (by omega:((b-m:Nat):Int)=1))];obtain ⟨z,hz,i,rfl,g1,g2,g3,g4⟩:=sm_L2 ok (a:=a) (m:=m) (by omega) (Nat.le_of_lt h1) hl s1 (λk k1 k2=>ht k m k1 k2 (jah _) h2);rw [hz];simp only [jaa];obtain ⟨l',e,f⟩:=sm_L3 (m:=m) (i:=i) (l:=l) g2 (by omega) hl;rw [e];refine ⟨l',rfl,f.mv (λk G=>?_) (λk k1 k2=>?_),λx y k1 k2 k3=>?_⟩
   ·rw [if_neg (by omega),if_neg (by omega)]
   ·repeat' split
    all_goals omega
   ·rw [f.gg,f.gg];by_cases e1:y<i
    ·rw [if_neg (by omega),if_neg (by omega),if_neg (by omega),if_neg (by omega)]; exact s1 _ _ k1 k2 (by omega)
    ·by_cases W:y=i
     ·rw [if_neg (show ¬ x=i by omega),if_neg (by omega),if_pos W];exact g3 x k1 (by omega)
     ·rw [if_neg W,if_pos (show i<y/\y<=m by omega)];by_cases e3:x<i
      ·rw [if_neg (by omega),if_neg (by omega)];exact s1 x (y-1) k1 (by omega) (by omega)
      ·by_cases O:x=i
       ·rw [if_pos O];exact ok.nle (g4 (y-1) (by omega) (by omega))
       ·rw [if_neg O,if_pos (by omega)];exact s1 (x-1) (y-1) (by omega) (by omega) (by omega)
  rw [if_neg (by simpa using (by omega:¬ ((b-m:Nat):Int)=1)),knK (by omega)];generalize ak:(a+b) / 2=c;simp only [jaa];rw [w64n (x:=(c:Int)) (n:=c) rfl (by omega),w64n (x:=(c:Int)+m) (n:=c+m) (by push_cast; rfl) (by omega)];obtain ⟨lo,hi,ad,q1,q2,q3,q4,q5,q6⟩:∃ lo hi:Nat,(if decide ((c:Int)<(m:Int))=true then (some (w64 (((c+m:Nat):Int)-b),(c:Int)):Yb (Int×Int)) else some ((a:Int),(m:Int)))=some ((lo:Int),(hi:Int))/\lo<=hi/\hi<c+m/\c+m<=l.length+lo/\hi<=l.length/\(hi=m/\m<=c\/hi=c/\c<m)/\(lo=a/\m<=c\/lo+b=c+m/\c<m):=by
   by_cases hc:c<m
   ·refine ⟨c+m-b,c,?_,by omega,by omega,by omega,by omega,.inr ⟨rfl,hc⟩,.inr ⟨by omega,hc⟩⟩;rw [if_pos (by simpa using hc),w64n (n:=c+m-b) (by omega) (by omega)]
   ·exact ⟨a,m,by rw [if_neg (by simpa using hc)],by omega,by omega,by omega,by omega,.inl ⟨rfl,by omega⟩,.inl ⟨rfl,by omega⟩⟩
  rw [ad];simp only [jaa];obtain ⟨z,hz,s,rfl,r1,r2,r3,r4⟩:=sm_L4 ok (l:=l) (lo:=lo) (hi:=hi) (n:=c+m) (m:=m) (md:=c) q1 (by push_cast; rfl) (by omega) q2 q3 q4 hl (by omega) (λk k1 k2=>ht k _ (by omega) (by omega) (by omega) (by omega));rw [hz];simp only [jaa];obtain ⟨e,he⟩:∃ e,e=c+m-s:=⟨_,rfl⟩;rw [w64n (x:=((c+m:Nat):Int)-s) (n:=e) (by omega) (by omega)];have al:e+s=c+m:=by omega
  have has:a<=s:=by omega
  have r:s<=m:=by omega
  have am:s<=c:=by omega
  have p:m<=e:=by omega
  have ah:c<=e:=by omega
  have ae:e<=b:=by omega
  rw [show c+m-s=e by omega,show c+m-1-s=e-1 by omega] at *
  obtain ⟨l1,o,f⟩:∃ l1,((if decide ((s:Int)<(m:Int))=true then (some (decide ((m:Int)<(e:Int))):Yb Bool) else some false).bind λP=>((if P=true then ((kaQ s m e cmp l).bind λab=>some ab) else some l):Yb (Ya Line)))=some l1/\Is (rotF s m e) l l1:=by
   by_cases hc:s<m/\m<e
   ·rw [if_pos (by simpa using hc.1)];simp only [jaa];rw [if_pos (by simpa using hc.2)];obtain ⟨l1,Q,L⟩:=kxI s m e cmp l hc.1 hc.2 (by omega) hl;exact ⟨l1,by rw [Q]; rfl,L⟩
   ·refine ⟨l,?_,(Is.refl l).congr (λk G=>kyA r p hc) (λk G=>by rw [<-kyA r p hc]; exact G)⟩;by_cases g:s<m
    ·rw [if_pos (by simpa using g)];simp only [jaa];rw [if_neg (by simp; omega)]
    ·rw [if_neg (by simpa using g)]; rfl
  obtain ⟨P,K,o⟩:=jab.1 o;rw [K];simp only [jaa];rw [o];simp only [jaa];have ac:=f.len;have p1:Srt le l1 a s:=λx y k1 k2 k3=>by
   rw [f.gg,f.gg]; unfold rotF; rw [if_pos (by omega),if_pos (by omega)]; exact s1 x y k1 k2 (by omega)
  have p2:Srt le l1 s c:=λx y k1 k2 k3=>by
   rw [f.gg,f.gg]; unfold rotF;rw [if_neg (by omega),if_pos (by omega),if_neg (by omega),if_pos (by omega)]; exact s2 _ _ (by omega) (by omega) (by omega)
  have p3:Srt le l1 c e:=λx y k1 k2 k3=>by
   rw [f.gg,f.gg]; unfold rotF;rw [if_neg (by omega),if_neg (by omega),if_pos (by omega),if_neg (by omega),if_neg (by omega),if_pos (by omega)]; exact s1 _ _ (by omega) (by omega) (by omega)
  have p4:Srt le l1 e b:=λx y k1 k2 k3=>by
   rw [f.gg,f.gg]; unfold rotF;rw [if_neg (by omega),if_neg (by omega),if_neg (by omega),if_neg (by omega),if_neg (by omega),if_neg (by omega)]; exact s2 _ _ (by omega) k2 k3
  have t1:Tg l1 a s c:=λx y k1 k2 k3 D=>by
   rw [f.gg,f.gg]; unfold rotF; rw [if_pos (by omega),if_neg (by omega),if_pos (by omega)]; exact ht _ _ k1 (by omega) (by omega) (by omega)
  have t4:Tg l1 c e b:=λx y k1 k2 k3 D=>by
   rw [f.gg,f.gg]; unfold rotF;rw [if_neg (by omega),if_neg (by omega),if_pos (by omega),if_neg (by omega),if_neg (by omega),if_neg (by omega)]; exact ht _ _ (by omega) (by omega) (by omega) D
  have A:∀ x y,a<=x->x<c->c<=y->y<b->le (gg l1 x) (gg l1 y):=λx y k1 k2 k3 D=>by
   rw [f.gg,f.gg];unfold rotF;by_cases Z:x<s
   ·rw [if_pos Z,if_neg (by omega),if_neg (by omega)];by_cases w:y<e
    ·rw [if_pos w]; exact s1.le' ok k1 (by omega) (by omega)
    ·rw [if_neg w];exact ok.tr _ _ _ (s1.le' ok (i:=x) (j:=s-1) k1 (by omega) (by omega)) (ok.tr _ _ _ (r3 (by omega)) (s2.le' ok (i:=e) (j:=y) (by omega) (by omega) D))
   ·rw [if_neg Z,if_pos (by omega),if_neg (by omega),if_neg (by omega)];by_cases w:y<e
    ·rw [if_pos w];exact ok.tr _ _ _ (s2.le' ok (i:=x+(m-s)) (j:=e-1) (by omega) (by omega) (by omega)) (ok.tr _ _ _ (ok.nle (r4 (by omega))) (s1.le' ok (i:=s) (j:=y-(e-m)) (by omega) (by omega) (by omega)))
    ·rw [if_neg w]; exact s2.le' ok (by omega) (by omega) D
  have m1:Mv a b l l1:=(f.mv (a:=s) (b:=e) (λk G=>kBj r p G) (λk k1 k2=>kBF r p k1 k2)).wide has ae;obtain ⟨l2,F,t,t2⟩:∃ l2,((if decide ((a:Int)<(s:Int))=true then (some (decide ((s:Int)<(c:Int))):Yb Bool) else some false).bind λH=>((if H=true then ((kaq N a s c cmp l1).bind λaj=>some aj) else some l1):Yb (Ya Line)))=some l2/\Mv a c l1 l2/\Srt le l2 a c:=by
   by_cases hc:a<s/\s<c
   ·rw [if_pos (by simpa using hc.1)];simp only [jaa];rw [if_pos (by simpa using hc.2)];obtain ⟨l2,Q,L,h6⟩:=kig N a s c l1 (by omega) hc.1 hc.2 (by omega) (by omega) p1 p2 t1;exact ⟨l2,by rw [Q]; rfl,L,h6⟩
   ·refine ⟨l1,?_,.refl _ _ _,λx y k1 k2 k3=>?_⟩
    ·by_cases g:a<s
     ·rw [if_pos (by simpa using g)];simp only [jaa];rw [if_neg (by simp; omega)]
     ·rw [if_neg (by simpa using g)]; rfl
    ·by_cases g:a<s
     ·exact p1 x y k1 k2 (by omega)
     ·exact p2 x y (by omega) k2 k3
  obtain ⟨H,J,F⟩:=jab.1 F;rw [J];simp only [jaa];rw [F];simp only [jaa];have aa:=t.len;have I:=p3.out t (.inr (jah _));have U:=p4.out t (.inr ah);obtain ⟨E,af,m3,t3⟩:∃ E,((if decide ((c:Int)<(e:Int))=true then (if decide ((e:Int)<(b:Int))=true then ((kaq N c e b cmp l2).bind λai=>some ai) else some l2) else some l2):Yb (Ya Line))=some E/\Mv c b l2 E/\Srt le E c b:=by
   by_cases hc:c<e/\e<b
   ·rw [if_pos (by simpa using hc.1),if_pos (by simpa using hc.2)];obtain ⟨E,Q,L,h6⟩:=kig N c e b l2 (by omega) hc.1 hc.2 (by omega) (by omega) I U (λx y k1 k2 k3 D=>by rw [t.out x (by omega),t.out y (by omega)]; exact t4 x y k1 k2 k3 D);exact ⟨E,by rw [Q]; rfl,L,h6⟩
   ·refine ⟨l2,?_,.refl _ _ _,λx y k1 k2 k3=>?_⟩
    ·by_cases g:c<e
     ·rw [if_pos (by simpa using g),if_neg (by simp; omega)]
     ·rw [if_neg (by simpa using g)]
    ·by_cases g:c<e
     ·exact I x y k1 k2 (by omega)
     ·exact U x y (by omega) k2 k3
  rw [af];refine ⟨E,rfl,m1.trans ((t.wide (jah _) (by omega)).trans (m3.wide (by omega) (jah _))),λx y k1 k2 k3=>?_⟩;by_cases Z:y<c
  ·exact t2.out m3 (.inl (jah _)) x y k1 k2 Z
  ·by_cases w:c<=x
   ·exact t3 x y w k2 k3
   ·rw [m3.out x (by omega)];obtain ⟨y',y1,y2,y3⟩:=m3.ins y (by omega) k3;obtain ⟨x',x1,x2,x3⟩:=t.ins x k1 (by omega);rw [y3,x3,t.out y' (by omega)];exact A x' y' x1 x2 y1 y2
end
theorem klQ {q a c:Nat} (h:a<q):a*c+c<=q*c:=by
 have:(a+1)*c<=q*c:=jbp c h
 rwa [jei] at this
section
variable {cmp:Line×Line->Yb Int} {le:Line->Line->Prop} (ok:COk cmp le)
def Tp (l:Ya Line) (c:Nat):Prop:=∀ i j,i<c->c<=j->j<l.length->Lt (gg l i) (gg l j)
theorem Tp.mv {l l':Ya Line} {a b c:Nat} (h:Tp l c) (hm:Mv a b l l') (x:b<=l.length) (hc:c<=a\/b<=c):Tp l' c:=λi j s h2 g=>by
 rw [hm.len] at g;obtain ⟨f,p,o⟩:∃ f,f<c/\gg l' i=gg l f:=by
  by_cases h:a<=i/\i<b
  ·obtain ⟨k,k1,k2,k3⟩:=hm.ins i h.1 h.2;exact ⟨k,by omega,k3⟩
  ·exact ⟨i,s,hm.out i (by omega)⟩
 obtain ⟨e,t,w,r⟩:∃ e,c<=e/\e<l.length/\gg l' j=gg l e:=by
  by_cases h:a<=j/\j<b
  ·obtain ⟨k,k1,k2,k3⟩:=hm.ins j h.1 h.2;exact ⟨k,by omega,by omega,k3⟩
  ·exact ⟨j,h2,g,hm.out j (by omega)⟩
 rw [o,r]; exact h f e p t w
theorem Tp.tg {l:Ya Line} {a m b:Nat} (h:Tp l m) (f:b<=l.length):Tg l a m b:=λi j e h2 c g=>h i j h2 c (by omega)
theorem Inc.mv {l v:Ya Line} {a b c:Nat} (h:Inc l 0 b) (hm:Mv 0 a l v) (hc:a<=c):Inc v c b:=λi j f h2 e=>by
 rw [hm.out i (.inr (by omega)),hm.out j (.inr (by omega))]; exact h i j (by omega) h2 e
def Blks (le:Line->Line->Prop) (n bs:Nat) (l:Ya Line):Prop:=∀ q,Srt le l (q*bs) (min n (q*bs+bs))
theorem Inc.sub {l:Ya Line} {a b b':Nat} (h:Inc l a b) (f:b'<=b):Inc l a b':=λi j c h2 e=>h i j c h2 (by omega)
theorem Srt.sub {l:Ya Line} {a b a' b':Nat} (h:Srt le l a b) (c:a<=a') (g:b'<=b):Srt le l a' b':=λi j e h2 f=>h i j (by omega) h2 (by omega)
include ok
theorem kAm {n:Nat} {l:Ya Line} (hn:n=l.length) (hl:l.length<=1000) (hI:Inc l 0 n) :
  ∃ z,iter (kbg n cmp) (20,0,l)=some z/\∃ a:Nat,z.1=a/\a<=n/\n<a+20/\(Mv 0 a l z.2/\∀ q,Tp z.2 (q*20))/\∀ q,q*20+20<=a/\Srt le z.2 (q*20) (q*20+20)\/q*20=a\/n<q*20:=by
 refine Fl.iter_inv (F:=kbg n cmp) (λv=>∃ q:Nat,v.1=((q*20+20:Nat):Int)/\v.2.1=((q*20:Nat):Int)/\q*20<=n/\(Mv 0 (q*20) l v.2.2/\∀ q,Tp v.2.2 (q*20))/\∀ c,c<q->Srt le v.2.2 (c*20) (c*20+20))
  (λv=>n+20-v.1.toNat) _ (λ⟨b',a',v⟩ ⟨q,f,g,p,⟨hm,hT⟩,hs⟩=>?_) _ ⟨0,rfl,rfl,by omega,⟨.refl _ _ _,λq i j k1 k2 k3=>hI i j (by omega) (by omega) (by rw [hn]; exact k3)⟩,λc h=>by omega⟩ (by dsimp only; omega)
 dsimp only at f g hm hT hs ⊢;subst f; subst g;unfold kbg;dsimp only;by_cases hc:q*20+20<=n
 ·right;rw [if_pos (by simp only [jaj]; omega)];obtain ⟨r,e,g1,o⟩:=kwC ok (a:=q*20) (b:=q*20+20) (l:=v) (by omega) (by rw [hm.len]; omega) (by rw [hm.len]; omega) ((hI.mv hm (jah _)).sub hc);rw [e];simp only [jaa];rw [w64n (n:=(q+1)*20+20) (by omega) (by omega)];refine ⟨_,rfl,⟨q+1,rfl,by dsimp only; omega,by omega,⟨(hm.wide (jah _) (by omega)).trans (g1.wide (by omega) (by omega)),λc=>(hT c).mv g1 (by rw [hm.len]; omega) (by omega)⟩,λc h=>?_⟩,by dsimp only; omega⟩;by_cases e:c=q
  ·subst e; exact o
  ·exact (hs c (by omega)).out g1 (.inl (by omega))
 ·left;rw [if_neg (by simp only [jaj]; omega)];refine ⟨_,rfl,q*20,rfl,p,by omega,⟨hm,hT⟩,λc=>?_⟩;rcases Nat.lt_trichotomy c q with h | h | h
  ·exact .inl ⟨by omega,hs c h⟩
  ·exact .inr (.inl (by omega))
  ·exact .inr (.inr (by omega))
theorem kAi {n bs:Nat} {l:Ya Line} (w:Int×Ya Line) (D:w.1=bs) (t:0<bs) (y:bs<n) (hn:n=l.length) (hl:l.length<=1000) (hB:Blks le n bs l) (hT0:∀ q,Tp l (q*bs)) :
  ∃ z,iter (kbh n cmp w) (((2*bs:Nat):Int),0,l)=some z/\∃ q:Nat,z.1=((q*(2*bs):Nat):Int)/\q*(2*bs)<=n/\n<q*(2*bs)+2*bs/\(Mv 0 n l z.2/\(∀ a,Tp z.2 (a*(2*bs)))/\∀ a,q*(2*bs)<=a*bs->Tp z.2 (a*bs))/\(∀ a,a<q->Srt le z.2 (a*(2*bs)) (a*(2*bs)+2*bs))/\∀ a,q*(2*bs)<=a*bs->Srt le z.2 (a*bs) (min n (a*bs+bs)):=by
 refine Fl.iter_inv (F:=kbh n cmp w) (λv=>∃ q:Nat,v.1=((q*(2*bs)+2*bs:Nat):Int)/\v.2.1=((q*(2*bs):Nat):Int)/\q*(2*bs)<=n/\(Mv 0 n l v.2.2/\(∀ a,Tp v.2.2 (a*(2*bs)))/\∀ a,q*(2*bs)<=a*bs->Tp v.2.2 (a*bs))/\(∀ a,a<q->Srt le v.2.2 (a*(2*bs)) (a*(2*bs)+2*bs))/\∀ a,q*(2*bs)<=a*bs->Srt le v.2.2 (a*bs) (min n (a*bs+bs)))
  (λv=>n+2*bs-v.1.toNat) _ (λ⟨b',a',v⟩ ⟨q,f,i,s,⟨hm,hT1,hT2⟩,hs,hr⟩=>?_) _ ⟨0,by dsimp only; simp,by dsimp only; simp,by omega,⟨.refl _ _ _,λa=>by have:=hT0 (2*a); rwa [show 2*a*bs=a*(2*bs) by rw [Nat.mul_comm 2 a,Nat.mul_assoc]] at this,λa _=>hT0 a⟩,λa h=>by omega,λa _=>hB a⟩ (by dsimp only; omega)
 dsimp only at f i hm hT1 hT2 hs hr ⊢;subst f; subst i;unfold kbh;dsimp only;have g:(2*q)*bs=q*(2*bs):=by rw [Nat.mul_comm 2 q,Nat.mul_assoc]
 have o:(2*q+1)*bs=q*(2*bs)+bs:=by rw [jei,g]
 by_cases hc:q*(2*bs)+2*bs<=n
 ·right;generalize hA:q*(2*bs)=A at *
  rw [if_pos (by simp only [jaj]; omega),D,w64n (x:=(A:Int)+bs) (n:=A+bs) (by push_cast; rfl) (by omega),w64n (x:=2*(bs:Int)) (n:=2*bs) (by omega) (by omega),w64n (x:=((A+2*bs:Nat):Int)+((2*bs:Nat):Int)) (n:=A+2*bs+2*bs) (by omega) (by omega)];have r1:=hr (2*q) (by omega);have r2:=hr (2*q+1) (by omega);rw [g] at r1;rw [o] at r2;have tp:=hT2 (2*q+1) (by omega);rw [o] at tp;obtain ⟨r,e,g1,p⟩:=kig ok 1000000 A (A+bs) (A+2*bs) v (by omega) (by omega) (by omega) (by rw [hm.len]; omega) (by rw [hm.len]; omega) (r1.sub (jah _) (by omega)) (r2.sub (jah _) (by omega)) (tp.tg (by rw [hm.len]; omega));have e':kaJ A ((A+bs:Nat):Int) ((A+2*bs:Nat):Int) cmp v=some r:=e;rw [e'];simp only [jaa];have b:(q+1)*(2*bs)=A+2*bs:=by rw [jei,hA]
  refine ⟨_,rfl,⟨q+1,by dsimp only; rw [b],by dsimp only; rw [b],by omega,⟨hm.trans (g1.wide (by omega) hc),λa=>(hT1 a).mv g1 (by rw [hm.len]; omega) ?_,λa h=>(hT2 a (by rw [b] at h; omega)).mv g1 (by rw [hm.len]; omega) (by rw [b] at h; omega)⟩,λa h=>?_,λa h=>?_⟩,by dsimp only; omega⟩
  ·rcases jdm q a with h | h
   ·have:=klQ (c:=2*bs) h; right; omega
   ·left; rw [<-hA]; exact jbp _ h
  ·by_cases e:a=q
   ·subst e; rw [hA]; exact p
   ·refine (hs a (by omega)).out g1 (.inl ?_);have:=klQ (c:=2*bs) (show a<q by omega);omega
  ·rw [b] at h;exact (hr a (by omega)).out g1 (.inr h)
 ·left;rw [if_neg (by simp only [jaj]; omega)];exact ⟨_,rfl,q,rfl,s,by omega,⟨hm,hT1,hT2⟩,hs,hr⟩
theorem stable_spec {l:Ya Line} (hl:l.length<=1000) (hI:Inc l 0 l.length):∃ l',kbs (lenI l) cmp l=some l'/\l'.Perm l/\Srt le l' 0 l.length:=by
 unfold kbs;rw [kac];obtain ⟨⟨O,s⟩,hz,a,I,G,h2,⟨hm,hTz⟩,r⟩:=kAm ok (n:=l.length) (l:=l) rfl hl hI;dsimp only at I hm hTz r;subst I;rw [hz];simp only [jaa];obtain ⟨v,e,g1,p⟩:=kwC ok (a:=a) (b:=l.length) (l:=s) (by omega) (by rw [hm.len]; omega) (by rw [hm.len]; omega) (hI.mv hm (jah _));rw [e];simp only [jaa];have hB:Blks le l.length 20 v:=λq=>by
  rcases r q with ⟨o,K⟩ | o | o
  ·exact (K.out g1 (.inl o)).sub (jah _) (by omega)
  ·rw [o]; exact p.sub (jah _) (by omega)
  ·intro i j k1 k2 k3; omega
 have hM:Mv 0 l.length l v:=(hm.wide (jah _) G).trans (g1.wide (by omega) (jah _));have hTv:∀ q,Tp v (q*20):=λq=>by
  by_cases y:q*20<=a\/l.length<=q*20
  ·exact (hTz q).mv g1 (by rw [hm.len]; exact jah _) y
  ·rcases r q with ⟨o,_⟩ | o | o <;> omega
 obtain ⟨z,hz,hR⟩:=Fl.iter_inv (F:=kbR l.length cmp) (λv=>∃ bs:Nat,v.1=bs/\0<bs/\bs<=100000/\(Mv 0 l.length l v.2/\∀ q,Tp v.2 (q*bs))/\Blks le l.length bs v.2)
  (λv=>l.length-v.1.toNat) (λl'=>l'.Perm l/\Srt le l' 0 l.length) (λ⟨b',v⟩ ⟨bs,w,G,h2,⟨hm,hTb⟩,hB⟩=>by
   dsimp only at w hm hTb hB ⊢;subst w;unfold kbR;dsimp only;by_cases hc:bs<l.length
   ·right;rw [if_pos (by simp only [jaj]; omega),w64n (x:=2*(bs:Int)) (n:=2*bs) (by omega) (by omega)];obtain ⟨⟨O,s⟩,hz,q,r,k1,k2,⟨f,hT1,hT2⟩,hs,hr⟩:=kAi ok (n:=l.length) (bs:=bs) (l:=v) ((bs:Int),v) rfl G hc hm.len.symm (by rw [hm.len]; exact hl) hB hTb;dsimp only at r f hT1 hT2 hs hr;subst r;rw [hz];simp only [jaa];have H:(2*q)*bs=q*(2*bs):=by rw [Nat.mul_comm 2 q,Nat.mul_assoc]
    have J:(2*q+1)*bs=q*(2*bs)+bs:=by rw [jei,H]
    have fin:∀ g:Ya Line,Mv (q*(2*bs)) l.length s g->Srt le g (q*(2*bs)) l.length->(Mv 0 l.length l g/\∀ q,Tp g (q*(2*bs)))/\Blks le l.length (2*bs) g:=λg g1 p=>by
     refine ⟨⟨hm.trans (f.trans (g1.wide (by omega) (jah _))),λt=>(hT1 t).mv g1 (by rw [f.len,hm.len]; exact jah _) ?_⟩,λt=>?_⟩
     ·rcases jdm q t with h | h
      ·have:=klQ (c:=2*bs) h; right; omega
      ·left; exact jbp _ h
     rcases Nat.lt_trichotomy t q with h | h | h
     ·have:=klQ (c:=2*bs) h;exact ((hs t h).out g1 (.inl this)).sub (jah _) (by omega)
     ·subst h; exact p.sub (jah _) (by omega)
     ·have:=klQ (c:=2*bs) h;intro i j g1 p P; omega
    generalize hA:q*(2*bs)=A at *
    have r1:=hr (2*q) (by omega);have r2:=hr (2*q+1) (by omega);rw [H] at r1;rw [J] at r2;have tp:=hT2 (2*q+1) (by omega);rw [J] at tp;rw [w64n (x:=(A:Int)+bs) (n:=A+bs) (by push_cast; rfl) (by omega),w64n (x:=(bs:Int)*2) (n:=2*bs) (by omega) (by omega)];by_cases L:A+bs<l.length
    ·rw [if_pos (by simp only [jaj]; omega)];obtain ⟨g,e,g1,p⟩:=kig ok 1000000 A (A+bs) l.length s (by omega) (by omega) L (by rw [f.len,hm.len]; exact jah _) (by rw [f.len,hm.len]; exact hl) (r1.sub (jah _) (by omega)) (r2.sub (jah _) (by omega)) (tp.tg (by rw [f.len,hm.len]; exact jah _));have e':kaJ A ((A+bs:Nat):Int) l.length cmp s=some g:=e;rw [e'];simp only [jaa];obtain ⟨E,D⟩:=fin g g1 p;exact ⟨_,rfl,⟨2*bs,rfl,by omega,by omega,E,D⟩,by dsimp only; omega⟩
    ·rw [if_neg (by simp only [jaj]; omega)];obtain ⟨E,D⟩:=fin s (.refl _ _ _) (r1.sub (jah _) (by omega));exact ⟨_,rfl,⟨2*bs,rfl,by omega,by omega,E,D⟩,by dsimp only; omega⟩
   ·left;rw [if_neg (by simp only [jaj]; omega)];refine ⟨_,rfl,hm.perm,?_⟩;have:=hB 0;rw [Nat.zero_mul] at this;exact this.sub (jah _) (by omega))
  (20,v) ⟨20,rfl,by omega,by omega,⟨hM,hTv⟩,hB⟩ (by dsimp only; omega)
 rw [hz];exact ⟨z,rfl,hR⟩
end
end Go.Abs.St
namespace Go.Abs
open Go Go.Abs.Fl
def okC (x:It):Bool:=decide (0<=x.2.2)&&decide (x.2.2<=10000)
def prOk (l:Ya It):Bool:=decide (l.length<=60)&&!(l.zipIdx.any λx=>badI l x.2 x.1)&&l.all okC
theorem kuU (l:Ya It) (hl:l.length<=1000):kdS l 60 (λu=>(kbC u).bind λv=>some v)=some (!(l.zipIdx.any λx=>badI l x.2 x.1)&&decide (l.length<=60)):=by
 unfold kdS;rw [kiG (F:=kcI l _) false l (by omega) (badI l) (λi hi=>?_) (by unfold kcI; rw [if_neg (by simp [kac])])]
 ·by_cases h:(l.zipIdx.any λx=>badI l x.2 x.1)=true
  rotate_left
  ·rw [jbk] at h;simp only [h,jaf,if_false,jaa,jcl,jef,kac];congr 2; simp only [eq_iff_iff]; omega
  ·simp [h]
 ·unfold kcI;rw [if_pos (by rw [kac]; simpa using hi),kan hi,kah (by omega)];simp only [jaa,kbC,khz,badI];by_cases a:vP l[i]=true
  rotate_left
  ·rw [jbk] at a; simp [a]
  ·simp only [a,jbt,jaf,if_false,jcn];by_cases b:0<i
   ·rw [if_pos (by simpa using b),koX b (by omega),kan (by omega)];simp only [jaa,klY,kxZ,koY hi,b,decide_true,jef];by_cases c:ltI l[i-1] l[i]=true <;> simp [c]
   ·have:i=0:=by omega
    subst this; simp
theorem ktX (l:Ya It) (hl:l.length<=1000) (p:It->Bool):kaB l (λx=>some (p x))=some (l.any p):=by
 unfold kaB kbM;rw [kcB (F:=kaP l _) l (by omega) (λi x=>if p x then some (i:Int) else none) (λi hi=>by
  unfold kaP;rw [if_pos (by rw [kac]; simpa using hi),kan hi,kah (by omega)];simp only [jaa];by_cases h:p l[i]=true <;> simp [h,nextL]) (by unfold kaP; rw [if_neg (by simp [kac])])]
 have:∀ (l:Ya It) (k:Nat),endL ((l.zipIdx k).findSome? λx=>if p x.1 then some (x.2:Int) else none)=(if l.any p then .inl ((k:Int)+(l.findIdx p:Nat)) else .inr ()):=by
  intro l;induction l with
  | nil=>intro k; rfl
  | cons x l a=>
   intro k;rw [jbj,jcv,jdr,List.findIdx_cons];cases hp:p x with
   | true=>simp [endL]
   | false=>
    simp only [jaf,if_false,jcn,cond_false];rw [a (k+1)];congr 2; push_cast; omega
 rw [this l 0];by_cases h:l.any p=true <;> simp [h]
theorem kzp:(λa:It=>(kjr a).bind λb=>some b)=λu=>some (!okC u):=by
 funext u; simp [kjr,okC]
structure Prs (R:List It):Prop where
 l:R.length<=60
 inc:∀ i j,i<j->j<R.length->ordI (kc (at3 R i)) (kc (at3 R j)) = -1
 c:∀ i,i<R.length->0<=(at3 R i).2.2/\(at3 R i).2.2<=10000
theorem kBJ {a b c:Int×Int} (e:ordI a b = -1) (h2:ordI b c = -1):ordI a c = -1:=by
 unfold ordI at *
 repeat' split at e
 all_goals (try (first | cases e; done | skip))
 all_goals (repeat' split at h2)
 all_goals (repeat' split)
 all_goals omega
theorem kpx {a b:Int×Int} (c:ordI a b = -1):ordI b a=1/\a≠b:=by
 refine ⟨?_,?_⟩
 ·unfold ordI at *
  repeat' split at c
  all_goals (repeat' split)
  all_goals omega
 ·rintro rfl;unfold ordI at c;repeat' split at c
  all_goals omega
theorem kAl (a:Int×Int):ordI a a=0:=by unfold ordI; simp
theorem kBA (x y:It):ltI x y=true↔ordI (kc x) (kc y) = -1:=by
 unfold ltI ordI kc;simp only [jax,jac,jaj,beq_iff_eq];constructor
 ·rintro (h | ⟨a,h2⟩)
  ·simp [h]
  ·simp [a,h2]
 ·intro h;repeat' split at h
  all_goals omega
theorem kCW {R:Ya It} (h:prOk R=true):Prs R:=by
 unfold prOk at h;simp only [jac,jaj,jbf] at h;obtain ⟨⟨b,h2⟩,c⟩:=h;have hs:∀ i,i+1<R.length->ordI (kc (at3 R i)) (kc (at3 R (i+1))) = -1:=λi hi=>by
  have:=(List.any_eq_false.1 h2) (R[i+1],i+1) (jdy.2 (jae hi));simp only [badI,jax,jbf,jac,jaj,not_or,not_and,Bool.not_eq_false] at this;have:=this.2 (by omega);rw [kBA] at this;rw [kbD (by omega),kbD hi];simpa [jae (show i<R.length by omega)] using this
 refine ⟨b,λi j f=>?_,λi hi=>?_⟩
 ·induction j with
  | zero=>omega
  | succ j g=>
   intro a;by_cases e:i=j
   ·subst e; exact hs i a
   ·exact kBJ (g (by omega) (by omega)) (hs j a)
 ·have:=jan.1 c R[i] (jdk hi);rw [kbD hi];simpa [okC] using this
theorem Prs.inj {R:Ya It} (h:Prs R) {i j:Nat} (hi:i<R.length) (c:j<R.length) (e:kc (at3 R i)=kc (at3 R j)):i=j:=by
 rcases Nat.lt_trichotomy i j with a | b | a
 ·exact absurd e (kpx (h.inc i j a c)).2
 ·exact b
 ·exact absurd e.symm (kpx (h.inc j i a hi)).2
theorem koQ {κ β:Type} [DecidableEq κ] (l:Ya (κ×β)) (k a:κ) (v:β):mget (mput l k v) a=if a=k then some v else mget l a:=by
 induction l with
 | nil=>simp only [mput,mget]
 | cons p r b=>
  simp only [mput];by_cases h:k=p.1
  ·rw [if_pos h];simp only [mget];by_cases h2:a=k
   ·rw [if_pos h2];simp [h2]
   ·rw [if_neg h2];simp only [h2,if_false];rw [if_neg (by rw [<-h]; exact h2)]
  ·rw [if_neg h];simp only [mget,b];by_cases h2:a=p.1
   ·rw [if_pos h2,if_neg (by rw [h2]; exact λe=>h e.symm),if_pos h2]
   ·rw [if_neg h2,if_neg h2]
def CMap (R:Ya It) (n:Nat) (M:Ya ((Int×Int)×Int)):Prop:=∀ p,(∀ c,mget M p=some c->∃ i,i<n/\kc (at3 R i)=p/\(at3 R i).2.2=c)/\(∀ i,i<n->kc (at3 R i)=p->mget M p=some (at3 R i).2.2)
theorem kCz {R:Ya It} (h:Prs R):∃ M,iter (klg R) (0,[])=some M/\CMap R R.length M:=by
 obtain ⟨z,hz,hR⟩:=Fl.iter_inv (F:=klg R) (λx=>∃ n:Nat,n<=R.length/\x.1=(n:Int)/\CMap R n x.2) (λx=>R.length-x.1.toNat) (λz=>CMap R R.length z)
  (λ⟨x,M⟩ ⟨n,hn,e,hM⟩=>by
   dsimp only at e hM;subst e;have:=h.l;unfold klg;by_cases a:n<R.length
   ·right;rw [if_pos (by simpa [kac] using a),kan a,kah (by omega)];simp only [jaa,kbC];refine ⟨_,rfl,⟨n+1,by omega,rfl,λp=>⟨λc hc=>?_,λi hi hp=>?_⟩⟩,by simp only [jal]; omega⟩
    ·dsimp only at hc;rw [koQ] at hc;split at hc
     ·rename_i hp;cases hc;exact ⟨n,by omega,by rw [kbD a,hp]; rfl,by rw [kbD a]⟩
     ·obtain ⟨i,hi,f,h2⟩:=(hM p).1 c hc;exact ⟨i,by omega,f,h2⟩
    ·dsimp only;rw [koQ];by_cases e:i=n
     ·subst e;rw [kbD a] at hp ⊢;rw [if_pos (show p=(R[i].1,R[i].2.1) from hp.symm)]
     ·rw [if_neg,(hM p).2 i (by omega) hp];intro b;refine e (h.inj (by omega) a (hp.trans ?_));rw [b,kbD a]; rfl
   ·left;rw [if_neg (by simpa [kac] using a)];have:n=R.length:=by omega
    subst this;exact ⟨_,rfl,hM⟩)
  (0,[]) ⟨0,by omega,rfl,λp=>⟨λc hc=>by simp [mget] at hc,λi hi=>by omega⟩⟩ (by simp only; have:=h.l; omega)
 exact ⟨z,hz,hR⟩
def cn (R:Ya It) (i:Nat):Int:=(at3 R i).2.2
def Bst (R:Ya It) (T:Nat->Prop):Yb Nat->Prop
 | none=>∀ j,j<R.length->¬ T j
 | some i=>i<R.length/\T i/\∀ j,j<R.length->T j->cn R i<cn R j\/(cn R i=cn R j/\i<=j)
def stepC (R:Ya It) (o:Yb Nat) (j:Nat):Yb Nat:=match o with
 | none=>some j
 | some i=>if cn R j<cn R i\/(cn R j=cn R i/\j<i) then some j else some i
theorem Bst.step {R:Ya It} {T:Nat->Prop} {o:Yb Nat} {j:Nat} (h:Bst R T o) (c:j<R.length):Bst R (λx=>T x\/x=j) (stepC R o j):=by
 cases o with
 | none=>
  refine ⟨c,.inr rfl,λk a hT=>?_⟩;rcases hT with hT | rfl
  ·exact absurd hT (h k a)
  ·exact .inr ⟨rfl,jah _⟩
 | some i=>
  obtain ⟨e,h2,b⟩:=h;simp only [stepC];split
  ·rename_i hc;refine ⟨c,.inr rfl,λk a hT=>?_⟩;rcases hT with hT | rfl
   ·have:=b k a hT; omega
   ·exact .inr ⟨rfl,jah _⟩
  ·rename_i hc;refine ⟨e,.inl h2,λk a hT=>?_⟩;rcases hT with hT | rfl
   ·exact b k a hT
   ·omega
theorem Bst.skip {R:Ya It} {T:Nat->Prop} {o:Yb Nat} {j:Nat} (h:Bst R T o) (b:¬ j<R.length):Bst R (λx=>T x\/x=j) o:=by
 cases o with
 | none=>exact λk a hT=>hT.elim (h k a) (λe=>b (e ▸ a))
 | some i=>exact ⟨h.1,.inl h.2.1,λk a hT=>hT.elim (h.2.2 k a) (λe=>absurd a (e ▸ b))⟩
theorem Bst.congr {R:Ya It} {T T':Nat->Prop} {o:Yb Nat} (h:Bst R T o) (e:∀ j,j<R.length->(T j↔T' j)):Bst R T' o:=by
 cases o with
 | none=>exact λk a hT=>h k a ((e k a).2 hT)
 | some i=>exact ⟨h.1,(e i h.1).1 h.2.1,λk a hT=>h.2.2 k a ((e k a).2 hT)⟩
theorem Bst.uniq {R:Ya It} {T:Nat->Prop} {o c:Yb Nat} (h:Bst R T o) (h':Bst R T c):o=c:=by
 cases o with
 | none=>cases c with
  | none=>rfl
  | some i=>exact absurd h'.2.1 (h i h'.1)
 | some i=>cases c with
  | none=>exact absurd h.2.1 (h' i h.1)
  | some j=>
   have a:=h.2.2 j h'.1 h'.2.1;have b:=h'.2.2 i h.1 h.2.1;congr 1; omega
def chI (o:Yb Nat):Int:=match o with | none=>-1 | some i=>(i:Int)
def Mq (R:Ya It) (sw:Ya Swap) (q:Int×Int) (j:Nat):Prop:=mayB sw q (kc (at3 R j))=true
theorem kxE {R:Ya It} (h:R.length<=1000) {sw:Ya Swap} (hs:sw.length<=1000) (q:Int×Int):∃ o,khp sw R q.1 q.2=some (chI o)/\Bst R (Mq R sw q) o:=by
 unfold khp;obtain ⟨z,hz,o,rfl,r⟩:=Fl.iter_inv (F:=khx sw R q.1 q.2) (λx=>∃ (n:Nat) (o:Yb Nat),n<=R.length/\x=((n:Int),chI o)/\Bst R (λj=>j<n/\Mq R sw q j) o) (λx=>R.length-x.1.toNat) (λz=>∃ o,z=chI o/\Bst R (Mq R sw q) o)
  (λx ⟨n,o,hn,e,r⟩=>by
   subst e;unfold khx;dsimp only;by_cases f:n<R.length
   ·right;rw [if_pos (by simpa [kac] using f),kan f,kah (by omega)];simp only [jaa];have s:=klM sw hs q (kc R[n]);rw [show kfa sw q.1 q.2 R[n].1 R[n].2.1=_ from s];simp only [jaa];have p:at3 R n=R[n]:=kbD f;have g:∀ i,o=some i->i<n:=λi e=>by subst e; exact r.2.1.1
    cases w:mayB sw q (kc R[n]) with
    | false=>
     rw [if_neg (by simp)];refine ⟨_,rfl,⟨n+1,o,by omega,rfl,r.congr λj t=>⟨λ⟨a,b⟩=>⟨by omega,b⟩,λ⟨a,b⟩=>⟨?_,b⟩⟩⟩,by simp only [jal]; omega⟩;by_cases e:j=n
     ·subst e; unfold Mq at b; rw [p,w] at b; cases b
     ·omega
    | true=>
     rw [if_pos rfl];have c:=(r.step f).congr (T':=λj=>j<n+1/\Mq R sw q j) λj t=>by
      constructor
      ·rintro (⟨a,b⟩ | rfl)
       ·exact ⟨by omega,b⟩
       ·exact ⟨by omega,by unfold Mq; rw [p]; exact w⟩
      ·rintro ⟨a,b⟩;by_cases e:j=n
       ·exact .inr e
       ·exact .inl ⟨by omega,b⟩
     cases o with
     | none=>
      rw [if_pos (by simp [chI])];exact ⟨_,rfl,⟨n+1,some n,by omega,rfl,c⟩,by simp only [jal]; omega⟩
     | some i=>
      have hi:=g i rfl;rw [show chI (some i)=(i:Int) from rfl,if_neg (show ¬ decide (((i:Nat):Int)<0)=true by rw [jaj]; omega),kan (show i<R.length by omega)];simp only [jaa];have y:R[n].2.2=cn R n:=by unfold cn; rw [p]
      have A:(R[i]'(by omega)).2.2=cn R i:=by unfold cn; rw [kbD (by omega)]
      rw [y,A];simp only [stepC] at c;by_cases hc:cn R n<cn R i
      ·rw [if_pos (by simpa using hc)];rw [if_pos (.inl hc)] at c;exact ⟨_,rfl,⟨n+1,some n,by omega,rfl,c⟩,by simp only [jal]; omega⟩
      ·rw [if_neg (by simpa using hc)];rw [if_neg (by omega)] at c;exact ⟨_,rfl,⟨n+1,some i,by omega,rfl,c⟩,by simp only [jal]; omega⟩
   ·left;rw [if_neg (by simpa [kac] using f)];exact ⟨_,rfl,o,rfl,r.congr λj t=>⟨λ⟨_,b⟩=>b,λb=>⟨by omega,b⟩⟩⟩)
  (0,-1) ⟨0,none,by omega,rfl,λj t ⟨a,_⟩=>by omega⟩ (by simp only; omega)
 exact ⟨o,by rw [hz]; rfl,r⟩
def bq (R:Ya It) (o:Yb Nat):Int:=match o with | none=>0 | some i=>cn R i
def pq (R:Ya It) (o:Yb Nat):Int×Int:=match o with | none=>(0,0) | some i=>kc (at3 R i)
theorem kCy {R:Ya It} (h:Prs R) {M:Ya ((Int×Int)×Int)} (hM:CMap R R.length M) {j:Nat} (e:j<R.length) {o:Yb Nat} (p:∀ i,o=some i->i<R.length) :
  kbd (kc (at3 R j)) M o.isSome (bq R o) (pq R o).1 (pq R o).2=some (M,(stepC R o j).isSome,bq R (stepC R o j),(pq R (stepC R o j)).1,(pq R (stepC R o j)).2):=by
 have f:mget M (kc (at3 R j))=some (cn R j):=(hM _).2 j e rfl;unfold kbd;rw [f];simp only [Option.isSome_some,if_true,jcc];cases o with
 | none=>rfl
 | some i=>
  have hi:=p i rfl;have hs:stepC R (some i) j=if cn R j<cn R i\/(cn R j=cn R i/\j<i) then some j else some i:=rfl;rw [if_neg (show ¬ (!(some i).isSome)=true by simp)];change (if decide (cn R j<cn R i)=true then some (M,true,cn R j,kc (at3 R j)) else if (cn R j==cn R i)=true then (kfH (kc (at3 R j)) (kc (at3 R i))).bind λg=>(if decide (g<0)=true then some (M,true,cn R j,kc (at3 R j)) else some (M,true,cn R i,kc (at3 R i))) else some (M,true,cn R i,kc (at3 R i)))=_;rw [hs];by_cases hc:cn R j<cn R i
  ·rw [if_pos (show decide (cn R j<cn R i)=true by simpa using hc),if_pos (show cn R j<cn R i\/(cn R j=cn R i/\j<i) from .inl hc)]; rfl
  ·rw [if_neg (show ¬ decide (cn R j<cn R i)=true by simpa using hc)];by_cases b:cn R j=cn R i
   ·rw [if_pos (show (cn R j==cn R i)=true by simpa using b),klY];simp only [jaa];rcases Nat.lt_trichotomy j i with a | c | a
    ·rw [h.inc j i a hi,if_pos (show decide ((-1:Int)<0)=true by decide),if_pos (show cn R j<cn R i\/(cn R j=cn R i/\j<i) from .inr ⟨b,a⟩)]; rfl
    ·subst c;rw [kAl,if_neg (show ¬ decide ((0:Int)<0)=true by decide),if_neg (show ¬ (cn R j<cn R j\/(cn R j=cn R j/\j<j)) by omega)]; rfl
    ·rw [(kpx (h.inc i j a e)).1,if_neg (show ¬ decide ((1:Int)<0)=true by decide),if_neg (show ¬ (cn R j<cn R i\/(cn R j=cn R i/\j<i)) by omega)]; rfl
   ·rw [if_neg (show ¬ (cn R j==cn R i)=true by simpa using b),if_neg (show ¬ (cn R j<cn R i\/(cn R j=cn R i/\j<i)) by omega)]; rfl
theorem kAZ {R:Ya It} {M:Ya ((Int×Int)×Int)} (hM:CMap R R.length M) {p:Int×Int} (hp:∀ j,j<R.length->kc (at3 R j)≠p) {a:Bool} {b c d:Int}:kbd p M a b c d=some (M,a,b,c,d):=by
 have e:mget M p=none:=by
  cases e:mget M p with
  | none=>rfl
  | some c=>
   obtain ⟨i,hi,f,_⟩:=(hM p).1 c e;exact absurd f (hp i hi)
 unfold kbd;rw [e]; rfl
theorem kyE {R:Ya It} (h:Prs R) {M:Ya ((Int×Int)×Int)} (hM:CMap R R.length M) (p:Int×Int) {T:Nat->Prop} {o:Yb Nat} (f:Bst R T o) :
  ∃ c,kbd p M o.isSome (bq R o) (pq R o).1 (pq R o).2=some (M,c.isSome,bq R c,(pq R c).1,(pq R c).2)/\Bst R (λj=>T j\/kc (at3 R j)=p) c:=by
 by_cases hp:∃ j,j<R.length/\kc (at3 R j)=p
 ·obtain ⟨j,b,rfl⟩:=hp;refine ⟨_,kCy h hM b (λi e=>by subst e; exact f.1),(f.step b).congr λk g=>?_⟩;constructor
  ·rintro (a | rfl)
   ·exact .inl a
   ·exact .inr rfl
  ·rintro (a | a)
   ·exact .inl a
   ·exact .inr (h.inj g b a)
 ·refine ⟨o,kAZ hM (λj b e=>hp ⟨j,b,e⟩),f.congr λk g=>⟨.inl,λa=>a.elim id λe=>absurd ⟨k,g,e⟩ hp⟩⟩
theorem kzf {R:Ya It} (h:Prs R) {M:Ya ((Int×Int)×Int)} (hM:CMap R R.length M) {sw:Ya Swap} (hs:sw.length<=1000) (q:Int×Int) :
  ∃ o,kdn sw q M=some (bq R o,(pq R o).1,(pq R o).2,o.isSome,M)/\Bst R (Mq R sw q) o:=by
 unfold kdn;obtain ⟨g,e0,r⟩:=kyE h hM q (T:=λ_=>False) (o:=none) (λj _=>id);rw [show kbd q M false 0 0 0=_ from e0];simp only [jaa];obtain ⟨z,hz,o,rfl,f⟩:=Fl.iter_inv (F:=kgT sw q) (λx=>∃ (n:Nat) (o:Yb Nat),n<=sw.length/\x=((n:Int),M,o.isSome,bq R o,(pq R o).1,(pq R o).2)/\Bst R (λj=>mayB (sw.take n) q (kc (at3 R j))=true) o) (λx=>sw.length-x.1.toNat) (λz=>∃ o,z=(bq R o,(pq R o).1,(pq R o).2,o.isSome,M)/\Bst R (Mq R sw q) o)
  (λx ⟨n,o,hn,e,f⟩=>by
   subst e;unfold kgT;dsimp only;by_cases c:n<sw.length
   ·right;rw [if_pos (by simpa [kac] using c),kan c,kah (by omega)];simp only [jaa];have p:sw.take (n+1)=sw.take n++[sw[n]]:=by rw [List.take_add_one,jae c]; rfl
    have hm:∀ b:Int×Int,mayB (sw.take (n+1)) q b=(mayB (sw.take n) q b||(q.1==sw[n].1&&(q.2==sw[n].2.1&&(b.1==sw[n].2.2.1&&b.2==sw[n].2.2.2)))):=λb=>by
     unfold mayB;rw [p,List.any_append,jdr,List.any_nil,Bool.or_false,Bool.or_assoc]
    by_cases hc:(q.1==sw[n].1&&q.2==sw[n].2.1)=true
    ·rw [if_pos hc];obtain ⟨s,e',h'⟩:=kyE h hM sw[n].2.2 f;rw [e'];simp only [jaa];refine ⟨_,rfl,⟨n+1,s,by omega,rfl,h'.congr λj i=>?_⟩,by simp only [jal]; omega⟩;rw [hm];simp only [jac] at hc;simp only [hc.1,hc.2,jef,jax,jac,beq_iff_eq];rw [Prod.ext_iff]
    ·rw [if_neg hc];refine ⟨_,rfl,⟨n+1,o,by omega,rfl,f.congr λj i=>?_⟩,by simp only [jal]; omega⟩;rw [hm];simp only [jax,jac,beq_iff_eq] at hc ⊢;constructor
     ·exact .inl
     ·rintro (a | a)
      ·exact a
      ·exact absurd ⟨a.1,a.2.1⟩ hc
   ·left;rw [if_neg (by simpa [kac] using c)];refine ⟨_,rfl,o,rfl,f.congr λj i=>?_⟩;rw [jbq (by omega)]; rfl)
  (0,M,g.isSome,bq R g,(pq R g).1,(pq R g).2) ⟨0,g,by omega,rfl,r.congr λj i=>by
   unfold mayB;simp only [jdq,List.any_nil,Bool.or_false,jac,beq_iff_eq,false_or];rw [Prod.ext_iff];exact ⟨λe=>⟨e.1.symm,e.2.symm⟩,λe=>⟨e.1.symm,e.2.symm⟩⟩⟩ (by simp only; omega)
 exact ⟨o,by rw [hz]; rfl,f⟩
def chO (R:Ya It) (sw:Ya Swap) (q:Int×Int):Yb Nat:=match khp sw R q.1 q.2 with
 | some v=>if v<0 then none else some v.toNat
 | none=>none
theorem kwe {R:Ya It} (h:R.length<=1000) {sw:Ya Swap} (hs:sw.length<=1000) (q:Int×Int):khp sw R q.1 q.2=some (chI (chO R sw q))/\Bst R (Mq R sw q) (chO R sw q):=by
 obtain ⟨o,e,a⟩:=kxE h hs q;have:chO R sw q=o:=by
  unfold chO;rw [e];cases o with
  | none=>rfl
  | some i=>
   show (if ((i:Nat):Int)<0 then none else some (Int.toNat (i:Int)))=some i;rw [if_neg (by omega),jal]
 rw [this];exact ⟨e,a⟩
section
variable (Y R:Ya It) (sw:Ya Swap)
def oK (k:Nat):Yb Nat:=chO R sw (kc (at3 Y k))
def rkO (o:Yb Nat):Int:=match o with | none=>10001 | some i=>cn R i
def rkK (k:Nat):Int:=rkO R (oK Y R sw k)
def lnK (k:Nat):Line:=((k:Int),bq R (oK Y R sw k),needN Y k,pq R (oK Y R sw k),(oK Y R sw k).isSome)
end
section
variable {Y R:Ya It} {sw:Ya Swap} (h:Prs R) (hs:sw.length<=1000) (hY:Y.length<=1000)
include h hs
theorem oK_lt {k i:Nat} (e:oK Y R sw k=some i):i<R.length:=by
 have:=(kwe (R:=R) (by have:=h.l; omega) hs (kc (at3 Y k))).2;unfold oK at e;rw [e] at this;exact this.1
theorem rk_bd (k:Nat):0<=rkK Y R sw k/\rkK Y R sw k<=10001/\(rkK Y R sw k=10001↔oK Y R sw k=none):=by
 unfold rkK rkO;cases e:oK Y R sw k with
 | none=>simp
 | some i=>
  have:=h.c i (oK_lt h hs e);unfold cn;dsimp only;refine ⟨this.1,by omega,?_⟩;constructor
  ·intro; omega
  ·intro h; cases h
theorem bq_bd (k:Nat):0<=bq R (oK Y R sw k)/\bq R (oK Y R sw k)<=10000:=by
 cases e:oK Y R sw k with
 | none=>simp [bq]
 | some i=>
  have:=h.c i (oK_lt h hs e);unfold bq cn;exact this
include hY
theorem kAD {M:Ya ((Int×Int)×Int)} (hM:CMap R R.length M):iter (kln Y sw) (0,M,[])=some ((List.range Y.length).map (lnK Y R sw)):=by
 obtain ⟨z,hz,rfl⟩:=Fl.iter_inv (F:=kln Y sw) (λx=>∃ n:Nat,n<=Y.length/\x=((n:Int),M,(List.range n).map (lnK Y R sw))) (λx=>Y.length-x.1.toNat) (λz=>z=(List.range Y.length).map (lnK Y R sw))
  (λx ⟨n,hn,e⟩=>by
   subst e;unfold kln;dsimp only;by_cases a:n<Y.length
   ·right;rw [if_pos (by simpa [kac] using a),kan a,kah (by omega)];simp only [jaa,kbC];have c:at3 Y n=Y[n]:=kbD a;obtain ⟨o,g,i⟩:=kzf h hM hs (kc Y[n]);have b:oK Y R sw n=o:=by
     unfold oK; rw [c];exact (kwe (by have:=h.l; omega) hs (kc Y[n])).2.uniq i
    rw [show kdn sw (Y[n].1,Y[n].2.1) M=_ from g];simp only [jaa];have f:gapp ((List.range n).map (lnK Y R sw)) [((n:Int),bq R o,Y[n].2.2,((pq R o).1,(pq R o).2),o.isSome)]=some ((List.range (n+1)).map (lnK Y R sw)):=by
     rw [List.range_succ,jcj,kdg (by simp; omega)];simp only [jas,jek,lnK,b,kjO a]
    rw [f];exact ⟨_,rfl,⟨n+1,by omega,rfl⟩,by simp only [jal]; omega⟩
   ·left;rw [if_neg (by simpa [kac] using a)];have:n=Y.length:=by omega
    subst this;exact ⟨_,rfl,rfl⟩)
  (0,M,[]) ⟨0,by omega,rfl⟩ (by simp only; omega)
 exact hz
omit hY in
omit h hs hY in
abbrev cmpB:Line×Line->Option Int:=λa=>(kdT a.1 a.2).bind λb=>some b
def rkL (x:Line):Int:=if x.2.2.2.2=true then x.2.1 else 20000+x.2.1
def leL (x y:Line):Prop:=rkL y<rkL x\/(rkL x=rkL y/\x.1<=y.1)
omit h hs hY in
theorem kCx:St.COk cmpB leL where
 c x y:=by
  obtain ⟨v,a⟩:∃ v,kdT x y=some v:=by
   unfold kdT;split
   ·split <;> exact ⟨_,rfl⟩
   ·exact ⟨_,rfl⟩
  refine ⟨v,by show (kdT x y).bind _=_; rw [a]; rfl,λb=>?_⟩;obtain ⟨f,h2,i⟩:=b;unfold kdT at a;unfold leL rkL;cases g:x.2.2.2.2 <;> cases e:y.2.2.2.2 <;> rw [g,e] at a <;> simp at a <;> subst a <;> simp only [jaf,if_false,if_true]
  ·rw [kaz (by omega) (by omega)]; omega
  ·omega
  ·omega
  ·rw [kaz (by omega) (by omega)]; omega
 tr x y z f h2:=by unfold leL at *; omega
 tot x y:=by unfold leL; omega
def sigR (Y R:Ya It) (sw:Ya Swap) (j k:Nat):Prop:=rkK Y R sw k<rkK Y R sw j\/(rkK Y R sw j=rkK Y R sw k/\j<k)
omit hY in
theorem kBV {j k:Nat} (c:j≠k):leL (lnK Y R sw j) (lnK Y R sw k)↔sigR Y R sw j k:=by
 have key:∀ k,rkL (lnK Y R sw k)=if rkK Y R sw k=10001 then 20000 else rkK Y R sw k:=λk=>by
  obtain ⟨_,_,a⟩:=rk_bd (Y:=Y) h hs k;unfold rkL lnK;dsimp only;cases e:oK Y R sw k with
  | none=>rw [if_pos (a.2 e)]; rfl
  | some i=>
   rw [if_neg (show ¬ rkK Y R sw k=10001 from λb=>by rw [a.1 b] at e; cases e)];unfold rkK; rw [e]; rfl
 have g:=rk_bd (Y:=Y) h hs j;have f:=rk_bd (Y:=Y) h hs k;unfold leL sigR;rw [key,key];show _\/_/\(j:Int)<=k↔_;split <;> split <;> omega
theorem kCr:∃ ks:Ya Nat,kau cmpB ((List.range Y.length).map (lnK Y R sw))=some (ks.map (lnK Y R sw))/\ks.Perm (List.range Y.length)/\ks.Pairwise (sigR Y R sw):=by
 have b:((List.range Y.length).map (lnK Y R sw)).length=Y.length:=by simp
 have o:∀ k,k<Y.length->St.gg ((List.range Y.length).map (lnK Y R sw)) k=lnK Y R sw k:=λk G=>by
  unfold St.gg; rw [jau,List.getElem?_range G]; rfl
 obtain ⟨l',e,hp,c⟩:=St.stable_spec (cmp:=cmpB) (le:=leL) kCx (l:=(List.range Y.length).map (lnK Y R sw)) (by rw [b]; exact hY) (by
  rw [b];intro i j _ h2 D;rw [o i (by omega),o j D];exact ⟨by show (i:Int)<j; omega,bq_bd h hs i,bq_bd h hs j⟩)
 obtain ⟨ks,rfl⟩:∃ ks:Ya Nat,l'=ks.map (lnK Y R sw):=by
  have:∀ x∈l',∃ k,lnK Y R sw k=x:=λx F=>by
   obtain ⟨k,_,rfl⟩:=jbc.1 (hp.mem_iff.1 F); exact ⟨k,rfl⟩
  clear e hp c;induction l' with
  | nil=>exact ⟨[],rfl⟩
  | cons x l E=>
   obtain ⟨k,rfl⟩:=this x (by simp);obtain ⟨ks,rfl⟩:=E λy z=>this y (by simp [z]);exact ⟨k::ks,rfl⟩
 have f:ks.Perm (List.range Y.length):=by
  have:=hp.map (λx:Line=>x.1.toNat);rw [List.map_map,List.map_map] at this;have A:((λx:Line=>x.1.toNat) ∘ lnK Y R sw)=id:=by funext k; simp [lnK]
  rw [A,List.map_id,List.map_id] at this;exact this
 refine ⟨ks,?_,f,?_⟩
 ·unfold kau;rw [e]; rfl
 ·have s:ks.Nodup:=f.nodup_iff.2 List.nodup_range;rw [List.pairwise_iff_getElem];intro i j hi t p;have r:ks[i]≠ks[j]:=(List.pairwise_iff_getElem.1 s) i j hi t p;have:=c i j (Nat.zero_le _) p (by rw [b]; have:=f.length_eq; simp at this; omega);have g:∀ a,(w:a<ks.length)->St.gg (ks.map (lnK Y R sw)) a=lnK Y R sw ks[a]:=λa w=>by
   unfold St.gg; rw [jau,jae w]; rfl
  rw [g i hi,g j t] at this;exact (kBV h hs r).1 this
end
end Go.Abs
namespace Go.Abs.Fl
open Go Go.Abs
variable {n m:Nat} {cap:Nat->Int} {may:Nat->Nat->Prop}
theorem kuf {U r V p:Ya (Ya Int)} {w t:Ya Int} {i:Nat} {most g g':Int} (hi:i<n) (f:∀ k,k<n->row m (ua U) k=row m (ua V) k) (h:Gave n m cap may i most U g r w) (h':Gave n m cap may i most V g' p t) :
  g=g'/\∀ k,k<n->row m (ua r) k=row m (ua p) k:=by
 have key:∀ {U r V p:Ya (Ya Int)} {w t:Ya Int} {g g':Int},(∀ k,k<n->row m (ua U) k=row m (ua V) k)->Gave n m cap may i most U g r w->Gave n m cap may i most V g' p t->¬ g<g':=λ{U r V p w t g g'} f h h' x=>by
  have A:=h'.g1;obtain ⟨S,y,z⟩:=h.st (by omega);have:=ktA h.v h'.v z hi y λk c s=>by rw [h.ro k c s,h'.ro k c s,f k c]; exact jcu _
  rw [h.ri,h'.ri,f i hi] at this;omega
 have e:g=g':=by
  have a:=key f h h';have b:=key (λk c=>(f k c).symm) h' h;omega
 subst e;refine ⟨rfl,λk c=>?_⟩;by_cases o:k=i
 ·subst o; rw [h.ri,h'.ri,f k c]
 ·rw [h.ro k c o,h'.ro k c o,f k c]
end Go.Abs.Fl
namespace Go.Abs
open Go Go.Abs.Fl
section
variable {n m:Nat} {cap:Nat->Int} {may:Nat->Nat->Prop} {N:Nat->Int}
inductive Dn (n m:Nat) (cap:Nat->Int) (may:Nat->Nat->Prop) (N:Nat->Int) (U0:List (List Int)) (L0:List Int):List Nat->List (List Int)->List Int->(Nat->Int)->Prop
 | nil:Dn n m cap may N U0 L0 [] U0 L0 (λ_=>0)
 | snoc (ds:List Nat) (U:List (List Int)) (L:List Int) (f:Nat->Int) (i:Nat) (g:Int) (U':List (List Int)) (L':List Int) (h:Dn n m cap may N U0 L0 ds U L f) (hi:i<n) (hg:Gave n m cap may i (N i) U g U' L'):Dn n m cap may N U0 L0 (ds++[i]) U' L' (λk=>if k=i then g else f k)
variable {U0 V0:Ya (Ya Int)} {L0 M0:Ya Int}
theorem Dn.ok (sh:Shp n m U0 L0) (v:Val n m cap may (ua U0) (la L0)) {b:Ya Nat} {U:Ya (Ya Int)} {L:Ya Int} {f:Nat->Int} (h:Dn n m cap may N U0 L0 b U L f):Shp n m U L/\Val n m cap may (ua U) (la L):=by
 cases h with
 | nil=>exact ⟨sh,v⟩
 | snoc _ _ _ _ _ _ _ _ _ _ a=>exact ⟨a.sh,a.v⟩
theorem Dn.bd {b:Ya Nat} {U:Ya (Ya Int)} {L:Ya Int} {f:Nat->Int} (h:Dn n m cap may N U0 L0 b U L f):∀ k,(k∈b->0<=f k/\f k<=N k)/\(k∉b->f k=0):=by
 induction h with
 | nil=>intro k; exact ⟨(λa=>nomatch a),λ_=>rfl⟩
 | snoc b U L f i g p r h hi c o=>
  intro k;dsimp only;by_cases e:k=i
  ·subst e;rw [if_pos rfl];exact ⟨λ_=>⟨c.g0,c.g1⟩,λhn=>absurd (by simp) hn⟩
  ·rw [if_neg e];exact ⟨λa=>(o k).1 (by simpa [e] using a),λa=>(o k).2 (by simp at a; exact a.1)⟩
theorem Dn.same {a:Ya Nat} {U:Ya (Ya Int)} {L:Ya Int} {f:Nat->Int} (h:Dn n m cap may N U0 L0 a U L f) (p:∀ k,k<n->row m (ua U0) k=row m (ua V0) k):∀ {V:Ya (Ya Int)} {M:Ya Int} {b:Nat->Int},Dn n m cap may N V0 M0 a V M b->f=b/\∀ k,k<n->row m (ua U) k=row m (ua V) k:=by
 induction h with
 | nil=>
  intro V M b h';generalize c:([]:Ya Nat)=a at h';cases h' with
  | nil=>exact ⟨rfl,p⟩
  | snoc _ _ _ _ _ _ _ _=>simp at c
 | snoc a U L f i g I F h hi t A=>
  intro V M b h';generalize c:a++[i]=es at h';cases h' with
  | nil=>simp at c
  | snoc es D G H j g1 _ _ w E e=>
   obtain ⟨r,z⟩:=List.append_inj' c rfl;cases z;subst r;obtain ⟨s,y⟩:=A w;obtain ⟨x,o⟩:=kuf hi y t e;subst x; subst s;exact ⟨rfl,o⟩
theorem Dn.pre {c:Ya Nat} {U:Ya (Ya Int)} {L:Ya Int} {f:Nat->Int} (h:Dn n m cap may N U0 L0 c U L f):∀ {a b:Ya Nat},c=a++b->∃ p o s,Dn n m cap may N U0 L0 a p o s/\∀ k,k∉b->f k=s k:=by
 induction h with
 | nil=>
  intro a b e;obtain ⟨rfl,rfl⟩:=List.append_eq_nil_iff.1 e.symm;exact ⟨_,_,_,.nil,λk _=>rfl⟩
 | snoc c U L f i g p o h hi y D=>
  intro a b e;rcases List.eq_nil_or_concat b with rfl | ⟨b',j,rfl⟩
  ·rw [jbe] at e;subst e;exact ⟨_,_,_,.snoc c U L f i g p o h hi y,λk _=>rfl⟩
  ·rw [List.concat_eq_append,<-jav] at e;obtain ⟨x,A⟩:=List.append_inj' e rfl;cases A;obtain ⟨E,z,t,g1,w⟩:=D x;refine ⟨E,z,t,g1,λk r=>?_⟩;simp only [List.concat_eq_append,jaz,jdp,not_or] at r;show (if k=i then g else f k)=t k;rw [if_neg r.2];exact w k r.1
end
def blk (Y R:Ya It) (sw:Ya Swap) (p:Int):Ya Nat:=(List.range Y.length).filter λk=>rkK Y R sw k==p
section
variable {Y R:Ya It} {sw:Ya Swap} (h:Prs R) (hs:sw.length<=1000)
include h hs
end
def Tell (n:Nat) (F:Ya Int) (f:Nat->Int):Prop:=F.length=n/\∀ k,k<n->F[k]?=some (f k)
theorem Tell.set {n:Nat} {F:Ya Int} {f:Nat->Int} (h:Tell n F f) {i:Nat} (hi:i<n) (g:Int):Tell n (F.set i g) (λk=>if k=i then g else f k):=by
 refine ⟨by simp [h.1],λk a=>?_⟩;rw [jdf];by_cases e:i=k
 ·subst e; simp [h.1,a]
 ·rw [if_neg e];show F[k]?=some (if k=i then g else f k);rw [if_neg (λb:k=i=>e b.symm)]; exact h.2 k a
section
variable {Y R:Ya It} {sw:Ya Swap} {m:Nat} {cap:Nat->Int} {may:Nat->Nat->Prop} {B:Ya (Ya Bool)} {U0:Ya (Ya Int)} {L0:Ya Int}
variable (h:Prs R) (hs:sw.length<=1000) (hY:Y.length<=1000) (hm:m<=1000) (hc:∀ j,j<m->cap j<=1000) (hN:∀ k,k<Y.length->0<=needN Y k/\needN Y k<=1000)
variable (hB:MayB Y.length m may B) (sh:Shp Y.length m U0 L0) (v:Val Y.length m cap may (ua U0) (la L0))
include hs hY hm hc hN hB sh v
end
theorem kph {κ β:Type} [DecidableEq κ] (p:κ×β) (r:Ya (κ×β)) (k:κ) (z:β):ment (p::r) k z=if k=p.1 then p::r else p::ment r k z:=by
 unfold ment;simp only [mget];by_cases h:k=p.1
 ·rw [if_pos h,if_pos h]
 ·rw [if_neg h,if_neg h];cases mget r k <;> rfl
theorem kzO {κ β:Type} [DecidableEq κ] (l:Ya (κ×β)) (k:κ) (z:β):(mget (ment l k z) k).getD z=(mget l k).getD z:=by
 induction l with
 | nil=>simp [ment,mget]
 | cons p r a=>
  rw [kph];by_cases h:k=p.1
  ·rw [if_pos h]
  ·rw [if_neg h]; simp only [mget,if_neg h]; exact a
theorem kug {κ β:Type} [DecidableEq κ] (p:κ×β) (r:Ya (κ×β)) (k:κ):midx (p::r) k=if k=p.1 then 0 else midx r k+1:=by
 unfold midx;simp only [midxN];split
 ·rfl
 ·push_cast; rfl
theorem kBR {κ β:Type} [DecidableEq κ] (l:Ya (κ×β)) (k:κ):0<=midx l k:=by unfold midx; omega
theorem kBE {κ β:Type} [DecidableEq κ] (l:Ya (κ×β)) (k:κ) (z:β):∃ e,gi (ment l k z) (midx l k)=some e:=by
 induction l with
 | nil=>exact ⟨(k,z),rfl⟩
 | cons p r c=>
  rw [kph,kug];by_cases h:k=p.1
  ·rw [if_pos h,if_pos h]; exact ⟨p,rfl⟩
  ·rw [if_neg h,if_neg h];obtain ⟨e,a⟩:=c;obtain ⟨f,b⟩:=knu a;refine ⟨e,?_⟩;unfold gi;rw [if_pos (by omega),show (midx r k+1).toNat=(midx r k).toNat+1 by omega,jbz];exact b
theorem kAr {κ β:Type} [DecidableEq κ] (l:Ya (κ×β)) (k:κ) (z v:β):mset (ment l k z) (midx l k) v=mput l k v:=by
 induction l with
 | nil=>rfl
 | cons p r a=>
  rw [kph,kug];by_cases h:k=p.1
  ·rw [if_pos h,if_pos h];simp only [mput,if_pos h,mset];simp [h]
  ·rw [if_neg h,if_neg h];simp only [mput,if_neg h];rw [<-a];have hn:=kBR r k;unfold mset;rw [show (midx r k+1).toNat=(midx r k).toNat+1 by omega,jbz];cases (ment r k z)[(midx r k).toNat]? <;> rfl
def sumL (g:Nat->Int) (l:Ya Nat):Int:=(l.map g).foldr (·+ ·) 0
theorem kin (g:Nat->Int):sumL g []=0:=rfl
theorem kbw (g:Nat->Int) (k:Nat) (l:Ya Nat):sumL g (k::l)=g k+sumL g l:=rfl
theorem kmH (g:Nat->Int) (a b:Ya Nat):sumL g (a++b)=sumL g a+sumL g b:=by
 induction a with
 | nil=>simp [kin]
 | cons k a c=>rw [jdv,kbw,kbw,c]; omega
theorem kyK {g:Nat->Int} {c:Int} {l:Ya Nat} (h:∀ k∈l,0<=g k/\g k<=c) (hc:0<=c):0<=sumL g l/\sumL g l<=c*l.length:=by
 induction l with
 | nil=>simp [kin]
 | cons k l e=>
  have a:=h k (by simp);have b:=e λk f=>h k (by simp [f]);rw [kbw,jcs]
  push_cast
  rw [Int.mul_add,Int.mul_one];omega
theorem kso {g g':Nat->Int} {l:Ya Nat} (h:∀ k∈l,g k=g' k):sumL g l=sumL g' l:=by
 unfold sumL; rw [List.map_congr_left h]
theorem kAj {g:Nat->Int} {l l':Ya Nat} (h:l.Perm l'):sumL g l=sumL g l':=by
 induction h with
 | nil=>rfl
 | cons x _ c=>rw [kbw,kbw,c]
 | swap x y l=>rw [kbw,kbw,kbw,kbw]; omega
 | trans _ _ a b=>exact a.trans b
theorem kAk {a b:Int} (f:0<=a) (c:a<=1000) (h2:0<=b) (e:b<=10000):0<=a*b/\a*b<=10000000:=by
 refine ⟨Int.mul_nonneg f h2,?_⟩;have:=Int.mul_le_mul c e h2 (by omega:(0:Int)<=1000);omega
section
variable {Y R:Ya It} {sw:Ya Swap} {m:Nat} {cap:Nat->Int} {may:Nat->Nat->Prop} {M:Ya (Ya Int)} {U0 V0:Ya (Ya Int)} {L0 M0:Ya Int}
variable (h:Prs R) (hs:sw.length<=1000) (hY:Y.length<=1000) (hm:m<=1000) (hc:∀ j,j<m->cap j<=1000) (hN:∀ k,k<Y.length->0<=needN Y k/\needN Y k<=1000)
variable (hM:MayL Y.length m may M) (sh:Shp Y.length m U0 L0) (v:Val Y.length m cap may (ua U0) (la L0))
def lks (Y:Ya It) (f:Nat->Int) (k:Nat):Int:=needN Y k-f k
structure Gv (Y R:List It) (sw:List Swap) (m:Nat) (cap:Nat->Int) (may:Nat->Nat->Prop) (U0:List (List Int)) (L0:List Int) (f:Nat->Int) (ds:List Nat) (U:List (List Int)) (L:List Int) (c:Int) (F:List Int) (B:List ((Int×Int)×Int)):Prop where
 g:∃ f',Dn Y.length m cap may (needN Y) U0 L0 ds U L f'/\(∀ k∈ds,f' k=f k)/\Tell Y.length F f'
 c:c=sumL (λk=>lks Y f k*bq R (oK Y R sw k)) ds
 b:∀ p,(mget B p).getD 0=sumL (λk=>if pq R (oK Y R sw k)=p then lks Y f k else 0) ds
 n:∀ k∈ds,oK Y R sw k=none->f k=needN Y k
include h hs hY hm hc hN hM sh v
theorem kAt {ks:Ya Nat} {V:Ya (Ya Int)} {W:Ya Int} {f:Nat->Int} (hT:Dn Y.length m cap may (needN Y) V0 M0 ks V W f) (h0:∀ k,k<Y.length->row m (ua U0) k=row m (ua V0) k) (H:∀ k∈ks,k<Y.length) (ab:ks.Nodup) (am:ks.length<=1000) :
  ∃ z,iter (klk (ks.map (lnK Y R sw))) (0,Y,M,U0,L0,0,List.replicate Y.length 0,0,[])=some z/\
   ((z = .inl (([],[],0),80)/\∃ k∈ks,oK Y R sw k=none/\f k<needN Y k)\/∃ U L c F B,z = .inr (B,0,c,F)/\Gv Y R sw m cap may U0 L0 f ks U L c F B):=by
 have J:∀ k∈ks,0<=lks Y f k/\lks Y f k<=1000:=λk t=>by
  have:=(hT.bd k).1 t;have:=hN k (H k t);unfold lks; omega
 refine Fl.iter_inv (F:=klk (ks.map (lnK Y R sw))) (λx=>∃ (i:Nat) (U:Ya (Ya Int)) (L:Ya Int) (c:Int) (F:Ya Int) (B:Ya ((Int×Int)×Int)),i<=ks.length/\x=((i:Int),Y,M,U,L,c,F,0,B)/\Gv Y R sw m cap may U0 L0 f (ks.take i) U L c F B) (λx=>ks.length-x.1.toNat) _
  (λx ⟨i,U,L,c,F,B,hi,e,G⟩=>?_) _ ⟨0,U0,L0,0,_,[],by omega,rfl,⟨⟨_,.nil,(λk H=>by simp at H),by simp,λk H=>by rw [jcd,if_pos H]⟩,rfl,λp=>rfl,λk H=>by simp at H⟩⟩ (by simp only; omega)
 subst e;unfold klk;dsimp only;have D:(ks.map (lnK Y R sw)).length=ks.length:=by simp
 by_cases r:i<ks.length
 ·have w:=H ks[i] (jdk r);have hg:gi (ks.map (lnK Y R sw)) (i:Int)=some (lnK Y R sw ks[i]):=by rw [klx,jau,jae r]; rfl
  rw [if_pos (by rw [kac,D]; simpa using r),hg];simp only [jaa];generalize t:ks[i]=k at *
  obtain ⟨f',hD,al,hF⟩:=G.g;obtain ⟨aa,v'⟩:=hD.ok sh v;have hn:=hN k w;obtain ⟨g,U',L',e1,hG⟩:=kmy (N:=Y) hM hY hm hc w hn.1 hn.2 aa v';have s:ks.take (i+1)=ks.take i++[k]:=by rw [List.take_add_one,jae r,t]; rfl
  have hD':=Dn.snoc _ _ _ _ k g U' L' hD w hG;rw [<-s] at hD';obtain ⟨U2,L2,f2,q1,q2⟩:=hT.pre (a:=ks.take (i+1)) (b:=ks.drop (i+1)) (List.take_append_drop (i+1) ks).symm;obtain ⟨Q,_⟩:=hD'.same h0 q1;have E:∀ x∈ks.take (i+1),x∉ks.drop (i+1):=λx h1 h2=>by
   have:=ab;rw [<-List.take_append_drop (i+1) ks,jee] at this;exact this.2.2 x h1 x h2 rfl
  have af:k∈ks.take (i+1):=by rw [s]; simp
  have I:f k=g:=by rw [q2 k (E k af),<-Q]; show (if k=k then g else f' k)=g; rw [if_pos rfl]
  rw [show (lnK Y R sw k).1=(k:Int) from rfl,show (lnK Y R sw k).2.2.1=needN Y k from rfl,show (lnK Y R sw k).2.2.2.2=(oK Y R sw k).isSome from rfl,show (lnK Y R sw k).2.2.2.1=pq R (oK Y R sw k) from rfl,show (lnK Y R sw k).2.1=bq R (oK Y R sw k) from rfl,e1];simp only [jaa];rw [kan (show k<F.length by rw [hF.1]; exact w)];simp only [jaa];by_cases o:g<needN Y k/\oK Y R sw k=none
  ·left;rw [if_pos (show decide (g<needN Y k)=true by simpa using o.1),o.2];simp only [jaa,Option.isSome_none,jcl,if_true];exact ⟨_,rfl,.inl ⟨rfl,k,by rw [<-t]; exact jdk r,o.2,by rw [I]; exact o.1⟩⟩
  ·right;have ae:(if decide (g<needN Y k)=true then some (!(oK Y R sw k).isSome) else some false)=some false:=by
    by_cases P:g<needN Y k
    ·rw [if_pos (by simpa using P)];cases e:oK Y R sw k with
     | none=>exact absurd ⟨P,e⟩ o
     | some _=>rfl
    ·rw [if_neg (by simpa using P)]
   rw [ae];simp only [jaa,jaf,if_false];obtain ⟨en,Z⟩:=kBE B (pq R (oK Y R sw k)) 0;rw [Z];simp only [jaa,kAr,kzO];have ai:=hG.g0; have ah:=hG.g1;have hb:=bq_bd (Y:=Y) h hs k;have ao:=kAk (a:=needN Y k-g) (b:=bq R (oK Y R sw k)) (by omega) (by omega) hb.1 hb.2;have aj:=kyK (g:=λk=>lks Y f k*bq R (oK Y R sw k)) (c:=10000000) (l:=ks.take i) (λx y=>by
    have A:=jcq y;exact kAk (J x A).1 (J x A).2 (bq_bd (Y:=Y) h hs x).1 (bq_bd (Y:=Y) h hs x).2) (by omega)
   have ak:((ks.take i).length:Int)<=1000:=by rw [jbi]; omega
   have ac:=G.c;have ad:=G.b (pq R (oK Y R sw k));have an:=kyK (g:=λk'=>if pq R (oK Y R sw k')=pq R (oK Y R sw k) then lks Y f k' else 0) (c:=1000) (l:=ks.take i) (λx y=>by
    have A:=jcq y;split
    ·exact J x A
    ·omega) (by omega)
   rw [kaz (x:=needN Y k-g) (by omega) (by omega),kaz (x:=(needN Y k-g)*bq R (oK Y R sw k)) (by omega) (by omega),kaz (x:=c+(needN Y k-g)*bq R (oK Y R sw k)) (by omega) (by omega),kaz (x:=(mget B (pq R (oK Y R sw k))).getD 0+(needN Y k-g)) (by omega) (by omega),kah (by omega)];rw [kfJ (kbX _ rfl _)];have O:lks Y f k=needN Y k-g:=by unfold lks; rw [I]
   refine ⟨_,rfl,⟨i+1,U',L',_,_,_,by omega,rfl,⟨⟨_,hD',λx y=>?_,hF.set w g⟩,?_,λp=>?_,λx y K=>?_⟩⟩,by simp only [jal]; omega⟩
   ·rw [q2 x (E x y),<-Q]
   ·rw [s,kmH,kbw,kin,O,ac]; omega
   ·rw [koQ,s,kmH,kbw,kin,O];by_cases e:p=pq R (oK Y R sw k)
    ·subst e;rw [if_pos rfl,if_pos rfl];simp only [jcc];rw [ad]; omega
    ·rw [if_neg e,if_neg (λQ=>e Q.symm),G.b p]; omega
   ·rw [s,jaz,jdp] at y;rcases y with y | rfl
    ·exact G.n x y K
    ·rw [I];by_cases P:g<needN Y x
     ·exact absurd ⟨P,K⟩ o
     ·omega
 ·left;rw [if_neg (by rw [kac,D]; simpa using r)];have:i=ks.length:=by omega
  subst this;rw [List.take_length] at G;exact ⟨_,rfl,.inr ⟨U,L,c,F,B,rfl,G⟩⟩
end
def buyL (R:Ya It) (S:Nat->Int) (n:Nat):Ya It:=((List.range n).filter λi=>decide (0<S i)).map λi=>((at3 R i).1,(at3 R i).2.1,S i)
theorem kuk (R:Ya It) (S:Nat->Int) (n:Nat):buyL R S (n+1)=if 0<S n then buyL R S n++[((at3 R n).1,(at3 R n).2.1,S n)] else buyL R S n:=by
 unfold buyL;rw [List.range_succ,List.filter_append,jcj];by_cases e:0<S n <;> simp [e]
theorem kwT (R:Ya It) (S:Nat->Int) (n:Nat):(buyL R S n).length<=n:=by
 unfold buyL;rw [jar];exact jdg (List.length_filter_le _ _) (by simp)
section
variable {Y R:Ya It} {sw:Ya Swap} (h:Prs R) (hs:sw.length<=1000) (hY:Y.length<=30)
include h
theorem kzk {B:Ya ((Int×Int)×Int)} {S:Nat->Int} {c:Int} {F:Ya Int} (hB:∀ i,i<R.length->(mget B (kc (at3 R i))).getD 0=S i) :
  ∃ z,iter (kli R (B,0,c,F)) (0,0,c,[])=some z/\((z = .inl (([],[],0),4)/\∃ i,i<R.length/\1000<S i)\/(z = .inr (c,buyL R S R.length,0)/\∀ i,i<R.length->S i<=1000)):=by
 have hl:=h.l;refine Fl.iter_inv (F:=kli R (B,0,c,F)) (λx=>∃ n:Nat,n<=R.length/\x=((n:Int),0,c,buyL R S n)/\∀ i,i<n->S i<=1000) (λx=>R.length-x.1.toNat) _
  (λx ⟨n,hn,e,f⟩=>?_) _ ⟨0,by omega,rfl,λi hi=>by omega⟩ (by simp only; omega)
 subst e;unfold kli;dsimp only;by_cases a:n<R.length
 ·have g:at3 R n=R[n]:=kbD a;have r:=hB n a;rw [g] at r;rw [if_pos (by simpa [kac] using a),kan a];simp only [jaa,kbC];rw [show (mget B (R[n].1,R[n].2.1)).getD 0=S n from r];by_cases p:1000<S n
  ·left;rw [if_pos (by simpa using p)];exact ⟨_,rfl,.inl ⟨rfl,n,a,p⟩⟩
  ·right;rw [if_neg (by simpa using p),kah (by omega)];have b:=kuk R S n;rw [g] at b;have s:=kwT R S n;by_cases o:0<S n
   ·rw [if_pos (by simpa using o),kdg (by simp; omega)];simp only [jaa];rw [if_pos o] at b;refine ⟨_,rfl,⟨n+1,by omega,by rw [b],λi hi=>?_⟩,by simp only [jal]; omega⟩;by_cases e:i=n
    ·subst e; omega
    ·exact f i (by omega)
   ·rw [if_neg (by simpa using o)];rw [if_neg o] at b;refine ⟨_,rfl,⟨n+1,by omega,by rw [b],λi hi=>?_⟩,by simp only [jal]; omega⟩;by_cases e:i=n
    ·subst e; omega
    ·exact f i (by omega)
 ·left;rw [if_neg (by simpa [kac] using a)];have:n=R.length:=by omega
  subst this;exact ⟨_,rfl,.inr ⟨rfl,f⟩⟩
include hs hY
end
def kgj (p u:It):Bool:=decide (u.1<p.1)||(u.1==p.1&&decide (u.2.1<=p.2.1))
def okU (X Y:Ya It) (sw:Ya Swap) (us:Ya It) (i:Nat) (W L:Ya Int):Bool:=
 wi 0 ((Y.length:Int)-1) (at3 us i).1&&wi 0 ((X.length:Int)-1) (at3 us i).2.1&&mayB sw (kc (at3 Y (at3 us i).1.toNat)) (kc (at3 X (at3 us i).2.1.toNat)) &&
  decide (1<=(at3 us i).2.2)&&decide ((at3 us i).2.2<=la W (at3 us i).1.toNat)&&decide ((at3 us i).2.2<=la L (at3 us i).2.1.toNat)&&!(decide (0<i)&&kgj (at3 us (i-1)) (at3 us i))
def run (X Y:Ya It) (sw:Ya Swap) (us:Ya It):Nat->Nat->Int->Ya Int->Ya Int->Yb Int
 | 0,_,t,_,_=>some t
 | k+1,i,t,W,L=>if okU X Y sw us i W L=true then run X Y sw us k (i+1) (t+(at3 us i).2.2) (W.set (at3 us i).1.toNat (la W (at3 us i).1.toNat-(at3 us i).2.2)) (L.set (at3 us i).2.1.toNat (la L (at3 us i).2.1.toNat-(at3 us i).2.2)) else none
def Sm (l:Ya Int):Prop:=∀ k,0<=la l k/\la l k<=1000
theorem Sm.set {l:Ya Int} (h:Sm l) {a:Nat} {v:Int} (e:0<=v) (c:v<=1000):Sm (l.set a v):=λk=>by
 by_cases b:a<l.length
 ·rw [kcL b]; split
  ·exact ⟨e,c⟩
  ·exact h k
 ·rw [List.set_eq_of_length_le (by omega)]; exact h k
theorem kjV (lo hi n:Int):kbW lo hi n=some (wi lo hi n):=kxX lo hi n
theorem keT (n lo hi:Int):kbL n lo hi=some (wi lo hi n):=kgA n lo hi
theorem okU_iff {X Y us:Ya It} {sw:Ya Swap} {i:Nat} {W L:Ya Int}:okU X Y sw us i W L=true↔(0<=(at3 us i).1/\(at3 us i).1<=(Y.length:Int)-1)/\(0<=(at3 us i).2.1/\(at3 us i).2.1<=(X.length:Int)-1)/\mayB sw (kc (at3 Y (at3 us i).1.toNat)) (kc (at3 X (at3 us i).2.1.toNat))=true/\
  1<=(at3 us i).2.2/\(at3 us i).2.2<=la W (at3 us i).1.toNat/\(at3 us i).2.2<=la L (at3 us i).2.1.toNat/\(decide (0<i)&&kgj (at3 us (i-1)) (at3 us i))=false:=by
 unfold okU;simp only [jac,wi_iff,jaj,jbf,and_assoc]
theorem kBM (l:Ya Int) (hl:l.length<=1000) (x:Int):kbB l x=some (l.any λv=>x==v):=by
 unfold kbB kfd;rw [kcB (F:=kct l x) l (by omega) (λi v=>if x==v then some (i:Int) else none) (λi hi=>by
  unfold kct;rw [if_pos (by rw [kac]; simpa using hi),kan hi,kah (by omega)];simp only [jaa];by_cases h:(x==l[i])=true
  ·rw [if_pos h,if_pos h]; rfl
  ·rw [if_neg h,if_neg h]; rfl) (by unfold kct; rw [if_neg (by simp [kac])])]
 have:∀ (l:Ya Int) (k:Nat),(endL ((l.zipIdx k).findSome? λv=>if x==v.1 then some (v.2:Int) else none) = .inr ()/\(l.any λv=>x==v)=false)\/∃ p:Int,0<=p/\endL ((l.zipIdx k).findSome? λv=>if x==v.1 then some (v.2:Int) else none) = .inl p/\(l.any λv=>x==v)=true:=by
  intro l;induction l with
  | nil=>intro k; exact .inl ⟨rfl,rfl⟩
  | cons v l b=>
   intro k;rw [jbj,jcv,jdr];cases hp:(x==v) with
   | true=>exact .inr ⟨k,by omega,by simp [endL],by simp⟩
   | false=>
    simp only [jaf,if_false,jcn];exact b (k+1)
 rcases this l 0 with ⟨a,h2⟩ | ⟨p,hp,a,h2⟩
 ·rw [a,h2]; rfl
 ·rw [a,h2];simp only [jaa,decide_eq_true hp]
theorem kAJ (p u:It):decide (0<=(if cmpI p.1 u.1≠0 then cmpI p.1 u.1 else cmpI p.2.1 u.2.1))=kgj p u:=by
 unfold kgj cmpI;by_cases a:p.1<u.1
 ·have b:¬ u.1<p.1:=by omega
  have c:(u.1==p.1)=false:=by simp; omega
  simp [a,b,c]
 ·by_cases b:u.1<p.1
  ·simp [a,b]
  ·have c:p.1=u.1:=by omega
   rw [c];simp only [Int.lt_irrefl,if_false,ne_eq,not_true_eq_false,decide_false,beq_self_eq_true,jef,jcn];by_cases d:p.2.1<u.2.1
   ·have e:¬ u.2.1<=p.2.1:=by omega
    simp [d,e]
   ·have e:u.2.1<=p.2.1:=by omega
    by_cases f:u.2.1<p.2.1 <;> simp [d,e,f]
section
variable {X Y us:Ya It} {sw:Ya Swap}
theorem kCK {M U:Ya (Ya Int)} {L0:Ya Int} (hM:MayL Y.length X.length (mayQ X Y sw) M) (hX:X.length<=1000) (hY:Y.length<=1000) (hu:us.length<=1000):∀ (k i:Nat) (t:Int) (W L:Ya Int),i+k=us.length->W.length=Y.length->L.length=X.length->Sm W->Sm L->0<=t->t<=1000*i->
  itN (kaT X Y us (0,Y,M,U,L0)) (k+1) ((i:Int),t,Y,L,W)=some (match run X Y sw us k i t W L with | some T=>.inr T | none=>.inl (0,8)):=by
 intro k;induction k with
 | zero=>
  intro i t W L h hW hL sW sL t0 t1;have:i=us.length:=by omega
  subst this;refine kck ?_;unfold kaT;rw [if_neg kbk]; rfl
 | succ k ih=>
  intro i t W L h hW hL sW sL t0 t1;have hi:i<us.length:=by omega
  have g0:gi us (i:Int)=some (at3 us i):=by rw [kan hi,kbD hi]
  have hn:w64 (lenI Y-1)=(Y.length:Int)-1:=by rw [kac]; exact kaz (by omega) (by omega)
  have hm:w64 (lenI X-1)=(X.length:Int)-1:=by rw [kac]; exact kaz (by omega) (by omega)
  have c:decide ((i:Int)<lenI us)=true:=lenI_lt.2 hi;have hw:w64 ((i:Int)+1)=((i+1:Nat):Int):=kah (by omega);simp only [run];generalize g:at3 us i=u at *
  have p:okU X Y sw us i W L=false->kaT X Y us (0,Y,M,U,L0) ((i:Int),t,Y,L,W)=some (.inr (.inl (0,8)))->itN (kaT X Y us (0,Y,M,U,L0)) (k+1+1) ((i:Int),t,Y,L,W)=some (match (if okU X Y sw us i W L=true then run X Y sw us k (i+1) (t+u.2.2) (W.set u.1.toNat (la W u.1.toNat-u.2.2)) (L.set u.2.1.toNat (la L u.2.1.toNat-u.2.2)) else none) with | some T=>.inr T | none=>.inl (0,8)):=λE f=>by
   rw [E,kck f]; rfl
  by_cases x:wi 0 ((Y.length:Int)-1) u.1=true
  ·by_cases z:wi 0 ((X.length:Int)-1) u.2.1=true
   ·obtain ⟨a1,a2⟩:=wi_iff.1 x;obtain ⟨b1,b2⟩:=wi_iff.1 z;obtain ⟨a,I⟩:∃ a:Nat,u.1=(a:Int):=⟨u.1.toNat,by omega⟩;obtain ⟨b,E⟩:∃ b:Nat,u.2.1=(b:Int):=⟨u.2.1.toNat,by omega⟩;have r:a<Y.length:=by omega
    have K:b<X.length:=by omega
    have w:u.1.toNat=a:=by omega
    have y:u.2.1.toNat=b:=by omega
    have gM:gi M (a:Int)=some (M.getD a []):=gi_D [] (by rw [hM.l]; exact r);have gW:gi W (a:Int)=some (la W a):=gi_D 0 (by omega);have gL:gi L (b:Int)=some (la L b):=gi_D 0 (by omega);have hc:kbB (M.getD a []) (b:Int)=some (mayB sw (kc (at3 Y a)) (kc (at3 X b))):=by
     rw [kBM _ (hM.s a r)];congr 1;cases hq:mayB sw (kc (at3 Y a)) (kc (at3 X b)) with
     | true=>exact jbm.2 ⟨(b:Int),hM.b a r b K hq,by simp⟩
     | false=>
      rw [jcr];intro f;obtain ⟨v,hv,e⟩:=jbm.1 f;obtain ⟨j,_,rfl,hj⟩:=hM.a a r v hv;have e':(b:Int)=(j:Int):=by simpa using e
      have:b=j:=by omega
      subst this;unfold mayQ at hj;rw [hq] at hj; cases hj
    cases A:mayB sw (kc (at3 Y a)) (kc (at3 X b)) with
    | false=>
     refine p ?_ ?_
     ·rw [jcr]; intro f;have:=(okU_iff.1 f).2.2.1;rw [g,w,y,A] at this; cases this
     ·unfold kaT;simp only [c,if_true,g0,jaa,hn,hm,kjV,x,z,jbt,jaf,if_false];simp only [I,E,gM,hc,A,jaa,jcl,if_true]
    | true=>
     by_cases D:wi 1 (imin (la W a) (la L b)) u.2.2=true
     ·have hN:1<=u.2.2/\u.2.2<=la W a/\u.2.2<=la L b:=by
       obtain ⟨x1,G⟩:=wi_iff.1 D;unfold imin at G;split at G <;> omega
      have o:(if decide (0<(i:Int))=true then (gi us (w64 ((i:Int)-1))).bind λZ=>(kbo Z.1 u.1).bind λJ=>(gi us (w64 ((i:Int)-1))).bind λaa=>(kbo aa.2.1 u.2.1).bind λQ=>(kfU [J,Q]).bind λO=>some (decide (0<=O)) else some false)=some (decide (0<i)&&kgj (at3 us (i-1)) u):=by
       by_cases F:0<i
       ·rw [if_pos (by simp; omega),show w64 ((i:Int)-1)=((i-1:Nat):Int) by rw [kaz (by omega) (by omega)]; omega,kan (show i-1<us.length by omega)];simp only [jaa,ksq,kus,<-kbD (show i-1<us.length by omega)];rw [kAJ]; simp [F]
       ·rw [if_neg (by simp; omega)]; simp [F]
      cases H:(decide (0<i)&&kgj (at3 us (i-1)) u) with
      | true=>
       refine p ?_ ?_
       ·rw [jcr]; intro f;have:=(okU_iff.1 f).2.2.2.2.2.2;rw [g,H] at this; cases this
       ·unfold kaT;simp only [c,if_true,g0,jaa,hn,hm,kjV,x,z,jbt,jaf,if_false];rw [o,H];simp only [I,E,gM,hc,A,gW,gL,jaa,jbt,jaf,if_false,D,if_true]
      | false=>
       have P:okU X Y sw us i W L=true:=okU_iff.2 (by rw [g,w,y]; exact ⟨⟨a1,a2⟩,⟨b1,b2⟩,A,hN.1,hN.2.1,hN.2.2,H⟩);rw [if_pos P,w,y];have ab:=sW a;have ac:=sL b;have e1:w64 (la L b-u.2.2)=la L b-u.2.2:=kaz (by omega) (by omega);have e2:w64 (la W a-u.2.2)=la W a-u.2.2:=kaz (by omega) (by omega);have e3:w64 (t+u.2.2)=t+u.2.2:=kaz (by omega) (by omega);rw [<-ih (i+1) (t+u.2.2) (W.set a (la W a-u.2.2)) (L.set b (la L b-u.2.2)) (by omega) (by simp [hW]) (by simp [hL]) (sW.set (by omega) (by omega)) (sL.set (by omega) (by omega)) (by omega) (by push_cast; omega)];refine kid ?_;unfold kaT;simp only [c,if_true,g0,jaa,hn,hm,kjV,x,z,jbt,jaf,if_false];rw [o,H];simp only [I,E,gM,hc,A,gW,gL,jaa,jbt,jaf,if_false,D,e1,e2,e3,hw];rfl
     ·rw [jbk] at D;refine p ?_ ?_
      ·rw [jcr]; intro f;obtain ⟨_,_,_,x1,G,x3,_⟩:=okU_iff.1 f;rw [g] at x1 G x3;rw [w] at G;rw [y] at x3;have:wi 1 (imin (la W a) (la L b)) u.2.2=true:=wi_iff.2 (by unfold imin; split <;> omega);rw [D] at this; cases this
      ·unfold kaT;simp only [c,if_true,g0,jaa,hn,hm,kjV,x,z,jbt,jaf,if_false];simp only [I,E,gM,hc,A,gW,gL,jaa,jbt,jaf,if_false,D,jcl,if_true]
   ·rw [jbk] at z;refine p ?_ ?_
    ·rw [jcr]; intro f;have:=wi_iff.2 (okU_iff.1 f).2.1;rw [g,z] at this; cases this
    ·unfold kaT;simp only [c,if_true,g0,jaa,hn,hm,kjV,x,z,jbt,jcl,jaf,if_false]
  ·rw [jbk] at x;refine p ?_ ?_
   ·rw [jcr]; intro f;have:=wi_iff.2 (okU_iff.1 f).1;rw [g,x] at this; cases this
   ·unfold kaT;simp only [c,if_true,g0,jaa,hn,kjV,x,jcl]
end
end Go.Abs
namespace Go.Abs.Fl
open Go Go.Abs
theorem klo {f g:Nat->Int} {n:Nat} (h:∀ i,i<n->f i<=g i):sumN f n<=sumN g n:=by
 have:=kdj (f:=λi=>g i-f i) (n:=n) λi hi=>by have:=h i hi; show 0<=g i-f i; omega
 rw [kfM] at this;omega
def Nb (n m:Nat) (may:Nat->Nat->Prop) (S T:Nat->Bool):Prop:=∀ j,j<m->(T j=true↔∃ k,k<n/\S k=true/\may k j)
def lack (n m:Nat) (cap N:Nat->Int) (S T:Nat->Bool):Int:=sumN (λk=>if S k=true then N k else 0) n-sumN (λj=>if T j=true then cap j else 0) m
variable {n m:Nat} {cap:Nat->Int} {may:Nat->Nat->Prop} {N:Nat->Int} {u u':Nat->Nat->Int} {l l':Nat->Int} {S T:Nat->Bool}
theorem kCU (v:Val n m cap may u l) (S:Nat->Bool) {j:Nat} (a:j<m):sumN (λk=>if S k=true then u k j else 0) n<=cap j:=by
 have c:=v.bal j a;have h2:=v.ln j a;have:sumN (λk=>if S k=true then u k j else 0) n<=sumN (λk=>u k j) n:=klo λk b=>by
  have:=v.nn k b j a;show (if S k=true then u k j else 0)<=u k j;split <;> omega
 omega
theorem Nb.h (h:Nb n m may S T):∀ k,k<n->S k=true->∀ j,j<m->may k j->T j=true:=λk a hs j b hm=>(h j b).2 ⟨k,a,hs,hm⟩
theorem kBo (v:Val n m cap may u l) (hN:∀ k,k<n->row m u k<=N k) (hT:Nb n m may S T):lack n m cap N S T<=sumN N n-sumN (row m u) n:=by
 have e:=kqj v hT.h;have h2:sumN (λj=>if T j=true then sumN (λk=>if S k=true then u k j else 0) n else 0) m<=sumN (λj=>if T j=true then cap j else 0) m:=klo λj c=>by
  show (if T j=true then sumN (λk=>if S k=true then u k j else 0) n else 0)<=(if T j=true then cap j else 0);split
  ·exact kCU v S c
  ·exact jcu 0
 have a:sumN (λk=>(if S k=true then N k else 0)-(if S k=true then row m u k else 0)) n<=sumN (λk=>N k-row m u k) n:=klo λk b=>by
  have:=hN k b;show (if S k=true then N k else 0)-(if S k=true then row m u k else 0)<=N k-row m u k;split <;> omega
 rw [kfM,kfM] at a;unfold lack;omega
theorem kvT (v:Val n m cap may u l) (hN:∀ k,k<n->row m u k<=N k) (hS:Sat n m may u l S) (hT:Nb n m may S T) (h:∀ k,k<n->row m u k<N k->S k=true):lack n m cap N S T=sumN N n-sumN (row m u) n:=by
 have p:=kqj v hT.h;have h2:sumN (λj=>if T j=true then sumN (λk=>if S k=true then u k j else 0) n else 0) m=sumN (λj=>if T j=true then cap j else 0) m:=kak λj b=>by
  show (if T j=true then sumN (λk=>if S k=true then u k j else 0) n else 0)=(if T j=true then cap j else 0);split
  ·rename_i g;obtain ⟨k,e,hs,hm⟩:=(hT j b).1 g;have z:=hS.z k e hs j b hm;have o:=v.bal j b;have:sumN (λk=>if S k=true then u k j else 0) n=sumN (λk=>u k j) n:=kak λa f=>by
    show (if S a=true then u a j else 0)=u a j;split
    ·rfl
    ·rename_i hn;have:=v.nn a f j b;by_cases c:0<u a j
     ·exact absurd (hS.c k e hs j b hm a f c) hn
     ·omega
   omega
  ·rfl
 have i:sumN (λk=>(if S k=true then N k else 0)-(if S k=true then row m u k else 0)) n=sumN (λk=>N k-row m u k) n:=kak λk e=>by
  show (if S k=true then N k else 0)-(if S k=true then row m u k else 0)=N k-row m u k;split
  ·rfl
  ·rename_i hn;have:=hN k e;by_cases c:row m u k<N k
   ·exact absurd (h k e c) hn
   ·omega
 rw [kfM,kfM] at i;unfold lack;omega
theorem kyi {S:Nat->Bool} {L:Nat->Prop} (hS:∀ k,k<n->(S k=true↔Rch n m may u L k)) (hs:∀ i,i<n->L i->∃ a,a i=true/\Sat n m may u l a):Sat n m may u l S:=by
 have key:∀ k,Rch n m may u L k->∃ a,a k=true/\Sat n m may u l a:=by
  intro k hr;induction hr with
  | base hi hl=>exact hs _ hi hl
  | step hr e hm b o s=>
   obtain ⟨a,p,g⟩:=s;exact ⟨a,g.c _ hr.lt p _ e hm _ b o,g⟩
 refine ⟨λk b h j e hm=>?_,λk b h j e hm r f o=>?_⟩
 ·obtain ⟨a,p,g⟩:=key k ((hS k b).1 h);exact g.z k b p j e hm
 ·exact (hS r f).2 (Rch.step ((hS k b).1 h) e hm f o)
theorem best (v:Val n m cap may u l) (hN:∀ k,k<n->row m u k<=N k) (hs:∀ k,k<n->row m u k<N k->∃ S,S k=true/\Sat n m may u l S) (a:Val n m cap may u' l') (hN':∀ k,k<n->row m u' k<=N k):sumN (row m u') n<=sumN (row m u) n:=by
 classical
 let S:Nat->Bool:=λk=>decide (Rch n m may u (λk=>row m u k<N k) k)
 let T:Nat->Bool:=λj=>decide (∃ k,k<n/\S k=true/\may k j)
 have hT:Nb n m may S T:=λj _=>by simp only [T,jaj]
 have c:=kvT (N:=N) v hN (kyi (S:=S) (L:=λk=>row m u k<N k) (λk _=>by simp only [S,jaj]) hs) hT (λk b hl=>by simp only [S,jaj]; exact .base b hl);have h2:=kBo (N:=N) a hN' hT;omega
end Go.Abs.Fl
namespace Go.Abs
open Go Go.Abs.Fl
theorem kAF (l:Ya Swap):∃ b,kgl l=some b/\(b=true↔swE l=0):=by
 have h:=kjG l;unfold keo at h;cases a:kgl l with
 | none=>rw [a] at h; cases h
 | some b=>
  rw [a] at h;refine ⟨b,rfl,?_⟩;cases b with
  | true=>simp at h; simp [<-h]
  | false=>simp at h; simp [<-h]
theorem ask0 {X Y:Ya It} {sw:Ya Swap} (h:askE X Y sw=0):stk X=true/\stk Y=true:=by
 by_cases c:stk X=true/\stk Y=true
 ·exact c
 ·unfold askE at h; rw [if_neg c] at h; omega
theorem kAV (X Y:Ya It) (sw:Ya Swap):∃ b,kke X Y sw=some b/\(b=true->X.length<=40/\Y.length<=40/\sw.length<=40/\askE X Y sw=0):=by
 obtain ⟨c,hc,a⟩:=kCt X Y;obtain ⟨d,i,e⟩:=kAF sw;unfold kke;rw [hc];simp only [jaa];cases c with
 | true=>exact ⟨false,rfl,λh=>by cases h⟩
 | false=>
  by_cases f:lenI sw<=40
  ·simp only [jcl,if_true,decide_eq_true f,kjS,jaa,i];by_cases h2:stk X=true
   ·by_cases g:stk Y=true
    ·refine ⟨d,by rw [if_pos h2,if_pos g],λh=>⟨(a rfl).1,(a rfl).2,by rw [kac] at f; omega,?_⟩⟩;unfold askE;rw [if_pos ⟨h2,g⟩]; exact e.1 h
    ·exact ⟨false,by rw [if_pos h2,if_neg g],λh=>by cases h⟩
   ·exact ⟨false,by rw [if_neg h2],λh=>by cases h⟩
  ·simp only [jcl,if_true,decide_eq_false f,jaf,if_false];exact ⟨false,rfl,λh=>by cases h⟩
theorem kqa {f:Nat->Int} {c:Int}:∀ {n:Nat},(∀ i,i<n->0<=f i/\f i<=c)->0<=sumN f n/\sumN f n<=c*n
 | 0,_=>by simp [sumN]
 | n+1,h=>by
  have a:=kqa (n:=n) λi hi=>h i (by omega);have h2:=h n (by omega);simp only [sumN];have e:c*((n+1:Nat):Int)=c*(n:Int)+c:=by push_cast; rw [Int.mul_add,Int.mul_one]
  rw [e]; omega
theorem kpv {l:Ya It} {k:Nat} (h:k<l.length):l[k].2.2=needN l k:=(kjO h).symm
theorem kAv {l:Ya It} (hl:l.length<=1000) (hN:∀ k,k<l.length->0<=needN l k/\needN l k<=1000):kkF l=some (sumN (needN l) l.length):=by
 unfold kkF;obtain ⟨z,hz,rfl⟩:=Fl.iter_inv (F:=kjq l) (λx=>∃ i:Nat,i<=l.length/\x=((i:Int),sumN (needN l) i)) (λx=>l.length-x.1.toNat) (λz=>z=sumN (needN l) l.length)
  (λx b=>by
   obtain ⟨i,hi,rfl⟩:=b;by_cases h:i<l.length
   ·refine .inr ⟨(((i+1:Nat):Int),sumN (needN l) (i+1)),?_,⟨i+1,by omega,rfl⟩,by simp only [jal]; omega⟩;have e:=kqa (f:=needN l) (c:=1000) (n:=i) λk g=>hN k (by omega);have a:=hN i h;unfold kjq;simp only [lenI_lt.2 h,if_true,kan h,jaa,kah (show i<9223372036854775807 by omega),kpv h];rw [kaz (by omega) (by omega)];rfl
   ·have:i=l.length:=by omega
    subst this;refine .inl ⟨_,?_,rfl⟩;unfold kjq;rw [if_neg kbk])
  (0,0) ⟨0,by omega,rfl⟩ (by simp; omega)
 rw [hz]; rfl
variable {X Y:Ya It} {sw:Ya Swap}
structure Fld (X Y:List It) (sw:List Swap) (t:Int) (s:List Bool):Prop where
 ex:∃ U L,Val Y.length X.length (needN X) (mayQ X Y sw) (ua U) (la L)/\(∀ k,k<Y.length->row X.length (ua U) k<=needN Y k)/\t=sumN (row X.length (ua U)) Y.length/\
  (∀ k,k<Y.length->row X.length (ua U) k<needN Y k->∃ S,S k=true/\Fl.Sat Y.length X.length (mayQ X Y sw) (ua U) (la L) S)/\
  ∀ k,k<Y.length->(sa s k=true↔Rch Y.length X.length (mayQ X Y sw) (ua U) (λk=>row X.length (ua U) k<needN Y k) k)
 sl:s.length=Y.length
theorem Rch.imp {n m:Nat} {may:Nat->Nat->Prop} {u:Nat->Nat->Int} {L a:Nat->Prop} (h:∀ k,k<n->L k->a k) {i:Nat} (r:Rch n m may u L i):Rch n m may u a i:=by
 induction r with
 | base hi hl=>exact .base hi (h _ hi hl)
 | step _ f hm e c b=>exact .step b f hm e c
theorem kCu {X Y:Ya It} {sw:Ya Swap} (hX:X.length<=1000) (hY:Y.length<=1000) (hs:sw.length<=1000) (h:askE X Y sw=0):∃ t s,klw X Y sw=some ((t,idx s Y.length),0)/\Fld X Y sw t s:=by
 obtain ⟨E,i⟩:=stk_N (ask0 h).1;obtain ⟨F,p⟩:=stk_N (ask0 h).2;obtain ⟨M,U,p1,p2,p3,g⟩:=g1_ok hX hY hs h;have e:gmk (lenI Y) false=some (List.replicate Y.length false):=by
  unfold gmk;rw [kac,if_pos (by omega),jal]
 have hc:∀ j,j<X.length->needN X j<=1000:=λj c=>(i j c).2;have f:∀ j,j<X.length->0<=needN X j:=λj c=>by have:=(i j c).1; omega
 have hN:∀ k,k<Y.length->0<=needN Y k/\needN Y k<=1000:=λk a=>by have:=p k a; omega
 have shp:Shp Y.length X.length U (X.map λx=>x.2.2):=⟨p3,λk a=>by rw [g k a]; simp,by simp⟩;have y:=At.zero (cap:=needN X) (may:=mayQ X Y sw) shp (λk a j c=>kly g a c) (λj c=>kfC c) f (needN Y) rfl;obtain ⟨t,D,z,K2,w,b⟩:=kCP (N:=Y) p2 rfl (by omega) (by omega) hc hN y;obtain ⟨s,A,o,r⟩:=kBC (N:=Y) p2 (by omega) (by omega) b.sh b.kl;refine ⟨t,s,?_,⟨D,z,b.v,b.le,b.t,b.st,λk a=>(r k a).trans ⟨Rch.imp λk a h=>?_,Rch.imp λk a h=>?_⟩⟩,A⟩
 ·unfold klw;rw [g0_eq hX hY hs,if_neg (by simp [h])];simp only [Option.bind_none,elsO,p1,jaa,e];rw [if_neg (by simp)];simp only [w,jaa,o]
 ·rw [b.k1 k a,jaj] at h; exact h
 ·rw [b.k1 k a,jaj]; exact h
section
variable {X Y us:Ya It} {sw:Ya Swap}
structure Rl (X Y:List It) (W L G K:List Int):Prop where
 w:W.length=Y.length
 l:L.length=X.length
 g:G.length=Y.length
 k:K.length=X.length
 a:∀ a,a<Y.length->la W a=needN Y a-la G a
 b:∀ b,b<X.length->la L b=needN X b-la K b
theorem kCZ (hs:sw.length<=1000) (hX:X.length<=1000) (hY:Y.length<=1000) (hu:us.length<=1000) (nX:∀ b,b<X.length->0<=needN X b/\needN X b<=1000) (nY:∀ a,a<Y.length->0<=needN Y a/\needN Y a<=1000):∀ (k i:Nat) (t:Int) (W L G K:Ya Int),i+k=us.length->Rl X Y W L G K->Sm W->Sm L->
  itN (kaD X Y sw us) (k+1) ((i:Int),G,K)=some (match run X Y sw us k i t W L with | some _=>.inr () | none=>.inl false):=by
 intro k;induction k with
 | zero=>
  intro i t W L G K h r sW sL;have:i=us.length:=by omega
  subst this;refine kck ?_;unfold kaD;rw [if_neg kbk]; rfl
 | succ k ih=>
  intro i t W L G K h r sW sL;have hi:i<us.length:=by omega
  have g0:gi us (i:Int)=some (at3 us i):=by rw [kan hi,kbD hi]
  have hn:w64 (lenI Y-1)=(Y.length:Int)-1:=by rw [kac]; exact kaz (by omega) (by omega)
  have hm:w64 (lenI X-1)=(X.length:Int)-1:=by rw [kac]; exact kaz (by omega) (by omega)
  have c:decide ((i:Int)<lenI us)=true:=lenI_lt.2 hi;have hw:w64 ((i:Int)+1)=((i+1:Nat):Int):=kah (by omega);simp only [run];generalize s:at3 us i=u at *
  have x:okU X Y sw us i W L=false->kaD X Y sw us ((i:Int),G,K)=some (.inr (.inl false))->itN (kaD X Y sw us) (k+1+1) ((i:Int),G,K)=some (match (if okU X Y sw us i W L=true then run X Y sw us k (i+1) (t+u.2.2) (W.set u.1.toNat (la W u.1.toNat-u.2.2)) (L.set u.2.1.toNat (la L u.2.1.toNat-u.2.2)) else none) with | some _=>.inr () | none=>.inl false):=λP y=>by
   rw [P,kck y]; rfl
  by_cases D:wi 0 ((Y.length:Int)-1) u.1=true
  ·by_cases E:wi 0 ((X.length:Int)-1) u.2.1=true
   ·obtain ⟨a1,a2⟩:=wi_iff.1 D;obtain ⟨b1,b2⟩:=wi_iff.1 E;obtain ⟨a,Q⟩:∃ a:Nat,u.1=(a:Int):=⟨u.1.toNat,by omega⟩;obtain ⟨b,P⟩:∃ b:Nat,u.2.1=(b:Int):=⟨u.2.1.toNat,by omega⟩;have p:a<Y.length:=by omega
    have o:b<X.length:=by omega
    have A:u.1.toNat=a:=by omega
    have I:u.2.1.toNat=b:=by omega
    have ra:=r.a a p;have rb:=r.b b o;have na:=nY a p;have nb:=nX b o;have af:=sW a;have ah:=sL b;by_cases H:wi 1 1000 u.2.2=true
    ·obtain ⟨n1,n2⟩:=wi_iff.1 H;have gG:gi G (a:Int)=some (la G a):=gi_D 0 (by rw [r.g]; exact p);have gK:gi K (b:Int)=some (la K b):=gi_D 0 (by rw [r.k]; exact o);have gY:gi Y (a:Int)=some (at3 Y a):=by rw [kan p,kbD p]
     have gX:gi X (b:Int)=some (at3 X b):=by rw [kan o,kbD o]
     have e1:w64 (la G a+u.2.2)=la G a+u.2.2:=kaz (by omega) (by omega);have e2:w64 (la K b+u.2.2)=la K b+u.2.2:=kaz (by omega) (by omega);have gG2:gi (lset G (a:Int) (la G a+u.2.2)) (a:Int)=some (la G a+u.2.2):=by
      show gi (G.set a (la G a+u.2.2)) (a:Int)=_;rw [gi_D 0 (by rw [jbs,r.g]; exact p),Fl.getD_set (by rw [r.g]; exact p),if_pos rfl]
     have gK2:gi (lset K (b:Int) (la K b+u.2.2)) (b:Int)=some (la K b+u.2.2):=by
      show gi (K.set b (la K b+u.2.2)) (b:Int)=_;rw [gi_D 0 (by rw [jbs,r.k]; exact o),Fl.getD_set (by rw [r.k]; exact o),if_pos rfl]
     have hY2:(at3 Y a).2.2=needN Y a:=rfl;have hX2:(at3 X b).2.2=needN X b:=rfl;have z:kfa sw (at3 Y a).1 (at3 Y a).2.1 (at3 X b).1 (at3 X b).2.1=some (mayB sw (kc (at3 Y a)) (kc (at3 X b))):=klM sw hs (kc (at3 Y a)) (kc (at3 X b));have f:(if decide (0<(i:Int))=true then (gi us (w64 ((i:Int)-1))).bind λac=>(if decide (u.1<ac.1)=true then some true else (gi us (w64 ((i:Int)-1))).bind λae=>if (u.1==ae.1)=true then (gi us (w64 ((i:Int)-1))).bind λZ=>some (decide (u.2.1<=Z.2.1)) else some false) else some false)=some (decide (0<i)&&kgj (at3 us (i-1)) u):=by
      by_cases F:0<i
      ·rw [if_pos (by simp; omega),show w64 ((i:Int)-1)=((i-1:Nat):Int) by rw [kaz (by omega) (by omega)]; omega,kan (show i-1<us.length by omega)];simp only [jaa,<-kbD (show i-1<us.length by omega)];unfold kgj;by_cases q1:u.1<(at3 us (i-1)).1
       ·simp [q1,F]
       ·by_cases q2:(u.1==(at3 us (i-1)).1)=true
        ·simp [q1,q2,F]
        ·rw [jbk] at q2; simp [q1,q2,F]
      ·rw [if_neg (by simp; omega)]; simp [F]
     cases J:(decide (0<i)&&kgj (at3 us (i-1)) u) with
     | true=>
      refine x ?_ ?_
      ·rw [jcr]; intro y;have:=(okU_iff.1 y).2.2.2.2.2.2;rw [s,J] at this; cases this
      ·unfold kaD;simp only [c,if_true,g0,jaa,hn,hm,keT,D,E,H,jbt,jaf,if_false];rw [f,J];simp only [jaa,if_true]
     | false=>
     cases O:mayB sw (kc (at3 Y a)) (kc (at3 X b)) with
     | false=>
      refine x ?_ ?_
      ·rw [jcr]; intro y;have:=(okU_iff.1 y).2.2.1;rw [s,A,I,O] at this; cases this
      ·unfold kaD;simp only [c,if_true,g0,jaa,hn,hm,keT,D,E,H,jbt,jaf,if_false];rw [f,J];simp only [Q,P,gG,gK,gY,gX,z,O,jaa,jaf,if_false,jcl,if_true]
     | true=>
      by_cases U:needN Y a<la G a+u.2.2
      ·refine x ?_ ?_
       ·rw [jcr]; intro y;have:=(okU_iff.1 y).2.2.2.2.1;rw [s,A] at this; omega
       ·unfold kaD;simp only [c,if_true,g0,jaa,hn,hm,keT,D,E,H,jbt,jaf,if_false];rw [f,J];simp only [Q,P,gG,gK,gY,gX,z,O,jaa,jaf,if_false,jbt,e1,e2,gG2,hY2,decide_eq_true U,if_true]
      ·by_cases c7:needN X b<la K b+u.2.2
       ·refine x ?_ ?_
        ·rw [jcr]; intro y;have:=(okU_iff.1 y).2.2.2.2.2.1;rw [s,I] at this; omega
        ·unfold kaD;simp only [c,if_true,g0,jaa,hn,hm,keT,D,E,H,jbt,jaf,if_false];rw [f,J];simp only [Q,P,gG,gK,gY,gX,z,O,jaa,jaf,if_false,jbt,e1,e2,gG2,gK2,hY2,hX2,decide_eq_false U,decide_eq_true c7,if_true]
       ·have ad:okU X Y sw us i W L=true:=okU_iff.2 (by rw [s,A,I]; exact ⟨⟨a1,a2⟩,⟨b1,b2⟩,O,n1,by omega,by omega,J⟩);rw [if_pos ad,A,I];have haW:a<W.length:=by rw [r.w]; exact p
        have hbL:b<L.length:=by rw [r.l]; exact o
        have haG:a<G.length:=by rw [r.g]; exact p
        have hbK:b<K.length:=by rw [r.k]; exact o
        rw [<-ih (i+1) (t+u.2.2) (W.set a (la W a-u.2.2)) (L.set b (la L b-u.2.2)) (G.set a (la G a+u.2.2)) (K.set b (la K b+u.2.2)) (by omega) ⟨by simp [r.w],by simp [r.l],by simp [r.g],by simp [r.k],λa' aa=>?_,λb' ab=>?_⟩ (sW.set (by omega) (by omega)) (sL.set (by omega) (by omega))]
        ·refine kid ?_;unfold kaD;simp only [c,if_true,g0,jaa,hn,hm,keT,D,E,H,jbt,jaf,if_false];rw [f,J];simp only [Q,P,gG,gK,gY,gX,z,O,jaa,jaf,if_false,jbt,e1,e2,gG2,gK2,hY2,hX2,decide_eq_false U,decide_eq_false c7,hw];rfl
        ·rw [kcL haW,kcL haG];split
         ·rename_i e; subst e; omega
         ·exact r.a a' aa
        ·rw [kcL hbL,kcL hbK];split
         ·rename_i e; subst e; omega
         ·exact r.b b' ab
    ·rw [jbk] at H;refine x ?_ ?_
     ·rw [jcr]; intro y;obtain ⟨_,_,_,x1,x2,x3,_⟩:=okU_iff.1 y;rw [s] at x1 x2 x3;rw [A] at x2;have:wi 1 1000 u.2.2=true:=wi_iff.2 (by omega);rw [H] at this; cases this
     ·unfold kaD;simp only [c,if_true,g0,jaa,hn,hm,keT,D,E,H,jbt,jcl,jaf,if_false]
   ·rw [jbk] at E;refine x ?_ ?_
    ·rw [jcr]; intro y;have:=wi_iff.2 (okU_iff.1 y).2.1;rw [s,E] at this; cases this
    ·unfold kaD;simp only [c,if_true,g0,jaa,hn,hm,keT,D,E,jbt,jcl,jaf,if_false]
  ·rw [jbk] at D;refine x ?_ ?_
   ·rw [jcr]; intro y;have:=wi_iff.2 (okU_iff.1 y).1;rw [s,D] at this; cases this
   ·unfold kaD;simp only [c,if_true,g0,jaa,hn,keT,D,jcl]
theorem kBG (hY:Y.length<=1000):iter (ker Y) (0,List.replicate Y.length 0)=some (Y.map λx=>x.2.2):=by
 obtain ⟨z,hz,a,b⟩:=Fl.iter_inv (F:=ker Y) (λx=>∃ (i:Nat) (W:Ya Int),i<=Y.length/\x=((i:Int),W)/\W.length=Y.length/\∀ k,k<i->la W k=needN Y k) (λx=>Y.length-x.1.toNat) (λW=>W.length=Y.length/\∀ k,k<Y.length->la W k=needN Y k)
  (λx o=>by
   obtain ⟨i,W,hi,rfl,a,b⟩:=o;by_cases c:i<Y.length
   ·have g:gi W (i:Int)=some (la W i):=gi_D 0 (by omega);refine .inr ⟨((i+1:Nat),W.set i Y[i].2.2),?_,⟨i+1,_,by omega,rfl,by simp [a],λk p=>?_⟩,by simp only [jal]; omega⟩
    ·unfold ker;simp only [lenI_lt.2 c,if_true,kan c,g,jaa,kah (show i<9223372036854775807 by omega)];rfl
    ·rw [kcL (by omega)];by_cases e:k=i
     ·subst e; rw [if_pos rfl,kjO c]
     ·rw [if_neg e]; exact b k (by omega)
   ·have:i=Y.length:=by omega
    subst this;refine .inl ⟨W,?_,a,b⟩;unfold ker;rw [if_neg kbk])
  (0,List.replicate Y.length 0) ⟨0,_,by omega,rfl,by simp,λk h=>by omega⟩ (by simp only; omega)
 rw [hz];congr 1;apply List.ext_getElem (by simp [a]);intro k f h2;have:=b k (by omega);unfold la at this;rw [jaq,jae f,kjO (by omega)] at this;simpa using this
end
theorem kpZ {l:Ya It} (h:∀ k,k<l.length->0<=needN l k/\needN l k<=1000):Sm (l.map λx=>x.2.2):=λk=>by
 by_cases a:k<l.length
 ·rw [kfC a]; exact h k a
 ·unfold la;rw [jaq,jce (by simp; omega)]; simp
theorem kpi (n k:Nat):la (List.replicate n 0) k=0:=by
 unfold la;rw [jaq,jcd];split <;> rfl
theorem kqJ (l:Ya Int) (hl:l.length<=1000):kbu l l=some true:=by
 unfold kbu;rw [if_neg (by simp),kiG (F:=kfr l l) false l (by omega) (λ_ _=>false) (λi hi=>by
  unfold kfr;rw [if_pos (by rw [kac]; simpa using hi),kan hi,kah (by omega)];simp) (by unfold kfr; rw [if_neg (by simp [kac])])]
 simp
variable {X Y us:Ya It} {sw:Ya Swap}
structure Ru (X Y:List It) (sw:List Swap) (t:Int) (W L:List Int) (u:Nat->Nat->Int):Prop where
 w:W.length=Y.length
 l:L.length=X.length
 w0:∀ a,0<=la W a
 v:Val Y.length X.length (needN X) (mayQ X Y sw) u (la L)
 r:∀ k,k<Y.length->row X.length u k=needN Y k-la W k
 t:t=sumN (row X.length u) Y.length
theorem kAU {i:Nat} {t:Int} {W L:Ya Int} {u:Nat->Nat->Int} (h:Ru X Y sw t W L u) (z:okU X Y sw us i W L=true) :
  ∃ u',Ru X Y sw (t+(at3 us i).2.2) (W.set (at3 us i).1.toNat (la W (at3 us i).1.toNat-(at3 us i).2.2)) (L.set (at3 us i).2.1.toNat (la L (at3 us i).2.1.toNat-(at3 us i).2.2)) u'/\
   (at3 us i).1.toNat<Y.length/\(at3 us i).1=((at3 us i).1.toNat:Int)/\∀ k,k<Y.length->row X.length u' k=row X.length u k+if k=(at3 us i).1.toNat then (at3 us i).2.2 else 0:=by
 obtain ⟨⟨J,G⟩,⟨E,I⟩,hm,n1,A,y,_⟩:=okU_iff.1 z;generalize H:(at3 us i).1.toNat=a at *
 generalize F:(at3 us i).2.1.toNat=b at *
 generalize D:(at3 us i).2.2=d at *
 have c:a<Y.length:=by omega
 have g:b<X.length:=by omega
 obtain ⟨x,r1,r2⟩:=h.v.take (l':=la (L.set b (la L b-d))) (u':=λk j=>if k=a/\j=b then u a b+d else u k j) c g hm (d:=d) (by omega) y
  (by rw [kcL (by rw [h.l]; exact g),if_pos rfl]) (by rw [if_pos ⟨rfl,rfl⟩]) (λs p f=>by rw [kcL (by rw [h.l]; exact g),if_neg f]) (λk o s p f=>by rw [if_neg f])
 have hr:∀ k,k<Y.length->row X.length (λk j=>if k=a/\j=b then u a b+d else u k j) k=row X.length u k+if k=a then d else 0:=λk o=>by
  by_cases e:k=a
  ·subst e; rw [if_pos rfl]; exact r1
  ·rw [if_neg e,r2 k o e]; omega
 refine ⟨_,⟨by simp [h.w],by simp [h.l],λk=>?_,x,λk o=>?_,?_⟩,c,by omega,hr⟩
 ·rw [kcL (by rw [h.w]; exact c)];split
  ·omega
  ·exact h.w0 k
 ·rw [hr k o,h.r k o,kcL (by rw [h.w]; exact c)];split
  ·rename_i e; subst e; omega
  ·omega
 ·rw [h.t];exact (kdu (i:=a) (d:=d) (by rw [hr a c,if_pos rfl]) c λj p f=>by rw [hr j p,if_neg f]; omega).symm
theorem kyv {l:Ya It} {i:Nat} (h:i<l.length):gi l (i:Int)=some (at3 l i):=by rw [kan h,kbD h]
theorem kAo {n m:Nat} {cap:Nat->Int} {may:Nat->Nat->Prop} {u:Nat->Nat->Int} {l:Nat->Int} (v:Val n m cap may u l) {k:Nat} (a:k<n):0<=row m u k:=kdj λj b=>v.nn k a j b
theorem kAN:∀ (k i:Nat) (t T:Int) (W L G:Ya Int) (u:Nat->Nat->Int),i+k=us.length->us.length<=1000->run X Y sw us k i t W L=some T->Ru X Y sw t W L u->(∀ a,a<Y.length->needN Y a<=1000)->G.length=Y.length->(∀ a,a<Y.length->la G a=row X.length u a)->
  ∃ y s f u',Ru X Y sw T y s u'/\itN (kdo us) (k+1) ((i:Int),G)=some f/\f.length=Y.length/\∀ a,a<Y.length->la f a=row X.length u' a:=by
 intro k;induction k with
 | zero=>
  intro i t T W L G u hi z h hR hN hG o;have e:t=T:=Option.some.inj h;subst e;refine ⟨W,L,G,u,hR,kck ?_,hG,o⟩;unfold kdo;rw [if_neg (by rw [jaj,kac]; omega)]
 | succ k Q=>
  intro i t T W L G u hi z h hR hN hG o;unfold run at h;by_cases p:okU X Y sw us i W L=true
  ·rw [if_pos p] at h;obtain ⟨u',hR',b,w,hr⟩:=kAU hR p;have g:i<us.length:=by omega
   have K:=(okU_iff.1 p).2.2.2.1;have g1:gi G (at3 us i).1=some (la G (at3 us i).1.toNat):=by rw [w]; exact gi_D 0 (by rw [hG]; exact b)
   have U:=hR'.w0 (at3 us i).1.toNat;have H:=hR'.r _ b;have E:=hr _ b;rw [if_pos rfl] at E;have P:=kAo hR'.v b;have A:=kAo hR.v b;have hNa:=hN _ b;have x:=o _ b;obtain ⟨y,s,f,O,I,D,F,J⟩:=Q (i+1) _ T _ _ (G.set (at3 us i).1.toNat (la G (at3 us i).1.toNat+(at3 us i).2.2)) u' (by omega) z h hR' hN (by simp [hG]) (λa c=>by
    rw [kcL (by rw [hG]; exact b),hr a c];split
    ·rename_i e; rw [e,x]
    ·rw [o a c]; omega)
   refine ⟨y,s,f,O,I,?_,F,J⟩;rw [<-D];refine kid ?_;unfold kdo;simp only [lenI_lt.2 g,if_true,kyv g,jaa,g1,kah (show i<9223372036854775807 by omega)];rw [kaz (by omega) (by omega)];rfl
  ·rw [if_neg p] at h; cases h
theorem kwA {n m:Nat} {u:Nat->Nat->Int} (a:∀ j,j<m->u n j=0):row m u n=0:=by
 unfold row;rw [kak (g:=λ_=>0) a,kdA]
theorem kCh (hX:∀ k,k<X.length->0<=needN X k) (hY:∀ k,k<Y.length->0<=needN Y k):Ru X Y sw 0 (Y.map λx=>x.2.2) (X.map λx=>x.2.2) (λ_ _=>0):=by
 have z:∀ k,row X.length (λ_ _=>0) k=0:=λk=>kwA (λ_ _=>rfl);refine ⟨by simp,by simp,λa=>?_,⟨λ_ _ _ _=>jcu 0,λ_ _ _ _ h=>absurd h (by omega),λj b=>by rw [kfC b]; exact hX j b,λj b=>by rw [kfC b,kdA]; omega⟩,λk c=>by rw [z,kfC c]; omega,?_⟩
 ·by_cases h:a<Y.length
  ·rw [kfC h]; exact hY a h
  ·unfold la;rw [jaq,jce (by simp; omega)];exact jcu 0
 ·rw [kak (g:=λ_=>0) λk _=>z k,kdA]
def runT (X Y:Ya It) (sw:Ya Swap) (us:Ya It):Yb Int:=run X Y sw us us.length 0 0 (Y.map λx=>x.2.2) (X.map λx=>x.2.2)
theorem kAI {T:Int} (o:us.length<=1000) (hX:∀ k,k<X.length->0<=needN X k) (hY:∀ k,k<Y.length->0<=needN Y k/\needN Y k<=1000) (hY2:Y.length<=1000) (h:runT X Y sw us=some T) :
  ∃ u l G,Val Y.length X.length (needN X) (mayQ X Y sw) u l/\(∀ k,k<Y.length->row X.length u k<=needN Y k)/\T=sumN (row X.length u) Y.length/\keI Y us=some G/\G.length=Y.length/\∀ a,a<Y.length->la G a=row X.length u a:=by
 obtain ⟨x,p,w,u',b,g,i,s⟩:=kAN us.length 0 0 T _ _ (List.replicate Y.length 0) _ (by omega) o h (kCh (sw:=sw) hX λk e=>(hY k e).1) (λa f=>(hY a f).2) (by simp) (λa f=>by rw [kpi,kwA (λ_ _=>rfl)]);refine ⟨u',la p,w,b.v,λk e=>by have:=b.w0 k; have:=b.r k e; omega,b.t,?_,i,s⟩;have c:gmk (lenI Y) (0:Int)=some (List.replicate Y.length 0):=by
  unfold gmk;rw [kac,if_pos (by omega),jal]
 have:=kfy g (by omega);rw [Int.natCast_zero] at this;unfold keI;rw [c];simp only [jaa,this]
theorem kxk (hX:X.length<=1000) (hY:Y.length<=1000) (hs:sw.length<=1000) (e:us.length<=1000) (h:askE X Y sw=0):keF X Y sw us=some (match runT X Y sw us with | some T=>(T,0) | none=>(0,8)):=by
 obtain ⟨g,f⟩:=stk_N (ask0 h).1;obtain ⟨o,c⟩:=stk_N (ask0 h).2;obtain ⟨M,U,p1,p2,p3,i⟩:=g1_ok hX hY hs h;have a:gmk (lenI Y) (0:Int)=some (List.replicate Y.length 0):=by
  unfold gmk;rw [kac,if_pos (by omega),jal]
 have nX:∀ k,k<X.length->0<=needN X k/\needN X k<=1000:=λk b=>by have:=f k b; omega
 have nY:∀ k,k<Y.length->0<=needN Y k/\needN Y k<=1000:=λk b=>by have:=c k b; omega
 have P:=kfy (kCK (U:=U) (L0:=X.map λx=>x.2.2) p2 hX hY e us.length 0 0 (Y.map λx=>x.2.2) (X.map λx=>x.2.2) (by omega) (by simp) (by simp) (kpZ nY) (kpZ nX) (by omega) (by omega)) (by omega);simp only [Int.natCast_zero] at P;unfold keF;rw [g0_eq hX hY hs,if_neg (by simp [h])];simp only [Option.bind_none,elsO,p1,jaa,a];rw [if_neg (by simp),kBG hY];simp only [jaa,P];unfold runT;cases run X Y sw us us.length 0 0 (Y.map λx=>x.2.2) (X.map λx=>x.2.2) <;> rfl
theorem Fld.lack {t:Int} {s:Ya Bool} (h:Fld X Y sw t s) {T:Nat->Bool} (hT:Nb Y.length X.length (mayQ X Y sw) (sa s) T):Fl.lack Y.length X.length (needN X) (needN Y) (sa s) T=sumN (needN Y) Y.length-t:=by
 obtain ⟨U,L,v,le,b,st,hS⟩:=h.ex;rw [b];exact kvT v le (kyi hS st) hT λk a hl=>(hS k a).2 (.base a hl)
theorem Fld.bd {t:Int} {s:Ya Bool} (h:Fld X Y sw t s) (hY:Y.length<=40) (hN:∀ k,k<Y.length->0<=needN Y k/\needN Y k<=1000):0<=t/\t<=sumN (needN Y) Y.length/\sumN (needN Y) Y.length<=40000:=by
 obtain ⟨U,L,v,le,e,st,hS⟩:=h.ex;have g:=kqa (f:=needN Y) (c:=1000) hN;have h2:=kdj (f:=row X.length (ua U)) (n:=Y.length) λk b=>kAd v b;have a:=klo le;rw [<-e] at h2 a;omega
section
variable {n m:Nat} {cap:Nat->Int} {may:Nat->Nat->Prop} {N:Nat->Int} {U0:Ya (Ya Int)} {L0:Ya Int}
theorem Dn.make {M:Ya (Ya Int)} {Z:Ya (Int×Int×Int)} (hM:MayL n m may M) (hn:n<=1000) (hm:m<=1000) (hc:∀ j,j<m->cap j<=1000) (hN:∀ k,k<n->0<=N k/\N k<=1000) (sh:Shp n m U0 L0) (v:Val n m cap may (ua U0) (la L0)):∀ (r:Ya Nat),(∀ k∈r,k<n)->∃ U L f,Dn n m cap may N U0 L0 r.reverse U L f:=by
 intro r;induction r with
 | nil=>intro _; exact ⟨_,_,_,.nil⟩
 | cons i r e=>
  intro hr;obtain ⟨U,L,f,hD⟩:=e λk o=>hr k (jaw _ o);have hi:=hr i (jcm ..);obtain ⟨a,b⟩:=hD.ok sh v;obtain ⟨g,s,p,_,c⟩:=kmy (M:=M) (N:=Z) hM hn hm hc hi (hN i hi).1 (hN i hi).2 a b;rw [List.reverse_cons];exact ⟨_,_,_,.snoc _ _ _ _ _ _ _ _ hD hi c⟩
structure Drw (n m:Nat) (cap:Nat->Int) (may:Nat->Nat->Prop) (N:Nat->Int) (ds:List Nat) (U:List (List Int)) (L:List Int) (f:Nat->Int):Prop where
 v:Val n m cap may (ua U) (la L)
 r:∀ k,k<n->row m (ua U) k=f k
 z:∀ k,k∉ds->f k=0
 le:∀ k,k∈ds->0<=f k/\f k<=N k
 st:∀ k,k∈ds->f k<N k->∃ S,S k=true/\Fl.Sat n m may (ua U) (la L) S
theorem Dn.drw (sh:Shp n m U0 L0) (v:Val n m cap may (ua U0) (la L0)) (z:∀ k,k<n->row m (ua U0) k=0) {r:Ya Nat} {U:Ya (Ya Int)} {L:Ya Int} {f:Nat->Int} (h:Dn n m cap may N U0 L0 r U L f):r.Nodup->Drw n m cap may N r U L f:=by
 induction h with
 | nil=>intro _; exact ⟨v,z,λ_ _=>rfl,λk a=>(by simp at a),λk a=>(by simp at a)⟩
 | snoc r U L f i g D G hD hi b F=>
  intro o;rw [jee] at o;have p:i∉r:=λhc=>o.2.2 i hc i (jdp.2 rfl) rfl;obtain ⟨A,r',w,le',t⟩:=F o.1;have ri:row m (ua D) i=g:=by rw [b.ri,r' i hi,w i p]; omega
  refine ⟨b.v,λk a=>?_,λk a=>?_,λk a=>?_,λk a c=>?_⟩
  ·by_cases e:k=i
   ·subst e; simp only [if_pos]; exact ri
   ·simp only [if_neg e]; rw [b.ro k a e]; exact r' k a
  ·rw [jaz,jdp,not_or] at a;simp only [if_neg a.2]; exact w k a.1
  ·by_cases e:k=i
   ·subst e; simp only [if_pos]; exact ⟨b.g0,b.g1⟩
   ·simp only [if_neg e];rw [jaz,jdp] at a;exact le' k (a.resolve_right e)
  ·by_cases e:k=i
   ·subst e; simp only [if_pos] at c; exact b.st c
   ·simp only [if_neg e] at c;rw [jaz,jdp] at a;obtain ⟨S,E,y⟩:=t k (a.resolve_right e) c;refine ⟨S,E,(kru A b.v y λx s _=>?_).1⟩;by_cases e':x=i
    ·subst e'; rw [ri,r' _ s,w _ p]; exact b.g0
    ·rw [b.ro x s e']; exact jcu _
theorem kCm {u:Nat->Nat->Int} {l:Nat->Int} (v:Val n m cap may u l) (a:Nat->Prop) [DecidablePred a]:Val n m cap may (λk j=>if a k then u k j else 0) (λj=>cap j-sumN (λk=>if a k then u k j else 0) n):=by
 refine ⟨λk c j b=>?_,λk c j b h=>?_,λj b=>?_,λj b=>?_⟩
 ·show 0<=(if a k then u k j else 0);split
  ·exact v.nn k c j b
  ·exact jcu 0
 ·have h:0<(if a k then u k j else 0):=h;split at h
  ·exact v.ok k c j b h
  ·omega
 ·have e:=v.bal j b;have h2:=v.ln j b;have:sumN (λk=>if a k then u k j else 0) n<=sumN (λk=>u k j) n:=klo λk c=>by
   have:=v.nn k c j b;show (if a k then u k j else 0)<=u k j;split <;> omega
  show 0<=cap j-sumN (λk=>if a k then u k j else 0) n;omega
 ·show cap j-sumN (λk=>if a k then u k j else 0) n+sumN (λk=>if a k then u k j else 0) n=cap j;omega
theorem kyh {u:Nat->Nat->Int} (a:Nat->Prop) [DecidablePred a] (k:Nat):row m (λk j=>if a k then u k j else 0) k=if a k then row m u k else 0:=by
 by_cases h:a k
 ·simp only [row,if_pos h]
 ·simp only [row,if_neg h]; rw [kdA]
theorem krt {f:Nat->Int}:∀ {a:Ya Nat},a.Nodup->(∀ k∈a,k<n)->sumL f a=sumN (λk=>if k∈a then f k else 0) n
 | [],_,_=>by
  rw [kin,kak (g:=λ_=>0) λk _=>by simp,kdA]
 | i::a,hn,h=>by
  rw [jcz] at hn;rw [kbw,krt hn.2 λk c=>h k (jaw _ c)];have:=kdu (f:=λk=>if k∈a then f k else 0) (g:=λk=>if k∈i::a then f k else 0) (i:=i) (d:=f i) (by simp [hn.1]) (h i (jcm ..)) (λj _ b=>by simp [b]);rw [this]; omega
theorem Drw.most {a:Ya Nat} {U:Ya (Ya Int)} {L:Ya Int} {f:Nat->Int} (h:Drw n m cap may N a U L f) (g:a.Nodup) (i:∀ k∈a,k<n) {u:Nat->Nat->Int} {l:Nat->Int} (v:Val n m cap may u l) (hN:∀ k,k<n->row m u k<=N k):sumL (row m u) a<=sumL f a:=by
 rw [krt g i,krt g i];have o:=best (N:=λk=>if k∈a then N k else 0) h.v (λk e=>by
  rw [h.r k e];by_cases c:k∈a
  ·rw [if_pos c]; exact (h.le k c).2
  ·rw [if_neg c,h.z k c]; exact jcu 0) (λk e b=>by
  rw [h.r k e] at b;by_cases c:k∈a
  ·rw [if_pos c] at b; exact h.st k c b
  ·rw [if_neg c,h.z k c] at b; omega) (kCm v λk=>k∈a) (λk e=>by
  rw [kyh];split
  ·exact hN k e
  ·exact jcu 0)
 have p:sumN (row m (ua U)) n=sumN (λk=>if k∈a then f k else 0) n:=kak λk e=>by
  rw [h.r k e];by_cases c:k∈a
  ·rw [if_pos c]
  ·rw [if_neg c,h.z k c]
 have s:sumN (row m λk j=>if k∈a then u k j else 0) n=sumN (λk=>if k∈a then row m u k else 0) n:=kak λk e=>kyh (u:=u) (λk=>k∈a) k;rw [p,s] at o;exact o
end
theorem row_zero' {n m:Nat} {U:Ya (Ya Int)} (a:∀ k,k<n->∀ j,j<m->ua U k j=0) {k:Nat} (b:k<n):row m (ua U) k=0:=by
 unfold row;rw [kak (g:=λ_=>0) λj c=>a k b j c,kdA]
def byP (Y R:Ya It) (sw:Ya Swap) (f:Nat->Int) (i:Nat):Int:=sumL (λk=>if oK Y R sw k=some i then lks Y f k else 0) (List.range Y.length)
structure Bld (X Y R:List It) (sw:List Swap) (ks:List Nat) (f:Nat->Int):Prop where
 p:ks.Perm (List.range Y.length)
 w:ks.Pairwise (sigR Y R sw)
 d:∀ a b,ks=a++b->∃ U L f',Drw Y.length X.length (needN X) (mayQ X Y sw) (needN Y) a U L f'/\∀ k∈a,f k=f' k
theorem Bld.mem {X Y R:Ya It} {sw:Ya Swap} {ks:Ya Nat} {f:Nat->Int} (h:Bld X Y R sw ks f) (k:Nat):k∈ks↔k<Y.length:=by rw [h.p.mem_iff,jcw]
theorem Bld.nd {X Y R:Ya It} {sw:Ya Swap} {ks:Ya Nat} {f:Nat->Int} (h:Bld X Y R sw ks f):ks.Nodup:=h.p.nodup_iff.2 List.nodup_range
theorem Bld.bd {X Y R:Ya It} {sw:Ya Swap} {ks:Ya Nat} {f:Nat->Int} (h:Bld X Y R sw ks f) {k:Nat} (a:k<Y.length):0<=f k/\f k<=needN Y k:=by
 obtain ⟨U,L,c,b,e⟩:=h.d ks [] (by simp);rw [e k ((h.mem k).2 a)];exact b.le k ((h.mem k).2 a)
theorem kCN {X Y R:Ya It} {sw:Ya Swap} (hX:X.length<=1000) (hY:Y.length<=1000) (hs:sw.length<=1000) (hR:R.length<=1000) (h:askE X Y sw=0) :
  (prOk R=false/\kiz X Y sw R=some (([],[],0),2))\/(Prs R/\∃ ks f,Bld X Y R sw ks f/\
   ((kiz X Y sw R=some (([],[],0),80)/\∃ k,k<Y.length/\oK Y R sw k=none/\f k<needN Y k)\/
    ((∀ k,k<Y.length->oK Y R sw k=none->f k=needN Y k)/\(kiz X Y sw R=some (([],[],0),4)\/
     ∃ F,Tell Y.length F f/\(∀ i,i<R.length->byP Y R sw f i<=1000)/\kiz X Y sw R=some ((F,buyL R (byP Y R sw f) R.length,sumL (λk=>lks Y f k*bq R (oK Y R sw k)) ks),0))))):=by
 unfold kiz;rw [g0_eq hX hY hs];obtain ⟨x1,x2⟩:=stk_N (ask0 h).1;obtain ⟨y1,y2⟩:=stk_N (ask0 h).2;obtain ⟨M,U,p1,p2,p3,p4⟩:=g1_ok hX hY hs h;rw [if_neg (by simp [h]),p1];simp only [Option.bind_none,elsO,jaa,h];rw [if_neg (by simp),kuU R hR,kzp,ktX R hR];simp only [jaa];by_cases hp:prOk R=true
 rotate_left
 ·left;refine ⟨by simpa using hp,?_⟩;by_cases A:(!(!(R.zipIdx.any λx=>badI R x.2 x.1)&&decide (R.length<=60)))=true
  ·rw [if_pos A]
  ·rw [if_neg A,if_pos];rw [kqm];unfold prOk at hp;simp only [jbf,Bool.and_eq_false_iff,not_or,Bool.not_eq_false] at A;rw [A.1,A.2] at hp;simpa using hp
 right;have P:=kCW hp;refine ⟨P,?_⟩;have s:=hp;unfold prOk at s;simp only [jac] at s;rw [if_neg (by rw [s.1.2,s.1.1]; simp),if_neg (by rw [kqm,s.2]; simp)];have H:gmk (lenI Y) (0:Int)=some (List.replicate Y.length 0):=by
  unfold gmk;rw [kac,if_pos (by omega),jal]
 have hc:∀ j,j<X.length->needN X j<=1000:=λj w=>(x2 j w).2;have aa:∀ j,j<X.length->0<=needN X j:=λj w=>by have:=(x2 j w).1; omega
 have hN:∀ k,k<Y.length->0<=needN Y k/\needN Y k<=1000:=λk o=>by have:=y2 k o; omega
 have shp:Shp Y.length X.length U (X.map λx=>x.2.2):=⟨p3,λk o=>by rw [p4 k o]; simp,by simp⟩;have vp:=(At.zero (cap:=needN X) (may:=mayQ X Y sw) shp (λk o j w=>kly p4 o w) (λj w=>kfC w) aa (needN Y) rfl).v;have h0:∀ k,k<Y.length->row X.length (ua U) k=0:=λk o=>row_zero' (λk o j w=>kly p4 o w) o;obtain ⟨Mp,m1,m2⟩:=kCz P;obtain ⟨ks,k1,k2,k3⟩:=kCr (Y:=Y) P hs hY;have p:∀ k,k∈ks↔k<Y.length:=λk=>by rw [k2.mem_iff,jcw]
 have t:ks.Nodup:=k2.nodup_iff.2 List.nodup_range;have ab:ks.length=Y.length:=by rw [k2.length_eq]; simp
 obtain ⟨V,W,f,I⟩:=Dn.make (N:=needN Y) (Z:=Y) p2 hY hX hc hN shp vp ks.reverse (λk o=>(p k).1 (List.mem_reverse.1 o));rw [List.reverse_reverse] at I;obtain ⟨z,z1,z2⟩:=kAt P hs hY hX hc hN p2 shp vp I (λ_ _=>rfl) (λk o=>(p k).1 o) t (by omega);have hB:Bld X Y R sw ks f:=⟨k2,k3,λa b e=>by
  obtain ⟨U',L',f',d1,d2⟩:=I.pre e;rw [e] at t;rw [jee] at t;exact ⟨U',L',f',d1.drw shp vp h0 t.1,λk o=>d2 k λhb=>t.2.2 k o k hb rfl⟩⟩
 refine ⟨ks,f,hB,?_⟩;rw [m1];simp only [jaa];rw [kAD P hs hY m2];simp only [jaa];rw [show (λu0:Line×Line=>(kdT u0.1 u0.2).bind λu1=>some u1)=cmpB from rfl,k1];simp only [jaa,H,z1];rcases z2 with ⟨rfl,k,K,E,Q⟩ | ⟨U2,L2,c,F2,B2,rfl,G⟩
 ·exact .inl ⟨rfl,k,(p k).1 K,E,Q⟩
 ·have r:∀ k,k<Y.length->oK Y R sw k=none->f k=needN Y k:=λk o e=>G.n k ((p k).2 o) e;refine .inr ⟨r,?_⟩;have hS:∀ i,i<R.length->(mget B2 (kc (at3 R i))).getD 0=byP Y R sw f i:=λi hi=>by
   unfold byP;rw [G.b,<-kAj k2];refine kso λk o=>?_;cases e:oK Y R sw k with
   | none=>
    have:lks Y f k=0:=by unfold lks; rw [r k ((p k).1 o) e]; omega
    rw [this]; simp
   | some j=>
    have w:=oK_lt P hs e;have:(pq R (some j)=kc (at3 R i))↔some j=some i:=⟨λD=>by rw [P.inj w hi D],λD=>by cases D; rfl⟩;by_cases c:some j=some i
    ·rw [if_pos c,if_pos (this.2 c)]
    ·rw [if_neg c,if_neg (λD=>c (this.1 D))]
  obtain ⟨y,L,O⟩:=kzk P (c:=c) (F:=F2) hS;simp only [L,jaa];rcases O with ⟨rfl,hm⟩ | ⟨rfl,J⟩
  ·exact .inl rfl
  ·obtain ⟨f',q1,q2,q3⟩:=G.g;refine .inr ⟨F2,⟨q3.1,λk o=>by rw [q3.2 k o,q2 k ((p k).2 o)]⟩,J,?_⟩;rw [<-G.c]
theorem kzh {X Y us:Ya It} {sw:Ya Swap} (hX:X.length<=1000) (hY:Y.length<=1000) (hs:sw.length<=1000) (f:us.length<=1000) (nX:∀ b,b<X.length->0<=needN X b/\needN X b<=1000) (nY:∀ a,a<Y.length->0<=needN Y a/\needN Y a<=1000):kdw X Y sw us=some (runT X Y sw us).isSome:=by
 have e:gmk (lenI Y) (0:Int)=some (List.replicate Y.length 0):=by
  unfold gmk;rw [kac,if_pos (by omega),jal]
 have c:gmk (lenI X) (0:Int)=some (List.replicate X.length 0):=by
  unfold gmk;rw [kac,if_pos (by omega),jal]
 have R:=kfy (kCZ hs hX hY f nX nY us.length 0 0 (Y.map λx=>x.2.2) (X.map λx=>x.2.2) (List.replicate Y.length 0) (List.replicate X.length 0) (by omega) ⟨by simp,by simp,by simp,by simp,λa g=>by rw [kfC g,kpi]; omega,λb i=>by rw [kfC i,kpi]; omega⟩ (kpZ nY) (kpZ nX)) (by omega);simp only [Int.natCast_zero] at R;unfold kdw;rw [e,c];simp only [jaa];rw [kfJ (kbX _ rfl _)];simp only [jaa,R];unfold runT;cases run X Y sw us us.length 0 0 (Y.map λx=>x.2.2) (X.map λx=>x.2.2) <;> rfl
theorem kob (g:Nat->Int):∀ n,sumL g (List.range n)=sumN g n
 | 0=>rfl
 | n+1=>by rw [List.range_succ,kmH,kob g n,kbw,kin]; simp only [sumN]; omega
theorem kwQ (f g:Nat->Int):∀ l,sumL (λk=>f k-g k) l=sumL f l-sumL g l
 | []=>by simp [kin]
 | k::l=>by rw [kbw,kbw,kbw,kwQ f g l]; omega
variable {X Y R us:Ya It} {sw:Ya Swap}
theorem Bld.pre {ks:Ya Nat} {f:Nat->Int} (h:Bld X Y R sw ks f) {u:Nat->Nat->Int} {l:Nat->Int} (v:Val Y.length X.length (needN X) (mayQ X Y sw) u l) (hN:∀ k,k<Y.length->row X.length u k<=needN Y k):∀ a b,ks=a++b->0<=sumL (λk=>f k-row X.length u k) a:=λa b e=>by
 obtain ⟨U,L,o,i,p⟩:=h.d a b e;have c:=h.nd;rw [e,jee] at c;have:=i.most c.1 (λk r=>(h.mem k).1 (by rw [e]; exact List.mem_append_left _ r)) v hN;rw [kwQ,kso (g:=f) (g':=o) p];omega
def rs (u:Nat->Nat->Int) (a:Nat):Ya (Nat×Nat)->Int
 | []=>0
 | p::ps=>(if p.1=a then u p.1 p.2 else 0)+rs u a ps
def cs (u:Nat->Nat->Int) (b:Nat):Ya (Nat×Nat)->Int
 | []=>0
 | p::ps=>(if p.2=b then u p.1 p.2 else 0)+cs u b ps
def us3 (u:Nat->Nat->Int) (ps:Ya (Nat×Nat)):Ya It:=ps.map λp=>((p.1:Int),(p.2:Int),u p.1 p.2)
variable {n m:Nat} {u:Nat->Nat->Int}
theorem rs_eq {a:Nat}:∀ {ps:Ya (Nat×Nat)},ps.Nodup->(∀ p∈ps,p.1<n/\p.2<m)->rs u a ps=sumN (λj=>if (a,j)∈ps then u a j else 0) m
 | [],_,_=>by rw [kak (g:=λ_=>0) λj _=>by simp,kdA]; rfl
 | p::ps,hn,h=>by
  rw [jcz] at hn;simp only [rs];rw [rs_eq hn.2 λq o=>h q (jaw _ o)];by_cases e:p.1=a
  ·rw [if_pos e];subst e;have:=kdu (f:=λj=>if (p.1,j)∈ps then u p.1 j else 0) (g:=λj=>if (p.1,j)∈p::ps then u p.1 j else 0) (i:=p.2) (d:=u p.1 p.2) (by simp [hn.1]) (h p (jcm ..)).2 (λj _ b=>by
    have:(p.1,j)≠p:=λe=>b (by rw [<-e]);simp [this])
   rw [this]; omega
  ·rw [if_neg e,Int.zero_add];refine kak λj _=>?_;have:(a,j)≠p:=λc=>e (by rw [<-c]);simp [this]
theorem cs_eq {b:Nat}:∀ {ps:Ya (Nat×Nat)},ps.Nodup->(∀ p∈ps,p.1<n/\p.2<m)->cs u b ps=sumN (λk=>if (k,b)∈ps then u k b else 0) n
 | [],_,_=>by rw [kak (g:=λ_=>0) λj _=>by simp,kdA]; rfl
 | p::ps,hn,h=>by
  rw [jcz] at hn;simp only [cs];rw [cs_eq hn.2 λq o=>h q (jaw _ o)];by_cases e:p.2=b
  ·rw [if_pos e];subst e;have:=kdu (f:=λk=>if (k,p.2)∈ps then u k p.2 else 0) (g:=λk=>if (k,p.2)∈p::ps then u k p.2 else 0) (i:=p.1) (d:=u p.1 p.2) (by simp [hn.1]) (h p (jcm ..)).1 (λj _ a=>by
    have:(j,p.2)≠p:=λe=>a (by rw [<-e]);simp [this])
   rw [this]; omega
  ·rw [if_neg e,Int.zero_add];refine kak λj _=>?_;have:(j,b)≠p:=λc=>e (by rw [<-c]);simp [this]
structure Prq (n m:Nat) (may:Nat->Nat->Prop) (u:Nat->Nat->Int) (ps:List (Nat×Nat)):Prop where
 v:∀ p∈ps,p.1<n/\p.2<m/\0<u p.1 p.2/\may p.1 p.2
 o:ps.Pairwise λp q=>p.1<q.1\/(p.1=q.1/\p.2<q.2)
theorem Prq.nd {may:Nat->Nat->Prop} {ps:Ya (Nat×Nat)} (h:Prq n m may u ps):ps.Nodup:=by
 rw [List.nodup_iff_pairwise_ne];refine h.o.imp λ{p q} a e=>?_;subst e; omega
theorem rs_nn {may:Nat->Nat->Prop} {a:Nat}:∀ {ps:Ya (Nat×Nat)},(∀ p∈ps,p.1<n/\p.2<m/\0<u p.1 p.2/\may p.1 p.2)->0<=rs u a ps
 | [],_=>jcu 0
 | p::ps,h=>by
  have:=rs_nn (a:=a) (ps:=ps) λq b=>h q (jaw _ b);have:=(h p (jcm ..)).2.2.1;simp only [rs]; split <;> omega
theorem cs_nn {may:Nat->Nat->Prop} {a:Nat}:∀ {ps:Ya (Nat×Nat)},(∀ p∈ps,p.1<n/\p.2<m/\0<u p.1 p.2/\may p.1 p.2)->0<=cs u a ps
 | [],_=>jcu 0
 | p::ps,h=>by
  have:=cs_nn (a:=a) (ps:=ps) λq b=>h q (jaw _ b);have:=(h p (jcm ..)).2.2.1;simp only [cs]; split <;> omega
variable {X Y:Ya It} {sw:Ya Swap}
theorem ksJ {ps:Ya (Nat×Nat)} {i:Nat} (h:i<ps.length):at3 (us3 u ps) i=((ps[i].1:Int),(ps[i].2:Int),u ps[i].1 ps[i].2):=by
 have:i<(us3 u ps).length:=by simpa [us3] using h
 rw [kbD this]; simp [us3]
theorem kCk {ps:Ya (Nat×Nat)} (h:Prq Y.length X.length (mayQ X Y sw) u ps):∀ (k i:Nat) (t:Int) (W L:Ya Int),i+k=ps.length->W.length=Y.length->L.length=X.length->(∀ a,a<Y.length->rs u a (ps.drop i)<=la W a)->(∀ b,b<X.length->cs u b (ps.drop i)<=la L b)->
  (run X Y sw (us3 u ps) k i t W L).isSome=true:=by
 intro k;induction k with
 | zero=>intro i t W L _ _ _ _ _; rfl
 | succ k D=>
  intro i t W L hi hW hL hr hc;have f:i<ps.length:=by omega
  obtain ⟨p1,p2,p3,z⟩:=h.v ps[i] (jdk f);have w:ps.drop i=ps[i]::ps.drop (i+1):=jds f;have g:∀ p∈ps.drop (i+1),p.1<Y.length/\p.2<X.length/\0<u p.1 p.2/\mayQ X Y sw p.1 p.2:=λp hp=>h.v p (jcx hp);have r:=hr _ p1;have s:=hc _ p2;rw [w] at r s;simp only [rs,cs,if_pos] at r s;have r0:=rs_nn (a:=ps[i].1) g;have E:=cs_nn (a:=ps[i].2) g;have A:okU X Y sw (us3 u ps) i W L=true:=by
   rw [okU_iff,ksJ f];simp only [jal];refine ⟨⟨by omega,by omega⟩,⟨by omega,by omega⟩,z,by omega,by omega,by omega,?_⟩;by_cases hz:0<i
   ·rw [decide_eq_true hz,jef,ksJ (show i-1<ps.length by omega)];have:=List.pairwise_iff_getElem.1 h.o (i-1) i (by omega) f (by omega);unfold kgj;rw [jdo,decide_eq_false_iff_not];refine ⟨by simp only; omega,?_⟩;rw [Bool.and_eq_false_iff,decide_eq_false_iff_not];simp only;by_cases e:ps[i].1=ps[i-1].1
    ·right; omega
    ·left;rw [jcr]; intro hc; rw [beq_iff_eq] at hc; omega
   ·rw [decide_eq_false hz]; rfl
  unfold run;rw [if_pos A,ksJ f];simp only [jal];refine D (i+1) _ _ _ (by omega) (by simp [hW]) (by simp [hL]) (λa y=>?_) (λb x=>?_)
  ·have:=hr a y;rw [w] at this;simp only [rs] at this;rw [kcL (by rw [hW]; exact p1)];by_cases e:a=ps[i].1
   ·rw [if_pos e]; rw [if_pos e.symm,e] at this; rw [e]; omega
   ·rw [if_neg e]; rw [if_neg λc=>e c.symm] at this; omega
  ·have:=hc b x;rw [w] at this;simp only [cs] at this;rw [kcL (by rw [hL]; exact p2)];by_cases e:b=ps[i].2
   ·rw [if_pos e]; rw [if_pos e.symm,e] at this; rw [e]; omega
   ·rw [if_neg e]; rw [if_neg λc=>e c.symm] at this; omega
theorem kBp {may:Nat->Nat->Prop} {ps:Ya (Nat×Nat)} (h:Prq n m may u ps) (hl:ps.length<=1000):∀ (k i:Nat) (G:Ya Int),i+k=ps.length->G.length=n->(∀ a,a<n->0<=la G a/\la G a+rs u a (ps.drop i)<=1000)->
  ∃ r,itN (kdo (us3 u ps)) (k+1) ((i:Int),G)=some r/\r.length=n/\∀ a,a<n->la r a=la G a+rs u a (ps.drop i):=by
 intro k;induction k with
 | zero=>
  intro i G hi hG s;have:i=ps.length:=by omega
  subst this;refine ⟨G,kck ?_,hG,λa _=>by simp [rs]⟩;unfold kdo;rw [if_neg (by rw [jaj,kac]; simp [us3])]
 | succ k A=>
  intro i G hi hG s;have b:i<ps.length:=by omega
  have f:i<(us3 u ps).length:=by simpa [us3] using b
  obtain ⟨p1,p2,p3,D⟩:=h.v ps[i] (jdk b);have t:ps.drop i=ps[i]::ps.drop (i+1):=jds b;have r0:∀ a,0<=rs u a (ps.drop (i+1)):=λa=>rs_nn (n:=n) (m:=m) (may:=may) λp hp=>h.v p (jcx hp);have w:∀ a,a<n->la (G.set ps[i].1 (la G ps[i].1+u ps[i].1 ps[i].2)) a+rs u a (ps.drop (i+1))=la G a+rs u a (ps.drop i):=λa g=>by
   rw [t,kcL (by rw [hG]; exact p1)];simp only [rs];by_cases e:a=ps[i].1
   ·rw [if_pos e,if_pos e.symm,e]; omega
   ·rw [if_neg e,if_neg λc=>e c.symm]; omega
  obtain ⟨r,z,x,y⟩:=A (i+1) (G.set ps[i].1 (la G ps[i].1+u ps[i].1 ps[i].2)) (by omega) (by simp [hG]) (λa g=>by
   have:=s a g;have:=w a g;refine ⟨?_,by omega⟩;rw [kcL (by rw [hG]; exact p1)];split
   ·have:=(s _ p1).1; omega
   ·omega)
  refine ⟨r,?_,x,λa g=>by rw [y a g,w a g]⟩;rw [<-z];refine kid ?_;have o:=s _ p1;rw [t] at o;simp only [rs,if_pos] at o;have:=r0 ps[i].1;have g1:gi G (ps[i].1:Int)=some (la G ps[i].1):=gi_D 0 (by rw [hG]; exact p1);unfold kdo;simp only [lenI_lt.2 f,if_true,kyv f,ksJ b,jaa,g1,kah (show i<9223372036854775807 by omega)];rw [kaz (by omega) (by omega)];rfl
def rowP (u:Nat->Nat->Int) (m i:Nat):Ya (Nat×Nat):=((List.range m).filter λj=>decide (0<u i j)).map λj=>(i,j)
def allP (u:Nat->Nat->Int) (m n:Nat):Ya (Nat×Nat):=(List.range n).flatMap λi=>rowP u m i
theorem rowP_mem {i:Nat} {p:Nat×Nat}:p∈rowP u m i↔p.1=i/\p.2<m/\0<u i p.2:=by
 unfold rowP;rw [jbc];constructor
 ·rintro ⟨j,h,rfl⟩;rw [jdt,jcw,jaj] at h;exact ⟨rfl,h.1,h.2⟩
 ·rintro ⟨a,h2,b⟩;exact ⟨p.2,by rw [jdt,jcw,jaj]; exact ⟨h2,b⟩,by rw [<-a]⟩
theorem allP_mem {p:Nat×Nat}:p∈allP u m n↔p.1<n/\p.2<m/\0<u p.1 p.2:=by
 unfold allP;rw [List.mem_flatMap];constructor
 ·rintro ⟨i,a,h2⟩;rw [rowP_mem] at h2;rw [jcw] at a;obtain ⟨rfl,b,c⟩:=h2;exact ⟨a,b,c⟩
 ·rintro ⟨a,h2,b⟩;exact ⟨p.1,jcw.2 a,rowP_mem.2 ⟨rfl,h2,b⟩⟩
theorem kpY:allP u m (n+1)=allP u m n++rowP u m n:=by
 unfold allP;rw [List.range_succ,List.flatMap_append]; simp
theorem kvZ (i:Nat):(rowP u m i).length<=m:=by
 unfold rowP;rw [jar];have:=List.length_filter_le (λj=>decide (0<u i j)) (List.range m);rw [List.length_range] at this; exact this
theorem krr:∀ n,(allP u m n).length<=m*n
 | 0=>by simp [allP]
 | n+1=>by
  rw [kpY,jba,Nat.mul_succ];have:=krr n;have:=kvZ (u:=u) (m:=m) n;omega
theorem kjQ {cap:Nat->Int} {may:Nat->Nat->Prop} {l:Nat->Int} (v:Val n m cap may u l):Prq n m may u (allP u m n):=by
 refine ⟨λp hp=>?_,?_⟩
 ·obtain ⟨a,h2,b⟩:=allP_mem.1 hp;exact ⟨a,h2,b,v.ok _ a _ h2 b⟩
 ·have key:∀ n,(allP u m n).Pairwise λp q=>p.1<q.1\/(p.1=q.1/\p.2<q.2):=by
   intro n;induction n with
   | zero=>simp [allP]
   | succ n e=>
    rw [kpY,List.pairwise_append];refine ⟨e,?_,λp hp q c=>?_⟩
    ·unfold rowP;rw [List.pairwise_map];exact (List.pairwise_lt_range.filter _).imp λh=>.inr ⟨rfl,h⟩
    ·have:=(allP_mem.1 hp).1;have:=(rowP_mem.1 c).1;left; omega
  exact key n
theorem kwI {cap:Nat->Int} {may:Nat->Nat->Prop} {l:Nat->Int} (v:Val n m cap may u l) {a:Nat} (b:a<n):rs u a (allP u m n)=row m u a:=by
 rw [rs_eq (n:=n) (m:=m) (kjQ v).nd λp hp=>⟨((kjQ v).v p hp).1,((kjQ v).v p hp).2.1⟩];refine kak λj e=>?_;have:=v.nn a b j e;by_cases c:0<u a j
 ·rw [if_pos (allP_mem.2 ⟨b,e,c⟩)]
 ·rw [if_neg λh=>c (allP_mem.1 h).2.2]; omega
theorem kCR {cap:Nat->Int} {may:Nat->Nat->Prop} {l:Nat->Int} (v:Val n m cap may u l) {b:Nat} (a:b<m):cs u b (allP u m n)<=cap b:=by
 rw [cs_eq (n:=n) (m:=m) (kjQ v).nd λp hp=>⟨((kjQ v).v p hp).1,((kjQ v).v p hp).2.1⟩];have e:=v.bal b a;have h2:=v.ln b a;have:sumN (λk=>if (k,b)∈allP u m n then u k b else 0) n<=sumN (λk=>u k b) n:=klo λk c=>by
  have:=v.nn k c b a;show (if (k,b)∈allP u m n then u k b else 0)<=u k b;split <;> omega
 omega
theorem kBT {A B:Ya Int} (h:A.length=B.length) (e:∀ k,k<A.length->la A k=la B k):A=B:=by
 refine List.ext_getElem h λk a h2=>?_;have:=e k a;unfold la at this;rw [jaq,jaq,jae a,jae h2] at this;exact this
theorem kwV {C:Ya Int} {l:Nat->Int} (hX:X.length<=30) (hY:Y.length<=30) (hs:sw.length<=1000) (c:askE X Y sw=0) (v:Val Y.length X.length (needN X) (mayQ X Y sw) u l) (hC:C.length=Y.length) (hr:∀ k,k<Y.length->row X.length u k=la C k) (hN:∀ k,k<Y.length->la C k<=needN Y k) :
  kdw X Y sw (us3 u (allP u X.length Y.length))=some true/\keI Y (us3 u (allP u X.length Y.length))=some C/\∃ T,keF X Y sw (us3 u (allP u X.length Y.length))=some (T,0)/\∀ {t:Int} {s:Ya Bool},Fld X Y sw t s->T<=t:=by
 obtain ⟨J,I⟩:=stk_N (ask0 c).1;obtain ⟨P,E⟩:=stk_N (ask0 c).2;have nX:∀ k,k<X.length->0<=needN X k/\needN X k<=1000:=λk f=>by have:=I k f; omega
 have nY:∀ k,k<Y.length->0<=needN Y k/\needN Y k<=1000:=λk f=>by have:=E k f; omega
 have i:(allP u X.length Y.length).length<=1000:=by
  have:=krr (u:=u) (m:=X.length) Y.length;have:X.length*Y.length<=30*30:=Nat.mul_le_mul hX hY;omega
 have r:(us3 u (allP u X.length Y.length)).length=(allP u X.length Y.length).length:=by simp [us3]
 have g:=kjQ v;have e:(runT X Y sw (us3 u (allP u X.length Y.length))).isSome=true:=by
  unfold runT;rw [r];exact kCk g _ 0 0 _ _ (by omega) (by simp) (by simp) (λa c=>by rw [jch,kwI v c,hr a c,kfC c]; exact hN a c) (λb x=>by rw [jch,kfC x]; exact kCR v x)
 refine ⟨by rw [kzh (us:=us3 u (allP u X.length Y.length)) (by omega) (by omega) hs (by omega) nX nY,e],?_,?_⟩
 ·have p:gmk (lenI Y) (0:Int)=some (List.replicate Y.length 0):=by
   unfold gmk;rw [kac,if_pos (by omega),jal]
  obtain ⟨K,o,w,A⟩:=kBp g i (allP u X.length Y.length).length 0 (List.replicate Y.length 0) (by omega) (by simp) (λa c=>by
   rw [kpi,jch,kwI v c,hr a c];have:=hN a c; have:=nY a c;omega)
  have o:=kfy o (by omega);rw [Int.natCast_zero] at o;unfold keI;rw [p];simp only [jaa,o];refine congrArg some (kBT (by rw [w,hC]) λk f=>?_);rw [w] at f;rw [A k f,kpi,jch,kwI v f,hr k f]; omega
 ·cases hT:runT X Y sw (us3 u (allP u X.length Y.length)) with
  | none=>rw [hT] at e; cases e
  | some T=>
   refine ⟨T,by rw [kxk (us:=us3 u (allP u X.length Y.length)) (by omega) (by omega) hs (by omega) c,hT],λ{t s} H=>?_⟩;obtain ⟨O,l2,G,g1,y,z,_⟩:=kAI (by omega) (λk f=>(nX k f).1) nY (by omega) hT;obtain ⟨U,L,F,le,D,st,hS⟩:=H.ex;have:=best F le st g1 y;rw [<-z,<-D] at this;exact this
variable {X Y:Ya It} {sw:Ya Swap} {C:Ya Int}
def cntOk (Y:Ya It) (C:Ya Int):Bool:=C.zipIdx.all λx=>wi 0 (needN Y x.2) x.1
theorem cntOk_iff {Y:Ya It} {C:Ya Int}:cntOk Y C=true↔∀ k,k<C.length->0<=la C k/\la C k<=needN Y k:=by
 unfold cntOk;rw [jan];constructor
 ·intro h k b;have:=h (C[k],k) (by rw [jdc]; exact ⟨k,by simpa using b,by simp⟩);rw [wi_iff] at this;rw [show la C k=C[k] from getD_at' b]; exact this
 ·intro h x c;obtain ⟨k,b,e⟩:=jdc.1 c;have a:k<C.length:=by simpa using b
  have:=h k a;rw [show la C k=C[k] from getD_at' a] at this;rw [<-e,wi_iff]; simpa using this
where getD_at' {C:Ya Int} {k:Nat} (h:k<C.length):la C k=C[k]:=by unfold la; rw [jaq,jae h]; rfl
theorem cnt_p (hC:C.length=Y.length) (hY:Y.length<=1000):iter (kic Y C) 0=some (if cntOk Y C=true then .inr () else .inl ([],2)):=by
 rw [kcB (F:=kic Y C) C (by omega) (λi x=>if wi 0 (needN Y i) x=true then none else some ([],2)) (λi hi=>by
  have a:i<Y.length:=by omega
  unfold kic;rw [if_pos (lenI_lt.2 hi),kan hi,kah (by omega)];simp only [jaa,kan a,kjV,kpv a];cases wi 0 (needN Y i) C[i] <;> rfl) (by unfold kic; rw [if_neg kbk])]
 unfold cntOk;generalize C.zipIdx=z;induction z with
 | nil=>rfl
 | cons x z b=>
  rw [jcv,jea];cases h:wi 0 (needN Y x.2) x.1 with
  | true=>simp only [if_true,jef]; exact b
  | false=>simp only [jaf,if_false,Bool.false_and]; rfl
theorem cnt_r (hC:C.length=Y.length) (hY:Y.length<=1000):iter (kcz Y C) 0=some (if cntOk Y C=true then .inr () else .inl 2):=by
 rw [kcB (F:=kcz Y C) C (by omega) (λi x=>if wi 0 (needN Y i) x=true then none else some 2) (λi hi=>by
  have a:i<Y.length:=by omega
  unfold kcz;rw [if_pos (lenI_lt.2 hi),kan hi,kah (by omega)];simp only [jaa,kan a,keT,kpv a];cases wi 0 (needN Y i) C[i] <;> rfl) (by unfold kcz; rw [if_neg kbk])]
 unfold cntOk;generalize C.zipIdx=z;induction z with
 | nil=>rfl
 | cons x z b=>
  rw [jcv,jea];cases h:wi 0 (needN Y x.2) x.1 with
  | true=>simp only [if_true,jef]; exact b
  | false=>simp only [jaf,if_false,Bool.false_and]; rfl
section
variable {n m:Nat} {cap:Nat->Int} {may:Nat->Nat->Prop}
theorem kAS {M:Ya (Ya Int)} {B:Ya (Ya Bool)} {Z:Ya (Int×Int×Int)} (hM:MayL n m may M) (hB:MayB n m may B) (hn:n<=1000) (hm:m<=1000) (hc:∀ j,j<m->cap j<=1000) (hC:C.length=n) (y:∀ k,k<n->0<=la C k/\la C k<=1000) :
  ∀ (k i:Nat) (U s:Ya (Ya Int)) (L t:Ya Int),i+k=n->Shp n m U L->Shp n m s t->Val n m cap may (ua U) (la L)->Val n m cap may (ua s) (la t)->(∀ a,a<n->row m (ua U) a=if a<i then la C a else 0)->(∀ a,a<n->row m (ua s) a=row m (ua U) a)->
  (itN (kdW C) (k+1) ((i:Int),Z,M,U,L)=some (.inl ([],6))/\itN (kbc C) (k+1) ((i:Int),B,s,t)=some (.inl 6)/\¬ ∃ u l,Val n m cap may u l/\∀ a,a<n->row m u a=la C a)\/
  (∃ V W,itN (kdW C) (k+1) ((i:Int),Z,M,U,L)=some (.inr (Z,M,V,W))/\itN (kbc C) (k+1) ((i:Int),B,s,t)=some (.inr ())/\Shp n m V W/\Val n m cap may (ua V) (la W)/\∀ a,a<n->row m (ua V) a=la C a):=by
 intro k;induction k with
 | zero=>
  intro i U s L t hi sh w v J hr x;right;have f:¬ decide ((i:Int)<lenI C)=true:=by rw [jaj,kac]; omega
  refine ⟨U,L,kck ?_,kck ?_,sh,v,λa o=>by rw [hr a o,if_pos (by omega)]⟩
  ·unfold kdW; rw [if_neg f]
  ·unfold kbc; rw [if_neg f]
 | succ k ih=>
  intro i U s L t hi sh w v J hr x;have b:i<n:=by omega
  have f:decide ((i:Int)<lenI C)=true:=by rw [jaj,kac]; omega
  obtain ⟨g,A,O,K,r⟩:=kmy (M:=M) (N:=Z) hM hn hm hc b (y i b).1 (y i b).2 sh v;obtain ⟨g',G,I,P,h2⟩:=kAQ hB hn hm hc b (y i b).1 (y i b).2 w J;obtain ⟨rfl,hs⟩:=kuf b (λk hk=>(x k hk).symm) r h2;have z:gi C (i:Int)=some (la C i):=gi_D 0 (by omega);have ri:row m (ua A) i=g:=by rw [r.ri,hr i b,if_neg (by omega)]; omega
  by_cases p:g<la C i
  ·left;refine ⟨kck ?_,kck ?_,λ⟨u,l,vu,H⟩=>?_⟩
   ·unfold kdW;simp only [f,if_true,z,jaa,K,decide_eq_true p]
   ·unfold kbc;simp only [f,if_true,z,jaa,P,decide_eq_true p]
   ·obtain ⟨S,s1,s2⟩:=r.st p;have:=ktA r.v vu s2 b s1 λa o D=>by
     rw [r.ro a o D,hr a o,H a o];split
     ·exact jcu _
     ·exact (y a o).1
    rw [H i b,ri] at this;omega
  ·have Q:g=la C i:=by have:=r.g1; omega
   have step:∀ a,a<n->row m (ua A) a=if a<i+1 then la C a else 0:=λa o=>by
    by_cases e:a=i
    ·subst e; rw [ri,if_pos (by omega),Q]
    ·rw [r.ro a o e,hr a o];by_cases c:a<i
     ·rw [if_pos c,if_pos (by omega)]
     ·rw [if_neg c,if_neg (by omega)]
   have E:itN (kdW C) (k+1+1) ((i:Int),Z,M,U,L)=itN (kdW C) (k+1) (((i+1:Nat):Int),Z,M,A,O):=kid (by
    unfold kdW;simp only [f,if_true,z,jaa,K,decide_eq_false p,jaf,if_false,kah (show i<9223372036854775807 by omega)])
   have F:itN (kbc C) (k+1+1) ((i:Int),B,s,t)=itN (kbc C) (k+1) (((i+1:Nat):Int),B,G,I):=kid (by
    unfold kbc;simp only [f,if_true,z,jaa,P,decide_eq_false p,jaf,if_false,kah (show i<9223372036854775807 by omega)])
   rw [E,F];exact ih (i+1) A G O I (by omega) r.sh h2.sh r.v h2.v step λa o=>(hs a o).symm
theorem kAE {V:Ya (Ya Int)} {W:Ya Int} {M:Ya (Ya Int)} {Z:Ya (Int×Int×Int)} (sh:Shp n m V W) (hn:n<=1000) (hm:m<=1000):iter (khJ (Z,M,V,W)) (0,[])=some (us3 (ua V) (allP (ua V) m n)):=by
 have f:∀ a b,us3 (ua V) (a++b)=us3 (ua V) a++us3 (ua V) b:=λa b=>jcj;have g:∀ a,(us3 (ua V) a).length=a.length:=λa=>by simp [us3]
 have s:∀ (i:Nat) (y out:Ya It),i<n->out.length<=1000000->iter (khH (Z,M,V,W) ((i:Int),y) (V.getD i [])) (0,out)=some (out++us3 (ua V) (rowP (ua V) m i)):=by
  intro i y out hi D;have t:=sh.r i hi;obtain ⟨z,hz,rfl⟩:=Fl.iter_inv (F:=khH (Z,M,V,W) ((i:Int),y) (V.getD i [])) (λx=>∃ j:Nat,j<=m/\x=((j:Int),out++us3 (ua V) (rowP (ua V) j i))) (λx=>m-x.1.toNat) (λz=>z=out++us3 (ua V) (rowP (ua V) m i))
   (λx w=>by
    obtain ⟨j,A,rfl⟩:=w;by_cases hl:j<m
    ·have p:decide ((j:Int)<lenI (V.getD i []))=true:=by rw [jaj,kac,t]; omega
     have e:rowP (ua V) (j+1) i=rowP (ua V) j i++(if 0<ua V i j then [(i,j)] else []):=by
      unfold rowP;rw [List.range_succ,List.filter_append,jcj];by_cases c:0<ua V i j <;> simp [c]
     have o:(us3 (ua V) (rowP (ua V) j i)).length<=j:=by rw [g]; exact kvZ i
     refine .inr ⟨(((j+1:Nat):Int),out++us3 (ua V) (rowP (ua V) (j+1) i)),?_,⟨j+1,by omega,rfl⟩,by simp only [jal]; omega⟩;unfold khH;simp only [p,if_true,sh.gu hi,sh.guj hi hl,jaa,kah (show j<9223372036854775807 by omega)];by_cases c:0<ua V i j
     ·rw [if_pos (decide_eq_true c),kdg (by simp only [jba,jcs,jeg]; omega),e,if_pos c,f,jav];rfl
     ·rw [if_neg (by rw [jaj]; exact c),e,if_neg c,jbe]
    ·have:j=m:=by omega
     subst this;refine .inl ⟨_,?_,rfl⟩;unfold khH;rw [if_neg (by rw [jaj,kac,t]; omega)])
   (0,out) ⟨0,by omega,by simp [rowP,us3]⟩ (by simp only [Int.toNat_zero]; omega)
  exact hz
 obtain ⟨z,hz,rfl⟩:=Fl.iter_inv (F:=khJ (Z,M,V,W)) (λx=>∃ i:Nat,i<=n/\x=((i:Int),us3 (ua V) (allP (ua V) m i))) (λx=>n-x.1.toNat) (λz=>z=us3 (ua V) (allP (ua V) m n))
  (λx w=>by
   obtain ⟨i,hi,rfl⟩:=w;have hV:V.length=n:=sh.u;by_cases hl:i<n
   ·have p:decide ((i:Int)<lenI V)=true:=by rw [jaj,kac,hV]; omega
    have o:(us3 (ua V) (allP (ua V) m i)).length<=1000000:=by
     rw [g];have:=krr (u:=ua V) (m:=m) i;have:m*i<=1000*1000:=Nat.mul_le_mul hm (by omega);omega
    refine .inr ⟨(((i+1:Nat):Int),us3 (ua V) (allP (ua V) m (i+1))),?_,⟨i+1,by omega,rfl⟩,by simp only [jal]; omega⟩;unfold khJ;simp only [p,if_true,sh.gu hl,jaa,s i _ _ hl o,kah (show i<9223372036854775807 by omega)];rw [kpY,f]
   ·have:i=n:=by omega
    subst this;refine .inl ⟨_,?_,rfl⟩;unfold khJ;rw [if_neg (by rw [jaj]; simp only [kac,hV]; omega)])
  (0,[]) ⟨0,by omega,by simp [allP,us3]⟩ (by simp only [Int.toNat_zero]; omega)
 exact hz
end
theorem kua (hX:X.length<=1000) (hY:Y.length<=1000) (hs:sw.length<=1000) (h:askE X Y sw=0) (hC:C.length<=1000) :
  (∃ e,e≠0/\kgP X Y sw C=some ([],e)/\kdC X Y sw C=some e/\¬ (C.length=Y.length/\(∀ k,k<Y.length->0<=la C k/\la C k<=needN Y k)/\∃ u l,Val Y.length X.length (needN X) (mayQ X Y sw) u l/\∀ a,a<Y.length->row X.length u a=la C a))\/
  (C.length=Y.length/\(∀ k,k<Y.length->0<=la C k/\la C k<=needN Y k)/\∃ V W,Val Y.length X.length (needN X) (mayQ X Y sw) (ua V) (la W)/\(∀ a,a<Y.length->row X.length (ua V) a=la C a)/\kgP X Y sw C=some (us3 (ua V) (allP (ua V) X.length Y.length),0)):=by
 obtain ⟨L,D⟩:=stk_N (ask0 h).1;obtain ⟨O,G⟩:=stk_N (ask0 h).2;obtain ⟨M,U,p1,p2,p3,A⟩:=g1_ok hX hY hs h;obtain ⟨B,z,r1,r2,H,w⟩:=kBB hX hY hs (X:=X) (Y:=Y) (sw:=sw);unfold kgP kdC;rw [g0_eq hX hY hs,if_neg (by simp [h]),kAH];simp only [Option.bind_none,elsO,p1,jaa,h];simp only [bne_self_eq_false,jaf,if_false];by_cases hl:C.length=Y.length
 rotate_left
 ·left;have s:(lenI C != lenI Y)=true:=by rw [kac,kac]; simp; omega
  exact ⟨2,by decide,by rw [if_pos s],by rw [if_pos s],λc=>hl c.1⟩
 have s:(lenI C != lenI Y)=false:=by rw [kac,kac,hl]; simp
 simp only [s,jaf,if_false,cnt_p hl hY,cnt_r hl hY];simp only [jaa];by_cases b:cntOk Y C=true
 rotate_left
 ·left;simp only [if_neg b];refine ⟨2,by decide,rfl,rfl,λc=>b (cntOk_iff.2 ?_)⟩;rw [hl]; exact c.2.1
 simp only [if_pos b];have i:=cntOk_iff.1 b;rw [hl] at i;have hc:∀ j,j<X.length->needN X j<=1000:=λj f=>(D j f).2;have p:∀ j,j<X.length->0<=needN X j:=λj f=>by have:=(D j f).1; omega
 have shp:Shp Y.length X.length U (X.map λx=>x.2.2):=⟨p3,λk b=>by rw [A k b]; simp,by simp⟩;have o:Shp Y.length X.length z (X.map λx=>x.2.2):=⟨H,λk b=>by rw [w k b]; simp,by simp⟩;have F:=(At.zero (cap:=needN X) (may:=mayQ X Y sw) shp (λk b j f=>kly A b f) (λj f=>kfC f) p (needN Y) rfl).v;have vr:=(At.zero (cap:=needN X) (may:=mayQ X Y sw) o (λk b j f=>kly w b f) (λj f=>kfC f) p (needN Y) rfl).v;have E:∀ k,k<Y.length->row X.length (ua U) k=0:=λk b=>row_zero' (λk b j f=>kly A b f) b;have J:∀ k,k<Y.length->row X.length (ua z) k=0:=λk b=>row_zero' (λk b j f=>kly w b f) b;simp only [r1,jaa];rcases kAS (C:=C) (Z:=Y) p2 r2 hY hX hc hl (λk b=>⟨(i k b).1,by have:=(i k b).2; have:=(G k b).2; omega⟩) Y.length 0 U z _ _ (by omega) shp o F vr (λa t=>by rw [E a t,if_neg (by omega)]) (λa t=>by rw [E a t,J a t]) with ⟨g,r,y⟩ | ⟨V,W,g,r,y,K,I⟩
 ·left;have g:=kfy g (by omega);have r:=kfy r (by omega);rw [Int.natCast_zero] at g r;refine ⟨6,by decide,?_,?_,λc=>y c.2.2⟩
  ·rw [g]; rfl
  ·rw [r]; rfl
 ·right;have g:=kfy g (by omega);rw [Int.natCast_zero] at g;refine ⟨hl,i,V,W,K,I,?_⟩;rw [g];simp only [jaa,kAE y hY hX]
variable {X Y R:Ya It} {sw:Ya Swap}
theorem kpe {l:Ya It} {x:It} {k:Nat}:needN (l++[x]) k=if k=l.length then x.2.2 else needN l k:=by
 unfold needN;by_cases h:k<l.length
 ·rw [jbl h,if_neg (by omega)]
 ·rw [jci (by omega)];by_cases e:k=l.length
  ·rw [if_pos e,e]; simp
  ·rw [if_neg e,jce (l:=l) (by omega),jce (by simp; omega)]
theorem kyB {S:Nat->Int}:∀ n,(∀ i,i<n->0<=S i/\S i<=1000)->sumN (needN (buyL R S n)) (buyL R S n).length=sumN S n/\∀ k,k<(buyL R S n).length->0<=needN (buyL R S n) k/\needN (buyL R S n) k<=1000
 | 0,_=>by simp [buyL,sumN]
 | n+1,h=>by
  obtain ⟨a,b⟩:=kyB n λi hi=>h i (by omega);have hn:=h n (by omega);rw [kuk];by_cases c:0<S n
  ·rw [if_pos c];refine ⟨?_,λk e=>?_⟩
   ·rw [jba,List.length_singleton];simp only [sumN];rw [kpe,if_pos rfl,<-a];congr 1;exact kak λk e=>by rw [kpe,if_neg (by omega)]
   ·rw [kpe];rw [jba,List.length_singleton] at e;split
    ·exact hn
    ·exact b k (by omega)
  ·rw [if_neg c];refine ⟨?_,b⟩;simp only [sumN];rw [a]; omega
theorem kxx {i n:Nat} (h:i<n) (x:Int):sumN (λk=>if k=i then x else 0) n=x:=by
 have:=kdu (f:=λ_=>0) (g:=λk=>if k=i then x else 0) (i:=i) (d:=x) (by simp) h (λj _ a=>by simp [a]);rw [this,kdA]; omega
theorem kCw {f:Nat->Int} (P:Prs R) (hs:sw.length<=1000) (hn:∀ k,k<Y.length->oK Y R sw k=none->f k=needN Y k):sumN (byP Y R sw f) R.length=sumN (lks Y f) Y.length:=by
 have e:∀ i,i<R.length->byP Y R sw f i=sumN (λk=>if oK Y R sw k=some i then lks Y f k else 0) Y.length:=λi _=>by
  unfold byP; rw [kob]
 rw [kak e,kpB];refine kak λk b=>?_;cases a:oK Y R sw k with
 | none=>
  rw [kak (g:=λ_=>0) λi _=>by simp,kdA];unfold lks; rw [hn k b a]; omega
 | some j=>
  have o:=oK_lt P hs a;rw [kak (g:=λi=>if i=j then lks Y f k else 0) λi _=>by
   by_cases c:i=j
   ·subst c; simp
   ·rw [if_neg c,if_neg (λe=>c (Option.some.inj e).symm)],kxx o]
theorem kAK {F:Ya Int} {l:Ya It} {c e:Int} (hl:F.length<=1000) (hF:∀ k,k<F.length->0<=la F k/\la F k<=1000):iter (kep ((F,l,c),e)) (0,0)=some (sumN (la F) F.length):=by
 obtain ⟨z,hz,rfl⟩:=Fl.iter_inv (F:=kep ((F,l,c),e)) (λx=>∃ i:Nat,i<=F.length/\x=((i:Int),sumN (la F) i)) (λx=>F.length-x.1.toNat) (λz=>z=sumN (la F) F.length)
  (λx b=>by
   obtain ⟨i,hi,rfl⟩:=b;by_cases h:i<F.length
   ·refine .inr ⟨(((i+1:Nat):Int),sumN (la F) (i+1)),?_,⟨i+1,by omega,rfl⟩,by simp only [jal]; omega⟩;have g:=kqa (f:=la F) (c:=1000) (n:=i) λk o=>hF k (by omega);have a:=hF i h;have g1:gi F (i:Int)=some (la F i):=gi_D 0 h;unfold kep;simp only [lenI_lt.2 h,if_true,g1,jaa,kah (show i<9223372036854775807 by omega)];rw [kaz (by omega) (by omega)];rfl
   ·have:i=F.length:=by omega
    subst this;refine .inl ⟨_,?_,rfl⟩;unfold kep;rw [if_neg kbk])
  (0,0) ⟨0,by omega,rfl⟩ (by simp only [Int.toNat_zero]; omega)
 exact hz
theorem Tell.la {n:Nat} {F:Ya Int} {f:Nat->Int} (h:Tell n F f) {k:Nat} (a:k<n):Fl.la F k=f k:=by
 unfold Fl.la;rw [jaq,h.2 k a]; rfl
theorem Bld.tot {ks:Ya Nat} {f:Nat->Int} (h:Bld X Y R sw ks f) {t:Int} {s:Ya Bool} (x:Fld X Y sw t s):sumN f Y.length=t/\∃ u l,Val Y.length X.length (needN X) (mayQ X Y sw) u l/\∀ a,a<Y.length->row X.length u a=f a:=by
 obtain ⟨U,L,w,i,e⟩:=h.d ks [] (by simp);have e':∀ k,k<Y.length->f k=w k:=λk g=>e k ((h.mem k).2 g);obtain ⟨A,z,v,le,y,st,hS⟩:=x.ex;have o:∀ k,k<Y.length->row X.length (ua U) k<=needN Y k:=λk g=>by rw [i.r k g]; exact (i.le k ((h.mem k).2 g)).2
 have a:=best v le st i.v o;have b:=best i.v o (λk g p=>i.st k ((h.mem k).2 g) (by rw [<-i.r k g]; exact p)) v le;have c:sumN (row X.length (ua U)) Y.length=sumN f Y.length:=kak λk g=>by rw [i.r k g,e' k g]
 exact ⟨by omega,_,_,i.v,λk g=>by rw [i.r k g,e' k g]⟩
theorem law08_BoxUsed_eq (X Y:Ya It) (sw:Ya Swap) (R:Ya It) (C:Ya Int):kkO X Y sw R C=some true:=by
 obtain ⟨b,hb,y⟩:=kAV X Y sw;unfold kkO;rw [hb];simp only [law08_alive,jaa,jbt,jaf,if_false,if_true];cases b with
 | false=>rfl
 | true=>
  obtain ⟨hX,hY,hs,o⟩:=y rfl;rw [if_neg (by decide)];by_cases hR:(80:Int)<lenI R
  ·rw [if_pos (decide_eq_true hR)]
  rw [if_neg (by rw [jaj]; exact hR)];by_cases hC:(40:Int)<lenI C
  ·rw [if_pos (decide_eq_true hC)]
  rw [if_neg (by rw [jaj]; exact hC)];rw [kac] at hR hC;obtain ⟨O,x2⟩:=stk_N (ask0 o).1;obtain ⟨y1,y2⟩:=stk_N (ask0 o).2;have nX:∀ k,k<X.length->0<=needN X k/\needN X k<=1000:=λk g=>by have:=x2 k g; omega
  have nY:∀ k,k<Y.length->0<=needN Y k/\needN Y k<=1000:=λk g=>by have:=y2 k g; omega
  obtain ⟨t,s,f1,G⟩:=kCu (X:=X) (Y:=Y) (sw:=sw) (by omega) (by omega) (by omega) o;have ab:=G.bd hY nY;rw [f1];simp only [jaa];rw [if_neg (by decide)];have w:∀ (u:Ya It) (e:Int),kgP X Y sw C=some (u,e)->(if (e==0)=true then (if ((lenI C) != (lenI Y))=true then (some (.inl false)) else ((kdw X Y sw u).bind λv4=>if (!v4)=true then (some (.inl false)) else ((keI Y u).bind λv5=>(kbu v5 C).bind λv6=>if (!v6)=true then (some (.inl false)) else ((keF X Y sw u).bind λU=>if (U.2 != 0)=true then (some (.inl false)) else (if (decide (t<U.1))=true then (some (.inl false)) else (some (.inr ()))))))) else ((kdC X Y sw C).bind λv8=>if (e != v8)=true then (some (.inl false)) else (if (decide (0<(lenI u)))=true then (some (.inl false)) else (some (.inr ())))))=some (Sum.inr ():Bool⊕Unit):=by
   intro u e hU;rcases kua (X:=X) (Y:=Y) (sw:=sw) (C:=C) (by omega) (by omega) (by omega) o (by omega) with ⟨e',he,p,hc,_⟩ | ⟨hl,g,V,W,y,hr,p⟩
   ·rw [p] at hU;obtain ⟨rfl,rfl⟩:=Prod.mk.inj (Option.some.inj hU);rw [if_neg (by simpa using he),hc];simp only [jaa];rw [if_neg (by simp),if_neg (by simp [kac])]
   ·rw [p] at hU;obtain ⟨rfl,rfl⟩:=Prod.mk.inj (Option.some.inj hU);obtain ⟨J,H,T,Q,L⟩:=kwV (C:=C) O y1 (by omega) o y hl hr (λk c=>(g k c).2);rw [if_pos (by rfl),if_neg (by rw [kac,kac,hl]; simp),J,H,Q];simp only [jaa,kqJ C (by omega)];have:=L G;rw [if_neg (by decide),if_neg (by decide),if_neg (by decide),if_neg (by rw [jaj]; omega)]
  have hU:∃ u e,kgP X Y sw C=some (u,e):=by
   rcases kua (X:=X) (Y:=Y) (sw:=sw) (C:=C) (by omega) (by omega) (by omega) o (by omega) with ⟨e',_,p,_⟩ | ⟨_,_,_,_,_,_,p⟩ <;> exact ⟨_,_,p⟩
  obtain ⟨u,e,hU⟩:=hU;rw [hU];simp only [jaa];have E:=w u e hU;simp only [jaa,E];rcases kCN (R:=R) (X:=X) (Y:=Y) (sw:=sw) (by omega) (by omega) (by omega) (by omega) o with ⟨_,h⟩ | ⟨P,ks,f,hB,⟨h,_⟩ | ⟨hn,h | ⟨F,hF,A,h⟩⟩⟩
  ·rw [h]; rfl
  ·rw [h]; rfl
  ·rw [h]; rfl
  ·obtain ⟨Z,ex⟩:=hB.tot G;have r:∀ k,k<Y.length->la F k=f k:=λk g=>hF.la g;rw [h];simp only [jaa];rw [if_neg (by decide)];rcases kua (X:=X) (Y:=Y) (sw:=sw) (C:=F) (by omega) (by omega) (by omega) o (by rw [hF.1]; omega) with ⟨e',_,_,_,K⟩ | ⟨hl,g,V,W,y,hr,p⟩
   ·exfalso;obtain ⟨u0,l0,v0,r0⟩:=ex;exact K ⟨hF.1,λk g=>by rw [r k g]; exact hB.bd g,u0,l0,v0,λa x=>by rw [r0 a x,r a x]⟩
   ·obtain ⟨J,H,T,Q,L⟩:=kwV (C:=F) O y1 (by omega) o y hl hr (λk c=>(g k c).2);have z:sumN (la F) F.length=t:=by rw [hF.1,<-Z]; exact kak r
    have D:∀ i,i<R.length->0<=byP Y R sw f i/\byP Y R sw f i<=1000:=λi hi=>⟨by
     unfold byP;rw [kob];refine kdj λk g=>?_;have:=hB.bd g;show 0<=(if oK Y R sw k=some i then lks Y f k else 0);unfold lks;split <;> omega,A i hi⟩
    obtain ⟨b1,b2⟩:=kyB (R:=R) (S:=byP Y R sw f) R.length D;have aa:=kwT R (byP Y R sw f) R.length;rw [p];simp only [jaa,J,H,kqJ F (by rw [hF.1]; omega),kAK (show F.length<=1000 by rw [hF.1]; omega) (λk c=>by rw [hl] at c; have:=g k c; have:=nY k c; omega),z,kAv (show (buyL R (byP Y R sw f) R.length).length<=1000 by have:=P.l; omega) b2,kAv (show Y.length<=1000 by omega) nY,b1,kCw P (by omega) hn];have I:sumN (lks Y f) Y.length=sumN (needN Y) Y.length-t:=by
     rw [<-Z,<-kfM]; rfl
    rw [I,kaz (by omega) (by omega)];simp
end Go.Abs
