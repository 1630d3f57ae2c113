/- The functions and the law, part 9. -/
import Derived.Test.YtnehmnlcliflfaaDoorS8
set_option linter.constructorNameAsVariable false
set_option linter.unusedVariables false
set_option linter.unusedSimpArgs false
set_option linter.unusedSectionVars false
namespace Go.Abs
open Go
theorem knH {α:Type} {F:Int->Yb (Int⊕(Int⊕Unit))} (l:Ya α) (hl:l.length<=100000) (p:α->Bool)
  (f:∀ (i:Nat) (h:i<l.length),F (i:Int)=some (if p l[i]=true then .inr (.inl (i:Int)) else .inl (((i+1:Nat):Int)))) (h2:F (l.length:Int)=some (.inr (.inr ()))) (c:Nat) (g:c<=l.length) :
  iter F (c:Int)=some (if (l.drop c).any p=true then .inl ((c:Int)+((l.drop c).findIdx p:Nat)) else .inr ()):=by
 have e:=kdg (F:=F) (λx=>∃ i:Nat,x=(i:Int)/\i<=l.length) (λx=>l.length-x.toNat) (λx=>if (l.drop x.toNat).any p=true then (.inl ((x.toNat:Int)+((l.drop x.toNat).findIdx p:Nat)):Int⊕Unit) else .inr ()) (λx j=>?_) (c:Int) ⟨c,rfl,g⟩ (by simp; omega)
 ·simpa using e
 ·obtain ⟨i,rfl,h⟩:=j;rcases jbz i l.length with hp | hp
  ·have a:=jbd hp;rw [f i hp];simp only [jam];rw [a,List.any_cons,List.findIdx_cons];cases b:p l[i] with
   | true=>exact .inl (by simp)
   | false=>
    right;refine ⟨_,rfl,⟨i+1,rfl,hp⟩,by simp only [jam]; omega,?_⟩;simp only [jam,jda,cond_false,jal,if_false];split
    ·congr 1; push_cast; omega
    ·rfl
  ·obtain rfl:i=l.length:=by omega
   left;rw [h2];simp
theorem kvf (d:Ya Sub) (n:Ya UInt8) (c:d.length<=100000):kfS d n=some (if n∈nmS d then (((nmS d).idxOf n:Nat):Int) else -1):=by
 unfold kfS;have e:=knH (F:=kdX d n) d c (λs=>s.1==n) (λi a=>by
  unfold kdX;rw [if_pos (lenI_lt.2 a),kaG a,kaA (by omega)];simp only [jab];split <;> rfl) (by unfold kdX; rw [if_neg kaD]) 0 (jdq _)
 obtain ⟨b,i2⟩:=kmT d n;rw [show (0:Int)=((0:Nat):Int) from rfl,e,jco,b,i2];by_cases h:n∈nmS d <;> simp [h]
theorem kua (d:Ya Sub) (n:Ya UInt8) (c:Nat) (g:d.length<=100000) (j:c<=d.length):kfb d n ((c:Int)-1)=some (if n∈(nmS d).drop c then tgt (nmS d) c n else -1):=by
 unfold kfb;have e:=knH (F:=kdX d n) d g (λs=>s.1==n) (λi f=>by
  unfold kdX;rw [if_pos (lenI_lt.2 f),kaG f,kaA (by omega)];simp only [jab];split <;> rfl) (by unfold kdX; rw [if_neg kaD]) c j
 obtain ⟨b,i2⟩:=kmT (d.drop c) n;have a:nmS (d.drop c)=(nmS d).drop c:=by unfold nmS; rw [List.map_drop]
 rw [a] at b i2;rw [show (c:Int)-1+1=(c:Int) by omega,kbs (by omega) (by omega),e,b,i2];unfold tgt;by_cases h:n∈(nmS d).drop c <;> simp [h]
def ItOk (x:PIt):Prop:=match x.2.2 with
 | .sub n=>x.2.1=[kSub,n]
 | .fin=>∃ r,x.2.1=kEnd::r
 | .use n _=>∃ p,x.2.1=kUse::n::p
 | .brick _=>∃ p,x.2.1=kdG::p
theorem kuK {e:Bool} {w:Ya (Ya UInt8)} {it:It} {row:Nat} (h:itemP e w=some it):ItOk (row,w,it):=by
 cases w with
 | nil=>cases h
 | cons k r=>
  rw [kaK] at h;by_cases a:k=kSub
  ·rw [if_pos a] at h;split at h
   ·cases h
   ·unfold suI at h;split at h
    ·split at h
     ·cases h; rw [a]; exact rfl
     ·cases h
    ·cases h
  ·rw [if_neg a] at h;split at h
   ·cases h
   ·by_cases g:k=kEnd
    ·rw [if_pos g] at h;split at h
     ·cases h; rw [g]; exact ⟨r,rfl⟩
     ·cases h
    ·rw [if_neg g] at h;by_cases c:k=kdG
     ·rw [if_pos c] at h;unfold brI at h;split at h
      ·cases h
      ·obtain ⟨v,_,h⟩:=jaa.1 h;obtain ⟨b,_,h⟩:=jaa.1 h;cases h; rw [c]; exact ⟨_,rfl⟩
     ·rw [if_neg c] at h;by_cases f:k=kUse
      ·rw [if_pos f] at h;unfold usI at h;split at h
       ·cases h
       ·split at h
        ·obtain ⟨b,_,h⟩:=jac.1 h;cases h; rw [f]; exact ⟨_,rfl⟩
        ·cases h
      ·rw [if_neg f] at h; cases h
theorem klz:∀ (f:Ya (Ya (Ya UInt8))) (row:Nat) (a:Bool) (its:Ya PIt) (e:Bool),kap f row a = .inr (its,e)->∀ x∈its,ItOk x
 | [],row,a,its,e,h=>by cases h; simp
 | w::ls,row,a,its,e,h=>by
  rw [kap] at h;split at h
  ·exact klz ls (row+1) a its e h
  ·split at h
   ·cases h
   ·rename_i it b;split at h
    ·cases h
    ·rename_i hr;cases h;intro x c;rcases jbi.1 c with rfl | c
     ·exact kuK b
     ·exact klz ls (row+1) _ _ _ hr x c
def subI (x:PIt):Ya Sub:=match x.2.2 with | .sub n=>[(n,[])] | _=>[]
theorem kwe (l:Ya PIt):(kah l).map (λn=>((n,[]):Sub))=l.flatMap subI:=by
 induction l with
 | nil=>rfl
 | cons x l a=>
  rw [List.flatMap_cons,<-a];unfold kah subI;rw [jcp];cases x.2.2 <;> rfl
theorem kvR (its:Ya PIt) (hl:its.length<=100000) (f:∀ x∈its,ItOk x):iter (kcC (its.map rowOf)) (0,[])=some ((kah its).map λn=>((n,[]):Sub)):=by
 have e:=kdI (F:=kcC (its.map rowOf)) its (by omega) (λi st=>st.length<=i) (λd x=>d++subI x) id (λi st c hI=>?_) (λi st c hI=>?_) (λst hI=>?_) [] (jah 0)
 ·rw [e,kwe];have:∀ (l:Ya PIt) (d:Ya Sub),l.foldl (λd x=>d++subI x) d=d++l.flatMap subI:=by
   intro l;induction l with
   | nil=>intro d; simp
   | cons x l j=>intro d; rw [jbo,j]; simp
  rw [this]; rfl
 ·have g:i<(its.map rowOf).length:=by simpa using c
  have a:=f its[i] (jdh c);unfold kcC;simp only;rw [if_pos (lenI_lt.2 g),kaG g,List.getElem_map];simp only [jab];generalize its[i]=x at a;obtain ⟨row,w,it⟩:=x;rw [kaA (by omega)];unfold ItOk at a;unfold rowOf subI;cases it with
  | sub n=>
   simp only at a ⊢;rw [a,kbA];simp only [jab];rw [if_pos (by rfl)];have h:gi [kSub,n] 1=some n:=rfl;rw [h];simp only [jab];rw [kaJ (by simp; omega)]; rfl
  | fin=>
   simp only at a ⊢;obtain ⟨r,a⟩:=a;rw [a,kbA];simp only [jab];rw [if_neg (by decide)]; simp
  | use n b=>
   simp only at a ⊢;obtain ⟨r,a⟩:=a;rw [a,kbA];simp only [jab];rw [if_neg (by decide)]; simp
  | brick b=>
   simp only at a ⊢;obtain ⟨r,a⟩:=a;rw [a,kbA];simp only [jab];rw [if_neg (by decide)]; simp
 ·simp only [jax];have:(subI its[i]).length<=1:=by unfold subI; split <;> simp
  omega
 ·unfold kcC;simp only;rw [show (its.length:Int)=((its.map rowOf).length:Int) by simp,if_neg kaD]; rfl
theorem ksE {α:Type} (l:Ya α) (x:α) (r:Ya α):gi (l++x::r) (l.length:Int)=some x:=by rw [kaG (by simp)]; simp
theorem koy {α:Type} (l:Ya α) (x y:α) (r:Ya α):lset (l++x::r) (l.length:Int) y=l++y::r:=by unfold lset; simp
def endN (names:Ya (Ya UInt8)) (c:Nat) (d:Ya Sub) (l:Ya PIt):(Ya Sub×Int)⊕Ya Sub:=match badP names c l with
 | r::_=>.inl ([],(r:Int))
 | []=>.inr (l.foldl (stepR names) (d.take c))
theorem krO {names:Ya (Ya UInt8)} {d:Ya Sub} {c:Nat} (g:0<c) (e:c<=d.length) (b:nmS d=names) (x:Line):∃ (l:Ya Sub) (s:Sub) (r:Ya Sub),d=l++s::r/\c=l.length+1/\r=d.drop c/\nmS (l++(s.1,s.2++[x])::r)=names/\(l++(s.1,s.2++[x])::r).drop c=r/\(l++(s.1,s.2++[x])::r).take c=addL (d.take c) x:=by
 obtain ⟨k,rfl⟩:∃ k,c=k+1:=⟨c-1,by omega⟩;have a:k<d.length:=by omega
 refine ⟨d.take k,d[k],d.drop (k+1),by rw [<-jbd a,jdv],by rw [jbh]; omega,rfl,?_,?_,?_⟩
 ·rw [<-b];unfold nmS;rw [jcr,jat];show _++(d[k]).1::_=_;rw [<-jat (f:=λx:Sub=>x.1),<-jbd a,<-jcr,jdv]
 ·have:(d.take k).length=k:=by rw [jbh]; omega
  rw [List.drop_append,List.drop_of_length_le (by omega),this,show k+1-k=1 by omega]; rfl
 ·have:(d.take k).length=k:=by rw [jbh]; omega
  rw [jck a,kcx,List.take_append,jaz (by omega),this,show k+1-k=1 by omega]; rfl
theorem kvG (its:Ya PIt) (hl:its.length<=90000) (P:∀ x∈its,ItOk x) (hh:∀ x∈its.head?,∃ n,x.2.2 = .sub n) :
  iter (kds (its.map rowOf)) (0,-1,(kah its).map λn=>((n,[]):Sub))=some (endN (kah its) 0 [] its):=by
 have ac:(kah its).length<=its.length:=List.length_filterMap_le _ _;have key:=kdg (F:=kds (its.map rowOf))
  (λx=>∃ (i c:Nat),x.1=(i:Int)/\i<=its.length/\x.2.1=(c:Int)-1/\nmS x.2.2=kah its/\x.2.2.drop c=((kah its).drop c).map (λn=>((n,[]):Sub))/\(kah its).take c++kah (its.drop i)=kah its/\c<=(kah its).length/\(c=0->i=0)/\∀ s∈x.2.2,s.2.length<=i) (λx=>its.length-x.1.toNat)
  (λx=>endN (kah its) (x.2.1+1).toNat x.2.2 (its.drop x.1.toNat)) (λx j=>?_) (0,-1,(kah its).map λn=>((n,[]):Sub)) ⟨0,0,rfl,jdq _,rfl,by unfold nmS; rw [List.map_map]; exact List.map_id _,by simp,by simp,jdq _,(λ_=>rfl),by simp⟩ (by simp; omega)
 ·rw [key]; simp [endN]
 ·obtain ⟨a,aa,d⟩:=x;obtain ⟨i,c,X,hi,h2,A,E,o,M,h7,y⟩:=j;simp only at X h2 A E y;subst X; subst h2;have ab:d.length=(kah its).length:=by rw [<-A]; simp [nmS]
  have p:d=d.take c++((kah its).drop c).map (λn=>((n,[]):Sub)):=by rw [<-E,jdv]
  have K:(d.take c).length=c:=by rw [jbh]; omega
  generalize hN:kah its=names at *
  unfold kds;simp only;have L:((c:Int)-1+1).toNat=c:=by omega
  have ew:w64 ((c:Int)-1+1)=(c:Int):=by rw [show (c:Int)-1+1=(c:Int) by omega,kbs (by omega) (by omega)]
  simp only [L,jam];rcases jbz i its.length with hp | hp
  ·have v:i<(its.map rowOf).length:=by simpa using hp
   have j:=P its[i] (jdh hp);have C:=jbd hp;rw [if_pos (lenI_lt.2 v),kaG v,List.getElem_map];simp only [jab];have g:c=0->∃ n,its[i].2.2 = .sub n:=λB=>by
    have W:=h7 B;subst W;exact hh _ (by rw [List.head?_eq_getElem?]; simp [hp])
   rw [C] at o;generalize its[i]=x at j C g o;obtain ⟨row,w,it⟩:=x;rw [kaA (by omega)];unfold ItOk at j;unfold rowOf;cases it with
   | sub n=>
    simp only at j ⊢;rw [j,kbA];simp only [jab];have Z:kah ((row,w,It.sub n)::its.drop (i+1))=n::kah (its.drop (i+1)):=rfl;rw [Z] at o;have B:c<names.length:=by rw [<-o]; simp; omega
    have z:names[c]=n:=by
     have:names[c]?=some n:=by rw [<-o,jbj (by simp; omega)]; simp [jdm M]
     rw [jaf B] at this; exact Option.some.inj this
    have I:n∈names:=by rw [<-z]; exact jdh B
    have k:names.take (c+1)=names.take c++[n]:=by rw [jck B,z]
    rw [if_pos (by rfl)];have R:gi [kSub,n] 1=some n:=rfl;rw [R];simp only [jab];rw [kvf d n (by omega),A,if_pos I,ew];simp only [jab];have J:(((names.idxOf n:Nat):Int) != (c:Int))=decide (n∈names.take c):=by
     rw [Bool.eq_iff_iff,bne_iff_ne,jak];have h2:names=names.take c++n::names.drop (c+1):=by rw [<-z,<-jbd B,jdv]
     have Q:(names.take c).length=c:=by rw [jbh]; omega
     constructor
     ·intro N;refine Decidable.byContradiction λhn=>N ?_;have:names.idxOf n=c:=by
       rw [h2,List.idxOf_append,if_neg hn,Q]; simp
      rw [this]
     ·intro v e;have E:names.idxOf n<c:=by
       have e2:names.idxOf n=(names.take c).idxOf n:=by
        conv=>lhs; rw [h2]
        rw [List.idxOf_append,if_pos v]
       rw [e2];have:=List.idxOf_lt_length_iff.2 v;omega
      omega
    rw [J];have G:badP names c ((row,w,It.sub n)::its.drop (i+1))=(if n∈names.take c then [row] else [])++badP names (c+1) (its.drop (i+1)):=rfl;by_cases f:n∈names.take c
    ·rw [if_pos (by simpa using f)];left;simp only [jab];rw [C];unfold endN;rw [G,if_pos f];rfl
    ·rw [if_neg (by simpa using f)];right;simp only [jab];have hu:(kSub==[117,115,101])=false:=rfl;have S:(kSub==[98,114,105,99,107])=false:=rfl;rw [hu,S];simp only [jal,if_false,jab];refine ⟨_,rfl,⟨i+1,c+1,rfl,hp,by simp only; omega,A,?_,?_,B,(λh=>by omega),λs H=>jdk (y s H)⟩,by simp only [jam]; omega,?_⟩
     ·rw [<-List.drop_drop,E,<-List.map_drop,List.drop_drop]
     ·rw [k]; simpa using o
     ·simp only [jam];rw [show ((c:Int)+1).toNat=c+1 by omega,C];unfold endN;rw [G,if_neg f,jav,jbo];have e3:d.take (c+1)=d.take c++[(n,[])]:=by
       conv=>lhs; rw [p]
       rw [List.take_append,K,jaz (by omega),jbd B,z];simp
      rw [show stepR names (d.take c) (row,w,It.sub n)=d.take c++[(n,[])] from rfl,<-e3]
   | fin=>
    simp only at j ⊢;obtain ⟨r,j⟩:=j;rw [j,kbA];simp only [jab];rw [if_neg (by decide),if_neg (by decide)];simp only [jab];rw [if_neg (by decide)];simp only [jab];rw [if_neg (by decide)];right;refine ⟨_,rfl,⟨i+1,c,rfl,hp,rfl,A,E,o,M,(λh=>by obtain ⟨n,hn⟩:=g h; cases hn),λs H=>jdk (y s H)⟩,by simp only [jam]; omega,?_⟩;simp only [jam,L];rw [C]; rfl
   | use n b=>
    have D:0<c:=Nat.pos_of_ne_zero λh=>by obtain ⟨m,v⟩:=g h; cases v
    simp only at j ⊢;obtain ⟨r,j⟩:=j;rw [j,kbA];simp only [jab];rw [if_neg (by decide),if_pos (by rfl)];have R:gi (kUse::n::r) 1=some n:=rfl;rw [R];simp only [jab];rw [kua d n c (by omega) (by omega),A];simp only [jab];have G:badP names c ((row,w,It.use n b)::its.drop (i+1))=(if n∈names.drop c then [] else [row])++badP names c (its.drop (i+1)):=rfl;by_cases f:n∈names.drop c
    ·rw [if_pos f];have U:¬ tgt names c n<0:=by unfold tgt; rw [if_pos f]; omega
     rw [if_neg (by simpa using U)];simp only [jab];rw [if_pos (by rfl)];simp only [jab,if_true];obtain ⟨l,s,rr,u,el,O,T,a2,a3⟩:=krO D (by omega) A (tgt names c n,b);have eat:(c:Int)-1=(l.length:Int):=by omega
     have H:=y s (by rw [u]; simp);rw [eat,u,ksE];simp only [jab];rw [kaJ (by simp; omega)];simp only [jab,gsame,if_true];rw [koy];right;refine ⟨_,rfl,⟨i+1,c,rfl,hp,eat.symm,T,?_,o,M,(λh=>by omega),λt k=>?_⟩,by simp only [jam]; omega,?_⟩
     ·rw [<-E,<-O]; exact a2
     ·simp only [jay,jbi] at k;rcases k with k | rfl | k
      ·exact jdk (y t (by rw [u]; simp [k]))
      ·simp; omega
      ·exact jdk (y t (by rw [u]; simp [k]))
     ·simp only [jam];rw [<-eat,L,C,<-u];unfold endN;rw [G,if_pos f,jav,jbo];rw [show stepR names (d.take c) (row,w,It.use n b)=addL (d.take c) (tgt names (d.take c).length n,b) from rfl,K,<-a3];rfl
    ·rw [if_neg f,if_pos (by decide)];left;simp only [jab];rw [C];unfold endN;rw [G,if_neg f];rfl
   | brick b=>
    have D:0<c:=Nat.pos_of_ne_zero λh=>by obtain ⟨m,v⟩:=g h; cases v
    simp only at j ⊢;obtain ⟨r,j⟩:=j;rw [j,kbA];simp only [jab];rw [if_neg (by decide),if_neg (by decide)];simp only [jab];rw [if_neg (by decide)];simp only [jab];rw [show (kdG==[98,114,105,99,107])=true from rfl,if_pos rfl];obtain ⟨l,s,rr,u,el,O,T,a2,a3⟩:=krO D (by omega) A (-1,b);have eat:(c:Int)-1=(l.length:Int):=by omega
    have H:=y s (by rw [u]; simp);rw [eat,u,ksE];simp only [jab];rw [kaJ (by simp; omega)];simp only [jab,gsame,if_true];rw [koy];right;refine ⟨_,rfl,⟨i+1,c,rfl,hp,eat.symm,T,?_,o,M,(λh=>by omega),λt k=>?_⟩,by simp only [jam]; omega,?_⟩
    ·rw [<-E,<-O]; exact a2
    ·simp only [jay,jbi] at k;rcases k with k | rfl | k
     ·exact jdk (y t (by rw [u]; simp [k]))
     ·simp; omega
     ·exact jdk (y t (by rw [u]; simp [k]))
    ·simp only [jam];rw [<-eat,L,C,<-u];unfold endN;rw [show badP names c ((row,w,It.brick b)::its.drop (i+1))=badP names c (its.drop (i+1)) from rfl,jbo];rw [show stepR names (d.take c) (row,w,It.brick b)=addL (d.take c) (-1,b) from rfl,<-a3];rfl
  ·left;obtain rfl:i=its.length:=by omega
   rw [show (its.length:Int)=((its.map rowOf).length:Int) by simp,if_neg kaD];rw [jbg (jah _)] at o ⊢;have:names.take c=names:=by simpa [kah] using o
   have Y:names.length<=c:=by rw [<-this]; simp; omega
   unfold endN badP;rw [jaz (by omega)];rfl
theorem kue {α:Type} (l:Ya α):decide (20<lenI l)=decide (20<l.length):=by
 rw [Bool.eq_iff_iff,jak,jak,kae]; omega
theorem kjg {α:Type} {f:α->α->Bool} (h:∀ x,f x x=true):∀ l:Ya α,lbeq f l l=true
 | []=>rfl
 | x::l=>by simp [lbeq,h x,kjg h l]
theorem kpD (x:Line):teq tLine x x=true:=by simp [teq]
theorem ktS (P:Prod (Ya Sub) Int) (g:P.1.length<=100000) (a:Bool):iter (kcR P) (0,a)=some (a||P.1.any λs=>decide (20<s.2.length)):=by
 have e:=kdI (F:=kcR P) P.1 (by omega) (λ_ _=>True) (λ(m:Bool) (s:Sub)=>m||decide (20<s.2.length)) id (λi st c _=>?_) (λ_ _ _ _=>trivial) (λst _=>?_) a trivial
 ·rw [e];have:∀ (l:Ya Sub) (b:Bool),l.foldl (λ(m:Bool) (s:Sub)=>m||decide (20<s.2.length)) b=(b||l.any λs=>decide (20<s.2.length)):=by
   intro l;induction l with
   | nil=>intro b; simp
   | cons x l f=>intro b; rw [jbo,f,List.any_cons,Bool.or_assoc]
  rw [this]; rfl
 ·unfold kcR;simp only;rw [if_pos (lenI_lt.2 c),kaG c,kaA (by omega)];cases st with
  | true=>rw [if_pos rfl]; simp
  | false=>
   rw [if_neg (by decide)];simp only [jab,jda,kue]
 ·unfold kcR;simp only;rw [if_neg kaD]; rfl
theorem kso (s:Ya UInt8) (H:s.length<=80000):keC s=some (readP s):=by
 unfold keC readP;by_cases p:20000<s.length
 ·rw [if_pos (by rw [kae]; simp; omega),if_pos p]
 ·rw [if_neg (by rw [kae]; simp; omega),if_neg p];unfold kie;rw [kra s (by omega)];simp only [jab];by_cases v:s=[]
  ·subst v;rw [if_pos rfl,knT [] (by simp) (by simp)];rfl
  ·rw [if_neg v];obtain ⟨G,w⟩:=kiw 10 (trimN 10 s);have E:=kfu 10 s;have i:(kdh s).length=(kbu s).length:=by unfold kdh kbu; simp
   have j:(kbu s).length<=30000:=by unfold kbu; rw [jbb]; omega
   have k:1<=(kbu s).length:=by
    have:=kiV 10 (trimN 10 s);unfold kbu; rw [jbb]; exact List.length_pos_iff.2 this
   have g:(kdh s).map (wf [])=kbu s:=by unfold kdh kbu; rw [List.map_map]; rfl
   rw [knT (kdh s) (by omega) (λl hl=>by
    unfold kdh at hl;obtain ⟨x,n,rfl⟩:=jba.1 hl;have:=w x n;have:=kfu 13 x;omega),g]
   simp only [jab];have c:imax (lenI (kdh s)) 1=((kbu s).length:Int):=by unfold imax; rw [kae,i]; split <;> omega
   rw [c];generalize kbu s=A at j k;unfold readW;cases hp:kap A 0 false with
   | inl r=>
    have:=kjo _ _ _ _ hp;simp only [endQ,jab];rw [if_pos (by simp; omega)]
   | inr x=>
    obtain ⟨its,e⟩:=x;have u:=kgW _ _ _ _ _ hp;have b:=kij _ _ _ _ hp;have f:=klz _ _ _ _ _ hp;obtain ⟨m,y⟩:=kfP _ _ _ _ _ hp;simp only [endQ,jab,jav,jda];cases e with
    | true=>
     rw [if_pos rfl];simp only [jab];rw [if_pos (by simp; omega),if_pos (.inl trivial)]
    | false=>
     rw [if_neg (by decide)];by_cases h:its=[]
     ·rw [if_pos (by rw [h]; rfl),if_pos (.inr h)];simp only [jab];rw [if_pos (by simp; omega)]
     ·rw [if_neg (by simpa using h),if_neg (by simp [h])];simp only [jab];rw [if_neg (by simp)];unfold khi;rw [kvR its (by omega) f];simp only [jab];rw [kvG its (by omega) f b];simp only [jab];unfold endN;cases z:badP (kah its) 0 its with
      | cons r t=>
       simp only [jab];have B:0<r:=by
        have:r∈its.map (·.1):=(kii its 0).subset (by rw [z]; simp);obtain ⟨x,n,rfl⟩:=jba.1 this;exact m x n
       rw [if_pos (by simp; omega)]
      | nil=>
       simp only [jab,List.take_nil];rw [if_neg (by simp)];have o:∀ (l:Ya PIt) (d:Ya Sub),(l.foldl (stepR (kah its)) d).length<=d.length+l.length:=by
        intro l;induction l with
        | nil=>intro d; simp
        | cons x l D=>
         intro d;rw [jbo];have F:=D (stepR (kah its) d x);have h2:(stepR (kah its) d x).length<=d.length+1:=by unfold stepR; split <;> simp [kgs]
         simp only [jbt]; omega
       have a:=o its [];simp only [jdn,jce] at a;generalize its.foldl (stepR (kah its)) []=d at a;rw [ktS (d,0) (by simp only; omega)];simp only [jab];by_cases C:8<d.length
       ·have:decide (8<lenI d)=true:=by rw [kae]; simp; omega
        rw [this,Bool.true_or,if_pos rfl,if_pos (.inl C)]
       ·have:decide (8<lenI d)=false:=by rw [kae]; simp; omega
        rw [this,jda];cases hl:d.any (λs=>decide (20<s.2.length)) with
        | true=>rw [if_pos rfl,if_pos (.inr rfl)]
        | false=>rw [if_neg (by decide),if_neg (by simp; omega)]
theorem kqP (s:Ya UInt8):(readP s).1.length<=8/\∀ x∈(readP s).1,x.2.length<=20:=by
 have a:([]:Ya Sub).length<=8/\∀ x∈([]:Ya Sub),x.2.length<=20:=by simp
 unfold readP;split
 ·exact a
 ·unfold readW;split
  ·exact a
  ·split
   ·exact a
   ·split
    ·exact a
    ·split
     ·exact a
     ·rename_i h;simp only [not_or,jbq,jak,not_exists,not_and] at h;exact ⟨by simp only; omega,λx b=>by have:=h.2 x b; omega⟩
theorem ksY (x:Line):((x.1==x.1)&&((x.2.1==x.2.1)&&(((x.2.2.1.1==x.2.2.1.1)&&((x.2.2.1.2.1==x.2.2.1.2.1)&&(x.2.2.1.2.2==x.2.2.1.2.2)))&&((x.2.2.2.1==x.2.2.2.1)&&(x.2.2.2.2==x.2.2.2.2)))))=true:=by simp
theorem ktw (d:Ya Sub) (m:d.length<=1000) (hl:∀ x∈d,x.2.length<=1000):keu d d=some true:=by
 unfold keu;rw [if_neg (by simp)];have e:=kir (F:=kdW d d) false (λi:Nat=>(i:Int)) d.length (by omega) (λ_=>false) (λi a=>?_) (by unfold kdW; rw [if_neg kaD])
 ·rw [show (0:Int)=((0:Nat):Int) from rfl,e]; simp
 ·have l:=hl _ (jdh a);unfold kdW;rw [if_pos (lenI_lt.2 a),kaG a];simp only [jab];have f:∀ x:Ya UInt8×Ya Line×Sub,bthO (.pr .s (.pr (.sl tLine) tSub)) (some x) (some x)=some x:=λx=>by
   unfold bthO;have h:∀ y:Sub,teq tSub y y=true:=λy=>by
    simp only [teq,jad,decide_true,true_and];exact kjg kpD y.2
   have h2:teq (.pr .s (.pr (.sl tLine) tSub)) x x=true:=by
    have c:=h x.2.2;have g:=kjg kpD x.2.1;simp only [teq,jad,decide_true,true_and] at c ⊢;exact ⟨g,c⟩
   simp only [h2,if_true]
  rw [f];simp only [jab];rw [if_neg (by simp),if_neg (by simp)];have j:=kir (F:=kdT (d[i].1,d[i].2,d[i])) false (λi:Nat=>(i:Int)) d[i].2.length (by omega) (λ_=>false) (λk b=>by
   unfold kdT;simp only;rw [if_pos (lenI_lt.2 b),kaG b];simp only [jab];rw [ksY,if_neg (by decide),kaA (by omega)];rfl) (by unfold kdT; simp only; rw [if_neg kaD])
  rw [show (0:Int)=((0:Nat):Int) from rfl,j,kaA (by omega)];simp
theorem TextReads_eq (s:Ya UInt8):keI s=some true:=by
 unfold keI;have key:s.length<=21000->((kfv s).bind λa=>(keC s).bind λv2=>(keu a.1 v2.1).bind λv3=>if v3=true then (if (a.2.1==v2.2.1)=true then (some (a.2.2==v2.2.2)) else (some false)) else (some false))=some true:=λh=>by
  obtain ⟨b,h2⟩:=kqP s;rw [kvi s (by omega),kso s (by omega)];simp only [jab];rw [ktw _ (by omega) (λx c=>by have:=h2 x c; omega)];simp
 by_cases b:3000<s.length
 ·rw [if_pos (by rw [kae]; simp; omega)];by_cases h2:s.length<=20000
  ·rw [if_pos (by rw [kae]; simp; omega)]; rfl
  ·rw [if_neg (by rw [kae]; simp; omega)];simp only [jab];by_cases e:21000<s.length
   ·rw [if_pos (by rw [kae]; simp; omega)]
   ·rw [if_neg (by rw [kae]; simp; omega)]; exact key (by omega)
 ·rw [if_neg (by rw [kae]; simp; omega)];simp only [jab];rw [if_neg (by rw [kae]; simp; omega)]; exact key (by omega)
end Go.Abs
