/- The functions and the law, part 10. -/
import Derived.Test.YtpjlpghgmjlbbaaGreatS9
set_option linter.constructorNameAsVariable false
set_option linter.unusedVariables false
set_option linter.unusedSimpArgs false
set_option linter.unusedSectionVars false
namespace Go.Abs
open Go Go.Abs.Fl
theorem kxq {X Y us:Ya It} {sw:Ya Swap} (hX:X.length<=1000) (hY:Y.length<=1000) (f:sw.length<=1000) (i:us.length<=1000) (nX:∀ b,b<X.length->0<=needN X b/\needN X b<=1000) (nY:∀ a,a<Y.length->0<=needN Y a/\needN Y a<=1000):khp X Y sw us=some (runT X Y sw us).isSome:=by
 have c:gmk (lenI Y) (0:Int)=some (List.replicate Y.length 0):=by
  unfold gmk;rw [kaf,if_pos (by omega),jay]
 have e:gmk (lenI X) (0:Int)=some (List.replicate X.length 0):=by
  unfold gmk;rw [kaf,if_pos (by omega),jay]
 have R:=kkq (kBd f hX hY i nX nY us.length 0 0 (Y.map λx=>x.2.2) (X.map λx=>x.2.2) (List.replicate Y.length 0) (List.replicate X.length 0) (by omega) ⟨by simp,by simp,by simp,by simp,λa g=>by rw [kjF g,ktX]; omega,λb j=>by rw [kjF j,ktX]; omega⟩ (kxk nY) (kxk nX)) (by omega);simp only [Int.natCast_zero] at R;unfold khp;rw [c,e];simp only [jab];rw [keZ (kbM _ rfl _)];simp only [jab,R];unfold runT;cases run X Y sw us us.length 0 0 (Y.map λx=>x.2.2) (X.map λx=>x.2.2) <;> rfl
theorem kmN (g:Nat->Int):∀ n,sumL g (List.range n)=sumN g n
 | 0=>rfl
 | n+1=>by rw [List.range_succ,klz,kmN g n,kbb,keq]; simp only [sumN]; omega
theorem kpW (f g:Nat->Int):∀ l,sumL (λk=>f k-g k) l=sumL f l-sumL g l
 | []=>by simp [keq]
 | k::l=>by rw [kbb,kbb,kbb,kpW f g l]; omega
variable {X Y R us:Ya It} {sw:Ya Swap}
theorem bq_cn {o:Yb Nat} {i:Nat} (h:o=some i):bq R o=cn R i:=by subst h; rfl
theorem kyt (P:Prs R) (f:sw.length<=1000) (hY:Y.length<=40) {G:Ya Int} (hG:G.length=Y.length) (hN:∀ k,k<Y.length->0<=needN Y k/\needN Y k<=1000) (u:∀ k,k<Y.length->0<=la G k/\la G k<=needN Y k) :
  ∃ b,iter (kcn Y sw R G) (0,0,false)=some (b,sumN (λk=>(needN Y k-la G k)*bq R (oK Y R sw k)) Y.length)/\(b=true↔∃ k,k<Y.length/\oK Y R sw k=none/\la G k<needN Y k):=by
 have v:∀ i,i<=Y.length->0<=sumN (λk=>(needN Y k-la G k)*bq R (oK Y R sw k)) i/\sumN (λk=>(needN Y k-la G k)*bq R (oK Y R sw k)) i<=10000000*i:=λi hi=>kxa λk H=>by
  have D:=hN k (by omega);have h2:=u k (by omega);exact krB (by omega) (by omega) (bq_bd P f k).1 (bq_bd P f k).2
 obtain ⟨z,hz,b,rfl,h⟩:=Fl.iter_inv (F:=kcn Y sw R G) (λx=>∃ (i:Nat) (b:Bool),i<=Y.length/\x=((i:Int),sumN (λk=>(needN Y k-la G k)*bq R (oK Y R sw k)) i,b)/\(b=true↔∃ k,k<i/\oK Y R sw k=none/\la G k<needN Y k)) (λx=>Y.length-x.1.toNat)
  (λz=>∃ b,z=(b,sumN (λk=>(needN Y k-la G k)*bq R (oK Y R sw k)) Y.length)/\(b=true↔∃ k,k<Y.length/\oK Y R sw k=none/\la G k<needN Y k))
  (λx A=>by
   obtain ⟨i,b,hi,rfl,h⟩:=A;by_cases hl:i<Y.length
   ·have D:=v i hi;have h2:=hN i hl;have E:=u i hl;have g1:gi G (i:Int)=some (la G i):=gi_D 0 (by omega);have o:decide ((i:Int)<lenI G)=true:=by rw [jaj,kaf]; omega
    have g:=(kqL (R:=R) (by have:=P.l; omega) f (kc (at3 Y i))).1;have m:kcA sw R Y[i].1 Y[i].2.1=some (chI (oK Y R sw i)):=by
     have:kc (at3 Y i)=(Y[i].1,Y[i].2.1):=by rw [kcg hl]; rfl
     rw [this] at g;unfold oK; rw [this]; exact g
    refine .inr ⟨(((i+1:Nat):Int),sumN (λk=>(needN Y k-la G k)*bq R (oK Y R sw k)) (i+1),b||(decide (oK Y R sw i=none)&&decide (la G i<needN Y i))),?_,⟨i+1,_,by omega,rfl,?_⟩,by simp only [jay]; omega⟩
    ·have s:w64 (needN Y i-la G i)=needN Y i-la G i:=kbo (by omega) (by omega);unfold kcn;simp only [o,if_true,g1,jab,kas hl,m,kyZ hl,s,kax (show i<9223372036854775807 by omega),sumN];cases p:oK Y R sw i with
     | none=>
      have t:decide ((0:Int)<=chI none)=false:=rfl;simp only [t,jai,if_false,decide_true,jei,bq,Int.mul_zero,Int.add_zero];by_cases c:la G i<needN Y i
      ·rw [if_pos (by rw [jaj]; omega),decide_eq_true c,Bool.or_true]
      ·rw [if_neg (by rw [jaj]; omega),decide_eq_false c,Bool.or_false]
     | some j=>
      have y:=oK_lt P f p;have t:decide ((0:Int)<=chI (some j))=true:=decide_eq_true (by show (0:Int)<=(j:Int); omega);have B:gi R (chI (some j))=some (at3 R j):=kwX y;have r:=krB (a:=needN Y i-la G i) (b:=bq R (oK Y R sw i)) (by omega) (by omega) (bq_bd P f i).1 (bq_bd P f i).2;rw [bq_cn p] at r;have n:=v (i+1) (by omega);simp only [sumN,bq_cn p] at n;simp only [t,if_true,B,jab,reduceCtorEq,decide_false,Bool.false_and,Bool.or_false];have w:(at3 R j).2.2=cn R j:=rfl;have C:bq R (some j)=cn R j:=rfl;rw [w,C,kbo (x:=(needN Y i-la G i)*cn R j) (by omega) (by omega),kbo (by omega) (by omega)]
    ·rw [jat,h,jac,jaj,jaj];constructor
     ·rintro (⟨k,k1,k2⟩ | ⟨k1,k2⟩)
      ·exact ⟨k,by omega,k2⟩
      ·exact ⟨i,by omega,k1,k2⟩
     ·rintro ⟨k,k1,k2,k3⟩;by_cases e:k=i
      ·subst e; exact .inr ⟨k2,k3⟩
      ·exact .inl ⟨k,by omega,k2,k3⟩
   ·have:i=Y.length:=by omega
    subst this;refine .inl ⟨(b,_),?_,b,rfl,h⟩;unfold kcn;rw [if_neg (by rw [jaj,kaf]; omega)])
  (0,0,false) ⟨0,false,by omega,rfl,by simp⟩ (by simp; omega)
 exact ⟨b,hz,h⟩
theorem Bld.pre {ks:Ya Nat} {f:Nat->Int} (h:Bld X Y R sw ks f) {u:Nat->Nat->Int} {l:Nat->Int} (v:Val Y.length X.length (needN X) (mayQ X Y sw) u l) (hN:∀ k,k<Y.length->row X.length u k<=needN Y k):∀ a b,ks=a++b->0<=sumL (λk=>f k-row X.length u k) a:=λa b e=>by
 obtain ⟨U,L,j,n,i⟩:=h.d a b e;have c:=h.nd;rw [e,jea] at c;have:=n.most c.1 (λk m=>(h.mem k).1 (by rw [e]; exact List.mem_append_left _ m)) v hN;rw [kpW,kmT (g:=f) (g':=j) i];omega
theorem kxZ {ks:Ya Nat} (h:ks.Pairwise (sigR Y R sw)):ks.Pairwise λa b=>rkK Y R sw b<=rkK Y R sw a:=h.imp λ{a b} h=>by
 unfold sigR at h; omega
theorem law08_BoxCheapest_eq (X Y:Ya It) (sw:Ya Swap) (R us:Ya It):kgR X Y sw R us=some true:=by
 classical
 obtain ⟨b,N,H⟩:=kzN X Y sw;unfold kgR;rw [N];simp only [law08_alive,jab,jcg,jai,if_false,if_true];cases b with
 | false=>rfl
 | true=>
  obtain ⟨hX,hY,S,A⟩:=H rfl;rw [if_neg (by decide),kzk];simp only [jab];by_cases hp:prOk R=true
  rotate_left
  ·rw [if_pos (by simpa using hp)]
  rw [if_neg (by rw [hp]; decide)];by_cases D:(100:Int)<lenI us
  ·rw [if_pos (decide_eq_true D)]
  rw [if_neg (by rw [jaj]; exact D)];rw [kaf] at D;obtain ⟨O,J⟩:=stk_N (ask0 A).1;obtain ⟨Q,E⟩:=stk_N (ask0 A).2;have nX:∀ k,k<X.length->0<=needN X k/\needN X k<=1000:=λk g=>by have:=J k g; omega
  have nY:∀ k,k<Y.length->0<=needN Y k/\needN Y k<=1000:=λk g=>by have:=E k g; omega
  have P:=kyb hp;obtain ⟨_,ks,f,hB,hr⟩:=(kBm (R:=R) (X:=X) (Y:=Y) (sw:=sw) (by omega) (by omega) (by omega) (by have:=P.l; omega) A).resolve_left λc=>by rw [c.1] at hp; cases hp
  have hBuy:∃ z,kgt X Y sw R=some z:=by
   rcases hr with ⟨h,_⟩ | ⟨_,h | ⟨F,_,_,h⟩⟩ <;> exact ⟨_,h⟩
  rw [kxq (by omega) (by omega) (by omega) (by omega) nX nY];cases x:runT X Y sw us with
  | none=>
   obtain ⟨z,hz⟩:=hBuy;rw [hz]; rfl
  | some T=>
   obtain ⟨u,l,G,g1,v,U,C,L,B⟩:=kzB (by omega) (λk g=>(nX k g).1) nY (by omega) x;obtain ⟨t,y,K⟩:=kyt (G:=G) P (sw:=sw) (by omega) hY L nY (λk g=>by rw [B k g]; exact ⟨kvw g1 g,v k g⟩);have pre:=hB.pre g1 v;have m:t=false->∀ k,k<Y.length->oK Y R sw k=none->row X.length u k=needN Y k:=λi k g n=>by
    have M:=v k g;refine Int.le_antisymm M (Int.not_lt.1 λh2=>?_);have:=K.2 ⟨k,g,n,by rw [B k g]; exact h2⟩;rw [i] at this; cases this
   rcases hr with ⟨h,k,k1,k2,k3⟩ | ⟨hn,h | ⟨F,hF,_,h⟩⟩
   ·rw [h];simp only [jab,Option.isSome_some,jcg,jai,if_false,C,y];rw [if_pos (by rfl)];cases i:t with
    | true=>rfl
    | false=>
     exfalso;have r:=m i;have:=abel0 (d:=λk=>f k-row X.length u k) (w:=λk=>if oK Y R sw k=none then 1 else 0) (ks:=ks) (λk _=>by show 0<=(if oK Y R sw k=none then (1:Int) else 0); split <;> omega) ((kxZ hB.w).imp λ{a b} h=>by
      have r1:=(rk_bd P (Y:=Y) (sw:=sw) (by omega) a);have r2:=(rk_bd P (Y:=Y) (sw:=sw) (by omega) b);show (if oK Y R sw b=none then (1:Int) else 0)<=(if oK Y R sw a=none then 1 else 0);by_cases q:oK Y R sw b=none
      ·have:=r2.2.2.2 q;rw [if_pos q,if_pos (r1.2.2.1 (by omega))]; omega
      ·rw [if_neg q]; split <;> omega) pre
     rw [kom hB.p,kmN] at this;have s:∀ k,k<Y.length->(if oK Y R sw k=none then (1:Int) else 0)*(f k-row X.length u k)<=(λ_=>0) k:=λk g=>by
      show _<=(0:Int);by_cases q:oK Y R sw k=none
      ·rw [if_pos q,r k g q]; have:=(hB.bd g).2; omega
      ·rw [if_neg q,Int.zero_mul]; omega
     have:=kxw s (by rw [keL]; exact this) k k1;rw [if_pos k2,r k k1 k2] at this;have:(1:Int)*(f k-needN Y k)=0:=this;omega
   ·rw [h];simp only [jab,Option.isSome_some,jcg,jai,if_false,C,y];rw [if_neg (by decide),if_pos (by rfl)];rfl
   ·rw [h];simp only [jab,Option.isSome_some,jcg,jai,if_false,C,y];rw [if_neg (by decide),if_neg (by decide)];cases i:t with
    | true=>rfl
    | false=>
     have r:=m i;have:=abel0 (d:=λk=>f k-row X.length u k) (w:=rkK Y R sw) (ks:=ks) (λk _=>(rk_bd P (by omega) k).1) (kxZ hB.w) pre;have e:sumL (λk=>rkK Y R sw k*(f k-row X.length u k)) ks=sumL (λk=>(needN Y k-row X.length u k)*bq R (oK Y R sw k)-lks Y f k*bq R (oK Y R sw k)) ks:=kmT λk g=>by
      have o:=(hB.mem k).1 g;cases n:oK Y R sw k with
      | none=>
       rw [r k o n,hn k o n];simp [bq]
      | some j=>
       have:rkK Y R sw k=cn R j:=by unfold rkK; rw [n]; rfl
       rw [this,show bq R (some j)=cn R j from rfl,<-Int.sub_mul,Int.mul_comm];unfold lks;congr 1; omega
     rw [e,kpW] at this;have I:sumL (λk=>(needN Y k-row X.length u k)*bq R (oK Y R sw k)) ks=sumN (λk=>(needN Y k-la G k)*bq R (oK Y R sw k)) Y.length:=by
      rw [kom hB.p,kmN];exact kap λk g=>by rw [B k g]
     rw [I] at this;rw [if_neg (by decide),decide_eq_true (by omega)]
end Go.Abs
