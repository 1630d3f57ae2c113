/- The machinery, part 4. -/
import Derived.Test.YtpjlpghgmjlbbaaGreatZ3
set_option linter.constructorNameAsVariable false
set_option linter.unusedVariables false
set_option linter.unusedSimpArgs false
set_option linter.unusedSectionVars false
namespace Go.Abs
open Go Go.RowKit
section
variable {P:Yd} {κ κ':Nat->Yb Nat} {ln ln':Nat->Nat} {z z':AH} {c:Cx sem} {s:TS sem} {env:Env} {h h':AH} {n n' N N':Nat}
variable {ρ:Ty} {Kf:TV sem->TS sem->sem.Ans ρ} {r:ρ.den}
variable {d:Yb Tmp} {ty:Yc} {pos:String} {after:Array Edge} {g:Yb (Nat×Bool)}
theorem kvi (R:Rel P κ ln z c s env h n) {T:Yc} (b:kuj P s T Kf=some r):Res P κ ln z c s env h n ⟨d,.alloc T,ty,pos,after,g⟩ Kf r:=by
 unfold kuj at b;split at b
 ·rename_i j Ts hz hT;split at b
  ·rename_i hl;have i:=kkY hz;have f:∀ a∈j,a.one=true:=λa J=>by obtain ⟨v,rfl,I⟩:=i a J; exact I
   have A:newBx (zeroC P s j Ts).2 (.bx T (zeroC P s j Ts).1) Kf=some r->Res P κ ln z c s env h n ⟨d,.alloc T,ty,pos,after,g⟩ Kf r:=λb=>by
    obtain ⟨κ',ln',D,h1,h2,U,G,C,W⟩:=khi j Ts R i hl;obtain ⟨Q,s',v,h',n',F,m,L,g1,H,M,S,y⟩:=klN (o:=⟨d,.alloc T,ty,pos,after,g⟩) rfl D h1 f (λK b=>by simp only [aop,hz]; exact b) b;exact ⟨Q,s',v,h',n',F,m,L,g1,H,M,S,by have:=y.1; omega,λid hi=>⟨(y.2.1 id (by omega)).1.trans (G id hi),λk=>((y.2.1 id (by omega)).2 k).trans (C id hi)⟩,λk=>by cases k⟩
   split at b
   ·rename_i t B;split at b
    ·exact A b
    ·split at b
     ·rename_i x E;split at b
      ·rename_i l;obtain ⟨rest,hr,u⟩:=jct _ _ |>.1 l;obtain rfl:=jcw.1 u;obtain ⟨a,e,g1⟩:=kek (z:=z) t x j [] (kfg B) E hr;rw [jbe] at e; subst e;exact kpM rfl R (kfg B) g1 f (λK b=>by simp only [aop,hz]; exact b) b
      ·exact kaa b
     ·exact kaa b
   ·exact A b
  ·exact kaa b
 ·exact kaa b
theorem kxW (R:Rel P κ ln z c s env h n) {T:Yc} {x:Yf} {v:TV sem} (E:TVR P κ ln z s.n v (ev env x)) (f:boxX s T v Kf=some r):Res P κ ln z c s env h n ⟨d,.box T x,ty,pos,after,g⟩ Kf r:=by
 have l:∀ vs,kaL v=some vs->newBx s (.bx T vs) Kf=some r->Res P κ ln z c s env h n ⟨d,.box T x,ty,pos,after,g⟩ Kf r:=λvs B f=>by
  obtain ⟨as,h1,h2⟩:=E.one_cells B;refine klN rfl R h2 ?_ (λK f=>by simp only [aop,h1]; exact f) f;generalize ev env x=a at *
  intro b u;cases E with
  | c t x a A hs=>
   obtain ⟨cs,D,C⟩:=kko A hs;rw [h1] at D; cases D;exact C.one_rev (kbk t x A) b u
  | ag J H _ I=>cases h1; exact I b u
  | un | ud | tp | gs | yl | kp=>simp [kaL] at B
  | sc w L=>cases h1; simp at u; subst u; exact L
  | fq t x o a A hs=>rcases hs.fp_inv with ⟨cs,rfl,_⟩ | ⟨id,i,j,k,T,es,e,rfl,_⟩ <;> (cases h1; simp at u; subst u; rfl)
  | cv m x y F a G=>obtain ⟨g,H,rfl,_⟩:=G; cases h1; simp at u; subst u; rfl
  | _=>cases h1; simp at u; subst u; rfl
 unfold boxX at f;split at f
 ·rename_i t y;split at f
  ·rename_i B;exact l _ (by simp only [kaL,B,if_true]) f
  ·cases E with
   | c _ _ a A hs=>
    obtain ⟨cs,D,C⟩:=kko A hs;exact kpM rfl R A C (C.one_rev (kbk t y A)) (λK f=>by simp only [aop,D]; exact f) f
 ·split at f
  ·rename_i vs B;exact l vs B f
  ·exact kaa f
theorem kmd {t':Ty} {y:t'.den} {cs:Ya AV} {m:Nat} {ag:Bool} (b:t'.dat=true) (f:t'.agg=ag) (i:t'.wd=m) (hs:SnapL z (cs.take m) (t'.enc y)) (hl:m<=cs.length) :
  ∃ a,TVR P κ ln z N (.c t' y) a/\(ag=true->a = .ag (cs.take m))/\(ag=false->cs[0]?=some a):=by
 cases ag with
 | true=>exact ⟨.ag (cs.take m),.c _ _ _ b (by rw [khb f]; exact Snap.agL hs),λ_=>rfl,(λe=>by cases e)⟩
 | false=>
  have h1:=kyW f b;rw [khk f b] at hs;cases cs with
  | nil=>simp at hl; omega
  | cons a cs=>
   rw [show m=1 by omega] at hs;simp only [List.take_succ_cons,jdm] at hs;cases hs with
   | cons k1 _=>exact ⟨a,.c _ _ _ b k1,(λe=>by cases e),λ_=>rfl⟩
theorem kfY {α:Type} {l:Ya α} {i:Int} {y:α} (h:gi l i=some y):0<=i/\l[i.toNat]?=some y/\i.toNat<l.length:=by
 obtain ⟨h1,h2⟩:=klU h;exact ⟨h1,h2,(jaf.1 h2).1⟩
theorem SnapE.at {es es':Ya (Ya AV)} (hs:SnapE z es es') {q:Nat} {e':Ya AV} (b:es'[q]?=some e'):∃ e,es[q]?=some e/\SnapL z e e':=by
 obtain ⟨e,a⟩:=kah hs.1 b;exact ⟨e,a,hs.2 q e e' a b⟩
theorem kmc {α β:Type} {l:Ya α} {f:α->β} {q:Nat} {y:α} (h:l[q]?=some y):(l.map f)[q]?=some (f y):=by rw [jas,h]; rfl
theorem kzM {t:Ty} {x:t.den} {o:Nat} {a:AV} (b:∀ q B,z q=some B->h q=some B) (hs:Snap z a (.fp ((t.enc x).drop o))):∃ cs,deref h a=some cs/\SnapL z cs ((t.enc x).drop o):=by
 rcases hs.fp_inv with ⟨cs,rfl,h1⟩ | ⟨id,i,j,k,T,es,e,rfl,h1,h2,f⟩
 ·exact ⟨cs,rfl,h1⟩
 ·exact ⟨e.drop j,by simp only [deref,b _ _ h1,h2]; rfl,f⟩
theorem kjc:∀ (t:Ty) (x:t.den) (o m:Nat) (ag:Bool) {t':Ty} {y:t'.den},t.dat=true->comp (A:=sem) t x o m ag=some ⟨t',y⟩->t'.dat=true/\t'.agg=ag/\t'.wd=m/\o+m<=t.wd/\((t.enc x).drop o).take m=t'.enc y
 | .pr t u,x,o,m,ag,t',y,hd,hc=>by
  simp only [Ty.dat,jac] at hd;have l1:=kag t x.1 hd.1;have l2:=kag u x.2 hd.2;show _/\_/\_/\o+m<=t.wd+u.wd/\((t.enc x.1++u.enc x.2).drop o).take m=_;simp only [comp] at hc;split at hc
  ·rename_i e;obtain ⟨rfl,rfl,rfl⟩:=e;cases hc;exact ⟨by simp [Ty.dat,hd],rfl,rfl,by omega,by rw [jcp,jbp (by simp; omega)]; rfl⟩
  ·split at hc
   ·rename_i k;obtain ⟨g1,j,l,v,f⟩:=kjc t x.1 o m ag hd.1 hc;refine ⟨g1,j,l,by omega,?_⟩;rw [List.drop_append_of_le_length (by omega),List.take_append_of_le_length (by simp; omega)];exact f
   ·split at hc
    ·rename_i k;obtain ⟨g1,j,l,v,f⟩:=kjc u x.2 (o-t.wd) m ag hd.2 hc;refine ⟨g1,j,l,by omega,?_⟩;rw [List.drop_append,jbw (by omega),jbc,l1];exact f
    ·cases hc
 | .w t,x,o,m,ag,t',y,hd,hc=>by
  simp only [comp] at hc;split at hc
  ·rename_i e;obtain ⟨rfl,rfl,rfl⟩:=e;cases hc;have a:=kag (.w t) x hd;simp only [Ty.wd] at a;exact ⟨hd,rfl,rfl,by simp [Ty.wd],by rw [jcp,jbp (by omega)]⟩
  ·exact kjc t x o m ag hd hc
 | .i _,x,o,m,ag,t',y,hd,hc | .b,x,o,m,ag,t',y,hd,hc | .s,x,o,m,ag,t',y,hd,hc | .un,x,o,m,ag,t',y,hd,hc
 | .sl _,x,o,m,ag,t',y,hd,hc | .pt _,x,o,m,ag,t',y,hd,hc | .op _,x,o,m,ag,t',y,hd,hc | .ar _ _,x,o,m,ag,t',y,hd,hc=>by
  simp only [comp] at hc;split at hc
  ·rename_i e;obtain ⟨rfl,rfl,rfl⟩:=e;cases hc;have a:=kag _ x hd;exact ⟨hd,rfl,rfl,by omega,by rw [jcp,jbp (by omega)]⟩
  ·cases hc
 | .nt,x,o,m,ag,t',y,hd,hc=>by simp [Ty.dat] at hd
 | .sm _ _,x,o,m,ag,t',y,hd,hc=>by simp [Ty.dat] at hd
 | .fn _ _ _,x,o,m,ag,t',y,hd,hc=>by simp [Ty.dat] at hd
theorem koh (R:Rel P κ ln z c s env h n) {T:Yc} {x:Yf} {t:Ty} {y:t.den} {j m:Nat} {ag:Bool} {D:Ya AV} (f:t.dat=true) (e:aggO P T=some ag) (i:P.cellsOf T=m) (hp:deref h (ev env x)=some D) (hs:SnapL z (D.take (t.wd-j)) ((t.enc y).drop j))
  (b:partX t y j m ag (λv=>Kf v s)=some r):Res P κ ln z c s env h n ⟨d,.load T x,ty,pos,after,g⟩ Kf r:=by
 unfold partX at b;split at b
 ·rename_i p k;obtain ⟨t',B⟩:=p;obtain ⟨g1,l,u,C,A⟩:=kjc t y j m ag f k;have hl:=hs.len;rw [jdw,kag t y f,jbi] at hl;have h1:=hs.take m;rw [A,List.take_take,Nat.min_eq_left (by omega)] at h1;obtain ⟨a,k1,k2,k3⟩:=kmd (P:=P) (κ:=κ) (ln:=ln) (N:=s.n) g1 l u h1 (by omega);refine R.q (λK b=>?_) k1 b;simp only [aop,hp,loadK,e];cases ag with
  | true=>refine ⟨by omega,?_⟩; rw [i,<-k2 rfl]; exact b
  | false=>exact ⟨a,k3 rfl,b⟩
 ·exact kaa b
theorem knd (R:Rel P κ ln z c s env h n) {T:Yc} {x:Yf} {t:Ty} {y:t.den} {j m:Nat} {ag:Bool} {cs:Ya AV} (b:t.dat=true) (a:aggO P T=some ag) (e:P.cellsOf T=m) (hs:SnapL z cs (t.enc y)) (hp:deref h (ev env x)=some (cs.drop j))
  (f:partX t y j m ag (λv=>Kf v s)=some r):Res P κ ln z c s env h n ⟨d,.load T x,ty,pos,after,g⟩ Kf r:=by
 refine koh R b a e hp ?_ f;have hl:=hs.len;rw [kag t y b] at hl;rw [jbp (by simp; omega)];exact hs.drop j
theorem kus (R:Rel P κ ln z c s env h n) {T:Yc} {x:Yf} {t:Ty} {y:t.den} {j m:Nat} {ag:Bool} (b:t.dat=true) (a:aggO P T=some ag) (e:P.cellsOf T=m) (hs:Snap z (ev env x) (.fp ((t.enc y).drop j)))
  (f:partX t y j m ag (λv=>Kf v s)=some r):Res P κ ln z c s env h n ⟨d,.load T x,ty,pos,after,g⟩ Kf r:=by
 obtain ⟨cs,hp,h1⟩:=kzM R.zin hs;refine koh R b a e hp ?_ f;have hl:=h1.len;rw [jdw,kag t y b] at hl;rw [jbp (by omega)];exact h1
theorem kpZ {q id j:Nat} {x:Yf} {k:Nat} {T:Yc} {as:Ya AV} (a:ev env x = .own q 0 j) (b:h q=some (.cells k T [as])):deref h (ev env x)=some (as.drop j):=by
 rw [a]; simp only [deref,b]; rfl
theorem knS {q i j:Nat} {x:Yf} {k:Nat} {T:Yc} {es:Ya (Ya AV)} {e:Ya AV} (a:ev env x = .own q i j) (b:h q=some (.cells k T es)) (hi:es[i]?=some e):deref h (ev env x)=some (e.drop j):=by
 rw [a]; simp only [deref,b,hi]; rfl
theorem kvt {α:Type} {k:Nat} {f:α->Ya AV} (b:∀ y,(f y).length=k):∀ (l:Ya α) (i:Nat) (y:α),l[i]?=some y->(((l.map f).flatten).drop (i*k)).take k=f y
 | [],i,y,h=>by simp at h
 | a::l,0,y,h=>by simp at h; subst h; simp [<-b a]
 | a::l,i+1,y,h=>by
  have:=kvt b l i y (by simpa using h);rw [jap,List.flatten_cons,List.drop_append,jbw (by rw [b a,jee]; omega),jbc,b a,show (i+1)*k-k=i*k by rw [jee]; omega];exact this
theorem kwm (R:Rel P κ ln z c s env h n) {T:Yc} {x:Yf} {v:TV sem} (F:TVR P κ ln z s.n v (ev env x)) (b:loadX P c s T v Kf=some r):Res P κ ln z c s env h n ⟨d,.load T x,ty,pos,after,g⟩ Kf r:=by
 unfold loadX at b;split at b
 ·exact kaa b
 ·rename_i ag B;simp only at b;split at b
  ·rename_i id j;generalize I:ev env x=a at F;cases F with
   | ptr _ _ q hN G=>
    split at b
    ·rename_i T' vs hB;cases R.blk _ _ hB with
     | bx _ _ M as u H A h1=>
      rw [G] at u; cases u;have hp:=kpZ (id:=id) I H;have hl:=A.len;split at b
      ·rename_i C;split at b
       ·rename_i ac;refine R.q (λK b=>?_) (.ag _ _ ((A.drop j).take _) (λa U=>h1 a (jdi (jcl U)))) b;simp only [aop,hp,loadK,B,C];exact ⟨by simp; omega,b⟩
       ·exact kaa b
      ·rename_i C;split at b
       ·rename_i v Z;obtain ⟨a,U,W⟩:=A.at Z;refine R.q (λK b=>?_) W b;simp only [aop,hp,loadK,B];rw [jbk] at C; subst C;exact ⟨a,by rw [jar]; simpa using U,b⟩
       ·exact kaa b
    ·rename_i T' t y hB;cases R.blk _ _ hB with
     | el _ _ _ M cs D u H A h1 hl=>
      rw [G] at u; cases u;exact knd R D B rfl A (kpZ (id:=id) I H) b
    ·exact kaa b
  ·rename_i id i j;generalize I:ev env x=a at F;cases F with
   | adr _ _ _ q hN G h0 h1=>
    split at b
    ·rename_i T' t l hB;simp only [jaa] at b;obtain ⟨y,Y,b⟩:=b;obtain ⟨_,L,ab⟩:=kfY Y;cases R.blk _ _ hB with
     | sl0 _ _ _ D u hl hn=>rw [G] at u; cases u
     | sl _ _ _ M es D u H A S hn=>
      rw [G] at u; cases u;obtain ⟨e,X,Q⟩:=A.at (kmc L);exact knd R D B rfl Q (knS I H X) b
    ·exact kaa b
  ·rename_i id i;generalize I:ev env x=a at F;cases F with
   | aa _ _ q hN G h0 h1=>
    split at b
    ·rename_i T' m t y hB;split at b
     ·exact kaa b
     rename_i E;replace E:t.wd=1:=by simpa using E
     simp only [jaa] at b;obtain ⟨w,Y,b⟩:=b;obtain ⟨_,L,ab⟩:=kfY Y;cases R.blk _ _ hB with
     | el _ _ _ M cs D u H A S hl=>
      rw [G] at u; cases u;have h2:=kvt (k:=1) (f:=t.enc) (λy=>by rw [kag t y D,E]) y.l i.toNat w L;have J:=(A.drop i.toNat).take 1;rw [Nat.mul_one] at h2;replace J:SnapL z ((cs.drop i.toNat).take 1) (((y.l.map t.enc).flatten.drop i.toNat).take 1):=J;rw [h2] at J;exact koh (t:=t) (y:=w) (j:=0) R D B rfl (kpZ (id:=id) I H) (by rw [E]; exact J) b
    ·exact kaa b
  ·rename_i t y j;cases F with
   | fq _ _ _ _ D hs=>exact kus R D B rfl hs b
  ·rename_i t y;cases F with
   | c _ _ _ D hs=>exact kus (t:=t) (y:=y) (j:=0) R D B rfl (by simpa [Ty.av,Ty.agg,Ty.enc] using hs) b
  ·exact kaa b
end
section
variable {P:Yd} {κ κ':Nat->Yb Nat} {ln ln':Nat->Nat} {z z':AH} {c:Cx sem} {s:TS sem} {env:Env} {h h':AH} {n n' N N':Nat}
variable {ρ:Ty} {Kf:TV sem->TS sem->sem.Ans ρ} {r:ρ.den}
variable {d:Yb Tmp} {ty:Yc} {pos:String} {after:Array Edge} {g:Yb (Nat×Bool)}
theorem kxt (R:Rel P κ ln z c s env h n) {x:Yf} {v:TV sem} (l:TVR P κ ln z s.n v (ev env x)) (f:nilX c s v Kf=some r):Res P κ ln z c s env h n ⟨d,.nilCheck x,ty,pos,after,g⟩ Kf r:=by
 have fin:∀ {w:TV sem},TVR P κ ln z s.n w (ev env x)->liveA h (ev env x)=true->Kf w s=some r->Res P κ ln z c s env h n ⟨d,.nilCheck x,ty,pos,after,g⟩ Kf r:=λF hl f=>R.q (λK f=>by simp only [aop]; exact ⟨hl,f⟩) F f;have live:∀ {a:AV} {cs:Ya AV},Snap z a (.fp cs)->liveA h a=true:=λhs=>by
  rcases hs.fp_inv with ⟨cs,H,_⟩ | ⟨id,i,j,k,T,es,e,H,h1,h2,I⟩
  ·rw [H]; rfl
  ·rw [H]; simp only [liveA,R.zin _ _ h1]; rfl
 unfold nilX at f;split at f
 ·rename_i id j;split at f
  ·rename_i A;obtain ⟨B,hB,C⟩:=(jct _ _).1 A;refine fin l ?_ f;generalize ev env x=a at l;cases l with
   | ptr _ _ q hN u=>
    simp only [liveA];cases R.blk _ _ hB with
    | bx _ _ E as b m=>rw [u] at b; cases b; rw [m]; rfl
    | el _ _ _ E cs D b m=>rw [u] at b; cases b; rw [m]; rfl
    | sl0 _ _ _ _ b=>rw [u] at b; cases b
    | sl _ _ _ E cs D b m=>rw [u] at b; cases b; rw [m]; rfl
    | mp=>simp [kdT] at C
    | si=>simp [kdT] at C
    | fm0 _ _ _ _ _ _ _ _ b=>rw [u] at b; cases b
    | fm _ _ _ _ _ _ _ E _ D b m=>rw [u] at b; cases b; rw [m]; rfl
  ·exact kaa f
 ·refine fin l ?_ f;cases l with | fq _ _ _ _ D hs=>exact live hs
 ·refine fin l ?_ f;cases l with | c _ _ _ D hs=>exact live (cs:=_) (by simpa [Ty.av,Ty.agg,Ty.enc] using hs)
 ·refine fin l ?_ f;generalize ev env x=a at l;cases l; rfl
 ·refine fin l ?_ f;generalize ev env x=a at l;cases l with | cv _ _ _ _ _ hc=>obtain ⟨g,as,rfl,_⟩:=hc; rfl
 ·rename_i id i j;split at f
  ·rename_i A;obtain ⟨B,hB,C⟩:=(jct _ _).1 A;refine fin l ?_ f;generalize ev env x=a at l;cases l with
   | adr _ _ _ q hN u=>
    simp only [liveA];cases R.blk _ _ hB with
    | bx _ _ E as b m=>rw [u] at b; cases b; rw [m]; rfl
    | el _ _ _ E cs D b m=>rw [u] at b; cases b; rw [m]; rfl
    | sl0 _ _ _ _ b=>rw [u] at b; cases b
    | sl _ _ _ E cs D b m=>rw [u] at b; cases b; rw [m]; rfl
    | mp=>simp [kdT] at C
    | si=>simp [kdT] at C
    | fm0 _ _ _ _ _ _ _ _ b=>rw [u] at b; cases b
    | fm _ _ _ _ _ _ _ E _ D b m=>rw [u] at b; cases b; rw [m]; rfl
  ·exact kaa f
 ·rename_i t y;simp only [jaa] at f;obtain ⟨w,F,f⟩:=f;replace F:y=some w:=F;subst F;cases l with
  | c _ _ _ D hs=>
   have G:Snap z (ev env x) (.fp (t.enc w)):=by simpa [Ty.av,Ty.agg,Ty.enc,ptrE] using hs
   exact fin (.fq t w 0 _ D (by simpa using G)) (live G) f
 ·cases f
 ·exact kaa f
theorem wk_eq (k:IntKind) (x:Int):wk k x=k.wrap x:=by cases k <;> rfl
theorem kzV (R:Rel P κ ln z c s env h n) {f:BinOp} {T m:Yc} {x y:Yf} {k l:IntKind} {a b:Int} (v:ev env x = .sc (.int k a)) (u:ev env y = .sc (.int l b)) (e:binX P c s f T (.c (.i k) a) (.c (.i l) b) Kf=some r) :
  Res P κ ln z c s env h n ⟨d,.binOp f T x y m,ty,pos,after,g⟩ Kf r:=by
 have fin:∀ {k2:IntKind} {w:Int},(∀ F:AV->Prop,F (.sc (.int k2 w))->abinI f k a l b F)->Kf (.c (.i k2) w) s=some r->Res P κ ln z c s env h n ⟨d,.binOp f T x y m,ty,pos,after,g⟩ Kf r:=λh1 e=>
  R.q (λK e=>by simp only [aop,v,u,abin]; exact h1 _ e) (.int _ _) e
 have finB:∀ {w:Bool},(∀ F:AV->Prop,F (.sc (.bool w))->abinI f k a l b F)->Kf (.c .b w) s=some r->Res P κ ln z c s env h n ⟨d,.binOp f T x y m,ty,pos,after,g⟩ Kf r:=λh1 e=>
  R.q (λK e=>by simp only [aop,v,u,abin]; exact h1 _ e) (.bool _) e
 cases f <;> simp only [binX,ipop,iop,icmp] at e;case quo | rem | shl | shr=>
  split at e
  ·rename_i j;simp only [jaa] at e;obtain ⟨w,t,e⟩:=e;simp only [gquo,grem,gshl,gshr] at t;split at t <;> cases t;refine fin (λF hF=>?_) e;simp only [abinI];simp at j;first | exact ⟨j,by assumption,by rw [wk_eq] at hF; exact hF⟩ | exact ⟨j,by assumption,hF⟩ | exact ⟨by assumption,by rw [wk_eq] at hF; exact hF⟩ | exact ⟨by assumption,hF⟩
  ·exact kaa e
 all_goals
  split at e
  ·rename_i j;subst j;first
    | exact fin (λF hF=>⟨rfl,by rw [wk_eq] at hF; exact hF⟩) e
    | exact fin (λF hF=>⟨rfl,hF⟩) e
    | exact finB (λF hF=>⟨rfl,hF⟩) e
  ·exact kaa e
theorem ktl (l:Ya UInt8):(⟨l.toArray⟩:ByteArray).toList=l:=by simp [ByteArray.toList_mk]
theorem kzC (R:Rel P κ ln z c s env h n) {i:BinOp} {T t:Yc} {x y:Yf} {a b:Ya UInt8} (m:ev env x=str a) (l:ev env y=str b) (f:binX P c s i T (.c .s a) (.c .s b) Kf=some r) :
  Res P κ ln z c s env h n ⟨d,.binOp i T x y t,ty,pos,after,g⟩ Kf r:=by
 have finB:∀ {w:Bool},(∀ F:AV->Prop,F (.sc (.bool w))->abinS i ⟨a.toArray⟩ ⟨b.toArray⟩ F)->Kf (.c .b w) s=some r->Res P κ ln z c s env h n ⟨d,.binOp i T x y t,ty,pos,after,g⟩ Kf r:=λh1 f=>
  R.q (λK f=>by simp only [aop,m,l,abin,str]; exact h1 _ f) (.bool _) f
 cases i <;> simp only [binX,scmp] at f;case add=>
  simp only [jaa] at f;obtain ⟨w,k,f⟩:=f;unfold gcat at k;split at k <;> cases k;rename_i j;refine R.q (λK f=>?_) (.str _) f;simp only [aop,m,l,abin,str,abinS];refine ⟨by simpa [ByteArray.size] using j,?_⟩;have e:(⟨a.toArray⟩:ByteArray)++⟨b.toArray⟩=⟨(a++b).toArray⟩:=by
   apply ByteArray.ext; simp
  rw [e]; exact f
 all_goals first
  | (refine finB (λF hF=>?_) f; simp only [abinS,ktl]; exact hF)
  | exact kaa f
theorem knZ (R:Rel P κ ln z c s env h n) {id q:Nat} {B:TB sem} (hB:thp c s id=some B) (e:κ id=some q) (j:kdT B=true):isCells (h q)=true:=by
 cases R.blk _ _ hB with
 | bx _ _ f as a b=>rw [e] at a; cases a; rw [b]; rfl
 | el _ _ _ f cs i a b=>rw [e] at a; cases a; rw [b]; rfl
 | sl0 _ _ _ _ a=>rw [e] at a; cases a
 | sl _ _ _ f cs i a b=>rw [e] at a; cases a; rw [b]; rfl
 | mp=>simp [kdT] at j
 | si=>simp [kdT] at j
 | fm0 _ _ _ _ _ _ _ _ a=>rw [e] at a; cases a
 | fm _ _ _ _ _ _ _ f _ i a b=>rw [e] at a; cases a; rw [b]; rfl
theorem kzq (b:∀ q B,z q=some B->h q=some B) {a:AV} {cs:Ya AV} (hs:Snap z a (.fp cs)):(∃ us,a = .fp us/\SnapL z us cs)\/∃ id i j,a = .own id i j/\isCells (h id)=true/\∃ k T es e,z id=some (.cells k T es)/\es[i]?=some e/\SnapL z (e.drop j) cs:=by
 rcases hs.fp_inv with ⟨us,rfl,h1⟩ | ⟨id,i,j,k,T,es,e,rfl,h1,h2,f⟩
 ·exact .inl ⟨us,rfl,h1⟩
 ·exact .inr ⟨id,i,j,rfl,by rw [b _ _ h1]; rfl,k,T,es,e,h1,h2,f⟩
theorem koP (R:Rel P κ ln z c s env h n) {T B:Yc} {x:Yf} {f o j:Nat} {t:Ty} {y:t.den} (m:t.dat=true) (u:fldO P T f=some (j,B)) (hs:Snap z (ev env x) (.fp ((t.enc y).drop o))) (a:Kf (.fq t y (o+j)) s=some r) :
  Res P κ ln z c s env h n ⟨d,.fieldAddr T x f,ty,pos,after,g⟩ Kf r:=by
 rcases kzq R.zin hs with ⟨us,l,h1⟩ | ⟨id,i,q,l,v,k,T',es,e,h1,h2,A⟩
 ·exact R.q (λK a=>by simp only [aop,u,l]; exact a) (.fq t y _ (.fp (us.drop j)) m (by rw [<-List.drop_drop]; exact Snap.fpL (h1.drop j))) a
 ·refine R.q (λK a=>by simp only [aop,u,l]; exact ⟨v,a⟩) (.fq t y _ (.own id i (q+j)) m ?_) a;have b:=A.drop j;rw [List.drop_drop,List.drop_drop] at b;exact .own id i (q+j) k T' es e _ h1 h2 b.len b.at
theorem kqa (R:Rel P κ ln z c s env h n) {T:Yc} {x:Yf} {f:Nat} {v:TV sem} (l:TVR P κ ln z s.n v (ev env x)) (b:kmy P c s T v f Kf=some r):Res P κ ln z c s env h n ⟨d,.fieldAddr T x f,ty,pos,after,g⟩ Kf r:=by
 unfold kmy at b;split at b
 ·exact kaa b
 ·rename_i j E u;split at b
  ·rename_i id o;split at b
   ·rename_i e;obtain ⟨B,hB,k⟩:=(jct _ _).1 e;generalize C:ev env x=a at l;cases l with
    | ptr _ _ q hN m=>exact R.q (λK b=>by simp only [aop,u,C]; exact ⟨knZ R hB m k,b⟩) (.ptr id _ q hN m) b
   ·exact kaa b
  ·rename_i id i o;split at b
   ·rename_i e;obtain ⟨B,hB,k⟩:=(jct _ _).1 e;generalize C:ev env x=a at l;cases l with
    | adr _ _ _ q hN m D h1=>exact R.q (λK b=>by simp only [aop,u,C]; exact ⟨knZ R hB m k,b⟩) (.adr id i _ q hN m D h1) b
   ·exact kaa b
  ·cases l with
   | fq _ _ _ _ A hs=>exact koP R A u hs b
  ·rename_i t y;cases l with
   | c _ _ _ A hs=>exact koP (t:=t) (y:=y) (o:=0) R A u (by simpa [Ty.av,Ty.agg,Ty.enc] using hs) (by rw [jcf]; exact b)
  ·exact kaa b
theorem kuT (R:Rel P κ ln z c s env h n) {T:Yc} {x:Yf} {f:Nat} {v:TV sem} (l:TVR P κ ln z s.n v (ev env x)) (b:kvD P s T v f Kf=some r):Res P κ ln z c s env h n ⟨d,.field T x f,ty,pos,after,g⟩ Kf r:=by
 unfold kvD at b;split at b
 ·exact kaa b
 ·rename_i j L u;split at b
  ·exact kaa b
  ·rename_i ag k;simp only at b;split at b
   ·rename_i t y;split at b
    ·rename_i C;generalize m:ev env x=a at l;cases l with
     | c _ _ _ E hs=>
      rw [khb C] at hs;obtain ⟨cs,rfl,h1⟩:=hs.ag_inv;unfold partX at b;split at b
      ·rename_i p F;obtain ⟨t',M⟩:=p;obtain ⟨g1,H,I,Q,J⟩:=kii t y j _ ag cs E F h1;obtain ⟨a,k1,k2,k3⟩:=kmd (P:=P) (κ:=κ) (ln:=ln) (N:=s.n) g1 H I J (by simp; omega);refine R.q (λK b=>?_) k1 b;simp only [aop,u,m,partK,k];cases ag with
       | true=>simp only; rw [<-k2 rfl]; exact b
       | false=>exact ⟨a,by simpa using k3 rfl,b⟩
      ·exact kaa b
    ·exact kaa b
   ·rename_i vs;generalize m:ev env x=a at l;cases l with
    | ag _ as i h1=>
     have hl:=i.len;split at b
     ·rename_i e;split at b
      ·rename_i G;refine R.q (λK b=>?_) (.ag _ _ ((i.drop j).take _) (λa A=>h1 a (jdi (jcl A)))) b;subst e;simp only [aop,u,m,partK,k];exact b
      ·exact kaa b
     ·rename_i e;rw [jbk] at e; subst e;split at b
      ·rename_i v D;obtain ⟨a,A,B⟩:=i.at D;refine R.q (λK b=>?_) B b;simp only [aop,u,m,partK,k];exact ⟨a,A,b⟩
      ·exact kaa b
   ·exact kaa b
theorem ksl (R:Rel P κ ln z c s env h n) {T:Yc} {x i:Yf} {v w:TV sem} (I:TVR P κ ln z s.n v (ev env x)) (hw:TVR P κ ln z s.n w (ev env i)) (b:kqt P c s T v w Kf=some r):Res P κ ln z c s env h n ⟨d,.indexAddr T x i,ty,pos,after,g⟩ Kf r:=by
 unfold kqt at b;split at b
 ·exact kaa b
 ·rename_i j hj;have hi:=hw.i64_inv hj;split at b
  ·rename_i t l;split at b
   ·exact kaa b
   ·rename_i E;simp only [not_or,Decidable.not_not] at E;obtain ⟨Z,H,W⟩:=E;obtain ⟨e,J⟩:=Option.ne_none_iff_exists'.1 Z;rw [J] at H;have H:P.cellsOf e=t.wd:=by simpa using H
    simp only [jaa] at b;obtain ⟨y,F,b⟩:=b;obtain ⟨G,X,C⟩:=kfY F;generalize L:ev env x=a at I;cases I with
    | c _ _ _ D hs=>
     replace D:t.dat=true:=D;replace hs:Snap z a (.sl (l.map t.enc)):=hs;have ab:=kag t y D;rcases hs.sl_inv with ⟨es,rfl,h1⟩ | ⟨_,h1⟩ | ⟨id,off,len,k,T',es,rfl,h1,h2,h3⟩
     ·obtain ⟨e',A,B⟩:=h1.at (kmc X);have Y:=B.len;refine R.q (λK b=>?_) (.fq t y 0 (.fp e') D (by rw [jcp]; exact Snap.fpL B)) b;simp only [aop,L,hi,kcV,J];exact ⟨G,e',A,by omega,by omega,b⟩
     ·simp only [jdr] at h1; subst h1; simp at C
     ·obtain ⟨e',A,B⟩:=h3.at (kmc X);have Y:=B.len;rw [jbr] at A;split at A
      ·rename_i ac;rw [jar] at A;have ad:=R.zk _ _ _ _ h1 e' (jak A);refine R.q (λK b=>?_) (.fq t y 0 (.own id (off+j.toNat) 0) D ?_) b
       ·simp only [aop,L,hi,kcV,J,R.zin _ _ h1];exact ⟨G,by omega,by omega,by omega,b⟩
       ·rw [jcp];exact .own id _ 0 k T' es e' _ h1 A (by simpa using B.len) (by simpa using B.at)
      ·cases A
  ·rename_i id;split at b
   ·rename_i T' t l e hB J;split at b
    ·rename_i E;simp only [jaa] at b;obtain ⟨y,F,b⟩:=b;obtain ⟨G,X,C⟩:=kfY F;generalize L:ev env x=a at I;cases R.blk _ _ hB with
     | sl0 _ _ _ D f hl hn=>subst hl; simp at C
     | sl _ _ _ M es D f U Q S hn=>
      cases I with
      | mw0 _ _ u=>rw [f] at u; cases u
      | mw _ q hN u=>
       rw [f] at u; cases u;refine R.q (λK b=>?_) (.adr id j 0 M hN f G (by omega)) b;simp only [aop,L,hi,kcV,J,U];exact ⟨G,by omega,E.1,E.2,by rw [jcf]; exact b⟩
    ·exact kaa b
   ·exact kaa b
  ·rename_i id o len;split at b
   ·rename_i T' t l e hB J;split at b
    ·rename_i E;simp only [jaa] at b;obtain ⟨y,F,b⟩:=b;unfold gmi at F;split at F
     ·rename_i hr;cases F;generalize L:ev env x=a at I;cases R.blk _ _ hB with
      | sl0 _ _ _ D f hl hn=>
       cases I with
       | ms0 _ _ _ _ _ ho hl=>subst hl; omega
       | ms _ _ _ q _ u=>rw [f] at u; cases u
      | sl _ _ _ M es D f U Q S hn=>
       cases I with
       | ms0 _ _ _ _ u=>rw [f] at u; cases u
       | ms _ _ _ q hN u G h1 h2=>
        rw [f] at u; cases u;refine R.q (λK b=>?_) (.adr id (o+j) 0 M hN f (by omega) (by omega)) b;simp only [aop,L,hi,kcV,J,U];refine ⟨hr.1,by omega,E.1,E.2,?_⟩;rw [show o.toNat+j.toNat=(o+j).toNat by omega]; exact b
     ·cases F
    ·exact kaa b
   ·exact kaa b
  ·rename_i id o;split at b
   ·exact kaa b
   ·rename_i ho;obtain rfl:o=0:=by simpa using ho
    split at b
    ·rename_i T' m t y m' e hB J;split at b
     ·rename_i E;obtain ⟨rfl,H,W⟩:=E;simp only [jaa] at b;obtain ⟨w',F,b⟩:=b;obtain ⟨G,X,C⟩:=kfY F;rw [y.h] at C;generalize L:ev env x=a at I;cases R.blk _ _ hB with
      | el _ _ _ M cs D f U Q S hl=>
       cases I with
       | ptr _ _ q hN u=>
        rw [f] at u; cases u;refine R.q (λK b=>?_) (.aa id j M hN f G (by rw [hl _ _ rfl]; exact C)) b;simp only [aop,L,hi,kcV,J,U];exact ⟨G,by omega,by omega,by rw [W,jcf,Nat.mul_one]; exact b⟩
     ·exact kaa b
    ·exact kaa b
  ·exact kaa b
end
section
variable {P:Yd} {κ κ':Nat->Yb Nat} {ln ln':Nat->Nat} {z z':AH} {c:Cx sem} {s:TS sem} {env:Env} {h h':AH} {n n' N N':Nat}
variable {ρ:Ty} {Kf:TV sem->TS sem->sem.Ans ρ} {r:ρ.den}
variable {d:Yb Tmp} {ty:Yc} {pos:String} {after:Array Edge} {g:Yb (Nat×Bool)}
theorem ktr {v:TV sem} {a:AV} (I:TVR P κ ln z N v a) {vs:Ya (TV sem)} (D:kaL v=some vs) {as:Ya AV} (h1:kaI a=some as):∀ b∈as,b.one=true:=by
 intro b f;cases I with
 | c t x a l hs=>
  obtain ⟨cs,B,G⟩:=kko l hs;rw [h1] at B; cases B;exact G.one_rev (kbk t x l) b f
 | ag E A _ C=>cases h1; exact C b f
 | un | ud | tp | gs | yl | kp=>simp [kaL] at D
 | sc w H=>cases h1; simp at f; subst f; exact H
 | fq t x o a l hs=>rcases hs.fp_inv with ⟨cs,rfl,_⟩ | ⟨id,i,j,k,T,es,e,rfl,_⟩ <;> (cases h1; simp at f; subst f; rfl)
 | cv m x y F a u=>obtain ⟨g,A,rfl,_⟩:=u; cases h1; simp at f; subst f; rfl
 | _=>cases h1; simp at f; subst f; rfl
theorem kgs (R:Rel P κ ln z c s env h n) {v:TV sem} {a:AV} (e:TVR P κ ln z s.n v a) {t:Ty} {y:t.den} {ids:Ya Nat} (hs:snapV (A:=sem) c s t v=some (y,ids)):∃ xs,kaI a=some xs/\SnapL (hz (ows κ ln c s) h z ids) xs (t.enc y)/\t.dat=true:=by
 obtain ⟨b,h1,_⟩:=kbE R e hs;obtain ⟨cs,h2,f⟩:=kko b h1;exact ⟨cs,h2,f,b⟩
theorem kdv {s:TS sem} {id:Nat} {B:TB sem} (h:ownB s id=some B):alk s.hp id=some (some B):=by
 unfold ownB at h;cases a:alk s.hp id with
 | none=>rw [a] at h; cases h
 | some b=>rw [a] at h; simp only at h; rw [h]
theorem kor {es es':Ya (Ya AV)} (hs:SnapE z es es') {i:Nat} {e e':Ya AV} (j:SnapL z e e'):SnapE z (es.set i e) (es'.set i e'):=by
 refine ⟨by simp [hs.1],λq x k f a=>?_⟩;rw [jcy] at f a;split at f
 ·rename_i b;rw [if_pos b] at a;split at f
  ·cases f;split at a
   ·cases a; exact j
   ·cases a
  ·cases f
 ·rename_i b;rw [if_neg b] at a;exact hs.2 q x k f a
theorem kvQ {es:Ya (Ya AV)} {i:Nat} {e:Ya AV} (h:∀ e∈es,∀ a∈e,a.one=true) (j:∀ a∈e,a.one=true):∀ x∈es.set i e,∀ a∈x,a.one=true:=by
 intro x b a f;rcases List.mem_or_eq_of_mem_set b with b | rfl
 ·exact h x b a f
 ·exact j a f
theorem kul (R:Rel P κ ln z c s env h n) {T:Yc} {p x:Yf} {u v:TV sem} (Y:TVR P κ ln z s.n u (ev env p)) (hv:TVR P κ ln z s.n v (ev env x)) (f:kvM P c s T u v Kf=some r):Res P κ ln z c s env h n ⟨d,.store T p x,ty,pos,after,g⟩ Kf r:=by
 unfold kvM at f;simp only at f;split at f
 ·exact kaa f
 ·rename_i ag aB;split at f
  ·exact kaa f
  ·rename_i aC;have X:∀ (xs:Ya AV),kaI (ev env x)=some xs->∀ t y,((snapV (A:=sem) c s t v).bind λy=>if y.2.isEmpty then some y.1 else none)=some y->t.dat=true/\SnapL z xs (t.enc y):=λxs C t y I=>by
    simp only [jaa] at I;obtain ⟨⟨w,ids⟩,hw,I⟩:=I;split at I
    ·rename_i aw;cases I;obtain rfl:=jcw.1 aw;obtain ⟨am,h1,h2,h3⟩:=kgs R hv hw;rw [C] at h1; cases h1;rw [kbB] at h2;exact ⟨h3,h2⟩
    ·cases I
   have ak:∀ t y,((snapV (A:=sem) c s t v).bind λy=>if y.2.isEmpty then some y.1 else none)=some y->∃ xs,kaI (ev env x)=some xs:=λt y I=>by
    simp only [jaa] at I;obtain ⟨⟨w,ids⟩,hw,I⟩:=I;obtain ⟨am,h1,h2,h3⟩:=kgs R hv hw;exact ⟨am,h1⟩
   split at f
   ·rename_i id j;split at f
    ·rename_i T' vs hB;replace hB:=kdv hB;split at f
     ·rename_i xs C;split at f
      ·rename_i G;obtain ⟨ao,h1,h2⟩:=hv.one_cells C;have ax:=ktr hv C h1;have ay:=h2.len;generalize W:ev env p=a at Y;cases Y with
       | ptr _ _ q hN F=>
        cases R.blk _ _ (kab hB) with
        | bx _ _ q' as D S B Z=>
         rw [F] at D; cases D;have hl:=B.len;have E:BR P κ ln z (updH h q (.cells vs.length T' [putAt as j ao])) s.n id (.bx T' (vs.take j++xs++vs.drop (j+P.cellsOf T))):=by
          refine .bx _ _ q (as.take j++ao++as.drop (j+P.cellsOf T)) F ?_ (((B.take j).append h2).append (B.drop _)) ?_
          ·simp only [updH,if_true];rw [kbY (by omega),ay,G.1];congr 2;simp; omega
          ·intro b L;rcases jaw.1 L with L | L
           ·rcases jaw.1 L with L | L
            ·exact Z b (jcl L)
            ·exact ax b L
           ·exact Z b (jdi L)
         exact ⟨.ud,_,.ud,_,_,κ,ln,z,λK f=>by
          simp only [aop,W,kcd,S,h1];exact ⟨by omega,by omega,by omega,f⟩,f,R.set hB F E,.ud,jag _,λ_ _=>⟨rfl,λ_=>rfl⟩,λG=>by cases G⟩
      ·exact kaa f
     ·exact kaa f
    ·rename_i T' t y hB;replace hB:=kdv hB;split at f
     ·rename_i y' Q;generalize W:ev env p=a at Y;cases Y with
      | ptr _ _ q hN F=>
       cases R.blk _ _ (kab hB) with
       | el _ _ _ q' cs H D S B Z hl=>
        rw [F] at D; cases D;have ⟨xs,C⟩:∃ xs,kaI (ev env x)=some xs:=by
         cases ab:kaI (ev env x) with
         | some xs=>exact ⟨xs,rfl⟩
         | none=>
          exfalso;have:=kdo (z:=z) (xs:=[]) (val:=λt=>(snapV (A:=sem) c s t v).bind λy=>if y.2.isEmpty then some y.1 else none) (λt y I=>by obtain ⟨xs,h⟩:=ak t y I; rw [ab] at h; cases h) t y j _ ag cs H Q B;simp at this;omega
        obtain ⟨g1,g2,g3⟩:=kdo (z:=z) (X xs C) t y j _ ag cs H Q B;have aA:∀ b∈xs,b.one=true:=by
         intro b L;have:b∈cs.take j++xs++cs.drop (j+P.cellsOf T):=by simp [L]
         exact g3.one_rev (kbk t y' H) b this
        have E:BR P κ ln z (updH h q (.cells t.wd T' [putAt cs j xs])) s.n id (.el T' t y'):=by
         rw [kbY (by omega),g1];refine .el _ _ _ q _ H F (by simp [updH]) g3 (g3.one_rev (kbk t y' H)) hl
        exact ⟨.ud,_,.ud,_,_,κ,ln,z,λK f=>by
         simp only [aop,W,kcd,S,C];exact ⟨by omega,by omega,by omega,f⟩,f,R.set hB F E,.ud,jag _,λ_ _=>⟨rfl,λ_=>rfl⟩,λG=>by cases G⟩
     ·exact kaa f
    ·exact kaa f
   ·rename_i id i j;split at f
    ·rename_i T' t l hB;replace hB:=kdv hB;generalize W:ev env p=a at Y;cases Y with
     | adr _ _ _ q hN F h0 h1=>
      cases R.blk _ _ (kab hB) with
      | sl0 _ _ _ _ D=>rw [F] at D; cases D
      | sl _ _ _ q' es H D S B Z hn=>
       rw [F] at D; cases D;have ai:=B.1;rw [jaq,hn] at ai;obtain ⟨e,ad⟩:∃ e,es[i.toNat]?=some e:=⟨es[i.toNat]'(by omega),jae _⟩;obtain ⟨y0,af⟩:∃ y0,l[i.toNat]?=some y0:=⟨l[i.toNat]'(by omega),jae _⟩;have ac:=B.2 _ _ _ ad (kmc af);have az:=ac.len;rw [kag t y0 H] at az;split at f
       ·rename_i G;obtain ⟨rfl,hm,rfl⟩:=G;split at f
        ·rename_i y ids I;split at f
         ·rename_i s' aq;split at f
          ·exact kaa f
          ·rename_i M;replace M:id∉ids:=by simpa using M
           obtain ⟨R',e1,e2,e3,e4,e5⟩:=R.retire aq;have hB':=e3 id _ hB M;obtain ⟨xs,C,J,_⟩:=kgs R hv I;have U:=J.len;rw [kag t y H] at U;have E:BR P κ ln (hz (ows κ ln c s) h z ids) (updH h q (.cells t.wd T' (es.set i.toNat (putAt e 0 xs)))) s'.n id (.sl T' t (lset l i y)):=by
            rw [kbY (by omega),jdm,jbc,jcf,jbw (by omega),jbe];refine .sl _ _ _ q (es.set i.toNat xs) H F (by simp [updH]) ?_ (kvQ Z (J.one_rev (kbk t y H))) (by simp [lset]; exact hn);rw [lset,List.map_set];exact kor (B.mono (hz_z R.zin)) J
           exact ⟨.ud,_,.ud,_,_,κ,ln,_,λK f=>by
            simp only [aop,W,kcd,S,C,ad];exact ⟨by omega,by omega,by omega,f⟩,f,R'.set hB' F E,.ud,by simp [e2],λ_ _=>⟨rfl,λ_=>rfl⟩,λG=>by cases G⟩
         ·exact kaa f
        ·exact kaa f
       ·simp only [jaa] at f;obtain ⟨y1,hg,f⟩:=f;obtain ⟨_,al,_⟩:=kfY hg;rw [af] at al; cases al;split at f
        ·rename_i y' Q;have ⟨xs,C⟩:∃ xs,kaI (ev env x)=some xs:=by
          cases ab:kaI (ev env x) with
          | some xs=>exact ⟨xs,rfl⟩
          | none=>
           exfalso;have:=kdo (z:=z) (xs:=[]) (val:=λt=>(snapV (A:=sem) c s t v).bind λy=>if y.2.isEmpty then some y.1 else none) (λt y I=>by obtain ⟨xs,h⟩:=ak t y I; rw [ab] at h; cases h) t y0 j _ ag e H Q ac;simp at this;omega
         obtain ⟨g1,g2,g3⟩:=kdo (z:=z) (X xs C) t y0 j _ ag e H Q ac;have E:BR P κ ln z (updH h q (.cells t.wd T' (es.set i.toNat (putAt e j xs)))) s.n id (.sl T' t (lset l i y')):=by
          rw [kbY (by omega),g1];refine .sl _ _ _ q (es.set i.toNat (e.take j++xs++e.drop (j+P.cellsOf T))) H F (by simp [updH]) ?_ (kvQ Z (g3.one_rev (kbk t y' H))) (by simp [lset]; exact hn);rw [lset,List.map_set];exact kor B g3
         exact ⟨.ud,_,.ud,_,_,κ,ln,z,λK f=>by
          simp only [aop,W,kcd,S,C,ad];exact ⟨by omega,by omega,by omega,f⟩,f,R.set hB F E,.ud,jag _,λ_ _=>⟨rfl,λ_=>rfl⟩,λG=>by cases G⟩
        ·exact kaa f
    ·exact kaa f
   ·rename_i id i;split at f
    ·rename_i T' m t y hB;replace hB:=kdv hB;split at f
     ·exact kaa f
     ·rename_i G;simp only [not_or,Decidable.not_not] at G;split at f
      ·rename_i w hw;generalize W:ev env p=a at Y;cases Y with
       | aa _ _ q hN F h0 h1=>
        cases R.blk _ _ (kab hB) with
        | el _ _ _ q' cs H D S B Z hl=>
         rw [F] at D; cases D;obtain ⟨xs,C,J,ah⟩:=kgs R hv hw;rw [kbB] at J;have U:=J.len;rw [kag t w ah,G.1] at U;have au:i.toNat<m:=by rw [<-hl _ _ rfl]; exact h1
         have aj:=B.len;rw [kag (.ar m t) y H] at aj;simp only [Ty.wd,G.1,Nat.mul_one] at aj;have ae:∀ y:t.den,∃ a,t.enc y=[a]:=λy=>by
          have:=kag t y ah;rw [G.1] at this;match S:t.enc y,this with
          | [a],_=>exact ⟨a,rfl⟩
         have an:∀ (l:Ya t.den) (k:Nat),k<l.length->((l.set k w).map t.enc).flatten=(l.map t.enc).flatten.take k++t.enc w++(l.map t.enc).flatten.drop (k+1):=by
          intro l;induction l with
          | nil=>intro k f; simp at f
          | cons b l ih=>
           intro k f;obtain ⟨a,ha⟩:=ae b;cases k with
           | zero=>simp [ha]
           | succ k=>
            have:=ih k (by simpa using f);rw [List.set_cons_succ,jap,List.flatten_cons,jap,List.flatten_cons,ha,this];simp
         have ap:SnapL z (cs.take i.toNat++xs++cs.drop (i.toNat+1)) ((Ty.ar m t).enc (aset y i w)):=by
          show SnapL z _ (((y.l.set i.toNat w).map t.enc).flatten);rw [an y.l i.toNat (by rw [y.h]; exact au)];exact ((B.take _).append J).append (B.drop _)
         have E:BR P κ ln z (updH h q (.cells (Ty.ar m t).wd T' [putAt cs i.toNat xs])) s.n id (.el T' (.ar m t) (aset y i w)):=by
          rw [kbY (by omega),<-U];exact .el _ _ _ q _ H F (by simp [updH]) ap (ap.one_rev (kbk (.ar m t) _ H)) hl
         exact ⟨.ud,_,.ud,_,_,κ,ln,z,λK f=>by
          simp only [aop,W,kcd,S,C];exact ⟨by omega,by omega,by omega,f⟩,f,R.set hB F E,.ud,jag _,λ_ _=>⟨rfl,λ_=>rfl⟩,λG=>by cases G⟩
      ·exact kaa f
    ·exact kaa f
   ·exact kaa f
theorem kyg (R:Rel P κ ln z c s env h n) {i:UnOp} {T:Yc} {x:Yf} {v:TV sem} (f:TVR P κ ln z s.n v (ev env x)) (b:unX s i v Kf=some r):Res P κ ln z c s env h n ⟨d,.unOp i T x,ty,pos,after,g⟩ Kf r:=by
 unfold unX at b;generalize e:ev env x=a at f;split at b
 ·cases f;exact R.q (λK b=>by simp only [aop,e,unK]; exact b) (.kb _) b
 ·rw [f.b_inv] at e;exact R.q (λK b=>by simp only [aop,e,unK]; exact b) (.bool _) b
 ·rw [f.i_inv] at e;exact R.q (λK b=>by simp only [aop,e,unK]; rw [<-wk_eq]; exact b) (.int _ _) b
 ·exact kaa b
theorem kwg (R:Rel P κ ln z c s env h n) {S T:Yc} {x:Yf} {v:TV sem} (u:TVR P κ ln z s.n v (ev env x)) (b:convX P s S T v Kf=some r):Res P κ ln z c s env h n ⟨d,.convert S T x,ty,pos,after,g⟩ Kf r:=by
 unfold convX at b;generalize t:ev env x=a at u;split at b
 ·rename_i k y L hT;split at b
  ·rename_i hS;rw [u.i_inv] at t;exact R.q (λK b=>by simp only [aop,t,convK,hT]; rw [<-wk_eq]; exact ⟨hS,b⟩) (.int _ _) b
  ·exact kaa b
 ·rename_i x hT;split at b
  ·rename_i C;simp only [jac,jbd] at C;obtain ⟨⟨B,hs⟩,H⟩:=C;have hz:=R.dy B;subst hz;refine R.q (λK b=>?_) (.str _) b;obtain ⟨e,f,m⟩:=kyY H;have hs:=khJ hs;simp only [aop,t];cases u with
   | c _ _ _ I j=>
    replace j:Snap (λ_=>none) a (.sl (x.map (Ty.i .u8).enc)):=j;rcases j.sl_inv with ⟨es,rfl,h1⟩ | ⟨rfl,h1⟩ | ⟨id,off,len,k,T',es,rfl,h1,h2,J⟩
    ·refine ⟨⟨e,f,m⟩,hs,x,?_,b⟩;refine List.ext_getElem? λq=>?_;cases A:es[q]? with
     | none=>
      have:es.length<=q:=List.getElem?_eq_none_iff.1 A;rw [jas,jch (by have:=h1.1; simp at this; omega)]; rfl
     | some y=>
      have F:=(jaf.1 A).1;have hl:=h1.1;simp only [jaq] at hl;have l:x[q]?=some (x[q]'(by omega)):=jae _;have E:=h1.2 q y _ A (by rw [jas,l]; rfl);rw [jas,l];cases E with
      | cons D G=>cases G; rw [D.sc_inv]; rfl
    ·obtain rfl:x=[]:=by simpa using h1
     have hS':P.underlying S=some (.slice e):=by
      unfold elemO at f; split at f
      ·cases f; assumption
      ·cases f
     exact ⟨_,λw=>by rw [run_convert_bytes_string w S T e none 0 0 hS' m hs]; rfl,rfl,b⟩
    ·cases h1
  ·exact kaa b
 ·exact kaa b
theorem kth (R:Rel P κ ln z c s env h n) {mx:Bool} {T:Array Yc} {x y:Yf} {u v:TV sem} (A:TVR P κ ln z s.n u (ev env x)) (t:TVR P κ ln z s.n v (ev env y)) (f:mmX mx s u v Kf=some r) :
  Res P κ ln z c s env h n ⟨d,.call ⟨.builtin (if mx then .max else .min),#[x,y],T⟩,ty,pos,after,g⟩ Kf r:=by
 unfold mmX at f;generalize m:ev env x=a at A;generalize l:ev env y=b at t;split at f
 ·rename_i k i B j;split at f
  ·rename_i e;subst e;rw [A.i_inv] at m;rw [t.i_inv] at l;cases mx
   ·exact R.q (λK f=>by simp only [aop,kai,jai,if_false,if_true]; rw [m,l]; exact ⟨rfl,f⟩) (.int _ _) f
   ·exact R.q (λK f=>by simp only [aop,kai,jai,if_false,if_true]; rw [m,l]; exact ⟨rfl,f⟩) (.int _ _) f
  ·exact kaa f
 ·exact kaa f
theorem krD (R:Rel P κ ln z c s env h n) {mx:Bool} {T:Array Yc} {x y q:Yf} {u v w:TV sem} (E:TVR P κ ln z s.n u (ev env x)) (D:TVR P κ ln z s.n v (ev env y)) (C:TVR P κ ln z s.n w (ev env q)) (f:(mmX mx s u v λu s'=>mmX mx s' u w Kf)=some r) :
  Res P κ ln z c s env h n ⟨d,.call ⟨.builtin (if mx then .max else .min),#[x,y,q],T⟩,ty,pos,after,g⟩ Kf r:=by
 unfold mmX at f;generalize A:ev env x=a at E;generalize m:ev env y=b at D;generalize B:ev env q=e at C;split at f
 ·rename_i k i F j;split at f
  ·rename_i e;subst e;cases w <;> first | exact kaa f | skip
   rename_i t l;cases t <;> first | exact kaa f | skip
   rename_i k2;simp only at f;split at f
   ·rename_i e;subst e;rw [E.i_inv] at A;rw [D.i_inv] at m;rw [C.i_inv] at B;cases mx
    ·exact R.q (λK f=>by simp only [aop,kai,jai,if_false,if_true]; rw [A,m,B]; exact ⟨⟨rfl,rfl⟩,f⟩) (.int _ _) f
    ·exact R.q (λK f=>by simp only [aop,kai,jai,if_false,if_true]; rw [A,m,B]; exact ⟨⟨rfl,rfl⟩,f⟩) (.int _ _) f
   ·exact kaa f
  ·exact kaa f
 ·exact kaa f
theorem kpS (R:Rel P κ ln z c s env h n) {T e:Yc} {y:Nat} {x i:Yf} {vs:Ya (TV sem)} {as:Ya AV} (B:ev env x = .ag as) (m:TVRs P κ ln z s.n vs as) (b:∀ a∈as,a.one=true) {j:Int} (hi:ev env i = .sc (.int .i64 j)) (D:arrO P T=some (y,e)) {ag:Bool} (t:aggO P e=some ag) (u:P.cellsOf e≠0) (hl:vs.length=y*P.cellsOf e) :
  ∀ (f k:Nat),k+f=y->idxAg (A:=sem) s (P.cellsOf e) ag vs j Kf f k=some r->Res P κ ln z c s env h n ⟨d,.index T x i,ty,pos,after,g⟩ Kf r
 | 0,k,l,h=>by cases h
 | f+1,k,hkm,hh=>by
  simp only [idxAg] at hh;rcases kcW hh with ⟨E,l⟩ | ⟨E,l⟩
  ·have C:j=(k:Int):=of_decide_eq_true E;subst C;cases ag with
   | true=>
    refine R.q (λK hK=>?_) (.ag _ _ ((m.drop _).take _) λa G=>b a (jdi (jcl G))) l;simp only [aop,B,hi,idxK,D,partK,t];exact ⟨by omega,by omega,u,by rw [jay]; exact hK⟩
   | false=>
    simp only at l;split at l
    ·rename_i v F;obtain ⟨a,h1,h2⟩:=m.at F;refine R.q (λK hK=>?_) h2 l;simp only [aop,B,hi,idxK,D,partK,t];exact ⟨by omega,by omega,u,a,by rw [jay]; exact h1,hK⟩
    ·exact kaa l
  ·exact kpS R B m b hi D t u hl f (k+1) (by omega) l
theorem kxo (R:Rel P κ ln z c s env h n) {T:Yc} {x i:Yf} {v w:TV sem} (G:TVR P κ ln z s.n v (ev env x)) (M:TVR P κ ln z s.n w (ev env i)) (u:idxX P s T v w Kf=some r):Res P κ ln z c s env h n ⟨d,.index T x i,ty,pos,after,g⟩ Kf r:=by
 unfold idxX at u;split at u
 ·rename_i l;split at u
  ·exact kaa u
  ·rename_i k j D;have hi:ev env i = .sc (.int k j):=by
    unfold getI at D;split at D
    ·cases D;generalize ev env i=b at M;cases M with | c _ _ _ C hs=>exact hs.sc_inv
    ·cases D
   generalize F:ev env x=a at G;split at u
   ·rename_i hT;replace hT:=khJ hT;simp only [jaa] at u;obtain ⟨y,E,u⟩:=u;simp only [gstr,jad] at E;obtain ⟨b,E,rfl⟩:=E;rw [G.s_inv] at F;exact R.q (λK u=>kAk (l:=l) hT F hi E u) (.int _ _) u
   ·exact kaa u
 split at u
 ·exact kaa u
 ·rename_i j D;have hi:=M.i64_inv D;generalize F:ev env x=a at G;split at u
  ·rename_i m t y W;split at u
   ·rename_i m' e S;split at u
    ·rename_i L;obtain ⟨rfl,I,aa,B⟩:=L;simp only [jaa] at u;obtain ⟨w',E,u⟩:=u;obtain ⟨X,Y,U⟩:=kfY E;rw [y.h] at U;cases G with
     | c _ _ _ C hs=>
      rw [khb rfl] at hs;obtain ⟨cs,rfl,h1⟩:=hs.ag_inv;replace C:t.dat=true:=C;have h2:=kvt (k:=t.wd) (f:=t.enc) (λy=>kag t y C) y.l j.toNat w' Y;have H:=(h1.drop (j.toNat*t.wd)).take t.wd;replace H:SnapL z ((cs.drop (j.toNat*t.wd)).take t.wd) (((y.l.map t.enc).flatten.drop (j.toNat*t.wd)).take t.wd):=H;rw [h2] at H;have Z:=H.len;rw [kag t w' C,jbi] at Z;obtain ⟨a,k1,k2,k3⟩:=kmd (P:=P) (κ:=κ) (ln:=ln) (N:=s.n) C rfl rfl H (by omega);refine R.q (λK u=>?_) k1 u;simp only [aop,F,hi,idxK,S,partK,B];refine ⟨X,by omega,by omega,?_⟩;cases A:t.agg with
      | true=>simp only; rw [<-I,<-k2 A]; exact u
      | false=>simp only; exact ⟨a,by rw [<-I]; simpa using k3 A,u⟩
    ·exact kaa u
   ·exact kaa u
  ·rename_i vs;split at u
   ·rename_i m e S;split at u
    ·rename_i ag B;split at u
     ·rename_i L;cases G with
      | ag _ as Q J=>exact kpS R F Q J hi S B L.1 L.2 m 0 (by omega) u
     ·exact kaa u
    ·exact kaa u
   ·exact kaa u
  ·exact kaa u
theorem kxp (R:Rel P κ ln z c s env h n) {T:Yc} {x:Yf} {v:TV sem} (j:TVR P κ ln z s.n v (ev env x)) (b:lenX P c s T v Kf=some r):Res P κ ln z c s env h n ⟨d,.call ⟨.builtin .len,#[x],#[T]⟩,ty,pos,after,g⟩ Kf r:=by
 unfold lenX at b;generalize m:ev env x=a at j;split at b
 ·rename_i t l;split at b
  ·rename_i i;refine R.q (λK b=>?_) (.int _ _) b;simp only [aop,kai,m];replace b:K (.sc (.int .i64 (l.length:Int))) h n:=b;cases j with
   | c _ _ _ A hs=>
    replace hs:Snap z a (.sl (l.map t.enc)):=hs;rcases hs.sl_inv with ⟨es,rfl,h1⟩ | ⟨rfl,h1⟩ | ⟨id,off,len,k,T',es,rfl,h1,h2,G⟩
    ·have hl:=h1.1;rw [jaq] at hl;simp only [lenK];exact ⟨i,λ_=>by rw [<-hl]; exact b⟩
    ·simp only [jdr] at h1; subst h1;simp only [lenK];exact ⟨i,b⟩
    ·have hl:=G.1;rw [jaq,jbi,jdw] at hl;have D:l.length=len:=by omega
     simp only [lenK,R.zin _ _ h1];exact ⟨i,rfl,λ_=>by rw [<-D]; exact b⟩
  ·exact kaa b
 ·rename_i id;split at b
  ·rename_i T' t l hB;split at b
   ·rename_i i;refine R.q (λK b=>?_) (.int _ _) b;simp only [aop,kai,m];replace b:K (.sc (.int .i64 (l.length:Int))) h n:=b;cases R.blk _ _ hB with
    | sl0 _ _ _ A e hl hn=>
     subst hl;cases j with
     | mw0=>simp only [lenK]; exact ⟨i,b⟩
     | mw _ q _ f=>rw [e] at f; cases f
    | sl _ _ _ F es A e y C E hn=>
     cases j with
     | mw0 _ _ f=>rw [e] at f; cases f
     | mw _ q _ f=>
      rw [e] at f; cases f;simp only [lenK,y];exact ⟨i,rfl,λ_=>by rw [<-hn]; exact b⟩
   ·exact kaa b
  ·exact kaa b
 ·rename_i id o len;split at b
  ·rename_i T' t l hB;split at b
   ·rename_i i;refine R.q (λK b=>?_) (.int _ _) b;simp only [aop,kai,m];cases R.blk _ _ hB with
    | sl0 _ _ _ A e hl hn=>
     subst hl;cases j with
     | ms0 _ _ _ _ _ Q hl=>subst hl; simp only [lenK]; exact ⟨i,b⟩
     | ms _ _ _ q _ f=>rw [e] at f; cases f
    | sl _ _ _ F es A e y C E hn=>
     cases j with
     | ms0 _ _ _ _ f=>rw [e] at f; cases f
     | ms _ _ _ q _ f J h1 h2=>
      rw [e] at f; cases f;simp only [lenK,y];refine ⟨i,rfl,λ_=>?_⟩;rw [show ((len.toNat:Nat):Int)=len from Int.toNat_of_nonneg h1]; exact b
   ·exact kaa b
  ·exact kaa b
 ·rename_i u;split at b
  ·rename_i B;obtain ⟨B,i⟩:=B;cases j;rw [kbh B] at m;refine R.q (λK b=>?_) (.int _ _) b;simp only [aop,kai,m,lenK];exact ⟨i,b⟩
  ·exact kaa b
 ·rename_i l;split at b
  ·rename_i hT;replace hT:=khJ hT;rw [j.s_inv] at m;exact R.q (λK b=>kzD (l:=l) hT m b) (.int _ _) b
  ·exact kaa b
 ·rename_i id;split at b
  ·rename_i k I l hB;split at b
   ·rename_i hT;obtain ⟨k1,L,hT⟩:=kyQ hT;cases R.blk _ _ hB with
    | mp _ _ _ q H M f y=>
     cases j with
     | mp _ F _ e=>
      rw [f] at e; cases e;refine R.q (λK b=>?_) (.int _ _) b;simp only [aop,kai,m,lenK,y,hT,jaq];exact b
   ·exact kaa b
  ·exact kaa b
 ·exact kaa b
theorem kyn {lo:Yb Yf} {l:Int} (a:∀ x,TVR P κ ln z s.n (tev c s x) (ev env x)) (h:loD (lo.map (tev c s))=some l):loA (lo.map (ev env))=some l:=by
 cases lo with
 | none=>cases h; rfl
 | some x=>simp only [jck] at h ⊢; rw [(a x).i64_inv h]; rfl
theorem klg {hi:Yb Yf} {l:Int} {m:Nat} (a:∀ x,TVR P κ ln z s.n (tev c s x) (ev env x)) (h:hiD (A:=sem) (hi.map (tev c s)) (m:Int)=some l):hiA m (hi.map (ev env))=some l:=by
 cases hi with
 | none=>cases h; rfl
 | some x=>simp only [jck] at h ⊢; rw [(a x).i64_inv h]; rfl
end
section
variable {P:Yd} {κ κ':Nat->Yb Nat} {ln ln':Nat->Nat} {z z':AH} {c:Cx sem} {s:TS sem} {env:Env} {h h':AH} {n n' N N':Nat}
variable {ρ:Ty} {Kf:TV sem->TS sem->sem.Ans ρ} {r:ρ.den}
variable {d:Yb Tmp} {ty:Yc} {pos:String} {after:Array Edge} {g:Yb (Nat×Bool)}
theorem SnapE.heads {t:Ty} {l:Ya t.den} {es:Ya (Ya AV)} (f:t.dat=true) (hs:SnapE z es (l.map t.enc)):∀ e∈es,e.length=t.wd:=by
 intro e b;obtain ⟨i,hi⟩:=jdh b;have j:=(jaf.1 hi).1;have a:=hs.1;rw [jaq] at a;have:=(hs.2 i e _ hi (by rw [jas,jae (by omega)]; rfl)).len;rw [kag t _ f] at this; exact this.symm
theorem SnapE.td {es es':Ya (Ya AV)} (h:SnapE z es es') (o m:Nat):SnapE z ((es.take m).drop o) ((es'.take m).drop o):=by
 refine ⟨by simp [h.1],λq e e' b a=>?_⟩;rw [jar,jbr] at b a;split at b
 ·rename_i f;rw [if_pos f] at a;exact h.2 _ e e' b a
 ·cases b
theorem kqj {l u:Int} {m:Nat} (g1:0<=l) (b:l<=u) (e:u<=(m:Int)) (a:m=0):l=0/\u=0:=by omega
theorem ktZ (R:Rel P κ ln z c s env h n) {T:Yc} {x:Yf} {lo hi:Yb Yf} {v:TV sem} (Q:TVR P κ ln z s.n v (ev env x)) (b:kvS P c s T v (lo.map (tev c s)) (hi.map (tev c s)) Kf=some r):Res P κ ln z c s env h n ⟨d,.slice T x lo hi none,ty,pos,after,g⟩ Kf r:=by
 unfold kvS at b;split at b
 ·exact kaa b
 ·rename_i l hl;have D:=kyn (λx=>R.ev x) hl;simp only at b;generalize I:ev env x=a at Q;split at b
  ·rename_i t y;split at b
   ·rename_i u e W L;have C:=klg (m:=y.length) (λx=>R.ev x) W;split at b
    ·rename_i M;obtain ⟨X,F,ae⟩:=M;simp only [jaa] at b;obtain ⟨w,E,b⟩:=b;obtain ⟨g1,H,J,E⟩:=krT E;subst E;have ad:=R.dy ae;cases Q with
     | c _ _ _ G hs=>
      replace hs:Snap z a (.sl (y.map t.enc)):=hs;replace G:t.dat=true:=G;have A:∃ i,P.info? e=some i:=jao.1 F;rcases hs.sl_inv with ⟨es,rfl,h1⟩ | ⟨rfl,h1⟩ | ⟨id,off,len,k,T',es,rfl,h1,h2,h3⟩
      ·have aa:=h1.1;rw [jaq] at aa;refine R.q (λK b=>?_) (.c (.sl t) ((y.take u.toNat).drop l.toNat) (.sl ((es.take u.toNat).drop l.toNat)) G ?_) b
       ·simp only [aop,I,kfp,kce,D];rw [<-aa,C];exact ⟨⟨e,L,A,λc M=>by rw [<-X]; exact h1.heads G c (List.mem_of_mem_head? M)⟩,g1,H,J,b⟩
       ·show Snap z _ (.sl (((y.take u.toNat).drop l.toNat).map t.enc));rw [List.map_drop,List.map_take];exact Snap.of_sl (h1.td _ _)
      ·simp only [jdr] at h1;subst h1;obtain ⟨gl,gu⟩:=kqj g1 H J rfl;subst gu; subst gl;refine R.q (λK b=>?_) (.c (.sl t) _ nilS G .nilS) b;simp only [aop,I,kfp,kce,D];rw [show hiA 0 (hi.map (ev env))=some 0 from C];exact ⟨⟨e,L,A⟩,jcq _,jcq _,jcq _,b⟩
      ·rw [ad] at h1; cases h1
    ·exact kaa b
   ·exact kaa b
  ·rename_i id;split at b
   ·rename_i T' t y hB;split at b
    ·rename_i u e W L;have C:=klg (m:=y.length) (λx=>R.ev x) W;split at b
     ·rename_i M;obtain ⟨X,S,F⟩:=M;have A:∃ i,P.info? e=some i:=jao.1 F;simp only [jaa] at b;obtain ⟨w,E,b⟩:=b;obtain ⟨g1,H,J,_⟩:=krT E;cases R.blk _ _ hB with
      | sl0 _ _ _ G j U hn=>
       subst U;obtain ⟨gl,gu⟩:=kqj g1 H J rfl;subst gu; subst gl;cases Q with
       | mw0 _ hN _=>
        refine R.q (λK b=>?_) (.ms0 id 0 (0-0) hN j rfl (by simp)) b;simp only [aop,I,kfp,kce,D];rw [show hiA 0 (hi.map (ev env))=some 0 from C];exact ⟨⟨e,L,A⟩,jcq _,jcq _,jcq _,b⟩
       | mw _ q _ B=>rw [j] at B; cases B
      | sl _ _ _ q' es G j hh ab ac hn=>
       cases Q with
       | mw0 _ _ B=>rw [j] at B; cases B
       | mw _ q hN B=>
        rw [j] at B; cases B;refine R.q (λK b=>?_) (.ms id l (u-l) q' hN j g1 (by omega) (by rw [<-hn]; omega)) b;simp only [aop,I,kfp,kce,D,hh];rw [<-hn,C];refine ⟨⟨e,L,X,S⟩,g1,H,J,?_⟩;rw [jcf,show u.toNat-l.toNat=(u-l).toNat by omega]; exact b
     ·exact kaa b
    ·exact kaa b
   ·exact kaa b
  ·rename_i id o len;split at b
   ·rename_i T' t y hB;split at b
    ·rename_i u e W L;have Y:∀ m:Nat,(m:Int)=len->hiA m (hi.map (ev env))=some u:=λm hm=>by
      subst hm;exact klg (m:=m) (λx=>R.ev x) W
     split at b
     ·rename_i M;obtain ⟨X,S,F⟩:=M;have A:∃ i,P.info? e=some i:=jao.1 F;simp only [jaa] at b;obtain ⟨w,E,b⟩:=b;unfold gmb at E;split at E
      ·rename_i f;cases R.blk _ _ hB with
       | sl0 _ _ _ G j U hn=>
        subst U;cases Q with
        | ms0 _ _ _ hN _ ho hl=>
         subst ho; subst hl;obtain ⟨gl,gu⟩:=kqj (m:=0) f.1 f.2.1 f.2.2 rfl;subst gu; subst gl;refine R.q (λK b=>?_) (.ms0 id (0+0) (0-0) hN j (by simp) (by simp)) b;simp only [aop,I,kfp,kce,D];rw [show hiA 0 (hi.map (ev env))=some 0 from Y 0 rfl];exact ⟨⟨e,L,A⟩,jcq _,jcq _,jcq _,b⟩
        | ms _ _ _ q _ B=>rw [j] at B; cases B
       | sl _ _ _ q' es G j hh ab ac hn=>
        cases Q with
        | ms0 _ _ _ _ B=>rw [j] at B; cases B
        | ms _ _ _ q hN B h0 h1 h2=>
         rw [j] at B; cases B;have Z:((len.toNat:Nat):Int)=len:=Int.toNat_of_nonneg h1;have g1:=f.1;have H:=f.2.1;have J:=f.2.2;refine R.q (λK b=>?_) (.ms id (o+l) (u-l) q' hN j (by omega) (by omega) (by omega)) b;simp only [aop,I,kfp,kce,D,hh];rw [Y len.toNat Z];refine ⟨⟨e,L,X,S⟩,g1,H,by omega,?_⟩;rw [show o.toNat+l.toNat=(o+l).toNat by omega,show u.toNat-l.toNat=(u-l).toNat by omega]; exact b
      ·cases E
     ·exact kaa b
    ·exact kaa b
   ·exact kaa b
  ·rename_i y;split at b
   ·rename_i u W;have C:=klg (m:=y.length) (λx=>R.ev x) W;split at b
    ·rename_i hT;replace hT:=khJ hT;simp only [jaa] at b;obtain ⟨w,E,b⟩:=b;obtain ⟨g1,H,J,E⟩:=krT E;subst E;rw [Q.s_inv] at I;refine R.q (λK b=>?_) (.str _) b;simp only [aop,I,str,kfp,kce,D];rw [show (⟨y.toArray⟩:ByteArray).size=y.length by simp [ByteArray.size],C];refine ⟨hT,g1,H,J,?_⟩;have e:(⟨y.toArray⟩:ByteArray).extract l.toNat u.toNat=⟨((y.take u.toNat).drop l.toNat).toArray⟩:=by
      apply ByteArray.ext;simp [List.drop_take]
     rw [e]; exact b
    ·exact kaa b
   ·exact kaa b
  ·exact kaa b
theorem kow (R:Rel P κ ln z c s env h n) {t:Ty} {v:TV sem} {a:AV} (C:TVR P κ ln z s.n v a) {l:Ya t.den} {ids:Ya Nat} (hs:srcX (A:=sem) c s t v=some (l,ids)) :
  t.dat=true/\∃ xs,srcA h t.wd a=some xs/\SnapE z xs (l.map t.enc):=by
 have all:∀ {es:Ya (Ya AV)} {l:Ya t.den},t.dat=true->SnapE z es (l.map t.enc)->srcA h t.wd (.sl es)=some es:=λi h2=>by
  simp only [srcA];rw [if_pos];rw [jam];exact λe m=>by simpa using h2.heads i e m
 have L:∀ {id q:Nat} {T:Yc} {es:Ya (Ya AV)} {t':Ty} {l':Ya t'.den},thp c s id=some (.sl T t' l')->κ id=some q->∃ es,h q=some (.cells t'.wd T es)/\SnapE z es (l'.map t'.enc)/\es.length=ln id:=λhB b=>by
  cases R.blk _ _ hB with
  | sl0 _ _ _ i f hl hn=>rw [b] at f; cases f
  | sl _ _ _ M es i f U u h1 hn=>
   rw [b] at f; cases f;have hl:=u.1;rw [jaq,hn] at hl;exact ⟨es,U,u,hl.symm⟩
 have J:∀ {id:Nat} {T:Yc} {t':Ty} {l':Ya t'.den},thp c s id=some (.sl T t' l')->κ id=none->l'=[]:=λhB b=>by
  cases R.blk _ _ hB with
  | sl0 _ _ _ i f hl hn=>exact hl
  | sl _ _ _ M es i f=>rw [b] at f; cases f
 unfold srcX at hs;split at hs
 ·split at hs
  ·cases hs
  ·rename_i F;obtain ⟨i,h1,_⟩:=kbE R C hs;have G:=R.dy (by simpa using F);replace i:t.dat=true:=i;refine ⟨i,?_⟩;have B:ids=[]:=by
    unfold snapV at hs;simp only [Ty.dat,i,Bool.true_eq_false,if_false,Ty.agg,jai,snapL] at hs;split at hs
    ·rename_i x ids' j;cases hs;simp only [jad] at j;obtain ⟨y,_,m⟩:=j;cases m; rfl
    ·cases hs
   subst B;rw [kbB] at h1;replace h1:Snap z a (.sl (l.map t.enc)):=h1;rcases h1.sl_inv with ⟨es,rfl,h2⟩ | ⟨rfl,h2⟩ | ⟨id,off,len,k,T',es,rfl,h2,Y,X⟩
   ·exact ⟨es,all i h2,h2⟩
   ·simp only [jdr] at h2; subst h2;exact ⟨[],rfl,rfl,λq e e' b=>by simp at b⟩
   ·rw [G] at h2; cases h2
 ·cases hs
 ·unfold snapV at hs;split at hs
  ·cases hs
  ·rename_i i;replace i:t.dat=true:=by simpa [Ty.dat] using i
   refine ⟨i,?_⟩;simp only [Ty.agg,jai,if_false] at hs;split at hs
   ·rename_i y ids' j;cases hs;cases v <;> simp only [snapL,jad,Option.some.injEq,reduceCtorEq] at j
    ·rename_i I _; exact (I _ _ rfl).elim
    ·split at j
     ·rename_i hn;cases j;cases C;rw [kbh hn];exact ⟨[],rfl,rfl,λq e e' b=>by simp at b⟩
     ·cases j
    ·split at j
     ·rename_i T' t' l' hB;simp only [jad] at j;obtain ⟨y,D,m⟩:=j;cases m;obtain ⟨e,rfl⟩:=kak D;cases e;cases C with
      | mw0 _ hN b=>
       obtain rfl:=J hB b;exact ⟨[],rfl,rfl,λq e e' b=>by simp at b⟩
      | mw _ q hN b=>
       obtain ⟨es,g1,E,S⟩:=L (es:=[]) hB b;refine ⟨es,?_,E⟩;simp only [srcA,g1];rw [if_pos ⟨trivial,by omega⟩,jcp,jbp (by omega)]
     ·cases j
    ·split at j
     ·rename_i T' t' l' hB;simp only [jad] at j;obtain ⟨y,D,m⟩:=j;cases m;obtain ⟨e,rfl⟩:=kak D;cases e;cases C with
      | ms0 _ _ _ hN b Q hl=>
       obtain rfl:=J hB b;subst Q; subst hl;exact ⟨[],rfl,rfl,λq e e' b=>by simp at b⟩
      | ms _ _ _ q hN b W h1 h2=>
       obtain ⟨es,g1,E,S⟩:=L (es:=[]) hB b;refine ⟨_,(by simp only [srcA,g1]; exact if_pos ⟨trivial,by omega⟩),?_⟩;show SnapE z _ (((l'.drop _).take _).map t.enc);rw [List.map_take,List.map_drop];exact E.drop_take _ _
     ·cases j
    ·rename_i H; exact (H _ rfl).elim
   ·cases hs
theorem SnapE.append {a a' b b':Ya (Ya AV)} (h:SnapE z a a') (g:SnapE z b b'):SnapE z (a++b) (a'++b'):=by
 refine ⟨by simp [h.1,g.1],λq e e' j f=>?_⟩;rw [jbm] at j f;rw [h.1] at f;split at j
 ·rename_i i; rw [if_pos i] at f; exact h.2 _ e e' j f
 ·rename_i i; rw [if_neg i] at f; exact g.2 _ e e' j f
theorem SnapE.ones {t:Ty} {l:Ya t.den} {es:Ya (Ya AV)} (j:t.dat=true) (hs:SnapE z es (l.map t.enc)):∀ e∈es,∀ a∈e,a.one=true:=by
 intro e f a k;obtain ⟨i,hi⟩:=jdh f;have m:=(jaf.1 hi).1;have b:=hs.1;rw [jaq] at b;exact (hs.2 i e _ hi (by rw [jas,jae (by omega)]; rfl)).one_rev (kbk t _ j) a k
theorem Rel.delA (R:Rel P κ ln z c s env h n) {id q:Nat} {e:TB sem} (i:alk s.hp id=some (some e)) (j:κ id=some q):Rel P κ ln z c { s with hp:=(id,none)::s.hp } env (delH h q) n:=by
 refine R.del i (λf B a=>?_) (λf B b h2=>?_)
 ·unfold delH at a;split at a
  ·cases a
  ·exact a
 ·unfold delH;rw [if_neg]
  ·exact h2
  ·rintro rfl; exact b j
theorem kxu (R:Rel P κ ln z c s env h n) {T Y:Yc} {x y:Yf} {u v:TV sem} (hu:TVR P κ ln z s.n u (ev env x)) (hv:TVR P κ ln z s.n v (ev env y)) (f:appX P c s T Y u v Kf=some r) :
  Res P κ ln z c s env h n ⟨d,.call ⟨.builtin .append,#[x,y],#[T,Y]⟩,ty,pos,after,g⟩ Kf r:=by
 unfold appX at f;split at f
 ·exact kaa f
 ·rename_i e X;split at f
  ·rename_i t zs ht hz;split at f
   ·rename_i hc;obtain ⟨hp,E,ai,Z⟩:=hc;have j:zs≠[]:=by rintro rfl; simp at E; omega
    split at f
    ·exact kaa f
    ·rename_i l ids U;obtain ⟨J,xs,C,k⟩:=kow R hv U;rw [<-E] at C;simp only at f;generalize I:ev env x=a at hu;have aa:ev env x=nilS->(sem.p2 (x:=.sl t) (y:=.sl t) (z:=.sl t) "" (λa b=>gapp a b) ([]:Ya t.den) l λl'=>newSl s e t l' Kf)=some r->Res P κ ln z c s env h n ⟨d,.call ⟨.builtin .append,#[x,y],#[T,Y]⟩,ty,pos,after,g⟩ Kf r:=λI f=>by
      simp only [jaa] at f;obtain ⟨l',D,f⟩:=f;obtain ⟨H,D⟩:=kiQ D;rw [jbc] at D;rw [D] at f;have i:=k.1;rw [jaq] at i;have m:xs.length<=1048576:=by simp at H; omega
      by_cases G:xs=[]
      ·subst G;have:l=[]:=by simpa using i
       subst this;refine kkG rfl R J (λK f=>?_) f;simp only [aop,kai,I,kcf,X,hz,C];exact ⟨hp,j,Z,m,λ_=>f,λh=>absurd rfl h⟩
      ·refine kjl rfl R J k (k.ones J) (λK f=>?_) f;simp only [aop,kai,I,kcf,X,hz,C];refine ⟨hp,j,Z,m,λh=>absurd h G,λ_=>?_⟩;rw [E,<-i]; exact f
     split at f
     ·rename_i id;split at f
      ·rename_i e' t' S hB;split at f
       ·rename_i ad;obtain ⟨rfl,ah⟩:=ad;split at f
        ·rename_i l1 af;obtain ⟨et,rfl⟩:=kak af;cases et;cases R.blk _ _ (kab hB) with
         | sl0 _ _ _ ac F hl hn=>
          subst hl;cases hu with
          | mw0=>
           simp only [jaa] at f;obtain ⟨l',D,f⟩:=f;have M:=R.del (h':=h) hB (λ_ _ h=>h) (λ_ _ _ h=>h);obtain ⟨H,D⟩:=kiQ D;rw [jbc] at D;rw [D] at f;have i:=k.1;rw [jaq] at i;have m:xs.length<=1048576:=by simp at H; omega
           have up:∀ {Q:Res P κ ln z c { s with hp:=(id,none)::s.hp } env h n ⟨d,.call ⟨.builtin .append,#[x,y],#[T,Y]⟩,ty,pos,after,g⟩ Kf r},Res P κ ln z c s env h n ⟨d,.call ⟨.builtin .append,#[x,y],#[T,Y]⟩,ty,pos,after,g⟩ Kf r:=λ{Q}=>by
            obtain ⟨tv,s',v,h',n',κ2,ae,z2,g1,g2,g3,g4,g6,g7,_⟩:=Q;exact ⟨tv,s',v,h',n',κ2,ae,z2,g1,g2,g3,g4,g6,g7,λhc=>by cases hc⟩
           by_cases G:xs=[]
           ·subst G;have:l=[]:=by simpa using i
            subst this;refine up (Q:=kkG rfl M J (λK f=>?_) f);simp only [aop,kai,I,kcf,X,hz,C];exact ⟨hp,j,Z,m,λ_=>f,λh=>absurd rfl h⟩
           ·refine up (Q:=kjl rfl M J k (k.ones J) (λK f=>?_) f);simp only [aop,kai,I,kcf,X,hz,C];refine ⟨hp,j,Z,m,λh=>absurd h G,λ_=>?_⟩;rw [E,<-i]; exact f
          | mw _ q _ A=>rw [F] at A; cases A
         | sl _ _ _ q' es ac F hh W ak hn=>
          cases hu with
          | mw0 _ _ A=>rw [F] at A; cases A
          | mw _ q hN A=>
           rw [F] at A; cases A;simp only [jaa] at f;obtain ⟨l',D,f⟩:=f;obtain ⟨H,D⟩:=kiQ D;subst D;have i:=k.1;rw [jaq] at i;have L:=W.1;rw [jaq] at L;have M:=R.delA hB F;have aj:delH h q' q'=none:=by simp [delH]
           have ab:SnapE z (es++xs) ((S++l).map t.enc):=by rw [jcm]; exact W.append k
           have R2:=M.new (h':=updH (delH h q') n (.cells t.wd e' (es++xs))) (n':=n+1) (.sl e' t (S++l)) (some n) (S++l).length (λq B A=>by
             unfold updH; rw [if_neg]; ·exact A
             rintro rfl; rw [M.hn _ (jag _)] at A; cases A) (jca _) (λq A=>by cases A; omega) (λq A=>by unfold updH; rw [if_neg (by omega)]; exact M.hn q (by omega))
            (.sl e' t (S++l) n (es++xs) J updK_self (by simp [updH]) ab (ab.ones J) updK_self.symm)
           refine ⟨.mw s.n,_,.ms n 0 (ln id+xs.length),_,_,_,_,_,λK f=>?_,f,R2,?_,jca _,λid hi=>⟨kaC hi,λ_=>kaC hi⟩,λhc=>by cases hc⟩
           ·simp only [aop,kai,I,kcf,X,hz,C,hh];refine ⟨hp,j,Z,E.symm,trivial,by omega,by omega,?_⟩;exact f
           ·have:=TVR.mw (P:=P) (κ:=updK κ s.n (some n)) (ln:=updK ln s.n (S++l).length) (z:=z) (N:=s.n+1) s.n n (jbl _) updK_self;rw [updK_self] at this;have e0:(S++l).length=ln id+xs.length:=by rw [jbh,hn]; omega
            rw [e0] at this;exact e0 ▸ this
        ·exact kaa f
       ·exact kaa f
      ·exact kaa f
     ·rename_i w;split at f
      ·rename_i hn;cases hu;rw [kbh hn] at I;exact aa I f
      ·exact kaa f
     ·exact kaa f
   ·exact kaa f
  ·exact kaa f
theorem SnapE.take {es es':Ya (Ya AV)} (h:SnapE z es es') (m:Nat):SnapE z (es.take m) (es'.take m):=by
 have:=h.td 0 m
 rwa [jcp,jcp] at this
theorem SnapE.drop {es es':Ya (Ya AV)} (h:SnapE z es es') (o:Nat):SnapE z (es.drop o) (es'.drop o):=by
 refine ⟨by simp [h.1],λq e e' b a=>?_⟩;rw [jar] at b a;exact h.2 _ e e' b a
theorem Rel.reset (R:Rel P κ ln z c s env h n) {id:Nat} {B:TB sem} (k:alk s.hp id=some (some B)):Rel P κ ln z c { s with hp:=(id,some B)::s.hp } env h n:=by
 have f:∀ x,thp c { s with hp:=(id,some B)::s.hp } x=thp c s x:=λx=>by
  unfold thp;simp only [alk];by_cases e:x=id
  ·subst e; rw [if_pos rfl,k]
  ·rw [if_neg e]
 exact ⟨R.env,λi a hi=>R.blk i a (f i ▸ hi),λi a hi=>R.lt i a (f i ▸ hi),λi j u m q hi l=>R.inj i j u m q (f i ▸ hi) (f j ▸ l),R.zin,λi a q hi=>R.zout i a q (f i ▸ hi),λi a q hi=>R.bnd i a q (f i ▸ hi),R.hn,R.e0,λi b hi=>by
  simp only [alk] at hi;split at hi
  ·rename_i e; subst e; exact R.g _ _ k
  ·exact R.g _ _ hi,R.dy,R.zk,R.fam.map (λi a hi=>.inl ⟨a,f i ▸ hi,λh=>h,rfl,rfl⟩) (λid _ B r _ h1 h2 t=>((R.fam id B h1 h2).2 r t).2.1) (jag _)⟩
theorem kyI {t:Ty} {l xs:Ya t.den} {es ys:Ya (Ya AV)} (h:SnapE z es (l.map t.enc)) (g:SnapE z ys (xs.map t.enc)) (o m:Nat):SnapE z (es.take o++ys.take m++es.drop (o+m)) ((l.take o++xs.take m++l.drop (o+m)).map t.enc):=by
 rw [jcm,jcm,List.map_take,List.map_take,List.map_drop];exact ((h.take o).append (g.take m)).append (h.drop (o+m))
theorem kws (R:Rel P κ ln z c s env h n) {T T2:Yc} {x y:Yf} {u v:TV sem} (I:TVR P κ ln z s.n u (ev env x)) (hv:TVR P κ ln z s.n v (ev env y)) (f:copyX P c s T u v Kf=some r) :
  Res P κ ln z c s env h n ⟨d,.call ⟨.builtin .copy,#[x,y],#[T,T2]⟩,ty,pos,after,g⟩ Kf r:=by
 unfold copyX at f;split at f
 ·exact kaa f
 ·rename_i e S;split at f
  ·rename_i t zs ht hz;split at f
   ·rename_i F;obtain ⟨E,ab⟩:=F;have A:zs≠[]:=by rintro rfl; simp at E; omega
    split at f
    ·exact kaa f
    ·rename_i xs ids J;obtain ⟨hd,ys,B,M⟩:=kow R hv J;have aa:=B;rw [<-E] at B;have L:=M.1;rw [jaq] at L;simp only at f;generalize C:ev env x=a at I;have D:∀ {id q:Nat} {e':Yc} {l:Ya t.den} {es:Ya (Ya AV)} {o len:Int} (hB:alk s.hp id=some (some (.sl e' t l))) (k:κ id=some q) (H:h q=some (.cells t.wd e' es)) (m:SnapE z es (l.map t.enc)) (hn:l.length=ln id) (U:0<=o) (h1:0<=len) (h2:o+len<=ln id) (C:ev env x = .ms q o.toNat len.toNat),
       Kf (.c (.i .i64) ((λ(a b:Int)=>if b<a then b else a) (lenI xs) len)) { s with hp:=(id,some (.sl e' t (lcopy l o len xs)))::s.hp }=some r->
       Res P κ ln z c s env h n ⟨d,.call ⟨.builtin .copy,#[x,y],#[T,T2]⟩,ty,pos,after,g⟩ Kf r:=by
      intro id q e' l es o len hB k H m hn U h1 h2 C f;have X:=m.1;rw [jaq] at X;have hm:((min ys.length len.toNat:Nat):Int)=(if len<lenI xs then len else lenI xs):=by
       show _=if len<(xs.length:Int) then len else (xs.length:Int);split <;> omega
      have Q:SnapE z (es.take o.toNat++ys.take (min ys.length len.toNat)++es.drop (o.toNat+min ys.length len.toNat)) ((lcopy l o len xs).map t.enc):=by
       unfold lcopy;rw [<-L];exact kyI m M _ _
      have W:(lcopy l o len xs).length=l.length:=by
       unfold lcopy;simp only [jbh,jbi,jdw];omega
      refine ⟨_,_,.sc (.int .i64 (if len<lenI xs then len else lenI xs)),updH h q (.cells t.wd e' (es.take o.toNat++ys.take (min ys.length len.toNat)++es.drop (o.toNat+min ys.length len.toNat))),n,κ,ln,z,λK f=>?_,f,R.set hB k (.sl e' t (lcopy l o len xs) q _ hd k (by simp [updH]) Q (Q.ones hd) (by rw [W,hn])),.int _ _,jag _,λ_ _=>⟨rfl,λ_=>rfl⟩,λF=>by cases F⟩;simp only [aop,kai,C,copyK,S,hz,B,H];refine ⟨A,E.symm,by omega,?_⟩;rw [hm]; exact f
     split at f
     ·rename_i id;split at f
      ·rename_i e' t' Z hB;split at f
       ·rename_i l hl;obtain ⟨et,rfl⟩:=kak hl;cases et;cases R.blk _ _ (kab hB) with
        | sl0 _ _ _ G j hl hn=>
         subst hl;cases I with
         | mw0=>
          have e0:lcopy ([]:Ya t.den) 0 (lenI ([]:Ya t.den)) xs=[]:=by simp [lcopy,lenI]
          refine ⟨_,_,.sc (.int .i64 0),h,n,κ,ln,z,λK f=>?_,f,?_,?_,jag _,λ_ _=>⟨rfl,λ_=>rfl⟩,λF=>by cases F⟩
          ·simp only [aop,kai,C,copyK,S,hz,B];exact ⟨A,f⟩
          ·show Rel P κ ln z c { s with hp:=(id,some (.sl e' t (lcopy ([]:Ya t.den) 0 (lenI ([]:Ya t.den)) xs)))::s.hp } env h n;rw [e0]; exact R.reset hB
          ·have:(if lenI ([]:Ya t.den)<lenI xs then lenI ([]:Ya t.den) else lenI xs)=0:=by
            show (if (0:Int)<(xs.length:Int) then (0:Int) else (xs.length:Int))=0;split <;> omega
           show TVR P κ ln z _ (.c (.i .i64) (if lenI ([]:Ya t.den)<lenI xs then lenI ([]:Ya t.den) else lenI xs)) _;rw [this]; exact .int _ _
         | mw _ q _ k=>rw [j] at k; cases k
        | sl _ _ _ q' es G j H m Y hn=>
         cases I with
         | mw0 _ _ k=>rw [j] at k; cases k
         | mw _ q hN k=>
          rw [j] at k; cases k;refine D (o:=0) (len:=lenI Z) hB j H m hn (jcq _) (Int.natCast_nonneg _) (by show (0:Int)+(Z.length:Int)<=_; omega) ?_ f;rw [C,<-hn]; rfl
       ·exact kaa f
      ·exact kaa f
     ·rename_i id o len;split at f
      ·rename_i e' t' Z hB;split at f
       ·rename_i l hl;obtain ⟨et,rfl⟩:=kak hl;cases et;cases R.blk _ _ (kab hB) with
        | sl0 _ _ _ G j hl hn=>
         subst hl;cases I with
         | ms0 _ _ _ hN _ ho hl=>
          subst ho; subst hl;have e0:lcopy ([]:Ya t.den) 0 0 xs=[]:=by simp [lcopy]
          refine ⟨_,_,.sc (.int .i64 0),h,n,κ,ln,z,λK f=>?_,f,?_,?_,jag _,λ_ _=>⟨rfl,λ_=>rfl⟩,λF=>by cases F⟩
          ·simp only [aop,kai,C,copyK,S,hz,B];exact ⟨A,f⟩
          ·show Rel P κ ln z c { s with hp:=(id,some (.sl e' t (lcopy ([]:Ya t.den) 0 0 xs)))::s.hp } env h n;rw [e0]; exact R.reset hB
          ·have:(if (0:Int)<lenI xs then (0:Int) else lenI xs)=0:=by
            show (if (0:Int)<(xs.length:Int) then (0:Int) else (xs.length:Int))=0;split <;> omega
           show TVR P κ ln z _ (.c (.i .i64) (if (0:Int)<lenI xs then (0:Int) else lenI xs)) _;rw [this]; exact .int _ _
         | ms _ _ _ q _ k=>rw [j] at k; cases k
        | sl _ _ _ q' es G j H m Y hn=>
         cases I with
         | ms0 _ _ _ _ k=>rw [j] at k; cases k
         | ms _ _ _ q hN k U h1 h2=>
          rw [j] at k; cases k;exact D (o:=o) (len:=len) hB j H m hn U h1 h2 C f
       ·exact kaa f
      ·exact kaa f
     ·rename_i w;split at f
      ·rename_i hn;cases I;rw [kbh hn] at C;refine R.q (λK f=>?_) (.int _ _) f;simp only [aop,kai,C,copyK,S,hz,B];exact ⟨A,f⟩
      ·exact kaa f
     ·exact kaa f
   ·exact kaa f
  ·exact kaa f
end
section
variable {P:Yd} {κ κ':Nat->Yb Nat} {ln ln':Nat->Nat} {z z':AH} {c:Cx sem} {s:TS sem} {env:Env} {h h':AH} {n n' N N':Nat}
variable {ρ:Ty} {Kf:TV sem->TS sem->sem.Ans ρ} {r:ρ.den}
variable {d:Yb Tmp} {ty:Yc} {pos:String} {after:Array Edge} {g:Yb (Nat×Bool)}
theorem klD {pl:Ya (Nat×Nat)} (f:∀ x,TVR P κ ln z N (tev c s x) (ev env x)):∀ (b:Ya (Nat×Yf)) (cs:Ya (TV sem)) (as:Ya AV) {vs:Ya (TV sem)},TVRs P κ ln z N cs as->(∀ a∈as,a.one=true)->fillT c pl s b cs=some vs->∃ bs,fillS pl env b as=some bs/\TVRs P κ ln z N vs bs/\∀ a∈bs,a.one=true
 | [],cs,as,vs,hc,h1,hf=>by cases hf; exact ⟨as,rfl,hc,h1⟩
 | (i,x)::rest,cs,as,vs,hc,h1,hf=>by
  simp only [fillT] at hf;split at hf
  ·rename_i o m xs hp j;split at hf
   ·rename_i hl;obtain ⟨l,g1,k⟩:=(f x).one_cells j;have t:=ktr (f x) j g1;have l1:=k.len;have l2:=hc.len;obtain ⟨bs,k1,k2,k3⟩:=klD f rest _ (as.take o++l++as.drop (o+m)) (((hc.take o).append k).append (hc.drop _)) (λa e=>by
     rcases jaw.1 e with e | e
     ·rcases jaw.1 e with e | e
      ·exact h1 a (jcl e)
      ·exact t a e
     ·exact h1 a (jdi e)) hf
    refine ⟨bs,?_,k2,k3⟩;simp only [fillS,hp,g1];rw [if_pos ⟨by omega,by omega⟩]; exact k1
   ·cases hf
  ·cases hf
theorem kwG {s s':TS sem} (a:s'.env=s.env) (x:Nat):tlk c s' x=tlk c s x:=by unfold tlk; rw [a]
theorem kwF {s s':TS sem} (a:s'.env=s.env) (x:Yf):tev c s' x=tev c s x:=by cases x <;> simp [tev,kwG a]
theorem kuH (R:Rel P κ ln z c s env h n) {T:Yc} {b:Array (Nat×Yf)} (e:kuv P c s T b.toList Kf=some r):Res P κ ln z c s env h n ⟨d,.build T b,ty,pos,after,g⟩ Kf r:=by
 unfold kuv at e;split at e
 ·rename_i j Ts pl hz hT hp;split at e
  ·rename_i hl;simp only at e;have f:=kkY hz;obtain ⟨κ',ln',k,h1,h2,A,t,l,_⟩:=khi j Ts R f hl;split at e
   ·rename_i vs u;have i:∀ x,TVR P κ' ln' z (zeroC P s j Ts).2.n (tev c s x) (ev env x):=λx=>by rw [<-kwF (c:=c) A]; exact k.ev x
    obtain ⟨bs,k1,k2,k3⟩:=klD i b.toList _ j h1 (λa B=>by obtain ⟨v,rfl,y⟩:=f a B; exact y) u;exact ⟨.ag vs,_,.ag bs,h,n,κ',ln',z,λK e=>kwB hz hp k1 e,e,k,.ag vs bs k2 k3,h2,λid hi=>⟨t id hi,λ_=>l id hi⟩,λm=>by cases m⟩
   ·exact kaa e
  ·exact kaa e
 ·exact kaa e
theorem kkL (R:Rel P κ ln z c s env h n) {t:Ty} (C:t.dat=true):∀ (a:Ya (Nat×Yf)) (j:Nat) {ys:Ya t.den} {ids:Ya Nat} (len:Nat),len=j+a.length->koJ (A:=sem) c s t a j=some (ys,ids)->(∀ id∈ids,∃ B,thp c s id=some B)/\
  ∃ xs:Ya (Ya AV),xs.length=a.length/\(∀ es:Ya (Ya AV),es.length=len->fillE t.wd env a es=some (es.take j++xs))/\SnapE (hz (ows κ ln c s) h z ids) xs (ys.map t.enc)
 | [],j,ys,ids,len,hl,hp=>by
  cases hp;refine ⟨λid hi=>by simp at hi,[],rfl,λes l=>?_,rfl,λq e e' k=>by simp at k⟩;simp only [List.length_nil,Nat.add_zero] at hl;simp [fillE,<-hl,<-l]
 | (i,x)::rest,j,ys,ids,len,hl,hp=>by
  simp only [koJ] at hp;split at hp
  ·rename_i m;subst m;simp only [jaa,jad] at hp;obtain ⟨⟨y,v⟩,F,⟨G,u⟩,hr,l⟩:=hp;cases l;obtain ⟨g0,g1,I⟩:=kbE R (R.ev x) F;obtain ⟨D,L,E⟩:=kko g0 g1;obtain ⟨k0,xs,k1,k2,k3⟩:=kkL R C rest (i+1) len (by simp at hl; omega) hr;refine ⟨λid hi=>?_,D::xs,by simp [k1],λes l=>?_,?_⟩
   ·rcases jaw.1 hi with hi | hi
    ·exact I id hi
    ·exact k0 id hi
   ·have f:i<es.length:=by simp at hl; omega
    simp only [fillE,L];rw [if_pos ⟨by rw [<-E.len,kag t y C],f⟩,k2 (es.set i D) (by simpa using l)];congr 1;rw [List.take_set,List.take_succ_eq_append_getElem f,List.set_append,if_neg (by simp; omega)];simp [Nat.min_eq_left (Nat.le_of_lt f)]
   ·have H:=kdw (o:=ows κ ln c s) (h:=h) (z:=z) (ids:=v) (ids':=v++u) R.zin (λid hi=>by simp [hi]);have J:=kdw (o:=ows κ ln c s) (h:=h) (z:=z) (ids:=u) (ids':=v++u) R.zin (λid hi=>by simp [hi]);have k3:=k3.mono J;refine ⟨by simp [k3.1],λq e e' k b=>?_⟩;cases q with
    | zero=>simp at k b; subst k; subst b; exact E.mono H
    | succ q=>exact k3.2 q e e' (by simpa using k) (by simpa using b)
  ·cases hp
theorem kpj (R:Rel P κ ln z c s env h n) {T:Yc} {len:Nat} {b:Array (Nat×Yf)} (f:klx P c s T len b.toList Kf=some r):Res P κ ln z c s env h n ⟨d,.buildSlice T len b,ty,pos,after,g⟩ Kf r:=by
 unfold klx at f;split at f
 ·exact kaa f
 ·rename_i e U;split at f
  ·rename_i t M X hz;split at f
   ·rename_i y;obtain ⟨D,k,m⟩:=y;have x:=kfg X;split at f
    ·rename_i hl;split at f
     ·rename_i ys ids hp;split at f
      ·rename_i s' C;obtain ⟨k0,xs,k1,k2,k3⟩:=kkL R x b.toList 0 len (by omega) hp;obtain ⟨G,e1,e2,Z,e4,e5⟩:=R.retire C;have u:=k3.1;rw [jaq] at u;have j:∀ l:Ya t.den,lstD (A:=sem) t l=l:=by
        intro l;induction l with
        | nil=>rfl
        | cons a l L=>simp only [lstD]; rw [L]
       rw [j] at f;have i:=kjl (o:=⟨d,.buildSlice T len b,ty,pos,after,g⟩) rfl G x k3 (k3.ones x) (λK f=>?_) f
       ·obtain ⟨W,I,v,h2,F,H,B,Q,g1,J,S,Y,E⟩:=i;exact ⟨W,I,v,h2,F,H,B,Q,g1,J,S,Y,by have:=E.1; omega,λid hi=>E.2.1 id (by omega),λy=>by cases y⟩
       ·simp only [aop,U,hz,m];rw [k2 (List.replicate len M) (by simp)];simp only [jdm,jbc];rw [m] at k;refine ⟨D,k,.inl ?_⟩;rw [show len=ys.length by omega]; exact f
      ·exact kaa f
     ·exact kaa f
    ·exact kaa f
   ·exact kaa f
  ·exact kaa f
theorem kqR (R:Rel P κ ln z c s env h n) {T:Yc} {x y:Yf} (f:kmw P s T (tev c s x) (tev c s y) (kkI x y) Kf=some r):Res P κ ln z c s env h n ⟨d,.makeSlice T x y,ty,pos,after,g⟩ Kf r:=by
 unfold kmw at f;split at f
 ·exact kaa f
 ·rename_i e he;split at f
  ·rename_i t S m ht hz U;split at f
   ·rename_i z0 H;split at f
    ·rename_i W;obtain ⟨hs,G,v,Y,hb⟩:=W;have E:=kfg ht;have M:=R.ev x;rw [U] at M;have i:=M.i_inv;have u:∃ C,ev env y = .sc (.int C m):=by
      unfold kkI at hs;split at hs
      ·rename_i a b;obtain rfl:a=b:=by simpa using hs
       exact ⟨_,i⟩
      ·rename_i k a C b;have L:a=b:=by simpa using hs
       subst L;have:(Value.int k a) = .int .i64 m:=by simpa [ev,cst] using i
       cases this;exact ⟨C,rfl⟩
      ·cases hs
     obtain ⟨C,u⟩:=u;simp only [jaa] at f;obtain ⟨l,D,f⟩:=f;obtain ⟨g1,X,D⟩:=kxj D;obtain ⟨rest,hr,I⟩:=(jct _ _).1 G;obtain rfl:=jcw.1 I;obtain ⟨a,Q,Z⟩:=kek (z:=z) t z0 S [] E H hr;rw [jbe] at Q; subst Q;have A:SnapE z (List.replicate m.toNat S) (l.map t.enc):=by
      rw [D];refine ⟨by simp,λq e e' B j=>?_⟩;rw [jcd] at B;rw [List.map_replicate,jcd] at j;split at B
      ·rename_i J; rw [if_pos J] at j; cases B; cases j; exact Z
      ·cases B
     refine kjl rfl R E A (A.ones E) (λK f=>?_) f;simp only [aop,he,hz,i,u];refine ⟨trivial,g1,X,hb,by rintro rfl; simp at v; omega,?_⟩;have F:l.length=m.toNat:=by rw [D]; simp
     rw [F] at f;rw [v]; exact f
    ·exact kaa f
   ·exact kaa f
  ·exact kaa f
theorem newMp (R:Rel P κ ln z c s env h n) {k v:Ty} (e:isKey k=true) (b:v.flat=true):Rel P (updK κ s.n (some n)) (updK ln s.n 0) z c { s with hp:=(s.n,some (.mp k v []))::s.hp,n:=s.n+1 } env (updH h n (.map [])) (n+1):=
 R.new (.mp k v []) (some n) 0 (λq B a=>by
   unfold updH; rw [if_neg]; ·exact a
   rintro rfl; rw [R.hn _ (jag _)] at a; cases a) (jca _) (λq a=>by cases a; omega) (λq a=>by unfold updH; rw [if_neg (by omega)]; exact R.hn q (by omega))
  (.mp k v [] n e b updK_self (by simp [updH]))
theorem ksv (R:Rel P κ ln z c s env h n) {T:Yc} (a:kqE P s T Kf=some r):Res P κ ln z c s env h n ⟨d,.makeMap T none,ty,pos,after,g⟩ Kf r:=by
 unfold kqE at a;split at a
 ·split at a
  ·split at a
   ·rename_i b;obtain ⟨h1,h2⟩:=b;exact ⟨.mp s.n,_,.mp n,_,_,_,_,_,λK a=>by simp only [aop]; exact a,a,newMp R h1 h2,.mp s.n n (jbl _) updK_self,jca _,λid hi=>⟨kaC hi,λ_=>kaC hi⟩,λb=>by cases b⟩
   ·exact kaa a
  ·exact kaa a
 ·exact kaa a
theorem ked:∀ (k:Ty) (x:k.den),∀ v∈valsK k x,Scal v
 | .i _,x,v,h | .s,x,v,h | .b,x,v,h=>by simp [valsK] at h; subst h; trivial
 | .w a,x,v,h=>ked a x v h
 | .pr a b,x,v,h=>by
  rcases jaw.1 (show v∈valsK a x.1++valsK b x.2 from h) with h | h
  ·exact ked a _ v h
  ·exact ked b _ v h
 | .ar n a,x,v,h=>by
  obtain ⟨l,hl,e⟩:=List.mem_flatten.1 (show v∈(x.l.map (valsK a)).flatten from h);obtain ⟨y,_,rfl⟩:=jbb.1 hl;exact ked a y v e
 | .un,x,v,h | .nt,x,v,h | .sl _,x,v,h | .pt _,x,v,h | .op _,x,v,h | .sm _ _,x,v,h | .fn _ _ _,x,v,h=>by simp [valsK] at h
theorem kun {α β:Type} {f:α->Ya β} {m:Nat} (a:∀ x,(f x).length=m):∀ l:Ya α,(l.map f).flatten.length=l.length*m
 | []=>by simp
 | x::l=>by simp [a,kun a l,jee,Nat.add_comm]
theorem kdr:∀ (k:Ty) (x:k.den),isKey k=true->(valsK k x).length=k.wd
 | .i _,_,_ | .s,_,_ | .b,_,_=>rfl
 | .w a,x,h=>kdr a x h
 | .pr a b,x,h=>by
  simp only [isKey,jac] at h;show (valsK a x.1++valsK b x.2).length=a.wd+b.wd;rw [jbh,kdr a _ h.1,kdr b _ h.2]
 | .ar n a,x,h=>by
  show ((x.l.map (valsK a)).flatten).length=n*a.wd;rw [kun (λy=>kdr a y h),x.h]
theorem kuJ {α β:Type} {f:α->Ya β} {m:Nat} (a:∀ x,(f x).length=m) (hi:∀ x y,f x=f y->x=y):∀ l r:Ya α,l.length=r.length->(l.map f).flatten=(r.map f).flatten->l=r
 | [],[],_,_=>rfl
 | [],_::_,h,_=>by simp at h
 | _::_,[],h,_=>by simp at h
 | x::l,y::r,h,e=>by
  simp only [jap,List.flatten_cons] at e;obtain ⟨i,b⟩:=List.append_inj e (by rw [a,a]);rw [hi x y i,kuJ a hi l r (by simpa using h) b]
theorem kjB:∀ (k:Ty) (x y:k.den),isKey k=true->valsK k x=valsK k y->x=y
 | .i _,x,y,_,h=>by simpa [valsK] using h
 | .s,x,y,_,h=>by
  simp only [valsK,List.cons.injEq,and_true] at h;have:=(kyz x y);rw [show ks x=ks y from h] at this;exact of_decide_eq_true (this.symm.trans (by rw [kyz]; simp))
 | .b,x,y,_,h=>by simpa [valsK] using h
 | .w a,x,y,hk,h=>kjB a x y hk h
 | .pr a b,x,y,hk,h=>by
  simp only [isKey,jac] at hk;obtain ⟨f,e⟩:=List.append_inj (show valsK a x.1++valsK b x.2=valsK a y.1++valsK b y.2 from h) (by rw [kdr a _ hk.1,kdr a _ hk.1]);exact Prod.ext (kjB a _ _ hk.1 f) (kjB b _ _ hk.2 e)
 | .ar n a,x,y,hk,h=>by
  have:=kuJ (λz=>kdr a z hk) (λu v=>kjB a u v hk) x.l y.l (by rw [x.h,y.h]) h;cases x; cases y; simp only at this; subst this; rfl
theorem khS:∀ (k:Ty) (x:k.den),isKey k=true->k.enc x=(valsK k x).map .sc
 | .i _,_,_ | .s,_,_ | .b,_,_=>rfl
 | .w a,x,h=>khS a x h
 | .pr a b,x,h=>by
  simp only [isKey,jac] at h;show a.enc x.1++b.enc x.2=(valsK a x.1++valsK b x.2).map .sc;rw [jcm,khS a _ h.1,khS b _ h.2]
 | .ar n a,x,h=>by
  show (x.l.map a.enc).flatten=((x.l.map (valsK a)).flatten).map .sc;rw [List.map_flatten,List.map_map];congr 1;exact List.map_congr_left λy _=>khS a y h
theorem kpc {k:Ty} (b:isKey k=true) (a:k.agg=true) (x:k.den):keyV k x = .agg (valsK k x).toArray:=by
 cases k <;> first | rfl | (simp [Ty.agg] at a; done)
theorem koY {k:Ty} (b:isKey k=true) (a:k.agg=false) (x:k.den):valsK k x=[keyV k x]:=by
 cases k <;> first | rfl | (simp [Ty.agg] at a; done) | (simp [isKey] at b; done)
theorem kwR {k:Ty} (f:isKey k=true) (a b:k.den):keyB (keyV k a) (keyV k b)=true↔a=b:=by
 have hi:valsK k a=valsK k b↔a=b:=⟨kjB k a b f,λe=>by rw [e]⟩;cases i:k.agg with
 | true=>
  rw [kpc f i,kpc f i];show keyBL (valsK k a) (valsK k b)=true↔_;rw [kqf (ked k a) (ked k b),hi]
 | false=>
  have sa:=ked k a; have l:=ked k b;rw [koY f i] at sa l;have j:=sa _ (List.mem_singleton_self _);have m:=l _ (List.mem_singleton_self _);rw [kzh (by cases h1:keyV k a <;> rw [h1] at j <;> first | rfl | exact j.elim),kqq j m,<-hi,koY f i,koY f i];simp
theorem kqs {k:Ty} (f:isKey k=true) (a b:k.den) [Decidable (a=b)]:keyB (keyV k a) (keyV k b)=decide (a=b):=by
 have:=kwR f a b;by_cases h:a=b
 ·subst h; rw [(kwR f a a).2 rfl]; simp
 ·have h2:¬ keyB (keyV k a) (keyV k b)=true:=λe=>h (this.1 e);rw [jbk] at h2; rw [h2]; simp [h]
theorem ksb {t:Ty} (b:t.agg=false) (a:isKey t=true):t.wd=1:=by
 cases t <;> first | rfl | (simp [Ty.agg] at b; done) | (simp [isKey] at a; done)
theorem kqd {b:Yc->Ty->Bool} {recC:Yc->Ya Ye->Prop} (a:∀ T t,b T t=true->∀ x:t.den,isKey t=true->recC T (valsK t x)):∀ (j:Ya Field) (o:Nat) (t:Ty) (x:t.den),keyFs P b j o t=true->isKey t=true->OkFs P recC j o (valsK t x)
 | [],o,t,x,h,_=>by simp [keyFs] at h
 | [f],o,t,x,h,hk=>by
  simp only [keyFs,jac,jaj,bne_iff_ne,ne_eq] at h;obtain ⟨⟨⟨⟨h1,h2⟩,i⟩,k⟩,l⟩:=h;exact ⟨valsK t x,[],by simp,h1,h2,by rw [kdr t x hk,i],⟨_,k,λe=>by rw [i]; exact ksb e hk⟩,a _ _ l x hk,rfl⟩
 | f::g::j,o,t,x,h,hk=>by
  cases t <;> simp only [keyFs,jac,jaj,bne_iff_ne,ne_eq,jai] at h;rename_i u v;obtain ⟨⟨⟨⟨⟨h1,h2⟩,i⟩,k⟩,l⟩,m⟩:=h;simp only [isKey,jac] at hk;refine ⟨valsK u x.1,valsK v x.2,rfl,h1,h2,by rw [kdr u _ hk.1,i],⟨_,k,λe=>by rw [i]; exact ksb e hk.1⟩,a _ _ l _ hk.1,?_⟩;rw [i];exact kqd a (g::j) _ v x.2 m hk.2
theorem kmC:∀ (d:Nat) (T:Yc) (t:Ty),keyTF P d T t=true->∀ x:t.den,isKey t=true->OkC P d T (valsK t x)
 | 0,T,t,h,_,_=>by simp [keyTF] at h
 | d+1,T,t,h,x,a=>by
  unfold keyTF at h;unfold OkC;split at h
  ·rename_i hT; simp only [hT]; simp only [jaj] at h; subst h; exact ⟨_,rfl⟩
  ·rename_i hT; simp only [hT]; simp only [jaj] at h; subst h; exact ⟨_,rfl⟩
  ·rename_i hT; simp only [hT]; simp only [jaj] at h; subst h; exact ⟨_,rfl⟩
  ·rename_i v hT;simp only [hT];simp only [jac,jbd] at h;refine ⟨h.1,?_⟩;have h2:=h.2;split at h2
   ·rename_i f u b;rw [b];exact kqd (λT t h x a=>kmC d T t h x a) [f] 0 u x h2 a
   ·cases h2
   ·exact kqd (λT t h x a=>kmC d T t h x a) _ 0 _ _ h2 a
  ·rename_i n e hT;simp only [hT];split at h
   ·rename_i m u;simp only [jac,jaj] at h;obtain ⟨⟨⟨h1,h2⟩,k⟩,j⟩:=h;refine ⟨⟨_,k,λe=>by rw [h2]; exact ksb e a⟩,x.l.map (valsK u),by rw [jaq,x.h,h1],rfl,λc i=>?_⟩;obtain ⟨y,_,rfl⟩:=jbb.1 i;exact ⟨by rw [kdr u y a,h2],kmC d e u j y a⟩
   ·cases h
  ·cases h
theorem klT {kt:Yc} {k:Ty} (e:isKey k=true) (h:keyT P kt k=true) (a:k.den):kbu P kt (keyV k a):=by
 cases b:k.agg with
 | true=>
  have:aggO P kt=some true/\keyTF P 9 kt k=true:=by
   cases k <;> first | (simp [Ty.agg] at b; done) | (simp only [keyT,jac,jaj] at h; exact ⟨h.1.2,h.2⟩)
  rw [kpc e b];exact ⟨this.1,kmC 9 kt k this.2 a e⟩
 | false=>
  cases k <;> first | (simp [Ty.agg] at b; done) | (simp [isKey] at e; done) | skip
  ·simpa [keyV,kbu,keyT] using h
  ·simpa [keyV,kbu] using kre h
  ·simpa [keyV,kbu,ks] using khJ h
theorem kpU {z:AH}:∀ {l:Ya AV} {vs:Ya Ye},SnapL z l (vs.map .sc)->l=vs.map .sc
 | [],[],_=>rfl
 | [],_::_,h=>by cases h
 | _::_,[],h=>by cases h
 | a::l,v::vs,h=>by
  cases h with
  | cons h1 h2=>rw [h1.sc_inv,kpU h2]; rfl
theorem kyc:∀ l:Ya Ye,scV (l.map .sc)=some l
 | []=>rfl
 | v::l=>by simp only [jap,scV,kyc l]; rfl
theorem kqF {k:Ty} (e:isKey k=true) {v:TV sem} {a:AV} (R:Rel P κ ln z c s env h n) (f:TVR P κ ln z s.n v a) {x:k.den} {ids:Ya Nat} (hs:snapV (A:=sem) c s k v=some (x,ids)):keyA a=some (keyV k x):=by
 obtain ⟨_,h1,_⟩:=kbE R f hs;cases b:k.agg with
 | true=>
  have:k.av x = .ag (k.enc x):=by unfold Ty.av; rw [if_pos b]
  rw [this] at h1;obtain ⟨cs,rfl,h2⟩:=h1.ag_inv;rw [khS k x e] at h2;rw [kpU h2,kpc e b];show (scV _).map _=_;rw [kyc]; rfl
 | false=>
  have:k.av x = .sc (keyV k x):=by
   unfold Ty.av; rw [if_neg (by simp [b]),khS k x e,koY e b]; rfl
  rw [this] at h1;rw [h1.sc_inv]; rfl
theorem kcY:∀ {v:Ty},v.flat=true->v.dat=true
 | .i _,_ | .b,_ | .s,_ | .un,_=>rfl
 | .w t,h=>kcY (v:=t) h
 | .pr t u,h=>by simp only [Ty.flat,jac] at h; simp [Ty.dat,kcY h.1,kcY h.2]
theorem kmZ:∀ (v:Ty) (x:v.den),v.flat=true->∃ vs:Ya Ye,v.enc x=vs.map .sc/\∀ w∈vs,w.oneCell'=true
 | .i k,x,_=>⟨[.int k x],rfl,by simp [Value.oneCell']⟩
 | .b,x,_=>⟨[.bool x],rfl,by simp [Value.oneCell']⟩
 | .s,x,_=>⟨[ks x],rfl,by simp [Value.oneCell']⟩
 | .un,x,_=>⟨[],rfl,by simp⟩
 | .w t,x,h=>kmZ t x h
 | .pr t u,x,h=>by
  simp only [Ty.flat,jac] at h;obtain ⟨a,l,g1⟩:=kmZ t x.1 h.1;obtain ⟨b,j,f⟩:=kmZ u x.2 h.2;refine ⟨a++b,by show t.enc x.1++u.enc x.2=_; rw [l,j,jcm],λw e=>?_⟩;rcases jaw.1 e with e | e
  ·exact g1 w e
  ·exact f w e
theorem kkk {v:Ty} (b:v.flat=true) {x:v.den} {a:AV} {z:AH} (h:Snap z a (v.av x)):a=v.av x:=by
 obtain ⟨vs,e,_⟩:=kmZ v x b;cases f:v.agg with
 | true=>
  have j:v.av x = .ag (v.enc x):=by unfold Ty.av; rw [if_pos f]
  rw [j] at h ⊢;obtain ⟨cs,rfl,h2⟩:=h.ag_inv;rw [e] at h2 ⊢;rw [kpU h2]
 | false=>
  have:∃ w,v.av x = .sc w:=by
   cases v <;> simp [Ty.flat,Ty.agg] at b f <;> exact ⟨_,rfl⟩
  obtain ⟨w,i⟩:=this;rw [i] at h ⊢;exact h.sc_inv
theorem ksa {v:Ty} (a:v.flat=true) (x:v.den):(v.av x).vl=true:=by
 cases v <;> simp [Ty.flat] at a <;> rfl
theorem zv_ok {e:Yc} {v:Ty} (l:v.flat=true) {j:v.den} (hz:zeroD (A:=sem) v=some j) (b:(zvO P e).any (zvOk v)=true):∃ u,zvO P e=some u/\cst u=v.av j:=by
 obtain ⟨u,x,b⟩:=(jct _ _).1 b;refine ⟨u,x,?_⟩;unfold zvOk at b;split at b
 ·rename_i cs t;simp only [jac] at b;obtain ⟨rest,hr,i⟩:=(jct _ _).1 b.2;obtain rfl:=jcw.1 i;obtain ⟨a,k,f⟩:=kek (z:=λ_=>none) v j _ _ (kcY l) hz hr;rw [jbe] at k; subst k;rw [t];refine kkk l (z:=λ_=>none) ?_;have:v.av j = .ag (v.enc j):=by unfold Ty.av; rw [if_pos b.1]
  rw [this]; exact .agL f
 ·rename_i w m;simp only [jac,jbd] at b;obtain ⟨rest,hr,i⟩:=(jct _ _).1 b.2;obtain rfl:=jcw.1 i;obtain ⟨a,k,f⟩:=kek (z:=λ_=>none) v j _ _ (kcY l) hz hr;rw [jbe] at k; subst k;rw [m];rw [khk b.1 (kcY l)] at f;cases f with
  | cons k1 _=>exact kkk l k1
 ·cases b
theorem ksf {k:Ty} {β:Type} (a:isKey k=true) (l:Ya (k.den×β)) (x:k.den):mgetT k l x = @mget _ _ (kbT k a) l x:=by
 unfold mgetT; rw [dif_pos a]
theorem kAg {k:Ty} {β:Type} (a:isKey k=true) (l:Ya (k.den×β)) (x:k.den) (v:β):mputT k l x v = @mput _ _ (kbT k a) l x v:=by
 unfold mputT; rw [dif_pos a]
theorem ktw (R:Rel P κ ln z c s env h n) {T:Yc} {m key:Yf} {ok:Bool} {u v:TV sem} (J:TVR P κ ln z s.n u (ev env m)) (U:TVR P κ ln z s.n v (ev env key)) (f:krY P c s T u v ok Kf=some r):Res P κ ln z c s env h n ⟨d,.lookup T m key ok,ty,pos,after,g⟩ Kf r:=by
 unfold krY at f;split at f
 ·rename_i id;split at f
  ·rename_i k w l kt e hB hT;split at f
   ·rename_i x I S C;simp only at f;split at f
    ·rename_i Q;obtain ⟨j,Y,H,W⟩:=Q;have L:=kcY H;obtain ⟨M,E,D⟩:=zv_ok H C W;have A:=kqF j R U S;generalize G:ev env m=a at J;cases R.blk _ _ hB with
     | mp _ _ _ q _ _ X Z=>
      cases J with
      | mp _ q' hN t=>
       rw [X] at t; cases t;have B:h q=some (.map (List.map (kvE (keyV k) w.av) l)):=Z;have i:∀ y:w.den,TVR P κ ln z s.n (.c w y) (w.av y):=λy=>.free L;have key:=λ(F:AV->Prop) hF=>@lkK P h _ _ (kbT k j) T kt e q (ev env key) l (keyV k) w.av x I M ok F A hT E D (λa b=>@kqs _ j a b (kbT k j a b)) (klT j Y) B hF;cases ok with
       | true=>
        simp only [if_true] at f;refine R.q (λK f=>?_) (.tp _ [w.av ((mgetT k l x).getD I),.sc (.bool (mgetT k l x).isSome)] (.cons _ _ _ _ (i _) (.cons _ _ _ _ (.bool _) .nil))) f;simp only [aop,G];refine key _ ?_;simp only [if_true];rw [<-ksf j]; exact f
       | false=>
        simp only [jai,if_false] at f;refine R.q (λK f=>?_) (i _) f;simp only [aop,G];refine key _ ?_;simp only [jai,if_false];rw [<-ksf j]; exact f
    ·exact kaa f
   ·exact kaa f
  ·exact kaa f
 ·exact kaa f
theorem ktv (R:Rel P κ ln z c s env h n) {T:Yc} {m key x:Yf} {u v w:TV sem} (M:TVR P κ ln z s.n u (ev env m)) (X:TVR P κ ln z s.n v (ev env key)) (W:TVR P κ ln z s.n w (ev env x)) (j:ksF P c s T u v w Kf=some r):Res P κ ln z c s env h n ⟨d,.mapUpdate T m key x,ty,pos,after,g⟩ Kf r:=by
 unfold ksF at j;split at j
 ·rename_i id;split at j
  ·rename_i k w' l kt e hB hT;split at j
   ·rename_i y D S I;split at j
    ·rename_i E;obtain ⟨t,L⟩:=E;have B:=kqF t R X S;generalize Q:ev env m=a at M;cases R.blk _ _ (kab hB) with
     | mp _ _ _ q _ G H Y=>
      cases M with
      | mp _ q' hN A=>
       rw [H] at A; cases A;obtain ⟨_,J,_⟩:=kbE R W I;have C:ev env x=w'.av D:=kkk G J;have F:h q=some (.map (List.map (kvE (keyV k) w'.av) l)):=Y;have f:=@kop _ _ (kbT k t) _ w'.av (λa b=>@kqs _ t a b (kbT k t a b)) y D l [];refine ⟨.ud,_,.ud,updH h q (.map ((mputT k l y D).map (kvE (keyV k) w'.av))),n,κ,ln,z,λK j=>?_,j,R.set hB H (.mp k w' _ q t G H (by simp only [updH,if_true])),.ud,jag _,λ_ _=>⟨rfl,λ_=>rfl⟩,λE=>by cases E⟩;simp only [aop,Q,C,kkr,B,hT,F];refine ⟨klT t L y,λx U=>?_,ksa G D,?_⟩
       ·obtain ⟨p,_,rfl⟩:=jbb.1 U; exact klT t L _
       ·rw [kAg t] at j;simp only [List.length_nil,jbc] at f;generalize findA (keyV k y) (List.map (kvE (keyV k) w'.av) l) 0=Z at f ⊢;cases Z with
        | none=>simp only at f ⊢; rw [f]; exact j
        | some q=>obtain ⟨i,a⟩:=q; simp only at f ⊢; rw [f]; exact j
    ·exact kaa j
   ·exact kaa j
  ·exact kaa j
 ·exact kaa j
theorem ksV {κ β:Type} [DecidableEq κ] {f:κ->Ye} {vf:β->AV} (e:∀ a b,keyB (f a) (f b)=decide (a=b)) (k:κ):∀ (E:Ya (κ×β)) (i:Nat),findA (f k) (E.map (kvE f vf)) i=(mget E k).map λv=>(i+midxN k E,vf v)
 | [],i=>rfl
 | p::r,i=>by
  simp only [jap,findA,mget,midxN,e,jaj];split
  ·rfl
  ·rw [ksV e k r (i+1)];cases mget r k with
   | none=>rfl
   | some v=>simp only [jck]; congr 2; omega
theorem krb {κ β:Type} [DecidableEq κ] (k:κ):∀ (E:Ya (κ×β)),mget E k=none->midxN k E=E.length
 | [],_=>rfl
 | p::r,h=>by
  simp only [mget] at h;split at h
  ·cases h
  ·rename_i a; simp only [midxN,if_neg a,krb k r h,jcv]
theorem ktH (R:Rel P κ ln z c s env h n) {T:Yc} {m key:Yf} {u v:TV sem} (U:TVR P κ ln z s.n u (ev env m)) (hv:TVR P κ ln z s.n v (ev env key)) (f:ksE P c s T u v Kf=some r):Res P κ ln z c s env h n ⟨d,.mapEntry T m key,ty,pos,after,g⟩ Kf r:=by
 unfold ksE at f;split at f
 ·rename_i id;split at f
  ·rename_i k w l kt e hB hT;split at f
   ·rename_i x B D H;split at f
    ·rename_i C;obtain ⟨i,S,L,c5⟩:=C;have W:=kcY L;obtain ⟨zv,J,I⟩:=zv_ok L H c5;have A:=kqF i R hv D;generalize X:ev env m=a at U;cases R.blk _ _ (kab hB) with
     | mp _ _ _ q _ M F hh=>
      cases U with
      | mp _ q' hN t=>
       rw [F] at t; cases t;have E:h q=some (.map (List.map (kvE (keyV k) w.av) l)):=hh;have j:∀ y:w.den,TVR P κ ln z s.n (.c w y) (w.av y):=λy=>.free W;have G:=@ksV _ _ (kbT k i) _ w.av (λa b=>@kqs _ i a b (kbT k i a b)) x l 0;refine ⟨_,_,.tp [w.av ((mgetT k l x).getD B),.sc (.int .i64 (midxT k l x))],updH h q (.map ((mentT k l x B).map (kvE (keyV k) w.av))),n,κ,ln,z,λK f=>?_,f,R.set hB F (.mp k w _ q i M F (by simp only [updH,if_true])),.tp _ _ (.cons _ _ _ _ (j _) (.cons _ _ _ _ (.int _ _) .nil)),jag _,λ_ _=>⟨rfl,λ_=>rfl⟩,λC=>by cases C⟩;simp only [aop,X,kmf,A,hT,E];refine ⟨klT i S x,λx D=>?_,?_⟩
       ·obtain ⟨p,_,rfl⟩:=jbb.1 D; exact klT i S _
       ·rw [G];have e1:mgetT k l x = @mget _ _ (kbT k i) l x:=ksf i l x;have Z:midxT k l x=((@midxN _ _ (kbT k i) x l:Nat):Int):=by unfold midxT; rw [dif_pos i]; rfl
        have Y:mentT k l x B = @ment _ _ (kbT k i) l x B:=by unfold mentT; rw [dif_pos i]
        rw [e1,Z,Y] at f;unfold ment at f;have Q:=@krb _ w.den (kbT k i) x l;generalize @mget _ _ (kbT k i) l x=gg at f Q ⊢;cases gg with
        | some v0=>
         simp only [jck,jcb,jcf] at f ⊢;exact f
        | none=>
         simp only [Option.map_none,Option.getD_none,J] at f ⊢;rw [Q rfl] at f;rw [I];refine ⟨ksa M _,?_⟩;rw [jcm] at f;simpa using f
    ·exact kaa f
   ·exact kaa f
  ·exact kaa f
 ·exact kaa f
theorem kvR (R:Rel P κ ln z c s env h n) {T:Yc} {m st x:Yf} {u v w:TV sem} (H:TVR P κ ln z s.n u (ev env m)) (G:TVR P κ ln z s.n v (ev env st)) (M:TVR P κ ln z s.n w (ev env x)) (e:kvv c s u v w Kf=some r):Res P κ ln z c s env h n ⟨d,.entryStore T m st x,ty,pos,after,g⟩ Kf r:=by
 unfold kvv at e;split at e
 ·rename_i id;split at e
  ·rename_i k w' l hB;split at e
   ·rename_i i D hi C;obtain ⟨W,U,e⟩:=jaa.1 e;generalize I:ev env m=a at H;cases R.blk _ _ (kab hB) with
    | mp _ _ _ q Q A B S=>
     cases H with
     | mp _ X hN f=>
      rw [B] at f; cases f;obtain ⟨_,E,_⟩:=kbE R M C;have j:ev env x=w'.av D:=kkk A E;have F:ev env st = .sc (.int .i64 i):=by
       unfold kfo at hi;split at hi
       ·cases hi;generalize ev env st=b at G;cases G with
        | c _ _ _ _ hs=>exact hs.sc_inv
       ·cases hi
      have y:h q=some (.map (List.map (kvE (keyV k) w'.av) l)):=S;obtain ⟨L,t⟩:=klU U;refine ⟨.ud,_,.ud,updH h q (.map ((mset l i D).map (kvE (keyV k) w'.av))),n,κ,ln,z,λK e=>?_,e,R.set hB B (.mp k w' _ q Q A B (by simp only [updH,if_true])),.ud,jag _,λ_ _=>⟨rfl,λ_=>rfl⟩,λJ=>by cases J⟩;simp only [aop,I,j,F,kov,y];refine ⟨L,ksa A D,kvE (keyV k) w'.av W,by rw [jas,t]; rfl,?_⟩;unfold mset at e;rw [t] at e;simp only at e;rw [List.map_set] at e;exact e
   ·exact kaa e
  ·exact kaa e
 ·exact kaa e
end
section
variable {P:Yd} {κ κ':Nat->Yb Nat} {ln ln':Nat->Nat} {z z':AH} {c:Cx sem} {s:TS sem} {env:Env} {h h':AH} {n n' N N':Nat}
mutual
theorem TVR.has_lt:∀ {v:TV sem} {a:AV},TVR P κ ln z N v a->∀ id,v.has id=true->id<N
 | _,_,.un _,id,h | _,_,.gs _ _,id,h | _,_,.ud,id,h | _,_,.c _ _ _ _ _,id,h | _,_,.kb _,id,h | _,_,.sc _ _,id,h | _,_,.fq _ _ _ _ _ _,id,h | _,_,.cv _ _ _ _ _ _,id,h=>by simp [TV.has] at h
 | _,_,.ptr i j q hN _,id,h | _,_,.adr i _ j q hN _ _ _,id,h | _,_,.aa i _ q hN _ _ _,id,h | _,_,.mw0 i hN _,id,h | _,_,.mw i q hN _,id,h | _,_,.ms0 i _ _ hN _ _ _,id,h | _,_,.ms i _ _ q hN _ _ _ _,id,h | _,_,.mp i q hN _,id,h | _,_,.fw0 i hN _,id,h | _,_,.fw i q hN _,id,h | _,_,.fr0 i _ _ hN _ _,id,h | _,_,.fr i _ _ _ hN _ _,id,h | _,_,.fo i _ _ _ hN _ _ _,id,h | _,_,.fa i _ _ _ _ _ hN _ _ _ _,id,h | _,_,.yl i _ hN _,id,h | _,_,.kp i hN,id,h=>by
  simp only [TV.has,beq_iff_eq] at h; omega
 | _,_,.fn g vs as hs,id,h=>TVRs.has_lt hs id h
 | _,_,.tp vs as hs,id,h=>TVRs.has_lt hs id h
 | _,_,.ag vs as hs _,id,h=>TVRs.has_lt hs id h
theorem TVRs.has_lt:∀ {vs:Ya (TV sem)} {as:Ya AV},TVRs P κ ln z N vs as->∀ id,TV.has.hasL id vs=true->id<N
 | _,_,.nil,id,h=>by simp [TV.has.hasL] at h
 | _,_,.cons v a vs as hv hs,id,h=>by
  simp only [TV.has.hasL,jat] at h;rcases h with h | h
  ·exact TVR.has_lt hv id h
  ·exact TVRs.has_lt hs id h
end
mutual
theorem TVR.congr:∀ {v:TV sem} {a:AV},TVR P κ ln z N v a->(∀ id,v.has id=true->κ' id = κ id/\ln' id=ln id/\id<N')->(∀ q B,z q=some B->z' q=some B)->TVR P κ' ln' z' N' v a
 | _,_,.un a,_,_=>.un a
 | _,_,.ud,_,_=>.ud
 | _,_,.gs t l,_,_=>.gs t l
 | _,_,.yl id q hi h,hc,_=>by obtain ⟨h1,h2,e⟩:=hc id (by simp [TV.has]); exact .yl id q e (by rw [h1]; exact h)
 | _,_,.kp id hi,hc,_=>by obtain ⟨h1,h2,e⟩:=hc id (by simp [TV.has]); exact .kp id e
 | _,_,.c t x a hd h,_,hz=>.c t x a hd (h.mono hz)
 | _,_,.kb b,_,_=>.kb b
 | _,_,.sc v h1,_,_=>.sc v h1
 | _,_,.ptr id j q hi h,hc,_=>by obtain ⟨h1,h2,e⟩:=hc id (by simp [TV.has]); exact .ptr id j q e (by rw [h1]; exact h)
 | _,_,.adr id i j q hi h g0 g1,hc,_=>by obtain ⟨h1,h2,e⟩:=hc id (by simp [TV.has]); exact .adr id i j q e (by rw [h1]; exact h) g0 (by rw [h2]; exact g1)
 | _,_,.aa id i q hi h g0 g1,hc,_=>by obtain ⟨h1,h2,e⟩:=hc id (by simp [TV.has]); exact .aa id i q e (by rw [h1]; exact h) g0 (by rw [h2]; exact g1)
 | _,_,.fq t x o a hd h,_,hz=>.fq t x o a hd (h.mono hz)
 | _,_,.mw0 id hi h,hc,_=>by obtain ⟨h1,h2,e⟩:=hc id (by simp [TV.has]); exact .mw0 id e (by rw [h1]; exact h)
 | _,_,.mw id q hi h,hc,_=>by obtain ⟨h1,h2,e⟩:=hc id (by simp [TV.has]); rw [<-h2]; exact .mw id q e (by rw [h1]; exact h)
 | _,_,.ms0 id o l hi h ho hl,hc,_=>by obtain ⟨h1,h2,e⟩:=hc id (by simp [TV.has]); exact .ms0 id o l e (by rw [h1]; exact h) ho hl
 | _,_,.ms id o l q hi h g0 g1 g2,hc,_=>by obtain ⟨h1,h2,e⟩:=hc id (by simp [TV.has]); exact .ms id o l q e (by rw [h1]; exact h) g0 g1 (by rw [h2]; exact g2)
 | _,_,.mp id q hi h,hc,_=>by obtain ⟨h1,h2,e⟩:=hc id (by simp [TV.has]); exact .mp id q e (by rw [h1]; exact h)
 | _,_,.fw0 id hi h,hc,_=>by obtain ⟨h1,h2,e⟩:=hc id (by simp [TV.has]); exact .fw0 id e (by rw [h1]; exact h)
 | _,_,.fw id q hi h,hc,_=>by obtain ⟨h1,h2,e⟩:=hc id (by simp [TV.has]); rw [<-h2]; exact .fw id q e (by rw [h1]; exact h)
 | _,_,.fr0 id i m hi h0 h,hc,_=>by obtain ⟨h1,h2,e⟩:=hc id (by simp [TV.has]); exact .fr0 id i m e h0 (by rw [h2]; exact h)
 | _,_,.fr id i r m hi h0 h,hc,_=>by obtain ⟨h1,h2,e⟩:=hc id (by simp [TV.has]); exact .fr id i r m e h0 (by rw [h2]; exact h)
 | _,_,.fo id i j q hi h g0 g1,hc,_=>by obtain ⟨h1,h2,e⟩:=hc id (by simp [TV.has]); exact .fo id i j q e (by rw [h1]; exact h) g0 (by rw [h2]; exact g1)
 | _,_,.fa id i k o r m hi h0 h hk hm,hc,_=>by obtain ⟨h1,h2,e⟩:=hc id (by simp [TV.has]); exact .fa id i k o r m e h0 (by rw [h2]; exact h) hk hm
 | _,_,.fn g vs as h,hc,hz=>.fn g vs as (TVRs.congr h (λid hi=>hc id hi) hz)
 | _,_,.cv m x y F a h,_,_=>.cv m x y F a h
 | _,_,.tp vs as h,hc,hz=>.tp vs as (TVRs.congr h (λid hi=>hc id hi) hz)
 | _,_,.ag vs as h h1,hc,hz=>.ag vs as (TVRs.congr h (λid hi=>hc id hi) hz) h1
theorem TVRs.congr:∀ {vs:Ya (TV sem)} {as:Ya AV},TVRs P κ ln z N vs as->(∀ id,TV.has.hasL id vs=true->κ' id = κ id/\ln' id=ln id/\id<N')->(∀ q B,z q=some B->z' q=some B)->TVRs P κ' ln' z' N' vs as
 | _,_,.nil,_,_=>.nil
 | _,_,.cons v a vs as h hs,hc,hz=>.cons v a vs as (TVR.congr h (λid hi=>hc id (by simp [TV.has.hasL,hi])) hz) (TVRs.congr hs (λid hi=>hc id (by simp [TV.has.hasL,hi])) hz)
end
theorem BR.congr {id:Nat} {B:TB sem} (I:BR P κ ln z h N id B) (hi:κ' id = κ id/\ln' id=ln id) (C:∀ i,B.has i=true->κ' i = κ i/\ln' i=ln i/\i<N') (hz:∀ q B,z q=some B->z' q=some B):BR P κ' ln' z' h N' id B:=by
 cases I with
 | bx T vs q as a hB f h1=>exact .bx T vs q as (by rw [hi.1]; exact a) hB (f.congr (λi h=>C i h) hz) h1
 | el T t x q cs b a hB f h1 hl=>exact .el T t x q cs b (by rw [hi.1]; exact a) hB (f.mono hz) h1 (by rw [hi.2]; exact hl)
 | sl0 T t l b a hl hn=>exact .sl0 T t l b (by rw [hi.1]; exact a) hl (by rw [hi.2]; exact hn)
 | sl T t l q es b a hB f h1 hn=>exact .sl T t l q es b (by rw [hi.1]; exact a) hB (f.mono hz) h1 (by rw [hi.2]; exact hn)
 | mp k v l q G E a hB=>exact .mp k v l q G E (by rw [hi.1]; exact a) hB
 | si x q a m hB=>exact .si x q (by rw [hi.1]; exact a) m hB
 | fm0 T t j U u l y b a hl hn=>exact .fm0 T t j U u l y b (by rw [hi.1]; exact a) hl (by rw [hi.2]; exact hn)
 | fm T t j U u l y q es b a hB hn hl f m h1=>exact .fm T t j U u l y q es b (by rw [hi.1]; exact a) hB (by rw [hi.2]; exact hn) hl (λi x e H h2 F D A=>(f i x e H h2 F (by rw [<-hi.2]; exact D) A).mono hz λ_ _ _ h=>h) (by rw [hi.2]; exact m) h1
theorem BR.has_lt {id:Nat} {B:TB sem} (b:BR P κ ln z h N id B):∀ i,B.has i=true->i<N:=by
 intro i hi;cases b with
 | bx T vs q as e hB a h1=>exact a.has_lt i hi
 | _=>simp [TB.has] at hi
structure MExt (m m':Mt sem):Prop where
 ids:∀ p q,alk m.ids p=some q->alk m'.ids p=some q
 sn:∀ x∈m.sn,x∈m'.sn
theorem MExt.refl (m:Mt sem):MExt m m:=⟨λ_ _ h=>h,λ_ h=>h⟩
theorem MExt.trans {m a b:Mt sem} (h:MExt m a) (g:MExt a b):MExt m b:=⟨λp q e=>g.ids p q (h.ids p q e),λx e=>g.sn x (h.sn x e)⟩
theorem kil {m j:Mt sem} {p q:Nat} (h:m.bindId p q=some j):MExt m j/\alk j.ids p=some q/\j.cs=m.cs/\j.sn=m.sn/\(∀ x y a,alk j.ids x=some a->alk j.ids y=some a->(∀ x y a,alk m.ids x=some a->alk m.ids y=some a->x=y)->x=y):=by
 unfold Mt.bindId at h;split at h
 ·rename_i u t;split at h
  ·rename_i e; cases h; subst e;exact ⟨.refl _,t,rfl,rfl,λx y a i b hi=>hi x y a i b⟩
  ·cases h
 ·rename_i t;split at h
  ·rename_i f;cases h;have mem:∀ (l:Ya (Nat×Nat)) (x a:Nat),alk l x=some a->∃ y∈l,y.2=a:=by
    intro l;induction l with
    | nil=>intro x a h; simp [alk] at h
    | cons y l v=>
     intro x a h;simp only [alk] at h;split at h
     ·cases h; exact ⟨y,by simp,rfl⟩
     ·obtain ⟨w,k,e⟩:=v x a h; exact ⟨w,by simp [k],e⟩
   refine ⟨⟨λA u e=>?_,λx h=>h⟩,by simp [alk],rfl,rfl,λx y a i b hi=>?_⟩
   ·simp only [alk];rw [if_neg (by rintro rfl; rw [t] at e; cases e)]; exact e
   ·simp only [alk] at i b;split at i
    ·rename_i C;split at b
     ·rename_i B; omega
     ·cases i;obtain ⟨w,k,e⟩:=mem _ _ _ b;have:=jam.1 f w k;simp [e] at this
    ·split at b
     ·cases b;obtain ⟨w,k,e⟩:=mem _ _ _ i;have:=jam.1 f w k;simp [e] at this
     ·exact hi x y a i b
  ·cases h
structure Fin (o:Nat->List Nat) (κ:Nat->Option Nat) (ln:Nat->Nat) (h z:AH) (m:Mt sem) (κ2:Nat->Option Nat) (ln2:Nat->Nat) (z2:AH) (N2:Nat):Prop where
 k:∀ p q,alk m.ids p=some q->κ2 p = κ q/\ln2 p=ln q/\p<N2
 z:∀ q B,hz o h z m.sn q=some B->z2 q=some B
theorem Fin.back {o:Nat->Ya Nat} {m j:Mt sem} {t:Nat->Yb Nat} {b:Nat->Nat} {u:AH} {l:Nat} (a:∀ q B,z q=some B->h q=some B) (e:MExt m j) (f:Fin o κ ln h z j t b u l):Fin o κ ln h z m t b u l:=
 ⟨λp q i=>f.k p q (e.ids p q i),λq B i=>f.z q B (kdw a e.sn q B i)⟩
def Inj (m:Mt sem):Prop:=∀ x y a,alk m.ids x=some a->alk m.ids y=some a->x=y
mutual
theorem ksY (R:Rel P κ ln z c s env h n):∀ (X:PV) {v:TV sem} {a:AV} {m C:Mt sem},TVR P κ ln z s.n v a->mtV c s X v m=some C->
  ∃ new,C.cs=m.cs++new/\MExt m C/\(Inj m->Inj C)/\∀ G A J I,Fin (ows κ ln c s) κ ln h z C G A J I->∀ rest,∃ W,unV X (new++rest)=(W,rest)/\TVR P G A J I W a
 | .un,v,a,m,C,hv,b=>by simp only [mtV,Option.some.injEq] at b; subst b; exact ⟨[],by simp,.refl _,id,λ_ _ _ _ _ rest=>⟨.un,rfl,.un a⟩⟩
 | .ud,v,a,m,C,hv,b=>by
  cases v <;> simp only [mtV,Option.some.injEq,reduceCtorEq] at b;subst b; cases hv;exact ⟨[],by simp,.refl _,id,λ_ _ _ _ _ rest=>⟨.ud,rfl,.ud⟩⟩
 | .gs t,v,a,m,C,hv,b=>by
  cases v <;> simp only [mtV,jad,reduceCtorEq] at b;rename_i t' l;obtain ⟨y,E,rfl⟩:=b;obtain ⟨e,rfl⟩:=kak E;cases e;cases hv;exact ⟨[⟨.sl t,l⟩],rfl,⟨λ_ _ h=>h,λx F=>F⟩,id,λ_ _ _ _ _ rest=>⟨.gs t l,by simp [unV,tcast],.gs t l⟩⟩
 | .c t,v,a,m,C,hv,b=>by
  simp only [mtV,jad] at b;obtain ⟨y,E,rfl⟩:=b;obtain ⟨Y,h1,h2⟩:=kbE R hv E;refine ⟨[⟨t,y.1⟩],rfl,⟨λ_ _ h=>h,λx F=>by simp [F]⟩,id,λG A J I f rest=>⟨.c t y.1,rfl,.c t y.1 a Y (h1.mono λq B D=>f.z q B (kdw R.zin (λi hi=>by simp [hi]) q B D))⟩⟩
 | .sc u,v,a,m,C,hv,b=>by
  cases v <;> simp only [mtV,jdf,Option.some.injEq,reduceCtorEq] at b;rename_i w;obtain ⟨Z,rfl⟩:=b;cases hv with
  | sc _ hw=>
   have e:u=w:=by
    rcases Z with ⟨h1,h2⟩ | ⟨h1,h2⟩
    ·rw [kbh h1,kbh h2]
    ·rw [kln h1,kln h2]
   rw [e];exact ⟨[],by simp,.refl _,id,λ_ _ _ _ _ rest=>⟨.sc w,rfl,.sc w hw⟩⟩
 | .ptr p j,v,a,m,C,hv,b=>by
  cases v <;> simp only [mtV,jdf,reduceCtorEq] at b;obtain ⟨rfl,b⟩:=b;obtain ⟨h1,h2,M,Q,L⟩:=kil b;cases hv with
  | ptr id j q hN D=>exact ⟨[],by simp [M],h1,λhi x y a F E=>L x y a F E hi,λG A J I f rest=>⟨.ptr p j,rfl,by obtain ⟨k1,k2,k3⟩:=f.k p _ h2; exact .ptr p j q k3 (by rw [k1]; exact D)⟩⟩
 | .mw p,v,a,m,C,hv,b=>by
  cases v <;> simp only [mtV,reduceCtorEq] at b;obtain ⟨h1,h2,M,Q,L⟩:=kil b;refine ⟨[],by simp [M],h1,λhi x y a F E=>L x y a F E hi,λG A J I f rest=>⟨.mw p,rfl,?_⟩⟩;obtain ⟨k1,k2,k3⟩:=f.k p _ h2;cases hv with
  | mw0 _ hN D=>exact .mw0 p k3 (by rw [k1]; exact D)
  | mw _ q hN D=>rw [<-k2]; exact .mw p q k3 (by rw [k1]; exact D)
 | .mp p,v,a,m,C,hv,b=>by
  cases v <;> simp only [mtV,reduceCtorEq] at b;obtain ⟨h1,h2,M,Q,L⟩:=kil b;cases hv with
  | mp id q hN D=>exact ⟨[],by simp [M],h1,λhi x y a F E=>L x y a F E hi,λG A J I f rest=>⟨.mp p,rfl,by obtain ⟨k1,k2,k3⟩:=f.k p _ h2; exact .mp p q k3 (by rw [k1]; exact D)⟩⟩
 | .fw p,v,a,m,C,hv,b=>by
  cases v <;> simp only [mtV,reduceCtorEq] at b;obtain ⟨h1,h2,M,Q,L⟩:=kil b;refine ⟨[],by simp [M],h1,λhi x y a F E=>L x y a F E hi,λG A J I f rest=>⟨.fw p,rfl,?_⟩⟩;obtain ⟨k1,k2,k3⟩:=f.k p _ h2;cases hv with
  | fw0 _ hN D=>exact .fw0 p k3 (by rw [k1]; exact D)
  | fw _ q hN D=>rw [<-k2]; exact .fw p q k3 (by rw [k1]; exact D)
 | .fn g vs,v,a,m,C,hv,b=>by
  cases v <;> simp only [mtV,jdf,reduceCtorEq] at b;obtain ⟨rfl,b⟩:=b;cases hv with
  | fn _ us as hs=>
   obtain ⟨new,g1,S,T,U⟩:=klh R vs hs b;refine ⟨new,g1,S,T,λG A J I f rest=>?_⟩;obtain ⟨H,k1,k2⟩:=U G A J I f rest;exact ⟨.fn g H,by simp only [unV,k1],.fn g H as k2⟩
 | .ag vs,v,a,m,C,hv,b=>by
  cases v <;> simp only [mtV,reduceCtorEq] at b;cases hv with
  | ag us as hs h1=>
   obtain ⟨new,g1,S,T,U⟩:=klh R vs hs b;refine ⟨new,g1,S,T,λG A J I f rest=>?_⟩;obtain ⟨H,k1,k2⟩:=U G A J I f rest;exact ⟨.ag H,by simp only [unV,k1],.ag H as k2 h1⟩
theorem klh (R:Rel P κ ln z c s env h n):∀ (e:Ya PV) {vs:Ya (TV sem)} {as:Ya AV} {m j:Mt sem},TVRs P κ ln z s.n vs as->mtL c s e vs m=some j->
  ∃ new,j.cs=m.cs++new/\MExt m j/\(Inj m->Inj j)/\∀ l b u t,Fin (ows κ ln c s) κ ln h z j l b u t->∀ rest,∃ i,unL e (new++rest)=(i,rest)/\TVRs P l b u t i as
 | [],[],_,m,j,.nil,hm=>by simp only [mtL,Option.some.injEq] at hm; subst hm; exact ⟨[],by simp,.refl _,id,λ_ _ _ _ _ rest=>⟨[],rfl,.nil⟩⟩
 | [],_::_,_,m,j,_,hm=>by simp [mtL] at hm
 | _::_,[],_,m,j,_,hm=>by simp [mtL] at hm
 | pv::e,v::vs,_,m,j,.cons _ a _ as hv hvs,hm=>by
  simp only [mtL,jaa] at hm;obtain ⟨J,h1,h2⟩:=hm;obtain ⟨x,D,H,C,E⟩:=ksY R pv hv h1;obtain ⟨k,F,y,B,G⟩:=klh R e hvs h2;refine ⟨x++k,by rw [F,D,jau],H.trans y,λhi=>B (C hi),λl b u t f rest=>?_⟩;obtain ⟨A,k1,k2⟩:=E l b u t (f.back R.zin y) (k++rest);obtain ⟨i,k3,I⟩:=G l b u t f rest;exact ⟨A::i,by simp only [unL,jau,k1,k3],.cons _ _ _ _ k2 I⟩
end
theorem kyx (R:Rel P κ ln z c s env h n) {X:PB} {q p:Nat} {B:TB sem} {m Q:Mt sem} (hB:thp c s q=some B) (a:mtB c s X B m=some Q) :
  ∃ new,Q.cs=m.cs++new/\MExt m Q/\(Inj m->Inj Q)/\∀ E b H G,Fin (ows κ ln c s) κ ln h z Q E b H G->E p = κ q/\b p=ln q->∀ rest,∃ S,unB X (new++rest)=(some S,rest)/\BR P E b H h G p S/\S.isF=B.isF:=by
 have L:=R.blk q B hB;unfold mtB at a;split at a
 ·rename_i T vs T' us;split at a
  ·rename_i e;subst e;cases L with
   | bx _ _ C as A D I h1=>
    obtain ⟨new,g1,g2,g3,g4⟩:=klh R vs I a;refine ⟨new,g1,g2,g3,λE b H G f hp rest=>?_⟩;obtain ⟨M,k1,k2⟩:=g4 E b H G f rest;exact ⟨.bx T M,by simp only [unB,k1],.bx T M C as (by rw [hp.1]; exact A) (by rw [<-k2.len,I.len]; exact D) k2 h1,rfl⟩
  ·cases a
 ·rename_i T t T' t' x;split at a
  ·rename_i e;subst e;simp only [jad] at a;obtain ⟨y,J,rfl⟩:=a;obtain ⟨e,rfl⟩:=kak J;cases e;cases L with
   | el _ _ _ C cs F A D I h1 hl=>
    exact ⟨[⟨t,x⟩],rfl,⟨λ_ _ h=>h,λ_ h=>h⟩,id,λE b H G f hp rest=>⟨.el T t x,by simp [unB,tcast],.el T t x C cs F (by rw [hp.1]; exact A) D (I.mono λq B A=>f.z q B (hz_z R.zin q B A)) h1 (by rw [hp.2]; exact hl),rfl⟩⟩
  ·cases a
 ·rename_i T t T' t' l;split at a
  ·rename_i e;subst e;simp only [jad] at a;obtain ⟨y,J,rfl⟩:=a;obtain ⟨e,rfl⟩:=kak J;cases e;refine ⟨[⟨.sl t,l⟩],rfl,⟨λ_ _ h=>h,λ_ h=>h⟩,id,λE b H G f hp rest=>⟨.sl T t l,by simp [unB,tcast],?_,rfl⟩⟩;cases L with
   | sl0 _ _ _ F A hl hn=>exact .sl0 T t l F (by rw [hp.1]; exact A) hl (by rw [hp.2]; exact hn)
   | sl _ _ _ C es F A D I h1 hn=>exact .sl T t l C es F (by rw [hp.1]; exact A) D (I.mono λq B A=>f.z q B (hz_z R.zin q B A)) h1 (by rw [hp.2]; exact hn)
  ·cases a
 ·rename_i k v k' v' l;simp only [jad] at a;obtain ⟨y,J,rfl⟩:=a;obtain ⟨e,rfl⟩:=kak J;cases e;cases L with
  | mp _ _ _ C hk hf A D=>exact ⟨[⟨.sl (.pr k v),l⟩],rfl,⟨λ_ _ h=>h,λ_ h=>h⟩,id,λE b H G f hp rest=>⟨.mp k v l,by simp [unB,tcast],.mp k v l C hk hf (by rw [hp.1]; exact A) D,rfl⟩⟩
 ·rename_i T t j U u T' t' j' U' u' l;split at a
  ·rename_i e;obtain ⟨rfl,rfl,rfl,rfl⟩:=e;simp only [jad] at a;obtain ⟨y,J,rfl⟩:=a;obtain ⟨e,rfl⟩:=kak J;cases e;refine ⟨[⟨.sl t,l⟩],rfl,⟨λ_ _ h=>h,λ_ h=>h⟩,id,λE b H G f hp rest=>⟨.fm T t j U u l none,by simp [unB,tcast],?_,rfl⟩⟩;cases L with
   | fm0 _ _ _ _ _ _ _ F A hl hn=>exact .fm0 T t j U u l none F (by rw [hp.1]; exact A) hl (by rw [hp.2]; exact hn)
   | fm _ _ _ _ _ _ _ C es F A D hn hl I W h1=>exact .fm T t j U u l none C es F (by rw [hp.1]; exact A) D (by rw [hp.2]; exact hn) hl (λi x e rm h2 h3 Z Y=>(I i x e rm h2 h3 (by rw [<-hp.2]; exact Z) Y).mono (λq B A=>f.z q B (hz_z R.zin q B A)) λ_ _ _ h=>h) (λ_ _ e=>by cases e) h1
  ·cases a
 ·rename_i x;cases a;cases L with
  | si _ C A W D=>exact ⟨[⟨.pr .s (.i .i64),x⟩],rfl,⟨λ_ _ h=>h,λ_ h=>h⟩,id,λE b H G f hp rest=>⟨.si x,by simp [unB,tcast],.si x C (by rw [hp.1]; exact A) W D,rfl⟩⟩
 ·cases a
end
theorem kaD {α:Type}:∀ {l:Ya (Nat×α)} {x:Nat} {v:α},alk l x=some v->(x,v)∈l
 | [],x,v,h=>by simp [alk] at h
 | (k,w)::l,x,v,h=>by
  simp only [alk] at h;split at h
  ·rename_i e; cases h; subst e; simp
  ·exact jax _ (kaD h)
theorem kbF {α:Type}:∀ (l l':Ya (Nat×α)) (x:Nat),alk (l++l') x=match alk l x with | some v=>some v | none=>alk l' x
 | [],l',x=>rfl
 | (k,w)::l,l',x=>by
  simp only [jdp,alk];split
  ·rfl
  ·exact kbF l l' x
theorem kwT {t u:Ty} {ts:Ya Ty} {p:(t:Ty)×t.den} {l:Ya ((t:Ty)×t.den)}:mkT sem (t::u::ts) (p::l)=(tcast (A:=sem) t p.2).bind λx=>(mkT sem (u::ts) l).map λy=>((x,y):t.den×(tup (u::ts)).den):=rfl
section
variable {P:Yd} {κ κ':Nat->Yb Nat} {ln ln':Nat->Nat} {z z':AH} {c:Cx sem} {s:TS sem} {env:Env} {h h':AH} {n n' N N':Nat}
theorem ksr:∀ (ts:Ya Ty) (l:Ya ((t:Ty)×t.den)) (x:(tup ts).den),mkT sem ts l=some x->unT sem ts x=l:=by
 intro ts;induction ts with
 | nil=>
  intro l x h;cases l with
  | nil=>rfl
  | cons p l=>exact kaa (r:=x) h
 | cons t ts i=>
  intro l x h;cases ts with
  | nil=>
   cases l with
   | nil=>exact kaa (r:=x) h
   | cons p l=>
    cases l with
    | nil=>
     obtain ⟨t',y⟩:=p;obtain ⟨e,rfl⟩:=kak h;cases e; rfl
    | cons q l=>exact kaa (r:=x) h
  | cons u ts=>
   cases l with
   | nil=>exact kaa (r:=x) h
   | cons p l=>
    rw [kwT] at h;obtain ⟨j,a,h⟩:=jaa.1 h;obtain ⟨f,b,rfl⟩:=jad.1 h;obtain ⟨t',y⟩:=p;obtain ⟨e,rfl⟩:=kak a;cases e;show _::unT sem (u::ts) f=_::l;rw [i l f b]
theorem kot (R:Rel P κ ln z c s env h n):∀ (l:Ya (Nat×PV)) {m i:Mt sem},mtE c s l m=some i->
  ∃ new,i.cs=m.cs++new/\MExt m i/\(Inj m->Inj i)/\∀ k a u t,Fin (ows κ ln c s) κ ln h z i k a u t->∀ rest,∃ E,unE l (new++rest)=(E,rest)/\(∀ y v,alk E y=some v->TVR P k a u t v (lk env y))/\∀ y,(alk E y).isSome=(alk l y).isSome
 | [],m,i,hm=>by simp only [mtE,Option.some.injEq] at hm; subst hm; exact ⟨[],by simp,.refl _,id,λ_ _ _ _ _ rest=>⟨[],rfl,λy v j=>by simp [alk] at j,λ_=>rfl⟩⟩
 | (x,pv)::l,m,i,hm=>by
  simp only [mtE,jaa] at hm;obtain ⟨S,h1,h2⟩:=hm;obtain ⟨A,H,M,G,I⟩:=ksY R pv (R.env x) h1;obtain ⟨b,J,B,D,L⟩:=kot R l h2;refine ⟨A++b,by rw [J,H,jau],M.trans B,λhi=>D (G hi),λk a u t f rest=>?_⟩;obtain ⟨C,k1,k2⟩:=I k a u t (f.back R.zin B) (b++rest);obtain ⟨E,k3,Q,F⟩:=L k a u t f rest;refine ⟨(x,C)::E,by simp only [unE,jau,k1,k3],λy v j=>?_,λy=>?_⟩
  ·simp only [alk] at j;split at j
   ·rename_i e; cases j; subst e; exact k2
   ·exact Q y v j
  ·simp only [alk];split
   ·rfl
   ·exact F y
theorem kAm {m b:Mt sem} {id:Nat} (h:mtI c m id=some b):b.cs=m.cs/\MExt m b/\(Inj m->Inj b):=by
 unfold mtI at h;split at h
 ·obtain ⟨h1,h2,j,k,e⟩:=kil h;exact ⟨j,h1,λhi x y a i f=>e x y a i f hi⟩
 ·cases h; exact ⟨rfl,.refl _,λh=>h⟩
theorem knL (R:Rel P κ ln z c s env h n):∀ (l:Ya (Nat×PB)) {m j:Mt sem},mtH c s l m=some j->
  ∃ new,j.cs=m.cs++new/\MExt m j/\(Inj m->Inj j)/\∀ C i E D,Fin (ows κ ln c s) κ ln h z j C i E D->∀ rest,∃ H,unH l (new++rest)=(H,rest)/\(∀ id b,alk H id=some b->∃ B q G,b=some B/\alk j.ids id=some q/\alk s.hp q=some (some G)/\BR P C i E h D id B/\B.isF=G.isF)/\∀ y,(alk H y).isSome=(alk l y).isSome
 | [],m,j,a=>by simp only [mtH,Option.some.injEq] at a; subst a; exact ⟨[],by simp,.refl _,id,λ_ _ _ _ _ rest=>⟨[],rfl,λy v u=>by simp [alk] at u,λ_=>rfl⟩⟩
 | (x,pb)::l,m,j,a=>by
  simp only [mtH] at a;obtain ⟨m0,T,a⟩:=jaa.1 a;obtain ⟨Y,W,U⟩:=kAm T;split at a
  ·cases a
  ·rename_i q hq;split at a
   ·rename_i G hB0;simp only [jaa] at a;obtain ⟨m1,h1,h2⟩:=a;obtain ⟨F,Z,M,X,a4⟩:=kyx (p:=x) R (kab hB0) h1;obtain ⟨t,b1,I,Q,b4⟩:=knL R l h2;refine ⟨F++t,by rw [b1,Z,Y,jau],W.trans (M.trans I),λhi=>Q (X (U hi)),λC i E D f rest=>?_⟩;have A:=I.ids _ _ (M.ids _ _ hq);obtain ⟨k0,J,_⟩:=f.k x q A;obtain ⟨L,k1,k2,k6⟩:=a4 C i E D (f.back R.zin I) ⟨k0,J⟩ (t++rest);obtain ⟨H,k3,k4,S⟩:=b4 C i E D f rest;refine ⟨(x,some L)::H,by simp only [unH,jau,k1,k3],λy b u=>?_,λy=>?_⟩
    ·simp only [alk] at u;split at u
     ·rename_i e; cases u; subst e; exact ⟨L,q,G,rfl,A,hB0,k2,k6⟩
     ·exact k4 y b u
    ·simp only [alk];split
     ·rfl
     ·exact S y
   ·cases a
theorem kem {x:Nat} {v:TV sem} (b:alk c.e0 x=some v) {id:Nat} (a:v.has id=true):c.has id=true:=by
 unfold Cx.has;simp only [jat,jbt];exact .inl (.inr ⟨_,kaD b,a⟩)
theorem has_g {id:Nat} {B:TB sem} (a:alk c.g id=some B):c.has id=true:=by unfold Cx.has; simp [a]
theorem ktS {j:Nat} {B:TB sem} (b:alk c.g j=some B) {id:Nat} (a:B.has id=true):c.has id=true:=by
 unfold Cx.has;simp only [jat,jbt];exact .inr ⟨_,kaD b,a⟩
theorem Rel.g_thp (R:Rel P κ ln z c s env h n) {id:Nat} {B:TB sem} (a:alk c.g id=some B):thp c s id=some B:=by
 unfold thp;cases e:alk s.hp id with
 | some b=>have:=R.g _ _ e; rw [a] at this; cases this
 | none=>exact a
theorem Rel.e0_tlk (R:Rel P κ ln z c s env h n) {x:Nat} {v:TV sem} (a:alk c.e0 x=some v):tlk c s x=v:=by
 unfold tlk;cases e:alk s.env x with
 | some b=>have:=R.e0 _ _ e; rw [a] at this; cases this
 | none=>simp [a]
theorem kuz (R:Rel P κ ln z c s env h n) {p:Pat} {x:p.ty.den} (hc:∀ id,c.has id=true->id<N) (hp:pack c N p s=some x) (c2:Cx sem) (J:TS sem) (hN:N<=J.n)
  (hE:∀ y,tlk c2 J y=(match alk (kae (A:=sem) p N x).env y with | some v=>v | none=>(alk c.e0 y).getD .un)\/tlk c2 J y = .un)
  (hH:∀ id B,thp c2 J id=some B->alk (kae (A:=sem) p N x).hp id=some (some B)\/alk c.g id=some B)
  (ap:∀ x v,alk J.env x=some v->alk c2.e0 x=none) (hg:∀ id b,alk J.hp id=some b->alk c2.g id=none) (ay:J.dy=true):∃ L f z2,Rel P L f z2 c2 J env h n/\∀ id,c.has id=true->L id = κ id/\f id=ln id:=by
 unfold pack at hp;obtain ⟨m1,aw,hp⟩:=jaa.1 hp;obtain ⟨m,hm,hp⟩:=jaa.1 hp;obtain ⟨Z,hp⟩:=jdf.1 hp;simp only [jac,jam,jat,jbd,jaj] at Z;obtain ⟨⟨ae,ai⟩,ac⟩:=Z;obtain ⟨aa,a1,a2,a3,a4⟩:=kot R _ aw;obtain ⟨S,b1,b2,b3,b4⟩:=knL R _ hm;simp only [jbc] at a1;have au:m.cs=aa++S:=by rw [b1,a1]
 have X:Inj m:=b3 (a3 (λx y a hx=>by simp [alk] at hx));let L:Nat->Yb Nat:=λid=>match alk m.ids id with | some q=>κ q | none=>κ id
 let f:Nat->Nat:=λid=>match alk m.ids id with | some q=>ln q | none=>ln id
 have C:∀ {p q:Nat},alk m.ids p=some q->L p = κ q/\f p=ln q:=λ{p q} F=>by simp only [L,f,F]; exact ⟨trivial,trivial⟩
 have l:∀ {id:Nat},c.has id=true->L id = κ id/\f id=ln id:=λ{id} hi=>by
  cases F:alk m.ids id with
  | none=>simp only [L,f,F]; exact ⟨trivial,trivial⟩
  | some q=>
   rcases ac _ (kaD F) with e | ⟨_,e⟩
   ·have e:id=q:=e;subst e; exact C F
   ·have e:c.has id=false:=e;rw [e] at hi; cases hi
 have fin:Fin (ows κ ln c s) κ ln h z m L f (hz (ows κ ln c s) h z m.sn) J.n:=⟨λp q F=>⟨(C F).1,(C F).2,jan (ai _ (kaD F)) hN⟩,λq B F=>F⟩;obtain ⟨E,e1,e2,e3⟩:=a4 L f _ J.n (fin.back R.zin b2) S;obtain ⟨H,f1,f2,f3⟩:=b4 L f _ J.n fin [];have af:unT sem p.tys x=aa++S:=by rw [<-au]; exact ksr _ _ _ hp
 rw [jbe] at f1;have ah:(kae (A:=sem) p N x).env=E:=by simp only [kae,af,e1]
 have aq:(kae (A:=sem) p N x).hp=H:=by simp only [kae,af,e1,f1]
 rw [ah] at hE;rw [aq] at hH;have ak:∀ id∈m.sn,∃ B,alk s.hp id=some (some B):=λid hi=>by
  have:=(ae id hi).1.1;cases ho:ownB s id with
  | none=>rw [ho] at this; cases this
  | some B=>exact ⟨B,kdv ho⟩
 have ab:∀ {id q:Nat} {B:TB sem},thp c s id=some B->Ow κ ln id B q->(id∉m.sn)->hz (ows κ ln c s) h z m.sn q=none:=λ{id q B} hB M an=>by
  unfold hz;rw [if_neg]
  ·exact R.owZ hB M
  ·intro Q;obtain ⟨j,D,ax⟩:=jbt.1 Q;obtain ⟨Bj,hBj⟩:=ak j D;have:=R.owI hB (kab hBj) M (kdC (kab hBj) (by simpa using ax));subst this; exact an D
 have Y:∀ {id:Nat} {B:TB sem},alk H id=some (some B)->∃ q t,alk m.ids id=some q/\alk s.hp q=some (some t)/\BR P L f (hz (ows κ ln c s) h z m.sn) h J.n id B/\B.isF=t.isF:=λ{id B} hB=>by
  obtain ⟨B',q,t,g1,u,G,U,g5⟩:=f2 id _ hB;cases g1;exact ⟨q,t,u,G,U,g5⟩
 have I:∀ {id:Nat} {B:TB sem},alk H id=some (some B)->∃ q t,alk m.ids id=some q/\alk s.hp q=some (some t)/\BR P L f (hz (ows κ ln c s) h z m.sn) h J.n id B:=λ{id B} hB=>by
  obtain ⟨q,t,u,G,U,_⟩:=Y hB;exact ⟨q,t,u,G,U⟩
 have am:∀ {id q:Nat},alk m.ids id=some q->q∉m.sn:=λ{id q} F hi=>by
  have:=(ae q hi).2 _ (kaD F);simp at this
 have aj:∀ {id:Nat} {B:TB sem},alk c.g id=some B->id∉m.sn:=λ{id B} hB hi=>by
  have:=(ae id hi).1.2;rw [has_g hB] at this; cases this
 refine ⟨L,f,hz (ows κ ln c s) h z m.sn,⟨λy=>?_,λid B hB=>?_,λid B hB=>?_,λi j B B' q hi D ki kj=>?_,keQ R.zin,λid B q hB M=>?_,λid B q hB M=>?_,R.hn,ap,hg,(λhd=>by rw [ay] at hd; cases hd),λq k T es F e he=>?_,λid B hB hf=>?_⟩,λid hi=>l hi⟩
 ·rcases hE y with hE | hE
  ·rw [hE];split
   ·rename_i v hv; exact e2 y v hv
   ·cases hy:alk c.e0 y with
    | none=>exact .un _
    | some v=>
     simp only [jcb];have:=R.env y;rw [R.e0_tlk hy] at this;exact this.congr (λid hi=>⟨(l (kem hy hi)).1,(l (kem hy hi)).2,jan (hc id (kem hy hi)) hN⟩) (hz_z R.zin)
  ·rw [hE]; exact .un _
 ·rcases hH id B hB with hB | hB
  ·obtain ⟨q,t,u,G,U⟩:=I hB; exact U
  ·exact (R.blk id B (R.g_thp hB)).congr (l (has_g hB)) (λi hi=>⟨(l (ktS hB hi)).1,(l (ktS hB hi)).2,jan (hc i (ktS hB hi)) hN⟩) (hz_z R.zin)
 ·rcases hH id B hB with hB | hB
  ·obtain ⟨q,t,u,G,U⟩:=I hB; exact jan (ai _ (kaD u)) hN
  ·exact jan (hc id (has_g hB)) hN
 ·rcases hH i B hi with hi | hi
  ·obtain ⟨qi,Bi,u,G,U⟩:=I hi;rw [(C u).1] at ki;rcases hH j B' D with D | D
   ·obtain ⟨qj,Bj,k2,k3,k4⟩:=I D;rw [(C k2).1] at kj;have:=R.inj qi qj _ _ q (kab G) (kab k3) ki kj;subst this;exact X i j qi u k2
   ·rw [(l (has_g D)).1] at kj;have:=R.inj qi j _ _ q (kab G) (R.g_thp D) ki kj;subst this;have:=R.g _ _ G;rw [D] at this; cases this
  ·rw [(l (has_g hi)).1] at ki;rcases hH j B' D with D | D
   ·obtain ⟨qj,Bj,k2,k3,k4⟩:=I D;rw [(C k2).1] at kj;have:=R.inj i qj _ _ q (R.g_thp hi) (kab k3) ki kj;subst this;have:=R.g _ _ k3;rw [hi] at this; cases this
   ·rw [(l (has_g D)).1] at kj;exact R.inj i j _ _ q (R.g_thp hi) (R.g_thp D) ki kj
 ·rcases hH id B hB with hB | hB
  ·obtain ⟨q',t,u,G,U⟩:=I hB;rw [(C u).1] at M;exact ab (kab G) (.inl M) (am u)
  ·rw [(l (has_g hB)).1] at M;exact ab (R.g_thp hB) (.inl M) (aj hB)
 ·rcases hH id B hB with hB | hB
  ·obtain ⟨q',t,u,G,U⟩:=I hB;rw [(C u).1] at M;exact R.bnd q' t q (kab G) M
  ·rw [(l (has_g hB)).1] at M;exact R.bnd id B q (R.g_thp hB) M
 ·unfold hz at F;split at F
  ·rename_i Q;obtain ⟨id,ac,ao⟩:=jbt.1 Q;obtain ⟨B,hB⟩:=ak id ac;exact (R.blk id B (kab hB)).elenO (kdC (kab hB) (by simpa using ao)) F e he
  ·exact R.zk q k T es F e he
 ·
  have ad:∀ id B,thp c2 J id=some B->∃ W t,thp c s W=some t/\B.isF=t.isF/\L id = κ W/\f id=ln W/\W∉m.sn/\((alk m.ids id=some W/\alk s.hp W=some (some t))\/(W=id/\alk c.g id=some B)):=λid B hB=>by
   rcases hH id B hB with hB | hB
   ·obtain ⟨q,t,u,G,U,g5⟩:=Y hB;exact ⟨q,t,kab G,g5,(C u).1,(C u).2,am u,.inl ⟨u,G⟩⟩
   ·exact ⟨id,B,R.g_thp hB,rfl,(l (has_g hB)).1,(l (has_g hB)).2,aj hB,.inr ⟨rfl,hB⟩⟩
  obtain ⟨W,t,a0,a1,a2,a3,a4,a5⟩:=ad id B hB;obtain ⟨g1,u⟩:=R.fam W t a0 (by rw [<-a1]; exact hf);rw [a3];refine ⟨g1,λr hr=>?_⟩;obtain ⟨k1,k2,k3,k4⟩:=u r hr;refine ⟨k1,?_,λj B' D=>?_,λj B' D ar al=>?_⟩
  ·exact ab a0 (.inr ⟨by rw [<-a1]; exact hf,hr⟩) a4
  ·obtain ⟨j0,B1,b0,b1,b2,b3,b4,b5⟩:=ad j B' D;rw [b2]; exact k3 j0 B1 b0
  ·obtain ⟨j0,B1,b0,b1,b2,b3,b4,b5⟩:=ad j B' D;rw [b3] at al;have:=k4 j0 B1 b0 (by rw [<-b1]; exact ar) al;subst this;rcases a5 with ⟨a5,a6⟩ | ⟨rfl,a6⟩
   ·rcases b5 with ⟨b5,b6⟩ | ⟨rfl,b6⟩
    ·exact X _ _ _ b5 a5
    ·have:=R.g _ _ a6; rw [b6] at this; cases this
   ·rcases b5 with ⟨b5,b6⟩ | ⟨rfl,b6⟩
    ·have:=R.g _ _ b6; rw [a6] at this; cases this
    ·rfl
end
section
variable {P:Yd} {κ κ':Nat->Yb Nat} {ln ln':Nat->Nat} {z z':AH} {c:Cx sem} {s:TS sem} {env:Env} {h h':AH} {n n' N N':Nat}
variable {w:World} {O:Nat->Prop} {μ:Mu} {p:Nat->Bool}
abbrev ahN:AH:=λ_=>none
theorem kAY {b:Nat} (h:Av O (muP p μ) b):Av O μ b:=by
 rcases h with h | ⟨id,k,h⟩
 ·exact .inl h
 ·exact .inr ⟨id,k,(kaQ h).2⟩
theorem VR.freeP {a:AV} {v:Ye} (i:VR w O μ n a v) (f:Free a):VR w O (muP p μ) n a v:=
 (i.free f (O':=Av O (muP p μ)) λb e=>kAY e).lift λb e=>e
theorem HR.part (hr:HR w O μ h n) (hz:∀ q B,z q=some B->h q=some B/\p q=false):HR w (Av O (muP p μ)) (muP (λi=>!p i) μ) z n:=by
 refine ⟨λb f=>?_,λid b k e=>hr.scope id b k (kaQ e).2,λid a b k l e e'=>hr.inj id a b k l (kaQ e).2 (kaQ e').2,λid b k e hO=>?_,λid B hB=>?_⟩
 ·rcases f with f | ⟨id,k,f⟩
  ·exact hr.olt b f
  ·exact (hr.scope id b k (kaQ f).2).2
 ·obtain ⟨m,j⟩:=kaQ e;rcases hO with hO | ⟨a,l,hO⟩
  ·exact hr.notO id b k j hO
  ·obtain ⟨t,v⟩:=kaQ hO;rw [hr.inj _ _ _ _ _ j v] at m;simp [t] at m
 ·obtain ⟨h1,h2⟩:=hz id B hB;exact (hr.blk id B h1).mapV (by simp only [muP]; rw [if_pos (by simp [h2])]) λu=>u.splitP p
theorem VR.snapP (hr:HR w O μ h n) (hz:∀ q B,z q=some B->h q=some B/\p q=false) {a a':AV} {v:Ye} (hs:Snap z a a') (e:VR w O μ n a v):VR w O (muP p μ) n a' v:=
 ((hs.vr (hr.part hz)) (e.splitP p)).lift λb f=>f
theorem VR.ownP {a:AV} {v:Ye} (f:VR w O μ n a v) (l:(∃ q i j,a = .own q i j)\/(∃ q i j,a = .ms q i j)\/∃ q,a = .mp q):VR w O (muP p μ) n a v:=by
 rcases l with ⟨q,i,j,rfl⟩ | ⟨q,i,j,rfl⟩ | ⟨q,rfl⟩
 ·cases f with | own _ _ _ _ h h1 f=>exact .own _ _ _ _ h h1 λb k e=>f b k (kaQ e).2
 ·cases f with | ms _ _ _ _ h h1 f=>exact .ms _ _ _ _ h h1 λb k e=>f b k (kaQ e).2
 ·cases f with | mp _ _ h h1 f=>exact .mp _ _ h h1 λb k e=>f b k (kaQ e).2
mutual
theorem kwP (hr:HR w O μ h n) (hz:∀ q B,z q=some B->h q=some B/\p q=false):∀ {L:TV sem} {a:AV},TVR P κ ln z N L a->∀ v,VR w O μ n a v->∃ a',TVR P κ ln ahN N L a'/\(a.one=true->a'.one=true)/\VR w O (muP p μ) n a' v
 | _,_,.un a,v,hv=>by
  cases h1:a.one with
  | true=>exact ⟨.sc v,.un _,λ_=>hv.one h1,.sc v (hv.one h1)⟩
  | false=>exact ⟨.un,.un _,λh=>(by cases h),.un v⟩
 | _,_,.ud,v,hv=>⟨.ud,.ud,λh=>h,hv.freeP .ud⟩
 | _,_,.gs t l,v,hv=>⟨_,.gs t l,λh=>h,by cases hv; exact .gs _⟩
 | _,_,.yl id q hi h,v,hv=>⟨_,.yl id q hi h,λh=>h,hv.freeP (.sc _)⟩
 | _,_,.kp id hi,v,hv=>⟨.un,.kp id hi,λh=>h,.un v⟩
 | _,_,.c t x a hd hs,v,hv=>⟨t.av x,.free hd,(λh1=>hs.one h1),VR.snapP hr hz hs hv⟩
 | _,_,.kb b,v,hv=>⟨_,.kb b,λh=>h,hv.freeP (.sc _)⟩
 | _,_,.sc u h1,v,hv=>⟨_,.sc u h1,λh=>h,hv.freeP (.sc _)⟩
 | _,_,.ptr id j q hN hq,v,hv=>⟨_,.ptr id j q hN hq,λh=>h,hv.ownP (.inl ⟨_,_,_,rfl⟩)⟩
 | _,_,.adr id i j q hN hq h0 h1,v,hv=>⟨_,.adr id i j q hN hq h0 h1,λh=>h,hv.ownP (.inl ⟨_,_,_,rfl⟩)⟩
 | _,_,.aa id i q hN hq h0 h1,v,hv=>⟨_,.aa id i q hN hq h0 h1,λh=>h,hv.ownP (.inl ⟨_,_,_,rfl⟩)⟩
 | _,_,.fq t x o a hd hs,v,hv=>⟨.fp ((t.enc x).drop o),.fq t x o _ hd (.free _ ((kiW _).2 λc D=>kbN t x hd c (jdi D))),λ_=>rfl,VR.snapP hr hz hs hv⟩
 | _,_,.mw0 id hN hq,v,hv=>⟨_,.mw0 id hN hq,λh=>h,hv.freeP (.sc _)⟩
 | _,_,.mw id q hN hq,v,hv=>⟨_,.mw id q hN hq,λh=>h,hv.ownP (.inr (.inl ⟨_,_,_,rfl⟩))⟩
 | _,_,.ms0 id off len hN hq ho hl,v,hv=>⟨_,.ms0 id off len hN hq ho hl,λh=>h,hv.freeP (.sc _)⟩
 | _,_,.ms id off len q hN hq h0 h1 h2,v,hv=>⟨_,.ms id off len q hN hq h0 h1 h2,λh=>h,hv.ownP (.inr (.inl ⟨_,_,_,rfl⟩))⟩
 | _,_,.mp id q hN hq,v,hv=>⟨_,.mp id q hN hq,λh=>h,hv.ownP (.inr (.inr ⟨_,rfl⟩))⟩
 | _,_,.fw0 id hN hq,v,hv=>⟨_,.fw0 id hN hq,λh=>h,hv.freeP (.sc _)⟩
 | _,_,.fw id q hN hq,v,hv=>⟨_,.fw id q hN hq,λh=>h,hv.ownP (.inr (.inl ⟨_,_,_,rfl⟩))⟩
 | _,_,.fr0 id i m hN h0 hq,v,hv=>⟨_,.fr0 id i m hN h0 hq,λh=>h,hv.freeP (.sc _)⟩
 | _,_,.fr id i r m hN h0 hq,v,hv=>⟨_,.fr id i r m hN h0 hq,λh=>h,hv.ownP (.inr (.inl ⟨_,_,_,rfl⟩))⟩
 | _,_,.fo id i j q hN hq h0 h1,v,hv=>⟨_,.fo id i j q hN hq h0 h1,λh=>h,hv.ownP (.inl ⟨_,_,_,rfl⟩)⟩
 | _,_,.fa id i k o r m hN h0 hq hk hm,v,hv=>⟨_,.fa id i k o r m hN h0 hq hk hm,λh=>h,hv.ownP (.inl ⟨_,_,_,rfl⟩)⟩
 | _,_,.fn g vs as hs,v,hv=>by
  cases hv with
  | fn _ _ f us I D A=>
   obtain ⟨e,h1,h2,J,H⟩:=kkv hr hz hs us A;refine ⟨.fn g e,.fn g vs e h1,λh=>h,.fn g e f us (by omega) (λj c E=>?_) H⟩;obtain ⟨G,C⟩:=kah h2 E;exact D j G C
 | _,_,.cv m x y F a hcv,v,hv=>⟨a,.cv m x y F a hcv,λh=>h,hv.freeP (by obtain ⟨g,as,rfl,M,_⟩:=hcv; exact (khT _ _).2 M)⟩
 | _,_,.tp vs as hs,v,hv=>by
  cases hv with
  | tp _ f us I D A=>
   obtain ⟨e,h1,h2,J,H⟩:=kkv hr hz hs us A;refine ⟨.tp e,.tp vs e h1,λh=>h,.tp e f us (by omega) (λj c E=>?_) H⟩;obtain ⟨G,C⟩:=kah h2 E;exact D j G C
 | _,_,.ag vs as hs hone,v,hv=>by
  cases hv with
  | ag _ f us I D Q A=>
   obtain ⟨e,h1,h2,J,H⟩:=kkv hr hz hs us A;refine ⟨.ag e,.ag vs e h1 (J hone),λh=>h,.ag e f us (by omega) (λj c E=>?_) (λj c E=>J hone c (jak E)) H⟩;obtain ⟨G,C⟩:=kah h2 E;exact D j G C
theorem kkv (hr:HR w O μ h n) (hz:∀ q B,z q=some B->h q=some B/\p q=false):∀ {vs:Ya (TV sem)} {as:Ya AV},TVRs P κ ln z N vs as->∀ us:Nat->Ye,(∀ (j:Nat) (c:AV),as[j]?=some c->VR w O μ n c (us j))->
  ∃ e,TVRs P κ ln ahN N vs e/\e.length=as.length/\((∀ a∈as,a.one=true)->∀ a∈e,a.one=true)/\∀ (j:Nat) (c:AV),e[j]?=some c->VR w O (muP p μ) n c (us j)
 | _,_,.nil,us,_=>⟨[],.nil,rfl,λ_ a h=>(by cases h),λj a h=>by simp at h⟩
 | _,_,.cons v a vs as hv hs,us,hus=>by
  obtain ⟨a',h1,h2,t⟩:=kwP hr hz hv (us 0) (hus 0 a rfl);obtain ⟨e,g1,m,u,y⟩:=kkv hr hz hs (λj=>us (j+1)) (λj c i=>hus (j+1) c (by simpa using i));refine ⟨a'::e,.cons _ _ _ _ h1 g1,by simp [m],λf b k=>?_,λj b i=>?_⟩
  ·rcases jbq.1 k with rfl | k
   ·exact h2 (f a (by simp))
   ·exact u (λx l=>f x (by simp [l])) b k
  ·cases j with
   | zero=>simp at i; subst i; exact t
   | succ j=>exact y j b (by simpa using i)
end
theorem kmR (hr:HR w O μ h n) (hz:∀ q B,z q=some B->h q=some B/\p q=false) {cs b:Ya AV} (hs:SnapL z cs b):∀ (j:Nat) (a a':AV),cs[j]?=some a->b[j]?=some a'->∀ v,VR w O μ n a v->VR w O (muP p μ) n a' v:=
 λj a a' i e v f=>VR.snapP hr hz (hs.at j a a' i e) f
theorem kzj (hr:HR w O μ h n) (hz:∀ q B,z q=some B->h q=some B/\p q=false) {id q:Nat} {B:TB sem} (S:B.isF=false) (hb:BR P κ ln z h N id B) (E:κ id=some q) (hp:p q=true) :
  ∃ B2,(∀ h2:AH,h2 q=some B2->BR P κ ln ahN h2 N id B)/\BlkAt w O (muP p μ) n q B2:=by
 have D:muP p μ q = μ q:=by simp [muP,hp]
 cases hb with
 | bx T vs q' as A I R h1=>
  rw [E] at A; cases A;obtain ⟨b,M,J,G,L⟩:=hr.blk q _ I;have X:∀ (j:Nat) (c:AV),as[j]?=some c->M[0*vs.length+j]?=some ((M[0*vs.length+j]?).getD undef)/\VR w O μ n c ((M[0*vs.length+j]?).getD undef):=λj c C=>by
   obtain ⟨l1,u,l2,U⟩:=(L 0 as rfl).2 j c C;rw [l2]; exact ⟨rfl,U⟩
  obtain ⟨Y,g1,Z,g3,g4⟩:=kkv hr hz R _ (λj c C=>(X j c C).2);refine ⟨.cells vs.length T [Y],λh2 f=>.bx T vs q Y E f g1 (g3 h1),?_⟩;refine ⟨b,M,D.trans J,G,λi e hi=>?_⟩;cases i with
  | zero=>
   simp at hi; subst hi;obtain ⟨k1,k2⟩:=L 0 as rfl;refine ⟨by rw [Z]; exact k1,λj a C=>?_⟩;obtain ⟨Q,m⟩:=kah Z C;exact ⟨g3 h1 a (jak C),_,(X j Q m).1,g4 j a C⟩
  | succ i=>simp at hi
 | el T t x q' cs F A I R h1 hl=>
  rw [E] at A; cases A;refine ⟨.cells t.wd T [t.enc x],λh2 f=>.el T t x q (t.enc x) F E f (SnapL.free (kbN t x F)) (kbk t x F) hl,?_⟩;obtain ⟨b,M,J,G,L⟩:=hr.blk q _ I;refine ⟨b,M,D.trans J,G,λi e hi=>?_⟩;cases i with
  | zero=>
   simp at hi; subst hi;obtain ⟨k1,k2⟩:=L 0 cs rfl;refine ⟨kag t x F,λj a C=>?_⟩;obtain ⟨Q,m⟩:=kah R.len C;obtain ⟨l1,u,l2,U⟩:=k2 j Q m;exact ⟨kbk t x F a (jak C),u,l2,kmR hr hz R j Q a m C u U⟩
  | succ i=>simp at hi
 | sl0 T t l F A hl hn=>rw [E] at A; cases A
 | sl T t l q' es F A I R h1 hn=>
  rw [E] at A; cases A;have hf:∀ e∈l.map t.enc,FreeL e:=λe he=>by obtain ⟨y,_,rfl⟩:=jbb.1 he; exact kbN t y F
  refine ⟨.cells t.wd T (l.map t.enc),λh2 f=>.sl T t l q _ F E f (SnapE.free hf) (λe he=>by obtain ⟨y,_,rfl⟩:=jbb.1 he; exact kbk t y F) hn,?_⟩;obtain ⟨b,M,J,G,L⟩:=hr.blk q _ I;refine ⟨b,M,D.trans J,G,λi e hi=>?_⟩;obtain ⟨e0,W⟩:=kah R.1 hi;have H:=R.2 i e0 e W hi;obtain ⟨k1,k2⟩:=L i e0 W;refine ⟨by rw [H.len]; exact k1,λj a C=>?_⟩;obtain ⟨Q,m⟩:=kah H.len C;obtain ⟨l1,u,l2,U⟩:=k2 j Q m;exact ⟨(H.at j Q a m C).one l1,u,l2,kmR hr hz H j Q a m C u U⟩
 | mp k v l q' aa hf A I=>
  rw [E] at A; cases A;refine ⟨_,λh2 f=>.mp k v l q aa hf E f,?_⟩;obtain ⟨b,es,J,G,L,e4⟩:=hr.blk q _ I;refine ⟨b,es,D.trans J,G,L,λi x hi=>?_⟩;obtain ⟨e,g1,Z,g3,g4,g5⟩:=e4 i x hi;refine ⟨e,g1,Z,g3,g4,g5.freeP ?_⟩;obtain ⟨y,_,rfl⟩:=jbb.1 (jak hi);exact khL v y.2 (kcY hf)
 | si x q A h0 I=>
  rw [E] at A; cases A;obtain ⟨b,J,G⟩:=hr.blk q _ I;exact ⟨_,λh2 f=>.si x q E h0 f,⟨b,D.trans J,G⟩⟩
 | fm0=>cases S
 | fm=>cases S
theorem kug (es:Ya (Ya AV)) (Q:Nat->Nat->AV->Prop) (k:∀ (i:Nat) (e:Ya AV) (j:Nat) (a:AV),es[i]?=some e->e[j]?=some a->∃ a',Q i j a') :
  ∃ es':Ya (Ya AV),es'.length=es.length/\∀ (i:Nat) (e':Ya AV),es'[i]?=some e'->∃ e,es[i]?=some e/\e'.length=e.length/\∀ (j:Nat) (a':AV),e'[j]?=some a'->Q i j a':=by
 classical
 let f:Nat->Nat->AV->AV:=λi j a=>if h:∃ a',Q i j a' then Classical.choose h else a
 refine ⟨es.mapIdx λi e=>e.mapIdx (f i),by simp,λi e' m=>?_⟩;rw [List.getElem?_mapIdx] at m;obtain ⟨e,b,rfl⟩:=jad.1 m;refine ⟨e,b,by simp,λj a' u=>?_⟩;rw [List.getElem?_mapIdx] at u;obtain ⟨a,l,rfl⟩:=jad.1 u;have t:=k i e j a b l;simp only [f,dif_pos t];exact Classical.choose_spec t
theorem kvW {x:Nat} (a:(kao x).Nodup) {i j r m f:Nat} (hi:(kad x)[i]?=some (some r,m)) (b:(kad x)[j]?=some (some r,f)):i=j:=by
 unfold kao at a;generalize kad x=l at a hi b;induction l generalizing i j with
 | nil=>simp at hi
 | cons y l e=>
  rw [jcu] at a;have mem:∀ {k m:Nat},l[k]?=some (some r,m)->r∈l.filterMap (·.1):=λh=>jci.2 ⟨_,jak h,rfl⟩;cases i with
  | zero=>
   cases j with
   | zero=>rfl
   | succ j=>
    simp at hi b; subst hi;simp only [jde] at a;exact absurd (mem b) a.1
  | succ i=>
   cases j with
   | zero=>
    simp at hi b; subst b;simp only [jde] at a;exact absurd (mem hi) a.1
   | succ j=>
    simp at hi b;rw [e (by split at a; exact a; exact (jde.1 a).2) hi b]
theorem kzu (hr:HR w O μ h n) (hz:∀ q B,z q=some B->h q=some B/\p q=false) {id:Nat} {B:TB sem} (hb:BR P κ ln z h N id B) (hp:∀ q,Ow κ ln id B q->p q=true) (am:B.isF=true->(kao (ln id)).Nodup/\∀ r∈kao (ln id),κ id≠some r) :
  ∃ f:Nat->ABlk,(∀ h2:AH,(∀ q,Ow κ ln id B q->h2 q=some (f q))->BR P κ ln ahN h2 N id B)/\∀ q,Ow κ ln id B q->BlkAt w O (muP p μ) n q (f q):=by
 cases E:B.isF with
 | false=>
  have ow:∀ q,Ow κ ln id B q->κ id=some q:=λq A=>by
   rcases A with A | ⟨hf,_⟩
   ·exact A
   ·rw [E] at hf; cases hf
  cases S:κ id with
  | none=>
   refine ⟨λ_=>.map [],λh2 _=>?_,λq A=>by have:=ow q A; rw [S] at this; cases this⟩;cases hb with
   | bx _ _ q as A=>rw [S] at A; cases A
   | el _ _ _ q cs hd A=>rw [S] at A; cases A
   | sl0 T t l hd A hl hn=>exact .sl0 T t l hd A hl hn
   | sl _ _ _ q cs hd A=>rw [S] at A; cases A
   | mp _ _ _ q _ _ A=>rw [S] at A; cases A
   | si _ q A=>rw [S] at A; cases A
   | fm0=>cases E
   | fm=>cases E
  | some q=>
   obtain ⟨B2,g1,g2⟩:=kzj hr hz E hb S (hp q (.inl S));exact ⟨λ_=>B2,λh2 hh=>g1 h2 (hh q (.inl S)),λq' C=>by have:=ow q' C; rw [S] at this; cases this; exact g2⟩
 | true=>
  obtain ⟨aw,ax⟩:=am E;cases hb with
  | bx=>cases E
  | el=>cases E
  | sl0=>cases E
  | sl=>cases E
  | mp=>cases E
  | si=>cases E
  | fm0 T t j U u l ho hd A hl hn=>
   refine ⟨λ_=>.map [],λh2 _=>.fm0 T t j U u l ho hd A hl hn,λq C=>?_⟩;rcases C with C | ⟨_,D⟩
   ·rw [A] at C; cases C
   ·unfold kao at D; rw [hn,show kad 0=[] from rfl] at D; cases D
  | fm T t j U u l ho q es hd A hh hn hl hv h0 h1=>
   have hb:BR P κ ln z h N id (.fm T t j U u l ho):=.fm T t j U u l ho q es hd A hh hn hl hv h0 h1;obtain ⟨b,cc,e1,e2,e3⟩:=hr.blk q _ hh;let Q:Nat->Nat->AV->Prop:=λi G a'=>a'.one=true/\(ho≠some (i:Int)->∀ x,l[i]?=some x->(G≠j->(t.enc x)[G]?=some a')/\(G=j->∀ e,es[i]?=some e->e[j]?=some a'))/\∃ v,cc[i*t.wd+G]?=some v/\VR w O (muP p μ) n a' v
   have au:∀ (i:Nat) (e:Ya AV) (G:Nat) (a:AV),es[i]?=some e->e[G]?=some a->∃ a',Q i G a':=λi e G a Z F=>by
    obtain ⟨k1,k2⟩:=e3 i e Z;obtain ⟨l1,v,l2,l3⟩:=k2 G a F;by_cases M:ho=some (i:Int)
    ·exact ⟨.sc v,l3.one l1,λhc=>absurd M hc,v,l2,.sc v (l3.one l1)⟩
    ·have ay:=(jaf.1 Z).1;have hx:l[i]?=some (l[i]'(by omega)):=jae _;have X:(kad (ln id))[i]?=some ((kad (ln id))[i]'(by omega)):=jae _;obtain ⟨g1,g2,ys,g3,g4,g5⟩:=hv i _ e _ hx Z X M;by_cases L:G=j
     ·subst L;refine ⟨a,l1,λ_ x ad=>⟨λhc=>absurd rfl hc,λ_ e' I=>?_⟩,v,l2,?_⟩
      ·rw [Z] at I; cases I; exact F
      ·generalize (kad (ln id))[i]'(by omega)=rm at g5;obtain ⟨r,m⟩:=rm;cases r with
       | none=>obtain ⟨g6,_⟩:=g5; rw [F] at g6; cases g6; exact l3.freeP (.sc _)
       | some r=>obtain ⟨g6,_⟩:=g5; rw [F] at g6; cases g6; exact l3.ownP (.inr (.inl ⟨_,_,_,rfl⟩))
     ·obtain ⟨a',H⟩:=kah (l:=t.enc (l[i]'(by omega))) (l':=e) g1 F;refine ⟨a',(g2 G a a' L F H).one l1,λ_ x ad=>⟨λ_=>?_,λhc=>absurd hc L⟩,v,l2,VR.snapP hr hz (g2 G a a' L F H) l3⟩;rw [hx] at ad; cases ad; exact H
   obtain ⟨es',c1,c2⟩:=kug es Q au;let Y:Nat->Ya (Ya AV)->Prop:=λr ys=>∃ (i m:Nat) (x:t.den),(kad (ln id))[i]?=some (some r,m)/\l[i]?=some x/\(t.enc x)[j]?=some (.sl ys)
   have hY:∀ r∈kao (ln id),∃ ys,Y r ys:=λr D=>by
    obtain ⟨i,m,x,e,a1,a2,a3,a4,a5,ys,a6,a7⟩:=hb.row D;exact ⟨ys,i,m,x,a1,a2,a6⟩
   have hYu:∀ r ys ac,Y r ys->Y r ac->ys=ac:=λr ys ac ⟨i,m,x,a1,a2,a3⟩ ⟨i',m',x',b1,b2,b3⟩=>by
    have:=kvW aw a1 b1;subst this;rw [a2] at b2; cases b2;rw [a3] at b3; cases b3; rfl
   classical
   let f:Nat->ABlk:=λr=>if r=q then .cells t.wd T es' else if W:∃ ys,Y r ys then .cells u.wd U (Classical.choose W) else .map []
   have fq:f q = .cells t.wd T es':=if_pos rfl;have fr:∀ {r:Nat} {ys:Ya (Ya AV)},r∈kao (ln id)->Y r ys->f r = .cells u.wd U ys:=λ{r ys} D W=>by
    have aq:r≠q:=λe=>ax r D (by rw [e]; exact A);have ap:∃ ys,Y r ys:=⟨ys,W⟩;simp only [f,if_neg aq,dif_pos ap];rw [hYu r _ _ (Classical.choose_spec ap) W]
   have rowE:∀ {i:Nat} {x:t.den} {ys ws:Ya (Ya AV)},l[i]?=some x->(t.enc x)[j]?=some (.sl ys)->SnapE z ws ys->(∀ y∈ws,y.length=u.wd/\∀ a∈y,a.one=true)->(∀ y∈ys,FreeL y)/\∀ y∈ys,y.length=u.wd/\∀ a∈y,a.one=true:=λ{i x ys ws} hx hj hs ho=>by
    have aa:Free (.sl ys):=kbN t x hd _ (jak hj);refine ⟨λy W=>(koZ ys).1 aa y W,λy W=>?_⟩;obtain ⟨k,S⟩:=jdh W;obtain ⟨w0,ai⟩:=kah hs.1 S;have ae:=hs.2 k w0 y ai S;obtain ⟨o1,o2⟩:=ho w0 (jak ai);refine ⟨by rw [ae.len]; exact o1,λa F=>?_⟩;obtain ⟨k',an⟩:=jdh F;obtain ⟨a0,J⟩:=kah ae.len an;exact (ae.at k' a0 a J an).one (o2 a0 (jak J))
   refine ⟨f,λh2 al=>?_,λq' C=>?_⟩
   ·have ab:=al q (.inl A);rw [fq] at ab;refine .fm T t j U u l ho q es' hd A ab hn (by rw [c1,hl]) (λi x e' rm hx I X M=>?_) h0 (λe' I=>?_)
    ·obtain ⟨e,Z,R,hQ⟩:=c2 i e' I;obtain ⟨g1,g2,ys,g3,g4,g5⟩:=hv i x e rm hx Z X M;refine ⟨by rw [R,g1],λG a a' L F H=>?_,ys,g3,g4,?_⟩
     ·have:=((hQ G a F).2.1 M x hx).1 L;rw [this] at H; cases H;exact .free _ (kbN t x hd _ (jak this))
     ·have ao:∀ {a:AV},e[j]?=some a->e'[j]?=some a:=λ{a} F=>by
       obtain ⟨a',H⟩:=kah R.symm F;have:=((hQ j a' H).2.1 M x hx).2 rfl e Z;rw [this] at F; cases F; exact H
      obtain ⟨r,m⟩:=rm;cases r with
      | none=>exact ⟨ao g5.1,g5.2⟩
      | some r=>
       obtain ⟨g6,ws,g7,g8,g9⟩:=g5;have D:=kaK X;have aa:=al r (.inr ⟨rfl,D⟩);rw [fr D ⟨i,m,x,X,hx,g3⟩] at aa;obtain ⟨k1,k2⟩:=rowE hx g3 g8 g9;exact ⟨ao g6,ys,aa,SnapE.free k1,k2⟩
    ·obtain ⟨i,hi⟩:=jdh I;obtain ⟨e,Z,R,hQ⟩:=c2 i e' hi;refine ⟨by rw [R]; exact (h1 e (jak Z)).1,λa F=>?_⟩;obtain ⟨G,ar⟩:=jdh F;exact (hQ G a ar).1
   ·have ak:muP p μ q' = μ q':=by simp [muP,hp q' C]
    by_cases ah:q'=q
    ·subst ah;rw [fq];refine ⟨b,cc,ak.trans e1,e2,λi e' I=>?_⟩;obtain ⟨e,Z,R,hQ⟩:=c2 i e' I;refine ⟨by rw [R]; exact (h1 e (jak Z)).1,λG a F=>?_⟩;obtain ⟨o1,_,v,o2,o3⟩:=hQ G a F;exact ⟨o1,v,o2,o3⟩
    ·have D:q'∈kao (ln id):=by
      rcases C with C | ⟨_,C⟩
      ·rw [A] at C; cases C; exact absurd rfl ah
      ·exact C
     obtain ⟨i,m,x,e,a1,a2,a3,a4,a5,ys,a6,a7,g6,ws,g7,g8,g9⟩:=hb.row D;rw [fr D ⟨i,m,x,a1,a2,a6⟩];obtain ⟨k1,k2⟩:=rowE a2 a6 g8 g9;obtain ⟨b,cc,e1,e2,e3⟩:=hr.blk q' _ g7;refine ⟨b,cc,ak.trans e1,e2,λi y W=>?_⟩;obtain ⟨y0,aj⟩:=kah g8.1 W;have af:=g8.2 i y0 y aj W;obtain ⟨k3,k4⟩:=e3 i y0 aj;refine ⟨(k2 y (jak W)).1,λG a F=>?_⟩;obtain ⟨a0,J⟩:=kah af.len F;obtain ⟨l1,v,l2,l3⟩:=k4 G a0 J;exact ⟨(af.at G a0 a J F).one l1,v,l2,kmR hr hz af G a0 a J F v l3⟩
end
section
variable {P:Yd} {κ κ':Nat->Yb Nat} {ln ln':Nat->Nat} {z z':AH} {c:Cx sem} {s:TS sem} {env:Env} {h h':AH} {n n' N N':Nat}
theorem krp (f:Nat->AV):∀ (l:Ya Nat) (x:Nat),lk (l.map λk=>(k,f k)) x=if l.contains x then f x else .un
 | [],x=>rfl
 | k::l,x=>by
  simp only [jap,lk,List.contains_cons];by_cases a:x=k
  ·subst a; simp
  ·rw [if_neg a,krp f l x];have:(x==k)=false:=by simpa using a
   rw [this,jcn]
theorem kmX {α:Type} {l:Ya (Nat×α)} {x:Nat} {v:α} (h:alk l x=some v):x∈l.map (·.1):=jbb.2 ⟨_,kaD h,rfl⟩
theorem koL {id q:Nat} {B:TB sem} (hB:thp c s id=some B) (h:Ow κ ln id B q):q∈ows κ ln c s id:=by
 rcases h with h | ⟨h1,h2⟩
 ·exact ows_k h
 ·exact ows_r hB h1 h2
theorem Rel.conv (R:Rel P κ ln z c s env h n) {O:Nat->Prop} {μ:Mu} {w:World} (hr:HR w O μ h n) :
  ∃ (p:Nat->Bool) (h2:AH),(∀ q B,z q=some B->h q=some B/\p q=false)/\(∀ id B,thp c s id=some B->BR P κ ln ahN h2 s.n id B)/\(∀ q,n<=q->h2 q=none)/\HR w O (muP p μ) h2 n:=by
 let ids:=s.hp.map (·.1)++c.g.map (·.1)
 let p:Nat->Bool:=λq=>ids.any λid=>(thp c s id).isSome&&(ows κ ln c s id).contains q
 have p1:∀ {id q:Nat} {B:TB sem},thp c s id=some B->Ow κ ln id B q->p q=true:=λ{id q B} hB i=>by
  refine jbt.2 ⟨id,?_,by simp [hB,koL hB i]⟩;unfold thp at hB;cases u:alk s.hp id with
  | some b=>exact jaw.2 (.inl (kmX u))
  | none=>rw [u] at hB; exact jaw.2 (.inr (kmX hB))
 have p2:∀ {q:Nat},p q=true->∃ id B,thp c s id=some B/\Ow κ ln id B q:=λ{q} a=>by
  obtain ⟨id,_,h1⟩:=jbt.1 a;simp only [jac] at h1;obtain ⟨B,hB⟩:=jao.1 h1.1;exact ⟨id,B,hB,kdC hB (by simpa using h1.2)⟩
 have hz:∀ q B,z q=some B->h q=some B/\p q=false:=λq B a=>by
  refine ⟨R.zin q B a,?_⟩;cases hp:p q with
  | false=>rfl
  | true=>
   obtain ⟨id,j,hB,i⟩:=p2 hp;rw [R.owZ hB i] at a; cases a
 have A:∀ id,∃ f:Nat->ABlk,∀ B,thp c s id=some B->(∀ h2:AH,(∀ q,Ow κ ln id B q->h2 q=some (f q))->BR P κ ln ahN h2 s.n id B)/\∀ q,Ow κ ln id B q->BlkAt w O (muP p μ) n q (f q):=λid=>by
  cases hB:thp c s id with
  | none=>exact ⟨λ_=>.map [],λB h=>by cases h⟩
  | some B=>
   obtain ⟨f,g1,C⟩:=kzu hr hz (R.blk id B hB) (λq a=>p1 hB a) (λl=>⟨(R.fam id B hB l).1,λr x=>((R.fam id B hB l).2 r x).2.2.1 id B hB⟩);exact ⟨f,λj h=>by cases h; exact ⟨g1,C⟩⟩
 let f:Nat->Nat->ABlk:=λid=>Classical.choose (A id)
 have l:∀ id B,thp c s id=some B->(∀ h2:AH,(∀ q,Ow κ ln id B q->h2 q=some (f id q))->BR P κ ln ahN h2 s.n id B)/\∀ q,Ow κ ln id B q->BlkAt w O (muP p μ) n q (f id q):=λid=>Classical.choose_spec (A id)
 open Classical in
 let h2:AH:=λq=>if a:∃ id B,thp c s id=some B/\Ow κ ln id B q then some (f (Classical.choose a) q) else none
 have m:∀ id B q,thp c s id=some B->Ow κ ln id B q->h2 q=some (f id q):=λid B q hB i=>by
  have a:∃ id B,thp c s id=some B/\Ow κ ln id B q:=⟨id,B,hB,i⟩;have e:h2 q=some (f (Classical.choose a) q):=dif_pos a;obtain ⟨j,hB',y⟩:=Classical.choose_spec a;rw [e,R.owI hB' hB y i]
 have t:∀ q B,h2 q=some B->∃ id j,thp c s id=some j/\Ow κ ln id j q:=λq B hB=>by
  by_cases a:∃ id B,thp c s id=some B/\Ow κ ln id B q
  ·exact a
  ·have:h2 q=none:=dif_neg a;rw [this] at hB; cases hB
 refine ⟨p,h2,hz,λid B hB=>(l id B hB).1 h2 λq a=>m id B q hB a,λq a=>?_,⟨hr.olt,λid b k e=>hr.scope id b k (kaQ e).2,λid v b k D e e'=>hr.inj id v b k D (kaQ e).2 (kaQ e').2,λid b k e=>hr.notO id b k (kaQ e).2,λq B hB=>?_⟩⟩
 ·cases u:h2 q with
  | none=>rfl
  | some B=>
   obtain ⟨id,j,hB,i⟩:=t q B u;have:=R.owN hB i;omega
 ·obtain ⟨id,j,hB',i⟩:=t q B hB;rw [m id j q hB' i] at hB; cases hB;exact (l id j hB').2 q i
theorem kpa {O:Nat->Prop} {μ:Mu} {w:World} (hr:HR w O μ h n) (p:Nat->Bool):Evo w μ n w (muP p μ) n:=
 ⟨rfl,rfl,rfl,jag _,jag _,λ_ _ _=>rfl,λb c T f a=>⟨c,a,rfl⟩,λi _=>by unfold muP; split <;> simp,λi b k e hn=>absurd (hr.scope i b k (kaQ e).2).1 (Nat.not_lt.2 hn)⟩
theorem Rel.famD (R:Rel P κ ln z c s env h n):FamOk κ ln ahN c { s with dy:=false } n:=λid B hB b=>by
 obtain ⟨g1,a⟩:=R.fam id B hB b;refine ⟨g1,λr hr=>?_⟩;obtain ⟨k1,k2,k3,e⟩:=a r hr;exact ⟨k1,rfl,k3,e⟩
theorem Snap.gsud {z:AH} {a a':AV} (h:Snap z a a'):(a = .ud->a' = .ud)/\∀ es,a≠.gs es:=by
 cases h with
 | free _ b=>exact ⟨λh=>h,λes h=>by subst h; cases b⟩
 | _=>exact ⟨(λh=>by cases h),(λes h=>by cases h)⟩
theorem kAr {t:Ty} (a:t.dat=true) (x:t.den):t.av x≠.ud:=by
 cases h:t.agg with
 | true=>rw [khb h]; intro e; cases e
 | false=>
  intro e;have:=kbk t x a (t.av x) (by rw [khk h a]; simp);rw [e] at this; cases this
theorem TVR.gok {κ κ':Nat->Yb Nat} {ln ln':Nat->Nat} {z z':AH} {N N':Nat} {v:TV sem} {a a':AV} (h:TVR P κ ln z N v a) (h':TVR P κ' ln' z' N' v a') (j:v≠.un):GOk a a':=by
 cases h' with
 | un=>exact absurd rfl j
 | ud=>cases h; exact .inl rfl
 | gs t l=>cases h; exact .inl rfl
 | c t x _ f hs=>
  obtain ⟨g1,b⟩:=hs.gsud;exact .inr ⟨b,λe=>kAr f x (g1 e)⟩
 | fq t x o _ f hs=>
  obtain ⟨g1,b⟩:=hs.gsud;exact .inr ⟨b,λe=>by cases g1 e⟩
 | cv n x y F _ i=>
  obtain ⟨g,as,rfl,_⟩:=i;exact .inr ⟨λes e=>(by cases e),λe=>by cases e⟩
 | _=>exact .inr ⟨λes e=>(by cases e),λe=>by cases e⟩
theorem Rel.wk (R:Rel P κ ln z c s env h n) {D:DX} {O:Nat->Prop} {μ:Mu} {a:Act} {w:World} (hs:SR N D O μ ⟨env,h,n⟩ a w) :
  ∃ I b h2,Rel P κ ln ahN c { s with dy:=false } b h2 n/\SR N D O I ⟨b,h2,n⟩ a w/\Evo w μ n w I n:=by
 obtain ⟨p,h2,hz,A,F,y⟩:=R.conv hs.hr;have C:∀ x,∃ a',TVR P κ ln ahN s.n (tlk c s x) a'/\VR w O (muP p μ) n a' (a.tmps.getD x undef):=λx=>by
  obtain ⟨a',h1,_,E⟩:=kwP hs.hr hz (R.env x) _ (hs.env x);exact ⟨a',h1,E⟩
 let f:Nat->AV:=λx=>Classical.choose (C x)
 have L:∀ x,TVR P κ ln ahN s.n (tlk c s x) (f x):=λx=>(Classical.choose_spec (C x)).1;have J:∀ x,VR w O (muP p μ) n (f x) (a.tmps.getD x undef):=λx=>(Classical.choose_spec (C x)).2;let ks:=s.env.map (·.1)++c.e0.map (·.1)
 have u:∀ x,ks.contains x=false->tlk c s x = .un:=λx t=>by
  have t:x∉ks:=by simpa using t
  unfold tlk;cases M:alk s.env x with
  | some v=>exact absurd (jaw.2 (.inl (kmX M))) t
  | none=>
   cases H:alk c.e0 x with
   | some v=>exact absurd (jaw.2 (.inr (kmX H))) t
   | none=>rfl
 let m:AV:=match tlk c s GS with | .un=>.un | _=>f GS
 have j:GOk (lk env GS) m/\TVR P κ ln ahN s.n (tlk c s GS) m/\VR w O (muP p μ) n m (a.tmps.getD GS undef):=by
  have h1:=R.env GS;have h2:=L GS;have E:=J GS;show GOk _ (match tlk c s GS with | .un=>.un | _=>f GS)/\TVR P κ ln ahN s.n _ (match tlk c s GS with | .un=>.un | _=>f GS)/\VR w O _ n (match tlk c s GS with | .un=>.un | _=>f GS) _;generalize tlk c s GS=v at h1 h2;cases v <;> first | exact ⟨.un,.un _,.un _⟩ | exact ⟨h1.gok h2 (by intro e; cases e),h2,E⟩
 have i:∀ x,lk ((GS,m)::ks.map λk=>(k,f k)) x=if x=GS then m else lk (ks.map λk=>(k,f k)) x:=λx=>rfl;refine ⟨muP p μ,(GS,m)::ks.map λk=>(k,f k),h2,⟨λx=>?_,A,R.lt,R.inj,λq B G=>(by cases G),λ_ _ _ _ _=>rfl,R.bnd,F,R.e0,R.g,λ_=>rfl,λq k T es G=>(by cases G),R.famD⟩,⟨y,hs.size,hs.defers.evo (kpa hs.hr p),λx=>?_,hs.gs,hs.gi.evo (kpa hs.hr p) λ_=>by show GOk _ (lk ((GS,m)::_) GS); rw [i,if_pos rfl]; exact j.1⟩,kpa hs.hr p⟩
 ·rw [i];by_cases l:x=GS
  ·rw [if_pos l,l]; exact j.2.1
  rw [if_neg l,krp];split
  ·exact L x
  ·rename_i t;rw [show tlk c { s with dy:=false } x = .un from u x (by simpa using t)];exact .un _
 ·show VR w O (muP p μ) n (lk _ x) _;rw [i];by_cases l:x=GS
  ·rw [if_pos l,l]; exact j.2.2
  rw [if_neg l,krp];split
  ·exact J x
  ·exact .un _
theorem SatL.wk {D:DX} {O:Nat->Prop} {j:Code} {cs:Ya Code} {Q:Exit->St->Prop} (R:Rel P κ ln z c s env h n) (t:∀ b h2,Rel P κ ln ahN c { s with dy:=false } b h2 n->SatL P N D O (j::cs) Q ⟨b,h2,n⟩):SatL P N D O (j::cs) Q ⟨env,h,n⟩:=by
 intro l o ro μ a w f hs;obtain ⟨k,b,h2,m,e,i⟩:=R.wk hs;exact wpIn_mono (t b h2 m l o ro k a w (f.evo i.d) e) λ_ _ _ q=>q.from i.d
structure CxWf (c:Cx sem):Prop where
 e0:∀ x v,(x,v)∈c.e0->alk c.e0 x=some v
 g:∀ x B,(x,B)∈c.g->alk c.g x=some B
theorem Rel.has_lt (R:Rel P κ ln z c s env h n) (W:CxWf c) {id:Nat} (hi:c.has id=true):id<s.n:=by
 unfold Cx.has at hi;simp only [jat,jbt] at hi;rcases hi with (hi | ⟨⟨x,v⟩,b,a⟩) | ⟨⟨x,B⟩,b,a⟩
 ·obtain ⟨B,hB⟩:=jao.1 hi;exact R.lt id B (R.g_thp hB)
 ·have h1:=W.e0 x v b;have:=R.env x;rw [R.e0_tlk h1] at this;exact this.has_lt id a
 ·have h1:=W.g x B b;exact (R.blk x B (R.g_thp h1)).has_lt id a
theorem kmS {α:Type} (f:Nat->α):∀ (l:Ya Nat) (x:Nat),alk (l.map λk=>(k,f k)) x=if l.contains x then some (f x) else none
 | [],x=>rfl
 | k::l,x=>by
  simp only [jap,alk,List.contains_cons];by_cases a:x=k
  ·subst a; simp
  ·rw [if_neg a,kmS f l x];have:(x==k)=false:=by simpa using a
   rw [this,jcn]
theorem kqn {α:Type} (f:Nat->Yb α):∀ (l:Ya Nat) (x:Nat),alk (l.filterMap λk=>(f k).map λb=>(k,b)) x=if l.contains x then f x else none
 | [],x=>rfl
 | k::l,x=>by
  have e:=kqn f l x;rw [jcu,List.contains_cons];cases i:f k with
  | none=>
   simp only [Option.map_none];rw [e];by_cases a:x=k
   ·subst a; simp [i]
   ·have:(x==k)=false:=by simpa using a
    rw [this,jcn]
  | some b=>
   simp only [jck,alk];by_cases a:x=k
   ·subst a; simp [i]
   ·have:(x==k)=false:=by simpa using a
    rw [if_neg a,e,this,jcn]
theorem kdY {α:Type} (f:Nat->Bool):∀ (l:Ya (Nat×α)) (x:Nat),alk (l.filter λy=>f y.1) x=if f x then alk l x else none
 | [],x=>by simp [alk]
 | (k,v)::l,x=>by
  have e:=kdY f l x;rw [List.filter_cons];by_cases b:f k=true
  ·rw [if_pos b];simp only [alk];by_cases a:x=k
   ·subst a; simp [b]
   ·rw [if_neg a,if_neg a,e]
  ·rw [if_neg b,e];simp only [alk];by_cases a:x=k
   ·subst a; simp [b]
   ·rw [if_neg a]
end
section
variable {P:Yd} {κ κ':Nat->Yb Nat} {ln ln':Nat->Nat} {z z':AH} {c:Cx sem} {s:TS sem} {env:Env} {h h':AH} {n n' N N':Nat}
theorem kef {l:La} (f:okLa l c s=true):(∀ x∈l.keep,alk c.e0 x=none)/\(∀ id∈l.gids,∃ B,alk s.hp id=some (some B))/\
  (∀ x∈l.head.env,alk c.e0 x.1=none/\x.1∉l.keep)/\(∀ x∈l.head.hp,alk c.g x.1=none/\x.1∉l.gids/\x.1<s.n)/\(∀ x∈l.out.env,alk c.e0 x.1=none/\x.1∉l.keep)/\(∀ x∈l.out.hp,alk c.g x.1=none/\x.1∉l.gids/\x.1<l.n)/\s.n<=l.n:=by
 unfold okLa okP at f;simp only [jac,jam,jdo,jbd,jaj] at f;obtain ⟨⟨⟨⟨h1,h2⟩,⟨j,b⟩⟩,⟨i,e⟩⟩,m⟩:=f;refine ⟨h1,λid hi=>?_,λx a=>⟨(j x a).1,by simpa using (j x a).2⟩,λx a=>⟨(b x a).1.1,by simpa using (b x a).1.2,(b x a).2⟩,λx a=>⟨(i x a).1,by simpa using (i x a).2⟩,λx a=>⟨(e x a).1.1,by simpa using (e x a).1.2,(e x a).2⟩,m⟩;have:=h2 id hi;cases k:ownB s id with
 | none=>rw [k] at this; cases this
 | some B=>exact ⟨B,kdv k⟩
theorem kwL {id:Nat} {B:TB sem} (h:alk s.hp id=some (some B)):ownB s id=some B:=by unfold ownB; rw [h]
theorem kiY (l:La) (x:Nat):alk (inCx l c s).e0 x=if l.keep.contains x then some (tlk c s x) else alk c.e0 x:=by
 simp only [inCx,kbF,kmS];split <;> rename_i a <;> split at a <;> simp_all
theorem kof (l:La) (e:∀ id∈l.gids,∃ B,alk s.hp id=some (some B)) (x:Nat):alk (inCx l c s).g x=if l.gids.contains x then ownB s x else alk c.g x:=by
 simp only [inCx,kbF,kqn];split
 ·rename_i v a;split at a
  ·rename_i b; rw [if_pos b,a]
  ·cases a
 ·rename_i a;split at a
  ·rename_i b;obtain ⟨B,hB⟩:=e x (by simpa using b);rw [kwL hB] at a; cases a
  ·rename_i b; rw [if_neg b]
theorem kpe (R:Rel P κ ln z c s env h n) (W:CxWf c) {l:La} (j:okLa l c s=true):CxWf (inCx l c s):=by
 obtain ⟨k1,k2,_⟩:=kef j;refine ⟨λx v a=>?_,λx B a=>?_⟩
 ·rw [kiY];simp only [inCx,jaw,jbb] at a;rcases a with ⟨y,f,b⟩ | a
  ·cases b; rw [if_pos (by simpa using f)]
  ·have:=W.e0 x v a;rw [if_neg]; ·exact this
   intro e;rw [k1 x (by simpa using e)] at this; cases this
 ·rw [kof l k2];simp only [inCx,jaw,jci,jad] at a;rcases a with ⟨y,f,i,hB',b⟩ | a
  ·cases b; rw [if_pos (by simpa using f)]; exact hB'
  ·have:=W.g x B a;rw [if_neg]; ·exact this
   intro e;obtain ⟨i,hB'⟩:=k2 x (by simpa using e);rw [R.g x _ hB'] at this; cases this
theorem Rel.into (R:Rel P κ ln z c s env h n) {l:La} (D:okLa l c s=true):Rel P κ ln z (inCx l c s) ⟨s.env.filter (λx=>!l.keep.contains x.1),s.hp.filter (λx=>!l.gids.contains x.1),s.n,s.dy⟩ env h n:=by
 obtain ⟨k1,k2,_⟩:=kef D;have u:∀ x,tlk (inCx l c s) ⟨s.env.filter (λx=>!l.keep.contains x.1),s.hp.filter (λx=>!l.gids.contains x.1),s.n,s.dy⟩ x=tlk c s x:=λx=>by
  unfold tlk;have f:alk (s.env.filter λx=>!l.keep.contains x.1) x=if (!l.keep.contains x) then alk s.env x else none:=kdY (λk=>!l.keep.contains k) s.env x;rw [kiY,f];by_cases e:l.keep.contains x=true
  ·simp only [e,jcg,jai,if_false,if_true,jcb]; rfl
  ·simp only [e,jcz,if_true,if_false];rw [jbk] at e; simp only [e,jcz,if_true,jai,if_false]
 have a:∀ id B,thp (inCx l c s) ⟨s.env.filter (λx=>!l.keep.contains x.1),s.hp.filter (λx=>!l.gids.contains x.1),s.n,s.dy⟩ id=some B->thp c s id=some B:=λid B hB=>by
  unfold thp at hB ⊢;have f:alk (s.hp.filter λx=>!l.gids.contains x.1) id=if (!l.gids.contains id) then alk s.hp id else none:=kdY (λk=>!l.gids.contains k) s.hp id;rw [kof l k2,f] at hB;by_cases e:l.gids.contains id=true
  ·simp only [e,jcg,jai,if_false,if_true] at hB;rw [kdv hB]
  ·rw [jbk] at e;simp only [e,jcz,if_true,jai,if_false] at hB;exact hB
 refine ⟨λx=>by rw [u]; exact R.env x,λid B hB=>R.blk id B (a id B hB),λid B hB=>R.lt id B (a id B hB),λi j B A q hi y=>R.inj i j B A q (a _ _ hi) (a _ _ y),R.zin,λid B q hB=>R.zout id B q (a _ _ hB),λid B q hB=>R.bnd id B q (a _ _ hB),R.hn,λx v m=>?_,λid b t=>?_,R.dy,R.zk,R.fam.map (λid B hB=>.inl ⟨B,a id B hB,λh=>h,rfl,rfl⟩) (λid _ B r _ h1 h2 C=>((R.fam id B h1 h2).2 r C).2.1) (jag _)⟩
 ·have f:alk (s.env.filter λx=>!l.keep.contains x.1) x=if (!l.keep.contains x) then alk s.env x else none:=kdY (λk=>!l.keep.contains k) s.env x;rw [f] at m;rw [kiY];split at m
  ·rename_i e;rw [if_neg (by simpa using e)]; exact R.e0 x v m
  ·cases m
 ·have f:alk (s.hp.filter λx=>!l.gids.contains x.1) id=if (!l.gids.contains id) then alk s.hp id else none:=kdY (λk=>!l.gids.contains k) s.hp id;rw [f] at t;rw [kof l k2];split at t
  ·rename_i e;rw [if_neg (by simpa using e)]; exact R.g id b t
  ·cases t
theorem kkQ:∀ (l:Ya (Nat×PV)) (xs:Ya ((t:Ty)×t.den)) (y:Nat),(alk (unE (A:=sem) l xs).1 y).isSome=(alk l y).isSome
 | [],xs,y=>rfl
 | (k,v)::l,xs,y=>by
  simp only [unE,alk];split
  ·rfl
  ·exact kkQ l _ y
theorem kuZ:∀ (l:Ya (Nat×PB)) (xs:Ya ((t:Ty)×t.den)) (y:Nat),(alk (unH (A:=sem) l xs).1 y).isSome=(alk l y).isSome
 | [],xs,y=>rfl
 | (k,v)::l,xs,y=>by
  simp only [unH,alk];split
  ·rfl
  ·exact kuZ l _ y
theorem ksp {p:Pat} {N:Nat} {x:p.ty.den} {y:Nat} {v:TV sem} (e:alk (kae (A:=sem) p N x).env y=some v):∃ a,(y,a)∈p.env:=by
 have h1:=kkQ p.env (unT sem p.tys x) y;have:alk (unE (A:=sem) p.env (unT sem p.tys x)).1 y=some v:=e;rw [this] at h1;obtain ⟨a,b⟩:=jao.1 h1.symm;exact ⟨a,kaD b⟩
theorem kyw {p:Pat} {N:Nat} {x:p.ty.den} {y:Nat} {b:Yb (TB sem)} (i:alk (kae (A:=sem) p N x).hp y=some b):∃ e,(y,e)∈p.hp:=by
 have h1:=kuZ p.hp (unE (A:=sem) p.env (unT sem p.tys x)).2 y;have:alk (unH (A:=sem) p.hp (unE (A:=sem) p.env (unT sem p.tys x)).2).1 y=some b:=i;rw [this] at h1;obtain ⟨f,a⟩:=jao.1 h1.symm;exact ⟨f,kaD a⟩
theorem kzY {l:La} {k:TS sem} (F:okLa l c s=true) (u:∀ id,(inCx l c s).has id=true->id<s.n) (R:Rel P κ ln z (inCx l c s) k env h n) {x:l.head.ty.den} (hp:pack (inCx l c s) s.n l.head k=some x) :
  ∃ j a D,Rel P j a D (inCx l c s) (kae l.head s.n x) env h n/\∀ id,(inCx l c s).has id=true->j id = κ id/\a id=ln id:=by
 obtain ⟨k1,k2,k3,t,_⟩:=kef F;refine kuz R u hp _ _ (jag _) (λy=>.inl (by unfold tlk; cases alk (kae (A:=sem) l.head s.n x).env y <;> rfl)) (λid B hB=>?_) (λy v C=>?_) (λid b E=>?_) rfl
 ·unfold thp at hB;cases m:alk (kae (A:=sem) l.head s.n x).hp id with
  | some b=>rw [m] at hB; exact .inl (by rw [<-hB])
  | none=>rw [m] at hB; exact .inr hB
 ·obtain ⟨I,i⟩:=ksp C;obtain ⟨g1,f⟩:=k3 _ i;rw [kiY,if_neg (by simpa using f)]; exact g1
 ·obtain ⟨H,e⟩:=kyw E;obtain ⟨g1,f,G⟩:=t _ e;rw [kof l k2,if_neg (by simpa using f)]; exact g1
theorem kwN {l:La} {F:TS sem} {κ0:Nat->Yb Nat} {C:Nat->Nat} {Q:AH} {k:Env} {I:AH} {n0:Nat} (J:Rel P κ0 C Q c s k I n0) (T:okLa l c s=true) (H:∀ id,(inCx l c s).has id=true->id<l.n) (R:Rel P κ ln z (inCx l c s) F env h n) {x:l.out.ty.den} (hp:pack (inCx l c s) l.n l.out F=some x) :
  ∃ E i S,Rel P E i S c (outTS l c s x) env h n/\∀ id,(inCx l c s).has id=true->E id = κ id/\i id=ln id:=by
 obtain ⟨k1,k2,_,_,G,M,U⟩:=kef T;have f:∀ y,alk (outTS l c s x).env y=match alk (kae (A:=sem) l.out l.n x).env y with | some v=>some v | none=>if l.keep.contains y then some (tlk c s y) else none:=λy=>by
  show alk ((kae (A:=sem) l.out l.n x).env++l.keep.map λx=>(x,tlk c s x)) y=_;rw [kbF,kmS];cases alk (kae (A:=sem) l.out l.n x).env y <;> rfl
 have t:∀ y,alk (outTS l c s x).hp y=match alk (kae (A:=sem) l.out l.n x).hp y with | some v=>some v | none=>if l.gids.contains y then (ownB s y).map some else none:=λy=>by
  show alk ((kae (A:=sem) l.out l.n x).hp++l.gids.filterMap λid=>(ownB s id).map λb=>(id,some b)) y=_;have:(l.gids.filterMap λid=>(ownB s id).map λb=>(id,some b))=l.gids.filterMap λid=>(((ownB s id).map some).map λb=>(id,b)):=by
   congr; funext id; cases ownB s id <;> rfl
  rw [this,kbF,kqn (λid=>(ownB s id).map some)];cases alk (kae (A:=sem) l.out l.n x).hp y <;> rfl
 refine kuz R H hp c _ (jag _) (λy=>?_) (λid B hB=>?_) (λy v e=>?_) (λid b j=>?_) rfl
 ·left;unfold tlk;rw [f];cases e:alk (kae (A:=sem) l.out l.n x).env y with
  | some v=>rfl
  | none=>
   simp only;rw [kiY];by_cases a:l.keep.contains y=true
   ·rw [if_pos a,if_pos a]; rfl
   ·rw [if_neg a,if_neg a]
 ·unfold thp at hB;rw [t] at hB;cases e:alk (kae (A:=sem) l.out l.n x).hp id with
  | some b=>rw [e] at hB; exact .inl (by rw [<-hB])
  | none=>
   rw [e] at hB;simp only at hB;right;rw [kof l k2];by_cases a:l.gids.contains id=true
   ·rw [if_pos a] at hB ⊢;obtain ⟨L,hB'⟩:=k2 id (by simpa using a);rw [kwL hB'] at hB ⊢;exact hB
   ·rw [if_neg a] at hB ⊢; exact hB
 ·rw [f] at e;cases m:alk (kae (A:=sem) l.out l.n x).env y with
  | some w=>
   obtain ⟨X,D⟩:=ksp m;exact (G _ D).1
  | none=>
   rw [m] at e;simp only at e;split at e
   ·rename_i a; exact k1 y (by simpa using a)
   ·cases e
 ·rw [t] at j;cases m:alk (kae (A:=sem) l.out l.n x).hp id with
  | some w=>
   obtain ⟨W,u⟩:=kyw m;exact (M _ u).1
  | none=>
   rw [m] at j;simp only at j;split at j
   ·rename_i a;obtain ⟨L,hB'⟩:=k2 id (by simpa using a);exact J.g id _ hB'
   ·cases j
end
def ABlk.shp:ABlk->ABlk->Prop
 | .cells k _ _,.cells k' _ _=>k=k'
 | .map a,.map b=>a=b
 | .si s p,.si s' p'=>s=s'/\p=p'
 | _,_=>False
def shp (h h1:AH):Prop:=∀ q B,h q=some B->∃ a,h1 q=some a/\B.shp a
section
variable {P:Yd} {env:Env} {h h1:AH} {n n1:Nat} {o:Oper} {K K':K3}
theorem shp.cells (hs:shp h h1) {q k:Nat} {T:Yc} {es:Ya (Ya AV)} (e:h q=some (.cells k T es)):∃ T' es',h1 q=some (.cells k T' es'):=by
 obtain ⟨b,h2,a⟩:=hs q _ e;cases b with
 | cells f T' es'=>cases a; exact ⟨T',es',h2⟩
 | map _=>exact a.elim
 | si _ _=>exact a.elim
theorem shp.isCells (hs:shp h h1) {q:Nat} (a:isCells (h q)=true):isCells (h1 q)=true:=by
 unfold Abs.isCells at a;split at a
 ·rename_i k T es b;obtain ⟨T',es',h2⟩:=hs.cells b;rw [h2]; rfl
 ·cases a
theorem shp.map (hs:shp h h1) {q:Nat} {l:Ya (Ye×AV)} (e:h q=some (.map l)):h1 q=some (.map l):=by
 obtain ⟨b,h2,a⟩:=hs q _ e;cases b with
 | cells f T' es'=>exact a.elim
 | map _=>cases a; exact h2
 | si _ _=>exact a.elim
theorem ABlk.shp_refl (B:ABlk):B.shp B:=by cases B <;> first | rfl | exact ⟨rfl,rfl⟩
theorem kvy {t:Yc} {cs:Ya AV} {d:Nat} {K:AV->Prop} (a:partK P t cs d K):∃ v,K v/\∀ K':AV->Prop,K' v->partK P t cs d K':=by
 unfold partK at a ⊢;split at a
 ·exact ⟨_,a,λK' h=>h⟩
 ·obtain ⟨c,h1,h2⟩:=a; exact ⟨c,h2,λK' h=>⟨c,h1,h⟩⟩
 ·exact a.elim
theorem kAh {T:Yc} {x i:AV} {K:AV->Prop} (a:idxK P T x i K):∃ v,K v/\∀ K':AV->Prop,K' v->idxK P T x i K':=by
 unfold idxK at a;split at a
 ·split at a
  ·split at a
   ·rename_i k;obtain ⟨e,h1,h2,a⟩:=a;obtain ⟨v,j,f⟩:=kvy a;exact ⟨v,j,λK' h=>by simp only [idxK,k]; exact ⟨e,h1,h2,f K' h⟩⟩
   ·exact a.elim
  ·obtain ⟨e,h1,b,h2,a⟩:=a;exact ⟨_,a,λK' h=>by simp only [idxK]; exact ⟨e,h1,b,h2,h⟩⟩
  ·exact a.elim
 ·exact a.elim
theorem kBj {b:UnOp} {x:AV} {K:AV->Prop} (a:unK b x K):∃ v,K v/\∀ K':AV->Prop,K' v->unK b x K':=by
 unfold unK at a;split at a
 ·exact ⟨_,a,λK' h=>h⟩
 ·exact ⟨_,a,λK' h=>h⟩
 ·exact a.elim
theorem kAa {S T:Yc} {x:AV} {K:AV->Prop} (a:convK P S T x K):∃ v,K v/\∀ K':AV->Prop,K' v->convK P S T x K':=by
 unfold convK at a;split at a
 ·split at a
  ·rename_i hi;exact ⟨_,a.2,λK' h=>by simp only [convK,hi]; exact ⟨a.1,h⟩⟩
  ·rename_i hi;obtain ⟨v,b,h1,a⟩:=a;exact ⟨_,a,λK' h=>by simp only [convK,hi]; exact ⟨v,b,h1,h⟩⟩
 ·rename_i u e;obtain ⟨v,b,h1,a⟩:=a;refine ⟨_,a,λK' h=>?_⟩;cases u <;> first | exact absurd rfl (e _ _) | exact absurd rfl (e _) | exact ⟨v,b,h1,h⟩
 ·obtain ⟨b,h1,f,h2,a⟩:=a;exact ⟨_,a,λK' h=>⟨b,h1,f,h2,h⟩⟩
 ·exact a.elim
theorem kzH (j:cls o=0) (e:aop P env h n o K):∃ v,K v h n/\∀ h1 n1 (K':K3),K' v h1 n1->aop P env h1 n1 o K':=by
 obtain ⟨dst,A,ty,pos,after,g⟩:=o;cases A <;> simp only [cls] at j <;> try (cases j; done)
 case move x=>exact ⟨_,e,λh1 n1 K' h=>h⟩
 case assign x=>exact ⟨_,e,λh1 n1 K' h=>h⟩
 case pick x a b=>
  simp only [aop] at e ⊢;split at e
  ·exact ⟨_,e,λh1 n1 K' h=>h⟩
  ·exact e.elim
 case unOp=>
  simp only [aop] at e ⊢;obtain ⟨v,h1,h2⟩:=kBj e;exact ⟨v,h1,λ_ _ K' h=>h2 _ h⟩
 case convert=>
  simp only [aop] at e ⊢;obtain ⟨v,h1,h2⟩:=kAa e;exact ⟨v,h1,λ_ _ K' h=>h2 _ h⟩
 case makeFunc f first u=>
  cases f <;> simp only [aop] at e ⊢ <;> try (exact e.elim)
  exact ⟨_,e.2,λ_ _ K' h=>⟨e.1,h⟩⟩
 case field T x f=>
  simp only [aop] at e ⊢;split at e
  ·obtain ⟨v,h1,h2⟩:=kvy e;exact ⟨v,h1,λ_ _ K' h=>h2 _ h⟩
  ·exact e.elim
 case index=>
  simp only [aop] at e ⊢;obtain ⟨v,h1,h2⟩:=kAh e;exact ⟨v,h1,λ_ _ K' h=>h2 _ h⟩
 case extract x i=>
  simp only [aop] at e ⊢;split at e
  ·obtain ⟨c,h1,h2⟩:=e; exact ⟨c,h2,λ_ _ K' h=>⟨c,h1,h⟩⟩
  ·exact e.elim
 case build T m=>
  simp only [aop] at e ⊢;split at e
  ·split at e
   ·exact ⟨_,e,λ_ _ K' h=>h⟩
   ·exact e.elim
  ·exact e.elim
 case call l=>
  obtain ⟨callee,args,ts⟩:=l;cases callee with
  | builtin b=>
   simp only [aop] at e ⊢;unfold kai at e;split at e
   ·cases j
   ·cases j
   ·cases j
   ·rename_i x y _ k;split at e
    ·rename_i h1 h2;refine ⟨_,e.2,λ_ _ K' h=>?_⟩;simp only [kai,k,h1,h2]; exact ⟨e.1,h⟩
    ·exact e.elim
   ·rename_i x y _ k;split at e
    ·rename_i h1 h2;refine ⟨_,e.2,λ_ _ K' h=>?_⟩;simp only [kai,k,h1,h2]; exact ⟨e.1,h⟩
    ·exact e.elim
   ·rename_i x y q _ k;split at e
    ·rename_i h1 h2 t;refine ⟨_,e.2,λ_ _ K' h=>?_⟩;simp only [kai,k,h1,h2,t]; exact ⟨e.1,h⟩
    ·exact e.elim
   ·rename_i x y q _ k;split at e
    ·rename_i h1 h2 t;refine ⟨_,e.2,λ_ _ K' h=>?_⟩;simp only [kai,k,h1,h2,t]; exact ⟨e.1,h⟩
    ·exact e.elim
   ·exact e.elim
  | value _=>simp at j
  | invoke _ _=>simp at j
theorem kih {n:Nat} {lo hi:Yb AV} {K K':Nat->Nat->Prop} (a:kce n lo hi K) (hK:∀ l u,K l u->K' l u):kce n lo hi K':=by
 unfold kce at a ⊢;split at a
 ·exact ⟨a.1,a.2.1,a.2.2.1,hK _ _ a.2.2.2⟩
 ·exact a.elim
theorem ksP (j:cls o=1) (hs:shp h h1) (hK:∀ v,K v h n->K' v h1 n1) (a:aop P env h n o K):aop P env h1 n1 o K':=by
 obtain ⟨dst,y,ty,pos,after,g⟩:=o;cases y <;> simp only [cls] at j <;> try (cases j; done)
 case nilCheck x=>
  simp only [aop] at a ⊢;refine ⟨?_,hK _ a.2⟩;have:=a.1;unfold liveA at this ⊢;split at this
  ·rfl
  ·rfl
  ·exact hs.isCells this
  ·cases this
 case fieldAddr T x f=>
  simp only [aop] at a ⊢;split at a
  ·split at a
   ·exact hK _ a
   ·exact ⟨hs.isCells a.1,hK _ a.2⟩
   ·exact a.elim
  ·exact a.elim
 case indexAddr T x i=>
  simp only [aop] at a ⊢;unfold kcV at a ⊢;split at a
  ·split at a
   ·split at a
    ·obtain ⟨u,c,A,C,D,E⟩:=a; exact ⟨u,c,A,C,D,hK _ E⟩
    ·exact a.elim
   ·split at a
    ·rename_i m k;obtain ⟨T',es',h2⟩:=hs.cells k;simp only [m,h2];exact ⟨a.1,a.2.1,a.2.2.1,a.2.2.2.1,hK _ a.2.2.2.2⟩
    ·exact a.elim
   ·split at a
    ·rename_i m k;obtain ⟨T',es',h2⟩:=hs.cells k;simp only [m,h2];exact ⟨a.1,a.2.1,a.2.2.1,hK _ a.2.2.2⟩
    ·exact a.elim
   ·split at a
    ·exact ⟨a.1,a.2.1,a.2.2.1,hK _ a.2.2.2⟩
    ·exact a.elim
   ·exact a.elim
  ·exact a.elim
 case slice T x lo hi mx=>
  cases mx with
  | some _=>simp only [aop] at a
  | none=>
   simp only [aop] at a ⊢;unfold kfp at a ⊢;split at a
   ·exact ⟨a.1,kih a.2 λ_ _ h=>hK _ h⟩
   ·obtain ⟨⟨e,m,t⟩,a⟩:=a;refine ⟨⟨e,m,?_⟩,kih a λ_ _ h=>hK _ h⟩;split at t
    ·rename_i k;obtain ⟨T',es',h2⟩:=hs.cells k;rw [h2]; exact t
    ·exact t.elim
   ·exact ⟨a.1,kih a.2 λ_ _ h=>hK _ h⟩
   ·exact ⟨a.1,kih a.2 λ_ _ h=>hK _ h⟩
   ·exact a.elim
 case call l=>
  obtain ⟨callee,args,ts⟩:=l;cases callee with
  | builtin b=>
   simp only [aop] at a ⊢;unfold kai at a;split at a
   ·rename_i x T B F;simp only [kai,B,F];unfold lenK at a ⊢;split at a
    ·exact ⟨a.1,λh=>hK _ (a.2 h)⟩
    ·exact ⟨a.1,hs.isCells a.2.1,λh=>hK _ (a.2.2 h)⟩
    ·exact ⟨a.1,hK _ a.2⟩
    ·exact ⟨a.1,hK _ a.2⟩
    ·exact ⟨a.1,hK _ a.2⟩
    ·split at a
     ·rename_i k G;simp only [hs.map k,G]; exact hK _ a
     ·exact a.elim
    ·exact a.elim
   ·cases j
   ·cases j
   ·cases j
   ·cases j
   ·cases j
   ·cases j
   ·exact a.elim
  | value _=>simp at j
  | invoke _ _=>simp at j
theorem HR.sub {w:World} {O:Nat->Prop} {μ:Mu} (a:∀ q B,h q=some B->h1 q=some B) (hr:HR w O μ h1 n):HR w O μ h n:=
 ⟨hr.olt,hr.scope,hr.inj,hr.notO,λid B hB=>hr.blk id B (a id B hB)⟩
theorem kzb (f:∀ q B,h q=some B->h1 q=some B) {a:AV} {cs:Ya AV} (b:deref h a=some cs):deref h1 a=some cs:=by
 unfold deref at b ⊢;split at b
 ·exact b
 ·split at b
  ·rename_i e;simp only [f _ _ e]; exact b
  ·cases b
 ·cases b
theorem kxQ {b:BinOp} {k e:IntKind} {x y:Int} {K K':AV->Prop} (hK:∀ v,K v->K' v) (a:abinI b k x e y K):abinI b k x e y K':=by
 cases b <;> simp only [abinI] at a ⊢ <;> first | exact ⟨a.1,hK _ a.2⟩ | exact ⟨a.1,a.2.1,hK _ a.2.2⟩
theorem kxn {b:BinOp} {x y:ByteArray} {K K':AV->Prop} (hK:∀ v,K v->K' v) (a:abinS b x y K):abinS b x y K':=by
 cases b <;> simp only [abinS] at a ⊢ <;> first | exact ⟨a.1,hK _ a.2⟩ | exact hK _ a
theorem kuF (e:cls o=2) (i:∀ q B,h q=some B->h1 q=some B) (hK:∀ v,K v h n->K' v h1 n1) (a:aop P env h n o K):aop P env h1 n1 o K':=by
 obtain ⟨dst,t,ty,pos,after,g⟩:=o;cases t <;> simp only [cls] at e <;> try (cases e; done)
 case load T x=>
  simp only [aop] at a ⊢;split at a
  ·rename_i cs A;simp only [kzb i A];unfold loadK at a ⊢;split at a
   ·exact ⟨a.1,hK _ a.2⟩
   ·obtain ⟨c,h2,f⟩:=a; exact ⟨c,h2,hK _ f⟩
   ·exact a.elim
  ·exact a.elim
 case binOp t T x y F=>
  simp only [aop] at a ⊢;unfold abin at a ⊢;split at a
  ·exact kxQ (λv h=>hK v h) a
  ·exact kxn (λv h=>hK v h) a
  ·refine ⟨a.1,?_⟩;have:=a.2;split at this
   ·exact hK _ this
   ·exact hK _ this
   ·exact this.elim
  ·obtain ⟨b,h2,f⟩:=a;exact ⟨b,λw O μ n u v X Y hr E C=>h2 w O μ n u v X Y (hr.sub i) E C,λb' j=>hK _ (f b' j)⟩
 case lookup T m k ok=>
  simp only [aop] at a ⊢;unfold khR at a ⊢;split at a
  ·split at a
   ·rename_i D;simp only [i _ _ D];refine ⟨a.1,a.2.1,?_⟩;have:=a.2.2;split at this
    ·exact hK _ this
    ·exact hK _ this
    ·exact this.elim
   ·exact a.elim
  ·exact a.elim
 case call l=>
  obtain ⟨callee,args,ts⟩:=l;cases callee with
  | builtin b=>cases b <;> simp at e
  | value _=>simp at e
  | invoke _ _=>simp at e
end
def avId:AV->Yb Nat
 | .own id _ _ | .ms id _ _ | .mp id=>some id
 | _=>none
section
variable {P:Yd} {env:Env} {h h' h1:AH} {n n' n1:Nat} {o:Oper} {K K':K3}
theorem ktY {T:Yc} {p x v:AV} (f:kcd P h n T p x (λa b c=>a=v/\b=h'/\c=n')):(∀ q,avId p≠some q->h' q=h q)/\shp h h':=by
 unfold kcd at f;split at f
 ·rename_i id i j;split at f
  ·rename_i k T' es xs m t;split at f
   ·rename_i e u;obtain ⟨_,_,_,_,rfl,_⟩:=f;refine ⟨λq l=>?_,λq B l=>?_⟩
    ·unfold updH; rw [if_neg]; rintro rfl; exact l rfl
    ·unfold updH;by_cases e:q=id
     ·subst e;rw [if_pos rfl];rw [m] at l; cases l;exact ⟨_,rfl,rfl⟩
     ·rw [if_neg e]; exact ⟨B,l,B.shp_refl⟩
   ·exact f.elim
  ·exact f.elim
 ·exact f.elim
theorem kyV {wc:Ya Nat} {j:Nat} {v:AV} (A:isW wc j o=true) (G:kju o=false) (f:aop P env h n o (λa b c=>a=v/\b=h'/\c=n')) :
  (∀ q,q≠n->(∀ x,tgtOp o=some x->avId (ev env x)≠some q)->h' q=h q)/\(ksD o=true->shp h h'):=by
 obtain ⟨dst,I,ty,pos,after,g⟩:=o;have upd:∀ {B:ABlk} (q:Nat),q≠n->updH h n B q=h q:=λq t=>by unfold updH; rw [if_neg t]
 cases I <;> simp only [isW] at A <;> try (cases A; done)
 case alloc T=>
  simp only [aop] at f;split at f
  ·obtain ⟨_,rfl,_⟩:=f;exact ⟨λq t _=>upd q t,λi=>by cases i⟩
  ·exact f.elim
 case box T x=>
  simp only [aop] at f;split at f
  ·obtain ⟨_,rfl,_⟩:=f;exact ⟨λq t _=>upd q t,λi=>by cases i⟩
  ·exact f.elim
 case range T x=>
  simp only [aop,koK] at f;split at f
  ·obtain ⟨_,_,rfl,_⟩:=f;exact ⟨λq t _=>upd q t,λi=>by cases i⟩
  ·exact f.elim
 case next x b=>
  cases b with
  | false=>simp only [aop] at f
  | true=>
   simp only [aop,nextK] at f;split at f
   ·rename_i id u;split at f
    ·split at f
     ·obtain ⟨_,rfl,_⟩:=f;refine ⟨λq _ t=>?_,λi=>by cases i⟩;have:=t x rfl;rw [u] at this;unfold updH; rw [if_neg]; rintro rfl; exact this rfl
     ·obtain ⟨_,rfl,_⟩:=f;exact ⟨λq _ _=>rfl,λi=>by cases i⟩
    ·exact f.elim
   ·exact f.elim
 case store T p x=>
  simp only [aop] at f;obtain ⟨h1,h2⟩:=ktY f;exact ⟨λq _ u=>h1 q (u p rfl),λ_=>h2⟩
 case makeSlice T x y=>
  simp only [aop] at f;split at f
  ·split at f
   ·obtain ⟨_,_,_,_,_,_,rfl,_⟩:=f;exact ⟨λq t _=>upd q t,λi=>by cases i⟩
   ·exact f.elim
  ·exact f.elim
 case makeMap T x=>
  cases x with
  | none=>
   simp only [aop] at f;obtain ⟨_,rfl,_⟩:=f;exact ⟨λq t _=>upd q t,λi=>by cases i⟩
  | some _=>simp only [aop] at f
 case mapUpdate T m k x=>
  simp only [aop] at f;unfold kkr at f;split at f
  ·rename_i id _ _ _ C _ _;split at f
   ·obtain ⟨_,_,_,_,rfl,_⟩:=f;refine ⟨λq _ u=>?_,λi=>by cases i⟩;unfold updH; rw [if_neg];rintro rfl;exact u m rfl (by rw [C]; rfl)
   ·exact f.elim
  ·exact f.elim
 case lookup T m k ok=>
  simp only [aop] at f;unfold khR at f;split at f
  ·split at f
   ·obtain ⟨_,_,f⟩:=f;split at f
    ·obtain ⟨_,rfl,_⟩:=f; exact ⟨λq _ _=>rfl,λi=>by cases i⟩
    ·obtain ⟨_,rfl,_⟩:=f; exact ⟨λq _ _=>rfl,λi=>by cases i⟩
    ·exact f.elim
   ·exact f.elim
  ·exact f.elim
 case mapEntry T m k=>
  simp only [aop] at f;unfold kmf at f;split at f
  ·rename_i id _ _ _ C _ _;split at f
   ·obtain ⟨_,_,f⟩:=f;split at f
    ·obtain ⟨_,rfl,_⟩:=f;refine ⟨λq _ u=>?_,λi=>by cases i⟩;unfold updH; rw [if_neg];rintro rfl;exact u m rfl (by rw [C]; rfl)
    ·obtain ⟨_,_,rfl,_⟩:=f;refine ⟨λq _ u=>?_,λi=>by cases i⟩;unfold updH; rw [if_neg];rintro rfl;exact u m rfl (by rw [C]; rfl)
    ·exact f.elim
   ·exact f.elim
  ·exact f.elim
 case entryStore T m st x=>
  simp only [aop] at f;unfold kov at f;split at f
  ·rename_i id _ _ C _;split at f
   ·obtain ⟨_,_,_,_,_,rfl,_⟩:=f;refine ⟨λq _ u=>?_,λi=>by cases i⟩;unfold updH; rw [if_neg];rintro rfl;exact u m rfl (by rw [C]; rfl)
   ·exact f.elim
  ·exact f.elim
 case call l=>
  obtain ⟨callee,args,ts⟩:=l;cases callee with
  | builtin b=>
   simp only [aop] at f;unfold kai at f;split at f
   ·simp at A
   ·rename_i s x T H E J;refine ⟨λq t u=>?_,λi=>by cases i⟩;replace u:=u s (by simp only [tgtOp,E]);unfold kcf at f;obtain ⟨_,f⟩:=f;split at f
    ·exact f.elim
    ·split at f
     ·exact f.elim
     ·obtain ⟨_,_,f⟩:=f;split at f
      ·exact f.elim
      ·rename_i xs _;split at f
       ·by_cases e:xs=[]
        ·obtain ⟨_,rfl,_⟩:=f.2.1 e; rfl
        ·obtain ⟨_,rfl,_⟩:=f.2.2 e; exact upd q t
       ·by_cases e:xs=[]
        ·obtain ⟨_,rfl,_⟩:=f.2.1 e; rfl
        ·obtain ⟨_,rfl,_⟩:=f.2.2 e; exact upd q t
       ·rename_i id len F;split at f
        ·obtain ⟨_,_,_,_,_,rfl,_⟩:=f;unfold updH delH;rw [if_neg t,if_neg];rintro rfl;exact u (by rw [F]; rfl)
        ·exact f.elim
       ·exact f.elim
   ·rename_i s x T H E J;refine ⟨λq t u=>?_,λi=>by cases i⟩;replace u:=u s (by simp only [tgtOp,E]);unfold copyK at f;split at f
    ·exact f.elim
    ·split at f
     ·exact f.elim
     ·obtain ⟨_,f⟩:=f;split at f
      ·exact f.elim
      ·split at f
       ·obtain ⟨_,rfl,_⟩:=f; rfl
       ·rename_i id off len F;split at f
        ·obtain ⟨_,_,_,rfl,_⟩:=f;unfold updH;rw [if_neg];rintro rfl;exact u (by rw [F]; rfl)
        ·exact f.elim
       ·exact f.elim
   ·simp at A
   ·simp at A
   ·simp at A
   ·simp at A
   ·exact f.elim
  | value _=>cases G
  | invoke _ _=>simp at A
 case buildSlice T len D=>
  simp only [aop] at f;split at f
  ·split at f
   ·obtain ⟨_,_,f⟩:=f;split at f
    ·rcases f with ⟨_,rfl,_⟩ | ⟨_,rfl,_⟩ | ⟨_,_,rfl,_⟩
     ·exact ⟨λq t _=>upd q t,λi=>by cases i⟩
     ·exact ⟨λq t _=>rfl,λi=>by cases i⟩
     ·exact ⟨λq t _=>rfl,λi=>by cases i⟩
    ·exact f.elim
   ·exact f.elim
  ·exact f.elim
 all_goals (simp only [aop] at f)
end
section
variable {P:Yd} {κ κ0:Nat->Yb Nat} {ln:Nat->Nat} {z:AH} {c:Cx sem} {s:TS sem} {env:Env} {h h' hs:AH} {n n':Nat}
def rsH (κ:Nat->Yb Nat) (h:AH) (b:Ya Nat):AH:=λq=>if b.any (λid=>κ id==some q) then h q else none
theorem kmH {b:Ya Nat} {q:Nat} {B:ABlk} (a:rsH κ h b q=some B):(∃ id∈b,κ id=some q)/\h q=some B:=by
 unfold rsH at a;split at a
 ·rename_i f;obtain ⟨id,hi,e⟩:=jbt.1 f;exact ⟨⟨id,hi,by simpa using e⟩,a⟩
 ·cases a
theorem kBe {b:Ya Nat} {id q:Nat} (hi:id∈b) (a:κ id=some q):rsH κ h b q=h q:=by
 unfold rsH;rw [if_pos (jbt.2 ⟨id,hi,by simp [a]⟩)]
theorem Rel.rst (R:Rel P κ ln z c s env h n) {b:Ya Nat} (y:s.dy=false) (E:c.g.all (λx=>b.contains x.1)=true) (m:b.all (λid=>!(thp c s id).any TB.isF)=true):Rel P κ ln z c (rst s b) env (rsH κ h b) n:=by
 have hz:=R.dy y;have u:∀ id,alk (s.hp.filter λx=>b.contains x.1) id=if b.contains id then alk s.hp id else none:=λid=>kdY (λk=>b.contains k) s.hp id;have l:∀ id B,alk c.g id=some B->id∈b:=λid B hB=>by
  have:=jam.1 E (id,B) (kaD hB);simpa using this
 have sub:∀ id B,thp c (Abs.rst s b) id=some B->thp c s id=some B/\id∈b:=λid B hB=>by
  unfold thp at hB ⊢;simp only [Abs.rst,u] at hB;by_cases f:b.contains id=true
  ·rw [if_pos f] at hB;exact ⟨hB,by simpa using f⟩
  ·rw [if_neg f] at hB;simp only at hB;exact absurd (jbu.2 (l id B hB)) f
 refine ⟨λx=>R.env x,λid B hB=>?_,λid B hB=>R.lt id B (sub id B hB).1,λi j B v q hi A=>R.inj i j B v q (sub _ _ hi).1 (sub _ _ A).1,λq B a=>?_,λid B q hB t=>R.zout id B q (sub _ _ hB).1 t,λid B q hB t=>R.bnd id B q (sub _ _ hB).1 t,λq a=>?_,R.e0,λid B hB=>?_,λ_=>hz,R.zk,R.fam.map (λid B hB=>.inl ⟨B,(sub id B hB).1,λh=>h,rfl,rfl⟩) (λid _ B r _ h1 h2 D=>((R.fam id B h1 h2).2 r D).2.1) (jag _)⟩
 ·obtain ⟨h1,h2⟩:=sub id B hB;have C:B.isF=false:=by
   have:=jam.1 m id h2;rw [h1] at this; simpa using this
  refine (R.blk id B h1).mono (λ_ _=>rfl) (λ_ _=>rfl) (λ_ _ h=>h) (jag _) (R.lt id B h1) (λq v a hB'=>?_);rcases a with a | ⟨e,_⟩
  ·rw [kBe h2 a]; exact hB'
  ·rw [C] at e; cases e
 ·rw [hz] at a; cases a
 ·unfold rsH; split
  ·exact R.hn q a
  ·rfl
 ·simp only [Abs.rst,u] at hB;split at hB
  ·exact R.g id B hB
  ·cases hB
theorem ABlk.shp_trans {A B C:ABlk} (h1:A.shp B) (h2:B.shp C):A.shp C:=by
 cases A <;> cases B <;> cases C <;> simp only [ABlk.shp] at * <;> first | exact h1.trans h2 | exact ⟨h1.1.trans h2.1,h1.2.trans h2.2⟩ | exact False.elim h1 | exact False.elim h2
end
end Go.Abs
