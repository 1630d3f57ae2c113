/- The machinery, part 6. -/
import Derived.Test.YtpjlpghgmjlbbaaGreatZ2
import Derived.Test.YtpjlpghgmjlbbaaGreatZ3
import Derived.Test.YtpjlpghgmjlbbaaGreatZ4
import Derived.Test.YtpjlpghgmjlbbaaGreatZ5
set_option linter.constructorNameAsVariable false
set_option linter.unusedVariables false
set_option linter.unusedSimpArgs false
set_option linter.unusedSectionVars false
namespace Go.Abs
open Go Go.RowKit
section
variable {P:Yd} {κ κ':Nat->Yb Nat} {ln ln':Nat->Nat} {z z':AH} {c:Cx sem} {s:TS sem} {env:Env} {h h':AH} {n n' N N':Nat} {id:Nat}
variable {ρ:Ty} {Kf:TV sem->TS sem->sem.Ans ρ} {r:ρ.den}
variable {d:Yb Tmp} {ty:Yc} {pos:String} {after:Array Edge} {g:Yb (Nat×Bool)}
theorem Rel.famAll (R:Rel P κ ln z c s env h n) {T U:Yc} {t u:Ty} {j:Nat} {l:Ya t.den} (hB:thp c s id=some (.fm T t j U u l none)) :
  t.dat=true/\∃ es:Ya (Ya AV),es.length=l.length/\l.length=(kad (ln id)).length/\(∀ (i:Nat) (x:t.den) (e:Ya AV) (b:Yb Nat×Nat),l[i]?=some x->es[i]?=some e->(kad (ln id))[i]?=some b->FamE z h j U u.wd (t.enc x) e b)/\
   (∀ e∈es,e.length=t.wd/\∀ a∈e,a.one=true)/\((κ id=none/\es=[])\/∃ q,κ id=some q/\h q=some (.cells t.wd T es)):=by
 have B:=R.blk _ _ hB;cases B with
 | fm0 _ _ _ _ _ _ _ f k hl hn=>subst hl; exact ⟨f,[],rfl,by rw [hn]; rfl,by simp,by simp,.inl ⟨k,rfl⟩⟩
 | fm _ _ _ _ _ _ _ q es f k y hn hl p C A=>exact ⟨f,es,hl,hn,λi x e b m v hr=>p i x e b m v hr (by simp),A,.inr ⟨q,k,y⟩⟩
theorem Rel.famNew (R:Rel P κ ln z c s env h n) {T U:Yc} {t u:Ty} {j:Nat} {l:Ya t.den} {es:Ya (Ya AV)} {rows:Ya (Yb Nat×Nat)} (p:t.dat=true) (hl:es.length=l.length) (hn:l.length=rows.length)
  (y:∀ (i:Nat) (x:t.den) (e:Ya AV) (k:Yb Nat×Nat),l[i]?=some x->es[i]?=some e->rows[i]?=some k->FamE z h j U u.wd (t.enc x) e k) (C:∀ e∈es,e.length=t.wd/\∀ a∈e,a.one=true)
  (hr:(rows.filterMap (·.1)).Nodup/\∀ r∈rows.filterMap (·.1),r<n/\z r=none/\∀ i m,thp c s i=some m->¬ Ow κ ln i m r) :
  Rel P (updK κ s.n (some n)) (updK ln s.n (codeR rows)) z c { s with hp:=(s.n,some (.fm T t j U u l none))::s.hp,n:=s.n+1 } env (updH h n (.cells t.wd T es)) (n+1):=by
 have up:∀ q B,h q=some B->updH h n (.cells t.wd T es) q=some B:=λq B b=>by
  unfold updH; rw [if_neg]; ·exact b
  rintro rfl; rw [R.hn _ (jag _)] at b; cases b
 exact R.newF (.fm T t j U u l none) (some n) (codeR rows) up (jca _) (λq b=>by cases b; omega) (λq b=>by unfold updH; rw [if_neg (by omega)]; exact R.hn q (by omega))
  (.fm T t j U u l none n es p updK_self (by simp [updH]) (by rw [updK_self,kbS]; exact hn) hl (λi x e k v A f _=>(y i x e k v A (by rw [updK_self,kbS] at f; exact f)).mono (λ_ _ h=>h) (λr B _ hB=>up r B hB)) (λi k hi=>by cases hi) C)
  (by rw [koe]; exact hr)
theorem Rel.famNew0 (R:Rel P κ ln z c s env h n) {T U:Yc} {t u:Ty} {j:Nat} (b:t.dat=true):Rel P (updK κ s.n none) (updK ln s.n 0) z c { s with hp:=(s.n,some (.fm T t j U u [] none))::s.hp,n:=s.n+1 } env h n:=
 R.newF (.fm T t j U u [] none) none 0 (λ_ _ a=>a) (jag _) (λq a=>by cases a) R.hn (.fm0 T t j U u [] none b updK_self rfl updK_self) ⟨List.nodup_nil,λr hr=>by cases hr⟩
theorem kik {N:Nat} {k:Yb Nat} {m:Nat}:Ke c N κ ln (updK κ N k) (updK ln N m):=λid hi=>⟨kaC hi,λ_=>kaC hi⟩
theorem koc {T e:Yc} {f:Ty×Nat×Yc×Ty} (h:((elemO P T).bind λe=>(famO P e).map λf=>(e,f))=some (e,f)):elemO P T=some e/\famO P e=some f:=by
 obtain ⟨e',i,h2⟩:=jaa.1 h;obtain ⟨k,b,a⟩:=jad.1 h2;cases a;exact ⟨i,b⟩
theorem kvr (R:Rel P κ ln z c s env h n) {x:Yf} (m:ev env x=nilS) (a:kuE P s ty Kf=some r):Res P κ ln z c s env h n ⟨d,.assign x,ty,pos,after,g⟩ Kf r:=by
 unfold kuE at a;split at a
 ·rename_i e t j U u b;obtain ⟨y,b⟩:=koc b;obtain ⟨f,v,_⟩:=kmJ b;exact ⟨.fw s.n,_,nilS,h,n,_,_,_,λK hK=>by simp only [aop,m]; exact hK,a,R.famNew0 f,.fw0 s.n (jbl _) updK_self,jca _,kik,λi=>by cases i⟩
 ·split at a
  ·rename_i e t b;split at a
   ·rename_i f;have p:=R.new (h':=h) (n':=n) (.sl e t []) none 0 (λq B k=>k) (jag _) (λq k=>by cases k) R.hn (.sl0 e t [] f updK_self rfl updK_self);exact ⟨.mw s.n,_,nilS,h,n,_,_,_,λK hK=>by simp only [aop,m]; exact hK,a,p,.mw0 s.n (jbl _) updK_self,jca _,kik,λi=>by cases i⟩
   ·exact kaa a
  ·exact kaa a
theorem kjh {q:Nat->Bool}:∀ (b:Ya AV) (Ts:Ya Yc) {i:Nat} {κ:Nat->Yb Nat} {ln:Nat->Nat} {s:TS sem},Rel P κ ln z c s env h n->(∀ a∈b,∃ v,a = .sc v/\v.oneCell'=true)->b.length=Ts.length->
  ∃ κ' ln',Rel P κ' ln' z c (zeroF P q i s b Ts).2 env h n/\TVRs P κ' ln' z (zeroF P q i s b Ts).2.n (zeroF P q i s b Ts).1 b/\s.n<=(zeroF P q i s b Ts).2.n/\(zeroF P q i s b Ts).2.env=s.env/\(∀ id,id<s.n->κ' id = κ id)/\(∀ id,id<s.n->ln' id=ln id)
 | [],[],i,κ,ln,s,R,_,_=>⟨κ,ln,R,.nil,jag _,rfl,λ_ _=>rfl,λ_ _=>rfl⟩
 | [],_::_,_,_,_,_,_,_,hl=>by simp at hl
 | _::_,[],_,_,_,_,_,_,hl=>by simp at hl
 | a::b,T::Ts,i,κ,ln,s,R,hz,hl=>by
  obtain ⟨v,rfl,K⟩:=hz _ (jcs ..);have f:∀ a∈b,∃ v,a = .sc v/\v.oneCell'=true:=λa y=>hz a (jax _ y);have p:b.length=Ts.length:=by simpa using hl
  simp only [zeroF];split
  ·rename_i e t j U u m;split at m
   ·rename_i hn;rw [jac] at hn;obtain rfl:=kbh hn.1;obtain ⟨he,m⟩:=koc m;obtain ⟨E,S,_⟩:=kmJ m;obtain ⟨κ',ln',A,C,h2,B,k,x⟩:=kjh b Ts (R.famNew0 (T:=e) (U:=U) (u:=u) (j:=j) E) f p;exact ⟨κ',ln',A,.cons _ _ _ _ (.fw0 s.n (jan (jbl _) h2) (by rw [k s.n (jbl _)]; exact updK_self)) C,Nat.le_of_succ_le h2,B,λid hi=>by rw [k id (jef hi)]; exact kaC hi,λid hi=>by rw [x id (jef hi)]; exact kaC hi⟩
   ·cases m
  ·obtain ⟨Z,L,F,I,Y,H,M,X,_⟩:=khi [.sc v] [T] R (λa y=>by simp at y; subst y; exact ⟨v,rfl,K⟩) rfl;obtain ⟨κ',ln',A,C,h2,B,k,x⟩:=kjh b Ts F f p;exact ⟨κ',ln',A,(I.mono k x (λ_ _ h=>h) h2).append C,jda Y h2,B.trans H,λid hi=>(k id (by omega)).trans (M id hi),λid hi=>(x id (by omega)).trans (X id hi)⟩
theorem kvx {q:Nat->Bool} (R:Rel P κ ln z c s env h n) {T:Yc} (b:kut P q s T Kf=some r):Res P κ ln z c s env h n ⟨d,.alloc T,ty,pos,after,g⟩ Kf r:=by
 unfold kut at b;split at b
 ·rename_i p Ts hz hT;split at b
  ·rename_i hl;have e:=kkY hz;have f:∀ a∈p,a.one=true:=λa C=>by obtain ⟨v,rfl,B⟩:=e a C; exact B
   obtain ⟨κ',ln',u,L,h2,_,y,t⟩:=kjh p Ts R e hl;obtain ⟨H,s',v,h',n',x,k,E,g1,A,F,I,m⟩:=klN (o:=⟨d,.alloc T,ty,pos,after,g⟩) rfl u L f (λK b=>by simp only [aop,hz]; exact b) b;exact ⟨H,s',v,h',n',x,k,E,g1,A,F,I,by have:=m.1; omega,λid hi=>⟨(m.2.1 id (by omega)).1.trans (y id hi),λi=>((m.2.1 id (by omega)).2 i).trans (t id hi)⟩,λi=>by cases i⟩
  ·exact kaa b
 ·exact kaa b
theorem kua {q:Nat->Bool} (R:Rel P κ ln z c s env h n) {T:Yc} {b:Array (Nat×Yf)} (e:kvf P c q s T b.toList Kf=some r):Res P κ ln z c s env h n ⟨d,.build T b,ty,pos,after,g⟩ Kf r:=by
 unfold kvf at e;split at e
 ·rename_i k Ts pl hz hT hp;split at e
  ·rename_i hl;simp only at e;have f:=kkY hz;obtain ⟨κ',ln',m,E,h2,B,u,p⟩:=kjh k Ts R f hl;split at e
   ·rename_i vs y;have i:∀ x,TVR P κ' ln' z (zeroF P q 0 s k Ts).2.n (tev c s x) (ev env x):=λx=>by rw [<-kwF (c:=c) B]; exact m.ev x
    obtain ⟨bs,k1,k2,k3⟩:=klD i b.toList _ k E (λa C=>by obtain ⟨v,rfl,A⟩:=f a C; exact A) y;exact ⟨.ag vs,_,.ag bs,h,n,κ',ln',z,λK e=>kwB hz hp k1 e,e,m,.ag vs bs k2 k3,h2,λid hi=>⟨u id hi,λ_=>p id hi⟩,λt=>by cases t⟩
   ·exact kaa e
  ·exact kaa e
 ·exact kaa e
theorem krZ (R:Rel P κ ln z c s env h n) {T:Yc} {len:Nat} {m:Array (Nat×Yf)} (f:kqx P c s T len m.toList Kf=some r):Res P κ ln z c s env h n ⟨d,.buildSlice T len m,ty,pos,after,g⟩ Kf r:=by
 unfold kqx at f;split at f
 ·rename_i e t j U u x hf hp;obtain ⟨he,hf⟩:=koc hf;obtain ⟨hd,an,_⟩:=kmJ hf;split at f
  ·rename_i zs vs hz hc;split at f
   ·rename_i Z;obtain ⟨rfl,ao,hw⟩:=Z;split at f
    ·rename_i xs rr y0 ab aB;split at f
     ·rename_i y hy;obtain ⟨vj,aw,b⟩:=jaa.1 ab;obtain ⟨hj,ae⟩:=kin hd an hy;obtain ⟨as,az,ad⟩:=(R.ev x).one_cells hc;obtain ⟨aj,M,E⟩:=ad.at aw;have ai:=ad.set (.sc (.slice none 0 0) rfl:TVR P κ ln z s.n (.sc (.slice none 0 0)) nilS) j;obtain ⟨a1,b1,e1,e2,e3,_⟩:=kcl R t _ _ _ _ _ hd ai aB;cases e2;rw [jbe] at e1;rw [kbB] at e3;subst e1;have F:as.length=t.wd:=by have:=e3.len; rw [jbs,kag t y0 hd] at this; exact this.symm
      have Y:∀ (q:Nat) (a:AV),q≠j->as[q]?=some a->a.one=true:=λq a k ha=>e3.one_rev (kbk t y0 hd) a (jak (i:=q) (by rw [jbg (λe=>k e.symm)]; exact ha));have ah:(t.enc y)[j]?=some (.sl (xs.map u.enc)):=by rw [ae,jbx (by rw [kag t y0 hd]; exact hj)]
      have fin:∀ (s1:TS sem) (I:Yb Nat),s1.n=s.n->Rel P κ ln z c s1 env h n->(match I with | none=>aj=nilS/\xs=[] | some q=>aj = .ms q 0 xs.length/\∃ es,h q=some (.cells u.wd U es)/\SnapE z es (xs.map u.enc)/\∀ x∈es,x.length=u.wd/\∀ a∈x,a.one=true)->
        (∀ q,I=some q->q<n/\z q=none/\∀ L S,thp c s1 L=some S->¬ Ow κ ln L S q)->Kf (.fw s.n) { s1 with hp:=(s.n,some (.fm e t j U u (lstD (A:=sem) t [y]) none))::s1.hp,n:=s.n+1 }=some r->Res P κ ln z c s env h n ⟨d,.buildSlice T 1 m,ty,pos,after,g⟩ Kf r:=λs1 I af R1 B ay f=>by
       have aa:aj.one=true:=by
        cases I with
        | none=>rw [B.1]; rfl
        | some q=>rw [B.1]; rfl
       have ac:∀ a∈as,a.one=true:=λa ha=>by
        obtain ⟨q,k,rfl⟩:=jdv.1 ha;by_cases e:q=j
        ·subst e;rw [jae k] at M;cases M; exact aa
        ·exact Y q _ e (jae k)
       have hFam:FamE z h j U u.wd (t.enc y) as (I,xs.length):=by
        refine ⟨by rw [F,kag t y hd],λq a a' k ha ak=>?_,xs.map u.enc,ah,by simp,?_⟩
        ·rw [ae,jbg (λe=>k e.symm)] at ak;exact e3.at q a a' (by rw [jbg (λe=>k e.symm)]; exact ha) ak
        ·cases I with
         | none=>exact ⟨by rw [M,B.1],by rw [B.2]; rfl⟩
         | some q=>exact ⟨by rw [M,B.1],B.2⟩
       have R2:=R1.famNew (T:=e) (U:=U) (t:=t) (u:=u) (j:=j) (l:=[y]) (es:=[as]) (rows:=[(I,xs.length)]) hd rfl rfl (λi x' e' rm hx v hr=>by
         cases i with
         | zero=>simp at hx v hr; subst hx; subst v; subst hr; exact hFam
         | succ i=>simp at hx) (λe' v=>by simp at v; subst v; exact ⟨F,ac⟩) (by
         cases I with
         | none=>exact ⟨by simp,λr hr=>by simp at hr⟩
         | some q=>exact ⟨by simp,λr hr=>by simp at hr; subst hr; exact ay _ rfl⟩)
       rw [af] at R2;refine ⟨.fw s.n,_,.ms n 0 1,_,_,_,_,_,λK hK=>?_,f,R2,?_,jca _,kik,λhc=>by cases hc⟩
       ·simp only [aop,he,hz,hp,fillE,az,ao,F];simp only [jdb,List.replicate_succ,List.replicate_zero,Nat.lt_add_one,and_self,if_true,List.set_cons_zero,Nat.zero_lt_one,Nat.reduceLT];exact ⟨by omega,hw,.inl hK⟩
       ·have:=TVR.fw (P:=P) (κ:=updK κ s.n (some n)) (ln:=updK ln s.n (codeR [(I,xs.length)])) (z:=z) (N:=s.n+1) s.n n (jbl _) updK_self;rw [updK_self,kbS] at this;exact this
      unfold klZ at b;split at b
      ·rename_i H;split at b
       ·rename_i U' u' l' hBr;split at b
        ·rename_i hU;simp only [jad] at b;obtain ⟨aC,ax,v⟩:=b;cases v;obtain ⟨et,rfl⟩:=kak ax;cases et;subst hU;have R0:=R.del (h':=h) hBr (λ_ _ h=>h) (λ_ _ _ h=>h);have al:∀ L S,thp c { s with hp:=(H,none)::s.hp } L=some S->L≠H/\thp c s L=some S:=λL S C=>by
          rw [kbs] at C;split at C
          ·cases C
          ·rename_i e; exact ⟨e,C⟩
         dsimp only at f;cases R.blk _ _ (kab hBr) with
         | sl0 _ _ _ au p ap am=>
          subst ap;refine fin { s with hp:=(H,none)::s.hp } none rfl R0 ⟨?_,rfl⟩ (λq e=>by cases e) f;cases E with
          | mw0=>rfl
          | mw _ q _ k=>rw [p] at k; cases k
         | sl _ _ _ qr es' au p aA X ar am=>
          refine fin { s with hp:=(H,none)::s.hp } (some qr) rfl R0 ⟨?_,es',aA,X,λe he=>⟨X.heads an e he,ar e he⟩⟩ (λrr e=>?_) f
          ·rw [am];cases E with
           | mw0 _ _ k=>rw [p] at k; cases k
           | mw _ q _ k=>rw [p] at k; cases k; rfl
          ·cases e;refine ⟨R.bnd _ _ _ (kab hBr) p,R.zout _ _ _ (kab hBr) p,λL S C aq=>?_⟩;obtain ⟨w1,w2⟩:=al L S C;exact w1 (R.owI w2 (kab hBr) aq (.inl p))
        ·cases b
       ·cases b
      ·rename_i w;split at b
       ·rename_i hn;cases b;dsimp only at f;refine fin s none rfl R ⟨?_,rfl⟩ (λq e=>by cases e) f;cases E;exact congrArg AV.sc (kbh hn)
       ·cases b
      ·cases b
     ·exact kaa f
    ·exact kaa f
   ·exact kaa f
  ·exact kaa f
 ·exact kaa f
theorem koN (R:Rel P κ ln z c s env h n) {T T2:Yc} {x y:Yf} {da:Yb Nat} {b:Nat} (hu:match da with | none=>ev env x=nilS | some a=>TVR P κ ln z s.n (.fw a) (ev env x)) (hv:TVR P κ ln z s.n (.fw b) (ev env y)) (k:krO P s T T2 da b Kf=some r) :
  Res P κ ln z c s env h n ⟨d,.call ⟨.builtin .append,#[x,y],#[T,T2]⟩,ty,pos,after,g⟩ Kf r:=by
 unfold krO at k;split at k
 ·rename_i e Tb t j U u lb he hBb;replace hBb:=kdv hBb;split at k
  ·rename_i zs hz;split at k
   ·rename_i S;obtain ⟨hp,I,ak,hb,rfl⟩:=S;have A:zs≠[]:=by rintro rfl; simp at I; omega
    have hBb':=kab (c:=c) hBb;obtain ⟨hd,H,b1,b2,b3,b4,b5⟩:=R.famAll hBb';have F:=R.fam b _ hBb' rfl;have M:srcA h zs.length (ev env y)=some H:=by
     rw [I];rcases b5 with ⟨b5,b6⟩ | ⟨q,b5,b6⟩
     ·generalize ev env y=av at hv;cases hv with
      | fw0=>rw [b6]; rfl
      | fw _ q _ f=>rw [b5] at f; cases f
     ·generalize ev env y=av at hv;cases hv with
      | fw0 _ _ f=>rw [b5] at f; cases f
      | fw _ q' _ f=>
       rw [b5] at f; cases f;simp only [srcA,b6];rw [if_pos ⟨trivial,by omega⟩,jcp,jbp (by omega)]
    have Rb:=R.del (h':=h) hBb (λ_ _ h=>h) (λ_ _ _ h=>h);have tb:∀ i p,thp c { s with hp:=(b,none)::s.hp } i=some p->i≠b/\thp c s i=some p:=λi p hi=>by
     rw [kbs] at hi;split at hi
     ·cases hi
     ·rename_i e; exact ⟨e,hi⟩
    split at k
    ·
     simp only [jaa] at k;obtain ⟨l',hg,k⟩:=k;obtain ⟨aa,hg⟩:=kiQ hg;rw [show ([]:Ya t.den)++lb=lb from rfl] at hg;rw [hg] at k;have C:H.length<=1048576:=by simp at aa; omega
     by_cases X:H=[]
     ·subst X;have L:lb=[]:=jbv (by rw [<-b1]; rfl);subst L;refine ⟨.fw s.n,_,nilS,h,n,_,_,_,λK hK=>?_,k,Rb.famNew0 hd,.fw0 s.n (jbl _) updK_self,jca _,kik,λS=>by cases S⟩;simp only [aop,kai,hu,kcf,he,hz,M];exact ⟨hp,A,hb,C,λ_=>hK,λh=>absurd rfl h⟩
     ·have R2:=Rb.famNew (T:=Tb) (U:=U) (u:=u) (j:=j) (es:=H) (rows:=kad (ln b)) hd b1 b2 b3 b4 ⟨F.1,λr hr=>⟨(F.2 r hr).1,(F.2 r hr).2.1,λi p hi ho=>by
       obtain ⟨w1,w2⟩:=tb i p hi;exact w1 (R.owI w2 hBb' ho (.inr ⟨rfl,hr⟩))⟩⟩
      refine ⟨.fw s.n,_,.ms n 0 H.length,_,_,_,_,_,λK hK=>?_,k,R2,?_,jca _,kik,λS=>by cases S⟩
      ·simp only [aop,kai,hu,kcf,he,hz,M];refine ⟨hp,A,hb,C,λh=>absurd h X,λ_=>?_⟩;rw [I]; exact hK
      ·have:=TVR.fw (P:=P) (κ:=updK κ s.n (some n)) (ln:=updK ln s.n (codeR (kad (ln b)))) (z:=z) (N:=s.n+1) s.n n (jbl _) updK_self;rw [updK_self,kbS,<-b2,<-b1] at this;exact this
    ·
     rename_i a;split at k
     ·rename_i Ta ta ja Ua ua la hBa;replace hBa:=kdv hBa;split at k
      ·rename_i aj;obtain ⟨rfl,rfl,rfl,rfl,ad⟩:=aj;split at k
       ·rename_i al ai;obtain ⟨et,rfl⟩:=kak ai;cases et;simp only [jaa] at k;obtain ⟨l',hg,k⟩:=k;obtain ⟨aa,hg⟩:=kiQ hg;subst hg;have hBa':=kab (c:=c) hBa;obtain ⟨_,ea,a1,a2,a3,a4,a5⟩:=R.famAll hBa';have Z:=R.fam a _ hBa' rfl;have hBa0:alk ((b,(none:Yb (TB sem)))::s.hp) a=some (some (.fm Ta t ja Ua ua la none)):=by simp only [alk]; rw [if_neg ad]; exact hBa
        have ac:∀ i p,thp c { s with hp:=(a,none)::(b,none)::s.hp } i=some p->i≠a/\i≠b/\thp c s i=some p:=λi p hi=>by
         rw [kbs (s:={ s with hp:=(b,none)::s.hp })] at hi;split at hi
         ·cases hi
         ·rename_i e;obtain ⟨w1,w2⟩:=tb i p hi;exact ⟨e,w1,w2⟩
        have ab:(((kad (ln a))++(kad (ln b))).filterMap (·.1)).Nodup/\∀ r∈((kad (ln a))++(kad (ln b))).filterMap (·.1),r<n/\z r=none/\∀ i p,thp c { s with hp:=(a,none)::(b,none)::s.hp } i=some p->¬ Ow κ ln i p r:=by
         rw [List.filterMap_append];refine ⟨jea.2 ⟨Z.1,F.1,λr1 af r2 ah e=>?_⟩,λr hr=>?_⟩
         ·subst e;exact ad (R.owI hBa' hBb' (.inr ⟨rfl,af⟩) (.inr ⟨rfl,ah⟩))
         ·rcases jaw.1 hr with hr | hr
          ·refine ⟨(Z.2 r hr).1,(Z.2 r hr).2.1,λi p hi ho=>?_⟩;obtain ⟨w1,w2,w3⟩:=ac i p hi;exact w1 (R.owI w3 hBa' ho (.inr ⟨rfl,hr⟩))
          ·refine ⟨(F.2 r hr).1,(F.2 r hr).2.1,λi p hi ho=>?_⟩;obtain ⟨w1,w2,w3⟩:=ac i p hi;exact w2 (R.owI w3 hBb' ho (.inr ⟨rfl,hr⟩))
        have all:∀ h1:AH,(∀ q B,(∀ r,r∈kao (ln a)\/r∈kao (ln b)->q=r->h q=some B->h1 q=some B))->∀ (i:Nat) (x':t.den) (e':Ya AV) (rm:Yb Nat×Nat),(la++lb)[i]?=some x'->(ea++H)[i]?=some e'->((kad (ln a))++(kad (ln b)))[i]?=some rm->FamE z h1 ja Ua ua.wd (t.enc x') e' rm:=λh1 hh i x' e' rm Y E hr=>by
         rw [jbm] at Y E hr;split at Y
         ·rename_i ae;rw [if_pos (by omega)] at E hr;exact (a3 i x' e' rm Y E hr).mono (λ_ _ h=>h) λq B f hB=>by obtain ⟨r0,m⟩:=rm; simp only at f; subst f; exact hh q B q (.inl (kaK hr)) rfl hB
         ·rename_i ae;rw [if_neg (by omega)] at E hr;rw [show i-ea.length=i-la.length by omega] at E;rw [show i-(kad (ln a)).length=i-la.length by omega] at hr;exact (b3 _ x' e' rm Y E hr).mono (λ_ _ h=>h) λq B f hB=>by obtain ⟨r0,m⟩:=rm; simp only at f; subst f; exact hh q B q (.inr (kaK hr)) rfl hB
        have ones:∀ e'∈ea++H,e'.length=t.wd/\∀ v∈e',v.one=true:=λe' E=>(jaw.1 E).elim (a4 e') (b4 e');have tv:∀ m,m=(kad (ln a)++kad (ln b)).length->TVR P (updK κ s.n (some n)) (updK ln s.n (codeR (kad (ln a)++kad (ln b)))) z (s.n+1) (.fw s.n) (.ms n 0 m):=λm hm=>by
         have:=TVR.fw (P:=P) (κ:=updK κ s.n (some n)) (ln:=updK ln s.n (codeR (kad (ln a)++kad (ln b)))) (z:=z) (N:=s.n+1) s.n n (jbl _) updK_self;rw [updK_self,kbS,<-hm] at this;exact this
        simp only at hu;rcases a5 with ⟨a5,a6⟩ | ⟨qa,a5,a6⟩
        ·
         subst a6;have L:la=[]:=jbv (by rw [<-a1]; rfl);subst L;have Y:ev env x=nilS:=by
          generalize ev env x=av at hu;cases hu with
          | fw0=>rfl
          | fw _ q _ f=>rw [a5] at f; cases f
         have Rab:=Rb.del (h':=h) hBa0 (λ_ _ h=>h) (λ_ _ _ h=>h);have C:H.length<=1048576:=by simp at aa; omega
         by_cases X:H=[]
         ·subst X;have L:lb=[]:=jbv (by rw [<-b1]; rfl);subst L;refine ⟨.fw s.n,_,nilS,h,n,_,_,_,λK hK=>?_,k,Rab.famNew0 hd,.fw0 s.n (jbl _) updK_self,jca _,kik,λS=>by cases S⟩;simp only [aop,kai,Y,kcf,he,hz,M];exact ⟨hp,A,hb,C,λ_=>hK,λh=>absurd rfl h⟩
         ·have R2:=Rab.famNew (T:=Ta) (U:=Ua) (u:=ua) (j:=ja) (l:=[]++lb) (es:=[]++H) (rows:=kad (ln a)++kad (ln b)) hd (by simpa using b1) (by simp at a2 ⊢; omega) (all h (λq B r _ _ hB=>hB)) ones ab;refine ⟨.fw s.n,_,.ms n 0 H.length,_,_,_,_,_,λK hK=>?_,k,R2,tv _ (by simp at a2 ⊢; omega),jca _,kik,λS=>by cases S⟩;simp only [aop,kai,Y,kcf,he,hz,M];refine ⟨hp,A,hb,C,λh=>absurd h X,λ_=>?_⟩;rw [I]; exact hK
        ·have Y:ev env x = .ms qa 0 (kad (ln a)).length:=by
          generalize ev env x=av at hu;cases hu with
          | fw0 _ _ f=>rw [a5] at f; cases f
          | fw _ q _ f=>rw [a5] at f; cases f; rfl
         have Rab:=Rb.del (h':=delH h qa) hBa0 (λq B f=>by unfold delH at f; split at f; cases f; exact f) (λq B f hB=>by unfold delH; rw [if_neg]; exact hB; rintro rfl; exact f a5);have R2:=Rab.famNew (T:=Ta) (U:=Ua) (u:=ua) (j:=ja) (l:=la++lb) (es:=ea++H) (rows:=kad (ln a)++kad (ln b)) hd (by simp; omega) (by simp; omega) (all (delH h qa) (λq B r hr f hB=>by
          unfold delH;rw [if_neg]
          ·exact hB
          ·rintro rfl;subst f;rcases hr with hr | hr
           ·exact (Z.2 _ hr).2.2.1 a _ hBa' a5
           ·exact (F.2 _ hr).2.2.1 a _ hBa' a5)) ones ab
         refine ⟨.fw s.n,_,.ms n 0 ((kad (ln a)).length+H.length),_,_,_,_,_,λK hK=>?_,k,R2,tv _ (by simp; omega),jca _,kik,λS=>by cases S⟩;simp only [aop,kai,Y,kcf,he,hz,M,a6];refine ⟨hp,A,hb,I.symm,trivial,by omega,by have:=aa; omega,?_⟩;exact hK
       ·exact kaa k
      ·exact kaa k
     ·exact kaa k
   ·exact kaa k
  ·exact kaa k
 ·exact kaa k
theorem kvU (R:Rel P κ ln z c s env h n) {T:Yc} {x:Yf} {v:TV sem} (f:TVR P κ ln z s.n v (ev env x)) (e:kvP P s T v Kf=some r):Res P κ ln z c s env h n ⟨d,.range T x,ty,pos,after,g⟩ Kf r:=by
 unfold kvP at e;split at e
 ·rename_i l;split at e
  ·rename_i hT;have hs:ev env x=str l:=by
    generalize ev env x=a at f;cases f with
    | c _ _ _ m hs=>exact hs.sc_inv
   have i:=R.new (h':=updH h n (.si ⟨l.toArray⟩ 0)) (n':=n+1) (.si (l,0)) (some n) 0 (λq B b=>by
    unfold updH; rw [if_neg]; ·exact b
    rintro rfl; rw [R.hn _ (jag _)] at b; cases b) (jca _) (λq b=>by cases b; omega) (λq b=>by unfold updH; rw [if_neg (by omega)]; exact R.hn q (by omega))
    (.si (l,0) n updK_self (by simp) (by simp [updH]))
   exact ⟨.ptr s.n 0,_,.own n 0 0,_,_,_,_,_,λK hK=>by simp only [aop,koK,hs,str]; exact ⟨khJ hT,hK⟩,e,i,.ptr s.n 0 n (jbl _) updK_self,jca _,kik,λk=>by cases k⟩
  ·exact kaa e
 ·exact kaa e
theorem kwl (R:Rel P κ ln z c s env h n) {x:Yf} {v:TV sem} (m:TVR P κ ln z s.n v (ev env x)) (b:nextX s v Kf=some r):Res P κ ln z c s env h n ⟨d,.next x true,ty,pos,after,g⟩ Kf r:=by
 have key:∀ (id:Nat) (l:Ya UInt8) (i:Int),TVR P κ ln z s.n (.ptr id 0) (ev env x)->alk s.hp id=some (some (TB.si (A:=sem) (l,i)))->sem.ite (decide (i<lenI l)) (Kf (.tp [.kb true,.c (.i .i64) i,.c (.i .i32) (runeV (l,i))]) { s with hp:=(id,some (.si (runeN (l,i))))::s.hp }) (Kf (.tp [.kb false]) s)=some r->
   Res P κ ln z c s env h n ⟨d,.next x true,ty,pos,after,g⟩ Kf r:=by
  intro id l i m hB b;cases R.blk _ _ (kab hB) with
  | si _ q C H p=>
   replace H:0<=i:=H;replace p:h q=some (.si ⟨l.toArray⟩ i.toNat):=p;have I:ev env x = .own q 0 0:=by
    generalize ev env x=a at m;cases m with
    | ptr _ _ M _ f=>rw [C] at f; cases f; rfl
   have k:(⟨l.toArray⟩:ByteArray).size=l.length:=by simp [ByteArray.size]
   rcases kcW b with ⟨F,b⟩ | ⟨F,b⟩
   ·have E:i.toNat<(⟨l.toArray⟩:ByteArray).size:=by
     rw [k];have:i<lenI l:=of_decide_eq_true F;unfold lenI at this;omega
    have L:=R.setO (B:=.si (runeN (l,i))) (AB:=.si ⟨l.toArray⟩ (i.toNat+(Utf8.decode ⟨l.toArray⟩ i.toNat).2)) hB (.inl C) (.si (runeN (l,i)) q C (Int.natCast_nonneg _) (by unfold updH; rw [if_pos rfl]; rfl)) (λe=>by cases e);refine ⟨_,_,.tp [.sc (.bool true),.sc (.int .i64 i),.sc (.int .i32 (Utf8.decode ⟨l.toArray⟩ i.toNat).1)],_,_,_,_,_,λK hK=>?_,b,L,?_,jag _,.refl,λu=>by cases u⟩
    ·simp only [aop,nextK,I,p];rw [if_pos E];rw [show ((i.toNat:Nat):Int)=i by omega];exact hK
    ·exact .tp _ _ (.cons _ _ _ _ (.kb true) (.cons _ _ _ _ (.c (.i .i64) i _ rfl (.free _ (.sc _))) (.cons _ _ _ _ (.c (.i .i32) (runeV (l,i)) _ rfl (.free _ (.sc _))) .nil)))
   ·have t:¬ i.toNat<(⟨l.toArray⟩:ByteArray).size:=by
     rw [k];have:¬ i<lenI l:=of_decide_eq_false F;unfold lenI at this;omega
    refine ⟨_,_,.tp [.sc (.bool false)],h,n,_,_,_,λK hK=>?_,b,R,.tp _ _ (.cons _ _ _ _ (.kb false) .nil),jag _,.refl,λu=>by cases u⟩;simp only [aop,nextK,I,p];rw [if_neg t];exact hK
 unfold nextX at b;split at b
 ·rename_i id;split at b
  ·rename_i y hB;exact key id y.1 y.2 m hB b
  ·exact kaa b
 ·exact kaa b
theorem ksN (R:Rel P κ ln z c s env h n) {dst:Yb Tmp} {ty:Yc} {pos:String} {after:Array Edge} {g:Yb (Nat×Bool)} {T:Yc} {len:Nat} {b:Array (Nat×Yf)} {Kf:TV sem->sem.Ans ρ} (f:bsX P c s T len b.toList Kf=some r) :
  ∃ y v,(∀ u n1 (K:K3),K v u n1->aop P env u n1 ⟨dst,.buildSlice T len b,ty,pos,after,g⟩ K)/\Kf y=some r/\TVR P κ ln z s.n y v:=by
 unfold bsX at f;split at f
 ·exact kaa f
 ·rename_i e F;split at f
  ·rename_i t E H hz;split at f
   ·rename_i B;obtain ⟨p,k,m⟩:=B;have x:=kfg H;split at f
    ·rename_i hl;split at f
     ·rename_i ys hp;obtain ⟨k0,xs,k1,k2,k3⟩:=kkL R x b.toList 0 len (by omega) hp;rw [kbB] at k3;have i:∀ l:Ya t.den,lstD (A:=sem) t l=l:=by
       intro l;induction l with
       | nil=>rfl
       | cons a l C=>simp only [lstD]; rw [C]
      rw [i] at f;refine ⟨_,.sl xs,λu n1 K hK=>?_,f,.c _ _ _ x (Snap.of_sl k3)⟩;simp only [aop,F,hz,m];rw [k2 (List.replicate len E) (by simp)];simp only [jdm,jbc];rw [m] at k;exact ⟨p,k,.inr (.inl hK)⟩
     ·exact kaa f
     ·exact kaa f
    ·exact kaa f
   ·exact kaa f
  ·exact kaa f
theorem kxX {Δ:Ya (FuncId×Ctr)} (R:Rel P κ ln z c s env h n) (o:Oper) {a:sem.Ans ρ} (m:famX P c Δ s o Kf=some a) (B:a=some r):Res P κ ln z c s env h n o Kf r:=by
 obtain ⟨d,L,ty,pos,after,g⟩:=o;unfold famX at m;simp only at m;split at m
 ·rename_i T x;have t:=R.ev x;split at m
  ·rename_i id i j A; rw [A] at t; cases m; exact ktK R t B
  ·rename_i id i k j A; rw [A] at t; cases m; exact ktJ R t B
  ·cases m
 ·rename_i T p x;have hp:=R.ev p;split at m
  ·rename_i id i j A; rw [A] at hp; cases m; exact ksB R hp (R.ev x) B
  ·rename_i id i k j A; rw [A] at hp; cases m; exact ksu R hp (R.ev x) B
  ·cases m
 ·rename_i T x f;have t:=R.ev x;split at m
  ·rename_i id i j A; rw [A] at t; cases m; exact kvg R t B
  ·rename_i id i k j A; rw [A] at t; cases m; exact kup R t B
  ·cases m
 ·rename_i T x i;have t:=R.ev x;split at m
  ·rename_i id A; rw [A] at t; cases m; exact ktQ R t (R.ev i) B
  ·rename_i id a A; rw [A] at t; cases m; exact kuY R t (R.ev i) B
  ·cases m
 ·rename_i T x y;split at m
  ·rename_i e A;split at m
   ·cases m; exact ktz R A B
   ·cases m
  ·cases m
 ·rename_i l;obtain ⟨H,args,ts⟩:=l;simp only at m;split at m
  ·rename_i b;split at m
   ·rename_i x T t F;obtain rfl:=arr_of' t;obtain rfl:=arr_of' F;have t:=R.ev x;split at m
    ·rename_i id A; rw [A] at t; cases m; exact kvJ R t B
    ·rename_i id a A; rw [A] at t; cases m; exact kvG R t B
    ·cases m
   ·rename_i x y T I t F;obtain rfl:=arr_of' t;obtain rfl:=arr_of' F;have t:=R.ev x;split at m
    ·rename_i id a A; rw [A] at t; cases m; exact ktV R t (R.ev y) B
    ·rename_i a A; rw [A] at t;have E:=R.ev y;split at m
     ·rename_i b C; rw [C] at E; cases m; exact koN R (da:=some a) t E B
     ·cases m
    ·rename_i u A; rw [A] at t;have E:=R.ev y;split at m
     ·rename_i b C; rw [C] at E;split at m
      ·rename_i hn;cases m;refine koN R (da:=none) ?_ E B;generalize ev env x=a at t;cases t;exact congrArg AV.sc (kbh hn)
      ·cases m
     ·cases m
    ·cases m
   ·cases m
  ·cases m
 ·split at m
  ·cases m; exact kvx R B
  ·cases m
 ·split at m
  ·cases m; exact kua R B
  ·cases m
 ·split at m
  ·cases m; exact krZ R B
  ·split at m
   ·cases m;obtain ⟨M,v,k1,k2,k3⟩:=ksN (dst:=d) (ty:=ty) (pos:=pos) (after:=after) (g:=g) R B;exact R.q (λK hK=>k1 _ _ K hK) k3 k2
   ·cases m
 ·rename_i x;split at m
  ·rename_i u A;split at m
   ·rename_i hn;rw [jac] at hn;cases m;refine kvr R ?_ B;have t:=R.ev x;rw [A] at t;generalize ev env x=a at t;cases t;exact congrArg AV.sc (kbh hn.1)
   ·cases m
  ·cases m
 ·cases m
end
section
variable {P:Yd} {κ κ':Nat->Yb Nat} {ln ln':Nat->Nat} {z z':AH} {c:Cx sem} {s:TS sem} {env:Env} {h h':AH} {n n' N N':Nat}
variable {ρ:Ty} {Kf:TV sem->TS sem->sem.Ans ρ} {r:ρ.den}
theorem kgZ {α:Type} {a:Array α} {l:Ya α} (h:a.toList=l):a=l.toArray:=by rw [<-h]
theorem klr {Δ:Ya (FuncId×Ctr)} {args:Ya (TV sem)} {M:CtrM}:∀ {l:Ya CtrM},pickM c Δ s args l=some M->M∈l
 | [],h=>by cases h
 | C::l,h=>by
  unfold pickM at h;split at h
  ·cases h; exact jcs ..
  ·exact jax _ (klr h)
theorem krP {Δ:Ya (FuncId×Ctr)}:∀ {ts:Ya Ty} {vs:Ya (TV sem)} {l:Ya ((t:Ty)×t.den)} {ids:Ya Nat},kdH (A:=sem) c Δ s ts vs=some (l,ids)->l.length=ts.length
 | [],[],l,ids,hs=>by cases hs; rfl
 | [],_::_,l,ids,hs=>by simp [kdH] at hs
 | _::_,[],l,ids,hs=>by simp [kdH] at hs
 | t::ts,v::vs,l,ids,hs=>by
  simp only [kdH,jaa,jad] at hs;obtain ⟨⟨x,b⟩,e,⟨l',f⟩,hl,a⟩:=hs;cases a;simp [krP hl]
theorem kAI {s s':TS sem} {A:Ya (Nat×Yb (TB sem))} (h:s'.hp=A++s.hp):chgd s s'=A.map (·.1):=by
 unfold chgd;rw [h,jbh,Nat.add_sub_cancel,List.take_left]
theorem kxI {C:CtrM} {u:TS sem} {ids:Ya (Nat×Nat)} {x:Nat×Nat} (a:x∈ids):x.2∈chgd s (khh C s u ids):=by
 rw [kAI (s':=khh C s u ids) rfl,jcm];exact List.mem_append_right _ (jbb.2 ⟨(x.2,none),jbb.2 ⟨x,a,rfl⟩,rfl⟩)
theorem kku {Δ:Ya (FuncId×Ctr)} (I:Goods P Δ) {g:FuncId} {C:CtrM} (u:C.ok=true) (hG:GoodM P g C) (R:Rel P κ ln z c s env h n) {args:Ya (TV sem)} {as:Ya AV} (i:TVRs P κ ln z s.n args as) (b:kkN c Δ s C args Kf=some r) {K:K3}
  (hK:∀ F s' v h' n' κ' ln',Kf F s'=some r->Ke c s.n κ ln κ' ln'->s.n<=s'.n->Rel P κ' ln' ahN c s' env h' n'->TVR P κ' ln' ahN s'.n F v->(∀ q,q<n->h' q=h q\/∃ id∈chgd s s',(∃ B,thp c s id=some B)/\q∈ows κ ln c s id)->K v h' n'):HC P g as h n K:=by
 unfold kkN at b;split at b
 ·exact kaa b
 ·rename_i f;simp only [jat,jaj,jbd,not_or,jbk,Bool.not_eq_false,ne_eq,Decidable.not_not] at f;obtain ⟨⟨p,k⟩,_⟩:=f;split at b
  ·rename_i l hl;split at b
   ·rename_i m H;split at b
    ·rename_i e;rw [jac,jac] at e;split at b
     ·rename_i a Y;obtain ⟨y,M,b⟩:=jaa.1 b;dsimp only at b;split at b
      ·rename_i E;rw [jac] at E;have A:=R.dy k;obtain ⟨bs,g1,T,Z⟩:=kfX I R _ _ _ (krV C.ks i) hl;subst A;refine kxF hG u R k i p (krP hl) g1 T Z H (by simpa [jcw] using e.1.1) e.1.2 e.2 Y M E.1 E.2 λv h' n' κ' ln' L h1 h2 U=>hK _ _ v h' n' κ' ln' b L (Nat.le_add_right _ _) h1 h2 λq X=>(U q X).imp id λ⟨x,S,t⟩=>⟨x.2,kxI S,t⟩
      ·exact kaa b
     ·exact kaa b
    ·exact kaa b
   ·exact kaa b
  ·exact kaa b
theorem kgc {Δ:Ya (FuncId×Ctr)} (L:Goods P Δ) (R:Rel P κ ln z c s env h n) (o:Oper) (e:xop P c Δ s o Kf=some r):Res P κ ln z c s env h n o Kf r:=by
 unfold xop at e;split at e
 ·rename_i a B;exact kxX R o B e
 rename_i F;clear F;obtain ⟨d,Y,ty,pos,after,g⟩:=o;simp only at e;split at e
 ·rename_i x; exact kpP (o:=⟨d,.move x,ty,pos,after,g⟩) rfl R (R.ev x) (λK e=>by simp only [aop]; exact e) e
 ·rename_i x; exact kpP (o:=⟨d,.assign x,ty,pos,after,g⟩) rfl R (R.ev x) (λK e=>by simp only [aop]; exact e) e
 ·rename_i x a b;have p:=R.ev x;split at e
  ·rename_i t C;rw [C] at p;generalize k:ev env x=av at p;cases p;cases t
   ·exact R.q (λK e=>by simp only [aop,k]; exact e) (R.ev b) e
   ·exact R.q (λK e=>by simp only [aop,k]; exact e) (R.ev a) e
  ·rename_i y C;rw [C] at p;have k:=p.b_inv;rcases kcW e with ⟨A,e⟩ | ⟨A,e⟩
   ·rw [A] at k; exact R.q (λK e=>by simp only [aop,k]; exact e) (R.ev a) e
   ·rw [A] at k; exact R.q (λK e=>by simp only [aop,k]; exact e) (R.ev b) e
  ·exact kaa e
 ·exact kvi R e
 ·exact kxW R (R.ev _) e
 ·exact kwm R (R.ev _) e
 ·exact kul R (R.ev _) (R.ev _) e
 ·exact kxt R (R.ev _) e
 ·exact kxA R (R.ev _) (R.ev _) e
 ·exact kyg R (R.ev _) e
 ·exact kwg R (R.ev _) e
 ·rename_i f first u
  split at e
  ·rename_i E;have B:first = #[]:=by simpa [Array.isEmpty_iff] using E
   refine R.q (λK e=>by simp only [aop]; exact ⟨B,e⟩) (.fn f _ (u.toList.map (ev env)) ?_) e;generalize u.toList=l;induction l with
   | nil=>exact .nil
   | cons x l U=>exact .cons _ _ _ _ (R.ev x) U
  ·exact kaa e
 ·exact kqR R e
 ·exact ktZ R (R.ev _) e
 ·exact kqa R (R.ev _) e
 ·exact kuT R (R.ev _) e
 ·exact ksl R (R.ev _) (R.ev _) e
 ·exact kxo R (R.ev _) (R.ev _) e
 ·rename_i x i;have p:=R.ev x;split at e
  ·rename_i vs C;rw [C] at p;generalize k:ev env x=av at p;cases p with
   | tp _ as H=>
    split at e
    ·rename_i v S;obtain ⟨a,X,I⟩:=H.at S;exact R.q (λK e=>s_ext k X e) I e
    ·exact kaa e
  ·exact kaa e
 ·exact kuH R e
 ·exact kpj R e
 ·exact ksv R e
 ·exact ktw R (R.ev _) (R.ev _) e
 ·exact ktv R (R.ev _) (R.ev _) (R.ev _) e
 ·exact ktH R (R.ev _) (R.ev _) e
 ·exact kvR R (R.ev _) (R.ev _) (R.ev _) e
 ·exact kvU R (R.ev _) e
 ·exact kwl R (R.ev _) e
 ·exact absurd (show (none:Yb ρ.den)=some r from e) (by simp)
 ·rename_i l;obtain ⟨callee,args,ts⟩:=l;split at e
  ·rename_i b A;simp only at A;subst A;split at e
   ·rename_i x T m h2;obtain rfl:=kgZ m;obtain rfl:=kgZ h2;exact kxp R (R.ev _) e
   ·rename_i x y T M m h2;obtain rfl:=kgZ m;obtain rfl:=kgZ h2;exact kxu R (R.ev _) (R.ev _) e
   ·rename_i x y T M m h2;obtain rfl:=kgZ m;obtain rfl:=kgZ h2;exact kws R (R.ev _) (R.ev _) e
   ·rename_i x y m;obtain rfl:=kgZ m;exact kth (mx:=false) R (R.ev _) (R.ev _) e
   ·rename_i x y m;obtain rfl:=kgZ m;exact kth (mx:=true) R (R.ev _) (R.ev _) e
   ·rename_i x y q m;obtain rfl:=kgZ m;exact krD (mx:=false) R (R.ev _) (R.ev _) (R.ev _) e
   ·rename_i x y q m;obtain rfl:=kgZ m;exact krD (mx:=true) R (R.ev _) (R.ev _) (R.ev _) e
   ·exact kaa e
  ·rename_i f B;exact kwj L R B e
  ·exact kaa e
 ·exact kaa e
theorem kuw {p:Pat} {i:Nat} (R:Rel P κ ln z c s env h n) {v:TV sem} {a:AV} (f:TVR P κ ln z s.n v a) :
  ∃ κ' ln',Rel P κ' ln' z c (kmj (A:=sem) p i v s).2 env h n/\TVR P κ' ln' z (kmj (A:=sem) p i v s).2.n (kmj (A:=sem) p i v s).1 a/\(∀ id,id<s.n->κ' id = κ id/\ln' id=ln id)/\s.n<=(kmj (A:=sem) p i v s).2.n:=by
 have same:∃ κ' ln',Rel P κ' ln' z c s env h n/\TVR P κ' ln' z s.n v a/\(∀ id,id<s.n->κ' id = κ id/\ln' id=ln id)/\s.n<=s.n:=⟨κ,ln,R,f,λ_ _=>⟨rfl,rfl⟩,jag _⟩;unfold kmj;split
 ·rename_i u q b;split
  ·rename_i T t x;split
   ·rename_i e;simp only [jac] at e;obtain ⟨hn,k⟩:=e;obtain rfl:=kbh hn;cases f;have m:=R.new (h':=h) (n':=n) (.sl T t []) none 0 (λq B b=>b) (jag _) (λq b=>by cases b) R.hn (.sl0 T t [] k updK_self rfl updK_self);exact ⟨_,_,m,.mw0 s.n (jbl _) updK_self,λid hi=>⟨kaC hi,kaC hi⟩,jca _⟩
   ·exact same
  ·exact same
 ·exact same
theorem knn {p:Pat}:∀ {vs:Ya (TV sem)} {as:Ya AV} {i:Nat} {κ:Nat->Yb Nat} {ln:Nat->Nat} {s:TS sem},Rel P κ ln z c s env h n->TVRs P κ ln z s.n vs as->
  ∃ κ' ln',Rel P κ' ln' z c (kkl (A:=sem) p vs i s).2 env h n/\TVRs P κ' ln' z (kkl (A:=sem) p vs i s).2.n (kkl (A:=sem) p vs i s).1 as/\(∀ id,id<s.n->κ' id = κ id/\ln' id=ln id)/\s.n<=(kkl (A:=sem) p vs i s).2.n
 | [],_,i,κ,ln,s,R,.nil=>⟨κ,ln,R,.nil,λ_ _=>⟨rfl,rfl⟩,jag _⟩
 | v::vs,_,i,κ,ln,s,R,.cons _ a _ as hv hs=>by
  obtain ⟨B,x,t,e,k1,n1⟩:=kuw (p:=p) (i:=i) R hv;have k:=hs.mono (λid hi=>(k1 id hi).1) (λid hi=>(k1 id hi).2) (λ_ _ h=>h) n1;obtain ⟨u,f,y,b,k2,m⟩:=knn (p:=p) (i:=i+1) t k;exact ⟨u,f,y,.cons _ _ _ _ (e.mono (λid hi=>(k2 id hi).1) (λid hi=>(k2 id hi).2) (λ_ _ h=>h) m) b,λid hi=>⟨((k2 id (by omega)).1).trans (k1 id hi).1,((k2 id (by omega)).2).trans (k1 id hi).2⟩,jda n1 m⟩
def nilB (a:Bool) (e:Yb Bool) (b:Bool):Prop:=
 match e with
 | some e=>e=false->b=a
 | none=>b = !a
theorem kAD {P:Yd} {h:AH} {i:BinOp} {T:Yc} {a:AV} {e:Yb Bool} (hT:(elemO P T).isSome=true) (y:i = .eql\/i = .neq) (F:AV->Prop)
  (v:∀ (w:World) (O:Nat->Prop) (μ:Mu) (n:Nat) (u:Ye),HR w O μ h n->VR w O μ n a u->∃ p l c,u = .slice p l c/\nilB false e p.isNone)
  (hF:∀ b,nilB (i == .neq) e b->F (.sc (.bool b))) (A:∀ k x,a≠.sc (.int k x)) (hs:∀ x,a≠.sc (.string x)) (f:∀ x,a≠.sc (.bool x)):abin P h i T a (.sc (.slice none 0 0)) F:=by
 obtain ⟨E,hE⟩:=jao.1 hT;have hU:=kcH hE;have t:=kzw (S:=nilB false e) hU v;have:∃ S,Cmp P h i T a (.sc (.slice none 0 0)) S/\∀ b,S b->F (.sc (.bool b)):=by
  rcases y with rfl | rfl
  ·exact ⟨_,t.1,λb f=>hF b f⟩
  ·refine ⟨_,t.2,λb f=>hF b ?_⟩;cases e <;> simp [nilB] at f ⊢
   ·exact f
   ·intro m; have:=f m; cases b <;> simp at this ⊢
 unfold abin;split
 ·rename_i m h2; cases h2
 ·rename_i m h2; cases h2
 ·rename_i m h2; cases h2
 ·exact this
theorem kmM (R:Rel P κ ln z c s env h n) {o:Oper} {Z:Bool} {e:Yb Bool} (hn:nilC (A:=sem) P c s o=some (Z,e)) {K:K3} (hK:∀ b,nilB Z e b->K (.sc (.bool b)) h n):aop P env h n o K:=by
 obtain ⟨d,op,ty,pos,after,g⟩:=o;unfold nilC at hn;split at hn
 ·rename_i I T x v T2 M;simp only at M; subst M;split at hn
  ·rename_i f;simp only [jac,jat,beq_iff_eq] at f;obtain ⟨⟨C,hT⟩,L⟩:=f;have C:=kbh C;subst C;have F:=R.ev x;have ms:∀ {q off len:Nat} {k:Nat} {T':Yc} {es:Ya (Ya AV)} {e:Yb Bool},(e≠none)->h q=some (.cells k T' es)->∀ (w:World) (O:Nat->Prop) (μ:Mu) (n:Nat) (u:Ye),HR w O μ h n->VR w O μ n (.ms q off len) u->∃ p l c,u = .slice p l c/\nilB false e p.isNone:=by
    intro q off len k T' es e H i w O μ n u hr B;obtain ⟨b,cc,m,h2,X⟩:=hr.own_cells i;cases B with
    | ms _ _ _ _ ac ab C=>
     obtain ⟨o,cap,c,T,rfl,_⟩:=C b k m;refine ⟨_,_,_,rfl,?_⟩;cases e with
     | none=>exact absurd rfl H
     | some e=>intro _; rfl
   have Y:∀ {e:Yb Bool},(e=none\/e=some true)->∀ (w:World) (O:Nat->Prop) (μ:Mu) (n:Nat) (u:Ye),HR w O μ h n->VR w O μ n Abs.nilS u->∃ p l c,u = .slice p l c/\nilB false e p.isNone:=by
    intro e H w O μ n u hr B;refine ⟨none,0,0,B.sc_inv,?_⟩;rcases H with rfl | rfl
    ·rfl
    ·intro h; cases h
   have fin:∀ {a:AV} {e:Yb Bool},ev env x=a->(∀ b,nilB (I == .neq) e b->K (.sc (.bool b)) h n)->(∀ (w:World) (O:Nat->Prop) (μ:Mu) (n:Nat) (u:Ye),HR w O μ h n->VR w O μ n a u->∃ p l c,u = .slice p l c/\nilB false e p.isNone)->(∀ k x,a≠.sc (.int k x))->(∀ x,a≠.sc (.string x))->(∀ x,a≠.sc (.bool x))->
     aop P env h n ⟨d,.binOp I T x (.const (.slice none 0 0)) T2,ty,pos,after,g⟩ K:=by
    intro a e E hK C m h2 X;simp only [aop,E];exact kAD hT L _ C hK m h2 X
   generalize aa:tev c s x=tv at hn F;split at hn
   ·rename_i t l;cases hn;cases F with
    | c _ _ a S hs=>
     replace hs:Snap z _ (.sl (l.map t.enc)):=hs;rcases hs.sl_inv with ⟨es,E,m⟩ | ⟨E,m⟩ | ⟨id,off,len,k,T',es,E,m,h2,X⟩
     ·refine fin E hK (λw O μ n u hr B=>?_) (by intros; simp) (by intros; simp) (by intros; simp);obtain ⟨p,l',c',rfl,hp⟩:=kBp B;refine ⟨_,_,_,rfl,λhl=>hp ?_⟩;have:=m.1;rw [jaq] at this;intro H; subst H;have:l=[]:=jbv (by simpa using this);subst this; simp [isE] at hl
     ·simp only [jdr] at m; subst m;exact fin E hK (Y (.inr rfl)) (by intros; simp [Abs.nilS]) (by intros; simp [Abs.nilS]) (by intros; simp [Abs.nilS])
     ·exact fin E hK (ms (by simp) (R.zin _ _ m)) (by intros; simp) (by intros; simp) (by intros; simp)
   ·rename_i id;split at hn
    ·rename_i T' t l hb;cases hn;have hB:=R.blk _ _ hb;generalize y:ev env x=a at F;cases F with
     | mw0 _ hN U=>
      cases hB with
      | sl0 _ _ _ S i hl hn=>subst hl; exact fin y hK (Y (.inr rfl)) (by intros; simp [Abs.nilS]) (by intros; simp [Abs.nilS]) (by intros; simp [Abs.nilS])
      | sl _ _ _ q es S i=>rw [U] at i; cases i
     | mw _ q hN U=>
      cases hB with
      | sl0 _ _ _ S i hl hn=>rw [U] at i; cases i
      | sl _ _ _ q' es S i hh=>rw [U] at i; cases i; exact fin y hK (ms (by simp) hh) (by intros; simp) (by intros; simp) (by intros; simp)
    ·cases hn
   ·rename_i u;split at hn
    ·rename_i B;cases hn;have B:=kbh B;subst B;generalize y:ev env x=a at F;cases F with
     | sc _ m=>exact fin y hK (Y (.inl rfl)) (by intros; simp) (by intros; simp) (by intros; simp)
    ·cases hn
   ·cases hn
  ·cases hn
 ·cases hn
theorem ksM:∀ {l:Ya (sem.Ans ρ)},altL (A:=sem) l=some r->∃ x∈l,x=some r
 | [],h=>by cases h
 | [x],h=>⟨x,by simp,h⟩
 | x::y::l,h=>by
  rcases kzf h with h | h
  ·exact ⟨x,by simp,h⟩
  ·obtain ⟨z,hz,e⟩:=ksM h;exact ⟨z,by simp only [jbq] at hz ⊢; exact .inr hz,e⟩
theorem kxK {Δ:Ya (FuncId×Ctr)} (I:Goods P Δ) (R:Rel P κ ln z c s env h n) (o:Oper) (k:xopM P c Δ s o Kf=some r) {K:K3}
  (hK:∀ E s' v h' n' κ' ln' z',Kf E s'=some r->Ke c s.n κ ln κ' ln'->s.n<=s'.n->Rel P κ' ln' z' c s' env h' n'->TVR P κ' ln' z' s'.n E v->K v h' n'):aop P env h n o K:=by
 unfold xopM at k;split at k
 ·rename_i M args a;obtain ⟨d,op,ty,pos,after,g⟩:=o;unfold useM at a;simp only at a;split at a
  ·rename_i l;split at a
   ·rename_i f S;split at a
    ·rename_i gg B A;split at a
     ·rename_i C hC;obtain ⟨M',hM,y⟩:=jad.1 a;cases y;have t:TVRs P κ ln z s.n (l.args.toList.map (tev c s)) (l.args.toList.map (ev env)):=by
       generalize l.args.toList=xs;induction xs with
       | nil=>exact .nil
       | cons x xs U=>exact .cons _ _ _ _ (R.ev x) U
      have u:=R.ev f;rw [A] at u;obtain ⟨as,F,m⟩:=u.fn_inv;have one:∀ M∈C.mus,kkN c Δ s M (l.args.toList.map (tev c s)++B) Kf=some r->aop P env h n ⟨d,.call l,ty,pos,after,g⟩ K:=λM hM k=>by
       have hG:=(I.at hC).2.2.1 M hM;exact kic S F rfl (kku I hG.1 hG.2 R (t.append m) k λE s' v h' n' κ' ln' h1 h2 h3 Y X _=>hK E s' v h' n' κ' ln' ahN h1 h2 h3 Y X)
      split at k
      ·exact one M (klr hM) k
      ·obtain ⟨x,hx,e⟩:=ksM k;obtain ⟨M2,hM2,rfl⟩:=jbb.1 hx;unfold altsM at hM2;simp only [S,A,hC] at hM2;exact one M2 (jeb.1 hM2).1 e
     ·cases a
    ·cases a
   ·cases a
  ·cases a
 ·rename_i H;clear H;split at k
  ·rename_i M args s1 a;obtain ⟨d,op,ty,pos,after,g⟩:=o;unfold useN at a;simp only at a;split at a
   ·rename_i l;split at a
    ·rename_i f S;split at a
     ·rename_i gg B A;split at a
      ·rename_i C hC;obtain ⟨M0,hM0,y⟩:=List.exists_of_findSome?_eq_some a;obtain ⟨M',hM,y⟩:=jad.1 y;have L:M'=M0:=by simpa using klr hM
       rw [L] at y;cases y;have hG:=(I.at hC).2.2.1 M hM0;have t:TVRs P κ ln z s.n (l.args.toList.map (tev c s)) (l.args.toList.map (ev env)):=by
        generalize l.args.toList=xs;induction xs with
        | nil=>exact .nil
        | cons x xs U=>exact .cons _ _ _ _ (R.ev x) U
       have u:=R.ev f;rw [A] at u;obtain ⟨as,F,m⟩:=u.fn_inv;obtain ⟨κ1,Z,R1,aa,k1,n1⟩:=knn (p:=M.inp) (i:=0) R (t.append m);have ab:Ke c s.n κ ln κ1 Z:=λid hi=>⟨(k1 id hi).1,λ_=>(k1 id hi).2⟩;exact kic S F rfl (kku I hG.1 hG.2 R1 aa k λE s' v h' n' κ' ln' h1 h2 h3 Y X _=>hK E s' v h' n' κ' ln' ahN h1 (ab.trans h2 n1) (jda n1 h3) Y X)
      ·cases a
     ·cases a
    ·cases a
   ·cases a
  ·split at k
   ·rename_i ne e hn;rcases kcW k with ⟨y,k⟩ | ⟨y,k⟩
    ·obtain ⟨k1,k2⟩:=ktp k;refine kmM R hn λb T=>?_;cases b
     ·exact hK _ s _ h n κ ln z k2 .refl (jag _) R (.kb false)
     ·exact hK _ s _ h n κ ln z k1 .refl (jag _) R (.kb true)
    ·refine kmM R hn λb T=>?_;obtain rfl:=T (by simpa using y);exact hK _ s _ h n κ ln z k .refl (jag _) R (.kb _)
   ·rename_i ne hn;refine kmM R hn λb T=>?_;subst T;exact hK _ s _ h n κ ln z k .refl (jag _) R (.kb _)
   ·obtain ⟨E,s',v,h',n',κ',ln',z',g1,g2,g3,g4,g6,g7,_⟩:=kgc I R o k;exact g1 _ (hK E s' v h' n' κ' ln' z' g2 g7 g6 g3 g4)
theorem Rel.putT (R:Rel P κ ln z c s env h n) {v:TV sem} {a:AV} (m:TVR P κ ln z s.n v a) (d:Yb Tmp) (k:∀ x,d=some x->alk c.e0 x=none):Rel P κ ln z c (Abs.putT s d v) (putE env d a) h n:=by
 cases d with
 | none=>exact R
 | some d=>
  refine ⟨λx=>?_,R.blk,R.lt,R.inj,R.zin,R.zout,R.bnd,R.hn,λx i f=>?_,R.g,R.dy,R.zk,R.fam⟩
  ·show TVR P κ ln z s.n (tlk c { s with env:=(d,v)::s.env } x) (if x=d then a else lk env x);unfold tlk;simp only [alk];by_cases b:x=d
   ·rw [if_pos b,if_pos b]; exact m
   ·rw [if_neg b,if_neg b]; exact R.env x
  ·simp only [Abs.putT,alk] at f;split at f
   ·rename_i e; subst e; exact k _ rfl
   ·exact R.e0 x i f
theorem kuD {e:Ya (Yb Tmp)} (h:okD c e=true) {j:Nat} {x:Tmp} (a:kbz e j=some x):alk c.e0 x=none:=by
 unfold kbz at a;cases b:e[j]? with
 | none=>rw [b] at a; cases a
 | some d=>
  rw [b] at a;simp only [jab,id] at a;subst a;have:=jam.1 h _ (jak b);simpa using this
theorem kwJ {a:Ya (Yb Tmp)} (h:okD c a=true) {d:Yb Tmp} (b:d∈a):∀ x,d=some x->alk c.e0 x=none:=λx e=>by
 subst e;have:=jam.1 h _ b;simpa using this
theorem Rel.again {a:Env} (R:Rel P κ ln z c s env h n) (b:∀ x,lk a x=lk env x):Rel P κ ln z c s a h n:=
 ⟨λx=>by rw [b]; exact R.env x,R.blk,R.lt,R.inj,R.zin,R.zout,R.bnd,R.hn,R.e0,R.g,R.dy,R.zk,R.fam⟩
theorem Rel.know (R:Rel P κ ln z c s env h n) {d:Tmp} {v:TV sem} {a:AV} (e:TVR P κ ln z s.n v a) (b:alk c.e0 d=none):Rel P κ ln z c { s with env:=(d,v)::s.env } ((d,a)::env) h n:=
 R.putT e (some d) λx f=>by cases f; exact b
theorem kdG {d:Yb Tmp} {v:TV sem}:(Abs.putT s d v).n=s.n:=by cases d <;> rfl
theorem kdm {Δ:Ya (FuncId×Ctr)} (C:Goods P Δ) {A:Ya (Yb Tmp)} (i:okD c A=true) {Kf:TS sem->sem.Ans ρ} {K:St->Prop} {F:Nat} {κ0:Nat->Yb Nat} {B:Nat->Nat} (hK:∀ κ ln z s' y h' n',Ke c F κ0 B κ ln->Rel P κ ln z c s' y h' n'->Kf s'=some r->K ⟨y,h',n'⟩) :
  ∀ (l:Ya Oper) {κ:Nat->Yb Nat} {ln:Nat->Nat} {z:AH} {s:TS sem} {env:Env} {h:AH} {n:Nat},Ke c F κ0 B κ ln->F<=s.n->(∀ o∈l,o.dst∈A)->Rel P κ ln z c s env h n->xops P c Δ A l s Kf=some r->aops P A l ⟨env,h,n⟩ K
 | [],κ,ln,z,s,env,h,n,ke,kn,_,R,f=>hK _ _ _ _ _ _ _ ke R f
 | o::l,κ,ln,z,s,env,h,n,ke,kn,hl,R,f=>by
  have m:∀ o∈l,o.dst∈A:=λo U=>hl o (jax _ U);have p:=kwJ i (hl o (jcs ..));have one:∀ {κ:Nat->Yb Nat} {ln:Nat->Nat} {z:AH} {s:TS sem} {env:Env} {h:AH} {n:Nat},Ke c F κ0 B κ ln->F<=s.n->Rel P κ ln z c s env h n->(xopM P c Δ s o λv s'=>xops P c Δ A l (putT s' o.dst v) Kf)=some r->aop P env h n o λv h n=>aops P A l ⟨putE env o.dst v,h,n⟩ K:=λ{κ ln z s env h n} ke kn R f=>by
   exact kxK C R o f λZ s' v h' n' κ' ln' z' T Y g7 X g4=>kdm C i hK l (ke.trans Y kn) (by rw [kdG]; omega) m (X.putT g4 o.dst p) T
  simp only [xops] at f;simp only [aops];cases S:o.guard with
  | none=>
   rw [S] at f;exact one ke kn R f
  | some jw=>
   obtain ⟨j,E⟩:=jw;rw [S] at f;simp only at f ⊢;cases hs:kbz A j with
   | none=>rw [hs] at f; exact kaa f
   | some d=>
    rw [hs] at f;simp only at f ⊢;have M:=kuD i hs;have I:=R.env d;generalize aa:tlk c s d=Z at I f;generalize L:lk env d=a at I;cases I <;> first | exact kaa f | skip
    ·
     exact kdm C i hK l ke (by rw [kdG]; exact kn) m (R.putT .ud o.dst p) f
    ·
     rename_i t x hd H;cases t <;> first | exact kaa f | skip
     obtain rfl:=H.sc_inv;have k1:∀ w:Bool,x=w->Rel P κ ln z c { s with env:=(d,.kb w)::s.env } ((d,.sc (.bool w))::env) h n:=λw hw=>R.know (.kb w) M;dsimp only at f;cases E
     ·dsimp only at f;rcases kcW f with ⟨u,f⟩ | ⟨u,f⟩
      ·refine ⟨λe=>?_,λ_=>?_⟩
       ·exact absurd (u.symm.trans e) (by decide)
       ·exact kdm C i hK l ke (by rw [kdG]; exact kn) m ((k1 true u).putT .ud o.dst p) f
      ·refine ⟨λ_=>?_,λe=>?_⟩
       ·exact one ke (by exact kn) (k1 false u) f
       ·exact absurd (u.symm.trans e) (by decide)
     ·dsimp only at f;rcases kcW f with ⟨u,f⟩ | ⟨u,f⟩
      ·refine ⟨λ_=>?_,λe=>?_⟩
       ·exact one ke (by exact kn) (k1 true u) f
       ·exact absurd (u.symm.trans e) (by decide)
      ·refine ⟨λe=>?_,λ_=>?_⟩
       ·exact absurd (u.symm.trans e) (by decide)
       ·exact kdm C i hK l ke (by rw [kdG]; exact kn) m ((k1 false u).putT .ud o.dst p) f
    ·
     rename_i b;dsimp only at f;have ag:Rel P κ ln z c s ((d,.sc (.bool b))::env) h n:=R.again λx=>by
      show (if x=d then _ else lk env x)=_;split
      ·rename_i e; rw [e,L]
      ·rfl
     split at f
     ·rename_i k;have k:=eq_of_beq k;subst k;refine ⟨λ_=>one ke (by exact kn) ag f,λe=>?_⟩;cases b <;> cases e
     ·rename_i k;refine ⟨λe=>by rw [e] at k; simp at k,λe=>?_⟩;rw [<-e];exact kdm C i hK l ke (by rw [kdG]; exact kn) m (ag.putT .ud o.dst p) f
end
section
variable {P:Yd} {κ κ' κ0:Nat->Yb Nat} {ln ln':Nat->Nat} {z z':AH} {c:Cx sem} {s:TS sem} {env:Env} {h h' hs:AH} {n n':Nat}
variable {ρ:Ty} {r:ρ.den} {o:Oper} {wc:Ya Nat} {rd:Ya (Nat×Nat)} {b1 b2:Ya Nat} {tr:Ya Rec} {j:Nat} {next:St->Ya Rec->Prop}
theorem kmY (a:cls o=1\/cls o=2):calm o=true:=by
 obtain ⟨dst,e,ty,pos,after,g⟩:=o;cases e <;> simp only [cls] at a <;> try (first | rfl | (exfalso; rcases a with h | h <;> cases h; done))
 case call l=>
  obtain ⟨callee,args,ts⟩:=l;cases callee with
  | builtin b=>cases b <;> first | rfl | (exfalso; rcases a with h | h <;> cases h)
  | value _=>exfalso; rcases a with h | h <;> cases h
  | invoke _ _=>exfalso; rcases a with h | h <;> cases h
theorem kkS {Δ:Ya (FuncId×Ctr)} (hΔ:Goods P Δ) (R:Rel P κ ln z c s env h n) {dst:Yb Tmp} {ty:Yc} {pos:String} {after:Array Edge} {g:Yb (Nat×Bool)} {l:Call} {f:Yf} (M:l.callee = .value f) {Kf:TV sem->sem.Ans ρ} (b:kkt c Δ s (tev c s f) (l.args.toList.map (tev c s)) Kf=some r) :
  ∃ tv v,(∀ E n1 (K:K3),(∀ q B,h q=some B->E q=some B)->K v E n1->aop P env E n1 ⟨dst,.call l,ty,pos,after,g⟩ K)/\Kf tv=some r/\TVR P κ ln z s.n tv v:=by
 have I:=R.ev f;have p:TVRs P κ ln z s.n (l.args.toList.map (tev c s)) (l.args.toList.map (ev env)):=by
  generalize l.args.toList=as;induction as with
  | nil=>exact .nil
  | cons x as ih=>exact .cons _ _ _ _ (R.ev x) ih
 unfold kkt at b;split at b
 ·rename_i gg af he;rw [he] at I;obtain ⟨as,L,A⟩:=I.fn_inv;split at b
  ·exact kaa b
  ·rename_i C hC;have hG:=hΔ.at hC;split at b
   ·exact kaa b
   ·rename_i la ids u;obtain ⟨ab,g1,H,g3⟩:=kfX hΔ R _ _ _ (p.append A) u;split at b
    ·exact kaa b
    ·rename_i a U;have hAR:=kjr _ _ _ _ g1 U;split at b
     ·rename_i k;simp only [jaa] at b;obtain ⟨y,hy,b⟩:=b;refine ⟨_,_,λE n1 K hh hK=>?_,b,koo C.rs y hG.1⟩;by_cases e:C.rs.all Ty.flat=true
      ·exact kic M L rfl (PC.lend1 (H.mono λq B S=>hh q B (keQ R.zin q B S)) (hG.2.1 a y hy _ hAR) (kuf _ _ e) hK)
      ·rw [jbk] at e;rw [e,jcn,jac,jcw,jbd] at k;obtain ⟨rfl,Y⟩:=k;rw [kbB] at H;have X:=R.dy Y;exact kic M L rfl (PC.eat (hE:=z) (h':=E) [] (λi B hi=>by rw [X] at hi; cases hi) (λi B hi=>⟨rfl,hi⟩) H (hG.2.1 a y hy _ hAR) hK)
     ·exact kaa b
 ·rename_i m x y F he;rw [he] at I;split at b
  ·rename_i hx;split at b
   ·exact kaa b
   ·rename_i la ids u;obtain ⟨ab,g1,H,g3,g4,g5⟩:=kha R _ _ _ p u;split at b
    ·exact kaa b
    ·rename_i a U;split at b
     ·rename_i e;simp only [jaa] at b;obtain ⟨w,hw,b⟩:=b;generalize ae:ev env f=fa at I;cases I with
      | cv _ _ _ _ _ aa=>
       obtain ⟨gg,as,rfl,t,T,ac,ad,Z⟩:=aa;have hAR:=knN ac (kjr _ _ _ _ g1 U);have hp:=Z _ w hw;rw [kna m (untup m x) x hx a T,<-hAR] at hp;refine ⟨_,_,λE n1 K hh hK=>?_,b,.free ad⟩;exact kic M ae rfl (PC.lend1 ((H.append (SnapL.free t)).mono λq B S=>hh q B (keQ R.zin q B S)) hp (kje _ _ e) hK)
     ·exact kaa b
  ·exact kaa b
 ·exact kaa b
theorem kAX {v:TV sem} {a:AV} {i:Nat} {N:Nat} (f:TVR P κ ln z N v a) (b:tid v=some i):∀ q,avId a=some q->κ i=some q\/(isRow v=true/\q∈kao (ln i)):=by
 intro q e;cases f <;> simp only [tid,Option.some.injEq,reduceCtorEq] at b <;> subst b <;> simp only [avId,nilS,Option.some.injEq,reduceCtorEq] at e <;> subst e <;> first | (left; assumption) | (right; exact ⟨rfl,kaK (by assumption)⟩)
end
section
variable {P:Yd} {κ0:Nat->Yb Nat} {c:Cx sem} {hs:AH}
variable {ρ:Ty} {r:ρ.den} {wc:Ya Nat} {rd:Ya (Nat×Nat)} {b1 b2:Ya Nat}
variable {N:Nat} {D:DX} {O:Nat->Prop} {Q:Exit->St->Prop}
end
theorem ksH {α:Type} {f:α->α->Bool}:∀ (x y:Ya α),x.length=y.length->(∀ a∈x,∀ b,f a b=true->a=b)->((x.zip y).all λp=>f p.1 p.2)=true->x=y
 | [],[],_,_,_=>rfl
 | [],_::_,h,_,_=>by simp at h
 | _::_,[],h,_,_=>by simp at h
 | a::x,b::y,h,hf,ha=>by
  simp only [List.zip_cons_cons,jed,jac] at ha;rw [hf a (by simp) b ha.1,ksH x y (by simpa using h) (λa h=>hf a (jax _ h)) ha.2]
theorem Ty.beq_eq:∀ (t:Ty) (x y:t.den),t.beq x y=true->x=y
 | .i _,x,y,h=>by simpa [Ty.beq] using h
 | .b,x,y,h=>by simpa [Ty.beq] using h
 | .s,x,y,h=>by simpa [Ty.beq] using h
 | .un,_,_,_=>rfl
 | .nt,_,_,h=>by simp [Ty.beq] at h
 | .pr u v,x,y,h=>by
  simp only [Ty.beq,jac] at h;exact Prod.ext (Ty.beq_eq u _ _ h.1) (Ty.beq_eq v _ _ h.2)
 | .w a,x,y,h=>Ty.beq_eq a x y h
 | .pt a,x,y,h=>Ty.beq_eq a x y h
 | .sl a,x,y,h=>by
  simp only [Ty.beq,jac,jaj] at h;exact ksH (α:=a.den) x y h.1 (λp _ q=>Ty.beq_eq a p q) h.2
 | .op a,x,y,h=>by
  simp only [Ty.beq] at h;cases x with
  | none=>cases y with
   | none=>rfl
   | some y=>cases h
  | some x=>cases y with
   | none=>cases h
   | some y=>rw [Ty.beq_eq a x y h]
 | .ar n a,x,y,h=>by
  simp only [Ty.beq] at h;have:=ksH (α:=a.den) x.l y.l (by rw [x.h,y.h]) (λp _ q=>Ty.beq_eq a p q) h;cases x; cases y; simp only at this; subst this; rfl
 | .sm _ _,_,_,h=>by simp [Ty.beq] at h
 | .fn _ _ _,_,_,h=>by simp [Ty.beq] at h
theorem kzy {t:Ty} {xs ys a:Ya t.den} {e:t.den} (h:gpre t (some xs) ys e=some a):xs[ys.length]?=some e/\a=ys++[e]:=by
 unfold gpre at h;simp only at h;split at h
 ·rename_i x b;split at h
  ·rename_i f;cases h;rw [Ty.beq_eq t x e f] at b;exact ⟨b,rfl⟩
  ·cases h
 ·cases h
section
variable {P:Yd} {κ:Nat->Yb Nat} {ln:Nat->Nat} {z:AH} {c:Cx sem} {s:TS sem} {env:Env} {h:AH} {n N:Nat} {ρ:Ty}
mutual
theorem kri:∀ {v:TV sem} {a:AV},TVR P κ ln ahN N v a->v.solid=true->Free a
 | _,_,.c t x a hd hs,_=>hs.freeN
 | _,_,.kb b,_=>.sc _
 | _,_,.sc v h1,_=>.sc _
 | _,_,.fq t x o a hd hs,_=>hs.freeN
 | _,_,.cv n x y F a hc,_=>by
  obtain ⟨g,as,rfl,e,_⟩:=hc;exact (khT g as).2 e
 | _,_,.fn g vs as hs,hp=>(khT g as).2 (kjn hs (by simpa [TV.solid] using hp))
 | _,_,.tp vs as hs,hp=>(kwz as).2 (kjn hs (by simpa [TV.solid] using hp))
 | _,_,.ag vs as hs h1,hp=>(koV as).2 (kjn hs (by simpa [TV.solid] using hp))
 | _,_,.un _,hp | _,_,.ud,hp | _,_,.gs _ _,hp | _,_,.yl ..,hp | _,_,.kp ..,hp | _,_,.ptr ..,hp | _,_,.adr ..,hp | _,_,.aa ..,hp | _,_,.mw0 ..,hp | _,_,.mw ..,hp | _,_,.ms0 ..,hp | _,_,.ms ..,hp | _,_,.mp ..,hp | _,_,.fw0 ..,hp | _,_,.fw ..,hp | _,_,.fr0 ..,hp | _,_,.fr ..,hp | _,_,.fo ..,hp | _,_,.fa ..,hp=>by simp [TV.solid] at hp
theorem kjn:∀ {vs:Ya (TV sem)} {as:Ya AV},TVRs P κ ln ahN N vs as->TV.solidL vs=true->FreeL as
 | _,_,.nil,_=>FreeL.nil
 | _,_,.cons v a vs as hv hs,hp=>by
  simp only [TV.solidL,jac] at hp;exact FreeL.cons (kri hv hp.1) (kjn hs hp.2)
end
def stays (v:TV sem):Bool:=match v with | .ud=>true | .yl _=>true | v=>v.solid
theorem krt {v:TV sem} (hp:v.pure=true) (hs:¬ stays v=true):v = .un:=by
 cases v with
 | un=>rfl
 | ud=>exact absurd rfl hs
 | yl id=>exact absurd rfl hs
 | _=>exact absurd hp hs
theorem kxC {v:TV sem} {a:AV} (b:TVR P κ ln ahN N v a) (hs:stays v=true):Free a:=by
 unfold stays at hs;split at hs
 ·cases b; exact .ud
 ·cases b; exact .sc _
 ·exact kri b hs
theorem kjg {α β:Type} (f:α->β):∀ (l:Ya (Nat×α)) (x:Nat),alk (l.map λp=>(p.1,f p.2)) x=(alk l x).map f
 | [],x=>rfl
 | (k,v)::l,x=>by
  simp only [jap,alk];split
  ·rfl
  ·exact kjg f l x
theorem kvd:∀ (env:Env) (x:Nat),(env.map (·.1)).contains x=false->lk env x = .un
 | [],x,_=>rfl
 | (k,v)::env,x,h=>by
  simp only [jap,List.contains_cons,jdn] at h;simp only [lk];rw [if_neg (by simpa using h.1)];exact kvd env x h.2
theorem kux {G:IterG} {Δ:Ya (FuncId×Ctr)} (hI:∀ nm ts F,(alk Δ IM).bind (λC=>C.its.head?)=some ⟨nm,[.nt],ts,F⟩->∃ xs,F (0:Nat)=some xs/\G.xs=xs.map (avsL ts)) (W:CxWf c) (R:Rel P κ ln z c s env h n) (hκ:κ 0=some G.l)
  {y:Oper} (af:∀ d,y.dst=some d->alk c.e0 d=none) {ds:Ya (Yb Tmp)} {l2:Ya Oper} {Qn:St->Prop} {Kf:TS sem->Yb Unit} {K:TS sem->sem.Ans ρ} {w:ρ.den} (H:krH (A:=sem) c Δ s y Kf K=some w)
  (hT:∀ s2 I,Rel P κ ln ahN c s2 I ah0 n->s2.n=s.n->K s2=some w->aops P ds l2 ⟨I,ah0,n⟩ Qn)
  (hF:∀ s2 I w0,Rel P κ ln ahN c s2 I ah0 n->s2.n=s.n->Kf s2=some w0->aops P ds l2 ⟨I,ah0,n⟩ Qn):YieldK P G ds y l2 Qn ⟨env,h,n⟩:=by
 unfold krH at H;split at H
 rotate_left
 ·exact kaa H
 rename_i cl nm ts F az hIM;obtain ⟨xs,hF0,hGx⟩:=hI nm ts F hIM;split at H
 rotate_left
 ·exact kaa H
 rename_i f ao;split at H
 rotate_left
 ·exact kaa H
 rename_i id t ys hf ac;split at H
 rotate_left
 ·exact kaa H
 rename_i aA l ids an hl;split at H
 ·exact kaa H
 rename_i S;simp only [jat,jbd,not_or,jbk,Bool.not_eq_false',bne_iff_ne,ne_eq,Decidable.not_not,beq_iff_eq,Bool.not_eq_false] at S;obtain ⟨⟨⟨⟨⟨⟨aw,ax⟩,hg⟩,am⟩,aq⟩,ay⟩,aB⟩:=S;subst aw;split at H
 rotate_left
 ·exact kaa H
 rename_i e he;obtain ⟨aC,Y,H⟩:=jaa.1 H;obtain ⟨w0,al,H⟩:=jaa.1 H;rw [hF0] at Y;obtain ⟨m,rfl⟩:=kzy Y;obtain ⟨ee,rfl⟩:=kak an;cases ee;have ar:z=ahN:=R.dy (by simpa using ax);subst ar;have au:y.guard=none:=by simpa using ay
 have aa:=R.ev f;rw [hf] at aa;have ae:ev env f = .sc (.func (.yield G.l) #[] #[]):=by
  generalize ev env f=a at aa;cases aa with
  | yl _ q hN Z=>rw [hκ] at Z; cases Z; rfl
 have htG:tlk c s GS = .gs (tup ts) ys:=by unfold tlk; rw [ac]
 have hGe:=R.env GS;rw [htG] at hGe;have hGe2:lk env GS = .gs (ys.map (tup ts).enc):=by
  generalize lk env GS=a at hGe;cases hGe; rfl
 have ab:TVRs P κ ln ahN s.n (cl.args.toList.map (tev c s)) (cl.args.toList.map (ev env)):=by
  generalize cl.args.toList=xs;induction xs with
  | nil=>exact .nil
  | cons x xs ih=>exact .cons _ _ _ _ (R.ev x) ih
 obtain ⟨ai,g1,g2,_⟩:=kha R _ _ _ ab hl;have has:ai=avsL ts e:=knN aq (kjr ts l ai e g1 he);subst has;let g:Nat->AV:=λk=>if stays (tlk c s k)=true then lk env k else .un
 let E:Env:=(env.map (·.1)).map λk=>(k,g k)
 have hE:∀ x,lk E x=if stays (tlk c s x)=true then lk env x else .un:=λx=>by
  show lk ((env.map (·.1)).map λk=>(k,g k)) x=_;rw [krp];split
  ·rfl
  ·rename_i hc;rw [kvd env x (by simpa using hc)]; simp
 have rel:∀ (b:Bool) (X:TV sem) (ga:AV),TVR P κ ln ahN s.n X ga->Rel P κ ln ahN c (yTS s y.dst b X) (putE ((GS,ga)::E) y.dst (.sc (.bool b))) ah0 n:=λb X ga aj=>by
  have L:∀ id,thp c (yTS s y.dst b X) id=none:=λid=>by
   unfold thp;have:c.g=[]:=by simpa using hg
   rw [this]; rfl
  have M:∀ x,x≠GS->TVR P κ ln ahN s.n (match alk (yEnv s) x with | some v=>v | none=>(alk c.e0 x).getD .un) (lk E x):=λx m=>by
   have ap:alk (yEnv s) x=(alk s.env x).map λv=>if v.pure then v else .un:=kjg (λv:TV sem=>if v.pure then v else .un) s.env x;rw [ap,hE];have hRx:=R.env x;unfold tlk at hRx ⊢;cases ak:alk s.env x with
   | some v=>
    rw [ak] at hRx;simp only [jck];simp only at hRx;by_cases hp:v.pure=true
    ·rw [if_pos hp];by_cases p:stays v=true
     ·rw [if_pos p]; exact hRx
     ·have:=krt hp p;subst this; exact .un _
    ·rw [if_neg hp]; exact .un _
   | none=>
    rw [ak] at hRx;simp only [Option.map_none];simp only at hRx;cases ah:alk c.e0 x with
    | none=>simp only [Option.getD_none]; exact .un _
    | some v=>
     rw [ah] at hRx;simp only [jcb] at hRx ⊢;have hm:=jam.1 am _ (kaD ah);by_cases p:stays v=true
     ·rw [if_pos p]; exact hRx
     ·have:v = .un:=by
       simp only [jat,jac] at hm;rcases hm with hp | ⟨_,hp⟩
       ·exact krt hp p
       ·cases v <;> first | (exact absurd rfl p) | (simp at hp)
      subst this; exact .un _
  refine ⟨λx=>?_,λid B hB=>(by rw [L] at hB; cases hB),λid B hB=>(by rw [L] at hB; cases hB),λi j B B' q hi=>(by rw [L] at hi; cases hi),λq B Z=>(by cases Z),λid B q hB=>(by rw [L] at hB; cases hB),λid B q hB=>(by rw [L] at hB; cases hB),λq Z=>rfl,λx v m=>?_,λid b hb=>(by cases hb),λ_=>rfl,λq k T es Z=>(by cases Z),λid B hB=>(by rw [L] at hB; cases hB)⟩
  ·show TVR P κ ln ahN s.n _ _;cases hd:y.dst with
   | none=>
    have h1:tlk c (yTS s none b X) x=if x=GS then X else (match alk (yEnv s) x with | some v=>v | none=>(alk c.e0 x).getD .un):=by
     unfold tlk yTS;simp only [jbc,alk];by_cases m:x=GS
     ·rw [if_pos m,if_pos m]
     ·rw [if_neg m,if_neg m]; cases alk (yEnv s) x <;> rfl
    rw [h1];show TVR P κ ln ahN s.n _ (lk ((GS,ga)::E) x);simp only [lk];by_cases m:x=GS
    ·rw [if_pos m,if_pos m]; exact aj
    ·rw [if_neg m,if_neg m]; exact M x m
   | some d=>
    have h1:tlk c (yTS s (some d) b X) x=if x=d then .kb b else if x=GS then X else (match alk (yEnv s) x with | some v=>v | none=>(alk c.e0 x).getD .un):=by
     unfold tlk yTS;simp only [jdp,jbc,alk];by_cases u:x=d
     ·rw [if_pos u,if_pos u]
     ·rw [if_neg u,if_neg u];by_cases m:x=GS
      ·rw [if_pos m,if_pos m]
      ·rw [if_neg m,if_neg m]; cases alk (yEnv s) x <;> rfl
    rw [h1];show TVR P κ ln ahN s.n _ (lk ((d,.sc (.bool b))::(GS,ga)::E) x);simp only [lk];by_cases u:x=d
    ·rw [if_pos u,if_pos u]; exact .kb b
    ·rw [if_neg u,if_neg u];by_cases m:x=GS
     ·rw [if_pos m,if_pos m]; exact aj
     ·rw [if_neg m,if_neg m]; exact M x m
  ·have ad:y.dst=some x\/x=GS\/∃ v,alk s.env x=some v:=by
    unfold yTS at m;simp only at m;cases hd:y.dst with
    | none=>
     rw [hd] at m;simp only [jbc,alk] at m;split at m
     ·rename_i e; exact .inr (.inl e)
     ·rw [show alk (yEnv s) x=(alk s.env x).map λv=>if v.pure then v else .un from kjg (λv:TV sem=>if v.pure then v else .un) s.env x] at m;obtain ⟨v',U,_⟩:=jad.1 m;exact .inr (.inr ⟨v',U⟩)
    | some d=>
     rw [hd] at m;simp only [jdp,jbc,alk] at m;split at m
     ·rename_i e; exact .inl (by rw [e])
     ·split at m
      ·rename_i e; exact .inr (.inl e)
      ·rw [show alk (yEnv s) x=(alk s.env x).map λv=>if v.pure then v else .un from kjg (λv:TV sem=>if v.pure then v else .un) s.env x] at m;obtain ⟨v',U,_⟩:=jad.1 m;exact .inr (.inr ⟨v',U⟩)
   rcases ad with hd | rfl | ⟨v',U⟩
   ·exact af x hd
   ·exact R.e0 _ _ ac
   ·exact R.e0 x v' U
 refine ⟨.inl au,cl,f,_,avsL ts e,[avsL ts e],ys.map (tup ts).enc,hz (ows κ ln c s) h ahN ids,E,[(tup ts).enc e],az,ao,.yield,hGe2,λj hj=>?_,keQ R.zin,(show SnapV _ (ev env f) _ by rw [ae]; exact Snap.V (.free _ (.sc _))),g2,λx m=>?_,rfl,?_,?_⟩
 ·obtain rfl:j=0:=by simpa using hj
  rw [hGx,jas,jaq,Nat.add_zero,m]; rfl
 ·rw [hE];by_cases p:stays (tlk c s x)=true
  ·rw [if_pos p]; exact .inr ⟨rfl,kxC (R.env x) p⟩
  ·rw [if_neg p]; exact .inl rfl
 ·exact hT _ _ (rel true _ _ (by rw [show ys.map (tup ts).enc++[(tup ts).enc e]=(ys++[e]).map (tup ts).enc by simp]; exact .gs _ _)) rfl H
 ·exact hF _ _ w0 (rel false _ _ .ud) rfl al
end
section
variable {P:Yd} {κ κ':Nat->Yb Nat} {ln ln':Nat->Nat} {z z':AH} {c:Cx sem} {s:TS sem} {env:Env} {h h':AH} {n n':Nat}
variable {ρ:Ty} {r:ρ.den} {o:Oper} {W:Nat->Bool} {anc:Nat->Ya Nat} {late:Nat->Bool} {j:Nat} {next:St->Ya Pn->Prop}
def DomF (κ:Nat->Yb Nat) (N:Nat) (F:Ya Nat) (hp:AH):Prop:=∀ q B,hp q=some B->∃ id∈F,id<N/\κ id=some q
structure PnOk (κ:Nat->Option Nat) (N:Nat) (p:Pn) (t:Nat×Nat×List Nat):Prop where
 j:p.j=t.1
 k0:t.2.1=0->∀ h1,p.ok h1
 k1:t.2.1=1->∃ hp,(∀ h1,p.ok h1↔shp hp h1)/\DomF κ N t.2.2 hp
 k2:t.2.1=2->∃ hp:AH,(∀ h1:AH,p.ok h1↔∀ q B,hp q=some B->h1 q=some B)/\DomF κ N t.2.2 hp
def PdR (κ:Nat->Yb Nat) (N:Nat) (b:Ya Pn) (a:Ya (Nat×Nat×Ya Nat)):Prop:=∀ p∈b,∃ t∈a,PnOk κ N p t
theorem DomF.mono {N N':Nat} {F:Ya Nat} {hp:AH} (h:DomF κ N F hp) (a:∀ id,id<N->κ' id = κ id) (hN:N<=N'):DomF κ' N' F hp:=λq B f=>by
 obtain ⟨id,e,h2,b⟩:=h q B f;exact ⟨id,e,by omega,by rw [a id h2]; exact b⟩
theorem PdR.mono {N N':Nat} {f:Ya Pn} {b:Ya (Nat×Nat×Ya Nat)} (h:PdR κ N f b) (a:∀ id,id<N->κ' id = κ id) (hN:N<=N'):PdR κ' N' f b:=λp hp=>by
 obtain ⟨t,i,g⟩:=h p hp;exact ⟨t,i,g.j,g.k0,λe=>(g.k1 e).imp λhp g=>⟨g.1,g.2.mono a hN⟩,λe=>(g.k2 e).imp λhp g=>⟨g.1,g.2.mono a hN⟩⟩
theorem PdR.cons {N:Nat} {e:Ya Pn} {b:Ya (Nat×Nat×Ya Nat)} (h:PdR κ N e b) {p:Pn} {t:Nat×Nat×Ya Nat} (g:PnOk κ N p t):PdR κ N (p::e) (t::b):=λq a=>by
 rcases jbq.1 a with rfl | a
 ·exact ⟨t,by simp,g⟩
 ·obtain ⟨t,f,g⟩:=h q a;exact ⟨t,jax _ f,g⟩
theorem kwO (R:Rel P κ ln z c s env h n) {L:Ya Pn} {I:Ya (Nat×Nat×Ya Nat)} (hp:PdR κ s.n L I) {M:Ya Nat} {st:Bool} {T:Ya Nat} (hk:pdOk c s M st T I=true)
  (hf:∀ q,q<n->h' q=h q\/∃ id∈T,(∃ B,thp c s id=some B)/\q∈ows κ ln c s id) (E:st=true->shp h h'):∀ p∈L,p.j∈M\/(p.ok h->p.ok h'):=by
 intro p A;obtain ⟨t,ht,g⟩:=hp p A;have i:=jam.1 hk t ht;simp only [jat,beq_iff_eq,jac,jam,jbu,jbd] at i;rcases i with (i | i) | ⟨a,hF⟩
 ·exact .inl (by rw [g.j]; exact i)
 ·exact .inr λ_=>g.k0 i h'
 ·right;intro b;have same:∀ id q B,id∈t.2.2->T.contains id=false->κ id=some q->h q=some B->h' q=h q:=λid q B u hT X f=>by
   have x:q<n:=by
    rcases jdg q n with F | v
    ·exact F
    ·rw [R.hn q v] at f; cases f
   rcases hf q x with e | ⟨aa,h1,⟨m,h2⟩,Z⟩
   ·exact e
   ·obtain ⟨B1,hB1⟩:=jao.1 (hF id u).1;have e:=R.owI hB1 h2 (.inl X) (kdC h2 Z);subst e;rw [jbu.2 h1] at hT; cases hT
  rcases a with a | a
  ·obtain ⟨hp,g1,y⟩:=g.k1 a;rw [g1] at b ⊢;intro q B f;obtain ⟨m,H,K⟩:=b q B f;obtain ⟨id,k,U,C⟩:=y q B f;rcases (hF id k).2 with hT | hT
   ·exact ⟨m,by rw [same id q m k hT C H]; exact H,K⟩
   ·obtain ⟨Y,S,e4⟩:=E hT.1 q m H;exact ⟨Y,S,ABlk.shp_trans K e4⟩
  ·obtain ⟨hp,g1,y⟩:=g.k2 a;rw [g1] at b ⊢;intro q B f;obtain ⟨id,k,U,C⟩:=y q B f;rcases (hF id k).2 with hT | hT
   ·rw [same id q B k hT C (b q B f)]; exact b q B f
   ·rw [a] at hT; exact absurd hT.2 (by decide)
theorem kuy {Δ:Ya (FuncId×Ctr)} (L:Goods P Δ) {wc:Ya Nat} {Kf:TV sem->TS sem->Ya (Nat×Nat×Ya Nat)->sem.Ans ρ} {ps:Ya Pn} {pd:Ya (Nat×Nat×Ya Nat)}
  (R:Rel P κ ln z c s env h n) (K:PdR κ s.n ps pd) (hW:W j=isW wc j o) (m:kmi P c Δ W anc late j s o pd Kf=some r)
  (hn:∀ κ' ln' z' u s' v h' n' al am,Ke c s.n κ ln κ' ln'->s.n<=s'.n->Rel P κ' ln' z' c s' env h' n'->TVR P κ' ln' z' s'.n u v->Kf u s' am=some r->PdR κ' s'.n al am->next ⟨putE env o.dst v,h',n'⟩ al) :
  stepT P W anc o j env h n ps next:=by
 unfold kmi at m;unfold stepT;cases hw:W j with
 | true=>
  rw [hw] at m hW;rw [if_pos rfl];obtain ⟨d,op,ty,pos,after,g⟩:=o;simp only at m;split at m
  ·
   rename_i f args ts;split at m
   ·rename_i M as hu;unfold useM at hu;simp only at hu;split at hu
    ·rename_i gg ax ar;split at hu
     ·rename_i C hC;obtain ⟨M',hM,he⟩:=jad.1 hu;cases he;have hG:=(L.at hC).2.2.1 M (klr hM);have ah:TVRs P κ ln z s.n (args.toList.map (tev c s)) (args.toList.map (ev env)):=by
       generalize args.toList=xs;induction xs with
       | nil=>exact .nil
       | cons x xs ih=>exact .cons _ _ _ _ (R.ev x) ih
      have aj:=R.ev f;rw [ar] at aj;obtain ⟨ay,ap,ac⟩:=aj.fn_inv;refine kic (f:=f) rfl ap rfl (kku L hG.1 hG.2 R (ah.append ac) m λu s' v h' n' κ' ln' k h2 Y h4 h5 h6=>?_);split at k
      ·rename_i ad;exact ⟨kwO R K ad h6 (λe=>by cases e),hn _ _ _ _ _ _ _ _ _ _ h2 Y h4 h5 k (K.mono (λid hi=>(h2 id hi).1) Y)⟩
      ·exact kaa k
     ·cases hu
    ·cases hu
   ·split at m
    ·exact ksi m
    ·obtain ⟨u,v,k1,k2,k3⟩:=kkS (dst:=d) (ty:=ty) (pos:=pos) (after:=after) (g:=g) (l:=⟨.value f,args,ts⟩) L R rfl m;exact k1 h n _ (λq B E=>E) ⟨λp _=>.inr id,hn _ _ _ _ _ _ _ _ _ _ .refl (jag _) R k3 k2 K⟩
  ·split at m
   ·exact kaa m
   ·rename_i aq;split at m
    ·rename_i T hT;split at m
     ·rename_i ad;obtain ⟨u,s',v,h',n',κ',ln',z',g1,S,g3,X,g6,g7,_⟩:=kgc L R _ m;have ha:=g1 (λa b c=>a=v/\b=h'/\c=n') ⟨rfl,rfl,rfl⟩;obtain ⟨f1,f2⟩:=kyV hW.symm aq ha;refine g1 _ ⟨kwO R K ad (λq E=>?_) f2,hn _ _ _ _ _ _ _ _ _ _ g7 g6 g3 X S (K.mono (λid hi=>(g7 id hi).1) g6)⟩;unfold tgtT at hT;split at hT
      ·rename_i au;exact .inl (f1 q (by omega) λx hx=>by rw [au] at hx; cases hx)
      ·rename_i x hx;by_cases Z:avId (ev env x)=some q
       ·split at hT
        ·rename_i i an;split at hT
         ·rename_i hc;cases hT;simp only [jac,jat,jbd] at hc;obtain ⟨B,hB⟩:=jao.1 hc.1;refine .inr ⟨i,by simp,⟨B,hB⟩,?_⟩;rcases kAX (R.ev x) an q Z with k | ⟨k,h2⟩
          ·exact ows_k k
          ·rw [k,hB] at hc;exact ows_r hB (by simpa using hc.2) h2
         ·cases hT
        ·split at hT
         ·rename_i ai;have af:=R.ev x;generalize tev c s x=u at af ai;generalize ev env x=av at af Z;cases af <;> first | (simp only [isSc,jai] at ai; done) | cases Z
         ·cases hT
       ·exact .inl (f1 q (by omega) λx' ak=>by rw [hx] at ak; cases ak; exact Z)
     ·exact kaa m
    ·exact kaa m
 | false=>
  rw [hw] at m hW;rw [if_neg (by decide)];have A:∀ {κ':Nat->Yb Nat} {ln':Nat->Nat} {z':AH} {s':TS sem} {u:TV sem} {v:AV} (ok:AH->Prop) (y:Nat) (F:Ya Nat),ok h->(∀ k n1 (I:K3),ok k->I v k n1->aop P env k n1 o I)->Ke c s.n κ ln κ' ln'->s.n<=s'.n->Rel P κ' ln' z' c s' env h n->TVR P κ' ln' z' s'.n u v->
    Kf u s' ((j,y,F)::pd)=some r->(y=0->∀ k,ok k)->(y=1->∃ hp,(∀ k,ok k↔shp hp k)/\DomF κ s.n F hp)->(y=2->∃ hp:AH,(∀ k:AH,ok k↔∀ q B,hp q=some B->k q=some B)/\DomF κ s.n F hp)->
    ∃ p:Pn,p.j=j/\p.o=o/\p.env=env/\p.ok h/\p.fact P/\next ⟨putE env o.dst p.v,h,n⟩ (p::ps):=λ{κ' ln' z' s' u v} ok y F k h2 Y h4 h5 h6 h7 h8 h9 ao=>
   ⟨⟨j,o,env,v,ok⟩,rfl,rfl,rfl,k,h2,hn _ _ _ _ _ _ _ _ _ _ Y h4 h5 h6 h7 ((K.mono (λid hi=>(Y id hi).1) h4).cons ⟨rfl,h8,λe=>(h9 e).imp λhp g=>⟨g.1,g.2.mono (λid hi=>(Y id hi).1) h4⟩,λe=>(ao e).imp λhp g=>⟨g.1,g.2.mono (λid hi=>(Y id hi).1) h4⟩⟩)⟩
  have ae:DomF κ s.n (footX c s o) (rsH κ h (footX c s o)):=λq B E=>by
   obtain ⟨⟨id,k,h2⟩,_⟩:=kmH E;have Y:=(jeb.1 (show id∈(_:Ya Nat).filter _ from k)).2;obtain ⟨B1,hB1⟩:=jao.1 Y;exact ⟨id,k,R.lt id B1 hB1,h2⟩
  obtain ⟨d,op,ty,pos,after,g⟩:=o;simp only at m;split at m
  ·obtain ⟨u,v,k1,k2,k3⟩:=ksN (dst:=d) (ty:=ty) (pos:=pos) (after:=after) (g:=g) R m;exact A (λ_=>True) 0 [] trivial (λk n1 I _ hK=>k1 k n1 I hK) .refl (jag _) R k3 k2 (λ_ _=>trivial) (λe=>by cases e) (λe=>by cases e)
  ·rename_i f args ts;split at m
   ·split at m
    ·rename_i t;unfold seen at t;rw [jac,jac,jbd] at t;have R2:=R.rst t.1.1 t.1.2 t.2;obtain ⟨u,v,k1,k2,k3⟩:=kkS (dst:=d) (ty:=ty) (pos:=pos) (after:=after) (g:=g) (l:=⟨.value f,args,ts⟩) L R2 rfl m;exact A (λk=>∀ q B,rsH κ h (footX c s _) q=some B->k q=some B) 2 _ (λq B E=>(kmH E).2) (λk n1 I U hK=>k1 k n1 I U hK) .refl (jag _) R k3 k2 (λe=>by cases e) (λe=>by cases e) (λ_=>⟨_,λ_=>Iff.rfl,ae⟩)
    ·exact kaa m
   ·obtain ⟨u,v,k1,k2,k3⟩:=kkS (dst:=d) (ty:=ty) (pos:=pos) (after:=after) (g:=g) (l:=⟨.value f,args,ts⟩) L R rfl m;exact A (λk=>∀ q B,h q=some B->k q=some B) 3 [] (λq B E=>E) (λk n1 I U hK=>k1 k n1 I U hK) .refl (jag _) R k3 k2 (λe=>by cases e) (λe=>by cases e) (λe=>by cases e)
  ·split at m
   ·rename_i aw;obtain ⟨u,s',v,h',n',κ',ln',z',g1,S,g3,X,g6,g7,_⟩:=kgc L R _ m;obtain ⟨v2,⟨rfl,rfl,rfl⟩,k2⟩:=kzH aw (g1 (λa b c=>a=v/\b=h'/\c=n') ⟨rfl,rfl,rfl⟩);exact A (λ_=>True) 0 [] trivial (λk n1 I _ hK=>k2 k n1 I hK) g7 g6 g3 X S (λ_ _=>trivial) (λe=>by cases e) (λe=>by cases e)
   ·split at m
    ·rename_i ab;split at m
     ·split at m
      ·rename_i t;unfold seen at t;rw [jac,jac,jbd] at t;have R2:=R.rst t.1.1 t.1.2 t.2;obtain ⟨u,s',v,h',n',κ',ln',z',g1,S,g3,X,g6,g7,g8⟩:=kgc L R2 _ m;obtain ⟨rfl,rfl,rfl,rfl,rfl,rfl⟩:=g8 (kmY (.inl ab));exact A (λk=>shp (rsH κ' h (footX c s _)) k) 1 _ (λq B E=>⟨B,(kmH E).2,B.shp_refl⟩) (λk n1 I U hK=>ksP ab U (λv' H=>by obtain ⟨rfl,_,_⟩:=H; exact hK) (g1 (λa b c=>a=v/\True/\True) ⟨rfl,trivial,trivial⟩)) .refl (jag _) R X S (λe=>by cases e) (λ_=>⟨_,λ_=>Iff.rfl,ae⟩) (λe=>by cases e)
      ·exact kaa m
     ·obtain ⟨u,s',v,h',n',κ',ln',z',g1,S,g3,X,g6,g7,g8⟩:=kgc L R _ m;obtain ⟨rfl,rfl,rfl,rfl,rfl,rfl⟩:=g8 (kmY (.inl ab));exact A (λk=>shp h' k) 3 [] (λq B E=>⟨B,E,B.shp_refl⟩) (λk n1 I U hK=>ksP ab U (λv' H=>by obtain ⟨rfl,_,_⟩:=H; exact hK) (g1 (λa b c=>a=v/\True/\True) ⟨rfl,trivial,trivial⟩)) .refl (jag _) R X S (λe=>by cases e) (λe=>by cases e) (λe=>by cases e)
    ·split at m
     ·rename_i aa;split at m
      ·split at m
       ·rename_i t;unfold seen at t;rw [jac,jac,jbd] at t;have R2:=R.rst t.1.1 t.1.2 t.2;obtain ⟨u,s',v,h',n',κ',ln',z',g1,S,g3,X,g6,g7,g8⟩:=kgc L R2 _ m;obtain ⟨rfl,rfl,rfl,rfl,rfl,rfl⟩:=g8 (kmY (.inr aa));exact A (λk=>∀ q B,rsH κ' h (footX c s _) q=some B->k q=some B) 2 _ (λq B E=>(kmH E).2) (λk n1 I U hK=>kuF aa U (λv' H=>by obtain ⟨rfl,_,_⟩:=H; exact hK) (g1 (λa b c=>a=v/\True/\True) ⟨rfl,trivial,trivial⟩)) .refl (jag _) R X S (λe=>by cases e) (λe=>by cases e) (λ_=>⟨_,λ_=>Iff.rfl,ae⟩)
       ·exact kaa m
      ·obtain ⟨u,s',v,h',n',κ',ln',z',g1,S,g3,X,g6,g7,g8⟩:=kgc L R _ m;obtain ⟨rfl,rfl,rfl,rfl,rfl,rfl⟩:=g8 (kmY (.inr aa));exact A (λk=>∀ q B,h' q=some B->k q=some B) 3 [] (λq B E=>E) (λk n1 I U hK=>kuF aa U (λv' H=>by obtain ⟨rfl,_,_⟩:=H; exact hK) (g1 (λa b c=>a=v/\True/\True) ⟨rfl,trivial,trivial⟩)) .refl (jag _) R X S (λe=>by cases e) (λe=>by cases e) (λe=>by cases e)
     ·exact kaa m
theorem kfz {Δ:Ya (FuncId×Ctr)} (F:Goods P Δ) {wc:Ya Nat} {C:Ya (Yb Tmp)} (k:okD c C=true) {Kf:TS sem->sem.Ans ρ} {K:St->Prop}
  {L:Nat} {S:Nat->Yb Nat} {E:Nat->Nat} (hK:∀ κ ln z s' B h' n',Ke c L S E κ ln->Rel P κ ln z c s' B h' n'->Kf s'=some r->K ⟨B,h',n'⟩) :
  ∀ (l:Ya Oper) (i:Nat) {κ:Nat->Yb Nat} {ln:Nat->Nat} {z:AH} {s:TS sem} {env:Env} {h:AH} {n:Nat} {H:Ya Pn} {A:Ya (Nat×Nat×Ya Nat)},Ke c L S E κ ln->L<=s.n->(∀ o∈l,o.dst∈C)->(∀ q o,l[q]?=some o->W (i+q)=isW wc (i+q) o)->Rel P κ ln z c s env h n->PdR κ s.n H A->
   xopsT P c Δ W anc late C l i s A Kf=some r->treeD P C W anc l i ⟨env,h,n⟩ H K
 | [],i,κ,ln,z,s,env,h,n,H,A,ke,kn,_,_,R,hp,f=>hK _ _ _ _ _ _ _ ke R f
 | o::l,i,κ,ln,z,s,env,h,n,H,A,ke,kn,hl,hW,R,hp,f=>by
  have p:∀ o∈l,o.dst∈C:=λo ho=>hl o (jax _ ho);have hW':∀ q o,l[q]?=some o->W (i+1+q)=isW wc (i+1+q) o:=λq o hq=>by have:=hW (q+1) o (by simpa using hq); rwa [show i+(q+1)=i+1+q by omega] at this
  have hW0:W i=isW wc i o:=hW 0 o rfl;have u:=kwJ k (hl o (jcs ..));have one:∀ {κ:Nat->Yb Nat} {ln:Nat->Nat} {z:AH} {s:TS sem} {env:Env},Ke c L S E κ ln->L<=s.n->Rel P κ ln z c s env h n->PdR κ s.n H A->(kmi P c Δ W anc late i s o A λv s' A=>xopsT P c Δ W anc late C l (i+1) (putT s' o.dst v) A Kf)=some r->
    stepT P W anc o i env h n H λs t=>treeD P C W anc l (i+1) s t K:=λke kn R hp f=>by
   refine kuy F R hp hW0 f λκ' ln' z' tv s' v h' n' ac ab aa ae R' M Y U=>?_;exact kfz F k hK l (i+1) (ke.trans aa kn) (by rw [kdG]; omega) p hW' (R'.putT M o.dst u) (by rw [kdG]; exact U) Y
  simp only [xopsT] at f;simp only [treeD];cases hg:o.guard with
  | none=>
   rw [hg] at f;exact one ke kn R hp f
  | some jw=>
   obtain ⟨j,I⟩:=jw;rw [hg] at f;simp only at f ⊢;cases hs:kbz C j with
   | none=>rw [hs] at f; exact kaa f
   | some d=>
    rw [hs] at f;simp only at f ⊢;have Z:=kuD k hs;have M:=R.env d;generalize ad:tlk c s d=tv at M f;generalize X:lk env d=a at M;cases M <;> first | exact kaa f | skip
    ·
     exact kfz F k hK l (i+1) ke (by rw [kdG]; exact kn) p hW' (R.putT .ud o.dst u) (by rw [kdG]; exact hp) f
    ·
     rename_i t x hd T;cases t <;> first | exact kaa f | skip
     obtain rfl:=T.sc_inv;have k1:∀ w:Bool,x=w->Rel P κ ln z c { s with env:=(d,.kb w)::s.env } ((d,.sc (.bool w))::env) h n:=λw hw=>R.know (.kb w) Z;dsimp only at f;cases I
     ·dsimp only at f;rcases kcW f with ⟨y,f⟩ | ⟨y,f⟩
      ·refine ⟨λe=>?_,λ_=>?_⟩
       ·exact absurd (y.symm.trans e) (by decide)
       ·exact kfz F k hK l (i+1) ke (by rw [kdG]; exact kn) p hW' ((k1 true y).putT .ud o.dst u) (by rw [kdG]; exact hp) f
      ·refine ⟨λ_=>?_,λe=>?_⟩
       ·exact one ke (by exact kn) (k1 false y) hp f
       ·exact absurd (y.symm.trans e) (by decide)
     ·dsimp only at f;rcases kcW f with ⟨y,f⟩ | ⟨y,f⟩
      ·refine ⟨λ_=>?_,λe=>?_⟩
       ·exact one ke (by exact kn) (k1 true y) hp f
       ·exact absurd (y.symm.trans e) (by decide)
      ·refine ⟨λe=>?_,λ_=>?_⟩
       ·exact absurd (y.symm.trans e) (by decide)
       ·exact kfz F k hK l (i+1) ke (by rw [kdG]; exact kn) p hW' ((k1 false y).putT .ud o.dst u) (by rw [kdG]; exact hp) f
    ·
     rename_i b;dsimp only at f;have ag:Rel P κ ln z c s ((d,.sc (.bool b))::env) h n:=R.again λx=>by
      show (if x=d then _ else lk env x)=_;split
      ·rename_i e; rw [e,X]
      ·rfl
     split at f
     ·rename_i m;have m:=eq_of_beq m;subst m;refine ⟨λ_=>one ke (by exact kn) ag hp f,λe=>?_⟩;cases b <;> cases e
     ·rename_i m;refine ⟨λe=>by rw [e] at m; simp at m,λe=>?_⟩;rw [<-e];exact kfz F k hK l (i+1) ke (by rw [kdG]; exact kn) p hW' (ag.putT .ud o.dst u) (by rw [kdG]; exact hp) f
variable {N:Nat} {D:DX} {O:Nat->Prop} {Q:Exit->St->Prop}
theorem kvY {l:Ya Oper} {wc:Ya Nat} (h:kuW l wc (ancOf l)=true) {w j:Nat} {o:Oper} (f:l[w]?=some o) (b:isW wc w o=true) (a:w<j) (e:j<l.length):Anc l w j:=by
 simp only [kuW,jam,Prod.forall,jat,jbd,decide_eq_false_iff_not] at h;have mem:∀ {α:Type} {m:Ya α} {j:Nat} {x:α},m[j]?=some x->(x,j)∈m.zipIdx:=λh=>jdt.2 (by simpa using h);rcases h o w (mem f) with h | h
 ·rw [b] at h; cases h
 ·rcases h _ j (mem (jae e)) with h | h
  ·exact absurd a h
  ·exact kit (by simpa [jbu] using h)
theorem krc {Δ:Ya (FuncId×Ctr)} (t:Goods P Δ) {l:Ya Oper} (R:Rel P κ ln z c s env h n) {Kf:TS sem->sem.Ans ρ} {Kt:St->Prop}
  (hK:∀ κ' ln' z' s' a h' n',Ke c s.n κ ln κ' ln'->Rel P κ' ln' z' c s' a h' n'->Kf s'=some r->Kt ⟨a,h',n'⟩) (b:drawT P c Δ N l s Kf=some r):∃ (W:Nat->Bool) (anc:Nat->Ya Nat),kdz l=true/\kbw N l=true/\(∀ i j,i∈anc j->Anc l i j)/\(∀ w j,w<j->j<l.length->W w=true->Anc l w j)/\
   treeD P (l.map (·.dst)) W anc l 0 ⟨env,h,n⟩ [] Kt:=by
 unfold drawT at b;simp only at b;split at b
 ·rename_i m;simp only [jac] at m;obtain ⟨⟨⟨A,h2⟩,x⟩,v⟩:=m;refine ⟨λj=>match l[j]? with | some o=>isW (wcGo Δ l 0 (ownT s) []) j o | none=>false,λj=>(ancOf l).getD j [],A,v,λi j hi=>kit hi,λw j k u e=>?_,?_⟩
  ·dsimp only at e;split at e
   ·rename_i o f;exact kvY h2 f e k u
   ·cases e
  ·exact kfz t x (wc:=wcGo Δ l 0 (ownT s) []) (K:=Kt) hK l 0 .refl (jag _) (λo f=>jbb.2 ⟨o,f,rfl⟩) (λq o y=>by simp only [jcf,y]) R (λp hp=>by cases hp) b
 ·exact kaa b
theorem kvX {Δ:Ya (FuncId×Ctr)} (e:Goods P Δ) {l:Ya Oper} (R:Rel P κ ln z c s env h n) {Kf:TS sem->sem.Ans ρ}
  (hK:∀ κ' ln' z' s' a h' n',Ke c s.n κ ln κ' ln'->Rel P κ' ln' z' c s' a h' n'->Kf s'=some r->Q .normal ⟨a,h',n'⟩) (m:drawT P c Δ N l s Kf=some r):SatA P N D O l Q ⟨env,h,n⟩:=by
 obtain ⟨W,anc,k,h2,i,f,b⟩:=krc (N:=N) (Kt:=λst=>Q .normal st) e R hK m;exact SatA.of_tree k h2 i f b
theorem ktu {f:Ya (Nat×Nat)->sem.Ans ρ}:∀ {l:Ya (Ya (Nat×Nat))},bthL (A:=sem) f l=some r->∀ x∈l,f x=some r
 | [],h=>kaa h
 | [x],h=>by
  intro y b;simp only [jdj] at b;subst b;exact h
 | x::y::l,h=>by
  obtain ⟨e,h2⟩:=ktp (show bthO _ _ _=some r from h);intro q a;rcases jbq.1 a with rfl | a
  ·exact e
  ·exact ktu h2 q a
theorem kwk {Δ:Ya (FuncId×Ctr)} (k:Goods P Δ) {id:Nat} {cs:Ya Code} {l:Ya Oper} (R:Rel P κ ln z c s env h n) {Kf:TS sem->sem.Ans ρ}
  (hK:∀ κ' ln' z' s' a h' n',Ke c s.n κ ln κ' ln'->Rel P κ' ln' z' c s' a h' n'->Kf s'=some r->SatL P N D O cs Q ⟨a,h',n'⟩) (b:drawV P c Δ N l s Kf=some r):SatL P N D O (.region id l.toArray true::cs) Q ⟨env,h,n⟩:=by
 unfold drawV at b;split at b
 ·rename_i e;rw [jac] at e;refine Sat.drawV (Q:=thenQ (SatL P N D O cs Q) Q) (id:=id) e.1 e.2 (conf:=confX Δ (ownT { s with dy:=false }) l) (f:=3) λex i=>?_;have:=ktu b ex i;simp only at this;split at this
  ·rename_i hp;exact ⟨_,hp,kvX (Q:=thenQ (SatL P N D O cs Q) Q) k R hK this⟩
  ·exact kaa this
 ·exact kaa b
end
section
variable {P:Yd} {N:Nat} {D:DX} {O:Nat->Prop} {Q:Exit->St->Prop} {st:St} {μ:Mu} {w:World} {n:Nat} {h:AH} {G:IterG}
theorem KeepB.below {a e:World} (h:KeepB O w a) (b:Below a.heap.size a e):KeepB O w e:=
 ⟨b.os.trans h.os,b.tape.trans h.tape,b.output.trans h.output,jda h.size b.size,λi hi f=>(b.block i (jan hi h.size)).trans (h.block i hi f)⟩
theorem KeepB.trans {f:Nat->Prop} {a m:World} (h:KeepB O w a) (k:KeepB f a m) (p:∀ b,f b->b<w.heap.size->O b):KeepB O w m:=
 ⟨k.os.trans h.os,k.tape.trans h.tape,k.output.trans h.output,jda h.size k.size,λi hi hn=>(k.block i (jan hi h.size) λe=>hn (p i e hi)).trans (h.block i hi hn)⟩
def IterG.since (G:IterG) (O:Nat->Prop) (w:World):IterG:=
 { G with J:=λk O' w'=>G.J k O' w'/\KeepB O w w'/\∀ b,O' b->b<w.heap.size->O b,Jx:=λw'=>G.Jx w'/\KeepB O w w' }
theorem IterOk.since (ok:IterOk P G):IterOk P (G.since O w):=by
 refine ⟨λk u i t a f=>⟨ok.jb k u i t a.1 f,a.2.1.below f,a.2.2⟩,λi t a f=>⟨ok.xb i t a.1 f,a.2.below f⟩,λk u i us x a hO C v E=>?_⟩;obtain ⟨fn,tmps,assign,body,B,hr⟩:=ok.y k u i us x a.1 hO C v E;refine ⟨fn,tmps,assign,body,B,hr.mono ?_⟩;rintro e t ⟨F,p1,p2,p3,H⟩;have A:=a.2.1.trans p3 a.2.2;refine ⟨F,p1,p2,p3,H.imp (λp=>⟨p.1,p.2,A,λb f m=>a.2.2 b (p2 b f (jan m a.2.1.size)) m⟩) λp=>⟨p.1,p.2,A⟩⟩
theorem kzP {args:Ya AV} {vs:Array Ye} {k:Nat} (f:vs.size=args.length) (b:∀ (j:Nat) (c:AV),args[j]?=some c->∃ u,vs[j]?=some u/\VR w O μ n c u) (s:Nat):VR w O μ n (lk (kar args) s) ((vs++Array.replicate k undef).getD s undef):=by
 simp only [kar,kqC args 0 s,Nat.zero_le,if_true,Nat.sub_zero];cases hs:args[s]? with
 | none=>simpa using VR.un _
 | some v=>
  obtain ⟨u,e,a⟩:=b s v hs;rw [jah,jdy (jal.1 e).1,e];exact a
def yvQ (rd m:Nat) (e:Exit) (s:St):Prop:=(e = .normal\/e = .ret)/\((∃ es,lk s.env GS = .gs es/\es.length=m/\lk s.env rd = .sc (.bool true))\/(lk s.env GS = .ud/\lk s.env rd = .sc (.bool false)))
theorem YV.of_body {g l rd:Nat} {fn:Func} {c:Code} {i avs:Ya AV} {I:Ya (Ya AV)} (hf:P.funcs[g]?=some fn) (E:fn.body=some c) (p:(fn.name== "runtime.NumGoroutine")=false) (F:avs.length+i.length<=fn.ntmps) (hN:fn.ntmps<=GS) (A:fn.results.toList=[.tmp rd])
  (T:∀ (D:DX) (G:IterG) (O:Nat->Prop) (k:Nat),D.it=some G->G.l=l->IterOk P G->(∀ j,j<I.length->G.xs[k+j]?=I[j]?)->Sat P fn.ntmps D O c (yvQ rd (k+I.length)) ⟨(GS,.gs (List.replicate k []))::kar (avs++i),ah0,0⟩):YV P l (.fn g i) avs I:=by
 intro G k O w y U f a next Q hl ok hJ hO hx ho Y hv X ha hR
 generalize hu:a.eval f=u at hv;cases hv with
 | fn _ _ vs us hs hc ae=>
 have L:(execOp a.eval y).run P w = .ok (.enter g (U.args.map a.eval++vs)) w:=by
  have aa:fn.body≠none:=by rw [E]; simp
  have Z:fn.name≠ "runtime.NumGoroutine":=by intro af; rw [af] at p; simp at p
  simp [execOp,ho,resolve,Y,hu,Deferred.ofValue,invoke,callFunc,hf,Z,aa]
 unfold Oper.wpIn;refine ⟨λ_ _=>trivial,?_⟩;rw [show Oper.semAt (FF none).round a.eval y=execOp a.eval y from rfl,L,Oper.uponIn_enter];refine ⟨(λe=>by cases e),?_⟩;have M:∀ (j:Nat) (x:AV),(avs++i)[j]?=some x->∃ u,(U.args.map a.eval++vs)[j]?=some u/\VR w O mu0 0 x u:=λj x K=>by
  rw [jbm] at K;rw [Array.getElem?_append];simp only [Array.size_map,X] at K ⊢;split at K
  ·rename_i ab;rw [if_pos ab];exact ha j x K
  ·rename_i ad;rw [if_neg ad];exact ⟨_,hc _ x K,ae _ x K⟩
 have t:(U.args.map a.eval++vs).size=(avs++i).length:=by simp [X,hs]
 refine CallsIn.mono (R:=RndL G k I.length O w) (callsIn_of_wp_marks hf E trivial ?_) λe w' he=>by obtain ⟨v,rfl,h2⟩:=hR e w' he; exact h2
 refine wpIn_mono (T ⟨w.heap.size,some (G.since O w)⟩ (G.since O w) O k rfl hl ok.since hx O (λe=>by cases e) none mu0 _ w trivial ⟨ksq (μ:=mu0) (h:=ah0) (O:=O) (w:=w) ⟨hO,λid b k e=>(by cases e),λid ai b k k' e=>(by cases e),λid b k e=>(by cases e),λid B e=>(by cases e)⟩ hO,?_,.nil _ _ _ (jag _),λs=>?_,λ_=>hN,?_⟩) ?_
 ·have:(avs++i).length<=fn.ntmps:=by simpa using F
  rw [Array.size_append,Array.size_replicate,t]; omega
 ·simp only [lk];by_cases hg:s=GS
  ·rw [if_pos hg,hg];have:(U.args.map a.eval++vs++Array.replicate (fn.ntmps-(U.args.map a.eval++vs).size) undef).getD GS undef=undef:=by
    rw [jah,jdz (by rw [Array.size_append,Array.size_replicate,t]; simp; omega)]; rfl
   rw [this]; exact .gs _
  ·rw [if_neg hg];exact kzP t M s
 ·unfold GInv;exact ⟨w,.refl _ _,λid b k e=>(by cases e),by simp only [lk,if_true,jdb]; exact ⟨hJ,⟨rfl,rfl,rfl,jag _,λ_ _ _=>rfl⟩,λb E _=>E⟩⟩
 ·rintro e a' w' ⟨aj,μ',O',o',⟨ac,ah⟩,m,_⟩;have S:a'.defers=[]:=m.defers.1 rfl;have hl:LeavesInM (FF none) 0 P fn a'.tmps (RndL G k I.length O w) a'.defers .returning w':=by
   rw [S];have H:=m.gi;unfold GInv at H;simp only at H;obtain ⟨W,g1,g2,C⟩:=H;rcases ah with ⟨es,h1,h2,h3⟩ | ⟨h1,h3⟩
   ·rw [h1] at C;obtain ⟨C,g4,g5⟩:=C;obtain ⟨u,h4,h5⟩:=kjk (fn:=fn) (v:=.sc (.bool true)) m (by rw [A]; simp [kbm,kcE,h3]);refine ⟨u,h4,O',m.hr.olt,g5,g4.below g1,.inl ⟨by rw [h5.sc_inv],?_⟩⟩;rw [<-h2]; exact ok.jb _ _ _ _ C g1
   ·rw [h1] at C;obtain ⟨C,g4⟩:=C;obtain ⟨u,h4,h5⟩:=kjk (fn:=fn) (v:=.sc (.bool false)) m (by rw [A]; simp [kbm,kcE,h3]);exact ⟨u,h4,λ_=>False,λb E=>E.elim,λb E=>E.elim,g4.below g1,.inr ⟨by rw [h5.sc_inv],ok.xb _ _ C g1⟩⟩
  rcases ac with rfl | rfl <;> exact hl
def rdO (P:Yd) (h:AH) (o:Oper) (env:Env) (v:AV):Prop:=∀ (n:Nat) (K:K3),K v h n->aop P env h n o K
def aopsR (P:Yd) (h:AH) (a:Ya (Yb Tmp)):Ya Oper->Env->(Env->Prop)->Prop
 | [],env,K=>K env
 | o::r,env,K=>
  match o.guard with
  | none=>∃ v,rdO P h o env v/\aopsR P h a r (putE env o.dst v) K
  | some (g,want)=>match kbz a g with
   | some d=>match lk env d with
    | .sc (.bool b)=>if b=want then ∃ v,rdO P h o ((d,.sc (.bool want))::env) v/\aopsR P h a r (putE ((d,.sc (.bool want))::env) o.dst v) K else aopsR P h a r (putE ((d,.sc (.bool (!want)))::env) o.dst .ud) K
    | .ud=>aopsR P h a r (putE env o.dst .ud) K
    | _=>False
   | none=>False
theorem aopsR.plain {m:Ya (Yb Tmp)} {h:AH} {n:Nat} {K:St->Prop}:∀ {l:Ya Oper} {env:Env},aopsR P h m l env (λe=>K ⟨e,h,n⟩)->aops P m l ⟨env,h,n⟩ K
 | [],env,hk=>hk
 | o::r,env,hk=>by
  unfold aopsR at hk;unfold aops;cases k:o.guard with
  | none=>
   rw [k] at hk;obtain ⟨v,f,h2⟩:=hk;exact f _ _ (aopsR.plain h2)
  | some t=>
   obtain ⟨g,a⟩:=t;rw [k] at hk;simp only at hk ⊢;split at hk
   ·rename_i d p;rw [p];simp only at hk ⊢;split at hk
    ·rename_i b i;rw [i];simp only;refine ⟨λe=>?_,λe=>?_⟩
     ·rw [if_pos e] at hk;obtain ⟨v,f,h2⟩:=hk;exact f _ _ (aopsR.plain h2)
     ·rw [if_neg (by rw [e]; cases a <;> simp)] at hk;exact aopsR.plain hk
    ·rename_i i;rw [i];exact aopsR.plain hk
    ·exact hk.elim
   ·exact hk.elim
theorem aopsR.tree {m:Ya (Yb Tmp)} {h:AH} {n:Nat} {K:St->Prop}:∀ {l:Ya Oper} {env:Env} {j:Nat} {k:Ya Pn},aopsR P h m l env (λe=>K ⟨e,h,n⟩)->treeD P m (λ_=>false) (λ_=>[]) l j ⟨env,h,n⟩ k K
 | [],env,j,k,hk=>hk
 | o::r,env,j,k,hk=>by
  have i:∀ a:Env,(∃ v,rdO P h o a v/\aopsR P h m r (putE a o.dst v) (λe=>K ⟨e,h,n⟩))->stepT P (λ_=>false) (λ_=>[]) o j a h n k λs t=>treeD P m (λ_=>false) (λ_=>[]) r (j+1) s t K:=λa ⟨v,C,h2⟩=>by
   unfold stepT;rw [if_neg (by simp)];exact ⟨⟨j,o,a,v,(·= h)⟩,rfl,rfl,rfl,rfl,λA n1 E e p=>by cases e; exact C _ _ p,aopsR.tree h2⟩
  unfold aopsR at hk;unfold treeD;cases x:o.guard with
  | none=>
   rw [x] at hk;exact i env hk
  | some B=>
   obtain ⟨g,f⟩:=B;rw [x] at hk;simp only at hk ⊢;split at hk
   ·rename_i d y;rw [y];simp only at hk ⊢;split at hk
    ·rename_i b u;rw [u];simp only;refine ⟨λe=>?_,λe=>?_⟩
     ·rw [if_pos e] at hk;exact i _ hk
     ·rw [if_neg (by rw [e]; cases f <;> simp)] at hk;exact aopsR.tree hk
    ·rename_i u;rw [u];exact aopsR.tree hk
    ·exact hk.elim
   ·exact hk.elim
theorem PreY.of_tree {l:Ya Oper} {W:Nat->Bool} {anc:Nat->Ya Nat} {K:St->Prop} (A:kdz l=true) (f:kbw N l=true) (k:∀ i j,i∈anc j->Anc l i j) (hW:∀ w j,w<j->j<l.length->W w=true->Anc l w j)
  (U:treeD P (l.map (·.dst)) W anc l 0 st [] K):PreY P N D l st K:=by
 intro v μ a w Q' hs F;obtain ⟨y,p⟩:=hs.hr.drew;have t:SR N D v μ ⟨st.env,st.h,st.n⟩ a w.drew:=hs.step p y;have L:Can P l st W 0 (λ_=>st.env) (λ_=>.ud) (λ_=>false) st.h [] (λ_=>False):=⟨λs=>rfl,λj o u=>by omega,λj o u=>by omega,λj o u=>by omega⟩;obtain ⟨H,S,I,C,m,e,g1,B,M,Z,T,R⟩:=Can.adv (anc:=anc) (K:=K) l.length 0 (n:=st.n) (env:=st.env) (by omega) L (λs=>rfl) (by simpa using U) (λi hi=>hi.elim);refine kwC (D:=D) (O:=v) (st0:=st) (K:=K) A f k hW (μ0:=μ) (w0:=w) (λx env h n E a' w' Y hl b X=>F _ E a' w' Y ⟨b.hr,b.size,b.defers,λs=>?_,b.gs,b.gi.evo b.hr.refl λ_=>.inl (hl GS).symm⟩)
  _ _ (λ_=>False) H S I C m e st.env st.h st.n μ a w.drew (by simp) (λi hi=>by simp [jah,hi]) (λi h=>h.elim) B (λj o _ h=>h.elim) ⟨λs _=>rfl,λs i oi h=>h.elim⟩ M T R t y ⟨List.range l.length,by simp,λi hi _=>jdl.2 hi⟩
 have:=b.env s;rw [hl s] at this; exact this
theorem kum {α:Type} {l:Ya α} {k:Nat} {y:α} (h:l[k]?=some y):l=l.take k++y::l.drop (k+1)/\(l.take k).length=k:=by
 obtain ⟨a,e⟩:=jaf.1 h;exact ⟨by rw [<-e,<-List.drop_eq_getElem_cons a,List.take_append_drop],by rw [jbi]; omega⟩
variable {l:Ya Oper} {cs:Ya Code} {env:Env}
theorem SatL.rreg {id:Nat} (a:kbw N l=true) (b:aopsR P h (l.map (·.dst)) l env λe=>SatL P N D O cs Q ⟨e,h,n⟩):SatL P N D O (.region id l.toArray false::cs) Q ⟨env,h,n⟩:=
 Sat.region a b.plain
theorem SatL.rregD {id:Nat} (f:P.follows .mixedOrders=true) (a:kdz l=true) (b:kbw N l=true) (k:aopsR P h (l.map (·.dst)) l env λe=>SatL P N D O cs Q ⟨e,h,n⟩):SatL P N D O (.region id l.toArray true::cs) Q ⟨env,h,n⟩:=
 Sat.draw0 f (SatA.of_tree a b (W:=λ_=>false) (anc:=λ_=>[]) (λi j h=>by cases h) (λw j _ _ h=>by cases h) k.tree)
theorem SatL.yreg {id:Nat} (k:Nat) {y:Oper} (i:l[k]?=some y) (hD:D.it=some G) (ok:IterOk P G) (f:kbw N l=true) (m:aopsR P h (l.map (·.dst)) (l.take k) env λe=>YieldK P G (l.map (·.dst)) y (l.drop (k+1)) (SatL P N D O cs Q) ⟨e,h,n⟩):SatL P N D O (.region id l.toArray false::cs) Q ⟨env,h,n⟩:=by
 obtain ⟨a,b⟩:=kum i;have:=Sat.regionY (P:=P) (N:=N) (D:=D) (O:=O) (Q:=thenQ (SatL P N D O cs Q) Q) (id:=id) (st:=⟨env,h,n⟩) (l1:=l.take k) (y:=y) (l2:=l.drop (k+1)) hD ok (by rw [<-a]; exact f) (by rw [<-a]; exact m.plain);rw [<-a] at this;exact this
theorem SatL.yregD {id:Nat} (k:Nat) {y:Oper} (v:l[k]?=some y) (hD:D.it=some G) (ok:IterOk P G) (u:P.follows .mixedOrders=true) (t:kdz l=true) (b:kdz (l.take k)=true) (A:barOk l k=true) (m:kbw N l=true)
  (B:aopsR P h ((l.take k).map (·.dst)) (l.take k) env λe=>YieldK P G (l.map (·.dst)) y (l.drop (k+1)) (SatL P N D O cs Q) ⟨e,h,n⟩):SatL P N D O (.region id l.toArray true::cs) Q ⟨env,h,n⟩:=by
 obtain ⟨a,f⟩:=kum v;have p:kbw N (l.take k)=true:=by unfold kbw at m ⊢; rw [jam] at m ⊢; exact λo x=>m o (jcl x)
 have:=Sat.drawY (P:=P) (N:=N) (D:=D) (O:=O) (Q:=thenQ (SatL P N D O cs Q) Q) (id:=id) (st:=⟨env,h,n⟩) (l1:=l.take k) (y:=y) (l2:=l.drop (k+1)) hD ok u (by rw [<-a]; exact t) (by rw [<-a,f]; exact A) (by rw [<-a]; exact m)
  (PreY.of_tree b p (W:=λ_=>false) (anc:=λ_=>[]) (λi j h=>by cases h) (λw j _ _ h=>by cases h) (aopsR.tree (by rw [<-a]; exact B)))
 rw [<-a] at this;exact this
theorem kzs (l:Ya Nat) (env:Env) (s:Nat):lk (keep l env) s = .un\/(s∈l/\lk (keep l env) s=lk env s):=by
 by_cases hs:s∈l
 ·rcases kAL l env s with e | e
  ·exact .inr ⟨hs,e⟩
  ·exact .inl e
 ·left;have:∀ l:Ya Nat,s∉l->lk (keep l env) s = .un:=λl=>by
   induction l with
   | nil=>intro _; rfl
   | cons x l a=>
    intro hn;simp only [keep,jap,lk];rw [if_neg (λe=>hn (by simp [e]))];exact a λh=>hn (by simp [h])
  exact this l hs
theorem YieldK.of {b:Ya (Yb Tmp)} {y:Oper} {l2:Ya Oper} {K:St->Prop} (live:Ya Nat) {c:Call} {f:Yf} {g:AV} {avs:Ya AV} {a es:Ya (Ya AV)} {z:AH} (v:GOk1 b y env) (p:y.op = .call c) (m:c.callee = .value f) (hY:YV P G.l g avs a) (hs:lk env GS = .gs es)
  (k:∀ j,j<a.length->G.xs[es.length+j]?=a[j]?) (hz:∀ q B,z q=some B->h q=some B) (i:SnapV z (ev env f) g) (u:SnapL z (c.args.toList.map (ev env)) avs) (hl:∀ t∈live,Free (lk env t))
  (hT:aops P b l2 ⟨putE ((GS,.gs (es++a))::keep live env) y.dst (.sc (.bool true)),ah0,n⟩ K) (hF:aops P b l2 ⟨putE ((GS,.ud)::keep live env) y.dst (.sc (.bool false)),ah0,n⟩ K):YieldK P G b y l2 K ⟨env,h,n⟩:=
 ⟨v,c,f,g,avs,a,es,z,keep live env,a,p,m,hY,hs,k,hz,i,u,λt _=>(kzs live env t).imp id λe=>⟨e.2,hl t e.1⟩,rfl,hT,hF⟩
variable {o:Oper}
theorem rdO.move {x:Yf} {v:AV} (b:o.op = .move x) (a:ev env x=v):rdO P h o env v:=λn K e=>by unfold aop; rw [b]; simp only; rw [a]; exact e
theorem rdO.assign {x:Yf} {v:AV} (b:o.op = .assign x) (a:ev env x=v):rdO P h o env v:=λn K e=>by unfold aop; rw [b]; simp only; rw [a]; exact e
theorem rdO.load {T:Yc} {x:Yf} {v:AV} {cs:Ya AV} (b:o.op = .load T x) (a:deref h (ev env x)=some (v::cs)) (hT:aggO P T=some false):rdO P h o env v:=λn K e=>by
 unfold aop; rw [b]; simp only; rw [a]; simp only [loadK,hT]; exact ⟨v,rfl,e⟩
theorem rdO.len {c:Call} {x:Yf} {T:Yc} {es:Ya (Ya AV)} (i:o.op = .call c) (a:c.callee = .builtin .len) (e:c.args = #[x]) (f:c.argTypes = #[T]) (b:ev env x = .sl es) (hT:(elemO P T).isSome=true):rdO P h o env (.sc (.int .i64 es.length)):=λn K k=>by
 unfold aop; rw [i]; simp only; rw [a,e,f]; simp only [kai]; rw [b]; exact ⟨hT,λ_=>k⟩
theorem rdO.bin {e:BinOp} {T u:Yc} {x y:Yf} {v:AV} (t:o.op = .binOp e T x y u) {k f:IntKind} {a b:Int} (p:ev env x = .sc (.int k a)) (i:ev env y = .sc (.int f b)) (m:∀ K:AV->Prop,K v->abinI e k a f b K):rdO P h o env v:=λn K A=>by
 unfold aop; rw [t]; simp only; rw [p,i]; exact m (λv=>K v h n) A
theorem rdO.not {T:Yc} {x:Yf} {v:AV} (b:Bool) (f:o.op = .unOp .not T x) (e:ev env x = .sc (.bool b)) (a:AV.sc (.bool !b)=v):rdO P h o env v:=λn K i=>by subst a; unfold aop; rw [f]; simp only; rw [e]; exact i
theorem rdO.pick {x y z:Yf} {b:Bool} {v:AV} (f:o.op = .pick x y z) (e:ev env x = .sc (.bool b)) (a:(if b then ev env y else ev env z)=v):rdO P h o env v:=λn K i=>by unfold aop; rw [f]; simp only; rw [e]; simp only; rw [a]; exact i
theorem rdO.extract {x:Yf} {i:Nat} {cs:Ya AV} {v:AV} (e:o.op = .extract x i) (b:ev env x = .tp cs) (a:cs[i]?=some v):rdO P h o env v:=λn K f=>by unfold aop; rw [e]; simp only; rw [b]; exact ⟨v,a,f⟩
theorem rdO.idx {T e:Yc} {x i:Yf} {es:Ya (Ya AV)} {c:Ya AV} {k:IntKind} {j:Int} (m:o.op = .indexAddr T x i) (f:ev env x = .sl es) (hi:ev env i = .sc (.int k j)) (hT:elemO P T=some e) (b:0<=j) (a:es[j.toNat]?=some c) (hl:c.length=P.cellsOf e) (hn:c.length≠0):rdO P h o env (.fp c):=λn K p=>by
 unfold aop; rw [m]; simp only; rw [f,hi]; simp only [kcV,hT]; exact ⟨b,c,a,hl,hn,p⟩
theorem rdO.call {c:Call} {f:Yf} {g:FuncId} {args:Ya AV} {r:AV} (k:o.op = .call c) (b:c.callee = .value f) (e:ev env f = .fn g []) (i:c.args.toList.map (ev env)=args) (hp:PC P g args (·= r)) (a:FreeL args):rdO P h o env r:=λn K m=>by
 unfold aop; rw [k]; simp only; rw [b]; simp only [callK]; rw [e]; simp only; rw [i,jbe]; exact hp.call1 a m
theorem aop.alloc {T:Yc} {z:Ya AV} {K:K3} (a:o.op = .alloc T) (hz:zeroO P T=some z) (b:K (.own n 0 0) (updH h n (.cells z.length T [z])) (n+1)):aop P env h n o K:=by unfold aop; rw [a]; simp only; rw [hz]; exact b
theorem aop.store {T:Yc} {p x:Yf} {id k:Nat} {T':Yc} {a b:AV} {K:K3} (f:o.op = .store T p x) (hp:ev env p = .own id 0 0) (hB:h id=some (.cells k T' [[a]])) (e:kaI (ev env x)=some [b]) (hT:P.cellsOf T=1) (i:K .ud (updH h id (.cells k T' [[b]])) n):aop P env h n o K:=by
 unfold aop; rw [f]; simp only; rw [hp]; simp only [kcd,hB,e]; exact ⟨hT.symm,by simp,by simp,i⟩
theorem aop.mkfn {f:FuncId} {a:Array Yf} {v:AV} {K:K3} (i:o.op = .makeFunc (.func f) #[] a) (b:AV.fn f (a.toList.map (ev env))=v) (e:K v h n):aop P env h n o K:=by unfold aop; rw [i]; simp only; rw [b]; exact ⟨trivial,e⟩
theorem aops.cons {a:Ya (Yb Tmp)} {r:Ya Oper} {K:St->Prop} (b:o.guard=none) (e:aop P env h n o λv h n=>aops P a r ⟨putE env o.dst v,h,n⟩ K):aops P a (o::r) ⟨env,h,n⟩ K:=by unfold aops; rw [b]; exact e
end
section
variable {P:Yd} {D:DX} {O:Nat->Prop}
structure Jd where
 e:List (Nat×TV sem)
 κ:Nat->Option Nat
 ln:Nat->Nat
structure RJ (J:Jd) (P:Program) (κ:Nat->Option Nat) (ln:Nat->Nat) (z:AH) (c:Cx sem) (s:TS sem) (env:Env) (h:AH) (n:Nat):Prop where
 R:Rel P κ ln z c s env h n
 j:∀ x v id,alk J.e x=some v->v.has id=true->κ id=J.κ id/\ln id=J.ln id
 w:∀ x v,alk J.e x=some v->alk c.e0 x=some v
section
variable {κ:Nat->Yb Nat} {ln:Nat->Nat} {z:AH} {c:Cx sem} {s:TS sem} {env:Env} {h:AH} {n:Nat} {J:Jd}
theorem RJ.ke (R:RJ J P κ ln z c s env h n) (W:CxWf c) {κ':Nat->Yb Nat} {ln':Nat->Nat} {z':AH} {s':TS sem} {a:Env} {h':AH} {n':Nat} (ke:Ke c s.n κ ln κ' ln') (e:Rel P κ' ln' z' c s' a h' n'):RJ J P κ' ln' z' c s' a h' n':=
 ⟨e,λx v id b hi=>by
  obtain ⟨m,i⟩:=ke id (R.R.has_lt W (kem (R.w x v b) hi));obtain ⟨f,k⟩:=R.j x v id b hi;exact ⟨m.trans f,(i (kem (R.w x v b) hi)).trans k⟩,R.w⟩
theorem RJ.into (R:RJ J P κ ln z c s env h n) {l:La} (b:okLa l c s=true):RJ J P κ ln z (inCx l c s) ⟨s.env.filter (λx=>!l.keep.contains x.1),s.hp.filter (λx=>!l.gids.contains x.1),s.n,s.dy⟩ env h n:=
 ⟨R.R.into b,R.j,λx v a=>by
  rw [kiY,if_neg]
  ·exact R.w x v a
  ·intro f;have e:=(kef b).1 x (by simpa using f);rw [R.w x v a] at e; cases e⟩
theorem kjx {l:La} {k:TS sem} (t:okLa l c s=true) (m:∀ id,(inCx l c s).has id=true->id<s.n) (R:RJ J P κ ln z (inCx l c s) k env h n) {x:l.head.ty.den} (hp:pack (inCx l c s) s.n l.head k=some x) :
  ∃ f a i,RJ J P f a i (inCx l c s) (kae l.head s.n x) env h n:=by
 obtain ⟨f,a,i,p,e⟩:=kzY t m R.R hp;exact ⟨f,a,i,p,λx v id b hi=>⟨(e id (kem (R.w x v b) hi)).1.trans (R.j x v id b hi).1,(e id (kem (R.w x v b) hi)).2.trans (R.j x v id b hi).2⟩,R.w⟩
theorem kkX {l:La} {p:TS sem} {κ0:Nat->Yb Nat} {k:Nat->Nat} {A:AH} {b:Env} {y:AH} {n0:Nat} (t:RJ J P κ0 k A c s b y n0) (C:okLa l c s=true) (u:∀ id,(inCx l c s).has id=true->id<l.n) (R:RJ J P κ ln z (inCx l c s) p env h n) {x:l.out.ty.den} (hp:pack (inCx l c s) l.n l.out p=some x) :
  ∃ i a m,RJ J P i a m c (outTS l c s x) env h n:=by
 obtain ⟨i,a,m,B,e⟩:=kwN t.R C u R.R hp;exact ⟨i,a,m,B,λx v id f hi=>⟨(e id (kem (R.w x v f) hi)).1.trans (R.j x v id f hi).1,(e id (kem (R.w x v f) hi)).2.trans (R.j x v id f hi).2⟩,t.w⟩
end
structure KonOk (D:DX) (J:Jd) (P:Program) {r ρ:Ty} (Q:Exit->St->Prop) (RetQ:r.den->St->Prop) (c:Cx sem) (K:Kon sem r ρ) (rr:ρ.den):Prop where
 nrm:∀ κ ln z s env h n,RJ J P κ ln z c s env h n->K.nrm s=some rr->Q .normal ⟨env,h,n⟩
 ext:∀ id κ ln z s env h n,RJ J P κ ln z c s env h n->K.ext id s=some rr->Q (.exit id) ⟨env,h,n⟩
 retv:∀ v st,RetQ v st->K.retv v=some rr->Q .ret st
 stop:D.it.isSome=true->∀ st,lk st.env GS = .ud->Q .ret st
def YOk (P:Yd) (D:DX) (Δ:Ya (FuncId×Ctr)) (J:Jd):Prop:=
 ((alk Δ IM).isNone=true->D.it=none)/\((alk Δ IM).isSome=true->∃ G,D.it=some G/\IterOk P G/\
  (∀ nm ts F,(alk Δ IM).bind (λC=>C.its.head?)=some ⟨nm,[.nt],ts,F⟩->∃ xs,F (0:Nat)=some xs/\G.xs=xs.map (avsL ts))/\alk J.e 0=some (.yl 0)/\J.κ 0=some G.l)
theorem kqc {α β:Type} {F:α->Yb (α⊕β)} {k:Nat} {x:α} {e:β} (h:itN F k x=some e):∃ a,k=a+1/\((∃ y,F x=some (.inl y)/\itN F a y=some e)\/F x=some (.inr e)):=by
 cases k with
 | zero=>simp [itN] at h
 | succ k=>
  refine ⟨k,rfl,?_⟩;simp only [itN] at h;split at h
  ·cases h
  ·rename_i y f; exact .inl ⟨y,f,h⟩
  ·rename_i w b; cases h; exact .inr b
theorem kxN {α β:Type} {F:α->Yb (α⊕β)} {x:α} {e:β} (h:iter F x=some e):∃ G,G=F/\iter G x=some e:=⟨F,rfl,h⟩
theorem kzT {α:Type} (l:Ya α):lenI l=(l.length:Int):=rfl
theorem kve:∀ (ts:Ya Ty) (x:(tup ts).den),(unT sem ts x).length=ts.length
 | [],_=>rfl
 | [t],_=>rfl
 | t::u::ts,x=>by simp [unT,kve (u::ts)]
theorem kns {α:Type}:∀ {l:Ya α} {k:Nat} {y:α},l[k]?=some y->l=l.take k++y::l.drop (k+1)/\(l.take k).length=k
 | [],k,y,h=>by simp at h
 | x::l,0,y,h=>by simp at h; subst h; exact ⟨rfl,rfl⟩
 | x::l,k+1,y,h=>by
  obtain ⟨a,h2⟩:=kns (l:=l) (k:=k) (y:=y) (by simpa using h);refine ⟨?_,by simp [h2]⟩;simp only [List.take_succ_cons,List.drop_succ_cons,jdp];rw [<-a]
theorem Rel.swap {κ:Nat->Yb Nat} {ln:Nat->Nat} {z:AH} {c:Cx sem} {s:TS sem} {env a:Env} {h:AH} {n:Nat} (R:Rel P κ ln z c s env h n) (b:∀ x,TVR P κ ln z s.n (tlk c s x) (lk a x)):Rel P κ ln z c s a h n:=
 ⟨b,R.blk,R.lt,R.inj,R.zin,R.zout,R.bnd,R.hn,R.e0,R.g,R.dy,R.zk,R.fam⟩
theorem kva:∀ (ts:Ya Ty) (x:(tup ts).den),(avsL ts x).length=ts.length
 | [],_=>rfl
 | [t],_=>rfl
 | t::u::ts,x=>by simp [avsL,kva (u::ts)]
theorem kys {κ:Nat->Yb Nat} {ln:Nat->Nat} {z:AH} {N:Nat} {c:Cx sem} (hp:Ya (Nat×Yb (TB sem))) (m:Nat) (dy:Bool):∀ (e:Ya Tmp) (l:Ya ((t:Ty)×t.den)) (as:Ya AV) (E:Ya (Nat×TV sem)) (env:Env),l.length=e.length->TVRs P κ ln z N (l.map λy=>TV.c y.1 y.2) as->(∀ x,TVR P κ ln z N (tlk c ⟨E,hp,m,dy⟩ x) (lk env x))->
  ∀ x,TVR P κ ln z N (tlk c ⟨rndE (A:=sem) e l E,hp,m,dy⟩ x) (lk (kks e as env) x)
 | [],l,as,E,env,hl,hs,he,x=>by simpa [rndE,kks] using he x
 | p::e,[],as,E,env,hl,hs,he,x=>by simp at hl
 | p::e,y::l,_,E,env,hl,.cons _ a _ as hv hs,he,x=>by
  refine kys hp m dy e l as ((p,.c y.1 y.2)::E) ((p,a)::env) (by simpa using hl) hs (λt=>?_) x;have f:tlk (A:=sem) c ⟨(p,.c y.1 y.2)::E,hp,m,dy⟩ t=if t=p then .c y.1 y.2 else tlk c ⟨E,hp,m,dy⟩ t:=by
   unfold tlk;simp only [alk];by_cases b:t=p
   ·rw [if_pos b,if_pos b]
   ·rw [if_neg b,if_neg b]
  rw [f];simp only [lk];by_cases b:t=p
  ·rw [if_pos b,if_pos b]; exact hv
  ·rw [if_neg b,if_neg b]; exact he t
theorem kAG (a:Ya Tmp):∀ (l:Ya ((t:Ty)×t.den)) (E:Ya (Nat×TV sem)) {x:Nat} {v:TV sem},alk (rndE (A:=sem) a l E) x=some v->x∈a\/alk E x=some v:=by
 induction a with
 | nil=>intro l E x v h; exact .inr h
 | cons p a b=>
  intro l E x v h;cases l with
  | nil=>exact .inr h
  | cons y l=>
   rcases b l ((p,.c y.1 y.2)::E) h with h | h
   ·exact .inl (jax _ h)
   ·simp only [alk] at h;split at h
    ·rename_i e; exact .inl (by simp [e])
    ·exact .inr h
theorem kki {Δ:Ya (FuncId×Ctr)} (hΔ:Goods P Δ) {An:Nat->(A:Alg)->Cx A->TS A->Yb La} {U:Nat} :
  ∀ (ab:Nat) {r:Ty} {res:Cx sem->TS sem->Yb r.den} {J:Jd} {RetQ:r.den->St->Prop} (al:∀ (c:Cx sem) κ ln s env h n v,CxWf c->RJ J P κ ln ahN c s env h n->res c s=some v->RetQ v ⟨env,h,n⟩) (hY:YOk P D Δ J) {ρ:Ty} (c:Cx sem) (cs:Ya Code) (K:Kon sem r ρ) (s:TS sem) (Q:Exit->St->Prop) (rr:ρ.den) (κ:Nat->Yb Nat) (ln:Nat->Nat) (z:AH) (env:Env) (h:AH) (n:Nat),CxWf c->RJ J P κ ln z c s env h n->KonOk D J P Q RetQ c K rr->
   mach P Δ An U ab res c cs K s=some rr->SatL P U D O cs Q ⟨env,h,n⟩
 | 0,r,res,J,RetQ,al,hY,ρ,c,cs,K,s,Q,rr,κ,ln,z,env,h,n,W,R,ok,S=>by simp only [mach] at S; exact kaa S
 | ab+1,r,res,J,RetQ,al,hY,ρ,c,cs,K,s,Q,rr,κ,ln,z,env,h,n,W,R,ok,S=>by
  have aB:=@kki Δ hΔ An U ab;have IH:=@aB r res J RetQ al hY;cases cs with
  | nil=>simp only [mach] at S; exact SatL.nil (ok.nrm _ _ _ _ _ _ _ R S)
  | cons cd cs=>
   cases cd <;> simp only [mach] at S;case skip=>exact SatL.skip (IH _ _ _ _ _ _ _ _ _ _ _ _ W R ok S)
   case seq a b=>exact SatL.seq (IH _ _ _ _ _ _ _ _ _ _ _ _ W R ok S)
   case ret=>
    split at S
    ·rename_i v hv;refine SatL.wk R.R λenv h Y=>?_;exact SatL.ret (ok.retv v _ (al _ _ _ _ _ _ _ _ W ⟨Y,R.j,R.w⟩ (by exact hv)) S)
    ·exact kaa S
   case exit id=>exact SatL.exit (ok.ext id _ _ _ _ _ _ _ R S)
   case region id ops aG=>
    refine SatL.wk R.R λenv h Y=>?_;replace R:RJ J P κ ln ahN c { s with dy:=false } env h n:=⟨Y,R.j,R.w⟩;clear Y;have bf:∀ (c:Cx sem) (W:CxWf c) (s:TS sem) {κ ln z env h n} (R:RJ J P κ ln z c { s with dy:=false } env h n) {ρ':Ty} (Kf:TS sem->sem.Ans ρ') (w:ρ'.den),(∀ κ ln z s' L h' n',RJ J P κ ln z c s' L h' n'->Kf s'=some w->SatL P U D O cs Q ⟨L,h',n'⟩)->
      (if (okD c (ops.toList.map (·.dst))&&kbw U ops.toList)=true then (if aG=true then drawV P c Δ U ops.toList { s with dy:=false } Kf else xops P c Δ (ops.toList.map (·.dst)) ops.toList { s with dy:=false } Kf) else sem.fail "slot that stays")=some w->SatL P U D O (.region id ops aG::cs) Q ⟨env,h,n⟩:=by
     intro c W s κ ln z env h n R ρ' Kf w hK ax;split at ax
     ·rename_i hc;rw [jac] at hc;split at ax
      ·rename_i hd;subst hd;have:=kwk (N:=U) (D:=D) (O:=O) (Q:=Q) (id:=id) hΔ R.R (λκ' ln' z' s' L h' n' ke R' u=>hK κ' ln' z' s' L h' n' (R.ke W ke R') u) ax;rw [show ops.toList.toArray=ops from rfl] at this;exact this
      ·rename_i hd;rw [jbk] at hd;subst hd;have:=Sat.region (P:=P) (N:=U) (D:=D) (O:=O) (Q:=thenQ (SatL P U D O cs Q) Q) (st:=⟨env,h,n⟩) (id:=id) hc.2 (kdm hΔ hc.1 (K:=λst=>SatL P U D O cs Q st) (λκ' ln' z' s' L h' n' ke R' u=>hK κ' ln' z' s' L h' n' (R.ke W ke R') u) ops.toList .refl (jag _) (λo ho=>jbb.2 ⟨o,ho,rfl⟩) R.R ax);rw [show ops.toList.toArray=ops from rfl] at this;exact this
     ·exact kaa ax
    split at S
    ·
     rename_i k aJ;have hIM:(alk Δ IM).isSome=true:=by
      unfold yIdx at aJ;split at aJ
      ·cases aJ
      ·rename_i hn; cases hh:alk Δ IM with
       | none=>rw [hh] at hn; exact absurd rfl hn
       | some C=>rfl
     obtain ⟨G,hD,okG,hIF,hJ0,hJκ⟩:=hY.2 hIM;split at S
     ·exact kaa S
     rename_i y ai;obtain ⟨Z,aR⟩:=kns ai;split at S
     rotate_left
     ·exact kaa S
     rename_i hc;simp only [jac] at hc;obtain ⟨⟨⟨aE,aD⟩,bz⟩,bb⟩:=hc;have bS:y.guard=none:=by simpa using bz
     have hdstM:∀ (l:Ya Oper),(∀ o∈l,o∈ops.toList)->∀ o∈l,o.dst∈ops.toList.map (·.dst):=λl hl o ho=>jbb.2 ⟨o,hl o ho,rfl⟩;have bB:∀ o∈ops.toList.take k,o∈ops.toList:=λo ho=>jcl ho;have aU:∀ o∈ops.toList.drop (k+1),o∈ops.toList:=λo ho=>jdi ho;have bK:y∈ops.toList:=jak ai;have bL:∀ d,y.dst=some d->alk c.e0 d=none:=λd hd=>by
      have:=jam.1 (show (ops.toList.map (·.dst)).all _=true from aE) (y.dst) (jbb.2 ⟨y,bK,rfl⟩);rw [hd] at this; simpa using this
     have be:∀ κ1 aj z1 s1 ae h1 n1,Ke c s.n κ ln κ1 aj->Rel P κ1 aj z1 c s1 ae h1 n1->krH (A:=sem) c Δ s1 y (λs2=>xops P c Δ (ops.toList.map (·.dst)) (ops.toList.drop (k+1)) s2 λs3=>mach P Δ An U ab (A:=sem) (r:=.un) (ρ:=.un) ksd c cs kwA s3)
       (λs2=>xops P c Δ (ops.toList.map (·.dst)) (ops.toList.drop (k+1)) s2 λs3=>mach P Δ An U ab res c cs K s3)=some rr->YieldK P G (ops.toList.map (·.dst)) y (ops.toList.drop (k+1)) (λst=>SatL P U D O cs Q st) ⟨ae,h1,n1⟩:=λκ1 aj z1 s1 ae h1 n1 ke Y bn=>by
      have au:=R.ke W ke Y;have bE:κ1 0=some G.l:=by rw [(au.j 0 (.yl 0) 0 hJ0 (by simp [TV.has])).1]; exact hJκ
      refine kux hIF W Y bE bL bn (λs2 ak R2 bp ap=>?_) (λs2 ak w0 R2 bp ap=>?_)
      ·exact kdm hΔ aE (K:=λst=>SatL P U D O cs Q st) (λκ' ln' z' s' L h' n' aM R' u=>IH _ _ _ _ _ _ _ _ _ _ _ _ W ((⟨R2,au.j,au.w⟩:RJ J P κ1 aj ahN c s2 ak ah0 n1).ke W aM R') ok u) _ .refl (jag _) (hdstM _ aU) R2 ap
      ·refine kdm hΔ aE (K:=λst=>SatL P U D O cs Q st) (λκ' ln' z' s' L h' n' aM R' u=>?_) _ .refl (jag _) (hdstM _ aU) R2 ap;refine @aB .un _ J (λ_ st=>lk st.env GS = .ud) (λc κ ln s env h n v W R hv=>?_) hY .un c cs _ s' Q w0 κ' ln' z' L h' n' W ((⟨R2,au.j,au.w⟩:RJ J P κ1 aj ahN c s2 ak ah0 n1).ke W aM R') ⟨λ_ _ _ _ _ _ _ _ hf=>kaa hf,λ_ _ _ _ _ _ _ _ _ hf=>kaa hf,λv st hv _=>ok.stop (by rw [hD]; rfl) st hv,ok.stop⟩ u;unfold ksd at hv;split at hv
       ·rename_i bM;have hR:=R.R.env GS;have:tlk c s GS = .ud:=by unfold tlk; rw [bM]
        rw [this] at hR;show lk env GS = .ud;generalize lk env GS=a at hR;cases hR; rfl
       ·cases hv
     have hopsA:(ops.toList.take k++y::ops.toList.drop (k+1)).toArray=ops:=by rw [<-Z]
     split at S
     ·rename_i aC;subst aC;simp only [jcg,jcn,jac] at bb;obtain ⟨⟨bo,bv⟩,aX⟩:=bb;obtain ⟨W',anc,t1,t2,t3,t4,t5⟩:=krc (N:=U) (Kt:=λst=>YieldK P G (ops.toList.map (·.dst)) y (ops.toList.drop (k+1)) (λst=>SatL P U D O cs Q st) st) hΔ R.R be S;have:=Sat.drawY (P:=P) (N:=U) (D:=D) (O:=O) (Q:=thenQ (SatL P U D O cs Q) Q) (id:=id) hD okG bo (by rw [<-Z]; exact bv) (by rw [<-Z,aR]; exact aX) (by rw [<-Z]; exact aD) (PreY.of_tree t1 t2 t3 t4 (by rw [<-Z]; exact t5));rw [hopsA] at this;exact this
     ·rename_i aC;rw [jbk] at aC;subst aC;have hx:=kdm hΔ aE (K:=λst=>YieldK P G (ops.toList.map (·.dst)) y (ops.toList.drop (k+1)) (λst=>SatL P U D O cs Q st) st) be (ops.toList.take k) (s:={ s with dy:=false }) .refl (jag _) (hdstM _ bB) R.R S;have:=Sat.regionY (P:=P) (N:=U) (D:=D) (O:=O) (Q:=thenQ (SatL P U D O cs Q) Q) (id:=id) (st:=⟨env,h,n⟩) hD okG (by rw [<-Z]; exact aD) (by rw [<-Z]; exact hx);rw [hopsA] at this;exact this
    split at S
    ·exact bf c W s R _ rr (λκ ln z s' L h' n' R' u=>IH _ _ _ _ _ _ _ _ _ _ _ _ W R' ok u) S
    ·rename_i a ha;split at S
     ·exact kaa S
     ·rename_i T;replace T:okLa a c s=true:=by simpa using T
      obtain ⟨y,hy,S⟩:=jaa.1 S;have R0:RJ J P κ ln ahN c s env h n:=⟨⟨R.R.env,R.R.blk,R.R.lt,R.R.inj,R.R.zin,R.R.zout,R.R.bnd,R.R.hn,R.R.e0,R.R.g,λ_=>rfl,R.R.zk,R.R.fam⟩,R.j,R.w⟩;have W':=kpe R0.R W T;have Y:=R0.into T;have bt:RJ J P κ ln ahN (inCx a c s) { (⟨s.env.filter (λx=>!a.keep.contains x.1),s.hp.filter (λx=>!a.gids.contains x.1),s.n,s.dy⟩:TS sem) with dy:=false } env h n:=⟨⟨Y.R.env,Y.R.blk,Y.R.lt,Y.R.inj,Y.R.zin,Y.R.zout,Y.R.bnd,Y.R.hn,Y.R.e0,Y.R.g,λ_=>rfl,Y.R.zk,Y.R.fam⟩,Y.j,Y.w⟩;have ah:∀ id,(inCx a c s).has id=true->id<a.n:=λid hi=>jan (Y.R.has_lt W' hi) (kef T).2.2.2.2.2.2;refine bf (inCx a c s) W' ⟨s.env.filter (λx=>!a.keep.contains x.1),s.hp.filter (λx=>!a.gids.contains x.1),s.n,s.dy⟩ bt _ y (λκ ln z s' L h' n' R' u=>?_) hy;split at u
      ·rename_i y' az;cases u;obtain ⟨κ2,aa,z2,R2⟩:=kkX R0 T ah R' az;exact IH _ _ _ _ _ _ _ _ _ _ _ _ W R2 ok S
      ·exact kaa u
   case cond x a b=>
    have hx:=R.R.ev x;split at S
    ·rename_i he;rw [he] at hx;generalize am:ev env x=av at hx;cases hx;exact SatL.condT am rfl (IH _ _ _ _ _ _ _ _ _ _ _ _ W R ok S)
    ·rename_i he;rw [he] at hx;generalize am:ev env x=av at hx;cases hx;exact SatL.condF am rfl (IH _ _ _ _ _ _ _ _ _ _ _ _ W R ok S)
    ·rename_i v he;rw [he] at hx;have am:=hx.b_inv;split at S
     ·rcases kcW S with ⟨hb,S⟩ | ⟨hb,S⟩
      ·exact SatL.condT am hb (IH _ _ _ _ _ _ _ _ _ _ _ _ W R ok S)
      ·exact SatL.condF am hb (IH _ _ _ _ _ _ _ _ _ _ _ _ W R ok S)
     ·rename_i l hl;split at S
      ·exact kaa S
      ·rename_i T;replace T:okLa l c s=true:=by simpa using T
       have W':=kpe R.R W T;have Y:=R.into T;have ah:∀ id,(inCx l c s).has id=true->id<l.n:=λid hi=>jan (Y.R.has_lt W' hi) (kef T).2.2.2.2.2.2;refine Sat.ofL (Q:=thenQ (SatL P U D O cs Q) Q) ?_;have aF:∀ {ρ':Ty} (K':Kon sem r ρ') (w:ρ'.den),KonOk D J P (thenQ (SatL P U D O cs Q) Q) RetQ (inCx l c s) K' w->sem.ite v (mach P Δ An U ab res (inCx l c s) [a] K' ⟨s.env.filter (λx=>!l.keep.contains x.1),s.hp.filter (λx=>!l.gids.contains x.1),s.n,s.dy⟩) (mach P Δ An U ab res (inCx l c s) [b] K' ⟨s.env.filter (λx=>!l.keep.contains x.1),s.hp.filter (λx=>!l.gids.contains x.1),s.n,s.dy⟩)=some w->SatL P U D O [.cond x a b] (thenQ (SatL P U D O cs Q) Q) ⟨env,h,n⟩:=λK' w ba u=>by
        rcases kcW u with ⟨hb,u⟩ | ⟨hb,u⟩
        ·exact SatL.condT am hb (IH _ _ _ _ _ _ _ _ _ _ _ _ W' Y ba u)
        ·exact SatL.condF am hb (IH _ _ _ _ _ _ _ _ _ _ _ _ W' Y ba u)
       split at S
       ·obtain ⟨w,hw,S⟩:=jaa.1 S;refine aF _ w ⟨λκ ln z s' L h' n' R' u=>?_,λid κ ln z s' L h' n' R' u=>kaa u,λv' st an u=>?_,ok.stop⟩ hw
        ·dsimp only at u;split at u
         ·rename_i y' az;cases u;obtain ⟨κ2,aa,z2,R2⟩:=kkX R T ah R' az;exact IH _ _ _ _ _ _ _ _ _ _ _ _ W R2 ok S
         ·exact kaa u
        ·cases u;exact ok.retv v' st an S
       ·obtain ⟨w,hw,S⟩:=jaa.1 S;refine aF _ w ⟨λκ ln z s' L h' n' R' u=>?_,λid κ ln z s' L h' n' R' u=>kaa u,λv' st an u=>kaa u,ok.stop⟩ hw;dsimp only at u;split at u
        ·rename_i y' az;cases u;obtain ⟨κ2,aa,z2,R2⟩:=kkX R T ah R' az;exact IH _ _ _ _ _ _ _ _ _ _ _ _ W R2 ok S
        ·exact kaa u
    ·exact kaa S
   case block id b=>
    have bD:∀ b',mach P Δ An U ab res c [b'] (⟨λs=>mach P Δ An U ab res c cs K s,λaq s=>if aq=id then mach P Δ An U ab res c cs K s else K.ext aq s,K.retv⟩:Kon sem r ρ) s=some rr->SatL P U D O (.block id b'::cs) Q ⟨env,h,n⟩:=λb' aN=>by
     refine SatL.block (IH _ _ _ _ (kfZ id (thenQ (SatL P U D O cs Q) Q)) _ _ _ _ _ _ _ W R ⟨λκ ln z s' L h' n' R' u=>?_,λaq κ ln z s' L h' n' R' u=>?_,λv st hv u=>?_,ok.stop⟩ aN)
     ·exact IH _ _ _ _ _ _ _ _ _ _ _ _ W R' ok u
     ·dsimp only at u;simp only [kfZ];split at u
      ·rename_i e;rw [if_pos e];exact IH _ _ _ _ _ _ _ _ _ _ _ _ W R' ok u
      ·rename_i e;rw [if_neg e];exact ok.ext aq _ _ _ _ _ _ _ R' u
     ·exact ok.retv v st hv u
    cases b with
    | loop b=>
     dsimp only at S;split at S
     ·exact kaa S
     ·rename_i l hl;split at S
      ·exact kaa S
      ·rename_i T;replace T:okLa l c s=true:=by simpa using T
       have W':=kpe R.R W T;have Y:=R.into T;have ao:∀ id,(inCx l c s).has id=true->id<s.n:=λid hi=>Y.R.has_lt W' hi;have ah:∀ id,(inCx l c s).has id=true->id<l.n:=λid hi=>jan (ao id hi) (kef T).2.2.2.2.2.2;split at S
       ·exact kaa S
       ·rename_i x hx;obtain ⟨κ0,aK,z0,R0⟩:=kjx T ao Y hx;have loop:∀ {X:Type} (F:l.head.ty.den->Yb (l.head.ty.den⊕X)) (e:X),iter F x=some e->
          (∀ (k:Nat) (st:St) (x:l.head.ty.den) (κ:Nat->Yb Nat) (ln:Nat->Nat) (z:AH) (w:l.head.ty.den⊕X),RJ J P κ ln z (inCx l c s) (kae l.head s.n x) st.env st.h st.n->F x=some w->(w = .inr e\/∃ y,w = .inl y)->
           ∀ (I:l.head.ty.den->St->Prop),(∀ y st κ ln z,w = .inl y->RJ J P κ ln z (inCx l c s) (kae l.head s.n y) st.env st.h st.n->I y st)->SatL P U D O [b] (thenQ (λs'=>∃ y,w = .inl y/\I y s') (kfZ id (thenQ (SatL P U D O cs Q) Q))) st)->
          SatL P U D O (.block id (.loop b)::cs) Q ⟨env,h,n⟩:=by
         intro X F e he round;refine SatL.block (SatL.ofS (Sat.loop (λ(k:Nat) st=>∃ (x:l.head.ty.den) (κ:Nat->Yb Nat) (ln:Nat->Nat) (z:AH),RJ J P κ ln z (inCx l c s) (kae l.head s.n x) st.env st.h st.n/\itN F k x=some e) (λk=>k) 18446744073709551616 ⟨x,κ0,aK,z0,R0,he⟩ ?_));rintro k st ⟨x,κ,ln,z,Rx,aH⟩;obtain ⟨k',rfl,af⟩:=kqc aH;have fin:∀ w,F x=some w->(w = .inr e\/∃ y,w = .inl y)->(∀ y,w = .inl y->itN F k' y=some e)->Sat P U D O b (thenQ (λs'=>∃ x',(∃ (x:l.head.ty.den) (κ:Nat->Yb Nat) (ln:Nat->Nat) (z:AH),RJ J P κ ln z (inCx l c s) (kae l.head s.n x) s'.env s'.h s'.n/\itN F x' x=some e)/\x'<k'+1) (kfZ id (thenQ (SatL P U D O cs Q) Q))) st:=λw hw M bJ=>by
          refine Sat.ofL (SatL.mono (cs:=[b]) ?_ (round k' st x κ ln z w Rx hw M (λy st=>∃ κ ln z,RJ J P κ ln z (inCx l c s) (kae l.head s.n y) st.env st.h st.n) (λy st κ ln z _ R=>⟨κ,ln,z,R⟩)));intro ex s' hq;cases ex with
          | normal=>
           obtain ⟨y,hy,κ,ln,z,Ry⟩:=hq;exact ⟨k',⟨y,κ,ln,z,Ry,bJ y hy⟩,jbl _⟩
          | _=>exact hq
         rcases af with ⟨y,hy,ai⟩ | hr
         ·exact fin _ hy (.inr ⟨y,rfl⟩) (λy' e'=>by cases e'; exact ai)
         ·exact fin _ hr (.inl rfl) (λy' e'=>by cases e')
        split at S
        ·obtain ⟨e,he,ap⟩:=jaa.1 S;refine loop _ e he λk st x κ ln z w Rx hw M I hI=>?_;refine IH _ _ _ _ _ _ _ _ _ _ _ _ W' Rx ⟨λκ ln z s' L h' n' R' u=>?_,λaq κ ln z s' L h' n' R' u=>?_,λv aY hv u=>?_,ok.stop⟩ hw
         ·dsimp only at u;split at u
          ·rename_i y hy;cases u;obtain ⟨κ2,aa,z2,R2⟩:=kjx T ao R' hy;exact ⟨y,rfl,hI y ⟨L,h',n'⟩ κ2 aa z2 rfl R2⟩
          ·exact kaa u
         ·dsimp only at u;split at u
          ·rename_i e1;split at u
           ·rename_i y hy;cases u;rcases M with M | ⟨y',M⟩
            ·cases M;obtain ⟨κ2,aa,z2,R2⟩:=kkX R T ah R' hy;subst e1;exact klH (thenN (IH _ _ _ _ _ _ _ _ _ _ _ _ W R2 ok ap))
            ·cases M
           ·exact kaa u
          ·exact kaa u
         ·cases u;rcases M with M | ⟨y',M⟩
          ·cases M; exact ok.retv v aY hv ap
          ·cases M
        ·obtain ⟨e,he,ap⟩:=jaa.1 S;refine loop _ e he λk st x κ ln z w Rx hw M I hI=>?_;refine IH _ _ _ _ _ _ _ _ _ _ _ _ W' Rx ⟨λκ ln z s' L h' n' R' u=>?_,λaq κ ln z s' L h' n' R' u=>?_,λv aY hv u=>kaa u,ok.stop⟩ hw
         ·dsimp only at u;split at u
          ·rename_i y hy;cases u;obtain ⟨κ2,aa,z2,R2⟩:=kjx T ao R' hy;exact ⟨y,rfl,hI y ⟨L,h',n'⟩ κ2 aa z2 rfl R2⟩
          ·exact kaa u
         ·dsimp only at u;split at u
          ·rename_i e1;split at u
           ·rename_i y hy;cases u;rcases M with M | ⟨y',M⟩
            ·cases M;obtain ⟨κ2,aa,z2,R2⟩:=kkX R T ah R' hy;subst e1;exact klH (thenN (IH _ _ _ _ _ _ _ _ _ _ _ _ W R2 ok ap))
            ·cases M
           ·exact kaa u
          ·exact kaa u
    | rangeFunc f ps assign body=>
     dsimp only at S;split at S
     ·exact kaa S
     rename_i hIM;have hD:D.it=none:=hY.1 (by cases hh:alk Δ IM with
      | none=>rfl
      | some C=>rw [hh] at hIM; exact absurd rfl hIM)
     refine SatL.wk R.R λenv h Y=>?_;replace R:RJ J P κ ln ahN c { s with dy:=false } env h n:=⟨Y,R.j,R.w⟩;clear Y;generalize bl:({ s with dy:=false }:TS sem)=s' at *
     clear bl;split at S
     rotate_left
     ·exact kaa S
     rename_i g bN hf;split at S
     ·exact kaa S
     rename_i I hI;split at S
     ·exact kaa S
     rename_i la ids hl;split at S
     rotate_left
     ·exact kaa S
     rename_i s0 a bw ha;obtain ⟨H,E,n0,bP⟩:=s0;split at S
     ·exact kaa S
     rename_i l bR;split at S
     ·exact kaa S
     rename_i aw;simp only [jat,jbd,not_or,jbk,Bool.not_eq_false',ne_eq,Decidable.not_not,jaj,Bool.not_eq_false] at aw;obtain ⟨⟨⟨⟨⟨T,br⟩,bI⟩,aQ⟩,bc⟩,bA⟩:=aw;split at S
     ·exact kaa S
     rename_i x hx;obtain ⟨xs,bu,S⟩:=jaa.1 S;obtain ⟨e,he,hkE⟩:=jaa.1 S;obtain ⟨F,hF,he⟩:=kxN he;have aS:=R.R.ev f;rw [hf] at aS;obtain ⟨as,bm,aI⟩:=aS.fn_inv;obtain ⟨C,hC,hIh⟩:=jaa.1 hI;have hG:=(hΔ.at hC).2.2.2 I (List.mem_of_mem_head? hIh);obtain ⟨bF,g1,g2,g3⟩:=kfX hΔ R.R _ _ _ aI hl;have hAR:=kjr _ _ _ _ g1 ha;have aH:=hG.2 a xs bu bF hAR;have Re:=R.R.eat rfl bw;have Rj:RJ J P κ ln ahN c ⟨H,E,n0,false⟩ env _ n:=⟨Re,R.j,R.w⟩;have W':=kpe Rj.R W T;have Y:=Rj.into T;have ao:∀ id,(inCx l c (⟨H,E,n0,false⟩:TS sem)).has id=true->id<n0:=λid hi=>Y.R.has_lt W' hi;have ah:∀ id,(inCx l c (⟨H,E,n0,false⟩:TS sem)).has id=true->id<l.n:=λid hi=>jan (ao id hi) (kef T).2.2.2.2.2.2;have aZ:l.head.env=[]:=by simpa using br
     have aO:l.out.env=[]:=by simpa using bI
     have aP:∀ y,(kae (A:=sem) l.head n0 y).env=[]:=λy=>by unfold kae; rw [aZ]; rfl
     have bs:∀ y,(kae (A:=sem) l.out l.n y).env=[]:=λy=>by unfold kae; rw [aO]; rfl
     have base:∀ x,TVR P κ ln ahN n0 ((alk (inCx l c (⟨H,E,n0,false⟩:TS sem)).e0 x).getD .un) (lk env x):=λx=>by
      cases aA:alk (inCx l c (⟨H,E,n0,false⟩:TS sem)).e0 x with
      | none=>exact .un _
      | some v=>have:=Y.R.env x; rw [Y.R.e0_tlk aA] at this; exact this
     have aL:∀ {κ':Nat->Yb Nat} {ln':Nat->Nat} {z':AH} {N':Nat},(∀ x v id,alk (inCx l c (⟨H,E,n0,false⟩:TS sem)).e0 x=some v->v.has id=true->κ' id = κ id/\ln' id=ln id/\id<N')->∀ x,TVR P κ' ln' z' N' ((alk (inCx l c (⟨H,E,n0,false⟩:TS sem)).e0 x).getD .un) (lk env x):=λ{κ' ln' z' N'} ay x=>by
      have hb:=base x;cases aA:alk (inCx l c (⟨H,E,n0,false⟩:TS sem)).e0 x with
      | none=>exact .un _
      | some v=>
       rw [aA] at hb;exact hb.congr (λid hi=>ay x v id aA hi) (λq B hq=>by cases hq)
     have bh:∀ (s1:TS sem) x,s1.env=[]->tlk (inCx l c (⟨H,E,n0,false⟩:TS sem)) s1 x=(alk (inCx l c (⟨H,E,n0,false⟩:TS sem)).e0 x).getD .un:=λs1 x hs=>by unfold tlk; rw [hs]; rfl
     have swapU:∀ {κ':Nat->Yb Nat} {ln':Nat->Nat} {z':AH} {y:l.head.ty.den} {L:Env} {h':AH} {n':Nat},RJ ⟨(inCx l c (⟨H,E,n0,false⟩:TS sem)).e0,κ,ln⟩ P κ' ln' z' (inCx l c (⟨H,E,n0,false⟩:TS sem)) (kae l.head n0 y) L h' n'->RJ ⟨(inCx l c (⟨H,E,n0,false⟩:TS sem)).e0,κ,ln⟩ P κ' ln' z' (inCx l c (⟨H,E,n0,false⟩:TS sem)) (kae l.head n0 y) env h' n':=λ{κ' ln' z' y L h' n'} Ru=>
      ⟨Ru.R.swap λx=>by rw [bh _ x (aP y)]; exact aL (λx v id ad hi=>⟨(Ru.j x v id ad hi).1,(Ru.j x v id ad hi).2,Ru.R.has_lt W' (kem ad hi)⟩) x,Ru.j,Ru.w⟩
     have fin:∀ {κ':Nat->Yb Nat} {ln':Nat->Nat} {z':AH} {s1:TS sem} {y:l.out.ty.den} {L:Env} {h':AH} {n':Nat},RJ ⟨(inCx l c (⟨H,E,n0,false⟩:TS sem)).e0,κ,ln⟩ P κ' ln' z' (inCx l c (⟨H,E,n0,false⟩:TS sem)) s1 L h' n'->pack (inCx l c (⟨H,E,n0,false⟩:TS sem)) l.n l.out s1=some y->mach P Δ An U ab res c cs K (outTS l c (⟨H,E,n0,false⟩:TS sem) y)=some rr->SatL P U D O cs Q ⟨env,h',n'⟩:=λ{κ' ln' z' s1 y L h' n'} Ru hy u=>by
      obtain ⟨κ2,aa,z2,R2,ag⟩:=kwN Rj.R T ah Ru.R hy;have ay:∀ x v id,alk (inCx l c (⟨H,E,n0,false⟩:TS sem)).e0 x=some v->v.has id=true->κ2 id = κ id/\aa id=ln id/\id<l.n:=λx v id ad hi=>
       ⟨(ag id (kem ad hi)).1.trans (Ru.j x v id ad hi).1,(ag id (kem ad hi)).2.trans (Ru.j x v id ad hi).2,ah id (kem ad hi)⟩
      have R3:Rel P κ2 aa z2 c (outTS l c (⟨H,E,n0,false⟩:TS sem) y) env h' n':=R2.swap λx=>by
       have ht:tlk c (outTS l c (⟨H,E,n0,false⟩:TS sem) y) x=(alk (inCx l c (⟨H,E,n0,false⟩:TS sem)).e0 x).getD .un:=by
        unfold tlk;have:alk (outTS l c (⟨H,E,n0,false⟩:TS sem) y).env x=if l.keep.contains x then some (tlk c (⟨H,E,n0,false⟩:TS sem) x) else none:=by
         show alk ((kae (A:=sem) l.out l.n y).env++l.keep.map λx=>(x,tlk c (⟨H,E,n0,false⟩:TS sem) x)) x=_;rw [bs,jbc,kmS]
        rw [this,kiY];split <;> rename_i aD <;> split at aD <;> simp_all
       rw [ht];exact aL ay x
      refine IH _ _ _ _ _ _ _ _ _ _ _ _ W ⟨R3,λx v id hv hi=>?_,Rj.w⟩ ok u;have an:alk (inCx l c (⟨H,E,n0,false⟩:TS sem)).e0 x=some v:=Y.w x v hv;exact ⟨(ay x v id an hi).1.trans (R.j x v id hv hi).1,(ay x v id an hi).2.1.trans (R.j x v id hv hi).2⟩
     have bj:RJ ⟨(inCx l c (⟨H,E,n0,false⟩:TS sem)).e0,κ,ln⟩ P κ ln ahN (inCx l c (⟨H,E,n0,false⟩:TS sem)) ⟨H.filter (λx=>!l.keep.contains x.1),E.filter (λx=>!l.gids.contains x.1),n0,false⟩ env _ n:=⟨Y.R,λx v id _ _=>⟨rfl,rfl⟩,λx v h=>h⟩;obtain ⟨κ0,aK,z0,R0⟩:=kjx T ao bj hx;have hnoIM:¬ (alk Δ IM).isSome=true:=hIM;have ar:∀ {Q':Exit->St->Prop},D.it.isSome=true->∀ st,lk st.env GS = .ud->Q' .ret st:=λhi=>by rw [hD] at hi; cases hi
     refine SatL.block (SatL.ofS (Sat.rangeFunc hD (ids.flatMap (ows κ ln c s')) bm (hE:=hz (ows κ ln c s') h ahN ids) (λi B hi=>?_) (λi B hi=>?_) g2 aH (λy hy=>?_) (λp hp=>?_)
      (λk h n=>∃ m x κ' ln' z',itN F m ((k:Int),x)=some e/\RJ ⟨(inCx l c (⟨H,E,n0,false⟩:TS sem)).e0,κ,ln⟩ P κ' ln' z' (inCx l c (⟨H,E,n0,false⟩:TS sem)) (kae l.head n0 x) env h n) ⟨18446744073709551616,x,κ0,aK,z0,he,R0⟩ (λk xA h1 n1 hxA hI1=>?_) (λh1 n1 hI1=>?_)))
     ·refine ⟨?_,keQ R.R.zin i B hi⟩;unfold hz at hi;split at hi
      ·rename_i aW;obtain ⟨id,bG,bk⟩:=jbt.1 aW;rw [jbu];exact List.mem_flatMap.2 ⟨id,bG,by simpa using bk⟩
      ·cases hi
     ·split at hi
      ·cases hi
      ·rename_i aT; exact ⟨by simpa using aT,hi⟩
     ·obtain ⟨y',_,rfl⟩:=jbb.1 hy;rw [kva]; exact bc
     ·have:=jam.1 aQ p hp;simp only [jac,jaj] at this;exact this.2
     ·obtain ⟨m,x1,κ1,aj,z1,hm,Ru⟩:=hI1;rw [jas] at hxA;obtain ⟨e',bg,rfl⟩:=jad.1 hxA;obtain ⟨m',rfl,af⟩:=kqc hm;obtain ⟨w,hw,M⟩:∃ w,F ((k:Int),x1)=some w/\(w = .inr e\/∃ y,w = .inl y/\itN F m' y=some e):=by
       rcases af with ⟨y,hy,ai⟩ | hr
       ·exact ⟨_,hy,.inr ⟨y,rfl,ai⟩⟩
       ·exact ⟨_,hr,.inl rfl⟩
      rw [hF] at hw;dsimp only at hw;rcases kcW hw with ⟨hb,hw⟩ | ⟨hb,hw⟩
      rotate_left
      ·exfalso;have bO:=(jaf.1 bg).1;have bQ:¬ ((k:Int)<(xs.length:Int)):=of_decide_eq_false hb;omega
      obtain ⟨e2,bx,hw⟩:=jaa.1 hw;have bi:e2=e':=by
       have h3:=(klU bx).2;simp only [jay] at h3;rw [bg] at h3; cases h3; rfl
      subst bi;have bH:(unT sem I.ts e2).length=ps.toList.length:=by rw [kve]; simpa using bc
      have Rr:RJ ⟨(inCx l c (⟨H,E,n0,false⟩:TS sem)).e0,κ,ln⟩ P κ1 aj z1 (inCx l c (⟨H,E,n0,false⟩:TS sem)) ⟨rndE ps.toList (unT sem I.ts e2) (kae (A:=sem) l.head n0 x1).env,(kae (A:=sem) l.head n0 x1).hp,(kae (A:=sem) l.head n0 x1).n,(kae (A:=sem) l.head n0 x1).dy⟩ (kks ps.toList (avsL I.ts e2) env) h1 n1:=by
       refine ⟨⟨λy=>kys _ _ _ ps.toList _ _ _ _ bH (kmK I.ts e2 bA) (λt=>Ru.R.env t) y,Ru.R.blk,Ru.R.lt,Ru.R.inj,Ru.R.zin,Ru.R.zout,Ru.R.bnd,Ru.R.hn,λy v hy=>?_,Ru.R.g,Ru.R.dy,Ru.R.zk,Ru.R.fam⟩,Ru.j,Ru.w⟩;rcases kAG ps.toList _ _ hy with hy | hy
       ·have:=jam.1 aQ y hy;simp only [jac,jdo] at this;exact this.1
       ·rw [aP] at hy; cases hy
      have hresR:∀ (c1:Cx sem) κ2 aa s1 ae h1 n1 v,CxWf c1->RJ ⟨(inCx l c (⟨H,E,n0,false⟩:TS sem)).e0,κ,ln⟩ P κ2 aa ahN c1 s1 ae h1 n1->(λ(c1:Cx sem) (s1:TS sem)=>res ⟨(inCx l c (⟨H,E,n0,false⟩:TS sem)).e0,c1.g⟩ ⟨[],s1.hp,s1.n,s1.dy⟩) c1 s1=some v->(λv (st:St)=>RetQ v ⟨env,st.h,st.n⟩) v ⟨ae,h1,n1⟩:=λc1 κ2 aa s1 ae h1 n1 v W1 Rc hv=>by
       refine al ⟨(inCx l c (⟨H,E,n0,false⟩:TS sem)).e0,c1.g⟩ κ2 aa ⟨[],s1.hp,s1.n,s1.dy⟩ env h1 n1 v ⟨W'.e0,W1.g⟩ ⟨⟨λy=>?_,Rc.R.blk,Rc.R.lt,Rc.R.inj,Rc.R.zin,Rc.R.zout,Rc.R.bnd,Rc.R.hn,λy v hy=>(by cases hy),Rc.R.g,Rc.R.dy,Rc.R.zk,Rc.R.fam⟩,λy v id hv hi=>?_,λy v hv=>Y.w y v hv⟩ hv
       ·show TVR P κ2 aa ahN s1.n ((alk (inCx l c (⟨H,E,n0,false⟩:TS sem)).e0 y).getD .un) (lk env y);exact aL (λx v id ad hi=>⟨(Rc.j x v id ad hi).1,(Rc.j x v id ad hi).2,Rc.R.has_lt W1 (kem (Rc.w x v ad) hi)⟩) y
       ·have an:alk (inCx l c (⟨H,E,n0,false⟩:TS sem)).e0 y=some v:=Y.w y v hv;exact ⟨(Rc.j y v id an hi).1.trans (R.j y v id hv hi).1,(Rc.j y v id an hi).2.trans (R.j y v id hv hi).2⟩
      have hYr:YOk P D Δ ⟨(inCx l c (⟨H,E,n0,false⟩:TS sem)).e0,κ,ln⟩:=⟨λ_=>hD,λhh=>absurd hh hnoIM⟩;refine Sat.ofL (SatL.mono (cs:=[assign]) (λe s hq=>hq) (@aB r (λ(c1:Cx sem) (s1:TS sem)=>res ⟨(inCx l c (⟨H,E,n0,false⟩:TS sem)).e0,c1.g⟩ ⟨[],s1.hp,s1.n,s1.dy⟩) ⟨(inCx l c (⟨H,E,n0,false⟩:TS sem)).e0,κ,ln⟩ (λv (st:St)=>RetQ v ⟨env,st.h,st.n⟩) hresR hYr (.sm (.pr (.i .i64) l.head.ty) (.sm r l.out.ty)) (inCx l c (⟨H,E,n0,false⟩:TS sem)) [assign] _ _ (thenQ (λs=>Sat P U D O body (bodyQ (kfZ id (thenQ (SatL P U D O cs Q) Q)) env (λk h n=>∃ m x κ' ln' z',itN F m ((k:Int),x)=some e/\RJ ⟨(inCx l c (⟨H,E,n0,false⟩:TS sem)).e0,κ,ln⟩ P κ' ln' z' (inCx l c (⟨H,E,n0,false⟩:TS sem)) (kae l.head n0 x) env h n) k) s) (λ_ _=>False)) w κ1 aj z1 _ h1 n1 W' Rr
       ⟨λκ2 aa z2 s2 ak h2 n2 Rb aN=>?_,λ_ _ _ _ _ _ _ _ _ hf=>kaa hf,λ_ _ _ hf=>kaa hf,ar⟩ hw))
      refine Sat.ofL (@aB r (λ(c1:Cx sem) (s1:TS sem)=>res ⟨(inCx l c (⟨H,E,n0,false⟩:TS sem)).e0,c1.g⟩ ⟨[],s1.hp,s1.n,s1.dy⟩) ⟨(inCx l c (⟨H,E,n0,false⟩:TS sem)).e0,κ,ln⟩ (λv (st:St)=>RetQ v ⟨env,st.h,st.n⟩) hresR hYr (.sm (.pr (.i .i64) l.head.ty) (.sm r l.out.ty)) (inCx l c (⟨H,E,n0,false⟩:TS sem)) [body] _ s2 _ w κ2 aa z2 ak h2 n2 W' Rb ⟨λκ3 ln3 z3 s3 aV h3 n3 Rc ac=>?_,λaq κ3 ln3 z3 s3 aV h3 n3 Rc ac=>?_,λv st hv ac=>?_,ar⟩ aN)
      ·dsimp only at ac;split at ac
       ·rename_i y hy;cases ac;obtain ⟨κ4,bC,z4,R4⟩:=kjx T ao Rc hy;rcases M with M | ⟨y',M,ai⟩
        ·cases M
        ·cases M;exact ⟨m',y,κ4,bC,z4,by rw [show ((k+1:Nat):Int)=(k:Int)+1 by omega]; exact ai,swapU R4⟩
       ·exact kaa ac
      ·dsimp only at ac;split at ac
       ·rename_i e1;split at ac
        ·rename_i y hy;cases ac;rcases M with M | ⟨y',M,_⟩
         ·cases M;subst e1;exact klH (thenN (fin Rc hy hkE))
         ·cases M
        ·exact kaa ac
       ·exact kaa ac
      ·cases ac;rcases M with M | ⟨y',M,_⟩
       ·cases M;exact ok.retv v _ hv hkE
       ·cases M
     ·obtain ⟨m,x1,κ1,aj,z1,hm,Ru⟩:=hI1;obtain ⟨m',rfl,af⟩:=kqc hm;have hw:∃ w,F (((xs.map λy=>avsL I.ts y).length:Int),x1)=some w/\(w = .inr e\/∃ y,w = .inl y/\itN F m' y=some e):=by
       rcases af with ⟨y,hy,ai⟩ | hr
       ·exact ⟨_,hy,.inr ⟨y,rfl,ai⟩⟩
       ·exact ⟨_,hr,.inl rfl⟩
      obtain ⟨w,hw,M⟩:=hw;rw [hF] at hw;dsimp only at hw;rcases kcW hw with ⟨hb,hw⟩ | ⟨hb,hw⟩
      ·exfalso;simp only [jaq,jaj,kzT] at hb;omega
      split at hw
      ·rename_i y hy;cases hw;rcases M with M | ⟨y',M,_⟩
       ·cases M;exact fin Ru hy hkE
       ·cases M
      ·exact kaa hw
    | _=>exact bD _ S
   all_goals exact kaa S
end
section
variable {P:Yd} {κ:Nat->Yb Nat} {ln:Nat->Nat} {z:AH} {c:Cx sem} {s:TS sem} {env:Env} {h:AH} {n:Nat}
theorem hz_le (R:Rel P κ ln z c s env h n) (ids:Ya Nat):∀ q B,hz (ows κ ln c s) h z ids q=some B->h q=some B:=by
 intro q B a;unfold hz at a;split at a
 ·exact a
 ·exact R.zin q B a
theorem kpF (R:Rel P κ ln z c s env h n) {T:Yc} {x:Tmp} {w:TV sem} (b:cellX P c s T (tlk c s x)=some w) :
  ∃ a,kcE P h env (.cell x T)=some a/\TVR P κ ln z s.n w a:=by
 have u:=R.env x;unfold cellX at b;split at b
 ·cases b
 ·rename_i ag i;split at b
  ·rename_i id j M;rw [M] at u;generalize hE:lk env x=a at u;cases u with
   | ptr _ _ q hN E=>
    split at b
    ·rename_i T' vs hB;cases R.blk _ _ hB with
     | bx _ _ I as e C f F=>
      rw [E] at e; cases e;have hl:=f.len;have k:deref h (lk env x)=some (as.drop j):=by rw [hE]; simp only [deref,C]; rfl
      cases ag with
      | true=>
       simp only [if_true] at b;split at b
       ·rename_i H;cases b;refine ⟨_,?_,.ag _ _ ((f.drop j).take _) (λa v=>F a (jdi (jcl v)))⟩;simp only [kcE,k,i];rw [if_pos (by simp; omega)]
       ·cases b
      | false=>
       simp only [jai,if_false] at b;obtain ⟨a,v,A⟩:=f.at b;refine ⟨a,?_,A⟩;simp only [kcE,k,i];rw [jar]; simpa using v
    ·rename_i T' t y hB;cases R.blk _ _ hB with
     | el _ _ _ I cs k e C f F hl=>
      rw [E] at e; cases e;have B:deref h (lk env x)=some (cs.drop j):=by rw [hE]; simp only [deref,C]; rfl
      obtain ⟨p,hp,rfl⟩:=jad.1 b;obtain ⟨t',U⟩:=p;obtain ⟨g1,K,L,X,S⟩:=kii t y j (P.cellsOf T) ag cs k hp f;obtain ⟨a,k1,k2,k3⟩:=kmd (P:=P) (κ:=κ) (ln:=ln) (N:=s.n) (m:=P.cellsOf T) (cs:=cs.drop j) g1 K L S (by rw [jdw]; omega);refine ⟨a,?_,k1⟩;simp only [kcE,B,i];cases ag with
      | true=>simp only []; rw [if_pos (by rw [jdw]; omega),<-k2 rfl]
      | false=>exact k3 rfl
    ·cases b
  ·cases b
theorem kmz (R:Rel P κ ln z c s env h n):∀ (l:Ya ResultVar) (rs:Ya Ty) (ys:Ya ((t:Ty)×sem.D t)),resX (A:=sem) P c s l rs=some ys->
  ∃ as bs,l.mapM (kcE P h env)=some as/\SnapL h as bs/\AL P ys bs/\rs.all Ty.dat=true
 | [],[],ys,hr=>by
  simp only [resX,Option.some.injEq] at hr; subst hr;exact ⟨[],[],rfl,.nil,.nil,rfl⟩
 | .tmp t::l,r::rs,ys,hr=>by
  simp only [resX] at hr;obtain ⟨⟨x,ids⟩,f,hr⟩:=jaa.1 hr;obtain ⟨y,e,rfl⟩:=jad.1 hr;obtain ⟨as,bs,p,h2,k,i⟩:=kmz R l rs y e;obtain ⟨b,hs,_⟩:=kbE R (R.env t) f;refine ⟨lk env t::as,r.av x::bs,?_,.cons (hs.mono (hz_le R ids)) h2,.cons ((kdk b).2 rfl) k,by simp [b,i]⟩;rw [jdu,p]; rfl
 | .cell a T::l,r::rs,ys,hr=>by
  simp only [resX] at hr;obtain ⟨v,B,hr⟩:=jaa.1 hr;obtain ⟨⟨x,ids⟩,f,hr⟩:=jaa.1 hr;obtain ⟨y,e,rfl⟩:=jad.1 hr;obtain ⟨as,bs,p,h2,k,i⟩:=kmz R l rs y e;obtain ⟨u,C,m⟩:=kpF R B;obtain ⟨b,hs,_⟩:=kbE R m f;refine ⟨u::as,r.av x::bs,?_,.cons (hs.mono (hz_le R ids)) h2,.cons ((kdk b).2 rfl) k,by simp [b,i]⟩;rw [jdu,p,C]; rfl
 | [],_::_,ys,hr=>by simp [resX] at hr
 | .tmp _::_,[],ys,hr=>by simp [resX] at hr
 | .cell _ _::_,[],ys,hr=>by simp [resX] at hr
theorem SnapL.tp {as bs:Ya AV} (hs:SnapL h as bs):Snap h (.tp as) (.tp bs):=.tp as bs hs.len hs.at
theorem ksS (R:Rel P κ ln z c s env h n) {l:Ya ResultVar} {rs:Ya Ty} {v:(tup rs).den} (hr:(resX (A:=sem) P c s l rs).bind (mkT sem rs)=some v) :
  ∃ a,kbm P h env l=some a/\Snap h a (rav rs v):=by
 obtain ⟨ys,m,k⟩:=jaa.1 hr;obtain ⟨as,bs,f,h2,x,p⟩:=kmz R l rs ys m;have B:=knN p (kjr rs ys bs v x k);subst B;have hl:=h2.len;match rs,v,h2,hl with
 | [],v,h2,hl=>
  cases h2;exact ⟨.tp [],by simp only [kbm,f],SnapL.tp .nil⟩
 | [t],v,h2,hl=>
  cases h2 with
  | cons i y=>cases y; exact ⟨_,by simp only [kbm,f],i⟩
 | t::u::ts,v,h2,hl=>
  have e:rav (t::u::ts) v = .tp (avsL (t::u::ts) v):=rfl;rw [e];match as,hl,f,h2 with
  | [],hl,_,_=>simp [avsL] at hl
  | [_],hl,_,_=>exfalso; cases ts <;> simp [avsL] at hl
  | a::b::as,_,f,h2=>exact ⟨_,by simp only [kbm,f],SnapL.tp h2⟩
theorem kqp:∀ {ys:Ya ((t:Ty)×t.den)} {as:Ya AV},AL P ys as->∀ (k x:Nat),TVR P κ ln z n (tlk (A:=sem) ⟨[],[]⟩ ⟨(ys.zipIdx k).map λy=>(y.2,argT (A:=sem) y.1.1 y.1.2),[],n,false⟩ x) (lk ((as.zipIdx k).map λ(v,i)=>(i,v)) x)
 | [],_,.nil,k,x=>by exact .un _
 | p::ys,_,.cons (a:=a) (as:=as) h1 hl,k,x=>by
  have f:=kqp hl (k+1) x;simp only [jbj,jap,tlk,alk,lk] at f ⊢;by_cases e:x=k
  ·simp only [if_pos e];obtain ⟨t,y⟩:=p;cases t <;> first | exact .cv _ _ _ _ _ h1 | (obtain ⟨b,rfl⟩:=h1; exact .c _ _ _ b (.free _ (khL _ _ b)))
  ·simp only [if_neg e]; exact f
theorem kuP:∀ {ts:Ya Ty} {x:(tup ts).den} {l:Ya AV},AR P ts x l->AL P (unT sem ts x) l
 | [],_,_,rfl=>.nil
 | [t],x,_,⟨a,rfl,h⟩=>.cons h .nil
 | t::u::ts,x,_,⟨a,l',rfl,h,h'⟩=>.cons h (kuP h')
theorem AL.len {ys:Ya ((t:Ty)×t.den)} {as:Ya AV} (h:AL P ys as):as.length=ys.length:=by induction h <;> simp [*]
theorem ksz:∀ (ts:Ya Ty) (x:(tup ts).den),(unT sem ts x).length=ts.length
 | [],_=>rfl
 | [t],_=>rfl
 | t::u::ts,x=>by simp [unT,ksz (u::ts)]
theorem kac {g:FuncId} {C:Ctr} {f:Func} (K:P.funcs[g]?=some f) (y:(C.rs.all Ty.dat&&C.as.length<=f.ntmps&&!(f.name== "runtime.NumGoroutine"))=true) {An:Ya (Nat×La)} (Δ:Ya (FuncId×Ctr)) (E:Goods P Δ)
  (U:∀ x,C.F x=machF P Δ (anL An) f C.as C.rs (A:=sem) x) (hM:∀ M∈C.mus,M.ok=true/\GoodM P g M:=by intro M h; cases h) (hI:∀ I∈C.its,GoodI P g I:=by intro M h; cases h) (hM0:(alk Δ IM).isNone=true:=by rfl):Good P g C:=by
 simp only [jac,jbd,jaj] at y;obtain ⟨⟨X,h2⟩,L⟩:=y;refine ⟨X,λx r hr l hl=>?_,hM,hI⟩;rw [U,machF] at hr;dsimp only at hr;split at hr
 ·exact kaa hr
 ·rename_i body Y;have p:=kuP hl;refine PC.of_body K Y L (by rw [p.len,ksz]; exact h2) λD O hD=>?_;refine kki (D:=D) (O:=O) E 1000000 (RetQ:=λv st=>∃ a,kbm P st.h st.env f.results.toList=some a/\Snap st.h a (rav C.rs v)) (J:=⟨[],λ_=>none,λ_=>0⟩) (λc κ ln s env h n v _ R e=>ksS R.R e) (hY:=⟨λ_=>hD,λS=>absurd S (by cases H:alk Δ IM with | none=>decide | some C=>rw [H] at hM0; cases hM0)⟩) ⟨[],[]⟩ [body] _ _ _ r (λ_=>none) (λ_=>0) (λ_=>none) (kar l) ah0 0
   ⟨λx v h=>(by cases h),λx B h=>(by cases h)⟩ ?_ ?_ hr
  ·refine ⟨⟨λx=>?_,λid B h=>(by cases h),λid B h=>(by cases h),λi j B Z q h=>(by cases h),λq B h=>(by cases h),λid B q h=>(by cases h),λid B q h=>(by cases h),λq _=>rfl,λx v h=>rfl,λid b h=>(by cases h),λ_=>rfl,λq k T es h=>(by cases h),λid B h=>(by cases h)⟩,λx v id e=>(by cases e),λx v e=>(by cases e)⟩;exact kqp (n:=0) p 0 x
  ·refine ⟨λκ ln z s env h n R m=>?_,λid κ ln z s env h n R m=>kaa m,λv st e m=>?_,λhi=>by rw [hD] at hi; cases hi⟩
   ·dsimp only at m;split at m
    ·rename_i v e;cases m;obtain ⟨a,t,u⟩:=ksS R.R e;exact ⟨a,t,_,u,rfl⟩
    ·exact kaa m
   ·cases m;obtain ⟨a,t,u⟩:=e;exact ⟨a,t,_,u,rfl⟩
end
section
variable {P:Yd} {κ κ':Nat->Yb Nat} {ln ln':Nat->Nat} {z z':AH} {c:Cx sem} {s:TS sem} {env:Env} {h h':AH} {n n' N N':Nat}
def tied:TV sem->Bool
 | .mw _ | .ptr _ _ | .mp _ | .fw _ | .kp _=>true
 | _=>false
theorem TVR.tied {v:TV sem} {a:AV} (e:tied v=true) (h:TVR P κ ln z N v a):TVR P κ ln z' N v a:=by
 cases v <;> simp only [Abs.tied,jai] at e
 ·cases h with | ptr _ _ q b h2=>exact .ptr _ _ q b h2
 ·cases h with
  | mw0 _ b h2=>exact .mw0 _ b h2
  | mw _ q b h2=>exact .mw _ q b h2
 ·cases h with | mp _ q b h2=>exact .mp _ q b h2
 ·cases h with
  | fw0 _ b h2=>exact .fw0 _ b h2
  | fw _ q b h2=>exact .fw _ q b h2
 ·cases h with | kp _ b=>exact .kp _ b
theorem Rel.thaw (R:Rel P κ ln z c s env h n) (u:∀ x,tied (tlk c s x)=true\/tlk c s x = .un) {O:Nat->Prop} {μ:Mu} {w:World} (hr:HR w O μ h n) :
  ∃ m h2,Rel P κ ln ahN c { s with dy:=false } env h2 n/\HR w O m h2 n/\Evo w μ n w m n:=by
 obtain ⟨p,h2,hz,b,e,a⟩:=R.conv hr;refine ⟨muP p μ,h2,⟨λx=>?_,b,R.lt,R.inj,λq B f=>(by cases f),λ_ _ _ _ _=>rfl,R.bnd,e,R.e0,R.g,λ_=>rfl,λq k T es f=>(by cases f),R.famD⟩,a,kpa hr p⟩;have t:=R.env x;show TVR P κ ln ahN s.n (tlk c s x) (lk env x);rcases u x with i | i
 ·exact t.tied i
 ·rw [i]; exact .un _
theorem HC.fin {f:FuncId} {args:Ya AV} {K:K3} (p:HC P f args h n (λv h' n'=>(∃ h2:AH,(∀ q B,h2 q=some B->h' q=some B)/\K v h2 n')\/
  (v = .tp []/\∃ κ ln z c s env,Rel P κ ln z c s env h' n'/\(∀ x,tied (tlk c s x)=true\/tlk c s x = .un)/\∀ h2:AH,Rel P κ ln ahN c { s with dy:=false } env h2 n'->∃ b:AH,(∀ q B,b q=some B->h2 q=some B)/\K v b n'))):HC P f args h n K:=by
 refine ⟨p.1,λO μ w vs hr hs F=>(p.2 O μ w vs hr hs F).mono ?_⟩;rintro e w' ⟨u,v,h',n',H,rfl,k,a,t,y⟩;rcases k with ⟨h2,m,i⟩ | ⟨rfl,κ,ln,z,c,s,env,R,L,M⟩
 ·exact ⟨u,v,h2,n',H,rfl,i,⟨a.olt,a.scope,a.inj,a.notO,λid B hB=>a.blk id B (m id B hB)⟩,t,y⟩
 ·obtain ⟨A,h2,I,r2,E⟩:=R.thaw L a;obtain ⟨b,m,i⟩:=M h2 I;exact ⟨u,_,b,n',A,rfl,i,⟨r2.olt,r2.scope,r2.inj,r2.notO,λid B hB=>r2.blk id B (m id B hB)⟩,t.flat (.tp [] λj c C=>by simp at C) _ _ _ _,y.trans E⟩
end
section
variable {P:Yd} {κ κ':Nat->Yb Nat} {ln ln':Nat->Nat} {z z':AH} {c:Cx sem} {s:TS sem} {env:Env} {h:AH} {n N N':Nat}
def tiedD:TV sem->Bool
 | .mw _ | .ptr _ _ | .mp _ | .fw _=>true
 | _=>false
theorem TVR.det {v:TV sem} {a a':AV} (k:tiedD v=true) (h:TVR P κ ln z N v a) (h':TVR P κ' ln' z' N' v a') (f:∀ id,v.has id=true->κ' id = κ id/\ln' id=ln id):a'=a:=by
 cases v <;> simp only [tiedD,jai] at k
 ·rename_i id j;obtain ⟨b,e⟩:=f id (by simp [TV.has]);obtain ⟨q,k1,rfl⟩:=h.ptr_inv;obtain ⟨i,k2,rfl⟩:=h'.ptr_inv;rw [b,k1] at k2; cases k2; rfl
 ·rename_i id;obtain ⟨b,e⟩:=f id (by simp [TV.has]);cases h with
  | mw0 _ _ k1=>cases h' with
   | mw0=>rfl
   | mw _ q _ k2=>rw [b,k1] at k2; cases k2
  | mw _ q _ k1=>cases h' with
   | mw0 _ _ k2=>rw [b,k1] at k2; cases k2
   | mw _ i _ k2=>rw [b,k1] at k2; cases k2; rw [e]
 ·rename_i id;obtain ⟨b,e⟩:=f id (by simp [TV.has]);obtain ⟨q,k1,rfl⟩:=h.mp_inv;obtain ⟨i,k2,rfl⟩:=h'.mp_inv;rw [b,k1] at k2; cases k2; rfl
 ·rename_i id;obtain ⟨b,e⟩:=f id (by simp [TV.has]);cases h with
  | fw0 _ _ k1=>cases h' with
   | fw0=>rfl
   | fw _ q _ k2=>rw [b,k1] at k2; cases k2
  | fw _ q _ k1=>cases h' with
   | fw0 _ _ k2=>rw [b,k1] at k2; cases k2
   | fw _ i _ k2=>rw [b,k1] at k2; cases k2; rw [e]
theorem knW:∀ (ks:Ya (Yb Ty)) {l:Ya ((t:Ty)×t.den)} {as:Ya AV} (k:Nat),PArgs P ks l as->∀ x v,alk (kbK (A:=sem) ks l k) x=some v->k<=x/\TVR P κ ln z N v (lk ((as.zipIdx k).map λ(v,i)=>(i,v)) x)
 | [],l,as,k,h,x,v,hv=>by simp [kbK,alk] at hv
 | some t::ks,[],as,k,h,x,v,hv=>by simp [kbK,alk] at hv
 | some t::ks,p::l,[],k,h,x,v,hv=>by simp [PArgs] at h
 | none::ks,l,[],k,h,x,v,hv=>by cases l <;> simp [PArgs] at h
 | some t::ks,p::l,a::as,k,h,x,v,hv=>by
  obtain ⟨m,h2⟩:=h;simp only [kbK,alk] at hv;simp only [jbj,jap,lk];by_cases e:x=k
  ·rw [if_pos e] at hv; cases hv;rw [if_pos e];refine ⟨by omega,?_⟩;obtain ⟨t,y⟩:=p;cases t <;> first | exact .cv _ _ _ _ _ m | (obtain ⟨f,rfl⟩:=m; exact .c _ _ _ f (.free _ (khL _ _ f)))
  ·rw [if_neg e] at hv;rw [if_neg e];obtain ⟨g1,b⟩:=knW ks (k+1) h2 x v hv;exact ⟨by omega,b⟩
 | none::ks,l,a::as,k,h,x,v,hv=>by
  have h2:PArgs P ks l as:=by cases l <;> exact h
  simp only [kbK] at hv;simp only [jbj,jap,lk];obtain ⟨g1,b⟩:=knW ks (k+1) h2 x v hv;rw [if_neg (by omega)];exact ⟨by omega,b⟩
theorem koF:∀ (ks:Ya (Yb Ty)) (k x:Nat),x∈kgb ks k->x<k+ks.length
 | [],k,x,h=>by cases h
 | some t::ks,k,x,h=>by
  simp only [kgb,jbq] at h;simp only [jcv];rcases h with rfl | h
  ·omega
  ·have:=koF ks (k+1) x h; omega
 | none::ks,k,x,h=>by
  simp only [kgb] at h;simp only [jcv];have:=koF ks (k+1) x h; omega
theorem kwZ:∀ (as:Ya AV) (k x:Nat),k+as.length<=x->lk ((as.zipIdx k).map λ(v,i)=>(i,v)) x = .un
 | [],k,x,h=>rfl
 | a::as,k,x,h=>by
  simp only [jcv] at h;simp only [jbj,jap,lk];rw [if_neg (by omega),kwZ as (k+1) x (by omega)]
theorem kyh {as:Ya AV} {x:Nat} (h:as.length<=x):lk (kar as) x = .un:=kwZ as 0 x (by omega)
theorem kjj:∀ (ks:Ya (Yb Ty)) {l:Ya ((t:Ty)×t.den)} (k:Nat),l.length=(ks.filterMap id).length->(kbK (A:=sem) ks l k).map (·.1)=kgb ks k
 | [],l,k,h=>by simp [kbK,kgb]
 | some t::ks,[],k,h=>by simp at h
 | some t::ks,p::l,k,h=>by simp only [kbK,kgb,jap]; rw [kjj ks (k+1) (by simpa using h)]
 | none::ks,l,k,h=>by simp only [kbK,kgb]; exact kjj ks (k+1) (by simpa using h)
theorem koO:∀ {ks:Ya (Yb Ty)} {l:Ya ((t:Ty)×t.den)} {as:Ya AV},PArgs P ks l as->as.length=ks.length
 | [],[],[],h=>rfl
 | [],_::_,_,h=>by simp [PArgs] at h
 | [],[],_::_,h=>by simp [PArgs] at h
 | some t::ks,[],as,h=>by simp [PArgs] at h
 | some t::ks,p::l,[],h=>by simp [PArgs] at h
 | none::ks,l,[],h=>by cases l <;> simp [PArgs] at h
 | some t::ks,p::l,a::as,h=>by simp [koO h.2]
 | none::ks,l,a::as,h=>by
  have h2:PArgs P ks l as:=by cases l <;> exact h
  simp [koO h2]
theorem kwU:∀ (l:Ya (Nat×PV)) (xs:Ya ((t:Ty)×t.den)),(unE (A:=sem) l xs).1.map (·.1)=l.map (·.1)
 | [],xs=>rfl
 | (k,v)::l,xs=>by simp only [unE,jap]; rw [kwU l]
theorem kjt {α:Type}:∀ {l:Ya (Nat×α)} {x:Nat} {v:α},(l.map (·.1)).Nodup->(x,v)∈l->alk l x=some v
 | [],x,v,_,h=>by cases h
 | (k,w)::l,x,v,hn,h=>by
  simp only [jap,jde] at hn;simp only [alk];rcases jbq.1 h with h | h
  ·cases h; simp
  ·rw [if_neg]
   ·exact kjt hn.2 h
   ·exact λe=>hn.1 (jbb.2 ⟨(x,v),h,e⟩)
theorem klI (R:Rel P κ ln z c s env h n):∀ (l:Ya ResultVar) {vs:Ya (TV sem)},resTV (A:=sem) P c s l=some vs->∃ as,l.mapM (kcE P h env)=some as/\TVRs P κ ln z s.n vs as
 | [],vs,hr=>by simp only [resTV,Option.some.injEq] at hr; subst hr; exact ⟨[],rfl,.nil⟩
 | .tmp t::l,vs,hr=>by
  simp only [resTV,jad] at hr;obtain ⟨vs,b,rfl⟩:=hr;obtain ⟨as,f,h2⟩:=klI R l b;refine ⟨lk env t::as,?_,.cons _ _ _ _ (R.env t) h2⟩;rw [jdu,f]; rfl
 | .cell a T::l,vs,hr=>by
  simp only [resTV,jaa,jad] at hr;obtain ⟨v,i,vs,b,rfl⟩:=hr;obtain ⟨as,f,h2⟩:=klI R l b;obtain ⟨u,k,e⟩:=kpF R i;refine ⟨u::as,?_,.cons _ _ _ _ e h2⟩;rw [jdu,f,k]; rfl
theorem kvK {l:Ya ResultVar} {as:Ya AV} (b:l.mapM (kcE P h env)=some as):kbm P h env l=some (tpA as):=by
 unfold kbm tpA;rw [b];match as with
 | []=>rfl
 | [a]=>rfl
 | _::_::_=>rfl
theorem kuc:∀ (vs:Ya (TV sem)) (k x:Nat) (E:Ya (Nat×TV sem)),alk ((vs.zipIdx k).map (λx=>(1000000+x.2,x.1))++E) x=if 1000000+k<=x/\x<1000000+k+vs.length then vs[x-1000000-k]? else alk E x
 | [],k,x,E=>by
  simp only [List.zipIdx_nil,jeh,jbc,List.length_nil];rw [if_neg (by omega)]
 | v::vs,k,x,E=>by
  simp only [jbj,jap,jdp,alk,jcv];by_cases e:x=1000000+k
  ·rw [if_pos e,if_pos (by omega),show x-1000000-k=0 by omega]; rfl
  ·rw [if_neg e,kuc vs (k+1) x E];by_cases a:1000000+k<=x/\x<1000000+k+(vs.length+1)
   ·rw [if_pos (by omega),if_pos a,show x-1000000-k=(x-1000000-(k+1))+1 by omega,jby]
   ·rw [if_neg (by omega),if_neg a]
theorem kpb:∀ (as:Ya AV) (k x:Nat) (E:Env),lk ((as.zipIdx k).map (λx=>(1000000+x.2,x.1))++E) x=if 1000000+k<=x/\x<1000000+k+as.length then (as[x-1000000-k]?).getD .un else lk E x
 | [],k,x,E=>by
  simp only [List.zipIdx_nil,jeh,jbc,List.length_nil];rw [if_neg (by omega)]
 | v::vs,k,x,E=>by
  simp only [jbj,jap,jdp,lk,jcv];by_cases e:x=1000000+k
  ·rw [if_pos e,if_pos (by omega),show x-1000000-k=0 by omega]; rfl
  ·rw [if_neg e,kpb vs (k+1) x E];by_cases a:1000000+k<=x/\x<1000000+k+(vs.length+1)
   ·rw [if_pos (by omega),if_pos a,show x-1000000-k=(x-1000000-(k+1))+1 by omega,jby]
   ·rw [if_neg (by omega),if_neg a]
theorem kpI {α:Type}:∀ (l:Ya (Nat×α)) (x:Nat),alk (l.map λy=>(y.1,some y.2)) x=(alk l x).map some
 | [],x=>rfl
 | (k,v)::l,x=>by
  simp only [jap,alk];split
  ·rfl
  ·exact kpI l x
theorem kAE (R:Rel P κ ln ahN c s env h n) {vs:Ya (TV sem)} {as:Ya AV} (e:TVRs P κ ln ahN s.n vs as):Rel P κ ln ahN ⟨[],[]⟩ (endM c s vs) (resE as++env) h n:=by
 have p:∀ id,thp (⟨[],[]⟩:Cx sem) (endM c s vs) id=thp c s id:=λid=>by
  unfold thp endM;simp only [kbF,kpI];cases f:alk s.hp id with
  | some b=>rfl
  | none=>cases h2:alk c.g id <;> simp [alk]
 refine ⟨λx=>?_,λid B hB=>R.blk id B (p id ▸ hB),λid B hB=>R.lt id B (p id ▸ hB),λi j B A q hi y=>R.inj i j B A q (p i ▸ hi) (p j ▸ y),R.zin,λid B q hB=>R.zout id B q (p id ▸ hB),λid B q hB=>R.bnd id B q (p id ▸ hB),R.hn,λx v u=>rfl,λid b K=>rfl,λ_=>rfl,λq k T es E=>(by cases E),R.fam.map (λid B hB=>.inl ⟨B,p id ▸ hB,λh=>h,rfl,rfl⟩) (λid _ B r _ f h2 C=>((R.fam id B f h2).2 r C).2.1) (jag _)⟩;have I:tlk (⟨[],[]⟩:Cx sem) (endM c s vs) x=if 1000000+0<=x/\x<1000000+0+vs.length then (vs[x-1000000-0]?).getD .un else tlk c s x:=by
  have e0:alk (endM c s vs).env x=if 1000000+0<=x/\x<1000000+0+vs.length then vs[x-1000000-0]? else alk (s.env++c.e0) x:=kuc vs 0 x _;unfold tlk;rw [e0];split
  ·rename_i v e;split at e
   ·rename_i m; rw [if_pos m,e]; rfl
   ·rename_i m;rw [if_neg m];rw [kbF] at e;cases f:alk s.env x with
    | some w=>rw [f] at e; cases e; rfl
    | none=>rw [f] at e; simp only at e; simp [e]
  ·rename_i e;split at e
   ·rename_i m; rw [if_pos m,e]; rfl
   ·rename_i m;rw [if_neg m];rw [kbF] at e;cases f:alk s.env x with
    | some w=>rw [f] at e; cases e
    | none=>rw [f] at e; simp only at e; simp [e,alk]
 show TVR P κ ln ahN (endM c s vs).n _ (lk ((as.zipIdx 0).map (λx=>(1000000+x.2,x.1))++env) x);rw [I,kpb,e.len];split
 ·rename_i u;cases H:vs[x-1000000-0]? with
  | none=>exact .un _
  | some v=>
   obtain ⟨a,F,t⟩:=e.at H;rw [F]; exact t
 ·exact R.env x
theorem kvm {ρ:Ty} {r:ρ.den} {p:Prop} (a:askR (A:=sem) (ρ:=ρ) c s=some r):p:=kaa a
theorem kan {g:FuncId} {C:CtrM} {f:Func} (hf:P.funcs[g]?=some f) (hd:(C.okS&&C.ks.length<=f.ntmps&&!(f.name== "runtime.NumGoroutine"))=true) {An:Ya (Nat×La)} (Δ:Ya (FuncId×Ctr)) (hΔ:Goods P Δ)
  (he:∀ x,C.F x=kyS P Δ (anL An) f C (A:=sem) x) (hM0:(alk Δ IM).isNone=true:=by rfl):C.ok=true/\GoodM P g C:=by
 simp only [jac,jbd,jaj] at hd;obtain ⟨⟨U,h2⟩,h3⟩:=hd;unfold CtrM.okS at U;simp only [jac,jaj] at U;obtain ⟨⟨⟨⟨aV,aG⟩,T⟩,au⟩,an⟩:=U;refine ⟨T,λx y hy l1 l2 hl aj κ ln h n args aA R=>?_⟩;rw [he,kyS] at hy;dsimp only at hy;rw [hl,List.take_left' aj,List.drop_left' aj] at hy;have aS:=koO aA;split at hy
 ·exact kaa hy
 ·rename_i body hb;have ar:(kbK (A:=sem) C.ks l1 0++(kal (A:=sem) C.inp C.n0 l2).env).map (·.1)=kgb C.ks 0++C.inp.env.map (·.1):=by
   rw [jcm,kjj C.ks 0 aj];congr 1;exact kwU _ _
  have I:((kbK (A:=sem) C.ks l1 0++(kal (A:=sem) C.inp C.n0 l2).env).map (·.1)).Nodup:=by rw [ar]; exact aV
  have aE:(((kal (A:=sem) C.inp C.n0 l2).env).map (·.1)).Nodup:=by
   rw [jcm] at I;exact (jea.1 I).2.1
  have az:∀ x v,alk (kal (A:=sem) C.inp C.n0 l2).env x=some v->alk (kbK (A:=sem) C.ks l1 0) x=none:=λx v E=>by
   cases hp:alk (kbK (A:=sem) C.ks l1 0) x with
   | none=>rfl
   | some w=>
    have U:=kjt I (jaw.2 (.inl (kaD hp)));have h2:=kjt I (jaw.2 (.inr (kaD E)));rw [jcm,jea] at I;exact absurd rfl (I.2.2 x (jbb.2 ⟨_,kaD hp,rfl⟩) x (jbb.2 ⟨_,kaD E,rfl⟩))
  let ef:Ya (Nat×TV sem):=(kal (A:=sem) C.inp C.n0 l2).env.filter (λx=>(alk C.out.env x.1).isSome)
  let eg:Ya (Nat×TV sem):=C.inn.map (λp=>(7000000+p,.kp p))
  let e0:Ya (Nat×TV sem):=ef++eg
  let e1:Ya (Nat×TV sem):=kbK (A:=sem) C.ks l1 0++(kal (A:=sem) C.inp C.n0 l2).env.filter (λx=>!(alk C.out.env x.1).isSome)
  have ab:∀ x,alk ef x=if (alk C.out.env x).isSome then alk (kal (A:=sem) C.inp C.n0 l2).env x else none:=λx=>kdY (λk=>(alk C.out.env k).isSome) _ x;have aC:∀ x,alk ((kal (A:=sem) C.inp C.n0 l2).env.filter (λx=>!(alk C.out.env x.1).isSome)) x=if !(alk C.out.env x).isSome then alk (kal (A:=sem) C.inp C.n0 l2).env x else none:=λx=>kdY (λk=>!(alk C.out.env k).isSome) _ x;have aa:∀ x,alk e0 x=match alk ef x with | some v=>some v | none=>alk eg x:=λx=>by
   show alk (ef++eg) x=_;rw [kbF];cases alk ef x <;> rfl
  have be:C.ks.length<=1000000:=by
   unfold CtrM.ok at T;simp only [jac,jaj] at T;exact T.1.2
  have ak:∀ x v,alk (kal (A:=sem) C.inp C.n0 l2).env x=some v->x<C.ks.length:=λx v E=>by
   have e:(alk (unE (A:=sem) C.inp.env l2).1 x).isSome=(alk C.inp.env x).isSome:=kkQ _ _ _;have e2:alk (unE (A:=sem) C.inp.env l2).1 x=some v:=E;rw [e2] at e;obtain ⟨aO,af⟩:=jao.1 e.symm;exact of_decide_eq_true (jam.1 aG _ (kaD af))
  have ay:∀ x v,alk eg x=some v->∃ p∈C.inn,x=7000000+p/\v = .kp p:=λx v E=>by
   obtain ⟨p,hp,e⟩:=jbb.1 (kaD E);cases e; exact ⟨p,hp,rfl,rfl⟩
  have aB:∀ p∈C.inn,alk eg (7000000+p)=some (.kp p):=λp hp=>by
   refine kjt ?_ (jbb.2 ⟨p,hp,rfl⟩);show ((C.inn.map (λp=>(7000000+p,(TV.kp p:TV sem)))).map (·.1)).Nodup;rw [List.map_map,List.nodup_iff_pairwise_ne,List.pairwise_map];exact (List.nodup_iff_pairwise_ne.1 au).imp λaZ e=>aZ (by simp only [Function.comp] at e; omega)
  have aq:∀ p∈C.inn,p<C.n0:=λp hp=>by
   unfold CtrM.inn at hp;obtain ⟨x,u,rfl⟩:=jbb.1 hp;unfold CtrM.ok at T;simp only [jac,jaj] at T;exact of_decide_eq_true (jam.1 T.2 _ (jeb.1 u).1)
  have ao:∀ x,1000000<=x->alk ef x=none:=λx u=>by
   rw [ab]; split
   ·cases hh:alk (kal (A:=sem) C.inp C.n0 l2).env x with
    | none=>rfl
    | some v=>have:=ak x v hh; omega
   ·rfl
  have W0:CxWf (⟨e0,[]⟩:Cx sem):=⟨λx v u=>by
   rw [aa];rcases jaw.1 u with u | u
   ·have e:alk ef x=some v:=by
     rw [ab];obtain ⟨U,h2⟩:=jeb.1 u;rw [if_pos h2];exact kjt aE U
    rw [e]
   ·obtain ⟨p,hp,e⟩:=jbb.1 u;cases e;rw [ao _ (by omega)];exact aB p hp,λx B u=>by cases u⟩
  have R0:Rel P κ ln ahN ⟨e0,[]⟩ ⟨e1,(kal (A:=sem) C.inp C.n0 l2).hp,C.n0,false⟩ (kar args) h n:=by
   refine ⟨λx=>?_,R.blk,R.lt,R.inj,R.zin,R.zout,R.bnd,R.hn,λx v u=>?_,λid b hb=>rfl,λ_=>rfl,R.zk,R.fam.map (λid B hB=>.inl ⟨B,hB,λh=>h,rfl,rfl⟩) (λid _ B r _ U h2 h3=>((R.fam id B U h2).2 r h3).2.1) (jag _)⟩
   ·have u:=R.env x;unfold tlk at u ⊢;simp only [alk] at u ⊢;rw [show (offD (kal (A:=sem) C.inp C.n0 l2)).env=(kal (A:=sem) C.inp C.n0 l2).env from rfl] at u;have aT:alk e1 x=_:=kbF (kbK (A:=sem) C.ks l1 0) _ x;rw [aT,aa,ab,aC];cases U:alk (kbK (A:=sem) C.ks l1 0) x with
    | some v=>exact (knW C.ks 0 aA x v U).2
    | none=>
     cases h2:alk (kal (A:=sem) C.inp C.n0 l2).env x with
     | some v=>
      rw [h2] at u;cases (alk C.out.env x).isSome with
      | true=>exact u
      | false=>exact u
     | none=>
      have:TVR P κ ln ahN C.n0 ((alk eg x).getD .un) (lk (kar args) x):=by
       cases hg:alk eg x with
       | none=>exact .un _
       | some w=>
        obtain ⟨p,hp,ex,rfl⟩:=ay x w hg;rw [kyh (by omega:args.length<=x)];exact .kp p (aq p hp)
      cases (alk C.out.env x).isSome with
      | true=>exact this
      | false=>exact this
   ·have u:alk (kbK (A:=sem) C.ks l1 0++(kal (A:=sem) C.inp C.n0 l2).env.filter (λx=>!(alk C.out.env x.1).isSome)) x=some v:=u;rw [kbF,aC] at u;show alk e0 x=none;have bb:x<C.ks.length:=by
     cases U:alk (kbK (A:=sem) C.ks l1 0) x with
     | some w=>
      have:x∈(kbK (A:=sem) C.ks l1 0).map (·.1):=jbb.2 ⟨_,kaD U,rfl⟩;rw [kjj C.ks 0 aj] at this;have:=koF C.ks 0 x this;omega
     | none=>
      rw [U] at u;simp only at u;split at u
      ·exact ak x v u
      ·cases u
    have aW:alk eg x=none:=by
     cases hg:alk eg x with
     | none=>rfl
     | some w=>obtain ⟨p,_,e,_⟩:=ay x w hg; omega
    rw [aa,aW,ab];cases S:(alk C.out.env x).isSome with
    | false=>simp
    | true=>
     rw [S] at u;simp only [jcg,jai,if_false] at u;simp only [if_true];cases h2:alk (kal (A:=sem) C.inp C.n0 l2).env x with
     | none=>rfl
     | some w=>rw [az x w h2] at u; cases u
  refine HC.fin (HC.of_body hf hb h3 (by rw [aS]; exact h2) λD O hD=>Sat.ofL ?_);have fin:∀ (rl:Ya ResultVar) (c:Cx sem) κ' ln' s i h' n' v,CxWf c->RJ ⟨e0,κ,ln⟩ P κ' ln' ahN c s i h' n'->resM (A:=sem) P C rl c s=some v->
    ∃ a,kbm P h' i rl=some a/\∃ h2:AH,(∀ q B,h2 q=some B->h' q=some B)/\kkP P C κ ln v args a h2 n':=by
   intro rl c κ' ln' s i h' n' v W H E;unfold resM at E;obtain ⟨vs,aK,E⟩:=jaa.1 E;split at E
   ·rename_i am;obtain ⟨m,hm,E⟩:=jaa.1 E;by_cases X:(m.sn.isEmpty&&C.inn.all (λp=>alk m.ids p==some p))=true
    ·replace E:mkT sem C.out.tys m.cs=some v:=(if_pos (c:=(m.sn.isEmpty&&C.inn.all (λp=>alk m.ids p==some p))=true) (t:=(mkT sem C.out.tys m.cs:Yb C.out.ty.den)) (e:=none) X).symm.trans E;rw [jac] at X;obtain ⟨ba,aF⟩:=X;obtain ⟨as,k1,k2⟩:=klI H.R rl aK;obtain ⟨κ2,aJ,R2,q1,q2,q3,q4⟩:=ksZ (kAE H.R k2) hm (by simpa [jcw] using ba) rfl;have aR:kal (A:=sem) C.out C.n1 m.cs=kae (A:=sem) C.out C.n1 v:=by
      unfold kae kal;rw [ksr _ _ _ E]
     rw [aR] at R2 q2 q4;have al:∀ id,id∈C.out.hp.map (·.1)↔(alk C.out.hp id).isSome=true:=λid=>by
      generalize C.out.hp=L;induction L with
      | nil=>simp [alk]
      | cons y L ih=>
       simp only [jap,jbq,alk];split
       ·rename_i e; simp [e]
       ·rename_i e; simp only [e,false_or]; exact ih
     have aN:∀ {id},id∈C.out.hp.map (·.1)->∃ B,alk (kae (A:=sem) C.out C.n1 v).hp id=some (some B):=λ{id} hi=>by
      rw [al,<-q4] at hi;obtain ⟨b,hb⟩:=jao.1 hi;obtain ⟨B,_,_,rfl,_⟩:=q2 id b hb;exact ⟨B,hb⟩
     have aL:∀ id B,thp (⟨[],[]⟩:Cx sem) (offD (kae (A:=sem) C.out C.n1 v)) id=some B->id∈C.out.hp.map (·.1):=λid B hB=>by
      rw [al,<-q4];unfold thp at hB;rw [show (offD (kae (A:=sem) C.out C.n1 v)).hp=(kae (A:=sem) C.out C.n1 v).hp from rfl] at hB;cases hh:alk (kae (A:=sem) C.out C.n1 v).hp id with
      | some b=>rfl
      | none=>rw [hh] at hB; cases hB
     have Z:=R2.cut (h2:=hz (ows κ2 aJ ⟨[],[]⟩ (offD (kae (A:=sem) C.out C.n1 v))) h' ahN (C.out.hp.map (·.1))) (λid B q hB M=>hz_in (aL id B hB) (koL hB M)) (λq hq=>by
      unfold hz; split
      ·exact H.R.hn q hq
      ·rfl)
     refine ⟨_,kvK k1,_,keQ (λq B hq=>by cases hq),κ2,aJ,as,by rw [k2.len,am],rfl,⟨λx=>?_,Z.blk,Z.lt,Z.inj,Z.zin,Z.zout,Z.bnd,Z.hn,Z.e0,Z.g,Z.dy,Z.zk,Z.fam⟩,λq B hq=>?_,λp hp=>?_⟩
     ·have u:=Z.env x;cases ax:alk (kae (A:=sem) C.out C.n1 v).env x with
      | none=>
       have:tlk (⟨[],[]⟩:Cx sem) (offD (kae (A:=sem) C.out C.n1 v)) x = .un:=by
        unfold tlk;rw [show (offD (kae (A:=sem) C.out C.n1 v)).env=(kae (A:=sem) C.out C.n1 v).env from rfl,ax]; rfl
       rw [this]; exact .un _
      | some w=>
       obtain ⟨pv,ap⟩:=ksp ax;have ho:=jam.1 an _ ap;have aX:lk (resE as++i) x=if 1000000+0<=x/\x<1000000+0+as.length then (as[x-1000000-0]?).getD .un else lk i x:=kpb as 0 x i;have aU:lk (resE as++kar args) x=if 1000000+0<=x/\x<1000000+0+as.length then (as[x-1000000-0]?).getD .un else lk (kar args) x:=kpb as 0 x (kar args);have aQ:lk (resE as++kar args) x=lk (resE as++i) x:=by
        rw [aX,aU];split
        ·rfl
        ·rename_i aP;simp only [jat,jac,jaj] at ho;rcases ho with ho | ⟨ac,ae⟩
         ·exfalso; apply aP; rw [k2.len,am]; omega
         ·
          have slot:∀ K Y,alk C.inp.env x=some K->(∀ xs:Ya ((t:Ty)×sem.D t),(unV (A:=sem) K xs).1=Y)->tiedD Y=true->lk (kar args) x=lk i x:=λK Y hi hu ht=>by
           have ai:alk (kal (A:=sem) C.inp C.n0 l2).env x=some Y:=knQ C.inp.env l2 x K Y hi hu;have hj:alk e0 x=some Y:=by
            have ac:(alk C.out.env x).isSome=true:=by
             have e:=kkQ C.out.env (unT sem C.out.tys v) x;have e2:alk (unE (A:=sem) C.out.env (unT sem C.out.tys v)).1 x=some w:=ax;rw [<-e,e2]; rfl
            rw [aa,ab,if_pos ac,ai]
           have t1:=R0.env x;have t2:=H.R.env x;rw [R0.e0_tlk hj] at t1;rw [H.R.e0_tlk (H.w x Y hj)] at t2;exact (t1.det ht t2 λid aw=>H.j x Y id hj aw).symm
          split at ae
          ·rename_i p hi; exact slot _ (.mw p) hi (λxs=>rfl) rfl
          ·rename_i p j hi; exact slot _ (.ptr p j) hi (λxs=>rfl) rfl
          ·rename_i p hi; exact slot _ (.mp p) hi (λxs=>rfl) rfl
          ·cases ae
       rw [aQ]; exact u
     ·unfold hz at hq;split at hq
      ·rename_i aH;obtain ⟨id,aw,M⟩:=jbt.1 aH;obtain ⟨b,hb⟩:=aN aw;exact ⟨id,b,hb,kdC (c:=⟨[],[]⟩) (s:=offD (kae (A:=sem) C.out C.n1 v)) (by unfold thp; rw [show (offD (kae (A:=sem) C.out C.n1 v)).hp=(kae (A:=sem) C.out C.n1 v).hp from rfl,hb]) (by simpa using M)⟩
      ·cases hq
     ·have e1:alk m.ids p=some p:=by simpa using jam.1 aF p hp
      have e2:alk e0 (7000000+p)=some (.kp p):=by rw [aa,ao _ (by omega)]; exact aB p hp
      exact ⟨((q1 p p e1).1).trans (H.j _ _ p e2 (by simp [TV.has])).1,((q1 p p e1).2.1).trans (H.j _ _ p e2 (by simp [TV.has])).2⟩
    ·replace E:=(if_neg (c:=(m.sn.isEmpty&&C.inn.all (λp=>alk m.ids p==some p))=true) (t:=(mkT sem C.out.tys m.cs:Yb C.out.ty.den)) (e:=none) X).symm.trans E; cases E
   ·cases E
  let K0:K3:=λv h' n'=>(∃ h2:AH,(∀ q B,h2 q=some B->h' q=some B)/\kkP P C κ ln y args v h2 n')\/
   (v = .tp []/\∃ κb aD z c s env,Rel P κb aD z c s env h' n'/\(∀ x,tied (tlk c s x)=true\/tlk c s x = .un)/\∀ h2:AH,Rel P κb aD ahN c { s with dy:=false } env h2 n'->∃ h3:AH,(∀ q B,h3 q=some B->h2 q=some B)/\kkP P C κ ln y args v h3 n')
  refine kki (D:=D) (O:=O) hΔ 1000000 (J:=⟨e0,κ,ln⟩) (RetQ:=λv st=>∃ a,kbm P st.h st.env f.results.toList=some a/\∃ h2:AH,(∀ q B,h2 q=some B->st.h q=some B)/\kkP P C κ ln v args a h2 st.n) (λc κ' ln' s i h' n' v W H E=>fin _ c κ' ln' s i h' n' v W H E) (hY:=⟨λ_=>hD,λhh=>absurd hh (by cases u:alk Δ IM with | none=>decide | some C=>rw [u] at hM0; cases hM0)⟩) _ [body] _ _ _ y κ ln ahN (kar args) h n W0 ⟨R0,λx v id _ _=>⟨rfl,rfl⟩,λx v E=>E⟩ ?_ hy;refine ⟨λκ' ln' z' s i h' n' H M=>?_,λid κ ln z s env h n R M=>kaa M,λv st E M=>?_,λhi=>by rw [hD] at hi; cases hi⟩
  ·dsimp only at M;split at M
   ·rename_i aI;have aM:f.results.toList=[]:=by simpa [jcw] using aI
    split at M
    ·rename_i v E;cases M;show ∃ v,kbm P h' i f.results.toList=some v/\K0 v h' n';rw [aM];refine ⟨.tp [],rfl,.inr ⟨rfl,κ',ln',z',⟨e0,[]⟩,⟨[],s.hp,s.n,s.dy⟩,i,⟨λx=>?_,H.R.blk,H.R.lt,H.R.inj,H.R.zin,H.R.zout,H.R.bnd,H.R.hn,λx v h=>(by cases h),H.R.g,H.R.dy,H.R.zk,H.R.fam.map (λid B hB=>.inl ⟨B,hB,λh=>h,rfl,rfl⟩) (λid _ B r _ U h2 h3=>((H.R.fam id B U h2).2 r h3).2.1) (jag _)⟩,λx=>?_,λh2 R2=>?_⟩⟩
     ·have u:=H.R.env x;cases S:alk e0 x with
      | none=>simp only [tlk,alk,S]; exact .un _
      | some w=>
       rw [H.R.e0_tlk S] at u;simp only [tlk,alk,S]; exact u
     ·cases S:alk e0 x with
      | none=>right; simp only [tlk,alk,S]; rfl
      | some w=>
       left;simp only [tlk,alk,S,jcb];rw [aa] at S;split at S
       ·rename_i w' ad;cases S;rw [ab] at ad;have ac:(alk C.out.env x).isSome=true:=by
         cases hh:(alk C.out.env x).isSome with
         | true=>rfl
         | false=>rw [hh] at ad; simp at ad
        rw [if_pos ac] at ad;have S:=ad;obtain ⟨pv,ap⟩:=jao.1 ac;have ho:=jam.1 an _ (kaD ap);have bc:x<C.ks.length:=by
         have e:(alk (unE (A:=sem) C.inp.env l2).1 x).isSome=(alk C.inp.env x).isSome:=kkQ _ _ _;have e2:alk (unE (A:=sem) C.inp.env l2).1 x=some w:=S;rw [e2] at e;obtain ⟨aO,af⟩:=jao.1 e.symm;exact of_decide_eq_true (jam.1 aG _ (kaD af))
        simp only [jat,jac,jaj] at ho;rcases ho with ho | ⟨ac,ae⟩
        ·omega
        ·have ah:∀ K Y,alk C.inp.env x=some K->(∀ xs:Ya ((t:Ty)×sem.D t),(unV (A:=sem) K xs).1=Y)->w=Y:=λK Y hi hu=>by
          have ai:alk (kal (A:=sem) C.inp C.n0 l2).env x=some Y:=knQ C.inp.env l2 x K Y hi hu;rw [S] at ai; exact Option.some.inj ai
         split at ae
         ·rename_i p hi; rw [ah _ (.mw p) hi (λxs=>rfl)]; rfl
         ·rename_i p j hi; rw [ah _ (.ptr p j) hi (λxs=>rfl)]; rfl
         ·rename_i p hi; rw [ah _ (.mp p) hi (λxs=>rfl)]; rfl
         ·cases ae
       ·obtain ⟨p,_,_,rfl⟩:=ay x _ S; rfl
     ·obtain ⟨a,q1,q2⟩:=fin [] _ _ _ _ _ _ _ _ W0 ⟨R2,H.j,H.w⟩ E;cases q1;exact q2
    ·exact kvm M
   ·split at M
    ·exact kaa M
    ·rename_i aY;split at M
     ·rename_i v E;cases M;obtain rfl:=H.R.dy (by simpa using aY);obtain ⟨a,q1,q2⟩:=fin _ _ _ _ _ _ _ _ _ W0 H E;exact ⟨a,q1,.inl q2⟩
     ·exact kvm M
  ·cases M;obtain ⟨a,q1,q2⟩:=E;exact ⟨a,q1,.inl q2⟩
end
section
variable {P:Yd} {g:FuncId}
theorem Good.more {C:Ctr} {M:CtrM} (h:Good P g C) (a:M.ok=true/\GoodM P g M):Good P g ⟨C.nm,C.as,C.rs,C.F,M::C.mus,C.its⟩:=by
 refine ⟨h.1,h.2.1,λb hM=>?_,h.2.2.2⟩;rcases jbq.1 hM with rfl | hM
 ·exact a
 ·exact h.2.2.1 b hM
theorem good_dm {nm:String}:Good P g ⟨nm,[],[],λ_=>none,[],[]⟩:=⟨rfl,λx r h=>(by cases h),λM h=>(by cases h),λM h=>(by cases h)⟩
theorem kjY {C:CtrM} (b:C.ok=true) (h:∀ x,C.F x=none):C.ok=true/\GoodM P g C:=
 ⟨b,λx y a=>by rw [h x] at a; cases a⟩
end
section
variable {P:Yd} {g:FuncId}
theorem kpx {α β:Type} (f:α->β):∀ (l:Ya α) (k:Nat),((l.zipIdx k).map λy=>(y.2+1,f y.1))=(l.zipIdx (k+1)).map λy=>(y.2,f y.1)
 | [],k=>rfl
 | x::l,k=>by simp only [jbj,jap,kpx f l (k+1)]
theorem kuh {β:Type}:∀ (l:Ya β) (k x:Nat),x<k->alk ((l.zipIdx k).map λy=>(y.2,y.1)) x=none
 | [],k,x,h=>rfl
 | b::l,k,x,h=>by
  simp only [jbj,jap,alk];rw [if_neg (by omega)]; exact kuh l (k+1) x (by omega)
theorem alk_zip_none' {α β:Type} (f:α->β):∀ (l:Ya α) (k x:Nat),x<k->alk ((l.zipIdx k).map λy=>(y.2,f y.1)) x=none
 | [],k,x,h=>rfl
 | b::l,k,x,h=>by
  simp only [jbj,jap,alk];rw [if_neg (by omega)]; exact alk_zip_none' f l (k+1) x (by omega)
theorem krw {κ:Nat->Yb Nat} {ln:Nat->Nat} {z:AH} {c:Cx sem} {s:TS sem} {env:Env} {h:AH} {n:Nat} (R:Rel P κ ln z c s env h n) {ts:Ya Ty} {c':Cx sem} {v:Ya (tup ts).den} (b:resI (A:=sem) ts c' s=some v) :
  (∃ es,lk env GS = .gs es/\es.length=v.length)\/lk env GS = .ud:=by
 unfold resI at b;have f:=R.env GS;split at b
 ·rename_i t ys i;rw [show tlk c s GS = .gs t ys by unfold tlk; rw [i]] at f;unfold tcast at b;split at b
  ·rename_i e;cases e;simp only [Option.some.injEq] at b;subst b;generalize lk env GS=a at f;cases f;exact .inl ⟨_,rfl,by simp⟩
  ·cases b
 ·rename_i i;rw [show tlk c s GS = .ud by unfold tlk; rw [i]] at f;generalize lk env GS=a at f;cases f;exact .inr rfl
 ·cases b
theorem kzR {nm:String} {as ts:Ya Ty} {F:(tup as).den->Yb (Ya (tup ts).den)} {f:Func} (hf:P.funcs[g]?=some f) (hd:(ts.all Ty.dat&&as.length+1<=f.ntmps&&f.ntmps<=GS&&f.results.isEmpty&&!(f.name== "runtime.NumGoroutine"))=true) {An:Ya (Nat×La)} (Δ:Ya (FuncId×Ctr)) (hΔ:Goods P Δ)
  (he:∀ x,F x=runI λo=>machI P Δ (anL An) f as ts o (A:=sem) x):GoodI P g ⟨nm,as,ts,F⟩:=by
 simp only [jac,jbd,jaj] at hd;obtain ⟨⟨⟨⟨m,h2⟩,h3⟩,h4⟩,h5⟩:=hd;refine ⟨m,λx xs p l hl=>?_⟩;dsimp only at p hl;rw [he] at p;unfold runI at p;obtain ⟨ad,_,p⟩:=jaa.1 p;obtain ⟨ys,K,p⟩:=jaa.1 p;split at p
 rotate_left
 ·cases p
 rename_i u;cases p;unfold machI at K;dsimp only at K;split at K
 ·exact kaa K
 ·rename_i body hb;have H:=kuP hl;have X:Goods P ((IM,oraC ts (some xs)) :: Δ):=.cons ⟨rfl,λx r h=>(by cases h),λM h=>(by cases h),λI h=>by
   simp only [oraC,jdj] at h;subst h;refine ⟨m,λx xs p l hl=>?_⟩;obtain ⟨a,_,ha⟩:=hl;exact absurd ha.1 (by decide)⟩ hΔ
  refine IT.of_body hf hb h5 (by rw [H.len,ksz]; exact h2) h3 (by simpa using h4) λD G O S U Y=>Sat.ofL ?_;have hY:YOk P D ((IM,oraC ts (some xs)) :: Δ) ⟨[(0,.yl 0)],λid=>if id=0 then some G.l else none,λ_=>0⟩:=by
   refine ⟨λh=>?_,λ_=>⟨G,S,Y,λac ab F' e=>?_,rfl,rfl⟩⟩
   ·simp [alk] at h
   ·simp only [alk,if_true,jab,oraC,List.head?_cons,Option.some.injEq,CtrI.mk.injEq] at e;obtain ⟨_,_,e1,e2⟩:=e;subst e1;cases e2;exact ⟨xs,rfl,U⟩
  refine kki (D:=D) (O:=O) X 1000000 (J:=⟨[(0,.yl 0)],λid=>if id=0 then some G.l else none,λ_=>0⟩) (r:=.sl (tup ts)) (ρ:=.sl (tup ts)) (res:=resI (A:=sem) ts) (RetQ:=λ(v:Ya (tup ts).den) st=>(∃ es,lk st.env GS = .gs es/\es.length=v.length)\/lk st.env GS = .ud) (λc κ ln s env h n v _ R E=>krw (c':=c) R.R E) hY ⟨[(0,.yl 0)],[]⟩ [body] _ _ _ ys (λid=>if id=0 then some G.l else none) (λ_=>0) (λ_=>none) _ ah0 0
   ⟨λx v h=>?_,λx B h=>(by cases h)⟩ ?_ ?_ K
  ·simp only [jdj,Prod.mk.injEq] at h;obtain ⟨rfl,rfl⟩:=h;rfl
  ·have hz:=kpx (λ(y:(t:Ty)×sem.D t)=>argT (A:=sem) y.1 y.2) (unT sem as x) 0;refine ⟨⟨λt=>?_,λid B h=>(by cases h),λid B h=>(by cases h),λi j B B' q h=>(by cases h),λq B h=>(by cases h),λid B q h=>(by cases h),λid B q h=>(by cases h),λq _=>rfl,λt v h=>?_,λid b h=>(by cases h),λ_=>rfl,λq k T es h=>(by cases h),λid B h=>(by cases h)⟩,λx v id _ _=>⟨rfl,rfl⟩,λx v E=>E⟩
   ·have aa:alk ((unT sem as x).zipIdx.map λy=>(y.2+1,argT (A:=sem) y.1.1 y.1.2))=alk (((unT sem as x).zipIdx 1).map λy=>(y.2,argT (A:=sem) y.1.1 y.1.2)):=congrArg alk hz;have ht:tlk (A:=sem) ⟨[(0,.yl 0)],[]⟩ ⟨(GS,.gs (tup ts) [])::(unT sem as x).zipIdx.map (λy=>(y.2+1,argT (A:=sem) y.1.1 y.1.2)),[],1,false⟩ t=if t=GS then .gs (tup ts) [] else if t=0 then .yl 0 else tlk (A:=sem) ⟨[],[]⟩ ⟨((unT sem as x).zipIdx 1).map λy=>(y.2,argT (A:=sem) y.1.1 y.1.2),[],1,false⟩ t:=by
     unfold tlk;simp only [alk,aa];by_cases m:t=GS
     ·rw [if_pos m,if_pos m]
     ·rw [if_neg m,if_neg m];by_cases h2:t=0
      ·subst h2; rw [alk_zip_none' (λ(y:(t:Ty)×sem.D t)=>argT (A:=sem) y.1 y.2) _ 1 0 (by omega)]; rfl
      ·rw [if_neg h2,if_neg h2]
    have Z:lk ((GS,.gs [])::kar (.sc (.func (.yield G.l) #[] #[])::l)) t=if t=GS then .gs [] else if t=0 then .sc (.func (.yield G.l) #[] #[]) else lk ((l.zipIdx 1).map λ(v,i)=>(i,v)) t:=by
     simp only [lk,kar,jbj,jap,jcf]
    show TVR P _ _ _ 1 (tlk (A:=sem) ⟨[(0,.yl 0)],[]⟩ ⟨(GS,.gs (tup ts) [])::(unT sem as x).zipIdx.map (λy=>(y.2+1,argT (A:=sem) y.1.1 y.1.2)),[],1,false⟩ t) _;rw [ht,Z];by_cases m:t=GS
    ·rw [if_pos m,if_pos m]; exact .gs (tup ts) []
    ·rw [if_neg m,if_neg m];by_cases h2:t=0
     ·rw [if_pos h2,if_pos h2]; exact .yl 0 G.l (by omega) rfl
     ·rw [if_neg h2,if_neg h2];exact kqp (n:=1) H 1 t
   ·show alk [((0:Nat),(TV.yl 0:TV sem))] t=none;simp only [alk];rw [if_neg];rintro rfl;have h':alk ((GS,.gs (tup ts) [])::(unT sem as x).zipIdx.map (λy=>(y.2+1,argT (A:=sem) y.1.1 y.1.2))) 0=some v:=h;simp only [alk] at h';rw [if_neg (by decide),show ((unT sem as x).zipIdx.map λy=>(y.2+1,argT (A:=sem) y.1.1 y.1.2))=((unT sem as x).zipIdx 1).map λy=>(y.2,argT (A:=sem) y.1.1 y.1.2) from hz,alk_zip_none' (λ(y:(t:Ty)×sem.D t)=>argT (A:=sem) y.1 y.2) _ 1 0 (by omega)] at h';cases h'
  ·refine ⟨λκ ln z s env h n R C=>?_,λid κ ln z s env h n R C=>kaa C,λv st E C=>?_,λ_ st h=>⟨.inr rfl,.inr h⟩⟩
   ·dsimp only at C;split at C
    ·rename_i v E;cases C;rcases krw R.R E with ⟨es,L,q2⟩ | q
     ·exact ⟨.inl rfl,.inl ⟨es,L,by simp [q2,u]⟩⟩
     ·exact ⟨.inl rfl,.inr q⟩
    ·exact kaa C
   ·cases C;rcases E with ⟨es,L,q2⟩ | q
    ·exact ⟨.inr rfl,.inl ⟨es,L,by simp [q2,u]⟩⟩
    ·exact ⟨.inr rfl,.inr q⟩
theorem Good.moreI {C:Ctr} {I:CtrI} (h:Good P g C) (hi:GoodI P g I):Good P g ⟨C.nm,C.as,C.rs,C.F,C.mus,I::C.its⟩:=by
 refine ⟨h.1,h.2.1,h.2.2.1,λa hI=>?_⟩;rcases jbq.1 hI with rfl | hI
 ·exact hi
 ·exact h.2.2.2 a hI
end
end Go.Abs
namespace Go.Abs
open Go
theorem kas {α:Type} {l:Ya α} {i:Nat} (h:i<l.length):gi l (i:Int)=some l[i]:=by rw [kkA,jae h]
theorem klu {i:Nat} (h:0<i) (a:(i:Int)<=9223372036854775807):w64 ((i:Int)-1)=((i-1:Nat):Int):=by rw [kbo (by omega) (by omega)]; omega
theorem kuS {α β:Type} {F:α->Yb (α⊕β)}:∀ {n:Nat} {x:α} {z:β} (m:Nat),itN F n x=some z->itN F (n+m) x=some z
 | 0,x,z,m,h=>by simp [itN] at h
 | n+1,x,z,m,h=>by
  rw [Nat.succ_add];simp only [itN] at h ⊢;split at h
  ·cases h
  ·rename_i y b; rw [b] at *; exact kuS m h
  ·rename_i w a; rw [a] at *; exact h
theorem kkq {α β:Type} {F:α->Yb (α⊕β)} {n:Nat} {x:α} {z:β} (h:itN F n x=some z) (hn:n<=18446744073709551616):iter F x=some z:=by
 unfold iter;have:=kuS (18446744073709551616-n) h
 rwa [show n+(18446744073709551616-n)=18446744073709551616 by omega] at this
theorem kgh {α β:Type} {F:α->Yb (α⊕β)} {n:Nat} {x:α} {z:β} (h:F x=some (.inr z)):itN F (n+1) x=some z:=by simp [itN,h]
theorem kmm {α β:Type} {F:α->Yb (α⊕β)} {n:Nat} {x y:α} (h:F x=some (.inl y)):itN F (n+1) x=itN F n y:=by simp [itN,h]
theorem kaf {α:Type} (l:Ya α):lenI l=(l.length:Int):=rfl
theorem kax {i:Nat} (h:i<9223372036854775807):w64 ((i:Int)+1)=((i+1:Nat):Int):=by rw [kbo (by omega) (by omega)]; rfl
def endL {β:Type}:Yb β->β⊕Unit
 | some b=>.inl b
 | none=>.inr ()
def nextL {β:Type} (i:Nat):Yb β->Int⊕(β⊕Unit)
 | some b=>.inr (.inl b)
 | none=>.inl ((i+1:Nat):Int)
theorem kej {α β:Type} {F:Int->Yb (Int⊕(β⊕Unit))} (l:Ya α) (hl:l.length<=9223372036854775807) (f:Nat->α->Yb β)
  (p:∀ i,(hi:i<l.length)->F (i:Int)=some (nextL i (f i l[i]))) (h2:F (l.length:Int)=some (.inr (.inr ()))) :
  iter F 0=some (endL (l.zipIdx.findSome? λx=>f x.2 x.1)):=by
 have:∀ k i:Nat,i+k=l.length->itN F (k+1) (i:Int)=some (endL (((l.drop i).zipIdx i).findSome? (λx=>f x.2 x.1))):=by
  intro k;induction k with
  | zero=>
   intro i h;have:i=l.length:=by omega
   subst this;rw [kgh h2,List.drop_length]; rfl
  | succ k m=>
   intro i h;have hi:i<l.length:=by omega
   rw [List.drop_eq_getElem_cons hi,jbj,jdk];have e:=p i hi;cases a:f i l[i] with
   | some b=>rw [a] at e; rw [kgh e]; rfl
   | none=>rw [a] at e; rw [kmm e,m (i+1) (by omega)]
 exact kkq (this l.length 0 (by omega)) (by omega)
theorem khK {α:Type} {F:Int->Yb (Int⊕(Bool⊕Unit))} (b:Bool) (l:Ya α) (hl:l.length<=9223372036854775807) (p:Nat->α->Bool)
  (a:∀ i,(hi:i<l.length)->F (i:Int)=some (if p i l[i]=true then .inr (.inl b) else .inl ((i+1:Nat):Int))) (h2:F (l.length:Int)=some (.inr (.inr ()))) :
  iter F 0=some (if (l.zipIdx.any λx=>p x.2 x.1)=true then .inl b else .inr ()):=by
 rw [kej l hl (λi x=>if p i x=true then some b else none) (λi hi=>by rw [a i hi]; cases p i l[i] <;> rfl) h2];generalize l.zipIdx=L;induction L with
 | nil=>rfl
 | cons x L e=>
  rw [jdk,jdq];cases hp:p x.2 x.1 with
  | true=>simp [endL]
  | false=>simp only [jai,if_false,jcn]; exact e
theorem khU {α:Type} {a b:Ya α} (h:a.length+b.length<=1048576):gapp a b=some (a++b):=by unfold gapp; rw [if_pos h]
def wi (lo hi n:Int):Bool:=decide (lo<=n)&&decide (n<=hi)
theorem wi_iff {lo hi n:Int}:wi lo hi n=true↔lo<=n/\n<=hi:=by unfold wi; simp
theorem ksg {α:Type} (q:α->Bool):∀ (l:Ya α) (k:Nat),((l.zipIdx k).any λx=>q x.1)=l.any q
 | [],k=>rfl
 | x::l,k=>by rw [jbj,jdq,jdq,ksg q l (k+1)]
theorem lenI_lt {α:Type} {l:Ya α} {i:Nat}:decide ((i:Int)<lenI l)=true↔i<l.length:=by rw [kaf,jaj]; omega
theorem kjy {α:Type} {l:Ya α}:¬ decide ((l.length:Int)<lenI l)=true:=by rw [lenI_lt]; omega
end Go.Abs
