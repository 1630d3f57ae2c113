/- The machinery, part 6. -/
import Derived.Test.YtpjlpghgmjlbbaaGreatZ2
import Derived.Test.YtpjlpghgmjlbbaaGreatZ3
import Derived.Test.YtpjlpghgmjlbbaaGreatZ4
import Derived.Test.YtpjlpghgmjlbbaaGreatZ5
set_option linter.constructorNameAsVariable false
set_option linter.unusedVariables false
set_option linter.unusedSimpArgs false
set_option linter.unusedSectionVars false
namespace Go.Abs
open Go Go.RowKit
section
variable {P:Program} {κ κ':Nat->Option Nat} {ln ln':Nat->Nat} {z z':AH} {c:Cx sem} {s:TS sem} {env:Env} {h h':AH} {n n' N N':Nat} {id:Nat}
variable {ρ:Ty} {Kf:TV sem->TS sem->sem.Ans ρ} {r:ρ.den}
variable {d:Option Tmp} {ty:TypeId} {pos:String} {after:Array Edge} {g:Option (Nat×Bool)}
theorem Rel.famAll (R:Rel P κ ln z c s env h n) {T U:TypeId} {t u:Ty} {j:Nat} {l:List t.den} (hB:thp c s id=some (.fm T t j U u l none)) :
  t.dat=true/\∃ es:List (List AV),es.length=l.length/\l.length=(kac (ln id)).length/\(∀ (i:Nat) (x:t.den) (e:List AV) (rm:Option Nat×Nat),l[i]?=some x->es[i]?=some e->(kac (ln id))[i]?=some rm->FamE z h j U u.wd (t.enc x) e rm)/\
   (∀ e∈es,e.length=t.wd/\∀ a∈e,a.one=true)/\((κ id=none/\es=[])\/∃ q,κ id=some q/\h q=some (.cells t.wd T es)):=by
 have hb:=R.blk _ _ hB
 cases hb with
 | fm0 _ _ _ _ _ _ _ hd hq hl hn=>subst hl; exact ⟨hd,[],rfl,by rw [hn]; rfl,by simp,by simp,.inl ⟨hq,rfl⟩⟩
 | fm _ _ _ _ _ _ _ q es hd hq hh hn hl hv h0 h1=>exact ⟨hd,es,hl,hn,fun i x e rm hx he hr=>hv i x e rm hx he hr (by simp),h1,.inr ⟨q,hq,hh⟩⟩
theorem Rel.famNew (R:Rel P κ ln z c s env h n) {T U:TypeId} {t u:Ty} {j:Nat} {l:List t.den} {es:List (List AV)} {rows:List (Option Nat×Nat)} (hd:t.dat=true) (hl:es.length=l.length) (hn:l.length=rows.length)
  (hv:∀ (i:Nat) (x:t.den) (e:List AV) (rm:Option Nat×Nat),l[i]?=some x->es[i]?=some e->rows[i]?=some rm->FamE z h j U u.wd (t.enc x) e rm) (h1:∀ e∈es,e.length=t.wd/\∀ a∈e,a.one=true)
  (hr:(rows.filterMap (·.1)).Nodup/\∀ r∈rows.filterMap (·.1),r<n/\z r=none/\∀ i B',thp c s i=some B'->¬ Ow κ ln i B' r) :
  Rel P (updK κ s.n (some n)) (updK ln s.n (codeR rows)) z c { s with hp:=(s.n,some (.fm T t j U u l none))::s.hp,n:=s.n+1 } env (updH h n (.cells t.wd T es)) (n+1):=by
 have up:∀ q B,h q=some B->updH h n (.cells t.wd T es) q=some B:=fun q B hq=>by
  unfold updH; rw [if_neg]; ·exact hq
  rintro rfl; rw [R.hn _ (jah _)] at hq; cases hq
 exact R.newF (.fm T t j U u l none) (some n) (codeR rows) up (jbw _) (fun q hq=>by cases hq; omega) (fun q hq=>by unfold updH; rw [if_neg (by omega)]; exact R.hn q (by omega))
  (.fm T t j U u l none n es hd updK_self (by simp [updH]) (by rw [updK_self,kbq]; exact hn) hl (fun i x e rm hx he hr' _=>(hv i x e rm hx he (by rw [updK_self,kbq] at hr'; exact hr')).mono (fun _ _ h=>h) (fun r B _ hB=>up r B hB)) (fun i rm hi=>by cases hi) h1)
  (by rw [kmP]; exact hr)
theorem Rel.famNew0 (R:Rel P κ ln z c s env h n) {T U:TypeId} {t u:Ty} {j:Nat} (hd:t.dat=true):Rel P (updK κ s.n none) (updK ln s.n 0) z c { s with hp:=(s.n,some (.fm T t j U u [] none))::s.hp,n:=s.n+1 } env h n:=
 R.newF (.fm T t j U u [] none) none 0 (fun _ _ hq=>hq) (jah _) (fun q hq=>by cases hq) R.hn (.fm0 T t j U u [] none hd updK_self rfl updK_self) ⟨List.nodup_nil,fun r hr=>by cases hr⟩
theorem kht {N:Nat} {k:Option Nat} {m:Nat}:Ke c N κ ln (updK κ N k) (updK ln N m):=fun id hi=>⟨kau hi,fun _=>kau hi⟩
theorem knH {T e:TypeId} {f:Ty×Nat×TypeId×Ty} (h:((elemO P T).bind fun e=>(famO P e).map fun f=>(e,f))=some (e,f)):elemO P T=some e/\famO P e=some f:=by
 obtain ⟨e',h1,h2⟩:=jaa.1 h
 obtain ⟨f',h3,h4⟩:=jab.1 h2
 cases h4
 exact ⟨h1,h3⟩
theorem ktv (R:Rel P κ ln z c s env h n) {x:Operand} (hx:ev env x=nilS) (hk:ksE P s ty Kf=some r):Res P κ ln z c s env h n ⟨d,.assign x,ty,pos,after,g⟩ Kf r:=by
 unfold ksE at hk
 split at hk
 ·rename_i e t j U u hf
  obtain ⟨he,hf⟩:=knH hf
  obtain ⟨hd,hud,_⟩:=klG hf
  exact ⟨.fw s.n,_,nilS,h,n,_,_,_,fun K hK=>by simp only [aop,hx]; exact hK,hk,R.famNew0 hd,.fw0 s.n (jbk _) updK_self,jbw _,kht,fun hc=>by cases hc⟩
 ·split at hk
  ·rename_i e t hf
   split at hk
   ·rename_i hd
    have R':=R.new (h':=h) (n':=n) (.sl e t []) none 0 (fun q B hq=>hq) (jah _) (fun q hq=>by cases hq) R.hn (.sl0 e t [] hd updK_self rfl updK_self)
    exact ⟨.mw s.n,_,nilS,h,n,_,_,_,fun K hK=>by simp only [aop,hx]; exact hK,hk,R',.mw0 s.n (jbk _) updK_self,jbw _,kht,fun hc=>by cases hc⟩
   ·exact kaa hk
  ·exact kaa hk
theorem kiq {q:Nat->Bool}:∀ (zs:List AV) (Ts:List TypeId) {i:Nat} {κ:Nat->Option Nat} {ln:Nat->Nat} {s:TS sem},Rel P κ ln z c s env h n->(∀ a∈zs,∃ v,a = .sc v/\v.oneCell'=true)->zs.length=Ts.length->
  ∃ κ' ln',Rel P κ' ln' z c (zeroF P q i s zs Ts).2 env h n/\TVRs P κ' ln' z (zeroF P q i s zs Ts).2.n (zeroF P q i s zs Ts).1 zs/\s.n<=(zeroF P q i s zs Ts).2.n/\(zeroF P q i s zs Ts).2.env=s.env/\(∀ id,id<s.n->κ' id = κ id)/\(∀ id,id<s.n->ln' id=ln id)
 | [],[],i,κ,ln,s,R,_,_=>⟨κ,ln,R,.nil,jah _,rfl,fun _ _=>rfl,fun _ _=>rfl⟩
 | [],_::_,_,_,_,_,_,_,hl=>by simp at hl
 | _::_,[],_,_,_,_,_,_,hl=>by simp at hl
 | a::zs,T::Ts,i,κ,ln,s,R,hz,hl=>by
  obtain ⟨v,rfl,hv⟩:=hz _ (jdb ..)
  have hz':∀ a∈zs,∃ v,a = .sc v/\v.oneCell'=true:=fun a ha=>hz a (jbb _ ha)
  have hl':zs.length=Ts.length:=by simpa using hl
  simp only [zeroF]
  split
  ·rename_i e t j U u hf
   split at hf
   ·rename_i hn
    rw [jac] at hn
    obtain rfl:=kaK hn.1
    obtain ⟨he,hf⟩:=knH hf
    obtain ⟨hd,hud,_⟩:=klG hf
    obtain ⟨κ',ln',R',h1,h2,h3,h4,h5⟩:=kiq zs Ts (R.famNew0 (T:=e) (U:=U) (u:=u) (j:=j) hd) hz' hl'
    exact ⟨κ',ln',R',.cons _ _ _ _ (.fw0 s.n (jan (jbk _) h2) (by rw [h4 s.n (jbk _)]; exact updK_self)) h1,Nat.le_of_succ_le h2,h3,fun id hi=>by rw [h4 id (jdz hi)]; exact kau hi,fun id hi=>by rw [h5 id (jdz hi)]; exact kau hi⟩
   ·cases hf
  ·obtain ⟨κ1,ln1,R1,a1,a2,a3,a4,a5,_⟩:=kgs [.sc v] [T] R (fun a ha=>by simp at ha; subst ha; exact ⟨v,rfl,hv⟩) rfl
   obtain ⟨κ',ln',R',h1,h2,h3,h4,h5⟩:=kiq zs Ts R1 hz' hl'
   exact ⟨κ',ln',R',(a1.mono h4 h5 (fun _ _ h=>h) h2).append h1,jcy a2 h2,h3.trans a3,fun id hi=>(h4 id (by omega)).trans (a4 id hi),fun id hi=>(h5 id (by omega)).trans (a5 id hi)⟩
theorem kup {q:Nat->Bool} (R:Rel P κ ln z c s env h n) {T:TypeId} (hk:ktL P q s T Kf=some r):Res P κ ln z c s env h n ⟨d,.alloc T,ty,pos,after,g⟩ Kf r:=by
 unfold ktL at hk
 split at hk
 ·rename_i zs Ts hz hT
  split at hk
  ·rename_i hl
   have hsc:=kjD hz
   have hone:∀ a∈zs,a.one=true:=fun a ha=>by obtain ⟨v,rfl,hv⟩:=hsc a ha; exact hv
   obtain ⟨κ',ln',R',h1,h2,_,h4,h5⟩:=kiq zs Ts R hsc hl
   obtain ⟨tv,s',v,h',n',κ2,ln2,z2,g1,g2,g3,g4,g5⟩:=kkN (o:=⟨d,.alloc T,ty,pos,after,g⟩) rfl R' h1 hone (fun K hk=>by simp only [aop,hz]; exact hk) hk
   exact ⟨tv,s',v,h',n',κ2,ln2,z2,g1,g2,g3,g4,by have:=g5.1; omega,fun id hi=>⟨(g5.2.1 id (by omega)).1.trans (h4 id hi),fun hc=>((g5.2.1 id (by omega)).2 hc).trans (h5 id hi)⟩,fun hc=>by cases hc⟩
  ·exact kaa hk
 ·exact kaa hk
theorem kti {q:Nat->Bool} (R:Rel P κ ln z c s env h n) {T:TypeId} {parts:Array (Nat×Operand)} (hk:ksM P c q s T parts.toList Kf=some r):Res P κ ln z c s env h n ⟨d,.build T parts,ty,pos,after,g⟩ Kf r:=by
 unfold ksM at hk
 split at hk
 ·rename_i zs Ts pl hz hT hp
  split at hk
  ·rename_i hl
   simp only at hk
   have hsc:=kjD hz
   obtain ⟨κ',ln',R',h1,h2,h3,h4,h5⟩:=kiq zs Ts R hsc hl
   split at hk
   ·rename_i vs hf
    have hev:∀ x,TVR P κ' ln' z (zeroF P q 0 s zs Ts).2.n (tev c s x) (ev env x):=fun x=>by rw [<-kvo (c:=c) h3]; exact R'.ev x
    obtain ⟨bs,k1,k2,k3⟩:=kkK hev parts.toList _ zs h1 (fun a ha=>by obtain ⟨v,rfl,hv⟩:=hsc a ha; exact hv) hf
    exact ⟨.ag vs,_,.ag bs,h,n,κ',ln',z,fun K hk=>kvD hz hp k1 hk,hk,R',.ag vs bs k2 k3,h2,fun id hi=>⟨h4 id hi,fun _=>h5 id hi⟩,fun hc=>by cases hc⟩
   ·exact kaa hk
  ·exact kaa hk
 ·exact kaa hk
theorem krb (R:Rel P κ ln z c s env h n) {T:TypeId} {len:Nat} {parts:Array (Nat×Operand)} (hk:kpt P c s T len parts.toList Kf=some r):Res P κ ln z c s env h n ⟨d,.buildSlice T len parts,ty,pos,after,g⟩ Kf r:=by
 unfold kpt at hk
 split at hk
 ·rename_i e t j U u x hf hp
  obtain ⟨he,hf⟩:=knH hf
  obtain ⟨hd,hud,_⟩:=klG hf
  split at hk
  ·rename_i zs vs hz hc
   split at hk
   ·rename_i hcond
    obtain ⟨rfl,hzl,hw⟩:=hcond
    split at hk
    ·rename_i xs rr y0 hrow hsn
     split at hk
     ·rename_i y hy
      obtain ⟨vj,hvj,hsrc⟩:=jaa.1 hrow
      obtain ⟨hj,hs'⟩:=khF hd hud hy
      obtain ⟨as,hca,hvs⟩:=(R.ev x).one_cells hc
      obtain ⟨aj,haj,hvaj⟩:=hvs.at hvj
      have hset:=hvs.set (.sc (.slice none 0 0) rfl:TVR P κ ln z s.n (.sc (.slice none 0 0)) nilS) j
      obtain ⟨a1,b1,e1,e2,e3,_⟩:=kbG R t _ _ _ _ _ hd hset hsn
      cases e2
      rw [jbd] at e1
      rw [kbe] at e3
      subst e1
      have hlen:as.length=t.wd:=by have:=e3.len; rw [jcd,kaf t y0 hd] at this; exact this.symm
      have hone1:∀ (q:Nat) (a:AV),q≠j->as[q]?=some a->a.one=true:=fun q a hq ha=>e3.one_rev (kaQ t y0 hd) a (jag (i:=q) (by rw [jbf (fun e=>hq e.symm)]; exact ha))
      have hell:(t.enc y)[j]?=some (.sl (xs.map u.enc)):=by rw [hs',jbs (by rw [kaf t y0 hd]; exact hj)]
      have fin:∀ (s1:TS sem) (rv:Option Nat),s1.n=s.n->Rel P κ ln z c s1 env h n->(match rv with | none=>aj=nilS/\xs=[] | some q=>aj = .ms q 0 xs.length/\∃ es,h q=some (.cells u.wd U es)/\SnapE z es (xs.map u.enc)/\∀ x∈es,x.length=u.wd/\∀ a∈x,a.one=true)->
        (∀ q,rv=some q->q<n/\z q=none/\∀ i' B',thp c s1 i'=some B'->¬ Ow κ ln i' B' q)->Kf (.fw s.n) { s1 with hp:=(s.n,some (.fm e t j U u (lstD (A:=sem) t [y]) none))::s1.hp,n:=s.n+1 }=some r->Res P κ ln z c s env h n ⟨d,.buildSlice T 1 parts,ty,pos,after,g⟩ Kf r:=fun s1 rv hsn1 R1 hrv hrr hk=>by
       have honej:aj.one=true:=by
        cases rv with
        | none=>rw [hrv.1]; rfl
        | some q=>rw [hrv.1]; rfl
       have hall:∀ a∈as,a.one=true:=fun a ha=>by
        obtain ⟨q,hq,rfl⟩:=jdf.1 ha
        by_cases e:q=j
        ·subst e
         rw [jae hq] at haj
         cases haj; exact honej
        ·exact hone1 q _ e (jae hq)
       have hFam:FamE z h j U u.wd (t.enc y) as (rv,xs.length):=by
        refine ⟨by rw [hlen,kaf t y hd],fun q a a' hq ha ha'=>?_,xs.map u.enc,hell,by simp,?_⟩
        ·rw [hs',jbf (fun e=>hq e.symm)] at ha'
         exact e3.at q a a' (by rw [jbf (fun e=>hq e.symm)]; exact ha) ha'
        ·cases rv with
         | none=>exact ⟨by rw [haj,hrv.1],by rw [hrv.2]; rfl⟩
         | some q=>exact ⟨by rw [haj,hrv.1],hrv.2⟩
       have R2:=R1.famNew (T:=e) (U:=U) (t:=t) (u:=u) (j:=j) (l:=[y]) (es:=[as]) (rows:=[(rv,xs.length)]) hd rfl rfl (fun i x' e' rm hx he' hr=>by
         cases i with
         | zero=>simp at hx he' hr; subst hx; subst he'; subst hr; exact hFam
         | succ i=>simp at hx) (fun e' he'=>by simp at he'; subst he'; exact ⟨hlen,hall⟩) (by
         cases rv with
         | none=>exact ⟨by simp,fun r hr=>by simp at hr⟩
         | some q=>exact ⟨by simp,fun r hr=>by simp at hr; subst hr; exact hrr _ rfl⟩)
       rw [hsn1] at R2
       refine ⟨.fw s.n,_,.ms n 0 1,_,_,_,_,_,fun K hK=>?_,hk,R2,?_,jbw _,kht,fun hc=>by cases hc⟩
       ·simp only [aop,he,hz,hp,fillE,hca,hzl,hlen]
        simp only [jcr,List.replicate_succ,List.replicate_zero,Nat.lt_add_one,and_self,if_true,List.set_cons_zero,Nat.zero_lt_one,Nat.reduceLT]
        exact ⟨by omega,hw,.inl hK⟩
       ·have:=TVR.fw (P:=P) (κ:=updK κ s.n (some n)) (ln:=updK ln s.n (codeR [(rv,xs.length)])) (z:=z) (N:=s.n+1) s.n n (jbk _) updK_self
        rw [updK_self,kbq] at this
        exact this
      unfold klg at hsrc
      split at hsrc
      ·rename_i rid
       split at hsrc
       ·rename_i U' u' l' hBr
        split at hsrc
        ·rename_i hU
         simp only [jab] at hsrc
         obtain ⟨xs',hx',he'⟩:=hsrc
         cases he'
         obtain ⟨et,rfl⟩:=kai hx'
         cases et
         subst hU
         have R0:=R.del (h':=h) hBr (fun _ _ h=>h) (fun _ _ _ h=>h)
         have hthp:∀ i' B',thp c { s with hp:=(rid,none)::s.hp } i'=some B'->i'≠rid/\thp c s i'=some B':=fun i' B' hi'=>by
          rw [kaW] at hi'
          split at hi'
          ·cases hi'
          ·rename_i e; exact ⟨e,hi'⟩
         dsimp only at hk
         cases R.blk _ _ (kab hBr) with
         | sl0 _ _ _ hd' hq' hl' hn'=>
          subst hl'
          refine fin { s with hp:=(rid,none)::s.hp } none rfl R0 ⟨?_,rfl⟩ (fun q e=>by cases e) hk
          cases hvaj with
          | mw0=>rfl
          | mw _ q _ hq=>rw [hq'] at hq; cases hq
         | sl _ _ _ qr es' hd' hq' hh' hvs' h1' hn'=>
          refine fin { s with hp:=(rid,none)::s.hp } (some qr) rfl R0 ⟨?_,es',hh',hvs',fun e he=>⟨hvs'.heads hud e he,h1' e he⟩⟩ (fun rr e=>?_) hk
          ·rw [hn']
           cases hvaj with
           | mw0 _ _ hq=>rw [hq'] at hq; cases hq
           | mw _ q _ hq=>rw [hq'] at hq; cases hq; rfl
          ·cases e
           refine ⟨R.bnd _ _ _ (kab hBr) hq',R.zout _ _ _ (kab hBr) hq',fun i' B' hi' ho'=>?_⟩
           obtain ⟨w1,w2⟩:=hthp i' B' hi'
           exact w1 (R.owI w2 (kab hBr) ho' (.inl hq'))
        ·cases hsrc
       ·cases hsrc
      ·rename_i w
       split at hsrc
       ·rename_i hn
        cases hsrc
        dsimp only at hk
        refine fin s none rfl R ⟨?_,rfl⟩ (fun q e=>by cases e) hk
        cases hvaj
        exact congrArg AV.sc (kaK hn)
       ·cases hsrc
      ·cases hsrc
     ·exact kaa hk
    ·exact kaa hk
   ·exact kaa hk
  ·exact kaa hk
 ·exact kaa hk
theorem knA (R:Rel P κ ln z c s env h n) {T T2:TypeId} {x y:Operand} {da:Option Nat} {b:Nat} (hu:match da with | none=>ev env x=nilS | some a=>TVR P κ ln z s.n (.fw a) (ev env x)) (hv:TVR P κ ln z s.n (.fw b) (ev env y)) (hk:kpN P s T T2 da b Kf=some r) :
  Res P κ ln z c s env h n ⟨d,.call ⟨.builtin .append,#[x,y],#[T,T2]⟩,ty,pos,after,g⟩ Kf r:=by
 unfold kpN at hk
 split at hk
 ·rename_i e Tb t j U u lb he hBb
  replace hBb:=kcK hBb
  split at hk
  ·rename_i zs hz
   split at hk
   ·rename_i hc
    obtain ⟨hp,hzl,hw0,hb,rfl⟩:=hc
    have hzne:zs≠[]:=by rintro rfl; simp at hzl; omega
    have hBb':=kab (c:=c) hBb
    obtain ⟨hd,eb,b1,b2,b3,b4,b5⟩:=R.famAll hBb'
    have hfb:=R.fam b _ hBb' rfl
    have hxs:srcA h zs.length (ev env y)=some eb:=by
     rw [hzl]
     rcases b5 with ⟨b5,b6⟩ | ⟨q,b5,b6⟩
     ·generalize ev env y=av at hv
      cases hv with
      | fw0=>rw [b6]; rfl
      | fw _ q _ hq=>rw [b5] at hq; cases hq
     ·generalize ev env y=av at hv
      cases hv with
      | fw0 _ _ hq=>rw [b5] at hq; cases hq
      | fw _ q' _ hq=>
       rw [b5] at hq; cases hq
       simp only [srcA,b6]
       rw [if_pos ⟨trivial,by omega⟩,jck,jbr (by omega)]
    have Rb:=R.del (h':=h) hBb (fun _ _ h=>h) (fun _ _ _ h=>h)
    have tb:∀ i B',thp c { s with hp:=(b,none)::s.hp } i=some B'->i≠b/\thp c s i=some B':=fun i B' hi=>by
     rw [kaW] at hi
     split at hi
     ·cases hi
     ·rename_i e; exact ⟨e,hi⟩
    split at hk
    ·
     simp only [jaa] at hk
     obtain ⟨l',hg,hk⟩:=hk
     obtain ⟨hle,hg⟩:=kib hg
     rw [show ([]:List t.den)++lb=lb from rfl] at hg
     rw [hg] at hk
     have hle':eb.length<=1048576:=by simp at hle; omega
     by_cases hne:eb=[]
     ·subst hne
      have hl0:lb=[]:=jbp (by rw [<-b1]; rfl)
      subst hl0
      refine ⟨.fw s.n,_,nilS,h,n,_,_,_,fun K hK=>?_,hk,Rb.famNew0 hd,.fw0 s.n (jbk _) updK_self,jbw _,kht,fun hc=>by cases hc⟩
      simp only [aop,kah,hu,kby,he,hz,hxs]
      exact ⟨hp,hzne,hb,hle',fun _=>hK,fun h=>absurd rfl h⟩
     ·have R2:=Rb.famNew (T:=Tb) (U:=U) (u:=u) (j:=j) (es:=eb) (rows:=kac (ln b)) hd b1 b2 b3 b4 ⟨hfb.1,fun r hr=>⟨(hfb.2 r hr).1,(hfb.2 r hr).2.1,fun i B' hi ho=>by
       obtain ⟨w1,w2⟩:=tb i B' hi
       exact w1 (R.owI w2 hBb' ho (.inr ⟨rfl,hr⟩))⟩⟩
      refine ⟨.fw s.n,_,.ms n 0 eb.length,_,_,_,_,_,fun K hK=>?_,hk,R2,?_,jbw _,kht,fun hc=>by cases hc⟩
      ·simp only [aop,kah,hu,kby,he,hz,hxs]
       refine ⟨hp,hzne,hb,hle',fun h=>absurd h hne,fun _=>?_⟩
       rw [hzl]; exact hK
      ·have:=TVR.fw (P:=P) (κ:=updK κ s.n (some n)) (ln:=updK ln s.n (codeR (kac (ln b)))) (z:=z) (N:=s.n+1) s.n n (jbk _) updK_self
       rw [updK_self,kbq,<-b2,<-b1] at this
       exact this
    ·
     rename_i a
     split at hk
     ·rename_i Ta ta ja Ua ua la hBa
      replace hBa:=kcK hBa
      split at hk
      ·rename_i hc2
       obtain ⟨rfl,rfl,rfl,rfl,hab⟩:=hc2
       split at hk
       ·rename_i la' hla
        obtain ⟨et,rfl⟩:=kai hla
        cases et
        simp only [jaa] at hk
        obtain ⟨l',hg,hk⟩:=hk
        obtain ⟨hle,hg⟩:=kib hg
        subst hg
        have hBa':=kab (c:=c) hBa
        obtain ⟨_,ea,a1,a2,a3,a4,a5⟩:=R.famAll hBa'
        have hfa:=R.fam a _ hBa' rfl
        have hBa0:alk ((b,(none:Option (TB sem)))::s.hp) a=some (some (.fm Ta t ja Ua ua la none)):=by simp only [alk]; rw [if_neg hab]; exact hBa
        have tab:∀ i B',thp c { s with hp:=(a,none)::(b,none)::s.hp } i=some B'->i≠a/\i≠b/\thp c s i=some B':=fun i B' hi=>by
         rw [kaW (s:={ s with hp:=(b,none)::s.hp })] at hi
         split at hi
         ·cases hi
         ·rename_i e
          obtain ⟨w1,w2⟩:=tb i B' hi
          exact ⟨e,w1,w2⟩
        have nums:(((kac (ln a))++(kac (ln b))).filterMap (·.1)).Nodup/\∀ r∈((kac (ln a))++(kac (ln b))).filterMap (·.1),r<n/\z r=none/\∀ i B',thp c { s with hp:=(a,none)::(b,none)::s.hp } i=some B'->¬ Ow κ ln i B' r:=by
         rw [List.filterMap_append]
         refine ⟨List.nodup_append.2 ⟨hfa.1,hfb.1,fun r1 hr1 r2 hr2 e=>?_⟩,fun r hr=>?_⟩
         ·subst e
          exact hab (R.owI hBa' hBb' (.inr ⟨rfl,hr1⟩) (.inr ⟨rfl,hr2⟩))
         ·rcases jaz.1 hr with hr | hr
          ·refine ⟨(hfa.2 r hr).1,(hfa.2 r hr).2.1,fun i B' hi ho=>?_⟩
           obtain ⟨w1,w2,w3⟩:=tab i B' hi
           exact w1 (R.owI w3 hBa' ho (.inr ⟨rfl,hr⟩))
          ·refine ⟨(hfb.2 r hr).1,(hfb.2 r hr).2.1,fun i B' hi ho=>?_⟩
           obtain ⟨w1,w2,w3⟩:=tab i B' hi
           exact w2 (R.owI w3 hBb' ho (.inr ⟨rfl,hr⟩))
        have all:∀ h1:AH,(∀ q B,(∀ r,r∈kam (ln a)\/r∈kam (ln b)->q=r->h q=some B->h1 q=some B))->∀ (i:Nat) (x':t.den) (e':List AV) (rm:Option Nat×Nat),(la++lb)[i]?=some x'->(ea++eb)[i]?=some e'->((kac (ln a))++(kac (ln b)))[i]?=some rm->FamE z h1 ja Ua ua.wd (t.enc x') e' rm:=fun h1 hh i x' e' rm hx he' hr=>by
         rw [jbm] at hx he' hr
         split at hx
         ·rename_i hlt
          rw [if_pos (by omega)] at he' hr
          exact (a3 i x' e' rm hx he' hr).mono (fun _ _ h=>h) fun q B hq hB=>by obtain ⟨r0,m⟩:=rm; simp only at hq; subst hq; exact hh q B q (.inl (kay hr)) rfl hB
         ·rename_i hlt
          rw [if_neg (by omega)] at he' hr
          rw [show i-ea.length=i-la.length by omega] at he'
          rw [show i-(kac (ln a)).length=i-la.length by omega] at hr
          exact (b3 _ x' e' rm hx he' hr).mono (fun _ _ h=>h) fun q B hq hB=>by obtain ⟨r0,m⟩:=rm; simp only at hq; subst hq; exact hh q B q (.inr (kay hr)) rfl hB
        have ones:∀ e'∈ea++eb,e'.length=t.wd/\∀ v∈e',v.one=true:=fun e' he'=>(jaz.1 he').elim (a4 e') (b4 e')
        have tv:∀ m,m=(kac (ln a)++kac (ln b)).length->TVR P (updK κ s.n (some n)) (updK ln s.n (codeR (kac (ln a)++kac (ln b)))) z (s.n+1) (.fw s.n) (.ms n 0 m):=fun m hm=>by
         have:=TVR.fw (P:=P) (κ:=updK κ s.n (some n)) (ln:=updK ln s.n (codeR (kac (ln a)++kac (ln b)))) (z:=z) (N:=s.n+1) s.n n (jbk _) updK_self
         rw [updK_self,kbq,<-hm] at this
         exact this
        simp only at hu
        rcases a5 with ⟨a5,a6⟩ | ⟨qa,a5,a6⟩
        ·
         subst a6
         have hl0:la=[]:=jbp (by rw [<-a1]; rfl)
         subst hl0
         have hx:ev env x=nilS:=by
          generalize ev env x=av at hu
          cases hu with
          | fw0=>rfl
          | fw _ q _ hq=>rw [a5] at hq; cases hq
         have Rab:=Rb.del (h':=h) hBa0 (fun _ _ h=>h) (fun _ _ _ h=>h)
         have hle':eb.length<=1048576:=by simp at hle; omega
         by_cases hne:eb=[]
         ·subst hne
          have hl0:lb=[]:=jbp (by rw [<-b1]; rfl)
          subst hl0
          refine ⟨.fw s.n,_,nilS,h,n,_,_,_,fun K hK=>?_,hk,Rab.famNew0 hd,.fw0 s.n (jbk _) updK_self,jbw _,kht,fun hc=>by cases hc⟩
          simp only [aop,kah,hx,kby,he,hz,hxs]
          exact ⟨hp,hzne,hb,hle',fun _=>hK,fun h=>absurd rfl h⟩
         ·have R2:=Rab.famNew (T:=Ta) (U:=Ua) (u:=ua) (j:=ja) (l:=[]++lb) (es:=[]++eb) (rows:=kac (ln a)++kac (ln b)) hd (by simpa using b1) (by simp at a2 ⊢; omega) (all h (fun q B r _ _ hB=>hB)) ones nums
          refine ⟨.fw s.n,_,.ms n 0 eb.length,_,_,_,_,_,fun K hK=>?_,hk,R2,tv _ (by simp at a2 ⊢; omega),jbw _,kht,fun hc=>by cases hc⟩
          simp only [aop,kah,hx,kby,he,hz,hxs]
          refine ⟨hp,hzne,hb,hle',fun h=>absurd h hne,fun _=>?_⟩
          rw [hzl]; exact hK
        ·have hx:ev env x = .ms qa 0 (kac (ln a)).length:=by
          generalize ev env x=av at hu
          cases hu with
          | fw0 _ _ hq=>rw [a5] at hq; cases hq
          | fw _ q _ hq=>rw [a5] at hq; cases hq; rfl
         have Rab:=Rb.del (h':=delH h qa) hBa0 (fun q B hq=>by unfold delH at hq; split at hq; cases hq; exact hq) (fun q B hq hB=>by unfold delH; rw [if_neg]; exact hB; rintro rfl; exact hq a5)
         have R2:=Rab.famNew (T:=Ta) (U:=Ua) (u:=ua) (j:=ja) (l:=la++lb) (es:=ea++eb) (rows:=kac (ln a)++kac (ln b)) hd (by simp; omega) (by simp; omega) (all (delH h qa) (fun q B r hr hq hB=>by
          unfold delH
          rw [if_neg]
          ·exact hB
          ·rintro rfl
           subst hq
           rcases hr with hr | hr
           ·exact (hfa.2 _ hr).2.2.1 a _ hBa' a5
           ·exact (hfb.2 _ hr).2.2.1 a _ hBa' a5)) ones nums
         refine ⟨.fw s.n,_,.ms n 0 ((kac (ln a)).length+eb.length),_,_,_,_,_,fun K hK=>?_,hk,R2,tv _ (by simp; omega),jbw _,kht,fun hc=>by cases hc⟩
         simp only [aop,kah,hx,kby,he,hz,hxs,a6]
         refine ⟨hp,hzne,hb,hzl.symm,trivial,by omega,by have:=hle; omega,?_⟩
         exact hK
       ·exact kaa hk
      ·exact kaa hk
     ·exact kaa hk
   ·exact kaa hk
  ·exact kaa hk
 ·exact kaa hk
theorem ktl (R:Rel P κ ln z c s env h n) {T:TypeId} {x:Operand} {v:TV sem} (hv:TVR P κ ln z s.n v (ev env x)) (hk:ktG P s T v Kf=some r):Res P κ ln z c s env h n ⟨d,.range T x,ty,pos,after,g⟩ Kf r:=by
 unfold ktG at hk
 split at hk
 ·rename_i l
  split at hk
  ·rename_i hT
   have hs:ev env x=str l:=by
    generalize ev env x=a at hv
    cases hv with
    | c _ _ _ hd hs=>exact hs.sc_inv
   have R':=R.new (h':=updH h n (.si ⟨l.toArray⟩ 0)) (n':=n+1) (.si (l,0)) (some n) 0 (fun q B hq=>by
    unfold updH; rw [if_neg]; ·exact hq
    rintro rfl; rw [R.hn _ (jah _)] at hq; cases hq) (jbw _) (fun q hq=>by cases hq; omega) (fun q hq=>by unfold updH; rw [if_neg (by omega)]; exact R.hn q (by omega))
    (.si (l,0) n updK_self (by simp) (by simp [updH]))
   exact ⟨.ptr s.n 0,_,.own n 0 0,_,_,_,_,_,fun K hK=>by simp only [aop,knE,hs,str]; exact ⟨kgZ hT,hK⟩,hk,R',.ptr s.n 0 n (jbk _) updK_self,jbw _,kht,fun hc=>by cases hc⟩
  ·exact kaa hk
 ·exact kaa hk
theorem kuK (R:Rel P κ ln z c s env h n) {x:Operand} {v:TV sem} (hv:TVR P κ ln z s.n v (ev env x)) (hk:nextX s v Kf=some r):Res P κ ln z c s env h n ⟨d,.next x true,ty,pos,after,g⟩ Kf r:=by
 have key:∀ (id:Nat) (l:List UInt8) (i:Int),TVR P κ ln z s.n (.ptr id 0) (ev env x)->alk s.hp id=some (some (TB.si (A:=sem) (l,i)))->sem.ite (decide (i<lenI l)) (Kf (.tp [.kb true,.c (.i .i64) i,.c (.i .i32) (runeV (l,i))]) { s with hp:=(id,some (.si (runeN (l,i))))::s.hp }) (Kf (.tp [.kb false]) s)=some r->
   Res P κ ln z c s env h n ⟨d,.next x true,ty,pos,after,g⟩ Kf r:=by
  intro id l i hv hB hk
  cases R.blk _ _ (kab hB) with
  | si _ q hq h0 hh=>
   replace h0:0<=i:=h0
   replace hh:h q=some (.si ⟨l.toArray⟩ i.toNat):=hh
   have hx:ev env x = .own q 0 0:=by
    generalize ev env x=a at hv
    cases hv with
    | ptr _ _ q' _ hk'=>rw [hq] at hk'; cases hk'; rfl
   have hsz:(⟨l.toArray⟩:ByteArray).size=l.length:=by simp [ByteArray.size]
   rcases kcr hk with ⟨hb,hk⟩ | ⟨hb,hk⟩
   ·have hlt:i.toNat<(⟨l.toArray⟩:ByteArray).size:=by
     rw [hsz]
     have:i<lenI l:=of_decide_eq_true hb
     unfold lenI at this
     omega
    have R':=R.setO (B:=.si (runeN (l,i))) (AB:=.si ⟨l.toArray⟩ (i.toNat+(Utf8.decode ⟨l.toArray⟩ i.toNat).2)) hB (.inl hq) (.si (runeN (l,i)) q hq (Int.natCast_nonneg _) (by unfold updH; rw [if_pos rfl]; rfl)) (fun e=>by cases e)
    refine ⟨_,_,.tp [.sc (.bool true),.sc (.int .i64 i),.sc (.int .i32 (Utf8.decode ⟨l.toArray⟩ i.toNat).1)],_,_,_,_,_,fun K hK=>?_,hk,R',?_,jah _,.refl,fun hc=>by cases hc⟩
    ·simp only [aop,nextK,hx,hh]
     rw [if_pos hlt]
     rw [show ((i.toNat:Nat):Int)=i by omega]
     exact hK
    ·exact .tp _ _ (.cons _ _ _ _ (.kb true) (.cons _ _ _ _ (.c (.i .i64) i _ rfl (.free _ (.sc _))) (.cons _ _ _ _ (.c (.i .i32) (runeV (l,i)) _ rfl (.free _ (.sc _))) .nil)))
   ·have hge:¬ i.toNat<(⟨l.toArray⟩:ByteArray).size:=by
     rw [hsz]
     have:¬ i<lenI l:=of_decide_eq_false hb
     unfold lenI at this
     omega
    refine ⟨_,_,.tp [.sc (.bool false)],h,n,_,_,_,fun K hK=>?_,hk,R,.tp _ _ (.cons _ _ _ _ (.kb false) .nil),jah _,.refl,fun hc=>by cases hc⟩
    simp only [aop,nextK,hx,hh]
    rw [if_neg hge]
    exact hK
 unfold nextX at hk
 split at hk
 ·rename_i id
  split at hk
  ·rename_i y hB
   exact key id y.1 y.2 hv hB hk
  ·exact kaa hk
 ·exact kaa hk
theorem krR (R:Rel P κ ln z c s env h n) {dst:Option Tmp} {ty:TypeId} {pos:String} {after:Array Edge} {g:Option (Nat×Bool)} {T:TypeId} {len:Nat} {parts:Array (Nat×Operand)} {Kf:TV sem->sem.Ans ρ} (hk:bsX P c s T len parts.toList Kf=some r) :
  ∃ tv v,(∀ h1 n1 (K:K3),K v h1 n1->aop P env h1 n1 ⟨dst,.buildSlice T len parts,ty,pos,after,g⟩ K)/\Kf tv=some r/\TVR P κ ln z s.n tv v:=by
 unfold bsX at hk
 split at hk
 ·exact kaa hk
 ·rename_i e he
  split at hk
  ·rename_i t zs ht hz
   split at hk
   ·rename_i hc
    obtain ⟨hc1,hc2,hc3⟩:=hc
    have hd:=ket ht
    split at hk
    ·rename_i hl
     split at hk
     ·rename_i ys hp
      obtain ⟨k0,xs,k1,k2,k3⟩:=kjA R hd parts.toList 0 len (by omega) hp
      rw [kbe] at k3
      have hlst:∀ l:List t.den,lstD (A:=sem) t l=l:=by
       intro l
       induction l with
       | nil=>rfl
       | cons a l ih=>simp only [lstD]; rw [ih]
      rw [hlst] at hk
      refine ⟨_,.sl xs,fun h1 n1 K hK=>?_,hk,.c _ _ _ hd (Snap.of_sl k3)⟩
      simp only [aop,he,hz,hc3]
      rw [k2 (List.replicate len zs) (by simp)]
      simp only [jdi,jba]
      rw [hc3] at hc2
      exact ⟨hc1,hc2,.inr (.inl hK)⟩
     ·exact kaa hk
     ·exact kaa hk
    ·exact kaa hk
   ·exact kaa hk
  ·exact kaa hk
theorem kvK {Δ:List (FuncId×Ctr)} (R:Rel P κ ln z c s env h n) (o:Oper) {a:sem.Ans ρ} (hf:famX P c Δ s o Kf=some a) (hk:a=some r):Res P κ ln z c s env h n o Kf r:=by
 obtain ⟨d,op,ty,pos,after,g⟩:=o
 unfold famX at hf
 simp only at hf
 split at hf
 ·rename_i T x
  have hx:=R.ev x
  split at hf
  ·rename_i id i j he; rw [he] at hx; cases hf; exact kss R hx hk
  ·rename_i id i k j he; rw [he] at hx; cases hf; exact kso R hx hk
  ·cases hf
 ·rename_i T p x
  have hp:=R.ev p
  split at hf
  ·rename_i id i j he; rw [he] at hp; cases hf; exact kro R hp (R.ev x) hk
  ·rename_i id i k j he; rw [he] at hp; cases hf; exact kqO R hp (R.ev x) hk
  ·cases hf
 ·rename_i T x f
  have hx:=R.ev x
  split at hf
  ·rename_i id i j he; rw [he] at hx; cases hf; exact ktk R hx hk
  ·rename_i id i k j he; rw [he] at hx; cases hf; exact kuv R hx hk
  ·cases hf
 ·rename_i T x i
  have hx:=R.ev x
  split at hf
  ·rename_i id he; rw [he] at hx; cases hf; exact kue R hx (R.ev i) hk
  ·rename_i id a he; rw [he] at hx; cases hf; exact kug R hx (R.ev i) hk
  ·cases hf
 ·rename_i T x y
  split at hf
  ·rename_i e he
   split at hf
   ·cases hf; exact ksl R he hk
   ·cases hf
  ·cases hf
 ·rename_i l
  obtain ⟨cal,args,ts⟩:=l
  simp only at hf
  split at hf
  ·rename_i b
   split at hf
   ·rename_i x T hx ht
    obtain rfl:=arr_of' hx
    obtain rfl:=arr_of' ht
    have hx:=R.ev x
    split at hf
    ·rename_i id he; rw [he] at hx; cases hf; exact ksy R hx hk
    ·rename_i id a he; rw [he] at hx; cases hf; exact ktI R hx hk
    ·cases hf
   ·rename_i x y T T2 hx ht
    obtain rfl:=arr_of' hx
    obtain rfl:=arr_of' ht
    have hx:=R.ev x
    split at hf
    ·rename_i id a he; rw [he] at hx; cases hf; exact ksR R hx (R.ev y) hk
    ·rename_i a he; rw [he] at hx
     have hy:=R.ev y
     split at hf
     ·rename_i b he2; rw [he2] at hy; cases hf; exact knA R (da:=some a) hx hy hk
     ·cases hf
    ·rename_i u he; rw [he] at hx
     have hy:=R.ev y
     split at hf
     ·rename_i b he2; rw [he2] at hy
      split at hf
      ·rename_i hn
       cases hf
       refine knA R (da:=none) ?_ hy hk
       generalize ev env x=a at hx
       cases hx
       exact congrArg AV.sc (kaK hn)
      ·cases hf
     ·cases hf
    ·cases hf
   ·cases hf
  ·cases hf
 ·split at hf
  ·cases hf; exact kup R hk
  ·cases hf
 ·split at hf
  ·cases hf; exact kti R hk
  ·cases hf
 ·split at hf
  ·cases hf; exact krb R hk
  ·split at hf
   ·cases hf
    obtain ⟨tv,v,k1,k2,k3⟩:=krR (dst:=d) (ty:=ty) (pos:=pos) (after:=after) (g:=g) R hk
    exact R.q (fun K hK=>k1 _ _ K hK) k3 k2
   ·cases hf
 ·rename_i x
  split at hf
  ·rename_i u he
   split at hf
   ·rename_i hn
    rw [jac] at hn
    cases hf
    refine ktv R ?_ hk
    have hx:=R.ev x
    rw [he] at hx
    generalize ev env x=a at hx
    cases hx
    exact congrArg AV.sc (kaK hn.1)
   ·cases hf
  ·cases hf
 ·cases hf
end
section
variable {P:Program} {κ κ':Nat->Option Nat} {ln ln':Nat->Nat} {z z':AH} {c:Cx sem} {s:TS sem} {env:Env} {h h':AH} {n n' N N':Nat}
variable {ρ:Ty} {Kf:TV sem->TS sem->sem.Ans ρ} {r:ρ.den}
theorem kgt {α:Type} {a:Array α} {l:List α} (h:a.toList=l):a=l.toArray:=by rw [<-h]
theorem kkr {Δ:List (FuncId×Ctr)} {args:List (TV sem)} {M:CtrM}:∀ {l:List CtrM},pickM c Δ s args l=some M->M∈l
 | [],h=>by cases h
 | C::l,h=>by
  unfold pickM at h
  split at h
  ·cases h; exact jdb ..
  ·exact jbb _ (kkr h)
theorem kpU {Δ:List (FuncId×Ctr)}:∀ {ts:List Ty} {vs:List (TV sem)} {l:List ((t:Ty)×t.den)} {ids:List Nat},kda (A:=sem) c Δ s ts vs=some (l,ids)->l.length=ts.length
 | [],[],l,ids,hs=>by cases hs; rfl
 | [],_::_,l,ids,hs=>by simp [kda] at hs
 | _::_,[],l,ids,hs=>by simp [kda] at hs
 | t::ts,v::vs,l,ids,hs=>by
  simp only [kda,jaa,jab] at hs
  obtain ⟨⟨x,i1⟩,hx,⟨l',i2⟩,hl,he⟩:=hs
  cases he
  simp [kpU hl]
theorem kyv {s s':TS sem} {A:List (Nat×Option (TB sem))} (h:s'.hp=A++s.hp):chgd s s'=A.map (·.1):=by
 unfold chgd
 rw [h,jbg,Nat.add_sub_cancel,List.take_left]
theorem kwc {C:CtrM} {u:TS sem} {ids:List (Nat×Nat)} {x:Nat×Nat} (hx:x∈ids):x.2∈chgd s (kgz C s u ids):=by
 rw [kyv (s':=kgz C s u ids) rfl,jcx]
 exact List.mem_append_right _ (jay.2 ⟨(x.2,none),jay.2 ⟨x,hx,rfl⟩,rfl⟩)
theorem kjI {Δ:List (FuncId×Ctr)} (hΔ:Goods P Δ) {g:FuncId} {C:CtrM} (hok:C.ok=true) (hG:GoodM P g C) (R:Rel P κ ln z c s env h n) {args:List (TV sem)} {as:List AV} (hargs:TVRs P κ ln z s.n args as) (hk:kjJ c Δ s C args Kf=some r) {K:K3}
  (hK:∀ tv s' v h' n' κ' ln',Kf tv s'=some r->Ke c s.n κ ln κ' ln'->s.n<=s'.n->Rel P κ' ln' ahN c s' env h' n'->TVR P κ' ln' ahN s'.n tv v->(∀ q,q<n->h' q=h q\/∃ id∈chgd s s',(∃ B,thp c s id=some B)/\q∈ows κ ln c s id)->K v h' n'):HC P g as h n K:=by
 unfold kjJ at hk
 split at hk
 ·exact kaa hk
 ·rename_i hcond
  simp only [jav,jai,jbi,not_or,jch,Bool.not_eq_false,ne_eq,Decidable.not_not] at hcond
  obtain ⟨⟨hlen,hdy⟩,_⟩:=hcond
  split at hk
  ·rename_i l hl
   split at hk
   ·rename_i m hm
    split at hk
    ·rename_i hchk
     rw [jac,jac] at hchk
     split at hk
     ·rename_i a ha
      obtain ⟨y,hy,hk⟩:=jaa.1 hk
      dsimp only at hk
      split at hk
      ·rename_i hu
       rw [jac] at hu
       have hz0:=R.dy hdy
       obtain ⟨bs,g1,g2,g3⟩:=kfx hΔ R _ _ _ (kqK C.ks hargs) hl
       subst hz0
       refine kvV hG hok R hdy hargs hlen (kpU hl) g1 g2 g3 hm (by simpa [jcp] using hchk.1.1) hchk.1.2 hchk.2 ha hy hu.1 hu.2 fun v h' n' κ' ln' h0 h1 h2 h3=>hK _ _ v h' n' κ' ln' hk h0 (Nat.le_add_right _ _) h1 h2 fun q hq=>(h3 q hq).imp id fun ⟨x,hx,hxq⟩=>⟨x.2,kwc hx,hxq⟩
      ·exact kaa hk
     ·exact kaa hk
    ·exact kaa hk
   ·exact kaa hk
  ·exact kaa hk
theorem kfC {Δ:List (FuncId×Ctr)} (hΔ:Goods P Δ) (R:Rel P κ ln z c s env h n) (o:Oper) (hk:xop P c Δ s o Kf=some r):Res P κ ln z c s env h n o Kf r:=by
 unfold xop at hk
 split at hk
 ·rename_i a hf
  exact kvK R o hf hk
 rename_i hf0
 clear hf0
 obtain ⟨d,op,ty,pos,after,g⟩:=o
 simp only at hk
 split at hk
 ·rename_i x; exact koH (o:=⟨d,.move x,ty,pos,after,g⟩) rfl R (R.ev x) (fun K hk=>by simp only [aop]; exact hk) hk
 ·rename_i x; exact koH (o:=⟨d,.assign x,ty,pos,after,g⟩) rfl R (R.ev x) (fun K hk=>by simp only [aop]; exact hk) hk
 ·rename_i x a b
  have hx:=R.ev x
  split at hk
  ·rename_i t he
   rw [he] at hx
   generalize hev:ev env x=av at hx
   cases hx
   cases t
   ·exact R.q (fun K hk=>by simp only [aop,hev]; exact hk) (R.ev b) hk
   ·exact R.q (fun K hk=>by simp only [aop,hev]; exact hk) (R.ev a) hk
  ·rename_i y he
   rw [he] at hx
   have hev:=hx.b_inv
   rcases kcr hk with ⟨hb,hk⟩ | ⟨hb,hk⟩
   ·rw [hb] at hev; exact R.q (fun K hk=>by simp only [aop,hev]; exact hk) (R.ev a) hk
   ·rw [hb] at hev; exact R.q (fun K hk=>by simp only [aop,hev]; exact hk) (R.ev b) hk
  ·exact kaa hk
 ·exact ksx R hk
 ·exact kwa R (R.ev _) hk
 ·exact kuL R (R.ev _) hk
 ·exact ktU R (R.ev _) (R.ev _) hk
 ·exact kvN R (R.ev _) hk
 ·exact kvX R (R.ev _) (R.ev _) hk
 ·exact kwA R (R.ev _) hk
 ·exact kuE R (R.ev _) hk
 ·rename_i f first caps
  split at hk
  ·rename_i hfi
   have hf:first = #[]:=by simpa [Array.isEmpty_iff] using hfi
   refine R.q (fun K hk=>by simp only [aop]; exact ⟨hf,hk⟩) (.fn f _ (caps.toList.map (ev env)) ?_) hk
   generalize caps.toList=l
   induction l with
   | nil=>exact .nil
   | cons x l ih=>exact .cons _ _ _ _ (R.ev x) ih
  ·exact kaa hk
 ·exact kpE R hk
 ·exact kul R (R.ev _) hk
 ·exact koS R (R.ev _) hk
 ·exact ksU R (R.ev _) hk
 ·exact kqM R (R.ev _) (R.ev _) hk
 ·exact kwb R (R.ev _) (R.ev _) hk
 ·rename_i x i
  have hx:=R.ev x
  split at hk
  ·rename_i vs he
   rw [he] at hx
   generalize hev:ev env x=av at hx
   cases hx with
   | tp _ as hvs=>
    split at hk
    ·rename_i v hv
     obtain ⟨a,ha,hva⟩:=hvs.at hv
     exact R.q (fun K hk=>s_ext hev ha hk) hva hk
    ·exact kaa hk
  ·exact kaa hk
 ·exact ktE R hk
 ·exact koe R hk
 ·exact kqT R hk
 ·exact ksd R (R.ev _) (R.ev _) hk
 ·exact ksj R (R.ev _) (R.ev _) (R.ev _) hk
 ·exact ksf R (R.ev _) (R.ev _) hk
 ·exact ktu R (R.ev _) (R.ev _) (R.ev _) hk
 ·exact ktl R (R.ev _) hk
 ·exact kuK R (R.ev _) hk
 ·exact absurd (show (none:Option ρ.den)=some r from hk) (by simp)
 ·rename_i l
  obtain ⟨callee,args,ts⟩:=l
  split at hk
  ·rename_i b hb
   simp only at hb
   subst hb
   split at hk
   ·rename_i x T h1 h2
    obtain rfl:=kgt h1
    obtain rfl:=kgt h2
    exact kwf R (R.ev _) hk
   ·rename_i x y T T2 h1 h2
    obtain rfl:=kgt h1
    obtain rfl:=kgt h2
    exact kvZ R (R.ev _) (R.ev _) hk
   ·rename_i x y T T2 h1 h2
    obtain rfl:=kgt h1
    obtain rfl:=kgt h2
    exact kuS R (R.ev _) (R.ev _) hk
   ·rename_i x y h1
    obtain rfl:=kgt h1
    exact krW (mx:=false) R (R.ev _) (R.ev _) hk
   ·rename_i x y h1
    obtain rfl:=kgt h1
    exact krW (mx:=true) R (R.ev _) (R.ev _) hk
   ·rename_i x y q h1
    obtain rfl:=kgt h1
    exact kqq (mx:=false) R (R.ev _) (R.ev _) (R.ev _) hk
   ·rename_i x y q h1
    obtain rfl:=kgt h1
    exact kqq (mx:=true) R (R.ev _) (R.ev _) (R.ev _) hk
   ·exact kaa hk
  ·rename_i f hf
   exact kuT hΔ R hf hk
  ·exact kaa hk
 ·exact kaa hk
theorem ksB {p:Pat} {i:Nat} (R:Rel P κ ln z c s env h n) {v:TV sem} {a:AV} (hv:TVR P κ ln z s.n v a) :
  ∃ κ' ln',Rel P κ' ln' z c (klu (A:=sem) p i v s).2 env h n/\TVR P κ' ln' z (klu (A:=sem) p i v s).2.n (klu (A:=sem) p i v s).1 a/\(∀ id,id<s.n->κ' id = κ id/\ln' id=ln id)/\s.n<=(klu (A:=sem) p i v s).2.n:=by
 have same:∃ κ' ln',Rel P κ' ln' z c s env h n/\TVR P κ' ln' z s.n v a/\(∀ id,id<s.n->κ' id = κ id/\ln' id=ln id)/\s.n<=s.n:=⟨κ,ln,R,hv,fun _ _=>⟨rfl,rfl⟩,jah _⟩
 unfold klu
 split
 ·rename_i u q hq
  split
  ·rename_i T t ht
   split
   ·rename_i hc
    simp only [jac] at hc
    obtain ⟨hn,hd⟩:=hc
    obtain rfl:=kaK hn
    cases hv
    have R':=R.new (h':=h) (n':=n) (.sl T t []) none 0 (fun q B hq=>hq) (jah _) (fun q hq=>by cases hq) R.hn (.sl0 T t [] hd updK_self rfl updK_self)
    exact ⟨_,_,R',.mw0 s.n (jbk _) updK_self,fun id hi=>⟨kau hi,kau hi⟩,jbw _⟩
   ·exact same
  ·exact same
 ·exact same
theorem kmA {p:Pat}:∀ {vs:List (TV sem)} {as:List AV} {i:Nat} {κ:Nat->Option Nat} {ln:Nat->Nat} {s:TS sem},Rel P κ ln z c s env h n->TVRs P κ ln z s.n vs as->
  ∃ κ' ln',Rel P κ' ln' z c (kju (A:=sem) p vs i s).2 env h n/\TVRs P κ' ln' z (kju (A:=sem) p vs i s).2.n (kju (A:=sem) p vs i s).1 as/\(∀ id,id<s.n->κ' id = κ id/\ln' id=ln id)/\s.n<=(kju (A:=sem) p vs i s).2.n
 | [],_,i,κ,ln,s,R,.nil=>⟨κ,ln,R,.nil,fun _ _=>⟨rfl,rfl⟩,jah _⟩
 | v::vs,_,i,κ,ln,s,R,.cons _ a _ as hv hs=>by
  obtain ⟨κ1,ln1,R1,hv1,k1,n1⟩:=ksB (p:=p) (i:=i) R hv
  have hs1:=hs.mono (fun id hi=>(k1 id hi).1) (fun id hi=>(k1 id hi).2) (fun _ _ h=>h) n1
  obtain ⟨κ2,ln2,R2,hs2,k2,n2⟩:=kmA (p:=p) (i:=i+1) R1 hs1
  exact ⟨κ2,ln2,R2,.cons _ _ _ _ (hv1.mono (fun id hi=>(k2 id hi).1) (fun id hi=>(k2 id hi).2) (fun _ _ h=>h) n2) hs2,fun id hi=>⟨((k2 id (by omega)).1).trans (k1 id hi).1,((k2 id (by omega)).2).trans (k1 id hi).2⟩,jcy n1 n2⟩
def nilB (ne:Bool) (e:Option Bool) (b:Bool):Prop:=
 match e with
 | some e=>e=false->b=ne
 | none=>b = !ne
theorem kyk {P:Program} {h:AH} {op:BinOp} {T:TypeId} {a:AV} {e:Option Bool} (hT:(elemO P T).isSome=true) (ho:op = .eql\/op = .neq) (F:AV->Prop)
  (hv:∀ (w:World) (O:Nat->Prop) (μ:Mu) (n:Nat) (u:Value),HR w O μ h n->VR w O μ n a u->∃ p l c,u = .slice p l c/\nilB false e p.isNone)
  (hF:∀ b,nilB (op == .neq) e b->F (.sc (.bool b))) (hd:∀ k x,a≠.sc (.int k x)) (hs:∀ x,a≠.sc (.string x)) (hb:∀ x,a≠.sc (.bool x)):abin P h op T a (.sc (.slice none 0 0)) F:=by
 obtain ⟨E,hE⟩:=jao.1 hT
 have hU:=kca hE
 have hc:=kxL (S:=nilB false e) hU hv
 have:∃ S,Cmp P h op T a (.sc (.slice none 0 0)) S/\∀ b,S b->F (.sc (.bool b)):=by
  rcases ho with rfl | rfl
  ·exact ⟨_,hc.1,fun b hb=>hF b hb⟩
  ·refine ⟨_,hc.2,fun b hb=>hF b ?_⟩
   cases e <;> simp [nilB] at hb ⊢
   ·exact hb
   ·intro h1; have:=hb h1; cases b <;> simp at this ⊢
 unfold abin
 split
 ·rename_i h1 h2; cases h2
 ·rename_i h1 h2; cases h2
 ·rename_i h1 h2; cases h2
 ·exact this
theorem klH (R:Rel P κ ln z c s env h n) {o:Oper} {ne:Bool} {e:Option Bool} (hn:nilC (A:=sem) P c s o=some (ne,e)) {K:K3} (hK:∀ b,nilB ne e b->K (.sc (.bool b)) h n):aop P env h n o K:=by
 obtain ⟨d,op,ty,pos,after,g⟩:=o
 unfold nilC at hn
 split at hn
 ·rename_i bop T x v T2 hop
  simp only at hop; subst hop
  split at hn
  ·rename_i hcond
   simp only [jac,jav,beq_iff_eq] at hcond
   obtain ⟨⟨hv,hT⟩,hbop⟩:=hcond
   have hv:=kaK hv
   subst hv
   have hx:=R.ev x
   have ms:∀ {q off len:Nat} {k:Nat} {T':TypeId} {es:List (List AV)} {e:Option Bool},(e≠none)->h q=some (.cells k T' es)->∀ (w:World) (O:Nat->Prop) (μ:Mu) (n:Nat) (u:Value),HR w O μ h n->VR w O μ n (.ms q off len) u->∃ p l c,u = .slice p l c/\nilB false e p.isNone:=by
    intro q off len k T' es e he hq w O μ n u hr hu
    obtain ⟨b,cc,h1,h2,h3⟩:=hr.own_cells hq
    cases hu with
    | ms _ _ _ _ hlt h1' hv=>
     obtain ⟨o,cap,c,T,rfl,_⟩:=hv b k h1
     refine ⟨_,_,_,rfl,?_⟩
     cases e with
     | none=>exact absurd rfl he
     | some e=>intro _; rfl
   have nl:∀ {e:Option Bool},(e=none\/e=some true)->∀ (w:World) (O:Nat->Prop) (μ:Mu) (n:Nat) (u:Value),HR w O μ h n->VR w O μ n Abs.nilS u->∃ p l c,u = .slice p l c/\nilB false e p.isNone:=by
    intro e he w O μ n u hr hu
    refine ⟨none,0,0,hu.sc_inv,?_⟩
    rcases he with rfl | rfl
    ·rfl
    ·intro h; cases h
   have fin:∀ {a:AV} {e:Option Bool},ev env x=a->(∀ b,nilB (bop == .neq) e b->K (.sc (.bool b)) h n)->(∀ (w:World) (O:Nat->Prop) (μ:Mu) (n:Nat) (u:Value),HR w O μ h n->VR w O μ n a u->∃ p l c,u = .slice p l c/\nilB false e p.isNone)->(∀ k x,a≠.sc (.int k x))->(∀ x,a≠.sc (.string x))->(∀ x,a≠.sc (.bool x))->
     aop P env h n ⟨d,.binOp bop T x (.const (.slice none 0 0)) T2,ty,pos,after,g⟩ K:=by
    intro a e ha hK hv h1 h2 h3
    simp only [aop,ha]
    exact kyk hT hbop _ hv hK h1 h2 h3
   generalize htx:tev c s x=tv at hn hx
   split at hn
   ·rename_i t l
    cases hn
    cases hx with
    | c _ _ a hd hs=>
     replace hs:Snap z _ (.sl (l.map t.enc)):=hs
     rcases hs.sl_inv with ⟨es,ha,h1⟩ | ⟨ha,h1⟩ | ⟨id,off,len,k,T',es,ha,h1,h2,h3⟩
     ·refine fin ha hK (fun w O μ n u hr hu=>?_) (by intros; simp) (by intros; simp) (by intros; simp)
      obtain ⟨p,l',c',rfl,hp⟩:=kyV hu
      refine ⟨_,_,_,rfl,fun hl=>hp ?_⟩
      have:=h1.1
      rw [jar] at this
      intro he; subst he
      have:l=[]:=jbp (by simpa using this)
      subst this; simp [isE] at hl
     ·simp only [jdl] at h1; subst h1
      exact fin ha hK (nl (.inr rfl)) (by intros; simp [Abs.nilS]) (by intros; simp [Abs.nilS]) (by intros; simp [Abs.nilS])
     ·exact fin ha hK (ms (by simp) (R.zin _ _ h1)) (by intros; simp) (by intros; simp) (by intros; simp)
   ·rename_i id
    split at hn
    ·rename_i T' t l hb
     cases hn
     have hB:=R.blk _ _ hb
     generalize hax:ev env x=a at hx
     cases hx with
     | mw0 _ hN hκ=>
      cases hB with
      | sl0 _ _ _ hd hq hl hn=>subst hl; exact fin hax hK (nl (.inr rfl)) (by intros; simp [Abs.nilS]) (by intros; simp [Abs.nilS]) (by intros; simp [Abs.nilS])
      | sl _ _ _ q es hd hq=>rw [hκ] at hq; cases hq
     | mw _ q hN hκ=>
      cases hB with
      | sl0 _ _ _ hd hq hl hn=>rw [hκ] at hq; cases hq
      | sl _ _ _ q' es hd hq hh=>rw [hκ] at hq; cases hq; exact fin hax hK (ms (by simp) hh) (by intros; simp) (by intros; simp) (by intros; simp)
    ·cases hn
   ·rename_i u
    split at hn
    ·rename_i hu
     cases hn
     have hu:=kaK hu
     subst hu
     generalize hax:ev env x=a at hx
     cases hx with
     | sc _ h1=>exact fin hax hK (nl (.inl rfl)) (by intros; simp) (by intros; simp) (by intros; simp)
    ·cases hn
   ·cases hn
  ·cases hn
 ·cases hn
theorem ksc:∀ {l:List (sem.Ans ρ)},altL (A:=sem) l=some r->∃ x∈l,x=some r
 | [],h=>by cases h
 | [x],h=>⟨x,by simp,h⟩
 | x::y::l,h=>by
  rcases kxh h with h | h
  ·exact ⟨x,by simp,h⟩
  ·obtain ⟨z,hz,e⟩:=ksc h
   exact ⟨z,by simp only [jbu] at hz ⊢; exact .inr hz,e⟩
theorem kwq {Δ:List (FuncId×Ctr)} (hΔ:Goods P Δ) (R:Rel P κ ln z c s env h n) (o:Oper) (hk:xopM P c Δ s o Kf=some r) {K:K3}
  (hK:∀ tv s' v h' n' κ' ln' z',Kf tv s'=some r->Ke c s.n κ ln κ' ln'->s.n<=s'.n->Rel P κ' ln' z' c s' env h' n'->TVR P κ' ln' z' s'.n tv v->K v h' n'):aop P env h n o K:=by
 unfold xopM at hk
 split at hk
 ·rename_i M args hu
  obtain ⟨d,op,ty,pos,after,g⟩:=o
  unfold useM at hu
  simp only at hu
  split at hu
  ·rename_i l
   split at hu
   ·rename_i f hf
    split at hu
    ·rename_i gg caps hfe
     split at hu
     ·rename_i C hC
      obtain ⟨M',hM,he⟩:=jab.1 hu
      cases he
      have hargs:TVRs P κ ln z s.n (l.args.toList.map (tev c s)) (l.args.toList.map (ev env)):=by
       generalize l.args.toList=xs
       induction xs with
       | nil=>exact .nil
       | cons x xs ih=>exact .cons _ _ _ _ (R.ev x) ih
      have hff:=R.ev f
      rw [hfe] at hff
      obtain ⟨as,hfa,hcaps⟩:=hff.fn_inv
      have one:∀ M∈C.mus,kjJ c Δ s M (l.args.toList.map (tev c s)++caps) Kf=some r->aop P env h n ⟨d,.call l,ty,pos,after,g⟩ K:=fun M hM hk=>by
       have hG:=(hΔ.at hC).2.2.1 M hM
       exact khh hf hfa rfl (kjI hΔ hG.1 hG.2 R (hargs.append hcaps) hk fun tv s' v h' n' κ' ln' h1 h2 h3 h4 h5 _=>hK tv s' v h' n' κ' ln' ahN h1 h2 h3 h4 h5)
      split at hk
      ·exact one M (kkr hM) hk
      ·obtain ⟨x,hx,e⟩:=ksc hk
       obtain ⟨M2,hM2,rfl⟩:=jay.1 hx
       unfold altsM at hM2
       simp only [hf,hfe,hC] at hM2
       exact one M2 (jeb.1 hM2).1 e
     ·cases hu
    ·cases hu
   ·cases hu
  ·cases hu
 ·rename_i hnone
  clear hnone
  split at hk
  ·rename_i M args s1 hu
   obtain ⟨d,op,ty,pos,after,g⟩:=o
   unfold useN at hu
   simp only at hu
   split at hu
   ·rename_i l
    split at hu
    ·rename_i f hf
     split at hu
     ·rename_i gg caps hfe
      split at hu
      ·rename_i C hC
       obtain ⟨M0,hM0,he⟩:=List.exists_of_findSome?_eq_some hu
       obtain ⟨M',hM,he⟩:=jab.1 he
       have hmem:M'=M0:=by simpa using kkr hM
       rw [hmem] at he
       cases he
       have hG:=(hΔ.at hC).2.2.1 M hM0
       have hargs:TVRs P κ ln z s.n (l.args.toList.map (tev c s)) (l.args.toList.map (ev env)):=by
        generalize l.args.toList=xs
        induction xs with
        | nil=>exact .nil
        | cons x xs ih=>exact .cons _ _ _ _ (R.ev x) ih
       have hff:=R.ev f
       rw [hfe] at hff
       obtain ⟨as,hfa,hcaps⟩:=hff.fn_inv
       obtain ⟨κ1,ln1,R1,ha1,k1,n1⟩:=kmA (p:=M.inp) (i:=0) R (hargs.append hcaps)
       have ke1:Ke c s.n κ ln κ1 ln1:=fun id hi=>⟨(k1 id hi).1,fun _=>(k1 id hi).2⟩
       exact khh hf hfa rfl (kjI hΔ hG.1 hG.2 R1 ha1 hk fun tv s' v h' n' κ' ln' h1 h2 h3 h4 h5 _=>hK tv s' v h' n' κ' ln' ahN h1 (ke1.trans h2 n1) (jcy n1 h3) h4 h5)
      ·cases hu
     ·cases hu
    ·cases hu
   ·cases hu
  ·split at hk
   ·rename_i ne e hn
    rcases kcr hk with ⟨he,hk⟩ | ⟨he,hk⟩
    ·obtain ⟨k1,k2⟩:=ksa hk
     refine klH R hn fun b hb=>?_
     cases b
     ·exact hK _ s _ h n κ ln z k2 .refl (jah _) R (.kb false)
     ·exact hK _ s _ h n κ ln z k1 .refl (jah _) R (.kb true)
    ·refine klH R hn fun b hb=>?_
     obtain rfl:=hb (by simpa using he)
     exact hK _ s _ h n κ ln z hk .refl (jah _) R (.kb _)
   ·rename_i ne hn
    refine klH R hn fun b hb=>?_
    subst hb
    exact hK _ s _ h n κ ln z hk .refl (jah _) R (.kb _)
   ·obtain ⟨tv,s',v,h',n',κ',ln',z',g1,g2,g3,g4,g6,g7,_⟩:=kfC hΔ R o hk
    exact g1 _ (hK tv s' v h' n' κ' ln' z' g2 g7 g6 g3 g4)
theorem Rel.putT (R:Rel P κ ln z c s env h n) {v:TV sem} {a:AV} (hv:TVR P κ ln z s.n v a) (d:Option Tmp) (hd:∀ x,d=some x->alk c.e0 x=none):Rel P κ ln z c (Abs.putT s d v) (putE env d a) h n:=by
 cases d with
 | none=>exact R
 | some d=>
  refine ⟨fun x=>?_,R.blk,R.lt,R.inj,R.zin,R.zout,R.bnd,R.hn,fun x v' hx=>?_,R.g,R.dy,R.zk,R.fam⟩
  ·show TVR P κ ln z s.n (tlk c { s with env:=(d,v)::s.env } x) (if x=d then a else lk env x)
   unfold tlk
   simp only [alk]
   by_cases hxd:x=d
   ·rw [if_pos hxd,if_pos hxd]; exact hv
   ·rw [if_neg hxd,if_neg hxd]; exact R.env x
  ·simp only [Abs.putT,alk] at hx
   split at hx
   ·rename_i e; subst e; exact hd _ rfl
   ·exact R.e0 x v' hx
theorem ksW {ds:List (Option Tmp)} (h:okD c ds=true) {j:Nat} {x:Tmp} (hj:kbd ds j=some x):alk c.e0 x=none:=by
 unfold kbd at hj
 cases hd:ds[j]? with
 | none=>rw [hd] at hj; cases hj
 | some d=>
  rw [hd] at hj
  simp only [jal,id] at hj
  subst hj
  have:=jam.1 h _ (jag hd)
  simpa using this
theorem kvd {ds:List (Option Tmp)} (h:okD c ds=true) {d:Option Tmp} (hd:d∈ds):∀ x,d=some x->alk c.e0 x=none:=fun x hx=>by
 subst hx
 have:=jam.1 h _ hd
 simpa using this
theorem Rel.again {env':Env} (R:Rel P κ ln z c s env h n) (he:∀ x,lk env' x=lk env x):Rel P κ ln z c s env' h n:=
 ⟨fun x=>by rw [he]; exact R.env x,R.blk,R.lt,R.inj,R.zin,R.zout,R.bnd,R.hn,R.e0,R.g,R.dy,R.zk,R.fam⟩
theorem Rel.know (R:Rel P κ ln z c s env h n) {d:Tmp} {v:TV sem} {a:AV} (hv:TVR P κ ln z s.n v a) (hd:alk c.e0 d=none):Rel P κ ln z c { s with env:=(d,v)::s.env } ((d,a)::env) h n:=
 R.putT hv (some d) fun x hx=>by cases hx; exact hd
theorem kdb {d:Option Tmp} {v:TV sem}:(Abs.putT s d v).n=s.n:=by cases d <;> rfl
theorem kcD {Δ:List (FuncId×Ctr)} (hΔ:Goods P Δ) {ds:List (Option Tmp)} (hds:okD c ds=true) {Kf:TS sem->sem.Ans ρ} {K:St->Prop} {N0:Nat} {κ0:Nat->Option Nat} {ln0:Nat->Nat} (hK:∀ κ ln z s' env' h' n',Ke c N0 κ0 ln0 κ ln->Rel P κ ln z c s' env' h' n'->Kf s'=some r->K ⟨env',h',n'⟩) :
  ∀ (l:List Oper) {κ:Nat->Option Nat} {ln:Nat->Nat} {z:AH} {s:TS sem} {env:Env} {h:AH} {n:Nat},Ke c N0 κ0 ln0 κ ln->N0<=s.n->(∀ o∈l,o.dst∈ds)->Rel P κ ln z c s env h n->xops P c Δ ds l s Kf=some r->aops P ds l ⟨env,h,n⟩ K
 | [],κ,ln,z,s,env,h,n,ke,kn,_,R,hk=>hK _ _ _ _ _ _ _ ke R hk
 | o::l,κ,ln,z,s,env,h,n,ke,kn,hl,R,hk=>by
  have hl':∀ o∈l,o.dst∈ds:=fun o ho=>hl o (jbb _ ho)
  have hod:=kvd hds (hl o (jdb ..))
  have one:∀ {κ:Nat->Option Nat} {ln:Nat->Nat} {z:AH} {s:TS sem} {env:Env} {h:AH} {n:Nat},Ke c N0 κ0 ln0 κ ln->N0<=s.n->Rel P κ ln z c s env h n->(xopM P c Δ s o fun v s'=>xops P c Δ ds l (putT s' o.dst v) Kf)=some r->aop P env h n o fun v h n=>aops P ds l ⟨putE env o.dst v,h,n⟩ K:=fun {κ ln z s env h n} ke kn R hk=>by
   exact kwq hΔ R o hk fun tv s' v h' n' κ' ln' z' g2 g6 g7 g3 g4=>kcD hΔ hds hK l (ke.trans g6 kn) (by rw [kdb]; omega) hl' (g3.putT g4 o.dst hod) g2
  simp only [xops] at hk
  simp only [aops]
  cases hg:o.guard with
  | none=>
   rw [hg] at hk
   exact one ke kn R hk
  | some jw=>
   obtain ⟨j,want⟩:=jw
   rw [hg] at hk
   simp only at hk ⊢
   cases hs:kbd ds j with
   | none=>rw [hs] at hk; exact kaa hk
   | some d=>
    rw [hs] at hk
    simp only at hk ⊢
    have hde:=ksW hds hs
    have hv:=R.env d
    generalize htl:tlk c s d=tv at hv hk
    generalize hlk:lk env d=a at hv
    cases hv <;> first | exact kaa hk | skip
    ·
     exact kcD hΔ hds hK l ke (by rw [kdb]; exact kn) hl' (R.putT .ud o.dst hod) hk
    ·
     rename_i t x hd hs2
     cases t <;> first | exact kaa hk | skip
     obtain rfl:=hs2.sc_inv
     have k1:∀ w:Bool,x=w->Rel P κ ln z c { s with env:=(d,.kb w)::s.env } ((d,.sc (.bool w))::env) h n:=fun w hw=>R.know (.kb w) hde
     dsimp only at hk
     cases want
     ·dsimp only at hk
      rcases kcr hk with ⟨hb,hk⟩ | ⟨hb,hk⟩
      ·refine ⟨fun e=>?_,fun _=>?_⟩
       ·exact absurd (hb.symm.trans e) (by decide)
       ·exact kcD hΔ hds hK l ke (by rw [kdb]; exact kn) hl' ((k1 true hb).putT .ud o.dst hod) hk
      ·refine ⟨fun _=>?_,fun e=>?_⟩
       ·exact one ke (by exact kn) (k1 false hb) hk
       ·exact absurd (hb.symm.trans e) (by decide)
     ·dsimp only at hk
      rcases kcr hk with ⟨hb,hk⟩ | ⟨hb,hk⟩
      ·refine ⟨fun _=>?_,fun e=>?_⟩
       ·exact one ke (by exact kn) (k1 true hb) hk
       ·exact absurd (hb.symm.trans e) (by decide)
      ·refine ⟨fun e=>?_,fun _=>?_⟩
       ·exact absurd (hb.symm.trans e) (by decide)
       ·exact kcD hΔ hds hK l ke (by rw [kdb]; exact kn) hl' ((k1 false hb).putT .ud o.dst hod) hk
    ·
     rename_i b
     dsimp only at hk
     have ag:Rel P κ ln z c s ((d,.sc (.bool b))::env) h n:=R.again fun x=>by
      show (if x=d then _ else lk env x)=_
      split
      ·rename_i e; rw [e,hlk]
      ·rfl
     split at hk
     ·rename_i hbw
      have hbw:=eq_of_beq hbw
      subst hbw
      refine ⟨fun _=>one ke (by exact kn) ag hk,fun e=>?_⟩
      cases b <;> cases e
     ·rename_i hbw
      refine ⟨fun e=>by rw [e] at hbw; simp at hbw,fun e=>?_⟩
      rw [<-e]
      exact kcD hΔ hds hK l ke (by rw [kdb]; exact kn) hl' (ag.putT .ud o.dst hod) hk
end
section
variable {P:Program} {κ κ' κ0:Nat->Option Nat} {ln ln':Nat->Nat} {z z':AH} {c:Cx sem} {s:TS sem} {env:Env} {h h' hs:AH} {n n':Nat}
variable {ρ:Ty} {r:ρ.den} {o:Oper} {wc:List Nat} {rd:List (Nat×Nat)} {b1 b2:List Nat} {tr:List Rec} {j:Nat} {next:St->List Rec->Prop}
theorem klN (hc:cls o=1\/cls o=2):calm o=true:=by
 obtain ⟨dst,op,ty,pos,after,g⟩:=o
 cases op <;> simp only [cls] at hc <;> try (first | rfl | (exfalso; rcases hc with h | h <;> cases h; done))
 case call l=>
  obtain ⟨callee,args,ts⟩:=l
  cases callee with
  | builtin b=>cases b <;> first | rfl | (exfalso; rcases hc with h | h <;> cases h)
  | value _=>exfalso; rcases hc with h | h <;> cases h
  | invoke _ _=>exfalso; rcases hc with h | h <;> cases h
theorem kjY {Δ:List (FuncId×Ctr)} (hΔ:Goods P Δ) (R:Rel P κ ln z c s env h n) {dst:Option Tmp} {ty:TypeId} {pos:String} {after:Array Edge} {g:Option (Nat×Bool)} {l:Call} {f:Operand} (hc:l.callee = .value f) {Kf:TV sem->sem.Ans ρ} (hk:kjS c Δ s (tev c s f) (l.args.toList.map (tev c s)) Kf=some r) :
  ∃ tv v,(∀ h1 n1 (K:K3),(∀ q B,h q=some B->h1 q=some B)->K v h1 n1->aop P env h1 n1 ⟨dst,.call l,ty,pos,after,g⟩ K)/\Kf tv=some r/\TVR P κ ln z s.n tv v:=by
 have hf:=R.ev f
 have hargs:TVRs P κ ln z s.n (l.args.toList.map (tev c s)) (l.args.toList.map (ev env)):=by
  generalize l.args.toList=as
  induction as with
  | nil=>exact .nil
  | cons x as ih=>exact .cons _ _ _ _ (R.ev x) ih
 unfold kjS at hk
 split at hk
 ·rename_i gg caps he
  rw [he] at hf
  obtain ⟨as,hfa,hcaps⟩:=hf.fn_inv
  split at hk
  ·exact kaa hk
  ·rename_i C hC
   have hG:=hΔ.at hC
   split at hk
   ·exact kaa hk
   ·rename_i la ids hla
    obtain ⟨as',g1,g2,g3⟩:=kfx hΔ R _ _ _ (hargs.append hcaps) hla
    split at hk
    ·exact kaa hk
    ·rename_i a ha
     have hAR:=kiF _ _ _ _ g1 ha
     split at hk
     ·rename_i hcond
      simp only [jaa] at hk
      obtain ⟨y,hy,hk⟩:=hk
      refine ⟨_,_,fun h1 n1 K hh hK=>?_,hk,kmO C.rs y hG.1⟩
      by_cases hflat:C.rs.all Ty.flat=true
      ·exact khh hc hfa rfl (PC.lend1 (g2.mono fun q B hq=>hh q B (kea R.zin q B hq)) (hG.2.1 a y hy _ hAR) (ksJ _ _ hflat) hK)
      ·rw [jch] at hflat
       rw [hflat,jdk,jac,jcp,jbi] at hcond
       obtain ⟨rfl,hdy⟩:=hcond
       rw [kbe] at g2
       have hz0:=R.dy hdy
       exact khh hc hfa rfl (PC.eat (hE:=z) (h':=h1) [] (fun i B hi=>by rw [hz0] at hi; cases hi) (fun i B hi=>⟨rfl,hi⟩) g2 (hG.2.1 a y hy _ hAR) hK)
     ·exact kaa hk
 ·rename_i m x y F he
  rw [he] at hf
  split at hk
  ·rename_i hx
   split at hk
   ·exact kaa hk
   ·rename_i la ids hla
    obtain ⟨as',g1,g2,g3,g4,g5⟩:=kgA R _ _ _ hargs hla
    split at hk
    ·exact kaa hk
    ·rename_i a ha
     split at hk
     ·rename_i hflat
      simp only [jaa] at hk
      obtain ⟨w,hw,hk⟩:=hk
      generalize hfe:ev env f=fa at hf
      cases hf with
      | cv _ _ _ _ _ hcv=>
       obtain ⟨gg,as,rfl,hfree,hul,hud,hyd,hpc⟩:=hcv
       have hAR:=knw hud (kiF _ _ _ _ g1 ha)
       have hp:=hpc _ w hw
       rw [kma m (untup m x) x hx a hul,<-hAR] at hp
       refine ⟨_,_,fun h1 n1 K hh hK=>?_,hk,.free hyd⟩
       exact khh hc hfe rfl (PC.lend1 ((g2.append (SnapL.free hfree)).mono fun q B hq=>hh q B (kea R.zin q B hq)) hp (khZ _ _ hflat) hK)
     ·exact kaa hk
  ·exact kaa hk
 ·exact kaa hk
theorem kyS {v:TV sem} {a:AV} {i:Nat} {N:Nat} (hv:TVR P κ ln z N v a) (ht:tid v=some i):∀ q,avId a=some q->κ i=some q\/(isRow v=true/\q∈kam (ln i)):=by
 intro q hq
 cases hv <;> simp only [tid,Option.some.injEq,reduceCtorEq] at ht <;> subst ht <;> simp only [avId,nilS,Option.some.injEq,reduceCtorEq] at hq <;> subst hq <;> first | (left; assumption) | (right; exact ⟨rfl,kay (by assumption)⟩)
end
section
variable {P:Program} {κ0:Nat->Option Nat} {c:Cx sem} {hs:AH}
variable {ρ:Ty} {r:ρ.den} {wc:List Nat} {rd:List (Nat×Nat)} {b1 b2:List Nat}
variable {N:Nat} {D:DX} {O:Nat->Prop} {Q:Exit->St->Prop}
end
theorem kqV {α:Type} {f:α->α->Bool}:∀ (x y:List α),x.length=y.length->(∀ a∈x,∀ b,f a b=true->a=b)->((x.zip y).all fun p=>f p.1 p.2)=true->x=y
 | [],[],_,_,_=>rfl
 | [],_::_,h,_,_=>by simp at h
 | _::_,[],h,_,_=>by simp at h
 | a::x,b::y,h,hf,ha=>by
  simp only [List.zip_cons_cons,jdy,jac] at ha
  rw [hf a (by simp) b ha.1,kqV x y (by simpa using h) (fun a h=>hf a (jbb _ h)) ha.2]
theorem Ty.beq_eq:∀ (t:Ty) (x y:t.den),t.beq x y=true->x=y
 | .i _,x,y,h=>by simpa [Ty.beq] using h
 | .b,x,y,h=>by simpa [Ty.beq] using h
 | .s,x,y,h=>by simpa [Ty.beq] using h
 | .un,_,_,_=>rfl
 | .nt,_,_,h=>by simp [Ty.beq] at h
 | .pr u v,x,y,h=>by
  simp only [Ty.beq,jac] at h
  exact Prod.ext (Ty.beq_eq u _ _ h.1) (Ty.beq_eq v _ _ h.2)
 | .w a,x,y,h=>Ty.beq_eq a x y h
 | .pt a,x,y,h=>Ty.beq_eq a x y h
 | .sl a,x,y,h=>by
  simp only [Ty.beq,jac,jai] at h
  exact kqV (α:=a.den) x y h.1 (fun p _ q=>Ty.beq_eq a p q) h.2
 | .op a,x,y,h=>by
  simp only [Ty.beq] at h
  cases x with
  | none=>cases y with
   | none=>rfl
   | some y=>cases h
  | some x=>cases y with
   | none=>cases h
   | some y=>rw [Ty.beq_eq a x y h]
 | .ar n a,x,y,h=>by
  simp only [Ty.beq] at h
  have:=kqV (α:=a.den) x.l y.l (by rw [x.h,y.h]) (fun p _ q=>Ty.beq_eq a p q) h
  cases x; cases y; simp only at this; subst this; rfl
 | .sm _ _,_,_,h=>by simp [Ty.beq] at h
 | .fn _ _ _,_,_,h=>by simp [Ty.beq] at h
theorem kxU {t:Ty} {xs ys ys2:List t.den} {e:t.den} (h:gpre t (some xs) ys e=some ys2):xs[ys.length]?=some e/\ys2=ys++[e]:=by
 unfold gpre at h
 simp only at h
 split at h
 ·rename_i x hx
  split at h
  ·rename_i hb
   cases h
   rw [Ty.beq_eq t x e hb] at hx
   exact ⟨hx,rfl⟩
  ·cases h
 ·cases h
section
variable {P:Program} {κ:Nat->Option Nat} {ln:Nat->Nat} {z:AH} {c:Cx sem} {s:TS sem} {env:Env} {h:AH} {n N:Nat} {ρ:Ty}
mutual
theorem kqh:∀ {v:TV sem} {a:AV},TVR P κ ln ahN N v a->v.solid=true->Free a
 | _,_,.c t x a hd hs,_=>hs.freeN
 | _,_,.kb b,_=>.sc _
 | _,_,.sc v h1,_=>.sc _
 | _,_,.fq t x o a hd hs,_=>hs.freeN
 | _,_,.cv n x y F a hc,_=>by
  obtain ⟨g,as,rfl,hf,_⟩:=hc
  exact (kgX g as).2 hf
 | _,_,.fn g vs as hs,hp=>(kgX g as).2 (kio hs (by simpa [TV.solid] using hp))
 | _,_,.tp vs as hs,hp=>(kve as).2 (kio hs (by simpa [TV.solid] using hp))
 | _,_,.ag vs as hs h1,hp=>(knS as).2 (kio hs (by simpa [TV.solid] using hp))
 | _,_,.un _,hp | _,_,.ud,hp | _,_,.gs _ _,hp | _,_,.yl ..,hp | _,_,.kp ..,hp | _,_,.ptr ..,hp | _,_,.adr ..,hp | _,_,.aa ..,hp | _,_,.mw0 ..,hp | _,_,.mw ..,hp | _,_,.ms0 ..,hp | _,_,.ms ..,hp | _,_,.mp ..,hp | _,_,.fw0 ..,hp | _,_,.fw ..,hp | _,_,.fr0 ..,hp | _,_,.fr ..,hp | _,_,.fo ..,hp | _,_,.fa ..,hp=>by simp [TV.solid] at hp
theorem kio:∀ {vs:List (TV sem)} {as:List AV},TVRs P κ ln ahN N vs as->TV.solidL vs=true->FreeL as
 | _,_,.nil,_=>FreeL.nil
 | _,_,.cons v a vs as hv hs,hp=>by
  simp only [TV.solidL,jac] at hp
  exact FreeL.cons (kqh hv hp.1) (kio hs hp.2)
end
def stays (v:TV sem):Bool:=match v with | .ud=>true | .yl _=>true | v=>v.solid
theorem kpX {v:TV sem} (hp:v.pure=true) (hs:¬ stays v=true):v = .un:=by
 cases v with
 | un=>rfl
 | ud=>exact absurd rfl hs
 | yl id=>exact absurd rfl hs
 | _=>exact absurd hp hs
theorem kwd {v:TV sem} {a:AV} (hv:TVR P κ ln ahN N v a) (hs:stays v=true):Free a:=by
 unfold stays at hs
 split at hs
 ·cases hv; exact .ud
 ·cases hv; exact .sc _
 ·exact kqh hv hs
theorem kiv {α β:Type} (f:α->β):∀ (l:List (Nat×α)) (x:Nat),alk (l.map fun p=>(p.1,f p.2)) x=(alk l x).map f
 | [],x=>rfl
 | (k,v)::l,x=>by
  simp only [jap,alk]
  split
  ·rfl
  ·exact kiv f l x
theorem ktP:∀ (env:Env) (x:Nat),(env.map (·.1)).contains x=false->lk env x = .un
 | [],x,_=>rfl
 | (k,v)::env,x,h=>by
  simp only [jap,List.contains_cons,jdg] at h
  simp only [lk]
  rw [if_neg (by simpa using h.1)]
  exact ktP env x h.2
theorem kta {G:IterG} {Δ:List (FuncId×Ctr)} (hI:∀ nm ts F,(alk Δ IM).bind (fun C=>C.its.head?)=some ⟨nm,[.nt],ts,F⟩->∃ xs,F (0:Nat)=some xs/\G.xs=xs.map (avsL ts)) (W:CxWf c) (R:Rel P κ ln z c s env h n) (hκ:κ 0=some G.l)
  {y:Oper} (hdst:∀ d,y.dst=some d->alk c.e0 d=none) {ds:List (Option Tmp)} {l2:List Oper} {Qn:St->Prop} {Kf:TS sem->Option Unit} {K:TS sem->sem.Ans ρ} {w:ρ.den} (hk:kqb (A:=sem) c Δ s y Kf K=some w)
  (hT:∀ s2 env2,Rel P κ ln ahN c s2 env2 ah0 n->s2.n=s.n->K s2=some w->aops P ds l2 ⟨env2,ah0,n⟩ Qn)
  (hF:∀ s2 env2 w0,Rel P κ ln ahN c s2 env2 ah0 n->s2.n=s.n->Kf s2=some w0->aops P ds l2 ⟨env2,ah0,n⟩ Qn):YieldK P G ds y l2 Qn ⟨env,h,n⟩:=by
 unfold kqb at hk
 split at hk
 rotate_left
 ·exact kaa hk
 rename_i cl nm ts F hop hIM
 obtain ⟨xs,hF0,hGx⟩:=hI nm ts F hIM
 split at hk
 rotate_left
 ·exact kaa hk
 rename_i f hcl
 split at hk
 rotate_left
 ·exact kaa hk
 rename_i id t ys hf hgs
 split at hk
 rotate_left
 ·exact kaa hk
 rename_i ys' l ids hys hl
 split at hk
 ·exact kaa hk
 rename_i hcond
 simp only [jav,jbi,not_or,jch,Bool.not_eq_false',bne_iff_ne,ne_eq,Decidable.not_not,beq_iff_eq,Bool.not_eq_false] at hcond
 obtain ⟨⟨⟨⟨⟨⟨hid,hdy⟩,hg⟩,he0⟩,hts⟩,hgd⟩,hds⟩:=hcond
 subst hid
 split at hk
 rotate_left
 ·exact kaa hk
 rename_i e he
 obtain ⟨ys2,hpre,hk⟩:=jaa.1 hk
 obtain ⟨w0,hw0,hk⟩:=jaa.1 hk
 rw [hF0] at hpre
 obtain ⟨hx,rfl⟩:=kxU hpre
 obtain ⟨ee,rfl⟩:=kai hys
 cases ee
 have hz0:z=ahN:=R.dy (by simpa using hdy)
 subst hz0
 have hgn:y.guard=none:=by simpa using hgd
 have hfe:=R.ev f
 rw [hf] at hfe
 have hfe2:ev env f = .sc (.func (.yield G.l) #[] #[]):=by
  generalize ev env f=a at hfe
  cases hfe with
  | yl _ q hN hq=>rw [hκ] at hq; cases hq; rfl
 have htG:tlk c s GS = .gs (tup ts) ys:=by unfold tlk; rw [hgs]
 have hGe:=R.env GS
 rw [htG] at hGe
 have hGe2:lk env GS = .gs (ys.map (tup ts).enc):=by
  generalize lk env GS=a at hGe
  cases hGe; rfl
 have hargs:TVRs P κ ln ahN s.n (cl.args.toList.map (tev c s)) (cl.args.toList.map (ev env)):=by
  generalize cl.args.toList=xs
  induction xs with
  | nil=>exact .nil
  | cons x xs ih=>exact .cons _ _ _ _ (R.ev x) ih
 obtain ⟨as',g1,g2,_⟩:=kgA R _ _ _ hargs hl
 have has:as'=avsL ts e:=knw hts (kiF ts l as' e g1 he)
 subst has
 let g:Nat->AV:=fun k=>if stays (tlk c s k)=true then lk env k else .un
 let E:Env:=(env.map (·.1)).map fun k=>(k,g k)
 have hE:∀ x,lk E x=if stays (tlk c s x)=true then lk env x else .un:=fun x=>by
  show lk ((env.map (·.1)).map fun k=>(k,g k)) x=_
  rw [kql]
  split
  ·rfl
  ·rename_i hc
   rw [ktP env x (by simpa using hc)]; simp
 have rel:∀ (b:Bool) (gt:TV sem) (ga:AV),TVR P κ ln ahN s.n gt ga->Rel P κ ln ahN c (yTS s y.dst b gt) (putE ((GS,ga)::E) y.dst (.sc (.bool b))) ah0 n:=fun b gt ga hga=>by
  have hth:∀ id,thp c (yTS s y.dst b gt) id=none:=fun id=>by
   unfold thp
   have:c.g=[]:=by simpa using hg
   rw [this]; rfl
  have hrest:∀ x,x≠GS->TVR P κ ln ahN s.n (match alk (yEnv s) x with | some v=>v | none=>(alk c.e0 x).getD .un) (lk E x):=fun x hx=>by
   have hal:alk (yEnv s) x=(alk s.env x).map fun v=>if v.pure then v else .un:=kiv (fun v:TV sem=>if v.pure then v else .un) s.env x
   rw [hal,hE]
   have hRx:=R.env x
   unfold tlk at hRx ⊢
   cases hsx:alk s.env x with
   | some v=>
    rw [hsx] at hRx
    simp only [jcg]
    simp only at hRx
    by_cases hp:v.pure=true
    ·rw [if_pos hp]
     by_cases hst:stays v=true
     ·rw [if_pos hst]; exact hRx
     ·have:=kpX hp hst
      subst this; exact .un _
    ·rw [if_neg hp]; exact .un _
   | none=>
    rw [hsx] at hRx
    simp only [Option.map_none]
    simp only at hRx
    cases hcx:alk c.e0 x with
    | none=>simp only [Option.getD_none]; exact .un _
    | some v=>
     rw [hcx] at hRx
     simp only [jca] at hRx ⊢
     have hm:=jam.1 he0 _ (kat hcx)
     by_cases hst:stays v=true
     ·rw [if_pos hst]; exact hRx
     ·have:v = .un:=by
       simp only [jav,jac] at hm
       rcases hm with hp | ⟨_,hp⟩
       ·exact kpX hp hst
       ·cases v <;> first | (exact absurd rfl hst) | (simp at hp)
      subst this; exact .un _
  refine ⟨fun x=>?_,fun id B hB=>(by rw [hth] at hB; cases hB),fun id B hB=>(by rw [hth] at hB; cases hB),fun i j B B' q hi=>(by rw [hth] at hi; cases hi),fun q B hq=>(by cases hq),fun id B q hB=>(by rw [hth] at hB; cases hB),fun id B q hB=>(by rw [hth] at hB; cases hB),fun q hq=>rfl,fun x v hx=>?_,fun id b hb=>(by cases hb),fun _=>rfl,fun q k T es hq=>(by cases hq),fun id B hB=>(by rw [hth] at hB; cases hB)⟩
  ·show TVR P κ ln ahN s.n _ _
   cases hd:y.dst with
   | none=>
    have h1:tlk c (yTS s none b gt) x=if x=GS then gt else (match alk (yEnv s) x with | some v=>v | none=>(alk c.e0 x).getD .un):=by
     unfold tlk yTS
     simp only [jba,alk]
     by_cases hx:x=GS
     ·rw [if_pos hx,if_pos hx]
     ·rw [if_neg hx,if_neg hx]; cases alk (yEnv s) x <;> rfl
    rw [h1]
    show TVR P κ ln ahN s.n _ (lk ((GS,ga)::E) x)
    simp only [lk]
    by_cases hx:x=GS
    ·rw [if_pos hx,if_pos hx]; exact hga
    ·rw [if_neg hx,if_neg hx]; exact hrest x hx
   | some d=>
    have h1:tlk c (yTS s (some d) b gt) x=if x=d then .kb b else if x=GS then gt else (match alk (yEnv s) x with | some v=>v | none=>(alk c.e0 x).getD .un):=by
     unfold tlk yTS
     simp only [jdp,jba,alk]
     by_cases hxd:x=d
     ·rw [if_pos hxd,if_pos hxd]
     ·rw [if_neg hxd,if_neg hxd]
      by_cases hx:x=GS
      ·rw [if_pos hx,if_pos hx]
      ·rw [if_neg hx,if_neg hx]; cases alk (yEnv s) x <;> rfl
    rw [h1]
    show TVR P κ ln ahN s.n _ (lk ((d,.sc (.bool b))::(GS,ga)::E) x)
    simp only [lk]
    by_cases hxd:x=d
    ·rw [if_pos hxd,if_pos hxd]; exact .kb b
    ·rw [if_neg hxd,if_neg hxd]
     by_cases hx:x=GS
     ·rw [if_pos hx,if_pos hx]; exact hga
     ·rw [if_neg hx,if_neg hx]; exact hrest x hx
  ·have hkey:y.dst=some x\/x=GS\/∃ v,alk s.env x=some v:=by
    unfold yTS at hx
    simp only at hx
    cases hd:y.dst with
    | none=>
     rw [hd] at hx
     simp only [jba,alk] at hx
     split at hx
     ·rename_i e; exact .inr (.inl e)
     ·rw [show alk (yEnv s) x=(alk s.env x).map fun v=>if v.pure then v else .un from kiv (fun v:TV sem=>if v.pure then v else .un) s.env x] at hx
      obtain ⟨v',hv',_⟩:=jab.1 hx
      exact .inr (.inr ⟨v',hv'⟩)
    | some d=>
     rw [hd] at hx
     simp only [jdp,jba,alk] at hx
     split at hx
     ·rename_i e; exact .inl (by rw [e])
     ·split at hx
      ·rename_i e; exact .inr (.inl e)
      ·rw [show alk (yEnv s) x=(alk s.env x).map fun v=>if v.pure then v else .un from kiv (fun v:TV sem=>if v.pure then v else .un) s.env x] at hx
       obtain ⟨v',hv',_⟩:=jab.1 hx
       exact .inr (.inr ⟨v',hv'⟩)
   rcases hkey with hd | rfl | ⟨v',hv'⟩
   ·exact hdst x hd
   ·exact R.e0 _ _ hgs
   ·exact R.e0 x v' hv'
 refine ⟨.inl hgn,cl,f,_,avsL ts e,[avsL ts e],ys.map (tup ts).enc,hz (ows κ ln c s) h ahN ids,E,[(tup ts).enc e],hop,hcl,.yield,hGe2,fun j hj=>?_,kea R.zin,(show SnapV _ (ev env f) _ by rw [hfe2]; exact Snap.V (.free _ (.sc _))),g2,fun x hx=>?_,rfl,?_,?_⟩
 ·obtain rfl:j=0:=by simpa using hj
  rw [hGx,jaw,jar,Nat.add_zero,hx]; rfl
 ·rw [hE]
  by_cases hst:stays (tlk c s x)=true
  ·rw [if_pos hst]; exact .inr ⟨rfl,kwd (R.env x) hst⟩
  ·rw [if_neg hst]; exact .inl rfl
 ·exact hT _ _ (rel true _ _ (by rw [show ys.map (tup ts).enc++[(tup ts).enc e]=(ys++[e]).map (tup ts).enc by simp]; exact .gs _ _)) rfl hk
 ·exact hF _ _ w0 (rel false _ _ .ud) rfl hw0
end
section
variable {P:Program} {κ κ':Nat->Option Nat} {ln ln':Nat->Nat} {z z':AH} {c:Cx sem} {s:TS sem} {env:Env} {h h':AH} {n n':Nat}
variable {ρ:Ty} {r:ρ.den} {o:Oper} {W:Nat->Bool} {anc:Nat->List Nat} {late:Nat->Bool} {j:Nat} {next:St->List Pn->Prop}
def DomF (κ:Nat->Option Nat) (N:Nat) (F:List Nat) (hp:AH):Prop:=∀ q B,hp q=some B->∃ id∈F,id<N/\κ id=some q
structure PnOk (κ:Nat->Option Nat) (N:Nat) (p:Pn) (t:Nat×Nat×List Nat):Prop where
 j:p.j=t.1
 k0:t.2.1=0->∀ h1,p.ok h1
 k1:t.2.1=1->∃ hp,(∀ h1,p.ok h1↔shp hp h1)/\DomF κ N t.2.2 hp
 k2:t.2.1=2->∃ hp:AH,(∀ h1:AH,p.ok h1↔∀ q B,hp q=some B->h1 q=some B)/\DomF κ N t.2.2 hp
def PdR (κ:Nat->Option Nat) (N:Nat) (ps:List Pn) (pd:List (Nat×Nat×List Nat)):Prop:=∀ p∈ps,∃ t∈pd,PnOk κ N p t
theorem DomF.mono {N N':Nat} {F:List Nat} {hp:AH} (h:DomF κ N F hp) (hκ:∀ id,id<N->κ' id = κ id) (hN:N<=N'):DomF κ' N' F hp:=fun q B hq=>by
 obtain ⟨id,h1,h2,h3⟩:=h q B hq
 exact ⟨id,h1,by omega,by rw [hκ id h2]; exact h3⟩
theorem PdR.mono {N N':Nat} {ps:List Pn} {pd:List (Nat×Nat×List Nat)} (h:PdR κ N ps pd) (hκ:∀ id,id<N->κ' id = κ id) (hN:N<=N'):PdR κ' N' ps pd:=fun p hp=>by
 obtain ⟨t,ht,g⟩:=h p hp
 exact ⟨t,ht,g.j,g.k0,fun e=>(g.k1 e).imp fun hp g=>⟨g.1,g.2.mono hκ hN⟩,fun e=>(g.k2 e).imp fun hp g=>⟨g.1,g.2.mono hκ hN⟩⟩
theorem PdR.cons {N:Nat} {ps:List Pn} {pd:List (Nat×Nat×List Nat)} (h:PdR κ N ps pd) {p:Pn} {t:Nat×Nat×List Nat} (g:PnOk κ N p t):PdR κ N (p::ps) (t::pd):=fun q hq=>by
 rcases jbu.1 hq with rfl | hq
 ·exact ⟨t,by simp,g⟩
 ·obtain ⟨t,ht,g⟩:=h q hq
  exact ⟨t,jbb _ ht,g⟩
theorem kvt (R:Rel P κ ln z c s env h n) {ps:List Pn} {pd:List (Nat×Nat×List Nat)} (hp:PdR κ s.n ps pd) {al:List Nat} {st:Bool} {T:List Nat} (hk:pdOk c s al st T pd=true)
  (hf:∀ q,q<n->h' q=h q\/∃ id∈T,(∃ B,thp c s id=some B)/\q∈ows κ ln c s id) (hst:st=true->shp h h'):∀ p∈ps,p.j∈al\/(p.ok h->p.ok h'):=by
 intro p hpm
 obtain ⟨t,ht,g⟩:=hp p hpm
 have hc:=jam.1 hk t ht
 simp only [jav,beq_iff_eq,jac,jam,jbo,jbi] at hc
 rcases hc with (hc | hc) | ⟨hkd,hF⟩
 ·exact .inl (by rw [g.j]; exact hc)
 ·exact .inr fun _=>g.k0 hc h'
 ·right
  intro hok
  have same:∀ id q B,id∈t.2.2->T.contains id=false->κ id=some q->h q=some B->h' q=h q:=fun id q B hid hT hκ hq=>by
   have hqn:q<n:=by
    rcases jdh q n with hlt | hge
    ·exact hlt
    ·rw [R.hn q hge] at hq; cases hq
   rcases hf q hqn with e | ⟨id',h1,⟨B',h2⟩,h3⟩
   ·exact e
   ·obtain ⟨B1,hB1⟩:=jao.1 (hF id hid).1
    have e:=R.owI hB1 h2 (.inl hκ) (kcP h2 h3)
    subst e
    rw [jbo.2 h1] at hT; cases hT
  rcases hkd with hkd | hkd
  ·obtain ⟨hp,g1,g2⟩:=g.k1 hkd
   rw [g1] at hok ⊢
   intro q B hq
   obtain ⟨B',e1,e2⟩:=hok q B hq
   obtain ⟨id,d1,d2,d3⟩:=g2 q B hq
   rcases (hF id d1).2 with hT | hT
   ·exact ⟨B',by rw [same id q B' d1 hT d3 e1]; exact e1,e2⟩
   ·obtain ⟨B2,e3,e4⟩:=hst hT.1 q B' e1
    exact ⟨B2,e3,ABlk.shp_trans e2 e4⟩
  ·obtain ⟨hp,g1,g2⟩:=g.k2 hkd
   rw [g1] at hok ⊢
   intro q B hq
   obtain ⟨id,d1,d2,d3⟩:=g2 q B hq
   rcases (hF id d1).2 with hT | hT
   ·rw [same id q B d1 hT d3 (hok q B hq)]; exact hok q B hq
   ·rw [hkd] at hT; exact absurd hT.2 (by decide)
theorem ktT {Δ:List (FuncId×Ctr)} (hΔ:Goods P Δ) {wc:List Nat} {Kf:TV sem->TS sem->List (Nat×Nat×List Nat)->sem.Ans ρ} {ps:List Pn} {pd:List (Nat×Nat×List Nat)}
  (R:Rel P κ ln z c s env h n) (hpd:PdR κ s.n ps pd) (hW:W j=isW wc j o) (hk:kld P c Δ W anc late j s o pd Kf=some r)
  (hn:∀ κ' ln' z' tv s' v h' n' ps' pd',Ke c s.n κ ln κ' ln'->s.n<=s'.n->Rel P κ' ln' z' c s' env h' n'->TVR P κ' ln' z' s'.n tv v->Kf tv s' pd'=some r->PdR κ' s'.n ps' pd'->next ⟨putE env o.dst v,h',n'⟩ ps') :
  stepT P W anc o j env h n ps next:=by
 unfold kld at hk
 unfold stepT
 cases hw:W j with
 | true=>
  rw [hw] at hk hW
  rw [if_pos rfl]
  obtain ⟨d,op,ty,pos,after,g⟩:=o
  simp only at hk
  split at hk
  ·
   rename_i f args ts
   split at hk
   ·rename_i M as hu
    unfold useM at hu
    simp only at hu
    split at hu
    ·rename_i gg caps hfe
     split at hu
     ·rename_i C hC
      obtain ⟨M',hM,he⟩:=jab.1 hu
      cases he
      have hG:=(hΔ.at hC).2.2.1 M (kkr hM)
      have hargs:TVRs P κ ln z s.n (args.toList.map (tev c s)) (args.toList.map (ev env)):=by
       generalize args.toList=xs
       induction xs with
       | nil=>exact .nil
       | cons x xs ih=>exact .cons _ _ _ _ (R.ev x) ih
      have hff:=R.ev f
      rw [hfe] at hff
      obtain ⟨as',hfa,hcaps⟩:=hff.fn_inv
      refine khh (f:=f) rfl hfa rfl (kjI hΔ hG.1 hG.2 R (hargs.append hcaps) hk fun tv s' v h' n' κ' ln' h1 h2 h3 h4 h5 h6=>?_)
      split at h1
      ·rename_i hch
       exact ⟨kvt R hpd hch h6 (fun e=>by cases e),hn _ _ _ _ _ _ _ _ _ _ h2 h3 h4 h5 h1 (hpd.mono (fun id hi=>(h2 id hi).1) h3)⟩
      ·exact kaa h1
     ·cases hu
    ·cases hu
   ·split at hk
    ·exact kre hk
    ·obtain ⟨tv,v,k1,k2,k3⟩:=kjY (dst:=d) (ty:=ty) (pos:=pos) (after:=after) (g:=g) (l:=⟨.value f,args,ts⟩) hΔ R rfl hk
     exact k1 h n _ (fun q B hq=>hq) ⟨fun p _=>.inr id,hn _ _ _ _ _ _ _ _ _ _ .refl (jah _) R k3 k2 hpd⟩
  ·split at hk
   ·exact kaa hk
   ·rename_i hcl
    split at hk
    ·rename_i T hT
     split at hk
     ·rename_i hch
      obtain ⟨tv,s',v,h',n',κ',ln',z',g1,g2,g3,g4,g6,g7,_⟩:=kfC hΔ R _ hk
      have ha:=g1 (fun a b c=>a=v/\b=h'/\c=n') ⟨rfl,rfl,rfl⟩
      obtain ⟨f1,f2⟩:=kxn hW.symm hcl ha
      refine g1 _ ⟨kvt R hpd hch (fun q hq=>?_) f2,hn _ _ _ _ _ _ _ _ _ _ g7 g6 g3 g4 g2 (hpd.mono (fun id hi=>(g7 id hi).1) g6)⟩
      unfold tgtT at hT
      split at hT
      ·rename_i hno
       exact .inl (f1 q (by omega) fun x hx=>by rw [hno] at hx; cases hx)
      ·rename_i x hx
       by_cases hav:avId (ev env x)=some q
       ·split at hT
        ·rename_i i hti
         split at hT
         ·rename_i hc
          cases hT
          simp only [jac,jav,jbi] at hc
          obtain ⟨B,hB⟩:=jao.1 hc.1
          refine .inr ⟨i,by simp,⟨B,hB⟩,?_⟩
          rcases kyS (R.ev x) hti q hav with h1 | ⟨h1,h2⟩
          ·exact ows_k h1
          ·rw [h1,hB] at hc
           exact ows_r hB (by simpa using hc.2) h2
         ·cases hT
        ·split at hT
         ·rename_i hsc
          have hxv:=R.ev x
          generalize tev c s x=tv at hxv hsc
          generalize ev env x=av at hxv hav
          cases hxv <;> first | (simp only [isSc,jaj] at hsc; done) | cases hav
         ·cases hT
       ·exact .inl (f1 q (by omega) fun x' hx'=>by rw [hx] at hx'; cases hx'; exact hav)
     ·exact kaa hk
    ·exact kaa hk
 | false=>
  rw [hw] at hk hW
  rw [if_neg (by decide)]
  have rdr:∀ {κ':Nat->Option Nat} {ln':Nat->Nat} {z':AH} {s':TS sem} {tv:TV sem} {v:AV} (ok:AH->Prop) (kind:Nat) (F:List Nat),ok h->(∀ h1 n1 (K':K3),ok h1->K' v h1 n1->aop P env h1 n1 o K')->Ke c s.n κ ln κ' ln'->s.n<=s'.n->Rel P κ' ln' z' c s' env h n->TVR P κ' ln' z' s'.n tv v->
    Kf tv s' ((j,kind,F)::pd)=some r->(kind=0->∀ h1,ok h1)->(kind=1->∃ hp,(∀ h1,ok h1↔shp hp h1)/\DomF κ s.n F hp)->(kind=2->∃ hp:AH,(∀ h1:AH,ok h1↔∀ q B,hp q=some B->h1 q=some B)/\DomF κ s.n F hp)->
    ∃ p:Pn,p.j=j/\p.o=o/\p.env=env/\p.ok h/\p.fact P/\next ⟨putE env o.dst p.v,h,n⟩ (p::ps):=fun {κ' ln' z' s' tv v} ok kind F h1 h2 h3 h4 h5 h6 h7 h8 h9 h10=>
   ⟨⟨j,o,env,v,ok⟩,rfl,rfl,rfl,h1,h2,hn _ _ _ _ _ _ _ _ _ _ h3 h4 h5 h6 h7 ((hpd.mono (fun id hi=>(h3 id hi).1) h4).cons ⟨rfl,h8,fun e=>(h9 e).imp fun hp g=>⟨g.1,g.2.mono (fun id hi=>(h3 id hi).1) h4⟩,fun e=>(h10 e).imp fun hp g=>⟨g.1,g.2.mono (fun id hi=>(h3 id hi).1) h4⟩⟩)⟩
  have dom:DomF κ s.n (footX c s o) (rsH κ h (footX c s o)):=fun q B hq=>by
   obtain ⟨⟨id,h1,h2⟩,_⟩:=klO hq
   have h3:=(jeb.1 (show id∈(_:List Nat).filter _ from h1)).2
   obtain ⟨B1,hB1⟩:=jao.1 h3
   exact ⟨id,h1,R.lt id B1 hB1,h2⟩
  obtain ⟨d,op,ty,pos,after,g⟩:=o
  simp only at hk
  split at hk
  ·obtain ⟨tv,v,k1,k2,k3⟩:=krR (dst:=d) (ty:=ty) (pos:=pos) (after:=after) (g:=g) R hk
   exact rdr (fun _=>True) 0 [] trivial (fun h1 n1 K' _ hK=>k1 h1 n1 K' hK) .refl (jah _) R k3 k2 (fun _ _=>trivial) (fun e=>by cases e) (fun e=>by cases e)
  ·rename_i f args ts
   split at hk
   ·split at hk
    ·rename_i hse
     unfold seen at hse
     rw [jac,jac,jbi] at hse
     have R2:=R.rst hse.1.1 hse.1.2 hse.2
     obtain ⟨tv,v,k1,k2,k3⟩:=kjY (dst:=d) (ty:=ty) (pos:=pos) (after:=after) (g:=g) (l:=⟨.value f,args,ts⟩) hΔ R2 rfl hk
     exact rdr (fun h1=>∀ q B,rsH κ h (footX c s _) q=some B->h1 q=some B) 2 _ (fun q B hq=>(klO hq).2) (fun h1 n1 K' hh hK=>k1 h1 n1 K' hh hK) .refl (jah _) R k3 k2 (fun e=>by cases e) (fun e=>by cases e) (fun _=>⟨_,fun _=>Iff.rfl,dom⟩)
    ·exact kaa hk
   ·obtain ⟨tv,v,k1,k2,k3⟩:=kjY (dst:=d) (ty:=ty) (pos:=pos) (after:=after) (g:=g) (l:=⟨.value f,args,ts⟩) hΔ R rfl hk
    exact rdr (fun h1=>∀ q B,h q=some B->h1 q=some B) 3 [] (fun q B hq=>hq) (fun h1 n1 K' hh hK=>k1 h1 n1 K' hh hK) .refl (jah _) R k3 k2 (fun e=>by cases e) (fun e=>by cases e) (fun e=>by cases e)
  ·split at hk
   ·rename_i hc0
    obtain ⟨tv,s',v,h',n',κ',ln',z',g1,g2,g3,g4,g6,g7,_⟩:=kfC hΔ R _ hk
    obtain ⟨v2,⟨rfl,rfl,rfl⟩,k2⟩:=kxR hc0 (g1 (fun a b c=>a=v/\b=h'/\c=n') ⟨rfl,rfl,rfl⟩)
    exact rdr (fun _=>True) 0 [] trivial (fun h1 n1 K' _ hK=>k2 h1 n1 K' hK) g7 g6 g3 g4 g2 (fun _ _=>trivial) (fun e=>by cases e) (fun e=>by cases e)
   ·split at hk
    ·rename_i hc1
     split at hk
     ·split at hk
      ·rename_i hse
       unfold seen at hse
       rw [jac,jac,jbi] at hse
       have R2:=R.rst hse.1.1 hse.1.2 hse.2
       obtain ⟨tv,s',v,h',n',κ',ln',z',g1,g2,g3,g4,g6,g7,g8⟩:=kfC hΔ R2 _ hk
       obtain ⟨rfl,rfl,rfl,rfl,rfl,rfl⟩:=g8 (klN (.inl hc1))
       exact rdr (fun h1=>shp (rsH κ' h (footX c s _)) h1) 1 _ (fun q B hq=>⟨B,(klO hq).2,B.shp_refl⟩) (fun h1 n1 K' hh hK=>kry hc1 hh (fun v' hv'=>by obtain ⟨rfl,_,_⟩:=hv'; exact hK) (g1 (fun a b c=>a=v/\True/\True) ⟨rfl,trivial,trivial⟩)) .refl (jah _) R g4 g2 (fun e=>by cases e) (fun _=>⟨_,fun _=>Iff.rfl,dom⟩) (fun e=>by cases e)
      ·exact kaa hk
     ·obtain ⟨tv,s',v,h',n',κ',ln',z',g1,g2,g3,g4,g6,g7,g8⟩:=kfC hΔ R _ hk
      obtain ⟨rfl,rfl,rfl,rfl,rfl,rfl⟩:=g8 (klN (.inl hc1))
      exact rdr (fun h1=>shp h' h1) 3 [] (fun q B hq=>⟨B,hq,B.shp_refl⟩) (fun h1 n1 K' hh hK=>kry hc1 hh (fun v' hv'=>by obtain ⟨rfl,_,_⟩:=hv'; exact hK) (g1 (fun a b c=>a=v/\True/\True) ⟨rfl,trivial,trivial⟩)) .refl (jah _) R g4 g2 (fun e=>by cases e) (fun e=>by cases e) (fun e=>by cases e)
    ·split at hk
     ·rename_i hc2
      split at hk
      ·split at hk
       ·rename_i hse
        unfold seen at hse
        rw [jac,jac,jbi] at hse
        have R2:=R.rst hse.1.1 hse.1.2 hse.2
        obtain ⟨tv,s',v,h',n',κ',ln',z',g1,g2,g3,g4,g6,g7,g8⟩:=kfC hΔ R2 _ hk
        obtain ⟨rfl,rfl,rfl,rfl,rfl,rfl⟩:=g8 (klN (.inr hc2))
        exact rdr (fun h1=>∀ q B,rsH κ' h (footX c s _) q=some B->h1 q=some B) 2 _ (fun q B hq=>(klO hq).2) (fun h1 n1 K' hh hK=>ktq hc2 hh (fun v' hv'=>by obtain ⟨rfl,_,_⟩:=hv'; exact hK) (g1 (fun a b c=>a=v/\True/\True) ⟨rfl,trivial,trivial⟩)) .refl (jah _) R g4 g2 (fun e=>by cases e) (fun e=>by cases e) (fun _=>⟨_,fun _=>Iff.rfl,dom⟩)
       ·exact kaa hk
      ·obtain ⟨tv,s',v,h',n',κ',ln',z',g1,g2,g3,g4,g6,g7,g8⟩:=kfC hΔ R _ hk
       obtain ⟨rfl,rfl,rfl,rfl,rfl,rfl⟩:=g8 (klN (.inr hc2))
       exact rdr (fun h1=>∀ q B,h' q=some B->h1 q=some B) 3 [] (fun q B hq=>hq) (fun h1 n1 K' hh hK=>ktq hc2 hh (fun v' hv'=>by obtain ⟨rfl,_,_⟩:=hv'; exact hK) (g1 (fun a b c=>a=v/\True/\True) ⟨rfl,trivial,trivial⟩)) .refl (jah _) R g4 g2 (fun e=>by cases e) (fun e=>by cases e) (fun e=>by cases e)
     ·exact kaa hk
theorem keN {Δ:List (FuncId×Ctr)} (hΔ:Goods P Δ) {wc:List Nat} {ds:List (Option Tmp)} (hds:okD c ds=true) {Kf:TS sem->sem.Ans ρ} {K:St->Prop}
  {N0:Nat} {κ1:Nat->Option Nat} {ln1:Nat->Nat} (hK:∀ κ ln z s' env' h' n',Ke c N0 κ1 ln1 κ ln->Rel P κ ln z c s' env' h' n'->Kf s'=some r->K ⟨env',h',n'⟩) :
  ∀ (l:List Oper) (i:Nat) {κ:Nat->Option Nat} {ln:Nat->Nat} {z:AH} {s:TS sem} {env:Env} {h:AH} {n:Nat} {ps:List Pn} {pd:List (Nat×Nat×List Nat)},Ke c N0 κ1 ln1 κ ln->N0<=s.n->(∀ o∈l,o.dst∈ds)->(∀ q o,l[q]?=some o->W (i+q)=isW wc (i+q) o)->Rel P κ ln z c s env h n->PdR κ s.n ps pd->
   xopsT P c Δ W anc late ds l i s pd Kf=some r->treeD P ds W anc l i ⟨env,h,n⟩ ps K
 | [],i,κ,ln,z,s,env,h,n,ps,pd,ke,kn,_,_,R,hp,hk=>hK _ _ _ _ _ _ _ ke R hk
 | o::l,i,κ,ln,z,s,env,h,n,ps,pd,ke,kn,hl,hW,R,hp,hk=>by
  have hl':∀ o∈l,o.dst∈ds:=fun o ho=>hl o (jbb _ ho)
  have hW':∀ q o,l[q]?=some o->W (i+1+q)=isW wc (i+1+q) o:=fun q o hq=>by have:=hW (q+1) o (by simpa using hq); rwa [show i+(q+1)=i+1+q by omega] at this
  have hW0:W i=isW wc i o:=hW 0 o rfl
  have hod:=kvd hds (hl o (jdb ..))
  have one:∀ {κ:Nat->Option Nat} {ln:Nat->Nat} {z:AH} {s:TS sem} {env:Env},Ke c N0 κ1 ln1 κ ln->N0<=s.n->Rel P κ ln z c s env h n->PdR κ s.n ps pd->(kld P c Δ W anc late i s o pd fun v s' pd=>xopsT P c Δ W anc late ds l (i+1) (putT s' o.dst v) pd Kf)=some r->
    stepT P W anc o i env h n ps fun s t=>treeD P ds W anc l (i+1) s t K:=fun ke kn R hp hk=>by
   refine ktT hΔ R hp hW0 hk fun κ' ln' z' tv s' v h' n' ps' pd' ke' kn' R' hv hk' hp'=>?_
   exact keN hΔ hds hK l (i+1) (ke.trans ke' kn) (by rw [kdb]; omega) hl' hW' (R'.putT hv o.dst hod) (by rw [kdb]; exact hp') hk'
  simp only [xopsT] at hk
  simp only [treeD]
  cases hg:o.guard with
  | none=>
   rw [hg] at hk
   exact one ke kn R hp hk
  | some jw=>
   obtain ⟨j,want⟩:=jw
   rw [hg] at hk
   simp only at hk ⊢
   cases hs:kbd ds j with
   | none=>rw [hs] at hk; exact kaa hk
   | some d=>
    rw [hs] at hk
    simp only at hk ⊢
    have hde:=ksW hds hs
    have hv:=R.env d
    generalize htl:tlk c s d=tv at hv hk
    generalize hlk:lk env d=a at hv
    cases hv <;> first | exact kaa hk | skip
    ·
     exact keN hΔ hds hK l (i+1) ke (by rw [kdb]; exact kn) hl' hW' (R.putT .ud o.dst hod) (by rw [kdb]; exact hp) hk
    ·
     rename_i t x hd hs2
     cases t <;> first | exact kaa hk | skip
     obtain rfl:=hs2.sc_inv
     have k1:∀ w:Bool,x=w->Rel P κ ln z c { s with env:=(d,.kb w)::s.env } ((d,.sc (.bool w))::env) h n:=fun w hw=>R.know (.kb w) hde
     dsimp only at hk
     cases want
     ·dsimp only at hk
      rcases kcr hk with ⟨hb,hk⟩ | ⟨hb,hk⟩
      ·refine ⟨fun e=>?_,fun _=>?_⟩
       ·exact absurd (hb.symm.trans e) (by decide)
       ·exact keN hΔ hds hK l (i+1) ke (by rw [kdb]; exact kn) hl' hW' ((k1 true hb).putT .ud o.dst hod) (by rw [kdb]; exact hp) hk
      ·refine ⟨fun _=>?_,fun e=>?_⟩
       ·exact one ke (by exact kn) (k1 false hb) hp hk
       ·exact absurd (hb.symm.trans e) (by decide)
     ·dsimp only at hk
      rcases kcr hk with ⟨hb,hk⟩ | ⟨hb,hk⟩
      ·refine ⟨fun _=>?_,fun e=>?_⟩
       ·exact one ke (by exact kn) (k1 true hb) hp hk
       ·exact absurd (hb.symm.trans e) (by decide)
      ·refine ⟨fun e=>?_,fun _=>?_⟩
       ·exact absurd (hb.symm.trans e) (by decide)
       ·exact keN hΔ hds hK l (i+1) ke (by rw [kdb]; exact kn) hl' hW' ((k1 false hb).putT .ud o.dst hod) (by rw [kdb]; exact hp) hk
    ·
     rename_i b
     dsimp only at hk
     have ag:Rel P κ ln z c s ((d,.sc (.bool b))::env) h n:=R.again fun x=>by
      show (if x=d then _ else lk env x)=_
      split
      ·rename_i e; rw [e,hlk]
      ·rfl
     split at hk
     ·rename_i hbw
      have hbw:=eq_of_beq hbw
      subst hbw
      refine ⟨fun _=>one ke (by exact kn) ag hp hk,fun e=>?_⟩
      cases b <;> cases e
     ·rename_i hbw
      refine ⟨fun e=>by rw [e] at hbw; simp at hbw,fun e=>?_⟩
      rw [<-e]
      exact keN hΔ hds hK l (i+1) ke (by rw [kdb]; exact kn) hl' hW' (ag.putT .ud o.dst hod) (by rw [kdb]; exact hp) hk
variable {N:Nat} {D:DX} {O:Nat->Prop} {Q:Exit->St->Prop}
theorem kuP {l:List Oper} {wc:List Nat} (h:ksO l wc (ancOf l)=true) {w j:Nat} {o:Oper} (ho:l[w]?=some o) (hw:isW wc w o=true) (hwj:w<j) (hj:j<l.length):Anc l w j:=by
 simp only [ksO,jam,Prod.forall,jav,jbi,decide_eq_false_iff_not] at h
 have mem:∀ {α:Type} {m:List α} {j:Nat} {x:α},m[j]?=some x->(x,j)∈m.zipIdx:=fun h=>jdc.2 (by simpa using h)
 rcases h o w (mem ho) with h | h
 ·rw [hw] at h; cases h
 ·rcases h _ j (mem (jae hj)) with h | h
  ·exact absurd hwj h
  ·exact khv (by simpa [jbo] using h)
theorem kqs {Δ:List (FuncId×Ctr)} (hΔ:Goods P Δ) {l:List Oper} (R:Rel P κ ln z c s env h n) {Kf:TS sem->sem.Ans ρ} {Kt:St->Prop}
  (hK:∀ κ' ln' z' s' env' h' n',Ke c s.n κ ln κ' ln'->Rel P κ' ln' z' c s' env' h' n'->Kf s'=some r->Kt ⟨env',h',n'⟩) (hk:drawT P c Δ N l s Kf=some r):∃ (W:Nat->Bool) (anc:Nat->List Nat),kcR l=true/\kaZ N l=true/\(∀ i j,i∈anc j->Anc l i j)/\(∀ w j,w<j->j<l.length->W w=true->Anc l w j)/\
   treeD P (l.map (·.dst)) W anc l 0 ⟨env,h,n⟩ [] Kt:=by
 unfold drawT at hk
 simp only at hk
 split at hk
 ·rename_i hc
  simp only [jac] at hc
  obtain ⟨⟨⟨h1,h2⟩,h3⟩,h4⟩:=hc
  refine ⟨fun j=>match l[j]? with | some o=>isW (wcGo Δ l 0 (ownT s) []) j o | none=>false,fun j=>(ancOf l).getD j [],h1,h4,fun i j hi=>khv hi,fun w j hwj hj hw=>?_,?_⟩
  ·dsimp only at hw
   split at hw
   ·rename_i o ho
    exact kuP h2 ho hw hwj hj
   ·cases hw
  ·exact keN hΔ h3 (wc:=wcGo Δ l 0 (ownT s) []) (K:=Kt) hK l 0 .refl (jah _) (fun o ho=>jay.2 ⟨o,ho,rfl⟩) (fun q o hq=>by simp only [jcb,hq]) R (fun p hp=>by cases hp) hk
 ·exact kaa hk
theorem kuA {Δ:List (FuncId×Ctr)} (hΔ:Goods P Δ) {l:List Oper} (R:Rel P κ ln z c s env h n) {Kf:TS sem->sem.Ans ρ}
  (hK:∀ κ' ln' z' s' env' h' n',Ke c s.n κ ln κ' ln'->Rel P κ' ln' z' c s' env' h' n'->Kf s'=some r->Q .normal ⟨env',h',n'⟩) (hk:drawT P c Δ N l s Kf=some r):SatA P N D O l Q ⟨env,h,n⟩:=by
 obtain ⟨W,anc,h1,h2,h3,h4,h5⟩:=kqs (N:=N) (Kt:=fun st=>Q .normal st) hΔ R hK hk
 exact SatA.of_tree h1 h2 h3 h4 h5
theorem krA {f:List (Nat×Nat)->sem.Ans ρ}:∀ {l:List (List (Nat×Nat))},bthL (A:=sem) f l=some r->∀ x∈l,f x=some r
 | [],h=>kaa h
 | [x],h=>by
  intro y hy
  simp only [jdw] at hy
  subst hy
  exact h
 | x::y::l,h=>by
  obtain ⟨h1,h2⟩:=ksa (show bthO _ _ _=some r from h)
  intro q hq
  rcases jbu.1 hq with rfl | hq
  ·exact h1
  ·exact krA h2 q hq
theorem kuD {Δ:List (FuncId×Ctr)} (hΔ:Goods P Δ) {id:Nat} {cs:List Code} {l:List Oper} (R:Rel P κ ln z c s env h n) {Kf:TS sem->sem.Ans ρ}
  (hK:∀ κ' ln' z' s' env' h' n',Ke c s.n κ ln κ' ln'->Rel P κ' ln' z' c s' env' h' n'->Kf s'=some r->SatL P N D O cs Q ⟨env',h',n'⟩) (hk:drawV P c Δ N l s Kf=some r):SatL P N D O (.region id l.toArray true::cs) Q ⟨env,h,n⟩:=by
 unfold drawV at hk
 split at hk
 ·rename_i hc
  rw [jac] at hc
  refine Sat.drawV (Q:=thenQ (SatL P N D O cs Q) Q) (id:=id) hc.1 hc.2 (conf:=confX Δ (ownT { s with dy:=false }) l) (f:=3) fun ex hex=>?_
  have:=krA hk ex hex
  simp only at this
  split at this
  ·rename_i hp
   exact ⟨_,hp,kuA (Q:=thenQ (SatL P N D O cs Q) Q) hΔ R hK this⟩
  ·exact kaa this
 ·exact kaa hk
end
section
variable {P:Program} {N:Nat} {D:DX} {O:Nat->Prop} {Q:Exit->St->Prop} {st:St} {μ:Mu} {w:World} {n:Nat} {h:AH} {G:IterG}
theorem KeepB.below {w1 w2:World} (h:KeepB O w w1) (b:Below w1.heap.size w1 w2):KeepB O w w2:=
 ⟨b.os.trans h.os,b.tape.trans h.tape,b.output.trans h.output,jcy h.size b.size,fun i hi ho=>(b.block i (jan hi h.size)).trans (h.block i hi ho)⟩
theorem KeepB.trans {O1:Nat->Prop} {w1 w2:World} (h:KeepB O w w1) (k:KeepB O1 w1 w2) (ho:∀ b,O1 b->b<w.heap.size->O b):KeepB O w w2:=
 ⟨k.os.trans h.os,k.tape.trans h.tape,k.output.trans h.output,jcy h.size k.size,fun i hi hn=>(k.block i (jan hi h.size) fun e=>hn (ho i e hi)).trans (h.block i hi hn)⟩
def IterG.since (G:IterG) (O:Nat->Prop) (w:World):IterG:=
 { G with J:=fun k O' w'=>G.J k O' w'/\KeepB O w w'/\∀ b,O' b->b<w.heap.size->O b,Jx:=fun w'=>G.Jx w'/\KeepB O w w' }
theorem IterOk.since (ok:IterOk P G):IterOk P (G.since O w):=by
 refine ⟨fun k O1 w1 w2 hj hb=>⟨ok.jb k O1 w1 w2 hj.1 hb,hj.2.1.below hb,hj.2.2⟩,fun w1 w2 hj hb=>⟨ok.xb w1 w2 hj.1 hb,hj.2.below hb⟩,fun k O1 w1 us x hj hO hx hsz hv=>?_⟩
 obtain ⟨fn,tmps,assign,body,hy,hr⟩:=ok.y k O1 w1 us x hj.1 hO hx hsz hv
 refine ⟨fn,tmps,assign,body,hy,hr.mono ?_⟩
 rintro e w2 ⟨O2,p1,p2,p3,p4⟩
 have kb:=hj.2.1.trans p3 hj.2.2
 refine ⟨O2,p1,p2,p3,p4.imp (fun p=>⟨p.1,p.2,kb,fun b hb hlt=>hj.2.2 b (p2 b hb (jan hlt hj.2.1.size)) hlt⟩) fun p=>⟨p.1,p.2,kb⟩⟩
theorem kxS {args:List AV} {vs:Array Value} {k:Nat} (hsz:vs.size=args.length) (hvs:∀ (j:Nat) (c:AV),args[j]?=some c->∃ u,vs[j]?=some u/\VR w O μ n c u) (s:Nat):VR w O μ n (lk (kao args) s) ((vs++Array.replicate k undef).getD s undef):=by
 simp only [kao,kpo args 0 s,jea,if_true,Nat.sub_zero]
 cases hs:args[s]? with
 | none=>simpa using VR.un _
 | some v=>
  obtain ⟨u,hu,hvr⟩:=hvs s v hs
  rw [jaf,jdq (jak.1 hu).1,hu]
  exact hvr
def yvQ (rd m:Nat) (e:Exit) (s:St):Prop:=(e = .normal\/e = .ret)/\((∃ es,lk s.env GS = .gs es/\es.length=m/\lk s.env rd = .sc (.bool true))\/(lk s.env GS = .ud/\lk s.env rd = .sc (.bool false)))
theorem YV.of_body {g l rd:Nat} {fn:Func} {c:Code} {caps avs:List AV} {ls:List (List AV)} (hf:P.funcs[g]?=some fn) (hb:fn.body=some c) (hname:(fn.name== "runtime.NumGoroutine")=false) (hargs:avs.length+caps.length<=fn.ntmps) (hN:fn.ntmps<=GS) (hres:fn.results.toList=[.tmp rd])
  (hsat:∀ (D:DX) (G:IterG) (O:Nat->Prop) (k:Nat),D.it=some G->G.l=l->IterOk P G->(∀ j,j<ls.length->G.xs[k+j]?=ls[j]?)->Sat P fn.ntmps D O c (yvQ rd (k+ls.length)) ⟨(GS,.gs (List.replicate k []))::kao (avs++caps),ah0,0⟩):YV P l (.fn g caps) avs ls:=by
 intro G k O w y cl f a next Q hl ok hJ hO hx ho hfc hv hsz ha hR
 generalize hu:a.eval f=u at hv
 cases hv with
 | fn _ _ vs us hs hc hr'=>
 have hrun:(execOp a.eval y).run P w = .ok (.enter g (cl.args.map a.eval++vs)) w:=by
  have hnb:fn.body≠none:=by rw [hb]; simp
  have hnm:fn.name≠ "runtime.NumGoroutine":=by intro hnn; rw [hnn] at hname; simp at hname
  simp [execOp,ho,resolve,hfc,hu,Deferred.ofValue,invoke,callFunc,hf,hnm,hnb]
 unfold Oper.wpIn
 refine ⟨fun _ _=>trivial,?_⟩
 rw [show Oper.semAt (FF none).round a.eval y=execOp a.eval y from rfl,hrun,Oper.uponIn_enter]
 refine ⟨(fun e=>by cases e),?_⟩
 have hval:∀ (j:Nat) (x:AV),(avs++caps)[j]?=some x->∃ u,(cl.args.map a.eval++vs)[j]?=some u/\VR w O mu0 0 x u:=fun j x hj=>by
  rw [jbm] at hj
  rw [Array.getElem?_append]
  simp only [Array.size_map,hsz] at hj ⊢
  split at hj
  ·rename_i hlt
   rw [if_pos hlt]
   exact ha j x hj
  ·rename_i hge
   rw [if_neg hge]
   exact ⟨_,hc _ x hj,hr' _ x hj⟩
 have hvsz:(cl.args.map a.eval++vs).size=(avs++caps).length:=by simp [hsz,hs]
 refine CallsIn.mono (R:=RndL G k ls.length O w) (callsIn_of_wp_marks hf hb trivial ?_) fun e w' he=>by obtain ⟨v,rfl,h2⟩:=hR e w' he; exact h2
 refine wpIn_mono (hsat ⟨w.heap.size,some (G.since O w)⟩ (G.since O w) O k rfl hl ok.since hx O (fun e=>by cases e) none mu0 _ w trivial ⟨kqU (μ:=mu0) (h:=ah0) (O:=O) (w:=w) ⟨hO,fun id b k e=>(by cases e),fun id id' b k k' e=>(by cases e),fun id b k e=>(by cases e),fun id B e=>(by cases e)⟩ hO,?_,.nil _ _ _ (jah _),fun s=>?_,fun _=>hN,?_⟩) ?_
 ·have:(avs++caps).length<=fn.ntmps:=by simpa using hargs
  rw [Array.size_append,Array.size_replicate,hvsz]; omega
 ·simp only [lk]
  by_cases hg:s=GS
  ·rw [if_pos hg,hg]
   have:(cl.args.map a.eval++vs++Array.replicate (fn.ntmps-(cl.args.map a.eval++vs).size) undef).getD GS undef=undef:=by
    rw [jaf,jdr (by rw [Array.size_append,Array.size_replicate,hvsz]; simp; omega)]; rfl
   rw [this]; exact .gs _
  ·rw [if_neg hg]
   exact kxS hvsz hval s
 ·unfold GInv
  exact ⟨w,.refl _ _,fun id b k e=>(by cases e),by simp only [lk,if_true,jcr]; exact ⟨hJ,⟨rfl,rfl,rfl,jah _,fun _ _ _=>rfl⟩,fun b hb _=>hb⟩⟩
 ·rintro e a' w' ⟨st',μ',O',o',⟨hq1,hq2⟩,hs',_⟩
  have hdef:a'.defers=[]:=hs'.defers.1 rfl
  have hl:LeavesInM (FF none) 0 P fn a'.tmps (RndL G k ls.length O w) a'.defers .returning w':=by
   rw [hdef]
   have hgi:=hs'.gi
   unfold GInv at hgi
   simp only at hgi
   obtain ⟨W,g1,g2,g3⟩:=hgi
   rcases hq2 with ⟨es,h1,h2,h3⟩ | ⟨h1,h3⟩
   ·rw [h1] at g3
    obtain ⟨g3,g4,g5⟩:=g3
    obtain ⟨u,h4,h5⟩:=kir (fn:=fn) (v:=.sc (.bool true)) hs' (by rw [hres]; simp [kaT,kbU,h3])
    refine ⟨u,h4,O',hs'.hr.olt,g5,g4.below g1,.inl ⟨by rw [h5.sc_inv],?_⟩⟩
    rw [<-h2]; exact ok.jb _ _ _ _ g3 g1
   ·rw [h1] at g3
    obtain ⟨g3,g4⟩:=g3
    obtain ⟨u,h4,h5⟩:=kir (fn:=fn) (v:=.sc (.bool false)) hs' (by rw [hres]; simp [kaT,kbU,h3])
    exact ⟨u,h4,fun _=>False,fun b hb=>hb.elim,fun b hb=>hb.elim,g4.below g1,.inr ⟨by rw [h5.sc_inv],ok.xb _ _ g3 g1⟩⟩
  rcases hq1 with rfl | rfl <;> exact hl
def rdO (P:Program) (h:AH) (o:Oper) (env:Env) (v:AV):Prop:=∀ (n:Nat) (K:K3),K v h n->aop P env h n o K
def aopsR (P:Program) (h:AH) (ds:List (Option Tmp)):List Oper->Env->(Env->Prop)->Prop
 | [],env,K=>K env
 | o::r,env,K=>
  match o.guard with
  | none=>∃ v,rdO P h o env v/\aopsR P h ds r (putE env o.dst v) K
  | some (g,want)=>match kbd ds g with
   | some d=>match lk env d with
    | .sc (.bool b)=>if b=want then ∃ v,rdO P h o ((d,.sc (.bool want))::env) v/\aopsR P h ds r (putE ((d,.sc (.bool want))::env) o.dst v) K else aopsR P h ds r (putE ((d,.sc (.bool (!want)))::env) o.dst .ud) K
    | .ud=>aopsR P h ds r (putE env o.dst .ud) K
    | _=>False
   | none=>False
theorem aopsR.plain {ds:List (Option Tmp)} {h:AH} {n:Nat} {K:St->Prop}:∀ {l:List Oper} {env:Env},aopsR P h ds l env (fun e=>K ⟨e,h,n⟩)->aops P ds l ⟨env,h,n⟩ K
 | [],env,hk=>hk
 | o::r,env,hk=>by
  unfold aopsR at hk
  unfold aops
  cases hg:o.guard with
  | none=>
   rw [hg] at hk
   obtain ⟨v,h1,h2⟩:=hk
   exact h1 _ _ (aopsR.plain h2)
  | some gw=>
   obtain ⟨g,want⟩:=gw
   rw [hg] at hk
   simp only at hk ⊢
   split at hk
   ·rename_i d hd
    rw [hd]
    simp only at hk ⊢
    split at hk
    ·rename_i b hb
     rw [hb]
     simp only
     refine ⟨fun e=>?_,fun e=>?_⟩
     ·rw [if_pos e] at hk
      obtain ⟨v,h1,h2⟩:=hk
      exact h1 _ _ (aopsR.plain h2)
     ·rw [if_neg (by rw [e]; cases want <;> simp)] at hk
      exact aopsR.plain hk
    ·rename_i hb
     rw [hb]
     exact aopsR.plain hk
    ·exact hk.elim
   ·exact hk.elim
theorem aopsR.tree {ds:List (Option Tmp)} {h:AH} {n:Nat} {K:St->Prop}:∀ {l:List Oper} {env:Env} {j:Nat} {pd:List Pn},aopsR P h ds l env (fun e=>K ⟨e,h,n⟩)->treeD P ds (fun _=>false) (fun _=>[]) l j ⟨env,h,n⟩ pd K
 | [],env,j,pd,hk=>hk
 | o::r,env,j,pd,hk=>by
  have st1:∀ env1:Env,(∃ v,rdO P h o env1 v/\aopsR P h ds r (putE env1 o.dst v) (fun e=>K ⟨e,h,n⟩))->stepT P (fun _=>false) (fun _=>[]) o j env1 h n pd fun s t=>treeD P ds (fun _=>false) (fun _=>[]) r (j+1) s t K:=fun env1 ⟨v,h1,h2⟩=>by
   unfold stepT
   rw [if_neg (by simp)]
   exact ⟨⟨j,o,env1,v,(·= h)⟩,rfl,rfl,rfl,rfl,fun h1' n1 K' e hk'=>by cases e; exact h1 _ _ hk',aopsR.tree h2⟩
  unfold aopsR at hk
  unfold treeD
  cases hg:o.guard with
  | none=>
   rw [hg] at hk
   exact st1 env hk
  | some gw=>
   obtain ⟨g,want⟩:=gw
   rw [hg] at hk
   simp only at hk ⊢
   split at hk
   ·rename_i d hd
    rw [hd]
    simp only at hk ⊢
    split at hk
    ·rename_i b hb
     rw [hb]
     simp only
     refine ⟨fun e=>?_,fun e=>?_⟩
     ·rw [if_pos e] at hk
      exact st1 _ hk
     ·rw [if_neg (by rw [e]; cases want <;> simp)] at hk
      exact aopsR.tree hk
    ·rename_i hb
     rw [hb]
     exact aopsR.tree hk
    ·exact hk.elim
   ·exact hk.elim
theorem PreY.of_tree {l:List Oper} {W:Nat->Bool} {anc:Nat->List Nat} {K:St->Prop} (hd:kcR l=true) (hdst:kaZ N l=true) (hanc:∀ i j,i∈anc j->Anc l i j) (hW:∀ w j,w<j->j<l.length->W w=true->Anc l w j)
  (ht:treeD P (l.map (·.dst)) W anc l 0 st [] K):PreY P N D l st K:=by
 intro O1 μ a w Q' hs hq
 obtain ⟨e1,hr1⟩:=hs.hr.drew
 have hs1:SR N D O1 μ ⟨st.env,st.h,st.n⟩ a w.drew:=hs.step hr1 e1
 have L:Can P l st W 0 (fun _=>st.env) (fun _=>.ud) (fun _=>false) st.h [] (fun _=>False):=⟨fun s=>rfl,fun j o hj=>by omega,fun j o hj=>by omega,fun j o hj=>by omega⟩
 obtain ⟨k',E',V',A',pd',env',g1,g2,g3,g4,g5,g6⟩:=Can.adv (anc:=anc) (K:=K) l.length 0 (n:=st.n) (env:=st.env) (by omega) L (fun s=>rfl) (by simpa using ht) (fun i hi=>hi.elim)
 refine kvm (D:=D) (O:=O1) (st0:=st) (K:=K) hd hdst hanc hW (μ0:=μ) (w0:=w) (fun cenv env h n μ' a' w' hk hl hs' he'=>hq _ μ' a' w' hk ⟨hs'.hr,hs'.size,hs'.defers,fun s=>?_,hs'.gs,hs'.gi.evo hs'.hr.refl fun _=>.inl (hl GS).symm⟩)
  _ _ (fun _=>False) k' E' V' A' pd' env' st.env st.h st.n μ a w.drew (by simp) (fun i hi=>by simp [jaf,hi]) (fun i h=>h.elim) g2 (fun j o _ h=>h.elim) ⟨fun s _=>rfl,fun s i oi h=>h.elim⟩ g3 g5 g6 hs1 e1 ⟨List.range l.length,by simp,fun i hi _=>jcj.2 hi⟩
 have:=hs'.env s
 rw [hl s] at this; exact this
theorem ktB {α:Type} {l:List α} {k:Nat} {y:α} (h:l[k]?=some y):l=l.take k++y::l.drop (k+1)/\(l.take k).length=k:=by
 obtain ⟨hk,e⟩:=jad.1 h
 exact ⟨by rw [<-e,<-jdt hk,List.take_append_drop],by rw [jbh]; omega⟩
variable {l:List Oper} {cs:List Code} {env:Env}
theorem SatL.rreg {id:Nat} (hd:kaZ N l=true) (hk:aopsR P h (l.map (·.dst)) l env fun e=>SatL P N D O cs Q ⟨e,h,n⟩):SatL P N D O (.region id l.toArray false::cs) Q ⟨env,h,n⟩:=
 Sat.region hd hk.plain
theorem SatL.rregD {id:Nat} (hm:P.follows .mixedOrders=true) (hdr:kcR l=true) (hd:kaZ N l=true) (hk:aopsR P h (l.map (·.dst)) l env fun e=>SatL P N D O cs Q ⟨e,h,n⟩):SatL P N D O (.region id l.toArray true::cs) Q ⟨env,h,n⟩:=
 Sat.draw0 hm (SatA.of_tree hdr hd (W:=fun _=>false) (anc:=fun _=>[]) (fun i j h=>by cases h) (fun w j _ _ h=>by cases h) hk.tree)
theorem SatL.yreg {id:Nat} (k:Nat) {y:Oper} (hy:l[k]?=some y) (hD:D.it=some G) (ok:IterOk P G) (hd:kaZ N l=true) (hk:aopsR P h (l.map (·.dst)) (l.take k) env fun e=>YieldK P G (l.map (·.dst)) y (l.drop (k+1)) (SatL P N D O cs Q) ⟨e,h,n⟩):SatL P N D O (.region id l.toArray false::cs) Q ⟨env,h,n⟩:=by
 obtain ⟨hsplit,hlen⟩:=ktB hy
 have:=Sat.regionY (P:=P) (N:=N) (D:=D) (O:=O) (Q:=thenQ (SatL P N D O cs Q) Q) (id:=id) (st:=⟨env,h,n⟩) (l1:=l.take k) (y:=y) (l2:=l.drop (k+1)) hD ok (by rw [<-hsplit]; exact hd) (by rw [<-hsplit]; exact hk.plain)
 rw [<-hsplit] at this
 exact this
theorem SatL.yregD {id:Nat} (k:Nat) {y:Oper} (hy:l[k]?=some y) (hD:D.it=some G) (ok:IterOk P G) (hm:P.follows .mixedOrders=true) (hdr:kcR l=true) (hdr1:kcR (l.take k)=true) (hb:barOk l k=true) (hd:kaZ N l=true)
  (hk:aopsR P h ((l.take k).map (·.dst)) (l.take k) env fun e=>YieldK P G (l.map (·.dst)) y (l.drop (k+1)) (SatL P N D O cs Q) ⟨e,h,n⟩):SatL P N D O (.region id l.toArray true::cs) Q ⟨env,h,n⟩:=by
 obtain ⟨hsplit,hlen⟩:=ktB hy
 have hd1:kaZ N (l.take k)=true:=by unfold kaZ at hd ⊢; rw [jam] at hd ⊢; exact fun o ho=>hd o (jco ho)
 have:=Sat.drawY (P:=P) (N:=N) (D:=D) (O:=O) (Q:=thenQ (SatL P N D O cs Q) Q) (id:=id) (st:=⟨env,h,n⟩) (l1:=l.take k) (y:=y) (l2:=l.drop (k+1)) hD ok hm (by rw [<-hsplit]; exact hdr) (by rw [<-hsplit,hlen]; exact hb) (by rw [<-hsplit]; exact hd)
  (PreY.of_tree hdr1 hd1 (W:=fun _=>false) (anc:=fun _=>[]) (fun i j h=>by cases h) (fun w j _ _ h=>by cases h) (aopsR.tree (by rw [<-hsplit]; exact hk)))
 rw [<-hsplit] at this
 exact this
theorem kxz (l:List Nat) (env:Env) (s:Nat):lk (keep l env) s = .un\/(s∈l/\lk (keep l env) s=lk env s):=by
 by_cases hs:s∈l
 ·rcases kyF l env s with e | e
  ·exact .inr ⟨hs,e⟩
  ·exact .inl e
 ·left
  have:∀ l:List Nat,s∉l->lk (keep l env) s = .un:=fun l=>by
   induction l with
   | nil=>intro _; rfl
   | cons x l ih=>
    intro hn
    simp only [keep,jap,lk]
    rw [if_neg (fun e=>hn (by simp [e]))]
    exact ih fun h=>hn (by simp [h])
  exact this l hs
theorem YieldK.of {ds:List (Option Tmp)} {y:Oper} {l2:List Oper} {K:St->Prop} (live:List Nat) {c:Call} {f:Operand} {g:AV} {avs:List AV} {ls es:List (List AV)} {z:AH} (hg:GOk1 ds y env) (ho:y.op = .call c) (hf:c.callee = .value f) (hY:YV P G.l g avs ls) (hs:lk env GS = .gs es)
  (hx:∀ j,j<ls.length->G.xs[es.length+j]?=ls[j]?) (hz:∀ q B,z q=some B->h q=some B) (hfv:SnapV z (ev env f) g) (ha:SnapL z (c.args.toList.map (ev env)) avs) (hl:∀ t∈live,Free (lk env t))
  (hT:aops P ds l2 ⟨putE ((GS,.gs (es++ls))::keep live env) y.dst (.sc (.bool true)),ah0,n⟩ K) (hF:aops P ds l2 ⟨putE ((GS,.ud)::keep live env) y.dst (.sc (.bool false)),ah0,n⟩ K):YieldK P G ds y l2 K ⟨env,h,n⟩:=
 ⟨hg,c,f,g,avs,ls,es,z,keep live env,ls,ho,hf,hY,hs,hx,hz,hfv,ha,fun t _=>(kxz live env t).imp id fun e=>⟨e.2,hl t e.1⟩,rfl,hT,hF⟩
variable {o:Oper}
theorem rdO.move {x:Operand} {v:AV} (ho:o.op = .move x) (hx:ev env x=v):rdO P h o env v:=fun n K hk=>by unfold aop; rw [ho]; simp only; rw [hx]; exact hk
theorem rdO.assign {x:Operand} {v:AV} (ho:o.op = .assign x) (hx:ev env x=v):rdO P h o env v:=fun n K hk=>by unfold aop; rw [ho]; simp only; rw [hx]; exact hk
theorem rdO.load {T:TypeId} {x:Operand} {v:AV} {cs:List AV} (ho:o.op = .load T x) (hx:deref h (ev env x)=some (v::cs)) (hT:aggO P T=some false):rdO P h o env v:=fun n K hk=>by
 unfold aop; rw [ho]; simp only; rw [hx]; simp only [loadK,hT]; exact ⟨v,rfl,hk⟩
theorem rdO.len {c:Call} {x:Operand} {T:TypeId} {es:List (List AV)} (ho:o.op = .call c) (hc:c.callee = .builtin .len) (ha:c.args = #[x]) (ht:c.argTypes = #[T]) (hx:ev env x = .sl es) (hT:(elemO P T).isSome=true):rdO P h o env (.sc (.int .i64 es.length)):=fun n K hk=>by
 unfold aop; rw [ho]; simp only; rw [hc,ha,ht]; simp only [kah]; rw [hx]; exact ⟨hT,fun _=>hk⟩
theorem rdO.bin {op:BinOp} {T T2:TypeId} {x y:Operand} {v:AV} (ho:o.op = .binOp op T x y T2) {k k':IntKind} {a b:Int} (hx:ev env x = .sc (.int k a)) (hy:ev env y = .sc (.int k' b)) (hb:∀ K:AV->Prop,K v->abinI op k a k' b K):rdO P h o env v:=fun n K hk=>by
 unfold aop; rw [ho]; simp only; rw [hx,hy]; exact hb (fun v=>K v h n) hk
theorem rdO.not {T:TypeId} {x:Operand} {v:AV} (b:Bool) (ho:o.op = .unOp .not T x) (hx:ev env x = .sc (.bool b)) (hv:AV.sc (.bool !b)=v):rdO P h o env v:=fun n K hk=>by subst hv; unfold aop; rw [ho]; simp only; rw [hx]; exact hk
theorem rdO.pick {x y z:Operand} {b:Bool} {v:AV} (ho:o.op = .pick x y z) (hx:ev env x = .sc (.bool b)) (hv:(if b then ev env y else ev env z)=v):rdO P h o env v:=fun n K hk=>by unfold aop; rw [ho]; simp only; rw [hx]; simp only; rw [hv]; exact hk
theorem rdO.extract {x:Operand} {i:Nat} {cs:List AV} {v:AV} (ho:o.op = .extract x i) (hx:ev env x = .tp cs) (hv:cs[i]?=some v):rdO P h o env v:=fun n K hk=>by unfold aop; rw [ho]; simp only; rw [hx]; exact ⟨v,hv,hk⟩
theorem rdO.idx {T e:TypeId} {x i:Operand} {es:List (List AV)} {c:List AV} {k:IntKind} {j:Int} (ho:o.op = .indexAddr T x i) (hx:ev env x = .sl es) (hi:ev env i = .sc (.int k j)) (hT:elemO P T=some e) (h0:0<=j) (hc:es[j.toNat]?=some c) (hl:c.length=P.cellsOf e) (hn:c.length≠0):rdO P h o env (.fp c):=fun n K hk=>by
 unfold aop; rw [ho]; simp only; rw [hx,hi]; simp only [kct,hT]; exact ⟨h0,c,hc,hl,hn,hk⟩
theorem rdO.call {c:Call} {f:Operand} {g:FuncId} {args:List AV} {r:AV} (ho:o.op = .call c) (hc:c.callee = .value f) (hf:ev env f = .fn g []) (ha:c.args.toList.map (ev env)=args) (hp:PC P g args (·= r)) (hfr:FreeL args):rdO P h o env r:=fun n K hk=>by
 unfold aop; rw [ho]; simp only; rw [hc]; simp only [callK]; rw [hf]; simp only; rw [ha,jbd]; exact hp.call1 hfr hk
theorem aop.alloc {T:TypeId} {z:List AV} {K:K3} (ho:o.op = .alloc T) (hz:zeroO P T=some z) (hk:K (.own n 0 0) (updH h n (.cells z.length T [z])) (n+1)):aop P env h n o K:=by unfold aop; rw [ho]; simp only; rw [hz]; exact hk
theorem aop.store {T:TypeId} {p x:Operand} {id k:Nat} {T':TypeId} {a b:AV} {K:K3} (ho:o.op = .store T p x) (hp:ev env p = .own id 0 0) (hB:h id=some (.cells k T' [[a]])) (hx:kax (ev env x)=some [b]) (hT:P.cellsOf T=1) (hk:K .ud (updH h id (.cells k T' [[b]])) n):aop P env h n o K:=by
 unfold aop; rw [ho]; simp only; rw [hp]; simp only [kbz,hB,hx]; exact ⟨hT.symm,by simp,by simp,hk⟩
theorem aop.mkfn {f:FuncId} {caps:Array Operand} {v:AV} {K:K3} (ho:o.op = .makeFunc (.func f) #[] caps) (hv:AV.fn f (caps.toList.map (ev env))=v) (hk:K v h n):aop P env h n o K:=by unfold aop; rw [ho]; simp only; rw [hv]; exact ⟨trivial,hk⟩
theorem aops.cons {ds:List (Option Tmp)} {r:List Oper} {K:St->Prop} (hg:o.guard=none) (hk:aop P env h n o fun v h n=>aops P ds r ⟨putE env o.dst v,h,n⟩ K):aops P ds (o::r) ⟨env,h,n⟩ K:=by unfold aops; rw [hg]; exact hk
end
section
variable {P:Program} {D:DX} {O:Nat->Prop}
structure Jd where
 e:List (Nat×TV sem)
 κ:Nat->Option Nat
 ln:Nat->Nat
structure RJ (J:Jd) (P:Program) (κ:Nat->Option Nat) (ln:Nat->Nat) (z:AH) (c:Cx sem) (s:TS sem) (env:Env) (h:AH) (n:Nat):Prop where
 R:Rel P κ ln z c s env h n
 j:∀ x v id,alk J.e x=some v->v.has id=true->κ id=J.κ id/\ln id=J.ln id
 w:∀ x v,alk J.e x=some v->alk c.e0 x=some v
section
variable {κ:Nat->Option Nat} {ln:Nat->Nat} {z:AH} {c:Cx sem} {s:TS sem} {env:Env} {h:AH} {n:Nat} {J:Jd}
theorem RJ.ke (R:RJ J P κ ln z c s env h n) (W:CxWf c) {κ':Nat->Option Nat} {ln':Nat->Nat} {z':AH} {s':TS sem} {env':Env} {h':AH} {n':Nat} (ke:Ke c s.n κ ln κ' ln') (R':Rel P κ' ln' z' c s' env' h' n'):RJ J P κ' ln' z' c s' env' h' n':=
 ⟨R',fun x v id hv hi=>by
  obtain ⟨e1,e2⟩:=ke id (R.R.has_lt W (kdy (R.w x v hv) hi))
  obtain ⟨e3,e4⟩:=R.j x v id hv hi
  exact ⟨e1.trans e3,(e2 (kdy (R.w x v hv) hi)).trans e4⟩,R.w⟩
theorem RJ.into (R:RJ J P κ ln z c s env h n) {l:La} (hk:okLa l c s=true):RJ J P κ ln z (inCx l c s) ⟨s.env.filter (fun x=>!l.keep.contains x.1),s.hp.filter (fun x=>!l.gids.contains x.1),s.n,s.dy⟩ env h n:=
 ⟨R.R.into hk,R.j,fun x v hv=>by
  rw [kim,if_neg]
  ·exact R.w x v hv
  ·intro hc
   have h1:=(kdB hk).1 x (by simpa using hc)
   rw [R.w x v hv] at h1; cases h1⟩
theorem kiz {l:La} {s1:TS sem} (hk:okLa l c s=true) (hc:∀ id,(inCx l c s).has id=true->id<s.n) (R:RJ J P κ ln z (inCx l c s) s1 env h n) {x:l.head.ty.den} (hp:pack (inCx l c s) s.n l.head s1=some x) :
  ∃ κ2 ln2 z2,RJ J P κ2 ln2 z2 (inCx l c s) (kad l.head s.n x) env h n:=by
 obtain ⟨κ2,ln2,z2,R2,e⟩:=kxJ hk hc R.R hp
 exact ⟨κ2,ln2,z2,R2,fun x v id hv hi=>⟨(e id (kdy (R.w x v hv) hi)).1.trans (R.j x v id hv hi).1,(e id (kdy (R.w x v hv) hi)).2.trans (R.j x v id hv hi).2⟩,R.w⟩
theorem kjR {l:La} {s1:TS sem} {κ0:Nat->Option Nat} {ln0:Nat->Nat} {z0:AH} {env0:Env} {h0:AH} {n0:Nat} (R0:RJ J P κ0 ln0 z0 c s env0 h0 n0) (hk:okLa l c s=true) (hc:∀ id,(inCx l c s).has id=true->id<l.n) (R:RJ J P κ ln z (inCx l c s) s1 env h n) {x:l.out.ty.den} (hp:pack (inCx l c s) l.n l.out s1=some x) :
  ∃ κ2 ln2 z2,RJ J P κ2 ln2 z2 c (outTS l c s x) env h n:=by
 obtain ⟨κ2,ln2,z2,R2,e⟩:=kvy R0.R hk hc R.R hp
 exact ⟨κ2,ln2,z2,R2,fun x v id hv hi=>⟨(e id (kdy (R.w x v hv) hi)).1.trans (R.j x v id hv hi).1,(e id (kdy (R.w x v hv) hi)).2.trans (R.j x v id hv hi).2⟩,R0.w⟩
end
structure KonOk (D:DX) (J:Jd) (P:Program) {r ρ:Ty} (Q:Exit->St->Prop) (RetQ:r.den->St->Prop) (c:Cx sem) (K:Kon sem r ρ) (rr:ρ.den):Prop where
 nrm:∀ κ ln z s env h n,RJ J P κ ln z c s env h n->K.nrm s=some rr->Q .normal ⟨env,h,n⟩
 ext:∀ id κ ln z s env h n,RJ J P κ ln z c s env h n->K.ext id s=some rr->Q (.exit id) ⟨env,h,n⟩
 retv:∀ v st,RetQ v st->K.retv v=some rr->Q .ret st
 stop:D.it.isSome=true->∀ st,lk st.env GS = .ud->Q .ret st
def YOk (P:Program) (D:DX) (Δ:List (FuncId×Ctr)) (J:Jd):Prop:=
 ((alk Δ IM).isNone=true->D.it=none)/\((alk Δ IM).isSome=true->∃ G,D.it=some G/\IterOk P G/\
  (∀ nm ts F,(alk Δ IM).bind (fun C=>C.its.head?)=some ⟨nm,[.nt],ts,F⟩->∃ xs,F (0:Nat)=some xs/\G.xs=xs.map (avsL ts))/\alk J.e 0=some (.yl 0)/\J.κ 0=some G.l)
theorem koV {α β:Type} {F:α->Option (α⊕β)} {k:Nat} {x:α} {e:β} (h:itN F k x=some e):∃ k',k=k'+1/\((∃ y,F x=some (.inl y)/\itN F k' y=some e)\/F x=some (.inr e)):=by
 cases k with
 | zero=>simp [itN] at h
 | succ k=>
  refine ⟨k,rfl,?_⟩
  simp only [itN] at h
  split at h
  ·cases h
  ·rename_i y hy; exact .inl ⟨y,hy,h⟩
  ·rename_i w hw; cases h; exact .inr hw
theorem kvY {α β:Type} {F:α->Option (α⊕β)} {x:α} {e:β} (h:iter F x=some e):∃ G,G=F/\iter G x=some e:=⟨F,rfl,h⟩
theorem kxG {α:Type} (l:List α):lenI l=(l.length:Int):=rfl
theorem ksA:∀ (ts:List Ty) (x:(tup ts).den),(unT sem ts x).length=ts.length
 | [],_=>rfl
 | [t],_=>rfl
 | t::u::ts,x=>by simp [unT,ksA (u::ts)]
theorem kmn {α:Type}:∀ {l:List α} {k:Nat} {y:α},l[k]?=some y->l=l.take k++y::l.drop (k+1)/\(l.take k).length=k
 | [],k,y,h=>by simp at h
 | x::l,0,y,h=>by simp at h; subst h; exact ⟨rfl,rfl⟩
 | x::l,k+1,y,h=>by
  obtain ⟨h1,h2⟩:=kmn (l:=l) (k:=k) (y:=y) (by simpa using h)
  refine ⟨?_,by simp [h2]⟩
  simp only [List.take_succ_cons,List.drop_succ_cons,jdp]
  rw [<-h1]
theorem Rel.swap {κ:Nat->Option Nat} {ln:Nat->Nat} {z:AH} {c:Cx sem} {s:TS sem} {env env2:Env} {h:AH} {n:Nat} (R:Rel P κ ln z c s env h n) (he:∀ x,TVR P κ ln z s.n (tlk c s x) (lk env2 x)):Rel P κ ln z c s env2 h n:=
 ⟨he,R.blk,R.lt,R.inj,R.zin,R.zout,R.bnd,R.hn,R.e0,R.g,R.dy,R.zk,R.fam⟩
theorem ktj:∀ (ts:List Ty) (x:(tup ts).den),(avsL ts x).length=ts.length
 | [],_=>rfl
 | [t],_=>rfl
 | t::u::ts,x=>by simp [avsL,ktj (u::ts)]
theorem kwW {κ:Nat->Option Nat} {ln:Nat->Nat} {z:AH} {N:Nat} {c:Cx sem} (hp:List (Nat×Option (TB sem))) (m:Nat) (dy:Bool):∀ (ps:List Tmp) (l:List ((t:Ty)×t.den)) (as:List AV) (E:List (Nat×TV sem)) (env:Env),l.length=ps.length->TVRs P κ ln z N (l.map fun y=>TV.c y.1 y.2) as->(∀ x,TVR P κ ln z N (tlk c ⟨E,hp,m,dy⟩ x) (lk env x))->
  ∀ x,TVR P κ ln z N (tlk c ⟨rndE (A:=sem) ps l E,hp,m,dy⟩ x) (lk (kjZ ps as env) x)
 | [],l,as,E,env,hl,hs,he,x=>by simpa [rndE,kjZ] using he x
 | p::ps,[],as,E,env,hl,hs,he,x=>by simp at hl
 | p::ps,y::l,_,E,env,hl,.cons _ a _ as hv hs,he,x=>by
  refine kwW hp m dy ps l as ((p,.c y.1 y.2)::E) ((p,a)::env) (by simpa using hl) hs (fun t=>?_) x
  have h1:tlk (A:=sem) c ⟨(p,.c y.1 y.2)::E,hp,m,dy⟩ t=if t=p then .c y.1 y.2 else tlk c ⟨E,hp,m,dy⟩ t:=by
   unfold tlk
   simp only [alk]
   by_cases ht:t=p
   ·rw [if_pos ht,if_pos ht]
   ·rw [if_neg ht,if_neg ht]
  rw [h1]
  simp only [lk]
  by_cases ht:t=p
  ·rw [if_pos ht,if_pos ht]; exact hv
  ·rw [if_neg ht,if_neg ht]; exact he t
theorem kym (ps:List Tmp):∀ (l:List ((t:Ty)×t.den)) (E:List (Nat×TV sem)) {x:Nat} {v:TV sem},alk (rndE (A:=sem) ps l E) x=some v->x∈ps\/alk E x=some v:=by
 induction ps with
 | nil=>intro l E x v h; exact .inr h
 | cons p ps ih=>
  intro l E x v h
  cases l with
  | nil=>exact .inr h
  | cons y l=>
   rcases ih l ((p,.c y.1 y.2)::E) h with h | h
   ·exact .inl (jbb _ h)
   ·simp only [alk] at h
    split at h
    ·rename_i e; exact .inl (by simp [e])
    ·exact .inr h
theorem kjn {Δ:List (FuncId×Ctr)} (hΔ:Goods P Δ) {An:Nat->(A:Alg)->Cx A->TS A->Option La} {nt:Nat} :
  ∀ (fuel:Nat) {r:Ty} {res:Cx sem->TS sem->Option r.den} {J:Jd} {RetQ:r.den->St->Prop} (hres:∀ (c:Cx sem) κ ln s env h n v,CxWf c->RJ J P κ ln ahN c s env h n->res c s=some v->RetQ v ⟨env,h,n⟩) (hY:YOk P D Δ J) {ρ:Ty} (c:Cx sem) (cs:List Code) (K:Kon sem r ρ) (s:TS sem) (Q:Exit->St->Prop) (rr:ρ.den) (κ:Nat->Option Nat) (ln:Nat->Nat) (z:AH) (env:Env) (h:AH) (n:Nat),CxWf c->RJ J P κ ln z c s env h n->KonOk D J P Q RetQ c K rr->
   mach P Δ An nt fuel res c cs K s=some rr->SatL P nt D O cs Q ⟨env,h,n⟩
 | 0,r,res,J,RetQ,hres,hY,ρ,c,cs,K,s,Q,rr,κ,ln,z,env,h,n,W,R,ok,hk=>by simp only [mach] at hk; exact kaa hk
 | fuel+1,r,res,J,RetQ,hres,hY,ρ,c,cs,K,s,Q,rr,κ,ln,z,env,h,n,W,R,ok,hk=>by
  have IHg:=@kjn Δ hΔ An nt fuel
  have IH:=@IHg r res J RetQ hres hY
  cases cs with
  | nil=>simp only [mach] at hk; exact SatL.nil (ok.nrm _ _ _ _ _ _ _ R hk)
  | cons cd cs=>
   cases cd <;> simp only [mach] at hk
   case skip=>exact SatL.skip (IH _ _ _ _ _ _ _ _ _ _ _ _ W R ok hk)
   case seq a b=>exact SatL.seq (IH _ _ _ _ _ _ _ _ _ _ _ _ W R ok hk)
   case ret=>
    split at hk
    ·rename_i v hv
     refine SatL.wk R.R fun env h R1=>?_
     exact SatL.ret (ok.retv v _ (hres _ _ _ _ _ _ _ _ W ⟨R1,R.j,R.w⟩ (by exact hv)) hk)
    ·exact kaa hk
   case exit id=>exact SatL.exit (ok.ext id _ _ _ _ _ _ _ R hk)
   case region id ops draw=>
    refine SatL.wk R.R fun env h R1=>?_
    replace R:RJ J P κ ln ahN c { s with dy:=false } env h n:=⟨R1,R.j,R.w⟩
    clear R1
    have reg:∀ (c:Cx sem) (W:CxWf c) (s:TS sem) {κ ln z env h n} (R:RJ J P κ ln z c { s with dy:=false } env h n) {ρ':Ty} (Kf:TS sem->sem.Ans ρ') (w:ρ'.den),(∀ κ ln z s' env' h' n',RJ J P κ ln z c s' env' h' n'->Kf s'=some w->SatL P nt D O cs Q ⟨env',h',n'⟩)->
      (if (okD c (ops.toList.map (·.dst))&&kaZ nt ops.toList)=true then (if draw=true then drawV P c Δ nt ops.toList { s with dy:=false } Kf else xops P c Δ (ops.toList.map (·.dst)) ops.toList { s with dy:=false } Kf) else sem.fail "slot that stays")=some w->SatL P nt D O (.region id ops draw::cs) Q ⟨env,h,n⟩:=by
     intro c W s κ ln z env h n R ρ' Kf w hK hki
     split at hki
     ·rename_i hc
      rw [jac] at hc
      split at hki
      ·rename_i hd
       subst hd
       have:=kuD (N:=nt) (D:=D) (O:=O) (Q:=Q) (id:=id) hΔ R.R (fun κ' ln' z' s' env' h' n' ke R' hk'=>hK κ' ln' z' s' env' h' n' (R.ke W ke R') hk') hki
       rw [show ops.toList.toArray=ops from rfl] at this
       exact this
      ·rename_i hd
       rw [jch] at hd
       subst hd
       have:=Sat.region (P:=P) (N:=nt) (D:=D) (O:=O) (Q:=thenQ (SatL P nt D O cs Q) Q) (st:=⟨env,h,n⟩) (id:=id) hc.2 (kcD hΔ hc.1 (K:=fun st=>SatL P nt D O cs Q st) (fun κ' ln' z' s' env' h' n' ke R' hk'=>hK κ' ln' z' s' env' h' n' (R.ke W ke R') hk') ops.toList .refl (jah _) (fun o ho=>jay.2 ⟨o,ho,rfl⟩) R.R hki)
       rw [show ops.toList.toArray=ops from rfl] at this
       exact this
     ·exact kaa hki
    split at hk
    ·
     rename_i k hyi
     have hIM:(alk Δ IM).isSome=true:=by
      unfold yIdx at hyi
      split at hyi
      ·cases hyi
      ·rename_i hn; cases hh:alk Δ IM with
       | none=>rw [hh] at hn; exact absurd rfl hn
       | some C=>rfl
     obtain ⟨G,hD,okG,hIF,hJ0,hJκ⟩:=hY.2 hIM
     split at hk
     ·exact kaa hk
     rename_i y hyk
     obtain ⟨hsplit,hlen⟩:=kmn hyk
     split at hk
     rotate_left
     ·exact kaa hk
     rename_i hc
     simp only [jac] at hc
     obtain ⟨⟨⟨hc1,hc2⟩,hcg⟩,hc3⟩:=hc
     have hgn:y.guard=none:=by simpa using hcg
     have hdstM:∀ (l:List Oper),(∀ o∈l,o∈ops.toList)->∀ o∈l,o.dst∈ops.toList.map (·.dst):=fun l hl o ho=>jay.2 ⟨o,hl o ho,rfl⟩
     have hm1:∀ o∈ops.toList.take k,o∈ops.toList:=fun o ho=>jco ho
     have hm2:∀ o∈ops.toList.drop (k+1),o∈ops.toList:=fun o ho=>jda ho
     have hym:y∈ops.toList:=jag hyk
     have hyd:∀ d,y.dst=some d->alk c.e0 d=none:=fun d hd=>by
      have:=jam.1 (show (ops.toList.map (·.dst)).all _=true from hc1) (y.dst) (jay.2 ⟨y,hym,rfl⟩)
      rw [hd] at this; simpa using this
     have stp:∀ κ1 ln1 z1 s1 env1 h1 n1,Ke c s.n κ ln κ1 ln1->Rel P κ1 ln1 z1 c s1 env1 h1 n1->kqb (A:=sem) c Δ s1 y (fun s2=>xops P c Δ (ops.toList.map (·.dst)) (ops.toList.drop (k+1)) s2 fun s3=>mach P Δ An nt fuel (A:=sem) (r:=.un) (ρ:=.un) kqS c cs kvJ s3)
       (fun s2=>xops P c Δ (ops.toList.map (·.dst)) (ops.toList.drop (k+1)) s2 fun s3=>mach P Δ An nt fuel res c cs K s3)=some rr->YieldK P G (ops.toList.map (·.dst)) y (ops.toList.drop (k+1)) (fun st=>SatL P nt D O cs Q st) ⟨env1,h1,n1⟩:=fun κ1 ln1 z1 s1 env1 h1 n1 ke R1 hk1=>by
      have RJ1:=R.ke W ke R1
      have hκ0:κ1 0=some G.l:=by rw [(RJ1.j 0 (.yl 0) 0 hJ0 (by simp [TV.has])).1]; exact hJκ
      refine kta hIF W R1 hκ0 hyd hk1 (fun s2 env2 R2 hn2 hk2=>?_) (fun s2 env2 w0 R2 hn2 hk2=>?_)
      ·exact kcD hΔ hc1 (K:=fun st=>SatL P nt D O cs Q st) (fun κ' ln' z' s' env' h' n' ke' R' hk'=>IH _ _ _ _ _ _ _ _ _ _ _ _ W ((⟨R2,RJ1.j,RJ1.w⟩:RJ J P κ1 ln1 ahN c s2 env2 ah0 n1).ke W ke' R') ok hk') _ .refl (jah _) (hdstM _ hm2) R2 hk2
      ·refine kcD hΔ hc1 (K:=fun st=>SatL P nt D O cs Q st) (fun κ' ln' z' s' env' h' n' ke' R' hk'=>?_) _ .refl (jah _) (hdstM _ hm2) R2 hk2
       refine @IHg .un _ J (fun _ st=>lk st.env GS = .ud) (fun c κ ln s env h n v W R hv=>?_) hY .un c cs _ s' Q w0 κ' ln' z' env' h' n' W ((⟨R2,RJ1.j,RJ1.w⟩:RJ J P κ1 ln1 ahN c s2 env2 ah0 n1).ke W ke' R') ⟨fun _ _ _ _ _ _ _ _ hf=>kaa hf,fun _ _ _ _ _ _ _ _ _ hf=>kaa hf,fun v st hv _=>ok.stop (by rw [hD]; rfl) st hv,ok.stop⟩ hk'
       unfold kqS at hv
       split at hv
       ·rename_i hud
        have hR:=R.R.env GS
        have:tlk c s GS = .ud:=by unfold tlk; rw [hud]
        rw [this] at hR
        show lk env GS = .ud
        generalize lk env GS=a at hR
        cases hR; rfl
       ·cases hv
     have hopsA:(ops.toList.take k++y::ops.toList.drop (k+1)).toArray=ops:=by rw [<-hsplit]
     split at hk
     ·rename_i hdr
      subst hdr
      simp only [jdu,jdk,jac] at hc3
      obtain ⟨⟨hmx,hdo⟩,hbar⟩:=hc3
      obtain ⟨W',anc,t1,t2,t3,t4,t5⟩:=kqs (N:=nt) (Kt:=fun st=>YieldK P G (ops.toList.map (·.dst)) y (ops.toList.drop (k+1)) (fun st=>SatL P nt D O cs Q st) st) hΔ R.R stp hk
      have:=Sat.drawY (P:=P) (N:=nt) (D:=D) (O:=O) (Q:=thenQ (SatL P nt D O cs Q) Q) (id:=id) hD okG hmx (by rw [<-hsplit]; exact hdo) (by rw [<-hsplit,hlen]; exact hbar) (by rw [<-hsplit]; exact hc2) (PreY.of_tree t1 t2 t3 t4 (by rw [<-hsplit]; exact t5))
      rw [hopsA] at this
      exact this
     ·rename_i hdr
      rw [jch] at hdr
      subst hdr
      have hx:=kcD hΔ hc1 (K:=fun st=>YieldK P G (ops.toList.map (·.dst)) y (ops.toList.drop (k+1)) (fun st=>SatL P nt D O cs Q st) st) stp (ops.toList.take k) (s:={ s with dy:=false }) .refl (jah _) (hdstM _ hm1) R.R hk
      have:=Sat.regionY (P:=P) (N:=nt) (D:=D) (O:=O) (Q:=thenQ (SatL P nt D O cs Q) Q) (id:=id) (st:=⟨env,h,n⟩) hD okG (by rw [<-hsplit]; exact hc2) (by rw [<-hsplit]; exact hx)
      rw [hopsA] at this
      exact this
    split at hk
    ·exact reg c W s R _ rr (fun κ ln z s' env' h' n' R' hk'=>IH _ _ _ _ _ _ _ _ _ _ _ _ W R' ok hk') hk
    ·rename_i a ha
     split at hk
     ·exact kaa hk
     ·rename_i hok
      replace hok:okLa a c s=true:=by simpa using hok
      obtain ⟨y,hy,hk⟩:=jaa.1 hk
      have R0:RJ J P κ ln ahN c s env h n:=⟨⟨R.R.env,R.R.blk,R.R.lt,R.R.inj,R.R.zin,R.R.zout,R.R.bnd,R.R.hn,R.R.e0,R.R.g,fun _=>rfl,R.R.zk,R.R.fam⟩,R.j,R.w⟩
      have W':=knW R0.R W hok
      have R1:=R0.into hok
      have R1':RJ J P κ ln ahN (inCx a c s) { (⟨s.env.filter (fun x=>!a.keep.contains x.1),s.hp.filter (fun x=>!a.gids.contains x.1),s.n,s.dy⟩:TS sem) with dy:=false } env h n:=⟨⟨R1.R.env,R1.R.blk,R1.R.lt,R1.R.inj,R1.R.zin,R1.R.zout,R1.R.bnd,R1.R.hn,R1.R.e0,R1.R.g,fun _=>rfl,R1.R.zk,R1.R.fam⟩,R1.j,R1.w⟩
      have hcl:∀ id,(inCx a c s).has id=true->id<a.n:=fun id hi=>jan (R1.R.has_lt W' hi) (kdB hok).2.2.2.2.2.2
      refine reg (inCx a c s) W' ⟨s.env.filter (fun x=>!a.keep.contains x.1),s.hp.filter (fun x=>!a.gids.contains x.1),s.n,s.dy⟩ R1' _ y (fun κ ln z s' env' h' n' R' hk'=>?_) hy
      split at hk'
      ·rename_i y' hy'
       cases hk'
       obtain ⟨κ2,ln2,z2,R2⟩:=kjR R0 hok hcl R' hy'
       exact IH _ _ _ _ _ _ _ _ _ _ _ _ W R2 ok hk
      ·exact kaa hk'
   case cond x a b=>
    have hx:=R.R.ev x
    split at hk
    ·rename_i he
     rw [he] at hx
     generalize hev:ev env x=av at hx
     cases hx
     exact SatL.condT hev rfl (IH _ _ _ _ _ _ _ _ _ _ _ _ W R ok hk)
    ·rename_i he
     rw [he] at hx
     generalize hev:ev env x=av at hx
     cases hx
     exact SatL.condF hev rfl (IH _ _ _ _ _ _ _ _ _ _ _ _ W R ok hk)
    ·rename_i v he
     rw [he] at hx
     have hev:=hx.b_inv
     split at hk
     ·rcases kcr hk with ⟨hb,hk⟩ | ⟨hb,hk⟩
      ·exact SatL.condT hev hb (IH _ _ _ _ _ _ _ _ _ _ _ _ W R ok hk)
      ·exact SatL.condF hev hb (IH _ _ _ _ _ _ _ _ _ _ _ _ W R ok hk)
     ·rename_i l hl
      split at hk
      ·exact kaa hk
      ·rename_i hok
       replace hok:okLa l c s=true:=by simpa using hok
       have W':=knW R.R W hok
       have R1:=R.into hok
       have hcl:∀ id,(inCx l c s).has id=true->id<l.n:=fun id hi=>jan (R1.R.has_lt W' hi) (kdB hok).2.2.2.2.2.2
       refine Sat.ofL (Q:=thenQ (SatL P nt D O cs Q) Q) ?_
       have both:∀ {ρ':Ty} (K':Kon sem r ρ') (w:ρ'.den),KonOk D J P (thenQ (SatL P nt D O cs Q) Q) RetQ (inCx l c s) K' w->sem.ite v (mach P Δ An nt fuel res (inCx l c s) [a] K' ⟨s.env.filter (fun x=>!l.keep.contains x.1),s.hp.filter (fun x=>!l.gids.contains x.1),s.n,s.dy⟩) (mach P Δ An nt fuel res (inCx l c s) [b] K' ⟨s.env.filter (fun x=>!l.keep.contains x.1),s.hp.filter (fun x=>!l.gids.contains x.1),s.n,s.dy⟩)=some w->SatL P nt D O [.cond x a b] (thenQ (SatL P nt D O cs Q) Q) ⟨env,h,n⟩:=fun K' w ok' hk'=>by
        rcases kcr hk' with ⟨hb,hk'⟩ | ⟨hb,hk'⟩
        ·exact SatL.condT hev hb (IH _ _ _ _ _ _ _ _ _ _ _ _ W' R1 ok' hk')
        ·exact SatL.condF hev hb (IH _ _ _ _ _ _ _ _ _ _ _ _ W' R1 ok' hk')
       split at hk
       ·obtain ⟨w,hw,hk⟩:=jaa.1 hk
        refine both _ w ⟨fun κ ln z s' env' h' n' R' hk'=>?_,fun id κ ln z s' env' h' n' R' hk'=>kaa hk',fun v' st hv' hk'=>?_,ok.stop⟩ hw
        ·dsimp only at hk'
         split at hk'
         ·rename_i y' hy'
          cases hk'
          obtain ⟨κ2,ln2,z2,R2⟩:=kjR R hok hcl R' hy'
          exact IH _ _ _ _ _ _ _ _ _ _ _ _ W R2 ok hk
         ·exact kaa hk'
        ·cases hk'
         exact ok.retv v' st hv' hk
       ·obtain ⟨w,hw,hk⟩:=jaa.1 hk
        refine both _ w ⟨fun κ ln z s' env' h' n' R' hk'=>?_,fun id κ ln z s' env' h' n' R' hk'=>kaa hk',fun v' st hv' hk'=>kaa hk',ok.stop⟩ hw
        dsimp only at hk'
        split at hk'
        ·rename_i y' hy'
         cases hk'
         obtain ⟨κ2,ln2,z2,R2⟩:=kjR R hok hcl R' hy'
         exact IH _ _ _ _ _ _ _ _ _ _ _ _ W R2 ok hk
        ·exact kaa hk'
    ·exact kaa hk
   case block id b=>
    have gen:∀ b',mach P Δ An nt fuel res c [b'] (⟨fun s=>mach P Δ An nt fuel res c cs K s,fun id' s=>if id'=id then mach P Δ An nt fuel res c cs K s else K.ext id' s,K.retv⟩:Kon sem r ρ) s=some rr->SatL P nt D O (.block id b'::cs) Q ⟨env,h,n⟩:=fun b' hkb=>by
     refine SatL.block (IH _ _ _ _ (kfr id (thenQ (SatL P nt D O cs Q) Q)) _ _ _ _ _ _ _ W R ⟨fun κ ln z s' env' h' n' R' hk'=>?_,fun id' κ ln z s' env' h' n' R' hk'=>?_,fun v st hv hk'=>?_,ok.stop⟩ hkb)
     ·exact IH _ _ _ _ _ _ _ _ _ _ _ _ W R' ok hk'
     ·dsimp only at hk'
      simp only [kfr]
      split at hk'
      ·rename_i e
       rw [if_pos e]
       exact IH _ _ _ _ _ _ _ _ _ _ _ _ W R' ok hk'
      ·rename_i e
       rw [if_neg e]
       exact ok.ext id' _ _ _ _ _ _ _ R' hk'
     ·exact ok.retv v st hv hk'
    cases b with
    | loop b=>
     dsimp only at hk
     split at hk
     ·exact kaa hk
     ·rename_i l hl
      split at hk
      ·exact kaa hk
      ·rename_i hok
       replace hok:okLa l c s=true:=by simpa using hok
       have W':=knW R.R W hok
       have R1:=R.into hok
       have hcs:∀ id,(inCx l c s).has id=true->id<s.n:=fun id hi=>R1.R.has_lt W' hi
       have hcl:∀ id,(inCx l c s).has id=true->id<l.n:=fun id hi=>jan (hcs id hi) (kdB hok).2.2.2.2.2.2
       split at hk
       ·exact kaa hk
       ·rename_i x hx
        obtain ⟨κ0,ln0,z0,R0⟩:=kiz hok hcs R1 hx
        have loop:∀ {X:Type} (F:l.head.ty.den->Option (l.head.ty.den⊕X)) (e:X),iter F x=some e->
          (∀ (k:Nat) (st:St) (x:l.head.ty.den) (κ:Nat->Option Nat) (ln:Nat->Nat) (z:AH) (w:l.head.ty.den⊕X),RJ J P κ ln z (inCx l c s) (kad l.head s.n x) st.env st.h st.n->F x=some w->(w = .inr e\/∃ y,w = .inl y)->
           ∀ (I:l.head.ty.den->St->Prop),(∀ y st κ ln z,w = .inl y->RJ J P κ ln z (inCx l c s) (kad l.head s.n y) st.env st.h st.n->I y st)->SatL P nt D O [b] (thenQ (fun s'=>∃ y,w = .inl y/\I y s') (kfr id (thenQ (SatL P nt D O cs Q) Q))) st)->
          SatL P nt D O (.block id (.loop b)::cs) Q ⟨env,h,n⟩:=by
         intro X F e he round
         refine SatL.block (SatL.ofS (Sat.loop (fun (k:Nat) st=>∃ (x:l.head.ty.den) (κ:Nat->Option Nat) (ln:Nat->Nat) (z:AH),RJ J P κ ln z (inCx l c s) (kad l.head s.n x) st.env st.h st.n/\itN F k x=some e) (fun k=>k) 18446744073709551616 ⟨x,κ0,ln0,z0,R0,he⟩ ?_))
         rintro k st ⟨x,κ,ln,z,Rx,hit⟩
         obtain ⟨k',rfl,hstep⟩:=koV hit
         have fin:∀ w,F x=some w->(w = .inr e\/∃ y,w = .inl y)->(∀ y,w = .inl y->itN F k' y=some e)->Sat P nt D O b (thenQ (fun s'=>∃ x',(∃ (x:l.head.ty.den) (κ:Nat->Option Nat) (ln:Nat->Nat) (z:AH),RJ J P κ ln z (inCx l c s) (kad l.head s.n x) s'.env s'.h s'.n/\itN F x' x=some e)/\x'<k'+1) (kfr id (thenQ (SatL P nt D O cs Q) Q))) st:=fun w hw hor hin=>by
          refine Sat.ofL (SatL.mono (cs:=[b]) ?_ (round k' st x κ ln z w Rx hw hor (fun y st=>∃ κ ln z,RJ J P κ ln z (inCx l c s) (kad l.head s.n y) st.env st.h st.n) (fun y st κ ln z _ R=>⟨κ,ln,z,R⟩)))
          intro ex s' hq
          cases ex with
          | normal=>
           obtain ⟨y,hy,κ,ln,z,Ry⟩:=hq
           exact ⟨k',⟨y,κ,ln,z,Ry,hin y hy⟩,jbk _⟩
          | _=>exact hq
         rcases hstep with ⟨y,hy,hyk⟩ | hr
         ·exact fin _ hy (.inr ⟨y,rfl⟩) (fun y' e'=>by cases e'; exact hyk)
         ·exact fin _ hr (.inl rfl) (fun y' e'=>by cases e')
        split at hk
        ·obtain ⟨e,he,hk2⟩:=jaa.1 hk
         refine loop _ e he fun k st x κ ln z w Rx hw hor I hI=>?_
         refine IH _ _ _ _ _ _ _ _ _ _ _ _ W' Rx ⟨fun κ ln z s' env' h' n' R' hk'=>?_,fun id' κ ln z s' env' h' n' R' hk'=>?_,fun v st' hv hk'=>?_,ok.stop⟩ hw
         ·dsimp only at hk'
          split at hk'
          ·rename_i y hy
           cases hk'
           obtain ⟨κ2,ln2,z2,R2⟩:=kiz hok hcs R' hy
           exact ⟨y,rfl,hI y ⟨env',h',n'⟩ κ2 ln2 z2 rfl R2⟩
          ·exact kaa hk'
         ·dsimp only at hk'
          split at hk'
          ·rename_i e1
           split at hk'
           ·rename_i y hy
            cases hk'
            rcases hor with hor | ⟨y',hor⟩
            ·cases hor
             obtain ⟨κ2,ln2,z2,R2⟩:=kjR R hok hcl R' hy
             subst e1
             exact kkJ (thenN (IH _ _ _ _ _ _ _ _ _ _ _ _ W R2 ok hk2))
            ·cases hor
           ·exact kaa hk'
          ·exact kaa hk'
         ·cases hk'
          rcases hor with hor | ⟨y',hor⟩
          ·cases hor; exact ok.retv v st' hv hk2
          ·cases hor
        ·obtain ⟨e,he,hk2⟩:=jaa.1 hk
         refine loop _ e he fun k st x κ ln z w Rx hw hor I hI=>?_
         refine IH _ _ _ _ _ _ _ _ _ _ _ _ W' Rx ⟨fun κ ln z s' env' h' n' R' hk'=>?_,fun id' κ ln z s' env' h' n' R' hk'=>?_,fun v st' hv hk'=>kaa hk',ok.stop⟩ hw
         ·dsimp only at hk'
          split at hk'
          ·rename_i y hy
           cases hk'
           obtain ⟨κ2,ln2,z2,R2⟩:=kiz hok hcs R' hy
           exact ⟨y,rfl,hI y ⟨env',h',n'⟩ κ2 ln2 z2 rfl R2⟩
          ·exact kaa hk'
         ·dsimp only at hk'
          split at hk'
          ·rename_i e1
           split at hk'
           ·rename_i y hy
            cases hk'
            rcases hor with hor | ⟨y',hor⟩
            ·cases hor
             obtain ⟨κ2,ln2,z2,R2⟩:=kjR R hok hcl R' hy
             subst e1
             exact kkJ (thenN (IH _ _ _ _ _ _ _ _ _ _ _ _ W R2 ok hk2))
            ·cases hor
           ·exact kaa hk'
          ·exact kaa hk'
    | rangeFunc f ps assign body=>
     dsimp only at hk
     split at hk
     ·exact kaa hk
     rename_i hIM
     have hD:D.it=none:=hY.1 (by cases hh:alk Δ IM with
      | none=>rfl
      | some C=>rw [hh] at hIM; exact absurd rfl hIM)
     refine SatL.wk R.R fun env h R1=>?_
     replace R:RJ J P κ ln ahN c { s with dy:=false } env h n:=⟨R1,R.j,R.w⟩
     clear R1
     generalize hs':({ s with dy:=false }:TS sem)=s' at *
     clear hs'
     split at hk
     rotate_left
     ·exact kaa hk
     rename_i g caps hf
     split at hk
     ·exact kaa hk
     rename_i I hI
     split at hk
     ·exact kaa hk
     rename_i la ids hl
     split at hk
     rotate_left
     ·exact kaa hk
     rename_i s0 a hs0 ha
     obtain ⟨e0',hp0,n0,dy0⟩:=s0
     split at hk
     ·exact kaa hk
     rename_i l hla
     split at hk
     ·exact kaa hk
     rename_i hcond
     simp only [jav,jbi,not_or,jch,Bool.not_eq_false',ne_eq,Decidable.not_not,jai,Bool.not_eq_false] at hcond
     obtain ⟨⟨⟨⟨⟨hok,hhe⟩,hoe⟩,hps⟩,hpl⟩,hts⟩:=hcond
     split at hk
     ·exact kaa hk
     rename_i x hx
     obtain ⟨xs,hxs,hk⟩:=jaa.1 hk
     obtain ⟨e,he,hkE⟩:=jaa.1 hk
     obtain ⟨F,hF,he⟩:=kvY he
     have hfe:=R.R.ev f
     rw [hf] at hfe
     obtain ⟨as,hfa,hcaps⟩:=hfe.fn_inv
     obtain ⟨C,hC,hIh⟩:=jaa.1 hI
     have hG:=(hΔ.at hC).2.2.2 I (List.mem_of_mem_head? hIh)
     obtain ⟨as',g1,g2,g3⟩:=kfx hΔ R.R _ _ _ hcaps hl
     have hAR:=kiF _ _ _ _ g1 ha
     have hit:=hG.2 a xs hxs as' hAR
     have Re:=R.R.eat rfl hs0
     have Rj:RJ J P κ ln ahN c ⟨e0',hp0,n0,false⟩ env _ n:=⟨Re,R.j,R.w⟩
     have W':=knW Rj.R W hok
     have R1:=Rj.into hok
     have hcs:∀ id,(inCx l c (⟨e0',hp0,n0,false⟩:TS sem)).has id=true->id<n0:=fun id hi=>R1.R.has_lt W' hi
     have hcl:∀ id,(inCx l c (⟨e0',hp0,n0,false⟩:TS sem)).has id=true->id<l.n:=fun id hi=>jan (hcs id hi) (kdB hok).2.2.2.2.2.2
     have hhe':l.head.env=[]:=by simpa using hhe
     have hoe':l.out.env=[]:=by simpa using hoe
     have hue:∀ y,(kad (A:=sem) l.head n0 y).env=[]:=fun y=>by unfold kad; rw [hhe']; rfl
     have huo:∀ y,(kad (A:=sem) l.out l.n y).env=[]:=fun y=>by unfold kad; rw [hoe']; rfl
     have base:∀ x,TVR P κ ln ahN n0 ((alk (inCx l c (⟨e0',hp0,n0,false⟩:TS sem)).e0 x).getD .un) (lk env x):=fun x=>by
      cases hx0:alk (inCx l c (⟨e0',hp0,n0,false⟩:TS sem)).e0 x with
      | none=>exact .un _
      | some v=>have:=R1.R.env x; rw [R1.R.e0_tlk hx0] at this; exact this
     have ctx:∀ {κ':Nat->Option Nat} {ln':Nat->Nat} {z':AH} {N':Nat},(∀ x v id,alk (inCx l c (⟨e0',hp0,n0,false⟩:TS sem)).e0 x=some v->v.has id=true->κ' id = κ id/\ln' id=ln id/\id<N')->∀ x,TVR P κ' ln' z' N' ((alk (inCx l c (⟨e0',hp0,n0,false⟩:TS sem)).e0 x).getD .un) (lk env x):=fun {κ' ln' z' N'} hag x=>by
      have hb:=base x
      cases hx0:alk (inCx l c (⟨e0',hp0,n0,false⟩:TS sem)).e0 x with
      | none=>exact .un _
      | some v=>
       rw [hx0] at hb
       exact hb.congr (fun id hi=>hag x v id hx0 hi) (fun q B hq=>by cases hq)
     have tl0:∀ (s1:TS sem) x,s1.env=[]->tlk (inCx l c (⟨e0',hp0,n0,false⟩:TS sem)) s1 x=(alk (inCx l c (⟨e0',hp0,n0,false⟩:TS sem)).e0 x).getD .un:=fun s1 x hs=>by unfold tlk; rw [hs]; rfl
     have swapU:∀ {κ':Nat->Option Nat} {ln':Nat->Nat} {z':AH} {y:l.head.ty.den} {env':Env} {h':AH} {n':Nat},RJ ⟨(inCx l c (⟨e0',hp0,n0,false⟩:TS sem)).e0,κ,ln⟩ P κ' ln' z' (inCx l c (⟨e0',hp0,n0,false⟩:TS sem)) (kad l.head n0 y) env' h' n'->RJ ⟨(inCx l c (⟨e0',hp0,n0,false⟩:TS sem)).e0,κ,ln⟩ P κ' ln' z' (inCx l c (⟨e0',hp0,n0,false⟩:TS sem)) (kad l.head n0 y) env h' n':=fun {κ' ln' z' y env' h' n'} Ru=>
      ⟨Ru.R.swap fun x=>by rw [tl0 _ x (hue y)]; exact ctx (fun x v id hxv hi=>⟨(Ru.j x v id hxv hi).1,(Ru.j x v id hxv hi).2,Ru.R.has_lt W' (kdy hxv hi)⟩) x,Ru.j,Ru.w⟩
     have fin:∀ {κ':Nat->Option Nat} {ln':Nat->Nat} {z':AH} {s1:TS sem} {y:l.out.ty.den} {env':Env} {h':AH} {n':Nat},RJ ⟨(inCx l c (⟨e0',hp0,n0,false⟩:TS sem)).e0,κ,ln⟩ P κ' ln' z' (inCx l c (⟨e0',hp0,n0,false⟩:TS sem)) s1 env' h' n'->pack (inCx l c (⟨e0',hp0,n0,false⟩:TS sem)) l.n l.out s1=some y->mach P Δ An nt fuel res c cs K (outTS l c (⟨e0',hp0,n0,false⟩:TS sem) y)=some rr->SatL P nt D O cs Q ⟨env,h',n'⟩:=fun {κ' ln' z' s1 y env' h' n'} Ru hy hk'=>by
      obtain ⟨κ2,ln2,z2,R2,ag⟩:=kvy Rj.R hok hcl Ru.R hy
      have hag:∀ x v id,alk (inCx l c (⟨e0',hp0,n0,false⟩:TS sem)).e0 x=some v->v.has id=true->κ2 id = κ id/\ln2 id=ln id/\id<l.n:=fun x v id hxv hi=>
       ⟨(ag id (kdy hxv hi)).1.trans (Ru.j x v id hxv hi).1,(ag id (kdy hxv hi)).2.trans (Ru.j x v id hxv hi).2,hcl id (kdy hxv hi)⟩
      have R3:Rel P κ2 ln2 z2 c (outTS l c (⟨e0',hp0,n0,false⟩:TS sem) y) env h' n':=R2.swap fun x=>by
       have ht:tlk c (outTS l c (⟨e0',hp0,n0,false⟩:TS sem) y) x=(alk (inCx l c (⟨e0',hp0,n0,false⟩:TS sem)).e0 x).getD .un:=by
        unfold tlk
        have:alk (outTS l c (⟨e0',hp0,n0,false⟩:TS sem) y).env x=if l.keep.contains x then some (tlk c (⟨e0',hp0,n0,false⟩:TS sem) x) else none:=by
         show alk ((kad (A:=sem) l.out l.n y).env++l.keep.map fun x=>(x,tlk c (⟨e0',hp0,n0,false⟩:TS sem) x)) x=_
         rw [huo,jba,kme]
        rw [this,kim]
        split <;> rename_i hc2 <;> split at hc2 <;> simp_all
       rw [ht]
       exact ctx hag x
      refine IH _ _ _ _ _ _ _ _ _ _ _ _ W ⟨R3,fun x v id hv hi=>?_,Rj.w⟩ ok hk'
      have hv':alk (inCx l c (⟨e0',hp0,n0,false⟩:TS sem)).e0 x=some v:=R1.w x v hv
      exact ⟨(hag x v id hv' hi).1.trans (R.j x v id hv hi).1,(hag x v id hv' hi).2.1.trans (R.j x v id hv hi).2⟩
     have R1r:RJ ⟨(inCx l c (⟨e0',hp0,n0,false⟩:TS sem)).e0,κ,ln⟩ P κ ln ahN (inCx l c (⟨e0',hp0,n0,false⟩:TS sem)) ⟨e0'.filter (fun x=>!l.keep.contains x.1),hp0.filter (fun x=>!l.gids.contains x.1),n0,false⟩ env _ n:=⟨R1.R,fun x v id _ _=>⟨rfl,rfl⟩,fun x v h=>h⟩
     obtain ⟨κ0,ln0,z0,R0⟩:=kiz hok hcs R1r hx
     have hnoIM:¬ (alk Δ IM).isSome=true:=hIM
     have stops:∀ {Q':Exit->St->Prop},D.it.isSome=true->∀ st,lk st.env GS = .ud->Q' .ret st:=fun hi=>by rw [hD] at hi; cases hi
     refine SatL.block (SatL.ofS (Sat.rangeFunc hD (ids.flatMap (ows κ ln c s')) hfa (hE:=hz (ows κ ln c s') h ahN ids) (fun i B hi=>?_) (fun i B hi=>?_) g2 hit (fun y hy=>?_) (fun p hp=>?_)
      (fun k h n=>∃ m x κ' ln' z',itN F m ((k:Int),x)=some e/\RJ ⟨(inCx l c (⟨e0',hp0,n0,false⟩:TS sem)).e0,κ,ln⟩ P κ' ln' z' (inCx l c (⟨e0',hp0,n0,false⟩:TS sem)) (kad l.head n0 x) env h n) ⟨18446744073709551616,x,κ0,ln0,z0,he,R0⟩ (fun k xA h1 n1 hxA hI1=>?_) (fun h1 n1 hI1=>?_)))
     ·refine ⟨?_,kea R.R.zin i B hi⟩
      unfold hz at hi
      split at hi
      ·rename_i hany
       obtain ⟨id,hid,hke⟩:=jbc.1 hany
       rw [jbo]
       exact List.mem_flatMap.2 ⟨id,hid,by simpa using hke⟩
      ·cases hi
     ·split at hi
      ·cases hi
      ·rename_i hcon; exact ⟨by simpa using hcon,hi⟩
     ·obtain ⟨y',_,rfl⟩:=jay.1 hy
      rw [ktj]; exact hpl
     ·have:=jam.1 hps p hp
      simp only [jac,jai] at this
      exact this.2
     ·obtain ⟨m,x1,κ1,ln1,z1,hm,Ru⟩:=hI1
      rw [jaw] at hxA
      obtain ⟨e',he',rfl⟩:=jab.1 hxA
      obtain ⟨m',rfl,hstep⟩:=koV hm
      obtain ⟨w,hw,hor⟩:∃ w,F ((k:Int),x1)=some w/\(w = .inr e\/∃ y,w = .inl y/\itN F m' y=some e):=by
       rcases hstep with ⟨y,hy,hyk⟩ | hr
       ·exact ⟨_,hy,.inr ⟨y,rfl,hyk⟩⟩
       ·exact ⟨_,hr,.inl rfl⟩
      rw [hF] at hw
      dsimp only at hw
      rcases kcr hw with ⟨hb,hw⟩ | ⟨hb,hw⟩
      rotate_left
      ·exfalso
       have hlt:=(jad.1 he').1
       have hb2:¬ ((k:Int)<(xs.length:Int)):=of_decide_eq_false hb
       omega
      obtain ⟨e2,hge,hw⟩:=jaa.1 hw
      have hee:e2=e':=by
       have h3:=(kmS hge).2
       simp only [jbj] at h3
       rw [he'] at h3; cases h3; rfl
      subst hee
      have hl2:(unT sem I.ts e2).length=ps.toList.length:=by rw [ksA]; simpa using hpl
      have Rr:RJ ⟨(inCx l c (⟨e0',hp0,n0,false⟩:TS sem)).e0,κ,ln⟩ P κ1 ln1 z1 (inCx l c (⟨e0',hp0,n0,false⟩:TS sem)) ⟨rndE ps.toList (unT sem I.ts e2) (kad (A:=sem) l.head n0 x1).env,(kad (A:=sem) l.head n0 x1).hp,(kad (A:=sem) l.head n0 x1).n,(kad (A:=sem) l.head n0 x1).dy⟩ (kjZ ps.toList (avsL I.ts e2) env) h1 n1:=by
       refine ⟨⟨fun y=>kwW _ _ _ ps.toList _ _ _ _ hl2 (klU I.ts e2 hts) (fun t=>Ru.R.env t) y,Ru.R.blk,Ru.R.lt,Ru.R.inj,Ru.R.zin,Ru.R.zout,Ru.R.bnd,Ru.R.hn,fun y v hy=>?_,Ru.R.g,Ru.R.dy,Ru.R.zk,Ru.R.fam⟩,Ru.j,Ru.w⟩
       rcases kym ps.toList _ _ hy with hy | hy
       ·have:=jam.1 hps y hy
        simp only [jac,jdj] at this
        exact this.1
       ·rw [hue] at hy; cases hy
      have hresR:∀ (c1:Cx sem) κ2 ln2 s1 env1 h1 n1 v,CxWf c1->RJ ⟨(inCx l c (⟨e0',hp0,n0,false⟩:TS sem)).e0,κ,ln⟩ P κ2 ln2 ahN c1 s1 env1 h1 n1->(fun (c1:Cx sem) (s1:TS sem)=>res ⟨(inCx l c (⟨e0',hp0,n0,false⟩:TS sem)).e0,c1.g⟩ ⟨[],s1.hp,s1.n,s1.dy⟩) c1 s1=some v->(fun v (st:St)=>RetQ v ⟨env,st.h,st.n⟩) v ⟨env1,h1,n1⟩:=fun c1 κ2 ln2 s1 env1 h1 n1 v W1 Rc hv=>by
       refine hres ⟨(inCx l c (⟨e0',hp0,n0,false⟩:TS sem)).e0,c1.g⟩ κ2 ln2 ⟨[],s1.hp,s1.n,s1.dy⟩ env h1 n1 v ⟨W'.e0,W1.g⟩ ⟨⟨fun y=>?_,Rc.R.blk,Rc.R.lt,Rc.R.inj,Rc.R.zin,Rc.R.zout,Rc.R.bnd,Rc.R.hn,fun y v hy=>(by cases hy),Rc.R.g,Rc.R.dy,Rc.R.zk,Rc.R.fam⟩,fun y v id hv hi=>?_,fun y v hv=>R1.w y v hv⟩ hv
       ·show TVR P κ2 ln2 ahN s1.n ((alk (inCx l c (⟨e0',hp0,n0,false⟩:TS sem)).e0 y).getD .un) (lk env y)
        exact ctx (fun x v id hxv hi=>⟨(Rc.j x v id hxv hi).1,(Rc.j x v id hxv hi).2,Rc.R.has_lt W1 (kdy (Rc.w x v hxv) hi)⟩) y
       ·have hv':alk (inCx l c (⟨e0',hp0,n0,false⟩:TS sem)).e0 y=some v:=R1.w y v hv
        exact ⟨(Rc.j y v id hv' hi).1.trans (R.j y v id hv hi).1,(Rc.j y v id hv' hi).2.trans (R.j y v id hv hi).2⟩
      have hYr:YOk P D Δ ⟨(inCx l c (⟨e0',hp0,n0,false⟩:TS sem)).e0,κ,ln⟩:=⟨fun _=>hD,fun hh=>absurd hh hnoIM⟩
      refine Sat.ofL (SatL.mono (cs:=[assign]) (fun e s hq=>hq) (@IHg r (fun (c1:Cx sem) (s1:TS sem)=>res ⟨(inCx l c (⟨e0',hp0,n0,false⟩:TS sem)).e0,c1.g⟩ ⟨[],s1.hp,s1.n,s1.dy⟩) ⟨(inCx l c (⟨e0',hp0,n0,false⟩:TS sem)).e0,κ,ln⟩ (fun v (st:St)=>RetQ v ⟨env,st.h,st.n⟩) hresR hYr (.sm (.pr (.i .i64) l.head.ty) (.sm r l.out.ty)) (inCx l c (⟨e0',hp0,n0,false⟩:TS sem)) [assign] _ _ (thenQ (fun s=>Sat P nt D O body (bodyQ (kfr id (thenQ (SatL P nt D O cs Q) Q)) env (fun k h n=>∃ m x κ' ln' z',itN F m ((k:Int),x)=some e/\RJ ⟨(inCx l c (⟨e0',hp0,n0,false⟩:TS sem)).e0,κ,ln⟩ P κ' ln' z' (inCx l c (⟨e0',hp0,n0,false⟩:TS sem)) (kad l.head n0 x) env h n) k) s) (fun _ _=>False)) w κ1 ln1 z1 _ h1 n1 W' Rr
       ⟨fun κ2 ln2 z2 s2 env2 h2 n2 Rb hkb=>?_,fun _ _ _ _ _ _ _ _ _ hf=>kaa hf,fun _ _ _ hf=>kaa hf,stops⟩ hw))
      refine Sat.ofL (@IHg r (fun (c1:Cx sem) (s1:TS sem)=>res ⟨(inCx l c (⟨e0',hp0,n0,false⟩:TS sem)).e0,c1.g⟩ ⟨[],s1.hp,s1.n,s1.dy⟩) ⟨(inCx l c (⟨e0',hp0,n0,false⟩:TS sem)).e0,κ,ln⟩ (fun v (st:St)=>RetQ v ⟨env,st.h,st.n⟩) hresR hYr (.sm (.pr (.i .i64) l.head.ty) (.sm r l.out.ty)) (inCx l c (⟨e0',hp0,n0,false⟩:TS sem)) [body] _ s2 _ w κ2 ln2 z2 env2 h2 n2 W' Rb ⟨fun κ3 ln3 z3 s3 env3 h3 n3 Rc hk3=>?_,fun id' κ3 ln3 z3 s3 env3 h3 n3 Rc hk3=>?_,fun v st hv hk3=>?_,stops⟩ hkb)
      ·dsimp only at hk3
       split at hk3
       ·rename_i y hy
        cases hk3
        obtain ⟨κ4,ln4,z4,R4⟩:=kiz hok hcs Rc hy
        rcases hor with hor | ⟨y',hor,hyk⟩
        ·cases hor
        ·cases hor
         exact ⟨m',y,κ4,ln4,z4,by rw [show ((k+1:Nat):Int)=(k:Int)+1 by omega]; exact hyk,swapU R4⟩
       ·exact kaa hk3
      ·dsimp only at hk3
       split at hk3
       ·rename_i e1
        split at hk3
        ·rename_i y hy
         cases hk3
         rcases hor with hor | ⟨y',hor,_⟩
         ·cases hor
          subst e1
          exact kkJ (thenN (fin Rc hy hkE))
         ·cases hor
        ·exact kaa hk3
       ·exact kaa hk3
      ·cases hk3
       rcases hor with hor | ⟨y',hor,_⟩
       ·cases hor
        exact ok.retv v _ hv hkE
       ·cases hor
     ·obtain ⟨m,x1,κ1,ln1,z1,hm,Ru⟩:=hI1
      obtain ⟨m',rfl,hstep⟩:=koV hm
      have hw:∃ w,F (((xs.map fun y=>avsL I.ts y).length:Int),x1)=some w/\(w = .inr e\/∃ y,w = .inl y/\itN F m' y=some e):=by
       rcases hstep with ⟨y,hy,hyk⟩ | hr
       ·exact ⟨_,hy,.inr ⟨y,rfl,hyk⟩⟩
       ·exact ⟨_,hr,.inl rfl⟩
      obtain ⟨w,hw,hor⟩:=hw
      rw [hF] at hw
      dsimp only at hw
      rcases kcr hw with ⟨hb,hw⟩ | ⟨hb,hw⟩
      ·exfalso
       simp only [jar,jai,kxG] at hb
       omega
      split at hw
      ·rename_i y hy
       cases hw
       rcases hor with hor | ⟨y',hor,_⟩
       ·cases hor
        exact fin Ru hy hkE
       ·cases hor
      ·exact kaa hw
    | _=>exact gen _ hk
   all_goals exact kaa hk
end
section
variable {P:Program} {κ:Nat->Option Nat} {ln:Nat->Nat} {z:AH} {c:Cx sem} {s:TS sem} {env:Env} {h:AH} {n:Nat}
theorem hz_le (R:Rel P κ ln z c s env h n) (ids:List Nat):∀ q B,hz (ows κ ln c s) h z ids q=some B->h q=some B:=by
 intro q B hq
 unfold hz at hq
 split at hq
 ·exact hq
 ·exact R.zin q B hq
theorem koK (R:Rel P κ ln z c s env h n) {T:TypeId} {x:Tmp} {w:TV sem} (hc:cellX P c s T (tlk c s x)=some w) :
  ∃ a,kbU P h env (.cell x T)=some a/\TVR P κ ln z s.n w a:=by
 have hv:=R.env x
 unfold cellX at hc
 split at hc
 ·cases hc
 ·rename_i ag hag
  split at hc
  ·rename_i id j he
   rw [he] at hv
   generalize hE:lk env x=a at hv
   cases hv with
   | ptr _ _ q hN hq=>
    split at hc
    ·rename_i T' vs hB
     cases R.blk _ _ hB with
     | bx _ _ q' as hq' hh hvs h1=>
      rw [hq] at hq'; cases hq'
      have hl:=hvs.len
      have hd:deref h (lk env x)=some (as.drop j):=by rw [hE]; simp only [deref,hh]; rfl
      cases ag with
      | true=>
       simp only [if_true] at hc
       split at hc
       ·rename_i hle
        cases hc
        refine ⟨_,?_,.ag _ _ ((hvs.drop j).take _) (fun a ha=>h1 a (jda (jco ha)))⟩
        simp only [kbU,hd,hag]
        rw [if_pos (by simp; omega)]
       ·cases hc
      | false=>
       simp only [jaj,if_false] at hc
       obtain ⟨a,ha,hva⟩:=hvs.at hc
       refine ⟨a,?_,hva⟩
       simp only [kbU,hd,hag]
       rw [jaq]; simpa using ha
    ·rename_i T' t y hB
     cases R.blk _ _ hB with
     | el _ _ _ q' cs hd hq' hh hvs h1 hl=>
      rw [hq] at hq'; cases hq'
      have hdr:deref h (lk env x)=some (cs.drop j):=by rw [hE]; simp only [deref,hh]; rfl
      obtain ⟨p,hp,rfl⟩:=jab.1 hc
      obtain ⟨t',y'⟩:=p
      obtain ⟨g1,g2,g3,g4,g5⟩:=khI t y j (P.cellsOf T) ag cs hd hp hvs
      obtain ⟨a,k1,k2,k3⟩:=kls (P:=P) (κ:=κ) (ln:=ln) (N:=s.n) (m:=P.cellsOf T) (cs:=cs.drop j) g1 g2 g3 g5 (by rw [jdo]; omega)
      refine ⟨a,?_,k1⟩
      simp only [kbU,hdr,hag]
      cases ag with
      | true=>simp only []; rw [if_pos (by rw [jdo]; omega),<-k2 rfl]
      | false=>exact k3 rfl
    ·cases hc
  ·cases hc
theorem klx (R:Rel P κ ln z c s env h n):∀ (l:List ResultVar) (rs:List Ty) (ys:List ((t:Ty)×sem.D t)),resX (A:=sem) P c s l rs=some ys->
  ∃ as bs,l.mapM (kbU P h env)=some as/\SnapL h as bs/\AL P ys bs/\rs.all Ty.dat=true
 | [],[],ys,hr=>by
  simp only [resX,Option.some.injEq] at hr; subst hr
  exact ⟨[],[],rfl,.nil,.nil,rfl⟩
 | .tmp t::l,r::rs,ys,hr=>by
  simp only [resX] at hr
  obtain ⟨⟨x,ids⟩,hx,hr⟩:=jaa.1 hr
  obtain ⟨y,hy,rfl⟩:=jab.1 hr
  obtain ⟨as,bs,h1,h2,h3,h4⟩:=klx R l rs y hy
  obtain ⟨hd,hs,_⟩:=kbf R (R.env t) hx
  refine ⟨lk env t::as,r.av x::bs,?_,.cons (hs.mono (hz_le R ids)) h2,.cons ((kcz hd).2 rfl) h3,by simp [hd,h4]⟩
  rw [jdn,h1]; rfl
 | .cell a T::l,r::rs,ys,hr=>by
  simp only [resX] at hr
  obtain ⟨v,hv,hr⟩:=jaa.1 hr
  obtain ⟨⟨x,ids⟩,hx,hr⟩:=jaa.1 hr
  obtain ⟨y,hy,rfl⟩:=jab.1 hr
  obtain ⟨as,bs,h1,h2,h3,h4⟩:=klx R l rs y hy
  obtain ⟨u,hu,huv⟩:=koK R hv
  obtain ⟨hd,hs,_⟩:=kbf R huv hx
  refine ⟨u::as,r.av x::bs,?_,.cons (hs.mono (hz_le R ids)) h2,.cons ((kcz hd).2 rfl) h3,by simp [hd,h4]⟩
  rw [jdn,h1,hu]; rfl
 | [],_::_,ys,hr=>by simp [resX] at hr
 | .tmp _::_,[],ys,hr=>by simp [resX] at hr
 | .cell _ _::_,[],ys,hr=>by simp [resX] at hr
theorem SnapL.tp {as bs:List AV} (hs:SnapL h as bs):Snap h (.tp as) (.tp bs):=.tp as bs hs.len hs.at
theorem krv (R:Rel P κ ln z c s env h n) {l:List ResultVar} {rs:List Ty} {v:(tup rs).den} (hr:(resX (A:=sem) P c s l rs).bind (mkT sem rs)=some v) :
  ∃ a,kaT P h env l=some a/\Snap h a (rav rs v):=by
 obtain ⟨ys,hy,hm⟩:=jaa.1 hr
 obtain ⟨as,bs,h1,h2,h3,h4⟩:=klx R l rs ys hy
 have hb:=knw h4 (kiF rs ys bs v h3 hm)
 subst hb
 have hl:=h2.len
 match rs,v,h2,hl with
 | [],v,h2,hl=>
  cases h2
  exact ⟨.tp [],by simp only [kaT,h1],SnapL.tp .nil⟩
 | [t],v,h2,hl=>
  cases h2 with
  | cons h5 h6=>cases h6; exact ⟨_,by simp only [kaT,h1],h5⟩
 | t::u::ts,v,h2,hl=>
  have e:rav (t::u::ts) v = .tp (avsL (t::u::ts) v):=rfl
  rw [e]
  match as,hl,h1,h2 with
  | [],hl,_,_=>simp [avsL] at hl
  | [_],hl,_,_=>exfalso; cases ts <;> simp [avsL] at hl
  | a::b::as,_,h1,h2=>exact ⟨_,by simp only [kaT,h1],SnapL.tp h2⟩
theorem kpB:∀ {ys:List ((t:Ty)×t.den)} {as:List AV},AL P ys as->∀ (k x:Nat),TVR P κ ln z n (tlk (A:=sem) ⟨[],[]⟩ ⟨(ys.zipIdx k).map fun y=>(y.2,argT (A:=sem) y.1.1 y.1.2),[],n,false⟩ x) (lk ((as.zipIdx k).map fun (v,i)=>(i,v)) x)
 | [],_,.nil,k,x=>by exact .un _
 | p::ys,_,.cons (a:=a) (as:=as) h1 hl,k,x=>by
  have ih:=kpB hl (k+1) x
  simp only [jbx,jap,tlk,alk,lk] at ih ⊢
  by_cases e:x=k
  ·simp only [if_pos e]
   obtain ⟨t,y⟩:=p
   cases t <;> first | exact .cv _ _ _ _ _ h1 | (obtain ⟨hd,rfl⟩:=h1; exact .c _ _ _ hd (.free _ (kgR _ _ hd)))
  ·simp only [if_neg e]; exact ih
theorem ksQ:∀ {ts:List Ty} {x:(tup ts).den} {l:List AV},AR P ts x l->AL P (unT sem ts x) l
 | [],_,_,rfl=>.nil
 | [t],x,_,⟨a,rfl,h⟩=>.cons h .nil
 | t::u::ts,x,_,⟨a,l',rfl,h,h'⟩=>.cons h (ksQ h')
theorem AL.len {ys:List ((t:Ty)×t.den)} {as:List AV} (h:AL P ys as):as.length=ys.length:=by induction h <;> simp [*]
theorem kqH:∀ (ts:List Ty) (x:(tup ts).den),(unT sem ts x).length=ts.length
 | [],_=>rfl
 | [t],_=>rfl
 | t::u::ts,x=>by simp [unT,kqH (u::ts)]
theorem kae {g:FuncId} {C:Ctr} {f:Func} (hf:P.funcs[g]?=some f) (hd:(C.rs.all Ty.dat&&C.as.length<=f.ntmps&&!(f.name== "runtime.NumGoroutine"))=true) {An:List (Nat×La)} (Δ:List (FuncId×Ctr)) (hΔ:Goods P Δ)
  (he:∀ x,C.F x=machF P Δ (anL An) f C.as C.rs (A:=sem) x) (hM:∀ M∈C.mus,M.ok=true/\GoodM P g M:=by intro M h; cases h) (hI:∀ I∈C.its,GoodI P g I:=by intro M h; cases h) (hM0:(alk Δ IM).isNone=true:=by rfl):Good P g C:=by
 simp only [jac,jbi,jai] at hd
 obtain ⟨⟨h1,h2⟩,h3⟩:=hd
 refine ⟨h1,fun x r hr l hl=>?_,hM,hI⟩
 rw [he,machF] at hr
 dsimp only at hr
 split at hr
 ·exact kaa hr
 ·rename_i body hb
  have hal:=ksQ hl
  refine PC.of_body hf hb h3 (by rw [hal.len,kqH]; exact h2) fun D O hD=>?_
  refine kjn (D:=D) (O:=O) hΔ 1000000 (RetQ:=fun v st=>∃ a,kaT P st.h st.env f.results.toList=some a/\Snap st.h a (rav C.rs v)) (J:=⟨[],fun _=>none,fun _=>0⟩) (fun c κ ln s env h n v _ R hv=>krv R.R hv) (hY:=⟨fun _=>hD,fun hh=>absurd hh (by cases hx:alk Δ IM with | none=>decide | some C=>rw [hx] at hM0; cases hM0)⟩) ⟨[],[]⟩ [body] _ _ _ r (fun _=>none) (fun _=>0) (fun _=>none) (kao l) ah0 0
   ⟨fun x v h=>(by cases h),fun x B h=>(by cases h)⟩ ?_ ?_ hr
  ·refine ⟨⟨fun x=>?_,fun id B h=>(by cases h),fun id B h=>(by cases h),fun i j B B' q h=>(by cases h),fun q B h=>(by cases h),fun id B q h=>(by cases h),fun id B q h=>(by cases h),fun q _=>rfl,fun x v h=>rfl,fun id b h=>(by cases h),fun _=>rfl,fun q k T es h=>(by cases h),fun id B h=>(by cases h)⟩,fun x v id hv=>(by cases hv),fun x v hv=>(by cases hv)⟩
   exact kpB (n:=0) hal 0 x
  ·refine ⟨fun κ ln z s env h n R hk=>?_,fun id κ ln z s env h n R hk=>kaa hk,fun v st hv hk=>?_,fun hi=>by rw [hD] at hi; cases hi⟩
   ·dsimp only at hk
    split at hk
    ·rename_i v hv
     cases hk
     obtain ⟨a,q1,q2⟩:=krv R.R hv
     exact ⟨a,q1,_,q2,rfl⟩
    ·exact kaa hk
   ·cases hk
    obtain ⟨a,q1,q2⟩:=hv
    exact ⟨a,q1,_,q2,rfl⟩
end
section
variable {P:Program} {κ κ':Nat->Option Nat} {ln ln':Nat->Nat} {z z':AH} {c:Cx sem} {s:TS sem} {env:Env} {h h':AH} {n n' N N':Nat}
def tied:TV sem->Bool
 | .mw _ | .ptr _ _ | .mp _ | .fw _ | .kp _=>true
 | _=>false
theorem TVR.tied {v:TV sem} {a:AV} (ht:tied v=true) (h:TVR P κ ln z N v a):TVR P κ ln z' N v a:=by
 cases v <;> simp only [Abs.tied,jaj] at ht
 ·cases h with | ptr _ _ q h1 h2=>exact .ptr _ _ q h1 h2
 ·cases h with
  | mw0 _ h1 h2=>exact .mw0 _ h1 h2
  | mw _ q h1 h2=>exact .mw _ q h1 h2
 ·cases h with | mp _ q h1 h2=>exact .mp _ q h1 h2
 ·cases h with
  | fw0 _ h1 h2=>exact .fw0 _ h1 h2
  | fw _ q h1 h2=>exact .fw _ q h1 h2
 ·cases h with | kp _ h1=>exact .kp _ h1
theorem Rel.thaw (R:Rel P κ ln z c s env h n) (ht:∀ x,tied (tlk c s x)=true\/tlk c s x = .un) {O:Nat->Prop} {μ:Mu} {w:World} (hr:HR w O μ h n) :
  ∃ μ' h2,Rel P κ ln ahN c { s with dy:=false } env h2 n/\HR w O μ' h2 n/\Evo w μ n w μ' n:=by
 obtain ⟨p,h2,hz,hbr,hn2,hr2⟩:=R.conv hr
 refine ⟨muP p μ,h2,⟨fun x=>?_,hbr,R.lt,R.inj,fun q B hq=>(by cases hq),fun _ _ _ _ _=>rfl,R.bnd,hn2,R.e0,R.g,fun _=>rfl,fun q k T es hq=>(by cases hq),R.famD⟩,hr2,knO hr p⟩
 have hx:=R.env x
 show TVR P κ ln ahN s.n (tlk c s x) (lk env x)
 rcases ht x with h1 | h1
 ·exact hx.tied h1
 ·rw [h1]; exact .un _
theorem HC.fin {f:FuncId} {args:List AV} {K:K3} (hc:HC P f args h n (fun v h' n'=>(∃ h2:AH,(∀ q B,h2 q=some B->h' q=some B)/\K v h2 n')\/
  (v = .tp []/\∃ κ ln z c s env,Rel P κ ln z c s env h' n'/\(∀ x,tied (tlk c s x)=true\/tlk c s x = .un)/\∀ h2:AH,Rel P κ ln ahN c { s with dy:=false } env h2 n'->∃ h3:AH,(∀ q B,h3 q=some B->h2 q=some B)/\K v h3 n'))):HC P f args h n K:=by
 refine ⟨hc.1,fun O μ w vs hr hs hv=>(hc.2 O μ w vs hr hs hv).mono ?_⟩
 rintro e w' ⟨u,v,h',n',μ',rfl,hor,q2,q3,q4⟩
 rcases hor with ⟨h2,q0,q1⟩ | ⟨rfl,κ,ln,z,c,s,env,R,ht,hk⟩
 ·exact ⟨u,v,h2,n',μ',rfl,q1,⟨q2.olt,q2.scope,q2.inj,q2.notO,fun id B hB=>q2.blk id B (q0 id B hB)⟩,q3,q4⟩
 ·obtain ⟨μ2,h2,R2,r2,e2⟩:=R.thaw ht q2
  obtain ⟨h3,q0,q1⟩:=hk h2 R2
  exact ⟨u,_,h3,n',μ2,rfl,q1,⟨r2.olt,r2.scope,r2.inj,r2.notO,fun id B hB=>r2.blk id B (q0 id B hB)⟩,q3.flat (.tp [] fun j c hj=>by simp at hj) _ _ _ _,q4.trans e2⟩
end
section
variable {P:Program} {κ κ':Nat->Option Nat} {ln ln':Nat->Nat} {z z':AH} {c:Cx sem} {s:TS sem} {env:Env} {h:AH} {n N N':Nat}
def tiedD:TV sem->Bool
 | .mw _ | .ptr _ _ | .mp _ | .fw _=>true
 | _=>false
theorem TVR.det {v:TV sem} {a a':AV} (ht:tiedD v=true) (h:TVR P κ ln z N v a) (h':TVR P κ' ln' z' N' v a') (hk:∀ id,v.has id=true->κ' id = κ id/\ln' id=ln id):a'=a:=by
 cases v <;> simp only [tiedD,jaj] at ht
 ·rename_i id j
  obtain ⟨e1,e2⟩:=hk id (by simp [TV.has])
  obtain ⟨q,k1,rfl⟩:=h.ptr_inv
  obtain ⟨q',k2,rfl⟩:=h'.ptr_inv
  rw [e1,k1] at k2; cases k2; rfl
 ·rename_i id
  obtain ⟨e1,e2⟩:=hk id (by simp [TV.has])
  cases h with
  | mw0 _ _ k1=>cases h' with
   | mw0=>rfl
   | mw _ q _ k2=>rw [e1,k1] at k2; cases k2
  | mw _ q _ k1=>cases h' with
   | mw0 _ _ k2=>rw [e1,k1] at k2; cases k2
   | mw _ q' _ k2=>rw [e1,k1] at k2; cases k2; rw [e2]
 ·rename_i id
  obtain ⟨e1,e2⟩:=hk id (by simp [TV.has])
  obtain ⟨q,k1,rfl⟩:=h.mp_inv
  obtain ⟨q',k2,rfl⟩:=h'.mp_inv
  rw [e1,k1] at k2; cases k2; rfl
 ·rename_i id
  obtain ⟨e1,e2⟩:=hk id (by simp [TV.has])
  cases h with
  | fw0 _ _ k1=>cases h' with
   | fw0=>rfl
   | fw _ q _ k2=>rw [e1,k1] at k2; cases k2
  | fw _ q _ k1=>cases h' with
   | fw0 _ _ k2=>rw [e1,k1] at k2; cases k2
   | fw _ q' _ k2=>rw [e1,k1] at k2; cases k2; rw [e2]
theorem knN:∀ (ks:List (Option Ty)) {l:List ((t:Ty)×t.den)} {as:List AV} (k:Nat),PArgs P ks l as->∀ x v,alk (kbj (A:=sem) ks l k) x=some v->k<=x/\TVR P κ ln z N v (lk ((as.zipIdx k).map fun (v,i)=>(i,v)) x)
 | [],l,as,k,h,x,v,hv=>by simp [kbj,alk] at hv
 | some t::ks,[],as,k,h,x,v,hv=>by simp [kbj,alk] at hv
 | some t::ks,p::l,[],k,h,x,v,hv=>by simp [PArgs] at h
 | none::ks,l,[],k,h,x,v,hv=>by cases l <;> simp [PArgs] at h
 | some t::ks,p::l,a::as,k,h,x,v,hv=>by
  obtain ⟨h1,h2⟩:=h
  simp only [kbj,alk] at hv
  simp only [jbx,jap,lk]
  by_cases e:x=k
  ·rw [if_pos e] at hv; cases hv
   rw [if_pos e]
   refine ⟨by omega,?_⟩
   obtain ⟨t,y⟩:=p
   cases t <;> first | exact .cv _ _ _ _ _ h1 | (obtain ⟨hd,rfl⟩:=h1; exact .c _ _ _ hd (.free _ (kgR _ _ hd)))
  ·rw [if_neg e] at hv
   rw [if_neg e]
   obtain ⟨g1,g2⟩:=knN ks (k+1) h2 x v hv
   exact ⟨by omega,g2⟩
 | none::ks,l,a::as,k,h,x,v,hv=>by
  have h2:PArgs P ks l as:=by cases l <;> exact h
  simp only [kbj] at hv
  simp only [jbx,jap,lk]
  obtain ⟨g1,g2⟩:=knN ks (k+1) h2 x v hv
  rw [if_neg (by omega)]
  exact ⟨by omega,g2⟩
theorem kns:∀ (ks:List (Option Ty)) (k x:Nat),x∈kfv ks k->x<k+ks.length
 | [],k,x,h=>by cases h
 | some t::ks,k,x,h=>by
  simp only [kfv,jbu] at h
  simp only [jdd]
  rcases h with rfl | h
  ·omega
  ·have:=kns ks (k+1) x h; omega
 | none::ks,k,x,h=>by
  simp only [kfv] at h
  simp only [jdd]
  have:=kns ks (k+1) x h; omega
theorem kvk:∀ (as:List AV) (k x:Nat),k+as.length<=x->lk ((as.zipIdx k).map fun (v,i)=>(i,v)) x = .un
 | [],k,x,h=>rfl
 | a::as,k,x,h=>by
  simp only [jdd] at h
  simp only [jbx,jap,lk]
  rw [if_neg (by omega),kvk as (k+1) x (by omega)]
theorem kxi {as:List AV} {x:Nat} (h:as.length<=x):lk (kao as) x = .un:=kvk as 0 x (by omega)
theorem kip:∀ (ks:List (Option Ty)) {l:List ((t:Ty)×t.den)} (k:Nat),l.length=(ks.filterMap id).length->(kbj (A:=sem) ks l k).map (·.1)=kfv ks k
 | [],l,k,h=>by simp [kbj,kfv]
 | some t::ks,[],k,h=>by simp at h
 | some t::ks,p::l,k,h=>by simp only [kbj,kfv,jap]; rw [kip ks (k+1) (by simpa using h)]
 | none::ks,l,k,h=>by simp only [kbj,kfv]; exact kip ks (k+1) (by simpa using h)
theorem kni:∀ {ks:List (Option Ty)} {l:List ((t:Ty)×t.den)} {as:List AV},PArgs P ks l as->as.length=ks.length
 | [],[],[],h=>rfl
 | [],_::_,_,h=>by simp [PArgs] at h
 | [],[],_::_,h=>by simp [PArgs] at h
 | some t::ks,[],as,h=>by simp [PArgs] at h
 | some t::ks,p::l,[],h=>by simp [PArgs] at h
 | none::ks,l,[],h=>by cases l <;> simp [PArgs] at h
 | some t::ks,p::l,a::as,h=>by simp [kni h.2]
 | none::ks,l,a::as,h=>by
  have h2:PArgs P ks l as:=by cases l <;> exact h
  simp [kni h2]
theorem kvi:∀ (l:List (Nat×PV)) (xs:List ((t:Ty)×t.den)),(unE (A:=sem) l xs).1.map (·.1)=l.map (·.1)
 | [],xs=>rfl
 | (k,v)::l,xs=>by simp only [unE,jap]; rw [kvi l]
theorem kix {α:Type}:∀ {l:List (Nat×α)} {x:Nat} {v:α},(l.map (·.1)).Nodup->(x,v)∈l->alk l x=some v
 | [],x,v,_,h=>by cases h
 | (k,w)::l,x,v,hn,h=>by
  simp only [jap,jcv] at hn
  simp only [alk]
  rcases jbu.1 h with h | h
  ·cases h; simp
  ·rw [if_neg]
   ·exact kix hn.2 h
   ·exact fun e=>hn.1 (jay.2 ⟨(x,v),h,e⟩)
theorem kkB (R:Rel P κ ln z c s env h n):∀ (l:List ResultVar) {vs:List (TV sem)},resTV (A:=sem) P c s l=some vs->∃ as,l.mapM (kbU P h env)=some as/\TVRs P κ ln z s.n vs as
 | [],vs,hr=>by simp only [resTV,Option.some.injEq] at hr; subst hr; exact ⟨[],rfl,.nil⟩
 | .tmp t::l,vs,hr=>by
  simp only [resTV,jab] at hr
  obtain ⟨vs,hv,rfl⟩:=hr
  obtain ⟨as,h1,h2⟩:=kkB R l hv
  refine ⟨lk env t::as,?_,.cons _ _ _ _ (R.env t) h2⟩
  rw [jdn,h1]; rfl
 | .cell a T::l,vs,hr=>by
  simp only [resTV,jaa,jab] at hr
  obtain ⟨v,hc,vs,hv,rfl⟩:=hr
  obtain ⟨as,h1,h2⟩:=kkB R l hv
  obtain ⟨u,hu,huv⟩:=koK R hc
  refine ⟨u::as,?_,.cons _ _ _ _ huv h2⟩
  rw [jdn,h1,hu]; rfl
theorem kua {l:List ResultVar} {as:List AV} (h1:l.mapM (kbU P h env)=some as):kaT P h env l=some (tpA as):=by
 unfold kaT tpA
 rw [h1]
 match as with
 | []=>rfl
 | [a]=>rfl
 | _::_::_=>rfl
theorem ktd:∀ (vs:List (TV sem)) (k x:Nat) (E:List (Nat×TV sem)),alk ((vs.zipIdx k).map (fun x=>(1000000+x.2,x.1))++E) x=if 1000000+k<=x/\x<1000000+k+vs.length then vs[x-1000000-k]? else alk E x
 | [],k,x,E=>by
  simp only [List.zipIdx_nil,List.map_nil,jba,List.length_nil]
  rw [if_neg (by omega)]
 | v::vs,k,x,E=>by
  simp only [jbx,jap,jdp,alk,jdd]
  by_cases e:x=1000000+k
  ·rw [if_pos e,if_pos (by omega),show x-1000000-k=0 by omega]; rfl
  ·rw [if_neg e,ktd vs (k+1) x E]
   by_cases e2:1000000+k<=x/\x<1000000+k+(vs.length+1)
   ·rw [if_pos (by omega),if_pos e2,show x-1000000-k=(x-1000000-(k+1))+1 by omega,jbz]
   ·rw [if_neg (by omega),if_neg e2]
theorem knP:∀ (as:List AV) (k x:Nat) (E:Env),lk ((as.zipIdx k).map (fun x=>(1000000+x.2,x.1))++E) x=if 1000000+k<=x/\x<1000000+k+as.length then (as[x-1000000-k]?).getD .un else lk E x
 | [],k,x,E=>by
  simp only [List.zipIdx_nil,List.map_nil,jba,List.length_nil]
  rw [if_neg (by omega)]
 | v::vs,k,x,E=>by
  simp only [jbx,jap,jdp,lk,jdd]
  by_cases e:x=1000000+k
  ·rw [if_pos e,if_pos (by omega),show x-1000000-k=0 by omega]; rfl
  ·rw [if_neg e,knP vs (k+1) x E]
   by_cases e2:1000000+k<=x/\x<1000000+k+(vs.length+1)
   ·rw [if_pos (by omega),if_pos e2,show x-1000000-k=(x-1000000-(k+1))+1 by omega,jbz]
   ·rw [if_neg (by omega),if_neg e2]
theorem koA {α:Type}:∀ (l:List (Nat×α)) (x:Nat),alk (l.map fun y=>(y.1,some y.2)) x=(alk l x).map some
 | [],x=>rfl
 | (k,v)::l,x=>by
  simp only [jap,alk]
  split
  ·rfl
  ·exact koA l x
theorem kyB (R:Rel P κ ln ahN c s env h n) {vs:List (TV sem)} {as:List AV} (hv:TVRs P κ ln ahN s.n vs as):Rel P κ ln ahN ⟨[],[]⟩ (endM c s vs) (resE as++env) h n:=by
 have ht:∀ id,thp (⟨[],[]⟩:Cx sem) (endM c s vs) id=thp c s id:=fun id=>by
  unfold thp endM
  simp only [kbg,koA]
  cases h1:alk s.hp id with
  | some b=>rfl
  | none=>cases h2:alk c.g id <;> simp [alk]
 refine ⟨fun x=>?_,fun id B hB=>R.blk id B (ht id ▸ hB),fun id B hB=>R.lt id B (ht id ▸ hB),fun i j B B' q hi hj=>R.inj i j B B' q (ht i ▸ hi) (ht j ▸ hj),R.zin,fun id B q hB=>R.zout id B q (ht id ▸ hB),fun id B q hB=>R.bnd id B q (ht id ▸ hB),R.hn,fun x v hx=>rfl,fun id b hb=>rfl,fun _=>rfl,fun q k T es hq=>(by cases hq),R.fam.map (fun id B hB=>.inl ⟨B,ht id ▸ hB,fun h=>h,rfl,rfl⟩) (fun id _ B r _ h1 h2 h3=>((R.fam id B h1 h2).2 r h3).2.1) (jah _)⟩
 have e1:tlk (⟨[],[]⟩:Cx sem) (endM c s vs) x=if 1000000+0<=x/\x<1000000+0+vs.length then (vs[x-1000000-0]?).getD .un else tlk c s x:=by
  have e0:alk (endM c s vs).env x=if 1000000+0<=x/\x<1000000+0+vs.length then vs[x-1000000-0]? else alk (s.env++c.e0) x:=ktd vs 0 x _
  unfold tlk
  rw [e0]
  split
  ·rename_i v hv
   split at hv
   ·rename_i hc; rw [if_pos hc,hv]; rfl
   ·rename_i hc
    rw [if_neg hc]
    rw [kbg] at hv
    cases h1:alk s.env x with
    | some w=>rw [h1] at hv; cases hv; rfl
    | none=>rw [h1] at hv; simp only at hv; simp [hv]
  ·rename_i hv
   split at hv
   ·rename_i hc; rw [if_pos hc,hv]; rfl
   ·rename_i hc
    rw [if_neg hc]
    rw [kbg] at hv
    cases h1:alk s.env x with
    | some w=>rw [h1] at hv; cases hv
    | none=>rw [h1] at hv; simp only at hv; simp [hv,alk]
 show TVR P κ ln ahN (endM c s vs).n _ (lk ((as.zipIdx 0).map (fun x=>(1000000+x.2,x.1))++env) x)
 rw [e1,knP,hv.len]
 split
 ·rename_i hx
  cases hh:vs[x-1000000-0]? with
  | none=>exact .un _
  | some v=>
   obtain ⟨a,ha,hva⟩:=hv.at hh
   rw [ha]; exact hva
 ·exact R.env x
theorem ksI {ρ:Ty} {r:ρ.den} {p:Prop} (hk:askR (A:=sem) (ρ:=ρ) c s=some r):p:=kaa hk
theorem kal {g:FuncId} {C:CtrM} {f:Func} (hf:P.funcs[g]?=some f) (hd:(C.okS&&C.ks.length<=f.ntmps&&!(f.name== "runtime.NumGoroutine"))=true) {An:List (Nat×La)} (Δ:List (FuncId×Ctr)) (hΔ:Goods P Δ)
  (he:∀ x,C.F x=kxq P Δ (anL An) f C (A:=sem) x) (hM0:(alk Δ IM).isNone=true:=by rfl):C.ok=true/\GoodM P g C:=by
 simp only [jac,jbi,jai] at hd
 obtain ⟨⟨h1,h2⟩,h3⟩:=hd
 unfold CtrM.okS at h1
 simp only [jac,jai] at h1
 obtain ⟨⟨⟨⟨hnd,hik⟩,hok⟩,hinnd⟩,hout⟩:=h1
 refine ⟨hok,fun x y hy l1 l2 hl hl1 κ ln h n args hpa R=>?_⟩
 rw [he,kxq] at hy
 dsimp only at hy
 rw [hl,List.take_left' hl1,List.drop_left' hl1] at hy
 have hal:=kni hpa
 split at hy
 ·exact kaa hy
 ·rename_i body hb
  have hkeys:(kbj (A:=sem) C.ks l1 0++(kak (A:=sem) C.inp C.n0 l2).env).map (·.1)=kfv C.ks 0++C.inp.env.map (·.1):=by
   rw [jcx,kip C.ks 0 hl1]
   congr 1
   exact kvi _ _
  have hnd0:((kbj (A:=sem) C.ks l1 0++(kak (A:=sem) C.inp C.n0 l2).env).map (·.1)).Nodup:=by rw [hkeys]; exact hnd
  have hnd1:(((kak (A:=sem) C.inp C.n0 l2).env).map (·.1)).Nodup:=by
   rw [jcx] at hnd0
   exact (List.nodup_append.1 hnd0).2.1
  have halk:∀ x v,alk (kak (A:=sem) C.inp C.n0 l2).env x=some v->alk (kbj (A:=sem) C.ks l1 0) x=none:=fun x v hv=>by
   cases hp:alk (kbj (A:=sem) C.ks l1 0) x with
   | none=>rfl
   | some w=>
    have h1:=kix hnd0 (jaz.2 (.inl (kat hp)))
    have h2:=kix hnd0 (jaz.2 (.inr (kat hv)))
    rw [jcx,List.nodup_append] at hnd0
    exact absurd rfl (hnd0.2.2 x (jay.2 ⟨_,kat hp,rfl⟩) x (jay.2 ⟨_,kat hv,rfl⟩))
  let ef:List (Nat×TV sem):=(kak (A:=sem) C.inp C.n0 l2).env.filter (fun x=>(alk C.out.env x.1).isSome)
  let eg:List (Nat×TV sem):=C.inn.map (fun p=>(7000000+p,.kp p))
  let e0:List (Nat×TV sem):=ef++eg
  let e1:List (Nat×TV sem):=kbj (A:=sem) C.ks l1 0++(kak (A:=sem) C.inp C.n0 l2).env.filter (fun x=>!(alk C.out.env x.1).isSome)
  have hef:∀ x,alk ef x=if (alk C.out.env x).isSome then alk (kak (A:=sem) C.inp C.n0 l2).env x else none:=fun x=>kdv (fun k=>(alk C.out.env k).isSome) _ x
  have he1:∀ x,alk ((kak (A:=sem) C.inp C.n0 l2).env.filter (fun x=>!(alk C.out.env x.1).isSome)) x=if !(alk C.out.env x).isSome then alk (kak (A:=sem) C.inp C.n0 l2).env x else none:=fun x=>kdv (fun k=>!(alk C.out.env k).isSome) _ x
  have he0:∀ x,alk e0 x=match alk ef x with | some v=>some v | none=>alk eg x:=fun x=>by
   show alk (ef++eg) x=_
   rw [kbg]
   cases alk ef x <;> rfl
  have hkl:C.ks.length<=1000000:=by
   unfold CtrM.ok at hok
   simp only [jac,jai] at hok
   exact hok.1.2
  have hklt:∀ x v,alk (kak (A:=sem) C.inp C.n0 l2).env x=some v->x<C.ks.length:=fun x v hv=>by
   have e:(alk (unE (A:=sem) C.inp.env l2).1 x).isSome=(alk C.inp.env x).isSome:=kke _ _ _
   have e2:alk (unE (A:=sem) C.inp.env l2).1 x=some v:=hv
   rw [e2] at e
   obtain ⟨pv2,hpv2⟩:=jao.1 e.symm
   exact of_decide_eq_true (jam.1 hik _ (kat hpv2))
  have hgh:∀ x v,alk eg x=some v->∃ p∈C.inn,x=7000000+p/\v = .kp p:=fun x v hv=>by
   obtain ⟨p,hp,e⟩:=jay.1 (kat hv)
   cases e; exact ⟨p,hp,rfl,rfl⟩
  have hgs:∀ p∈C.inn,alk eg (7000000+p)=some (.kp p):=fun p hp=>by
   refine kix ?_ (jay.2 ⟨p,hp,rfl⟩)
   show ((C.inn.map (fun p=>(7000000+p,(TV.kp p:TV sem)))).map (·.1)).Nodup
   rw [List.map_map,jde,List.pairwise_map]
   exact (jde.1 hinnd).imp fun hne e=>hne (by simp only [Function.comp] at e; omega)
  have hinlt:∀ p∈C.inn,p<C.n0:=fun p hp=>by
   unfold CtrM.inn at hp
   obtain ⟨x,hx,rfl⟩:=jay.1 hp
   unfold CtrM.ok at hok
   simp only [jac,jai] at hok
   exact of_decide_eq_true (jam.1 hok.2 _ (jeb.1 hx).1)
  have hefn:∀ x,1000000<=x->alk ef x=none:=fun x hx=>by
   rw [hef]; split
   ·cases hh:alk (kak (A:=sem) C.inp C.n0 l2).env x with
    | none=>rfl
    | some v=>have:=hklt x v hh; omega
   ·rfl
  have W0:CxWf (⟨e0,[]⟩:Cx sem):=⟨fun x v hx=>by
   rw [he0]
   rcases jaz.1 hx with hx | hx
   ·have e:alk ef x=some v:=by
     rw [hef]
     obtain ⟨h1,h2⟩:=jeb.1 hx
     rw [if_pos h2]
     exact kix hnd1 h1
    rw [e]
   ·obtain ⟨p,hp,e⟩:=jay.1 hx
    cases e
    rw [hefn _ (by omega)]
    exact hgs p hp,fun x B hx=>by cases hx⟩
  have R0:Rel P κ ln ahN ⟨e0,[]⟩ ⟨e1,(kak (A:=sem) C.inp C.n0 l2).hp,C.n0,false⟩ (kao args) h n:=by
   refine ⟨fun x=>?_,R.blk,R.lt,R.inj,R.zin,R.zout,R.bnd,R.hn,fun x v hx=>?_,fun id b hb=>rfl,fun _=>rfl,R.zk,R.fam.map (fun id B hB=>.inl ⟨B,hB,fun h=>h,rfl,rfl⟩) (fun id _ B r _ h1 h2 h3=>((R.fam id B h1 h2).2 r h3).2.1) (jah _)⟩
   ·have hx:=R.env x
    unfold tlk at hx ⊢
    simp only [alk] at hx ⊢
    rw [show (offD (kak (A:=sem) C.inp C.n0 l2)).env=(kak (A:=sem) C.inp C.n0 l2).env from rfl] at hx
    have e1a:alk e1 x=_:=kbg (kbj (A:=sem) C.ks l1 0) _ x
    rw [e1a,he0,hef,he1]
    cases h1:alk (kbj (A:=sem) C.ks l1 0) x with
    | some v=>exact (knN C.ks 0 hpa x v h1).2
    | none=>
     cases h2:alk (kak (A:=sem) C.inp C.n0 l2).env x with
     | some v=>
      rw [h2] at hx
      cases (alk C.out.env x).isSome with
      | true=>exact hx
      | false=>exact hx
     | none=>
      have:TVR P κ ln ahN C.n0 ((alk eg x).getD .un) (lk (kao args) x):=by
       cases hg:alk eg x with
       | none=>exact .un _
       | some w=>
        obtain ⟨p,hp,ex,rfl⟩:=hgh x w hg
        rw [kxi (by omega:args.length<=x)]
        exact .kp p (hinlt p hp)
      cases (alk C.out.env x).isSome with
      | true=>exact this
      | false=>exact this
   ·have hx:alk (kbj (A:=sem) C.ks l1 0++(kak (A:=sem) C.inp C.n0 l2).env.filter (fun x=>!(alk C.out.env x.1).isSome)) x=some v:=hx
    rw [kbg,he1] at hx
    show alk e0 x=none
    have hxlt:x<C.ks.length:=by
     cases h1:alk (kbj (A:=sem) C.ks l1 0) x with
     | some w=>
      have:x∈(kbj (A:=sem) C.ks l1 0).map (·.1):=jay.2 ⟨_,kat h1,rfl⟩
      rw [kip C.ks 0 hl1] at this
      have:=kns C.ks 0 x this
      omega
     | none=>
      rw [h1] at hx
      simp only at hx
      split at hx
      ·exact hklt x v hx
      ·cases hx
    have hgn:alk eg x=none:=by
     cases hg:alk eg x with
     | none=>rfl
     | some w=>obtain ⟨p,_,e,_⟩:=hgh x w hg; omega
    rw [he0,hgn,hef]
    cases hc:(alk C.out.env x).isSome with
    | false=>simp
    | true=>
     rw [hc] at hx
     simp only [jdu,jaj,if_false] at hx
     simp only [if_true]
     cases h2:alk (kak (A:=sem) C.inp C.n0 l2).env x with
     | none=>rfl
     | some w=>rw [halk x w h2] at hx; cases hx
  refine HC.fin (HC.of_body hf hb h3 (by rw [hal]; exact h2) fun D O hD=>Sat.ofL ?_)
  have fin:∀ (rl:List ResultVar) (c:Cx sem) κ' ln' s env' h' n' v,CxWf c->RJ ⟨e0,κ,ln⟩ P κ' ln' ahN c s env' h' n'->resM (A:=sem) P C rl c s=some v->
    ∃ a,kaT P h' env' rl=some a/\∃ h2:AH,(∀ q B,h2 q=some B->h' q=some B)/\kjB P C κ ln v args a h2 n':=by
   intro rl c κ' ln' s env' h' n' v W RR hv
   unfold resM at hv
   obtain ⟨vs,hvs,hv⟩:=jaa.1 hv
   split at hv
   ·rename_i hlen
    obtain ⟨m,hm,hv⟩:=jaa.1 hv
    by_cases hsn':(m.sn.isEmpty&&C.inn.all (fun p=>alk m.ids p==some p))=true
    ·replace hv:mkT sem C.out.tys m.cs=some v:=(if_pos (c:=(m.sn.isEmpty&&C.inn.all (fun p=>alk m.ids p==some p))=true) (t:=(mkT sem C.out.tys m.cs:Option C.out.ty.den)) (e:=none) hsn').symm.trans hv
     rw [jac] at hsn'
     obtain ⟨hsn,hinm⟩:=hsn'
     obtain ⟨as,k1,k2⟩:=kkB RR.R rl hvs
     obtain ⟨κ2,ln2,R2,q1,q2,q3,q4⟩:=krG (kyB RR.R k2) hm (by simpa [jcp] using hsn) rfl
     have hum:kak (A:=sem) C.out C.n1 m.cs=kad (A:=sem) C.out C.n1 v:=by
      unfold kad kak
      rw [krs _ _ _ hv]
     rw [hum] at R2 q2 q4
     have bkey:∀ id,id∈C.out.hp.map (·.1)↔(alk C.out.hp id).isSome=true:=fun id=>by
      generalize C.out.hp=L
      induction L with
      | nil=>simp [alk]
      | cons y L ih=>
       simp only [jap,jbu,alk]
       split
       ·rename_i e; simp [e]
       ·rename_i e; simp only [e,false_or]; exact ih
     have liv:∀ {id},id∈C.out.hp.map (·.1)->∃ B,alk (kad (A:=sem) C.out C.n1 v).hp id=some (some B):=fun {id} hi=>by
      rw [bkey,<-q4] at hi
      obtain ⟨b,hb⟩:=jao.1 hi
      obtain ⟨B,_,_,rfl,_⟩:=q2 id b hb
      exact ⟨B,hb⟩
     have inb:∀ id B,thp (⟨[],[]⟩:Cx sem) (offD (kad (A:=sem) C.out C.n1 v)) id=some B->id∈C.out.hp.map (·.1):=fun id B hB=>by
      rw [bkey,<-q4]
      unfold thp at hB
      rw [show (offD (kad (A:=sem) C.out C.n1 v)).hp=(kad (A:=sem) C.out C.n1 v).hp from rfl] at hB
      cases hh:alk (kad (A:=sem) C.out C.n1 v).hp id with
      | some b=>rfl
      | none=>rw [hh] at hB; cases hB
     have R3:=R2.cut (h2:=hz (ows κ2 ln2 ⟨[],[]⟩ (offD (kad (A:=sem) C.out C.n1 v))) h' ahN (C.out.hp.map (·.1))) (fun id B q hB hk=>hz_in (inb id B hB) (knx hB hk)) (fun q hq=>by
      unfold hz; split
      ·exact RR.R.hn q hq
      ·rfl)
     refine ⟨_,kua k1,_,kea (fun q B hq=>(by cases hq)),κ2,ln2,as,by rw [k2.len,hlen],rfl,⟨fun x=>?_,R3.blk,R3.lt,R3.inj,R3.zin,R3.zout,R3.bnd,R3.hn,R3.e0,R3.g,R3.dy,R3.zk,R3.fam⟩,fun q B hq=>?_,fun p hp=>?_⟩
     ·have hx:=R3.env x
      cases hpx:alk (kad (A:=sem) C.out C.n1 v).env x with
      | none=>
       have:tlk (⟨[],[]⟩:Cx sem) (offD (kad (A:=sem) C.out C.n1 v)) x = .un:=by
        unfold tlk
        rw [show (offD (kad (A:=sem) C.out C.n1 v)).env=(kad (A:=sem) C.out C.n1 v).env from rfl,hpx]; rfl
       rw [this]; exact .un _
      | some w=>
       obtain ⟨pv,hpv⟩:=krg hpx
       have ho:=jam.1 hout _ hpv
       have el1:lk (resE as++env') x=if 1000000+0<=x/\x<1000000+0+as.length then (as[x-1000000-0]?).getD .un else lk env' x:=knP as 0 x env'
       have el2:lk (resE as++kao args) x=if 1000000+0<=x/\x<1000000+0+as.length then (as[x-1000000-0]?).getD .un else lk (kao args) x:=knP as 0 x (kao args)
       have heq:lk (resE as++kao args) x=lk (resE as++env') x:=by
        rw [el1,el2]
        split
        ·rfl
        ·rename_i hnr
         simp only [jav,jac,jai] at ho
         rcases ho with ho | ⟨ho1,ho2⟩
         ·exfalso; apply hnr; rw [k2.len,hlen]; omega
         ·
          have slot:∀ pv0 v0,alk C.inp.env x=some pv0->(∀ xs:List ((t:Ty)×sem.D t),(unV (A:=sem) pv0 xs).1=v0)->tiedD v0=true->lk (kao args) x=lk env' x:=fun pv0 v0 hi hu ht=>by
           have hu1:alk (kak (A:=sem) C.inp C.n0 l2).env x=some v0:=kmZ C.inp.env l2 x pv0 v0 hi hu
           have hj:alk e0 x=some v0:=by
            have ho1:(alk C.out.env x).isSome=true:=by
             have e:=kke C.out.env (unT sem C.out.tys v) x
             have e2:alk (unE (A:=sem) C.out.env (unT sem C.out.tys v)).1 x=some w:=hpx
             rw [<-e,e2]; rfl
            rw [he0,hef,if_pos ho1,hu1]
           have t1:=R0.env x
           have t2:=RR.R.env x
           rw [R0.e0_tlk hj] at t1
           rw [RR.R.e0_tlk (RR.w x v0 hj)] at t2
           exact (t1.det ht t2 fun id hid=>RR.j x v0 id hj hid).symm
          split at ho2
          ·rename_i p hi; exact slot _ (.mw p) hi (fun xs=>rfl) rfl
          ·rename_i p j hi; exact slot _ (.ptr p j) hi (fun xs=>rfl) rfl
          ·rename_i p hi; exact slot _ (.mp p) hi (fun xs=>rfl) rfl
          ·cases ho2
       rw [heq]; exact hx
     ·unfold hz at hq
      split at hq
      ·rename_i hany
       obtain ⟨id,hid,hk⟩:=jbc.1 hany
       obtain ⟨b,hb⟩:=liv hid
       exact ⟨id,b,hb,kcP (c:=⟨[],[]⟩) (s:=offD (kad (A:=sem) C.out C.n1 v)) (by unfold thp; rw [show (offD (kad (A:=sem) C.out C.n1 v)).hp=(kad (A:=sem) C.out C.n1 v).hp from rfl,hb]) (by simpa using hk)⟩
      ·cases hq
     ·have e1:alk m.ids p=some p:=by simpa using jam.1 hinm p hp
      have e2:alk e0 (7000000+p)=some (.kp p):=by rw [he0,hefn _ (by omega)]; exact hgs p hp
      exact ⟨((q1 p p e1).1).trans (RR.j _ _ p e2 (by simp [TV.has])).1,((q1 p p e1).2.1).trans (RR.j _ _ p e2 (by simp [TV.has])).2⟩
    ·replace hv:=(if_neg (c:=(m.sn.isEmpty&&C.inn.all (fun p=>alk m.ids p==some p))=true) (t:=(mkT sem C.out.tys m.cs:Option C.out.ty.den)) (e:=none) hsn').symm.trans hv; cases hv
   ·cases hv
  let K0:K3:=fun v h' n'=>(∃ h2:AH,(∀ q B,h2 q=some B->h' q=some B)/\kjB P C κ ln y args v h2 n')\/
   (v = .tp []/\∃ κb lnb z c s env,Rel P κb lnb z c s env h' n'/\(∀ x,tied (tlk c s x)=true\/tlk c s x = .un)/\∀ h2:AH,Rel P κb lnb ahN c { s with dy:=false } env h2 n'->∃ h3:AH,(∀ q B,h3 q=some B->h2 q=some B)/\kjB P C κ ln y args v h3 n')
  refine kjn (D:=D) (O:=O) hΔ 1000000 (J:=⟨e0,κ,ln⟩) (RetQ:=fun v st=>∃ a,kaT P st.h st.env f.results.toList=some a/\∃ h2:AH,(∀ q B,h2 q=some B->st.h q=some B)/\kjB P C κ ln v args a h2 st.n) (fun c κ' ln' s env' h' n' v W RR hv=>fin _ c κ' ln' s env' h' n' v W RR hv) (hY:=⟨fun _=>hD,fun hh=>absurd hh (by cases hx:alk Δ IM with | none=>decide | some C=>rw [hx] at hM0; cases hM0)⟩) _ [body] _ _ _ y κ ln ahN (kao args) h n W0 ⟨R0,fun x v id _ _=>⟨rfl,rfl⟩,fun x v hv=>hv⟩ ?_ hy
  refine ⟨fun κ' ln' z' s env' h' n' RR hk=>?_,fun id κ ln z s env h n R hk=>kaa hk,fun v st hv hk=>?_,fun hi=>by rw [hD] at hi; cases hi⟩
  ·dsimp only at hk
   split at hk
   ·rename_i hemp
    have hr0:f.results.toList=[]:=by simpa [jcp] using hemp
    split at hk
    ·rename_i v hv
     cases hk
     show ∃ v,kaT P h' env' f.results.toList=some v/\K0 v h' n'
     rw [hr0]
     refine ⟨.tp [],rfl,.inr ⟨rfl,κ',ln',z',⟨e0,[]⟩,⟨[],s.hp,s.n,s.dy⟩,env',⟨fun x=>?_,RR.R.blk,RR.R.lt,RR.R.inj,RR.R.zin,RR.R.zout,RR.R.bnd,RR.R.hn,fun x v h=>(by cases h),RR.R.g,RR.R.dy,RR.R.zk,RR.R.fam.map (fun id B hB=>.inl ⟨B,hB,fun h=>h,rfl,rfl⟩) (fun id _ B r _ h1 h2 h3=>((RR.R.fam id B h1 h2).2 r h3).2.1) (jah _)⟩,fun x=>?_,fun h2 R2=>?_⟩⟩
     ·have hx:=RR.R.env x
      cases hc:alk e0 x with
      | none=>simp only [tlk,alk,hc]; exact .un _
      | some w=>
       rw [RR.R.e0_tlk hc] at hx
       simp only [tlk,alk,hc]; exact hx
     ·cases hc:alk e0 x with
      | none=>right; simp only [tlk,alk,hc]; rfl
      | some w=>
       left
       simp only [tlk,alk,hc,jca]
       rw [he0] at hc
       split at hc
       ·rename_i w' hc'
        cases hc
        rw [hef] at hc'
        have ho1:(alk C.out.env x).isSome=true:=by
         cases hh:(alk C.out.env x).isSome with
         | true=>rfl
         | false=>rw [hh] at hc'; simp at hc'
        rw [if_pos ho1] at hc'
        have hc:=hc'
        obtain ⟨pv,hpv⟩:=jao.1 ho1
        have ho:=jam.1 hout _ (kat hpv)
        have hik':x<C.ks.length:=by
         have e:(alk (unE (A:=sem) C.inp.env l2).1 x).isSome=(alk C.inp.env x).isSome:=kke _ _ _
         have e2:alk (unE (A:=sem) C.inp.env l2).1 x=some w:=hc
         rw [e2] at e
         obtain ⟨pv2,hpv2⟩:=jao.1 e.symm
         exact of_decide_eq_true (jam.1 hik _ (kat hpv2))
        simp only [jav,jac,jai] at ho
        rcases ho with ho | ⟨ho1,ho2⟩
        ·omega
        ·have look:∀ pv0 v0,alk C.inp.env x=some pv0->(∀ xs:List ((t:Ty)×sem.D t),(unV (A:=sem) pv0 xs).1=v0)->w=v0:=fun pv0 v0 hi hu=>by
          have hu1:alk (kak (A:=sem) C.inp C.n0 l2).env x=some v0:=kmZ C.inp.env l2 x pv0 v0 hi hu
          rw [hc] at hu1; exact Option.some.inj hu1
         split at ho2
         ·rename_i p hi; rw [look _ (.mw p) hi (fun xs=>rfl)]; rfl
         ·rename_i p j hi; rw [look _ (.ptr p j) hi (fun xs=>rfl)]; rfl
         ·rename_i p hi; rw [look _ (.mp p) hi (fun xs=>rfl)]; rfl
         ·cases ho2
       ·obtain ⟨p,_,_,rfl⟩:=hgh x _ hc; rfl
     ·obtain ⟨a,q1,q2⟩:=fin [] _ _ _ _ _ _ _ _ W0 ⟨R2,RR.j,RR.w⟩ hv
      cases q1
      exact q2
    ·exact ksI hk
   ·split at hk
    ·exact kaa hk
    ·rename_i hdy
     split at hk
     ·rename_i v hv
      cases hk
      obtain rfl:=RR.R.dy (by simpa using hdy)
      obtain ⟨a,q1,q2⟩:=fin _ _ _ _ _ _ _ _ _ W0 RR hv
      exact ⟨a,q1,.inl q2⟩
     ·exact ksI hk
  ·cases hk
   obtain ⟨a,q1,q2⟩:=hv
   exact ⟨a,q1,.inl q2⟩
end
section
variable {P:Program} {g:FuncId}
theorem Good.more {C:Ctr} {M:CtrM} (h:Good P g C) (hm:M.ok=true/\GoodM P g M):Good P g ⟨C.nm,C.as,C.rs,C.F,M::C.mus,C.its⟩:=by
 refine ⟨h.1,h.2.1,fun M' hM=>?_,h.2.2.2⟩
 rcases jbu.1 hM with rfl | hM
 ·exact hm
 ·exact h.2.2.1 M' hM
theorem good_dm {nm:String}:Good P g ⟨nm,[],[],fun _=>none,[],[]⟩:=⟨rfl,fun x r h=>(by cases h),fun M h=>(by cases h),fun M h=>(by cases h)⟩
theorem khA {C:CtrM} (h1:C.ok=true) (h:∀ x,C.F x=none):C.ok=true/\GoodM P g C:=
 ⟨h1,fun x y hy=>by rw [h x] at hy; cases hy⟩
end
section
variable {P:Program} {g:FuncId}
theorem koI {α β:Type} (f:α->β):∀ (l:List α) (k:Nat),((l.zipIdx k).map fun y=>(y.2+1,f y.1))=(l.zipIdx (k+1)).map fun y=>(y.2,f y.1)
 | [],k=>rfl
 | x::l,k=>by simp only [jbx,jap,koI f l (k+1)]
theorem ktA {β:Type}:∀ (l:List β) (k x:Nat),x<k->alk ((l.zipIdx k).map fun y=>(y.2,y.1)) x=none
 | [],k,x,h=>rfl
 | b::l,k,x,h=>by
  simp only [jbx,jap,alk]
  rw [if_neg (by omega)]; exact ktA l (k+1) x (by omega)
theorem alk_zip_none' {α β:Type} (f:α->β):∀ (l:List α) (k x:Nat),x<k->alk ((l.zipIdx k).map fun y=>(y.2,f y.1)) x=none
 | [],k,x,h=>rfl
 | b::l,k,x,h=>by
  simp only [jbx,jap,alk]
  rw [if_neg (by omega)]; exact alk_zip_none' f l (k+1) x (by omega)
theorem kqd {κ:Nat->Option Nat} {ln:Nat->Nat} {z:AH} {c:Cx sem} {s:TS sem} {env:Env} {h:AH} {n:Nat} (R:Rel P κ ln z c s env h n) {ts:List Ty} {c':Cx sem} {v:List (tup ts).den} (hv:resI (A:=sem) ts c' s=some v) :
  (∃ es,lk env GS = .gs es/\es.length=v.length)\/lk env GS = .ud:=by
 unfold resI at hv
 have hg:=R.env GS
 split at hv
 ·rename_i t ys hy
  rw [show tlk c s GS = .gs t ys by unfold tlk; rw [hy]] at hg
  unfold tcast at hv
  split at hv
  ·rename_i e
   cases e
   simp only [Option.some.injEq] at hv
   subst hv
   generalize lk env GS=a at hg
   cases hg
   exact .inl ⟨_,rfl,by simp⟩
  ·cases hv
 ·rename_i hy
  rw [show tlk c s GS = .ud by unfold tlk; rw [hy]] at hg
  generalize lk env GS=a at hg
  cases hg
  exact .inr rfl
 ·cases hv
theorem kxI {nm:String} {as ts:List Ty} {F:(tup as).den->Option (List (tup ts).den)} {f:Func} (hf:P.funcs[g]?=some f) (hd:(ts.all Ty.dat&&as.length+1<=f.ntmps&&f.ntmps<=GS&&f.results.isEmpty&&!(f.name== "runtime.NumGoroutine"))=true) {An:List (Nat×La)} (Δ:List (FuncId×Ctr)) (hΔ:Goods P Δ)
  (he:∀ x,F x=runI fun o=>machI P Δ (anL An) f as ts o (A:=sem) x):GoodI P g ⟨nm,as,ts,F⟩:=by
 simp only [jac,jbi,jai] at hd
 obtain ⟨⟨⟨⟨h1,h2⟩,h3⟩,h4⟩,h5⟩:=hd
 refine ⟨h1,fun x xs hx l hl=>?_⟩
 dsimp only at hx hl
 rw [he] at hx
 unfold runI at hx
 obtain ⟨xs',_,hx⟩:=jaa.1 hx
 obtain ⟨ys,hy,hx⟩:=jaa.1 hx
 split at hx
 rotate_left
 ·cases hx
 rename_i hlen
 cases hx
 unfold machI at hy
 dsimp only at hy
 split at hy
 ·exact kaa hy
 ·rename_i body hb
  have hal:=ksQ hl
  have hΔ':Goods P ((IM,oraC ts (some xs)) :: Δ):=.cons ⟨rfl,fun x r h=>(by cases h),fun M h=>(by cases h),fun I h=>by
   simp only [oraC,jdw] at h
   subst h
   refine ⟨h1,fun x xs hx l hl=>?_⟩
   obtain ⟨a,_,ha⟩:=hl
   exact absurd ha.1 (by decide)⟩ hΔ
  refine IT.of_body hf hb h5 (by rw [hal.len,kqH]; exact h2) h3 (by simpa using h4) fun D G O hit hxs hok=>Sat.ofL ?_
  have hY:YOk P D ((IM,oraC ts (some xs)) :: Δ) ⟨[(0,.yl 0)],fun id=>if id=0 then some G.l else none,fun _=>0⟩:=by
   refine ⟨fun h=>?_,fun _=>⟨G,hit,hok,fun nm' ts' F' e=>?_,rfl,rfl⟩⟩
   ·simp [alk] at h
   ·simp only [alk,if_true,jal,oraC,List.head?_cons,Option.some.injEq,CtrI.mk.injEq] at e
    obtain ⟨_,_,e1,e2⟩:=e
    subst e1
    cases e2
    exact ⟨xs,rfl,hxs⟩
  refine kjn (D:=D) (O:=O) hΔ' 1000000 (J:=⟨[(0,.yl 0)],fun id=>if id=0 then some G.l else none,fun _=>0⟩) (r:=.sl (tup ts)) (ρ:=.sl (tup ts)) (res:=resI (A:=sem) ts) (RetQ:=fun (v:List (tup ts).den) st=>(∃ es,lk st.env GS = .gs es/\es.length=v.length)\/lk st.env GS = .ud) (fun c κ ln s env h n v _ R hv=>kqd (c':=c) R.R hv) hY ⟨[(0,.yl 0)],[]⟩ [body] _ _ _ ys (fun id=>if id=0 then some G.l else none) (fun _=>0) (fun _=>none) _ ah0 0
   ⟨fun x v h=>?_,fun x B h=>(by cases h)⟩ ?_ ?_ hy
  ·simp only [jdw,Prod.mk.injEq] at h
   obtain ⟨rfl,rfl⟩:=h
   rfl
  ·have hz:=koI (fun (y:(t:Ty)×sem.D t)=>argT (A:=sem) y.1 y.2) (unT sem as x) 0
   refine ⟨⟨fun t=>?_,fun id B h=>(by cases h),fun id B h=>(by cases h),fun i j B B' q h=>(by cases h),fun q B h=>(by cases h),fun id B q h=>(by cases h),fun id B q h=>(by cases h),fun q _=>rfl,fun t v h=>?_,fun id b h=>(by cases h),fun _=>rfl,fun q k T es h=>(by cases h),fun id B h=>(by cases h)⟩,fun x v id _ _=>⟨rfl,rfl⟩,fun x v hv=>hv⟩
   ·have hz':alk ((unT sem as x).zipIdx.map fun y=>(y.2+1,argT (A:=sem) y.1.1 y.1.2))=alk (((unT sem as x).zipIdx 1).map fun y=>(y.2,argT (A:=sem) y.1.1 y.1.2)):=congrArg alk hz
    have ht:tlk (A:=sem) ⟨[(0,.yl 0)],[]⟩ ⟨(GS,.gs (tup ts) [])::(unT sem as x).zipIdx.map (fun y=>(y.2+1,argT (A:=sem) y.1.1 y.1.2)),[],1,false⟩ t=if t=GS then .gs (tup ts) [] else if t=0 then .yl 0 else tlk (A:=sem) ⟨[],[]⟩ ⟨((unT sem as x).zipIdx 1).map fun y=>(y.2,argT (A:=sem) y.1.1 y.1.2),[],1,false⟩ t:=by
     unfold tlk
     simp only [alk,hz']
     by_cases h1:t=GS
     ·rw [if_pos h1,if_pos h1]
     ·rw [if_neg h1,if_neg h1]
      by_cases h2:t=0
      ·subst h2; rw [alk_zip_none' (fun (y:(t:Ty)×sem.D t)=>argT (A:=sem) y.1 y.2) _ 1 0 (by omega)]; rfl
      ·rw [if_neg h2,if_neg h2]
    have hlk:lk ((GS,.gs [])::kao (.sc (.func (.yield G.l) #[] #[])::l)) t=if t=GS then .gs [] else if t=0 then .sc (.func (.yield G.l) #[] #[]) else lk ((l.zipIdx 1).map fun (v,i)=>(i,v)) t:=by
     simp only [lk,kao,jbx,jap,jcb]
    show TVR P _ _ _ 1 (tlk (A:=sem) ⟨[(0,.yl 0)],[]⟩ ⟨(GS,.gs (tup ts) [])::(unT sem as x).zipIdx.map (fun y=>(y.2+1,argT (A:=sem) y.1.1 y.1.2)),[],1,false⟩ t) _
    rw [ht,hlk]
    by_cases h1:t=GS
    ·rw [if_pos h1,if_pos h1]; exact .gs (tup ts) []
    ·rw [if_neg h1,if_neg h1]
     by_cases h2:t=0
     ·rw [if_pos h2,if_pos h2]; exact .yl 0 G.l (by omega) rfl
     ·rw [if_neg h2,if_neg h2]
      exact kpB (n:=1) hal 1 t
   ·show alk [((0:Nat),(TV.yl 0:TV sem))] t=none
    simp only [alk]
    rw [if_neg]
    rintro rfl
    have h':alk ((GS,.gs (tup ts) [])::(unT sem as x).zipIdx.map (fun y=>(y.2+1,argT (A:=sem) y.1.1 y.1.2))) 0=some v:=h
    simp only [alk] at h'
    rw [if_neg (by decide),show ((unT sem as x).zipIdx.map fun y=>(y.2+1,argT (A:=sem) y.1.1 y.1.2))=((unT sem as x).zipIdx 1).map fun y=>(y.2,argT (A:=sem) y.1.1 y.1.2) from hz,alk_zip_none' (fun (y:(t:Ty)×sem.D t)=>argT (A:=sem) y.1 y.2) _ 1 0 (by omega)] at h'
    cases h'
  ·refine ⟨fun κ ln z s env h n R hk=>?_,fun id κ ln z s env h n R hk=>kaa hk,fun v st hv hk=>?_,fun _ st h=>⟨.inr rfl,.inr h⟩⟩
   ·dsimp only at hk
    split at hk
    ·rename_i v hv
     cases hk
     rcases kqd R.R hv with ⟨es,q1,q2⟩ | q
     ·exact ⟨.inl rfl,.inl ⟨es,q1,by simp [q2,hlen]⟩⟩
     ·exact ⟨.inl rfl,.inr q⟩
    ·exact kaa hk
   ·cases hk
    rcases hv with ⟨es,q1,q2⟩ | q
    ·exact ⟨.inr rfl,.inl ⟨es,q1,by simp [q2,hlen]⟩⟩
    ·exact ⟨.inr rfl,.inr q⟩
theorem Good.moreI {C:Ctr} {I:CtrI} (h:Good P g C) (hi:GoodI P g I):Good P g ⟨C.nm,C.as,C.rs,C.F,C.mus,I::C.its⟩:=by
 refine ⟨h.1,h.2.1,h.2.2.1,fun I' hI=>?_⟩
 rcases jbu.1 hI with rfl | hI
 ·exact hi
 ·exact h.2.2.2 I' hI
end
end Go.Abs
namespace Go.Abs
open Go
theorem kcL {α:Type} {l:List α} {i:Nat} (h:i<l.length):gi l (i:Int)=some l[i]:=by rw [kyI,jae h]
theorem ktH {α β:Type} {F:α->Option (α⊕β)}:∀ {n:Nat} {x:α} {z:β} (m:Nat),itN F n x=some z->itN F (n+m) x=some z
 | 0,x,z,m,h=>by simp [itN] at h
 | n+1,x,z,m,h=>by
  rw [Nat.succ_add]
  simp only [itN] at h ⊢
  split at h
  ·cases h
  ·rename_i y hy; rw [hy] at *; exact ktH m h
  ·rename_i w hw; rw [hw] at *; exact h
theorem kli {α β:Type} {F:α->Option (α⊕β)} {n:Nat} {x:α} {z:β} (h:itN F n x=some z) (hn:n<=18446744073709551616):iter F x=some z:=by
 unfold iter
 have:=ktH (18446744073709551616-n) h
 rwa [show n+(18446744073709551616-n)=18446744073709551616 by omega] at this
theorem kgL {α β:Type} {F:α->Option (α⊕β)} {n:Nat} {x:α} {z:β} (h:F x=some (.inr z)):itN F (n+1) x=some z:=by simp [itN,h]
theorem kuu {α β:Type} {F:α->Option (α⊕β)} {n:Nat} {x y:α} (h:F x=some (.inl y)):itN F (n+1) x=itN F n y:=by simp [itN,h]
theorem kaM {α:Type} (l:List α):lenI l=(l.length:Int):=rfl
theorem kcZ {i:Nat} (h:i<9223372036854775807):w64 ((i:Int)+1)=((i+1:Nat):Int):=by rw [kiI (by omega) (by omega)]; rfl
def endL {β:Type}:Option β->β⊕Unit
 | some b=>.inl b
 | none=>.inr ()
def nextL {β:Type} (i:Nat):Option β->Int⊕(β⊕Unit)
 | some b=>.inr (.inl b)
 | none=>.inl ((i+1:Nat):Int)
theorem kqf {α β:Type} {F:Int->Option (Int⊕(β⊕Unit))} (l:List α) (hl:l.length<=9223372036854775807) (f:Nat->α->Option β)
  (h1:∀ i,(hi:i<l.length)->F (i:Int)=some (nextL i (f i l[i]))) (h2:F (l.length:Int)=some (.inr (.inr ()))) :
  iter F 0=some (endL (l.zipIdx.findSome? fun x=>f x.2 x.1)):=by
 have:∀ k i:Nat,i+k=l.length->itN F (k+1) (i:Int)=some (endL (((l.drop i).zipIdx i).findSome? (fun x=>f x.2 x.1))):=by
  intro k
  induction k with
  | zero=>
   intro i h
   have:i=l.length:=by omega
   subst this
   rw [kgL h2,List.drop_length]; rfl
  | succ k ih=>
   intro i h
   have hi:i<l.length:=by omega
   rw [jdt hi,jbx,List.findSome?_cons]
   have e:=h1 i hi
   cases hf:f i l[i] with
   | some b=>rw [hf] at e; rw [kgL e]; rfl
   | none=>rw [hf] at e; rw [kuu e,ih (i+1) (by omega)]
 exact kli (this l.length 0 (by omega)) (by omega)
theorem kmJ {α:Type} {F:Int->Option (Int⊕(Bool⊕Unit))} (b:Bool) (l:List α) (hl:l.length<=9223372036854775807) (p:Nat->α->Bool)
  (h1:∀ i,(hi:i<l.length)->F (i:Int)=some (if p i l[i]=true then .inr (.inl b) else .inl ((i+1:Nat):Int))) (h2:F (l.length:Int)=some (.inr (.inr ()))) :
  iter F 0=some (if (l.zipIdx.any fun x=>p x.2 x.1)=true then .inl b else .inr ()):=by
 rw [kqf l hl (fun i x=>if p i x=true then some b else none) (fun i hi=>by rw [h1 i hi]; cases p i l[i] <;> rfl) h2]
 generalize l.zipIdx=L
 induction L with
 | nil=>rfl
 | cons x L ih=>
  rw [List.findSome?_cons,List.any_cons]
  cases hp:p x.2 x.1 with
  | true=>simp [endL]
  | false=>simp only [jaj,if_false,jdk]; exact ih
theorem kwv {α:Type} {a b:List α} (h:a.length+b.length<=1048576):gapp a b=some (a++b):=by unfold gapp; rw [if_pos h]
def wi (lo hi n:Int):Bool:=decide (lo<=n)&&decide (n<=hi)
theorem wi_iff {lo hi n:Int}:wi lo hi n=true↔lo<=n/\n<=hi:=by unfold wi; simp
theorem kyh {α:Type} (p:α->Bool) (l:List α):(l.any fun x=>!p x) = !l.all p:=by
 induction l with
 | nil=>rfl
 | cons x l ih=>simp only [List.any_cons,jdy,ih,Bool.not_and]
theorem krf {α:Type} (q:α->Bool):∀ (l:List α) (k:Nat),((l.zipIdx k).any fun x=>q x.1)=l.any q
 | [],k=>rfl
 | x::l,k=>by rw [jbx,List.any_cons,List.any_cons,krf q l (k+1)]
theorem lenI_lt {α:Type} {l:List α} {i:Nat}:decide ((i:Int)<lenI l)=true↔i<l.length:=by rw [kaM,jai]; omega
theorem kdx {α:Type} {l:List α}:¬ decide ((l.length:Int)<lenI l)=true:=by rw [lenI_lt]; omega
end Go.Abs
