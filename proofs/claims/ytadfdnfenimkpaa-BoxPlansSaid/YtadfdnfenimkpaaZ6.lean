/- The machinery, part 6. -/
import Derived.Test.YtadfdnfenimkpaaZ4
import Derived.Test.YtadfdnfenimkpaaZ5
set_option linter.constructorNameAsVariable false
set_option linter.unusedVariables false
set_option linter.unusedSimpArgs false
set_option linter.unusedSectionVars false
namespace Go.Abs
open Go Go.RowKit
section
variable {P:Program} {κ κ':Nat->Option Nat} {ln ln':Nat->Nat} {z z':AH} {c:Cx sem} {s:TS sem} {env:Env} {h h':AH} {n n' N N':Nat} {id:Nat}
variable {ρ:Ty} {Kf:TV sem->TS sem->sem.Ans ρ} {r:ρ.den}
variable {d:Option Tmp} {ty:TypeId} {pos:String} {after:Array Edge} {g:Option (Nat×Bool)}
theorem kss {ho:Option Int} {i:Int} {K:sem.Ans ρ} (hk:holeX (A:=sem) ho i K=some r):K=some r/\∀ k:Int,ho=some k->k=i:=by
 unfold holeX at hk
 split at hk
 ·exact ⟨hk,fun k e=>by cases e⟩
 ·rename_i a
  simp only [jaa] at hk
  obtain ⟨_,hg,hk⟩:=hk
  unfold gsame at hg
  split at hg
  ·rename_i e; exact ⟨hk,fun k e'=>by cases e'; exact e⟩
  ·cases hg
theorem kiq (R:Rel P κ ln z c s env h n) {T T' U:TypeId} {t u:Ty} {j:Nat} {l:List t.den} {pv xv av:AV} {i:Int} {ho:Option Int} (hB:alk s.hp id=some (some (.fm T' t j U u l ho))) (hud:u.dat=true) (hc:c.has id=false)
  (hho:∀ k:Int,ho=some k->k=i) {y y' y0:t.den} {xs:List u.den} (hy:gi l i=some y) (hy':rowS (A:=sem) t u j y0 xs=some y')
  (hst:∀ q es e,κ id=some q->h q=some (.cells t.wd T' es)->es[i.toNat]?=some e->e.length=t.wd->(∀ b∈e,b.one=true)->0<=i->
   (ho=none->∀ p b b',p≠j->e[p]?=some b->(t.enc y)[p]?=some b'->Snap z b b')->
   ∃ e',e'.length=t.wd/\(∀ b∈e',b.one=true)/\e'[j]?=some av/\(∀ p b b',p≠j->e'[p]?=some b->(t.enc y0)[p]?=some b'->Snap z b b')/\∀ K:K3,K .ud (updH h q (.cells t.wd T' (es.set i.toNat e'))) n->kbi P h n T pv xv K)
  {rv:Option Nat} (hval:av.one=true/\((rv=none/\xs=[]/\av=nilS)\/∃ rr es,rv=some rr/\av = .ms rr 0 xs.length/\h rr=some (.cells u.wd U es)/\SnapE z es (xs.map u.enc)/\(∀ e∈es,e.length=u.wd/\∀ a∈e,a.one=true)))
  (hrr:∀ rr,rv=some rr->rr<n/\z rr=none/\∀ i' B',thp c s i'=some B'->¬ Ow κ ln i' B' rr)
  (hk:Kf .ud { drpS s id with hp:=(id,some (.fm T' t j U u (lset l i y') none))::(drpS s id).hp }=some r) :
  ∃ ln',Ke c s.n κ ln κ ln'/\∃ h',(∀ K:K3,K .ud h' n->kbi P h n T pv xv K)/\Rel P κ ln' z c { drpS s id with hp:=(id,some (.fm T' t j U u (lset l i y') none))::(drpS s id).hp } env h' n:=by
 obtain ⟨hd,h0,hl0,q,es,e,rm,hq,hh,he,hr,hf,hn,hl,h1,hvv,hv0⟩:=R.famAt (kab hB) hy
 obtain ⟨hj,hs'⟩:=keD hd hud hy'
 have hB':=kab (c:=c) hB
 have hel:=(h1 e (jah he)).1
 have hfam:=R.fam id _ hB' rfl
 have hFam:∀ h':AH,(∀ rr,rv=some rr->h' rr=h rr)->(match rv with | none=>av=nilS/\xs=[] | some r=>av = .ms r 0 xs.length/\∃ es,h' r=some (.cells u.wd U es)/\SnapE z es (xs.map u.enc)/\∀ x∈es,x.length=u.wd/\∀ a∈x,a.one=true):=by
  rcases hval.2 with ⟨rfl,rfl,hx⟩ | ⟨rr,es',rfl,hx,g1,g2,g3⟩
  ·exact fun _ _=>⟨hx,rfl⟩
  ·exact fun h' hh'=>⟨hx,es',by rw [hh' rr rfl]; exact g1,g2,g3⟩
 obtain ⟨e',hle,hone,hej,hsn,hK0⟩:=hst q es e hq hh he hel (h1 e (jah he)).2 h0 (fun e=>(hf (by simp [e])).2.1)
 have hrows:∀ X,X=updK ln id (codeR ((kac (ln id)).set i.toNat (rv,xs.length)))->kac (X id)=(kac (ln id)).set i.toNat (rv,xs.length):=fun X e=>by rw [e,updK_self,kbc]
 refine ⟨updK ln id (codeR ((kac (ln id)).set i.toNat (rv,xs.length))),fun id' hid'=>⟨rfl,fun hc'=>?_⟩,updH h q (.cells t.wd T' (es.set i.toNat e')),fun K hK=>?_,?_⟩
 ·unfold updK
  rw [if_neg]
  rintro rfl
  rw [hc] at hc'; cases hc'
 ·exact hK0 K hK
 ·have hX:=hrows _ rfl
  have hnum:∀ r,r∈kan (updK ln id (codeR ((kac (ln id)).set i.toNat (rv,xs.length))) id)->r∈kan (ln id)\/rv=some r:=fun r hr'=>by
   unfold kan at hr' ⊢
   rw [hX] at hr'
   exact kfR hr'
  have hz':∀ q' B,z q'=some B->q'≠q:=fun q' B hz e=>by rw [e,R.zout id _ q hB' hq] at hz; cases hz
  refine R.famSet hc hB rfl rfl (by rw [hX,jci]) (fun i' hi'=>by unfold updK; rw [if_neg hi']) (jai _) (fun q' hq'=>?_) (fun q' B hz=>?_) (fun i' B rr AB hi' hb ho' h2=>?_) ?_ ⟨?_,fun r hr'=>?_⟩
  ·unfold updH
   rw [if_neg]
   ·exact R.hn q' hq'
   ·rintro rfl
    have:=R.bnd id _ _ hB' hq
    omega
  ·unfold updH
   rw [if_neg (hz' q' B hz)]; exact R.zin q' B hz
  ·unfold updH
   rw [if_neg]
   ·exact h2
   ·rintro rfl
    exact hi' (R.owI hb hB' ho' (.inl hq))
  ·unfold lset
   refine BR.fmSet (e':=e') hd hq (by simp [updH]) hn hl hvv (fun i' hi'=>?_) (by rw [hX,jci]) (fun i' hi'=>by rw [hX,jbm (fun e=>hi' e.symm)]) (fun i' r m B hi' hr' hB1=>?_) (fun rm' hrm=>?_) h1 ⟨hle,hone⟩
   ·have:=hho _ hi'
    omega
   ·unfold updH
    rw [if_neg]
    ·exact hB1
    ·rintro rfl
     exact (hfam.2 r (kax hr')).2.2.1 id _ hB' hq
   ·rw [hX,jbv (by rw [<-hn]; exact (jad.1 hl0).1)] at hrm
    cases hrm
    refine ⟨by rw [hle,kaf t y' hd],fun p b b' hp hb hb'=>?_,xs.map u.enc,by rw [hs',jbv (by rw [kaf t y0 hd]; exact hj)],by simp,?_⟩
    ·rw [hs',jbm (fun e=>hp e.symm)] at hb'
     exact hsn p b b' hp hb hb'
    ·have hF:=hFam (updH h q (.cells t.wd T' (es.set i.toNat e'))) (fun rr hrv=>by
      unfold updH
      rw [if_neg]
      rintro rfl
      exact (hrr rr hrv).2.2 id _ hB' (.inl hq))
     have hee:=hej
     cases rv with
     | none=>
      obtain ⟨k1,k2⟩:=hF
      exact ⟨by rw [hee,k1],by rw [k2]; rfl⟩
     | some rr=>
      obtain ⟨k1,es2,k2⟩:=hF
      exact ⟨by rw [hee,k1],es2,k2⟩
  ·unfold kan
   rw [hX]
   refine keH hfam.1 fun rr hrv hm=>?_
   exact (hrr rr hrv).2.2 id _ hB' (.inr ⟨rfl,hm⟩)
  ·rcases hnum r hr' with hr' | hr'
   ·obtain ⟨k1,k2,k3,k4⟩:=hfam.2 r hr'
    refine ⟨k1,k2,k3 id _ hB',fun i' B' hi' hb ho'=>?_⟩
    exact hi' (R.owI hb hB' ho' (.inr ⟨rfl,hr'⟩))
   ·obtain ⟨k1,k2,k3⟩:=hrr r hr'
    exact ⟨k1,k2,fun e=>k3 id _ hB' (.inl e),fun i' B' _ hb=>k3 i' B' hb⟩
theorem kpm (R:Rel P κ ln z c s env h n) {T T' U:TypeId} {t u:Ty} {j:Nat} {l:List t.den} {p:Operand} {xv:AV} {i:Int} {ho:Option Int} (hu:TVR P κ ln z s.n (.fo id i j) (ev env p)) (hB:alk s.hp id=some (some (.fm T' t j U u l ho))) (hm:P.cellsOf T=1) (hud:u.dat=true) (hc:c.has id=false)
  (hho:∀ k:Int,ho=some k->k=i) (hw1:ho.isNone=true\/t.wd=1) {y y':t.den} {xs:List u.den} (hy:gi l i=some y) (hy':rowS (A:=sem) t u j y xs=some y')
  {rv:Option Nat} (hval:(rv=none/\xs=[]/\xv=nilS)\/∃ rr es,rv=some rr/\xv = .ms rr 0 xs.length/\h rr=some (.cells u.wd U es)/\SnapE z es (xs.map u.enc)/\(∀ e∈es,e.length=u.wd/\∀ a∈e,a.one=true))
  (hrr:∀ rr,rv=some rr->rr<n/\z rr=none/\∀ i' B',thp c s i'=some B'->¬ Ow κ ln i' B' rr)
  (hk:Kf .ud { drpS s id with hp:=(id,some (.fm T' t j U u (lset l i y') none))::(drpS s id).hp }=some r) :
  ∃ ln',Ke c s.n κ ln κ ln'/\∃ h',(∀ K:K3,K .ud h' n->kbi P h n T (ev env p) xv K)/\Rel P κ ln' z c { drpS s id with hp:=(id,some (.fm T' t j U u (lset l i y') none))::(drpS s id).hp } env h' n:=by
 have hone:xv.one=true/\kaw xv=some [xv]:=by
  rcases hval with ⟨_,_,rfl⟩ | ⟨_,_,_,rfl,_⟩ <;> exact ⟨rfl,rfl⟩
 obtain ⟨hd,_⟩:=R.famAt (kab hB) hy
 obtain ⟨hj,_⟩:=keD hd hud hy'
 refine kiq (av:=xv) (y0:=y) R hB hud hc hho hy hy' (fun q es e hq hh he hel ho1 h0 hf=>?_) ⟨hone.1,hval⟩ hrr hk
 have hpl:putAt e j [xv]=e.set j xv:=rfl
 refine ⟨putAt e j [xv],by rw [hpl,jci]; exact hel,fun b hb=>?_,by rw [hpl,jbv (by omega)],fun p b b' hp hb hb'=>?_,fun K hK=>?_⟩
 ·rw [hpl] at hb
  rcases List.mem_or_eq_of_mem_set hb with hb | rfl
  ·exact ho1 b hb
  ·exact hone.1
 ·rw [hpl,jbm (fun e=>hp e.symm)] at hb
  by_cases hno:ho=none
  ·exact hf hno p b b' hp hb hb'
  ·exfalso
   have hw:t.wd=1:=by
    rcases hw1 with hw1 | hw1
    ·exact absurd (jdp.1 hw1) hno
    ·exact hw1
   have:=(jad.1 hb).1
   omega
 ·generalize hx:ev env p=avp at hu
  cases hu with
  | fo _ _ _ q' hN hq' i0 i1=>
   rw [hq] at hq'; cases hq'
   simp only [kbi,hh,hone.2,he]
   exact ⟨hm.symm,by simp,by simp; omega,hK⟩
theorem knF (R:Rel P κ ln z c s env h n) {T T' U:TypeId} {t u:Ty} {j:Nat} {l:List t.den} {p x:Operand} {i:Int} (hu:TVR P κ ln z s.n (.fo id i 0) (ev env p)) (hB:alk s.hp id=some (some (.fm T' t j U u l none))) (hm0:P.cellsOf T≠0) (hct:P.cellsOf T=t.wd) (hud:u.dat=true) (hc:c.has id=false)
  {as:List AV} (hx:ev env x = .ag as) (ha1:∀ a∈as,a.one=true) (hlen:as.length=t.wd) {y y' y0:t.den} {xs:List u.den} (hsn:∀ p b b',p≠j->as[p]?=some b->(t.enc y0)[p]?=some b'->Snap z b b') {aj:AV} (haj:as[j]?=some aj) (hy:gi l i=some y) (hy':rowS (A:=sem) t u j y0 xs=some y')
  {rv:Option Nat} (hval:(rv=none/\xs=[]/\aj=nilS)\/∃ rr es,rv=some rr/\aj = .ms rr 0 xs.length/\h rr=some (.cells u.wd U es)/\SnapE z es (xs.map u.enc)/\(∀ e∈es,e.length=u.wd/\∀ a∈e,a.one=true))
  (hrr:∀ rr,rv=some rr->rr<n/\z rr=none/\∀ i' B',thp c s i'=some B'->¬ Ow κ ln i' B' rr)
  (hk:Kf .ud { drpS s id with hp:=(id,some (.fm T' t j U u (lset l i y') none))::(drpS s id).hp }=some r) :
  ∃ ln',Ke c s.n κ ln κ ln'/\∃ h',(∀ K:K3,K .ud h' n->kbi P h n T (ev env p) (ev env x) K)/\Rel P κ ln' z c { drpS s id with hp:=(id,some (.fm T' t j U u (lset l i y') none))::(drpS s id).hp } env h' n:=by
 refine kiq (av:=aj) (y0:=y0) R hB hud hc (fun k e=>by cases e) hy hy' (fun q es e hq hh he hel ho1 h0 hf=>?_) ⟨ha1 aj (jah haj),hval⟩ hrr hk
 have hput:putAt e 0 as=as:=by
  rw [kbh (by omega)]
  simp only [jdo,jbg,jch]
  rw [jbn (by omega),jbe]
 refine ⟨as,hlen,ha1,haj,hsn,fun K hK=>?_⟩
 generalize hxp:ev env p=avp at hu
 cases hu with
 | fo _ _ _ q' hN hq' i0 i1=>
  rw [hq] at hq'; cases hq'
  simp only [kbi,hx,hh,kaw,he,hput]
  exact ⟨by omega,by omega,by omega,hK⟩
theorem kmH (R:Rel P κ ln z c s env h n) {T T' U:TypeId} {t u:Ty} {j:Nat} {l:List t.den} {p x:Operand} {i:Int} {vs:List (TV sem)} (hu:TVR P κ ln z s.n (.fo id i 0) (ev env p)) (hv:TVR P κ ln z s.n (.ag vs) (ev env x)) (hvj:vs[j]?=some (.fr id i)) (hB:alk s.hp id=some (some (.fm T' t j U u l none))) (hm0:P.cellsOf T≠0) (hct:P.cellsOf T=t.wd)
  {y0 y y':t.den} (hsn:snapL (A:=sem) c s t (vs.set j (.sc (.slice none 0 0)))=some (y0,[],[])) (hy:gi l i=some y) {ys:List u.den} (hys:rowD (A:=sem) t u j y=some ys) (hy':rowS (A:=sem) t u j y0 ys=some y') (hk:setB (A:=sem) s id (.fm T' t j U u (lset l i y') none) Kf=some r):Res P κ ln z c s env h n ⟨d,.store T p x,ty,pos,after,g⟩ Kf r:=by
 obtain ⟨hd,h0,hl0,q,es,e,rm,hq,hh,he,hr,hf,hn,hl,h1,hvv,_⟩:=R.famAt (kab hB) hy
 have f:=hf (by simp)
 obtain ⟨hud,hj,hcj⟩:=kcV hd hys
 obtain ⟨f1,f2⟩:=f.row hcj
 obtain ⟨_,hs'⟩:=keD hd hud hy'
 generalize hx:ev env p=av at hu
 generalize hxv:ev env x=xv at hv
 cases hv with
 | ag _ as hvs hone=>
 cases hu with
 | fo _ _ _ q' hN hq' i0 i1=>
  rw [hq] at hq'; cases hq'
  obtain ⟨aj,haj,hvaj⟩:=hvs.at hvj
  have hset:=hvs.set (.sc (.slice none 0 0) rfl:TVR P κ ln z s.n (.sc (.slice none 0 0)) nilS) j
  obtain ⟨a1,b1,e1,e2,e3,_⟩:=kbn R t _ _ _ _ _ hd hset hsn
  cases e2
  rw [jbe] at e1
  rw [kaR] at e3
  subst e1
  have hlen:as.length=t.wd:=by have:=e3.len; rw [jci,kaf t y0 hd] at this; exact this.symm
  have hel:=(h1 e (jah he)).1
  have hell:(t.enc y')[j]?=some (.sl (ys.map u.enc)):=by rw [hs',jbv (by rw [kaf t y0 hd]; exact hj)]
  have hej:e[j]?=some aj:=by
   obtain ⟨_,_,⟨m,g1,g2⟩ | ⟨r',m,g1,g2⟩⟩:=hvaj.fr_inv
   ·rw [hr] at g1; cases g1
    rcases f2 with ⟨_,f3,_⟩ | ⟨r2,es',f3,_⟩
    ·rw [f3,g2]
    ·cases f3
   ·rw [hr] at g1; cases g1
    rcases f2 with ⟨f3,_⟩ | ⟨r2,es',f3,f4,_⟩
    ·cases f3
    ·rw [f4,g2]; cases f3; rfl
  have hput:putAt e 0 as=as:=by
   rw [kbh (by omega)]
   simp only [jdo,jbg,jch]
   rw [jbn (by omega),jbe]
  have hnew:BR P κ ln z (updH h q (.cells t.wd T' (es.set i.toNat as))) s.n id (.fm T' t j U u (lset l i y') none):=by
   unfold lset
   refine BR.fmSet (e':=as) hd hq (by simp [updH]) hn hl hvv (fun i e=>by cases e) rfl (fun _ _=>rfl) (fun i' r m B hi hr' hB'=>?_) (fun rm' hrm=>?_) h1 ⟨hlen,fun b hb=>hone b hb⟩
   ·unfold updH
    rw [if_neg]
    ·exact hB'
    ·rintro rfl
     exact ((R.fam id _ (kab hB) rfl).2 r (kax hr')).2.2.1 id _ (kab hB) hq
   ·rw [hr] at hrm; cases hrm
    refine ⟨by rw [hlen,kaf t y' hd],fun p b b' hp hb hb'=>?_,ys.map u.enc,hell,f1,?_⟩
    ·rw [hs',jbm (fun e=>hp e.symm)] at hb'
     exact e3.at p b b' (by rw [jbm (fun e=>hp e.symm)]; exact hb) hb'
    ·obtain ⟨rr,m⟩:=rm
     rcases f2 with ⟨k1,k2,k3⟩ | ⟨r2,es',k1,k2,k3,k4,k5⟩
     ·simp only at k1; subst k1
      rw [hej] at k2
      exact ⟨by rw [haj]; exact k2,k3⟩
     ·simp only at k1; subst k1
      rw [hej] at k2
      refine ⟨by rw [haj]; exact k2,es',?_,k4,k5⟩
      unfold updH
      rw [if_neg]
      ·exact k3
      ·rintro rfl
       exact ((R.fam id _ (kab hB) rfl).2 _ (kax hr)).2.2.1 id _ (kab hB) hq
  have R':=R.setO (AB:=.cells t.wd T' (es.set i.toNat as)) hB (.inl hq) hnew (fun _=>rfl)
  exact ⟨.ud,_,.ud,_,n,κ,ln,z,fun K hK=>by
   simp only [aop,kbi,hx,hxv,hh,kaw,he,hput]
   exact ⟨by omega,by omega,by omega,hK⟩,hk,R',.ud,jai _,.refl,fun hc=>by cases hc⟩
theorem khr (s:TS sem) (r:Option Nat):(rowN s r).n=s.n:=by cases r <;> rfl
theorem ksn (s:TS sem) (id:Nat):(drpS s id).n=s.n:=rfl
theorem kiH (R:Rel P κ ln z c s env h n) {U:TypeId} {u:Ty} {v:TV sem} {xv:AV} (hv:TVR P κ ln z s.n v xv) {xs:List u.den} {rd:Option Nat} (hsrc:khs (A:=sem) s U u v=some (xs,rd)) :
  Rel P κ ln z c (rowN s rd) env h n/\(∀ i B,alk s.hp i=some (some B)->B.isF=true->alk (rowN s rd).hp i=some (some B))/\∃ rv:Option Nat,((rv=none/\xs=[]/\xv=nilS)\/∃ rr es,rv=some rr/\xv = .ms rr 0 xs.length/\h rr=some (.cells u.wd U es)/\SnapE z es (xs.map u.enc)/\(∀ e∈es,e.length=u.wd/\∀ a∈e,a.one=true))/\
   (∀ rr,rv=some rr->rr<n/\z rr=none/\∀ i' B',thp c (rowN s rd) i'=some B'->¬ Ow κ ln i' B' rr):=by
 unfold khs at hsrc
 split at hsrc
 ·rename_i rid
  split at hsrc
  ·rename_i U' u' l' hBr
   split at hsrc
   ·rename_i hU
    simp only [jac] at hsrc
    obtain ⟨xs',hx',he'⟩:=hsrc
    cases he'
    obtain ⟨et,rfl⟩:=kai hx'
    cases et
    subst hU
    have hthp:∀ i' B',thp c (rowN s (some rid)) i'=some B'->i'≠rid/\thp c s i'=some B':=fun i' B' hi'=>by
     unfold rowN at hi'
     rw [kaM] at hi'
     split at hi'
     ·cases hi'
     ·rename_i e; exact ⟨e,hi'⟩
    refine ⟨R.del (h':=h) hBr (fun _ _ h=>h) (fun _ _ _ h=>h),fun i B hB hF=>?_,?_⟩
    ·have hne:i≠rid:=by rintro rfl; rw [hB] at hBr; cases hBr; cases hF
     simp only [rowN,alk]; rw [if_neg hne]; exact hB
    ·cases R.blk _ _ (kab hBr) with
     | sl0 _ _ _ hd' hq' hl' hn'=>
      subst hl'
      refine ⟨none,.inl ⟨rfl,rfl,?_⟩,fun rr e=>by cases e⟩
      cases hv with
      | mw0=>rfl
      | mw _ q _ hq=>rw [hq'] at hq; cases hq
     | sl _ _ _ qr es' hd' hq' hh' hvs h1' hn'=>
      refine ⟨some qr,.inr ⟨qr,es',rfl,?_,hh',hvs,fun e he=>⟨hvs.heads hd' e he,h1' e he⟩⟩,fun rr e=>?_⟩
      ·rw [hn']
       cases hv with
       | mw0 _ _ hq=>rw [hq'] at hq; cases hq
       | mw _ q _ hq=>rw [hq'] at hq; cases hq; rfl
      ·cases e
       refine ⟨R.bnd _ _ _ (kab hBr) hq',R.zout _ _ _ (kab hBr) hq',fun i' B' hi' ho'=>?_⟩
       obtain ⟨w1,w2⟩:=hthp i' B' hi'
       exact w1 (R.owI w2 (kab hBr) ho' (.inl hq'))
   ·cases hsrc
  ·cases hsrc
 ·rename_i w
  split at hsrc
  ·rename_i hn
   cases hsrc
   exact ⟨R,fun _ _ h _=>h,none,.inl ⟨rfl,rfl,by cases hv; rw [kaG hn]⟩,fun rr e=>by cases e⟩
  ·cases hsrc
 ·cases hsrc
theorem kmA (R:Rel P κ ln z c s env h n) {T:TypeId} {p x:Operand} {i:Int} {o:Nat} {v:TV sem} (hu:TVR P κ ln z s.n (.fo id i o) (ev env p)) (hv:TVR P κ ln z s.n v (ev env x)) (hk:kkF P c s T id i o v Kf=some r):Res P κ ln z c s env h n ⟨d,.store T p x,ty,pos,after,g⟩ Kf r:=by
 unfold kkF at hk
 split at hk
 ·rename_i ag T' t j U u l ho hag hB
  replace hB:=kbZ hB
  split at hk
  ·exact kaa hk
  ·rename_i hm0
   split at hk
   ·rename_i hc
    obtain ⟨_,rfl,hm1,hw1⟩:=hc
    split at hk
    ·rename_i xs rv hsrc
     split at hk
     ·exact kaa hk
     ·rename_i hch
      have hch:c.has id=false:=by simpa using hch
      obtain ⟨hk2,hho⟩:=kss hk
      clear hk
      simp only [jaa] at hk2
      obtain ⟨y,hy,hk2⟩:=hk2
      split at hk2
      ·rename_i y' hy'
       have hud:u.dat=true:=by
        obtain ⟨hd,_⟩:=R.famAt (kab hB) hy
        exact kps hd hy'
       obtain ⟨R0,hB0,rv0,w1,w2⟩:=kiH R hv hsrc
       have hB0:=hB0 _ _ hB rfl
       obtain ⟨ln',g1,h',g2,g3⟩:=kpm R0 (by rw [khr]; exact hu) hB0 hm1 hud hch hho hw1 hy hy' w1 w2 hk2
       rw [khr] at g1
       exact ⟨_,_,_,_,_,_,_,_,fun K hK=>by simp only [aop]; exact g2 K hK,hk2,g3,.ud,by simp [khr,ksn],g1,fun hc=>by cases hc⟩
      ·exact kaa hk2
    ·exact kaa hk
   ·split at hk
    ·rename_i hc
     obtain ⟨hc,hno⟩:=hc
     obtain rfl:=jdp.1 hno
     simp only [jaa] at hk
     obtain ⟨y,hy,hk⟩:=hk
     split at hk
     ·rename_i y' hy'
      exact knE R hu hv hB hm0 hc hy hy' hk
     ·exact kaa hk
    ·split at hk
     ·rename_i vs
      split at hk
      ·rename_i id' i' hvj
       split at hk
       ·rename_i hc
        obtain ⟨rfl,hct,hno,rfl⟩:=hc
        obtain rfl:=jdp.1 hno
        split at hk
        ·rename_i y0 hsn
         simp only [jaa] at hk
         obtain ⟨y,hy,_,hg,hk⟩:=hk
         have hii:i=i':=by
          unfold gsame at hg
          split at hg
          ·assumption
          ·cases hg
         subst hii
         split at hk
         ·rename_i y' hy'
          obtain ⟨ys,hys,hy'⟩:=jaa.1 hy'
          exact kmH R hu hv hvj hB (by omega) hct hsn hy hys hy' hk
         ·exact kaa hk
        ·exact kaa hk
       ·exact kaa hk
      ·rename_i w hnf hvj
       split at hk
       ·rename_i hc
        obtain ⟨rfl,hct,hno⟩:=hc
        obtain rfl:=jdp.1 hno
        split at hk
        ·rename_i xs rd hsrc
         split at hk
         ·exact kaa hk
         ·rename_i hch
          have hch:c.has id=false:=by simpa using hch
          split at hk
          ·rename_i y0 hsn
           simp only [jaa] at hk
           obtain ⟨y,hy,hk⟩:=hk
           split at hk
           ·rename_i y' hy'
            obtain ⟨hd,_⟩:=R.famAt (kab hB) hy
            have hud:=kps hd hy'
            generalize hxv:ev env x=xv at hv
            cases hv with
            | ag _ as hvs hone=>
             obtain ⟨aj,haj,hvaj⟩:=hvs.at hvj
             obtain ⟨R0,hB0,rv0,w1,w2⟩:=kiH R hvaj hsrc
             have hB0:=hB0 _ _ hB rfl
             have hset:=hvs.set (.sc (.slice none 0 0) rfl:TVR P κ ln z s.n (.sc (.slice none 0 0)) nilS) j
             obtain ⟨a1,b1,e1,e2,e3,_⟩:=kbn R t _ _ _ _ _ hd hset hsn
             cases e2
             rw [jbe] at e1
             rw [kaR] at e3
             subst e1
             have hlen:as.length=t.wd:=by have:=e3.len; rw [jci,kaf t y0 hd] at this; exact this.symm
             obtain ⟨ln',g1,h',g2,g3⟩:=knF R0 (by rw [khr]; exact hu) hB0 hm0 hct hud hch hxv hone hlen (fun p b b' hp hb hb'=>e3.at p b b' (by rw [jbm (fun e=>hp e.symm)]; exact hb) hb') haj hy hy' w1 w2 hk
             rw [khr] at g1
             exact ⟨_,_,_,_,_,_,_,_,fun K hK=>by simp only [aop]; exact g2 K hK,hk,g3,.ud,by simp [khr,ksn],g1,fun hc=>by cases hc⟩
           ·exact kaa hk
          ·exact kaa hk
        ·exact kaa hk
       ·exact kaa hk
      ·exact kaa hk
     ·exact kaa hk
 ·exact kaa hk
end
theorem arr_of' {α:Type} {a:Array α} {l:List α} (h:a.toList=l):a=l.toArray:=by rw [<-h]
section
variable {P:Program} {κ κ':Nat->Option Nat} {ln ln':Nat->Nat} {z z':AH} {c:Cx sem} {s:TS sem} {env:Env} {h h':AH} {n n' N N':Nat} {id:Nat}
variable {ρ:Ty} {Kf:TV sem->TS sem->sem.Ans ρ} {r:ρ.den}
variable {d:Option Tmp} {ty:TypeId} {pos:String} {after:Array Edge} {g:Option (Nat×Bool)}
theorem ksT (R:Rel P κ ln z c s env h n) {x y:Operand} {m:Int} (hs:kgt x y=true) (hm:tev c s x = .c (.i .i64) m):ev env x = .sc (.int .i64 m)/\∃ k',ev env y = .sc (.int k' m):=by
 have hx:=R.ev x
 rw [hm] at hx
 have hx':=hx.i_inv
 refine ⟨hx',?_⟩
 unfold kgt at hs
 split at hs
 ·rename_i a b
  obtain rfl:a=b:=by simpa using hs
  exact ⟨_,hx'⟩
 ·rename_i k a k' b
  have hab:a=b:=by simpa using hs
  subst hab
  have:(Value.int k a) = .int .i64 m:=by simpa [ev,cst] using hx'
  cases this
  exact ⟨k',rfl⟩
 ·cases hs
theorem FamE.nil {w:Nat} {U:TypeId} {cs e:List AV} {j:Nat} {ys:List (List AV)} (hs:SnapL z e cs) (hc:cs[j]?=some (.sl ys)) (he:∃ v,e[j]?=some (.sc v)):FamE z h j U w cs e (none,0):=by
 obtain ⟨v,he⟩:=he
 have h1:=hs.at j _ _ he hc
 rcases h1.sl_inv with ⟨es,h2,_⟩ | ⟨h2,h3⟩ | ⟨_,_,_,_,_,_,h2,_⟩
 ·cases h2
 ·exact ⟨hs.len.symm,fun q a a' _ hq hq'=>hs.at q a a' hq hq',ys,hc,by rw [h3]; rfl,by rw [he,h2],h3⟩
 ·cases h2
theorem khS {e:TypeId} {t u:Ty} {j:Nat} {U:TypeId} (h:famO P e=some (t,j,U,u)):t.dat=true/\u.dat=true/\tyOf P e=some t:=by
 unfold famO at h
 split at h
 ·rename_i t' Ts ht hT
  split at h
  ·simp only [jac] at h
   obtain ⟨u',hu,he⟩:=h
   cases he
   exact ⟨kcQ ht,kcQ hu,ht⟩
  ·cases h
 ·cases h
theorem knC (R:Rel P κ ln z c s env h n) {T:TypeId} {e:TypeId} {x y:Operand} (he:elemO P T=some e) (hk:klZ P s e (tev c s x) (kgt x y) Kf=some r):Res P κ ln z c s env h n ⟨d,.makeSlice T x y,ty,pos,after,g⟩ Kf r:=by
 unfold klZ at hk
 split at hk
 ·rename_i t j U u zs m hf hz hm
  split at hk
  ·rename_i z0 hz0
   split at hk
   ·rename_i hc
    obtain ⟨hs,hiz,hzl,hw0,hb,hrow⟩:=hc
    obtain ⟨hd,hud,_⟩:=khS hf
    obtain ⟨hx',k',hy'⟩:=ksT R hs hm
    simp only [jaa] at hk
    obtain ⟨l,hg,hk⟩:=hk
    obtain ⟨g1,g2,hg⟩:=kqD hg
    obtain ⟨rest,hr,hre⟩:=(jcs _ _).1 hiz
    obtain rfl:=jcy.1 hre
    obtain ⟨a,ea,ha⟩:=kcx (z:=z) t z0 zs [] hd hz0 hr
    rw [jbe] at ea; subst ea
    obtain ⟨ys,hys⟩:=jan.1 hrow
    obtain ⟨_,hj,hcj⟩:=kcV hd hys
    have hfe:FamE z (updH h n (.cells t.wd e (List.replicate m.toNat zs))) j U u.wd (t.enc z0) zs (none,0):=by
     refine FamE.nil ha hcj ?_
     have h1:zs[j]?=some (zs[j]'(by omega)):=jaf _
     obtain ⟨v,hv,_⟩:=kgk hz _ (jah h1)
     exact ⟨v,by rw [h1,hv]⟩
    have hnum:kan (codeR (List.replicate m.toNat (none,0)))=[]:=by
     rw [kiR]
     generalize m.toNat=p
     induction p with
     | zero=>rfl
     | succ p ih=>rw [List.replicate_succ,jct]; exact ih
    have R':=R.newF (h':=updH h n (.cells t.wd e (List.replicate m.toNat zs))) (n':=n+1) (.fm e t j U u l none) (some n) (codeR (List.replicate m.toNat (none,0))) (fun q B hq=>by
      unfold updH; rw [if_neg]; ·exact hq
      rintro rfl; rw [R.hn _ (jai _)] at hq; cases hq) (jbz _) (fun q hq=>by cases hq; omega) (fun q hq=>by unfold updH; rw [if_neg (by omega)]; exact R.hn q (by omega))
     (.fm e t j U u l none n (List.replicate m.toNat zs) hd updK_self (by simp [updH]) (by rw [updK_self,kbc,hg]; simp) (by rw [hg]; simp) (fun i x e' rm hx he' hr _=>by
      rw [updK_self,kbc,jdl] at hr
      rw [hg,jdl] at hx
      rw [jdl] at he'
      split at hr
      ·rename_i hlt
       rw [if_pos hlt] at hx he'
       cases hr; cases hx; cases he'
       exact hfe
      ·cases hr) (fun i rm hi=>by cases hi) (fun e' he'=>by
       obtain ⟨_,rfl⟩:=List.mem_replicate.1 he'
       exact ⟨hzl,ha.one_rev (kaK t z0 hd)⟩)) (by rw [hnum]; exact ⟨List.nodup_nil,fun r hr=>by cases hr⟩)
    refine ⟨.fw s.n,_,.ms n 0 m.toNat,_,_,_,_,_,fun K hK=>?_,hk,R',?_,jbz _,fun id hi=>⟨kat hi,fun _=>kat hi⟩,fun hc=>by cases hc⟩
    ·simp only [aop,he,hz,hx',hy']
     refine ⟨trivial,g1,g2,hb,by rintro rfl; simp at hzl; omega,?_⟩
     rw [hzl]; exact hK
    ·have:=TVR.fw (P:=P) (κ:=updK κ s.n (some n)) (ln:=updK ln s.n (codeR (List.replicate m.toNat (none,0)))) (z:=z) (N:=s.n+1) s.n n (jbp _) updK_self
     rw [updK_self,kbc,jdb] at this
     exact this
   ·exact kaa hk
  ·exact kaa hk
 ·exact kaa hk
theorem kos (R:Rel P κ ln z c s env h n) {T T2:TypeId} {x y:Operand} {a:Int} {v:TV sem} (hu:TVR P κ ln z s.n (.fr id a) (ev env x)) (hv:TVR P κ ln z s.n v (ev env y)) (hk:knT P c s T T2 id a v Kf=some r) :
  Res P κ ln z c s env h n ⟨d,.call ⟨.builtin .append,#[x,y],#[T,T2]⟩,ty,pos,after,g⟩ Kf r:=by
 unfold knT at hk
 split at hk
 ·rename_i e T' t j U u l he hB
  replace hB:=kbZ hB
  split at hk
  ·rename_i zs hz
   split at hk
   ·rename_i hc
    obtain ⟨hp,hzl,hw0,hb,rfl⟩:=hc
    have hzne:zs≠[]:=by rintro rfl; simp at hzl; omega
    split at hk
    ·exact kaa hk
    ·rename_i hch
     have hch:c.has id=false:=by simpa using hch
     split at hk
     ·exact kaa hk
     ·rename_i xs ids hsrc
      simp only [jaa] at hk
      obtain ⟨w,hw,hk⟩:=hk
      split at hk
      ·rename_i ys hys
       simp only [jaa] at hk
       obtain ⟨l',hg,hk⟩:=hk
       obtain ⟨hle,hg⟩:=kfe hg
       subst hg
       obtain ⟨hud,bs,hxs,hsx⟩:=kiX R hv hsrc
       have hxl:=hsx.1
       rw [jav] at hxl
       obtain ⟨hd,h0,hl0,q,es,e',rm,hq,hh,he',hr,hf,hn,hl,h1,hvv,hv0⟩:=R.famAt (kab hB) hw
       obtain ⟨_,hj,hcj⟩:=kcV hd hys
       obtain ⟨f1,f2⟩:=(hf (by simp)).row hcj
       rw [jav] at f1
       have hB':=kab (c:=c) hB
       have hfam:=R.fam id _ hB' rfl
       have hlt:=(jad.1 hr).1
       rw [<-hzl] at hxs
       have hX:∀ X,X=updK ln id (codeR ((kac (ln id)).set a.toNat (none,0)))->kac (X id)=(kac (ln id)).set a.toNat (none,0):=fun X e=>by rw [e,updK_self,kbc]
       have hole:∀ (h1:AH),(∀ q',(∀ m,(kac (ln id))[a.toNat]?≠some (some q',m))->h1 q'=h q')->(∀ q',n<=q'->h1 q'=none)->Rel P κ (updK ln id (codeR ((kac (ln id)).set a.toNat (none,0)))) z c { drpS s id with hp:=(id,some (.fm T' t j e u l (some a)))::(drpS s id).hp } env h1 n:=fun hh1 k1 k2=>by
        have hX':=hX _ rfl
        have kz:∀ q',(∀ r,r∈kan (ln id)->r≠q')->hh1 q'=h q':=fun q' hq'=>k1 q' fun m hm=>hq' q' (kax hm) rfl
        have hnum:∀ r,r∈kan (updK ln id (codeR ((kac (ln id)).set a.toNat (none,0))) id)->r∈kan (ln id):=fun r hr'=>by
         unfold kan at hr' ⊢
         rw [hX'] at hr'
         rcases kfR hr' with h | h
         ·exact h
         ·cases h
        refine R.famSet hch hB rfl rfl (by rw [hX',jci]) (fun i' hi'=>by unfold updK; rw [if_neg hi']) (jai _) k2 (fun q' B hz'=>?_) (fun i' B rr AB hi' hb' ho' h2=>?_) ?_ ⟨?_,fun r hr'=>?_⟩
        ·rw [kz q' fun r hr' e=>?_]
         ·exact R.zin q' B hz'
         ·subst e; rw [(hfam.2 r hr').2.1] at hz'; cases hz'
        ·rw [kz rr fun r hr' e=>?_]
         ·exact h2
         ·subst e; exact hi' (R.owI hb' hB' ho' (.inr ⟨rfl,hr'⟩))
        ·refine .fm T' t j e u l (some a) q es hd hq ?_ (by rw [hX',jci]; exact hn) hl (fun i' x' e2 rm' hx' he2 hr' hne=>?_) (fun i' rm' hi' hr'=>?_) h1
         ·rw [kz q fun r hr' e=>?_]
          ·exact hh
          ·subst e; exact (hfam.2 r hr').2.2.1 id _ hB' hq
         ·have hia:i'≠a.toNat:=fun e=>hne (by rw [e,Int.toNat_of_nonneg h0])
          rw [hX',jbm (fun e=>hia e.symm)] at hr'
          refine (hvv i' x' e2 rm' hx' he2 hr' (by simp)).mono (fun _ _ h=>h) fun rr B hrr hBB=>?_
          obtain ⟨rr',m'⟩:=rm'
          simp only at hrr; subst hrr
          rw [k1 rr fun m hm=>?_]
          ·exact hBB
          ·exact hia (khb hfam.1 hr' hm rfl rfl)
         ·have:i'=a.toNat:=by cases hi'; simp
          subst this
          rw [hX',jbv hlt] at hr'
          cases hr'; rfl
        ·unfold kan
         rw [hX']
         exact keH hfam.1 fun rr hrv=>by cases hrv
        ·have hr':=hnum r hr'
         obtain ⟨w1,w2,w3,w4⟩:=hfam.2 r hr'
         refine ⟨w1,w2,w3 id _ hB',fun i' B2 hi' hb' ho'=>?_⟩
         exact hi' (R.owI hb' hB' ho' (.inr ⟨rfl,hr'⟩))
       have ke:∀ m k,Ke c s.n κ ln (updK κ s.n k) (updK (updK ln id (codeR ((kac (ln id)).set a.toNat (none,0)))) s.n m):=fun m k i' hi'=>⟨kat hi',fun hc'=>by
        rw [kat hi']
        unfold updK
        rw [if_neg]
        rintro rfl
        rw [hch] at hc'; cases hc'⟩
       have fin:∀ (h1:AH) (es':List (List AV)),(∀ q',(∀ m,(kac (ln id))[a.toNat]?≠some (some q',m))->h1 q'=h q')->(∀ q',n<=q'->h1 q'=none)->SnapE z es' ((ys++xs).map u.enc)->(∀ K:K3,K (.ms n 0 (ys++xs).length) (updH h1 n (.cells u.wd e es')) (n+1)->aop P env h n ⟨d,.call ⟨.builtin .append,#[x,y],#[T,T2]⟩,ty,pos,after,g⟩ K)->Res P κ ln z c s env h n ⟨d,.call ⟨.builtin .append,#[x,y],#[T,T2]⟩,ty,pos,after,g⟩ Kf r:=fun hh1 es' k1 k2 hsn hK=>by
        have R1:=hole hh1 k1 k2
        have R2:=R1.new (h':=updH hh1 n (.cells u.wd e es')) (n':=n+1) (.sl e u (ys++xs)) (some n) (ys++xs).length (fun q B hq=>by
          unfold updH; rw [if_neg]; ·exact hq
          rintro rfl; rw [R1.hn _ (jai _)] at hq; cases hq) (jbz _) (fun q hq=>by cases hq; omega) (fun q hq=>by unfold updH; rw [if_neg (by omega)]; exact R1.hn q (by omega))
         (.sl e u (ys++xs) n es' hud updK_self (by simp [updH]) hsn (hsn.ones hud) updK_self.symm)
        refine ⟨.mw s.n,_,_,_,_,_,_,_,hK,hk,R2,?_,jbz _,ke _ _,fun hc=>by cases hc⟩
        have:=TVR.mw (P:=P) (κ:=updK κ s.n (some n)) (ln:=updK (updK ln id (codeR ((kac (ln id)).set a.toNat (none,0)))) s.n (ys++xs).length) (z:=z) (N:=s.n+1) s.n n (jbp _) updK_self
        rw [updK_self] at this
        exact this
       obtain ⟨hN,a0,⟨m,g1,g2⟩ | ⟨r',m,g1,g2⟩⟩:=hu.fr_inv
       ·rw [hr] at g1; cases g1
        rcases f2 with ⟨_,_,f3⟩ | ⟨r2,es',f3,_⟩
        ·rw [jdr] at f3; subst f3
         rw [jbg] at hk fin
         have hle':bs.length<=1048576:=by simp at hle; omega
         by_cases hne:bs=[]
         ·subst hne
          have:xs=[]:=by simpa using hxl
          subst this
          have R1:=hole h (fun _ _=>rfl) R.hn
          have R2:=R1.new (h':=h) (n':=n) (.sl e u []) none 0 (fun q B hq=>hq) (jai _) (fun q hq=>by cases hq) R1.hn (.sl0 e u [] hud updK_self rfl updK_self)
          refine ⟨.mw s.n,_,nilS,_,_,_,_,_,fun K hK=>?_,hk,R2,.mw0 s.n (jbp _) updK_self,jbz _,ke _ _,fun hc=>by cases hc⟩
          simp only [aop,kah,g2,kbj,he,hz,hxs]
          exact ⟨hp,hzne,hb,hle',fun _=>hK,fun h=>absurd rfl h⟩
         ·refine fin h bs (fun _ _=>rfl) R.hn hsx fun K hK=>?_
          simp only [aop,kah,g2,kbj,he,hz,hxs]
          refine ⟨hp,hzne,hb,hle',fun h=>absurd h hne,fun _=>?_⟩
          rw [hzl,<-hxl]; exact hK
        ·cases f3
       ·rw [hr] at g1; cases g1
        rcases f2 with ⟨f3,_⟩ | ⟨r2,es',f3,f4,f5,f6,f7⟩
        ·cases f3
        ·cases f3
         simp only at f1
         subst f1
         have hel:=f6.1
         rw [jav] at hel
         refine fin (delH h r') (es'++bs) (fun q' hq'=>?_) (fun q' hq'=>?_) (by rw [jcz]; exact f6.append hsx) fun K hK=>?_
         ·unfold delH
          rw [if_neg]
          rintro rfl
          exact hq' _ hr
         ·unfold delH
          split
          ·rfl
          ·exact R.hn q' hq'
         ·simp only [aop,kah,g2,kbj,he,hz,hxs,f5]
          refine ⟨hp,hzne,hb,hzl.symm,trivial,hel.symm,by omega,?_⟩
          rw [jbi,hxl] at hK
          exact hK
      ·exact kaa hk
   ·exact kaa hk
  ·exact kaa hk
 ·exact kaa hk
end
section
variable {P:Program} {κ κ':Nat->Option Nat} {ln ln':Nat->Nat} {z z':AH} {c:Cx sem} {s:TS sem} {env:Env} {h h':AH} {n n' N N':Nat} {id:Nat}
variable {ρ:Ty} {Kf:TV sem->TS sem->sem.Ans ρ} {r:ρ.den}
variable {d:Option Tmp} {ty:TypeId} {pos:String} {after:Array Edge} {g:Option (Nat×Bool)}
theorem Rel.famAll (R:Rel P κ ln z c s env h n) {T U:TypeId} {t u:Ty} {j:Nat} {l:List t.den} (hB:thp c s id=some (.fm T t j U u l none)) :
  t.dat=true/\∃ es:List (List AV),es.length=l.length/\l.length=(kac (ln id)).length/\(∀ (i:Nat) (x:t.den) (e:List AV) (rm:Option Nat×Nat),l[i]?=some x->es[i]?=some e->(kac (ln id))[i]?=some rm->FamE z h j U u.wd (t.enc x) e rm)/\
   (∀ e∈es,e.length=t.wd/\∀ a∈e,a.one=true)/\((κ id=none/\es=[])\/∃ q,κ id=some q/\h q=some (.cells t.wd T es)):=by
 have hb:=R.blk _ _ hB
 cases hb with
 | fm0 _ _ _ _ _ _ _ hd hq hl hn=>subst hl; exact ⟨hd,[],rfl,by rw [hn]; rfl,by simp,by simp,.inl ⟨hq,rfl⟩⟩
 | fm _ _ _ _ _ _ _ q es hd hq hh hn hl hv h0 h1=>exact ⟨hd,es,hl,hn,fun i x e rm hx he hr=>hv i x e rm hx he hr (by simp),h1,.inr ⟨q,hq,hh⟩⟩
theorem Rel.famNew (R:Rel P κ ln z c s env h n) {T U:TypeId} {t u:Ty} {j:Nat} {l:List t.den} {es:List (List AV)} {rows:List (Option Nat×Nat)} (hd:t.dat=true) (hl:es.length=l.length) (hn:l.length=rows.length)
  (hv:∀ (i:Nat) (x:t.den) (e:List AV) (rm:Option Nat×Nat),l[i]?=some x->es[i]?=some e->rows[i]?=some rm->FamE z h j U u.wd (t.enc x) e rm) (h1:∀ e∈es,e.length=t.wd/\∀ a∈e,a.one=true)
  (hr:(rows.filterMap (·.1)).Nodup/\∀ r∈rows.filterMap (·.1),r<n/\z r=none/\∀ i B',thp c s i=some B'->¬ Ow κ ln i B' r) :
  Rel P (updK κ s.n (some n)) (updK ln s.n (codeR rows)) z c { s with hp:=(s.n,some (.fm T t j U u l none))::s.hp,n:=s.n+1 } env (updH h n (.cells t.wd T es)) (n+1):=by
 have up:∀ q B,h q=some B->updH h n (.cells t.wd T es) q=some B:=fun q B hq=>by
  unfold updH; rw [if_neg]; ·exact hq
  rintro rfl; rw [R.hn _ (jai _)] at hq; cases hq
 exact R.newF (.fm T t j U u l none) (some n) (codeR rows) up (jbz _) (fun q hq=>by cases hq; omega) (fun q hq=>by unfold updH; rw [if_neg (by omega)]; exact R.hn q (by omega))
  (.fm T t j U u l none n es hd updK_self (by simp [updH]) (by rw [updK_self,kbc]; exact hn) hl (fun i x e rm hx he hr' _=>(hv i x e rm hx he (by rw [updK_self,kbc] at hr'; exact hr')).mono (fun _ _ h=>h) (fun r B _ hB=>up r B hB)) (fun i rm hi=>by cases hi) h1)
  (by rw [kiR]; exact hr)
theorem Rel.famNew0 (R:Rel P κ ln z c s env h n) {T U:TypeId} {t u:Ty} {j:Nat} (hd:t.dat=true):Rel P (updK κ s.n none) (updK ln s.n 0) z c { s with hp:=(s.n,some (.fm T t j U u [] none))::s.hp,n:=s.n+1 } env h n:=
 R.newF (.fm T t j U u [] none) none 0 (fun _ _ hq=>hq) (jai _) (fun q hq=>by cases hq) R.hn (.fm0 T t j U u [] none hd updK_self rfl updK_self) ⟨List.nodup_nil,fun r hr=>by cases hr⟩
theorem keJ {N:Nat} {k:Option Nat} {m:Nat}:Ke c N κ ln (updK κ N k) (updK ln N m):=fun id hi=>⟨kat hi,fun _=>kat hi⟩
theorem kjg {T e:TypeId} {f:Ty×Nat×TypeId×Ty} (h:((elemO P T).bind fun e=>(famO P e).map fun f=>(e,f))=some (e,f)):elemO P T=some e/\famO P e=some f:=by
 obtain ⟨e',h1,h2⟩:=jaa.1 h
 obtain ⟨f',h3,h4⟩:=jac.1 h2
 cases h4
 exact ⟨h1,h3⟩
theorem kpq (R:Rel P κ ln z c s env h n) {x:Operand} (hx:ev env x=nilS) (hk:kol P s ty Kf=some r):Res P κ ln z c s env h n ⟨d,.assign x,ty,pos,after,g⟩ Kf r:=by
 unfold kol at hk
 split at hk
 ·rename_i e t j U u hf
  obtain ⟨he,hf⟩:=kjg hf
  obtain ⟨hd,hud,_⟩:=khS hf
  exact ⟨.fw s.n,_,nilS,h,n,_,_,_,fun K hK=>by simp only [aop,hx]; exact hK,hk,R.famNew0 hd,.fw0 s.n (jbp _) updK_self,jbz _,keJ,fun hc=>by cases hc⟩
 ·split at hk
  ·rename_i e t hf
   split at hk
   ·rename_i hd
    have R':=R.new (h':=h) (n':=n) (.sl e t []) none 0 (fun q B hq=>hq) (jai _) (fun q hq=>by cases hq) R.hn (.sl0 e t [] hd updK_self rfl updK_self)
    exact ⟨.mw s.n,_,nilS,h,n,_,_,_,fun K hK=>by simp only [aop,hx]; exact hK,hk,R',.mw0 s.n (jbp _) updK_self,jbz _,keJ,fun hc=>by cases hc⟩
   ·exact kaa hk
  ·exact kaa hk
theorem kfm {q:Nat->Bool}:∀ (zs:List AV) (Ts:List TypeId) {i:Nat} {κ:Nat->Option Nat} {ln:Nat->Nat} {s:TS sem},Rel P κ ln z c s env h n->(∀ a∈zs,∃ v,a = .sc v/\v.oneCell'=true)->zs.length=Ts.length->
  ∃ κ' ln',Rel P κ' ln' z c (zeroF P q i s zs Ts).2 env h n/\TVRs P κ' ln' z (zeroF P q i s zs Ts).2.n (zeroF P q i s zs Ts).1 zs/\s.n<=(zeroF P q i s zs Ts).2.n/\(zeroF P q i s zs Ts).2.env=s.env/\(∀ id,id<s.n->κ' id = κ id)/\(∀ id,id<s.n->ln' id=ln id)
 | [],[],i,κ,ln,s,R,_,_=>⟨κ,ln,R,.nil,jai _,rfl,fun _ _=>rfl,fun _ _=>rfl⟩
 | [],_::_,_,_,_,_,_,_,hl=>by simp at hl
 | _::_,[],_,_,_,_,_,_,hl=>by simp at hl
 | a::zs,T::Ts,i,κ,ln,s,R,hz,hl=>by
  obtain ⟨v,rfl,hv⟩:=hz _ (jdj ..)
  have hz':∀ a∈zs,∃ v,a = .sc v/\v.oneCell'=true:=fun a ha=>hz a (jba _ ha)
  have hl':zs.length=Ts.length:=by simpa using hl
  simp only [zeroF]
  split
  ·rename_i e t j U u hf
   split at hf
   ·rename_i hn
    rw [jab] at hn
    obtain rfl:=kaG hn.1
    obtain ⟨he,hf⟩:=kjg hf
    obtain ⟨hd,hud,_⟩:=khS hf
    obtain ⟨κ',ln',R',h1,h2,h3,h4,h5⟩:=kfm zs Ts (R.famNew0 (T:=e) (U:=U) (u:=u) (j:=j) hd) hz' hl'
    exact ⟨κ',ln',R',.cons _ _ _ _ (.fw0 s.n (jao (jbp _) h2) (by rw [h4 s.n (jbp _)]; exact updK_self)) h1,Nat.le_of_succ_le h2,h3,fun id hi=>by rw [h4 id (jeg hi)]; exact kat hi,fun id hi=>by rw [h5 id (jeg hi)]; exact kat hi⟩
   ·cases hf
  ·obtain ⟨κ1,ln1,R1,a1,a2,a3,a4,a5,_⟩:=kee [.sc v] [T] R (fun a ha=>by simp at ha; subst ha; exact ⟨v,rfl,hv⟩) rfl
   obtain ⟨κ',ln',R',h1,h2,h3,h4,h5⟩:=kfm zs Ts R1 hz' hl'
   exact ⟨κ',ln',R',(a1.mono h4 h5 (fun _ _ h=>h) h2).append h1,jcv a2 h2,h3.trans a3,fun id hi=>(h4 id (by omega)).trans (a4 id hi),fun id hi=>(h5 id (by omega)).trans (a5 id hi)⟩
theorem kpF {q:Nat->Bool} (R:Rel P κ ln z c s env h n) {T:TypeId} (hk:kpr P q s T Kf=some r):Res P κ ln z c s env h n ⟨d,.alloc T,ty,pos,after,g⟩ Kf r:=by
 unfold kpr at hk
 split at hk
 ·rename_i zs Ts hz hT
  split at hk
  ·rename_i hl
   have hsc:=kgk hz
   have hone:∀ a∈zs,a.one=true:=fun a ha=>by obtain ⟨v,rfl,hv⟩:=hsc a ha; exact hv
   obtain ⟨κ',ln',R',h1,h2,_,h4,h5⟩:=kfm zs Ts R hsc hl
   obtain ⟨tv,s',v,h',n',κ2,ln2,z2,g1,g2,g3,g4,g5⟩:=khe (o:=⟨d,.alloc T,ty,pos,after,g⟩) rfl R' h1 hone (fun K hk=>by simp only [aop,hz]; exact hk) hk
   exact ⟨tv,s',v,h',n',κ2,ln2,z2,g1,g2,g3,g4,by have:=g5.1; omega,fun id hi=>⟨(g5.2.1 id (by omega)).1.trans (h4 id hi),fun hc=>((g5.2.1 id (by omega)).2 hc).trans (h5 id hi)⟩,fun hc=>by cases hc⟩
  ·exact kaa hk
 ·exact kaa hk
theorem kpN {q:Nat->Bool} (R:Rel P κ ln z c s env h n) {T:TypeId} {parts:Array (Nat×Operand)} (hk:koy P c q s T parts.toList Kf=some r):Res P κ ln z c s env h n ⟨d,.build T parts,ty,pos,after,g⟩ Kf r:=by
 unfold koy at hk
 split at hk
 ·rename_i zs Ts pl hz hT hp
  split at hk
  ·rename_i hl
   simp only at hk
   have hsc:=kgk hz
   obtain ⟨κ',ln',R',h1,h2,h3,h4,h5⟩:=kfm zs Ts R hsc hl
   split at hk
   ·rename_i vs hf
    have hev:∀ x,TVR P κ' ln' z (zeroF P q 0 s zs Ts).2.n (tev c s x) (ev env x):=fun x=>by rw [<-kqZ (c:=c) h3]; exact R'.ev x
    obtain ⟨bs,k1,k2,k3⟩:=khl hev parts.toList _ zs h1 (fun a ha=>by obtain ⟨v,rfl,hv⟩:=hsc a ha; exact hv) hf
    exact ⟨.ag vs,_,.ag bs,h,n,κ',ln',z,fun K hk=>kqT hz hp k1 hk,hk,R',.ag vs bs k2 k3,h2,fun id hi=>⟨h4 id hi,fun _=>h5 id hi⟩,fun hc=>by cases hc⟩
   ·exact kaa hk
  ·exact kaa hk
 ·exact kaa hk
theorem kmy (R:Rel P κ ln z c s env h n) {T:TypeId} {len:Nat} {parts:Array (Nat×Operand)} (hk:kkI P c s T len parts.toList Kf=some r):Res P κ ln z c s env h n ⟨d,.buildSlice T len parts,ty,pos,after,g⟩ Kf r:=by
 unfold kkI at hk
 split at hk
 ·rename_i e t j U u x hf hp
  obtain ⟨he,hf⟩:=kjg hf
  obtain ⟨hd,hud,_⟩:=khS hf
  split at hk
  ·rename_i zs vs hz hc
   split at hk
   ·rename_i hcond
    obtain ⟨rfl,hzl,hw⟩:=hcond
    split at hk
    ·rename_i xs rr y0 hrow hsn
     split at hk
     ·rename_i y hy
      obtain ⟨vj,hvj,hsrc⟩:=jaa.1 hrow
      obtain ⟨hj,hs'⟩:=keD hd hud hy
      obtain ⟨as,hca,hvs⟩:=(R.ev x).one_cells hc
      obtain ⟨aj,haj,hvaj⟩:=hvs.at hvj
      have hset:=hvs.set (.sc (.slice none 0 0) rfl:TVR P κ ln z s.n (.sc (.slice none 0 0)) nilS) j
      obtain ⟨a1,b1,e1,e2,e3,_⟩:=kbn R t _ _ _ _ _ hd hset hsn
      cases e2
      rw [jbe] at e1
      rw [kaR] at e3
      subst e1
      have hlen:as.length=t.wd:=by have:=e3.len; rw [jci,kaf t y0 hd] at this; exact this.symm
      have hone1:∀ (q:Nat) (a:AV),q≠j->as[q]?=some a->a.one=true:=fun q a hq ha=>e3.one_rev (kaK t y0 hd) a (jah (i:=q) (by rw [jbm (fun e=>hq e.symm)]; exact ha))
      have hell:(t.enc y)[j]?=some (.sl (xs.map u.enc)):=by rw [hs',jbv (by rw [kaf t y0 hd]; exact hj)]
      have fin:∀ (s1:TS sem) (rv:Option Nat),s1.n=s.n->Rel P κ ln z c s1 env h n->(match rv with | none=>aj=nilS/\xs=[] | some q=>aj = .ms q 0 xs.length/\∃ es,h q=some (.cells u.wd U es)/\SnapE z es (xs.map u.enc)/\∀ x∈es,x.length=u.wd/\∀ a∈x,a.one=true)->
        (∀ q,rv=some q->q<n/\z q=none/\∀ i' B',thp c s1 i'=some B'->¬ Ow κ ln i' B' q)->Kf (.fw s.n) { s1 with hp:=(s.n,some (.fm e t j U u (lstD (A:=sem) t [y]) none))::s1.hp,n:=s.n+1 }=some r->Res P κ ln z c s env h n ⟨d,.buildSlice T 1 parts,ty,pos,after,g⟩ Kf r:=fun s1 rv hsn1 R1 hrv hrr hk=>by
       have honej:aj.one=true:=by
        cases rv with
        | none=>rw [hrv.1]; rfl
        | some q=>rw [hrv.1]; rfl
       have hall:∀ a∈as,a.one=true:=fun a ha=>by
        obtain ⟨q,hq,rfl⟩:=jdn.1 ha
        by_cases e:q=j
        ·subst e
         rw [jaf hq] at haj
         cases haj; exact honej
        ·exact hone1 q _ e (jaf hq)
       have hFam:FamE z h j U u.wd (t.enc y) as (rv,xs.length):=by
        refine ⟨by rw [hlen,kaf t y hd],fun q a a' hq ha ha'=>?_,xs.map u.enc,hell,by simp,?_⟩
        ·rw [hs',jbm (fun e=>hq e.symm)] at ha'
         exact e3.at q a a' (by rw [jbm (fun e=>hq e.symm)]; exact ha) ha'
        ·cases rv with
         | none=>exact ⟨by rw [haj,hrv.1],by rw [hrv.2]; rfl⟩
         | some q=>exact ⟨by rw [haj,hrv.1],hrv.2⟩
       have R2:=R1.famNew (T:=e) (U:=U) (t:=t) (u:=u) (j:=j) (l:=[y]) (es:=[as]) (rows:=[(rv,xs.length)]) hd rfl rfl (fun i x' e' rm hx he' hr=>by
         cases i with
         | zero=>simp at hx he' hr; subst hx; subst he'; subst hr; exact hFam
         | succ i=>simp at hx) (fun e' he'=>by simp at he'; subst he'; exact ⟨hlen,hall⟩) (by
         cases rv with
         | none=>exact ⟨by simp,fun r hr=>by simp at hr⟩
         | some q=>exact ⟨by simp,fun r hr=>by simp at hr; subst hr; exact hrr _ rfl⟩)
       rw [hsn1] at R2
       refine ⟨.fw s.n,_,.ms n 0 1,_,_,_,_,_,fun K hK=>?_,hk,R2,?_,jbz _,keJ,fun hc=>by cases hc⟩
       ·simp only [aop,he,hz,hp,fillE,hca,hzl,hlen]
        simp only [jdb,List.replicate_succ,List.replicate_zero,Nat.lt_add_one,and_self,if_true,List.set_cons_zero,Nat.zero_lt_one,Nat.reduceLT]
        exact ⟨by omega,hw,.inl hK⟩
       ·have:=TVR.fw (P:=P) (κ:=updK κ s.n (some n)) (ln:=updK ln s.n (codeR [(rv,xs.length)])) (z:=z) (N:=s.n+1) s.n n (jbp _) updK_self
        rw [updK_self,kbc] at this
        exact this
      unfold khs at hsrc
      split at hsrc
      ·rename_i rid
       split at hsrc
       ·rename_i U' u' l' hBr
        split at hsrc
        ·rename_i hU
         simp only [jac] at hsrc
         obtain ⟨xs',hx',he'⟩:=hsrc
         cases he'
         obtain ⟨et,rfl⟩:=kai hx'
         cases et
         subst hU
         have R0:=R.del (h':=h) hBr (fun _ _ h=>h) (fun _ _ _ h=>h)
         have hthp:∀ i' B',thp c { s with hp:=(rid,none)::s.hp } i'=some B'->i'≠rid/\thp c s i'=some B':=fun i' B' hi'=>by
          rw [kaM] at hi'
          split at hi'
          ·cases hi'
          ·rename_i e; exact ⟨e,hi'⟩
         dsimp only at hk
         cases R.blk _ _ (kab hBr) with
         | sl0 _ _ _ hd' hq' hl' hn'=>
          subst hl'
          refine fin { s with hp:=(rid,none)::s.hp } none rfl R0 ⟨?_,rfl⟩ (fun q e=>by cases e) hk
          cases hvaj with
          | mw0=>rfl
          | mw _ q _ hq=>rw [hq'] at hq; cases hq
         | sl _ _ _ qr es' hd' hq' hh' hvs' h1' hn'=>
          refine fin { s with hp:=(rid,none)::s.hp } (some qr) rfl R0 ⟨?_,es',hh',hvs',fun e he=>⟨hvs'.heads hud e he,h1' e he⟩⟩ (fun rr e=>?_) hk
          ·rw [hn']
           cases hvaj with
           | mw0 _ _ hq=>rw [hq'] at hq; cases hq
           | mw _ q _ hq=>rw [hq'] at hq; cases hq; rfl
          ·cases e
           refine ⟨R.bnd _ _ _ (kab hBr) hq',R.zout _ _ _ (kab hBr) hq',fun i' B' hi' ho'=>?_⟩
           obtain ⟨w1,w2⟩:=hthp i' B' hi'
           exact w1 (R.owI w2 (kab hBr) ho' (.inl hq'))
        ·cases hsrc
       ·cases hsrc
      ·rename_i w
       split at hsrc
       ·rename_i hn
        cases hsrc
        dsimp only at hk
        refine fin s none rfl R ⟨?_,rfl⟩ (fun q e=>by cases e) hk
        cases hvaj
        exact congrArg AV.sc (kaG hn)
       ·cases hsrc
      ·cases hsrc
     ·exact kaa hk
    ·exact kaa hk
   ·exact kaa hk
  ·exact kaa hk
 ·exact kaa hk
theorem kjs (R:Rel P κ ln z c s env h n) {T T2:TypeId} {x y:Operand} {da:Option Nat} {b:Nat} (hu:match da with | none=>ev env x=nilS | some a=>TVR P κ ln z s.n (.fw a) (ev env x)) (hv:TVR P κ ln z s.n (.fw b) (ev env y)) (hk:klm P s T T2 da b Kf=some r) :
  Res P κ ln z c s env h n ⟨d,.call ⟨.builtin .append,#[x,y],#[T,T2]⟩,ty,pos,after,g⟩ Kf r:=by
 unfold klm at hk
 split at hk
 ·rename_i e Tb t j U u lb he hBb
  replace hBb:=kbZ hBb
  split at hk
  ·rename_i zs hz
   split at hk
   ·rename_i hc
    obtain ⟨hp,hzl,hw0,hb,rfl⟩:=hc
    have hzne:zs≠[]:=by rintro rfl; simp at hzl; omega
    have hBb':=kab (c:=c) hBb
    obtain ⟨hd,eb,b1,b2,b3,b4,b5⟩:=R.famAll hBb'
    have hfb:=R.fam b _ hBb' rfl
    have hxs:srcA h zs.length (ev env y)=some eb:=by
     rw [hzl]
     rcases b5 with ⟨b5,b6⟩ | ⟨q,b5,b6⟩
     ·generalize ev env y=av at hv
      cases hv with
      | fw0=>rw [b6]; rfl
      | fw _ q _ hq=>rw [b5] at hq; cases hq
     ·generalize ev env y=av at hv
      cases hv with
      | fw0 _ _ hq=>rw [b5] at hq; cases hq
      | fw _ q' _ hq=>
       rw [b5] at hq; cases hq
       simp only [srcA,b6]
       rw [if_pos ⟨trivial,by omega⟩,jcq,jbu (by omega)]
    have Rb:=R.del (h':=h) hBb (fun _ _ h=>h) (fun _ _ _ h=>h)
    have tb:∀ i B',thp c { s with hp:=(b,none)::s.hp } i=some B'->i≠b/\thp c s i=some B':=fun i B' hi=>by
     rw [kaM] at hi
     split at hi
     ·cases hi
     ·rename_i e; exact ⟨e,hi⟩
    split at hk
    ·
     simp only [jaa] at hk
     obtain ⟨l',hg,hk⟩:=hk
     obtain ⟨hle,hg⟩:=kfe hg
     rw [show ([]:List t.den)++lb=lb from rfl] at hg
     rw [hg] at hk
     have hle':eb.length<=1048576:=by simp at hle; omega
     by_cases hne:eb=[]
     ·subst hne
      have hl0:lb=[]:=jbf (by rw [<-b1]; rfl)
      subst hl0
      refine ⟨.fw s.n,_,nilS,h,n,_,_,_,fun K hK=>?_,hk,Rb.famNew0 hd,.fw0 s.n (jbp _) updK_self,jbz _,keJ,fun hc=>by cases hc⟩
      simp only [aop,kah,hu,kbj,he,hz,hxs]
      exact ⟨hp,hzne,hb,hle',fun _=>hK,fun h=>absurd rfl h⟩
     ·have R2:=Rb.famNew (T:=Tb) (U:=U) (u:=u) (j:=j) (es:=eb) (rows:=kac (ln b)) hd b1 b2 b3 b4 ⟨hfb.1,fun r hr=>⟨(hfb.2 r hr).1,(hfb.2 r hr).2.1,fun i B' hi ho=>by
       obtain ⟨w1,w2⟩:=tb i B' hi
       exact w1 (R.owI w2 hBb' ho (.inr ⟨rfl,hr⟩))⟩⟩
      refine ⟨.fw s.n,_,.ms n 0 eb.length,_,_,_,_,_,fun K hK=>?_,hk,R2,?_,jbz _,keJ,fun hc=>by cases hc⟩
      ·simp only [aop,kah,hu,kbj,he,hz,hxs]
       refine ⟨hp,hzne,hb,hle',fun h=>absurd h hne,fun _=>?_⟩
       rw [hzl]; exact hK
      ·have:=TVR.fw (P:=P) (κ:=updK κ s.n (some n)) (ln:=updK ln s.n (codeR (kac (ln b)))) (z:=z) (N:=s.n+1) s.n n (jbp _) updK_self
       rw [updK_self,kbc,<-b2,<-b1] at this
       exact this
    ·
     rename_i a
     split at hk
     ·rename_i Ta ta ja Ua ua la hBa
      replace hBa:=kbZ hBa
      split at hk
      ·rename_i hc2
       obtain ⟨rfl,rfl,rfl,rfl,hab⟩:=hc2
       split at hk
       ·rename_i la' hla
        obtain ⟨et,rfl⟩:=kai hla
        cases et
        simp only [jaa] at hk
        obtain ⟨l',hg,hk⟩:=hk
        obtain ⟨hle,hg⟩:=kfe hg
        subst hg
        have hBa':=kab (c:=c) hBa
        obtain ⟨_,ea,a1,a2,a3,a4,a5⟩:=R.famAll hBa'
        have hfa:=R.fam a _ hBa' rfl
        have hBa0:alk ((b,(none:Option (TB sem)))::s.hp) a=some (some (.fm Ta t ja Ua ua la none)):=by simp only [alk]; rw [if_neg hab]; exact hBa
        have tab:∀ i B',thp c { s with hp:=(a,none)::(b,none)::s.hp } i=some B'->i≠a/\i≠b/\thp c s i=some B':=fun i B' hi=>by
         rw [kaM (s:={ s with hp:=(b,none)::s.hp })] at hi
         split at hi
         ·cases hi
         ·rename_i e
          obtain ⟨w1,w2⟩:=tb i B' hi
          exact ⟨e,w1,w2⟩
        have nums:(((kac (ln a))++(kac (ln b))).filterMap (·.1)).Nodup/\∀ r∈((kac (ln a))++(kac (ln b))).filterMap (·.1),r<n/\z r=none/\∀ i B',thp c { s with hp:=(a,none)::(b,none)::s.hp } i=some B'->¬ Ow κ ln i B' r:=by
         rw [List.filterMap_append]
         refine ⟨List.nodup_append.2 ⟨hfa.1,hfb.1,fun r1 hr1 r2 hr2 e=>?_⟩,fun r hr=>?_⟩
         ·subst e
          exact hab (R.owI hBa' hBb' (.inr ⟨rfl,hr1⟩) (.inr ⟨rfl,hr2⟩))
         ·rcases jay.1 hr with hr | hr
          ·refine ⟨(hfa.2 r hr).1,(hfa.2 r hr).2.1,fun i B' hi ho=>?_⟩
           obtain ⟨w1,w2,w3⟩:=tab i B' hi
           exact w1 (R.owI w3 hBa' ho (.inr ⟨rfl,hr⟩))
          ·refine ⟨(hfb.2 r hr).1,(hfb.2 r hr).2.1,fun i B' hi ho=>?_⟩
           obtain ⟨w1,w2,w3⟩:=tab i B' hi
           exact w2 (R.owI w3 hBb' ho (.inr ⟨rfl,hr⟩))
        have all:∀ h1:AH,(∀ q B,(∀ r,r∈kan (ln a)\/r∈kan (ln b)->q=r->h q=some B->h1 q=some B))->∀ (i:Nat) (x':t.den) (e':List AV) (rm:Option Nat×Nat),(la++lb)[i]?=some x'->(ea++eb)[i]?=some e'->((kac (ln a))++(kac (ln b)))[i]?=some rm->FamE z h1 ja Ua ua.wd (t.enc x') e' rm:=fun h1 hh i x' e' rm hx he' hr=>by
         rw [jbr] at hx he' hr
         split at hx
         ·rename_i hlt
          rw [if_pos (by omega)] at he' hr
          exact (a3 i x' e' rm hx he' hr).mono (fun _ _ h=>h) fun q B hq hB=>by obtain ⟨r0,m⟩:=rm; simp only at hq; subst hq; exact hh q B q (.inl (kax hr)) rfl hB
         ·rename_i hlt
          rw [if_neg (by omega)] at he' hr
          rw [show i-ea.length=i-la.length by omega] at he'
          rw [show i-(kac (ln a)).length=i-la.length by omega] at hr
          exact (b3 _ x' e' rm hx he' hr).mono (fun _ _ h=>h) fun q B hq hB=>by obtain ⟨r0,m⟩:=rm; simp only at hq; subst hq; exact hh q B q (.inr (kax hr)) rfl hB
        have ones:∀ e'∈ea++eb,e'.length=t.wd/\∀ v∈e',v.one=true:=fun e' he'=>(jay.1 he').elim (a4 e') (b4 e')
        have tv:∀ m,m=(kac (ln a)++kac (ln b)).length->TVR P (updK κ s.n (some n)) (updK ln s.n (codeR (kac (ln a)++kac (ln b)))) z (s.n+1) (.fw s.n) (.ms n 0 m):=fun m hm=>by
         have:=TVR.fw (P:=P) (κ:=updK κ s.n (some n)) (ln:=updK ln s.n (codeR (kac (ln a)++kac (ln b)))) (z:=z) (N:=s.n+1) s.n n (jbp _) updK_self
         rw [updK_self,kbc,<-hm] at this
         exact this
        simp only at hu
        rcases a5 with ⟨a5,a6⟩ | ⟨qa,a5,a6⟩
        ·
         subst a6
         have hl0:la=[]:=jbf (by rw [<-a1]; rfl)
         subst hl0
         have hx:ev env x=nilS:=by
          generalize ev env x=av at hu
          cases hu with
          | fw0=>rfl
          | fw _ q _ hq=>rw [a5] at hq; cases hq
         have Rab:=Rb.del (h':=h) hBa0 (fun _ _ h=>h) (fun _ _ _ h=>h)
         have hle':eb.length<=1048576:=by simp at hle; omega
         by_cases hne:eb=[]
         ·subst hne
          have hl0:lb=[]:=jbf (by rw [<-b1]; rfl)
          subst hl0
          refine ⟨.fw s.n,_,nilS,h,n,_,_,_,fun K hK=>?_,hk,Rab.famNew0 hd,.fw0 s.n (jbp _) updK_self,jbz _,keJ,fun hc=>by cases hc⟩
          simp only [aop,kah,hx,kbj,he,hz,hxs]
          exact ⟨hp,hzne,hb,hle',fun _=>hK,fun h=>absurd rfl h⟩
         ·have R2:=Rab.famNew (T:=Ta) (U:=Ua) (u:=ua) (j:=ja) (l:=[]++lb) (es:=[]++eb) (rows:=kac (ln a)++kac (ln b)) hd (by simpa using b1) (by simp at a2 ⊢; omega) (all h (fun q B r _ _ hB=>hB)) ones nums
          refine ⟨.fw s.n,_,.ms n 0 eb.length,_,_,_,_,_,fun K hK=>?_,hk,R2,tv _ (by simp at a2 ⊢; omega),jbz _,keJ,fun hc=>by cases hc⟩
          simp only [aop,kah,hx,kbj,he,hz,hxs]
          refine ⟨hp,hzne,hb,hle',fun h=>absurd h hne,fun _=>?_⟩
          rw [hzl]; exact hK
        ·have hx:ev env x = .ms qa 0 (kac (ln a)).length:=by
          generalize ev env x=av at hu
          cases hu with
          | fw0 _ _ hq=>rw [a5] at hq; cases hq
          | fw _ q _ hq=>rw [a5] at hq; cases hq; rfl
         have Rab:=Rb.del (h':=delH h qa) hBa0 (fun q B hq=>by unfold delH at hq; split at hq; cases hq; exact hq) (fun q B hq hB=>by unfold delH; rw [if_neg]; exact hB; rintro rfl; exact hq a5)
         have R2:=Rab.famNew (T:=Ta) (U:=Ua) (u:=ua) (j:=ja) (l:=la++lb) (es:=ea++eb) (rows:=kac (ln a)++kac (ln b)) hd (by simp; omega) (by simp; omega) (all (delH h qa) (fun q B r hr hq hB=>by
          unfold delH
          rw [if_neg]
          ·exact hB
          ·rintro rfl
           subst hq
           rcases hr with hr | hr
           ·exact (hfa.2 _ hr).2.2.1 a _ hBa' a5
           ·exact (hfb.2 _ hr).2.2.1 a _ hBa' a5)) ones nums
         refine ⟨.fw s.n,_,.ms n 0 ((kac (ln a)).length+eb.length),_,_,_,_,_,fun K hK=>?_,hk,R2,tv _ (by simp; omega),jbz _,keJ,fun hc=>by cases hc⟩
         simp only [aop,kah,hx,kbj,he,hz,hxs,a6]
         refine ⟨hp,hzne,hb,hzl.symm,trivial,by omega,by have:=hle; omega,?_⟩
         exact hK
       ·exact kaa hk
      ·exact kaa hk
     ·exact kaa hk
   ·exact kaa hk
  ·exact kaa hk
 ·exact kaa hk
theorem kpk (R:Rel P κ ln z c s env h n) {T:TypeId} {x:Operand} {v:TV sem} (hv:TVR P κ ln z s.n v (ev env x)) (hk:koE P s T v Kf=some r):Res P κ ln z c s env h n ⟨d,.range T x,ty,pos,after,g⟩ Kf r:=by
 unfold koE at hk
 split at hk
 ·rename_i l
  split at hk
  ·rename_i hT
   have hs:ev env x=str l:=by
    generalize ev env x=a at hv
    cases hv with
    | c _ _ _ hd hs=>exact hs.sc_inv
   have R':=R.new (h':=updH h n (.si ⟨l.toArray⟩ 0)) (n':=n+1) (.si (l,0)) (some n) 0 (fun q B hq=>by
    unfold updH; rw [if_neg]; ·exact hq
    rintro rfl; rw [R.hn _ (jai _)] at hq; cases hq) (jbz _) (fun q hq=>by cases hq; omega) (fun q hq=>by unfold updH; rw [if_neg (by omega)]; exact R.hn q (by omega))
    (.si (l,0) n updK_self (by simp) (by simp [updH]))
   exact ⟨.ptr s.n 0,_,.own n 0 0,_,_,_,_,_,fun K hK=>by simp only [aop,kjo,hs,str]; exact ⟨kew hT,hK⟩,hk,R',.ptr s.n 0 n (jbp _) updK_self,jbz _,keJ,fun hc=>by cases hc⟩
  ·exact kaa hk
 ·exact kaa hk
theorem kpP (R:Rel P κ ln z c s env h n) {x:Operand} {v:TV sem} (hv:TVR P κ ln z s.n v (ev env x)) (hk:nextX s v Kf=some r):Res P κ ln z c s env h n ⟨d,.next x true,ty,pos,after,g⟩ Kf r:=by
 have key:∀ (id:Nat) (l:List UInt8) (i:Int),TVR P κ ln z s.n (.ptr id 0) (ev env x)->alk s.hp id=some (some (TB.si (A:=sem) (l,i)))->sem.ite (decide (i<lenI l)) (Kf (.tp [.kb true,.c (.i .i64) i,.c (.i .i32) (runeV (l,i))]) { s with hp:=(id,some (.si (runeN (l,i))))::s.hp }) (Kf (.tp [.kb false]) s)=some r->
   Res P κ ln z c s env h n ⟨d,.next x true,ty,pos,after,g⟩ Kf r:=by
  intro id l i hv hB hk
  cases R.blk _ _ (kab hB) with
  | si _ q hq h0 hh=>
   replace h0:0<=i:=h0
   replace hh:h q=some (.si ⟨l.toArray⟩ i.toNat):=hh
   have hx:ev env x = .own q 0 0:=by
    generalize ev env x=a at hv
    cases hv with
    | ptr _ _ q' _ hk'=>rw [hq] at hk'; cases hk'; rfl
   have hsz:(⟨l.toArray⟩:ByteArray).size=l.length:=by simp [ByteArray.size]
   rcases kbp hk with ⟨hb,hk⟩ | ⟨hb,hk⟩
   ·have hlt:i.toNat<(⟨l.toArray⟩:ByteArray).size:=by
     rw [hsz]
     have:i<lenI l:=of_decide_eq_true hb
     unfold lenI at this
     omega
    have R':=R.setO (B:=.si (runeN (l,i))) (AB:=.si ⟨l.toArray⟩ (i.toNat+(Utf8.decode ⟨l.toArray⟩ i.toNat).2)) hB (.inl hq) (.si (runeN (l,i)) q hq (Int.natCast_nonneg _) (by unfold updH; rw [if_pos rfl]; rfl)) (fun e=>by cases e)
    refine ⟨_,_,.tp [.sc (.bool true),.sc (.int .i64 i),.sc (.int .i32 (Utf8.decode ⟨l.toArray⟩ i.toNat).1)],_,_,_,_,_,fun K hK=>?_,hk,R',?_,jai _,.refl,fun hc=>by cases hc⟩
    ·simp only [aop,nextK,hx,hh]
     rw [if_pos hlt]
     rw [show ((i.toNat:Nat):Int)=i by omega]
     exact hK
    ·exact .tp _ _ (.cons _ _ _ _ (.kb true) (.cons _ _ _ _ (.c (.i .i64) i _ rfl (.free _ (.sc _))) (.cons _ _ _ _ (.c (.i .i32) (runeV (l,i)) _ rfl (.free _ (.sc _))) .nil)))
   ·have hge:¬ i.toNat<(⟨l.toArray⟩:ByteArray).size:=by
     rw [hsz]
     have:¬ i<lenI l:=of_decide_eq_false hb
     unfold lenI at this
     omega
    refine ⟨_,_,.tp [.sc (.bool false)],h,n,_,_,_,fun K hK=>?_,hk,R,.tp _ _ (.cons _ _ _ _ (.kb false) .nil),jai _,.refl,fun hc=>by cases hc⟩
    simp only [aop,nextK,hx,hh]
    rw [if_neg hge]
    exact hK
 unfold nextX at hk
 split at hk
 ·rename_i id
  split at hk
  ·rename_i y hB
   exact key id y.1 y.2 hv hB hk
  ·exact kaa hk
 ·exact kaa hk
theorem kro {Δ:List (FuncId×Ctr)} (R:Rel P κ ln z c s env h n) (o:Oper) {a:sem.Ans ρ} (hf:famX P c Δ s o Kf=some a) (hk:a=some r):Res P κ ln z c s env h n o Kf r:=by
 obtain ⟨d,op,ty,pos,after,g⟩:=o
 unfold famX at hf
 simp only at hf
 split at hf
 ·rename_i T x
  have hx:=R.ev x
  split at hf
  ·rename_i id i j he; rw [he] at hx; cases hf; exact knM R hx hk
  ·rename_i id i k j he; rw [he] at hx; cases hf; exact knB R hx hk
  ·cases hf
 ·rename_i T p x
  have hp:=R.ev p
  split at hf
  ·rename_i id i j he; rw [he] at hp; cases hf; exact kmA R hp (R.ev x) hk
  ·rename_i id i k j he; rw [he] at hp; cases hf; exact kmo R hp (R.ev x) hk
  ·cases hf
 ·rename_i T x f
  have hx:=R.ev x
  split at hf
  ·rename_i id i j he; rw [he] at hx; cases hf; exact kpu R hx hk
  ·rename_i id i k j he; rw [he] at hx; cases hf; exact koA R hx hk
  ·cases hf
 ·rename_i T x i
  have hx:=R.ev x
  split at hf
  ·rename_i id he; rw [he] at hx; cases hf; exact kpM R hx (R.ev i) hk
  ·rename_i id a he; rw [he] at hx; cases hf; exact kpw R hx (R.ev i) hk
  ·cases hf
 ·rename_i T x y
  split at hf
  ·rename_i e he
   split at hf
   ·cases hf; exact knC R he hk
   ·cases hf
  ·cases hf
 ·rename_i l
  obtain ⟨cal,args,ts⟩:=l
  simp only at hf
  split at hf
  ·rename_i b
   split at hf
   ·rename_i x T hx ht
    obtain rfl:=arr_of' hx
    obtain rfl:=arr_of' ht
    have hx:=R.ev x
    split at hf
    ·rename_i id he; rw [he] at hx; cases hf; exact kpx R hx hk
    ·rename_i id a he; rw [he] at hx; cases hf; exact kpf R hx hk
    ·cases hf
   ·rename_i x y T T2 hx ht
    obtain rfl:=arr_of' hx
    obtain rfl:=arr_of' ht
    have hx:=R.ev x
    split at hf
    ·rename_i id a he; rw [he] at hx; cases hf; exact kos R hx (R.ev y) hk
    ·rename_i a he; rw [he] at hx
     have hy:=R.ev y
     split at hf
     ·rename_i b he2; rw [he2] at hy; cases hf; exact kjs R (da:=some a) hx hy hk
     ·cases hf
    ·rename_i u he; rw [he] at hx
     have hy:=R.ev y
     split at hf
     ·rename_i b he2; rw [he2] at hy
      split at hf
      ·rename_i hn
       cases hf
       refine kjs R (da:=none) ?_ hy hk
       generalize ev env x=a at hx
       cases hx
       exact congrArg AV.sc (kaG hn)
      ·cases hf
     ·cases hf
    ·cases hf
   ·cases hf
  ·cases hf
 ·split at hf
  ·cases hf; exact kpF R hk
  ·cases hf
 ·split at hf
  ·cases hf; exact kpN R hk
  ·cases hf
 ·split at hf
  ·cases hf; exact kmy R hk
  ·cases hf
 ·rename_i x
  split at hf
  ·rename_i u he
   split at hf
   ·rename_i hn
    rw [jab] at hn
    cases hf
    refine kpq R ?_ hk
    have hx:=R.ev x
    rw [he] at hx
    generalize ev env x=a at hx
    cases hx
    exact congrArg AV.sc (kaG hn.1)
   ·cases hf
  ·cases hf
 ·cases hf
end
section
variable {P:Program} {κ κ':Nat->Option Nat} {ln ln':Nat->Nat} {z z':AH} {c:Cx sem} {s:TS sem} {env:Env} {h h':AH} {n n' N N':Nat}
variable {ρ:Ty} {Kf:TV sem->TS sem->sem.Ans ρ} {r:ρ.den}
theorem kdY {α:Type} {a:Array α} {l:List α} (h:a.toList=l):a=l.toArray:=by rw [<-h]
theorem kgX {Δ:List (FuncId×Ctr)} {args:List (TV sem)} {M:CtrM}:∀ {l:List CtrM},pickM c Δ s args l=some M->M∈l
 | [],h=>by cases h
 | C::l,h=>by
  unfold pickM at h
  split at h
  ·cases h; exact jdj ..
  ·exact jba _ (kgX h)
theorem klS {Δ:List (FuncId×Ctr)}:∀ {ts:List Ty} {vs:List (TV sem)} {l:List ((t:Ty)×t.den)} {ids:List Nat},kce (A:=sem) c Δ s ts vs=some (l,ids)->l.length=ts.length
 | [],[],l,ids,hs=>by cases hs; rfl
 | [],_::_,l,ids,hs=>by simp [kce] at hs
 | _::_,[],l,ids,hs=>by simp [kce] at hs
 | t::ts,v::vs,l,ids,hs=>by
  simp only [kce,jaa,jac] at hs
  obtain ⟨⟨x,i1⟩,hx,⟨l',i2⟩,hl,he⟩:=hs
  cases he
  simp [klS hl]
theorem ktB {s s':TS sem} {A:List (Nat×Option (TB sem))} (h:s'.hp=A++s.hp):chgd s s'=A.map (·.1):=by
 unfold chgd
 rw [h,jbi,Nat.add_sub_cancel,List.take_left]
theorem krs {C:CtrM} {u:TS sem} {ids:List (Nat×Nat)} {x:Nat×Nat} (hx:x∈ids):x.2∈chgd s (kdT C s u ids):=by
 rw [ktB (s':=kdT C s u ids) rfl,jcz]
 exact List.mem_append_right _ (jax.2 ⟨(x.2,none),jax.2 ⟨x,hx,rfl⟩,rfl⟩)
theorem kgI {Δ:List (FuncId×Ctr)} (hΔ:Goods P Δ) {g:FuncId} {C:CtrM} (hok:C.ok=true) (hG:GoodM P g C) (R:Rel P κ ln z c s env h n) {args:List (TV sem)} {as:List AV} (hargs:TVRs P κ ln z s.n args as) (hk:kgw c Δ s C args Kf=some r) {K:K3}
  (hK:∀ tv s' v h' n' κ' ln',Kf tv s'=some r->Ke c s.n κ ln κ' ln'->s.n<=s'.n->Rel P κ' ln' ahN c s' env h' n'->TVR P κ' ln' ahN s'.n tv v->(∀ q,q<n->h' q=h q\/∃ id∈chgd s s',(∃ B,thp c s id=some B)/\q∈ows κ ln c s id)->K v h' n'):HC P g as h n K:=by
 unfold kgw at hk
 split at hk
 ·exact kaa hk
 ·rename_i hcond
  simp only [jap,jaj,jbc,not_or,jbh,Bool.not_eq_false,ne_eq,Decidable.not_not] at hcond
  obtain ⟨⟨hlen,hdy⟩,_⟩:=hcond
  split at hk
  ·rename_i l hl
   split at hk
   ·rename_i m hm
    split at hk
    ·rename_i hchk
     rw [jab,jab] at hchk
     split at hk
     ·rename_i a ha
      obtain ⟨y,hy,hk⟩:=jaa.1 hk
      dsimp only at hk
      split at hk
      ·rename_i hu
       rw [jab] at hu
       have hz0:=R.dy hdy
       obtain ⟨bs,g1,g2,g3⟩:=kdr hΔ R _ _ _ (kml C.ks hargs) hl
       subst hz0
       refine krv hG hok R hdy hargs hlen (klS hl) g1 g2 g3 hm (by simpa [jcy] using hchk.1.1) hchk.1.2 hchk.2 ha hy hu.1 hu.2 fun v h' n' κ' ln' h0 h1 h2 h3=>hK _ _ v h' n' κ' ln' hk h0 (Nat.le_add_right _ _) h1 h2 fun q hq=>(h3 q hq).imp id fun ⟨x,hx,hxq⟩=>⟨x.2,krs hx,hxq⟩
      ·exact kaa hk
     ·exact kaa hk
    ·exact kaa hk
   ·exact kaa hk
  ·exact kaa hk
theorem kbl {Δ:List (FuncId×Ctr)} (hΔ:Goods P Δ) (R:Rel P κ ln z c s env h n) (o:Oper) (hk:xop P c Δ s o Kf=some r):Res P κ ln z c s env h n o Kf r:=by
 unfold xop at hk
 split at hk
 ·rename_i a hf
  exact kro R o hf hk
 rename_i hf0
 clear hf0
 obtain ⟨d,op,ty,pos,after,g⟩:=o
 simp only at hk
 split at hk
 ·rename_i x; exact kkf (o:=⟨d,.move x,ty,pos,after,g⟩) rfl R (R.ev x) (fun K hk=>by simp only [aop]; exact hk) hk
 ·rename_i x; exact kkf (o:=⟨d,.assign x,ty,pos,after,g⟩) rfl R (R.ev x) (fun K hk=>by simp only [aop]; exact hk) hk
 ·rename_i x a b
  have hx:=R.ev x
  split at hk
  ·rename_i t he
   rw [he] at hx
   generalize hev:ev env x=av at hx
   cases hx
   cases t
   ·exact R.q (fun K hk=>by simp only [aop,hev]; exact hk) (R.ev b) hk
   ·exact R.q (fun K hk=>by simp only [aop,hev]; exact hk) (R.ev a) hk
  ·rename_i y he
   rw [he] at hx
   have hev:=hx.b_inv
   rcases kbp hk with ⟨hb,hk⟩ | ⟨hb,hk⟩
   ·rw [hb] at hev; exact R.q (fun K hk=>by simp only [aop,hev]; exact hk) (R.ev a) hk
   ·rw [hb] at hev; exact R.q (fun K hk=>by simp only [aop,hev]; exact hk) (R.ev b) hk
  ·exact kaa hk
 ·exact kpg R hk
 ·exact krf R (R.ev _) hk
 ·exact kpQ R (R.ev _) hk
 ·exact koS R (R.ev _) (R.ev _) hk
 ·exact krg R (R.ev _) hk
 ·exact krj R (R.ev _) (R.ev _) hk
 ·exact krO R (R.ev _) hk
 ·exact kpU R (R.ev _) hk
 ·rename_i f first caps
  split at hk
  ·rename_i hfi
   have hf:first = #[]:=by simpa [Array.isEmpty_iff] using hfi
   refine R.q (fun K hk=>by simp only [aop]; exact ⟨hf,hk⟩) (.fn f _ (caps.toList.map (ev env)) ?_) hk
   generalize caps.toList=l
   induction l with
   | nil=>exact .nil
   | cons x l ih=>exact .cons _ _ _ _ (R.ev x) ih
  ·exact kaa hk
 ·exact kkK R hk
 ·exact koU R (R.ev _) hk
 ·exact kli R (R.ev _) hk
 ·exact kpI R (R.ev _) hk
 ·exact kms R (R.ev _) (R.ev _) hk
 ·exact kry R (R.ev _) (R.ev _) hk
 ·rename_i x i
  have hx:=R.ev x
  split at hk
  ·rename_i vs he
   rw [he] at hx
   generalize hev:ev env x=av at hx
   cases hx with
   | tp _ as hvs=>
    split at hk
    ·rename_i v hv
     obtain ⟨a,ha,hva⟩:=hvs.at hv
     exact R.q (fun K hk=>s_ext hev ha hk) hva hk
    ·exact kaa hk
  ·exact kaa hk
 ·exact knQ R hk
 ·exact kjU R hk
 ·exact kmD R hk
 ·exact knA R (R.ev _) (R.ev _) hk
 ·exact knJ R (R.ev _) (R.ev _) (R.ev _) hk
 ·exact knG R (R.ev _) (R.ev _) hk
 ·exact kpz R (R.ev _) (R.ev _) (R.ev _) hk
 ·exact kpk R (R.ev _) hk
 ·exact kpP R (R.ev _) hk
 ·exact absurd (show (none:Option ρ.den)=some r from hk) (by simp)
 ·rename_i l
  obtain ⟨callee,args,ts⟩:=l
  split at hk
  ·rename_i b hb
   simp only at hb
   subst hb
   split at hk
   ·rename_i x T h1 h2
    obtain rfl:=kdY h1
    obtain rfl:=kdY h2
    exact kri R (R.ev _) hk
   ·rename_i x y T T2 h1 h2
    obtain rfl:=kdY h1
    obtain rfl:=kdY h2
    exact krt R (R.ev _) (R.ev _) hk
   ·rename_i x y T T2 h1 h2
    obtain rfl:=kdY h1
    obtain rfl:=kdY h2
    exact kpT R (R.ev _) (R.ev _) hk
   ·rename_i x y h1
    obtain rfl:=kdY h1
    exact kmU (mx:=false) R (R.ev _) (R.ev _) hk
   ·rename_i x y h1
    obtain rfl:=kdY h1
    exact kmU (mx:=true) R (R.ev _) (R.ev _) hk
   ·rename_i x y q h1
    obtain rfl:=kdY h1
    exact klu (mx:=false) R (R.ev _) (R.ev _) (R.ev _) hk
   ·rename_i x y q h1
    obtain rfl:=kdY h1
    exact klu (mx:=true) R (R.ev _) (R.ev _) (R.ev _) hk
   ·exact kaa hk
  ·rename_i f hf
   exact kpV hΔ R hf hk
  ·exact kaa hk
 ·exact kaa hk
theorem kod {p:Pat} {i:Nat} (R:Rel P κ ln z c s env h n) {v:TV sem} {a:AV} (hv:TVR P κ ln z s.n v a) :
  ∃ κ' ln',Rel P κ' ln' z c (khu (A:=sem) p i v s).2 env h n/\TVR P κ' ln' z (khu (A:=sem) p i v s).2.n (khu (A:=sem) p i v s).1 a/\(∀ id,id<s.n->κ' id = κ id/\ln' id=ln id)/\s.n<=(khu (A:=sem) p i v s).2.n:=by
 have same:∃ κ' ln',Rel P κ' ln' z c s env h n/\TVR P κ' ln' z s.n v a/\(∀ id,id<s.n->κ' id = κ id/\ln' id=ln id)/\s.n<=s.n:=⟨κ,ln,R,hv,fun _ _=>⟨rfl,rfl⟩,jai _⟩
 unfold khu
 split
 ·rename_i u q hq
  split
  ·rename_i T t ht
   split
   ·rename_i hc
    simp only [jab] at hc
    obtain ⟨hn,hd⟩:=hc
    obtain rfl:=kaG hn
    cases hv
    have R':=R.new (h':=h) (n':=n) (.sl T t []) none 0 (fun q B hq=>hq) (jai _) (fun q hq=>by cases hq) R.hn (.sl0 T t [] hd updK_self rfl updK_self)
    exact ⟨_,_,R',.mw0 s.n (jbp _) updK_self,fun id hi=>⟨kat hi,kat hi⟩,jbz _⟩
   ·exact same
  ·exact same
 ·exact same
theorem kip {p:Pat}:∀ {vs:List (TV sem)} {as:List AV} {i:Nat} {κ:Nat->Option Nat} {ln:Nat->Nat} {s:TS sem},Rel P κ ln z c s env h n->TVRs P κ ln z s.n vs as->
  ∃ κ' ln',Rel P κ' ln' z c (kgc (A:=sem) p vs i s).2 env h n/\TVRs P κ' ln' z (kgc (A:=sem) p vs i s).2.n (kgc (A:=sem) p vs i s).1 as/\(∀ id,id<s.n->κ' id = κ id/\ln' id=ln id)/\s.n<=(kgc (A:=sem) p vs i s).2.n
 | [],_,i,κ,ln,s,R,.nil=>⟨κ,ln,R,.nil,fun _ _=>⟨rfl,rfl⟩,jai _⟩
 | v::vs,_,i,κ,ln,s,R,.cons _ a _ as hv hs=>by
  obtain ⟨κ1,ln1,R1,hv1,k1,n1⟩:=kod (p:=p) (i:=i) R hv
  have hs1:=hs.mono (fun id hi=>(k1 id hi).1) (fun id hi=>(k1 id hi).2) (fun _ _ h=>h) n1
  obtain ⟨κ2,ln2,R2,hs2,k2,n2⟩:=kip (p:=p) (i:=i+1) R1 hs1
  exact ⟨κ2,ln2,R2,.cons _ _ _ _ (hv1.mono (fun id hi=>(k2 id hi).1) (fun id hi=>(k2 id hi).2) (fun _ _ h=>h) n2) hs2,fun id hi=>⟨((k2 id (by omega)).1).trans (k1 id hi).1,((k2 id (by omega)).2).trans (k1 id hi).2⟩,jcv n1 n2⟩
def nilB (ne:Bool) (e:Option Bool) (b:Bool):Prop:=
 match e with
 | some e=>e=false->b=ne
 | none=>b = !ne
theorem ktZ {P:Program} {h:AH} {op:BinOp} {T:TypeId} {a:AV} {e:Option Bool} (hT:(elemO P T).isSome=true) (ho:op = .eql\/op = .neq) (F:AV->Prop)
  (hv:∀ (w:World) (O:Nat->Prop) (μ:Mu) (n:Nat) (u:Value),HR w O μ h n->VR w O μ n a u->∃ p l c,u = .slice p l c/\nilB false e p.isNone)
  (hF:∀ b,nilB (op == .neq) e b->F (.sc (.bool b))) (hd:∀ k x,a≠.sc (.int k x)) (hs:∀ x,a≠.sc (.string x)) (hb:∀ x,a≠.sc (.bool x)):abin P h op T a (.sc (.slice none 0 0)) F:=by
 obtain ⟨E,hE⟩:=jan.1 hT
 have hU:=kbC hE
 have hc:=ksN (S:=nilB false e) hU hv
 have:∃ S,Cmp P h op T a (.sc (.slice none 0 0)) S/\∀ b,S b->F (.sc (.bool b)):=by
  rcases ho with rfl | rfl
  ·exact ⟨_,hc.1,fun b hb=>hF b hb⟩
  ·refine ⟨_,hc.2,fun b hb=>hF b ?_⟩
   cases e <;> simp [nilB] at hb ⊢
   ·exact hb
   ·intro h1; have:=hb h1; cases b <;> simp at this ⊢
 unfold abin
 split
 ·rename_i h1 h2; cases h2
 ·rename_i h1 h2; cases h2
 ·rename_i h1 h2; cases h2
 ·exact this
theorem kij (R:Rel P κ ln z c s env h n) {o:Oper} {ne:Bool} {e:Option Bool} (hn:nilC (A:=sem) P c s o=some (ne,e)) {K:K3} (hK:∀ b,nilB ne e b->K (.sc (.bool b)) h n):aop P env h n o K:=by
 obtain ⟨d,op,ty,pos,after,g⟩:=o
 unfold nilC at hn
 split at hn
 ·rename_i bop T x v T2 hop
  simp only at hop; subst hop
  split at hn
  ·rename_i hcond
   simp only [jab,jap,beq_iff_eq] at hcond
   obtain ⟨⟨hv,hT⟩,hbop⟩:=hcond
   have hv:=kaG hv
   subst hv
   have hx:=R.ev x
   have ms:∀ {q off len:Nat} {k:Nat} {T':TypeId} {es:List (List AV)} {e:Option Bool},(e≠none)->h q=some (.cells k T' es)->∀ (w:World) (O:Nat->Prop) (μ:Mu) (n:Nat) (u:Value),HR w O μ h n->VR w O μ n (.ms q off len) u->∃ p l c,u = .slice p l c/\nilB false e p.isNone:=by
    intro q off len k T' es e he hq w O μ n u hr hu
    obtain ⟨b,cc,h1,h2,h3⟩:=hr.own_cells hq
    cases hu with
    | ms _ _ _ _ hlt h1' hv=>
     obtain ⟨o,cap,c,T,rfl,_⟩:=hv b k h1
     refine ⟨_,_,_,rfl,?_⟩
     cases e with
     | none=>exact absurd rfl he
     | some e=>intro _; rfl
   have nl:∀ {e:Option Bool},(e=none\/e=some true)->∀ (w:World) (O:Nat->Prop) (μ:Mu) (n:Nat) (u:Value),HR w O μ h n->VR w O μ n Abs.nilS u->∃ p l c,u = .slice p l c/\nilB false e p.isNone:=by
    intro e he w O μ n u hr hu
    refine ⟨none,0,0,hu.sc_inv,?_⟩
    rcases he with rfl | rfl
    ·rfl
    ·intro h; cases h
   have fin:∀ {a:AV} {e:Option Bool},ev env x=a->(∀ b,nilB (bop == .neq) e b->K (.sc (.bool b)) h n)->(∀ (w:World) (O:Nat->Prop) (μ:Mu) (n:Nat) (u:Value),HR w O μ h n->VR w O μ n a u->∃ p l c,u = .slice p l c/\nilB false e p.isNone)->(∀ k x,a≠.sc (.int k x))->(∀ x,a≠.sc (.string x))->(∀ x,a≠.sc (.bool x))->
     aop P env h n ⟨d,.binOp bop T x (.const (.slice none 0 0)) T2,ty,pos,after,g⟩ K:=by
    intro a e ha hK hv h1 h2 h3
    simp only [aop,ha]
    exact ktZ hT hbop _ hv hK h1 h2 h3
   generalize htx:tev c s x=tv at hn hx
   split at hn
   ·rename_i t l
    cases hn
    cases hx with
    | c _ _ a hd hs=>
     replace hs:Snap z _ (.sl (l.map t.enc)):=hs
     rcases hs.sl_inv with ⟨es,ha,h1⟩ | ⟨ha,h1⟩ | ⟨id,off,len,k,T',es,ha,h1,h2,h3⟩
     ·refine fin ha hK (fun w O μ n u hr hu=>?_) (by intros; simp) (by intros; simp) (by intros; simp)
      obtain ⟨p,l',c',rfl,hp⟩:=kun hu
      refine ⟨_,_,_,rfl,fun hl=>hp ?_⟩
      have:=h1.1
      rw [jav] at this
      intro he; subst he
      have:l=[]:=jbf (by simpa using this)
      subst this; simp [isE] at hl
     ·simp only [jdr] at h1; subst h1
      exact fin ha hK (nl (.inr rfl)) (by intros; simp [Abs.nilS]) (by intros; simp [Abs.nilS]) (by intros; simp [Abs.nilS])
     ·exact fin ha hK (ms (by simp) (R.zin _ _ h1)) (by intros; simp) (by intros; simp) (by intros; simp)
   ·rename_i id
    split at hn
    ·rename_i T' t l hb
     cases hn
     have hB:=R.blk _ _ hb
     generalize hax:ev env x=a at hx
     cases hx with
     | mw0 _ hN hκ=>
      cases hB with
      | sl0 _ _ _ hd hq hl hn=>subst hl; exact fin hax hK (nl (.inr rfl)) (by intros; simp [Abs.nilS]) (by intros; simp [Abs.nilS]) (by intros; simp [Abs.nilS])
      | sl _ _ _ q es hd hq=>rw [hκ] at hq; cases hq
     | mw _ q hN hκ=>
      cases hB with
      | sl0 _ _ _ hd hq hl hn=>rw [hκ] at hq; cases hq
      | sl _ _ _ q' es hd hq hh=>rw [hκ] at hq; cases hq; exact fin hax hK (ms (by simp) hh) (by intros; simp) (by intros; simp) (by intros; simp)
    ·cases hn
   ·rename_i u
    split at hn
    ·rename_i hu
     cases hn
     have hu:=kaG hu
     subst hu
     generalize hax:ev env x=a at hx
     cases hx with
     | sc _ h1=>exact fin hax hK (nl (.inl rfl)) (by intros; simp) (by intros; simp) (by intros; simp)
    ·cases hn
   ·cases hn
  ·cases hn
 ·cases hn
theorem knu:∀ {l:List (sem.Ans ρ)},altL (A:=sem) l=some r->∃ x∈l,x=some r
 | [],h=>by cases h
 | [x],h=>⟨x,by simp,h⟩
 | x::y::l,h=>by
  rcases krR h with h | h
  ·exact ⟨x,by simp,h⟩
  ·obtain ⟨z,hz,e⟩:=knu h
   exact ⟨z,by simp only [jat] at hz ⊢; exact .inr hz,e⟩
theorem krA {Δ:List (FuncId×Ctr)} (hΔ:Goods P Δ) (R:Rel P κ ln z c s env h n) (o:Oper) (hk:xopM P c Δ s o Kf=some r) {K:K3}
  (hK:∀ tv s' v h' n' κ' ln' z',Kf tv s'=some r->Ke c s.n κ ln κ' ln'->s.n<=s'.n->Rel P κ' ln' z' c s' env h' n'->TVR P κ' ln' z' s'.n tv v->K v h' n'):aop P env h n o K:=by
 unfold xopM at hk
 split at hk
 ·rename_i M args hu
  obtain ⟨d,op,ty,pos,after,g⟩:=o
  unfold useM at hu
  simp only at hu
  split at hu
  ·rename_i l
   split at hu
   ·rename_i f hf
    split at hu
    ·rename_i gg caps hfe
     split at hu
     ·rename_i C hC
      obtain ⟨M',hM,he⟩:=jac.1 hu
      cases he
      have hargs:TVRs P κ ln z s.n (l.args.toList.map (tev c s)) (l.args.toList.map (ev env)):=by
       generalize l.args.toList=xs
       induction xs with
       | nil=>exact .nil
       | cons x xs ih=>exact .cons _ _ _ _ (R.ev x) ih
      have hff:=R.ev f
      rw [hfe] at hff
      obtain ⟨as,hfa,hcaps⟩:=hff.fn_inv
      have one:∀ M∈C.mus,kgw c Δ s M (l.args.toList.map (tev c s)++caps) Kf=some r->aop P env h n ⟨d,.call l,ty,pos,after,g⟩ K:=fun M hM hk=>by
       have hG:=(hΔ.at hC).2.2.1 M hM
       exact keC hf hfa rfl (kgI hΔ hG.1 hG.2 R (hargs.append hcaps) hk fun tv s' v h' n' κ' ln' h1 h2 h3 h4 h5 _=>hK tv s' v h' n' κ' ln' ahN h1 h2 h3 h4 h5)
      split at hk
      ·exact one M (kgX hM) hk
      ·obtain ⟨x,hx,e⟩:=knu hk
       obtain ⟨M2,hM2,rfl⟩:=jax.1 hx
       unfold altsM at hM2
       simp only [hf,hfe,hC] at hM2
       exact one M2 (jeh.1 hM2).1 e
     ·cases hu
    ·cases hu
   ·cases hu
  ·cases hu
 ·rename_i hnone
  clear hnone
  split at hk
  ·rename_i M args s1 hu
   obtain ⟨d,op,ty,pos,after,g⟩:=o
   unfold useN at hu
   simp only at hu
   split at hu
   ·rename_i l
    split at hu
    ·rename_i f hf
     split at hu
     ·rename_i gg caps hfe
      split at hu
      ·rename_i C hC
       obtain ⟨M0,hM0,he⟩:=List.exists_of_findSome?_eq_some hu
       obtain ⟨M',hM,he⟩:=jac.1 he
       have hmem:M'=M0:=by simpa using kgX hM
       rw [hmem] at he
       cases he
       have hG:=(hΔ.at hC).2.2.1 M hM0
       have hargs:TVRs P κ ln z s.n (l.args.toList.map (tev c s)) (l.args.toList.map (ev env)):=by
        generalize l.args.toList=xs
        induction xs with
        | nil=>exact .nil
        | cons x xs ih=>exact .cons _ _ _ _ (R.ev x) ih
       have hff:=R.ev f
       rw [hfe] at hff
       obtain ⟨as,hfa,hcaps⟩:=hff.fn_inv
       obtain ⟨κ1,ln1,R1,ha1,k1,n1⟩:=kip (p:=M.inp) (i:=0) R (hargs.append hcaps)
       have ke1:Ke c s.n κ ln κ1 ln1:=fun id hi=>⟨(k1 id hi).1,fun _=>(k1 id hi).2⟩
       exact keC hf hfa rfl (kgI hΔ hG.1 hG.2 R1 ha1 hk fun tv s' v h' n' κ' ln' h1 h2 h3 h4 h5 _=>hK tv s' v h' n' κ' ln' ahN h1 (ke1.trans h2 n1) (jcv n1 h3) h4 h5)
      ·cases hu
     ·cases hu
    ·cases hu
   ·cases hu
  ·split at hk
   ·rename_i ne e hn
    rcases kbp hk with ⟨he,hk⟩ | ⟨he,hk⟩
    ·obtain ⟨k1,k2⟩:=kmR hk
     refine kij R hn fun b hb=>?_
     cases b
     ·exact hK _ s _ h n κ ln z k2 .refl (jai _) R (.kb false)
     ·exact hK _ s _ h n κ ln z k1 .refl (jai _) R (.kb true)
    ·refine kij R hn fun b hb=>?_
     obtain rfl:=hb (by simpa using he)
     exact hK _ s _ h n κ ln z hk .refl (jai _) R (.kb _)
   ·rename_i ne hn
    refine kij R hn fun b hb=>?_
    subst hb
    exact hK _ s _ h n κ ln z hk .refl (jai _) R (.kb _)
   ·obtain ⟨tv,s',v,h',n',κ',ln',z',g1,g2,g3,g4,g6,g7,_⟩:=kbl hΔ R o hk
    exact g1 _ (hK tv s' v h' n' κ' ln' z' g2 g7 g6 g3 g4)
theorem Rel.putT (R:Rel P κ ln z c s env h n) {v:TV sem} {a:AV} (hv:TVR P κ ln z s.n v a) (d:Option Tmp) (hd:∀ x,d=some x->alk c.e0 x=none):Rel P κ ln z c (Abs.putT s d v) (putE env d a) h n:=by
 cases d with
 | none=>exact R
 | some d=>
  refine ⟨fun x=>?_,R.blk,R.lt,R.inj,R.zin,R.zout,R.bnd,R.hn,fun x v' hx=>?_,R.g,R.dy,R.zk,R.fam⟩
  ·show TVR P κ ln z s.n (tlk c { s with env:=(d,v)::s.env } x) (if x=d then a else lk env x)
   unfold tlk
   simp only [alk]
   by_cases hxd:x=d
   ·rw [if_pos hxd,if_pos hxd]; exact hv
   ·rw [if_neg hxd,if_neg hxd]; exact R.env x
  ·simp only [Abs.putT,alk] at hx
   split at hx
   ·rename_i e; subst e; exact hd _ rfl
   ·exact R.e0 x v' hx
theorem kkx {ds:List (Option Tmp)} (h:okD c ds=true) {j:Nat} {x:Tmp} (hj:kav ds j=some x):alk c.e0 x=none:=by
 unfold kav at hj
 cases hd:ds[j]? with
 | none=>rw [hd] at hj; cases hj
 | some d=>
  rw [hd] at hj
  simp only [jag,id] at hj
  subst hj
  have:=jam.1 h _ (jah hd)
  simpa using this
theorem kmM {ds:List (Option Tmp)} (h:okD c ds=true) {d:Option Tmp} (hd:d∈ds):∀ x,d=some x->alk c.e0 x=none:=fun x hx=>by
 subst hx
 have:=jam.1 h _ hd
 simpa using this
theorem Rel.again {env':Env} (R:Rel P κ ln z c s env h n) (he:∀ x,lk env' x=lk env x):Rel P κ ln z c s env' h n:=
 ⟨fun x=>by rw [he]; exact R.env x,R.blk,R.lt,R.inj,R.zin,R.zout,R.bnd,R.hn,R.e0,R.g,R.dy,R.zk,R.fam⟩
theorem Rel.know (R:Rel P κ ln z c s env h n) {d:Tmp} {v:TV sem} {a:AV} (hv:TVR P κ ln z s.n v a) (hd:alk c.e0 d=none):Rel P κ ln z c { s with env:=(d,v)::s.env } ((d,a)::env) h n:=
 R.putT hv (some d) fun x hx=>by cases hx; exact hd
theorem kbm {d:Option Tmp} {v:TV sem}:(Abs.putT s d v).n=s.n:=by cases d <;> rfl
theorem kbQ {Δ:List (FuncId×Ctr)} (hΔ:Goods P Δ) {ds:List (Option Tmp)} (hds:okD c ds=true) {Kf:TS sem->sem.Ans ρ} {K:St->Prop} {N0:Nat} {κ0:Nat->Option Nat} {ln0:Nat->Nat} (hK:∀ κ ln z s' env' h' n',Ke c N0 κ0 ln0 κ ln->Rel P κ ln z c s' env' h' n'->Kf s'=some r->K ⟨env',h',n'⟩) :
  ∀ (l:List Oper) {κ:Nat->Option Nat} {ln:Nat->Nat} {z:AH} {s:TS sem} {env:Env} {h:AH} {n:Nat},Ke c N0 κ0 ln0 κ ln->N0<=s.n->(∀ o∈l,o.dst∈ds)->Rel P κ ln z c s env h n->xops P c Δ ds l s Kf=some r->aops P ds l ⟨env,h,n⟩ K
 | [],κ,ln,z,s,env,h,n,ke,kn,_,R,hk=>hK _ _ _ _ _ _ _ ke R hk
 | o::l,κ,ln,z,s,env,h,n,ke,kn,hl,R,hk=>by
  have hl':∀ o∈l,o.dst∈ds:=fun o ho=>hl o (jba _ ho)
  have hod:=kmM hds (hl o (jdj ..))
  have one:∀ {κ:Nat->Option Nat} {ln:Nat->Nat} {z:AH} {s:TS sem} {env:Env} {h:AH} {n:Nat},Ke c N0 κ0 ln0 κ ln->N0<=s.n->Rel P κ ln z c s env h n->(xopM P c Δ s o fun v s'=>xops P c Δ ds l (putT s' o.dst v) Kf)=some r->aop P env h n o fun v h n=>aops P ds l ⟨putE env o.dst v,h,n⟩ K:=fun {κ ln z s env h n} ke kn R hk=>by
   exact krA hΔ R o hk fun tv s' v h' n' κ' ln' z' g2 g6 g7 g3 g4=>kbQ hΔ hds hK l (ke.trans g6 kn) (by rw [kbm]; omega) hl' (g3.putT g4 o.dst hod) g2
  simp only [xops] at hk
  simp only [aops]
  cases hg:o.guard with
  | none=>
   rw [hg] at hk
   exact one ke kn R hk
  | some jw=>
   obtain ⟨j,want⟩:=jw
   rw [hg] at hk
   simp only at hk ⊢
   cases hs:kav ds j with
   | none=>rw [hs] at hk; exact kaa hk
   | some d=>
    rw [hs] at hk
    simp only at hk ⊢
    have hde:=kkx hds hs
    have hv:=R.env d
    generalize htl:tlk c s d=tv at hv hk
    generalize hlk:lk env d=a at hv
    cases hv <;> first | exact kaa hk | skip
    ·
     exact kbQ hΔ hds hK l ke (by rw [kbm]; exact kn) hl' (R.putT .ud o.dst hod) hk
    ·
     rename_i t x hd hs2
     cases t <;> first | exact kaa hk | skip
     obtain rfl:=hs2.sc_inv
     have k1:∀ w:Bool,x=w->Rel P κ ln z c { s with env:=(d,.kb w)::s.env } ((d,.sc (.bool w))::env) h n:=fun w hw=>R.know (.kb w) hde
     dsimp only at hk
     cases want
     ·dsimp only at hk
      rcases kbp hk with ⟨hb,hk⟩ | ⟨hb,hk⟩
      ·refine ⟨fun e=>?_,fun _=>?_⟩
       ·exact absurd (hb.symm.trans e) (by decide)
       ·exact kbQ hΔ hds hK l ke (by rw [kbm]; exact kn) hl' ((k1 true hb).putT .ud o.dst hod) hk
      ·refine ⟨fun _=>?_,fun e=>?_⟩
       ·exact one ke (by exact kn) (k1 false hb) hk
       ·exact absurd (hb.symm.trans e) (by decide)
     ·dsimp only at hk
      rcases kbp hk with ⟨hb,hk⟩ | ⟨hb,hk⟩
      ·refine ⟨fun _=>?_,fun e=>?_⟩
       ·exact one ke (by exact kn) (k1 true hb) hk
       ·exact absurd (hb.symm.trans e) (by decide)
      ·refine ⟨fun e=>?_,fun _=>?_⟩
       ·exact absurd (hb.symm.trans e) (by decide)
       ·exact kbQ hΔ hds hK l ke (by rw [kbm]; exact kn) hl' ((k1 false hb).putT .ud o.dst hod) hk
    ·
     rename_i b
     dsimp only at hk
     have ag:Rel P κ ln z c s ((d,.sc (.bool b))::env) h n:=R.again fun x=>by
      show (if x=d then _ else lk env x)=_
      split
      ·rename_i e; rw [e,hlk]
      ·rfl
     split at hk
     ·rename_i hbw
      have hbw:=eq_of_beq hbw
      subst hbw
      refine ⟨fun _=>one ke (by exact kn) ag hk,fun e=>?_⟩
      cases b <;> cases e
     ·rename_i hbw
      refine ⟨fun e=>by rw [e] at hbw; simp at hbw,fun e=>?_⟩
      rw [<-e]
      exact kbQ hΔ hds hK l ke (by rw [kbm]; exact kn) hl' (ag.putT .ud o.dst hod) hk
end
section
variable {P:Program} {κ κ' κ0:Nat->Option Nat} {ln ln':Nat->Nat} {z z':AH} {c:Cx sem} {s:TS sem} {env:Env} {h h' hs:AH} {n n':Nat}
variable {ρ:Ty} {r:ρ.den} {o:Oper} {wc:List Nat} {rd:List (Nat×Nat)} {b1 b2:List Nat} {tr:List Rec} {j:Nat} {next:St->List Rec->Prop}
def RecsOk (P:Program) (rd:List (Nat×Nat)) (κ0:Nat->Option Nat) (b1 b2:List Nat) (hs:AH) (tr:List Rec):Prop:=
 ∀ a∈tr,GH κ0 b1 b2 hs a.h/\GH κ0 b1 b2 hs a.h'/\(rd.any (fun x=>x.1==a.j)=true->∀ h1 n1 (K':K3),GH κ0 b1 b2 hs h1->K' a.v h1 n1->aop P a.env h1 n1 a.o K')
theorem klO {a:Rec} {x:Nat} (h:recOf tr x=some a):a∈tr/\a.j=x:=
 ⟨List.mem_of_find?_eq_some h,by simpa using List.find?_some h⟩
theorem RecsOk.recheck (hT:RecsOk P rd κ0 b1 b2 hs tr):∀ rd',(∀ x∈rd',x∈rd)->recheck P tr rd'
 | [],_=>trivial
 | (x,w)::rest,hm=>by
  refine ⟨?_,hT.recheck rest fun y hy=>hm y (jba _ hy)⟩
  split
  ·rename_i a b ha hb
   obtain ⟨a1,a2⟩:=klO ha
   obtain ⟨c1,c2⟩:=klO hb
   obtain ⟨_,_,hr⟩:=hT a a1
   obtain ⟨g1,g2,_⟩:=hT b c1
   have hr:=hr (jbj.2 ⟨(x,w),hm _ (jdj ..),by simp [a2]⟩)
   split
   ·exact hr _ _ _ g1 ⟨rfl,rfl,rfl⟩
   ·exact hr _ _ _ g2 ⟨rfl,rfl,rfl⟩
  ·trivial
theorem ksQ (v:AV) (hw:isW wc j o=false) (hv:∀ K:K3,K v h n->aop P env h n o K) (hk:next ⟨putE env o.dst v,h,n⟩ (if wants rd j then ⟨j,o,env,v,h,n,h,n⟩::tr else tr)):stepD P wc rd o j env h n tr next:=by
 unfold stepD
 rw [if_neg (by rw [hw]; decide)]
 have:∃ v,aop P env h n o (fun a b c=>a=v/\b=h/\c=n)/\next ⟨putE env o.dst v,h,n⟩ (if wants rd j then ⟨j,o,env,v,h,n,h,n⟩::tr else tr):=⟨v,hv _ ⟨rfl,rfl,rfl⟩,hk⟩
 split <;> exact this
theorem ksY (v:AV) (h':AH) (n':Nat) (hw:isW wc j o=true) (hv:aop P env h n o fun a b c=>a=v/\b=h'/\c=n') (hk:next ⟨putE env o.dst v,h',n'⟩ (if wants rd j then ⟨j,o,env,v,h,n,h',n'⟩::tr else tr)):stepD P wc rd o j env h n tr next:=by
 unfold stepD
 rw [if_pos hw]
 exact ⟨v,h',n',hv,hk⟩
theorem kdt (hc:cls o=1\/cls o=2):calm o=true:=by
 obtain ⟨dst,op,ty,pos,after,g⟩:=o
 cases op <;> simp only [cls] at hc <;> try (first | rfl | (exfalso; rcases hc with h | h <;> cases h; done))
 case call l=>
  obtain ⟨callee,args,ts⟩:=l
  cases callee with
  | builtin b=>cases b <;> first | rfl | (exfalso; rcases hc with h | h <;> cases h)
  | value _=>exfalso; rcases hc with h | h <;> cases h
  | invoke _ _=>exfalso; rcases hc with h | h <;> cases h
theorem knw (R:Rel P κ ln z c s env h n) {dst:Option Tmp} {ty:TypeId} {pos:String} {after:Array Edge} {g:Option (Nat×Bool)} {T:TypeId} {len:Nat} {parts:Array (Nat×Operand)} {Kf:TV sem->sem.Ans ρ} (hk:bsX P c s T len parts.toList Kf=some r) :
  ∃ tv v,(∀ h1 n1 (K:K3),K v h1 n1->aop P env h1 n1 ⟨dst,.buildSlice T len parts,ty,pos,after,g⟩ K)/\Kf tv=some r/\TVR P κ ln z s.n tv v:=by
 unfold bsX at hk
 split at hk
 ·exact kaa hk
 ·rename_i e he
  split at hk
  ·rename_i t zs ht hz
   split at hk
   ·rename_i hc
    obtain ⟨hc1,hc2,hc3⟩:=hc
    have hd:=kcQ ht
    split at hk
    ·rename_i hl
     split at hk
     ·rename_i ys hp
      obtain ⟨k0,xs,k1,k2,k3⟩:=kgl R hd parts.toList 0 len (by omega) hp
      rw [kaR] at k3
      have hlst:∀ l:List t.den,lstD (A:=sem) t l=l:=by
       intro l
       induction l with
       | nil=>rfl
       | cons a l ih=>simp only [lstD]; rw [ih]
      rw [hlst] at hk
      refine ⟨_,.sl xs,fun h1 n1 K hK=>?_,hk,.c _ _ _ hd (Snap.of_sl k3)⟩
      simp only [aop,he,hz,hc3]
      rw [k2 (List.replicate len zs) (by simp)]
      simp only [jdo,jbg]
      rw [hc3] at hc2
      exact ⟨hc1,hc2,.inr (.inl hK)⟩
     ·exact kaa hk
     ·exact kaa hk
    ·exact kaa hk
   ·exact kaa hk
  ·exact kaa hk
theorem kdB {Δ:List (FuncId×Ctr)} (hΔ:Goods P Δ) (R:Rel P κ ln z c s env h n) {dst:Option Tmp} {ty:TypeId} {pos:String} {after:Array Edge} {g:Option (Nat×Bool)} {l:Call} {f:Operand} (hc:l.callee = .value f) {Kf:TV sem->sem.Ans ρ} (hk:kgg c Δ s (tev c s f) (l.args.toList.map (tev c s)) Kf=some r) :
  ∃ tv v,(∀ h1 n1 (K:K3),(∀ q B,h q=some B->h1 q=some B)->K v h1 n1->aop P env h1 n1 ⟨dst,.call l,ty,pos,after,g⟩ K)/\Kf tv=some r/\TVR P κ ln z s.n tv v:=by
 have hf:=R.ev f
 have hargs:TVRs P κ ln z s.n (l.args.toList.map (tev c s)) (l.args.toList.map (ev env)):=by
  generalize l.args.toList=as
  induction as with
  | nil=>exact .nil
  | cons x as ih=>exact .cons _ _ _ _ (R.ev x) ih
 unfold kgg at hk
 split at hk
 ·rename_i gg caps he
  rw [he] at hf
  obtain ⟨as,hfa,hcaps⟩:=hf.fn_inv
  split at hk
  ·exact kaa hk
  ·rename_i C hC
   have hG:=hΔ.at hC
   split at hk
   ·exact kaa hk
   ·rename_i la ids hla
    obtain ⟨as',g1,g2,g3⟩:=kdr hΔ R _ _ _ (hargs.append hcaps) hla
    split at hk
    ·exact kaa hk
    ·rename_i a ha
     have hAR:=kfI _ _ _ _ g1 ha
     split at hk
     ·rename_i hcond
      simp only [jaa] at hk
      obtain ⟨y,hy,hk⟩:=hk
      refine ⟨_,_,fun h1 n1 K hh hK=>?_,hk,kiD C.rs y hG.1⟩
      by_cases hflat:C.rs.all Ty.flat=true
      ·exact keC hc hfa rfl (PC.lend1 (g2.mono fun q B hq=>hh q B (kcG R.zin q B hq)) (hG.2.1 a y hy _ hAR) (koi _ _ hflat) hK)
      ·rw [jbh] at hflat
       rw [hflat,jdm,jab,jcy,jbc] at hcond
       obtain ⟨rfl,hdy⟩:=hcond
       rw [kaR] at g2
       have hz0:=R.dy hdy
       exact keC hc hfa rfl (PC.eat (hE:=z) (h':=h1) [] (fun i B hi=>by rw [hz0] at hi; cases hi) (fun i B hi=>⟨rfl,hi⟩) g2 (hG.2.1 a y hy _ hAR) hK)
     ·exact kaa hk
 ·rename_i m x y F he
  rw [he] at hf
  split at hk
  ·rename_i hx
   split at hk
   ·exact kaa hk
   ·rename_i la ids hla
    obtain ⟨as',g1,g2,g3,g4,g5⟩:=kdZ R _ _ _ hargs hla
    split at hk
    ·exact kaa hk
    ·rename_i a ha
     split at hk
     ·rename_i hflat
      simp only [jaa] at hk
      obtain ⟨w,hw,hk⟩:=hk
      generalize hfe:ev env f=fa at hf
      cases hf with
      | cv _ _ _ _ _ hcv=>
       obtain ⟨gg,as,rfl,hfree,hul,hud,hyd,hpc⟩:=hcv
       have hAR:=kiL hud (kfI _ _ _ _ g1 ha)
       have hp:=hpc _ w hw
       rw [kik m (untup m x) x hx a hul,<-hAR] at hp
       refine ⟨_,_,fun h1 n1 K hh hK=>?_,hk,.free hyd⟩
       exact keC hc hfe rfl (PC.lend1 ((g2.append (SnapL.free hfree)).mono fun q B hq=>hh q B (kcG R.zin q B hq)) hp (kfk _ _ hflat) hK)
     ·exact kaa hk
  ·exact kaa hk
 ·exact kaa hk
theorem ksw {v:TV sem} {a:AV} {i:Nat} {N:Nat} (hv:TVR P κ ln z N v a) (ht:tid v=some i):∀ q,avId a=some q->κ i=some q\/(isRow v=true/\q∈kan (ln i)):=by
 intro q hq
 cases hv <;> simp only [tid,Option.some.injEq,reduceCtorEq] at ht <;> subst ht <;> simp only [avId,nilS,Option.some.injEq,reduceCtorEq] at hq <;> subst hq <;> first | (left; assumption) | (right; exact ⟨rfl,kax (by assumption)⟩)
theorem kqa {Δ:List (FuncId×Ctr)} (hΔ:Goods P Δ) (live:∀ id∈b1,∀ q,κ0 id=some q->∃ B,hs q=some B) (sub:∀ id∈b2,id∈b1) {Kf:TV sem->TS sem->sem.Ans ρ}
  (R:Rel P κ ln z c s env h n) (hG:GH κ0 b1 b2 hs h) (hκ:∀ id∈b1,id<s.n/\κ id = κ0 id) (hT:RecsOk P rd κ0 b1 b2 hs tr) (hk:stepX P c Δ wc rd b1 b2 j s o Kf=some r)
  (hn:∀ κ' ln' z' tv s' v h' n' tr',Ke c s.n κ ln κ' ln'->s.n<=s'.n->Rel P κ' ln' z' c s' env h' n'->TVR P κ' ln' z' s'.n tv v->Kf tv s'=some r->GH κ0 b1 b2 hs h'->(∀ id∈b1,id<s'.n/\κ' id = κ0 id)->RecsOk P rd κ0 b1 b2 hs tr'->next ⟨putE env o.dst v,h',n'⟩ tr') :
  stepD P wc rd o j env h n tr next:=by
 have rdr:∀ {κ':Nat->Option Nat} {ln':Nat->Nat} {z':AH} {s':TS sem} {tv:TV sem} {v:AV},Ke c s.n κ ln κ' ln'->s.n<=s'.n->isW wc j o=false->(∀ K:K3,K v h n->aop P env h n o K)->Rel P κ' ln' z' c s' env h n->TVR P κ' ln' z' s'.n tv v->Kf tv s'=some r->(∀ id∈b1,id<s'.n/\κ' id = κ0 id)->
   (wants rd j=true->∀ h1 n1 (K':K3),GH κ0 b1 b2 hs h1->K' v h1 n1->aop P env h1 n1 o K')->stepD P wc rd o j env h n tr next:=fun ke kn hw hv R' hv' hk' hκ' htr=>by
  refine ksQ _ hw hv (hn _ _ _ _ _ _ _ _ _ ke kn R' hv' hk' hG hκ' ?_)
  split
  ·rename_i hwj
   intro a ha
   rcases jat.1 ha with rfl | ha
   ·exact ⟨hG,hG,fun _=>htr hwj⟩
   ·exact hT a ha
  ·exact hT
 have full:∀ h1,GH κ0 b1 b2 hs h1->∀ q B,rsH κ h b2 q=some B->h1 q=some B:=fun h1 hG1=>hG.full hG1 (fun id hi=>(hκ id (sub id hi)).2) (fun id hi=>live id (sub id hi))
 have shape:∀ h1,GH κ0 b1 b2 hs h1->shp (rsH κ h b1) h1:=fun h1 hG1=>hG.shape hG1 (fun id hi=>(hκ id hi).2) live
 unfold stepX at hk
 split at hk
 ·
  rename_i hw
  split at hk
  ·rename_i hc
   simp only [jab,jbc] at hc
   obtain ⟨⟨⟨hc0,hc1⟩,hc2⟩,hc3⟩:=hc
   obtain ⟨tv,s',v,h',n',κ',ln',z',g1,g2,g3,g4,g6,g7,_⟩:=kbl hΔ R o hk
   have ha:=g1 (fun a b c=>a=v/\b=h'/\c=n') ⟨rfl,rfl,rfl⟩
   obtain ⟨f1,f2⟩:=kni hw hc0 ha
   have keep:∀ id q B,id∈b1->κ0 id=some q->hs q=some B->(id∈b2\/khp o=false)->h' q=h q:=fun id q B hi hq hB hor=>by
    have hlive:=jam.1 hc2 id hi
    obtain ⟨B1,hB1⟩:=jan.1 hlive
    have hkq:κ id=some q:=by rw [(hκ id hi).2]; exact hq
    refine f1 q (by have:=R.bnd id B1 q hB1 hkq; omega) fun x hx hav=>?_
    unfold okW at hc1
    rw [hx] at hc1
    simp only at hc1
    split at hc1
    ·rename_i i hti
     simp only [jab,jbc,jap] at hc1
     obtain ⟨⟨⟨l1,l2⟩,l3⟩,l4⟩:=hc1
     obtain ⟨B2,hB2⟩:=jan.1 l1
     have hki:Ow κ ln i B2 q:=by
      rcases ksw (R.ev x) hti q hav with h | ⟨h,h'⟩
      ·exact .inl h
      ·rw [h,hB2] at l4
       exact .inr ⟨by simpa using l4,h'⟩
     have:=R.owI hB1 hB2 (.inl hkq) hki
     subst this
     rcases hor with hor | hor
     ·rw [jbk.2 hor] at l2; cases l2
     ·rw [hor] at l3
      rcases l3 with l3 | l3
      ·cases l3
      ·rw [jbk.2 hi] at l3; cases l3
    ·generalize hte:tev c s x=tv at hc1
     have hxv:=R.ev x
     rw [hte] at hxv
     generalize ev env x=av at hxv hav
     cases hxv <;> first | (simp only [isSc,jal] at hc1; done) | cases hav
   have hG':GH κ0 b1 b2 hs h':=by
    refine ⟨fun id q B hi hq hB=>?_,fun id q B hi hq hB=>?_⟩
    ·obtain ⟨B1,e1,e2⟩:=hG.1 id q B hi hq hB
     by_cases hst:khp o=true
     ·obtain ⟨B2,e3,e4⟩:=f2 hst q B1 e1
      exact ⟨B2,e3,ABlk.shp_trans e2 e4⟩
     ·rw [keep id q B hi hq hB (.inr (by simpa using hst))]
      exact ⟨B1,e1,e2⟩
    ·rw [keep id q B (sub id hi) hq hB (.inl hi)]
     exact hG.2 id q B hi hq hB
   refine ksY v h' n' hw ha (hn _ _ _ _ _ _ _ _ _ g7 g6 g3 g4 g2 hG' (fun id hi=>⟨by have:=(hκ id hi).1; omega,by rw [(g7 id (hκ id hi).1).1]; exact (hκ id hi).2⟩) ?_)
   split
   ·intro a ha
    rcases jat.1 ha with rfl | ha
    ·exact ⟨hG,hG',fun e=>by rw [hc3] at e; cases e⟩
    ·exact hT a ha
   ·exact hT
  ·exact kaa hk
 ·rename_i hw
  rw [jbh] at hw
  obtain ⟨dst,op,ty,pos,after,g⟩:=o
  simp only at hk
  split at hk
  ·obtain ⟨tv,v,k1,k2,k3⟩:=knw (dst:=dst) (ty:=ty) (pos:=pos) (after:=after) (g:=g) R hk
   exact rdr .refl (jai _) hw (k1 h n) R k3 k2 hκ fun _ h1 n1 K' _ hK=>k1 h1 n1 K' hK
  ·rename_i f args ts
   split at hk
   ·rename_i hwj
    split at hk
    ·rename_i hse
     unfold seen at hse
     rw [jab,jab,jbc] at hse
     have R2:=R.rst hse.1.1 hse.1.2 hse.2
     obtain ⟨tv,v,k1,k2,k3⟩:=kdB (dst:=dst) (ty:=ty) (pos:=pos) (after:=after) (g:=g) (l:=⟨.value f,args,ts⟩) hΔ R2 rfl hk
     exact rdr .refl (jai _) hw (fun K hK=>k1 h n K (fun q B hq=>(kdD hq).2) hK) R k3 k2 hκ fun _ h1 n1 K' hG1 hK=>k1 h1 n1 K' (full h1 hG1) hK
    ·exact kaa hk
   ·rename_i hwj
    obtain ⟨tv,v,k1,k2,k3⟩:=kdB (dst:=dst) (ty:=ty) (pos:=pos) (after:=after) (g:=g) (l:=⟨.value f,args,ts⟩) hΔ R rfl hk
    exact rdr .refl (jai _) hw (fun K hK=>k1 h n K (fun q B hq=>hq) hK) R k3 k2 hκ fun e=>absurd e hwj
  ·split at hk
   ·rename_i hc0
    obtain ⟨tv,s',v,h',n',κ',ln',z',g1,g2,g3,g4,g6,g7,_⟩:=kbl hΔ R _ hk
    obtain ⟨v2,⟨rfl,rfl,rfl⟩,k2⟩:=koF hc0 (g1 (fun a b c=>a=v/\b=h'/\c=n') ⟨rfl,rfl,rfl⟩)
    exact rdr g7 g6 hw (fun K hK=>k2 _ _ K hK) g3 g4 g2 (fun id hi=>⟨by have:=(hκ id hi).1; omega,by rw [(g7 id (hκ id hi).1).1]; exact (hκ id hi).2⟩) fun _ h1 n1 K' _ hK=>k2 h1 n1 K' hK
   ·split at hk
    ·rename_i hc1
     split at hk
     ·rename_i hwj
      split at hk
      ·rename_i hse
       unfold seen at hse
       rw [jab,jab,jbc] at hse
       have R2:=R.rst hse.1.1 hse.1.2 hse.2
       obtain ⟨tv,s',v,h',n',κ',ln',z',g1,g2,g3,g4,g6,g7,g8⟩:=kbl hΔ R2 _ hk
       obtain ⟨rfl,rfl,rfl,rfl,rfl,rfl⟩:=g8 (kdt (.inl hc1))
       have tr1:∀ h1 n1 (K':K3),GH κ0 b1 b2 hs h1->K' v h1 n1->aop P env h1 n1 ⟨dst,op,ty,pos,after,g⟩ K':=fun h1 n1 K' hG1 hK=>
        kiG hc1 (shape h1 hG1) (fun v' hv'=>by obtain ⟨rfl,_,_⟩:=hv'; exact hK) (g1 (fun a b c=>a=v/\True/\True) ⟨rfl,trivial,trivial⟩)
       exact rdr .refl (jai _) hw (fun K hK=>tr1 _ _ K hG hK) R g4 g2 hκ fun _=>tr1
      ·exact kaa hk
     ·rename_i hwj
      obtain ⟨tv,s',v,h',n',κ',ln',z',g1,g2,g3,g4,g6,g7,g8⟩:=kbl hΔ R _ hk
      obtain ⟨rfl,rfl,rfl,rfl,rfl,rfl⟩:=g8 (kdt (.inl hc1))
      exact rdr .refl (jai _) hw g1 R g4 g2 hκ fun e=>absurd e hwj
    ·split at hk
     ·rename_i hc2
      split at hk
      ·rename_i hwj
       split at hk
       ·rename_i hse
        unfold seen at hse
        rw [jab,jab,jbc] at hse
        have R2:=R.rst hse.1.1 hse.1.2 hse.2
        obtain ⟨tv,s',v,h',n',κ',ln',z',g1,g2,g3,g4,g6,g7,g8⟩:=kbl hΔ R2 _ hk
        obtain ⟨rfl,rfl,rfl,rfl,rfl,rfl⟩:=g8 (kdt (.inr hc2))
        have tr1:∀ h1 n1 (K':K3),(∀ q B,rsH κ' h b2 q=some B->h1 q=some B)->K' v h1 n1->aop P env h1 n1 ⟨dst,op,ty,pos,after,g⟩ K':=fun h1 n1 K' hh hK=>
         kkz hc2 hh (fun v' hv'=>by obtain ⟨rfl,_,_⟩:=hv'; exact hK) (g1 (fun a b c=>a=v/\True/\True) ⟨rfl,trivial,trivial⟩)
        exact rdr .refl (jai _) hw (fun K hK=>tr1 _ _ K (fun q B hq=>(kdD hq).2) hK) R g4 g2 hκ fun _ h1 n1 K' hG1 hK=>tr1 h1 n1 K' (full h1 hG1) hK
       ·exact kaa hk
      ·rename_i hwj
       obtain ⟨tv,s',v,h',n',κ',ln',z',g1,g2,g3,g4,g6,g7,g8⟩:=kbl hΔ R _ hk
       obtain ⟨rfl,rfl,rfl,rfl,rfl,rfl⟩:=g8 (kdt (.inr hc2))
       exact rdr .refl (jai _) hw g1 R g4 g2 hκ fun e=>absurd e hwj
     ·exact kaa hk
end
section
variable {P:Program} {κ0:Nat->Option Nat} {c:Cx sem} {hs:AH}
variable {ρ:Ty} {r:ρ.den} {wc:List Nat} {rd:List (Nat×Nat)} {b1 b2:List Nat}
theorem kdg {Δ:List (FuncId×Ctr)} (hΔ:Goods P Δ) {ds:List (Option Tmp)} (hds:okD c ds=true) (live:∀ id∈b1,∀ q,κ0 id=some q->∃ B,hs q=some B) (sub:∀ id∈b2,id∈b1) {Kf:TS sem->sem.Ans ρ} {K:St->Prop}
  {N0:Nat} {κ1:Nat->Option Nat} {ln1:Nat->Nat} (hK:∀ κ ln z s' env' h' n',Ke c N0 κ1 ln1 κ ln->Rel P κ ln z c s' env' h' n'->Kf s'=some r->K ⟨env',h',n'⟩) :
  ∀ (l:List Oper) (i:Nat) {κ:Nat->Option Nat} {ln:Nat->Nat} {z:AH} {s:TS sem} {env:Env} {h:AH} {n:Nat} {tr:List Rec},Ke c N0 κ1 ln1 κ ln->N0<=s.n->(∀ o∈l,o.dst∈ds)->Rel P κ ln z c s env h n->GH κ0 b1 b2 hs h->(∀ id∈b1,id<s.n/\κ id = κ0 id)->RecsOk P rd κ0 b1 b2 hs tr->
   xopsD P c Δ wc ds rd b1 b2 l i s Kf=some r->aopsD P ds wc rd l i ⟨env,h,n⟩ tr K
 | [],i,κ,ln,z,s,env,h,n,tr,ke,kn,_,R,hG,hκ,hT,hk=>⟨hT.recheck rd fun x hx=>hx,hK _ _ _ _ _ _ _ ke R hk⟩
 | o::l,i,κ,ln,z,s,env,h,n,tr,ke,kn,hl,R,hG,hκ,hT,hk=>by
  have hl':∀ o∈l,o.dst∈ds:=fun o ho=>hl o (jba _ ho)
  have hod:=kmM hds (hl o (jdj ..))
  have one:∀ {κ:Nat->Option Nat} {ln:Nat->Nat} {z:AH} {s:TS sem} {env:Env},Ke c N0 κ1 ln1 κ ln->N0<=s.n->Rel P κ ln z c s env h n->(∀ id∈b1,id<s.n/\κ id = κ0 id)->(stepX P c Δ wc rd b1 b2 i s o fun v s'=>xopsD P c Δ wc ds rd b1 b2 l (i+1) (putT s' o.dst v) Kf)=some r->
    stepD P wc rd o i env h n tr fun s t=>aopsD P ds wc rd l (i+1) s t K:=fun ke kn R hκ hk=>by
   refine kqa hΔ live sub R hG hκ hT hk fun κ' ln' z' tv s' v h' n' tr' ke' kn' R' hv hk' hG' hκ' hT'=>?_
   exact kdg hΔ hds live sub hK l (i+1) (ke.trans ke' kn) (by rw [kbm]; omega) hl' (R'.putT hv o.dst hod) hG' (fun id hi=>by
    have:=hκ' id hi
    cases o.dst <;> exact this) hT' hk'
  have nx:∀ {κ:Nat->Option Nat} {s:TS sem} {d:Option Tmp} {v:TV sem},(∀ id∈b1,id<s.n/\κ id = κ0 id)->∀ id∈b1,id<(putT s d v).n/\κ id = κ0 id:=fun {κ s d v} hκ id hi=>by cases d <;> exact hκ id hi
  simp only [xopsD] at hk
  simp only [aopsD]
  cases hg:o.guard with
  | none=>
   rw [hg] at hk
   exact one ke kn R hκ hk
  | some jw=>
   obtain ⟨j,want⟩:=jw
   rw [hg] at hk
   simp only at hk ⊢
   cases hs:kav ds j with
   | none=>rw [hs] at hk; exact kaa hk
   | some d=>
    rw [hs] at hk
    simp only at hk ⊢
    have hde:=kkx hds hs
    have hv:=R.env d
    generalize htl:tlk c s d=tv at hv hk
    generalize hlk:lk env d=a at hv
    cases hv <;> first | exact kaa hk | skip
    ·
     exact kdg hΔ hds live sub hK l (i+1) ke (by rw [kbm]; exact kn) hl' (R.putT .ud o.dst hod) hG (nx hκ) hT hk
    ·
     rename_i t x hd hs2
     cases t <;> first | exact kaa hk | skip
     obtain rfl:=hs2.sc_inv
     have k1:∀ w:Bool,x=w->Rel P κ ln z c { s with env:=(d,.kb w)::s.env } ((d,.sc (.bool w))::env) h n:=fun w hw=>R.know (.kb w) hde
     dsimp only at hk
     cases want
     ·dsimp only at hk
      rcases kbp hk with ⟨hb,hk⟩ | ⟨hb,hk⟩
      ·refine ⟨fun e=>?_,fun _=>?_⟩
       ·exact absurd (hb.symm.trans e) (by decide)
       ·exact kdg hΔ hds live sub hK l (i+1) ke (by rw [kbm]; exact kn) hl' ((k1 true hb).putT .ud o.dst hod) hG (nx hκ) hT hk
      ·refine ⟨fun _=>?_,fun e=>?_⟩
       ·exact one ke (by exact kn) (k1 false hb) hκ hk
       ·exact absurd (hb.symm.trans e) (by decide)
     ·dsimp only at hk
      rcases kbp hk with ⟨hb,hk⟩ | ⟨hb,hk⟩
      ·refine ⟨fun _=>?_,fun e=>?_⟩
       ·exact one ke (by exact kn) (k1 true hb) hκ hk
       ·exact absurd (hb.symm.trans e) (by decide)
      ·refine ⟨fun e=>?_,fun _=>?_⟩
       ·exact absurd (hb.symm.trans e) (by decide)
       ·exact kdg hΔ hds live sub hK l (i+1) ke (by rw [kbm]; exact kn) hl' ((k1 false hb).putT .ud o.dst hod) hG (nx hκ) hT hk
    ·
     rename_i b
     dsimp only at hk
     have ag:Rel P κ ln z c s ((d,.sc (.bool b))::env) h n:=R.again fun x=>by
      show (if x=d then _ else lk env x)=_
      split
      ·rename_i e; rw [e,hlk]
      ·rfl
     split at hk
     ·rename_i hbw
      have hbw:=eq_of_beq hbw
      subst hbw
      refine ⟨fun _=>one ke (by exact kn) ag hκ hk,fun e=>?_⟩
      cases b <;> cases e
     ·rename_i hbw
      refine ⟨fun e=>by rw [e] at hbw; simp at hbw,fun e=>?_⟩
      rw [<-e]
      exact kdg hΔ hds live sub hK l (i+1) ke (by rw [kbm]; exact kn) hl' (ag.putT .ud o.dst hod) hG (nx hκ) hT hk
theorem BR.at {κ:Nat->Option Nat} {ln:Nat->Nat} {z h:AH} {N id q:Nat} {B:TB sem} (hb:BR P κ ln z h N id B) (hk:κ id=some q):∃ AB,h q=some AB:=by
 cases hb <;> simp_all
variable {N:Nat} {D:DX} {O:Nat->Prop} {Q:Exit->St->Prop}
theorem ksO {Δ:List (FuncId×Ctr)} (hΔ:Goods P Δ) {κ:Nat->Option Nat} {ln:Nat->Nat} {z:AH} {s:TS sem} {env:Env} {h:AH} {n:Nat} {Gd:St->Prop} {a:Option La} {ops:List Oper} (hds:okD c (ops.map (·.dst))=true) (R:Rel P κ ln z c s env h n) {Kf:TS sem->sem.Ans ρ}
  (hK:∀ κ' ln' z' s' env' h' n',Ke c s.n κ ln κ' ln'->Rel P κ' ln' z' c s' env' h' n'->Kf s'=some r->Gd ⟨env',h',n'⟩) (hk:drawX P c Δ a ops s Kf=some r) :
  ∃ E V A W H M,LF P ops ⟨env,h,n⟩ E V A W H M/\Gd ⟨E ops.length,H ops.length,M ops.length⟩/\P.follows .mixedOrders=true/\kaW ops=true:=by
 unfold drawX at hk
 split at hk
 ·rename_i hc
  simp only [jab] at hc
  obtain ⟨⟨⟨⟨hm,hd⟩,hw⟩,hb⟩,hb1⟩:=hc
  have live1:∀ i∈bL1 a,∃ B,thp c s i=some B:=fun i hi=>jan.1 (jam.1 hb1 i hi)
  have hL:aopsD P (ops.map (·.dst)) (wcOf ops) (rdOf (wcOf ops) ops) ops 0 ⟨env,h,n⟩ [] Gd:=
   kdg (κ0:=κ) (hs:=h) hΔ hds (fun i hi q hq=>by obtain ⟨B,hB⟩:=live1 i hi; exact (R.blk i B hB).at hq) (fun i hi=>by have:=jam.1 hb i hi; simpa using this) hK ops 0 .refl (jai _) (fun o ho=>jax.2 ⟨o,ho,rfl⟩) R GH.refl
    (fun i hi=>by obtain ⟨B,hB⟩:=live1 i hi; exact ⟨R.lt i B hB,rfl⟩) (fun a ha=>by cases ha) hk
  obtain ⟨E,V,A,H,M,L,hk⟩:=ksR hd hw hL
  exact ⟨E,V,A,_,H,M,L,hk,hm,hd⟩
 ·exact kaa hk
end
theorem kmm {α:Type} {f:α->α->Bool}:∀ (x y:List α),x.length=y.length->(∀ a∈x,∀ b,f a b=true->a=b)->((x.zip y).all fun p=>f p.1 p.2)=true->x=y
 | [],[],_,_,_=>rfl
 | [],_::_,h,_,_=>by simp at h
 | _::_,[],h,_,_=>by simp at h
 | a::x,b::y,h,hf,ha=>by
  simp only [List.zip_cons_cons,jdq,jab] at ha
  rw [hf a (by simp) b ha.1,kmm x y (by simpa using h) (fun a h=>hf a (jba _ h)) ha.2]
theorem Ty.beq_eq:∀ (t:Ty) (x y:t.den),t.beq x y=true->x=y
 | .i _,x,y,h=>by simpa [Ty.beq] using h
 | .b,x,y,h=>by simpa [Ty.beq] using h
 | .s,x,y,h=>by simpa [Ty.beq] using h
 | .un,_,_,_=>rfl
 | .nt,_,_,h=>by simp [Ty.beq] at h
 | .pr u v,x,y,h=>by
  simp only [Ty.beq,jab] at h
  exact Prod.ext (Ty.beq_eq u _ _ h.1) (Ty.beq_eq v _ _ h.2)
 | .w a,x,y,h=>Ty.beq_eq a x y h
 | .pt a,x,y,h=>Ty.beq_eq a x y h
 | .sl a,x,y,h=>by
  simp only [Ty.beq,jab,jaj] at h
  exact kmm (α:=a.den) x y h.1 (fun p _ q=>Ty.beq_eq a p q) h.2
 | .op a,x,y,h=>by
  simp only [Ty.beq] at h
  cases x with
  | none=>cases y with
   | none=>rfl
   | some y=>cases h
  | some x=>cases y with
   | none=>cases h
   | some y=>rw [Ty.beq_eq a x y h]
 | .ar n a,x,y,h=>by
  simp only [Ty.beq] at h
  have:=kmm (α:=a.den) x.l y.l (by rw [x.h,y.h]) (fun p _ q=>Ty.beq_eq a p q) h
  cases x; cases y; simp only at this; subst this; rfl
 | .sm _ _,_,_,h=>by simp [Ty.beq] at h
 | .fn _ _ _,_,_,h=>by simp [Ty.beq] at h
theorem ktq {t:Ty} {xs ys ys2:List t.den} {e:t.den} (h:gpre t (some xs) ys e=some ys2):xs[ys.length]?=some e/\ys2=ys++[e]:=by
 unfold gpre at h
 simp only at h
 split at h
 ·rename_i x hx
  split at h
  ·rename_i hb
   cases h
   rw [Ty.beq_eq t x e hb] at hx
   exact ⟨hx,rfl⟩
  ·cases h
 ·cases h
section
variable {P:Program} {κ:Nat->Option Nat} {ln:Nat->Nat} {z:AH} {c:Cx sem} {s:TS sem} {env:Env} {h:AH} {n N:Nat} {ρ:Ty}
mutual
theorem klR:∀ {v:TV sem} {a:AV},TVR P κ ln ahN N v a->v.solid=true->Free a
 | _,_,.c t x a hd hs,_=>hs.freeN
 | _,_,.kb b,_=>.sc _
 | _,_,.sc v h1,_=>.sc _
 | _,_,.fq t x o a hd hs,_=>hs.freeN
 | _,_,.cv n x y F a hc,_=>by
  obtain ⟨g,as,rfl,hf,_⟩:=hc
  exact (kes g as).2 hf
 | _,_,.fn g vs as hs,hp=>(kes g as).2 (kfp hs (by simpa [TV.solid] using hp))
 | _,_,.tp vs as hs,hp=>(kqP as).2 (kfp hs (by simpa [TV.solid] using hp))
 | _,_,.ag vs as hs h1,hp=>(kjD as).2 (kfp hs (by simpa [TV.solid] using hp))
 | _,_,.un _,hp | _,_,.ud,hp | _,_,.gs _ _,hp | _,_,.yl ..,hp | _,_,.kp ..,hp | _,_,.ptr ..,hp | _,_,.adr ..,hp | _,_,.aa ..,hp | _,_,.mw0 ..,hp | _,_,.mw ..,hp | _,_,.ms0 ..,hp | _,_,.ms ..,hp | _,_,.mp ..,hp | _,_,.fw0 ..,hp | _,_,.fw ..,hp | _,_,.fr0 ..,hp | _,_,.fr ..,hp | _,_,.fo ..,hp | _,_,.fa ..,hp=>by simp [TV.solid] at hp
theorem kfp:∀ {vs:List (TV sem)} {as:List AV},TVRs P κ ln ahN N vs as->TV.solidL vs=true->FreeL as
 | _,_,.nil,_=>FreeL.nil
 | _,_,.cons v a vs as hv hs,hp=>by
  simp only [TV.solidL,jab] at hp
  exact FreeL.cons (klR hv hp.1) (kfp hs hp.2)
end
def stays (v:TV sem):Bool:=match v with | .ud=>true | .yl _=>true | v=>v.solid
theorem klF {v:TV sem} (hp:v.pure=true) (hs:¬ stays v=true):v = .un:=by
 cases v with
 | un=>rfl
 | ud=>exact absurd rfl hs
 | yl id=>exact absurd rfl hs
 | _=>exact absurd hp hs
theorem krd {v:TV sem} {a:AV} (hv:TVR P κ ln ahN N v a) (hs:stays v=true):Free a:=by
 unfold stays at hs
 split at hs
 ·cases hv; exact .ud
 ·cases hv; exact .sc _
 ·exact klR hv hs
theorem kfq {α β:Type} (f:α->β):∀ (l:List (Nat×α)) (x:Nat),alk (l.map fun p=>(p.1,f p.2)) x=(alk l x).map f
 | [],x=>rfl
 | (k,v)::l,x=>by
  simp only [jau,alk]
  split
  ·rfl
  ·exact kfq f l x
theorem kou:∀ (env:Env) (x:Nat),(env.map (·.1)).contains x=false->lk env x = .un
 | [],x,_=>rfl
 | (k,v)::env,x,h=>by
  simp only [jau,List.contains_cons,jbt] at h
  simp only [lk]
  rw [if_neg (by simpa using h.1)]
  exact kou env x h.2
theorem koP {G:IterG} {Δ:List (FuncId×Ctr)} (hI:∀ nm ts F,(alk Δ IM).bind (fun C=>C.its.head?)=some ⟨nm,[.nt],ts,F⟩->∃ xs,F (0:Nat)=some xs/\G.xs=xs.map (avsL ts)) (W:CxWf c) (R:Rel P κ ln z c s env h n) (hκ:κ 0=some G.l)
  {y:Oper} (hdst:∀ d,y.dst=some d->alk c.e0 d=none) {ds:List (Option Tmp)} {l2:List Oper} {Qn:St->Prop} {Kf:TS sem->Option Unit} {K:TS sem->sem.Ans ρ} {w:ρ.den} (hk:klG (A:=sem) c Δ s y Kf K=some w)
  (hT:∀ s2 env2,Rel P κ ln ahN c s2 env2 ah0 n->s2.n=s.n->K s2=some w->aops P ds l2 ⟨env2,ah0,n⟩ Qn)
  (hF:∀ s2 env2 w0,Rel P κ ln ahN c s2 env2 ah0 n->s2.n=s.n->Kf s2=some w0->aops P ds l2 ⟨env2,ah0,n⟩ Qn):YieldK P G ds y l2 Qn ⟨env,h,n⟩:=by
 unfold klG at hk
 split at hk
 rotate_left
 ·exact kaa hk
 rename_i cl nm ts F hop hIM
 obtain ⟨xs,hF0,hGx⟩:=hI nm ts F hIM
 split at hk
 rotate_left
 ·exact kaa hk
 rename_i f hcl
 split at hk
 rotate_left
 ·exact kaa hk
 rename_i id t ys hf hgs
 split at hk
 rotate_left
 ·exact kaa hk
 rename_i ys' l ids hys hl
 split at hk
 ·exact kaa hk
 rename_i hcond
 simp only [jap,jbc,not_or,jbh,Bool.not_eq_false',bne_iff_ne,ne_eq,Decidable.not_not,beq_iff_eq,Bool.not_eq_false] at hcond
 obtain ⟨⟨⟨⟨⟨⟨hid,hdy⟩,hg⟩,he0⟩,hts⟩,hgd⟩,hds⟩:=hcond
 subst hid
 split at hk
 rotate_left
 ·exact kaa hk
 rename_i e he
 obtain ⟨ys2,hpre,hk⟩:=jaa.1 hk
 obtain ⟨w0,hw0,hk⟩:=jaa.1 hk
 rw [hF0] at hpre
 obtain ⟨hx,rfl⟩:=ktq hpre
 obtain ⟨ee,rfl⟩:=kai hys
 cases ee
 have hz0:z=ahN:=R.dy (by simpa using hdy)
 subst hz0
 have hgn:y.guard=none:=by simpa using hgd
 have hfe:=R.ev f
 rw [hf] at hfe
 have hfe2:ev env f = .sc (.func (.yield G.l) #[] #[]):=by
  generalize ev env f=a at hfe
  cases hfe with
  | yl _ q hN hq=>rw [hκ] at hq; cases hq; rfl
 have htG:tlk c s GS = .gs (tup ts) ys:=by unfold tlk; rw [hgs]
 have hGe:=R.env GS
 rw [htG] at hGe
 have hGe2:lk env GS = .gs (ys.map (tup ts).enc):=by
  generalize lk env GS=a at hGe
  cases hGe; rfl
 have hargs:TVRs P κ ln ahN s.n (cl.args.toList.map (tev c s)) (cl.args.toList.map (ev env)):=by
  generalize cl.args.toList=xs
  induction xs with
  | nil=>exact .nil
  | cons x xs ih=>exact .cons _ _ _ _ (R.ev x) ih
 obtain ⟨as',g1,g2,_⟩:=kdZ R _ _ _ hargs hl
 have has:as'=avsL ts e:=kiL hts (kfI ts l as' e g1 he)
 subst has
 let g:Nat->AV:=fun k=>if stays (tlk c s k)=true then lk env k else .un
 let E:Env:=(env.map (·.1)).map fun k=>(k,g k)
 have hE:∀ x,lk E x=if stays (tlk c s x)=true then lk env x else .un:=fun x=>by
  show lk ((env.map (·.1)).map fun k=>(k,g k)) x=_
  rw [klo]
  split
  ·rfl
  ·rename_i hc
   rw [kou env x (by simpa using hc)]; simp
 have rel:∀ (b:Bool) (gt:TV sem) (ga:AV),TVR P κ ln ahN s.n gt ga->Rel P κ ln ahN c (yTS s y.dst b gt) (putE ((GS,ga)::E) y.dst (.sc (.bool b))) ah0 n:=fun b gt ga hga=>by
  have hth:∀ id,thp c (yTS s y.dst b gt) id=none:=fun id=>by
   unfold thp
   have:c.g=[]:=by simpa using hg
   rw [this]; rfl
  have hrest:∀ x,x≠GS->TVR P κ ln ahN s.n (match alk (yEnv s) x with | some v=>v | none=>(alk c.e0 x).getD .un) (lk E x):=fun x hx=>by
   have hal:alk (yEnv s) x=(alk s.env x).map fun v=>if v.pure then v else .un:=kfq (fun v:TV sem=>if v.pure then v else .un) s.env x
   rw [hal,hE]
   have hRx:=R.env x
   unfold tlk at hRx ⊢
   cases hsx:alk s.env x with
   | some v=>
    rw [hsx] at hRx
    simp only [jcl]
    simp only at hRx
    by_cases hp:v.pure=true
    ·rw [if_pos hp]
     by_cases hst:stays v=true
     ·rw [if_pos hst]; exact hRx
     ·have:=klF hp hst
      subst this; exact .un _
    ·rw [if_neg hp]; exact .un _
   | none=>
    rw [hsx] at hRx
    simp only [Option.map_none]
    simp only at hRx
    cases hcx:alk c.e0 x with
    | none=>simp only [Option.getD_none]; exact .un _
    | some v=>
     rw [hcx] at hRx
     simp only [jca] at hRx ⊢
     have hm:=jam.1 he0 _ (kau hcx)
     by_cases hst:stays v=true
     ·rw [if_pos hst]; exact hRx
     ·have:v = .un:=by
       simp only [jap,jab] at hm
       rcases hm with hp | ⟨_,hp⟩
       ·exact klF hp hst
       ·cases v <;> first | (exact absurd rfl hst) | (simp at hp)
      subst this; exact .un _
  refine ⟨fun x=>?_,fun id B hB=>(by rw [hth] at hB; cases hB),fun id B hB=>(by rw [hth] at hB; cases hB),fun i j B B' q hi=>(by rw [hth] at hi; cases hi),fun q B hq=>(by cases hq),fun id B q hB=>(by rw [hth] at hB; cases hB),fun id B q hB=>(by rw [hth] at hB; cases hB),fun q hq=>rfl,fun x v hx=>?_,fun id b hb=>(by cases hb),fun _=>rfl,fun q k T es hq=>(by cases hq),fun id B hB=>(by rw [hth] at hB; cases hB)⟩
  ·show TVR P κ ln ahN s.n _ _
   cases hd:y.dst with
   | none=>
    have h1:tlk c (yTS s none b gt) x=if x=GS then gt else (match alk (yEnv s) x with | some v=>v | none=>(alk c.e0 x).getD .un):=by
     unfold tlk yTS
     simp only [jbg,alk]
     by_cases hx:x=GS
     ·rw [if_pos hx,if_pos hx]
     ·rw [if_neg hx,if_neg hx]; cases alk (yEnv s) x <;> rfl
    rw [h1]
    show TVR P κ ln ahN s.n _ (lk ((GS,ga)::E) x)
    simp only [lk]
    by_cases hx:x=GS
    ·rw [if_pos hx,if_pos hx]; exact hga
    ·rw [if_neg hx,if_neg hx]; exact hrest x hx
   | some d=>
    have h1:tlk c (yTS s (some d) b gt) x=if x=d then .kb b else if x=GS then gt else (match alk (yEnv s) x with | some v=>v | none=>(alk c.e0 x).getD .un):=by
     unfold tlk yTS
     simp only [jdg,jbg,alk]
     by_cases hxd:x=d
     ·rw [if_pos hxd,if_pos hxd]
     ·rw [if_neg hxd,if_neg hxd]
      by_cases hx:x=GS
      ·rw [if_pos hx,if_pos hx]
      ·rw [if_neg hx,if_neg hx]; cases alk (yEnv s) x <;> rfl
    rw [h1]
    show TVR P κ ln ahN s.n _ (lk ((d,.sc (.bool b))::(GS,ga)::E) x)
    simp only [lk]
    by_cases hxd:x=d
    ·rw [if_pos hxd,if_pos hxd]; exact .kb b
    ·rw [if_neg hxd,if_neg hxd]
     by_cases hx:x=GS
     ·rw [if_pos hx,if_pos hx]; exact hga
     ·rw [if_neg hx,if_neg hx]; exact hrest x hx
  ·have hkey:y.dst=some x\/x=GS\/∃ v,alk s.env x=some v:=by
    unfold yTS at hx
    simp only at hx
    cases hd:y.dst with
    | none=>
     rw [hd] at hx
     simp only [jbg,alk] at hx
     split at hx
     ·rename_i e; exact .inr (.inl e)
     ·rw [show alk (yEnv s) x=(alk s.env x).map fun v=>if v.pure then v else .un from kfq (fun v:TV sem=>if v.pure then v else .un) s.env x] at hx
      obtain ⟨v',hv',_⟩:=jac.1 hx
      exact .inr (.inr ⟨v',hv'⟩)
    | some d=>
     rw [hd] at hx
     simp only [jdg,jbg,alk] at hx
     split at hx
     ·rename_i e; exact .inl (by rw [e])
     ·split at hx
      ·rename_i e; exact .inr (.inl e)
      ·rw [show alk (yEnv s) x=(alk s.env x).map fun v=>if v.pure then v else .un from kfq (fun v:TV sem=>if v.pure then v else .un) s.env x] at hx
       obtain ⟨v',hv',_⟩:=jac.1 hx
       exact .inr (.inr ⟨v',hv'⟩)
   rcases hkey with hd | rfl | ⟨v',hv'⟩
   ·exact hdst x hd
   ·exact R.e0 _ _ hgs
   ·exact R.e0 x v' hv'
 refine ⟨.inl hgn,cl,f,_,avsL ts e,[avsL ts e],ys.map (tup ts).enc,hz (ows κ ln c s) h ahN ids,E,[(tup ts).enc e],hop,hcl,.yield,hGe2,fun j hj=>?_,kcG R.zin,(show SnapV _ (ev env f) _ by rw [hfe2]; exact Snap.V (.free _ (.sc _))),g2,fun x hx=>?_,rfl,?_,?_⟩
 ·obtain rfl:j=0:=by simpa using hj
  rw [hGx,jbb,jav,Nat.add_zero,hx]; rfl
 ·rw [hE]
  by_cases hst:stays (tlk c s x)=true
  ·rw [if_pos hst]; exact .inr ⟨rfl,krd (R.env x) hst⟩
  ·rw [if_neg hst]; exact .inl rfl
 ·exact hT _ _ (rel true _ _ (by rw [show ys.map (tup ts).enc++[(tup ts).enc e]=(ys++[e]).map (tup ts).enc by simp]; exact .gs _ _)) rfl hk
 ·exact hF _ _ w0 (rel false _ _ .ud) rfl hw0
end
section
variable {P:Program} {κ κ':Nat->Option Nat} {ln ln':Nat->Nat} {z z':AH} {c:Cx sem} {s:TS sem} {env:Env} {h h':AH} {n n':Nat}
variable {ρ:Ty} {r:ρ.den} {o:Oper} {W:Nat->Bool} {anc:Nat->List Nat} {late:Nat->Bool} {j:Nat} {next:St->List Pn->Prop}
def DomF (κ:Nat->Option Nat) (N:Nat) (F:List Nat) (hp:AH):Prop:=∀ q B,hp q=some B->∃ id∈F,id<N/\κ id=some q
structure PnOk (κ:Nat->Option Nat) (N:Nat) (p:Pn) (t:Nat×Nat×List Nat):Prop where
 j:p.j=t.1
 k0:t.2.1=0->∀ h1,p.ok h1
 k1:t.2.1=1->∃ hp,(∀ h1,p.ok h1↔shp hp h1)/\DomF κ N t.2.2 hp
 k2:t.2.1=2->∃ hp:AH,(∀ h1:AH,p.ok h1↔∀ q B,hp q=some B->h1 q=some B)/\DomF κ N t.2.2 hp
def PdR (κ:Nat->Option Nat) (N:Nat) (ps:List Pn) (pd:List (Nat×Nat×List Nat)):Prop:=∀ p∈ps,∃ t∈pd,PnOk κ N p t
theorem DomF.mono {N N':Nat} {F:List Nat} {hp:AH} (h:DomF κ N F hp) (hκ:∀ id,id<N->κ' id = κ id) (hN:N<=N'):DomF κ' N' F hp:=fun q B hq=>by
 obtain ⟨id,h1,h2,h3⟩:=h q B hq
 exact ⟨id,h1,by omega,by rw [hκ id h2]; exact h3⟩
theorem PdR.mono {N N':Nat} {ps:List Pn} {pd:List (Nat×Nat×List Nat)} (h:PdR κ N ps pd) (hκ:∀ id,id<N->κ' id = κ id) (hN:N<=N'):PdR κ' N' ps pd:=fun p hp=>by
 obtain ⟨t,ht,g⟩:=h p hp
 exact ⟨t,ht,g.j,g.k0,fun e=>(g.k1 e).imp fun hp g=>⟨g.1,g.2.mono hκ hN⟩,fun e=>(g.k2 e).imp fun hp g=>⟨g.1,g.2.mono hκ hN⟩⟩
theorem PdR.cons {N:Nat} {ps:List Pn} {pd:List (Nat×Nat×List Nat)} (h:PdR κ N ps pd) {p:Pn} {t:Nat×Nat×List Nat} (g:PnOk κ N p t):PdR κ N (p::ps) (t::pd):=fun q hq=>by
 rcases jat.1 hq with rfl | hq
 ·exact ⟨t,by simp,g⟩
 ·obtain ⟨t,ht,g⟩:=h q hq
  exact ⟨t,jba _ ht,g⟩
theorem kqX (R:Rel P κ ln z c s env h n) {ps:List Pn} {pd:List (Nat×Nat×List Nat)} (hp:PdR κ s.n ps pd) {al:List Nat} {st:Bool} {T:List Nat} (hk:pdOk c s al st T pd=true)
  (hf:∀ q,q<n->h' q=h q\/∃ id∈T,(∃ B,thp c s id=some B)/\q∈ows κ ln c s id) (hst:st=true->shp h h'):∀ p∈ps,p.j∈al\/(p.ok h->p.ok h'):=by
 intro p hpm
 obtain ⟨t,ht,g⟩:=hp p hpm
 have hc:=jam.1 hk t ht
 simp only [jap,beq_iff_eq,jab,jam,jbk,jbc] at hc
 rcases hc with (hc | hc) | ⟨hkd,hF⟩
 ·exact .inl (by rw [g.j]; exact hc)
 ·exact .inr fun _=>g.k0 hc h'
 ·right
  intro hok
  have same:∀ id q B,id∈t.2.2->T.contains id=false->κ id=some q->h q=some B->h' q=h q:=fun id q B hid hT hκ hq=>by
   have hqn:q<n:=by
    rcases jdh q n with hlt | hge
    ·exact hlt
    ·rw [R.hn q hge] at hq; cases hq
   rcases hf q hqn with e | ⟨id',h1,⟨B',h2⟩,h3⟩
   ·exact e
   ·obtain ⟨B1,hB1⟩:=jan.1 (hF id hid).1
    have e:=R.owI hB1 h2 (.inl hκ) (kca h2 h3)
    subst e
    rw [jbk.2 h1] at hT; cases hT
  rcases hkd with hkd | hkd
  ·obtain ⟨hp,g1,g2⟩:=g.k1 hkd
   rw [g1] at hok ⊢
   intro q B hq
   obtain ⟨B',e1,e2⟩:=hok q B hq
   obtain ⟨id,d1,d2,d3⟩:=g2 q B hq
   rcases (hF id d1).2 with hT | hT
   ·exact ⟨B',by rw [same id q B' d1 hT d3 e1]; exact e1,e2⟩
   ·obtain ⟨B2,e3,e4⟩:=hst hT.1 q B' e1
    exact ⟨B2,e3,ABlk.shp_trans e2 e4⟩
  ·obtain ⟨hp,g1,g2⟩:=g.k2 hkd
   rw [g1] at hok ⊢
   intro q B hq
   obtain ⟨id,d1,d2,d3⟩:=g2 q B hq
   rcases (hF id d1).2 with hT | hT
   ·rw [same id q B d1 hT d3 (hok q B hq)]; exact hok q B hq
   ·rw [hkd] at hT; exact absurd hT.2 (by decide)
theorem kof {Δ:List (FuncId×Ctr)} (hΔ:Goods P Δ) {wc:List Nat} {Kf:TV sem->TS sem->List (Nat×Nat×List Nat)->sem.Ans ρ} {ps:List Pn} {pd:List (Nat×Nat×List Nat)}
  (R:Rel P κ ln z c s env h n) (hpd:PdR κ s.n ps pd) (hW:W j=isW wc j o) (hk:khB P c Δ W anc late j s o pd Kf=some r)
  (hn:∀ κ' ln' z' tv s' v h' n' ps' pd',Ke c s.n κ ln κ' ln'->s.n<=s'.n->Rel P κ' ln' z' c s' env h' n'->TVR P κ' ln' z' s'.n tv v->Kf tv s' pd'=some r->PdR κ' s'.n ps' pd'->next ⟨putE env o.dst v,h',n'⟩ ps') :
  stepT P W anc o j env h n ps next:=by
 unfold khB at hk
 unfold stepT
 cases hw:W j with
 | true=>
  rw [hw] at hk hW
  rw [if_pos rfl]
  obtain ⟨d,op,ty,pos,after,g⟩:=o
  simp only at hk
  split at hk
  ·
   rename_i f args ts
   split at hk
   ·rename_i M as hu
    unfold useM at hu
    simp only at hu
    split at hu
    ·rename_i gg caps hfe
     split at hu
     ·rename_i C hC
      obtain ⟨M',hM,he⟩:=jac.1 hu
      cases he
      have hG:=(hΔ.at hC).2.2.1 M (kgX hM)
      have hargs:TVRs P κ ln z s.n (args.toList.map (tev c s)) (args.toList.map (ev env)):=by
       generalize args.toList=xs
       induction xs with
       | nil=>exact .nil
       | cons x xs ih=>exact .cons _ _ _ _ (R.ev x) ih
      have hff:=R.ev f
      rw [hfe] at hff
      obtain ⟨as',hfa,hcaps⟩:=hff.fn_inv
      refine keC (f:=f) rfl hfa rfl (kgI hΔ hG.1 hG.2 R (hargs.append hcaps) hk fun tv s' v h' n' κ' ln' h1 h2 h3 h4 h5 h6=>?_)
      split at h1
      ·rename_i hch
       exact ⟨kqX R hpd hch h6 (fun e=>by cases e),hn _ _ _ _ _ _ _ _ _ _ h2 h3 h4 h5 h1 (hpd.mono (fun id hi=>(h2 id hi).1) h3)⟩
      ·exact kaa h1
     ·cases hu
    ·cases hu
   ·split at hk
    ·exact kma hk
    ·obtain ⟨tv,v,k1,k2,k3⟩:=kdB (dst:=d) (ty:=ty) (pos:=pos) (after:=after) (g:=g) (l:=⟨.value f,args,ts⟩) hΔ R rfl hk
     exact k1 h n _ (fun q B hq=>hq) ⟨fun p _=>.inr id,hn _ _ _ _ _ _ _ _ _ _ .refl (jai _) R k3 k2 hpd⟩
  ·split at hk
   ·exact kaa hk
   ·rename_i hcl
    split at hk
    ·rename_i T hT
     split at hk
     ·rename_i hch
      obtain ⟨tv,s',v,h',n',κ',ln',z',g1,g2,g3,g4,g6,g7,_⟩:=kbl hΔ R _ hk
      have ha:=g1 (fun a b c=>a=v/\b=h'/\c=n') ⟨rfl,rfl,rfl⟩
      obtain ⟨f1,f2⟩:=kni hW.symm hcl ha
      refine g1 _ ⟨kqX R hpd hch (fun q hq=>?_) f2,hn _ _ _ _ _ _ _ _ _ _ g7 g6 g3 g4 g2 (hpd.mono (fun id hi=>(g7 id hi).1) g6)⟩
      unfold tgtT at hT
      split at hT
      ·rename_i hno
       exact .inl (f1 q (by omega) fun x hx=>by rw [hno] at hx; cases hx)
      ·rename_i x hx
       by_cases hav:avId (ev env x)=some q
       ·split at hT
        ·rename_i i hti
         split at hT
         ·rename_i hc
          cases hT
          simp only [jab,jap,jbc] at hc
          obtain ⟨B,hB⟩:=jan.1 hc.1
          refine .inr ⟨i,by simp,⟨B,hB⟩,?_⟩
          rcases ksw (R.ev x) hti q hav with h1 | ⟨h1,h2⟩
          ·exact ows_k h1
          ·rw [h1,hB] at hc
           exact ows_r hB (by simpa using hc.2) h2
         ·cases hT
        ·split at hT
         ·rename_i hsc
          have hxv:=R.ev x
          generalize tev c s x=tv at hxv hsc
          generalize ev env x=av at hxv hav
          cases hxv <;> first | (simp only [isSc,jal] at hsc; done) | cases hav
         ·cases hT
       ·exact .inl (f1 q (by omega) fun x' hx'=>by rw [hx] at hx'; cases hx'; exact hav)
     ·exact kaa hk
    ·exact kaa hk
 | false=>
  rw [hw] at hk hW
  rw [if_neg (by decide)]
  have rdr:∀ {κ':Nat->Option Nat} {ln':Nat->Nat} {z':AH} {s':TS sem} {tv:TV sem} {v:AV} (ok:AH->Prop) (kind:Nat) (F:List Nat),ok h->(∀ h1 n1 (K':K3),ok h1->K' v h1 n1->aop P env h1 n1 o K')->Ke c s.n κ ln κ' ln'->s.n<=s'.n->Rel P κ' ln' z' c s' env h n->TVR P κ' ln' z' s'.n tv v->
    Kf tv s' ((j,kind,F)::pd)=some r->(kind=0->∀ h1,ok h1)->(kind=1->∃ hp,(∀ h1,ok h1↔shp hp h1)/\DomF κ s.n F hp)->(kind=2->∃ hp:AH,(∀ h1:AH,ok h1↔∀ q B,hp q=some B->h1 q=some B)/\DomF κ s.n F hp)->
    ∃ p:Pn,p.j=j/\p.o=o/\p.env=env/\p.ok h/\p.fact P/\next ⟨putE env o.dst p.v,h,n⟩ (p::ps):=fun {κ' ln' z' s' tv v} ok kind F h1 h2 h3 h4 h5 h6 h7 h8 h9 h10=>
   ⟨⟨j,o,env,v,ok⟩,rfl,rfl,rfl,h1,h2,hn _ _ _ _ _ _ _ _ _ _ h3 h4 h5 h6 h7 ((hpd.mono (fun id hi=>(h3 id hi).1) h4).cons ⟨rfl,h8,fun e=>(h9 e).imp fun hp g=>⟨g.1,g.2.mono (fun id hi=>(h3 id hi).1) h4⟩,fun e=>(h10 e).imp fun hp g=>⟨g.1,g.2.mono (fun id hi=>(h3 id hi).1) h4⟩⟩)⟩
  have dom:DomF κ s.n (footX c s o) (rsH κ h (footX c s o)):=fun q B hq=>by
   obtain ⟨⟨id,h1,h2⟩,_⟩:=kdD hq
   have h3:=(jeh.1 (show id∈(_:List Nat).filter _ from h1)).2
   obtain ⟨B1,hB1⟩:=jan.1 h3
   exact ⟨id,h1,R.lt id B1 hB1,h2⟩
  obtain ⟨d,op,ty,pos,after,g⟩:=o
  simp only at hk
  split at hk
  ·obtain ⟨tv,v,k1,k2,k3⟩:=knw (dst:=d) (ty:=ty) (pos:=pos) (after:=after) (g:=g) R hk
   exact rdr (fun _=>True) 0 [] trivial (fun h1 n1 K' _ hK=>k1 h1 n1 K' hK) .refl (jai _) R k3 k2 (fun _ _=>trivial) (fun e=>by cases e) (fun e=>by cases e)
  ·rename_i f args ts
   split at hk
   ·split at hk
    ·rename_i hse
     unfold seen at hse
     rw [jab,jab,jbc] at hse
     have R2:=R.rst hse.1.1 hse.1.2 hse.2
     obtain ⟨tv,v,k1,k2,k3⟩:=kdB (dst:=d) (ty:=ty) (pos:=pos) (after:=after) (g:=g) (l:=⟨.value f,args,ts⟩) hΔ R2 rfl hk
     exact rdr (fun h1=>∀ q B,rsH κ h (footX c s _) q=some B->h1 q=some B) 2 _ (fun q B hq=>(kdD hq).2) (fun h1 n1 K' hh hK=>k1 h1 n1 K' hh hK) .refl (jai _) R k3 k2 (fun e=>by cases e) (fun e=>by cases e) (fun _=>⟨_,fun _=>Iff.rfl,dom⟩)
    ·exact kaa hk
   ·obtain ⟨tv,v,k1,k2,k3⟩:=kdB (dst:=d) (ty:=ty) (pos:=pos) (after:=after) (g:=g) (l:=⟨.value f,args,ts⟩) hΔ R rfl hk
    exact rdr (fun h1=>∀ q B,h q=some B->h1 q=some B) 3 [] (fun q B hq=>hq) (fun h1 n1 K' hh hK=>k1 h1 n1 K' hh hK) .refl (jai _) R k3 k2 (fun e=>by cases e) (fun e=>by cases e) (fun e=>by cases e)
  ·split at hk
   ·rename_i hc0
    obtain ⟨tv,s',v,h',n',κ',ln',z',g1,g2,g3,g4,g6,g7,_⟩:=kbl hΔ R _ hk
    obtain ⟨v2,⟨rfl,rfl,rfl⟩,k2⟩:=koF hc0 (g1 (fun a b c=>a=v/\b=h'/\c=n') ⟨rfl,rfl,rfl⟩)
    exact rdr (fun _=>True) 0 [] trivial (fun h1 n1 K' _ hK=>k2 h1 n1 K' hK) g7 g6 g3 g4 g2 (fun _ _=>trivial) (fun e=>by cases e) (fun e=>by cases e)
   ·split at hk
    ·rename_i hc1
     split at hk
     ·split at hk
      ·rename_i hse
       unfold seen at hse
       rw [jab,jab,jbc] at hse
       have R2:=R.rst hse.1.1 hse.1.2 hse.2
       obtain ⟨tv,s',v,h',n',κ',ln',z',g1,g2,g3,g4,g6,g7,g8⟩:=kbl hΔ R2 _ hk
       obtain ⟨rfl,rfl,rfl,rfl,rfl,rfl⟩:=g8 (kdt (.inl hc1))
       exact rdr (fun h1=>shp (rsH κ' h (footX c s _)) h1) 1 _ (fun q B hq=>⟨B,(kdD hq).2,B.shp_refl⟩) (fun h1 n1 K' hh hK=>kiG hc1 hh (fun v' hv'=>by obtain ⟨rfl,_,_⟩:=hv'; exact hK) (g1 (fun a b c=>a=v/\True/\True) ⟨rfl,trivial,trivial⟩)) .refl (jai _) R g4 g2 (fun e=>by cases e) (fun _=>⟨_,fun _=>Iff.rfl,dom⟩) (fun e=>by cases e)
      ·exact kaa hk
     ·obtain ⟨tv,s',v,h',n',κ',ln',z',g1,g2,g3,g4,g6,g7,g8⟩:=kbl hΔ R _ hk
      obtain ⟨rfl,rfl,rfl,rfl,rfl,rfl⟩:=g8 (kdt (.inl hc1))
      exact rdr (fun h1=>shp h' h1) 3 [] (fun q B hq=>⟨B,hq,B.shp_refl⟩) (fun h1 n1 K' hh hK=>kiG hc1 hh (fun v' hv'=>by obtain ⟨rfl,_,_⟩:=hv'; exact hK) (g1 (fun a b c=>a=v/\True/\True) ⟨rfl,trivial,trivial⟩)) .refl (jai _) R g4 g2 (fun e=>by cases e) (fun e=>by cases e) (fun e=>by cases e)
    ·split at hk
     ·rename_i hc2
      split at hk
      ·split at hk
       ·rename_i hse
        unfold seen at hse
        rw [jab,jab,jbc] at hse
        have R2:=R.rst hse.1.1 hse.1.2 hse.2
        obtain ⟨tv,s',v,h',n',κ',ln',z',g1,g2,g3,g4,g6,g7,g8⟩:=kbl hΔ R2 _ hk
        obtain ⟨rfl,rfl,rfl,rfl,rfl,rfl⟩:=g8 (kdt (.inr hc2))
        exact rdr (fun h1=>∀ q B,rsH κ' h (footX c s _) q=some B->h1 q=some B) 2 _ (fun q B hq=>(kdD hq).2) (fun h1 n1 K' hh hK=>kkz hc2 hh (fun v' hv'=>by obtain ⟨rfl,_,_⟩:=hv'; exact hK) (g1 (fun a b c=>a=v/\True/\True) ⟨rfl,trivial,trivial⟩)) .refl (jai _) R g4 g2 (fun e=>by cases e) (fun e=>by cases e) (fun _=>⟨_,fun _=>Iff.rfl,dom⟩)
       ·exact kaa hk
      ·obtain ⟨tv,s',v,h',n',κ',ln',z',g1,g2,g3,g4,g6,g7,g8⟩:=kbl hΔ R _ hk
       obtain ⟨rfl,rfl,rfl,rfl,rfl,rfl⟩:=g8 (kdt (.inr hc2))
       exact rdr (fun h1=>∀ q B,h' q=some B->h1 q=some B) 3 [] (fun q B hq=>hq) (fun h1 n1 K' hh hK=>kkz hc2 hh (fun v' hv'=>by obtain ⟨rfl,_,_⟩:=hv'; exact hK) (g1 (fun a b c=>a=v/\True/\True) ⟨rfl,trivial,trivial⟩)) .refl (jai _) R g4 g2 (fun e=>by cases e) (fun e=>by cases e) (fun e=>by cases e)
     ·exact kaa hk
theorem kdi {Δ:List (FuncId×Ctr)} (hΔ:Goods P Δ) {wc:List Nat} {ds:List (Option Tmp)} (hds:okD c ds=true) {Kf:TS sem->sem.Ans ρ} {K:St->Prop}
  {N0:Nat} {κ1:Nat->Option Nat} {ln1:Nat->Nat} (hK:∀ κ ln z s' env' h' n',Ke c N0 κ1 ln1 κ ln->Rel P κ ln z c s' env' h' n'->Kf s'=some r->K ⟨env',h',n'⟩) :
  ∀ (l:List Oper) (i:Nat) {κ:Nat->Option Nat} {ln:Nat->Nat} {z:AH} {s:TS sem} {env:Env} {h:AH} {n:Nat} {ps:List Pn} {pd:List (Nat×Nat×List Nat)},Ke c N0 κ1 ln1 κ ln->N0<=s.n->(∀ o∈l,o.dst∈ds)->(∀ q o,l[q]?=some o->W (i+q)=isW wc (i+q) o)->Rel P κ ln z c s env h n->PdR κ s.n ps pd->
   xopsT P c Δ W anc late ds l i s pd Kf=some r->treeD P ds W anc l i ⟨env,h,n⟩ ps K
 | [],i,κ,ln,z,s,env,h,n,ps,pd,ke,kn,_,_,R,hp,hk=>hK _ _ _ _ _ _ _ ke R hk
 | o::l,i,κ,ln,z,s,env,h,n,ps,pd,ke,kn,hl,hW,R,hp,hk=>by
  have hl':∀ o∈l,o.dst∈ds:=fun o ho=>hl o (jba _ ho)
  have hW':∀ q o,l[q]?=some o->W (i+1+q)=isW wc (i+1+q) o:=fun q o hq=>by have:=hW (q+1) o (by simpa using hq); rwa [show i+(q+1)=i+1+q by omega] at this
  have hW0:W i=isW wc i o:=hW 0 o rfl
  have hod:=kmM hds (hl o (jdj ..))
  have one:∀ {κ:Nat->Option Nat} {ln:Nat->Nat} {z:AH} {s:TS sem} {env:Env},Ke c N0 κ1 ln1 κ ln->N0<=s.n->Rel P κ ln z c s env h n->PdR κ s.n ps pd->(khB P c Δ W anc late i s o pd fun v s' pd=>xopsT P c Δ W anc late ds l (i+1) (putT s' o.dst v) pd Kf)=some r->
    stepT P W anc o i env h n ps fun s t=>treeD P ds W anc l (i+1) s t K:=fun ke kn R hp hk=>by
   refine kof hΔ R hp hW0 hk fun κ' ln' z' tv s' v h' n' ps' pd' ke' kn' R' hv hk' hp'=>?_
   exact kdi hΔ hds hK l (i+1) (ke.trans ke' kn) (by rw [kbm]; omega) hl' hW' (R'.putT hv o.dst hod) (by rw [kbm]; exact hp') hk'
  simp only [xopsT] at hk
  simp only [treeD]
  cases hg:o.guard with
  | none=>
   rw [hg] at hk
   exact one ke kn R hp hk
  | some jw=>
   obtain ⟨j,want⟩:=jw
   rw [hg] at hk
   simp only at hk ⊢
   cases hs:kav ds j with
   | none=>rw [hs] at hk; exact kaa hk
   | some d=>
    rw [hs] at hk
    simp only at hk ⊢
    have hde:=kkx hds hs
    have hv:=R.env d
    generalize htl:tlk c s d=tv at hv hk
    generalize hlk:lk env d=a at hv
    cases hv <;> first | exact kaa hk | skip
    ·
     exact kdi hΔ hds hK l (i+1) ke (by rw [kbm]; exact kn) hl' hW' (R.putT .ud o.dst hod) (by rw [kbm]; exact hp) hk
    ·
     rename_i t x hd hs2
     cases t <;> first | exact kaa hk | skip
     obtain rfl:=hs2.sc_inv
     have k1:∀ w:Bool,x=w->Rel P κ ln z c { s with env:=(d,.kb w)::s.env } ((d,.sc (.bool w))::env) h n:=fun w hw=>R.know (.kb w) hde
     dsimp only at hk
     cases want
     ·dsimp only at hk
      rcases kbp hk with ⟨hb,hk⟩ | ⟨hb,hk⟩
      ·refine ⟨fun e=>?_,fun _=>?_⟩
       ·exact absurd (hb.symm.trans e) (by decide)
       ·exact kdi hΔ hds hK l (i+1) ke (by rw [kbm]; exact kn) hl' hW' ((k1 true hb).putT .ud o.dst hod) (by rw [kbm]; exact hp) hk
      ·refine ⟨fun _=>?_,fun e=>?_⟩
       ·exact one ke (by exact kn) (k1 false hb) hp hk
       ·exact absurd (hb.symm.trans e) (by decide)
     ·dsimp only at hk
      rcases kbp hk with ⟨hb,hk⟩ | ⟨hb,hk⟩
      ·refine ⟨fun _=>?_,fun e=>?_⟩
       ·exact one ke (by exact kn) (k1 true hb) hp hk
       ·exact absurd (hb.symm.trans e) (by decide)
      ·refine ⟨fun e=>?_,fun _=>?_⟩
       ·exact absurd (hb.symm.trans e) (by decide)
       ·exact kdi hΔ hds hK l (i+1) ke (by rw [kbm]; exact kn) hl' hW' ((k1 false hb).putT .ud o.dst hod) (by rw [kbm]; exact hp) hk
    ·
     rename_i b
     dsimp only at hk
     have ag:Rel P κ ln z c s ((d,.sc (.bool b))::env) h n:=R.again fun x=>by
      show (if x=d then _ else lk env x)=_
      split
      ·rename_i e; rw [e,hlk]
      ·rfl
     split at hk
     ·rename_i hbw
      have hbw:=eq_of_beq hbw
      subst hbw
      refine ⟨fun _=>one ke (by exact kn) ag hp hk,fun e=>?_⟩
      cases b <;> cases e
     ·rename_i hbw
      refine ⟨fun e=>by rw [e] at hbw; simp at hbw,fun e=>?_⟩
      rw [<-e]
      exact kdi hΔ hds hK l (i+1) ke (by rw [kbm]; exact kn) hl' hW' (ag.putT .ud o.dst hod) (by rw [kbm]; exact hp) hk
variable {N:Nat} {D:DX} {O:Nat->Prop} {Q:Exit->St->Prop}
theorem kqr {l:List Oper} {wc:List Nat} (h:koo l wc (ancOf l)=true) {w j:Nat} {o:Oper} (ho:l[w]?=some o) (hw:isW wc w o=true) (hwj:w<j) (hj:j<l.length):Anc l w j:=by
 simp only [koo,jam,Prod.forall,jap,jbc,decide_eq_false_iff_not] at h
 have mem:∀ {α:Type} {m:List α} {j:Nat} {x:α},m[j]?=some x->(x,j)∈m.zipIdx:=fun h=>jcu.2 (by simpa using h)
 rcases h o w (mem ho) with h | h
 ·rw [hw] at h; cases h
 ·rcases h _ j (mem (jaf hj)) with h | h
  ·exact absurd hwj h
  ·exact kcr (by simpa [jbk] using h)
theorem kqs {Δ:List (FuncId×Ctr)} (hΔ:Goods P Δ) {l:List Oper} (R:Rel P κ ln z c s env h n) {Kf:TS sem->sem.Ans ρ}
  (hK:∀ κ' ln' z' s' env' h' n',Ke c s.n κ ln κ' ln'->Rel P κ' ln' z' c s' env' h' n'->Kf s'=some r->Q .normal ⟨env',h',n'⟩) (hk:drawT P c Δ N l s Kf=some r):SatA P N D O l Q ⟨env,h,n⟩:=by
 unfold drawT at hk
 simp only at hk
 split at hk
 ·rename_i hc
  simp only [jab] at hc
  obtain ⟨⟨⟨h1,h2⟩,h3⟩,h4⟩:=hc
  refine SatA.of_tree h1 h4 (W:=fun j=>match l[j]? with | some o=>isW (wcGo Δ l 0 (ownT s) []) j o | none=>false) (anc:=fun j=>(ancOf l).getD j []) (fun i j hi=>kcr hi) (fun w j hwj hj hw=>?_) ?_
  ·split at hw
   ·rename_i o ho
    exact kqr h2 ho hw hwj hj
   ·cases hw
  ·exact kdi hΔ h3 (wc:=wcGo Δ l 0 (ownT s) []) hK l 0 .refl (jai _) (fun o ho=>jax.2 ⟨o,ho,rfl⟩) (fun q o hq=>by simp only [jch,hq]) R (fun p hp=>by cases hp) hk
 ·exact kaa hk
theorem knf {f:List (Nat×Nat)->sem.Ans ρ}:∀ {l:List (List (Nat×Nat))},bthL (A:=sem) f l=some r->∀ x∈l,f x=some r
 | [],h=>kaa h
 | [x],h=>by
  intro y hy
  simp only [List.mem_singleton] at hy
  subst hy
  exact h
 | x::y::l,h=>by
  obtain ⟨h1,h2⟩:=kmR (show bthO _ _ _=some r from h)
  intro q hq
  rcases jat.1 hq with rfl | hq
  ·exact h1
  ·exact knf h2 q hq
theorem kqj {Δ:List (FuncId×Ctr)} (hΔ:Goods P Δ) {id:Nat} {cs:List Code} {l:List Oper} (R:Rel P κ ln z c s env h n) {Kf:TS sem->sem.Ans ρ}
  (hK:∀ κ' ln' z' s' env' h' n',Ke c s.n κ ln κ' ln'->Rel P κ' ln' z' c s' env' h' n'->Kf s'=some r->SatL P N D O cs Q ⟨env',h',n'⟩) (hk:drawV P c Δ N l s Kf=some r):SatL P N D O (.region id l.toArray true::cs) Q ⟨env,h,n⟩:=by
 unfold drawV at hk
 split at hk
 ·rename_i hc
  rw [jab] at hc
  refine Sat.drawV (Q:=thenQ (SatL P N D O cs Q) Q) (id:=id) hc.1 hc.2 (conf:=confX Δ (ownT { s with dy:=false }) l) (f:=3) fun ex hex=>?_
  have:=knf hk ex hex
  simp only at this
  split at this
  ·rename_i hp
   exact ⟨_,hp,kqs (Q:=thenQ (SatL P N D O cs Q) Q) hΔ R hK this⟩
  ·exact kaa this
 ·exact kaa hk
end
section
variable {P:Program} {D:DX} {O:Nat->Prop}
structure Jd where
 e:List (Nat×TV sem)
 κ:Nat->Option Nat
 ln:Nat->Nat
structure RJ (J:Jd) (P:Program) (κ:Nat->Option Nat) (ln:Nat->Nat) (z:AH) (c:Cx sem) (s:TS sem) (env:Env) (h:AH) (n:Nat):Prop where
 R:Rel P κ ln z c s env h n
 j:∀ x v id,alk J.e x=some v->v.has id=true->κ id=J.κ id/\ln id=J.ln id
 w:∀ x v,alk J.e x=some v->alk c.e0 x=some v
section
variable {κ:Nat->Option Nat} {ln:Nat->Nat} {z:AH} {c:Cx sem} {s:TS sem} {env:Env} {h:AH} {n:Nat} {J:Jd}
theorem RJ.ke (R:RJ J P κ ln z c s env h n) (W:CxWf c) {κ':Nat->Option Nat} {ln':Nat->Nat} {z':AH} {s':TS sem} {env':Env} {h':AH} {n':Nat} (ke:Ke c s.n κ ln κ' ln') (R':Rel P κ' ln' z' c s' env' h' n'):RJ J P κ' ln' z' c s' env' h' n':=
 ⟨R',fun x v id hv hi=>by
  obtain ⟨e1,e2⟩:=ke id (R.R.has_lt W (kcq (R.w x v hv) hi))
  obtain ⟨e3,e4⟩:=R.j x v id hv hi
  exact ⟨e1.trans e3,(e2 (kcq (R.w x v hv) hi)).trans e4⟩,R.w⟩
theorem RJ.into (R:RJ J P κ ln z c s env h n) {l:La} (hk:okLa l c s=true):RJ J P κ ln z (inCx l c s) ⟨s.env.filter (fun x=>!l.keep.contains x.1),s.hp.filter (fun x=>!l.gids.contains x.1),s.n,s.dy⟩ env h n:=
 ⟨R.R.into hk,R.j,fun x v hv=>by
  rw [kfl,if_neg]
  ·exact R.w x v hv
  ·intro hc
   have h1:=(kcs hk).1 x (by simpa using hc)
   rw [R.w x v hv] at h1; cases h1⟩
theorem kfx {l:La} {s1:TS sem} (hk:okLa l c s=true) (hc:∀ id,(inCx l c s).has id=true->id<s.n) (R:RJ J P κ ln z (inCx l c s) s1 env h n) {x:l.head.ty.den} (hp:pack (inCx l c s) s.n l.head s1=some x) :
  ∃ κ2 ln2 z2,RJ J P κ2 ln2 z2 (inCx l c s) (kae l.head s.n x) env h n:=by
 obtain ⟨κ2,ln2,z2,R2,e⟩:=kte hk hc R.R hp
 exact ⟨κ2,ln2,z2,R2,fun x v id hv hi=>⟨(e id (kcq (R.w x v hv) hi)).1.trans (R.j x v id hv hi).1,(e id (kcq (R.w x v hv) hi)).2.trans (R.j x v id hv hi).2⟩,R.w⟩
theorem kgK {l:La} {s1:TS sem} {κ0:Nat->Option Nat} {ln0:Nat->Nat} {z0:AH} {env0:Env} {h0:AH} {n0:Nat} (R0:RJ J P κ0 ln0 z0 c s env0 h0 n0) (hk:okLa l c s=true) (hc:∀ id,(inCx l c s).has id=true->id<l.n) (R:RJ J P κ ln z (inCx l c s) s1 env h n) {x:l.out.ty.den} (hp:pack (inCx l c s) l.n l.out s1=some x) :
  ∃ κ2 ln2 z2,RJ J P κ2 ln2 z2 c (outTS l c s x) env h n:=by
 obtain ⟨κ2,ln2,z2,R2,e⟩:=kqF R0.R hk hc R.R hp
 exact ⟨κ2,ln2,z2,R2,fun x v id hv hi=>⟨(e id (kcq (R.w x v hv) hi)).1.trans (R.j x v id hv hi).1,(e id (kcq (R.w x v hv) hi)).2.trans (R.j x v id hv hi).2⟩,R0.w⟩
end
structure KonOk (D:DX) (J:Jd) (P:Program) {r ρ:Ty} (Q:Exit->St->Prop) (RetQ:r.den->St->Prop) (c:Cx sem) (K:Kon sem r ρ) (rr:ρ.den):Prop where
 nrm:∀ κ ln z s env h n,RJ J P κ ln z c s env h n->K.nrm s=some rr->Q .normal ⟨env,h,n⟩
 ext:∀ id κ ln z s env h n,RJ J P κ ln z c s env h n->K.ext id s=some rr->Q (.exit id) ⟨env,h,n⟩
 retv:∀ v st,RetQ v st->K.retv v=some rr->Q .ret st
 stop:D.it.isSome=true->∀ st,lk st.env GS = .ud->Q .ret st
def YOk (P:Program) (D:DX) (Δ:List (FuncId×Ctr)) (J:Jd):Prop:=
 ((alk Δ IM).isNone=true->D.it=none)/\((alk Δ IM).isSome=true->∃ G,D.it=some G/\IterOk P G/\
  (∀ nm ts F,(alk Δ IM).bind (fun C=>C.its.head?)=some ⟨nm,[.nt],ts,F⟩->∃ xs,F (0:Nat)=some xs/\G.xs=xs.map (avsL ts))/\alk J.e 0=some (.yl 0)/\J.κ 0=some G.l)
theorem kkW {α β:Type} {F:α->Option (α⊕β)} {k:Nat} {x:α} {e:β} (h:itN F k x=some e):∃ k',k=k'+1/\((∃ y,F x=some (.inl y)/\itN F k' y=some e)\/F x=some (.inr e)):=by
 cases k with
 | zero=>simp [itN] at h
 | succ k=>
  refine ⟨k,rfl,?_⟩
  simp only [itN] at h
  split at h
  ·cases h
  ·rename_i y hy; exact .inl ⟨y,hy,h⟩
  ·rename_i w hw; cases h; exact .inr hw
theorem krb {α β:Type} {F:α->Option (α⊕β)} {x:α} {e:β} (h:iter F x=some e):∃ G,G=F/\iter G x=some e:=⟨F,rfl,h⟩
theorem ktw {α:Type} (l:List α):lenI l=(l.length:Int):=rfl
theorem kpi:∀ (ts:List Ty) (x:(tup ts).den),(unT sem ts x).length=ts.length
 | [],_=>rfl
 | [t],_=>rfl
 | t::u::ts,x=>by simp [unT,kpi (u::ts)]
theorem kis {α:Type}:∀ {l:List α} {k:Nat} {y:α},l[k]?=some y->l=l.take k++y::l.drop (k+1)/\(l.take k).length=k
 | [],k,y,h=>by simp at h
 | x::l,0,y,h=>by simp at h; subst h; exact ⟨rfl,rfl⟩
 | x::l,k+1,y,h=>by
  obtain ⟨h1,h2⟩:=kis (l:=l) (k:=k) (y:=y) (by simpa using h)
  refine ⟨?_,by simp [h2]⟩
  simp only [List.take_succ_cons,List.drop_succ_cons,jdg]
  rw [<-h1]
theorem Rel.swap {κ:Nat->Option Nat} {ln:Nat->Nat} {z:AH} {c:Cx sem} {s:TS sem} {env env2:Env} {h:AH} {n:Nat} (R:Rel P κ ln z c s env h n) (he:∀ x,TVR P κ ln z s.n (tlk c s x) (lk env2 x)):Rel P κ ln z c s env2 h n:=
 ⟨he,R.blk,R.lt,R.inj,R.zin,R.zout,R.bnd,R.hn,R.e0,R.g,R.dy,R.zk,R.fam⟩
theorem kpK:∀ (ts:List Ty) (x:(tup ts).den),(avsL ts x).length=ts.length
 | [],_=>rfl
 | [t],_=>rfl
 | t::u::ts,x=>by simp [avsL,kpK (u::ts)]
theorem ksl {κ:Nat->Option Nat} {ln:Nat->Nat} {z:AH} {N:Nat} {c:Cx sem} (hp:List (Nat×Option (TB sem))) (m:Nat) (dy:Bool):∀ (ps:List Tmp) (l:List ((t:Ty)×t.den)) (as:List AV) (E:List (Nat×TV sem)) (env:Env),l.length=ps.length->TVRs P κ ln z N (l.map fun y=>TV.c y.1 y.2) as->(∀ x,TVR P κ ln z N (tlk c ⟨E,hp,m,dy⟩ x) (lk env x))->
  ∀ x,TVR P κ ln z N (tlk c ⟨rndE (A:=sem) ps l E,hp,m,dy⟩ x) (lk (kgr ps as env) x)
 | [],l,as,E,env,hl,hs,he,x=>by simpa [rndE,kgr] using he x
 | p::ps,[],as,E,env,hl,hs,he,x=>by simp at hl
 | p::ps,y::l,_,E,env,hl,.cons _ a _ as hv hs,he,x=>by
  refine ksl hp m dy ps l as ((p,.c y.1 y.2)::E) ((p,a)::env) (by simpa using hl) hs (fun t=>?_) x
  have h1:tlk (A:=sem) c ⟨(p,.c y.1 y.2)::E,hp,m,dy⟩ t=if t=p then .c y.1 y.2 else tlk c ⟨E,hp,m,dy⟩ t:=by
   unfold tlk
   simp only [alk]
   by_cases ht:t=p
   ·rw [if_pos ht,if_pos ht]
   ·rw [if_neg ht,if_neg ht]
  rw [h1]
  simp only [lk]
  by_cases ht:t=p
  ·rw [if_pos ht,if_pos ht]; exact hv
  ·rw [if_neg ht,if_neg ht]; exact he t
theorem ktD (ps:List Tmp):∀ (l:List ((t:Ty)×t.den)) (E:List (Nat×TV sem)) {x:Nat} {v:TV sem},alk (rndE (A:=sem) ps l E) x=some v->x∈ps\/alk E x=some v:=by
 induction ps with
 | nil=>intro l E x v h; exact .inr h
 | cons p ps ih=>
  intro l E x v h
  cases l with
  | nil=>exact .inr h
  | cons y l=>
   rcases ih l ((p,.c y.1 y.2)::E) h with h | h
   ·exact .inl (jba _ h)
   ·simp only [alk] at h
    split at h
    ·rename_i e; exact .inl (by simp [e])
    ·exact .inr h
theorem khP {Δ:List (FuncId×Ctr)} (hΔ:Goods P Δ) {An:Nat->(A:Alg)->Cx A->TS A->Option La} {nt:Nat} :
  ∀ (fuel:Nat) {r:Ty} {res:Cx sem->TS sem->Option r.den} {J:Jd} {RetQ:r.den->St->Prop} (hres:∀ (c:Cx sem) κ ln s env h n v,CxWf c->RJ J P κ ln ahN c s env h n->res c s=some v->RetQ v ⟨env,h,n⟩) (hY:YOk P D Δ J) {ρ:Ty} (c:Cx sem) (cs:List Code) (K:Kon sem r ρ) (s:TS sem) (Q:Exit->St->Prop) (rr:ρ.den) (κ:Nat->Option Nat) (ln:Nat->Nat) (z:AH) (env:Env) (h:AH) (n:Nat),CxWf c->RJ J P κ ln z c s env h n->KonOk D J P Q RetQ c K rr->
   mach P Δ An nt fuel res c cs K s=some rr->SatL P nt D O cs Q ⟨env,h,n⟩
 | 0,r,res,J,RetQ,hres,hY,ρ,c,cs,K,s,Q,rr,κ,ln,z,env,h,n,W,R,ok,hk=>by simp only [mach] at hk; exact kaa hk
 | fuel+1,r,res,J,RetQ,hres,hY,ρ,c,cs,K,s,Q,rr,κ,ln,z,env,h,n,W,R,ok,hk=>by
  have IHg:=@khP Δ hΔ An nt fuel
  have IH:=@IHg r res J RetQ hres hY
  cases cs with
  | nil=>simp only [mach] at hk; exact SatL.nil (ok.nrm _ _ _ _ _ _ _ R hk)
  | cons cd cs=>
   cases cd <;> simp only [mach] at hk
   case skip=>exact SatL.skip (IH _ _ _ _ _ _ _ _ _ _ _ _ W R ok hk)
   case seq a b=>exact SatL.seq (IH _ _ _ _ _ _ _ _ _ _ _ _ W R ok hk)
   case ret=>
    split at hk
    ·rename_i v hv
     refine SatL.wk R.R fun env h R1=>?_
     exact SatL.ret (ok.retv v _ (hres _ _ _ _ _ _ _ _ W ⟨R1,R.j,R.w⟩ (by exact hv)) hk)
    ·exact kaa hk
   case exit id=>exact SatL.exit (ok.ext id _ _ _ _ _ _ _ R hk)
   case region id ops draw=>
    refine SatL.wk R.R fun env h R1=>?_
    replace R:RJ J P κ ln ahN c { s with dy:=false } env h n:=⟨R1,R.j,R.w⟩
    clear R1
    have reg:∀ (c:Cx sem) (W:CxWf c) (s:TS sem) {κ ln z env h n} (R:RJ J P κ ln z c { s with dy:=false } env h n) {ρ':Ty} (Kf:TS sem->sem.Ans ρ') (w:ρ'.den),(∀ κ ln z s' env' h' n',RJ J P κ ln z c s' env' h' n'->Kf s'=some w->SatL P nt D O cs Q ⟨env',h',n'⟩)->
      (if (okD c (ops.toList.map (·.dst))&&kaH nt ops.toList)=true then (if draw=true then drawV P c Δ nt ops.toList { s with dy:=false } Kf else xops P c Δ (ops.toList.map (·.dst)) ops.toList { s with dy:=false } Kf) else sem.fail "slot that stays")=some w->SatL P nt D O (.region id ops draw::cs) Q ⟨env,h,n⟩:=by
     intro c W s κ ln z env h n R ρ' Kf w hK hki
     split at hki
     ·rename_i hc
      rw [jab] at hc
      split at hki
      ·rename_i hd
       subst hd
       have:=kqj (N:=nt) (D:=D) (O:=O) (Q:=Q) (id:=id) hΔ R.R (fun κ' ln' z' s' env' h' n' ke R' hk'=>hK κ' ln' z' s' env' h' n' (R.ke W ke R') hk') hki
       rw [show ops.toList.toArray=ops from rfl] at this
       exact this
      ·rename_i hd
       rw [jbh] at hd
       subst hd
       have:=Sat.region (P:=P) (N:=nt) (D:=D) (O:=O) (Q:=thenQ (SatL P nt D O cs Q) Q) (st:=⟨env,h,n⟩) (id:=id) hc.2 (kbQ hΔ hc.1 (K:=fun st=>SatL P nt D O cs Q st) (fun κ' ln' z' s' env' h' n' ke R' hk'=>hK κ' ln' z' s' env' h' n' (R.ke W ke R') hk') ops.toList .refl (jai _) (fun o ho=>jax.2 ⟨o,ho,rfl⟩) R.R hki)
       rw [show ops.toList.toArray=ops from rfl] at this
       exact this
     ·exact kaa hki
    split at hk
    ·
     rename_i k hyi
     have hIM:(alk Δ IM).isSome=true:=by
      unfold yIdx at hyi
      split at hyi
      ·cases hyi
      ·rename_i hn; cases hh:alk Δ IM with
       | none=>rw [hh] at hn; exact absurd rfl hn
       | some C=>rfl
     obtain ⟨G,hD,okG,hIF,hJ0,hJκ⟩:=hY.2 hIM
     split at hk
     ·exact kaa hk
     rename_i y hyk
     obtain ⟨hsplit,hlen⟩:=kis hyk
     split at hk
     rotate_left
     ·exact kaa hk
     rename_i hc
     simp only [jab] at hc
     obtain ⟨⟨⟨hc1,hc2⟩,hcg⟩,hc3⟩:=hc
     have hgn:y.guard=none:=by simpa using hcg
     have hdstM:∀ (l:List Oper),(∀ o∈l,o∈ops.toList)->∀ o∈l,o.dst∈ops.toList.map (·.dst):=fun l hl o ho=>jax.2 ⟨o,hl o ho,rfl⟩
     have hm1:∀ o∈ops.toList.take k,o∈ops.toList:=fun o ho=>jcw ho
     have hm2:∀ o∈ops.toList.drop (k+1),o∈ops.toList:=fun o ho=>jcx ho
     have hym:y∈ops.toList:=jah hyk
     have hyd:∀ d,y.dst=some d->alk c.e0 d=none:=fun d hd=>by
      have:=jam.1 (show (ops.toList.map (·.dst)).all _=true from hc1) (y.dst) (jax.2 ⟨y,hym,rfl⟩)
      rw [hd] at this; simpa using this
     have stp:∀ κ1 ln1 z1 s1 env1 h1 n1,Ke c s.n κ ln κ1 ln1->Rel P κ1 ln1 z1 c s1 env1 h1 n1->klG (A:=sem) c Δ s1 y (fun s2=>xops P c Δ (ops.toList.map (·.dst)) (ops.toList.drop (k+1)) s2 fun s3=>mach P Δ An nt fuel (A:=sem) (r:=.un) (ρ:=.un) kmz c cs kqU s3)
       (fun s2=>xops P c Δ (ops.toList.map (·.dst)) (ops.toList.drop (k+1)) s2 fun s3=>mach P Δ An nt fuel res c cs K s3)=some rr->YieldK P G (ops.toList.map (·.dst)) y (ops.toList.drop (k+1)) (fun st=>SatL P nt D O cs Q st) ⟨env1,h1,n1⟩:=fun κ1 ln1 z1 s1 env1 h1 n1 ke R1 hk1=>by
      have RJ1:=R.ke W ke R1
      have hκ0:κ1 0=some G.l:=by rw [(RJ1.j 0 (.yl 0) 0 hJ0 (by simp [TV.has])).1]; exact hJκ
      refine koP hIF W R1 hκ0 hyd hk1 (fun s2 env2 R2 hn2 hk2=>?_) (fun s2 env2 w0 R2 hn2 hk2=>?_)
      ·exact kbQ hΔ hc1 (K:=fun st=>SatL P nt D O cs Q st) (fun κ' ln' z' s' env' h' n' ke' R' hk'=>IH _ _ _ _ _ _ _ _ _ _ _ _ W ((⟨R2,RJ1.j,RJ1.w⟩:RJ J P κ1 ln1 ahN c s2 env2 ah0 n1).ke W ke' R') ok hk') _ .refl (jai _) (hdstM _ hm2) R2 hk2
      ·refine kbQ hΔ hc1 (K:=fun st=>SatL P nt D O cs Q st) (fun κ' ln' z' s' env' h' n' ke' R' hk'=>?_) _ .refl (jai _) (hdstM _ hm2) R2 hk2
       refine @IHg .un _ J (fun _ st=>lk st.env GS = .ud) (fun c κ ln s env h n v W R hv=>?_) hY .un c cs _ s' Q w0 κ' ln' z' env' h' n' W ((⟨R2,RJ1.j,RJ1.w⟩:RJ J P κ1 ln1 ahN c s2 env2 ah0 n1).ke W ke' R') ⟨fun _ _ _ _ _ _ _ _ hf=>kaa hf,fun _ _ _ _ _ _ _ _ _ hf=>kaa hf,fun v st hv _=>ok.stop (by rw [hD]; rfl) st hv,ok.stop⟩ hk'
       unfold kmz at hv
       split at hv
       ·rename_i hud
        have hR:=R.R.env GS
        have:tlk c s GS = .ud:=by unfold tlk; rw [hud]
        rw [this] at hR
        show lk env GS = .ud
        generalize lk env GS=a at hR
        cases hR; rfl
       ·cases hv
     have hopsA:(ops.toList.take k++y::ops.toList.drop (k+1)).toArray=ops:=by rw [<-hsplit]
     split at hk
     ·rename_i hdr
      subst hdr
      have hc1':okD c ((ops.toList.take k).map (·.dst))=true:=by
       have:=hc1
       unfold okD at this ⊢
       rw [jam] at this ⊢
       intro d hd
       obtain ⟨o,ho,rfl⟩:=jax.1 hd
       exact this _ (jax.2 ⟨o,hm1 o ho,rfl⟩)
      simp only [Bool.not_true,jdm,jab] at hc3
      obtain ⟨⟨hmx,hdo⟩,hbar⟩:=hc3
      obtain ⟨E,V,A,W',H,M,L,hyk',_,hd1⟩:=ksO (Gd:=fun st=>YieldK P G (ops.toList.map (·.dst)) y (ops.toList.drop (k+1)) (fun st=>SatL P nt D O cs Q st) st) hΔ hc1' R.R stp hk
      have:=Sat.drawY (P:=P) (N:=nt) (D:=D) (O:=O) (Q:=thenQ (SatL P nt D O cs Q) Q) (id:=id) hD okG hmx (by rw [<-hsplit]; exact hdo) (by rw [<-hsplit,hlen]; exact hbar) (by rw [<-hsplit]; exact hc2) (PreY.of_LF hd1 (by have:=hc2; unfold kaH at this ⊢; rw [jam] at this ⊢; exact fun o ho=>this o (hm1 o ho)) L (by rw [<-hsplit]; exact hyk'))
      rw [hopsA] at this
      exact this
     ·rename_i hdr
      rw [jbh] at hdr
      subst hdr
      have hx:=kbQ hΔ hc1 (K:=fun st=>YieldK P G (ops.toList.map (·.dst)) y (ops.toList.drop (k+1)) (fun st=>SatL P nt D O cs Q st) st) stp (ops.toList.take k) (s:={ s with dy:=false }) .refl (jai _) (hdstM _ hm1) R.R hk
      have:=Sat.regionY (P:=P) (N:=nt) (D:=D) (O:=O) (Q:=thenQ (SatL P nt D O cs Q) Q) (id:=id) (st:=⟨env,h,n⟩) hD okG (by rw [<-hsplit]; exact hc2) (by rw [<-hsplit]; exact hx)
      rw [hopsA] at this
      exact this
    split at hk
    ·exact reg c W s R _ rr (fun κ ln z s' env' h' n' R' hk'=>IH _ _ _ _ _ _ _ _ _ _ _ _ W R' ok hk') hk
    ·rename_i a ha
     split at hk
     ·exact kaa hk
     ·rename_i hok
      replace hok:okLa a c s=true:=by simpa using hok
      obtain ⟨y,hy,hk⟩:=jaa.1 hk
      have R0:RJ J P κ ln ahN c s env h n:=⟨⟨R.R.env,R.R.blk,R.R.lt,R.R.inj,R.R.zin,R.R.zout,R.R.bnd,R.R.hn,R.R.e0,R.R.g,fun _=>rfl,R.R.zk,R.R.fam⟩,R.j,R.w⟩
      have W':=kjI R0.R W hok
      have R1:=R0.into hok
      have R1':RJ J P κ ln ahN (inCx a c s) { (⟨s.env.filter (fun x=>!a.keep.contains x.1),s.hp.filter (fun x=>!a.gids.contains x.1),s.n,s.dy⟩:TS sem) with dy:=false } env h n:=⟨⟨R1.R.env,R1.R.blk,R1.R.lt,R1.R.inj,R1.R.zin,R1.R.zout,R1.R.bnd,R1.R.hn,R1.R.e0,R1.R.g,fun _=>rfl,R1.R.zk,R1.R.fam⟩,R1.j,R1.w⟩
      have hcl:∀ id,(inCx a c s).has id=true->id<a.n:=fun id hi=>jao (R1.R.has_lt W' hi) (kcs hok).2.2.2.2.2.2
      refine reg (inCx a c s) W' ⟨s.env.filter (fun x=>!a.keep.contains x.1),s.hp.filter (fun x=>!a.gids.contains x.1),s.n,s.dy⟩ R1' _ y (fun κ ln z s' env' h' n' R' hk'=>?_) hy
      split at hk'
      ·rename_i y' hy'
       cases hk'
       obtain ⟨κ2,ln2,z2,R2⟩:=kgK R0 hok hcl R' hy'
       exact IH _ _ _ _ _ _ _ _ _ _ _ _ W R2 ok hk
      ·exact kaa hk'
   case cond x a b=>
    have hx:=R.R.ev x
    split at hk
    ·rename_i he
     rw [he] at hx
     generalize hev:ev env x=av at hx
     cases hx
     exact SatL.condT hev rfl (IH _ _ _ _ _ _ _ _ _ _ _ _ W R ok hk)
    ·rename_i he
     rw [he] at hx
     generalize hev:ev env x=av at hx
     cases hx
     exact SatL.condF hev rfl (IH _ _ _ _ _ _ _ _ _ _ _ _ W R ok hk)
    ·rename_i v he
     rw [he] at hx
     have hev:=hx.b_inv
     split at hk
     ·rcases kbp hk with ⟨hb,hk⟩ | ⟨hb,hk⟩
      ·exact SatL.condT hev hb (IH _ _ _ _ _ _ _ _ _ _ _ _ W R ok hk)
      ·exact SatL.condF hev hb (IH _ _ _ _ _ _ _ _ _ _ _ _ W R ok hk)
     ·rename_i l hl
      split at hk
      ·exact kaa hk
      ·rename_i hok
       replace hok:okLa l c s=true:=by simpa using hok
       have W':=kjI R.R W hok
       have R1:=R.into hok
       have hcl:∀ id,(inCx l c s).has id=true->id<l.n:=fun id hi=>jao (R1.R.has_lt W' hi) (kcs hok).2.2.2.2.2.2
       refine Sat.ofL (Q:=thenQ (SatL P nt D O cs Q) Q) ?_
       have both:∀ {ρ':Ty} (K':Kon sem r ρ') (w:ρ'.den),KonOk D J P (thenQ (SatL P nt D O cs Q) Q) RetQ (inCx l c s) K' w->sem.ite v (mach P Δ An nt fuel res (inCx l c s) [a] K' ⟨s.env.filter (fun x=>!l.keep.contains x.1),s.hp.filter (fun x=>!l.gids.contains x.1),s.n,s.dy⟩) (mach P Δ An nt fuel res (inCx l c s) [b] K' ⟨s.env.filter (fun x=>!l.keep.contains x.1),s.hp.filter (fun x=>!l.gids.contains x.1),s.n,s.dy⟩)=some w->SatL P nt D O [.cond x a b] (thenQ (SatL P nt D O cs Q) Q) ⟨env,h,n⟩:=fun K' w ok' hk'=>by
        rcases kbp hk' with ⟨hb,hk'⟩ | ⟨hb,hk'⟩
        ·exact SatL.condT hev hb (IH _ _ _ _ _ _ _ _ _ _ _ _ W' R1 ok' hk')
        ·exact SatL.condF hev hb (IH _ _ _ _ _ _ _ _ _ _ _ _ W' R1 ok' hk')
       split at hk
       ·obtain ⟨w,hw,hk⟩:=jaa.1 hk
        refine both _ w ⟨fun κ ln z s' env' h' n' R' hk'=>?_,fun id κ ln z s' env' h' n' R' hk'=>kaa hk',fun v' st hv' hk'=>?_,ok.stop⟩ hw
        ·dsimp only at hk'
         split at hk'
         ·rename_i y' hy'
          cases hk'
          obtain ⟨κ2,ln2,z2,R2⟩:=kgK R hok hcl R' hy'
          exact IH _ _ _ _ _ _ _ _ _ _ _ _ W R2 ok hk
         ·exact kaa hk'
        ·cases hk'
         exact ok.retv v' st hv' hk
       ·obtain ⟨w,hw,hk⟩:=jaa.1 hk
        refine both _ w ⟨fun κ ln z s' env' h' n' R' hk'=>?_,fun id κ ln z s' env' h' n' R' hk'=>kaa hk',fun v' st hv' hk'=>kaa hk',ok.stop⟩ hw
        dsimp only at hk'
        split at hk'
        ·rename_i y' hy'
         cases hk'
         obtain ⟨κ2,ln2,z2,R2⟩:=kgK R hok hcl R' hy'
         exact IH _ _ _ _ _ _ _ _ _ _ _ _ W R2 ok hk
        ·exact kaa hk'
    ·exact kaa hk
   case block id b=>
    have gen:∀ b',mach P Δ An nt fuel res c [b'] (⟨fun s=>mach P Δ An nt fuel res c cs K s,fun id' s=>if id'=id then mach P Δ An nt fuel res c cs K s else K.ext id' s,K.retv⟩:Kon sem r ρ) s=some rr->SatL P nt D O (.block id b'::cs) Q ⟨env,h,n⟩:=fun b' hkb=>by
     refine SatL.block (IH _ _ _ _ (kdz id (thenQ (SatL P nt D O cs Q) Q)) _ _ _ _ _ _ _ W R ⟨fun κ ln z s' env' h' n' R' hk'=>?_,fun id' κ ln z s' env' h' n' R' hk'=>?_,fun v st hv hk'=>?_,ok.stop⟩ hkb)
     ·exact IH _ _ _ _ _ _ _ _ _ _ _ _ W R' ok hk'
     ·dsimp only at hk'
      simp only [kdz]
      split at hk'
      ·rename_i e
       rw [if_pos e]
       exact IH _ _ _ _ _ _ _ _ _ _ _ _ W R' ok hk'
      ·rename_i e
       rw [if_neg e]
       exact ok.ext id' _ _ _ _ _ _ _ R' hk'
     ·exact ok.retv v st hv hk'
    cases b with
    | loop b=>
     dsimp only at hk
     split at hk
     ·exact kaa hk
     ·rename_i l hl
      split at hk
      ·exact kaa hk
      ·rename_i hok
       replace hok:okLa l c s=true:=by simpa using hok
       have W':=kjI R.R W hok
       have R1:=R.into hok
       have hcs:∀ id,(inCx l c s).has id=true->id<s.n:=fun id hi=>R1.R.has_lt W' hi
       have hcl:∀ id,(inCx l c s).has id=true->id<l.n:=fun id hi=>jao (hcs id hi) (kcs hok).2.2.2.2.2.2
       split at hk
       ·exact kaa hk
       ·rename_i x hx
        obtain ⟨κ0,ln0,z0,R0⟩:=kfx hok hcs R1 hx
        have loop:∀ {X:Type} (F:l.head.ty.den->Option (l.head.ty.den⊕X)) (e:X),iter F x=some e->
          (∀ (k:Nat) (st:St) (x:l.head.ty.den) (κ:Nat->Option Nat) (ln:Nat->Nat) (z:AH) (w:l.head.ty.den⊕X),RJ J P κ ln z (inCx l c s) (kae l.head s.n x) st.env st.h st.n->F x=some w->(w = .inr e\/∃ y,w = .inl y)->
           ∀ (I:l.head.ty.den->St->Prop),(∀ y st κ ln z,w = .inl y->RJ J P κ ln z (inCx l c s) (kae l.head s.n y) st.env st.h st.n->I y st)->SatL P nt D O [b] (thenQ (fun s'=>∃ y,w = .inl y/\I y s') (kdz id (thenQ (SatL P nt D O cs Q) Q))) st)->
          SatL P nt D O (.block id (.loop b)::cs) Q ⟨env,h,n⟩:=by
         intro X F e he round
         refine SatL.block (SatL.ofS (Sat.loop (fun (k:Nat) st=>∃ (x:l.head.ty.den) (κ:Nat->Option Nat) (ln:Nat->Nat) (z:AH),RJ J P κ ln z (inCx l c s) (kae l.head s.n x) st.env st.h st.n/\itN F k x=some e) (fun k=>k) 18446744073709551616 ⟨x,κ0,ln0,z0,R0,he⟩ ?_))
         rintro k st ⟨x,κ,ln,z,Rx,hit⟩
         obtain ⟨k',rfl,hstep⟩:=kkW hit
         have fin:∀ w,F x=some w->(w = .inr e\/∃ y,w = .inl y)->(∀ y,w = .inl y->itN F k' y=some e)->Sat P nt D O b (thenQ (fun s'=>∃ x',(∃ (x:l.head.ty.den) (κ:Nat->Option Nat) (ln:Nat->Nat) (z:AH),RJ J P κ ln z (inCx l c s) (kae l.head s.n x) s'.env s'.h s'.n/\itN F x' x=some e)/\x'<k'+1) (kdz id (thenQ (SatL P nt D O cs Q) Q))) st:=fun w hw hor hin=>by
          refine Sat.ofL (SatL.mono (cs:=[b]) ?_ (round k' st x κ ln z w Rx hw hor (fun y st=>∃ κ ln z,RJ J P κ ln z (inCx l c s) (kae l.head s.n y) st.env st.h st.n) (fun y st κ ln z _ R=>⟨κ,ln,z,R⟩)))
          intro ex s' hq
          cases ex with
          | normal=>
           obtain ⟨y,hy,κ,ln,z,Ry⟩:=hq
           exact ⟨k',⟨y,κ,ln,z,Ry,hin y hy⟩,jbp _⟩
          | _=>exact hq
         rcases hstep with ⟨y,hy,hyk⟩ | hr
         ·exact fin _ hy (.inr ⟨y,rfl⟩) (fun y' e'=>by cases e'; exact hyk)
         ·exact fin _ hr (.inl rfl) (fun y' e'=>by cases e')
        split at hk
        ·obtain ⟨e,he,hk2⟩:=jaa.1 hk
         refine loop _ e he fun k st x κ ln z w Rx hw hor I hI=>?_
         refine IH _ _ _ _ _ _ _ _ _ _ _ _ W' Rx ⟨fun κ ln z s' env' h' n' R' hk'=>?_,fun id' κ ln z s' env' h' n' R' hk'=>?_,fun v st' hv hk'=>?_,ok.stop⟩ hw
         ·dsimp only at hk'
          split at hk'
          ·rename_i y hy
           cases hk'
           obtain ⟨κ2,ln2,z2,R2⟩:=kfx hok hcs R' hy
           exact ⟨y,rfl,hI y ⟨env',h',n'⟩ κ2 ln2 z2 rfl R2⟩
          ·exact kaa hk'
         ·dsimp only at hk'
          split at hk'
          ·rename_i e1
           split at hk'
           ·rename_i y hy
            cases hk'
            rcases hor with hor | ⟨y',hor⟩
            ·cases hor
             obtain ⟨κ2,ln2,z2,R2⟩:=kgK R hok hcl R' hy
             subst e1
             exact khj (thenN (IH _ _ _ _ _ _ _ _ _ _ _ _ W R2 ok hk2))
            ·cases hor
           ·exact kaa hk'
          ·exact kaa hk'
         ·cases hk'
          rcases hor with hor | ⟨y',hor⟩
          ·cases hor; exact ok.retv v st' hv hk2
          ·cases hor
        ·obtain ⟨e,he,hk2⟩:=jaa.1 hk
         refine loop _ e he fun k st x κ ln z w Rx hw hor I hI=>?_
         refine IH _ _ _ _ _ _ _ _ _ _ _ _ W' Rx ⟨fun κ ln z s' env' h' n' R' hk'=>?_,fun id' κ ln z s' env' h' n' R' hk'=>?_,fun v st' hv hk'=>kaa hk',ok.stop⟩ hw
         ·dsimp only at hk'
          split at hk'
          ·rename_i y hy
           cases hk'
           obtain ⟨κ2,ln2,z2,R2⟩:=kfx hok hcs R' hy
           exact ⟨y,rfl,hI y ⟨env',h',n'⟩ κ2 ln2 z2 rfl R2⟩
          ·exact kaa hk'
         ·dsimp only at hk'
          split at hk'
          ·rename_i e1
           split at hk'
           ·rename_i y hy
            cases hk'
            rcases hor with hor | ⟨y',hor⟩
            ·cases hor
             obtain ⟨κ2,ln2,z2,R2⟩:=kgK R hok hcl R' hy
             subst e1
             exact khj (thenN (IH _ _ _ _ _ _ _ _ _ _ _ _ W R2 ok hk2))
            ·cases hor
           ·exact kaa hk'
          ·exact kaa hk'
    | rangeFunc f ps assign body=>
     dsimp only at hk
     split at hk
     ·exact kaa hk
     rename_i hIM
     have hD:D.it=none:=hY.1 (by cases hh:alk Δ IM with
      | none=>rfl
      | some C=>rw [hh] at hIM; exact absurd rfl hIM)
     refine SatL.wk R.R fun env h R1=>?_
     replace R:RJ J P κ ln ahN c { s with dy:=false } env h n:=⟨R1,R.j,R.w⟩
     clear R1
     generalize hs':({ s with dy:=false }:TS sem)=s' at *
     clear hs'
     split at hk
     rotate_left
     ·exact kaa hk
     rename_i g caps hf
     split at hk
     ·exact kaa hk
     rename_i I hI
     split at hk
     ·exact kaa hk
     rename_i la ids hl
     split at hk
     rotate_left
     ·exact kaa hk
     rename_i s0 a hs0 ha
     obtain ⟨e0',hp0,n0,dy0⟩:=s0
     split at hk
     ·exact kaa hk
     rename_i l hla
     split at hk
     ·exact kaa hk
     rename_i hcond
     simp only [jap,jbc,not_or,jbh,Bool.not_eq_false',ne_eq,Decidable.not_not,jaj,Bool.not_eq_false] at hcond
     obtain ⟨⟨⟨⟨⟨hok,hhe⟩,hoe⟩,hps⟩,hpl⟩,hts⟩:=hcond
     split at hk
     ·exact kaa hk
     rename_i x hx
     obtain ⟨xs,hxs,hk⟩:=jaa.1 hk
     obtain ⟨e,he,hkE⟩:=jaa.1 hk
     obtain ⟨F,hF,he⟩:=krb he
     have hfe:=R.R.ev f
     rw [hf] at hfe
     obtain ⟨as,hfa,hcaps⟩:=hfe.fn_inv
     obtain ⟨C,hC,hIh⟩:=jaa.1 hI
     have hG:=(hΔ.at hC).2.2.2 I (List.mem_of_mem_head? hIh)
     obtain ⟨as',g1,g2,g3⟩:=kdr hΔ R.R _ _ _ hcaps hl
     have hAR:=kfI _ _ _ _ g1 ha
     have hit:=hG.2 a xs hxs as' hAR
     have Re:=R.R.eat rfl hs0
     have Rj:RJ J P κ ln ahN c ⟨e0',hp0,n0,false⟩ env _ n:=⟨Re,R.j,R.w⟩
     have W':=kjI Rj.R W hok
     have R1:=Rj.into hok
     have hcs:∀ id,(inCx l c (⟨e0',hp0,n0,false⟩:TS sem)).has id=true->id<n0:=fun id hi=>R1.R.has_lt W' hi
     have hcl:∀ id,(inCx l c (⟨e0',hp0,n0,false⟩:TS sem)).has id=true->id<l.n:=fun id hi=>jao (hcs id hi) (kcs hok).2.2.2.2.2.2
     have hhe':l.head.env=[]:=by simpa using hhe
     have hoe':l.out.env=[]:=by simpa using hoe
     have hue:∀ y,(kae (A:=sem) l.head n0 y).env=[]:=fun y=>by unfold kae; rw [hhe']; rfl
     have huo:∀ y,(kae (A:=sem) l.out l.n y).env=[]:=fun y=>by unfold kae; rw [hoe']; rfl
     have base:∀ x,TVR P κ ln ahN n0 ((alk (inCx l c (⟨e0',hp0,n0,false⟩:TS sem)).e0 x).getD .un) (lk env x):=fun x=>by
      cases hx0:alk (inCx l c (⟨e0',hp0,n0,false⟩:TS sem)).e0 x with
      | none=>exact .un _
      | some v=>have:=R1.R.env x; rw [R1.R.e0_tlk hx0] at this; exact this
     have ctx:∀ {κ':Nat->Option Nat} {ln':Nat->Nat} {z':AH} {N':Nat},(∀ x v id,alk (inCx l c (⟨e0',hp0,n0,false⟩:TS sem)).e0 x=some v->v.has id=true->κ' id = κ id/\ln' id=ln id/\id<N')->∀ x,TVR P κ' ln' z' N' ((alk (inCx l c (⟨e0',hp0,n0,false⟩:TS sem)).e0 x).getD .un) (lk env x):=fun {κ' ln' z' N'} hag x=>by
      have hb:=base x
      cases hx0:alk (inCx l c (⟨e0',hp0,n0,false⟩:TS sem)).e0 x with
      | none=>exact .un _
      | some v=>
       rw [hx0] at hb
       exact hb.congr (fun id hi=>hag x v id hx0 hi) (fun q B hq=>by cases hq)
     have tl0:∀ (s1:TS sem) x,s1.env=[]->tlk (inCx l c (⟨e0',hp0,n0,false⟩:TS sem)) s1 x=(alk (inCx l c (⟨e0',hp0,n0,false⟩:TS sem)).e0 x).getD .un:=fun s1 x hs=>by unfold tlk; rw [hs]; rfl
     have swapU:∀ {κ':Nat->Option Nat} {ln':Nat->Nat} {z':AH} {y:l.head.ty.den} {env':Env} {h':AH} {n':Nat},RJ ⟨(inCx l c (⟨e0',hp0,n0,false⟩:TS sem)).e0,κ,ln⟩ P κ' ln' z' (inCx l c (⟨e0',hp0,n0,false⟩:TS sem)) (kae l.head n0 y) env' h' n'->RJ ⟨(inCx l c (⟨e0',hp0,n0,false⟩:TS sem)).e0,κ,ln⟩ P κ' ln' z' (inCx l c (⟨e0',hp0,n0,false⟩:TS sem)) (kae l.head n0 y) env h' n':=fun {κ' ln' z' y env' h' n'} Ru=>
      ⟨Ru.R.swap fun x=>by rw [tl0 _ x (hue y)]; exact ctx (fun x v id hxv hi=>⟨(Ru.j x v id hxv hi).1,(Ru.j x v id hxv hi).2,Ru.R.has_lt W' (kcq hxv hi)⟩) x,Ru.j,Ru.w⟩
     have fin:∀ {κ':Nat->Option Nat} {ln':Nat->Nat} {z':AH} {s1:TS sem} {y:l.out.ty.den} {env':Env} {h':AH} {n':Nat},RJ ⟨(inCx l c (⟨e0',hp0,n0,false⟩:TS sem)).e0,κ,ln⟩ P κ' ln' z' (inCx l c (⟨e0',hp0,n0,false⟩:TS sem)) s1 env' h' n'->pack (inCx l c (⟨e0',hp0,n0,false⟩:TS sem)) l.n l.out s1=some y->mach P Δ An nt fuel res c cs K (outTS l c (⟨e0',hp0,n0,false⟩:TS sem) y)=some rr->SatL P nt D O cs Q ⟨env,h',n'⟩:=fun {κ' ln' z' s1 y env' h' n'} Ru hy hk'=>by
      obtain ⟨κ2,ln2,z2,R2,ag⟩:=kqF Rj.R hok hcl Ru.R hy
      have hag:∀ x v id,alk (inCx l c (⟨e0',hp0,n0,false⟩:TS sem)).e0 x=some v->v.has id=true->κ2 id = κ id/\ln2 id=ln id/\id<l.n:=fun x v id hxv hi=>
       ⟨(ag id (kcq hxv hi)).1.trans (Ru.j x v id hxv hi).1,(ag id (kcq hxv hi)).2.trans (Ru.j x v id hxv hi).2,hcl id (kcq hxv hi)⟩
      have R3:Rel P κ2 ln2 z2 c (outTS l c (⟨e0',hp0,n0,false⟩:TS sem) y) env h' n':=R2.swap fun x=>by
       have ht:tlk c (outTS l c (⟨e0',hp0,n0,false⟩:TS sem) y) x=(alk (inCx l c (⟨e0',hp0,n0,false⟩:TS sem)).e0 x).getD .un:=by
        unfold tlk
        have:alk (outTS l c (⟨e0',hp0,n0,false⟩:TS sem) y).env x=if l.keep.contains x then some (tlk c (⟨e0',hp0,n0,false⟩:TS sem) x) else none:=by
         show alk ((kae (A:=sem) l.out l.n y).env++l.keep.map fun x=>(x,tlk c (⟨e0',hp0,n0,false⟩:TS sem) x)) x=_
         rw [huo,jbg,khT]
        rw [this,kfl]
        split <;> rename_i hc2 <;> split at hc2 <;> simp_all
       rw [ht]
       exact ctx hag x
      refine IH _ _ _ _ _ _ _ _ _ _ _ _ W ⟨R3,fun x v id hv hi=>?_,Rj.w⟩ ok hk'
      have hv':alk (inCx l c (⟨e0',hp0,n0,false⟩:TS sem)).e0 x=some v:=R1.w x v hv
      exact ⟨(hag x v id hv' hi).1.trans (R.j x v id hv hi).1,(hag x v id hv' hi).2.1.trans (R.j x v id hv hi).2⟩
     have R1r:RJ ⟨(inCx l c (⟨e0',hp0,n0,false⟩:TS sem)).e0,κ,ln⟩ P κ ln ahN (inCx l c (⟨e0',hp0,n0,false⟩:TS sem)) ⟨e0'.filter (fun x=>!l.keep.contains x.1),hp0.filter (fun x=>!l.gids.contains x.1),n0,false⟩ env _ n:=⟨R1.R,fun x v id _ _=>⟨rfl,rfl⟩,fun x v h=>h⟩
     obtain ⟨κ0,ln0,z0,R0⟩:=kfx hok hcs R1r hx
     have hnoIM:¬ (alk Δ IM).isSome=true:=hIM
     have stops:∀ {Q':Exit->St->Prop},D.it.isSome=true->∀ st,lk st.env GS = .ud->Q' .ret st:=fun hi=>by rw [hD] at hi; cases hi
     refine SatL.block (SatL.ofS (Sat.rangeFunc hD (ids.flatMap (ows κ ln c s')) hfa (hE:=hz (ows κ ln c s') h ahN ids) (fun i B hi=>?_) (fun i B hi=>?_) g2 hit (fun y hy=>?_) (fun p hp=>?_)
      (fun k h n=>∃ m x κ' ln' z',itN F m ((k:Int),x)=some e/\RJ ⟨(inCx l c (⟨e0',hp0,n0,false⟩:TS sem)).e0,κ,ln⟩ P κ' ln' z' (inCx l c (⟨e0',hp0,n0,false⟩:TS sem)) (kae l.head n0 x) env h n) ⟨18446744073709551616,x,κ0,ln0,z0,he,R0⟩ (fun k xA h1 n1 hxA hI1=>?_) (fun h1 n1 hI1=>?_)))
     ·refine ⟨?_,kcG R.R.zin i B hi⟩
      unfold hz at hi
      split at hi
      ·rename_i hany
       obtain ⟨id,hid,hke⟩:=jbj.1 hany
       rw [jbk]
       exact List.mem_flatMap.2 ⟨id,hid,by simpa using hke⟩
      ·cases hi
     ·split at hi
      ·cases hi
      ·rename_i hcon; exact ⟨by simpa using hcon,hi⟩
     ·obtain ⟨y',_,rfl⟩:=jax.1 hy
      rw [kpK]; exact hpl
     ·have:=jam.1 hps p hp
      simp only [jab,jaj] at this
      exact this.2
     ·obtain ⟨m,x1,κ1,ln1,z1,hm,Ru⟩:=hI1
      rw [jbb] at hxA
      obtain ⟨e',he',rfl⟩:=jac.1 hxA
      obtain ⟨m',rfl,hstep⟩:=kkW hm
      obtain ⟨w,hw,hor⟩:∃ w,F ((k:Int),x1)=some w/\(w = .inr e\/∃ y,w = .inl y/\itN F m' y=some e):=by
       rcases hstep with ⟨y,hy,hyk⟩ | hr
       ·exact ⟨_,hy,.inr ⟨y,rfl,hyk⟩⟩
       ·exact ⟨_,hr,.inl rfl⟩
      rw [hF] at hw
      dsimp only at hw
      rcases kbp hw with ⟨hb,hw⟩ | ⟨hb,hw⟩
      rotate_left
      ·exfalso
       have hlt:=(jad.1 he').1
       have hb2:¬ ((k:Int)<(xs.length:Int)):=of_decide_eq_false hb
       omega
      obtain ⟨e2,hge,hw⟩:=jaa.1 hw
      have hee:e2=e':=by
       have h3:=(kjt hge).2
       simp only [Int.toNat_natCast] at h3
       rw [he'] at h3; cases h3; rfl
      subst hee
      have hl2:(unT sem I.ts e2).length=ps.toList.length:=by rw [kpi]; simpa using hpl
      have Rr:RJ ⟨(inCx l c (⟨e0',hp0,n0,false⟩:TS sem)).e0,κ,ln⟩ P κ1 ln1 z1 (inCx l c (⟨e0',hp0,n0,false⟩:TS sem)) ⟨rndE ps.toList (unT sem I.ts e2) (kae (A:=sem) l.head n0 x1).env,(kae (A:=sem) l.head n0 x1).hp,(kae (A:=sem) l.head n0 x1).n,(kae (A:=sem) l.head n0 x1).dy⟩ (kgr ps.toList (avsL I.ts e2) env) h1 n1:=by
       refine ⟨⟨fun y=>ksl _ _ _ ps.toList _ _ _ _ hl2 (khV I.ts e2 hts) (fun t=>Ru.R.env t) y,Ru.R.blk,Ru.R.lt,Ru.R.inj,Ru.R.zin,Ru.R.zout,Ru.R.bnd,Ru.R.hn,fun y v hy=>?_,Ru.R.g,Ru.R.dy,Ru.R.zk,Ru.R.fam⟩,Ru.j,Ru.w⟩
       rcases ktD ps.toList _ _ hy with hy | hy
       ·have:=jam.1 hps y hy
        simp only [jab,jdp] at this
        exact this.1
       ·rw [hue] at hy; cases hy
      have hresR:∀ (c1:Cx sem) κ2 ln2 s1 env1 h1 n1 v,CxWf c1->RJ ⟨(inCx l c (⟨e0',hp0,n0,false⟩:TS sem)).e0,κ,ln⟩ P κ2 ln2 ahN c1 s1 env1 h1 n1->(fun (c1:Cx sem) (s1:TS sem)=>res ⟨(inCx l c (⟨e0',hp0,n0,false⟩:TS sem)).e0,c1.g⟩ ⟨[],s1.hp,s1.n,s1.dy⟩) c1 s1=some v->(fun v (st:St)=>RetQ v ⟨env,st.h,st.n⟩) v ⟨env1,h1,n1⟩:=fun c1 κ2 ln2 s1 env1 h1 n1 v W1 Rc hv=>by
       refine hres ⟨(inCx l c (⟨e0',hp0,n0,false⟩:TS sem)).e0,c1.g⟩ κ2 ln2 ⟨[],s1.hp,s1.n,s1.dy⟩ env h1 n1 v ⟨W'.e0,W1.g⟩ ⟨⟨fun y=>?_,Rc.R.blk,Rc.R.lt,Rc.R.inj,Rc.R.zin,Rc.R.zout,Rc.R.bnd,Rc.R.hn,fun y v hy=>(by cases hy),Rc.R.g,Rc.R.dy,Rc.R.zk,Rc.R.fam⟩,fun y v id hv hi=>?_,fun y v hv=>R1.w y v hv⟩ hv
       ·show TVR P κ2 ln2 ahN s1.n ((alk (inCx l c (⟨e0',hp0,n0,false⟩:TS sem)).e0 y).getD .un) (lk env y)
        exact ctx (fun x v id hxv hi=>⟨(Rc.j x v id hxv hi).1,(Rc.j x v id hxv hi).2,Rc.R.has_lt W1 (kcq (Rc.w x v hxv) hi)⟩) y
       ·have hv':alk (inCx l c (⟨e0',hp0,n0,false⟩:TS sem)).e0 y=some v:=R1.w y v hv
        exact ⟨(Rc.j y v id hv' hi).1.trans (R.j y v id hv hi).1,(Rc.j y v id hv' hi).2.trans (R.j y v id hv hi).2⟩
      have hYr:YOk P D Δ ⟨(inCx l c (⟨e0',hp0,n0,false⟩:TS sem)).e0,κ,ln⟩:=⟨fun _=>hD,fun hh=>absurd hh hnoIM⟩
      refine Sat.ofL (SatL.mono (cs:=[assign]) (fun e s hq=>hq) (@IHg r (fun (c1:Cx sem) (s1:TS sem)=>res ⟨(inCx l c (⟨e0',hp0,n0,false⟩:TS sem)).e0,c1.g⟩ ⟨[],s1.hp,s1.n,s1.dy⟩) ⟨(inCx l c (⟨e0',hp0,n0,false⟩:TS sem)).e0,κ,ln⟩ (fun v (st:St)=>RetQ v ⟨env,st.h,st.n⟩) hresR hYr (.sm (.pr (.i .i64) l.head.ty) (.sm r l.out.ty)) (inCx l c (⟨e0',hp0,n0,false⟩:TS sem)) [assign] _ _ (thenQ (fun s=>Sat P nt D O body (bodyQ (kdz id (thenQ (SatL P nt D O cs Q) Q)) env (fun k h n=>∃ m x κ' ln' z',itN F m ((k:Int),x)=some e/\RJ ⟨(inCx l c (⟨e0',hp0,n0,false⟩:TS sem)).e0,κ,ln⟩ P κ' ln' z' (inCx l c (⟨e0',hp0,n0,false⟩:TS sem)) (kae l.head n0 x) env h n) k) s) (fun _ _=>False)) w κ1 ln1 z1 _ h1 n1 W' Rr
       ⟨fun κ2 ln2 z2 s2 env2 h2 n2 Rb hkb=>?_,fun _ _ _ _ _ _ _ _ _ hf=>kaa hf,fun _ _ _ hf=>kaa hf,stops⟩ hw))
      refine Sat.ofL (@IHg r (fun (c1:Cx sem) (s1:TS sem)=>res ⟨(inCx l c (⟨e0',hp0,n0,false⟩:TS sem)).e0,c1.g⟩ ⟨[],s1.hp,s1.n,s1.dy⟩) ⟨(inCx l c (⟨e0',hp0,n0,false⟩:TS sem)).e0,κ,ln⟩ (fun v (st:St)=>RetQ v ⟨env,st.h,st.n⟩) hresR hYr (.sm (.pr (.i .i64) l.head.ty) (.sm r l.out.ty)) (inCx l c (⟨e0',hp0,n0,false⟩:TS sem)) [body] _ s2 _ w κ2 ln2 z2 env2 h2 n2 W' Rb ⟨fun κ3 ln3 z3 s3 env3 h3 n3 Rc hk3=>?_,fun id' κ3 ln3 z3 s3 env3 h3 n3 Rc hk3=>?_,fun v st hv hk3=>?_,stops⟩ hkb)
      ·dsimp only at hk3
       split at hk3
       ·rename_i y hy
        cases hk3
        obtain ⟨κ4,ln4,z4,R4⟩:=kfx hok hcs Rc hy
        rcases hor with hor | ⟨y',hor,hyk⟩
        ·cases hor
        ·cases hor
         exact ⟨m',y,κ4,ln4,z4,by rw [show ((k+1:Nat):Int)=(k:Int)+1 by omega]; exact hyk,swapU R4⟩
       ·exact kaa hk3
      ·dsimp only at hk3
       split at hk3
       ·rename_i e1
        split at hk3
        ·rename_i y hy
         cases hk3
         rcases hor with hor | ⟨y',hor,_⟩
         ·cases hor
          subst e1
          exact khj (thenN (fin Rc hy hkE))
         ·cases hor
        ·exact kaa hk3
       ·exact kaa hk3
      ·cases hk3
       rcases hor with hor | ⟨y',hor,_⟩
       ·cases hor
        exact ok.retv v _ hv hkE
       ·cases hor
     ·obtain ⟨m,x1,κ1,ln1,z1,hm,Ru⟩:=hI1
      obtain ⟨m',rfl,hstep⟩:=kkW hm
      have hw:∃ w,F (((xs.map fun y=>avsL I.ts y).length:Int),x1)=some w/\(w = .inr e\/∃ y,w = .inl y/\itN F m' y=some e):=by
       rcases hstep with ⟨y,hy,hyk⟩ | hr
       ·exact ⟨_,hy,.inr ⟨y,rfl,hyk⟩⟩
       ·exact ⟨_,hr,.inl rfl⟩
      obtain ⟨w,hw,hor⟩:=hw
      rw [hF] at hw
      dsimp only at hw
      rcases kbp hw with ⟨hb,hw⟩ | ⟨hb,hw⟩
      ·exfalso
       simp only [jav,jaj,ktw] at hb
       omega
      split at hw
      ·rename_i y hy
       cases hw
       rcases hor with hor | ⟨y',hor,_⟩
       ·cases hor
        exact fin Ru hy hkE
       ·cases hor
      ·exact kaa hw
    | _=>exact gen _ hk
   all_goals exact kaa hk
end
section
variable {P:Program} {κ:Nat->Option Nat} {ln:Nat->Nat} {z:AH} {c:Cx sem} {s:TS sem} {env:Env} {h:AH} {n:Nat}
theorem hz_le (R:Rel P κ ln z c s env h n) (ids:List Nat):∀ q B,hz (ows κ ln c s) h z ids q=some B->h q=some B:=by
 intro q B hq
 unfold hz at hq
 split at hq
 ·exact hq
 ·exact R.zin q B hq
theorem kjZ (R:Rel P κ ln z c s env h n) {T:TypeId} {x:Tmp} {w:TV sem} (hc:cellX P c s T (tlk c s x)=some w) :
  ∃ a,kbA P h env (.cell x T)=some a/\TVR P κ ln z s.n w a:=by
 have hv:=R.env x
 unfold cellX at hc
 split at hc
 ·cases hc
 ·rename_i ag hag
  split at hc
  ·rename_i id j he
   rw [he] at hv
   generalize hE:lk env x=a at hv
   cases hv with
   | ptr _ _ q hN hq=>
    split at hc
    ·rename_i T' vs hB
     cases R.blk _ _ hB with
     | bx _ _ q' as hq' hh hvs h1=>
      rw [hq] at hq'; cases hq'
      have hl:=hvs.len
      have hd:deref h (lk env x)=some (as.drop j):=by rw [hE]; simp only [deref,hh]; rfl
      cases ag with
      | true=>
       simp only [if_true] at hc
       split at hc
       ·rename_i hle
        cases hc
        refine ⟨_,?_,.ag _ _ ((hvs.drop j).take _) (fun a ha=>h1 a (jcx (jcw ha)))⟩
        simp only [kbA,hd,hag]
        rw [if_pos (by simp; omega)]
       ·cases hc
      | false=>
       simp only [jal,if_false] at hc
       obtain ⟨a,ha,hva⟩:=hvs.at hc
       refine ⟨a,?_,hva⟩
       simp only [kbA,hd,hag]
       rw [jas]; simpa using ha
    ·rename_i T' t y hB
     cases R.blk _ _ hB with
     | el _ _ _ q' cs hd hq' hh hvs h1 hl=>
      rw [hq] at hq'; cases hq'
      have hdr:deref h (lk env x)=some (cs.drop j):=by rw [hE]; simp only [deref,hh]; rfl
      obtain ⟨p,hp,rfl⟩:=jac.1 hc
      obtain ⟨t',y'⟩:=p
      obtain ⟨g1,g2,g3,g4,g5⟩:=keT t y j (P.cellsOf T) ag cs hd hp hvs
      obtain ⟨a,k1,k2,k3⟩:=khv (P:=P) (κ:=κ) (ln:=ln) (N:=s.n) (m:=P.cellsOf T) (cs:=cs.drop j) g1 g2 g3 g5 (by rw [jdy]; omega)
      refine ⟨a,?_,k1⟩
      simp only [kbA,hdr,hag]
      cases ag with
      | true=>simp only []; rw [if_pos (by rw [jdy]; omega),<-k2 rfl]
      | false=>exact k3 rfl
    ·cases hc
  ·cases hc
theorem kic (R:Rel P κ ln z c s env h n):∀ (l:List ResultVar) (rs:List Ty) (ys:List ((t:Ty)×sem.D t)),resX (A:=sem) P c s l rs=some ys->
  ∃ as bs,l.mapM (kbA P h env)=some as/\SnapL h as bs/\AL P ys bs/\rs.all Ty.dat=true
 | [],[],ys,hr=>by
  simp only [resX,Option.some.injEq] at hr; subst hr
  exact ⟨[],[],rfl,.nil,.nil,rfl⟩
 | .tmp t::l,r::rs,ys,hr=>by
  simp only [resX] at hr
  obtain ⟨⟨x,ids⟩,hx,hr⟩:=jaa.1 hr
  obtain ⟨y,hy,rfl⟩:=jac.1 hr
  obtain ⟨as,bs,h1,h2,h3,h4⟩:=kic R l rs y hy
  obtain ⟨hd,hs,_⟩:=kaS R (R.env t) hx
  refine ⟨lk env t::as,r.av x::bs,?_,.cons (hs.mono (hz_le R ids)) h2,.cons ((kbL hd).2 rfl) h3,by simp [hd,h4]⟩
  rw [jdw,h1]; rfl
 | .cell a T::l,r::rs,ys,hr=>by
  simp only [resX] at hr
  obtain ⟨v,hv,hr⟩:=jaa.1 hr
  obtain ⟨⟨x,ids⟩,hx,hr⟩:=jaa.1 hr
  obtain ⟨y,hy,rfl⟩:=jac.1 hr
  obtain ⟨as,bs,h1,h2,h3,h4⟩:=kic R l rs y hy
  obtain ⟨u,hu,huv⟩:=kjZ R hv
  obtain ⟨hd,hs,_⟩:=kaS R huv hx
  refine ⟨u::as,r.av x::bs,?_,.cons (hs.mono (hz_le R ids)) h2,.cons ((kbL hd).2 rfl) h3,by simp [hd,h4]⟩
  rw [jdw,h1,hu]; rfl
 | [],_::_,ys,hr=>by simp [resX] at hr
 | .tmp _::_,[],ys,hr=>by simp [resX] at hr
 | .cell _ _::_,[],ys,hr=>by simp [resX] at hr
theorem SnapL.tp {as bs:List AV} (hs:SnapL h as bs):Snap h (.tp as) (.tp bs):=.tp as bs hs.len hs.at
theorem kny (R:Rel P κ ln z c s env h n) {l:List ResultVar} {rs:List Ty} {v:(tup rs).den} (hr:(resX (A:=sem) P c s l rs).bind (mkT sem rs)=some v) :
  ∃ a,kaL P h env l=some a/\Snap h a (rav rs v):=by
 obtain ⟨ys,hy,hm⟩:=jaa.1 hr
 obtain ⟨as,bs,h1,h2,h3,h4⟩:=kic R l rs ys hy
 have hb:=kiL h4 (kfI rs ys bs v h3 hm)
 subst hb
 have hl:=h2.len
 match rs,v,h2,hl with
 | [],v,h2,hl=>
  cases h2
  exact ⟨.tp [],by simp only [kaL,h1],SnapL.tp .nil⟩
 | [t],v,h2,hl=>
  cases h2 with
  | cons h5 h6=>cases h6; exact ⟨_,by simp only [kaL,h1],h5⟩
 | t::u::ts,v,h2,hl=>
  have e:rav (t::u::ts) v = .tp (avsL (t::u::ts) v):=rfl
  rw [e]
  match as,hl,h1,h2 with
  | [],hl,_,_=>simp [avsL] at hl
  | [_],hl,_,_=>exfalso; cases ts <;> simp [avsL] at hl
  | a::b::as,_,h1,h2=>exact ⟨_,by simp only [kaL,h1],SnapL.tp h2⟩
theorem kok:∀ {ys:List ((t:Ty)×t.den)} {as:List AV},AL P ys as->∀ (k x:Nat),TVR P κ ln z n (tlk (A:=sem) ⟨[],[]⟩ ⟨(ys.zipIdx k).map fun y=>(y.2,argT (A:=sem) y.1.1 y.1.2),[],n,false⟩ x) (lk ((as.zipIdx k).map fun (v,i)=>(i,v)) x)
 | [],_,.nil,k,x=>by exact .un _
 | p::ys,_,.cons (a:=a) (as:=as) h1 hl,k,x=>by
  have ih:=kok hl (k+1) x
  simp only [jbw,jau,tlk,alk,lk] at ih ⊢
  by_cases e:x=k
  ·simp only [if_pos e]
   obtain ⟨t,y⟩:=p
   cases t <;> first | exact .cv _ _ _ _ _ h1 | (obtain ⟨hd,rfl⟩:=h1; exact .c _ _ _ hd (.free _ (keu _ _ hd)))
  ·simp only [if_neg e]; exact ih
theorem krX:∀ {ts:List Ty} {x:(tup ts).den} {l:List AV},AR P ts x l->AL P (unT sem ts x) l
 | [],_,_,rfl=>.nil
 | [t],x,_,⟨a,rfl,h⟩=>.cons h .nil
 | t::u::ts,x,_,⟨a,l',rfl,h,h'⟩=>.cons h (krX h')
theorem AL.len {ys:List ((t:Ty)×t.den)} {as:List AV} (h:AL P ys as):as.length=ys.length:=by induction h <;> simp [*]
theorem kqN:∀ (ts:List Ty) (x:(tup ts).den),(unT sem ts x).length=ts.length
 | [],_=>rfl
 | [t],_=>rfl
 | t::u::ts,x=>by simp [unT,kqN (u::ts)]
theorem kaj {g:FuncId} {C:Ctr} {f:Func} (hf:P.funcs[g]?=some f) (hd:(C.rs.all Ty.dat&&C.as.length<=f.ntmps&&!(f.name== "runtime.NumGoroutine"))=true) {An:List (Nat×La)} (Δ:List (FuncId×Ctr)) (hΔ:Goods P Δ)
  (he:∀ x,C.F x=machF P Δ (anL An) f C.as C.rs (A:=sem) x) (hM:∀ M∈C.mus,M.ok=true/\GoodM P g M:=by intro M h; cases h) (hI:∀ I∈C.its,GoodI P g I:=by intro M h; cases h) (hM0:(alk Δ IM).isNone=true:=by rfl):Good P g C:=by
 simp only [jab,jbc,jaj] at hd
 obtain ⟨⟨h1,h2⟩,h3⟩:=hd
 refine ⟨h1,fun x r hr l hl=>?_,hM,hI⟩
 rw [he,machF] at hr
 dsimp only at hr
 split at hr
 ·exact kaa hr
 ·rename_i body hb
  have hal:=krX hl
  refine PC.of_body hf hb h3 (by rw [hal.len,kqN]; exact h2) fun D O hD=>?_
  refine khP (D:=D) (O:=O) hΔ 1000000 (RetQ:=fun v st=>∃ a,kaL P st.h st.env f.results.toList=some a/\Snap st.h a (rav C.rs v)) (J:=⟨[],fun _=>none,fun _=>0⟩) (fun c κ ln s env h n v _ R hv=>kny R.R hv) (hY:=⟨fun _=>hD,fun hh=>absurd hh (by cases hx:alk Δ IM with | none=>decide | some C=>rw [hx] at hM0; cases hM0)⟩) ⟨[],[]⟩ [body] _ _ _ r (fun _=>none) (fun _=>0) (fun _=>none) (kap l) ah0 0
   ⟨fun x v h=>(by cases h),fun x B h=>(by cases h)⟩ ?_ ?_ hr
  ·refine ⟨⟨fun x=>?_,fun id B h=>(by cases h),fun id B h=>(by cases h),fun i j B B' q h=>(by cases h),fun q B h=>(by cases h),fun id B q h=>(by cases h),fun id B q h=>(by cases h),fun q _=>rfl,fun x v h=>rfl,fun id b h=>(by cases h),fun _=>rfl,fun q k T es h=>(by cases h),fun id B h=>(by cases h)⟩,fun x v id hv=>(by cases hv),fun x v hv=>(by cases hv)⟩
   exact kok (n:=0) hal 0 x
  ·refine ⟨fun κ ln z s env h n R hk=>?_,fun id κ ln z s env h n R hk=>kaa hk,fun v st hv hk=>?_,fun hi=>by rw [hD] at hi; cases hi⟩
   ·dsimp only at hk
    split at hk
    ·rename_i v hv
     cases hk
     obtain ⟨a,q1,q2⟩:=kny R.R hv
     exact ⟨a,q1,_,q2,rfl⟩
    ·exact kaa hk
   ·cases hk
    obtain ⟨a,q1,q2⟩:=hv
    exact ⟨a,q1,_,q2,rfl⟩
end
section
variable {P:Program} {κ κ':Nat->Option Nat} {ln ln':Nat->Nat} {z z':AH} {c:Cx sem} {s:TS sem} {env:Env} {h h':AH} {n n' N N':Nat}
def tied:TV sem->Bool
 | .mw _ | .ptr _ _ | .mp _ | .fw _ | .kp _=>true
 | _=>false
theorem TVR.tied {v:TV sem} {a:AV} (ht:tied v=true) (h:TVR P κ ln z N v a):TVR P κ ln z' N v a:=by
 cases v <;> simp only [Abs.tied,jal] at ht
 ·cases h with | ptr _ _ q h1 h2=>exact .ptr _ _ q h1 h2
 ·cases h with
  | mw0 _ h1 h2=>exact .mw0 _ h1 h2
  | mw _ q h1 h2=>exact .mw _ q h1 h2
 ·cases h with | mp _ q h1 h2=>exact .mp _ q h1 h2
 ·cases h with
  | fw0 _ h1 h2=>exact .fw0 _ h1 h2
  | fw _ q h1 h2=>exact .fw _ q h1 h2
 ·cases h with | kp _ h1=>exact .kp _ h1
theorem Rel.thaw (R:Rel P κ ln z c s env h n) (ht:∀ x,tied (tlk c s x)=true\/tlk c s x = .un) {O:Nat->Prop} {μ:Mu} {w:World} (hr:HR w O μ h n) :
  ∃ μ' h2,Rel P κ ln ahN c { s with dy:=false } env h2 n/\HR w O μ' h2 n/\Evo w μ n w μ' n:=by
 obtain ⟨p,h2,hz,hbr,hn2,hr2⟩:=R.conv hr
 refine ⟨muP p μ,h2,⟨fun x=>?_,hbr,R.lt,R.inj,fun q B hq=>(by cases hq),fun _ _ _ _ _=>rfl,R.bnd,hn2,R.e0,R.g,fun _=>rfl,fun q k T es hq=>(by cases hq),R.famD⟩,hr2,kjE hr p⟩
 have hx:=R.env x
 show TVR P κ ln ahN s.n (tlk c s x) (lk env x)
 rcases ht x with h1 | h1
 ·exact hx.tied h1
 ·rw [h1]; exact .un _
theorem HC.fin {f:FuncId} {args:List AV} {K:K3} (hc:HC P f args h n (fun v h' n'=>(∃ h2:AH,(∀ q B,h2 q=some B->h' q=some B)/\K v h2 n')\/
  (v = .tp []/\∃ κ ln z c s env,Rel P κ ln z c s env h' n'/\(∀ x,tied (tlk c s x)=true\/tlk c s x = .un)/\∀ h2:AH,Rel P κ ln ahN c { s with dy:=false } env h2 n'->∃ h3:AH,(∀ q B,h3 q=some B->h2 q=some B)/\K v h3 n'))):HC P f args h n K:=by
 refine ⟨hc.1,fun O μ w vs hr hs hv=>(hc.2 O μ w vs hr hs hv).mono ?_⟩
 rintro e w' ⟨u,v,h',n',μ',rfl,hor,q2,q3,q4⟩
 rcases hor with ⟨h2,q0,q1⟩ | ⟨rfl,κ,ln,z,c,s,env,R,ht,hk⟩
 ·exact ⟨u,v,h2,n',μ',rfl,q1,⟨q2.olt,q2.scope,q2.inj,q2.notO,fun id B hB=>q2.blk id B (q0 id B hB)⟩,q3,q4⟩
 ·obtain ⟨μ2,h2,R2,r2,e2⟩:=R.thaw ht q2
  obtain ⟨h3,q0,q1⟩:=hk h2 R2
  exact ⟨u,_,h3,n',μ2,rfl,q1,⟨r2.olt,r2.scope,r2.inj,r2.notO,fun id B hB=>r2.blk id B (q0 id B hB)⟩,q3.flat (.tp [] fun j c hj=>by simp at hj) _ _ _ _,q4.trans e2⟩
end
end Go.Abs
