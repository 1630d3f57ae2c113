/- The machinery, part 7. -/
import Derived.ProofKit
import Derived.Test.YtadfdnfenimkpaaZ2
import Derived.Test.YtadfdnfenimkpaaZ3
import Derived.Test.YtadfdnfenimkpaaZ6
set_option linter.constructorNameAsVariable false
set_option linter.unusedVariables false
set_option linter.unusedSimpArgs false
set_option linter.unusedSectionVars false
namespace Go.Abs
open Go Go.RowKit
section
variable {P:Program} {κ κ':Nat->Option Nat} {ln ln':Nat->Nat} {z z':AH} {c:Cx sem} {s:TS sem} {env:Env} {h:AH} {n N N':Nat}
def tiedD:TV sem->Bool
 | .mw _ | .ptr _ _ | .mp _ | .fw _=>true
 | _=>false
theorem TVR.det {v:TV sem} {a a':AV} (ht:tiedD v=true) (h:TVR P κ ln z N v a) (h':TVR P κ' ln' z' N' v a') (hk:∀ id,v.has id=true->κ' id = κ id/\ln' id=ln id):a'=a:=by
 cases v <;> simp only [tiedD,jal] at ht
 ·rename_i id j
  obtain ⟨e1,e2⟩:=hk id (by simp [TV.has])
  obtain ⟨q,k1,rfl⟩:=h.ptr_inv
  obtain ⟨q',k2,rfl⟩:=h'.ptr_inv
  rw [e1,k1] at k2; cases k2; rfl
 ·rename_i id
  obtain ⟨e1,e2⟩:=hk id (by simp [TV.has])
  cases h with
  | mw0 _ _ k1=>cases h' with
   | mw0=>rfl
   | mw _ q _ k2=>rw [e1,k1] at k2; cases k2
  | mw _ q _ k1=>cases h' with
   | mw0 _ _ k2=>rw [e1,k1] at k2; cases k2
   | mw _ q' _ k2=>rw [e1,k1] at k2; cases k2; rw [e2]
 ·rename_i id
  obtain ⟨e1,e2⟩:=hk id (by simp [TV.has])
  obtain ⟨q,k1,rfl⟩:=h.mp_inv
  obtain ⟨q',k2,rfl⟩:=h'.mp_inv
  rw [e1,k1] at k2; cases k2; rfl
 ·rename_i id
  obtain ⟨e1,e2⟩:=hk id (by simp [TV.has])
  cases h with
  | fw0 _ _ k1=>cases h' with
   | fw0=>rfl
   | fw _ q _ k2=>rw [e1,k1] at k2; cases k2
  | fw _ q _ k1=>cases h' with
   | fw0 _ _ k2=>rw [e1,k1] at k2; cases k2
   | fw _ q' _ k2=>rw [e1,k1] at k2; cases k2; rw [e2]
theorem kiM:∀ (ks:List (Option Ty)) {l:List ((t:Ty)×t.den)} {as:List AV} (k:Nat),PArgs P ks l as->∀ x v,alk (kaV (A:=sem) ks l k) x=some v->k<=x/\TVR P κ ln z N v (lk ((as.zipIdx k).map fun (v,i)=>(i,v)) x)
 | [],l,as,k,h,x,v,hv=>by simp [kaV,alk] at hv
 | some t::ks,[],as,k,h,x,v,hv=>by simp [kaV,alk] at hv
 | some t::ks,p::l,[],k,h,x,v,hv=>by simp [PArgs] at h
 | none::ks,l,[],k,h,x,v,hv=>by cases l <;> simp [PArgs] at h
 | some t::ks,p::l,a::as,k,h,x,v,hv=>by
  obtain ⟨h1,h2⟩:=h
  simp only [kaV,alk] at hv
  simp only [jbw,jau,lk]
  by_cases e:x=k
  ·rw [if_pos e] at hv; cases hv
   rw [if_pos e]
   refine ⟨by omega,?_⟩
   obtain ⟨t,y⟩:=p
   cases t <;> first | exact .cv _ _ _ _ _ h1 | (obtain ⟨hd,rfl⟩:=h1; exact .c _ _ _ hd (.free _ (keu _ _ hd)))
  ·rw [if_neg e] at hv
   rw [if_neg e]
   obtain ⟨g1,g2⟩:=kiM ks (k+1) h2 x v hv
   exact ⟨by omega,g2⟩
 | none::ks,l,a::as,k,h,x,v,hv=>by
  have h2:PArgs P ks l as:=by cases l <;> exact h
  simp only [kaV] at hv
  simp only [jbw,jau,lk]
  obtain ⟨g1,g2⟩:=kiM ks (k+1) h2 x v hv
  rw [if_neg (by omega)]
  exact ⟨by omega,g2⟩
theorem kjr:∀ (ks:List (Option Ty)) (k x:Nat),x∈kdn ks k->x<k+ks.length
 | [],k,x,h=>by cases h
 | some t::ks,k,x,h=>by
  simp only [kdn,jat] at h
  simp only [jaq]
  rcases h with rfl | h
  ·omega
  ·have:=kjr ks (k+1) x h; omega
 | none::ks,k,x,h=>by
  simp only [kdn] at h
  simp only [jaq]
  have:=kjr ks (k+1) x h; omega
theorem kqY:∀ (as:List AV) (k x:Nat),k+as.length<=x->lk ((as.zipIdx k).map fun (v,i)=>(i,v)) x = .un
 | [],k,x,h=>rfl
 | a::as,k,x,h=>by
  simp only [jaq] at h
  simp only [jbw,jau,lk]
  rw [if_neg (by omega),kqY as (k+1) x (by omega)]
theorem ksC {as:List AV} {x:Nat} (h:as.length<=x):lk (kap as) x = .un:=kqY as 0 x (by omega)
theorem kfr:∀ (ks:List (Option Ty)) {l:List ((t:Ty)×t.den)} (k:Nat),l.length=(ks.filterMap id).length->(kaV (A:=sem) ks l k).map (·.1)=kdn ks k
 | [],l,k,h=>by simp [kaV,kdn]
 | some t::ks,[],k,h=>by simp at h
 | some t::ks,p::l,k,h=>by simp only [kaV,kdn,jau]; rw [kfr ks (k+1) (by simpa using h)]
 | none::ks,l,k,h=>by simp only [kaV,kdn]; exact kfr ks (k+1) (by simpa using h)
theorem kjk:∀ {ks:List (Option Ty)} {l:List ((t:Ty)×t.den)} {as:List AV},PArgs P ks l as->as.length=ks.length
 | [],[],[],h=>rfl
 | [],_::_,_,h=>by simp [PArgs] at h
 | [],[],_::_,h=>by simp [PArgs] at h
 | some t::ks,[],as,h=>by simp [PArgs] at h
 | some t::ks,p::l,[],h=>by simp [PArgs] at h
 | none::ks,l,[],h=>by cases l <;> simp [PArgs] at h
 | some t::ks,p::l,a::as,h=>by simp [kjk h.2]
 | none::ks,l,a::as,h=>by
  have h2:PArgs P ks l as:=by cases l <;> exact h
  simp [kjk h2]
theorem kqQ:∀ (l:List (Nat×PV)) (xs:List ((t:Ty)×t.den)),(unE (A:=sem) l xs).1.map (·.1)=l.map (·.1)
 | [],xs=>rfl
 | (k,v)::l,xs=>by simp only [unE,jau]; rw [kqQ l]
theorem kfH {α:Type}:∀ {l:List (Nat×α)} {x:Nat} {v:α},(l.map (·.1)).Nodup->(x,v)∈l->alk l x=some v
 | [],x,v,_,h=>by cases h
 | (k,w)::l,x,v,hn,h=>by
  simp only [jau,jdk] at hn
  simp only [alk]
  rcases jat.1 h with h | h
  ·cases h; simp
  ·rw [if_neg]
   ·exact kfH hn.2 h
   ·exact fun e=>hn.1 (jax.2 ⟨(x,v),h,e⟩)
theorem khk (R:Rel P κ ln z c s env h n):∀ (l:List ResultVar) {vs:List (TV sem)},resTV (A:=sem) P c s l=some vs->∃ as,l.mapM (kbA P h env)=some as/\TVRs P κ ln z s.n vs as
 | [],vs,hr=>by simp only [resTV,Option.some.injEq] at hr; subst hr; exact ⟨[],rfl,.nil⟩
 | .tmp t::l,vs,hr=>by
  simp only [resTV,jac] at hr
  obtain ⟨vs,hv,rfl⟩:=hr
  obtain ⟨as,h1,h2⟩:=khk R l hv
  refine ⟨lk env t::as,?_,.cons _ _ _ _ (R.env t) h2⟩
  rw [jdw,h1]; rfl
 | .cell a T::l,vs,hr=>by
  simp only [resTV,jaa,jac] at hr
  obtain ⟨v,hc,vs,hv,rfl⟩:=hr
  obtain ⟨as,h1,h2⟩:=khk R l hv
  obtain ⟨u,hu,huv⟩:=kjZ R hc
  refine ⟨u::as,?_,.cons _ _ _ _ huv h2⟩
  rw [jdw,h1,hu]; rfl
theorem kox {l:List ResultVar} {as:List AV} (h1:l.mapM (kbA P h env)=some as):kaL P h env l=some (tpA as):=by
 unfold kaL tpA
 rw [h1]
 match as with
 | []=>rfl
 | [a]=>rfl
 | _::_::_=>rfl
theorem knY:∀ (vs:List (TV sem)) (k x:Nat) (E:List (Nat×TV sem)),alk ((vs.zipIdx k).map (fun x=>(1000000+x.2,x.1))++E) x=if 1000000+k<=x/\x<1000000+k+vs.length then vs[x-1000000-k]? else alk E x
 | [],k,x,E=>by
  simp only [List.zipIdx_nil,List.map_nil,jbg,List.length_nil]
  rw [if_neg (by omega)]
 | v::vs,k,x,E=>by
  simp only [jbw,jau,jdg,alk,jaq]
  by_cases e:x=1000000+k
  ·rw [if_pos e,if_pos (by omega),show x-1000000-k=0 by omega]; rfl
  ·rw [if_neg e,knY vs (k+1) x E]
   by_cases e2:1000000+k<=x/\x<1000000+k+(vs.length+1)
   ·rw [if_pos (by omega),if_pos e2,show x-1000000-k=(x-1000000-(k+1))+1 by omega,jcd]
   ·rw [if_neg (by omega),if_neg e2]
theorem kjJ:∀ (as:List AV) (k x:Nat) (E:Env),lk ((as.zipIdx k).map (fun x=>(1000000+x.2,x.1))++E) x=if 1000000+k<=x/\x<1000000+k+as.length then (as[x-1000000-k]?).getD .un else lk E x
 | [],k,x,E=>by
  simp only [List.zipIdx_nil,List.map_nil,jbg,List.length_nil]
  rw [if_neg (by omega)]
 | v::vs,k,x,E=>by
  simp only [jbw,jau,jdg,lk,jaq]
  by_cases e:x=1000000+k
  ·rw [if_pos e,if_pos (by omega),show x-1000000-k=0 by omega]; rfl
  ·rw [if_neg e,kjJ vs (k+1) x E]
   by_cases e2:1000000+k<=x/\x<1000000+k+(vs.length+1)
   ·rw [if_pos (by omega),if_pos e2,show x-1000000-k=(x-1000000-(k+1))+1 by omega,jcd]
   ·rw [if_neg (by omega),if_neg e2]
theorem kkn {α:Type}:∀ (l:List (Nat×α)) (x:Nat),alk (l.map fun y=>(y.1,some y.2)) x=(alk l x).map some
 | [],x=>rfl
 | (k,v)::l,x=>by
  simp only [jau,alk]
  split
  ·rfl
  ·exact kkn l x
theorem kui (R:Rel P κ ln ahN c s env h n) {vs:List (TV sem)} {as:List AV} (hv:TVRs P κ ln ahN s.n vs as):Rel P κ ln ahN ⟨[],[]⟩ (endM c s vs) (resE as++env) h n:=by
 have ht:∀ id,thp (⟨[],[]⟩:Cx sem) (endM c s vs) id=thp c s id:=fun id=>by
  unfold thp endM
  simp only [kaT,kkn]
  cases h1:alk s.hp id with
  | some b=>rfl
  | none=>cases h2:alk c.g id <;> simp [alk]
 refine ⟨fun x=>?_,fun id B hB=>R.blk id B (ht id ▸ hB),fun id B hB=>R.lt id B (ht id ▸ hB),fun i j B B' q hi hj=>R.inj i j B B' q (ht i ▸ hi) (ht j ▸ hj),R.zin,fun id B q hB=>R.zout id B q (ht id ▸ hB),fun id B q hB=>R.bnd id B q (ht id ▸ hB),R.hn,fun x v hx=>rfl,fun id b hb=>rfl,fun _=>rfl,fun q k T es hq=>(by cases hq),R.fam.map (fun id B hB=>.inl ⟨B,ht id ▸ hB,fun h=>h,rfl,rfl⟩) (fun id _ B r _ h1 h2 h3=>((R.fam id B h1 h2).2 r h3).2.1) (jai _)⟩
 have e1:tlk (⟨[],[]⟩:Cx sem) (endM c s vs) x=if 1000000+0<=x/\x<1000000+0+vs.length then (vs[x-1000000-0]?).getD .un else tlk c s x:=by
  have e0:alk (endM c s vs).env x=if 1000000+0<=x/\x<1000000+0+vs.length then vs[x-1000000-0]? else alk (s.env++c.e0) x:=knY vs 0 x _
  unfold tlk
  rw [e0]
  split
  ·rename_i v hv
   split at hv
   ·rename_i hc; rw [if_pos hc,hv]; rfl
   ·rename_i hc
    rw [if_neg hc]
    rw [kaT] at hv
    cases h1:alk s.env x with
    | some w=>rw [h1] at hv; cases hv; rfl
    | none=>rw [h1] at hv; simp only at hv; simp [hv]
  ·rename_i hv
   split at hv
   ·rename_i hc; rw [if_pos hc,hv]; rfl
   ·rename_i hc
    rw [if_neg hc]
    rw [kaT] at hv
    cases h1:alk s.env x with
    | some w=>rw [h1] at hv; cases hv
    | none=>rw [h1] at hv; simp only at hv; simp [hv,alk]
 show TVR P κ ln ahN (endM c s vs).n _ (lk ((as.zipIdx 0).map (fun x=>(1000000+x.2,x.1))++env) x)
 rw [e1,kjJ,hv.len]
 split
 ·rename_i hx
  cases hh:vs[x-1000000-0]? with
  | none=>exact .un _
  | some v=>
   obtain ⟨a,ha,hva⟩:=hv.at hh
   rw [ha]; exact hva
 ·exact R.env x
theorem koY {ρ:Ty} {r:ρ.den} {p:Prop} (hk:askR (A:=sem) (ρ:=ρ) c s=some r):p:=kaa hk
theorem kts {g:FuncId} {C:CtrM} {f:Func} (hf:P.funcs[g]?=some f) (hd:(C.okS&&C.ks.length<=f.ntmps&&!(f.name== "runtime.NumGoroutine"))=true) {An:List (Nat×La)} (Δ:List (FuncId×Ctr)) (hΔ:Goods P Δ)
  (he:∀ x,C.F x=ksH P Δ (anL An) f C (A:=sem) x) (hM0:(alk Δ IM).isNone=true:=by rfl):C.ok=true/\GoodM P g C:=by
 simp only [jab,jbc,jaj] at hd
 obtain ⟨⟨h1,h2⟩,h3⟩:=hd
 unfold CtrM.okS at h1
 simp only [jab,jaj] at h1
 obtain ⟨⟨⟨⟨hnd,hik⟩,hok⟩,hinnd⟩,hout⟩:=h1
 refine ⟨hok,fun x y hy l1 l2 hl hl1 κ ln h n args hpa R=>?_⟩
 rw [he,ksH] at hy
 dsimp only at hy
 rw [hl,List.take_left' hl1,List.drop_left' hl1] at hy
 have hal:=kjk hpa
 split at hy
 ·exact kaa hy
 ·rename_i body hb
  have hkeys:(kaV (A:=sem) C.ks l1 0++(kal (A:=sem) C.inp C.n0 l2).env).map (·.1)=kdn C.ks 0++C.inp.env.map (·.1):=by
   rw [jcz,kfr C.ks 0 hl1]
   congr 1
   exact kqQ _ _
  have hnd0:((kaV (A:=sem) C.ks l1 0++(kal (A:=sem) C.inp C.n0 l2).env).map (·.1)).Nodup:=by rw [hkeys]; exact hnd
  have hnd1:(((kal (A:=sem) C.inp C.n0 l2).env).map (·.1)).Nodup:=by
   rw [jcz] at hnd0
   exact (List.nodup_append.1 hnd0).2.1
  have halk:∀ x v,alk (kal (A:=sem) C.inp C.n0 l2).env x=some v->alk (kaV (A:=sem) C.ks l1 0) x=none:=fun x v hv=>by
   cases hp:alk (kaV (A:=sem) C.ks l1 0) x with
   | none=>rfl
   | some w=>
    have h1:=kfH hnd0 (jay.2 (.inl (kau hp)))
    have h2:=kfH hnd0 (jay.2 (.inr (kau hv)))
    rw [jcz,List.nodup_append] at hnd0
    exact absurd rfl (hnd0.2.2 x (jax.2 ⟨_,kau hp,rfl⟩) x (jax.2 ⟨_,kau hv,rfl⟩))
  let ef:List (Nat×TV sem):=(kal (A:=sem) C.inp C.n0 l2).env.filter (fun x=>(alk C.out.env x.1).isSome)
  let eg:List (Nat×TV sem):=C.inn.map (fun p=>(7000000+p,.kp p))
  let e0:List (Nat×TV sem):=ef++eg
  let e1:List (Nat×TV sem):=kaV (A:=sem) C.ks l1 0++(kal (A:=sem) C.inp C.n0 l2).env.filter (fun x=>!(alk C.out.env x.1).isSome)
  have hef:∀ x,alk ef x=if (alk C.out.env x).isSome then alk (kal (A:=sem) C.inp C.n0 l2).env x else none:=fun x=>kcw (fun k=>(alk C.out.env k).isSome) _ x
  have he1:∀ x,alk ((kal (A:=sem) C.inp C.n0 l2).env.filter (fun x=>!(alk C.out.env x.1).isSome)) x=if !(alk C.out.env x).isSome then alk (kal (A:=sem) C.inp C.n0 l2).env x else none:=fun x=>kcw (fun k=>!(alk C.out.env k).isSome) _ x
  have he0:∀ x,alk e0 x=match alk ef x with | some v=>some v | none=>alk eg x:=fun x=>by
   show alk (ef++eg) x=_
   rw [kaT]
   cases alk ef x <;> rfl
  have hkl:C.ks.length<=1000000:=by
   unfold CtrM.ok at hok
   simp only [jab,jaj] at hok
   exact hok.1.2
  have hklt:∀ x v,alk (kal (A:=sem) C.inp C.n0 l2).env x=some v->x<C.ks.length:=fun x v hv=>by
   have e:(alk (unE (A:=sem) C.inp.env l2).1 x).isSome=(alk C.inp.env x).isSome:=kgq _ _ _
   have e2:alk (unE (A:=sem) C.inp.env l2).1 x=some v:=hv
   rw [e2] at e
   obtain ⟨pv2,hpv2⟩:=jan.1 e.symm
   exact of_decide_eq_true (jam.1 hik _ (kau hpv2))
  have hgh:∀ x v,alk eg x=some v->∃ p∈C.inn,x=7000000+p/\v = .kp p:=fun x v hv=>by
   obtain ⟨p,hp,e⟩:=jax.1 (kau hv)
   cases e; exact ⟨p,hp,rfl,rfl⟩
  have hgs:∀ p∈C.inn,alk eg (7000000+p)=some (.kp p):=fun p hp=>by
   refine kfH ?_ (jax.2 ⟨p,hp,rfl⟩)
   show ((C.inn.map (fun p=>(7000000+p,(TV.kp p:TV sem)))).map (·.1)).Nodup
   rw [List.map_map,List.nodup_iff_pairwise_ne,List.pairwise_map]
   exact (List.nodup_iff_pairwise_ne.1 hinnd).imp fun hne e=>hne (by simp only [Function.comp] at e; omega)
  have hinlt:∀ p∈C.inn,p<C.n0:=fun p hp=>by
   unfold CtrM.inn at hp
   obtain ⟨x,hx,rfl⟩:=jax.1 hp
   unfold CtrM.ok at hok
   simp only [jab,jaj] at hok
   exact of_decide_eq_true (jam.1 hok.2 _ (jeh.1 hx).1)
  have hefn:∀ x,1000000<=x->alk ef x=none:=fun x hx=>by
   rw [hef]; split
   ·cases hh:alk (kal (A:=sem) C.inp C.n0 l2).env x with
    | none=>rfl
    | some v=>have:=hklt x v hh; omega
   ·rfl
  have W0:CxWf (⟨e0,[]⟩:Cx sem):=⟨fun x v hx=>by
   rw [he0]
   rcases jay.1 hx with hx | hx
   ·have e:alk ef x=some v:=by
     rw [hef]
     obtain ⟨h1,h2⟩:=jeh.1 hx
     rw [if_pos h2]
     exact kfH hnd1 h1
    rw [e]
   ·obtain ⟨p,hp,e⟩:=jax.1 hx
    cases e
    rw [hefn _ (by omega)]
    exact hgs p hp,fun x B hx=>by cases hx⟩
  have R0:Rel P κ ln ahN ⟨e0,[]⟩ ⟨e1,(kal (A:=sem) C.inp C.n0 l2).hp,C.n0,false⟩ (kap args) h n:=by
   refine ⟨fun x=>?_,R.blk,R.lt,R.inj,R.zin,R.zout,R.bnd,R.hn,fun x v hx=>?_,fun id b hb=>rfl,fun _=>rfl,R.zk,R.fam.map (fun id B hB=>.inl ⟨B,hB,fun h=>h,rfl,rfl⟩) (fun id _ B r _ h1 h2 h3=>((R.fam id B h1 h2).2 r h3).2.1) (jai _)⟩
   ·have hx:=R.env x
    unfold tlk at hx ⊢
    simp only [alk] at hx ⊢
    rw [show (offD (kal (A:=sem) C.inp C.n0 l2)).env=(kal (A:=sem) C.inp C.n0 l2).env from rfl] at hx
    have e1a:alk e1 x=_:=kaT (kaV (A:=sem) C.ks l1 0) _ x
    rw [e1a,he0,hef,he1]
    cases h1:alk (kaV (A:=sem) C.ks l1 0) x with
    | some v=>exact (kiM C.ks 0 hpa x v h1).2
    | none=>
     cases h2:alk (kal (A:=sem) C.inp C.n0 l2).env x with
     | some v=>
      rw [h2] at hx
      cases (alk C.out.env x).isSome with
      | true=>exact hx
      | false=>exact hx
     | none=>
      have:TVR P κ ln ahN C.n0 ((alk eg x).getD .un) (lk (kap args) x):=by
       cases hg:alk eg x with
       | none=>exact .un _
       | some w=>
        obtain ⟨p,hp,ex,rfl⟩:=hgh x w hg
        rw [ksC (by omega:args.length<=x)]
        exact .kp p (hinlt p hp)
      cases (alk C.out.env x).isSome with
      | true=>exact this
      | false=>exact this
   ·have hx:alk (kaV (A:=sem) C.ks l1 0++(kal (A:=sem) C.inp C.n0 l2).env.filter (fun x=>!(alk C.out.env x.1).isSome)) x=some v:=hx
    rw [kaT,he1] at hx
    show alk e0 x=none
    have hxlt:x<C.ks.length:=by
     cases h1:alk (kaV (A:=sem) C.ks l1 0) x with
     | some w=>
      have:x∈(kaV (A:=sem) C.ks l1 0).map (·.1):=jax.2 ⟨_,kau h1,rfl⟩
      rw [kfr C.ks 0 hl1] at this
      have:=kjr C.ks 0 x this
      omega
     | none=>
      rw [h1] at hx
      simp only at hx
      split at hx
      ·exact hklt x v hx
      ·cases hx
    have hgn:alk eg x=none:=by
     cases hg:alk eg x with
     | none=>rfl
     | some w=>obtain ⟨p,_,e,_⟩:=hgh x w hg; omega
    rw [he0,hgn,hef]
    cases hc:(alk C.out.env x).isSome with
    | false=>simp
    | true=>
     rw [hc] at hx
     simp only [Bool.not_true,jal,if_false] at hx
     simp only [if_true]
     cases h2:alk (kal (A:=sem) C.inp C.n0 l2).env x with
     | none=>rfl
     | some w=>rw [halk x w h2] at hx; cases hx
  refine HC.fin (HC.of_body hf hb h3 (by rw [hal]; exact h2) fun D O hD=>Sat.ofL ?_)
  have fin:∀ (rl:List ResultVar) (c:Cx sem) κ' ln' s env' h' n' v,CxWf c->RJ ⟨e0,κ,ln⟩ P κ' ln' ahN c s env' h' n'->resM (A:=sem) P C rl c s=some v->
    ∃ a,kaL P h' env' rl=some a/\∃ h2:AH,(∀ q B,h2 q=some B->h' q=some B)/\kgH P C κ ln v args a h2 n':=by
   intro rl c κ' ln' s env' h' n' v W RR hv
   unfold resM at hv
   obtain ⟨vs,hvs,hv⟩:=jaa.1 hv
   split at hv
   ·rename_i hlen
    obtain ⟨m,hm,hv⟩:=jaa.1 hv
    by_cases hsn':(m.sn.isEmpty&&C.inn.all (fun p=>alk m.ids p==some p))=true
    ·replace hv:mkT sem C.out.tys m.cs=some v:=(if_pos (c:=(m.sn.isEmpty&&C.inn.all (fun p=>alk m.ids p==some p))=true) (t:=(mkT sem C.out.tys m.cs:Option C.out.ty.den)) (e:=none) hsn').symm.trans hv
     rw [jab] at hsn'
     obtain ⟨hsn,hinm⟩:=hsn'
     obtain ⟨as,k1,k2⟩:=khk RR.R rl hvs
     obtain ⟨κ2,ln2,R2,q1,q2,q3,q4⟩:=kmV (kui RR.R k2) hm (by simpa [jcy] using hsn) rfl
     have hum:kal (A:=sem) C.out C.n1 m.cs=kae (A:=sem) C.out C.n1 v:=by
      unfold kae kal
      rw [kmB _ _ _ hv]
     rw [hum] at R2 q2 q4
     have bkey:∀ id,id∈C.out.hp.map (·.1)↔(alk C.out.hp id).isSome=true:=fun id=>by
      generalize C.out.hp=L
      induction L with
      | nil=>simp [alk]
      | cons y L ih=>
       simp only [jau,jat,alk]
       split
       ·rename_i e; simp [e]
       ·rename_i e; simp only [e,false_or]; exact ih
     have liv:∀ {id},id∈C.out.hp.map (·.1)->∃ B,alk (kae (A:=sem) C.out C.n1 v).hp id=some (some B):=fun {id} hi=>by
      rw [bkey,<-q4] at hi
      obtain ⟨b,hb⟩:=jan.1 hi
      obtain ⟨B,_,_,rfl,_⟩:=q2 id b hb
      exact ⟨B,hb⟩
     have inb:∀ id B,thp (⟨[],[]⟩:Cx sem) (offD (kae (A:=sem) C.out C.n1 v)) id=some B->id∈C.out.hp.map (·.1):=fun id B hB=>by
      rw [bkey,<-q4]
      unfold thp at hB
      rw [show (offD (kae (A:=sem) C.out C.n1 v)).hp=(kae (A:=sem) C.out C.n1 v).hp from rfl] at hB
      cases hh:alk (kae (A:=sem) C.out C.n1 v).hp id with
      | some b=>rfl
      | none=>rw [hh] at hB; cases hB
     have R3:=R2.cut (h2:=hz (ows κ2 ln2 ⟨[],[]⟩ (offD (kae (A:=sem) C.out C.n1 v))) h' ahN (C.out.hp.map (·.1))) (fun id B q hB hk=>hz_in (inb id B hB) (kja hB hk)) (fun q hq=>by
      unfold hz; split
      ·exact RR.R.hn q hq
      ·rfl)
     refine ⟨_,kox k1,_,kcG (fun q B hq=>(by cases hq)),κ2,ln2,as,by rw [k2.len,hlen],rfl,⟨fun x=>?_,R3.blk,R3.lt,R3.inj,R3.zin,R3.zout,R3.bnd,R3.hn,R3.e0,R3.g,R3.dy,R3.zk,R3.fam⟩,fun q B hq=>?_,fun p hp=>?_⟩
     ·have hx:=R3.env x
      cases hpx:alk (kae (A:=sem) C.out C.n1 v).env x with
      | none=>
       have:tlk (⟨[],[]⟩:Cx sem) (offD (kae (A:=sem) C.out C.n1 v)) x = .un:=by
        unfold tlk
        rw [show (offD (kae (A:=sem) C.out C.n1 v)).env=(kae (A:=sem) C.out C.n1 v).env from rfl,hpx]; rfl
       rw [this]; exact .un _
      | some w=>
       obtain ⟨pv,hpv⟩:=kmG hpx
       have ho:=jam.1 hout _ hpv
       have el1:lk (resE as++env') x=if 1000000+0<=x/\x<1000000+0+as.length then (as[x-1000000-0]?).getD .un else lk env' x:=kjJ as 0 x env'
       have el2:lk (resE as++kap args) x=if 1000000+0<=x/\x<1000000+0+as.length then (as[x-1000000-0]?).getD .un else lk (kap args) x:=kjJ as 0 x (kap args)
       have heq:lk (resE as++kap args) x=lk (resE as++env') x:=by
        rw [el1,el2]
        split
        ·rfl
        ·rename_i hnr
         simp only [jap,jab,jaj] at ho
         rcases ho with ho | ⟨ho1,ho2⟩
         ·exfalso; apply hnr; rw [k2.len,hlen]; omega
         ·
          have slot:∀ pv0 v0,alk C.inp.env x=some pv0->(∀ xs:List ((t:Ty)×sem.D t),(unV (A:=sem) pv0 xs).1=v0)->tiedD v0=true->lk (kap args) x=lk env' x:=fun pv0 v0 hi hu ht=>by
           have hu1:alk (kal (A:=sem) C.inp C.n0 l2).env x=some v0:=kjh C.inp.env l2 x pv0 v0 hi hu
           have hj:alk e0 x=some v0:=by
            have ho1:(alk C.out.env x).isSome=true:=by
             have e:=kgq C.out.env (unT sem C.out.tys v) x
             have e2:alk (unE (A:=sem) C.out.env (unT sem C.out.tys v)).1 x=some w:=hpx
             rw [<-e,e2]; rfl
            rw [he0,hef,if_pos ho1,hu1]
           have t1:=R0.env x
           have t2:=RR.R.env x
           rw [R0.e0_tlk hj] at t1
           rw [RR.R.e0_tlk (RR.w x v0 hj)] at t2
           exact (t1.det ht t2 fun id hid=>RR.j x v0 id hj hid).symm
          split at ho2
          ·rename_i p hi; exact slot _ (.mw p) hi (fun xs=>rfl) rfl
          ·rename_i p j hi; exact slot _ (.ptr p j) hi (fun xs=>rfl) rfl
          ·rename_i p hi; exact slot _ (.mp p) hi (fun xs=>rfl) rfl
          ·cases ho2
       rw [heq]; exact hx
     ·unfold hz at hq
      split at hq
      ·rename_i hany
       obtain ⟨id,hid,hk⟩:=jbj.1 hany
       obtain ⟨b,hb⟩:=liv hid
       exact ⟨id,b,hb,kca (c:=⟨[],[]⟩) (s:=offD (kae (A:=sem) C.out C.n1 v)) (by unfold thp; rw [show (offD (kae (A:=sem) C.out C.n1 v)).hp=(kae (A:=sem) C.out C.n1 v).hp from rfl,hb]) (by simpa using hk)⟩
      ·cases hq
     ·have e1:alk m.ids p=some p:=by simpa using jam.1 hinm p hp
      have e2:alk e0 (7000000+p)=some (.kp p):=by rw [he0,hefn _ (by omega)]; exact hgs p hp
      exact ⟨((q1 p p e1).1).trans (RR.j _ _ p e2 (by simp [TV.has])).1,((q1 p p e1).2.1).trans (RR.j _ _ p e2 (by simp [TV.has])).2⟩
    ·replace hv:=(if_neg (c:=(m.sn.isEmpty&&C.inn.all (fun p=>alk m.ids p==some p))=true) (t:=(mkT sem C.out.tys m.cs:Option C.out.ty.den)) (e:=none) hsn').symm.trans hv; cases hv
   ·cases hv
  let K0:K3:=fun v h' n'=>(∃ h2:AH,(∀ q B,h2 q=some B->h' q=some B)/\kgH P C κ ln y args v h2 n')\/
   (v = .tp []/\∃ κb lnb z c s env,Rel P κb lnb z c s env h' n'/\(∀ x,tied (tlk c s x)=true\/tlk c s x = .un)/\∀ h2:AH,Rel P κb lnb ahN c { s with dy:=false } env h2 n'->∃ h3:AH,(∀ q B,h3 q=some B->h2 q=some B)/\kgH P C κ ln y args v h3 n')
  refine khP (D:=D) (O:=O) hΔ 1000000 (J:=⟨e0,κ,ln⟩) (RetQ:=fun v st=>∃ a,kaL P st.h st.env f.results.toList=some a/\∃ h2:AH,(∀ q B,h2 q=some B->st.h q=some B)/\kgH P C κ ln v args a h2 st.n) (fun c κ' ln' s env' h' n' v W RR hv=>fin _ c κ' ln' s env' h' n' v W RR hv) (hY:=⟨fun _=>hD,fun hh=>absurd hh (by cases hx:alk Δ IM with | none=>decide | some C=>rw [hx] at hM0; cases hM0)⟩) _ [body] _ _ _ y κ ln ahN (kap args) h n W0 ⟨R0,fun x v id _ _=>⟨rfl,rfl⟩,fun x v hv=>hv⟩ ?_ hy
  refine ⟨fun κ' ln' z' s env' h' n' RR hk=>?_,fun id κ ln z s env h n R hk=>kaa hk,fun v st hv hk=>?_,fun hi=>by rw [hD] at hi; cases hi⟩
  ·dsimp only at hk
   split at hk
   ·rename_i hemp
    have hr0:f.results.toList=[]:=by simpa [jcy] using hemp
    split at hk
    ·rename_i v hv
     cases hk
     show ∃ v,kaL P h' env' f.results.toList=some v/\K0 v h' n'
     rw [hr0]
     refine ⟨.tp [],rfl,.inr ⟨rfl,κ',ln',z',⟨e0,[]⟩,⟨[],s.hp,s.n,s.dy⟩,env',⟨fun x=>?_,RR.R.blk,RR.R.lt,RR.R.inj,RR.R.zin,RR.R.zout,RR.R.bnd,RR.R.hn,fun x v h=>(by cases h),RR.R.g,RR.R.dy,RR.R.zk,RR.R.fam.map (fun id B hB=>.inl ⟨B,hB,fun h=>h,rfl,rfl⟩) (fun id _ B r _ h1 h2 h3=>((RR.R.fam id B h1 h2).2 r h3).2.1) (jai _)⟩,fun x=>?_,fun h2 R2=>?_⟩⟩
     ·have hx:=RR.R.env x
      cases hc:alk e0 x with
      | none=>simp only [tlk,alk,hc]; exact .un _
      | some w=>
       rw [RR.R.e0_tlk hc] at hx
       simp only [tlk,alk,hc]; exact hx
     ·cases hc:alk e0 x with
      | none=>right; simp only [tlk,alk,hc]; rfl
      | some w=>
       left
       simp only [tlk,alk,hc,jca]
       rw [he0] at hc
       split at hc
       ·rename_i w' hc'
        cases hc
        rw [hef] at hc'
        have ho1:(alk C.out.env x).isSome=true:=by
         cases hh:(alk C.out.env x).isSome with
         | true=>rfl
         | false=>rw [hh] at hc'; simp at hc'
        rw [if_pos ho1] at hc'
        have hc:=hc'
        obtain ⟨pv,hpv⟩:=jan.1 ho1
        have ho:=jam.1 hout _ (kau hpv)
        have hik':x<C.ks.length:=by
         have e:(alk (unE (A:=sem) C.inp.env l2).1 x).isSome=(alk C.inp.env x).isSome:=kgq _ _ _
         have e2:alk (unE (A:=sem) C.inp.env l2).1 x=some w:=hc
         rw [e2] at e
         obtain ⟨pv2,hpv2⟩:=jan.1 e.symm
         exact of_decide_eq_true (jam.1 hik _ (kau hpv2))
        simp only [jap,jab,jaj] at ho
        rcases ho with ho | ⟨ho1,ho2⟩
        ·omega
        ·have look:∀ pv0 v0,alk C.inp.env x=some pv0->(∀ xs:List ((t:Ty)×sem.D t),(unV (A:=sem) pv0 xs).1=v0)->w=v0:=fun pv0 v0 hi hu=>by
          have hu1:alk (kal (A:=sem) C.inp C.n0 l2).env x=some v0:=kjh C.inp.env l2 x pv0 v0 hi hu
          rw [hc] at hu1; exact Option.some.inj hu1
         split at ho2
         ·rename_i p hi; rw [look _ (.mw p) hi (fun xs=>rfl)]; rfl
         ·rename_i p j hi; rw [look _ (.ptr p j) hi (fun xs=>rfl)]; rfl
         ·rename_i p hi; rw [look _ (.mp p) hi (fun xs=>rfl)]; rfl
         ·cases ho2
       ·obtain ⟨p,_,_,rfl⟩:=hgh x _ hc; rfl
     ·obtain ⟨a,q1,q2⟩:=fin [] _ _ _ _ _ _ _ _ W0 ⟨R2,RR.j,RR.w⟩ hv
      cases q1
      exact q2
    ·exact koY hk
   ·split at hk
    ·exact kaa hk
    ·rename_i hdy
     split at hk
     ·rename_i v hv
      cases hk
      obtain rfl:=RR.R.dy (by simpa using hdy)
      obtain ⟨a,q1,q2⟩:=fin _ _ _ _ _ _ _ _ _ W0 RR hv
      exact ⟨a,q1,.inl q2⟩
     ·exact koY hk
  ·cases hk
   obtain ⟨a,q1,q2⟩:=hv
   exact ⟨a,q1,.inl q2⟩
end
section
variable {P:Program} {g:FuncId}
theorem Good.more {C:Ctr} {M:CtrM} (h:Good P g C) (hm:M.ok=true/\GoodM P g M):Good P g ⟨C.nm,C.as,C.rs,C.F,M::C.mus,C.its⟩:=by
 refine ⟨h.1,h.2.1,fun M' hM=>?_,h.2.2.2⟩
 rcases jat.1 hM with rfl | hM
 ·exact hm
 ·exact h.2.2.1 M' hM
theorem good_dm {nm:String}:Good P g ⟨nm,[],[],fun _=>none,[],[]⟩:=⟨rfl,fun x r h=>(by cases h),fun M h=>(by cases h),fun M h=>(by cases h)⟩
end
section
variable {P:Program} {g:FuncId}
theorem Good.moreI {C:Ctr} {I:CtrI} (h:Good P g C) (hi:GoodI P g I):Good P g ⟨C.nm,C.as,C.rs,C.F,C.mus,I::C.its⟩:=by
 refine ⟨h.1,h.2.1,h.2.2.1,fun I' hI=>?_⟩
 rcases jat.1 hI with rfl | hI
 ·exact hi
 ·exact h.2.2.2 I' hI
end
section
variable {P:Program} {N:Nat} {D:DX} {O:Nat->Prop} {Q:Exit->St->Prop} {st:St} {μ:Mu} {w:World} {n:Nat} {h:AH} {G:IterG}
theorem KeepB.below {w1 w2:World} (h:KeepB O w w1) (b:Below w1.heap.size w1 w2):KeepB O w w2:=
 ⟨b.os.trans h.os,b.tape.trans h.tape,b.output.trans h.output,jcv h.size b.size,fun i hi ho=>(b.block i (jao hi h.size)).trans (h.block i hi ho)⟩
theorem KeepB.trans {O1:Nat->Prop} {w1 w2:World} (h:KeepB O w w1) (k:KeepB O1 w1 w2) (ho:∀ b,O1 b->b<w.heap.size->O b):KeepB O w w2:=
 ⟨k.os.trans h.os,k.tape.trans h.tape,k.output.trans h.output,jcv h.size k.size,fun i hi hn=>(k.block i (jao hi h.size) fun e=>hn (ho i e hi)).trans (h.block i hi hn)⟩
def IterG.since (G:IterG) (O:Nat->Prop) (w:World):IterG:=
 { G with J:=fun k O' w'=>G.J k O' w'/\KeepB O w w'/\∀ b,O' b->b<w.heap.size->O b,Jx:=fun w'=>G.Jx w'/\KeepB O w w' }
theorem IterOk.since (ok:IterOk P G):IterOk P (G.since O w):=by
 refine ⟨fun k O1 w1 w2 hj hb=>⟨ok.jb k O1 w1 w2 hj.1 hb,hj.2.1.below hb,hj.2.2⟩,fun w1 w2 hj hb=>⟨ok.xb w1 w2 hj.1 hb,hj.2.below hb⟩,fun k O1 w1 us x hj hO hx hsz hv=>?_⟩
 obtain ⟨fn,tmps,assign,body,hy,hr⟩:=ok.y k O1 w1 us x hj.1 hO hx hsz hv
 refine ⟨fn,tmps,assign,body,hy,hr.mono ?_⟩
 rintro e w2 ⟨O2,p1,p2,p3,p4⟩
 have kb:=hj.2.1.trans p3 hj.2.2
 refine ⟨O2,p1,p2,p3,p4.imp (fun p=>⟨p.1,p.2,kb,fun b hb hlt=>hj.2.2 b (p2 b hb (jao hlt hj.2.1.size)) hlt⟩) fun p=>⟨p.1,p.2,kb⟩⟩
theorem ktm {args:List AV} {vs:Array Value} {k:Nat} (hsz:vs.size=args.length) (hvs:∀ (j:Nat) (c:AV),args[j]?=some c->∃ u,vs[j]?=some u/\VR w O μ n c u) (s:Nat):VR w O μ n (lk (kap args) s) ((vs++Array.replicate k undef).getD s undef):=by
 simp only [kap,kkY args 0 s,jeb,if_true,Nat.sub_zero]
 cases hs:args[s]? with
 | none=>simpa using VR.un _
 | some v=>
  obtain ⟨u,hu,hvr⟩:=hvs s v hs
  rw [jae,jdz (jak.1 hu).1,hu]
  exact hvr
def yvQ (rd m:Nat) (e:Exit) (s:St):Prop:=(e = .normal\/e = .ret)/\((∃ es,lk s.env GS = .gs es/\es.length=m/\lk s.env rd = .sc (.bool true))\/(lk s.env GS = .ud/\lk s.env rd = .sc (.bool false)))
theorem YV.of_body {g l rd:Nat} {fn:Func} {c:Code} {caps avs:List AV} {ls:List (List AV)} (hf:P.funcs[g]?=some fn) (hb:fn.body=some c) (hname:(fn.name== "runtime.NumGoroutine")=false) (hargs:avs.length+caps.length<=fn.ntmps) (hN:fn.ntmps<=GS) (hres:fn.results.toList=[.tmp rd])
  (hsat:∀ (D:DX) (G:IterG) (O:Nat->Prop) (k:Nat),D.it=some G->G.l=l->IterOk P G->(∀ j,j<ls.length->G.xs[k+j]?=ls[j]?)->Sat P fn.ntmps D O c (yvQ rd (k+ls.length)) ⟨(GS,.gs (List.replicate k []))::kap (avs++caps),ah0,0⟩):YV P l (.fn g caps) avs ls:=by
 intro G k O w y cl f a next Q hl ok hJ hO hx ho hfc hv hsz ha hR
 generalize hu:a.eval f=u at hv
 cases hv with
 | fn _ _ vs us hs hc hr'=>
 have hrun:(execOp a.eval y).run P w = .ok (.enter g (cl.args.map a.eval++vs)) w:=by
  have hnb:fn.body≠none:=by rw [hb]; simp
  have hnm:fn.name≠ "runtime.NumGoroutine":=by intro hnn; rw [hnn] at hname; simp at hname
  simp [execOp,ho,resolve,hfc,hu,Deferred.ofValue,invoke,callFunc,hf,hnm,hnb]
 unfold Oper.wpIn
 refine ⟨fun _ _=>trivial,?_⟩
 rw [show Oper.semAt (FF none).round a.eval y=execOp a.eval y from rfl,hrun,Oper.uponIn_enter]
 refine ⟨(fun e=>by cases e),?_⟩
 have hval:∀ (j:Nat) (x:AV),(avs++caps)[j]?=some x->∃ u,(cl.args.map a.eval++vs)[j]?=some u/\VR w O mu0 0 x u:=fun j x hj=>by
  rw [jbr] at hj
  rw [Array.getElem?_append]
  simp only [Array.size_map,hsz] at hj ⊢
  split at hj
  ·rename_i hlt
   rw [if_pos hlt]
   exact ha j x hj
  ·rename_i hge
   rw [if_neg hge]
   exact ⟨_,hc _ x hj,hr' _ x hj⟩
 have hvsz:(cl.args.map a.eval++vs).size=(avs++caps).length:=by simp [hsz,hs]
 refine CallsIn.mono (R:=RndL G k ls.length O w) (callsIn_of_wp_marks hf hb trivial ?_) fun e w' he=>by obtain ⟨v,rfl,h2⟩:=hR e w' he; exact h2
 refine wpIn_mono (hsat ⟨w.heap.size,some (G.since O w)⟩ (G.since O w) O k rfl hl ok.since hx O (fun e=>by cases e) none mu0 _ w trivial ⟨kmL (μ:=mu0) (h:=ah0) (O:=O) (w:=w) ⟨hO,fun id b k e=>(by cases e),fun id id' b k k' e=>(by cases e),fun id b k e=>(by cases e),fun id B e=>(by cases e)⟩ hO,?_,.nil _ _ _ (jai _),fun s=>?_,fun _=>hN,?_⟩) ?_
 ·have:(avs++caps).length<=fn.ntmps:=by simpa using hargs
  rw [Array.size_append,Array.size_replicate,hvsz]; omega
 ·simp only [lk]
  by_cases hg:s=GS
  ·rw [if_pos hg,hg]
   have:(cl.args.map a.eval++vs++Array.replicate (fn.ntmps-(cl.args.map a.eval++vs).size) undef).getD GS undef=undef:=by
    rw [jae,jea (by rw [Array.size_append,Array.size_replicate,hvsz]; simp; omega)]; rfl
   rw [this]; exact .gs _
  ·rw [if_neg hg]
   exact ktm hvsz hval s
 ·unfold GInv
  exact ⟨w,.refl _ _,fun id b k e=>(by cases e),by simp only [lk,if_true,jdb]; exact ⟨hJ,⟨rfl,rfl,rfl,jai _,fun _ _ _=>rfl⟩,fun b hb _=>hb⟩⟩
 ·rintro e a' w' ⟨st',μ',O',o',⟨hq1,hq2⟩,hs',_⟩
  have hdef:a'.defers=[]:=hs'.defers.1 rfl
  have hl:LeavesInM (FF none) 0 P fn a'.tmps (RndL G k ls.length O w) a'.defers .returning w':=by
   rw [hdef]
   have hgi:=hs'.gi
   unfold GInv at hgi
   simp only at hgi
   obtain ⟨W,g1,g2,g3⟩:=hgi
   rcases hq2 with ⟨es,h1,h2,h3⟩ | ⟨h1,h3⟩
   ·rw [h1] at g3
    obtain ⟨g3,g4,g5⟩:=g3
    obtain ⟨u,h4,h5⟩:=kfs (fn:=fn) (v:=.sc (.bool true)) hs' (by rw [hres]; simp [kaL,kbA,h3])
    refine ⟨u,h4,O',hs'.hr.olt,g5,g4.below g1,.inl ⟨by rw [h5.sc_inv],?_⟩⟩
    rw [<-h2]; exact ok.jb _ _ _ _ g3 g1
   ·rw [h1] at g3
    obtain ⟨g3,g4⟩:=g3
    obtain ⟨u,h4,h5⟩:=kfs (fn:=fn) (v:=.sc (.bool false)) hs' (by rw [hres]; simp [kaL,kbA,h3])
    exact ⟨u,h4,fun _=>False,fun b hb=>hb.elim,fun b hb=>hb.elim,g4.below g1,.inr ⟨by rw [h5.sc_inv],ok.xb _ _ g3 g1⟩⟩
  rcases hq1 with rfl | rfl <;> exact hl
def rdO (P:Program) (h:AH) (o:Oper) (env:Env) (v:AV):Prop:=∀ (n:Nat) (K:K3),K v h n->aop P env h n o K
def aopsR (P:Program) (h:AH) (ds:List (Option Tmp)):List Oper->Env->(Env->Prop)->Prop
 | [],env,K=>K env
 | o::r,env,K=>
  match o.guard with
  | none=>∃ v,rdO P h o env v/\aopsR P h ds r (putE env o.dst v) K
  | some (g,want)=>match kav ds g with
   | some d=>match lk env d with
    | .sc (.bool b)=>if b=want then ∃ v,rdO P h o ((d,.sc (.bool want))::env) v/\aopsR P h ds r (putE ((d,.sc (.bool want))::env) o.dst v) K else aopsR P h ds r (putE ((d,.sc (.bool (!want)))::env) o.dst .ud) K
    | .ud=>aopsR P h ds r (putE env o.dst .ud) K
    | _=>False
   | none=>False
theorem aopsR.plain {ds:List (Option Tmp)} {h:AH} {n:Nat} {K:St->Prop}:∀ {l:List Oper} {env:Env},aopsR P h ds l env (fun e=>K ⟨e,h,n⟩)->aops P ds l ⟨env,h,n⟩ K
 | [],env,hk=>hk
 | o::r,env,hk=>by
  unfold aopsR at hk
  unfold aops
  cases hg:o.guard with
  | none=>
   rw [hg] at hk
   obtain ⟨v,h1,h2⟩:=hk
   exact h1 _ _ (aopsR.plain h2)
  | some gw=>
   obtain ⟨g,want⟩:=gw
   rw [hg] at hk
   simp only at hk ⊢
   split at hk
   ·rename_i d hd
    rw [hd]
    simp only at hk ⊢
    split at hk
    ·rename_i b hb
     rw [hb]
     simp only
     refine ⟨fun e=>?_,fun e=>?_⟩
     ·rw [if_pos e] at hk
      obtain ⟨v,h1,h2⟩:=hk
      exact h1 _ _ (aopsR.plain h2)
     ·rw [if_neg (by rw [e]; cases want <;> simp)] at hk
      exact aopsR.plain hk
    ·rename_i hb
     rw [hb]
     exact aopsR.plain hk
    ·exact hk.elim
   ·exact hk.elim
theorem aopsR.tree {ds:List (Option Tmp)} {h:AH} {n:Nat} {K:St->Prop}:∀ {l:List Oper} {env:Env} {j:Nat} {pd:List Pn},aopsR P h ds l env (fun e=>K ⟨e,h,n⟩)->treeD P ds (fun _=>false) (fun _=>[]) l j ⟨env,h,n⟩ pd K
 | [],env,j,pd,hk=>hk
 | o::r,env,j,pd,hk=>by
  have st1:∀ env1:Env,(∃ v,rdO P h o env1 v/\aopsR P h ds r (putE env1 o.dst v) (fun e=>K ⟨e,h,n⟩))->stepT P (fun _=>false) (fun _=>[]) o j env1 h n pd fun s t=>treeD P ds (fun _=>false) (fun _=>[]) r (j+1) s t K:=fun env1 ⟨v,h1,h2⟩=>by
   unfold stepT
   rw [if_neg (by simp)]
   exact ⟨⟨j,o,env1,v,(·= h)⟩,rfl,rfl,rfl,rfl,fun h1' n1 K' e hk'=>by cases e; exact h1 _ _ hk',aopsR.tree h2⟩
  unfold aopsR at hk
  unfold treeD
  cases hg:o.guard with
  | none=>
   rw [hg] at hk
   exact st1 env hk
  | some gw=>
   obtain ⟨g,want⟩:=gw
   rw [hg] at hk
   simp only at hk ⊢
   split at hk
   ·rename_i d hd
    rw [hd]
    simp only at hk ⊢
    split at hk
    ·rename_i b hb
     rw [hb]
     simp only
     refine ⟨fun e=>?_,fun e=>?_⟩
     ·rw [if_pos e] at hk
      exact st1 _ hk
     ·rw [if_neg (by rw [e]; cases want <;> simp)] at hk
      exact aopsR.tree hk
    ·rename_i hb
     rw [hb]
     exact aopsR.tree hk
    ·exact hk.elim
   ·exact hk.elim
theorem PreY.of_tree {l:List Oper} {W:Nat->Bool} {anc:Nat->List Nat} {K:St->Prop} (hd:kaW l=true) (hdst:kaH N l=true) (hanc:∀ i j,i∈anc j->Anc l i j) (hW:∀ w j,w<j->j<l.length->W w=true->Anc l w j)
  (ht:treeD P (l.map (·.dst)) W anc l 0 st [] K):PreY P N D l st K:=by
 intro O1 μ a w Q' hs hq
 obtain ⟨e1,hr1⟩:=hs.hr.drew
 have hs1:SR N D O1 μ ⟨st.env,st.h,st.n⟩ a w.drew:=hs.step hr1 e1
 have L:Can P l st W 0 (fun _=>st.env) (fun _=>.ud) (fun _=>false) st.h [] (fun _=>False):=⟨fun s=>rfl,fun j o hj=>by omega,fun j o hj=>by omega,fun j o hj=>by omega⟩
 obtain ⟨k',E',V',A',pd',env',g1,g2,g3,g4,g5,g6⟩:=Can.adv (anc:=anc) (K:=K) l.length 0 (n:=st.n) (env:=st.env) (by omega) L (fun s=>rfl) (by simpa using ht) (fun i hi=>hi.elim)
 refine kqV (D:=D) (O:=O1) (st0:=st) (K:=K) hd hdst hanc hW (μ0:=μ) (w0:=w) (fun cenv env h n μ' a' w' hk hl hs' he'=>hq _ μ' a' w' hk ⟨hs'.hr,hs'.size,hs'.defers,fun s=>?_,hs'.gs,hs'.gi.evo hs'.hr.refl fun _=>.inl (hl GS).symm⟩)
  _ _ (fun _=>False) k' E' V' A' pd' env' st.env st.h st.n μ a w.drew (by simp) (fun i hi=>by simp [jae,hi]) (fun i h=>h.elim) g2 (fun j o _ h=>h.elim) ⟨fun s _=>rfl,fun s i oi h=>h.elim⟩ g3 g5 g6 hs1 e1 ⟨List.range l.length,by simp,fun i hi _=>jdx.2 hi⟩
 have:=hs'.env s
 rw [hl s] at this; exact this
theorem kph {α:Type} {l:List α} {k:Nat} {y:α} (h:l[k]?=some y):l=l.take k++y::l.drop (k+1)/\(l.take k).length=k:=by
 obtain ⟨hk,e⟩:=jad.1 h
 exact ⟨by rw [<-e,<-jaz hk,List.take_append_drop],by rw [jbo]; omega⟩
variable {l:List Oper} {cs:List Code} {env:Env}
theorem SatL.rreg {id:Nat} (hd:kaH N l=true) (hk:aopsR P h (l.map (·.dst)) l env fun e=>SatL P N D O cs Q ⟨e,h,n⟩):SatL P N D O (.region id l.toArray false::cs) Q ⟨env,h,n⟩:=
 Sat.region hd hk.plain
theorem SatL.rregD {id:Nat} (hm:P.follows .mixedOrders=true) (hdr:kaW l=true) (hd:kaH N l=true) (hk:aopsR P h (l.map (·.dst)) l env fun e=>SatL P N D O cs Q ⟨e,h,n⟩):SatL P N D O (.region id l.toArray true::cs) Q ⟨env,h,n⟩:=
 Sat.draw0 hm (SatA.of_tree hdr hd (W:=fun _=>false) (anc:=fun _=>[]) (fun i j h=>by cases h) (fun w j _ _ h=>by cases h) hk.tree)
theorem SatL.yreg {id:Nat} (k:Nat) {y:Oper} (hy:l[k]?=some y) (hD:D.it=some G) (ok:IterOk P G) (hd:kaH N l=true) (hk:aopsR P h (l.map (·.dst)) (l.take k) env fun e=>YieldK P G (l.map (·.dst)) y (l.drop (k+1)) (SatL P N D O cs Q) ⟨e,h,n⟩):SatL P N D O (.region id l.toArray false::cs) Q ⟨env,h,n⟩:=by
 obtain ⟨hsplit,hlen⟩:=kph hy
 have:=Sat.regionY (P:=P) (N:=N) (D:=D) (O:=O) (Q:=thenQ (SatL P N D O cs Q) Q) (id:=id) (st:=⟨env,h,n⟩) (l1:=l.take k) (y:=y) (l2:=l.drop (k+1)) hD ok (by rw [<-hsplit]; exact hd) (by rw [<-hsplit]; exact hk.plain)
 rw [<-hsplit] at this
 exact this
theorem SatL.yregD {id:Nat} (k:Nat) {y:Oper} (hy:l[k]?=some y) (hD:D.it=some G) (ok:IterOk P G) (hm:P.follows .mixedOrders=true) (hdr:kaW l=true) (hdr1:kaW (l.take k)=true) (hb:barOk l k=true) (hd:kaH N l=true)
  (hk:aopsR P h ((l.take k).map (·.dst)) (l.take k) env fun e=>YieldK P G (l.map (·.dst)) y (l.drop (k+1)) (SatL P N D O cs Q) ⟨e,h,n⟩):SatL P N D O (.region id l.toArray true::cs) Q ⟨env,h,n⟩:=by
 obtain ⟨hsplit,hlen⟩:=kph hy
 have hd1:kaH N (l.take k)=true:=by unfold kaH at hd ⊢; rw [jam] at hd ⊢; exact fun o ho=>hd o (jcw ho)
 have:=Sat.drawY (P:=P) (N:=N) (D:=D) (O:=O) (Q:=thenQ (SatL P N D O cs Q) Q) (id:=id) (st:=⟨env,h,n⟩) (l1:=l.take k) (y:=y) (l2:=l.drop (k+1)) hD ok hm (by rw [<-hsplit]; exact hdr) (by rw [<-hsplit,hlen]; exact hb) (by rw [<-hsplit]; exact hd)
  (PreY.of_tree hdr1 hd1 (W:=fun _=>false) (anc:=fun _=>[]) (fun i j h=>by cases h) (fun w j _ _ h=>by cases h) (aopsR.tree (by rw [<-hsplit]; exact hk)))
 rw [<-hsplit] at this
 exact this
theorem kth (l:List Nat) (env:Env) (s:Nat):lk (keep l env) s = .un\/(s∈l/\lk (keep l env) s=lk env s):=by
 by_cases hs:s∈l
 ·rcases ktT l env s with e | e
  ·exact .inr ⟨hs,e⟩
  ·exact .inl e
 ·left
  have:∀ l:List Nat,s∉l->lk (keep l env) s = .un:=fun l=>by
   induction l with
   | nil=>intro _; rfl
   | cons x l ih=>
    intro hn
    simp only [keep,jau,lk]
    rw [if_neg (fun e=>hn (by simp [e]))]
    exact ih fun h=>hn (by simp [h])
  exact this l hs
theorem YieldK.of {ds:List (Option Tmp)} {y:Oper} {l2:List Oper} {K:St->Prop} (live:List Nat) {c:Call} {f:Operand} {g:AV} {avs:List AV} {ls es:List (List AV)} {z:AH} (hg:GOk1 ds y env) (ho:y.op = .call c) (hf:c.callee = .value f) (hY:YV P G.l g avs ls) (hs:lk env GS = .gs es)
  (hx:∀ j,j<ls.length->G.xs[es.length+j]?=ls[j]?) (hz:∀ q B,z q=some B->h q=some B) (hfv:SnapV z (ev env f) g) (ha:SnapL z (c.args.toList.map (ev env)) avs) (hl:∀ t∈live,Free (lk env t))
  (hT:aops P ds l2 ⟨putE ((GS,.gs (es++ls))::keep live env) y.dst (.sc (.bool true)),ah0,n⟩ K) (hF:aops P ds l2 ⟨putE ((GS,.ud)::keep live env) y.dst (.sc (.bool false)),ah0,n⟩ K):YieldK P G ds y l2 K ⟨env,h,n⟩:=
 ⟨hg,c,f,g,avs,ls,es,z,keep live env,ls,ho,hf,hY,hs,hx,hz,hfv,ha,fun t _=>(kth live env t).imp id fun e=>⟨e.2,hl t e.1⟩,rfl,hT,hF⟩
variable {o:Oper}
theorem rdO.move {x:Operand} {v:AV} (ho:o.op = .move x) (hx:ev env x=v):rdO P h o env v:=fun n K hk=>by unfold aop; rw [ho]; simp only; rw [hx]; exact hk
theorem rdO.assign {x:Operand} {v:AV} (ho:o.op = .assign x) (hx:ev env x=v):rdO P h o env v:=fun n K hk=>by unfold aop; rw [ho]; simp only; rw [hx]; exact hk
theorem rdO.load {T:TypeId} {x:Operand} {v:AV} {cs:List AV} (ho:o.op = .load T x) (hx:deref h (ev env x)=some (v::cs)) (hT:aggO P T=some false):rdO P h o env v:=fun n K hk=>by
 unfold aop; rw [ho]; simp only; rw [hx]; simp only [loadK,hT]; exact ⟨v,rfl,hk⟩
theorem rdO.len {c:Call} {x:Operand} {T:TypeId} {es:List (List AV)} (ho:o.op = .call c) (hc:c.callee = .builtin .len) (ha:c.args = #[x]) (ht:c.argTypes = #[T]) (hx:ev env x = .sl es) (hT:(elemO P T).isSome=true):rdO P h o env (.sc (.int .i64 es.length)):=fun n K hk=>by
 unfold aop; rw [ho]; simp only; rw [hc,ha,ht]; simp only [kah]; rw [hx]; exact ⟨hT,fun _=>hk⟩
theorem rdO.bin {op:BinOp} {T T2:TypeId} {x y:Operand} {v:AV} (ho:o.op = .binOp op T x y T2) {k k':IntKind} {a b:Int} (hx:ev env x = .sc (.int k a)) (hy:ev env y = .sc (.int k' b)) (hb:∀ K:AV->Prop,K v->abinI op k a k' b K):rdO P h o env v:=fun n K hk=>by
 unfold aop; rw [ho]; simp only; rw [hx,hy]; exact hb (fun v=>K v h n) hk
theorem rdO.not {T:TypeId} {x:Operand} {v:AV} (b:Bool) (ho:o.op = .unOp .not T x) (hx:ev env x = .sc (.bool b)) (hv:AV.sc (.bool !b)=v):rdO P h o env v:=fun n K hk=>by subst hv; unfold aop; rw [ho]; simp only; rw [hx]; exact hk
theorem rdO.pick {x y z:Operand} {b:Bool} {v:AV} (ho:o.op = .pick x y z) (hx:ev env x = .sc (.bool b)) (hv:(if b then ev env y else ev env z)=v):rdO P h o env v:=fun n K hk=>by unfold aop; rw [ho]; simp only; rw [hx]; simp only; rw [hv]; exact hk
theorem rdO.extract {x:Operand} {i:Nat} {cs:List AV} {v:AV} (ho:o.op = .extract x i) (hx:ev env x = .tp cs) (hv:cs[i]?=some v):rdO P h o env v:=fun n K hk=>by unfold aop; rw [ho]; simp only; rw [hx]; exact ⟨v,hv,hk⟩
theorem rdO.idx {T e:TypeId} {x i:Operand} {es:List (List AV)} {c:List AV} {k:IntKind} {j:Int} (ho:o.op = .indexAddr T x i) (hx:ev env x = .sl es) (hi:ev env i = .sc (.int k j)) (hT:elemO P T=some e) (h0:0<=j) (hc:es[j.toNat]?=some c) (hl:c.length=P.cellsOf e) (hn:c.length≠0):rdO P h o env (.fp c):=fun n K hk=>by
 unfold aop; rw [ho]; simp only; rw [hx,hi]; simp only [kbI,hT]; exact ⟨h0,c,hc,hl,hn,hk⟩
theorem rdO.call {c:Call} {f:Operand} {g:FuncId} {args:List AV} {r:AV} (ho:o.op = .call c) (hc:c.callee = .value f) (hf:ev env f = .fn g []) (ha:c.args.toList.map (ev env)=args) (hp:PC P g args (·= r)) (hfr:FreeL args):rdO P h o env r:=fun n K hk=>by
 unfold aop; rw [ho]; simp only; rw [hc]; simp only [callK]; rw [hf]; simp only; rw [ha,jbe]; exact hp.call1 hfr hk
theorem aop.alloc {T:TypeId} {z:List AV} {K:K3} (ho:o.op = .alloc T) (hz:zeroO P T=some z) (hk:K (.own n 0 0) (updH h n (.cells z.length T [z])) (n+1)):aop P env h n o K:=by unfold aop; rw [ho]; simp only; rw [hz]; exact hk
theorem aop.store {T:TypeId} {p x:Operand} {id k:Nat} {T':TypeId} {a b:AV} {K:K3} (ho:o.op = .store T p x) (hp:ev env p = .own id 0 0) (hB:h id=some (.cells k T' [[a]])) (hx:kaw (ev env x)=some [b]) (hT:P.cellsOf T=1) (hk:K .ud (updH h id (.cells k T' [[b]])) n):aop P env h n o K:=by
 unfold aop; rw [ho]; simp only; rw [hp]; simp only [kbi,hB,hx]; exact ⟨hT.symm,by simp,by simp,hk⟩
theorem aop.mkfn {f:FuncId} {caps:Array Operand} {v:AV} {K:K3} (ho:o.op = .makeFunc (.func f) #[] caps) (hv:AV.fn f (caps.toList.map (ev env))=v) (hk:K v h n):aop P env h n o K:=by unfold aop; rw [ho]; simp only; rw [hv]; exact ⟨trivial,hk⟩
theorem aops.cons {ds:List (Option Tmp)} {r:List Oper} {K:St->Prop} (hg:o.guard=none) (hk:aop P env h n o fun v h n=>aops P ds r ⟨putE env o.dst v,h,n⟩ K):aops P ds (o::r) ⟨env,h,n⟩ K:=by unfold aops; rw [hg]; exact hk
end
end Go.Abs
namespace Go.Abs
open Go
theorem kak {α:Type} {l:List α} {i:Nat} (h:i<l.length):gi l (i:Int)=some l[i]:=by rw [kuz,jaf h]
theorem knb {i:Nat} (h:0<i) (hb:(i:Int)<=9223372036854775807):w64 ((i:Int)-1)=((i-1:Nat):Int):=by rw [kcb (by omega) (by omega)]; omega
theorem koz {α β:Type} {F:α->Option (α⊕β)}:∀ {n:Nat} {x:α} {z:β} (m:Nat),itN F n x=some z->itN F (n+m) x=some z
 | 0,x,z,m,h=>by simp [itN] at h
 | n+1,x,z,m,h=>by
  rw [Nat.succ_add]
  simp only [itN] at h ⊢
  split at h
  ·cases h
  ·rename_i y hy; rw [hy] at *; exact koz m h
  ·rename_i w hw; rw [hw] at *; exact h
theorem kdh {α β:Type} {F:α->Option (α⊕β)} {n:Nat} {x:α} {z:β} (h:itN F n x=some z) (hn:n<=18446744073709551616):iter F x=some z:=by
 unfold iter
 have:=koz (18446744073709551616-n) h
 rwa [show n+(18446744073709551616-n)=18446744073709551616 by omega] at this
theorem kbK {α β:Type} {F:α->Option (α⊕β)} {n:Nat} {x:α} {z:β} (h:F x=some (.inr z)):itN F (n+1) x=some z:=by simp [itN,h]
theorem kdm {α β:Type} {F:α->Option (α⊕β)} {n:Nat} {x y:α} (h:F x=some (.inl y)):itN F (n+1) x=itN F n y:=by simp [itN,h]
theorem kad {α:Type} (l:List α):lenI l=(l.length:Int):=rfl
theorem kar {i:Nat} (h:i<9223372036854775807):w64 ((i:Int)+1)=((i+1:Nat):Int):=by rw [kcb (by omega) (by omega)]; rfl
def endL {β:Type}:Option β->β⊕Unit
 | some b=>.inl b
 | none=>.inr ()
def nextL {β:Type} (i:Nat):Option β->Int⊕(β⊕Unit)
 | some b=>.inr (.inl b)
 | none=>.inl ((i+1:Nat):Int)
theorem kcu {α β:Type} {F:Int->Option (Int⊕(β⊕Unit))} (l:List α) (hl:l.length<=9223372036854775807) (f:Nat->α->Option β)
  (h1:∀ i,(hi:i<l.length)->F (i:Int)=some (nextL i (f i l[i]))) (h2:F (l.length:Int)=some (.inr (.inr ()))) :
  iter F 0=some (endL (l.zipIdx.findSome? fun x=>f x.2 x.1)):=by
 have:∀ k i:Nat,i+k=l.length->itN F (k+1) (i:Int)=some (endL (((l.drop i).zipIdx i).findSome? (fun x=>f x.2 x.1))):=by
  intro k
  induction k with
  | zero=>
   intro i h
   have:i=l.length:=by omega
   subst this
   rw [kbK h2,List.drop_length]; rfl
  | succ k ih=>
   intro i h
   have hi:i<l.length:=by omega
   rw [jaz hi,jbw,jds]
   have e:=h1 i hi
   cases hf:f i l[i] with
   | some b=>rw [hf] at e; rw [kbK e]; rfl
   | none=>rw [hf] at e; rw [kdm e,ih (i+1) (by omega)]
 exact kdh (this l.length 0 (by omega)) (by omega)
theorem kfJ {α:Type} {F:Int->Option (Int⊕(Bool⊕Unit))} (b:Bool) (l:List α) (hl:l.length<=9223372036854775807) (p:Nat->α->Bool)
  (h1:∀ i,(hi:i<l.length)->F (i:Int)=some (if p i l[i]=true then .inr (.inl b) else .inl ((i+1:Nat):Int))) (h2:F (l.length:Int)=some (.inr (.inr ()))) :
  iter F 0=some (if (l.zipIdx.any fun x=>p x.2 x.1)=true then .inl b else .inr ()):=by
 rw [kcu l hl (fun i x=>if p i x=true then some b else none) (fun i hi=>by rw [h1 i hi]; cases p i l[i] <;> rfl) h2]
 generalize l.zipIdx=L
 induction L with
 | nil=>rfl
 | cons x L ih=>
  rw [jds,jec]
  cases hp:p x.2 x.1 with
  | true=>simp [endL]
  | false=>simp only [jal,if_false,jdm]; exact ih
theorem kbS {α:Type} {a b:List α} (h:a.length+b.length<=1048576):gapp a b=some (a++b):=by unfold gapp; rw [if_pos h]
theorem kgM {α:Type} {x:α} {l:List α}:gsl (x::l) 1 (lenI (x::l))=some l:=by
 unfold gsl
 rw [if_pos (by rw [kad]; simp only [jaq]; omega)]
 rw [kad,Int.toNat_natCast,List.take_length]; rfl
theorem kfb {α:Type} {x:α} {l:List α}:gi (x::l) 0=some x:=rfl
theorem kqI {α:Type} (q:α->Bool):∀ (l:List α) (k:Nat),((l.zipIdx k).any fun x=>q x.1)=l.any q
 | [],k=>rfl
 | x::l,k=>by rw [jbw,jec,jec,kqI q l (k+1)]
theorem lenI_lt {α:Type} {l:List α} {i:Nat}:decide ((i:Int)<lenI l)=true↔i<l.length:=by rw [kad,jaj]; omega
theorem keq {α:Type} {l:List α}:¬ decide ((l.length:Int)<lenI l)=true:=by rw [lenI_lt]; omega
end Go.Abs
namespace Go.Abs
open Go Go.RowKit
inductive Sh where
 | int (k:IntKind)
 | bool
 | str
 | sl (e:Sh)
 | st (fs:List Sh)
def kfy (P:Program):List Field->Nat->Nat->Bool
 | [],o,n=>o==n
 | f::fs,o,n=>f.offset==o&&kfy P fs (o+P.cellsOf f.type) n
def shapeOf (P:Program):Nat->TypeId->Option Sh
 | 0,_=>none
 | d+1,t=>match P.underlying t with
  | some .bool=>some .bool
  | some (.int k)=>some (.int k)
  | some .string=>some .str
  | some (.slice e)=>if P.cellsOf e=0 then none else (shapeOf P d e).map .sl
  | some (.struct fs)=>if kfy P fs.toList 0 (P.cellsOf t) then (fs.toList.mapM fun f=>shapeOf P d f.type).map .st else none
  | some (.array n e)=>if n*P.cellsOf e=P.cellsOf t then (shapeOf P d e).map fun s=>.st (List.replicate n s) else none
  | _=>none
inductive Enc:Sh->List AV->Prop
 | int (k:IntKind) (n:Int) (h:(Lit.int k n).wf=true):Enc (.int k) [.sc (.int k n)]
 | bool (b:Bool):Enc .bool [.sc (.bool b)]
 | str (s:ByteArray) (h:s.size<=maxLen):Enc .str [.sc (.string s)]
 | sl (e:Sh) (es:List (List AV)) (h:∀ x∈es,Enc e x) (hl:es.length<=maxLen):Enc (.sl e) [.sl es]
 | nil:Enc (.st []) []
 | cons (s:Sh) (ss:List Sh) (a as:List AV) (h1:Enc s a) (h2:Enc (.st ss) as):Enc (.st (s::ss)) (a++as)
abbrev noO:Nat->Prop:=fun _=>False
def CR (w:World) (as:List AV) (cs:List Value):Prop:=
 as.length=cs.length/\∀ (j:Nat) (a:AV),as[j]?=some a->a.one=true/\∃ v,cs[j]?=some v/\VR w noO mu0 0 a v
theorem CR.nil {w:World}:CR w [] []:=⟨rfl,fun j a h=>by simp at h⟩
theorem CR.one {w:World} {a:AV} {v:Value} (h1:a.one=true) (h:VR w noO mu0 0 a v):CR w [a] [v]:=⟨rfl,fun j x hj=>by
 cases j with
 | zero=>simp at hj; subst hj; exact ⟨h1,v,rfl,h⟩
 | succ j=>simp at hj⟩
theorem CR.append {w:World} {as bs:List AV} {cs ds:List Value} (h:CR w as cs) (g:CR w bs ds):CR w (as++bs) (cs++ds):=by
 refine ⟨by simp [h.1,g.1],fun j a hj=>?_⟩
 rw [jbr] at hj
 split at hj
 ·rename_i hlt
  obtain ⟨h1,v,h2,h3⟩:=h.2 j a hj
  exact ⟨h1,v,by rw [jbq (by rw [<-h.1]; exact hlt)]; exact h2,h3⟩
 ·rename_i hge
  obtain ⟨h1,v,h2,h3⟩:=g.2 _ a hj
  exact ⟨h1,v,by rw [jck (by rw [<-h.1]; omega),<-h.1]; exact h2,h3⟩
theorem noAv (b:Nat):¬ Av noO mu0 b:=by
 rintro (h | ⟨_,_,h⟩)
 ·exact h
 ·cases h
section
variable {H:Type} {enc:TypeId×Value->H} {P:Program} {w:World} {held:Bool}
theorem klV {d fuel:Nat} (ih:∀ (t:TypeId) (sh:Sh) (cs:List Value) (x:DataW H×List MemPlace),shapeOf P d t=some sh->DataW.trod enc P w 0 (fun _=>true) held fuel t cs=some x->∃ as,Enc sh as/\CR w as cs) {cs:List Value} :
  ∀ (fs:List Field) (o:Nat) (shs:List Sh) (xs:List (DataW H×List MemPlace)),kfy P fs o cs.length=true->(fs.mapM fun f=>shapeOf P d f.type)=some shs->
   (fs.mapM fun f=>DataW.trod enc P w 0 (fun _=>true) held fuel f.type ((cs.drop f.offset).take (P.cellsOf f.type)))=some xs->(∀ f∈fs,f.offset+P.cellsOf f.type<=cs.length)->∃ as,Enc (.st shs) as/\CR w as (cs.drop o)
 | [],o,shs,xs,ho,hs,hx,hle=>by
  simp [kfy] at ho
  simp at hs; subst hs
  exact ⟨[],.nil,by rw [ho]; simp; exact CR.nil⟩
 | f::fs,o,shs,xs,ho,hs,hx,hle=>by
  simp only [kfy,jab,beq_iff_eq] at ho
  obtain ⟨rfl,ho⟩:=ho
  simp only [jdw,Option.bind_eq_bind,jaa,Option.pure_def,Option.some.injEq] at hs hx
  obtain ⟨s,hs1,ss,hs2,rfl⟩:=hs
  obtain ⟨y,hy,ys,hys,rfl⟩:=hx
  obtain ⟨a,ha,hca⟩:=ih _ _ _ _ hs1 hy
  obtain ⟨as,has,hcas⟩:=klV ih fs _ ss ys ho hs2 hys fun g hg=>hle g (jba _ hg)
  refine ⟨a++as,.cons s ss a as ha has,?_⟩
  have e:cs.drop f.offset=(cs.drop f.offset).take (P.cellsOf f.type)++cs.drop (f.offset+P.cellsOf f.type):=by
   rw [<-List.drop_drop]; exact (List.take_append_drop _ _).symm
  rw [e]
  exact hca.append hcas
theorem knp {P:Program}:∀ (fs:List Field) (o n:Nat),kfy P fs o n=true->o<=n/\∀ f∈fs,f.offset+P.cellsOf f.type<=n
 | [],o,n,h=>by simp [kfy] at h; exact ⟨by omega,fun f hf=>by simp at hf⟩
 | f::fs,o,n,h=>by
  simp only [kfy,jab,beq_iff_eq] at h
  obtain ⟨h1,h2⟩:=knp fs _ _ h.2
  refine ⟨by omega,fun g hg=>?_⟩
  rcases jat.1 hg with rfl | hg
  ·rw [h.1]; exact h1
  ·exact h2 g hg
theorem knz {d fuel:Nat} (ih:∀ (t:TypeId) (sh:Sh) (cs:List Value) (x:DataW H×List MemPlace),shapeOf P d t=some sh->DataW.trod enc P w 0 (fun _=>true) held fuel t cs=some x->∃ as,Enc sh as/\CR w as cs) {e:TypeId} {sh:Sh} (hsh:shapeOf P d e=some sh) (cs:List Value) :
  ∀ (n o:Nat),(∀ i,i<n->∃ x,DataW.trod enc P w 0 (fun _=>true) held fuel e ((cs.drop ((o+i)*P.cellsOf e)).take (P.cellsOf e))=some x)->(o+n)*P.cellsOf e=cs.length->∃ as,Enc (.st (List.replicate n sh)) as/\CR w as (cs.drop (o*P.cellsOf e))
 | 0,o,_,hl=>⟨[],.nil,by rw [show o*P.cellsOf e=cs.length by simpa using hl]; simp; exact CR.nil⟩
 | n+1,o,h,hl=>by
  obtain ⟨x,hx⟩:=h 0 (by omega)
  simp only [Nat.add_zero] at hx
  obtain ⟨a,ha,hca⟩:=ih _ _ _ _ hsh hx
  obtain ⟨as,has,hcas⟩:=knz ih hsh cs n (o+1) (fun i hi=>by rw [show o+1+i=o+(i+1) by omega]; exact h (i+1) (by omega)) (by rw [<-hl]; congr 1; omega)
  refine ⟨a++as,.cons sh _ a as ha has,?_⟩
  have e1:cs.drop (o*P.cellsOf e)=(cs.drop (o*P.cellsOf e)).take (P.cellsOf e)++cs.drop ((o+1)*P.cellsOf e):=by
   rw [jcc,Nat.one_mul,<-List.drop_drop]; exact (List.take_append_drop _ _).symm
  rw [e1]
  exact hca.append hcas
theorem kpE:∀ (d:Nat) (fuel:Nat) (t:TypeId) (sh:Sh) (cs:List Value) (x:DataW H×List MemPlace),shapeOf P d t=some sh->DataW.trod enc P w 0 (fun _=>true) held fuel t cs=some x->∃ as,Enc sh as/\CR w as cs
 | 0,_,_,_,_,_,h,_=>by cases h
 | d+1,0,t,sh,cs,x,_,hx=>by simp [DataW.trod] at hx
 | d+1,fuel+1,t,sh,cs,x,h,hx=>by
  have ih:=fun t sh cs x=>kpE d fuel t sh cs x
  simp only [shapeOf] at h
  unfold DataW.trod at hx
  cases hu:P.underlying t with
  | none=>simp [hu] at h
  | some u=>
   simp only [hu] at h hx
   cases u <;> simp only [reduceCtorEq] at h
   case bool=>
    cases h
    split at hx <;> simp only [reduceCtorEq,Option.some.injEq,TypeDesc.int.injEq] at * <;> try contradiction
    rename_i b _
    exact ⟨_,.bool b,CR.one rfl (.sc _ rfl)⟩
   case int k=>
    cases h
    split at hx <;> simp only [reduceCtorEq,Option.some.injEq,TypeDesc.int.injEq] at * <;> try contradiction
    rename_i h1
    subst h1
    split at hx
    ·rename_i hc
     obtain ⟨rfl,hw⟩:=hc
     exact ⟨_,.int _ _ hw,CR.one rfl (.sc _ rfl)⟩
    ·cases hx
   case string=>
    cases h
    split at hx <;> simp only [reduceCtorEq,Option.some.injEq] at * <;> try contradiction
    split at hx
    ·rename_i hc
     exact ⟨_,.str _ hc,CR.one rfl (.sc _ rfl)⟩
    ·cases hx
   case slice e=>
    split at h
    ·cases h
    rename_i hk
    cases hse:shapeOf P d e with
    | none=>simp [hse] at h
    | some she=>
    simp only [hse,jcl,Option.some.injEq] at h
    subst h
    split at hx <;> simp only [reduceCtorEq,Option.some.injEq,TypeDesc.slice.injEq] at * <;> try contradiction
    ·exact ⟨_,.sl she [] (fun x hx=>by simp at hx) (by simp),CR.one rfl (.slnil none)⟩
    ·rename_i a len cap h1
     subst h1
     split at hx
     ·rename_i hb
      obtain ⟨elems,he,hx⟩:=jaa.1 hx
      simp only [if_true] at hx
      obtain ⟨rest,hrest,-⟩:=jac.1 hx
      have el1:=mapM_some_length he
      have el2:=mapM_some_length hrest
      simp only [List.length_range] at el1 el2
      have elem:∀ i:Nat,∃ p:List Value×List AV,i<cap->w.cells? 0 (a.add (i*P.cellsOf e)) (P.cellsOf e)=some p.1/\Enc she p.2/\CR w p.2 p.1:=by
       intro i
       by_cases hi:i<cap
       ·have:∃ y,((w.cells? 0 (a.add (i*P.cellsOf e)) (P.cellsOf e)).bind (DataW.trod enc P w 0 (fun _=>true) held fuel e))=some y:=by
         by_cases hil:i<len
         ·have:=mapM_some_get he i i (by simp [hil])
          exact ⟨elems[i]'(by omega),by rw [this]; exact jaf _⟩
         ·have:=mapM_some_get hrest (i-len) (i-len) (by rw [List.getElem?_range (by omega)])
          rw [show len+(i-len)=i by omega] at this
          exact ⟨rest[i-len]'(by omega),by rw [this]; exact jaf _⟩
        obtain ⟨y,hy⟩:=this
        obtain ⟨csi,hc,hy⟩:=jaa.1 hy
        obtain ⟨as,g1,g2⟩:=ih e she csi y hse hy
        exact ⟨(csi,as),fun _=>⟨hc,g1,g2⟩⟩
       ·exact ⟨([],[]),fun h=>absurd h hi⟩
      obtain ⟨F,hF⟩:=Classical.axiomOfChoice elem
      by_cases hcap:cap=0
      ·subst hcap
       obtain rfl:len=0:=by omega
       exact ⟨[.sl []],.sl she [] (fun x hx=>by simp at hx) (by simp),CR.one rfl (.slnil _)⟩
      ·have hspot:a.spot=none:=by
        obtain ⟨h1,-,-⟩:=hF 0 (by omega)
        obtain ⟨-,h2,h3⟩:=World.cells?_some h1
        have h4:=h3 0 (by omega)
        rw [jaf (by omega)] at h4
        have:=World.cell?_spot h4
        simpa [Addr.add] using this
       obtain ⟨b,o,spot⟩:=a
       subst hspot
       have hlen:((List.range len).map fun i=>(F i).2).length=len:=by simp
       have hget:∀ (i:Nat) (c:List AV),((List.range len).map fun i=>(F i).2)[i]?=some c->i<len/\c=(F i).2:=fun i c hi=>by
        simp only [jbb,jac] at hi
        obtain ⟨i',hi',rfl⟩:=hi
        have hlt:i<len:=by have:=(jad.1 hi').1; simpa using this
        rw [List.getElem?_range hlt] at hi'
        cases hi'
        exact ⟨hlt,rfl⟩
       have hval:∀ (i:Nat) (c:List AV),((List.range len).map fun i=>(F i).2)[i]?=some c->c.length=P.cellsOf e/\∀ (j:Nat) (x:AV),c[j]?=some x->x.one=true/\w.cell? ⟨b,o+i*P.cellsOf e+j,none⟩=some (((F i).1[j]?).getD undef)/\VR w noO mu0 0 x (((F i).1[j]?).getD undef):=fun i c hi=>by
        obtain ⟨hlt,rfl⟩:=hget i c hi
        obtain ⟨h1,h2,h3,h4⟩:=hF i (by omega)
        obtain ⟨-,h5,h6⟩:=World.cells?_some h1
        refine ⟨by omega,fun j x hj=>?_⟩
        obtain ⟨g1,v,g2,g3⟩:=h4 j x hj
        have hj':=(jad.1 hj).1
        have h7:=h6 j (by omega)
        rw [keS,keS] at h7
        rw [h7,g2]
        exact ⟨g1,rfl,g3⟩
       refine ⟨[.sl ((List.range len).map fun i=>(F i).2)],.sl she _ (fun x hx=>?_) (by omega),CR.one rfl ?_⟩
       ·simp only [jax,jdx] at hx
        obtain ⟨i,hi,rfl⟩:=hx
        exact (hF i (by omega)).2.1
       ·have hmain:=VR.sl (w:=w) (O:=noO) (μ:=mu0) (n:=0) ((List.range len).map fun i=>(F i).2) b o cap (P.cellsOf e) (fun i j=>((F i).1[j]?).getD undef) (by omega) (by omega) (fun _ _ _ _=>noAv b)
         (fun i c hi=>(hval i c hi).1) (fun i c hi j x hj=>((hval i c hi).2 j x hj).2.1) (fun i c hi j x hj=>((hval i c hi).2 j x hj).1) (fun i c hi j x hj=>((hval i c hi).2 j x hj).2.2)
        rw [hlen] at hmain
        exact hmain
     ·cases hx
   case struct fs=>
    split at h
    ·rename_i ho
     cases hfs:fs.toList.mapM fun f=>shapeOf P d f.type with
     | none=>rw [hfs] at h; cases h
     | some shs=>
     rw [hfs] at h
     cases h
     split at hx <;> simp only [reduceCtorEq,Option.some.injEq,TypeDesc.struct.injEq] at * <;> try contradiction
     ·rename_i h1
      subst h1
      split at hx
      ·rename_i hl
       obtain ⟨xs,hxs,-⟩:=jac.1 hx
       obtain ⟨as,h1,h2⟩:=klV ih fs.toList 0 shs xs (by rw [hl]; exact ho) hfs hxs (by rw [hl]; exact (knp _ _ _ ho).2)
       exact ⟨as,h1,by simpa using h2⟩
      ·cases hx
     ·exact (‹∀ fs_1:Array Field,fs=fs_1->False› _ rfl).elim
    ·cases h
   case array n e=>
    split at h
    ·rename_i ho
     cases hse:shapeOf P d e with
     | none=>rw [hse] at h; cases h
     | some she=>
     rw [hse] at h
     cases h
     split at hx <;> simp only [reduceCtorEq,Option.some.injEq,TypeDesc.array.injEq] at * <;> try contradiction
     ·rename_i h1
      obtain ⟨rfl,rfl⟩:=h1
      split at hx
      ·rename_i hl
       obtain ⟨xs,hxs,-⟩:=jac.1 hx
       rename_i cs1 _ _
       have hl2:=mapM_some_length hxs
       simp only [List.length_range] at hl2
       have hel:∀ i,i<n->∃ x,DataW.trod enc P w 0 (fun _=>true) held fuel e ((List.drop ((0+i)*P.cellsOf e) cs1).take (P.cellsOf e))=some x:=fun i hi=>by
        have:=mapM_some_get hxs i i (by simp [hi])
        rw [jch,this]
        exact ⟨_,jaf (by omega)⟩
       obtain ⟨as,h1,h2⟩:=knz ih hse _ n 0 hel (by rw [hl,<-ho]; simp)
       exact ⟨as,h1,by simpa using h2⟩
      ·cases hx
     ·exact (‹∀ (n_1:Nat) (e_1:TypeId),n=n_1/\e=e_1->False› _ _ ⟨rfl,rfl⟩).elim
    ·cases h
end
end Go.Abs
namespace Go.Abs
open Go Go.RowKit Go.ChangeShapes Go.WideShapes
def EncP:Sh->AV->Prop
 | .st fs,a=>∃ as,a = .ag as/\Enc (.st fs) as
 | s,a=>Enc s [a]
def EncPs:List Sh->List AV->Prop
 | [],[]=>True
 | s::ss,a::as=>EncP s a/\EncPs ss as
 | _,_=>False
section
variable {H:Type} {enc:TypeId×Value->H} {P:Program} {W:World}
theorem EncP.of_one {sh:Sh} {a:AV} (h:Enc sh [a]) (hs:∀ fs,sh≠.st fs):EncP sh a:=by
 cases sh <;> first | exact h | exact absurd rfl (hs _)
theorem CR.ag {as:List AV} {cs:Array Value} (h:CR W as cs.toList):VR W noO mu0 0 (.ag as) (.agg cs):=by
 refine .ag as cs (fun j=>cs.getD j undef) (by simpa using h.1.symm) (fun j c hj=>?_) (fun j c hj=>(h.2 j c hj).1) (fun j c hj=>?_)
 all_goals
  obtain ⟨h1,v,h2,h3⟩:=h.2 j c hj
  rw [jcr] at h2
  simp only [jae,h2,jca]
 exact h3
theorem ksp {d:Nat} {t:TypeId} {sh:Sh} {v:Value} {x:DataW H} {p:List MemPlace} {r:Reach} {b:Nat} (hs:shapeOf P d t=some sh) (hv:Value.okWide P W r b t v) (ht:DataW.Trod enc P W 0 (fun _=>true) true t v x p) :
  ∃ a,EncP sh a/\VR W noO mu0 0 a v:=by
 obtain ⟨fuel,hx⟩:=ht
 obtain ⟨as,h1,h2⟩:=kpE d fuel t sh _ _ hs hx
 have single:∀ {sh:Sh} {u:Value},Enc sh as->CR W as [u]->(∀ fs,sh≠.st fs)->∃ a,EncP sh a/\VR W noO mu0 0 a u:=by
  intro sh u g1 g2 g3
  match as,g1,g2 with
  | [a],g1,g2=>
   obtain ⟨_,v,e,g⟩:=g2.2 0 a rfl
   simp at e; subst e
   exact ⟨a,.of_one g1 g3,g⟩
  | [],_,g2=>have:=g2.1; simp at this
  | _::_::_,_,g2=>have:=g2.1; simp at this
 cases d with
 | zero=>cases hs
 | succ d=>
  simp only [shapeOf] at hs
  cases hu:P.underlying t with
  | none=>simp [hu] at hs
  | some u=>
   simp only [hu] at hs
   cases u <;> simp only [reduceCtorEq] at hs
   case bool=>obtain ⟨b,rfl⟩:=okWide_bool hu hv; cases hs; exact single h1 (by simpa [Value.cells] using h2) (by simp)
   case int k=>obtain ⟨b,rfl⟩:=okWide_int hu hv; cases hs; exact single h1 (by simpa [Value.cells] using h2) (by simp)
   case string=>obtain ⟨b,rfl⟩:=okWide_string hu hv; cases hs; exact single h1 (by simpa [Value.cells] using h2) (by simp)
   case slice e=>
    obtain ⟨a,len,cap,rfl⟩:=okWide_slice hu hv
    have:∀ fs,sh≠.st fs:=by
     rintro fs rfl
     split at hs
     ·cases hs
     ·obtain ⟨_,_,h⟩:=jac.1 hs; cases h
    exact single h1 (by simpa [Value.cells] using h2) this
   case struct fs=>
    obtain ⟨cs,rfl,_⟩:=okWide_struct hu hv
    obtain ⟨fs',rfl⟩:∃ fs',sh = .st fs':=by
     split at hs
     ·obtain ⟨s,_,h⟩:=jac.1 hs; exact ⟨s,h.symm⟩
     ·cases hs
    exact ⟨.ag as,⟨as,rfl,h1⟩,CR.ag (by simpa [Value.cells] using h2)⟩
   case array n e=>
    obtain ⟨cs,rfl,_⟩:∃ cs,v = .agg cs/\cs.size=P.cellsOf t:=by
     simp only [Value.okWide,hu] at hv
     obtain ⟨cs,h1,h2,_⟩:=hv
     exact ⟨cs,h1,h2⟩
    obtain ⟨fs',rfl⟩:∃ fs',sh = .st fs':=by
     split at hs
     ·obtain ⟨s,_,h⟩:=jac.1 hs; exact ⟨_,h.symm⟩
     ·cases hs
    exact ⟨.ag as,⟨as,rfl,h1⟩,CR.ag (by simpa [Value.cells] using h2)⟩
theorem klT {d:Nat} {r:Reach} {b:Nat}:∀ {ts:List TypeId} {shs:List Sh} {vs:List Value} {ds:List (DataW H)} {ps:List MemPlace},ts.mapM (shapeOf P d)=some shs->
  (∀ (j:Nat) t v,ts[j]?=some t->vs[j]?=some v->Value.okWide P W r b t v)->DataW.TrodAll enc P W 0 (fun _=>true) true ts vs ds ps->
  ∃ as,EncPs shs as/\vs.length=as.length/\ds.length=ts.length/\∀ (j:Nat) (c:AV),as[j]?=some c->∃ u,vs[j]?=some u/\VR W noO mu0 0 c u
 | [],shs,vs,ds,ps,hs,hv,ht=>by
  simp at hs; subst hs
  cases vs <;> cases ds <;> simp [DataW.TrodAll] at ht
  exact ⟨[],trivial,rfl,rfl,fun j c hj=>by simp at hj⟩
 | t::ts,shs,vs,ds,ps,hs,hv,ht=>by
  simp only [jdw,Option.bind_eq_bind,jaa,Option.pure_def,Option.some.injEq] at hs
  obtain ⟨s,hs1,ss,hs2,rfl⟩:=hs
  obtain ⟨v,vs',dd,ds',p,q,rfl,rfl,rfl,h1,h2⟩:=trodAll_cons ht
  obtain ⟨a,g1,g2⟩:=ksp hs1 (hv 0 t v rfl rfl) h1
  obtain ⟨as,f1,f2,f3,f4⟩:=klT hs2 (fun j t v e1 e2=>hv (j+1) t v (by simpa using e1) (by simpa using e2)) h2
  refine ⟨a::as,⟨g1,f1⟩,by simp [f2],by simp [f3],fun j c hj=>?_⟩
  cases j with
  | zero=>simp at hj; subst hj; exact ⟨v,rfl,g2⟩
  | succ j=>simpa using f4 j c (by simpa using hj)
theorem kix (hl:laidOutB P=true) {W':World} (hb:Below W.heap.size W W'):∀ {ts:List TypeId} {vs:List Value} {ds:List (DataW H)} {ps:List MemPlace},(∀ t∈ts,P.readableRec t=true/\t<P.types.size)->
  DataW.TrodAll enc P W 0 (fun _=>true) true ts vs ds ps->(∀ x∈ps,x.block<W.heap.size)->DataW.TrodAll enc P W' 0 (fun b=>decide (b<W.heap.size)) true ts vs ds ps
 | [],vs,ds,ps,_,h,_=>by cases vs <;> cases ds <;> simp [DataW.TrodAll] at h ⊢; exact h
 | t::ts,vs,ds,ps,hr,h,hlt=>by
  obtain ⟨v,vs',d,ds',p,q,rfl,rfl,rfl,h1,h2⟩:=trodAll_cons h
  obtain ⟨r1,r2⟩:=hr t (by simp)
  exact ⟨p,q,Below.trod hl r1 r2 h1 hb fun x hx=>hlt x (by simp [hx]),kix hl hb (fun t' ht'=>hr t' (by simp [ht'])) h2 fun x hx=>hlt x (by simp [hx]),rfl⟩
theorem law_lifted {C:Checked} {os:Os} {f:FuncId} {fn:Func} {s:ChangeSpec} (own:ownKnob C.prog.godebug=none) (started:os.Started) (laid:laidOutB C.prog=true) (noInit:C.prog.inits.idxOf? f=none) (hfn:C.prog.funcs[f]?=some fn)
  (witness:∃ (w:World) (tape:Tape) (i:Input),w.os=os/\(w.forCall tape i).Shaped C.prog/\i.vars=[]/\Input.okWide C.prog (w.forCall tape i) .any w.heap.size f i/\
   s.pre6 enc C.prog fn [] false (w.forCall tape i).memory i.args/\({}:Assume).holds C.prog (lone (Frame.enter C.prog f i.args .normal) [] (w.forCall tape i)))
  (hvars:s.vars=[]) (hspec:∀ ds:List (DataW H),ds.length=fn.params.toList.length->s.fn H ds = { results:=[.lit (.bool true)],args:=ds })
  {tb:TypeId} (hres:fn.resultTypes = #[tb]) (hb:C.prog.underlying tb=some .bool) {d:Nat} {shs:List Sh} (hsh:fn.params.toList.mapM (shapeOf C.prog d)=some shs)
  (hread:fn.params.toList.all (fun t=>C.prog.readableRec t&&decide (t<C.prog.types.size))=true) (pc:∀ as,EncPs shs as->PC C.prog f as (·= .sc (.bool true))) :
  ReturnsInHanded {} C os f .any (s.pre6 enc C.prog fn [] false) (s.post enc C.prog fn false true false false):=by
 refine returnsInHanded_of_change own started noInit hfn witness ?_
 intro W base args ds gs before hval hW hcnd _
 have hW':=hW
 obtain ⟨p,q,hA,hV,rfl,hfz,hnd⟩:=hW
 rw [hvars] at hV
 obtain ⟨rfl,rfl⟩:=trodVars_none hV
 obtain ⟨as,h1,h2,h3,h4⟩:=klT hsh (fun j t v e1 e2=>hval j t v (by simpa using e1) (by simpa using e2)) hA
 refine ((pc as h1).2 noO W args (fun b h=>h.elim) (by simpa using h2) (fun j c hj=>by simpa using h4 j c hj)).mono ?_
 rintro e W' ⟨u,v,rfl,rfl,hu,hB⟩
 have hu':=hu.bool_inv
 subst hu'
 have hlt:∀ x∈p,x.block<W.heap.size:=fun x hx=>by simpa using hW'.lt x (List.mem_append_left _ hx)
 have hsp:=hspec ds h3
 refine ⟨_,rfl,ds,[],p++[],[],p,[],hW',?_,?_,?_,hB.frame _,fun h=>by cases h⟩
 ·rw [jbe,hsp,hres]
  exact trodAll_mk1 (shut_bool hb true)
 ·rw [jbe,hsp]
  exact kix laid hB (fun t ht=>by have:=jam.1 hread t ht; simpa only [jab,jaj] using this) hA hlt
 ·rw [hvars,jbe,hsp]
  rfl
end
end Go.Abs
namespace Go.Abs
open Go
def Dec {α:Type} (sh:Sh) (f:α->List AV) (ok:α->Prop):Prop:=∀ as,Enc sh as->∃ x,as=f x/\ok x
def okI (k:IntKind) (n:Int):Prop:=(Lit.int k n).wf=true
def okS (l:List UInt8):Prop:=l.length<=maxLen
def okL {α:Type} (ok:α->Prop) (l:List α):Prop:=l.length<=maxLen/\∀ x∈l,ok x
theorem kub:Dec .str str1 okS:=fun as h=>by
 cases h with
 | str s h=>exact ⟨s.data.toList,by simp,by simpa [okS] using h⟩
theorem kux {α:Type} {e:Sh} {f:α->List AV} {ok:α->Prop} (h:Dec e f ok):Dec (.sl e) (sl1 f) (okL ok):=fun as ha=>by
 cases ha with
 | sl _ es he hl=>
  have:∀ es:List (List AV),(∀ x∈es,Enc e x)->∃ l:List α,es=l.map f/\∀ x∈l,ok x:=by
   intro es
   induction es with
   | nil=>exact fun _=>⟨[],rfl,fun x hx=>by cases hx⟩
   | cons a es ih=>
    intro h2
    obtain ⟨x,rfl,ox⟩:=h a (h2 a (by simp))
    obtain ⟨l,rfl,ol⟩:=ih fun y hy=>h2 y (by simp [hy])
    exact ⟨x::l,rfl,fun y hy=>by
     rcases jat.1 hy with rfl | hy
     ·exact ox
     ·exact ol y hy⟩
  obtain ⟨l,rfl,ol⟩:=this es he
  exact ⟨l,rfl,by simpa using hl,ol⟩
theorem kmO {as:List AV} (h:Enc (.st []) as):as=[]:=by cases h; rfl
theorem kih {s:Sh} {ss:List Sh} {bs:List AV} (h:Enc (.st (s::ss)) bs):∃ a as,bs=a++as/\Enc s a/\Enc (.st ss) as:=by
 cases h with
 | cons _ _ a as h1 h2=>exact ⟨a,as,rfl,h1,h2⟩
theorem kmT {xs:List AV} (h:EncPs [] xs):xs=[]:=by cases xs with | nil=>rfl | cons _ _=>exact h.elim
theorem klM {s:Sh} {ss:List Sh} {xs:List AV} (h:EncPs (s::ss) xs):∃ a as,xs=a::as/\EncP s a/\EncPs ss as:=by
 cases xs with
 | nil=>exact h.elim
 | cons a as=>exact ⟨a,as,rfl,h.1,h.2⟩
end Go.Abs
namespace Go.Abs
open Go Go.RowKit
def okT:(t:Ty)->t.den->Prop
 | .i k,n=>okI k n
 | .s,l=>okS l
 | .sl t,l=>okL (okT t) l
 | .pr t u,x=>okT t x.1/\okT u x.2
 | .w t,x=>okT t x
 | _,_=>True
def okTs:(ts:List Ty)->(tup ts).den->Prop
 | [],_=>True
 | [t],x=>okT t x
 | t::u::ts,x=>okT t x.1/\okTs (u::ts) x.2
mutual
def shOk:Sh->Ty->Bool
 | .int k,.i k'=>k==k'
 | .bool,.b=>true
 | .str,.s=>true
 | .sl e,.sl t=>shOk e t
 | .st [],.un=>true
 | .st [f],.w t=>shOk f t
 | .st (f::g::fs),.pr t u=>shOk f t&&stOk (g::fs) u
 | _,_=>false
def stOk:List Sh->Ty->Bool
 | [f],t=>shOk f t
 | f::fs,.pr t u=>shOk f t&&stOk fs u
 | _,_=>false
end
mutual
theorem kgE:∀ (sh:Sh) (t:Ty),shOk sh t=true->Dec sh t.enc (okT t)
 | .int k,.i k',h=>by
  simp only [shOk,beq_iff_eq] at h
  subst h
  intro as ha
  cases ha with | int _ n h=>exact ⟨n,rfl,h⟩
 | .bool,.b,_=>by
  intro as ha
  cases ha with | bool b=>exact ⟨b,rfl,trivial⟩
 | .str,.s,_=>kub
 | .sl e,.sl t,h=>kux (kgE e t (by simpa [shOk] using h))
 | .st [],.un,_=>fun as ha=>⟨(),kmO ha,trivial⟩
 | .st [f],.w t,h=>fun as ha=>by
  obtain ⟨a,bs,rfl,h1,h2⟩:=kih ha
  cases kmO h2
  obtain ⟨x,rfl,ox⟩:=kgE f t (by simpa [shOk] using h) a h1
  exact ⟨x,by rw [jbe]; rfl,ox⟩
 | .st (f::g::fs),.pr t u,h=>fun as ha=>by
  simp only [shOk,jab] at h
  obtain ⟨a,bs,rfl,h1,h2⟩:=kih ha
  obtain ⟨x,rfl,ox⟩:=kgE f t h.1 a h1
  obtain ⟨y,rfl,oy⟩:=krQ (g::fs) u h.2 bs h2
  exact ⟨(x,y),rfl,ox,oy⟩
theorem krQ:∀ (fs:List Sh) (t:Ty),stOk fs t=true->∀ as,Enc (.st fs) as->∃ x,as=t.enc x/\okT t x
 | [f],t,h,as,ha=>by
  obtain ⟨a,bs,rfl,h1,h2⟩:=kih ha
  cases kmO h2
  obtain ⟨x,rfl,ox⟩:=kgE f t (by simpa [stOk] using h) a h1
  exact ⟨x,by rw [jbe],ox⟩
 | f::g::fs,.pr t u,h,as,ha=>by
  simp only [stOk,jab] at h
  obtain ⟨a,bs,rfl,h1,h2⟩:=kih ha
  obtain ⟨x,rfl,ox⟩:=kgE f t h.1 a h1
  obtain ⟨y,rfl,oy⟩:=krQ (g::fs) u h.2 bs h2
  exact ⟨(x,y),rfl,ox,oy⟩
end
theorem kqM {sh:Sh} {t:Ty} (h:shOk sh t=true) {a:AV} (ha:EncP sh a):∃ x,t.dat=true->a=t.av x/\okT t x:=by
 cases sh with
 | st fs=>
  obtain ⟨as,rfl,he⟩:=ha
  obtain ⟨x,rfl,ox⟩:=kgE (.st fs) t h as he
  refine ⟨x,fun _=>⟨?_,ox⟩⟩
  have:t.agg=true:=by
   cases t <;> first | rfl | (cases fs with
    | nil=>simp [shOk] at h
    | cons f fs=>cases fs <;> simp [shOk] at h)
  rw [kdU this]
 | _=>
  obtain ⟨x,e,ox⟩:=kgE _ t h [a] ha
  refine ⟨x,fun hd=>⟨?_,ox⟩⟩
  have:t.agg=false:=by
   cases t <;> first | rfl | simp [shOk] at h
  have:=kdQ (x:=x) this hd
  rw [<-e] at this
  exact (List.cons.inj this).1
def shsOk:List Sh->List Ty->Bool
 | [],[]=>true
 | s::ss,t::ts=>shOk s t&&t.dat&&shsOk ss ts
 | _,_=>false
theorem decPs {P:Program}:∀ {shs:List Sh} {ts:List Ty} {xs:List AV},shsOk shs ts=true->EncPs shs xs->∃ x:(tup ts).den,AR P ts x xs/\okTs ts x
 | [],[],xs,h,he=>by cases kmT he; exact ⟨(),rfl,trivial⟩
 | s::ss,[t],xs,h,he=>by
  simp only [shsOk,jab] at h
  obtain ⟨a,as,rfl,h1,h2⟩:=klM he
  cases ss with
  | cons s' ss=>simp [shsOk] at h
  | nil=>
   cases kmT h2
   obtain ⟨x,hx⟩:=kqM h.1.1 h1
   obtain ⟨rfl,ox⟩:=hx h.1.2
   exact ⟨x,⟨_,rfl,(kbL h.1.2).2 rfl⟩,ox⟩
 | s::ss,t::u::ts,xs,h,he=>by
  rw [show shsOk (s::ss) (t::u::ts)=(shOk s t&&t.dat&&shsOk ss (u::ts)) from rfl] at h
  simp only [jab] at h
  obtain ⟨a,as,rfl,h1,h2⟩:=klM he
  obtain ⟨x,hx⟩:=kqM h.1.1 h1
  obtain ⟨rfl,ox⟩:=hx h.1.2
  obtain ⟨y,hy,oy⟩:=decPs (ts:=u::ts) h.2 h2
  exact ⟨(x,y),⟨_,_,rfl,(kbL h.1.2).2 rfl,hy⟩,ox,oy⟩
 | [],_::_,xs,h,he=>by simp [shsOk] at h
 | _::_,[],xs,h,he=>by simp [shsOk] at h
theorem okI_u8 {n:Int} (h:okI .u8 n):0<=n:=by
 simp [okI,Lit.wf,IntKind.min,IntKind.max,IntKind.signed,IntKind.bits] at h
 omega
theorem law_of {P:Program} {g:FuncId} {C:Ctr} (hG:Good P g C) {shs:List Sh} (hs:shsOk shs C.as=true) (hF:∀ x,okTs C.as x->∃ r,C.F x=some r/\rav C.rs r = .sc (.bool true)) (xs:List AV) (h0:EncPs shs xs):PC P g xs (·= .sc (.bool true)):=by
 obtain ⟨x,hx,ox⟩:=decPs (P:=P) hs h0
 obtain ⟨r,hr,er⟩:=hF x ox
 have:=hG.2.1 x r hr xs hx
 rw [er] at this
 exact this
end Go.Abs
