/- The machinery, part 7. -/
import Derived.Shelf.SlSortCmp.WholeK
import Derived.Shelf.SlSortCmp.NoneTotal
import Derived.ProofKit
import Derived.Test.YtdignlncdfbihaaZ2
import Derived.Test.YtdignlncdfbihaaZ3
import Derived.Test.YtdignlncdfbihaaZ4
import Derived.Test.YtdignlncdfbihaaZ6
set_option linter.constructorNameAsVariable false
set_option linter.unusedVariables false
set_option linter.unusedSimpArgs false
set_option linter.unusedSectionVars false
namespace Go.Abs
open Go Go.RowKit
section
variable {P:Yd} {κ κ':Nat->Yb Nat} {ln ln':Nat->Nat} {z z':AH} {c:Cx sem} {s:TS sem} {env:Env} {h:AH} {n N N':Nat}
def tiedD:TV sem->Bool
 | .mw _ | .ptr _ _ | .mp _ | .fw _=>true
 | _=>false
theorem TVR.det {v:TV sem} {a a':AV} (m:tiedD v=true) (h:TVR P κ ln z N v a) (h':TVR P κ' ln' z' N' v a') (i:∀ id,v.has id=true->κ' id = κ id/\ln' id=ln id):a'=a:=by
 cases v <;> simp only [tiedD,jak] at m
 ·rename_i id j;obtain ⟨b,f⟩:=i id (by simp [TV.has]);obtain ⟨q,k1,rfl⟩:=h.ptr_inv;obtain ⟨k,k2,rfl⟩:=h'.ptr_inv;rw [b,k1] at k2; cases k2; rfl
 ·rename_i id;obtain ⟨b,f⟩:=i id (by simp [TV.has]);cases h with
  | mw0 _ _ k1=>cases h' with
   | mw0=>rfl
   | mw _ q _ k2=>rw [b,k1] at k2; cases k2
  | mw _ q _ k1=>cases h' with
   | mw0 _ _ k2=>rw [b,k1] at k2; cases k2
   | mw _ k _ k2=>rw [b,k1] at k2; cases k2; rw [f]
 ·rename_i id;obtain ⟨b,f⟩:=i id (by simp [TV.has]);obtain ⟨q,k1,rfl⟩:=h.mp_inv;obtain ⟨k,k2,rfl⟩:=h'.mp_inv;rw [b,k1] at k2; cases k2; rfl
 ·rename_i id;obtain ⟨b,f⟩:=i id (by simp [TV.has]);cases h with
  | fw0 _ _ k1=>cases h' with
   | fw0=>rfl
   | fw _ q _ k2=>rw [b,k1] at k2; cases k2
  | fw _ q _ k1=>cases h' with
   | fw0 _ _ k2=>rw [b,k1] at k2; cases k2
   | fw _ k _ k2=>rw [b,k1] at k2; cases k2; rw [f]
theorem kjS:∀ (ks:Ya (Yb Ty)) {l:Ya ((t:Ty)×t.den)} {asZ:Ya AV} (k:Nat),PArgs P ks l asZ->∀ x v,alk (kbb (A:=sem) ks l k) x=some v->k<=x/\TVR P κ ln z N v (lk ((asZ.zipIdx k).map λ(v,i)=>(i,v)) x)
 | [],l,asZ,k,h,x,v,hv=>by simp [kbb,alk] at hv
 | some t::ks,[],asZ,k,h,x,v,hv=>by simp [kbb,alk] at hv
 | some t::ks,p::l,[],k,h,x,v,hv=>by simp [PArgs] at h
 | none::ks,l,[],k,h,x,v,hv=>by cases l <;> simp [PArgs] at h
 | some t::ks,p::l,a::asZ,k,h,x,v,hv=>by
  obtain ⟨j,h2⟩:=h;simp only [kbb,alk] at hv;simp only [jbu,jap,lk];by_cases e:x=k
  ·rw [if_pos e] at hv; cases hv;rw [if_pos e];refine ⟨by omega,?_⟩;obtain ⟨t,y⟩:=p;cases t <;> first | exact .cv _ _ _ _ _ j | (obtain ⟨f,rfl⟩:=j; exact .c _ _ _ f (.free _ (kfl _ _ f)))
  ·rw [if_neg e] at hv;rw [if_neg e];obtain ⟨m,b⟩:=kjS ks (k+1) h2 x v hv;exact ⟨by omega,b⟩
 | none::ks,l,a::asZ,k,h,x,v,hv=>by
  have h2:PArgs P ks l asZ:=by cases l <;> exact h
  simp only [kbb] at hv;simp only [jbu,jap,lk];obtain ⟨m,b⟩:=kjS ks (k+1) h2 x v hv;rw [if_neg (by omega)];exact ⟨by omega,b⟩
theorem kjM:∀ (ks:Ya (Yb Ty)) (k x:Nat),x∈kdx ks k->x<k+ks.length
 | [],k,x,h=>by cases h
 | some t::ks,k,x,h=>by
  simp only [kdx,jat] at h;simp only [jcq];rcases h with rfl | h
  ·omega
  ·have:=kjM ks (k+1) x h; omega
 | none::ks,k,x,h=>by
  simp only [kdx] at h;simp only [jcq];have:=kjM ks (k+1) x h; omega
theorem ksa:∀ (asZ:Ya AV) (k x:Nat),k+asZ.length<=x->lk ((asZ.zipIdx k).map λ(v,i)=>(i,v)) x = .un
 | [],k,x,h=>rfl
 | a::asZ,k,x,h=>by
  simp only [jcq] at h;simp only [jbu,jap,lk];rw [if_neg (by omega),ksa asZ (k+1) x (by omega)]
theorem ktL {asZ:Ya AV} {x:Nat} (h:asZ.length<=x):lk (kar asZ) x = .un:=ksa asZ 0 x (by omega)
theorem kfF:∀ (ks:Ya (Yb Ty)) {l:Ya ((t:Ty)×t.den)} (k:Nat),l.length=(ks.filterMap id).length->(kbb (A:=sem) ks l k).map (·.1)=kdx ks k
 | [],l,k,h=>by simp [kbb,kdx]
 | some t::ks,[],k,h=>by simp at h
 | some t::ks,p::l,k,h=>by simp only [kbb,kdx,jap]; rw [kfF ks (k+1) (by simpa using h)]
 | none::ks,l,k,h=>by simp only [kbb,kdx]; exact kfF ks (k+1) (by simpa using h)
theorem kjX:∀ {ks:Ya (Yb Ty)} {l:Ya ((t:Ty)×t.den)} {asZ:Ya AV},PArgs P ks l asZ->asZ.length=ks.length
 | [],[],[],h=>rfl
 | [],_::_,_,h=>by simp [PArgs] at h
 | [],[],_::_,h=>by simp [PArgs] at h
 | some t::ks,[],asZ,h=>by simp [PArgs] at h
 | some t::ks,p::l,[],h=>by simp [PArgs] at h
 | none::ks,l,[],h=>by cases l <;> simp [PArgs] at h
 | some t::ks,p::l,a::asZ,h=>by simp [kjX h.2]
 | none::ks,l,a::asZ,h=>by
  have h2:PArgs P ks l asZ:=by cases l <;> exact h
  simp [kjX h2]
theorem ksE:∀ (l:Ya (Nat×PV)) (xs:Ya ((t:Ty)×t.den)),(unE (A:=sem) l xs).1.map (·.1)=l.map (·.1)
 | [],xs=>rfl
 | (k,v)::l,xs=>by simp only [unE,jap]; rw [ksE l]
theorem kfU {α:Type}:∀ {l:Ya (Nat×α)} {x:Nat} {v:α},(l.map (·.1)).Nodup->(x,v)∈l->alk l x=some v
 | [],x,v,_,h=>by cases h
 | (k,w)::l,x,v,hn,h=>by
  simp only [jap,jdd] at hn;simp only [alk];rcases jat.1 h with h | h
  ·cases h; simp
  ·rw [if_neg]
   ·exact kfU hn.2 h
   ·exact λe=>hn.1 (jaz.2 ⟨(x,v),h,e⟩)
theorem khR (R:Rel P κ ln z c s env h n):∀ (l:Ya ResultVar) {vs:Ya (TV sem)},resTV (A:=sem) P c s l=some vs->∃ asZ,l.mapM (kbx P h env)=some asZ/\TVRs P κ ln z s.n vs asZ
 | [],vs,hr=>by simp only [resTV,Option.some.injEq] at hr; subst hr; exact ⟨[],rfl,.nil⟩
 | .tmp t::l,vs,hr=>by
  simp only [resTV,jad] at hr;obtain ⟨vs,b,rfl⟩:=hr;obtain ⟨asZ,f,h2⟩:=khR R l b;refine ⟨lk env t::asZ,?_,.cons _ _ _ _ (R.env t) h2⟩;rw [jdq,f]; rfl
 | .cell a T::l,vs,hr=>by
  simp only [resTV,jaa,jad] at hr;obtain ⟨v,k,vs,b,rfl⟩:=hr;obtain ⟨asZ,f,h2⟩:=khR R l b;obtain ⟨u,j,i⟩:=klk R k;refine ⟨u::asZ,?_,.cons _ _ _ _ i h2⟩;rw [jdq,f,j]; rfl
theorem kqc {l:Ya ResultVar} {asZ:Ya AV} (b:l.mapM (kbx P h env)=some asZ):kaI P h env l=some (tpA asZ):=by
 unfold kaI tpA;rw [b];match asZ with
 | []=>rfl
 | [a]=>rfl
 | _::_::_=>rfl
theorem kqx:∀ (vs:Ya (TV sem)) (k x:Nat) (E:Ya (Nat×TV sem)),alk ((vs.zipIdx k).map (λx=>(1000000+x.2,x.1))++E) x=if 1000000+k<=x/\x<1000000+k+vs.length then vs[x-1000000-k]? else alk E x
 | [],k,x,E=>by
  simp only [List.zipIdx_nil,jej,jbe,List.length_nil];rw [if_neg (by omega)]
 | v::vs,k,x,E=>by
  simp only [jbu,jap,jdi,alk,jcq];by_cases e:x=1000000+k
  ·rw [if_pos e,if_pos (by omega),show x-1000000-k=0 by omega]; rfl
  ·rw [if_neg e,kqx vs (k+1) x E];by_cases a:1000000+k<=x/\x<1000000+k+(vs.length+1)
   ·rw [if_pos (by omega),if_pos a,show x-1000000-k=(x-1000000-(k+1))+1 by omega,jbz]
   ·rw [if_neg (by omega),if_neg a]
theorem kkE:∀ (asZ:Ya AV) (k x:Nat) (E:Env),lk ((asZ.zipIdx k).map (λx=>(1000000+x.2,x.1))++E) x=if 1000000+k<=x/\x<1000000+k+asZ.length then (asZ[x-1000000-k]?).getD .un else lk E x
 | [],k,x,E=>by
  simp only [List.zipIdx_nil,jej,jbe,List.length_nil];rw [if_neg (by omega)]
 | v::vs,k,x,E=>by
  simp only [jbu,jap,jdi,lk,jcq];by_cases e:x=1000000+k
  ·rw [if_pos e,if_pos (by omega),show x-1000000-k=0 by omega]; rfl
  ·rw [if_neg e,kkE vs (k+1) x E];by_cases a:1000000+k<=x/\x<1000000+k+(vs.length+1)
   ·rw [if_pos (by omega),if_pos a,show x-1000000-k=(x-1000000-(k+1))+1 by omega,jbz]
   ·rw [if_neg (by omega),if_neg a]
theorem kll {α:Type}:∀ (l:Ya (Nat×α)) (x:Nat),alk (l.map λy=>(y.1,some y.2)) x=(alk l x).map some
 | [],x=>rfl
 | (k,v)::l,x=>by
  simp only [jap,alk];split
  ·rfl
  ·exact kll l x
theorem kvV (R:Rel P κ ln ahN c s env h n) {vs:Ya (TV sem)} {asZ:Ya AV} (f:TVRs P κ ln ahN s.n vs asZ):Rel P κ ln ahN ⟨[],[]⟩ (endM c s vs) (resE asZ++env) h n:=by
 have p:∀ id,thp (⟨[],[]⟩:Cx sem) (endM c s vs) id=thp c s id:=λid=>by
  unfold thp endM;simp only [kaY,kll];cases m:alk s.hp id with
  | some b=>rfl
  | none=>cases h2:alk c.g id <;> simp [alk]
 refine ⟨λx=>?_,λid B hB=>R.blk id B (p id ▸ hB),λid B hB=>R.lt id B (p id ▸ hB),λi j B y q G L=>R.inj i j B y q (p i ▸ G) (p j ▸ L),R.zin,λid B q hB=>R.zout id B q (p id ▸ hB),λid B q hB=>R.bnd id B q (p id ▸ hB),R.hn,λx v I=>rfl,λid b M=>rfl,λ_=>rfl,λq k T es A=>(by cases A),R.fam.map (λid B hB=>.inl ⟨B,p id ▸ hB,λh=>h,rfl,rfl⟩) (λid _ B r _ m h2 F=>((R.fam id B m h2).2 r F).2.1) (jai _)⟩;have J:tlk (⟨[],[]⟩:Cx sem) (endM c s vs) x=if 1000000+0<=x/\x<1000000+0+vs.length then (vs[x-1000000-0]?).getD .un else tlk c s x:=by
  have e0:alk (endM c s vs).env x=if 1000000+0<=x/\x<1000000+0+vs.length then vs[x-1000000-0]? else alk (s.env++c.e0) x:=kqx vs 0 x _;unfold tlk;rw [e0];split
  ·rename_i v f;split at f
   ·rename_i t; rw [if_pos t,f]; rfl
   ·rename_i t;rw [if_neg t];rw [kaY] at f;cases m:alk s.env x with
    | some w=>rw [m] at f; cases f; rfl
    | none=>rw [m] at f; simp only at f; simp [f]
  ·rename_i f;split at f
   ·rename_i t; rw [if_pos t,f]; rfl
   ·rename_i t;rw [if_neg t];rw [kaY] at f;cases m:alk s.env x with
    | some w=>rw [m] at f; cases f
    | none=>rw [m] at f; simp only at f; simp [f,alk]
 show TVR P κ ln ahN (endM c s vs).n _ (lk ((asZ.zipIdx 0).map (λx=>(1000000+x.2,x.1))++env) x);rw [J,kkE,f.len];split
 ·rename_i I;cases C:vs[x-1000000-0]? with
  | none=>exact .un _
  | some v=>
   obtain ⟨a,K,u⟩:=f.at C;rw [K]; exact u
 ·exact R.env x
theorem kpk {ρ:Ty} {r:ρ.den} {p:Prop} (a:askR (A:=sem) (ρ:=ρ) c s=some r):p:=kaa a
theorem kjd {g:FuncId} {C:CtrM} {f:Func} (hf:P.funcs[g]?=some f) (hd:(C.okS&&C.ks.length<=f.ntmps&&!(f.name== "runtime.NumGoroutine"))=true) {An:Ya (Nat×La)} (Δ:Ya (FuncId×Ctr)) (hΔ:Goods P Δ)
  (he:∀ x,C.F x=kut P Δ (anL An) f C (A:=sem) x) (hM0:(alk Δ IM).isNone=true:=by rfl):C.ok=true/\GoodM P g C:=by
 simp only [jae,jbl,jaj] at hd;obtain ⟨⟨Z,h2⟩,h3⟩:=hd;unfold CtrM.okS at Z;simp only [jae,jaj] at Z;obtain ⟨⟨⟨⟨ba,aI⟩,X⟩,az⟩,am⟩:=Z;refine ⟨X,λx y hy l1 l2 hl aj κ ln h n args aK R=>?_⟩;rw [he,kut] at hy;dsimp only at hy;rw [hl,List.take_left' aj,List.drop_left' aj] at hy;have aQ:=kjX aK;split at hy
 ·exact kaa hy
 ·rename_i body hb;have ar:(kbb (A:=sem) C.ks l1 0++(kam (A:=sem) C.inp C.n0 l2).env).map (·.1)=kdx C.ks 0++C.inp.env.map (·.1):=by
   rw [jcn,kfF C.ks 0 aj];congr 1;exact ksE _ _
  have M:((kbb (A:=sem) C.ks l1 0++(kam (A:=sem) C.inp C.n0 l2).env).map (·.1)).Nodup:=by rw [ar]; exact ba
  have aF:(((kam (A:=sem) C.inp C.n0 l2).env).map (·.1)).Nodup:=by
   rw [jcn] at M;exact (jek.1 M).2.1
  have aA:∀ x v,alk (kam (A:=sem) C.inp C.n0 l2).env x=some v->alk (kbb (A:=sem) C.ks l1 0) x=none:=λx v G=>by
   cases hp:alk (kbb (A:=sem) C.ks l1 0) x with
   | none=>rfl
   | some w=>
    have Z:=kfU M (jbc.2 (.inl (kav hp)));have h2:=kfU M (jbc.2 (.inr (kav G)));rw [jcn,jek] at M;exact absurd rfl (M.2.2 x (jaz.2 ⟨_,kav hp,rfl⟩) x (jaz.2 ⟨_,kav G,rfl⟩))
  let ef:Ya (Nat×TV sem):=(kam (A:=sem) C.inp C.n0 l2).env.filter (λx=>(alk C.out.env x.1).isSome)
  let eg:Ya (Nat×TV sem):=C.inn.map (λp=>(7000000+p,.kp p))
  let e0:Ya (Nat×TV sem):=ef++eg
  let e1:Ya (Nat×TV sem):=kbb (A:=sem) C.ks l1 0++(kam (A:=sem) C.inp C.n0 l2).env.filter (λx=>!(alk C.out.env x.1).isSome)
  have ac:∀ x,alk ef x=if (alk C.out.env x).isSome then alk (kam (A:=sem) C.inp C.n0 l2).env x else none:=λx=>kcw (λk=>(alk C.out.env k).isSome) _ x;have aB:∀ x,alk ((kam (A:=sem) C.inp C.n0 l2).env.filter (λx=>!(alk C.out.env x.1).isSome)) x=if !(alk C.out.env x).isSome then alk (kam (A:=sem) C.inp C.n0 l2).env x else none:=λx=>kcw (λk=>!(alk C.out.env k).isSome) _ x;have ab:∀ x,alk e0 x=match alk ef x with | some v=>some v | none=>alk eg x:=λx=>by
   show alk (ef++eg) x=_;rw [kaY];cases alk ef x <;> rfl
  have be:C.ks.length<=1000000:=by
   unfold CtrM.ok at X;simp only [jae,jaj] at X;exact X.1.2
  have ap:∀ x v,alk (kam (A:=sem) C.inp C.n0 l2).env x=some v->x<C.ks.length:=λx v G=>by
   have e:(alk (unE (A:=sem) C.inp.env l2).1 x).isSome=(alk C.inp.env x).isSome:=khh _ _ _;have e2:alk (unE (A:=sem) C.inp.env l2).1 x=some v:=G;rw [e2] at e;obtain ⟨aN,ah⟩:=jar.1 e.symm;exact of_decide_eq_true (jao.1 aI _ (kav ah))
  have au:∀ x v,alk eg x=some v->∃ p∈C.inn,x=7000000+p/\v = .kp p:=λx v G=>by
   obtain ⟨p,hp,e⟩:=jaz.1 (kav G);cases e; exact ⟨p,hp,rfl,rfl⟩
  have aC:∀ p∈C.inn,alk eg (7000000+p)=some (.kp p):=λp hp=>by
   refine kfU ?_ (jaz.2 ⟨p,hp,rfl⟩);show ((C.inn.map (λp=>(7000000+p,(TV.kp p:TV sem)))).map (·.1)).Nodup;rw [List.map_map,List.nodup_iff_pairwise_ne,List.pairwise_map];exact (List.nodup_iff_pairwise_ne.1 az).imp λaL e=>aL (by simp only [Function.comp] at e; omega)
  have aq:∀ p∈C.inn,p<C.n0:=λp hp=>by
   unfold CtrM.inn at hp;obtain ⟨x,u,rfl⟩:=jaz.1 hp;unfold CtrM.ok at X;simp only [jae,jaj] at X;exact of_decide_eq_true (jao.1 X.2 _ (jdo.1 u).1)
  have an:∀ x,1000000<=x->alk ef x=none:=λx u=>by
   rw [ac]; split
   ·cases hh:alk (kam (A:=sem) C.inp C.n0 l2).env x with
    | none=>rfl
    | some v=>have:=ap x v hh; omega
   ·rfl
  have W0:CxWf (⟨e0,[]⟩:Cx sem):=⟨λx v u=>by
   rw [ab];rcases jbc.1 u with u | u
   ·have e:alk ef x=some v:=by
     rw [ac];obtain ⟨Z,h2⟩:=jdo.1 u;rw [if_pos h2];exact kfU aF Z
    rw [e]
   ·obtain ⟨p,hp,e⟩:=jaz.1 u;cases e;rw [an _ (by omega)];exact aC p hp,λx B u=>by cases u⟩
  have R0:Rel P κ ln ahN ⟨e0,[]⟩ ⟨e1,(kam (A:=sem) C.inp C.n0 l2).hp,C.n0,false⟩ (kar args) h n:=by
   refine ⟨λx=>?_,R.blk,R.lt,R.inj,R.zin,R.zout,R.bnd,R.hn,λx v u=>?_,λid b hb=>rfl,λ_=>rfl,R.zk,R.fam.map (λid B hB=>.inl ⟨B,hB,λh=>h,rfl,rfl⟩) (λid _ B r _ Z h2 h3=>((R.fam id B Z h2).2 r h3).2.1) (jai _)⟩
   ·have u:=R.env x;unfold tlk at u ⊢;simp only [alk] at u ⊢;rw [show (offD (kam (A:=sem) C.inp C.n0 l2)).env=(kam (A:=sem) C.inp C.n0 l2).env from rfl] at u;have aT:alk e1 x=_:=kaY (kbb (A:=sem) C.ks l1 0) _ x;rw [aT,ab,ac,aB];cases Z:alk (kbb (A:=sem) C.ks l1 0) x with
    | some v=>exact (kjS C.ks 0 aK x v Z).2
    | none=>
     cases h2:alk (kam (A:=sem) C.inp C.n0 l2).env x with
     | some v=>
      rw [h2] at u;cases (alk C.out.env x).isSome with
      | true=>exact u
      | false=>exact u
     | none=>
      have:TVR P κ ln ahN C.n0 ((alk eg x).getD .un) (lk (kar args) x):=by
       cases hg:alk eg x with
       | none=>exact .un _
       | some w=>
        obtain ⟨p,hp,ex,rfl⟩:=au x w hg;rw [ktL (by omega:args.length<=x)];exact .kp p (aq p hp)
      cases (alk C.out.env x).isSome with
      | true=>exact this
      | false=>exact this
   ·have u:alk (kbb (A:=sem) C.ks l1 0++(kam (A:=sem) C.inp C.n0 l2).env.filter (λx=>!(alk C.out.env x.1).isSome)) x=some v:=u;rw [kaY,aB] at u;show alk e0 x=none;have bd:x<C.ks.length:=by
     cases Z:alk (kbb (A:=sem) C.ks l1 0) x with
     | some w=>
      have:x∈(kbb (A:=sem) C.ks l1 0).map (·.1):=jaz.2 ⟨_,kav Z,rfl⟩;rw [kfF C.ks 0 aj] at this;have:=kjM C.ks 0 x this;omega
     | none=>
      rw [Z] at u;simp only at u;split at u
      ·exact ap x v u
      ·cases u
    have aO:alk eg x=none:=by
     cases hg:alk eg x with
     | none=>rfl
     | some w=>obtain ⟨p,_,e,_⟩:=au x w hg; omega
    rw [ab,aO,ac];cases Y:(alk C.out.env x).isSome with
    | false=>simp
    | true=>
     rw [Y] at u;simp only [jei,jak,if_false] at u;simp only [if_true];cases h2:alk (kam (A:=sem) C.inp C.n0 l2).env x with
     | none=>rfl
     | some w=>rw [aA x w h2] at u; cases u
  refine HC.fin (HC.of_body hf hb h3 (by rw [aQ]; exact h2) λD O hD=>Sat.ofL ?_);have fin:∀ (rl:Ya ResultVar) (c:Cx sem) κ' ln' s i h' n' v,CxWf c->RJ ⟨e0,κ,ln⟩ P κ' ln' ahN c s i h' n'->resM (A:=sem) P C rl c s=some v->
    ∃ a,kaI P h' i rl=some a/\∃ h2:AH,(∀ q B,h2 q=some B->h' q=some B)/\kgX P C κ ln v args a h2 n':=by
   intro rl c κ' ln' s i h' n' v W I G;unfold resM at G;obtain ⟨vs,aP,G⟩:=jaa.1 G;split at G
   ·rename_i al;obtain ⟨m,hm,G⟩:=jaa.1 G;by_cases aa:(m.sn.isEmpty&&C.inn.all (λp=>alk m.ids p==some p))=true
    ·replace G:mkT sem C.out.tys m.cs=some v:=(if_pos (c:=(m.sn.isEmpty&&C.inn.all (λp=>alk m.ids p==some p))=true) (t:=(mkT sem C.out.tys m.cs:Yb C.out.ty.den)) (e:=none) aa).symm.trans G;rw [jae] at aa;obtain ⟨aR,aG⟩:=aa;obtain ⟨asZ,k1,k2⟩:=khR I.R rl aP;obtain ⟨κ2,aJ,R2,q1,q2,q3,q4⟩:=kox (kvV I.R k2) hm (by simpa [jdb] using aR) rfl;have aX:kam (A:=sem) C.out C.n1 m.cs=kae (A:=sem) C.out C.n1 v:=by
      unfold kae kam;rw [knh _ _ _ G]
     rw [aX] at R2 q2 q4;have ao:∀ id,id∈C.out.hp.map (·.1)↔(alk C.out.hp id).isSome=true:=λid=>by
      generalize C.out.hp=L;induction L with
      | nil=>simp [alk]
      | cons y L ih=>
       simp only [jap,jat,alk];split
       ·rename_i e; simp [e]
       ·rename_i e; simp only [e,false_or]; exact ih
     have bb:∀ {id},id∈C.out.hp.map (·.1)->∃ B,alk (kae (A:=sem) C.out C.n1 v).hp id=some (some B):=λ{id} K=>by
      rw [ao,<-q4] at K;obtain ⟨b,hb⟩:=jar.1 K;obtain ⟨B,_,_,rfl,_⟩:=q2 id b hb;exact ⟨B,hb⟩
     have aW:∀ id B,thp (⟨[],[]⟩:Cx sem) (offD (kae (A:=sem) C.out C.n1 v)) id=some B->id∈C.out.hp.map (·.1):=λid B hB=>by
      rw [ao,<-q4];unfold thp at hB;rw [show (offD (kae (A:=sem) C.out C.n1 v)).hp=(kae (A:=sem) C.out C.n1 v).hp from rfl] at hB;cases hh:alk (kae (A:=sem) C.out C.n1 v).hp id with
      | some b=>rfl
      | none=>rw [hh] at hB; cases hB
     have R3:=R2.cut (h2:=hz (ows κ2 aJ ⟨[],[]⟩ (offD (kae (A:=sem) C.out C.n1 v))) h' ahN (C.out.hp.map (·.1))) (λid B q hB U=>hz_in (aW id B hB) (kkd hB U)) (λq hq=>by
      unfold hz; split
      ·exact I.R.hn q hq
      ·rfl)
     refine ⟨_,kqc k1,_,kcU (λq B hq=>by cases hq),κ2,aJ,asZ,by rw [k2.len,al],rfl,⟨λx=>?_,R3.blk,R3.lt,R3.inj,R3.zin,R3.zout,R3.bnd,R3.hn,R3.e0,R3.g,R3.dy,R3.zk,R3.fam⟩,λq B hq=>?_,λp hp=>?_⟩
     ·have u:=R3.env x;cases ax:alk (kae (A:=sem) C.out C.n1 v).env x with
      | none=>
       have:tlk (⟨[],[]⟩:Cx sem) (offD (kae (A:=sem) C.out C.n1 v)) x = .un:=by
        unfold tlk;rw [show (offD (kae (A:=sem) C.out C.n1 v)).env=(kae (A:=sem) C.out C.n1 v).env from rfl,ax]; rfl
       rw [this]; exact .un _
      | some w=>
       obtain ⟨pv,ay⟩:=knQ ax;have ho:=jao.1 am _ ay;have aZ:lk (resE asZ++i) x=if 1000000+0<=x/\x<1000000+0+asZ.length then (asZ[x-1000000-0]?).getD .un else lk i x:=kkE asZ 0 x i;have aU:lk (resE asZ++kar args) x=if 1000000+0<=x/\x<1000000+0+asZ.length then (asZ[x-1000000-0]?).getD .un else lk (kar args) x:=kkE asZ 0 x (kar args);have aS:lk (resE asZ++kar args) x=lk (resE asZ++i) x:=by
        rw [aZ,aU];split
        ·rfl
        ·rename_i aM;simp only [jba,jae,jaj] at ho;rcases ho with ho | ⟨ad,ai⟩
         ·exfalso; apply aM; rw [k2.len,al]; omega
         ·
          have slot:∀ S v0,alk C.inp.env x=some S->(∀ xs:Ya ((t:Ty)×sem.D t),(unV (A:=sem) S xs).1=v0)->tiedD v0=true->lk (kar args) x=lk i x:=λS v0 K hu ht=>by
           have ak:alk (kam (A:=sem) C.inp C.n0 l2).env x=some v0:=kjE C.inp.env l2 x S v0 K hu;have hj:alk e0 x=some v0:=by
            have ad:(alk C.out.env x).isSome=true:=by
             have e:=khh C.out.env (unT sem C.out.tys v) x;have e2:alk (unE (A:=sem) C.out.env (unT sem C.out.tys v)).1 x=some w:=ax;rw [<-e,e2]; rfl
            rw [ab,ac,if_pos ad,ak]
           have t1:=R0.env x;have t2:=I.R.env x;rw [R0.e0_tlk hj] at t1;rw [I.R.e0_tlk (I.w x v0 hj)] at t2;exact (t1.det ht t2 λid aw=>I.j x v0 id hj aw).symm
          split at ai
          ·rename_i p K; exact slot _ (.mw p) K (λxs=>rfl) rfl
          ·rename_i p j K; exact slot _ (.ptr p j) K (λxs=>rfl) rfl
          ·rename_i p K; exact slot _ (.mp p) K (λxs=>rfl) rfl
          ·cases ai
       rw [aS]; exact u
     ·unfold hz at hq;split at hq
      ·rename_i aD;obtain ⟨id,aw,U⟩:=jbo.1 aD;obtain ⟨b,hb⟩:=bb aw;exact ⟨id,b,hb,kbZ (c:=⟨[],[]⟩) (s:=offD (kae (A:=sem) C.out C.n1 v)) (by unfold thp; rw [show (offD (kae (A:=sem) C.out C.n1 v)).hp=(kae (A:=sem) C.out C.n1 v).hp from rfl,hb]) (by simpa using U)⟩
      ·cases hq
     ·have e1:alk m.ids p=some p:=by simpa using jao.1 aG p hp
      have e2:alk e0 (7000000+p)=some (.kp p):=by rw [ab,an _ (by omega)]; exact aC p hp
      exact ⟨((q1 p p e1).1).trans (I.j _ _ p e2 (by simp [TV.has])).1,((q1 p p e1).2.1).trans (I.j _ _ p e2 (by simp [TV.has])).2⟩
    ·replace G:=(if_neg (c:=(m.sn.isEmpty&&C.inn.all (λp=>alk m.ids p==some p))=true) (t:=(mkT sem C.out.tys m.cs:Yb C.out.ty.den)) (e:=none) aa).symm.trans G; cases G
   ·cases G
  let K0:K3:=λv h' n'=>(∃ h2:AH,(∀ q B,h2 q=some B->h' q=some B)/\kgX P C κ ln y args v h2 n')\/
   (v = .tp []/\∃ κb aH z c s env,Rel P κb aH z c s env h' n'/\(∀ x,tied (tlk c s x)=true\/tlk c s x = .un)/\∀ h2:AH,Rel P κb aH ahN c { s with dy:=false } env h2 n'->∃ h3:AH,(∀ q B,h3 q=some B->h2 q=some B)/\kgX P C κ ln y args v h3 n')
  refine kgA (D:=D) (O:=O) hΔ 1000000 (J:=⟨e0,κ,ln⟩) (RetQ:=λv st=>∃ a,kaI P st.h st.env f.results.toList=some a/\∃ h2:AH,(∀ q B,h2 q=some B->st.h q=some B)/\kgX P C κ ln v args a h2 st.n) (λc κ' ln' s i h' n' v W I G=>fin _ c κ' ln' s i h' n' v W I G) (hY:=⟨λ_=>hD,λhh=>absurd hh (by cases u:alk Δ IM with | none=>decide | some C=>rw [u] at hM0; cases hM0)⟩) _ [body] _ _ _ y κ ln ahN (kar args) h n W0 ⟨R0,λx v id _ _=>⟨rfl,rfl⟩,λx v G=>G⟩ ?_ hy;refine ⟨λκ' ln' z' s i h' n' I U=>?_,λid κ ln z s env h n R U=>kaa U,λv st G U=>?_,λK=>by rw [hD] at K; cases K⟩
  ·dsimp only at U;split at U
   ·rename_i aE;have aV:f.results.toList=[]:=by simpa [jdb] using aE
    split at U
    ·rename_i v G;cases U;show ∃ v,kaI P h' i f.results.toList=some v/\K0 v h' n';rw [aV];refine ⟨.tp [],rfl,.inr ⟨rfl,κ',ln',z',⟨e0,[]⟩,⟨[],s.hp,s.n,s.dy⟩,i,⟨λx=>?_,I.R.blk,I.R.lt,I.R.inj,I.R.zin,I.R.zout,I.R.bnd,I.R.hn,λx v h=>(by cases h),I.R.g,I.R.dy,I.R.zk,I.R.fam.map (λid B hB=>.inl ⟨B,hB,λh=>h,rfl,rfl⟩) (λid _ B r _ Z h2 h3=>((I.R.fam id B Z h2).2 r h3).2.1) (jai _)⟩,λx=>?_,λh2 R2=>?_⟩⟩
     ·have u:=I.R.env x;cases Y:alk e0 x with
      | none=>simp only [tlk,alk,Y]; exact .un _
      | some w=>
       rw [I.R.e0_tlk Y] at u;simp only [tlk,alk,Y]; exact u
     ·cases Y:alk e0 x with
      | none=>right; simp only [tlk,alk,Y]; rfl
      | some w=>
       left;simp only [tlk,alk,Y,jbw];rw [ab] at Y;split at Y
       ·rename_i w' af;cases Y;rw [ac] at af;have ad:(alk C.out.env x).isSome=true:=by
         cases hh:(alk C.out.env x).isSome with
         | true=>rfl
         | false=>rw [hh] at af; simp at af
        rw [if_pos ad] at af;have Y:=af;obtain ⟨pv,ay⟩:=jar.1 ad;have ho:=jao.1 am _ (kav ay);have bc:x<C.ks.length:=by
         have e:(alk (unE (A:=sem) C.inp.env l2).1 x).isSome=(alk C.inp.env x).isSome:=khh _ _ _;have e2:alk (unE (A:=sem) C.inp.env l2).1 x=some w:=Y;rw [e2] at e;obtain ⟨aN,ah⟩:=jar.1 e.symm;exact of_decide_eq_true (jao.1 aI _ (kav ah))
        simp only [jba,jae,jaj] at ho;rcases ho with ho | ⟨ad,ai⟩
        ·omega
        ·have ae:∀ S v0,alk C.inp.env x=some S->(∀ xs:Ya ((t:Ty)×sem.D t),(unV (A:=sem) S xs).1=v0)->w=v0:=λS v0 K hu=>by
          have ak:alk (kam (A:=sem) C.inp C.n0 l2).env x=some v0:=kjE C.inp.env l2 x S v0 K hu;rw [Y] at ak; exact Option.some.inj ak
         split at ai
         ·rename_i p K; rw [ae _ (.mw p) K (λxs=>rfl)]; rfl
         ·rename_i p j K; rw [ae _ (.ptr p j) K (λxs=>rfl)]; rfl
         ·rename_i p K; rw [ae _ (.mp p) K (λxs=>rfl)]; rfl
         ·cases ai
       ·obtain ⟨p,_,_,rfl⟩:=au x _ Y; rfl
     ·obtain ⟨a,q1,q2⟩:=fin [] _ _ _ _ _ _ _ _ W0 ⟨R2,I.j,I.w⟩ G;cases q1;exact q2
    ·exact kpk U
   ·split at U
    ·exact kaa U
    ·rename_i aY;split at U
     ·rename_i v G;cases U;obtain rfl:=I.R.dy (by simpa using aY);obtain ⟨a,q1,q2⟩:=fin _ _ _ _ _ _ _ _ _ W0 I G;exact ⟨a,q1,.inl q2⟩
     ·exact kpk U
  ·cases U;obtain ⟨a,q1,q2⟩:=G;exact ⟨a,q1,.inl q2⟩
end
section
variable {P:Yd} {g:FuncId}
theorem Good.more {C:Ctr} {M:CtrM} (h:Good P g C) (hm:M.ok=true/\GoodM P g M):Good P g ⟨C.nm,C.asZ,C.rs,C.F,M::C.mus,C.its⟩:=by
 refine ⟨h.1,h.2.1,λa hM=>?_,h.2.2.2⟩;rcases jat.1 hM with rfl | hM
 ·exact hm
 ·exact h.2.2.1 a hM
theorem good_dm {nm:String}:Good P g ⟨nm,[],[],λ_=>none,[],[]⟩:=⟨rfl,λx r h=>(by cases h),λM h=>(by cases h),λM h=>(by cases h)⟩
theorem kuq {C:Ctr} (a:C.rs.all Ty.dat=true) (h:∀ x,C.F x=none) (hm:C.mus=[]) (b:C.its=[]):Good P g C:=
 ⟨a,λx r hr=>(by rw [h x] at hr; cases hr),(λM hM=>by rw [hm] at hM; cases hM),λM hM=>by rw [b] at hM; cases hM⟩
end
section
variable {P:Yd} {g:FuncId}
theorem kle {α β:Type} (f:α->β):∀ (l:Ya α) (k:Nat),((l.zipIdx k).map λy=>(y.2+1,f y.1))=(l.zipIdx (k+1)).map λy=>(y.2,f y.1)
 | [],k=>rfl
 | x::l,k=>by simp only [jbu,jap,kle f l (k+1)]
theorem kqs {β:Type}:∀ (l:Ya β) (k x:Nat),x<k->alk ((l.zipIdx k).map λy=>(y.2,y.1)) x=none
 | [],k,x,h=>rfl
 | b::l,k,x,h=>by
  simp only [jbu,jap,alk];rw [if_neg (by omega)]; exact kqs l (k+1) x (by omega)
theorem alk_zip_none' {α β:Type} (f:α->β):∀ (l:Ya α) (k x:Nat),x<k->alk ((l.zipIdx k).map λy=>(y.2,f y.1)) x=none
 | [],k,x,h=>rfl
 | b::l,k,x,h=>by
  simp only [jbu,jap,alk];rw [if_neg (by omega)]; exact alk_zip_none' f l (k+1) x (by omega)
theorem kmj {κ:Nat->Yb Nat} {ln:Nat->Nat} {z:AH} {c:Cx sem} {s:TS sem} {env:Env} {h:AH} {n:Nat} (R:Rel P κ ln z c s env h n) {ts:Ya Ty} {c':Cx sem} {v:Ya (tup ts).den} (b:resI (A:=sem) ts c' s=some v) :
  (∃ es,lk env GS = .gs es/\es.length=v.length)\/lk env GS = .ud:=by
 unfold resI at b;have hg:=R.env GS;split at b
 ·rename_i t ys f;rw [show tlk c s GS = .gs t ys by unfold tlk; rw [f]] at hg;unfold tcast at b;split at b
  ·rename_i e;cases e;simp only [Option.some.injEq] at b;subst b;generalize lk env GS=a at hg;cases hg;exact .inl ⟨_,rfl,by simp⟩
  ·cases b
 ·rename_i f;rw [show tlk c s GS = .ud by unfold tlk; rw [f]] at hg;generalize lk env GS=a at hg;cases hg;exact .inr rfl
 ·cases b
theorem kqF {nm:String} {asZ ts:Ya Ty} {F:(tup asZ).den->Yb (Ya (tup ts).den)} {f:Func} (hf:P.funcs[g]?=some f) (hd:(ts.all Ty.dat&&asZ.length+1<=f.ntmps&&f.ntmps<=GS&&f.results.isEmpty&&!(f.name== "runtime.NumGoroutine"))=true) {An:Ya (Nat×La)} (Δ:Ya (FuncId×Ctr)) (hΔ:Goods P Δ)
  (he:∀ x,F x=runI λo=>machI P Δ (anL An) f asZ ts o (A:=sem) x):GoodI P g ⟨nm,asZ,ts,F⟩:=by
 simp only [jae,jbl,jaj] at hd;obtain ⟨⟨⟨⟨m,h2⟩,h3⟩,h4⟩,h5⟩:=hd;refine ⟨m,λx xs p l hl=>?_⟩;dsimp only at p hl;rw [he] at p;unfold runI at p;obtain ⟨ad,_,p⟩:=jaa.1 p;obtain ⟨ys,S,p⟩:=jaa.1 p;split at p
 rotate_left
 ·cases p
 rename_i u;cases p;unfold machI at S;dsimp only at S;split at S
 ·exact kaa S
 ·rename_i body hb;have L:=kpf hl;have U:Goods P ((IM,oraC ts (some xs)) :: Δ):=.cons ⟨rfl,λx r h=>(by cases h),λM h=>(by cases h),λI h=>by
   simp only [oraC,List.mem_singleton] at h;subst h;refine ⟨m,λx xs p l hl=>?_⟩;obtain ⟨a,_,ha⟩:=hl;exact absurd ha.1 (by decide)⟩ hΔ
  refine IT.of_body hf hb h5 (by rw [L.len,knp]; exact h2) h3 (by simpa using h4) λD G O hit aa Y=>Sat.ofL ?_;have hY:YOk P D ((IM,oraC ts (some xs)) :: Δ) ⟨[(0,.yl 0)],λid=>if id=0 then some G.l else none,λ_=>0⟩:=by
   refine ⟨λh=>?_,λ_=>⟨G,hit,Y,λac ab F' e=>?_,rfl,rfl⟩⟩
   ·simp [alk] at h
   ·simp only [alk,if_true,jag,oraC,List.head?_cons,Option.some.injEq,CtrI.mk.injEq] at e;obtain ⟨_,_,e1,e2⟩:=e;subst e1;cases e2;exact ⟨xs,rfl,aa⟩
  refine kgA (D:=D) (O:=O) U 1000000 (J:=⟨[(0,.yl 0)],λid=>if id=0 then some G.l else none,λ_=>0⟩) (r:=.sl (tup ts)) (ρ:=.sl (tup ts)) (res:=resI (A:=sem) ts) (RetQ:=λ(v:Ya (tup ts).den) st=>(∃ es,lk st.env GS = .gs es/\es.length=v.length)\/lk st.env GS = .ud) (λc κ ln s env h n v _ R K=>kmj (c':=c) R.R K) hY ⟨[(0,.yl 0)],[]⟩ [body] _ _ _ ys (λid=>if id=0 then some G.l else none) (λ_=>0) (λ_=>none) _ ah0 0
   ⟨λx v h=>?_,λx B h=>(by cases h)⟩ ?_ ?_ S
  ·simp only [List.mem_singleton,Prod.mk.injEq] at h;obtain ⟨rfl,rfl⟩:=h;rfl
  ·have hz:=kle (λ(y:(t:Ty)×sem.D t)=>argT (A:=sem) y.1 y.2) (unT sem asZ x) 0;refine ⟨⟨λt=>?_,λid B h=>(by cases h),λid B h=>(by cases h),λi j B B' q h=>(by cases h),λq B h=>(by cases h),λid B q h=>(by cases h),λid B q h=>(by cases h),λq _=>rfl,λt v h=>?_,λid b h=>(by cases h),λ_=>rfl,λq k T es h=>(by cases h),λid B h=>(by cases h)⟩,λx v id _ _=>⟨rfl,rfl⟩,λx v K=>K⟩
   ·have Z:alk ((unT sem asZ x).zipIdx.map λy=>(y.2+1,argT (A:=sem) y.1.1 y.1.2))=alk (((unT sem asZ x).zipIdx 1).map λy=>(y.2,argT (A:=sem) y.1.1 y.1.2)):=congrArg alk hz;have ht:tlk (A:=sem) ⟨[(0,.yl 0)],[]⟩ ⟨(GS,.gs (tup ts) [])::(unT sem asZ x).zipIdx.map (λy=>(y.2+1,argT (A:=sem) y.1.1 y.1.2)),[],1,false⟩ t=if t=GS then .gs (tup ts) [] else if t=0 then .yl 0 else tlk (A:=sem) ⟨[],[]⟩ ⟨((unT sem asZ x).zipIdx 1).map λy=>(y.2,argT (A:=sem) y.1.1 y.1.2),[],1,false⟩ t:=by
     unfold tlk;simp only [alk,Z];by_cases m:t=GS
     ·rw [if_pos m,if_pos m]
     ·rw [if_neg m,if_neg m];by_cases h2:t=0
      ·subst h2; rw [alk_zip_none' (λ(y:(t:Ty)×sem.D t)=>argT (A:=sem) y.1 y.2) _ 1 0 (by omega)]; rfl
      ·rw [if_neg h2,if_neg h2]
    have X:lk ((GS,.gs [])::kar (.sc (.func (.yield G.l) #[] #[])::l)) t=if t=GS then .gs [] else if t=0 then .sc (.func (.yield G.l) #[] #[]) else lk ((l.zipIdx 1).map λ(v,i)=>(i,v)) t:=by
     simp only [lk,kar,jbu,jap,jcb]
    show TVR P _ _ _ 1 (tlk (A:=sem) ⟨[(0,.yl 0)],[]⟩ ⟨(GS,.gs (tup ts) [])::(unT sem asZ x).zipIdx.map (λy=>(y.2+1,argT (A:=sem) y.1.1 y.1.2)),[],1,false⟩ t) _;rw [ht,X];by_cases m:t=GS
    ·rw [if_pos m,if_pos m]; exact .gs (tup ts) []
    ·rw [if_neg m,if_neg m];by_cases h2:t=0
     ·rw [if_pos h2,if_pos h2]; exact .yl 0 G.l (by omega) rfl
     ·rw [if_neg h2,if_neg h2];exact klG (n:=1) L 1 t
   ·show alk [((0:Nat),(TV.yl 0:TV sem))] t=none;simp only [alk];rw [if_neg];rintro rfl;have h':alk ((GS,.gs (tup ts) [])::(unT sem asZ x).zipIdx.map (λy=>(y.2+1,argT (A:=sem) y.1.1 y.1.2))) 0=some v:=h;simp only [alk] at h';rw [if_neg (by decide),show ((unT sem asZ x).zipIdx.map λy=>(y.2+1,argT (A:=sem) y.1.1 y.1.2))=((unT sem asZ x).zipIdx 1).map λy=>(y.2,argT (A:=sem) y.1.1 y.1.2) from hz,alk_zip_none' (λ(y:(t:Ty)×sem.D t)=>argT (A:=sem) y.1 y.2) _ 1 0 (by omega)] at h';cases h'
  ·refine ⟨λκ ln z s env h n R C=>?_,λid κ ln z s env h n R C=>kaa C,λv st K C=>?_,λ_ st h=>⟨.inr rfl,.inr h⟩⟩
   ·dsimp only at C;split at C
    ·rename_i v K;cases C;rcases kmj R.R K with ⟨es,q1,q2⟩ | q
     ·exact ⟨.inl rfl,.inl ⟨es,q1,by simp [q2,u]⟩⟩
     ·exact ⟨.inl rfl,.inr q⟩
    ·exact kaa C
   ·cases C;rcases K with ⟨es,q1,q2⟩ | q
    ·exact ⟨.inr rfl,.inl ⟨es,q1,by simp [q2,u]⟩⟩
    ·exact ⟨.inr rfl,.inr q⟩
theorem Good.moreI {C:Ctr} {I:CtrI} (h:Good P g C) (b:GoodI P g I):Good P g ⟨C.nm,C.asZ,C.rs,C.F,C.mus,I::C.its⟩:=by
 refine ⟨h.1,h.2.1,h.2.2.1,λa hI=>?_⟩;rcases jat.1 hI with rfl | hI
 ·exact b
 ·exact h.2.2.2 a hI
end
end Go.Abs
namespace Go.Abs
open Go Go.RowKit Go.Sort Go.Shelf Go.Proofs
theorem kvH {w w':World} (h:Blw w w'):∃ q os,w'=Sort.grow (w.drewN q) os:=by
 obtain ⟨h,a⟩:=h;refine ⟨w'.drawn-w.drawn,w'.heap.extract w.heap.size w'.heap.size,?_⟩;have b:w'.heap=w.heap++w'.heap.extract w.heap.size w'.heap.size:=by
  apply Array.ext_getElem?;intro i;rw [Array.getElem?_append];split
  ·exact h.block i (by assumption)
  ·rename_i k;rw [Array.getElem?_extract];have j:=h.size;by_cases f:i<w'.heap.size
   ·rw [if_pos (by omega)]; congr 1; omega
   ·rw [if_neg (by omega)];exact jea (by omega)
 cases w';simp only [Sort.grow,World.drewN,World.mk.injEq];exact ⟨b,h.tape,by have:=a; simp only at this ⊢; omega,h.os,h.output⟩
section
variable {P:Yd} {ρ:Ren} {α:Type} [Inhabited α]
theorem krS {w:World} {O:Nat->Prop} {μ:Mu} {n b k T o:Nat} {c:Array Ye} {enc:α->Ya Ye} {d:Ya α} (y:∀ x,(enc x).length=k) (v:w.heap[b]?=some (.cells c T (0,0)))
  (h2:∀ (i:Nat) (e:Ya AV),(d.map λx=>(enc x).map AV.sc)[i]?=some e->e.length=k/\∀ (j:Nat) (a:AV),e[j]?=some a->a.one=true/\∃ u,c[i*k+j]?=some u/\VR w O μ n a u) (C:d≠[]->o=0):HoldsK enc k w b o d.toArray:=by
 intro j m;rw [size_flatK] at m;simp only [List.size_toArray] at m;have p:0<k:=by
  rcases Nat.eq_zero_or_pos k with h | h
  ·subst h; simp at m
  ·exact h
 have r:j / k<d.length:=Nat.div_lt_of_lt_mul (by rw [Nat.mul_comm]; exact m);have A:j % k<k:=Nat.mod_lt _ p;have:=C (by rintro rfl; simp at r);subst this;obtain ⟨_,F⟩:=h2 (j / k) ((enc d[j / k]).map .sc) (by simp [r]);have f:j % k<(enc d[j / k]).length:=by rw [y]; exact A
 obtain ⟨_,u,t,B⟩:=F (j % k) (.sc (enc d[j / k])[j % k]) (by simp [f]);have G:=B.sc_inv;subst G;refine ⟨?_,?_⟩
 ·rw [get_flatK _ _ _ _ (by simpa using m)];rw [show j / k*k+j % k=j from Nat.div_add_mod' j k] at t;show (_:Yb Ye)=some _;simp only [World.cell?,v,jcb,t];simp [getElem!_pos,r,f]
 ·simp [World.frozen?,v]
theorem kvu {enc:α->Ya Ye} {k:Nat} (m:∀ x,(enc x).length=k) (d:Ya α) {i j:Nat} (p:i<d.length) (a:j<k):((flatK enc k d.toArray)[i*k+j]!)=(enc d[i])[j]'(by rw [m]; exact a):=by
 have b:i*k+j<d.length*k:=by
  have:=jbp k (show i+1<=d.length from p);rw [jca,Nat.one_mul] at this;omega
 have r:(i*k+j) / k=i:=by rw [Nat.mul_comm,Nat.mul_add_div (by omega),Nat.div_eq_of_lt a,Nat.add_zero]
 have t:(i*k+j) % k=j:=by rw [Nat.mul_comm,Nat.mul_add_mod,Nat.mod_eq_of_lt a]
 rw [get_flatK _ _ _ _ (by simpa using b),r,t];have f:j<(enc d[i]).length:=by rw [m]; exact a
 simp [getElem!_pos,p,f]
theorem HC.sortFunc (L:SlLaysF0.n6 P ρ) {k T:Nat} (aE:∀ w,(isAgg (ρ.t 24)).run P w = .ok true w) (zE:∀ w,(Go.sizeOf (ρ.t 24)).run P w = .ok k w) {enc:α->Ya Ye} (R:∀ x,(enc x).length=k) (h1:∀ x,∀ v∈enc x,v.oneCell'=true)
  {S:α->α->Int} (hO:SWO (ltOf S)) {g:FuncId} (hg:∀ x y,PC P g [.ag ((enc x).map .sc),.ag ((enc y).map .sc)] (·= .sc (.int .i64 (S x y)))) {d:Ya α} (hd:d.length<=1000000) {h:AH} {n id:Nat} (hh:h id=some (.cells k T (d.map λx=>(enc x).map .sc)))
  {f:FuncId} (ah:ρ.f 6=f) (hP:∃ fn:Func,P.funcs[f]?=some fn/\fn.body.isSome=true/\(fn.name== "runtime.NumGoroutine")=false) :
  HC P f [.ms id 0 d.length,.fn g []] h n (λv h' n'=>v = .tp []/\n'=n/\∃ p:Ya α,p.Perm d/\p.Pairwise (λa b=>ltOf S b a=false)/\h'=updH h id (.cells k T (p.map λx=>(enc x).map .sc))):=by
 subst ah;refine ⟨hP,λO μ w vs hr hs A=>?_⟩;obtain ⟨u0,ar,aA⟩:=A 0 _ rfl;obtain ⟨u1,az,am⟩:=A 1 _ rfl;obtain ⟨b,c,hm,M,aq⟩:=hr.blk id _ hh;obtain ⟨o,cap,c2,T2,rfl,aC,aD,ho,Y,aF⟩:MsAt w b k 0 d.length u0:=by
  cases aA with
  | ms _ _ _ _ h1 h2 A=>exact A b k hm
 rw [M] at Y;cases Y;have aa:u1 = .func (.func g) #[] #[]:=by
  cases am with
  | fn _ _ vs us hs M hr=>rw [Array.eq_empty_of_size_eq_zero hs]
 subst aa;have aj:vs = #[.slice (some ⟨b,o,none⟩) d.length cap,.func (.func g) #[] #[]]:=by
  apply Array.ext
  ·simpa using hs
  ·intro i I _;have:vs.size=2:=by simpa using hs
   match i with
   | 0=>simpa [jaw (show 0<vs.size by omega)] using ar
   | 1=>simpa [jaw (show 1<vs.size by omega)] using az
   | i+2=>omega
 subst aj;have aw:b<w.heap.size:=(jal.1 M).1;have hH:HoldsK enc k w b o d.toArray:=krS R M aq λad=>by
  have:d.length≠0:=λe=>ad (jbi e);have:=ho (by omega);omega
 have ak:∀ args w,(callFunc g args).run P w = .ok (.enter g args) w:=by
  intro args w;obtain ⟨fn,e1,e2,e3⟩:=(hg default default).1;have hb:fn.body≠none:=by intro ay; rw [ay] at e2; cases e2
  have al:fn.name≠ "runtime.NumGoroutine":=by intro aB; rw [aB] at e3; simp at e3
  simp [callFunc,e1,al,hb]
 have ag:∀ (W:World) (x:α),VR W (λ_=>False) mu0 0 (.ag ((enc x).map .sc)) (.agg (enc x).toArray):=λW x=>by
  refine .ag _ _ (λj=>(enc x).toArray.getD j undef) (by simp) (λj c r=>?_) (λj c r=>?_) (λj c r=>?_);all_goals
   simp only [jaq,jad] at r;obtain ⟨v,A,rfl⟩:=r
  ·simp [A]
  ·exact h1 x v (jaf A)
  ·rw [show (enc x).toArray.getD j undef=v from by simp [jah,A]];exact .sc v (h1 x v (jaf A))
 have Z:CmpLays P g #[] enc k S b o d.toArray.size w:=by
  intro m os dk aG x y;refine ((hg x y).2 (λ_=>False) _ _ (λb h=>h.elim) (by simp) (λj c r=>?_)).mono ?_
  ·match j with
   | 0=>simp at r; subst r; exact ⟨_,by simp,ag _ x⟩
   | 1=>simp at r; subst r; exact ⟨_,by simp,ag _ y⟩
   | j+2=>simp at r
  ·rintro e w' ⟨u,v,rfl,rfl,A,hB⟩;exact ⟨by rw [A.sc_inv],kvH hB⟩
 have key:=AnyQ.slices_SortFunc L k aE zE enc R h1 S hO g #[] b o cap d.toArray w ak Z hH aw (by simp; omega);rw [show d.toArray.size=d.length by simp] at key;refine key.mono ?_;rintro e w' ⟨rfl,p,m,os,hp,ao,rfl⟩;have C:p.size=d.length:=by simpa using hp.1
 have G:p.toList.Perm d:=by
  have:=hp.2.2;rw [show d.length=p.size from C.symm,Array.extract_size] at this;rw [show p.size=d.toArray.size by simpa using C,Array.extract_size] at this;simpa using this
 have ax:p.toList.Pairwise (λa b=>ltOf S b a=false):=by
  rw [List.pairwise_iff_getElem];intro i j I r an;have B:i<p.size:=by simpa using I
  have ab:j<p.size:=by simpa using r
  have:=ao i j (jel _) an (by simpa [C] using ab)
  rwa [getElem!_pos p j ab,getElem!_pos p i B] at this
 have hH':HoldsK enc k (putRowK enc k (Sort.ahead w m) b o p) b o p:=holdsK_putRowK enc k _ b o d.toArray p (holdsK_ahead enc k w m b o d.toArray hH) (by simpa using C);have K:(putRowK enc k (Sort.ahead w m) b o p).heap[b]?=some (.cells (putCells _root_.id o (flatK enc k p) c) T (0,0)):=by
  simp only [putRowK,putRow,mapBlock,Sort.ahead,Array.getElem?_modify,if_true,M,jcf,onCells]
 obtain ⟨e1,ai⟩:=hr.set (w':=putRowK enc k (Sort.ahead w m) b o p) id b k hm (.cells k T (p.toList.map λx=>(enc x).map .sc)) rfl rfl ⟨rfl,Nat.le_add_right _ _⟩ (size_putRowK ..)
  (λi I=>by simp [putRowK,putRow,mapBlock,Sort.ahead,Array.getElem?_modify,Ne.symm I]) (λc0 T0 f0 h0=>by rw [M] at h0; cases h0; exact ⟨_,K,by simp [putCells]⟩)
  (λ_=>⟨b,_,hm,K,λi e I=>by
   simp only [jaq,jad] at I;obtain ⟨x,hx,rfl⟩:=I;refine ⟨by simp [R],λj a r=>?_⟩;simp only [jaq,jad] at r;obtain ⟨v,J,rfl⟩:=r;have U:=(jac.1 hx).1;have X:j<k:=by have:=(jac.1 J).1; rwa [R] at this
   have F:=h1 x v (jaf J);refine ⟨F,v,?_,.sc v F⟩;have B:i<p.size:=by simpa using U
   have ae:o=0:=by have:=ho (by omega); omega
   have ac:i*k+j<p.size*k:=by
    have:=jbp k (show i+1<=p.size from B);rw [jca,Nat.one_mul] at this;omega
   have h3:=(hH' (i*k+j) (by rw [size_flatK]; exact ac)).1;subst ae;simp only [World.cell?,K,jcb] at h3;rw [show p=p.toList.toArray from rfl] at h3;rw [kvu R p.toList (by simpa using B) X] at h3;have ap:p.toList[i]=x:=by simpa [jab U] using hx
   rw [show v=(enc p.toList[i])[j]'(by rw [R]; exact X) from ?_]
   ·simpa using h3
   ·simp only [ap];exact ((jac.1 J).2).symm⟩)
 obtain ⟨e2,af⟩:=Evo.of_below (w':=Sort.grow (putRowK enc k (Sort.ahead w m) b o p) os) ai ⟨⟨rfl,rfl,rfl,by simp,λb' au=>heap_grow_old _ _ au⟩,jai _⟩;exact ⟨_,.tp [],_,n,μ,rfl,⟨rfl,rfl,p.toList,G,ax,rfl⟩,af,.tp [] #[] (λ_=>undef) rfl (λj c r=>by simp at r) (λj c r=>by simp at r),e1.trans e2⟩
end
section
variable {P:Yd} {ρ:Go.Shelf.Ren}
theorem HC.sortNil (L:SlLaysF0.n6 P ρ) {g:FuncId} {h:AH} {n:Nat} {f:FuncId} (b:ρ.f 6=f) (hP:∃ fn:Func,P.funcs[f]?=some fn/\fn.body.isSome=true/\(fn.name== "runtime.NumGoroutine")=false) :
  HC P f [nilS,.fn g []] h n (λv h' n'=>v = .tp []/\h'=h/\n'=n):=by
 subst b;refine ⟨hP,λO μ w vs hr u y=>?_⟩;obtain ⟨B,m,k⟩:=y 0 _ rfl;obtain ⟨t,a,A⟩:=y 1 _ rfl;have:=k.sc_inv;subst this;have p:vs = #[.slice none 0 0,t]:=by
  apply Array.ext
  ·simpa using u
  ·intro i C _;have:vs.size=2:=by simpa using u
   match i with
   | 0=>simpa [jaw (show 0<vs.size by omega)] using m
   | 1=>simpa [jaw (show 1<vs.size by omega)] using a
   | i+2=>omega
 subst p;refine (AnyF.slices_SortFunc_none L none 0 t w).mono ?_;rintro e w' ⟨rfl,rfl⟩;exact ⟨_,.tp [],h,n,μ,rfl,⟨rfl,rfl,rfl⟩,hr,.tp [] #[] (λ_=>undef) rfl (λj c r=>by simp at r) (λj c r=>by simp at r),hr.refl⟩
end
end Go.Abs
namespace Go.Abs
open Go Go.RowKit
section
variable {P:Yd} {N:Nat} {D:DX} {O:Nat->Prop} {Q:Exit->St->Prop}
def aopsH (P:Yd) (f a:Ya Nat):Ya Oper->Nat->St->(St->Prop)->Prop
 | [],_,st,K=>K st
 | o::r,j,st,K=>
  if f.contains j then ∃ v h n,(∀ b:K3,b v h n->aop P st.env st.h st.n o b)/\aopsH P f a r (j+1) ⟨putE st.env o.dst v,h,n⟩ K
  else if a.contains j then ∃ v,(∀ h n (b:K3),b v h n->aop P st.env h n o b)/\aopsH P f a r (j+1) ⟨putE st.env o.dst v,st.h,st.n⟩ K
  else ∃ v,rdO P st.h o st.env v/\aopsH P f a r (j+1) ⟨putE st.env o.dst v,st.h,st.n⟩ K
def ancs (l:Ya Oper) (j:Nat):Ya Nat:=(ancOf l).getD j []
def okH (N:Nat) (b a:Ya Nat) (l:Ya Oper):Bool:=
 kcl l&&kbh N l&&l.all (λo=>o.guard.isNone)&&b.all (λw=>(List.range l.length).all λj=>!decide (w<j)||(ancs l j).contains w) &&
  b.all λw=>(List.range w).all λp=>b.contains p||a.contains p||(ancs l w).contains p
theorem aopsH.tree {t f:Ya Nat} {C:Ya Oper} {F:Ya (Yb Tmp)} {K:St->Prop} (y:∀ w∈t,∀ p,p<w->t.contains p=true\/f.contains p=true\/p∈ancs C w):∀ {l:Ya Oper} {j:Nat} {st:St} {B:Ya Pn},(∀ o∈l,o.guard=none)->
  (∀ p∈B,p.j<j/\t.contains p.j=false/\(f.contains p.j=true->∀ h,p.ok h))->aopsH P t f l j st K->treeD P F (λj=>t.contains j) (ancs C) l j st B K
 | [],_,_,_,_,_,hk=>hk
 | o::r,j,st,B,hg,hp,hk=>by
  unfold treeD;rw [hg o (by simp)];simp only;unfold aopsH at hk;unfold stepT;have i:∀ o∈r,o.guard=none:=λo G=>hg o (by simp [G]);by_cases m:t.contains j=true
  ·rw [if_pos m] at hk;rw [if_pos m];obtain ⟨v,h',n',u,b⟩:=hk;refine u _ ⟨λp a=>?_,aopsH.tree y i (λp a=>?_) b⟩
   ·obtain ⟨p1,p2,p3⟩:=hp p a;rcases y j (by simpa using m) p.j p1 with h | h | h
    ·rw [h] at p2; cases p2
    ·exact .inr λ_=>p3 h _
    ·exact .inl h
   ·obtain ⟨p1,p2,p3⟩:=hp p a;exact ⟨by omega,p2,p3⟩
  ·rw [if_neg m] at hk;rw [if_neg m];by_cases k:f.contains j=true
   ·rw [if_pos k] at hk;obtain ⟨v,u,h2⟩:=hk;refine ⟨⟨j,o,st.env,v,λ_=>True⟩,rfl,rfl,rfl,trivial,λA n1 I _ b=>u _ _ _ b,aopsH.tree y i (λp a=>?_) h2⟩;rcases jat.1 a with rfl | a
    ·exact ⟨jbf _,by simpa using m,λ_ _=>trivial⟩
    ·obtain ⟨p1,p2,p3⟩:=hp p a;exact ⟨by omega,p2,p3⟩
   ·rw [if_neg k] at hk;obtain ⟨v,u,h2⟩:=hk;refine ⟨⟨j,o,st.env,v,(·= st.h)⟩,rfl,rfl,rfl,rfl,λA n1 I e b=>by cases e; exact u _ _ b,aopsH.tree y i (λp a=>?_) h2⟩;rcases jat.1 a with rfl | a
    ·exact ⟨jbf _,by simpa using m,λh=>absurd h k⟩
    ·obtain ⟨p1,p2,p3⟩:=hp p a;exact ⟨by omega,p2,p3⟩
theorem SatA.hand {l:Ya Oper} {st:St} (f a:Ya Nat) (m:okH N f a l=true) (t:aopsH P f a l 0 st λst=>Q .normal st):SatA P N D O l Q st:=by
 unfold okH at m;simp only [jae,jao,jba,jbl,decide_eq_false_iff_not,jcp,jcz] at m;obtain ⟨⟨⟨⟨v,h2⟩,A⟩,u⟩,y⟩:=m;refine SatA.of_tree (W:=λj=>f.contains j) (anc:=ancs l) v h2 (λi j B=>kbK B) (λw j r C k=>?_) (aopsH.tree (λw k p b=>?_) A (λp hp=>by cases hp) t)
 ·rcases u w (by simpa using k) j C with h | h
  ·exact absurd r h
  ·exact kbK (show w∈ancs l j by simpa [jbj] using h)
 ·rcases y w k p b with (h | h) | h
  ·exact .inl h
  ·exact .inr (.inl h)
  ·exact .inr (.inr (by simpa [jbj] using h))
variable {cs:Ya Code} {env:Env} {h:AH} {n:Nat} {l:Ya Oper}
theorem aopsH.plain {p b:Ya Nat} {u:Ya (Yb Tmp)} {K:St->Prop}:∀ {l:Ya Oper} {j:Nat} {st:St},(∀ o∈l,o.guard=none)->aopsH P p b l j st K->aops P u l st K
 | [],_,_,_,hk=>hk
 | o::r,j,st,hg,hk=>by
  unfold aops;rw [hg o (by simp)];simp only;unfold aopsH at hk;have a:∀ o∈r,o.guard=none:=λo t=>hg o (by simp [t]);by_cases m:p.contains j=true
  ·rw [if_pos m] at hk;obtain ⟨v,h',n',f,k⟩:=hk;exact f _ (aopsH.plain a k)
  ·rw [if_neg m] at hk;by_cases i:b.contains j=true
   ·rw [if_pos i] at hk;obtain ⟨v,f,h2⟩:=hk;exact f _ _ _ (aopsH.plain a h2)
   ·rw [if_neg i] at hk;obtain ⟨v,f,h2⟩:=hk;exact f _ _ (aopsH.plain a h2)
theorem SatL.wreg {id:Nat} (f:Ya Nat) (a:kbh N l=true) (hg:l.all (λo=>o.guard.isNone)=true) (b:aopsH P f [] l 0 ⟨env,h,n⟩ λst=>SatL P N D O cs Q st):SatL P N D O (.region id l.toArray false::cs) Q ⟨env,h,n⟩:=
 Sat.region a (aopsH.plain (by simpa [jcz] using hg) b)
theorem SatL.wregD2 {id:Nat} (i j:Nat) (m k p r b a:Ya Nat) (hm:P.follows .mixedOrders=true) (I:backw l=true) (A:i≠j/\i<l.length/\j<l.length) (u:kdo l.length m=true) (B:kdo l.length k=true)
  (C:okH N p b (permL l m [(i,j)])=true) (F:okH N r a (permL l k [(j,i)])=true)
  (y:aopsH P p b (permL l m [(i,j)]) 0 ⟨env,h,n⟩ λst=>SatL P N D O cs Q st) (v:aopsH P r a (permL l k [(j,i)]) 0 ⟨env,h,n⟩ λst=>SatL P N D O cs Q st):SatL P N D O (.region id l.toArray true::cs) Q ⟨env,h,n⟩:=by
 refine Sat.drawV (Q:=thenQ (SatL P N D O cs Q) Q) (id:=id) hm I (conf:=λG=>if G=[] then some (i,j) else none) (f:=1) λG t=>?_;simp only [kew,if_true,if_pos A,jdi,jbe,jat,jcj,or_false] at t;rcases t with rfl | rfl
 ·exact ⟨m,u,SatA.hand p b C y⟩
 ·exact ⟨k,B,SatA.hand r a F v⟩
end
abbrev mpL {κ:Type} (kf:κ->Value) (E:List (κ×Int)):List (Value×AV):=E.map (kvE kf λn=>.sc (.int .i64 n))
structure KeyOk (P:Program) (kt:TypeId) {κ:Type} [DecidableEq κ] (kf:κ->Value):Prop where
 eq:∀ a b,keyB (kf a) (kf b)=decide (a=b)
 ok:∀ a,kaK P kt (kf a)
theorem koz {κ:Type} [DecidableEq κ] (x:κ) (v:Int):∀ (E:Ya (κ×Int)),mset (ment E x 0) (midx E x) v=mput E x v:=by
 have key:∀ (E:Ya (κ×Int)),(match mget E x with | some _=>E.set (midxN x E) (x,v) | none=>E++[(x,v)])=mput E x v:=by
  intro E;induction E with
  | nil=>rfl
  | cons p r i=>
   simp only [mget,mput,midxN];by_cases h:x=p.1
   ·simp [h]
   ·simp only [if_neg h];rw [<-i];cases mget r x <;> simp
 have b:∀ (E:Ya (κ×Int)) (w:Int),mget E x=some w->∃ a,E[midxN x E]?=some (x,a):=by
  intro E;induction E with
  | nil=>intro w h; cases h
  | cons p r i=>
   intro w h;simp only [mget,midxN] at h ⊢;by_cases j:x=p.1
   ·subst j; exact ⟨p.2,by simp⟩
   ·simp only [if_neg j] at h ⊢;obtain ⟨a,f⟩:=i w h;exact ⟨a,by simpa using f⟩
 intro E;rw [<-key E];unfold mset ment midx;rw [jci];cases hm:mget E x with
 | some w=>
  obtain ⟨a,f⟩:=b E w hm;simp only [f]
 | none=>
  have:=keH x E hm;simp only [this];simp
section
variable {P:Yd} {h:AH} {n:Nat} {env:Env} {o:Oper} {κ:Type} [DecidableEq κ] {kf:κ->Ye} {kt e T:Yc} {id:Nat} {E:Ya (κ×Int)} {x:κ}
theorem rdO.lookupM {m key:Yf} (f:o.op = .lookup T m key false) (hm:ev env m = .mp id) (b:keyA (ev env key)=some (kf x)) (hT:mapO P T=some (kt,e)) (hK:KeyOk P kt kf) (hz:zvO P e=some (.int .i64 0)) (hB:h id=some (.map (mpL kf E))):rdO P h o env (.sc (.int .i64 ((mget E x).getD 0))):=λn K a=>by
 unfold aop;rw [f];simp only [hm];exact lkK (E:=E) (kf:=kf) (vf:=λn=>.sc (.int .i64 n)) (k:=x) (z0:=0) b hT hz rfl hK.eq hK.ok hB a
theorem aop.mapEntryM {m key:Yf} (i:o.op = .mapEntry T m key) (hm:ev env m = .mp id) (f:keyA (ev env key)=some (kf x)) (hT:mapO P T=some (kt,e)) (hK:KeyOk P kt kf) (hz:zvO P e=some (.int .i64 0)) (hB:h id=some (.map (mpL kf E))) :
  ∀ b:K3,b (.tp [.sc (.int .i64 ((mget E x).getD 0)),.sc (.int .i64 (midx E x))]) (updH h id (.map (mpL kf (ment E x 0)))) n->aop P env h n o b:=λb a=>by
 unfold aop;rw [i];simp only [hm,kgM,f,hT,hB];refine ⟨hK.ok x,λy j=>?_,?_⟩
 ·obtain ⟨p,_,rfl⟩:=jaz.1 j; exact hK.ok _
 ·rw [kkb (vf:=λn=>AV.sc (.int .i64 n)) hK.eq x E 0];unfold ment midx at a;cases hg:mget E x with
  | some v0=>
   rw [hg] at a;simp only [jcf,jbw,jcb] at a ⊢;exact a
  | none=>
   rw [hg] at a;simp only [Option.map_none,Option.getD_none,hz] at a ⊢;rw [keH x E hg] at a;refine ⟨rfl,?_⟩;simp only [mpL,jcn,jas] at a ⊢;exact a
theorem aop.entryStoreM {m st y:Yf} {i v:Int} {k:IntKind} {p:κ×Int} (f:o.op = .entryStore T m st y) (hm:ev env m = .mp id) (r:ev env st = .sc (.int k i)) (j:ev env y = .sc (.int .i64 v)) (hB:h id=some (.map (mpL kf E))) (h0:0<=i) (hp:E[i.toNat]?=some p) :
  ∀ b:K3,b .ud (updH h id (.map (mpL kf (mset E i v)))) n->aop P env h n o b:=λb a=>by
 unfold aop;rw [f];simp only [hm,kiw,r,j,hB];refine ⟨h0,rfl,kvE kf (λn=>.sc (.int .i64 n)) p,by simp [hp],?_⟩;unfold mset at a;rw [hp] at a;simp only [mpL,jee] at a ⊢;exact a
theorem aop.makeMapM (f:o.op = .makeMap T none):∀ b:K3,b (.mp n) (updH h n (.map (mpL kf []))) (n+1)->aop P env h n o b:=λb a=>by
 unfold aop;rw [f];exact a
theorem aop.rangeM {m:Yf} (f:o.op = .range T m) (hm:ev env m = .mp id) (hT:mapO P T=some (kt,e)) (hB:h id=some (.map (mpL kf E))) :
  ∀ b:K3,b (.own n 0 0) (updH h n (.mi id E.length [])) (n+1)->aop P env h n o b:=λb a=>by
 unfold aop;rw [f];simp only [hm,kir,hB,hT];rw [show E.length=(mpL kf E).length by simp] at a;exact ⟨rfl,a⟩
theorem aop.nextM {y:Yf} {it:Nat} {seen:Ya Nat} {K:K3} (b:o.op = .next y false) (j:ev env y = .own it 0 0) (hI:h it=some (.mi id E.length seen)) (hB:h id=some (.map (mpL kf E)))
  (a:∀ i p,E[i]?=some p->i∉seen->K (.tp [.sc (.bool true),cst (kf p.1),.sc (.int .i64 p.2)]) (updH h it (.mi id E.length (seen++[i]))) n) (k:(∀ i,i<E.length->i∈seen)->K (.tp [.sc (.bool false)]) h n):aop P env h n o K:=by
 unfold aop;rw [b];simp only [j,kkp,hI,hB];refine ⟨by simp,λi z hz m=>?_,λf=>k (by simpa using f)⟩;simp only [mpL,jaq,jad] at hz;obtain ⟨p,hp,rfl⟩:=hz;exact a i p hp m
theorem aop.entryM {y:Yf} {it i:Nat} {seen:Ya Nat} {p:κ×Int} (f:o.op = .entry y) (j:ev env y = .own it 0 0) (hI:h it=some (.mi id E.length (seen++[i]))) (hB:h id=some (.map (mpL kf E))) (hp:E[i]?=some p) :
  ∀ b:K3,b (.tp [cst (kf p.1),.sc (.int .i64 p.2)]) h n->aop P env h n o b:=λb a=>by
 unfold aop;rw [f];simp only [j,kmG,hI,hB,List.getLast?_append,List.getLast?_singleton,Option.some_or];exact ⟨by simp,kvE kf (λn=>.sc (.int .i64 n)) p,by simp [hp],a⟩
end
section
variable {P:Yd} {N:Nat} {D:DX} {O:Nat->Prop} {Q:Exit->St->Prop}
def Sup (z h:AH):Prop:=∀ q B,z q=some B->h q=some B
def stepZ (P:Yd) (z:AH) (i b f:Ya Nat) (o:Oper) (j:Nat) (e:Env) (h:AH) (n:Nat) (K:St->Prop):Prop:=
 if i.contains j then ∃ v h' n',(∀ a:K3,a v h' n'->aop P e h n o a)/\Sup z h'/\K ⟨putE e o.dst v,h',n'⟩
 else if b.contains j then ∃ v,(∀ h n (a:K3),a v h n->aop P e h n o a)/\K ⟨putE e o.dst v,h,n⟩
 else if f.contains j then ∃ v,(∀ h',Sup z h'->rdO P h' o e v)/\K ⟨putE e o.dst v,h,n⟩
 else ∃ v,rdO P h o e v/\K ⟨putE e o.dst v,h,n⟩
def aopsZ (P:Yd) (z:AH) (k:Ya (Yb Tmp)) (i a f:Ya Nat):Ya Oper->Nat->St->(St->Prop)->Prop
 | [],_,st,K=>K st
 | o::r,j,st,K=>
  match o.guard with
  | none=>stepZ P z i a f o j st.env st.h st.n λs=>aopsZ P z k i a f r (j+1) s K
  | some (g,want)=>match kaS k g with
   | some d=>match lk st.env d with
    | .sc (.bool b)=>if b=want then stepZ P z i a f o j ((d,.sc (.bool want))::st.env) st.h st.n λs=>aopsZ P z k i a f r (j+1) s K else aopsZ P z k i a f r (j+1) ⟨putE ((d,.sc (.bool (!want)))::st.env) o.dst .ud,st.h,st.n⟩ K
    | .ud=>aopsZ P z k i a f r (j+1) ⟨putE st.env o.dst .ud,st.h,st.n⟩ K
    | _=>False
   | none=>False
def okZ (N:Nat) (f a b:Ya Nat) (l:Ya Oper):Bool:=
 kcl l&&kbh N l&&f.all (λw=>(List.range l.length).all λj=>!decide (w<j)||(ancs l j).contains w) &&
  f.all λw=>(List.range w).all λp=>f.contains p||a.contains p||b.contains p||(ancs l w).contains p
structure PdZ (z:AH) (ws pus lts:List Nat) (j:Nat) (p:Pn):Prop where
 lt:p.j<j
 nw:ws.contains p.j=false
 pu:pus.contains p.j=true->∀ h,p.ok h
 la:pus.contains p.j=false->lts.contains p.j=true->∀ h,Sup z h->p.ok h
theorem PdZ.mono {z:AH} {f a b:Ya Nat} {j:Nat} {p:Pn} (h:PdZ z f a b j p):PdZ z f a b (j+1) p:=⟨jdu h.lt,h.nw,h.pu,h.la⟩
theorem aopsZ.tree {z:AH} {B k u:Ya Nat} {Z:Ya Oper} {Y:Ya (Yb Tmp)} {K:St->Prop} (F:∀ w∈B,∀ p,p<w->B.contains p=true\/k.contains p=true\/u.contains p=true\/p∈ancs Z w):∀ {l:Ya Oper} {j:Nat} {st:St} {U:Ya Pn},
  Sup z st.h->(∀ p∈U,PdZ z B k u j p)->aopsZ P z Y B k u l j st K->treeD P Y (λj=>B.contains j) (ancs Z) l j st U K
 | [],_,_,_,_,_,a=>a
 | o::r,j,st,U,hz,hp,a=>by
  have A:∀ p∈U,PdZ z B k u (j+1) p:=λp h=>(hp p h).mono;have M:∀ i:Env,stepZ P z B k u o j i st.h st.n (λs=>aopsZ P z Y B k u r (j+1) s K)->stepT P (λj=>B.contains j) (ancs Z) o j i st.h st.n U λs t=>treeD P Y (λj=>B.contains j) (ancs Z) r (j+1) s t K:=λi a=>by
   unfold stepZ at a;unfold stepT;by_cases J:B.contains j=true
   ·rw [if_pos J] at a;rw [if_pos J];obtain ⟨v,h',n',C,X,m⟩:=a;refine C _ ⟨λp f=>?_,aopsZ.tree F X A m⟩;have R:=hp p f;rcases F j (by simpa using J) p.j R.lt with h | h | h | h
    ·rw [R.nw] at h; cases h
    ·exact .inr λ_=>R.pu h _
    ·refine .inr λ_=>?_;cases y:k.contains p.j with
     | true=>exact R.pu y _
     | false=>exact R.la y h _ X
    ·exact .inl h
   ·rw [if_neg J] at a;rw [if_neg J];have I:B.contains j=false:=by simpa using J
    by_cases y:k.contains j=true
    ·rw [if_pos y] at a;obtain ⟨v,C,h2⟩:=a;refine ⟨⟨j,o,i,v,λ_=>True⟩,rfl,rfl,rfl,trivial,λS n1 K' _ m=>C _ _ _ m,aopsZ.tree F hz (λp f=>?_) h2⟩;rcases jat.1 f with rfl | f
     ·exact ⟨jbf _,I,λ_ _=>trivial,λ_ _ _ _=>trivial⟩
     ·exact A p f
    ·rw [if_neg y] at a;by_cases G:u.contains j=true
     ·rw [if_pos G] at a;obtain ⟨v,C,h2⟩:=a;refine ⟨⟨j,o,i,v,λh=>Sup z h⟩,rfl,rfl,rfl,hz,λS n1 K' e m=>C _ e _ _ m,aopsZ.tree F hz (λp f=>?_) h2⟩;rcases jat.1 f with rfl | f
      ·exact ⟨jbf _,I,λh=>absurd h y,λ_ _ _ h=>h⟩
      ·exact A p f
     ·rw [if_neg G] at a;obtain ⟨v,C,h2⟩:=a;refine ⟨⟨j,o,i,v,(·= st.h)⟩,rfl,rfl,rfl,rfl,λS n1 K' e m=>by cases e; exact C _ _ m,aopsZ.tree F hz (λp f=>?_) h2⟩;rcases jat.1 f with rfl | f
      ·exact ⟨jbf _,I,λh=>absurd h y,λ_ h=>absurd h G⟩
      ·exact A p f
  unfold aopsZ at a;unfold treeD;cases hg:o.guard with
  | none=>
   rw [hg] at a;exact M st.env a
  | some gw=>
   obtain ⟨g,L⟩:=gw;rw [hg] at a;simp only at a ⊢;split at a
   ·rename_i d hd;rw [hd];simp only at a ⊢;split at a
    ·rename_i b hb;rw [hb];simp only;refine ⟨λe=>?_,λe=>?_⟩
     ·rw [if_pos e] at a;exact M _ a
     ·rw [if_neg (by rw [e]; cases L <;> simp)] at a;exact aopsZ.tree F hz A a
    ·rename_i hb;rw [hb];exact aopsZ.tree F hz A a
    ·exact a.elim
   ·exact a.elim
theorem SatA.handZ {l:Ya Oper} {st:St} (z:AH) (k a b:Ya Nat) (hz:Sup z st.h) (r:okZ N k a b l=true) (u:aopsZ P z (l.map (·.dst)) k a b l 0 st λst=>Q .normal st):SatA P N D O l Q st:=by
 unfold okZ at r;simp only [jae,jao,jba,jbl,decide_eq_false_iff_not,jcp] at r;obtain ⟨⟨⟨y,h2⟩,v⟩,A⟩:=r;refine SatA.of_tree (W:=λj=>k.contains j) (anc:=ancs l) y h2 (λi j B=>kbK B) (λw j t C m=>?_) (aopsZ.tree (λw m p f=>?_) hz (λp hp=>by cases hp) u)
 ·rcases v w (by simpa using m) j C with h | h
  ·exact absurd t h
  ·exact kbK (show w∈ancs l j by simpa [jbj] using h)
 ·rcases A w m p f with ((h | h) | h) | h
  ·exact .inl h
  ·exact .inr (.inl h)
  ·exact .inr (.inr (.inl h))
  ·exact .inr (.inr (.inr (by simpa [jbj] using h)))
variable {cs:Ya Code} {env:Env} {h:AH} {n:Nat} {l:Ya Oper}
theorem SatL.zregD {id:Nat} (z:AH) (f a b:Ya Nat) (hm:P.follows .mixedOrders=true) (hz:Sup z h) (j:okZ N f a b l=true) (i:aopsZ P z (l.map (·.dst)) f a b l 0 ⟨env,h,n⟩ λst=>SatL P N D O cs Q st):SatL P N D O (.region id l.toArray true::cs) Q ⟨env,h,n⟩:=
 Sat.draw0 hm (SatA.handZ z f a b hz j i)
end
end Go.Abs
namespace Go.Abs
open Go
theorem kbw {α:Type} {l:Ya α} {i:Nat} (h:i<l.length):gi l (i:Int)=some l[i]:=by rw [kbe,jab h]
theorem kre {α β:Type} {F:α->Yb (α⊕β)}:∀ {n:Nat} {x:α} {z:β} (m:Nat),itN F n x=some z->itN F (n+m) x=some z
 | 0,x,z,m,h=>by simp [itN] at h
 | n+1,x,z,m,h=>by
  rw [Nat.succ_add];simp only [itN] at h ⊢;split at h
  ·cases h
  ·rename_i y b; rw [b] at *; exact kre m h
  ·rename_i w a; rw [a] at *; exact h
theorem kdq {α β:Type} {F:α->Yb (α⊕β)} {n:Nat} {x:α} {z:β} (h:itN F n x=some z) (hn:n<=18446744073709551616):iter F x=some z:=by
 unfold iter;have:=kre (18446744073709551616-n) h
 rwa [show n+(18446744073709551616-n)=18446744073709551616 by omega] at this
theorem kcb {α β:Type} {F:α->Yb (α⊕β)} {n:Nat} {x:α} {z:β} (h:F x=some (.inr z)):itN F (n+1) x=some z:=by simp [itN,h]
theorem khl {α β:Type} {F:α->Yb (α⊕β)} {n:Nat} {x y:α} (h:F x=some (.inl y)):itN F (n+1) x=itN F n y:=by simp [itN,h]
theorem kaX {α:Type} (l:Ya α):lenI l=(l.length:Int):=rfl
theorem kap {i:Nat} (h:i<9223372036854775807):w64 ((i:Int)+1)=((i+1:Nat):Int):=by rw [kaJ (by omega) (by omega)]; rfl
def endL {β:Type}:Yb β->β⊕Unit
 | some b=>.inl b
 | none=>.inr ()
def nextL {β:Type} (i:Nat):Yb β->Int⊕(β⊕Unit)
 | some b=>.inr (.inl b)
 | none=>.inl ((i+1:Nat):Int)
theorem kcz {α β:Type} {F:Int->Yb (Int⊕(β⊕Unit))} (l:Ya α) (hl:l.length<=9223372036854775807) (f:Nat->α->Yb β)
  (p:∀ i,(a:i<l.length)->F (i:Int)=some (nextL i (f i l[i]))) (h2:F (l.length:Int)=some (.inr (.inr ()))) :
  iter F 0=some (endL (l.zipIdx.findSome? λx=>f x.2 x.1)):=by
 have:∀ k i:Nat,i+k=l.length->itN F (k+1) (i:Int)=some (endL (((l.drop i).zipIdx i).findSome? (λx=>f x.2 x.1))):=by
  intro k;induction k with
  | zero=>
   intro i h;have:i=l.length:=by omega
   subst this;rw [kcb h2,List.drop_length]; rfl
  | succ k m=>
   intro i h;have a:i<l.length:=by omega
   rw [jds a,jbu,jeb];have e:=p i a;cases j:f i l[i] with
   | some b=>rw [j] at e; rw [kcb e]; rfl
   | none=>rw [j] at e; rw [khl e,m (i+1) (by omega)]
 exact kdq (this l.length 0 (by omega)) (by omega)
end Go.Abs
namespace Go.Abs
open Go Go.RowKit
section
variable {κ:Type} [DecidableEq κ]
theorem kov (p:κ) (v:Int):∀ (E:Ya (κ×Int)) (x:κ),mget (mput E p v) x=if x=p then some v else mget E x
 | [],x=>by simp [mget,mput]
 | q::r,x=>by
  simp only [mput];by_cases h:p=q.1
  ·rw [if_pos h];simp only [mget];by_cases a:x=p
   ·simp [a]
   ·rw [if_neg a,if_neg a,if_neg (by rw [<-h]; exact a)]
  ·rw [if_neg h];simp only [mget,kov p v r x];by_cases a:x=q.1
   ·rw [if_pos a,if_pos a,if_neg (by rintro rfl; exact h a)]
   ·rw [if_neg a,if_neg a]
theorem knX (p:κ) (v:Int):∀ (E:Ya (κ×Int)),(mput E p v).map (·.1)=if p∈E.map (·.1) then E.map (·.1) else E.map (·.1)++[p]
 | []=>by simp [mput]
 | q::r=>by
  simp only [mput];by_cases h:p=q.1
  ·rw [if_pos h]; simp [h]
  ·rw [if_neg h,jap,knX p v r];simp only [jap,jat,h,false_or];split <;> simp
theorem mget_none {x:κ}:∀ {E:Ya (κ×Int)},mget E x=none↔x∉E.map (·.1)
 | []=>by simp [mget]
 | q::r=>by
  simp only [mget,jap,jat,not_or];by_cases h:x=q.1
  ·simp [h]
  ·simp [h,mget_none (E:=r)]
theorem klS {x:κ} {v:Int}:∀ {E:Ya (κ×Int)},(E.map (·.1)).Nodup->(x,v)∈E->mget E x=some v
 | q::r,hn,hm=>by
  simp only [jap,jdd] at hn;simp only [mget];rcases jat.1 hm with rfl | hm
  ·simp
  ·rw [if_neg (by rintro rfl; exact hn.1 (jaz.2 ⟨_,hm,rfl⟩))];exact klS hn.2 hm
structure Cnt (E:List (κ×Int)) (L:List κ):Prop where
 nd:(E.map (·.1)).Nodup
 get:∀ x,mget E x=if L.count x=0 then none else some (L.count x:Int)
theorem Cnt.nil:Cnt ([]:Ya (κ×Int)) []:=⟨List.nodup_nil,λx=>by simp [mget]⟩
theorem Cnt.getD {E:Ya (κ×Int)} {L:Ya κ} (h:Cnt E L) (x:κ):(mget E x).getD 0=(L.count x:Int):=by
 rw [h.get]; split
 ·rename_i e; simp [e]
 ·rfl
theorem Cnt.perm {E:Ya (κ×Int)} {L L':Ya κ} (h:Cnt E L) (hp:L.Perm L'):Cnt E L':=⟨h.nd,λx=>by rw [h.get,hp.count_eq]⟩
theorem khB {a:Int} (h0:0<=a) (b:a<9223372036854775808):w64 a=a:=by
 unfold w64 IntKind.wrap;simp [IntKind.bits,IntKind.signed];omega
theorem Cnt.add {E:Ya (κ×Int)} {L:Ya κ} (h:Cnt E L) (p:κ) (m:Nat) (hm:0<m) (f:L.length+m<9223372036854775808):Cnt (mput E p (w64 ((mget E p).getD 0+m))) (L++List.replicate m p):=by
 have k:=List.count_le_length (a:=p) (l:=L);rw [h.getD,khB (by omega) (by omega)];refine ⟨?_,λx=>?_⟩
 ·rw [knX];split
  ·exact h.nd
  ·rename_i hn;rw [jek];exact ⟨h.nd,by simp,λa j b f e=>by simp at f; subst f; subst e; exact hn j⟩
 ·rw [kov,List.count_append,List.count_replicate,h.get];by_cases i:x=p
  ·subst i;simp only [if_true,BEq.rfl];rw [if_neg (by omega)];simp
  ·rw [if_neg i];have:¬ (p==x)=true:=by simpa using λe=>i e.symm
   rw [if_neg this];simp
def ents (E:Ya (κ×Int)):Ya κ:=E.flatMap λe=>List.replicate e.2.toNat e.1
theorem kmq {x:κ}:∀ {E:Ya (κ×Int)},(E.map (·.1)).Nodup->(ents E).count x=((mget E x).getD 0).toNat
 | [],_=>by simp [ents,mget]
 | q::r,hn=>by
  simp only [jap,jdd] at hn;have b:=kmq (x:=x) (E:=r) hn.2;unfold ents at b ⊢;rw [jcv,List.count_append,b,List.count_replicate];simp only [mget];by_cases a:x=q.1
  ·subst a;have:mget r q.1=none:=mget_none.2 hn.1;simp [this]
  ·rw [if_neg a,if_neg (by simpa using λe=>a e.symm)];simp
theorem Cnt.ents {E:Ya (κ×Int)} {L:Ya κ} (h:Cnt E L):(ents E).Perm L:=by
 rw [List.perm_iff_count];intro x;rw [kmq h.nd,h.getD];simp
theorem Cnt.pos {E:Ya (κ×Int)} {L:Ya κ} (h:Cnt E L) {e:κ×Int} (a:e∈E):0<e.2:=by
 have:=klS h.nd (show (e.1,e.2)∈E from a);rw [h.get] at this;split at this
 ·cases this
 ·have:=Option.some.inj this; omega
end
theorem khp {l:Ya Nat} {N:Nat} (hn:l.Nodup) (h:∀ i∈l,i<N):l.Perm ((List.range N).filter λi=>decide (i∈l)):=by
 refine (List.perm_ext_iff_of_nodup hn (List.nodup_range.filter _)).2 λi=>?_;simp only [jdo,jcp,jaj];exact ⟨λa=>⟨h i a,a⟩,λa=>a.2⟩
theorem kku {l:Ya Nat} {N:Nat} (hn:l.Nodup) (h:∀ i∈l,i<N):l.length<=N:=by
 rw [(khp hn h).length_eq];exact jck (List.length_filter_le _ _) (by simp)
theorem kmW {l:Ya Nat} {N:Nat} (hn:l.Nodup) (h:∀ i∈l,i<N) (b:∀ i,i<N->i∈l):l.Perm (List.range N):=
 (List.perm_ext_iff_of_nodup hn List.nodup_range).2 λi=>⟨λa=>jcp.2 (h i a),λa=>b i (jcp.1 a)⟩
theorem kfM {β:Type} (f:Nat->Ya β) (p:Nat->Bool):∀ l:Ya Nat,((l.filter p).flatMap f).length<=(l.flatMap f).length
 | []=>by simp
 | x::l=>by
  have:=kfM f p l;rw [List.filter_cons];split <;> simp only [jcv,jau] <;> omega
def pickE {α β:Type} (g:α->Ya β) (E:Ya α) (i:Nat):Ya β:=match E[i]? with | some e=>g e | none=>[]
theorem keq {α β:Type} {f g:α->Ya β}:∀ {l:Ya α},(∀ i∈l,f i=g i)->l.flatMap f=l.flatMap g
 | [],_=>rfl
 | x::l,h=>by rw [jcv,jcv,h x (by simp),keq λi a=>h i (by simp [a])]
theorem kgj {α β:Type} (g:α->Ya β):∀ (E:Ya α) (k:Nat),((List.range' k E.length).flatMap λi=>pickE g E (i-k))=E.flatMap g
 | [],k=>by simp
 | e::E,k=>by
  rw [jcq,List.range'_succ,jcv,jcv];congr 1
  ·simp [pickE]
  ·rw [<-kgj g E (k+1)];refine keq λi a=>?_;have:=(List.mem_range'_1.1 a).1;unfold pickE;rw [show i-k=(i-(k+1))+1 by omega,jbz]
section
variable {κ κ':Type}
def met (E:Ya (κ×Int)) (f:κ->κ') (seen:Ya Nat):Ya κ':=seen.flatMap (pickE (λe=>List.replicate e.2.toNat (f e.1)) E)
theorem kog (E:Ya (κ×Int)) (f:κ->κ'):met E f (List.range E.length)=(ents E).map f:=by
 unfold met ents;have:=kgj (λe:κ×Int=>List.replicate e.2.toNat (f e.1)) E 0;rw [<-jeg] at this;simp only [Nat.sub_zero] at this;rw [this,List.map_flatMap];simp
theorem kwb [DecidableEq κ] {E:Ya (κ×Int)} {L:Ya κ} (h:Cnt E L) (f:κ->κ') {seen:Ya Nat} (hn:seen.Nodup) (b:∀ i∈seen,i<E.length):(met E f seen).length<=L.length:=by
 have a:(met E f seen).Perm (met E f ((List.range E.length).filter λi=>decide (i∈seen))):=(khp hn b).flatMap_right _;rw [a.length_eq];refine jck (kfM _ _ _) ?_;have:=kog E f;unfold met at this;rw [this,jas,h.ents.length_eq];exact jai _
end
section
variable {P:Yd} {env:Env} {h:AH} {n:Nat} {o:Oper}
def findR (id:Nat):Code->Yb (Ya Oper)
 | .region i ops _=>if i=id then some ops.toList else none
 | .seq a b=>match findR id a with | some l=>some l | none=>findR id b
 | .cond _ a b=>match findR id a with | some l=>some l | none=>findR id b
 | .block _ c | .loop c | .scope c=>findR id c
 | _=>none
theorem rdO.fldOwn {T:Yc} {x:Yf} {f d:Nat} {ft:Yc} {id i j k:Nat} {T':Yc} {es:Ya (Ya AV)} (b:o.op = .fieldAddr T x f) (m:fldO P T f=some (d,ft)) (p:ev env x = .own id i j) (hB:h id=some (.cells k T' es)):rdO P h o env (.own id i (j+d)):=λn K a=>by
 unfold aop; rw [b]; simp only [m,p,hB]; exact ⟨rfl,a⟩
theorem pu.move {x:Yf} {v:AV} (b:o.op = .move x) (f:ev env x=v):∀ h n (K:K3),K v h n->aop P env h n o K:=λh n K a=>by unfold aop; rw [b]; simp only; rw [f]; exact a
theorem pu.extract {x:Yf} {i:Nat} {cs:Ya AV} {v:AV} (b:o.op = .extract x i) (j:ev env x = .tp cs) (f:cs[i]?=some v):∀ h n (K:K3),K v h n->aop P env h n o K:=λh n K a=>by unfold aop; rw [b]; simp only; rw [j]; exact ⟨v,f,a⟩
theorem pu.bin {f:BinOp} {T u:Yc} {x y:Yf} {v:AV} (m:o.op = .binOp f T x y u) {k i:IntKind} {a b:Int} (t:ev env x = .sc (.int k a)) (p:ev env y = .sc (.int i b)) (r:∀ K:AV->Prop,K v->abinI f k a i b K):∀ h n (K:K3),K v h n->aop P env h n o K:=λh n K j=>by
 unfold aop; rw [m]; simp only; rw [t,p]; exact r (λv=>K v h n) j
theorem pu.build {T:Yc} {a:Array (Nat×Yf)} {z cs:Ya AV} {pl:Ya (Nat×Nat)} (i:o.op = .build T a) (hz:zeroO P T=some z) (hp:kfr P T=some pl) (f:fillS pl env a.toList z=some cs):∀ h n (K:K3),K (.ag cs) h n->aop P env h n o K:=λh n K b=>by
 unfold aop; rw [i]; simp only [hz,hp,f]; exact b
theorem ksh {κ:Type} [DecidableEq κ] (x:κ):∀ (E:Ya (κ×Int)),∃ q,(ment E x 0)[(midx E x).toNat]?=some q:=by
 intro E;unfold ment midx;rw [jci];cases hm:mget E x with
 | some w=>
  simp only;induction E with
  | nil=>cases hm
  | cons p r f=>
   simp only [mget,midxN] at hm ⊢;by_cases b:x=p.1
   ·subst b; exact ⟨p,by simp⟩
   ·simp only [if_neg b] at hm ⊢;obtain ⟨a,i⟩:=f hm;exact ⟨a,by simpa using i⟩
 | none=>
  rw [keH x E hm];exact ⟨(x,0),by simp⟩
theorem koo {κ:Type} [DecidableEq κ] (x:κ) (E:Ya (κ×Int)):(mget (ment E x 0) x).getD 0=(mget E x).getD 0:=by
 unfold ment;cases hm:mget E x with
 | some w=>simp [hm]
 | none=>
  simp only;have:∀ E:Ya (κ×Int),mget E x=none->mget (E++[(x,0)]) x=some 0:=by
   intro E;induction E with
   | nil=>intro _; simp [mget]
   | cons p r b=>
    intro h;simp only [mget] at h;split at h
    ·cases h
    ·rename_i a;simp only [jdi,mget,if_neg a];exact b h
  rw [this E hm];rfl
theorem pu.buildSl {P:Yd} {env:Env} {o:Oper} {T e:Yc} {len:Nat} {a:Array (Nat×Yf)} {z:Ya AV} {es:Ya (Ya AV)} (j:o.op = .buildSlice T len a) (k:elemO P T=some e) (hz:zeroO P e=some z) (f:len<=1000) (h2:z.length<=1000) (i:fillE z.length env a.toList (List.replicate len z)=some es):∀ h n (K:K3),K (.sl es) h n->aop P env h n o K:=λh n K b=>by
 unfold aop; rw [j]; simp only [k,hz,i]; exact ⟨f,h2,.inr (.inl b)⟩
def findB (id:Nat):Code->Yb Code
 | .seq a b=>match findB id a with | some l=>some l | none=>findB id b
 | .cond _ a b=>match findB id a with | some l=>some l | none=>findB id b
 | .block i c=>if i=id then some c else findB id c
 | .loop c | .scope c=>findB id c
 | _=>none
theorem kaM {env:Env} {s:Nat}:∀ {l:Ya Nat},s∈l->lk (keep l env) s=lk env s
 | x::l,hs=>by
  show (if s=x then lk env x else lk (keep l env) s)=lk env s;split
  ·rename_i e; rw [e]
  ·rename_i e; exact kaM ((jat.1 hs).resolve_left e)
theorem aop.entryM2 {P:Yd} {h:AH} {n:Nat} {env:Env} {o:Oper} {κ:Type} [DecidableEq κ] {kf:κ->Ye} {id:Nat} {E:Ya (κ×Int)} {y:Yf} {it i:Nat} {seen:Ya Nat} {p:κ×Int} {K:K3} (b:o.op = .entry y) (f:ev env y = .own it 0 0) (hI:h it=some (.mi id E.length (seen++[i]))) (hB:h id=some (.map (mpL kf E))) (hp:E[i]?=some p) (a:K (.tp [cst (kf p.1),.sc (.int .i64 p.2)]) h n):aop P env h n o K:=
 aop.entryM b f hI hB hp K a
theorem pu.move' {P:Yd} {env:Env} {o:Oper} {x:Yf} {v:AV} (b:o.op = .assign x) (f:ev env x=v):∀ h n (K:K3),K v h n->aop P env h n o K:=λh n K a=>by unfold aop; rw [b]; simp only; rw [f]; exact a
theorem aop.store2 {P:Yd} {env:Env} {h:AH} {n:Nat} {o:Oper} {T:Yc} {p x:Yf} {id k:Nat} {T':Yc} {a a' b b':AV} {K:K3} (i:o.op = .store T p x) (hp:ev env p = .own id 0 0) (hB:h id=some (.cells k T' [[a,a']])) (j:kau (ev env x)=some [b,b']) (hT:P.cellsOf T=2) (f:K .ud (updH h id (.cells k T' [[b,b']])) n):aop P env h n o K:=by
 unfold aop; rw [i]; simp only; rw [hp]; simp only [kaR,hB,j]; exact ⟨hT.symm,by simp,by simp,f⟩
theorem rdO.loadA {P:Yd} {env:Env} {h:AH} {o:Oper} {T:Yc} {x:Yf} {cs:Ya AV} (b:o.op = .load T x) (f:deref h (ev env x)=some cs) (hT:aggO P T=some true) (hl:cs.length=P.cellsOf T):rdO P h o env (.ag cs):=λn K a=>by
 unfold aop; rw [b]; simp only; rw [f]; simp only [loadK,hT];first
  | exact ⟨by omega,by rw [jbm (by omega)]; exact a⟩
  | (rw [jbm (by omega)]; exact ⟨by omega,a⟩)
theorem aop.storeW {P:Yd} {env:Env} {h:AH} {n:Nat} {o:Oper} {T:Yc} {p x:Yf} {id k:Nat} {T':Yc} {e xs:Ya AV} {K:K3} (b:o.op = .store T p x) (hp:ev env p = .own id 0 0) (hB:h id=some (.cells k T' [e])) (f:kau (ev env x)=some xs) (hT:P.cellsOf T=xs.length) (hl:xs.length=e.length) (h0:xs.length≠0) (a:K .ud (updH h id (.cells k T' [xs])) n):aop P env h n o K:=by
 unfold aop; rw [b]; simp only; rw [hp]; simp only [kaR,hB,f];refine ⟨hT.symm,h0,by omega,?_⟩;rw [kaV (by omega)];have:e.take 0++xs++e.drop (0+xs.length)=xs:=by simp; omega
 rw [this];simpa using a
@[irreducible] def thenA (P:Program) (a:List (Option Tmp)) (l2:List Oper) (K:St->Prop) (st:St):Prop:=aops P a l2 st K
theorem thenA.of {P:Yd} {a:Ya (Yb Tmp)} {l2:Ya Oper} {K:St->Prop} {st:St} (h:aops P a l2 st K):thenA P a l2 K st:=by unfold thenA; exact h
theorem kqO {P:Yd} {b:Ya (Yb Tmp)} {l2:Ya Oper} {K:St->Prop} (f:Ya Oper) (st:St):aops P b (f++l2) st K=aops P b f st (thenA P b l2 K):=by
 have:thenA P b l2 K=λa=>aops P b l2 a K:=by funext a; unfold thenA; rfl
 rw [this];induction f generalizing st with
 | nil=>rfl
 | cons o r i=>simp only [jdi,aops,i]
theorem aop.callF {P:Yd} {env:Env} {h:AH} {n:Nat} {o:Oper} {c:Call} {f:Yf} {g:FuncId} {caps args:Ya AV} {R K:K3} (i:o.op = .call c) (k:c.callee = .value f) (b:ev env f = .fn g caps) (j:c.args.toList.map (ev env)++caps=args) (hp:HC P g args h n R) (a:∀ v h' n',R v h' n'->K v h' n'):aop P env h n o K:=by
 unfold aop; rw [i]; simp only; rw [k]; simp only [callK]; rw [b]; simp only; rw [j]; exact hp.mono a
theorem klq {P:Yd} {T k e:Yc} (hT:P.underlying T=some (.map k e)) (p:Yb Nat) (w:World):(Op.equal T (.map p) (.map none)).run P w = .ok p.isNone w:=by
 exact run_equal_map_nil w T k e p hT
theorem kvN {P:Yd} {h:AH} {T k e:Yc} {id:Nat} {a:Ya (Ye×AV)} (hT:P.underlying T=some (.map k e)) (hB:h id=some (.map a)):Cmp P h .neq T (.mp id) (.sc (.map none)) (·= true):=by
 intro w O μ n u v X Y hr j i;have:=i.sc_inv; subst this;obtain ⟨b,es,f,_⟩:=hr.blk id _ hB;cases j with
 | mp _ _ _ _ m=>
  obtain rfl:=m b 0 f;exact ⟨_,rfl,by simp [eqGuard,binOp,klq hT]⟩
theorem kve {P:Yd} {h:AH} {T k e:Yc} (hT:P.underlying T=some (.map k e)):Cmp P h .neq T (.sc (.map none)) (.sc (.map none)) (·= false):=by
 intro w O μ n u v X Y hr b a;have:=a.sc_inv; subst this;have:=b.sc_inv; subst this;exact ⟨_,rfl,by simp [eqGuard,binOp,klq hT]⟩
theorem rdO.idxMs {T e:Yc} {x i:Yf} {id len k:Nat} {T':Yc} {es:Ya (Ya AV)} {m:IntKind} {j:Nat} (p:o.op = .indexAddr T x i) (t:ev env x = .ms id 0 len) (r:ev env i = .sc (.int m j)) (hT:elemO P T=some e) (hB:h id=some (.cells k T' es)) (u:j<len) (a:k=P.cellsOf e) (b:k≠0):rdO P h o env (.own id j 0):=λn K f=>by
 unfold aop; rw [p]; simp only; rw [t,r]; simp only [kbn,hT,hB];exact ⟨jdr _,by omega,a,b,by simpa using f⟩
theorem rdO.cmpM {T p:Yc} {x y:Yf} {v:AV} {b:Bool} (i:o.op = .binOp .neq T x y p) (m:ev env x=v) (k:ev env y = .sc (.map none)) (f:Cmp P h .neq T v (.sc (.map none)) (·= b)) (j:v = .sc (.map none)\/∃ id,v = .mp id):rdO P h o env (.sc (.bool b)):=λn K a=>by
 unfold aop; rw [i]; simp only; rw [m,k];rcases j with rfl | ⟨id,rfl⟩
 ·exact ⟨_,f,λb' e=>e ▸ a⟩
 ·exact ⟨_,f,λb' e=>e ▸ a⟩
theorem rdO.fldFp {T:Yc} {x:Yf} {f d:Nat} {ft:Yc} {cs:Ya AV} (b:o.op = .fieldAddr T x f) (i:fldO P T f=some (d,ft)) (j:ev env x = .fp cs):rdO P h o env (.fp (cs.drop d)):=λn K a=>by
 unfold aop; rw [b]; simp only [i,j]; exact a
theorem aop.storeRow {T:Yc} {p x:Yf} {id k j:Nat} {T':Yc} {es:Ya (Ya AV)} {a b:AV} {K:K3} (i:o.op = .store T p x) (hp:ev env p = .own id j 0) (hB:h id=some (.cells k T' es)) (m:es[j]?=some [a]) (r:kau (ev env x)=some [b]) (hT:P.cellsOf T=1) (f:K .ud (updH h id (.cells k T' (es.set j [b]))) n):aop P env h n o K:=by
 unfold aop; rw [i]; simp only; rw [hp]; simp only [kaR,hB,r,m]; exact ⟨hT.symm,by simp,by simp,by simpa [putAt] using f⟩
def kiE (id:Nat):Code->Yb (Ya Oper)
 | .region i ops _=>if i=id then some ops.toList else none
 | .seq a b | .cond _ a b | .rangeFunc _ _ a b=>match kiE id a with | some l=>some l | none=>kiE id b
 | .block _ c | .loop c | .scope c=>kiE id c
 | _=>none
theorem khX {α:Type} {l:Ya α} {i:Nat} {a:α} (h:l[i]?=some a):l.set i a=l:=by
 refine jcu λj=>?_;by_cases b:i=j
 ·subst b; rw [jam (jac.1 h).1,h]
 ·rw [jan b]
theorem rdO.lenRow {P:Yd} {env:Env} {h:AH} {o:Oper} {c:Call} {x:Yf} {T:Yc} {v:AV} {m:Nat} (f:o.op = .call c) (r:c.callee = .builtin .len) (j:c.args = #[x]) (b:c.argTypes = #[T]) (i:ev env x=v) (hT:(elemO P T).isSome=true) (p:(v=nilS/\m=0)\/∃ id k T' es,v = .ms id 0 m/\h id=some (.cells k T' es)):rdO P h o env (.sc (.int .i64 m)):=λn K a=>by
 unfold aop; rw [f]; simp only; rw [r,j,b];show lenK P h T (ev env x) λm=>K (.sc (.int .i64 m)) h n;rw [i];rcases p with ⟨rfl,rfl⟩ | ⟨id,k,T',es,rfl,hB⟩
 ·exact ⟨hT,a⟩
 ·exact ⟨hT,by rw [hB]; rfl,λ_=>a⟩
theorem sup3 {h h':AH} {i:Nat} (f:∀ B,h i=some B->h' i=some B):Sup (keepH [i] h) h':=λq B a=>by
 unfold keepH at a;split at a
 ·rename_i b;have:q=i:=by simpa using b
  subst this; exact f B a
 ·cases a
theorem keep1 {h:AH} {i:Nat}:keepH [i] h i=h i:=by simp [keepH]
theorem ksw {α β:Type} {f:α->Yb β}:∀ {l:Ya α} {ys:Ya β},l.mapM f=some ys->ys.length=l.length/\∀ (m:Nat) (b:α),l[m]?=some b->∃ r,f b=some r/\ys[m]?=some r
 | [],ys,h=>by simp at h; subst h; simp
 | a::l,ys,h=>by
  rw [jdq] at h;obtain ⟨r,p,h⟩:=jaa.1 h;obtain ⟨rs,h2,h⟩:=jaa.1 h;cases h;obtain ⟨k,j⟩:=ksw h2;refine ⟨by simp [k],λm b i=>?_⟩;cases m with
  | zero=>simp at i; subst i; exact ⟨r,p,rfl⟩
  | succ m=>simpa using j m b (by simpa using i)
theorem aop.mkSl {P:Yd} {env:Env} {h:AH} {n:Nat} {o:Oper} {T e:Yc} {x y:Yf} {k f:IntKind} {m:Nat} {z:Ya AV} {K:K3} (i:o.op = .makeSlice T x y) (p:ev env x = .sc (.int k m)) (j:ev env y = .sc (.int f m)) (hm:(m:Int)<=1048576) (r:elemO P T=some e) (hz:zeroO P e=some z) (a:P.bytesOf e<=1024) (h0:z≠[]) (b:K (.ms n 0 m) (updH h n (.cells z.length e (List.replicate m z))) (n+1)):aop P env h n o K:=by
 unfold aop; rw [i]; simp only [r,hz]; rw [p,j]; simp only;exact ⟨trivial,jdr _,hm,a,h0,by simpa using b⟩
theorem keX {h:AH} {id a:Nat} {B:ABlk} (b:a≠id):updH h id B a=h a:=by simp only [updH,if_neg b]
theorem kwI {h:AH} {id:Nat} {B:ABlk} (h0:h id=none):delH (updH h id B) id=h:=by
 funext q;unfold delH updH;split
 ·rename_i e; rw [e,h0]
 ·rfl
end
end Go.Abs
namespace Go.Abs
open Go
def wi (a b n:Int):Bool:=decide (a<=n)&&decide (n<=b)
theorem kcJ {a b n:Int}:wi a b n=true↔a<=n/\n<=b:=by unfold wi; simp
theorem ksx {α:Type} (p:α->Bool) (l:Ya α):(l.any λx=>!p x) = !l.all p:=by
 induction l with
 | nil=>rfl
 | cons x l a=>simp only [List.any_cons,jdf,a,Bool.not_and]
theorem lenI_lt {α:Type} {l:Ya α} {i:Nat}:decide ((i:Int)<lenI l)=true↔i<l.length:=by rw [kaX,jaj]; omega
theorem kaC {α:Type} {l:Ya α}:¬ decide ((l.length:Int)<lenI l)=true:=by rw [lenI_lt]; omega
end Go.Abs
namespace Go.Abs
open Go Go.RowKit
inductive Sh where
 | int (k:IntKind)
 | bool
 | str
 | sl (e:Sh)
 | st (fs:List Sh)
def kfN (P:Yd):Ya Field->Nat->Nat->Bool
 | [],o,n=>o==n
 | f::fs,o,n=>f.offset==o&&kfN P fs (o+P.cellsOf f.type) n
def shapeOf (P:Yd):Nat->Yc->Yb Sh
 | 0,_=>none
 | d+1,t=>match P.underlying t with
  | some .bool=>some .bool
  | some (.int k)=>some (.int k)
  | some .string=>some .str
  | some (.slice e)=>if P.cellsOf e=0 then none else (shapeOf P d e).map .sl
  | some (.struct fs)=>if kfN P fs.toList 0 (P.cellsOf t) then (fs.toList.mapM λf=>shapeOf P d f.type).map .st else none
  | some (.array n e)=>if n*P.cellsOf e=P.cellsOf t then (shapeOf P d e).map λs=>.st (List.replicate n s) else none
  | _=>none
inductive Enc:Sh->List AV->Prop
 | int (k:IntKind) (n:Int) (h:(Lit.int k n).wf=true):Enc (.int k) [.sc (.int k n)]
 | bool (b:Bool):Enc .bool [.sc (.bool b)]
 | str (s:ByteArray) (h:s.size<=maxLen):Enc .str [.sc (.string s)]
 | sl (e:Sh) (es:List (List AV)) (h:∀ x∈es,Enc e x) (hl:es.length<=maxLen):Enc (.sl e) [.sl es]
 | nil:Enc (.st []) []
 | cons (s:Sh) (ss:List Sh) (a asZ:List AV) (h1:Enc s a) (h2:Enc (.st ss) asZ):Enc (.st (s::ss)) (a++asZ)
abbrev noO:Nat->Prop:=λ_=>False
def CR (w:World) (asZ:Ya AV) (cs:Ya Ye):Prop:=
 asZ.length=cs.length/\∀ (j:Nat) (a:AV),asZ[j]?=some a->a.one=true/\∃ v,cs[j]?=some v/\VR w noO mu0 0 a v
theorem CR.nil {w:World}:CR w [] []:=⟨rfl,λj a h=>by simp at h⟩
theorem CR.one {w:World} {a:AV} {v:Ye} (f:a.one=true) (h:VR w noO mu0 0 a v):CR w [a] [v]:=⟨rfl,λj x b=>by
 cases j with
 | zero=>simp at b; subst b; exact ⟨f,v,rfl,h⟩
 | succ j=>simp at b⟩
theorem CR.append {w:World} {asZ bs:Ya AV} {cs m:Ya Ye} (h:CR w asZ cs) (g:CR w bs m):CR w (asZ++bs) (cs++m):=by
 refine ⟨by simp [h.1,g.1],λj a b=>?_⟩;rw [jbr] at b;split at b
 ·rename_i f;obtain ⟨i,v,h2,k⟩:=h.2 j a b;exact ⟨i,v,by rw [jbt (by rw [<-h.1]; exact f)]; exact h2,k⟩
 ·rename_i p;obtain ⟨i,v,h2,k⟩:=g.2 _ a b;exact ⟨i,v,by rw [jcl (by rw [<-h.1]; omega),<-h.1]; exact h2,k⟩
theorem noAv (b:Nat):¬ Av noO mu0 b:=by
 rintro (h | ⟨_,_,h⟩)
 ·exact h
 ·cases h
section
variable {H:Type} {enc:Yc×Ye->H} {P:Yd} {w:World} {held:Bool}
theorem kmy {d i:Nat} (C:∀ (t:Yc) (B:Sh) (cs:Ya Ye) (x:DataW H×Ya MemPlace),shapeOf P d t=some B->DataW.trod enc P w 0 (λ_=>true) held i t cs=some x->∃ asZ,Enc B asZ/\CR w asZ cs) {cs:Ya Ye} :
  ∀ (k:Ya Field) (o:Nat) (b:Ya Sh) (xs:Ya (DataW H×Ya MemPlace)),kfN P k o cs.length=true->(k.mapM λf=>shapeOf P d f.type)=some b->
   (k.mapM λf=>DataW.trod enc P w 0 (λ_=>true) held i f.type ((cs.drop f.offset).take (P.cellsOf f.type)))=some xs->(∀ f∈k,f.offset+P.cellsOf f.type<=cs.length)->∃ asZ,Enc (.st b) asZ/\CR w asZ (cs.drop o)
 | [],o,b,xs,j,hs,hx,hle=>by
  simp [kfN] at j;simp at hs; subst hs;exact ⟨[],.nil,by rw [j]; simp; exact CR.nil⟩
 | f::k,o,b,xs,j,hs,hx,hle=>by
  simp only [kfN,jae,beq_iff_eq] at j;obtain ⟨rfl,j⟩:=j;simp only [jdq,Option.bind_eq_bind,jaa,Option.pure_def,Option.some.injEq] at hs hx;obtain ⟨s,u,A,v,rfl⟩:=hs;obtain ⟨y,F,ys,r,rfl⟩:=hx;obtain ⟨a,G,p⟩:=C _ _ _ _ u F;obtain ⟨asZ,has,m⟩:=kmy C k _ A ys j v r λg hg=>hle g (jbb _ hg);refine ⟨a++asZ,.cons s A a asZ G has,?_⟩;have e:cs.drop f.offset=(cs.drop f.offset).take (P.cellsOf f.type)++cs.drop (f.offset+P.cellsOf f.type):=by
   rw [<-List.drop_drop]; exact (List.take_append_drop _ _).symm
  rw [e];exact p.append m
theorem knV {P:Yd}:∀ (a:Ya Field) (o n:Nat),kfN P a o n=true->o<=n/\∀ f∈a,f.offset+P.cellsOf f.type<=n
 | [],o,n,h=>by simp [kfN] at h; exact ⟨by omega,λf b=>by simp at b⟩
 | f::a,o,n,h=>by
  simp only [kfN,jae,beq_iff_eq] at h;obtain ⟨i,h2⟩:=knV a _ _ h.2;refine ⟨by omega,λg hg=>?_⟩;rcases jat.1 hg with rfl | hg
  ·rw [h.1]; exact i
  ·exact h2 g hg
theorem koA {d b:Nat} (r:∀ (t:Yc) (f:Sh) (cs:Ya Ye) (x:DataW H×Ya MemPlace),shapeOf P d t=some f->DataW.trod enc P w 0 (λ_=>true) held b t cs=some x->∃ asZ,Enc f asZ/\CR w asZ cs) {e:Yc} {f:Sh} (k:shapeOf P d e=some f) (cs:Ya Ye) :
  ∀ (n o:Nat),(∀ i,i<n->∃ x,DataW.trod enc P w 0 (λ_=>true) held b e ((cs.drop ((o+i)*P.cellsOf e)).take (P.cellsOf e))=some x)->(o+n)*P.cellsOf e=cs.length->∃ asZ,Enc (.st (List.replicate n f)) asZ/\CR w asZ (cs.drop (o*P.cellsOf e))
 | 0,o,_,hl=>⟨[],.nil,by rw [show o*P.cellsOf e=cs.length by simpa using hl]; simp; exact CR.nil⟩
 | n+1,o,h,hl=>by
  obtain ⟨x,p⟩:=h 0 (by omega);simp only [Nat.add_zero] at p;obtain ⟨a,v,m⟩:=r _ _ _ _ k p;obtain ⟨asZ,has,j⟩:=koA r k cs n (o+1) (λi y=>by rw [show o+1+i=o+(i+1) by omega]; exact h (i+1) (by omega)) (by rw [<-hl]; congr 1; omega);refine ⟨a++asZ,.cons f _ a asZ v has,?_⟩;have u:cs.drop (o*P.cellsOf e)=(cs.drop (o*P.cellsOf e)).take (P.cellsOf e)++cs.drop ((o+1)*P.cellsOf e):=by
   rw [jca,Nat.one_mul,<-List.drop_drop]; exact (List.take_append_drop _ _).symm
  rw [u];exact m.append j
theorem kqd:∀ (d:Nat) (r:Nat) (t:Yc) (Z:Sh) (cs:Ya Ye) (x:DataW H×Ya MemPlace),shapeOf P d t=some Z->DataW.trod enc P w 0 (λ_=>true) held r t cs=some x->∃ asZ,Enc Z asZ/\CR w asZ cs
 | 0,_,_,_,_,_,h,_=>by cases h
 | d+1,0,t,Z,cs,x,_,m=>by simp [DataW.trod] at m
 | d+1,r+1,t,Z,cs,x,h,m=>by
  have ih:=λt Z cs x=>kqd d r t Z cs x;simp only [shapeOf] at h;unfold DataW.trod at m;cases hu:P.underlying t with
  | none=>simp [hu] at h
  | some u=>
   simp only [hu] at h m;cases u <;> simp only [reduceCtorEq] at h;case bool=>
    cases h;split at m <;> simp only [reduceCtorEq,Option.some.injEq,TypeDesc.int.injEq] at * <;> try contradiction
    rename_i b _;exact ⟨_,.bool b,CR.one rfl (.sc _ rfl)⟩
   case int k=>
    cases h;split at m <;> simp only [reduceCtorEq,Option.some.injEq,TypeDesc.int.injEq] at * <;> try contradiction
    rename_i C;subst C;split at m
    ·rename_i hc;obtain ⟨rfl,hw⟩:=hc;exact ⟨_,.int _ _ hw,CR.one rfl (.sc _ rfl)⟩
    ·cases m
   case string=>
    cases h;split at m <;> simp only [reduceCtorEq,Option.some.injEq] at * <;> try contradiction
    split at m
    ·rename_i hc;exact ⟨_,.str _ hc,CR.one rfl (.sc _ rfl)⟩
    ·cases m
   case slice e=>
    split at h
    ·cases h
    rename_i hk;cases B:shapeOf P d e with
    | none=>simp [B] at h
    | some I=>
    simp only [B,jcf,Option.some.injEq] at h;subst h;split at m <;> simp only [reduceCtorEq,Option.some.injEq,TypeDesc.slice.injEq] at * <;> try contradiction
    ·exact ⟨_,.sl I [] (λx m=>by simp at m) (by simp),CR.one rfl (.slnil none)⟩
    ·rename_i a len cap C;subst C;split at m
     ·rename_i hb;obtain ⟨R,he,m⟩:=jaa.1 m;simp only [if_true] at m;obtain ⟨rest,J,-⟩:=jad.1 m;have ao:=mapM_some_length he;have an:=mapM_some_length J;simp only [List.length_range] at ao an;have ad:∀ i:Nat,∃ p:Ya Ye×Ya AV,i<cap->w.cells? 0 (a.add (i*P.cellsOf e)) (P.cellsOf e)=some p.1/\Enc I p.2/\CR w p.2 p.1:=by
       intro i;by_cases A:i<cap
       ·have:∃ y,((w.cells? 0 (a.add (i*P.cellsOf e)) (P.cellsOf e)).bind (DataW.trod enc P w 0 (λ_=>true) held r e))=some y:=by
         by_cases ap:i<len
         ·have:=mapM_some_get he i i (by simp [ap]);exact ⟨R[i]'(by omega),by rw [this]; exact jab _⟩
         ·have:=mapM_some_get J (i-len) (i-len) (by rw [List.getElem?_range (by omega)]);rw [show len+(i-len)=i by omega] at this;exact ⟨rest[i-len]'(by omega),by rw [this]; exact jab _⟩
        obtain ⟨y,hy⟩:=this;obtain ⟨af,hc,hy⟩:=jaa.1 hy;obtain ⟨asZ,g1,g2⟩:=ih e I af y B hy;exact ⟨(af,asZ),λ_=>⟨hc,g1,g2⟩⟩
       ·exact ⟨([],[]),λh=>absurd h A⟩
      obtain ⟨F,hF⟩:=Classical.axiomOfChoice ad;by_cases aa:cap=0
      ·subst aa;obtain rfl:len=0:=by omega
       exact ⟨[.sl []],.sl I [] (λx m=>by simp at m) (by simp),CR.one rfl (.slnil _)⟩
      ·have U:a.spot=none:=by
        obtain ⟨C,-,-⟩:=hF 0 (by omega);obtain ⟨-,h2,h3⟩:=World.cells?_some C;have h4:=h3 0 (by omega);rw [jab (by omega)] at h4;have:=World.cell?_spot h4;simpa [Addr.add] using this
       obtain ⟨b,o,aq⟩:=a;subst U;have ab:((List.range len).map λi=>(F i).2).length=len:=by simp
       have ac:∀ (i:Nat) (c:Ya AV),((List.range len).map λi=>(F i).2)[i]?=some c->i<len/\c=(F i).2:=λi c A=>by
        simp only [jaq,jad] at A;obtain ⟨i',S,rfl⟩:=A;have X:i<len:=by have:=(jac.1 S).1; simpa using this
        rw [List.getElem?_range X] at S;cases S;exact ⟨X,rfl⟩
       have G:∀ (i:Nat) (c:Ya AV),((List.range len).map λi=>(F i).2)[i]?=some c->c.length=P.cellsOf e/\∀ (j:Nat) (x:AV),c[j]?=some x->x.one=true/\w.cell? ⟨b,o+i*P.cellsOf e+j,none⟩=some (((F i).1[j]?).getD undef)/\VR w noO mu0 0 x (((F i).1[j]?).getD undef):=λi c A=>by
        obtain ⟨X,rfl⟩:=ac i c A;obtain ⟨C,h2,h3,h4⟩:=hF i (by omega);obtain ⟨-,h5,h6⟩:=World.cells?_some C;refine ⟨by omega,λj x M=>?_⟩;obtain ⟨g1,v,g2,g3⟩:=h4 j x M;have ar:=(jac.1 M).1;have h7:=h6 j (by omega);rw [keY,keY] at h7;rw [h7,g2];exact ⟨g1,rfl,g3⟩
       refine ⟨[.sl ((List.range len).map λi=>(F i).2)],.sl I _ (λx m=>?_) (by omega),CR.one rfl ?_⟩
       ·simp only [jaz,jcp] at m;obtain ⟨i,A,rfl⟩:=m;exact (hF i (by omega)).2.1
       ·have K:=VR.sl (w:=w) (O:=noO) (μ:=mu0) (n:=0) ((List.range len).map λi=>(F i).2) b o cap (P.cellsOf e) (λi j=>((F i).1[j]?).getD undef) (by omega) (by omega) (λ_ _ _ _=>noAv b)
         (λi c A=>(G i c A).1) (λi c A j x M=>((G i c A).2 j x M).2.1) (λi c A j x M=>((G i c A).2 j x M).1) (λi c A j x M=>((G i c A).2 j x M).2.2)
        rw [ab] at K;exact K
     ·cases m
   case struct fs=>
    split at h
    ·rename_i ho;cases Y:fs.toList.mapM λf=>shapeOf P d f.type with
     | none=>rw [Y] at h; cases h
     | some ak=>
     rw [Y] at h;cases h;split at m <;> simp only [reduceCtorEq,Option.some.injEq,TypeDesc.struct.injEq] at * <;> try contradiction
     ·rename_i C;subst C;split at m
      ·rename_i hl;obtain ⟨xs,L,-⟩:=jad.1 m;obtain ⟨asZ,C,h2⟩:=kmy ih fs.toList 0 ak xs (by rw [hl]; exact ho) Y L (by rw [hl]; exact (knV _ _ _ ho).2);exact ⟨asZ,C,by simpa using h2⟩
      ·cases m
     ·exact (‹∀ ae:Array Field,fs=ae->False› _ rfl).elim
    ·cases h
   case array n e=>
    split at h
    ·rename_i ho;cases B:shapeOf P d e with
     | none=>rw [B] at h; cases h
     | some I=>
     rw [B] at h;cases h;split at m <;> simp only [reduceCtorEq,Option.some.injEq,TypeDesc.array.injEq] at * <;> try contradiction
     ·rename_i C;obtain ⟨rfl,rfl⟩:=C;split at m
      ·rename_i hl;obtain ⟨xs,L,-⟩:=jad.1 m;rename_i ai _ _;have al:=mapM_some_length L;simp only [List.length_range] at al;have am:∀ i,i<n->∃ x,DataW.trod enc P w 0 (λ_=>true) held r e ((List.drop ((0+i)*P.cellsOf e) ai).take (P.cellsOf e))=some x:=λi A=>by
        have:=mapM_some_get L i i (by simp [A]);rw [jcb,this];exact ⟨_,jab (by omega)⟩
       obtain ⟨asZ,C,h2⟩:=koA ih B _ n 0 am (by rw [hl,<-ho]; simp);exact ⟨asZ,C,by simpa using h2⟩
      ·cases m
     ·exact (‹∀ (ah:Nat) (aj:Yc),n=ah/\e=aj->False› _ _ ⟨rfl,rfl⟩).elim
    ·cases h
end
end Go.Abs
namespace Go.Abs
open Go Go.RowKit Go.ChangeShapes Go.WideShapes
def EncP:Sh->AV->Prop
 | .st fs,a=>∃ asZ,a = .ag asZ/\Enc (.st fs) asZ
 | s,a=>Enc s [a]
def EncPs:Ya Sh->Ya AV->Prop
 | [],[]=>True
 | s::ss,a::asZ=>EncP s a/\EncPs ss asZ
 | _,_=>False
section
variable {H:Type} {enc:Yc×Ye->H} {P:Yd} {W:World}
theorem EncP.of_one {b:Sh} {a:AV} (h:Enc b [a]) (i:∀ f,b≠.st f):EncP b a:=by
 cases b <;> first | exact h | exact absurd rfl (i _)
theorem CR.ag {asZ:Ya AV} {cs:Array Ye} (h:CR W asZ cs.toList):VR W noO mu0 0 (.ag asZ) (.agg cs):=by
 refine .ag asZ cs (λj=>cs.getD j undef) (by simpa using h.1.symm) (λj c a=>?_) (λj c a=>(h.2 j c a).1) (λj c a=>?_);all_goals
  obtain ⟨f,v,h2,b⟩:=h.2 j c a;rw [jcw] at h2;simp only [jah,h2,jbw]
 exact b
theorem ktN {d:Nat} {t:Yc} {m:Sh} {v:Ye} {x:DataW H} {p:Ya MemPlace} {r:Reach} {b:Nat} (i:shapeOf P d t=some m) (C:Value.okWide P W r b t v) (J:DataW.Trod enc P W 0 (λ_=>true) true t v x p) :
  ∃ a,EncP m a/\VR W noO mu0 0 a v:=by
 obtain ⟨G,K⟩:=J;obtain ⟨asZ,y,h2⟩:=kqd d G t m _ _ i K;have f:∀ {m:Sh} {u:Ye},Enc m asZ->CR W asZ [u]->(∀ F,m≠.st F)->∃ a,EncP m a/\VR W noO mu0 0 a u:=by
  intro m u I B L;match asZ,I,B with
  | [a],I,B=>
   obtain ⟨_,v,e,g⟩:=B.2 0 a rfl;simp at e; subst e;exact ⟨a,.of_one I L,g⟩
  | [],_,B=>have:=B.1; simp at this
  | _::_::_,_,B=>have:=B.1; simp at this
 cases d with
 | zero=>cases i
 | succ d=>
  simp only [shapeOf] at i;cases A:P.underlying t with
  | none=>simp [A] at i
  | some u=>
   simp only [A] at i;cases u <;> simp only [reduceCtorEq] at i;case bool=>obtain ⟨b,rfl⟩:=okWide_bool A C; cases i; exact f y (by simpa [Value.cells] using h2) (by simp)
   case int k=>obtain ⟨b,rfl⟩:=okWide_int A C; cases i; exact f y (by simpa [Value.cells] using h2) (by simp)
   case string=>obtain ⟨b,rfl⟩:=okWide_string A C; cases i; exact f y (by simpa [Value.cells] using h2) (by simp)
   case slice e=>
    obtain ⟨a,len,cap,rfl⟩:=okWide_slice A C;have:∀ F,m≠.st F:=by
     rintro F rfl;split at i
     ·cases i
     ·obtain ⟨_,_,h⟩:=jad.1 i; cases h
    exact f y (by simpa [Value.cells] using h2) this
   case struct F=>
    obtain ⟨cs,rfl,_⟩:=okWide_struct A C;obtain ⟨j,rfl⟩:∃ j,m = .st j:=by
     split at i
     ·obtain ⟨s,_,h⟩:=jad.1 i; exact ⟨s,h.symm⟩
     ·cases i
    exact ⟨.ag asZ,⟨asZ,rfl,y⟩,CR.ag (by simpa [Value.cells] using h2)⟩
   case array n e=>
    obtain ⟨cs,rfl,_⟩:∃ cs,v = .agg cs/\cs.size=P.cellsOf t:=by
     simp only [Value.okWide,A] at C;obtain ⟨cs,y,h2,_⟩:=C;exact ⟨cs,y,h2⟩
    obtain ⟨j,rfl⟩:∃ j,m = .st j:=by
     split at i
     ·obtain ⟨s,_,h⟩:=jad.1 i; exact ⟨_,h.symm⟩
     ·cases i
    exact ⟨.ag asZ,⟨asZ,rfl,y⟩,CR.ag (by simpa [Value.cells] using h2)⟩
theorem kmn {d:Nat} {r:Reach} {b:Nat}:∀ {ts:Ya Yc} {f:Ya Sh} {vs:Ya Ye} {i:Ya (DataW H)} {m:Ya MemPlace},ts.mapM (shapeOf P d)=some f->
  (∀ (j:Nat) t v,ts[j]?=some t->vs[j]?=some v->Value.okWide P W r b t v)->DataW.TrodAll enc P W 0 (λ_=>true) true ts vs i m->
  ∃ asZ,EncPs f asZ/\vs.length=asZ.length/\i.length=ts.length/\∀ (j:Nat) (c:AV),asZ[j]?=some c->∃ u,vs[j]?=some u/\VR W noO mu0 0 c u
 | [],f,vs,i,m,hs,hv,ht=>by
  simp at hs; subst hs;cases vs <;> cases i <;> simp [DataW.TrodAll] at ht;exact ⟨[],trivial,rfl,rfl,λj c k=>by simp at k⟩
 | t::ts,f,vs,i,m,hs,hv,ht=>by
  simp only [jdq,Option.bind_eq_bind,jaa,Option.pure_def,Option.some.injEq] at hs;obtain ⟨s,y,U,A,rfl⟩:=hs;obtain ⟨v,L,X,G,p,q,rfl,rfl,rfl,F,h2⟩:=trodAll_cons ht;obtain ⟨a,J,B⟩:=ktN y (hv 0 t v rfl rfl) F;obtain ⟨asZ,C,K,S,M⟩:=kmn A (λj t v R I=>hv (j+1) t v (by simpa using R) (by simpa using I)) h2;refine ⟨a::asZ,⟨J,C⟩,by simp [K],by simp [S],λj c k=>?_⟩;cases j with
  | zero=>simp at k; subst k; exact ⟨v,rfl,B⟩
  | succ j=>simpa using M j c (by simpa using k)
theorem kjx (hl:laidOutB P=true) {m:World} (k:Below W.heap.size W m):∀ {ts:Ya Yc} {vs:Ya Ye} {f:Ya (DataW H)} {a:Ya MemPlace},(∀ t∈ts,P.readableRec t=true/\t<P.types.size)->
  DataW.TrodAll enc P W 0 (λ_=>true) true ts vs f a->(∀ x∈a,x.block<W.heap.size)->DataW.TrodAll enc P m 0 (λb=>decide (b<W.heap.size)) true ts vs f a
 | [],vs,f,a,_,h,_=>by cases vs <;> cases f <;> simp [DataW.TrodAll] at h ⊢; exact h
 | t::ts,vs,f,a,hr,h,hlt=>by
  obtain ⟨v,A,d,y,p,q,rfl,rfl,rfl,u,h2⟩:=trodAll_cons h;obtain ⟨r,r2⟩:=hr t (by simp);exact ⟨p,q,Below.trod hl r r2 u k λx j=>hlt x (by simp [j]),kjx hl k (λt' i=>hr t' (by simp [i])) h2 λx j=>hlt x (by simp [j]),rfl⟩
theorem law_lifted {C:Checked} {os:Os} {f:FuncId} {fn:Func} {s:ChangeSpec} (own:ownKnob C.prog.godebug=none) (a:os.Started) (G:laidOutB C.prog=true) (noInit:C.prog.inits.idxOf? f=none) (S:C.prog.funcs[f]?=some fn)
  (m:∃ (w:World) (tape:Tape) (i:Input),w.os=os/\(w.forCall tape i).Shaped C.prog/\i.vars=[]/\Input.okWide C.prog (w.forCall tape i) .any w.heap.size f i/\
   s.pre6 enc C.prog fn [] false (w.forCall tape i).memory i.args/\({}:Assume).holds C.prog (lone (Frame.enter C.prog f i.args .normal) [] (w.forCall tape i)))
  (k:s.vars=[]) (r:∀ B:Ya (DataW H),B.length=fn.params.toList.length->s.fn H B = { results:=[.lit (.bool true)],args:=B })
  {tb:Yc} (J:fn.resultTypes = #[tb]) (Y:C.prog.underlying tb=some .bool) {d:Nat} {F:Ya Sh} (R:fn.params.toList.mapM (shapeOf C.prog d)=some F)
  (y:fn.params.toList.all (λt=>C.prog.readableRec t&&decide (t<C.prog.types.size))=true) (pc:∀ asZ,EncPs F asZ->PC C.prog f asZ (·= .sc (.bool true))) :
  ReturnsInHanded {} C os f .any (s.pre6 enc C.prog fn [] false) (s.post enc C.prog fn false true false false):=by
 refine returnsInHanded_of_change own a noInit S m ?_;intro W base args B gs K I hW U _;have hW':=hW;obtain ⟨p,q,hA,hV,rfl,ab,aa⟩:=hW;rw [k] at hV;obtain ⟨rfl,rfl⟩:=trodVars_none hV;obtain ⟨asZ,h1,h2,h3,Z⟩:=kmn R (λj t v e1 e2=>I j t v (by simpa using e1) (by simpa using e2)) hA;refine ((pc asZ h1).2 noO W args (λb h=>h.elim) (by simpa using h2) (λj c hj=>by simpa using Z j c hj)).mono ?_;rintro e W' ⟨u,v,rfl,rfl,hu,hB,_⟩;have M:=hu.bool_inv;subst M;have L:∀ x∈p,x.block<W.heap.size:=λx hx=>by simpa using hW'.lt x (List.mem_append_left _ hx)
 have A:=r B h3;refine ⟨_,rfl,B,[],p++[],[],p,[],hW',?_,?_,?_,hB.frame _,λh=>by cases h⟩
 ·rw [jbg,A,J];exact trodAll_mk1 (shut_bool Y true)
 ·rw [jbg,A];exact kjx G hB (λt X=>by have:=jao.1 y t X; simpa only [jae,jaj] using this) hA L
 ·rw [k,jbg,A];rfl
end
end Go.Abs
namespace Go.Abs
open Go
def Dec {α:Type} (a:Sh) (f:α->Ya AV) (ok:α->Prop):Prop:=∀ asZ,Enc a asZ->∃ x,asZ=f x/\ok x
def okI (k:IntKind) (n:Int):Prop:=(Lit.int k n).wf=true
def okS (l:Ya UInt8):Prop:=l.length<=maxLen
def okL {α:Type} (ok:α->Prop) (l:Ya α):Prop:=l.length<=maxLen/\∀ x∈l,ok x
theorem kvY:Dec .str str1 okS:=λasZ h=>by
 cases h with
 | str s h=>exact ⟨s.data.toList,by simp,by simpa [okS] using h⟩
theorem kxb {α:Type} {e:Sh} {f:α->Ya AV} {ok:α->Prop} (h:Dec e f ok):Dec (.sl e) (sl1 f) (okL ok):=λasZ m=>by
 cases m with
 | sl _ es p hl=>
  have:∀ es:Ya (Ya AV),(∀ x∈es,Enc e x)->∃ l:Ya α,es=l.map f/\∀ x∈l,ok x:=by
   intro es;induction es with
   | nil=>exact λ_=>⟨[],rfl,λx k=>by cases k⟩
   | cons a es r=>
    intro h2;obtain ⟨x,rfl,j⟩:=h a (h2 a (by simp));obtain ⟨l,rfl,i⟩:=r λy b=>h2 y (by simp [b]);exact ⟨x::l,rfl,λy b=>by
     rcases jat.1 b with rfl | b
     ·exact j
     ·exact i y b⟩
  obtain ⟨l,rfl,i⟩:=this es p;exact ⟨l,rfl,by simpa using hl,i⟩
theorem knK {asZ:Ya AV} (h:Enc (.st []) asZ):asZ=[]:=by cases h; rfl
theorem kiS {s:Sh} {b:Ya Sh} {bs:Ya AV} (h:Enc (.st (s::b)) bs):∃ a asZ,bs=a++asZ/\Enc s a/\Enc (.st b) asZ:=by
 cases h with
 | cons _ _ a asZ f h2=>exact ⟨a,asZ,rfl,f,h2⟩
theorem koE {xs:Ya AV} (h:EncPs [] xs):xs=[]:=by cases xs with | nil=>rfl | cons _ _=>exact h.elim
theorem kmY {s:Sh} {b:Ya Sh} {xs:Ya AV} (h:EncPs (s::b) xs):∃ a asZ,xs=a::asZ/\EncP s a/\EncPs b asZ:=by
 cases xs with
 | nil=>exact h.elim
 | cons a asZ=>exact ⟨a,asZ,rfl,h.1,h.2⟩
end Go.Abs
namespace Go.Abs
open Go Go.RowKit
def okT:(t:Ty)->t.den->Prop
 | .i k,n=>okI k n
 | .s,l=>okS l
 | .sl t,l=>okL (okT t) l
 | .pr t u,x=>okT t x.1/\okT u x.2
 | .w t,x=>okT t x
 | _,_=>True
def okTs:(ts:Ya Ty)->(tup ts).den->Prop
 | [],_=>True
 | [t],x=>okT t x
 | t::u::ts,x=>okT t x.1/\okTs (u::ts) x.2
mutual
def shOk:Sh->Ty->Bool
 | .int k,.i k'=>k==k'
 | .bool,.b=>true
 | .str,.s=>true
 | .sl e,.sl t=>shOk e t
 | .st [],.un=>true
 | .st [f],.w t=>shOk f t
 | .st (f::g::fs),.pr t u=>shOk f t&&stOk (g::fs) u
 | _,_=>false
def stOk:Ya Sh->Ty->Bool
 | [f],t=>shOk f t
 | f::fs,.pr t u=>shOk f t&&stOk fs u
 | _,_=>false
end
mutual
theorem khm:∀ (r:Sh) (t:Ty),shOk r t=true->Dec r t.enc (okT t)
 | .int k,.i k',h=>by
  simp only [shOk,beq_iff_eq] at h;subst h;intro asZ j;cases j with | int _ n h=>exact ⟨n,rfl,h⟩
 | .bool,.b,_=>by
  intro asZ j;cases j with | bool b=>exact ⟨b,rfl,trivial⟩
 | .str,.s,_=>kvY
 | .sl e,.sl t,h=>kxb (khm e t (by simpa [shOk] using h))
 | .st [],.un,_=>λasZ j=>⟨(),knK j,trivial⟩
 | .st [f],.w t,h=>λasZ j=>by
  obtain ⟨a,bs,rfl,p,h2⟩:=kiS j;cases knK h2;obtain ⟨x,rfl,m⟩:=khm f t (by simpa [shOk] using h) a p;exact ⟨x,by rw [jbg]; rfl,m⟩
 | .st (f::g::fs),.pr t u,h=>λasZ j=>by
  simp only [shOk,jae] at h;obtain ⟨a,bs,rfl,p,h2⟩:=kiS j;obtain ⟨x,rfl,m⟩:=khm f t h.1 a p;obtain ⟨y,rfl,v⟩:=kuC (g::fs) u h.2 bs h2;exact ⟨(x,y),rfl,m,v⟩
theorem kuC:∀ (b:Ya Sh) (t:Ty),stOk b t=true->∀ asZ,Enc (.st b) asZ->∃ x,asZ=t.enc x/\okT t x
 | [f],t,h,asZ,ha=>by
  obtain ⟨a,bs,rfl,j,h2⟩:=kiS ha;cases knK h2;obtain ⟨x,rfl,i⟩:=khm f t (by simpa [stOk] using h) a j;exact ⟨x,by rw [jbg],i⟩
 | f::g::b,.pr t u,h,asZ,ha=>by
  simp only [stOk,jae] at h;obtain ⟨a,bs,rfl,j,h2⟩:=kiS ha;obtain ⟨x,rfl,i⟩:=khm f t h.1 a j;obtain ⟨y,rfl,k⟩:=kuC (g::b) u h.2 bs h2;exact ⟨(x,y),rfl,i,k⟩
end
theorem ksv {j:Sh} {t:Ty} (h:shOk j t=true) {a:AV} (k:EncP j a):∃ x,t.dat=true->a=t.av x/\okT t x:=by
 cases j with
 | st b=>
  obtain ⟨asZ,rfl,p⟩:=k;obtain ⟨x,rfl,i⟩:=khm (.st b) t h asZ p;refine ⟨x,λ_=>⟨?_,i⟩⟩;have:t.agg=true:=by
   cases t <;> first | rfl | (cases b with
    | nil=>simp [shOk] at h
    | cons f b=>cases b <;> simp [shOk] at h)
  rw [ked this]
 | _=>
  obtain ⟨x,e,i⟩:=khm _ t h [a] k;refine ⟨x,λm=>⟨?_,i⟩⟩;have:t.agg=false:=by
   cases t <;> first | rfl | simp [shOk] at h
  have:=keg (x:=x) this m;rw [<-e] at this;exact (List.cons.inj this).1
def shsOk:Ya Sh->Ya Ty->Bool
 | [],[]=>true
 | s::ss,t::ts=>shOk s t&&t.dat&&shsOk ss ts
 | _,_=>false
theorem decPs {P:Yd}:∀ {f:Ya Sh} {ts:Ya Ty} {xs:Ya AV},shsOk f ts=true->EncPs f xs->∃ x:(tup ts).den,AR P ts x xs/\okTs ts x
 | [],[],xs,h,he=>by cases koE he; exact ⟨(),rfl,trivial⟩
 | s::b,[t],xs,h,he=>by
  simp only [shsOk,jae] at h;obtain ⟨a,asZ,rfl,i,h2⟩:=kmY he;cases b with
  | cons s' b=>simp [shsOk] at h
  | nil=>
   cases koE h2;obtain ⟨x,k⟩:=ksv h.1.1 i;obtain ⟨rfl,j⟩:=k h.1.2;exact ⟨x,⟨_,rfl,(kaZ h.1.2).2 rfl⟩,j⟩
 | s::b,t::u::ts,xs,h,he=>by
  rw [show shsOk (s::b) (t::u::ts)=(shOk s t&&t.dat&&shsOk b (u::ts)) from rfl] at h;simp only [jae] at h;obtain ⟨a,asZ,rfl,i,h2⟩:=kmY he;obtain ⟨x,k⟩:=ksv h.1.1 i;obtain ⟨rfl,j⟩:=k h.1.2;obtain ⟨y,p,m⟩:=decPs (ts:=u::ts) h.2 h2;exact ⟨(x,y),⟨_,_,rfl,(kaZ h.1.2).2 rfl,p⟩,j,m⟩
 | [],_::_,xs,h,he=>by simp [shsOk] at h
 | _::_,[],xs,h,he=>by simp [shsOk] at h
theorem okI_u8 {n:Int} (h:okI .u8 n):0<=n:=by
 simp [okI,Lit.wf,IntKind.min,IntKind.max,IntKind.signed,IntKind.bits] at h;omega
theorem law_of {P:Yd} {g:FuncId} {C:Ctr} (hG:Good P g C) {a:Ya Sh} (i:shsOk a C.asZ=true) (hF:∀ x,okTs C.asZ x->∃ r,C.F x=some r/\rav C.rs r = .sc (.bool true)) (xs:Ya AV) (h0:EncPs a xs):PC P g xs (·= .sc (.bool true)):=by
 obtain ⟨x,j,b⟩:=decPs (P:=P) i h0;obtain ⟨r,hr,f⟩:=hF x b;have:=hG.2.1 x r hr xs j;rw [f] at this;exact this
end Go.Abs
