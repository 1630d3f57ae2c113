/- The machinery, part 7. -/
import Derived.Shelf.Strings.Builder1
import Derived.Shelf.Strconv.Itoa3
import Derived.ProofKit
import Derived.LaidMore
import Derived.OpenShut
import Derived.Stop.Joined
import Derived.Stop.LaidErr
import Derived.Lib.LaidTab
import Derived.Test.YtnehmnlcliflfaaDoorZ1
import Derived.Test.YtnehmnlcliflfaaDoorZ2
import Derived.Test.YtnehmnlcliflfaaDoorZ3
import Derived.Test.YtnehmnlcliflfaaDoorZ6
set_option linter.constructorNameAsVariable false
set_option linter.unusedVariables false
set_option linter.unusedSimpArgs false
set_option linter.unusedSectionVars false
namespace Go.Abs
open Go Go.RowKit
section
variable {P:Ye} {κ κ':Nat->Yb Nat} {ln ln':Nat->Nat} {z z':AH} {c:Cx sem} {s:TS sem} {env:Env} {h:AH} {n N N':Nat}
def tiedD:TV sem->Bool
 | .mw _ | .ptr _ _ | .mp _ | .fw _=>true
 | _=>false
theorem TVR.det {v:TV sem} {a a':AV} (k:tiedD v=true) (h:TVR P κ ln z N v a) (h':TVR P κ' ln' z' N' v a') (f:∀ id,v.has id=true->κ' id = κ id/\ln' id=ln id):a'=a:=by
 cases v <;> simp only [tiedD,jal] at k
 ·rename_i id j;obtain ⟨b,e⟩:=f id (by simp [TV.has]);obtain ⟨q,k1,rfl⟩:=h.ptr_inv;obtain ⟨i,k2,rfl⟩:=h'.ptr_inv;rw [b,k1] at k2; cases k2; rfl
 ·rename_i id;obtain ⟨b,e⟩:=f id (by simp [TV.has]);cases h with
  | mw0 _ _ k1=>cases h' with
   | mw0=>rfl
   | mw _ q _ k2=>rw [b,k1] at k2; cases k2
  | mw _ q _ k1=>cases h' with
   | mw0 _ _ k2=>rw [b,k1] at k2; cases k2
   | mw _ i _ k2=>rw [b,k1] at k2; cases k2; rw [e]
 ·rename_i id;obtain ⟨b,e⟩:=f id (by simp [TV.has]);obtain ⟨q,k1,rfl⟩:=h.mp_inv;obtain ⟨i,k2,rfl⟩:=h'.mp_inv;rw [b,k1] at k2; cases k2; rfl
 ·rename_i id;obtain ⟨b,e⟩:=f id (by simp [TV.has]);cases h with
  | fw0 _ _ k1=>cases h' with
   | fw0=>rfl
   | fw _ q _ k2=>rw [b,k1] at k2; cases k2
  | fw _ q _ k1=>cases h' with
   | fw0 _ _ k2=>rw [b,k1] at k2; cases k2
   | fw _ i _ k2=>rw [b,k1] at k2; cases k2; rw [e]
theorem khE:∀ (ks:Ya (Yb Ty)) {l:Ya ((t:Ty)×t.den)} {asZ:Ya AV} (k:Nat),PArgs P ks l asZ->∀ x v,alk (kaT (A:=sem) ks l k) x=some v->k<=x/\TVR P κ ln z N v (lk ((asZ.zipIdx k).map λ(v,i)=>(i,v)) x)
 | [],l,asZ,k,h,x,v,hv=>by simp [kaT,alk] at hv
 | some t::ks,[],asZ,k,h,x,v,hv=>by simp [kaT,alk] at hv
 | some t::ks,p::l,[],k,h,x,v,hv=>by simp [PArgs] at h
 | none::ks,l,[],k,h,x,v,hv=>by cases l <;> simp [PArgs] at h
 | some t::ks,p::l,a::asZ,k,h,x,v,hv=>by
  obtain ⟨j,h2⟩:=h;simp only [kaT,alk] at hv;simp only [jch,jat,lk];by_cases e:x=k
  ·rw [if_pos e] at hv; cases hv;rw [if_pos e];refine ⟨by omega,?_⟩;obtain ⟨t,y⟩:=p;cases t <;> first | exact .cv _ _ _ _ _ j | (obtain ⟨f,rfl⟩:=j; exact .c _ _ _ f (.free _ (keV _ _ f)))
  ·rw [if_neg e] at hv;rw [if_neg e];obtain ⟨m,b⟩:=khE ks (k+1) h2 x v hv;exact ⟨by omega,b⟩
 | none::ks,l,a::asZ,k,h,x,v,hv=>by
  have h2:PArgs P ks l asZ:=by cases l <;> exact h
  simp only [kaT] at hv;simp only [jch,jat,lk];obtain ⟨m,b⟩:=khE ks (k+1) h2 x v hv;rw [if_neg (by omega)];exact ⟨by omega,b⟩
theorem khy:∀ (ks:Ya (Yb Ty)) (k x:Nat),x∈kcz ks k->x<k+ks.length
 | [],k,x,h=>by cases h
 | some t::ks,k,x,h=>by
  simp only [kcz,jbu] at h;simp only [jbv];rcases h with rfl | h
  ·omega
  ·have:=khy ks (k+1) x h; omega
 | none::ks,k,x,h=>by
  simp only [kcz] at h;simp only [jbv];have:=khy ks (k+1) x h; omega
theorem koG:∀ (asZ:Ya AV) (k x:Nat),k+asZ.length<=x->lk ((asZ.zipIdx k).map λ(v,i)=>(i,v)) x = .un
 | [],k,x,h=>rfl
 | a::asZ,k,x,h=>by
  simp only [jbv] at h;simp only [jch,jat,lk];rw [if_neg (by omega),koG asZ (k+1) x (by omega)]
theorem kqe {asZ:Ya AV} {x:Nat} (h:asZ.length<=x):lk (kap asZ) x = .un:=koG asZ 0 x (by omega)
theorem keh:∀ (ks:Ya (Yb Ty)) {l:Ya ((t:Ty)×t.den)} (k:Nat),l.length=(ks.filterMap id).length->(kaT (A:=sem) ks l k).map (·.1)=kcz ks k
 | [],l,k,h=>by simp [kaT,kcz]
 | some t::ks,[],k,h=>by simp at h
 | some t::ks,p::l,k,h=>by simp only [kaT,kcz,jat]; rw [keh ks (k+1) (by simpa using h)]
 | none::ks,l,k,h=>by simp only [kaT,kcz]; exact keh ks (k+1) (by simpa using h)
theorem khJ:∀ {ks:Ya (Yb Ty)} {l:Ya ((t:Ty)×t.den)} {asZ:Ya AV},PArgs P ks l asZ->asZ.length=ks.length
 | [],[],[],h=>rfl
 | [],_::_,_,h=>by simp [PArgs] at h
 | [],[],_::_,h=>by simp [PArgs] at h
 | some t::ks,[],asZ,h=>by simp [PArgs] at h
 | some t::ks,p::l,[],h=>by simp [PArgs] at h
 | none::ks,l,[],h=>by cases l <;> simp [PArgs] at h
 | some t::ks,p::l,a::asZ,h=>by simp [khJ h.2]
 | none::ks,l,a::asZ,h=>by
  have h2:PArgs P ks l asZ:=by cases l <;> exact h
  simp [khJ h2]
theorem kpg:∀ (l:Ya (Nat×PV)) (xs:Ya ((t:Ty)×t.den)),(unE (A:=sem) l xs).1.map (·.1)=l.map (·.1)
 | [],xs=>rfl
 | (k,v)::l,xs=>by simp only [unE,jat]; rw [kpg l]
theorem kes {α:Type}:∀ {l:Ya (Nat×α)} {x:Nat} {v:α},(l.map (·.1)).Nodup->(x,v)∈l->alk l x=some v
 | [],x,v,_,h=>by cases h
 | (k,w)::l,x,v,hn,h=>by
  simp only [jat,jda] at hn;simp only [alk];rcases jbu.1 h with h | h
  ·cases h; simp
  ·rw [if_neg]
   ·exact kes hn.2 h
   ·exact λe=>hn.1 (jaz.2 ⟨(x,v),h,e⟩)
theorem kfU (R:Rel P κ ln z c s env h n):∀ (l:Ya ResultVar) {vs:Ya (TV sem)},resTV (A:=sem) P c s l=some vs->∃ asZ,l.mapM (kbH P h env)=some asZ/\TVRs P κ ln z s.n vs asZ
 | [],vs,hr=>by simp only [resTV,Option.some.injEq] at hr; subst hr; exact ⟨[],rfl,.nil⟩
 | .tmp t::l,vs,hr=>by
  simp only [resTV,jab] at hr;obtain ⟨vs,b,rfl⟩:=hr;obtain ⟨asZ,e,h2⟩:=kfU R l b;refine ⟨lk env t::asZ,?_,.cons _ _ _ _ (R.env t) h2⟩;rw [jdh,e]; rfl
 | .cell a T::l,vs,hr=>by
  simp only [resTV,jaa,jab] at hr;obtain ⟨v,j,vs,b,rfl⟩:=hr;obtain ⟨asZ,e,h2⟩:=kfU R l b;obtain ⟨u,i,f⟩:=kiD R j;refine ⟨u::asZ,?_,.cons _ _ _ _ f h2⟩;rw [jdh,e,i]; rfl
theorem kmT {l:Ya ResultVar} {asZ:Ya AV} (b:l.mapM (kbH P h env)=some asZ):kaQ P h env l=some (tpA asZ):=by
 unfold kaQ tpA;rw [b];match asZ with
 | []=>rfl
 | [a]=>rfl
 | _::_::_=>rfl
theorem knr:∀ (vs:Ya (TV sem)) (k x:Nat) (E:Ya (Nat×TV sem)),alk ((vs.zipIdx k).map (λx=>(1000000+x.2,x.1))++E) x=if 1000000+k<=x/\x<1000000+k+vs.length then vs[x-1000000-k]? else alk E x
 | [],k,x,E=>by
  simp only [List.zipIdx_nil,jdx,jay,jdm];rw [if_neg (by omega)]
 | v::vs,k,x,E=>by
  simp only [jch,jat,jdp,alk,jbv];by_cases e:x=1000000+k
  ·rw [if_pos e,if_pos (by omega),show x-1000000-k=0 by omega]; rfl
  ·rw [if_neg e,knr vs (k+1) x E];by_cases a:1000000+k<=x/\x<1000000+k+(vs.length+1)
   ·rw [if_pos (by omega),if_pos a,show x-1000000-k=(x-1000000-(k+1))+1 by omega,jcc]
   ·rw [if_neg (by omega),if_neg a]
theorem kii:∀ (asZ:Ya AV) (k x:Nat) (E:Env),lk ((asZ.zipIdx k).map (λx=>(1000000+x.2,x.1))++E) x=if 1000000+k<=x/\x<1000000+k+asZ.length then (asZ[x-1000000-k]?).getD .un else lk E x
 | [],k,x,E=>by
  simp only [List.zipIdx_nil,jdx,jay,jdm];rw [if_neg (by omega)]
 | v::vs,k,x,E=>by
  simp only [jch,jat,jdp,lk,jbv];by_cases e:x=1000000+k
  ·rw [if_pos e,if_pos (by omega),show x-1000000-k=0 by omega]; rfl
  ·rw [if_neg e,kii vs (k+1) x E];by_cases a:1000000+k<=x/\x<1000000+k+(vs.length+1)
   ·rw [if_pos (by omega),if_pos a,show x-1000000-k=(x-1000000-(k+1))+1 by omega,jcc]
   ·rw [if_neg (by omega),if_neg a]
theorem kiE {α:Type}:∀ (l:Ya (Nat×α)) (x:Nat),alk (l.map λy=>(y.1,some y.2)) x=(alk l x).map some
 | [],x=>rfl
 | (k,v)::l,x=>by
  simp only [jat,alk];split
  ·rfl
  ·exact kiE l x
theorem krG (R:Rel P κ ln ahN c s env h n) {vs:Ya (TV sem)} {asZ:Ya AV} (e:TVRs P κ ln ahN s.n vs asZ):Rel P κ ln ahN ⟨[],[]⟩ (endM c s vs) (resE asZ++env) h n:=by
 have l:∀ id,thp (⟨[],[]⟩:Cx sem) (endM c s vs) id=thp c s id:=λid=>by
  unfold thp endM;simp only [kaS,kiE];cases f:alk s.hp id with
  | some b=>rfl
  | none=>cases h2:alk c.g id <;> simp [alk]
 refine ⟨λx=>?_,λid B hB=>R.blk id B (l id ▸ hB),λid B hB=>R.lt id B (l id ▸ hB),λi j B p q A F=>R.inj i j B p q (l i ▸ A) (l j ▸ F),R.zin,λid B q hB=>R.zout id B q (l id ▸ hB),λid B q hB=>R.bnd id B q (l id ▸ hB),R.hn,λx v C=>rfl,λid b G=>rfl,λ_=>rfl,λq k T es t=>(by cases t),R.fam.map (λid B hB=>.inl ⟨B,l id ▸ hB,λh=>h,rfl,rfl⟩) (λid _ B r _ f h2 y=>((R.fam id B f h2).2 r y).2.1) (jah _)⟩;have D:tlk (⟨[],[]⟩:Cx sem) (endM c s vs) x=if 1000000+0<=x/\x<1000000+0+vs.length then (vs[x-1000000-0]?).getD .un else tlk c s x:=by
  have e0:alk (endM c s vs).env x=if 1000000+0<=x/\x<1000000+0+vs.length then vs[x-1000000-0]? else alk (s.env++c.e0) x:=knr vs 0 x _;unfold tlk;rw [e0];split
  ·rename_i v e;split at e
   ·rename_i m; rw [if_pos m,e]; rfl
   ·rename_i m;rw [if_neg m];rw [kaS] at e;cases f:alk s.env x with
    | some w=>rw [f] at e; cases e; rfl
    | none=>rw [f] at e; simp only at e; simp [e]
  ·rename_i e;split at e
   ·rename_i m; rw [if_pos m,e]; rfl
   ·rename_i m;rw [if_neg m];rw [kaS] at e;cases f:alk s.env x with
    | some w=>rw [f] at e; cases e
    | none=>rw [f] at e; simp only at e; simp [e,alk]
 show TVR P κ ln ahN (endM c s vs).n _ (lk ((asZ.zipIdx 0).map (λx=>(1000000+x.2,x.1))++env) x);rw [D,kii,e.len];split
 ·rename_i C;cases u:vs[x-1000000-0]? with
  | none=>exact .un _
  | some v=>
   obtain ⟨a,E,o⟩:=e.at u;rw [E]; exact o
 ·exact R.env x
theorem kmf {ρ:Ty} {r:ρ.den} {p:Prop} (a:askR (A:=sem) (ρ:=ρ) c s=some r):p:=kaa a
theorem knu {g:FuncId} {C:CtrM} {f:Func} (hf:P.funcs[g]?=some f) (hd:(C.okS&&C.ks.length<=f.ntmps&&!(f.name== "runtime.NumGoroutine"))=true) {An:Ya (Nat×La)} (Δ:Ya (FuncId×Ctr)) (hΔ:Goods P Δ)
  (he:∀ x,C.F x=kqH P Δ (anL An) f C (A:=sem) x) (hM0:(alk Δ IM).isNone=true:=by rfl):C.ok=true/\GoodM P g C:=by
 simp only [jac,jbj,jak] at hd;obtain ⟨⟨T,h2⟩,h3⟩:=hd;unfold CtrM.okS at T;simp only [jac,jak] at T;obtain ⟨⟨⟨⟨aX,aF⟩,Q⟩,aw⟩,aj⟩:=T;refine ⟨Q,λx y hy l1 E hl af κ ln h n args aH R=>?_⟩;rw [he,kqH] at hy;dsimp only at hy;rw [hl,List.take_left' af,List.drop_left' af] at hy;have aN:=khJ aH;split at hy
 ·exact kaa hy
 ·rename_i body hb;have ao:(kaT (A:=sem) C.ks l1 0++(kai (A:=sem) C.inp C.n0 E).env).map (·.1)=kcz C.ks 0++C.inp.env.map (·.1):=by
   rw [jdb,keh C.ks 0 af];congr 1;exact kpg _ _
  have I:((kaT (A:=sem) C.ks l1 0++(kai (A:=sem) C.inp C.n0 E).env).map (·.1)).Nodup:=by rw [ao]; exact aX
  have aC:(((kai (A:=sem) C.inp C.n0 E).env).map (·.1)).Nodup:=by
   rw [jdb] at I;exact (List.nodup_append.1 I).2.1
  have ax:∀ x v,alk (kai (A:=sem) C.inp C.n0 E).env x=some v->alk (kaT (A:=sem) C.ks l1 0) x=none:=λx v o=>by
   cases hp:alk (kaT (A:=sem) C.ks l1 0) x with
   | none=>rfl
   | some w=>
    have T:=kes I (jba.2 (.inl (kaq hp)));have h2:=kes I (jba.2 (.inr (kaq o)));rw [jdb,List.nodup_append] at I;exact absurd rfl (I.2.2 x (jaz.2 ⟨_,kaq hp,rfl⟩) x (jaz.2 ⟨_,kaq o,rfl⟩))
  let ef:Ya (Nat×TV sem):=(kai (A:=sem) C.inp C.n0 E).env.filter (λx=>(alk C.out.env x.1).isSome)
  let eg:Ya (Nat×TV sem):=C.inn.map (λp=>(7000000+p,.kp p))
  let e0:Ya (Nat×TV sem):=ef++eg
  let e1:Ya (Nat×TV sem):=kaT (A:=sem) C.ks l1 0++(kai (A:=sem) C.inp C.n0 E).env.filter (λx=>!(alk C.out.env x.1).isSome)
  have Z:∀ x,alk ef x=if (alk C.out.env x).isSome then alk (kai (A:=sem) C.inp C.n0 E).env x else none:=λx=>kbY (λk=>(alk C.out.env k).isSome) _ x;have ay:∀ x,alk ((kai (A:=sem) C.inp C.n0 E).env.filter (λx=>!(alk C.out.env x.1).isSome)) x=if !(alk C.out.env x).isSome then alk (kai (A:=sem) C.inp C.n0 E).env x else none:=λx=>kbY (λk=>!(alk C.out.env k).isSome) _ x;have X:∀ x,alk e0 x=match alk ef x with | some v=>some v | none=>alk eg x:=λx=>by
   show alk (ef++eg) x=_;rw [kaS];cases alk ef x <;> rfl
  have bb:C.ks.length<=1000000:=by
   unfold CtrM.ok at Q;simp only [jac,jak] at Q;exact Q.1.2
  have am:∀ x v,alk (kai (A:=sem) C.inp C.n0 E).env x=some v->x<C.ks.length:=λx v o=>by
   have e:(alk (unE (A:=sem) C.inp.env E).1 x).isSome=(alk C.inp.env x).isSome:=kfm _ _ _;have e2:alk (unE (A:=sem) C.inp.env E).1 x=some v:=o;rw [e2] at e;obtain ⟨aK,ad⟩:=jan.1 e.symm;exact of_decide_eq_true (jam.1 aF _ (kaq ad))
  have ap:∀ x v,alk eg x=some v->∃ p∈C.inn,x=7000000+p/\v = .kp p:=λx v o=>by
   obtain ⟨p,hp,e⟩:=jaz.1 (kaq o);cases e; exact ⟨p,hp,rfl,rfl⟩
  have az:∀ p∈C.inn,alk eg (7000000+p)=some (.kp p):=λp hp=>by
   refine kes ?_ (jaz.2 ⟨p,hp,rfl⟩);show ((C.inn.map (λp=>(7000000+p,(TV.kp p:TV sem)))).map (·.1)).Nodup;rw [List.map_map,List.nodup_iff_pairwise_ne,List.pairwise_map];exact (List.nodup_iff_pairwise_ne.1 aw).imp λaI e=>aI (by simp only [Function.comp] at e; omega)
  have an:∀ p∈C.inn,p<C.n0:=λp hp=>by
   unfold CtrM.inn at hp;obtain ⟨x,l,rfl⟩:=jaz.1 hp;unfold CtrM.ok at Q;simp only [jac,jak] at Q;exact of_decide_eq_true (jam.1 Q.2 _ (jdj.1 l).1)
  have ak:∀ x,1000000<=x->alk ef x=none:=λx l=>by
   rw [Z]; split
   ·cases hh:alk (kai (A:=sem) C.inp C.n0 E).env x with
    | none=>rfl
    | some v=>have:=am x v hh; omega
   ·rfl
  have W0:CxWf (⟨e0,[]⟩:Cx sem):=⟨λx v l=>by
   rw [X];rcases jba.1 l with l | l
   ·have e:alk ef x=some v:=by
     rw [Z];obtain ⟨T,h2⟩:=jdj.1 l;rw [if_pos h2];exact kes aC T
    rw [e]
   ·obtain ⟨p,hp,e⟩:=jaz.1 l;cases e;rw [ak _ (by omega)];exact az p hp,λx B l=>by cases l⟩
  have R0:Rel P κ ln ahN ⟨e0,[]⟩ ⟨e1,(kai (A:=sem) C.inp C.n0 E).hp,C.n0,false⟩ (kap args) h n:=by
   refine ⟨λx=>?_,R.blk,R.lt,R.inj,R.zin,R.zout,R.bnd,R.hn,λx v l=>?_,λid b hb=>rfl,λ_=>rfl,R.zk,R.fam.map (λid B hB=>.inl ⟨B,hB,λh=>h,rfl,rfl⟩) (λid _ B r _ T h2 h3=>((R.fam id B T h2).2 r h3).2.1) (jah _)⟩
   ·have l:=R.env x;unfold tlk at l ⊢;simp only [alk] at l ⊢;rw [show (offD (kai (A:=sem) C.inp C.n0 E)).env=(kai (A:=sem) C.inp C.n0 E).env from rfl] at l;have aQ:alk e1 x=_:=kaS (kaT (A:=sem) C.ks l1 0) _ x;rw [aQ,X,Z,ay];cases T:alk (kaT (A:=sem) C.ks l1 0) x with
    | some v=>exact (khE C.ks 0 aH x v T).2
    | none=>
     cases h2:alk (kai (A:=sem) C.inp C.n0 E).env x with
     | some v=>
      rw [h2] at l;cases (alk C.out.env x).isSome with
      | true=>exact l
      | false=>exact l
     | none=>
      have:TVR P κ ln ahN C.n0 ((alk eg x).getD .un) (lk (kap args) x):=by
       cases hg:alk eg x with
       | none=>exact .un _
       | some w=>
        obtain ⟨p,hp,ex,rfl⟩:=ap x w hg;rw [kqe (by omega:args.length<=x)];exact .kp p (an p hp)
      cases (alk C.out.env x).isSome with
      | true=>exact this
      | false=>exact this
   ·have l:alk (kaT (A:=sem) C.ks l1 0++(kai (A:=sem) C.inp C.n0 E).env.filter (λx=>!(alk C.out.env x.1).isSome)) x=some v:=l;rw [kaS,ay] at l;show alk e0 x=none;have ba:x<C.ks.length:=by
     cases T:alk (kaT (A:=sem) C.ks l1 0) x with
     | some w=>
      have:x∈(kaT (A:=sem) C.ks l1 0).map (·.1):=jaz.2 ⟨_,kaq T,rfl⟩;rw [keh C.ks 0 af] at this;have:=khy C.ks 0 x this;omega
     | none=>
      rw [T] at l;simp only at l;split at l
      ·exact am x v l
      ·cases l
    have aL:alk eg x=none:=by
     cases hg:alk eg x with
     | none=>rfl
     | some w=>obtain ⟨p,_,e,_⟩:=ap x w hg; omega
    rw [X,aL,Z];cases S:(alk C.out.env x).isSome with
    | false=>simp
    | true=>
     rw [S] at l;simp only [jdy,jal,if_false] at l;simp only [if_true];cases h2:alk (kai (A:=sem) C.inp C.n0 E).env x with
     | none=>rfl
     | some w=>rw [ax x w h2] at l; cases l
  refine HC.fin (HC.of_body hf hb h3 (by rw [aN]; exact h2) λD O hD=>Sat.ofL ?_);have fin:∀ (rl:Ya ResultVar) (c:Cx sem) κ' ln' s i h' n' v,CxWf c->RJ ⟨e0,κ,ln⟩ P κ' ln' ahN c s i h' n'->resM (A:=sem) P C rl c s=some v->
    ∃ a,kaQ P h' i rl=some a/\∃ h2:AH,(∀ q B,h2 q=some B->h' q=some B)/\AfterM P C κ ln v args a h2 n':=by
   intro rl c κ' ln' s i h' n' v W u o;unfold resM at o;obtain ⟨vs,aM,o⟩:=jaa.1 o;split at o
   ·rename_i ai;obtain ⟨m,hm,o⟩:=jaa.1 o;by_cases U:(m.sn.isEmpty&&C.inn.all (λp=>alk m.ids p==some p))=true
    ·replace o:mkT sem C.out.tys m.cs=some v:=(if_pos (c:=(m.sn.isEmpty&&C.inn.all (λp=>alk m.ids p==some p))=true) (t:=(mkT sem C.out.tys m.cs:Yb C.out.ty.den)) (e:=none) U).symm.trans o;rw [jac] at U;obtain ⟨aO,aD⟩:=U;obtain ⟨asZ,k1,k2⟩:=kfU u.R rl aM;obtain ⟨κ2,aG,R2,q1,q2,q3,q4⟩:=klv (krG u.R k2) hm (by simpa [jcr] using aO) rfl;have aU:kai (A:=sem) C.out C.n1 m.cs=kac (A:=sem) C.out C.n1 v:=by
      unfold kac kai;rw [kkt _ _ _ o]
     rw [aU] at R2 q2 q4;have al:∀ id,id∈C.out.hp.map (·.1)↔(alk C.out.hp id).isSome=true:=λid=>by
      generalize C.out.hp=L;induction L with
      | nil=>simp [alk]
      | cons y L ih=>
       simp only [jat,jbu,alk];split
       ·rename_i e; simp [e]
       ·rename_i e; simp only [e,false_or]; exact ih
     have aY:∀ {id},id∈C.out.hp.map (·.1)->∃ B,alk (kac (A:=sem) C.out C.n1 v).hp id=some (some B):=λ{id} G=>by
      rw [al,<-q4] at G;obtain ⟨b,hb⟩:=jan.1 G;obtain ⟨B,_,_,rfl,_⟩:=q2 id b hb;exact ⟨B,hb⟩
     have aT:∀ id B,thp (⟨[],[]⟩:Cx sem) (offD (kac (A:=sem) C.out C.n1 v)) id=some B->id∈C.out.hp.map (·.1):=λid B hB=>by
      rw [al,<-q4];unfold thp at hB;rw [show (offD (kac (A:=sem) C.out C.n1 v)).hp=(kac (A:=sem) C.out C.n1 v).hp from rfl] at hB;cases hh:alk (kac (A:=sem) C.out C.n1 v).hp id with
      | some b=>rfl
      | none=>rw [hh] at hB; cases hB
     have Y:=R2.cut (h2:=hz (ows κ2 aG ⟨[],[]⟩ (offD (kac (A:=sem) C.out C.n1 v))) h' ahN (C.out.hp.map (·.1))) (λid B q hB M=>hz_in (aT id B hB) (kgp hB M)) (λq hq=>by
      unfold hz; split
      ·exact u.R.hn q hq
      ·rfl)
     refine ⟨_,kmT k1,_,kbR (λq B hq=>by cases hq),κ2,aG,asZ,by rw [k2.len,ai],rfl,⟨λx=>?_,Y.blk,Y.lt,Y.inj,Y.zin,Y.zout,Y.bnd,Y.hn,Y.e0,Y.g,Y.dy,Y.zk,Y.fam⟩,λq B hq=>?_,λp hp=>?_⟩
     ·have l:=Y.env x;cases ar:alk (kac (A:=sem) C.out C.n1 v).env x with
      | none=>
       have:tlk (⟨[],[]⟩:Cx sem) (offD (kac (A:=sem) C.out C.n1 v)) x = .un:=by
        unfold tlk;rw [show (offD (kac (A:=sem) C.out C.n1 v)).env=(kac (A:=sem) C.out C.n1 v).env from rfl,ar]; rfl
       rw [this]; exact .un _
      | some w=>
       obtain ⟨pv,au⟩:=kkX ar;have ho:=jam.1 aj _ au;have aW:lk (resE asZ++i) x=if 1000000+0<=x/\x<1000000+0+asZ.length then (asZ[x-1000000-0]?).getD .un else lk i x:=kii asZ 0 x i;have aR:lk (resE asZ++kap args) x=if 1000000+0<=x/\x<1000000+0+asZ.length then (asZ[x-1000000-0]?).getD .un else lk (kap args) x:=kii asZ 0 x (kap args);have aP:lk (resE asZ++kap args) x=lk (resE asZ++i) x:=by
        rw [aW,aR];split
        ·rfl
        ·rename_i aJ;simp only [jau,jac,jak] at ho;rcases ho with ho | ⟨aa,ae⟩
         ·exfalso; apply aJ; rw [k2.len,ai]; omega
         ·
          have slot:∀ K v0,alk C.inp.env x=some K->(∀ xs:Ya ((t:Ty)×sem.D t),(unV (A:=sem) K xs).1=v0)->tiedD v0=true->lk (kap args) x=lk i x:=λK v0 G hu ht=>by
           have ah:alk (kai (A:=sem) C.inp C.n0 E).env x=some v0:=kho C.inp.env E x K v0 G hu;have hj:alk e0 x=some v0:=by
            have aa:(alk C.out.env x).isSome=true:=by
             have e:=kfm C.out.env (unT sem C.out.tys v) x;have e2:alk (unE (A:=sem) C.out.env (unT sem C.out.tys v)).1 x=some w:=ar;rw [<-e,e2]; rfl
            rw [X,Z,if_pos aa,ah]
           have t1:=R0.env x;have t2:=u.R.env x;rw [R0.e0_tlk hj] at t1;rw [u.R.e0_tlk (u.w x v0 hj)] at t2;exact (t1.det ht t2 λid aq=>u.j x v0 id hj aq).symm
          split at ae
          ·rename_i p G; exact slot _ (.mw p) G (λxs=>rfl) rfl
          ·rename_i p j G; exact slot _ (.ptr p j) G (λxs=>rfl) rfl
          ·rename_i p G; exact slot _ (.mp p) G (λxs=>rfl) rfl
          ·cases ae
       rw [aP]; exact l
     ·unfold hz at hq;split at hq
      ·rename_i aA;obtain ⟨id,aq,M⟩:=jbi.1 aA;obtain ⟨b,hb⟩:=aY aq;exact ⟨id,b,hb,kbu (c:=⟨[],[]⟩) (s:=offD (kac (A:=sem) C.out C.n1 v)) (by unfold thp; rw [show (offD (kac (A:=sem) C.out C.n1 v)).hp=(kac (A:=sem) C.out C.n1 v).hp from rfl,hb]) (by simpa using M)⟩
      ·cases hq
     ·have e1:alk m.ids p=some p:=by simpa using jam.1 aD p hp
      have e2:alk e0 (7000000+p)=some (.kp p):=by rw [X,ak _ (by omega)]; exact az p hp
      exact ⟨((q1 p p e1).1).trans (u.j _ _ p e2 (by simp [TV.has])).1,((q1 p p e1).2.1).trans (u.j _ _ p e2 (by simp [TV.has])).2⟩
    ·replace o:=(if_neg (c:=(m.sn.isEmpty&&C.inn.all (λp=>alk m.ids p==some p))=true) (t:=(mkT sem C.out.tys m.cs:Yb C.out.ty.den)) (e:=none) U).symm.trans o; cases o
   ·cases o
  let K0:K3:=λv h' n'=>(∃ h2:AH,(∀ q B,h2 q=some B->h' q=some B)/\AfterM P C κ ln y args v h2 n')\/
   (v = .tp []/\∃ κb aE z c s env,Rel P κb aE z c s env h' n'/\(∀ x,tied (tlk c s x)=true\/tlk c s x = .un)/\∀ h2:AH,Rel P κb aE ahN c { s with dy:=false } env h2 n'->∃ h3:AH,(∀ q B,h3 q=some B->h2 q=some B)/\AfterM P C κ ln y args v h3 n')
  refine kgD (D:=D) (O:=O) hΔ 1000000 (J:=⟨e0,κ,ln⟩) (RetQ:=λv st=>∃ a,kaQ P st.h st.env f.results.toList=some a/\∃ h2:AH,(∀ q B,h2 q=some B->st.h q=some B)/\AfterM P C κ ln v args a h2 st.n) (λc κ' ln' s i h' n' v W u o=>fin _ c κ' ln' s i h' n' v W u o) (hY:=⟨λ_=>hD,λhh=>absurd hh (by cases l:alk Δ IM with | none=>decide | some C=>rw [l] at hM0; cases hM0)⟩) _ [body] _ _ _ y κ ln ahN (kap args) h n W0 ⟨R0,λx v id _ _=>⟨rfl,rfl⟩,λx v o=>o⟩ ?_ hy;refine ⟨λκ' ln' z' s i h' n' u M=>?_,λid κ ln z s env h n R M=>kaa M,λv st o M=>?_,λG=>by rw [hD] at G; cases G⟩
  ·dsimp only at M;split at M
   ·rename_i aB;have aS:f.results.toList=[]:=by simpa [jcr] using aB
    split at M
    ·rename_i v o;cases M;show ∃ v,kaQ P h' i f.results.toList=some v/\K0 v h' n';rw [aS];refine ⟨.tp [],rfl,.inr ⟨rfl,κ',ln',z',⟨e0,[]⟩,⟨[],s.hp,s.n,s.dy⟩,i,⟨λx=>?_,u.R.blk,u.R.lt,u.R.inj,u.R.zin,u.R.zout,u.R.bnd,u.R.hn,λx v h=>(by cases h),u.R.g,u.R.dy,u.R.zk,u.R.fam.map (λid B hB=>.inl ⟨B,hB,λh=>h,rfl,rfl⟩) (λid _ B r _ T h2 h3=>((u.R.fam id B T h2).2 r h3).2.1) (jah _)⟩,λx=>?_,λh2 R2=>?_⟩⟩
     ·have l:=u.R.env x;cases S:alk e0 x with
      | none=>simp only [tlk,alk,S]; exact .un _
      | some w=>
       rw [u.R.e0_tlk S] at l;simp only [tlk,alk,S]; exact l
     ·cases S:alk e0 x with
      | none=>right; simp only [tlk,alk,S]; rfl
      | some w=>
       left;simp only [tlk,alk,S,jby];rw [X] at S;split at S
       ·rename_i w' ac;cases S;rw [Z] at ac;have aa:(alk C.out.env x).isSome=true:=by
         cases hh:(alk C.out.env x).isSome with
         | true=>rfl
         | false=>rw [hh] at ac; simp at ac
        rw [if_pos aa] at ac;have S:=ac;obtain ⟨pv,au⟩:=jan.1 aa;have ho:=jam.1 aj _ (kaq au);have aZ:x<C.ks.length:=by
         have e:(alk (unE (A:=sem) C.inp.env E).1 x).isSome=(alk C.inp.env x).isSome:=kfm _ _ _;have e2:alk (unE (A:=sem) C.inp.env E).1 x=some w:=S;rw [e2] at e;obtain ⟨aK,ad⟩:=jan.1 e.symm;exact of_decide_eq_true (jam.1 aF _ (kaq ad))
        simp only [jau,jac,jak] at ho;rcases ho with ho | ⟨aa,ae⟩
        ·omega
        ·have ab:∀ K v0,alk C.inp.env x=some K->(∀ xs:Ya ((t:Ty)×sem.D t),(unV (A:=sem) K xs).1=v0)->w=v0:=λK v0 G hu=>by
          have ah:alk (kai (A:=sem) C.inp C.n0 E).env x=some v0:=kho C.inp.env E x K v0 G hu;rw [S] at ah; exact Option.some.inj ah
         split at ae
         ·rename_i p G; rw [ab _ (.mw p) G (λxs=>rfl)]; rfl
         ·rename_i p j G; rw [ab _ (.ptr p j) G (λxs=>rfl)]; rfl
         ·rename_i p G; rw [ab _ (.mp p) G (λxs=>rfl)]; rfl
         ·cases ae
       ·obtain ⟨p,_,_,rfl⟩:=ap x _ S; rfl
     ·obtain ⟨a,q1,q2⟩:=fin [] _ _ _ _ _ _ _ _ W0 ⟨R2,u.j,u.w⟩ o;cases q1;exact q2
    ·exact kmf M
   ·split at M
    ·exact kaa M
    ·rename_i aV;split at M
     ·rename_i v o;cases M;obtain rfl:=u.R.dy (by simpa using aV);obtain ⟨a,q1,q2⟩:=fin _ _ _ _ _ _ _ _ _ W0 u o;exact ⟨a,q1,.inl q2⟩
     ·exact kmf M
  ·cases M;obtain ⟨a,q1,q2⟩:=o;exact ⟨a,q1,.inl q2⟩
end
section
variable {P:Ye} {g:FuncId}
theorem Good.more {C:Ctr} {M:CtrM} (h:Good P g C) (a:M.ok=true/\GoodM P g M):Good P g ⟨C.nm,C.asZ,C.rs,C.F,M::C.mus,C.its⟩:=by
 refine ⟨h.1,h.2.1,λb hM=>?_,h.2.2.2⟩;rcases jbu.1 hM with rfl | hM
 ·exact a
 ·exact h.2.2.1 b hM
theorem good_dm {nm:String}:Good P g ⟨nm,[],[],λ_=>none,[],[]⟩:=⟨rfl,λx r h=>(by cases h),λM h=>(by cases h),λM h=>(by cases h)⟩
theorem kqD {C:Ctr} (b:C.rs.all Ty.dat=true) (h:∀ x,C.F x=none) (a:C.mus=[]) (e:C.its=[]):Good P g C:=
 ⟨b,λx r hr=>(by rw [h x] at hr; cases hr),(λM hM=>by rw [a] at hM; cases hM),λM hM=>by rw [e] at hM; cases hM⟩
end
section
variable {P:Ye} {g:FuncId}
end
end Go.Abs
namespace Go.Proofs
open Go.Shelf Go.RowKit
variable {P:Ye} {ρ:Ren}
theorem kpU {d e u c1 a:Nat} (j:∀ m t,P.underlying u≠some (.array m t)) (h:liesAt P d e c1 0 u 1=true) (b:1<=a):liesAt P d e a 0 u 1=true:=by
 cases d with
 | zero=>simp [liesAt] at h
 | succ d=>
  have i:∀ (c:Nat),rowAt P (λx=>sameLayout P P.depth x u) P.depth e c1 0 1=true->1<=c->rowAt P (λx=>sameLayout P P.depth x u) P.depth e c 0 1=true:=by
   intro c h b;revert h;cases P.depth with
   | zero=>simp [rowAt]
   | succ q=>
    intro h;unfold rowAt at h ⊢;simp only at h ⊢;split at h
    ·cases h
    ·rename_i l;rw [if_neg l];simp only [Nat.zero_div,Nat.zero_mod,jbw,jau,jac,jak] at h ⊢;rcases h with ⟨⟨f,h2⟩,k⟩ | ⟨f,h2⟩
     ·exact .inl ⟨⟨f,b⟩,k⟩
     ·exact .inr ⟨by omega,h2⟩
  unfold liesAt at h ⊢;rw [jau] at h ⊢;rcases h with h | h
  ·exact .inl (i a h b)
  ·split at h
   ·rename_i m t o; exact absurd o (j m t)
   ·cases h
theorem krd (L:Lays.n240 P ρ) (X:Builder.X72 P ρ) {m:Nat} (f:2<=m):liesAt P P.depth (ρ.t 72) (m / P.cellsOf (ρ.t 72)) 0 (ρ.t 72) 1=true:=by
 have h:=X.liesBuilder;refine kpU (c1:=2 / P.cellsOf (ρ.t 72)) (λm t e=>?_) h ?_
 ·rw [L.t72] at e; cases e
 ·have i:1<=2 / P.cellsOf (ρ.t 72):=by
   rcases Nat.eq_zero_or_pos (2 / P.cellsOf (ρ.t 72)) with e | e
   ·rw [e] at h;exfalso;rcases a:P.depth with _ | q
    ·rw [a] at h; simp [liesAt] at h
    ·rw [a] at h;unfold liesAt at h;rw [jau] at h;rcases h with h | h
     ·rw [a] at h;unfold rowAt at h;simp at h
     ·split at h
      ·rename_i m t b; rw [L.t72] at b; cases b
      ·cases h
   ·exact e
  exact jct i (Nat.div_le_div_right f)
set_option maxRecDepth 100000 in
theorem krc (L:Lays.n240 P ρ) (X:Builder.X72 P ρ) (b m:Nat) (k:2<=m) (w:World) (v:w.cell? ⟨b,0,none⟩=some (.pointer none)) (a:w.shape? b=some ((ρ.t 72),m)) (u:w.frozen? ⟨b,0,none⟩=false) :
  Calls P (ρ.f 240) #[.pointer (some ⟨b,0,none⟩)] w λe w'=>e = .returned (.tuple #[])/\w'=w.setCell ⟨b,0,none⟩ (.pointer (some ⟨b,0,none⟩)):=by
 obtain ⟨j,l,i⟩:=jab.1 X.sizeBuilder;have mixed:=L.mixed;have t72:=L.t72; have a72:=L.a72; have z72:=L.z72; have v72:=L.v72; have r:=run_underlying L.t72;have t70:=L.t70; have a70:=L.a70; have z70:=L.z70; have v70:=L.v70; have p:=run_underlying L.t70;have t9:=L.t9; have a9:=L.a9; have z9:=L.z9; have v9:=L.v9; have y:=run_underlying L.t9;have t4:=L.t4; have a4:=L.a4; have z4:=L.z4; have v4:=L.v4; have x:=run_underlying L.t4;have t164:=L.t164; have a164:=L.a164; have z164:=L.z164; have v164:=L.v164; have o:=run_underlying L.t164
 go_enter L.f240,Body.n240_ntmps ρ
 go_wp2
 rw [Lib.run_to_unsafe w ⟨b,0,none⟩ L.t70 L.t164 l (by rw [i]; decide) a (jao Nat.zero_lt_two k)];simp only [Result.andThen];rw [Oper.upon_value]
 go_wp2
 rw [run_callFunc_extern L.f276 (by kernel_rfl) (by kernel_rfl) (by kernel_rfl) (e:=Extern.AbiNoEscape.same) (by kernel_rfl)];rw [Lib.run_noEscape];simp only [Result.andThen];rw [Oper.upon_value]
 go_wp2
 rw [Lib.run_from_unsafe w ⟨b,0,none⟩ L.t164 L.t70 l a (krd L X k)];simp only [Result.andThen];rw [Oper.upon_value]
 go_wp2
 go_end0
 exact ⟨rfl,rfl⟩
set_option maxRecDepth 100000 in
theorem ksB (L:Lays.n169 P ρ) (X:Builder.Extra P ρ) (b g cap:Nat) (a:Array Yd) (l:Ya UInt8) (w:World) (c1:w.cell? ⟨b,1,none⟩=some (.slice (some ⟨g,0,none⟩) l.length cap))
  (o:w.heap[g]?=some (.cells a (ρ.t 5) (0,0))) (hn:l.length<=a.size) (G:l.length<=cap) (C:cap<=maxLen) (k:∀ (j:Nat) (x:UInt8),l[j]?=some x->a[j]?=some (.int .u8 x.toNat)) (m:l≠[]) :
  Calls P (ρ.f 169) #[.pointer (some ⟨b,0,none⟩)] w λe w'=>e = .returned (.string ⟨l.toArray⟩)/\w'=w.drew.freeze ⟨g,0,none⟩ l.length:=by
 have v:l.length≠0:=by simpa using m
 replace c1:w.drew.cell? ⟨b,1,none⟩=some (.slice (some ⟨g,0,none⟩) l.length cap):=c1;have hSD:(Builtin.unsafeSliceData_ #[(ρ.t 37)] (ρ.t 127) #[.slice (some ⟨g,0,none⟩) l.length cap]).run P w.drew = .ok (.pointer (some ⟨g,0,none⟩)) w.drew:=
  Lib.run_unsafeSliceData_row _ _ _ _ _ _ (by omega)
 have hUS:(Builtin.unsafeString_ #[(ρ.t 127),(ρ.t 3)] (ρ.t 9) #[.pointer (some ⟨g,0,none⟩),.int .i64 l.length]).run P w.drew = .ok (.string ⟨l.toArray⟩) (w.drew.freeze ⟨g,0,none⟩ l.length):=by
  refine Lib.run_unsafeString_row w.drew (ρ.t 127) (ρ.t 3) (ρ.t 9) (ρ.t 5) L.t127 X.cellsByte g a.size (by have i:w.drew.heap[g]?=some (.cells a (ρ.t 5) (0,0)):=o; simp [World.shape?,i]) l m hn (by unfold maxLen at C; omega) ?_;intro j x r;have i:w.drew.heap[g]?=some (.cells a (ρ.t 5) (0,0)):=o;by_cases u:j=0
  ·subst u; simp [World.cell?,Addr.add,i,k 0 x r]
  ·simp [World.cell?,Addr.add,u,i,k j x r]
 have mixed:=L.mixed;have t72:=L.t72; have a72:=L.a72; have z72:=L.z72; have v72:=L.v72; have A:=run_underlying L.t72;have t70:=L.t70; have a70:=L.a70; have z70:=L.z70; have v70:=L.v70; have y:=run_underlying L.t70;have t37:=L.t37; have a37:=L.a37; have z37:=L.z37; have v37:=L.v37; have B:=run_underlying L.t37;have t127:=L.t127; have a127:=L.a127; have z127:=L.z127; have v127:=L.v127; have p:=run_underlying L.t127;have t3:=L.t3; have a3:=L.a3; have z3:=L.z3; have v3:=L.v3; have E:=run_underlying L.t3;have t9:=L.t9; have a9:=L.a9; have z9:=L.z9; have v9:=L.v9; have F:=run_underlying L.t9;have t5:=X.t5; have a5:=X.a5; have z5:=X.z5; have v5:=X.v5; have D:=run_underlying X.t5
 go_enter L.f169,Body.n169_ntmps ρ
 go_wp2
 go_region_o
 all_goals (go_wp2; go_ret; exact ⟨rfl,rfl⟩)
end Go.Proofs
namespace Go.Abs
open Go Go.RowKit Go.Shelf Go.Proofs
section
variable {P:Ye} {ρ:Ren}
theorem HC.ccheck (L:Lays.n240 P ρ) (X:Builder.X72 P ρ) {q:Nat} {h:AH} {n:Nat} {a0 I:AV} {f:FuncId} (hf:ρ.f 240=f) (hP:∃ fn:Func,P.funcs[f]?=some fn/\fn.body.isSome=true/\(fn.name== "runtime.NumGoroutine")=false)
  (hh:h q=some (.cells 2 (ρ.t 72) [[a0,I]])) (ha:a0 = .sc (.pointer none)\/a0 = .own q 0 0) :
  HC P f [.own q 0 0] h n (λv h' n'=>v = .tp []/\n'=n/\h'=updH h q (.cells 2 (ρ.t 72) [[.own q 0 0,I]])):=by
 subst hf;refine ⟨hP,λO μ w vs hr U E=>?_⟩;obtain ⟨u0,Q,C⟩:=E 0 _ rfl;obtain ⟨b,c,G,x,m⟩:=hr.blk q _ hh;obtain ⟨-,m⟩:=m 0 _ rfl;obtain ⟨Z,v0,r,D⟩:=m 0 _ rfl;obtain ⟨J,v1,y,R⟩:=m 1 _ rfl;simp only [Nat.zero_mul,jbw] at r y;have M:2<=c.size:=(jaj.1 y).1;have Y:b<w.heap.size:=(jaj.1 x).1;have hp:u0 = .pointer (some ⟨b,0,none⟩):=by
  cases C with
  | own _ _ _ _ _ _ E=>simpa using E b 2 G
 subst hp;have S:vs = #[.pointer (some ⟨b,0,none⟩)]:=by
  apply Array.ext
  ·simpa using U
  ·intro i p _;have:vs.size=1:=by simpa using U
   match i with
   | 0=>simpa [jaq (show 0<vs.size by omega)] using Q
   | i+1=>omega
 subst S;have e0:w.cell? ⟨b,0,none⟩=some v0:=by simp [World.cell?,x,r]
 have A:VR w O μ n (.own q 0 0) (.pointer (some ⟨b,0,none⟩)):=C;have fin:∀ (e:Ending) w',(e = .returned (.tuple #[])/\w'=w.setCell ⟨b,0,none⟩ (.pointer (some ⟨b,0,none⟩)))->
   ∃ u v h' n' K,e = .returned u/\(v = .tp []/\n'=n/\h'=updH h q (.cells 2 (ρ.t 72) [[.own q 0 0,I]]))/\HR w' O K h' n'/\VR w' O K n' v u/\Evo w μ n w' K n':=by
  rintro e w' ⟨rfl,rfl⟩;have F:(w.setCell ⟨b,0,none⟩ (.pointer (some ⟨b,0,none⟩))).heap[b]?=some (.cells (c.setIfInBounds 0 (.pointer (some ⟨b,0,none⟩))) (ρ.t 72) (0,0)):=by
   simp [World.setCell,jdr,x]
  obtain ⟨e1,B⟩:=hr.set (w':=w.setCell ⟨b,0,none⟩ (.pointer (some ⟨b,0,none⟩))) q b 2 G (.cells 2 (ρ.t 72) [[.own q 0 0,I]]) rfl rfl ⟨rfl,jah _⟩ (by simp [World.setCell])
   (λi p=>by simp [World.setCell,jdr,Ne.symm p]) (λc0 T0 f0 T=>by rw [x] at T; cases T; exact ⟨_,F,by simp⟩)
   (λev=>⟨b,_,G,F,λi e p=>by
    match i,p with
    | 0,p=>
     cases p;refine ⟨rfl,λj a l=>?_⟩;match j,l with
     | 0,l=>cases l; exact ⟨rfl,_,by simp [show 0<c.size by omega],A.evo ev⟩
     | 1,l=>cases l; exact ⟨J,v1,by simp [y],R.evo ev⟩⟩)
  exact ⟨_,.tp [],_,n,μ,rfl,⟨rfl,rfl,rfl⟩,B,.tp [] #[] (λ_=>undef) rfl (λj c l=>by simp at l) (λj c l=>by simp at l),e1⟩
 rcases ha with rfl | rfl
 ·have k:=D.sc_inv;subst k;exact (krc L X b c.size M w e0 (by simp [World.shape?,x]) (by simp [World.frozen?,x])).mono fin
 ·have k:v0 = .pointer (some ⟨b,0,none⟩):=by
   cases D with
   | own _ _ _ _ _ _ E=>simpa using E b 2 G
  subst k;refine (Any.Builder_copyCheck_used L X b w e0).mono ?_;rintro e w' ⟨rfl,rfl⟩;refine fin _ _ ⟨rfl,?_⟩;have:w'.heap.modify b (λo=>match o with | .cells c e f=>.cells (c.setIfInBounds 0 (.pointer (some ⟨b,0,none⟩))) e f | o=>o)=w'.heap:=by
   apply Array.ext_getElem?;intro i;rw [jdr];split
   ·rename_i p; subst p;rw [x];simp only [jcb];congr 2;apply Array.ext_getElem?;intro j;rw [Array.getElem?_setIfInBounds];split
    ·rename_i l; subst l; rw [if_pos (by omega)]; exact r.symm
    ·rfl
   ·rfl
  cases w';simp only [World.setCell,World.mk.injEq,and_true,true_and];exact this.symm
theorem HC.bstr (L:Lays.n169 P ρ) (X:Builder.Extra P ρ) {q r:Nat} {h:AH} {n:Nat} {a0:AV} {l:Ya UInt8} {f:FuncId} (hf:ρ.f 169=f) (hP:∃ fn:Func,P.funcs[f]?=some fn/\fn.body.isSome=true/\(fn.name== "runtime.NumGoroutine")=false)
  (hh:h q=some (.cells 2 (ρ.t 72) [[a0,.ms r 0 l.length]])) (D:h r=some (.cells 1 (ρ.t 5) (l.map kcH))) (M:l≠[]) :
  HC P f [.own q 0 0] h n (λv h' n'=>v = .sc (.string ⟨l.toArray⟩)/\n'=n/\h'=ahN):=by
 subst hf;refine ⟨hP,λO μ w vs hr S B=>?_⟩;obtain ⟨Y,I,E⟩:=B 0 _ rfl;obtain ⟨b,c,hm,hc,a⟩:=hr.blk q _ hh;obtain ⟨-,a⟩:=a 0 _ rfl;obtain ⟨aa,Z,C,G⟩:=a 1 _ rfl;obtain ⟨g,cg,k,Q,J⟩:=hr.blk r _ D;simp only [Nat.zero_mul,jbw] at C;have hp:Y = .pointer (some ⟨b,0,none⟩):=by
  cases E with
  | own _ _ _ _ _ _ B=>simpa using B b 2 hm
 subst hp;have K:vs = #[.pointer (some ⟨b,0,none⟩)]:=by
  apply Array.ext
  ·simpa using S
  ·intro i A _;have:vs.size=1:=by simpa using S
   match i with
   | 0=>simpa [jaq (show 0<vs.size by omega)] using I
   | i+1=>omega
 subst K;obtain ⟨o,cap,c2,T2,rfl,m,p,ho,y,ab⟩:MsAt w g 1 0 l.length Z:=by
  cases G with
  | ms _ _ _ _ h1 h2 B=>exact B g 1 k
 rw [Q] at y; cases y;have hl:l.length≠0:=by simpa using M
 obtain rfl:o=0:=by simpa using ho (by omega)
 have e1:w.cell? ⟨b,1,none⟩=some (.slice (some ⟨g,0,none⟩) l.length cap):=by simp [World.cell?,hc,C]
 refine (ksB L X b g cap cg l w e1 Q (by omega) m p (λj x hx=>?_) M).mono ?_
 ·obtain ⟨-,U⟩:=J j (kcH x) (by simp [hx]);obtain ⟨-,u,T,g4⟩:=U 0 (.sc (.int .u8 x.toNat)) rfl;have:=g4.sc_inv;subst this;simpa using T
 rintro e w' ⟨rfl,rfl⟩;have R:∀ i,i≠g->(w.drew.freeze ⟨g,0,none⟩ l.length).heap[i]?=w.heap[i]?:=λi A=>by
  unfold World.freeze;rw [if_neg hl];show (w.heap.modify g _)[i]?=_;simp [jdr,Ne.symm A]
 have ac:(w.drew.freeze ⟨g,0,none⟩ l.length).heap.size=w.heap.size:=by
  unfold World.freeze;rw [if_neg hl];show (w.heap.modify g _).size=_;simp
 have F:(w.drew.freeze ⟨g,0,none⟩ l.length).os=w.os/\(w.drew.freeze ⟨g,0,none⟩ l.length).tape=w.tape/\(w.drew.freeze ⟨g,0,none⟩ l.length).output=w.output/\(w.drew.freeze ⟨g,0,none⟩ l.length).drawn=w.drawn+1:=by
  unfold World.freeze;rw [if_neg hl];exact ⟨rfl,rfl,rfl,rfl⟩
 refine ⟨_,.sc (.string ⟨l.toArray⟩),ahN,n,λ_=>none,rfl,⟨rfl,rfl,rfl⟩,⟨hr.olt.keep (by omega) λi A=>R i ?_,λ_ _ _ e=>(by cases e),λ_ _ _ _ _ e=>(by cases e),λ_ _ _ e=>(by cases e),λ_ _ e=>(by cases e)⟩,.sc _ rfl,⟨F.1,F.2.1,⟨F.2.2.1,by omega⟩,by omega,jah _,λi A hn=>R i ?_,λ_ _ _ _ _ ⟨_,_,e⟩=>(by cases e),λ_ _=>.inr rfl,λ_ _ _ e=>(by cases e)⟩⟩
 ·rintro rfl; exact hr.notO r _ 1 k (.inr A)
 ·rintro rfl; exact hn r 1 k
end
section
variable {P:Ye} {ρ:Ren} {κ κ':Nat->Yb Nat} {ln ln':Nat->Nat} {s:TS sem} {env:Env} {h h':AH} {n n':Nat}
theorem Rel.reB (R:Rel P κ ln ahN ⟨[],[]⟩ s env h n) {id q:Nat} {B:TB sem} {X:ABlk} (hB:thp (⟨[],[]⟩:Cx sem) s id=some B) (a:κ id=some q) (f:BR P κ ln ahN (updH h q X) s.n id B):Rel P κ ln ahN ⟨[],[]⟩ s env (updH h q X) n:=
 ⟨R.env,λi b hB'=>by
  by_cases e:i=id
  ·subst e; rw [hB] at hB'; cases hB'; exact f
  ·refine (R.blk i b hB').mono (λ_ _=>rfl) (λ_ _=>rfl) (λ_ _ h=>h) (jah _) (R.lt i b hB') (λp l hp hB''=>?_);refine koW (λj=>?_) hB'';subst j;exact e (R.owI hB' hB hp (.inl a)),R.lt,R.inj,λq B a=>(by cases a),R.zout,R.bnd,λp hp=>by
  have:=R.bnd id B q hB a;exact koW (by omega) (R.hn p hp),R.e0,R.g,R.dy,λq k T es a=>(by cases a),R.fam⟩
theorem AfterM.of {C:CtrM} {y:C.out.ty.den} {args vs:Ya AV} (hl:vs.length=C.nr) (R:Rel P κ' ln' ahN ⟨[],[]⟩ (offD (kac (A:=sem) C.out C.n1 y)) (resE vs++kap args) h' n')
  (f:∀ p∈C.inn,κ' p = κ p/\ln' p=ln p) (ids:Ya Nat) (o:∀ id b,alk (kac (A:=sem) C.out C.n1 y).hp id=some b->id∈ids) (m:∀ id∈ids,∃ B,alk (kac (A:=sem) C.out C.n1 y).hp id=some (some B)) :
  ∃ h2:AH,(∀ q B,h2 q=some B->h' q=some B)/\AfterM P C κ ln y args (tpA vs) h2 n':=by
 have a:∀ id,thp (⟨[],[]⟩:Cx sem) (offD (kac (A:=sem) C.out C.n1 y)) id=(match alk (kac (A:=sem) C.out C.n1 y).hp id with | some b=>b | none=>none):=λid=>by
  unfold thp;rw [show (offD (kac (A:=sem) C.out C.n1 y)).hp=(kac (A:=sem) C.out C.n1 y).hp from rfl];cases alk (kac (A:=sem) C.out C.n1 y).hp id <;> rfl
 have k:∀ id B,thp (⟨[],[]⟩:Cx sem) (offD (kac (A:=sem) C.out C.n1 y)) id=some B->id∈ids:=λid B hB=>by
  rw [a] at hB;split at hB
  ·rename_i b j; exact o id b j
  ·cases hB
 refine ⟨hz (ows κ' ln' ⟨[],[]⟩ (offD (kac (A:=sem) C.out C.n1 y))) h' ahN ids,kbR (λq B e=>by cases e),κ',ln',vs,hl,rfl,R.cut (λid B q hB f=>hz_in (k id B hB) (kgp hB f)) (λq e=>by
   unfold hz; split
   ·exact R.hn q e
   ·rfl),λq B e=>?_,f⟩
 unfold hz at e;split at e
 ·rename_i i;obtain ⟨id,l,f⟩:=jbi.1 i;obtain ⟨b,j⟩:=m id l;exact ⟨id,b,j,kbu (c:=⟨[],[]⟩) (s:=offD (kac (A:=sem) C.out C.n1 y)) (by rw [a,j]) (by simpa using f)⟩
 ·cases e
theorem kjJ {l:Ya ((t:Ty)×t.den)} {args:Ya AV} (h:PArgs P [none] l args):∃ a,args=[a]/\PArgs P [] l []:=by
 match args,h with
 | [a],h=>exact ⟨a,rfl,h⟩
 | a::b::r,h=>cases l <;> simp [PArgs] at h
abbrev bldH (T E:TypeId):List (Nat×PB):=[(0,.bx T [.np 0,.mw 1]),(1,.sl E (.i .u8))]
abbrev bldP (T E:TypeId):Pat:=⟨[(0,.ptr 0 0)],bldH T E⟩
abbrev ccM (T E:TypeId):CtrM:=⟨ "",[none],bldP T E,2,bldP T E,2,0,λx=>some x,false⟩
theorem knj {T E:Yc} {x:Ya Int} {a:AV} (R:Rel P κ ln ahN ⟨[],[]⟩ (offD (kai (A:=sem) (bldP T E) 2 [⟨.sl (.i .u8),x⟩])) (kap [a]) h n) :
  ∃ q a0 b,a = .own q 0 0/\κ 0=some q/\h q=some (.cells 2 T [[a0,b]])/\(a0 = .sc (.pointer none)\/a0 = .own q 0 0)/\TVR P κ ln ahN 2 (.mw 1) b/\b.one=true:=by
 have e0:TVR P κ ln ahN 2 (.ptr 0 0) a:=R.env 0;cases e0 with
 | ptr _ _ q hN j=>
  have l:BR P κ ln ahN h 2 0 (.bx T [.np 0,.mw 1]):=R.blk 0 _ rfl;cases l with
  | bx _ _ t vs f o r m=>
   rw [j] at f; cases f;cases r with
   | cons _ a0 _ vs h2 k=>
    cases k with
    | cons _ b _ vs p k=>
     cases k;refine ⟨q,a0,b,rfl,j,o,?_,p,m b (by simp)⟩;cases h2 with
     | np0=>exact .inl rfl
     | np _ t _ e=>rw [j] at e; cases e; exact .inr rfl
theorem ksf (L:Lays.n240 P ρ) (X:Builder.X72 P ρ) {T E:Yc} (hT:ρ.t 72=T) {f:FuncId} (u:ρ.f 240=f) (hP:∃ fn:Func,P.funcs[f]?=some fn/\fn.body.isSome=true/\(fn.name== "runtime.NumGoroutine")=false) :
  (ccM T E).ok=true/\GoodM P f (ccM T E):=by
 refine ⟨rfl,λx y e G I hl r κ ln h n args hP' R=>?_⟩;replace e:some x=some y:=e;cases e;have p:G.length=0:=r;obtain rfl:=List.length_eq_zero_iff.1 p;replace hl:[(⟨.sl (.i .u8),x⟩:(t:Ty)×t.den)]=I:=hl;subst hl;obtain ⟨a,rfl,-⟩:=kjJ hP';obtain ⟨q,a0,F,rfl,m,A,l,D,o⟩:=knj R;refine HC.fin ((HC.ccheck L X u hP (by rw [hT]; exact A) l).mono ?_);rintro v h' n' ⟨rfl,rfl,rfl⟩;rw [hT];refine .inl (AfterM.of (C:=ccM T E) (y:=x) (vs:=[]) (κ':=κ) (ln':=ln) rfl ?_ (λ_ _=>⟨rfl,rfl⟩) [0,1] (λid b j=>?_) (λid k=>?_))
 ·refine Rel.reB (id:=0) (B:=.bx T [.np 0,.mw 1]) R rfl m ?_;refine .bx T _ q [.own q 0 0,F] m (by simp [updH]) (.cons _ _ _ _ (.np 0 q (Nat.zero_lt_two) m) (.cons _ _ _ _ D .nil)) ?_;intro a l;simp at l;rcases l with rfl | rfl
  ·rfl
  ·exact o
 ·replace j:alk [(0,some (.bx T [.np 0,.mw 1])),(1,some (.sl E (.i .u8) x))] id=some b:=j;simp only [alk] at j;split at j
  ·simp_all
  ·split at j
   ·simp_all
   ·cases j
 ·simp at k;rcases k with rfl | rfl
  ·exact ⟨_,rfl⟩
  ·exact ⟨_,rfl⟩
def strOf (l:Ya Int):Yb (Ya UInt8):=if l≠[]/\l.all (λi=>decide (0<=i)&&decide (i<256)) then some (kaG l) else none
abbrev bsM (T E:TypeId):CtrM:=⟨ "",[none],bldP T E,2,⟨[(1000000,.c .s)],[]⟩,2,1,λx=>strOf x,false⟩
theorem krT (L:Lays.n169 P ρ) (X:Builder.Extra P ρ) {T E:Yc} (hT:ρ.t 72=T) (hE:ρ.t 5=E) {f:FuncId} (hf:ρ.f 169=f) (hP:∃ fn:Func,P.funcs[f]?=some fn/\fn.body.isSome=true/\(fn.name== "runtime.NumGoroutine")=false) :
  (bsM T E).ok=true/\GoodM P f (bsM T E):=by
 refine ⟨rfl,λ(x:Ya Int) y m l1 l2 hl h1 κ ln h n args hP' R=>?_⟩;replace m:strOf x=some y:=m;have Y:l1.length=0:=h1;obtain rfl:=List.length_eq_zero_iff.1 Y;replace hl:[(⟨.sl (.i .u8),x⟩:(t:Ty)×t.den)]=l2:=hl;subst hl;obtain ⟨a,rfl,-⟩:=kjJ hP';obtain ⟨q,a0,a1,rfl,u,hh,ha,h3,aa⟩:=knj R;unfold strOf at m;split at m
 ·rename_i hc;cases m;obtain ⟨F,O⟩:=hc;have b1:BR P κ ln ahN h 2 1 (.sl E (.i .u8) x):=R.blk 1 _ rfl;cases b1 with
  | sl0 _ _ _ _ o J=>exact absurd J F
  | sl _ _ _ r es hd hr Z hv he hn=>
   have e1:a1 = .ms r 0 (ln 1):=by
    cases h3 with
    | mw0 _ _ o=>rw [hr] at o; cases o
    | mw _ r' _ o=>rw [hr] at o; cases o; rfl
   subst e1;have D:(kaG x).length=x.length:=by simp [kaG]
   have U:es=(kaG x).map kcH:=by
    apply jdq;intro i;have S:=hv.1;rw [jax] at S;simp only [kaG,List.map_map,jaw];rcases jcj i x.length with I | I
    ·have C:i<es.length:=by omega
     rw [jad I,jad C];have G:=hv.2 i es[i] [.sc (.int .u8 x[i])] (jad C) (by simp [I,Ty.enc]);have Q:=jam.1 O x[i] (jbz I);simp only [jac,jak] at Q;have K:((UInt8.ofNat x[i].toNat).toNat:Int)=x[i]:=by
      rw [UInt8.toNat_ofNat'];omega
     generalize es[i]=e at G ⊢;cases G with
     | cons g1 g2=>
      cases g2;obtain rfl:=g1.sc_inv;simp only [jcb,Function.comp,kcH,K]
    ·rw [jco (by omega),jco (by omega)]; rfl
   have M:ln 1=(kaG x).length:=by rw [D]; exact hn.symm
   refine HC.fin ((HC.bstr (a0:=a0) (r:=r) (l:=kaG x) L X hf hP (by rw [hT,<-M]; exact hh) (by rw [hE,<-U]; exact Z) (by simpa [kaG] using F)).mono ?_);rintro v h' n' ⟨rfl,rfl,rfl⟩;refine .inl ⟨ahN,λq B u=>(by cases u),κ,ln,[.sc (.string ⟨(kaG x).toArray⟩)],rfl,rfl,⟨λs=>?_,λid B hB=>(by cases hB),λid B hB=>(by cases hB),λi j B B' q hB=>(by cases hB),λq B u=>(by cases u),λid B q hB=>(by cases hB),λid B q hB=>(by cases hB),λq u=>rfl,λs v hs=>rfl,λid b K=>(by cases K),λ_=>rfl,λq k T es u=>(by cases u),λid B hB=>(by cases hB)⟩,λq B u=>(by cases u),λp hp=>(by cases hp)⟩;by_cases e:s=1000000
   ·subst e;exact .c .s (kaG x) _ rfl (.free _ (.sc _))
   ·have:tlk (⟨[],[]⟩:Cx sem) (offD (kac (A:=sem) (bsM T E).out 2 (kaG x))) s = .un:=by
     have e2:(offD (kac (A:=sem) (bsM T E).out 2 (kaG x))).env=[(1000000,.c .s (kaG x))]:=rfl;simp [tlk,e2,alk,e]
    rw [this]; exact .un _
 ·cases m
end
def itoaF (x:Int):Yb (Ya UInt8):=if -9223372036854775808<=x/\x<=9223372036854775807 then some (Lib.itoa x) else none
section
variable {P:Ye} {ρ:Ren}
theorem kqS {w:World} (k:Nat) (os:Array Obj):Blw w (Sort.grow (w.drewN k) os):=
 ⟨⟨rfl,rfl,rfl,by simp [Sort.grow,World.drewN],λb a=>by simp [Sort.grow,World.drewN,Array.getElem?_append_left a]⟩,Nat.le_add_right _ _⟩
theorem ksc {w:World} {O:Nat->Prop} {μ:Mu} {n:Nat} {vs:Array Yd} {v:Yd} (e:vs.size=1) (a:∃ u,vs[0]?=some u/\VR w O μ n (.sc v) u):vs = #[v]:=by
 obtain ⟨u,b,h⟩:=a;have:=h.sc_inv;subst this;apply Array.ext
 ·simpa using e
 ·intro i f _;match i with
  | 0=>simpa [jaq (show 0<vs.size by omega)] using b
  | i+1=>omega
theorem kqv {nm:String} {f:FuncId} (A:∀ (x:Int) (w:World),-9223372036854775808<=x/\x<=9223372036854775807->Lib.TabIs P w nm .u64 Lib.pow10Tab->Calls P f #[.int .i64 x] w λe w'=>e = .returned (.string ⟨(Lib.itoa x).toArray⟩)/\∃ k os,w'=Sort.grow (w.drewN k) os)
  {g:Nat} (m:P.globalNamed nm=some g) (j:GPin g=some λc=>c=(Lib.pow10Tab.map λz=>Value.int .u64 z).toArray) (hP:∃ fn:Func,P.funcs[f]?=some fn/\fn.body.isSome=true/\(fn.name== "runtime.NumGoroutine")=false):Good P f ⟨ "",[.i .i64],[.s],λx=>itoaF x,[],[]⟩:=by
 refine ⟨rfl,λx r h l hl=>?_,by simp,by simp⟩;obtain ⟨a,rfl,v⟩:=hl;obtain rfl:=(kco rfl).1 v;replace h:itoaF x=some r:=h;unfold itoaF at h;split at h
 ·rename_i u;cases h;refine ⟨hP,λO w vs p t y=>?_⟩;obtain rfl:=ksc t (y 0 _ rfl);have b:Lib.TabIs P w nm .u64 Lib.pow10Tab:=by
   obtain ⟨c,T,f,o,h2⟩:=p.pin g _ j;unfold Lib.TabIs World.var?;rw [m];simp only [jaf,o,h2]
  refine (A x w u b).mono ?_;rintro e w' ⟨rfl,k,os,rfl⟩;exact ⟨_,_,rfl,rfl,.sc _ rfl,kqS k os⟩
 ·cases h
end
end Go.Abs
namespace Go.Abs
open Go
theorem kaB {α:Type} {l:Ya α} {i:Nat} (h:i<l.length):gi l (i:Int)=some l[i]:=by rw [ksq,jad h]
theorem knS {α β:Type} {F:α->Yb (α⊕β)}:∀ {n:Nat} {x:α} {z:β} (m:Nat),itN F n x=some z->itN F (n+m) x=some z
 | 0,x,z,m,h=>by simp [itN] at h
 | n+1,x,z,m,h=>by
  rw [Nat.succ_add];simp only [itN] at h ⊢;split at h
  ·cases h
  ·rename_i y b; rw [b] at *; exact knS m h
  ·rename_i w a; rw [a] at *; exact h
theorem klb {α β:Type} {F:α->Yb (α⊕β)} {n:Nat} {x:α} {z:β} (h:itN F n x=some z) (hn:n<=18446744073709551616):iter F x=some z:=by
 unfold iter;have:=knS (18446744073709551616-n) h
 rwa [show n+(18446744073709551616-n)=18446744073709551616 by omega] at this
theorem kfC {α β:Type} {F:α->Yb (α⊕β)} {n:Nat} {x:α} {z:β} (h:F x=some (.inr z)):itN F (n+1) x=some z:=by simp [itN,h]
theorem knD {α β:Type} {F:α->Yb (α⊕β)} {n:Nat} {x y:α} (h:F x=some (.inl y)):itN F (n+1) x=itN F n y:=by simp [itN,h]
theorem kaJ {α:Type} (l:Ya α):lenI l=(l.length:Int):=rfl
theorem kay {i:Nat} (h:i<9223372036854775807):w64 ((i:Int)+1)=((i+1:Nat):Int):=by rw [keu (by omega) (by omega)]; rfl
def endL {β:Type}:Yb β->β⊕Unit
 | some b=>.inl b
 | none=>.inr ()
def nextL {β:Type} (i:Nat):Yb β->Int⊕(β⊕Unit)
 | some b=>.inr (.inl b)
 | none=>.inl ((i+1:Nat):Int)
theorem kkk {α β:Type} {F:Int->Yb (Int⊕(β⊕Unit))} (l:Ya α) (hl:l.length<=9223372036854775807) (f:Nat->α->Yb β)
  (o:∀ i,(a:i<l.length)->F (i:Int)=some (nextL i (f i l[i]))) (h2:F (l.length:Int)=some (.inr (.inr ()))) :
  iter F 0=some (endL (l.zipIdx.findSome? λx=>f x.2 x.1)):=by
 have:∀ k i:Nat,i+k=l.length->itN F (k+1) (i:Int)=some (endL (((l.drop i).zipIdx i).findSome? (λx=>f x.2 x.1))):=by
  intro k;induction k with
  | zero=>
   intro i h;have:i=l.length:=by omega
   subst this;rw [kfC h2,List.drop_length]; rfl
  | succ k m=>
   intro i h;have a:i<l.length:=by omega
   rw [List.drop_eq_getElem_cons a,jch,List.findSome?_cons];have e:=o i a;cases j:f i l[i] with
   | some b=>rw [j] at e; rw [kfC e]; rfl
   | none=>rw [j] at e; rw [knD e,m (i+1) (by omega)]
 exact klb (this l.length 0 (by omega)) (by omega)
theorem khw {α:Type} {a b:Ya α} (h:a.length+b.length<=1048576):gapp a b=some (a++b):=by unfold gapp; rw [if_pos h]
def wi (a b n:Int):Bool:=decide (a<=n)&&decide (n<=b)
theorem kgf {a b n:Int}:wi a b n=true↔a<=n/\n<=b:=by unfold wi; simp
theorem kpa {α:Type} (p:α->Bool) (l:Ya α):(l.any λx=>!p x) = !l.all p:=by
 induction l with
 | nil=>rfl
 | cons x l a=>simp only [List.any_cons,jdi,a,Bool.not_and]
theorem lenI_lt {α:Type} {l:Ya α} {i:Nat}:decide ((i:Int)<lenI l)=true↔i<l.length:=by rw [kaJ,jak]; omega
theorem kaC {α:Type} {l:Ya α}:¬ decide ((l.length:Int)<lenI l)=true:=by rw [lenI_lt]; omega
end Go.Abs
namespace Go.Abs
open Go Go.RowKit
inductive Sh where
 | int (k:IntKind)
 | bool
 | str
 | sl (e:Sh)
 | st (fs:List Sh)
def kem (P:Ye):Ya Field->Nat->Nat->Bool
 | [],o,n=>o==n
 | f::fs,o,n=>f.offset==o&&kem P fs (o+P.cellsOf f.type) n
def shapeOf (P:Ye):Nat->Yc->Yb Sh
 | 0,_=>none
 | d+1,t=>match P.underlying t with
  | some .bool=>some .bool
  | some (.int k)=>some (.int k)
  | some .string=>some .str
  | some (.slice e)=>if P.cellsOf e=0 then none else (shapeOf P d e).map .sl
  | some (.struct fs)=>if kem P fs.toList 0 (P.cellsOf t) then (fs.toList.mapM λf=>shapeOf P d f.type).map .st else none
  | some (.array n e)=>if n*P.cellsOf e=P.cellsOf t then (shapeOf P d e).map λs=>.st (List.replicate n s) else none
  | _=>none
inductive Enc:Sh->List AV->Prop
 | int (k:IntKind) (n:Int) (h:(Lit.int k n).wf=true):Enc (.int k) [.sc (.int k n)]
 | bool (b:Bool):Enc .bool [.sc (.bool b)]
 | str (s:ByteArray) (h:s.size<=maxLen):Enc .str [.sc (.string s)]
 | sl (e:Sh) (es:List (List AV)) (h:∀ x∈es,Enc e x) (hl:es.length<=maxLen):Enc (.sl e) [.sl es]
 | nil:Enc (.st []) []
 | cons (s:Sh) (ss:List Sh) (a asZ:List AV) (h1:Enc s a) (h2:Enc (.st ss) asZ):Enc (.st (s::ss)) (a++asZ)
abbrev noO:Nat->Prop:=λ_=>False
def CR (w:World) (asZ:Ya AV) (cs:Ya Yd):Prop:=
 asZ.length=cs.length/\∀ (j:Nat) (a:AV),asZ[j]?=some a->a.one=true/\∃ v,cs[j]?=some v/\VR w noO mu0 0 a v
theorem CR.nil {w:World}:CR w [] []:=⟨rfl,λj a h=>by simp at h⟩
theorem CR.one {w:World} {a:AV} {v:Yd} (e:a.one=true) (h:VR w noO mu0 0 a v):CR w [a] [v]:=⟨rfl,λj x b=>by
 cases j with
 | zero=>simp at b; subst b; exact ⟨e,v,rfl,h⟩
 | succ j=>simp at b⟩
theorem CR.append {w:World} {asZ bs:Ya AV} {cs k:Ya Yd} (h:CR w asZ cs) (g:CR w bs k):CR w (asZ++bs) (cs++k):=by
 refine ⟨by simp [h.1,g.1],λj a b=>?_⟩;rw [jbn] at b;split at b
 ·rename_i e;obtain ⟨f,v,h2,i⟩:=h.2 j a b;exact ⟨f,v,by rw [jbp (by rw [<-h.1]; exact e)]; exact h2,i⟩
 ·rename_i l;obtain ⟨f,v,h2,i⟩:=g.2 _ a b;exact ⟨f,v,by rw [jck (by rw [<-h.1]; omega),<-h.1]; exact h2,i⟩
theorem noAv (b:Nat):¬ Av noO mu0 b:=by
 rintro (h | ⟨_,_,h⟩)
 ·exact h
 ·cases h
section
variable {H:Type} {enc:Yc×Yd->H} {P:Ye} {w:World} {held:Bool}
theorem kjN {d fuel:Nat} (A:∀ (t:Yc) (v:Sh) (cs:Ya Yd) (x:DataW H×Ya MemPlace),shapeOf P d t=some v->DataW.trod enc P w 0 (λ_=>true) held fuel t cs=some x->∃ asZ,Enc v asZ/\CR w asZ cs) {cs:Ya Yd} :
  ∀ (j:Ya Field) (o:Nat) (b:Ya Sh) (xs:Ya (DataW H×Ya MemPlace)),kem P j o cs.length=true->(j.mapM λf=>shapeOf P d f.type)=some b->
   (j.mapM λf=>DataW.trod enc P w 0 (λ_=>true) held fuel f.type ((cs.drop f.offset).take (P.cellsOf f.type)))=some xs->(∀ f∈j,f.offset+P.cellsOf f.type<=cs.length)->∃ asZ,Enc (.st b) asZ/\CR w asZ (cs.drop o)
 | [],o,b,xs,i,hs,hx,hle=>by
  simp [kem] at i;simp at hs; subst hs;exact ⟨[],.nil,by rw [i]; simp; exact CR.nil⟩
 | f::j,o,b,xs,i,hs,hx,hle=>by
  simp only [kem,jac,beq_iff_eq] at i;obtain ⟨rfl,i⟩:=i;simp only [jdh,Option.bind_eq_bind,jaa,Option.pure_def,Option.some.injEq] at hs hx;obtain ⟨s,p,u,r,rfl⟩:=hs;obtain ⟨y,C,ys,m,rfl⟩:=hx;obtain ⟨a,D,l⟩:=A _ _ _ _ p C;obtain ⟨asZ,has,k⟩:=kjN A j _ u ys i r m λg B=>hle g (jbc _ B);refine ⟨a++asZ,.cons s u a asZ D has,?_⟩;have e:cs.drop f.offset=(cs.drop f.offset).take (P.cellsOf f.type)++cs.drop (f.offset+P.cellsOf f.type):=by
   rw [<-List.drop_drop]; exact (List.take_append_drop _ _).symm
  rw [e];exact l.append k
theorem klc {P:Ye}:∀ (a:Ya Field) (o n:Nat),kem P a o n=true->o<=n/\∀ f∈a,f.offset+P.cellsOf f.type<=n
 | [],o,n,h=>by simp [kem] at h; exact ⟨by omega,λf e=>by simp at e⟩
 | f::a,o,n,h=>by
  simp only [kem,jac,beq_iff_eq] at h;obtain ⟨i,h2⟩:=klc a _ _ h.2;refine ⟨by omega,λg b=>?_⟩;rcases jbu.1 b with rfl | b
  ·rw [h.1]; exact i
  ·exact h2 g b
theorem klx {d fuel:Nat} (m:∀ (t:Yc) (b:Sh) (cs:Ya Yd) (x:DataW H×Ya MemPlace),shapeOf P d t=some b->DataW.trod enc P w 0 (λ_=>true) held fuel t cs=some x->∃ asZ,Enc b asZ/\CR w asZ cs) {e:Yc} {b:Sh} (j:shapeOf P d e=some b) (cs:Ya Yd) :
  ∀ (n o:Nat),(∀ i,i<n->∃ x,DataW.trod enc P w 0 (λ_=>true) held fuel e ((cs.drop ((o+i)*P.cellsOf e)).take (P.cellsOf e))=some x)->(o+n)*P.cellsOf e=cs.length->∃ asZ,Enc (.st (List.replicate n b)) asZ/\CR w asZ (cs.drop (o*P.cellsOf e))
 | 0,o,_,hl=>⟨[],.nil,by rw [show o*P.cellsOf e=cs.length by simpa using hl]; simp; exact CR.nil⟩
 | n+1,o,h,hl=>by
  obtain ⟨x,l⟩:=h 0 (by omega);simp only [Nat.add_zero] at l;obtain ⟨a,r,k⟩:=m _ _ _ _ j l;obtain ⟨asZ,has,f⟩:=klx m j cs n (o+1) (λi u=>by rw [show o+1+i=o+(i+1) by omega]; exact h (i+1) (by omega)) (by rw [<-hl]; congr 1; omega);refine ⟨a++asZ,.cons b _ a asZ r has,?_⟩;have p:cs.drop (o*P.cellsOf e)=(cs.drop (o*P.cellsOf e)).take (P.cellsOf e)++cs.drop ((o+1)*P.cellsOf e):=by
   rw [jbx,Nat.one_mul,<-List.drop_drop]; exact (List.take_append_drop _ _).symm
  rw [p];exact k.append f
theorem kmU:∀ (d:Nat) (fuel:Nat) (t:Yc) (R:Sh) (cs:Ya Yd) (x:DataW H×Ya MemPlace),shapeOf P d t=some R->DataW.trod enc P w 0 (λ_=>true) held fuel t cs=some x->∃ asZ,Enc R asZ/\CR w asZ cs
 | 0,_,_,_,_,_,h,_=>by cases h
 | d+1,0,t,R,cs,x,_,l=>by simp [DataW.trod] at l
 | d+1,fuel+1,t,R,cs,x,h,l=>by
  have ih:=λt R cs x=>kmU d fuel t R cs x;simp only [shapeOf] at h;unfold DataW.trod at l;cases hu:P.underlying t with
  | none=>simp [hu] at h
  | some u=>
   simp only [hu] at h l;cases u <;> simp only [reduceCtorEq] at h;case bool=>
    cases h;split at l <;> simp only [reduceCtorEq,Option.some.injEq,TypeDesc.int.injEq] at * <;> try contradiction
    rename_i b _;exact ⟨_,.bool b,CR.one rfl (.sc _ rfl)⟩
   case int k=>
    cases h;split at l <;> simp only [reduceCtorEq,Option.some.injEq,TypeDesc.int.injEq] at * <;> try contradiction
    rename_i A;subst A;split at l
    ·rename_i X;obtain ⟨rfl,hw⟩:=X;exact ⟨_,.int _ _ hw,CR.one rfl (.sc _ rfl)⟩
    ·cases l
   case string=>
    cases h;split at l <;> simp only [reduceCtorEq,Option.some.injEq] at * <;> try contradiction
    split at l
    ·rename_i X;exact ⟨_,.str _ X,CR.one rfl (.sc _ rfl)⟩
    ·cases l
   case slice e=>
    split at h
    ·cases h
    rename_i hk;cases r:shapeOf P d e with
    | none=>simp [r] at h
    | some C=>
    simp only [r,jcb,Option.some.injEq] at h;subst h;split at l <;> simp only [reduceCtorEq,Option.some.injEq,TypeDesc.slice.injEq] at * <;> try contradiction
    ·exact ⟨_,.sl C [] (λx l=>by simp at l) (by simp),CR.one rfl (.slnil none)⟩
    ·rename_i a len cap A;subst A;split at l
     ·rename_i hb;obtain ⟨J,he,l⟩:=jaa.1 l;simp only [if_true] at l;obtain ⟨rest,D,-⟩:=jab.1 l;have aj:=mapM_some_length he;have ai:=mapM_some_length D;simp only [List.length_range] at aj ai;have Y:∀ i:Nat,∃ p:Ya Yd×Ya AV,i<cap->w.cells? 0 (a.add (i*P.cellsOf e)) (P.cellsOf e)=some p.1/\Enc C p.2/\CR w p.2 p.1:=by
       intro i;by_cases m:i<cap
       ·have:∃ y,((w.cells? 0 (a.add (i*P.cellsOf e)) (P.cellsOf e)).bind (DataW.trod enc P w 0 (λ_=>true) held fuel e))=some y:=by
         by_cases ak:i<len
         ·have:=mapM_some_get he i i (by simp [ak]);exact ⟨J[i]'(by omega),by rw [this]; exact jad _⟩
         ·have:=mapM_some_get D (i-len) (i-len) (by rw [List.getElem?_range (by omega)]);rw [show len+(i-len)=i by omega] at this;exact ⟨rest[i-len]'(by omega),by rw [this]; exact jad _⟩
        obtain ⟨y,hy⟩:=this;obtain ⟨aa,X,hy⟩:=jaa.1 hy;obtain ⟨asZ,g1,g2⟩:=ih e C aa y r hy;exact ⟨(aa,asZ),λ_=>⟨X,g1,g2⟩⟩
       ·exact ⟨([],[]),λh=>absurd h m⟩
      obtain ⟨F,hF⟩:=Classical.axiomOfChoice Y;by_cases S:cap=0
      ·subst S;obtain rfl:len=0:=by omega
       exact ⟨[.sl []],.sl C [] (λx l=>by simp at l) (by simp),CR.one rfl (.slnil _)⟩
      ·have L:a.spot=none:=by
        obtain ⟨A,-,-⟩:=hF 0 (by omega);obtain ⟨-,h2,h3⟩:=World.cells?_some A;have h4:=h3 0 (by omega);rw [jad (by omega)] at h4;have:=World.cell?_spot h4;simpa [Addr.add] using this
       obtain ⟨b,o,al⟩:=a;subst L;have T:((List.range len).map λi=>(F i).2).length=len:=by simp
       have U:∀ (i:Nat) (c:Ya AV),((List.range len).map λi=>(F i).2)[i]?=some c->i<len/\c=(F i).2:=λi c m=>by
        simp only [jaw,jab] at m;obtain ⟨i',K,rfl⟩:=m;have M:i<len:=by have:=(jae.1 K).1; simpa using this
        rw [List.getElem?_range M] at K;cases K;exact ⟨M,rfl⟩
       have B:∀ (i:Nat) (c:Ya AV),((List.range len).map λi=>(F i).2)[i]?=some c->c.length=P.cellsOf e/\∀ (j:Nat) (x:AV),c[j]?=some x->x.one=true/\w.cell? ⟨b,o+i*P.cellsOf e+j,none⟩=some (((F i).1[j]?).getD undef)/\VR w noO mu0 0 x (((F i).1[j]?).getD undef):=λi c m=>by
        obtain ⟨M,rfl⟩:=U i c m;obtain ⟨A,h2,h3,h4⟩:=hF i (by omega);obtain ⟨-,h5,h6⟩:=World.cells?_some A;refine ⟨by omega,λj x I=>?_⟩;obtain ⟨g1,v,g2,g3⟩:=h4 j x I;have am:=(jae.1 I).1;have h7:=h6 j (by omega);rw [kdH,kdH] at h7;rw [h7,g2];exact ⟨g1,rfl,g3⟩
       refine ⟨[.sl ((List.range len).map λi=>(F i).2)],.sl C _ (λx l=>?_) (by omega),CR.one rfl ?_⟩
       ·simp only [jaz,jdt] at l;obtain ⟨i,m,rfl⟩:=l;exact (hF i (by omega)).2.1
       ·have E:=VR.sl (w:=w) (O:=noO) (μ:=mu0) (n:=0) ((List.range len).map λi=>(F i).2) b o cap (P.cellsOf e) (λi j=>((F i).1[j]?).getD undef) (by omega) (by omega) (λ_ _ _ _=>noAv b)
         (λi c m=>(B i c m).1) (λi c m j x I=>((B i c m).2 j x I).2.1) (λi c m j x I=>((B i c m).2 j x I).1) (λi c m j x I=>((B i c m).2 j x I).2.2)
        rw [T] at E;exact E
     ·cases l
   case struct fs=>
    split at h
    ·rename_i ho;cases Q:fs.toList.mapM λf=>shapeOf P d f.type with
     | none=>rw [Q] at h; cases h
     | some ae=>
     rw [Q] at h;cases h;split at l <;> simp only [reduceCtorEq,Option.some.injEq,TypeDesc.struct.injEq] at * <;> try contradiction
     ·rename_i A;subst A;split at l
      ·rename_i hl;obtain ⟨xs,G,-⟩:=jab.1 l;obtain ⟨asZ,A,h2⟩:=kjN ih fs.toList 0 ae xs (by rw [hl]; exact ho) Q G (by rw [hl]; exact (klc _ _ _ ho).2);exact ⟨asZ,A,by simpa using h2⟩
      ·cases l
     ·exact (‹∀ Z:Array Field,fs=Z->False› _ rfl).elim
    ·cases h
   case array n e=>
    split at h
    ·rename_i ho;cases r:shapeOf P d e with
     | none=>rw [r] at h; cases h
     | some C=>
     rw [r] at h;cases h;split at l <;> simp only [reduceCtorEq,Option.some.injEq,TypeDesc.array.injEq] at * <;> try contradiction
     ·rename_i A;obtain ⟨rfl,rfl⟩:=A;split at l
      ·rename_i hl;obtain ⟨xs,G,-⟩:=jab.1 l;rename_i ac _ _;have af:=mapM_some_length G;simp only [List.length_range] at af;have ah:∀ i,i<n->∃ x,DataW.trod enc P w 0 (λ_=>true) held fuel e ((List.drop ((0+i)*P.cellsOf e) ac).take (P.cellsOf e))=some x:=λi m=>by
        have:=mapM_some_get G i i (by simp [m]);rw [jbw,this];exact ⟨_,jad (by omega)⟩
       obtain ⟨asZ,A,h2⟩:=klx ih r _ n 0 ah (by rw [hl,<-ho]; simp);exact ⟨asZ,A,by simpa using h2⟩
      ·cases l
     ·exact (‹∀ (ab:Nat) (ad:Yc),n=ab/\e=ad->False› _ _ ⟨rfl,rfl⟩).elim
    ·cases h
end
end Go.Abs
namespace Go.Abs
open Go Go.RowKit Go.ChangeShapes Go.WideShapes
def EncP:Sh->AV->Prop
 | .st fs,a=>∃ asZ,a = .ag asZ/\Enc (.st fs) asZ
 | s,a=>Enc s [a]
def EncPs:Ya Sh->Ya AV->Prop
 | [],[]=>True
 | s::ss,a::asZ=>EncP s a/\EncPs ss asZ
 | _,_=>False
section
variable {H:Type} {enc:Yc×Yd->H} {P:Ye} {W:World}
theorem EncP.of_one {b:Sh} {a:AV} (h:Enc b [a]) (f:∀ e,b≠.st e):EncP b a:=by
 cases b <;> first | exact h | exact absurd rfl (f _)
theorem CR.ag {asZ:Ya AV} {cs:Array Yd} (h:CR W asZ cs.toList):VR W noO mu0 0 (.ag asZ) (.agg cs):=by
 refine .ag asZ cs (λj=>cs.getD j undef) (by simpa using h.1.symm) (λj c a=>?_) (λj c a=>(h.2 j c a).1) (λj c a=>?_);all_goals
  obtain ⟨e,v,h2,b⟩:=h.2 j c a;rw [jcm] at h2;simp only [jag,h2,jby]
 exact b
theorem kqg {d:Nat} {t:Yc} {l:Sh} {v:Yd} {x:DataW H} {p:Ya MemPlace} {r:Reach} {b:Nat} (i:shapeOf P d t=some l) (A:Value.okWide P W r b t v) (D:DataW.Trod enc P W 0 (λ_=>true) true t v x p) :
  ∃ a,EncP l a/\VR W noO mu0 0 a v:=by
 obtain ⟨fuel,E⟩:=D;obtain ⟨asZ,m,h2⟩:=kmU d fuel t l _ _ i E;have f:∀ {l:Sh} {u:Yd},Enc l asZ->CR W asZ [u]->(∀ B,l≠.st B)->∃ a,EncP l a/\VR W noO mu0 0 a u:=by
  intro l u C y F;match asZ,C,y with
  | [a],C,y=>
   obtain ⟨_,v,e,g⟩:=y.2 0 a rfl;simp at e; subst e;exact ⟨a,.of_one C F,g⟩
  | [],_,y=>have:=y.1; simp at this
  | _::_::_,_,y=>have:=y.1; simp at this
 cases d with
 | zero=>cases i
 | succ d=>
  simp only [shapeOf] at i;cases o:P.underlying t with
  | none=>simp [o] at i
  | some u=>
   simp only [o] at i;cases u <;> simp only [reduceCtorEq] at i;case bool=>obtain ⟨b,rfl⟩:=okWide_bool o A; cases i; exact f m (by simpa [Value.cells] using h2) (by simp)
   case int k=>obtain ⟨b,rfl⟩:=okWide_int o A; cases i; exact f m (by simpa [Value.cells] using h2) (by simp)
   case string=>obtain ⟨b,rfl⟩:=okWide_string o A; cases i; exact f m (by simpa [Value.cells] using h2) (by simp)
   case slice e=>
    obtain ⟨a,len,cap,rfl⟩:=okWide_slice o A;have:∀ B,l≠.st B:=by
     rintro B rfl;split at i
     ·cases i
     ·obtain ⟨_,_,h⟩:=jab.1 i; cases h
    exact f m (by simpa [Value.cells] using h2) this
   case struct B=>
    obtain ⟨cs,rfl,_⟩:=okWide_struct o A;obtain ⟨j,rfl⟩:∃ j,l = .st j:=by
     split at i
     ·obtain ⟨s,_,h⟩:=jab.1 i; exact ⟨s,h.symm⟩
     ·cases i
    exact ⟨.ag asZ,⟨asZ,rfl,m⟩,CR.ag (by simpa [Value.cells] using h2)⟩
   case array n e=>
    obtain ⟨cs,rfl,_⟩:∃ cs,v = .agg cs/\cs.size=P.cellsOf t:=by
     simp only [Value.okWide,o] at A;obtain ⟨cs,m,h2,_⟩:=A;exact ⟨cs,m,h2⟩
    obtain ⟨j,rfl⟩:∃ j,l = .st j:=by
     split at i
     ·obtain ⟨s,_,h⟩:=jab.1 i; exact ⟨_,h.symm⟩
     ·cases i
    exact ⟨.ag asZ,⟨asZ,rfl,m⟩,CR.ag (by simpa [Value.cells] using h2)⟩
theorem kjB {d:Nat} {r:Reach} {b:Nat}:∀ {ts:Ya Yc} {e:Ya Sh} {vs:Ya Yd} {f:Ya (DataW H)} {k:Ya MemPlace},ts.mapM (shapeOf P d)=some e->
  (∀ (j:Nat) t v,ts[j]?=some t->vs[j]?=some v->Value.okWide P W r b t v)->DataW.TrodAll enc P W 0 (λ_=>true) true ts vs f k->
  ∃ asZ,EncPs e asZ/\vs.length=asZ.length/\f.length=ts.length/\∀ (j:Nat) (c:AV),asZ[j]?=some c->∃ u,vs[j]?=some u/\VR W noO mu0 0 c u
 | [],e,vs,f,k,hs,hv,ht=>by
  simp at hs; subst hs;cases vs <;> cases f <;> simp [DataW.TrodAll] at ht;exact ⟨[],trivial,rfl,rfl,λj c i=>by simp at i⟩
 | t::ts,e,vs,f,k,hs,hv,ht=>by
  simp only [jdh,Option.bind_eq_bind,jaa,Option.pure_def,Option.some.injEq] at hs;obtain ⟨s,l,J,m,rfl⟩:=hs;obtain ⟨v,E,K,A,p,q,rfl,rfl,rfl,y,h2⟩:=trodAll_cons ht;obtain ⟨a,C,o⟩:=kqg l (hv 0 t v rfl rfl) y;obtain ⟨asZ,x,D,I,F⟩:=kjB m (λj t v G B=>hv (j+1) t v (by simpa using G) (by simpa using B)) h2;refine ⟨a::asZ,⟨C,x⟩,by simp [D],by simp [I],λj c i=>?_⟩;cases j with
  | zero=>simp at i; subst i; exact ⟨v,rfl,o⟩
  | succ j=>simpa using F j c (by simpa using i)
theorem khf (hl:laidOutB P=true) {k:World} (j:Below W.heap.size W k):∀ {ts:Ya Yc} {vs:Ya Yd} {e:Ya (DataW H)} {a:Ya MemPlace},(∀ t∈ts,P.readableRec t=true/\t<P.types.size)->
  DataW.TrodAll enc P W 0 (λ_=>true) true ts vs e a->(∀ x∈a,x.block<W.heap.size)->DataW.TrodAll enc P k 0 (λb=>decide (b<W.heap.size)) true ts vs e a
 | [],vs,e,a,_,h,_=>by cases vs <;> cases e <;> simp [DataW.TrodAll] at h ⊢; exact h
 | t::ts,vs,e,a,hr,h,hlt=>by
  obtain ⟨v,r,d,o,p,q,rfl,rfl,rfl,m,h2⟩:=trodAll_cons h;obtain ⟨l,r2⟩:=hr t (by simp);exact ⟨p,q,Below.trod hl l r2 m j λx i=>hlt x (by simp [i]),khf hl j (λt' f=>hr t' (by simp [f])) h2 λx i=>hlt x (by simp [i]),rfl⟩
end
end Go.Abs
namespace Go.Abs
open Go
def Dec {α:Type} (a:Sh) (f:α->Ya AV) (ok:α->Prop):Prop:=∀ asZ,Enc a asZ->∃ x,asZ=f x/\ok x
def okI (k:IntKind) (n:Int):Prop:=(Lit.int k n).wf=true
def okS (l:Ya UInt8):Prop:=l.length<=maxLen
def okL {α:Type} (ok:α->Prop) (l:Ya α):Prop:=l.length<=maxLen/\∀ x∈l,ok x
theorem krI:Dec .str str1 okS:=λasZ h=>by
 cases h with
 | str s h=>exact ⟨s.data.toList,by simp,by simpa [okS] using h⟩
theorem ksv {α:Type} {e:Sh} {f:α->Ya AV} {ok:α->Prop} (h:Dec e f ok):Dec (.sl e) (sl1 f) (okL ok):=λasZ m=>by
 cases m with
 | sl _ es o hl=>
  have:∀ es:Ya (Ya AV),(∀ x∈es,Enc e x)->∃ l:Ya α,es=l.map f/\∀ x∈l,ok x:=by
   intro es;induction es with
   | nil=>exact λ_=>⟨[],rfl,λx k=>by cases k⟩
   | cons a es p=>
    intro h2;obtain ⟨x,rfl,j⟩:=h a (h2 a (by simp));obtain ⟨l,rfl,i⟩:=p λy b=>h2 y (by simp [b]);exact ⟨x::l,rfl,λy b=>by
     rcases jbu.1 b with rfl | b
     ·exact j
     ·exact i y b⟩
  obtain ⟨l,rfl,i⟩:=this es o;exact ⟨l,rfl,by simpa using hl,i⟩
theorem kkR {asZ:Ya AV} (h:Enc (.st []) asZ):asZ=[]:=by cases h; rfl
theorem kgF {s:Sh} {b:Ya Sh} {bs:Ya AV} (h:Enc (.st (s::b)) bs):∃ a asZ,bs=a++asZ/\Enc s a/\Enc (.st b) asZ:=by
 cases h with
 | cons _ _ a asZ e h2=>exact ⟨a,asZ,rfl,e,h2⟩
theorem klB {xs:Ya AV} (h:EncPs [] xs):xs=[]:=by cases xs with | nil=>rfl | cons _ _=>exact h.elim
theorem kkl {s:Sh} {b:Ya Sh} {xs:Ya AV} (h:EncPs (s::b) xs):∃ a asZ,xs=a::asZ/\EncP s a/\EncPs b asZ:=by
 cases xs with
 | nil=>exact h.elim
 | cons a asZ=>exact ⟨a,asZ,rfl,h.1,h.2⟩
end Go.Abs
namespace Go.Abs
open Go Go.RowKit
def okT:(t:Ty)->t.den->Prop
 | .i k,n=>okI k n
 | .s,l=>okS l
 | .sl t,l=>okL (okT t) l
 | .pr t u,x=>okT t x.1/\okT u x.2
 | .w t,x=>okT t x
 | _,_=>True
def okTs:(ts:Ya Ty)->(tup ts).den->Prop
 | [],_=>True
 | [t],x=>okT t x
 | t::u::ts,x=>okT t x.1/\okTs (u::ts) x.2
mutual
def shOk:Sh->Ty->Bool
 | .int k,.i k'=>k==k'
 | .bool,.b=>true
 | .str,.s=>true
 | .sl e,.sl t=>shOk e t
 | .st [],.un=>true
 | .st [f],.w t=>shOk f t
 | .st (f::g::fs),.pr t u=>shOk f t&&stOk (g::fs) u
 | _,_=>false
def stOk:Ya Sh->Ty->Bool
 | [f],t=>shOk f t
 | f::fs,.pr t u=>shOk f t&&stOk fs u
 | _,_=>false
end
mutual
theorem kfr:∀ (o:Sh) (t:Ty),shOk o t=true->Dec o t.enc (okT t)
 | .int k,.i k',h=>by
  simp only [shOk,beq_iff_eq] at h;subst h;intro asZ j;cases j with | int _ n h=>exact ⟨n,rfl,h⟩
 | .bool,.b,_=>by
  intro asZ j;cases j with | bool b=>exact ⟨b,rfl,trivial⟩
 | .str,.s,_=>krI
 | .sl e,.sl t,h=>ksv (kfr e t (by simpa [shOk] using h))
 | .st [],.un,_=>λasZ j=>⟨(),kkR j,trivial⟩
 | .st [f],.w t,h=>λasZ j=>by
  obtain ⟨a,bs,rfl,m,h2⟩:=kgF j;cases kkR h2;obtain ⟨x,rfl,l⟩:=kfr f t (by simpa [shOk] using h) a m;exact ⟨x,by rw [jbf]; rfl,l⟩
 | .st (f::g::fs),.pr t u,h=>λasZ j=>by
  simp only [shOk,jac] at h;obtain ⟨a,bs,rfl,m,h2⟩:=kgF j;obtain ⟨x,rfl,l⟩:=kfr f t h.1 a m;obtain ⟨y,rfl,p⟩:=kqO (g::fs) u h.2 bs h2;exact ⟨(x,y),rfl,l,p⟩
theorem kqO:∀ (b:Ya Sh) (t:Ty),stOk b t=true->∀ asZ,Enc (.st b) asZ->∃ x,asZ=t.enc x/\okT t x
 | [f],t,h,asZ,ha=>by
  obtain ⟨a,bs,rfl,i,h2⟩:=kgF ha;cases kkR h2;obtain ⟨x,rfl,e⟩:=kfr f t (by simpa [stOk] using h) a i;exact ⟨x,by rw [jbf],e⟩
 | f::g::b,.pr t u,h,asZ,ha=>by
  simp only [stOk,jac] at h;obtain ⟨a,bs,rfl,i,h2⟩:=kgF ha;obtain ⟨x,rfl,e⟩:=kfr f t h.1 a i;obtain ⟨y,rfl,j⟩:=kqO (g::b) u h.2 bs h2;exact ⟨(x,y),rfl,e,j⟩
end
theorem koY {j:Sh} {t:Ty} (h:shOk j t=true) {a:AV} (k:EncP j a):∃ x,t.dat=true->a=t.av x/\okT t x:=by
 cases j with
 | st b=>
  obtain ⟨asZ,rfl,m⟩:=k;obtain ⟨x,rfl,i⟩:=kfr (.st b) t h asZ m;refine ⟨x,λ_=>⟨?_,i⟩⟩;have:t.agg=true:=by
   cases t <;> first | rfl | (cases b with
    | nil=>simp [shOk] at h
    | cons f b=>cases b <;> simp [shOk] at h)
  rw [kcT this]
 | _=>
  obtain ⟨x,e,i⟩:=kfr _ t h [a] k;refine ⟨x,λl=>⟨?_,i⟩⟩;have:t.agg=false:=by
   cases t <;> first | rfl | simp [shOk] at h
  have:=kcV (x:=x) this l;rw [<-e] at this;exact (List.cons.inj this).1
def shsOk:Ya Sh->Ya Ty->Bool
 | [],[]=>true
 | s::ss,t::ts=>shOk s t&&t.dat&&shsOk ss ts
 | _,_=>false
theorem decPs {P:Ye}:∀ {e:Ya Sh} {ts:Ya Ty} {xs:Ya AV},shsOk e ts=true->EncPs e xs->∃ x:(tup ts).den,AR P ts x xs/\okTs ts x
 | [],[],xs,h,he=>by cases klB he; exact ⟨(),rfl,trivial⟩
 | s::b,[t],xs,h,he=>by
  simp only [shsOk,jac] at h;obtain ⟨a,asZ,rfl,f,h2⟩:=kkl he;cases b with
  | cons s' b=>simp [shsOk] at h
  | nil=>
   cases klB h2;obtain ⟨x,j⟩:=koY h.1.1 f;obtain ⟨rfl,i⟩:=j h.1.2;exact ⟨x,⟨_,rfl,(kco h.1.2).2 rfl⟩,i⟩
 | s::b,t::u::ts,xs,h,he=>by
  rw [show shsOk (s::b) (t::u::ts)=(shOk s t&&t.dat&&shsOk b (u::ts)) from rfl] at h;simp only [jac] at h;obtain ⟨a,asZ,rfl,f,h2⟩:=kkl he;obtain ⟨x,j⟩:=koY h.1.1 f;obtain ⟨rfl,i⟩:=j h.1.2;obtain ⟨y,l,k⟩:=decPs (ts:=u::ts) h.2 h2;exact ⟨(x,y),⟨_,_,rfl,(kco h.1.2).2 rfl,l⟩,i,k⟩
 | [],_::_,xs,h,he=>by simp [shsOk] at h
 | _::_,[],xs,h,he=>by simp [shsOk] at h
theorem okI_u8 {n:Int} (h:okI .u8 n):0<=n:=by
 simp [okI,Lit.wf,IntKind.min,IntKind.max,IntKind.signed,IntKind.bits] at h;omega
theorem law_of {P:Ye} {g:FuncId} {C:Ctr} (hG:Good P g C) {a:Ya Sh} (i:shsOk a C.asZ=true) (hF:∀ x,okTs C.asZ x->∃ r,C.F x=some r/\rav C.rs r = .sc (.bool true)) (xs:Ya AV) (f:EncPs a xs):PC P g xs (·= .sc (.bool true)):=by
 obtain ⟨x,j,b⟩:=decPs (P:=P) i f;obtain ⟨r,hr,e⟩:=hF x b;have:=hG.2.1 x r hr xs j;rw [e] at this;exact this
end Go.Abs
namespace Go.Abs
open Go Go.ChangeShapes Go.WideShapes Go.ChangeAt Go.RowKit
variable {H:Type} {enc:Yc×Yd->H}
theorem law_lifted_laid {C:Checked} {os:Os} {f:FuncId} {fn:Func} {s:ChangeSpec} {laidL:Ya (String×DataW Unit)} (J:ownKnob C.prog.godebug=none) (a:os.Started) (B:laidOutB C.prog=true) (noInit:C.prog.inits.idxOf? f=none) (L:C.prog.funcs[f]?=some fn)
  (l:∃ (w:World) (tape:Tape) (i:Input),w.os=os/\(w.forCall tape i).Shaped C.prog/\i.vars=[]/\Input.okWide C.prog (w.forCall tape i) .any w.heap.size f i/\
   ((s.pre enc C.prog fn [] false (w.forCall tape i).memory i.args/\laidMetH C.prog laidL (w.forCall tape i).memory)/\sizedMet enc C.prog fn (OpenSpec.ofChange s) false (w.forCall tape i).memory i.args)/\({}:Assume).holds C.prog (lone (Frame.enter C.prog f i.args .normal) [] (w.forCall tape i)))
  (k:s.vars=[]) (m:∀ y:Ya (DataW H),y.length=fn.params.toList.length->s.fn H y = { results:=[.lit (.bool true)],args:=y })
  {tb:Yc} (E:fn.resultTypes = #[tb]) (Q:C.prog.underlying tb=some .bool) {d:Nat} {A:Ya Sh} (K:fn.params.toList.mapM (shapeOf C.prog d)=some A)
  (o:fn.params.toList.all (λt=>C.prog.readableRec t&&decide (t<C.prog.types.size))=true) (pc:∀ asZ,EncPs A asZ->PC C.prog f asZ (·= .sc (.bool true)))
  (hG:∀ W:World,laidMetH C.prog laidL W->∀ b x,GPin b=some x->PinAt x W.heap[b]?) :
  ReturnsInHanded {} C os f .any (λw args=>(s.pre enc C.prog fn [] false w args/\laidMetH C.prog laidL w)/\sizedMet enc C.prog fn (OpenSpec.ofChange s) false w args) (s.post enc C.prog fn false true false false):=by
 refine returnsInHanded_of_change_and (X:=λw _=>laidMetH C.prog laidL w) (λ_ _ _ U h=>h.of_heap U) J a noInit L l ?_;intro W base args y gs F D hW M _ hL _;have hW':=hW;obtain ⟨p,q,hA,hV,rfl,aa,Z⟩:=hW;rw [k] at hV;obtain ⟨rfl,rfl⟩:=trodVars_none hV;obtain ⟨asZ,S,h2,h3,R⟩:=kjB K (λj t v e1 T=>D j t v (by simpa using e1) (by simpa using T)) hA;refine ((pc asZ S).2 noO W args ⟨λb h=>h.elim,hG W hL⟩ (by simpa using h2) (λj c hj=>by simpa using R j c hj)).mono ?_;rintro e W' ⟨u,v,rfl,rfl,Y,hB,_⟩;have I:=Y.bool_inv;subst I;have G:∀ x∈p,x.block<W.heap.size:=λx hx=>by simpa using hW'.lt x (List.mem_append_left _ hx)
 have r:=m y h3;refine ⟨_,rfl,y,[],p++[],[],p,[],hW',?_,?_,?_,hB.frame _,λh=>by cases h⟩
 ·rw [jbf,r,E];exact trodAll_mk1 (shut_bool Q true)
 ·rw [jbf,r];exact khf B hB (λt O=>by have:=jam.1 o t O; simpa only [jac,jak] using this) hA G
 ·rw [k,jbf,r];rfl
theorem pin_tab {P:Ye} {W:World} {a:String} {k:IntKind} {zs:Ya Int} {g:Nat} (b:P.globalNamed a=some g) (h:Go.Lib.TabIs P W a k zs):PinAt (λc=>c=(zs.map λz=>Value.int k z).toArray) W.heap[g]?:=by
 unfold Go.Lib.TabIs World.var? at h;rw [b] at h;simp only [jaf] at h;split at h
 ·rename_i cs T f e;exact ⟨cs,T,f,e,Option.some.inj h⟩
 ·cases h
end Go.Abs
