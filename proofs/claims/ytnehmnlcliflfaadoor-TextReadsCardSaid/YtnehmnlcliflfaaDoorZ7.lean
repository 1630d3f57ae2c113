/- The machinery, part 7. -/
import Derived.Shelf.Strings.Builder1
import Derived.Shelf.Strconv.Itoa3
import Derived.Shelf.Strings.Search3
import Derived.Shelf.Strconv.AtoiAll
import Derived.ProofKit
import Derived.LaidMore
import Derived.OpenShut
import Derived.Stop.Joined
import Derived.Stop.LaidErr
import Derived.Lib.LaidTab
import Derived.Test.YtnehmnlcliflfaaDoorZ1
import Derived.Test.YtnehmnlcliflfaaDoorZ2
import Derived.Test.YtnehmnlcliflfaaDoorZ3
import Derived.Test.YtnehmnlcliflfaaDoorZ4
import Derived.Test.YtnehmnlcliflfaaDoorZ5
import Derived.Test.YtnehmnlcliflfaaDoorZ6
set_option linter.constructorNameAsVariable false
set_option linter.unusedVariables false
set_option linter.unusedSimpArgs false
set_option linter.unusedSectionVars false
namespace Go.Abs
open Go Go.RowKit
section
variable {P:Ye} {κ:Nat->Yb Nat} {ln:Nat->Nat} {z:AH} {c:Cx sem} {s:TS sem} {env:Env} {h:AH} {n:Nat}
theorem hz_le (R:Rel P κ ln z c s env h n) (ids:Ya Nat):∀ q B,hz (ows κ ln c s) h z ids q=some B->h q=some B:=by
 intro q B a;unfold hz at a;split at a
 ·exact a
 ·exact R.zin q B a
theorem kkC (R:Rel P κ ln z c s env h n) {T:Yc} {x:Tmp} {w:TV sem} (b:cellX P c s T (tlk c s x)=some w) :
  ∃ a,kcd P h env (.cell x T)=some a/\TVR P κ ln z s.n w a:=by
 have C:=R.env x;unfold cellX at b;split at b
 ·cases b
 ·rename_i ag k;split at b
  ·rename_i id j L;rw [L] at C;generalize hE:lk env x=a at C;cases C with
   | ptr _ _ q hN F=>
    split at b
    ·rename_i T' vs hB;cases R.blk _ _ hB with
     | bx _ _ S asZ f v i I=>
      rw [F] at f; cases f;have hl:=i.len;have r:deref h (lk env x)=some (asZ.drop j):=by rw [hE]; simp only [deref,v]; rfl
      cases ag with
      | true=>
       simp only [if_true] at b;split at b
       ·rename_i M;cases b;refine ⟨_,?_,.ag _ _ ((i.drop j).take _) (λa B=>I a (jdf (jdd B)))⟩;simp only [kcd,r,k];rw [if_pos (by simp; omega)]
       ·cases b
      | false=>
       simp only [jal,if_false] at b;obtain ⟨a,B,u⟩:=i.at b;refine ⟨a,?_,u⟩;simp only [kcd,r,k];rw [jau]; simpa using B
    ·rename_i T' t y hB;cases R.blk _ _ hB with
     | el _ _ _ S cs r f v i I hl=>
      rw [F] at f; cases f;have A:deref h (lk env x)=some (cs.drop j):=by rw [hE]; simp only [deref,v]; rfl
      obtain ⟨p,hp,rfl⟩:=jac.1 b;obtain ⟨t',X⟩:=p;obtain ⟨g1,J,U,Y,K⟩:=keD t y j (P.cellsOf T) ag cs r hp i;obtain ⟨a,k1,k2,k3⟩:=khx (P:=P) (κ:=κ) (ln:=ln) (N:=s.n) (m:=P.cellsOf T) (cs:=cs.drop j) g1 J U K (by rw [jdb]; omega);refine ⟨a,?_,k1⟩;simp only [kcd,A,k];cases ag with
      | true=>simp only []; rw [if_pos (by rw [jdb]; omega),<-k2 rfl]
      | false=>exact k3 rfl
    ·cases b
  ·cases b
theorem kin (R:Rel P κ ln z c s env h n):∀ (l:Ya ResultVar) (rs:Ya Ty) (ys:Ya ((t:Ty)×sem.D t)),resX (A:=sem) P c s l rs=some ys->
  ∃ asZ bs,l.mapM (kcd P h env)=some asZ/\SnapL h asZ bs/\AL P ys bs/\rs.all Ty.dat=true
 | [],[],ys,hr=>by
  simp only [resX,Option.some.injEq] at hr; subst hr;exact ⟨[],[],rfl,.nil,.nil,rfl⟩
 | .tmp t::l,r::rs,ys,hr=>by
  simp only [resX] at hr;obtain ⟨⟨x,ids⟩,B,hr⟩:=jaa.1 hr;obtain ⟨y,j,rfl⟩:=jac.1 hr;obtain ⟨asZ,bs,i,h2,k,f⟩:=kin R l rs y j;obtain ⟨b,m,_⟩:=kbc R (R.env t) B;refine ⟨lk env t::asZ,r.av x::bs,?_,.cons (m.mono (hz_le R ids)) h2,.cons ((kaI b).2 rfl) k,by simp [b,f]⟩;rw [jdw,i]; rfl
 | .cell a T::l,r::rs,ys,hr=>by
  simp only [resX] at hr;obtain ⟨v,F,hr⟩:=jaa.1 hr;obtain ⟨⟨x,ids⟩,B,hr⟩:=jaa.1 hr;obtain ⟨y,j,rfl⟩:=jac.1 hr;obtain ⟨asZ,bs,i,h2,k,f⟩:=kin R l rs y j;obtain ⟨u,C,p⟩:=kkC R F;obtain ⟨b,m,_⟩:=kbc R p B;refine ⟨u::asZ,r.av x::bs,?_,.cons (m.mono (hz_le R ids)) h2,.cons ((kaI b).2 rfl) k,by simp [b,f]⟩;rw [jdw,i,C]; rfl
 | [],_::_,ys,hr=>by simp [resX] at hr
 | .tmp _::_,[],ys,hr=>by simp [resX] at hr
 | .cell _ _::_,[],ys,hr=>by simp [resX] at hr
theorem SnapL.tp {asZ bs:Ya AV} (a:SnapL h asZ bs):Snap h (.tp asZ) (.tp bs):=.tp asZ bs a.len a.at
theorem knI (R:Rel P κ ln z c s env h n) {l:Ya ResultVar} {rs:Ya Ty} {v:(tup rs).den} (hr:(resX (A:=sem) P c s l rs).bind (mkT sem rs)=some v) :
  ∃ a,kaZ P h env l=some a/\Snap h a (rav rs v):=by
 obtain ⟨ys,m,r⟩:=jaa.1 hr;obtain ⟨asZ,bs,f,h2,p,j⟩:=kin R l rs ys m;have i:=kjI j (kfy rs ys bs v p r);subst i;have hl:=h2.len;match rs,v,h2,hl with
 | [],v,h2,hl=>
  cases h2;exact ⟨.tp [],by simp only [kaZ,f],SnapL.tp .nil⟩
 | [t],v,h2,hl=>
  cases h2 with
  | cons k y=>cases y; exact ⟨_,by simp only [kaZ,f],k⟩
 | t::u::ts,v,h2,hl=>
  have e:rav (t::u::ts) v = .tp (avsL (t::u::ts) v):=rfl;rw [e];match asZ,hl,f,h2 with
  | [],hl,_,_=>simp [avsL] at hl
  | [_],hl,_,_=>exfalso; cases ts <;> simp [avsL] at hl
  | a::b::asZ,_,f,h2=>exact ⟨_,by simp only [kaZ,f],SnapL.tp h2⟩
theorem kpy:∀ {ys:Ya ((t:Ty)×t.den)} {asZ:Ya AV},AL P ys asZ->∀ (k x:Nat),TVR P κ ln z n (tlk (A:=sem) ⟨[],[]⟩ ⟨(ys.zipIdx k).map λy=>(y.2,argT (A:=sem) y.1.1 y.1.2),[],n,false⟩ x) (lk ((asZ.zipIdx k).map λ(v,i)=>(i,v)) x)
 | [],_,.nil,k,x=>by exact .un _
 | p::ys,_,.cons (a:=a) (asZ:=asZ) h1 hl,k,x=>by
  have f:=kpy hl (k+1) x;simp only [jct,jat,tlk,alk,lk] at f ⊢;by_cases e:x=k
  ·simp only [if_pos e];obtain ⟨t,y⟩:=p;cases t <;> first | exact .cv _ _ _ _ _ h1 | (obtain ⟨b,rfl⟩:=h1; exact .c _ _ _ b (.free _ (kfX _ _ b)))
  ·simp only [if_neg e]; exact f
theorem ksx:∀ {ts:Ya Ty} {x:(tup ts).den} {l:Ya AV},AR P ts x l->AL P (unT sem ts x) l
 | [],_,_,rfl=>.nil
 | [t],x,_,⟨a,rfl,h⟩=>.cons h .nil
 | t::u::ts,x,_,⟨a,l',rfl,h,h'⟩=>.cons h (ksx h')
theorem AL.len {ys:Ya ((t:Ty)×t.den)} {asZ:Ya AV} (h:AL P ys asZ):asZ.length=ys.length:=by induction h <;> simp [*]
theorem krv:∀ (ts:Ya Ty) (x:(tup ts).den),(unT sem ts x).length=ts.length
 | [],_=>rfl
 | [t],_=>rfl
 | t::u::ts,x=>by simp [unT,krv (u::ts)]
theorem kaq {g:FuncId} {C:Ctr} {f:Func} (X:P.funcs[g]?=some f) (K:(C.rs.all Ty.dat&&C.asZ.length<=f.ntmps&&!(f.name== "runtime.NumGoroutine"))=true) {An:Ya (Nat×La)} (Δ:Ya (FuncId×Ctr)) (hΔ:Goods P Δ)
  (he:∀ x,C.F x=machF P Δ (anL An) f C.asZ C.rs (A:=sem) x) (hM:∀ M∈C.mus,M.ok=true/\GoodM P g M:=by intro M h; cases h) (hI:match C.now with | none=>∀ I∈C.its,GoodI P g I C.own | some ke=>NowOk P g ke.1 ke.2:=by intro M h; cases h) (hM0:(alk Δ IM).isNone=true:=by rfl):Good P g C:=by
 simp only [jad,jbr,jak] at K;obtain ⟨⟨U,h2⟩,Z⟩:=K;refine ⟨U,λx r hr l hl=>?_,hM,hI⟩;rw [he,machF] at hr;dsimp only at hr;split at hr
 ·exact kaa hr
 ·rename_i body S;have t:=ksx hl;refine PC.of_body X S Z (by rw [t.len,krv]; exact h2) λD O hD=>?_;refine kia (D:=D) (O:=O) hΔ 1000000 (RetQ:=λv st=>∃ a,kaZ P st.h st.env f.results.toList=some a/\Snap st.h a (rav C.rs v)) (J:=⟨[],λ_=>none,λ_=>0⟩) (λc κ ln s env h n v _ R m=>knI R.R m) (hY:=⟨λ_=>hD,λY=>absurd Y (by cases hx:alk Δ IM with | none=>decide | some C=>rw [hx] at hM0; cases hM0)⟩) ⟨[],[]⟩ [body] _ _ _ r (λ_=>none) (λ_=>0) (λ_=>none) (kar l) ah0 0
   ⟨λx v h=>(by cases h),λx B h=>(by cases h)⟩ ?_ ?_ hr
  ·refine ⟨⟨λx=>?_,λid B h=>(by cases h),λid B h=>(by cases h),λi j B B' q h=>(by cases h),λq B h=>(by cases h),λid B q h=>(by cases h),λid B q h=>(by cases h),λq _=>rfl,λx v h=>rfl,λid b h=>(by cases h),λ_=>rfl,λq k T es h=>(by cases h),λid B h=>(by cases h)⟩,λx v id m=>(by cases m),λx v m=>(by cases m)⟩;exact kpy (n:=0) t 0 x
  ·refine ⟨λκ ln z s env h n R p=>?_,λid κ ln z s env h n R p=>kaa p,λv st m p=>?_,λL=>by rw [hD] at L; cases L⟩
   ·dsimp only at p;split at p
    ·rename_i v m;cases p;obtain ⟨a,u,y⟩:=knI R.R m;exact ⟨a,u,_,y,rfl⟩
    ·exact kaa p
   ·cases p;obtain ⟨a,u,y⟩:=m;exact ⟨a,u,_,y,rfl⟩
end
section
variable {P:Ye} {κ κ':Nat->Yb Nat} {ln ln':Nat->Nat} {z z':AH} {c:Cx sem} {s:TS sem} {env:Env} {h h':AH} {n n' N N':Nat}
def tied:TV sem->Bool
 | .mw _ | .ptr _ _ | .mp _ | .fw _ | .kp _=>true
 | _=>false
theorem TVR.tied {v:TV sem} {a:AV} (f:tied v=true) (h:TVR P κ ln z N v a):TVR P κ ln z' N v a:=by
 cases v <;> simp only [Abs.tied,jal] at f
 ·cases h with | ptr _ _ q b h2=>exact .ptr _ _ q b h2
 ·cases h with
  | mw0 _ b h2=>exact .mw0 _ b h2
  | mw _ q b h2=>exact .mw _ q b h2
 ·cases h with | mp _ q b h2=>exact .mp _ q b h2
 ·cases h with
  | fw0 _ b h2=>exact .fw0 _ b h2
  | fw _ q b h2=>exact .fw _ q b h2
 ·cases h with | kp _ b=>exact .kp _ b
theorem Rel.thaw (R:Rel P κ ln z c s env h n) (r:∀ x,tied (tlk c s x)=true\/tlk c s x = .un) {O:Nat->Prop} {μ:Mu} {w:World} (hr:HR w O μ h n) :
  ∃ m h2,Rel P κ ln ahN c { s with dy:=false } env h2 n/\HR w O m h2 n/\Evo w μ n w m n:=by
 obtain ⟨p,h2,hz,i,j,a⟩:=R.conv hr;refine ⟨muP p μ,h2,⟨λx=>?_,i,R.lt,R.inj,λq B b=>(by cases b),λ_ _ _ _ _=>rfl,R.bnd,j,R.e0,R.g,λ_=>rfl,λq k T es b=>(by cases b),R.famD⟩,a,kkb hr p⟩;have t:=R.env x;show TVR P κ ln ahN s.n (tlk c s x) (lk env x);rcases r x with f | f
 ·exact t.tied f
 ·rw [f]; exact .un _
theorem HC.fin {f:FuncId} {args:Ya AV} {K:K3} (r:HC P f args h n (λv h' n'=>(∃ h2:AH,(∀ q B,h2 q=some B->h' q=some B)/\K v h2 n')\/
  (v = .tp []/\∃ κ ln z c s env,Rel P κ ln z c s env h' n'/\(∀ x,tied (tlk c s x)=true\/tlk c s x = .un)/\∀ h2:AH,Rel P κ ln ahN c { s with dy:=false } env h2 n'->∃ b:AH,(∀ q B,b q=some B->h2 q=some B)/\K v b n'))):HC P f args h n K:=by
 refine ⟨r.1,λO μ w vs hr J L=>(r.2 O μ w vs hr J L).mono ?_⟩;rintro e w' ⟨u,v,h',n',I,rfl,m,a,p,t⟩;rcases m with ⟨h2,i,k⟩ | ⟨rfl,κ,ln,z,c,s,env,R,y,A⟩
 ·exact ⟨u,v,h2,n',I,rfl,k,⟨a.olt,a.scope,a.inj,a.notO,λid B hB=>a.blk id B (i id B hB)⟩,p,t⟩
 ·obtain ⟨S,h2,C,r2,F⟩:=R.thaw y a;obtain ⟨b,i,k⟩:=A h2 C;exact ⟨u,_,b,n',S,rfl,k,⟨r2.olt,r2.scope,r2.inj,r2.notO,λid B hB=>r2.blk id B (i id B hB)⟩,p.flat (.tp [] λj c M=>by simp at M) _ _ _ _,t.trans F⟩
end
section
variable {P:Ye} {κ κ':Nat->Yb Nat} {ln ln':Nat->Nat} {z z':AH} {c:Cx sem} {s:TS sem} {env:Env} {h:AH} {n N N':Nat}
def tiedD:TV sem->Bool
 | .mw _ | .ptr _ _ | .mp _ | .fw _=>true
 | _=>false
theorem TVR.det {v:TV sem} {a a':AV} (m:tiedD v=true) (h:TVR P κ ln z N v a) (h':TVR P κ' ln' z' N' v a') (i:∀ id,v.has id=true->κ' id = κ id/\ln' id=ln id):a'=a:=by
 cases v <;> simp only [tiedD,jal] at m
 ·rename_i id j;obtain ⟨b,f⟩:=i id (by simp [TV.has]);obtain ⟨q,k1,rfl⟩:=h.ptr_inv;obtain ⟨k,k2,rfl⟩:=h'.ptr_inv;rw [b,k1] at k2; cases k2; rfl
 ·rename_i id;obtain ⟨b,f⟩:=i id (by simp [TV.has]);cases h with
  | mw0 _ _ k1=>cases h' with
   | mw0=>rfl
   | mw _ q _ k2=>rw [b,k1] at k2; cases k2
  | mw _ q _ k1=>cases h' with
   | mw0 _ _ k2=>rw [b,k1] at k2; cases k2
   | mw _ k _ k2=>rw [b,k1] at k2; cases k2; rw [f]
 ·rename_i id;obtain ⟨b,f⟩:=i id (by simp [TV.has]);obtain ⟨q,k1,rfl⟩:=h.mp_inv;obtain ⟨k,k2,rfl⟩:=h'.mp_inv;rw [b,k1] at k2; cases k2; rfl
 ·rename_i id;obtain ⟨b,f⟩:=i id (by simp [TV.has]);cases h with
  | fw0 _ _ k1=>cases h' with
   | fw0=>rfl
   | fw _ q _ k2=>rw [b,k1] at k2; cases k2
  | fw _ q _ k1=>cases h' with
   | fw0 _ _ k2=>rw [b,k1] at k2; cases k2
   | fw _ k _ k2=>rw [b,k1] at k2; cases k2; rw [f]
theorem kjk:∀ (ks:Ya (Yb Ty)) {l:Ya ((t:Ty)×t.den)} {asZ:Ya AV} (k:Nat),PArgs P ks l asZ->∀ x v,alk (kbg (A:=sem) ks l k) x=some v->k<=x/\TVR P κ ln z N v (lk ((asZ.zipIdx k).map λ(v,i)=>(i,v)) x)
 | [],l,asZ,k,h,x,v,hv=>by simp [kbg,alk] at hv
 | some t::ks,[],asZ,k,h,x,v,hv=>by simp [kbg,alk] at hv
 | some t::ks,p::l,[],k,h,x,v,hv=>by simp [PArgs] at h
 | none::ks,l,[],k,h,x,v,hv=>by cases l <;> simp [PArgs] at h
 | some t::ks,p::l,a::asZ,k,h,x,v,hv=>by
  obtain ⟨j,h2⟩:=h;simp only [kbg,alk] at hv;simp only [jct,jat,lk];by_cases e:x=k
  ·rw [if_pos e] at hv; cases hv;rw [if_pos e];refine ⟨by omega,?_⟩;obtain ⟨t,y⟩:=p;cases t <;> first | exact .cv _ _ _ _ _ j | (obtain ⟨f,rfl⟩:=j; exact .c _ _ _ f (.free _ (kfX _ _ f)))
  ·rw [if_neg e] at hv;rw [if_neg e];obtain ⟨g1,b⟩:=kjk ks (k+1) h2 x v hv;exact ⟨by omega,b⟩
 | none::ks,l,a::asZ,k,h,x,v,hv=>by
  have h2:PArgs P ks l asZ:=by cases l <;> exact h
  simp only [kbg] at hv;simp only [jct,jat,lk];obtain ⟨g1,b⟩:=kjk ks (k+1) h2 x v hv;rw [if_neg (by omega)];exact ⟨by omega,b⟩
theorem kjd:∀ (ks:Ya (Yb Ty)) (k x:Nat),x∈kda ks k->x<k+ks.length
 | [],k,x,h=>by cases h
 | some t::ks,k,x,h=>by
  simp only [kda,jbi] at h;simp only [jbt];rcases h with rfl | h
  ·omega
  ·have:=kjd ks (k+1) x h; omega
 | none::ks,k,x,h=>by
  simp only [kda] at h;simp only [jbt];have:=kjd ks (k+1) x h; omega
theorem krf:∀ (asZ:Ya AV) (k x:Nat),k+asZ.length<=x->lk ((asZ.zipIdx k).map λ(v,i)=>(i,v)) x = .un
 | [],k,x,h=>rfl
 | a::asZ,k,x,h=>by
  simp only [jbt] at h;simp only [jct,jat,lk];rw [if_neg (by omega),krf asZ (k+1) x (by omega)]
theorem ksP {asZ:Ya AV} {x:Nat} (h:asZ.length<=x):lk (kar asZ) x = .un:=krf asZ 0 x (by omega)
theorem kfh:∀ (ks:Ya (Yb Ty)) {l:Ya ((t:Ty)×t.den)} (k:Nat),l.length=(ks.filterMap id).length->(kbg (A:=sem) ks l k).map (·.1)=kda ks k
 | [],l,k,h=>by simp [kbg,kda]
 | some t::ks,[],k,h=>by simp at h
 | some t::ks,p::l,k,h=>by simp only [kbg,kda,jat]; rw [kfh ks (k+1) (by simpa using h)]
 | none::ks,l,k,h=>by simp only [kbg,kda]; exact kfh ks (k+1) (by simpa using h)
theorem kjt:∀ {ks:Ya (Yb Ty)} {l:Ya ((t:Ty)×t.den)} {asZ:Ya AV},PArgs P ks l asZ->asZ.length=ks.length
 | [],[],[],h=>rfl
 | [],_::_,_,h=>by simp [PArgs] at h
 | [],[],_::_,h=>by simp [PArgs] at h
 | some t::ks,[],asZ,h=>by simp [PArgs] at h
 | some t::ks,p::l,[],h=>by simp [PArgs] at h
 | none::ks,l,[],h=>by cases l <;> simp [PArgs] at h
 | some t::ks,p::l,a::asZ,h=>by simp [kjt h.2]
 | none::ks,l,a::asZ,h=>by
  have h2:PArgs P ks l asZ:=by cases l <;> exact h
  simp [kjt h2]
theorem krL:∀ (l:Ya (Nat×PV)) (xs:Ya ((t:Ty)×t.den)),(unE (A:=sem) l xs).1.map (·.1)=l.map (·.1)
 | [],xs=>rfl
 | (k,v)::l,xs=>by simp only [unE,jat]; rw [krL l]
theorem kfx {α:Type}:∀ {l:Ya (Nat×α)} {x:Nat} {v:α},(l.map (·.1)).Nodup->(x,v)∈l->alk l x=some v
 | [],x,v,_,h=>by cases h
 | (k,w)::l,x,v,hn,h=>by
  simp only [jat,jdg] at hn;simp only [alk];rcases jbi.1 h with h | h
  ·cases h; simp
  ·rw [if_neg]
   ·exact kfx hn.2 h
   ·exact λe=>hn.1 (jba.2 ⟨(x,v),h,e⟩)
theorem khm (R:Rel P κ ln z c s env h n):∀ (l:Ya ResultVar) {vs:Ya (TV sem)},resTV (A:=sem) P c s l=some vs->∃ asZ,l.mapM (kcd P h env)=some asZ/\TVRs P κ ln z s.n vs asZ
 | [],vs,hr=>by simp only [resTV,Option.some.injEq] at hr; subst hr; exact ⟨[],rfl,.nil⟩
 | .tmp t::l,vs,hr=>by
  simp only [resTV,jac] at hr;obtain ⟨vs,b,rfl⟩:=hr;obtain ⟨asZ,f,h2⟩:=khm R l b;refine ⟨lk env t::asZ,?_,.cons _ _ _ _ (R.env t) h2⟩;rw [jdw,f]; rfl
 | .cell a T::l,vs,hr=>by
  simp only [resTV,jaa,jac] at hr;obtain ⟨v,k,vs,b,rfl⟩:=hr;obtain ⟨asZ,f,h2⟩:=khm R l b;obtain ⟨u,j,i⟩:=kkC R k;refine ⟨u::asZ,?_,.cons _ _ _ _ i h2⟩;rw [jdw,f,j]; rfl
theorem kph {l:Ya ResultVar} {asZ:Ya AV} (b:l.mapM (kcd P h env)=some asZ):kaZ P h env l=some (tpA asZ):=by
 unfold kaZ tpA;rw [b];match asZ with
 | []=>rfl
 | [a]=>rfl
 | _::_::_=>rfl
theorem kpH:∀ (vs:Ya (TV sem)) (k x:Nat) (E:Ya (Nat×TV sem)),alk ((vs.zipIdx k).map (λx=>(1000000+x.2,x.1))++E) x=if 1000000+k<=x/\x<1000000+k+vs.length then vs[x-1000000-k]? else alk E x
 | [],k,x,E=>by
  simp only [List.zipIdx_nil,jdt,jav,jdn];rw [if_neg (by omega)]
 | v::vs,k,x,E=>by
  simp only [jct,jat,jdj,alk,jbt];by_cases e:x=1000000+k
  ·rw [if_pos e,if_pos (by omega),show x-1000000-k=0 by omega]; rfl
  ·rw [if_neg e,kpH vs (k+1) x E];by_cases a:1000000+k<=x/\x<1000000+k+(vs.length+1)
   ·rw [if_pos (by omega),if_pos a,show x-1000000-k=(x-1000000-(k+1))+1 by omega,jch]
   ·rw [if_neg (by omega),if_neg a]
theorem kka:∀ (asZ:Ya AV) (k x:Nat) (E:Env),lk ((asZ.zipIdx k).map (λx=>(1000000+x.2,x.1))++E) x=if 1000000+k<=x/\x<1000000+k+asZ.length then (asZ[x-1000000-k]?).getD .un else lk E x
 | [],k,x,E=>by
  simp only [List.zipIdx_nil,jdt,jav,jdn];rw [if_neg (by omega)]
 | v::vs,k,x,E=>by
  simp only [jct,jat,jdj,lk,jbt];by_cases e:x=1000000+k
  ·rw [if_pos e,if_pos (by omega),show x-1000000-k=0 by omega]; rfl
  ·rw [if_neg e,kka vs (k+1) x E];by_cases a:1000000+k<=x/\x<1000000+k+(vs.length+1)
   ·rw [if_pos (by omega),if_pos a,show x-1000000-k=(x-1000000-(k+1))+1 by omega,jch]
   ·rw [if_neg (by omega),if_neg a]
theorem kkE {α:Type}:∀ (l:Ya (Nat×α)) (x:Nat),alk (l.map λy=>(y.1,some y.2)) x=(alk l x).map some
 | [],x=>rfl
 | (k,v)::l,x=>by
  simp only [jat,alk];split
  ·rfl
  ·exact kkE l x
theorem kuS (R:Rel P κ ln ahN c s env h n) {vs:Ya (TV sem)} {asZ:Ya AV} (f:TVRs P κ ln ahN s.n vs asZ):Rel P κ ln ahN ⟨[],[]⟩ (endM c s vs) (resE asZ++env) h n:=by
 have p:∀ id,thp (⟨[],[]⟩:Cx sem) (endM c s vs) id=thp c s id:=λid=>by
  unfold thp endM;simp only [kbd,kkE];cases m:alk s.hp id with
  | some b=>rfl
  | none=>cases h2:alk c.g id <;> simp [alk]
 refine ⟨λx=>?_,λid B hB=>R.blk id B (p id ▸ hB),λid B hB=>R.lt id B (p id ▸ hB),λi j B y q I M=>R.inj i j B y q (p i ▸ I) (p j ▸ M),R.zin,λid B q hB=>R.zout id B q (p id ▸ hB),λid B q hB=>R.bnd id B q (p id ▸ hB),R.hn,λx v J=>rfl,λid b S=>rfl,λ_=>rfl,λq k T es A=>(by cases A),R.fam.map (λid B hB=>.inl ⟨B,p id ▸ hB,λh=>h,rfl,rfl⟩) (λid _ B r _ m h2 F=>((R.fam id B m h2).2 r F).2.1) (jah _)⟩;have K:tlk (⟨[],[]⟩:Cx sem) (endM c s vs) x=if 1000000+0<=x/\x<1000000+0+vs.length then (vs[x-1000000-0]?).getD .un else tlk c s x:=by
  have e0:alk (endM c s vs).env x=if 1000000+0<=x/\x<1000000+0+vs.length then vs[x-1000000-0]? else alk (s.env++c.e0) x:=kpH vs 0 x _;unfold tlk;rw [e0];split
  ·rename_i v f;split at f
   ·rename_i t; rw [if_pos t,f]; rfl
   ·rename_i t;rw [if_neg t];rw [kbd] at f;cases m:alk s.env x with
    | some w=>rw [m] at f; cases f; rfl
    | none=>rw [m] at f; simp only at f; simp [f]
  ·rename_i f;split at f
   ·rename_i t; rw [if_pos t,f]; rfl
   ·rename_i t;rw [if_neg t];rw [kbd] at f;cases m:alk s.env x with
    | some w=>rw [m] at f; cases f
    | none=>rw [m] at f; simp only at f; simp [f,alk]
 show TVR P κ ln ahN (endM c s vs).n _ (lk ((asZ.zipIdx 0).map (λx=>(1000000+x.2,x.1))++env) x);rw [K,kka,f.len];split
 ·rename_i J;cases C:vs[x-1000000-0]? with
  | none=>exact .un _
  | some v=>
   obtain ⟨a,L,u⟩:=f.at C;rw [L]; exact u
 ·exact R.env x
theorem kox {ρ:Ty} {r:ρ.den} {p:Prop} (a:askR (A:=sem) (ρ:=ρ) c s=some r):p:=kaa a
theorem kdl {g:FuncId} {C:CtrM} {f:Func} (hf:P.funcs[g]?=some f) (hd:(C.okS&&C.ks.length<=f.ntmps&&!(f.name== "runtime.NumGoroutine"))=true) {An:Ya (Nat×La)} (Δ:Ya (FuncId×Ctr)) (hΔ:Goods P Δ)
  (he:∀ x,C.F x=ktB P Δ (anL An) f C (A:=sem) x) (hM0:(alk Δ IM).isNone=true:=by rfl):C.ok=true/\GoodM P g C:=by
 simp only [jad,jbr,jak] at hd;obtain ⟨⟨h1,h2⟩,h3⟩:=hd;unfold CtrM.okS at h1;simp only [jad,jak] at h1;obtain ⟨⟨⟨⟨ba,aI⟩,Y⟩,az⟩,am⟩:=h1;refine ⟨Y,λx y hy l1 l2 hl aj κ ln h n args aK R=>?_⟩;rw [he,ktB] at hy;dsimp only at hy;rw [hl,List.take_left' aj,List.drop_left' aj] at hy;have aQ:=kjt aK;split at hy
 ·exact kaa hy
 ·rename_i body hb;have ar:(kbg (A:=sem) C.ks l1 0++(kak (A:=sem) C.inp C.n0 l2).env).map (·.1)=kda C.ks 0++C.inp.env.map (·.1):=by
   rw [jcr,kfh C.ks 0 aj];congr 1;exact krL _ _
  have S:((kbg (A:=sem) C.ks l1 0++(kak (A:=sem) C.inp C.n0 l2).env).map (·.1)).Nodup:=by rw [ar]; exact ba
  have aF:(((kak (A:=sem) C.inp C.n0 l2).env).map (·.1)).Nodup:=by
   rw [jcr] at S;exact (List.nodup_append.1 S).2.1
  have aA:∀ x v,alk (kak (A:=sem) C.inp C.n0 l2).env x=some v->alk (kbg (A:=sem) C.ks l1 0) x=none:=λx v I=>by
   cases hp:alk (kbg (A:=sem) C.ks l1 0) x with
   | none=>rfl
   | some w=>
    have h1:=kfx S (jay.2 (.inl (kau hp)));have h2:=kfx S (jay.2 (.inr (kau I)));rw [jcr,List.nodup_append] at S;exact absurd rfl (S.2.2 x (jba.2 ⟨_,kau hp,rfl⟩) x (jba.2 ⟨_,kau I,rfl⟩))
  let ef:Ya (Nat×TV sem):=(kak (A:=sem) C.inp C.n0 l2).env.filter (λx=>(alk C.out.env x.1).isSome)
  let eg:Ya (Nat×TV sem):=C.inn.map (λp=>(7000000+p,.kp p))
  let e0:Ya (Nat×TV sem):=ef++eg
  let e1:Ya (Nat×TV sem):=kbg (A:=sem) C.ks l1 0++(kak (A:=sem) C.inp C.n0 l2).env.filter (λx=>!(alk C.out.env x.1).isSome)
  have ac:∀ x,alk ef x=if (alk C.out.env x).isSome then alk (kak (A:=sem) C.inp C.n0 l2).env x else none:=λx=>kcv (λk=>(alk C.out.env k).isSome) _ x;have aB:∀ x,alk ((kak (A:=sem) C.inp C.n0 l2).env.filter (λx=>!(alk C.out.env x.1).isSome)) x=if !(alk C.out.env x).isSome then alk (kak (A:=sem) C.inp C.n0 l2).env x else none:=λx=>kcv (λk=>!(alk C.out.env k).isSome) _ x;have ab:∀ x,alk e0 x=match alk ef x with | some v=>some v | none=>alk eg x:=λx=>by
   show alk (ef++eg) x=_;rw [kbd];cases alk ef x <;> rfl
  have be:C.ks.length<=1000000:=by
   unfold CtrM.ok at Y;simp only [jad,jak] at Y;exact Y.1.2
  have ap:∀ x v,alk (kak (A:=sem) C.inp C.n0 l2).env x=some v->x<C.ks.length:=λx v I=>by
   have e:(alk (unE (A:=sem) C.inp.env l2).1 x).isSome=(alk C.inp.env x).isSome:=kgq _ _ _;have e2:alk (unE (A:=sem) C.inp.env l2).1 x=some v:=I;rw [e2] at e;obtain ⟨aN,ah⟩:=jan.1 e.symm;exact of_decide_eq_true (jap.1 aI _ (kau ah))
  have au:∀ x v,alk eg x=some v->∃ p∈C.inn,x=7000000+p/\v = .kp p:=λx v I=>by
   obtain ⟨p,hp,e⟩:=jba.1 (kau I);cases e; exact ⟨p,hp,rfl,rfl⟩
  have aC:∀ p∈C.inn,alk eg (7000000+p)=some (.kp p):=λp hp=>by
   refine kfx ?_ (jba.2 ⟨p,hp,rfl⟩);show ((C.inn.map (λp=>(7000000+p,(TV.kp p:TV sem)))).map (·.1)).Nodup;rw [List.map_map,List.nodup_iff_pairwise_ne,List.pairwise_map];exact (List.nodup_iff_pairwise_ne.1 az).imp λaL e=>aL (by simp only [Function.comp] at e; omega)
  have aq:∀ p∈C.inn,p<C.n0:=λp hp=>by
   unfold CtrM.inn at hp;obtain ⟨x,u,rfl⟩:=jba.1 hp;unfold CtrM.ok at Y;simp only [jad,jak] at Y;exact of_decide_eq_true (jap.1 Y.2 _ (jdy.1 u).1)
  have an:∀ x,1000000<=x->alk ef x=none:=λx u=>by
   rw [ac]; split
   ·cases hh:alk (kak (A:=sem) C.inp C.n0 l2).env x with
    | none=>rfl
    | some v=>have:=ap x v hh; omega
   ·rfl
  have W0:CxWf (⟨e0,[]⟩:Cx sem):=⟨λx v u=>by
   rw [ab];rcases jay.1 u with u | u
   ·have e:alk ef x=some v:=by
     rw [ac];obtain ⟨h1,h2⟩:=jdy.1 u;rw [if_pos h2];exact kfx aF h1
    rw [e]
   ·obtain ⟨p,hp,e⟩:=jba.1 u;cases e;rw [an _ (by omega)];exact aC p hp,λx B u=>by cases u⟩
  have R0:Rel P κ ln ahN ⟨e0,[]⟩ ⟨e1,(kak (A:=sem) C.inp C.n0 l2).hp,C.n0,false⟩ (kar args) h n:=by
   refine ⟨λx=>?_,R.blk,R.lt,R.inj,R.zin,R.zout,R.bnd,R.hn,λx v u=>?_,λid b hb=>rfl,λ_=>rfl,R.zk,R.fam.map (λid B hB=>.inl ⟨B,hB,λh=>h,rfl,rfl⟩) (λid _ B r _ h1 h2 h3=>((R.fam id B h1 h2).2 r h3).2.1) (jah _)⟩
   ·have u:=R.env x;unfold tlk at u ⊢;simp only [alk] at u ⊢;rw [show (offD (kak (A:=sem) C.inp C.n0 l2)).env=(kak (A:=sem) C.inp C.n0 l2).env from rfl] at u;have aT:alk e1 x=_:=kbd (kbg (A:=sem) C.ks l1 0) _ x;rw [aT,ab,ac,aB];cases h1:alk (kbg (A:=sem) C.ks l1 0) x with
    | some v=>exact (kjk C.ks 0 aK x v h1).2
    | none=>
     cases h2:alk (kak (A:=sem) C.inp C.n0 l2).env x with
     | some v=>
      rw [h2] at u;cases (alk C.out.env x).isSome with
      | true=>exact u
      | false=>exact u
     | none=>
      have:TVR P κ ln ahN C.n0 ((alk eg x).getD .un) (lk (kar args) x):=by
       cases hg:alk eg x with
       | none=>exact .un _
       | some w=>
        obtain ⟨p,hp,ex,rfl⟩:=au x w hg;rw [ksP (by omega:args.length<=x)];exact .kp p (aq p hp)
      cases (alk C.out.env x).isSome with
      | true=>exact this
      | false=>exact this
   ·have u:alk (kbg (A:=sem) C.ks l1 0++(kak (A:=sem) C.inp C.n0 l2).env.filter (λx=>!(alk C.out.env x.1).isSome)) x=some v:=u;rw [kbd,aB] at u;show alk e0 x=none;have bd:x<C.ks.length:=by
     cases h1:alk (kbg (A:=sem) C.ks l1 0) x with
     | some w=>
      have:x∈(kbg (A:=sem) C.ks l1 0).map (·.1):=jba.2 ⟨_,kau h1,rfl⟩;rw [kfh C.ks 0 aj] at this;have:=kjd C.ks 0 x this;omega
     | none=>
      rw [h1] at u;simp only at u;split at u
      ·exact ap x v u
      ·cases u
    have aO:alk eg x=none:=by
     cases hg:alk eg x with
     | none=>rfl
     | some w=>obtain ⟨p,_,e,_⟩:=au x w hg; omega
    rw [ab,aO,ac];cases Z:(alk C.out.env x).isSome with
    | false=>simp
    | true=>
     rw [Z] at u;simp only [Bool.not_true,jal,if_false] at u;simp only [if_true];cases h2:alk (kak (A:=sem) C.inp C.n0 l2).env x with
     | none=>rfl
     | some w=>rw [aA x w h2] at u; cases u
  refine HC.fin (HC.of_body hf hb h3 (by rw [aQ]; exact h2) λD O hD=>Sat.ofL ?_);have fin:∀ (rl:Ya ResultVar) (c:Cx sem) κ' ln' s i h' n' v,CxWf c->RJ ⟨e0,κ,ln⟩ P κ' ln' ahN c s i h' n'->resM (A:=sem) P C rl c s=some v->
    ∃ a,kaZ P h' i rl=some a/\∃ h2:AH,(∀ q B,h2 q=some B->h' q=some B)/\kgl P C κ ln v args a h2 n':=by
   intro rl c κ' ln' s i h' n' v W K I;unfold resM at I;obtain ⟨vs,aP,I⟩:=jaa.1 I;split at I
   ·rename_i al;obtain ⟨m,hm,I⟩:=jaa.1 I;by_cases aa:(m.sn.isEmpty&&C.inn.all (λp=>alk m.ids p==some p))=true
    ·replace I:mkT sem C.out.tys m.cs=some v:=(if_pos (c:=(m.sn.isEmpty&&C.inn.all (λp=>alk m.ids p==some p))=true) (t:=(mkT sem C.out.tys m.cs:Yb C.out.ty.den)) (e:=none) aa).symm.trans I;rw [jad] at aa;obtain ⟨aR,aG⟩:=aa;obtain ⟨asZ,k1,k2⟩:=khm K.R rl aP;obtain ⟨κ2,aJ,R2,q1,q2,q3,q4⟩:=knK (kuS K.R k2) hm (by simpa [jcw] using aR) rfl;have aX:kak (A:=sem) C.out C.n1 m.cs=kad (A:=sem) C.out C.n1 v:=by
      unfold kad kak;rw [kmz _ _ _ I]
     rw [aX] at R2 q2 q4;have ao:∀ id,id∈C.out.hp.map (·.1)↔(alk C.out.hp id).isSome=true:=λid=>by
      generalize C.out.hp=L;induction L with
      | nil=>simp [alk]
      | cons y L ih=>
       simp only [jat,jbi,alk];split
       ·rename_i e; simp [e]
       ·rename_i e; simp only [e,false_or]; exact ih
     have bb:∀ {id},id∈C.out.hp.map (·.1)->∃ B,alk (kad (A:=sem) C.out C.n1 v).hp id=some (some B):=λ{id} M=>by
      rw [ao,<-q4] at M;obtain ⟨b,hb⟩:=jan.1 M;obtain ⟨B,_,_,rfl,_⟩:=q2 id b hb;exact ⟨B,hb⟩
     have aW:∀ id B,thp (⟨[],[]⟩:Cx sem) (offD (kad (A:=sem) C.out C.n1 v)) id=some B->id∈C.out.hp.map (·.1):=λid B hB=>by
      rw [ao,<-q4];unfold thp at hB;rw [show (offD (kad (A:=sem) C.out C.n1 v)).hp=(kad (A:=sem) C.out C.n1 v).hp from rfl] at hB;cases hh:alk (kad (A:=sem) C.out C.n1 v).hp id with
      | some b=>rfl
      | none=>rw [hh] at hB; cases hB
     have R3:=R2.cut (h2:=hz (ows κ2 aJ ⟨[],[]⟩ (offD (kad (A:=sem) C.out C.n1 v))) h' ahN (C.out.hp.map (·.1))) (λid B q hB X=>hz_in (aW id B hB) (kjB hB X)) (λq hq=>by
      unfold hz; split
      ·exact K.R.hn q hq
      ·rfl)
     refine ⟨_,kph k1,_,kcH (λq B hq=>by cases hq),κ2,aJ,asZ,by rw [k2.len,al],rfl,⟨λx=>?_,R3.blk,R3.lt,R3.inj,R3.zin,R3.zout,R3.bnd,R3.hn,R3.e0,R3.g,R3.dy,R3.zk,R3.fam⟩,λq B hq=>?_,λp hp=>?_⟩
     ·have u:=R3.env x;cases ax:alk (kad (A:=sem) C.out C.n1 v).env x with
      | none=>
       have:tlk (⟨[],[]⟩:Cx sem) (offD (kad (A:=sem) C.out C.n1 v)) x = .un:=by
        unfold tlk;rw [show (offD (kad (A:=sem) C.out C.n1 v)).env=(kad (A:=sem) C.out C.n1 v).env from rfl,ax]; rfl
       rw [this]; exact .un _
      | some w=>
       obtain ⟨pv,ay⟩:=knh ax;have ho:=jap.1 am _ ay;have aZ:lk (resE asZ++i) x=if 1000000+0<=x/\x<1000000+0+asZ.length then (asZ[x-1000000-0]?).getD .un else lk i x:=kka asZ 0 x i;have aU:lk (resE asZ++kar args) x=if 1000000+0<=x/\x<1000000+0+asZ.length then (asZ[x-1000000-0]?).getD .un else lk (kar args) x:=kka asZ 0 x (kar args);have aS:lk (resE asZ++kar args) x=lk (resE asZ++i) x:=by
        rw [aZ,aU];split
        ·rfl
        ·rename_i aM;simp only [jbe,jad,jak] at ho;rcases ho with ho | ⟨ad,ai⟩
         ·exfalso; apply aM; rw [k2.len,al]; omega
         ·
          have slot:∀ U v0,alk C.inp.env x=some U->(∀ xs:Ya ((t:Ty)×sem.D t),(unV (A:=sem) U xs).1=v0)->tiedD v0=true->lk (kar args) x=lk i x:=λU v0 M hu ht=>by
           have ak:alk (kak (A:=sem) C.inp C.n0 l2).env x=some v0:=kiW C.inp.env l2 x U v0 M hu;have hj:alk e0 x=some v0:=by
            have ad:(alk C.out.env x).isSome=true:=by
             have e:=kgq C.out.env (unT sem C.out.tys v) x;have e2:alk (unE (A:=sem) C.out.env (unT sem C.out.tys v)).1 x=some w:=ax;rw [<-e,e2]; rfl
            rw [ab,ac,if_pos ad,ak]
           have t1:=R0.env x;have t2:=K.R.env x;rw [R0.e0_tlk hj] at t1;rw [K.R.e0_tlk (K.w x v0 hj)] at t2;exact (t1.det ht t2 λid aw=>K.j x v0 id hj aw).symm
          split at ai
          ·rename_i p M; exact slot _ (.mw p) M (λxs=>rfl) rfl
          ·rename_i p j M; exact slot _ (.ptr p j) M (λxs=>rfl) rfl
          ·rename_i p M; exact slot _ (.mp p) M (λxs=>rfl) rfl
          ·cases ai
       rw [aS]; exact u
     ·unfold hz at hq;split at hq
      ·rename_i aD;obtain ⟨id,aw,X⟩:=jbq.1 aD;obtain ⟨b,hb⟩:=bb aw;exact ⟨id,b,hb,kci (c:=⟨[],[]⟩) (s:=offD (kad (A:=sem) C.out C.n1 v)) (by unfold thp; rw [show (offD (kad (A:=sem) C.out C.n1 v)).hp=(kad (A:=sem) C.out C.n1 v).hp from rfl,hb]) (by simpa using X)⟩
      ·cases hq
     ·have e1:alk m.ids p=some p:=by simpa using jap.1 aG p hp
      have e2:alk e0 (7000000+p)=some (.kp p):=by rw [ab,an _ (by omega)]; exact aC p hp
      exact ⟨((q1 p p e1).1).trans (K.j _ _ p e2 (by simp [TV.has])).1,((q1 p p e1).2.1).trans (K.j _ _ p e2 (by simp [TV.has])).2⟩
    ·replace I:=(if_neg (c:=(m.sn.isEmpty&&C.inn.all (λp=>alk m.ids p==some p))=true) (t:=(mkT sem C.out.tys m.cs:Yb C.out.ty.den)) (e:=none) aa).symm.trans I; cases I
   ·cases I
  let K0:K3:=λv h' n'=>(∃ h2:AH,(∀ q B,h2 q=some B->h' q=some B)/\kgl P C κ ln y args v h2 n')\/
   (v = .tp []/\∃ κb aH z c s env,Rel P κb aH z c s env h' n'/\(∀ x,tied (tlk c s x)=true\/tlk c s x = .un)/\∀ h2:AH,Rel P κb aH ahN c { s with dy:=false } env h2 n'->∃ h3:AH,(∀ q B,h3 q=some B->h2 q=some B)/\kgl P C κ ln y args v h3 n')
  refine kia (D:=D) (O:=O) hΔ 1000000 (J:=⟨e0,κ,ln⟩) (RetQ:=λv st=>∃ a,kaZ P st.h st.env f.results.toList=some a/\∃ h2:AH,(∀ q B,h2 q=some B->st.h q=some B)/\kgl P C κ ln v args a h2 st.n) (λc κ' ln' s i h' n' v W K I=>fin _ c κ' ln' s i h' n' v W K I) (hY:=⟨λ_=>hD,λhh=>absurd hh (by cases u:alk Δ IM with | none=>decide | some C=>rw [u] at hM0; cases hM0)⟩) _ [body] _ _ _ y κ ln ahN (kar args) h n W0 ⟨R0,λx v id _ _=>⟨rfl,rfl⟩,λx v I=>I⟩ ?_ hy;refine ⟨λκ' ln' z' s i h' n' K X=>?_,λid κ ln z s env h n R X=>kaa X,λv st I X=>?_,λM=>by rw [hD] at M; cases M⟩
  ·dsimp only at X;split at X
   ·rename_i aE;have aV:f.results.toList=[]:=by simpa [jcw] using aE
    split at X
    ·rename_i v I;cases X;show ∃ v,kaZ P h' i f.results.toList=some v/\K0 v h' n';rw [aV];refine ⟨.tp [],rfl,.inr ⟨rfl,κ',ln',z',⟨e0,[]⟩,⟨[],s.hp,s.n,s.dy⟩,i,⟨λx=>?_,K.R.blk,K.R.lt,K.R.inj,K.R.zin,K.R.zout,K.R.bnd,K.R.hn,λx v h=>(by cases h),K.R.g,K.R.dy,K.R.zk,K.R.fam.map (λid B hB=>.inl ⟨B,hB,λh=>h,rfl,rfl⟩) (λid _ B r _ h1 h2 h3=>((K.R.fam id B h1 h2).2 r h3).2.1) (jah _)⟩,λx=>?_,λh2 R2=>?_⟩⟩
     ·have u:=K.R.env x;cases Z:alk e0 x with
      | none=>simp only [tlk,alk,Z]; exact .un _
      | some w=>
       rw [K.R.e0_tlk Z] at u;simp only [tlk,alk,Z]; exact u
     ·cases Z:alk e0 x with
      | none=>right; simp only [tlk,alk,Z]; rfl
      | some w=>
       left;simp only [tlk,alk,Z,jcc];rw [ab] at Z;split at Z
       ·rename_i w' af;cases Z;rw [ac] at af;have ad:(alk C.out.env x).isSome=true:=by
         cases hh:(alk C.out.env x).isSome with
         | true=>rfl
         | false=>rw [hh] at af; simp at af
        rw [if_pos ad] at af;have Z:=af;obtain ⟨pv,ay⟩:=jan.1 ad;have ho:=jap.1 am _ (kau ay);have bc:x<C.ks.length:=by
         have e:(alk (unE (A:=sem) C.inp.env l2).1 x).isSome=(alk C.inp.env x).isSome:=kgq _ _ _;have e2:alk (unE (A:=sem) C.inp.env l2).1 x=some w:=Z;rw [e2] at e;obtain ⟨aN,ah⟩:=jan.1 e.symm;exact of_decide_eq_true (jap.1 aI _ (kau ah))
        simp only [jbe,jad,jak] at ho;rcases ho with ho | ⟨ad,ai⟩
        ·omega
        ·have ae:∀ U v0,alk C.inp.env x=some U->(∀ xs:Ya ((t:Ty)×sem.D t),(unV (A:=sem) U xs).1=v0)->w=v0:=λU v0 M hu=>by
          have ak:alk (kak (A:=sem) C.inp C.n0 l2).env x=some v0:=kiW C.inp.env l2 x U v0 M hu;rw [Z] at ak; exact Option.some.inj ak
         split at ai
         ·rename_i p M; rw [ae _ (.mw p) M (λxs=>rfl)]; rfl
         ·rename_i p j M; rw [ae _ (.ptr p j) M (λxs=>rfl)]; rfl
         ·rename_i p M; rw [ae _ (.mp p) M (λxs=>rfl)]; rfl
         ·cases ai
       ·obtain ⟨p,_,_,rfl⟩:=au x _ Z; rfl
     ·obtain ⟨a,q1,q2⟩:=fin [] _ _ _ _ _ _ _ _ W0 ⟨R2,K.j,K.w⟩ I;cases q1;exact q2
    ·exact kox X
   ·split at X
    ·exact kaa X
    ·rename_i aY;split at X
     ·rename_i v I;cases X;obtain rfl:=K.R.dy (by simpa using aY);obtain ⟨a,q1,q2⟩:=fin _ _ _ _ _ _ _ _ _ W0 K I;exact ⟨a,q1,.inl q2⟩
     ·exact kox X
  ·cases X;obtain ⟨a,q1,q2⟩:=I;exact ⟨a,q1,.inl q2⟩
end
section
variable {P:Ye} {g:FuncId}
theorem Good.more {C:Ctr} {M:CtrM} (h:Good P g C) (a:M.ok=true/\GoodM P g M):Good P g ⟨C.nm,C.asZ,C.rs,C.F,M::C.mus,C.its⟩:=by
 refine ⟨h.1,h.2.1,λb hM=>?_,h.2.2.2⟩;rcases jbi.1 hM with rfl | hM
 ·exact a
 ·exact h.2.2.1 b hM
theorem kei {nm:String}:Good P g ⟨nm,[],[],λ_=>none,[],[]⟩:=⟨rfl,λx r h=>(by cases h),λM h=>(by cases h),λM h=>(by cases h)⟩
theorem ktx {C:Ctr} (b:C.rs.all Ty.dat=true) (h:∀ x,C.F x=none) (a:C.mus=[]) (f:C.its=[]) (hn:C.now=none:=by rfl):Good P g C:=
 ⟨b,λx r hr=>(by rw [h x] at hr; cases hr),(λM hM=>by rw [a] at hM; cases hM),by rw [hn]; intro M hM; rw [f] at hM; cases hM⟩
end
section
variable {P:Ye} {g:FuncId}
end
end Go.Abs
namespace Go.Proofs
open Go.Shelf Go.RowKit
variable {P:Ye} {ρ:Ren}
end Go.Proofs
namespace Go.Abs
open Go Go.RowKit Go.Shelf Go.Proofs
section
variable {P:Ye} {ρ:Ren}
end
section
variable {P:Ye} {ρ:Ren} {κ κ':Nat->Yb Nat} {ln ln':Nat->Nat} {s:TS sem} {env:Env} {h h':AH} {n n':Nat}
end
def itoaF (x:Int):Yb (Ya UInt8):=if -9223372036854775808<=x/\x<=9223372036854775807 then some (Lib.itoa x) else none
section
variable {P:Ye} {ρ:Ren}
theorem ktO {w:World} (k:Nat) (os:Array Obj):Blw w (Sort.grow (w.drewN k) os):=
 ⟨⟨rfl,rfl,rfl,by simp [Sort.grow,World.drewN],λb a=>by simp [Sort.grow,World.drewN,Array.getElem?_append_left a]⟩,Nat.le_add_right _ _⟩
theorem kvq {w:World} {O:Nat->Prop} {μ:Mu} {n:Nat} {vs:Array Yd} {v:Yd} (f:vs.size=1) (a:∃ u,vs[0]?=some u/\VR w O μ n (.sc v) u):vs = #[v]:=by
 obtain ⟨u,b,h⟩:=a;have:=h.sc_inv;subst this;apply Array.ext
 ·simpa using f
 ·intro i j _;match i with
  | 0=>simpa [jao (show 0<vs.size by omega)] using b
  | i+1=>omega
theorem ktl {nm:String} {f:FuncId} (B:∀ (x:Int) (w:World),-9223372036854775808<=x/\x<=9223372036854775807->Lib.TabIs P w nm .u64 Lib.pow10Tab->Calls P f #[.int .i64 x] w λe w'=>e = .returned (.string ⟨(Lib.itoa x).toArray⟩)/\∃ k os,w'=Sort.grow (w.drewN k) os)
  {g:Nat} (m:P.globalNamed nm=some g) (j:GPin g=some λc=>c=(Lib.pow10Tab.map λz=>Value.int .u64 z).toArray) (hP:∃ fn:Func,P.funcs[f]?=some fn/\fn.body.isSome=true/\(fn.name== "runtime.NumGoroutine")=false):Good P f ⟨ "",[.i .i64],[.s],λx=>itoaF x,[],[]⟩:=by
 refine ⟨rfl,λx r h l hl=>?_,by simp,λI h=>(by cases h)⟩;obtain ⟨a,rfl,y⟩:=hl;obtain rfl:=(kaI rfl).1 y;replace h:itoaF x=some r:=h;unfold itoaF at h;split at h
 ·rename_i v;cases h;refine ⟨hP,λO w vs t u A=>?_⟩;obtain rfl:=kvq u (A 0 _ rfl);have b:Lib.TabIs P w nm .u64 Lib.pow10Tab:=by
   obtain ⟨c,T,f,p,h2⟩:=t.pin g _ j;unfold Lib.TabIs World.var?;rw [m];simp only [jab,p,h2]
  refine (B x w v b).mono ?_;rintro e w' ⟨rfl,k,os,rfl⟩;exact ⟨_,_,rfl,rfl,.sc _ rfl,ktO k os⟩
 ·cases h
end
end Go.Abs
namespace Go.Abs
open Go Go.RowKit
section
variable {P:Ye} {N:Nat} {D:DX} {O:Nat->Prop} {Q:Exit->St->Prop}
variable {cs:Ya Code} {env:Env} {h:AH} {n:Nat} {l:Ya Oper}
end
section
variable {P:Ye} {h:AH} {n:Nat} {env:Env} {o:Oper} {κ:Type} [DecidableEq κ] {kf:κ->Yd} {kt e T:Yc} {id:Nat} {E:Ya (κ×Int)} {x:κ}
end
section
variable {P:Ye} {N:Nat} {D:DX} {O:Nat->Prop} {Q:Exit->St->Prop}
variable {cs:Ya Code} {env:Env} {h:AH} {n:Nat} {l:Ya Oper}
end
end Go.Abs
namespace Go.Abs
open Go
theorem kaG {α:Type} {l:Ya α} {i:Nat} (h:i<l.length):gi l (i:Int)=some l[i]:=by rw [kvK,jaf h]
theorem kqm {α β:Type} {F:α->Yb (α⊕β)}:∀ {n:Nat} {x:α} {z:β} (m:Nat),itN F n x=some z->itN F (n+m) x=some z
 | 0,x,z,m,h=>by simp [itN] at h
 | n+1,x,z,m,h=>by
  rw [Nat.succ_add];simp only [itN] at h ⊢;split at h
  ·cases h
  ·rename_i y b; rw [b] at *; exact kqm m h
  ·rename_i w a; rw [a] at *; exact h
theorem kek {α β:Type} {F:α->Yb (α⊕β)} {n:Nat} {x:α} {z:β} (h:itN F n x=some z) (hn:n<=18446744073709551616):iter F x=some z:=by
 unfold iter;have:=kqm (18446744073709551616-n) h
 rwa [show n+(18446744073709551616-n)=18446744073709551616 by omega] at this
theorem kbb {α β:Type} {F:α->Yb (α⊕β)} {n:Nat} {x:α} {z:β} (h:F x=some (.inr z)):itN F (n+1) x=some z:=by simp [itN,h]
theorem kbf {α β:Type} {F:α->Yb (α⊕β)} {n:Nat} {x y:α} (h:F x=some (.inl y)):itN F (n+1) x=itN F n y:=by simp [itN,h]
theorem kae {α:Type} (l:Ya α):lenI l=(l.length:Int):=rfl
theorem kaA {i:Nat} (h:i<9223372036854775807):w64 ((i:Int)+1)=((i+1:Nat):Int):=by rw [kbs (by omega) (by omega)]; rfl
def endL {β:Type}:Yb β->β⊕Unit
 | some b=>.inl b
 | none=>.inr ()
def nextL {β:Type} (i:Nat):Yb β->Int⊕(β⊕Unit)
 | some b=>.inr (.inl b)
 | none=>.inl ((i+1:Nat):Int)
theorem kmq {α β:Type} {F:Int->Yb (Int⊕(β⊕Unit))} (l:Ya α) (hl:l.length<=9223372036854775807) (f:Nat->α->Yb β)
  (p:∀ i,(a:i<l.length)->F (i:Int)=some (nextL i (f i l[i]))) (h2:F (l.length:Int)=some (.inr (.inr ()))) :
  iter F 0=some (endL (l.zipIdx.findSome? λx=>f x.2 x.1)):=by
 have:∀ k i:Nat,i+k=l.length->itN F (k+1) (i:Int)=some (endL (((l.drop i).zipIdx i).findSome? (λx=>f x.2 x.1))):=by
  intro k;induction k with
  | zero=>
   intro i h;have:i=l.length:=by omega
   subst this;rw [kbb h2,List.drop_length]; rfl
  | succ k m=>
   intro i h;have a:i<l.length:=by omega
   rw [jbd a,jct,List.findSome?_cons];have e:=p i a;cases j:f i l[i] with
   | some b=>rw [j] at e; rw [kbb e]; rfl
   | none=>rw [j] at e; rw [kbf e,m (i+1) (by omega)]
 exact kek (this l.length 0 (by omega)) (by omega)
theorem kaJ {α:Type} {a b:Ya α} (h:a.length+b.length<=1048576):gapp a b=some (a++b):=by unfold gapp; rw [if_pos h]
theorem kit {α:Type} {x:α} {l:Ya α}:gsl (x::l) 1 (lenI (x::l))=some l:=by
 unfold gsl;rw [if_pos (by rw [kae]; simp only [jbt]; omega)];rw [kae,jam,List.take_length]; rfl
theorem kbA {α:Type} {x:α} {l:Ya α}:gi (x::l) 0=some x:=rfl
end Go.Abs
namespace Go.Abs
open Go Go.RowKit
section
variable {κ:Type} [DecidableEq κ]
end
section
variable {κ κ':Type}
end
section
variable {P:Ye} {env:Env} {h:AH} {n:Nat} {o:Oper}
theorem rdO.fldOwn {T:Yc} {x:Yf} {f d:Nat} {ft:Yc} {id i j k:Nat} {T':Yc} {es:Ya (Ya AV)} (b:o.op = .fieldAddr T x f) (m:fldO P T f=some (d,ft)) (p:ev env x = .own id i j) (hB:h id=some (.cells k T' es)):rdO P h o env (.own id i (j+d)):=λn K a=>by
 unfold aop; rw [b]; simp only [m,p,hB]; exact ⟨rfl,a⟩
theorem rdO.idxMs {T e:Yc} {x i:Yf} {id len k:Nat} {T':Yc} {es:Ya (Ya AV)} {m:IntKind} {j:Nat} (p:o.op = .indexAddr T x i) (t:ev env x = .ms id 0 len) (r:ev env i = .sc (.int m j)) (hT:elemO P T=some e) (hB:h id=some (.cells k T' es)) (u:j<len) (a:k=P.cellsOf e) (b:k≠0):rdO P h o env (.own id j 0):=λn K f=>by
 unfold aop; rw [p]; simp only; rw [t,r]; simp only [kbB,hT,hB];exact ⟨Int.natCast_nonneg _,by omega,a,b,by simpa using f⟩
theorem rdO.lenRow {P:Ye} {env:Env} {h:AH} {o:Oper} {c:Call} {x:Yf} {T:Yc} {v:AV} {m:Nat} (f:o.op = .call c) (r:c.callee = .builtin .len) (j:c.args = #[x]) (b:c.argTypes = #[T]) (i:ev env x=v) (hT:(elemO P T).isSome=true) (p:(v=nilS/\m=0)\/∃ id k T' es,v = .ms id 0 m/\h id=some (.cells k T' es)):rdO P h o env (.sc (.int .i64 m)):=λn K a=>by
 unfold aop; rw [f]; simp only; rw [r,j,b];show lenK P h T (ev env x) λm=>K (.sc (.int .i64 m)) h n;rw [i];rcases p with ⟨rfl,rfl⟩ | ⟨id,k,T',es,rfl,hB⟩
 ·exact ⟨hT,a⟩
 ·exact ⟨hT,by rw [hB]; rfl,λ_=>a⟩
end
end Go.Abs
namespace Go.Abs
open Go Go.RowKit Go.Shelf Go.Proofs
section
variable {P:Ye} {N:Nat} {D:DX} {O:Nat->Prop} {Q:Exit->St->Prop} {st:St} {μ:Mu} {w:World} {n:Nat} {h:AH} {G:IterG} {env:Env} {o:Oper}
theorem rdO.lenS {c:Call} {x:Yf} {T:Yc} {s:ByteArray} (b:o.op = .call c) (j:c.callee = .builtin .len) (f:c.args = #[x]) (i:c.argTypes = #[T]) (k:ev env x = .sc (.string s)) (hT:P.underlying T=some .string):rdO P h o env (.sc (.int .i64 s.size)):=λn K a=>by
 unfold aop; rw [b]; simp only; rw [j,f,i]; simp only [kai]; rw [k]; exact ⟨hT,a⟩
theorem rdO.slS {T:Yc} {x:Yf} {a b:Yb Yf} {s:ByteArray} {v:AV} (i:o.op = .slice T x a b none) (k:ev env x = .sc (.string s)) (hT:P.underlying T=some .string) (j:∀ K:Nat->Nat->Prop,(∀ l u,AV.sc (.string (s.extract l u))=v->K l u)->kaT s.size (a.map (ev env)) (b.map (ev env)) K):rdO P h o env v:=λn K f=>by
 unfold aop; rw [i]; simp only; rw [k]; exact ⟨hT,j _ λl u e=>by rw [e]; exact f⟩
theorem rdO.fld0 {T:Yc} {x:Yf} {f:Nat} {ft:Yc} {id i j k:Nat} {T':Yc} {es:Ya (Ya AV)} (a:o.op = .fieldAddr T x f) (b:fldO P T f=some (0,ft)) (m:ev env x = .own id i j) (hB:h id=some (.cells k T' es)):rdO P h o env (.own id i j):=rdO.fldOwn (d:=0) a b m hB
theorem rdO.nilc {x:Yf} {id i j k:Nat} {T:Yc} {es:Ya (Ya AV)} (b:o.op = .nilCheck x) (f:ev env x = .own id i j) (hB:h id=some (.cells k T es)):rdO P h o env (.own id i j):=λn K a=>by
 unfold aop; rw [b]; simp only; rw [f]; exact ⟨by simp only [liveA,hB]; rfl,a⟩
theorem kjA (y:Ya UInt8) (l u:Nat):(⟨y.toArray⟩:ByteArray).extract l u=⟨((y.take u).drop l).toArray⟩:=by
 apply ByteArray.ext;simp [List.drop_take]
theorem aops.rd {a:Ya (Yb Tmp)} {r:Ya Oper} {K:St->Prop} {v:AV} (i:o.guard=none) (f:rdO P h o env v) (b:aops P a r ⟨putE env o.dst v,h,n⟩ K):aops P a (o::r) ⟨env,h,n⟩ K:=aops.cons i (f _ _ b)
theorem kcI {id k:Nat} {T:Yc} {a:AV} (hB:h id=some (.cells k T [[a]])):deref h (.own id 0 0)=some [a]:=by
 simp [deref,hB]
def YK (P:Ye) (G:IterG) (a:Ya (Yb Tmp)) (y:Oper) (l2:Ya Oper) (K:St->Prop) (s:St):Prop:=
 GOk1 a y s.env/\∃ (c:Call) (f:Yf) (es:Ya (Ya AV)) (vs:Ya Yd),y.op = .call c/\c.callee = .value f/\ev s.env f = .sc (.func (.yield G.l) #[] #[])/\lk s.env GS = .gs es/\G.xs[es.length]?=some (vs.map .sc)/\c.args.toList.map (ev s.env)=vs.map .sc/\(∀ id B,s.h id=some B->id<G.pn)/\
  ∀ b:Bool,aops P a l2 ⟨putE ((GS,if b then .gs (es++[[]]) else .ud)::s.env) y.dst (.sc (.bool b)),s.h,s.n⟩ K
theorem Sat.regionK {id:Nat} {l1:Ya Oper} {y:Oper} {l2:Ya Oper} (hD:D.it=some G) (ok:kej P G) (u:kaY N (l1++y::l2)=true)
  (C:aops P ((l1++y::l2).map (·.dst)) l1 st (YK P G ((l1++y::l2).map (·.dst)) y l2 (Q .normal))):Sat P N D O (.region id (l1++y::l2).toArray false) Q st:=by
 intro Z o ro μ a w p K;obtain rfl:=p.it hD;have i:=u;simp only [kaY,List.all_append,jdx,jad] at i;refine kis (kcN (l:=l1++y::l2) (r2:=y::l2) l1 st i.1 K C λY X a1 S m j _=>?_);obtain ⟨k0,c,f,es,vs,k1,k2,k3,R,F,J,B,A⟩:=m;unfold wpL;rw [if_pos (k0.wanted j)];refine ksc hD ok k1 k2 j k3 R F J B (λx L=>by have:=i.2.1; rw [L] at this; simpa using this) λb U O2 μ2 w' e r=>?_;subst e;have:=kcN (ro:=none) (l:=l1++y::l2) (r2:=[]) l2 _ i.2.2 r (A b) (Q':=Post N D O Q μ w st.n) λM I a3 v t k _=>by
  show Post N D O Q μ w st.n .normal a3 v;exact ⟨M,I,O2,(λe=>by rw [hD] at e; cases e),t,k,λe=>by rw [hD] at e; cases e⟩
 rwa [jbf] at this
theorem SatL.yregK {id:Nat} {l:Ya Oper} {cs:Ya Code} (k:Nat) {y:Oper} (j:l[k]?=some y) (hD:D.it=some G) (ok:kej P G) (f:kaY N l=true)
  (i:aopsR P h (l.map (·.dst)) (l.take k) env λe=>YK P G (l.map (·.dst)) y (l.drop (k+1)) (SatL P N D O cs Q) ⟨e,h,n⟩):SatL P N D O (.region id l.toArray false::cs) Q ⟨env,h,n⟩:=by
 obtain ⟨a,b⟩:=kuy j;have:=Sat.regionK (P:=P) (N:=N) (D:=D) (O:=O) (Q:=thenQ (SatL P N D O cs Q) Q) (id:=id) (st:=⟨env,h,n⟩) (l1:=l.take k) (y:=y) (l2:=l.drop (k+1)) hD ok (by rw [<-a]; exact f) (by rw [<-a]; exact i.plain);rw [<-a] at this;exact this
def ownH (a:Ya AV) (T:Nat->Yc):AH:=λid=>match a[id]? with | some (.fp [.sc v])=>some (.cells 1 (T id) [[.sc v]]) | _=>none
theorem IT.own {g:FuncId} {fn:Func} {c:Code} {f:Ya AV} {xs:Ya (Ya AV)} (hf:P.funcs[g]?=some fn) (hb:fn.body=some c) (R:(fn.name== "runtime.NumGoroutine")=false) (ah:f.length+1<=fn.ntmps) (hN:fn.ntmps<=GS) (Z:fn.results.toList=[])
  (aa:∀ (D:DX) (G:IterG) (O:Nat->Prop) (T:Nat->Yc),D.it=some G->G.xs=xs->G.pn=f.length->kej P G->Sat P fn.ntmps D O c (itQ xs) ⟨(GS,.gs [])::kar (.sc (.func (.yield G.l) #[] #[])::(List.range f.length).map λj=>.own j 0 0),ownH f T,f.length⟩):IT P g f xs true:=by
 refine ⟨⟨fn,hf,by rw [hb]; rfl,R⟩,λO w vs G hx ap ok hO K an ac hJ=>callsIn_of_wp_marks hf hb trivial ?_⟩;obtain ⟨o1,o2⟩:kri w O G.pv f vs:=ac;let G':IterG:={ G with pn:=f.length }
 have ae:kej P G':=⟨ok.jb,ok.xb,ok.y⟩;have F:∀ j,j<f.length->∃ v b T cs,f[j]?=some (.fp [.sc v])/\vs[j]?=some (.pointer (some ⟨b,0,none⟩))/\w.heap[b]?=some (.cells cs T (0,0))/\cs[0]?=some v/\v.oneCell'=true/\G.pv b/\¬ OG O b:=λj p=>by
  obtain ⟨v,b,T,cs,r,h2⟩:=o1 j _ (jaf p);exact ⟨v,b,T,cs,by rw [jaf p,r],h2⟩
 obtain ⟨A,C⟩:∃ A:Nat->Nat,∀ j,j<f.length->vs[j]?=some (.pointer (some ⟨A j,0,none⟩)):=by
  refine ⟨λj=>match vs[j]? with | some (.pointer (some a))=>a.block | _=>0,λj p=>?_⟩;obtain ⟨v,b,T,cs,r,h2,_⟩:=F j p;simp only [h2]
 have m:∀ j,j<f.length->∃ v T cs,f[j]?=some (.fp [.sc v])/\w.heap[A j]?=some (.cells cs T (0,0))/\cs[0]?=some v/\v.oneCell'=true/\G.pv (A j)/\¬ OG O (A j):=λj p=>by
  obtain ⟨v,b,T,cs,r,h2,L⟩:=F j p;have:=C j p;rw [h2] at this;simp only [Option.some.injEq,Value.pointer.injEq,Addr.mk.injEq,and_true] at this;subst this;exact ⟨v,T,cs,r,L⟩
 obtain ⟨T,hT⟩:∃ T:Nat->Yc,∀ j,j<f.length->∃ cs,w.heap[A j]?=some (.cells cs (T j) (0,0)):=by
  refine ⟨λj=>match w.heap[A j]? with | some (.cells _ T _)=>T | _=>0,λj p=>?_⟩;obtain ⟨v,T,cs,_,L,_⟩:=m j p;exact ⟨cs,by simp only [L]⟩
 let μ:Mu:=λid=>if id<f.length then some (A id,1) else none
 have X:∀ id b k,μ id=some (b,k)->id<f.length/\b=A id/\k=1:=λid b k e=>by
  simp only [μ] at e;split at e
  ·cases e; exact ⟨by assumption,rfl,rfl⟩
  ·cases e
 have hr:HR w O μ (ownH f T) f.length:=by
  refine ⟨hO,λid b k e=>?_,λid S b k k' e e'=>?_,λid b k e=>?_,λid B hB=>?_⟩
  ·obtain ⟨r,rfl,_⟩:=X id b k e;obtain ⟨v,T,cs,_,L,_⟩:=m id r;exact ⟨r,(jaj.1 L).1⟩
  ·obtain ⟨r,h2,_⟩:=X id b k e;obtain ⟨al,aj,_⟩:=X S b k' e';exact o2 id S (by omega) (by rw [C id r,C S al,<-h2,<-aj])
  ·obtain ⟨r,rfl,_⟩:=X id b k e;obtain ⟨v,T,cs,_,_,_,_,_,h⟩:=m id r;exact h
  ·unfold ownH at hB;split at hB
   ·rename_i v hv;cases hB;have p:=(jae.1 hv).1;obtain ⟨v',T',cs,q1,q2,q3,q4,_⟩:=m id p;rw [hv] at q1; cases q1;obtain ⟨am,q5⟩:=hT id p;rw [q2] at q5; cases q5;refine ⟨A id,cs,by simp only [μ]; rw [if_pos p],q2,λi e hi=>?_⟩;cases i with
    | succ i=>simp at hi
    | zero=>
     simp only [jci,Option.some.injEq] at hi;subst hi;refine ⟨rfl,λj a t=>?_⟩;cases j with
     | succ j=>simp at t
     | zero=>
      simp only [jci,Option.some.injEq] at t;subst t;exact ⟨q4,v,by simpa using q3,.sc v q4⟩
   ·cases hB
 refine wpIn_mono (aa ⟨w.heap.size,some G'⟩ G' O T rfl hx rfl ae O (λe=>by cases e) none μ _ w trivial ⟨hr,?_,.nil _ _ _ (jah _),λs=>?_,λ_=>hN,?_⟩) ?_
 ·simp [K]; omega
 ·have ad:(#[Value.func (.yield G.l) #[] #[]]++vs).size=(AV.sc (.func (.yield G.l) #[] #[])::(List.range f.length).map λj=>AV.own j 0 0).length:=by simp [K]; omega
  simp only [lk];by_cases hg:s=GS
  ·rw [if_pos hg,hg];have:(#[Value.func (.yield G.l) #[] #[]]++vs++Array.replicate (fn.ntmps-(#[Value.func (.yield G.l) #[] #[]]++vs).size) undef).getD GS undef=undef:=by
    rw [jag,jeb (by simp [K]; omega)]; rfl
   rw [this]; exact .gs _
  ·rw [if_neg hg];refine kuj ad (λj c p=>?_) s;cases j with
   | zero=>
    simp only [jci,Option.some.injEq] at p;subst p;exact ⟨_,by rw [Array.getElem?_append_left (by simp)]; rfl,.sc _ rfl⟩
   | succ j=>
    simp only [jch,jas,jac] at p;obtain ⟨j',t,rfl⟩:=p;obtain ⟨af,e⟩:=jae.1 t;simp only [List.getElem_range] at e;subst e;have I:j<f.length:=by simpa using af
    refine ⟨_,by rw [Array.getElem?_append_right (by simp)]; simpa using C j I,.own j 0 0 _ I rfl λb k e=>?_⟩;obtain ⟨_,rfl,rfl⟩:=X j b k e;rfl
 ·unfold GInv;refine ⟨w,.of (.refl _),⟨jah _,λid b k e=>.inr ?_⟩,by simpa [lk] using hJ⟩;obtain ⟨r,rfl,_⟩:=X id b k e;obtain ⟨v,T,cs,_,_,_,_,h,_⟩:=m id r;exact h
 ·rintro e a' w' ⟨ao,μ',O',o',⟨ak,ai⟩,U,_⟩;have ab:a'.defers=[]:=U.defers.1 rfl;have Y:(∃ O',G.J xs.length O' w')\/G.Jx w':=by
   have M:=U.gi;unfold GInv at M;simp only at M;obtain ⟨W,g1,g2,g3⟩:=M;rcases ai with ⟨es,r,h2⟩ | r
   ·rw [r] at g3; rw [<-h2]; exact .inl ⟨O',ok.jb _ _ _ _ g3 g1⟩
   ·rw [r] at g3; exact .inr (ok.xb _ _ g3 g1)
  have hl:LeavesInM (FF none) 0 P fn a'.tmps (λe w'=>(∃ v,e = .returned v)/\((∃ O',G.J xs.length O' w')\/G.Jx w')) a'.defers .returning w':=by
   rw [ab];obtain ⟨u,L,_⟩:=kkp (fn:=fn) (v:=.tp []) U (by rw [Z]; rfl);exact ⟨u,L,⟨u,rfl⟩,Y⟩
  rcases ak with rfl | rfl <;> exact hl
end
def kpo (s a:Ya UInt8):Yb Int:=match a with | [c]=>some (Lib.indexByte s c) | _=>none
theorem kux {w:World} {O:Nat->Prop} {μ:Mu} {n:Nat} {vs:Array Yd} {v v2:Yd} (j:vs.size=2) (k:∃ u,vs[0]?=some u/\VR w O μ n (.sc v) u) (b:∃ u,vs[1]?=some u/\VR w O μ n (.sc v2) u):vs = #[v,v2]:=by
 obtain ⟨u,f,h⟩:=k;have:=h.sc_inv;subst this;obtain ⟨m,a,h2⟩:=b;have:=h2.sc_inv;subst this;apply Array.ext
 ·simpa using j
 ·intro i p _;match i with
  | 0=>simpa [jao (show 0<vs.size by omega)] using f
  | 1=>simpa [jao (show 1<vs.size by omega)] using a
  | i+2=>omega
theorem krX {P:Ye} {f:FuncId} (v:∀ (x:Ya UInt8) (c:UInt8) (w:World),Calls P f #[.string ⟨x.toArray⟩,.string ⟨#[c]⟩] w λe w'=>e = .returned (.int .i64 (Lib.indexByte x c))/\w'=w)
  (hP:∃ fn:Func,P.funcs[f]?=some fn/\fn.body.isSome=true/\(fn.name== "runtime.NumGoroutine")=false):Good P f ⟨ "",[.s,.s],[.i .i64],λx=>kpo x.1 x.2,[],[]⟩:=by
 refine ⟨rfl,λx r h l hl=>?_,by simp,λI h=>(by cases h)⟩;obtain ⟨s,j⟩:=x;obtain ⟨a,l',rfl,u,b,rfl,m⟩:=hl;obtain rfl:=(kaI rfl).1 u;obtain rfl:=(kaI rfl).1 m;replace h:kpo s j=some r:=h;rcases j with _ | ⟨c,_ | ⟨d,t⟩⟩
 ·cases h
 ·obtain rfl:Lib.indexByte s c=r:=Option.some.inj h;refine ⟨hP,λO w vs y p k=>?_⟩;obtain rfl:=kux p (k 0 _ rfl) (k 1 _ rfl);refine (v s c w).mono ?_;rintro e w' ⟨rfl,rfl⟩;exact ⟨_,_,rfl,rfl,.sc _ rfl,.refl _⟩
 ·cases h
def kaE (c:UInt8):Ya UInt8->Ya (Ya UInt8)
 | []=>[[]]
 | b::l=>if b==c then []::kaE c l else match kaE c l with
  | x::r=>(b::x)::r
  | []=>[[b]]
theorem kdC (c b:UInt8) (l:Ya UInt8):kaE c (b::l)=if b==c then []::kaE c l else match kaE c l with | x::r=>(b::x)::r | []=>[[b]]:=rfl
theorem kkn (c:UInt8):∀ l:Ya UInt8,Lib.indexByte l c = -1->kaE c l=[l]
 | [],_=>rfl
 | b::l,h=>by
  unfold Lib.indexByte at h;rw [kdC];by_cases f:(b==c)=true
  ·rw [if_pos f] at h; cases h
  ·rw [if_neg f] at h ⊢;have a:Lib.indexByte l c = -1:=by
    by_cases a:Lib.indexByte l c = -1
    ·exact a
    ·rw [if_neg (by simpa using a)] at h;have:=Lib.indexByte_ge l c;omega
   rw [kkn c l a]
theorem kkv (c:UInt8):∀ (l:Ya UInt8) (i:Nat),Lib.indexByte l c=i->i<l.length/\kaE c l=l.take i::kaE c (l.drop (i+1))
 | [],i,h=>by unfold Lib.indexByte at h; omega
 | b::l,i,h=>by
  unfold Lib.indexByte at h;rw [kdC];by_cases f:(b==c)=true
  ·rw [if_pos f] at h ⊢;obtain rfl:i=0:=by omega
   exact ⟨by simp,rfl⟩
  ·rw [if_neg f] at h ⊢;by_cases a:Lib.indexByte l c = -1
   ·rw [if_pos (by simpa using a)] at h; omega
   ·rw [if_neg (by simpa using a)] at h;have:=Lib.indexByte_ge l c;obtain ⟨j,rfl⟩:∃ j:Nat,i=j+1:=⟨i-1,by omega⟩;obtain ⟨h2,k⟩:=kkv c l j (by omega);refine ⟨by simpa using h2,?_⟩;rw [k];simp
def klG (a s:Ya UInt8) (k:Int):Yb (Ya (Ya UInt8)):=match a with
 | [c]=>if k=0/\s.length<=9223372036854775806 then some (kaE c s) else none
 | _=>none
def khC (i:Int->Int->Ya Int->Yb Bool) (s:Ya UInt8) (a f:Int):Yb (Int×Bool):=
 if s.length<=281474976710656 then match Lib.atoiAll s with
  | .ok v=>if Lib.itoa v==s then (i a f [v]).bind λb=>some (v,b) else some (v,false)
  | .range=>some (Lib.atoiSat s,false)
  | _=>some (0,false) else none
variable {P:Ye} {ρ:Ren}
set_option maxHeartbeats 4000000 in
set_option maxRecDepth 100000 in
theorem kty (L:LaysM.n316 P ρ) (s:ByteArray) (w:World) (B:s.size<=281474976710656):Calls P (ρ.f 316) #[.string s] w λe w'=>e = .returned (.string s)/\Blw w w':=by
 have mixed:=L.mixed;have t5:=L.t5; have a5:=L.a5; have z5:=L.z5; have v5:=L.v5;have t9:=L.t9; have a9:=L.a9; have z9:=L.z9; have v9:=L.v9;have t3:=L.t3; have a3:=L.a3; have z3:=L.z3; have v3:=L.v3;have t4:=L.t4; have a4:=L.a4; have z4:=L.z4; have v4:=L.v4;have t37:=L.t37; have a37:=L.a37; have z37:=L.z37; have v37:=L.v37;have t0:=L.t0; have a0:=L.a0; have z0:=L.z0; have v0:=L.v0;have t127:=L.t127; have a127:=L.a127; have z127:=L.z127; have v127:=L.v127;by_cases A:s.size=0
 ·have F:s=⟨#[]⟩:=ByteArray.ext (Array.eq_empty_of_size_eq_zero A);subst F
  go_enter L.f316,Body.n316_ntmps ρ
  go_wp2
  go_ret
  exact ⟨rfl,.refl _⟩
 ·obtain ⟨i0,y,r,a,v⟩:=info_parts L.i5;have b:(P.info? (ρ.t 5)).map (·.size)=some 1:=by rw [y]; simp [a]
  have u:P.cellsOf (ρ.t 5)=1:=by simp [Program.cellsOf,y,a]
  obtain ⟨M,hM⟩:∃ M,M=madeCells (Value.int .u8 0).cells (((s.size:Nat):Int).toNat*i0.size):=⟨_,rfl⟩;have hMs:M.size=s.size:=by rw [hM,size_madeCells,a]; simp
  have I:∀ W:World,(Instr.makeSlice (ρ.t 37) (.int .i64 (s.size:Int)) (.int .i64 (s.size:Int))).run P W = .ok (.slice (some ⟨W.heap.size,0,none⟩) s.size s.size) (W.alloc (.cells M (ρ.t 5))):=λW=>by
   have h:=run_make (P:=P) W (ρ.t 37) (ρ.t 5) i0 (.int .u8 0) L.t37 y r .i64 .i64 (s.size:Int) (s.size:Int) (by omega) (by omega) (by rw [v]; omega) (by omega);rw [<-hM] at h;simpa using h
  clear hM;have i:=Lib.run_copy_row_string (P:=P) (w.alloc (.cells M (ρ.t 5))) (ρ.t 37) (ρ.t 9) (ρ.t 3) (ρ.t 5) w.heap.size 0 s.size s.size s M (ρ.t 5) L.t37 b (heap_alloc_new w _) (jah _) (by omega);obtain ⟨Y,hY⟩:∃ Y,Y=(M.toList.take 0++Lib.byteCells s.data.toList++M.toList.drop (0+s.size)).toArray:=⟨_,rfl⟩;rw [<-hY] at i;have hYl:Y.toList=Lib.byteCells s.data.toList:=by
   rw [hY,List.toList_toArray,jdi,jav,List.drop_of_length_le (by rw [jcg]; omega),jbf]
  have hYs:Y.size=s.size:=by rw [<-jcg,hYl,Lib.byteCells_length,<-Lib.size_eq]
  have hgY:((w.alloc (.cells M (ρ.t 5))).setRow w.heap.size Y).heap[w.heap.size]?=some (.cells Y (ρ.t 5) (0,0)):=setRow_heap _ _ M _ (ρ.t 5) (0,0) (heap_alloc_new w _);have m:s.data.toList≠[]:=λe=>A (by rw [Lib.size_eq,e]; rfl);have hUS:=Lib.run_unsafeString_row (P:=P) ((w.alloc (.cells M (ρ.t 5))).setRow w.heap.size Y) (ρ.t 127) (ρ.t 3) (ρ.t 9) (ρ.t 5) L.t127 u w.heap.size Y.size (by unfold World.shape?; rw [hgY]) s.data.toList m (by rw [<-Lib.size_eq]; omega) (by rw [<-Lib.size_eq]; omega)
   (λj x J=>Lib.cells_of_row hgY Y.size j _ (by rw [jaz (by rw [jcg]; exact jah _),hYl]; simp [Lib.byteCells,J]))
  rw [<-Lib.size_eq] at hUS;clear hY
  go_enter L.f316,Body.n316_ntmps ρ
  go_wp2
  go_ret
  have C:Below w.heap.size w ((w.alloc (.cells M (ρ.t 5))).setRow w.heap.size Y):=((Below.refl _ w).alloc (jah _) _).trans ⟨rfl,rfl,rfl,by simp,λk K=>setRow_other _ _ _ _ (by omega)⟩;exact ⟨rfl,Lib.below_freeze C (p:=⟨w.heap.size,0,none⟩) (jah _) _,by unfold World.freeze; split <;> exact jah _⟩
theorem Blw.trans' {a b c:World} (h:Blw a b) (k:Blw b c):Blw a c:=⟨h.1.trans (k.1.mono h.1.size),jcl h.2 k.2⟩
theorem Blw.drew' (w:World):Blw w w.drew:=⟨.drew (.refl _ w),jbp _⟩
theorem Blw.alloc' (w:World) (o:Obj):Blw w (w.alloc o):=⟨(Below.refl _ w).alloc (jah _) o,jah _⟩
theorem Blw.bytes (w:World) (T:Yc) (t:ByteArray):Blw w (Lib.bytesWorld w T t):=⟨Lib.bytesWorld_below _ _ _,jbp w.drawn⟩
set_option maxHeartbeats 6400000 in
set_option maxRecDepth 100000 in
theorem synED (L:LaysM.n279 P ρ) (fn s:ByteArray) (ev:Yd) (w:World) (b:s.size<=281474976710656) (p:w.cell? ⟨(ρ.g 15),0,none⟩=some ev) (i:∃ te pe,ev = .iface te pe) :
  Calls P (ρ.f 279) #[.string fn,.string s] w λe w'=>(∃ N,e = .returned (.pointer (some ⟨N,0,none⟩)))/\Blw w w':=by
 have mixed:=L.mixed;have t9:=L.t9; have a9:=L.a9; have z9:=L.z9; have v9:=L.v9;have t168:=L.t168; have a168:=L.a168; have z168:=L.z168; have v168:=L.v168;have t75:=L.t75; have a75:=L.a75; have z75:=L.z75; have v75:=L.v75;have t210:=L.t210; have m:=run_underlying L.t210; have a210:=L.a210; have z210:=L.z210; have v210:=L.v210;have k:∀ args w,(callFunc (ρ.f 316) args).run P w = .ok (.enter (ρ.f 316) args) w:=enters_of L.f316 (by kernel_rfl) rfl;obtain ⟨te,pe,rfl⟩:=i;have hG:(ρ.g 15)<w.heap.size:=Lib.lt_of_cell p;have j:w.drew.cell? ⟨(ρ.g 15),0,none⟩=some _:=p
 go_enter L.f279,Body.n279_ntmps ρ
 go_wp2
 go_region_with_o (
   go_at_fn (ρ.f 316)
   refine (kty { L with } s _ b).mono ?_;rintro e r ⟨rfl,a⟩;have t:r.cell? ⟨(ρ.g 15),0,none⟩=some _:=(a.1.cell (show (⟨(ρ.g 15),0,none⟩:Addr).block<w.drew.heap.size from hG)).trans j)
 all_goals (
  go_wp2
  go_ret
  exact ⟨⟨_,rfl⟩,((Blw.drew' w).trans' a).trans' (Blw.alloc' r _)⟩)
set_option maxHeartbeats 4000000 in
set_option maxRecDepth 100000 in
theorem kvN (L:LaysC.n245 P ρ) (fn s:ByteArray) (base a:Int) (ev:Yd) (w:World) (b:s.size<=281474976710656) (k:w.cell? ⟨(ρ.g 15),0,none⟩=some ev) (i:∃ te pe,ev = .iface te pe) :
  Calls P (ρ.f 245) #[.string fn,.string s,.int .i64 base,.int .i64 a,.iface (ρ.t 167) (.int .i64 2)] w λe w'=>(∃ N,e = .returned (.iface (ρ.t 168) (.pointer (some ⟨N,0,none⟩))))/\Blw w w':=by
 have mixed:=L.mixed;have t9:=L.t9; have a9:=L.a9; have z9:=L.z9; have v9:=L.v9;have t3:=L.t3; have a3:=L.a3; have z3:=L.z3; have v3:=L.v3;have t75:=L.t75; have a75:=L.a75; have z75:=L.z75; have v75:=L.v75;have t167:=L.t167; have a167:=L.a167; have z167:=L.z167; have v167:=L.v167;have t4:=L.t4; have a4:=L.a4; have z4:=L.z4; have v4:=L.v4;have t168:=L.t168; have a168:=L.a168; have z168:=L.z168; have v168:=L.v168;have m:∀ args w,(callFunc (ρ.f 279) args).run P w = .ok (.enter (ρ.f 279) args) w:=enters_of L.f279 (by kernel_rfl) rfl;have j:∀ W,(binOp .eql (ρ.t 75) (.iface (ρ.t 167) (.int .i64 2)) (.iface (ρ.t 167) (.int .i64 2))).run P W = .ok (.bool true) W:=λW=>Lib.run_eql_iface_int W 2 2 L.t75 L.c167 L.t167
 go_enter L.f245,Body.n245_ntmps ρ
 go_wp2_with (go_at_fn (ρ.f 279); refine (synED { L with } fn s ev _ b ?_ i).mono ?_)
 ·exact k
 rintro e p ⟨⟨N,rfl⟩,h⟩
 go_wp2
 go_ret
 exact ⟨⟨N,rfl⟩,h⟩
set_option maxHeartbeats 4000000 in
set_option maxRecDepth 100000 in
theorem kvV (L:LaysC.n172 P ρ) (s:ByteArray) (a:s.size<=281474976710656) (h:Lib.atoiAll s.data.toList=Lib.atoiAll []) (ev:Yd) (w:World) (v:w.cell? ⟨(ρ.g 15),0,none⟩=some ev) (j:∃ te pe,ev = .iface te pe) :
  Calls P (ρ.f 172) #[.string s] w λe w'=>(∃ N,e = .returned (.tuple #[.int .i64 0,.iface (ρ.t 168) (.pointer (some ⟨N,0,none⟩))]))/\Blw w w':=by
 have mixed:=L.mixed;have t9:=L.t9; have a9:=L.a9; have z9:=L.z9; have v9:=L.v9;have t3:=L.t3; have a3:=L.a3; have z3:=L.z3; have v3:=L.v3;have t75:=L.t75; have a75:=L.a75; have z75:=L.z75; have v75:=L.v75;have t76:=L.t76; have a76:=L.a76; have z76:=L.z76; have v76:=L.v76;have t4:=L.t4; have a4:=L.a4; have z4:=L.z4; have v4:=L.v4;have u:∀ args w,(callFunc (ρ.f 244) args).run P w = .ok (.enter (ρ.f 244) args) w:=enters_of L.f244 (by kernel_rfl) rfl;have p:∀ args w,(callFunc (ρ.f 245) args).run P w = .ok (.enter (ρ.f 245) args) w:=enters_of L.f245 (by kernel_rfl) rfl;have hG:(ρ.g 15)<w.heap.size:=Lib.lt_of_cell v;have hI:=Any.internal_strconv_Atoi_all { L with } s (by omega) w;rw [h] at hI;obtain ⟨k,m⟩:=Lib.atoiSat_bounds s.data.toList;generalize Lib.atoiSat s.data.toList=A at hI k m ⊢;have hI:Calls P (ρ.f 244) #[.string s] w λe w'=>e = .returned (.tuple #[.int .i64 (0),.iface (ρ.t 167) (.int .i64 2)])/\(w'=w\/∃ t,w'=Lib.bytesWorld w (ρ.t 5) t):=hI;clear h
 go_enter L.f172,Body.n172_ntmps ρ
 go_wp2_with (go_at_fn (ρ.f 244); refine hI.mono ?_)
 rintro e r ⟨rfl,hW⟩;have b:Blw w r:=by
  rcases hW with rfl | ⟨t,rfl⟩
  ·exact .refl _
  ·exact .bytes _ _ _
 have i:r.cell? ⟨(ρ.g 15),0,none⟩=some ev:=(b.1.cell (show (⟨(ρ.g 15),0,none⟩:Addr).block<w.heap.size from hG)).trans v;clear hW
 go_wp2_with (go_at_fn (ρ.f 245); refine (kvN { L with } ⟨#[65,116,111,105]⟩ s 0 0 ev _ a ?_ j).mono ?_)
 ·exact i
 rintro e B ⟨⟨N,rfl⟩,y⟩
 go_wp2
 go_ret2
 exact ⟨⟨N,rfl⟩,b.trans' y⟩
set_option maxHeartbeats 6400000 in
set_option maxRecDepth 100000 in
theorem rngED (L:LaysM.n280 P ρ) (fn s:ByteArray) (ev:Yd) (w:World) (b:s.size<=281474976710656) (p:w.cell? ⟨(ρ.g 16),0,none⟩=some ev) (i:∃ te pe,ev = .iface te pe) :
  Calls P (ρ.f 280) #[.string fn,.string s] w λe w'=>(∃ N,e = .returned (.pointer (some ⟨N,0,none⟩)))/\Blw w w':=by
 have mixed:=L.mixed;have t9:=L.t9; have a9:=L.a9; have z9:=L.z9; have v9:=L.v9;have t168:=L.t168; have a168:=L.a168; have z168:=L.z168; have v168:=L.v168;have t75:=L.t75; have a75:=L.a75; have z75:=L.z75; have v75:=L.v75;have t210:=L.t210; have m:=run_underlying L.t210; have a210:=L.a210; have z210:=L.z210; have v210:=L.v210;have k:∀ args w,(callFunc (ρ.f 316) args).run P w = .ok (.enter (ρ.f 316) args) w:=enters_of L.f316 (by kernel_rfl) rfl;obtain ⟨te,pe,rfl⟩:=i;have hG:(ρ.g 16)<w.heap.size:=Lib.lt_of_cell p;have j:w.drew.cell? ⟨(ρ.g 16),0,none⟩=some _:=p
 go_enter L.f280,Body.n280_ntmps ρ
 go_wp2
 go_region_with_o (
   go_at_fn (ρ.f 316)
   refine (kty { L with } s _ b).mono ?_;rintro e r ⟨rfl,a⟩;have t:r.cell? ⟨(ρ.g 16),0,none⟩=some _:=(a.1.cell (show (⟨(ρ.g 16),0,none⟩:Addr).block<w.drew.heap.size from hG)).trans j)
 all_goals (
  go_wp2
  go_ret
  exact ⟨⟨_,rfl⟩,((Blw.drew' w).trans' a).trans' (Blw.alloc' r _)⟩)
set_option maxHeartbeats 4000000 in
set_option maxRecDepth 100000 in
theorem kvZ (L:LaysC.n245 P ρ) (fn s:ByteArray) (base a:Int) (ev:Yd) (w:World) (b:s.size<=281474976710656) (m:w.cell? ⟨(ρ.g 16),0,none⟩=some ev) (i:∃ te pe,ev = .iface te pe) :
  Calls P (ρ.f 245) #[.string fn,.string s,.int .i64 base,.int .i64 a,.iface (ρ.t 167) (.int .i64 1)] w λe w'=>(∃ N,e = .returned (.iface (ρ.t 168) (.pointer (some ⟨N,0,none⟩))))/\Blw w w':=by
 have mixed:=L.mixed;have t9:=L.t9; have a9:=L.a9; have z9:=L.z9; have v9:=L.v9;have t3:=L.t3; have a3:=L.a3; have z3:=L.z3; have v3:=L.v3;have t75:=L.t75; have a75:=L.a75; have z75:=L.z75; have v75:=L.v75;have t167:=L.t167; have a167:=L.a167; have z167:=L.z167; have v167:=L.v167;have t4:=L.t4; have a4:=L.a4; have z4:=L.z4; have v4:=L.v4;have t168:=L.t168; have a168:=L.a168; have z168:=L.z168; have v168:=L.v168;have p:∀ args w,(callFunc (ρ.f 280) args).run P w = .ok (.enter (ρ.f 280) args) w:=enters_of L.f280 (by kernel_rfl) rfl;have k:∀ W,(binOp .eql (ρ.t 75) (.iface (ρ.t 167) (.int .i64 1)) (.iface (ρ.t 167) (.int .i64 2))).run P W = .ok (.bool false) W:=λW=>Lib.run_eql_iface_int W 1 2 L.t75 L.c167 L.t167;have j:∀ W,(binOp .eql (ρ.t 75) (.iface (ρ.t 167) (.int .i64 1)) (.iface (ρ.t 167) (.int .i64 1))).run P W = .ok (.bool true) W:=λW=>Lib.run_eql_iface_int W 1 1 L.t75 L.c167 L.t167
 go_enter L.f245,Body.n245_ntmps ρ
 go_wp2_with (go_at_fn (ρ.f 280); refine (rngED { L with } fn s ev _ b ?_ i).mono ?_)
 ·exact m
 rintro e r ⟨⟨N,rfl⟩,h⟩
 go_wp2
 go_ret
 exact ⟨⟨N,rfl⟩,h⟩
set_option maxHeartbeats 4000000 in
set_option maxRecDepth 100000 in
theorem kvP (L:LaysC.n172 P ρ) (s:ByteArray) (a:s.size<=281474976710656) (h:Lib.atoiAll s.data.toList = .range) (ev:Yd) (w:World) (y:w.cell? ⟨(ρ.g 16),0,none⟩=some ev) (j:∃ te pe,ev = .iface te pe) :
  Calls P (ρ.f 172) #[.string s] w λe w'=>(∃ N,e = .returned (.tuple #[.int .i64 (Lib.atoiSat s.data.toList),.iface (ρ.t 168) (.pointer (some ⟨N,0,none⟩))]))/\Blw w w':=by
 have mixed:=L.mixed;have t9:=L.t9; have a9:=L.a9; have z9:=L.z9; have v9:=L.v9;have t3:=L.t3; have a3:=L.a3; have z3:=L.z3; have v3:=L.v3;have t75:=L.t75; have a75:=L.a75; have z75:=L.z75; have v75:=L.v75;have t76:=L.t76; have a76:=L.a76; have z76:=L.z76; have v76:=L.v76;have t4:=L.t4; have a4:=L.a4; have z4:=L.z4; have v4:=L.v4;have v:∀ args w,(callFunc (ρ.f 244) args).run P w = .ok (.enter (ρ.f 244) args) w:=enters_of L.f244 (by kernel_rfl) rfl;have r:∀ args w,(callFunc (ρ.f 245) args).run P w = .ok (.enter (ρ.f 245) args) w:=enters_of L.f245 (by kernel_rfl) rfl;have hG:(ρ.g 16)<w.heap.size:=Lib.lt_of_cell y;have hI:=Any.internal_strconv_Atoi_all { L with } s (by omega) w;rw [h] at hI;obtain ⟨k,m⟩:=Lib.atoiSat_bounds s.data.toList;generalize Lib.atoiSat s.data.toList=p at hI k m ⊢;have hI:Calls P (ρ.f 244) #[.string s] w λe w'=>e = .returned (.tuple #[.int .i64 (p),.iface (ρ.t 167) (.int .i64 1)])/\(w'=w\/∃ t,w'=Lib.bytesWorld w (ρ.t 5) t):=hI;clear h
 go_enter L.f172,Body.n172_ntmps ρ
 go_wp2_with (go_at_fn (ρ.f 244); refine hI.mono ?_)
 rintro e u ⟨rfl,hW⟩;have b:Blw w u:=by
  rcases hW with rfl | ⟨t,rfl⟩
  ·exact .refl _
  ·exact .bytes _ _ _
 have i:u.cell? ⟨(ρ.g 16),0,none⟩=some ev:=(b.1.cell (show (⟨(ρ.g 16),0,none⟩:Addr).block<w.heap.size from hG)).trans y;clear hW
 go_wp2_with (go_at_fn (ρ.f 245); refine (kvZ { L with } ⟨#[65,116,111,105]⟩ s 0 0 ev _ a ?_ j).mono ?_)
 ·exact i
 rintro e B ⟨⟨N,rfl⟩,A⟩
 go_wp2
 go_ret2
 exact ⟨⟨N,rfl⟩,b.trans' A⟩
theorem ksk {w:World} {O:Nat->Prop} {μ:Mu} {n:Nat} {vs:Array Yd} {a b c:Yd} (y:vs.size=3) (m:∃ u,vs[0]?=some u/\VR w O μ n (.sc a) u) (t:∃ u,vs[1]?=some u/\VR w O μ n (.sc b) u) (h2:∃ u,vs[2]?=some u/\VR w O μ n (.sc c) u):vs = #[a,b,c]:=by
 obtain ⟨C,k,r⟩:=m;obtain ⟨F,f,g1⟩:=t;obtain ⟨B,j,p⟩:=h2;have e0:=r.sc_inv;have A:=g1.sc_inv;have v:=p.sc_inv;subst e0; subst A; subst v;apply Array.ext
 ·simpa using y
 ·intro i I _;match i with
  | 0=>simpa [jao (show 0<vs.size by omega)] using k
  | 1=>simpa [jao (show 1<vs.size by omega)] using f
  | 2=>simpa [jao (show 2<vs.size by omega)] using j
  | i+3=>omega
theorem OLT.blw {O:Nat->Prop} {w w':World} (h:OLT O w) (b:Blw w w'):OLT O w':=h.keep b.1.size λk a=>b.1.block k (h.plt a)
theorem OLT.errv {O:Nat->Prop} {w:World} (h:OLT O w) {g:Nat} (b:GPin g=some λc=>∃ t p,c = #[Value.iface t p]):∃ t p,w.cell? ⟨g,0,none⟩=some (.iface t p):=by
 obtain ⟨c,T,f,a,t,p,rfl⟩:=h.pin g _ b;exact ⟨t,p,by simp [World.cell?,a]⟩
theorem kvX {w:World} {O:Nat->Prop} {μ:Mu} {n:Nat} (a b:Yd) (i:a.oneCell'=true) (k:b.oneCell'=true):VR w O μ n (.tp [.sc a,.sc b]) (.tuple #[a,b]):=by
 refine .tp _ _ (λj=>#[a,b].getD j undef) rfl (λj c f=>?_) (λj c f=>?_)
 ·have:j<2:=by simpa using (jae.1 f).1
  match j with
  | 0=>rfl
  | 1=>rfl
 ·match j,f with
  | 0,f=>cases f; exact .sc a i
  | 1,f=>cases f; exact .sc b k
theorem ktW (x:Lib.NumEnd Int) (a:∀ v,x = .ok v->False) (h2:x = .range->False):x=Lib.atoiAll []:=by
 cases x;all_goals first | exact (a _ rfl).elim | exact (h2 rfl).elim | rfl
theorem kqE {ρ:Ren} {f fi ff:FuncId} {T:Yc} {fr:Int->Int->Ya Int->Yb Bool} (L:LaysC.n172 P ρ) (p1:GPin (ρ.g 15)=some λc=>∃ t p,c = #[Value.iface t p]) (p2:GPin (ρ.g 16)=some λc=>∃ t p,c = #[Value.iface t p])
  (gi:Good P fi ⟨ "",[.i .i64],[.s],λx=>itoaF x,[],[]⟩) (gf:Good P ff ⟨ "",[.i .i64,.i .i64,.sl (.i .i64)],[.b],λx=>fr x.1 x.2.1 x.2.2,[],[]⟩)
  (hP:∃ fn:Func,P.funcs[f]?=some fn/\fn.body.isSome=true/\(fn.name== "runtime.NumGoroutine")=false)
  (Y:∀ (s:ByteArray) (A m v:Int) (w:World),(Calls P (ρ.f 172) #[.string s] w λe w'=>(∃ t p,e = .returned (.tuple #[.int .i64 v,.iface t p]))/\Blw w w')->Calls P f #[.string s,.int .i64 A,.int .i64 m] w λe w'=>e = .returned (.tuple #[.int .i64 v,.bool false])/\Blw w w')
  (ne:∀ (s:ByteArray) (A m v:Int) (t:ByteArray),(¬ t.toList=s.toList)->∀ w:World,(Calls P (ρ.f 172) #[.string s] w λe w'=>e = .returned (.tuple #[.int .i64 v,.nilIface])/\Blw w w')->
   (∀ y,Blw w y->Calls P fi #[.int .i64 v] y λe w'=>e = .returned (.string t)/\Blw y w')->Calls P f #[.string s,.int .i64 A,.int .i64 m] w λe w'=>e = .returned (.tuple #[.int .i64 v,.bool false])/\Blw w w')
  (eq:∀ (s:ByteArray) (A m v:Int) (b:Bool) (w:World),(Calls P (ρ.f 172) #[.string s] w λe w'=>e = .returned (.tuple #[.int .i64 v,.nilIface])/\Blw w w')->
   (∀ y,Blw w y->Calls P fi #[.int .i64 v] y λe w'=>e = .returned (.string s)/\Blw y w')->
   (∀ (y:World) (k:Nat),Blw w y->w.heap.size<=k->y.heap[k]?=some (.cells #[.int .i64 v] T (0,0))->Calls P ff #[.int .i64 A,.int .i64 m,.slice (some ⟨k,0,none⟩) 1 1] y λe w'=>e = .returned (.bool b)/\Blw y w')->
   Calls P f #[.string s,.int .i64 A,.int .i64 m] w λe w'=>e = .returned (.tuple #[.int .i64 v,.bool b])/\Blw w w') :
  Good P f ⟨ "",[.s,.i .i64,.i .i64],[.i .i64,.b],λx=>khC fr x.1 x.2.1 x.2.2,[],[]⟩:=by
 refine ⟨rfl,λx r h l hl=>?_,by simp,λI h=>(by cases h)⟩;obtain ⟨s,A,m⟩:=x;obtain ⟨a,l',rfl,ha,b,l2,rfl,F,c,rfl,X⟩:=hl;obtain rfl:=(kaI rfl).1 ha;obtain rfl:=(kaI rfl).1 F;obtain rfl:=(kaI rfl).1 X;replace h:khC fr s A m=some r:=h;unfold khC at h;split at h
 ·rename_i Z;refine ⟨hP,λO w vs ho hs hv=>?_⟩;obtain rfl:=ksk hs (hv 0 _ rfl) (hv 1 _ rfl) (hv 2 _ rfl);have fin:∀ {v:Int} {b:Bool},r=(v,b)->(Calls P f #[.string ⟨s.toArray⟩,.int .i64 A,.int .i64 m] w λe w'=>e = .returned (.tuple #[.int .i64 v,.bool b])/\Blw w w')->Calls P f #[.string ⟨s.toArray⟩,.int .i64 A,.int .i64 m] w λe w'=>∃ u v,e = .returned u/\v=rav [.i .i64,.b] r/\VR w' O mu0 0 v u/\Blw w w':=by
   rintro v b rfl X;refine X.mono ?_;rintro e w' ⟨rfl,F⟩;exact ⟨_,_,rfl,rfl,kvX _ _ rfl rfl,F⟩
  have aa:(⟨s.toArray⟩:ByteArray).size<=281474976710656:=by simpa [ByteArray.size] using Z
  have J:(⟨s.toArray⟩:ByteArray).data.toList=s:=by simp
  split at h
  ·rename_i v C;have ab:Calls P (ρ.f 172) #[.string ⟨s.toArray⟩] w λe w'=>e = .returned (.tuple #[.int .i64 v,.nilIface])/\Blw w w':=by
    refine (Any.strconv_Atoi_ok L ⟨s.toArray⟩ (by omega) v (by rw [J]; exact C) w).mono ?_;rintro e w' ⟨rfl,rfl | ⟨t,rfl⟩⟩
    ·exact ⟨rfl,.refl _⟩
    ·exact ⟨rfl,.bytes _ _ _⟩
   obtain ⟨af,ae⟩:=Lib.atoiAll_bounds C;have R:∀ y,Blw w y->Calls P fi #[.int .i64 v] y λe w'=>e = .returned (.string ⟨(Lib.itoa v).toArray⟩)/\Blw y w':=λy U=>by
    have hF:itoaF v=some (Lib.itoa v):=by unfold itoaF; rw [if_pos (by omega)]
    refine ((gi.2.1 v _ hF [.sc (.int .i64 v)] ⟨_,rfl,(kaI rfl).2 rfl⟩).2 O y #[.int .i64 v] (ho.blw U) rfl (λj c B=>?_)).mono ?_
    ·match j,B with
     | 0,B=>cases B; exact ⟨_,rfl,.sc _ rfl⟩
    ·rintro e w' ⟨u,x,rfl,rfl,S,K⟩;exact ⟨by rw [show u=_ from S.sc_inv],K⟩
   split at h
   ·rename_i M;have ad:Lib.itoa v=s:=by simpa using M
    rw [ad] at R;obtain ⟨b,F,h⟩:=jaa.1 h;refine fin (Option.some.inj h).symm (eq _ A m v b w ab R λy k U hk ac=>?_);have hnO:¬ Av O mu0 k:=by
     rintro (h | ⟨id,k,h⟩)
     ·exact absurd (ho.lt k h) (by omega)
     ·cases h
    refine ((gf.2.1 (A,m,[v]) b F [.sc (.int .i64 A),.sc (.int .i64 m),.sl [[.sc (.int .i64 v)]]] ⟨_,_,rfl,(kaI rfl).2 rfl,_,_,rfl,(kaI rfl).2 rfl,_,rfl,(kaI rfl).2 rfl⟩).2 O y #[.int .i64 A,.int .i64 m,.slice (some ⟨k,0,none⟩) 1 1] (ho.blw U) rfl (λj c B=>?_)).mono ?_
    ·match j,B with
     | 0,B=>cases B; exact ⟨_,rfl,.sc _ rfl⟩
     | 1,B=>cases B; exact ⟨_,rfl,.sc _ rfl⟩
     | 2,B=>
      cases B;refine ⟨_,rfl,.sl [[.sc (.int .i64 v)]] k 0 1 1 (λ_ _=>.int .i64 v) (jah 1) (by decide) (λi e m _=>hnO) (λi e m=>?_) (λi e m j c B=>?_) (λi e m j c B=>?_) (λi e m j c B=>?_)⟩;all_goals (
       match i,m with
       | 0,m=>
        cases m;first | rfl | (
         match j,B with
         | 0,B=>cases B; first | rfl | exact .sc _ rfl | simp [World.cell?,ac]))
    ·rintro e w' ⟨u,x,rfl,rfl,S,K⟩;exact ⟨by rw [show u=_ from S.sc_inv],K⟩
   ·rename_i M;refine fin (Option.some.inj h).symm (ne _ A m v _ (λe=>M ?_) w ab R);simpa [ByteArray.toList_mk] using e
  ·rename_i C;obtain ⟨t,p,X⟩:=ho.errv p2;refine fin (Option.some.inj h).symm (Y _ A m _ w ((kvP L ⟨s.toArray⟩ aa (by rw [J]; exact C) _ w X ⟨t,p,rfl⟩).mono ?_));rintro e w' ⟨⟨N,rfl⟩,F⟩;exact ⟨⟨_,_,by rw [J]⟩,F⟩
  ·rename_i g1 g2;have C:=ktW (Lib.atoiAll s) (λv e=>g1 v e) (λe=>g2 e);obtain ⟨t,p,X⟩:=ho.errv p1;refine fin (Option.some.inj h).symm (Y _ A m 0 w ((kvV L ⟨s.toArray⟩ aa (by rw [J]; exact C) _ w X ⟨t,p,rfl⟩).mono ?_));rintro e w' ⟨⟨N,rfl⟩,F⟩;exact ⟨⟨_,_,rfl⟩,F⟩
 ·cases h
end Go.Abs
namespace Go.Abs
open Go
theorem kdg {α β:Type} {F:α->Yb (α⊕β)} (I:α->Prop) (m:α->Nat) (a:α->β)
  (h:∀ x,I x->F x=some (.inr (a x))\/∃ y,F x=some (.inl y)/\I y/\m y<m x/\a y=a x) (x:α) (b:I x) (f:m x<18446744073709551616):iter F x=some (a x):=by
 have:∀ n x,I x->m x<n->itN F n x=some (a x):=by
  intro n;induction n with
  | zero=>intro x _ p; omega
  | succ n k=>
   intro x b f;rcases h x b with e | ⟨y,e,j,i,es⟩
   ·rw [kbb e]
   ·rw [kbf e,k y j (by omega),es]
 exact kek (this 18446744073709551616 x b f) (jah _)
def foldE {α σ β:Type} (step:Nat->α->σ->β⊕σ):Nat->Ya α->σ->β⊕σ
 | _,[],s=>.inr s
 | i,x::l,s=>match step i x s with
  | .inl b=>.inl b
  | .inr s'=>foldE step (i+1) l s'
def nextE {β σ τ:Type} (i:Nat):β⊕σ->(Int×σ)⊕(β⊕τ)
 | .inl b=>.inr (.inl b)
 | .inr s=>.inl (((i+1:Nat):Int),s)
def mapE {β σ τ:Type} (f:σ->τ):β⊕σ->β⊕τ
 | .inl b=>.inl b
 | .inr s=>.inr (f s)
theorem kwg {α σ β τ:Type} {F:Int×σ->Yb ((Int×σ)⊕(β⊕τ))} (l:Ya α) (hl:l.length<=9223372036854775807) (I:Nat->σ->Prop) (step:Nat->α->σ->β⊕σ) (fin:σ->τ)
  (p:∀ i s,(a:i<l.length)->I i s->F ((i:Int),s)=some (nextE i (step i l[i] s)))
  (hI:∀ i s s',(a:i<l.length)->I i s->step i l[i] s = .inr s'->I (i+1) s')
  (h2:∀ s,I l.length s->F ((l.length:Int),s)=some (.inr (.inr (fin s)))) (s:σ) (m:I 0 s) :
  iter F (0,s)=some (mapE fin (foldE step 0 l s)):=by
 have:∀ k i s,i+k=l.length->I i s->itN F (k+1) ((i:Int),s)=some (mapE fin (foldE step i (l.drop i) s)):=by
  intro k;induction k with
  | zero=>
   intro i s h f;have:i=l.length:=by omega
   subst this;rw [kbb (h2 s f),List.drop_length]; rfl
  | succ k r=>
   intro i s h f;have a:i<l.length:=by omega
   rw [jbd a];have e:=p i s a f;simp only [foldE];cases j:step i l[i] s with
   | inl b=>rw [j] at e; rw [kbb e]; rfl
   | inr s'=>rw [j] at e; rw [kbf e,r (i+1) s' (by omega) (hI i s s' a f j)]
 exact kek (this l.length 0 s (by omega) m) (by omega)
theorem kdI {α σ τ:Type} {F:Int×σ->Yb ((Int×σ)⊕τ)} (l:Ya α) (hl:l.length<=9223372036854775807) (I:Nat->σ->Prop) (step:σ->α->σ) (fin:σ->τ)
  (j:∀ i s,(a:i<l.length)->I i s->F ((i:Int),s)=some (.inl (((i+1:Nat):Int),step s l[i])))
  (hI:∀ i s,(a:i<l.length)->I i s->I (i+1) (step s l[i]))
  (h2:∀ s,I l.length s->F ((l.length:Int),s)=some (.inr (fin s))) (s:σ) (f:I 0 s) :
  iter F (0,s)=some (fin (l.foldl step s)):=by
 have:∀ k i s,i+k=l.length->I i s->itN F (k+1) ((i:Int),s)=some (fin ((l.drop i).foldl step s)):=by
  intro k;induction k with
  | zero=>
   intro i s h b;have:i=l.length:=by omega
   subst this;rw [kbb (h2 s b),List.drop_length]; rfl
  | succ k m=>
   intro i s h b;have a:i<l.length:=by omega
   rw [jbd a,kbf (j i s a b),m (i+1) _ (by omega) (hI i s a b)]; rfl
 exact kek (this l.length 0 s (by omega) f) (by omega)
def wi (a b n:Int):Bool:=decide (a<=n)&&decide (n<=b)
theorem wi_iff {a b n:Int}:wi a b n=true↔a<=n/\n<=b:=by unfold wi; simp
theorem krF {α:Type} (p:α->Bool) (l:Ya α):(l.any λx=>!p x) = !l.all p:=by
 induction l with
 | nil=>rfl
 | cons x l a=>simp only [List.any_cons,jdx,a,Bool.not_and]
theorem lenI_lt {α:Type} {l:Ya α} {i:Nat}:decide ((i:Int)<lenI l)=true↔i<l.length:=by rw [kae,jak]; omega
theorem kaD {α:Type} {l:Ya α}:¬ decide ((l.length:Int)<lenI l)=true:=by rw [lenI_lt]; omega
end Go.Abs
namespace Go.Abs
open Go Go.RowKit
inductive Sh where
 | int (k:IntKind)
 | bool
 | str
 | sl (e:Sh)
 | st (fs:List Sh)
def kfr (P:Ye):Ya Field->Nat->Nat->Bool
 | [],o,n=>o==n
 | f::fs,o,n=>f.offset==o&&kfr P fs (o+P.cellsOf f.type) n
def shapeOf (P:Ye):Nat->Yc->Yb Sh
 | 0,_=>none
 | d+1,t=>match P.underlying t with
  | some .bool=>some .bool
  | some (.int k)=>some (.int k)
  | some .string=>some .str
  | some (.slice e)=>if P.cellsOf e=0 then none else (shapeOf P d e).map .sl
  | some (.struct fs)=>if kfr P fs.toList 0 (P.cellsOf t) then (fs.toList.mapM λf=>shapeOf P d f.type).map .st else none
  | some (.array n e)=>if n*P.cellsOf e=P.cellsOf t then (shapeOf P d e).map λs=>.st (List.replicate n s) else none
  | _=>none
inductive Enc:Sh->List AV->Prop
 | int (k:IntKind) (n:Int) (h:(Lit.int k n).wf=true):Enc (.int k) [.sc (.int k n)]
 | bool (b:Bool):Enc .bool [.sc (.bool b)]
 | str (s:ByteArray) (h:s.size<=maxLen):Enc .str [.sc (.string s)]
 | sl (e:Sh) (es:List (List AV)) (h:∀ x∈es,Enc e x) (hl:es.length<=maxLen):Enc (.sl e) [.sl es]
 | nil:Enc (.st []) []
 | cons (s:Sh) (ss:List Sh) (a asZ:List AV) (h1:Enc s a) (h2:Enc (.st ss) asZ):Enc (.st (s::ss)) (a++asZ)
abbrev noO:Nat->Prop:=λ_=>False
def CR (w:World) (asZ:Ya AV) (cs:Ya Yd):Prop:=
 asZ.length=cs.length/\∀ (j:Nat) (a:AV),asZ[j]?=some a->a.one=true/\∃ v,cs[j]?=some v/\VR w noO mu0 0 a v
theorem CR.nil {w:World}:CR w [] []:=⟨rfl,λj a h=>by simp at h⟩
theorem CR.one {w:World} {a:AV} {v:Yd} (f:a.one=true) (h:VR w noO mu0 0 a v):CR w [a] [v]:=⟨rfl,λj x b=>by
 cases j with
 | zero=>simp at b; subst b; exact ⟨f,v,rfl,h⟩
 | succ j=>simp at b⟩
theorem CR.append {w:World} {asZ bs:Ya AV} {cs m:Ya Yd} (h:CR w asZ cs) (g:CR w bs m):CR w (asZ++bs) (cs++m):=by
 refine ⟨by simp [h.1,g.1],λj a b=>?_⟩;rw [jbu] at b;split at b
 ·rename_i f;obtain ⟨i,v,h2,k⟩:=h.2 j a b;exact ⟨i,v,by rw [jaq (by rw [<-h.1]; exact f)]; exact h2,k⟩
 ·rename_i p;obtain ⟨i,v,h2,k⟩:=g.2 _ a b;exact ⟨i,v,by rw [jbj (by rw [<-h.1]; omega),<-h.1]; exact h2,k⟩
theorem noAv (b:Nat):¬ Av noO mu0 b:=by
 rintro (h | ⟨_,_,h⟩)
 ·exact h
 ·cases h
section
variable {H:Type} {enc:Yc×Yd->H} {P:Ye} {w:World} {held:Bool}
theorem klS {d i:Nat} (C:∀ (t:Yc) (B:Sh) (cs:Ya Yd) (x:DataW H×Ya MemPlace),shapeOf P d t=some B->DataW.trod enc P w 0 (λ_=>true) held i t cs=some x->∃ asZ,Enc B asZ/\CR w asZ cs) {cs:Ya Yd} :
  ∀ (k:Ya Field) (o:Nat) (b:Ya Sh) (xs:Ya (DataW H×Ya MemPlace)),kfr P k o cs.length=true->(k.mapM λf=>shapeOf P d f.type)=some b->
   (k.mapM λf=>DataW.trod enc P w 0 (λ_=>true) held i f.type ((cs.drop f.offset).take (P.cellsOf f.type)))=some xs->(∀ f∈k,f.offset+P.cellsOf f.type<=cs.length)->∃ asZ,Enc (.st b) asZ/\CR w asZ (cs.drop o)
 | [],o,b,xs,j,hs,hx,hle=>by
  simp [kfr] at j;simp at hs; subst hs;exact ⟨[],.nil,by rw [j]; simp; exact CR.nil⟩
 | f::k,o,b,xs,j,hs,hx,hle=>by
  simp only [kfr,jad,beq_iff_eq] at j;obtain ⟨rfl,j⟩:=j;simp only [jdw,Option.bind_eq_bind,jaa,Option.pure_def,Option.some.injEq] at hs hx;obtain ⟨s,u,A,v,rfl⟩:=hs;obtain ⟨y,I,ys,r,rfl⟩:=hx;obtain ⟨a,J,p⟩:=C _ _ _ _ u I;obtain ⟨asZ,has,m⟩:=klS C k _ A ys j v r λg F=>hle g (jbm _ F);refine ⟨a++asZ,.cons s A a asZ J has,?_⟩;have e:cs.drop f.offset=(cs.drop f.offset).take (P.cellsOf f.type)++cs.drop (f.offset+P.cellsOf f.type):=by
   rw [<-List.drop_drop]; exact (jdv _ _).symm
  rw [e];exact p.append m
theorem knl {P:Ye}:∀ (a:Ya Field) (o n:Nat),kfr P a o n=true->o<=n/\∀ f∈a,f.offset+P.cellsOf f.type<=n
 | [],o,n,h=>by simp [kfr] at h; exact ⟨by omega,λf i=>by simp at i⟩
 | f::a,o,n,h=>by
  simp only [kfr,jad,beq_iff_eq] at h;obtain ⟨j,h2⟩:=knl a _ _ h.2;refine ⟨by omega,λg b=>?_⟩;rcases jbi.1 b with rfl | b
  ·rw [h.1]; exact j
  ·exact h2 g b
theorem knN {d b:Nat} (r:∀ (t:Yc) (f:Sh) (cs:Ya Yd) (x:DataW H×Ya MemPlace),shapeOf P d t=some f->DataW.trod enc P w 0 (λ_=>true) held b t cs=some x->∃ asZ,Enc f asZ/\CR w asZ cs) {e:Yc} {f:Sh} (k:shapeOf P d e=some f) (cs:Ya Yd) :
  ∀ (n o:Nat),(∀ i,i<n->∃ x,DataW.trod enc P w 0 (λ_=>true) held b e ((cs.drop ((o+i)*P.cellsOf e)).take (P.cellsOf e))=some x)->(o+n)*P.cellsOf e=cs.length->∃ asZ,Enc (.st (List.replicate n f)) asZ/\CR w asZ (cs.drop (o*P.cellsOf e))
 | 0,o,_,hl=>⟨[],.nil,by rw [show o*P.cellsOf e=cs.length by simpa using hl]; simp; exact CR.nil⟩
 | n+1,o,h,hl=>by
  obtain ⟨x,p⟩:=h 0 (by omega);simp only [Nat.add_zero] at p;obtain ⟨a,v,m⟩:=r _ _ _ _ k p;obtain ⟨asZ,has,j⟩:=knN r k cs n (o+1) (λi y=>by rw [show o+1+i=o+(i+1) by omega]; exact h (i+1) (by omega)) (by rw [<-hl]; congr 1; omega);refine ⟨a++asZ,.cons f _ a asZ v has,?_⟩;have u:cs.drop (o*P.cellsOf e)=(cs.drop (o*P.cellsOf e)).take (P.cellsOf e)++cs.drop ((o+1)*P.cellsOf e):=by
   rw [jcf,Nat.one_mul,<-List.drop_drop]; exact (jdv _ _).symm
  rw [u];exact m.append j
theorem kpi:∀ (d:Nat) (r:Nat) (t:Yc) (sh:Sh) (cs:Ya Yd) (x:DataW H×Ya MemPlace),shapeOf P d t=some sh->DataW.trod enc P w 0 (λ_=>true) held r t cs=some x->∃ asZ,Enc sh asZ/\CR w asZ cs
 | 0,_,_,_,_,_,h,_=>by cases h
 | d+1,0,t,sh,cs,x,_,m=>by simp [DataW.trod] at m
 | d+1,r+1,t,sh,cs,x,h,m=>by
  have ih:=λt sh cs x=>kpi d r t sh cs x;simp only [shapeOf] at h;unfold DataW.trod at m;cases hu:P.underlying t with
  | none=>simp [hu] at h
  | some u=>
   simp only [hu] at h m;cases u <;> simp only [reduceCtorEq] at h;case bool=>
    cases h;split at m <;> simp only [reduceCtorEq,Option.some.injEq,TypeDesc.int.injEq] at * <;> try contradiction
    rename_i b _;exact ⟨_,.bool b,CR.one rfl (.sc _ rfl)⟩
   case int k=>
    cases h;split at m <;> simp only [reduceCtorEq,Option.some.injEq,TypeDesc.int.injEq] at * <;> try contradiction
    rename_i C;subst C;split at m
    ·rename_i hc;obtain ⟨rfl,hw⟩:=hc;exact ⟨_,.int _ _ hw,CR.one rfl (.sc _ rfl)⟩
    ·cases m
   case string=>
    cases h;split at m <;> simp only [reduceCtorEq,Option.some.injEq] at * <;> try contradiction
    split at m
    ·rename_i hc;exact ⟨_,.str _ hc,CR.one rfl (.sc _ rfl)⟩
    ·cases m
   case slice e=>
    split at h
    ·cases h
    rename_i hk;cases B:shapeOf P d e with
    | none=>simp [B] at h
    | some J=>
    simp only [B,jcb,Option.some.injEq] at h;subst h;split at m <;> simp only [reduceCtorEq,Option.some.injEq,TypeDesc.slice.injEq] at * <;> try contradiction
    ·exact ⟨_,.sl J [] (λx m=>by simp at m) (by simp),CR.one rfl (.slnil none)⟩
    ·rename_i a len cap C;subst C;split at m
     ·rename_i hb;obtain ⟨S,he,m⟩:=jaa.1 m;simp only [if_true] at m;obtain ⟨rest,K,-⟩:=jac.1 m;have ao:=mapM_some_length he;have an:=mapM_some_length K;simp only [List.length_range] at ao an;have ad:∀ i:Nat,∃ p:Ya Yd×Ya AV,i<cap->w.cells? 0 (a.add (i*P.cellsOf e)) (P.cellsOf e)=some p.1/\Enc J p.2/\CR w p.2 p.1:=by
       intro i;by_cases A:i<cap
       ·have:∃ y,((w.cells? 0 (a.add (i*P.cellsOf e)) (P.cellsOf e)).bind (DataW.trod enc P w 0 (λ_=>true) held r e))=some y:=by
         by_cases ap:i<len
         ·have:=mapM_some_get he i i (by simp [ap]);exact ⟨S[i]'(by omega),by rw [this]; exact jaf _⟩
         ·have:=mapM_some_get K (i-len) (i-len) (by rw [List.getElem?_range (by omega)]);rw [show len+(i-len)=i by omega] at this;exact ⟨rest[i-len]'(by omega),by rw [this]; exact jaf _⟩
        obtain ⟨y,hy⟩:=this;obtain ⟨af,hc,hy⟩:=jaa.1 hy;obtain ⟨asZ,g1,g2⟩:=ih e J af y B hy;exact ⟨(af,asZ),λ_=>⟨hc,g1,g2⟩⟩
       ·exact ⟨([],[]),λh=>absurd h A⟩
      obtain ⟨F,hF⟩:=Classical.axiomOfChoice ad;by_cases aa:cap=0
      ·subst aa;obtain rfl:len=0:=by omega
       exact ⟨[.sl []],.sl J [] (λx m=>by simp at m) (by simp),CR.one rfl (.slnil _)⟩
      ·have X:a.spot=none:=by
        obtain ⟨C,-,-⟩:=hF 0 (by omega);obtain ⟨-,h2,h3⟩:=World.cells?_some C;have h4:=h3 0 (by omega);rw [jaf (by omega)] at h4;have:=World.cell?_spot h4;simpa [Addr.add] using this
       obtain ⟨b,o,aq⟩:=a;subst X;have ab:((List.range len).map λi=>(F i).2).length=len:=by simp
       have ac:∀ (i:Nat) (c:Ya AV),((List.range len).map λi=>(F i).2)[i]?=some c->i<len/\c=(F i).2:=λi c A=>by
        simp only [jas,jac] at A;obtain ⟨i',U,rfl⟩:=A;have Y:i<len:=by have:=(jae.1 U).1; simpa using this
        rw [List.getElem?_range Y] at U;cases U;exact ⟨Y,rfl⟩
       have I:∀ (i:Nat) (c:Ya AV),((List.range len).map λi=>(F i).2)[i]?=some c->c.length=P.cellsOf e/\∀ (j:Nat) (x:AV),c[j]?=some x->x.one=true/\w.cell? ⟨b,o+i*P.cellsOf e+j,none⟩=some (((F i).1[j]?).getD undef)/\VR w noO mu0 0 x (((F i).1[j]?).getD undef):=λi c A=>by
        obtain ⟨Y,rfl⟩:=ac i c A;obtain ⟨C,h2,h3,h4⟩:=hF i (by omega);obtain ⟨-,h5,h6⟩:=World.cells?_some C;refine ⟨by omega,λj x R=>?_⟩;obtain ⟨g1,v,g2,g3⟩:=h4 j x R;have ar:=(jae.1 R).1;have h7:=h6 j (by omega);rw [keF,keF] at h7;rw [h7,g2];exact ⟨g1,rfl,g3⟩
       refine ⟨[.sl ((List.range len).map λi=>(F i).2)],.sl J _ (λx m=>?_) (by omega),CR.one rfl ?_⟩
       ·simp only [jba,jec] at m;obtain ⟨i,A,rfl⟩:=m;exact (hF i (by omega)).2.1
       ·have L:=VR.sl (w:=w) (O:=noO) (μ:=mu0) (n:=0) ((List.range len).map λi=>(F i).2) b o cap (P.cellsOf e) (λi j=>((F i).1[j]?).getD undef) (by omega) (by omega) (λ_ _ _ _=>noAv b)
         (λi c A=>(I i c A).1) (λi c A j x R=>((I i c A).2 j x R).2.1) (λi c A j x R=>((I i c A).2 j x R).1) (λi c A j x R=>((I i c A).2 j x R).2.2)
        rw [ab] at L;exact L
     ·cases m
   case struct fs=>
    split at h
    ·rename_i ho;cases Z:fs.toList.mapM λf=>shapeOf P d f.type with
     | none=>rw [Z] at h; cases h
     | some ak=>
     rw [Z] at h;cases h;split at m <;> simp only [reduceCtorEq,Option.some.injEq,TypeDesc.struct.injEq] at * <;> try contradiction
     ·rename_i C;subst C;split at m
      ·rename_i hl;obtain ⟨xs,M,-⟩:=jac.1 m;obtain ⟨asZ,C,h2⟩:=klS ih fs.toList 0 ak xs (by rw [hl]; exact ho) Z M (by rw [hl]; exact (knl _ _ _ ho).2);exact ⟨asZ,C,by simpa using h2⟩
      ·cases m
     ·exact (‹∀ ae:Array Field,fs=ae->False› _ rfl).elim
    ·cases h
   case array n e=>
    split at h
    ·rename_i ho;cases B:shapeOf P d e with
     | none=>rw [B] at h; cases h
     | some J=>
     rw [B] at h;cases h;split at m <;> simp only [reduceCtorEq,Option.some.injEq,TypeDesc.array.injEq] at * <;> try contradiction
     ·rename_i C;obtain ⟨rfl,rfl⟩:=C;split at m
      ·rename_i hl;obtain ⟨xs,M,-⟩:=jac.1 m;rename_i ai _ _;have al:=mapM_some_length M;simp only [List.length_range] at al;have am:∀ i,i<n->∃ x,DataW.trod enc P w 0 (λ_=>true) held r e ((List.drop ((0+i)*P.cellsOf e) ai).take (P.cellsOf e))=some x:=λi A=>by
        have:=mapM_some_get M i i (by simp [A]);rw [jce,this];exact ⟨_,jaf (by omega)⟩
       obtain ⟨asZ,C,h2⟩:=knN ih B _ n 0 am (by rw [hl,<-ho]; simp);exact ⟨asZ,C,by simpa using h2⟩
      ·cases m
     ·exact (‹∀ (ah:Nat) (aj:Yc),n=ah/\e=aj->False› _ _ ⟨rfl,rfl⟩).elim
    ·cases h
end
end Go.Abs
namespace Go.Abs
open Go Go.RowKit Go.ChangeShapes Go.WideShapes
def EncP:Sh->AV->Prop
 | .st fs,a=>∃ asZ,a = .ag asZ/\Enc (.st fs) asZ
 | s,a=>Enc s [a]
def EncPs:Ya Sh->Ya AV->Prop
 | [],[]=>True
 | s::ss,a::asZ=>EncP s a/\EncPs ss asZ
 | _,_=>False
section
variable {H:Type} {enc:Yc×Yd->H} {P:Ye} {W:World}
theorem EncP.of_one {b:Sh} {a:AV} (h:Enc b [a]) (i:∀ f,b≠.st f):EncP b a:=by
 cases b <;> first | exact h | exact absurd rfl (i _)
theorem CR.ag {asZ:Ya AV} {cs:Array Yd} (h:CR W asZ cs.toList):VR W noO mu0 0 (.ag asZ) (.agg cs):=by
 refine .ag asZ cs (λj=>cs.getD j undef) (by simpa using h.1.symm) (λj c a=>?_) (λj c a=>(h.2 j c a).1) (λj c a=>?_);all_goals
  obtain ⟨f,v,h2,b⟩:=h.2 j c a;rw [jcs] at h2;simp only [jag,h2,jcc]
 exact b
theorem ksQ {d:Nat} {t:Yc} {m:Sh} {v:Yd} {x:DataW H} {p:Ya MemPlace} {r:Reach} {b:Nat} (i:shapeOf P d t=some m) (C:Value.okWide P W r b t v) (J:DataW.Trod enc P W 0 (λ_=>true) true t v x p) :
  ∃ a,EncP m a/\VR W noO mu0 0 a v:=by
 obtain ⟨I,K⟩:=J;obtain ⟨asZ,y,h2⟩:=kpi d I t m _ _ i K;have f:∀ {m:Sh} {u:Yd},Enc m asZ->CR W asZ [u]->(∀ F,m≠.st F)->∃ a,EncP m a/\VR W noO mu0 0 a u:=by
  intro m u g1 B L;match asZ,g1,B with
  | [a],g1,B=>
   obtain ⟨_,v,e,g⟩:=B.2 0 a rfl;simp at e; subst e;exact ⟨a,.of_one g1 L,g⟩
  | [],_,B=>have:=B.1; simp at this
  | _::_::_,_,B=>have:=B.1; simp at this
 cases d with
 | zero=>cases i
 | succ d=>
  simp only [shapeOf] at i;cases A:P.underlying t with
  | none=>simp [A] at i
  | some u=>
   simp only [A] at i;cases u <;> simp only [reduceCtorEq] at i;case bool=>obtain ⟨b,rfl⟩:=okWide_bool A C; cases i; exact f y (by simpa [Value.cells] using h2) (by simp)
   case int k=>obtain ⟨b,rfl⟩:=okWide_int A C; cases i; exact f y (by simpa [Value.cells] using h2) (by simp)
   case string=>obtain ⟨b,rfl⟩:=okWide_string A C; cases i; exact f y (by simpa [Value.cells] using h2) (by simp)
   case slice e=>
    obtain ⟨a,len,cap,rfl⟩:=okWide_slice A C;have:∀ F,m≠.st F:=by
     rintro F rfl;split at i
     ·cases i
     ·obtain ⟨_,_,h⟩:=jac.1 i; cases h
    exact f y (by simpa [Value.cells] using h2) this
   case struct F=>
    obtain ⟨cs,rfl,_⟩:=okWide_struct A C;obtain ⟨j,rfl⟩:∃ j,m = .st j:=by
     split at i
     ·obtain ⟨s,_,h⟩:=jac.1 i; exact ⟨s,h.symm⟩
     ·cases i
    exact ⟨.ag asZ,⟨asZ,rfl,y⟩,CR.ag (by simpa [Value.cells] using h2)⟩
   case array n e=>
    obtain ⟨cs,rfl,_⟩:∃ cs,v = .agg cs/\cs.size=P.cellsOf t:=by
     simp only [Value.okWide,A] at C;obtain ⟨cs,y,h2,_⟩:=C;exact ⟨cs,y,h2⟩
    obtain ⟨j,rfl⟩:∃ j,m = .st j:=by
     split at i
     ·obtain ⟨s,_,h⟩:=jac.1 i; exact ⟨_,h.symm⟩
     ·cases i
    exact ⟨.ag asZ,⟨asZ,rfl,y⟩,CR.ag (by simpa [Value.cells] using h2)⟩
theorem klH {d:Nat} {r:Reach} {b:Nat}:∀ {ts:Ya Yc} {f:Ya Sh} {vs:Ya Yd} {i:Ya (DataW H)} {m:Ya MemPlace},ts.mapM (shapeOf P d)=some f->
  (∀ (j:Nat) t v,ts[j]?=some t->vs[j]?=some v->Value.okWide P W r b t v)->DataW.TrodAll enc P W 0 (λ_=>true) true ts vs i m->
  ∃ asZ,EncPs f asZ/\vs.length=asZ.length/\i.length=ts.length/\∀ (j:Nat) (c:AV),asZ[j]?=some c->∃ u,vs[j]?=some u/\VR W noO mu0 0 c u
 | [],f,vs,i,m,hs,hv,ht=>by
  simp at hs; subst hs;cases vs <;> cases i <;> simp [DataW.TrodAll] at ht;exact ⟨[],trivial,rfl,rfl,λj c k=>by simp at k⟩
 | t::ts,f,vs,i,m,hs,hv,ht=>by
  simp only [jdw,Option.bind_eq_bind,jaa,Option.pure_def,Option.some.injEq] at hs;obtain ⟨s,y,U,A,rfl⟩:=hs;obtain ⟨v,L,X,I,p,q,rfl,rfl,rfl,F,h2⟩:=trodAll_cons ht;obtain ⟨a,g1,B⟩:=ksQ y (hv 0 t v rfl rfl) F;obtain ⟨asZ,C,K,S,M⟩:=klH A (λj t v R J=>hv (j+1) t v (by simpa using R) (by simpa using J)) h2;refine ⟨a::asZ,⟨g1,C⟩,by simp [K],by simp [S],λj c k=>?_⟩;cases j with
  | zero=>simp at k; subst k; exact ⟨v,rfl,B⟩
  | succ j=>simpa using M j c (by simpa using k)
theorem kiQ (hl:laidOutB P=true) {m:World} (k:Below W.heap.size W m):∀ {ts:Ya Yc} {vs:Ya Yd} {f:Ya (DataW H)} {a:Ya MemPlace},(∀ t∈ts,P.readableRec t=true/\t<P.types.size)->
  DataW.TrodAll enc P W 0 (λ_=>true) true ts vs f a->(∀ x∈a,x.block<W.heap.size)->DataW.TrodAll enc P m 0 (λb=>decide (b<W.heap.size)) true ts vs f a
 | [],vs,f,a,_,h,_=>by cases vs <;> cases f <;> simp [DataW.TrodAll] at h ⊢; exact h
 | t::ts,vs,f,a,hr,h,hlt=>by
  obtain ⟨v,A,d,y,p,q,rfl,rfl,rfl,u,h2⟩:=trodAll_cons h;obtain ⟨r,r2⟩:=hr t (by simp);exact ⟨p,q,Below.trod hl r r2 u k λx j=>hlt x (by simp [j]),kiQ hl k (λt' i=>hr t' (by simp [i])) h2 λx j=>hlt x (by simp [j]),rfl⟩
end
end Go.Abs
namespace Go.Abs
open Go
def Dec {α:Type} (a:Sh) (f:α->Ya AV) (ok:α->Prop):Prop:=∀ asZ,Enc a asZ->∃ x,asZ=f x/\ok x
def okI (k:IntKind) (n:Int):Prop:=(Lit.int k n).wf=true
def okS (l:Ya UInt8):Prop:=l.length<=maxLen
def okL {α:Type} (ok:α->Prop) (l:Ya α):Prop:=l.length<=maxLen/\∀ x∈l,ok x
theorem kuU:Dec .str str1 okS:=λasZ h=>by
 cases h with
 | str s h=>exact ⟨s.data.toList,by simp,by simpa [okS] using h⟩
theorem kvT {α:Type} {e:Sh} {f:α->Ya AV} {ok:α->Prop} (h:Dec e f ok):Dec (.sl e) (sl1 f) (okL ok):=λasZ m=>by
 cases m with
 | sl _ es p hl=>
  have:∀ es:Ya (Ya AV),(∀ x∈es,Enc e x)->∃ l:Ya α,es=l.map f/\∀ x∈l,ok x:=by
   intro es;induction es with
   | nil=>exact λ_=>⟨[],rfl,λx k=>by cases k⟩
   | cons a es r=>
    intro h2;obtain ⟨x,rfl,j⟩:=h a (h2 a (by simp));obtain ⟨l,rfl,i⟩:=r λy b=>h2 y (by simp [b]);exact ⟨x::l,rfl,λy b=>by
     rcases jbi.1 b with rfl | b
     ·exact j
     ·exact i y b⟩
  obtain ⟨l,rfl,i⟩:=this es p;exact ⟨l,rfl,by simpa using hl,i⟩
theorem knc {asZ:Ya AV} (h:Enc (.st []) asZ):asZ=[]:=by cases h; rfl
theorem kid {s:Sh} {b:Ya Sh} {bs:Ya AV} (h:Enc (.st (s::b)) bs):∃ a asZ,bs=a++asZ/\Enc s a/\Enc (.st b) asZ:=by
 cases h with
 | cons _ _ a asZ f h2=>exact ⟨a,asZ,rfl,f,h2⟩
theorem knS {xs:Ya AV} (h:EncPs [] xs):xs=[]:=by cases xs with | nil=>rfl | cons _ _=>exact h.elim
theorem kmr {s:Sh} {b:Ya Sh} {xs:Ya AV} (h:EncPs (s::b) xs):∃ a asZ,xs=a::asZ/\EncP s a/\EncPs b asZ:=by
 cases xs with
 | nil=>exact h.elim
 | cons a asZ=>exact ⟨a,asZ,rfl,h.1,h.2⟩
end Go.Abs
namespace Go.Abs
open Go Go.RowKit
def okT:(t:Ty)->t.den->Prop
 | .i k,n=>okI k n
 | .s,l=>okS l
 | .sl t,l=>okL (okT t) l
 | .pr t u,x=>okT t x.1/\okT u x.2
 | .w t,x=>okT t x
 | _,_=>True
def okTs:(ts:Ya Ty)->(tup ts).den->Prop
 | [],_=>True
 | [t],x=>okT t x
 | t::u::ts,x=>okT t x.1/\okTs (u::ts) x.2
mutual
def shOk:Sh->Ty->Bool
 | .int k,.i k'=>k==k'
 | .bool,.b=>true
 | .str,.s=>true
 | .sl e,.sl t=>shOk e t
 | .st [],.un=>true
 | .st [f],.w t=>shOk f t
 | .st (f::g::fs),.pr t u=>shOk f t&&stOk (g::fs) u
 | _,_=>false
def stOk:Ya Sh->Ty->Bool
 | [f],t=>shOk f t
 | f::fs,.pr t u=>shOk f t&&stOk fs u
 | _,_=>false
end
mutual
theorem kgw:∀ (r:Sh) (t:Ty),shOk r t=true->Dec r t.enc (okT t)
 | .int k,.i k',h=>by
  simp only [shOk,beq_iff_eq] at h;subst h;intro asZ j;cases j with | int _ n h=>exact ⟨n,rfl,h⟩
 | .bool,.b,_=>by
  intro asZ j;cases j with | bool b=>exact ⟨b,rfl,trivial⟩
 | .str,.s,_=>kuU
 | .sl e,.sl t,h=>kvT (kgw e t (by simpa [shOk] using h))
 | .st [],.un,_=>λasZ j=>⟨(),knc j,trivial⟩
 | .st [f],.w t,h=>λasZ j=>by
  obtain ⟨a,bs,rfl,p,h2⟩:=kid j;cases knc h2;obtain ⟨x,rfl,m⟩:=kgw f t (by simpa [shOk] using h) a p;exact ⟨x,by rw [jbf]; rfl,m⟩
 | .st (f::g::fs),.pr t u,h=>λasZ j=>by
  simp only [shOk,jad] at h;obtain ⟨a,bs,rfl,p,h2⟩:=kid j;obtain ⟨x,rfl,m⟩:=kgw f t h.1 a p;obtain ⟨y,rfl,v⟩:=ktL (g::fs) u h.2 bs h2;exact ⟨(x,y),rfl,m,v⟩
theorem ktL:∀ (b:Ya Sh) (t:Ty),stOk b t=true->∀ asZ,Enc (.st b) asZ->∃ x,asZ=t.enc x/\okT t x
 | [f],t,h,asZ,ha=>by
  obtain ⟨a,bs,rfl,j,h2⟩:=kid ha;cases knc h2;obtain ⟨x,rfl,i⟩:=kgw f t (by simpa [stOk] using h) a j;exact ⟨x,by rw [jbf],i⟩
 | f::g::b,.pr t u,h,asZ,ha=>by
  simp only [stOk,jad] at h;obtain ⟨a,bs,rfl,j,h2⟩:=kid ha;obtain ⟨x,rfl,i⟩:=kgw f t h.1 a j;obtain ⟨y,rfl,k⟩:=ktL (g::b) u h.2 bs h2;exact ⟨(x,y),rfl,i,k⟩
end
theorem krD {j:Sh} {t:Ty} (h:shOk j t=true) {a:AV} (k:EncP j a):∃ x,t.dat=true->a=t.av x/\okT t x:=by
 cases j with
 | st b=>
  obtain ⟨asZ,rfl,p⟩:=k;obtain ⟨x,rfl,i⟩:=kgw (.st b) t h asZ p;refine ⟨x,λ_=>⟨?_,i⟩⟩;have:t.agg=true:=by
   cases t <;> first | rfl | (cases b with
    | nil=>simp [shOk] at h
    | cons f b=>cases b <;> simp [shOk] at h)
  rw [kdK this]
 | _=>
  obtain ⟨x,e,i⟩:=kgw _ t h [a] k;refine ⟨x,λm=>⟨?_,i⟩⟩;have:t.agg=false:=by
   cases t <;> first | rfl | simp [shOk] at h
  have:=kdN (x:=x) this m;rw [<-e] at this;exact (List.cons.inj this).1
def shsOk:Ya Sh->Ya Ty->Bool
 | [],[]=>true
 | s::ss,t::ts=>shOk s t&&t.dat&&shsOk ss ts
 | _,_=>false
theorem decPs {P:Ye}:∀ {f:Ya Sh} {ts:Ya Ty} {xs:Ya AV},shsOk f ts=true->EncPs f xs->∃ x:(tup ts).den,AR P ts x xs/\okTs ts x
 | [],[],xs,h,he=>by cases knS he; exact ⟨(),rfl,trivial⟩
 | s::b,[t],xs,h,he=>by
  simp only [shsOk,jad] at h;obtain ⟨a,asZ,rfl,i,h2⟩:=kmr he;cases b with
  | cons s' b=>simp [shsOk] at h
  | nil=>
   cases knS h2;obtain ⟨x,k⟩:=krD h.1.1 i;obtain ⟨rfl,j⟩:=k h.1.2;exact ⟨x,⟨_,rfl,(kaI h.1.2).2 rfl⟩,j⟩
 | s::b,t::u::ts,xs,h,he=>by
  rw [show shsOk (s::b) (t::u::ts)=(shOk s t&&t.dat&&shsOk b (u::ts)) from rfl] at h;simp only [jad] at h;obtain ⟨a,asZ,rfl,i,h2⟩:=kmr he;obtain ⟨x,k⟩:=krD h.1.1 i;obtain ⟨rfl,j⟩:=k h.1.2;obtain ⟨y,p,m⟩:=decPs (ts:=u::ts) h.2 h2;exact ⟨(x,y),⟨_,_,rfl,(kaI h.1.2).2 rfl,p⟩,j,m⟩
 | [],_::_,xs,h,he=>by simp [shsOk] at h
 | _::_,[],xs,h,he=>by simp [shsOk] at h
theorem law_of {P:Ye} {g:FuncId} {C:Ctr} (hG:Good P g C) {a:Ya Sh} (j:shsOk a C.asZ=true) (hF:∀ x,okTs C.asZ x->∃ r,C.F x=some r/\rav C.rs r = .sc (.bool true)) (xs:Ya AV) (i:EncPs a xs):PC P g xs (·= .sc (.bool true)):=by
 obtain ⟨x,k,b⟩:=decPs (P:=P) j i;obtain ⟨r,hr,f⟩:=hF x b;have:=hG.2.1 x r hr xs k;rw [f] at this;exact this
end Go.Abs
namespace Go.Abs
open Go Go.ChangeShapes Go.WideShapes Go.ChangeAt Go.RowKit
variable {H:Type} {enc:Yc×Yd->H}
theorem law_lifted_laid {C:Checked} {os:Os} {f:FuncId} {fn:Func} {s:ChangeSpec} {laidL:Ya (String×DataW Unit)} (own:ownKnob C.prog.godebug=none) (a:os.Started) (I:laidOutB C.prog=true) (noInit:C.prog.inits.idxOf? f=none) (U:C.prog.funcs[f]?=some fn)
  (m:∃ (w:World) (tape:Tape) (i:Input),w.os=os/\(w.forCall tape i).Shaped C.prog/\i.vars=[]/\Input.okWide C.prog (w.forCall tape i) .any w.heap.size f i/\
   ((s.pre enc C.prog fn [] false (w.forCall tape i).memory i.args/\laidMetH C.prog laidL (w.forCall tape i).memory)/\sizedMet enc C.prog fn (OpenSpec.ofChange s) false (w.forCall tape i).memory i.args)/\({}:Assume).holds C.prog (lone (Frame.enter C.prog f i.args .normal) [] (w.forCall tape i)))
  (k:s.vars=[]) (r:∀ B:Ya (DataW H),B.length=fn.params.toList.length->s.fn H B = { results:=[.lit (.bool true)],args:=B })
  {tb:Yc} (K:fn.resultTypes = #[tb]) (hb:C.prog.underlying tb=some .bool) {d:Nat} {F:Ya Sh} (S:fn.params.toList.mapM (shapeOf C.prog d)=some F)
  (y:fn.params.toList.all (λt=>C.prog.readableRec t&&decide (t<C.prog.types.size))=true) (pc:∀ asZ,EncPs F asZ->PC C.prog f asZ (·= .sc (.bool true)))
  (hG:∀ W:World,laidMetH C.prog laidL W->∀ b x,GPin b=some x->PinAt x W.heap[b]?) :
  ReturnsInHanded {} C os f .any (λw args=>(s.pre enc C.prog fn [] false w args/\laidMetH C.prog laidL w)/\sizedMet enc C.prog fn (OpenSpec.ofChange s) false w args) (s.post enc C.prog fn false true false false):=by
 refine returnsInHanded_of_change_and (X:=λw _=>laidMetH C.prog laidL w) (λ_ _ _ hh h=>h.of_heap hh) own a noInit U m ?_;intro W base args B gs L J hW Y _ hL _;have hW':=hW;obtain ⟨p,q,hA,hV,rfl,ab,aa⟩:=hW;rw [k] at hV;obtain ⟨rfl,rfl⟩:=trodVars_none hV;obtain ⟨asZ,h1,h2,h3,h4⟩:=klH S (λj t v e1 e2=>J j t v (by simpa using e1) (by simpa using e2)) hA;refine ((pc asZ h1).2 noO W args ⟨λb h=>h.elim,hG W hL⟩ (by simpa using h2) (λj c hj=>by simpa using h4 j c hj)).mono ?_;rintro e W' ⟨u,v,rfl,rfl,hu,hB,_⟩;have R:=hu.bool_inv;subst R;have M:∀ x∈p,x.block<W.heap.size:=λx hx=>by simpa using hW'.lt x (List.mem_append_left _ hx)
 have A:=r B h3;refine ⟨_,rfl,B,[],p++[],[],p,[],hW',?_,?_,?_,hB.frame _,λh=>by cases h⟩
 ·rw [jbf,A,K];exact trodAll_mk1 (shut_bool hb true)
 ·rw [jbf,A];exact kiQ I hB (λt Z=>by have:=jap.1 y t Z; simpa only [jad,jak] using this) hA M
 ·rw [k,jbf,A];rfl
theorem pin_tab {P:Ye} {W:World} {a:String} {k:IntKind} {zs:Ya Int} {g:Nat} (b:P.globalNamed a=some g) (h:Go.Lib.TabIs P W a k zs):PinAt (λc=>c=(zs.map λz=>Value.int k z).toArray) W.heap[g]?:=by
 unfold Go.Lib.TabIs World.var? at h;rw [b] at h;simp only [jab] at h;split at h
 ·rename_i cs T f e;exact ⟨cs,T,f,e,Option.some.inj h⟩
 ·cases h
end Go.Abs
