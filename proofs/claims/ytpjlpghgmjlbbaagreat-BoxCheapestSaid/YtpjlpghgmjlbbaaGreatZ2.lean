/- The machinery, part 2. -/
import Derived.Orders
import Derived.Laws.Cover3
import Derived.Laws.StructEq
import Derived.RangeFuncKeeps
import Derived.Test.YtpjlpghgmjlbbaaGreatZ1
set_option linter.constructorNameAsVariable false
set_option linter.unusedVariables false
set_option linter.unusedSimpArgs false
set_option linter.unusedSectionVars false
namespace Go.Abs
open Go Go.RowKit
def putE (env:Env) (d:Yb Tmp) (v:AV):Env:=
 match d with
 | some d=>(d,v)::env
 | none=>env
def kbz (ds:Ya (Yb Tmp)) (j:Nat):Yb Tmp:=(ds[j]?).bind id
def aops (P:Yd) (ds:Ya (Yb Tmp)):Ya Oper->St->(St->Prop)->Prop
 | [],st,K=>K st
 | o::r,st,K=>
  match o.guard with
  | none=>aop P st.env st.h st.n o (λv h n=>aops P ds r ⟨putE st.env o.dst v,h,n⟩ K)
  | some (j,want)=>match kbz ds j with
   | some d=>match lk st.env d with
    | .sc (.bool b)=>(b=want->aop P ((d,.sc (.bool want))::st.env) st.h st.n o (λv h n=>aops P ds r ⟨putE ((d,.sc (.bool want))::st.env) o.dst v,h,n⟩ K))/\
      (b = !want->aops P ds r ⟨putE ((d,.sc (.bool (!want)))::st.env) o.dst .ud,st.h,st.n⟩ K)
    | .ud=>aops P ds r ⟨putE st.env o.dst .ud,st.h,st.n⟩ K
    | _=>False
   | none=>False
def kbw (N:Nat) (l:Ya Oper):Bool:=l.all λo=>match o.dst with | some d=>decide (d<N) | none=>true
section
variable {P:Yd} {N:Nat} {D:DX} {O:Nat->Prop} {Q:Exit->St->Prop} {st:St}
theorem SR.putE {μ i:Mu} {a:Act} {w w':World} {h':AH} {n':Nat} {u:Ye} {v:AV} (t:SR N D O μ st a w) (hr:HR w' O i h' n') (m:Evo w μ st.n w' i n') (z:VR w' O i n' v u) (d:Yb Tmp) (y:∀ x,d=some x->x<N) :
  SR N D O i ⟨Abs.putE st.env d v,h',n'⟩ (a.put d u) w':=by
 cases d with
 | none=>exact t.step hr m
 | some d=>exact t.put hr m z d (y d rfl)
theorem keI {μ:Mu} {a:Act} {w:World} (I:SR N D O μ st a w) {l:Ya Oper} {j d:Nat} (i:kbz (l.map (·.dst)) j=some d) {v:AV} (J:lk st.env d=v):(∀ b,v = .sc (.bool b)->yielded l.toArray a.tmps j=some b)/\(v = .ud->yielded l.toArray a.tmps j=none):=by
 unfold kbz at i;simp only [jas] at i;cases hl:l[j]? with
 | none=>simp [hl] at i
 | some o=>
  simp [hl] at i;have t:=I.env d;rw [J] at t;constructor
  ·rintro b rfl;have y:=t.bool_inv;unfold yielded;have m:d<a.tmps.size:=by
    rcases jdg d a.tmps.size with h | h
    ·exact h
    ·simp [jah,jdz h,undef] at y
   simp only [jbz,hl,jab,i];rw [jav m];rw [jah,jav m] at y;simp only [jcb] at y;rw [y]
  ·rintro rfl;have z:a.tmps.getD d undef=undef:=by
    generalize a.tmps.getD d undef=u at t;cases t; rfl
   unfold yielded;simp only [jbz,hl,jab,i];cases U:a.tmps[d]? with
   | none=>rfl
   | some u=>
    rw [jah,U] at z;simp only [jcb] at z;rw [z];rfl
theorem SR.again {μ:Mu} {a:Act} {w:World} (i:SR N D O μ st a w) {d:Nat} {v:AV} (t:lk st.env d=v):SR N D O μ ⟨(d,v)::st.env,st.h,st.n⟩ a w:=by
 have m:∀ s,lk ((d,v)::st.env) s=lk st.env s:=λs=>by
  simp only [lk]; split
  ·rename_i e; subst e; exact t.symm
  ·rfl
 refine ⟨i.hr,i.size,i.defers,λs=>?_,i.gs,i.gi.evo i.hr.refl λ_=>.inl (m GS)⟩;show VR w O μ st.n (lk ((d,v)::st.env) s) _;rw [m s]; exact i.env s
def wpL (ro:Yb Nat) (P:Yd) (ops:Array Oper) (Q:Exit->Act->World->Prop):Ya Oper->Act->World->Prop
 | [],a,w=>Q .normal a w
 | o::r,a,w=>if Region.wanted o (yielded ops a.tmps) then o.wpIn (FF ro) 0 P a w (wpL ro P ops Q r) Q else wpL ro P ops Q r (a.put o.dst undef) w
theorem kAM {ro:Yb Nat} {ops:Array Oper} {Q:Exit->Act->World->Prop} (l:Ya Oper):∀ k,(∀ j,l[j]?=ops[k+j]?)->∀ a w,wpL ro P ops Q l a w->wpOpsIn (FF ro) 0 P ops Q (List.range' k l.length) a w:=by
 induction l with
 | nil=>intro k _ a w h; exact h
 | cons o l y=>
  intro k h a w m;have u:ops[k]?=some o:=by simpa using (h 0).symm
  have i:=y (k+1) (λj=>by have:=h (j+1); simpa [jec,Nat.add_comm 1 j] using this);simp only [jcv,List.range'_succ,wpOpsIn,u];unfold wpL at m;split
  ·rename_i t; rw [if_pos t] at m; exact Oper.wpIn_mono (λa w=>i a w) m
  ·rename_i t; rw [if_neg t] at m; exact ⟨λ_ _=>trivial,i _ _ m⟩
theorem krQ {ro:Yb Nat} {id:Nat} {l:Ya Oper} {Q:Exit->Act->World->Prop} {a:Act} {w:World} (h:wpL ro P l.toArray Q l a w):(Code.region id l.toArray false).wpIn (FF ro) 0 P Q a w:=
 wpIn_region (by
  rw [List.range_eq_range'];have:=kAM (ops:=l.toArray) l 0 (by simp) a w h;simpa using this)
theorem kij {ro:Yb Nat} {l r2:Ya Oper}:∀ (r:Ya Oper) (st:St) {μ:Mu} {a:Act} {w:World} {K:St->Prop} {Q':Exit->Act->World->Prop},kbw N r=true->SR N D O μ st a w->aops P (l.map (·.dst)) r st K->
  (∀ z μ' a' w',K z->SR N D O μ' z a' w'->Evo w μ st.n w' μ' z.n->wpL ro P l.toArray Q' r2 a' w')->wpL ro P l.toArray Q' (r++r2) a w
 | [],st,μ,a,w,K,Q',_,m,i,hq=>hq st μ a w i m m.hr.refl
 | o::r,st,μ,a,w,K,Q',hd,m,i,hq=>by
  simp only [kbw,jed,jac] at hd;have U:∀ x,o.dst=some x->x<N:=λx hx=>by have:=hd.1; rw [hx] at this; simpa using this
  have X:kbw N r=true:=hd.2;have run:∀ env,SR N D O μ ⟨env,st.h,st.n⟩ a w->aop P env st.h st.n o (λv h n=>aops P (l.map (·.dst)) r ⟨Abs.putE env o.dst v,h,n⟩ K)->o.wpIn (FF ro) 0 P a w (wpL ro P l.toArray Q' (r++r2)) Q':=λenv m i=>by
   refine koz i m.hr (λx=>m.ev x) _ _ _ ?_;intro u w' μ' v h' n' ac ab aa Z;exact kij r ⟨Abs.putE env o.dst v,h',n'⟩ X (m.putE ab Z aa o.dst U) ac λI μ2 a2 w2 k2 s2 e2=>hq I μ2 a2 w2 k2 s2 (Z.trans e2)
  have skip:∀ env,SR N D O μ ⟨env,st.h,st.n⟩ a w->aops P (l.map (·.dst)) r ⟨Abs.putE env o.dst .ud,st.h,st.n⟩ K->wpL ro P l.toArray Q' (r++r2) (a.put o.dst undef) w:=λenv m i=>
   kij r ⟨Abs.putE env o.dst .ud,st.h,st.n⟩ X (m.putE m.hr m.hr.refl .ud o.dst U) i λI μ2 a2 w2 k2 s2 e2=>hq I μ2 a2 w2 k2 s2 e2
  simp only [aops] at i;show wpL ro P l.toArray Q' (o::(r++r2)) a w;unfold wpL;cases J:o.guard with
  | none=>
   simp only [J] at i;rw [if_pos (by simp [Region.wanted,J])];exact run st.env m i
  | some jw=>
   obtain ⟨j,y⟩:=jw;simp only [J] at i;cases hj:kbz (l.map (·.dst)) j with
   | none=>simp only [hj] at i
   | some d=>
    simp only [hj] at i;cases t:lk st.env d with
    | ud=>
     obtain ⟨_,g2⟩:=keI m hj t;simp only [t] at i;rw [if_neg (by simp [Region.wanted,J,g2 rfl])];exact skip st.env m i
    | sc v=>
     cases v with
     | bool b=>
      obtain ⟨g1,_⟩:=keI m hj t;simp only [t] at i;have hy:=g1 b rfl;by_cases hb:b=y
      ·rw [if_pos (by simp [Region.wanted,J,hy,hb])];exact run _ (m.again (by rw [t,hb])) (i.1 hb)
      ·have Y:b = !y:=by cases b <;> cases y <;> simp_all
       rw [if_neg (by simp [Region.wanted,J,hy,hb])];exact skip _ (m.again (by rw [t,Y])) (i.2 Y)
     | _=>simp only [t] at i
    | _=>simp only [t] at i
theorem Sat.region {id:Nat} {l:Ya Oper} (m:kbw N l=true) (h:aops P (l.map (·.dst)) l st (Q .normal)):Sat P N D O (.region id l.toArray false) Q st:=by
 intro y o ro μ a w _ u;have:=kij (ro:=ro) (l:=l) (r2:=[]) l st (Q':=Post N D O Q μ w st.n) m u h ?_
 ·rw [jbe] at this; exact krQ this
 exact λi t a' w' k s e=>⟨i,t,y,o,k,s,e.d⟩
def kcE (P:Yd) (h:AH) (env:Env):ResultVar->Yb AV
 | .tmp t=>some (lk env t)
 | .cell x T=>match deref h (lk env x) with
  | some cs=>match aggO P T with
   | some true=>if P.cellsOf T<=cs.length then some (.ag (cs.take (P.cellsOf T))) else none
   | some false=>cs[0]?
   | none=>none
  | none=>none
def kbm (P:Yd) (h:AH) (env:Env) (rs:Ya ResultVar):Yb AV:=
 match rs.mapM (kcE P h env) with
 | some [v]=>some v
 | some vs=>some (.tp vs)
 | none=>none
def kar (args:Ya AV):Env:=args.zipIdx.map λ(v,i)=>(i,v)
theorem kqC (args:Ya AV):∀ (k s:Nat),lk ((args.zipIdx k).map λ(v,i)=>(i,v)) s=if k<=s then (args[s-k]?).getD .un else .un:=by
 induction args with
 | nil=>intro k s; simp [lk]
 | cons v args m=>
  intro k s;simp only [jbj,jap,lk];rw [m];by_cases h:s=k
  ·subst h; simp
  ·rw [if_neg h];by_cases h2:k<=s
   ·rw [if_pos h2,if_pos (by omega),show s-k=(s-(k+1))+1 by omega,jby]
   ·rw [if_neg h2,if_neg (by omega)]
def resS (tmps:Array Ye):ResultVar->Sem Ye
 | .tmp t=>pure (tmps.getD t undef)
 | .cell x T=>do loadVar T (<-asAddr (tmps.getD x undef))
theorem kxP (fn:Func) (tmps:Array Ye):results fn tmps=(do
  let vs<-fn.results.mapM (resS tmps)
  pure (if h:vs.size=1 then vs[0] else .tuple vs)):=by
 unfold results;congr 1
theorem kxT {μ:Mu} {a:Act} {w:World} (I:SR N D O μ st a w) {J:ResultVar} {v:AV} (h:kcE P st.h st.env J=some v) :
  ∃ u,(resS a.tmps J).run P w = .ok u w/\VR w O μ st.n v u:=by
 cases J with
 | tmp t=>simp only [kcE,Option.some.injEq] at h; subst h; exact ⟨_,rfl,I.env t⟩
 | cell x T=>
  simp only [kcE] at h;split at h
  ·rename_i cs Y;obtain ⟨b,off,hv,y⟩:=kpw I.hr (I.env x) Y;simp only [resS,hv];split at h
   ·rename_i m;split at h
    ·rename_i aa;cases h;obtain ⟨i,hi⟩:=khI m;obtain ⟨vals,U,h2,X,h4⟩:=(y.take (P.cellsOf T)).vals;have z:vals.length=P.cellsOf T:=by rw [U,jbi]; omega
     refine ⟨.agg vals.toArray,?_,VR.ag_of U (λj c Z=>(y.take (P.cellsOf T) j c Z).1) h4⟩;simp only [asAddr,pure_bind,loadVar,Sem.run_bind,keW m,Result.andThen_ok,if_true,kaS hi,kfv h2 z,Sem.run_pure]
    ·cases h
   ·rename_i m;obtain ⟨U,u,h2,X⟩:=y 0 v h;simp only [Nat.add_zero] at h2;exact ⟨u,by simp [asAddr,loadVar,keW m,h2],X⟩
   ·cases h
  ·cases h
theorem kjk {μ:Mu} {a:Act} {w:World} (hs:SR N D O μ st a w) {fn:Func} {v:AV} (h:kbm P st.h st.env fn.results.toList=some v):∃ u,(results fn a.tmps).run P w = .ok u w/\VR w O μ st.n v u:=by
 have step:∀ (rs:Ya ResultVar) (vs:Ya AV),rs.mapM (kcE P st.h st.env)=some vs->∃ us:Ya Ye,us.length=vs.length/\(rs.mapM (resS a.tmps):Sem (Ya Ye)).run P w = .ok us w/\
   ∀ (j:Nat) (c:AV),vs[j]?=some c->∃ u,us[j]?=some u/\VR w O μ st.n c u:=by
  intro rs;induction rs with
  | nil=>intro vs h; simp at h; subst h; exact ⟨[],rfl,by simp,λj c t=>by simp at t⟩
  | cons rv rs ih=>
   intro vs h;simp only [jdu,Option.bind_eq_bind,jaa,Option.pure_def,Option.some.injEq] at h;obtain ⟨v,Z,X,i,rfl⟩:=h;obtain ⟨u,z,m⟩:=kxT hs Z;obtain ⟨us,J,h2,I⟩:=ih X i;refine ⟨u::us,by simp [J],?_,λj c t=>?_⟩
   ·simp only [jdu,Sem.run_bind,h2,z,Result.andThen_ok,Sem.run_pure]
   ·cases j with
    | zero=>simp at t; subst t; exact ⟨u,rfl,m⟩
    | succ j=>simpa using I j c (by simpa using t)
 unfold kbm at h;have fin:∀ {us:Ya Ye},(fn.results.toList.mapM (resS a.tmps):Sem (Ya Ye)).run P w = .ok us w->
   (results fn a.tmps).run P w = .ok (match us with | [u]=>u | us=>.tuple us.toArray) w:=by
  intro us Y;rw [kxP];have:(fn.results.mapM (resS a.tmps):Sem (Array Ye)).run P w = .ok us.toArray w:=by
   rw [Array.mapM_eq_mapM_toList];simp only [Sem.run_map,Y,Result.andThen_ok]
  rw [Sem.run_bind];rw [this];simp only [Result.andThen_ok];match us with
  | []=>simp
  | [u]=>simp
  | u::v::us=>simp
 split at h
 ·rename_i v' i;cases h;obtain ⟨us,J,h2,I⟩:=step _ _ i;obtain ⟨u,z⟩:∃ u,us=[u]:=by
   match us,J with
   | [u],_=>exact ⟨u,rfl⟩
  subst z;refine ⟨u,fin h2,?_⟩;obtain ⟨u',U,m⟩:=I 0 v rfl;simp at U; subst U; exact m
 ·rename_i vs y i;cases h;obtain ⟨us,J,h2,I⟩:=step _ _ i;refine ⟨_,fin h2,?_⟩;have:(match us with | [u]=>u | us=>Value.tuple us.toArray) = .tuple us.toArray:=by
   match us,vs,J,y with
   | [],_,_,_=>rfl
   | [u],[v],_,y=>exact absurd rfl (y v)
   | u::v::us,_,_,_=>rfl
  rw [this];refine .tp vs us.toArray (λj=>us.getD j undef) (by simpa using J) (λj c t=>?_) (λj c t=>?_)
  ·obtain ⟨u,z,_⟩:=I j c t; simp [z,List.getD]
  ·obtain ⟨u,z,m⟩:=I j c t; simpa [z,List.getD] using m
 ·cases h
theorem VR.putObj {w:World} {μ:Mu} {m:Nat} {b:Nat} {o:Obj} (o':Obj) (hb:w.heap[b]?=some o) (y:∀ c T f,o≠.cells c T f) {a:AV} {v:Ye} (J:VR w O μ m a v):VR (w.putObj b o') O μ m a v:=by
 have hh:∀ {b':Nat} {c:Array Ye} {T:Yc} {f:Nat×Nat},w.heap[b']?=some (.cells c T f)->(w.putObj b o').heap[b']?=some (.cells c T f):=λ{b' c T f} h=>by
  by_cases e:b'=b
  ·subst e; rw [hb] at h; cases h; exact absurd rfl (y _ _ _)
  ·exact (World.putObj_heap_other e).trans h
 have z:∀ {b' k:Nat} {u:Ye},w.cell? ⟨b',k,none⟩=some u->(w.putObj b o').cell? ⟨b',k,none⟩=some u:=λh=>by
  obtain ⟨c,T,f,t,h2⟩:=cell_heap.1 h;exact cell_heap.2 ⟨c,T,f,hh t,h2⟩
 induction J with
 | sc v t=>exact .sc v t
 | ud=>exact .ud
 | gs es=>exact .gs es
 | un v=>exact .un v
 | e0 p=>exact .e0 p
 | own id i j v h t J=>exact .own id i j v h t J
 | ms id off len v h t J=>
  refine .ms id off len v h t λb k e=>?_;obtain ⟨o,cap,c,T,g1,g2,g3,g4,g5,g6⟩:=J b k e;exact ⟨o,cap,c,T,g1,g2,g3,g4,hh g5,g6⟩
 | mp id v h t J=>exact .mp id v h t J
 | fp cs b o us hA y t _ I=>exact .fp cs b o us hA (λj c Z=>z (y j c Z)) t I
 | slnil p=>exact .slnil p
 | sl es b o cap k us U Y hA hk y t _ I=>exact .sl es b o cap k us U Y hA hk (λi e hi j c Z=>z (y i e hi j c Z)) t I
 | fn f cs vs us X y _ I=>exact .fn f cs vs us X y I
 | ag cs vs us X y t _ I=>exact .ag cs vs us X y t I
 | tp cs vs us X y _ I=>exact .tp cs vs us X y I
theorem HR.putObj {w:World} {μ:Mu} {h:AH} {m:Nat} (hr:HR w O μ h m) {b:Nat} {o:Obj} (U:Obj) (z:w.heap[b]?=some o) (Z:∀ c T f,o≠.cells c T f) (X:∀ id k,μ id≠some (b,k)):HR (w.putObj b U) O μ h m:=by
 refine ⟨λb z=>by rw [World.putObj_size]; exact hr.olt b z,λid b k e=>by rw [World.putObj_size]; exact hr.scope id b k e,hr.inj,hr.notO,λid B hB=>?_⟩;have:=hr.blk id B hB;cases B with
 | cells k T es=>
  obtain ⟨b',c,t,h2,y⟩:=this;refine ⟨b',c,t,(World.putObj_heap_other (by rintro rfl; exact X id k t)).trans h2,λi e hi=>⟨(y i e hi).1,λj a hj=>?_⟩⟩;obtain ⟨J,u,I,Y⟩:=(y i e hi).2 j a hj;exact ⟨J,u,I,Y.putObj U z Z⟩
 | map aa=>
  obtain ⟨b',es,t,h2,y,J⟩:=this;refine ⟨b',es,t,(World.putObj_heap_other (by rintro rfl; exact X id 0 t)).trans h2,y,λi x hi=>?_⟩;obtain ⟨e,I,Y,h7,h8,h9⟩:=J i x hi;exact ⟨e,I,Y,h7,h8,h9.putObj U z Z⟩
 | si s pos=>
  obtain ⟨b',t,h2⟩:=this;exact ⟨b',t,(World.putObj_heap_other (by rintro rfl; exact X id 0 t)).trans h2⟩
theorem Evo.putObj {w0 w:World} {μ0 μ:Mu} {n0 n1:Nat} (e:Evo w0 μ0 n0 w μ n1) {b:Nat} (t:Obj) (y:w0.heap.size<=b):Evo w0 μ0 n0 (w.putObj b t) μ n1:=by
 have u:∀ b',b'<w0.heap.size->(w.putObj b t).heap[b']?=w.heap[b']?:=λb' h=>World.putObj_heap_other (by omega);refine ⟨e.os,e.tape,e.output,by rw [World.putObj_size]; exact e.size,e.le,λb' m h2=>(u b' m).trans (e.keep b' m h2),λb' c T f i=>?_,e.ids,e.new⟩;obtain ⟨c',m,h2⟩:=e.row b' c T f i;exact ⟨c',(u b' (jal.1 i).1).trans m,h2⟩
theorem kvB {fn:Func} {v:AV} {R:Ending->World->Prop} {w0:World} {μ0 μ:Mu} {n0:Nat} {i:St} {a':Act} {w':World} (h1:kbm P i.h i.env fn.results.toList=some v) (U:SR N ⟨w0.heap.size,none⟩ O μ i a' w') (t:Evo w0 μ0 n0 w' μ i.n)
  (hR:∀ m u,HR m O μ i.h i.n->VR m O μ i.n v u->Evo w0 μ0 n0 m μ i.n->R (.returned u) m):LeavesInM (FF none) 0 P fn a'.tmps R a'.defers .returning w':=by
 obtain ⟨_,_,bs,hn,X,z⟩:=U.defers;have key:∀ (bs:Ya Nat) (m:World),bs.Nodup->(∀ b∈bs,w0.heap.size<=b/\m.heap[b]?=some (.deferred (some []))/\∀ id k,μ id≠some (b,k))->HR m O μ i.h i.n->(∀ s,VR m O μ i.n (lk i.env s) (a'.tmps.getD s undef))->Evo w0 μ0 n0 m μ i.n->
   LeavesInM (FF none) 0 P fn a'.tmps R (bs.map (λb=>({ target:=.collected b,args:=#[] }:Deferred))) .returning m:=by
  intro bs;induction bs with
  | nil=>
   intro m _ _ hr J t;obtain ⟨u,Z,Y⟩:=kjk (N:=a'.tmps.size) (D:=⟨0,none⟩) (a:={ tmps:=a'.tmps,defers:=[] }) ⟨hr,rfl,.nil _ _ _ (Nat.zero_le _),J,(λe=>by cases e),trivial⟩ h1;exact ⟨u,Z,hR m u hr Y t⟩
  | cons b bs ih=>
   intro m hn z hr J t;obtain ⟨g1,I,g3⟩:=z b (by simp);rw [jde] at hn;refine ⟨by simp,.inl ⟨b,_,rfl,run_takeDeferred I,?_⟩⟩;refine ih _ hn.2 (λb' y=>?_) (hr.putObj _ I (by simp) g3) (λs=>(J s).putObj _ I (by simp)) (t.putObj _ g1);obtain ⟨k1,k2,k3⟩:=z b' (by simp [y]);exact ⟨k1,(World.putObj_heap_other (by rintro rfl; exact hn.1 y)).trans k2,k3⟩
 rw [X];exact key bs w' hn z U.hr U.env t
def fnQ (P:Yd) (rs:Ya ResultVar) (R:K3):Exit->St->Prop
 | .ret,s=>∃ v,kbm P s.h s.env rs=some v/\R v s.h s.n
 | .normal,s=>∃ v,kbm P s.h s.env rs=some v/\R v s.h s.n
 | _,_=>False
theorem HC.of_body {f:FuncId} {fn:Func} {c:Code} {args:Ya AV} {h:AH} {n:Nat} {R:K3} (hf:P.funcs[f]?=some fn) (hb:fn.body=some c) (t:(fn.name== "runtime.NumGoroutine")=false) (U:args.length<=fn.ntmps)
  (I:∀ (D:DX) (O:Nat->Prop),D.it=none->Sat P fn.ntmps D O c (fnQ P fn.results.toList R) ⟨kar args,h,n⟩):HC P f args h n R:=by
 refine ⟨⟨fn,hf,by rw [hb]; rfl,t⟩,λO μ w vs hr aa X=>(callsIn_wide (n:=0)).1 (callsIn_of_wp_marks hf hb trivial ?_)⟩;show c.wpIn (FF none) 0 P _ _ w;refine wpIn_mono (I ⟨w.heap.size,none⟩ O rfl O (λ_=>rfl) none μ _ w trivial ⟨hr,?_,.nil _ _ _ (jag _),λs=>?_,(λe=>by cases e),trivial⟩) ?_
 ·simp [aa]; omega
 ·simp only [kar,kqC args 0 s,Nat.zero_le,if_true,Nat.sub_zero];cases hs:args[s]? with
  | none=>simpa using VR.un _
  | some v=>
   obtain ⟨u,hu,Y⟩:=X s v hs;have:(vs++Array.replicate (fn.ntmps-vs.size) undef).getD s undef=u:=by
    rw [jah,jdy (jal.1 hu).1,hu]; rfl
   rw [this];exact Y
 ·rintro e a' w' ⟨i,z,O',o',y,Z,he⟩;cases o' rfl;have m:∀ v,kbm P i.h i.env fn.results.toList=some v->R v i.h i.n->LeavesInM (FF none) 0 P fn a'.tmps (λe w'=>∃ u v h' n' z,e = .returned u/\R v h' n'/\HR w' O z h' n'/\VR w' O z n' v u/\Evo w μ n w' z n') a'.defers .returning w':=λv J h2=>
   kvB J Z (he rfl) λw2 u h3 h4 h5=>⟨u,v,i.h,i.n,z,rfl,h2,h3,h4,h5⟩
  cases e with
  | ret=>
   obtain ⟨v,J,h2⟩:=y;exact m v J h2
  | normal=>
   obtain ⟨v,J,h2⟩:=y;exact m v J h2
  | exit id=>exact y.elim
  | goto l=>exact y.elim
  | panic c=>exact y.elim
  | outgrown=>exact y.elim
end
abbrev mu0:Mu:=λ_=>none
abbrev ah0:AH:=λ_=>none
inductive Free:AV->Prop
 | sc (v:Value):Free (.sc v)
 | ud:Free .ud
 | un:Free .un
 | e0:Free .e0
 | fp (cs:List AV) (h:∀ (j:Nat) (c:AV),cs[j]?=some c->Free c):Free (.fp cs)
 | sl (es:List (List AV)) (h:∀ (i:Nat) (e:List AV),es[i]?=some e->∀ (j:Nat) (c:AV),e[j]?=some c->Free c):Free (.sl es)
 | fn (f:FuncId) (cs:List AV) (h:∀ (j:Nat) (c:AV),cs[j]?=some c->Free c):Free (.fn f cs)
 | ag (cs:List AV) (h:∀ (j:Nat) (c:AV),cs[j]?=some c->Free c):Free (.ag cs)
 | tp (cs:List AV) (h:∀ (j:Nat) (c:AV),cs[j]?=some c->Free c):Free (.tp cs)
inductive Flat:AV->Prop
 | sc (v:Value):Flat (.sc v)
 | ag (cs:List AV) (h:∀ (j:Nat) (c:AV),cs[j]?=some c->Flat c):Flat (.ag cs)
 | tp (cs:List AV) (h:∀ (j:Nat) (c:AV),cs[j]?=some c->Flat c):Flat (.tp cs)
section
variable {P:Yd} {w:World} {O:Nat->Prop} {μ:Mu} {h:AH} {n:Nat}
theorem VR.free {a:AV} {v:Ye} (hv:VR w O μ n a v) (m:Free a) {O':Nat->Prop} (ho:∀ b,O' b->Av O μ b):VR w O' mu0 0 a v:=by
 have U:∀ b,Av O' mu0 b->Av O μ b:=λb z=>by
  rcases z with z | ⟨id,k,z⟩
  ·exact ho b z
  ·cases z
 induction hv with
 | sc v J=>exact .sc v J
 | ud=>exact .ud
 | gs es=>exact .gs es
 | un v=>exact .un v
 | e0 p=>exact .e0 p
 | own=>cases m
 | ms=>cases m
 | mp=>cases m
 | fp cs b o us hA u J _ y=>cases m with | fp _ m=>exact .fp cs b o us (λI z=>hA I (U b z)) u J λj c t=>y j c t (m j c t)
 | slnil p=>exact .slnil p
 | sl es b o cap k us X Z hA hk u J _ y=>cases m with | sl _ m=>exact .sl es b o cap k us X Z (λi e hi I z=>hA i e hi I (U b z)) hk u J λi e hi j c t=>y i e hi j c t (m i e hi j c t)
 | fn f cs vs us Y u _ y=>cases m with | fn _ _ m=>exact .fn f cs vs us Y u λj c t=>y j c t (m j c t)
 | ag cs vs us Y u J _ y=>cases m with | ag _ m=>exact .ag cs vs us Y u J λj c t=>y j c t (m j c t)
 | tp cs vs us Y u _ y=>cases m with | tp _ m=>exact .tp cs vs us Y u λj c t=>y j c t (m j c t)
theorem VR.lift {a:AV} {v:Ye} {O':Nat->Prop} (Y:VR w O' mu0 0 a v) (X:∀ b,Av O μ b->O' b):VR w O μ n a v:=by
 induction Y with
 | sc v y=>exact .sc v y
 | ud=>exact .ud
 | gs es=>exact .gs es
 | un v=>exact .un v
 | e0 p=>exact .e0 p
 | own _ _ _ _ h=>omega
 | ms _ _ _ _ h=>omega
 | mp _ _ h=>omega
 | fp cs b o us hA m y _ t=>exact .fp cs b o us (λu U=>hA u (.inl (X b U))) m y t
 | slnil p=>exact .slnil p
 | sl es b o cap k us z J hA Z m y _ t=>exact .sl es b o cap k us z J (λi e hi u U=>hA i e hi u (.inl (X b U))) Z m y t
 | fn f cs vs us I m _ t=>exact .fn f cs vs us I m t
 | ag cs vs us I m y _ t=>exact .ag cs vs us I m y t
 | tp cs vs us I m _ t=>exact .tp cs vs us I m t
theorem VR.flat {a:AV} {v:Ye} (I:VR w O μ n a v) (i:Flat a) (w':World) (O':Nat->Prop) (J:Mu) (n':Nat):VR w' O' J n' a v:=by
 induction I with
 | sc v z=>exact .sc v z
 | ag cs vs us y t z _ u=>cases i with | ag _ i=>exact .ag cs vs us y t z λj c m=>u j c m (i j c m)
 | tp cs vs us y t _ u=>cases i with | tp _ i=>exact .tp cs vs us y t λj c m=>u j c m (i j c m)
 | _=>cases i
inductive Snap (h:AH):AV->AV->Prop
 | free (a:AV) (hf:Free a):Snap h a a
 | nilS:Snap h (.sc (.slice none 0 0)) (.sl [])
 | own (id i j k:Nat) (T:TypeId) (es:List (List AV)) (e cs:List AV) (hB:h id=some (.cells k T es)) (he:es[i]?=some e) (hl:cs.length=(e.drop j).length)
   (hr:∀ (q:Nat) (c c':AV),(e.drop j)[q]?=some c->cs[q]?=some c'->Snap h c c'):Snap h (.own id i j) (.fp cs)
 | ms (id off len k:Nat) (T:TypeId) (es es':List (List AV)) (hB:h id=some (.cells k T es)) (hle:off+len<=es.length) (hl:es'.length=len)
   (hk:∀ (q:Nat) (e e':List AV),es[off+q]?=some e->es'[q]?=some e'->e'.length=e.length)
   (hr:∀ (q:Nat) (e e':List AV),es[off+q]?=some e->es'[q]?=some e'->∀ (p:Nat) (c c':AV),e[p]?=some c->e'[p]?=some c'->Snap h c c'):Snap h (.ms id off len) (.sl es')
 | fp (cs cs':List AV) (hl:cs'.length=cs.length) (hr:∀ (q:Nat) (c c':AV),cs[q]?=some c->cs'[q]?=some c'->Snap h c c'):Snap h (.fp cs) (.fp cs')
 | sl (es es':List (List AV)) (hl:es'.length=es.length) (hk:∀ (q:Nat) (e e':List AV),es[q]?=some e->es'[q]?=some e'->e'.length=e.length)
   (hr:∀ (q:Nat) (e e':List AV),es[q]?=some e->es'[q]?=some e'->∀ (p:Nat) (c c':AV),e[p]?=some c->e'[p]?=some c'->Snap h c c'):Snap h (.sl es) (.sl es')
 | fn (f:FuncId) (cs cs':List AV) (hl:cs'.length=cs.length) (hr:∀ (q:Nat) (c c':AV),cs[q]?=some c->cs'[q]?=some c'->Snap h c c'):Snap h (.fn f cs) (.fn f cs')
 | ag (cs cs':List AV) (hl:cs'.length=cs.length) (hr:∀ (q:Nat) (c c':AV),cs[q]?=some c->cs'[q]?=some c'->Snap h c c'):Snap h (.ag cs) (.ag cs')
 | tp (cs cs':List AV) (hl:cs'.length=cs.length) (hr:∀ (q:Nat) (c c':AV),cs[q]?=some c->cs'[q]?=some c'->Snap h c c'):Snap h (.tp cs) (.tp cs')
theorem Snap.one {a a':AV} (m:Snap h a a') (i:a.one=true):a'.one=true:=by
 cases m <;> first | exact i | rfl | (simp [AV.one] at i; done)
theorem kah {α:Type} {l l':Ya α} (hl:l'.length=l.length) {q:Nat} {c':α} (i:l'[q]?=some c'):∃ c,l[q]?=some c:=
 ⟨l[q]'(by rw [<-hl]; exact (jaf.1 i).1),jae _⟩
theorem Snap.vr {a a':AV} (hs:Snap h a a') (hr:HR w O μ h n):∀ {v:Ye},VR w O μ n a v->VR w O mu0 0 a' v:=by
 have hO:∀ b,(∃ id k,μ id=some (b,k))->¬ Av O mu0 b:=λb hb Y=>by
  obtain ⟨id,k,hb⟩:=hb;rcases Y with Y | ⟨_,_,Y⟩
  ·exact hr.notO id b k hb Y
  ·cases Y
 have hO2:∀ b,¬ Av O μ b->¬ Av O mu0 b:=λb hb Y=>by
  rcases Y with Y | ⟨_,_,Y⟩
  ·exact hb (.inl Y)
  ·cases Y
 induction hs with
 | free a hf=>intro v J; exact J.free hf λb hb=>.inl hb
 | nilS=>intro v J; rw [J.sc_inv]; exact .slnil none
 | own id i j k T es e cs hB he hl z X=>
  intro v J;obtain ⟨b,c,g1,g2,rfl,g4⟩:=kiZ hr hB J;obtain ⟨b',c',f1,f2,f3⟩:=hr.own_cells hB;rw [g1] at f1; cases f1;have af:=((f3 i e he).2).drop j;have cell:∀ q c',cs[q]?=some c'->∃ x,(e.drop j)[q]?=some x:=λq c' m=>kah hl m;refine .fp cs b (i*k+j) (λq=>(w.cell? ⟨b,i*k+j+q,none⟩).getD undef) (λ_=>hO b ⟨id,k,g1⟩) (λq c' m=>?_) (λq c' m=>?_) (λq c' m=>?_);all_goals
   obtain ⟨x,t⟩:=cell q c' m;obtain ⟨p1,u,p2,p3⟩:=af q x t
  ·rw [p2]; rfl
  ·exact (z q x c' t m).one p1
  ·rw [p2]; exact X q x c' t m p3
 | ms id off len k T es es' hB aj hl hk z X=>
  intro v J;obtain ⟨b,c,oo,cap,g1,g2,rfl,g3,g4,g5,g6,g7⟩:=kjb hr hB J;obtain ⟨b',c',f1,f2,f3⟩:=hr.own_cells hB;rw [g1] at f1; cases f1;have aa:∀ q e',es'[q]?=some e'->∃ x,es[off+q]?=some x:=λq e' m=>by
   have:=(jaf.1 m).1;exact ⟨es[off+q]'(by omega),jae _⟩
  subst hl;refine .sl es' b oo cap k (λq p=>(w.cell? ⟨b,oo+q*k+p,none⟩).getD undef) g4 g5 (λ_ _ _ _=>hO b ⟨id,k,g1⟩) (λq e' m=>?_) (λq e' m p c' hp=>?_) (λq e' m p c' hp=>?_) (λq e' m p c' hp=>?_)
  ·obtain ⟨x,t⟩:=aa q e' m;rw [hk q x e' t m]; exact (f3 _ x t).1
  all_goals
   obtain ⟨x,t⟩:=aa q e' m;obtain ⟨y,hy⟩:=kah (hk q x e' t m) hp;obtain ⟨p1,u,p2,p3⟩:=(f3 _ x t).2 p y hy;have ai:=(jaf.1 m).1;have ab:oo+q*k+p=(off+q)*k+p:=by rw [g6 (by omega),jcc]
  ·rw [ab,p2]; rfl
  ·exact Snap.one (z q x e' t m p y c' hy hp) p1
  ·rw [ab,p2]; exact X q x e' t m p y c' hy hp p3
 | fp cs U hl z X=>
  intro v J;cases J with
  | fp _ b o us hA Z h1 I=>
   refine .fp U b o us (λac=>hO2 b (hA (by rintro rfl; simp at hl; exact ac hl))) (λq c' m=>?_) (λq c' m=>?_) (λq c' m=>?_);all_goals obtain ⟨x,t⟩:=kah hl m
   ·exact Z q x t
   ·exact (z q x c' t m).one (h1 q x t)
   ·exact X q x c' t m (I q x t)
 | sl es es' hl hk z X=>
  intro v J;cases J with
  | slnil=>simp at hl; subst hl; exact .slnil _
  | sl _ b o cap k us ah ad hA ae Z h1 I=>
   rw [<-hl];refine .sl es' b o cap k us (by omega) ad (λq e' m ac=>?_) (λq e' m=>?_) (λq e' m p c' hp=>?_) (λq e' m p c' hp=>?_) (λq e' m p c' hp=>?_);all_goals obtain ⟨x,t⟩:=kah hl m
   ·exact hO2 b (hA q x t (by rintro rfl; have:=hk q [] e' t m; simp at this; exact ac this))
   ·rw [hk q x e' t m]; exact ae q x t
   all_goals obtain ⟨y,hy⟩:=kah (hk q x e' t m) hp
   ·exact Z q x t p y hy
   ·exact (z q x e' t m p y c' hy hp).one (h1 q x t p y hy)
   ·exact X q x e' t m p y c' hy hp (I q x t p y hy)
 | fn f cs U hl z X=>
  intro v J;cases J with
  | fn _ _ vs us hs Z I=>
   refine .fn f U vs us (by omega) (λq c' m=>?_) (λq c' m=>?_);all_goals obtain ⟨x,t⟩:=kah hl m
   ·exact Z q x t
   ·exact X q x c' t m (I q x t)
 | ag cs U hl z X=>
  intro v J;cases J with
  | ag _ vs us hs Z h1 I=>
   refine .ag U vs us (by omega) (λq c' m=>?_) (λq c' m=>?_) (λq c' m=>?_);all_goals obtain ⟨x,t⟩:=kah hl m
   ·exact Z q x t
   ·exact (z q x c' t m).one (h1 q x t)
   ·exact X q x c' t m (I q x t)
 | tp cs U hl z X=>
  intro v J;cases J with
  | tp _ vs us hs Z I=>
   refine .tp U vs us (by omega) (λq c' m=>?_) (λq c' m=>?_);all_goals obtain ⟨x,t⟩:=kah hl m
   ·exact Z q x t
   ·exact X q x c' t m (I q x t)
def PC (P:Yd) (f:FuncId) (args:Ya AV) (R:AV->Prop):Prop:=
 (∃ fn,P.funcs[f]?=some fn/\fn.body.isSome=true/\(fn.name== "runtime.NumGoroutine")=false)/\
 ∀ (O:Nat->Prop) (w:World) (vs:Array Ye),(∀ b,O b->b<w.heap.size)->vs.size=args.length->(∀ (j:Nat) (c:AV),args[j]?=some c->∃ u,vs[j]?=some u/\VR w O mu0 0 c u)->
  Calls P f vs w (λe w'=>∃ u v,e = .returned u/\R v/\VR w' O mu0 0 v u/\Below w.heap.size w w')
theorem HR.zero (w:World) (O:Nat->Prop) (i:∀ b,O b->b<w.heap.size):HR w O mu0 ah0 0:=
 ⟨i,λid b k h=>(by cases h),λ_ _ _ _ _ h=>(by cases h),λ_ _ _ h=>(by cases h),λ_ _ h=>(by cases h)⟩
theorem PC.of_HC {f:FuncId} {args:Ya AV} {R:AV->Prop} (t:HC P f args ah0 0 (λv h _=>∃ m,Snap h v m/\R m)):PC P f args R:=by
 refine ⟨t.1,λO w vs I J z=>(t.2 O mu0 w vs (HR.zero w O I) J z).mono ?_⟩;rintro e w' ⟨u,v,h',n',μ',rfl,⟨m,y,U⟩,X,Y,i⟩;exact ⟨u,m,rfl,U,y.vr X Y,⟨i.os,i.tape,i.output,i.size,λb Z=>i.keep b Z (λid k h=>by cases h)⟩⟩
theorem Evo.of_below {w':World} (hr:HR w O μ h n) (i:Below w.heap.size w w'):Evo w μ n w' μ n/\HR w' O μ h n:=by
 have t:Evo w μ n w' μ n:=⟨i.os,i.tape,i.output,i.size,jag _,λb m _=>i.block b m,λb c T f u=>⟨c,by rw [i.block b (jal.1 u).1]; exact u,rfl⟩,λ_ _=>.inl rfl,
  λid b k e hn=>absurd (hr.scope id b k e).1 (by omega)⟩
 refine ⟨t,λb h=>jan (hr.olt b h) i.size,λid b k e=>⟨(hr.scope id b k e).1,jan (hr.scope id b k e).2 i.size⟩,hr.inj,hr.notO,λid B hB=>?_⟩;exact (hr.blk id B hB).evo rfl (λb k e=>i.block b (hr.scope id b k e).2) t
theorem PC.free {f:FuncId} {args:Ya AV} {R:AV->Prop} (t:PC P f args R) (I:∀ (j:Nat) (c:AV),args[j]?=some c->Free c) (h:AH) (n:Nat):HC P f args h n (λv h' n'=>R v/\h'=h/\n'=n):=by
 refine ⟨t.1,λO μ w vs hr U J=>(t.2 (Av O μ) w vs (λb i=>?_) U (λj c y=>?_)).mono ?_⟩
 ·rcases i with i | ⟨id,k,i⟩
  ·exact hr.olt b i
  ·exact (hr.scope id b k i).2
 ·obtain ⟨u,m,h2⟩:=J j c y;exact ⟨u,m,h2.free (I j c y) λb i=>i⟩
 ·rintro e w' ⟨u,v,rfl,z,X,Y⟩;obtain ⟨Z,m⟩:=Evo.of_below hr Y;exact ⟨u,v,h,n,μ,rfl,⟨z,rfl,rfl⟩,m,X.lift λb i=>i,Z⟩
theorem PC.lent {f:FuncId} {args i:Ya AV} {R:AV->Prop} (I:PC P f i R) (h:AH) (n:Nat) (hl:i.length=args.length) (y:∀ (j:Nat) (c c':AV),args[j]?=some c->i[j]?=some c'->Snap h c c')
  (m:∀ v,R v->Flat v):HC P f args h n (λv h' n'=>R v/\h'=h/\n'=n):=by
 refine ⟨I.1,λO μ w vs hr hs X=>(I.2 O w vs hr.olt (by omega) (λj c' J=>?_)).mono ?_⟩
 ·obtain ⟨c,t⟩:=kah hl J;obtain ⟨u,z,h2⟩:=X j c t;exact ⟨u,z,(y j c c' t J).vr hr h2⟩
 ·rintro e w' ⟨u,v,rfl,U,Y,Z⟩;obtain ⟨e1,z⟩:=Evo.of_below hr Z;exact ⟨u,v,h,n,μ,rfl,⟨U,rfl,rfl⟩,z,Y.flat (m v U) _ _ _ _,e1⟩
end
section
variable {P:Yd} {K:K3} {h:AH} {n:Nat}
theorem kpv {env env':Env} (pl:Ya (Nat×Nat)):∀ (m:Ya (Nat×Yf)) (cs:Ya AV),(∀ p∈m,ev env p.2=ev env' p.2)->fillS pl env m cs=fillS pl env' m cs
 | [],cs,_=>rfl
 | (i,x)::rest,cs,hp=>by
  have y:ev env x=ev env' x:=hp (i,x) (by simp);have u:=λcs=>kpv pl rest cs (λp t=>hp p (by simp [t]));unfold fillS;rw [y];split
  ·split
   ·exact u _
   ·rfl
  ·rfl
theorem kpG {env env':Env} (k:Nat):∀ (m:Ya (Nat×Yf)) (es:Ya (Ya AV)),(∀ p∈m,ev env p.2=ev env' p.2)->fillE k env m es=fillE k env' m es
 | [],es,_=>rfl
 | (i,x)::rest,es,hp=>by
  have y:ev env x=ev env' x:=hp (i,x) (by simp);have u:=λes=>kpG k rest es (λp t=>hp p (by simp [t]));unfold fillE;rw [y];split
  ·split
   ·exact u _
   ·rfl
  ·rfl
theorem ksJ {env env':Env} {b:Builtin} {args:Array Yf} {ts:Array Yc} (i:∀ x∈args.toList,ev env x=ev env' x):kai P env h n b args ts K=kai P env' h n b args ts K:=by
 unfold kai;split
 ·rename_i m _; rw [m] at i; rw [i _ (by simp)]
 ·rename_i m _; rw [m] at i; rw [i _ (by simp),i _ (by simp)]
 ·rename_i m _; rw [m] at i; rw [i _ (by simp),i _ (by simp)]
 ·rename_i m; rw [m] at i; rw [i _ (by simp),i _ (by simp)]
 ·rename_i m; rw [m] at i; rw [i _ (by simp),i _ (by simp)]
 ·rename_i m; rw [m] at i; rw [i _ (by simp),i _ (by simp),i _ (by simp)]
 ·rename_i m; rw [m] at i; rw [i _ (by simp),i _ (by simp),i _ (by simp)]
 ·rfl
theorem ksO {o:Oper} {env env':Env} (H:∀ x∈o.op.operands.toList,ev env x=ev env' x):aop P env h n o K=aop P env' h n o K:=by
 obtain ⟨dst,op,ty,pos,after,I⟩:=o;simp only at H;cases op with
 | build T i=>
  have:∀ cs pl,fillS pl env i.toList cs=fillS pl env' i.toList cs:=λcs pl=>kpv pl _ _ (λp hp=>H p.2 (by simp only [Op.operands]; simpa using ⟨p.1,by simpa using hp⟩));simp only [aop,this]
 | buildSlice T len i=>
  have:∀ k es,fillE k env i.toList es=fillE k env' i.toList es:=λk es=>kpG k _ _ (λp hp=>H p.2 (by simp only [Op.operands]; simpa using ⟨p.1,by simpa using hp⟩));simp only [aop,this]
 | makeFunc f first t=>
  have:t.toList.map (ev env)=t.toList.map (ev env'):=List.map_congr_left λx u=>H x (by simp only [Op.operands]; simp; exact .inr (by simpa using u));cases f <;> simp only [aop,this]
 | call c=>
  obtain ⟨callee,args,ts⟩:=c;cases callee with
  | builtin b=>
   simp only [aop];exact ksJ λx u=>H x (by simp only [Op.operands,Call.operands]; simpa using u)
  | value f=>
   have z:ev env f=ev env' f:=H f (by simp [Op.operands,Call.operands]);have h2:args.toList.map (ev env)=args.toList.map (ev env'):=List.map_congr_left λx u=>H x (by simp only [Op.operands,Call.operands]; simp; exact .inr (by simpa using u));simp only [aop,z,h2]
  | invoke r m=>rfl
 | slice T x lo hi mx=>
  have z:ev env x=ev env' x:=H x (by simp [Op.operands]);have h2:lo.map (ev env)=lo.map (ev env'):=by
   cases lo with
   | none=>rfl
   | some y=>simp only [jck]; rw [H y (by simp [Op.operands])]
  have J:hi.map (ev env)=hi.map (ev env'):=by
   cases hi with
   | none=>rfl
   | some y=>simp only [jck]; rw [H y (by simp [Op.operands])]
  cases mx <;> simp only [aop,z,h2,J]
 | makeMap T r=>cases r <;> rfl
 | next x b=>
  have z:ev env x=ev env' x:=H x (by simp [Op.operands]);cases b <;> simp only [aop,z]
 | _=>simp [Op.operands] at H <;> simp only [aop,H]
inductive Anc (l:List Oper):Nat->Nat->Prop
 | one {i j:Nat} {o:Oper} {e:Edge} (ho:l[j]?=some o) (he:e∈o.after) (hb:Region.binds .any e=true) (hi:e.on=i):Anc l i j
 | step {i k j:Nat} {o:Oper} {e:Edge} (h:Anc l i k) (ho:l[j]?=some o) (he:e∈o.after) (hb:Region.binds .any e=true) (hi:e.on=k):Anc l i j
def koR (i:Ya Nat) (o:Oper):Nat:=(o.after.toList.filter (Region.binds .any)).foldr (λe m=>(1 <<< e.on) ||| (i.getD e.on 0 ||| m)) 0
def ancGo:Ya Nat->Ya Oper->Ya Nat
 | acc,[]=>acc
 | acc,o::r=>ancGo (acc++[koR acc o]) r
def ancOf (l:Ya Oper):Ya (Ya Nat):=(ancGo [] l).map λm=>(List.range l.length).filter λi=>m.testBit i
theorem kwt {t:Ya Nat} {o:Oper} {i:Nat} (h:(koR t o).testBit i=true):∃ e∈o.after,Region.binds .any e=true/\(e.on=i\/(t.getD e.on 0).testBit i=true):=by
 unfold koR at h;have:∀ (l:Ya Edge),(∀ e∈l,e∈o.after/\Region.binds .any e=true)->(l.foldr (λe m=>(1 <<< e.on) ||| (t.getD e.on 0 ||| m)) 0).testBit i=true->∃ e∈o.after,Region.binds .any e=true/\(e.on=i\/(t.getD e.on 0).testBit i=true):=by
  intro l;induction l with
  | nil=>intro _ h; simp at h
  | cons e l z=>
   intro hl h;rw [List.foldr_cons,Nat.testBit_or,Nat.testBit_or,Nat.one_shiftLeft,Nat.testBit_two_pow,jat,jat,jaj] at h;obtain ⟨y,h2⟩:=hl e (jcs ..);rcases h with h | h | h
   ·exact ⟨e,y,h2,.inl h⟩
   ·exact ⟨e,y,h2,.inr h⟩
   ·exact z (λe u=>hl e (jax _ u)) h
 exact this _ (λe u=>by simpa [jeb] using u) h
theorem krh (l:Ya Oper):∀ (r:Ya Oper) (m:Ya Nat),(∀ j,r[j]?=l[m.length+j]?)->(∀ j i,(m.getD j 0).testBit i=true->Anc l i j)->∀ j i,((ancGo m r).getD j 0).testBit i=true->Anc l i j
 | [],m,_,ha=>ha
 | o::r,m,hr,ha=>by
  refine krh l r (m++[koR m o]) (λj=>by have:=hr (j+1); simp at this ⊢; rw [this]; congr 1; omega) ?_;intro j i hi;rw [jba,jbm] at hi;split at hi
  ·exact ha j i (by rw [jba]; exact hi)
  ·rename_i t;have y:l[m.length]?=some o:=by have:=hr 0; simpa using this.symm
   rcases Nat.eq_or_lt_of_le (Nat.le_of_not_lt t) with e | I
   ·subst e;simp only [Nat.sub_self,jdd,jcb] at hi;obtain ⟨e,u,z,hi⟩:=kwt hi;rcases hi with rfl | hi
    ·exact .one y u z rfl
    ·exact .step (ha _ _ hi) y u z rfl
   ·have:([koR m o]:Ya Nat)[j-m.length]?=none:=jch (by simp; omega);rw [this] at hi;simp at hi
theorem kit {l:Ya Oper} {i j:Nat} (h:i∈(ancOf l).getD j []):Anc l i j:=by
 unfold ancOf at h;rw [jba,jas] at h;cases t:(ancGo [] l)[j]? with
 | none=>rw [t] at h; simp at h
 | some m=>
  rw [t] at h;simp only [jck,jcb,jeb] at h;exact krh l l [] (λj=>by simp) (λj i hi=>by simp at hi) j i (by rw [jba,t]; exact h.2)
def Closed (l:Ya Oper) (S:Nat->Prop):Prop:=∀ j o,l[j]?=some o->S j->∀ e∈o.after,Region.binds .any e=true->S e.on
theorem Closed.anc {l:Ya Oper} {S:Nat->Prop} (U:Closed l S) {i j:Nat} (h:Anc l i j):(∀ o,l[j]?=some o->∀ e∈o.after,Region.binds .any e=true->S e.on)->S i:=by
 induction h with
 | one m y J hi=>intro u; rw [<-hi]; exact u _ m _ y J
 | step _ m y J hi X=>intro u; exact X λY t e' I z=>U _ Y t (hi ▸ u _ m _ y J) e' I z
def kjo (o:Oper) (ds:Ya (Yb Tmp)):Ya Tmp:=
 o.op.operands.toList.filterMap (fun | .tmp t=>some t | _=>none)++(match o.guard with | some (j,_)=>(kbz ds j).toList | none=>[])
def kdz (l:Ya Oper):Bool:=
 let ds:=l.map (·.dst)
 let anc:=ancOf l
 (l.zipIdx.all λ(o,j)=>o.after.all (λe=>!Region.binds .any e||decide (e.on<j)) &&
  (match o.dst with | some d=>(ds.zipIdx.all λ(m,i)=>i==j||m != some d) | none=>true) &&
  (kjo o ds).all λt=>ds.zipIdx.all λ(d,i)=>d != some t||(decide (i<j)&&(anc.getD j []).contains i)||(decide (j<i)&&(anc.getD i []).contains j))
theorem kbV {l:Ya Oper} (z:kdz l=true) :
  (∀ (j:Nat) (o:Oper),l[j]?=some o->∀ e∈o.after,Region.binds .any e=true->e.on<j)/\
  (∀ (i j:Nat) (y I:Oper) (d:Nat),l[i]?=some y->l[j]?=some I->y.dst=some d->I.dst=some d->i=j)/\
  (∀ (j:Nat) (o:Oper) (t i:Nat) (y:Oper),l[j]?=some o->t∈kjo o (l.map (·.dst))->l[i]?=some y->y.dst=some t->(i<j/\Anc l i j)\/(j<i/\Anc l j i)):=by
 simp only [kdz,jam,Prod.forall,jac] at z;have mem:∀ {α:Type} {m:Ya α} {j:Nat} {x:α},m[j]?=some x->(x,j)∈m.zipIdx:=λh=>jdt.2 (by simpa using h);refine ⟨λj o J e Z hb=>?_,λi j y I d hi Y u U=>?_,λj o t i y J ht hi u=>?_⟩
 ·have:=((z o j (mem J)).1).1;simp only [jce] at this;have:=this e Z;simpa [hb] using this
 ·have:=((z I j (mem Y)).1).2;rw [U] at this;simp only [jam,Prod.forall] at this;have:=this (some d) i (mem (by simp [hi,u]));simpa using this
 ·have:=(z o j (mem J)).2 t ht (some t) i (mem (by simp [hi,u]));simp only [bne_self_eq_false,jcn,jat,jac,jaj,jbu] at this;rcases this with ⟨X,h2⟩ | ⟨X,h2⟩
  ·exact .inl ⟨X,kit h2⟩
  ·exact .inr ⟨X,kit h2⟩
section
variable {l:Ya Oper} {st:St} {E:Nat->Env} {V:Nat->AV} {A W:Nat->Bool} {H:Nat->AH} {M:Nat->Nat} {N:Nat} {D:DX} {O:Nat->Prop}
structure At (P:Program) (l:List Oper) (st:St) (V:Nat->AV) (S:Nat->Prop) (env:Env):Prop where
 old:∀ s,(∀ i oi,S i->l[i]?=some oi->oi.dst≠some s)->lk env s=lk st.env s
 new:∀ s i oi,S i->l[i]?=some oi->oi.dst=some s->lk env s=V i
theorem klO {o:Oper} {ds:Ya (Yb Tmp)} {m:Nat} {i:Bool} {d:Nat} (t:o.guard=some (m,i)) (u:kbz ds m=some d):d∈kjo o ds:=by
 simp [kjo,t,u]
theorem kpO {o:Oper} {ds:Ya (Yb Tmp)} {t:Nat} (i:Operand.tmp t∈o.op.operands.toList):t∈kjo o ds:=by
 simp only [kjo,jaw,jci];exact .inl ⟨_,i,rfl⟩
end
end
def isW (wc:Ya Nat) (j:Nat) (o:Oper):Bool:=
 match o.op with
 | .alloc _ | .box _ _ | .store _ _ _ | .makeSlice _ _ _ | .makeMap _ _ | .mapUpdate _ _ _ _ | .insert _ _ _ _ | .mapEntry _ _ _ | .entryStore _ _ _ _ | .range _ _ | .next _ _=>true
 | .call { callee:=.builtin .append,.. } | .call { callee:=.builtin .copy,.. } | .call { callee:=.builtin .delete,.. }=>true
 | .call { callee:=.value _,.. }=>wc.contains j
 | .buildSlice _ _ _=>wc.contains j
 | .lookup _ _ _ _=>wc.contains j
 | _=>false
structure Rec where
 j:Nat
 o:Oper
 env:Env
 v:AV
 h:AH
 n:Nat
 h':AH
 n':Nat
def wants (rd:Ya (Nat×Nat)) (j:Nat):Bool:=rd.any λp=>p.1==j||p.2==j
def recOf (tr:Ya Rec) (j:Nat):Yb Rec:=tr.find? λr=>r.j==j
def koX (P:Yd) (tr:Ya Rec):Ya (Nat×Nat)->Prop
 | []=>True
 | (x,w)::rest=>(match recOf tr x,recOf tr w with
  | some a,some b=>if w<x then aop P a.env b.h b.n a.o (λv h n=>v=a.v/\h=b.h/\n=b.n) else aop P a.env b.h' b.n' a.o (λv h n=>v=a.v/\h=b.h'/\n=b.n')
  | _,_=>True)/\koX P tr rest
def callD (A B:AV->Prop):Prop:=∃ v,A v/\B v
def kju (o:Oper):Bool:=
 match o.op with
 | .call { callee:=.value _,.. }=>true
 | _=>false
def stepD (P:Yd) (wc:Ya Nat) (rd:Ya (Nat×Nat)) (o:Oper) (j:Nat) (env:Env) (h:AH) (n:Nat) (tr:Ya Rec) (next:St->Ya Rec->Prop):Prop:=
 if isW wc j o then ∃ v h' n',aop P env h n o (λa b c=>a=v/\b=h'/\c=n')/\next ⟨putE env o.dst v,h',n'⟩ (if wants rd j then ⟨j,o,env,v,h,n,h',n'⟩::tr else tr)
 else if kju o then callD (λv=>aop P env h n o (λa b c=>a=v/\b=h/\c=n)) λv=>next ⟨putE env o.dst v,h,n⟩ (if wants rd j then ⟨j,o,env,v,h,n,h,n⟩::tr else tr)
 else ∃ v,aop P env h n o (λa b c=>a=v/\b=h/\c=n)/\next ⟨putE env o.dst v,h,n⟩ (if wants rd j then ⟨j,o,env,v,h,n,h,n⟩::tr else tr)
def aopsD (P:Yd) (ds:Ya (Yb Tmp)) (wc:Ya Nat) (rd:Ya (Nat×Nat)):Ya Oper->Nat->St->Ya Rec->(St->Prop)->Prop
 | [],_,st,tr,K=>koX P tr rd/\K st
 | o::r,j,st,tr,K=>
  match o.guard with
  | none=>stepD P wc rd o j st.env st.h st.n tr λs t=>aopsD P ds wc rd r (j+1) s t K
  | some (g,want)=>match kbz ds g with
   | some d=>match lk st.env d with
    | .sc (.bool b)=>(b=want->stepD P wc rd o j ((d,.sc (.bool want))::st.env) st.h st.n tr λs t=>aopsD P ds wc rd r (j+1) s t K)/\
      (b = !want->aopsD P ds wc rd r (j+1) ⟨putE ((d,.sc (.bool (!want)))::st.env) o.dst .ud,st.h,st.n⟩ tr K)
    | .ud=>aopsD P ds wc rd r (j+1) ⟨putE st.env o.dst .ud,st.h,st.n⟩ tr K
    | _=>False
   | none=>False
section
variable {P:Yd} {l:Ya Oper} {wc:Ya Nat} {rd:Ya (Nat×Nat)}
theorem kuG {env env':Env} (h:∀ s,lk env s=lk env' s) (d:Yb Tmp) (v:AV):∀ s,lk (putE env d v) s=lk (putE env' d v) s:=by
 intro s;cases d with
 | none=>exact h s
 | some d=>simp only [putE,lk,h s]
theorem kvo {env:Env} {d:Nat} {v:AV} (h:lk env d=v):∀ s,lk ((d,v)::env) s=lk env s:=by
 intro s;simp only [lk];split
 ·rename_i e; rw [e,h]
 ·rfl
end
abbrev int (n:Int):AV:=.sc (.int .i64 n)
abbrev bool (b:Bool):AV:=.sc (.bool b)
abbrev u8 (n:Int):AV:=.sc (.int .u8 n)
abbrev nilS:AV:=.sc (.slice none 0 0)
theorem kuR:∃ f:Yd->Ya (Yb Tmp)->Ya Oper->St->(St->Prop)->Prop,f=aops:=⟨aops,rfl⟩
noncomputable def aopsS:=Classical.choose kuR
theorem kue:aopsS=aops:=Classical.choose_spec kuR
theorem kya (P:Yd) (ds:Ya (Yb Tmp)) (st:St) (K:St->Prop):aopsS P ds [] st K=K st:=by rw [kue]; rfl
theorem kmO (P:Yd) (ds:Ya (Yb Tmp)) (o:Oper) (r:Ya Oper) (st:St) (K:St->Prop):aopsS P ds (o::r) st K=(match o.guard with
  | none=>aop P st.env st.h st.n o (λv h n=>aopsS P ds r ⟨putE st.env o.dst v,h,n⟩ K)
  | some (j,want)=>match kbz ds j with
   | some d=>match lk st.env d with
    | .sc (.bool b)=>(b=want->aop P ((d,.sc (.bool want))::st.env) st.h st.n o (λv h n=>aopsS P ds r ⟨putE ((d,.sc (.bool want))::st.env) o.dst v,h,n⟩ K))/\
      (b = !want->aopsS P ds r ⟨putE ((d,.sc (.bool (!want)))::st.env) o.dst .ud,st.h,st.n⟩ K)
    | .ud=>aopsS P ds r ⟨putE st.env o.dst .ud,st.h,st.n⟩ K
    | _=>False
   | none=>False):=by rw [kue]; rfl
section
variable {P:Yd} {ds:Ya (Yb Tmp)} {r:Ya Oper} {env:Env} {h:AH} {n:Nat} {K:St->Prop} {d:Tmp} {op:Op} {ty:Yc} {pos:String} {after:Array Edge}
theorem kxS (m:∀ i:K3,(∀ v h' n',aopsS P ds r ⟨(d,v)::env,h',n'⟩ K->i v h' n')->aop P env h n ⟨some d,op,ty,pos,after,none⟩ i):aopsS P ds (⟨some d,op,ty,pos,after,none⟩::r) ⟨env,h,n⟩ K:=by
 rw [kmO]; exact m _ λ_ _ _ h=>h
theorem kwi (m:∀ i:K3,(∀ v h' n',aopsS P ds r ⟨env,h',n'⟩ K->i v h' n')->aop P env h n ⟨none,op,ty,pos,after,none⟩ i):aopsS P ds (⟨none,op,ty,pos,after,none⟩::r) ⟨env,h,n⟩ K:=by
 rw [kmO]; exact m _ λ_ _ _ h=>h
end
theorem ksQ:∃ f:Yd->Ya (Yb Tmp)->Ya Nat->Ya (Nat×Nat)->Ya Oper->Nat->St->Ya Rec->(St->Prop)->Prop,f=aopsD:=⟨aopsD,rfl⟩
noncomputable def kkT:=Classical.choose ksQ
theorem ktj:kkT=aopsD:=Classical.choose_spec ksQ
theorem kxM (P:Yd) (ds:Ya (Yb Tmp)) (wc:Ya Nat) (rd:Ya (Nat×Nat)) (j:Nat) (st:St) (tr:Ya Rec) (K:St->Prop):kkT P ds wc rd [] j st tr K=(koX P tr rd/\K st):=by rw [ktj]; rfl
theorem kvZ (P:Yd) (ds:Ya (Yb Tmp)) (wc:Ya Nat) (rd:Ya (Nat×Nat)) (o:Oper) (r:Ya Oper) (j:Nat) (st:St) (tr:Ya Rec) (K:St->Prop):kkT P ds wc rd (o::r) j st tr K=(match o.guard with
  | none=>stepD P wc rd o j st.env st.h st.n tr λs t=>kkT P ds wc rd r (j+1) s t K
  | some (g,want)=>match kbz ds g with
   | some d=>match lk st.env d with
    | .sc (.bool b)=>(b=want->stepD P wc rd o j ((d,.sc (.bool want))::st.env) st.h st.n tr λs t=>kkT P ds wc rd r (j+1) s t K)/\
      (b = !want->kkT P ds wc rd r (j+1) ⟨putE ((d,.sc (.bool (!want)))::st.env) o.dst .ud,st.h,st.n⟩ tr K)
    | .ud=>kkT P ds wc rd r (j+1) ⟨putE st.env o.dst .ud,st.h,st.n⟩ tr K
    | _=>False
   | none=>False):=by rw [ktj]; rfl
section
variable {P:Yd} {ds:Ya (Yb Tmp)} {wc:Ya Nat} {r:Ya Oper} {j:Nat} {env:Env} {h:AH} {n:Nat} {tr:Ya Rec} {K:St->Prop} {d:Tmp} {op:Op} {ty:Yc} {pos:String} {after:Array Edge}
end
section
variable {P:Yd} {N:Nat} {D:DX} {O:Nat->Prop} {Q:Exit->St->Prop} {st:St}
def SatL (P:Yd) (N:Nat) (D:DX) (O:Nat->Prop):Ya Code->(Exit->St->Prop)->St->Prop
 | [],Q,st=>Q .normal st
 | c::cs,Q,st=>Sat P N D O c (thenQ (SatL P N D O cs Q) Q) st
theorem Sat.ofL {c:Code} (h:SatL P N D O [c] Q st):Sat P N D O c Q st:=Sat.mono h λe s i=>by cases e <;> exact i
theorem SatL.ofS {c:Code} (h:Sat P N D O c Q st):SatL P N D O [c] Q st:=Sat.mono h λe s i=>by cases e <;> exact i
theorem SatL.mono {cs:Ya Code} {Q':Exit->St->Prop} (i:∀ e s,Q e s->Q' e s):∀ {cs:Ya Code} {st:St},SatL P N D O cs Q st->SatL P N D O cs Q' st
 | [],st,h=>i _ _ h
 | c::cs,st,h=>Sat.mono h λe s m=>by cases e <;> first | exact SatL.mono (cs:=cs) i m | exact i _ _ m
theorem SatL.nil (h:Q .normal st):SatL P N D O [] Q st:=h
theorem SatL.seq {x y:Code} {cs:Ya Code} (h:SatL P N D O (x::y::cs) Q st):SatL P N D O (.seq x y::cs) Q st:=
 Sat.seq (Sat.mono h λe s i=>by cases e <;> exact i)
theorem SatL.skip {cs:Ya Code} (h:SatL P N D O cs Q st):SatL P N D O (.skip::cs) Q st:=Sat.skip h
theorem SatL.exit {id:Nat} {cs:Ya Code} (h:Q (.exit id) st):SatL P N D O (.exit id::cs) Q st:=Sat.exit h
theorem SatL.ret {cs:Ya Code} (h:Q .ret st):SatL P N D O (.ret::cs) Q st:=Sat.ret h
theorem SatL.cond {c:Yf} {x y:Code} {cs:Ya Code} (b:Bool) (i:ev st.env c = .sc (.bool b)) (t:b=true->SatL P N D O (x::cs) Q st) (m:b=false->SatL P N D O (y::cs) Q st) :
  SatL P N D O (.cond c x y::cs) Q st:=Sat.cond i t m
theorem SatL.block {id:Nat} {c:Code} {cs:Ya Code} (h:SatL P N D O [c] (kfZ id (thenQ (SatL P N D O cs Q) Q)) st):SatL P N D O (.block id c::cs) Q st:=Sat.block (Sat.ofL h)
theorem thenN {K:St->Prop} (h:K st):thenQ K Q .normal st:=h
theorem klH {id:Nat} (h:Q .normal st):kfZ id Q (.exit id) st:=by simp only [kfZ,if_true]; exact h
theorem kAO (n:Int) (i:-9223372036854775808<=n) (h2:n<=9223372036854775807):IntKind.i64.wrap n=n:=IntWalk.i64_in n ⟨i,h2⟩
end
attribute [simp↓] kya kmO kxM kvZ
attribute [simp] kju khR kkr kbu keyA keyB keyB1 findA AV.one AV.vl Value.oneCell' putAt kfZ stepD isW wants koX recOf putE cst ev kbz thenQ keep abinI abin unK loadK partK kfp kce loA hiA lenK isCells kcV idxK kcd liveA convK kai callK kaI deref kcf srcA kBk kcE kbm fillE fillS updH delH
def FreeL (l:Ya AV):Prop:=∀ c∈l,Free c
@[simp] theorem kgm:FreeL []↔True:=by simp [FreeL]
@[simp] theorem kbW (a:AV) (l:List AV):FreeL (a::l)↔Free a/\FreeL l:=by simp [FreeL]
@[simp] theorem ktU (a l:List AV):FreeL (a++l)↔FreeL a/\FreeL l:=by
 simp only [FreeL,jaw];exact ⟨λh=>⟨λc i=>h c (.inl i),λc i=>h c (.inr i)⟩,λh c i=>i.elim (h.1 c) (h.2 c)⟩
theorem FreeL.at {l:Ya AV} (h:FreeL l) (j:Nat) (c:AV) (i:l[j]?=some c):Free c:=h c (jak i)
theorem FreeL.of_at {l:Ya AV} (h:∀ (j:Nat) (c:AV),l[j]?=some c->Free c):FreeL l:=λc i=>by
 obtain ⟨j,m,e⟩:=jdv.1 i;exact h j c (by rw [jae m,e])
@[simp] theorem ksh (v:Value):Free (.sc v)↔True:=⟨λ_=>trivial,λ_=>.sc v⟩
@[simp] theorem kiW (cs:List AV):Free (.fp cs)↔FreeL cs:=⟨λh=>by cases h with | fp _ h=>exact FreeL.of_at h,λh=>.fp cs h.at⟩
@[simp] theorem koV (cs:List AV):Free (.ag cs)↔FreeL cs:=⟨λh=>by cases h with | ag _ h=>exact FreeL.of_at h,λh=>.ag cs h.at⟩
@[simp] theorem kwz (cs:List AV):Free (.tp cs)↔FreeL cs:=⟨λh=>by cases h with | tp _ h=>exact FreeL.of_at h,λh=>.tp cs h.at⟩
@[simp] theorem khT (f:FuncId) (cs:List AV):Free (.fn f cs)↔FreeL cs:=⟨λh=>by cases h with | fn _ _ h=>exact FreeL.of_at h,λh=>.fn f cs h.at⟩
@[simp] theorem koZ (es:List (List AV)):Free (.sl es)↔∀ e∈es,FreeL e:=by
 refine ⟨λh=>?_,λh=>.sl es λi e hi=>(h e (jak hi)).at⟩;cases h with
 | sl _ h=>
  intro e m;obtain ⟨j,t,u⟩:=jdv.1 m;exact FreeL.of_at (h j e (by rw [jae t,u]))
section
variable {P:Yd}
theorem PC.call {f:FuncId} {args:Ya AV} {R:AV->Prop} {h:AH} {n:Nat} {K:K3} (i:PC P f args R) (m:FreeL args) (t:∀ v,R v->K v h n):HC P f args h n K:=
 (i.free m.at h n).mono λ_ _ _ ⟨y,h2,u⟩=>h2 ▸ u ▸ t _ y
theorem PC.call1 {f:FuncId} {args:Ya AV} {r:AV} {h:AH} {n:Nat} {K:K3} (i:PC P f args (·= r)) (m:FreeL args) (t:K r h n):HC P f args h n K:=
 i.call m λ_ e=>e ▸ t
theorem PC.of_body {f:FuncId} {fn:Func} {c:Code} {args:Ya AV} {R:AV->Prop} (y:P.funcs[f]?=some fn) (z:fn.body=some c) (m:(fn.name== "runtime.NumGoroutine")=false) (i:args.length<=fn.ntmps)
  (t:∀ (D:DX) (O:Nat->Prop),D.it=none->SatL P fn.ntmps D O [c] (fnQ P fn.results.toList (λv h _=>∃ u,Snap h v u/\R u)) ⟨kar args,ah0,0⟩):PC P f args R:=
 PC.of_HC (HC.of_body y z m i λD O hD=>Sat.ofL (t D O hD))
end
inductive SnapL (h:AH):List AV->List AV->Prop
 | nil:SnapL h [] []
 | cons {a a':AV} {l l':List AV} (h1:Snap h a a') (h2:SnapL h l l'):SnapL h (a::l) (a'::l')
theorem SnapL.len {h:AH} {l l':Ya AV} (i:SnapL h l l'):l'.length=l.length:=by induction i <;> simp [*]
theorem SnapL.at {h:AH} {l l':Ya AV} (t:SnapL h l l'):∀ (j:Nat) (c c':AV),l[j]?=some c->l'[j]?=some c'->Snap h c c':=by
 induction t with
 | nil=>intro j c c' m; simp at m
 | cons y h2 u=>
  intro j c c' m i;cases j with
  | zero=>simp at m i; subst m; subst i; exact y
  | succ j=>exact u j c c' (by simpa using m) (by simpa using i)
theorem SnapL.free {h:AH}:∀ {l:Ya AV},FreeL l->SnapL h l l
 | [],_=>.nil
 | a::l,hf=>.cons (.free a ((kbW a l).1 hf).1) (SnapL.free ((kbW a l).1 hf).2)
theorem Snap.fnL {h:AH} {f:FuncId} {cs i:Ya AV} (m:SnapL h cs i):Snap h (.fn f cs) (.fn f i):=.fn f cs i m.len m.at
theorem Snap.agL {h:AH} {cs i:Ya AV} (m:SnapL h cs i):Snap h (.ag cs) (.ag i):=.ag cs i m.len m.at
theorem Snap.fpL {h:AH} {cs i:Ya AV} (m:SnapL h cs i):Snap h (.fp cs) (.fp i):=.fp cs i m.len m.at
def FlatL (l:Ya AV):Prop:=∀ c∈l,Flat c
theorem FlatL.at {l:Ya AV} (h:FlatL l) (j:Nat) (c:AV) (i:l[j]?=some c):Flat c:=h c (jak i)
@[simp] theorem kAn (cs:List AV):Flat (.ag cs)↔FlatL cs:=⟨λh=>by
 cases h with
 | ag _ h=>
  intro c i;obtain ⟨j,m,e⟩:=jdv.1 i;exact h j c (by rw [jae m,e]),λh=>.ag cs h.at⟩
@[simp] theorem kAi (cs:List AV):Flat (.tp cs)↔FlatL cs:=⟨λh=>by
 cases h with
 | tp _ h=>
  intro c i;obtain ⟨j,m,e⟩:=jdv.1 i;exact h j c (by rw [jae m,e]),λh=>.tp cs h.at⟩
section
variable {P:Yd}
theorem PC.lend {f:FuncId} {args i:Ya AV} {R:AV->Prop} {h:AH} {n:Nat} {K:K3} (m:SnapL h args i) (t:PC P f i R) (u:∀ v,R v->Flat v) (y:∀ v,R v->K v h n):HC P f args h n K:=
 (t.lent h n m.len m.at u).mono λ_ _ _ ⟨I,h2,z⟩=>h2 ▸ z ▸ y _ I
theorem PC.lend1 {f:FuncId} {args i:Ya AV} {r:AV} {h:AH} {n:Nat} {K:K3} (m:SnapL h args i) (t:PC P f i (·= r)) (u:Flat r) (y:K r h n):HC P f args h n K:=
 t.lend m (λ_ e=>e ▸ u) λ_ e=>e ▸ y
end
attribute [simp] aop
def w64 (x:Int):Int:=IntKind.i64.wrap x
theorem kbo {x:Int} (i:-9223372036854775808<=x) (h2:x<=9223372036854775807):w64 x=x:=kAO x i h2
def gi {α:Type} (l:Ya α) (i:Int):Yb α:=if 0<=i then l[i.toNat]? else none
theorem klU {α:Type} {l:Ya α} {i:Int} {y:α} (h:gi l i=some y):0<=i/\l[i.toNat]?=some y:=by
 unfold gi at h;split at h
 ·exact ⟨by assumption,h⟩
 ·cases h
@[simp] theorem kkA {α:Type} (l:List α) (i:Nat):gi l (i:Int)=l[i]?:=by simp [gi]
def gs {α:Type} (l:Ya α) (i:Int) (x:α):Yb (Ya α):=if 0<=i/\i.toNat<l.length then some (l.set i.toNat x) else none
def gapp {α:Type} (l xs:Ya α):Yb (Ya α):=if l.length+xs.length<=1048576 then some (l++xs) else none
theorem kiQ {α:Type} {l xs l':Ya α} (h:gapp l xs=some l'):l.length+xs.length<=1048576/\l'=l++xs:=by
 unfold gapp at h;split at h
 ·cases h; exact ⟨by assumption,rfl⟩
 ·cases h
def gmk {α:Type} (n:Int) (z:α):Yb (Ya α):=if 0<=n/\n<=1048576 then some (List.replicate n.toNat z) else none
theorem kxj {α:Type} {n:Int} {z:α} {l':Ya α} (h:gmk n z=some l'):0<=n/\n<=1048576/\l'=List.replicate n.toNat z:=by
 unfold gmk at h;split at h
 ·rename_i i; cases h; exact ⟨i.1,i.2,rfl⟩
 ·cases h
def gsl {α:Type} (l:Ya α) (lo hi:Int):Yb (Ya α):=if 0<=lo/\lo<=hi/\hi<=l.length then some ((l.take hi.toNat).drop lo.toNat) else none
theorem krT {α:Type} {l l':Ya α} {lo hi:Int} (h:gsl l lo hi=some l'):0<=lo/\lo<=hi/\hi<=l.length/\l'=(l.take hi.toNat).drop lo.toNat:=by
 unfold gsl at h;split at h
 ·rename_i i; cases h; exact ⟨i.1,i.2.1,i.2.2,rfl⟩
 ·cases h
def hl:Ya (Nat×Yb ABlk)->AH
 | [],_=>none
 | (i,B)::l,j=>if j=i then B else hl l j
section
variable {P:Yd} {env:Env} {h:AH} {L L':Ya (Nat×Yb ABlk)} {n:Nat} {K:K3} {d:Yb Tmp} {ty:Yc} {pos:String} {after:Array Edge} {g:Yb (Nat×Bool)}
section
variable {T:Yc} {k:IntKind} {a b:Int} {F:AV->Prop}
end
theorem s_ext {x:Yf} {i:Nat} {cs:Ya AV} {c:AV} (t:ev env x = .tp cs) (m:cs[i]?=some c) (u:K c h n):aop P env h n ⟨d,.extract x i,ty,pos,after,g⟩ K:=by simp only [aop,t]; exact ⟨c,m,u⟩
theorem kwB {T:Yc} {i:Array (Nat×Yf)} {z cs:Ya AV} {pl:Ya (Nat×Nat)} (hz:zeroO P T=some z) (hp:kkn P T=some pl) (m:fillS pl env i.toList z=some cs) (t:K (.ag cs) h n):aop P env h n ⟨d,.build T i,ty,pos,after,g⟩ K:=by
 simp only [aop,hz,hp,m]; exact t
theorem kic {c:Call} {f:Yf} {gg:FuncId} {i avs:Ya AV} (m:c.callee = .value f) (u:ev env f = .fn gg i) (t:c.args.toList.map (ev env)++i=avs) (y:HC P gg avs h n K):aop P env h n ⟨d,.call c,ty,pos,after,g⟩ K:=by
 obtain ⟨callee,args,ts⟩:=c;simp only at m t;subst m;simp only [aop,callK,u];rw [t]; exact y
end
section
variable {P:Yd} {env:Env} {h:AH} {L L':Ya (Nat×Yb ABlk)} {n:Nat} {K:K3} {d:Yb Tmp} {ty:Yc} {pos:String} {after:Array Edge} {g:Yb (Nat×Bool)}
theorem kAk {T:Yc} {x i:Yf} {k:IntKind} {l:Ya UInt8} {j:Int} {y:UInt8} (hT:P.underlying T=some .string) (z:ev env x = .sc (.string ⟨l.toArray⟩)) (hi:ev env i = .sc (.int k j)) (m:gi l j=some y)
  (J:K (.sc (.int .u8 (y.toNat:Int))) h n):aop P env h n ⟨d,.index T x i,ty,pos,after,g⟩ K:=by
 obtain ⟨g0,g1⟩:=klU m;have u:=(jaf.1 g1);simp only [aop,z,hi,idxK];refine ⟨hT,g0,y,?_,J⟩;obtain ⟨I,h2⟩:=u;have t:j.toNat<(⟨l.toArray⟩:ByteArray).size:=by simpa [ByteArray.size] using I
 rw [getElem?_pos (⟨l.toArray⟩:ByteArray) j.toNat t];exact congrArg some h2
theorem kzD {T:Yc} {x:Yf} {l:Ya UInt8} (hT:P.underlying T=some .string) (i:ev env x = .sc (.string ⟨l.toArray⟩)) (m:K (.sc (.int .i64 l.length)) h n):aop P env h n ⟨d,.call ⟨.builtin .len,#[x],#[T]⟩,ty,pos,after,g⟩ K:=by
 simp only [aop,kai,i,lenK]; exact ⟨hT,by simpa [ByteArray.size] using m⟩
end
def mget {κ β:Type} [DecidableEq κ]:Ya (κ×β)->κ->Yb β
 | [],_=>none
 | p::r,k=>if k=p.1 then some p.2 else mget r k
def mput {κ β:Type} [DecidableEq κ]:Ya (κ×β)->κ->β->Ya (κ×β)
 | [],k,v=>[(k,v)]
 | p::r,k,v=>if k=p.1 then (k,v)::r else p::mput r k v
abbrev kvE {κ β:Type} (i:κ->Value) (vf:β->AV) (p:κ×β):Value×AV:=(i p.1,vf p.2)
abbrev ki (n:Int):Value:=.int .i64 n
abbrev ks (l:List UInt8):Value:=.string ⟨l.toArray⟩
theorem kBo (a b:Ya UInt8):((⟨a.toArray⟩:ByteArray)==⟨b.toArray⟩)=decide (a=b):=by
 show (a.toArray==b.toArray)=decide (a=b);by_cases h:a=b <;> simp [h]
theorem kyz (a b:Ya UInt8):keyB (ks a) (ks b)=decide (a=b):=kBo a b
theorem kti {κ β:Type} [DecidableEq κ] {t:κ->Ye} {vf:β->AV} (m:∀ a b,keyB (t a) (t b)=decide (a=b)) (k:κ):∀ (E:Ya (κ×β)) (i:Nat),(findA (t k) (E.map (kvE t vf)) i).map (·.2)=(mget E k).map vf
 | [],i=>rfl
 | p::r,i=>by
  simp only [jap,findA,mget,m,jaj];split
  ·rfl
  ·exact kti m k r (i+1)
theorem kop {κ β:Type} [DecidableEq κ] {m:κ->Ye} {vf:β->AV} (u:∀ a b,keyB (m a) (m b)=decide (a=b)) (k:κ) (v:β):∀ (E F:Ya (κ×β)),(match findA (m k) (E.map (kvE m vf)) F.length with | some (i,_)=>((F++E).map (kvE m vf)).set i (m k,vf v) | none=>(F++E).map (kvE m vf)++[(m k,vf v)])=(F++mput E k v).map (kvE m vf)
 | [],F=>by simp [findA,mput]
 | p::r,F=>by
  simp only [jap,findA,mput,u,jaj];split
  ·rename_i i a t;split at t
   ·cases t;rename_i y;subst y;simp [List.set_append]
   ·rename_i y;have:=kop (vf:=vf) u k v r (F++[p]);rw [jbh,List.length_singleton,t] at this;simpa [y] using this
  ·rename_i t;split at t
   ·cases t
   ·rename_i y;have:=kop (vf:=vf) u k v r (F++[p]);rw [jbh,List.length_singleton,t] at this;simpa [y] using this
section
variable {P:Yd} {env:Env} {h:AH} {L L':Ya (Nat×Yb ABlk)} {n:Nat} {K:K3} {d:Yb Tmp} {ty:Yc} {pos:String} {after:Array Edge} {g:Yb (Nat×Bool)}
theorem lkK {κ β:Type} [DecidableEq κ] {T kt e:Yc} {id:Nat} {Y:AV} {E:Ya (κ×β)} {t:κ->Ye} {vf:β->AV} {k:κ} {I:β} {z:Ye} {ok:Bool} {F:AV->Prop} (X:keyA Y=some (t k)) (hT:mapO P T=some (kt,e)) (hz:zvO P e=some z) (J:cst z=vf I) (U:∀ a b,keyB (t a) (t b)=decide (a=b)) (y:∀ a,kbu P kt (t a))
  (hh:h id=some (.map (E.map (kvE t vf)))) (hK:F (if ok then .tp [vf ((mget E k).getD I),bool (mget E k).isSome] else vf ((mget E k).getD I))):khR P h T (.mp id) Y ok F:=by
 simp only [khR,X,hT,hh];refine ⟨y k,λx hx=>?_,?_⟩
 ·obtain ⟨p,_,rfl⟩:=jbb.1 hx; exact y _
 ·have m:=kti (vf:=vf) U k E 0;cases Z:findA (t k) (E.map (kvE t vf)) 0 with
  | none=>
   rw [Z] at m;cases u:mget E k with
   | none=>rw [u] at hK; simp only [hz]; rw [J]; exact hK
   | some v=>rw [u] at m; simp at m
  | some q=>
   obtain ⟨i,v⟩:=q;rw [Z] at m;cases u:mget E k with
   | none=>rw [u] at m; simp at m
   | some v'=>
    rw [u] at m hK;simp only [jck,Option.some.injEq] at m;subst m;exact hK
end
section
variable {P:Yd} {N:Nat} {D:DX} {O:Nat->Prop} {Q:Exit->St->Prop} {st s:St} {c:Code} {cs:Ya Code} {env env':Env} {L L':Ya (Nat×Yb ABlk)} {n:Nat} {h:AH}
theorem SatL.condT {x:Yf} {a b:Code} {v:Bool} (i:ev env x = .sc (.bool v)) (m:v=true) (t:SatL P N D O (a::cs) Q ⟨env,h,n⟩):SatL P N D O (.cond x a b::cs) Q ⟨env,h,n⟩:=
 SatL.cond v i (λ_=>t) λe=>by rw [m] at e; cases e
theorem SatL.condF {x:Yf} {a b:Code} {v:Bool} (i:ev env x = .sc (.bool v)) (m:v=false) (t:SatL P N D O (b::cs) Q ⟨env,h,n⟩):SatL P N D O (.cond x a b::cs) Q ⟨env,h,n⟩:=
 SatL.cond v i (λe=>by rw [m] at e; cases e) λ_=>t
theorem SatL.condX {x:Yf} {a b:Code} {v:Bool} (i:ev env x = .sc (.bool v)) (t:v=true->SatL P N D O (a::cs) Q ⟨env,h,n⟩) (m:v=false->SatL P N D O (b::cs) Q ⟨env,h,n⟩):SatL P N D O (.cond x a b::cs) Q ⟨env,h,n⟩:=
 SatL.cond v i t m
end
theorem FreeL.nil:FreeL []:=λ_ h=>by cases h
theorem FreeL.cons {a:AV} {l:Ya AV} (h:Free a) (hl:FreeL l):FreeL (a::l):=(kbW a l).2 ⟨h,hl⟩
theorem Free.fpl {cs:Ya AV} (h:FreeL cs):Free (.fp cs):=(kiW cs).2 h
abbrev str (l:List UInt8):AV:=.sc (.string ⟨l.toArray⟩)
abbrev str1 (l:List UInt8):List AV:=[str l]
abbrev sl1 {α:Type} (f:α->List AV) (l:List α):List AV:=[.sl (l.map f)]
def un0 {α:Type} (_:Unit) (f:α):α:=f
def un1 {A α:Type} (s:A) (f:A->α):α:=f s
def un2 {A B α:Type} (s:A×B) (f:A->B->α):α:=f s.1 s.2
def un3 {A B C α:Type} (s:A×B×C) (f:A->B->C->α):α:=f s.1 s.2.1 s.2.2
def un4 {A B C E α:Type} (s:A×B×C×E) (f:A->B->C->E->α):α:=f s.1 s.2.1 s.2.2.1 s.2.2.2
def un5 {A B C E F α:Type} (s:A×B×C×E×F) (f:A->B->C->E->F->α):α:=f s.1 s.2.1 s.2.2.1 s.2.2.2.1 s.2.2.2.2
def un6 {A B C E F G α:Type} (s:A×B×C×E×F×G) (f:A->B->C->E->F->G->α):α:=f s.1 s.2.1 s.2.2.1 s.2.2.2.1 s.2.2.2.2.1 s.2.2.2.2.2
def sumE {R S α:Type} (s:R⊕S) (f:R->α) (g:S->α):α:=match s with | .inl r=>f r | .inr x=>g x
section
variable {A B C E F G R α:Type} {a:A} {b:B} {c:C} {e:E} {f:F} {g:G} {x:α} {p:R->α}
end
attribute [simp] un0 un1 un2 un3 un4 un5 un6 sumE
def ptrE {α:Type} (f:α->Ya AV) (o:Yb α):AV:=match o with | some x=>.fp (f x) | none=>.sc (.pointer none)
theorem kyO {α:Type} {f:α->Ya AV} (i:∀ y,FreeL (f y)) (o:Yb α):Free (ptrE f o):=by
 cases o with
 | none=>exact .sc _
 | some x=>exact Free.fpl (i x)
def muI (I:Ya Nat) (μ:Mu):Mu:=λi=>if I.contains i then μ i else none
def muO (I:Ya Nat) (μ:Mu):Mu:=λi=>if I.contains i then none else μ i
theorem kau {I:Ya Nat} {μ:Mu} {i:Nat} {x:Nat×Nat} (h:muI I μ i=some x):I.contains i=true/\μ i=some x:=by
 unfold muI at h; split at h
 ·exact ⟨by assumption,h⟩
 ·cases h
theorem kaZ {I:Ya Nat} {μ:Mu} {i:Nat} {x:Nat×Nat} (h:muO I μ i=some x):I.contains i=false/\μ i=some x:=by
 unfold muO at h; split at h
 ·cases h
 ·rename_i m; exact ⟨by simpa using m,h⟩
theorem kuN {O:Nat->Prop} {I:Ya Nat} {μ:Mu} {b:Nat} (h:Av (Av O (muO I μ)) (muI I μ) b):Av O μ b:=by
 rcases h with (h | ⟨id,k,h⟩) | ⟨id,k,h⟩
 ·exact .inl h
 ·exact .inr ⟨id,k,(kaZ h).2⟩
 ·exact .inr ⟨id,k,(kau h).2⟩
theorem VR.split {w:World} {O:Nat->Prop} {μ:Mu} {n:Nat} (I:Ya Nat) {a:AV} {v:Ye} (y:VR w O μ n a v):VR w (Av O (muO I μ)) (muI I μ) n a v:=by
 induction y with
 | sc v m=>exact .sc v m
 | ud=>exact .ud
 | gs es=>exact .gs es
 | un v=>exact .un v
 | e0 p=>exact .e0 p
 | own id i j v h m y=>exact .own id i j v h m λb k e=>y b k (kau e).2
 | ms id off len v h m y=>exact .ms id off len v h m λb k e=>y b k (kau e).2
 | mp id v h m y=>exact .mp id v h m λb k e=>y b k (kau e).2
 | fp cs b o us hA t m _ u=>exact .fp cs b o us (λz Y=>hA z (kuN Y)) t m u
 | slnil p=>exact .slnil p
 | sl es b o cap k us J X hA Z t m _ u=>exact .sl es b o cap k us J X (λi e hi z Y=>hA i e hi z (kuN Y)) Z t m u
 | fn f cs vs us U t _ u=>exact .fn f cs vs us U t u
 | ag cs vs us U t m _ u=>exact .ag cs vs us U t m u
 | tp cs vs us U t _ u=>exact .tp cs vs us U t u
theorem VR.out {w:World} {O:Nat->Prop} {μ:Mu} {n:Nat} (I:Ya Nat) {a:AV} {v:Ye} (y:VR w O μ n a v):VR w O (muO I μ) n a v:=by
 have av:∀ {b:Nat},Av O (muO I μ) b->Av O μ b:=λh=>by
  rcases h with h | ⟨id,k,h⟩
  ·exact .inl h
  ·exact .inr ⟨id,k,(kaZ h).2⟩
 induction y with
 | sc v m=>exact .sc v m
 | ud=>exact .ud
 | gs es=>exact .gs es
 | un v=>exact .un v
 | e0 p=>exact .e0 p
 | own id i j v h m y=>exact .own id i j v h m λb k e=>y b k (kaZ e).2
 | ms id off len v h m y=>exact .ms id off len v h m λb k e=>y b k (kaZ e).2
 | mp id v h m y=>exact .mp id v h m λb k e=>y b k (kaZ e).2
 | fp cs b o us hA t m _ u=>exact .fp cs b o us (λz Y=>hA z (av Y)) t m u
 | slnil p=>exact .slnil p
 | sl es b o cap k us J X hA Z t m _ u=>exact .sl es b o cap k us J X (λi e hi z Y=>hA i e hi z (av Y)) Z t m u
 | fn f cs vs us U t _ u=>exact .fn f cs vs us U t u
 | ag cs vs us U t m _ u=>exact .ag cs vs us U t m u
 | tp cs vs us U t _ u=>exact .tp cs vs us U t u
theorem BlkAt.mapV {w:World} {O O':Nat->Prop} {μ J:Mu} {n id:Nat} {B:ABlk} (X:BlkAt w O μ n id B) (z:J id = μ id) (Y:∀ {a:AV} {v:Ye},VR w O μ n a v->VR w O' J n a v):BlkAt w O' J n id B:=by
 cases B with
 | cells k T es=>
  obtain ⟨b,c,m,h2,t⟩:=X;refine ⟨b,c,z.trans m,h2,λi e hi=>⟨(t i e hi).1,λj a Z=>?_⟩⟩;obtain ⟨I,u,y,U⟩:=(t i e hi).2 j a Z;exact ⟨I,u,y,Y U⟩
 | map aa=>
  obtain ⟨b,es,m,h2,t,I⟩:=X;refine ⟨b,es,z.trans m,h2,t,λi x hi=>?_⟩;obtain ⟨e,y,U,h7,h8,h9⟩:=I i x hi;exact ⟨e,y,U,h7,h8,Y h9⟩
 | si s pos=>
  obtain ⟨b,m,h2⟩:=X;exact ⟨b,z.trans m,h2⟩
theorem PC.eat {P:Yd} {f:FuncId} {args m:Ya AV} {r:AV} {h hE h':AH} {n:Nat} {K:K3} (I:Ya Nat) (hi:∀ i B,hE i=some B->I.contains i=true/\h i=some B) (ho:∀ i B,h' i=some B->I.contains i=false/\h i=some B)
  (Z:SnapL hE args m) (hc:PC P f m (·= r)) (hk:K r h' n):HC P f args h n K:=by
 refine ⟨hc.1,λO μ w vs hr aa U=>?_⟩;have hrI:HR w (Av O (muO I μ)) (muI I μ) hE n:=by
  refine ⟨λb y=>?_,λid b k e=>hr.scope id b k (kau e).2,λid t b k X e e'=>hr.inj id t b k X (kau e).2 (kau e').2,λid b k e hO=>?_,λid B hB=>?_⟩
  ·rcases y with y | ⟨id,k,y⟩
   ·exact hr.olt b y
   ·exact (hr.scope id b k (kaZ y).2).2
  ·obtain ⟨Y,e2⟩:=kau e;rcases hO with hO | ⟨t,X,hO⟩
   ·exact hr.notO id b k e2 hO
   ·obtain ⟨e3,e4⟩:=kaZ hO;rw [hr.inj _ _ _ _ _ e2 e4] at Y;rw [Y] at e3; cases e3
  ·obtain ⟨z,h2⟩:=hi id B hB;exact (hr.blk id B h2).mapV (by simp only [muI]; rw [if_pos z]) λU=>U.split I
 have hrO:HR w O (muO I μ) h' n:=by
  refine ⟨hr.olt,λid b k e=>hr.scope id b k (kaZ e).2,λid t b k X e e'=>hr.inj id t b k X (kaZ e).2 (kaZ e').2,λid b k e=>hr.notO id b k (kaZ e).2,λid B hB=>?_⟩;obtain ⟨z,h2⟩:=ho id B hB;exact (hr.blk id B h2).mapV (by simp only [muO]; rw [if_neg (by rw [z]; decide)]) λU=>U.out I
 have he:Evo w μ n w (muO I μ) n:=⟨rfl,rfl,rfl,jag _,jag _,λ_ _ _=>rfl,λb c T f y=>⟨c,y,rfl⟩,λi _=>by unfold muO; split <;> simp,λi b k e hn=>absurd (hr.scope i b k (kaZ e).2).1 (by omega)⟩;refine (hc.2 (Av O (muO I μ)) w vs hrI.olt (by rw [aa,Z.len]) (λj c' hj=>?_)).mono ?_
 ·obtain ⟨c,J⟩:=kah Z.len hj;obtain ⟨u,z,h2⟩:=U j c J;exact ⟨u,z,(Z.at j c c' J hj).vr hrI (h2.split I)⟩
 ·rintro e w' ⟨u,v,rfl,rfl,q2,q3⟩;obtain ⟨Y,z⟩:=Evo.of_below hrO q3;exact ⟨u,_,h',n,muO I μ,rfl,hk,z,q2.lift λb y=>y,he.trans Y⟩
end Go.Abs
namespace Go.Abs
end Go.Abs
namespace Go.Abs
open Go Go.RowKit
section
variable {P:Yd} {ds:Ya (Yb Tmp)} {wc:Ya Nat} {rd:Ya (Nat×Nat)} {r:Ya Oper} {j:Nat} {env:Env} {h h':AH} {n n':Nat} {tr:Ya Rec} {K:St->Prop} {dst:Yb Tmp} {d:Tmp} {op:Op} {ty:Yc} {pos:String} {after:Array Edge} {o:Oper} {next:St->Ya Rec->Prop} {g:Yb (Nat×Bool)}
end
section
variable {P:Yd} {ds:Ya (Yb Tmp)} {r:Ya Oper} {env:Env} {h h':AH} {n n':Nat} {K:St->Prop} {d:Tmp} {op:Op} {ty:Yc} {pos:String} {after:Array Edge} {v:AV}
theorem st (m:∀ i:K3,i v h' n'->aop P env h n ⟨some d,op,ty,pos,after,none⟩ i) (t:aopsS P ds r ⟨(d,v)::env,h',n'⟩ K):aopsS P ds (⟨some d,op,ty,pos,after,none⟩::r) ⟨env,h,n⟩ K:=
 kxS λ_ hK=>m _ (hK _ _ _ t)
theorem s0 (m:∀ i:K3,i v h' n'->aop P env h n ⟨none,op,ty,pos,after,none⟩ i) (t:aopsS P ds r ⟨env,h',n'⟩ K):aopsS P ds (⟨none,op,ty,pos,after,none⟩::r) ⟨env,h,n⟩ K:=
 kwi λ_ hK=>m _ (hK _ _ _ t)
end
inductive On (p:Nat->Bool):AV->Prop
 | free (a:AV) (h:Free a):On p a
 | own (id i j:Nat) (h:p id=true):On p (.own id i j)
 | ms (id off len:Nat) (h:p id=true):On p (.ms id off len)
 | mp (id:Nat) (h:p id=true):On p (.mp id)
 | fn (f:FuncId) (cs:List AV) (h:∀ (j:Nat) (c:AV),cs[j]?=some c->On p c):On p (.fn f cs)
 | ag (cs:List AV) (h:∀ (j:Nat) (c:AV),cs[j]?=some c->On p c):On p (.ag cs)
 | tp (cs:List AV) (h:∀ (j:Nat) (c:AV),cs[j]?=some c->On p c):On p (.tp cs)
def OnB (p:Nat->Bool):ABlk->Prop
 | .cells _ _ es=>∀ e∈es,∀ a∈e,On p a
 | .map i=>∀ x∈i,On p x.2
 | .si _ _=>True
def muP (p:Nat->Bool) (μ:Mu):Mu:=λi=>if p i then μ i else none
theorem kaQ {p:Nat->Bool} {μ:Mu} {i:Nat} {x:Nat×Nat} (h:muP p μ i=some x):p i=true/\μ i=some x:=by
 unfold muP at h; split at h
 ·exact ⟨by assumption,h⟩
 ·cases h
theorem VR.on {w:World} {Z O2:Nat->Prop} {X J:Mu} {n1 n2:Nat} {p:Nat->Bool} {a:AV} (ho:On p a) (hp:∀ id,p id=true->J id = X id/\id<n2) (U:∀ b,Av O2 J b->Av Z X b):∀ {v:Ye},VR w Z X n1 a v->VR w O2 J n2 a v:=by
 induction ho with
 | free a h=>intro v m; exact (m.free h U).lift λb hb=>hb
 | own id i j h=>
  intro v m;cases m with
  | own _ _ _ _ Y u m=>exact .own id i j v (hp id h).2 u λb k e=>m b k ((hp id h).1 ▸ e)
 | ms id off len h=>
  intro v m;cases m with
  | ms _ _ _ _ Y u m=>exact .ms id off len v (hp id h).2 u λb k e=>m b k ((hp id h).1 ▸ e)
 | mp id h=>
  intro v m;cases m with
  | mp _ _ Y u m=>exact .mp id v (hp id h).2 u λb k e=>m b k ((hp id h).1 ▸ e)
 | fn f cs h z=>
  intro v m;cases m with
  | fn _ _ vs us I y hr=>exact .fn f cs vs us I y λj c t=>z j c t (hr j c t)
 | ag cs h z=>
  intro v m;cases m with
  | ag _ vs us I y u hr=>exact .ag cs vs us I y u λj c t=>z j c t (hr j c t)
 | tp cs h z=>
  intro v m;cases m with
  | tp _ vs us I y hr=>exact .tp cs vs us I y λj c t=>z j c t (hr j c t)
theorem BlkAt.on {w:World} {O1 O2:Nat->Prop} {z y:Mu} {n1 n2 id:Nat} {p:Nat->Bool} {B:ABlk} (Z:BlkAt w O1 z n1 id B) (ho:OnB p B) (U:y id = z id) (hp:∀ id,p id=true->y id = z id/\id<n2) (m:∀ b,Av O2 y b->Av O1 z b):BlkAt w O2 y n2 id B:=by
 cases B with
 | cells k T es=>
  obtain ⟨b,c,t,h2,I⟩:=Z;refine ⟨b,c,U.trans t,h2,λi e hi=>⟨(I i e hi).1,λj a hj=>?_⟩⟩;obtain ⟨X,u,J,Y⟩:=(I i e hi).2 j a hj;exact ⟨X,u,J,Y.on (ho e (jak hi) a (jak hj)) hp m⟩
 | map aa=>
  obtain ⟨b,es,t,h2,I,X⟩:=Z;refine ⟨b,es,U.trans t,h2,I,λi x hi=>?_⟩;obtain ⟨e,J,Y,h7,h8,h9⟩:=X i x hi;exact ⟨e,J,Y,h7,h8,h9.on (ho x (jak hi)) hp m⟩
 | si s pos=>
  obtain ⟨b,t,h2⟩:=Z;exact ⟨b,U.trans t,h2⟩
theorem ksT {O:Nat->Prop} {p:Nat->Bool} {μ:Mu} {b:Nat} (h:Av (Av O (muP p μ)) (muP (λi=>!p i) μ) b):Av O μ b:=by
 rcases h with (h | ⟨id,k,h⟩) | ⟨id,k,h⟩
 ·exact .inl h
 ·exact .inr ⟨id,k,(kaQ h).2⟩
 ·exact .inr ⟨id,k,(kaQ h).2⟩
theorem VR.splitP {w:World} {O:Nat->Prop} {μ:Mu} {n:Nat} (p:Nat->Bool) {a:AV} {v:Ye} (y:VR w O μ n a v):VR w (Av O (muP p μ)) (muP (λi=>!p i) μ) n a v:=by
 induction y with
 | sc v m=>exact .sc v m
 | ud=>exact .ud
 | gs es=>exact .gs es
 | un v=>exact .un v
 | e0 p=>exact .e0 p
 | own id i j v h m y=>exact .own id i j v h m λb k e=>y b k (kaQ e).2
 | ms id off len v h m y=>exact .ms id off len v h m λb k e=>y b k (kaQ e).2
 | mp id v h m y=>exact .mp id v h m λb k e=>y b k (kaQ e).2
 | fp cs b o us hA t m _ u=>exact .fp cs b o us (λz X=>hA z (ksT X)) t m u
 | slnil p=>exact .slnil p
 | sl es b o cap k us I U hA Y t m _ u=>exact .sl es b o cap k us I U (λi e hi z X=>hA i e hi z (ksT X)) Y t m u
 | fn f cs vs us J t _ u=>exact .fn f cs vs us J t u
 | ag cs vs us J t m _ u=>exact .ag cs vs us J t m u
 | tp cs vs us J t _ u=>exact .tp cs vs us J t u
section
variable {P:Yd} {f:FuncId} {args:Ya AV}
end
def eqVF (P:Yd) (i:Yc->Ya Ye->Ya Ye->Yb Bool):Ya Field->Ya Ye->Ya Ye->Yb Bool
 | [],_,_=>some true
 | f::fs,xs,ys=>if f.name = "_"\/xs.length<f.offset+P.cellsOf f.type\/ys.length<f.offset+P.cellsOf f.type then none else
  match aggO P f.type with
  | none=>none
  | some ag=>if ag=false/\P.cellsOf f.type≠1 then none else
   match i f.type ((xs.drop f.offset).take (P.cellsOf f.type)) ((ys.drop f.offset).take (P.cellsOf f.type)),eqVF P i fs xs ys with
   | some r,some s=>some (r&&s)
   | _,_=>none
def eqV (P:Yd):Nat->Yc->Ya Ye->Ya Ye->Yb Bool
 | 0,_,_,_=>none
 | d+1,t,xs,ys=>match P.underlying t,xs,ys with
  | some .bool,[.bool a],[.bool b]=>some (a==b)
  | some (.int _),[.int k a],[.int k' b]=>if k=k' then some (a==b) else none
  | some .string,[.string a],[.string b]=>some (a.toList==b.toList)
  | some (.struct fs),xs,ys=>if P.stoodInHeld t then none else eqVF P (eqV P d) fs.toList xs ys
  | _,_,_=>none
theorem kuO (P:Yd):∀ (d:Nat),(∀ t xs ys r,eqV P d t xs ys=some r->∀ D w,(Op.equalIn (D+d) t (voC P t xs) (voC P t ys)).run P w = .ok r w)/\
  (∀ u (X Y:Array Ye) r,eqVF P (eqV P d) u X.toList Y.toList=some r->∀ D w,(Op.eqFields (D+d) X Y u).run P w = .ok r w)
 | 0=>by
  refine ⟨λt xs ys r h=>by simp [eqV] at h,λu X Y r h D w=>?_⟩;cases u with
  | nil=>simp [eqVF] at h; subst h; simp [Op.eqFields]
  | cons f u=>
   unfold eqVF at h;split at h
   ·cases h
   ·split at h
    ·cases h
    ·split at h
     ·cases h
     ·simp [eqV] at h
 | d+1=>by
  obtain ⟨aa,I⟩:=kuO P d;have first:∀ t xs ys r,eqV P (d+1) t xs ys=some r->∀ D w,(Op.equalIn (D+(d+1)) t (voC P t xs) (voC P t ys)).run P w = .ok r w:=by
   intro t xs ys r h D w;unfold eqV at h;split at h
   ·rename_i a b m;cases h;have i:aggO P t=some false:=by simp [aggO,m]
    simp only [voC,i,List.headD_cons];exact run_equalIn_bool w (D+d) t a b m
   ·rename_i k0 k a k' b m;split at h
    ·rename_i hk; subst hk; cases h;have i:aggO P t=some false:=by simp [aggO,m]
     simp only [voC,i,List.headD_cons];exact run_equalIn_int w (D+d) t k k0 a b m
    ·cases h
   ·rename_i a b m;cases h;have i:aggO P t=some false:=by simp [aggO,m]
    simp only [voC,i,List.headD_cons];exact run_equalIn_string w (D+d) t a b m
   ·rename_i u m;split at h
    ·cases h
    ·rename_i hp;have i:aggO P t=some true:=by simp [aggO,m]
     have Z:P.fieldsOf t=u:=by simp [Program.fieldsOf,m]
     simp only [voC,i];rw [show D+(d+1)=(D+d)+1 from rfl,run_equalIn_struct w (D+d) t _ _ (by rw [Z]; exact m) (by simpa using hp),Z];exact I u.toList _ _ r (by simpa using h) D w
   ·cases h
  refine ⟨first,?_⟩;intro u;induction u with
  | nil=>intro X Y r h D w; simp [eqVF] at h; subst h; simp [Op.eqFields]
  | cons f u U=>
   intro X Y r h D w;unfold eqVF at h;split at h
   ·cases h
   ·rename_i z;split at h
    ·cases h
    ·rename_i ag i;split at h
     ·cases h
     ·rename_i h1;split at h
      ·rename_i r1 s1 e1 e2;cases h;have hn:f.name≠ "_":=λe=>z (.inl e);have hx:f.offset+P.cellsOf f.type<=X.size:=by
        have:=λe=>z (.inr (.inl e)); simpa using this
       have hy:f.offset+P.cellsOf f.type<=Y.size:=by
        have:=λe=>z (.inr (.inr e)); simpa using this
       have y:ag=false->P.cellsOf f.type=1:=λe=>by
        apply Classical.byContradiction; intro J; exact h1 ⟨e,J⟩
       have q1:=first _ _ _ _ e1 D w
       have q2:=U X Y s1 e2 D w;simp only [Op.eqFields,hn,ne_eq,not_false_eq_true,if_true,Sem.run_bind,kge i hx y,kge i hy y,Result.andThen_ok,q1];cases r1
       ·simp
       ·simpa using q2
      ·cases h
theorem kBc {P:Yd} {h:AH} {T:Yc} {as bs:Ya AV} {xs ys:Ya Ye} {d:Nat} {r r':Bool} (J:d<=Op.maxDepth) (t:aggO P T=some true) (hg:P.eqGuardType P.depth T=false) (U:scV as=some xs) (hy:scV bs=some ys) (he:eqV P d T xs ys=some r) (hr:r=r') :
  Cmp P h .eql T (.ag as) (.ag bs) (·= r')/\Cmp P h .neq T (.ag as) (.ag bs) (·= !r'):=by
 subst hr;have key:∀ (w:World) (O:Nat->Prop) (μ:Mu) (n:Nat) (u v:Ye),VR w O μ n (.ag as) u->VR w O μ n (.ag bs) v->∃ X Y:Array Ye,u = .agg X/\v = .agg Y/\(Op.equal T (.agg X) (.agg Y)).run P w = .ok r w:=by
  intro w O μ n u v z m;obtain ⟨X,rfl,hX,hX2⟩:=z.ag_cells;obtain ⟨Y,rfl,hY,hY2⟩:=m.ag_cells;have eX:=krM X.toList U (by simpa using hX) λj c i=>by
   obtain ⟨_,y,I,h2⟩:=hX2 j c i; exact ⟨y,by simpa using I,h2⟩
  have eY:=krM Y.toList hy (by simpa using hY) λj c i=>by
   obtain ⟨_,y,I,h2⟩:=hY2 j c i; exact ⟨y,by simpa using I,h2⟩
  subst eX; subst eY;refine ⟨X,Y,rfl,rfl,?_⟩;have:=(kuO P d).1 T _ _ r he (Op.maxDepth-d) w;rw [Nat.sub_add_cancel J] at this;have e:∀ Z:Array Ye,Z.toList.toArray=Z:=λZ=>rfl;simp only [voC,t,e] at this;exact this
 constructor;all_goals
  intro w O μ n u v X Y hr z m;obtain ⟨A,B,rfl,rfl,hq⟩:=key w O μ n u v z m;refine ⟨_,rfl,?_⟩;simp [eqGuard,hg,binOp,hq]
theorem kpD {P:Yd} {T e:Yc} (hT:P.underlying T=some (.slice e)) (p:Yb Addr) (l c:Nat) (w:World):(Op.equal T (.slice p l c) (.slice none 0 0)).run P w = .ok p.isNone w:=
 run_equal_slice_nil w T e p l c hT
theorem kzw {P:Yd} {h:AH} {T e:Yc} {a:AV} {S:Bool->Prop} (hT:P.underlying T=some (.slice e))
  (t:∀ (w:World) (O:Nat->Prop) (μ:Mu) (n:Nat) (u:Ye),HR w O μ h n->VR w O μ n a u->∃ p l c,u = .slice p l c/\S p.isNone) :
  Cmp P h .eql T a (.sc (.slice none 0 0)) S/\Cmp P h .neq T a (.sc (.slice none 0 0)) (λb=>S (!b)):=by
 constructor;all_goals
  intro w O μ n u v X Y hr y m;obtain ⟨p,l,c,rfl,i⟩:=t w O μ n u hr y;have:=m.sc_inv; subst this;first
  | exact ⟨_,i,by simp [eqGuard,binOp,kpD hT p l c w]⟩
  | exact ⟨!p.isNone,by simpa using i,by simp [eqGuard,binOp,kpD hT p l c w]⟩
theorem kBp {w:World} {O:Nat->Prop} {μ:Mu} {n:Nat} {es:Ya (Ya AV)} {u:Ye} (h:VR w O μ n (.sl es) u):∃ p l c,u = .slice p l c/\(es≠[]->p.isNone=false):=by
 cases h with
 | slnil p=>exact ⟨p,0,0,rfl,λh=>absurd rfl h⟩
 | sl _ b o cap k us=>exact ⟨_,_,_,rfl,λ_=>rfl⟩
section
variable {P:Yd} {h:AH} {T:Yc} {as bs:Ya AV} {b:Bool} {F:AV->Prop}
theorem kAd (m:Cmp P h .eql T (.ag as) (.ag bs) (·= b)/\Cmp P h .neq T (.ag as) (.ag bs) (·= !b)) (i:F (.sc (.bool b))):abin P h .eql T (.ag as) (.ag bs) F:=⟨_,m.1,λ_ e=>e ▸ i⟩
theorem kAj (m:Cmp P h .eql T (.ag as) (.ag bs) (·= b)/\Cmp P h .neq T (.ag as) (.ag bs) (·= !b)) (i:F (.sc (.bool (!b)))):abin P h .neq T (.ag as) (.ag bs) F:=⟨_,m.2,λ_ e=>e ▸ i⟩
end
structure KeepB (O:Nat->Prop) (w w':World):Prop where
 os:w'.os=w.os
 tape:w'.tape=w.tape
 output:w'.output=w.output
 size:w.heap.size<=w'.heap.size
 block:∀ b,b<w.heap.size->¬ O b->w'.heap[b]?=w.heap[b]?
def RndL (G:IterG) (k m:Nat) (O:Nat->Prop) (w:World) (e:Ending) (w':World):Prop:=
 ∃ i,(∀ b,i b->b<w'.heap.size)/\(∀ b,i b->b<w.heap.size->O b)/\KeepB O w w'/\((e = .returned (.bool true)/\G.J (k+m) i w')\/(e = .returned (.bool false)/\G.Jx w'))
def kxc (G:IterG) (k:Nat) (O:Nat->Prop) (w:World) (e:Ending) (w':World):Prop:=RndL G k 1 O w e w'
structure IterOk (P:Program) (G:IterG):Prop where
 jb:∀ k O w w',G.J k O w->Below w.heap.size w w'->G.J k O w'
 xb:∀ w w',G.Jx w->Below w.heap.size w w'->G.Jx w'
 y:∀ k O w us x,G.J k O w->(∀ b,O b->b<w.heap.size)->G.xs[k]?=some x->us.size=x.length->(∀ (j:Nat) (c:AV),x[j]?=some c->∃ u,us[j]?=some u/\VR w O mu0 0 c u)->
  YieldAt (FF none) 0 P G.l us w (kxc G k O w)
def IT (P:Yd) (g:FuncId) (i:Ya AV) (xs:Ya (Ya AV)):Prop:=
 (∃ fn,P.funcs[g]?=some fn/\fn.body.isSome=true/\(fn.name== "runtime.NumGoroutine")=false)/\
 ∀ (O:Nat->Prop) (w:World) (vs:Array Ye) (G:IterG),G.xs=xs->IterOk P G->(∀ b,O b->b<w.heap.size)->vs.size=i.length->(∀ (j:Nat) (c:AV),i[j]?=some c->∃ u,vs[j]?=some u/\VR w O mu0 0 c u)->
  G.J 0 O w->CallsIn (FF none) 0 P g (#[.func (.yield G.l) #[] #[]]++vs) w (λe w'=>(∃ v,e = .returned v)/\((∃ O',G.J xs.length O' w')\/G.Jx w'))
section
variable {P:Yd} {N:Nat} {D:DX} {O:Nat->Prop} {Q:Exit->St->Prop} {st:St} {μ:Mu} {w:World} {n:Nat} {h:AH} {G:IterG}
theorem VR.round {w w':World} {O O2:Nat->Prop} (hk:KeepB O w w') (ho:∀ b,O2 b->b<w.heap.size->O b) {m:Nat} {a:AV} {v:Ye} (hv:VR w O mu0 0 a v):VR w' O2 mu0 m a v:=by
 have z:∀ {b' k:Nat} {u:Ye},¬ Av O mu0 b'->w.cell? ⟨b',k,none⟩=some u->w'.cell? ⟨b',k,none⟩=some u:=λhb t=>by
  rw [kkU (hk.block _ (kkm t) λe=>hb (.inl e))]; exact t
 have U:∀ {b':Nat},b'<w.heap.size->¬ Av O mu0 b'->¬ Av O2 mu0 b':=λab hb ha=>by
  rcases ha with ha | ⟨_,_,ha⟩
  ·exact hb (.inl (ho _ ha ab))
  ·cases ha
 induction hv with
 | sc v I=>exact .sc v I
 | ud=>exact .ud
 | gs es=>exact .gs es
 | un v=>exact .un v
 | e0 p=>exact .e0 p
 | own id i j v h I hv=>omega
 | ms id off len v h I hv=>omega
 | mp id v h I hv=>omega
 | fp cs b o us hA t I _ J=>
  refine .fp cs b o us (λy=>?_) (λj c X=>z (hA (by rintro rfl; simp at X)) (t j c X)) I J;cases cs with
  | nil=>exact absurd rfl y
  | cons c cs=>exact U (kkm (t 0 c rfl)) (hA y)
 | slnil p=>exact .slnil p
 | sl es b o cap k us Y aa hA hl t I _ J=>
  refine .sl es b o cap k us Y aa (λi e hi y=>?_) hl (λi e hi j c X=>z (hA i e hi (by rintro rfl; simp at X)) (t i e hi j c X)) I J;cases e with
  | nil=>exact absurd rfl y
  | cons c e=>exact U (kkm (t i _ hi 0 c rfl)) (hA i _ hi y)
 | fn f cs vs us Z t _ J=>exact .fn f cs vs us Z t J
 | ag cs vs us Z t I _ J=>exact .ag cs vs us Z t I J
 | tp cs vs us Z t _ J=>exact .tp cs vs us Z t J
theorem kzZ {y:Oper} {c:Call} {f:Yf} {l:Nat} {a:Act} {R:Ending->World->Prop} {next:Act->World->Prop} {Q:Exit->Act->World->Prop} (z:y.op = .call c) (t:c.callee = .value f) (u:a.eval f = .func (.yield l) #[] #[])
  (hY:YieldAt (FF none) 0 P l (c.args.map a.eval) w R) (hR:∀ e w',R e w'->∃ v,e = .returned v/\next (a.put y.dst v) w'):y.wpIn (FF none) 0 P a w next Q:=by
 obtain ⟨fn,tmps,assign,body,m,hr⟩:=hY;unfold Oper.wpIn;refine ⟨λ_ _=>trivial,?_⟩;have i:(execOp a.eval y).run P w = .ok (.round l fn tmps assign body) w:=by
  simp [execOp,z,resolve,t,u,Deferred.ofValue,invoke,m]
 rw [show Oper.semAt (FF none).round a.eval y=execOp a.eval y from rfl,i,Oper.uponIn_round];refine ⟨(λe=>by cases e),hr.mono λe w' I=>?_⟩;obtain ⟨v,rfl,hn⟩:=hR e w' I;exact hn
theorem ksq (hr:HR w O μ h n) {w':World} {i:Nat->Prop} (h2:∀ b,i b->b<w'.heap.size):HR w' i mu0 ah0 n:=
 ⟨h2,λid b k e=>(by cases e),λid m b k t e=>(by cases e),λid b k e=>(by cases e),λid B e=>(by cases e)⟩
def YV (P:Yd) (l:Nat) (g:AV) (avs:Ya AV) (i:Ya (Ya AV)):Prop:=
 ∀ (G:IterG) (k:Nat) (O:Nat->Prop) (w:World) (y:Oper) (c:Call) (f:Yf) (a:Act) (next:Act->World->Prop) (Q:Exit->Act->World->Prop),G.l=l->IterOk P G->G.J k O w->(∀ b,O b->b<w.heap.size)->
  (∀ j,j<i.length->G.xs[k+j]?=i[j]?)->y.op = .call c->c.callee = .value f->VR w O mu0 0 g (a.eval f)->c.args.size=avs.length->(∀ (j:Nat) (c':AV),avs[j]?=some c'->∃ u,(c.args.map a.eval)[j]?=some u/\VR w O mu0 0 c' u)->
  (∀ e w',RndL G k i.length O w e w'->∃ v,e = .returned v/\next (a.put y.dst v) w')->y.wpIn (FF none) 0 P a w next Q
theorem YV.yield {l:Nat} {x:Ya AV}:YV P l (.sc (.func (.yield l) #[] #[])) x [x]:=by
 intro G k O w y c f a next Q hl ok hJ hO m z t u i I hR
 subst hl;exact kzZ z t u.sc_inv (ok.y k O w _ x hJ hO (by simpa using m 0 (by simp)) (by simpa using i) I) hR
def SnapV (z:AH) (a a':AV):Prop:=∀ (w:World) (O:Nat->Prop) (μ:Mu) (n:Nat) (v:Ye),HR w O μ z n->VR w O μ n a v->VR w O mu0 0 a' v
theorem Snap.V {z:AH} {a a':AV} (h:Snap z a a'):SnapV z a a':=λ_ _ _ _ _ hr i=>h.vr hr i
theorem SnapV.un {z:AH} {a:AV}:SnapV z a .un:=λ_ _ _ _ _ _ _=>.un _
theorem SnapV.fn {z:AH} {f:FuncId} {cs i:Ya AV} (hl:i.length=cs.length) (h:∀ (q:Nat) (c c':AV),cs[q]?=some c->i[q]?=some c'->SnapV z c c'):SnapV z (.fn f cs) (.fn f i):=λw O μ n v hr u=>by
 cases u with
 | fn _ _ vs us I y u=>
  refine .fn f i vs us (I.trans hl.symm) (λj c' t=>?_) (λj c' t=>?_);all_goals obtain ⟨c,m⟩:=kah hl t
  ·exact y j c m
  ·exact h j c c' m t w O μ n _ hr (u j c m)
theorem SnapV.own1 {z:AH} {id k:Nat} {T:Yc} {a a':AV} (hB:z id=some (.cells k T [[a]])) (J:a'.one=true) (h:SnapV z a a'):SnapV z (.own id 0 0) (.fp [a']):=λw O μ n v hr y=>by
 obtain ⟨b,c,g1,U,rfl,Y⟩:=kiZ hr hB y;obtain ⟨b',c',t,X,I⟩:=hr.own_cells hB;rw [g1] at t; cases t;obtain ⟨p1,u,p2,p3⟩:=(I 0 [a] rfl).2 0 a rfl;have key:∀ (q:Nat) (c:AV),[a'][q]?=some c->q=0/\c=a':=λq c i=>by
  cases q with
  | zero=>exact ⟨rfl,by simpa using i.symm⟩
  | succ q=>simp at i
 refine .fp [a'] b (0*k+0) (λ_=>u) (λ_ m=>?_) (λq c i=>?_) (λq c i=>?_) (λq c i=>?_)
 ·rcases m with m | ⟨_,_,m⟩
  ·exact hr.notO id b k g1 m
  ·cases m
 all_goals obtain ⟨rfl,rfl⟩:=key q c i
 ·simpa using p2
 ·exact J
 ·exact h w O μ n u hr p3
theorem kxO (hD:D.it=some G) (ok:IterOk P G) {y:Oper} {c:Call} {f:Yf} (ho:y.op = .call c) (hf:c.callee = .value f) {a:Act} (i:SR N D O μ st a w) {g:AV} {avs:Ya AV} {ls:Ya (Ya AV)} (hY:YV P G.l g avs ls)
  {es:Ya (Ya AV)} (hg:lk st.env GS = .gs es) (hx:∀ j,j<ls.length->G.xs[es.length+j]?=ls[j]?) {z:AH} (hz:∀ q B,z q=some B->st.h q=some B) (af:SnapV z (ev st.env f) g) (m:SnapL z (c.args.toList.map (ev st.env)) avs)
  {env':Env} (ab:∀ s,s≠GS->lk env' s = .un\/(lk env' s=lk st.env s/\Free (lk st.env s))) (hd:∀ d,y.dst=some d->d<N) (e1:Ya (Ya AV)) (ad:e1.length=ls.length) {next:Act->World->Prop} {Q:Exit->Act->World->Prop}
  (hT:∀ I w',SR N D I mu0 ⟨putE ((GS,.gs (es++e1))::env') y.dst (.sc (.bool true)),ah0,st.n⟩ (a.put y.dst (.bool true)) w'->next (a.put y.dst (.bool true)) w')
  (hF:∀ I w',SR N D I mu0 ⟨putE ((GS,.ud)::env') y.dst (.sc (.bool false)),ah0,st.n⟩ (a.put y.dst (.bool false)) w'->next (a.put y.dst (.bool false)) w'):y.wpIn (FF none) 0 P a w next Q:=by
 have Z:=i.gi;unfold GInv at Z;rw [hD,hg] at Z;obtain ⟨W,g1,g2,g3⟩:=Z;have hJ:=ok.jb _ _ _ _ g3 g1;have aa:HR w O μ z st.n:=⟨i.hr.olt,i.hr.scope,i.hr.inj,i.hr.notO,λid B hB=>i.hr.blk id B (hz id B hB)⟩;have X:a.defers=[]:=i.defers.1 (by rw [hD]; rfl);refine hY G es.length O w y c f a next Q rfl ok hJ i.hr.olt hx ho hf (af _ _ _ _ _ aa (i.ev f)) (by have:=m.len; simp at this ⊢; omega) (λj c' hj=>?_) ?_
 ·obtain ⟨b,u⟩:=kah m.len hj;have ac:=u;simp only [jas,jad,jcr] at ac;obtain ⟨t,ht,rfl⟩:=ac;refine ⟨a.eval t,by simp [ht],?_⟩;exact (m.at j _ _ u hj).vr aa (i.ev t)
 ·rintro e w' ⟨I,p1,p2,p3,p4⟩;have base:∀ gv:AV,VR w' I mu0 st.n gv undef->(∀ W2:World,W2=w'->(match gv with | .gs es=>G.J es.length I W2 | .ud=>G.Jx W2 | _=>True))->SR N D I mu0 ⟨(GS,gv)::env',ah0,st.n⟩ a w':=λgv ae hj=>by
   refine ⟨ksq i.hr p1,i.size,⟨λ_=>X,jda i.defers.2.1 p3.size,[],List.nodup_nil,X,λb u=>by cases u⟩,λs=>?_,i.gs,?_⟩
   ·simp only [lk];by_cases U:s=GS
    ·rw [if_pos U,U];have:a.tmps.getD GS undef=undef:=by
      have hN:N<=GS:=i.gs (by rw [hD]; rfl);have:=i.size;rw [jah,jdz (by omega)]; rfl
     rw [this]; exact ae
    ·rw [if_neg U];rcases ab s U with e | ⟨e,Y⟩
     ·rw [e]; exact .un _
     ·rw [e];exact VR.round p3 p2 ((i.env s).free Y (O':=O) λb u=>.inl u)
   ·unfold GInv;rw [hD];refine ⟨w',.refl _ _,λid b k e=>(by cases e),?_⟩;simp only [lk,if_pos];exact hj w' rfl
  rcases p4 with ⟨rfl,p4⟩ | ⟨rfl,p4⟩
  ·refine ⟨_,rfl,hT I w' ?_⟩;have u:=base (.gs (es++e1)) (.gs _) (λW2 e=>by subst e; simpa [ad] using p4);exact u.putE u.hr u.hr.refl (.sc _ rfl) y.dst hd
  ·refine ⟨_,rfl,hF I w' ?_⟩;have u:=base .ud .ud (λW2 e=>by subst e; exact p4);exact u.putE u.hr u.hr.refl (.sc _ rfl) y.dst hd
end
section
variable {P:Yd} {N:Nat} {D:DX} {O:Nat->Prop} {Q:Exit->St->Prop} {st:St} {μ:Mu} {w:World} {n:Nat} {h:AH} {G:IterG}
theorem RO.it {ro:Yb Nat} (hD:D.it=some G) (h:RO D ro w μ):ro=none:=by
 cases ro with
 | none=>rfl
 | some l=>obtain ⟨i,_⟩:=h; rw [hD] at i; cases i
def GOk1 (ds:Ya (Yb Tmp)) (o:Oper) (env:Env):Prop:=o.guard=none\/∃ m i d,o.guard=some (m,i)/\kbz ds m=some d/\lk env d = .sc (.bool i)
theorem GOk1.wanted {l:Ya Oper} {o:Oper} {a:Act} (i:GOk1 (l.map (·.dst)) o st.env) (y:SR N D O μ st a w):Region.wanted o (yielded l.toArray a.tmps)=true:=by
 rcases i with i | ⟨z,m,d,i,t,u⟩
 ·simp [Region.wanted,i]
 ·obtain ⟨g1,_⟩:=keI y t u;simp [Region.wanted,i,g1 m rfl]
def YieldK (P:Yd) (G:IterG) (ds:Ya (Yb Tmp)) (y:Oper) (l2:Ya Oper) (K:St->Prop) (s:St):Prop:=
 GOk1 ds y s.env/\∃ c f g avs i es z env' m,y.op = .call c/\c.callee = .value f/\YV P G.l g avs i/\lk s.env GS = .gs es/\(∀ j,j<i.length->G.xs[es.length+j]?=i[j]?)/\(∀ q B,z q=some B->s.h q=some B)/\
  SnapV z (ev s.env f) g/\SnapL z (c.args.toList.map (ev s.env)) avs/\(∀ t,t≠GS->lk env' t = .un\/(lk env' t=lk s.env t/\Free (lk s.env t)))/\m.length=i.length/\
  aops P ds l2 ⟨putE ((GS,.gs (es++m))::env') y.dst (.sc (.bool true)),ah0,s.n⟩ K/\aops P ds l2 ⟨putE ((GS,.ud)::env') y.dst (.sc (.bool false)),ah0,s.n⟩ K
theorem YieldK.run {l:Ya Oper} {y:Oper} {l2:Ya Oper} {u:Nat->Prop} {n0:Nat} {w0:World} {μ0:Mu} {a:Act} (hD:D.it=some G) (ok:IterOk P G) (aa:∀ x,y.dst=some x->x<N) (J:kbw N l2=true) (hs:SR N D O μ st a w)
  (hk:YieldK P G (l.map (·.dst)) y l2 (Q .normal) st):wpL none P l.toArray (Post N D u Q μ0 w0 n0) (y::l2) a w:=by
 obtain ⟨k0,c,f,g,avs,ls,es,z,env',e1,k1,k2,k3,k4,k5,k6,k7,k8,k9,X,U,ab⟩:=hk;unfold wpL;rw [if_pos (k0.wanted hs)];have fin:∀ t m a2 w2,aops P (l.map (·.dst)) l2 t (Q .normal)->SR N D m mu0 t a2 w2->wpL none P l.toArray (Post N D u Q μ0 w0 n0) l2 a2 w2:=λt m a2 w2 I i=>by
  have:=kij (ro:=none) (l:=l) (r2:=[]) l2 t J i I (Q':=Post N D u Q μ0 w0 n0) λs3 μ3 a3 w3 Z Y _=>by
   show Post N D u Q μ0 w0 n0 .normal a3 w3;exact ⟨s3,μ3,m,(λe=>by rw [hD] at e; cases e),Z,Y,λe=>by rw [hD] at e; cases e⟩
  rwa [jbe] at this
 exact kxO hD ok k1 k2 hs k3 k4 k5 k6 k7 k8 k9 aa e1 X (λm w' i=>fin _ m _ w' U i) (λm w' i=>fin _ m _ w' ab i)
theorem Sat.regionY {id:Nat} {l1:Ya Oper} {y:Oper} {l2:Ya Oper} (hD:D.it=some G) (ok:IterOk P G) (u:kbw N (l1++y::l2)=true)
  (J:aops P ((l1++y::l2).map (·.dst)) l1 st (YieldK P G ((l1++y::l2).map (·.dst)) y l2 (Q .normal))):Sat P N D O (.region id (l1++y::l2).toArray false) Q st:=by
 intro O1 o ro μ a w t I;obtain rfl:=t.it hD;have i:=u;simp only [kbw,List.all_append,jed,jac] at i;refine krQ (kij (l:=l1++y::l2) (r2:=y::l2) l1 st i.1 I J λX Y Z w1 U m _=>U.run hD ok (λx z=>?_) i.2.2 m);have:=i.2.1; rw [z] at this; simpa using this
theorem kBg {F:Fence} {m:Nat} {o:Oper} {a:Act} {w:World} {K:Act->World->Prop} {Q Q':Exit->Act->World->Prop} (u:∀ e a w,e≠.normal->Q e a w->Q' e a w) (i:o.wpIn F m P a w K Q):o.wpIn F m P a w K Q':=by
 have hl:LetsOut Q->LetsOut Q':=λ⟨a,w,h⟩=>⟨a,w,u _ _ _ (by simp) h⟩;unfold Oper.wpIn at *
 refine ⟨i.1,?_⟩;have i:=i.2;generalize (o.semAt F.round a.eval).run P w=r at *
 cases r with
 | ok x w'=>
  cases x <;> simp only [Oper.uponIn] at i ⊢ <;>
   first
    | exact i
    | exact ⟨i.1,CallsIn.mono i.2 (λe y t=>by cases e <;> first | exact t | exact u _ _ _ (by simp) t | exact hl t)⟩
    | exact ⟨i.1,RoundIn.mono i.2 (λe y t=>by cases e <;> first | exact t | exact u _ _ _ (by simp) t | exact hl t)⟩
 | halt x w'=>cases x <;> simp only [Oper.uponIn] at i ⊢ <;> first | exact i | exact u _ _ _ (by simp) i
def barOk (l:Ya Oper) (k:Nat):Bool:=
 (List.range k).all (λi=>((ancOf l).getD k []).contains i)&&(l.take k).all (λo=>match o.guard with | some (g,_)=>decide (g<k) | none=>true) &&
 (List.range (l.length-(k+1))).all (λi=>match l[k+1+i]? with | some o=>o.after.any λe=>Region.binds .any e&&e.on==k+i | none=>true)
def QY (Q:Exit->Act->World->Prop) (K2:Act->World->Prop):Exit->Act->World->Prop
 | .normal=>K2
 | e=>Q e
theorem kAJ {F:Fence} {m:Nat} {l1:Ya Oper} {y:Oper} {l2:Ya Oper} (hd:kdz (l1++y::l2)=true) (hb:barOk (l1++y::l2) l1.length=true) {Q:Exit->Act->World->Prop} {K2:Act->World->Prop}
  (h2:∀ a w,K2 a w->∀ f L,L.size=(l1++y::l2).length->(∀ i,i<l1.length->L.getD i true=true)->(∀ i,l1.length<=i->i<(l1++y::l2).length->L.getD i true=false)->wpAnyIn F m P .any (l1++y::l2).toArray Q (f+(1+l2.length)) L a w) :
  ∀ f1 (z L:Array Bool) a w,z.size=l1.length->L.size=(l1++y::l2).length->(∀ i,i<l1.length->L.getD i true=z.getD i true)->(∀ i,l1.length<=i->i<(l1++y::l2).length->L.getD i true=false)->
   Closed (l1++y::l2) (λi=>i<l1.length/\z.getD i true=true)->wpAnyIn F m P .any l1.toArray (QY Q K2) f1 z a w->wpAnyIn F m P .any (l1++y::l2).toArray Q (f1+(1+l2.length)) L a w:=by
 simp only [barOk,jac,jam,jdl,jbu,jaj] at hb;obtain ⟨⟨b1,b2⟩,b3⟩:=hb;have Z:∀ {i:Nat} {o:Oper},l1[i]?=some o->(l1++y::l2)[i]?=some o:=λ{i o} h=>by rw [jbo (jaf.1 h).1]; exact h
 have Y:∀ (z:Array Bool),z.size=l1.length->Region.ready .any l1.toArray z=[]->∀ i,i<l1.length->z.getD i true=true:=by
  intro z aw hr i;induction i using Nat.strongRecOn with
  | _ i ih=>
   intro hi;cases hb:z.getD i true with
   | true=>rfl
   | false=>
    have:i∈Region.ready .any l1.toArray z:=mem_ready.2 ⟨hb,l1[i],by simp,λe J t=>by
     have I:=(kbV hd).1 i _ (Z (jae hi)) e J t;have:=ih e.on I (by omega);have aa:e.on<z.size:=by omega
     simpa [jah,aa] using this⟩
    rw [hr] at this; cases this
 intro f1;induction f1 with
 | zero=>
  intro z L a w s1 s2 e1 e2 hc hw;obtain ⟨hr,hk⟩:=hw;exact h2 a w hk 0 L s2 (λi hi=>by rw [e1 i hi]; exact Y z s1 hr i hi) e2
 | succ f1 ih=>
  intro z L a w s1 s2 e1 e2 hc hw;obtain ⟨h0,hw⟩:=hw;by_cases hr:Region.ready .any l1.toArray z=[]
  ·exact h2 a w (h0 hr) (f1+1) L s2 (λi hi=>by rw [e1 i hi]; exact Y z s1 hr i hi) e2
  ·have sub:∀ i,i∈Region.ready .any l1.toArray z->i∈Region.ready .any (l1++y::l2).toArray L:=λi hi=>by
    obtain ⟨g1,o,g2,g3⟩:=mem_ready.1 hi;have u:l1[i]?=some o:=by simpa using g2
    have aj:=(jaf.1 u).1;refine mem_ready.2 ⟨by rw [e1 i aj]; exact g1,o,by simpa using Z u,λe J t=>?_⟩;have I:=(kbV hd).1 i _ (Z u) e J t;have h3:=g3 e J t;have q1:e.on<z.size:=by omega
    have q2:e.on<L.size:=by rw [s2]; simp; omega
    have:=e1 e.on (by omega);simp only [jah,jav q1,jav q2,jcb] at this h3 ⊢;rw [this]; exact h3
   rw [show f1+1+(1+l2.length)=(f1+(1+l2.length))+1 by omega];refine ⟨λhn=>absurd (jdc.2 λi hi=>by have:=sub i hi; rw [hn] at this; cases this) hr,λi hi=>?_⟩;obtain ⟨g1,o,g2,g3⟩:=mem_ready.1 hi;have u:(l1++y::l2)[i]?=some o:=by simpa using g2
   have aj:=(jaf.1 u).1;have ad:∀ e∈o.after,Region.binds .any e=true->e.on<l1.length->z.getD e.on true=true:=λe J t I=>by
    have h3:=g3 e J t;have q1:e.on<z.size:=by omega
    have q2:e.on<L.size:=by rw [s2]; simp; omega
    have:=e1 e.on I;simp only [jah,jav q1,jav q2,jcb] at this h3 ⊢;rw [<-this]; exact h3
   by_cases ao:i<l1.length
   ·have ah:l1[i]?=some o:=by rwa [jbo ao] at u
    have ap:i∈Region.ready .any l1.toArray z:=mem_ready.2 ⟨by rw [<-e1 i ao]; exact g1,o,by simpa using ah,λe J t=>by
     have I:=(kbV hd).1 i _ u e J t;have:=ad e J t (by omega);have aa:e.on<z.size:=by omega
     simpa [jah,aa] using this⟩
    have X:=hw i ap;have next:∀ a w,wpAnyIn F m P .any l1.toArray (QY Q K2) f1 (z.setIfInBounds i true) a w->wpAnyIn F m P .any (l1++y::l2).toArray Q (f1+(1+l2.length)) (L.setIfInBounds i true) a w:=λa w hh=>by
     have U:∀ (A:Array Bool) j,i<A.size->(A.setIfInBounds i true).getD j true=if j=i then true else A.getD j true:=λA j hA=>by
      by_cases hj:j=i
      ·subst hj; simp [jah,hA]
      ·rw [if_neg hj,jah,jcx (by omega),<-jah]
     refine ih _ _ a w (by simpa using s1) (by simpa using s2) (λj hj=>?_) (λj h1 h2=>?_) (λj oj ab hj e J t=>?_) hh
     ·rw [U _ _ (by omega),U _ _ (by omega),e1 j hj]
     ·rw [U _ _ (by omega),if_neg (by omega)]; exact e2 j h1 h2
     ·obtain ⟨aq,ae⟩:=hj;have I:=(kbV hd).1 j _ ab e J t;refine ⟨by omega,?_⟩;rw [U _ _ (by omega)];split
      ·rfl
      ·rw [U _ _ (by omega)] at ae;by_cases am:j=i
       ·subst am;rw [u] at ab; cases ab;exact ad e J t (by omega)
       ·rw [if_neg am] at ae;exact (hc j oj ab ⟨aq,ae⟩ e J t).2
    unfold wpOpIn at X ⊢;rw [show l1.toArray[i]?=some o by simpa using ah] at X;rw [show (l1++y::l2).toArray[i]?=some o by simpa using u];simp only at X ⊢;have ai:Region.wanted o (yielded (l1++y::l2).toArray a.tmps)=Region.wanted o (yielded l1.toArray a.tmps):=by
     unfold Region.wanted;cases hg:o.guard with
     | none=>rfl
     | some gw=>
      obtain ⟨g,wt⟩:=gw;have:=b2 o (by rw [List.take_left]; exact jak ah);rw [hg] at this;simp only [jaj] at this;have hy:yielded (l1++y::l2).toArray a.tmps g=yielded l1.toArray a.tmps g:=by
       unfold yielded;simp only [jbz,jbo this]
      simp only [hy]
    rw [ai];split
    ·rename_i af; rw [if_pos af] at X;exact kBg (λe a w au hq=>by cases e <;> first | exact absurd rfl au | exact hq) (Oper.wpIn_mono next X)
    ·rename_i af; rw [if_neg af] at X;exact ⟨X.1,next _ _ X.2⟩
   ·exfalso;by_cases al:i=l1.length
    ·subst al;have ak:∀ j,j<l1.length->z.getD j true=true:=λj hj=>by
      have:=hc.anc (kit (b1 j hj)) λo' an e J t=>by
       rw [u] at an; cases an;have I:=(kbV hd).1 _ _ u e J t;exact ⟨I,ad e J t I⟩
      exact this.2
     refine hr (jdc.2 λj hj=>?_);obtain ⟨q1,oj,q2,_⟩:=mem_ready.1 hj;have ar:j<l1.length:=by simpa using (jal.1 q2).1
     rw [ak j ar] at q1; cases q1
    ·have h3:=b3 (i-(l1.length+1)) (by omega);rw [show l1.length+1+(i-(l1.length+1))=i by omega,u] at h3;simp only at h3;rw [Array.any_eq_true'] at h3;obtain ⟨e,J,ac⟩:=h3;simp only [jac,beq_iff_eq] at ac;have I:=(kbV hd).1 i _ u e J ac.1;have h4:=g3 e J ac.1;have h5:=e2 e.on (by omega) (by omega);have q2:e.on<L.size:=by rw [s2]; omega
     simp only [jah,jav q2,jcb] at h4 h5;rw [h5] at h4; cases h4
end
section
variable {P:Yd} {N:Nat} {D:DX} {O:Nat->Prop} {Q:Exit->St->Prop} {st:St} {μ:Mu} {w:World} {n:Nat} {h:AH} {G:IterG}
theorem kzo {F:Fence} {m:Nat} {l:Ya Oper} {Q:Exit->Act->World->Prop} {L:Array Bool} {a:Act} (hL:∀ i,i<l.length->L.getD i true=true) (u:Q .normal a w):∀ f,wpAnyIn F m P .any l.toArray Q f L a w:=by
 have hr:Region.ready .any l.toArray L=[]:=jdc.2 λi hi=>by
  obtain ⟨t,o,h2,_⟩:=mem_ready.1 hi;have:i<l.length:=by simpa using (jal.1 h2).1
  rw [hL i this] at t; cases t
 intro f;cases f with
 | zero=>exact ⟨hr,u⟩
 | succ f=>exact ⟨λ_=>u,λi hi=>by rw [hr] at hi; cases hi⟩
theorem getD_set (A:Array Bool) (i j:Nat) (hA:i<A.size):(A.setIfInBounds i true).getD j true=if j=i then true else A.getD j true:=by
 by_cases m:j=i
 ·subst m; simp [jah,hA]
 ·rw [if_neg m,jah,jcx (by omega),<-jah]
theorem kzg {ro:Yb Nat} {l:Ya Oper} {k:Nat} (hd:kdz l=true) (hb:∀ (i:Nat) (o:Oper),k<i->l[i]?=some o->∃ e∈o.after,Region.binds .any e=true/\e.on+1=i) {Q:Exit->Act->World->Prop} :
  ∀ (r pre:Ya Oper),l=pre++r->k<=pre.length->∀ (f:Nat) (L:Array Bool) (a:Act) (w:World),L.size=l.length->(∀ i,i<pre.length->L.getD i true=true)->(∀ i,pre.length<=i->i<l.length->L.getD i true=false)->wpL ro P l.toArray Q r a w->wpAnyIn (FF ro) 0 P .any l.toArray Q (f+r.length) L a w:=by
 intro r;induction r with
 | nil=>
  intro pre hl hk f L a w I J h2 m;exact kzo (λi hi=>J i (by rw [hl] at hi; simpa using hi)) m _
 | cons o r ih=>
  intro pre hl hk f L a w I J h2 m;have U:l[pre.length]?=some o:=by rw [hl]; simp
  have ab:=(jaf.1 U).1;have u:∀ i,i∈Region.ready .any l.toArray L↔i=pre.length:=λi=>by
   rw [mem_ready];constructor
   ·rintro ⟨g1,oi,g2,g3⟩;have y:l[i]?=some oi:=by simpa using g2
    have t:=(jaf.1 y).1;rcases Nat.lt_trichotomy i pre.length with h | h | h
    ·rw [J i h] at g1; cases g1
    ·exact h
    ·exfalso;obtain ⟨e,he,ac,z⟩:=hb i oi (by omega) y;have Y:=g3 e he ac;have h5:=h2 e.on (by omega) (by omega);have Z:e.on<L.size:=by omega
     simp only [jah,jav Z,jcb] at Y h5;rw [h5] at Y; cases Y
   ·rintro rfl;refine ⟨h2 _ (jag _) ab,o,by simpa using U,λe he aa=>?_⟩;have z:=(kbV hd).1 _ _ U e he aa;have:=J e.on z;have Z:e.on<L.size:=by omega
    simpa [jah,Z] using this
  have next:∀ a w,wpL ro P l.toArray Q r a w->wpAnyIn (FF ro) 0 P .any l.toArray Q (f+r.length) (L.setIfInBounds pre.length true) a w:=λa w m=>by
   refine ih (pre++[o]) (by simp [hl]) (by simp; omega) f _ a w (by simpa using I) (λi hi=>?_) (λi hi t=>?_) m
   ·rw [getD_set _ _ _ (by omega)];split
    ·rfl
    ·simp at hi; exact J i (by omega)
   ·simp at hi;rw [getD_set _ _ _ (by omega),if_neg (by omega)];exact h2 i (by omega) t
  rw [show f+(o::r).length=(f+r.length)+1 by simp; omega];refine ⟨λhn=>?_,λi hi=>?_⟩
  ·have:=(u pre.length).2 rfl;rw [hn] at this; cases this
  ·obtain rfl:=(u i).1 hi;unfold wpOpIn;rw [show l.toArray[pre.length]?=some o by simpa using U];simp only;unfold wpL at m;split
   ·rename_i X; rw [if_pos X] at m; exact Oper.wpIn_mono (λa w=>next a w) m
   ·rename_i X; rw [if_neg X] at m; exact ⟨λ_ _=>trivial,next _ _ m⟩
def PreY (P:Yd) (N:Nat) (D:DX) (l1:Ya Oper) (st:St) (K:St->Prop):Prop:=
 ∀ (u:Nat->Prop) (μ:Mu) (a:Act) (w:World) (Q':Exit->Act->World->Prop),SR N D u μ st a w->(∀ i y m t,K i->SR N D u y i m t->Q' .normal m t)->wpAnyIn (FF none) 0 P .any l1.toArray Q' l1.length (Array.replicate l1.length false) a w.drew
theorem Sat.drawY {id:Nat} {l1:Ya Oper} {y:Oper} {l2:Ya Oper} (hD:D.it=some G) (ok:IterOk P G) (hm:P.follows .mixedOrders=true)
  (hd:kdz (l1++y::l2)=true) (hb:barOk (l1++y::l2) l1.length=true) (J:kbw N (l1++y::l2)=true)
  (u:PreY P N D l1 st (YieldK P G ((l1++y::l2).map (·.dst)) y l2 (Q .normal))):Sat P N D O (.region id (l1++y::l2).toArray true) Q st:=by
 intro O1 o ro μ a w af hs;obtain rfl:=af.it hD;refine wpIn_region_any hm ?_;have m:=J;simp only [kbw,List.all_append,jed,jac] at m;have ad:∀ x,y.dst=some x->x<N:=λx hx=>by have:=m.2.1; rw [hx] at this; simpa using this
 have Y:=hb;simp only [barOk,jac,jam,jdl,jbu] at Y;obtain ⟨⟨b1,b2⟩,b3⟩:=Y;have U:(l1++y::l2).toArray.size=l1.length+(1+l2.length):=by simp; omega
 rw [U];refine kAJ hd hb (K2:=λa w=>∃ t Z,YieldK P G ((l1++y::l2).map (·.dst)) y l2 (Q .normal) t/\SR N D O1 Z t a w) ?_ l1.length (Array.replicate l1.length false) _ a w.drew (by simp) (by simp; omega) (λi hi=>?_) (λi h1 h2=>?_) (λj oj ak hj=>?_) ?_
 ·rintro a2 w2 ⟨t,Z,hk,ab⟩ f2 L2 ai ah ac;rw [show 1+l2.length=(y::l2).length by simp; omega];refine kzg (k:=l1.length) hd (λi oi hi z=>?_) (y::l2) l1 rfl (jag _) f2 L2 a2 w2 ai ah ac (hk.run hD ok ad m.2.2 ab);have aj:=(jaf.1 z).1;have h3:=b3 (i-(l1.length+1)) (by omega);rw [show l1.length+1+(i-(l1.length+1))=i by omega,z] at h3;simp only at h3;rw [Array.any_eq_true'] at h3;obtain ⟨e,he,X⟩:=h3;simp only [jac,beq_iff_eq] at X;exact ⟨e,he,X.1,by omega⟩
 ·have q1:i<(Array.replicate (l1.length+(1+l2.length)) false).size:=by simp; omega
  have q2:i<(Array.replicate l1.length false).size:=by simpa using hi
  rw [jah,jav q1,jah,jav q2]; simp
 ·have q1:i<(Array.replicate (l1.length+(1+l2.length)) false).size:=by simp at h2 ⊢; omega
  rw [jah,jav q1]; simp
 ·obtain ⟨aa,I⟩:=hj;have q2:j<(Array.replicate l1.length false).size:=by simpa using aa
  rw [jah,jav q2] at I; simp at I
 ·exact u O1 μ a w _ hs λt Z a1 w1 hk ae=>⟨t,Z,hk,ae⟩
def itQ (xs:Ya (Ya AV)) (e:Exit) (s:St):Prop:=(e = .normal\/e = .ret)/\((∃ es,lk s.env GS = .gs es/\es.length=xs.length)\/lk s.env GS = .ud)
theorem IT.of_body {g:FuncId} {fn:Func} {c:Code} {i:Ya AV} {xs:Ya (Ya AV)} (hf:P.funcs[g]?=some fn) (hb:fn.body=some c) (y:(fn.name== "runtime.NumGoroutine")=false) (aa:i.length+1<=fn.ntmps) (hN:fn.ntmps<=GS) (z:fn.results.toList=[])
  (X:∀ (D:DX) (G:IterG) (O:Nat->Prop),D.it=some G->G.xs=xs->IterOk P G->Sat P fn.ntmps D O c (itQ xs) ⟨(GS,.gs [])::kar (.sc (.func (.yield G.l) #[] #[])::i),ah0,0⟩):IT P g i xs:=by
 refine ⟨⟨fn,hf,by rw [hb]; rfl,y⟩,λO w vs G hx ok hO Y ab hJ=>callsIn_of_wp_marks hf hb trivial ?_⟩;refine wpIn_mono (X ⟨w.heap.size,some G⟩ G O rfl hx ok O (λe=>by cases e) none mu0 _ w trivial ⟨ksq (μ:=mu0) (h:=ah0) (O:=O) (w:=w) ⟨hO,λid b k e=>(by cases e),λid ah b k k' e=>(by cases e),λid b k e=>(by cases e),λid B e=>(by cases e)⟩ hO,?_,.nil _ _ _ (jag _),λs=>?_,λ_=>hN,?_⟩) ?_
 ·simp [Y]; omega
 ·simp only [lk];by_cases hg:s=GS
  ·rw [if_pos hg,hg];have:(#[Value.func (.yield G.l) #[] #[]]++vs++Array.replicate (fn.ntmps-(#[Value.func (.yield G.l) #[] #[]]++vs).size) undef).getD GS undef=undef:=by
    rw [jah,jdz (by simp [Y]; omega)]; rfl
   rw [this]; exact .gs _
  ·rw [if_neg hg];simp only [kar,kqC _ 0 s,Nat.zero_le,if_true,Nat.sub_zero];cases s with
   | zero=>
    have:(#[Value.func (.yield G.l) #[] #[]]++vs++Array.replicate (fn.ntmps-(#[Value.func (.yield G.l) #[] #[]]++vs).size) undef).getD 0 undef=Value.func (.yield G.l) #[] #[]:=by
     rw [jah,jdy (by simp; omega),jdy (by simp)]; rfl
    rw [this];exact .sc (Value.func (.yield G.l) #[] #[]) rfl
   | succ j=>
    rw [jby];cases hs:i[j]? with
    | none=>simpa using VR.un _
    | some v=>
     obtain ⟨u,hu,ac⟩:=ab j v hs;have ai:=(jal.1 hu).1;have:(#[Value.func (.yield G.l) #[] #[]]++vs++Array.replicate (fn.ntmps-(#[Value.func (.yield G.l) #[] #[]]++vs).size) undef).getD (j+1) undef=u:=by
      rw [jah,jdy (by simp; omega),Array.getElem?_append_right (by simp)];simp [hu]
     rw [this];exact ac
 ·unfold GInv;exact ⟨w,.refl _ _,λid b k e=>(by cases e),by simpa [lk] using hJ⟩
 ·rintro e a' w' ⟨af,μ',O',o',⟨ae,ad⟩,t,_⟩;have U:a'.defers=[]:=t.defers.1 rfl;have I:(∃ O',G.J xs.length O' w')\/G.Jx w':=by
   have m:=t.gi;unfold GInv at m;simp only at m;obtain ⟨W,g1,g2,Z⟩:=m;rcases ad with ⟨es,h1,h2⟩ | h1
   ·rw [h1] at Z; rw [<-h2]; exact .inl ⟨O',ok.jb _ _ _ _ Z g1⟩
   ·rw [h1] at Z; exact .inr (ok.xb _ _ Z g1)
  have hl:LeavesInM (FF none) 0 P fn a'.tmps (λe w'=>(∃ v,e = .returned v)/\((∃ O',G.J xs.length O' w')\/G.Jx w')) a'.defers .returning w':=by
   rw [U];obtain ⟨u,h3,_⟩:=kjk (fn:=fn) (v:=.tp []) t (by rw [z]; rfl);exact ⟨u,h3,⟨u,rfl⟩,I⟩
  rcases ae with rfl | rfl <;> exact hl
end
section
variable {P:Yd} {N:Nat} {D:DX} {O:Nat->Prop} {Q:Exit->St->Prop} {st:St} {μ:Mu} {w:World} {n:Nat} {h:AH}
def kks (i:Ya Tmp) (x:Ya AV) (env:Env):Env:=(i.zip x).foldl (λe p=>(p.1,p.2)::e) env
theorem kze {i:Ya Tmp}:∀ {x:Ya AV} {vs:Ya Ye} {env:Env} {tmps:Array Ye} (w:World) (O:Nat->Prop) (μ:Mu) (n:Nat),x.length=i.length->vs.length=i.length->(∀ s,VR w O μ n (lk env s) (tmps.getD s undef))->(∀ p∈i,p<tmps.size)->
  (∀ (j:Nat) (c:AV),x[j]?=some c->∃ u,vs[j]?=some u/\VR w O μ n c u)->∀ s,VR w O μ n (lk (kks i x env) s) (((i.zip vs).foldl (λt (p:Tmp×Ye)=>t.setIfInBounds p.1 p.2) tmps).getD s undef):=by
 induction i with
 | nil=>intro x vs env tmps w O μ n I h2 y _ _ s; simpa [kks] using y s
 | cons p i Z=>
  intro x vs env tmps w O μ n I h2 y hp J s;cases x with
  | nil=>simp at I
  | cons c x=>
   cases vs with
   | nil=>simp at h2
   | cons v vs=>
    obtain ⟨u,U,Y⟩:=J 0 c rfl;simp only [jdd,Option.some.injEq] at U;subst U;refine Z (x:=x) (vs:=vs) (env:=(p,c)::env) (tmps:=tmps.setIfInBounds p v) w O μ n (by simpa using I) (by simpa using h2) (λt=>?_) (λq hq=>by simpa using hp q (jax _ hq)) (λj c' X=>by simpa using J (j+1) c' (by simpa using X)) s;simp only [lk];have z:p<tmps.size:=hp p (by simp);by_cases m:t=p
    ·rw [if_pos m,m]; simp [jah,z,Y]
    ·rw [if_neg m,jah,jcx (by omega),<-jah];exact y t
theorem kxv (i:Ya (Tmp×Ye)):∀ tmps:Array Ye,(i.foldl (λt (p:Tmp×Ye)=>t.setIfInBounds p.1 p.2) tmps).size=tmps.size:=by
 induction i with
 | nil=>intro t; rfl
 | cons p i m=>intro t; simp only [List.foldl_cons,m]; simp
theorem knD {fn:FuncId} {tmps:Array Ye} {i:Array Tmp} {assign body:Code} {m:Nat} {r:Loop} (h:w.heap[m]?=some (.loop r)) :
  (Instr.enterLoop fn tmps i assign body (some m)).run P w = .ok (w.heap.size,[]) (w.alloc (.loop { state:=.ready,pending:=none,fn,tmps,params:=i,assign,body,defers:=r.defers })):=by
 unfold Instr.enterLoop;simp only [Sem.run_bind,run_getLoop h,run_newObj_alloc,Result.andThen,Sem.run_pure]
theorem Evo.un {w w':World} {μ y:Mu} {n n':Nat} (e:Evo w μ n w' y n') {b:Nat} (z:b<w.heap.size) (u:∀ id k,μ id≠some (b,k)):∀ id k,y id≠some (b,k):=λid k m=>by
 rcases jdg id n with hi | hi
 ·rcases e.ids id hi with i | i
  ·rw [i] at m; exact u id k m
  ·rw [i] at m; cases m
 ·rcases e.new id b k m hi with i | ⟨t,k0,i⟩
  ·omega
  ·exact u t k0 i
structure LJ (O1:Nat->Prop) (w0:World) (μ:Mu) (n0:Nat) (l:Nat) (ms:List Nat) (rec:LoopState->Option Code->Loop) (sta:LoopState) (pe:Option Code) (h:AH) (n:Nat) (μ':Mu) (W:World):Prop where
 hr:HR W O1 μ' h n
 evo:Evo w0 μ n0 W μ' n
 ll:w0.heap.size<=l
 hl:W.heap[l]?=some (.loop (rec sta pe))
 ul:∀ id k,μ' id≠some (l,k)
 ms:∀ d∈ms,w0.heap.size<=d/\d≠l/\W.heap[d]?=some (.deferred (some []))/\∀ id k,μ' id≠some (d,k)
theorem LJ.below {y:Nat->Prop} {w0 W z:World} {μ u:Mu} {n0 n l:Nat} {ms:Ya Nat} {i:LoopState->Yb Code->Loop} {m:LoopState} {I:Yb Code} (j:LJ y w0 μ n0 l ms i m I h n u W) (t:Below W.heap.size W z):LJ y w0 μ n0 l ms i m I h n u z:=by
 obtain ⟨X,U⟩:=Evo.of_below j.hr t;refine ⟨U,j.evo.trans X,j.ll,(t.block _ (jal.1 j.hl).1).trans j.hl,j.ul,λd J=>?_⟩;obtain ⟨k1,k2,k3,Y⟩:=j.ms d J;exact ⟨k1,k2,(t.block _ (jal.1 k3).1).trans k3,Y⟩
theorem LJ.put {u:Nat->Prop} {w0 W:World} {μ t:Mu} {n0 n l:Nat} {ms:Ya Nat} {i:LoopState->Yb Code->Loop} {m sta2:LoopState} {z pe2:Yb Code} (j:LJ u w0 μ n0 l ms i m z h n t W):LJ u w0 μ n0 l ms i sta2 pe2 h n t (W.putObj l (.loop (i sta2 pe2))):=by
 refine ⟨j.hr.putObj _ j.hl (by simp) j.ul,j.evo.putObj _ j.ll,j.ll,World.putObj_heap_same (jal.1 j.hl).1,j.ul,λd y=>?_⟩;obtain ⟨k1,k2,k3,I⟩:=j.ms d y;exact ⟨k1,k2,(World.putObj_heap_other k2).trans k3,I⟩
theorem LJ.evo2 {z:Nat->Prop} {w0 W I:World} {μ X y:Mu} {n0 n J l:Nat} {ms:Ya Nat} {m:LoopState->Yb Code->Loop} {t:LoopState} {Y:Yb Code} {h2:AH} (j:LJ z w0 μ n0 l ms m t Y h n X W) (e:Evo W X n I y J) (hr:HR I z y h2 J):LJ z w0 μ n0 l ms m t Y h2 J y I:=by
 have u:=(jal.1 j.hl).1;refine ⟨hr,j.evo.trans e,j.ll,(e.keep _ u j.ul).trans j.hl,e.un u j.ul,λd Z=>?_⟩;obtain ⟨k1,k2,k3,U⟩:=j.ms d Z;have i:=(jal.1 k3).1;exact ⟨k1,k2,(e.keep _ i U).trans k3,e.un i U⟩
def bodyQ (Q:Exit->St->Prop) (env:Env) (I:Nat->AH->Nat->Prop) (k:Nat):Exit->St->Prop
 | .normal,s=>I (k+1) s.h s.n
 | .ret,s=>Q .ret ⟨env,s.h,s.n⟩
 | .exit id,s=>Q (.exit id) ⟨env,s.h,s.n⟩
 | _,_=>False
def jumpQ (Q:Exit->St->Prop) (env:Env) (c:Code) (h:AH) (n:Nat):Prop:=
 match c with
 | .ret=>Q .ret ⟨env,h,n⟩
 | .exit id=>Q (.exit id) ⟨env,h,n⟩
 | _=>False
theorem Evo.alloc_new {i:Nat->Prop} (hr:HR w i μ h n) (o:Obj):Evo w μ n (w.alloc o) μ n/\HR (w.alloc o) i μ h n:=Evo.of_below hr ((Below.refl _ w).alloc (jag _) o)
theorem Sat.rangeFunc (hD:D.it=none) {g:Yf} {ps:Array Tmp} {assign body:Code} {gf:FuncId} {au an:Ya AV} {xs:Ya (Ya AV)} {hE h':AH} (ids:Ya Nat) (hg:ev st.env g = .fn gf au) (hi:∀ i B,hE i=some B->ids.contains i=true/\st.h i=some B) (ho:∀ i B,h' i=some B->ids.contains i=false/\st.h i=some B) (hs:SnapL hE au an) (aN:IT P gf an xs)
  (aP:∀ x∈xs,x.length=ps.size) (aR:∀ p∈ps.toList,p<N) (I:Nat->AH->Nat->Prop) (h0:I 0 h' st.n)
  (round:∀ k x h n,xs[k]?=some x->I k h n->Sat P N D O assign (thenQ (λs=>Sat P N D O body (bodyQ Q st.env I k) s) (λ_ _=>False)) ⟨kks ps.toList x st.env,h,n⟩)
  (done:∀ h n,I xs.length h n->Q .normal ⟨st.env,h,n⟩):Sat P N D O (.rangeFunc g ps assign body) Q st:=by
 intro O1 o ro μ0 a w aH z;obtain rfl:=o hD;have hrI:HR w (Av O1 (muO ids μ0)) (muI ids μ0) hE st.n:=by
  refine ⟨λb m=>?_,λid b k e=>z.hr.scope id b k (kau e).2,λid ao b k k' e e'=>z.hr.inj id ao b k k' (kau e).2 (kau e').2,λid b k e hO=>?_,λid B hB=>?_⟩
  ·rcases m with m | ⟨id,k,m⟩
   ·exact z.hr.olt b m
   ·exact (z.hr.scope id b k (kaZ m).2).2
  ·obtain ⟨e1,e2⟩:=kau e;rcases hO with hO | ⟨ao,k',hO⟩
   ·exact z.hr.notO id b k e2 hO
   ·obtain ⟨e3,e4⟩:=kaZ hO;rw [z.hr.inj _ _ _ _ _ e2 e4] at e1;rw [e1] at e3; cases e3
  ·obtain ⟨h1,h2⟩:=hi id B hB;exact (z.hr.blk id B h2).mapV (by simp only [muI]; rw [if_pos h1]) λhv=>hv.split ids
 have hrO:HR w O1 (muO ids μ0) h' st.n:=by
  refine ⟨z.hr.olt,λid b k e=>z.hr.scope id b k (kaZ e).2,λid ao b k k' e e'=>z.hr.inj id ao b k k' (kaZ e).2 (kaZ e').2,λid b k e=>z.hr.notO id b k (kaZ e).2,λid B hB=>?_⟩;obtain ⟨h1,h2⟩:=ho id B hB;exact (z.hr.blk id B h2).mapV (by simp only [muO]; rw [if_neg (by rw [h1]; decide)]) λhv=>hv.out ids
 have ap:Evo w μ0 st.n w (muO ids μ0) st.n:=⟨rfl,rfl,rfl,jag _,jag _,λ_ _ _=>rfl,λb c T f m=>⟨c,m,rfl⟩,λi _=>by unfold muO; split <;> simp,λi b k e hn=>absurd (z.hr.scope i b k (kaZ e).2).1 (by omega)⟩;have X:SR N D O1 (muO ids μ0) ⟨st.env,h',st.n⟩ a w:=⟨hrO,z.size,z.defers.evo ap,λs=>(z.env s).out ids,z.gs,z.gi.evo ap λ_=>.inl rfl⟩;have hv:=z.ev g;have aL:=aH.evo ap.d;refine wpIn_mono (Q:=Post N D O1 Q (muO ids μ0) w st.n) ?_ λe a w q=>Post.from q ap.d;obtain ⟨μ,hμ⟩:∃ μ,μ=muO ids μ0:=⟨_,rfl⟩;rw [<-hμ] at hrI hrO X aL ⊢;obtain ⟨⟨aD,bg,aB,aC⟩,ay⟩:=aN;rw [hg] at hv;generalize hu:a.eval g=u at hv;cases hv with
 | fn _ _ vs us bj hc aZ=>
 refine wpIn_rangeFunc ?_;intro fn _;obtain ⟨aG,ms,l,Y,W1,aa,aI,j1,bh⟩:∃ (aG:Nat) (ms:Ya Nat) (l:Nat) (Y:LoopState->Yb Code->Loop) (W1:World),(Y=λaj pe=>{ state:=aj,pending:=pe,fn,tmps:=a.tmps,params:=ps,assign,body,defers:=aG })/\
   (Instr.enterLoop fn a.tmps ps assign body (FF ro).round).run P w = .ok (l,ms.map (λb=>({ target:=.collected b,args:=#[] }:Deferred))) W1/\LJ O1 w μ st.n l ms Y .ready none h' st.n μ W1/\ms.Nodup:=by
  cases ro with
  | none=>
   have e1:=Evo.alloc_new X.hr (.deferred (some []));have e2:=Evo.alloc_new e1.2 (.loop { state:=.ready,pending:=none,fn,tmps:=a.tmps,params:=ps,assign,body,defers:=w.heap.size });refine ⟨w.heap.size,[w.heap.size],w.heap.size+1,_,_,rfl,run_enterLoop_outer _ _ _ _ _,⟨e2.2,e1.1.trans e2.1,by omega,?_,λid k e=>?_,λd hd=>?_⟩,by simp⟩
   ·have:=World.alloc_heap_new (w.alloc (.deferred (some []))) (.loop { state:=.ready,pending:=none,fn,tmps:=a.tmps,params:=ps,assign,body,defers:=w.heap.size })
    rwa [World.size_alloc] at this
   ·have:=(X.hr.scope id _ k e).2; omega
   ·simp only [jdj] at hd;subst hd;exact ⟨jag _,by omega,(Below.heap_alloc _ _ _ (by simp)).trans (World.alloc_heap_new w _),λid k e=>by have:=(X.hr.scope id _ k e).2; omega⟩
  | some l0=>
   obtain ⟨_,⟨r0,aQ⟩,_⟩:=aL;have e1:=Evo.alloc_new X.hr (.loop { state:=.ready,pending:=none,fn,tmps:=a.tmps,params:=ps,assign,body,defers:=r0.defers });exact ⟨r0.defers,[],w.heap.size,_,_,rfl,knD aQ,⟨e1.2,e1.1,jag _,World.alloc_heap_new w _,λid k e=>(by have:=(X.hr.scope id _ k e).2; omega),λd hd=>(by cases hd)⟩,List.nodup_nil⟩
 have al:=X.size;refine ⟨l,_,W1,{ target:=.fn (.func gf) vs,args:=#[.func (.yield l) #[] #[]] },W1,gf,#[.func (.yield l) #[] #[]]++vs,W1,aI,?_,λ_ _=>trivial,?_,(λe=>by cases e),?_⟩
 ·simp only [resolve,hu];simp [go_sem,Deferred.ofValue]
 ·have m:aD.body≠none:=by intro aU; rw [aU] at aB; cases aB
  have aM:aD.name≠ "runtime.NumGoroutine":=by intro ba; rw [ba] at aC; simp at aC
  simp [invoke,callFunc,bg,aM,m]
 ·let G:IterG:=⟨l,xs,λk Oi W=>(∀ b,Oi b->b<W.heap.size)/\∃ h n Z,I k h n/\LJ O1 w μ st.n l ms Y .ready none h n Z W/\(∀ b id k,Z id=some (b,k)->Oi b)/\Oi l/\∀ b,O1 b->Oi b,
   λW=>∃ c h n Z,jumpQ Q st.env c h n/\LJ O1 w μ st.n l ms Y .done (some c) h n Z W⟩
  have bk:∀ {W:World} {k:Nat} {Oi:Nat->Prop},G.J k Oi W->∀ b,Oi b->b<W.heap.size:=λhj=>hj.1;have ok:IterOk P G:=by
   refine ⟨λk Oi W W' hj m=>?_,λW W' hj m=>?_,λk Oi W ak x hj hO hx bm aX=>?_⟩
   ·obtain ⟨q1,h,n,Z,q2,q3,q4,q5⟩:=hj;exact ⟨λb bc=>jan (q1 b bc) m.size,h,n,Z,q2,q3.below m,q4,q5⟩
   ·obtain ⟨c,h,n,Z,q1,q2⟩:=hj;exact ⟨c,h,n,Z,q1,q2.below m⟩
   ·obtain ⟨_,h,n,Z,q2,q3,q4,q5,q6⟩:=hj;have be:x.length=ps.size:=aP x (jak hx);have hy:=run_yield (P:=P) (args:=ak) q3.hl (by rw [aa]; simp only; omega);rw [aa] at hy;refine ⟨fn,_,assign,body,hy,roundIn_of_wpIn trivial ?_⟩;have aJ:SR N D O1 Z ⟨kks ps.toList x st.env,h,n⟩ { tmps:=(ps.zip ak).foldl (λtmps (t,a)=>tmps.setIfInBounds t a) a.tmps,defers:=[] } W:=by
     have am:(ps.zip ak).foldl (λtmps (t,a)=>tmps.setIfInBounds t a) a.tmps=(ps.toList.zip ak.toList).foldl (λt (p:Tmp×Ye)=>t.setIfInBounds p.1 p.2) a.tmps:=by
      rw [<-Array.foldl_toList,Array.toList_zip]
     refine ⟨q3.hr,by rw [am,kxv]; exact al,.nil _ _ _ (jda X.defers.2.1 q3.evo.size),λs=>?_,λe=>(by rw [hD] at e; cases e),by unfold GInv; rw [hD]; trivial⟩;show VR W O1 Z n _ (Array.getD ((ps.zip ak).foldl (λtmps (t,a)=>tmps.setIfInBounds t a) a.tmps) s undef);rw [am];refine kze W O1 Z n (by simpa using be) (by simp; omega) (λs=>(X.env s).evo q3.evo) (λp hp=>by rw [al]; exact aR p hp) (λj c hj=>?_) s;obtain ⟨u,aW,aV⟩:=aX j c hj;refine ⟨u,by simpa using aW,aV.lift λb m=>?_⟩;rcases m with m | ⟨id,k',m⟩
     ·exact q6 b m
     ·exact q4 b id k' m
    have aA:RO D (some l) W Z:=⟨hD,⟨_,q3.hl⟩,q3.ul⟩;refine wpIn_mono (round k x h n hx q2 O1 (λ_=>rfl) (some l) Z _ W aA aJ) ?_;rintro e a1 w1 ⟨s1,μ1,O',o',ad,ai,aS⟩;obtain rfl:=o' hD;have ab:=aS hD;cases e with
    | normal=>
     have j2:=q3.evo2 ab ai.hr;have j3:=j2.put (sta2:=.busy) (pe2:=none);refine ⟨_,run_beginRound j2.hl (by rw [aa]),?_⟩;have aT:(w1.putObj l (.loop { Y .ready none with state:=.busy }))=w1.putObj l (.loop (Y .busy none)):=by rw [aa]
     rw [aT];have bf:SR N D O' μ1 s1 a1 (w1.putObj l (.loop (Y .busy none))):=by
      obtain ⟨m1,m2,bs,m3,m4,m5⟩:=ai.defers;refine ⟨j3.hr,ai.size,⟨m1,by rw [World.putObj_size]; exact m2,bs,m3,m4,λb m=>?_⟩,λs=>(ai.env s).putObj _ j2.hl (by simp),ai.gs,by unfold GInv; rw [hD]; trivial⟩;obtain ⟨r1,r2,r3⟩:=m5 b m;exact ⟨r1,(World.putObj_heap_other (by rintro rfl; rw [j2.hl] at r2; cases r2)).trans r2,r3⟩
     refine wpIn_mono (ad O' (λ_=>rfl) (some l) μ1 a1 _ ⟨hD,⟨_,j3.hl⟩,j3.ul⟩ bf) ?_;rintro e3 a3 w3 ⟨s3,μ3,O3,o3,af,ax,aY⟩;obtain rfl:=o3 hD;have ac:=aY hD;have j4:=j3.evo2 ac ax.hr;have bl:W.heap.size<=w1.heap.size:=ab.size;have aw:∀ b,b<W.heap.size->¬ Oi b->∀ o2,(w3.putObj l o2).heap[b]?=W.heap[b]?:=λb m ah o2=>by
      have u1:∀ id k,Z id≠some (b,k):=λid k e=>ah (q4 b id k e);have u2:=ab.un m u1;rw [World.putObj_heap_other (by rintro rfl; exact ah q5),ac.keep b (by rw [World.putObj_size]; omega) u2,World.putObj_heap_other (by rintro rfl; exact ah q5),ab.keep b m u1]
     have aO:∀ o2,KeepB Oi W (w3.putObj l o2):=λo2=>⟨ac.os.trans ab.os,ac.tape.trans ab.tape,ac.output.trans ab.output,by rw [World.putObj_size]; have:=ac.size; rw [World.putObj_size] at this; omega,λb m ah=>aw b m ah o2⟩;have aK:∀ b id k,μ3 id=some (b,k)->b<W.heap.size->Oi b:=λb id k e m=>by
      by_cases hc:∃ id k,Z id=some (b,k)
      ·obtain ⟨id,k,hc⟩:=hc; exact q4 b id k hc
      ·exfalso;have u1:∀ id k,Z id≠some (b,k):=λid k e=>hc ⟨id,k,e⟩;exact ac.un (by rw [World.putObj_size]; omega) (ab.un m u1) id k e
     have ar:W.heap.size<=w3.heap.size:=by have:=ac.size; rw [World.putObj_size] at this; omega
     let O2:Nat->Prop:=λb=>Oi b\/∃ id k,μ3 id=some (b,k)
     have fin:∀ (U:Yb Code),(Instr.endRound l U).run P w3 = .ok (.bool U.isNone) (w3.putObj l (.loop (Y (if U.isNone then .ready else .done) U))):=λU=>by
      have:=run_endRound (P:=P) U j4.hl;rw [this,aa]
     have rp:∀ (U:Yb Code) (e:Ending),((e = .returned (.bool true)/\G.J (k+1) O2 (w3.putObj l (.loop (Y (if U.isNone then .ready else .done) U))))\/(e = .returned (.bool false)/\G.Jx (w3.putObj l (.loop (Y (if U.isNone then .ready else .done) U)))))->kxc G k Oi W e (w3.putObj l (.loop (Y (if U.isNone then .ready else .done) U))):=λU e he=>
      ⟨O2,λb m=>by
       rw [World.putObj_size];rcases m with m | ⟨id,k',m⟩
       ·exact jan (hO b m) ar
       ·exact (ax.hr.scope id b k' m).2,λb m ae=>by
       rcases m with m | ⟨id,k',m⟩
       ·exact m
       ·exact aK b id k' m ae,aO _,he⟩
     cases e3 with
     | normal=>
      refine ⟨_,_,fin none,rp none _ (.inl ⟨rfl,λb m=>?_,s3.h,s3.n,μ3,af,j4.put,λb id k e=>.inr ⟨id,k,e⟩,.inl q5,λb m=>.inl (q6 b m)⟩)⟩;rw [World.putObj_size];rcases m with m | ⟨id,k',m⟩
      ·exact jan (hO b m) ar
      ·exact (ax.hr.scope id b k' m).2
     | ret=>exact ⟨_,_,fin (some .ret),rp (some .ret) _ (.inr ⟨rfl,.ret,s3.h,s3.n,μ3,af,j4.put⟩)⟩
     | exit id=>exact ⟨_,_,fin (some (.exit id)),rp (some (.exit id)) _ (.inr ⟨rfl,.exit id,s3.h,s3.n,μ3,af,j4.put⟩)⟩
     | goto t=>exact af.elim
     | panic ch=>exact af.elim
     | outgrown=>exact af.elim
    | exit id=>exact ad.elim
    | goto t=>exact ad.elim
    | ret=>exact ad.elim
    | panic ch=>exact ad.elim
    | outgrown=>exact ad.elim
  let O0:Nat->Prop:=λb=>O1 b\/(∃ id k,μ id=some (b,k))\/b=l
  have aE:=(jal.1 j1.hl).1;have hO0:∀ b,O0 b->b<W1.heap.size:=λb m=>by
   rcases m with m | ⟨id,k,m⟩ | rfl
   ·exact jan (X.hr.olt b m) j1.evo.size
   ·exact jan (X.hr.scope id b k m).2 j1.evo.size
   ·exact aE
  refine (callsIn_FF.2 (callsIn_FF.1 (ay O0 W1 vs G rfl ok hO0 (by rw [bj,hs.len]) (λj c hj=>?_) ⟨hO0,h',st.n,μ,h0,j1,λb id k e=>.inr (.inl ⟨id,k,e⟩),.inr (.inr rfl),λb m=>.inl m⟩))).mono ?_
  ·obtain ⟨b,m⟩:=kah hs.len hj;refine ⟨us j,hc j b m,?_⟩;have v2:VR w (Av O1 μ) mu0 0 c (us j):=(hs.at j b c m hj).vr hrI (by have:=(aZ j b m).split ids; rwa [<-hμ] at this);refine VR.round ⟨j1.evo.os,j1.evo.tape,j1.evo.output,j1.evo.size,λb m hn=>j1.evo.keep b m λid k e=>hn (.inr ⟨id,k,e⟩)⟩ (λb m ae=>?_) v2;rcases m with m | m | rfl
   ·exact .inl m
   ·exact .inr m
   ·exact absurd ae (by have:=j1.ll; omega)
  ·rintro e W2 ⟨⟨v,rfl⟩,aF⟩;have fin:∀ aj pe h n Z,LJ O1 w μ st.n l ms Y aj pe h n Z W2->(∀ c,pe=some c->jumpQ Q st.env c h n)->(pe=none->Q .normal ⟨st.env,h,n⟩)->aj≠.busy->rangePost (FF ro) 0 P l (Post N D O1 Q μ w st.n) { a with defers:=ms.map (λb=>({ target:=.collected b,args:=#[] }:Deferred))++a.defers } (.returned v) W2:=λaj pe h n Z jj ad bb bi=>by
    have j5:=jj.put (sta2:=.exhausted) (pe2:=pe);refine ⟨pe,W2.putObj l (.loop (Y .exhausted pe)),?_,?_⟩
    ·have:=run_endLoop (P:=P) jj.hl (by rw [aa]; exact bi);rw [this,aa]
    ·have az:SR N D O1 Z ⟨st.env,h,n⟩ { a with defers:=ms.map (λb=>({ target:=.collected b,args:=#[] }:Deferred))++a.defers } (W2.putObj l (.loop (Y .exhausted pe))):=by
      obtain ⟨m1,m2,bs,m3,m4,m5⟩:=X.defers;refine ⟨j5.hr,X.size,⟨λe=>(by rw [hD] at e; cases e),jda m2 j5.evo.size,ms++bs,?_,by simp [m4],λb m=>?_⟩,λs=>(X.env s).evo j5.evo,X.gs,by unfold GInv; rw [hD]; trivial⟩
      ·refine jea.2 ⟨bh,m3,λx hx y hy e=>?_⟩;subst e;obtain ⟨r1,r2,r3⟩:=m5 x hy;have:=(jal.1 r2).1;have:=(j5.ms x hx).1;omega
      ·rcases jaw.1 m with m | m
       ·obtain ⟨r1,r2,r3,r4⟩:=j5.ms b m;exact ⟨jda m2 r1,r3,r4⟩
       ·obtain ⟨r1,r2,r3⟩:=m5 b m;have ae:=(jal.1 r2).1;exact ⟨r1,(j5.evo.keep b ae r3).trans r2,j5.evo.un ae r3⟩
     cases pe with
     | none=>exact ⟨⟨st.env,h,n⟩,Z,O1,(λ_=>rfl),bb rfl,az,j5.evo.d⟩
     | some c=>
      have aq:=ad c rfl;unfold jumpQ at aq;cases c with
      | ret=>exact wpIn_ret ⟨⟨st.env,h,n⟩,Z,O1,(λ_=>rfl),aq,az,j5.evo.d⟩
      | exit id=>exact wpIn_exit ⟨⟨st.env,h,n⟩,Z,O1,(λ_=>rfl),aq,az,j5.evo.d⟩
      | _=>exact aq.elim
   rcases aF with ⟨O',_,h,n,Z,q2,q3,_⟩ | ⟨c,h,n,Z,q1,q2⟩
   ·exact fin _ _ _ _ _ q3 (λc e=>by cases e) (λ_=>done h n q2) (by simp)
   ·exact fin _ _ _ _ _ q2 (λc' e=>by cases e; exact q1) (λe=>by cases e) (by simp)
end
inductive Ty where
 | i (k:IntKind) | b | s | un | nt
 | pr (x y:Ty) | w (x:Ty) | sl (x:Ty) | pt (x:Ty) | op (x:Ty) | ar (n:Nat) (x:Ty) | sm (x y:Ty) | fn (n:Nat) (x y:Ty)
 deriving DecidableEq
structure Arr (n:Nat) (α:Type) where
 l:List α
 h:l.length=n
@[reducible] def Ty.den:Ty->Type
 | .i _=>Int
 | .b=>Bool
 | .s=>List UInt8
 | .un=>Unit
 | .nt=>Nat
 | .pr x y=>x.den×y.den
 | .w x=>x.den
 | .sl x=>List x.den
 | .pt x=>x.den
 | .op x=>Option x.den
 | .ar n x=>Arr n x.den
 | .sm x y=>x.den⊕y.den
 | .fn _ x y=>x.den->Option y.den
def Ty.wd:Ty->Nat
 | .i _ | .b | .s | .sl _ | .pt _ | .op _=>1
 | .pr x y=>x.wd+y.wd
 | .w x=>x.wd
 | .ar n x=>n*x.wd
 | _=>0
def Ty.agg:Ty->Bool
 | .pr _ _ | .w _ | .ar _ _ | .un=>true
 | _=>false
def Ty.dat:Ty->Bool
 | .i _ | .b | .s | .un=>true
 | .sl x | .pt x | .op x | .w x | .ar _ x=>x.dat
 | .pr x y=>x.dat&&y.dat
 | _=>false
def Ty.flat:Ty->Bool
 | .i _ | .b | .s | .un=>true
 | .w x=>x.flat
 | .pr x y=>x.flat&&y.flat
 | _=>false
def Ty.enc:(t:Ty)->t.den->Ya AV
 | .i k,x=>[.sc (.int k x)]
 | .b,x=>[.sc (.bool x)]
 | .s,x=>[str x]
 | .un,_=>[]
 | .pr t u,x=>t.enc x.1++u.enc x.2
 | .w a,x=>a.enc x
 | .sl a,l=>[.sl (l.map a.enc)]
 | .pt a,x=>[.fp (a.enc x)]
 | .op a,x=>[ptrE a.enc x]
 | .ar _ a,x=>(x.l.map a.enc).flatten
 | .nt,_=>[] | .sm _ _,_=>[] | .fn _ _ _,_=>[]
def Ty.av (t:Ty) (x:t.den):AV:=if t.agg then .ag (t.enc x) else (t.enc x).headD .un
def untup:Nat->Ty->Ya Ty
 | 0,_=>[]
 | 1,t=>[t]
 | n+2,.pr a b=>a::untup (n+1) b
 | _+2,t=>[t]
def tup:Ya Ty->Ty
 | []=>.un
 | [t]=>t
 | t::ts=>.pr t (tup ts)
inductive PV where
 | un | ud
 | c (t:Ty)
 | sc (v:Value)
 | ptr (id j:Nat)
 | mw (id:Nat) | mp (id:Nat) | fw (id:Nat)
 | fn (g:FuncId) (caps:List PV)
 | ag (vs:List PV)
 | gs (t:Ty)
inductive PB where
 | bx (T:TypeId) (vs:List PV)
 | el (T:TypeId) (t:Ty)
 | sl (T:TypeId) (t:Ty)
 | mp (k v:Ty)
 | fm (T:TypeId) (t:Ty) (j:Nat) (U:TypeId) (u:Ty)
 | si
def isE {α:Type} (l:Ya α):Bool:=l.isEmpty
def lbeq {α:Type} (f:α->α->Bool):Ya α->Ya α->Bool
 | [],[]=>true
 | x::l,y::r=>f x y&&lbeq f l r
 | _,_=>false
def teq:(t:Ty)->t.den->t.den->Bool
 | .i _,x,y=>decide (x=y)
 | .b,x,y=>x==y
 | .s,x,y=>decide (x=y)
 | .un,_,_=>true
 | .nt,x,y=>decide (x=y)
 | .pr a b,x,y=>teq a x.1 y.1&&teq b x.2 y.2
 | .w a,x,y=>teq a x y
 | .pt a,x,y=>teq a x y
 | .sl a,x,y=>lbeq (teq a) x y
 | .op a,x,y=>(match x,y with | none,none=>true | some x,some y=>teq a x y | _,_=>false)
 | .ar _ a,x,y=>lbeq (teq a) x.l y.l
 | .sm a b,x,y=>(match x,y with | .inl x,.inl y=>teq a x y | .inr x,.inr y=>teq b x y | _,_=>false)
 | .fn _ _ _,_,_=>false
def bthO (t:Ty) (a b:Yb t.den):Yb t.den:=
 match a,b with
 | some x,some y=>if teq t x y=true then some x else none
 | _,_=>none
theorem ksy {α:Type} {f:α->α->Bool} (h:∀ x y,f x y=true->x=y):∀ l r:Ya α,lbeq f l r=true->l=r
 | [],[],_=>rfl
 | x::l,y::r,e=>by
  simp only [lbeq,jac] at e;rw [h x y e.1,ksy h l r e.2]
 | [],_::_,e=>by simp [lbeq] at e
 | _::_,[],e=>by simp [lbeq] at e
theorem kgV:∀ (t:Ty) (x y:t.den),teq t x y=true->x=y
 | .i _,x,y,h=>by simpa [teq] using h
 | .b,x,y,h=>by simpa [teq] using h
 | .s,x,y,h=>by simpa [teq] using h
 | .un,_,_,_=>rfl
 | .nt,x,y,h=>by simpa [teq] using h
 | .pr a b,(x1,x2),(y1,y2),h=>by
  simp only [teq,jac] at h;rw [kgV a _ _ h.1,kgV b _ _ h.2]
 | .w a,x,y,h=>kgV a x y h
 | .pt a,x,y,h=>kgV a x y h
 | .sl a,x,y,h=>ksy (kgV a) x y h
 | .op a,none,none,_=>rfl
 | .op a,some x,some y,h=>by rw [kgV a x y h]
 | .op a,some _,none,h=>by simp [teq] at h
 | .op a,none,some _,h=>by simp [teq] at h
 | .ar _ a,⟨x,hx⟩,⟨y,hy⟩,h=>by have:=ksy (kgV a) x y h; subst this; rfl
 | .sm a b,.inl x,.inl y,h=>by rw [kgV a x y h]
 | .sm a b,.inr x,.inr y,h=>by rw [kgV b x y h]
 | .sm a b,.inl _,.inr _,h=>by simp [teq] at h
 | .sm a b,.inr _,.inl _,h=>by simp [teq] at h
 | .fn _ _ _,_,_,h=>by simp [teq] at h
theorem ktp {t:Ty} {a b:Yb t.den} {r:t.den} (h:bthO t a b=some r):a=some r/\b=some r:=by
 unfold bthO at h;split at h
 ·split at h
  ·rename_i x y e;cases h;exact ⟨rfl,by rw [kgV _ _ _ e]⟩
  ·cases h
 ·cases h
structure Alg where
 D:Ty->Type
 Ans:Ty->Type
 k0:{x:Ty}->String->x.den->D x
 k1:{x y:Ty}->String->(x.den->y.den)->D x->D y
 k2:{x y z:Ty}->String->(x.den->y.den->z.den)->D x->D y->D z
 k3:{x y z u:Ty}->String->(x.den->y.den->z.den->u.den)->D x->D y->D z->D u
 ret:{t:Ty}->D t->Ans t
 fail:{t:Ty}->String->Ans t
 ask:{t:Ty}->Nat->List (Nat×PV)->List (Nat×PB)->Ans t
 note:{t:Ty}->String->Ans t->Ans t
 ite:{t:Ty}->D .b->Ans t->Ans t->Ans t
 p1:{x y t:Ty}->String->(x.den->Option y.den)->D x->(D y->Ans t)->Ans t
 p2:{x y z t:Ty}->String->(x.den->y.den->Option z.den)->D x->D y->(D z->Ans t)->Ans t
 p3:{x y z u t:Ty}->String->(x.den->y.den->z.den->Option u.den)->D x->D y->D z->(D u->Ans t)->Ans t
 jn:{x t:Ty}->Ans x->(D x->Ans t)->Ans t
 lp:{x y t:Ty}->D x->(D x->Ans (.sm x y))->(D y->Ans t)->Ans t
 cs:{x y t:Ty}->D (.sm x y)->(D x->Ans t)->(D y->Ans t)->Ans t
 chk:{t u:Ty}->Ans u->Ans t->Ans t
 stop:{t:Ty}->Ans t
 bth:{t:Ty}->Ans t->Ans t->Ans t
 els:{t:Ty}->Ans t->Ans t->Ans t
 lam:{n:Nat}->{x y:Ty}->(D x->Ans y)->D (.fn n x y)
def itN {α β:Type} (F:α->Yb (α⊕β)):Nat->α->Yb β
 | 0,_=>none
 | n+1,x=>match F x with
  | none=>none
  | some (.inl y)=>itN F n y
  | some (.inr z)=>some z
def iter {α β:Type} (F:α->Yb (α⊕β)) (x:α):Yb β:=itN F 18446744073709551616 x
def elsO {α:Type} (a b:Yb α):Yb α:=match a with | some x=>some x | none=>b
theorem kzf {α:Type} {a b:Yb α} {r:α} (h:elsO a b=some r):a=some r\/b=some r:=by
 cases a with
 | none=>exact .inr h
 | some x=>exact .inl h
@[reducible] def sem:Alg where
 D:=Ty.den
 Ans t:=Option t.den
 k0 _ v:=v
 k1 _ f a:=f a
 k2 _ f a b:=f a b
 k3 _ f a b c:=f a b c
 ret v:=some v
 fail _:=none
 ask _ _ _:=none
 note _ a:=a
 ite c a b:=if c=true then a else b
 p1 _ f a k:=(f a).bind k
 p2 _ f a b k:=(f a b).bind k
 p3 _ f a b c k:=(f a b c).bind k
 jn a k:=a.bind k
 lp x F k:=(iter F x).bind k
 cs s f g:=match s with | .inl a=>f a | .inr b=>g b
 chk b a:=b.bind λ_=>a
 stop:=none
 bth a b:=bthO _ a b
 els a b:=elsO a b
 lam f:=f
inductive TV (A:Alg) where
 | un | ud
 | c (t:Ty) (x:A.D t)
 | kb (b:Bool)
 | sc (v:Value)
 | ptr (id j:Nat)
 | adr (id:Nat) (i:A.D (.i .i64)) (j:Nat)
 | aa (id:Nat) (i:A.D (.i .i64))
 | fq (t:Ty) (x:A.D t) (off:Nat)
 | mw (id:Nat)
 | ms (id:Nat) (off len:A.D (.i .i64))
 | mp (id:Nat)
 | fw (id:Nat)
 | fr (id:Nat) (i:A.D (.i .i64))
 | fo (id:Nat) (i:A.D (.i .i64)) (j:Nat)
 | fa (id:Nat) (i k:A.D (.i .i64)) (o:Nat)
 | fn (g:FuncId) (caps:List (TV A))
 | cv (m:Nat) (x y:Ty) (F:A.D (.fn m x y))
 | tp (vs:List (TV A))
 | ag (vs:List (TV A))
 | gs (t:Ty) (l:A.D (.sl t))
 | yl (id:Nat)
 | kp (id:Nat)
inductive TB (A:Alg) where
 | bx (T:TypeId) (vs:List (TV A))
 | el (T:TypeId) (t:Ty) (x:A.D t)
 | sl (T:TypeId) (t:Ty) (l:A.D (.sl t))
 | mp (k v:Ty) (l:A.D (.sl (.pr k v)))
 | fm (T:TypeId) (t:Ty) (j:Nat) (U:TypeId) (u:Ty) (l:A.D (.sl t)) (ho:Option (A.D (.i .i64)))
 | si (x:A.D (.pr .s (.i .i64)))
structure Cx (A:Alg) where
 e0:List (Nat×TV A)
 g:List (Nat×TB A)
structure TS (A:Alg) where
 env:List (Nat×TV A)
 hp:List (Nat×Option (TB A))
 n:Nat
 dy:Bool
def alk {α:Type}:Ya (Nat×α)->Nat->Yb α
 | [],_=>none
 | (k,v)::l,x=>if x=k then some v else alk l x
def tlk {A:Alg} (c:Cx A) (s:TS A) (x:Nat):TV A:=
 match alk s.env x with
 | some v=>v
 | none=>(alk c.e0 x).getD .un
def thp {A:Alg} (c:Cx A) (s:TS A) (id:Nat):Yb (TB A):=
 match alk s.hp id with
 | some b=>b
 | none=>alk c.g id
structure Pat where
 env:List (Nat×PV)
 hp:List (Nat×PB)
mutual
def PV.tys:PV->Ya Ty
 | .c t=>[t]
 | .gs t=>[.sl t]
 | .fn _ i=>PV.tysL i
 | .ag vs=>PV.tysL vs
 | _=>[]
def PV.tysL:Ya PV->Ya Ty
 | []=>[]
 | v::vs=>v.tys++PV.tysL vs
end
def PB.tys:PB->Ya Ty
 | .bx _ vs=>PV.tysL vs
 | .el _ t=>[t]
 | .sl _ t=>[.sl t]
 | .mp k v=>[.sl (.pr k v)]
 | .fm _ t _ _ _=>[.sl t]
 | .si=>[.pr .s (.i .i64)]
def Pat.tys (p:Pat):Ya Ty:=(p.env.map λx=>x.2.tys).flatten++(p.hp.map λx=>x.2.tys).flatten
def Pat.ty (p:Pat):Ty:=tup p.tys
def stTy:Ya Ty->Ty
 | []=>.un
 | [t]=>.w t
 | ts=>tup ts
def tyF (P:Yd):Nat->Yc->Yb Ty
 | 0,_=>none
 | d+1,T=>match P.underlying T with
  | some .bool=>some .b
  | some (.int k)=>some (.i k)
  | some .string=>some .s
  | some (.slice e)=>(tyF P d e).map .sl
  | some (.pointer e)=>(tyF P d e).map .op
  | some (.array n e)=>(tyF P d e).map (.ar n)
  | some (.struct fs)=>(fs.toList.mapM λf=>tyF P d f.type).map stTy
  | _=>none
def tyOf (P:Yd) (T:Yc):Yb Ty:=tyF P 9 T
def kjA (P:Yd) (T:Yc):Bool:=match P.underlying T with | some .string=>true | _=>false
def koW (P:Yd) (T:Yc):Bool:=match P.underlying T with | some .bool=>true | _=>false
def kvC (P:Yd) (T:Yc):Bool:=match P.underlying T with | some (.map _ _)=>true | _=>false
def kuB (P:Yd) (T:Yc):Bool:=match elemO P T with | some e=>(match P.underlying e with | some (.int .u8)=>true | _=>false) | none=>false
theorem kyY {P:Yd} {T:Yc} (h:kuB P T=true):∃ e,elemO P T=some e/\P.underlying e=some (.int .u8):=by
 unfold kuB at h; split at h
 ·rename_i e i;split at h
  ·exact ⟨e,i,by assumption⟩
  ·cases h
 ·cases h
theorem khJ {P:Yd} {T:Yc} (h:kjA P T=true):P.underlying T=some .string:=by
 unfold kjA at h; split at h
 ·assumption
 ·cases h
theorem kre {P:Yd} {T:Yc} (h:koW P T=true):P.underlying T=some .bool:=by
 unfold koW at h; split at h
 ·assumption
 ·cases h
theorem kyQ {P:Yd} {T:Yc} (h:kvC P T=true):∃ k v,P.underlying T=some (.map k v):=by
 unfold kvC at h; split at h
 ·exact ⟨_,_,by assumption⟩
 ·cases h
def kjf (P:Yd):Nat->Yc->Yb (Ya Yc)
 | 0,_=>none
 | d+1,T=>match P.underlying T with
  | some (.struct fs)=>(fs.toList.mapM λf=>kjf P d f.type).map List.flatten
  | some (.array n e)=>(kjf P d e).map λl=>(List.replicate n l).flatten
  | some _=>some [T]
  | none=>none
def eqOkL (P:Yd) (i:Yc->Ty->Bool):Ya Field->Nat->Ty->Bool
 | [],_,t=>decide (t = .un)
 | [f],o,t=>f.name != "_"&&decide (f.offset=o)&&decide (P.cellsOf f.type=t.wd)&&decide (aggO P f.type=some t.agg)&&i f.type t
 | f::g::fs,o,t=>match t with
  | .pr u v=>f.name != "_"&&decide (f.offset=o)&&decide (P.cellsOf f.type=u.wd)&&decide (aggO P f.type=some u.agg)&&i f.type u&&eqOkL P i (g::fs) (o+u.wd) v
  | _=>false
def eqOkT (P:Yd):Nat->Yc->Ty->Bool
 | 0,_,_=>false
 | d+1,T,t=>match P.underlying T with
  | some .bool=>decide (t = .b)
  | some (.int k)=>decide (t = .i k)
  | some .string=>decide (t = .s)
  | some (.struct fs)=>!P.stoodInHeld T&&match fs.toList,t with
   | [f],.w u=>eqOkL P (eqOkT P d) [f] 0 u
   | [_],_=>false
   | fs,t=>eqOkL P (eqOkT P d) fs 0 t
  | _=>false
def kn:IntKind->String
 | .i64=> ".i64" | .i32=> ".i32" | .i16=> ".i16" | .i8=> ".i8" | .u64=> ".u64" | .u32=> ".u32" | .u16=> ".u16" | .u8=> ".u8"
def wk (k:IntKind) (x:Int):Int:=match k with | .i64=>w64 x | k=>k.wrap x
def wn (k:IntKind):String:=match k with | .i64=> "w64" | k=> "IntKind.wrap "++kn k
def lenI {α:Type} (l:Ya α):Int:=l.length
def iop (op:BinOp) (k:IntKind):Yb (String×(Int->Int->Int)):=
 match op with
 | .add=>some (""++wn k++ "",λa b=>wk k (a+b))
 | .sub=>some (""++wn k++ "",λa b=>wk k (a-b))
 | .mul=>some (""++wn k++ "",λa b=>wk k (a*b))
 | .and=>some (""++kn k++ "",λa b=>bitsI .and k a b)
 | .or=>some (""++kn k++ "",λa b=>bitsI .or k a b)
 | .xor=>some (""++kn k++ "",λa b=>bitsI .xor k a b)
 | .andNot=>some (""++kn k++ "",λa b=>bitsI .andNot k a b)
 | _=>none
def icmp (op:BinOp):Yb (String×(Int->Int->Bool)):=
 match op with
 | .eql=>some ("",λa b=>a==b)
 | .neq=>some ("",λa b=>a != b)
 | .lss=>some ("",λa b=>decide (a<b))
 | .leq=>some ("",λa b=>decide (a<=b))
 | .gtr=>some ("",λa b=>decide (b<a))
 | .geq=>some ("",λa b=>decide (b<=a))
 | _=>none
def gquo (k:IntKind) (a b:Int):Yb Int:=if b=0 then none else some (wk k (a.tdiv b))
def grem (a b:Int):Yb Int:=if b=0 then none else some (a.tmod b)
def gshl (k:IntKind) (a b:Int):Yb Int:=if 0<=b then some (wk k (a*2 ^ (min b.toNat k.bits))) else none
def gshr (k:IntKind) (a b:Int):Yb Int:=if 0<=b then some (a.fdiv (2 ^ (min b.toNat k.bits))) else none
def ipop (op:BinOp) (k:IntKind):Yb (String×(Int->Int->Yb Int)):=
 match op with
 | .quo=>some (""++kn k++ "",gquo k)
 | .rem=>some ("",grem)
 | .shl=>some (""++kn k++ "",gshl k)
 | .shr=>some (""++kn k++ "",gshr k)
 | _=>none
def scmp (op:BinOp):Yb (String×(Ya UInt8->Ya UInt8->Bool)):=
 match op with
 | .eql=>some ("",λa b=>a==b)
 | .neq=>some ("",λa b=>!(a==b))
 | .lss=>some ("",λa b=>Op.bytesLess a b)
 | .leq=>some ("",λa b=>Op.bytesLess a b||a==b)
 | .gtr=>some ("",λa b=>!(Op.bytesLess a b||a==b))
 | .geq=>some ("",λa b=>!(Op.bytesLess a b))
 | _=>none
def lset {α:Type} (l:Ya α) (i:Int) (x:α):Ya α:=l.set i.toNat x
def gmi (o n i:Int):Yb Int:=if 0<=i/\i<n then some (o+i) else none
def gmb (n a b:Int):Yb Unit:=if 0<=a/\a<=b/\b<=n then some () else none
def lcopy {α:Type} (l:Ya α) (o n:Int) (xs:Ya α):Ya α:=l.take o.toNat++xs.take (min xs.length n.toNat)++l.drop (o.toNat+min xs.length n.toNat)
def kBa {α:Type} (l:Ya α) (p:Int×Int) (xs:Ya α):Ya α:=lcopy l p.1 p.2 xs
def gstr (l:Ya UInt8) (i:Int):Yb Int:=(gi l i).map λb=>(b.toNat:Int)
def garr {n:Nat} {α:Type} (a:Arr n α) (i:Int):Yb α:=gi a.l i
def aset {n:Nat} {α:Type} (a:Arr n α) (i:Int) (x:α):Arr n α:=⟨a.l.set i.toNat x,by rw [jbs]; exact a.h⟩
def amk (n:Nat) {α:Type} (x:α):Arr n α:=⟨List.replicate n x,jdb⟩
def gcat (a b:Ya UInt8):Yb (Ya UInt8):=if a.length+b.length<=9223372036854775807 then some (a++b) else none
def kcv:Ye->Bool
 | .slice none 0 0=>true
 | _=>false
def kmh:Ye->Bool
 | .pointer none=>true
 | _=>false
theorem kbh {v:Ye} (h:kcv v=true):v = .slice none 0 0:=by
 unfold kcv at h; split at h
 ·rfl
 ·cases h
theorem kln {v:Ye} (h:kmh v=true):v = .pointer none:=by
 unfold kmh at h; split at h
 ·rfl
 ·cases h
section
variable (A:Alg)
def toI (n:Int) (k:IntKind):A.D (.i k):=A.k0 (if n<0 then "" else "") n
def toB (b:Bool):A.D .b:=A.k0 (toString b) b
def toS (l:Ya UInt8):A.D .s:=A.k0 (""++ "".intercalate (l.map toString)++ "") l
def tcast {A:Alg} {t':Ty} (t:Ty) (x:A.D t'):Yb (A.D t):=if h:t'=t then some (h ▸ x) else none
def mkT:(ts:Ya Ty)->Ya ((t:Ty)×A.D t)->Yb (A.D (tup ts))
 | [],[]=>some (A.k0 (x:=.un) "" ())
 | [t],[v]=>tcast t v.2
 | t::u::ts,v::vs=>(tcast t v.2).bind λx=>(mkT (u::ts) vs).map λy=>A.k2 (x:=t) (y:=tup (u::ts)) (z:=.pr t (tup (u::ts))) "" Prod.mk x y
 | _,_=>none
def unT:(ts:Ya Ty)->A.D (tup ts)->Ya ((t:Ty)×A.D t)
 | [],_=>[]
 | [t],x=>[⟨t,x⟩]
 | t::u::ts,x=>⟨t,A.k1 (x:=.pr t (tup (u::ts))) (y:=t) "" Prod.fst x⟩::unT (u::ts) (A.k1 (x:=.pr t (tup (u::ts))) (y:=tup (u::ts)) "" Prod.snd x)
def ofVal:Ye->TV A
 | .int k n=>.c (.i k) (toI A n k)
 | .bool b=>.kb b
 | .string s=>.c .s (toS A s.data.toList)
 | v=>.sc v
def ofCst:Ye->TV A
 | .agg cs=>if cs.all (·.oneCell') then .ag (cs.toList.map (ofVal A)) else .un
 | .tuple _=>.un
 | v=>ofVal A v
variable {A}
variable (P:Yd) (c:Cx A)
def tev (s:TS A):Yf->TV A
 | .tmp t=>tlk c s t
 | .const v=>ofCst A v
 | .global _=>.un
 | .func f=>.fn f []
def kkD:(t:Ty)->A.D t->Ya (TV A)
 | .pr a b,x=>kkD a (A.k1 (x:=.pr a b) (y:=a) "" Prod.fst x)++kkD b (A.k1 (x:=.pr a b) (y:=b) "" Prod.snd x)
 | .w a,x=>kkD a (A.k1 (x:=.w a) (y:=a) "" (λv=>v) x)
 | .un,_=>[]
 | t,x=>[.c t x]
def Ty.noAr:Ty->Bool
 | .pr t u=>t.noAr&&u.noAr
 | .w a=>a.noAr
 | .ar _ _=>false
 | _=>true
def kaL:TV A->Yb (Ya (TV A))
 | .c t x=>if t.noAr&&t.dat then some (kkD t x) else none
 | .ag vs=>some vs
 | .un | .ud | .tp _ | .gs _ _ | .yl _ | .kp _=>none
 | v=>some [v]
def snapL (s:TS A):(t:Ty)->Ya (TV A)->Yb (A.D t×Ya (TV A)×Ya Nat)
 | .pr a b,vs=>(snapL s a vs).bind λx=>(snapL s b x.2.1).map λy=>(A.k2 (x:=a) (y:=b) (z:=.pr a b) "" Prod.mk x.1 y.1,y.2.1,x.2.2++y.2.2)
 | .w a,vs=>(snapL s a vs).map λx=>(A.k1 (x:=a) (y:=.w a) "" (λv=>v) x.1,x.2)
 | .un,vs=>some (A.k0 (x:=.un) "" (),vs,[])
 | .i k,.c t x::vs=>(tcast (.i k) x).map λx=>(x,vs,[])
 | .b,.c t x::vs=>(tcast .b x).map λx=>(x,vs,[])
 | .b,.kb x::vs=>some (toB A x,vs,[])
 | .s,.c t x::vs=>(tcast .s x).map λx=>(x,vs,[])
 | .sl a,.c t x::vs=>(tcast (.sl a) x).map λx=>(x,vs,[])
 | .sl a,.sc v::vs=>if kcv v then some (A.k0 (x:=.sl a) "" [],vs,[]) else none
 | .sl a,.mw id::vs=>match thp c s id with
  | some (.sl T t l)=>(tcast (.sl a) l).map λx=>(x,vs,[id])
  | _=>none
 | .sl a,.ms id off len::vs=>match thp c s id with
  | some (.sl T t l)=>(tcast (.sl a) l).map λx=>(A.k3 (x:=.sl a) (y:=.i .i64) (z:=.i .i64) (u:=.sl a) "" (λl o n=>(l.drop o.toNat).take n.toNat) x off len,vs,[id])
  | _=>none
 | .sl a,.fw id::vs=>match thp c s id with
  | some (.fm T t j U u l none)=>(tcast (.sl a) l).map λx=>(x,vs,[id])
  | _=>none
 | .op a,.c t x::vs=>match tcast (.op a) x with
  | some x=>some (x,vs,[])
  | none=>(tcast (.pt a) x).map λx=>(A.k1 (x:=.pt a) (y:=.op a) "" some x,vs,[])
 | .op a,.sc v::vs=>if kmh v then some (A.k0 (x:=.op a) "none" none,vs,[]) else none
 | .op a,.fq t x o::vs=>if o≠0 then none else (tcast a x).map λx=>(A.k1 (x:=a) (y:=.op a) "" some x,vs,[])
 | .op a,.ptr id j::vs=>if j≠0 then none else match thp c s id with
  | some (.bx T us)=>match snapL s a us with
   | some (x,[],ids)=>some (A.k1 (x:=a) (y:=.op a) "" some x,vs,id::ids)
   | _=>none
  | some (.el T t x)=>(tcast a x).map λx=>(A.k1 (x:=a) (y:=.op a) "" some x,vs,[id])
  | _=>none
 | .pt a,.c t x::vs=>(tcast (.pt a) x).map λx=>(x,vs,[])
 | .pt a,.fq t x o::vs=>if o≠0 then none else (tcast a x).map λx=>(A.k1 (x:=a) (y:=.pt a) "" (λv=>v) x,vs,[])
 | .pt a,.ptr id j::vs=>if j≠0 then none else match thp c s id with
  | some (.bx T us)=>match snapL s a us with
   | some (x,[],ids)=>some (A.k1 (x:=a) (y:=.pt a) "" (λv=>v) x,vs,id::ids)
   | _=>none
  | some (.el T t x)=>(tcast a x).map λx=>(A.k1 (x:=a) (y:=.pt a) "" (λv=>v) x,vs,[id])
  | _=>none
 | _,_=>none
def snapV (s:TS A) (t:Ty) (v:TV A):Yb (A.D t×Ya Nat):=
 if t.dat=false then none else
 if t.agg then match v with
  | .c t' x=>(tcast t x).map λx=>(x,[])
  | .ag vs=>match snapL c s t vs with
   | some (x,[],ids)=>some (x,ids)
   | _=>none
  | _=>none
 else match snapL c s t [v] with
  | some (x,[],ids)=>some (x,ids)
  | _=>none
def retire (s:TS A) (ids:Ya Nat):Yb (TS A):=
 if ids.all λid=>match alk s.hp id with | some (some _)=>true | _=>false then some { s with hp:=ids.map (λid=>(id,none))++s.hp,dy:=s.dy||!ids.isEmpty } else none
def comp:(t:Ty)->A.D t->Nat->Nat->Bool->Yb ((t:Ty)×A.D t)
 | .pr a b,x,o,m,ag=>if o=0/\m=a.wd+b.wd/\ag=true then some ⟨.pr a b,x⟩ else
   if o+m<=a.wd then comp a (A.k1 (x:=.pr a b) (y:=a) "" Prod.fst x) o m ag else if a.wd<=o then comp b (A.k1 (x:=.pr a b) (y:=b) "" Prod.snd x) (o-a.wd) m ag else none
 | .w a,x,o,m,ag=>if o=0/\m=a.wd/\ag=true then some ⟨.w a,x⟩ else comp a (A.k1 (x:=.w a) (y:=a) "" (λv=>v) x) o m ag
 | t,x,o,m,ag=>if o=0/\m=t.wd/\ag=t.agg then some ⟨t,x⟩ else none
def setC (val:(t:Ty)->Yb (A.D t)):(t:Ty)->A.D t->Nat->Nat->Bool->Yb (A.D t)
 | .pr a b,x,o,m,ag=>if o=0/\m=a.wd+b.wd/\ag=true then val (.pr a b) else
   if o+m<=a.wd then (setC val a (A.k1 (x:=.pr a b) (y:=a) "" Prod.fst x) o m ag).map λy=>A.k2 (x:=a) (y:=b) (z:=.pr a b) "" Prod.mk y (A.k1 (x:=.pr a b) (y:=b) "" Prod.snd x)
   else if a.wd<=o then (setC val b (A.k1 (x:=.pr a b) (y:=b) "" Prod.snd x) (o-a.wd) m ag).map λy=>A.k2 (x:=a) (y:=b) (z:=.pr a b) "" Prod.mk (A.k1 (x:=.pr a b) (y:=a) "" Prod.fst x) y else none
 | .w a,x,o,m,ag=>if o=0/\m=a.wd/\ag=true then val (.w a) else (setC val a (A.k1 (x:=.w a) (y:=a) "" (λv=>v) x) o m ag).map λy=>A.k1 (x:=a) (y:=.w a) "" (λv=>v) y
 | t,x,o,m,ag=>if o=0/\m=t.wd/\ag=t.agg then val t else none
structure CtrM where
 nm:String
 ks:List (Option Ty)
 inp:Pat
 n0:Nat
 out:Pat
 n1:Nat
 nr:Nat
 F:(tup (ks.filterMap id++inp.tys)).den->Option out.ty.den
 alt:Bool
structure CtrI where
 nm:String
 as:List Ty
 ts:List Ty
 F:(tup as).den->Option (List (tup ts).den)
structure Ctr where
 nm:String
 as:List Ty
 rs:List Ty
 F:(tup as).den->Option (tup rs).den
 mus:List CtrM:=[]
 its:List CtrI:=[]
def mkClo (A:Alg) (C:Ctr) (n:Nat) (x y:Ty) (i:Ya ((t:Ty)×A.D t)):Yb (A.D (.fn n x y)):=
 if hx:x=tup (C.as.take n) then if hy:C.rs=[y] then if (C.as.take n).all Ty.dat then
  some (A.lam λv=>match mkT A C.as (unT A (C.as.take n) (hx ▸ v)++i) with
   | some a=>A.p1 (x:=tup C.as) (y:=y) C.nm (λv=>((hy ▸ C.F v:Yb (tup [y]).den):Yb y.den)) a λr=>A.ret r
   | none=>A.fail "mkClo")
 else none else none else none
def snapM (s:TS A):Ya Ty->Ya (TV A)->Yb (Ya ((t:Ty)×A.D t)×Ya Nat)
 | [],[]=>some ([],[])
 | t::ts,v::vs=>(snapV c s t v).bind λx=>(snapM s ts vs).map λy=>(⟨t,x.1⟩::y.1,x.2++y.2)
 | _,_=>none
def snapA (Δ:Ya (FuncId×Ctr)) (s:TS A) (t:Ty) (v:TV A):Yb (A.D t×Ya Nat):=
 match t with
 | .fn n x y=>match v with
  | .cv n' u m F=>(tcast (.fn n x y) F).map λx=>(x,[])
  | .fn g i=>(alk Δ g).bind λC=>if C.as.length=n+i.length then (snapM c s (C.as.drop n) i).bind λl=>(mkClo A C n x y l.1).map λz=>(z,l.2) else none
  | _=>none
 | t=>snapV c s t v
def kdH (Δ:Ya (FuncId×Ctr)) (s:TS A):Ya Ty->Ya (TV A)->Yb (Ya ((t:Ty)×A.D t)×Ya Nat)
 | [],[]=>some ([],[])
 | t::ts,v::vs=>(snapA c Δ s t v).bind λx=>(kdH Δ s ts vs).map λy=>(⟨t,x.1⟩::y.1,x.2++y.2)
 | _,_=>none
def getI:TV A->Yb ((k:IntKind)×A.D (.i k))
 | .c (.i k) x=>some ⟨k,x⟩
 | _=>none
def kfo:TV A->Yb (A.D (.i .i64))
 | .c (.i .i64) x=>some x
 | _=>none
def getB:TV A->Yb (A.D .b)
 | .c .b x=>some x
 | .kb b=>some (toB A b)
 | _=>none
def eqD:(t:Ty)->A.D t->A.D t->Yb (A.D .b)
 | .i k,x,y=>some (A.k2 (x:=.i k) (y:=.i k) (z:=.b) "" (λ(a b:Int)=>a==b) x y)
 | .b,x,y=>some (A.k2 (x:=.b) (y:=.b) (z:=.b) "" (λ(a b:Bool)=>a==b) x y)
 | .s,x,y=>some (A.k2 (x:=.s) (y:=.s) (z:=.b) "" (λ(a b:Ya UInt8)=>a==b) x y)
 | .w a,x,y=>eqD a (A.k1 (x:=.w a) (y:=a) "" (λv=>v) x) (A.k1 (x:=.w a) (y:=a) "" (λv=>v) y)
 | .pr a b,x,y=>(eqD a (A.k1 (x:=.pr a b) (y:=a) "" Prod.fst x) (A.k1 (x:=.pr a b) (y:=a) "" Prod.fst y)).bind λp=>
   (eqD b (A.k1 (x:=.pr a b) (y:=b) "" Prod.snd x) (A.k1 (x:=.pr a b) (y:=b) "" Prod.snd y)).map λq=>A.k2 (x:=.b) (y:=.b) (z:=.b) "" (λa b=>a&&b) p q
 | _,_,_=>none
def TB.isF:TB A->Bool
 | .fm _ _ _ _ _ _ _=>true
 | _=>false
def kdT:TB A->Bool
 | .mp _ _ _=>false
 | .si _=>false
 | _=>true
variable {ρ:Ty}
def tvR (rs:Ya Ty) (y:A.D (tup rs)):TV A:=
 match rs with
 | [t]=>.c t y
 | rs=>.tp ((unT A rs y).map λx=>.c x.1 x.2)
def newSl (s:TS A) (T:Yc) (t:Ty) (l:A.D (.sl t)) (K:TV A->TS A->A.Ans ρ):A.Ans ρ:=
 K (.mw s.n) { s with hp:=(s.n,some (.sl T t l))::s.hp,n:=s.n+1 }
def nilV (s:TS A) (T:Yc) (K:TV A->TS A->A.Ans ρ):A.Ans ρ:=
 match elemO P T with
 | some e=>match tyOf P e with
  | some t=>newSl s e t (A.k0 (x:=.sl t) "" []) K
  | none=>K (.sc (.slice none 0 0)) s
 | none=>K (.sc (.slice none 0 0)) s
def moveX (s:TS A) (T:Yc) (v:TV A) (K:TV A->TS A->A.Ans ρ):A.Ans ρ:=
 match v with
 | .sc u=>if kcv u then nilV P s T K else K (.sc u) s
 | v=>K v s
def zeroC (s:TS A):Ya AV->Ya Yc->Ya (TV A)×TS A
 | .sc v::vs,T::Ts=>if kcv v then match elemO P T with
   | some e=>match tyOf P e with
    | some t=>let r:=zeroC { s with hp:=(s.n,some (.sl e t (A.k0 (x:=.sl t) "" [])))::s.hp,n:=s.n+1 } vs Ts; (.mw s.n::r.1,r.2)
    | none=>let r:=zeroC s vs Ts; (ofVal A v::r.1,r.2)
   | none=>let r:=zeroC s vs Ts; (ofVal A v::r.1,r.2)
  else let r:=zeroC s vs Ts; (ofVal A v::r.1,r.2)
 | _,_=>([],s)
def repO {α:Type} (f:α->Yb α):Nat->α->Yb α
 | 0,x=>some x
 | n+1,x=>(f x).bind (repO f n)
def isZ:Ty->Ya AV->Yb (Ya AV)
 | .i k,.sc (.int k' m)::r=>if k=k'/\m=0 then some r else none
 | .b,.sc (.bool b)::r=>if b then none else some r
 | .s,.sc (.string s)::r=>if s.data.toList.isEmpty then some r else none
 | .sl _,.sc v::r=>if kcv v then some r else none
 | .op _,.sc v::r=>if kmh v then some r else none
 | .un,r=>some r
 | .w t,r=>isZ t r
 | .pr t u,r=>(isZ t r).bind (isZ u)
 | .ar n t,r=>if t.dat then repO (isZ t) n r else none
 | _,_=>none
def zeroD:(t:Ty)->Yb (A.D t)
 | .i k=>some (toI A 0 k)
 | .b=>some (toB A false)
 | .s=>some (toS A [])
 | .un=>some (A.k0 (x:=.un) "" ())
 | .sl a=>some (A.k0 (x:=.sl a) "" [])
 | .op a=>some (A.k0 (x:=.op a) "none" none)
 | .w a=>(zeroD a).map λx=>A.k1 (x:=a) (y:=.w a) "" (λv=>v) x
 | .pr a b=>(zeroD a).bind λx=>(zeroD b).map λy=>A.k2 (x:=a) (y:=b) (z:=.pr a b) "" Prod.mk x y
 | .ar n a=>(zeroD a).map λx=>A.k1 (x:=a) (y:=.ar n a) "" (λv=>amk n v) x
 | _=>none
def newBx (s:TS A) (B:TB A) (K:TV A->TS A->A.Ans ρ):A.Ans ρ:=
 K (.ptr s.n 0) { s with hp:=(s.n,some B)::s.hp,n:=s.n+1 }
def kuj (s:TS A) (T:Yc) (K:TV A->TS A->A.Ans ρ):A.Ans ρ:=
 match zeroO P T,kjf P 9 T with
 | some z,some Ts=>if z.length=Ts.length then
   match tyOf P T with
   | some t=>if t.noAr then let r:=zeroC P s z Ts; newBx r.2 (.bx T r.1) K else match zeroD t with
    | some x=>if (isZ t z).any List.isEmpty then newBx s (.el T t x) K else A.fail "alloc zero"
    | none=>A.fail "alloc"
   | none=>let r:=zeroC P s z Ts; newBx r.2 (.bx T r.1) K
  else A.fail "alloc cells"
 | _,_=>A.fail "alloc type"
def boxX (s:TS A) (T:Yc) (v:TV A) (K:TV A->TS A->A.Ans ρ):A.Ans ρ:=
 match v with
 | .c t x=>if t.noAr&&t.dat then newBx s (.bx T (kkD t x)) K else newBx s (.el T t x) K
 | v=>match kaL v with
  | some vs=>newBx s (.bx T vs) K
  | none=>A.fail "box"
def partX (t:Ty) (x:A.D t) (o m:Nat) (ag:Bool) (K:TV A->A.Ans ρ):A.Ans ρ:=
 match comp t x o m ag with
 | some y=>K (.c y.1 y.2)
 | none=>A.fail "part"
def loadX (s:TS A) (T:Yc) (v:TV A) (K:TV A->TS A->A.Ans ρ):A.Ans ρ:=
 match aggO P T with
 | none=>A.fail "load type"
 | some ag=>
  let m:=P.cellsOf T
  match v with
  | .ptr id j=>match thp c s id with
   | some (.bx _ vs)=>if ag then (if j+m<=vs.length then K (.ag ((vs.drop j).take m)) s else A.fail "load") else match vs[j]? with
    | some v=>K v s
    | none=>A.fail "load"
   | some (.el _ t x)=>partX t x j m ag λv=>K v s
   | _=>A.fail "load block"
  | .adr id i j=>match thp c s id with
   | some (.sl _ t l)=>A.p2 (x:=.sl t) (y:=.i .i64) (z:=t) "" (λl i=>gi l i) l i λy=>partX t y j m ag λv=>K v s
   | _=>A.fail "load block"
  | .aa id i=>match thp c s id with
   | some (.el _ (.ar n t) x)=>if t.wd≠1 then A.fail "load array" else A.p2 (x:=.ar n t) (y:=.i .i64) (z:=t) "" (λl i=>garr l i) x i λy=>partX t y 0 m ag λv=>K v s
   | _=>A.fail "load block"
  | .fq t x o=>partX t x o m ag λv=>K v s
  | .c (.pt t) x=>partX t (A.k1 (x:=.pt t) (y:=t) "" (λv=>v) x) 0 m ag λv=>K v s
  | _=>A.fail "load address"
def ownB (s:TS A) (id:Nat):Yb (TB A):=
 match alk s.hp id with
 | some b=>b
 | none=>none
def setB (s:TS A) (id:Nat) (B:TB A) (K:TV A->TS A->A.Ans ρ):A.Ans ρ:=
 K .ud { s with hp:=(id,some B)::s.hp }
def kvM (s:TS A) (T:Yc) (p v:TV A) (K:TV A->TS A->A.Ans ρ):A.Ans ρ:=
 let m:=P.cellsOf T
 match aggO P T with
 | none=>A.fail "store type"
 | some ag=>
 if m=0 then A.fail "store nothing" else
 match p with
 | .ptr id j=>match ownB s id with
  | some (.bx T' vs)=>match kaL v with
   | some xs=>if xs.length=m/\j+m<=vs.length then setB s id (.bx T' (vs.take j++xs++vs.drop (j+m))) K else A.fail "store cells"
   | none=>A.fail "store value"
  | some (.el T' t x)=>match setC (λt=>(snapV c s t v).bind λy=>if y.2.isEmpty then some y.1 else none) t x j m ag with
   | some y=>setB s id (.el T' t y) K
   | none=>A.fail "store el"
  | _=>A.fail ""
 | .adr id i j=>match ownB s id with
  | some (.sl T' t l)=>
   if j=0/\m=t.wd/\ag=t.agg then
    match snapV c s t v with
    | some (y,ids)=>match retire s ids with
     | some s'=>if ids.contains id then A.fail "store own" else setB s' id (.sl T' t (A.k3 (x:=.sl t) (y:=.i .i64) (z:=t) (u:=.sl t) "" (λl i y=>lset l i y) l i y)) K
     | none=>A.fail "store retire"
    | none=>A.fail "store elem"
   else A.p2 (x:=.sl t) (y:=.i .i64) (z:=t) "" (λl i=>gi l i) l i λy=>
    match setC (λt=>(snapV c s t v).bind λy=>if y.2.isEmpty then some y.1 else none) t y j m ag with
    | some y=>setB s id (.sl T' t (A.k3 (x:=.sl t) (y:=.i .i64) (z:=t) (u:=.sl t) "" (λl i y=>lset l i y) l i y)) K
    | none=>A.fail "store part"
  | _=>A.fail ""
 | .aa id i=>match ownB s id with
  | some (.el T' (.ar n t) x)=>if t.wd≠1\/m≠1 then A.fail "store array" else match snapV c s t v with
   | some (y,[])=>setB s id (.el T' (.ar n t) (A.k3 (x:=.ar n t) (y:=.i .i64) (z:=t) (u:=.ar n t) "" (λl i y=>aset l i y) x i y)) K
   | _=>A.fail "store array"
  | _=>A.fail ""
 | _=>A.fail "store address"
def nilX (s:TS A) (v:TV A) (K:TV A->TS A->A.Ans ρ):A.Ans ρ:=
 match v with
 | .ptr id j=>if (thp c s id).any kdT then K v s else A.fail "nilCheck block"
 | .fq _ _ _ | .c (.pt _) _ | .fn _ _ | .cv _ _ _ _=>K v s
 | .adr id i j=>if (thp c s id).any kdT then K v s else A.fail "nilCheck block"
 | .c (.op t) x=>A.p1 (x:=.op t) (y:=t) "" (λv=>v) x λy=>K (.fq t y 0) s
 | .sc _=>A.stop
 | _=>A.fail "nilCheck"
def binX (s:TS A) (op:BinOp) (T:Yc) (x y:TV A) (K:TV A->TS A->A.Ans ρ):A.Ans ρ:=
 match x,y with
 | .c (.i k) a,.c (.i k') b=>
  match ipop op k with
  | some (nm,f)=>if op = .shl\/op = .shr\/k=k' then A.p2 (x:=.i k) (y:=.i k') (z:=.i k) nm f a b λz=>K (.c (.i k) z) s else A.fail "bin kinds"
  | none=>if k=k' then match iop op k with
    | some (nm,f)=>K (.c (.i k) (A.k2 (x:=.i k) (y:=.i k') (z:=.i k) nm f a b)) s
    | none=>match icmp op with
     | some (nm,f)=>K (.c .b (A.k2 (x:=.i k) (y:=.i k') (z:=.b) nm f a b)) s
     | none=>A.fail "bin op"
   else A.fail "bin kinds"
 | .c .s a,.c .s b=>match scmp op with
  | some (nm,f)=>K (.c .b (A.k2 (x:=.s) (y:=.s) (z:=.b) nm f a b)) s
  | none=>match op with
   | .add=>A.p2 (x:=.s) (y:=.s) (z:=.s) "" gcat a b λz=>K (.c .s z) s
   | _=>A.fail "bin string"
 | x,y=>match getB x,getB y with
  | some a,some b=>if koW P T then match op with
    | .eql=>K (.c .b (A.k2 (x:=.b) (y:=.b) (z:=.b) "" (λ(a b:Bool)=>a==b) a b)) s
    | .neq=>K (.c .b (A.k2 (x:=.b) (y:=.b) (z:=.b) "" (λ(a b:Bool)=>!(a==b)) a b)) s
    | _=>A.fail "bin bool"
   else A.fail "bin bool type"
  | _,_=>match tyOf P T with
   | some t=>if t.flat&&t.agg&&eqOkT P 9 T t&&!P.eqGuardType P.depth T&&decide (aggO P T=some true) then match snapV c s t x,snapV c s t y with
     | some (a,[]),some (b,[])=>match eqD t a b,op with
      | some e,.eql=>K (.c .b e) s
      | some e,.neq=>K (.c .b (A.k1 (x:=.b) (y:=.b) "" (λa=>!a) e)) s
      | _,_=>A.fail "bin struct"
     | _,_=>A.fail "bin struct value"
    else A.fail "bin"
   | none=>A.fail "bin type"
def unX (s:TS A) (op:UnOp) (v:TV A) (K:TV A->TS A->A.Ans ρ):A.Ans ρ:=
 match op,v with
 | .not,.kb b=>K (.kb (!b)) s
 | .not,.c .b x=>K (.c .b (A.k1 (x:=.b) (y:=.b) "" (λa=>!a) x)) s
 | .neg,.c (.i k) x=>K (.c (.i k) (A.k1 (x:=.i k) (y:=.i k) (""++wn k++ "") (λa=>wk k (0-a)) x)) s
 | _,_=>A.fail "un"
def convX (s:TS A) (S T:Yc) (v:TV A) (K:TV A->TS A->A.Ans ρ):A.Ans ρ:=
 match v,intO P T with
 | .c (.i k) x,some k'=>if (P.underlying S).isSome then K (.c (.i k') (A.k1 (x:=.i k) (y:=.i k') (""++wn k'++ "") (λa=>wk k' a) x)) s else A.fail "conv"
 | .c (.sl (.i .u8)) x,none=>if !s.dy&&kjA P T&&kuB P S then K (.c .s (A.k1 (x:=.sl (.i .u8)) (y:=.s) "" kjD x)) s else A.fail "conv"
 | _,_=>A.fail "conv"
end
structure Pn where
 j:Nat
 o:Oper
 env:Env
 v:AV
 ok:AH->Prop
def Pn.fact (P:Yd) (p:Pn):Prop:=∀ h1 n1 (i:K3),p.ok h1->i p.v h1 n1->aop P p.env h1 n1 p.o i
def stepT (P:Yd) (W:Nat->Bool) (anc:Nat->Ya Nat) (o:Oper) (j:Nat) (env:Env) (h:AH) (n:Nat) (pd:Ya Pn) (next:St->Ya Pn->Prop):Prop:=
 if W j then aop P env h n o (λv h' n'=>(∀ p∈pd,p.j∈anc j\/(p.ok h->p.ok h'))/\next ⟨putE env o.dst v,h',n'⟩ pd)
 else ∃ p:Pn,p.j=j/\p.o=o/\p.env=env/\p.ok h/\p.fact P/\next ⟨putE env o.dst p.v,h,n⟩ (p::pd)
def treeD (P:Yd) (ds:Ya (Yb Tmp)) (W:Nat->Bool) (anc:Nat->Ya Nat):Ya Oper->Nat->St->Ya Pn->(St->Prop)->Prop
 | [],_,st,_,K=>K st
 | o::r,j,st,pd,K=>
  match o.guard with
  | none=>stepT P W anc o j st.env st.h st.n pd λs t=>treeD P ds W anc r (j+1) s t K
  | some (g,want)=>match kbz ds g with
   | some d=>match lk st.env d with
    | .sc (.bool b)=>(b=want->stepT P W anc o j ((d,.sc (.bool want))::st.env) st.h st.n pd λs t=>treeD P ds W anc r (j+1) s t K)/\
      (b = !want->treeD P ds W anc r (j+1) ⟨putE ((d,.sc (.bool (!want)))::st.env) o.dst .ud,st.h,st.n⟩ pd K)
    | .ud=>treeD P ds W anc r (j+1) ⟨putE st.env o.dst .ud,st.h,st.n⟩ pd K
    | _=>False
   | none=>False
section
variable {P:Yd} {l:Ya Oper} {st0:St} {E:Nat->Env} {V:Nat->AV} {A W:Nat->Bool} {N:Nat} {D:DX} {O:Nat->Prop}
def GOn (l:Ya Oper) (o:Oper) (env:Env):Prop:=o.guard=none\/∃ m i d,o.guard=some (m,i)/\kbz (l.map (·.dst)) m=some d/\lk env d = .sc (.bool i)
structure Can (P:Program) (l:List Oper) (st0:St) (W:Nat->Bool) (k:Nat) (E:Nat->Env) (V:Nat->AV) (A:Nat->Bool) (h:AH) (pd:List Pn) (S:Nat->Prop):Prop where
 e0:∀ s,lk (E 0) s=lk st0.env s
 next:∀ (j:Nat) (o:Oper),j<k->l[j]?=some o->∀ s,lk (E (j+1)) s=lk (putE (E j) o.dst (V j)) s
 off:∀ (j:Nat) (o:Oper),j<k->l[j]?=some o->A j=false->V j = .ud/\
  ∃ jj want d,o.guard=some (jj,want)/\kbz (l.map (·.dst)) jj=some d/\(lk (E j) d = .ud\/∃ b,lk (E j) d = .sc (.bool b)/\b≠want)
 on:∀ (j:Nat) (o:Oper),j<k->l[j]?=some o->A j=true->GOn l o (E j)/\(S j\/∃ p∈pd,p.j=j/\p.o=o/\(∀ s,lk p.env s=lk (E j) s)/\p.v=V j/\p.fact P/\p.ok h)
variable {k:Nat} {h:AH} {n:Nat} {pd:Ya Pn} {S:Nat->Prop} {K:St->Prop}
theorem Can.slot (L:Can P l st0 W k E V A h pd S):∀ (j s:Nat),j<=k->k<=l.length->lk (E j) s=lk st0.env s/\(∀ i u,i<j->l[i]?=some u->u.dst≠some s)\/∃ i u,i<j/\l[i]?=some u/\u.dst=some s/\lk (E j) s=V i:=by
 intro j;induction j with
 | zero=>intro s _ _; exact .inl ⟨L.e0 s,λi u hi=>by omega⟩
 | succ j Y=>
  intro s hj Z;have J:l[j]?=some (l[j]'(by omega)):=jae _;have hn:=L.next j _ (by omega) J s;cases m:(l[j]'(by omega)).dst with
  | none=>
   rw [m] at hn;simp only [putE] at hn;rcases Y s (by omega) Z with ⟨I,h2⟩ | ⟨i,u,I,h2,X,U⟩
   ·refine .inl ⟨hn.trans I,λi u hi t=>?_⟩;rcases Nat.lt_succ_iff_lt_or_eq.1 hi with z | rfl
    ·exact h2 i u z t
    ·rw [J] at t; cases t; rw [m]; simp
   ·exact .inr ⟨i,u,by omega,h2,X,hn.trans U⟩
  | some d=>
   rw [m] at hn;simp only [putE,lk] at hn;by_cases y:s=d
   ·subst y;rw [if_pos rfl] at hn;exact .inr ⟨j,_,by omega,J,m,hn⟩
   ·rw [if_neg y] at hn;rcases Y s (by omega) Z with ⟨I,h2⟩ | ⟨i,u,I,h2,X,U⟩
    ·refine .inl ⟨hn.trans I,λi u hi t=>?_⟩;rcases Nat.lt_succ_iff_lt_or_eq.1 hi with z | rfl
     ·exact h2 i u z t
     ·rw [J] at t; cases t; rw [m]; intro e; cases e; exact y rfl
    ·exact .inr ⟨i,u,by omega,h2,X,hn.trans U⟩
theorem Can.sees (L:Can P l st0 W k E V A h pd S) (hk:k<=l.length) (hd:kdz l=true) {env:Env} (Y:At P l st0 V S env) (hc:Closed l S) {j:Nat} {o:Oper} (ho:l[j]?=some o) (aa:j<=k) (hj:¬ S j)
  (hr:∀ e∈o.after,Region.binds .any e=true->S e.on) {t:Nat} (ht:t∈kjo o (l.map (·.dst))):lk env t=lk (E j) t:=by
 obtain ⟨ad,ac,U⟩:=kbV hd;have ae:=(jaf.1 ho).1;have z:∀ Z,l[j]?=some Z->∀ e∈Z.after,Region.binds .any e=true->S e.on:=λZ m=>by rw [ho] at m; cases m; exact hr
 have I:∀ i y,l[i]?=some y->Anc l j i->¬ S i:=λi y u X hs=>hj (hc.anc X λZ m e he hb=>hc i Z m hs e he hb);rcases L.slot j t aa hk with ⟨h1,h2⟩ | ⟨i,y,h1,h2,h3,h4⟩
 ·rw [h1];refine Y.old t λi y hs u J=>?_;rcases U j o t i y ho ht u J with ⟨ab,_⟩ | ⟨_,X⟩
  ·exact h2 i y ab u J
  ·exact I i y u X hs
 ·rw [h4];rcases U j o t i y ho ht h2 h3 with ⟨_,X⟩ | ⟨af,_⟩
  ·exact Y.new t i y (hc.anc X z) h2 h3
  ·omega
theorem Can.snoc (L:Can P l st0 W k E V A h pd S) {o:Oper} (ho:l[k]?=some o) {env:Env} (U:∀ s,lk env s=lk (E k) s) (v:AV) (J:Bool) (I:Ya Pn) (S':Nat->Prop) (h':AH)
  (X:J=false->v = .ud/\∃ jj z d,o.guard=some (jj,z)/\kbz (l.map (·.dst)) jj=some d/\(lk (E k) d = .ud\/∃ b,lk (E k) d = .sc (.bool b)/\b≠z))
  (aa:J=true->GOn l o (E k)/\(S' k\/∃ p∈I,p.j=k/\p.o=o/\(∀ s,lk p.env s=lk (E k) s)/\p.v=v/\p.fact P/\p.ok h'))
  (Y:∀ j y,j<k->l[j]?=some y->A j=true->S j\/(∃ p∈pd,p.j=j/\p.o=y/\(∀ s,lk p.env s=lk (E j) s)/\p.v=V j/\p.fact P/\p.ok h)->S' j\/(∃ p∈I,p.j=j/\p.o=y/\(∀ s,lk p.env s=lk (E j) s)/\p.v=V j/\p.fact P/\p.ok h')) :
  Can P l st0 W (k+1) (λi=>if i=k+1 then putE env o.dst v else E i) (λi=>if i=k then v else V i) (λi=>if i=k then J else A i) h' I S':=by
 have hE:∀ j,j<=k->(if j=k+1 then putE env o.dst v else E j)=E j:=λj Z=>by rw [if_neg (by omega)]
 refine ⟨by intro s; rw [hE 0 (by omega)]; exact L.e0 s,λj y Z m s=>?_,λj y Z m u=>?_,λj y Z m u=>?_⟩
 ·by_cases t:j=k
  ·subst t;rw [ho] at m; cases m;rw [hE j (jag _)];simp only [if_true];exact kuG U _ _ s
  ·rw [hE (j+1) (by omega),hE j (by omega)];simp only [if_neg t];exact L.next j y (by omega) m s
 ·rw [hE j (by omega)];by_cases t:j=k
  ·subst t;rw [ho] at m; cases m;simp only [if_true] at u ⊢;exact X u
  ·simp only [if_neg t] at u ⊢;exact L.off j y (by omega) m u
 ·rw [hE j (by omega)];by_cases t:j=k
  ·subst t;rw [ho] at m; cases m;simp only [if_true] at u ⊢;exact aa u
  ·simp only [if_neg t] at u ⊢;obtain ⟨g1,g2⟩:=L.on j y (by omega) m u;exact ⟨g1,Y j y (by omega) m u g2⟩
theorem Can.adv {anc:Nat->Ya Nat}:∀ (m k:Nat) {E:Nat->Env} {V:Nat->AV} {A:Nat->Bool} {pd:Ya Pn} {env:Env},k+m=l.length->Can P l st0 W k E V A h pd S->(∀ s,lk env s=lk (E k) s)->treeD P (l.map (·.dst)) W anc (l.drop k) k ⟨env,h,n⟩ pd K->(∀ i,S i->i<k)->
  ∃ u J U Z y env',k<=u/\u<=l.length/\Can P l st0 W u J U Z h y S/\(∀ j,j<k->U j=V j)/\(∀ s,lk env' s=lk (J u) s)/\
   ((u=l.length/\K ⟨env',h,n⟩)\/∃ o,l[u]?=some o/\W u=true/\GOn l o (J u)/\aop P env' h n o (λv h2 n2=>(∀ p∈y,p.j∈anc u\/(p.ok h->p.ok h2))/\treeD P (l.map (·.dst)) W anc (l.drop (u+1)) (u+1) ⟨putE env' o.dst v,h2,n2⟩ y K))
 | 0,k,E,V,A,pd,env,hkm,L,henv,ht,hS=>by
  rw [jbw (by omega)] at ht;exact ⟨k,E,V,A,pd,env,jag _,by omega,L,λ_ _=>rfl,henv,.inl ⟨by omega,ht⟩⟩
 | m+1,k,E,V,A,pd,env,hkm,L,henv,ht,hS=>by
  have af:k<l.length:=by omega
  have ho:l[k]?=some l[k]:=jae af;rw [List.drop_eq_getElem_cons af] at ht;have ad:∀ I:Env,(∀ s,lk I s=lk (E k) s)->GOn l l[k] (E k)->stepT P W anc l[k] k I h n pd (λs t=>treeD P (l.map (·.dst)) W anc (l.drop (k+1)) (k+1) s t K)->
    ∃ u J U Z y env',k<=u/\u<=l.length/\Can P l st0 W u J U Z h y S/\(∀ j,j<k->U j=V j)/\(∀ s,lk env' s=lk (J u) s)/\
     ((u=l.length/\K ⟨env',h,n⟩)\/∃ o,l[u]?=some o/\W u=true/\GOn l o (J u)/\aop P env' h n o (λv h2 n2=>(∀ p∈y,p.j∈anc u\/(p.ok h->p.ok h2))/\treeD P (l.map (·.dst)) W anc (l.drop (u+1)) (u+1) ⟨putE env' o.dst v,h2,n2⟩ y K)):=by
   intro I X Y hs;unfold stepT at hs;split at hs
   ·rename_i hw;exact ⟨k,E,V,A,pd,I,jag _,by omega,L,λ_ _=>rfl,X,.inr ⟨_,ho,hw,Y,hs⟩⟩
   ·rename_i hw;obtain ⟨p,p1,p2,p3,p4,p5,hs⟩:=hs;have L':=L.snoc ho X p.v true (p::pd) S h (λe=>by cases e) (λ_=>⟨Y,.inr ⟨p,by simp,p1,p2,λs=>by rw [p3]; exact X s,rfl,p5,p4⟩⟩) λj o' _ _ _ hh=>by
     rcases hh with hh | ⟨q,hq,hh⟩
     ·exact .inl hh
     ·exact .inr ⟨q,jax _ hq,hh⟩
    obtain ⟨u,J,U,Z,y,env',g1,g2,g3,g4,g5,g6⟩:=Can.adv m (k+1) (by omega) L' (λs=>by simp) hs (λi hi=>by have:=hS i hi; omega);exact ⟨u,J,U,Z,y,env',by omega,g2,g3,λj hj=>by rw [g4 j (by omega),if_neg (by omega)],g5,g6⟩
  have aa:∀ I:Env,(∀ s,lk I s=lk (E k) s)->(∃ jj z d,l[k].guard=some (jj,z)/\kbz (l.map (·.dst)) jj=some d/\(lk (E k) d = .ud\/∃ b,lk (E k) d = .sc (.bool b)/\b≠z))->treeD P (l.map (·.dst)) W anc (l.drop (k+1)) (k+1) ⟨putE I l[k].dst .ud,h,n⟩ pd K->
    ∃ u J U Z y env',k<=u/\u<=l.length/\Can P l st0 W u J U Z h y S/\(∀ j,j<k->U j=V j)/\(∀ s,lk env' s=lk (J u) s)/\
     ((u=l.length/\K ⟨env',h,n⟩)\/∃ o,l[u]?=some o/\W u=true/\GOn l o (J u)/\aop P env' h n o (λv h2 n2=>(∀ p∈y,p.j∈anc u\/(p.ok h->p.ok h2))/\treeD P (l.map (·.dst)) W anc (l.drop (u+1)) (u+1) ⟨putE env' o.dst v,h2,n2⟩ y K)):=by
   intro I X Y hs;have L':=L.snoc ho X .ud false pd S h (λ_=>⟨rfl,Y⟩) (λe=>by cases e) λj o' _ _ _ hh=>hh;obtain ⟨u,J,U,Z,y,env',g1,g2,g3,g4,g5,g6⟩:=Can.adv m (k+1) (by omega) L' (λs=>by simp) hs (λi hi=>by have:=hS i hi; omega);exact ⟨u,J,U,Z,y,env',by omega,g2,g3,λj hj=>by rw [g4 j (by omega),if_neg (by omega)],g5,g6⟩
  unfold treeD at ht;split at ht
  ·rename_i Y;exact ad env henv (.inl Y) ht
  ·rename_i g z Y;split at ht
   ·rename_i d ab;simp only at ht;split at ht
    ·rename_i b hb;by_cases ac:b=z
     ·subst ac;exact ad _ (λs=>(kvo hb s).trans (henv s)) (.inr ⟨g,b,d,Y,ab,by rw [<-henv]; exact hb⟩) (ht.1 rfl)
     ·have ae:b = !z:=by cases b <;> cases z <;> first | rfl | exact absurd rfl ac
      exact aa _ (λs=>(kvo (by rw [hb,ae]) s).trans (henv s)) ⟨g,z,d,Y,ab,.inr ⟨b,by rw [<-henv]; exact hb,ac⟩⟩ (ht.2 ae)
    ·rename_i hb;exact aa _ henv ⟨g,z,d,Y,ab,.inl (by rw [<-henv]; exact hb)⟩ ht
    ·exact ht.elim
   ·exact ht.elim
theorem kwC {ro:Yb Nat} {anc:Nat->Ya Nat} (hd:kdz l=true) (aC:kbw N l=true) (aN:∀ i j,i∈anc j->Anc l i j) (hW:∀ w j,w<j->j<l.length->W w=true->Anc l w j) {Q':Exit->Act->World->Prop} {μ0:Mu} {w0:World}
  (hq:∀ y env h n μ a w,K ⟨y,h,n⟩->(∀ s,lk env s=lk y s)->SR N D O μ ⟨env,h,n⟩ a w->Evo w0 μ0 st0.n w μ n->Q' .normal a w) :
  ∀ (Y:Nat) (m:Array Bool) (S:Nat->Prop) (k:Nat) (E:Nat->Env) (V:Nat->AV) (A:Nat->Bool) (pd:Ya Pn) (y env:Env) (h:AH) (n:Nat) (μ:Mu) (a:Act) (w:World),m.size=l.length->(∀ i,i<l.length->(S i↔m.getD i true=true))->(∀ i,S i->i<k)->k<=l.length->Closed l S->
   At P l st0 V S env->Can P l st0 W k E V A h pd S->(∀ s,lk y s=lk (E k) s)->
   ((k=l.length/\K ⟨y,h,n⟩)\/∃ o,l[k]?=some o/\W k=true/\GOn l o (E k)/\aop P y h n o (λv h2 n2=>(∀ p∈pd,p.j∈anc k\/(p.ok h->p.ok h2))/\treeD P (l.map (·.dst)) W anc (l.drop (k+1)) (k+1) ⟨putE y o.dst v,h2,n2⟩ pd K))->
   SR N D O μ ⟨env,h,n⟩ a w->Evo w0 μ0 st0.n w μ n->(∃ c:Ya Nat,c.length=Y/\∀ i,i<l.length->¬ S i->i∈c)->wpAnyIn (FF ro) 0 P .any l.toArray Q' Y m a w:=by
 have ax:∀ (m:Array Bool) (S:Nat->Prop) (k:Nat) (E:Nat->Env) (V:Nat->AV) (A:Nat->Bool) (pd:Ya Pn) (y env:Env) (h:AH) (n:Nat) (μ:Mu) (a:Act) (w:World),(∀ i,i<l.length->S i)->(∀ i,S i->i<k)->k<=l.length->At P l st0 V S env->Can P l st0 W k E V A h pd S->(∀ s,lk y s=lk (E k) s)->
   ((k=l.length/\K ⟨y,h,n⟩)\/∃ o,l[k]?=some o/\W k=true/\GOn l o (E k)/\aop P y h n o (λv h2 n2=>(∀ p∈pd,p.j∈anc k\/(p.ok h->p.ok h2))/\treeD P (l.map (·.dst)) W anc (l.drop (k+1)) (k+1) ⟨putE y o.dst v,h2,n2⟩ pd K))->
   SR N D O μ ⟨env,h,n⟩ a w->Evo w0 μ0 st0.n w μ n->Q' .normal a w:=by
  intro m S k E V A pd y env h n μ a w ae hSk hk ad L ab hT Z he;rcases hT with ⟨rfl,hK⟩ | ⟨o,ho,_⟩
  ·refine hq y env h n μ a w hK (λs=>?_) Z he;rw [ab];rcases L.slot l.length s (jag _) (jag _) with ⟨h1,h2⟩ | ⟨i,X,h1,h2,h3,h4⟩
   ·rw [h1]; exact ad.old s λi X bb z=>h2 i X (jaf.1 z).1 z
   ·rw [h4]; exact ad.new s i X (ae i h1) h2 h3
  ·have aR:=(jaf.1 ho).1;have:=hSk k (ae k aR);omega
 have ay:∀ (m:Array Bool) (S:Nat->Prop),(∀ i,i<l.length->(S i↔m.getD i true=true))->m.size=l.length->Region.ready .any l.toArray m=[]->∀ i,i<l.length->S i:=by
  intro m S hS al hr i;induction i using Nat.strongRecOn with
  | _ i ih=>
   intro hi;by_cases Z:S i
   ·exact Z
   ·have hl:m.getD i true=false:=by
     cases hb:m.getD i true with
     | false=>rfl
     | true=>exact absurd ((hS i hi).2 hb) Z
    have:i∈Region.ready .any l.toArray m:=mem_ready.2 ⟨hl,l[i],by simp,λe he hb=>by
     have aa:=(kbV hd).1 i _ (jae hi) e he hb;have:=(hS e.on (by omega)).1 (ih e.on aa (by omega));have au:e.on<m.size:=by omega
     simpa [jah,au] using this⟩
    rw [hr] at this; cases this
 intro Y;induction Y with
 | zero=>
  intro m S k E V A pd y env h n μ a w al hS hSk hk hc ad L ab hT Z he ar;obtain ⟨c,ah,aA⟩:=ar;have aY:c=[]:=jbv ah;have ae:∀ i,i<l.length->S i:=λi hi=>Classical.byContradiction λhn=>by have:=aA i hi hn; rw [aY] at this; cases this
  refine ⟨?_,ax m S k E V A pd y env h n μ a w ae hSk hk ad L ab hT Z he⟩;refine jdc.2 λi hi=>?_;obtain ⟨h1,o,h2,_⟩:=mem_ready.1 hi;have aM:i<l.length:=by simpa using (jal.1 h2).1
  rw [(hS i aM).1 (ae i aM)] at h1;cases h1
 | succ Y ih=>
  intro m S k E V A pd y env h n μ a w al hS hSk hk hc ad L ab hT Z he ar;refine ⟨λhr=>ax m S k E V A pd y env h n μ a w (ay m S hS al hr) hSk hk ad L ab hT Z he,λj hj=>?_⟩;obtain ⟨aB,o,ho,aJ⟩:=mem_ready.1 hj;have I:l[j]?=some o:=by simpa using ho
  have aL:=(jaf.1 I).1;have hnS:¬ S j:=λh=>by rw [(hS j aL).1 h] at aB; cases aB
  have aF:∀ e∈o.after,Region.binds .any e=true->S e.on:=λe U hb=>by
   have aa:=(kbV hd).1 j _ I e U hb;have:=aJ e U hb;have au:e.on<m.size:=by omega
   exact (hS e.on (by omega)).2 (by simpa [jah,au] using this)
  have aw:∀ o',l[j]?=some o'->∀ e∈o'.after,Region.binds .any e=true->S e.on:=λo2 an=>by rw [I] at an; cases an; exact aF
  have aH:∀ x,o.dst=some x->x<N:=λx hx=>by
   simp only [kbw,jam] at aC;have:=aC o (jak I); rw [hx] at this; simpa using this
  have J:(∀ i,i<l.length->((i=j\/S i)↔(m.setIfInBounds j true).getD i true=true)):=λi hi=>by
   by_cases ak:i=j
   ·subst ak; simp [jah,al,hi]
   ·rw [jah,jcx (by omega),<-jah,<-hS i hi];simp [ak]
  have ah:Closed l (λi=>i=j\/S i):=λi X z hi e U hb=>by
   rcases hi with rfl | hi
   ·rw [I] at z; cases z; exact .inr (aF e U hb)
   ·exact .inr (hc i X z hi e U hb)
  have aQ:j<=k:=by
   rcases hT with ⟨rfl,_⟩ | ⟨o2,an,aO,_⟩
   ·omega
   ·rcases jdg k j with aa | aW
    ·have:=hSk k (hc.anc (hW k j aa aL aO) aw);omega
    ·exact aW
  have ap:∀ v,At P l st0 (λi=>if i=j then v else V i) (λi=>i=j\/S i) (Abs.putE env o.dst v):=λv=>by
   constructor
   ·intro s aq;have h1:=aq j o (.inl rfl) I;have h2:=ad.old s λi X hi=>aq i X (.inr hi);cases aK:o.dst with
    | none=>exact h2
    | some d=>
     simp only [Abs.putE,lk];rw [if_neg (by rintro rfl; exact h1 aK)];exact h2
   ·intro s i X hi z ac;by_cases ak:i=j
    ·subst ak;rw [I] at z; cases z;rw [ac]; simp [Abs.putE,lk]
    ·have hSi:S i:=by rcases hi with h | h; exact absurd h ak; exact h
     have h2:=ad.new s i X hSi z ac;simp only [if_neg ak];cases aK:o.dst with
     | none=>exact h2
     | some d=>
      simp only [Abs.putE,lk];rw [if_neg (by rintro rfl; exact ak ((kbV hd).2.1 i j X o s z I ac aK))];exact h2
  have aj:∃ c:Ya Nat,c.length=Y/\∀ i,i<l.length->¬ (i=j\/S i)->i∈c:=by
   obtain ⟨c,ah,aA⟩:=ar;have aZ:=aA j aL hnS;refine ⟨c.erase j,by rw [List.length_erase_of_mem aZ,ah]; rfl,λi hi aq=>?_⟩;exact (List.mem_erase_of_ne (λh=>aq (.inl h))).2 (aA i hi λh=>aq (.inr h))
  have sees:∀ t∈kjo o (l.map (·.dst)),lk env t=lk (E j) t:=λt ht=>L.sees hk hd ad hc I aQ hnS aF ht;have guardOn:GOn l o (E j)->Region.wanted o (yielded l.toArray a.tmps)=true:=by
   rintro (hg | ⟨jj,aD,d,hg,am,aE⟩)
   ·simp [Region.wanted,hg]
   ·obtain ⟨g1,_⟩:=keI (st:=⟨env,h,n⟩) Z am ((sees d (klO hg am)).trans aE);simp [Region.wanted,hg,g1 aD rfl]
  have aV:∀ (V1 V':Nat->AV) (S':Nat->Prop) (env':Env),At P l st0 V1 S' env'->(∀ i,S' i->V' i=V1 i)->At P l st0 V' S' env':=λV1 V' S' env' hh hv=>⟨hh.old,λs i X hi z ac=>by rw [hv i hi]; exact hh.new s i X hi z ac⟩;unfold wpOpIn;rw [ho];simp only;rcases Nat.lt_or_eq_of_le aQ with aa | rfl
  ·
   cases ha:A j with
   | false=>
    obtain ⟨hv,jj,aD,d,hg,am,aE⟩:=L.off j o aa I ha;have aP:=sees d (klO hg am);have aU:Region.wanted o (yielded l.toArray a.tmps)=false:=by
     rcases aE with h1 | ⟨b,h1,hb⟩
     ·obtain ⟨_,g2⟩:=keI (st:=⟨env,h,n⟩) Z am (aP.trans h1);simp [Region.wanted,hg,g2 rfl]
     ·obtain ⟨g1,_⟩:=keI (st:=⟨env,h,n⟩) Z am (aP.trans h1);simp [Region.wanted,hg,g1 b rfl,hb]
    rw [aU];simp only [jai,if_false];refine ⟨λ_ _=>trivial,?_⟩;have af:=ap .ud;refine ih _ (λi=>i=j\/S i) k E V A pd y (putE env o.dst .ud) h n μ _ w (by simp [al]) J (λi hi=>by rcases hi with rfl | hi; exact aa; exact hSk i hi) hk ah ?_ ⟨L.e0,L.next,L.off,λi X hi z az=>?_⟩ ab hT (Z.putE Z.hr Z.hr.refl .ud o.dst aH) he aj
    ·refine ⟨af.old,λs i X hi z ac=>?_⟩;rw [af.new s i X hi z ac];split
     ·rename_i e; rw [e,hv]
     ·rfl
    ·obtain ⟨g1,g2⟩:=L.on i X hi z az;exact ⟨g1,g2.imp .inr id⟩
   | true=>
    obtain ⟨hg,hp⟩:=L.on j o aa I ha;rw [guardOn hg];simp only [if_true];rcases hp with hp | ⟨p,hp,p1,p2,p3,p4,p5,p6⟩
    ·exact absurd hp hnS
    ·have ao:=p5 h n (λv h' n'=>v=V j/\h'=h/\n'=n) p6 ⟨p4,rfl,rfl⟩;rw [p2] at ao;have ai:∀ x∈o.op.operands.toList,ev p.env x=ev env x:=λx hx=>by
      cases x with
      | tmp t=>exact (p3 t).trans (sees t (kpO hx)).symm
      | _=>rfl
     rw [ksO ai] at ao;refine koz ao Z.hr (λx=>Z.ev x) _ _ _ ?_;rintro u w' μ' v h' n' ⟨rfl,rfl,rfl⟩ aI aG U;have af:=ap (V j);refine ih _ (λi=>i=j\/S i) k E V A pd y (putE env o.dst (V j)) h' n' μ' _ w' (by simp [al]) J (λi hi=>by rcases hi with rfl | hi; exact aa; exact hSk i hi) hk ah ?_ ⟨L.e0,L.next,L.off,λi X hi z az=>?_⟩ ab hT (Z.putE aI U aG o.dst aH) (he.trans U) aj
     ·refine ⟨af.old,λs i X hi z ac=>?_⟩;rw [af.new s i X hi z ac];split
      ·rename_i e; rw [e]
      ·rfl
     ·obtain ⟨g1,g2⟩:=L.on i X hi z az;exact ⟨g1,g2.imp .inr id⟩
  ·
   rcases hT with ⟨aR,_⟩ | ⟨o2,an,aO,aS,ao⟩
   ·omega
   rw [I] at an; cases an;rw [guardOn aS];simp only [if_true];have ai:∀ x∈o.op.operands.toList,ev y x=ev env x:=λx hx=>by
    cases x with
    | tmp t=>exact (ab t).trans (sees t (kpO hx)).symm
    | _=>rfl
   rw [ksO ai] at ao;refine koz ao Z.hr (λx=>Z.ev x) _ _ _ ?_;rintro u w' μ' v h' n' ⟨aT,ba⟩ aI aG U;have L':=L.snoc I ab v true pd (λi=>i=j\/S i) h' (λe=>by cases e) (λ_=>⟨aS,.inl (.inl rfl)⟩) (λi X hi z az hh=>by
    rcases hh with hh | ⟨p,hp,p1,p2,p3,p4,p5,p6⟩
    ·exact .inl (.inr hh)
    ·rcases aT p hp with hx | hx
     ·rw [p1] at hx;exact .inl (.inr (hc.anc (aN i j hx) aw))
     ·exact .inr ⟨p,hp,p1,p2,p3,p4,p5,hx p6⟩)
   obtain ⟨k',E',V',A',aX,env',g1,g2,g3,g4,g5,g6⟩:=Can.adv (l.length-(j+1)) (j+1) (n:=n') (env:=putE y o.dst v) (by omega) L' (λs=>by simp) ba (λi hi=>by
    rcases hi with rfl | hi
    ·omega
    ·have:=hSk i hi; omega)
   exact ih _ (λi=>i=j\/S i) k' E' V' A' aX env' (putE env o.dst v) h' n' μ' _ w' (by simp [al]) J (λi hi=>by
    rcases hi with rfl | hi
    ·omega
    ·have:=hSk i hi; omega) g2 ah (aV _ _ _ _ (ap v) λi hi=>g4 i (by rcases hi with rfl | hi; omega; have:=hSk i hi; omega)) g3 g5 g6 (Z.putE aI U aG o.dst aH) (he.trans U) aj
end
end Go.Abs
