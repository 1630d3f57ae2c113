/- The machinery, part 2. -/
import Derived.Orders
import Derived.Laws.Cover3
import Derived.Laws.StructEq
import Derived.RangeFuncKeeps
import Derived.Test.YtpjlpghgmjlbbaaGreatZ1
set_option linter.constructorNameAsVariable false
set_option linter.unusedVariables false
set_option linter.unusedSimpArgs false
set_option linter.unusedSectionVars false
namespace Go.Abs
open Go Go.RowKit
def putE (env:Env) (d:Option Tmp) (v:AV):Env:=
 match d with
 | some d=>(d,v)::env
 | none=>env
def kbd (ds:List (Option Tmp)) (j:Nat):Option Tmp:=(ds[j]?).bind id
def aops (P:Program) (ds:List (Option Tmp)):List Oper->St->(St->Prop)->Prop
 | [],st,K=>K st
 | o::r,st,K=>
  match o.guard with
  | none=>aop P st.env st.h st.n o (fun v h n=>aops P ds r ⟨putE st.env o.dst v,h,n⟩ K)
  | some (j,want)=>match kbd ds j with
   | some d=>match lk st.env d with
    | .sc (.bool b)=>(b=want->aop P ((d,.sc (.bool want))::st.env) st.h st.n o (fun v h n=>aops P ds r ⟨putE ((d,.sc (.bool want))::st.env) o.dst v,h,n⟩ K))/\
      (b = !want->aops P ds r ⟨putE ((d,.sc (.bool (!want)))::st.env) o.dst .ud,st.h,st.n⟩ K)
    | .ud=>aops P ds r ⟨putE st.env o.dst .ud,st.h,st.n⟩ K
    | _=>False
   | none=>False
def kaZ (N:Nat) (l:List Oper):Bool:=l.all fun o=>match o.dst with | some d=>decide (d<N) | none=>true
section
variable {P:Program} {N:Nat} {D:DX} {O:Nat->Prop} {Q:Exit->St->Prop} {st:St}
theorem SR.putE {μ μ':Mu} {a:Act} {w w':World} {h':AH} {n':Nat} {u:Value} {v:AV} (hs:SR N D O μ st a w) (hr:HR w' O μ' h' n') (he:Evo w μ st.n w' μ' n') (hv:VR w' O μ' n' v u) (d:Option Tmp) (hd:∀ x,d=some x->x<N) :
  SR N D O μ' ⟨Abs.putE st.env d v,h',n'⟩ (a.put d u) w':=by
 cases d with
 | none=>exact hs.step hr he
 | some d=>exact hs.put hr he hv d (hd d rfl)
theorem ked {μ:Mu} {a:Act} {w:World} (hs:SR N D O μ st a w) {l:List Oper} {j d:Nat} (hj:kbd (l.map (·.dst)) j=some d) {v:AV} (hg:lk st.env d=v):(∀ b,v = .sc (.bool b)->yielded l.toArray a.tmps j=some b)/\(v = .ud->yielded l.toArray a.tmps j=none):=by
 unfold kbd at hj
 simp only [jaw] at hj
 cases hl:l[j]? with
 | none=>simp [hl] at hj
 | some o=>
  simp [hl] at hj
  have hv:=hs.env d
  rw [hg] at hv
  constructor
  ·rintro b rfl
   have hb:=hv.bool_inv
   unfold yielded
   have hlt:d<a.tmps.size:=by
    rcases jdh d a.tmps.size with h | h
    ·exact h
    ·simp [jaf,jdr h,undef] at hb
   simp only [jbv,hl,jal,hj]
   rw [jas hlt]
   rw [jaf,jas hlt] at hb
   simp only [jca] at hb
   rw [hb]
  ·rintro rfl
   have hu:a.tmps.getD d undef=undef:=by
    generalize a.tmps.getD d undef=u at hv
    cases hv; rfl
   unfold yielded
   simp only [jbv,hl,jal,hj]
   cases ht:a.tmps[d]? with
   | none=>rfl
   | some u=>
    rw [jaf,ht] at hu
    simp only [jca] at hu
    rw [hu]
    rfl
theorem SR.again {μ:Mu} {a:Act} {w:World} (hs:SR N D O μ st a w) {d:Nat} {v:AV} (hv:lk st.env d=v):SR N D O μ ⟨(d,v)::st.env,st.h,st.n⟩ a w:=by
 have hlk:∀ s,lk ((d,v)::st.env) s=lk st.env s:=fun s=>by
  simp only [lk]; split
  ·rename_i e; subst e; exact hv.symm
  ·rfl
 refine ⟨hs.hr,hs.size,hs.defers,fun s=>?_,hs.gs,hs.gi.evo hs.hr.refl fun _=>.inl (hlk GS)⟩
 show VR w O μ st.n (lk ((d,v)::st.env) s) _
 rw [hlk s]; exact hs.env s
def wpL (ro:Option Nat) (P:Program) (ops:Array Oper) (Q:Exit->Act->World->Prop):List Oper->Act->World->Prop
 | [],a,w=>Q .normal a w
 | o::r,a,w=>if Region.wanted o (yielded ops a.tmps) then o.wpIn (FF ro) 0 P a w (wpL ro P ops Q r) Q else wpL ro P ops Q r (a.put o.dst undef) w
theorem kys {ro:Option Nat} {ops:Array Oper} {Q:Exit->Act->World->Prop} (l:List Oper):∀ k,(∀ j,l[j]?=ops[k+j]?)->∀ a w,wpL ro P ops Q l a w->wpOpsIn (FF ro) 0 P ops Q (List.range' k l.length) a w:=by
 induction l with
 | nil=>intro k _ a w h; exact h
 | cons o l ih=>
  intro k h a w hw
  have h0:ops[k]?=some o:=by simpa using (h 0).symm
  have ih':=ih (k+1) (fun j=>by have:=h (j+1); simpa [jdx,Nat.add_comm 1 j] using this)
  simp only [jdd,List.range'_succ,wpOpsIn,h0]
  unfold wpL at hw
  split
  ·rename_i hc; rw [if_pos hc] at hw; exact Oper.wpIn_mono (fun a w=>ih' a w) hw
  ·rename_i hc; rw [if_neg hc] at hw; exact ⟨fun _ _=>trivial,ih' _ _ hw⟩
theorem kqp {ro:Option Nat} {id:Nat} {l:List Oper} {Q:Exit->Act->World->Prop} {a:Act} {w:World} (h:wpL ro P l.toArray Q l a w):(Code.region id l.toArray false).wpIn (FF ro) 0 P Q a w:=
 wpIn_region (by
  rw [List.range_eq_range']
  have:=kys (ops:=l.toArray) l 0 (by simp) a w h
  simpa using this)
theorem khD {ro:Option Nat} {l r2:List Oper}:∀ (r:List Oper) (st:St) {μ:Mu} {a:Act} {w:World} {K:St->Prop} {Q':Exit->Act->World->Prop},kaZ N r=true->SR N D O μ st a w->aops P (l.map (·.dst)) r st K->
  (∀ st' μ' a' w',K st'->SR N D O μ' st' a' w'->Evo w μ st.n w' μ' st'.n->wpL ro P l.toArray Q' r2 a' w')->wpL ro P l.toArray Q' (r++r2) a w
 | [],st,μ,a,w,K,Q',_,hs,hk,hq=>hq st μ a w hk hs hs.hr.refl
 | o::r,st,μ,a,w,K,Q',hd,hs,hk,hq=>by
  simp only [kaZ,jdy,jac] at hd
  have hdo:∀ x,o.dst=some x->x<N:=fun x hx=>by have:=hd.1; rw [hx] at this; simpa using this
  have hd2:kaZ N r=true:=hd.2
  have run:∀ env,SR N D O μ ⟨env,st.h,st.n⟩ a w->aop P env st.h st.n o (fun v h n=>aops P (l.map (·.dst)) r ⟨Abs.putE env o.dst v,h,n⟩ K)->o.wpIn (FF ro) 0 P a w (wpL ro P l.toArray Q' (r++r2)) Q':=fun env hs hk=>by
   refine knF hk hs.hr (fun x=>hs.ev x) _ _ _ ?_
   intro u w' μ' v h' n' hk' hr' hv' he'
   exact khD r ⟨Abs.putE env o.dst v,h',n'⟩ hd2 (hs.putE hr' he' hv' o.dst hdo) hk' fun st2 μ2 a2 w2 k2 s2 e2=>hq st2 μ2 a2 w2 k2 s2 (he'.trans e2)
  have skip:∀ env,SR N D O μ ⟨env,st.h,st.n⟩ a w->aops P (l.map (·.dst)) r ⟨Abs.putE env o.dst .ud,st.h,st.n⟩ K->wpL ro P l.toArray Q' (r++r2) (a.put o.dst undef) w:=fun env hs hk=>
   khD r ⟨Abs.putE env o.dst .ud,st.h,st.n⟩ hd2 (hs.putE hs.hr hs.hr.refl .ud o.dst hdo) hk fun st2 μ2 a2 w2 k2 s2 e2=>hq st2 μ2 a2 w2 k2 s2 e2
  simp only [aops] at hk
  show wpL ro P l.toArray Q' (o::(r++r2)) a w
  unfold wpL
  cases hg:o.guard with
  | none=>
   simp only [hg] at hk
   rw [if_pos (by simp [Region.wanted,hg])]
   exact run st.env hs hk
  | some jw=>
   obtain ⟨j,want⟩:=jw
   simp only [hg] at hk
   cases hj:kbd (l.map (·.dst)) j with
   | none=>simp only [hj] at hk
   | some d=>
    simp only [hj] at hk
    cases hga:lk st.env d with
    | ud=>
     obtain ⟨_,g2⟩:=ked hs hj hga
     simp only [hga] at hk
     rw [if_neg (by simp [Region.wanted,hg,g2 rfl])]
     exact skip st.env hs hk
    | sc v=>
     cases v with
     | bool b=>
      obtain ⟨g1,_⟩:=ked hs hj hga
      simp only [hga] at hk
      have hy:=g1 b rfl
      by_cases hb:b=want
      ·rw [if_pos (by simp [Region.wanted,hg,hy,hb])]
       exact run _ (hs.again (by rw [hga,hb])) (hk.1 hb)
      ·have hb':b = !want:=by cases b <;> cases want <;> simp_all
       rw [if_neg (by simp [Region.wanted,hg,hy,hb])]
       exact skip _ (hs.again (by rw [hga,hb'])) (hk.2 hb')
     | _=>simp only [hga] at hk
    | _=>simp only [hga] at hk
theorem Sat.region {id:Nat} {l:List Oper} (hd:kaZ N l=true) (h:aops P (l.map (·.dst)) l st (Q .normal)):Sat P N D O (.region id l.toArray false) Q st:=by
 intro O1 o ro μ a w _ hs
 have:=khD (ro:=ro) (l:=l) (r2:=[]) l st (Q':=Post N D O Q μ w st.n) hd hs h ?_
 ·rw [jbd] at this; exact kqp this
 exact fun st' μ' a' w' k s e=>⟨st',μ',O1,o,k,s,e.d⟩
def kbU (P:Program) (h:AH) (env:Env):ResultVar->Option AV
 | .tmp t=>some (lk env t)
 | .cell x T=>match deref h (lk env x) with
  | some cs=>match aggO P T with
   | some true=>if P.cellsOf T<=cs.length then some (.ag (cs.take (P.cellsOf T))) else none
   | some false=>cs[0]?
   | none=>none
  | none=>none
def kaT (P:Program) (h:AH) (env:Env) (rs:List ResultVar):Option AV:=
 match rs.mapM (kbU P h env) with
 | some [v]=>some v
 | some vs=>some (.tp vs)
 | none=>none
def kao (args:List AV):Env:=args.zipIdx.map fun (v,i)=>(i,v)
theorem kpo (args:List AV):∀ (k s:Nat),lk ((args.zipIdx k).map fun (v,i)=>(i,v)) s=if k<=s then (args[s-k]?).getD .un else .un:=by
 induction args with
 | nil=>intro k s; simp [lk]
 | cons v args ih=>
  intro k s
  simp only [jbx,jap,lk]
  rw [ih]
  by_cases h:s=k
  ·subst h; simp
  ·rw [if_neg h]
   by_cases h2:k<=s
   ·rw [if_pos h2,if_pos (by omega),show s-k=(s-(k+1))+1 by omega,jbz]
   ·rw [if_neg h2,if_neg (by omega)]
def resS (tmps:Array Value):ResultVar->Sem Value
 | .tmp t=>pure (tmps.getD t undef)
 | .cell x T=>do loadVar T (<-asAddr (tmps.getD x undef))
theorem kvQ (fn:Func) (tmps:Array Value):results fn tmps=(do
  let vs<-fn.results.mapM (resS tmps)
  pure (if h:vs.size=1 then vs[0] else .tuple vs)):=by
 unfold results
 congr 1
theorem kvT {μ:Mu} {a:Act} {w:World} (hs:SR N D O μ st a w) {rv:ResultVar} {v:AV} (h:kbU P st.h st.env rv=some v) :
  ∃ u,(resS a.tmps rv).run P w = .ok u w/\VR w O μ st.n v u:=by
 cases rv with
 | tmp t=>simp only [kbU,Option.some.injEq] at h; subst h; exact ⟨_,rfl,hs.env t⟩
 | cell x T=>
  simp only [kbU] at h
  split at h
  ·rename_i cs hd
   obtain ⟨b,off,hv,hrd⟩:=koD hs.hr (hs.env x) hd
   simp only [resS,hv]
   split at h
   ·rename_i hagg
    split at h
    ·rename_i hle
     cases h
     obtain ⟨i,hi⟩:=kgT hagg
     obtain ⟨vals,h1,h2,h3,h4⟩:=(hrd.take (P.cellsOf T)).vals
     have hlen:vals.length=P.cellsOf T:=by rw [h1,jbh]; omega
     refine ⟨.agg vals.toArray,?_,VR.ag_of h1 (fun j c hj=>(hrd.take (P.cellsOf T) j c hj).1) h4⟩
     simp only [asAddr,pure_bind,loadVar,Sem.run_bind,keo hagg,Result.andThen_ok,if_true,kaC hi,keA h2 hlen,Sem.run_pure]
    ·cases h
   ·rename_i hagg
    obtain ⟨h1,u,h2,h3⟩:=hrd 0 v h
    simp only [Nat.add_zero] at h2
    exact ⟨u,by simp [asAddr,loadVar,keo hagg,h2],h3⟩
   ·cases h
  ·cases h
theorem kir {μ:Mu} {a:Act} {w:World} (hs:SR N D O μ st a w) {fn:Func} {v:AV} (h:kaT P st.h st.env fn.results.toList=some v):∃ u,(results fn a.tmps).run P w = .ok u w/\VR w O μ st.n v u:=by
 have step:∀ (rs:List ResultVar) (vs:List AV),rs.mapM (kbU P st.h st.env)=some vs->∃ us:List Value,us.length=vs.length/\(rs.mapM (resS a.tmps):Sem (List Value)).run P w = .ok us w/\
   ∀ (j:Nat) (c:AV),vs[j]?=some c->∃ u,us[j]?=some u/\VR w O μ st.n c u:=by
  intro rs
  induction rs with
  | nil=>intro vs h; simp at h; subst h; exact ⟨[],rfl,by simp,fun j c hj=>by simp at hj⟩
  | cons rv rs ih=>
   intro vs h
   simp only [jdn,Option.bind_eq_bind,jaa,Option.pure_def,Option.some.injEq] at h
   obtain ⟨v,hv,vs',hvs,rfl⟩:=h
   obtain ⟨u,hu,hvr⟩:=kvT hs hv
   obtain ⟨us,h1,h2,h3⟩:=ih vs' hvs
   refine ⟨u::us,by simp [h1],?_,fun j c hj=>?_⟩
   ·simp only [jdn,Sem.run_bind,h2,hu,Result.andThen_ok,Sem.run_pure]
   ·cases j with
    | zero=>simp at hj; subst hj; exact ⟨u,rfl,hvr⟩
    | succ j=>simpa using h3 j c (by simpa using hj)
 unfold kaT at h
 have fin:∀ {us:List Value},(fn.results.toList.mapM (resS a.tmps):Sem (List Value)).run P w = .ok us w->
   (results fn a.tmps).run P w = .ok (match us with | [u]=>u | us=>.tuple us.toArray) w:=by
  intro us hus
  rw [kvQ]
  have:(fn.results.mapM (resS a.tmps):Sem (Array Value)).run P w = .ok us.toArray w:=by
   rw [Array.mapM_eq_mapM_toList]
   simp only [Sem.run_map,hus,Result.andThen_ok]
  rw [Sem.run_bind]
  rw [this]
  simp only [Result.andThen_ok]
  match us with
  | []=>simp
  | [u]=>simp
  | u::v::us=>simp
 split at h
 ·rename_i v' hvs
  cases h
  obtain ⟨us,h1,h2,h3⟩:=step _ _ hvs
  obtain ⟨u,hu⟩:∃ u,us=[u]:=by
   match us,h1 with
   | [u],_=>exact ⟨u,rfl⟩
  subst hu
  refine ⟨u,fin h2,?_⟩
  obtain ⟨u',hu',hvr⟩:=h3 0 v rfl
  simp at hu'; subst hu'; exact hvr
 ·rename_i vs hne hvs
  cases h
  obtain ⟨us,h1,h2,h3⟩:=step _ _ hvs
  refine ⟨_,fin h2,?_⟩
  have:(match us with | [u]=>u | us=>Value.tuple us.toArray) = .tuple us.toArray:=by
   match us,vs,h1,hne with
   | [],_,_,_=>rfl
   | [u],[v],_,hne=>exact absurd rfl (hne v)
   | u::v::us,_,_,_=>rfl
  rw [this]
  refine .tp vs us.toArray (fun j=>us.getD j undef) (by simpa using h1) (fun j c hj=>?_) (fun j c hj=>?_)
  ·obtain ⟨u,hu,_⟩:=h3 j c hj; simp [hu,List.getD]
  ·obtain ⟨u,hu,hvr⟩:=h3 j c hj; simpa [hu,List.getD] using hvr
 ·cases h
theorem VR.putObj {w:World} {μ:Mu} {m:Nat} {b:Nat} {o:Obj} (o':Obj) (hb:w.heap[b]?=some o) (hc:∀ c T f,o≠.cells c T f) {a:AV} {v:Value} (hv:VR w O μ m a v):VR (w.putObj b o') O μ m a v:=by
 have hh:∀ {b':Nat} {c:Array Value} {T:TypeId} {f:Nat×Nat},w.heap[b']?=some (.cells c T f)->(w.putObj b o').heap[b']?=some (.cells c T f):=fun {b' c T f} h=>by
  by_cases e:b'=b
  ·subst e; rw [hb] at h; cases h; exact absurd rfl (hc _ _ _)
  ·exact (World.putObj_heap_other e).trans h
 have hcell:∀ {b' k:Nat} {u:Value},w.cell? ⟨b',k,none⟩=some u->(w.putObj b o').cell? ⟨b',k,none⟩=some u:=fun h=>by
  obtain ⟨c,T,f,h1,h2⟩:=cell_heap.1 h
  exact cell_heap.2 ⟨c,T,f,hh h1,h2⟩
 induction hv with
 | sc v h1=>exact .sc v h1
 | ud=>exact .ud
 | gs es=>exact .gs es
 | un v=>exact .un v
 | e0 p=>exact .e0 p
 | own id i j v h h1 hv=>exact .own id i j v h h1 hv
 | ms id off len v h h1 hv=>
  refine .ms id off len v h h1 fun b k e=>?_
  obtain ⟨o,cap,c,T,g1,g2,g3,g4,g5,g6⟩:=hv b k e
  exact ⟨o,cap,c,T,g1,g2,g3,g4,hh g5,g6⟩
 | mp id v h h1 hv=>exact .mp id v h h1 hv
 | fp cs b o us hA hc h1 _ ih=>exact .fp cs b o us hA (fun j c hj=>hcell (hc j c hj)) h1 ih
 | slnil p=>exact .slnil p
 | sl es b o cap k us hcap hmax hA hk hc h1 _ ih=>exact .sl es b o cap k us hcap hmax hA hk (fun i e hi j c hj=>hcell (hc i e hi j c hj)) h1 ih
 | fn f cs vs us hs hc _ ih=>exact .fn f cs vs us hs hc ih
 | ag cs vs us hs hc h1 _ ih=>exact .ag cs vs us hs hc h1 ih
 | tp cs vs us hs hc _ ih=>exact .tp cs vs us hs hc ih
theorem HR.putObj {w:World} {μ:Mu} {h:AH} {m:Nat} (hr:HR w O μ h m) {b:Nat} {o:Obj} (o':Obj) (hb:w.heap[b]?=some o) (hc:∀ c T f,o≠.cells c T f) (hu:∀ id k,μ id≠some (b,k)):HR (w.putObj b o') O μ h m:=by
 refine ⟨fun b hb=>by rw [World.putObj_size]; exact hr.olt b hb,fun id b k e=>by rw [World.putObj_size]; exact hr.scope id b k e,hr.inj,hr.notO,fun id B hB=>?_⟩
 have:=hr.blk id B hB
 cases B with
 | cells k T es=>
  obtain ⟨b',c,h1,h2,h3⟩:=this
  refine ⟨b',c,h1,(World.putObj_heap_other (by rintro rfl; exact hu id k h1)).trans h2,fun i e hi=>⟨(h3 i e hi).1,fun j a hj=>?_⟩⟩
  obtain ⟨h4,u,h5,h6⟩:=(h3 i e hi).2 j a hj
  exact ⟨h4,u,h5,h6.putObj o' hb hc⟩
 | map kvs=>
  obtain ⟨b',es,h1,h2,h3,h4⟩:=this
  refine ⟨b',es,h1,(World.putObj_heap_other (by rintro rfl; exact hu id 0 h1)).trans h2,h3,fun i x hi=>?_⟩
  obtain ⟨e,h5,h6,h7,h8,h9⟩:=h4 i x hi
  exact ⟨e,h5,h6,h7,h8,h9.putObj o' hb hc⟩
 | si s pos=>
  obtain ⟨b',h1,h2⟩:=this
  exact ⟨b',h1,(World.putObj_heap_other (by rintro rfl; exact hu id 0 h1)).trans h2⟩
theorem Evo.putObj {w0 w:World} {μ0 μ:Mu} {n0 n1:Nat} (e:Evo w0 μ0 n0 w μ n1) {b:Nat} (o':Obj) (hb:w0.heap.size<=b):Evo w0 μ0 n0 (w.putObj b o') μ n1:=by
 have hk:∀ b',b'<w0.heap.size->(w.putObj b o').heap[b']?=w.heap[b']?:=fun b' h=>World.putObj_heap_other (by omega)
 refine ⟨e.os,e.tape,e.output,by rw [World.putObj_size]; exact e.size,e.le,fun b' h1 h2=>(hk b' h1).trans (e.keep b' h1 h2),fun b' c T f hb'=>?_,e.ids,e.new⟩
 obtain ⟨c',h1,h2⟩:=e.row b' c T f hb'
 exact ⟨c',(hk b' (jak.1 hb').1).trans h1,h2⟩
theorem kun {fn:Func} {v:AV} {R:Ending->World->Prop} {w0:World} {μ0 μ:Mu} {n0:Nat} {st':St} {a':Act} {w':World} (h1:kaT P st'.h st'.env fn.results.toList=some v) (hs:SR N ⟨w0.heap.size,none⟩ O μ st' a' w') (he:Evo w0 μ0 n0 w' μ st'.n)
  (hR:∀ w2 u,HR w2 O μ st'.h st'.n->VR w2 O μ st'.n v u->Evo w0 μ0 n0 w2 μ st'.n->R (.returned u) w2):LeavesInM (FF none) 0 P fn a'.tmps R a'.defers .returning w':=by
 obtain ⟨_,_,bs,hn,hd,hb⟩:=hs.defers
 have key:∀ (bs:List Nat) (w2:World),bs.Nodup->(∀ b∈bs,w0.heap.size<=b/\w2.heap[b]?=some (.deferred (some []))/\∀ id k,μ id≠some (b,k))->HR w2 O μ st'.h st'.n->(∀ s,VR w2 O μ st'.n (lk st'.env s) (a'.tmps.getD s undef))->Evo w0 μ0 n0 w2 μ st'.n->
   LeavesInM (FF none) 0 P fn a'.tmps R (bs.map (fun b=>({ target:=.collected b,args:=#[] }:Deferred))) .returning w2:=by
  intro bs
  induction bs with
  | nil=>
   intro w2 _ _ hr hv he
   obtain ⟨u,h3,h4⟩:=kir (N:=a'.tmps.size) (D:=⟨0,none⟩) (a:={ tmps:=a'.tmps,defers:=[] }) ⟨hr,rfl,.nil _ _ _ (jea _),hv,(fun e=>by cases e),trivial⟩ h1
   exact ⟨u,h3,hR w2 u hr h4 he⟩
  | cons b bs ih=>
   intro w2 hn hb hr hv he
   obtain ⟨g1,g2,g3⟩:=hb b (by simp)
   rw [jcv] at hn
   refine ⟨by simp,.inl ⟨b,_,rfl,run_takeDeferred g2,?_⟩⟩
   refine ih _ hn.2 (fun b' hb'=>?_) (hr.putObj _ g2 (by simp) g3) (fun s=>(hv s).putObj _ g2 (by simp)) (he.putObj _ g1)
   obtain ⟨k1,k2,k3⟩:=hb b' (by simp [hb'])
   exact ⟨k1,(World.putObj_heap_other (by rintro rfl; exact hn.1 hb')).trans k2,k3⟩
 rw [hd]
 exact key bs w' hn hb hs.hr hs.env he
def fnQ (P:Program) (rs:List ResultVar) (R:K3):Exit->St->Prop
 | .ret,s=>∃ v,kaT P s.h s.env rs=some v/\R v s.h s.n
 | .normal,s=>∃ v,kaT P s.h s.env rs=some v/\R v s.h s.n
 | _,_=>False
theorem HC.of_body {f:FuncId} {fn:Func} {c:Code} {args:List AV} {h:AH} {n:Nat} {R:K3} (hf:P.funcs[f]?=some fn) (hb:fn.body=some c) (hname:(fn.name== "runtime.NumGoroutine")=false) (hargs:args.length<=fn.ntmps)
  (hsat:∀ (D:DX) (O:Nat->Prop),D.it=none->Sat P fn.ntmps D O c (fnQ P fn.results.toList R) ⟨kao args,h,n⟩):HC P f args h n R:=by
 refine ⟨⟨fn,hf,by rw [hb]; rfl,hname⟩,fun O μ w vs hr hsz hvs=>(callsIn_wide (n:=0)).1 (callsIn_of_wp_marks hf hb trivial ?_)⟩
 show c.wpIn (FF none) 0 P _ _ w
 refine wpIn_mono (hsat ⟨w.heap.size,none⟩ O rfl O (fun _=>rfl) none μ _ w trivial ⟨hr,?_,.nil _ _ _ (jah _),fun s=>?_,(fun e=>by cases e),trivial⟩) ?_
 ·simp [hsz]; omega
 ·simp only [kao,kpo args 0 s,jea,if_true,Nat.sub_zero]
  cases hs:args[s]? with
  | none=>simpa using VR.un _
  | some v=>
   obtain ⟨u,hu,hvr⟩:=hvs s v hs
   have:(vs++Array.replicate (fn.ntmps-vs.size) undef).getD s undef=u:=by
    rw [jaf,jdq (jak.1 hu).1,hu]; rfl
   rw [this]
   exact hvr
 ·rintro e a' w' ⟨st',μ',O',o',hq,hs',he⟩
  cases o' rfl
  have hfin:∀ v,kaT P st'.h st'.env fn.results.toList=some v->R v st'.h st'.n->LeavesInM (FF none) 0 P fn a'.tmps (fun e w'=>∃ u v h' n' μ',e = .returned u/\R v h' n'/\HR w' O μ' h' n'/\VR w' O μ' n' v u/\Evo w μ n w' μ' n') a'.defers .returning w':=fun v h1 h2=>
   kun h1 hs' (he rfl) fun w2 u h3 h4 h5=>⟨u,v,st'.h,st'.n,μ',rfl,h2,h3,h4,h5⟩
  cases e with
  | ret=>
   obtain ⟨v,h1,h2⟩:=hq
   exact hfin v h1 h2
  | normal=>
   obtain ⟨v,h1,h2⟩:=hq
   exact hfin v h1 h2
  | exit id=>exact hq.elim
  | goto l=>exact hq.elim
  | panic c=>exact hq.elim
  | outgrown=>exact hq.elim
end
abbrev mu0:Mu:=fun _=>none
abbrev ah0:AH:=fun _=>none
inductive Free:AV->Prop
 | sc (v:Value):Free (.sc v)
 | ud:Free .ud
 | un:Free .un
 | e0:Free .e0
 | fp (cs:List AV) (h:∀ (j:Nat) (c:AV),cs[j]?=some c->Free c):Free (.fp cs)
 | sl (es:List (List AV)) (h:∀ (i:Nat) (e:List AV),es[i]?=some e->∀ (j:Nat) (c:AV),e[j]?=some c->Free c):Free (.sl es)
 | fn (f:FuncId) (cs:List AV) (h:∀ (j:Nat) (c:AV),cs[j]?=some c->Free c):Free (.fn f cs)
 | ag (cs:List AV) (h:∀ (j:Nat) (c:AV),cs[j]?=some c->Free c):Free (.ag cs)
 | tp (cs:List AV) (h:∀ (j:Nat) (c:AV),cs[j]?=some c->Free c):Free (.tp cs)
inductive Flat:AV->Prop
 | sc (v:Value):Flat (.sc v)
 | ag (cs:List AV) (h:∀ (j:Nat) (c:AV),cs[j]?=some c->Flat c):Flat (.ag cs)
 | tp (cs:List AV) (h:∀ (j:Nat) (c:AV),cs[j]?=some c->Flat c):Flat (.tp cs)
section
variable {P:Program} {w:World} {O:Nat->Prop} {μ:Mu} {h:AH} {n:Nat}
theorem VR.free {a:AV} {v:Value} (hv:VR w O μ n a v) (hf:Free a) {O':Nat->Prop} (ho:∀ b,O' b->Av O μ b):VR w O' mu0 0 a v:=by
 have hav:∀ b,Av O' mu0 b->Av O μ b:=fun b hb=>by
  rcases hb with hb | ⟨id,k,hb⟩
  ·exact ho b hb
  ·cases hb
 induction hv with
 | sc v h1=>exact .sc v h1
 | ud=>exact .ud
 | gs es=>exact .gs es
 | un v=>exact .un v
 | e0 p=>exact .e0 p
 | own=>cases hf
 | ms=>cases hf
 | mp=>cases hf
 | fp cs b o us hA hc h1 _ ih=>cases hf with | fp _ hf=>exact .fp cs b o us (fun hne hb=>hA hne (hav b hb)) hc h1 fun j c hj=>ih j c hj (hf j c hj)
 | slnil p=>exact .slnil p
 | sl es b o cap k us hcap hmax hA hk hc h1 _ ih=>cases hf with | sl _ hf=>exact .sl es b o cap k us hcap hmax (fun i e hi hne hb=>hA i e hi hne (hav b hb)) hk hc h1 fun i e hi j c hj=>ih i e hi j c hj (hf i e hi j c hj)
 | fn f cs vs us hs hc _ ih=>cases hf with | fn _ _ hf=>exact .fn f cs vs us hs hc fun j c hj=>ih j c hj (hf j c hj)
 | ag cs vs us hs hc h1 _ ih=>cases hf with | ag _ hf=>exact .ag cs vs us hs hc h1 fun j c hj=>ih j c hj (hf j c hj)
 | tp cs vs us hs hc _ ih=>cases hf with | tp _ hf=>exact .tp cs vs us hs hc fun j c hj=>ih j c hj (hf j c hj)
theorem VR.lift {a:AV} {v:Value} {O':Nat->Prop} (hv:VR w O' mu0 0 a v) (ho:∀ b,Av O μ b->O' b):VR w O μ n a v:=by
 induction hv with
 | sc v h1=>exact .sc v h1
 | ud=>exact .ud
 | gs es=>exact .gs es
 | un v=>exact .un v
 | e0 p=>exact .e0 p
 | own _ _ _ _ h=>omega
 | ms _ _ _ _ h=>omega
 | mp _ _ h=>omega
 | fp cs b o us hA hc h1 _ ih=>exact .fp cs b o us (fun hne hb=>hA hne (.inl (ho b hb))) hc h1 ih
 | slnil p=>exact .slnil p
 | sl es b o cap k us hcap hmax hA hk hc h1 _ ih=>exact .sl es b o cap k us hcap hmax (fun i e hi hne hb=>hA i e hi hne (.inl (ho b hb))) hk hc h1 ih
 | fn f cs vs us hs hc _ ih=>exact .fn f cs vs us hs hc ih
 | ag cs vs us hs hc h1 _ ih=>exact .ag cs vs us hs hc h1 ih
 | tp cs vs us hs hc _ ih=>exact .tp cs vs us hs hc ih
theorem VR.flat {a:AV} {v:Value} (hv:VR w O μ n a v) (hf:Flat a) (w':World) (O':Nat->Prop) (μ':Mu) (n':Nat):VR w' O' μ' n' a v:=by
 induction hv with
 | sc v h1=>exact .sc v h1
 | ag cs vs us hs hc h1 _ ih=>cases hf with | ag _ hf=>exact .ag cs vs us hs hc h1 fun j c hj=>ih j c hj (hf j c hj)
 | tp cs vs us hs hc _ ih=>cases hf with | tp _ hf=>exact .tp cs vs us hs hc fun j c hj=>ih j c hj (hf j c hj)
 | _=>cases hf
inductive Snap (h:AH):AV->AV->Prop
 | free (a:AV) (hf:Free a):Snap h a a
 | nilS:Snap h (.sc (.slice none 0 0)) (.sl [])
 | own (id i j k:Nat) (T:TypeId) (es:List (List AV)) (e cs:List AV) (hB:h id=some (.cells k T es)) (he:es[i]?=some e) (hl:cs.length=(e.drop j).length)
   (hr:∀ (q:Nat) (c c':AV),(e.drop j)[q]?=some c->cs[q]?=some c'->Snap h c c'):Snap h (.own id i j) (.fp cs)
 | ms (id off len k:Nat) (T:TypeId) (es es':List (List AV)) (hB:h id=some (.cells k T es)) (hle:off+len<=es.length) (hl:es'.length=len)
   (hk:∀ (q:Nat) (e e':List AV),es[off+q]?=some e->es'[q]?=some e'->e'.length=e.length)
   (hr:∀ (q:Nat) (e e':List AV),es[off+q]?=some e->es'[q]?=some e'->∀ (p:Nat) (c c':AV),e[p]?=some c->e'[p]?=some c'->Snap h c c'):Snap h (.ms id off len) (.sl es')
 | fp (cs cs':List AV) (hl:cs'.length=cs.length) (hr:∀ (q:Nat) (c c':AV),cs[q]?=some c->cs'[q]?=some c'->Snap h c c'):Snap h (.fp cs) (.fp cs')
 | sl (es es':List (List AV)) (hl:es'.length=es.length) (hk:∀ (q:Nat) (e e':List AV),es[q]?=some e->es'[q]?=some e'->e'.length=e.length)
   (hr:∀ (q:Nat) (e e':List AV),es[q]?=some e->es'[q]?=some e'->∀ (p:Nat) (c c':AV),e[p]?=some c->e'[p]?=some c'->Snap h c c'):Snap h (.sl es) (.sl es')
 | fn (f:FuncId) (cs cs':List AV) (hl:cs'.length=cs.length) (hr:∀ (q:Nat) (c c':AV),cs[q]?=some c->cs'[q]?=some c'->Snap h c c'):Snap h (.fn f cs) (.fn f cs')
 | ag (cs cs':List AV) (hl:cs'.length=cs.length) (hr:∀ (q:Nat) (c c':AV),cs[q]?=some c->cs'[q]?=some c'->Snap h c c'):Snap h (.ag cs) (.ag cs')
 | tp (cs cs':List AV) (hl:cs'.length=cs.length) (hr:∀ (q:Nat) (c c':AV),cs[q]?=some c->cs'[q]?=some c'->Snap h c c'):Snap h (.tp cs) (.tp cs')
theorem Snap.one {a a':AV} (hs:Snap h a a') (h1:a.one=true):a'.one=true:=by
 cases hs <;> first | exact h1 | rfl | (simp [AV.one] at h1; done)
theorem kag {α:Type} {l l':List α} (hl:l'.length=l.length) {q:Nat} {c':α} (hq:l'[q]?=some c'):∃ c,l[q]?=some c:=
 ⟨l[q]'(by rw [<-hl]; exact (jad.1 hq).1),jae _⟩
theorem Snap.vr {a a':AV} (hs:Snap h a a') (hr:HR w O μ h n):∀ {v:Value},VR w O μ n a v->VR w O mu0 0 a' v:=by
 have hO:∀ b,(∃ id k,μ id=some (b,k))->¬ Av O mu0 b:=fun b hb ha=>by
  obtain ⟨id,k,hb⟩:=hb
  rcases ha with ha | ⟨_,_,ha⟩
  ·exact hr.notO id b k hb ha
  ·cases ha
 have hO2:∀ b,¬ Av O μ b->¬ Av O mu0 b:=fun b hb ha=>by
  rcases ha with ha | ⟨_,_,ha⟩
  ·exact hb (.inl ha)
  ·cases ha
 induction hs with
 | free a hf=>intro v hv; exact hv.free hf fun b hb=>.inl hb
 | nilS=>intro v hv; rw [hv.sc_inv]; exact .slnil none
 | own id i j k T es e cs hB he hl hsn ih=>
  intro v hv
  obtain ⟨b,c,g1,g2,rfl,g4⟩:=kik hr hB hv
  obtain ⟨b',c',f1,f2,f3⟩:=hr.own_cells hB
  rw [g1] at f1; cases f1
  have hrd:=((f3 i e he).2).drop j
  have cell:∀ q c',cs[q]?=some c'->∃ x,(e.drop j)[q]?=some x:=fun q c' hq=>kag hl hq
  refine .fp cs b (i*k+j) (fun q=>(w.cell? ⟨b,i*k+j+q,none⟩).getD undef) (fun _=>hO b ⟨id,k,g1⟩) (fun q c' hq=>?_) (fun q c' hq=>?_) (fun q c' hq=>?_)
  all_goals
   obtain ⟨x,hx⟩:=cell q c' hq
   obtain ⟨p1,u,p2,p3⟩:=hrd q x hx
  ·rw [p2]; rfl
  ·exact (hsn q x c' hx hq).one p1
  ·rw [p2]; exact ih q x c' hx hq p3
 | ms id off len k T es es' hB hle hl hk hsn ih=>
  intro v hv
  obtain ⟨b,c,oo,cap,g1,g2,rfl,g3,g4,g5,g6,g7⟩:=kii hr hB hv
  obtain ⟨b',c',f1,f2,f3⟩:=hr.own_cells hB
  rw [g1] at f1; cases f1
  have elem:∀ q e',es'[q]?=some e'->∃ x,es[off+q]?=some x:=fun q e' hq=>by
   have:=(jad.1 hq).1
   exact ⟨es[off+q]'(by omega),jae _⟩
  subst hl
  refine .sl es' b oo cap k (fun q p=>(w.cell? ⟨b,oo+q*k+p,none⟩).getD undef) g4 g5 (fun _ _ _ _=>hO b ⟨id,k,g1⟩) (fun q e' hq=>?_) (fun q e' hq p c' hp=>?_) (fun q e' hq p c' hp=>?_) (fun q e' hq p c' hp=>?_)
  ·obtain ⟨x,hx⟩:=elem q e' hq
   rw [hk q x e' hx hq]; exact (f3 _ x hx).1
  all_goals
   obtain ⟨x,hx⟩:=elem q e' hq
   obtain ⟨y,hy⟩:=kag (hk q x e' hx hq) hp
   obtain ⟨p1,u,p2,p3⟩:=(f3 _ x hx).2 p y hy
   have hq':=(jad.1 hq).1
   have hadr:oo+q*k+p=(off+q)*k+p:=by rw [g6 (by omega),jby]
  ·rw [hadr,p2]; rfl
  ·exact Snap.one (hsn q x e' hx hq p y c' hy hp) p1
  ·rw [hadr,p2]; exact ih q x e' hx hq p y c' hy hp p3
 | fp cs cs' hl hsn ih=>
  intro v hv
  cases hv with
  | fp _ b o us hA hc h1 hr'=>
   refine .fp cs' b o us (fun hne=>hO2 b (hA (by rintro rfl; simp at hl; exact hne hl))) (fun q c' hq=>?_) (fun q c' hq=>?_) (fun q c' hq=>?_)
   all_goals obtain ⟨x,hx⟩:=kag hl hq
   ·exact hc q x hx
   ·exact (hsn q x c' hx hq).one (h1 q x hx)
   ·exact ih q x c' hx hq (hr' q x hx)
 | sl es es' hl hk hsn ih=>
  intro v hv
  cases hv with
  | slnil=>simp at hl; subst hl; exact .slnil _
  | sl _ b o cap k us hcap hmax hA hkk hc h1 hr'=>
   rw [<-hl]
   refine .sl es' b o cap k us (by omega) hmax (fun q e' hq hne=>?_) (fun q e' hq=>?_) (fun q e' hq p c' hp=>?_) (fun q e' hq p c' hp=>?_) (fun q e' hq p c' hp=>?_)
   all_goals obtain ⟨x,hx⟩:=kag hl hq
   ·exact hO2 b (hA q x hx (by rintro rfl; have:=hk q [] e' hx hq; simp at this; exact hne this))
   ·rw [hk q x e' hx hq]; exact hkk q x hx
   all_goals obtain ⟨y,hy⟩:=kag (hk q x e' hx hq) hp
   ·exact hc q x hx p y hy
   ·exact (hsn q x e' hx hq p y c' hy hp).one (h1 q x hx p y hy)
   ·exact ih q x e' hx hq p y c' hy hp (hr' q x hx p y hy)
 | fn f cs cs' hl hsn ih=>
  intro v hv
  cases hv with
  | fn _ _ vs us hs hc hr'=>
   refine .fn f cs' vs us (by omega) (fun q c' hq=>?_) (fun q c' hq=>?_)
   all_goals obtain ⟨x,hx⟩:=kag hl hq
   ·exact hc q x hx
   ·exact ih q x c' hx hq (hr' q x hx)
 | ag cs cs' hl hsn ih=>
  intro v hv
  cases hv with
  | ag _ vs us hs hc h1 hr'=>
   refine .ag cs' vs us (by omega) (fun q c' hq=>?_) (fun q c' hq=>?_) (fun q c' hq=>?_)
   all_goals obtain ⟨x,hx⟩:=kag hl hq
   ·exact hc q x hx
   ·exact (hsn q x c' hx hq).one (h1 q x hx)
   ·exact ih q x c' hx hq (hr' q x hx)
 | tp cs cs' hl hsn ih=>
  intro v hv
  cases hv with
  | tp _ vs us hs hc hr'=>
   refine .tp cs' vs us (by omega) (fun q c' hq=>?_) (fun q c' hq=>?_)
   all_goals obtain ⟨x,hx⟩:=kag hl hq
   ·exact hc q x hx
   ·exact ih q x c' hx hq (hr' q x hx)
def PC (P:Program) (f:FuncId) (args:List AV) (R:AV->Prop):Prop:=
 (∃ fn,P.funcs[f]?=some fn/\fn.body.isSome=true/\(fn.name== "runtime.NumGoroutine")=false)/\
 ∀ (O:Nat->Prop) (w:World) (vs:Array Value),(∀ b,O b->b<w.heap.size)->vs.size=args.length->(∀ (j:Nat) (c:AV),args[j]?=some c->∃ u,vs[j]?=some u/\VR w O mu0 0 c u)->
  Calls P f vs w (fun e w'=>∃ u v,e = .returned u/\R v/\VR w' O mu0 0 v u/\Below w.heap.size w w')
theorem HR.zero (w:World) (O:Nat->Prop) (ho:∀ b,O b->b<w.heap.size):HR w O mu0 ah0 0:=
 ⟨ho,fun id b k h=>(by cases h),fun _ _ _ _ _ h=>(by cases h),fun _ _ _ h=>(by cases h),fun _ _ h=>(by cases h)⟩
theorem PC.of_HC {f:FuncId} {args:List AV} {R:AV->Prop} (hc:HC P f args ah0 0 (fun v h _=>∃ v',Snap h v v'/\R v')):PC P f args R:=by
 refine ⟨hc.1,fun O w vs ho hs hv=>(hc.2 O mu0 w vs (HR.zero w O ho) hs hv).mono ?_⟩
 rintro e w' ⟨u,v,h',n',μ',rfl,⟨v',q1,q2⟩,q3,q4,q5⟩
 exact ⟨u,v',rfl,q2,q1.vr q3 q4,⟨q5.os,q5.tape,q5.output,q5.size,fun b hb=>q5.keep b hb (fun id k h=>by cases h)⟩⟩
theorem Evo.of_below {w':World} (hr:HR w O μ h n) (hb:Below w.heap.size w w'):Evo w μ n w' μ n/\HR w' O μ h n:=by
 have he:Evo w μ n w' μ n:=⟨hb.os,hb.tape,hb.output,hb.size,jah _,fun b hlt _=>hb.block b hlt,fun b c T f hc=>⟨c,by rw [hb.block b (jak.1 hc).1]; exact hc,rfl⟩,fun _ _=>.inl rfl,
  fun id b k e hn=>absurd (hr.scope id b k e).1 (by omega)⟩
 refine ⟨he,fun b h=>jan (hr.olt b h) hb.size,fun id b k e=>⟨(hr.scope id b k e).1,jan (hr.scope id b k e).2 hb.size⟩,hr.inj,hr.notO,fun id B hB=>?_⟩
 exact (hr.blk id B hB).evo rfl (fun b k e=>hb.block b (hr.scope id b k e).2) he
theorem PC.free {f:FuncId} {args:List AV} {R:AV->Prop} (hc:PC P f args R) (hf:∀ (j:Nat) (c:AV),args[j]?=some c->Free c) (h:AH) (n:Nat):HC P f args h n (fun v h' n'=>R v/\h'=h/\n'=n):=by
 refine ⟨hc.1,fun O μ w vs hr hs hv=>(hc.2 (Av O μ) w vs (fun b hb=>?_) hs (fun j c hj=>?_)).mono ?_⟩
 ·rcases hb with hb | ⟨id,k,hb⟩
  ·exact hr.olt b hb
  ·exact (hr.scope id b k hb).2
 ·obtain ⟨u,h1,h2⟩:=hv j c hj
  exact ⟨u,h1,h2.free (hf j c hj) fun b hb=>hb⟩
 ·rintro e w' ⟨u,v,rfl,q1,q2,q3⟩
  obtain ⟨e1,h1⟩:=Evo.of_below hr q3
  exact ⟨u,v,h,n,μ,rfl,⟨q1,rfl,rfl⟩,h1,q2.lift fun b hb=>hb,e1⟩
theorem PC.lent {f:FuncId} {args args':List AV} {R:AV->Prop} (hc:PC P f args' R) (h:AH) (n:Nat) (hl:args'.length=args.length) (hsn:∀ (j:Nat) (c c':AV),args[j]?=some c->args'[j]?=some c'->Snap h c c')
  (hflat:∀ v,R v->Flat v):HC P f args h n (fun v h' n'=>R v/\h'=h/\n'=n):=by
 refine ⟨hc.1,fun O μ w vs hr hs hv=>(hc.2 O w vs hr.olt (by omega) (fun j c' hj=>?_)).mono ?_⟩
 ·obtain ⟨c,hcj⟩:=kag hl hj
  obtain ⟨u,h1,h2⟩:=hv j c hcj
  exact ⟨u,h1,(hsn j c c' hcj hj).vr hr h2⟩
 ·rintro e w' ⟨u,v,rfl,q1,q2,q3⟩
  obtain ⟨e1,h1⟩:=Evo.of_below hr q3
  exact ⟨u,v,h,n,μ,rfl,⟨q1,rfl,rfl⟩,h1,q2.flat (hflat v q1) _ _ _ _,e1⟩
end
section
variable {P:Program} {K:K3} {h:AH} {n:Nat}
theorem kox {env env':Env} (pl:List (Nat×Nat)):∀ (parts:List (Nat×Operand)) (cs:List AV),(∀ p∈parts,ev env p.2=ev env' p.2)->fillS pl env parts cs=fillS pl env' parts cs
 | [],cs,_=>rfl
 | (i,x)::rest,cs,hp=>by
  have h1:ev env x=ev env' x:=hp (i,x) (by simp)
  have ih:=fun cs=>kox pl rest cs (fun p hp'=>hp p (by simp [hp']))
  unfold fillS
  rw [h1]
  split
  ·split
   ·exact ih _
   ·rfl
  ·rfl
theorem koL {env env':Env} (k:Nat):∀ (parts:List (Nat×Operand)) (es:List (List AV)),(∀ p∈parts,ev env p.2=ev env' p.2)->fillE k env parts es=fillE k env' parts es
 | [],es,_=>rfl
 | (i,x)::rest,es,hp=>by
  have h1:ev env x=ev env' x:=hp (i,x) (by simp)
  have ih:=fun es=>koL k rest es (fun p hp'=>hp p (by simp [hp']))
  unfold fillE
  rw [h1]
  split
  ·split
   ·exact ih _
   ·rfl
  ·rfl
theorem kru {env env':Env} {b:Builtin} {args:Array Operand} {ts:Array TypeId} (hx:∀ x∈args.toList,ev env x=ev env' x):kah P env h n b args ts K=kah P env' h n b args ts K:=by
 unfold kah
 split
 ·rename_i ha _; rw [ha] at hx; rw [hx _ (by simp)]
 ·rename_i ha _; rw [ha] at hx; rw [hx _ (by simp),hx _ (by simp)]
 ·rename_i ha _; rw [ha] at hx; rw [hx _ (by simp),hx _ (by simp)]
 ·rename_i ha; rw [ha] at hx; rw [hx _ (by simp),hx _ (by simp)]
 ·rename_i ha; rw [ha] at hx; rw [hx _ (by simp),hx _ (by simp)]
 ·rename_i ha; rw [ha] at hx; rw [hx _ (by simp),hx _ (by simp),hx _ (by simp)]
 ·rename_i ha; rw [ha] at hx; rw [hx _ (by simp),hx _ (by simp),hx _ (by simp)]
 ·rfl
theorem krP {o:Oper} {env env':Env} (H:∀ x∈o.op.operands.toList,ev env x=ev env' x):aop P env h n o K=aop P env' h n o K:=by
 obtain ⟨dst,op,ty,pos,after,guard⟩:=o
 simp only at H
 cases op with
 | build T parts=>
  have:∀ cs pl,fillS pl env parts.toList cs=fillS pl env' parts.toList cs:=fun cs pl=>kox pl _ _ (fun p hp=>H p.2 (by simp only [Op.operands]; simpa using ⟨p.1,by simpa using hp⟩))
  simp only [aop,this]
 | buildSlice T len parts=>
  have:∀ k es,fillE k env parts.toList es=fillE k env' parts.toList es:=fun k es=>koL k _ _ (fun p hp=>H p.2 (by simp only [Op.operands]; simpa using ⟨p.1,by simpa using hp⟩))
  simp only [aop,this]
 | makeFunc f first caps=>
  have:caps.toList.map (ev env)=caps.toList.map (ev env'):=List.map_congr_left fun x hx=>H x (by simp only [Op.operands]; simp; exact .inr (by simpa using hx))
  cases f <;> simp only [aop,this]
 | call c=>
  obtain ⟨callee,args,ts⟩:=c
  cases callee with
  | builtin b=>
   simp only [aop]
   exact kru fun x hx=>H x (by simp only [Op.operands,Call.operands]; simpa using hx)
  | value f=>
   have h1:ev env f=ev env' f:=H f (by simp [Op.operands,Call.operands])
   have h2:args.toList.map (ev env)=args.toList.map (ev env'):=List.map_congr_left fun x hx=>H x (by simp only [Op.operands,Call.operands]; simp; exact .inr (by simpa using hx))
   simp only [aop,h1,h2]
  | invoke r m=>rfl
 | slice T x lo hi mx=>
  have h1:ev env x=ev env' x:=H x (by simp [Op.operands])
  have h2:lo.map (ev env)=lo.map (ev env'):=by
   cases lo with
   | none=>rfl
   | some y=>simp only [jcg]; rw [H y (by simp [Op.operands])]
  have h3:hi.map (ev env)=hi.map (ev env'):=by
   cases hi with
   | none=>rfl
   | some y=>simp only [jcg]; rw [H y (by simp [Op.operands])]
  cases mx <;> simp only [aop,h1,h2,h3]
 | makeMap T r=>cases r <;> rfl
 | next x b=>
  have h1:ev env x=ev env' x:=H x (by simp [Op.operands])
  cases b <;> simp only [aop,h1]
 | _=>simp [Op.operands] at H <;> simp only [aop,H]
inductive Anc (l:List Oper):Nat->Nat->Prop
 | one {i j:Nat} {o:Oper} {e:Edge} (ho:l[j]?=some o) (he:e∈o.after) (hb:Region.binds .any e=true) (hi:e.on=i):Anc l i j
 | step {i k j:Nat} {o:Oper} {e:Edge} (h:Anc l i k) (ho:l[j]?=some o) (he:e∈o.after) (hb:Region.binds .any e=true) (hi:e.on=k):Anc l i j
def kmQ (acc:List Nat) (o:Oper):Nat:=(o.after.toList.filter (Region.binds .any)).foldr (fun e m=>(1 <<< e.on) ||| (acc.getD e.on 0 ||| m)) 0
def ancGo:List Nat->List Oper->List Nat
 | acc,[]=>acc
 | acc,o::r=>ancGo (acc++[kmQ acc o]) r
def ancOf (l:List Oper):List (List Nat):=(ancGo [] l).map fun m=>(List.range l.length).filter fun i=>m.testBit i
theorem kuO {acc:List Nat} {o:Oper} {i:Nat} (h:(kmQ acc o).testBit i=true):∃ e∈o.after,Region.binds .any e=true/\(e.on=i\/(acc.getD e.on 0).testBit i=true):=by
 unfold kmQ at h
 have:∀ (l:List Edge),(∀ e∈l,e∈o.after/\Region.binds .any e=true)->(l.foldr (fun e m=>(1 <<< e.on) ||| (acc.getD e.on 0 ||| m)) 0).testBit i=true->∃ e∈o.after,Region.binds .any e=true/\(e.on=i\/(acc.getD e.on 0).testBit i=true):=by
  intro l
  induction l with
  | nil=>intro _ h; simp at h
  | cons e l ih=>
   intro hl h
   rw [List.foldr_cons,Nat.testBit_or,Nat.testBit_or,Nat.one_shiftLeft,Nat.testBit_two_pow,jav,jav,jai] at h
   obtain ⟨h1,h2⟩:=hl e (jdb ..)
   rcases h with h | h | h
   ·exact ⟨e,h1,h2,.inl h⟩
   ·exact ⟨e,h1,h2,.inr h⟩
   ·exact ih (fun e he=>hl e (jbb _ he)) h
 exact this _ (fun e he=>by simpa [jeb] using he) h
theorem kqx (l:List Oper):∀ (r:List Oper) (acc:List Nat),(∀ j,r[j]?=l[acc.length+j]?)->(∀ j i,(acc.getD j 0).testBit i=true->Anc l i j)->∀ j i,((ancGo acc r).getD j 0).testBit i=true->Anc l i j
 | [],acc,_,ha=>ha
 | o::r,acc,hr,ha=>by
  refine kqx l r (acc++[kmQ acc o]) (fun j=>by have:=hr (j+1); simp at this ⊢; rw [this]; congr 1; omega) ?_
  intro j i hi
  rw [jat,jbm] at hi
  split at hi
  ·exact ha j i (by rw [jat]; exact hi)
  ·rename_i hge
   have ho:l[acc.length]?=some o:=by have:=hr 0; simpa using this.symm
   rcases Nat.eq_or_lt_of_le (Nat.le_of_not_lt hge) with e | hlt
   ·subst e
    simp only [Nat.sub_self,jcu,jca] at hi
    obtain ⟨e,he,hb,hi⟩:=kuO hi
    rcases hi with rfl | hi
    ·exact .one ho he hb rfl
    ·exact .step (ha _ _ hi) ho he hb rfl
   ·have:([kmQ acc o]:List Nat)[j-acc.length]?=none:=jdv (by simp; omega)
    rw [this] at hi
    simp at hi
theorem khv {l:List Oper} {i j:Nat} (h:i∈(ancOf l).getD j []):Anc l i j:=by
 unfold ancOf at h
 rw [jat,jaw] at h
 cases hm:(ancGo [] l)[j]? with
 | none=>rw [hm] at h; simp at h
 | some m=>
  rw [hm] at h
  simp only [jcg,jca,jeb] at h
  exact kqx l l [] (fun j=>by simp) (fun j i hi=>by simp at hi) j i (by rw [jat,hm]; exact h.2)
def Closed (l:List Oper) (S:Nat->Prop):Prop:=∀ j o,l[j]?=some o->S j->∀ e∈o.after,Region.binds .any e=true->S e.on
theorem Closed.anc {l:List Oper} {S:Nat->Prop} (hc:Closed l S) {i j:Nat} (h:Anc l i j):(∀ o,l[j]?=some o->∀ e∈o.after,Region.binds .any e=true->S e.on)->S i:=by
 induction h with
 | one ho he hb hi=>intro hs; rw [<-hi]; exact hs _ ho _ he hb
 | step _ ho he hb hi ih=>intro hs; exact ih fun o' ho' e' he' hb'=>hc _ o' ho' (hi ▸ hs _ ho _ he hb) e' he' hb'
def kiE (o:Oper) (ds:List (Option Tmp)):List Tmp:=
 o.op.operands.toList.filterMap (fun | .tmp t=>some t | _=>none)++(match o.guard with | some (j,_)=>(kbd ds j).toList | none=>[])
def kcR (l:List Oper):Bool:=
 let ds:=l.map (·.dst)
 let anc:=ancOf l
 (l.zipIdx.all fun (o,j)=>o.after.all (fun e=>!Region.binds .any e||decide (e.on<j)) &&
  (match o.dst with | some d=>(ds.zipIdx.all fun (d',i)=>i==j||d' != some d) | none=>true) &&
  (kiE o ds).all fun t=>ds.zipIdx.all fun (d,i)=>d != some t||(decide (i<j)&&(anc.getD j []).contains i)||(decide (j<i)&&(anc.getD i []).contains j))
theorem kbt {l:List Oper} (hd:kcR l=true) :
  (∀ (j:Nat) (o:Oper),l[j]?=some o->∀ e∈o.after,Region.binds .any e=true->e.on<j)/\
  (∀ (i j:Nat) (oi oj:Oper) (d:Nat),l[i]?=some oi->l[j]?=some oj->oi.dst=some d->oj.dst=some d->i=j)/\
  (∀ (j:Nat) (o:Oper) (t i:Nat) (oi:Oper),l[j]?=some o->t∈kiE o (l.map (·.dst))->l[i]?=some oi->oi.dst=some t->(i<j/\Anc l i j)\/(j<i/\Anc l j i)):=by
 simp only [kcR,jam,Prod.forall,jac] at hd
 have mem:∀ {α:Type} {m:List α} {j:Nat} {x:α},m[j]?=some x->(x,j)∈m.zipIdx:=fun h=>jdc.2 (by simpa using h)
 refine ⟨fun j o ho e he hb=>?_,fun i j oi oj d hi hj hdi hdj=>?_,fun j o t i oi ho ht hi hdi=>?_⟩
 ·have:=((hd o j (mem ho)).1).1
  simp only [jcc] at this
  have:=this e he
  simpa [hb] using this
 ·have:=((hd oj j (mem hj)).1).2
  rw [hdj] at this
  simp only [jam,Prod.forall] at this
  have:=this (some d) i (mem (by simp [hi,hdi]))
  simpa using this
 ·have:=(hd o j (mem ho)).2 t ht (some t) i (mem (by simp [hi,hdi]))
  simp only [bne_self_eq_false,jdk,jav,jac,jai,jbo] at this
  rcases this with ⟨h1,h2⟩ | ⟨h1,h2⟩
  ·exact .inl ⟨h1,khv h2⟩
  ·exact .inr ⟨h1,khv h2⟩
section
variable {l:List Oper} {st:St} {E:Nat->Env} {V:Nat->AV} {A W:Nat->Bool} {H:Nat->AH} {M:Nat->Nat} {N:Nat} {D:DX} {O:Nat->Prop}
structure At (P:Program) (l:List Oper) (st:St) (V:Nat->AV) (S:Nat->Prop) (env:Env):Prop where
 old:∀ s,(∀ i oi,S i->l[i]?=some oi->oi.dst≠some s)->lk env s=lk st.env s
 new:∀ s i oi,S i->l[i]?=some oi->oi.dst=some s->lk env s=V i
theorem kkS {o:Oper} {ds:List (Option Tmp)} {jj:Nat} {want:Bool} {d:Nat} (hg:o.guard=some (jj,want)) (hs:kbd ds jj=some d):d∈kiE o ds:=by
 simp [kiE,hg,hs]
theorem koC {o:Oper} {ds:List (Option Tmp)} {t:Nat} (ht:Operand.tmp t∈o.op.operands.toList):t∈kiE o ds:=by
 simp only [kiE,jaz,jce]
 exact .inl ⟨_,ht,rfl⟩
end
end
def isW (wc:List Nat) (j:Nat) (o:Oper):Bool:=
 match o.op with
 | .alloc _ | .box _ _ | .store _ _ _ | .makeSlice _ _ _ | .makeMap _ _ | .mapUpdate _ _ _ _ | .insert _ _ _ _ | .mapEntry _ _ _ | .entryStore _ _ _ _ | .range _ _ | .next _ _=>true
 | .call { callee:=.builtin .append,.. } | .call { callee:=.builtin .copy,.. } | .call { callee:=.builtin .delete,.. }=>true
 | .call { callee:=.value _,.. }=>wc.contains j
 | .buildSlice _ _ _=>wc.contains j
 | .lookup _ _ _ _=>wc.contains j
 | _=>false
structure Rec where
 j:Nat
 o:Oper
 env:Env
 v:AV
 h:AH
 n:Nat
 h':AH
 n':Nat
def wants (rd:List (Nat×Nat)) (j:Nat):Bool:=rd.any fun p=>p.1==j||p.2==j
def recOf (tr:List Rec) (j:Nat):Option Rec:=tr.find? fun r=>r.j==j
def knU (P:Program) (tr:List Rec):List (Nat×Nat)->Prop
 | []=>True
 | (x,w)::rest=>(match recOf tr x,recOf tr w with
  | some a,some b=>if w<x then aop P a.env b.h b.n a.o (fun v h n=>v=a.v/\h=b.h/\n=b.n) else aop P a.env b.h' b.n' a.o (fun v h n=>v=a.v/\h=b.h'/\n=b.n')
  | _,_=>True)/\knU P tr rest
def callD (A B:AV->Prop):Prop:=∃ v,A v/\B v
def kiH (o:Oper):Bool:=
 match o.op with
 | .call { callee:=.value _,.. }=>true
 | _=>false
def stepD (P:Program) (wc:List Nat) (rd:List (Nat×Nat)) (o:Oper) (j:Nat) (env:Env) (h:AH) (n:Nat) (tr:List Rec) (next:St->List Rec->Prop):Prop:=
 if isW wc j o then ∃ v h' n',aop P env h n o (fun a b c=>a=v/\b=h'/\c=n')/\next ⟨putE env o.dst v,h',n'⟩ (if wants rd j then ⟨j,o,env,v,h,n,h',n'⟩::tr else tr)
 else if kiH o then callD (fun v=>aop P env h n o (fun a b c=>a=v/\b=h/\c=n)) fun v=>next ⟨putE env o.dst v,h,n⟩ (if wants rd j then ⟨j,o,env,v,h,n,h,n⟩::tr else tr)
 else ∃ v,aop P env h n o (fun a b c=>a=v/\b=h/\c=n)/\next ⟨putE env o.dst v,h,n⟩ (if wants rd j then ⟨j,o,env,v,h,n,h,n⟩::tr else tr)
def aopsD (P:Program) (ds:List (Option Tmp)) (wc:List Nat) (rd:List (Nat×Nat)):List Oper->Nat->St->List Rec->(St->Prop)->Prop
 | [],_,st,tr,K=>knU P tr rd/\K st
 | o::r,j,st,tr,K=>
  match o.guard with
  | none=>stepD P wc rd o j st.env st.h st.n tr fun s t=>aopsD P ds wc rd r (j+1) s t K
  | some (g,want)=>match kbd ds g with
   | some d=>match lk st.env d with
    | .sc (.bool b)=>(b=want->stepD P wc rd o j ((d,.sc (.bool want))::st.env) st.h st.n tr fun s t=>aopsD P ds wc rd r (j+1) s t K)/\
      (b = !want->aopsD P ds wc rd r (j+1) ⟨putE ((d,.sc (.bool (!want)))::st.env) o.dst .ud,st.h,st.n⟩ tr K)
    | .ud=>aopsD P ds wc rd r (j+1) ⟨putE st.env o.dst .ud,st.h,st.n⟩ tr K
    | _=>False
   | none=>False
section
variable {P:Program} {l:List Oper} {wc:List Nat} {rd:List (Nat×Nat)}
theorem ksP {env env':Env} (h:∀ s,lk env s=lk env' s) (d:Option Tmp) (v:AV):∀ s,lk (putE env d v) s=lk (putE env' d v) s:=by
 intro s
 cases d with
 | none=>exact h s
 | some d=>simp only [putE,lk,h s]
theorem ktJ {env:Env} {d:Nat} {v:AV} (h:lk env d=v):∀ s,lk ((d,v)::env) s=lk env s:=by
 intro s
 simp only [lk]
 split
 ·rename_i e; rw [e,h]
 ·rfl
end
abbrev int (n:Int):AV:=.sc (.int .i64 n)
abbrev bool (b:Bool):AV:=.sc (.bool b)
abbrev u8 (n:Int):AV:=.sc (.int .u8 n)
abbrev nilS:AV:=.sc (.slice none 0 0)
theorem ktX:∃ f:Program->List (Option Tmp)->List Oper->St->(St->Prop)->Prop,f=aops:=⟨aops,rfl⟩
noncomputable def aopsS:=Classical.choose ktX
theorem kuw:aopsS=aops:=Classical.choose_spec ktX
theorem kxc (P:Program) (ds:List (Option Tmp)) (st:St) (K:St->Prop):aopsS P ds [] st K=K st:=by rw [kuw]; rfl
theorem kmh (P:Program) (ds:List (Option Tmp)) (o:Oper) (r:List Oper) (st:St) (K:St->Prop):aopsS P ds (o::r) st K=(match o.guard with
  | none=>aop P st.env st.h st.n o (fun v h n=>aopsS P ds r ⟨putE st.env o.dst v,h,n⟩ K)
  | some (j,want)=>match kbd ds j with
   | some d=>match lk st.env d with
    | .sc (.bool b)=>(b=want->aop P ((d,.sc (.bool want))::st.env) st.h st.n o (fun v h n=>aopsS P ds r ⟨putE ((d,.sc (.bool want))::st.env) o.dst v,h,n⟩ K))/\
      (b = !want->aopsS P ds r ⟨putE ((d,.sc (.bool (!want)))::st.env) o.dst .ud,st.h,st.n⟩ K)
    | .ud=>aopsS P ds r ⟨putE st.env o.dst .ud,st.h,st.n⟩ K
    | _=>False
   | none=>False):=by rw [kuw]; rfl
section
variable {P:Program} {ds:List (Option Tmp)} {r:List Oper} {env:Env} {h:AH} {n:Nat} {K:St->Prop} {d:Tmp} {op:Op} {ty:TypeId} {pos:String} {after:Array Edge}
theorem kvL (hs:∀ K':K3,(∀ v h' n',aopsS P ds r ⟨(d,v)::env,h',n'⟩ K->K' v h' n')->aop P env h n ⟨some d,op,ty,pos,after,none⟩ K'):aopsS P ds (⟨some d,op,ty,pos,after,none⟩::r) ⟨env,h,n⟩ K:=by
 rw [kmh]; exact hs _ fun _ _ _ h=>h
theorem kuQ (hs:∀ K':K3,(∀ v h' n',aopsS P ds r ⟨env,h',n'⟩ K->K' v h' n')->aop P env h n ⟨none,op,ty,pos,after,none⟩ K'):aopsS P ds (⟨none,op,ty,pos,after,none⟩::r) ⟨env,h,n⟩ K:=by
 rw [kmh]; exact hs _ fun _ _ _ h=>h
end
theorem krx:∃ f:Program->List (Option Tmp)->List Nat->List (Nat×Nat)->List Oper->Nat->St->List Rec->(St->Prop)->Prop,f=aopsD:=⟨aopsD,rfl⟩
noncomputable def kjE:=Classical.choose krx
theorem krE:kjE=aopsD:=Classical.choose_spec krx
theorem kwi (P:Program) (ds:List (Option Tmp)) (wc:List Nat) (rd:List (Nat×Nat)) (j:Nat) (st:St) (tr:List Rec) (K:St->Prop):kjE P ds wc rd [] j st tr K=(knU P tr rd/\K st):=by rw [krE]; rfl
theorem kuN (P:Program) (ds:List (Option Tmp)) (wc:List Nat) (rd:List (Nat×Nat)) (o:Oper) (r:List Oper) (j:Nat) (st:St) (tr:List Rec) (K:St->Prop):kjE P ds wc rd (o::r) j st tr K=(match o.guard with
  | none=>stepD P wc rd o j st.env st.h st.n tr fun s t=>kjE P ds wc rd r (j+1) s t K
  | some (g,want)=>match kbd ds g with
   | some d=>match lk st.env d with
    | .sc (.bool b)=>(b=want->stepD P wc rd o j ((d,.sc (.bool want))::st.env) st.h st.n tr fun s t=>kjE P ds wc rd r (j+1) s t K)/\
      (b = !want->kjE P ds wc rd r (j+1) ⟨putE ((d,.sc (.bool (!want)))::st.env) o.dst .ud,st.h,st.n⟩ tr K)
    | .ud=>kjE P ds wc rd r (j+1) ⟨putE st.env o.dst .ud,st.h,st.n⟩ tr K
    | _=>False
   | none=>False):=by rw [krE]; rfl
section
variable {P:Program} {ds:List (Option Tmp)} {wc:List Nat} {r:List Oper} {j:Nat} {env:Env} {h:AH} {n:Nat} {tr:List Rec} {K:St->Prop} {d:Tmp} {op:Op} {ty:TypeId} {pos:String} {after:Array Edge}
end
section
variable {P:Program} {N:Nat} {D:DX} {O:Nat->Prop} {Q:Exit->St->Prop} {st:St}
def SatL (P:Program) (N:Nat) (D:DX) (O:Nat->Prop):List Code->(Exit->St->Prop)->St->Prop
 | [],Q,st=>Q .normal st
 | c::cs,Q,st=>Sat P N D O c (thenQ (SatL P N D O cs Q) Q) st
theorem Sat.ofL {c:Code} (h:SatL P N D O [c] Q st):Sat P N D O c Q st:=Sat.mono h fun e s hq=>by cases e <;> exact hq
theorem SatL.ofS {c:Code} (h:Sat P N D O c Q st):SatL P N D O [c] Q st:=Sat.mono h fun e s hq=>by cases e <;> exact hq
theorem SatL.mono {cs:List Code} {Q':Exit->St->Prop} (hq:∀ e s,Q e s->Q' e s):∀ {cs:List Code} {st:St},SatL P N D O cs Q st->SatL P N D O cs Q' st
 | [],st,h=>hq _ _ h
 | c::cs,st,h=>Sat.mono h fun e s hs=>by cases e <;> first | exact SatL.mono (cs:=cs) hq hs | exact hq _ _ hs
theorem SatL.nil (h:Q .normal st):SatL P N D O [] Q st:=h
theorem SatL.seq {x y:Code} {cs:List Code} (h:SatL P N D O (x::y::cs) Q st):SatL P N D O (.seq x y::cs) Q st:=
 Sat.seq (Sat.mono h fun e s hs=>by cases e <;> exact hs)
theorem SatL.skip {cs:List Code} (h:SatL P N D O cs Q st):SatL P N D O (.skip::cs) Q st:=Sat.skip h
theorem SatL.exit {id:Nat} {cs:List Code} (h:Q (.exit id) st):SatL P N D O (.exit id::cs) Q st:=Sat.exit h
theorem SatL.ret {cs:List Code} (h:Q .ret st):SatL P N D O (.ret::cs) Q st:=Sat.ret h
theorem SatL.cond {c:Operand} {x y:Code} {cs:List Code} (b:Bool) (hc:ev st.env c = .sc (.bool b)) (ht:b=true->SatL P N D O (x::cs) Q st) (hf:b=false->SatL P N D O (y::cs) Q st) :
  SatL P N D O (.cond c x y::cs) Q st:=Sat.cond hc ht hf
theorem SatL.block {id:Nat} {c:Code} {cs:List Code} (h:SatL P N D O [c] (kfr id (thenQ (SatL P N D O cs Q) Q)) st):SatL P N D O (.block id c::cs) Q st:=Sat.block (Sat.ofL h)
theorem thenN {K:St->Prop} (h:K st):thenQ K Q .normal st:=h
theorem kkJ {id:Nat} (h:Q .normal st):kfr id Q (.exit id) st:=by simp only [kfr,if_true]; exact h
theorem kyG (n:Int) (h1:-9223372036854775808<=n) (h2:n<=9223372036854775807):IntKind.i64.wrap n=n:=IntWalk.i64_in n ⟨h1,h2⟩
end
attribute [simp↓] kxc kmh kwi kuN
attribute [simp] kiH kgV kjv kba keyA keyB keyB1 findA AV.one AV.vl Value.oneCell' putAt kfr stepD isW wants knU recOf putE cst ev kbd thenQ keep abinI abin unK loadK partK keC kbC loA hiA lenK isCells kct idxK kbz liveA convK kah callK kax deref kby srcA kyK kbU kaT fillE fillS updH delH
def FreeL (l:List AV):Prop:=∀ c∈l,Free c
@[simp] theorem kfo:FreeL []↔True:=by simp [FreeL]
@[simp] theorem kbv (a:AV) (l:List AV):FreeL (a::l)↔Free a/\FreeL l:=by simp [FreeL]
@[simp] theorem ktN (a l:List AV):FreeL (a++l)↔FreeL a/\FreeL l:=by
 simp only [FreeL,jaz]
 exact ⟨fun h=>⟨fun c hc=>h c (.inl hc),fun c hc=>h c (.inr hc)⟩,fun h c hc=>hc.elim (h.1 c) (h.2 c)⟩
theorem FreeL.at {l:List AV} (h:FreeL l) (j:Nat) (c:AV) (hj:l[j]?=some c):Free c:=h c (jag hj)
theorem FreeL.of_at {l:List AV} (h:∀ (j:Nat) (c:AV),l[j]?=some c->Free c):FreeL l:=fun c hc=>by
 obtain ⟨j,hj,e⟩:=jdf.1 hc
 exact h j c (by rw [jae hj,e])
@[simp] theorem krj (v:Value):Free (.sc v)↔True:=⟨fun _=>trivial,fun _=>.sc v⟩
@[simp] theorem kif (cs:List AV):Free (.fp cs)↔FreeL cs:=⟨fun h=>by cases h with | fp _ h=>exact FreeL.of_at h,fun h=>.fp cs h.at⟩
@[simp] theorem knS (cs:List AV):Free (.ag cs)↔FreeL cs:=⟨fun h=>by cases h with | ag _ h=>exact FreeL.of_at h,fun h=>.ag cs h.at⟩
@[simp] theorem kve (cs:List AV):Free (.tp cs)↔FreeL cs:=⟨fun h=>by cases h with | tp _ h=>exact FreeL.of_at h,fun h=>.tp cs h.at⟩
@[simp] theorem kgX (f:FuncId) (cs:List AV):Free (.fn f cs)↔FreeL cs:=⟨fun h=>by cases h with | fn _ _ h=>exact FreeL.of_at h,fun h=>.fn f cs h.at⟩
@[simp] theorem knR (es:List (List AV)):Free (.sl es)↔∀ e∈es,FreeL e:=by
 refine ⟨fun h=>?_,fun h=>.sl es fun i e hi=>(h e (jag hi)).at⟩
 cases h with
 | sl _ h=>
  intro e he
  obtain ⟨j,hj,e1⟩:=jdf.1 he
  exact FreeL.of_at (h j e (by rw [jae hj,e1]))
section
variable {P:Program}
theorem PC.call {f:FuncId} {args:List AV} {R:AV->Prop} {h:AH} {n:Nat} {K:K3} (hc:PC P f args R) (hf:FreeL args) (hk:∀ v,R v->K v h n):HC P f args h n K:=
 (hc.free hf.at h n).mono fun _ _ _ ⟨h1,h2,h3⟩=>h2 ▸ h3 ▸ hk _ h1
theorem PC.call1 {f:FuncId} {args:List AV} {r:AV} {h:AH} {n:Nat} {K:K3} (hc:PC P f args (·= r)) (hf:FreeL args) (hk:K r h n):HC P f args h n K:=
 hc.call hf fun _ e=>e ▸ hk
theorem PC.of_body {f:FuncId} {fn:Func} {c:Code} {args:List AV} {R:AV->Prop} (hf:P.funcs[f]?=some fn) (hb:fn.body=some c) (hname:(fn.name== "runtime.NumGoroutine")=false) (hargs:args.length<=fn.ntmps)
  (hsat:∀ (D:DX) (O:Nat->Prop),D.it=none->SatL P fn.ntmps D O [c] (fnQ P fn.results.toList (fun v h _=>∃ v',Snap h v v'/\R v')) ⟨kao args,ah0,0⟩):PC P f args R:=
 PC.of_HC (HC.of_body hf hb hname hargs fun D O hD=>Sat.ofL (hsat D O hD))
end
inductive SnapL (h:AH):List AV->List AV->Prop
 | nil:SnapL h [] []
 | cons {a a':AV} {l l':List AV} (h1:Snap h a a') (h2:SnapL h l l'):SnapL h (a::l) (a'::l')
theorem SnapL.len {h:AH} {l l':List AV} (hs:SnapL h l l'):l'.length=l.length:=by induction hs <;> simp [*]
theorem SnapL.at {h:AH} {l l':List AV} (hs:SnapL h l l'):∀ (j:Nat) (c c':AV),l[j]?=some c->l'[j]?=some c'->Snap h c c':=by
 induction hs with
 | nil=>intro j c c' hj; simp at hj
 | cons h1 h2 ih=>
  intro j c c' hj hj'
  cases j with
  | zero=>simp at hj hj'; subst hj; subst hj'; exact h1
  | succ j=>exact ih j c c' (by simpa using hj) (by simpa using hj')
theorem SnapL.free {h:AH}:∀ {l:List AV},FreeL l->SnapL h l l
 | [],_=>.nil
 | a::l,hf=>.cons (.free a ((kbv a l).1 hf).1) (SnapL.free ((kbv a l).1 hf).2)
theorem Snap.fnL {h:AH} {f:FuncId} {cs cs':List AV} (hs:SnapL h cs cs'):Snap h (.fn f cs) (.fn f cs'):=.fn f cs cs' hs.len hs.at
theorem Snap.agL {h:AH} {cs cs':List AV} (hs:SnapL h cs cs'):Snap h (.ag cs) (.ag cs'):=.ag cs cs' hs.len hs.at
theorem Snap.fpL {h:AH} {cs cs':List AV} (hs:SnapL h cs cs'):Snap h (.fp cs) (.fp cs'):=.fp cs cs' hs.len hs.at
def FlatL (l:List AV):Prop:=∀ c∈l,Flat c
theorem FlatL.at {l:List AV} (h:FlatL l) (j:Nat) (c:AV) (hj:l[j]?=some c):Flat c:=h c (jag hj)
@[simp] theorem kye (cs:List AV):Flat (.ag cs)↔FlatL cs:=⟨fun h=>by
 cases h with
 | ag _ h=>
  intro c hc
  obtain ⟨j,hj,e⟩:=jdf.1 hc
  exact h j c (by rw [jae hj,e]),fun h=>.ag cs h.at⟩
@[simp] theorem kyp (cs:List AV):Flat (.tp cs)↔FlatL cs:=⟨fun h=>by
 cases h with
 | tp _ h=>
  intro c hc
  obtain ⟨j,hj,e⟩:=jdf.1 hc
  exact h j c (by rw [jae hj,e]),fun h=>.tp cs h.at⟩
section
variable {P:Program}
theorem PC.lend {f:FuncId} {args args':List AV} {R:AV->Prop} {h:AH} {n:Nat} {K:K3} (hs:SnapL h args args') (hc:PC P f args' R) (hf:∀ v,R v->Flat v) (hk:∀ v,R v->K v h n):HC P f args h n K:=
 (hc.lent h n hs.len hs.at hf).mono fun _ _ _ ⟨h1,h2,h3⟩=>h2 ▸ h3 ▸ hk _ h1
theorem PC.lend1 {f:FuncId} {args args':List AV} {r:AV} {h:AH} {n:Nat} {K:K3} (hs:SnapL h args args') (hc:PC P f args' (·= r)) (hf:Flat r) (hk:K r h n):HC P f args h n K:=
 hc.lend hs (fun _ e=>e ▸ hf) fun _ e=>e ▸ hk
end
attribute [simp] aop
def w64 (x:Int):Int:=IntKind.i64.wrap x
theorem kiI {x:Int} (h1:-9223372036854775808<=x) (h2:x<=9223372036854775807):w64 x=x:=kyG x h1 h2
def gi {α:Type} (l:List α) (i:Int):Option α:=if 0<=i then l[i.toNat]? else none
theorem kmS {α:Type} {l:List α} {i:Int} {y:α} (h:gi l i=some y):0<=i/\l[i.toNat]?=some y:=by
 unfold gi at h
 split at h
 ·exact ⟨by assumption,h⟩
 ·cases h
@[simp] theorem kyI {α:Type} (l:List α) (i:Nat):gi l (i:Int)=l[i]?:=by simp [gi]
def gs {α:Type} (l:List α) (i:Int) (x:α):Option (List α):=if 0<=i/\i.toNat<l.length then some (l.set i.toNat x) else none
def gapp {α:Type} (l xs:List α):Option (List α):=if l.length+xs.length<=1048576 then some (l++xs) else none
theorem kib {α:Type} {l xs l':List α} (h:gapp l xs=some l'):l.length+xs.length<=1048576/\l'=l++xs:=by
 unfold gapp at h
 split at h
 ·cases h; exact ⟨by assumption,rfl⟩
 ·cases h
def gmk {α:Type} (n:Int) (z:α):Option (List α):=if 0<=n/\n<=1048576 then some (List.replicate n.toNat z) else none
theorem kvb {α:Type} {n:Int} {z:α} {l':List α} (h:gmk n z=some l'):0<=n/\n<=1048576/\l'=List.replicate n.toNat z:=by
 unfold gmk at h
 split at h
 ·rename_i hc; cases h; exact ⟨hc.1,hc.2,rfl⟩
 ·cases h
def gsl {α:Type} (l:List α) (lo hi:Int):Option (List α):=if 0<=lo/\lo<=hi/\hi<=l.length then some ((l.take hi.toNat).drop lo.toNat) else none
theorem kqZ {α:Type} {l l':List α} {lo hi:Int} (h:gsl l lo hi=some l'):0<=lo/\lo<=hi/\hi<=l.length/\l'=(l.take hi.toNat).drop lo.toNat:=by
 unfold gsl at h
 split at h
 ·rename_i hc; cases h; exact ⟨hc.1,hc.2.1,hc.2.2,rfl⟩
 ·cases h
def hl:List (Nat×Option ABlk)->AH
 | [],_=>none
 | (i,B)::l,j=>if j=i then B else hl l j
section
variable {P:Program} {env:Env} {h:AH} {L L':List (Nat×Option ABlk)} {n:Nat} {K:K3} {d:Option Tmp} {ty:TypeId} {pos:String} {after:Array Edge} {g:Option (Nat×Bool)}
section
variable {T:TypeId} {k:IntKind} {a b:Int} {F:AV->Prop}
end
theorem s_ext {x:Operand} {i:Nat} {cs:List AV} {c:AV} (hx:ev env x = .tp cs) (hc:cs[i]?=some c) (hk:K c h n):aop P env h n ⟨d,.extract x i,ty,pos,after,g⟩ K:=by simp only [aop,hx]; exact ⟨c,hc,hk⟩
theorem kvD {T:TypeId} {parts:Array (Nat×Operand)} {z cs:List AV} {pl:List (Nat×Nat)} (hz:zeroO P T=some z) (hp:kjt P T=some pl) (hf:fillS pl env parts.toList z=some cs) (hk:K (.ag cs) h n):aop P env h n ⟨d,.build T parts,ty,pos,after,g⟩ K:=by
 simp only [aop,hz,hp,hf]; exact hk
theorem khh {c:Call} {f:Operand} {gg:FuncId} {caps avs:List AV} (hc:c.callee = .value f) (hf:ev env f = .fn gg caps) (ha:c.args.toList.map (ev env)++caps=avs) (hk:HC P gg avs h n K):aop P env h n ⟨d,.call c,ty,pos,after,g⟩ K:=by
 obtain ⟨callee,args,ts⟩:=c
 simp only at hc ha
 subst hc
 simp only [aop,callK,hf]
 rw [ha]; exact hk
end
section
variable {P:Program} {env:Env} {h:AH} {L L':List (Nat×Option ABlk)} {n:Nat} {K:K3} {d:Option Tmp} {ty:TypeId} {pos:String} {after:Array Edge} {g:Option (Nat×Bool)}
theorem kyA {T:TypeId} {x i:Operand} {k:IntKind} {l:List UInt8} {j:Int} {y:UInt8} (hT:P.underlying T=some .string) (hx:ev env x = .sc (.string ⟨l.toArray⟩)) (hi:ev env i = .sc (.int k j)) (hg:gi l j=some y)
  (hk:K (.sc (.int .u8 (y.toNat:Int))) h n):aop P env h n ⟨d,.index T x i,ty,pos,after,g⟩ K:=by
 obtain ⟨g0,g1⟩:=kmS hg
 have g2:=(jad.1 g1)
 simp only [aop,hx,hi,idxK]
 refine ⟨hT,g0,y,?_,hk⟩
 obtain ⟨h1,h2⟩:=g2
 have hs:j.toNat<(⟨l.toArray⟩:ByteArray).size:=by simpa [ByteArray.size] using h1
 rw [getElem?_pos (⟨l.toArray⟩:ByteArray) j.toNat hs]
 exact congrArg some h2
theorem kxW {T:TypeId} {x:Operand} {l:List UInt8} (hT:P.underlying T=some .string) (hx:ev env x = .sc (.string ⟨l.toArray⟩)) (hk:K (.sc (.int .i64 l.length)) h n):aop P env h n ⟨d,.call ⟨.builtin .len,#[x],#[T]⟩,ty,pos,after,g⟩ K:=by
 simp only [aop,kah,hx,lenK]; exact ⟨hT,by simpa [ByteArray.size] using hk⟩
end
def mget {κ β:Type} [DecidableEq κ]:List (κ×β)->κ->Option β
 | [],_=>none
 | p::r,k=>if k=p.1 then some p.2 else mget r k
def mput {κ β:Type} [DecidableEq κ]:List (κ×β)->κ->β->List (κ×β)
 | [],k,v=>[(k,v)]
 | p::r,k,v=>if k=p.1 then (k,v)::r else p::mput r k v
abbrev kvE {κ β:Type} (kf:κ->Value) (vf:β->AV) (p:κ×β):Value×AV:=(kf p.1,vf p.2)
abbrev ki (n:Int):Value:=.int .i64 n
abbrev ks (l:List UInt8):Value:=.string ⟨l.toArray⟩
theorem kze (a b:List UInt8):((⟨a.toArray⟩:ByteArray)==⟨b.toArray⟩)=decide (a=b):=by
 show (a.toArray==b.toArray)=decide (a=b)
 by_cases h:a=b <;> simp [h]
theorem kwN (a b:List UInt8):keyB (ks a) (ks b)=decide (a=b):=kze a b
theorem krM {κ β:Type} [DecidableEq κ] {kf:κ->Value} {vf:β->AV} (hkb:∀ a b,keyB (kf a) (kf b)=decide (a=b)) (k:κ):∀ (E:List (κ×β)) (i:Nat),(findA (kf k) (E.map (kvE kf vf)) i).map (·.2)=(mget E k).map vf
 | [],i=>rfl
 | p::r,i=>by
  simp only [jap,findA,mget,hkb,jai]
  split
  ·rfl
  ·exact krM hkb k r (i+1)
theorem knc {κ β:Type} [DecidableEq κ] {kf:κ->Value} {vf:β->AV} (hkb:∀ a b,keyB (kf a) (kf b)=decide (a=b)) (k:κ) (v:β):∀ (E F:List (κ×β)),(match findA (kf k) (E.map (kvE kf vf)) F.length with | some (i,_)=>((F++E).map (kvE kf vf)).set i (kf k,vf v) | none=>(F++E).map (kvE kf vf)++[(kf k,vf v)])=(F++mput E k v).map (kvE kf vf)
 | [],F=>by simp [findA,mput]
 | p::r,F=>by
  simp only [jap,findA,mput,hkb,jai]
  split
  ·rename_i i a hc
   split at hc
   ·cases hc
    rename_i hk
    subst hk
    simp [List.set_append]
   ·rename_i hk
    have:=knc (vf:=vf) hkb k v r (F++[p])
    rw [jbg,List.length_singleton,hc] at this
    simpa [hk] using this
  ·rename_i hc
   split at hc
   ·cases hc
   ·rename_i hk
    have:=knc (vf:=vf) hkb k v r (F++[p])
    rw [jbg,List.length_singleton,hc] at this
    simpa [hk] using this
section
variable {P:Program} {env:Env} {h:AH} {L L':List (Nat×Option ABlk)} {n:Nat} {K:K3} {d:Option Tmp} {ty:TypeId} {pos:String} {after:Array Edge} {g:Option (Nat×Bool)}
theorem lkK {κ β:Type} [DecidableEq κ] {T kt e:TypeId} {id:Nat} {ka:AV} {E:List (κ×β)} {kf:κ->Value} {vf:β->AV} {k:κ} {z0:β} {z:Value} {ok:Bool} {F:AV->Prop} (hka:keyA ka=some (kf k)) (hT:mapO P T=some (kt,e)) (hz:zvO P e=some z) (hzz:cst z=vf z0) (hkb:∀ a b,keyB (kf a) (kf b)=decide (a=b)) (hok:∀ a,kba P kt (kf a))
  (hh:h id=some (.map (E.map (kvE kf vf)))) (hK:F (if ok then .tp [vf ((mget E k).getD z0),bool (mget E k).isSome] else vf ((mget E k).getD z0))):kgV P h T (.mp id) ka ok F:=by
 simp only [kgV,hka,hT,hh]
 refine ⟨hok k,fun x hx=>?_,?_⟩
 ·obtain ⟨p,_,rfl⟩:=jay.1 hx; exact hok _
 ·have hf:=krM (vf:=vf) hkb k E 0
  cases hg:findA (kf k) (E.map (kvE kf vf)) 0 with
  | none=>
   rw [hg] at hf
   cases hm:mget E k with
   | none=>rw [hm] at hK; simp only [hz]; rw [hzz]; exact hK
   | some v=>rw [hm] at hf; simp at hf
  | some q=>
   obtain ⟨i,v⟩:=q
   rw [hg] at hf
   cases hm:mget E k with
   | none=>rw [hm] at hf; simp at hf
   | some v'=>
    rw [hm] at hf hK
    simp only [jcg,Option.some.injEq] at hf
    subst hf
    exact hK
end
section
variable {P:Program} {N:Nat} {D:DX} {O:Nat->Prop} {Q:Exit->St->Prop} {st s:St} {c:Code} {cs:List Code} {env env':Env} {L L':List (Nat×Option ABlk)} {n:Nat} {h:AH}
theorem SatL.condT {x:Operand} {a b:Code} {v:Bool} (hc:ev env x = .sc (.bool v)) (hv:v=true) (ht:SatL P N D O (a::cs) Q ⟨env,h,n⟩):SatL P N D O (.cond x a b::cs) Q ⟨env,h,n⟩:=
 SatL.cond v hc (fun _=>ht) fun e=>by rw [hv] at e; cases e
theorem SatL.condF {x:Operand} {a b:Code} {v:Bool} (hc:ev env x = .sc (.bool v)) (hv:v=false) (ht:SatL P N D O (b::cs) Q ⟨env,h,n⟩):SatL P N D O (.cond x a b::cs) Q ⟨env,h,n⟩:=
 SatL.cond v hc (fun e=>by rw [hv] at e; cases e) fun _=>ht
theorem SatL.condX {x:Operand} {a b:Code} {v:Bool} (hc:ev env x = .sc (.bool v)) (ht:v=true->SatL P N D O (a::cs) Q ⟨env,h,n⟩) (hf:v=false->SatL P N D O (b::cs) Q ⟨env,h,n⟩):SatL P N D O (.cond x a b::cs) Q ⟨env,h,n⟩:=
 SatL.cond v hc ht hf
end
theorem FreeL.nil:FreeL []:=fun _ h=>by cases h
theorem FreeL.cons {a:AV} {l:List AV} (h:Free a) (hl:FreeL l):FreeL (a::l):=(kbv a l).2 ⟨h,hl⟩
theorem Free.fpl {cs:List AV} (h:FreeL cs):Free (.fp cs):=(kif cs).2 h
abbrev str (l:List UInt8):AV:=.sc (.string ⟨l.toArray⟩)
abbrev str1 (l:List UInt8):List AV:=[str l]
abbrev sl1 {α:Type} (f:α->List AV) (l:List α):List AV:=[.sl (l.map f)]
def un0 {α:Type} (_:Unit) (f:α):α:=f
def un1 {A α:Type} (s:A) (f:A->α):α:=f s
def un2 {A B α:Type} (s:A×B) (f:A->B->α):α:=f s.1 s.2
def un3 {A B C α:Type} (s:A×B×C) (f:A->B->C->α):α:=f s.1 s.2.1 s.2.2
def un4 {A B C E α:Type} (s:A×B×C×E) (f:A->B->C->E->α):α:=f s.1 s.2.1 s.2.2.1 s.2.2.2
def un5 {A B C E F α:Type} (s:A×B×C×E×F) (f:A->B->C->E->F->α):α:=f s.1 s.2.1 s.2.2.1 s.2.2.2.1 s.2.2.2.2
def un6 {A B C E F G α:Type} (s:A×B×C×E×F×G) (f:A->B->C->E->F->G->α):α:=f s.1 s.2.1 s.2.2.1 s.2.2.2.1 s.2.2.2.2.1 s.2.2.2.2.2
def sumE {R S α:Type} (s:R⊕S) (f:R->α) (g:S->α):α:=match s with | .inl r=>f r | .inr x=>g x
section
variable {A B C E F G R α:Type} {a:A} {b:B} {c:C} {e:E} {f:F} {g:G} {x:α} {p:R->α}
end
attribute [simp] un0 un1 un2 un3 un4 un5 un6 sumE
def ptrE {α:Type} (f:α->List AV) (o:Option α):AV:=match o with | some x=>.fp (f x) | none=>.sc (.pointer none)
theorem kwR {α:Type} {f:α->List AV} (hf:∀ y,FreeL (f y)) (o:Option α):Free (ptrE f o):=by
 cases o with
 | none=>exact .sc _
 | some x=>exact Free.fpl (hf x)
def muI (I:List Nat) (μ:Mu):Mu:=fun i=>if I.contains i then μ i else none
def muO (I:List Nat) (μ:Mu):Mu:=fun i=>if I.contains i then none else μ i
theorem kap {I:List Nat} {μ:Mu} {i:Nat} {x:Nat×Nat} (h:muI I μ i=some x):I.contains i=true/\μ i=some x:=by
 unfold muI at h; split at h
 ·exact ⟨by assumption,h⟩
 ·cases h
theorem kaE {I:List Nat} {μ:Mu} {i:Nat} {x:Nat×Nat} (h:muO I μ i=some x):I.contains i=false/\μ i=some x:=by
 unfold muO at h; split at h
 ·cases h
 ·rename_i hc; exact ⟨by simpa using hc,h⟩
theorem ktg {O:Nat->Prop} {I:List Nat} {μ:Mu} {b:Nat} (h:Av (Av O (muO I μ)) (muI I μ) b):Av O μ b:=by
 rcases h with (h | ⟨id,k,h⟩) | ⟨id,k,h⟩
 ·exact .inl h
 ·exact .inr ⟨id,k,(kaE h).2⟩
 ·exact .inr ⟨id,k,(kap h).2⟩
theorem VR.split {w:World} {O:Nat->Prop} {μ:Mu} {n:Nat} (I:List Nat) {a:AV} {v:Value} (hv:VR w O μ n a v):VR w (Av O (muO I μ)) (muI I μ) n a v:=by
 induction hv with
 | sc v h1=>exact .sc v h1
 | ud=>exact .ud
 | gs es=>exact .gs es
 | un v=>exact .un v
 | e0 p=>exact .e0 p
 | own id i j v h h1 hv=>exact .own id i j v h h1 fun b k e=>hv b k (kap e).2
 | ms id off len v h h1 hv=>exact .ms id off len v h h1 fun b k e=>hv b k (kap e).2
 | mp id v h h1 hv=>exact .mp id v h h1 fun b k e=>hv b k (kap e).2
 | fp cs b o us hA hc h1 _ ih=>exact .fp cs b o us (fun hne hb=>hA hne (ktg hb)) hc h1 ih
 | slnil p=>exact .slnil p
 | sl es b o cap k us hcap hmax hA hk hc h1 _ ih=>exact .sl es b o cap k us hcap hmax (fun i e hi hne hb=>hA i e hi hne (ktg hb)) hk hc h1 ih
 | fn f cs vs us hs hc _ ih=>exact .fn f cs vs us hs hc ih
 | ag cs vs us hs hc h1 _ ih=>exact .ag cs vs us hs hc h1 ih
 | tp cs vs us hs hc _ ih=>exact .tp cs vs us hs hc ih
theorem VR.out {w:World} {O:Nat->Prop} {μ:Mu} {n:Nat} (I:List Nat) {a:AV} {v:Value} (hv:VR w O μ n a v):VR w O (muO I μ) n a v:=by
 have av:∀ {b:Nat},Av O (muO I μ) b->Av O μ b:=fun h=>by
  rcases h with h | ⟨id,k,h⟩
  ·exact .inl h
  ·exact .inr ⟨id,k,(kaE h).2⟩
 induction hv with
 | sc v h1=>exact .sc v h1
 | ud=>exact .ud
 | gs es=>exact .gs es
 | un v=>exact .un v
 | e0 p=>exact .e0 p
 | own id i j v h h1 hv=>exact .own id i j v h h1 fun b k e=>hv b k (kaE e).2
 | ms id off len v h h1 hv=>exact .ms id off len v h h1 fun b k e=>hv b k (kaE e).2
 | mp id v h h1 hv=>exact .mp id v h h1 fun b k e=>hv b k (kaE e).2
 | fp cs b o us hA hc h1 _ ih=>exact .fp cs b o us (fun hne hb=>hA hne (av hb)) hc h1 ih
 | slnil p=>exact .slnil p
 | sl es b o cap k us hcap hmax hA hk hc h1 _ ih=>exact .sl es b o cap k us hcap hmax (fun i e hi hne hb=>hA i e hi hne (av hb)) hk hc h1 ih
 | fn f cs vs us hs hc _ ih=>exact .fn f cs vs us hs hc ih
 | ag cs vs us hs hc h1 _ ih=>exact .ag cs vs us hs hc h1 ih
 | tp cs vs us hs hc _ ih=>exact .tp cs vs us hs hc ih
theorem BlkAt.mapV {w:World} {O O':Nat->Prop} {μ μ':Mu} {n id:Nat} {B:ABlk} (hb:BlkAt w O μ n id B) (hm:μ' id = μ id) (hv:∀ {a:AV} {v:Value},VR w O μ n a v->VR w O' μ' n a v):BlkAt w O' μ' n id B:=by
 cases B with
 | cells k T es=>
  obtain ⟨b,c,h1,h2,h3⟩:=hb
  refine ⟨b,c,hm.trans h1,h2,fun i e hi=>⟨(h3 i e hi).1,fun j a hj=>?_⟩⟩
  obtain ⟨h4,u,h5,h6⟩:=(h3 i e hi).2 j a hj
  exact ⟨h4,u,h5,hv h6⟩
 | map kvs=>
  obtain ⟨b,es,h1,h2,h3,h4⟩:=hb
  refine ⟨b,es,hm.trans h1,h2,h3,fun i x hi=>?_⟩
  obtain ⟨e,h5,h6,h7,h8,h9⟩:=h4 i x hi
  exact ⟨e,h5,h6,h7,h8,hv h9⟩
 | si s pos=>
  obtain ⟨b,h1,h2⟩:=hb
  exact ⟨b,hm.trans h1,h2⟩
theorem PC.eat {P:Program} {f:FuncId} {args args':List AV} {r:AV} {h hE h':AH} {n:Nat} {K:K3} (I:List Nat) (hi:∀ i B,hE i=some B->I.contains i=true/\h i=some B) (ho:∀ i B,h' i=some B->I.contains i=false/\h i=some B)
  (hs:SnapL hE args args') (hc:PC P f args' (·= r)) (hk:K r h' n):HC P f args h n K:=by
 refine ⟨hc.1,fun O μ w vs hr hsz hv=>?_⟩
 have hrI:HR w (Av O (muO I μ)) (muI I μ) hE n:=by
  refine ⟨fun b hb=>?_,fun id b k e=>hr.scope id b k (kap e).2,fun id id' b k k' e e'=>hr.inj id id' b k k' (kap e).2 (kap e').2,fun id b k e hO=>?_,fun id B hB=>?_⟩
  ·rcases hb with hb | ⟨id,k,hb⟩
   ·exact hr.olt b hb
   ·exact (hr.scope id b k (kaE hb).2).2
  ·obtain ⟨e1,e2⟩:=kap e
   rcases hO with hO | ⟨id',k',hO⟩
   ·exact hr.notO id b k e2 hO
   ·obtain ⟨e3,e4⟩:=kaE hO
    rw [hr.inj _ _ _ _ _ e2 e4] at e1
    rw [e1] at e3; cases e3
  ·obtain ⟨h1,h2⟩:=hi id B hB
   exact (hr.blk id B h2).mapV (by simp only [muI]; rw [if_pos h1]) fun hv=>hv.split I
 have hrO:HR w O (muO I μ) h' n:=by
  refine ⟨hr.olt,fun id b k e=>hr.scope id b k (kaE e).2,fun id id' b k k' e e'=>hr.inj id id' b k k' (kaE e).2 (kaE e').2,fun id b k e=>hr.notO id b k (kaE e).2,fun id B hB=>?_⟩
  obtain ⟨h1,h2⟩:=ho id B hB
  exact (hr.blk id B h2).mapV (by simp only [muO]; rw [if_neg (by rw [h1]; decide)]) fun hv=>hv.out I
 have he:Evo w μ n w (muO I μ) n:=⟨rfl,rfl,rfl,jah _,jah _,fun _ _ _=>rfl,fun b c T f hb=>⟨c,hb,rfl⟩,fun i _=>by unfold muO; split <;> simp,fun i b k e hn=>absurd (hr.scope i b k (kaE e).2).1 (by omega)⟩
 refine (hc.2 (Av O (muO I μ)) w vs hrI.olt (by rw [hsz,hs.len]) (fun j c' hj=>?_)).mono ?_
 ·obtain ⟨c,hcj⟩:=kag hs.len hj
  obtain ⟨u,h1,h2⟩:=hv j c hcj
  exact ⟨u,h1,(hs.at j c c' hcj hj).vr hrI (h2.split I)⟩
 ·rintro e w' ⟨u,v,rfl,rfl,q2,q3⟩
  obtain ⟨e1,h1⟩:=Evo.of_below hrO q3
  exact ⟨u,_,h',n,muO I μ,rfl,hk,h1,q2.lift fun b hb=>hb,he.trans e1⟩
end Go.Abs
namespace Go.Abs
end Go.Abs
namespace Go.Abs
open Go Go.RowKit
section
variable {P:Program} {ds:List (Option Tmp)} {wc:List Nat} {rd:List (Nat×Nat)} {r:List Oper} {j:Nat} {env:Env} {h h':AH} {n n':Nat} {tr:List Rec} {K:St->Prop} {dst:Option Tmp} {d:Tmp} {op:Op} {ty:TypeId} {pos:String} {after:Array Edge} {o:Oper} {next:St->List Rec->Prop} {g:Option (Nat×Bool)}
end
section
variable {P:Program} {ds:List (Option Tmp)} {r:List Oper} {env:Env} {h h':AH} {n n':Nat} {K:St->Prop} {d:Tmp} {op:Op} {ty:TypeId} {pos:String} {after:Array Edge} {v:AV}
theorem st (hs:∀ K':K3,K' v h' n'->aop P env h n ⟨some d,op,ty,pos,after,none⟩ K') (hk:aopsS P ds r ⟨(d,v)::env,h',n'⟩ K):aopsS P ds (⟨some d,op,ty,pos,after,none⟩::r) ⟨env,h,n⟩ K:=
 kvL fun _ hK=>hs _ (hK _ _ _ hk)
theorem s0 (hs:∀ K':K3,K' v h' n'->aop P env h n ⟨none,op,ty,pos,after,none⟩ K') (hk:aopsS P ds r ⟨env,h',n'⟩ K):aopsS P ds (⟨none,op,ty,pos,after,none⟩::r) ⟨env,h,n⟩ K:=
 kuQ fun _ hK=>hs _ (hK _ _ _ hk)
end
inductive On (p:Nat->Bool):AV->Prop
 | free (a:AV) (h:Free a):On p a
 | own (id i j:Nat) (h:p id=true):On p (.own id i j)
 | ms (id off len:Nat) (h:p id=true):On p (.ms id off len)
 | mp (id:Nat) (h:p id=true):On p (.mp id)
 | fn (f:FuncId) (cs:List AV) (h:∀ (j:Nat) (c:AV),cs[j]?=some c->On p c):On p (.fn f cs)
 | ag (cs:List AV) (h:∀ (j:Nat) (c:AV),cs[j]?=some c->On p c):On p (.ag cs)
 | tp (cs:List AV) (h:∀ (j:Nat) (c:AV),cs[j]?=some c->On p c):On p (.tp cs)
def OnB (p:Nat->Bool):ABlk->Prop
 | .cells _ _ es=>∀ e∈es,∀ a∈e,On p a
 | .map kvs=>∀ x∈kvs,On p x.2
 | .si _ _=>True
def muP (p:Nat->Bool) (μ:Mu):Mu:=fun i=>if p i then μ i else none
theorem kaB {p:Nat->Bool} {μ:Mu} {i:Nat} {x:Nat×Nat} (h:muP p μ i=some x):p i=true/\μ i=some x:=by
 unfold muP at h; split at h
 ·exact ⟨by assumption,h⟩
 ·cases h
theorem VR.on {w:World} {O1 O2:Nat->Prop} {μ1 μ2:Mu} {n1 n2:Nat} {p:Nat->Bool} {a:AV} (ho:On p a) (hp:∀ id,p id=true->μ2 id = μ1 id/\id<n2) (hav:∀ b,Av O2 μ2 b->Av O1 μ1 b):∀ {v:Value},VR w O1 μ1 n1 a v->VR w O2 μ2 n2 a v:=by
 induction ho with
 | free a h=>intro v hv; exact (hv.free h hav).lift fun b hb=>hb
 | own id i j h=>
  intro v hv
  cases hv with
  | own _ _ _ _ h0 h1 hv=>exact .own id i j v (hp id h).2 h1 fun b k e=>hv b k ((hp id h).1 ▸ e)
 | ms id off len h=>
  intro v hv
  cases hv with
  | ms _ _ _ _ h0 h1 hv=>exact .ms id off len v (hp id h).2 h1 fun b k e=>hv b k ((hp id h).1 ▸ e)
 | mp id h=>
  intro v hv
  cases hv with
  | mp _ _ h0 h1 hv=>exact .mp id v (hp id h).2 h1 fun b k e=>hv b k ((hp id h).1 ▸ e)
 | fn f cs h ih=>
  intro v hv
  cases hv with
  | fn _ _ vs us hs hc hr=>exact .fn f cs vs us hs hc fun j c hj=>ih j c hj (hr j c hj)
 | ag cs h ih=>
  intro v hv
  cases hv with
  | ag _ vs us hs hc h1 hr=>exact .ag cs vs us hs hc h1 fun j c hj=>ih j c hj (hr j c hj)
 | tp cs h ih=>
  intro v hv
  cases hv with
  | tp _ vs us hs hc hr=>exact .tp cs vs us hs hc fun j c hj=>ih j c hj (hr j c hj)
theorem BlkAt.on {w:World} {O1 O2:Nat->Prop} {μ1 μ2:Mu} {n1 n2 id:Nat} {p:Nat->Bool} {B:ABlk} (hb:BlkAt w O1 μ1 n1 id B) (ho:OnB p B) (hm:μ2 id = μ1 id) (hp:∀ id,p id=true->μ2 id = μ1 id/\id<n2) (hav:∀ b,Av O2 μ2 b->Av O1 μ1 b):BlkAt w O2 μ2 n2 id B:=by
 cases B with
 | cells k T es=>
  obtain ⟨b,c,h1,h2,h3⟩:=hb
  refine ⟨b,c,hm.trans h1,h2,fun i e hi=>⟨(h3 i e hi).1,fun j a hj=>?_⟩⟩
  obtain ⟨h4,u,h5,h6⟩:=(h3 i e hi).2 j a hj
  exact ⟨h4,u,h5,h6.on (ho e (jag hi) a (jag hj)) hp hav⟩
 | map kvs=>
  obtain ⟨b,es,h1,h2,h3,h4⟩:=hb
  refine ⟨b,es,hm.trans h1,h2,h3,fun i x hi=>?_⟩
  obtain ⟨e,h5,h6,h7,h8,h9⟩:=h4 i x hi
  exact ⟨e,h5,h6,h7,h8,h9.on (ho x (jag hi)) hp hav⟩
 | si s pos=>
  obtain ⟨b,h1,h2⟩:=hb
  exact ⟨b,hm.trans h1,h2⟩
theorem krT {O:Nat->Prop} {p:Nat->Bool} {μ:Mu} {b:Nat} (h:Av (Av O (muP p μ)) (muP (fun i=>!p i) μ) b):Av O μ b:=by
 rcases h with (h | ⟨id,k,h⟩) | ⟨id,k,h⟩
 ·exact .inl h
 ·exact .inr ⟨id,k,(kaB h).2⟩
 ·exact .inr ⟨id,k,(kaB h).2⟩
theorem VR.splitP {w:World} {O:Nat->Prop} {μ:Mu} {n:Nat} (p:Nat->Bool) {a:AV} {v:Value} (hv:VR w O μ n a v):VR w (Av O (muP p μ)) (muP (fun i=>!p i) μ) n a v:=by
 induction hv with
 | sc v h1=>exact .sc v h1
 | ud=>exact .ud
 | gs es=>exact .gs es
 | un v=>exact .un v
 | e0 p=>exact .e0 p
 | own id i j v h h1 hv=>exact .own id i j v h h1 fun b k e=>hv b k (kaB e).2
 | ms id off len v h h1 hv=>exact .ms id off len v h h1 fun b k e=>hv b k (kaB e).2
 | mp id v h h1 hv=>exact .mp id v h h1 fun b k e=>hv b k (kaB e).2
 | fp cs b o us hA hc h1 _ ih=>exact .fp cs b o us (fun hne hb=>hA hne (krT hb)) hc h1 ih
 | slnil p=>exact .slnil p
 | sl es b o cap k us hcap hmax hA hk hc h1 _ ih=>exact .sl es b o cap k us hcap hmax (fun i e hi hne hb=>hA i e hi hne (krT hb)) hk hc h1 ih
 | fn f cs vs us hs hc _ ih=>exact .fn f cs vs us hs hc ih
 | ag cs vs us hs hc h1 _ ih=>exact .ag cs vs us hs hc h1 ih
 | tp cs vs us hs hc _ ih=>exact .tp cs vs us hs hc ih
section
variable {P:Program} {f:FuncId} {args:List AV}
end
def eqVF (P:Program) (rec_:TypeId->List Value->List Value->Option Bool):List Field->List Value->List Value->Option Bool
 | [],_,_=>some true
 | f::fs,xs,ys=>if f.name = "_"\/xs.length<f.offset+P.cellsOf f.type\/ys.length<f.offset+P.cellsOf f.type then none else
  match aggO P f.type with
  | none=>none
  | some ag=>if ag=false/\P.cellsOf f.type≠1 then none else
   match rec_ f.type ((xs.drop f.offset).take (P.cellsOf f.type)) ((ys.drop f.offset).take (P.cellsOf f.type)),eqVF P rec_ fs xs ys with
   | some r,some s=>some (r&&s)
   | _,_=>none
def eqV (P:Program):Nat->TypeId->List Value->List Value->Option Bool
 | 0,_,_,_=>none
 | d+1,t,xs,ys=>match P.underlying t,xs,ys with
  | some .bool,[.bool a],[.bool b]=>some (a==b)
  | some (.int _),[.int k a],[.int k' b]=>if k=k' then some (a==b) else none
  | some .string,[.string a],[.string b]=>some (a.toList==b.toList)
  | some (.struct fs),xs,ys=>if P.stoodInHeld t then none else eqVF P (eqV P d) fs.toList xs ys
  | _,_,_=>none
theorem ksK (P:Program):∀ (d:Nat),(∀ t xs ys r,eqV P d t xs ys=some r->∀ D w,(Op.equalIn (D+d) t (voC P t xs) (voC P t ys)).run P w = .ok r w)/\
  (∀ fs (X Y:Array Value) r,eqVF P (eqV P d) fs X.toList Y.toList=some r->∀ D w,(Op.eqFields (D+d) X Y fs).run P w = .ok r w)
 | 0=>by
  refine ⟨fun t xs ys r h=>by simp [eqV] at h,fun fs X Y r h D w=>?_⟩
  cases fs with
  | nil=>simp [eqVF] at h; subst h; simp [Op.eqFields]
  | cons f fs=>
   unfold eqVF at h
   split at h
   ·cases h
   ·split at h
    ·cases h
    ·split at h
     ·cases h
     ·simp [eqV] at h
 | d+1=>by
  obtain ⟨ih1,ih2⟩:=ksK P d
  have first:∀ t xs ys r,eqV P (d+1) t xs ys=some r->∀ D w,(Op.equalIn (D+(d+1)) t (voC P t xs) (voC P t ys)).run P w = .ok r w:=by
   intro t xs ys r h D w
   unfold eqV at h
   split at h
   ·rename_i a b hu
    cases h
    have hag:aggO P t=some false:=by simp [aggO,hu]
    simp only [voC,hag,List.headD_cons]
    exact run_equalIn_bool w (D+d) t a b hu
   ·rename_i k0 k a k' b hu
    split at h
    ·rename_i hk; subst hk; cases h
     have hag:aggO P t=some false:=by simp [aggO,hu]
     simp only [voC,hag,List.headD_cons]
     exact run_equalIn_int w (D+d) t k k0 a b hu
    ·cases h
   ·rename_i a b hu
    cases h
    have hag:aggO P t=some false:=by simp [aggO,hu]
    simp only [voC,hag,List.headD_cons]
    exact run_equalIn_string w (D+d) t a b hu
   ·rename_i fs hu
    split at h
    ·cases h
    ·rename_i hp
     have hag:aggO P t=some true:=by simp [aggO,hu]
     have hf:P.fieldsOf t=fs:=by simp [Program.fieldsOf,hu]
     simp only [voC,hag]
     rw [show D+(d+1)=(D+d)+1 from rfl,run_equalIn_struct w (D+d) t _ _ (by rw [hf]; exact hu) (by simpa using hp),hf]
     exact ih2 fs.toList _ _ r (by simpa using h) D w
   ·cases h
  refine ⟨first,?_⟩
  intro fs
  induction fs with
  | nil=>intro X Y r h D w; simp [eqVF] at h; subst h; simp [Op.eqFields]
  | cons f fs ihf=>
   intro X Y r h D w
   unfold eqVF at h
   split at h
   ·cases h
   ·rename_i hc
    split at h
    ·cases h
    ·rename_i ag hag
     split at h
     ·cases h
     ·rename_i h1
      split at h
      ·rename_i r1 s1 e1 e2
       cases h
       have hn:f.name≠ "_":=fun e=>hc (.inl e)
       have hx:f.offset+P.cellsOf f.type<=X.size:=by
        have:=fun e=>hc (.inr (.inl e)); simpa using this
       have hy:f.offset+P.cellsOf f.type<=Y.size:=by
        have:=fun e=>hc (.inr (.inr e)); simpa using this
       have hag1:ag=false->P.cellsOf f.type=1:=fun e=>by
        apply Classical.byContradiction; intro hne; exact h1 ⟨e,hne⟩
       have q1:=first _ _ _ _ e1 D w
       have q2:=ihf X Y s1 e2 D w
       simp only [Op.eqFields,hn,ne_eq,not_false_eq_true,if_true,Sem.run_bind,kfu hag hx hag1,kfu hag hy hag1,Result.andThen_ok,q1]
       cases r1
       ·simp
       ·simpa using q2
      ·cases h
theorem kyN {P:Program} {h:AH} {T:TypeId} {as bs:List AV} {xs ys:List Value} {d:Nat} {r r':Bool} (hd:d<=Op.maxDepth) (hag:aggO P T=some true) (hg:P.eqGuardType P.depth T=false) (hx:scV as=some xs) (hy:scV bs=some ys) (he:eqV P d T xs ys=some r) (hr:r=r') :
  Cmp P h .eql T (.ag as) (.ag bs) (·= r')/\Cmp P h .neq T (.ag as) (.ag bs) (·= !r'):=by
 subst hr
 have key:∀ (w:World) (O:Nat->Prop) (μ:Mu) (n:Nat) (u v:Value),VR w O μ n (.ag as) u->VR w O μ n (.ag bs) v->∃ X Y:Array Value,u = .agg X/\v = .agg Y/\(Op.equal T (.agg X) (.agg Y)).run P w = .ok r w:=by
  intro w O μ n u v hu hv
  obtain ⟨X,rfl,hX,hX2⟩:=hu.ag_cells
  obtain ⟨Y,rfl,hY,hY2⟩:=hv.ag_cells
  have eX:=kqC X.toList hx (by simpa using hX) fun j c hj=>by
   obtain ⟨_,y,h1,h2⟩:=hX2 j c hj; exact ⟨y,by simpa using h1,h2⟩
  have eY:=kqC Y.toList hy (by simpa using hY) fun j c hj=>by
   obtain ⟨_,y,h1,h2⟩:=hY2 j c hj; exact ⟨y,by simpa using h1,h2⟩
  subst eX; subst eY
  refine ⟨X,Y,rfl,rfl,?_⟩
  have:=(ksK P d).1 T _ _ r he (Op.maxDepth-d) w
  rw [Nat.sub_add_cancel hd] at this
  have e:∀ Z:Array Value,Z.toList.toArray=Z:=fun Z=>rfl
  simp only [voC,hag,e] at this
  exact this
 constructor
 all_goals
  intro w O μ n u v X Y hr hu hv
  obtain ⟨A,B,rfl,rfl,hq⟩:=key w O μ n u v hu hv
  refine ⟨_,rfl,?_⟩
  simp [eqGuard,hg,binOp,hq]
theorem koz {P:Program} {T e:TypeId} (hT:P.underlying T=some (.slice e)) (p:Option Addr) (l c:Nat) (w:World):(Op.equal T (.slice p l c) (.slice none 0 0)).run P w = .ok p.isNone w:=
 run_equal_slice_nil w T e p l c hT
theorem kxL {P:Program} {h:AH} {T e:TypeId} {a:AV} {S:Bool->Prop} (hT:P.underlying T=some (.slice e))
  (hv:∀ (w:World) (O:Nat->Prop) (μ:Mu) (n:Nat) (u:Value),HR w O μ h n->VR w O μ n a u->∃ p l c,u = .slice p l c/\S p.isNone) :
  Cmp P h .eql T a (.sc (.slice none 0 0)) S/\Cmp P h .neq T a (.sc (.slice none 0 0)) (fun b=>S (!b)):=by
 constructor
 all_goals
  intro w O μ n u v X Y hr hu hw
  obtain ⟨p,l,c,rfl,hs⟩:=hv w O μ n u hr hu
  have:=hw.sc_inv; subst this
  first
  | exact ⟨_,hs,by simp [eqGuard,binOp,koz hT p l c w]⟩
  | exact ⟨!p.isNone,by simpa using hs,by simp [eqGuard,binOp,koz hT p l c w]⟩
theorem kyV {w:World} {O:Nat->Prop} {μ:Mu} {n:Nat} {es:List (List AV)} {u:Value} (h:VR w O μ n (.sl es) u):∃ p l c,u = .slice p l c/\(es≠[]->p.isNone=false):=by
 cases h with
 | slnil p=>exact ⟨p,0,0,rfl,fun h=>absurd rfl h⟩
 | sl _ b o cap k us=>exact ⟨_,_,_,rfl,fun _=>rfl⟩
section
variable {P:Program} {h:AH} {T:TypeId} {as bs:List AV} {b:Bool} {F:AV->Prop}
theorem kyw (hc:Cmp P h .eql T (.ag as) (.ag bs) (·= b)/\Cmp P h .neq T (.ag as) (.ag bs) (·= !b)) (hk:F (.sc (.bool b))):abin P h .eql T (.ag as) (.ag bs) F:=⟨_,hc.1,fun _ e=>e ▸ hk⟩
theorem kxZ (hc:Cmp P h .eql T (.ag as) (.ag bs) (·= b)/\Cmp P h .neq T (.ag as) (.ag bs) (·= !b)) (hk:F (.sc (.bool (!b)))):abin P h .neq T (.ag as) (.ag bs) F:=⟨_,hc.2,fun _ e=>e ▸ hk⟩
end
structure KeepB (O:Nat->Prop) (w w':World):Prop where
 os:w'.os=w.os
 tape:w'.tape=w.tape
 output:w'.output=w.output
 size:w.heap.size<=w'.heap.size
 block:∀ b,b<w.heap.size->¬ O b->w'.heap[b]?=w.heap[b]?
def RndL (G:IterG) (k m:Nat) (O:Nat->Prop) (w:World) (e:Ending) (w':World):Prop:=
 ∃ O2,(∀ b,O2 b->b<w'.heap.size)/\(∀ b,O2 b->b<w.heap.size->O b)/\KeepB O w w'/\((e = .returned (.bool true)/\G.J (k+m) O2 w')\/(e = .returned (.bool false)/\G.Jx w'))
def kvw (G:IterG) (k:Nat) (O:Nat->Prop) (w:World) (e:Ending) (w':World):Prop:=RndL G k 1 O w e w'
structure IterOk (P:Program) (G:IterG):Prop where
 jb:∀ k O w w',G.J k O w->Below w.heap.size w w'->G.J k O w'
 xb:∀ w w',G.Jx w->Below w.heap.size w w'->G.Jx w'
 y:∀ k O w us x,G.J k O w->(∀ b,O b->b<w.heap.size)->G.xs[k]?=some x->us.size=x.length->(∀ (j:Nat) (c:AV),x[j]?=some c->∃ u,us[j]?=some u/\VR w O mu0 0 c u)->
  YieldAt (FF none) 0 P G.l us w (kvw G k O w)
def IT (P:Program) (g:FuncId) (caps:List AV) (xs:List (List AV)):Prop:=
 (∃ fn,P.funcs[g]?=some fn/\fn.body.isSome=true/\(fn.name== "runtime.NumGoroutine")=false)/\
 ∀ (O:Nat->Prop) (w:World) (vs:Array Value) (G:IterG),G.xs=xs->IterOk P G->(∀ b,O b->b<w.heap.size)->vs.size=caps.length->(∀ (j:Nat) (c:AV),caps[j]?=some c->∃ u,vs[j]?=some u/\VR w O mu0 0 c u)->
  G.J 0 O w->CallsIn (FF none) 0 P g (#[.func (.yield G.l) #[] #[]]++vs) w (fun e w'=>(∃ v,e = .returned v)/\((∃ O',G.J xs.length O' w')\/G.Jx w'))
section
variable {P:Program} {N:Nat} {D:DX} {O:Nat->Prop} {Q:Exit->St->Prop} {st:St} {μ:Mu} {w:World} {n:Nat} {h:AH} {G:IterG}
theorem VR.round {w w':World} {O O2:Nat->Prop} (hk:KeepB O w w') (ho:∀ b,O2 b->b<w.heap.size->O b) {m:Nat} {a:AV} {v:Value} (hv:VR w O mu0 0 a v):VR w' O2 mu0 m a v:=by
 have hcell:∀ {b' k:Nat} {u:Value},¬ Av O mu0 b'->w.cell? ⟨b',k,none⟩=some u->w'.cell? ⟨b',k,none⟩=some u:=fun hb hc=>by
  rw [kkc (hk.block _ (kjs hc) fun e=>hb (.inl e))]; exact hc
 have hav:∀ {b':Nat},b'<w.heap.size->¬ Av O mu0 b'->¬ Av O2 mu0 b':=fun hlt hb ha=>by
  rcases ha with ha | ⟨_,_,ha⟩
  ·exact hb (.inl (ho _ ha hlt))
  ·cases ha
 induction hv with
 | sc v h1=>exact .sc v h1
 | ud=>exact .ud
 | gs es=>exact .gs es
 | un v=>exact .un v
 | e0 p=>exact .e0 p
 | own id i j v h h1 hv=>omega
 | ms id off len v h h1 hv=>omega
 | mp id v h h1 hv=>omega
 | fp cs b o us hA hc h1 _ ih=>
  refine .fp cs b o us (fun hne=>?_) (fun j c hj=>hcell (hA (by rintro rfl; simp at hj)) (hc j c hj)) h1 ih
  cases cs with
  | nil=>exact absurd rfl hne
  | cons c cs=>exact hav (kjs (hc 0 c rfl)) (hA hne)
 | slnil p=>exact .slnil p
 | sl es b o cap k us hcap hmax hA hl hc h1 _ ih=>
  refine .sl es b o cap k us hcap hmax (fun i e hi hne=>?_) hl (fun i e hi j c hj=>hcell (hA i e hi (by rintro rfl; simp at hj)) (hc i e hi j c hj)) h1 ih
  cases e with
  | nil=>exact absurd rfl hne
  | cons c e=>exact hav (kjs (hc i _ hi 0 c rfl)) (hA i _ hi hne)
 | fn f cs vs us hs hc _ ih=>exact .fn f cs vs us hs hc ih
 | ag cs vs us hs hc h1 _ ih=>exact .ag cs vs us hs hc h1 ih
 | tp cs vs us hs hc _ ih=>exact .tp cs vs us hs hc ih
theorem kxQ {y:Oper} {c:Call} {f:Operand} {l:Nat} {a:Act} {R:Ending->World->Prop} {next:Act->World->Prop} {Q:Exit->Act->World->Prop} (ho:y.op = .call c) (hf:c.callee = .value f) (hv:a.eval f = .func (.yield l) #[] #[])
  (hY:YieldAt (FF none) 0 P l (c.args.map a.eval) w R) (hR:∀ e w',R e w'->∃ v,e = .returned v/\next (a.put y.dst v) w'):y.wpIn (FF none) 0 P a w next Q:=by
 obtain ⟨fn,tmps,assign,body,hy,hr⟩:=hY
 unfold Oper.wpIn
 refine ⟨fun _ _=>trivial,?_⟩
 have hrun:(execOp a.eval y).run P w = .ok (.round l fn tmps assign body) w:=by
  simp [execOp,ho,resolve,hf,hv,Deferred.ofValue,invoke,hy]
 rw [show Oper.semAt (FF none).round a.eval y=execOp a.eval y from rfl,hrun,Oper.uponIn_round]
 refine ⟨(fun e=>by cases e),hr.mono fun e w' he=>?_⟩
 obtain ⟨v,rfl,hn⟩:=hR e w' he
 exact hn
theorem kqU (hr:HR w O μ h n) {w':World} {O2:Nat->Prop} (h2:∀ b,O2 b->b<w'.heap.size):HR w' O2 mu0 ah0 n:=
 ⟨h2,fun id b k e=>(by cases e),fun id id' b k k' e=>(by cases e),fun id b k e=>(by cases e),fun id B e=>(by cases e)⟩
def YV (P:Program) (l:Nat) (g:AV) (avs:List AV) (ls:List (List AV)):Prop:=
 ∀ (G:IterG) (k:Nat) (O:Nat->Prop) (w:World) (y:Oper) (c:Call) (f:Operand) (a:Act) (next:Act->World->Prop) (Q:Exit->Act->World->Prop),G.l=l->IterOk P G->G.J k O w->(∀ b,O b->b<w.heap.size)->
  (∀ j,j<ls.length->G.xs[k+j]?=ls[j]?)->y.op = .call c->c.callee = .value f->VR w O mu0 0 g (a.eval f)->c.args.size=avs.length->(∀ (j:Nat) (c':AV),avs[j]?=some c'->∃ u,(c.args.map a.eval)[j]?=some u/\VR w O mu0 0 c' u)->
  (∀ e w',RndL G k ls.length O w e w'->∃ v,e = .returned v/\next (a.put y.dst v) w')->y.wpIn (FF none) 0 P a w next Q
theorem YV.yield {l:Nat} {x:List AV}:YV P l (.sc (.func (.yield l) #[] #[])) x [x]:=by
 intro G k O w y c f a next Q hl ok hJ hO hx ho hf hv hsz ha hR
 subst hl
 exact kxQ ho hf hv.sc_inv (ok.y k O w _ x hJ hO (by simpa using hx 0 (by simp)) (by simpa using hsz) ha) hR
def SnapV (z:AH) (a a':AV):Prop:=∀ (w:World) (O:Nat->Prop) (μ:Mu) (n:Nat) (v:Value),HR w O μ z n->VR w O μ n a v->VR w O mu0 0 a' v
theorem Snap.V {z:AH} {a a':AV} (h:Snap z a a'):SnapV z a a':=fun _ _ _ _ _ hr hv=>h.vr hr hv
theorem SnapV.un {z:AH} {a:AV}:SnapV z a .un:=fun _ _ _ _ _ _ _=>.un _
theorem SnapV.fn {z:AH} {f:FuncId} {cs cs':List AV} (hl:cs'.length=cs.length) (h:∀ (q:Nat) (c c':AV),cs[q]?=some c->cs'[q]?=some c'->SnapV z c c'):SnapV z (.fn f cs) (.fn f cs'):=fun w O μ n v hr hv=>by
 cases hv with
 | fn _ _ vs us hs hc hv=>
  refine .fn f cs' vs us (hs.trans hl.symm) (fun j c' hj=>?_) (fun j c' hj=>?_)
  all_goals obtain ⟨c,hc'⟩:=kag hl hj
  ·exact hc j c hc'
  ·exact h j c c' hc' hj w O μ n _ hr (hv j c hc')
theorem SnapV.own1 {z:AH} {id k:Nat} {T:TypeId} {a a':AV} (hB:z id=some (.cells k T [[a]])) (h1:a'.one=true) (h:SnapV z a a'):SnapV z (.own id 0 0) (.fp [a']):=fun w O μ n v hr hv=>by
 obtain ⟨b,c,g1,g2,rfl,g4⟩:=kik hr hB hv
 obtain ⟨b',c',f1,f2,f3⟩:=hr.own_cells hB
 rw [g1] at f1; cases f1
 obtain ⟨p1,u,p2,p3⟩:=(f3 0 [a] rfl).2 0 a rfl
 have key:∀ (q:Nat) (c:AV),[a'][q]?=some c->q=0/\c=a':=fun q c hq=>by
  cases q with
  | zero=>exact ⟨rfl,by simpa using hq.symm⟩
  | succ q=>simp at hq
 refine .fp [a'] b (0*k+0) (fun _=>u) (fun _ ha=>?_) (fun q c hq=>?_) (fun q c hq=>?_) (fun q c hq=>?_)
 ·rcases ha with ha | ⟨_,_,ha⟩
  ·exact hr.notO id b k g1 ha
  ·cases ha
 all_goals obtain ⟨rfl,rfl⟩:=key q c hq
 ·simpa using p2
 ·exact h1
 ·exact h w O μ n u hr p3
theorem kwo (hD:D.it=some G) (ok:IterOk P G) {y:Oper} {c:Call} {f:Operand} (ho:y.op = .call c) (hf:c.callee = .value f) {a:Act} (hs:SR N D O μ st a w) {g:AV} {avs:List AV} {ls:List (List AV)} (hY:YV P G.l g avs ls)
  {es:List (List AV)} (hg:lk st.env GS = .gs es) (hx:∀ j,j<ls.length->G.xs[es.length+j]?=ls[j]?) {z:AH} (hz:∀ q B,z q=some B->st.h q=some B) (hfv:SnapV z (ev st.env f) g) (hargs:SnapL z (c.args.toList.map (ev st.env)) avs)
  {env':Env} (henv:∀ s,s≠GS->lk env' s = .un\/(lk env' s=lk st.env s/\Free (lk st.env s))) (hd:∀ d,y.dst=some d->d<N) (e1:List (List AV)) (he1:e1.length=ls.length) {next:Act->World->Prop} {Q:Exit->Act->World->Prop}
  (hT:∀ O2 w',SR N D O2 mu0 ⟨putE ((GS,.gs (es++e1))::env') y.dst (.sc (.bool true)),ah0,st.n⟩ (a.put y.dst (.bool true)) w'->next (a.put y.dst (.bool true)) w')
  (hF:∀ O2 w',SR N D O2 mu0 ⟨putE ((GS,.ud)::env') y.dst (.sc (.bool false)),ah0,st.n⟩ (a.put y.dst (.bool false)) w'->next (a.put y.dst (.bool false)) w'):y.wpIn (FF none) 0 P a w next Q:=by
 have hgi:=hs.gi
 unfold GInv at hgi
 rw [hD,hg] at hgi
 obtain ⟨W,g1,g2,g3⟩:=hgi
 have hJ:=ok.jb _ _ _ _ g3 g1
 have hrz:HR w O μ z st.n:=⟨hs.hr.olt,hs.hr.scope,hs.hr.inj,hs.hr.notO,fun id B hB=>hs.hr.blk id B (hz id B hB)⟩
 have hdef:a.defers=[]:=hs.defers.1 (by rw [hD]; rfl)
 refine hY G es.length O w y c f a next Q rfl ok hJ hs.hr.olt hx ho hf (hfv _ _ _ _ _ hrz (hs.ev f)) (by have:=hargs.len; simp at this ⊢; omega) (fun j c' hj=>?_) ?_
 ·obtain ⟨b,hb⟩:=kag hargs.len hj
  have hb':=hb
  simp only [jaw,jab,jcl] at hb'
  obtain ⟨t,ht,rfl⟩:=hb'
  refine ⟨a.eval t,by simp [ht],?_⟩
  exact (hargs.at j _ _ hb hj).vr hrz (hs.ev t)
 ·rintro e w' ⟨O2,p1,p2,p3,p4⟩
  have base:∀ gv:AV,VR w' O2 mu0 st.n gv undef->(∀ W2:World,W2=w'->(match gv with | .gs es=>G.J es.length O2 W2 | .ud=>G.Jx W2 | _=>True))->SR N D O2 mu0 ⟨(GS,gv)::env',ah0,st.n⟩ a w':=fun gv hgv hj=>by
   refine ⟨kqU hs.hr p1,hs.size,⟨fun _=>hdef,jcy hs.defers.2.1 p3.size,[],List.nodup_nil,hdef,fun b hb=>by cases hb⟩,fun s=>?_,hs.gs,?_⟩
   ·simp only [lk]
    by_cases hsg:s=GS
    ·rw [if_pos hsg,hsg]
     have:a.tmps.getD GS undef=undef:=by
      have hN:N<=GS:=hs.gs (by rw [hD]; rfl)
      have:=hs.size
      rw [jaf,jdr (by omega)]; rfl
     rw [this]; exact hgv
    ·rw [if_neg hsg]
     rcases henv s hsg with e | ⟨e,hfree⟩
     ·rw [e]; exact .un _
     ·rw [e]
      exact VR.round p3 p2 ((hs.env s).free hfree (O':=O) fun b hb=>.inl hb)
   ·unfold GInv
    rw [hD]
    refine ⟨w',.refl _ _,fun id b k e=>(by cases e),?_⟩
    simp only [lk,if_pos]
    exact hj w' rfl
  rcases p4 with ⟨rfl,p4⟩ | ⟨rfl,p4⟩
  ·refine ⟨_,rfl,hT O2 w' ?_⟩
   have hb:=base (.gs (es++e1)) (.gs _) (fun W2 e=>by subst e; simpa [he1] using p4)
   exact hb.putE hb.hr hb.hr.refl (.sc _ rfl) y.dst hd
  ·refine ⟨_,rfl,hF O2 w' ?_⟩
   have hb:=base .ud .ud (fun W2 e=>by subst e; exact p4)
   exact hb.putE hb.hr hb.hr.refl (.sc _ rfl) y.dst hd
end
section
variable {P:Program} {N:Nat} {D:DX} {O:Nat->Prop} {Q:Exit->St->Prop} {st:St} {μ:Mu} {w:World} {n:Nat} {h:AH} {G:IterG}
theorem RO.it {ro:Option Nat} (hD:D.it=some G) (h:RO D ro w μ):ro=none:=by
 cases ro with
 | none=>rfl
 | some l=>obtain ⟨h1,_⟩:=h; rw [hD] at h1; cases h1
def GOk1 (ds:List (Option Tmp)) (o:Oper) (env:Env):Prop:=o.guard=none\/∃ jj want d,o.guard=some (jj,want)/\kbd ds jj=some d/\lk env d = .sc (.bool want)
theorem GOk1.wanted {l:List Oper} {o:Oper} {a:Act} (hg:GOk1 (l.map (·.dst)) o st.env) (hs:SR N D O μ st a w):Region.wanted o (yielded l.toArray a.tmps)=true:=by
 rcases hg with hg | ⟨jj,want,d,hg,hsl,hgv⟩
 ·simp [Region.wanted,hg]
 ·obtain ⟨g1,_⟩:=ked hs hsl hgv
  simp [Region.wanted,hg,g1 want rfl]
def YieldK (P:Program) (G:IterG) (ds:List (Option Tmp)) (y:Oper) (l2:List Oper) (K:St->Prop) (s:St):Prop:=
 GOk1 ds y s.env/\∃ c f g avs ls es z env' e1,y.op = .call c/\c.callee = .value f/\YV P G.l g avs ls/\lk s.env GS = .gs es/\(∀ j,j<ls.length->G.xs[es.length+j]?=ls[j]?)/\(∀ q B,z q=some B->s.h q=some B)/\
  SnapV z (ev s.env f) g/\SnapL z (c.args.toList.map (ev s.env)) avs/\(∀ t,t≠GS->lk env' t = .un\/(lk env' t=lk s.env t/\Free (lk s.env t)))/\e1.length=ls.length/\
  aops P ds l2 ⟨putE ((GS,.gs (es++e1))::env') y.dst (.sc (.bool true)),ah0,s.n⟩ K/\aops P ds l2 ⟨putE ((GS,.ud)::env') y.dst (.sc (.bool false)),ah0,s.n⟩ K
theorem YieldK.run {l:List Oper} {y:Oper} {l2:List Oper} {O1:Nat->Prop} {n0:Nat} {w0:World} {μ0:Mu} {a:Act} (hD:D.it=some G) (ok:IterOk P G) (hdy:∀ x,y.dst=some x->x<N) (hd2:kaZ N l2=true) (hs:SR N D O μ st a w)
  (hk:YieldK P G (l.map (·.dst)) y l2 (Q .normal) st):wpL none P l.toArray (Post N D O1 Q μ0 w0 n0) (y::l2) a w:=by
 obtain ⟨k0,c,f,g,avs,ls,es,z,env',e1,k1,k2,k3,k4,k5,k6,k7,k8,k9,k10,k11,k12⟩:=hk
 unfold wpL
 rw [if_pos (k0.wanted hs)]
 have fin:∀ s2 O2 a2 w2,aops P (l.map (·.dst)) l2 s2 (Q .normal)->SR N D O2 mu0 s2 a2 w2->wpL none P l.toArray (Post N D O1 Q μ0 w0 n0) l2 a2 w2:=fun s2 O2 a2 w2 hk2 hs2=>by
  have:=khD (ro:=none) (l:=l) (r2:=[]) l2 s2 hd2 hs2 hk2 (Q':=Post N D O1 Q μ0 w0 n0) fun s3 μ3 a3 w3 hk3 hs3 _=>by
   show Post N D O1 Q μ0 w0 n0 .normal a3 w3
   exact ⟨s3,μ3,O2,(fun e=>by rw [hD] at e; cases e),hk3,hs3,fun e=>by rw [hD] at e; cases e⟩
  rwa [jbd] at this
 exact kwo hD ok k1 k2 hs k3 k4 k5 k6 k7 k8 k9 hdy e1 k10 (fun O2 w' hs2=>fin _ O2 _ w' k11 hs2) (fun O2 w' hs2=>fin _ O2 _ w' k12 hs2)
theorem Sat.regionY {id:Nat} {l1:List Oper} {y:Oper} {l2:List Oper} (hD:D.it=some G) (ok:IterOk P G) (hd:kaZ N (l1++y::l2)=true)
  (h1:aops P ((l1++y::l2).map (·.dst)) l1 st (YieldK P G ((l1++y::l2).map (·.dst)) y l2 (Q .normal))):Sat P N D O (.region id (l1++y::l2).toArray false) Q st:=by
 intro O1 o ro μ a w hro hs
 obtain rfl:=hro.it hD
 have hd':=hd
 simp only [kaZ,List.all_append,jdy,jac] at hd'
 refine kqp (khD (l:=l1++y::l2) (r2:=y::l2) l1 st hd'.1 hs h1 fun s1 μ1 a1 w1 hk hs1 _=>hk.run hD ok (fun x hx=>?_) hd'.2.2 hs1)
 have:=hd'.2.1; rw [hx] at this; simpa using this
theorem kyO {F:Fence} {m:Nat} {o:Oper} {a:Act} {w:World} {K:Act->World->Prop} {Q Q':Exit->Act->World->Prop} (hq:∀ e a w,e≠.normal->Q e a w->Q' e a w) (hh:o.wpIn F m P a w K Q):o.wpIn F m P a w K Q':=by
 have hl:LetsOut Q->LetsOut Q':=fun ⟨a,w,h⟩=>⟨a,w,hq _ _ _ (by simp) h⟩
 unfold Oper.wpIn at *
 refine ⟨hh.1,?_⟩
 have hh:=hh.2
 generalize (o.semAt F.round a.eval).run P w=r at *
 cases r with
 | ok x w'=>
  cases x <;> simp only [Oper.uponIn] at hh ⊢ <;>
   first
    | exact hh
    | exact ⟨hh.1,CallsIn.mono hh.2 (fun e w'' he=>by cases e <;> first | exact he | exact hq _ _ _ (by simp) he | exact hl he)⟩
    | exact ⟨hh.1,RoundIn.mono hh.2 (fun e w'' he=>by cases e <;> first | exact he | exact hq _ _ _ (by simp) he | exact hl he)⟩
 | halt x w'=>cases x <;> simp only [Oper.uponIn] at hh ⊢ <;> first | exact hh | exact hq _ _ _ (by simp) hh
def barOk (l:List Oper) (k:Nat):Bool:=
 (List.range k).all (fun i=>((ancOf l).getD k []).contains i)&&(l.take k).all (fun o=>match o.guard with | some (g,_)=>decide (g<k) | none=>true) &&
 (List.range (l.length-(k+1))).all (fun i=>match l[k+1+i]? with | some o=>o.after.any fun e=>Region.binds .any e&&e.on==k+i | none=>true)
def QY (Q:Exit->Act->World->Prop) (K2:Act->World->Prop):Exit->Act->World->Prop
 | .normal=>K2
 | e=>Q e
theorem kxX {F:Fence} {m:Nat} {l1:List Oper} {y:Oper} {l2:List Oper} (hd:kcR (l1++y::l2)=true) (hb:barOk (l1++y::l2) l1.length=true) {Q:Exit->Act->World->Prop} {K2:Act->World->Prop}
  (h2:∀ a w,K2 a w->∀ f L,L.size=(l1++y::l2).length->(∀ i,i<l1.length->L.getD i true=true)->(∀ i,l1.length<=i->i<(l1++y::l2).length->L.getD i true=false)->wpAnyIn F m P .any (l1++y::l2).toArray Q (f+(1+l2.length)) L a w) :
  ∀ f1 (L1 L:Array Bool) a w,L1.size=l1.length->L.size=(l1++y::l2).length->(∀ i,i<l1.length->L.getD i true=L1.getD i true)->(∀ i,l1.length<=i->i<(l1++y::l2).length->L.getD i true=false)->
   Closed (l1++y::l2) (fun i=>i<l1.length/\L1.getD i true=true)->wpAnyIn F m P .any l1.toArray (QY Q K2) f1 L1 a w->wpAnyIn F m P .any (l1++y::l2).toArray Q (f1+(1+l2.length)) L a w:=by
 simp only [barOk,jac,jam,jcj,jbo,jai] at hb
 obtain ⟨⟨b1,b2⟩,b3⟩:=hb
 have get1:∀ {i:Nat} {o:Oper},l1[i]?=some o->(l1++y::l2)[i]?=some o:=fun {i o} h=>by rw [jbl (jad.1 h).1]; exact h
 have all_of:∀ (L1:Array Bool),L1.size=l1.length->Region.ready .any l1.toArray L1=[]->∀ i,i<l1.length->L1.getD i true=true:=by
  intro L1 hsz hr i
  induction i using Nat.strongRecOn with
  | _ i ih=>
   intro hi
   cases hb:L1.getD i true with
   | true=>rfl
   | false=>
    have:i∈Region.ready .any l1.toArray L1:=mem_ready.2 ⟨hb,l1[i],by simp,fun e he hbd=>by
     have hlt:=(kbt hd).1 i _ (get1 (jae hi)) e he hbd
     have:=ih e.on hlt (by omega)
     have hsz':e.on<L1.size:=by omega
     simpa [jaf,hsz'] using this⟩
    rw [hr] at this; cases this
 intro f1
 induction f1 with
 | zero=>
  intro L1 L a w s1 s2 e1 e2 hc hw
  obtain ⟨hr,hk⟩:=hw
  exact h2 a w hk 0 L s2 (fun i hi=>by rw [e1 i hi]; exact all_of L1 s1 hr i hi) e2
 | succ f1 ih=>
  intro L1 L a w s1 s2 e1 e2 hc hw
  obtain ⟨h0,hw⟩:=hw
  by_cases hr:Region.ready .any l1.toArray L1=[]
  ·exact h2 a w (h0 hr) (f1+1) L s2 (fun i hi=>by rw [e1 i hi]; exact all_of L1 s1 hr i hi) e2
  ·have sub:∀ i,i∈Region.ready .any l1.toArray L1->i∈Region.ready .any (l1++y::l2).toArray L:=fun i hi=>by
    obtain ⟨g1,o,g2,g3⟩:=mem_ready.1 hi
    have g2':l1[i]?=some o:=by simpa using g2
    have hil:=(jad.1 g2').1
    refine mem_ready.2 ⟨by rw [e1 i hil]; exact g1,o,by simpa using get1 g2',fun e he hbd=>?_⟩
    have hlt:=(kbt hd).1 i _ (get1 g2') e he hbd
    have h3:=g3 e he hbd
    have q1:e.on<L1.size:=by omega
    have q2:e.on<L.size:=by rw [s2]; simp; omega
    have:=e1 e.on (by omega)
    simp only [jaf,jas q1,jas q2,jca] at this h3 ⊢
    rw [this]; exact h3
   rw [show f1+1+(1+l2.length)=(f1+(1+l2.length))+1 by omega]
   refine ⟨fun hn=>absurd (jcs.2 fun i hi=>by have:=sub i hi; rw [hn] at this; cases this) hr,fun i hi=>?_⟩
   obtain ⟨g1,o,g2,g3⟩:=mem_ready.1 hi
   have g2':(l1++y::l2)[i]?=some o:=by simpa using g2
   have hil:=(jad.1 g2').1
   have lst:∀ e∈o.after,Region.binds .any e=true->e.on<l1.length->L1.getD e.on true=true:=fun e he hbd hlt=>by
    have h3:=g3 e he hbd
    have q1:e.on<L1.size:=by omega
    have q2:e.on<L.size:=by rw [s2]; simp; omega
    have:=e1 e.on hlt
    simp only [jaf,jas q1,jas q2,jca] at this h3 ⊢
    rw [<-this]; exact h3
   by_cases hik:i<l1.length
   ·have ho1:l1[i]?=some o:=by rwa [jbl hik] at g2'
    have hi1:i∈Region.ready .any l1.toArray L1:=mem_ready.2 ⟨by rw [<-e1 i hik]; exact g1,o,by simpa using ho1,fun e he hbd=>by
     have hlt:=(kbt hd).1 i _ g2' e he hbd
     have:=lst e he hbd (by omega)
     have hsz':e.on<L1.size:=by omega
     simpa [jaf,hsz'] using this⟩
    have hop:=hw i hi1
    have next:∀ a w,wpAnyIn F m P .any l1.toArray (QY Q K2) f1 (L1.setIfInBounds i true) a w->wpAnyIn F m P .any (l1++y::l2).toArray Q (f1+(1+l2.length)) (L.setIfInBounds i true) a w:=fun a w hh=>by
     have hset:∀ (A:Array Bool) j,i<A.size->(A.setIfInBounds i true).getD j true=if j=i then true else A.getD j true:=fun A j hA=>by
      by_cases hj:j=i
      ·subst hj; simp [jaf,hA]
      ·rw [if_neg hj,jaf,jcq (by omega),<-jaf]
     refine ih _ _ a w (by simpa using s1) (by simpa using s2) (fun j hj=>?_) (fun j h1 h2=>?_) (fun j oj hoj hj e he hbd=>?_) hh
     ·rw [hset _ _ (by omega),hset _ _ (by omega),e1 j hj]
     ·rw [hset _ _ (by omega),if_neg (by omega)]; exact e2 j h1 h2
     ·obtain ⟨hj1,hj2⟩:=hj
      have hlt:=(kbt hd).1 j _ hoj e he hbd
      refine ⟨by omega,?_⟩
      rw [hset _ _ (by omega)]
      split
      ·rfl
      ·rw [hset _ _ (by omega)] at hj2
       by_cases hji:j=i
       ·subst hji
        rw [g2'] at hoj; cases hoj
        exact lst e he hbd (by omega)
       ·rw [if_neg hji] at hj2
        exact (hc j oj hoj ⟨hj1,hj2⟩ e he hbd).2
    unfold wpOpIn at hop ⊢
    rw [show l1.toArray[i]?=some o by simpa using ho1] at hop
    rw [show (l1++y::l2).toArray[i]?=some o by simpa using g2']
    simp only at hop ⊢
    have hwant:Region.wanted o (yielded (l1++y::l2).toArray a.tmps)=Region.wanted o (yielded l1.toArray a.tmps):=by
     unfold Region.wanted
     cases hg:o.guard with
     | none=>rfl
     | some gw=>
      obtain ⟨g,wt⟩:=gw
      have:=b2 o (by rw [List.take_left]; exact jag ho1)
      rw [hg] at this
      simp only [jai] at this
      have hy:yielded (l1++y::l2).toArray a.tmps g=yielded l1.toArray a.tmps g:=by
       unfold yielded
       simp only [jbv,jbl this]
      simp only [hy]
    rw [hwant]
    split
    ·rename_i hc1; rw [if_pos hc1] at hop
     exact kyO (fun e a w hne hq=>by cases e <;> first | exact absurd rfl hne | exact hq) (Oper.wpIn_mono next hop)
    ·rename_i hc1; rw [if_neg hc1] at hop
     exact ⟨hop.1,next _ _ hop.2⟩
   ·exfalso
    by_cases hik2:i=l1.length
    ·subst hik2
     have hall:∀ j,j<l1.length->L1.getD j true=true:=fun j hj=>by
      have:=hc.anc (khv (b1 j hj)) fun o' ho' e he hbd=>by
       rw [g2'] at ho'; cases ho'
       have hlt:=(kbt hd).1 _ _ g2' e he hbd
       exact ⟨hlt,lst e he hbd hlt⟩
      exact this.2
     refine hr (jcs.2 fun j hj=>?_)
     obtain ⟨q1,oj,q2,_⟩:=mem_ready.1 hj
     have hjl:j<l1.length:=by simpa using (jak.1 q2).1
     rw [hall j hjl] at q1; cases q1
    ·have h3:=b3 (i-(l1.length+1)) (by omega)
     rw [show l1.length+1+(i-(l1.length+1))=i by omega,g2'] at h3
     simp only at h3
     rw [Array.any_eq_true'] at h3
     obtain ⟨e,he,hbe⟩:=h3
     simp only [jac,beq_iff_eq] at hbe
     have hlt:=(kbt hd).1 i _ g2' e he hbe.1
     have h4:=g3 e he hbe.1
     have h5:=e2 e.on (by omega) (by omega)
     have q2:e.on<L.size:=by rw [s2]; omega
     simp only [jaf,jas q2,jca] at h4 h5
     rw [h5] at h4; cases h4
end
section
variable {P:Program} {N:Nat} {D:DX} {O:Nat->Prop} {Q:Exit->St->Prop} {st:St} {μ:Mu} {w:World} {n:Nat} {h:AH} {G:IterG}
theorem kxH {F:Fence} {m:Nat} {l:List Oper} {Q:Exit->Act->World->Prop} {L:Array Bool} {a:Act} (hL:∀ i,i<l.length->L.getD i true=true) (hq:Q .normal a w):∀ f,wpAnyIn F m P .any l.toArray Q f L a w:=by
 have hr:Region.ready .any l.toArray L=[]:=jcs.2 fun i hi=>by
  obtain ⟨h1,o,h2,_⟩:=mem_ready.1 hi
  have:i<l.length:=by simpa using (jak.1 h2).1
  rw [hL i this] at h1; cases h1
 intro f
 cases f with
 | zero=>exact ⟨hr,hq⟩
 | succ f=>exact ⟨fun _=>hq,fun i hi=>by rw [hr] at hi; cases hi⟩
theorem kic (A:Array Bool) (i j:Nat) (hA:i<A.size):(A.setIfInBounds i true).getD j true=if j=i then true else A.getD j true:=by
 by_cases hj:j=i
 ·subst hj; simp [jaf,hA]
 ·rw [if_neg hj,jaf,jcq (by omega),<-jaf]
theorem kwT {ro:Option Nat} {l:List Oper} {k:Nat} (hd:kcR l=true) (hb:∀ (i:Nat) (o:Oper),k<i->l[i]?=some o->∃ e∈o.after,Region.binds .any e=true/\e.on+1=i) {Q:Exit->Act->World->Prop} :
  ∀ (r pre:List Oper),l=pre++r->k<=pre.length->∀ (f:Nat) (L:Array Bool) (a:Act) (w:World),L.size=l.length->(∀ i,i<pre.length->L.getD i true=true)->(∀ i,pre.length<=i->i<l.length->L.getD i true=false)->wpL ro P l.toArray Q r a w->wpAnyIn (FF ro) 0 P .any l.toArray Q (f+r.length) L a w:=by
 intro r
 induction r with
 | nil=>
  intro pre hl hk f L a w hsz h1 h2 hw
  exact kxH (fun i hi=>h1 i (by rw [hl] at hi; simpa using hi)) hw _
 | cons o r ih=>
  intro pre hl hk f L a w hsz h1 h2 hw
  have ho:l[pre.length]?=some o:=by rw [hl]; simp
  have hlt:=(jad.1 ho).1
  have hkr:∀ i,i∈Region.ready .any l.toArray L↔i=pre.length:=fun i=>by
   rw [mem_ready]
   constructor
   ·rintro ⟨g1,oi,g2,g3⟩
    have g2':l[i]?=some oi:=by simpa using g2
    have hil:=(jad.1 g2').1
    rcases Nat.lt_trichotomy i pre.length with h | h | h
    ·rw [h1 i h] at g1; cases g1
    ·exact h
    ·exfalso
     obtain ⟨e,he,hbe,hon⟩:=hb i oi (by omega) g2'
     have h4:=g3 e he hbe
     have h5:=h2 e.on (by omega) (by omega)
     have q2:e.on<L.size:=by omega
     simp only [jaf,jas q2,jca] at h4 h5
     rw [h5] at h4; cases h4
   ·rintro rfl
    refine ⟨h2 _ (jah _) hlt,o,by simpa using ho,fun e he hbd=>?_⟩
    have hon:=(kbt hd).1 _ _ ho e he hbd
    have:=h1 e.on hon
    have q2:e.on<L.size:=by omega
    simpa [jaf,q2] using this
  have next:∀ a w,wpL ro P l.toArray Q r a w->wpAnyIn (FF ro) 0 P .any l.toArray Q (f+r.length) (L.setIfInBounds pre.length true) a w:=fun a w hw=>by
   refine ih (pre++[o]) (by simp [hl]) (by simp; omega) f _ a w (by simpa using hsz) (fun i hi=>?_) (fun i hi hil=>?_) hw
   ·rw [kic _ _ _ (by omega)]
    split
    ·rfl
    ·simp at hi; exact h1 i (by omega)
   ·simp at hi
    rw [kic _ _ _ (by omega),if_neg (by omega)]
    exact h2 i (by omega) hil
  rw [show f+(o::r).length=(f+r.length)+1 by simp; omega]
  refine ⟨fun hn=>?_,fun i hi=>?_⟩
  ·have:=(hkr pre.length).2 rfl
   rw [hn] at this; cases this
  ·obtain rfl:=(hkr i).1 hi
   unfold wpOpIn
   rw [show l.toArray[pre.length]?=some o by simpa using ho]
   simp only
   unfold wpL at hw
   split
   ·rename_i hc; rw [if_pos hc] at hw; exact Oper.wpIn_mono (fun a w=>next a w) hw
   ·rename_i hc; rw [if_neg hc] at hw; exact ⟨fun _ _=>trivial,next _ _ hw⟩
def PreY (P:Program) (N:Nat) (D:DX) (l1:List Oper) (st:St) (K:St->Prop):Prop:=
 ∀ (O1:Nat->Prop) (μ:Mu) (a:Act) (w:World) (Q':Exit->Act->World->Prop),SR N D O1 μ st a w->(∀ s1 μ1 a1 w1,K s1->SR N D O1 μ1 s1 a1 w1->Q' .normal a1 w1)->wpAnyIn (FF none) 0 P .any l1.toArray Q' l1.length (Array.replicate l1.length false) a w.drew
theorem Sat.drawY {id:Nat} {l1:List Oper} {y:Oper} {l2:List Oper} (hD:D.it=some G) (ok:IterOk P G) (hm:P.follows .mixedOrders=true)
  (hd:kcR (l1++y::l2)=true) (hb:barOk (l1++y::l2) l1.length=true) (hdst:kaZ N (l1++y::l2)=true)
  (hpre:PreY P N D l1 st (YieldK P G ((l1++y::l2).map (·.dst)) y l2 (Q .normal))):Sat P N D O (.region id (l1++y::l2).toArray true) Q st:=by
 intro O1 o ro μ a w hro hs
 obtain rfl:=hro.it hD
 refine wpIn_region_any hm ?_
 have hdst':=hdst
 simp only [kaZ,List.all_append,jdy,jac] at hdst'
 have hdy:∀ x,y.dst=some x->x<N:=fun x hx=>by have:=hdst'.2.1; rw [hx] at this; simpa using this
 have hb':=hb
 simp only [barOk,jac,jam,jcj,jbo] at hb'
 obtain ⟨⟨b1,b2⟩,b3⟩:=hb'
 have hlen:(l1++y::l2).toArray.size=l1.length+(1+l2.length):=by simp; omega
 rw [hlen]
 refine kxX hd hb (K2:=fun a w=>∃ s1 μ1,YieldK P G ((l1++y::l2).map (·.dst)) y l2 (Q .normal) s1/\SR N D O1 μ1 s1 a w) ?_ l1.length (Array.replicate l1.length false) _ a w.drew (by simp) (by simp; omega) (fun i hi=>?_) (fun i h1 h2=>?_) (fun j oj hoj hj=>?_) ?_
 ·rintro a2 w2 ⟨s1,μ1,hk,hs2⟩ f2 L2 hsz hl1 hl2
  rw [show 1+l2.length=(y::l2).length by simp; omega]
  refine kwT (k:=l1.length) hd (fun i oi hi hoi=>?_) (y::l2) l1 rfl (jah _) f2 L2 a2 w2 hsz hl1 hl2 (hk.run hD ok hdy hdst'.2.2 hs2)
  have hil:=(jad.1 hoi).1
  have h3:=b3 (i-(l1.length+1)) (by omega)
  rw [show l1.length+1+(i-(l1.length+1))=i by omega,hoi] at h3
  simp only at h3
  rw [Array.any_eq_true'] at h3
  obtain ⟨e,he,hbe⟩:=h3
  simp only [jac,beq_iff_eq] at hbe
  exact ⟨e,he,hbe.1,by omega⟩
 ·have q1:i<(Array.replicate (l1.length+(1+l2.length)) false).size:=by simp; omega
  have q2:i<(Array.replicate l1.length false).size:=by simpa using hi
  rw [jaf,jas q1,jaf,jas q2]; simp
 ·have q1:i<(Array.replicate (l1.length+(1+l2.length)) false).size:=by simp at h2 ⊢; omega
  rw [jaf,jas q1]; simp
 ·obtain ⟨hj1,hj2⟩:=hj
  have q2:j<(Array.replicate l1.length false).size:=by simpa using hj1
  rw [jaf,jas q2] at hj2; simp at hj2
 ·exact hpre O1 μ a w _ hs fun s1 μ1 a1 w1 hk hs1=>⟨s1,μ1,hk,hs1⟩
def itQ (xs:List (List AV)) (e:Exit) (s:St):Prop:=(e = .normal\/e = .ret)/\((∃ es,lk s.env GS = .gs es/\es.length=xs.length)\/lk s.env GS = .ud)
theorem IT.of_body {g:FuncId} {fn:Func} {c:Code} {caps:List AV} {xs:List (List AV)} (hf:P.funcs[g]?=some fn) (hb:fn.body=some c) (hname:(fn.name== "runtime.NumGoroutine")=false) (hargs:caps.length+1<=fn.ntmps) (hN:fn.ntmps<=GS) (hres:fn.results.toList=[])
  (hsat:∀ (D:DX) (G:IterG) (O:Nat->Prop),D.it=some G->G.xs=xs->IterOk P G->Sat P fn.ntmps D O c (itQ xs) ⟨(GS,.gs [])::kao (.sc (.func (.yield G.l) #[] #[])::caps),ah0,0⟩):IT P g caps xs:=by
 refine ⟨⟨fn,hf,by rw [hb]; rfl,hname⟩,fun O w vs G hx ok hO hsz hvs hJ=>callsIn_of_wp_marks hf hb trivial ?_⟩
 refine wpIn_mono (hsat ⟨w.heap.size,some G⟩ G O rfl hx ok O (fun e=>by cases e) none mu0 _ w trivial ⟨kqU (μ:=mu0) (h:=ah0) (O:=O) (w:=w) ⟨hO,fun id b k e=>(by cases e),fun id id' b k k' e=>(by cases e),fun id b k e=>(by cases e),fun id B e=>(by cases e)⟩ hO,?_,.nil _ _ _ (jah _),fun s=>?_,fun _=>hN,?_⟩) ?_
 ·simp [hsz]; omega
 ·simp only [lk]
  by_cases hg:s=GS
  ·rw [if_pos hg,hg]
   have:(#[Value.func (.yield G.l) #[] #[]]++vs++Array.replicate (fn.ntmps-(#[Value.func (.yield G.l) #[] #[]]++vs).size) undef).getD GS undef=undef:=by
    rw [jaf,jdr (by simp [hsz]; omega)]; rfl
   rw [this]; exact .gs _
  ·rw [if_neg hg]
   simp only [kao,kpo _ 0 s,jea,if_true,Nat.sub_zero]
   cases s with
   | zero=>
    have:(#[Value.func (.yield G.l) #[] #[]]++vs++Array.replicate (fn.ntmps-(#[Value.func (.yield G.l) #[] #[]]++vs).size) undef).getD 0 undef=Value.func (.yield G.l) #[] #[]:=by
     rw [jaf,jdq (by simp; omega),jdq (by simp)]; rfl
    rw [this]
    exact .sc (Value.func (.yield G.l) #[] #[]) rfl
   | succ j=>
    rw [jbz]
    cases hs:caps[j]? with
    | none=>simpa using VR.un _
    | some v=>
     obtain ⟨u,hu,hvr⟩:=hvs j v hs
     have hlt:=(jak.1 hu).1
     have:(#[Value.func (.yield G.l) #[] #[]]++vs++Array.replicate (fn.ntmps-(#[Value.func (.yield G.l) #[] #[]]++vs).size) undef).getD (j+1) undef=u:=by
      rw [jaf,jdq (by simp; omega),Array.getElem?_append_right (by simp)]
      simp [hu]
     rw [this]
     exact hvr
 ·unfold GInv
  exact ⟨w,.refl _ _,fun id b k e=>(by cases e),by simpa [lk] using hJ⟩
 ·rintro e a' w' ⟨st',μ',O',o',⟨hq1,hq2⟩,hs',_⟩
  have hdef:a'.defers=[]:=hs'.defers.1 rfl
  have hend:(∃ O',G.J xs.length O' w')\/G.Jx w':=by
   have hgi:=hs'.gi
   unfold GInv at hgi
   simp only at hgi
   obtain ⟨W,g1,g2,g3⟩:=hgi
   rcases hq2 with ⟨es,h1,h2⟩ | h1
   ·rw [h1] at g3; rw [<-h2]; exact .inl ⟨O',ok.jb _ _ _ _ g3 g1⟩
   ·rw [h1] at g3; exact .inr (ok.xb _ _ g3 g1)
  have hl:LeavesInM (FF none) 0 P fn a'.tmps (fun e w'=>(∃ v,e = .returned v)/\((∃ O',G.J xs.length O' w')\/G.Jx w')) a'.defers .returning w':=by
   rw [hdef]
   obtain ⟨u,h3,_⟩:=kir (fn:=fn) (v:=.tp []) hs' (by rw [hres]; rfl)
   exact ⟨u,h3,⟨u,rfl⟩,hend⟩
  rcases hq1 with rfl | rfl <;> exact hl
end
section
variable {P:Program} {N:Nat} {D:DX} {O:Nat->Prop} {Q:Exit->St->Prop} {st:St} {μ:Mu} {w:World} {n:Nat} {h:AH}
def kjZ (ps:List Tmp) (x:List AV) (env:Env):Env:=(ps.zip x).foldl (fun e p=>(p.1,p.2)::e) env
theorem kwS {ps:List Tmp}:∀ {x:List AV} {vs:List Value} {env:Env} {tmps:Array Value} (w:World) (O:Nat->Prop) (μ:Mu) (n:Nat),x.length=ps.length->vs.length=ps.length->(∀ s,VR w O μ n (lk env s) (tmps.getD s undef))->(∀ p∈ps,p<tmps.size)->
  (∀ (j:Nat) (c:AV),x[j]?=some c->∃ u,vs[j]?=some u/\VR w O μ n c u)->∀ s,VR w O μ n (lk (kjZ ps x env) s) (((ps.zip vs).foldl (fun t (p:Tmp×Value)=>t.setIfInBounds p.1 p.2) tmps).getD s undef):=by
 induction ps with
 | nil=>intro x vs env tmps w O μ n h1 h2 he _ _ s; simpa [kjZ] using he s
 | cons p ps ih=>
  intro x vs env tmps w O μ n h1 h2 he hp hx s
  cases x with
  | nil=>simp at h1
  | cons c x=>
   cases vs with
   | nil=>simp at h2
   | cons v vs=>
    obtain ⟨u,hu,hv⟩:=hx 0 c rfl
    simp only [jcu,Option.some.injEq] at hu
    subst hu
    refine ih (x:=x) (vs:=vs) (env:=(p,c)::env) (tmps:=tmps.setIfInBounds p v) w O μ n (by simpa using h1) (by simpa using h2) (fun t=>?_) (fun q hq=>by simpa using hp q (jbb _ hq)) (fun j c' hj=>by simpa using hx (j+1) c' (by simpa using hj)) s
    simp only [lk]
    have hlt:p<tmps.size:=hp p (by simp)
    by_cases htp:t=p
    ·rw [if_pos htp,htp]; simp [jaf,hlt,hv]
    ·rw [if_neg htp,jaf,jcq (by omega),<-jaf]
     exact he t
theorem kwp (ps:List (Tmp×Value)):∀ tmps:Array Value,(ps.foldl (fun t (p:Tmp×Value)=>t.setIfInBounds p.1 p.2) tmps).size=tmps.size:=by
 induction ps with
 | nil=>intro t; rfl
 | cons p ps ih=>intro t; simp only [List.foldl_cons,ih]; simp
theorem kmH {fn:FuncId} {tmps:Array Value} {ps:Array Tmp} {assign body:Code} {l0:Nat} {r:Loop} (h:w.heap[l0]?=some (.loop r)) :
  (Instr.enterLoop fn tmps ps assign body (some l0)).run P w = .ok (w.heap.size,[]) (w.alloc (.loop { state:=.ready,pending:=none,fn,tmps,params:=ps,assign,body,defers:=r.defers })):=by
 unfold Instr.enterLoop
 simp only [Sem.run_bind,run_getLoop h,run_newObj_alloc,Result.andThen,Sem.run_pure]
theorem Evo.un {w w':World} {μ μ':Mu} {n n':Nat} (e:Evo w μ n w' μ' n') {b:Nat} (hb:b<w.heap.size) (hu:∀ id k,μ id≠some (b,k)):∀ id k,μ' id≠some (b,k):=fun id k hm=>by
 rcases jdh id n with hi | hi
 ·rcases e.ids id hi with e1 | e1
  ·rw [e1] at hm; exact hu id k hm
  ·rw [e1] at hm; cases hm
 ·rcases e.new id b k hm hi with e1 | ⟨id0,k0,e1⟩
  ·omega
  ·exact hu id0 k0 e1
structure LJ (O1:Nat->Prop) (w0:World) (μ:Mu) (n0:Nat) (l:Nat) (ms:List Nat) (rec:LoopState->Option Code->Loop) (sta:LoopState) (pe:Option Code) (h:AH) (n:Nat) (μ':Mu) (W:World):Prop where
 hr:HR W O1 μ' h n
 evo:Evo w0 μ n0 W μ' n
 ll:w0.heap.size<=l
 hl:W.heap[l]?=some (.loop (rec sta pe))
 ul:∀ id k,μ' id≠some (l,k)
 ms:∀ d∈ms,w0.heap.size<=d/\d≠l/\W.heap[d]?=some (.deferred (some []))/\∀ id k,μ' id≠some (d,k)
theorem LJ.below {O1:Nat->Prop} {w0 W W':World} {μ μ':Mu} {n0 n l:Nat} {ms:List Nat} {rec:LoopState->Option Code->Loop} {sta:LoopState} {pe:Option Code} (j:LJ O1 w0 μ n0 l ms rec sta pe h n μ' W) (hb:Below W.heap.size W W'):LJ O1 w0 μ n0 l ms rec sta pe h n μ' W':=by
 obtain ⟨e1,h1⟩:=Evo.of_below j.hr hb
 refine ⟨h1,j.evo.trans e1,j.ll,(hb.block _ (jak.1 j.hl).1).trans j.hl,j.ul,fun d hd=>?_⟩
 obtain ⟨k1,k2,k3,k4⟩:=j.ms d hd
 exact ⟨k1,k2,(hb.block _ (jak.1 k3).1).trans k3,k4⟩
theorem LJ.put {O1:Nat->Prop} {w0 W:World} {μ μ':Mu} {n0 n l:Nat} {ms:List Nat} {rec:LoopState->Option Code->Loop} {sta sta2:LoopState} {pe pe2:Option Code} (j:LJ O1 w0 μ n0 l ms rec sta pe h n μ' W):LJ O1 w0 μ n0 l ms rec sta2 pe2 h n μ' (W.putObj l (.loop (rec sta2 pe2))):=by
 refine ⟨j.hr.putObj _ j.hl (by simp) j.ul,j.evo.putObj _ j.ll,j.ll,World.putObj_heap_same (jak.1 j.hl).1,j.ul,fun d hd=>?_⟩
 obtain ⟨k1,k2,k3,k4⟩:=j.ms d hd
 exact ⟨k1,k2,(World.putObj_heap_other k2).trans k3,k4⟩
theorem LJ.evo2 {O1:Nat->Prop} {w0 W W':World} {μ μ' μ2:Mu} {n0 n n2 l:Nat} {ms:List Nat} {rec:LoopState->Option Code->Loop} {sta:LoopState} {pe:Option Code} {h2:AH} (j:LJ O1 w0 μ n0 l ms rec sta pe h n μ' W) (e:Evo W μ' n W' μ2 n2) (hr:HR W' O1 μ2 h2 n2):LJ O1 w0 μ n0 l ms rec sta pe h2 n2 μ2 W':=by
 have hlt:=(jak.1 j.hl).1
 refine ⟨hr,j.evo.trans e,j.ll,(e.keep _ hlt j.ul).trans j.hl,e.un hlt j.ul,fun d hd=>?_⟩
 obtain ⟨k1,k2,k3,k4⟩:=j.ms d hd
 have hd2:=(jak.1 k3).1
 exact ⟨k1,k2,(e.keep _ hd2 k4).trans k3,e.un hd2 k4⟩
def bodyQ (Q:Exit->St->Prop) (env:Env) (I:Nat->AH->Nat->Prop) (k:Nat):Exit->St->Prop
 | .normal,s=>I (k+1) s.h s.n
 | .ret,s=>Q .ret ⟨env,s.h,s.n⟩
 | .exit id,s=>Q (.exit id) ⟨env,s.h,s.n⟩
 | _,_=>False
def jumpQ (Q:Exit->St->Prop) (env:Env) (c:Code) (h:AH) (n:Nat):Prop:=
 match c with
 | .ret=>Q .ret ⟨env,h,n⟩
 | .exit id=>Q (.exit id) ⟨env,h,n⟩
 | _=>False
theorem Evo.alloc_new {O1:Nat->Prop} (hr:HR w O1 μ h n) (o:Obj):Evo w μ n (w.alloc o) μ n/\HR (w.alloc o) O1 μ h n:=Evo.of_below hr ((Below.refl _ w).alloc (jah _) o)
theorem Sat.rangeFunc (hD:D.it=none) {g:Operand} {ps:Array Tmp} {assign body:Code} {gf:FuncId} {caps caps':List AV} {xs:List (List AV)} {hE h':AH} (ids:List Nat) (hg:ev st.env g = .fn gf caps) (hi:∀ i B,hE i=some B->ids.contains i=true/\st.h i=some B) (ho:∀ i B,h' i=some B->ids.contains i=false/\st.h i=some B) (hs:SnapL hE caps caps') (hit:IT P gf caps' xs)
  (hps:∀ x∈xs,x.length=ps.size) (hpn:∀ p∈ps.toList,p<N) (I:Nat->AH->Nat->Prop) (h0:I 0 h' st.n)
  (round:∀ k x h n,xs[k]?=some x->I k h n->Sat P N D O assign (thenQ (fun s=>Sat P N D O body (bodyQ Q st.env I k) s) (fun _ _=>False)) ⟨kjZ ps.toList x st.env,h,n⟩)
  (done:∀ h n,I xs.length h n->Q .normal ⟨st.env,h,n⟩):Sat P N D O (.rangeFunc g ps assign body) Q st:=by
 intro O1 o ro μ0 a w hro0 hsr0
 obtain rfl:=o hD
 have hrI:HR w (Av O1 (muO ids μ0)) (muI ids μ0) hE st.n:=by
  refine ⟨fun b hb=>?_,fun id b k e=>hsr0.hr.scope id b k (kap e).2,fun id id' b k k' e e'=>hsr0.hr.inj id id' b k k' (kap e).2 (kap e').2,fun id b k e hO=>?_,fun id B hB=>?_⟩
  ·rcases hb with hb | ⟨id,k,hb⟩
   ·exact hsr0.hr.olt b hb
   ·exact (hsr0.hr.scope id b k (kaE hb).2).2
  ·obtain ⟨e1,e2⟩:=kap e
   rcases hO with hO | ⟨id',k',hO⟩
   ·exact hsr0.hr.notO id b k e2 hO
   ·obtain ⟨e3,e4⟩:=kaE hO
    rw [hsr0.hr.inj _ _ _ _ _ e2 e4] at e1
    rw [e1] at e3; cases e3
  ·obtain ⟨h1,h2⟩:=hi id B hB
   exact (hsr0.hr.blk id B h2).mapV (by simp only [muI]; rw [if_pos h1]) fun hv=>hv.split ids
 have hrO:HR w O1 (muO ids μ0) h' st.n:=by
  refine ⟨hsr0.hr.olt,fun id b k e=>hsr0.hr.scope id b k (kaE e).2,fun id id' b k k' e e'=>hsr0.hr.inj id id' b k k' (kaE e).2 (kaE e').2,fun id b k e=>hsr0.hr.notO id b k (kaE e).2,fun id B hB=>?_⟩
  obtain ⟨h1,h2⟩:=ho id B hB
  exact (hsr0.hr.blk id B h2).mapV (by simp only [muO]; rw [if_neg (by rw [h1]; decide)]) fun hv=>hv.out ids
 have he0:Evo w μ0 st.n w (muO ids μ0) st.n:=⟨rfl,rfl,rfl,jah _,jah _,fun _ _ _=>rfl,fun b c T f hb=>⟨c,hb,rfl⟩,fun i _=>by unfold muO; split <;> simp,fun i b k e hn=>absurd (hsr0.hr.scope i b k (kaE e).2).1 (by omega)⟩
 have hsr:SR N D O1 (muO ids μ0) ⟨st.env,h',st.n⟩ a w:=⟨hrO,hsr0.size,hsr0.defers.evo he0,fun s=>(hsr0.env s).out ids,hsr0.gs,hsr0.gi.evo he0 fun _=>.inl rfl⟩
 have hv:=hsr0.ev g
 have hro:=hro0.evo he0.d
 refine wpIn_mono (Q:=Post N D O1 Q (muO ids μ0) w st.n) ?_ fun e a w q=>Post.from q he0.d
 obtain ⟨μ,hμ⟩:∃ μ,μ=muO ids μ0:=⟨_,rfl⟩
 rw [<-hμ] at hrI hrO hsr hro ⊢
 obtain ⟨⟨fn0,hf0,hb0,hn0⟩,hcall⟩:=hit
 rw [hg] at hv
 generalize hu:a.eval g=u at hv
 cases hv with
 | fn _ _ vs us hsz hc hr'=>
 refine wpIn_rangeFunc ?_
 intro fn _
 obtain ⟨dfs,ms,l,rec,W1,hrec,hent,j1,hms⟩:∃ (dfs:Nat) (ms:List Nat) (l:Nat) (rec:LoopState->Option Code->Loop) (W1:World),(rec=fun sta pe=>{ state:=sta,pending:=pe,fn,tmps:=a.tmps,params:=ps,assign,body,defers:=dfs })/\
   (Instr.enterLoop fn a.tmps ps assign body (FF ro).round).run P w = .ok (l,ms.map (fun b=>({ target:=.collected b,args:=#[] }:Deferred))) W1/\LJ O1 w μ st.n l ms rec .ready none h' st.n μ W1/\ms.Nodup:=by
  cases ro with
  | none=>
   have e1:=Evo.alloc_new hsr.hr (.deferred (some []))
   have e2:=Evo.alloc_new e1.2 (.loop { state:=.ready,pending:=none,fn,tmps:=a.tmps,params:=ps,assign,body,defers:=w.heap.size })
   refine ⟨w.heap.size,[w.heap.size],w.heap.size+1,_,_,rfl,run_enterLoop_outer _ _ _ _ _,⟨e2.2,e1.1.trans e2.1,by omega,?_,fun id k e=>?_,fun d hd=>?_⟩,by simp⟩
   ·have:=World.alloc_heap_new (w.alloc (.deferred (some []))) (.loop { state:=.ready,pending:=none,fn,tmps:=a.tmps,params:=ps,assign,body,defers:=w.heap.size })
    rwa [World.size_alloc] at this
   ·have:=(hsr.hr.scope id _ k e).2; omega
   ·simp only [jdw] at hd
    subst hd
    exact ⟨jah _,by omega,(Below.heap_alloc _ _ _ (by simp)).trans (World.alloc_heap_new w _),fun id k e=>by have:=(hsr.hr.scope id _ k e).2; omega⟩
  | some l0=>
   obtain ⟨_,⟨r0,hr0⟩,_⟩:=hro
   have e1:=Evo.alloc_new hsr.hr (.loop { state:=.ready,pending:=none,fn,tmps:=a.tmps,params:=ps,assign,body,defers:=r0.defers })
   exact ⟨r0.defers,[],w.heap.size,_,_,rfl,kmH hr0,⟨e1.2,e1.1,jah _,World.alloc_heap_new w _,fun id k e=>(by have:=(hsr.hr.scope id _ k e).2; omega),fun d hd=>(by cases hd)⟩,List.nodup_nil⟩
 have hsize:=hsr.size
 refine ⟨l,_,W1,{ target:=.fn (.func gf) vs,args:=#[.func (.yield l) #[] #[]] },W1,gf,#[.func (.yield l) #[] #[]]++vs,W1,hent,?_,fun _ _=>trivial,?_,(fun e=>by cases e),?_⟩
 ·simp only [resolve,hu]
  simp [go_sem,Deferred.ofValue]
 ·have hb:fn0.body≠none:=by intro hfb; rw [hfb] at hb0; cases hb0
  have hnm:fn0.name≠ "runtime.NumGoroutine":=by intro hnn; rw [hnn] at hn0; simp at hn0
  simp [invoke,callFunc,hf0,hnm,hb]
 ·let G:IterG:=⟨l,xs,fun k Oi W=>(∀ b,Oi b->b<W.heap.size)/\∃ h n μ',I k h n/\LJ O1 w μ st.n l ms rec .ready none h n μ' W/\(∀ b id k,μ' id=some (b,k)->Oi b)/\Oi l/\∀ b,O1 b->Oi b,
   fun W=>∃ c h n μ',jumpQ Q st.env c h n/\LJ O1 w μ st.n l ms rec .done (some c) h n μ' W⟩
  have hlt1:∀ {W:World} {k:Nat} {Oi:Nat->Prop},G.J k Oi W->∀ b,Oi b->b<W.heap.size:=fun hj=>hj.1
  have ok:IterOk P G:=by
   refine ⟨fun k Oi W W' hj hb=>?_,fun W W' hj hb=>?_,fun k Oi W vs2 x hj hO hx hxs hxv=>?_⟩
   ·obtain ⟨q1,h,n,μ',q2,q3,q4,q5⟩:=hj
    exact ⟨fun b hb'=>jan (q1 b hb') hb.size,h,n,μ',q2,q3.below hb,q4,q5⟩
   ·obtain ⟨c,h,n,μ',q1,q2⟩:=hj
    exact ⟨c,h,n,μ',q1,q2.below hb⟩
   ·obtain ⟨_,h,n,μ',q2,q3,q4,q5,q6⟩:=hj
    have hxl:x.length=ps.size:=hps x (jag hx)
    have hy:=run_yield (P:=P) (args:=vs2) q3.hl (by rw [hrec]; simp only; omega)
    rw [hrec] at hy
    refine ⟨fn,_,assign,body,hy,roundIn_of_wpIn trivial ?_⟩
    have hsr1:SR N D O1 μ' ⟨kjZ ps.toList x st.env,h,n⟩ { tmps:=(ps.zip vs2).foldl (fun tmps (t,a)=>tmps.setIfInBounds t a) a.tmps,defers:=[] } W:=by
     have hfold:(ps.zip vs2).foldl (fun tmps (t,a)=>tmps.setIfInBounds t a) a.tmps=(ps.toList.zip vs2.toList).foldl (fun t (p:Tmp×Value)=>t.setIfInBounds p.1 p.2) a.tmps:=by
      rw [<-Array.foldl_toList,Array.toList_zip]
     refine ⟨q3.hr,by rw [hfold,kwp]; exact hsize,.nil _ _ _ (jcy hsr.defers.2.1 q3.evo.size),fun s=>?_,fun e=>(by rw [hD] at e; cases e),by unfold GInv; rw [hD]; trivial⟩
     show VR W O1 μ' n _ (Array.getD ((ps.zip vs2).foldl (fun tmps (t,a)=>tmps.setIfInBounds t a) a.tmps) s undef)
     rw [hfold]
     refine kwS W O1 μ' n (by simpa using hxl) (by simp; omega) (fun s=>(hsr.env s).evo q3.evo) (fun p hp=>by rw [hsize]; exact hpn p hp) (fun j c hj=>?_) s
     obtain ⟨u,hu1,hu2⟩:=hxv j c hj
     refine ⟨u,by simpa using hu1,hu2.lift fun b hb=>?_⟩
     rcases hb with hb | ⟨id,k',hb⟩
     ·exact q6 b hb
     ·exact q4 b id k' hb
    have hro1:RO D (some l) W μ':=⟨hD,⟨_,q3.hl⟩,q3.ul⟩
    refine wpIn_mono (round k x h n hx q2 O1 (fun _=>rfl) (some l) μ' _ W hro1 hsr1) ?_
    rintro e a1 w1 ⟨s1,μ1,O',o',hq1,hs1,he1⟩
    obtain rfl:=o' hD
    have ev1:=he1 hD
    cases e with
    | normal=>
     have j2:=q3.evo2 ev1 hs1.hr
     have j3:=j2.put (sta2:=.busy) (pe2:=none)
     refine ⟨_,run_beginRound j2.hl (by rw [hrec]),?_⟩
     have hw2:(w1.putObj l (.loop { rec .ready none with state:=.busy }))=w1.putObj l (.loop (rec .busy none)):=by rw [hrec]
     rw [hw2]
     have hs2:SR N D O' μ1 s1 a1 (w1.putObj l (.loop (rec .busy none))):=by
      obtain ⟨m1,m2,bs,m3,m4,m5⟩:=hs1.defers
      refine ⟨j3.hr,hs1.size,⟨m1,by rw [World.putObj_size]; exact m2,bs,m3,m4,fun b hb=>?_⟩,fun s=>(hs1.env s).putObj _ j2.hl (by simp),hs1.gs,by unfold GInv; rw [hD]; trivial⟩
      obtain ⟨r1,r2,r3⟩:=m5 b hb
      exact ⟨r1,(World.putObj_heap_other (by rintro rfl; rw [j2.hl] at r2; cases r2)).trans r2,r3⟩
     refine wpIn_mono (hq1 O' (fun _=>rfl) (some l) μ1 a1 _ ⟨hD,⟨_,j3.hl⟩,j3.ul⟩ hs2) ?_
     rintro e3 a3 w3 ⟨s3,μ3,O3,o3,hq3,hs3,he3⟩
     obtain rfl:=o3 hD
     have ev3:=he3 hD
     have j4:=j3.evo2 ev3 hs3.hr
     have szl:W.heap.size<=w1.heap.size:=ev1.size
     have hkeep:∀ b,b<W.heap.size->¬ Oi b->∀ o2,(w3.putObj l o2).heap[b]?=W.heap[b]?:=fun b hb hnb o2=>by
      have u1:∀ id k,μ' id≠some (b,k):=fun id k e=>hnb (q4 b id k e)
      have u2:=ev1.un hb u1
      rw [World.putObj_heap_other (by rintro rfl; exact hnb q5),ev3.keep b (by rw [World.putObj_size]; omega) u2,World.putObj_heap_other (by rintro rfl; exact hnb q5),ev1.keep b hb u1]
     have hos:∀ o2,KeepB Oi W (w3.putObj l o2):=fun o2=>⟨ev3.os.trans ev1.os,ev3.tape.trans ev1.tape,ev3.output.trans ev1.output,by rw [World.putObj_size]; have:=ev3.size; rw [World.putObj_size] at this; omega,fun b hb hnb=>hkeep b hb hnb o2⟩
     have hown:∀ b id k,μ3 id=some (b,k)->b<W.heap.size->Oi b:=fun b id k e hb=>by
      by_cases hc:∃ id k,μ' id=some (b,k)
      ·obtain ⟨id,k,hc⟩:=hc; exact q4 b id k hc
      ·exfalso
       have u1:∀ id k,μ' id≠some (b,k):=fun id k e=>hc ⟨id,k,e⟩
       exact ev3.un (by rw [World.putObj_size]; omega) (ev1.un hb u1) id k e
     have hsz3:W.heap.size<=w3.heap.size:=by have:=ev3.size; rw [World.putObj_size] at this; omega
     let O2:Nat->Prop:=fun b=>Oi b\/∃ id k,μ3 id=some (b,k)
     have fin:∀ (jump:Option Code),(Instr.endRound l jump).run P w3 = .ok (.bool jump.isNone) (w3.putObj l (.loop (rec (if jump.isNone then .ready else .done) jump))):=fun jump=>by
      have:=run_endRound (P:=P) jump j4.hl
      rw [this,hrec]
     have rp:∀ (jump:Option Code) (e:Ending),((e = .returned (.bool true)/\G.J (k+1) O2 (w3.putObj l (.loop (rec (if jump.isNone then .ready else .done) jump))))\/(e = .returned (.bool false)/\G.Jx (w3.putObj l (.loop (rec (if jump.isNone then .ready else .done) jump)))))->kvw G k Oi W e (w3.putObj l (.loop (rec (if jump.isNone then .ready else .done) jump))):=fun jump e he=>
      ⟨O2,fun b hb=>by
       rw [World.putObj_size]
       rcases hb with hb | ⟨id,k',hb⟩
       ·exact jan (hO b hb) hsz3
       ·exact (hs3.hr.scope id b k' hb).2,fun b hb hlt=>by
       rcases hb with hb | ⟨id,k',hb⟩
       ·exact hb
       ·exact hown b id k' hb hlt,hos _,he⟩
     cases e3 with
     | normal=>
      refine ⟨_,_,fin none,rp none _ (.inl ⟨rfl,fun b hb=>?_,s3.h,s3.n,μ3,hq3,j4.put,fun b id k e=>.inr ⟨id,k,e⟩,.inl q5,fun b hb=>.inl (q6 b hb)⟩)⟩
      rw [World.putObj_size]
      rcases hb with hb | ⟨id,k',hb⟩
      ·exact jan (hO b hb) hsz3
      ·exact (hs3.hr.scope id b k' hb).2
     | ret=>exact ⟨_,_,fin (some .ret),rp (some .ret) _ (.inr ⟨rfl,.ret,s3.h,s3.n,μ3,hq3,j4.put⟩)⟩
     | exit id=>exact ⟨_,_,fin (some (.exit id)),rp (some (.exit id)) _ (.inr ⟨rfl,.exit id,s3.h,s3.n,μ3,hq3,j4.put⟩)⟩
     | goto t=>exact hq3.elim
     | panic ch=>exact hq3.elim
     | outgrown=>exact hq3.elim
    | exit id=>exact hq1.elim
    | goto t=>exact hq1.elim
    | ret=>exact hq1.elim
    | panic ch=>exact hq1.elim
    | outgrown=>exact hq1.elim
  let O0:Nat->Prop:=fun b=>O1 b\/(∃ id k,μ id=some (b,k))\/b=l
  have hlsz:=(jak.1 j1.hl).1
  have hO0:∀ b,O0 b->b<W1.heap.size:=fun b hb=>by
   rcases hb with hb | ⟨id,k,hb⟩ | rfl
   ·exact jan (hsr.hr.olt b hb) j1.evo.size
   ·exact jan (hsr.hr.scope id b k hb).2 j1.evo.size
   ·exact hlsz
  refine (callsIn_FF.2 (callsIn_FF.1 (hcall O0 W1 vs G rfl ok hO0 (by rw [hsz,hs.len]) (fun j c hj=>?_) ⟨hO0,h',st.n,μ,h0,j1,fun b id k e=>.inr (.inl ⟨id,k,e⟩),.inr (.inr rfl),fun b hb=>.inl hb⟩))).mono ?_
  ·obtain ⟨b,hb⟩:=kag hs.len hj
   refine ⟨us j,hc j b hb,?_⟩
   have v2:VR w (Av O1 μ) mu0 0 c (us j):=(hs.at j b c hb hj).vr hrI (by have:=(hr' j b hb).split ids; rwa [<-hμ] at this)
   refine VR.round ⟨j1.evo.os,j1.evo.tape,j1.evo.output,j1.evo.size,fun b hb hn=>j1.evo.keep b hb fun id k e=>hn (.inr ⟨id,k,e⟩)⟩ (fun b hb hlt=>?_) v2
   rcases hb with hb | hb | rfl
   ·exact .inl hb
   ·exact .inr hb
   ·exact absurd hlt (by have:=j1.ll; omega)
  ·rintro e W2 ⟨⟨v,rfl⟩,hend⟩
   have fin:∀ sta pe h n μ',LJ O1 w μ st.n l ms rec sta pe h n μ' W2->(∀ c,pe=some c->jumpQ Q st.env c h n)->(pe=none->Q .normal ⟨st.env,h,n⟩)->sta≠.busy->rangePost (FF ro) 0 P l (Post N D O1 Q μ w st.n) { a with defers:=ms.map (fun b=>({ target:=.collected b,args:=#[] }:Deferred))++a.defers } (.returned v) W2:=fun sta pe h n μ' jj hq1 hq2 hst=>by
    have j5:=jj.put (sta2:=.exhausted) (pe2:=pe)
    refine ⟨pe,W2.putObj l (.loop (rec .exhausted pe)),?_,?_⟩
    ·have:=run_endLoop (P:=P) jj.hl (by rw [hrec]; exact hst)
     rw [this,hrec]
    ·have hsf:SR N D O1 μ' ⟨st.env,h,n⟩ { a with defers:=ms.map (fun b=>({ target:=.collected b,args:=#[] }:Deferred))++a.defers } (W2.putObj l (.loop (rec .exhausted pe))):=by
      obtain ⟨m1,m2,bs,m3,m4,m5⟩:=hsr.defers
      refine ⟨j5.hr,hsr.size,⟨fun e=>(by rw [hD] at e; cases e),jcy m2 j5.evo.size,ms++bs,?_,by simp [m4],fun b hb=>?_⟩,fun s=>(hsr.env s).evo j5.evo,hsr.gs,by unfold GInv; rw [hD]; trivial⟩
      ·refine List.nodup_append.2 ⟨hms,m3,fun x hx y hy e=>?_⟩
       subst e
       obtain ⟨r1,r2,r3⟩:=m5 x hy
       have:=(jak.1 r2).1
       have:=(j5.ms x hx).1
       omega
      ·rcases jaz.1 hb with hb | hb
       ·obtain ⟨r1,r2,r3,r4⟩:=j5.ms b hb
        exact ⟨jcy m2 r1,r3,r4⟩
       ·obtain ⟨r1,r2,r3⟩:=m5 b hb
        have hlt:=(jak.1 r2).1
        exact ⟨r1,(j5.evo.keep b hlt r3).trans r2,j5.evo.un hlt r3⟩
     cases pe with
     | none=>exact ⟨⟨st.env,h,n⟩,μ',O1,(fun _=>rfl),hq2 rfl,hsf,j5.evo.d⟩
     | some c=>
      have hc1:=hq1 c rfl
      unfold jumpQ at hc1
      cases c with
      | ret=>exact wpIn_ret ⟨⟨st.env,h,n⟩,μ',O1,(fun _=>rfl),hc1,hsf,j5.evo.d⟩
      | exit id=>exact wpIn_exit ⟨⟨st.env,h,n⟩,μ',O1,(fun _=>rfl),hc1,hsf,j5.evo.d⟩
      | _=>exact hc1.elim
   rcases hend with ⟨O',_,h,n,μ',q2,q3,_⟩ | ⟨c,h,n,μ',q1,q2⟩
   ·exact fin _ _ _ _ _ q3 (fun c e=>by cases e) (fun _=>done h n q2) (by simp)
   ·exact fin _ _ _ _ _ q2 (fun c' e=>by cases e; exact q1) (fun e=>by cases e) (by simp)
end
inductive Ty where
 | i (k:IntKind) | b | s | un | nt
 | pr (x y:Ty) | w (x:Ty) | sl (x:Ty) | pt (x:Ty) | op (x:Ty) | ar (n:Nat) (x:Ty) | sm (x y:Ty) | fn (n:Nat) (x y:Ty)
 deriving DecidableEq
structure Arr (n:Nat) (α:Type) where
 l:List α
 h:l.length=n
@[reducible] def Ty.den:Ty->Type
 | .i _=>Int
 | .b=>Bool
 | .s=>List UInt8
 | .un=>Unit
 | .nt=>Nat
 | .pr x y=>x.den×y.den
 | .w x=>x.den
 | .sl x=>List x.den
 | .pt x=>x.den
 | .op x=>Option x.den
 | .ar n x=>Arr n x.den
 | .sm x y=>x.den⊕y.den
 | .fn _ x y=>x.den->Option y.den
def Ty.wd:Ty->Nat
 | .i _ | .b | .s | .sl _ | .pt _ | .op _=>1
 | .pr x y=>x.wd+y.wd
 | .w x=>x.wd
 | .ar n x=>n*x.wd
 | _=>0
def Ty.agg:Ty->Bool
 | .pr _ _ | .w _ | .ar _ _ | .un=>true
 | _=>false
def Ty.dat:Ty->Bool
 | .i _ | .b | .s | .un=>true
 | .sl x | .pt x | .op x | .w x | .ar _ x=>x.dat
 | .pr x y=>x.dat&&y.dat
 | _=>false
def Ty.flat:Ty->Bool
 | .i _ | .b | .s | .un=>true
 | .w x=>x.flat
 | .pr x y=>x.flat&&y.flat
 | _=>false
def Ty.enc:(t:Ty)->t.den->List AV
 | .i k,x=>[.sc (.int k x)]
 | .b,x=>[.sc (.bool x)]
 | .s,x=>[str x]
 | .un,_=>[]
 | .pr t u,x=>t.enc x.1++u.enc x.2
 | .w a,x=>a.enc x
 | .sl a,l=>[.sl (l.map a.enc)]
 | .pt a,x=>[.fp (a.enc x)]
 | .op a,x=>[ptrE a.enc x]
 | .ar _ a,x=>(x.l.map a.enc).flatten
 | .nt,_=>[] | .sm _ _,_=>[] | .fn _ _ _,_=>[]
def Ty.av (t:Ty) (x:t.den):AV:=if t.agg then .ag (t.enc x) else (t.enc x).headD .un
def untup:Nat->Ty->List Ty
 | 0,_=>[]
 | 1,t=>[t]
 | n+2,.pr a b=>a::untup (n+1) b
 | _+2,t=>[t]
def tup:List Ty->Ty
 | []=>.un
 | [t]=>t
 | t::ts=>.pr t (tup ts)
inductive PV where
 | un | ud
 | c (t:Ty)
 | sc (v:Value)
 | ptr (id j:Nat)
 | mw (id:Nat) | mp (id:Nat) | fw (id:Nat)
 | fn (g:FuncId) (caps:List PV)
 | ag (vs:List PV)
 | gs (t:Ty)
inductive PB where
 | bx (T:TypeId) (vs:List PV)
 | el (T:TypeId) (t:Ty)
 | sl (T:TypeId) (t:Ty)
 | mp (k v:Ty)
 | fm (T:TypeId) (t:Ty) (j:Nat) (U:TypeId) (u:Ty)
 | si
def isE {α:Type} (l:List α):Bool:=l.isEmpty
def lbeq {α:Type} (f:α->α->Bool):List α->List α->Bool
 | [],[]=>true
 | x::l,y::r=>f x y&&lbeq f l r
 | _,_=>false
def teq:(t:Ty)->t.den->t.den->Bool
 | .i _,x,y=>decide (x=y)
 | .b,x,y=>x==y
 | .s,x,y=>decide (x=y)
 | .un,_,_=>true
 | .nt,x,y=>decide (x=y)
 | .pr a b,x,y=>teq a x.1 y.1&&teq b x.2 y.2
 | .w a,x,y=>teq a x y
 | .pt a,x,y=>teq a x y
 | .sl a,x,y=>lbeq (teq a) x y
 | .op a,x,y=>(match x,y with | none,none=>true | some x,some y=>teq a x y | _,_=>false)
 | .ar _ a,x,y=>lbeq (teq a) x.l y.l
 | .sm a b,x,y=>(match x,y with | .inl x,.inl y=>teq a x y | .inr x,.inr y=>teq b x y | _,_=>false)
 | .fn _ _ _,_,_=>false
def bthO (t:Ty) (a b:Option t.den):Option t.den:=
 match a,b with
 | some x,some y=>if teq t x y=true then some x else none
 | _,_=>none
theorem kra {α:Type} {f:α->α->Bool} (h:∀ x y,f x y=true->x=y):∀ l r:List α,lbeq f l r=true->l=r
 | [],[],_=>rfl
 | x::l,y::r,e=>by
  simp only [lbeq,jac] at e
  rw [h x y e.1,kra h l r e.2]
 | [],_::_,e=>by simp [lbeq] at e
 | _::_,[],e=>by simp [lbeq] at e
theorem kgk:∀ (t:Ty) (x y:t.den),teq t x y=true->x=y
 | .i _,x,y,h=>by simpa [teq] using h
 | .b,x,y,h=>by simpa [teq] using h
 | .s,x,y,h=>by simpa [teq] using h
 | .un,_,_,_=>rfl
 | .nt,x,y,h=>by simpa [teq] using h
 | .pr a b,(x1,x2),(y1,y2),h=>by
  simp only [teq,jac] at h
  rw [kgk a _ _ h.1,kgk b _ _ h.2]
 | .w a,x,y,h=>kgk a x y h
 | .pt a,x,y,h=>kgk a x y h
 | .sl a,x,y,h=>kra (kgk a) x y h
 | .op a,none,none,_=>rfl
 | .op a,some x,some y,h=>by rw [kgk a x y h]
 | .op a,some _,none,h=>by simp [teq] at h
 | .op a,none,some _,h=>by simp [teq] at h
 | .ar _ a,⟨x,hx⟩,⟨y,hy⟩,h=>by have:=kra (kgk a) x y h; subst this; rfl
 | .sm a b,.inl x,.inl y,h=>by rw [kgk a x y h]
 | .sm a b,.inr x,.inr y,h=>by rw [kgk b x y h]
 | .sm a b,.inl _,.inr _,h=>by simp [teq] at h
 | .sm a b,.inr _,.inl _,h=>by simp [teq] at h
 | .fn _ _ _,_,_,h=>by simp [teq] at h
theorem ksa {t:Ty} {a b:Option t.den} {r:t.den} (h:bthO t a b=some r):a=some r/\b=some r:=by
 unfold bthO at h
 split at h
 ·split at h
  ·rename_i x y e
   cases h
   exact ⟨rfl,by rw [kgk _ _ _ e]⟩
  ·cases h
 ·cases h
structure Alg where
 D:Ty->Type
 Ans:Ty->Type
 k0:{x:Ty}->String->x.den->D x
 k1:{x y:Ty}->String->(x.den->y.den)->D x->D y
 k2:{x y z:Ty}->String->(x.den->y.den->z.den)->D x->D y->D z
 k3:{x y z u:Ty}->String->(x.den->y.den->z.den->u.den)->D x->D y->D z->D u
 ret:{t:Ty}->D t->Ans t
 fail:{t:Ty}->String->Ans t
 ask:{t:Ty}->Nat->List (Nat×PV)->List (Nat×PB)->Ans t
 note:{t:Ty}->String->Ans t->Ans t
 ite:{t:Ty}->D .b->Ans t->Ans t->Ans t
 p1:{x y t:Ty}->String->(x.den->Option y.den)->D x->(D y->Ans t)->Ans t
 p2:{x y z t:Ty}->String->(x.den->y.den->Option z.den)->D x->D y->(D z->Ans t)->Ans t
 p3:{x y z u t:Ty}->String->(x.den->y.den->z.den->Option u.den)->D x->D y->D z->(D u->Ans t)->Ans t
 jn:{x t:Ty}->Ans x->(D x->Ans t)->Ans t
 lp:{x y t:Ty}->D x->(D x->Ans (.sm x y))->(D y->Ans t)->Ans t
 cs:{x y t:Ty}->D (.sm x y)->(D x->Ans t)->(D y->Ans t)->Ans t
 chk:{t u:Ty}->Ans u->Ans t->Ans t
 stop:{t:Ty}->Ans t
 bth:{t:Ty}->Ans t->Ans t->Ans t
 els:{t:Ty}->Ans t->Ans t->Ans t
 lam:{n:Nat}->{x y:Ty}->(D x->Ans y)->D (.fn n x y)
def itN {α β:Type} (F:α->Option (α⊕β)):Nat->α->Option β
 | 0,_=>none
 | n+1,x=>match F x with
  | none=>none
  | some (.inl y)=>itN F n y
  | some (.inr z)=>some z
def iter {α β:Type} (F:α->Option (α⊕β)) (x:α):Option β:=itN F 18446744073709551616 x
def elsO {α:Type} (a b:Option α):Option α:=match a with | some x=>some x | none=>b
theorem kxh {α:Type} {a b:Option α} {r:α} (h:elsO a b=some r):a=some r\/b=some r:=by
 cases a with
 | none=>exact .inr h
 | some x=>exact .inl h
@[reducible] def sem:Alg where
 D:=Ty.den
 Ans t:=Option t.den
 k0 _ v:=v
 k1 _ f a:=f a
 k2 _ f a b:=f a b
 k3 _ f a b c:=f a b c
 ret v:=some v
 fail _:=none
 ask _ _ _:=none
 note _ a:=a
 ite c a b:=if c=true then a else b
 p1 _ f a k:=(f a).bind k
 p2 _ f a b k:=(f a b).bind k
 p3 _ f a b c k:=(f a b c).bind k
 jn a k:=a.bind k
 lp x F k:=(iter F x).bind k
 cs s f g:=match s with | .inl a=>f a | .inr b=>g b
 chk b a:=b.bind fun _=>a
 stop:=none
 bth a b:=bthO _ a b
 els a b:=elsO a b
 lam f:=f
inductive TV (A:Alg) where
 | un | ud
 | c (t:Ty) (x:A.D t)
 | kb (b:Bool)
 | sc (v:Value)
 | ptr (id j:Nat)
 | adr (id:Nat) (i:A.D (.i .i64)) (j:Nat)
 | aa (id:Nat) (i:A.D (.i .i64))
 | fq (t:Ty) (x:A.D t) (off:Nat)
 | mw (id:Nat)
 | ms (id:Nat) (off len:A.D (.i .i64))
 | mp (id:Nat)
 | fw (id:Nat)
 | fr (id:Nat) (i:A.D (.i .i64))
 | fo (id:Nat) (i:A.D (.i .i64)) (j:Nat)
 | fa (id:Nat) (i k:A.D (.i .i64)) (o:Nat)
 | fn (g:FuncId) (caps:List (TV A))
 | cv (m:Nat) (x y:Ty) (F:A.D (.fn m x y))
 | tp (vs:List (TV A))
 | ag (vs:List (TV A))
 | gs (t:Ty) (l:A.D (.sl t))
 | yl (id:Nat)
 | kp (id:Nat)
inductive TB (A:Alg) where
 | bx (T:TypeId) (vs:List (TV A))
 | el (T:TypeId) (t:Ty) (x:A.D t)
 | sl (T:TypeId) (t:Ty) (l:A.D (.sl t))
 | mp (k v:Ty) (l:A.D (.sl (.pr k v)))
 | fm (T:TypeId) (t:Ty) (j:Nat) (U:TypeId) (u:Ty) (l:A.D (.sl t)) (ho:Option (A.D (.i .i64)))
 | si (x:A.D (.pr .s (.i .i64)))
structure Cx (A:Alg) where
 e0:List (Nat×TV A)
 g:List (Nat×TB A)
structure TS (A:Alg) where
 env:List (Nat×TV A)
 hp:List (Nat×Option (TB A))
 n:Nat
 dy:Bool
def alk {α:Type}:List (Nat×α)->Nat->Option α
 | [],_=>none
 | (k,v)::l,x=>if x=k then some v else alk l x
def tlk {A:Alg} (c:Cx A) (s:TS A) (x:Nat):TV A:=
 match alk s.env x with
 | some v=>v
 | none=>(alk c.e0 x).getD .un
def thp {A:Alg} (c:Cx A) (s:TS A) (id:Nat):Option (TB A):=
 match alk s.hp id with
 | some b=>b
 | none=>alk c.g id
structure Pat where
 env:List (Nat×PV)
 hp:List (Nat×PB)
mutual
def PV.tys:PV->List Ty
 | .c t=>[t]
 | .gs t=>[.sl t]
 | .fn _ caps=>PV.tysL caps
 | .ag vs=>PV.tysL vs
 | _=>[]
def PV.tysL:List PV->List Ty
 | []=>[]
 | v::vs=>v.tys++PV.tysL vs
end
def PB.tys:PB->List Ty
 | .bx _ vs=>PV.tysL vs
 | .el _ t=>[t]
 | .sl _ t=>[.sl t]
 | .mp k v=>[.sl (.pr k v)]
 | .fm _ t _ _ _=>[.sl t]
 | .si=>[.pr .s (.i .i64)]
def Pat.tys (p:Pat):List Ty:=(p.env.map fun x=>x.2.tys).flatten++(p.hp.map fun x=>x.2.tys).flatten
def Pat.ty (p:Pat):Ty:=tup p.tys
def stTy:List Ty->Ty
 | []=>.un
 | [t]=>.w t
 | ts=>tup ts
def tyF (P:Program):Nat->TypeId->Option Ty
 | 0,_=>none
 | d+1,T=>match P.underlying T with
  | some .bool=>some .b
  | some (.int k)=>some (.i k)
  | some .string=>some .s
  | some (.slice e)=>(tyF P d e).map .sl
  | some (.pointer e)=>(tyF P d e).map .op
  | some (.array n e)=>(tyF P d e).map (.ar n)
  | some (.struct fs)=>(fs.toList.mapM fun f=>tyF P d f.type).map stTy
  | _=>none
def tyOf (P:Program) (T:TypeId):Option Ty:=tyF P 9 T
def kiC (P:Program) (T:TypeId):Bool:=match P.underlying T with | some .string=>true | _=>false
def knV (P:Program) (T:TypeId):Bool:=match P.underlying T with | some .bool=>true | _=>false
def kux (P:Program) (T:TypeId):Bool:=match P.underlying T with | some (.map _ _)=>true | _=>false
def ktn (P:Program) (T:TypeId):Bool:=match elemO P T with | some e=>(match P.underlying e with | some (.int .u8)=>true | _=>false) | none=>false
theorem kxb {P:Program} {T:TypeId} (h:ktn P T=true):∃ e,elemO P T=some e/\P.underlying e=some (.int .u8):=by
 unfold ktn at h; split at h
 ·rename_i e he
  split at h
  ·exact ⟨e,he,by assumption⟩
  ·cases h
 ·cases h
theorem kgZ {P:Program} {T:TypeId} (h:kiC P T=true):P.underlying T=some .string:=by
 unfold kiC at h; split at h
 ·assumption
 ·cases h
theorem kqo {P:Program} {T:TypeId} (h:knV P T=true):P.underlying T=some .bool:=by
 unfold knV at h; split at h
 ·assumption
 ·cases h
theorem kxg {P:Program} {T:TypeId} (h:kux P T=true):∃ k v,P.underlying T=some (.map k v):=by
 unfold kux at h; split at h
 ·exact ⟨_,_,by assumption⟩
 ·cases h
def khY (P:Program):Nat->TypeId->Option (List TypeId)
 | 0,_=>none
 | d+1,T=>match P.underlying T with
  | some (.struct fs)=>(fs.toList.mapM fun f=>khY P d f.type).map List.flatten
  | some (.array n e)=>(khY P d e).map fun l=>(List.replicate n l).flatten
  | some _=>some [T]
  | none=>none
def eqOkL (P:Program) (rec_:TypeId->Ty->Bool):List Field->Nat->Ty->Bool
 | [],_,t=>decide (t = .un)
 | [f],o,t=>f.name != "_"&&decide (f.offset=o)&&decide (P.cellsOf f.type=t.wd)&&decide (aggO P f.type=some t.agg)&&rec_ f.type t
 | f::g::fs,o,t=>match t with
  | .pr u v=>f.name != "_"&&decide (f.offset=o)&&decide (P.cellsOf f.type=u.wd)&&decide (aggO P f.type=some u.agg)&&rec_ f.type u&&eqOkL P rec_ (g::fs) (o+u.wd) v
  | _=>false
def eqOkT (P:Program):Nat->TypeId->Ty->Bool
 | 0,_,_=>false
 | d+1,T,t=>match P.underlying T with
  | some .bool=>decide (t = .b)
  | some (.int k)=>decide (t = .i k)
  | some .string=>decide (t = .s)
  | some (.struct fs)=>!P.stoodInHeld T&&match fs.toList,t with
   | [f],.w u=>eqOkL P (eqOkT P d) [f] 0 u
   | [_],_=>false
   | fs,t=>eqOkL P (eqOkT P d) fs 0 t
  | _=>false
def kn:IntKind->String
 | .i64=> ".i64" | .i32=> ".i32" | .i16=> ".i16" | .i8=> ".i8" | .u64=> ".u64" | .u32=> ".u32" | .u16=> ".u16" | .u8=> ".u8"
def wk (k:IntKind) (x:Int):Int:=match k with | .i64=>w64 x | k=>k.wrap x
def wn (k:IntKind):String:=match k with | .i64=> "w64" | k=> "IntKind.wrap "++kn k
def lenI {α:Type} (l:List α):Int:=l.length
def iop (op:BinOp) (k:IntKind):Option (String×(Int->Int->Int)):=
 match op with
 | .add=>some (""++wn k++ "",fun a b=>wk k (a+b))
 | .sub=>some (""++wn k++ "",fun a b=>wk k (a-b))
 | .mul=>some (""++wn k++ "",fun a b=>wk k (a*b))
 | .and=>some (""++kn k++ "",fun a b=>bitsI .and k a b)
 | .or=>some (""++kn k++ "",fun a b=>bitsI .or k a b)
 | .xor=>some (""++kn k++ "",fun a b=>bitsI .xor k a b)
 | .andNot=>some (""++kn k++ "",fun a b=>bitsI .andNot k a b)
 | _=>none
def icmp (op:BinOp):Option (String×(Int->Int->Bool)):=
 match op with
 | .eql=>some ("",fun a b=>a==b)
 | .neq=>some ("",fun a b=>a != b)
 | .lss=>some ("",fun a b=>decide (a<b))
 | .leq=>some ("",fun a b=>decide (a<=b))
 | .gtr=>some ("",fun a b=>decide (b<a))
 | .geq=>some ("",fun a b=>decide (b<=a))
 | _=>none
def gquo (k:IntKind) (a b:Int):Option Int:=if b=0 then none else some (wk k (a.tdiv b))
def grem (a b:Int):Option Int:=if b=0 then none else some (a.tmod b)
def gshl (k:IntKind) (a b:Int):Option Int:=if 0<=b then some (wk k (a*2 ^ (min b.toNat k.bits))) else none
def gshr (k:IntKind) (a b:Int):Option Int:=if 0<=b then some (a.fdiv (2 ^ (min b.toNat k.bits))) else none
def ipop (op:BinOp) (k:IntKind):Option (String×(Int->Int->Option Int)):=
 match op with
 | .quo=>some (""++kn k++ "",gquo k)
 | .rem=>some ("",grem)
 | .shl=>some (""++kn k++ "",gshl k)
 | .shr=>some (""++kn k++ "",gshr k)
 | _=>none
def scmp (op:BinOp):Option (String×(List UInt8->List UInt8->Bool)):=
 match op with
 | .eql=>some ("",fun a b=>a==b)
 | .neq=>some ("",fun a b=>!(a==b))
 | .lss=>some ("",fun a b=>Op.bytesLess a b)
 | .leq=>some ("",fun a b=>Op.bytesLess a b||a==b)
 | .gtr=>some ("",fun a b=>!(Op.bytesLess a b||a==b))
 | .geq=>some ("",fun a b=>!(Op.bytesLess a b))
 | _=>none
def lset {α:Type} (l:List α) (i:Int) (x:α):List α:=l.set i.toNat x
def gmi (o n i:Int):Option Int:=if 0<=i/\i<n then some (o+i) else none
def gmb (n a b:Int):Option Unit:=if 0<=a/\a<=b/\b<=n then some () else none
def lcopy {α:Type} (l:List α) (o n:Int) (xs:List α):List α:=l.take o.toNat++xs.take (min xs.length n.toNat)++l.drop (o.toNat+min xs.length n.toNat)
def kyT {α:Type} (l:List α) (p:Int×Int) (xs:List α):List α:=lcopy l p.1 p.2 xs
def gstr (l:List UInt8) (i:Int):Option Int:=(gi l i).map fun b=>(b.toNat:Int)
def garr {n:Nat} {α:Type} (a:Arr n α) (i:Int):Option α:=gi a.l i
def aset {n:Nat} {α:Type} (a:Arr n α) (i:Int) (x:α):Arr n α:=⟨a.l.set i.toNat x,by rw [jcd]; exact a.h⟩
def amk (n:Nat) {α:Type} (x:α):Arr n α:=⟨List.replicate n x,jcr⟩
def gcat (a b:List UInt8):Option (List UInt8):=if a.length+b.length<=9223372036854775807 then some (a++b) else none
def kbS:Value->Bool
 | .slice none 0 0=>true
 | _=>false
def klj:Value->Bool
 | .pointer none=>true
 | _=>false
theorem kaK {v:Value} (h:kbS v=true):v = .slice none 0 0:=by
 unfold kbS at h; split at h
 ·rfl
 ·cases h
theorem kkt {v:Value} (h:klj v=true):v = .pointer none:=by
 unfold klj at h; split at h
 ·rfl
 ·cases h
section
variable (A:Alg)
def toI (n:Int) (k:IntKind):A.D (.i k):=A.k0 (if n<0 then "" else "") n
def toB (b:Bool):A.D .b:=A.k0 (toString b) b
def toS (l:List UInt8):A.D .s:=A.k0 (""++ "".intercalate (l.map toString)++ "") l
def tcast {A:Alg} {t':Ty} (t:Ty) (x:A.D t'):Option (A.D t):=if h:t'=t then some (h ▸ x) else none
def mkT:(ts:List Ty)->List ((t:Ty)×A.D t)->Option (A.D (tup ts))
 | [],[]=>some (A.k0 (x:=.un) "" ())
 | [t],[v]=>tcast t v.2
 | t::u::ts,v::vs=>(tcast t v.2).bind fun x=>(mkT (u::ts) vs).map fun y=>A.k2 (x:=t) (y:=tup (u::ts)) (z:=.pr t (tup (u::ts))) "" Prod.mk x y
 | _,_=>none
def unT:(ts:List Ty)->A.D (tup ts)->List ((t:Ty)×A.D t)
 | [],_=>[]
 | [t],x=>[⟨t,x⟩]
 | t::u::ts,x=>⟨t,A.k1 (x:=.pr t (tup (u::ts))) (y:=t) "" Prod.fst x⟩::unT (u::ts) (A.k1 (x:=.pr t (tup (u::ts))) (y:=tup (u::ts)) "" Prod.snd x)
def ofVal:Value->TV A
 | .int k n=>.c (.i k) (toI A n k)
 | .bool b=>.kb b
 | .string s=>.c .s (toS A s.data.toList)
 | v=>.sc v
def ofCst:Value->TV A
 | .agg cs=>if cs.all (·.oneCell') then .ag (cs.toList.map (ofVal A)) else .un
 | .tuple _=>.un
 | v=>ofVal A v
variable {A}
variable (P:Program) (c:Cx A)
def tev (s:TS A):Operand->TV A
 | .tmp t=>tlk c s t
 | .const v=>ofCst A v
 | .global _=>.un
 | .func f=>.fn f []
def kjy:(t:Ty)->A.D t->List (TV A)
 | .pr a b,x=>kjy a (A.k1 (x:=.pr a b) (y:=a) "" Prod.fst x)++kjy b (A.k1 (x:=.pr a b) (y:=b) "" Prod.snd x)
 | .w a,x=>kjy a (A.k1 (x:=.w a) (y:=a) "" (fun v=>v) x)
 | .un,_=>[]
 | t,x=>[.c t x]
def Ty.noAr:Ty->Bool
 | .pr t u=>t.noAr&&u.noAr
 | .w a=>a.noAr
 | .ar _ _=>false
 | _=>true
def kaz:TV A->Option (List (TV A))
 | .c t x=>if t.noAr&&t.dat then some (kjy t x) else none
 | .ag vs=>some vs
 | .un | .ud | .tp _ | .gs _ _ | .yl _ | .kp _=>none
 | v=>some [v]
def snapL (s:TS A):(t:Ty)->List (TV A)->Option (A.D t×List (TV A)×List Nat)
 | .pr a b,vs=>(snapL s a vs).bind fun x=>(snapL s b x.2.1).map fun y=>(A.k2 (x:=a) (y:=b) (z:=.pr a b) "" Prod.mk x.1 y.1,y.2.1,x.2.2++y.2.2)
 | .w a,vs=>(snapL s a vs).map fun x=>(A.k1 (x:=a) (y:=.w a) "" (fun v=>v) x.1,x.2)
 | .un,vs=>some (A.k0 (x:=.un) "" (),vs,[])
 | .i k,.c t x::vs=>(tcast (.i k) x).map fun x=>(x,vs,[])
 | .b,.c t x::vs=>(tcast .b x).map fun x=>(x,vs,[])
 | .b,.kb x::vs=>some (toB A x,vs,[])
 | .s,.c t x::vs=>(tcast .s x).map fun x=>(x,vs,[])
 | .sl a,.c t x::vs=>(tcast (.sl a) x).map fun x=>(x,vs,[])
 | .sl a,.sc v::vs=>if kbS v then some (A.k0 (x:=.sl a) "" [],vs,[]) else none
 | .sl a,.mw id::vs=>match thp c s id with
  | some (.sl T t l)=>(tcast (.sl a) l).map fun x=>(x,vs,[id])
  | _=>none
 | .sl a,.ms id off len::vs=>match thp c s id with
  | some (.sl T t l)=>(tcast (.sl a) l).map fun x=>(A.k3 (x:=.sl a) (y:=.i .i64) (z:=.i .i64) (u:=.sl a) "" (fun l o n=>(l.drop o.toNat).take n.toNat) x off len,vs,[id])
  | _=>none
 | .sl a,.fw id::vs=>match thp c s id with
  | some (.fm T t j U u l none)=>(tcast (.sl a) l).map fun x=>(x,vs,[id])
  | _=>none
 | .op a,.c t x::vs=>match tcast (.op a) x with
  | some x=>some (x,vs,[])
  | none=>(tcast (.pt a) x).map fun x=>(A.k1 (x:=.pt a) (y:=.op a) "" some x,vs,[])
 | .op a,.sc v::vs=>if klj v then some (A.k0 (x:=.op a) "none" none,vs,[]) else none
 | .op a,.fq t x o::vs=>if o≠0 then none else (tcast a x).map fun x=>(A.k1 (x:=a) (y:=.op a) "" some x,vs,[])
 | .op a,.ptr id j::vs=>if j≠0 then none else match thp c s id with
  | some (.bx T us)=>match snapL s a us with
   | some (x,[],ids)=>some (A.k1 (x:=a) (y:=.op a) "" some x,vs,id::ids)
   | _=>none
  | some (.el T t x)=>(tcast a x).map fun x=>(A.k1 (x:=a) (y:=.op a) "" some x,vs,[id])
  | _=>none
 | .pt a,.c t x::vs=>(tcast (.pt a) x).map fun x=>(x,vs,[])
 | .pt a,.fq t x o::vs=>if o≠0 then none else (tcast a x).map fun x=>(A.k1 (x:=a) (y:=.pt a) "" (fun v=>v) x,vs,[])
 | .pt a,.ptr id j::vs=>if j≠0 then none else match thp c s id with
  | some (.bx T us)=>match snapL s a us with
   | some (x,[],ids)=>some (A.k1 (x:=a) (y:=.pt a) "" (fun v=>v) x,vs,id::ids)
   | _=>none
  | some (.el T t x)=>(tcast a x).map fun x=>(A.k1 (x:=a) (y:=.pt a) "" (fun v=>v) x,vs,[id])
  | _=>none
 | _,_=>none
def snapV (s:TS A) (t:Ty) (v:TV A):Option (A.D t×List Nat):=
 if t.dat=false then none else
 if t.agg then match v with
  | .c t' x=>(tcast t x).map fun x=>(x,[])
  | .ag vs=>match snapL c s t vs with
   | some (x,[],ids)=>some (x,ids)
   | _=>none
  | _=>none
 else match snapL c s t [v] with
  | some (x,[],ids)=>some (x,ids)
  | _=>none
def retire (s:TS A) (ids:List Nat):Option (TS A):=
 if ids.all fun id=>match alk s.hp id with | some (some _)=>true | _=>false then some { s with hp:=ids.map (fun id=>(id,none))++s.hp,dy:=s.dy||!ids.isEmpty } else none
def comp:(t:Ty)->A.D t->Nat->Nat->Bool->Option ((t:Ty)×A.D t)
 | .pr a b,x,o,m,ag=>if o=0/\m=a.wd+b.wd/\ag=true then some ⟨.pr a b,x⟩ else
   if o+m<=a.wd then comp a (A.k1 (x:=.pr a b) (y:=a) "" Prod.fst x) o m ag else if a.wd<=o then comp b (A.k1 (x:=.pr a b) (y:=b) "" Prod.snd x) (o-a.wd) m ag else none
 | .w a,x,o,m,ag=>if o=0/\m=a.wd/\ag=true then some ⟨.w a,x⟩ else comp a (A.k1 (x:=.w a) (y:=a) "" (fun v=>v) x) o m ag
 | t,x,o,m,ag=>if o=0/\m=t.wd/\ag=t.agg then some ⟨t,x⟩ else none
def setC (val:(t:Ty)->Option (A.D t)):(t:Ty)->A.D t->Nat->Nat->Bool->Option (A.D t)
 | .pr a b,x,o,m,ag=>if o=0/\m=a.wd+b.wd/\ag=true then val (.pr a b) else
   if o+m<=a.wd then (setC val a (A.k1 (x:=.pr a b) (y:=a) "" Prod.fst x) o m ag).map fun y=>A.k2 (x:=a) (y:=b) (z:=.pr a b) "" Prod.mk y (A.k1 (x:=.pr a b) (y:=b) "" Prod.snd x)
   else if a.wd<=o then (setC val b (A.k1 (x:=.pr a b) (y:=b) "" Prod.snd x) (o-a.wd) m ag).map fun y=>A.k2 (x:=a) (y:=b) (z:=.pr a b) "" Prod.mk (A.k1 (x:=.pr a b) (y:=a) "" Prod.fst x) y else none
 | .w a,x,o,m,ag=>if o=0/\m=a.wd/\ag=true then val (.w a) else (setC val a (A.k1 (x:=.w a) (y:=a) "" (fun v=>v) x) o m ag).map fun y=>A.k1 (x:=a) (y:=.w a) "" (fun v=>v) y
 | t,x,o,m,ag=>if o=0/\m=t.wd/\ag=t.agg then val t else none
structure CtrM where
 nm:String
 ks:List (Option Ty)
 inp:Pat
 n0:Nat
 out:Pat
 n1:Nat
 nr:Nat
 F:(tup (ks.filterMap id++inp.tys)).den->Option out.ty.den
 alt:Bool
structure CtrI where
 nm:String
 as:List Ty
 ts:List Ty
 F:(tup as).den->Option (List (tup ts).den)
structure Ctr where
 nm:String
 as:List Ty
 rs:List Ty
 F:(tup as).den->Option (tup rs).den
 mus:List CtrM:=[]
 its:List CtrI:=[]
def mkClo (A:Alg) (C:Ctr) (n:Nat) (x y:Ty) (caps:List ((t:Ty)×A.D t)):Option (A.D (.fn n x y)):=
 if hx:x=tup (C.as.take n) then if hy:C.rs=[y] then if (C.as.take n).all Ty.dat then
  some (A.lam fun v=>match mkT A C.as (unT A (C.as.take n) (hx ▸ v)++caps) with
   | some a=>A.p1 (x:=tup C.as) (y:=y) C.nm (fun v=>((hy ▸ C.F v:Option (tup [y]).den):Option y.den)) a fun r=>A.ret r
   | none=>A.fail "mkClo")
 else none else none else none
def snapM (s:TS A):List Ty->List (TV A)->Option (List ((t:Ty)×A.D t)×List Nat)
 | [],[]=>some ([],[])
 | t::ts,v::vs=>(snapV c s t v).bind fun x=>(snapM s ts vs).map fun y=>(⟨t,x.1⟩::y.1,x.2++y.2)
 | _,_=>none
def snapA (Δ:List (FuncId×Ctr)) (s:TS A) (t:Ty) (v:TV A):Option (A.D t×List Nat):=
 match t with
 | .fn n x y=>match v with
  | .cv n' x' y' F=>(tcast (.fn n x y) F).map fun x=>(x,[])
  | .fn g caps=>(alk Δ g).bind fun C=>if C.as.length=n+caps.length then (snapM c s (C.as.drop n) caps).bind fun l=>(mkClo A C n x y l.1).map fun z=>(z,l.2) else none
  | _=>none
 | t=>snapV c s t v
def kda (Δ:List (FuncId×Ctr)) (s:TS A):List Ty->List (TV A)->Option (List ((t:Ty)×A.D t)×List Nat)
 | [],[]=>some ([],[])
 | t::ts,v::vs=>(snapA c Δ s t v).bind fun x=>(kda Δ s ts vs).map fun y=>(⟨t,x.1⟩::y.1,x.2++y.2)
 | _,_=>none
def getI:TV A->Option ((k:IntKind)×A.D (.i k))
 | .c (.i k) x=>some ⟨k,x⟩
 | _=>none
def keM:TV A->Option (A.D (.i .i64))
 | .c (.i .i64) x=>some x
 | _=>none
def getB:TV A->Option (A.D .b)
 | .c .b x=>some x
 | .kb b=>some (toB A b)
 | _=>none
def eqD:(t:Ty)->A.D t->A.D t->Option (A.D .b)
 | .i k,x,y=>some (A.k2 (x:=.i k) (y:=.i k) (z:=.b) "" (fun (a b:Int)=>a==b) x y)
 | .b,x,y=>some (A.k2 (x:=.b) (y:=.b) (z:=.b) "" (fun (a b:Bool)=>a==b) x y)
 | .s,x,y=>some (A.k2 (x:=.s) (y:=.s) (z:=.b) "" (fun (a b:List UInt8)=>a==b) x y)
 | .w a,x,y=>eqD a (A.k1 (x:=.w a) (y:=a) "" (fun v=>v) x) (A.k1 (x:=.w a) (y:=a) "" (fun v=>v) y)
 | .pr a b,x,y=>(eqD a (A.k1 (x:=.pr a b) (y:=a) "" Prod.fst x) (A.k1 (x:=.pr a b) (y:=a) "" Prod.fst y)).bind fun p=>
   (eqD b (A.k1 (x:=.pr a b) (y:=b) "" Prod.snd x) (A.k1 (x:=.pr a b) (y:=b) "" Prod.snd y)).map fun q=>A.k2 (x:=.b) (y:=.b) (z:=.b) "" (fun a b=>a&&b) p q
 | _,_,_=>none
def TB.isF:TB A->Bool
 | .fm _ _ _ _ _ _ _=>true
 | _=>false
def kdp:TB A->Bool
 | .mp _ _ _=>false
 | .si _=>false
 | _=>true
variable {ρ:Ty}
def tvR (rs:List Ty) (y:A.D (tup rs)):TV A:=
 match rs with
 | [t]=>.c t y
 | rs=>.tp ((unT A rs y).map fun x=>.c x.1 x.2)
def newSl (s:TS A) (T:TypeId) (t:Ty) (l:A.D (.sl t)) (K:TV A->TS A->A.Ans ρ):A.Ans ρ:=
 K (.mw s.n) { s with hp:=(s.n,some (.sl T t l))::s.hp,n:=s.n+1 }
def nilV (s:TS A) (T:TypeId) (K:TV A->TS A->A.Ans ρ):A.Ans ρ:=
 match elemO P T with
 | some e=>match tyOf P e with
  | some t=>newSl s e t (A.k0 (x:=.sl t) "" []) K
  | none=>K (.sc (.slice none 0 0)) s
 | none=>K (.sc (.slice none 0 0)) s
def moveX (s:TS A) (T:TypeId) (v:TV A) (K:TV A->TS A->A.Ans ρ):A.Ans ρ:=
 match v with
 | .sc u=>if kbS u then nilV P s T K else K (.sc u) s
 | v=>K v s
def zeroC (s:TS A):List AV->List TypeId->List (TV A)×TS A
 | .sc v::vs,T::Ts=>if kbS v then match elemO P T with
   | some e=>match tyOf P e with
    | some t=>let r:=zeroC { s with hp:=(s.n,some (.sl e t (A.k0 (x:=.sl t) "" [])))::s.hp,n:=s.n+1 } vs Ts; (.mw s.n::r.1,r.2)
    | none=>let r:=zeroC s vs Ts; (ofVal A v::r.1,r.2)
   | none=>let r:=zeroC s vs Ts; (ofVal A v::r.1,r.2)
  else let r:=zeroC s vs Ts; (ofVal A v::r.1,r.2)
 | _,_=>([],s)
def repO {α:Type} (f:α->Option α):Nat->α->Option α
 | 0,x=>some x
 | n+1,x=>(f x).bind (repO f n)
def isZ:Ty->List AV->Option (List AV)
 | .i k,.sc (.int k' m)::r=>if k=k'/\m=0 then some r else none
 | .b,.sc (.bool b)::r=>if b then none else some r
 | .s,.sc (.string s)::r=>if s.data.toList.isEmpty then some r else none
 | .sl _,.sc v::r=>if kbS v then some r else none
 | .op _,.sc v::r=>if klj v then some r else none
 | .un,r=>some r
 | .w t,r=>isZ t r
 | .pr t u,r=>(isZ t r).bind (isZ u)
 | .ar n t,r=>if t.dat then repO (isZ t) n r else none
 | _,_=>none
def zeroD:(t:Ty)->Option (A.D t)
 | .i k=>some (toI A 0 k)
 | .b=>some (toB A false)
 | .s=>some (toS A [])
 | .un=>some (A.k0 (x:=.un) "" ())
 | .sl a=>some (A.k0 (x:=.sl a) "" [])
 | .op a=>some (A.k0 (x:=.op a) "none" none)
 | .w a=>(zeroD a).map fun x=>A.k1 (x:=a) (y:=.w a) "" (fun v=>v) x
 | .pr a b=>(zeroD a).bind fun x=>(zeroD b).map fun y=>A.k2 (x:=a) (y:=b) (z:=.pr a b) "" Prod.mk x y
 | .ar n a=>(zeroD a).map fun x=>A.k1 (x:=a) (y:=.ar n a) "" (fun v=>amk n v) x
 | _=>none
def newBx (s:TS A) (B:TB A) (K:TV A->TS A->A.Ans ρ):A.Ans ρ:=
 K (.ptr s.n 0) { s with hp:=(s.n,some B)::s.hp,n:=s.n+1 }
def ktC (s:TS A) (T:TypeId) (K:TV A->TS A->A.Ans ρ):A.Ans ρ:=
 match zeroO P T,khY P 9 T with
 | some z,some Ts=>if z.length=Ts.length then
   match tyOf P T with
   | some t=>if t.noAr then let r:=zeroC P s z Ts; newBx r.2 (.bx T r.1) K else match zeroD t with
    | some x=>if (isZ t z).any List.isEmpty then newBx s (.el T t x) K else A.fail "alloc zero"
    | none=>A.fail "alloc"
   | none=>let r:=zeroC P s z Ts; newBx r.2 (.bx T r.1) K
  else A.fail "alloc cells"
 | _,_=>A.fail "alloc type"
def boxX (s:TS A) (T:TypeId) (v:TV A) (K:TV A->TS A->A.Ans ρ):A.Ans ρ:=
 match v with
 | .c t x=>if t.noAr&&t.dat then newBx s (.bx T (kjy t x)) K else newBx s (.el T t x) K
 | v=>match kaz v with
  | some vs=>newBx s (.bx T vs) K
  | none=>A.fail "box"
def partX (t:Ty) (x:A.D t) (o m:Nat) (ag:Bool) (K:TV A->A.Ans ρ):A.Ans ρ:=
 match comp t x o m ag with
 | some y=>K (.c y.1 y.2)
 | none=>A.fail "part"
def loadX (s:TS A) (T:TypeId) (v:TV A) (K:TV A->TS A->A.Ans ρ):A.Ans ρ:=
 match aggO P T with
 | none=>A.fail "load type"
 | some ag=>
  let m:=P.cellsOf T
  match v with
  | .ptr id j=>match thp c s id with
   | some (.bx _ vs)=>if ag then (if j+m<=vs.length then K (.ag ((vs.drop j).take m)) s else A.fail "load") else match vs[j]? with
    | some v=>K v s
    | none=>A.fail "load"
   | some (.el _ t x)=>partX t x j m ag fun v=>K v s
   | _=>A.fail "load block"
  | .adr id i j=>match thp c s id with
   | some (.sl _ t l)=>A.p2 (x:=.sl t) (y:=.i .i64) (z:=t) "" (fun l i=>gi l i) l i fun y=>partX t y j m ag fun v=>K v s
   | _=>A.fail "load block"
  | .aa id i=>match thp c s id with
   | some (.el _ (.ar n t) x)=>if t.wd≠1 then A.fail "load array" else A.p2 (x:=.ar n t) (y:=.i .i64) (z:=t) "" (fun l i=>garr l i) x i fun y=>partX t y 0 m ag fun v=>K v s
   | _=>A.fail "load block"
  | .fq t x o=>partX t x o m ag fun v=>K v s
  | .c (.pt t) x=>partX t (A.k1 (x:=.pt t) (y:=t) "" (fun v=>v) x) 0 m ag fun v=>K v s
  | _=>A.fail "load address"
def ownB (s:TS A) (id:Nat):Option (TB A):=
 match alk s.hp id with
 | some b=>b
 | none=>none
def setB (s:TS A) (id:Nat) (B:TB A) (K:TV A->TS A->A.Ans ρ):A.Ans ρ:=
 K .ud { s with hp:=(id,some B)::s.hp }
def ksS (s:TS A) (T:TypeId) (p v:TV A) (K:TV A->TS A->A.Ans ρ):A.Ans ρ:=
 let m:=P.cellsOf T
 match aggO P T with
 | none=>A.fail "store type"
 | some ag=>
 if m=0 then A.fail "store nothing" else
 match p with
 | .ptr id j=>match ownB s id with
  | some (.bx T' vs)=>match kaz v with
   | some xs=>if xs.length=m/\j+m<=vs.length then setB s id (.bx T' (vs.take j++xs++vs.drop (j+m))) K else A.fail "store cells"
   | none=>A.fail "store value"
  | some (.el T' t x)=>match setC (fun t=>(snapV c s t v).bind fun y=>if y.2.isEmpty then some y.1 else none) t x j m ag with
   | some y=>setB s id (.el T' t y) K
   | none=>A.fail "store el"
  | _=>A.fail ""
 | .adr id i j=>match ownB s id with
  | some (.sl T' t l)=>
   if j=0/\m=t.wd/\ag=t.agg then
    match snapV c s t v with
    | some (y,ids)=>match retire s ids with
     | some s'=>if ids.contains id then A.fail "store own" else setB s' id (.sl T' t (A.k3 (x:=.sl t) (y:=.i .i64) (z:=t) (u:=.sl t) "" (fun l i y=>lset l i y) l i y)) K
     | none=>A.fail "store retire"
    | none=>A.fail "store elem"
   else A.p2 (x:=.sl t) (y:=.i .i64) (z:=t) "" (fun l i=>gi l i) l i fun y=>
    match setC (fun t=>(snapV c s t v).bind fun y=>if y.2.isEmpty then some y.1 else none) t y j m ag with
    | some y=>setB s id (.sl T' t (A.k3 (x:=.sl t) (y:=.i .i64) (z:=t) (u:=.sl t) "" (fun l i y=>lset l i y) l i y)) K
    | none=>A.fail "store part"
  | _=>A.fail ""
 | .aa id i=>match ownB s id with
  | some (.el T' (.ar n t) x)=>if t.wd≠1\/m≠1 then A.fail "store array" else match snapV c s t v with
   | some (y,[])=>setB s id (.el T' (.ar n t) (A.k3 (x:=.ar n t) (y:=.i .i64) (z:=t) (u:=.ar n t) "" (fun l i y=>aset l i y) x i y)) K
   | _=>A.fail "store array"
  | _=>A.fail ""
 | _=>A.fail "store address"
def nilX (s:TS A) (v:TV A) (K:TV A->TS A->A.Ans ρ):A.Ans ρ:=
 match v with
 | .ptr id j=>if (thp c s id).any kdp then K v s else A.fail "nilCheck block"
 | .fq _ _ _ | .c (.pt _) _ | .fn _ _ | .cv _ _ _ _=>K v s
 | .adr id i j=>if (thp c s id).any kdp then K v s else A.fail "nilCheck block"
 | .c (.op t) x=>A.p1 (x:=.op t) (y:=t) "" (fun v=>v) x fun y=>K (.fq t y 0) s
 | .sc _=>A.stop
 | _=>A.fail "nilCheck"
def binX (s:TS A) (op:BinOp) (T:TypeId) (x y:TV A) (K:TV A->TS A->A.Ans ρ):A.Ans ρ:=
 match x,y with
 | .c (.i k) a,.c (.i k') b=>
  match ipop op k with
  | some (nm,f)=>if op = .shl\/op = .shr\/k=k' then A.p2 (x:=.i k) (y:=.i k') (z:=.i k) nm f a b fun z=>K (.c (.i k) z) s else A.fail "bin kinds"
  | none=>if k=k' then match iop op k with
    | some (nm,f)=>K (.c (.i k) (A.k2 (x:=.i k) (y:=.i k') (z:=.i k) nm f a b)) s
    | none=>match icmp op with
     | some (nm,f)=>K (.c .b (A.k2 (x:=.i k) (y:=.i k') (z:=.b) nm f a b)) s
     | none=>A.fail "bin op"
   else A.fail "bin kinds"
 | .c .s a,.c .s b=>match scmp op with
  | some (nm,f)=>K (.c .b (A.k2 (x:=.s) (y:=.s) (z:=.b) nm f a b)) s
  | none=>match op with
   | .add=>A.p2 (x:=.s) (y:=.s) (z:=.s) "" gcat a b fun z=>K (.c .s z) s
   | _=>A.fail "bin string"
 | x,y=>match getB x,getB y with
  | some a,some b=>if knV P T then match op with
    | .eql=>K (.c .b (A.k2 (x:=.b) (y:=.b) (z:=.b) "" (fun (a b:Bool)=>a==b) a b)) s
    | .neq=>K (.c .b (A.k2 (x:=.b) (y:=.b) (z:=.b) "" (fun (a b:Bool)=>!(a==b)) a b)) s
    | _=>A.fail "bin bool"
   else A.fail "bin bool type"
  | _,_=>match tyOf P T with
   | some t=>if t.flat&&t.agg&&eqOkT P 9 T t&&!P.eqGuardType P.depth T&&decide (aggO P T=some true) then match snapV c s t x,snapV c s t y with
     | some (a,[]),some (b,[])=>match eqD t a b,op with
      | some e,.eql=>K (.c .b e) s
      | some e,.neq=>K (.c .b (A.k1 (x:=.b) (y:=.b) "" (fun a=>!a) e)) s
      | _,_=>A.fail "bin struct"
     | _,_=>A.fail "bin struct value"
    else A.fail "bin"
   | none=>A.fail "bin type"
def unX (s:TS A) (op:UnOp) (v:TV A) (K:TV A->TS A->A.Ans ρ):A.Ans ρ:=
 match op,v with
 | .not,.kb b=>K (.kb (!b)) s
 | .not,.c .b x=>K (.c .b (A.k1 (x:=.b) (y:=.b) "" (fun a=>!a) x)) s
 | .neg,.c (.i k) x=>K (.c (.i k) (A.k1 (x:=.i k) (y:=.i k) (""++wn k++ "") (fun a=>wk k (0-a)) x)) s
 | _,_=>A.fail "un"
def convX (s:TS A) (S T:TypeId) (v:TV A) (K:TV A->TS A->A.Ans ρ):A.Ans ρ:=
 match v,intO P T with
 | .c (.i k) x,some k'=>if (P.underlying S).isSome then K (.c (.i k') (A.k1 (x:=.i k) (y:=.i k') (""++wn k'++ "") (fun a=>wk k' a) x)) s else A.fail "conv"
 | .c (.sl (.i .u8)) x,none=>if !s.dy&&kiC P T&&ktn P S then K (.c .s (A.k1 (x:=.sl (.i .u8)) (y:=.s) "" kiM x)) s else A.fail "conv"
 | _,_=>A.fail "conv"
end
structure Pn where
 j:Nat
 o:Oper
 env:Env
 v:AV
 ok:AH->Prop
def Pn.fact (P:Program) (p:Pn):Prop:=∀ h1 n1 (K':K3),p.ok h1->K' p.v h1 n1->aop P p.env h1 n1 p.o K'
def stepT (P:Program) (W:Nat->Bool) (anc:Nat->List Nat) (o:Oper) (j:Nat) (env:Env) (h:AH) (n:Nat) (pd:List Pn) (next:St->List Pn->Prop):Prop:=
 if W j then aop P env h n o (fun v h' n'=>(∀ p∈pd,p.j∈anc j\/(p.ok h->p.ok h'))/\next ⟨putE env o.dst v,h',n'⟩ pd)
 else ∃ p:Pn,p.j=j/\p.o=o/\p.env=env/\p.ok h/\p.fact P/\next ⟨putE env o.dst p.v,h,n⟩ (p::pd)
def treeD (P:Program) (ds:List (Option Tmp)) (W:Nat->Bool) (anc:Nat->List Nat):List Oper->Nat->St->List Pn->(St->Prop)->Prop
 | [],_,st,_,K=>K st
 | o::r,j,st,pd,K=>
  match o.guard with
  | none=>stepT P W anc o j st.env st.h st.n pd fun s t=>treeD P ds W anc r (j+1) s t K
  | some (g,want)=>match kbd ds g with
   | some d=>match lk st.env d with
    | .sc (.bool b)=>(b=want->stepT P W anc o j ((d,.sc (.bool want))::st.env) st.h st.n pd fun s t=>treeD P ds W anc r (j+1) s t K)/\
      (b = !want->treeD P ds W anc r (j+1) ⟨putE ((d,.sc (.bool (!want)))::st.env) o.dst .ud,st.h,st.n⟩ pd K)
    | .ud=>treeD P ds W anc r (j+1) ⟨putE st.env o.dst .ud,st.h,st.n⟩ pd K
    | _=>False
   | none=>False
section
variable {P:Program} {l:List Oper} {st0:St} {E:Nat->Env} {V:Nat->AV} {A W:Nat->Bool} {N:Nat} {D:DX} {O:Nat->Prop}
def GOn (l:List Oper) (o:Oper) (env:Env):Prop:=o.guard=none\/∃ jj want d,o.guard=some (jj,want)/\kbd (l.map (·.dst)) jj=some d/\lk env d = .sc (.bool want)
structure Can (P:Program) (l:List Oper) (st0:St) (W:Nat->Bool) (k:Nat) (E:Nat->Env) (V:Nat->AV) (A:Nat->Bool) (h:AH) (pd:List Pn) (S:Nat->Prop):Prop where
 e0:∀ s,lk (E 0) s=lk st0.env s
 next:∀ (j:Nat) (o:Oper),j<k->l[j]?=some o->∀ s,lk (E (j+1)) s=lk (putE (E j) o.dst (V j)) s
 off:∀ (j:Nat) (o:Oper),j<k->l[j]?=some o->A j=false->V j = .ud/\
  ∃ jj want d,o.guard=some (jj,want)/\kbd (l.map (·.dst)) jj=some d/\(lk (E j) d = .ud\/∃ b,lk (E j) d = .sc (.bool b)/\b≠want)
 on:∀ (j:Nat) (o:Oper),j<k->l[j]?=some o->A j=true->GOn l o (E j)/\(S j\/∃ p∈pd,p.j=j/\p.o=o/\(∀ s,lk p.env s=lk (E j) s)/\p.v=V j/\p.fact P/\p.ok h)
variable {k:Nat} {h:AH} {n:Nat} {pd:List Pn} {S:Nat->Prop} {K:St->Prop}
theorem Can.slot (L:Can P l st0 W k E V A h pd S):∀ (j s:Nat),j<=k->k<=l.length->lk (E j) s=lk st0.env s/\(∀ i oi,i<j->l[i]?=some oi->oi.dst≠some s)\/∃ i oi,i<j/\l[i]?=some oi/\oi.dst=some s/\lk (E j) s=V i:=by
 intro j
 induction j with
 | zero=>intro s _ _; exact .inl ⟨L.e0 s,fun i oi hi=>by omega⟩
 | succ j ih=>
  intro s hj hk
  have ho:l[j]?=some (l[j]'(by omega)):=jae _
  have hn:=L.next j _ (by omega) ho s
  cases hdst:(l[j]'(by omega)).dst with
  | none=>
   rw [hdst] at hn
   simp only [putE] at hn
   rcases ih s (by omega) hk with ⟨h1,h2⟩ | ⟨i,oi,h1,h2,h3,h4⟩
   ·refine .inl ⟨hn.trans h1,fun i oi hi hoi=>?_⟩
    rcases Nat.lt_succ_iff_lt_or_eq.1 hi with hlt | rfl
    ·exact h2 i oi hlt hoi
    ·rw [ho] at hoi; cases hoi; rw [hdst]; simp
   ·exact .inr ⟨i,oi,by omega,h2,h3,hn.trans h4⟩
  | some d=>
   rw [hdst] at hn
   simp only [putE,lk] at hn
   by_cases hsd:s=d
   ·subst hsd
    rw [if_pos rfl] at hn
    exact .inr ⟨j,_,by omega,ho,hdst,hn⟩
   ·rw [if_neg hsd] at hn
    rcases ih s (by omega) hk with ⟨h1,h2⟩ | ⟨i,oi,h1,h2,h3,h4⟩
    ·refine .inl ⟨hn.trans h1,fun i oi hi hoi=>?_⟩
     rcases Nat.lt_succ_iff_lt_or_eq.1 hi with hlt | rfl
     ·exact h2 i oi hlt hoi
     ·rw [ho] at hoi; cases hoi; rw [hdst]; intro e; cases e; exact hsd rfl
    ·exact .inr ⟨i,oi,by omega,h2,h3,hn.trans h4⟩
theorem Can.sees (L:Can P l st0 W k E V A h pd S) (hk:k<=l.length) (hd:kcR l=true) {env:Env} (hat:At P l st0 V S env) (hc:Closed l S) {j:Nat} {o:Oper} (ho:l[j]?=some o) (hjk:j<=k) (hj:¬ S j)
  (hr:∀ e∈o.after,Region.binds .any e=true->S e.on) {t:Nat} (ht:t∈kiE o (l.map (·.dst))):lk env t=lk (E j) t:=by
 obtain ⟨hd1,hd2,hd3⟩:=kbt hd
 have hjl:=(jad.1 ho).1
 have ready:∀ o',l[j]?=some o'->∀ e∈o'.after,Region.binds .any e=true->S e.on:=fun o' ho'=>by rw [ho] at ho'; cases ho'; exact hr
 have later:∀ i oi,l[i]?=some oi->Anc l j i->¬ S i:=fun i oi hoi ha hs=>hj (hc.anc ha fun o' ho' e he hb=>hc i o' ho' hs e he hb)
 rcases L.slot j t hjk hk with ⟨h1,h2⟩ | ⟨i,oi,h1,h2,h3,h4⟩
 ·rw [h1]
  refine hat.old t fun i oi hs hoi hdi=>?_
  rcases hd3 j o t i oi ho ht hoi hdi with ⟨hlt,_⟩ | ⟨_,ha⟩
  ·exact h2 i oi hlt hoi hdi
  ·exact later i oi hoi ha hs
 ·rw [h4]
  rcases hd3 j o t i oi ho ht h2 h3 with ⟨_,ha⟩ | ⟨hgt,_⟩
  ·exact hat.new t i oi (hc.anc ha ready) h2 h3
  ·omega
theorem Can.snoc (L:Can P l st0 W k E V A h pd S) {o:Oper} (ho:l[k]?=some o) {env:Env} (henv:∀ s,lk env s=lk (E k) s) (v:AV) (act:Bool) (pd':List Pn) (S':Nat->Prop) (h':AH)
  (hoff:act=false->v = .ud/\∃ jj want d,o.guard=some (jj,want)/\kbd (l.map (·.dst)) jj=some d/\(lk (E k) d = .ud\/∃ b,lk (E k) d = .sc (.bool b)/\b≠want))
  (hon:act=true->GOn l o (E k)/\(S' k\/∃ p∈pd',p.j=k/\p.o=o/\(∀ s,lk p.env s=lk (E k) s)/\p.v=v/\p.fact P/\p.ok h'))
  (hold:∀ j o',j<k->l[j]?=some o'->A j=true->S j\/(∃ p∈pd,p.j=j/\p.o=o'/\(∀ s,lk p.env s=lk (E j) s)/\p.v=V j/\p.fact P/\p.ok h)->S' j\/(∃ p∈pd',p.j=j/\p.o=o'/\(∀ s,lk p.env s=lk (E j) s)/\p.v=V j/\p.fact P/\p.ok h')) :
  Can P l st0 W (k+1) (fun i=>if i=k+1 then putE env o.dst v else E i) (fun i=>if i=k then v else V i) (fun i=>if i=k then act else A i) h' pd' S':=by
 have hE:∀ j,j<=k->(if j=k+1 then putE env o.dst v else E j)=E j:=fun j hj=>by rw [if_neg (by omega)]
 refine ⟨by intro s; rw [hE 0 (by omega)]; exact L.e0 s,fun j o' hj ho' s=>?_,fun j o' hj ho' ha=>?_,fun j o' hj ho' ha=>?_⟩
 ·by_cases hjk:j=k
  ·subst hjk
   rw [ho] at ho'; cases ho'
   rw [hE j (jah _)]
   simp only [if_true]
   exact ksP henv _ _ s
  ·rw [hE (j+1) (by omega),hE j (by omega)]
   simp only [if_neg hjk]
   exact L.next j o' (by omega) ho' s
 ·rw [hE j (by omega)]
  by_cases hjk:j=k
  ·subst hjk
   rw [ho] at ho'; cases ho'
   simp only [if_true] at ha ⊢
   exact hoff ha
  ·simp only [if_neg hjk] at ha ⊢
   exact L.off j o' (by omega) ho' ha
 ·rw [hE j (by omega)]
  by_cases hjk:j=k
  ·subst hjk
   rw [ho] at ho'; cases ho'
   simp only [if_true] at ha ⊢
   exact hon ha
  ·simp only [if_neg hjk] at ha ⊢
   obtain ⟨g1,g2⟩:=L.on j o' (by omega) ho' ha
   exact ⟨g1,hold j o' (by omega) ho' ha g2⟩
theorem Can.adv {anc:Nat->List Nat}:∀ (m k:Nat) {E:Nat->Env} {V:Nat->AV} {A:Nat->Bool} {pd:List Pn} {env:Env},k+m=l.length->Can P l st0 W k E V A h pd S->(∀ s,lk env s=lk (E k) s)->treeD P (l.map (·.dst)) W anc (l.drop k) k ⟨env,h,n⟩ pd K->(∀ i,S i->i<k)->
  ∃ k' E' V' A' pd' env',k<=k'/\k'<=l.length/\Can P l st0 W k' E' V' A' h pd' S/\(∀ j,j<k->V' j=V j)/\(∀ s,lk env' s=lk (E' k') s)/\
   ((k'=l.length/\K ⟨env',h,n⟩)\/∃ o,l[k']?=some o/\W k'=true/\GOn l o (E' k')/\aop P env' h n o (fun v h2 n2=>(∀ p∈pd',p.j∈anc k'\/(p.ok h->p.ok h2))/\treeD P (l.map (·.dst)) W anc (l.drop (k'+1)) (k'+1) ⟨putE env' o.dst v,h2,n2⟩ pd' K))
 | 0,k,E,V,A,pd,env,hkm,L,henv,ht,hS=>by
  rw [jbq (by omega)] at ht
  exact ⟨k,E,V,A,pd,env,jah _,by omega,L,fun _ _=>rfl,henv,.inl ⟨by omega,ht⟩⟩
 | m+1,k,E,V,A,pd,env,hkm,L,henv,ht,hS=>by
  have hlt:k<l.length:=by omega
  have ho:l[k]?=some l[k]:=jae hlt
  rw [jdt hlt] at ht
  have onn:∀ env1:Env,(∀ s,lk env1 s=lk (E k) s)->GOn l l[k] (E k)->stepT P W anc l[k] k env1 h n pd (fun s t=>treeD P (l.map (·.dst)) W anc (l.drop (k+1)) (k+1) s t K)->
    ∃ k' E' V' A' pd' env',k<=k'/\k'<=l.length/\Can P l st0 W k' E' V' A' h pd' S/\(∀ j,j<k->V' j=V j)/\(∀ s,lk env' s=lk (E' k') s)/\
     ((k'=l.length/\K ⟨env',h,n⟩)\/∃ o,l[k']?=some o/\W k'=true/\GOn l o (E' k')/\aop P env' h n o (fun v h2 n2=>(∀ p∈pd',p.j∈anc k'\/(p.ok h->p.ok h2))/\treeD P (l.map (·.dst)) W anc (l.drop (k'+1)) (k'+1) ⟨putE env' o.dst v,h2,n2⟩ pd' K)):=by
   intro env1 he1 hg hs
   unfold stepT at hs
   split at hs
   ·rename_i hw
    exact ⟨k,E,V,A,pd,env1,jah _,by omega,L,fun _ _=>rfl,he1,.inr ⟨_,ho,hw,hg,hs⟩⟩
   ·rename_i hw
    obtain ⟨p,p1,p2,p3,p4,p5,hs⟩:=hs
    have L':=L.snoc ho he1 p.v true (p::pd) S h (fun e=>by cases e) (fun _=>⟨hg,.inr ⟨p,by simp,p1,p2,fun s=>by rw [p3]; exact he1 s,rfl,p5,p4⟩⟩) fun j o' _ _ _ hh=>by
     rcases hh with hh | ⟨q,hq,hh⟩
     ·exact .inl hh
     ·exact .inr ⟨q,jbb _ hq,hh⟩
    obtain ⟨k',E',V',A',pd',env',g1,g2,g3,g4,g5,g6⟩:=Can.adv m (k+1) (by omega) L' (fun s=>by simp) hs (fun i hi=>by have:=hS i hi; omega)
    exact ⟨k',E',V',A',pd',env',by omega,g2,g3,fun j hj=>by rw [g4 j (by omega),if_neg (by omega)],g5,g6⟩
  have offf:∀ env1:Env,(∀ s,lk env1 s=lk (E k) s)->(∃ jj want d,l[k].guard=some (jj,want)/\kbd (l.map (·.dst)) jj=some d/\(lk (E k) d = .ud\/∃ b,lk (E k) d = .sc (.bool b)/\b≠want))->treeD P (l.map (·.dst)) W anc (l.drop (k+1)) (k+1) ⟨putE env1 l[k].dst .ud,h,n⟩ pd K->
    ∃ k' E' V' A' pd' env',k<=k'/\k'<=l.length/\Can P l st0 W k' E' V' A' h pd' S/\(∀ j,j<k->V' j=V j)/\(∀ s,lk env' s=lk (E' k') s)/\
     ((k'=l.length/\K ⟨env',h,n⟩)\/∃ o,l[k']?=some o/\W k'=true/\GOn l o (E' k')/\aop P env' h n o (fun v h2 n2=>(∀ p∈pd',p.j∈anc k'\/(p.ok h->p.ok h2))/\treeD P (l.map (·.dst)) W anc (l.drop (k'+1)) (k'+1) ⟨putE env' o.dst v,h2,n2⟩ pd' K)):=by
   intro env1 he1 hg hs
   have L':=L.snoc ho he1 .ud false pd S h (fun _=>⟨rfl,hg⟩) (fun e=>by cases e) fun j o' _ _ _ hh=>hh
   obtain ⟨k',E',V',A',pd',env',g1,g2,g3,g4,g5,g6⟩:=Can.adv m (k+1) (by omega) L' (fun s=>by simp) hs (fun i hi=>by have:=hS i hi; omega)
   exact ⟨k',E',V',A',pd',env',by omega,g2,g3,fun j hj=>by rw [g4 j (by omega),if_neg (by omega)],g5,g6⟩
  unfold treeD at ht
  split at ht
  ·rename_i hg
   exact onn env henv (.inl hg) ht
  ·rename_i g want hg
   split at ht
   ·rename_i d hsl
    simp only at ht
    split at ht
    ·rename_i b hb
     by_cases hbw:b=want
     ·subst hbw
      exact onn _ (fun s=>(ktJ hb s).trans (henv s)) (.inr ⟨g,b,d,hg,hsl,by rw [<-henv]; exact hb⟩) (ht.1 rfl)
     ·have hb2:b = !want:=by cases b <;> cases want <;> first | rfl | exact absurd rfl hbw
      exact offf _ (fun s=>(ktJ (by rw [hb,hb2]) s).trans (henv s)) ⟨g,want,d,hg,hsl,.inr ⟨b,by rw [<-henv]; exact hb,hbw⟩⟩ (ht.2 hb2)
    ·rename_i hb
     exact offf _ henv ⟨g,want,d,hg,hsl,.inl (by rw [<-henv]; exact hb)⟩ ht
    ·exact ht.elim
   ·exact ht.elim
theorem kvm {ro:Option Nat} {anc:Nat->List Nat} (hd:kcR l=true) (hdst:kaZ N l=true) (hanc:∀ i j,i∈anc j->Anc l i j) (hW:∀ w j,w<j->j<l.length->W w=true->Anc l w j) {Q':Exit->Act->World->Prop} {μ0:Mu} {w0:World}
  (hq:∀ cenv env h n μ a w,K ⟨cenv,h,n⟩->(∀ s,lk env s=lk cenv s)->SR N D O μ ⟨env,h,n⟩ a w->Evo w0 μ0 st0.n w μ n->Q' .normal a w) :
  ∀ (fuel:Nat) (listed:Array Bool) (S:Nat->Prop) (k:Nat) (E:Nat->Env) (V:Nat->AV) (A:Nat->Bool) (pd:List Pn) (cenv env:Env) (h:AH) (n:Nat) (μ:Mu) (a:Act) (w:World),listed.size=l.length->(∀ i,i<l.length->(S i↔listed.getD i true=true))->(∀ i,S i->i<k)->k<=l.length->Closed l S->
   At P l st0 V S env->Can P l st0 W k E V A h pd S->(∀ s,lk cenv s=lk (E k) s)->
   ((k=l.length/\K ⟨cenv,h,n⟩)\/∃ o,l[k]?=some o/\W k=true/\GOn l o (E k)/\aop P cenv h n o (fun v h2 n2=>(∀ p∈pd,p.j∈anc k\/(p.ok h->p.ok h2))/\treeD P (l.map (·.dst)) W anc (l.drop (k+1)) (k+1) ⟨putE cenv o.dst v,h2,n2⟩ pd K))->
   SR N D O μ ⟨env,h,n⟩ a w->Evo w0 μ0 st0.n w μ n->(∃ c:List Nat,c.length=fuel/\∀ i,i<l.length->¬ S i->i∈c)->wpAnyIn (FF ro) 0 P .any l.toArray Q' fuel listed a w:=by
 have hdone:∀ (listed:Array Bool) (S:Nat->Prop) (k:Nat) (E:Nat->Env) (V:Nat->AV) (A:Nat->Bool) (pd:List Pn) (cenv env:Env) (h:AH) (n:Nat) (μ:Mu) (a:Act) (w:World),(∀ i,i<l.length->S i)->(∀ i,S i->i<k)->k<=l.length->At P l st0 V S env->Can P l st0 W k E V A h pd S->(∀ s,lk cenv s=lk (E k) s)->
   ((k=l.length/\K ⟨cenv,h,n⟩)\/∃ o,l[k]?=some o/\W k=true/\GOn l o (E k)/\aop P cenv h n o (fun v h2 n2=>(∀ p∈pd,p.j∈anc k\/(p.ok h->p.ok h2))/\treeD P (l.map (·.dst)) W anc (l.drop (k+1)) (k+1) ⟨putE cenv o.dst v,h2,n2⟩ pd K))->
   SR N D O μ ⟨env,h,n⟩ a w->Evo w0 μ0 st0.n w μ n->Q' .normal a w:=by
  intro listed S k E V A pd cenv env h n μ a w hall hSk hk hat L hce hT hs he
  rcases hT with ⟨rfl,hK⟩ | ⟨o,ho,_⟩
  ·refine hq cenv env h n μ a w hK (fun s=>?_) hs he
   rw [hce]
   rcases L.slot l.length s (jah _) (jah _) with ⟨h1,h2⟩ | ⟨i,oi,h1,h2,h3,h4⟩
   ·rw [h1]; exact hat.old s fun i oi hsi hoi=>h2 i oi (jad.1 hoi).1 hoi
   ·rw [h4]; exact hat.new s i oi (hall i h1) h2 h3
  ·have hkl:=(jad.1 ho).1
   have:=hSk k (hall k hkl)
   omega
 have hready:∀ (listed:Array Bool) (S:Nat->Prop),(∀ i,i<l.length->(S i↔listed.getD i true=true))->listed.size=l.length->Region.ready .any l.toArray listed=[]->∀ i,i<l.length->S i:=by
  intro listed S hS hsz hr i
  induction i using Nat.strongRecOn with
  | _ i ih=>
   intro hi
   by_cases hs:S i
   ·exact hs
   ·have hl:listed.getD i true=false:=by
     cases hb:listed.getD i true with
     | false=>rfl
     | true=>exact absurd ((hS i hi).2 hb) hs
    have:i∈Region.ready .any l.toArray listed:=mem_ready.2 ⟨hl,l[i],by simp,fun e he hb=>by
     have hlt:=(kbt hd).1 i _ (jae hi) e he hb
     have:=(hS e.on (by omega)).1 (ih e.on hlt (by omega))
     have hsz':e.on<listed.size:=by omega
     simpa [jaf,hsz'] using this⟩
    rw [hr] at this; cases this
 intro fuel
 induction fuel with
 | zero=>
  intro listed S k E V A pd cenv env h n μ a w hsz hS hSk hk hc hat L hce hT hs he hcnt
  obtain ⟨c,hcl,hci⟩:=hcnt
  have hcn:c=[]:=jbp hcl
  have hall:∀ i,i<l.length->S i:=fun i hi=>Classical.byContradiction fun hn=>by have:=hci i hi hn; rw [hcn] at this; cases this
  refine ⟨?_,hdone listed S k E V A pd cenv env h n μ a w hall hSk hk hat L hce hT hs he⟩
  refine jcs.2 fun i hi=>?_
  obtain ⟨h1,o,h2,_⟩:=mem_ready.1 hi
  have hil:i<l.length:=by simpa using (jak.1 h2).1
  rw [(hS i hil).1 (hall i hil)] at h1
  cases h1
 | succ fuel ih=>
  intro listed S k E V A pd cenv env h n μ a w hsz hS hSk hk hc hat L hce hT hs he hcnt
  refine ⟨fun hr=>hdone listed S k E V A pd cenv env h n μ a w (hready listed S hS hsz hr) hSk hk hat L hce hT hs he,fun j hj=>?_⟩
  obtain ⟨hjun,o,ho,hdeps⟩:=mem_ready.1 hj
  have ho':l[j]?=some o:=by simpa using ho
  have hjl:=(jad.1 ho').1
  have hnS:¬ S j:=fun h=>by rw [(hS j hjl).1 h] at hjun; cases hjun
  have hdl:∀ e∈o.after,Region.binds .any e=true->S e.on:=fun e he' hb=>by
   have hlt:=(kbt hd).1 j _ ho' e he' hb
   have:=hdeps e he' hb
   have hsz':e.on<listed.size:=by omega
   exact (hS e.on (by omega)).2 (by simpa [jaf,hsz'] using this)
  have ready:∀ o',l[j]?=some o'->∀ e∈o'.after,Region.binds .any e=true->S e.on:=fun o2 ho2=>by rw [ho'] at ho2; cases ho2; exact hdl
  have hdo:∀ x,o.dst=some x->x<N:=fun x hx=>by
   simp only [kaZ,jam] at hdst
   have:=hdst o (jag ho'); rw [hx] at this; simpa using this
  have hlisted:(∀ i,i<l.length->((i=j\/S i)↔(listed.setIfInBounds j true).getD i true=true)):=fun i hi=>by
   by_cases hij:i=j
   ·subst hij; simp [jaf,hsz,hi]
   ·rw [jaf,jcq (by omega),<-jaf,<-hS i hi]
    simp [hij]
  have hcl:Closed l (fun i=>i=j\/S i):=fun i oi hoi hi e he' hb=>by
   rcases hi with rfl | hi
   ·rw [ho'] at hoi; cases hoi; exact .inr (hdl e he' hb)
   ·exact .inr (hc i oi hoi hi e he' hb)
  have hjk:j<=k:=by
   rcases hT with ⟨rfl,_⟩ | ⟨o2,ho2,hw2,_⟩
   ·omega
   ·rcases jdh k j with hlt | hge
    ·have:=hSk k (hc.anc (hW k j hlt hjl hw2) ready)
     omega
    ·exact hge
  have hat':∀ v,At P l st0 (fun i=>if i=j then v else V i) (fun i=>i=j\/S i) (Abs.putE env o.dst v):=fun v=>by
   constructor
   ·intro s hno
    have h1:=hno j o (.inl rfl) ho'
    have h2:=hat.old s fun i oi hi=>hno i oi (.inr hi)
    cases hdd:o.dst with
    | none=>exact h2
    | some d=>
     simp only [Abs.putE,lk]
     rw [if_neg (by rintro rfl; exact h1 hdd)]
     exact h2
   ·intro s i oi hi hoi hdi
    by_cases hij:i=j
    ·subst hij
     rw [ho'] at hoi; cases hoi
     rw [hdi]; simp [Abs.putE,lk]
    ·have hSi:S i:=by rcases hi with h | h; exact absurd h hij; exact h
     have h2:=hat.new s i oi hSi hoi hdi
     simp only [if_neg hij]
     cases hdd:o.dst with
     | none=>exact h2
     | some d=>
      simp only [Abs.putE,lk]
      rw [if_neg (by rintro rfl; exact hij ((kbt hd).2.1 i j oi o s hoi ho' hdi hdd))]
      exact h2
  have hcnt':∃ c:List Nat,c.length=fuel/\∀ i,i<l.length->¬ (i=j\/S i)->i∈c:=by
   obtain ⟨c,hcl,hci⟩:=hcnt
   have hjc:=hci j hjl hnS
   refine ⟨c.erase j,by rw [List.length_erase_of_mem hjc,hcl]; rfl,fun i hi hno=>?_⟩
   exact (List.mem_erase_of_ne (fun h=>hno (.inl h))).2 (hci i hi fun h=>hno (.inr h))
  have sees:∀ t∈kiE o (l.map (·.dst)),lk env t=lk (E j) t:=fun t ht=>L.sees hk hd hat hc ho' hjk hnS hdl ht
  have guardOn:GOn l o (E j)->Region.wanted o (yielded l.toArray a.tmps)=true:=by
   rintro (hg | ⟨jj,want,d,hg,hsl,hgv⟩)
   ·simp [Region.wanted,hg]
   ·obtain ⟨g1,_⟩:=ked (st:=⟨env,h,n⟩) hs hsl ((sees d (kkS hg hsl)).trans hgv)
    simp [Region.wanted,hg,g1 want rfl]
  have atc:∀ (V1 V':Nat->AV) (S':Nat->Prop) (env':Env),At P l st0 V1 S' env'->(∀ i,S' i->V' i=V1 i)->At P l st0 V' S' env':=fun V1 V' S' env' hh hv=>⟨hh.old,fun s i oi hi hoi hdi=>by rw [hv i hi]; exact hh.new s i oi hi hoi hdi⟩
  unfold wpOpIn
  rw [ho]
  simp only
  rcases Nat.lt_or_eq_of_le hjk with hlt | rfl
  ·
   cases ha:A j with
   | false=>
    obtain ⟨hv,jj,want,d,hg,hsl,hgv⟩:=L.off j o hlt ho' ha
    have hsd:=sees d (kkS hg hsl)
    have hnw:Region.wanted o (yielded l.toArray a.tmps)=false:=by
     rcases hgv with h1 | ⟨b,h1,hb⟩
     ·obtain ⟨_,g2⟩:=ked (st:=⟨env,h,n⟩) hs hsl (hsd.trans h1)
      simp [Region.wanted,hg,g2 rfl]
     ·obtain ⟨g1,_⟩:=ked (st:=⟨env,h,n⟩) hs hsl (hsd.trans h1)
      simp [Region.wanted,hg,g1 b rfl,hb]
    rw [hnw]
    simp only [jaj,if_false]
    refine ⟨fun _ _=>trivial,?_⟩
    have hat1:=hat' .ud
    refine ih _ (fun i=>i=j\/S i) k E V A pd cenv (putE env o.dst .ud) h n μ _ w (by simp [hsz]) hlisted (fun i hi=>by rcases hi with rfl | hi; exact hlt; exact hSk i hi) hk hcl ?_ ⟨L.e0,L.next,L.off,fun i oi hi hoi hai=>?_⟩ hce hT (hs.putE hs.hr hs.hr.refl .ud o.dst hdo) he hcnt'
    ·refine ⟨hat1.old,fun s i oi hi hoi hdi=>?_⟩
     rw [hat1.new s i oi hi hoi hdi]
     split
     ·rename_i e; rw [e,hv]
     ·rfl
    ·obtain ⟨g1,g2⟩:=L.on i oi hi hoi hai
     exact ⟨g1,g2.imp .inr id⟩
   | true=>
    obtain ⟨hg,hp⟩:=L.on j o hlt ho' ha
    rw [guardOn hg]
    simp only [if_true]
    rcases hp with hp | ⟨p,hp,p1,p2,p3,p4,p5,p6⟩
    ·exact absurd hp hnS
    ·have hop:=p5 h n (fun v h' n'=>v=V j/\h'=h/\n'=n) p6 ⟨p4,rfl,rfl⟩
     rw [p2] at hop
     have hcong:∀ x∈o.op.operands.toList,ev p.env x=ev env x:=fun x hx=>by
      cases x with
      | tmp t=>exact (p3 t).trans (sees t (koC hx)).symm
      | _=>rfl
     rw [krP hcong] at hop
     refine knF hop hs.hr (fun x=>hs.ev x) _ _ _ ?_
     rintro u w' μ' v h' n' ⟨rfl,rfl,rfl⟩ hr' hv' he'
     have hat1:=hat' (V j)
     refine ih _ (fun i=>i=j\/S i) k E V A pd cenv (putE env o.dst (V j)) h' n' μ' _ w' (by simp [hsz]) hlisted (fun i hi=>by rcases hi with rfl | hi; exact hlt; exact hSk i hi) hk hcl ?_ ⟨L.e0,L.next,L.off,fun i oi hi hoi hai=>?_⟩ hce hT (hs.putE hr' he' hv' o.dst hdo) (he.trans he') hcnt'
     ·refine ⟨hat1.old,fun s i oi hi hoi hdi=>?_⟩
      rw [hat1.new s i oi hi hoi hdi]
      split
      ·rename_i e; rw [e]
      ·rfl
     ·obtain ⟨g1,g2⟩:=L.on i oi hi hoi hai
      exact ⟨g1,g2.imp .inr id⟩
  ·
   rcases hT with ⟨hkl,_⟩ | ⟨o2,ho2,hw2,hg2,hop⟩
   ·omega
   rw [ho'] at ho2; cases ho2
   rw [guardOn hg2]
   simp only [if_true]
   have hcong:∀ x∈o.op.operands.toList,ev cenv x=ev env x:=fun x hx=>by
    cases x with
    | tmp t=>exact (hce t).trans (sees t (koC hx)).symm
    | _=>rfl
   rw [krP hcong] at hop
   refine knF hop hs.hr (fun x=>hs.ev x) _ _ _ ?_
   rintro u w' μ' v h' n' ⟨hpd,htr⟩ hr' hv' he'
   have L':=L.snoc ho' hce v true pd (fun i=>i=j\/S i) h' (fun e=>by cases e) (fun _=>⟨hg2,.inl (.inl rfl)⟩) (fun i oi hi hoi hai hh=>by
    rcases hh with hh | ⟨p,hp,p1,p2,p3,p4,p5,p6⟩
    ·exact .inl (.inr hh)
    ·rcases hpd p hp with hx | hx
     ·rw [p1] at hx
      exact .inl (.inr (hc.anc (hanc i j hx) ready))
     ·exact .inr ⟨p,hp,p1,p2,p3,p4,p5,hx p6⟩)
   obtain ⟨k',E',V',A',pd',env',g1,g2,g3,g4,g5,g6⟩:=Can.adv (l.length-(j+1)) (j+1) (n:=n') (env:=putE cenv o.dst v) (by omega) L' (fun s=>by simp) htr (fun i hi=>by
    rcases hi with rfl | hi
    ·omega
    ·have:=hSk i hi; omega)
   exact ih _ (fun i=>i=j\/S i) k' E' V' A' pd' env' (putE env o.dst v) h' n' μ' _ w' (by simp [hsz]) hlisted (fun i hi=>by
    rcases hi with rfl | hi
    ·omega
    ·have:=hSk i hi; omega) g2 hcl (atc _ _ _ _ (hat' v) fun i hi=>g4 i (by rcases hi with rfl | hi; omega; have:=hSk i hi; omega)) g3 g5 g6 (hs.putE hr' he' hv' o.dst hdo) (he.trans he') hcnt'
end
end Go.Abs
