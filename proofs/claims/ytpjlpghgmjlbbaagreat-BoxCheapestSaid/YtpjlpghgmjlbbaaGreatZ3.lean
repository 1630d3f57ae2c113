/- The machinery, part 3. -/
import Derived.Test.YtpjlpghgmjlbbaaGreatZ2
set_option linter.constructorNameAsVariable false
set_option linter.unusedVariables false
set_option linter.unusedSimpArgs false
set_option linter.unusedSectionVars false
namespace Go.Abs
open Go Go.RowKit
def Legal (ops:Array Oper):Array Bool->Ya Nat->Prop
 | listed,[]=>Region.ready .any ops listed=[]
 | listed,i :: σ=>i∈Region.ready .any ops listed/\Legal ops (listed.setIfInBounds i true) σ
section
variable {F:Fence} {n:Nat} {P:Yd} {Q:Exit->Act->World->Prop}
theorem knT {ops:Array Oper}:∀ (e:Nat) (σ:Ya Nat) (b:Array Bool) (a:Act) (w:World),σ.length<=e->Legal ops b σ->wpAnyIn F n P .any ops Q e b a w->wpOpsIn F n P ops Q σ a w
 | 0,[],b,a,w,_,hl,h=>h.2
 | 0,i :: σ,b,a,w,hle,hl,h=>by simp at hle
 | e+1,[],b,a,w,_,hl,h=>h.1 hl
 | e+1,i :: σ,b,a,w,hle,hl,h=>by
  rw [wpOpsIn_cons];exact wpOpIn_mono (λa w f=>knT e σ _ a w (by simpa using hle) hl.2 f) (h.2 i hl.1)
theorem kqm {ops:Array Oper}:∀ (b t:Nat) (a:Array Bool),(∃ c:Ya Nat,c.length=b/\∀ i,i<ops.size->a.getD i true=false->i∈c)->a.size=ops.size->
  Legal ops a (Region.linearise.go .any ops b t a [])/\(Region.linearise.go .any ops b t a []).length<=b
 | 0,t,a,hc,hsz=>by
  obtain ⟨c,k,e⟩:=hc;have w:c=[]:=jbv k;refine ⟨?_,by simp [Region.linearise.go]⟩;show Region.ready .any ops a=[];refine jdc.2 λi hi=>?_;obtain ⟨B,o,h2,_⟩:=mem_ready.1 hi;have:=e i (jal.1 h2).1 B;rw [w] at this; cases this
 | b+1,t,a,hc,hsz=>by
  simp only [Region.linearise.go];change Legal ops a (match (Region.ready .any ops a)[t % (Region.ready .any ops a).length]? with
   | some i=>Region.linearise.go .any ops b (t / (Region.ready .any ops a).length) (a.setIfInBounds i true) [i]
   | none=>[].reverse)/\(match (Region.ready .any ops a)[t % (Region.ready .any ops a).length]? with
   | some i=>Region.linearise.go .any ops b (t / (Region.ready .any ops a).length) (a.setIfInBounds i true) [i]
   | none=>[].reverse).length<=b+1
  cases hi:(Region.ready .any ops a)[t % (Region.ready .any ops a).length]? with
  | none=>
   have u:Region.ready .any ops a=[]:=by
    cases hr:Region.ready .any ops a with
    | nil=>rfl
    | cons x xs=>
     rw [hr] at hi;have y:t % (x::xs).length<(x::xs).length:=Nat.mod_lt _ (by simp);simp at hi;simp at y;omega
   exact ⟨u,by simp⟩
  | some i=>
   simp only [];rw [linearise_go_acc,List.reverse_singleton,List.singleton_append];have m:=jak hi;obtain ⟨B,o,h2,_⟩:=mem_ready.1 m;have v:=(jal.1 h2).1;obtain ⟨c,k,e⟩:=hc;have:=kqm b (t / (Region.ready .any ops a).length) (a.setIfInBounds i true) ⟨c.erase i,by rw [List.length_erase_of_mem (e i v B),k]; rfl,λj C f=>?_⟩ (by simpa using hsz)
   ·exact ⟨⟨m,this.1⟩,by simpa using this.2⟩
   ·have p:j≠i:=by
     rintro rfl;rw [jah,Array.getElem?_setIfInBounds_self] at f;simp [hsz,C] at f
    rw [getD_set_ne _ (Ne.symm p)] at f;exact (List.mem_erase_of_ne p).2 (e j C f)
end
def posOf (ps:Ya Nat) (i:Nat):Nat:=ps.idxOf i
def renO (ps:Ya Nat) (ex:Ya (Nat×Nat)) (i:Nat) (o:Oper):Oper:=
 ⟨o.dst,o.op,o.type,o.pos,((o.after.toList.filter (Region.binds .any)).map (λe=>(⟨posOf ps e.on,.data⟩:Edge))++(ex.filter (λx=>x.2==i)).map λx=>(⟨posOf ps x.1,.data⟩:Edge)).toArray,o.guard.map λg=>(posOf ps g.1,g.2)⟩
def dumO:Oper:=⟨none,.move (.func 0),0,"",#[],none⟩
def permL (l:Ya Oper) (ps:Ya Nat) (ex:Ya (Nat×Nat)):Ya Oper:=ps.map λi=>match l[i]? with | some o=>renO ps ex i o | none=>dumO
def khf (n:Nat) (ps:Ya Nat):Bool:=ps.length==n&&ps.all (λi=>decide (i<n))&&(List.range n).all (λi=>ps.contains i)&&decide ps.Nodup
def backw (l:Ya Oper):Bool:=l.zipIdx.all λ(o,j)=>o.after.all λe=>!Region.binds .any e||decide (e.on<j)
theorem krL {l:Ya Oper} (b:backw l=true) {j:Nat} {o:Oper} (i:l[j]?=some o):∀ e∈o.after,Region.binds .any e=true->e.on<j:=by
 simp only [backw,jam,Prod.forall] at b;have:=b o j (jdt.2 (by simpa using i));simp only [jce] at this;intro e f a;have:=this e f;simpa [a] using this
section
variable {l:Ya Oper} {ps:Ya Nat} {ex:Ya (Nat×Nat)}
theorem kdp (hp:khf l.length ps=true):ps.length=l.length/\(∀ i∈ps,i<l.length)/\(∀ i,i<l.length->i∈ps)/\ps.Nodup:=by
 simp only [khf,jac,beq_iff_eq,jam,jaj,jdl,jbu] at hp;exact ⟨hp.1.1.1,hp.1.1.2,hp.1.2,hp.2⟩
theorem koI {i:Nat} (h:i∈ps):posOf ps i<ps.length:=List.idxOf_lt_length_iff.2 h
theorem krf {i:Nat} (h:i∈ps):ps[posOf ps i]?=some i:=by
 rw [jae (koI h)];exact congrArg some (List.getElem_idxOf (koI h))
theorem kAC {i j:Nat} (hi:i∈ps) (b:j∈ps) (h:posOf ps i=posOf ps j):i=j:=by
 have a:=krf hi;rw [h,krf b] at a;exact (Option.some.inj a).symm
theorem krX (hp:khf l.length ps=true) {i:Nat} {o:Oper} (a:l[i]?=some o):(permL l ps ex)[posOf ps i]?=some (renO ps ex i o):=by
 have hi:=(kdp hp).2.2.1 i (jaf.1 a).1;simp only [permL,jas,krf hi,jck,a]
theorem klp (hp:khf l.length ps=true):(permL l ps ex).length=l.length:=by simp [permL,(kdp hp).1]
def RespS (ex:Ya (Nat×Nat)):Array Bool->Ya Nat->Prop
 | _,[]=>True
 | listed,i :: σ=>(∀ x,(x,i)∈ex->listed.getD x false=true)/\RespS ex (listed.setIfInBounds i true) σ
theorem RespS.nil:∀ (σ:Ya Nat) (a:Array Bool),RespS [] a σ
 | [],_=>trivial
 | i :: σ,a=>⟨λx b=>(by cases b),RespS.nil σ _⟩
theorem RespS.cons {p:Nat×Nat} {ex:Ya (Nat×Nat)}:∀ {σ:Ya Nat} {a:Array Bool},RespS [p] a σ->RespS ex a σ->RespS (p::ex) a σ
 | [],_,_,_=>trivial
 | i :: σ,a,h,g=>⟨λx b=>(jbq.1 b).elim (λe=>h.1 x (by rw [<-e]; simp)) (λb=>g.1 x b),h.2.cons g.2⟩
theorem kzU {a:Array Bool} {i j:Nat} (h:a.getD i false=true):(a.setIfInBounds j true).getD i false=true:=by
 by_cases e:j=i
 ·subst e;have b:j<a.size:=by
   rw [jah] at h;rcases jdg j a.size with f | f
   ·exact f
   ·rw [jdz f] at h; cases h
  simp [jah,b]
 ·rw [getD_set_ne _ e]; exact h
theorem RespS.done {i j:Nat}:∀ {σ:Ya Nat} {a:Array Bool},a.getD i false=true->RespS [(i,j)] a σ
 | [],_,_=>trivial
 | k :: σ,a,h=>⟨λx b=>(by simp at b; rw [b.1]; exact h),RespS.done (kzU h)⟩
theorem ksR {i j:Nat} (e:i≠j):∀ (σ:Ya Nat) (a:Array Bool),i<a.size->j<a.size->RespS [(i,j)] a σ\/RespS [(j,i)] a σ
 | [],_,_,_=>.inl trivial
 | k :: σ,a,hi,hj=>by
  by_cases m:k=i
  ·subst m;exact .inl ⟨λx b=>(by simp at b; exact absurd b.2 e),RespS.done (by simp [jah,hi])⟩
  ·by_cases f:k=j
   ·subst f;exact .inr ⟨λx b=>(by simp at b; exact absurd b.2.symm e),RespS.done (by simp [jah,hj])⟩
   ·rcases ksR e σ (a.setIfInBounds k true) (by simpa using hi) (by simpa using hj) with h | h
    ·exact .inl ⟨λx b=>(by simp at b; exact absurd b.2 f),h⟩
    ·exact .inr ⟨λx b=>(by simp at b; exact absurd b.2 m),h⟩
def kiR (n:Nat) (conf:Ya (Nat×Nat)->Yb (Nat×Nat)):Nat->Ya (Nat×Nat)->Ya (Ya (Nat×Nat))
 | 0,ex=>[ex]
 | f+1,ex=>match conf ex with
  | none=>[ex]
  | some (i,j)=>if i≠j/\i<n/\j<n then kiR n conf f ((i,j)::ex)++kiR n conf f ((j,i)::ex) else [ex]
theorem kod {conf:Ya (Nat×Nat)->Yb (Nat×Nat)} {σ:Ya Nat} {a:Array Bool}:∀ (f:Nat) (ex:Ya (Nat×Nat)),RespS ex a σ->∃ e∈kiR a.size conf f ex,RespS e a σ
 | 0,ex,h=>⟨ex,by simp [kiR],h⟩
 | f+1,ex,h=>by
  unfold kiR;split
  ·exact ⟨ex,by simp,h⟩
  ·rename_i i j _;split
   ·rename_i k;rcases ksR k.1 σ a k.2.1 k.2.2 with g | g
    ·obtain ⟨e,b,hr⟩:=kod (conf:=conf) f _ (g.cons h);exact ⟨e,List.mem_append_left _ b,hr⟩
    ·obtain ⟨e,b,hr⟩:=kod (conf:=conf) f _ (g.cons h);exact ⟨e,List.mem_append_right _ b,hr⟩
   ·exact ⟨ex,by simp,h⟩
structure Lst (n:Nat) (ps:List Nat) (listed listed':Array Bool):Prop where
 s:listed.size=n
 s':listed'.size=n
 eq:∀ i,i<n->listed'.getD (posOf ps i) false=listed.getD i false
theorem kmG {a:Array Bool} {i:Nat} (h:i<a.size) (b c:Bool):a.getD i b=a.getD i c:=by simp [jah,h]
theorem Lst.set (hp:khf l.length ps=true) {b a:Array Bool} (h:Lst l.length ps b a) {i:Nat} (hi:i<l.length):Lst l.length ps (b.setIfInBounds i true) (a.setIfInBounds (posOf ps i) true):=by
 obtain ⟨p1,p2,p3,m⟩:=kdp hp;refine ⟨by simpa using h.s,by simpa using h.s',λj k=>?_⟩;by_cases f:i=j
 ·subst f;have:=koI (p3 i hi);simp [jah,h.s,h.s',hi,show posOf ps i<l.length by omega]
 ·rw [getD_set_ne _ f,getD_set_ne _ (λe=>f (kAC (p3 i hi) (p3 j k) e))];exact h.eq j k
theorem kyM (p:backw l=true) {a:Array Bool} (k:a.size=l.length) (hr:Region.ready .any l.toArray a=[]):∀ i,i<l.length->a.getD i false=true:=by
 intro i;induction i using Nat.strongRecOn with
 | _ i m=>
  intro hi;cases hl:a.getD i false with
  | true=>rfl
  | false=>
   have:i∈Region.ready .any l.toArray a:=mem_ready.2 ⟨by rw [kmG (by omega) true false]; exact hl,l[i],by simp,λe j b=>by
    have f:=krL p (jae hi) e j b;exact m e.on f (by omega)⟩
   rw [hr] at this; cases this
theorem ktq (hp:khf l.length ps=true) (J:backw l=true):∀ (σ:Ya Nat) (b a:Array Bool),Lst l.length ps b a->Legal l.toArray b σ->RespS ex b σ->Legal (permL l ps ex).toArray a (σ.map (posOf ps))
 | [],b,a,hl,h,_=>by
  obtain ⟨p1,p2,p3,L⟩:=kdp hp;show Region.ready .any _ _=[];have t:=kyM J hl.s h;refine jdc.2 λk T=>?_;obtain ⟨I,o,h2,_⟩:=mem_ready.1 T;have y:k<l.length:=by have:=(jal.1 h2).1; simpa [klp hp] using this
  have v:ps[k]'(by omega)∈ps:=jdx _;have E:posOf ps (ps[k]'(by omega))=k:=by
   have:=krf v;exact ((List.getElem?_inj (i:=k) (j:=posOf ps (ps[k]'(by omega))) (by rw [p1]; exact y) L).1 (by rw [this]; exact (jae (by omega)))).symm
  have u:=hl.eq _ (p2 _ v);rw [E,t _ (p2 _ v),kmG (by have:=hl.s'; omega) false true,I] at u;cases u
 | i :: σ,b,a,hl,h,hr=>by
  obtain ⟨p1,p2,p3,L⟩:=kdp hp;obtain ⟨I,o,h2,u⟩:=mem_ready.1 h.1;have C:l[i]?=some o:=by simpa using h2
  have p:=(jaf.1 C).1;refine ⟨mem_ready.2 ⟨?_,_,by rw [jbz]; exact krX hp C,λe K R=>?_⟩,ktq hp J σ _ _ (hl.set hp p) h.2 hr.2⟩
  ·have:=koI (p3 i p);rw [kmG (by have:=hl.s'; omega) true false,hl.eq i p,kmG (by have:=hl.s; omega) false true];exact I
  ·simp only [renO,List.mem_toArray,jaw,jbb,jeb] at K;rcases K with ⟨e',⟨H,m⟩,rfl⟩ | ⟨x,⟨M,B⟩,rfl⟩
   ·have f:e'∈o.after:=by simpa using H
    have S:=krL J C e' f m;show a.getD (posOf ps e'.on) false=true;rw [hl.eq _ (by omega)];exact u e' f m
   ·have:x.2=i:=by simpa using B
    have G:=hr.1 x.1 (by rw [<-this]; exact M);have w:x.1<l.length:=by
     rcases jdg x.1 b.size with g | g
     ·rw [hl.s] at g; exact g
     ·rw [jah,jdz g] at G; cases G
    show a.getD (posOf ps x.1) false=true;rw [hl.eq _ w];exact G
theorem kvI (hp:khf l.length ps=true) (tmps:Array Ye) (g:Nat):yielded (permL l ps ex).toArray tmps (posOf ps g)=yielded l.toArray tmps g:=by
 obtain ⟨p1,p2,p3,f⟩:=kdp hp;unfold yielded;have:((permL l ps ex).toArray[posOf ps g]?).bind (·.dst)=(l.toArray[g]?).bind (·.dst):=by
  rw [jbz,jbz];cases a:l[g]? with
  | some o=>rw [krX hp a]; rfl
  | none=>
   have b:¬ g∈ps:=λe=>by have:=p2 g e; rw [jae this] at a; cases a
   have:posOf ps g=ps.length:=List.idxOf_eq_length b;rw [this,jch (by simp [permL])]
 rw [this]
theorem kwS {F:Fence} {n:Nat} {P:Yd} {Q:Exit->Act->World->Prop} (hp:khf l.length ps=true):∀ (σ:Ya Nat) (a:Act) (w:World),(∀ i∈σ,i<l.length)->wpOpsIn F n P (permL l ps ex).toArray Q (σ.map (posOf ps)) a w->wpOpsIn F n P l.toArray Q σ a w
 | [],a,w,_,h=>h
 | i :: σ,a,w,hi,h=>by
  rw [jap,wpOpsIn_cons] at h;rw [wpOpsIn_cons];have h:=wpOpIn_mono (λa w e=>kwS hp σ a w (λj k=>hi j (jax _ k)) e) h;have b:l[i]?=some (l[i]'(hi i (by simp))):=jae _;unfold wpOpIn at h ⊢;rw [jbz,krX hp b] at h;rw [jbz,b];simp only at h ⊢;have f:Region.wanted (renO ps ex i (l[i]'(hi i (by simp)))) (yielded (permL l ps ex).toArray a.tmps)=Region.wanted (l[i]'(hi i (by simp))) (yielded l.toArray a.tmps):=by
   unfold Region.wanted;simp only [renO];cases (l[i]'(hi i (by simp))).guard with
   | none=>rfl
   | some g=>simp only [jck]; rw [kvI hp]
  rw [f] at h;exact h
theorem kub {ops:Array Oper}:∀ {σ:Ya Nat} {a:Array Bool},Legal ops a σ->∀ i∈σ,i<ops.size
 | [],_,_,i,hi=>by cases hi
 | j :: σ,a,h,i,hi=>by
  rcases jbq.1 hi with rfl | hi
  ·obtain ⟨_,o,h2,_⟩:=mem_ready.1 h.1;exact (jal.1 h2).1
  ·exact kub h.2 i hi
end
section
variable {P:Yd} {N:Nat} {D:DX} {O:Nat->Prop} {st:St} {Q:Exit->St->Prop} {l:Ya Oper}
def SatA (P:Yd) (N:Nat) (D:DX) (O:Nat->Prop) (l:Ya Oper) (Q:Exit->St->Prop) (st:St):Prop:=
 ∀ b,OKO D O b->∀ ro μ a w,RO D ro w μ->SR N D b μ st a w->wpAnyIn (FF ro) 0 P .any l.toArray (Post N D O Q μ w st.n) l.length (Array.replicate l.length false) a w.drew
theorem Sat.drawV {id:Nat} (p:P.follows .mixedOrders=true) (B:backw l=true) {conf:Ya (Nat×Nat)->Yb (Nat×Nat)} {f:Nat}
  (u:∀ ex∈kiR l.length conf f [],∃ ps,khf l.length ps=true/\SatA P N D O (permL l ps ex) Q st):Sat P N D O (.region id l.toArray true) Q st:=by
 intro x o ro μ a w j v;refine wpIn_region_draw λt=>?_;simp only [Region.schedule,p,Bool.true_or,if_true,Region.linearise];have y:=kqm (ops:=l.toArray) l.toArray.size t (Array.replicate l.toArray.size false) ⟨List.range l.toArray.size,by simp,λi hi _=>jdl.2 hi⟩ (by simp);obtain ⟨e,k⟩:=y;have m:(Array.replicate l.toArray.size false).size=l.length:=by simp
 obtain ⟨ex,b,hr⟩:=kod (conf:=conf) f [] (RespS.nil (Region.linearise.go .any l.toArray l.toArray.size t (Array.replicate l.toArray.size false) []) (Array.replicate l.toArray.size false));rw [m] at b;obtain ⟨ps,hp,hA⟩:=u ex b;have h:=hA x o ro μ a w j v;refine kwS hp _ _ _ (λi hi=>by simpa using kub e i hi) (knT _ _ _ _ _ ?_ (ktq hp B _ _ _ ⟨by simp,by simp [klp hp],λi hi=>?_⟩ e hr) h)
 ·rw [jaq,klp hp]; simpa using k
 ·have C:=koI ((kdp hp).2.2.1 i hi);have h2:=(kdp hp).1;simp [jah,klp hp,hi,show posOf ps i<l.length by omega]
theorem Sat.draw0 {id:Nat} (m:P.follows .mixedOrders=true) (h:SatA P N D O l Q st):Sat P N D O (.region id l.toArray true) Q st:=by
 intro p o ro μ a w b k;refine wpIn_region_draw λt=>?_;simp only [Region.schedule,m,Bool.true_or,if_true,Region.linearise];have j:=kqm (ops:=l.toArray) l.toArray.size t (Array.replicate l.toArray.size false) ⟨List.range l.toArray.size,by simp,λi hi _=>jdl.2 hi⟩ (by simp);obtain ⟨f,e⟩:=j;exact knT _ _ _ _ _ (by simpa using e) (by simpa using f) (h p o ro μ a w b k)
theorem SatA.of_tree {W:Nat->Bool} {anc:Nat->Ya Nat} (E:kdz l=true) (f:kbw N l=true) (m:∀ i j,i∈anc j->Anc l i j) (hW:∀ w j,w<j->j<l.length->W w=true->Anc l w j)
  (X:treeD P (l.map (·.dst)) W anc l 0 st [] λst=>Q .normal st):SatA P N D O l Q st:=by
 intro u o ro μ a w _ B;obtain ⟨C,t⟩:=B.hr.drew;have v:SR N D u μ ⟨st.env,st.h,st.n⟩ a w.drew:=B.step t C;have L:Can P l st W 0 (λ_=>st.env) (λ_=>.ud) (λ_=>false) st.h [] (λ_=>False):=⟨λs=>rfl,λj o y=>by omega,λj o y=>by omega,λj o y=>by omega⟩;obtain ⟨J,T,M,H,p,e,g1,G,R,Z,U,S⟩:=Can.adv (anc:=anc) (K:=λst=>Q .normal st) l.length 0 (n:=st.n) (env:=st.env) (by omega) L (λs=>rfl) (by simpa using X) (λi hi=>hi.elim);refine kwC (D:=D) (O:=u) (st0:=st) (K:=λst=>Q .normal st) E f m hW (μ0:=μ) (w0:=w) (λk env h n I a' w' Y hl b x=>⟨⟨k,h,n⟩,I,u,o,Y,⟨b.hr,b.size,b.defers,λs=>?_,b.gs,b.gi.evo b.hr.refl λ_=>.inl (hl GS).symm⟩,x.d⟩)
  _ _ (λ_=>False) J T M H p e st.env st.h st.n μ a w.drew (by simp) (λi hi=>by simp [jah,hi]) (λi h=>h.elim) G (λj o _ h=>h.elim) ⟨λs _=>rfl,λs i oi h=>h.elim⟩ R U S v C ⟨List.range l.length,by simp,λi hi _=>jdl.2 hi⟩
 have:=b.env s;rw [hl s] at this; exact this
end
section
variable {A:Alg} (P:Yd) (c:Cx A) {ρ:Ty}
def kmy (s:TS A) (T:Yc) (v:TV A) (f:Nat) (K:TV A->TS A->A.Ans ρ):A.Ans ρ:=
 match fldO P T f with
 | none=>A.fail "fieldAddr type"
 | some (d,_)=>match v with
  | .ptr id j=>if (thp c s id).any kdT then K (.ptr id (j+d)) s else A.fail ""
  | .adr id i j=>if (thp c s id).any kdT then K (.adr id i (j+d)) s else A.fail ""
  | .fq t x o=>K (.fq t x (o+d)) s
  | .c (.pt t) x=>K (.fq t (A.k1 (x:=.pt t) (y:=t) "" (λv=>v) x) d) s
  | _=>A.fail "fieldAddr"
def kvD (s:TS A) (T:Yc) (v:TV A) (f:Nat) (K:TV A->TS A->A.Ans ρ):A.Ans ρ:=
 match fldO P T f with
 | none=>A.fail "field type"
 | some (d,ft)=>match aggO P ft with
  | none=>A.fail "field type"
  | some ag=>let m:=P.cellsOf ft
   match v with
   | .c t x=>if t.agg then partX t x d m ag λv=>K v s else A.fail "field"
   | .ag vs=>if ag then (if d+m<=vs.length then K (.ag ((vs.drop d).take m)) s else A.fail "field") else match vs[d]? with
    | some v=>K v s
    | none=>A.fail "field"
   | _=>A.fail "field"
def kqt (s:TS A) (T:Yc) (v i:TV A) (K:TV A->TS A->A.Ans ρ):A.Ans ρ:=
 match kfo i with
 | none=>A.fail "index kind"
 | some i=>match v with
  | .c (.sl t) l=>if elemO P T=none\/(elemO P T).map P.cellsOf≠some t.wd\/t.wd=0 then A.fail "index type" else A.p2 (x:=.sl t) (y:=.i .i64) (z:=t) "" (λl i=>gi l i) l i λy=>K (.fq t y 0) s
  | .mw id=>match thp c s id,elemO P T with
   | some (.sl _ t l),some e=>if t.wd=P.cellsOf e/\t.wd≠0 then A.p2 (x:=.sl t) (y:=.i .i64) (z:=t) "" (λl i=>gi l i) l i λ_=>K (.adr id i 0) s else A.fail "index width"
   | _,_=>A.fail ""
  | .ms id off len=>match thp c s id,elemO P T with
   | some (.sl _ t l),some e=>if t.wd=P.cellsOf e/\t.wd≠0 then A.p3 (x:=.i .i64) (y:=.i .i64) (z:=.i .i64) (u:=.i .i64) "" (λo n i=>gmi o n i) off len i λj=>K (.adr id j 0) s else A.fail "index width"
   | _,_=>A.fail ""
  | .ptr id j=>if j≠0 then A.fail "index array" else match thp c s id,arrO P T with
   | some (.el _ (.ar n t) x),some (m,e)=>if m=n/\t.wd=1/\P.cellsOf e=1 then A.p2 (x:=.ar n t) (y:=.i .i64) (z:=t) "" (λl i=>garr l i) x i λ_=>K (.aa id i) s else A.fail "index array"
   | _,_=>A.fail ""
  | _=>A.fail "indexAddr"
def idxAg (s:TS A) (m:Nat) (ag:Bool) (vs:Ya (TV A)) (i:A.D (.i .i64)) (K:TV A->TS A->A.Ans ρ):Nat->Nat->A.Ans ρ
 | 0,_=>A.stop
 | f+1,k=>A.ite (A.k1 (x:=.i .i64) (y:=.b) (""++toString k++ "") (λ(i:Int)=>decide (i=(k:Int))) i)
   (match ag with
    | true=>K (.ag ((vs.drop (k*m)).take m)) s
    | false=>match vs[k*m]? with
     | some v=>K v s
     | none=>A.fail "index of a value")
   (idxAg s m ag vs i K f (k+1))
def idxX (s:TS A) (T:Yc) (v i:TV A) (K:TV A->TS A->A.Ans ρ):A.Ans ρ:=
 match v with
 | .c .s l=>match getI i with
  | none=>A.fail "index kind"
  | some ⟨k,i⟩=>if kjA P T then A.p2 (x:=.s) (y:=.i k) (z:=.i .u8) "" gstr l i λy=>K (.c (.i .u8) y) s else A.fail "index type"
 | v=>match kfo i with
 | none=>A.fail "index kind"
 | some i=>match v with
  | .c (.ar n t) x=>match arrO P T with
   | some (m,e)=>if m=n/\t.wd=P.cellsOf e/\t.wd≠0/\aggO P e=some t.agg then A.p2 (x:=.ar n t) (y:=.i .i64) (z:=t) "" (λl i=>garr l i) x i λy=>K (.c t y) s else A.fail "index array"
   | none=>A.fail "index array"
  | .ag vs=>match arrO P T with
   | some (m,e)=>match aggO P e with
    | some ag=>if P.cellsOf e≠0/\vs.length=m*P.cellsOf e then idxAg s (P.cellsOf e) ag vs i K m 0 else A.fail "index value"
    | none=>A.fail "index value"
   | none=>A.fail "index value"
  | _=>A.fail "index"
def lenX (s:TS A) (T:Yc) (v:TV A) (K:TV A->TS A->A.Ans ρ):A.Ans ρ:=
 match v with
 | .c (.sl t) l=>if (elemO P T).isSome then K (.c (.i .i64) (A.k1 (x:=.sl t) (y:=.i .i64) "" (λl=>lenI l) l)) s else A.fail "len type"
 | .mw id=>match thp c s id with
  | some (.sl _ t l)=>if (elemO P T).isSome then K (.c (.i .i64) (A.k1 (x:=.sl t) (y:=.i .i64) "" (λl=>lenI l) l)) s else A.fail "len type"
  | _=>A.fail ""
 | .ms id _ len=>match thp c s id with
  | some (.sl _ _ _)=>if (elemO P T).isSome then K (.c (.i .i64) len) s else A.fail "len type"
  | _=>A.fail ""
 | .sc u=>if kcv u/\(elemO P T).isSome then K (.c (.i .i64) (toI A 0 .i64)) s else A.fail "len type"
 | .c .s l=>if kjA P T then K (.c (.i .i64) (A.k1 (x:=.s) (y:=.i .i64) "" (λl=>lenI l) l)) s else A.fail "len type"
 | .mp id=>match thp c s id with
  | some (.mp k v l)=>if kvC P T then K (.c (.i .i64) (A.k1 (x:=.sl (.pr k v)) (y:=.i .i64) "" (λl=>lenI l) l)) s else A.fail "len type"
  | _=>A.fail ""
 | _=>A.fail "len"
def loD (lo:Yb (TV A)):Yb (A.D (.i .i64)):=
 match lo with
 | none=>some (toI A 0 .i64)
 | some v=>kfo v
def hiD (hi:Yb (TV A)) (n:A.D (.i .i64)):Yb (A.D (.i .i64)):=
 match hi with
 | none=>some n
 | some v=>kfo v
def kvS (s:TS A) (T:Yc) (v:TV A) (lo hi:Yb (TV A)) (K:TV A->TS A->A.Ans ρ):A.Ans ρ:=
 match loD lo with
 | none=>A.fail "slice bounds"
 | some lo=>
  match v with
  | .c (.sl t) l=>match hiD hi (A.k1 (x:=.sl t) (y:=.i .i64) "" (λl=>lenI l) l),elemO P T with
   | some hi,some e=>if t.wd=P.cellsOf e/\(P.info? e).isSome/\s.dy=false then A.p3 (x:=.sl t) (y:=.i .i64) (z:=.i .i64) (u:=.sl t) "" (λl a b=>gsl l a b) l lo hi λy=>K (.c (.sl t) y) s else A.fail "slice type"
   | _,_=>A.fail "slice bounds"
  | .mw id=>match thp c s id with
   | some (.sl _ t l)=>match hiD hi (A.k1 (x:=.sl t) (y:=.i .i64) "" (λl=>lenI l) l),elemO P T with
    | some hi,some e=>if t.wd=P.cellsOf e/\t.wd≠0/\(P.info? e).isSome then A.p3 (x:=.sl t) (y:=.i .i64) (z:=.i .i64) (u:=.sl t) "" (λl a b=>gsl l a b) l lo hi λ_=>
      K (.ms id lo (A.k2 (x:=.i .i64) (y:=.i .i64) (z:=.i .i64) "" (λ(a b:Int)=>a-b) hi lo)) s else A.fail "slice type"
    | _,_=>A.fail "slice bounds"
   | _=>A.fail ""
  | .ms id off len=>match thp c s id with
   | some (.sl _ t _)=>match hiD hi len,elemO P T with
    | some hi,some e=>if t.wd=P.cellsOf e/\t.wd≠0/\(P.info? e).isSome then A.p3 (x:=.i .i64) (y:=.i .i64) (z:=.i .i64) (u:=.un) "" (λn a b=>gmb n a b) len lo hi λ_=>
      K (.ms id (A.k2 (x:=.i .i64) (y:=.i .i64) (z:=.i .i64) "" (λ(a b:Int)=>a+b) off lo) (A.k2 (x:=.i .i64) (y:=.i .i64) (z:=.i .i64) "" (λ(a b:Int)=>a-b) hi lo)) s else A.fail "slice type"
    | _,_=>A.fail "slice bounds"
   | _=>A.fail ""
  | .c .s l=>match hiD hi (A.k1 (x:=.s) (y:=.i .i64) "" (λl=>lenI l) l) with
   | some hi=>if kjA P T then A.p3 (x:=.s) (y:=.i .i64) (z:=.i .i64) (u:=.s) "" (λl a b=>gsl l a b) l lo hi λy=>K (.c .s y) s else A.fail "slice type"
   | none=>A.fail "slice bounds"
  | _=>A.fail "slice"
def srcX (s:TS A) (t:Ty) (v:TV A):Yb (A.D (.sl t)×Ya Nat):=
 match v with
 | .c _ _=>if s.dy then none else snapV c s (.sl t) v
 | .fw _=>none
 | v=>snapV c s (.sl t) v
def appX (s:TS A) (T i:Yc) (d v:TV A) (K:TV A->TS A->A.Ans ρ):A.Ans ρ:=
 match elemO P T with
 | none=>A.fail "append type"
 | some e=>match tyOf P e,zeroO P e with
  | some t,some z=>
   if klP P i/\z.length=t.wd/\t.wd≠0/\P.bytesOf e<=1024 then
    match srcX c s t v with
    | none=>A.fail "append source"
    | some (xs,ids)=>
     let f:=λ(s:TS A) (l:A.D (.sl t))=>A.p2 (x:=.sl t) (y:=.sl t) (z:=.sl t) "" (λa b=>gapp a b) l xs λl'=>newSl s e t l' K
     match d with
     | .mw id=>match alk s.hp id with
      | some (some (.sl e' t' l))=>if e'=e/\¬ id∈ids then match tcast (.sl t) l with
        | some l=>f { s with hp:=(id,none)::s.hp } l
        | none=>A.fail "append elem"
       else A.fail "append elem"
      | _=>A.fail ""
     | .sc u=>if kcv u then f s (A.k0 (x:=.sl t) "" []) else A.fail "append"
     | _=>A.fail "append"
   else A.fail "append plain"
  | _,_=>A.fail "append elem type"
def copyX (s:TS A) (T:Yc) (d v:TV A) (K:TV A->TS A->A.Ans ρ):A.Ans ρ:=
 match elemO P T with
 | none=>A.fail "copy type"
 | some e=>match tyOf P e,zeroO P e with
  | some t,some z=>
   if z.length=t.wd/\t.wd≠0 then
    match srcX c s t v with
    | none=>A.fail "copy source"
    | some (xs,_)=>
     let nn:=λ(len:A.D (.i .i64))=>A.k2 (x:=.i .i64) (y:=.i .i64) (z:=.i .i64) "" (λ(a b:Int)=>if b<a then b else a) (A.k1 (x:=.sl t) (y:=.i .i64) "" (λl=>lenI l) xs) len
     match d with
     | .mw id=>match alk s.hp id with
      | some (some (.sl e' t' l))=>match tcast (.sl t) l with
       | some l=>K (.c (.i .i64) (nn (A.k1 (x:=.sl t) (y:=.i .i64) "" (λl=>lenI l) l))) { s with hp:=(id,some (.sl e' t (A.k2 (x:=.sl t) (y:=.sl t) (z:=.sl t) "" (λl xs=>lcopy l 0 (lenI l) xs) l xs)))::s.hp }
       | none=>A.fail "copy elem"
      | _=>A.fail ""
     | .ms id off len=>match alk s.hp id with
      | some (some (.sl e' t' l))=>match tcast (.sl t) l with
       | some l=>K (.c (.i .i64) (nn len)) { s with hp:=(id,some (.sl e' t (A.k3 (x:=.sl t) (y:=.pr (.i .i64) (.i .i64)) (z:=.sl t) (u:=.sl t) "" (λl p xs=>lcopy l p.1 p.2 xs) l (A.k2 (x:=.i .i64) (y:=.i .i64) (z:=.pr (.i .i64) (.i .i64)) "" Prod.mk off len) xs)))::s.hp }
       | none=>A.fail "copy elem"
      | _=>A.fail ""
     | .sc u=>if kcv u then K (.c (.i .i64) (toI A 0 .i64)) s else A.fail "copy"
     | _=>A.fail "copy"
   else A.fail "copy plain"
  | _,_=>A.fail "copy elem type"
def mmX (mx:Bool) (s:TS A) (x y:TV A) (K:TV A->TS A->A.Ans ρ):A.Ans ρ:=
 match x,y with
 | .c (.i k) a,.c (.i k') b=>if k=k' then K (.c (.i k) (if mx then A.k2 (x:=.i k) (y:=.i k') (z:=.i k) "" (λ(a b:Int)=>if a<b then b else a) a b else A.k2 (x:=.i k) (y:=.i k') (z:=.i k) "" (λ(a b:Int)=>if b<a then b else a) a b)) s else A.fail "minmax"
 | _,_=>A.fail "minmax"
def imax (a b:Int):Int:=if a<b then b else a
def imin (a b:Int):Int:=if b<a then b else a
def TV.has (id:Nat):TV A->Bool
 | .ptr i _=>i==id
 | .adr i _ _=>i==id
 | .aa i _=>i==id
 | .mw i=>i==id
 | .ms i _ _=>i==id
 | .mp i=>i==id
 | .fw i=>i==id
 | .fr i _=>i==id
 | .fo i _ _=>i==id
 | .fa i _ _ _=>i==id
 | .yl i=>i==id
 | .kp i=>i==id
 | .fn _ vs=>hasL vs
 | .tp vs=>hasL vs
 | .ag vs=>hasL vs
 | _=>false
where hasL:Ya (TV A)->Bool
 | []=>false
 | v::vs=>v.has id||hasL vs
def TB.has (id:Nat):TB A->Bool
 | .bx _ vs=>TV.has.hasL id vs
 | _=>false
def Cx.has (c:Cx A) (id:Nat):Bool:=(alk c.g id).isSome||c.e0.any (λx=>x.2.has id)||c.g.any (λx=>x.2.has id)
mutual
def pvT:TV A->PV
 | .c t _=>.c t
 | .kb _=>.c .b
 | .sc v=>.sc v
 | .ptr i j=>.ptr i j
 | .mw i=>.mw i
 | .mp i=>.mp i
 | .fw i=>.fw i
 | .fn g cs=>.fn g (pvTs cs)
 | .ag vs=>.ag (pvTs vs)
 | .ud=>.ud
 | .gs t _=>.gs t
 | .cv n x y _=>.c (.fn n x y)
 | _=>.un
def pvTs:Ya (TV A)->Ya PV
 | []=>[]
 | v::vs=>pvT v::pvTs vs
end
def pbT:TB A->PB
 | .bx T vs=>.bx T (pvTs vs)
 | .el T t _=>.el T t
 | .sl T t _=>.sl T t
 | .mp k v _=>.mp k v
 | .fm T t j U u _ _=>.fm T t j U u
 | .si _=>.si
mutual
def TV.ids:TV A->Ya Nat
 | .ptr i _=>[i]
 | .adr i _ _=>[i]
 | .aa i _=>[i]
 | .mw i=>[i]
 | .ms i _ _=>[i]
 | .mp i=>[i]
 | .fw i=>[i]
 | .fr i _=>[i]
 | .fo i _ _=>[i]
 | .fa i _ _ _=>[i]
 | .yl i=>[i]
 | .kp i=>[i]
 | .fn _ vs=>TV.idsL vs
 | .tp vs=>TV.idsL vs
 | .ag vs=>TV.idsL vs
 | _=>[]
def TV.idsL:Ya (TV A)->Ya Nat
 | []=>[]
 | v::vs=>v.ids++TV.idsL vs
end
def askX (s:TS A) (g:Nat) (args:Ya (TV A)):A.Ans ρ:=
 match args.any λv=>match v with | .sc (.pointer none)=>true | _=>false with
 | true=>A.stop
 | false=>match c.g.find? λx=>args.any (λv=>v.has x.1)||s.hp.any (λy=>y.2.any λb=>b.has x.1) with
 | some x=>A.fail ""
 | none=>match (args.flatMap λv=>v.ids++v.ids.flatMap λi=>match thp c s i with | some (.bx _ vs)=>TV.idsL vs | _=>[]).find? λi=>(thp c s i).isNone with
 | some i=>A.fail ""
 | none=>A.ask g (args.zipIdx.map λx=>(x.2,pvT x.1)) (s.hp.filterMap λx=>x.2.map λb=>(x.1,pbT b))
def askR (s:TS A):A.Ans ρ:=A.ask 1000000 ((s.env++c.e0).map λx=>(x.1,pvT x.2)) ((s.hp.filterMap λx=>x.2.map λb=>(x.1,pbT b))++c.g.map λx=>(x.1,pbT x.2))
structure Mt (A:Alg) where
 ids:List (Nat×Nat)
 cs:List ((t:Ty)×A.D t)
 sn:List Nat
def Mt.bindId (m:Mt A) (p q:Nat):Yb (Mt A):=
 match alk m.ids p with
 | some a=>if q=a then some m else none
 | none=>if m.ids.all λx=>x.2 != q then some { m with ids:=(p,q)::m.ids } else none
mutual
def mtV (s:TS A):PV->TV A->Mt A->Yb (Mt A)
 | .un,_,m=>some m
 | .ud,.ud,m=>some m
 | .gs t,.gs t' l,m=>(tcast (.sl t) l).map λy=>{ m with cs:=m.cs++[⟨.sl t,y⟩] }
 | .c t,v,m=>(snapV c s t v).map λy=>{ m with cs:=m.cs++[⟨t,y.1⟩],sn:=m.sn++y.2 }
 | .sc u,.sc v,m=>if (kcv u/\kcv v)\/(kmh u/\kmh v) then some m else none
 | .ptr p j,.ptr q j',m=>if j=j' then m.bindId p q else none
 | .mw p,.mw q,m=>m.bindId p q
 | .mp p,.mp q,m=>m.bindId p q
 | .fw p,.fw q,m=>m.bindId p q
 | .fn g vs,.fn g' us,m=>if g=g' then mtL s vs us m else none
 | .ag vs,.ag us,m=>mtL s vs us m
 | _,_,_=>none
def mtL (s:TS A):Ya PV->Ya (TV A)->Mt A->Yb (Mt A)
 | [],[],m=>some m
 | v::vs,u::us,m=>(mtV s v u m).bind λm=>mtL s vs us m
 | _,_,_=>none
end
def mtB (s:TS A) (p:PB) (b:TB A) (m:Mt A):Yb (Mt A):=
 match p,b with
 | .bx T vs,.bx T' us=>if T=T' then mtL c s vs us m else none
 | .el T t,.el T' t' x=>if T=T' then (tcast t x).map λx=>{ m with cs:=m.cs++[⟨t,x⟩] } else none
 | .sl T t,.sl T' t' l=>if T=T' then (tcast (.sl t) l).map λx=>{ m with cs:=m.cs++[⟨.sl t,x⟩] } else none
 | .mp k v,.mp k' v' l=>(tcast (.sl (.pr k v)) l).map λx=>{ m with cs:=m.cs++[⟨.sl (.pr k v),x⟩] }
 | .fm T t j U u,.fm T' t' j' U' u' l none=>if T=T'/\j=j'/\U=U'/\u=u' then (tcast (.sl t) l).map λx=>{ m with cs:=m.cs++[⟨.sl t,x⟩] } else none
 | .si,.si x=>some { m with cs:=m.cs++[⟨.pr .s (.i .i64),x⟩] }
 | _,_=>none
def mtE (s:TS A):Ya (Nat×PV)->Mt A->Yb (Mt A)
 | [],m=>some m
 | (x,p)::r,m=>(mtV c s p (tlk c s x) m).bind λm=>mtE s r m
def mtI (m:Mt A) (id:Nat):Yb (Mt A):=if (alk m.ids id).isNone&&c.has id then m.bindId id id else some m
def mtH (s:TS A):Ya (Nat×PB)->Mt A->Yb (Mt A)
 | [],m=>some m
 | (id,p)::r,m=>(mtI c m id).bind λm=>match alk m.ids id with
  | none=>none
  | some q=>match alk s.hp q with
   | some (some b)=>(mtB c s p b m).bind λm=>mtH s r m
   | _=>none
def pack (N:Nat) (p:Pat) (s:TS A):Yb (A.D p.ty):=
 (mtE c s p.env ⟨[],[],[]⟩).bind λm=>(mtH c s p.hp m).bind λm=>
  if m.sn.all (λq=>(ownB s q).isSome&&!c.has q&&m.ids.all λx=>x.2 != q)&&m.ids.all (λx=>decide (x.1<N))&&m.ids.all (λx=>decide (x.1=x.2)||((alk p.hp x.1).isSome&&!c.has x.1)) then mkT A p.tys m.cs else none
def packM (N:Nat) (p:Pat) (s:TS A) (a:Ya Nat:=[]):Yb (Mt A):=
 (mtE c s p.env ⟨a.map λi=>(i,i),[],[]⟩).bind λm=>(mtH c s p.hp m).bind λm=>
  if m.ids.all (λx=>decide (x.1<N)) then some m else none
mutual
def unV:PV->Ya ((t:Ty)×A.D t)->TV A×Ya ((t:Ty)×A.D t)
 | .c _,x::xs=>(.c x.1 x.2,xs)
 | .c _,[]=>(.un,[])
 | .gs t,x::xs=>(match tcast (.sl t) x.2 with | some y=>.gs t y | none=>.un,xs)
 | .gs _,[]=>(.un,[])
 | .un,xs=>(.un,xs)
 | .ud,xs=>(.ud,xs)
 | .sc v,xs=>(.sc v,xs)
 | .ptr p j,xs=>(.ptr p j,xs)
 | .mw p,xs=>(.mw p,xs)
 | .mp p,xs=>(.mp p,xs)
 | .fw p,xs=>(.fw p,xs)
 | .fn g vs,xs=>let r:=unL vs xs; (.fn g r.1,r.2)
 | .ag vs,xs=>let r:=unL vs xs; (.ag r.1,r.2)
def unL:Ya PV->Ya ((t:Ty)×A.D t)->Ya (TV A)×Ya ((t:Ty)×A.D t)
 | [],xs=>([],xs)
 | v::vs,xs=>let r:=unV v xs; let q:=unL vs r.2; (r.1::q.1,q.2)
end
def unB:PB->Ya ((t:Ty)×A.D t)->Yb (TB A)×Ya ((t:Ty)×A.D t)
 | .bx T vs,xs=>let r:=unL vs xs; (some (.bx T r.1),r.2)
 | .el T t,x::xs=>((tcast t x.2).map λy=>.el T t y,xs)
 | .sl T t,x::xs=>((tcast (.sl t) x.2).map λy=>.sl T t y,xs)
 | .mp k v,x::xs=>((tcast (.sl (.pr k v)) x.2).map λy=>.mp k v y,xs)
 | .fm T t j U u,x::xs=>((tcast (.sl t) x.2).map λy=>.fm T t j U u y none,xs)
 | .si,x::xs=>((tcast (.pr .s (.i .i64)) x.2).map λy=>.si y,xs)
 | _,[]=>(none,[])
def unE:Ya (Nat×PV)->Ya ((t:Ty)×A.D t)->Ya (Nat×TV A)×Ya ((t:Ty)×A.D t)
 | [],xs=>([],xs)
 | (k,v)::vs,xs=>let r:=unV v xs; let q:=unE vs r.2; ((k,r.1)::q.1,q.2)
def unH:Ya (Nat×PB)->Ya ((t:Ty)×A.D t)->Ya (Nat×Yb (TB A))×Ya ((t:Ty)×A.D t)
 | [],xs=>([],xs)
 | (k,v)::vs,xs=>let r:=unB v xs; let q:=unH vs r.2; ((k,r.1)::q.1,q.2)
def kal (p:Pat) (n:Nat) (l:Ya ((t:Ty)×A.D t)):TS A:=
 let e:=unE p.env l
 let h:=unH p.hp e.2
 ⟨e.1,h.1,n,true⟩
def kae (p:Pat) (n:Nat) (x:A.D p.ty):TS A:=
 let l:=unT A p.tys x
 let e:=unE p.env l
 let h:=unH p.hp e.2
 ⟨e.1,h.1,n,true⟩
mutual
def renV (f:Nat->Nat):TV A->TV A
 | .ptr i j=>.ptr (f i) j
 | .adr i x j=>.adr (f i) x j
 | .aa i x=>.aa (f i) x
 | .mw i=>.mw (f i)
 | .ms i a b=>.ms (f i) a b
 | .mp i=>.mp (f i)
 | .fw i=>.fw (f i)
 | .fr i x=>.fr (f i) x
 | .fo i x j=>.fo (f i) x j
 | .fa i x k o=>.fa (f i) x k o
 | .yl i=>.yl (f i)
 | .kp i=>.kp (f i)
 | .fn g vs=>.fn g (renL f vs)
 | .tp vs=>.tp (renL f vs)
 | .ag vs=>.ag (renL f vs)
 | v=>v
def renL (f:Nat->Nat):Ya (TV A)->Ya (TV A)
 | []=>[]
 | v::vs=>renV f v::renL f vs
end
def renB (f:Nat->Nat):TB A->TB A
 | .bx T vs=>.bx T (renL f vs)
 | b=>b
def pureV:Ya (Yb Ty)->Ya (TV A)->Ya (TV A)
 | some _::ks,v::vs=>v::pureV ks vs
 | none::ks,_::vs=>pureV ks vs
 | _,_=>[]
def TV.all (f w:Nat->Bool):TV A->Bool
 | .un=>false
 | .ptr i _=>f i
 | .adr i _ _=>f i&&w i
 | .aa i _=>f i&&w i
 | .mw i=>f i&&w i
 | .ms i _ _=>f i&&w i
 | .mp i=>f i
 | .fw i=>f i&&w i
 | .fr _ _=>false
 | .fo i _ _=>f i&&w i
 | .fa _ _ _ _=>false
 | .gs _ _=>false
 | .yl _=>false
 | .kp _=>false
 | .fn _ vs=>allL vs
 | .tp vs=>allL vs
 | .ag vs=>allL vs
 | _=>true
where allL:Ya (TV A)->Bool
 | []=>true
 | v::vs=>v.all f w&&allL vs
def TB.all (f w:Nat->Bool):TB A->Bool
 | .bx _ vs=>TV.all.allL f w vs
 | .fm _ _ _ _ _ _ a=>a.isNone
 | _=>true
def TB.needL:TB A->Bool
 | .sl _ _ _=>true
 | .el _ (.ar _ _) _=>true
 | .fm _ _ _ _ _ _ _=>true
 | _=>false
def kvA:PV->PV->Nat->Bool
 | .ptr i j,.ptr i' j',p=>i==p&&i'==p&&j==j'
 | .mp i,.mp i',p=>i==p&&i'==p
 | _,_,_=>false
def sameW:PV->PV->Nat->Bool
 | .mw i,.mw i',p=>i==p&&i'==p
 | _,_,_=>false
def CtrM.slot (C:CtrM) (f:PV->PV->Nat->Bool) (i:Nat):Bool:=
 (alk C.inp.hp i).isSome&&C.inp.env.any (λy=>decide (y.1<C.ks.length)&&match alk C.inp.env y.1,alk C.out.env y.1 with | some u,some v=>f u v i | _,_=>false)
def CtrM.inn (C:CtrM):Ya Nat:=(C.inp.hp.filter λx=>(alk C.out.hp x.1).isSome).map (·.1)
def CtrM.keptW (C:CtrM) (i:Nat):Bool:=decide (C.n0<=i)||C.slot sameW i||C.inn.contains i
def CtrM.kept (C:CtrM) (i:Nat):Bool:=C.keptW i||C.slot kvA i||C.inn.contains i
def CtrM.ok (C:CtrM):Bool:=
 decide (C.n0<=C.n1)&&decide (C.ks.length<=1000000)&&C.inp.hp.all (λx=>decide (x.1<C.n0))
def CtrM.okU (C:CtrM) (u:TS A):Bool:=
 let has:=λi=>(alk u.hp i).isSome
 u.hp.all (λx=>match x.2 with
  | some b=>decide (x.1<C.n1)&&b.all has C.keptW&&C.kept x.1&&(!b.needL||C.keptW x.1)
  | none=>false)
 && (List.range C.nr).all (λi=>match alk u.env (1000000+i) with
  | some v=>v.all has C.keptW
  | none=>false)
def TV.flt:TV A->Bool
 | .c t _=>t.flat
 | .un=>false
 | .ud=>false
 | .fq _ _ _=>false
 | .gs _ _=>false
 | .yl _=>false
 | .kp _=>false
 | .cv _ _ _ _=>false
 | .fn _ vs=>fltL vs
 | .tp vs=>fltL vs
 | .ag vs=>fltL vs
 | _=>true
where fltL:Ya (TV A)->Bool
 | []=>true
 | v::vs=>v.flt&&fltL vs
def cellF:Ty->Ya Nat
 | .i _ | .b | .s=>[0]
 | .un=>[]
 | .w x=>cellF x
 | .pr x y=>cellF x++cellF y
 | .sl x=>[if x.flat then 1 else 2]
 | .pt _ | .op _=>[2]
 | .ar n x=>List.replicate (n*x.wd) 2
 | _=>[]
def TB.flt:TB A->Bool
 | .bx _ vs=>TV.flt.fltL vs
 | .el _ t _=>t.flat
 | .sl _ t _=>t.flat
 | .mp _ v _=>v.flat
 | .fm _ t j _ _ _ _=>(cellF t).zipIdx.all λx=>x.1==0||(x.1==1&&x.2==j)
 | .si _=>true
def CtrM.okF (C:CtrM) (u:TS A):Bool:=
 u.hp.all (λx=>match x.2 with
  | some b=>b.flt
  | none=>false)
 && (List.range C.nr).all (λi=>match alk u.env (1000000+i) with
  | some v=>v.flt
  | none=>false)
def patE:Ya (Yb Ty)->Ya (TV A)->Nat->Ya (Nat×TV A)
 | some _::ks,_::vs,i=>patE ks vs (i+1)
 | none::ks,v::vs,i=>(i,v)::patE ks vs (i+1)
 | _,_,_=>[]
def renC (C:CtrM) (ids:Ya (Nat×Nat)) (n:Nat) (p:Nat):Nat:=if p<C.n0 then (alk ids p).getD 0 else n+(p-C.n0)
def resT (C:CtrM) (u:TS A) (f:Nat->Nat):TV A:=
 match (List.range C.nr).map λi=>renV f ((alk u.env (1000000+i)).getD .un) with
 | [v]=>v
 | vs=>.tp vs
def khh (C:CtrM) (s u:TS A) (ids:Ya (Nat×Nat)):TS A:=
 ⟨s.env,u.hp.map (λx=>(renC C ids s.n x.1,x.2.map (renB (renC C ids s.n))))++(ids.map λx=>(x.2,none))++s.hp,s.n+(C.n1-C.n0),false⟩
def pickM (Δ:Ya (FuncId×Ctr)) (s:TS A) (args:Ya (TV A)):Ya CtrM->Yb CtrM
 | []=>none
 | C::l=>if args.length=C.ks.length&&(kdH c Δ s (C.ks.filterMap id) (pureV C.ks args)).isSome&&(packM ⟨[],c.g⟩ C.n0 C.inp ⟨patE C.ks args 0,s.hp,s.n,s.dy⟩).isSome then some C else pickM Δ s args l
def kkN (Δ:Ya (FuncId×Ctr)) (s:TS A) (C:CtrM) (args:Ya (TV A)) (K:TV A->TS A->A.Ans ρ):A.Ans ρ:=
 if args.length≠C.ks.length||s.dy||!C.ok then A.fail "callM" else
 match kdH c Δ s (C.ks.filterMap id) (pureV C.ks args) with
 | some (l,ids)=>match packM ⟨[],c.g⟩ C.n0 C.inp ⟨patE C.ks args 0,s.hp,s.n,s.dy⟩ with
  | some m=>if m.sn.isEmpty&&m.ids.all (λx=>(ownB s x.2).isSome&&(alk C.inp.hp x.1).isSome&&(alk m.ids x.1==some x.2))&&ids.all (λid=>m.ids.all λx=>x.2 != id) then match mkT A (C.ks.filterMap id++C.inp.tys) (l++m.cs) with
    | some a=>A.p1 (x:=tup (C.ks.filterMap id++C.inp.tys)) (y:=C.out.ty) C.nm C.F a λy=>
      let u:=kae C.out C.n1 y
      if C.okU u&&(ids.isEmpty||C.okF u) then K (resT C u (renC C m.ids s.n)) (khh C s u m.ids) else A.fail "callM state"
    | none=>A.fail "callM types"
   else A.fail "callM frozen"
  | none=>A.fail "callM pattern"
 | _=>A.fail "callM plain arguments"
def fillT (pl:Ya (Nat×Nat)) (s:TS A):Ya (Nat×Yf)->Ya (TV A)->Yb (Ya (TV A))
 | [],cs=>some cs
 | (i,x)::r,cs=>match pl[i]?,kaL (tev c s x) with
  | some (o,m),some xs=>if xs.length=m/\o+m<=cs.length then fillT pl s r (cs.take o++xs++cs.drop (o+m)) else none
  | _,_=>none
def kuv (s:TS A) (T:Yc) (a:Ya (Nat×Yf)) (K:TV A->TS A->A.Ans ρ):A.Ans ρ:=
 match zeroO P T,kjf P 9 T,kkn P T with
 | some z,some Ts,some pl=>if z.length=Ts.length then
   let r:=zeroC P s z Ts
   match fillT c pl s a r.1 with
   | some vs=>K (.ag vs) r.2
   | none=>A.fail "build parts"
  else A.fail "build cells"
 | _,_,_=>A.fail "build type"
def lstD (t:Ty):Ya (A.D t)->A.D (.sl t)
 | []=>A.k0 (x:=.sl t) "" []
 | x::xs=>A.k2 (x:=t) (y:=.sl t) (z:=.sl t) "" List.cons x (lstD t xs)
def koJ (s:TS A) (t:Ty):Ya (Nat×Yf)->Nat->Yb (Ya (A.D t)×Ya Nat)
 | [],_=>some ([],[])
 | (i,x)::r,j=>if i=j then (snapV c s t (tev c s x)).bind λy=>(koJ s t r (j+1)).map λz=>(y.1::z.1,y.2++z.2) else none
def klx (s:TS A) (T:Yc) (len:Nat) (a:Ya (Nat×Yf)) (K:TV A->TS A->A.Ans ρ):A.Ans ρ:=
 match elemO P T with
 | none=>A.fail "buildSlice type"
 | some e=>match tyOf P e,zeroO P e with
  | some t,some z=>if len<=1000/\z.length<=1000/\z.length=t.wd then
    if a.length=len then match koJ c s t a 0 with
     | some (xs,ids)=>match retire s ids with
      | some s'=>newSl s' e t (lstD t xs) K
      | none=>A.fail "buildSlice retire"
     | none=>A.fail "buildSlice parts"
    else A.fail "buildSlice length"
   else A.fail "buildSlice"
  | _,_=>A.fail "buildSlice elem"
def kmw (s:TS A) (T:Yc) (x y:TV A) (same:Bool) (K:TV A->TS A->A.Ans ρ):A.Ans ρ:=
 match elemO P T with
 | none=>A.fail "makeSlice type"
 | some e=>match tyOf P e,zeroO P e,x with
  | some t,some z,.c (.i .i64) n=>match zeroD t with
   | some a=>if same/\(isZ t z).any List.isEmpty/\z.length=t.wd/\t.wd≠0/\P.bytesOf e<=1024 then A.p2 (x:=.i .i64) (y:=t) (z:=.sl t) "" (λn z=>gmk n z) n a λl=>newSl s e t l K else A.fail "makeSlice"
   | none=>A.fail "makeSlice zero"
  | _,_,_=>A.fail "makeSlice elem"
instance arrDec {n:Nat} {α:Type} [DecidableEq α]:DecidableEq (Arr n α):=λa b=>
 match decEq a.l b.l with
 | .isTrue h=>.isTrue (by cases a; cases b; simp only at h; subst h; rfl)
 | .isFalse h=>.isFalse λe=>h (by rw [e])
def isKey:Ty->Bool
 | .i _ | .s | .b=>true
 | .w a=>isKey a
 | .pr a b=>isKey a&&isKey b
 | .ar _ a=>isKey a
 | _=>false
def kbT:(k:Ty)->isKey k=true->DecidableEq k.den
 | .i _,_=>(inferInstance:DecidableEq Int)
 | .s,_=>(inferInstance:DecidableEq (Ya UInt8))
 | .b,_=>(inferInstance:DecidableEq Bool)
 | .w a,h=>kbT a h
 | .pr a b,h=>@instDecidableEqProd _ _ (kbT a (Bool.and_eq_true_iff.1 h).1) (kbT b (Bool.and_eq_true_iff.1 h).2)
 | .ar _ a,h=>@arrDec _ _ (kbT a h)
 | .un,h=>absurd h (by decide) | .nt,h=>absurd h (by decide) | .sl _,h=>absurd h Bool.false_ne_true | .pt _,h=>absurd h Bool.false_ne_true | .op _,h=>absurd h Bool.false_ne_true | .sm _ _,h=>absurd h Bool.false_ne_true | .fn _ _ _,h=>absurd h Bool.false_ne_true
def keyFs (P:Yd) (a:Yc->Ty->Bool):Ya Field->Nat->Ty->Bool
 | [],_,_=>false
 | [f],o,t=>f.name != "_"&&decide (f.offset=o)&&decide (P.cellsOf f.type=t.wd)&&decide (aggO P f.type=some t.agg)&&a f.type t
 | f::g::fs,o,t=>match t with
  | .pr u v=>f.name != "_"&&decide (f.offset=o)&&decide (P.cellsOf f.type=u.wd)&&decide (aggO P f.type=some u.agg)&&a f.type u&&keyFs P a (g::fs) (o+u.wd) v
  | _=>false
def keyTF (P:Yd):Nat->Yc->Ty->Bool
 | 0,_,_=>false
 | d+1,T,t=>match P.underlying T with
  | some .bool=>decide (t = .b)
  | some (.int k)=>decide (t = .i k)
  | some .string=>decide (t = .s)
  | some (.struct fs)=>!P.stoodInHeld T&&match fs.toList,t with
   | [f],.w u=>keyFs P (keyTF P d) [f] 0 u
   | [_],_=>false
   | fs,t=>keyFs P (keyTF P d) fs 0 t
  | some (.array n e)=>match t with
   | .ar m u=>decide (m=n)&&decide (P.cellsOf e=u.wd)&&decide (aggO P e=some u.agg)&&keyTF P d e u
   | _=>false
  | _=>false
def keyT (P:Yd) (kt:Yc):Ty->Bool
 | .i k=>decide (intO P kt=some k)
 | .s=>kjA P kt
 | .b=>koW P kt
 | t=>t.agg&&decide (aggO P kt=some true)&&keyTF P 9 kt t
def mgetT (k:Ty) {β:Type} (l:Ya (k.den×β)) (x:k.den):Yb β:=
 if h:isKey k=true then @mget _ _ (kbT k h) l x else none
def mputT (k:Ty) {β:Type} (l:Ya (k.den×β)) (x:k.den) (v:β):Ya (k.den×β):=
 if h:isKey k=true then @mput _ _ (kbT k h) l x v else l
def ment {κ β:Type} [DecidableEq κ] (l:Ya (κ×β)) (k:κ) (z:β):Ya (κ×β):=match mget l k with | some _=>l | none=>l++[(k,z)]
def midxN {κ β:Type} [DecidableEq κ] (k:κ):Ya (κ×β)->Nat
 | []=>0
 | p::r=>if k=p.1 then 0 else midxN k r+1
def midx {κ β:Type} [DecidableEq κ] (l:Ya (κ×β)) (k:κ):Int:=(midxN k l:Nat)
def mset {κ β:Type} (l:Ya (κ×β)) (i:Int) (v:β):Ya (κ×β):=match l[i.toNat]? with | some p=>l.set i.toNat (p.1,v) | none=>l
def mentT (k:Ty) {β:Type} (l:Ya (k.den×β)) (x:k.den) (z:β):Ya (k.den×β):=
 if h:isKey k=true then @ment _ _ (kbT k h) l x z else l
def midxT (k:Ty) {β:Type} (l:Ya (k.den×β)) (x:k.den):Int:=
 if h:isKey k=true then @midx _ _ (kbT k h) l x else 0
def zvOk (v:Ty) (u:Ye):Bool:=match cst u with
 | .ag cs=>v.agg&&(isZ v cs).any List.isEmpty
 | .sc w=>!v.agg&&(isZ v [.sc w]).any List.isEmpty
 | _=>false
def kqE (s:TS A) (T:Yc) (K:TV A->TS A->A.Ans ρ):A.Ans ρ:=
 match mapO P T with
 | some (k,v)=>match tyOf P k,tyOf P v with
  | some k,some v=>if isKey k/\v.flat then K (.mp s.n) { s with hp:=(s.n,some (.mp k v (A.k0 (x:=.sl (.pr k v)) "" [])))::s.hp,n:=s.n+1 } else A.fail "makeMap key"
  | _,_=>A.fail "makeMap elem"
 | none=>A.fail "makeMap type"
def krY (s:TS A) (T:Yc) (m key:TV A) (ok:Bool) (K:TV A->TS A->A.Ans ρ):A.Ans ρ:=
 match m with
 | .mp id=>match thp c s id,mapO P T with
  | some (.mp k v l),some (kt,e)=>match snapV c s k key,zeroD (A:=A) v with
   | some (x,[]),some z=>
    let g:=A.k3 (x:=.sl (.pr k v)) (y:=k) (z:=v) (u:=v) "" (λl x z=>(mgetT k l x).getD z) l x z
    if isKey k/\keyT P kt k/\v.flat/\((zvO P e).any (zvOk v)) then
     if ok then K (.tp [.c v g,.c .b (A.k2 (x:=.sl (.pr k v)) (y:=k) (z:=.b) "" (λl x=>(mgetT k l x).isSome) l x)]) s else K (.c v g) s
    else A.fail "lookup type"
   | _,_=>A.fail "lookup key"
  | _,_=>A.fail ""
 | _=>A.fail "lookup"
def ksF (s:TS A) (T:Yc) (m key x:TV A) (K:TV A->TS A->A.Ans ρ):A.Ans ρ:=
 match m with
 | .mp id=>match alk s.hp id,mapO P T with
  | some (some (.mp k v l)),some (kt,e)=>match snapV c s k key,snapV c s v x with
   | some (y,[]),some (z,[])=>if isKey k/\keyT P kt k then setB s id (.mp k v (A.k3 (x:=.sl (.pr k v)) (y:=k) (z:=v) (u:=.sl (.pr k v)) "" (λl x z=>mputT k l x z) l y z)) K else A.fail "mapUpdate type"
   | _,_=>A.fail "mapUpdate value"
  | _,_=>A.fail ""
 | _=>A.fail "mapUpdate"
def ksE (s:TS A) (T:Yc) (m key:TV A) (K:TV A->TS A->A.Ans ρ):A.Ans ρ:=
 match m with
 | .mp id=>match alk s.hp id,mapO P T with
  | some (some (.mp k v l)),some (kt,e)=>match snapV c s k key,zeroD (A:=A) v with
   | some (x,[]),some z=>
    if isKey k/\keyT P kt k/\v.flat/\((zvO P e).any (zvOk v)) then
     K (.tp [.c v (A.k3 (x:=.sl (.pr k v)) (y:=k) (z:=v) (u:=v) "" (λl x z=>(mgetT k l x).getD z) l x z),.c (.i .i64) (A.k2 (x:=.sl (.pr k v)) (y:=k) (z:=.i .i64) "" (λl x=>midxT k l x) l x)])
      { s with hp:=(id,some (.mp k v (A.k3 (x:=.sl (.pr k v)) (y:=k) (z:=v) (u:=.sl (.pr k v)) "" (λl x z=>mentT k l x z) l x z)))::s.hp }
    else A.fail "mapEntry type"
   | _,_=>A.fail "mapEntry key"
  | _,_=>A.fail ""
 | _=>A.fail "mapEntry"
def kvv (s:TS A) (m st x:TV A) (K:TV A->TS A->A.Ans ρ):A.Ans ρ:=
 match m with
 | .mp id=>match alk s.hp id with
  | some (some (.mp k v l))=>match kfo st,snapV c s v x with
   | some i,some (z,[])=>A.p2 (x:=.sl (.pr k v)) (y:=.i .i64) (z:=.pr k v) "" (λl i=>gi l i) l i λ_=>
     setB s id (.mp k v (A.k3 (x:=.sl (.pr k v)) (y:=.i .i64) (z:=v) (u:=.sl (.pr k v)) "" (λl i z=>mset l i z) l i z)) K
   | _,_=>A.fail "entryStore value"
  | _=>A.fail ""
 | _=>A.fail "entryStore"
def callX (Δ:Ya (FuncId×Ctr)) (s:TS A) (f:TV A) (args:Ya (TV A)) (K:TV A->TS A->A.Ans ρ):A.Ans ρ:=
 match f with
 | .fn g b=>match alk Δ g with
  | none=>askX c s g (args++b)
  | some C=>match kdH c Δ s C.as (args++b) with
   | none=>askX c s g (args++b)
   | some (l,ids)=>match mkT A C.as l with
    | none=>A.fail ""
    | some a=>
     if C.rs.all Ty.flat then A.p1 C.nm C.F a λy=>K (tvR C.rs y) s
     else if s.dy then A.fail "" else match retire s ids with
      | none=>A.fail ""
      | some s'=>A.p1 C.nm C.F a λy=>K (tvR C.rs y) { s' with dy:=false }
 | .cv n x y F=>if h:tup (untup n x)=x then match snapM c s (untup n x) args with
   | none=>A.fail ""
   | some (l,_)=>match mkT A (untup n x) l with
    | none=>A.fail ""
    | some a=>if y.flat then A.p2 (x:=.fn n x y) (y:=x) (z:=y) "" (λF v=>F v) F (h ▸ a) λz=>K (.c y z) s else A.fail ""
  else A.fail ""
 | _=>A.fail "call"
def kkI:Yf->Yf->Bool
 | .tmp a,.tmp b=>a==b
 | .const (.int k a),.const (.int k' b)=>a==b
 | _,_=>false
def hintT (Δ:Ya (FuncId×Ctr)) (T:Yc):Bool:=(alk Δ (5000000+T)).isSome
def famO (e:Yc):Yb (Ty×Nat×Yc×Ty):=
 match tyOf P e,kjf P 9 e with
 | some t,some Ts=>match Ts.zipIdx.filterMap λx=>(elemO P x.1).map λU=>(x.2,U) with
  | [(j,U)]=>(tyOf P U).map λu=>(t,j,U,u)
  | _=>none
 | _,_=>none
def rowD {A:Alg} (t u:Ty) (j:Nat) (y:A.D t):Yb (A.D (.sl u)):=(comp t y j 1 false).bind λp=>tcast (.sl u) p.2
def rowS {A:Alg} (t u:Ty) (j:Nat) (y:A.D t) (v:A.D (.sl u)):Yb (A.D t):=setC (λt'=>tcast t' v) t y j 1 false
def gsame (a b:Int):Yb Unit:=if a=b then some () else none
mutual
def drpV (id:Nat):TV A->TV A
 | .adr i x j=>if i=id then .un else .adr i x j
 | .aa i x=>if i=id then .un else .aa i x
 | .mw i=>if i=id then .un else .mw i
 | .ms i a b=>if i=id then .un else .ms i a b
 | .fr i x=>if i=id then .un else .fr i x
 | .fa i x k o=>if i=id then .un else .fa i x k o
 | .fn g vs=>.fn g (drpL id vs)
 | .tp vs=>.tp (drpL id vs)
 | .ag vs=>.ag (drpL id vs)
 | v=>v
def drpL (id:Nat):Ya (TV A)->Ya (TV A)
 | []=>[]
 | v::vs=>drpV id v::drpL id vs
end
def drpB (id:Nat):TB A->TB A
 | .bx T vs=>.bx T (drpL id vs)
 | b=>b
def drpS (s:TS A) (id:Nat):TS A:=⟨s.env.map λx=>(x.1,drpV id x.2),s.hp.map λx=>(x.1,x.2.map (drpB id)),s.n,s.dy⟩
def kuK (s:TS A) (T:Yc) (id:Nat) (i:TV A) (K:TV A->TS A->A.Ans ρ):A.Ans ρ:=
 match kfo i,thp c s id,elemO P T with
 | some i,some (.fm _ t _ _ _ l _),some e=>if t.wd=P.cellsOf e/\t.wd≠0 then A.p2 (x:=.sl t) (y:=.i .i64) (z:=t) "" (λl i=>gi l i) l i λ_=>K (.fo id i 0) s else A.fail "family index width"
 | _,_,_=>A.fail ""
def kud (s:TS A) (T:Yc) (id:Nat) (a:A.D (.i .i64)) (k:TV A) (K:TV A->TS A->A.Ans ρ):A.Ans ρ:=
 match kfo k,thp c s id,elemO P T with
 | some k,some (.fm _ t j _ u l none),some e=>if u.wd=P.cellsOf e/\u.wd≠0 then A.p2 (x:=.sl t) (y:=.i .i64) (z:=t) "" (λl i=>gi l i) l a λy=>match rowD t u j y with
   | some ys=>A.p2 (x:=.sl u) (y:=.i .i64) (z:=u) "" (λl i=>gi l i) ys k λ_=>K (.fa id a k 0) s
   | none=>A.fail "row index cell"
  else A.fail "row index width"
 | _,_,_=>A.fail ""
def kur (s:TS A) (T:Yc) (id:Nat) (i:A.D (.i .i64)) (j:Nat) (f:Nat) (K:TV A->TS A->A.Ans ρ):A.Ans ρ:=
 match fldO P T f with
 | none=>A.fail "fieldAddr type"
 | some (d,_)=>if (thp c s id).any TB.isF then K (.fo id i (j+d)) s else A.fail "family field"
def kvb (s:TS A) (T:Yc) (id:Nat) (a k:A.D (.i .i64)) (j:Nat) (f:Nat) (K:TV A->TS A->A.Ans ρ):A.Ans ρ:=
 match fldO P T f with
 | none=>A.fail "fieldAddr type"
 | some (d,_)=>if (thp c s id).any TB.isF then K (.fa id a k (j+d)) s else A.fail "row field"
def kvu (s:TS A) (T:Yc) (id:Nat) (K:TV A->TS A->A.Ans ρ):A.Ans ρ:=
 match thp c s id,elemO P T with
 | some (.fm _ t _ _ _ l _),some _=>K (.c (.i .i64) (A.k1 (x:=.sl t) (y:=.i .i64) "" (λl=>lenI l) l)) s
 | _,_=>A.fail ""
def kuq (s:TS A) (T:Yc) (id:Nat) (a:A.D (.i .i64)) (K:TV A->TS A->A.Ans ρ):A.Ans ρ:=
 match thp c s id,elemO P T with
 | some (.fm _ t j _ u l none),some _=>A.p2 (x:=.sl t) (y:=.i .i64) (z:=t) "" (λl i=>gi l i) l a λy=>match rowD t u j y with
   | some ys=>K (.c (.i .i64) (A.k1 (x:=.sl u) (y:=.i .i64) "" (λl=>lenI l) ys)) s
   | none=>A.fail "row len cell"
 | _,_=>A.fail ""
def ksn (s:TS A) (T:Yc) (id:Nat) (i:A.D (.i .i64)) (o:Nat) (K:TV A->TS A->A.Ans ρ):A.Ans ρ:=
 match aggO P T,thp c s id with
 | some ag,some (.fm _ t j _ _ l none)=>A.p2 (x:=.sl t) (y:=.i .i64) (z:=t) "" (λl i=>gi l i) l i λy=>
   if ag=false/\o=j then K (.fr id i) s
   else if o+P.cellsOf T<=j\/j<o then partX t y o (P.cellsOf T) ag λv=>K v s
   else if ag=true/\t.noAr=true/\o+P.cellsOf T<=t.wd then K (.ag ((((kkD t y).set j (.fr id i)).drop o).take (P.cellsOf T))) s
   else A.fail "family load"
 | _,_=>A.fail ""
def ksm (s:TS A) (T:Yc) (id:Nat) (a k:A.D (.i .i64)) (o:Nat) (K:TV A->TS A->A.Ans ρ):A.Ans ρ:=
 match aggO P T,thp c s id with
 | some ag,some (.fm _ t j _ u l none)=>A.p2 (x:=.sl t) (y:=.i .i64) (z:=t) "" (λl i=>gi l i) l a λy=>match rowD t u j y with
   | some ys=>A.p2 (x:=.sl u) (y:=.i .i64) (z:=u) "" (λl i=>gi l i) ys k λx=>partX u x o (P.cellsOf T) ag λv=>K v s
   | none=>A.fail "row load cell"
 | _,_=>A.fail ""
def kqb (s:TS A) (T:Yc) (id:Nat) (a k:A.D (.i .i64)) (o:Nat) (v:TV A) (K:TV A->TS A->A.Ans ρ):A.Ans ρ:=
 match aggO P T,ownB s id with
 | some ag,some (.fm T' t j U u l none)=>if P.cellsOf T=0 then A.fail "store nothing" else
   A.p2 (x:=.sl t) (y:=.i .i64) (z:=t) "" (λl i=>gi l i) l a λy=>match rowD t u j y with
   | some ys=>A.p2 (x:=.sl u) (y:=.i .i64) (z:=u) "" (λl i=>gi l i) ys k λx=>
    match setC (λt=>(snapV c s t v).bind λy=>if y.2.isEmpty then some y.1 else none) u x o (P.cellsOf T) ag with
    | some e=>match rowS t u j y (A.k3 (x:=.sl u) (y:=.i .i64) (z:=u) (u:=.sl u) "" (λl i y=>lset l i y) ys k e) with
     | some b=>setB s id (.fm T' t j U u (A.k3 (x:=.sl t) (y:=.i .i64) (z:=t) (u:=.sl t) "" (λl i y=>lset l i y) l a b) none) K
     | none=>A.fail "row store cell"
    | none=>A.fail "row store part"
   | none=>A.fail "row store cell"
 | _,_=>A.fail ""
def klZ (s:TS A) (U:Yc) (u:Ty) (v:TV A):Yb (A.D (.sl u)×Yb Nat):=
 match v with
 | .mw r=>match alk s.hp r with
  | some (some (.sl U' _ l))=>if U'=U then (tcast (.sl u) l).map λl=>(l,some r) else none
  | _=>none
 | .sc w=>if kcv w then some (A.k0 (x:=.sl u) "" [],none) else none
 | _=>none
def holeX {A:Alg} {ρ:Ty} (e:Yb (A.D (.i .i64))) (i:A.D (.i .i64)) (K:A.Ans ρ):A.Ans ρ:=
 match e with
 | none=>K
 | some a=>A.p2 (x:=.i .i64) (y:=.i .i64) (z:=.un) "" (λa b=>gsame a b) a i λ_=>K
def rowN (s:TS A):Yb Nat->TS A
 | some r=>{ s with hp:=(r,none)::s.hp }
 | none=>s
def kqB (s:TS A) (T:Yc) (id:Nat) (i:A.D (.i .i64)) (o:Nat) (v:TV A) (K:TV A->TS A->A.Ans ρ):A.Ans ρ:=
 match aggO P T,ownB s id with
 | some ag,some (.fm T' t j U u l ho)=>if P.cellsOf T=0 then A.fail "store nothing" else
   if ag=false/\o=j/\P.cellsOf T=1/\(ho.isNone\/t.wd=1) then
    match klZ s U u v with
    | some (xs,r)=>if c.has id then A.fail "" else
     holeX ho i<|A.p2 (x:=.sl t) (y:=.i .i64) (z:=t) "" (λl i=>gi l i) l i λy=>match rowS t u j y xs with
     | some e=>
      let f:=drpS (rowN s r) id
      K .ud { f with hp:=(id,some (.fm T' t j U u (A.k3 (x:=.sl t) (y:=.i .i64) (z:=t) (u:=.sl t) "" (λl i y=>lset l i y) l i e) none))::f.hp }
     | none=>A.fail "family store cell"
    | none=>A.fail "family store row"
   else if (o+P.cellsOf T<=j\/j<o)/\ho.isNone then
    A.p2 (x:=.sl t) (y:=.i .i64) (z:=t) "" (λl i=>gi l i) l i λy=>
     match setC (λt=>(snapV c s t v).bind λy=>if y.2.isEmpty then some y.1 else none) t y o (P.cellsOf T) ag with
     | some e=>setB s id (.fm T' t j U u (A.k3 (x:=.sl t) (y:=.i .i64) (z:=t) (u:=.sl t) "" (λl i y=>lset l i y) l i e) none) K
     | none=>A.fail "family store part"
   else match v with
    | .ag vs=>match vs[j]? with
     | some (.fr id' i')=>if o=0/\P.cellsOf T=t.wd/\ho.isNone/\id'=id then
       match snapL c s t (vs.set j (.sc (.slice none 0 0))) with
       | some (y0,[],[])=>A.p2 (x:=.sl t) (y:=.i .i64) (z:=t) "" (λl i=>gi l i) l i λy=>A.p2 (x:=.i .i64) (y:=.i .i64) (z:=.un) "" (λa b=>gsame a b) i i' λ_=>match (rowD t u j y).bind (rowS t u j y0) with
        | some e=>setB s id (.fm T' t j U u (A.k3 (x:=.sl t) (y:=.i .i64) (z:=t) (u:=.sl t) "" (λl i y=>lset l i y) l i e) none) K
        | none=>A.fail "family store cell"
       | _=>A.fail "family store parts"
      else A.fail "family store"
     | some w=>if o=0/\P.cellsOf T=t.wd/\ho.isNone then match klZ s U u w with
       | some (xs,r)=>if c.has id then A.fail "" else match snapL c s t (vs.set j (.sc (.slice none 0 0))) with
        | some (y0,[],[])=>A.p2 (x:=.sl t) (y:=.i .i64) (z:=t) "" (λl i=>gi l i) l i λ_=>match rowS t u j y0 xs with
         | some e=>
          let f:=drpS (rowN s r) id
          K .ud { f with hp:=(id,some (.fm T' t j U u (A.k3 (x:=.sl t) (y:=.i .i64) (z:=t) (u:=.sl t) "" (λl i y=>lset l i y) l i e) none))::f.hp }
         | none=>A.fail "family store cell"
        | _=>A.fail "family store parts"
       | none=>A.fail "family store element"
      else A.fail "family store"
     | none=>A.fail "family store"
    | _=>A.fail "family store"
 | _,_=>A.fail ""
def ksc (s:TS A) (e:Yc) (x:TV A) (same:Bool) (K:TV A->TS A->A.Ans ρ):A.Ans ρ:=
 match famO P e,zeroO P e,x with
 | some (t,j,U,u),some z,.c (.i .i64) n=>match zeroD t with
  | some a=>if same/\(isZ t z).any List.isEmpty/\z.length=t.wd/\t.wd≠0/\P.bytesOf e<=1024/\(rowD t u j a).isSome then A.p2 (x:=.i .i64) (y:=t) (z:=.sl t) "" (λn z=>gmk n z) n a λl=>
     K (.fw s.n) { s with hp:=(s.n,some (.fm e t j U u l none))::s.hp,n:=s.n+1 } else A.fail "family make"
  | none=>A.fail "family zero"
 | _,_,_=>A.fail "family make elem"
def kvp (s:TS A) (T k:Yc) (id:Nat) (a:A.D (.i .i64)) (v:TV A) (K:TV A->TS A->A.Ans ρ):A.Ans ρ:=
 match elemO P T,ownB s id with
 | some e,some (.fm T' t j U u l none)=>match zeroO P e with
  | some z=>if klP P k/\z.length=u.wd/\u.wd≠0/\P.bytesOf e<=1024/\e=U then
    if c.has id then A.fail "" else
    match srcX c s u v with
    | none=>A.fail "append source"
    | some (xs,_)=>A.p2 (x:=.sl t) (y:=.i .i64) (z:=t) "" (λl i=>gi l i) l a λy=>match rowD t u j y with
     | some ys=>A.p2 (x:=.sl u) (y:=.sl u) (z:=.sl u) "" (λa b=>gapp a b) ys xs λl'=>
       let f:=drpS s id
       newSl { f with hp:=(id,some (.fm T' t j U u l (some a)))::f.hp } U u l' K
     | none=>A.fail "row append cell"
   else A.fail "row append"
  | none=>A.fail "row append zero"
 | _,_=>A.fail ""
def zeroF (q:Nat->Bool) (i:Nat) (s:TS A):Ya AV->Ya Yc->Ya (TV A)×TS A
 | .sc v::vs,T::Ts=>
  match (if kcv v&&q i then (elemO P T).bind λe=>(famO P e).map λf=>(e,f) else none) with
  | some (e,(t,j,U,u))=>let r:=zeroF q (i+1) { s with hp:=(s.n,some (.fm e t j U u (A.k0 (x:=.sl t) "" []) none))::s.hp,n:=s.n+1 } vs Ts; (.fw s.n::r.1,r.2)
  | none=>let r1:=zeroC P s [.sc v] [T]; let r:=zeroF q (i+1) r1.2 vs Ts; (r1.1++r.1,r.2)
 | _,_=>([],s)
def leafQ (Δ:Ya (FuncId×Ctr)) (T:Yc) (i:Nat):Bool:=(alk Δ (4000000+1000*T+i)).isNone
def kut (q:Nat->Bool) (s:TS A) (T:Yc) (K:TV A->TS A->A.Ans ρ):A.Ans ρ:=
 match zeroO P T,kjf P 9 T with
 | some z,some Ts=>if z.length=Ts.length then let r:=zeroF P q 0 s z Ts; newBx r.2 (.bx T r.1) K else A.fail "alloc cells"
 | _,_=>A.fail "alloc type"
def kvf (q:Nat->Bool) (s:TS A) (T:Yc) (a:Ya (Nat×Yf)) (K:TV A->TS A->A.Ans ρ):A.Ans ρ:=
 match zeroO P T,kjf P 9 T,kkn P T with
 | some z,some Ts,some pl=>if z.length=Ts.length then
   let r:=zeroF P q 0 s z Ts
   match fillT c pl s a r.1 with
   | some vs=>K (.ag vs) r.2
   | none=>A.fail "build parts"
  else A.fail "build cells"
 | _,_,_=>A.fail "build type"
def kuE (s:TS A) (T:Yc) (K:TV A->TS A->A.Ans ρ):A.Ans ρ:=
 match (elemO P T).bind λe=>(famO P e).map λf=>(e,f) with
 | some (e,(t,j,U,u))=>K (.fw s.n) { s with hp:=(s.n,some (.fm e t j U u (A.k0 (x:=.sl t) "" []) none))::s.hp,n:=s.n+1 }
 | none=>match (elemO P T).bind λe=>(tyOf P e).map λt=>(e,t) with
  | some (e,t)=>if t.dat then K (.mw s.n) { s with hp:=(s.n,some (.sl e t (A.k0 (x:=.sl t) "" [])))::s.hp,n:=s.n+1 } else A.fail "own nil"
  | none=>A.fail "family nil"
def kqx (s:TS A) (T:Yc) (len:Nat) (a:Ya (Nat×Yf)) (K:TV A->TS A->A.Ans ρ):A.Ans ρ:=
 match (elemO P T).bind λe=>(famO P e).map λf=>(e,f),a with
 | some (e,(t,j,U,u)),[(0,x)]=>match zeroO P e,kaL (tev c s x) with
  | some z,some vs=>if len=1/\z.length=t.wd/\t.wd<=1000 then match (vs[j]?).bind (klZ s U u),snapL c s t (vs.set j (.sc (.slice none 0 0))) with
   | some (xs,r),some (y0,[],[])=>match rowS t u j y0 xs with
    | some y=>
     let b:=match r with | some r=>{ s with hp:=(r,none)::s.hp } | none=>s
     K (.fw s.n) { b with hp:=(s.n,some (.fm e t j U u (lstD t [y]) none))::b.hp,n:=s.n+1 }
    | none=>A.fail ""
   | _,_=>A.fail (match vs[j]? with | some (.mw r)=> "" | _=> "") else A.fail ""
  | _,_=>A.fail ""
 | _,_=>A.fail "family build"
def krO (s:TS A) (T f:Yc) (da:Yb Nat) (b:Nat) (K:TV A->TS A->A.Ans ρ):A.Ans ρ:=
 match elemO P T,ownB s b with
 | some e,some (.fm Tb t j U u lb none)=>match zeroO P e with
  | some z=>if klP P f/\z.length=t.wd/\t.wd≠0/\P.bytesOf e<=1024/\Tb=e then
    match da with
    | none=>A.p2 (x:=.sl t) (y:=.sl t) (z:=.sl t) "" (λa b=>gapp a b) (A.k0 (x:=.sl t) "" []) lb λl'=>
      K (.fw s.n) { s with hp:=(s.n,some (.fm e t j U u l' none))::(b,none)::s.hp,n:=s.n+1 }
    | some a=>match ownB s a with
     | some (.fm Ta _ ja Ua ua la none)=>if Ta=e/\ja=j/\Ua=U/\ua=u/\a≠b then match tcast (.sl t) la with
       | some la=>A.p2 (x:=.sl t) (y:=.sl t) (z:=.sl t) "" (λa b=>gapp a b) la lb λl'=>
         K (.fw s.n) { s with hp:=(s.n,some (.fm e t j U u l' none))::(a,none)::(b,none)::s.hp,n:=s.n+1 }
       | none=>A.fail "family append elem"
      else A.fail "family append kind"
     | _=>A.fail ""
   else A.fail "family append"
  | none=>A.fail "family append zero"
 | _,_=>A.fail ""
def hintS (Δ:Ya (FuncId×Ctr)) (k:Nat) (d:Yb Tmp):Bool:=match d with | some d=>(alk Δ (k+d)).isSome | none=>false
def bsX (s:TS A) (T:Yc) (len:Nat) (a:Ya (Nat×Yf)) (K:TV A->A.Ans ρ):A.Ans ρ:=
 match elemO P T with
 | none=>A.fail "buildSlice type"
 | some e=>match tyOf P e,zeroO P e with
  | some t,some z=>if len<=1000/\z.length<=1000/\z.length=t.wd then
    if a.length=len then match koJ c s t a 0 with
     | some (xs,[])=>K (.c (.sl t) (lstD t xs))
     | some (_,id::_)=>A.fail ""
     | none=>A.fail "drawn buildSlice parts"
    else A.fail "buildSlice length"
   else A.fail "buildSlice"
  | _,_=>A.fail "buildSlice elem"
def famX (Δ:Ya (FuncId×Ctr)) (s:TS A) (o:Oper) (K:TV A->TS A->A.Ans ρ):Yb (A.Ans ρ):=
 match o.op with
 | .load T x=>match tev c s x with
  | .fo id i j=>some (ksn P c s T id i j K)
  | .fa id i k j=>some (ksm P c s T id i k j K)
  | _=>none
 | .store T p x=>match tev c s p with
  | .fo id i j=>some (kqB P c s T id i j (tev c s x) K)
  | .fa id i k j=>some (kqb P c s T id i k j (tev c s x) K)
  | _=>none
 | .fieldAddr T x f=>match tev c s x with
  | .fo id i j=>some (kur P c s T id i j f K)
  | .fa id i k j=>some (kvb P c s T id i k j f K)
  | _=>none
 | .indexAddr T x i=>match tev c s x with
  | .fw id=>some (kuK P c s T id (tev c s i) K)
  | .fr id a=>some (kud P c s T id a (tev c s i) K)
  | _=>none
 | .makeSlice T x y=>match elemO P T with
  | some e=>if hintT Δ e then some (ksc P s e (tev c s x) (kkI x y) K) else none
  | none=>none
 | .call l=>match l.callee with
  | .builtin b=>match b,l.args.toList,l.argTypes.toList with
   | .len,[x],[T]=>match tev c s x with
    | .fw id=>some (kvu P c s T id K)
    | .fr id a=>some (kuq P c s T id a K)
    | _=>none
   | .append,[d,x],[T,T2]=>match tev c s d with
    | .fr id a=>some (kvp P c s T T2 id a (tev c s x) K)
    | .fw a=>match tev c s x with
     | .fw b=>some (krO P s T T2 (some a) b K)
     | _=>none
    | .sc u=>match tev c s x with
     | .fw b=>if kcv u then some (krO P s T T2 none b K) else none
     | _=>none
    | _=>none
   | _,_,_=>none
  | _=>none
 | .alloc T=>if hintS Δ 6000000 o.dst then some (kut P (leafQ Δ T) s T K) else none
 | .build T m=>if hintS Δ 6000000 o.dst then some (kvf P c (leafQ Δ T) s T m.toList K) else none
 | .buildSlice T len m=>if hintS Δ 7000000 o.dst then some (kqx P c s T len m.toList K) else if hintS Δ 8000000 o.dst then some (bsX P c s T len m.toList λv=>K v s) else none
 | .assign x=>match tev c s x with
  | .sc u=>if kcv u&&hintS Δ 6000000 o.dst then some (kuE P s o.type K) else none
  | _=>none
 | _=>none
def kvP (s:TS A) (T:Yc) (v:TV A) (K:TV A->TS A->A.Ans ρ):A.Ans ρ:=
 match v with
 | .c .s l=>if kjA P T then newBx s (.si (A.k1 (x:=.s) (y:=.pr .s (.i .i64)) "" (λl=>(l,0)) l)) K else A.fail "range type"
 | _=>A.fail "range"
def runeV (x:Ya UInt8×Int):Int:=(Utf8.decode ⟨x.1.toArray⟩ x.2.toNat).1
def runeN (x:Ya UInt8×Int):Ya UInt8×Int:=(x.1,((x.2.toNat+(Utf8.decode ⟨x.1.toArray⟩ x.2.toNat).2:Nat):Int))
def nextX (s:TS A) (v:TV A) (K:TV A->TS A->A.Ans ρ):A.Ans ρ:=
 match v with
 | .ptr id 0=>match alk s.hp id with
  | some (some (.si x))=>A.ite (A.k1 (x:=.pr .s (.i .i64)) (y:=.b) "" (λx=>decide (x.2<lenI x.1)) x)
    (K (.tp [.kb true,.c (.i .i64) (A.k1 (x:=.pr .s (.i .i64)) (y:=.i .i64) "" Prod.snd x),.c (.i .i32) (A.k1 (x:=.pr .s (.i .i64)) (y:=.i .i32) "" runeV x)]) { s with hp:=(id,some (.si (A.k1 (x:=.pr .s (.i .i64)) (y:=.pr .s (.i .i64)) "" runeN x)))::s.hp })
    (K (.tp [.kb false]) s)
  | _=>A.fail ""
 | _=>A.fail "next"
def xop (Δ:Ya (FuncId×Ctr)) (s:TS A) (o:Oper) (K:TV A->TS A->A.Ans ρ):A.Ans ρ:=
 match famX P c Δ s o K with
 | some a=>a
 | none=>match o.op with
  | .move x=>moveX P s o.type (tev c s x) K
  | .assign x=>moveX P s o.type (tev c s x) K
  | .pick x a b=>match tev c s x with
   | .kb t=>K (if t then tev c s a else tev c s b) s
   | .c .b x=>A.ite x (K (tev c s a) s) (K (tev c s b) s)
   | _=>A.fail "pick"
  | .alloc T=>kuj P s T K
  | .box T x=>boxX s T (tev c s x) K
  | .load T x=>loadX P c s T (tev c s x) K
  | .store T p x=>kvM P c s T (tev c s p) (tev c s x) K
  | .nilCheck x=>nilX c s (tev c s x) K
  | .binOp j T x y _=>binX P c s j T (tev c s x) (tev c s y) K
  | .unOp j _ x=>unX s j (tev c s x) K
  | .convert S T x=>convX P s S T (tev c s x) K
  | .makeFunc (.func f) first caps=>if first.isEmpty then K (.fn f (caps.toList.map (tev c s))) s else A.fail "makeFunc"
  | .makeSlice T x y=>kmw P s T (tev c s x) (tev c s y) (kkI x y) K
  | .slice T x lo hi none=>kvS P c s T (tev c s x) (lo.map (tev c s)) (hi.map (tev c s)) K
  | .fieldAddr T x f=>kmy P c s T (tev c s x) f K
  | .field T x f=>kvD P s T (tev c s x) f K
  | .indexAddr T x i=>kqt P c s T (tev c s x) (tev c s i) K
  | .index T x i=>idxX P s T (tev c s x) (tev c s i) K
  | .extract x i=>match tev c s x with
   | .tp vs=>match vs[i]? with
    | some v=>K v s
    | none=>A.fail "extract"
   | _=>A.fail "extract"
  | .build T e=>kuv P c s T e.toList K
  | .buildSlice T len e=>klx P c s T len e.toList K
  | .makeMap T none=>kqE P s T K
  | .lookup T m k ok=>krY P c s T (tev c s m) (tev c s k) ok K
  | .mapUpdate T m k x=>ksF P c s T (tev c s m) (tev c s k) (tev c s x) K
  | .mapEntry T m k=>ksE P c s T (tev c s m) (tev c s k) K
  | .entryStore T m st x=>kvv c s (tev c s m) (tev c s st) (tev c s x) K
  | .range T x=>kvP P s T (tev c s x) K
  | .next x true=>nextX s (tev c s x) K
  | .makeInterface _ _=>A.stop
  | .call l=>match l.callee with
   | .builtin b=>match b,l.args.toList,l.argTypes.toList with
    | .len,[x],[T]=>lenX P c s T (tev c s x) K
    | .append,[d,x],[T,T2]=>appX P c s T T2 (tev c s d) (tev c s x) K
    | .copy,[d,x],[T,T2]=>copyX P c s T (tev c s d) (tev c s x) K
    | .min,[x,y],_=>mmX false s (tev c s x) (tev c s y) K
    | .max,[x,y],_=>mmX true s (tev c s x) (tev c s y) K
    | .min,[x,y,q],_=>mmX false s (tev c s x) (tev c s y) λv s=>mmX false s v (tev c s q) K
    | .max,[x,y,q],_=>mmX true s (tev c s x) (tev c s y) λv s=>mmX true s v (tev c s q) K
    | _,_,_=>A.fail "builtin"
   | .value f=>callX c Δ s (tev c s f) (l.args.toList.map (tev c s)) K
   | .invoke _ _=>A.fail "invoke"
  | _=>A.fail "op"
def putT (s:TS A) (d:Yb Tmp) (v:TV A):TS A:=
 match d with
 | some d=>{ s with env:=(d,v)::s.env }
 | none=>s
def okD (c:Cx A) (a:Ya (Yb Tmp)):Bool:=a.all λd=>match d with
 | some d=>(alk c.e0 d).isNone
 | none=>true
def useM (Δ:Ya (FuncId×Ctr)) (s:TS A) (o:Oper):Yb (CtrM×Ya (TV A)):=
 match o.op with
 | .call l=>match l.callee with
  | .value f=>match tev c s f with
   | .fn g a=>match alk Δ g with
    | some C=>(pickM c Δ s (l.args.toList.map (tev c s)++a) C.mus).map λM=>(M,l.args.toList.map (tev c s)++a)
    | none=>none
   | _=>none
  | _=>none
 | _=>none
def kmj (p:Pat) (i:Nat) (v:TV A) (s:TS A):TV A×TS A:=
 match v,alk p.env i with
 | .sc u,some (.mw q)=>match alk p.hp q with
  | some (.sl T t)=>if kcv u&&t.dat then (.mw s.n,{ s with hp:=(s.n,some (.sl T t (A.k0 (x:=.sl t) "" [])))::s.hp,n:=s.n+1 }) else (v,s)
  | _=>(v,s)
 | _,_=>(v,s)
def kkl (p:Pat):Ya (TV A)->Nat->TS A->Ya (TV A)×TS A
 | [],_,s=>([],s)
 | v::vs,i,s=>let r:=kmj p i v s; let q:=kkl p vs (i+1) r.2; (r.1::q.1,q.2)
def useN (Δ:Ya (FuncId×Ctr)) (s:TS A) (o:Oper):Yb (CtrM×Ya (TV A)×TS A):=
 match o.op with
 | .call l=>match l.callee with
  | .value f=>match tev c s f with
   | .fn g a=>match alk Δ g with
    | some C=>C.mus.findSome? λM=>let r:=kkl M.inp (l.args.toList.map (tev c s)++a) 0 s; (pickM c Δ r.2 r.1 [M]).map λM=>(M,r.1,r.2)
    | none=>none
   | _=>none
  | _=>none
 | _=>none
def nilC (s:TS A) (o:Oper):Yb (Bool×Yb (A.D .b)):=
 match o.op with
 | .binOp op T x (.const v) _=>
  match kcv v&&(elemO P T).isSome&&(op == .eql||op == .neq) with
  | true=>match tev c s x with
   | .c (.sl t) l=>some (op == .neq,some (A.k1 (x:=.sl t) (y:=.b) "" (λl=>isE l) l))
   | .mw id=>match thp c s id with
    | some (.sl _ t l)=>some (op == .neq,some (A.k1 (x:=.sl t) (y:=.b) "" (λl=>isE l) l))
    | _=>none
   | .sc u=>if kcv u then some (op == .neq,none) else none
   | _=>none
  | false=>none
 | _=>none
def altL:Ya (A.Ans ρ)->A.Ans ρ
 | []=>A.fail "no contract"
 | [x]=>x
 | x::l=>A.els x (altL l)
def altsM (Δ:Ya (FuncId×Ctr)) (s:TS A) (o:Oper):Ya CtrM:=
 match o.op with
 | .call l=>match l.callee with
  | .value f=>match tev c s f with
   | .fn g a=>match alk Δ g with
    | some C=>C.mus.filter λM=>M.alt&&(pickM c Δ s (l.args.toList.map (tev c s)++a) [M]).isSome
    | none=>[]
   | _=>[]
  | _=>[]
 | _=>[]
def xopM (Δ:Ya (FuncId×Ctr)) (s:TS A) (o:Oper) (K:TV A->TS A->A.Ans ρ):A.Ans ρ:=
 match useM c Δ s o with
 | some (M,args)=>match M.alt with
  | false=>kkN c Δ s M args K
  | true=>altL ((altsM c Δ s o).map λM=>kkN c Δ s M args K)
 | none=>match useN c Δ s o with
  | some (M,args,s')=>kkN c Δ s' M args K
  | none=>match nilC P c s o with
   | some (ne,some e)=>A.ite e (A.bth (K (.kb true) s) (K (.kb false) s)) (K (.kb ne) s)
   | some (ne,none)=>K (.kb (!ne)) s
   | none=>xop P c Δ s o K
def xops (Δ:Ya (FuncId×Ctr)) (a:Ya (Yb Tmp)):Ya Oper->TS A->(TS A->A.Ans ρ)->A.Ans ρ
 | [],s,K=>K s
 | o::r,s,K=>match o.guard with
  | none=>xopM P c Δ s o λv s'=>xops Δ a r (putT s' o.dst v) K
  | some (j,want)=>match kbz a j with
   | none=>A.fail "guard"
   | some d=>match tlk c s d with
    | .kb b=>match b==want with | true=>xopM P c Δ s o λv s'=>xops Δ a r (putT s' o.dst v) K | false=>xops Δ a r (putT s o.dst .ud) K
    | .c .b x=>
     let on:=xopM P c Δ { s with env:=(d,.kb want)::s.env } o λv s'=>xops Δ a r (putT s' o.dst v) K
     let off:=xops Δ a r (putT { s with env:=(d,.kb (!want))::s.env } o.dst .ud) K
     match want with | true=>A.ite x on off | false=>A.ite x off on
    | .ud=>xops Δ a r (putT s o.dst .ud) K
    | _=>A.fail "guard value"
def cls (o:Oper):Nat:=
 match o.op with
 | .move _ | .assign _ | .pick _ _ _ | .unOp _ _ _ | .convert _ _ _ | .makeFunc _ _ _ | .field _ _ _ | .index _ _ _ | .extract _ _ | .build _ _=>0
 | .fieldAddr _ _ _ | .indexAddr _ _ _ | .slice _ _ _ _ _ | .nilCheck _=>1
 | .call { callee:=.builtin .len,.. }=>1
 | .call { callee:=.builtin .min,.. } | .call { callee:=.builtin .max,.. }=>0
 | .load _ _ | .binOp _ _ _ _ _ | .lookup _ _ _ _=>2
 | _=>3
def tgtOp (o:Oper):Yb Yf:=
 match o.op with
 | .store _ p _=>some p
 | .mapUpdate _ m _ _=>some m
 | .mapEntry _ m _=>some m
 | .entryStore _ m _ _=>some m
 | .next x _=>some x
 | .call { callee:=.builtin .append,args,.. }=>match args.toList with
  | [s,_]=>some s
  | _=>none
 | .call { callee:=.builtin .copy,args,.. }=>match args.toList with
  | [s,_]=>some s
  | _=>none
 | _=>none
def ksD (o:Oper):Bool:=
 match o.op with
 | .store _ _ _=>true
 | _=>false
def rst {A:Alg} (s:TS A) (b:Ya Nat):TS A:=⟨s.env,s.hp.filter λx=>b.contains x.1,s.n,s.dy⟩
def tid:TV A->Yb Nat
 | .ptr i _=>some i
 | .adr i _ _=>some i
 | .aa i _=>some i
 | .mw i=>some i
 | .ms i _ _=>some i
 | .mp i=>some i
 | .fw i=>some i
 | .fr i _=>some i
 | .fo i _ _=>some i
 | .fa i _ _ _=>some i
 | _=>none
def isSc:TV A->Bool
 | .sc _=>true
 | _=>false
def isRow:TV A->Bool
 | .fr _ _=>true
 | .fa _ _ _ _=>true
 | _=>false
def okW (s:TS A) (b a:Ya Nat) (o:Oper):Bool:=
 match tgtOp o with
 | none=>true
 | some x=>match tid (tev c s x) with
  | some i=>(thp c s i).isSome&&!a.contains i&&(ksD o||!b.contains i)&&(!isRow (tev c s x)||(thp c s i).any TB.isF)
  | none=>isSc (tev c s x)
def wcOf (l:Ya Oper):Ya Nat:=l.zipIdx.filterMap λ(o,j)=>match o.op with | .buildSlice _ 0 _=>some j | _=>none
def kkt (Δ:Ya (FuncId×Ctr)) (s:TS A) (f:TV A) (args:Ya (TV A)) (K:TV A->A.Ans ρ):A.Ans ρ:=
 match f with
 | .fn g b=>match alk Δ g with
  | none=>A.fail ""
  | some C=>match kdH c Δ s C.as (args++b) with
   | none=>A.fail ""
   | some (l,ids)=>match mkT A C.as l with
    | none=>A.fail ""
    | some a=>if C.rs.all Ty.flat||(ids.isEmpty&&!s.dy) then A.p1 C.nm C.F a λy=>K (tvR C.rs y) else A.fail "drawn call eats"
 | .cv n x y F=>if h:tup (untup n x)=x then match snapM c s (untup n x) args with
   | none=>A.fail ""
   | some (l,_)=>match mkT A (untup n x) l with
    | none=>A.fail ""
    | some a=>if y.flat then A.p2 (x:=.fn n x y) (y:=x) (z:=y) "" (λF v=>F v) F (h ▸ a) λz=>K (.c y z) else A.fail ""
  else A.fail ""
 | _=>A.fail "drawn call"
def seen (s:TS A) (b:Ya Nat):Bool:=!s.dy&&c.g.all (λx=>b.contains x.1)&&b.all (λid=>!(thp c s id).any TB.isF)
def famG (c:Cx A):String:=match c.g.find? λx=>x.2.isF with | some x=> "" | none=> ""
def stepX (Δ:Ya (FuncId×Ctr)) (wc:Ya Nat) (rd:Ya (Nat×Nat)) (e b:Ya Nat) (j:Nat) (s:TS A) (o:Oper) (K:TV A->TS A->A.Ans ρ):A.Ans ρ:=
 if isW wc j o then
  if !kju o&&okW c s e b o&&e.all (λid=>(thp c s id).isSome)&&!rd.any (λx=>x.1==j) then xop P c Δ s o K else A.fail ""
 else match o.op with
 | .buildSlice T len a=>bsX P c s T len a.toList λv=>K v s
 | .call { callee:=.value f,args,.. }=>
  if wants rd j then (if seen c s b then kkt c Δ (rst s b) (tev c s f) (args.toList.map (tev c s)) (λv=>K v s) else A.fail (""++famG c))
  else kkt c Δ s (tev c s f) (args.toList.map (tev c s)) λv=>K v s
 | _=>
  if cls o=0 then xop P c Δ s o K
  else if cls o=1 then (if wants rd j then (if seen c s e then xop P c Δ (rst s e) o λv _=>K v s else A.fail (""++famG c)) else xop P c Δ s o λv _=>K v s)
  else if cls o=2 then (if wants rd j then (if seen c s b then xop P c Δ (rst s b) o λv _=>K v s else A.fail (""++famG c)) else xop P c Δ s o λv _=>K v s)
  else A.fail "drawn operation"
def TB.ids:TB A->Ya Nat
 | .bx _ vs=>TV.idsL vs
 | _=>[]
def closX (s:TS A):Nat->Ya Nat->Ya Nat
 | 0,l=>l
 | d+1,l=>closX s d (l++(l.flatMap λi=>match thp c s i with | some b=>b.ids | none=>[]).filter λi=>!l.contains i)
def footX (s:TS A) (o:Oper):Ya Nat:=
 let l:=(o.op.operands.toList.map λx=>(tev c s x).ids).flatten
 (c.g.map (·.1)++(if kju o then closX c s 3 l else l)).filter λi=>(thp c s i).isSome
def tgtT (s:TS A) (o:Oper):Yb (Ya Nat):=
 match tgtOp o with
 | none=>some []
 | some x=>match tid (tev c s x) with
  | some i=>if (thp c s i).isSome&&(!isRow (tev c s x)||(thp c s i).any TB.isF) then some [i] else none
  | none=>if isSc (tev c s x) then some [] else none
def pdOk (s:TS A) (anc:Ya Nat) (st:Bool) (T:Ya Nat) (a:Ya (Nat×Nat×Ya Nat)):Bool:=
 a.all λp=>anc.contains p.1||p.2.1==0||((p.2.1==1||p.2.1==2)&&p.2.2.all λid=>(thp c s id).isSome&&(!T.contains id||(st&&p.2.1==1)))
def chgd (s s':TS A):Ya Nat:=(s'.hp.take (s'.hp.length-s.hp.length)).map (·.1)
def ownT (s:TS A):Ya Tmp:=s.env.filterMap λx=>match x.2 with | .mw _=>some x.1 | _=>none
def wcGo (Δ:Ya (FuncId×Ctr)):Ya Oper->Nat->Ya Tmp->Ya Nat->Ya Nat
 | [],_,_,wc=>wc
 | o::r,j,tn,wc=>
  let f:=λ(x:Yf)=>match x with | .tmp t=>tn.contains t | _=>false
  let a:=λ(b:Bool)=>match b,o.dst with | true,some d=>d::tn | _,_=>tn
  match o.op with
  | .buildSlice _ len e=>if len==0||hintS Δ 7000000 o.dst||e.toList.any (λp=>f p.2) then wcGo Δ r (j+1) (a true) (j::wc) else wcGo Δ r (j+1) tn wc
  | .call { callee:=.value (.func g),.. }=>if (alk Δ g).any (λC=>!C.mus.isEmpty) then wcGo Δ r (j+1) (a true) (j::wc) else wcGo Δ r (j+1) tn wc
  | .call { callee:=.value (.tmp t),.. }=>if tn.contains t then wcGo Δ r (j+1) (a true) (j::wc) else wcGo Δ r (j+1) tn wc
  | .index _ x _=>wcGo Δ r (j+1) (a (f x)) wc
  | .lookup _ _ _ _=>if r.any (λq=>match q.op with | .mapEntry _ _ _=>true | _=>false) then wcGo Δ r (j+1) tn (j::wc) else wcGo Δ r (j+1) tn wc
  | .load _ _=>wcGo Δ r (j+1) (a (r.any λq=>match q.op with | .call { callee:=.value (.tmp t),.. }=>o.dst==some t | _=>false)) wc
  | .call { callee:=.builtin .append,.. } | .makeSlice _ _ _=>wcGo Δ r (j+1) (a true) wc
  | .move x | .assign x | .extract x _ | .field _ x _=>wcGo Δ r (j+1) (a (f x)) wc
  | .build _ e=>wcGo Δ r (j+1) (a (e.toList.any λp=>f p.2)) wc
  | _=>wcGo Δ r (j+1) tn wc
def askD (Δ:Ya (FuncId×Ctr)) (s:TS A) (f:TV A) (args:Ya (TV A)):Yb (Nat×Ya (TV A)):=
 match f with
 | .fn g a=>match (alk Δ g).bind λC=>kdH c Δ s C.as (args++a) with
  | some _=>none
  | none=>some (g,args++a)
 | _=>none
def kmi (Δ:Ya (FuncId×Ctr)) (W:Nat->Bool) (anc:Nat->Ya Nat) (b:Nat->Bool) (j:Nat) (s:TS A) (o:Oper) (a:Ya (Nat×Nat×Ya Nat)) (K:TV A->TS A->Ya (Nat×Nat×Ya Nat)->A.Ans ρ):A.Ans ρ:=
 match W j with
 | true=>match o.op with
  | .call { callee:=.value f,args,.. }=>match useM c Δ s o with
   | some (M,as)=>kkN c Δ s M as λv s'=>match pdOk c s (anc j) false (chgd s s') a with | true=>K v s' a | false=>A.fail ""
   | none=>match askD c Δ s (tev c s f) (args.toList.map (tev c s)) with
    | some q=>askX c s q.1 q.2
    | none=>kkt c Δ s (tev c s f) (args.toList.map (tev c s)) λv=>K v s a
  | _=>match kju o with
   | true=>A.fail "drawn call"
   | false=>match tgtT c s o with
    | some T=>match pdOk c s (anc j) (ksD o) T a with
     | true=>xop P c Δ s o λv s'=>K v s' a
     | false=>A.fail ""
    | none=>A.fail ""
 | false=>
  let F:=footX c s o
  match o.op with
  | .buildSlice T len e=>bsX P c s T len e.toList λv=>K v s ((j,0,[])::a)
  | .call { callee:=.value f,args,.. }=>match b j with
   | true=>if seen c s F then kkt c Δ (rst s F) (tev c s f) (args.toList.map (tev c s)) λv=>K v s ((j,2,F)::a) else A.fail (""++famG c)
   | false=>kkt c Δ s (tev c s f) (args.toList.map (tev c s)) λv=>K v s ((j,3,[])::a)
  | _=>
   if cls o=0 then xop P c Δ s o λv s'=>K v s' ((j,0,[])::a)
   else if cls o=1 then match b j with
    | true=>if seen c s F then xop P c Δ (rst s F) o λv _=>K v s ((j,1,F)::a) else A.fail (""++famG c)
    | false=>xop P c Δ s o λv _=>K v s ((j,3,[])::a)
   else if cls o=2 then match b j with
    | true=>if seen c s F then xop P c Δ (rst s F) o λv _=>K v s ((j,2,F)::a) else A.fail (""++famG c)
    | false=>xop P c Δ s o λv _=>K v s ((j,3,[])::a)
   else A.fail "drawn operation"
def xopsT (Δ:Ya (FuncId×Ctr)) (W:Nat->Bool) (anc:Nat->Ya Nat) (a:Nat->Bool) (f:Ya (Yb Tmp)):Ya Oper->Nat->TS A->Ya (Nat×Nat×Ya Nat)->(TS A->A.Ans ρ)->A.Ans ρ
 | [],_,s,_,K=>K s
 | o::r,i,s,e,K=>match o.guard with
  | none=>kmi P c Δ W anc a i s o e λv s' e=>xopsT Δ W anc a f r (i+1) (putT s' o.dst v) e K
  | some (j,want)=>match kbz f j with
   | none=>A.fail "guard"
   | some d=>match tlk c s d with
    | .kb b=>match b==want with | true=>kmi P c Δ W anc a i s o e λv s' e=>xopsT Δ W anc a f r (i+1) (putT s' o.dst v) e K | false=>xopsT Δ W anc a f r (i+1) (putT s o.dst .ud) e K
    | .c .b x=>
     let on:=kmi P c Δ W anc a i { s with env:=(d,.kb want)::s.env } o e λv s' e=>xopsT Δ W anc a f r (i+1) (putT s' o.dst v) e K
     let off:=xopsT Δ W anc a f r (i+1) (putT { s with env:=(d,.kb (!want))::s.env } o.dst .ud) e K
     match want with | true=>A.ite x on off | false=>A.ite x off on
    | .ud=>xopsT Δ W anc a f r (i+1) (putT s o.dst .ud) e K
    | _=>A.fail "guard value"
def kuW (l:Ya Oper) (wc:Ya Nat) (anc:Ya (Ya Nat)):Bool:=
 l.zipIdx.all λ(o,w)=>!isW wc w o||l.zipIdx.all λ(_,j)=>!decide (w<j)||(anc.getD j []).contains w
def ordGo (n:Nat) (a:Ya Nat->Nat->Bool) (w:Nat->Bool):Nat->Ya Nat->Ya Nat
 | 0,acc=>acc
 | f+1,acc=>match (List.range n).find? λi=>!acc.contains i&&!w i&&a acc i with
  | some i=>ordGo n a w f (acc++[i])
  | none=>match (List.range n).find? λi=>!acc.contains i&&a acc i with
   | some i=>ordGo n a w f (acc++[i])
   | none=>acc
def noWr (l:Ya Oper) (wc:Ya Nat):Bool:=l.zipIdx.all λx=>!isW wc x.2 x.1
def ordX (l:Ya Oper) (wc:Ya Nat) (ex:Ya (Nat×Nat)):Ya Nat:=
 if ex.isEmpty&&noWr l wc then List.range l.length else
 ordGo l.length (λa i=>(match l[i]? with | some o=>o.after.toList.all λe=>!Region.binds .any e||a.contains e.on | none=>false)&&ex.all λx=>x.2 != i||a.contains x.1) (λi=>match l[i]? with | some o=>isW wc i o | none=>false) l.length []
def confX (Δ:Ya (FuncId×Ctr)) (e:Ya Tmp) (l:Ya Oper) (ex:Ya (Nat×Nat)):Yb (Nat×Nat):=
 if noWr l (wcGo Δ l 0 e []) then none else
 let ps:=ordX l (wcGo Δ l 0 e []) ex
 let l':=permL l ps ex
 let wc:=wcGo Δ l' 0 e []
 let anc:=ancOf l'
 l'.zipIdx.findSome? λ(o,a)=>if isW wc a o then l'.zipIdx.findSome? λ(f,b)=>if decide (a<b)&&isW wc b f&&!(anc.getD b []).contains a then some (ps.getD a 0,ps.getD b 0) else none else none
def drawT (Δ:Ya (FuncId×Ctr)) (a:Nat) (l:Ya Oper) (s:TS A) (K:TS A->A.Ans ρ):A.Ans ρ:=
 let wc:=wcGo Δ l 0 (ownT s) []
 let anc:=ancOf l
 if kdz l&&kuW l wc anc&&okD c (l.map (·.dst))&&kbw a l then
  xopsT P c Δ (λj=>match l[j]? with | some o=>isW wc j o | none=>false) (λj=>anc.getD j []) (λj=>!noWr l wc&&l.zipIdx.any λ(o,w)=>decide (j<w)&&isW wc w o&&!(anc.getD w []).contains j) (l.map (·.dst)) l 0 s [] K
 else A.fail "drawn order"
def bthL {ρ:Ty} (f:Ya (Nat×Nat)->A.Ans ρ):Ya (Ya (Nat×Nat))->A.Ans ρ
 | []=>A.fail "no order"
 | [x]=>f x
 | x::l=>A.bth (f x) (bthL f l)
def drawV (Δ:Ya (FuncId×Ctr)) (a:Nat) (l:Ya Oper) (s:TS A) (K:TS A->A.Ans ρ):A.Ans ρ:=
 if P.follows .mixedOrders&&backw l then bthL (λex=>let ps:=ordX l (wcGo Δ l 0 (ownT s) []) ex
   if khf l.length ps then drawT P c Δ a (permL l ps ex) s K else A.fail "") (kiR l.length (confX Δ (ownT s) l) 3 [])
 else A.fail ""
structure La where
 head:Pat
 out:Pat
 keep:List Nat
 gids:List Nat
 n:Nat
 ret:Bool
 tx:String:= ""
structure Kon (A:Alg) (r ρ:Ty) where
 nrm:TS A->A.Ans ρ
 ext:Nat->TS A->A.Ans ρ
 retv:A.D r->A.Ans ρ
variable {r:Ty}
def inCx (a:La) (c:Cx A) (s:TS A):Cx A:=
 ⟨a.keep.map (λx=>(x,tlk c s x))++c.e0,a.gids.filterMap (λid=>(ownB s id).map λb=>(id,b))++c.g⟩
def okP (a:La) (c:Cx A) (p:Pat) (n:Nat):Bool:=
 p.env.all (λx=>(alk c.e0 x.1).isNone&&!a.keep.contains x.1)&&p.hp.all (λx=>(alk c.g x.1).isNone&&!a.gids.contains x.1&&decide (x.1<n))
def okLa (a:La) (c:Cx A) (s:TS A):Bool:=
 a.keep.all (λx=>(alk c.e0 x).isNone)&&a.gids.all (λid=>(ownB s id).isSome)&&okP a c a.head s.n&&okP a c a.out a.n&&decide (s.n<=a.n)
def outTS (a:La) (c:Cx A) (s:TS A) (y:A.D a.out.ty):TS A:=
 let u:=kae a.out a.n y
 ⟨u.env++a.keep.map (λx=>(x,tlk c s x)),u.hp++a.gids.filterMap (λid=>(ownB s id).map λb=>(id,some b)),a.n,true⟩
def IM:Nat:=9999999
mutual
def TV.solid:TV A->Bool
 | .c _ _ | .kb _ | .sc _ | .fq _ _ _ | .cv _ _ _ _=>true
 | .fn _ vs=>TV.solidL vs
 | .tp vs=>TV.solidL vs
 | .ag vs=>TV.solidL vs
 | _=>false
def TV.solidL:Ya (TV A)->Bool
 | []=>true
 | v::vs=>v.solid&&TV.solidL vs
end
def TV.pure:TV A->Bool
 | .un | .ud=>true
 | v=>v.solid
def Ty.beq:(t:Ty)->t.den->t.den->Bool
 | .i _,x,y=>decide ((x:Int)=y)
 | .b,x,y=>decide ((x:Bool)=y)
 | .s,x,y=>decide ((x:Ya UInt8)=y)
 | .un,_,_=>true
 | .pr u v,x,y=>u.beq x.1 y.1&&v.beq x.2 y.2
 | .w a,x,y=>a.beq x y
 | .pt a,x,y=>a.beq x y
 | .sl a,x,y=>decide (List.length (α:=a.den) x=List.length (α:=a.den) y)&&(List.zip (α:=a.den) (β:=a.den) x y).all λp=>a.beq p.1 p.2
 | .op a,x,y=>match (x:Yb a.den),(y:Yb a.den) with
  | none,none=>true
  | some x,some y=>a.beq x y
  | _,_=>false
 | .ar _ a,x,y=>(x.l.zip y.l).all λp=>a.beq p.1 p.2
 | _,_,_=>false
def gpre (t:Ty) (o:Yb (Ya t.den)) (ys:Ya t.den) (e:t.den):Yb (Ya t.den):=
 match o with
 | none=>some (ys++[e])
 | some xs=>match xs[ys.length]? with
  | some x=>if t.beq x e=true then some (ys++[e]) else none
  | none=>none
def runI {α:Type} (F:Yb (Ya α)->Yb (Ya α)):Yb (Ya α):=
 (F none).bind λxs=>(F (some xs)).bind λys=>if ys.length=xs.length then some xs else none
def Ty.txt:Ty->String
 | .i k=> ""++kn k++ "" | .b=> ".b" | .s=> ".s" | .un=> ".un" | .nt=> ".nt"
 | .pr x y=> ""++x.txt++ " "++y.txt++ "" | .w x=> ""++x.txt++ "" | .sl x=> ""++x.txt++ "" | .pt x=> ""++x.txt++ "" | .op x=> ""++x.txt++ ""
 | .ar n x=> ""++toString n++ " "++x.txt++ "" | .sm x y=> ""++x.txt++ " "++y.txt++ "" | .fn n x y=> ""++toString n++ " "++x.txt++ " "++y.txt++ ""
def yCall (s:TS A) (ops:Ya Oper) (o:Oper):Bool:=
 match o.op with
 | .call a=>match a.callee with
  | .value (.tmp t)=>match tlk c s t with
   | .yl _=>true
   | _=>ops.any λp=>p.dst==some t&&p.guard.isNone&&(match p.op with | .move (.tmp u)=>(match tlk c s u with | .yl _=>true | _=>false) | _=>false)
  | _=>false
 | _=>false
def yIdx (Δ:Ya (FuncId×Ctr)) (s:TS A) (ops:Ya Oper):Yb Nat:=
 if (alk Δ IM).isNone then none else match ops.findIdx (yCall c s ops) with
  | k=>if k<ops.length then some k else none
def yEnv (s:TS A):Ya (Nat×TV A):=s.env.map λx=>(x.1,if x.2.pure then x.2 else .un)
def yTS (s:TS A) (d:Yb Tmp) (b:Bool) (a:TV A):TS A:=⟨(match d with | some d=>[(d,.kb b)] | none=>[])++(GS,a)::yEnv s,[],s.n,false⟩
def krH (Δ:Ya (FuncId×Ctr)) (s:TS A) (y:Oper) (Kf:TS A->A.Ans .un) (K:TS A->A.Ans ρ):A.Ans ρ:=
 match y.op,(alk Δ IM).bind (·.its.head?) with
 | .call cl,some ⟨_,[.nt],ts,F⟩=>match cl.callee with
  | .value f=>match tev c s f,alk s.env GS with
   | .yl id,some (.gs t ys)=>match tcast (.sl (tup ts)) ys,snapM c s ts (cl.args.toList.map (tev c s)) with
    | some ys,some (l,_)=>
     if id != 0||s.dy||!c.g.isEmpty||!(c.e0.all λx=>x.2.pure||(x.1==0&&(match x.2 with | .yl _=>true | _=>false)))||!ts.all Ty.dat||y.guard.isSome||y.dst==some GS then A.fail "yield state" else match mkT A ts l with
     | some e=>A.p2 (x:=.sl (tup ts)) (y:=tup ts) (z:=.sl (tup ts)) (""++Ty.txt (tup ts)++ "") (λys e=>gpre (tup ts) (F (0:Nat)) ys e) ys e λa=>
       A.chk (Kf (yTS s y.dst false .ud)) (K (yTS s y.dst true (.gs (tup ts) a)))
     | none=>A.fail "yield types"
    | _,_=>A.fail "yield arguments"
   | _,_=>A.fail "yield"
  | _=>A.fail "yield"
 | _,_=>A.fail "yield"
def rndE (ps:Ya Tmp) (l:Ya ((t:Ty)×A.D t)) (env:Ya (Nat×TV A)):Ya (Nat×TV A):=(ps.zip l).foldl (λe p=>(p.1,.c p.2.1 p.2.2)::e) env
def ksd (c:Cx A) (s:TS A):Yb (A.D .un):=match alk s.env GS with | some .ud=>some (A.k0 (x:=.un) "" ()) | _=>none
def kwA:Kon A .un .un:=⟨λ_=>A.fail "goes on after a stop",λ_ _=>A.fail "goes on after a stop",λv=>A.ret v⟩
def mach (Δ:Ya (FuncId×Ctr)) (An:Nat->(A:Alg)->Cx A->TS A->Yb La) (j:Nat) :
  Nat->{A:Alg}->{r ρ:Ty}->(Cx A->TS A->Yb (A.D r))->Cx A->Ya Code->Kon A r ρ->TS A->A.Ans ρ
 | 0,A,_,_,_,_,_,_,_=>A.fail "fuel"
 | fuel+1,A,r,ρ,res,c,cs,K,s=>match cs with
  | []=>K.nrm s
  | .skip::cs=>mach Δ An j fuel res c cs K s
  | .seq a b::cs=>mach Δ An j fuel res c (a::b::cs) K s
  | .ret::_=>match res c { s with dy:=false } with
   | some v=>K.retv v
   | none=>askR c s
  | .exit id::_=>K.ext id s
  | .region id ops draw::cs=>match yIdx c Δ s ops.toList with
   | some k=>
    match ops.toList[k]? with
    | none=>A.fail "yield place"
    | some y=>
     if okD c (ops.toList.map (·.dst))&&kbw j ops.toList&&y.guard.isNone&&(!draw||(P.follows .mixedOrders&&kdz ops.toList&&barOk ops.toList k)) then
      let J:=λ(w:TS A)=>krH c Δ w y (λG=>xops P c Δ (ops.toList.map (·.dst)) (ops.toList.drop (k+1)) G λH=>mach Δ An j fuel (r:=.un) (ρ:=.un) ksd c cs kwA H) λG=>xops P c Δ (ops.toList.map (·.dst)) (ops.toList.drop (k+1)) G λH=>mach Δ An j fuel res c cs K H
      if draw then drawT P c Δ j (ops.toList.take k) { s with dy:=false } J else xops P c Δ (ops.toList.map (·.dst)) (ops.toList.take k) { s with dy:=false } J
     else A.fail "yield region"
   | none=>
    let run:=λ(c:Cx A) {ρ:Ty} (s:TS A) (K:TS A->A.Ans ρ)=>if okD c (ops.toList.map (·.dst))&&kbw j ops.toList then (if draw then drawV P c Δ j ops.toList { s with dy:=false } K else xops P c Δ (ops.toList.map (·.dst)) ops.toList { s with dy:=false } K) else A.fail "slot that stays"
    match An (4*id+2) A c s with
    | none=>run c s λs=>mach Δ An j fuel res c cs K s
    | some a=>
     let c':=inCx a c s
     if !okLa a c s then A.fail "pattern" else
     A.note a.tx<|A.jn (x:=a.out.ty) (run c' ⟨s.env.filter (λx=>!a.keep.contains x.1),s.hp.filter (λx=>!a.gids.contains x.1),s.n,s.dy⟩ λs'=>match pack c' a.n a.out s' with
      | some y=>A.ret y
      | none=>A.fail "join of a region") λy=>mach Δ An j fuel res c cs K (outTS a c s y)
  | .cond x a b::cs=>match tev c s x with
   | .kb true=>mach Δ An j fuel res c (a::cs) K s
   | .kb false=>mach Δ An j fuel res c (b::cs) K s
   | .c .b v=>
    match An (match x with | .tmp t=>4*t+1 | _=>3) A c s with
    | none=>A.ite v (mach Δ An j fuel res c (a::cs) K s) (mach Δ An j fuel res c (b::cs) K s)
    | some l=>
     let c':=inCx l c s
     if !okLa l c s then A.fail "pattern" else
     let w:TS A:=⟨s.env.filter (λx=>!l.keep.contains x.1),s.hp.filter (λx=>!l.gids.contains x.1),s.n,s.dy⟩
     A.note l.tx<|if l.ret then
      let C:Kon A r (.sm r l.out.ty):=⟨λs'=>match pack c' l.n l.out s' with
       | some y=>A.ret (A.k1 (x:=l.out.ty) (y:=.sm r l.out.ty) "" Sum.inr y)
       | none=>A.fail "join",λ_ _=>A.fail "join exit",λv=>A.ret (A.k1 (x:=r) (y:=.sm r l.out.ty) "" Sum.inl v)⟩
      A.jn (x:=.sm r l.out.ty) (A.ite v (mach Δ An j fuel res c' [a] C w) (mach Δ An j fuel res c' [b] C w)) λz=>A.cs (x:=r) (y:=l.out.ty) z (λv=>K.retv v) λy=>mach Δ An j fuel res c cs K (outTS l c s y)
     else
      let C:Kon A r l.out.ty:=⟨λs'=>match pack c' l.n l.out s' with
       | some y=>A.ret y
       | none=>A.fail "join",λ_ _=>A.fail "join exit",λ_=>A.fail "join return"⟩
      A.jn (x:=l.out.ty) (A.ite v (mach Δ An j fuel res c' [a] C w) (mach Δ An j fuel res c' [b] C w)) λy=>mach Δ An j fuel res c cs K (outTS l c s y)
   | _=>A.fail "cond"
  | .block id (.loop b)::cs=>match An (4*id) A c s with
   | none=>A.fail "loop without a pattern"
   | some l=>
    let c':=inCx l c s
    if !okLa l c s then A.fail "pattern" else
    match pack c' s.n l.head ⟨s.env.filter (λx=>!l.keep.contains x.1),s.hp.filter (λx=>!l.gids.contains x.1),s.n,s.dy⟩ with
    | none=>A.fail "head of a loop"
    | some x=>
     A.note l.tx<|if l.ret then
      A.lp (x:=l.head.ty) (y:=.sm r l.out.ty) x (λx=>
       mach Δ An j fuel res c' [b] ⟨λs'=>match pack c' s.n l.head s' with
         | some y=>A.ret (A.k1 (x:=l.head.ty) (y:=.sm l.head.ty (.sm r l.out.ty)) "" Sum.inl y)
         | none=>A.fail "round",
        λm s'=>if m=id then match pack c' l.n l.out s' with
         | some y=>A.ret (A.k1 (x:=l.out.ty) (y:=.sm l.head.ty (.sm r l.out.ty)) "" (λy=>Sum.inr (Sum.inr y)) y)
         | none=>A.fail "end of a loop" else A.fail "exit from a loop",
        λv=>A.ret (A.k1 (x:=r) (y:=.sm l.head.ty (.sm r l.out.ty)) "" (λy=>Sum.inr (Sum.inl y)) v)⟩ (kae l.head s.n x))
       λz=>A.cs (x:=r) (y:=l.out.ty) z (λv=>K.retv v) λy=>mach Δ An j fuel res c cs K (outTS l c s y)
     else
      A.lp (x:=l.head.ty) (y:=l.out.ty) x (λx=>
       mach Δ An j fuel res c' [b] ⟨λs'=>match pack c' s.n l.head s' with
         | some y=>A.ret (A.k1 (x:=l.head.ty) (y:=.sm l.head.ty l.out.ty) "" Sum.inl y)
         | none=>A.fail "round",
        λm s'=>if m=id then match pack c' l.n l.out s' with
         | some y=>A.ret (A.k1 (x:=l.out.ty) (y:=.sm l.head.ty l.out.ty) "" Sum.inr y)
         | none=>A.fail "end of a loop" else A.fail "exit from a loop",
        λ_=>A.fail "return from a loop"⟩ (kae l.head s.n x))
       λy=>mach Δ An j fuel res c cs K (outTS l c s y)
  | .block id (.rangeFunc f ps assign body)::cs=>
   if (alk Δ IM).isSome then A.fail "loop over a function in an iterator" else
   let s:TS A:=⟨s.env,s.hp,s.n,false⟩
   match tev c s f with
   | .fn g E=>match (alk Δ g).bind (·.its.head?) with
    | none=>A.fail ""
    | some I=>match kdH c Δ s I.as E with
     | none=>A.fail ""
     | some (l,ids)=>match retire s ids,mkT A I.as l with
      | some s0,some a=>
       let s:TS A:=⟨s0.env,s0.hp,s0.n,false⟩
       match An (4*id) A c s with
       | none=>A.fail "loop without a pattern"
       | some l=>
        let c':=inCx l c s
        if !okLa l c s||!l.head.env.isEmpty||!l.out.env.isEmpty||!ps.toList.all (λp=>(alk c'.e0 p).isNone&&decide (p<j))||I.ts.length≠ps.size||!I.ts.all Ty.dat then A.fail "pattern" else
        match pack c' s.n l.head ⟨s.env.filter (λx=>!l.keep.contains x.1),s.hp.filter (λx=>!l.gids.contains x.1),s.n,s.dy⟩ with
        | none=>A.fail "head of a loop"
        | some x=>
         let B:=λ(M:Cx A) (w:TS A)=>res ⟨c'.e0,M.g⟩ ⟨[],w.hp,w.n,w.dy⟩
         let stT:Ty:=.pr (.i .i64) l.head.ty
         A.note l.tx<|A.p1 (x:=tup I.as) (y:=.sl (tup I.ts)) I.nm I.F a λxs=>
         A.lp (x:=stT) (y:=.sm r l.out.ty) (A.k2 (x:=.i .i64) (y:=l.head.ty) (z:=stT) "" Prod.mk (toI A 0 .i64) x) (λst=>
          let i:A.D (.i .i64):=A.k1 (x:=stT) (y:=.i .i64) "" Prod.fst st
          let L:A.D l.head.ty:=A.k1 (x:=stT) (y:=l.head.ty) "" Prod.snd st
          let u:=kae l.head s.n L
          A.ite (A.k2 (x:=.i .i64) (y:=.sl (tup I.ts)) (z:=.b) "" (λ(i:Int) xs=>decide (i<lenI xs)) i xs)
           (A.p2 (x:=.sl (tup I.ts)) (y:=.i .i64) (z:=tup I.ts) "" (λl i=>gi l i) xs i λe=>
            mach Δ An j fuel B c' [assign] ⟨λs'=>mach Δ An j fuel B c' [body] ⟨λs'=>match pack c' s.n l.head s' with
              | some y=>A.ret (A.k1 (x:=stT) (y:=.sm stT (.sm r l.out.ty)) "" Sum.inl (A.k2 (x:=.i .i64) (y:=l.head.ty) (z:=stT) "" Prod.mk (A.k1 (x:=.i .i64) (y:=.i .i64) "" (λ(i:Int)=>i+1) i) y))
              | none=>A.fail "round",
             λm s'=>if m=id then match pack c' l.n l.out s' with
              | some y=>A.ret (A.k1 (x:=l.out.ty) (y:=.sm stT (.sm r l.out.ty)) "" (λy=>Sum.inr (Sum.inr y)) y)
              | none=>A.fail "end of a loop" else A.fail "exit from a loop",
             λv=>A.ret (A.k1 (x:=r) (y:=.sm stT (.sm r l.out.ty)) "" (λy=>Sum.inr (Sum.inl y)) v)⟩ s',λ_ _=>A.fail "exit",λ_=>A.fail "exit"⟩ ⟨rndE ps.toList (unT A I.ts e) u.env,u.hp,u.n,u.dy⟩)
           (match pack c' l.n l.out u with
            | some y=>A.ret (A.k1 (x:=l.out.ty) (y:=.sm stT (.sm r l.out.ty)) "" (λy=>Sum.inr (Sum.inr y)) y)
            | none=>A.fail "end of a loop"))
          λz=>A.cs (x:=r) (y:=l.out.ty) z (λv=>K.retv v) λy=>mach Δ An j fuel res c cs K (outTS l c s y)
      | _,_=>A.fail ""
   | _=>A.fail "loop over a function"
  | .block id b::cs=>mach Δ An j fuel res c [b] ⟨λs=>mach Δ An j fuel res c cs K s,λm s=>if m=id then mach Δ An j fuel res c cs K s else K.ext m s,K.retv⟩ s
  | _=>A.fail "code"
def cellX {A:Alg} (c:Cx A) (s:TS A) (T:Yc) (v:TV A):Yb (TV A):=
 match aggO P T with
 | none=>none
 | some ag=>match v with
  | .ptr id j=>match thp c s id with
   | some (.bx _ vs)=>if ag then (if j+P.cellsOf T<=vs.length then some (.ag ((vs.drop j).take (P.cellsOf T))) else none) else vs[j]?
   | some (.el _ t x)=>(comp t x j (P.cellsOf T) ag).map λy=>.c y.1 y.2
   | _=>none
  | _=>none
def resX {A:Alg} (c:Cx A) (s:TS A):Ya ResultVar->(rs:Ya Ty)->Yb (Ya ((t:Ty)×A.D t))
 | [],[]=>some []
 | .tmp t::l,r::rs=>(snapV c s r (tlk c s t)).bind λx=>(resX c s l rs).map λy=>⟨r,x.1⟩::y
 | .cell a T::l,r::rs=>(cellX P c s T (tlk c s a)).bind λv=>(snapV c s r v).bind λx=>(resX c s l rs).map λy=>⟨r,x.1⟩::y
 | _,_=>none
def argT {A:Alg}:(t:Ty)->A.D t->TV A
 | .fn n x y,F=>.cv n x y F
 | t,x=>.c t x
def argsT {A:Alg} (as:Ya Ty) (x:A.D (tup as)) (n:Nat):TS A:=⟨(unT A as x).zipIdx.map λy=>(y.2,argT y.1.1 y.1.2),[],n,false⟩
def machF (Δ:Ya (FuncId×Ctr)) (An:Nat->(A:Alg)->Cx A->TS A->Yb La) (f:Func) (as rs:Ya Ty) {A:Alg} (x:A.D (tup as)):A.Ans (tup rs):=
 let res:=λ(c:Cx A) (s:TS A)=>(resX P c s f.results.toList rs).bind (mkT A rs)
 match f.body with
 | none=>A.fail "body"
 | some body=>mach P Δ An f.ntmps 1000000 res ⟨[],[]⟩ [body] ⟨λs=>match res ⟨[],[]⟩ s with | some v=>A.ret v | none=>A.fail "result",λ_ _=>A.fail "exit",λv=>A.ret v⟩ (argsT as x 0)
def oraC (ts:Ya Ty) (o:Yb (Ya (tup ts).den)):Ctr:=⟨ "",[],[],λ_=>none,[],[⟨ "",[.nt],ts,λ_=>o⟩]⟩
def resI {A:Alg} (ts:Ya Ty) (c:Cx A) (s:TS A):Yb (A.D (.sl (tup ts))):=
 match alk s.env GS with
 | some (.gs t ys)=>tcast (.sl (tup ts)) ys
 | some .ud=>some (A.k0 (x:=.sl (tup ts)) "" [])
 | _=>none
def machI (Δ:Ya (FuncId×Ctr)) (An:Nat->(A:Alg)->Cx A->TS A->Yb La) (f:Func) (as ts:Ya Ty) (o:Yb (Ya (tup ts).den)) {A:Alg} (x:A.D (tup as)):A.Ans (.sl (tup ts)):=
 match f.body with
 | none=>A.fail "body"
 | some body=>mach P ((IM,oraC ts o) :: Δ) An f.ntmps 1000000 (resI ts) ⟨[(0,.yl 0)],[]⟩ [body] ⟨λs=>match resI ts ⟨[],[]⟩ s with | some v=>A.ret v | none=>A.fail "result",λ_ _=>A.fail "exit",λv=>A.ret v⟩
   ⟨(GS,.gs (tup ts) (A.k0 (x:=.sl (tup ts)) "" []))::(unT A as x).zipIdx.map (λy=>(y.2+1,argT y.1.1 y.1.2)),[],1,false⟩
def kbK {A:Alg}:Ya (Yb Ty)->Ya ((t:Ty)×A.D t)->Nat->Ya (Nat×TV A)
 | some _::ks,p::l,i=>(i,argT p.1 p.2)::kbK ks l (i+1)
 | none::ks,l,i=>kbK ks l (i+1)
 | _,_,_=>[]
def kgb:Ya (Yb Ty)->Nat->Ya Nat
 | some _::ks,i=>i::kgb ks (i+1)
 | none::ks,i=>kgb ks (i+1)
 | [],_=>[]
def resTV {A:Alg} (c:Cx A) (s:TS A):Ya ResultVar->Yb (Ya (TV A))
 | []=>some []
 | .tmp t::l=>(resTV c s l).map λvs=>tlk c s t::vs
 | .cell a T::l=>(cellX P c s T (tlk c s a)).bind λv=>(resTV c s l).map λvs=>v::vs
def endM {A:Alg} (c:Cx A) (s:TS A) (vs:Ya (TV A)):TS A:=⟨(vs.zipIdx.map λx=>(1000000+x.2,x.1))++(s.env++c.e0),s.hp++c.g.map (λx=>(x.1,some x.2)),s.n,false⟩
def resM {A:Alg} (C:CtrM) (l:Ya ResultVar) (c:Cx A) (s:TS A):Yb (A.D C.out.ty):=
 (resTV P c s l).bind λvs=>if vs.length=C.nr then (packM ⟨[],[]⟩ C.n1 C.out (endM c s vs) C.inn).bind λm=>if m.sn.isEmpty&&C.inn.all (λp=>alk m.ids p==some p) then mkT A C.out.tys m.cs else none else none
def CtrM.okS (C:CtrM):Bool:=
 decide (kgb C.ks 0++C.inp.env.map (·.1)).Nodup&&C.inp.env.all (λx=>decide (x.1<C.ks.length))&&C.ok&&decide C.inn.Nodup &&
 C.out.env.all (λx=>(decide (1000000<=x.1)&&decide (x.1<1000000+C.nr))||(decide (x.1<C.ks.length)&&match alk C.inp.env x.1 with | some (.mw _)=>true | some (.ptr _ _)=>true | some (.mp _)=>true | _=>false))
def kyS (Δ:Ya (FuncId×Ctr)) (An:Nat->(A:Alg)->Cx A->TS A->Yb La) (f:Func) (C:CtrM) {A:Alg} (x:A.D (tup (C.ks.filterMap id++C.inp.tys))):A.Ans C.out.ty:=
 let l:=unT A (C.ks.filterMap id++C.inp.tys) x
 let u:=kal (A:=A) C.inp C.n0 (l.drop (C.ks.filterMap id).length)
 let c:Cx A:=⟨u.env.filter (λx=>(alk C.out.env x.1).isSome)++C.inn.map (λp=>(7000000+p,.kp p)),[]⟩
 match f.body with
 | none=>A.fail "body"
 | some body=>mach P Δ An f.ntmps 1000000 (resM P C f.results.toList) c [body] ⟨λs=>if f.results.toList.isEmpty then (match resM P C [] c ⟨[],s.hp,s.n,false⟩ with | some v=>A.ret v | none=>askR c s) else if s.dy then A.fail "dirty end" else match resM P C f.results.toList c s with | some v=>A.ret v | none=>askR c s,λ_ _=>A.fail "exit",λv=>A.ret v⟩ ⟨kbK C.ks (l.take (C.ks.filterMap id).length) 0++u.env.filter (λx=>!(alk C.out.env x.1).isSome),u.hp,C.n0,false⟩
def anFit {A:Alg} (k:Nat) (a:La) (c:Cx A) (s:TS A):Bool:=
 okLa a c s&&(k % 4 != 0||(pack (inCx a c s) s.n a.head ⟨s.env.filter (λx=>!a.keep.contains x.1),s.hp.filter (λx=>!a.gids.contains x.1),s.n,s.dy⟩).isSome)
def anL (l:Ya (Nat×La)):Nat->(A:Alg)->Cx A->TS A->Yb La:=λk _ c s=>match l.filter λx=>x.1==k with
 | []=>none
 | [x]=>match k % 4==0||anFit k x.2 c s with
  | true=>some x.2
  | false=>none
 | xs=>(xs.find? λx=>anFit k x.2 c s).map (·.2)
end
theorem Snap.mono {z z':AH} (hz:∀ q B,z q=some B->z' q=some B) {a a':AV} (h:Snap z a a'):Snap z' a a':=by
 induction h with
 | free a u=>exact .free a u
 | nilS=>exact .nilS
 | own id i j k T es e cs hB v hl hr m=>exact .own id i j k T es e cs (hz _ _ hB) v hl m
 | ms id off len k T es es' hB p hl t hr m=>exact .ms id off len k T es es' (hz _ _ hB) p hl t m
 | fp cs b hl hr m=>exact .fp cs b hl m
 | sl es es' hl t hr m=>exact .sl es es' hl t m
 | fn f cs b hl hr m=>exact .fn f cs b hl m
 | ag cs b hl hr m=>exact .ag cs b hl m
 | tp cs b hl hr m=>exact .tp cs b hl m
theorem SnapL.mono {z z':AH} (hz:∀ q B,z q=some B->z' q=some B) {l l':Ya AV} (h:SnapL z l l'):SnapL z' l l':=by
 induction h with
 | nil=>exact .nil
 | cons b h2 a=>exact .cons (b.mono hz) a
theorem SnapL.append {z:AH} {a a' b b':Ya AV} (h:SnapL z a a') (g:SnapL z b b'):SnapL z (a++b) (a'++b'):=by
 induction h with
 | nil=>exact g
 | cons f h2 e=>exact .cons f e
theorem SnapL.take {z:AH} {a a':Ya AV} (h:SnapL z a a'):∀ n,SnapL z (a.take n) (a'.take n):=by
 induction h with
 | nil=>intro n; simp; exact .nil
 | cons e h2 b=>
  intro n;cases n with
  | zero=>exact .nil
  | succ n=>simpa using SnapL.cons e (b n)
theorem SnapL.drop {z:AH} {a a':Ya AV} (h:SnapL z a a'):∀ n,SnapL z (a.drop n) (a'.drop n):=by
 induction h with
 | nil=>intro n; simp; exact .nil
 | cons e h2 b=>
  intro n;cases n with
  | zero=>exact .cons e h2
  | succ n=>simpa using b n
theorem SnapL.of_at {z:AH}:∀ {l l':Ya AV},l'.length=l.length->(∀ (q:Nat) (c c':AV),l[q]?=some c->l'[q]?=some c'->Snap z c c')->SnapL z l l'
 | [],[],_,_=>.nil
 | a::l,a'::l',hl,h=>.cons (h 0 a a' rfl rfl) (SnapL.of_at (by simpa using hl) λq c c' e b=>h (q+1) c c' (by simpa using e) (by simpa using b))
theorem SnapL.splitR {z:AH}:∀ {a' b' l:Ya AV},SnapL z l (a'++b')->∃ a b,l=a++b/\SnapL z a a'/\SnapL z b b'
 | [],b',l,h=>⟨[],l,rfl,.nil,h⟩
 | x::a',b',_,.cons h1 h2=>by
  obtain ⟨a,b,rfl,g1,e⟩:=SnapL.splitR h2;exact ⟨_::a,b,rfl,.cons h1 g1,e⟩
theorem Snap.ag_inv {z:AH} {a:AV} {b:Ya AV} (h:Snap z a (.ag b)):∃ cs,a = .ag cs/\SnapL z cs b:=by
 cases h with
 | free _ e=>exact ⟨_,rfl,SnapL.free ((koV _).1 e)⟩
 | ag cs _ hl hr=>exact ⟨cs,rfl,SnapL.of_at hl hr⟩
theorem Snap.sc_inv {z:AH} {a:AV} {v:Ye} (h:Snap z a (.sc v)):a = .sc v:=by cases h; rfl
theorem Snap.fp_inv {z:AH} {a:AV} {b:Ya AV} (h:Snap z a (.fp b)):(∃ cs,a = .fp cs/\SnapL z cs b)\/∃ id i j k T es e,a = .own id i j/\z id=some (.cells k T es)/\es[i]?=some e/\SnapL z (e.drop j) b:=by
 cases h with
 | free _ m=>exact .inl ⟨_,rfl,SnapL.free ((kiW _).1 m)⟩
 | own id i j k T es e cs hB f hl hr=>exact .inr ⟨id,i,j,k,T,es,e,rfl,hB,f,SnapL.of_at hl hr⟩
 | fp cs _ hl hr=>exact .inl ⟨cs,rfl,SnapL.of_at hl hr⟩
def SnapE (z:AH) (es es':Ya (Ya AV)):Prop:=es'.length=es.length/\∀ (q:Nat) (e e':Ya AV),es[q]?=some e->es'[q]?=some e'->SnapL z e e'
theorem SnapE.free {z:AH} {es:Ya (Ya AV)} (h:∀ e∈es,FreeL e):SnapE z es es:=⟨rfl,λq e e' b a=>by rw [b] at a; cases a; exact SnapL.free (h e (jak b))⟩
theorem SnapE.mono {z z':AH} (hz:∀ q B,z q=some B->z' q=some B) {es es':Ya (Ya AV)} (h:SnapE z es es'):SnapE z' es es':=⟨h.1,λq e e' b a=>(h.2 q e e' b a).mono hz⟩
theorem Snap.of_sl {z:AH} {es es':Ya (Ya AV)} (h:SnapE z es es'):Snap z (.sl es) (.sl es'):=
 .sl es es' h.1 (λq e e' b a=>(h.2 q e e' b a).len) λq e e' b a=>(h.2 q e e' b a).at
theorem Snap.of_ms {z:AH} {id off len k:Nat} {T:Yc} {es es':Ya (Ya AV)} (hB:z id=some (.cells k T es)) (i:off+len<=es.length) (h:SnapE z ((es.drop off).take len) es'):Snap z (.ms id off len) (.sl es'):=by
 have f:es'.length=len:=by rw [h.1,jbi,jdw]; omega
 have key:∀ q e e',es[off+q]?=some e->es'[q]?=some e'->SnapL z e e':=λq e e' b a=>by
  have j:q<len:=by have:=(jaf.1 a).1; omega
  exact h.2 q e e' (by rw [jbr,if_pos j,jar]; exact b) a
 exact .ms id off len k T es es' hB i f (λq e e' b a=>(key q e e' b a).len) λq e e' b a=>(key q e e' b a).at
theorem Snap.sl_inv {z:AH} {a:AV} {es':Ya (Ya AV)} (h:Snap z a (.sl es')) :
  (∃ es,a = .sl es/\SnapE z es es')\/(a=Abs.nilS/\es'=[])\/∃ id off len k T es,a = .ms id off len/\z id=some (.cells k T es)/\off+len<=es.length/\SnapE z ((es.drop off).take len) es':=by
 cases h with
 | free _ p=>exact .inl ⟨_,rfl,SnapE.free ((koZ _).1 p)⟩
 | nilS=>exact .inr (.inl ⟨rfl,rfl⟩)
 | ms id off len k T es _ hB i hl m hr=>
  refine .inr (.inr ⟨id,off,len,k,T,es,rfl,hB,i,by rw [hl,jbi,jdw]; omega,λq e e' f b=>?_⟩);have j:q<len:=by have:=(jaf.1 b).1; omega
  rw [jbr,if_pos j,jar] at f;exact SnapL.of_at (m q e e' f b) (hr q e e' f b)
 | sl es _ hl m hr=>exact .inl ⟨es,rfl,hl,λq e e' f b=>SnapL.of_at (m q e e' f b) (hr q e e' f b)⟩
theorem kpK {α β:Type} {k:Nat} {f:α->Ya β} (a:∀ y,(f y).length=k):∀ l:Ya α,(l.map f).flatten.length=l.length*k
 | []=>by simp
 | x::l=>by simp [kpK a l,a x,jee,Nat.add_comm]
theorem kag:∀ (t:Ty) (x:t.den),t.dat=true->(t.enc x).length=t.wd
 | .i _,_,_ | .b,_,_ | .s,_,_ | .un,_,_ | .sl _,_,_ | .pt _,_,_=>rfl
 | .op _,_,_=>rfl
 | .pr a b,x,h=>by
  simp only [Ty.dat,jac] at h;show (a.enc x.1++b.enc x.2).length=a.wd+b.wd;rw [jbh,kag a x.1 h.1,kag b x.2 h.2]
 | .w a,x,h=>by simpa [Ty.enc,Ty.wd] using kag a x h
 | .ar n a,x,h=>by
  simp only [Ty.enc,Ty.wd];rw [kpK (λy=>kag a y h),x.h]
theorem kbk:∀ (t:Ty) (x:t.den),t.dat=true->∀ a∈t.enc x,a.one=true
 | .i _,_,_ | .b,_,_ | .s,_,_ | .sl _,_,_ | .pt _,_,_=>by intro a f; simp [Ty.enc] at f; subst f; rfl
 | .un,_,_=>by intro a f; simp [Ty.enc] at f
 | .op _,x,_=>by intro a f; simp [Ty.enc] at f; subst f; cases x <;> rfl
 | .pr a b,x,h=>by
  simp only [Ty.dat,jac] at h;intro v e;replace e:v∈a.enc x.1++b.enc x.2:=e;rw [jaw] at e;rcases e with e | e
  ·exact kbk a x.1 h.1 v e
  ·exact kbk b x.2 h.2 v e
 | .w a,x,h=>kbk a x h
 | .ar n a,x,h=>by
  intro v e;simp only [Ty.enc,List.mem_flatten,jbb] at e;obtain ⟨l,⟨y,_,rfl⟩,e⟩:=e;exact kbk a y h v e
theorem kbN:∀ (t:Ty) (x:t.den),t.dat=true->FreeL (t.enc x)
 | .i _,_,_ | .b,_,_ | .s,_,_=>by simp [Ty.enc]
 | .un,_,_=>by simp [Ty.enc]
 | .sl a,l,h=>by
  simp only [Ty.enc,kbW,kgm,and_true,koZ];intro e j;obtain ⟨y,_,rfl⟩:=jbb.1 j;exact kbN a y h
 | .pt a,x,h=>by simpa [Ty.enc] using kbN a x h
 | .op a,x,h=>by
  simp only [Ty.enc,kbW,kgm,and_true];exact kyO (λy=>kbN a y h) x
 | .pr a b,x,h=>by
  simp only [Ty.dat,jac] at h;exact (ktU (a.enc x.1) (b.enc x.2)).2 ⟨kbN a x.1 h.1,kbN b x.2 h.2⟩
 | .w a,x,h=>kbN a x h
 | .ar n a,x,h=>by
  intro v f;simp only [Ty.enc,List.mem_flatten,jbb] at f;obtain ⟨l,⟨y,_,rfl⟩,f⟩:=f;exact kbN a y h v f
theorem khb {t:Ty} (h:t.agg=true) (x:t.den):t.av x = .ag (t.enc x):=by simp [Ty.av,h]
theorem khk {t:Ty} (h:t.agg=false) (a:t.dat=true) (x:t.den):t.enc x=[t.av x]:=by
 cases t <;> simp [Ty.agg,Ty.dat] at h a <;> rfl
theorem khL (t:Ty) (x:t.den) (a:t.dat=true):Free (t.av x):=by
 cases h:t.agg with
 | true=>rw [khb h]; exact (koV _).2 (kbN t x a)
 | false=>have:=kbN t x a; rw [khk h a,kbW] at this; exact this.1
theorem kyW {t:Ty} (h:t.agg=false) (a:t.dat=true):t.wd=1:=by cases t <;> simp [Ty.agg,Ty.dat] at h a <;> rfl
def avsN:Nat->(x:Ty)->x.den->Ya AV
 | 0,_,_=>[]
 | 1,t,v=>[t.av v]
 | n+2,.pr a b,v=>a.av v.1::avsN (n+1) b v.2
 | _+2,t,v=>[t.av v]
section
variable (P:Yd)
def CV (n:Nat) (x y:Ty) (F:x.den->Yb y.den) (a:AV):Prop:=
 ∃ g as,a = .fn g as/\FreeL as/\(untup n x).length=n/\(untup n x).all Ty.dat=true/\y.dat=true/\∀ v r,F v=some r->PC P g (avsN n x v++as) (·= y.av r)
def decN:Nat->Nat->Ya Nat
 | 0,_=>[]
 | f+1,m=>if m=0 then [] else
  if m % 2=0 then (match decN f (m / 2) with | []=>[] | a::l=>(a+1)::l) else 0::decN f (m / 2)
def encN:Ya Nat->Nat
 | []=>0
 | a::l=>2 ^ a*(2*encN l+1)
def koE:Ya Nat->Ya (Yb Nat×Nat)
 | r::m::l=>(if r=0 then none else some (r-1),m)::koE l
 | _=>[]
def kla:Ya (Yb Nat×Nat)->Ya Nat
 | []=>[]
 | (r,m)::l=>(match r with | none=>0 | some r=>r+1)::m::kla l
def kad (x:Nat):Ya (Yb Nat×Nat):=koE (decN x x)
theorem kuu (a:Nat) (l:Ya Nat):0<encN (a::l):=by
 unfold encN;exact Nat.mul_pos (Nat.pow_pos (by omega)) (by omega)
theorem kqv:∀ (f:Nat) (l:Ya Nat),encN l<=f->decN f (encN l)=l
 | 0,[],_=>rfl
 | 0,a::l,h=>by have:=kuu a l; omega
 | f+1,[],_=>by simp [encN,decN]
 | f+1,0::l,h=>by
  have e:encN (0::l)=2*encN l+1:=by simp [encN]
  rw [e] at h ⊢;unfold decN;rw [if_neg (by omega),if_neg (by omega),show (2*encN l+1) / 2=encN l by omega,kqv f l (by omega)]
 | f+1,(a+1)::l,h=>by
  have e:encN ((a+1)::l)=2*encN (a::l):=by simp only [encN]; rw [Nat.pow_succ,Nat.mul_comm (2 ^ a) 2,Nat.mul_assoc]
  have hp:=kuu a l;rw [e] at h ⊢;unfold decN;rw [if_neg (by omega),if_pos (by omega),show 2*encN (a::l) / 2=encN (a::l) by omega,kqv f (a::l) (by omega)]
theorem kjJ:∀ (l:Ya (Yb Nat×Nat)),koE (kla l)=l
 | []=>rfl
 | (none,m)::l=>by simp [kla,koE,kjJ l]
 | (some r,m)::l=>by simp [kla,koE,kjJ l]
def codeR (l:Ya (Yb Nat×Nat)):Nat:=encN (kla l)
theorem kbS (l:Ya (Yb Nat×Nat)):kad (codeR l)=l:=by
 unfold kad codeR;rw [kqv _ _ (jag _),kjJ]
mutual
inductive TVR (κ:Nat->Option Nat) (ln:Nat->Nat) (z:AH) (N:Nat):TV sem->AV->Prop
 | un (a:AV):TVR κ ln z N .un a
 | ud:TVR κ ln z N .ud .ud
 | c (t:Ty) (x:t.den) (a:AV) (hd:t.dat=true) (h:Snap z a (t.av x)):TVR κ ln z N (.c t x) a
 | kb (b:Bool):TVR κ ln z N (.kb b) (.sc (.bool b))
 | sc (v:Value) (h1:v.oneCell'=true):TVR κ ln z N (.sc v) (.sc v)
 | ptr (id j q:Nat) (hN:id<N) (h:κ id=some q):TVR κ ln z N (.ptr id j) (.own q 0 j)
 | adr (id:Nat) (i:Int) (j q:Nat) (hN:id<N) (h:κ id=some q) (h0:0<=i) (h1:i.toNat<ln id):TVR κ ln z N (.adr id i j) (.own q i.toNat j)
 | aa (id:Nat) (i:Int) (q:Nat) (hN:id<N) (h:κ id=some q) (h0:0<=i) (h1:i.toNat<ln id):TVR κ ln z N (.aa id i) (.own q 0 i.toNat)
 | fq (t:Ty) (x:t.den) (o:Nat) (a:AV) (hd:t.dat=true) (h:Snap z a (.fp ((t.enc x).drop o))):TVR κ ln z N (.fq t x o) a
 | mw0 (id:Nat) (hN:id<N) (h:κ id=none):TVR κ ln z N (.mw id) nilS
 | mw (id q:Nat) (hN:id<N) (h:κ id=some q):TVR κ ln z N (.mw id) (.ms q 0 (ln id))
 | ms0 (id:Nat) (off len:Int) (hN:id<N) (h:κ id=none) (ho:off=0) (hl:len=0):TVR κ ln z N (.ms id off len) nilS
 | ms (id:Nat) (off len:Int) (q:Nat) (hN:id<N) (h:κ id=some q) (h0:0<=off) (h1:0<=len) (h2:off+len<=ln id):TVR κ ln z N (.ms id off len) (.ms q off.toNat len.toNat)
 | mp (id q:Nat) (hN:id<N) (h:κ id=some q):TVR κ ln z N (.mp id) (.mp q)
 | fw0 (id:Nat) (hN:id<N) (h:κ id=none):TVR κ ln z N (.fw id) nilS
 | fw (id q:Nat) (hN:id<N) (h:κ id=some q):TVR κ ln z N (.fw id) (.ms q 0 (kad (ln id)).length)
 | fr0 (id:Nat) (i:Int) (m:Nat) (hN:id<N) (h0:0<=i) (h:(kad (ln id))[i.toNat]?=some (none,m)):TVR κ ln z N (.fr id i) nilS
 | fr (id:Nat) (i:Int) (r m:Nat) (hN:id<N) (h0:0<=i) (h:(kad (ln id))[i.toNat]?=some (some r,m)):TVR κ ln z N (.fr id i) (.ms r 0 m)
 | fo (id:Nat) (i:Int) (j q:Nat) (hN:id<N) (h:κ id=some q) (h0:0<=i) (h1:i.toNat<(kad (ln id)).length):TVR κ ln z N (.fo id i j) (.own q i.toNat j)
 | fa (id:Nat) (i k:Int) (o r m:Nat) (hN:id<N) (h0:0<=i) (h:(kad (ln id))[i.toNat]?=some (some r,m)) (hk:0<=k) (hm:k.toNat<m):TVR κ ln z N (.fa id i k o) (.own r k.toNat o)
 | fn (g:FuncId) (vs:List (TV sem)) (as:List AV) (h:TVRs κ ln z N vs as):TVR κ ln z N (.fn g vs) (.fn g as)
 | cv (n:Nat) (x y:Ty) (F:x.den->Option y.den) (a:AV) (h:CV P n x y F a):TVR κ ln z N (.cv n x y F) a
 | tp (vs:List (TV sem)) (as:List AV) (h:TVRs κ ln z N vs as):TVR κ ln z N (.tp vs) (.tp as)
 | ag (vs:List (TV sem)) (as:List AV) (h:TVRs κ ln z N vs as) (h1:∀ a∈as,a.one=true):TVR κ ln z N (.ag vs) (.ag as)
 | gs (t:Ty) (l:List t.den):TVR κ ln z N (.gs t l) (.gs (l.map t.enc))
 | yl (id q:Nat) (hN:id<N) (h:κ id=some q):TVR κ ln z N (.yl id) (.sc (.func (.yield q) #[] #[]))
 | kp (id:Nat) (hN:id<N):TVR κ ln z N (.kp id) .un
inductive TVRs (κ:Nat->Option Nat) (ln:Nat->Nat) (z:AH) (N:Nat):List (TV sem)->List AV->Prop
 | nil:TVRs κ ln z N [] []
 | cons (v:TV sem) (a:AV) (vs:List (TV sem)) (as:List AV) (h:TVR κ ln z N v a) (hs:TVRs κ ln z N vs as):TVRs κ ln z N (v::vs) (a::as)
end
variable {P}
variable {κ κ':Nat->Yb Nat} {ln ln':Nat->Nat} {z z':AH} {N N':Nat}
mutual
theorem TVR.mono (f:∀ id,id<N->κ' id = κ id) (e:∀ id,id<N->ln' id=ln id) (hz:∀ q B,z q=some B->z' q=some B) (hN:N<=N'):∀ {v:TV sem} {a:AV},TVR P κ ln z N v a->TVR P κ' ln' z' N' v a
 | _,_,.un a=>.un a
 | _,_,.ud=>.ud
 | _,_,.c t x a hd h=>.c t x a hd (h.mono hz)
 | _,_,.kb b=>.kb b
 | _,_,.sc v h1=>.sc v h1
 | _,_,.ptr id j q hi h=>.ptr id j q (by omega) (by rw [f id hi]; exact h)
 | _,_,.adr id i j q hi h h0 h1=>.adr id i j q (by omega) (by rw [f id hi]; exact h) h0 (by rw [e id hi]; exact h1)
 | _,_,.aa id i q hi h h0 h1=>.aa id i q (by omega) (by rw [f id hi]; exact h) h0 (by rw [e id hi]; exact h1)
 | _,_,.fq t x o a hd h=>.fq t x o a hd (h.mono hz)
 | _,_,.mw0 id hi h=>.mw0 id (by omega) (by rw [f id hi]; exact h)
 | _,_,.mw id q hi h=>by rw [<-e id hi]; exact .mw id q (by omega) (by rw [f id hi]; exact h)
 | _,_,.ms0 id off len hi h ho hl=>.ms0 id off len (by omega) (by rw [f id hi]; exact h) ho hl
 | _,_,.ms id off len q hi h h0 h1 h2=>.ms id off len q (by omega) (by rw [f id hi]; exact h) h0 h1 (by rw [e id hi]; exact h2)
 | _,_,.mp id q hi h=>.mp id q (by omega) (by rw [f id hi]; exact h)
 | _,_,.fw0 id hi h=>.fw0 id (by omega) (by rw [f id hi]; exact h)
 | _,_,.fw id q hi h=>by rw [<-e id hi]; exact .fw id q (by omega) (by rw [f id hi]; exact h)
 | _,_,.fr0 id i m hi h0 h=>.fr0 id i m (by omega) h0 (by rw [e id hi]; exact h)
 | _,_,.fr id i r m hi h0 h=>.fr id i r m (by omega) h0 (by rw [e id hi]; exact h)
 | _,_,.fo id i j q hi h h0 h1=>.fo id i j q (by omega) (by rw [f id hi]; exact h) h0 (by rw [e id hi]; exact h1)
 | _,_,.fa id i k o r m hi h0 h hk hm=>.fa id i k o r m (by omega) h0 (by rw [e id hi]; exact h) hk hm
 | _,_,.fn g vs as h=>.fn g vs as (TVRs.mono f e hz hN h)
 | _,_,.cv n x y F a h=>.cv n x y F a h
 | _,_,.tp vs as h=>.tp vs as (TVRs.mono f e hz hN h)
 | _,_,.ag vs as h h1=>.ag vs as (TVRs.mono f e hz hN h) h1
 | _,_,.gs t l=>.gs t l
 | _,_,.yl id q hi h=>.yl id q (by omega) (by rw [f id hi]; exact h)
 | _,_,.kp id hi=>.kp id (by omega)
theorem TVRs.mono (e:∀ id,id<N->κ' id = κ id) (b:∀ id,id<N->ln' id=ln id) (hz:∀ q B,z q=some B->z' q=some B) (hN:N<=N'):∀ {v:Ya (TV sem)} {a:Ya AV},TVRs P κ ln z N v a->TVRs P κ' ln' z' N' v a
 | _,_,.nil=>.nil
 | _,_,.cons v a vs as h hs=>.cons v a vs as (TVR.mono e b hz hN h) (TVRs.mono e b hz hN hs)
end
theorem TVRs.len:∀ {vs:Ya (TV sem)} {as:Ya AV},TVRs P κ ln z N vs as->as.length=vs.length
 | _,_,.nil=>rfl
 | _,_,.cons _ _ _ _ _ h=>by simp [h.len]
theorem TVRs.append:∀ {vs:Ya (TV sem)} {as:Ya AV} {us:Ya (TV sem)} {bs:Ya AV},TVRs P κ ln z N vs as->TVRs P κ ln z N us bs->TVRs P κ ln z N (vs++us) (as++bs)
 | _,_,_,_,.nil,g=>g
 | _,_,_,_,.cons v a vs as h hs,g=>.cons v a _ _ h (hs.append g)
theorem TVRs.take:∀ {vs:Ya (TV sem)} {as:Ya AV},TVRs P κ ln z N vs as->∀ n,TVRs P κ ln z N (vs.take n) (as.take n)
 | _,_,.nil,n=>by simp; exact .nil
 | _,_,.cons v a vs as h hs,0=>.nil
 | _,_,.cons v a vs as h hs,n+1=>by simpa using TVRs.cons v a _ _ h (hs.take n)
theorem TVRs.drop:∀ {vs:Ya (TV sem)} {as:Ya AV},TVRs P κ ln z N vs as->∀ n,TVRs P κ ln z N (vs.drop n) (as.drop n)
 | _,_,.nil,n=>by simp; exact .nil
 | _,_,.cons v a vs as h hs,0=>.cons v a vs as h hs
 | _,_,.cons v a vs as h hs,n+1=>by simpa using hs.drop n
theorem TVRs.at:∀ {vs:Ya (TV sem)} {as:Ya AV},TVRs P κ ln z N vs as->∀ {j:Nat} {v:TV sem},vs[j]?=some v->∃ a,as[j]?=some a/\TVR P κ ln z N v a
 | _,_,.nil,j,v,hj=>by simp at hj
 | _,_,.cons v a vs as h hs,0,u,hj=>by simp at hj; subst hj; exact ⟨a,rfl,h⟩
 | _,_,.cons v a vs as h hs,j+1,u,hj=>by simpa using hs.at (j:=j) (by simpa using hj)
def valsK:(k:Ty)->k.den->Ya Ye
 | .i k,x=>[.int k x]
 | .s,x=>[ks x]
 | .b,x=>[.bool x]
 | .w a,x=>valsK a x
 | .pr a b,x=>valsK a x.1++valsK b x.2
 | .ar _ a,x=>(x.l.map (valsK a)).flatten
 | _,_=>[]
def keyV:(k:Ty)->k.den->Ye
 | .i k,x=>.int k x
 | .s,x=>ks x
 | .b,x=>.bool x
 | k,x=>.agg (valsK k x).toArray
def FamE (z h:AH) (j:Nat) (U:Yc) (w:Nat) (cs e:Ya AV) (b:Yb Nat×Nat):Prop:=
 e.length=cs.length/\(∀ (q:Nat) (a a':AV),q≠j->e[q]?=some a->cs[q]?=some a'->Snap z a a')/\∃ ys,cs[j]?=some (.sl ys)/\b.2=ys.length/\
  match b.1 with
  | none=>e[j]?=some nilS/\ys=[]
  | some r=>e[j]?=some (.ms r 0 b.2)/\∃ es,h r=some (.cells w U es)/\SnapE z es ys/\∀ x∈es,x.length=w/\∀ a∈x,a.one=true
theorem FamE.mono {z z' h h':AH} {j w:Nat} {U:Yc} {cs e:Ya AV} {b:Yb Nat×Nat} (hz:∀ q B,z q=some B->z' q=some B) (C:∀ r B,b.1=some r->h r=some B->h' r=some B) (f:FamE z h j U w cs e b):FamE z' h' j U w cs e b:=by
 obtain ⟨G,h2,ys,u,p,k⟩:=f;refine ⟨G,λq a a' v x i=>(h2 q a a' v x i).mono hz,ys,u,p,?_⟩;obtain ⟨r,m⟩:=b;cases r with
 | none=>exact k
 | some r=>
  obtain ⟨g1,es,t,y,E⟩:=k;exact ⟨g1,es,C r _ rfl t,y.mono hz,E⟩
def kao (x:Nat):Ya Nat:=(kad x).filterMap (·.1)
variable (P) in
inductive BR (κ:Nat->Option Nat) (ln:Nat->Nat) (z h:AH) (N id:Nat):TB sem->Prop
 | bx (T:TypeId) (vs:List (TV sem)) (q:Nat) (as:List AV) (hq:κ id=some q) (hh:h q=some (.cells vs.length T [as])) (hv:TVRs P κ ln z N vs as) (h1:∀ a∈as,a.one=true):BR κ ln z h N id (.bx T vs)
 | el (T:TypeId) (t:Ty) (x:t.den) (q:Nat) (cs:List AV) (hd:t.dat=true) (hq:κ id=some q) (hh:h q=some (.cells t.wd T [cs])) (hv:SnapL z cs (t.enc x)) (h1:∀ a∈cs,a.one=true) (hl:∀ n u,t = .ar n u->ln id=n):BR κ ln z h N id (.el T t x)
 | sl0 (T:TypeId) (t:Ty) (l:List t.den) (hd:t.dat=true) (hq:κ id=none) (hl:l=[]) (hn:ln id=0):BR κ ln z h N id (.sl T t l)
 | sl (T:TypeId) (t:Ty) (l:List t.den) (q:Nat) (es:List (List AV)) (hd:t.dat=true) (hq:κ id=some q) (hh:h q=some (.cells t.wd T es)) (hv:SnapE z es (l.map t.enc)) (h1:∀ e∈es,∀ a∈e,a.one=true) (hn:l.length=ln id):BR κ ln z h N id (.sl T t l)
 | mp (k v:Ty) (l:List (k.den×v.den)) (q:Nat) (hk:isKey k=true) (hf:v.flat=true) (hq:κ id=some q) (hh:h q=some (.map (l.map λp=>(keyV k p.1,v.av p.2)))):BR κ ln z h N id (.mp k v l)
 | si (x:List UInt8×Int) (q:Nat) (hq:κ id=some q) (h0:0<=x.2) (hh:h q=some (.si ⟨x.1.toArray⟩ x.2.toNat)):BR κ ln z h N id (.si x)
 | fm0 (T:TypeId) (t:Ty) (j:Nat) (U:TypeId) (u:Ty) (l:List t.den) (ho:Option Int) (hd:t.dat=true) (hq:κ id=none) (hl:l=[]) (hn:ln id=0):BR κ ln z h N id (.fm T t j U u l ho)
 | fm (T:TypeId) (t:Ty) (j:Nat) (U:TypeId) (u:Ty) (l:List t.den) (ho:Option Int) (q:Nat) (es:List (List AV)) (hd:t.dat=true) (hq:κ id=some q) (hh:h q=some (.cells t.wd T es)) (hn:l.length=(kad (ln id)).length) (hl:es.length=l.length)
   (hv:∀ (i:Nat) (x:t.den) (e:List AV) (rm:Option Nat×Nat),l[i]?=some x->es[i]?=some e->(kad (ln id))[i]?=some rm->ho≠some (i:Int)->FamE z h j U u.wd (t.enc x) e rm) (h0:∀ (i:Nat) (rm:Option Nat×Nat),ho=some (i:Int)->(kad (ln id))[i]?=some rm->rm.1=none) (h1:∀ e∈es,e.length=t.wd/\∀ a∈e,a.one=true):BR κ ln z h N id (.fm T t j U u l ho)
end
def FamOk (κ:Nat->Yb Nat) (ln:Nat->Nat) (z:AH) (c:Cx sem) (s:TS sem) (n:Nat):Prop:=
 ∀ id B,thp c s id=some B->B.isF=true->(kao (ln id)).Nodup/\∀ r∈kao (ln id),r<n/\z r=none/\(∀ j a,thp c s j=some a->κ j≠some r)/\∀ j a,thp c s j=some a->a.isF=true->r∈kao (ln j)->j=id
structure Rel (P:Program) (κ:Nat->Option Nat) (ln:Nat->Nat) (z:AH) (c:Cx sem) (s:TS sem) (env:Env) (h:AH) (n:Nat):Prop where
 env:∀ x,TVR P κ ln z s.n (tlk c s x) (lk env x)
 blk:∀ id B,thp c s id=some B->BR P κ ln z h s.n id B
 lt:∀ id B,thp c s id=some B->id<s.n
 inj:∀ i j B B' q,thp c s i=some B->thp c s j=some B'->κ i=some q->κ j=some q->i=j
 zin:∀ q B,z q=some B->h q=some B
 zout:∀ id B q,thp c s id=some B->κ id=some q->z q=none
 bnd:∀ id B q,thp c s id=some B->κ id=some q->q<n
 hn:∀ q,n<=q->h q=none
 e0:∀ x v,alk s.env x=some v->alk c.e0 x=none
 g:∀ id b,alk s.hp id=some b->alk c.g id=none
 dy:s.dy=false->z=λ_=>none
 zk:∀ q k T es,z q=some (.cells k T es)->∀ e∈es,e.length=k
 fam:FamOk κ ln z c s n
section
variable {P:Yd} {κ:Nat->Yb Nat} {ln:Nat->Nat} {z:AH} {c:Cx sem} {s:TS sem} {env:Env} {h:AH} {n:Nat}
def Ow (κ:Nat->Yb Nat) (ln:Nat->Nat) (id:Nat) (B:TB sem) (q:Nat):Prop:=κ id=some q\/(B.isF=true/\q∈kao (ln id))
theorem kaK {x i r m:Nat} (h:(kad x)[i]?=some (some r,m)):r∈kao x:=jci.2 ⟨_,jak h,rfl⟩
theorem Rel.owI (R:Rel P κ ln z c s env h n) {i j q:Nat} {B b:TB sem} (hi:thp c s i=some B) (e:thp c s j=some b) (ki:Ow κ ln i B q) (a:Ow κ ln j b q):i=j:=by
 rcases ki with ki | ⟨k,ki⟩
 ·rcases a with a | ⟨f,a⟩
  ·exact R.inj i j B b q hi e ki a
  ·exact absurd ki (((R.fam j b e f).2 q a).2.2.1 i B hi)
 ·rcases a with a | ⟨f,a⟩
  ·exact absurd a (((R.fam i B hi k).2 q ki).2.2.1 j b e)
  ·exact (((R.fam i B hi k).2 q ki).2.2.2 j b e f a).symm
theorem Rel.owN (R:Rel P κ ln z c s env h n) {i q:Nat} {B:TB sem} (hi:thp c s i=some B) (ki:Ow κ ln i B q):q<n:=by
 rcases ki with ki | ⟨f,ki⟩
 ·exact R.bnd i B q hi ki
 ·exact ((R.fam i B hi f).2 q ki).1
theorem Rel.owZ (R:Rel P κ ln z c s env h n) {i q:Nat} {B:TB sem} (hi:thp c s i=some B) (ki:Ow κ ln i B q):z q=none:=by
 rcases ki with ki | ⟨f,ki⟩
 ·exact R.zout i B q hi ki
 ·exact ((R.fam i B hi f).2 q ki).2.1
def ows (κ:Nat->Yb Nat) (ln:Nat->Nat) (c:Cx sem) (s:TS sem) (id:Nat):Ya Nat:=(κ id).toList++(if (thp c s id).any TB.isF then kao (ln id) else [])
theorem ows_k {id q:Nat} (a:κ id=some q):q∈ows κ ln c s id:=by simp [ows,a]
theorem ows_r {id q:Nat} {B:TB sem} (hB:thp c s id=some B) (a:B.isF=true) (hr:q∈kao (ln id)):q∈ows κ ln c s id:=by simp [ows,hB,a,hr]
theorem kdC {id q:Nat} {B:TB sem} (hB:thp c s id=some B) (h:q∈ows κ ln c s id):Ow κ ln id B q:=by
 simp only [ows,jaw,Option.mem_toList,hB,Option.any_some] at h;rcases h with h | h
 ·exact .inl h
 ·split at h
  ·rename_i a; exact .inr ⟨a,h⟩
  ·cases h
def hz (o:Nat->Ya Nat) (h z:AH) (ids:Ya Nat):AH:=λq=>if ids.any (λid=>(o id).contains q) then h q else z q
variable {o:Nat->Ya Nat}
theorem kbB:hz o h z []=z:=by funext q; simp [hz]
theorem kdw {ids ids':Ya Nat} (b:∀ q B,z q=some B->h q=some B) (i:∀ id∈ids,id∈ids'):∀ q B,hz o h z ids q=some B->hz o h z ids' q=some B:=by
 intro q B a;unfold hz at a ⊢;by_cases e:ids.any (λid=>(o id).contains q)=true
 ·have h2:ids'.any (λid=>(o id).contains q)=true:=by
   rw [jbt] at e ⊢;obtain ⟨id,hi,f⟩:=e;exact ⟨id,i id hi,f⟩
  rw [if_pos e] at a; rw [if_pos h2]; exact a
 ·rw [if_neg e] at a;split
  ·exact b q B a
  ·exact a
theorem hz_z {ids:Ya Nat} (a:∀ q B,z q=some B->h q=some B):∀ q B,z q=some B->hz o h z ids q=some B:=λq B b=>kdw (ids:=[]) a (by simp) q B (by rw [kbB]; exact b)
theorem keQ {ids:Ya Nat} (a:∀ q B,z q=some B->h q=some B):∀ q B,hz o h z ids q=some B->h q=some B:=by
 intro q B b;unfold hz at b;split at b
 ·exact b
 ·exact a q B b
theorem hz_in {ids:Ya Nat} {id q:Nat} (hi:id∈ids) (a:q∈o id):hz o h z ids q=h q:=by
 unfold hz;rw [if_pos (jbt.2 ⟨id,hi,by simpa using a⟩)]
theorem hz_at {ids:Ya Nat} {id q:Nat} (hi:id∈ids) (a:κ id=some q):hz (ows κ ln c s) h z ids q=h q:=hz_in hi (ows_k a)
theorem kak {t t':Ty} {x:t'.den} {y:t.den} (h:tcast (A:=sem) t x=some y):∃ e:t'=t,e ▸ x=y:=by
 unfold tcast at h;split at h
 ·rename_i e; exact ⟨e,by simpa using h⟩
 ·cases h
theorem klE (v:Ye) (a:v.oneCell'=true) {N:Nat}:TVR P κ ln z N (ofVal sem v) (.sc v):=by
 cases v with
 | int k m=>exact .c (.i k) m _ rfl (.free _ (.sc _))
 | bool b=>exact .kb b
 | string s=>exact .c .s s.data.toList _ rfl (by simpa [Ty.av,Ty.agg,Ty.enc,str] using Snap.free _ (.sc _))
 | _=>exact .sc _ a
theorem kwh (v:Ye) {N:Nat}:TVR P κ ln z N (ofCst sem v) (cst v):=by
 cases v with
 | agg cs=>
  simp only [ofCst,cst];split
  ·rename_i b;have f:∀ v∈cs.toList,v.oneCell'=true:=by
    simp only [jce] at b;exact λv e=>b v (by simpa using e)
   refine .ag _ _ ?_ (λa i=>by obtain ⟨v,e,rfl⟩:=jbb.1 i; exact f v e);generalize cs.toList=l at f;induction l with
   | nil=>exact .nil
   | cons v l j=>exact .cons _ _ _ _ (klE v (f v (by simp))) (j λv e=>f v (by simp [e]))
  ·exact .un _
 | tuple _=>exact .un _
 | _=>simp only [ofCst,cst]; exact klE _ rfl
theorem Rel.ev (R:Rel P κ ln z c s env h n) (x:Yf):TVR P κ ln z s.n (tev c s x) (Abs.ev env x):=by
 cases x with
 | tmp t=>exact R.env t
 | const v=>exact kwh v
 | global g=>exact .un _
 | func f=>exact .fn f [] [] .nil
theorem SnapE.drop_take {z:AH} {es es':Ya (Ya AV)} (h:SnapE z es es') (o m:Nat):SnapE z ((es.drop o).take m) ((es'.drop o).take m):=by
 refine ⟨by simp [h.1],λq e e' b a=>?_⟩;rw [jbr] at b a;split at b
 ·rename_i f;rw [if_pos f,jar] at a;rw [jar] at b;exact h.2 _ e e' b a
 ·cases b
theorem c_one {t:Ty} {x:t.den} {a:AV} {N:Nat} (b:t.dat=true) (f:t.agg=false) (e:Snap z a (t.av x)):SnapL z [a] (t.enc x):=by
 rw [khk f b]; exact .cons e .nil
theorem Rel.snap_fam (R:Rel P κ ln z c s env h n) {id K:Nat} {T U:Yc} {t u:Ty} {l:Ya t.den} (hB:thp c s id=some (.fm T t K U u l none)) {a:AV} (J:TVR P κ ln z s.n (.fw id) a) {ids:Ya Nat} (hi:id∈ids):Snap (hz (ows κ ln c s) h z ids) a (.sl (l.map t.enc)):=by
 have hb:=R.blk _ _ hB;cases hb with
 | fm0 _ _ _ _ _ _ _ G w hl hn=>
  subst hl;cases J with
  | fw0 _ _ _=>exact .nilS
  | fw _ q _ f=>rw [w] at f; cases f
 | fm _ _ _ _ _ _ _ q es G w hh hn hl E h0 h1=>
  cases J with
  | fw0 _ _ f=>rw [w] at f; cases f
  | fw _ q' _ f=>
   rw [w] at f; cases f;refine Snap.of_ms (k:=t.wd) (T:=T) (es:=es) (by rw [hz_at hi w]; exact hh) (by omega) ?_;rw [jcp,jbp (by omega)];refine ⟨by simp [hl],λi e e' Z B=>?_⟩;rw [jas] at B;obtain ⟨x,I,rfl⟩:=jad.1 B;obtain ⟨C,v⟩:∃ C,(kad (ln id))[i]?=some C:=⟨_,jae (by rw [<-hn]; exact (jaf.1 I).1)⟩;obtain ⟨g1,W,ys,Y,g4,M⟩:=E i x e C I Z v (by simp);refine SnapL.of_at g1.symm λp b b' hp j=>?_;by_cases y:p=K
   ·subst y;rw [Y] at j; cases j;obtain ⟨r,m⟩:=C;cases r with
    | none=>
     obtain ⟨H,rfl⟩:=M;rw [H] at hp; cases hp;exact .nilS
    | some r=>
     obtain ⟨H,es',X,S,g9⟩:=M;rw [H] at hp; cases hp;have L:=S.1;simp only at g4;refine Snap.of_ms (k:=u.wd) (T:=U) (es:=es') (by rw [hz_in hi (ows_r hB rfl (kaK v))]; exact X) (by simp only; omega) ?_;rw [jcp,jbp (by simp only; omega)];exact S.mono (hz_z R.zin)
   ·exact (W p b b' y hp j).mono (hz_z R.zin)
set_option maxHeartbeats 1000000 in
theorem kcl (R:Rel P κ ln z c s env h n):∀ (t:Ty) (vs:Ya (TV sem)) (as:Ya AV) (x:t.den) (rest:Ya (TV sem)) (ids:Ya Nat),t.dat=true->TVRs P κ ln z s.n vs as->snapL (A:=sem) c s t vs=some (x,rest,ids)->
  ∃ a b,as=a++b/\TVRs P κ ln z s.n rest b/\SnapL (hz (ows κ ln c s) h z ids) a (t.enc x)/\∀ id∈ids,∃ B,thp c s id=some B
 | .pr t u,vs,as,x,rest,ids,f,hv,hs=>by
  simp only [Ty.dat,jac] at f;simp only [snapL,jaa,jad] at hs;obtain ⟨⟨x1,r1,i1⟩,E,⟨x2,r2,i2⟩,h2,C⟩:=hs;cases C;obtain ⟨Y,b1,rfl,g1,Z,g3⟩:=kcl R t vs as x1 r1 i1 f.1 hv E;obtain ⟨a2,b2,rfl,k1,k2,k3⟩:=kcl R u r1 b1 x2 r2 i2 f.2 g1 h2;refine ⟨Y++a2,b2,by simp,k1,?_,λid hi=>?_⟩
  ·exact (Z.mono (kdw R.zin λid hi=>by simp [hi])).append (k2.mono (kdw R.zin λid hi=>by simp [hi]))
  ·rcases jaw.1 hi with hi | hi
   ·exact g3 id hi
   ·exact k3 id hi
 | .w t,vs,as,x,rest,ids,f,hv,hs=>by
  simp only [snapL,jad] at hs;obtain ⟨⟨x1,r1,i1⟩,E,C⟩:=hs;cases C;exact kcl R t vs as _ _ _ f hv E
 | .un,vs,as,x,rest,ids,f,hv,hs=>by
  simp only [snapL,Option.some.injEq] at hs;cases hs;exact ⟨[],as,rfl,hv,.nil,λid hi=>by simp at hi⟩
 | .i k,[],as,x,rest,ids,f,hv,hs=>by simp [snapL] at hs
 | .b,[],as,x,rest,ids,f,hv,hs=>by simp [snapL] at hs
 | .s,[],as,x,rest,ids,f,hv,hs=>by simp [snapL] at hs
 | .sl _,[],as,x,rest,ids,f,hv,hs=>by simp [snapL] at hs
 | .op _,[],as,x,rest,ids,f,hv,hs=>by simp [snapL] at hs
 | .pt _,[],as,x,rest,ids,f,hv,hs=>by simp [snapL] at hs
 | .ar _ _,vs,as,x,rest,ids,f,hv,hs=>by simp [snapL] at hs
 | .i k,v::vs,_,x,rest,ids,f,.cons _ a _ as hv hvs,hs=>by
  cases v <;> simp only [snapL,jad,reduceCtorEq] at hs;obtain ⟨y,m,C⟩:=hs;cases C;obtain ⟨e,rfl⟩:=kak m;cases e;cases hv with
  | c _ _ _ f E=>exact ⟨[a],as,rfl,hvs,by rw [kbB]; exact c_one (N:=0) rfl rfl E,λid hi=>by simp at hi⟩
 | .s,v::vs,_,x,rest,ids,f,.cons _ a _ as hv hvs,hs=>by
  cases v <;> simp only [snapL,jad,reduceCtorEq] at hs;obtain ⟨y,m,C⟩:=hs;cases C;obtain ⟨e,rfl⟩:=kak m;cases e;cases hv with
  | c _ _ _ f E=>exact ⟨[a],as,rfl,hvs,by rw [kbB]; exact c_one (N:=0) rfl rfl E,λid hi=>by simp at hi⟩
 | .b,v::vs,_,x,rest,ids,f,.cons _ a _ as hv hvs,hs=>by
  cases v <;> simp only [snapL,jad,Option.some.injEq,reduceCtorEq] at hs
  ·obtain ⟨y,m,C⟩:=hs;cases C;obtain ⟨e,rfl⟩:=kak m;cases e;cases hv with
   | c _ _ _ f E=>exact ⟨[a],as,rfl,hvs,by rw [kbB]; exact c_one (N:=0) rfl rfl E,λid hi=>by simp at hi⟩
  ·cases hs;cases hv;exact ⟨[_],as,rfl,hvs,.cons (.free _ (.sc _)) .nil,λid hi=>by simp at hi⟩
 | .sl t,v::vs,_,x,rest,ids,f,.cons _ a _ as hv hvs,hs=>by
  cases v <;> simp only [snapL,jad,Option.some.injEq,reduceCtorEq] at hs
  ·obtain ⟨y,m,C⟩:=hs;cases C;obtain ⟨e,rfl⟩:=kak m;cases e;cases hv with
   | c _ _ _ f E=>exact ⟨[a],as,rfl,hvs,by rw [kbB]; exact c_one (N:=0) f rfl E,λid hi=>by simp at hi⟩
  ·split at hs
   ·rename_i hn;cases hs;cases hv;rw [kbh hn];exact ⟨[_],as,rfl,hvs,.cons .nilS .nil,λid hi=>by simp at hi⟩
   ·cases hs
  ·split at hs
   ·rename_i T t' l hB;simp only [jad] at hs;obtain ⟨y,m,C⟩:=hs;cases C;obtain ⟨e,rfl⟩:=kak m;cases e;refine ⟨[a],as,rfl,hvs,?_,λid hi=>by simp at hi; subst hi; exact ⟨_,hB⟩⟩;show SnapL _ [a] [.sl (l.map t.enc)];refine .cons ?_ .nil;have M:=R.blk _ _ hB;cases M with
    | sl0 _ _ _ I H hl hn=>
     subst hl;cases hv with
     | mw0 _ _ _=>exact .nilS
     | mw _ q _ p=>rw [H] at p; cases p
    | sl _ _ _ q es I H J G E hn=>
     cases hv with
     | mw0 _ _ p=>rw [H] at p; cases p
     | mw _ X _ p=>
      rw [H] at p; cases p;have K:=G.1; rw [jaq,hn] at K;refine Snap.of_ms (k:=t.wd) (T:=T) (es:=es) (by rw [hz_at (by simp) H]; exact J) (by omega) ?_;rw [jcp,jbp (by omega)];exact G.mono (hz_z R.zin)
   ·cases hs
  ·split at hs
   ·rename_i off len T t' l hB;simp only [jad] at hs;obtain ⟨y,m,C⟩:=hs;cases C;obtain ⟨e,rfl⟩:=kak m;cases e;refine ⟨[a],as,rfl,hvs,?_,λid hi=>by simp at hi; subst hi; exact ⟨_,hB⟩⟩;show SnapL _ [a] [.sl (((l.drop _).take _).map t.enc)];refine .cons ?_ .nil;have M:=R.blk _ _ hB;cases M with
    | sl0 _ _ _ I H hl hn=>
     subst hl;cases hv with
     | ms0 _ _ _ _ _ ho hl=>subst ho; subst hl; exact .nilS
     | ms _ _ _ q _ p=>rw [H] at p; cases p
    | sl _ _ _ q es I H J G E hn=>
     cases hv with
     | ms0 _ _ _ _ p=>rw [H] at p; cases p
     | ms _ _ _ X _ p h0 aa h2=>
      rw [H] at p; cases p;have K:=G.1; rw [jaq,hn] at K;refine Snap.of_ms (k:=t.wd) (T:=T) (es:=es) (by rw [hz_at (by simp) H]; exact J) (by omega) ?_;rw [List.map_take,List.map_drop];exact (G.mono (hz_z R.zin)).drop_take _ _
   ·cases hs
  ·split at hs
   ·rename_i T t' jj U u l hB;simp only [jad] at hs;obtain ⟨y,m,C⟩:=hs;cases C;obtain ⟨e,rfl⟩:=kak m;cases e;refine ⟨[a],as,rfl,hvs,?_,λid hi=>by simp at hi; subst hi; exact ⟨_,hB⟩⟩;show SnapL _ [a] [.sl (l.map t.enc)];exact .cons (R.snap_fam hB hv (by simp)) .nil
   ·cases hs
 | .op t,v::vs,_,x,rest,ids,f,.cons _ a _ as hv hvs,hs=>by
  cases v <;> simp only [snapL,jad,Option.some.injEq,reduceCtorEq] at hs
  ·split at hs
   ·rename_i y m;cases hs;obtain ⟨e,rfl⟩:=kak m;cases e;cases hv with
    | c _ _ _ f E=>exact ⟨[a],as,rfl,hvs,by rw [kbB]; exact c_one (N:=0) f rfl E,λid hi=>by simp at hi⟩
   ·simp only [jad] at hs;obtain ⟨y,m,C⟩:=hs;cases C;obtain ⟨e,rfl⟩:=kak m;cases e;cases hv with
    | c _ _ _ f E=>exact ⟨[a],as,rfl,hvs,by rw [kbB]; exact .cons E .nil,λid hi=>by simp at hi⟩
  ·split at hs
   ·rename_i hn;cases hs;cases hv;rw [kln hn];exact ⟨[_],as,rfl,hvs,.cons (.free _ (.sc _)) .nil,λid hi=>by simp at hi⟩
   ·cases hs
  ·rename_i id j;split at hs
   ·cases hs
   ·rename_i S;obtain rfl:j=0:=by simpa using S
    split at hs
    ·rename_i T us hB;split at hs
     ·rename_i y ids' m;cases hs;have M:=R.blk _ _ hB;cases M with
      | bx _ _ q W H J G E=>
       obtain ⟨Y,b1,rfl,g1,Z,g3⟩:=kcl R t us W _ [] ids' f G m;cases g1;cases hv with
       | ptr _ _ X _ p=>
        rw [H] at p; cases p;refine ⟨[_],as,rfl,hvs,.cons ?_ .nil,λi hi=>?_⟩
        ·show Snap _ _ (.fp (t.enc y));have L:=Z.mono (kdw (ids':=id::ids') R.zin λi hi=>by simp [hi]);exact .own q 0 0 us.length T _ (Y++[]) (t.enc y) (by rw [hz_at (by simp) H]; exact J) rfl (by simpa using L.len) (by simpa using L.at)
        ·rcases jbq.1 hi with hi | hi
         ·subst hi; exact ⟨_,hB⟩
         ·exact g3 i hi
     ·cases hs
    ·rename_i T t' y hB;simp only [jad] at hs;obtain ⟨y',m,C⟩:=hs;cases C;obtain ⟨e,rfl⟩:=kak m;cases e;have M:=R.blk _ _ hB;cases M with
     | el _ _ _ q cs I H J G E hl=>
      cases hv with
      | ptr _ _ X _ p=>
       rw [H] at p; cases p;refine ⟨[_],as,rfl,hvs,.cons ?_ .nil,λi hi=>by simp at hi; subst hi; exact ⟨_,hB⟩⟩;show Snap _ _ (.fp (t.enc y));have L:=G.mono (hz_z (o:=ows κ ln c s) (ids:=[id]) R.zin);exact .own q 0 0 _ T _ cs (t.enc y) (by rw [hz_at (by simp) H]; exact J) rfl (by simpa using L.len) (by simpa using L.at)
    ·cases hs
  ·rename_i o;split at hs
   ·cases hs
   ·rename_i S;obtain rfl:o=0:=by simpa using S
    simp only [jad] at hs;obtain ⟨y',m,C⟩:=hs;cases C;obtain ⟨e,rfl⟩:=kak m;cases e;cases hv with
    | fq _ _ _ _ I E=>exact ⟨[_],as,rfl,hvs,by rw [kbB]; rw [jcp] at E; exact .cons E .nil,λid hi=>by simp at hi⟩
 | .pt t,v::vs,_,x,rest,ids,f,.cons _ a _ as hv hvs,hs=>by
  cases v <;> simp only [snapL,jad,Option.some.injEq,reduceCtorEq] at hs
  ·obtain ⟨y,m,C⟩:=hs;cases C;obtain ⟨e,rfl⟩:=kak m;cases e;cases hv with
   | c _ _ _ f E=>exact ⟨[a],as,rfl,hvs,by rw [kbB]; exact c_one (N:=0) f rfl E,λid hi=>by simp at hi⟩
  ·rename_i id j;split at hs
   ·cases hs
   ·rename_i S;obtain rfl:j=0:=by simpa using S
    split at hs
    ·rename_i T us hB;split at hs
     ·rename_i y ids' m;cases hs;have M:=R.blk _ _ hB;cases M with
      | bx _ _ q W H J G E=>
       obtain ⟨Y,b1,rfl,g1,Z,g3⟩:=kcl R t us W _ [] ids' f G m;cases g1;cases hv with
       | ptr _ _ X _ p=>
        rw [H] at p; cases p;refine ⟨[_],as,rfl,hvs,.cons ?_ .nil,λi hi=>?_⟩
        ·show Snap _ _ (.fp (t.enc _));have L:=Z.mono (kdw (ids':=id::ids') R.zin λi hi=>by simp [hi]);exact .own q 0 0 us.length T _ (Y++[]) _ (by rw [hz_at (by simp) H]; exact J) rfl (by simpa using L.len) (by simpa using L.at)
        ·rcases jbq.1 hi with hi | hi
         ·subst hi; exact ⟨_,hB⟩
         ·exact g3 i hi
     ·cases hs
    ·rename_i T t' y hB;simp only [jad] at hs;obtain ⟨y',m,C⟩:=hs;cases C;obtain ⟨e,rfl⟩:=kak m;cases e;have M:=R.blk _ _ hB;cases M with
     | el _ _ _ q cs I H J G E hl=>
      cases hv with
      | ptr _ _ X _ p=>
       rw [H] at p; cases p;refine ⟨[_],as,rfl,hvs,.cons ?_ .nil,λi hi=>by simp at hi; subst hi; exact ⟨_,hB⟩⟩;show Snap _ _ (.fp (t.enc _));have L:=G.mono (hz_z (o:=ows κ ln c s) (ids:=[id]) R.zin);exact .own q 0 0 _ T _ cs _ (by rw [hz_at (by simp) H]; exact J) rfl (by simpa using L.len) (by simpa using L.at)
    ·cases hs
  ·rename_i o;split at hs
   ·cases hs
   ·rename_i S;obtain rfl:o=0:=by simpa using S
    simp only [jad] at hs;obtain ⟨y',m,C⟩:=hs;cases C;obtain ⟨e,rfl⟩:=kak m;cases e;cases hv with
    | fq _ _ _ _ I E=>exact ⟨[_],as,rfl,hvs,by rw [kbB]; rw [jcp] at E; exact .cons E .nil,λid hi=>by simp at hi⟩
 | .nt,vs,as,x,rest,ids,f,hv,hs=>by simp [Ty.dat] at f
 | .sm _ _,vs,as,x,rest,ids,f,hv,hs=>by simp [Ty.dat] at f
 | .fn _ _ _,vs,as,x,rest,ids,f,hv,hs=>by simp [Ty.dat] at f
end
section
variable {P:Yd} {κ κ':Nat->Yb Nat} {ln ln':Nat->Nat} {z z':AH} {c:Cx sem} {s:TS sem} {env:Env} {h h':AH} {n n' N N':Nat}
theorem kbE (R:Rel P κ ln z c s env h n) {t:Ty} {v:TV sem} {a:AV} {x:t.den} {ids:Ya Nat} (u:TVR P κ ln z s.n v a) (b:snapV (A:=sem) c s t v=some (x,ids)) :
  t.dat=true/\Snap (hz (ows κ ln c s) h z ids) a (t.av x)/\∀ id∈ids,∃ B,thp c s id=some B:=by
 unfold snapV at b;split at b
 ·cases b
 ·rename_i i;replace i:t.dat=true:=by simpa using i
  refine ⟨i,?_⟩;split at b
  ·rename_i f;split at b
   ·simp only [jad] at b;obtain ⟨y,j,m⟩:=b;cases m;obtain ⟨e,rfl⟩:=kak j;cases e;cases u with
    | c _ _ _ _ G=>exact ⟨by rw [kbB]; exact G,λid hi=>by simp at hi⟩
   ·rename_i vs;split at b
    ·rename_i y ids' j;cases b;cases u with
     | ag _ as p _=>
      obtain ⟨C,E,rfl,g1,k,w⟩:=kcl R t vs as _ [] _ i p j;cases g1;rw [khb f,jbe];exact ⟨Snap.agL k,w⟩
    ·cases b
   ·cases b
  ·rename_i f;replace f:t.agg=false:=by simpa using f
   split at b
   ·rename_i y ids' j;cases b;obtain ⟨C,E,m,g1,k,w⟩:=kcl R t [v] [a] _ [] _ i (.cons _ _ _ _ u .nil) j;cases g1;rw [jbe] at m;subst m;rw [khk f i] at k;cases k with
    | cons k1 k2=>exact ⟨k1,w⟩
   ·cases b
theorem kgl:∀ (t:Ty) (x:t.den) (cs:Ya AV),t.dat=true->t.noAr=true->SnapL z cs (t.enc x)->TVRs P κ ln z N (kkD (A:=sem) t x) cs
 | .pr t u,x,cs,hd,hn,hs=>by
  simp only [Ty.dat,jac] at hd;simp only [Ty.noAr,jac] at hn;obtain ⟨a,b,rfl,e,h2⟩:=SnapL.splitR (a':=t.enc x.1) (b':=u.enc x.2) hs;exact (kgl t x.1 a hd.1 hn.1 e).append (kgl u x.2 b hd.2 hn.2 h2)
 | .w t,x,cs,hd,hn,hs=>kgl t x cs hd hn hs
 | .un,x,cs,hd,hn,hs=>by cases hs; exact .nil
 | .i k,x,_,hd,hn,.cons e .nil=>.cons _ _ _ _ (.c _ _ _ hd e) .nil
 | .b,x,_,hd,hn,.cons e .nil=>.cons _ _ _ _ (.c _ _ _ hd e) .nil
 | .s,x,_,hd,hn,.cons e .nil=>.cons _ _ _ _ (.c _ _ _ hd e) .nil
 | .sl t,x,_,hd,hn,.cons e .nil=>.cons _ _ _ _ (.c _ _ _ hd e) .nil
 | .pt t,x,_,hd,hn,.cons e .nil=>.cons _ _ _ _ (.c _ _ _ hd e) .nil
 | .op t,x,_,hd,hn,.cons e .nil=>.cons _ _ _ _ (.c _ _ _ hd e) .nil
 | .ar _ _,x,cs,hd,hn,hs=>by simp [Ty.noAr] at hn
 | .nt,x,cs,hd,hn,hs=>by simp [Ty.dat] at hd
 | .sm _ _,x,cs,hd,hn,hs=>by simp [Ty.dat] at hd
 | .fn _ _ _,x,cs,hd,hn,hs=>by simp [Ty.dat] at hd
theorem kww {a v:AV} (e:Snap z a v) (b:v.one=true):kaI a=some [a]:=by
 cases e with
 | free _ f=>cases a <;> first | rfl | (simp [AV.one] at b; done)
 | ag | tp=>simp [AV.one] at b
 | _=>rfl
theorem kko {t:Ty} {x:t.den} {a:AV} (f:t.dat=true) (e:Snap z a (t.av x)):∃ cs,kaI a=some cs/\SnapL z cs (t.enc x):=by
 cases b:t.agg with
 | true=>
  rw [khb b] at e;obtain ⟨cs,rfl,i⟩:=e.ag_inv;exact ⟨cs,rfl,i⟩
 | false=>
  refine ⟨[a],?_,by rw [khk b f]; exact .cons e .nil⟩;have i:(t.av x).one=true:=kbk t x f _ (by rw [khk b f]; simp);exact kww e i
theorem TVR.one_cells {v:TV sem} {a:AV} (I:TVR P κ ln z N v a) {vs:Ya (TV sem)} (f:kaL v=some vs):∃ as,kaI a=some as/\TVRs P κ ln z N vs as:=by
 cases I with
 | c t x a E p=>
  simp only [kaL,jdf,jac,Option.some.injEq] at f;obtain ⟨⟨hn,J⟩,rfl⟩:=f;obtain ⟨cs,h2,u⟩:=kko E p;exact ⟨cs,h2,kgl t x cs E hn u⟩
 | ag C as p _=>simp only [kaL,Option.some.injEq] at f; subst f; exact ⟨as,rfl,p⟩
 | un | ud | tp | gs | yl | kp=>simp [kaL] at f
 | kb b=>simp only [kaL,Option.some.injEq] at f; subst f; exact ⟨_,rfl,.cons _ _ _ _ (.kb b) .nil⟩
 | sc w H=>simp only [kaL,Option.some.injEq] at f; subst f; exact ⟨_,rfl,.cons _ _ _ _ (.sc w H) .nil⟩
 | ptr id j q p h2=>simp only [kaL,Option.some.injEq] at f; subst f; exact ⟨_,rfl,.cons _ _ _ _ (.ptr id j q p h2) .nil⟩
 | adr id i j q p h2 u B=>simp only [kaL,Option.some.injEq] at f; subst f; exact ⟨_,rfl,.cons _ _ _ _ (.adr id i j q p h2 u B) .nil⟩
 | aa id i q p h2 u B=>simp only [kaL,Option.some.injEq] at f; subst f; exact ⟨_,rfl,.cons _ _ _ _ (.aa id i q p h2 u B) .nil⟩
 | fq t x o a E p=>
  simp only [kaL,Option.some.injEq] at f; subst f;refine ⟨[a],?_,.cons _ _ _ _ (.fq t x o a E p) .nil⟩;rcases p.fp_inv with ⟨cs,rfl,_⟩ | ⟨id,i,j,k,T,es,e,rfl,_⟩ <;> rfl
 | mw0 id p h2=>simp only [kaL,Option.some.injEq] at f; subst f; exact ⟨_,rfl,.cons _ _ _ _ (.mw0 id p h2) .nil⟩
 | mw id q p h2=>simp only [kaL,Option.some.injEq] at f; subst f; exact ⟨_,rfl,.cons _ _ _ _ (.mw id q p h2) .nil⟩
 | ms0 id o l p h2 u B=>simp only [kaL,Option.some.injEq] at f; subst f; exact ⟨_,rfl,.cons _ _ _ _ (.ms0 id o l p h2 u B) .nil⟩
 | ms id o l q p h2 u B G=>simp only [kaL,Option.some.injEq] at f; subst f; exact ⟨_,rfl,.cons _ _ _ _ (.ms id o l q p h2 u B G) .nil⟩
 | mp id q p h2=>simp only [kaL,Option.some.injEq] at f; subst f; exact ⟨_,rfl,.cons _ _ _ _ (.mp id q p h2) .nil⟩
 | fw0 id p h2=>simp only [kaL,Option.some.injEq] at f; subst f; exact ⟨_,rfl,.cons _ _ _ _ (.fw0 id p h2) .nil⟩
 | fw id q p h2=>simp only [kaL,Option.some.injEq] at f; subst f; exact ⟨_,rfl,.cons _ _ _ _ (.fw id q p h2) .nil⟩
 | fr0 id i m p h2 u=>simp only [kaL,Option.some.injEq] at f; subst f; exact ⟨_,rfl,.cons _ _ _ _ (.fr0 id i m p h2 u) .nil⟩
 | fr id i r m p h2 u=>simp only [kaL,Option.some.injEq] at f; subst f; exact ⟨_,rfl,.cons _ _ _ _ (.fr id i r m p h2 u) .nil⟩
 | fo id i j q p h2 u B=>simp only [kaL,Option.some.injEq] at f; subst f; exact ⟨_,rfl,.cons _ _ _ _ (.fo id i j q p h2 u B) .nil⟩
 | fa id i k o r m p h2 u B G=>simp only [kaL,Option.some.injEq] at f; subst f; exact ⟨_,rfl,.cons _ _ _ _ (.fa id i k o r m p h2 u B G) .nil⟩
 | fn g C as p=>simp only [kaL,Option.some.injEq] at f; subst f; exact ⟨_,rfl,.cons _ _ _ _ (.fn g C as p) .nil⟩
 | cv m x y F a p=>
  simp only [kaL,Option.some.injEq] at f; subst f;refine ⟨[a],?_,.cons _ _ _ _ (.cv m x y F a p) .nil⟩;obtain ⟨g,as,rfl,_⟩:=p; rfl
theorem kii:∀ (t:Ty) (x:t.den) (o m:Nat) (ag:Bool) (cs:Ya AV) {t':Ty} {y:t'.den},t.dat=true->comp (A:=sem) t x o m ag=some ⟨t',y⟩->SnapL z cs (t.enc x)->t'.dat=true/\t'.agg=ag/\t'.wd=m/\o+m<=cs.length/\SnapL z ((cs.drop o).take m) (t'.enc y)
 | .pr t u,x,o,m,ag,cs,t',y,hd,hc,hs=>by
  simp only [Ty.dat,jac] at hd;have e:=hs.len;rw [kag (.pr t u) x (by simp [Ty.dat,hd])] at e;simp only [Ty.wd] at e;simp only [comp] at hc;split at hc
  ·rename_i f;obtain ⟨rfl,rfl,rfl⟩:=f;cases hc;exact ⟨by simp [Ty.dat,hd],rfl,rfl,by omega,by rw [jcp,jbp (by omega)]; exact hs⟩
  ·obtain ⟨a,b,rfl,B,h2⟩:=SnapL.splitR (a':=t.enc x.1) (b':=u.enc x.2) hs;have l1:=B.len;rw [kag t x.1 hd.1] at l1;split at hc
   ·rename_i j;obtain ⟨g1,k,p,C,v⟩:=kii t x.1 o m ag a hd.1 hc B;refine ⟨g1,k,p,by simp; omega,?_⟩;rw [List.drop_append_of_le_length (by omega),List.take_append_of_le_length (by simp; omega)];exact v
   ·split at hc
    ·rename_i j;obtain ⟨g1,k,p,C,v⟩:=kii u x.2 (o-t.wd) m ag b hd.2 hc h2;refine ⟨g1,k,p,by simp; omega,?_⟩;rw [List.drop_append,jbw (by omega),jbc];rw [<-l1]; rw [l1]; exact l1 ▸ v
    ·cases hc
 | .w t,x,o,m,ag,cs,t',y,hd,hc,hs=>by
  simp only [comp] at hc;split at hc
  ·rename_i f;obtain ⟨rfl,rfl,rfl⟩:=f;cases hc;have e:=hs.len;rw [kag (.w t) x hd] at e;simp only [Ty.wd] at e;exact ⟨hd,rfl,rfl,by omega,by rw [jcp,jbp (by omega)]; exact hs⟩
  ·exact kii t x o m ag cs hd hc hs
 | .i _,x,o,m,ag,cs,t',y,hd,hc,hs | .b,x,o,m,ag,cs,t',y,hd,hc,hs | .s,x,o,m,ag,cs,t',y,hd,hc,hs | .un,x,o,m,ag,cs,t',y,hd,hc,hs
 | .sl _,x,o,m,ag,cs,t',y,hd,hc,hs | .pt _,x,o,m,ag,cs,t',y,hd,hc,hs | .op _,x,o,m,ag,cs,t',y,hd,hc,hs | .ar _ _,x,o,m,ag,cs,t',y,hd,hc,hs=>by
  simp only [comp] at hc;split at hc
  ·rename_i f;obtain ⟨rfl,rfl,rfl⟩:=f;cases hc;have e:=hs.len;rw [kag _ x hd] at e;exact ⟨hd,rfl,rfl,by omega,by rw [jcp,jbp (by omega)]; exact hs⟩
  ·cases hc
 | .nt,x,o,m,ag,cs,t',y,hd,hc,hs=>by simp [Ty.dat] at hd
 | .sm _ _,x,o,m,ag,cs,t',y,hd,hc,hs=>by simp [Ty.dat] at hd
 | .fn _ _ _,x,o,m,ag,cs,t',y,hd,hc,hs=>by simp [Ty.dat] at hd
theorem kdo {val:(t:Ty)->Yb t.den} {xs:Ya AV} (f:∀ t y,val t=some y->t.dat=true/\SnapL z xs (t.enc y)):∀ (t:Ty) (x:t.den) (o m:Nat) (ag:Bool) (cs:Ya AV) {y:t.den},t.dat=true->setC (A:=sem) val t x o m ag=some y->SnapL z cs (t.enc x)->
  xs.length=m/\o+m<=cs.length/\SnapL z (cs.take o++xs++cs.drop (o+m)) (t.enc y)
 | .pr t u,x,o,m,ag,cs,y,hd,hc,hs=>by
  simp only [Ty.dat,jac] at hd;have e:=hs.len;rw [kag (.pr t u) x (by simp [Ty.dat,hd])] at e;simp only [Ty.wd] at e;simp only [setC] at hc;split at hc
  ·rename_i p;obtain ⟨rfl,rfl,rfl⟩:=p;obtain ⟨g1,j⟩:=f _ _ hc;have l2:=j.len;rw [kag _ y g1] at l2;simp only [Ty.wd] at l2;refine ⟨by omega,by omega,?_⟩;rw [jdm,jbc,jcf,jbw (by omega),jbe]; exact j
  ·obtain ⟨a,b,rfl,C,h2⟩:=SnapL.splitR (a':=t.enc x.1) (b':=u.enc x.2) hs;have l1:=C.len;rw [kag t x.1 hd.1] at l1;split at hc
   ·rename_i v;simp only [jad] at hc;obtain ⟨w,k,rfl⟩:=hc;obtain ⟨g1,j,B⟩:=kdo f t x.1 o m ag a hd.1 k C;refine ⟨g1,by simp; omega,?_⟩;rw [List.take_append_of_le_length (by omega),List.drop_append_of_le_length (by omega)];show SnapL z _ (t.enc w++u.enc x.2);rw [<-jau];exact B.append h2
   ·split at hc
    ·rename_i v;simp only [jad] at hc;obtain ⟨w,k,rfl⟩:=hc;obtain ⟨g1,j,B⟩:=kdo f u x.2 (o-t.wd) m ag b hd.2 k h2;refine ⟨g1,by simp; omega,?_⟩;show SnapL z _ (t.enc x.1++u.enc w);rw [List.take_append,jbp (by omega),List.drop_append,jbw (by omega),jbc];have G:o-a.length=o-t.wd:=by omega
     have E:o+m-a.length=o-t.wd+m:=by omega
     rw [G,E,jau,jau,<-jau (b.take _)];exact C.append B
    ·cases hc
 | .w t,x,o,m,ag,cs,y,hd,hc,hs=>by
  simp only [setC] at hc;split at hc
  ·rename_i p;obtain ⟨rfl,rfl,rfl⟩:=p;obtain ⟨g1,j⟩:=f _ _ hc;have e:=hs.len;rw [kag (.w t) x hd] at e;have l2:=j.len;rw [kag _ y g1] at l2;simp only [Ty.wd] at l2 e;refine ⟨by omega,by omega,?_⟩;rw [jdm,jbc,jcf,jbw (by omega),jbe]; exact j
  ·simp only [jad] at hc;obtain ⟨w,k,rfl⟩:=hc;exact kdo f t x o m ag cs hd k hs
 | .i _,x,o,m,ag,cs,y,hd,hc,hs | .b,x,o,m,ag,cs,y,hd,hc,hs | .s,x,o,m,ag,cs,y,hd,hc,hs | .un,x,o,m,ag,cs,y,hd,hc,hs
 | .sl _,x,o,m,ag,cs,y,hd,hc,hs | .pt _,x,o,m,ag,cs,y,hd,hc,hs | .op _,x,o,m,ag,cs,y,hd,hc,hs | .ar _ _,x,o,m,ag,cs,y,hd,hc,hs=>by
  simp only [setC] at hc;split at hc
  ·rename_i p;obtain ⟨rfl,rfl,rfl⟩:=p;obtain ⟨g1,j⟩:=f _ _ hc;have e:=hs.len;rw [kag _ x hd] at e;have l2:=j.len;rw [kag _ y g1] at l2;refine ⟨by omega,by omega,?_⟩;rw [jdm,jbc,jcf,jbw (by omega),jbe]; exact j
  ·cases hc
 | .nt,x,o,m,ag,cs,y,hd,hc,hs=>by simp [Ty.dat] at hd
 | .sm _ _,x,o,m,ag,cs,y,hd,hc,hs=>by simp [Ty.dat] at hd
 | .fn _ _ _,x,o,m,ag,cs,y,hd,hc,hs=>by simp [Ty.dat] at hd
end
def updK {α:Type} (f:Nat->α) (i:Nat) (x:α):Nat->α:=λj=>if j=i then x else f j
theorem updK_self {α:Type} {f:Nat->α} {i:Nat} {x:α}:updK f i x i=x:=by simp [updK]
theorem kaC {α:Type} {f:Nat->α} {i:Nat} {x:α} {j:Nat} (h:j<i):updK f i x j=f j:=by unfold updK; rw [if_neg (by omega)]
section
variable {P:Yd} {κ κ':Nat->Yb Nat} {ln ln':Nat->Nat} {z z':AH} {c:Cx sem} {s:TS sem} {env:Env} {h h':AH} {n n' N N':Nat}
theorem FamOk.map {c':Cx sem} {s':TS sem} (F:FamOk κ ln z c s n) (w:∀ id B,thp c' s' id=some B->(∃ f,thp c s id=some f/\(B.isF=true->f.isF=true)/\κ' id = κ id/\ln' id=ln id)\/(B.isF=false/\∀ q,κ' id=some q->n<=q)) (hz:∀ id k B r,thp c' s' id=some k->thp c s id=some B->B.isF=true->r∈kao (ln id)->z' r=none) (hn:n<=n'):FamOk κ' ln' z' c' s' n':=by
 intro id B hB t;rcases w id B hB with ⟨f,p,y,h2,G⟩ | ⟨p,_⟩
 ·obtain ⟨g1,E⟩:=F id f p (y t);rw [G];refine ⟨g1,λr hr=>?_⟩;obtain ⟨k1,k2,k3,H⟩:=E r hr;refine ⟨by omega,hz id B f r hB p (y t) hr,λj k u=>?_,λj k u a m=>?_⟩
  ·rcases w j k u with ⟨v,b,i,C,x⟩ | ⟨b,i⟩
   ·rw [C]; exact k3 j v b
   ·intro e; have:=i r e; omega
  ·rcases w j k u with ⟨v,b,i,C,x⟩ | ⟨b,i⟩
   ·rw [x] at m; exact H j v b (i a) m
   ·rw [b] at a; cases a
 ·rw [p] at t; cases t
theorem BR.mono (p:∀ id,id<N->κ' id = κ id) (b:∀ id,id<N->ln' id=ln id) (hz:∀ q B,z q=some B->z' q=some B) (hN:N<=N') {id:Nat} {B:TB sem} (hi:id<N) (y:∀ q AB,Ow κ ln id B q->h q=some AB->h' q=some AB) (R:BR P κ ln z h N id B):BR P κ' ln' z' h' N' id B:=by
 cases R with
 | bx T vs q as a hB w C=>exact .bx T vs q as (by rw [p id hi]; exact a) (y q _ (.inl a) hB) (w.mono p b hz hN) C
 | el T t x q cs f a hB w C hl=>exact .el T t x q cs f (by rw [p id hi]; exact a) (y q _ (.inl a) hB) (w.mono hz) C (by rw [b id hi]; exact hl)
 | sl0 T t l f a hl hn=>exact .sl0 T t l f (by rw [p id hi]; exact a) hl (by rw [b id hi]; exact hn)
 | sl T t l q es f a hB w C hn=>exact .sl T t l q es f (by rw [p id hi]; exact a) (y q _ (.inl a) hB) (w.mono hz) C (by rw [b id hi]; exact hn)
 | mp k v l q M K a hB=>exact .mp k v l q M K (by rw [p id hi]; exact a) (y q _ (.inl a) hB)
 | si x q a E hB=>exact .si x q (by rw [p id hi]; exact a) E (y q _ (.inl a) hB)
 | fm0 T t j U u l H f a hl hn=>exact .fm0 T t j U u l H f (by rw [p id hi]; exact a) hl (by rw [b id hi]; exact hn)
 | fm T t j U u l H q es f a hB hn hl w E C=>
  refine .fm T t j U u l H q es f (by rw [p id hi]; exact a) (y q _ (.inl a) hB) (by rw [b id hi]; exact hn) hl (λi x e I h2 L G J=>?_) (by rw [b id hi]; exact E) C;rw [b id hi] at G;refine (w i x e I h2 L G J).mono hz λr B hr hB=>y r B (.inr ⟨rfl,?_⟩) hB;obtain ⟨r',m⟩:=I;simp only at hr; subst hr;exact kaK G
theorem BR.elen {id q:Nat} {B:TB sem} (K:BR P κ ln z h N id B) (b:κ id=some q) {k:Nat} {T:Yc} {es:Ya (Ya AV)} (p:h q=some (.cells k T es)):∀ e∈es,e.length=k:=by
 intro e w;cases K with
 | bx T vs y as a hB f E=>
  rw [b] at a; cases a; rw [p] at hB; cases hB;simp at w; subst w; exact f.len
 | el T t x y cs m a hB f E hl=>
  rw [b] at a; cases a; rw [p] at hB; cases hB;simp at w; subst w; rw [<-f.len,kag t x m]
 | sl0 T t l m a hl hn=>rw [b] at a; cases a
 | sl T t l y es' m a hB f E hn=>
  rw [b] at a; cases a; rw [p] at hB; cases hB;obtain ⟨i,hi⟩:=jdh w;have J:=(jaf.1 hi).1;have C:=f.1;rw [jaq] at C;have:=(f.2 i e _ hi (by rw [jas,jae (by omega)]; rfl)).len;rw [kag t _ m] at this; exact this.symm
 | mp M v l y I L a hB=>rw [b] at a; cases a; rw [p] at hB; cases hB
 | si x y a G hB=>rw [b] at a; cases a; rw [p] at hB; cases hB
 | fm0 T t j U u l H m a=>rw [b] at a; cases a
 | fm T t j U u l H y es' m a hB hn hl f G E=>
  rw [b] at a; cases a; rw [p] at hB; cases hB;exact (E e w).1
theorem BR.row {id r:Nat} {T:Yc} {t:Ty} {j:Nat} {U:Yc} {u:Ty} {l:Ya t.den} {b:Yb Int} (G:BR P κ ln z h N id (.fm T t j U u l b)) (hr:r∈kao (ln id)) :
  ∃ (i m:Nat) (x:t.den) (e:Ya AV),(kad (ln id))[i]?=some (some r,m)/\l[i]?=some x/\b≠some (i:Int)/\FamE z h j U u.wd (t.enc x) e (some r,m):=by
 obtain ⟨⟨r',m⟩,v,k⟩:=jci.1 hr;simp only at k; subst k;obtain ⟨i,hi⟩:=jdh v;cases G with
 | fm0 _ _ _ _ _ _ _ p B hl hn=>rw [hn,show kad 0=[] from rfl] at hi; simp at hi
 | fm _ _ _ _ _ _ _ q es p B hB hn hl y w H=>
  have E:=(jaf.1 hi).1;have f:l[i]?=some (l[i]'(by omega)):=jae _;have C:es[i]?=some (es[i]'(by omega)):=jae _;have a:b≠some (i:Int):=λe=>by have:=w i _ e hi; cases this
  exact ⟨i,m,_,_,hi,f,a,y i _ _ _ f C hi a⟩
theorem BR.live {id q:Nat} {B:TB sem} (t:BR P κ ln z h N id B) (j:Ow κ ln id B q):h q≠none:=by
 intro b;rcases j with j | ⟨u,hr⟩
 ·cases t with
  | bx _ _ k as a f=>rw [j] at a; cases a; rw [f] at b; cases b
  | el _ _ _ k cs p a f=>rw [j] at a; cases a; rw [f] at b; cases b
  | sl0 _ _ _ _ a=>rw [j] at a; cases a
  | sl _ _ _ k cs p a f=>rw [j] at a; cases a; rw [f] at b; cases b
  | mp _ _ _ k _ _ a f=>rw [j] at a; cases a; rw [f] at b; cases b
  | si _ k a _ f=>rw [j] at a; cases a; rw [f] at b; cases b
  | fm0 _ _ _ _ _ _ _ _ a=>rw [j] at a; cases a
  | fm _ _ _ _ _ _ _ k es p a f=>rw [j] at a; cases a; rw [f] at b; cases b
 ·cases B <;> simp only [TB.isF,jai] at u;obtain ⟨i,m,x,e,g1,w,C,_,_,ys,_,_,G,es',v,E,y⟩:=t.row hr;rw [v] at b; cases b
theorem BR.elenO {id q:Nat} {B:TB sem} (f:BR P κ ln z h N id B) (b:Ow κ ln id B q) {k:Nat} {T:Yc} {es:Ya (Ya AV)} (a:h q=some (.cells k T es)):∀ e∈es,e.length=k:=by
 rcases b with b | ⟨j,hr⟩
 ·exact f.elen b a
 ·cases B <;> simp only [TB.isF,jai] at j;obtain ⟨i,m,x,e,g1,v,w,_,_,ys,_,_,C,es',u,y,p⟩:=f.row hr;rw [u] at a; cases a;exact λe t=>(p e t).1
theorem kbs {b:Yb (TB sem)} {i id:Nat}:thp c { s with hp:=(i,b)::s.hp } id=if id=i then b else thp c s id:=by
 by_cases h:id=i <;> simp [thp,alk,h]
theorem thp_n {b:Yb (TB sem)} {i id N:Nat}:thp c { s with hp:=(i,b)::s.hp,n:=N } id=if id=i then b else thp c s id:=by
 by_cases h:id=i <;> simp [thp,alk,h]
theorem Rel.gN (R:Rel P κ ln z c s env h n):alk c.g s.n=none:=by
 cases a:alk s.hp s.n with
 | some b=>exact R.g _ _ a
 | none=>
  cases e:alk c.g s.n with
  | none=>rfl
  | some B=>
   have:thp c s s.n=some B:=by unfold thp; rw [a]; exact e
   exact absurd (R.lt _ _ this) (Nat.lt_irrefl _)
theorem Rel.zN (R:Rel P κ ln z c s env h n) {q:Nat} (a:n<=q):z q=none:=by
 cases hz:z q with
 | none=>rfl
 | some B=>have:=R.zin q B hz; rw [R.hn q a] at this; cases this
theorem Rel.new (R:Rel P κ ln z c s env h n) (B:TB sem) (k:Yb Nat) (l:Nat) (E:∀ q B,h q=some B->h' q=some B) (v:n<=n') (w:∀ q,k=some q->n<=q/\q<n') (y:∀ q,n'<=q->h' q=none)
  (hB:BR P (updK κ s.n k) (updK ln s.n l) z h' (s.n+1) s.n B) (hF:B.isF=false:=by rfl):Rel P (updK κ s.n k) (updK ln s.n l) z c { s with hp:=(s.n,some B)::s.hp,n:=s.n+1 } env h' n':=by
 have p:∀ id,id<s.n->updK κ s.n k id = κ id:=λid hi=>kaC hi;have C:∀ id,id<s.n->updK ln s.n l id=ln id:=λid hi=>kaC hi;refine ⟨λx=>(R.env x).mono p C (λ_ _ h=>h) (jca _),λid m a=>?_,λid m a=>?_,λi j J I q hi t ki u=>?_,λq m f=>E q m (R.zin q m f),λid m q a f=>?_,λid m q a f=>?_,y,R.e0,λid b a=>?_,R.dy,R.zk,R.fam.map (λid m a=>?_) (λid _ B r _ H h2 G=>((R.fam id B H h2).2 r G).2.1) v⟩
 ·rw [thp_n] at a;split at a
  ·rename_i e; cases a; subst e; exact hB
  ·exact (R.blk id m a).mono p C (λ_ _ h=>h) (jca _) (R.lt id m a) λq B _=>E q B
 ·rw [thp_n] at a;split at a
  ·rename_i e; subst e; exact jbl _
  ·exact jef (R.lt id m a)
 ·rw [thp_n] at hi t;split at hi
  ·rename_i e; subst e;rw [updK_self] at ki;split at t
   ·rename_i e; exact e.symm
   ·rw [p j (R.lt j _ t)] at u;have:=R.bnd j _ q t u;have:=w q ki;omega
  ·rw [p i (R.lt i _ hi)] at ki;split at t
   ·rename_i e; subst e;rw [updK_self] at u;have:=R.bnd i _ q hi ki;have:=w q u;omega
   ·rw [p j (R.lt j _ t)] at u;exact R.inj i j _ _ q hi t ki u
 ·rw [thp_n] at a;split at a
  ·rename_i e; subst e;rw [updK_self] at f;exact R.zN (w q f).1
  ·rw [p id (R.lt id _ a)] at f; exact R.zout id m q a f
 ·rw [thp_n] at a;split at a
  ·rename_i e; subst e;rw [updK_self] at f;exact (w q f).2
  ·rw [p id (R.lt id _ a)] at f; exact jan (R.bnd id m q a f) v
 ·simp only [alk] at a;split at a
  ·rename_i e; subst e; exact R.gN
  ·exact R.g id b a
 ·rw [thp_n] at a;split at a
  ·rename_i e; cases a; subst e; exact .inr ⟨hF,λq f=>by rw [updK_self] at f; exact (w q f).1⟩
  ·exact .inl ⟨m,a,λh=>h,p id (R.lt id _ a),C id (R.lt id _ a)⟩
theorem kab {id:Nat} {B:TB sem} (a:alk s.hp id=some (some B)):thp c s id=some B:=by unfold thp; rw [a]
theorem Rel.set (R:Rel P κ ln z c s env h n) {id q:Nat} {k B:TB sem} {AB:ABlk} (m:alk s.hp id=some (some k)) (u:κ id=some q) (hB:BR P κ ln z (updH h q AB) s.n id B) (hF:B.isF=true->k.isF=true:=by intro h; cases h):Rel P κ ln z c { s with hp:=(id,some B)::s.hp } env (updH h q AB) n:=by
 have x:=R.bnd id k q (kab m) u;refine ⟨R.env,λi a hi=>?_,λi a hi=>?_,λi j C H f hi p ki E=>?_,λf a hz=>?_,λi a f hi ki=>?_,λi a f hi ki=>?_,λf hn=>?_,R.e0,λi b hi=>?_,R.dy,R.zk,R.fam.map (λi a hi=>?_) (λid _ B r _ w h2 y=>((R.fam id B w h2).2 r y).2.1) (jag _)⟩
 ·rw [kbs] at hi;split at hi
  ·rename_i e; cases hi; subst e; exact hB
  ·rename_i v;refine (R.blk i a hi).mono (λ_ _=>rfl) (λ_ _=>rfl) (λ_ _ h=>h) (jag _) (R.lt i a hi) λG C k1 w=>?_;unfold updH;rw [if_neg]; ·exact w
   rintro rfl;exact v (R.owI hi (kab m) k1 (.inl u))
 ·rw [kbs] at hi;split at hi
  ·rename_i e; subst e; exact R.lt _ k (kab m)
  ·exact R.lt i a hi
 ·have:∀ i a,thp c { s with hp:=(id,some B)::s.hp } i=some a->∃ t,thp c s i=some t:=λi a hi=>by
   rw [kbs] at hi;split at hi
   ·rename_i e; subst e; exact ⟨k,kab m⟩
   ·exact ⟨_,hi⟩
  obtain ⟨_,hi⟩:=this i _ hi;obtain ⟨_,p⟩:=this j _ p;exact R.inj i j _ _ f hi p ki E
 ·unfold updH;split
  ·rename_i e; subst e; rw [R.zout id k _ (kab m) u] at hz; cases hz
  ·exact R.zin f a hz
 ·rw [kbs] at hi;split at hi
  ·rename_i e; subst e; exact R.zout _ k f (kab m) ki
  ·exact R.zout i a f hi ki
 ·rw [kbs] at hi;split at hi
  ·rename_i e; subst e; exact R.bnd _ k f (kab m) ki
  ·exact R.bnd i a f hi ki
 ·unfold updH;rw [if_neg (by omega)]; exact R.hn f hn
 ·simp only [alk] at hi;split at hi
  ·rename_i e; subst e; exact R.g _ _ m
  ·exact R.g i b hi
 ·rw [kbs] at hi;split at hi
  ·rename_i e; cases hi; subst e; exact .inl ⟨k,kab m,hF,rfl,rfl⟩
  ·exact .inl ⟨a,hi,λh=>h,rfl,rfl⟩
theorem Rel.del (R:Rel P κ ln z c s env h n) {id:Nat} {t:TB sem} (p:alk s.hp id=some (some t)) (E:∀ q B,h' q=some B->h q=some B) (v:∀ q B,κ id≠some q->h q=some B->h' q=some B):Rel P κ ln z c { s with hp:=(id,none)::s.hp } env h' n:=by
 have sub:∀ i a,thp c { s with hp:=(id,none)::s.hp } i=some a->i≠id/\thp c s i=some a:=λi a hi=>by
  rw [kbs] at hi;split at hi
  ·cases hi
  ·rename_i e; exact ⟨e,hi⟩
 refine ⟨R.env,λi a hi=>?_,λi a hi=>R.lt i a (sub i a hi).2,λi j u H f hi x ki G=>R.inj i j _ _ f (sub _ _ hi).2 (sub _ _ x).2 ki G,λf a hz=>?_,λi a f hi ki=>R.zout i a f (sub _ _ hi).2 ki,λi a f hi ki=>R.bnd i a f (sub _ _ hi).2 ki,λf hn=>?_,R.e0,λi b hi=>?_,R.dy,R.zk,R.fam.map (λi a hi=>.inl ⟨a,(sub i a hi).2,λh=>h,rfl,rfl⟩) (λid _ B r _ m h2 C=>((R.fam id B m h2).2 r C).2.1) (jag _)⟩
 ·obtain ⟨k,hi⟩:=sub i a hi;exact (R.blk i a hi).mono (λ_ _=>rfl) (λ_ _=>rfl) (λ_ _ h=>h) (jag _) (R.lt i a hi) λy u k1 m=>v y u (λe=>k (R.owI hi (kab p) k1 (.inl e))) m
 ·exact v f a (λe=>by rw [R.zout id t _ (kab p) e] at hz; cases hz) (R.zin f a hz)
 ·cases w:h' f with
  | none=>rfl
  | some B=>have:=E f B w; rw [R.hn f hn] at this; cases this
 ·simp only [alk] at hi;split at hi
  ·rename_i e; subst e; exact R.g _ _ p
  ·exact R.g i b hi
theorem keH {α:Type}:∀ (ids:Ya Nat) (l:Ya (Nat×Yb α)) (i:Nat),alk (ids.map (λid=>(id,none))++l) i=if ids.contains i then some none else alk l i
 | [],l,i=>by simp
 | id::ids,l,i=>by
  simp only [jap,jdp,alk,keH ids l i,List.contains_cons];by_cases h:i=id
  ·subst h; simp
  ·simp [h]
theorem Rel.retire (R:Rel P κ ln z c s env h n) {ids:Ya Nat} {s':TS sem} (H:retire s ids=some s'):Rel P κ ln (hz (ows κ ln c s) h z ids) c s' env h n/\s'.env=s.env/\s'.n=s.n/\(∀ id b,alk s.hp id=some b->id∉ids->alk s'.hp id=some b)/\(∀ id∈ids,∃ B,alk s.hp id=some (some B))/\(∀ id B,alk s'.hp id=some (some B)->id∉ids):=by
 unfold Abs.retire at H;split at H
 ·rename_i C;cases H;have p:∀ id∈ids,∃ B,alk s.hp id=some (some B):=λid hi=>by
   have:=jam.1 C id hi;split at this
   ·rename_i B hB; exact ⟨_,hB⟩
   ·cases this
  have sub:∀ i a,thp c { s with hp:=ids.map (λid=>(id,none))++s.hp,dy:=s.dy||!ids.isEmpty } i=some a->i∉ids/\thp c s i=some a:=λi a hi=>by
   unfold thp at hi ⊢;rw [keH] at hi;split at hi
   ·rename_i b m;split at m
    ·cases m; cases hi
    ·rename_i u;rw [m]; exact ⟨by simpa using u,hi⟩
   ·rename_i m;split at m
    ·cases m
    ·rename_i u;rw [m]; exact ⟨by simpa using u,hi⟩
  refine ⟨⟨λx=>(R.env x).mono (λ_ _=>rfl) (λ_ _=>rfl) (hz_z R.zin) (jag _),λi a hi=>?_,λi a hi=>R.lt i a (sub i a hi).2,λi j U Y y hi E ki W=>R.inj i j _ _ y (sub _ _ hi).2 (sub _ _ E).2 ki W,keQ R.zin,λi a y hi ki=>?_,λi a y hi ki=>R.bnd i a y (sub _ _ hi).2 ki,R.hn,R.e0,λi b hi=>?_,λJ=>?_,λq k T es G e w=>?_,R.fam.map (λi a hi=>.inl ⟨a,(sub i a hi).2,λh=>h,rfl,rfl⟩) (λid a B r M I h2 L=>?_) (jag _)⟩,rfl,rfl,λid b m v=>?_,p,λid B m=>?_⟩
  ·exact (R.blk i a (sub i a hi).2).mono (λ_ _=>rfl) (λ_ _=>rfl) (hz_z R.zin) (jag _) (R.lt i a (sub i a hi).2) λX U k1 I=>I
  ·obtain ⟨v,hi⟩:=sub i a hi;unfold hz;rw [if_neg]
   ·exact R.zout i a y hi ki
   ·intro f;obtain ⟨id,t,w⟩:=jbt.1 f;obtain ⟨B,hB⟩:=p id t;have:=R.owI hi (kab hB) (.inl ki) (kdC (kab hB) (by simpa using w));subst this; exact v t
  ·replace hi:alk (ids.map (λid=>(id,none))++s.hp) i=some b:=hi;rw [keH] at hi;split at hi
   ·rename_i u;obtain ⟨B,hB⟩:=p i (by simpa using u);exact R.g i _ hB
   ·exact R.g i b hi
  ·simp only [jdn,Bool.not_eq_eq_eq_not,jcz,jcw] at J;rw [J.2,kbB]; exact R.dy J.1
  ·unfold hz at G;split at G
   ·rename_i f;obtain ⟨id,t,K⟩:=jbt.1 f;obtain ⟨B,hB⟩:=p id t;exact (R.blk id B (kab hB)).elenO (kdC (kab hB) (by simpa using K)) G e w
   ·exact R.zk q k T es G e w
  ·obtain ⟨_,S,Z,_⟩:=(R.fam id B I h2).2 r L;unfold hz;rw [if_neg]
   ·exact S
   ·intro f;obtain ⟨j,E,w⟩:=jbt.1 f;obtain ⟨Bj,hBj⟩:=p j E;have:=R.owI I (kab hBj) (.inr ⟨h2,L⟩) (kdC (kab hBj) (by simpa using w));subst this; exact (sub _ _ M).1 E
  ·show alk (ids.map (λid=>(id,none))++s.hp) id=some b;rw [keH,if_neg (by simpa using v)]; exact m
  ·replace m:alk (ids.map (λid=>(id,none))++s.hp) id=some (some B):=m;rw [keH] at m;split at m
   ·cases m
   ·rename_i u; simpa using u
 ·cases H
def Ke (c:Cx sem) (N:Nat) (κ:Nat->Yb Nat) (ln:Nat->Nat) (κ':Nat->Yb Nat) (ln':Nat->Nat):Prop:=∀ id,id<N->κ' id = κ id/\(c.has id=true->ln' id=ln id)
theorem Ke.refl {c:Cx sem} {N:Nat} {κ:Nat->Yb Nat} {ln:Nat->Nat}:Ke c N κ ln κ ln:=λ_ _=>⟨rfl,λ_=>rfl⟩
theorem Ke.trans {c:Cx sem} {N M:Nat} {κ κ' e:Nat->Yb Nat} {ln ln' a:Nat->Nat} (h:Ke c N κ ln κ' ln') (h':Ke c M κ' ln' e a) (hN:N<=M):Ke c N κ ln e a:=λid hi=>⟨(h' id (by omega)).1.trans (h id hi).1,λb=>((h' id (by omega)).2 b).trans ((h id hi).2 b)⟩
def calm (o:Oper):Bool:=!isW [] 0 o&&!kju o&&(match o.op with | .buildSlice _ _ _ | .move _ | .assign _ | .build _ _=>false | _=>true)
def Res (P:Yd) (κ:Nat->Yb Nat) (ln:Nat->Nat) (z:AH) (c:Cx sem) (s:TS sem) (env:Env) (h:AH) (n:Nat) (o:Oper) {ρ:Ty} (Kf:TV sem->TS sem->sem.Ans ρ) (r:ρ.den):Prop:=
 ∃ a s' v h' n' κ' ln' z',(∀ K:K3,K v h' n'->aop P env h n o K)/\Kf a s'=some r/\Rel P κ' ln' z' c s' env h' n'/\TVR P κ' ln' z' s'.n a v/\s.n<=s'.n/\Ke c s.n κ ln κ' ln'/\(calm o=true->s'=s/\h'=h/\n'=n/\κ' = κ/\ln'=ln/\z'=z)
variable {o:Oper} {ρ:Ty} {Kf:TV sem->TS sem->sem.Ans ρ} {r:ρ.den}
theorem Rel.q (R:Rel P κ ln z c s env h n) {a:TV sem} {v:AV} (f:∀ K:K3,K v h n->aop P env h n o K) (b:TVR P κ ln z s.n a v) (e:Kf a s=some r):Res P κ ln z c s env h n o Kf r:=
 ⟨a,s,v,h,n,κ,ln,z,f,e,R,b,jag _,λ_ _=>⟨rfl,λ_=>rfl⟩,λ_=>⟨rfl,rfl,rfl,rfl,rfl,rfl⟩⟩
theorem kjl (k:calm o=false) (R:Rel P κ ln z c s env h n) {T:Yc} {t:Ty} {l:Ya t.den} {es:Ya (Ya AV)} (i:t.dat=true) (m:SnapE z es (l.map t.enc)) (u:∀ e∈es,∀ a∈e,a.one=true)
  (p:∀ K:K3,K (.ms n 0 l.length) (updH h n (.cells t.wd T es)) (n+1)->aop P env h n o K) (v:newSl (A:=sem) s T t l Kf=some r):Res P κ ln z c s env h n o Kf r:=by
 have j:=R.new (h':=updH h n (.cells t.wd T es)) (n':=n+1) (.sl T t l) (some n) l.length (λq B b=>by
   unfold updH; rw [if_neg]; ·exact b
   rintro rfl; rw [R.hn _ (jag _)] at b; cases b) (jca _) (λq b=>by cases b; omega) (λq b=>by unfold updH; rw [if_neg (by omega)]; exact R.hn q (by omega))
  (.sl T t l n es i updK_self (by simp [updH]) m u updK_self.symm)
 exact ⟨.mw s.n,_,_,_,_,_,_,_,p,v,j,by have:=TVR.mw (P:=P) (κ:=updK κ s.n (some n)) (ln:=updK ln s.n l.length) (z:=z) (N:=s.n+1) s.n n (jbl _) updK_self; rw [updK_self] at this; exact this,jca _,λid hi=>⟨kaC hi,λ_=>kaC hi⟩,λf=>by rw [k] at f; cases f⟩
theorem kkG (f:calm o=false) (R:Rel P κ ln z c s env h n) {T:Yc} {t:Ty} (e:t.dat=true)
  (k:∀ K:K3,K nilS h n->aop P env h n o K) (j:newSl (A:=sem) s T t ([]:Ya t.den) Kf=some r):Res P κ ln z c s env h n o Kf r:=by
 have i:=R.new (h':=h) (n':=n) (.sl T t []) none 0 (λq B a=>a) (jag _) (λq a=>by cases a) R.hn (.sl0 T t [] e updK_self rfl updK_self);exact ⟨.mw s.n,_,_,_,_,_,_,_,k,j,i,.mw0 s.n (jbl _) updK_self,jca _,λid hi=>⟨kaC hi,λ_=>kaC hi⟩,λb=>by rw [f] at b; cases b⟩
theorem klN (j:calm o=false) (R:Rel P κ ln z c s env h n) {T:Yc} {vs:Ya (TV sem)} {as:Ya AV} (f:TVRs P κ ln z s.n vs as) (p:∀ a∈as,a.one=true)
  (k:∀ K:K3,K (.own n 0 0) (updH h n (.cells as.length T [as])) (n+1)->aop P env h n o K) (m:newBx (A:=sem) s (.bx T vs) Kf=some r):Res P κ ln z c s env h n o Kf r:=by
 have i:=R.new (h':=updH h n (.cells as.length T [as])) (n':=n+1) (.bx T vs) (some n) 0 (λq B b=>by
   unfold updH; rw [if_neg]; ·exact b
   rintro rfl; rw [R.hn _ (jag _)] at b; cases b) (jca _) (λq b=>by cases b; omega) (λq b=>by unfold updH; rw [if_neg (by omega)]; exact R.hn q (by omega))
  (.bx T vs n as updK_self (by simp [updH,f.len]) (f.mono (λid hi=>kaC hi) (λid hi=>kaC hi) (λ_ _ h=>h) (jca _)) p)
 exact ⟨.ptr s.n 0,_,_,_,_,_,_,_,k,m,i,.ptr s.n 0 n (jbl _) updK_self,jca _,λid hi=>⟨kaC hi,λ_=>kaC hi⟩,λe=>by rw [j] at e; cases e⟩
theorem kpM (v:calm o=false) (R:Rel P κ ln z c s env h n) {T:Yc} {t:Ty} {x:t.den} {as:Ya AV} (i:t.dat=true) (k:SnapL z as (t.enc x)) (y:∀ a∈as,a.one=true)
  (w:∀ K:K3,K (.own n 0 0) (updH h n (.cells as.length T [as])) (n+1)->aop P env h n o K) (C:newBx (A:=sem) s (.el T t x) Kf=some r):Res P κ ln z c s env h n o Kf r:=by
 have f:as.length=t.wd:=by rw [<-kag t x i]; exact k.len.symm
 have p:=R.new (h':=updH h n (.cells as.length T [as])) (n':=n+1) (.el T t x) (some n) (match t with | .ar m _=>m | _=>0) (λq B b=>by
   unfold updH; rw [if_neg]; ·exact b
   rintro rfl; rw [R.hn _ (jag _)] at b; cases b) (jca _) (λq b=>by cases b; omega) (λq b=>by unfold updH; rw [if_neg (by omega)]; exact R.hn q (by omega))
  (.el T t x n as i updK_self (by simp [updH,f]) k y (λm u e=>by subst e; exact updK_self))
 exact ⟨.ptr s.n 0,_,_,_,_,_,_,_,w,C,p,.ptr s.n 0 n (jbl _) updK_self,jca _,λid hi=>⟨kaC hi,λ_=>kaC hi⟩,λj=>by rw [v] at j; cases j⟩
theorem Snap.one_rev {a a':AV} (e:Snap z a a') (b:a'.one=true):a.one=true:=by
 cases e <;> first | exact b | rfl | (simp [AV.one] at b; done)
theorem SnapL.one_rev {a b:Ya AV} (h:SnapL z a b) (f:∀ x∈b,x.one=true):∀ x∈a,x.one=true:=by
 induction h with
 | nil=>intro x e; cases e
 | cons k h2 j=>
  intro x e;rcases jbq.1 e with rfl | e
  ·exact k.one_rev (f _ (by simp))
  ·exact j (λy i=>f y (by simp [i])) x e
end
theorem kzl {l:Ya Ty} (h:∀ t∈l,t.dat=true):(stTy l).dat=true:=by
 have b:∀ l:Ya Ty,(∀ t∈l,t.dat=true)->(tup l).dat=true:=by
  intro l;induction l with
  | nil=>intro _; rfl
  | cons t ts e=>
   intro h;cases ts with
   | nil=>exact h t (by simp)
   | cons u ts=>simp only [tup,Ty.dat,jac]; exact ⟨h t (by simp),e λx a=>h x (by simp [a])⟩
 unfold stTy;split
 ·rfl
 ·simp only [Ty.dat]; exact h _ (by simp)
 ·exact b l h
theorem kvc {α β:Type} {f:α->Yb β} {p:β->Prop} (b:∀ x y,f x=some y->p y):∀ (l:Ya α) (r:Ya β),l.mapM f=some r->∀ y∈r,p y
 | [],r,h=>by simp at h; subst h; simp
 | x::l,r,h=>by
  simp only [jdu,Option.bind_eq_bind,jaa,Option.pure_def,Option.some.injEq] at h;obtain ⟨y,e,r',hr,rfl⟩:=h;intro w a;rcases jbq.1 a with rfl | a
  ·exact b x _ e
  ·exact kvc b l r' hr w a
theorem krW {P:Yd}:∀ (d:Nat) (T:Yc) (t:Ty),tyF P d T=some t->t.dat=true
 | 0,T,t,h=>by simp [tyF] at h
 | d+1,T,t,h=>by
  simp only [tyF] at h;split at h;any_goals (simp only [jad] at h)
  all_goals first | (cases h; rfl) | (cases h; done) | (obtain ⟨u,e,rfl⟩:=h; exact krW d _ u e) | skip
  ·obtain ⟨ts,a,rfl⟩:=h;exact kzl (kvc (λx y b=>krW d _ y b) _ _ a)
theorem kfg {P:Yd} {T:Yc} {t:Ty} (h:tyOf P T=some t):t.dat=true:=krW 9 T t h
section
variable {P:Yd} {κ κ':Nat->Yb Nat} {ln ln':Nat->Nat} {z z':AH} {c:Cx sem} {s:TS sem} {env:Env} {h h':AH} {n n' N N':Nat}
variable {o:Oper} {ρ:Ty} {Kf:TV sem->TS sem->sem.Ans ρ} {r:ρ.den}
variable {d:Yb Tmp} {ty:Yc} {pos:String} {after:Array Edge} {g:Yb (Nat×Bool)}
theorem kaa {α:Type} {r:α} (h:none=some r) {p:Prop}:p:=by cases h
theorem kpP (i:calm o=false) (R:Rel P κ ln z c s env h n) {T:Yc} {v:TV sem} {a:AV} (f:TVR P κ ln z s.n v a) (e:∀ K:K3,K a h n->aop P env h n o K) (b:moveX P s T v Kf=some r):Res P κ ln z c s env h n o Kf r:=by
 unfold moveX at b;split at b
 ·rename_i u;split at b
  ·rename_i hn;obtain rfl:=kbh hn;cases f;unfold nilV at b;split at b
   ·split at b
    ·rename_i t j;exact kkG i R (kfg j) e b
    ·exact R.q e (.sc _ rfl) b
   ·exact R.q e (.sc _ rfl) b
  ·exact R.q e f b
 ·exact R.q e f b
theorem TVR.getB_inv {v:TV sem} {a:AV} {b:Bool} (i:TVR P κ ln z N v a) (e:getB v=some b):a = .sc (.bool b):=by
 cases i <;> try (simp only [getB,reduceCtorEq] at e; done)
 ·rename_i t x j f;cases t <;> simp only [getB,Option.some.injEq,reduceCtorEq] at e;subst e; exact f.sc_inv
 ·cases e; rfl
theorem TVR.i_inv {k:IntKind} {x:Int} {a:AV} (b:TVR P κ ln z N (.c (.i k) x) a):a = .sc (.int k x):=by
 cases b with | c _ _ _ _ hs=>exact hs.sc_inv
theorem TVR.b_inv {x:Bool} {a:AV} (e:TVR P κ ln z N (.c .b x) a):a = .sc (.bool x):=by
 cases e with | c _ _ _ _ hs=>exact hs.sc_inv
theorem TVR.s_inv {x:Ya UInt8} {a:AV} (b:TVR P κ ln z N (.c .s x) a):a=str x:=by
 cases b with | c _ _ _ _ hs=>exact hs.sc_inv
theorem TVR.i64_inv {v:TV sem} {x:Int} {a:AV} (f:TVR P κ ln z N v a) (b:kfo v=some x):a = .sc (.int .i64 x):=by
 cases f <;> try (simp only [kfo,reduceCtorEq] at b; done)
 rename_i t y i e;cases t <;> simp only [kfo,reduceCtorEq] at b;rename_i k;cases k <;> simp only [kfo,Option.some.injEq,reduceCtorEq] at b;subst b;exact e.sc_inv
theorem TVR.int (k:IntKind) (x:Int):TVR P κ ln z N (.c (.i k) x) (.sc (.int k x)):=.c (.i k) x _ rfl (.free _ (.sc _))
theorem TVR.bool (x:Bool):TVR P κ ln z N (.c .b x) (.sc (.bool x)):=.c .b x _ rfl (.free _ (.sc _))
theorem TVR.str (x:Ya UInt8):TVR P κ ln z N (.c .s x) (Abs.str x):=.c .s x _ rfl (.free _ (.sc _))
theorem TVR.free {t:Ty} {x:t.den} (a:t.dat=true):TVR P κ ln z N (.c t x) (t.av x):=.c t x _ a (.free _ (khL t x a))
theorem kcW {ρ:Ty} {b:Bool} {x y:sem.Ans ρ} {r:ρ.den} (h:sem.ite b x y=some r):(b=true/\x=some r)\/(b=false/\y=some r):=by
 cases b
 ·exact .inr ⟨rfl,by simpa using h⟩
 ·exact .inl ⟨rfl,by simpa using h⟩
theorem kkY {T:Yc} {e:Ya AV} (hz:zeroO P T=some e):∀ a∈e,∃ v,a = .sc v/\v.oneCell'=true:=by
 unfold zeroO at hz;simp only [jaa] at hz;obtain ⟨i,hi,m,f,hz⟩:=hz;split at hz
 ·rename_i b;cases hz;simp only [jac,jce] at b;intro a k;obtain ⟨v,j,rfl⟩:=jbb.1 k;exact ⟨v,rfl,b.1 v (by simpa using j)⟩
 ·cases hz
theorem khi:∀ (f:Ya AV) (Ts:Ya Yc) {κ:Nat->Yb Nat} {ln:Nat->Nat} {s:TS sem},Rel P κ ln z c s env h n->(∀ a∈f,∃ v,a = .sc v/\v.oneCell'=true)->f.length=Ts.length->
  ∃ κ' ln',Rel P κ' ln' z c (zeroC P s f Ts).2 env h n/\TVRs P κ' ln' z (zeroC P s f Ts).2.n (zeroC P s f Ts).1 f/\s.n<=(zeroC P s f Ts).2.n/\(zeroC P s f Ts).2.env=s.env/\(∀ id,id<s.n->κ' id = κ id)/\(∀ id,id<s.n->ln' id=ln id)/\
   (∀ id b,alk s.hp id=some b->id<s.n->alk (zeroC P s f Ts).2.hp id=some b)
 | [],[],κ,ln,s,R,_,_=>⟨κ,ln,R,.nil,jag _,rfl,λ_ _=>rfl,λ_ _=>rfl,λ_ _ E _=>E⟩
 | [],_::_,_,_,_,_,_,hl=>by simp at hl
 | _::_,[],_,_,_,_,_,hl=>by simp at hl
 | a::f,T::Ts,κ,ln,s,R,hz,hl=>by
  obtain ⟨v,rfl,I⟩:=hz _ (jcs ..);have j:∀ a∈f,∃ v,a = .sc v/\v.oneCell'=true:=λa J=>hz a (jax _ J);have k:f.length=Ts.length:=by simpa using hl
  have i:∃ κ' ln',Rel P κ' ln' z c (zeroC P s f Ts).2 env h n/\TVRs P κ' ln' z (zeroC P s f Ts).2.n (ofVal sem v::(zeroC P s f Ts).1) (.sc v::f)/\s.n<=(zeroC P s f Ts).2.n/\(zeroC P s f Ts).2.env=s.env/\(∀ id,id<s.n->κ' id = κ id)/\(∀ id,id<s.n->ln' id=ln id)/\
   (∀ id b,alk s.hp id=some b->id<s.n->alk (zeroC P s f Ts).2.hp id=some b):=by
   obtain ⟨κ',ln',u,C,h2,w,m,p,y⟩:=khi f Ts R j k;exact ⟨κ',ln',u,.cons _ _ _ _ (klE v I) C,h2,w,m,p,y⟩
  simp only [zeroC];split
  ·rename_i hn;obtain rfl:=kbh hn;split
   ·rename_i e L;split
    ·rename_i t K;have G:=kfg K;have H:=R.new (h':=h) (n':=n) (.sl e t []) none 0 (λq B x=>x) (jag _) (λq x=>by cases x) R.hn (.sl0 e t [] G updK_self rfl updK_self);obtain ⟨κ',ln',u,C,h2,w,m,p,y⟩:=khi f Ts H j k;refine ⟨κ',ln',u,.cons _ _ _ _ (.mw0 s.n (jan (jbl _) h2) (by rw [m s.n (jbl _)]; exact updK_self)) C,Nat.le_of_succ_le h2,w,λid hi=>by rw [m id (jef hi)]; exact kaC hi,λid hi=>by rw [p id (jef hi)]; exact kaC hi,λid b E hi=>y id b (by simp only [alk]; rw [if_neg (by omega)]; exact E) (jef hi)⟩
    ·exact i
   ·exact i
  ·exact i
theorem kvq {t:Ty} {x:t.den} (f:∀ e rest,isZ t e=some rest->∃ a,e=a++rest/\SnapL z a (t.enc x)):∀ (m:Nat) (e rest:Ya AV),repO (isZ t) m e=some rest->∃ a,e=a++rest/\SnapL z a ((List.replicate m x).map t.enc).flatten
 | 0,e,rest,h=>by simp [repO] at h; subst h; exact ⟨[],rfl,.nil⟩
 | m+1,e,rest,h=>by
  simp only [repO,jaa] at h;obtain ⟨r1,j,h2⟩:=h;obtain ⟨a,rfl,g1⟩:=f e r1 j;obtain ⟨b,rfl,i⟩:=kvq f m r1 rest h2;exact ⟨a++b,by simp,by simpa [List.replicate_succ] using g1.append i⟩
theorem kek:∀ (t:Ty) (x:t.den) (f rest:Ya AV),t.dat=true->zeroD (A:=sem) t=some x->isZ t f=some rest->∃ a,f=a++rest/\SnapL z a (t.enc x)
 | .pr t u,x,f,rest,hd,hx,hz=>by
  simp only [zeroD,jaa,jad] at hx;obtain ⟨p,y,C,h2,rfl⟩:=hx;simp only [isZ,jaa] at hz;obtain ⟨r1,g1,B⟩:=hz;simp only [Ty.dat,jac] at hd;obtain ⟨a,rfl,k1⟩:=kek t p f r1 hd.1 y g1;obtain ⟨b,rfl,k2⟩:=kek u C r1 rest hd.2 h2 B;exact ⟨a++b,by simp,k1.append k2⟩
 | .w t,x,f,rest,hd,hx,hz=>by
  simp only [zeroD,jad] at hx;obtain ⟨p,y,rfl⟩:=hx;exact kek t p f rest hd y hz
 | .ar m t,x,f,rest,hd,hx,hz=>by
  simp only [zeroD,jad] at hx;obtain ⟨p,y,rfl⟩:=hx;simp only [isZ] at hz;split at hz
  ·obtain ⟨a,e,g1⟩:=kvq (z:=z) (λf rest h=>kek t p f rest hd y h) m f rest hz;exact ⟨a,e,g1⟩
  ·cases hz
 | .un,x,f,rest,hd,hx,hz=>by simp [isZ] at hz; subst hz; exact ⟨[],rfl,.nil⟩
 | .i k,x,f,rest,hd,hx,hz=>by
  cases f with
  | nil=>simp [isZ] at hz
  | cons a f=>
   cases a <;> try (simp [isZ] at hz; done)
   rename_i v;cases v <;> try (simp [isZ] at hz; done)
   simp only [isZ] at hz;split at hz
   ·rename_i j;obtain ⟨rfl,rfl⟩:=j;cases hz; cases hx;exact ⟨[_],rfl,.cons (.free _ (.sc _)) .nil⟩
   ·cases hz
 | .b,x,f,rest,hd,hx,hz=>by
  cases f with
  | nil=>simp [isZ] at hz
  | cons a f=>
   cases a <;> try (simp [isZ] at hz; done)
   rename_i v;cases v <;> try (simp [isZ] at hz; done)
   simp only [isZ] at hz;split at hz
   ·cases hz
   ·rename_i j;cases hz; cases hx;refine ⟨[_],rfl,.cons ?_ .nil⟩;rw [jbk] at j; subst j; exact .free _ (.sc _)
 | .s,x,f,rest,hd,hx,hz=>by
  cases f with
  | nil=>simp [isZ] at hz
  | cons a f=>
   cases a <;> try (simp [isZ] at hz; done)
   rename_i v;cases v <;> try (simp [isZ] at hz; done)
   simp only [isZ] at hz;split at hz
   ·rename_i w j;cases hz; cases hx;refine ⟨[_],rfl,.cons ?_ .nil⟩;obtain ⟨⟨l⟩⟩:=w;simp at j; subst j;exact .free _ (.sc _)
   ·cases hz
 | .sl t,x,f,rest,hd,hx,hz=>by
  cases f with
  | nil=>simp [isZ] at hz
  | cons a f=>
   cases a <;> try (simp [isZ] at hz; done)
   rename_i v;simp only [isZ] at hz;split at hz
   ·rename_i j;cases hz; cases hx;rw [kbh j];exact ⟨[_],rfl,.cons .nilS .nil⟩
   ·cases hz
 | .op t,x,f,rest,hd,hx,hz=>by
  cases f with
  | nil=>simp [isZ] at hz
  | cons a f=>
   cases a <;> try (simp [isZ] at hz; done)
   rename_i v;simp only [isZ] at hz;split at hz
   ·rename_i j;cases hz; cases hx;rw [kln j];exact ⟨[_],rfl,.cons (.free _ (.sc _)) .nil⟩
   ·cases hz
 | .pt _,x,f,rest,hd,hx,hz=>by simp [zeroD] at hx
 | .nt,x,f,rest,hd,hx,hz=>by simp [zeroD] at hx
 | .sm _ _,x,f,rest,hd,hx,hz=>by simp [zeroD] at hx
 | .fn _ _ _,x,f,rest,hd,hx,hz=>by simp [zeroD] at hx
end
end Go.Abs
