/- The machinery, part 3. -/
import Derived.Test.YtpjlpghgmjlbbaaGreatZ2
set_option linter.constructorNameAsVariable false
set_option linter.unusedVariables false
set_option linter.unusedSimpArgs false
set_option linter.unusedSectionVars false
namespace Go.Abs
open Go Go.RowKit
def Legal (ops:Array Oper):Array Bool->List Nat->Prop
 | listed,[]=>Region.ready .any ops listed=[]
 | listed,i :: σ=>i∈Region.ready .any ops listed/\Legal ops (listed.setIfInBounds i true) σ
section
variable {F:Fence} {n:Nat} {P:Program} {Q:Exit->Act->World->Prop}
theorem kna {ops:Array Oper}:∀ (fuel:Nat) (σ:List Nat) (listed:Array Bool) (a:Act) (w:World),σ.length<=fuel->Legal ops listed σ->wpAnyIn F n P .any ops Q fuel listed a w->wpOpsIn F n P ops Q σ a w
 | 0,[],listed,a,w,_,hl,h=>h.2
 | 0,i :: σ,listed,a,w,hle,hl,h=>by simp at hle
 | fuel+1,[],listed,a,w,_,hl,h=>h.1 hl
 | fuel+1,i :: σ,listed,a,w,hle,hl,h=>by
  rw [wpOpsIn_cons]
  exact wpOpIn_mono (fun a w hh=>kna fuel σ _ a w (by simpa using hle) hl.2 hh) (h.2 i hl.1)
theorem kpI {ops:Array Oper}:∀ (fuel t:Nat) (listed:Array Bool),(∃ c:List Nat,c.length=fuel/\∀ i,i<ops.size->listed.getD i true=false->i∈c)->listed.size=ops.size->
  Legal ops listed (Region.linearise.go .any ops fuel t listed [])/\(Region.linearise.go .any ops fuel t listed []).length<=fuel
 | 0,t,listed,hc,hsz=>by
  obtain ⟨c,hcl,hci⟩:=hc
  have hcn:c=[]:=jbp hcl
  refine ⟨?_,by simp [Region.linearise.go]⟩
  show Region.ready .any ops listed=[]
  refine jcs.2 fun i hi=>?_
  obtain ⟨h1,o,h2,_⟩:=mem_ready.1 hi
  have:=hci i (jak.1 h2).1 h1
  rw [hcn] at this; cases this
 | fuel+1,t,listed,hc,hsz=>by
  simp only [Region.linearise.go]
  change Legal ops listed (match (Region.ready .any ops listed)[t % (Region.ready .any ops listed).length]? with
   | some i=>Region.linearise.go .any ops fuel (t / (Region.ready .any ops listed).length) (listed.setIfInBounds i true) [i]
   | none=>[].reverse)/\(match (Region.ready .any ops listed)[t % (Region.ready .any ops listed).length]? with
   | some i=>Region.linearise.go .any ops fuel (t / (Region.ready .any ops listed).length) (listed.setIfInBounds i true) [i]
   | none=>[].reverse).length<=fuel+1
  cases hi:(Region.ready .any ops listed)[t % (Region.ready .any ops listed).length]? with
  | none=>
   have hnil:Region.ready .any ops listed=[]:=by
    cases hr:Region.ready .any ops listed with
    | nil=>rfl
    | cons x xs=>
     rw [hr] at hi
     have hlt:t % (x::xs).length<(x::xs).length:=Nat.mod_lt _ (by simp)
     simp at hi
     simp at hlt
     omega
   exact ⟨hnil,by simp⟩
  | some i=>
   simp only []
   rw [linearise_go_acc,List.reverse_singleton,List.singleton_append]
   have him:=jag hi
   obtain ⟨h1,o,h2,_⟩:=mem_ready.1 him
   have hil:=(jak.1 h2).1
   obtain ⟨c,hcl,hci⟩:=hc
   have:=kpI fuel (t / (Region.ready .any ops listed).length) (listed.setIfInBounds i true) ⟨c.erase i,by rw [List.length_erase_of_mem (hci i hil h1),hcl]; rfl,fun j hj hjl=>?_⟩ (by simpa using hsz)
   ·exact ⟨⟨him,this.1⟩,by simpa using this.2⟩
   ·have hne:j≠i:=by
     rintro rfl
     rw [jaf,Array.getElem?_setIfInBounds_self] at hjl
     simp [hsz,hj] at hjl
    rw [getD_set_ne _ (Ne.symm hne)] at hjl
    exact (List.mem_erase_of_ne hne).2 (hci j hj hjl)
end
def posOf (ps:List Nat) (i:Nat):Nat:=ps.idxOf i
def renO (ps:List Nat) (ex:List (Nat×Nat)) (i:Nat) (o:Oper):Oper:=
 ⟨o.dst,o.op,o.type,o.pos,((o.after.toList.filter (Region.binds .any)).map (fun e=>(⟨posOf ps e.on,.data⟩:Edge))++(ex.filter (fun x=>x.2==i)).map fun x=>(⟨posOf ps x.1,.data⟩:Edge)).toArray,o.guard.map fun g=>(posOf ps g.1,g.2)⟩
def dumO:Oper:=⟨none,.move (.func 0),0,"",#[],none⟩
def permL (l:List Oper) (ps:List Nat) (ex:List (Nat×Nat)):List Oper:=ps.map fun i=>match l[i]? with | some o=>renO ps ex i o | none=>dumO
def kgv (n:Nat) (ps:List Nat):Bool:=ps.length==n&&ps.all (fun i=>decide (i<n))&&(List.range n).all (fun i=>ps.contains i)&&decide ps.Nodup
def backw (l:List Oper):Bool:=l.zipIdx.all fun (o,j)=>o.after.all fun e=>!Region.binds .any e||decide (e.on<j)
theorem kpZ {l:List Oper} (hb:backw l=true) {j:Nat} {o:Oper} (ho:l[j]?=some o):∀ e∈o.after,Region.binds .any e=true->e.on<j:=by
 simp only [backw,jam,Prod.forall] at hb
 have:=hb o j (jdc.2 (by simpa using ho))
 simp only [jcc] at this
 intro e he hbe
 have:=this e he
 simpa [hbe] using this
section
variable {l:List Oper} {ps:List Nat} {ex:List (Nat×Nat)}
theorem kcG (hp:kgv l.length ps=true):ps.length=l.length/\(∀ i∈ps,i<l.length)/\(∀ i,i<l.length->i∈ps)/\ps.Nodup:=by
 simp only [kgv,jac,beq_iff_eq,jam,jai,jcj,jbo] at hp
 exact ⟨hp.1.1.1,hp.1.1.2,hp.1.2,hp.2⟩
theorem knp {i:Nat} (h:i∈ps):posOf ps i<ps.length:=List.idxOf_lt_length_iff.2 h
theorem kpV {i:Nat} (h:i∈ps):ps[posOf ps i]?=some i:=by
 rw [jae (knp h)]
 exact congrArg some (List.getElem_idxOf (knp h))
theorem kyr {i j:Nat} (hi:i∈ps) (hj:j∈ps) (h:posOf ps i=posOf ps j):i=j:=by
 have h1:=kpV hi
 rw [h,kpV hj] at h1
 exact (Option.some.inj h1).symm
theorem kqP (hp:kgv l.length ps=true) {i:Nat} {o:Oper} (ho:l[i]?=some o):(permL l ps ex)[posOf ps i]?=some (renO ps ex i o):=by
 have hi:=(kcG hp).2.2.1 i (jad.1 ho).1
 simp only [permL,jaw,kpV hi,jcg,ho]
theorem kko (hp:kgv l.length ps=true):(permL l ps ex).length=l.length:=by simp [permL,(kcG hp).1]
def RespS (ex:List (Nat×Nat)):Array Bool->List Nat->Prop
 | _,[]=>True
 | listed,i :: σ=>(∀ x,(x,i)∈ex->listed.getD x false=true)/\RespS ex (listed.setIfInBounds i true) σ
theorem RespS.nil:∀ (σ:List Nat) (listed:Array Bool),RespS [] listed σ
 | [],_=>trivial
 | i :: σ,listed=>⟨fun x hx=>(by cases hx),RespS.nil σ _⟩
theorem RespS.cons {p:Nat×Nat} {ex:List (Nat×Nat)}:∀ {σ:List Nat} {listed:Array Bool},RespS [p] listed σ->RespS ex listed σ->RespS (p::ex) listed σ
 | [],_,_,_=>trivial
 | i :: σ,listed,h,g=>⟨fun x hx=>(jbu.1 hx).elim (fun e=>h.1 x (by rw [<-e]; simp)) (fun hx=>g.1 x hx),h.2.cons g.2⟩
theorem kxE {listed:Array Bool} {i j:Nat} (h:listed.getD i false=true):(listed.setIfInBounds j true).getD i false=true:=by
 by_cases e:j=i
 ·subst e
  have hlt:j<listed.size:=by
   rw [jaf] at h
   rcases jdh j listed.size with h1 | h1
   ·exact h1
   ·rw [jdr h1] at h; cases h
  simp [jaf,hlt]
 ·rw [getD_set_ne _ e]; exact h
theorem RespS.done {i j:Nat}:∀ {σ:List Nat} {listed:Array Bool},listed.getD i false=true->RespS [(i,j)] listed σ
 | [],_,_=>trivial
 | k :: σ,listed,h=>⟨fun x hx=>(by simp at hx; rw [hx.1]; exact h),RespS.done (kxE h)⟩
theorem krz {i j:Nat} (hij:i≠j):∀ (σ:List Nat) (listed:Array Bool),i<listed.size->j<listed.size->RespS [(i,j)] listed σ\/RespS [(j,i)] listed σ
 | [],_,_,_=>.inl trivial
 | k :: σ,listed,hi,hj=>by
  by_cases hki:k=i
  ·subst hki
   exact .inl ⟨fun x hx=>(by simp at hx; exact absurd hx.2 hij),RespS.done (by simp [jaf,hi])⟩
  ·by_cases hkj:k=j
   ·subst hkj
    exact .inr ⟨fun x hx=>(by simp at hx; exact absurd hx.2.symm hij),RespS.done (by simp [jaf,hj])⟩
   ·rcases krz hij σ (listed.setIfInBounds k true) (by simpa using hi) (by simpa using hj) with h | h
    ·exact .inl ⟨fun x hx=>(by simp at hx; exact absurd hx.2 hkj),h⟩
    ·exact .inr ⟨fun x hx=>(by simp at hx; exact absurd hx.2 hki),h⟩
def kie (n:Nat) (conf:List (Nat×Nat)->Option (Nat×Nat)):Nat->List (Nat×Nat)->List (List (Nat×Nat))
 | 0,ex=>[ex]
 | f+1,ex=>match conf ex with
  | none=>[ex]
  | some (i,j)=>if i≠j/\i<n/\j<n then kie n conf f ((i,j)::ex)++kie n conf f ((j,i)::ex) else [ex]
theorem kmR {conf:List (Nat×Nat)->Option (Nat×Nat)} {σ:List Nat} {listed:Array Bool}:∀ (f:Nat) (ex:List (Nat×Nat)),RespS ex listed σ->∃ e∈kie listed.size conf f ex,RespS e listed σ
 | 0,ex,h=>⟨ex,by simp [kie],h⟩
 | f+1,ex,h=>by
  unfold kie
  split
  ·exact ⟨ex,by simp,h⟩
  ·rename_i i j _
   split
   ·rename_i hc
    rcases krz hc.1 σ listed hc.2.1 hc.2.2 with g | g
    ·obtain ⟨e,he,hr⟩:=kmR (conf:=conf) f _ (g.cons h)
     exact ⟨e,List.mem_append_left _ he,hr⟩
    ·obtain ⟨e,he,hr⟩:=kmR (conf:=conf) f _ (g.cons h)
     exact ⟨e,List.mem_append_right _ he,hr⟩
   ·exact ⟨ex,by simp,h⟩
structure Lst (n:Nat) (ps:List Nat) (listed listed':Array Bool):Prop where
 s:listed.size=n
 s':listed'.size=n
 eq:∀ i,i<n->listed'.getD (posOf ps i) false=listed.getD i false
theorem kmg {a:Array Bool} {i:Nat} (h:i<a.size) (b c:Bool):a.getD i b=a.getD i c:=by simp [jaf,h]
theorem Lst.set (hp:kgv l.length ps=true) {listed listed':Array Bool} (h:Lst l.length ps listed listed') {i:Nat} (hi:i<l.length):Lst l.length ps (listed.setIfInBounds i true) (listed'.setIfInBounds (posOf ps i) true):=by
 obtain ⟨p1,p2,p3,p4⟩:=kcG hp
 refine ⟨by simpa using h.s,by simpa using h.s',fun j hj=>?_⟩
 by_cases hij:i=j
 ·subst hij
  have:=knp (p3 i hi)
  simp [jaf,h.s,h.s',hi,show posOf ps i<l.length by omega]
 ·rw [getD_set_ne _ hij,getD_set_ne _ (fun e=>hij (kyr (p3 i hi) (p3 j hj) e))]
  exact h.eq j hj
theorem kwy (hb:backw l=true) {listed:Array Bool} (hsz:listed.size=l.length) (hr:Region.ready .any l.toArray listed=[]):∀ i,i<l.length->listed.getD i false=true:=by
 intro i
 induction i using Nat.strongRecOn with
 | _ i ih=>
  intro hi
  cases hl:listed.getD i false with
  | true=>rfl
  | false=>
   have:i∈Region.ready .any l.toArray listed:=mem_ready.2 ⟨by rw [kmg (by omega) true false]; exact hl,l[i],by simp,fun e he hbd=>by
    have hlt:=kpZ hb (jae hi) e he hbd
    exact ih e.on hlt (by omega)⟩
   rw [hr] at this; cases this
theorem krB (hp:kgv l.length ps=true) (hb:backw l=true):∀ (σ:List Nat) (listed listed':Array Bool),Lst l.length ps listed listed'->Legal l.toArray listed σ->RespS ex listed σ->Legal (permL l ps ex).toArray listed' (σ.map (posOf ps))
 | [],listed,listed',hl,h,_=>by
  obtain ⟨p1,p2,p3,p4⟩:=kcG hp
  show Region.ready .any _ _=[]
  have hall:=kwy hb hl.s h
  refine jcs.2 fun k hk=>?_
  obtain ⟨h1,o,h2,_⟩:=mem_ready.1 hk
  have hkl:k<l.length:=by have:=(jak.1 h2).1; simpa [kko hp] using this
  have hm:ps[k]'(by omega)∈ps:=List.getElem_mem _
  have hpk:posOf ps (ps[k]'(by omega))=k:=by
   have:=kpV hm
   exact ((List.getElem?_inj (i:=k) (j:=posOf ps (ps[k]'(by omega))) (by rw [p1]; exact hkl) p4).1 (by rw [this]; exact (jae (by omega)))).symm
  have h3:=hl.eq _ (p2 _ hm)
  rw [hpk,hall _ (p2 _ hm),kmg (by have:=hl.s'; omega) false true,h1] at h3
  cases h3
 | i :: σ,listed,listed',hl,h,hr=>by
  obtain ⟨p1,p2,p3,p4⟩:=kcG hp
  obtain ⟨h1,o,h2,h3⟩:=mem_ready.1 h.1
  have ho:l[i]?=some o:=by simpa using h2
  have hil:=(jad.1 ho).1
  refine ⟨mem_ready.2 ⟨?_,_,by rw [jbv]; exact kqP hp ho,fun e he hbd=>?_⟩,krB hp hb σ _ _ (hl.set hp hil) h.2 hr.2⟩
  ·have:=knp (p3 i hil)
   rw [kmg (by have:=hl.s'; omega) true false,hl.eq i hil,kmg (by have:=hl.s; omega) false true]
   exact h1
  ·simp only [renO,List.mem_toArray,jaz,jay,jeb] at he
   rcases he with ⟨e',⟨he',hbd'⟩,rfl⟩ | ⟨x,⟨hx,hxi⟩,rfl⟩
   ·have he'':e'∈o.after:=by simpa using he'
    have hlt:=kpZ hb ho e' he'' hbd'
    show listed'.getD (posOf ps e'.on) false=true
    rw [hl.eq _ (by omega)]
    exact h3 e' he'' hbd'
   ·have:x.2=i:=by simpa using hxi
    have hh:=hr.1 x.1 (by rw [<-this]; exact hx)
    have hxl:x.1<l.length:=by
     rcases jdh x.1 listed.size with g | g
     ·rw [hl.s] at g; exact g
     ·rw [jaf,jdr g] at hh; cases hh
    show listed'.getD (posOf ps x.1) false=true
    rw [hl.eq _ hxl]
    exact hh
theorem ktw (hp:kgv l.length ps=true) (tmps:Array Value) (g:Nat):yielded (permL l ps ex).toArray tmps (posOf ps g)=yielded l.toArray tmps g:=by
 obtain ⟨p1,p2,p3,p4⟩:=kcG hp
 unfold yielded
 have:((permL l ps ex).toArray[posOf ps g]?).bind (·.dst)=(l.toArray[g]?).bind (·.dst):=by
  rw [jbv,jbv]
  cases ho:l[g]? with
  | some o=>rw [kqP hp ho]; rfl
  | none=>
   have hg:¬ g∈ps:=fun hm=>by have:=p2 g hm; rw [jae this] at ho; cases ho
   have:posOf ps g=ps.length:=List.idxOf_eq_length hg
   rw [this,jdv (by simp [permL])]
 rw [this]
theorem kvg {F:Fence} {n:Nat} {P:Program} {Q:Exit->Act->World->Prop} (hp:kgv l.length ps=true):∀ (σ:List Nat) (a:Act) (w:World),(∀ i∈σ,i<l.length)->wpOpsIn F n P (permL l ps ex).toArray Q (σ.map (posOf ps)) a w->wpOpsIn F n P l.toArray Q σ a w
 | [],a,w,_,h=>h
 | i :: σ,a,w,hi,h=>by
  rw [jap,wpOpsIn_cons] at h
  rw [wpOpsIn_cons]
  have h:=wpOpIn_mono (fun a w hh=>kvg hp σ a w (fun j hj=>hi j (jbb _ hj)) hh) h
  have ho:l[i]?=some (l[i]'(hi i (by simp))):=jae _
  unfold wpOpIn at h ⊢
  rw [jbv,kqP hp ho] at h
  rw [jbv,ho]
  simp only at h ⊢
  have hw:Region.wanted (renO ps ex i (l[i]'(hi i (by simp)))) (yielded (permL l ps ex).toArray a.tmps)=Region.wanted (l[i]'(hi i (by simp))) (yielded l.toArray a.tmps):=by
   unfold Region.wanted
   simp only [renO]
   cases (l[i]'(hi i (by simp))).guard with
   | none=>rfl
   | some g=>simp only [jcg]; rw [ktw hp]
  rw [hw] at h
  exact h
theorem ktW {ops:Array Oper}:∀ {σ:List Nat} {listed:Array Bool},Legal ops listed σ->∀ i∈σ,i<ops.size
 | [],_,_,i,hi=>by cases hi
 | j :: σ,listed,h,i,hi=>by
  rcases jbu.1 hi with rfl | hi
  ·obtain ⟨_,o,h2,_⟩:=mem_ready.1 h.1
   exact (jak.1 h2).1
  ·exact ktW h.2 i hi
end
section
variable {P:Program} {N:Nat} {D:DX} {O:Nat->Prop} {st:St} {Q:Exit->St->Prop} {l:List Oper}
def SatA (P:Program) (N:Nat) (D:DX) (O:Nat->Prop) (l:List Oper) (Q:Exit->St->Prop) (st:St):Prop:=
 ∀ O1,OKO D O O1->∀ ro μ a w,RO D ro w μ->SR N D O1 μ st a w->wpAnyIn (FF ro) 0 P .any l.toArray (Post N D O Q μ w st.n) l.length (Array.replicate l.length false) a w.drew
theorem Sat.drawV {id:Nat} (hm:P.follows .mixedOrders=true) (hb:backw l=true) {conf:List (Nat×Nat)->Option (Nat×Nat)} {f:Nat}
  (hv:∀ ex∈kie l.length conf f [],∃ ps,kgv l.length ps=true/\SatA P N D O (permL l ps ex) Q st):Sat P N D O (.region id l.toArray true) Q st:=by
 intro O1 o ro μ a w hro hs
 refine wpIn_region_draw fun t=>?_
 simp only [Region.schedule,hm,Bool.true_or,if_true,Region.linearise]
 have hg:=kpI (ops:=l.toArray) l.toArray.size t (Array.replicate l.toArray.size false) ⟨List.range l.toArray.size,by simp,fun i hi _=>jcj.2 hi⟩ (by simp)
 obtain ⟨hg1,hg2⟩:=hg
 have hsz:(Array.replicate l.toArray.size false).size=l.length:=by simp
 obtain ⟨ex,hex,hr⟩:=kmR (conf:=conf) f [] (RespS.nil (Region.linearise.go .any l.toArray l.toArray.size t (Array.replicate l.toArray.size false) []) (Array.replicate l.toArray.size false))
 rw [hsz] at hex
 obtain ⟨ps,hp,hA⟩:=hv ex hex
 have h:=hA O1 o ro μ a w hro hs
 refine kvg hp _ _ _ (fun i hi=>by simpa using ktW hg1 i hi) (kna _ _ _ _ _ ?_ (krB hp hb _ _ _ ⟨by simp,by simp [kko hp],fun i hi=>?_⟩ hg1 hr) h)
 ·rw [jar,kko hp]; simpa using hg2
 ·have h1:=knp ((kcG hp).2.2.1 i hi)
  have h2:=(kcG hp).1
  simp [jaf,kko hp,hi,show posOf ps i<l.length by omega]
theorem Sat.draw0 {id:Nat} (hm:P.follows .mixedOrders=true) (h:SatA P N D O l Q st):Sat P N D O (.region id l.toArray true) Q st:=by
 intro O1 o ro μ a w hro hs
 refine wpIn_region_draw fun t=>?_
 simp only [Region.schedule,hm,Bool.true_or,if_true,Region.linearise]
 have hg:=kpI (ops:=l.toArray) l.toArray.size t (Array.replicate l.toArray.size false) ⟨List.range l.toArray.size,by simp,fun i hi _=>jcj.2 hi⟩ (by simp)
 obtain ⟨hg1,hg2⟩:=hg
 exact kna _ _ _ _ _ (by simpa using hg2) (by simpa using hg1) (h O1 o ro μ a w hro hs)
theorem SatA.of_tree {W:Nat->Bool} {anc:Nat->List Nat} (hd:kcR l=true) (hdst:kaZ N l=true) (hanc:∀ i j,i∈anc j->Anc l i j) (hW:∀ w j,w<j->j<l.length->W w=true->Anc l w j)
  (ht:treeD P (l.map (·.dst)) W anc l 0 st [] fun st=>Q .normal st):SatA P N D O l Q st:=by
 intro O1 o ro μ a w _ hs
 obtain ⟨e1,hr1⟩:=hs.hr.drew
 have hs1:SR N D O1 μ ⟨st.env,st.h,st.n⟩ a w.drew:=hs.step hr1 e1
 have L:Can P l st W 0 (fun _=>st.env) (fun _=>.ud) (fun _=>false) st.h [] (fun _=>False):=⟨fun s=>rfl,fun j o hj=>by omega,fun j o hj=>by omega,fun j o hj=>by omega⟩
 obtain ⟨k',E',V',A',pd',env',g1,g2,g3,g4,g5,g6⟩:=Can.adv (anc:=anc) (K:=fun st=>Q .normal st) l.length 0 (n:=st.n) (env:=st.env) (by omega) L (fun s=>rfl) (by simpa using ht) (fun i hi=>hi.elim)
 refine kvm (D:=D) (O:=O1) (st0:=st) (K:=fun st=>Q .normal st) hd hdst hanc hW (μ0:=μ) (w0:=w) (fun cenv env h n μ' a' w' hk hl hs' he'=>⟨⟨cenv,h,n⟩,μ',O1,o,hk,⟨hs'.hr,hs'.size,hs'.defers,fun s=>?_,hs'.gs,hs'.gi.evo hs'.hr.refl fun _=>.inl (hl GS).symm⟩,he'.d⟩)
  _ _ (fun _=>False) k' E' V' A' pd' env' st.env st.h st.n μ a w.drew (by simp) (fun i hi=>by simp [jaf,hi]) (fun i h=>h.elim) g2 (fun j o _ h=>h.elim) ⟨fun s _=>rfl,fun s i oi h=>h.elim⟩ g3 g5 g6 hs1 e1 ⟨List.range l.length,by simp,fun i hi _=>jcj.2 hi⟩
 have:=hs'.env s
 rw [hl s] at this; exact this
end
section
variable {A:Alg} (P:Program) (c:Cx A) {ρ:Ty}
def kly (s:TS A) (T:TypeId) (v:TV A) (f:Nat) (K:TV A->TS A->A.Ans ρ):A.Ans ρ:=
 match fldO P T f with
 | none=>A.fail "fieldAddr type"
 | some (d,_)=>match v with
  | .ptr id j=>if (thp c s id).any kdp then K (.ptr id (j+d)) s else A.fail ""
  | .adr id i j=>if (thp c s id).any kdp then K (.adr id i (j+d)) s else A.fail ""
  | .fq t x o=>K (.fq t x (o+d)) s
  | .c (.pt t) x=>K (.fq t (A.k1 (x:=.pt t) (y:=t) "" (fun v=>v) x) d) s
  | _=>A.fail "fieldAddr"
def ktm (s:TS A) (T:TypeId) (v:TV A) (f:Nat) (K:TV A->TS A->A.Ans ρ):A.Ans ρ:=
 match fldO P T f with
 | none=>A.fail "field type"
 | some (d,ft)=>match aggO P ft with
  | none=>A.fail "field type"
  | some ag=>let m:=P.cellsOf ft
   match v with
   | .c t x=>if t.agg then partX t x d m ag fun v=>K v s else A.fail "field"
   | .ag vs=>if ag then (if d+m<=vs.length then K (.ag ((vs.drop d).take m)) s else A.fail "field") else match vs[d]? with
    | some v=>K v s
    | none=>A.fail "field"
   | _=>A.fail "field"
def kpw (s:TS A) (T:TypeId) (v i:TV A) (K:TV A->TS A->A.Ans ρ):A.Ans ρ:=
 match keM i with
 | none=>A.fail "index kind"
 | some i=>match v with
  | .c (.sl t) l=>if elemO P T=none\/(elemO P T).map P.cellsOf≠some t.wd\/t.wd=0 then A.fail "index type" else A.p2 (x:=.sl t) (y:=.i .i64) (z:=t) "" (fun l i=>gi l i) l i fun y=>K (.fq t y 0) s
  | .mw id=>match thp c s id,elemO P T with
   | some (.sl _ t l),some e=>if t.wd=P.cellsOf e/\t.wd≠0 then A.p2 (x:=.sl t) (y:=.i .i64) (z:=t) "" (fun l i=>gi l i) l i fun _=>K (.adr id i 0) s else A.fail "index width"
   | _,_=>A.fail ""
  | .ms id off len=>match thp c s id,elemO P T with
   | some (.sl _ t l),some e=>if t.wd=P.cellsOf e/\t.wd≠0 then A.p3 (x:=.i .i64) (y:=.i .i64) (z:=.i .i64) (u:=.i .i64) "" (fun o n i=>gmi o n i) off len i fun j=>K (.adr id j 0) s else A.fail "index width"
   | _,_=>A.fail ""
  | .ptr id j=>if j≠0 then A.fail "index array" else match thp c s id,arrO P T with
   | some (.el _ (.ar n t) x),some (m,e)=>if m=n/\t.wd=1/\P.cellsOf e=1 then A.p2 (x:=.ar n t) (y:=.i .i64) (z:=t) "" (fun l i=>garr l i) x i fun _=>K (.aa id i) s else A.fail "index array"
   | _,_=>A.fail ""
  | _=>A.fail "indexAddr"
def idxAg (s:TS A) (m:Nat) (ag:Bool) (vs:List (TV A)) (i:A.D (.i .i64)) (K:TV A->TS A->A.Ans ρ):Nat->Nat->A.Ans ρ
 | 0,_=>A.stop
 | f+1,k=>A.ite (A.k1 (x:=.i .i64) (y:=.b) (""++toString k++ "") (fun (i:Int)=>decide (i=(k:Int))) i)
   (match ag with
    | true=>K (.ag ((vs.drop (k*m)).take m)) s
    | false=>match vs[k*m]? with
     | some v=>K v s
     | none=>A.fail "index of a value")
   (idxAg s m ag vs i K f (k+1))
def idxX (s:TS A) (T:TypeId) (v i:TV A) (K:TV A->TS A->A.Ans ρ):A.Ans ρ:=
 match v with
 | .c .s l=>match getI i with
  | none=>A.fail "index kind"
  | some ⟨k,i⟩=>if kiC P T then A.p2 (x:=.s) (y:=.i k) (z:=.i .u8) "" gstr l i fun y=>K (.c (.i .u8) y) s else A.fail "index type"
 | v=>match keM i with
 | none=>A.fail "index kind"
 | some i=>match v with
  | .c (.ar n t) x=>match arrO P T with
   | some (m,e)=>if m=n/\t.wd=P.cellsOf e/\t.wd≠0/\aggO P e=some t.agg then A.p2 (x:=.ar n t) (y:=.i .i64) (z:=t) "" (fun l i=>garr l i) x i fun y=>K (.c t y) s else A.fail "index array"
   | none=>A.fail "index array"
  | .ag vs=>match arrO P T with
   | some (m,e)=>match aggO P e with
    | some ag=>if P.cellsOf e≠0/\vs.length=m*P.cellsOf e then idxAg s (P.cellsOf e) ag vs i K m 0 else A.fail "index value"
    | none=>A.fail "index value"
   | none=>A.fail "index value"
  | _=>A.fail "index"
def lenX (s:TS A) (T:TypeId) (v:TV A) (K:TV A->TS A->A.Ans ρ):A.Ans ρ:=
 match v with
 | .c (.sl t) l=>if (elemO P T).isSome then K (.c (.i .i64) (A.k1 (x:=.sl t) (y:=.i .i64) "" (fun l=>lenI l) l)) s else A.fail "len type"
 | .mw id=>match thp c s id with
  | some (.sl _ t l)=>if (elemO P T).isSome then K (.c (.i .i64) (A.k1 (x:=.sl t) (y:=.i .i64) "" (fun l=>lenI l) l)) s else A.fail "len type"
  | _=>A.fail ""
 | .ms id _ len=>match thp c s id with
  | some (.sl _ _ _)=>if (elemO P T).isSome then K (.c (.i .i64) len) s else A.fail "len type"
  | _=>A.fail ""
 | .sc u=>if kbS u/\(elemO P T).isSome then K (.c (.i .i64) (toI A 0 .i64)) s else A.fail "len type"
 | .c .s l=>if kiC P T then K (.c (.i .i64) (A.k1 (x:=.s) (y:=.i .i64) "" (fun l=>lenI l) l)) s else A.fail "len type"
 | .mp id=>match thp c s id with
  | some (.mp k v l)=>if kux P T then K (.c (.i .i64) (A.k1 (x:=.sl (.pr k v)) (y:=.i .i64) "" (fun l=>lenI l) l)) s else A.fail "len type"
  | _=>A.fail ""
 | _=>A.fail "len"
def loD (lo:Option (TV A)):Option (A.D (.i .i64)):=
 match lo with
 | none=>some (toI A 0 .i64)
 | some v=>keM v
def hiD (hi:Option (TV A)) (n:A.D (.i .i64)):Option (A.D (.i .i64)):=
 match hi with
 | none=>some n
 | some v=>keM v
def ksX (s:TS A) (T:TypeId) (v:TV A) (lo hi:Option (TV A)) (K:TV A->TS A->A.Ans ρ):A.Ans ρ:=
 match loD lo with
 | none=>A.fail "slice bounds"
 | some lo=>
  match v with
  | .c (.sl t) l=>match hiD hi (A.k1 (x:=.sl t) (y:=.i .i64) "" (fun l=>lenI l) l),elemO P T with
   | some hi,some e=>if t.wd=P.cellsOf e/\(P.info? e).isSome/\s.dy=false then A.p3 (x:=.sl t) (y:=.i .i64) (z:=.i .i64) (u:=.sl t) "" (fun l a b=>gsl l a b) l lo hi fun y=>K (.c (.sl t) y) s else A.fail "slice type"
   | _,_=>A.fail "slice bounds"
  | .mw id=>match thp c s id with
   | some (.sl _ t l)=>match hiD hi (A.k1 (x:=.sl t) (y:=.i .i64) "" (fun l=>lenI l) l),elemO P T with
    | some hi,some e=>if t.wd=P.cellsOf e/\t.wd≠0/\(P.info? e).isSome then A.p3 (x:=.sl t) (y:=.i .i64) (z:=.i .i64) (u:=.sl t) "" (fun l a b=>gsl l a b) l lo hi fun _=>
      K (.ms id lo (A.k2 (x:=.i .i64) (y:=.i .i64) (z:=.i .i64) "" (fun (a b:Int)=>a-b) hi lo)) s else A.fail "slice type"
    | _,_=>A.fail "slice bounds"
   | _=>A.fail ""
  | .ms id off len=>match thp c s id with
   | some (.sl _ t _)=>match hiD hi len,elemO P T with
    | some hi,some e=>if t.wd=P.cellsOf e/\t.wd≠0/\(P.info? e).isSome then A.p3 (x:=.i .i64) (y:=.i .i64) (z:=.i .i64) (u:=.un) "" (fun n a b=>gmb n a b) len lo hi fun _=>
      K (.ms id (A.k2 (x:=.i .i64) (y:=.i .i64) (z:=.i .i64) "" (fun (a b:Int)=>a+b) off lo) (A.k2 (x:=.i .i64) (y:=.i .i64) (z:=.i .i64) "" (fun (a b:Int)=>a-b) hi lo)) s else A.fail "slice type"
    | _,_=>A.fail "slice bounds"
   | _=>A.fail ""
  | .c .s l=>match hiD hi (A.k1 (x:=.s) (y:=.i .i64) "" (fun l=>lenI l) l) with
   | some hi=>if kiC P T then A.p3 (x:=.s) (y:=.i .i64) (z:=.i .i64) (u:=.s) "" (fun l a b=>gsl l a b) l lo hi fun y=>K (.c .s y) s else A.fail "slice type"
   | none=>A.fail "slice bounds"
  | _=>A.fail "slice"
def srcX (s:TS A) (t:Ty) (v:TV A):Option (A.D (.sl t)×List Nat):=
 match v with
 | .c _ _=>if s.dy then none else snapV c s (.sl t) v
 | .fw _=>none
 | v=>snapV c s (.sl t) v
def appX (s:TS A) (T T2:TypeId) (d v:TV A) (K:TV A->TS A->A.Ans ρ):A.Ans ρ:=
 match elemO P T with
 | none=>A.fail "append type"
 | some e=>match tyOf P e,zeroO P e with
  | some t,some z=>
   if klv P T2/\z.length=t.wd/\t.wd≠0/\P.bytesOf e<=1024 then
    match srcX c s t v with
    | none=>A.fail "append source"
    | some (xs,ids)=>
     let go:=fun (s:TS A) (l:A.D (.sl t))=>A.p2 (x:=.sl t) (y:=.sl t) (z:=.sl t) "" (fun a b=>gapp a b) l xs fun l'=>newSl s e t l' K
     match d with
     | .mw id=>match alk s.hp id with
      | some (some (.sl e' t' l))=>if e'=e/\¬ id∈ids then match tcast (.sl t) l with
        | some l=>go { s with hp:=(id,none)::s.hp } l
        | none=>A.fail "append elem"
       else A.fail "append elem"
      | _=>A.fail ""
     | .sc u=>if kbS u then go s (A.k0 (x:=.sl t) "" []) else A.fail "append"
     | _=>A.fail "append"
   else A.fail "append plain"
  | _,_=>A.fail "append elem type"
def copyX (s:TS A) (T:TypeId) (d v:TV A) (K:TV A->TS A->A.Ans ρ):A.Ans ρ:=
 match elemO P T with
 | none=>A.fail "copy type"
 | some e=>match tyOf P e,zeroO P e with
  | some t,some z=>
   if z.length=t.wd/\t.wd≠0 then
    match srcX c s t v with
    | none=>A.fail "copy source"
    | some (xs,_)=>
     let nn:=fun (len:A.D (.i .i64))=>A.k2 (x:=.i .i64) (y:=.i .i64) (z:=.i .i64) "" (fun (a b:Int)=>if b<a then b else a) (A.k1 (x:=.sl t) (y:=.i .i64) "" (fun l=>lenI l) xs) len
     match d with
     | .mw id=>match alk s.hp id with
      | some (some (.sl e' t' l))=>match tcast (.sl t) l with
       | some l=>K (.c (.i .i64) (nn (A.k1 (x:=.sl t) (y:=.i .i64) "" (fun l=>lenI l) l))) { s with hp:=(id,some (.sl e' t (A.k2 (x:=.sl t) (y:=.sl t) (z:=.sl t) "" (fun l xs=>lcopy l 0 (lenI l) xs) l xs)))::s.hp }
       | none=>A.fail "copy elem"
      | _=>A.fail ""
     | .ms id off len=>match alk s.hp id with
      | some (some (.sl e' t' l))=>match tcast (.sl t) l with
       | some l=>K (.c (.i .i64) (nn len)) { s with hp:=(id,some (.sl e' t (A.k3 (x:=.sl t) (y:=.pr (.i .i64) (.i .i64)) (z:=.sl t) (u:=.sl t) "" (fun l p xs=>lcopy l p.1 p.2 xs) l (A.k2 (x:=.i .i64) (y:=.i .i64) (z:=.pr (.i .i64) (.i .i64)) "" Prod.mk off len) xs)))::s.hp }
       | none=>A.fail "copy elem"
      | _=>A.fail ""
     | .sc u=>if kbS u then K (.c (.i .i64) (toI A 0 .i64)) s else A.fail "copy"
     | _=>A.fail "copy"
   else A.fail "copy plain"
  | _,_=>A.fail "copy elem type"
def mmX (mx:Bool) (s:TS A) (x y:TV A) (K:TV A->TS A->A.Ans ρ):A.Ans ρ:=
 match x,y with
 | .c (.i k) a,.c (.i k') b=>if k=k' then K (.c (.i k) (if mx then A.k2 (x:=.i k) (y:=.i k') (z:=.i k) "" (fun (a b:Int)=>if a<b then b else a) a b else A.k2 (x:=.i k) (y:=.i k') (z:=.i k) "" (fun (a b:Int)=>if b<a then b else a) a b)) s else A.fail "minmax"
 | _,_=>A.fail "minmax"
def imax (a b:Int):Int:=if a<b then b else a
def imin (a b:Int):Int:=if b<a then b else a
def TV.has (id:Nat):TV A->Bool
 | .ptr i _=>i==id
 | .adr i _ _=>i==id
 | .aa i _=>i==id
 | .mw i=>i==id
 | .ms i _ _=>i==id
 | .mp i=>i==id
 | .fw i=>i==id
 | .fr i _=>i==id
 | .fo i _ _=>i==id
 | .fa i _ _ _=>i==id
 | .yl i=>i==id
 | .kp i=>i==id
 | .fn _ vs=>hasL vs
 | .tp vs=>hasL vs
 | .ag vs=>hasL vs
 | _=>false
where hasL:List (TV A)->Bool
 | []=>false
 | v::vs=>v.has id||hasL vs
def TB.has (id:Nat):TB A->Bool
 | .bx _ vs=>TV.has.hasL id vs
 | _=>false
def Cx.has (c:Cx A) (id:Nat):Bool:=(alk c.g id).isSome||c.e0.any (fun x=>x.2.has id)||c.g.any (fun x=>x.2.has id)
mutual
def pvT:TV A->PV
 | .c t _=>.c t
 | .kb _=>.c .b
 | .sc v=>.sc v
 | .ptr i j=>.ptr i j
 | .mw i=>.mw i
 | .mp i=>.mp i
 | .fw i=>.fw i
 | .fn g cs=>.fn g (pvTs cs)
 | .ag vs=>.ag (pvTs vs)
 | .ud=>.ud
 | .gs t _=>.gs t
 | .cv n x y _=>.c (.fn n x y)
 | _=>.un
def pvTs:List (TV A)->List PV
 | []=>[]
 | v::vs=>pvT v::pvTs vs
end
def pbT:TB A->PB
 | .bx T vs=>.bx T (pvTs vs)
 | .el T t _=>.el T t
 | .sl T t _=>.sl T t
 | .mp k v _=>.mp k v
 | .fm T t j U u _ _=>.fm T t j U u
 | .si _=>.si
mutual
def TV.ids:TV A->List Nat
 | .ptr i _=>[i]
 | .adr i _ _=>[i]
 | .aa i _=>[i]
 | .mw i=>[i]
 | .ms i _ _=>[i]
 | .mp i=>[i]
 | .fw i=>[i]
 | .fr i _=>[i]
 | .fo i _ _=>[i]
 | .fa i _ _ _=>[i]
 | .yl i=>[i]
 | .kp i=>[i]
 | .fn _ vs=>TV.idsL vs
 | .tp vs=>TV.idsL vs
 | .ag vs=>TV.idsL vs
 | _=>[]
def TV.idsL:List (TV A)->List Nat
 | []=>[]
 | v::vs=>v.ids++TV.idsL vs
end
def askX (s:TS A) (g:Nat) (args:List (TV A)):A.Ans ρ:=
 match args.any fun v=>match v with | .sc (.pointer none)=>true | _=>false with
 | true=>A.stop
 | false=>match c.g.find? fun x=>args.any (fun v=>v.has x.1)||s.hp.any (fun y=>y.2.any fun b=>b.has x.1) with
 | some x=>A.fail ""
 | none=>match (args.flatMap fun v=>v.ids++v.ids.flatMap fun i=>match thp c s i with | some (.bx _ vs)=>TV.idsL vs | _=>[]).find? fun i=>(thp c s i).isNone with
 | some i=>A.fail ""
 | none=>A.ask g (args.zipIdx.map fun x=>(x.2,pvT x.1)) (s.hp.filterMap fun x=>x.2.map fun b=>(x.1,pbT b))
def askR (s:TS A):A.Ans ρ:=A.ask 1000000 ((s.env++c.e0).map fun x=>(x.1,pvT x.2)) ((s.hp.filterMap fun x=>x.2.map fun b=>(x.1,pbT b))++c.g.map fun x=>(x.1,pbT x.2))
structure Mt (A:Alg) where
 ids:List (Nat×Nat)
 cs:List ((t:Ty)×A.D t)
 sn:List Nat
def Mt.bindId (m:Mt A) (p q:Nat):Option (Mt A):=
 match alk m.ids p with
 | some q'=>if q=q' then some m else none
 | none=>if m.ids.all fun x=>x.2 != q then some { m with ids:=(p,q)::m.ids } else none
mutual
def mtV (s:TS A):PV->TV A->Mt A->Option (Mt A)
 | .un,_,m=>some m
 | .ud,.ud,m=>some m
 | .gs t,.gs t' l,m=>(tcast (.sl t) l).map fun y=>{ m with cs:=m.cs++[⟨.sl t,y⟩] }
 | .c t,v,m=>(snapV c s t v).map fun y=>{ m with cs:=m.cs++[⟨t,y.1⟩],sn:=m.sn++y.2 }
 | .sc u,.sc v,m=>if (kbS u/\kbS v)\/(klj u/\klj v) then some m else none
 | .ptr p j,.ptr q j',m=>if j=j' then m.bindId p q else none
 | .mw p,.mw q,m=>m.bindId p q
 | .mp p,.mp q,m=>m.bindId p q
 | .fw p,.fw q,m=>m.bindId p q
 | .fn g vs,.fn g' us,m=>if g=g' then mtL s vs us m else none
 | .ag vs,.ag us,m=>mtL s vs us m
 | _,_,_=>none
def mtL (s:TS A):List PV->List (TV A)->Mt A->Option (Mt A)
 | [],[],m=>some m
 | v::vs,u::us,m=>(mtV s v u m).bind fun m=>mtL s vs us m
 | _,_,_=>none
end
def mtB (s:TS A) (p:PB) (b:TB A) (m:Mt A):Option (Mt A):=
 match p,b with
 | .bx T vs,.bx T' us=>if T=T' then mtL c s vs us m else none
 | .el T t,.el T' t' x=>if T=T' then (tcast t x).map fun x=>{ m with cs:=m.cs++[⟨t,x⟩] } else none
 | .sl T t,.sl T' t' l=>if T=T' then (tcast (.sl t) l).map fun x=>{ m with cs:=m.cs++[⟨.sl t,x⟩] } else none
 | .mp k v,.mp k' v' l=>(tcast (.sl (.pr k v)) l).map fun x=>{ m with cs:=m.cs++[⟨.sl (.pr k v),x⟩] }
 | .fm T t j U u,.fm T' t' j' U' u' l none=>if T=T'/\j=j'/\U=U'/\u=u' then (tcast (.sl t) l).map fun x=>{ m with cs:=m.cs++[⟨.sl t,x⟩] } else none
 | .si,.si x=>some { m with cs:=m.cs++[⟨.pr .s (.i .i64),x⟩] }
 | _,_=>none
def mtE (s:TS A):List (Nat×PV)->Mt A->Option (Mt A)
 | [],m=>some m
 | (x,p)::r,m=>(mtV c s p (tlk c s x) m).bind fun m=>mtE s r m
def mtI (m:Mt A) (id:Nat):Option (Mt A):=if (alk m.ids id).isNone&&c.has id then m.bindId id id else some m
def mtH (s:TS A):List (Nat×PB)->Mt A->Option (Mt A)
 | [],m=>some m
 | (id,p)::r,m=>(mtI c m id).bind fun m=>match alk m.ids id with
  | none=>none
  | some q=>match alk s.hp q with
   | some (some b)=>(mtB c s p b m).bind fun m=>mtH s r m
   | _=>none
def pack (N:Nat) (p:Pat) (s:TS A):Option (A.D p.ty):=
 (mtE c s p.env ⟨[],[],[]⟩).bind fun m=>(mtH c s p.hp m).bind fun m=>
  if m.sn.all (fun q=>(ownB s q).isSome&&!c.has q&&m.ids.all fun x=>x.2 != q)&&m.ids.all (fun x=>decide (x.1<N))&&m.ids.all (fun x=>decide (x.1=x.2)||((alk p.hp x.1).isSome&&!c.has x.1)) then mkT A p.tys m.cs else none
def packM (N:Nat) (p:Pat) (s:TS A) (i0:List Nat:=[]):Option (Mt A):=
 (mtE c s p.env ⟨i0.map fun i=>(i,i),[],[]⟩).bind fun m=>(mtH c s p.hp m).bind fun m=>
  if m.ids.all (fun x=>decide (x.1<N)) then some m else none
mutual
def unV:PV->List ((t:Ty)×A.D t)->TV A×List ((t:Ty)×A.D t)
 | .c _,x::xs=>(.c x.1 x.2,xs)
 | .c _,[]=>(.un,[])
 | .gs t,x::xs=>(match tcast (.sl t) x.2 with | some y=>.gs t y | none=>.un,xs)
 | .gs _,[]=>(.un,[])
 | .un,xs=>(.un,xs)
 | .ud,xs=>(.ud,xs)
 | .sc v,xs=>(.sc v,xs)
 | .ptr p j,xs=>(.ptr p j,xs)
 | .mw p,xs=>(.mw p,xs)
 | .mp p,xs=>(.mp p,xs)
 | .fw p,xs=>(.fw p,xs)
 | .fn g vs,xs=>let r:=unL vs xs; (.fn g r.1,r.2)
 | .ag vs,xs=>let r:=unL vs xs; (.ag r.1,r.2)
def unL:List PV->List ((t:Ty)×A.D t)->List (TV A)×List ((t:Ty)×A.D t)
 | [],xs=>([],xs)
 | v::vs,xs=>let r:=unV v xs; let q:=unL vs r.2; (r.1::q.1,q.2)
end
def unB:PB->List ((t:Ty)×A.D t)->Option (TB A)×List ((t:Ty)×A.D t)
 | .bx T vs,xs=>let r:=unL vs xs; (some (.bx T r.1),r.2)
 | .el T t,x::xs=>((tcast t x.2).map fun y=>.el T t y,xs)
 | .sl T t,x::xs=>((tcast (.sl t) x.2).map fun y=>.sl T t y,xs)
 | .mp k v,x::xs=>((tcast (.sl (.pr k v)) x.2).map fun y=>.mp k v y,xs)
 | .fm T t j U u,x::xs=>((tcast (.sl t) x.2).map fun y=>.fm T t j U u y none,xs)
 | .si,x::xs=>((tcast (.pr .s (.i .i64)) x.2).map fun y=>.si y,xs)
 | _,[]=>(none,[])
def unE:List (Nat×PV)->List ((t:Ty)×A.D t)->List (Nat×TV A)×List ((t:Ty)×A.D t)
 | [],xs=>([],xs)
 | (k,v)::vs,xs=>let r:=unV v xs; let q:=unE vs r.2; ((k,r.1)::q.1,q.2)
def unH:List (Nat×PB)->List ((t:Ty)×A.D t)->List (Nat×Option (TB A))×List ((t:Ty)×A.D t)
 | [],xs=>([],xs)
 | (k,v)::vs,xs=>let r:=unB v xs; let q:=unH vs r.2; ((k,r.1)::q.1,q.2)
def kak (p:Pat) (n:Nat) (l:List ((t:Ty)×A.D t)):TS A:=
 let e:=unE p.env l
 let h:=unH p.hp e.2
 ⟨e.1,h.1,n,true⟩
def kad (p:Pat) (n:Nat) (x:A.D p.ty):TS A:=
 let l:=unT A p.tys x
 let e:=unE p.env l
 let h:=unH p.hp e.2
 ⟨e.1,h.1,n,true⟩
mutual
def renV (f:Nat->Nat):TV A->TV A
 | .ptr i j=>.ptr (f i) j
 | .adr i x j=>.adr (f i) x j
 | .aa i x=>.aa (f i) x
 | .mw i=>.mw (f i)
 | .ms i a b=>.ms (f i) a b
 | .mp i=>.mp (f i)
 | .fw i=>.fw (f i)
 | .fr i x=>.fr (f i) x
 | .fo i x j=>.fo (f i) x j
 | .fa i x k o=>.fa (f i) x k o
 | .yl i=>.yl (f i)
 | .kp i=>.kp (f i)
 | .fn g vs=>.fn g (renL f vs)
 | .tp vs=>.tp (renL f vs)
 | .ag vs=>.ag (renL f vs)
 | v=>v
def renL (f:Nat->Nat):List (TV A)->List (TV A)
 | []=>[]
 | v::vs=>renV f v::renL f vs
end
def renB (f:Nat->Nat):TB A->TB A
 | .bx T vs=>.bx T (renL f vs)
 | b=>b
def pureV:List (Option Ty)->List (TV A)->List (TV A)
 | some _::ks,v::vs=>v::pureV ks vs
 | none::ks,_::vs=>pureV ks vs
 | _,_=>[]
def TV.all (f w:Nat->Bool):TV A->Bool
 | .un=>false
 | .ptr i _=>f i
 | .adr i _ _=>f i&&w i
 | .aa i _=>f i&&w i
 | .mw i=>f i&&w i
 | .ms i _ _=>f i&&w i
 | .mp i=>f i
 | .fw i=>f i&&w i
 | .fr _ _=>false
 | .fo i _ _=>f i&&w i
 | .fa _ _ _ _=>false
 | .gs _ _=>false
 | .yl _=>false
 | .kp _=>false
 | .fn _ vs=>allL vs
 | .tp vs=>allL vs
 | .ag vs=>allL vs
 | _=>true
where allL:List (TV A)->Bool
 | []=>true
 | v::vs=>v.all f w&&allL vs
def TB.all (f w:Nat->Bool):TB A->Bool
 | .bx _ vs=>TV.all.allL f w vs
 | .fm _ _ _ _ _ _ ho=>ho.isNone
 | _=>true
def TB.needL:TB A->Bool
 | .sl _ _ _=>true
 | .el _ (.ar _ _) _=>true
 | .fm _ _ _ _ _ _ _=>true
 | _=>false
def kts:PV->PV->Nat->Bool
 | .ptr i j,.ptr i' j',p=>i==p&&i'==p&&j==j'
 | .mp i,.mp i',p=>i==p&&i'==p
 | _,_,_=>false
def sameW:PV->PV->Nat->Bool
 | .mw i,.mw i',p=>i==p&&i'==p
 | _,_,_=>false
def CtrM.slot (C:CtrM) (f:PV->PV->Nat->Bool) (i:Nat):Bool:=
 (alk C.inp.hp i).isSome&&C.inp.env.any (fun y=>decide (y.1<C.ks.length)&&match alk C.inp.env y.1,alk C.out.env y.1 with | some u,some v=>f u v i | _,_=>false)
def CtrM.inn (C:CtrM):List Nat:=(C.inp.hp.filter fun x=>(alk C.out.hp x.1).isSome).map (·.1)
def CtrM.keptW (C:CtrM) (i:Nat):Bool:=decide (C.n0<=i)||C.slot sameW i||C.inn.contains i
def CtrM.kept (C:CtrM) (i:Nat):Bool:=C.keptW i||C.slot kts i||C.inn.contains i
def CtrM.ok (C:CtrM):Bool:=
 decide (C.n0<=C.n1)&&decide (C.ks.length<=1000000)&&C.inp.hp.all (fun x=>decide (x.1<C.n0))
def CtrM.okU (C:CtrM) (u:TS A):Bool:=
 let has:=fun i=>(alk u.hp i).isSome
 u.hp.all (fun x=>match x.2 with
  | some b=>decide (x.1<C.n1)&&b.all has C.keptW&&C.kept x.1&&(!b.needL||C.keptW x.1)
  | none=>false)
 && (List.range C.nr).all (fun i=>match alk u.env (1000000+i) with
  | some v=>v.all has C.keptW
  | none=>false)
def TV.flt:TV A->Bool
 | .c t _=>t.flat
 | .un=>false
 | .ud=>false
 | .fq _ _ _=>false
 | .gs _ _=>false
 | .yl _=>false
 | .kp _=>false
 | .cv _ _ _ _=>false
 | .fn _ vs=>fltL vs
 | .tp vs=>fltL vs
 | .ag vs=>fltL vs
 | _=>true
where fltL:List (TV A)->Bool
 | []=>true
 | v::vs=>v.flt&&fltL vs
def cellF:Ty->List Nat
 | .i _ | .b | .s=>[0]
 | .un=>[]
 | .w x=>cellF x
 | .pr x y=>cellF x++cellF y
 | .sl x=>[if x.flat then 1 else 2]
 | .pt _ | .op _=>[2]
 | .ar n x=>List.replicate (n*x.wd) 2
 | _=>[]
def TB.flt:TB A->Bool
 | .bx _ vs=>TV.flt.fltL vs
 | .el _ t _=>t.flat
 | .sl _ t _=>t.flat
 | .mp _ v _=>v.flat
 | .fm _ t j _ _ _ _=>(cellF t).zipIdx.all fun x=>x.1==0||(x.1==1&&x.2==j)
 | .si _=>true
def CtrM.okF (C:CtrM) (u:TS A):Bool:=
 u.hp.all (fun x=>match x.2 with
  | some b=>b.flt
  | none=>false)
 && (List.range C.nr).all (fun i=>match alk u.env (1000000+i) with
  | some v=>v.flt
  | none=>false)
def patE:List (Option Ty)->List (TV A)->Nat->List (Nat×TV A)
 | some _::ks,_::vs,i=>patE ks vs (i+1)
 | none::ks,v::vs,i=>(i,v)::patE ks vs (i+1)
 | _,_,_=>[]
def renC (C:CtrM) (ids:List (Nat×Nat)) (n:Nat) (p:Nat):Nat:=if p<C.n0 then (alk ids p).getD 0 else n+(p-C.n0)
def resT (C:CtrM) (u:TS A) (f:Nat->Nat):TV A:=
 match (List.range C.nr).map fun i=>renV f ((alk u.env (1000000+i)).getD .un) with
 | [v]=>v
 | vs=>.tp vs
def kgz (C:CtrM) (s u:TS A) (ids:List (Nat×Nat)):TS A:=
 ⟨s.env,u.hp.map (fun x=>(renC C ids s.n x.1,x.2.map (renB (renC C ids s.n))))++(ids.map fun x=>(x.2,none))++s.hp,s.n+(C.n1-C.n0),false⟩
def pickM (Δ:List (FuncId×Ctr)) (s:TS A) (args:List (TV A)):List CtrM->Option CtrM
 | []=>none
 | C::l=>if args.length=C.ks.length&&(kda c Δ s (C.ks.filterMap id) (pureV C.ks args)).isSome&&(packM ⟨[],c.g⟩ C.n0 C.inp ⟨patE C.ks args 0,s.hp,s.n,s.dy⟩).isSome then some C else pickM Δ s args l
def kjJ (Δ:List (FuncId×Ctr)) (s:TS A) (C:CtrM) (args:List (TV A)) (K:TV A->TS A->A.Ans ρ):A.Ans ρ:=
 if args.length≠C.ks.length||s.dy||!C.ok then A.fail "callM" else
 match kda c Δ s (C.ks.filterMap id) (pureV C.ks args) with
 | some (l,ids)=>match packM ⟨[],c.g⟩ C.n0 C.inp ⟨patE C.ks args 0,s.hp,s.n,s.dy⟩ with
  | some m=>if m.sn.isEmpty&&m.ids.all (fun x=>(ownB s x.2).isSome&&(alk C.inp.hp x.1).isSome&&(alk m.ids x.1==some x.2))&&ids.all (fun id=>m.ids.all fun x=>x.2 != id) then match mkT A (C.ks.filterMap id++C.inp.tys) (l++m.cs) with
    | some a=>A.p1 (x:=tup (C.ks.filterMap id++C.inp.tys)) (y:=C.out.ty) C.nm C.F a fun y=>
      let u:=kad C.out C.n1 y
      if C.okU u&&(ids.isEmpty||C.okF u) then K (resT C u (renC C m.ids s.n)) (kgz C s u m.ids) else A.fail "callM state"
    | none=>A.fail "callM types"
   else A.fail "callM frozen"
  | none=>A.fail "callM pattern"
 | _=>A.fail "callM plain arguments"
def fillT (pl:List (Nat×Nat)) (s:TS A):List (Nat×Operand)->List (TV A)->Option (List (TV A))
 | [],cs=>some cs
 | (i,x)::r,cs=>match pl[i]?,kaz (tev c s x) with
  | some (o,m),some xs=>if xs.length=m/\o+m<=cs.length then fillT pl s r (cs.take o++xs++cs.drop (o+m)) else none
  | _,_=>none
def ktf (s:TS A) (T:TypeId) (parts:List (Nat×Operand)) (K:TV A->TS A->A.Ans ρ):A.Ans ρ:=
 match zeroO P T,khY P 9 T,kjt P T with
 | some z,some Ts,some pl=>if z.length=Ts.length then
   let r:=zeroC P s z Ts
   match fillT c pl s parts r.1 with
   | some vs=>K (.ag vs) r.2
   | none=>A.fail "build parts"
  else A.fail "build cells"
 | _,_,_=>A.fail "build type"
def lstD (t:Ty):List (A.D t)->A.D (.sl t)
 | []=>A.k0 (x:=.sl t) "" []
 | x::xs=>A.k2 (x:=t) (y:=.sl t) (z:=.sl t) "" List.cons x (lstD t xs)
def knj (s:TS A) (t:Ty):List (Nat×Operand)->Nat->Option (List (A.D t)×List Nat)
 | [],_=>some ([],[])
 | (i,x)::r,j=>if i=j then (snapV c s t (tev c s x)).bind fun y=>(knj s t r (j+1)).map fun z=>(y.1::z.1,y.2++z.2) else none
def kkH (s:TS A) (T:TypeId) (len:Nat) (parts:List (Nat×Operand)) (K:TV A->TS A->A.Ans ρ):A.Ans ρ:=
 match elemO P T with
 | none=>A.fail "buildSlice type"
 | some e=>match tyOf P e,zeroO P e with
  | some t,some z=>if len<=1000/\z.length<=1000/\z.length=t.wd then
    if parts.length=len then match knj c s t parts 0 with
     | some (xs,ids)=>match retire s ids with
      | some s'=>newSl s' e t (lstD t xs) K
      | none=>A.fail "buildSlice retire"
     | none=>A.fail "buildSlice parts"
    else A.fail "buildSlice length"
   else A.fail "buildSlice"
  | _,_=>A.fail "buildSlice elem"
def kmf (s:TS A) (T:TypeId) (x y:TV A) (same:Bool) (K:TV A->TS A->A.Ans ρ):A.Ans ρ:=
 match elemO P T with
 | none=>A.fail "makeSlice type"
 | some e=>match tyOf P e,zeroO P e,x with
  | some t,some z,.c (.i .i64) n=>match zeroD t with
   | some z0=>if same/\(isZ t z).any List.isEmpty/\z.length=t.wd/\t.wd≠0/\P.bytesOf e<=1024 then A.p2 (x:=.i .i64) (y:=t) (z:=.sl t) "" (fun n z=>gmk n z) n z0 fun l=>newSl s e t l K else A.fail "makeSlice"
   | none=>A.fail "makeSlice zero"
  | _,_,_=>A.fail "makeSlice elem"
instance arrDec {n:Nat} {α:Type} [DecidableEq α]:DecidableEq (Arr n α):=fun a b=>
 match decEq a.l b.l with
 | .isTrue h=>.isTrue (by cases a; cases b; simp only at h; subst h; rfl)
 | .isFalse h=>.isFalse fun e=>h (by rw [e])
def isKey:Ty->Bool
 | .i _ | .s | .b=>true
 | .w a=>isKey a
 | .pr a b=>isKey a&&isKey b
 | .ar _ a=>isKey a
 | _=>false
def kbr:(k:Ty)->isKey k=true->DecidableEq k.den
 | .i _,_=>(inferInstance:DecidableEq Int)
 | .s,_=>(inferInstance:DecidableEq (List UInt8))
 | .b,_=>(inferInstance:DecidableEq Bool)
 | .w a,h=>kbr a h
 | .pr a b,h=>@instDecidableEqProd _ _ (kbr a (Bool.and_eq_true_iff.1 h).1) (kbr b (Bool.and_eq_true_iff.1 h).2)
 | .ar _ a,h=>@arrDec _ _ (kbr a h)
 | .un,h=>absurd h (by decide) | .nt,h=>absurd h (by decide) | .sl _,h=>absurd h Bool.false_ne_true | .pt _,h=>absurd h Bool.false_ne_true | .op _,h=>absurd h Bool.false_ne_true | .sm _ _,h=>absurd h Bool.false_ne_true | .fn _ _ _,h=>absurd h Bool.false_ne_true
def keyFs (P:Program) (rec_:TypeId->Ty->Bool):List Field->Nat->Ty->Bool
 | [],_,_=>false
 | [f],o,t=>f.name != "_"&&decide (f.offset=o)&&decide (P.cellsOf f.type=t.wd)&&decide (aggO P f.type=some t.agg)&&rec_ f.type t
 | f::g::fs,o,t=>match t with
  | .pr u v=>f.name != "_"&&decide (f.offset=o)&&decide (P.cellsOf f.type=u.wd)&&decide (aggO P f.type=some u.agg)&&rec_ f.type u&&keyFs P rec_ (g::fs) (o+u.wd) v
  | _=>false
def keyTF (P:Program):Nat->TypeId->Ty->Bool
 | 0,_,_=>false
 | d+1,T,t=>match P.underlying T with
  | some .bool=>decide (t = .b)
  | some (.int k)=>decide (t = .i k)
  | some .string=>decide (t = .s)
  | some (.struct fs)=>!P.stoodInHeld T&&match fs.toList,t with
   | [f],.w u=>keyFs P (keyTF P d) [f] 0 u
   | [_],_=>false
   | fs,t=>keyFs P (keyTF P d) fs 0 t
  | some (.array n e)=>match t with
   | .ar m u=>decide (m=n)&&decide (P.cellsOf e=u.wd)&&decide (aggO P e=some u.agg)&&keyTF P d e u
   | _=>false
  | _=>false
def keyT (P:Program) (kt:TypeId):Ty->Bool
 | .i k=>decide (intO P kt=some k)
 | .s=>kiC P kt
 | .b=>knV P kt
 | t=>t.agg&&decide (aggO P kt=some true)&&keyTF P 9 kt t
def mgetT (k:Ty) {β:Type} (l:List (k.den×β)) (x:k.den):Option β:=
 if h:isKey k=true then @mget _ _ (kbr k h) l x else none
def mputT (k:Ty) {β:Type} (l:List (k.den×β)) (x:k.den) (v:β):List (k.den×β):=
 if h:isKey k=true then @mput _ _ (kbr k h) l x v else l
def ment {κ β:Type} [DecidableEq κ] (l:List (κ×β)) (k:κ) (z:β):List (κ×β):=match mget l k with | some _=>l | none=>l++[(k,z)]
def midxN {κ β:Type} [DecidableEq κ] (k:κ):List (κ×β)->Nat
 | []=>0
 | p::r=>if k=p.1 then 0 else midxN k r+1
def midx {κ β:Type} [DecidableEq κ] (l:List (κ×β)) (k:κ):Int:=(midxN k l:Nat)
def mset {κ β:Type} (l:List (κ×β)) (i:Int) (v:β):List (κ×β):=match l[i.toNat]? with | some p=>l.set i.toNat (p.1,v) | none=>l
def mentT (k:Ty) {β:Type} (l:List (k.den×β)) (x:k.den) (z:β):List (k.den×β):=
 if h:isKey k=true then @ment _ _ (kbr k h) l x z else l
def midxT (k:Ty) {β:Type} (l:List (k.den×β)) (x:k.den):Int:=
 if h:isKey k=true then @midx _ _ (kbr k h) l x else 0
def zvOk (v:Ty) (u:Value):Bool:=match cst u with
 | .ag cs=>v.agg&&(isZ v cs).any List.isEmpty
 | .sc w=>!v.agg&&(isZ v [.sc w]).any List.isEmpty
 | _=>false
def kpp (s:TS A) (T:TypeId) (K:TV A->TS A->A.Ans ρ):A.Ans ρ:=
 match mapO P T with
 | some (k,v)=>match tyOf P k,tyOf P v with
  | some k,some v=>if isKey k/\v.flat then K (.mp s.n) { s with hp:=(s.n,some (.mp k v (A.k0 (x:=.sl (.pr k v)) "" [])))::s.hp,n:=s.n+1 } else A.fail "makeMap key"
  | _,_=>A.fail "makeMap elem"
 | none=>A.fail "makeMap type"
def krk (s:TS A) (T:TypeId) (m key:TV A) (ok:Bool) (K:TV A->TS A->A.Ans ρ):A.Ans ρ:=
 match m with
 | .mp id=>match thp c s id,mapO P T with
  | some (.mp k v l),some (kt,e)=>match snapV c s k key,zeroD (A:=A) v with
   | some (x,[]),some z=>
    let g:=A.k3 (x:=.sl (.pr k v)) (y:=k) (z:=v) (u:=v) "" (fun l x z=>(mgetT k l x).getD z) l x z
    if isKey k/\keyT P kt k/\v.flat/\((zvO P e).any (zvOk v)) then
     if ok then K (.tp [.c v g,.c .b (A.k2 (x:=.sl (.pr k v)) (y:=k) (z:=.b) "" (fun l x=>(mgetT k l x).isSome) l x)]) s else K (.c v g) s
    else A.fail "lookup type"
   | _,_=>A.fail "lookup key"
  | _,_=>A.fail ""
 | _=>A.fail "lookup"
def kqG (s:TS A) (T:TypeId) (m key x:TV A) (K:TV A->TS A->A.Ans ρ):A.Ans ρ:=
 match m with
 | .mp id=>match alk s.hp id,mapO P T with
  | some (some (.mp k v l)),some (kt,e)=>match snapV c s k key,snapV c s v x with
   | some (y,[]),some (z,[])=>if isKey k/\keyT P kt k then setB s id (.mp k v (A.k3 (x:=.sl (.pr k v)) (y:=k) (z:=v) (u:=.sl (.pr k v)) "" (fun l x z=>mputT k l x z) l y z)) K else A.fail "mapUpdate type"
   | _,_=>A.fail "mapUpdate value"
  | _,_=>A.fail ""
 | _=>A.fail "mapUpdate"
def krl (s:TS A) (T:TypeId) (m key:TV A) (K:TV A->TS A->A.Ans ρ):A.Ans ρ:=
 match m with
 | .mp id=>match alk s.hp id,mapO P T with
  | some (some (.mp k v l)),some (kt,e)=>match snapV c s k key,zeroD (A:=A) v with
   | some (x,[]),some z=>
    if isKey k/\keyT P kt k/\v.flat/\((zvO P e).any (zvOk v)) then
     K (.tp [.c v (A.k3 (x:=.sl (.pr k v)) (y:=k) (z:=v) (u:=v) "" (fun l x z=>(mgetT k l x).getD z) l x z),.c (.i .i64) (A.k2 (x:=.sl (.pr k v)) (y:=k) (z:=.i .i64) "" (fun l x=>midxT k l x) l x)])
      { s with hp:=(id,some (.mp k v (A.k3 (x:=.sl (.pr k v)) (y:=k) (z:=v) (u:=.sl (.pr k v)) "" (fun l x z=>mentT k l x z) l x z)))::s.hp }
    else A.fail "mapEntry type"
   | _,_=>A.fail "mapEntry key"
  | _,_=>A.fail ""
 | _=>A.fail "mapEntry"
def kuk (s:TS A) (m st x:TV A) (K:TV A->TS A->A.Ans ρ):A.Ans ρ:=
 match m with
 | .mp id=>match alk s.hp id with
  | some (some (.mp k v l))=>match keM st,snapV c s v x with
   | some i,some (z,[])=>A.p2 (x:=.sl (.pr k v)) (y:=.i .i64) (z:=.pr k v) "" (fun l i=>gi l i) l i fun _=>
     setB s id (.mp k v (A.k3 (x:=.sl (.pr k v)) (y:=.i .i64) (z:=v) (u:=.sl (.pr k v)) "" (fun l i z=>mset l i z) l i z)) K
   | _,_=>A.fail "entryStore value"
  | _=>A.fail ""
 | _=>A.fail "entryStore"
def callX (Δ:List (FuncId×Ctr)) (s:TS A) (f:TV A) (args:List (TV A)) (K:TV A->TS A->A.Ans ρ):A.Ans ρ:=
 match f with
 | .fn g caps=>match alk Δ g with
  | none=>askX c s g (args++caps)
  | some C=>match kda c Δ s C.as (args++caps) with
   | none=>askX c s g (args++caps)
   | some (l,ids)=>match mkT A C.as l with
    | none=>A.fail ""
    | some a=>
     if C.rs.all Ty.flat then A.p1 C.nm C.F a fun y=>K (tvR C.rs y) s
     else if s.dy then A.fail "" else match retire s ids with
      | none=>A.fail ""
      | some s'=>A.p1 C.nm C.F a fun y=>K (tvR C.rs y) { s' with dy:=false }
 | .cv n x y F=>if h:tup (untup n x)=x then match snapM c s (untup n x) args with
   | none=>A.fail ""
   | some (l,_)=>match mkT A (untup n x) l with
    | none=>A.fail ""
    | some a=>if y.flat then A.p2 (x:=.fn n x y) (y:=x) (z:=y) "" (fun F v=>F v) F (h ▸ a) fun z=>K (.c y z) s else A.fail ""
  else A.fail ""
 | _=>A.fail "call"
def kjV:Operand->Operand->Bool
 | .tmp a,.tmp b=>a==b
 | .const (.int k a),.const (.int k' b)=>a==b
 | _,_=>false
def hintT (Δ:List (FuncId×Ctr)) (T:TypeId):Bool:=(alk Δ (5000000+T)).isSome
def famO (e:TypeId):Option (Ty×Nat×TypeId×Ty):=
 match tyOf P e,khY P 9 e with
 | some t,some Ts=>match Ts.zipIdx.filterMap fun x=>(elemO P x.1).map fun U=>(x.2,U) with
  | [(j,U)]=>(tyOf P U).map fun u=>(t,j,U,u)
  | _=>none
 | _,_=>none
def rowD {A:Alg} (t u:Ty) (j:Nat) (y:A.D t):Option (A.D (.sl u)):=(comp t y j 1 false).bind fun p=>tcast (.sl u) p.2
def rowS {A:Alg} (t u:Ty) (j:Nat) (y:A.D t) (v:A.D (.sl u)):Option (A.D t):=setC (fun t'=>tcast t' v) t y j 1 false
def gsame (a b:Int):Option Unit:=if a=b then some () else none
mutual
def drpV (id:Nat):TV A->TV A
 | .adr i x j=>if i=id then .un else .adr i x j
 | .aa i x=>if i=id then .un else .aa i x
 | .mw i=>if i=id then .un else .mw i
 | .ms i a b=>if i=id then .un else .ms i a b
 | .fr i x=>if i=id then .un else .fr i x
 | .fa i x k o=>if i=id then .un else .fa i x k o
 | .fn g vs=>.fn g (drpL id vs)
 | .tp vs=>.tp (drpL id vs)
 | .ag vs=>.ag (drpL id vs)
 | v=>v
def drpL (id:Nat):List (TV A)->List (TV A)
 | []=>[]
 | v::vs=>drpV id v::drpL id vs
end
def drpB (id:Nat):TB A->TB A
 | .bx T vs=>.bx T (drpL id vs)
 | b=>b
def drpS (s:TS A) (id:Nat):TS A:=⟨s.env.map fun x=>(x.1,drpV id x.2),s.hp.map fun x=>(x.1,x.2.map (drpB id)),s.n,s.dy⟩
def ktY (s:TS A) (T:TypeId) (id:Nat) (i:TV A) (K:TV A->TS A->A.Ans ρ):A.Ans ρ:=
 match keM i,thp c s id,elemO P T with
 | some i,some (.fm _ t _ _ _ l _),some e=>if t.wd=P.cellsOf e/\t.wd≠0 then A.p2 (x:=.sl t) (y:=.i .i64) (z:=t) "" (fun l i=>gi l i) l i fun _=>K (.fo id i 0) s else A.fail "family index width"
 | _,_,_=>A.fail ""
def kut (s:TS A) (T:TypeId) (id:Nat) (a:A.D (.i .i64)) (k:TV A) (K:TV A->TS A->A.Ans ρ):A.Ans ρ:=
 match keM k,thp c s id,elemO P T with
 | some k,some (.fm _ t j _ u l none),some e=>if u.wd=P.cellsOf e/\u.wd≠0 then A.p2 (x:=.sl t) (y:=.i .i64) (z:=t) "" (fun l i=>gi l i) l a fun y=>match rowD t u j y with
   | some ys=>A.p2 (x:=.sl u) (y:=.i .i64) (z:=u) "" (fun l i=>gi l i) ys k fun _=>K (.fa id a k 0) s
   | none=>A.fail "row index cell"
  else A.fail "row index width"
 | _,_,_=>A.fail ""
def kuc (s:TS A) (T:TypeId) (id:Nat) (i:A.D (.i .i64)) (j:Nat) (f:Nat) (K:TV A->TS A->A.Ans ρ):A.Ans ρ:=
 match fldO P T f with
 | none=>A.fail "fieldAddr type"
 | some (d,_)=>if (thp c s id).any TB.isF then K (.fo id i (j+d)) s else A.fail "family field"
def ksv (s:TS A) (T:TypeId) (id:Nat) (a k:A.D (.i .i64)) (j:Nat) (f:Nat) (K:TV A->TS A->A.Ans ρ):A.Ans ρ:=
 match fldO P T f with
 | none=>A.fail "fieldAddr type"
 | some (d,_)=>if (thp c s id).any TB.isF then K (.fa id a k (j+d)) s else A.fail "row field"
def ksF (s:TS A) (T:TypeId) (id:Nat) (K:TV A->TS A->A.Ans ρ):A.Ans ρ:=
 match thp c s id,elemO P T with
 | some (.fm _ t _ _ _ l _),some _=>K (.c (.i .i64) (A.k1 (x:=.sl t) (y:=.i .i64) "" (fun l=>lenI l) l)) s
 | _,_=>A.fail ""
def kui (s:TS A) (T:TypeId) (id:Nat) (a:A.D (.i .i64)) (K:TV A->TS A->A.Ans ρ):A.Ans ρ:=
 match thp c s id,elemO P T with
 | some (.fm _ t j _ u l none),some _=>A.p2 (x:=.sl t) (y:=.i .i64) (z:=t) "" (fun l i=>gi l i) l a fun y=>match rowD t u j y with
   | some ys=>K (.c (.i .i64) (A.k1 (x:=.sl u) (y:=.i .i64) "" (fun l=>lenI l) ys)) s
   | none=>A.fail "row len cell"
 | _,_=>A.fail ""
def kqF (s:TS A) (T:TypeId) (id:Nat) (i:A.D (.i .i64)) (o:Nat) (K:TV A->TS A->A.Ans ρ):A.Ans ρ:=
 match aggO P T,thp c s id with
 | some ag,some (.fm _ t j _ _ l none)=>A.p2 (x:=.sl t) (y:=.i .i64) (z:=t) "" (fun l i=>gi l i) l i fun y=>
   if ag=false/\o=j then K (.fr id i) s
   else if o+P.cellsOf T<=j\/j<o then partX t y o (P.cellsOf T) ag fun v=>K v s
   else if ag=true/\t.noAr=true/\o+P.cellsOf T<=t.wd then K (.ag ((((kjy t y).set j (.fr id i)).drop o).take (P.cellsOf T))) s
   else A.fail "family load"
 | _,_=>A.fail ""
def kqW (s:TS A) (T:TypeId) (id:Nat) (a k:A.D (.i .i64)) (o:Nat) (K:TV A->TS A->A.Ans ρ):A.Ans ρ:=
 match aggO P T,thp c s id with
 | some ag,some (.fm _ t j _ u l none)=>A.p2 (x:=.sl t) (y:=.i .i64) (z:=t) "" (fun l i=>gi l i) l a fun y=>match rowD t u j y with
   | some ys=>A.p2 (x:=.sl u) (y:=.i .i64) (z:=u) "" (fun l i=>gi l i) ys k fun x=>partX u x o (P.cellsOf T) ag fun v=>K v s
   | none=>A.fail "row load cell"
 | _,_=>A.fail ""
def kpd (s:TS A) (T:TypeId) (id:Nat) (a k:A.D (.i .i64)) (o:Nat) (v:TV A) (K:TV A->TS A->A.Ans ρ):A.Ans ρ:=
 match aggO P T,ownB s id with
 | some ag,some (.fm T' t j U u l none)=>if P.cellsOf T=0 then A.fail "store nothing" else
   A.p2 (x:=.sl t) (y:=.i .i64) (z:=t) "" (fun l i=>gi l i) l a fun y=>match rowD t u j y with
   | some ys=>A.p2 (x:=.sl u) (y:=.i .i64) (z:=u) "" (fun l i=>gi l i) ys k fun x=>
    match setC (fun t=>(snapV c s t v).bind fun y=>if y.2.isEmpty then some y.1 else none) u x o (P.cellsOf T) ag with
    | some x'=>match rowS t u j y (A.k3 (x:=.sl u) (y:=.i .i64) (z:=u) (u:=.sl u) "" (fun l i y=>lset l i y) ys k x') with
     | some y'=>setB s id (.fm T' t j U u (A.k3 (x:=.sl t) (y:=.i .i64) (z:=t) (u:=.sl t) "" (fun l i y=>lset l i y) l a y') none) K
     | none=>A.fail "row store cell"
    | none=>A.fail "row store part"
   | none=>A.fail "row store cell"
 | _,_=>A.fail ""
def klg (s:TS A) (U:TypeId) (u:Ty) (v:TV A):Option (A.D (.sl u)×Option Nat):=
 match v with
 | .mw r=>match alk s.hp r with
  | some (some (.sl U' _ l))=>if U'=U then (tcast (.sl u) l).map fun l=>(l,some r) else none
  | _=>none
 | .sc w=>if kbS w then some (A.k0 (x:=.sl u) "" [],none) else none
 | _=>none
def holeX {A:Alg} {ρ:Ty} (ho:Option (A.D (.i .i64))) (i:A.D (.i .i64)) (K:A.Ans ρ):A.Ans ρ:=
 match ho with
 | none=>K
 | some a=>A.p2 (x:=.i .i64) (y:=.i .i64) (z:=.un) "" (fun a b=>gsame a b) a i fun _=>K
def rowN (s:TS A):Option Nat->TS A
 | some r=>{ s with hp:=(r,none)::s.hp }
 | none=>s
def kpb (s:TS A) (T:TypeId) (id:Nat) (i:A.D (.i .i64)) (o:Nat) (v:TV A) (K:TV A->TS A->A.Ans ρ):A.Ans ρ:=
 match aggO P T,ownB s id with
 | some ag,some (.fm T' t j U u l ho)=>if P.cellsOf T=0 then A.fail "store nothing" else
   if ag=false/\o=j/\P.cellsOf T=1/\(ho.isNone\/t.wd=1) then
    match klg s U u v with
    | some (xs,r)=>if c.has id then A.fail "" else
     holeX ho i<|A.p2 (x:=.sl t) (y:=.i .i64) (z:=t) "" (fun l i=>gi l i) l i fun y=>match rowS t u j y xs with
     | some y'=>
      let s1:=drpS (rowN s r) id
      K .ud { s1 with hp:=(id,some (.fm T' t j U u (A.k3 (x:=.sl t) (y:=.i .i64) (z:=t) (u:=.sl t) "" (fun l i y=>lset l i y) l i y') none))::s1.hp }
     | none=>A.fail "family store cell"
    | none=>A.fail "family store row"
   else if (o+P.cellsOf T<=j\/j<o)/\ho.isNone then
    A.p2 (x:=.sl t) (y:=.i .i64) (z:=t) "" (fun l i=>gi l i) l i fun y=>
     match setC (fun t=>(snapV c s t v).bind fun y=>if y.2.isEmpty then some y.1 else none) t y o (P.cellsOf T) ag with
     | some y'=>setB s id (.fm T' t j U u (A.k3 (x:=.sl t) (y:=.i .i64) (z:=t) (u:=.sl t) "" (fun l i y=>lset l i y) l i y') none) K
     | none=>A.fail "family store part"
   else match v with
    | .ag vs=>match vs[j]? with
     | some (.fr id' i')=>if o=0/\P.cellsOf T=t.wd/\ho.isNone/\id'=id then
       match snapL c s t (vs.set j (.sc (.slice none 0 0))) with
       | some (y0,[],[])=>A.p2 (x:=.sl t) (y:=.i .i64) (z:=t) "" (fun l i=>gi l i) l i fun y=>A.p2 (x:=.i .i64) (y:=.i .i64) (z:=.un) "" (fun a b=>gsame a b) i i' fun _=>match (rowD t u j y).bind (rowS t u j y0) with
        | some y'=>setB s id (.fm T' t j U u (A.k3 (x:=.sl t) (y:=.i .i64) (z:=t) (u:=.sl t) "" (fun l i y=>lset l i y) l i y') none) K
        | none=>A.fail "family store cell"
       | _=>A.fail "family store parts"
      else A.fail "family store"
     | some w=>if o=0/\P.cellsOf T=t.wd/\ho.isNone then match klg s U u w with
       | some (xs,r)=>if c.has id then A.fail "" else match snapL c s t (vs.set j (.sc (.slice none 0 0))) with
        | some (y0,[],[])=>A.p2 (x:=.sl t) (y:=.i .i64) (z:=t) "" (fun l i=>gi l i) l i fun _=>match rowS t u j y0 xs with
         | some y'=>
          let s1:=drpS (rowN s r) id
          K .ud { s1 with hp:=(id,some (.fm T' t j U u (A.k3 (x:=.sl t) (y:=.i .i64) (z:=t) (u:=.sl t) "" (fun l i y=>lset l i y) l i y') none))::s1.hp }
         | none=>A.fail "family store cell"
        | _=>A.fail "family store parts"
       | none=>A.fail "family store element"
      else A.fail "family store"
     | none=>A.fail "family store"
    | _=>A.fail "family store"
 | _,_=>A.fail ""
def krt (s:TS A) (e:TypeId) (x:TV A) (same:Bool) (K:TV A->TS A->A.Ans ρ):A.Ans ρ:=
 match famO P e,zeroO P e,x with
 | some (t,j,U,u),some z,.c (.i .i64) n=>match zeroD t with
  | some z0=>if same/\(isZ t z).any List.isEmpty/\z.length=t.wd/\t.wd≠0/\P.bytesOf e<=1024/\(rowD t u j z0).isSome then A.p2 (x:=.i .i64) (y:=t) (z:=.sl t) "" (fun n z=>gmk n z) n z0 fun l=>
     K (.fw s.n) { s with hp:=(s.n,some (.fm e t j U u l none))::s.hp,n:=s.n+1 } else A.fail "family make"
  | none=>A.fail "family zero"
 | _,_,_=>A.fail "family make elem"
def ksY (s:TS A) (T T2:TypeId) (id:Nat) (a:A.D (.i .i64)) (v:TV A) (K:TV A->TS A->A.Ans ρ):A.Ans ρ:=
 match elemO P T,ownB s id with
 | some e,some (.fm T' t j U u l none)=>match zeroO P e with
  | some z=>if klv P T2/\z.length=u.wd/\u.wd≠0/\P.bytesOf e<=1024/\e=U then
    if c.has id then A.fail "" else
    match srcX c s u v with
    | none=>A.fail "append source"
    | some (xs,_)=>A.p2 (x:=.sl t) (y:=.i .i64) (z:=t) "" (fun l i=>gi l i) l a fun y=>match rowD t u j y with
     | some ys=>A.p2 (x:=.sl u) (y:=.sl u) (z:=.sl u) "" (fun a b=>gapp a b) ys xs fun l'=>
       let s1:=drpS s id
       newSl { s1 with hp:=(id,some (.fm T' t j U u l (some a)))::s1.hp } U u l' K
     | none=>A.fail "row append cell"
   else A.fail "row append"
  | none=>A.fail "row append zero"
 | _,_=>A.fail ""
def zeroF (q:Nat->Bool) (i:Nat) (s:TS A):List AV->List TypeId->List (TV A)×TS A
 | .sc v::vs,T::Ts=>
  match (if kbS v&&q i then (elemO P T).bind fun e=>(famO P e).map fun f=>(e,f) else none) with
  | some (e,(t,j,U,u))=>let r:=zeroF q (i+1) { s with hp:=(s.n,some (.fm e t j U u (A.k0 (x:=.sl t) "" []) none))::s.hp,n:=s.n+1 } vs Ts; (.fw s.n::r.1,r.2)
  | none=>let r1:=zeroC P s [.sc v] [T]; let r:=zeroF q (i+1) r1.2 vs Ts; (r1.1++r.1,r.2)
 | _,_=>([],s)
def leafQ (Δ:List (FuncId×Ctr)) (T:TypeId) (i:Nat):Bool:=(alk Δ (4000000+1000*T+i)).isNone
def ktL (q:Nat->Bool) (s:TS A) (T:TypeId) (K:TV A->TS A->A.Ans ρ):A.Ans ρ:=
 match zeroO P T,khY P 9 T with
 | some z,some Ts=>if z.length=Ts.length then let r:=zeroF P q 0 s z Ts; newBx r.2 (.bx T r.1) K else A.fail "alloc cells"
 | _,_=>A.fail "alloc type"
def ksM (q:Nat->Bool) (s:TS A) (T:TypeId) (parts:List (Nat×Operand)) (K:TV A->TS A->A.Ans ρ):A.Ans ρ:=
 match zeroO P T,khY P 9 T,kjt P T with
 | some z,some Ts,some pl=>if z.length=Ts.length then
   let r:=zeroF P q 0 s z Ts
   match fillT c pl s parts r.1 with
   | some vs=>K (.ag vs) r.2
   | none=>A.fail "build parts"
  else A.fail "build cells"
 | _,_,_=>A.fail "build type"
def ksE (s:TS A) (T:TypeId) (K:TV A->TS A->A.Ans ρ):A.Ans ρ:=
 match (elemO P T).bind fun e=>(famO P e).map fun f=>(e,f) with
 | some (e,(t,j,U,u))=>K (.fw s.n) { s with hp:=(s.n,some (.fm e t j U u (A.k0 (x:=.sl t) "" []) none))::s.hp,n:=s.n+1 }
 | none=>match (elemO P T).bind fun e=>(tyOf P e).map fun t=>(e,t) with
  | some (e,t)=>if t.dat then K (.mw s.n) { s with hp:=(s.n,some (.sl e t (A.k0 (x:=.sl t) "" [])))::s.hp,n:=s.n+1 } else A.fail "own nil"
  | none=>A.fail "family nil"
def kpt (s:TS A) (T:TypeId) (len:Nat) (parts:List (Nat×Operand)) (K:TV A->TS A->A.Ans ρ):A.Ans ρ:=
 match (elemO P T).bind fun e=>(famO P e).map fun f=>(e,f),parts with
 | some (e,(t,j,U,u)),[(0,x)]=>match zeroO P e,kaz (tev c s x) with
  | some z,some vs=>if len=1/\z.length=t.wd/\t.wd<=1000 then match (vs[j]?).bind (klg s U u),snapL c s t (vs.set j (.sc (.slice none 0 0))) with
   | some (xs,r),some (y0,[],[])=>match rowS t u j y0 xs with
    | some y=>
     let s1:=match r with | some r=>{ s with hp:=(r,none)::s.hp } | none=>s
     K (.fw s.n) { s1 with hp:=(s.n,some (.fm e t j U u (lstD t [y]) none))::s1.hp,n:=s.n+1 }
    | none=>A.fail ""
   | _,_=>A.fail (match vs[j]? with | some (.mw r)=> "" | _=> "") else A.fail ""
  | _,_=>A.fail ""
 | _,_=>A.fail "family build"
def kpN (s:TS A) (T T2:TypeId) (da:Option Nat) (b:Nat) (K:TV A->TS A->A.Ans ρ):A.Ans ρ:=
 match elemO P T,ownB s b with
 | some e,some (.fm Tb t j U u lb none)=>match zeroO P e with
  | some z=>if klv P T2/\z.length=t.wd/\t.wd≠0/\P.bytesOf e<=1024/\Tb=e then
    match da with
    | none=>A.p2 (x:=.sl t) (y:=.sl t) (z:=.sl t) "" (fun a b=>gapp a b) (A.k0 (x:=.sl t) "" []) lb fun l'=>
      K (.fw s.n) { s with hp:=(s.n,some (.fm e t j U u l' none))::(b,none)::s.hp,n:=s.n+1 }
    | some a=>match ownB s a with
     | some (.fm Ta _ ja Ua ua la none)=>if Ta=e/\ja=j/\Ua=U/\ua=u/\a≠b then match tcast (.sl t) la with
       | some la=>A.p2 (x:=.sl t) (y:=.sl t) (z:=.sl t) "" (fun a b=>gapp a b) la lb fun l'=>
         K (.fw s.n) { s with hp:=(s.n,some (.fm e t j U u l' none))::(a,none)::(b,none)::s.hp,n:=s.n+1 }
       | none=>A.fail "family append elem"
      else A.fail "family append kind"
     | _=>A.fail ""
   else A.fail "family append"
  | none=>A.fail "family append zero"
 | _,_=>A.fail ""
def hintS (Δ:List (FuncId×Ctr)) (k:Nat) (d:Option Tmp):Bool:=match d with | some d=>(alk Δ (k+d)).isSome | none=>false
def bsX (s:TS A) (T:TypeId) (len:Nat) (parts:List (Nat×Operand)) (K:TV A->A.Ans ρ):A.Ans ρ:=
 match elemO P T with
 | none=>A.fail "buildSlice type"
 | some e=>match tyOf P e,zeroO P e with
  | some t,some z=>if len<=1000/\z.length<=1000/\z.length=t.wd then
    if parts.length=len then match knj c s t parts 0 with
     | some (xs,[])=>K (.c (.sl t) (lstD t xs))
     | some (_,id::_)=>A.fail ""
     | none=>A.fail "drawn buildSlice parts"
    else A.fail "buildSlice length"
   else A.fail "buildSlice"
  | _,_=>A.fail "buildSlice elem"
def famX (Δ:List (FuncId×Ctr)) (s:TS A) (o:Oper) (K:TV A->TS A->A.Ans ρ):Option (A.Ans ρ):=
 match o.op with
 | .load T x=>match tev c s x with
  | .fo id i j=>some (kqF P c s T id i j K)
  | .fa id i k j=>some (kqW P c s T id i k j K)
  | _=>none
 | .store T p x=>match tev c s p with
  | .fo id i j=>some (kpb P c s T id i j (tev c s x) K)
  | .fa id i k j=>some (kpd P c s T id i k j (tev c s x) K)
  | _=>none
 | .fieldAddr T x f=>match tev c s x with
  | .fo id i j=>some (kuc P c s T id i j f K)
  | .fa id i k j=>some (ksv P c s T id i k j f K)
  | _=>none
 | .indexAddr T x i=>match tev c s x with
  | .fw id=>some (ktY P c s T id (tev c s i) K)
  | .fr id a=>some (kut P c s T id a (tev c s i) K)
  | _=>none
 | .makeSlice T x y=>match elemO P T with
  | some e=>if hintT Δ e then some (krt P s e (tev c s x) (kjV x y) K) else none
  | none=>none
 | .call l=>match l.callee with
  | .builtin b=>match b,l.args.toList,l.argTypes.toList with
   | .len,[x],[T]=>match tev c s x with
    | .fw id=>some (ksF P c s T id K)
    | .fr id a=>some (kui P c s T id a K)
    | _=>none
   | .append,[d,x],[T,T2]=>match tev c s d with
    | .fr id a=>some (ksY P c s T T2 id a (tev c s x) K)
    | .fw a=>match tev c s x with
     | .fw b=>some (kpN P s T T2 (some a) b K)
     | _=>none
    | .sc u=>match tev c s x with
     | .fw b=>if kbS u then some (kpN P s T T2 none b K) else none
     | _=>none
    | _=>none
   | _,_,_=>none
  | _=>none
 | .alloc T=>if hintS Δ 6000000 o.dst then some (ktL P (leafQ Δ T) s T K) else none
 | .build T parts=>if hintS Δ 6000000 o.dst then some (ksM P c (leafQ Δ T) s T parts.toList K) else none
 | .buildSlice T len parts=>if hintS Δ 7000000 o.dst then some (kpt P c s T len parts.toList K) else if hintS Δ 8000000 o.dst then some (bsX P c s T len parts.toList fun v=>K v s) else none
 | .assign x=>match tev c s x with
  | .sc u=>if kbS u&&hintS Δ 6000000 o.dst then some (ksE P s o.type K) else none
  | _=>none
 | _=>none
def ktG (s:TS A) (T:TypeId) (v:TV A) (K:TV A->TS A->A.Ans ρ):A.Ans ρ:=
 match v with
 | .c .s l=>if kiC P T then newBx s (.si (A.k1 (x:=.s) (y:=.pr .s (.i .i64)) "" (fun l=>(l,0)) l)) K else A.fail "range type"
 | _=>A.fail "range"
def runeV (x:List UInt8×Int):Int:=(Utf8.decode ⟨x.1.toArray⟩ x.2.toNat).1
def runeN (x:List UInt8×Int):List UInt8×Int:=(x.1,((x.2.toNat+(Utf8.decode ⟨x.1.toArray⟩ x.2.toNat).2:Nat):Int))
def nextX (s:TS A) (v:TV A) (K:TV A->TS A->A.Ans ρ):A.Ans ρ:=
 match v with
 | .ptr id 0=>match alk s.hp id with
  | some (some (.si x))=>A.ite (A.k1 (x:=.pr .s (.i .i64)) (y:=.b) "" (fun x=>decide (x.2<lenI x.1)) x)
    (K (.tp [.kb true,.c (.i .i64) (A.k1 (x:=.pr .s (.i .i64)) (y:=.i .i64) "" Prod.snd x),.c (.i .i32) (A.k1 (x:=.pr .s (.i .i64)) (y:=.i .i32) "" runeV x)]) { s with hp:=(id,some (.si (A.k1 (x:=.pr .s (.i .i64)) (y:=.pr .s (.i .i64)) "" runeN x)))::s.hp })
    (K (.tp [.kb false]) s)
  | _=>A.fail ""
 | _=>A.fail "next"
def xop (Δ:List (FuncId×Ctr)) (s:TS A) (o:Oper) (K:TV A->TS A->A.Ans ρ):A.Ans ρ:=
 match famX P c Δ s o K with
 | some a=>a
 | none=>match o.op with
  | .move x=>moveX P s o.type (tev c s x) K
  | .assign x=>moveX P s o.type (tev c s x) K
  | .pick x a b=>match tev c s x with
   | .kb t=>K (if t then tev c s a else tev c s b) s
   | .c .b x=>A.ite x (K (tev c s a) s) (K (tev c s b) s)
   | _=>A.fail "pick"
  | .alloc T=>ktC P s T K
  | .box T x=>boxX s T (tev c s x) K
  | .load T x=>loadX P c s T (tev c s x) K
  | .store T p x=>ksS P c s T (tev c s p) (tev c s x) K
  | .nilCheck x=>nilX c s (tev c s x) K
  | .binOp op T x y _=>binX P c s op T (tev c s x) (tev c s y) K
  | .unOp op _ x=>unX s op (tev c s x) K
  | .convert S T x=>convX P s S T (tev c s x) K
  | .makeFunc (.func f) first caps=>if first.isEmpty then K (.fn f (caps.toList.map (tev c s))) s else A.fail "makeFunc"
  | .makeSlice T x y=>kmf P s T (tev c s x) (tev c s y) (kjV x y) K
  | .slice T x lo hi none=>ksX P c s T (tev c s x) (lo.map (tev c s)) (hi.map (tev c s)) K
  | .fieldAddr T x f=>kly P c s T (tev c s x) f K
  | .field T x f=>ktm P s T (tev c s x) f K
  | .indexAddr T x i=>kpw P c s T (tev c s x) (tev c s i) K
  | .index T x i=>idxX P s T (tev c s x) (tev c s i) K
  | .extract x i=>match tev c s x with
   | .tp vs=>match vs[i]? with
    | some v=>K v s
    | none=>A.fail "extract"
   | _=>A.fail "extract"
  | .build T parts=>ktf P c s T parts.toList K
  | .buildSlice T len parts=>kkH P c s T len parts.toList K
  | .makeMap T none=>kpp P s T K
  | .lookup T m k ok=>krk P c s T (tev c s m) (tev c s k) ok K
  | .mapUpdate T m k x=>kqG P c s T (tev c s m) (tev c s k) (tev c s x) K
  | .mapEntry T m k=>krl P c s T (tev c s m) (tev c s k) K
  | .entryStore T m st x=>kuk c s (tev c s m) (tev c s st) (tev c s x) K
  | .range T x=>ktG P s T (tev c s x) K
  | .next x true=>nextX s (tev c s x) K
  | .makeInterface _ _=>A.stop
  | .call l=>match l.callee with
   | .builtin b=>match b,l.args.toList,l.argTypes.toList with
    | .len,[x],[T]=>lenX P c s T (tev c s x) K
    | .append,[d,x],[T,T2]=>appX P c s T T2 (tev c s d) (tev c s x) K
    | .copy,[d,x],[T,T2]=>copyX P c s T (tev c s d) (tev c s x) K
    | .min,[x,y],_=>mmX false s (tev c s x) (tev c s y) K
    | .max,[x,y],_=>mmX true s (tev c s x) (tev c s y) K
    | .min,[x,y,q],_=>mmX false s (tev c s x) (tev c s y) fun v s=>mmX false s v (tev c s q) K
    | .max,[x,y,q],_=>mmX true s (tev c s x) (tev c s y) fun v s=>mmX true s v (tev c s q) K
    | _,_,_=>A.fail "builtin"
   | .value f=>callX c Δ s (tev c s f) (l.args.toList.map (tev c s)) K
   | .invoke _ _=>A.fail "invoke"
  | _=>A.fail "op"
def putT (s:TS A) (d:Option Tmp) (v:TV A):TS A:=
 match d with
 | some d=>{ s with env:=(d,v)::s.env }
 | none=>s
def okD (c:Cx A) (ds:List (Option Tmp)):Bool:=ds.all fun d=>match d with
 | some d=>(alk c.e0 d).isNone
 | none=>true
def useM (Δ:List (FuncId×Ctr)) (s:TS A) (o:Oper):Option (CtrM×List (TV A)):=
 match o.op with
 | .call l=>match l.callee with
  | .value f=>match tev c s f with
   | .fn g caps=>match alk Δ g with
    | some C=>(pickM c Δ s (l.args.toList.map (tev c s)++caps) C.mus).map fun M=>(M,l.args.toList.map (tev c s)++caps)
    | none=>none
   | _=>none
  | _=>none
 | _=>none
def klu (p:Pat) (i:Nat) (v:TV A) (s:TS A):TV A×TS A:=
 match v,alk p.env i with
 | .sc u,some (.mw q)=>match alk p.hp q with
  | some (.sl T t)=>if kbS u&&t.dat then (.mw s.n,{ s with hp:=(s.n,some (.sl T t (A.k0 (x:=.sl t) "" [])))::s.hp,n:=s.n+1 }) else (v,s)
  | _=>(v,s)
 | _,_=>(v,s)
def kju (p:Pat):List (TV A)->Nat->TS A->List (TV A)×TS A
 | [],_,s=>([],s)
 | v::vs,i,s=>let r:=klu p i v s; let q:=kju p vs (i+1) r.2; (r.1::q.1,q.2)
def useN (Δ:List (FuncId×Ctr)) (s:TS A) (o:Oper):Option (CtrM×List (TV A)×TS A):=
 match o.op with
 | .call l=>match l.callee with
  | .value f=>match tev c s f with
   | .fn g caps=>match alk Δ g with
    | some C=>C.mus.findSome? fun M=>let r:=kju M.inp (l.args.toList.map (tev c s)++caps) 0 s; (pickM c Δ r.2 r.1 [M]).map fun M=>(M,r.1,r.2)
    | none=>none
   | _=>none
  | _=>none
 | _=>none
def nilC (s:TS A) (o:Oper):Option (Bool×Option (A.D .b)):=
 match o.op with
 | .binOp op T x (.const v) _=>
  match kbS v&&(elemO P T).isSome&&(op == .eql||op == .neq) with
  | true=>match tev c s x with
   | .c (.sl t) l=>some (op == .neq,some (A.k1 (x:=.sl t) (y:=.b) "" (fun l=>isE l) l))
   | .mw id=>match thp c s id with
    | some (.sl _ t l)=>some (op == .neq,some (A.k1 (x:=.sl t) (y:=.b) "" (fun l=>isE l) l))
    | _=>none
   | .sc u=>if kbS u then some (op == .neq,none) else none
   | _=>none
  | false=>none
 | _=>none
def altL:List (A.Ans ρ)->A.Ans ρ
 | []=>A.fail "no contract"
 | [x]=>x
 | x::l=>A.els x (altL l)
def altsM (Δ:List (FuncId×Ctr)) (s:TS A) (o:Oper):List CtrM:=
 match o.op with
 | .call l=>match l.callee with
  | .value f=>match tev c s f with
   | .fn g caps=>match alk Δ g with
    | some C=>C.mus.filter fun M=>M.alt&&(pickM c Δ s (l.args.toList.map (tev c s)++caps) [M]).isSome
    | none=>[]
   | _=>[]
  | _=>[]
 | _=>[]
def xopM (Δ:List (FuncId×Ctr)) (s:TS A) (o:Oper) (K:TV A->TS A->A.Ans ρ):A.Ans ρ:=
 match useM c Δ s o with
 | some (M,args)=>match M.alt with
  | false=>kjJ c Δ s M args K
  | true=>altL ((altsM c Δ s o).map fun M=>kjJ c Δ s M args K)
 | none=>match useN c Δ s o with
  | some (M,args,s')=>kjJ c Δ s' M args K
  | none=>match nilC P c s o with
   | some (ne,some e)=>A.ite e (A.bth (K (.kb true) s) (K (.kb false) s)) (K (.kb ne) s)
   | some (ne,none)=>K (.kb (!ne)) s
   | none=>xop P c Δ s o K
def xops (Δ:List (FuncId×Ctr)) (ds:List (Option Tmp)):List Oper->TS A->(TS A->A.Ans ρ)->A.Ans ρ
 | [],s,K=>K s
 | o::r,s,K=>match o.guard with
  | none=>xopM P c Δ s o fun v s'=>xops Δ ds r (putT s' o.dst v) K
  | some (j,want)=>match kbd ds j with
   | none=>A.fail "guard"
   | some d=>match tlk c s d with
    | .kb b=>match b==want with | true=>xopM P c Δ s o fun v s'=>xops Δ ds r (putT s' o.dst v) K | false=>xops Δ ds r (putT s o.dst .ud) K
    | .c .b x=>
     let on:=xopM P c Δ { s with env:=(d,.kb want)::s.env } o fun v s'=>xops Δ ds r (putT s' o.dst v) K
     let off:=xops Δ ds r (putT { s with env:=(d,.kb (!want))::s.env } o.dst .ud) K
     match want with | true=>A.ite x on off | false=>A.ite x off on
    | .ud=>xops Δ ds r (putT s o.dst .ud) K
    | _=>A.fail "guard value"
def cls (o:Oper):Nat:=
 match o.op with
 | .move _ | .assign _ | .pick _ _ _ | .unOp _ _ _ | .convert _ _ _ | .makeFunc _ _ _ | .field _ _ _ | .index _ _ _ | .extract _ _ | .build _ _=>0
 | .fieldAddr _ _ _ | .indexAddr _ _ _ | .slice _ _ _ _ _ | .nilCheck _=>1
 | .call { callee:=.builtin .len,.. }=>1
 | .call { callee:=.builtin .min,.. } | .call { callee:=.builtin .max,.. }=>0
 | .load _ _ | .binOp _ _ _ _ _ | .lookup _ _ _ _=>2
 | _=>3
def tgtOp (o:Oper):Option Operand:=
 match o.op with
 | .store _ p _=>some p
 | .mapUpdate _ m _ _=>some m
 | .mapEntry _ m _=>some m
 | .entryStore _ m _ _=>some m
 | .next x _=>some x
 | .call { callee:=.builtin .append,args,.. }=>match args.toList with
  | [s,_]=>some s
  | _=>none
 | .call { callee:=.builtin .copy,args,.. }=>match args.toList with
  | [s,_]=>some s
  | _=>none
 | _=>none
def krc (o:Oper):Bool:=
 match o.op with
 | .store _ _ _=>true
 | _=>false
def rst {A:Alg} (s:TS A) (b:List Nat):TS A:=⟨s.env,s.hp.filter fun x=>b.contains x.1,s.n,s.dy⟩
def tid:TV A->Option Nat
 | .ptr i _=>some i
 | .adr i _ _=>some i
 | .aa i _=>some i
 | .mw i=>some i
 | .ms i _ _=>some i
 | .mp i=>some i
 | .fw i=>some i
 | .fr i _=>some i
 | .fo i _ _=>some i
 | .fa i _ _ _=>some i
 | _=>none
def isSc:TV A->Bool
 | .sc _=>true
 | _=>false
def isRow:TV A->Bool
 | .fr _ _=>true
 | .fa _ _ _ _=>true
 | _=>false
def okW (s:TS A) (b1 b2:List Nat) (o:Oper):Bool:=
 match tgtOp o with
 | none=>true
 | some x=>match tid (tev c s x) with
  | some i=>(thp c s i).isSome&&!b2.contains i&&(krc o||!b1.contains i)&&(!isRow (tev c s x)||(thp c s i).any TB.isF)
  | none=>isSc (tev c s x)
def wcOf (l:List Oper):List Nat:=l.zipIdx.filterMap fun (o,j)=>match o.op with | .buildSlice _ 0 _=>some j | _=>none
def kjS (Δ:List (FuncId×Ctr)) (s:TS A) (f:TV A) (args:List (TV A)) (K:TV A->A.Ans ρ):A.Ans ρ:=
 match f with
 | .fn g caps=>match alk Δ g with
  | none=>A.fail ""
  | some C=>match kda c Δ s C.as (args++caps) with
   | none=>A.fail ""
   | some (l,ids)=>match mkT A C.as l with
    | none=>A.fail ""
    | some a=>if C.rs.all Ty.flat||(ids.isEmpty&&!s.dy) then A.p1 C.nm C.F a fun y=>K (tvR C.rs y) else A.fail "drawn call eats"
 | .cv n x y F=>if h:tup (untup n x)=x then match snapM c s (untup n x) args with
   | none=>A.fail ""
   | some (l,_)=>match mkT A (untup n x) l with
    | none=>A.fail ""
    | some a=>if y.flat then A.p2 (x:=.fn n x y) (y:=x) (z:=y) "" (fun F v=>F v) F (h ▸ a) fun z=>K (.c y z) else A.fail ""
  else A.fail ""
 | _=>A.fail "drawn call"
def seen (s:TS A) (b:List Nat):Bool:=!s.dy&&c.g.all (fun x=>b.contains x.1)&&b.all (fun id=>!(thp c s id).any TB.isF)
def famG (c:Cx A):String:=match c.g.find? fun x=>x.2.isF with | some x=> "" | none=> ""
def stepX (Δ:List (FuncId×Ctr)) (wc:List Nat) (rd:List (Nat×Nat)) (b1 b2:List Nat) (j:Nat) (s:TS A) (o:Oper) (K:TV A->TS A->A.Ans ρ):A.Ans ρ:=
 if isW wc j o then
  if !kiH o&&okW c s b1 b2 o&&b1.all (fun id=>(thp c s id).isSome)&&!rd.any (fun x=>x.1==j) then xop P c Δ s o K else A.fail ""
 else match o.op with
 | .buildSlice T len parts=>bsX P c s T len parts.toList fun v=>K v s
 | .call { callee:=.value f,args,.. }=>
  if wants rd j then (if seen c s b2 then kjS c Δ (rst s b2) (tev c s f) (args.toList.map (tev c s)) (fun v=>K v s) else A.fail (""++famG c))
  else kjS c Δ s (tev c s f) (args.toList.map (tev c s)) fun v=>K v s
 | _=>
  if cls o=0 then xop P c Δ s o K
  else if cls o=1 then (if wants rd j then (if seen c s b1 then xop P c Δ (rst s b1) o fun v _=>K v s else A.fail (""++famG c)) else xop P c Δ s o fun v _=>K v s)
  else if cls o=2 then (if wants rd j then (if seen c s b2 then xop P c Δ (rst s b2) o fun v _=>K v s else A.fail (""++famG c)) else xop P c Δ s o fun v _=>K v s)
  else A.fail "drawn operation"
def TB.ids:TB A->List Nat
 | .bx _ vs=>TV.idsL vs
 | _=>[]
def closX (s:TS A):Nat->List Nat->List Nat
 | 0,l=>l
 | d+1,l=>closX s d (l++(l.flatMap fun i=>match thp c s i with | some b=>b.ids | none=>[]).filter fun i=>!l.contains i)
def footX (s:TS A) (o:Oper):List Nat:=
 let l:=(o.op.operands.toList.map fun x=>(tev c s x).ids).flatten
 (c.g.map (·.1)++(if kiH o then closX c s 3 l else l)).filter fun i=>(thp c s i).isSome
def tgtT (s:TS A) (o:Oper):Option (List Nat):=
 match tgtOp o with
 | none=>some []
 | some x=>match tid (tev c s x) with
  | some i=>if (thp c s i).isSome&&(!isRow (tev c s x)||(thp c s i).any TB.isF) then some [i] else none
  | none=>if isSc (tev c s x) then some [] else none
def pdOk (s:TS A) (anc:List Nat) (st:Bool) (T:List Nat) (pd:List (Nat×Nat×List Nat)):Bool:=
 pd.all fun p=>anc.contains p.1||p.2.1==0||((p.2.1==1||p.2.1==2)&&p.2.2.all fun id=>(thp c s id).isSome&&(!T.contains id||(st&&p.2.1==1)))
def chgd (s s':TS A):List Nat:=(s'.hp.take (s'.hp.length-s.hp.length)).map (·.1)
def ownT (s:TS A):List Tmp:=s.env.filterMap fun x=>match x.2 with | .mw _=>some x.1 | _=>none
def wcGo (Δ:List (FuncId×Ctr)):List Oper->Nat->List Tmp->List Nat->List Nat
 | [],_,_,wc=>wc
 | o::r,j,tn,wc=>
  let tin:=fun (x:Operand)=>match x with | .tmp t=>tn.contains t | _=>false
  let add:=fun (b:Bool)=>match b,o.dst with | true,some d=>d::tn | _,_=>tn
  match o.op with
  | .buildSlice _ len parts=>if len==0||hintS Δ 7000000 o.dst||parts.toList.any (fun p=>tin p.2) then wcGo Δ r (j+1) (add true) (j::wc) else wcGo Δ r (j+1) tn wc
  | .call { callee:=.value (.func g),.. }=>if (alk Δ g).any (fun C=>!C.mus.isEmpty) then wcGo Δ r (j+1) (add true) (j::wc) else wcGo Δ r (j+1) tn wc
  | .call { callee:=.value (.tmp t),.. }=>if tn.contains t then wcGo Δ r (j+1) (add true) (j::wc) else wcGo Δ r (j+1) tn wc
  | .index _ x _=>wcGo Δ r (j+1) (add (tin x)) wc
  | .lookup _ _ _ _=>if r.any (fun q=>match q.op with | .mapEntry _ _ _=>true | _=>false) then wcGo Δ r (j+1) tn (j::wc) else wcGo Δ r (j+1) tn wc
  | .load _ _=>wcGo Δ r (j+1) (add (r.any fun q=>match q.op with | .call { callee:=.value (.tmp t),.. }=>o.dst==some t | _=>false)) wc
  | .call { callee:=.builtin .append,.. } | .makeSlice _ _ _=>wcGo Δ r (j+1) (add true) wc
  | .move x | .assign x | .extract x _ | .field _ x _=>wcGo Δ r (j+1) (add (tin x)) wc
  | .build _ parts=>wcGo Δ r (j+1) (add (parts.toList.any fun p=>tin p.2)) wc
  | _=>wcGo Δ r (j+1) tn wc
def askD (Δ:List (FuncId×Ctr)) (s:TS A) (f:TV A) (args:List (TV A)):Option (Nat×List (TV A)):=
 match f with
 | .fn g caps=>match (alk Δ g).bind fun C=>kda c Δ s C.as (args++caps) with
  | some _=>none
  | none=>some (g,args++caps)
 | _=>none
def kld (Δ:List (FuncId×Ctr)) (W:Nat->Bool) (anc:Nat->List Nat) (late:Nat->Bool) (j:Nat) (s:TS A) (o:Oper) (pd:List (Nat×Nat×List Nat)) (K:TV A->TS A->List (Nat×Nat×List Nat)->A.Ans ρ):A.Ans ρ:=
 match W j with
 | true=>match o.op with
  | .call { callee:=.value f,args,.. }=>match useM c Δ s o with
   | some (M,as)=>kjJ c Δ s M as fun v s'=>match pdOk c s (anc j) false (chgd s s') pd with | true=>K v s' pd | false=>A.fail ""
   | none=>match askD c Δ s (tev c s f) (args.toList.map (tev c s)) with
    | some q=>askX c s q.1 q.2
    | none=>kjS c Δ s (tev c s f) (args.toList.map (tev c s)) fun v=>K v s pd
  | _=>match kiH o with
   | true=>A.fail "drawn call"
   | false=>match tgtT c s o with
    | some T=>match pdOk c s (anc j) (krc o) T pd with
     | true=>xop P c Δ s o fun v s'=>K v s' pd
     | false=>A.fail ""
    | none=>A.fail ""
 | false=>
  let F:=footX c s o
  match o.op with
  | .buildSlice T len parts=>bsX P c s T len parts.toList fun v=>K v s ((j,0,[])::pd)
  | .call { callee:=.value f,args,.. }=>match late j with
   | true=>if seen c s F then kjS c Δ (rst s F) (tev c s f) (args.toList.map (tev c s)) fun v=>K v s ((j,2,F)::pd) else A.fail (""++famG c)
   | false=>kjS c Δ s (tev c s f) (args.toList.map (tev c s)) fun v=>K v s ((j,3,[])::pd)
  | _=>
   if cls o=0 then xop P c Δ s o fun v s'=>K v s' ((j,0,[])::pd)
   else if cls o=1 then match late j with
    | true=>if seen c s F then xop P c Δ (rst s F) o fun v _=>K v s ((j,1,F)::pd) else A.fail (""++famG c)
    | false=>xop P c Δ s o fun v _=>K v s ((j,3,[])::pd)
   else if cls o=2 then match late j with
    | true=>if seen c s F then xop P c Δ (rst s F) o fun v _=>K v s ((j,2,F)::pd) else A.fail (""++famG c)
    | false=>xop P c Δ s o fun v _=>K v s ((j,3,[])::pd)
   else A.fail "drawn operation"
def xopsT (Δ:List (FuncId×Ctr)) (W:Nat->Bool) (anc:Nat->List Nat) (late:Nat->Bool) (ds:List (Option Tmp)):List Oper->Nat->TS A->List (Nat×Nat×List Nat)->(TS A->A.Ans ρ)->A.Ans ρ
 | [],_,s,_,K=>K s
 | o::r,i,s,pd,K=>match o.guard with
  | none=>kld P c Δ W anc late i s o pd fun v s' pd=>xopsT Δ W anc late ds r (i+1) (putT s' o.dst v) pd K
  | some (j,want)=>match kbd ds j with
   | none=>A.fail "guard"
   | some d=>match tlk c s d with
    | .kb b=>match b==want with | true=>kld P c Δ W anc late i s o pd fun v s' pd=>xopsT Δ W anc late ds r (i+1) (putT s' o.dst v) pd K | false=>xopsT Δ W anc late ds r (i+1) (putT s o.dst .ud) pd K
    | .c .b x=>
     let on:=kld P c Δ W anc late i { s with env:=(d,.kb want)::s.env } o pd fun v s' pd=>xopsT Δ W anc late ds r (i+1) (putT s' o.dst v) pd K
     let off:=xopsT Δ W anc late ds r (i+1) (putT { s with env:=(d,.kb (!want))::s.env } o.dst .ud) pd K
     match want with | true=>A.ite x on off | false=>A.ite x off on
    | .ud=>xopsT Δ W anc late ds r (i+1) (putT s o.dst .ud) pd K
    | _=>A.fail "guard value"
def ksO (l:List Oper) (wc:List Nat) (anc:List (List Nat)):Bool:=
 l.zipIdx.all fun (o,w)=>!isW wc w o||l.zipIdx.all fun (_,j)=>!decide (w<j)||(anc.getD j []).contains w
def ordGo (n:Nat) (rdy:List Nat->Nat->Bool) (w:Nat->Bool):Nat->List Nat->List Nat
 | 0,acc=>acc
 | f+1,acc=>match (List.range n).find? fun i=>!acc.contains i&&!w i&&rdy acc i with
  | some i=>ordGo n rdy w f (acc++[i])
  | none=>match (List.range n).find? fun i=>!acc.contains i&&rdy acc i with
   | some i=>ordGo n rdy w f (acc++[i])
   | none=>acc
def noWr (l:List Oper) (wc:List Nat):Bool:=l.zipIdx.all fun x=>!isW wc x.2 x.1
def ordX (l:List Oper) (wc:List Nat) (ex:List (Nat×Nat)):List Nat:=
 if ex.isEmpty&&noWr l wc then List.range l.length else
 ordGo l.length (fun acc i=>(match l[i]? with | some o=>o.after.toList.all fun e=>!Region.binds .any e||acc.contains e.on | none=>false)&&ex.all fun x=>x.2 != i||acc.contains x.1) (fun i=>match l[i]? with | some o=>isW wc i o | none=>false) l.length []
def confX (Δ:List (FuncId×Ctr)) (tn:List Tmp) (l:List Oper) (ex:List (Nat×Nat)):Option (Nat×Nat):=
 if noWr l (wcGo Δ l 0 tn []) then none else
 let ps:=ordX l (wcGo Δ l 0 tn []) ex
 let l':=permL l ps ex
 let wc:=wcGo Δ l' 0 tn []
 let anc:=ancOf l'
 l'.zipIdx.findSome? fun (o,a)=>if isW wc a o then l'.zipIdx.findSome? fun (o',b)=>if decide (a<b)&&isW wc b o'&&!(anc.getD b []).contains a then some (ps.getD a 0,ps.getD b 0) else none else none
def drawT (Δ:List (FuncId×Ctr)) (nt:Nat) (l:List Oper) (s:TS A) (K:TS A->A.Ans ρ):A.Ans ρ:=
 let wc:=wcGo Δ l 0 (ownT s) []
 let anc:=ancOf l
 if kcR l&&ksO l wc anc&&okD c (l.map (·.dst))&&kaZ nt l then
  xopsT P c Δ (fun j=>match l[j]? with | some o=>isW wc j o | none=>false) (fun j=>anc.getD j []) (fun j=>!noWr l wc&&l.zipIdx.any fun (o,w)=>decide (j<w)&&isW wc w o&&!(anc.getD w []).contains j) (l.map (·.dst)) l 0 s [] K
 else A.fail "drawn order"
def bthL {ρ:Ty} (f:List (Nat×Nat)->A.Ans ρ):List (List (Nat×Nat))->A.Ans ρ
 | []=>A.fail "no order"
 | [x]=>f x
 | x::l=>A.bth (f x) (bthL f l)
def drawV (Δ:List (FuncId×Ctr)) (nt:Nat) (l:List Oper) (s:TS A) (K:TS A->A.Ans ρ):A.Ans ρ:=
 if P.follows .mixedOrders&&backw l then bthL (fun ex=>let ps:=ordX l (wcGo Δ l 0 (ownT s) []) ex
   if kgv l.length ps then drawT P c Δ nt (permL l ps ex) s K else A.fail "") (kie l.length (confX Δ (ownT s) l) 3 [])
 else A.fail ""
structure La where
 head:Pat
 out:Pat
 keep:List Nat
 gids:List Nat
 n:Nat
 ret:Bool
 tx:String:= ""
structure Kon (A:Alg) (r ρ:Ty) where
 nrm:TS A->A.Ans ρ
 ext:Nat->TS A->A.Ans ρ
 retv:A.D r->A.Ans ρ
variable {r:Ty}
def inCx (a:La) (c:Cx A) (s:TS A):Cx A:=
 ⟨a.keep.map (fun x=>(x,tlk c s x))++c.e0,a.gids.filterMap (fun id=>(ownB s id).map fun b=>(id,b))++c.g⟩
def okP (a:La) (c:Cx A) (p:Pat) (n:Nat):Bool:=
 p.env.all (fun x=>(alk c.e0 x.1).isNone&&!a.keep.contains x.1)&&p.hp.all (fun x=>(alk c.g x.1).isNone&&!a.gids.contains x.1&&decide (x.1<n))
def okLa (a:La) (c:Cx A) (s:TS A):Bool:=
 a.keep.all (fun x=>(alk c.e0 x).isNone)&&a.gids.all (fun id=>(ownB s id).isSome)&&okP a c a.head s.n&&okP a c a.out a.n&&decide (s.n<=a.n)
def outTS (a:La) (c:Cx A) (s:TS A) (y:A.D a.out.ty):TS A:=
 let u:=kad a.out a.n y
 ⟨u.env++a.keep.map (fun x=>(x,tlk c s x)),u.hp++a.gids.filterMap (fun id=>(ownB s id).map fun b=>(id,some b)),a.n,true⟩
def IM:Nat:=9999999
mutual
def TV.solid:TV A->Bool
 | .c _ _ | .kb _ | .sc _ | .fq _ _ _ | .cv _ _ _ _=>true
 | .fn _ vs=>TV.solidL vs
 | .tp vs=>TV.solidL vs
 | .ag vs=>TV.solidL vs
 | _=>false
def TV.solidL:List (TV A)->Bool
 | []=>true
 | v::vs=>v.solid&&TV.solidL vs
end
def TV.pure:TV A->Bool
 | .un | .ud=>true
 | v=>v.solid
def Ty.beq:(t:Ty)->t.den->t.den->Bool
 | .i _,x,y=>decide ((x:Int)=y)
 | .b,x,y=>decide ((x:Bool)=y)
 | .s,x,y=>decide ((x:List UInt8)=y)
 | .un,_,_=>true
 | .pr u v,x,y=>u.beq x.1 y.1&&v.beq x.2 y.2
 | .w a,x,y=>a.beq x y
 | .pt a,x,y=>a.beq x y
 | .sl a,x,y=>decide (List.length (α:=a.den) x=List.length (α:=a.den) y)&&(List.zip (α:=a.den) (β:=a.den) x y).all fun p=>a.beq p.1 p.2
 | .op a,x,y=>match (x:Option a.den),(y:Option a.den) with
  | none,none=>true
  | some x,some y=>a.beq x y
  | _,_=>false
 | .ar _ a,x,y=>(x.l.zip y.l).all fun p=>a.beq p.1 p.2
 | _,_,_=>false
def gpre (t:Ty) (o:Option (List t.den)) (ys:List t.den) (e:t.den):Option (List t.den):=
 match o with
 | none=>some (ys++[e])
 | some xs=>match xs[ys.length]? with
  | some x=>if t.beq x e=true then some (ys++[e]) else none
  | none=>none
def runI {α:Type} (F:Option (List α)->Option (List α)):Option (List α):=
 (F none).bind fun xs=>(F (some xs)).bind fun ys=>if ys.length=xs.length then some xs else none
def Ty.txt:Ty->String
 | .i k=> ""++kn k++ "" | .b=> ".b" | .s=> ".s" | .un=> ".un" | .nt=> ".nt"
 | .pr x y=> ""++x.txt++ " "++y.txt++ "" | .w x=> ""++x.txt++ "" | .sl x=> ""++x.txt++ "" | .pt x=> ""++x.txt++ "" | .op x=> ""++x.txt++ ""
 | .ar n x=> ""++toString n++ " "++x.txt++ "" | .sm x y=> ""++x.txt++ " "++y.txt++ "" | .fn n x y=> ""++toString n++ " "++x.txt++ " "++y.txt++ ""
def yCall (s:TS A) (ops:List Oper) (o:Oper):Bool:=
 match o.op with
 | .call cl=>match cl.callee with
  | .value (.tmp t)=>match tlk c s t with
   | .yl _=>true
   | _=>ops.any fun p=>p.dst==some t&&p.guard.isNone&&(match p.op with | .move (.tmp u)=>(match tlk c s u with | .yl _=>true | _=>false) | _=>false)
  | _=>false
 | _=>false
def yIdx (Δ:List (FuncId×Ctr)) (s:TS A) (ops:List Oper):Option Nat:=
 if (alk Δ IM).isNone then none else match ops.findIdx (yCall c s ops) with
  | k=>if k<ops.length then some k else none
def yEnv (s:TS A):List (Nat×TV A):=s.env.map fun x=>(x.1,if x.2.pure then x.2 else .un)
def yTS (s:TS A) (d:Option Tmp) (b:Bool) (gv:TV A):TS A:=⟨(match d with | some d=>[(d,.kb b)] | none=>[])++(GS,gv)::yEnv s,[],s.n,false⟩
def kqb (Δ:List (FuncId×Ctr)) (s:TS A) (y:Oper) (Kf:TS A->A.Ans .un) (K:TS A->A.Ans ρ):A.Ans ρ:=
 match y.op,(alk Δ IM).bind (·.its.head?) with
 | .call cl,some ⟨_,[.nt],ts,F⟩=>match cl.callee with
  | .value f=>match tev c s f,alk s.env GS with
   | .yl id,some (.gs t ys)=>match tcast (.sl (tup ts)) ys,snapM c s ts (cl.args.toList.map (tev c s)) with
    | some ys,some (l,_)=>
     if id != 0||s.dy||!c.g.isEmpty||!(c.e0.all fun x=>x.2.pure||(x.1==0&&(match x.2 with | .yl _=>true | _=>false)))||!ts.all Ty.dat||y.guard.isSome||y.dst==some GS then A.fail "yield state" else match mkT A ts l with
     | some e=>A.p2 (x:=.sl (tup ts)) (y:=tup ts) (z:=.sl (tup ts)) (""++Ty.txt (tup ts)++ "") (fun ys e=>gpre (tup ts) (F (0:Nat)) ys e) ys e fun ys'=>
       A.chk (Kf (yTS s y.dst false .ud)) (K (yTS s y.dst true (.gs (tup ts) ys')))
     | none=>A.fail "yield types"
    | _,_=>A.fail "yield arguments"
   | _,_=>A.fail "yield"
  | _=>A.fail "yield"
 | _,_=>A.fail "yield"
def rndE (ps:List Tmp) (l:List ((t:Ty)×A.D t)) (env:List (Nat×TV A)):List (Nat×TV A):=(ps.zip l).foldl (fun e p=>(p.1,.c p.2.1 p.2.2)::e) env
def kqS (c:Cx A) (s:TS A):Option (A.D .un):=match alk s.env GS with | some .ud=>some (A.k0 (x:=.un) "" ()) | _=>none
def kvJ:Kon A .un .un:=⟨fun _=>A.fail "goes on after a stop",fun _ _=>A.fail "goes on after a stop",fun v=>A.ret v⟩
def mach (Δ:List (FuncId×Ctr)) (An:Nat->(A:Alg)->Cx A->TS A->Option La) (nt:Nat) :
  Nat->{A:Alg}->{r ρ:Ty}->(Cx A->TS A->Option (A.D r))->Cx A->List Code->Kon A r ρ->TS A->A.Ans ρ
 | 0,A,_,_,_,_,_,_,_=>A.fail "fuel"
 | fuel+1,A,r,ρ,res,c,cs,K,s=>match cs with
  | []=>K.nrm s
  | .skip::cs=>mach Δ An nt fuel res c cs K s
  | .seq a b::cs=>mach Δ An nt fuel res c (a::b::cs) K s
  | .ret::_=>match res c { s with dy:=false } with
   | some v=>K.retv v
   | none=>askR c s
  | .exit id::_=>K.ext id s
  | .region id ops draw::cs=>match yIdx c Δ s ops.toList with
   | some k=>
    match ops.toList[k]? with
    | none=>A.fail "yield place"
    | some y=>
     if okD c (ops.toList.map (·.dst))&&kaZ nt ops.toList&&y.guard.isNone&&(!draw||(P.follows .mixedOrders&&kcR ops.toList&&barOk ops.toList k)) then
      let K1:=fun (s1:TS A)=>kqb c Δ s1 y (fun s2=>xops P c Δ (ops.toList.map (·.dst)) (ops.toList.drop (k+1)) s2 fun s3=>mach Δ An nt fuel (r:=.un) (ρ:=.un) kqS c cs kvJ s3) fun s2=>xops P c Δ (ops.toList.map (·.dst)) (ops.toList.drop (k+1)) s2 fun s3=>mach Δ An nt fuel res c cs K s3
      if draw then drawT P c Δ nt (ops.toList.take k) { s with dy:=false } K1 else xops P c Δ (ops.toList.map (·.dst)) (ops.toList.take k) { s with dy:=false } K1
     else A.fail "yield region"
   | none=>
    let run:=fun (c:Cx A) {ρ:Ty} (s:TS A) (K:TS A->A.Ans ρ)=>if okD c (ops.toList.map (·.dst))&&kaZ nt ops.toList then (if draw then drawV P c Δ nt ops.toList { s with dy:=false } K else xops P c Δ (ops.toList.map (·.dst)) ops.toList { s with dy:=false } K) else A.fail "slot that stays"
    match An (4*id+2) A c s with
    | none=>run c s fun s=>mach Δ An nt fuel res c cs K s
    | some a=>
     let c':=inCx a c s
     if !okLa a c s then A.fail "pattern" else
     A.note a.tx<|A.jn (x:=a.out.ty) (run c' ⟨s.env.filter (fun x=>!a.keep.contains x.1),s.hp.filter (fun x=>!a.gids.contains x.1),s.n,s.dy⟩ fun s'=>match pack c' a.n a.out s' with
      | some y=>A.ret y
      | none=>A.fail "join of a region") fun y=>mach Δ An nt fuel res c cs K (outTS a c s y)
  | .cond x a b::cs=>match tev c s x with
   | .kb true=>mach Δ An nt fuel res c (a::cs) K s
   | .kb false=>mach Δ An nt fuel res c (b::cs) K s
   | .c .b v=>
    match An (match x with | .tmp t=>4*t+1 | _=>3) A c s with
    | none=>A.ite v (mach Δ An nt fuel res c (a::cs) K s) (mach Δ An nt fuel res c (b::cs) K s)
    | some l=>
     let c':=inCx l c s
     if !okLa l c s then A.fail "pattern" else
     let s1:TS A:=⟨s.env.filter (fun x=>!l.keep.contains x.1),s.hp.filter (fun x=>!l.gids.contains x.1),s.n,s.dy⟩
     A.note l.tx<|if l.ret then
      let K':Kon A r (.sm r l.out.ty):=⟨fun s'=>match pack c' l.n l.out s' with
       | some y=>A.ret (A.k1 (x:=l.out.ty) (y:=.sm r l.out.ty) "" Sum.inr y)
       | none=>A.fail "join",fun _ _=>A.fail "join exit",fun v=>A.ret (A.k1 (x:=r) (y:=.sm r l.out.ty) "" Sum.inl v)⟩
      A.jn (x:=.sm r l.out.ty) (A.ite v (mach Δ An nt fuel res c' [a] K' s1) (mach Δ An nt fuel res c' [b] K' s1)) fun z=>A.cs (x:=r) (y:=l.out.ty) z (fun v=>K.retv v) fun y=>mach Δ An nt fuel res c cs K (outTS l c s y)
     else
      let K':Kon A r l.out.ty:=⟨fun s'=>match pack c' l.n l.out s' with
       | some y=>A.ret y
       | none=>A.fail "join",fun _ _=>A.fail "join exit",fun _=>A.fail "join return"⟩
      A.jn (x:=l.out.ty) (A.ite v (mach Δ An nt fuel res c' [a] K' s1) (mach Δ An nt fuel res c' [b] K' s1)) fun y=>mach Δ An nt fuel res c cs K (outTS l c s y)
   | _=>A.fail "cond"
  | .block id (.loop b)::cs=>match An (4*id) A c s with
   | none=>A.fail "loop without a pattern"
   | some l=>
    let c':=inCx l c s
    if !okLa l c s then A.fail "pattern" else
    match pack c' s.n l.head ⟨s.env.filter (fun x=>!l.keep.contains x.1),s.hp.filter (fun x=>!l.gids.contains x.1),s.n,s.dy⟩ with
    | none=>A.fail "head of a loop"
    | some x=>
     A.note l.tx<|if l.ret then
      A.lp (x:=l.head.ty) (y:=.sm r l.out.ty) x (fun x=>
       mach Δ An nt fuel res c' [b] ⟨fun s'=>match pack c' s.n l.head s' with
         | some y=>A.ret (A.k1 (x:=l.head.ty) (y:=.sm l.head.ty (.sm r l.out.ty)) "" Sum.inl y)
         | none=>A.fail "round",
        fun id' s'=>if id'=id then match pack c' l.n l.out s' with
         | some y=>A.ret (A.k1 (x:=l.out.ty) (y:=.sm l.head.ty (.sm r l.out.ty)) "" (fun y=>Sum.inr (Sum.inr y)) y)
         | none=>A.fail "end of a loop" else A.fail "exit from a loop",
        fun v=>A.ret (A.k1 (x:=r) (y:=.sm l.head.ty (.sm r l.out.ty)) "" (fun y=>Sum.inr (Sum.inl y)) v)⟩ (kad l.head s.n x))
       fun z=>A.cs (x:=r) (y:=l.out.ty) z (fun v=>K.retv v) fun y=>mach Δ An nt fuel res c cs K (outTS l c s y)
     else
      A.lp (x:=l.head.ty) (y:=l.out.ty) x (fun x=>
       mach Δ An nt fuel res c' [b] ⟨fun s'=>match pack c' s.n l.head s' with
         | some y=>A.ret (A.k1 (x:=l.head.ty) (y:=.sm l.head.ty l.out.ty) "" Sum.inl y)
         | none=>A.fail "round",
        fun id' s'=>if id'=id then match pack c' l.n l.out s' with
         | some y=>A.ret (A.k1 (x:=l.out.ty) (y:=.sm l.head.ty l.out.ty) "" Sum.inr y)
         | none=>A.fail "end of a loop" else A.fail "exit from a loop",
        fun _=>A.fail "return from a loop"⟩ (kad l.head s.n x))
       fun y=>mach Δ An nt fuel res c cs K (outTS l c s y)
  | .block id (.rangeFunc f ps assign body)::cs=>
   if (alk Δ IM).isSome then A.fail "loop over a function in an iterator" else
   let s:TS A:=⟨s.env,s.hp,s.n,false⟩
   match tev c s f with
   | .fn g caps=>match (alk Δ g).bind (·.its.head?) with
    | none=>A.fail ""
    | some I=>match kda c Δ s I.as caps with
     | none=>A.fail ""
     | some (l,ids)=>match retire s ids,mkT A I.as l with
      | some s0,some a=>
       let s:TS A:=⟨s0.env,s0.hp,s0.n,false⟩
       match An (4*id) A c s with
       | none=>A.fail "loop without a pattern"
       | some l=>
        let c':=inCx l c s
        if !okLa l c s||!l.head.env.isEmpty||!l.out.env.isEmpty||!ps.toList.all (fun p=>(alk c'.e0 p).isNone&&decide (p<nt))||I.ts.length≠ps.size||!I.ts.all Ty.dat then A.fail "pattern" else
        match pack c' s.n l.head ⟨s.env.filter (fun x=>!l.keep.contains x.1),s.hp.filter (fun x=>!l.gids.contains x.1),s.n,s.dy⟩ with
        | none=>A.fail "head of a loop"
        | some x=>
         let res':=fun (c1:Cx A) (s1:TS A)=>res ⟨c'.e0,c1.g⟩ ⟨[],s1.hp,s1.n,s1.dy⟩
         let stT:Ty:=.pr (.i .i64) l.head.ty
         A.note l.tx<|A.p1 (x:=tup I.as) (y:=.sl (tup I.ts)) I.nm I.F a fun xs=>
         A.lp (x:=stT) (y:=.sm r l.out.ty) (A.k2 (x:=.i .i64) (y:=l.head.ty) (z:=stT) "" Prod.mk (toI A 0 .i64) x) (fun st=>
          let i:A.D (.i .i64):=A.k1 (x:=stT) (y:=.i .i64) "" Prod.fst st
          let hx:A.D l.head.ty:=A.k1 (x:=stT) (y:=l.head.ty) "" Prod.snd st
          let u:=kad l.head s.n hx
          A.ite (A.k2 (x:=.i .i64) (y:=.sl (tup I.ts)) (z:=.b) "" (fun (i:Int) xs=>decide (i<lenI xs)) i xs)
           (A.p2 (x:=.sl (tup I.ts)) (y:=.i .i64) (z:=tup I.ts) "" (fun l i=>gi l i) xs i fun e=>
            mach Δ An nt fuel res' c' [assign] ⟨fun s'=>mach Δ An nt fuel res' c' [body] ⟨fun s'=>match pack c' s.n l.head s' with
              | some y=>A.ret (A.k1 (x:=stT) (y:=.sm stT (.sm r l.out.ty)) "" Sum.inl (A.k2 (x:=.i .i64) (y:=l.head.ty) (z:=stT) "" Prod.mk (A.k1 (x:=.i .i64) (y:=.i .i64) "" (fun (i:Int)=>i+1) i) y))
              | none=>A.fail "round",
             fun id' s'=>if id'=id then match pack c' l.n l.out s' with
              | some y=>A.ret (A.k1 (x:=l.out.ty) (y:=.sm stT (.sm r l.out.ty)) "" (fun y=>Sum.inr (Sum.inr y)) y)
              | none=>A.fail "end of a loop" else A.fail "exit from a loop",
             fun v=>A.ret (A.k1 (x:=r) (y:=.sm stT (.sm r l.out.ty)) "" (fun y=>Sum.inr (Sum.inl y)) v)⟩ s',fun _ _=>A.fail "exit",fun _=>A.fail "exit"⟩ ⟨rndE ps.toList (unT A I.ts e) u.env,u.hp,u.n,u.dy⟩)
           (match pack c' l.n l.out u with
            | some y=>A.ret (A.k1 (x:=l.out.ty) (y:=.sm stT (.sm r l.out.ty)) "" (fun y=>Sum.inr (Sum.inr y)) y)
            | none=>A.fail "end of a loop"))
          fun z=>A.cs (x:=r) (y:=l.out.ty) z (fun v=>K.retv v) fun y=>mach Δ An nt fuel res c cs K (outTS l c s y)
      | _,_=>A.fail ""
   | _=>A.fail "loop over a function"
  | .block id b::cs=>mach Δ An nt fuel res c [b] ⟨fun s=>mach Δ An nt fuel res c cs K s,fun id' s=>if id'=id then mach Δ An nt fuel res c cs K s else K.ext id' s,K.retv⟩ s
  | _=>A.fail "code"
def cellX {A:Alg} (c:Cx A) (s:TS A) (T:TypeId) (v:TV A):Option (TV A):=
 match aggO P T with
 | none=>none
 | some ag=>match v with
  | .ptr id j=>match thp c s id with
   | some (.bx _ vs)=>if ag then (if j+P.cellsOf T<=vs.length then some (.ag ((vs.drop j).take (P.cellsOf T))) else none) else vs[j]?
   | some (.el _ t x)=>(comp t x j (P.cellsOf T) ag).map fun y=>.c y.1 y.2
   | _=>none
  | _=>none
def resX {A:Alg} (c:Cx A) (s:TS A):List ResultVar->(rs:List Ty)->Option (List ((t:Ty)×A.D t))
 | [],[]=>some []
 | .tmp t::l,r::rs=>(snapV c s r (tlk c s t)).bind fun x=>(resX c s l rs).map fun y=>⟨r,x.1⟩::y
 | .cell a T::l,r::rs=>(cellX P c s T (tlk c s a)).bind fun v=>(snapV c s r v).bind fun x=>(resX c s l rs).map fun y=>⟨r,x.1⟩::y
 | _,_=>none
def argT {A:Alg}:(t:Ty)->A.D t->TV A
 | .fn n x y,F=>.cv n x y F
 | t,x=>.c t x
def argsT {A:Alg} (as:List Ty) (x:A.D (tup as)) (n:Nat):TS A:=⟨(unT A as x).zipIdx.map fun y=>(y.2,argT y.1.1 y.1.2),[],n,false⟩
def machF (Δ:List (FuncId×Ctr)) (An:Nat->(A:Alg)->Cx A->TS A->Option La) (f:Func) (as rs:List Ty) {A:Alg} (x:A.D (tup as)):A.Ans (tup rs):=
 let res:=fun (c:Cx A) (s:TS A)=>(resX P c s f.results.toList rs).bind (mkT A rs)
 match f.body with
 | none=>A.fail "body"
 | some body=>mach P Δ An f.ntmps 1000000 res ⟨[],[]⟩ [body] ⟨fun s=>match res ⟨[],[]⟩ s with | some v=>A.ret v | none=>A.fail "result",fun _ _=>A.fail "exit",fun v=>A.ret v⟩ (argsT as x 0)
def oraC (ts:List Ty) (o:Option (List (tup ts).den)):Ctr:=⟨ "",[],[],fun _=>none,[],[⟨ "",[.nt],ts,fun _=>o⟩]⟩
def resI {A:Alg} (ts:List Ty) (c:Cx A) (s:TS A):Option (A.D (.sl (tup ts))):=
 match alk s.env GS with
 | some (.gs t ys)=>tcast (.sl (tup ts)) ys
 | some .ud=>some (A.k0 (x:=.sl (tup ts)) "" [])
 | _=>none
def machI (Δ:List (FuncId×Ctr)) (An:Nat->(A:Alg)->Cx A->TS A->Option La) (f:Func) (as ts:List Ty) (o:Option (List (tup ts).den)) {A:Alg} (x:A.D (tup as)):A.Ans (.sl (tup ts)):=
 match f.body with
 | none=>A.fail "body"
 | some body=>mach P ((IM,oraC ts o) :: Δ) An f.ntmps 1000000 (resI ts) ⟨[(0,.yl 0)],[]⟩ [body] ⟨fun s=>match resI ts ⟨[],[]⟩ s with | some v=>A.ret v | none=>A.fail "result",fun _ _=>A.fail "exit",fun v=>A.ret v⟩
   ⟨(GS,.gs (tup ts) (A.k0 (x:=.sl (tup ts)) "" []))::(unT A as x).zipIdx.map (fun y=>(y.2+1,argT y.1.1 y.1.2)),[],1,false⟩
def kbj {A:Alg}:List (Option Ty)->List ((t:Ty)×A.D t)->Nat->List (Nat×TV A)
 | some _::ks,p::l,i=>(i,argT p.1 p.2)::kbj ks l (i+1)
 | none::ks,l,i=>kbj ks l (i+1)
 | _,_,_=>[]
def kfv:List (Option Ty)->Nat->List Nat
 | some _::ks,i=>i::kfv ks (i+1)
 | none::ks,i=>kfv ks (i+1)
 | [],_=>[]
def resTV {A:Alg} (c:Cx A) (s:TS A):List ResultVar->Option (List (TV A))
 | []=>some []
 | .tmp t::l=>(resTV c s l).map fun vs=>tlk c s t::vs
 | .cell a T::l=>(cellX P c s T (tlk c s a)).bind fun v=>(resTV c s l).map fun vs=>v::vs
def endM {A:Alg} (c:Cx A) (s:TS A) (vs:List (TV A)):TS A:=⟨(vs.zipIdx.map fun x=>(1000000+x.2,x.1))++(s.env++c.e0),s.hp++c.g.map (fun x=>(x.1,some x.2)),s.n,false⟩
def resM {A:Alg} (C:CtrM) (l:List ResultVar) (c:Cx A) (s:TS A):Option (A.D C.out.ty):=
 (resTV P c s l).bind fun vs=>if vs.length=C.nr then (packM ⟨[],[]⟩ C.n1 C.out (endM c s vs) C.inn).bind fun m=>if m.sn.isEmpty&&C.inn.all (fun p=>alk m.ids p==some p) then mkT A C.out.tys m.cs else none else none
def CtrM.okS (C:CtrM):Bool:=
 decide (kfv C.ks 0++C.inp.env.map (·.1)).Nodup&&C.inp.env.all (fun x=>decide (x.1<C.ks.length))&&C.ok&&decide C.inn.Nodup &&
 C.out.env.all (fun x=>(decide (1000000<=x.1)&&decide (x.1<1000000+C.nr))||(decide (x.1<C.ks.length)&&match alk C.inp.env x.1 with | some (.mw _)=>true | some (.ptr _ _)=>true | some (.mp _)=>true | _=>false))
def kxq (Δ:List (FuncId×Ctr)) (An:Nat->(A:Alg)->Cx A->TS A->Option La) (f:Func) (C:CtrM) {A:Alg} (x:A.D (tup (C.ks.filterMap id++C.inp.tys))):A.Ans C.out.ty:=
 let l:=unT A (C.ks.filterMap id++C.inp.tys) x
 let u:=kak (A:=A) C.inp C.n0 (l.drop (C.ks.filterMap id).length)
 let c:Cx A:=⟨u.env.filter (fun x=>(alk C.out.env x.1).isSome)++C.inn.map (fun p=>(7000000+p,.kp p)),[]⟩
 match f.body with
 | none=>A.fail "body"
 | some body=>mach P Δ An f.ntmps 1000000 (resM P C f.results.toList) c [body] ⟨fun s=>if f.results.toList.isEmpty then (match resM P C [] c ⟨[],s.hp,s.n,false⟩ with | some v=>A.ret v | none=>askR c s) else if s.dy then A.fail "dirty end" else match resM P C f.results.toList c s with | some v=>A.ret v | none=>askR c s,fun _ _=>A.fail "exit",fun v=>A.ret v⟩ ⟨kbj C.ks (l.take (C.ks.filterMap id).length) 0++u.env.filter (fun x=>!(alk C.out.env x.1).isSome),u.hp,C.n0,false⟩
def anFit {A:Alg} (k:Nat) (a:La) (c:Cx A) (s:TS A):Bool:=
 okLa a c s&&(k % 4 != 0||(pack (inCx a c s) s.n a.head ⟨s.env.filter (fun x=>!a.keep.contains x.1),s.hp.filter (fun x=>!a.gids.contains x.1),s.n,s.dy⟩).isSome)
def anL (l:List (Nat×La)):Nat->(A:Alg)->Cx A->TS A->Option La:=fun k _ c s=>match l.filter fun x=>x.1==k with
 | []=>none
 | [x]=>match k % 4==0||anFit k x.2 c s with
  | true=>some x.2
  | false=>none
 | xs=>(xs.find? fun x=>anFit k x.2 c s).map (·.2)
end
theorem Snap.mono {z z':AH} (hz:∀ q B,z q=some B->z' q=some B) {a a':AV} (h:Snap z a a'):Snap z' a a':=by
 induction h with
 | free a hf=>exact .free a hf
 | nilS=>exact .nilS
 | own id i j k T es e cs hB he hl hr ih=>exact .own id i j k T es e cs (hz _ _ hB) he hl ih
 | ms id off len k T es es' hB hle hl hk hr ih=>exact .ms id off len k T es es' (hz _ _ hB) hle hl hk ih
 | fp cs cs' hl hr ih=>exact .fp cs cs' hl ih
 | sl es es' hl hk hr ih=>exact .sl es es' hl hk ih
 | fn f cs cs' hl hr ih=>exact .fn f cs cs' hl ih
 | ag cs cs' hl hr ih=>exact .ag cs cs' hl ih
 | tp cs cs' hl hr ih=>exact .tp cs cs' hl ih
theorem SnapL.mono {z z':AH} (hz:∀ q B,z q=some B->z' q=some B) {l l':List AV} (h:SnapL z l l'):SnapL z' l l':=by
 induction h with
 | nil=>exact .nil
 | cons h1 h2 ih=>exact .cons (h1.mono hz) ih
theorem SnapL.append {z:AH} {a a' b b':List AV} (h:SnapL z a a') (g:SnapL z b b'):SnapL z (a++b) (a'++b'):=by
 induction h with
 | nil=>exact g
 | cons h1 h2 ih=>exact .cons h1 ih
theorem SnapL.take {z:AH} {a a':List AV} (h:SnapL z a a'):∀ n,SnapL z (a.take n) (a'.take n):=by
 induction h with
 | nil=>intro n; simp; exact .nil
 | cons h1 h2 ih=>
  intro n
  cases n with
  | zero=>exact .nil
  | succ n=>simpa using SnapL.cons h1 (ih n)
theorem SnapL.drop {z:AH} {a a':List AV} (h:SnapL z a a'):∀ n,SnapL z (a.drop n) (a'.drop n):=by
 induction h with
 | nil=>intro n; simp; exact .nil
 | cons h1 h2 ih=>
  intro n
  cases n with
  | zero=>exact .cons h1 h2
  | succ n=>simpa using ih n
theorem SnapL.of_at {z:AH}:∀ {l l':List AV},l'.length=l.length->(∀ (q:Nat) (c c':AV),l[q]?=some c->l'[q]?=some c'->Snap z c c')->SnapL z l l'
 | [],[],_,_=>.nil
 | a::l,a'::l',hl,h=>.cons (h 0 a a' rfl rfl) (SnapL.of_at (by simpa using hl) fun q c c' hq hq'=>h (q+1) c c' (by simpa using hq) (by simpa using hq'))
theorem SnapL.splitR {z:AH}:∀ {a' b' l:List AV},SnapL z l (a'++b')->∃ a b,l=a++b/\SnapL z a a'/\SnapL z b b'
 | [],b',l,h=>⟨[],l,rfl,.nil,h⟩
 | x::a',b',_,.cons h1 h2=>by
  obtain ⟨a,b,rfl,g1,g2⟩:=SnapL.splitR h2
  exact ⟨_::a,b,rfl,.cons h1 g1,g2⟩
theorem Snap.ag_inv {z:AH} {a:AV} {cs':List AV} (h:Snap z a (.ag cs')):∃ cs,a = .ag cs/\SnapL z cs cs':=by
 cases h with
 | free _ hf=>exact ⟨_,rfl,SnapL.free ((knS _).1 hf)⟩
 | ag cs _ hl hr=>exact ⟨cs,rfl,SnapL.of_at hl hr⟩
theorem Snap.sc_inv {z:AH} {a:AV} {v:Value} (h:Snap z a (.sc v)):a = .sc v:=by cases h; rfl
theorem Snap.fp_inv {z:AH} {a:AV} {cs':List AV} (h:Snap z a (.fp cs')):(∃ cs,a = .fp cs/\SnapL z cs cs')\/∃ id i j k T es e,a = .own id i j/\z id=some (.cells k T es)/\es[i]?=some e/\SnapL z (e.drop j) cs':=by
 cases h with
 | free _ hf=>exact .inl ⟨_,rfl,SnapL.free ((kif _).1 hf)⟩
 | own id i j k T es e cs hB he hl hr=>exact .inr ⟨id,i,j,k,T,es,e,rfl,hB,he,SnapL.of_at hl hr⟩
 | fp cs _ hl hr=>exact .inl ⟨cs,rfl,SnapL.of_at hl hr⟩
def SnapE (z:AH) (es es':List (List AV)):Prop:=es'.length=es.length/\∀ (q:Nat) (e e':List AV),es[q]?=some e->es'[q]?=some e'->SnapL z e e'
theorem SnapE.free {z:AH} {es:List (List AV)} (h:∀ e∈es,FreeL e):SnapE z es es:=⟨rfl,fun q e e' hq hq'=>by rw [hq] at hq'; cases hq'; exact SnapL.free (h e (jag hq))⟩
theorem SnapE.mono {z z':AH} (hz:∀ q B,z q=some B->z' q=some B) {es es':List (List AV)} (h:SnapE z es es'):SnapE z' es es':=⟨h.1,fun q e e' hq hq'=>(h.2 q e e' hq hq').mono hz⟩
theorem Snap.of_sl {z:AH} {es es':List (List AV)} (h:SnapE z es es'):Snap z (.sl es) (.sl es'):=
 .sl es es' h.1 (fun q e e' hq hq'=>(h.2 q e e' hq hq').len) fun q e e' hq hq'=>(h.2 q e e' hq hq').at
theorem Snap.of_ms {z:AH} {id off len k:Nat} {T:TypeId} {es es':List (List AV)} (hB:z id=some (.cells k T es)) (hle:off+len<=es.length) (h:SnapE z ((es.drop off).take len) es'):Snap z (.ms id off len) (.sl es'):=by
 have hlen:es'.length=len:=by rw [h.1,jbh,jdo]; omega
 have key:∀ q e e',es[off+q]?=some e->es'[q]?=some e'->SnapL z e e':=fun q e e' hq hq'=>by
  have hlt:q<len:=by have:=(jad.1 hq').1; omega
  exact h.2 q e e' (by rw [jbn,if_pos hlt,jaq]; exact hq) hq'
 exact .ms id off len k T es es' hB hle hlen (fun q e e' hq hq'=>(key q e e' hq hq').len) fun q e e' hq hq'=>(key q e e' hq hq').at
theorem Snap.sl_inv {z:AH} {a:AV} {es':List (List AV)} (h:Snap z a (.sl es')) :
  (∃ es,a = .sl es/\SnapE z es es')\/(a=Abs.nilS/\es'=[])\/∃ id off len k T es,a = .ms id off len/\z id=some (.cells k T es)/\off+len<=es.length/\SnapE z ((es.drop off).take len) es':=by
 cases h with
 | free _ hf=>exact .inl ⟨_,rfl,SnapE.free ((knR _).1 hf)⟩
 | nilS=>exact .inr (.inl ⟨rfl,rfl⟩)
 | ms id off len k T es _ hB hle hl hk hr=>
  refine .inr (.inr ⟨id,off,len,k,T,es,rfl,hB,hle,by rw [hl,jbh,jdo]; omega,fun q e e' hq hq'=>?_⟩)
  have hlt:q<len:=by have:=(jad.1 hq').1; omega
  rw [jbn,if_pos hlt,jaq] at hq
  exact SnapL.of_at (hk q e e' hq hq') (hr q e e' hq hq')
 | sl es _ hl hk hr=>exact .inl ⟨es,rfl,hl,fun q e e' hq hq'=>SnapL.of_at (hk q e e' hq hq') (hr q e e' hq hq')⟩
theorem koG {α β:Type} {k:Nat} {f:α->List β} (hf:∀ y,(f y).length=k):∀ l:List α,(l.map f).flatten.length=l.length*k
 | []=>by simp
 | x::l=>by simp [koG hf l,hf x,Nat.succ_mul,Nat.add_comm]
theorem kaf:∀ (t:Ty) (x:t.den),t.dat=true->(t.enc x).length=t.wd
 | .i _,_,_ | .b,_,_ | .s,_,_ | .un,_,_ | .sl _,_,_ | .pt _,_,_=>rfl
 | .op _,_,_=>rfl
 | .pr a b,x,h=>by
  simp only [Ty.dat,jac] at h
  show (a.enc x.1++b.enc x.2).length=a.wd+b.wd
  rw [jbg,kaf a x.1 h.1,kaf b x.2 h.2]
 | .w a,x,h=>by simpa [Ty.enc,Ty.wd] using kaf a x h
 | .ar n a,x,h=>by
  simp only [Ty.enc,Ty.wd]
  rw [koG (fun y=>kaf a y h),x.h]
theorem kaQ:∀ (t:Ty) (x:t.den),t.dat=true->∀ a∈t.enc x,a.one=true
 | .i _,_,_ | .b,_,_ | .s,_,_ | .sl _,_,_ | .pt _,_,_=>by intro a ha; simp [Ty.enc] at ha; subst ha; rfl
 | .un,_,_=>by intro a ha; simp [Ty.enc] at ha
 | .op _,x,_=>by intro a ha; simp [Ty.enc] at ha; subst ha; cases x <;> rfl
 | .pr a b,x,h=>by
  simp only [Ty.dat,jac] at h
  intro v hv
  replace hv:v∈a.enc x.1++b.enc x.2:=hv
  rw [jaz] at hv
  rcases hv with hv | hv
  ·exact kaQ a x.1 h.1 v hv
  ·exact kaQ b x.2 h.2 v hv
 | .w a,x,h=>kaQ a x h
 | .ar n a,x,h=>by
  intro v hv
  simp only [Ty.enc,List.mem_flatten,jay] at hv
  obtain ⟨l,⟨y,_,rfl⟩,hv⟩:=hv
  exact kaQ a y h v hv
theorem kbl:∀ (t:Ty) (x:t.den),t.dat=true->FreeL (t.enc x)
 | .i _,_,_ | .b,_,_ | .s,_,_=>by simp [Ty.enc]
 | .un,_,_=>by simp [Ty.enc]
 | .sl a,l,h=>by
  simp only [Ty.enc,kbv,kfo,and_true,knR]
  intro e he
  obtain ⟨y,_,rfl⟩:=jay.1 he
  exact kbl a y h
 | .pt a,x,h=>by simpa [Ty.enc] using kbl a x h
 | .op a,x,h=>by
  simp only [Ty.enc,kbv,kfo,and_true]
  exact kwR (fun y=>kbl a y h) x
 | .pr a b,x,h=>by
  simp only [Ty.dat,jac] at h
  exact (ktN (a.enc x.1) (b.enc x.2)).2 ⟨kbl a x.1 h.1,kbl b x.2 h.2⟩
 | .w a,x,h=>kbl a x h
 | .ar n a,x,h=>by
  intro v hv
  simp only [Ty.enc,List.mem_flatten,jay] at hv
  obtain ⟨l,⟨y,_,rfl⟩,hv⟩:=hv
  exact kbl a y h v hv
theorem kgq {t:Ty} (h:t.agg=true) (x:t.den):t.av x = .ag (t.enc x):=by simp [Ty.av,h]
theorem kgj {t:Ty} (h:t.agg=false) (hd:t.dat=true) (x:t.den):t.enc x=[t.av x]:=by
 cases t <;> simp [Ty.agg,Ty.dat] at h hd <;> rfl
theorem kgR (t:Ty) (x:t.den) (hd:t.dat=true):Free (t.av x):=by
 cases h:t.agg with
 | true=>rw [kgq h]; exact (knS _).2 (kbl t x hd)
 | false=>have:=kbl t x hd; rw [kgj h hd,kbv] at this; exact this.1
theorem kwL {t:Ty} (h:t.agg=false) (hd:t.dat=true):t.wd=1:=by cases t <;> simp [Ty.agg,Ty.dat] at h hd <;> rfl
def avsN:Nat->(x:Ty)->x.den->List AV
 | 0,_,_=>[]
 | 1,t,v=>[t.av v]
 | n+2,.pr a b,v=>a.av v.1::avsN (n+1) b v.2
 | _+2,t,v=>[t.av v]
section
variable (P:Program)
def CV (n:Nat) (x y:Ty) (F:x.den->Option y.den) (a:AV):Prop:=
 ∃ g as,a = .fn g as/\FreeL as/\(untup n x).length=n/\(untup n x).all Ty.dat=true/\y.dat=true/\∀ v r,F v=some r->PC P g (avsN n x v++as) (·= y.av r)
def decN:Nat->Nat->List Nat
 | 0,_=>[]
 | f+1,m=>if m=0 then [] else
  if m % 2=0 then (match decN f (m / 2) with | []=>[] | a::l=>(a+1)::l) else 0::decN f (m / 2)
def encN:List Nat->Nat
 | []=>0
 | a::l=>2 ^ a*(2*encN l+1)
def knb:List Nat->List (Option Nat×Nat)
 | r::m::l=>(if r=0 then none else some (r-1),m)::knb l
 | _=>[]
def kkb:List (Option Nat×Nat)->List Nat
 | []=>[]
 | (r,m)::l=>(match r with | none=>0 | some r=>r+1)::m::kkb l
def kac (x:Nat):List (Option Nat×Nat):=knb (decN x x)
theorem ktp (a:Nat) (l:List Nat):0<encN (a::l):=by
 unfold encN
 exact Nat.mul_pos (Nat.pow_pos (by omega)) (by omega)
theorem kpD:∀ (f:Nat) (l:List Nat),encN l<=f->decN f (encN l)=l
 | 0,[],_=>rfl
 | 0,a::l,h=>by have:=ktp a l; omega
 | f+1,[],_=>by simp [encN,decN]
 | f+1,0::l,h=>by
  have e:encN (0::l)=2*encN l+1:=by simp [encN]
  rw [e] at h ⊢
  unfold decN
  rw [if_neg (by omega),if_neg (by omega),show (2*encN l+1) / 2=encN l by omega,kpD f l (by omega)]
 | f+1,(a+1)::l,h=>by
  have e:encN ((a+1)::l)=2*encN (a::l):=by simp only [encN]; rw [Nat.pow_succ,Nat.mul_comm (2 ^ a) 2,Nat.mul_assoc]
  have hp:=ktp a l
  rw [e] at h ⊢
  unfold decN
  rw [if_neg (by omega),if_pos (by omega),show 2*encN (a::l) / 2=encN (a::l) by omega,kpD f (a::l) (by omega)]
theorem kiS:∀ (l:List (Option Nat×Nat)),knb (kkb l)=l
 | []=>rfl
 | (none,m)::l=>by simp [kkb,knb,kiS l]
 | (some r,m)::l=>by simp [kkb,knb,kiS l]
def codeR (l:List (Option Nat×Nat)):Nat:=encN (kkb l)
theorem kbq (l:List (Option Nat×Nat)):kac (codeR l)=l:=by
 unfold kac codeR
 rw [kpD _ _ (jah _),kiS]
mutual
inductive TVR (κ:Nat->Option Nat) (ln:Nat->Nat) (z:AH) (N:Nat):TV sem->AV->Prop
 | un (a:AV):TVR κ ln z N .un a
 | ud:TVR κ ln z N .ud .ud
 | c (t:Ty) (x:t.den) (a:AV) (hd:t.dat=true) (h:Snap z a (t.av x)):TVR κ ln z N (.c t x) a
 | kb (b:Bool):TVR κ ln z N (.kb b) (.sc (.bool b))
 | sc (v:Value) (h1:v.oneCell'=true):TVR κ ln z N (.sc v) (.sc v)
 | ptr (id j q:Nat) (hN:id<N) (h:κ id=some q):TVR κ ln z N (.ptr id j) (.own q 0 j)
 | adr (id:Nat) (i:Int) (j q:Nat) (hN:id<N) (h:κ id=some q) (h0:0<=i) (h1:i.toNat<ln id):TVR κ ln z N (.adr id i j) (.own q i.toNat j)
 | aa (id:Nat) (i:Int) (q:Nat) (hN:id<N) (h:κ id=some q) (h0:0<=i) (h1:i.toNat<ln id):TVR κ ln z N (.aa id i) (.own q 0 i.toNat)
 | fq (t:Ty) (x:t.den) (o:Nat) (a:AV) (hd:t.dat=true) (h:Snap z a (.fp ((t.enc x).drop o))):TVR κ ln z N (.fq t x o) a
 | mw0 (id:Nat) (hN:id<N) (h:κ id=none):TVR κ ln z N (.mw id) nilS
 | mw (id q:Nat) (hN:id<N) (h:κ id=some q):TVR κ ln z N (.mw id) (.ms q 0 (ln id))
 | ms0 (id:Nat) (off len:Int) (hN:id<N) (h:κ id=none) (ho:off=0) (hl:len=0):TVR κ ln z N (.ms id off len) nilS
 | ms (id:Nat) (off len:Int) (q:Nat) (hN:id<N) (h:κ id=some q) (h0:0<=off) (h1:0<=len) (h2:off+len<=ln id):TVR κ ln z N (.ms id off len) (.ms q off.toNat len.toNat)
 | mp (id q:Nat) (hN:id<N) (h:κ id=some q):TVR κ ln z N (.mp id) (.mp q)
 | fw0 (id:Nat) (hN:id<N) (h:κ id=none):TVR κ ln z N (.fw id) nilS
 | fw (id q:Nat) (hN:id<N) (h:κ id=some q):TVR κ ln z N (.fw id) (.ms q 0 (kac (ln id)).length)
 | fr0 (id:Nat) (i:Int) (m:Nat) (hN:id<N) (h0:0<=i) (h:(kac (ln id))[i.toNat]?=some (none,m)):TVR κ ln z N (.fr id i) nilS
 | fr (id:Nat) (i:Int) (r m:Nat) (hN:id<N) (h0:0<=i) (h:(kac (ln id))[i.toNat]?=some (some r,m)):TVR κ ln z N (.fr id i) (.ms r 0 m)
 | fo (id:Nat) (i:Int) (j q:Nat) (hN:id<N) (h:κ id=some q) (h0:0<=i) (h1:i.toNat<(kac (ln id)).length):TVR κ ln z N (.fo id i j) (.own q i.toNat j)
 | fa (id:Nat) (i k:Int) (o r m:Nat) (hN:id<N) (h0:0<=i) (h:(kac (ln id))[i.toNat]?=some (some r,m)) (hk:0<=k) (hm:k.toNat<m):TVR κ ln z N (.fa id i k o) (.own r k.toNat o)
 | fn (g:FuncId) (vs:List (TV sem)) (as:List AV) (h:TVRs κ ln z N vs as):TVR κ ln z N (.fn g vs) (.fn g as)
 | cv (n:Nat) (x y:Ty) (F:x.den->Option y.den) (a:AV) (h:CV P n x y F a):TVR κ ln z N (.cv n x y F) a
 | tp (vs:List (TV sem)) (as:List AV) (h:TVRs κ ln z N vs as):TVR κ ln z N (.tp vs) (.tp as)
 | ag (vs:List (TV sem)) (as:List AV) (h:TVRs κ ln z N vs as) (h1:∀ a∈as,a.one=true):TVR κ ln z N (.ag vs) (.ag as)
 | gs (t:Ty) (l:List t.den):TVR κ ln z N (.gs t l) (.gs (l.map t.enc))
 | yl (id q:Nat) (hN:id<N) (h:κ id=some q):TVR κ ln z N (.yl id) (.sc (.func (.yield q) #[] #[]))
 | kp (id:Nat) (hN:id<N):TVR κ ln z N (.kp id) .un
inductive TVRs (κ:Nat->Option Nat) (ln:Nat->Nat) (z:AH) (N:Nat):List (TV sem)->List AV->Prop
 | nil:TVRs κ ln z N [] []
 | cons (v:TV sem) (a:AV) (vs:List (TV sem)) (as:List AV) (h:TVR κ ln z N v a) (hs:TVRs κ ln z N vs as):TVRs κ ln z N (v::vs) (a::as)
end
variable {P}
variable {κ κ':Nat->Option Nat} {ln ln':Nat->Nat} {z z':AH} {N N':Nat}
mutual
theorem TVR.mono (hκ:∀ id,id<N->κ' id = κ id) (hln:∀ id,id<N->ln' id=ln id) (hz:∀ q B,z q=some B->z' q=some B) (hN:N<=N'):∀ {v:TV sem} {a:AV},TVR P κ ln z N v a->TVR P κ' ln' z' N' v a
 | _,_,.un a=>.un a
 | _,_,.ud=>.ud
 | _,_,.c t x a hd h=>.c t x a hd (h.mono hz)
 | _,_,.kb b=>.kb b
 | _,_,.sc v h1=>.sc v h1
 | _,_,.ptr id j q hi h=>.ptr id j q (by omega) (by rw [hκ id hi]; exact h)
 | _,_,.adr id i j q hi h h0 h1=>.adr id i j q (by omega) (by rw [hκ id hi]; exact h) h0 (by rw [hln id hi]; exact h1)
 | _,_,.aa id i q hi h h0 h1=>.aa id i q (by omega) (by rw [hκ id hi]; exact h) h0 (by rw [hln id hi]; exact h1)
 | _,_,.fq t x o a hd h=>.fq t x o a hd (h.mono hz)
 | _,_,.mw0 id hi h=>.mw0 id (by omega) (by rw [hκ id hi]; exact h)
 | _,_,.mw id q hi h=>by rw [<-hln id hi]; exact .mw id q (by omega) (by rw [hκ id hi]; exact h)
 | _,_,.ms0 id off len hi h ho hl=>.ms0 id off len (by omega) (by rw [hκ id hi]; exact h) ho hl
 | _,_,.ms id off len q hi h h0 h1 h2=>.ms id off len q (by omega) (by rw [hκ id hi]; exact h) h0 h1 (by rw [hln id hi]; exact h2)
 | _,_,.mp id q hi h=>.mp id q (by omega) (by rw [hκ id hi]; exact h)
 | _,_,.fw0 id hi h=>.fw0 id (by omega) (by rw [hκ id hi]; exact h)
 | _,_,.fw id q hi h=>by rw [<-hln id hi]; exact .fw id q (by omega) (by rw [hκ id hi]; exact h)
 | _,_,.fr0 id i m hi h0 h=>.fr0 id i m (by omega) h0 (by rw [hln id hi]; exact h)
 | _,_,.fr id i r m hi h0 h=>.fr id i r m (by omega) h0 (by rw [hln id hi]; exact h)
 | _,_,.fo id i j q hi h h0 h1=>.fo id i j q (by omega) (by rw [hκ id hi]; exact h) h0 (by rw [hln id hi]; exact h1)
 | _,_,.fa id i k o r m hi h0 h hk hm=>.fa id i k o r m (by omega) h0 (by rw [hln id hi]; exact h) hk hm
 | _,_,.fn g vs as h=>.fn g vs as (TVRs.mono hκ hln hz hN h)
 | _,_,.cv n x y F a h=>.cv n x y F a h
 | _,_,.tp vs as h=>.tp vs as (TVRs.mono hκ hln hz hN h)
 | _,_,.ag vs as h h1=>.ag vs as (TVRs.mono hκ hln hz hN h) h1
 | _,_,.gs t l=>.gs t l
 | _,_,.yl id q hi h=>.yl id q (by omega) (by rw [hκ id hi]; exact h)
 | _,_,.kp id hi=>.kp id (by omega)
theorem TVRs.mono (hκ:∀ id,id<N->κ' id = κ id) (hln:∀ id,id<N->ln' id=ln id) (hz:∀ q B,z q=some B->z' q=some B) (hN:N<=N'):∀ {v:List (TV sem)} {a:List AV},TVRs P κ ln z N v a->TVRs P κ' ln' z' N' v a
 | _,_,.nil=>.nil
 | _,_,.cons v a vs as h hs=>.cons v a vs as (TVR.mono hκ hln hz hN h) (TVRs.mono hκ hln hz hN hs)
end
theorem TVRs.len:∀ {vs:List (TV sem)} {as:List AV},TVRs P κ ln z N vs as->as.length=vs.length
 | _,_,.nil=>rfl
 | _,_,.cons _ _ _ _ _ h=>by simp [h.len]
theorem TVRs.append:∀ {vs:List (TV sem)} {as:List AV} {us:List (TV sem)} {bs:List AV},TVRs P κ ln z N vs as->TVRs P κ ln z N us bs->TVRs P κ ln z N (vs++us) (as++bs)
 | _,_,_,_,.nil,g=>g
 | _,_,_,_,.cons v a vs as h hs,g=>.cons v a _ _ h (hs.append g)
theorem TVRs.take:∀ {vs:List (TV sem)} {as:List AV},TVRs P κ ln z N vs as->∀ n,TVRs P κ ln z N (vs.take n) (as.take n)
 | _,_,.nil,n=>by simp; exact .nil
 | _,_,.cons v a vs as h hs,0=>.nil
 | _,_,.cons v a vs as h hs,n+1=>by simpa using TVRs.cons v a _ _ h (hs.take n)
theorem TVRs.drop:∀ {vs:List (TV sem)} {as:List AV},TVRs P κ ln z N vs as->∀ n,TVRs P κ ln z N (vs.drop n) (as.drop n)
 | _,_,.nil,n=>by simp; exact .nil
 | _,_,.cons v a vs as h hs,0=>.cons v a vs as h hs
 | _,_,.cons v a vs as h hs,n+1=>by simpa using hs.drop n
theorem TVRs.at:∀ {vs:List (TV sem)} {as:List AV},TVRs P κ ln z N vs as->∀ {j:Nat} {v:TV sem},vs[j]?=some v->∃ a,as[j]?=some a/\TVR P κ ln z N v a
 | _,_,.nil,j,v,hj=>by simp at hj
 | _,_,.cons v a vs as h hs,0,u,hj=>by simp at hj; subst hj; exact ⟨a,rfl,h⟩
 | _,_,.cons v a vs as h hs,j+1,u,hj=>by simpa using hs.at (j:=j) (by simpa using hj)
def valsK:(k:Ty)->k.den->List Value
 | .i k,x=>[.int k x]
 | .s,x=>[ks x]
 | .b,x=>[.bool x]
 | .w a,x=>valsK a x
 | .pr a b,x=>valsK a x.1++valsK b x.2
 | .ar _ a,x=>(x.l.map (valsK a)).flatten
 | _,_=>[]
def keyV:(k:Ty)->k.den->Value
 | .i k,x=>.int k x
 | .s,x=>ks x
 | .b,x=>.bool x
 | k,x=>.agg (valsK k x).toArray
def FamE (z h:AH) (j:Nat) (U:TypeId) (w:Nat) (cs e:List AV) (rm:Option Nat×Nat):Prop:=
 e.length=cs.length/\(∀ (q:Nat) (a a':AV),q≠j->e[q]?=some a->cs[q]?=some a'->Snap z a a')/\∃ ys,cs[j]?=some (.sl ys)/\rm.2=ys.length/\
  match rm.1 with
  | none=>e[j]?=some nilS/\ys=[]
  | some r=>e[j]?=some (.ms r 0 rm.2)/\∃ es,h r=some (.cells w U es)/\SnapE z es ys/\∀ x∈es,x.length=w/\∀ a∈x,a.one=true
theorem FamE.mono {z z' h h':AH} {j w:Nat} {U:TypeId} {cs e:List AV} {rm:Option Nat×Nat} (hz:∀ q B,z q=some B->z' q=some B) (hh:∀ r B,rm.1=some r->h r=some B->h' r=some B) (f:FamE z h j U w cs e rm):FamE z' h' j U w cs e rm:=by
 obtain ⟨h1,h2,ys,h3,h4,h5⟩:=f
 refine ⟨h1,fun q a a' hq ha ha'=>(h2 q a a' hq ha ha').mono hz,ys,h3,h4,?_⟩
 obtain ⟨r,m⟩:=rm
 cases r with
 | none=>exact h5
 | some r=>
  obtain ⟨g1,es,g2,g3,g4⟩:=h5
  exact ⟨g1,es,hh r _ rfl g2,g3.mono hz,g4⟩
def kam (x:Nat):List Nat:=(kac x).filterMap (·.1)
variable (P) in
inductive BR (κ:Nat->Option Nat) (ln:Nat->Nat) (z h:AH) (N id:Nat):TB sem->Prop
 | bx (T:TypeId) (vs:List (TV sem)) (q:Nat) (as:List AV) (hq:κ id=some q) (hh:h q=some (.cells vs.length T [as])) (hv:TVRs P κ ln z N vs as) (h1:∀ a∈as,a.one=true):BR κ ln z h N id (.bx T vs)
 | el (T:TypeId) (t:Ty) (x:t.den) (q:Nat) (cs:List AV) (hd:t.dat=true) (hq:κ id=some q) (hh:h q=some (.cells t.wd T [cs])) (hv:SnapL z cs (t.enc x)) (h1:∀ a∈cs,a.one=true) (hl:∀ n u,t = .ar n u->ln id=n):BR κ ln z h N id (.el T t x)
 | sl0 (T:TypeId) (t:Ty) (l:List t.den) (hd:t.dat=true) (hq:κ id=none) (hl:l=[]) (hn:ln id=0):BR κ ln z h N id (.sl T t l)
 | sl (T:TypeId) (t:Ty) (l:List t.den) (q:Nat) (es:List (List AV)) (hd:t.dat=true) (hq:κ id=some q) (hh:h q=some (.cells t.wd T es)) (hv:SnapE z es (l.map t.enc)) (h1:∀ e∈es,∀ a∈e,a.one=true) (hn:l.length=ln id):BR κ ln z h N id (.sl T t l)
 | mp (k v:Ty) (l:List (k.den×v.den)) (q:Nat) (hk:isKey k=true) (hf:v.flat=true) (hq:κ id=some q) (hh:h q=some (.map (l.map fun p=>(keyV k p.1,v.av p.2)))):BR κ ln z h N id (.mp k v l)
 | si (x:List UInt8×Int) (q:Nat) (hq:κ id=some q) (h0:0<=x.2) (hh:h q=some (.si ⟨x.1.toArray⟩ x.2.toNat)):BR κ ln z h N id (.si x)
 | fm0 (T:TypeId) (t:Ty) (j:Nat) (U:TypeId) (u:Ty) (l:List t.den) (ho:Option Int) (hd:t.dat=true) (hq:κ id=none) (hl:l=[]) (hn:ln id=0):BR κ ln z h N id (.fm T t j U u l ho)
 | fm (T:TypeId) (t:Ty) (j:Nat) (U:TypeId) (u:Ty) (l:List t.den) (ho:Option Int) (q:Nat) (es:List (List AV)) (hd:t.dat=true) (hq:κ id=some q) (hh:h q=some (.cells t.wd T es)) (hn:l.length=(kac (ln id)).length) (hl:es.length=l.length)
   (hv:∀ (i:Nat) (x:t.den) (e:List AV) (rm:Option Nat×Nat),l[i]?=some x->es[i]?=some e->(kac (ln id))[i]?=some rm->ho≠some (i:Int)->FamE z h j U u.wd (t.enc x) e rm) (h0:∀ (i:Nat) (rm:Option Nat×Nat),ho=some (i:Int)->(kac (ln id))[i]?=some rm->rm.1=none) (h1:∀ e∈es,e.length=t.wd/\∀ a∈e,a.one=true):BR κ ln z h N id (.fm T t j U u l ho)
end
def FamOk (κ:Nat->Option Nat) (ln:Nat->Nat) (z:AH) (c:Cx sem) (s:TS sem) (n:Nat):Prop:=
 ∀ id B,thp c s id=some B->B.isF=true->(kam (ln id)).Nodup/\∀ r∈kam (ln id),r<n/\z r=none/\(∀ j B',thp c s j=some B'->κ j≠some r)/\∀ j B',thp c s j=some B'->B'.isF=true->r∈kam (ln j)->j=id
structure Rel (P:Program) (κ:Nat->Option Nat) (ln:Nat->Nat) (z:AH) (c:Cx sem) (s:TS sem) (env:Env) (h:AH) (n:Nat):Prop where
 env:∀ x,TVR P κ ln z s.n (tlk c s x) (lk env x)
 blk:∀ id B,thp c s id=some B->BR P κ ln z h s.n id B
 lt:∀ id B,thp c s id=some B->id<s.n
 inj:∀ i j B B' q,thp c s i=some B->thp c s j=some B'->κ i=some q->κ j=some q->i=j
 zin:∀ q B,z q=some B->h q=some B
 zout:∀ id B q,thp c s id=some B->κ id=some q->z q=none
 bnd:∀ id B q,thp c s id=some B->κ id=some q->q<n
 hn:∀ q,n<=q->h q=none
 e0:∀ x v,alk s.env x=some v->alk c.e0 x=none
 g:∀ id b,alk s.hp id=some b->alk c.g id=none
 dy:s.dy=false->z=fun _=>none
 zk:∀ q k T es,z q=some (.cells k T es)->∀ e∈es,e.length=k
 fam:FamOk κ ln z c s n
section
variable {P:Program} {κ:Nat->Option Nat} {ln:Nat->Nat} {z:AH} {c:Cx sem} {s:TS sem} {env:Env} {h:AH} {n:Nat}
def Ow (κ:Nat->Option Nat) (ln:Nat->Nat) (id:Nat) (B:TB sem) (q:Nat):Prop:=κ id=some q\/(B.isF=true/\q∈kam (ln id))
theorem kay {x i r m:Nat} (h:(kac x)[i]?=some (some r,m)):r∈kam x:=jce.2 ⟨_,jag h,rfl⟩
theorem Rel.owI (R:Rel P κ ln z c s env h n) {i j q:Nat} {B B':TB sem} (hi:thp c s i=some B) (hj:thp c s j=some B') (ki:Ow κ ln i B q) (kj:Ow κ ln j B' q):i=j:=by
 rcases ki with ki | ⟨f1,ki⟩
 ·rcases kj with kj | ⟨f2,kj⟩
  ·exact R.inj i j B B' q hi hj ki kj
  ·exact absurd ki (((R.fam j B' hj f2).2 q kj).2.2.1 i B hi)
 ·rcases kj with kj | ⟨f2,kj⟩
  ·exact absurd kj (((R.fam i B hi f1).2 q ki).2.2.1 j B' hj)
  ·exact (((R.fam i B hi f1).2 q ki).2.2.2 j B' hj f2 kj).symm
theorem Rel.owN (R:Rel P κ ln z c s env h n) {i q:Nat} {B:TB sem} (hi:thp c s i=some B) (ki:Ow κ ln i B q):q<n:=by
 rcases ki with ki | ⟨f,ki⟩
 ·exact R.bnd i B q hi ki
 ·exact ((R.fam i B hi f).2 q ki).1
theorem Rel.owZ (R:Rel P κ ln z c s env h n) {i q:Nat} {B:TB sem} (hi:thp c s i=some B) (ki:Ow κ ln i B q):z q=none:=by
 rcases ki with ki | ⟨f,ki⟩
 ·exact R.zout i B q hi ki
 ·exact ((R.fam i B hi f).2 q ki).2.1
def ows (κ:Nat->Option Nat) (ln:Nat->Nat) (c:Cx sem) (s:TS sem) (id:Nat):List Nat:=(κ id).toList++(if (thp c s id).any TB.isF then kam (ln id) else [])
theorem ows_k {id q:Nat} (hk:κ id=some q):q∈ows κ ln c s id:=by simp [ows,hk]
theorem ows_r {id q:Nat} {B:TB sem} (hB:thp c s id=some B) (hf:B.isF=true) (hr:q∈kam (ln id)):q∈ows κ ln c s id:=by simp [ows,hB,hf,hr]
theorem kcP {id q:Nat} {B:TB sem} (hB:thp c s id=some B) (h:q∈ows κ ln c s id):Ow κ ln id B q:=by
 simp only [ows,jaz,Option.mem_toList,hB,Option.any_some] at h
 rcases h with h | h
 ·exact .inl h
 ·split at h
  ·rename_i hf; exact .inr ⟨hf,h⟩
  ·cases h
def hz (o:Nat->List Nat) (h z:AH) (ids:List Nat):AH:=fun q=>if ids.any (fun id=>(o id).contains q) then h q else z q
variable {o:Nat->List Nat}
theorem kbe:hz o h z []=z:=by funext q; simp [hz]
theorem kcM {ids ids':List Nat} (hzin:∀ q B,z q=some B->h q=some B) (hs:∀ id∈ids,id∈ids'):∀ q B,hz o h z ids q=some B->hz o h z ids' q=some B:=by
 intro q B hq
 unfold hz at hq ⊢
 by_cases h1:ids.any (fun id=>(o id).contains q)=true
 ·have h2:ids'.any (fun id=>(o id).contains q)=true:=by
   rw [jbc] at h1 ⊢
   obtain ⟨id,hi,he⟩:=h1
   exact ⟨id,hs id hi,he⟩
  rw [if_pos h1] at hq; rw [if_pos h2]; exact hq
 ·rw [if_neg h1] at hq
  split
  ·exact hzin q B hq
  ·exact hq
theorem hz_z {ids:List Nat} (hzin:∀ q B,z q=some B->h q=some B):∀ q B,z q=some B->hz o h z ids q=some B:=fun q B hq=>kcM (ids:=[]) hzin (by simp) q B (by rw [kbe]; exact hq)
theorem kea {ids:List Nat} (hzin:∀ q B,z q=some B->h q=some B):∀ q B,hz o h z ids q=some B->h q=some B:=by
 intro q B hq
 unfold hz at hq
 split at hq
 ·exact hq
 ·exact hzin q B hq
theorem hz_in {ids:List Nat} {id q:Nat} (hi:id∈ids) (hk:q∈o id):hz o h z ids q=h q:=by
 unfold hz
 rw [if_pos (jbc.2 ⟨id,hi,by simpa using hk⟩)]
theorem hz_at {ids:List Nat} {id q:Nat} (hi:id∈ids) (hk:κ id=some q):hz (ows κ ln c s) h z ids q=h q:=hz_in hi (ows_k hk)
theorem kai {t t':Ty} {x:t'.den} {y:t.den} (h:tcast (A:=sem) t x=some y):∃ e:t'=t,e ▸ x=y:=by
 unfold tcast at h
 split at h
 ·rename_i e; exact ⟨e,by simpa using h⟩
 ·cases h
theorem kkD (v:Value) (h1:v.oneCell'=true) {N:Nat}:TVR P κ ln z N (ofVal sem v) (.sc v):=by
 cases v with
 | int k m=>exact .c (.i k) m _ rfl (.free _ (.sc _))
 | bool b=>exact .kb b
 | string s=>exact .c .s s.data.toList _ rfl (by simpa [Ty.av,Ty.agg,Ty.enc,str] using Snap.free _ (.sc _))
 | _=>exact .sc _ h1
theorem kuF (v:Value) {N:Nat}:TVR P κ ln z N (ofCst sem v) (cst v):=by
 cases v with
 | agg cs=>
  simp only [ofCst,cst]
  split
  ·rename_i hall
   have hm:∀ v∈cs.toList,v.oneCell'=true:=by
    simp only [jcc] at hall
    exact fun v hv=>hall v (by simpa using hv)
   refine .ag _ _ ?_ (fun a ha=>by obtain ⟨v,hv,rfl⟩:=jay.1 ha; exact hm v hv)
   generalize cs.toList=l at hm
   induction l with
   | nil=>exact .nil
   | cons v l ih=>exact .cons _ _ _ _ (kkD v (hm v (by simp))) (ih fun v hv=>hm v (by simp [hv]))
  ·exact .un _
 | tuple _=>exact .un _
 | _=>simp only [ofCst,cst]; exact kkD _ rfl
theorem Rel.ev (R:Rel P κ ln z c s env h n) (x:Operand):TVR P κ ln z s.n (tev c s x) (Abs.ev env x):=by
 cases x with
 | tmp t=>exact R.env t
 | const v=>exact kuF v
 | global g=>exact .un _
 | func f=>exact .fn f [] [] .nil
theorem SnapE.drop_take {z:AH} {es es':List (List AV)} (h:SnapE z es es') (o m:Nat):SnapE z ((es.drop o).take m) ((es'.drop o).take m):=by
 refine ⟨by simp [h.1],fun q e e' hq hq'=>?_⟩
 rw [jbn] at hq hq'
 split at hq
 ·rename_i hlt
  rw [if_pos hlt,jaq] at hq'
  rw [jaq] at hq
  exact h.2 _ e e' hq hq'
 ·cases hq
theorem c_one {t:Ty} {x:t.den} {a:AV} {N:Nat} (hd:t.dat=true) (ha:t.agg=false) (hs:Snap z a (t.av x)):SnapL z [a] (t.enc x):=by
 rw [kgj ha hd]; exact .cons hs .nil
theorem Rel.snap_fam (R:Rel P κ ln z c s env h n) {id jj:Nat} {T U:TypeId} {t u:Ty} {l:List t.den} (hB:thp c s id=some (.fm T t jj U u l none)) {a:AV} (hv:TVR P κ ln z s.n (.fw id) a) {ids:List Nat} (hi:id∈ids):Snap (hz (ows κ ln c s) h z ids) a (.sl (l.map t.enc)):=by
 have hb:=R.blk _ _ hB
 cases hb with
 | fm0 _ _ _ _ _ _ _ hd' hq hl hn=>
  subst hl
  cases hv with
  | fw0 _ _ _=>exact .nilS
  | fw _ q _ hk=>rw [hq] at hk; cases hk
 | fm _ _ _ _ _ _ _ q es hd' hq hh hn hl hv' h0 h1=>
  cases hv with
  | fw0 _ _ hk=>rw [hq] at hk; cases hk
  | fw _ q' _ hk=>
   rw [hq] at hk; cases hk
   refine Snap.of_ms (k:=t.wd) (T:=T) (es:=es) (by rw [hz_at hi hq]; exact hh) (by omega) ?_
   rw [jck,jbr (by omega)]
   refine ⟨by simp [hl],fun i e e' he he'=>?_⟩
   rw [jaw] at he'
   obtain ⟨x,hx,rfl⟩:=jab.1 he'
   obtain ⟨rm,hrm⟩:∃ rm,(kac (ln id))[i]?=some rm:=⟨_,jae (by rw [<-hn]; exact (jad.1 hx).1)⟩
   obtain ⟨g1,g2,ys,g3,g4,g5⟩:=hv' i x e rm hx he hrm (by simp)
   refine SnapL.of_at g1.symm fun p b b' hp hp'=>?_
   by_cases hpj:p=jj
   ·subst hpj
    rw [g3] at hp'; cases hp'
    obtain ⟨r,m⟩:=rm
    cases r with
    | none=>
     obtain ⟨g6,rfl⟩:=g5
     rw [g6] at hp; cases hp
     exact .nilS
    | some r=>
     obtain ⟨g6,es',g7,g8,g9⟩:=g5
     rw [g6] at hp; cases hp
     have hlen:=g8.1
     simp only at g4
     refine Snap.of_ms (k:=u.wd) (T:=U) (es:=es') (by rw [hz_in hi (ows_r hB rfl (kay hrm))]; exact g7) (by simp only; omega) ?_
     rw [jck,jbr (by simp only; omega)]
     exact g8.mono (hz_z R.zin)
   ·exact (g2 p b b' hpj hp hp').mono (hz_z R.zin)
set_option maxHeartbeats 1000000 in
theorem kbG (R:Rel P κ ln z c s env h n):∀ (t:Ty) (vs:List (TV sem)) (as:List AV) (x:t.den) (rest:List (TV sem)) (ids:List Nat),t.dat=true->TVRs P κ ln z s.n vs as->snapL (A:=sem) c s t vs=some (x,rest,ids)->
  ∃ a b,as=a++b/\TVRs P κ ln z s.n rest b/\SnapL (hz (ows κ ln c s) h z ids) a (t.enc x)/\∀ id∈ids,∃ B,thp c s id=some B
 | .pr t u,vs,as,x,rest,ids,hd,hv,hs=>by
  simp only [Ty.dat,jac] at hd
  simp only [snapL,jaa,jab] at hs
  obtain ⟨⟨x1,r1,i1⟩,h1,⟨x2,r2,i2⟩,h2,he⟩:=hs
  cases he
  obtain ⟨a1,b1,rfl,g1,g2,g3⟩:=kbG R t vs as x1 r1 i1 hd.1 hv h1
  obtain ⟨a2,b2,rfl,k1,k2,k3⟩:=kbG R u r1 b1 x2 r2 i2 hd.2 g1 h2
  refine ⟨a1++a2,b2,by simp,k1,?_,fun id hi=>?_⟩
  ·exact (g2.mono (kcM R.zin fun id hi=>by simp [hi])).append (k2.mono (kcM R.zin fun id hi=>by simp [hi]))
  ·rcases jaz.1 hi with hi | hi
   ·exact g3 id hi
   ·exact k3 id hi
 | .w t,vs,as,x,rest,ids,hd,hv,hs=>by
  simp only [snapL,jab] at hs
  obtain ⟨⟨x1,r1,i1⟩,h1,he⟩:=hs
  cases he
  exact kbG R t vs as _ _ _ hd hv h1
 | .un,vs,as,x,rest,ids,hd,hv,hs=>by
  simp only [snapL,Option.some.injEq] at hs
  cases hs
  exact ⟨[],as,rfl,hv,.nil,fun id hi=>by simp at hi⟩
 | .i k,[],as,x,rest,ids,hd,hv,hs=>by simp [snapL] at hs
 | .b,[],as,x,rest,ids,hd,hv,hs=>by simp [snapL] at hs
 | .s,[],as,x,rest,ids,hd,hv,hs=>by simp [snapL] at hs
 | .sl _,[],as,x,rest,ids,hd,hv,hs=>by simp [snapL] at hs
 | .op _,[],as,x,rest,ids,hd,hv,hs=>by simp [snapL] at hs
 | .pt _,[],as,x,rest,ids,hd,hv,hs=>by simp [snapL] at hs
 | .ar _ _,vs,as,x,rest,ids,hd,hv,hs=>by simp [snapL] at hs
 | .i k,v::vs,_,x,rest,ids,hd,.cons _ a _ as hv hvs,hs=>by
  cases v <;> simp only [snapL,jab,reduceCtorEq] at hs
  obtain ⟨y,hy,he⟩:=hs
  cases he
  obtain ⟨e,rfl⟩:=kai hy
  cases e
  cases hv with
  | c _ _ _ hd h1=>exact ⟨[a],as,rfl,hvs,by rw [kbe]; exact c_one (N:=0) rfl rfl h1,fun id hi=>by simp at hi⟩
 | .s,v::vs,_,x,rest,ids,hd,.cons _ a _ as hv hvs,hs=>by
  cases v <;> simp only [snapL,jab,reduceCtorEq] at hs
  obtain ⟨y,hy,he⟩:=hs
  cases he
  obtain ⟨e,rfl⟩:=kai hy
  cases e
  cases hv with
  | c _ _ _ hd h1=>exact ⟨[a],as,rfl,hvs,by rw [kbe]; exact c_one (N:=0) rfl rfl h1,fun id hi=>by simp at hi⟩
 | .b,v::vs,_,x,rest,ids,hd,.cons _ a _ as hv hvs,hs=>by
  cases v <;> simp only [snapL,jab,Option.some.injEq,reduceCtorEq] at hs
  ·obtain ⟨y,hy,he⟩:=hs
   cases he
   obtain ⟨e,rfl⟩:=kai hy
   cases e
   cases hv with
   | c _ _ _ hd h1=>exact ⟨[a],as,rfl,hvs,by rw [kbe]; exact c_one (N:=0) rfl rfl h1,fun id hi=>by simp at hi⟩
  ·cases hs
   cases hv
   exact ⟨[_],as,rfl,hvs,.cons (.free _ (.sc _)) .nil,fun id hi=>by simp at hi⟩
 | .sl t,v::vs,_,x,rest,ids,hd,.cons _ a _ as hv hvs,hs=>by
  cases v <;> simp only [snapL,jab,Option.some.injEq,reduceCtorEq] at hs
  ·obtain ⟨y,hy,he⟩:=hs
   cases he
   obtain ⟨e,rfl⟩:=kai hy
   cases e
   cases hv with
   | c _ _ _ hd h1=>exact ⟨[a],as,rfl,hvs,by rw [kbe]; exact c_one (N:=0) hd rfl h1,fun id hi=>by simp at hi⟩
  ·split at hs
   ·rename_i hn
    cases hs
    cases hv
    rw [kaK hn]
    exact ⟨[_],as,rfl,hvs,.cons .nilS .nil,fun id hi=>by simp at hi⟩
   ·cases hs
  ·split at hs
   ·rename_i T t' l hB
    simp only [jab] at hs
    obtain ⟨y,hy,he⟩:=hs
    cases he
    obtain ⟨e,rfl⟩:=kai hy
    cases e
    refine ⟨[a],as,rfl,hvs,?_,fun id hi=>by simp at hi; subst hi; exact ⟨_,hB⟩⟩
    show SnapL _ [a] [.sl (l.map t.enc)]
    refine .cons ?_ .nil
    have hb:=R.blk _ _ hB
    cases hb with
    | sl0 _ _ _ hd' hq hl hn=>
     subst hl
     cases hv with
     | mw0 _ _ _=>exact .nilS
     | mw _ q _ hk=>rw [hq] at hk; cases hk
    | sl _ _ _ q es hd' hq hh hv' h1 hn=>
     cases hv with
     | mw0 _ _ hk=>rw [hq] at hk; cases hk
     | mw _ q' _ hk=>
      rw [hq] at hk; cases hk
      have hlen:=hv'.1; rw [jar,hn] at hlen
      refine Snap.of_ms (k:=t.wd) (T:=T) (es:=es) (by rw [hz_at (by simp) hq]; exact hh) (by omega) ?_
      rw [jck,jbr (by omega)]
      exact hv'.mono (hz_z R.zin)
   ·cases hs
  ·split at hs
   ·rename_i off len T t' l hB
    simp only [jab] at hs
    obtain ⟨y,hy,he⟩:=hs
    cases he
    obtain ⟨e,rfl⟩:=kai hy
    cases e
    refine ⟨[a],as,rfl,hvs,?_,fun id hi=>by simp at hi; subst hi; exact ⟨_,hB⟩⟩
    show SnapL _ [a] [.sl (((l.drop _).take _).map t.enc)]
    refine .cons ?_ .nil
    have hb:=R.blk _ _ hB
    cases hb with
    | sl0 _ _ _ hd' hq hl hn=>
     subst hl
     cases hv with
     | ms0 _ _ _ _ _ ho hl=>subst ho; subst hl; exact .nilS
     | ms _ _ _ q _ hk=>rw [hq] at hk; cases hk
    | sl _ _ _ q es hd' hq hh hv' h1 hn=>
     cases hv with
     | ms0 _ _ _ _ hk=>rw [hq] at hk; cases hk
     | ms _ _ _ q' _ hk h0 h1' h2=>
      rw [hq] at hk; cases hk
      have hlen:=hv'.1; rw [jar,hn] at hlen
      refine Snap.of_ms (k:=t.wd) (T:=T) (es:=es) (by rw [hz_at (by simp) hq]; exact hh) (by omega) ?_
      rw [List.map_take,List.map_drop]
      exact (hv'.mono (hz_z R.zin)).drop_take _ _
   ·cases hs
  ·split at hs
   ·rename_i T t' jj U u l hB
    simp only [jab] at hs
    obtain ⟨y,hy,he⟩:=hs
    cases he
    obtain ⟨e,rfl⟩:=kai hy
    cases e
    refine ⟨[a],as,rfl,hvs,?_,fun id hi=>by simp at hi; subst hi; exact ⟨_,hB⟩⟩
    show SnapL _ [a] [.sl (l.map t.enc)]
    exact .cons (R.snap_fam hB hv (by simp)) .nil
   ·cases hs
 | .op t,v::vs,_,x,rest,ids,hd,.cons _ a _ as hv hvs,hs=>by
  cases v <;> simp only [snapL,jab,Option.some.injEq,reduceCtorEq] at hs
  ·split at hs
   ·rename_i y hy
    cases hs
    obtain ⟨e,rfl⟩:=kai hy
    cases e
    cases hv with
    | c _ _ _ hd h1=>exact ⟨[a],as,rfl,hvs,by rw [kbe]; exact c_one (N:=0) hd rfl h1,fun id hi=>by simp at hi⟩
   ·simp only [jab] at hs
    obtain ⟨y,hy,he⟩:=hs
    cases he
    obtain ⟨e,rfl⟩:=kai hy
    cases e
    cases hv with
    | c _ _ _ hd h1=>exact ⟨[a],as,rfl,hvs,by rw [kbe]; exact .cons h1 .nil,fun id hi=>by simp at hi⟩
  ·split at hs
   ·rename_i hn
    cases hs
    cases hv
    rw [kkt hn]
    exact ⟨[_],as,rfl,hvs,.cons (.free _ (.sc _)) .nil,fun id hi=>by simp at hi⟩
   ·cases hs
  ·rename_i id j
   split at hs
   ·cases hs
   ·rename_i hj
    obtain rfl:j=0:=by simpa using hj
    split at hs
    ·rename_i T us hB
     split at hs
     ·rename_i y ids' hy
      cases hs
      have hb:=R.blk _ _ hB
      cases hb with
      | bx _ _ q as' hq hh hv' h1=>
       obtain ⟨a1,b1,rfl,g1,g2,g3⟩:=kbG R t us as' _ [] ids' hd hv' hy
       cases g1
       cases hv with
       | ptr _ _ q' _ hk=>
        rw [hq] at hk; cases hk
        refine ⟨[_],as,rfl,hvs,.cons ?_ .nil,fun i hi=>?_⟩
        ·show Snap _ _ (.fp (t.enc y))
         have g4:=g2.mono (kcM (ids':=id::ids') R.zin fun i hi=>by simp [hi])
         exact .own q 0 0 us.length T _ (a1++[]) (t.enc y) (by rw [hz_at (by simp) hq]; exact hh) rfl (by simpa using g4.len) (by simpa using g4.at)
        ·rcases jbu.1 hi with hi | hi
         ·subst hi; exact ⟨_,hB⟩
         ·exact g3 i hi
     ·cases hs
    ·rename_i T t' y hB
     simp only [jab] at hs
     obtain ⟨y',hy,he⟩:=hs
     cases he
     obtain ⟨e,rfl⟩:=kai hy
     cases e
     have hb:=R.blk _ _ hB
     cases hb with
     | el _ _ _ q cs hd' hq hh hv' h1 hl=>
      cases hv with
      | ptr _ _ q' _ hk=>
       rw [hq] at hk; cases hk
       refine ⟨[_],as,rfl,hvs,.cons ?_ .nil,fun i hi=>by simp at hi; subst hi; exact ⟨_,hB⟩⟩
       show Snap _ _ (.fp (t.enc y))
       have g4:=hv'.mono (hz_z (o:=ows κ ln c s) (ids:=[id]) R.zin)
       exact .own q 0 0 _ T _ cs (t.enc y) (by rw [hz_at (by simp) hq]; exact hh) rfl (by simpa using g4.len) (by simpa using g4.at)
    ·cases hs
  ·rename_i o
   split at hs
   ·cases hs
   ·rename_i hj
    obtain rfl:o=0:=by simpa using hj
    simp only [jab] at hs
    obtain ⟨y',hy,he⟩:=hs
    cases he
    obtain ⟨e,rfl⟩:=kai hy
    cases e
    cases hv with
    | fq _ _ _ _ hd' h1=>exact ⟨[_],as,rfl,hvs,by rw [kbe]; rw [jck] at h1; exact .cons h1 .nil,fun id hi=>by simp at hi⟩
 | .pt t,v::vs,_,x,rest,ids,hd,.cons _ a _ as hv hvs,hs=>by
  cases v <;> simp only [snapL,jab,Option.some.injEq,reduceCtorEq] at hs
  ·obtain ⟨y,hy,he⟩:=hs
   cases he
   obtain ⟨e,rfl⟩:=kai hy
   cases e
   cases hv with
   | c _ _ _ hd h1=>exact ⟨[a],as,rfl,hvs,by rw [kbe]; exact c_one (N:=0) hd rfl h1,fun id hi=>by simp at hi⟩
  ·rename_i id j
   split at hs
   ·cases hs
   ·rename_i hj
    obtain rfl:j=0:=by simpa using hj
    split at hs
    ·rename_i T us hB
     split at hs
     ·rename_i y ids' hy
      cases hs
      have hb:=R.blk _ _ hB
      cases hb with
      | bx _ _ q as' hq hh hv' h1=>
       obtain ⟨a1,b1,rfl,g1,g2,g3⟩:=kbG R t us as' _ [] ids' hd hv' hy
       cases g1
       cases hv with
       | ptr _ _ q' _ hk=>
        rw [hq] at hk; cases hk
        refine ⟨[_],as,rfl,hvs,.cons ?_ .nil,fun i hi=>?_⟩
        ·show Snap _ _ (.fp (t.enc _))
         have g4:=g2.mono (kcM (ids':=id::ids') R.zin fun i hi=>by simp [hi])
         exact .own q 0 0 us.length T _ (a1++[]) _ (by rw [hz_at (by simp) hq]; exact hh) rfl (by simpa using g4.len) (by simpa using g4.at)
        ·rcases jbu.1 hi with hi | hi
         ·subst hi; exact ⟨_,hB⟩
         ·exact g3 i hi
     ·cases hs
    ·rename_i T t' y hB
     simp only [jab] at hs
     obtain ⟨y',hy,he⟩:=hs
     cases he
     obtain ⟨e,rfl⟩:=kai hy
     cases e
     have hb:=R.blk _ _ hB
     cases hb with
     | el _ _ _ q cs hd' hq hh hv' h1 hl=>
      cases hv with
      | ptr _ _ q' _ hk=>
       rw [hq] at hk; cases hk
       refine ⟨[_],as,rfl,hvs,.cons ?_ .nil,fun i hi=>by simp at hi; subst hi; exact ⟨_,hB⟩⟩
       show Snap _ _ (.fp (t.enc _))
       have g4:=hv'.mono (hz_z (o:=ows κ ln c s) (ids:=[id]) R.zin)
       exact .own q 0 0 _ T _ cs _ (by rw [hz_at (by simp) hq]; exact hh) rfl (by simpa using g4.len) (by simpa using g4.at)
    ·cases hs
  ·rename_i o
   split at hs
   ·cases hs
   ·rename_i hj
    obtain rfl:o=0:=by simpa using hj
    simp only [jab] at hs
    obtain ⟨y',hy,he⟩:=hs
    cases he
    obtain ⟨e,rfl⟩:=kai hy
    cases e
    cases hv with
    | fq _ _ _ _ hd' h1=>exact ⟨[_],as,rfl,hvs,by rw [kbe]; rw [jck] at h1; exact .cons h1 .nil,fun id hi=>by simp at hi⟩
 | .nt,vs,as,x,rest,ids,hd,hv,hs=>by simp [Ty.dat] at hd
 | .sm _ _,vs,as,x,rest,ids,hd,hv,hs=>by simp [Ty.dat] at hd
 | .fn _ _ _,vs,as,x,rest,ids,hd,hv,hs=>by simp [Ty.dat] at hd
end
section
variable {P:Program} {κ κ':Nat->Option Nat} {ln ln':Nat->Nat} {z z':AH} {c:Cx sem} {s:TS sem} {env:Env} {h h':AH} {n n' N N':Nat}
theorem kbf (R:Rel P κ ln z c s env h n) {t:Ty} {v:TV sem} {a:AV} {x:t.den} {ids:List Nat} (hv:TVR P κ ln z s.n v a) (hs:snapV (A:=sem) c s t v=some (x,ids)) :
  t.dat=true/\Snap (hz (ows κ ln c s) h z ids) a (t.av x)/\∀ id∈ids,∃ B,thp c s id=some B:=by
 unfold snapV at hs
 split at hs
 ·cases hs
 ·rename_i hd
  replace hd:t.dat=true:=by simpa using hd
  refine ⟨hd,?_⟩
  split at hs
  ·rename_i hag
   split at hs
   ·simp only [jab] at hs
    obtain ⟨y,hy,he⟩:=hs
    cases he
    obtain ⟨e,rfl⟩:=kai hy
    cases e
    cases hv with
    | c _ _ _ _ h1=>exact ⟨by rw [kbe]; exact h1,fun id hi=>by simp at hi⟩
   ·rename_i vs
    split at hs
    ·rename_i y ids' hy
     cases hs
     cases hv with
     | ag _ as hvs _=>
      obtain ⟨a1,b1,rfl,g1,g2,g3⟩:=kbG R t vs as _ [] _ hd hvs hy
      cases g1
      rw [kgq hag,jbd]
      exact ⟨Snap.agL g2,g3⟩
    ·cases hs
   ·cases hs
  ·rename_i hag
   replace hag:t.agg=false:=by simpa using hag
   split at hs
   ·rename_i y ids' hy
    cases hs
    obtain ⟨a1,b1,he,g1,g2,g3⟩:=kbG R t [v] [a] _ [] _ hd (.cons _ _ _ _ hv .nil) hy
    cases g1
    rw [jbd] at he
    subst he
    rw [kgj hag hd] at g2
    cases g2 with
    | cons k1 k2=>exact ⟨k1,g3⟩
   ·cases hs
theorem kft:∀ (t:Ty) (x:t.den) (cs:List AV),t.dat=true->t.noAr=true->SnapL z cs (t.enc x)->TVRs P κ ln z N (kjy (A:=sem) t x) cs
 | .pr t u,x,cs,hd,hn,hs=>by
  simp only [Ty.dat,jac] at hd
  simp only [Ty.noAr,jac] at hn
  obtain ⟨a,b,rfl,h1,h2⟩:=SnapL.splitR (a':=t.enc x.1) (b':=u.enc x.2) hs
  exact (kft t x.1 a hd.1 hn.1 h1).append (kft u x.2 b hd.2 hn.2 h2)
 | .w t,x,cs,hd,hn,hs=>kft t x cs hd hn hs
 | .un,x,cs,hd,hn,hs=>by cases hs; exact .nil
 | .i k,x,_,hd,hn,.cons h1 .nil=>.cons _ _ _ _ (.c _ _ _ hd h1) .nil
 | .b,x,_,hd,hn,.cons h1 .nil=>.cons _ _ _ _ (.c _ _ _ hd h1) .nil
 | .s,x,_,hd,hn,.cons h1 .nil=>.cons _ _ _ _ (.c _ _ _ hd h1) .nil
 | .sl t,x,_,hd,hn,.cons h1 .nil=>.cons _ _ _ _ (.c _ _ _ hd h1) .nil
 | .pt t,x,_,hd,hn,.cons h1 .nil=>.cons _ _ _ _ (.c _ _ _ hd h1) .nil
 | .op t,x,_,hd,hn,.cons h1 .nil=>.cons _ _ _ _ (.c _ _ _ hd h1) .nil
 | .ar _ _,x,cs,hd,hn,hs=>by simp [Ty.noAr] at hn
 | .nt,x,cs,hd,hn,hs=>by simp [Ty.dat] at hd
 | .sm _ _,x,cs,hd,hn,hs=>by simp [Ty.dat] at hd
 | .fn _ _ _,x,cs,hd,hn,hs=>by simp [Ty.dat] at hd
theorem kuU {a v:AV} (hs:Snap z a v) (h1:v.one=true):kax a=some [a]:=by
 cases hs with
 | free _ hf=>cases a <;> first | rfl | (simp [AV.one] at h1; done)
 | ag | tp=>simp [AV.one] at h1
 | _=>rfl
theorem kjr {t:Ty} {x:t.den} {a:AV} (hd:t.dat=true) (hs:Snap z a (t.av x)):∃ cs,kax a=some cs/\SnapL z cs (t.enc x):=by
 cases hag:t.agg with
 | true=>
  rw [kgq hag] at hs
  obtain ⟨cs,rfl,h1⟩:=hs.ag_inv
  exact ⟨cs,rfl,h1⟩
 | false=>
  refine ⟨[a],?_,by rw [kgj hag hd]; exact .cons hs .nil⟩
  have h1:(t.av x).one=true:=kaQ t x hd _ (by rw [kgj hag hd]; simp)
  exact kuU hs h1
theorem TVR.one_cells {v:TV sem} {a:AV} (hv:TVR P κ ln z N v a) {vs:List (TV sem)} (hc:kaz v=some vs):∃ as,kax a=some as/\TVRs P κ ln z N vs as:=by
 cases hv with
 | c t x a hd h1=>
  simp only [kaz,jcw,jac,Option.some.injEq] at hc
  obtain ⟨⟨hn,hd'⟩,rfl⟩:=hc
  obtain ⟨cs,h2,h3⟩:=kjr hd h1
  exact ⟨cs,h2,kft t x cs hd hn h3⟩
 | ag vs' as h1 _=>simp only [kaz,Option.some.injEq] at hc; subst hc; exact ⟨as,rfl,h1⟩
 | un | ud | tp | gs | yl | kp=>simp [kaz] at hc
 | kb b=>simp only [kaz,Option.some.injEq] at hc; subst hc; exact ⟨_,rfl,.cons _ _ _ _ (.kb b) .nil⟩
 | sc w hw=>simp only [kaz,Option.some.injEq] at hc; subst hc; exact ⟨_,rfl,.cons _ _ _ _ (.sc w hw) .nil⟩
 | ptr id j q h1 h2=>simp only [kaz,Option.some.injEq] at hc; subst hc; exact ⟨_,rfl,.cons _ _ _ _ (.ptr id j q h1 h2) .nil⟩
 | adr id i j q h1 h2 h3 h4=>simp only [kaz,Option.some.injEq] at hc; subst hc; exact ⟨_,rfl,.cons _ _ _ _ (.adr id i j q h1 h2 h3 h4) .nil⟩
 | aa id i q h1 h2 h3 h4=>simp only [kaz,Option.some.injEq] at hc; subst hc; exact ⟨_,rfl,.cons _ _ _ _ (.aa id i q h1 h2 h3 h4) .nil⟩
 | fq t x o a hd h1=>
  simp only [kaz,Option.some.injEq] at hc; subst hc
  refine ⟨[a],?_,.cons _ _ _ _ (.fq t x o a hd h1) .nil⟩
  rcases h1.fp_inv with ⟨cs,rfl,_⟩ | ⟨id,i,j,k,T,es,e,rfl,_⟩ <;> rfl
 | mw0 id h1 h2=>simp only [kaz,Option.some.injEq] at hc; subst hc; exact ⟨_,rfl,.cons _ _ _ _ (.mw0 id h1 h2) .nil⟩
 | mw id q h1 h2=>simp only [kaz,Option.some.injEq] at hc; subst hc; exact ⟨_,rfl,.cons _ _ _ _ (.mw id q h1 h2) .nil⟩
 | ms0 id o l h1 h2 h3 h4=>simp only [kaz,Option.some.injEq] at hc; subst hc; exact ⟨_,rfl,.cons _ _ _ _ (.ms0 id o l h1 h2 h3 h4) .nil⟩
 | ms id o l q h1 h2 h3 h4 h5=>simp only [kaz,Option.some.injEq] at hc; subst hc; exact ⟨_,rfl,.cons _ _ _ _ (.ms id o l q h1 h2 h3 h4 h5) .nil⟩
 | mp id q h1 h2=>simp only [kaz,Option.some.injEq] at hc; subst hc; exact ⟨_,rfl,.cons _ _ _ _ (.mp id q h1 h2) .nil⟩
 | fw0 id h1 h2=>simp only [kaz,Option.some.injEq] at hc; subst hc; exact ⟨_,rfl,.cons _ _ _ _ (.fw0 id h1 h2) .nil⟩
 | fw id q h1 h2=>simp only [kaz,Option.some.injEq] at hc; subst hc; exact ⟨_,rfl,.cons _ _ _ _ (.fw id q h1 h2) .nil⟩
 | fr0 id i m h1 h2 h3=>simp only [kaz,Option.some.injEq] at hc; subst hc; exact ⟨_,rfl,.cons _ _ _ _ (.fr0 id i m h1 h2 h3) .nil⟩
 | fr id i r m h1 h2 h3=>simp only [kaz,Option.some.injEq] at hc; subst hc; exact ⟨_,rfl,.cons _ _ _ _ (.fr id i r m h1 h2 h3) .nil⟩
 | fo id i j q h1 h2 h3 h4=>simp only [kaz,Option.some.injEq] at hc; subst hc; exact ⟨_,rfl,.cons _ _ _ _ (.fo id i j q h1 h2 h3 h4) .nil⟩
 | fa id i k o r m h1 h2 h3 h4 h5=>simp only [kaz,Option.some.injEq] at hc; subst hc; exact ⟨_,rfl,.cons _ _ _ _ (.fa id i k o r m h1 h2 h3 h4 h5) .nil⟩
 | fn g vs' as h1=>simp only [kaz,Option.some.injEq] at hc; subst hc; exact ⟨_,rfl,.cons _ _ _ _ (.fn g vs' as h1) .nil⟩
 | cv m x y F a h1=>
  simp only [kaz,Option.some.injEq] at hc; subst hc
  refine ⟨[a],?_,.cons _ _ _ _ (.cv m x y F a h1) .nil⟩
  obtain ⟨g,as,rfl,_⟩:=h1; rfl
theorem khI:∀ (t:Ty) (x:t.den) (o m:Nat) (ag:Bool) (cs:List AV) {t':Ty} {y:t'.den},t.dat=true->comp (A:=sem) t x o m ag=some ⟨t',y⟩->SnapL z cs (t.enc x)->t'.dat=true/\t'.agg=ag/\t'.wd=m/\o+m<=cs.length/\SnapL z ((cs.drop o).take m) (t'.enc y)
 | .pr t u,x,o,m,ag,cs,t',y,hd,hc,hs=>by
  simp only [Ty.dat,jac] at hd
  have hlen:=hs.len
  rw [kaf (.pr t u) x (by simp [Ty.dat,hd])] at hlen
  simp only [Ty.wd] at hlen
  simp only [comp] at hc
  split at hc
  ·rename_i hh
   obtain ⟨rfl,rfl,rfl⟩:=hh
   cases hc
   exact ⟨by simp [Ty.dat,hd],rfl,rfl,by omega,by rw [jck,jbr (by omega)]; exact hs⟩
  ·obtain ⟨a,b,rfl,h1,h2⟩:=SnapL.splitR (a':=t.enc x.1) (b':=u.enc x.2) hs
   have l1:=h1.len
   rw [kaf t x.1 hd.1] at l1
   split at hc
   ·rename_i hle
    obtain ⟨g1,g2,g3,g4,g5⟩:=khI t x.1 o m ag a hd.1 hc h1
    refine ⟨g1,g2,g3,by simp; omega,?_⟩
    rw [List.drop_append_of_le_length (by omega),List.take_append_of_le_length (by simp; omega)]
    exact g5
   ·split at hc
    ·rename_i hle
     obtain ⟨g1,g2,g3,g4,g5⟩:=khI u x.2 (o-t.wd) m ag b hd.2 hc h2
     refine ⟨g1,g2,g3,by simp; omega,?_⟩
     rw [List.drop_append,jbq (by omega),jba]
     rw [<-l1]; rw [l1]; exact l1 ▸ g5
    ·cases hc
 | .w t,x,o,m,ag,cs,t',y,hd,hc,hs=>by
  simp only [comp] at hc
  split at hc
  ·rename_i hh
   obtain ⟨rfl,rfl,rfl⟩:=hh
   cases hc
   have hlen:=hs.len
   rw [kaf (.w t) x hd] at hlen
   simp only [Ty.wd] at hlen
   exact ⟨hd,rfl,rfl,by omega,by rw [jck,jbr (by omega)]; exact hs⟩
  ·exact khI t x o m ag cs hd hc hs
 | .i _,x,o,m,ag,cs,t',y,hd,hc,hs | .b,x,o,m,ag,cs,t',y,hd,hc,hs | .s,x,o,m,ag,cs,t',y,hd,hc,hs | .un,x,o,m,ag,cs,t',y,hd,hc,hs
 | .sl _,x,o,m,ag,cs,t',y,hd,hc,hs | .pt _,x,o,m,ag,cs,t',y,hd,hc,hs | .op _,x,o,m,ag,cs,t',y,hd,hc,hs | .ar _ _,x,o,m,ag,cs,t',y,hd,hc,hs=>by
  simp only [comp] at hc
  split at hc
  ·rename_i hh
   obtain ⟨rfl,rfl,rfl⟩:=hh
   cases hc
   have hlen:=hs.len
   rw [kaf _ x hd] at hlen
   exact ⟨hd,rfl,rfl,by omega,by rw [jck,jbr (by omega)]; exact hs⟩
  ·cases hc
 | .nt,x,o,m,ag,cs,t',y,hd,hc,hs=>by simp [Ty.dat] at hd
 | .sm _ _,x,o,m,ag,cs,t',y,hd,hc,hs=>by simp [Ty.dat] at hd
 | .fn _ _ _,x,o,m,ag,cs,t',y,hd,hc,hs=>by simp [Ty.dat] at hd
theorem kcE {val:(t:Ty)->Option t.den} {xs:List AV} (hval:∀ t y,val t=some y->t.dat=true/\SnapL z xs (t.enc y)):∀ (t:Ty) (x:t.den) (o m:Nat) (ag:Bool) (cs:List AV) {y:t.den},t.dat=true->setC (A:=sem) val t x o m ag=some y->SnapL z cs (t.enc x)->
  xs.length=m/\o+m<=cs.length/\SnapL z (cs.take o++xs++cs.drop (o+m)) (t.enc y)
 | .pr t u,x,o,m,ag,cs,y,hd,hc,hs=>by
  simp only [Ty.dat,jac] at hd
  have hlen:=hs.len
  rw [kaf (.pr t u) x (by simp [Ty.dat,hd])] at hlen
  simp only [Ty.wd] at hlen
  simp only [setC] at hc
  split at hc
  ·rename_i hh
   obtain ⟨rfl,rfl,rfl⟩:=hh
   obtain ⟨g1,g2⟩:=hval _ _ hc
   have l2:=g2.len
   rw [kaf _ y g1] at l2
   simp only [Ty.wd] at l2
   refine ⟨by omega,by omega,?_⟩
   rw [jdi,jba,jcb,jbq (by omega),jbd]; exact g2
  ·obtain ⟨a,b,rfl,h1,h2⟩:=SnapL.splitR (a':=t.enc x.1) (b':=u.enc x.2) hs
   have l1:=h1.len
   rw [kaf t x.1 hd.1] at l1
   split at hc
   ·rename_i hle
    simp only [jab] at hc
    obtain ⟨w,hw,rfl⟩:=hc
    obtain ⟨g1,g2,g3⟩:=kcE hval t x.1 o m ag a hd.1 hw h1
    refine ⟨g1,by simp; omega,?_⟩
    rw [List.take_append_of_le_length (by omega),List.drop_append_of_le_length (by omega)]
    show SnapL z _ (t.enc w++u.enc x.2)
    rw [<-jau]
    exact g3.append h2
   ·split at hc
    ·rename_i hle
     simp only [jab] at hc
     obtain ⟨w,hw,rfl⟩:=hc
     obtain ⟨g1,g2,g3⟩:=kcE hval u x.2 (o-t.wd) m ag b hd.2 hw h2
     refine ⟨g1,by simp; omega,?_⟩
     show SnapL z _ (t.enc x.1++u.enc w)
     rw [List.take_append,jbr (by omega),List.drop_append,jbq (by omega),jba]
     have e1:o-a.length=o-t.wd:=by omega
     have e2:o+m-a.length=o-t.wd+m:=by omega
     rw [e1,e2,jau,jau,<-jau (b.take _)]
     exact h1.append g3
    ·cases hc
 | .w t,x,o,m,ag,cs,y,hd,hc,hs=>by
  simp only [setC] at hc
  split at hc
  ·rename_i hh
   obtain ⟨rfl,rfl,rfl⟩:=hh
   obtain ⟨g1,g2⟩:=hval _ _ hc
   have hlen:=hs.len
   rw [kaf (.w t) x hd] at hlen
   have l2:=g2.len
   rw [kaf _ y g1] at l2
   simp only [Ty.wd] at l2 hlen
   refine ⟨by omega,by omega,?_⟩
   rw [jdi,jba,jcb,jbq (by omega),jbd]; exact g2
  ·simp only [jab] at hc
   obtain ⟨w,hw,rfl⟩:=hc
   exact kcE hval t x o m ag cs hd hw hs
 | .i _,x,o,m,ag,cs,y,hd,hc,hs | .b,x,o,m,ag,cs,y,hd,hc,hs | .s,x,o,m,ag,cs,y,hd,hc,hs | .un,x,o,m,ag,cs,y,hd,hc,hs
 | .sl _,x,o,m,ag,cs,y,hd,hc,hs | .pt _,x,o,m,ag,cs,y,hd,hc,hs | .op _,x,o,m,ag,cs,y,hd,hc,hs | .ar _ _,x,o,m,ag,cs,y,hd,hc,hs=>by
  simp only [setC] at hc
  split at hc
  ·rename_i hh
   obtain ⟨rfl,rfl,rfl⟩:=hh
   obtain ⟨g1,g2⟩:=hval _ _ hc
   have hlen:=hs.len
   rw [kaf _ x hd] at hlen
   have l2:=g2.len
   rw [kaf _ y g1] at l2
   refine ⟨by omega,by omega,?_⟩
   rw [jdi,jba,jcb,jbq (by omega),jbd]; exact g2
  ·cases hc
 | .nt,x,o,m,ag,cs,y,hd,hc,hs=>by simp [Ty.dat] at hd
 | .sm _ _,x,o,m,ag,cs,y,hd,hc,hs=>by simp [Ty.dat] at hd
 | .fn _ _ _,x,o,m,ag,cs,y,hd,hc,hs=>by simp [Ty.dat] at hd
end
def updK {α:Type} (f:Nat->α) (i:Nat) (x:α):Nat->α:=fun j=>if j=i then x else f j
theorem updK_self {α:Type} {f:Nat->α} {i:Nat} {x:α}:updK f i x i=x:=by simp [updK]
theorem kau {α:Type} {f:Nat->α} {i:Nat} {x:α} {j:Nat} (h:j<i):updK f i x j=f j:=by unfold updK; rw [if_neg (by omega)]
section
variable {P:Program} {κ κ':Nat->Option Nat} {ln ln':Nat->Nat} {z z':AH} {c:Cx sem} {s:TS sem} {env:Env} {h h':AH} {n n' N N':Nat}
theorem FamOk.map {c':Cx sem} {s':TS sem} (F:FamOk κ ln z c s n) (hs:∀ id B,thp c' s' id=some B->(∃ B0,thp c s id=some B0/\(B.isF=true->B0.isF=true)/\κ' id = κ id/\ln' id=ln id)\/(B.isF=false/\∀ q,κ' id=some q->n<=q)) (hz:∀ id B' B r,thp c' s' id=some B'->thp c s id=some B->B.isF=true->r∈kam (ln id)->z' r=none) (hn:n<=n'):FamOk κ' ln' z' c' s' n':=by
 intro id B hB hf
 rcases hs id B hB with ⟨B0,h0,h1,h2,h3⟩ | ⟨h0,_⟩
 ·obtain ⟨g1,g2⟩:=F id B0 h0 (h1 hf)
  rw [h3]
  refine ⟨g1,fun r hr=>?_⟩
  obtain ⟨k1,k2,k3,k4⟩:=g2 r hr
  refine ⟨by omega,hz id B B0 r hB h0 (h1 hf) hr,fun j B' hj=>?_,fun j B' hj hf' hr'=>?_⟩
  ·rcases hs j B' hj with ⟨B1,a0,a1,a2,a3⟩ | ⟨a0,a1⟩
   ·rw [a2]; exact k3 j B1 a0
   ·intro e; have:=a1 r e; omega
  ·rcases hs j B' hj with ⟨B1,a0,a1,a2,a3⟩ | ⟨a0,a1⟩
   ·rw [a3] at hr'; exact k4 j B1 a0 (a1 hf') hr'
   ·rw [a0] at hf'; cases hf'
 ·rw [h0] at hf; cases hf
theorem BR.mono (hκ:∀ id,id<N->κ' id = κ id) (hln:∀ id,id<N->ln' id=ln id) (hz:∀ q B,z q=some B->z' q=some B) (hN:N<=N') {id:Nat} {B:TB sem} (hi:id<N) (hh:∀ q AB,Ow κ ln id B q->h q=some AB->h' q=some AB) (hb:BR P κ ln z h N id B):BR P κ' ln' z' h' N' id B:=by
 cases hb with
 | bx T vs q as hq hB hv h1=>exact .bx T vs q as (by rw [hκ id hi]; exact hq) (hh q _ (.inl hq) hB) (hv.mono hκ hln hz hN) h1
 | el T t x q cs hd hq hB hv h1 hl=>exact .el T t x q cs hd (by rw [hκ id hi]; exact hq) (hh q _ (.inl hq) hB) (hv.mono hz) h1 (by rw [hln id hi]; exact hl)
 | sl0 T t l hd hq hl hn=>exact .sl0 T t l hd (by rw [hκ id hi]; exact hq) hl (by rw [hln id hi]; exact hn)
 | sl T t l q es hd hq hB hv h1 hn=>exact .sl T t l q es hd (by rw [hκ id hi]; exact hq) (hh q _ (.inl hq) hB) (hv.mono hz) h1 (by rw [hln id hi]; exact hn)
 | mp k v l q hk hf hq hB=>exact .mp k v l q hk hf (by rw [hκ id hi]; exact hq) (hh q _ (.inl hq) hB)
 | si x q hq h0 hB=>exact .si x q (by rw [hκ id hi]; exact hq) h0 (hh q _ (.inl hq) hB)
 | fm0 T t j U u l ho hd hq hl hn=>exact .fm0 T t j U u l ho hd (by rw [hκ id hi]; exact hq) hl (by rw [hln id hi]; exact hn)
 | fm T t j U u l ho q es hd hq hB hn hl hv h0 h1=>
  refine .fm T t j U u l ho q es hd (by rw [hκ id hi]; exact hq) (hh q _ (.inl hq) hB) (by rw [hln id hi]; exact hn) hl (fun i x e rm h2 h3 h4 h5=>?_) (by rw [hln id hi]; exact h0) h1
  rw [hln id hi] at h4
  refine (hv i x e rm h2 h3 h4 h5).mono hz fun r B hr hB=>hh r B (.inr ⟨rfl,?_⟩) hB
  obtain ⟨r',m⟩:=rm
  simp only at hr; subst hr
  exact kay h4
theorem BR.elen {id q:Nat} {B:TB sem} (hb:BR P κ ln z h N id B) (hk:κ id=some q) {k:Nat} {T:TypeId} {es:List (List AV)} (hq:h q=some (.cells k T es)):∀ e∈es,e.length=k:=by
 intro e he
 cases hb with
 | bx T vs q' as hq' hB hv h1=>
  rw [hk] at hq'; cases hq'; rw [hq] at hB; cases hB
  simp at he; subst he; exact hv.len
 | el T t x q' cs hd hq' hB hv h1 hl=>
  rw [hk] at hq'; cases hq'; rw [hq] at hB; cases hB
  simp at he; subst he; rw [<-hv.len,kaf t x hd]
 | sl0 T t l hd hq' hl hn=>rw [hk] at hq'; cases hq'
 | sl T t l q' es' hd hq' hB hv h1 hn=>
  rw [hk] at hq'; cases hq'; rw [hq] at hB; cases hB
  obtain ⟨i,hi⟩:=jcz he
  have hlt:=(jad.1 hi).1
  have hlen:=hv.1
  rw [jar] at hlen
  have:=(hv.2 i e _ hi (by rw [jaw,jae (by omega)]; rfl)).len
  rw [kaf t _ hd] at this; exact this.symm
 | mp k' v l q' hk' hf hq' hB=>rw [hk] at hq'; cases hq'; rw [hq] at hB; cases hB
 | si x q' hq' h0 hB=>rw [hk] at hq'; cases hq'; rw [hq] at hB; cases hB
 | fm0 T t j U u l ho hd hq'=>rw [hk] at hq'; cases hq'
 | fm T t j U u l ho q' es' hd hq' hB hn hl hv h0 h1=>
  rw [hk] at hq'; cases hq'; rw [hq] at hB; cases hB
  exact (h1 e he).1
theorem BR.row {id r:Nat} {T:TypeId} {t:Ty} {j:Nat} {U:TypeId} {u:Ty} {l:List t.den} {ho:Option Int} (hb:BR P κ ln z h N id (.fm T t j U u l ho)) (hr:r∈kam (ln id)) :
  ∃ (i m:Nat) (x:t.den) (e:List AV),(kac (ln id))[i]?=some (some r,m)/\l[i]?=some x/\ho≠some (i:Int)/\FamE z h j U u.wd (t.enc x) e (some r,m):=by
 obtain ⟨⟨r',m⟩,hm,e1⟩:=jce.1 hr
 simp only at e1; subst e1
 obtain ⟨i,hi⟩:=jcz hm
 cases hb with
 | fm0 _ _ _ _ _ _ _ hd hq hl hn=>rw [hn,show kac 0=[] from rfl] at hi; simp at hi
 | fm _ _ _ _ _ _ _ q es hd hq hB hn hl hv h0 h1=>
  have hlt:=(jad.1 hi).1
  have hx:l[i]?=some (l[i]'(by omega)):=jae _
  have he:es[i]?=some (es[i]'(by omega)):=jae _
  have hne:ho≠some (i:Int):=fun e=>by have:=h0 i _ e hi; cases this
  exact ⟨i,m,_,_,hi,hx,hne,hv i _ _ _ hx he hi hne⟩
theorem BR.live {id q:Nat} {B:TB sem} (hb:BR P κ ln z h N id B) (hk:Ow κ ln id B q):h q≠none:=by
 intro hq
 rcases hk with hk | ⟨hf,hr⟩
 ·cases hb with
  | bx _ _ q' as hq' hh=>rw [hk] at hq'; cases hq'; rw [hh] at hq; cases hq
  | el _ _ _ q' cs hd hq' hh=>rw [hk] at hq'; cases hq'; rw [hh] at hq; cases hq
  | sl0 _ _ _ _ hq'=>rw [hk] at hq'; cases hq'
  | sl _ _ _ q' cs hd hq' hh=>rw [hk] at hq'; cases hq'; rw [hh] at hq; cases hq
  | mp _ _ _ q' _ _ hq' hh=>rw [hk] at hq'; cases hq'; rw [hh] at hq; cases hq
  | si _ q' hq' _ hh=>rw [hk] at hq'; cases hq'; rw [hh] at hq; cases hq
  | fm0 _ _ _ _ _ _ _ _ hq'=>rw [hk] at hq'; cases hq'
  | fm _ _ _ _ _ _ _ q' es hd hq' hh=>rw [hk] at hq'; cases hq'; rw [hh] at hq; cases hq
 ·cases B <;> simp only [TB.isF,jaj] at hf
  obtain ⟨i,m,x,e,g1,g2,g3,_,_,ys,_,_,g4,es',g5,g6,g7⟩:=hb.row hr
  rw [g5] at hq; cases hq
theorem BR.elenO {id q:Nat} {B:TB sem} (hb:BR P κ ln z h N id B) (hk:Ow κ ln id B q) {k:Nat} {T:TypeId} {es:List (List AV)} (hq:h q=some (.cells k T es)):∀ e∈es,e.length=k:=by
 rcases hk with hk | ⟨hf,hr⟩
 ·exact hb.elen hk hq
 ·cases B <;> simp only [TB.isF,jaj] at hf
  obtain ⟨i,m,x,e,g1,g2,g3,_,_,ys,_,_,g4,es',g5,g6,g7⟩:=hb.row hr
  rw [g5] at hq; cases hq
  exact fun e he=>(g7 e he).1
theorem kaW {b:Option (TB sem)} {i id:Nat}:thp c { s with hp:=(i,b)::s.hp } id=if id=i then b else thp c s id:=by
 by_cases h:id=i <;> simp [thp,alk,h]
theorem thp_n {b:Option (TB sem)} {i id N:Nat}:thp c { s with hp:=(i,b)::s.hp,n:=N } id=if id=i then b else thp c s id:=by
 by_cases h:id=i <;> simp [thp,alk,h]
theorem Rel.gN (R:Rel P κ ln z c s env h n):alk c.g s.n=none:=by
 cases hh:alk s.hp s.n with
 | some b=>exact R.g _ _ hh
 | none=>
  cases hg:alk c.g s.n with
  | none=>rfl
  | some B=>
   have:thp c s s.n=some B:=by unfold thp; rw [hh]; exact hg
   exact absurd (R.lt _ _ this) (Nat.lt_irrefl _)
theorem Rel.zN (R:Rel P κ ln z c s env h n) {q:Nat} (hq:n<=q):z q=none:=by
 cases hz:z q with
 | none=>rfl
 | some B=>have:=R.zin q B hz; rw [R.hn q hq] at this; cases this
theorem Rel.new (R:Rel P κ ln z c s env h n) (B:TB sem) (k:Option Nat) (l:Nat) (hh:∀ q B,h q=some B->h' q=some B) (hnn:n<=n') (hk:∀ q,k=some q->n<=q/\q<n') (hn':∀ q,n'<=q->h' q=none)
  (hB:BR P (updK κ s.n k) (updK ln s.n l) z h' (s.n+1) s.n B) (hF:B.isF=false:=by rfl):Rel P (updK κ s.n k) (updK ln s.n l) z c { s with hp:=(s.n,some B)::s.hp,n:=s.n+1 } env h' n':=by
 have e1:∀ id,id<s.n->updK κ s.n k id = κ id:=fun id hi=>kau hi
 have e2:∀ id,id<s.n->updK ln s.n l id=ln id:=fun id hi=>kau hi
 refine ⟨fun x=>(R.env x).mono e1 e2 (fun _ _ h=>h) (jbw _),fun id B' hb=>?_,fun id B' hb=>?_,fun i j B1 B2 q hi hj ki kj=>?_,fun q B' hq=>hh q B' (R.zin q B' hq),fun id B' q hb hq=>?_,fun id B' q hb hq=>?_,hn',R.e0,fun id b hb=>?_,R.dy,R.zk,R.fam.map (fun id B' hb=>?_) (fun id _ B r _ h1 h2 h3=>((R.fam id B h1 h2).2 r h3).2.1) hnn⟩
 ·rw [thp_n] at hb
  split at hb
  ·rename_i e; cases hb; subst e; exact hB
  ·exact (R.blk id B' hb).mono e1 e2 (fun _ _ h=>h) (jbw _) (R.lt id B' hb) fun q B _=>hh q B
 ·rw [thp_n] at hb
  split at hb
  ·rename_i e; subst e; exact jbk _
  ·exact jdz (R.lt id B' hb)
 ·rw [thp_n] at hi hj
  split at hi
  ·rename_i e; subst e
   rw [updK_self] at ki
   split at hj
   ·rename_i e; exact e.symm
   ·rw [e1 j (R.lt j _ hj)] at kj
    have:=R.bnd j _ q hj kj
    have:=hk q ki
    omega
  ·rw [e1 i (R.lt i _ hi)] at ki
   split at hj
   ·rename_i e; subst e
    rw [updK_self] at kj
    have:=R.bnd i _ q hi ki
    have:=hk q kj
    omega
   ·rw [e1 j (R.lt j _ hj)] at kj
    exact R.inj i j _ _ q hi hj ki kj
 ·rw [thp_n] at hb
  split at hb
  ·rename_i e; subst e
   rw [updK_self] at hq
   exact R.zN (hk q hq).1
  ·rw [e1 id (R.lt id _ hb)] at hq; exact R.zout id B' q hb hq
 ·rw [thp_n] at hb
  split at hb
  ·rename_i e; subst e
   rw [updK_self] at hq
   exact (hk q hq).2
  ·rw [e1 id (R.lt id _ hb)] at hq; exact jan (R.bnd id B' q hb hq) hnn
 ·simp only [alk] at hb
  split at hb
  ·rename_i e; subst e; exact R.gN
  ·exact R.g id b hb
 ·rw [thp_n] at hb
  split at hb
  ·rename_i e; cases hb; subst e; exact .inr ⟨hF,fun q hq=>by rw [updK_self] at hq; exact (hk q hq).1⟩
  ·exact .inl ⟨B',hb,fun h=>h,e1 id (R.lt id _ hb),e2 id (R.lt id _ hb)⟩
theorem kab {id:Nat} {B:TB sem} (hb:alk s.hp id=some (some B)):thp c s id=some B:=by unfold thp; rw [hb]
theorem Rel.set (R:Rel P κ ln z c s env h n) {id q:Nat} {B0 B:TB sem} {AB:ABlk} (hb:alk s.hp id=some (some B0)) (hq:κ id=some q) (hB:BR P κ ln z (updH h q AB) s.n id B) (hF:B.isF=true->B0.isF=true:=by intro h; cases h):Rel P κ ln z c { s with hp:=(id,some B)::s.hp } env (updH h q AB) n:=by
 have hq':=R.bnd id B0 q (kab hb) hq
 refine ⟨R.env,fun i B' hi=>?_,fun i B' hi=>?_,fun i j B1 B2 q' hi hj ki kj=>?_,fun q' B' hz=>?_,fun i B' q' hi ki=>?_,fun i B' q' hi ki=>?_,fun q' hn=>?_,R.e0,fun i b hi=>?_,R.dy,R.zk,R.fam.map (fun i B' hi=>?_) (fun id _ B r _ h1 h2 h3=>((R.fam id B h1 h2).2 r h3).2.1) (jah _)⟩
 ·rw [kaW] at hi
  split at hi
  ·rename_i e; cases hi; subst e; exact hB
  ·rename_i hne
   refine (R.blk i B' hi).mono (fun _ _=>rfl) (fun _ _=>rfl) (fun _ _ h=>h) (jah _) (R.lt i B' hi) fun q1 B1 k1 h1=>?_
   unfold updH
   rw [if_neg]; ·exact h1
   rintro rfl
   exact hne (R.owI hi (kab hb) k1 (.inl hq))
 ·rw [kaW] at hi
  split at hi
  ·rename_i e; subst e; exact R.lt _ B0 (kab hb)
  ·exact R.lt i B' hi
 ·have:∀ i B',thp c { s with hp:=(id,some B)::s.hp } i=some B'->∃ B'',thp c s i=some B'':=fun i B' hi=>by
   rw [kaW] at hi
   split at hi
   ·rename_i e; subst e; exact ⟨B0,kab hb⟩
   ·exact ⟨_,hi⟩
  obtain ⟨_,hi⟩:=this i _ hi
  obtain ⟨_,hj⟩:=this j _ hj
  exact R.inj i j _ _ q' hi hj ki kj
 ·unfold updH
  split
  ·rename_i e; subst e; rw [R.zout id B0 _ (kab hb) hq] at hz; cases hz
  ·exact R.zin q' B' hz
 ·rw [kaW] at hi
  split at hi
  ·rename_i e; subst e; exact R.zout _ B0 q' (kab hb) ki
  ·exact R.zout i B' q' hi ki
 ·rw [kaW] at hi
  split at hi
  ·rename_i e; subst e; exact R.bnd _ B0 q' (kab hb) ki
  ·exact R.bnd i B' q' hi ki
 ·unfold updH
  rw [if_neg (by omega)]; exact R.hn q' hn
 ·simp only [alk] at hi
  split at hi
  ·rename_i e; subst e; exact R.g _ _ hb
  ·exact R.g i b hi
 ·rw [kaW] at hi
  split at hi
  ·rename_i e; cases hi; subst e; exact .inl ⟨B0,kab hb,hF,rfl,rfl⟩
  ·exact .inl ⟨B',hi,fun h=>h,rfl,rfl⟩
theorem Rel.del (R:Rel P κ ln z c s env h n) {id:Nat} {B0:TB sem} (hb:alk s.hp id=some (some B0)) (hh:∀ q B,h' q=some B->h q=some B) (hk:∀ q B,κ id≠some q->h q=some B->h' q=some B):Rel P κ ln z c { s with hp:=(id,none)::s.hp } env h' n:=by
 have sub:∀ i B',thp c { s with hp:=(id,none)::s.hp } i=some B'->i≠id/\thp c s i=some B':=fun i B' hi=>by
  rw [kaW] at hi
  split at hi
  ·cases hi
  ·rename_i e; exact ⟨e,hi⟩
 refine ⟨R.env,fun i B' hi=>?_,fun i B' hi=>R.lt i B' (sub i B' hi).2,fun i j B1 B2 q' hi hj ki kj=>R.inj i j _ _ q' (sub _ _ hi).2 (sub _ _ hj).2 ki kj,fun q' B' hz=>?_,fun i B' q' hi ki=>R.zout i B' q' (sub _ _ hi).2 ki,fun i B' q' hi ki=>R.bnd i B' q' (sub _ _ hi).2 ki,fun q' hn=>?_,R.e0,fun i b hi=>?_,R.dy,R.zk,R.fam.map (fun i B' hi=>.inl ⟨B',(sub i B' hi).2,fun h=>h,rfl,rfl⟩) (fun id _ B r _ h1 h2 h3=>((R.fam id B h1 h2).2 r h3).2.1) (jah _)⟩
 ·obtain ⟨hne,hi⟩:=sub i B' hi
  exact (R.blk i B' hi).mono (fun _ _=>rfl) (fun _ _=>rfl) (fun _ _ h=>h) (jah _) (R.lt i B' hi) fun q1 B1 k1 h1=>hk q1 B1 (fun e=>hne (R.owI hi (kab hb) k1 (.inl e))) h1
 ·exact hk q' B' (fun e=>by rw [R.zout id B0 _ (kab hb) e] at hz; cases hz) (R.zin q' B' hz)
 ·cases hx:h' q' with
  | none=>rfl
  | some B=>have:=hh q' B hx; rw [R.hn q' hn] at this; cases this
 ·simp only [alk] at hi
  split at hi
  ·rename_i e; subst e; exact R.g _ _ hb
  ·exact R.g i b hi
theorem kef {α:Type}:∀ (ids:List Nat) (l:List (Nat×Option α)) (i:Nat),alk (ids.map (fun id=>(id,none))++l) i=if ids.contains i then some none else alk l i
 | [],l,i=>by simp
 | id::ids,l,i=>by
  simp only [jap,jdp,alk,kef ids l i,List.contains_cons]
  by_cases h:i=id
  ·subst h; simp
  ·simp [h]
theorem Rel.retire (R:Rel P κ ln z c s env h n) {ids:List Nat} {s':TS sem} (hs:retire s ids=some s'):Rel P κ ln (hz (ows κ ln c s) h z ids) c s' env h n/\s'.env=s.env/\s'.n=s.n/\(∀ id b,alk s.hp id=some b->id∉ids->alk s'.hp id=some b)/\(∀ id∈ids,∃ B,alk s.hp id=some (some B))/\(∀ id B,alk s'.hp id=some (some B)->id∉ids):=by
 unfold Abs.retire at hs
 split at hs
 ·rename_i hall
  cases hs
  have own:∀ id∈ids,∃ B,alk s.hp id=some (some B):=fun id hi=>by
   have:=jam.1 hall id hi
   split at this
   ·rename_i B hB; exact ⟨_,hB⟩
   ·cases this
  have sub:∀ i B',thp c { s with hp:=ids.map (fun id=>(id,none))++s.hp,dy:=s.dy||!ids.isEmpty } i=some B'->i∉ids/\thp c s i=some B':=fun i B' hi=>by
   unfold thp at hi ⊢
   rw [kef] at hi
   split at hi
   ·rename_i b hb
    split at hb
    ·cases hb; cases hi
    ·rename_i hc
     rw [hb]; exact ⟨by simpa using hc,hi⟩
   ·rename_i hb
    split at hb
    ·cases hb
    ·rename_i hc
     rw [hb]; exact ⟨by simpa using hc,hi⟩
  refine ⟨⟨fun x=>(R.env x).mono (fun _ _=>rfl) (fun _ _=>rfl) (hz_z R.zin) (jah _),fun i B' hi=>?_,fun i B' hi=>R.lt i B' (sub i B' hi).2,fun i j B1 B2 q' hi hj ki kj=>R.inj i j _ _ q' (sub _ _ hi).2 (sub _ _ hj).2 ki kj,kea R.zin,fun i B' q' hi ki=>?_,fun i B' q' hi ki=>R.bnd i B' q' (sub _ _ hi).2 ki,R.hn,R.e0,fun i b hi=>?_,fun hd=>?_,fun q k T es hq e he=>?_,R.fam.map (fun i B' hi=>.inl ⟨B',(sub i B' hi).2,fun h=>h,rfl,rfl⟩) (fun id B' B r h0 h1 h2 h3=>?_) (jah _)⟩,rfl,rfl,fun id b hb hni=>?_,own,fun id B hb=>?_⟩
  ·exact (R.blk i B' (sub i B' hi).2).mono (fun _ _=>rfl) (fun _ _=>rfl) (hz_z R.zin) (jah _) (R.lt i B' (sub i B' hi).2) fun q1 B1 k1 h1=>h1
  ·obtain ⟨hni,hi⟩:=sub i B' hi
   unfold hz
   rw [if_neg]
   ·exact R.zout i B' q' hi ki
   ·intro hany
    obtain ⟨id,hid,he⟩:=jbc.1 hany
    obtain ⟨B,hB⟩:=own id hid
    have:=R.owI hi (kab hB) (.inl ki) (kcP (kab hB) (by simpa using he))
    subst this; exact hni hid
  ·replace hi:alk (ids.map (fun id=>(id,none))++s.hp) i=some b:=hi
   rw [kef] at hi
   split at hi
   ·rename_i hc
    obtain ⟨B,hB⟩:=own i (by simpa using hc)
    exact R.g i _ hB
   ·exact R.g i b hi
  ·simp only [jdg,Bool.not_eq_eq_eq_not,jds,jcp] at hd
   rw [hd.2,kbe]; exact R.dy hd.1
  ·unfold hz at hq
   split at hq
   ·rename_i hany
    obtain ⟨id,hid,hke⟩:=jbc.1 hany
    obtain ⟨B,hB⟩:=own id hid
    exact (R.blk id B (kab hB)).elenO (kcP (kab hB) (by simpa using hke)) hq e he
   ·exact R.zk q k T es hq e he
  ·obtain ⟨_,g2,g3,_⟩:=(R.fam id B h1 h2).2 r h3
   unfold hz
   rw [if_neg]
   ·exact g2
   ·intro hany
    obtain ⟨j,hj,he⟩:=jbc.1 hany
    obtain ⟨Bj,hBj⟩:=own j hj
    have:=R.owI h1 (kab hBj) (.inr ⟨h2,h3⟩) (kcP (kab hBj) (by simpa using he))
    subst this; exact (sub _ _ h0).1 hj
  ·show alk (ids.map (fun id=>(id,none))++s.hp) id=some b
   rw [kef,if_neg (by simpa using hni)]; exact hb
  ·replace hb:alk (ids.map (fun id=>(id,none))++s.hp) id=some (some B):=hb
   rw [kef] at hb
   split at hb
   ·cases hb
   ·rename_i hc; simpa using hc
 ·cases hs
def Ke (c:Cx sem) (N:Nat) (κ:Nat->Option Nat) (ln:Nat->Nat) (κ':Nat->Option Nat) (ln':Nat->Nat):Prop:=∀ id,id<N->κ' id = κ id/\(c.has id=true->ln' id=ln id)
theorem Ke.refl {c:Cx sem} {N:Nat} {κ:Nat->Option Nat} {ln:Nat->Nat}:Ke c N κ ln κ ln:=fun _ _=>⟨rfl,fun _=>rfl⟩
theorem Ke.trans {c:Cx sem} {N M:Nat} {κ κ' κ2:Nat->Option Nat} {ln ln' ln2:Nat->Nat} (h:Ke c N κ ln κ' ln') (h':Ke c M κ' ln' κ2 ln2) (hN:N<=M):Ke c N κ ln κ2 ln2:=fun id hi=>⟨(h' id (by omega)).1.trans (h id hi).1,fun hc=>((h' id (by omega)).2 hc).trans ((h id hi).2 hc)⟩
def calm (o:Oper):Bool:=!isW [] 0 o&&!kiH o&&(match o.op with | .buildSlice _ _ _ | .move _ | .assign _ | .build _ _=>false | _=>true)
def Res (P:Program) (κ:Nat->Option Nat) (ln:Nat->Nat) (z:AH) (c:Cx sem) (s:TS sem) (env:Env) (h:AH) (n:Nat) (o:Oper) {ρ:Ty} (Kf:TV sem->TS sem->sem.Ans ρ) (r:ρ.den):Prop:=
 ∃ tv s' v h' n' κ' ln' z',(∀ K:K3,K v h' n'->aop P env h n o K)/\Kf tv s'=some r/\Rel P κ' ln' z' c s' env h' n'/\TVR P κ' ln' z' s'.n tv v/\s.n<=s'.n/\Ke c s.n κ ln κ' ln'/\(calm o=true->s'=s/\h'=h/\n'=n/\κ' = κ/\ln'=ln/\z'=z)
variable {o:Oper} {ρ:Ty} {Kf:TV sem->TS sem->sem.Ans ρ} {r:ρ.den}
theorem Rel.q (R:Rel P κ ln z c s env h n) {tv:TV sem} {v:AV} (ho:∀ K:K3,K v h n->aop P env h n o K) (hv:TVR P κ ln z s.n tv v) (hk:Kf tv s=some r):Res P κ ln z c s env h n o Kf r:=
 ⟨tv,s,v,h,n,κ,ln,z,ho,hk,R,hv,jah _,fun _ _=>⟨rfl,fun _=>rfl⟩,fun _=>⟨rfl,rfl,rfl,rfl,rfl,rfl⟩⟩
theorem kiu (hw:calm o=false) (R:Rel P κ ln z c s env h n) {T:TypeId} {t:Ty} {l:List t.den} {es:List (List AV)} (hd:t.dat=true) (hv:SnapE z es (l.map t.enc)) (h1:∀ e∈es,∀ a∈e,a.one=true)
  (ho:∀ K:K3,K (.ms n 0 l.length) (updH h n (.cells t.wd T es)) (n+1)->aop P env h n o K) (hk:newSl (A:=sem) s T t l Kf=some r):Res P κ ln z c s env h n o Kf r:=by
 have R':=R.new (h':=updH h n (.cells t.wd T es)) (n':=n+1) (.sl T t l) (some n) l.length (fun q B hq=>by
   unfold updH; rw [if_neg]; ·exact hq
   rintro rfl; rw [R.hn _ (jah _)] at hq; cases hq) (jbw _) (fun q hq=>by cases hq; omega) (fun q hq=>by unfold updH; rw [if_neg (by omega)]; exact R.hn q (by omega))
  (.sl T t l n es hd updK_self (by simp [updH]) hv h1 updK_self.symm)
 exact ⟨.mw s.n,_,_,_,_,_,_,_,ho,hk,R',by have:=TVR.mw (P:=P) (κ:=updK κ s.n (some n)) (ln:=updK ln s.n l.length) (z:=z) (N:=s.n+1) s.n n (jbk _) updK_self; rw [updK_self] at this; exact this,jbw _,fun id hi=>⟨kau hi,fun _=>kau hi⟩,fun hc=>by rw [hw] at hc; cases hc⟩
theorem kjC (hw:calm o=false) (R:Rel P κ ln z c s env h n) {T:TypeId} {t:Ty} (hd:t.dat=true)
  (ho:∀ K:K3,K nilS h n->aop P env h n o K) (hk:newSl (A:=sem) s T t ([]:List t.den) Kf=some r):Res P κ ln z c s env h n o Kf r:=by
 have R':=R.new (h':=h) (n':=n) (.sl T t []) none 0 (fun q B hq=>hq) (jah _) (fun q hq=>by cases hq) R.hn (.sl0 T t [] hd updK_self rfl updK_self)
 exact ⟨.mw s.n,_,_,_,_,_,_,_,ho,hk,R',.mw0 s.n (jbk _) updK_self,jbw _,fun id hi=>⟨kau hi,fun _=>kau hi⟩,fun hc=>by rw [hw] at hc; cases hc⟩
theorem kkN (hw:calm o=false) (R:Rel P κ ln z c s env h n) {T:TypeId} {vs:List (TV sem)} {as:List AV} (hv:TVRs P κ ln z s.n vs as) (h1:∀ a∈as,a.one=true)
  (ho:∀ K:K3,K (.own n 0 0) (updH h n (.cells as.length T [as])) (n+1)->aop P env h n o K) (hk:newBx (A:=sem) s (.bx T vs) Kf=some r):Res P κ ln z c s env h n o Kf r:=by
 have R':=R.new (h':=updH h n (.cells as.length T [as])) (n':=n+1) (.bx T vs) (some n) 0 (fun q B hq=>by
   unfold updH; rw [if_neg]; ·exact hq
   rintro rfl; rw [R.hn _ (jah _)] at hq; cases hq) (jbw _) (fun q hq=>by cases hq; omega) (fun q hq=>by unfold updH; rw [if_neg (by omega)]; exact R.hn q (by omega))
  (.bx T vs n as updK_self (by simp [updH,hv.len]) (hv.mono (fun id hi=>kau hi) (fun id hi=>kau hi) (fun _ _ h=>h) (jbw _)) h1)
 exact ⟨.ptr s.n 0,_,_,_,_,_,_,_,ho,hk,R',.ptr s.n 0 n (jbk _) updK_self,jbw _,fun id hi=>⟨kau hi,fun _=>kau hi⟩,fun hc=>by rw [hw] at hc; cases hc⟩
theorem koB (hw:calm o=false) (R:Rel P κ ln z c s env h n) {T:TypeId} {t:Ty} {x:t.den} {as:List AV} (hd:t.dat=true) (hv:SnapL z as (t.enc x)) (h1:∀ a∈as,a.one=true)
  (ho:∀ K:K3,K (.own n 0 0) (updH h n (.cells as.length T [as])) (n+1)->aop P env h n o K) (hk:newBx (A:=sem) s (.el T t x) Kf=some r):Res P κ ln z c s env h n o Kf r:=by
 have hlen:as.length=t.wd:=by rw [<-kaf t x hd]; exact hv.len.symm
 have R':=R.new (h':=updH h n (.cells as.length T [as])) (n':=n+1) (.el T t x) (some n) (match t with | .ar m _=>m | _=>0) (fun q B hq=>by
   unfold updH; rw [if_neg]; ·exact hq
   rintro rfl; rw [R.hn _ (jah _)] at hq; cases hq) (jbw _) (fun q hq=>by cases hq; omega) (fun q hq=>by unfold updH; rw [if_neg (by omega)]; exact R.hn q (by omega))
  (.el T t x n as hd updK_self (by simp [updH,hlen]) hv h1 (fun m u e=>by subst e; exact updK_self))
 exact ⟨.ptr s.n 0,_,_,_,_,_,_,_,ho,hk,R',.ptr s.n 0 n (jbk _) updK_self,jbw _,fun id hi=>⟨kau hi,fun _=>kau hi⟩,fun hc=>by rw [hw] at hc; cases hc⟩
theorem Snap.one_rev {a a':AV} (hs:Snap z a a') (h1:a'.one=true):a.one=true:=by
 cases hs <;> first | exact h1 | rfl | (simp [AV.one] at h1; done)
theorem SnapL.one_rev {a b:List AV} (h:SnapL z a b) (hb:∀ x∈b,x.one=true):∀ x∈a,x.one=true:=by
 induction h with
 | nil=>intro x hx; cases hx
 | cons h1 h2 ih=>
  intro x hx
  rcases jbu.1 hx with rfl | hx
  ·exact h1.one_rev (hb _ (by simp))
  ·exact ih (fun y hy=>hb y (by simp [hy])) x hx
end
theorem kxC {l:List Ty} (h:∀ t∈l,t.dat=true):(stTy l).dat=true:=by
 have ht:∀ l:List Ty,(∀ t∈l,t.dat=true)->(tup l).dat=true:=by
  intro l
  induction l with
  | nil=>intro _; rfl
  | cons t ts ih=>
   intro h
   cases ts with
   | nil=>exact h t (by simp)
   | cons u ts=>simp only [tup,Ty.dat,jac]; exact ⟨h t (by simp),ih fun x hx=>h x (by simp [hx])⟩
 unfold stTy
 split
 ·rfl
 ·simp only [Ty.dat]; exact h _ (by simp)
 ·exact ht l h
theorem kuo {α β:Type} {f:α->Option β} {p:β->Prop} (hf:∀ x y,f x=some y->p y):∀ (l:List α) (r:List β),l.mapM f=some r->∀ y∈r,p y
 | [],r,h=>by simp at h; subst h; simp
 | x::l,r,h=>by
  simp only [jdn,Option.bind_eq_bind,jaa,Option.pure_def,Option.some.injEq] at h
  obtain ⟨y,hy,r',hr,rfl⟩:=h
  intro w hw
  rcases jbu.1 hw with rfl | hw
  ·exact hf x _ hy
  ·exact kuo hf l r' hr w hw
theorem krq {P:Program}:∀ (d:Nat) (T:TypeId) (t:Ty),tyF P d T=some t->t.dat=true
 | 0,T,t,h=>by simp [tyF] at h
 | d+1,T,t,h=>by
  simp only [tyF] at h
  split at h
  any_goals (simp only [jab] at h)
  all_goals first | (cases h; rfl) | (cases h; done) | (obtain ⟨u,hu,rfl⟩:=h; exact krq d _ u hu) | skip
  ·obtain ⟨ts,hts,rfl⟩:=h
   exact kxC (kuo (fun x y hy=>krq d _ y hy) _ _ hts)
theorem ket {P:Program} {T:TypeId} {t:Ty} (h:tyOf P T=some t):t.dat=true:=krq 9 T t h
section
variable {P:Program} {κ κ':Nat->Option Nat} {ln ln':Nat->Nat} {z z':AH} {c:Cx sem} {s:TS sem} {env:Env} {h h':AH} {n n' N N':Nat}
variable {o:Oper} {ρ:Ty} {Kf:TV sem->TS sem->sem.Ans ρ} {r:ρ.den}
variable {d:Option Tmp} {ty:TypeId} {pos:String} {after:Array Edge} {g:Option (Nat×Bool)}
theorem kaa {α:Type} {r:α} (h:none=some r) {p:Prop}:p:=by cases h
theorem koH (hw:calm o=false) (R:Rel P κ ln z c s env h n) {T:TypeId} {v:TV sem} {a:AV} (hv:TVR P κ ln z s.n v a) (ho:∀ K:K3,K a h n->aop P env h n o K) (hk:moveX P s T v Kf=some r):Res P κ ln z c s env h n o Kf r:=by
 unfold moveX at hk
 split at hk
 ·rename_i u
  split at hk
  ·rename_i hn
   obtain rfl:=kaK hn
   cases hv
   unfold nilV at hk
   split at hk
   ·split at hk
    ·rename_i t ht
     exact kjC hw R (ket ht) ho hk
    ·exact R.q ho (.sc _ rfl) hk
   ·exact R.q ho (.sc _ rfl) hk
  ·exact R.q ho hv hk
 ·exact R.q ho hv hk
theorem TVR.getB_inv {v:TV sem} {a:AV} {b:Bool} (hv:TVR P κ ln z N v a) (hb:getB v=some b):a = .sc (.bool b):=by
 cases hv <;> try (simp only [getB,reduceCtorEq] at hb; done)
 ·rename_i t x hd hs
  cases t <;> simp only [getB,Option.some.injEq,reduceCtorEq] at hb
  subst hb; exact hs.sc_inv
 ·cases hb; rfl
theorem TVR.i_inv {k:IntKind} {x:Int} {a:AV} (hv:TVR P κ ln z N (.c (.i k) x) a):a = .sc (.int k x):=by
 cases hv with | c _ _ _ _ hs=>exact hs.sc_inv
theorem TVR.b_inv {x:Bool} {a:AV} (hv:TVR P κ ln z N (.c .b x) a):a = .sc (.bool x):=by
 cases hv with | c _ _ _ _ hs=>exact hs.sc_inv
theorem TVR.s_inv {x:List UInt8} {a:AV} (hv:TVR P κ ln z N (.c .s x) a):a=str x:=by
 cases hv with | c _ _ _ _ hs=>exact hs.sc_inv
theorem TVR.i64_inv {v:TV sem} {x:Int} {a:AV} (hv:TVR P κ ln z N v a) (hx:keM v=some x):a = .sc (.int .i64 x):=by
 cases hv <;> try (simp only [keM,reduceCtorEq] at hx; done)
 rename_i t y hd hs
 cases t <;> simp only [keM,reduceCtorEq] at hx
 rename_i k
 cases k <;> simp only [keM,Option.some.injEq,reduceCtorEq] at hx
 subst hx
 exact hs.sc_inv
theorem TVR.int (k:IntKind) (x:Int):TVR P κ ln z N (.c (.i k) x) (.sc (.int k x)):=.c (.i k) x _ rfl (.free _ (.sc _))
theorem TVR.bool (x:Bool):TVR P κ ln z N (.c .b x) (.sc (.bool x)):=.c .b x _ rfl (.free _ (.sc _))
theorem TVR.str (x:List UInt8):TVR P κ ln z N (.c .s x) (Abs.str x):=.c .s x _ rfl (.free _ (.sc _))
theorem TVR.free {t:Ty} {x:t.den} (hd:t.dat=true):TVR P κ ln z N (.c t x) (t.av x):=.c t x _ hd (.free _ (kgR t x hd))
theorem kcr {ρ:Ty} {b:Bool} {x y:sem.Ans ρ} {r:ρ.den} (h:sem.ite b x y=some r):(b=true/\x=some r)\/(b=false/\y=some r):=by
 cases b
 ·exact .inr ⟨rfl,by simpa using h⟩
 ·exact .inl ⟨rfl,by simpa using h⟩
theorem kjD {T:TypeId} {zs:List AV} (hz:zeroO P T=some zs):∀ a∈zs,∃ v,a = .sc v/\v.oneCell'=true:=by
 unfold zeroO at hz
 simp only [jaa] at hz
 obtain ⟨i,hi,zz,hzz,hz⟩:=hz
 split at hz
 ·rename_i hc
  cases hz
  simp only [jac,jcc] at hc
  intro a ha
  obtain ⟨v,hv,rfl⟩:=jay.1 ha
  exact ⟨v,rfl,hc.1 v (by simpa using hv)⟩
 ·cases hz
theorem kgs:∀ (zs:List AV) (Ts:List TypeId) {κ:Nat->Option Nat} {ln:Nat->Nat} {s:TS sem},Rel P κ ln z c s env h n->(∀ a∈zs,∃ v,a = .sc v/\v.oneCell'=true)->zs.length=Ts.length->
  ∃ κ' ln',Rel P κ' ln' z c (zeroC P s zs Ts).2 env h n/\TVRs P κ' ln' z (zeroC P s zs Ts).2.n (zeroC P s zs Ts).1 zs/\s.n<=(zeroC P s zs Ts).2.n/\(zeroC P s zs Ts).2.env=s.env/\(∀ id,id<s.n->κ' id = κ id)/\(∀ id,id<s.n->ln' id=ln id)/\
   (∀ id b,alk s.hp id=some b->id<s.n->alk (zeroC P s zs Ts).2.hp id=some b)
 | [],[],κ,ln,s,R,_,_=>⟨κ,ln,R,.nil,jah _,rfl,fun _ _=>rfl,fun _ _=>rfl,fun _ _ hb _=>hb⟩
 | [],_::_,_,_,_,_,_,hl=>by simp at hl
 | _::_,[],_,_,_,_,_,hl=>by simp at hl
 | a::zs,T::Ts,κ,ln,s,R,hz,hl=>by
  obtain ⟨v,rfl,hv⟩:=hz _ (jdb ..)
  have hz':∀ a∈zs,∃ v,a = .sc v/\v.oneCell'=true:=fun a ha=>hz a (jbb _ ha)
  have hl':zs.length=Ts.length:=by simpa using hl
  have easy:∃ κ' ln',Rel P κ' ln' z c (zeroC P s zs Ts).2 env h n/\TVRs P κ' ln' z (zeroC P s zs Ts).2.n (ofVal sem v::(zeroC P s zs Ts).1) (.sc v::zs)/\s.n<=(zeroC P s zs Ts).2.n/\(zeroC P s zs Ts).2.env=s.env/\(∀ id,id<s.n->κ' id = κ id)/\(∀ id,id<s.n->ln' id=ln id)/\
   (∀ id b,alk s.hp id=some b->id<s.n->alk (zeroC P s zs Ts).2.hp id=some b):=by
   obtain ⟨κ',ln',R',h1,h2,h3,h4,h5,h6⟩:=kgs zs Ts R hz' hl'
   exact ⟨κ',ln',R',.cons _ _ _ _ (kkD v hv) h1,h2,h3,h4,h5,h6⟩
  simp only [zeroC]
  split
  ·rename_i hn
   obtain rfl:=kaK hn
   split
   ·rename_i e he
    split
    ·rename_i t ht
     have hd:=ket ht
     have R1:=R.new (h':=h) (n':=n) (.sl e t []) none 0 (fun q B hq=>hq) (jah _) (fun q hq=>by cases hq) R.hn (.sl0 e t [] hd updK_self rfl updK_self)
     obtain ⟨κ',ln',R',h1,h2,h3,h4,h5,h6⟩:=kgs zs Ts R1 hz' hl'
     refine ⟨κ',ln',R',.cons _ _ _ _ (.mw0 s.n (jan (jbk _) h2) (by rw [h4 s.n (jbk _)]; exact updK_self)) h1,Nat.le_of_succ_le h2,h3,fun id hi=>by rw [h4 id (jdz hi)]; exact kau hi,fun id hi=>by rw [h5 id (jdz hi)]; exact kau hi,fun id b hb hi=>h6 id b (by simp only [alk]; rw [if_neg (by omega)]; exact hb) (jdz hi)⟩
    ·exact easy
   ·exact easy
  ·exact easy
theorem ktV {t:Ty} {x:t.den} (hf:∀ zs rest,isZ t zs=some rest->∃ a,zs=a++rest/\SnapL z a (t.enc x)):∀ (m:Nat) (zs rest:List AV),repO (isZ t) m zs=some rest->∃ a,zs=a++rest/\SnapL z a ((List.replicate m x).map t.enc).flatten
 | 0,zs,rest,h=>by simp [repO] at h; subst h; exact ⟨[],rfl,.nil⟩
 | m+1,zs,rest,h=>by
  simp only [repO,jaa] at h
  obtain ⟨r1,h1,h2⟩:=h
  obtain ⟨a,rfl,g1⟩:=hf zs r1 h1
  obtain ⟨b,rfl,g2⟩:=ktV hf m r1 rest h2
  exact ⟨a++b,by simp,by simpa [List.replicate_succ] using g1.append g2⟩
theorem kdC:∀ (t:Ty) (x:t.den) (zs rest:List AV),t.dat=true->zeroD (A:=sem) t=some x->isZ t zs=some rest->∃ a,zs=a++rest/\SnapL z a (t.enc x)
 | .pr t u,x,zs,rest,hd,hx,hz=>by
  simp only [zeroD,jaa,jab] at hx
  obtain ⟨x1,h1,x2,h2,rfl⟩:=hx
  simp only [isZ,jaa] at hz
  obtain ⟨r1,g1,g2⟩:=hz
  simp only [Ty.dat,jac] at hd
  obtain ⟨a,rfl,k1⟩:=kdC t x1 zs r1 hd.1 h1 g1
  obtain ⟨b,rfl,k2⟩:=kdC u x2 r1 rest hd.2 h2 g2
  exact ⟨a++b,by simp,k1.append k2⟩
 | .w t,x,zs,rest,hd,hx,hz=>by
  simp only [zeroD,jab] at hx
  obtain ⟨x1,h1,rfl⟩:=hx
  exact kdC t x1 zs rest hd h1 hz
 | .ar m t,x,zs,rest,hd,hx,hz=>by
  simp only [zeroD,jab] at hx
  obtain ⟨x1,h1,rfl⟩:=hx
  simp only [isZ] at hz
  split at hz
  ·obtain ⟨a,e,g1⟩:=ktV (z:=z) (fun zs rest h=>kdC t x1 zs rest hd h1 h) m zs rest hz
   exact ⟨a,e,g1⟩
  ·cases hz
 | .un,x,zs,rest,hd,hx,hz=>by simp [isZ] at hz; subst hz; exact ⟨[],rfl,.nil⟩
 | .i k,x,zs,rest,hd,hx,hz=>by
  cases zs with
  | nil=>simp [isZ] at hz
  | cons a zs=>
   cases a <;> try (simp [isZ] at hz; done)
   rename_i v
   cases v <;> try (simp [isZ] at hz; done)
   simp only [isZ] at hz
   split at hz
   ·rename_i hh
    obtain ⟨rfl,rfl⟩:=hh
    cases hz; cases hx
    exact ⟨[_],rfl,.cons (.free _ (.sc _)) .nil⟩
   ·cases hz
 | .b,x,zs,rest,hd,hx,hz=>by
  cases zs with
  | nil=>simp [isZ] at hz
  | cons a zs=>
   cases a <;> try (simp [isZ] at hz; done)
   rename_i v
   cases v <;> try (simp [isZ] at hz; done)
   simp only [isZ] at hz
   split at hz
   ·cases hz
   ·rename_i hh
    cases hz; cases hx
    refine ⟨[_],rfl,.cons ?_ .nil⟩
    rw [jch] at hh; subst hh; exact .free _ (.sc _)
 | .s,x,zs,rest,hd,hx,hz=>by
  cases zs with
  | nil=>simp [isZ] at hz
  | cons a zs=>
   cases a <;> try (simp [isZ] at hz; done)
   rename_i v
   cases v <;> try (simp [isZ] at hz; done)
   simp only [isZ] at hz
   split at hz
   ·rename_i w hh
    cases hz; cases hx
    refine ⟨[_],rfl,.cons ?_ .nil⟩
    obtain ⟨⟨l⟩⟩:=w
    simp at hh; subst hh
    exact .free _ (.sc _)
   ·cases hz
 | .sl t,x,zs,rest,hd,hx,hz=>by
  cases zs with
  | nil=>simp [isZ] at hz
  | cons a zs=>
   cases a <;> try (simp [isZ] at hz; done)
   rename_i v
   simp only [isZ] at hz
   split at hz
   ·rename_i hh
    cases hz; cases hx
    rw [kaK hh]
    exact ⟨[_],rfl,.cons .nilS .nil⟩
   ·cases hz
 | .op t,x,zs,rest,hd,hx,hz=>by
  cases zs with
  | nil=>simp [isZ] at hz
  | cons a zs=>
   cases a <;> try (simp [isZ] at hz; done)
   rename_i v
   simp only [isZ] at hz
   split at hz
   ·rename_i hh
    cases hz; cases hx
    rw [kkt hh]
    exact ⟨[_],rfl,.cons (.free _ (.sc _)) .nil⟩
   ·cases hz
 | .pt _,x,zs,rest,hd,hx,hz=>by simp [zeroD] at hx
 | .nt,x,zs,rest,hd,hx,hz=>by simp [zeroD] at hx
 | .sm _ _,x,zs,rest,hd,hx,hz=>by simp [zeroD] at hx
 | .fn _ _ _,x,zs,rest,hd,hx,hz=>by simp [zeroD] at hx
end
end Go.Abs
