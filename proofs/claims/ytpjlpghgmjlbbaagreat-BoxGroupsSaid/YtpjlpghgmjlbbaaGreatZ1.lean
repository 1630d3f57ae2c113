/- The machinery, part 1. -/
import Derived.WalkKit
import Derived.OrdersIn
import Derived.RangeFuncRecord
import Derived.RangeFuncLeaves
import Derived.Laws.Cover1
import Derived.Laws.Cover3
import Derived.Laws.StructEq
import Derived.ChangeKeysEq
import Derived.MapKept
import Derived.Laws.RangeString
import Derived.Laws.BytesString
set_option linter.constructorNameAsVariable false
set_option linter.unusedVariables false
set_option linter.unusedSimpArgs false
set_option linter.unusedSectionVars false
abbrev jaa:=@Option.bind_eq_some_iff
abbrev jab:=@Option.map_eq_some_iff
abbrev jac:=@Bool.and_eq_true
abbrev jad:=@List.getElem?_eq_some_iff
abbrev jae:=@List.getElem?_eq_getElem
abbrev jaf:=@Array.getD_eq_getD_getElem?
abbrev jag:=@List.mem_of_getElem?
abbrev jah:=@Nat.le_refl
abbrev jai:=@decide_eq_true_eq
abbrev jaj:=@Bool.false_eq_true
abbrev jak:=@Array.getElem?_eq_some_iff
abbrev jal:=@Option.bind_some
abbrev jam:=@List.all_eq_true
abbrev jan:=@Nat.lt_of_lt_of_le
abbrev jao:=@Option.isSome_iff_exists
abbrev jap:=@List.map_cons
abbrev jaq:=@List.getElem?_drop
abbrev jar:=@List.length_map
abbrev jas:=@Array.getElem?_eq_getElem
abbrev jat:=@List.getD_eq_getElem?_getD
abbrev jau:=@List.append_assoc
abbrev jav:=@Bool.or_eq_true
abbrev jaw:=@List.getElem?_map
abbrev jax:=@Bool.eq_false_or_eq_true
abbrev jay:=@List.mem_map
abbrev jaz:=@List.mem_append
abbrev jba:=@List.nil_append
abbrev jbb:=@List.mem_cons_of_mem
abbrev jbc:=@List.any_eq_true
abbrev jbd:=@List.append_nil
abbrev jbe:=@List.mem_iff_getElem?
abbrev jbf:=@List.getElem?_set_ne
abbrev jbg:=@List.length_append
abbrev jbh:=@List.length_take
abbrev jbi:=@Bool.not_eq_true'
abbrev jbj:=@Int.toNat_natCast
abbrev jbk:=@Nat.lt_succ_self
abbrev jbl:=@List.getElem?_append_left
abbrev jbm:=@List.getElem?_append
abbrev jbn:=@List.getElem?_take
abbrev jbo:=@List.contains_iff_mem
abbrev jbp:=@List.eq_nil_of_length_eq_zero
abbrev jbq:=@List.drop_eq_nil_of_le
abbrev jbr:=@List.take_of_length_le
abbrev jbs:=@List.getElem?_set_self
abbrev jbt:=@Nat.mul_le_mul_right
abbrev jbu:=@List.mem_cons
abbrev jbv:=@List.getElem?_toArray
abbrev jbw:=@Nat.le_succ
abbrev jbx:=@List.zipIdx_cons
abbrev jby:=@Nat.add_mul
abbrev jbz:=@List.getElem?_cons_succ
abbrev jca:=@Option.getD_some
abbrev jcb:=@Nat.zero_add
abbrev jcc:=@Array.all_eq_true_iff_forall_mem
abbrev jcd:=@List.length_set
abbrev jce:=@List.mem_filterMap
abbrev jcf:=@List.getElem?_append_right
abbrev jcg:=@Option.map_some
abbrev jch:=@Bool.not_eq_true
abbrev jci:=@Array.length_toList
abbrev jcj:=@List.mem_range
abbrev jck:=@List.drop_zero
abbrev jcl:=@Array.getElem?_toList
abbrev jcm:=@Option.any_eq_true
abbrev jcn:=@List.filterMap_cons
abbrev jco:=@List.mem_of_mem_take
abbrev jcp:=@List.isEmpty_iff
abbrev jcq:=@Array.getElem?_setIfInBounds_ne
abbrev jcr:=@List.length_replicate
abbrev jcs:=@List.eq_nil_iff_forall_not_mem
abbrev jct:=@List.getElem?_replicate
abbrev jcu:=@List.getElem?_cons_zero
abbrev jcv:=@List.nodup_cons
abbrev jcw:=@Option.ite_none_right_eq_some
abbrev jcx:=@List.map_append
abbrev jcy:=@Nat.le_trans
abbrev jcz:=@List.getElem?_of_mem
abbrev jda:=@List.mem_of_mem_drop
abbrev jdb:=@List.mem_cons_self
abbrev jdc:=@List.mem_zipIdx_iff_getElem?
abbrev jdd:=@List.length_cons
abbrev jde:=@List.nodup_iff_pairwise_ne
abbrev jdf:=@List.mem_iff_getElem
abbrev jdg:=@Bool.or_eq_false_iff
abbrev jdh:=@Nat.lt_or_ge
abbrev jdi:=@List.take_zero
abbrev jdj:=@Option.isNone_iff_eq_none
abbrev jdk:=@Bool.false_or
abbrev jdl:=@List.map_eq_nil_iff
abbrev jdm:=@List.getElem?_take_of_lt
abbrev jdn:=@List.mapM_cons
abbrev jdo:=@List.length_drop
abbrev jdp:=@List.cons_append
abbrev jdq:=@Array.getElem?_append_left
abbrev jdr:=@Array.getElem?_eq_none
abbrev jds:=@Bool.not_false
abbrev jdt:=@List.drop_eq_getElem_cons
abbrev jdu:=@Bool.not_true
abbrev jdv:=@List.getElem?_eq_none
abbrev jdw:=@List.mem_singleton
abbrev jdx:=@Nat.add_assoc
abbrev jdy:=@List.all_cons
abbrev jdz:=@Nat.lt_succ_of_lt
abbrev jea:=@Nat.zero_le
abbrev jeb:=@List.mem_filter
abbrev jec:=@Int.le_refl
namespace Go.Abs
open Go Go.RowKit
inductive AV where
 | sc (v:Value)
 | ud
 | un
 | e0
 | own (id i j:Nat)
 | ms (id off len:Nat)
 | mp (id:Nat)
 | fp (cs:List AV)
 | sl (es:List (List AV))
 | fn (f:FuncId) (caps:List AV)
 | ag (cs:List AV)
 | tp (vs:List AV)
 | gs (es:List (List AV))
def AV.one:AV->Bool
 | .ud | .un | .ag _ | .tp _ | .gs _=>false
 | .sc v=>v.oneCell'
 | _=>true
def AV.vl:AV->Bool
 | .ag _=>true
 | v=>v.one
abbrev Mu:=Nat->Option (Nat×Nat)
def Av (O:Nat->Prop) (μ:Mu) (b:Nat):Prop:=O b\/∃ id k,μ id=some (b,k)
def MsAt (w:World) (b k off len:Nat) (v:Value):Prop:=
 ∃ o cap c T,v = .slice (some ⟨b,o,none⟩) len cap/\len<=cap/\cap<=maxLen/\(cap≠0->o=off*k)/\w.heap[b]?=some (.cells c T (0,0))/\(off+cap)*k=c.size
inductive VR (w:World) (O:Nat->Prop) (μ:Mu) (n:Nat):AV->Value->Prop where
 | sc (v:Value) (h:v.oneCell'=true):VR w O μ n (.sc v) v
 | ud:VR w O μ n .ud undef
 | un (v:Value):VR w O μ n .un v
 | gs (es:List (List AV)):VR w O μ n (.gs es) undef
 | e0 (p:Option Addr):VR w O μ n .e0 (.slice p 0 0)
 | own (id i j:Nat) (v:Value) (h:id<n) (h1:v.oneCell'=true) (hv:∀ b k,μ id=some (b,k)->v = .pointer (some ⟨b,i*k+j,none⟩)):VR w O μ n (.own id i j) v
 | ms (id off len:Nat) (v:Value) (h:id<n) (h1:v.oneCell'=true) (hv:∀ b k,μ id=some (b,k)->MsAt w b k off len v):VR w O μ n (.ms id off len) v
 | mp (id:Nat) (v:Value) (h:id<n) (h1:v.oneCell'=true) (hv:∀ b k,μ id=some (b,k)->v = .map (some b)):VR w O μ n (.mp id) v
 | fp (cs:List AV) (b o:Nat) (us:Nat->Value) (hA:cs≠[]->¬ Av O μ b)
   (hc:∀ (j:Nat) (c:AV),cs[j]?=some c->w.cell? ⟨b,o+j,none⟩=some (us j)) (h1:∀ (j:Nat) (c:AV),cs[j]?=some c->c.one=true)
   (hr:∀ (j:Nat) (c:AV),cs[j]?=some c->VR w O μ n c (us j)):VR w O μ n (.fp cs) (.pointer (some ⟨b,o,none⟩))
 | slnil (p:Option Addr):VR w O μ n (.sl []) (.slice p 0 0)
 | sl (es:List (List AV)) (b o cap k:Nat) (us:Nat->Nat->Value) (hcap:es.length<=cap) (hmax:cap<=maxLen) (hA:∀ (i:Nat) (e:List AV),es[i]?=some e->e≠[]->¬ Av O μ b)
   (hk:∀ (i:Nat) (e:List AV),es[i]?=some e->e.length=k)
   (hc:∀ (i:Nat) (e:List AV),es[i]?=some e->∀ (j:Nat) (c:AV),e[j]?=some c->w.cell? ⟨b,o+i*k+j,none⟩=some (us i j)) (h1:∀ (i:Nat) (e:List AV),es[i]?=some e->∀ (j:Nat) (c:AV),e[j]?=some c->c.one=true)
   (hr:∀ (i:Nat) (e:List AV),es[i]?=some e->∀ (j:Nat) (c:AV),e[j]?=some c->VR w O μ n c (us i j)):VR w O μ n (.sl es) (.slice (some ⟨b,o,none⟩) es.length cap)
 | fn (f:FuncId) (caps:List AV) (vs:Array Value) (us:Nat->Value) (hs:vs.size=caps.length) (hc:∀ (j:Nat) (c:AV),caps[j]?=some c->vs[j]?=some (us j))
   (hr:∀ (j:Nat) (c:AV),caps[j]?=some c->VR w O μ n c (us j)):VR w O μ n (.fn f caps) (.func (.func f) #[] vs)
 | ag (cs:List AV) (vs:Array Value) (us:Nat->Value) (hs:vs.size=cs.length) (hc:∀ (j:Nat) (c:AV),cs[j]?=some c->vs[j]?=some (us j)) (h1:∀ (j:Nat) (c:AV),cs[j]?=some c->c.one=true)
   (hr:∀ (j:Nat) (c:AV),cs[j]?=some c->VR w O μ n c (us j)):VR w O μ n (.ag cs) (.agg vs)
 | tp (cs:List AV) (vs:Array Value) (us:Nat->Value) (hs:vs.size=cs.length) (hc:∀ (j:Nat) (c:AV),cs[j]?=some c->vs[j]?=some (us j))
   (hr:∀ (j:Nat) (c:AV),cs[j]?=some c->VR w O μ n c (us j)):VR w O μ n (.tp cs) (.tuple vs)
structure Evo (w:World) (μ:Mu) (n:Nat) (w':World) (μ':Mu) (n':Nat):Prop where
 os:w'.os=w.os
 tape:w'.tape=w.tape
 output:w'.output=w.output
 size:w.heap.size<=w'.heap.size
 le:n<=n'
 keep:∀ b,b<w.heap.size->(∀ id k,μ id≠some (b,k))->w'.heap[b]?=w.heap[b]?
 row:∀ (b:Nat) c T f,w.heap[b]?=some (.cells c T f)->∃ c',w'.heap[b]?=some (.cells c' T f)/\c'.size=c.size
 ids:∀ id,id<n->μ' id = μ id\/μ' id=none
 new:∀ id b k,μ' id=some (b,k)->n<=id->w.heap.size<=b\/∃ id0 k0,μ id0=some (b,k0)
theorem Evo.refl (w:World) (μ:Mu) (n:Nat) (hs:∀ id b k,μ id=some (b,k)->id<n):Evo w μ n w μ n:=
 ⟨rfl,rfl,rfl,jah _,jah _,fun _ _ _=>rfl,fun _ c _ _ h=>⟨c,h,rfl⟩,fun _ _=>.inl rfl,fun id b k h hn=>absurd (hs id b k h) (by omega)⟩
theorem Evo.trans {w w1 w2:World} {μ μ1 μ2:Mu} {n n1 n2:Nat} (h:Evo w μ n w1 μ1 n1) (g:Evo w1 μ1 n1 w2 μ2 n2):Evo w μ n w2 μ2 n2 where
 os:=g.os.trans h.os
 tape:=g.tape.trans h.tape
 output:=g.output.trans h.output
 size:=jcy h.size g.size
 le:=jcy h.le g.le
 keep b hb hn:=by
  rw [g.keep b (jan hb h.size) ?_,h.keep b hb hn]
  intro id k he
  rcases jdh id n with hi | hi
  ·rcases h.ids id hi with e | e
   ·rw [e] at he; exact hn id k he
   ·rw [e] at he; cases he
  ·rcases h.new id b k he hi with e | ⟨id0,k0,e⟩
   ·omega
   ·exact hn id0 k0 e
 row b c T f hb:=by
  obtain ⟨c1,h1,e1⟩:=h.row b c T f hb
  obtain ⟨c2,h2,e2⟩:=g.row b c1 T f h1
  exact ⟨c2,h2,e2.trans e1⟩
 ids id hi:=by
  rcases g.ids id (jan hi h.le) with e | e
  ·rw [e]; exact h.ids id hi
  ·exact .inr e
 new id b k he hi:=by
  rcases jdh id n1 with h1 | h1
  ·rcases g.ids id h1 with e | e
   ·exact h.new id b k (e ▸ he) hi
   ·rw [e] at he; cases he
  ·rcases g.new id b k he h1 with e | ⟨id0,k0,e⟩
   ·exact .inl (jcy h.size e)
   ·rcases jdh id0 n with h0 | h0
    ·rcases h.ids id0 h0 with e' | e'
     ·exact .inr ⟨id0,k0,e' ▸ e⟩
     ·rw [e'] at e; cases e
    ·exact h.new id0 b k0 e h0
theorem cell_heap {w:World} {b o:Nat} {v:Value}:w.cell? ⟨b,o,none⟩=some v↔∃ c T f,w.heap[b]?=some (.cells c T f)/\c[o]?=some v:=by
 unfold World.cell?
 constructor
 ·intro h
  split at h
  ·rename_i c T f hb
   exact ⟨c,T,f,hb,by simpa using h⟩
  ·cases h
 ·rintro ⟨c,T,f,hb,hc⟩
  simp [hb,hc]
theorem kjs {w:World} {b o:Nat} {v:Value} (h:w.cell? ⟨b,o,none⟩=some v):b<w.heap.size:=
 World.block_lt_of_cell? w ⟨b,o,none⟩ h
theorem kkc {w w':World} {b:Nat} (h:w'.heap[b]?=w.heap[b]?) (o:Nat):w'.cell? ⟨b,o,none⟩=w.cell? ⟨b,o,none⟩:=by
 simp only [World.cell?,h]
theorem Evo.av {w w':World} {μ μ':Mu} {n n':Nat} {O:Nat->Prop} (h:Evo w μ n w' μ' n') {b:Nat} (hb:b<w.heap.size) (ha:Av O μ' b):Av O μ b:=by
 rcases ha with ha | ⟨id,k,he⟩
 ·exact .inl ha
 ·rcases jdh id n with hi | hi
  ·rcases h.ids id hi with e | e
   ·exact .inr ⟨id,k,e ▸ he⟩
   ·rw [e] at he; cases he
  ·rcases h.new id b k he hi with e | ⟨id0,k0,e⟩
   ·omega
   ·exact .inr ⟨id0,k0,e⟩
theorem Evo.cell {w w':World} {μ μ':Mu} {n n':Nat} {O:Nat->Prop} (h:Evo w μ n w' μ' n') {b o:Nat} {v:Value} (ha:¬ Av O μ b) (hc:w.cell? ⟨b,o,none⟩=some v):w'.cell? ⟨b,o,none⟩=some v:=by
 rw [kkc (h.keep b (kjs hc) fun id k e=>ha (.inr ⟨id,k,e⟩))]
 exact hc
theorem VR.evo {w w':World} {μ μ':Mu} {n n':Nat} {O:Nat->Prop} (h:Evo w μ n w' μ' n') {a:AV} {v:Value} (hv:VR w O μ n a v):VR w' O μ' n' a v:=by
 induction hv with
 | sc v h1=>exact .sc v h1
 | ud=>exact .ud
 | gs es=>exact .gs es
 | un v=>exact .un v
 | e0 p=>exact .e0 p
 | own id i j v hi h1 hv=>
  refine .own id i j v (jan hi h.le) h1 fun b k hb=>?_
  rcases h.ids id hi with e | e
  ·exact hv b k (e ▸ hb)
  ·rw [e] at hb; cases hb
 | ms id off len v hi h1 hv=>
  refine .ms id off len v (jan hi h.le) h1 fun b k hb=>?_
  rcases h.ids id hi with e | e
  ·obtain ⟨o,cap,c,T,h1,h2,h3,h4,h5,h6⟩:=hv b k (e ▸ hb)
   obtain ⟨c',h7,h8⟩:=h.row b c T (0,0) h5
   exact ⟨o,cap,c',T,h1,h2,h3,h4,h7,by rw [h8]; exact h6⟩
  ·rw [e] at hb; cases hb
 | mp id v hi h1 hv=>
  refine .mp id v (jan hi h.le) h1 fun b k hb=>?_
  rcases h.ids id hi with e | e
  ·exact hv b k (e ▸ hb)
  ·rw [e] at hb; cases hb
 | fp cs b o us hA hc h1 _ ih=>
  refine .fp cs b o us (fun hne ha=>?_) (fun j c hj=>?_) h1 (fun j c hj=>ih j c hj)
  ·cases cs with
   | nil=>exact hne rfl
   | cons c cs=>exact hA hne (h.av (kjs (hc 0 c rfl)) ha)
  ·exact h.cell (hA (by rintro rfl; simp at hj)) (hc j c hj)
 | slnil p=>exact .slnil p
 | sl es b o cap k us hcap hmax hA hk hc h1 _ ih=>
  refine .sl es b o cap k us hcap hmax (fun i e hi he ha=>?_) hk (fun i e hi j c hj=>?_) h1 (fun i e hi j c hj=>ih i e hi j c hj)
  ·cases e with
   | nil=>exact he rfl
   | cons c e=>exact hA i _ hi he (h.av (kjs (hc i _ hi 0 c rfl)) ha)
  ·exact h.cell (hA i e hi (by rintro rfl; simp at hj)) (hc i e hi j c hj)
 | fn f caps vs us hs hc _ ih=>exact .fn f caps vs us hs hc fun j c hj=>ih j c hj
 | ag cs vs us hs hc h1 _ ih=>exact .ag cs vs us hs hc h1 fun j c hj=>ih j c hj
 | tp cs vs us hs hc _ ih=>exact .tp cs vs us hs hc fun j c hj=>ih j c hj
inductive ABlk where
 | cells (k:Nat) (T:TypeId) (es:List (List AV))
 | map (kvs:List (Value×AV))
 | si (s:ByteArray) (pos:Nat)
abbrev AH:=Nat->Option ABlk
def BlkAt (w:World) (O:Nat->Prop) (μ:Mu) (n id:Nat):ABlk->Prop
 | .cells k T es=>∃ b c,μ id=some (b,k)/\w.heap[b]?=some (.cells c T (0,0))/\
   ∀ (i:Nat) (e:List AV),es[i]?=some e->e.length=k/\∀ (j:Nat) (a:AV),e[j]?=some a->a.one=true/\∃ u,c[i*k+j]?=some u/\VR w O μ n a u
 | .map kvs=>∃ b es,μ id=some (b,0)/\w.heap[b]?=some (.map es kvs.length)/\es.size=kvs.length/\
   ∀ (i:Nat) (x:Value×AV),kvs[i]?=some x->∃ e,es[i]?=some e/\e.key=x.1/\e.born=i/\x.2.vl=true/\VR w O μ n x.2 e.val
 | .si s pos=>∃ b,μ id=some (b,0)/\w.heap[b]?=some (.stringIter s pos)
structure HR (w:World) (O:Nat->Prop) (μ:Mu) (h:AH) (n:Nat):Prop where
 olt:∀ b,O b->b<w.heap.size
 scope:∀ id b k,μ id=some (b,k)->id<n/\b<w.heap.size
 inj:∀ id id' b k k',μ id=some (b,k)->μ id'=some (b,k')->id=id'
 notO:∀ id b k,μ id=some (b,k)->¬ O b
 blk:∀ id B,h id=some B->BlkAt w O μ n id B
def updH (h:AH) (id:Nat) (B:ABlk):AH:=fun i=>if i=id then some B else h i
def delH (h:AH) (id:Nat):AH:=fun i=>if i=id then none else h i
def updM (μ:Mu) (id:Nat) (x:Nat×Nat):Mu:=fun i=>if i=id then some x else μ i
def delM (μ:Mu) (id:Nat):Mu:=fun i=>if i=id then none else μ i
theorem HR.refl {w:World} {O:Nat->Prop} {μ:Mu} {h:AH} {n:Nat} (hr:HR w O μ h n):Evo w μ n w μ n:=Evo.refl w μ n fun id b k e=>(hr.scope id b k e).1
theorem BlkAt.evo {w w':World} {O:Nat->Prop} {μ μ':Mu} {n n' id:Nat} {B:ABlk} (hb:BlkAt w O μ n id B) (hm:μ' id = μ id) (hh:∀ b k,μ id=some (b,k)->w'.heap[b]?=w.heap[b]?) (he:Evo w μ n w' μ' n') :
  BlkAt w' O μ' n' id B:=by
 cases B with
 | cells k T es=>
  obtain ⟨b,c,h1,h2,h3⟩:=hb
  refine ⟨b,c,hm.trans h1,(hh b k h1).trans h2,fun i e hi=>⟨(h3 i e hi).1,fun j a hj=>?_⟩⟩
  obtain ⟨h4,u,h5,h6⟩:=(h3 i e hi).2 j a hj
  exact ⟨h4,u,h5,h6.evo he⟩
 | map kvs=>
  obtain ⟨b,es,h1,h2,h3,h4⟩:=hb
  refine ⟨b,es,hm.trans h1,(hh b 0 h1).trans h2,h3,fun i x hi=>?_⟩
  obtain ⟨e,h5,h6,h7,h8,h9⟩:=h4 i x hi
  exact ⟨e,h5,h6,h7,h8,h9.evo he⟩
 | si s pos=>
  obtain ⟨b,h1,h2⟩:=hb
  exact ⟨b,hm.trans h1,(hh b 0 h1).trans h2⟩
theorem HR.same {w w':World} {O:Nat->Prop} {μ:Mu} {h:AH} {n:Nat} (hr:HR w O μ h n) (h1:w'.heap=w.heap) (h2:w'.os=w.os) (h3:w'.tape=w.tape) (h4:w'.output=w.output) :
  Evo w μ n w' μ n/\HR w' O μ h n:=by
 have he:Evo w μ n w' μ n:=⟨h2,h3,h4,by rw [h1]; exact jah _,jah _,fun _ _ _=>by rw [h1],fun b c T f hb=>⟨c,by rw [h1]; exact hb,rfl⟩,fun _ _=>.inl rfl,
  fun id b k e hn=>absurd (hr.scope id b k e).1 (by omega)⟩
 refine ⟨he,fun b hb=>by rw [h1]; exact hr.olt b hb,fun id b k e=>by rw [h1]; exact hr.scope id b k e,hr.inj,hr.notO,fun id B hB=>?_⟩
 exact (hr.blk id B hB).evo rfl (fun b k _=>by rw [h1]) he
theorem HR.drew {w:World} {O:Nat->Prop} {μ:Mu} {h:AH} {n:Nat} (hr:HR w O μ h n):Evo w μ n w.drew μ n/\HR w.drew O μ h n:=hr.same rfl rfl rfl rfl
theorem kdo (w:World) (o:Obj) (b:Nat) (h:b<w.heap.size):(w.alloc o).heap[b]?=w.heap[b]?:=Below.heap_alloc w o b h
theorem kbn (w:World) (o:Obj):(w.alloc o).heap[w.heap.size]?=some o:=heap_alloc_new w o
theorem Evo.alloc {w:World} {O:Nat->Prop} {μ:Mu} {h:AH} {n:Nat} (hr:HR w O μ h n) (o:Obj) (k:Nat):Evo w μ n (w.alloc o) (updM μ n (w.heap.size,k)) (n+1) where
 os:=rfl
 tape:=rfl
 output:=rfl
 size:=by simp
 le:=by omega
 keep b hb _:=kdo w o b hb
 row b c T f hb:=⟨c,by rw [kdo w o b (jak.1 hb).1]; exact hb,rfl⟩
 ids id hi:=by unfold updM; rw [if_neg (by omega)]; exact .inl rfl
 new id b k' e hn:=by
  unfold updM at e
  split at e
  ·cases e; exact .inl (jah _)
  ·have:=(hr.scope id b k' e).1; omega
theorem HR.alloc {w:World} {O:Nat->Prop} {μ:Mu} {h:AH} {n:Nat} (hr:HR w O μ h n) (o:Obj) (k:Nat) (B:ABlk) (hB:BlkAt (w.alloc o) O (updM μ n (w.heap.size,k)) (n+1) n B) :
  HR (w.alloc o) O (updM μ n (w.heap.size,k)) (updH h n B) (n+1) where
 olt b hb:=by have:=hr.olt b hb; simp; omega
 scope id b k' e:=by
  unfold updM at e
  split at e
  ·cases e; subst_vars; simp
  ·have:=hr.scope id b k' e; simp; omega
 inj id id' b k1 k2 e1 e2:=by
  unfold updM at e1 e2
  split at e1
  ·split at e2
   ·omega
   ·cases e1; have:=(hr.scope id' _ k2 e2).2; omega
  ·split at e2
   ·cases e2; have:=(hr.scope id _ k1 e1).2; omega
   ·exact hr.inj id id' b k1 k2 e1 e2
 notO id b k' e:=by
  unfold updM at e
  split at e
  ·cases e; intro ho; have:=hr.olt _ ho; omega
  ·exact hr.notO id b k' e
 blk id B' hB':=by
  unfold updH at hB'
  split at hB'
  ·cases hB'; subst_vars; exact hB
  ·rename_i hne
   refine (hr.blk id B' hB').evo ?_ ?_ (Evo.alloc hr o k)
   ·unfold updM; rw [if_neg hne]
   ·intro b k' e
    exact kdo w o b (hr.scope id b k' e).2
theorem HR.del {w:World} {O:Nat->Prop} {μ:Mu} {h:AH} {n:Nat} (hr:HR w O μ h n) (id:Nat):Evo w μ n w (delM μ id) n/\HR w O (delM μ id) (delH h id) n:=by
 have hd:∀ i b k,delM μ id i=some (b,k)->i≠id/\μ i=some (b,k):=fun i b k e=>by
  unfold delM at e; split at e
  ·cases e
  ·exact ⟨by assumption,e⟩
 have he:Evo w μ n w (delM μ id) n:=⟨rfl,rfl,rfl,jah _,jah _,fun _ _ _=>rfl,fun b c T f hb=>⟨c,hb,rfl⟩,
  fun i _=>by unfold delM; split <;> simp,fun i b k e hn=>absurd (hr.scope i b k (hd i b k e).2).1 (by omega)⟩
 refine ⟨he,hr.olt,fun i b k e=>hr.scope i b k (hd i b k e).2,fun i i' b k k' e e'=>hr.inj i i' b k k' (hd i b k e).2 (hd i' b k' e').2,fun i b k e=>hr.notO i b k (hd i b k e).2,fun i B hB=>?_⟩
 unfold delH at hB
 split at hB
 ·cases hB
 ·rename_i hne
  exact (hr.blk i B hB).evo (by unfold delM; rw [if_neg hne]) (fun _ _ _=>rfl) he
theorem HR.set {w w':World} {O:Nat->Prop} {μ:Mu} {h:AH} {n:Nat} (hr:HR w O μ h n) (id b k:Nat) (hm:μ id=some (b,k)) (B:ABlk)
  (hos:w'.os=w.os) (htape:w'.tape=w.tape) (hout:w'.output=w.output) (hsz:w'.heap.size=w.heap.size)
  (hkeep:∀ i,i≠b->w'.heap[i]?=w.heap[i]?) (hrow:∀ c T f,w.heap[b]?=some (.cells c T f)->∃ c',w'.heap[b]?=some (.cells c' T f)/\c'.size=c.size)
  (hB:Evo w μ n w' μ n->BlkAt w' O μ n id B):Evo w μ n w' μ n/\HR w' O μ (updH h id B) n:=by
 have he:Evo w μ n w' μ n:=⟨hos,htape,hout,by omega,jah _,fun i hi hn=>hkeep i (by rintro rfl; exact hn id k hm),
  fun i c T f hb=>by
   by_cases hib:i=b
   ·subst hib; exact hrow c T f hb
   ·exact ⟨c,by rw [hkeep i hib]; exact hb,rfl⟩,
  fun _ _=>.inl rfl,fun i b' k' e hn=>absurd (hr.scope i b' k' e).1 (by omega)⟩
 refine ⟨he,fun b hb=>by rw [hsz]; exact hr.olt b hb,fun i b' k' e=>by rw [hsz]; exact hr.scope i b' k' e,hr.inj,hr.notO,fun i B' hB'=>?_⟩
 unfold updH at hB'
 split at hB'
 ·cases hB'; subst_vars; exact hB he
 ·rename_i hne
  refine (hr.blk i B' hB').evo rfl (fun b' k' e=>hkeep b' ?_) he
  rintro rfl
  exact hne (hr.inj _ _ _ _ _ e hm)
abbrev Env:=List (Nat×AV)
def lk:Env->Nat->AV
 | [],_=>.un
 | (d,v)::l,s=>if s=d then v else lk l s
def cst:Value->AV
 | .tuple _=>.un
 | .agg cs=>if cs.all (·.oneCell') then .ag (cs.toList.map .sc) else .un
 | v=>.sc v
def ev (env:Env):Operand->AV
 | .tmp t=>lk env t
 | .const v=>cst v
 | .global _=>.un
 | .func f=>.fn f []
structure St where
 env:Env
 h:AH
 n:Nat
def FF (ro:Option Nat):Fence:={ fn:=fun _=>True,depth:=none,alive:=false,round:=ro }
theorem callsIn_FF {ro:Option Nat} {m:Nat} {P:Program} {f:FuncId} {args:Array Value} {w:World} {R:Ending->World->Prop}:CallsIn (FF ro) m P f args w R↔Calls P f args w R:=by
 rw [<-callsIn_wide (n:=m)]; exact Iff.rfl
def GS:Nat:=9000000
structure IterG where
 l:Nat
 xs:List (List AV)
 J:Nat->(Nat->Prop)->World->Prop
 Jx:World->Prop
structure DX where
 b:Nat
 it:Option IterG
def MarksOk (D:DX) (w:World) (μ:Mu) (ds:List Deferred):Prop:=
 (D.it.isSome=true->ds=[])/\D.b<=w.heap.size/\∃ bs:List Nat,bs.Nodup/\ds=bs.map (fun b=>({ target:=.collected b,args:=#[] }:Deferred))/\∀ b∈bs,D.b<=b/\w.heap[b]?=some (.deferred (some []))/\∀ id k,μ id≠some (b,k)
theorem MarksOk.nil (D:DX) (w:World) (μ:Mu) (hb:D.b<=w.heap.size):MarksOk D w μ []:=⟨fun _=>rfl,hb,[],List.nodup_nil,rfl,fun b h=>by cases h⟩
theorem MarksOk.evo {D:DX} {w w':World} {μ μ':Mu} {n n':Nat} {ds:List Deferred} (h:MarksOk D w μ ds) (e:Evo w μ n w' μ' n'):MarksOk D w' μ' ds:=by
 obtain ⟨h0,h4,bs,h1,h2,h3⟩:=h
 refine ⟨h0,jcy h4 e.size,bs,h1,h2,fun b hb=>?_⟩
 obtain ⟨g1,g2,g3⟩:=h3 b hb
 have hlt:=(jak.1 g2).1
 refine ⟨g1,(e.keep b hlt g3).trans g2,fun id k hm=>?_⟩
 rcases jdh id n with hi | hi
 ·rcases e.ids id hi with e1 | e1
  ·rw [e1] at hm; exact g3 id k hm
  ·rw [e1] at hm; cases hm
 ·rcases e.new id b k hm hi with e1 | ⟨id0,k0,e1⟩
  ·omega
  ·exact g3 id0 k0 e1
def GInv (D:DX) (O:Nat->Prop) (env:Env) (w:World) (μ:Mu):Prop:=
 match D.it with
 | none=>True
 | some g=>∃ W:World,Below W.heap.size W w/\(∀ id b k,μ id=some (b,k)->W.heap.size<=b)/\(match lk env GS with | .gs es=>g.J es.length O W | .ud=>g.Jx W | _=>True)
theorem Evo.belowW {W w w':World} {μ μ':Mu} {n n':Nat} (e:Evo w μ n w' μ' n') (h1:Below W.heap.size W w) (h2:∀ id b k,μ id=some (b,k)->W.heap.size<=b):Below W.heap.size W w'/\∀ id b k,μ' id=some (b,k)->W.heap.size<=b:=by
 have hsz:=h1.size
 refine ⟨⟨e.os.trans h1.os,e.tape.trans h1.tape,e.output.trans h1.output,jcy h1.size e.size,fun b hb=>?_⟩,fun id b k hm=>?_⟩
 ·rw [e.keep b (by omega) fun id k hm=>by have:=h2 id b k hm; omega]
  exact h1.block b hb
 ·rcases jdh id n with hi | hi
  ·rcases e.ids id hi with e1 | e1
   ·rw [e1] at hm; exact h2 id b k hm
   ·rw [e1] at hm; cases hm
  ·rcases e.new id b k hm hi with e1 | ⟨id0,k0,e1⟩
   ·omega
   ·exact h2 id0 b k0 e1
def GOk (a a':AV):Prop:=a'=a\/((∀ es,a'≠.gs es)/\a'≠.ud)
theorem GOk.un {a:AV}:GOk a .un:=.inr ⟨(fun es h=>by cases h),(fun h=>by cases h)⟩
theorem GInv.evo {D:DX} {O:Nat->Prop} {env env':Env} {w w':World} {μ μ':Mu} {n n':Nat} (h:GInv D O env w μ) (e:Evo w μ n w' μ' n') (he:D.it.isSome=true->GOk (lk env GS) (lk env' GS)):GInv D O env' w' μ':=by
 unfold GInv at *
 cases hd:D.it with
 | none=>trivial
 | some g=>
  rw [hd] at h
  obtain ⟨W,h1,h2,h3⟩:=h
  obtain ⟨g1,g2⟩:=e.belowW h1 h2
  refine ⟨W,g1,g2,?_⟩
  rcases he (by rw [hd]; rfl) with e1 | ⟨e1,e2⟩
  ·rw [e1]; exact h3
  ·generalize lk env' GS=x at e1 e2
   cases x <;> first | trivial | exact absurd rfl (e1 _) | exact absurd rfl e2
structure SR (N:Nat) (D:DX) (O:Nat->Prop) (μ:Mu) (st:St) (a:Act) (w:World):Prop where
 hr:HR w O μ st.h st.n
 size:a.tmps.size=N
 defers:MarksOk D w μ a.defers
 env:∀ s,VR w O μ st.n (lk st.env s) (a.tmps.getD s undef)
 gs:D.it.isSome=true->N<=GS
 gi:GInv D O st.env w μ
theorem VR.cst (w:World) (O:Nat->Prop) (μ:Mu) (n:Nat) (v:Value):VR w O μ n (cst v) v:=by
 unfold Abs.cst
 split
 ·exact .un _
 ·rename_i cs
  split
  ·rename_i h
   refine .ag _ cs (fun j=>cs.getD j undef) (by simp) (fun j c hj=>?_) (fun j c hj=>?_) (fun j c hj=>?_)
   ·simp only [jaw,jab] at hj
    obtain ⟨x,hx,rfl⟩:=hj
    simp at hx
    simp [hx]
   ·simp only [jaw,jab] at hj
    obtain ⟨x,hx,rfl⟩:=hj
    simp only [jcc] at h
    exact h x (by simp at hx; exact Array.mem_of_getElem? hx)
   ·simp only [jaw,jab] at hj
    obtain ⟨x,hx,rfl⟩:=hj
    simp at hx
    simp only [jaf,hx,jca]
    simp only [jcc] at h
    exact .sc x (h x (Array.mem_of_getElem? hx))
  ·exact .un _
 ·rename_i h1 h2
  exact .sc v (by cases v <;> first | rfl | exact absurd rfl (h1 _) | exact absurd rfl (h2 _))
theorem SR.ev {N:Nat} {D:DX} {O:Nat->Prop} {μ:Mu} {st:St} {a:Act} {w:World} (hs:SR N D O μ st a w) (x:Operand):VR w O μ st.n (ev st.env x) (a.eval x):=by
 cases x with
 | tmp t=>exact hs.env t
 | const v=>exact VR.cst w O μ st.n v
 | global g=>exact .un _
 | func f=>exact .fn f [] #[] (fun _=>undef) rfl (fun j c hj=>by simp at hj) (fun j c hj=>by simp at hj)
theorem SR.put {N:Nat} {D:DX} {O:Nat->Prop} {μ μ':Mu} {st:St} {a:Act} {w w':World} {h':AH} {n':Nat} {u:Value} {v:AV} (hs:SR N D O μ st a w)
  (hr:HR w' O μ' h' n') (he:Evo w μ st.n w' μ' n') (hv:VR w' O μ' n' v u) (d:Nat) (hd:d<N):SR N D O μ' ⟨(d,v)::st.env,h',n'⟩ (a.put (some d) u) w':=by
 refine ⟨hr,by simp [Act.put,hs.size],hs.defers.evo he,fun s=>?_,hs.gs,hs.gi.evo he fun hi=>?_⟩
 case refine_2=>have:=hs.gs hi; left; simp only [lk]; rw [if_neg (by omega)]
 simp only [lk,Act.put]
 split
 ·rename_i hsd; subst hsd
  have:s<a.tmps.size:=by rw [hs.size]; exact hd
  simp [jaf,this,hv]
 ·rename_i hsd
  have:=(hs.env s).evo he
  rw [jaf] at this ⊢
  rw [jcq (by omega)]
  exact this
theorem SR.step {N:Nat} {D:DX} {O:Nat->Prop} {μ μ':Mu} {st:St} {a:Act} {w w':World} {h':AH} {n':Nat} (hs:SR N D O μ st a w)
  (hr:HR w' O μ' h' n') (he:Evo w μ st.n w' μ' n'):SR N D O μ' ⟨st.env,h',n'⟩ a w':=
 ⟨hr,hs.size,hs.defers.evo he,fun s=>(hs.env s).evo he,hs.gs,hs.gi.evo he fun _=>.inl rfl⟩
def OKO (D:DX) (O O':Nat->Prop):Prop:=D.it=none->O'=O
def EvoD (D:DX) (w:World) (μ:Mu) (n:Nat) (w':World) (μ':Mu) (n':Nat):Prop:=D.it=none->Evo w μ n w' μ' n'
theorem EvoD.refl {D:DX} {w:World} {μ:Mu} {n:Nat} {O:Nat->Prop} {h:AH} (hr:HR w O μ h n):EvoD D w μ n w μ n:=fun _=>hr.refl
theorem EvoD.trans {D:DX} {w w1 w2:World} {μ μ1 μ2:Mu} {n n1 n2:Nat} (h:EvoD D w μ n w1 μ1 n1) (g:EvoD D w1 μ1 n1 w2 μ2 n2):EvoD D w μ n w2 μ2 n2:=fun e=>(h e).trans (g e)
theorem Evo.d {D:DX} {w w':World} {μ μ':Mu} {n n':Nat} (h:Evo w μ n w' μ' n'):EvoD D w μ n w' μ' n':=fun _=>h
def RO (D:DX) (ro:Option Nat) (w:World) (μ:Mu):Prop:=
 match ro with
 | none=>True
 | some l=>D.it=none/\(∃ r,w.heap[l]?=some (.loop r))/\∀ id k,μ id≠some (l,k)
theorem RO.evo {D:DX} {ro:Option Nat} {w w':World} {μ μ':Mu} {n n':Nat} (h:RO D ro w μ) (he:EvoD D w μ n w' μ' n'):RO D ro w' μ':=by
 cases ro with
 | none=>trivial
 | some l=>
  obtain ⟨h1,⟨r,h2⟩,h3⟩:=h
  have e:=he h1
  have hlt:=(jak.1 h2).1
  refine ⟨h1,⟨r,(e.keep l hlt h3).trans h2⟩,fun id k hm=>?_⟩
  rcases jdh id n with hi | hi
  ·rcases e.ids id hi with e1 | e1
   ·rw [e1] at hm; exact h3 id k hm
   ·rw [e1] at hm; cases hm
  ·rcases e.new id l k hm hi with e1 | ⟨id0,k0,e1⟩
   ·omega
   ·exact h3 id0 k0 e1
def Post (N:Nat) (D:DX) (O:Nat->Prop) (Q:Exit->St->Prop) (μ:Mu) (w:World) (n:Nat) (e:Exit) (a':Act) (w':World):Prop:=
 ∃ st' μ' O',OKO D O O'/\Q e st'/\SR N D O' μ' st' a' w'/\EvoD D w μ n w' μ' st'.n
def Sat (P:Program) (N:Nat) (D:DX) (O:Nat->Prop) (c:Code) (Q:Exit->St->Prop) (st:St):Prop:=
 ∀ O1,OKO D O O1->∀ ro μ a w,RO D ro w μ->SR N D O1 μ st a w->c.wpIn (FF ro) 0 P (Post N D O Q μ w st.n) a w
variable {P:Program} {N:Nat} {D:DX} {O:Nat->Prop} {Q:Exit->St->Prop} {st:St}
theorem Post.mono {Q':Exit->St->Prop} {μ:Mu} {w:World} {n:Nat} {e:Exit} {a':Act} {w':World} (h:Post N D O Q μ w n e a' w') (hq:∀ s,Q e s->Q' e s):Post N D O Q' μ w n e a' w':=
 let ⟨st',μ',O',o,q,r,ev⟩:=h; ⟨st',μ',O',o,hq _ q,r,ev⟩
theorem Post.from {μ μ1:Mu} {w w1:World} {n n1:Nat} {e:Exit} {a':Act} {w':World} (h:Post N D O Q μ1 w1 n1 e a' w') (he:EvoD D w μ n w1 μ1 n1):Post N D O Q μ w n e a' w':=
 let ⟨st',μ',O',o,q,r,ev⟩:=h; ⟨st',μ',O',o,q,r,he.trans ev⟩
theorem Sat.mono {c:Code} {Q':Exit->St->Prop} (h:Sat P N D O c Q st) (hq:∀ e s,Q e s->Q' e s):Sat P N D O c Q' st:=
 fun O1 o ro μ a w hro hs=>wpIn_mono (h O1 o ro μ a w hro hs) fun e _ _ q=>q.mono (hq e)
def thenQ (K:St->Prop) (Q:Exit->St->Prop):Exit->St->Prop
 | .normal,s=>K s
 | e,s=>Q e s
def kfr (id:Nat) (Q:Exit->St->Prop):Exit->St->Prop
 | .exit id',s=>if id'=id then Q .normal s else Q (.exit id') s
 | e,s=>Q e s
theorem Sat.seq {x y:Code} (h:Sat P N D O x (thenQ (fun s=>Sat P N D O y Q s) Q) st):Sat P N D O (.seq x y) Q st:=by
 intro O1 o ro μ a w hro hs
 refine wpIn_seq (wpIn_mono (h O1 o ro μ a w hro hs) ?_)
 rintro e a' w' ⟨st',μ',O',o',hq,hs',he⟩
 cases e with
 | normal=>exact wpIn_mono (hq O' o' ro μ' a' w' (hro.evo he) hs') fun _ _ _ q=>q.from he
 | exit id=>exact ⟨st',μ',O',o',hq,hs',he⟩
 | goto l=>exact ⟨st',μ',O',o',hq,hs',he⟩
 | ret=>exact ⟨st',μ',O',o',hq,hs',he⟩
 | panic c=>exact ⟨st',μ',O',o',hq,hs',he⟩
 | outgrown=>exact ⟨st',μ',O',o',hq,hs',he⟩
theorem Sat.skip (h:Q .normal st):Sat P N D O .skip Q st:=fun O1 o _ μ _ _ _ hs=>wpIn_skip ⟨st,μ,O1,o,h,hs,.refl hs.hr⟩
theorem Sat.exit {id:Nat} (h:Q (.exit id) st):Sat P N D O (.exit id) Q st:=fun O1 o _ μ _ _ _ hs=>wpIn_exit ⟨st,μ,O1,o,h,hs,.refl hs.hr⟩
theorem Sat.ret (h:Q .ret st):Sat P N D O .ret Q st:=fun O1 o _ μ _ _ _ hs=>wpIn_ret ⟨st,μ,O1,o,h,hs,.refl hs.hr⟩
theorem Sat.block {id:Nat} {c:Code} (h:Sat P N D O c (kfr id Q) st):Sat P N D O (.block id c) Q st:=by
 intro O1 o ro μ a w hro hs
 refine wpIn_block (wpIn_mono (h O1 o ro μ a w hro hs) ?_)
 rintro e a' w' ⟨st',μ',O',o',hq,hs',he⟩
 cases e with
 | exit id'=>
  simp only [kfr,Exit.inBlock] at hq ⊢
  split <;> rename_i hid
  ·rw [if_pos hid] at hq; exact ⟨st',μ',O',o',hq,hs',he⟩
  ·rw [if_neg hid] at hq; exact ⟨st',μ',O',o',hq,hs',he⟩
 | normal=>exact ⟨st',μ',O',o',hq,hs',he⟩
 | goto l=>exact ⟨st',μ',O',o',hq,hs',he⟩
 | ret=>exact ⟨st',μ',O',o',hq,hs',he⟩
 | panic c=>exact ⟨st',μ',O',o',hq,hs',he⟩
 | outgrown=>exact ⟨st',μ',O',o',hq,hs',he⟩
theorem VR.bool_inv {w:World} {O:Nat->Prop} {μ:Mu} {n:Nat} {b:Bool} {v:Value} (h:VR w O μ n (.sc (.bool b)) v):v = .bool b:=by cases h; rfl
theorem Sat.cond {c:Operand} {x y:Code} {b:Bool} (hc:Abs.ev st.env c = .sc (.bool b)) (ht:b=true->Sat P N D O x Q st) (hf:b=false->Sat P N D O y Q st):Sat P N D O (.cond c x y) Q st:=by
 intro O1 o ro μ a w hro hs
 have hv:=hs.ev c
 rw [hc] at hv
 exact wpIn_cond_split hv.bool_inv (fun e=>ht e O1 o ro μ a w hro hs) (fun e=>hf e O1 o ro μ a w hro hs)
theorem ktS {F:Fence} {m0:Nat} {α:Type} {c:Code} {Q:Exit->Act->World->Prop} {a:Act} {w:World} (I:α->Act->World->Prop) (m:α->Nat) (x0:α) (h0:I x0 a w)
  (round:∀ x a w,I x a w->c.wpIn F m0 P (Exit.then (fun a' w'=>∃ x',I x' a' w'/\m x'<m x) Q) a w):(Code.loop c).wpIn F m0 P Q a w:=by
 intro b k cs hro hb hr
 have key:∀ n x a w,m x=n->I x a w->∃ e a' w',Q e a' w'/\ArrivesIn (Machine.fenced P F) P (lone (b.atR a (.code c :: .inLoop c::k)) cs w) b k cs e a' w':=by
  intro n
  induction n using Nat.strongRecOn with
  | _ n ih=>
   intro x a w hn hI
   obtain ⟨e,a₁,w₁,hq,harr⟩:=round x a w hI b (.inLoop c::k) cs hro hb hr
   cases e with
   | normal=>
    obtain ⟨x',hI₁,hlt⟩:=hq
    obtain ⟨e₂,a₂,w₂,hq₂,harr₂⟩:=ih (m x') (hn ▸ hlt) x' a₁ w₁ rfl hI₁
    exact ⟨e₂,a₂,w₂,hq₂,.of_steps (StepsIn.trans harr (.one (fenced_calm hb hr rfl) stepR_inLoop)) harr₂⟩
   | exit id=>exact ⟨_,a₁,w₁,hq,.pass (x:=.inLoop c) rfl (fun _ _=>.inl (by simp)) harr⟩
   | goto l=>exact ⟨_,a₁,w₁,hq,.pass (x:=.inLoop c) rfl (fun _ _=>.inl (by simp)) harr⟩
   | ret=>exact ⟨_,a₁,w₁,hq,.pass (x:=.inLoop c) rfl (fun _ _=>.inl (by simp)) harr⟩
   | panic ch=>exact ⟨_,a₁,w₁,hq,.pass (x:=.inLoop c) rfl (fun _ _=>.inl (by simp)) harr⟩
   | outgrown=>exact ⟨_,a₁,w₁,hq,.pass (x:=.inLoop c) rfl (fun _ _=>.inl (by simp)) harr⟩
 obtain ⟨e,a',w',hq,harr⟩:=key _ x0 a w rfl h0
 exact ⟨e,a',w',hq,.of_steps (.one (fenced_calm hb hr rfl) stepR_loop) harr⟩
theorem Sat.loop {α:Type} {c:Code} (I:α->St->Prop) (m:α->Nat) (x0:α) (h0:I x0 st)
  (round:∀ x s,I x s->Sat P N D O c (thenQ (fun s'=>∃ x',I x' s'/\m x'<m x) Q) s):Sat P N D O (.loop c) Q st:=by
 intro O1 o ro μ a w hro hs
 refine ktS (fun x a' w'=>∃ st' μ' O',OKO D O O'/\I x st'/\SR N D O' μ' st' a' w'/\EvoD D w μ st.n w' μ' st'.n) m x0 ⟨st,μ,O1,o,h0,hs,.refl hs.hr⟩ ?_
 rintro x a1 w1 ⟨s1,μ1,O2,o2,hI,hs1,he1⟩
 refine wpIn_mono (round x s1 hI O2 o2 ro μ1 a1 w1 (hro.evo he1) hs1) ?_
 rintro e a' w' ⟨st',μ',O',o',hq,hs',he⟩
 cases e with
 | normal=>obtain ⟨x',h1,h2⟩:=hq; exact ⟨x',⟨st',μ',O',o',h1,hs',he1.trans he⟩,h2⟩
 | exit id=>exact ⟨st',μ',O',o',hq,hs',he1.trans he⟩
 | goto l=>exact ⟨st',μ',O',o',hq,hs',he1.trans he⟩
 | ret=>exact ⟨st',μ',O',o',hq,hs',he1.trans he⟩
 | panic c=>exact ⟨st',μ',O',o',hq,hs',he1.trans he⟩
 | outgrown=>exact ⟨st',μ',O',o',hq,hs',he1.trans he⟩
def keep (l:List Nat) (env:Env):Env:=l.map fun s=>(s,lk env s)
theorem kyF (l:List Nat) (env:Env) (s:Nat):lk (keep l env) s=lk env s\/lk (keep l env) s = .un:=by
 induction l with
 | nil=>exact .inr rfl
 | cons x l ih=>
  simp only [keep,jap,lk]
  split
  ·rename_i e; subst e; exact .inl rfl
  ·exact ih
variable {P:Program} {w:World} {O:Nat->Prop} {μ:Mu} {h:AH} {n:Nat}
def deref (h:AH):AV->Option (List AV)
 | .fp cs=>some cs
 | .own id i j=>match h id with
  | some (.cells _ _ es)=>(es[i]?).map (·.drop j)
  | _=>none
 | _=>none
theorem khy (b o j:Nat):(⟨b,o,none⟩:Addr).add j=⟨b,o+j,none⟩:=by unfold Addr.add; split <;> simp_all
def Reads (w:World) (O:Nat->Prop) (μ:Mu) (n b o:Nat) (cs:List AV):Prop:=
 ∀ (j:Nat) (c:AV),cs[j]?=some c->c.one=true/\∃ u,w.cell? ⟨b,o+j,none⟩=some u/\VR w O μ n c u
theorem HR.own_cells (hr:HR w O μ h n) {id k:Nat} {T:TypeId} {es:List (List AV)} (hB:h id=some (.cells k T es)) :
  ∃ b c,μ id=some (b,k)/\w.heap[b]?=some (.cells c T (0,0))/\(∀ (i:Nat) (e:List AV),es[i]?=some e->e.length=k/\Reads w O μ n b (i*k) e):=by
 obtain ⟨b,c,h1,h2,h3⟩:=hr.blk id _ hB
 refine ⟨b,c,h1,h2,fun i e hi=>⟨(h3 i e hi).1,fun j a hj=>?_⟩⟩
 obtain ⟨h4,u,h5,h6⟩:=(h3 i e hi).2 j a hj
 exact ⟨h4,u,cell_heap.2 ⟨c,T,(0,0),h2,h5⟩,h6⟩
theorem koD (hr:HR w O μ h n) {p:AV} {v:Value} (hv:VR w O μ n p v) {cs:List AV} (hd:deref h p=some cs):∃ b o,v = .pointer (some ⟨b,o,none⟩)/\Reads w O μ n b o cs:=by
 unfold deref at hd
 split at hd
 ·cases hd
  cases hv with
  | fp _ b o us hA hc h1 hr'=>exact ⟨b,o,rfl,fun j c hj=>⟨h1 j c hj,us j,hc j c hj,hr' j c hj⟩⟩
 ·rename_i id i j
  split at hd
  ·rename_i k T es hB
   obtain ⟨b,c,h1,h2,h3⟩:=hr.own_cells hB
   cases he:es[i]? with
   | none=>simp [he] at hd
   | some e=>
    simp [he] at hd
    subst hd
    cases hv with
    | own _ _ _ _ hi h1' hv=>
     refine ⟨b,i*k+j,hv b k h1,fun jj c hj=>?_⟩
     rw [jaq] at hj
     obtain ⟨h4,u,h5,h6⟩:=(h3 i e he).2 (j+jj) c hj
     exact ⟨h4,u,by rw [jdx]; exact h5,h6⟩
  ·cases hd
 ·cases hd
theorem VR.one {a:AV} {v:Value} (hv:VR w O μ n a v) (h1:AV.one a=true):v.oneCell'=true:=by
 cases hv <;> first | assumption | rfl | (simp [AV.one] at h1; done)
theorem Reads.vals {b:Nat}:∀ {cs:List AV} {o:Nat},Reads w O μ n b o cs->∃ vals:List Value,vals.length=cs.length/\(∀ j v,vals[j]?=some v->w.cell? ⟨b,o+j,none⟩=some v)/\(∀ v∈vals,v.oneCell'=true)/\
  ∀ (j:Nat) (c:AV),cs[j]?=some c->∃ u,vals[j]?=some u/\VR w O μ n c u
 | [],o,_=>⟨[],rfl,fun j v hj=>by simp at hj,fun v hv=>by simp at hv,fun j c hj=>by simp at hj⟩
 | c::cs,o,hrd=>by
  obtain ⟨h1,u,h2,h3⟩:=hrd 0 c rfl
  have htl:Reads w O μ n b (o+1) cs:=fun j c' hj=>by
   obtain ⟨h4,u',h5,h6⟩:=hrd (j+1) c' (by simpa using hj)
   exact ⟨h4,u',by rw [jdx,Nat.add_comm 1 j]; exact h5,h6⟩
  obtain ⟨vals,g1,g2,g3,g4⟩:=Reads.vals (b:=b) htl
  refine ⟨u::vals,by simp [g1],fun j v hj=>?_,fun v hv=>?_,fun j c' hj=>?_⟩
  ·cases j with
   | zero=>simp at hj; subst hj; exact h2
   | succ j=>
    have:=g2 j v (by simpa using hj)
    rwa [jdx,Nat.add_comm 1 j] at this
  ·rcases jbu.1 hv with rfl | hv
   ·exact h3.one h1
   ·exact g3 v hv
  ·cases j with
   | zero=>simp at hj; subst hj; exact ⟨u,rfl,h3⟩
   | succ j=>obtain ⟨u',g5,g6⟩:=g4 j c' (by simpa using hj); exact ⟨u',by simpa using g5,g6⟩
theorem Reads.take {b o:Nat} {cs:List AV} (h:Reads w O μ n b o cs) (k:Nat):Reads w O μ n b o (cs.take k):=fun j c hj=>by
 rw [jbn] at hj
 split at hj
 ·exact h j c hj
 ·cases hj
theorem Reads.drop {b o:Nat} {cs:List AV} (h:Reads w O μ n b o cs) (k:Nat):Reads w O μ n b (o+k) (cs.drop k):=fun j c hj=>by
 rw [jaq] at hj
 rw [jdx]; exact h _ c hj
theorem VR.ag_of {cs:List AV} {vals:List Value} (hl:vals.length=cs.length) (h1:∀ (j:Nat) (c:AV),cs[j]?=some c->c.one=true) (h2:∀ (j:Nat) (c:AV),cs[j]?=some c->∃ u,vals[j]?=some u/\VR w O μ n c u) :
  VR w O μ n (.ag cs) (.agg vals.toArray):=by
 refine .ag cs _ (fun j=>vals.getD j undef) (by simpa using hl) (fun j c hj=>?_) h1 (fun j c hj=>?_)
 ·obtain ⟨u,h3,_⟩:=h2 j c hj
  simp [h3,List.getD]
 ·obtain ⟨u,h3,h4⟩:=h2 j c hj
  simpa [h3,List.getD] using h4
def ReadsEs (w:World) (O:Nat->Prop) (μ:Mu) (n b o k:Nat) (es:List (List AV)):Prop:=
 ∀ (i:Nat) (e:List AV),es[i]?=some e->e.length=k/\Reads w O μ n b (o+i*k) e
theorem ReadsEs.vals {b k:Nat}:∀ {es:List (List AV)} {o:Nat},ReadsEs w O μ n b o k es->∃ vals:List Value,vals.length=es.length*k/\(∀ j v,vals[j]?=some v->w.cell? ⟨b,o+j,none⟩=some v)/\(∀ v∈vals,v.oneCell'=true)/\
  ∀ (i:Nat) (e:List AV),es[i]?=some e->e.length=k/\∀ (j:Nat) (c:AV),e[j]?=some c->c.one=true/\∃ u,vals[i*k+j]?=some u/\VR w O μ n c u
 | [],o,_=>⟨[],by simp,fun j v hj=>by simp at hj,fun v hv=>by simp at hv,fun j c hj=>by simp at hj⟩
 | e::es,o,hrd=>by
  obtain ⟨hk,h0⟩:=hrd 0 e rfl
  have h0':Reads w O μ n b o e:=by simpa using h0
  obtain ⟨v1,f1,f2,f3,f4⟩:=h0'.vals (o:=o)
  have htl:ReadsEs w O μ n b (o+k) k es:=fun i e' hi=>by
   obtain ⟨h4,h5⟩:=hrd (i+1) e' (by simpa using hi)
   refine ⟨h4,?_⟩
   rw [show o+k+i*k=o+(i+1)*k by rw [jby]; omega]
   exact h5
  obtain ⟨v2,g1,g2,g3,g4⟩:=ReadsEs.vals htl
  refine ⟨v1++v2,by simp [f1,g1,hk,jby]; omega,fun j v hj=>?_,fun v hv=>?_,fun i e' hi=>?_⟩
  ·rw [jbm] at hj
   split at hj
   ·exact f2 j v hj
   ·rename_i hlt
    have:=g2 _ v hj
    rw [f1,hk] at this hlt
    rwa [show o+k+(j-k)=o+j by omega] at this
  ·rcases jaz.1 hv with hv | hv
   ·exact f3 v hv
   ·exact g3 v hv
  ·cases i with
   | zero=>
    simp at hi; subst hi
    refine ⟨hk,fun j c hj=>?_⟩
    obtain ⟨u,f5,f6⟩:=f4 j c hj
    refine ⟨(h0' j c hj).1,u,?_,f6⟩
    simp only [Nat.zero_mul,jcb]
    rw [jbl]
    ·exact f5
    ·exact (jad.1 f5).1
   | succ i=>
    obtain ⟨g5,g6⟩:=g4 i e' (by simpa using hi)
    refine ⟨g5,fun j c hj=>?_⟩
    obtain ⟨g7,u,g8,g9⟩:=g6 j c hj
    refine ⟨g7,u,?_,g9⟩
    rw [jcf (by rw [f1,hk,jby]; omega),f1,hk]
    rw [show (i+1)*k+j-k=i*k+j by rw [jby]; omega]
    exact g8
theorem keA {b o:Nat} {vals:List Value} (hv:∀ j v,vals[j]?=some v->w.cell? ⟨b,o+j,none⟩=some v) {m:Nat} (hm:vals.length=m) :
  (loadCells ⟨b,o,none⟩ m).run P w = .ok vals.toArray w:=by
 subst hm
 exact run_loadCells_list w ⟨b,o,none⟩ vals fun j v hj=>by rw [khy]; exact hv j v hj
abbrev K3:=AV->AH->Nat->Prop
def OpR (P:Program) (o:Oper) (a:Act) (w:World) (O:Nat->Prop) (μ:Mu) (n:Nat) (K:K3):Prop:=
 ∃ u w' μ' v h' n',((execOp a.eval o).run P w = .ok (.value u) w'\/((execOp a.eval o).run P w = .ok .skip w'/\u=undef))/\K v h' n'/\HR w' O μ' h' n'/\VR w' O μ' n' v u/\Evo w μ n w' μ' n'
def aggO (P:Program) (T:TypeId):Option Bool:=
 match P.underlying T with
 | some (.struct _) | some (.array _ _)=>some true
 | some _=>some false
 | none=>none
def fldO (P:Program) (T:TypeId) (f:Nat):Option (Nat×TypeId):=
 match P.underlying T with
 | some (.struct fs)=>(fs[f]?).bind fun x=>if P.cellsOf x.type=0 then none else some (x.offset,x.type)
 | _=>none
def elemO (P:Program) (T:TypeId):Option TypeId:=
 match P.underlying T with
 | some (.slice e)=>some e
 | _=>none
def arrO (P:Program) (T:TypeId):Option (Nat×TypeId):=
 match P.underlying T with
 | some (.array m e)=>some (m,e)
 | _=>none
def intO (P:Program) (T:TypeId):Option IntKind:=
 match P.underlying T with
 | some (.int k)=>some k
 | _=>none
def zeroO (P:Program) (T:TypeId):Option (List AV):=
 (P.info? T).bind fun i=>i.zero.bind fun z=>if z.cells.all (·.oneCell')&&z.cells.size==i.size then some (z.cells.toList.map .sc) else none
def kax:AV->Option (List AV)
 | .ag cs=>some cs
 | .ud | .un | .tp _ | .gs _=>none
 | a=>some [a]
section
variable {P:Program} {o:Oper} {a:Act} {w:World} {O:Nat->Prop} {μ:Mu} {h:AH} {n:Nat} {K:K3}
theorem OpR.value {u:Value} {v:AV} (hr:HR w O μ h n) (hrun:(execOp a.eval o).run P w = .ok (.value u) w) (hv:VR w O μ n v u) (hk:K v h n):OpR P o a w O μ n K:=
 ⟨u,w,μ,v,h,n,.inl hrun,hk,hr,hv,hr.refl⟩
theorem kan {s:Sem Value} {u:Value} {w':World} (h:s.run P w = .ok u w'):(do pure (Next.value (<-s)):Sem Next).run P w = .ok (.value u) w':=by simp [h]
theorem kfs {T:TypeId} {d:TypeDesc} (h:P.underlying T=some d):∃ i,P.info? T=some i:=by
 unfold Program.underlying at h
 cases hi:P.info? T with
 | none=>simp [hi] at h
 | some i=>exact ⟨i,rfl⟩
theorem kaC {T:TypeId} {i:TypeInfo} (h:P.info? T=some i) (w:World):(sizeOf T).run P w = .ok (P.cellsOf T) w:=by
 simp [sizeOf,typeInfo,h,Program.cellsOf]
theorem keo {T:TypeId} {x:Bool} (h:aggO P T=some x) (w:World):(isAgg T).run P w = .ok x w:=by
 unfold aggO at h
 unfold isAgg
 split at h
 ·rename_i hd; cases h; simp [run_underlying hd]
 ·rename_i hd; cases h; simp [run_underlying hd]
 ·rename_i d h1 h2 hd
  cases h
  rw [Sem.run_bind,run_underlying hd]
  simp only [Result.andThen_ok]
  rfl
 ·cases h
theorem kgT {T:TypeId} {x:Bool} (h:aggO P T=some x):∃ i,P.info? T=some i:=by
 unfold aggO at h
 split at h
 ·rename_i hd; exact kfs hd
 ·rename_i hd; exact kfs hd
 ·rename_i hd; exact kfs hd
 ·cases h
def loadK (P:Program) (h:AH) (n:Nat) (T:TypeId) (cs:List AV) (K:K3):Prop:=
 match aggO P T with
 | some true=>P.cellsOf T<=cs.length/\K (.ag (cs.take (P.cellsOf T))) h n
 | some false=>∃ c,cs[0]?=some c/\K c h n
 | none=>False
theorem kxw {T:TypeId} {x:Operand} (ho:o.op = .load T x) (hr:HR w O μ h n) {p:AV} (hp:VR w O μ n p (a.eval x)) {cs:List AV} (hd:deref h p=some cs) (hk:loadK P h n T cs K):OpR P o a w O μ n K:=by
 obtain ⟨b,off,hv,hrd⟩:=koD hr hp hd
 unfold loadK at hk
 split at hk
 ·rename_i hagg
  obtain ⟨hle,hk⟩:=hk
  obtain ⟨i,hi⟩:=kgT hagg
  obtain ⟨vals,h1,h2,h3,h4⟩:=(hrd.take (P.cellsOf T)).vals
  have hlen:vals.length=P.cellsOf T:=by rw [h1,jbh]; omega
  refine OpR.value hr (u:=.agg vals.toArray) (v:=.ag (cs.take (P.cellsOf T))) ?_ ?_ hk
  ·simp only [execOp,ho,hv]
   refine kan ?_
   simp only [Instr.loadAt,Instr.sureAddr,pure_bind,loadVar,Sem.run_bind,keo hagg,Result.andThen_ok,if_true,kaC hi,keA h2 hlen,Sem.run_pure]
  ·exact VR.ag_of h1 (fun j c hj=>(hrd.take (P.cellsOf T) j c hj).1) h4
 ·rename_i hagg
  obtain ⟨c,hc,hk⟩:=hk
  obtain ⟨h1,u,h2,h3⟩:=hrd 0 c hc
  refine OpR.value hr (u:=u) ?_ h3 hk
  simp only [execOp,ho,hv]
  refine kan ?_
  simp only [Nat.add_zero] at h2
  simp [Instr.loadAt,Instr.sureAddr,loadVar,keo hagg,h2]
 ·exact hk.elim
theorem ktc {x:Operand} (ho:o.op = .move x\/o.op = .assign x) (hr:HR w O μ h n) {v:AV} (hv:VR w O μ n v (a.eval x)) (hk:K v h n):OpR P o a w O μ n K:=by
 refine OpR.value hr (u:=a.eval x) ?_ hv hk
 rcases ho with ho | ho <;> simp [execOp,ho]
theorem kxt {c x y:Operand} (ho:o.op = .pick c x y) (hr:HR w O μ h n) {t:Bool} {v1 v2:AV} (hc:VR w O μ n (.sc (.bool t)) (a.eval c)) (h1:VR w O μ n v1 (a.eval x)) (h2:VR w O μ n v2 (a.eval y))
  (hk:K (if t then v1 else v2) h n):OpR P o a w O μ n K:=by
 refine OpR.value hr (u:=if t then a.eval x else a.eval y) ?_ (by cases t <;> assumption) hk
 simp [execOp,ho,hc.bool_inv,asBool]
theorem khe {v:AV} {u:Value} (hv:VR w O μ n v u) {cs:List AV} (hc:kax v=some cs):u.cells.size=cs.length/\(∀ x∈u.cells.toList,x.oneCell'=true)/\
  ∀ (j:Nat) (c:AV),cs[j]?=some c->c.one=true/\∃ y,u.cells[j]?=some y/\VR w O μ n c y:=by
 have single:∀ {v:AV} {u:Value},VR w O μ n v u->v.one=true->u.cells.size=[v].length/\(∀ x∈u.cells.toList,x.oneCell'=true)/\∀ (j:Nat) (c:AV),[v][j]?=some c->c.one=true/\∃ y,u.cells[j]?=some y/\VR w O μ n c y:=by
  intro v u hv h1
  have h1':=hv.one h1
  have hcu:u.cells = #[u]:=by cases u <;> first | rfl | (simp [Value.oneCell'] at h1'; done)
  rw [hcu]
  refine ⟨rfl,fun x hx=>by simp at hx; subst hx; exact h1',fun j c hj=>?_⟩
  cases j with
  | zero=>simp at hj; subst hj; exact ⟨h1,u,rfl,hv⟩
  | succ j=>simp at hj
 have hv0:=hv
 cases hv with
 | ag cs' vs us hs hcc h1 hr'=>
  simp only [kax,Option.some.injEq] at hc
  subst hc
  refine ⟨hs,fun x hx=>?_,fun j c hj=>⟨h1 j c hj,us j,hcc j c hj,hr' j c hj⟩⟩
  obtain ⟨j,hj,rfl⟩:=List.getElem_of_mem hx
  simp only [Value.cells,jci] at hj
  have hj':j<cs'.length:=by omega
  have:=hcc j cs'[j] (jae hj')
  have h2:=(hr' j cs'[j] (jae hj')).one (h1 j _ (jae hj'))
  simp only [Value.cells,Array.getElem_toList]
  rw [jas hj] at this
  rw [Option.some.inj this]
  exact h2
 | ud=>simp [kax] at hc
 | gs es=>simp [kax] at hc
 | un _=>simp [kax] at hc
 | tp _ _ _ _ _ _=>simp [kax] at hc
 | sc _ h1=>simp only [kax,Option.some.injEq] at hc; subst hc; exact single hv0 h1
 | _=>simp only [kax,Option.some.injEq] at hc; subst hc; exact single hv0 rfl
theorem kgU (hr:HR w O μ h n) (T:TypeId) (c:Array Value) (k:Nat) (es:List (List AV))
  (hes:∀ (i:Nat) (e:List AV),es[i]?=some e->e.length=k/\∀ (j:Nat) (x:AV),e[j]?=some x->x.one=true/\∃ u,c[i*k+j]?=some u/\VR w O μ n x u) :
  Evo w μ n (w.alloc (.cells c T)) (updM μ n (w.heap.size,k)) (n+1)/\HR (w.alloc (.cells c T)) O (updM μ n (w.heap.size,k)) (updH h n (.cells k T es)) (n+1):=by
 have he:=Evo.alloc hr (.cells c T) k
 refine ⟨he,hr.alloc _ k _ ⟨w.heap.size,c,by simp [updM],kbn _ _,fun i e hi=>⟨(hes i e hi).1,fun j x hj=>?_⟩⟩⟩
 obtain ⟨h1,u,h2,h3⟩:=(hes i e hi).2 j x hj
 exact ⟨h1,u,h2,h3.evo he⟩
theorem VR.own_new (w:World) (O:Nat->Prop) (μ:Mu) (n:Nat) (c:Array Value) (T:TypeId) (k:Nat):VR (w.alloc (.cells c T)) O (updM μ n (w.heap.size,k)) (n+1) (.own n 0 0) (.pointer (some ⟨w.heap.size,0,none⟩)):=by
 refine .own n 0 0 _ (by omega) rfl fun b k' e=>?_
 simp [updM] at e
 obtain ⟨rfl,rfl⟩:=e
 simp
theorem kyz {T:TypeId} {x:Operand} (ho:o.op = .box T x) (hr:HR w O μ h n) {v:AV} (hv:VR w O μ n v (a.eval x)) {cs:List AV} (hc:kax v=some cs)
  (hk:K (.own n 0 0) (updH h n (.cells cs.length T [cs])) (n+1)):OpR P o a w O μ n K:=by
 obtain ⟨h1,_,h2⟩:=khe hv hc
 obtain ⟨he,hh⟩:=kgU hr T (a.eval x).cells cs.length [cs] (fun i e hi=>by
  cases i with
  | zero=>simp at hi; subst hi; exact ⟨rfl,fun j y hj=>by simpa using h2 j y hj⟩
  | succ i=>simp at hi)
 refine ⟨_,_,_,_,_,_,.inl ?_,hk,hh,VR.own_new w O μ n _ T cs.length,he⟩
 simp [execOp,ho,Instr.box,newVar,newRow]
theorem kxr {T:TypeId} (ho:o.op = .alloc T) (hr:HR w O μ h n) {z:List AV} (hz:zeroO P T=some z)
  (hk:K (.own n 0 0) (updH h n (.cells z.length T [z])) (n+1)):OpR P o a w O μ n K:=by
 unfold zeroO at hz
 simp only [jaa] at hz
 obtain ⟨i,hi,zv,hzv,hz⟩:=hz
 split at hz
 ·rename_i hall
  cases hz
  simp only [jac,jcc] at hall
  obtain ⟨he,hh⟩:=kgU hr T zv.cells (zv.cells.toList.map AV.sc).length [zv.cells.toList.map .sc] (fun i e hi=>by
   cases i with
   | zero=>
    simp at hi; subst hi
    refine ⟨rfl,fun j y hj=>?_⟩
    simp only [jaw,jab] at hj
    obtain ⟨x,hx,rfl⟩:=hj
    simp only [jcl] at hx
    have h1:=hall.1 x (Array.mem_of_getElem? hx)
    exact ⟨h1,x,by simpa using hx,.sc x h1⟩
   | succ i=>simp at hi)
  refine ⟨_,_,_,_,_,_,.inl ?_,hk,hh,VR.own_new w O μ n _ T _,he⟩
  simp [execOp,ho,Instr.alloc,zeroValue,typeInfo,hi,hzv,newVar,newRow]
 ·cases hz
end
section
variable {P:Program} {o:Oper} {a:Act} {w:World} {O:Nat->Prop} {μ:Mu} {h:AH} {n:Nat} {K:K3}
theorem VR.int_inv {k:IntKind} {x:Int} {u:Value} (hv:VR w O μ n (.sc (.int k x)) u):u = .int k x:=by cases hv; rfl
theorem VR.sc_inv {x u:Value} (hv:VR w O μ n (.sc x) u):u=x:=by cases hv; rfl
theorem krH {T:TypeId} {f d:Nat} {t:TypeId} (hf:fldO P T f=some (d,t)):∃ fs x,P.underlying T=some (.struct fs)/\fs[f]?=some x/\x.offset=d/\x.type=t/\P.cellsOf t≠0:=by
 unfold fldO at hf
 split at hf
 ·rename_i fs hd
  cases hx:fs[f]? with
  | none=>simp [hx] at hf
  | some x=>
   simp [hx] at hf
   obtain ⟨h1,h2,h3⟩:=hf
   exact ⟨fs,x,hd,hx,h2,h3,by rw [<-h3]; exact h1⟩
 ·cases hf
theorem kbL {T:TypeId} (hc:P.cellsOf T≠0):∃ i,P.info? T=some i:=by
 unfold Program.cellsOf at hc
 cases hi:P.info? T with
 | none=>simp [hi] at hc
 | some i=>exact ⟨i,rfl⟩
theorem koJ {T:TypeId} {f d:Nat} {t:TypeId} (hf:fldO P T f=some (d,t)) (b off:Nat) (w:World):(Instr.fieldAt T (.pointer (some ⟨b,off,none⟩)) f).run P w = .ok (.pointer (some ⟨b,off+d,none⟩)) w:=by
 obtain ⟨fs,x,h1,h2,h3,h4,h5⟩:=krH hf
 obtain ⟨i,hi⟩:=kbL h5
 subst h4
 simp [Instr.fieldAt,run_underlying h1,h2,Instr.sureAddr,fieldPlace,kaC hi,h5,khy,h3]
theorem koY {T:TypeId} {x:Operand} {f d:Nat} {t:TypeId} (ho:o.op = .fieldAddr T x f) (hr:HR w O μ h n) (hf:fldO P T f=some (d,t)) {cs:List AV} (hv:VR w O μ n (.fp cs) (a.eval x))
  (hk:K (.fp (cs.drop d)) h n):OpR P o a w O μ n K:=by
 generalize hu:a.eval x=u at hv
 cases hv with
 | fp _ b off us hA hc h1 hr'=>
  refine OpR.value hr (u:=.pointer (some ⟨b,off+d,none⟩)) ?_ ?_ hk
  ·simp only [execOp,ho,hu]
   exact kan (koJ hf b off w)
  ·refine .fp _ b (off+d) (fun j=>us (d+j)) (fun hne=>hA (by rintro rfl; simp at hne)) (fun j c hj=>?_) (fun j c hj=>?_) (fun j c hj=>?_)
   ·rw [jaq] at hj; rw [jdx]; exact hc _ c hj
   ·rw [jaq] at hj; exact h1 _ c hj
   ·rw [jaq] at hj; exact hr' _ c hj
theorem kik (hr:HR w O μ h n) {id k:Nat} {T:TypeId} {es:List (List AV)} (hB:h id=some (.cells k T es)) {i j:Nat} {u:Value} (hv:VR w O μ n (.own id i j) u) :
  ∃ b c,μ id=some (b,k)/\w.heap[b]?=some (.cells c T (0,0))/\u = .pointer (some ⟨b,i*k+j,none⟩)/\id<n:=by
 obtain ⟨b,c,h1,h2,h3⟩:=hr.own_cells hB
 cases hv with
 | own _ _ _ _ hi h1' hv=>exact ⟨b,c,h1,h2,hv b k h1,hi⟩
theorem VR.own_mk (hr:HR w O μ h n) {id b k i j:Nat} (hm:μ id=some (b,k)):VR w O μ n (.own id i j) (.pointer (some ⟨b,i*k+j,none⟩)):=
 .own id i j _ (hr.scope id b k hm).1 rfl fun b' k' e=>by rw [hm] at e; cases e; rfl
theorem kol {T:TypeId} {x:Operand} {f d:Nat} {t:TypeId} (ho:o.op = .fieldAddr T x f) (hr:HR w O μ h n) (hf:fldO P T f=some (d,t)) {id i j k:Nat} {T':TypeId} {es:List (List AV)}
  (hB:h id=some (.cells k T' es)) (hv:VR w O μ n (.own id i j) (a.eval x)) (hk:K (.own id i (j+d)) h n):OpR P o a w O μ n K:=by
 obtain ⟨b,c,h1,h2,h3,h4⟩:=kik hr hB hv
 refine OpR.value hr (u:=.pointer (some ⟨b,i*k+j+d,none⟩)) ?_ ?_ hk
 ·simp only [execOp,ho,h3]
  exact kan (koJ hf b _ w)
 ·rw [jdx]; exact VR.own_mk hr h1
theorem kca {T e:TypeId} (he:elemO P T=some e):P.underlying T=some (.slice e):=by
 unfold elemO at he
 split at he
 ·cases he; assumption
 ·cases he
theorem krD {T e:TypeId} {m:Nat} (he:arrO P T=some (m,e)):P.underlying T=some (.array m e):=by
 unfold arrO at he
 split at he
 ·cases he; assumption
 ·cases he
theorem kkU {T e:TypeId} (he:elemO P T=some e) {ie:TypeInfo} (hi:P.info? e=some ie) (b off len cap:Nat) (k:IntKind) (i:Int) (h0:0<=i) (h1:i<len) (w:World) :
  (Instr.indexAt T (.slice (some ⟨b,off,none⟩) len cap) (.int k i)).run P w = .ok (.pointer (some ⟨b,off+i.toNat*P.cellsOf e,none⟩)) w:=by
 have hs:=kca he
 simp [Instr.indexAt,run_underlying hs,asIntOf,h0,h1,kaC hi,khy]
theorem kpF {T e:TypeId} {x y:Operand} (ho:o.op = .indexAddr T x y) (hr:HR w O μ h n) (he:elemO P T=some e) {es:List (List AV)} (hv:VR w O μ n (.sl es) (a.eval x))
  {k:IntKind} {i:Int} (hi:VR w O μ n (.sc (.int k i)) (a.eval y)) (h0:0<=i) {c:List AV} (hc:es[i.toNat]?=some c) (hlen:c.length=P.cellsOf e) (hne:c.length≠0) (hk:K (.fp c) h n):OpR P o a w O μ n K:=by
 generalize hu:a.eval x=u at hv
 obtain ⟨ie,hie⟩:=kbL (P:=P) (T:=e) (by omega)
 have hlt:i.toNat<es.length:=(jad.1 hc).1
 cases hv with
 | slnil=>simp at hlt
 | sl _ b off cap kk us hcap hmax hA hkk hcc h1 hr'=>
  have hkc:=hkk _ _ hc
  refine OpR.value hr (u:=.pointer (some ⟨b,off+i.toNat*P.cellsOf e,none⟩)) ?_ ?_ hk
  ·simp only [execOp,ho,hu,hi.int_inv]
   exact kan (kkU he hie b off _ cap k i h0 (by omega) w)
  ·rw [<-hlen,hkc]
   exact .fp c b _ (us i.toNat) (fun hn=>hA _ c hc hn) (fun j y hj=>hcc _ c hc j y hj) (fun j y hj=>h1 _ c hc j y hj) (fun j y hj=>hr' _ c hc j y hj)
theorem kii (hr:HR w O μ h n) {id k off len:Nat} {T:TypeId} {es:List (List AV)} (hB:h id=some (.cells k T es)) {u:Value} (hv:VR w O μ n (.ms id off len) u) :
  ∃ b c oo cap,μ id=some (b,k)/\w.heap[b]?=some (.cells c T (0,0))/\u = .slice (some ⟨b,oo,none⟩) len cap/\id<n/\len<=cap/\cap<=maxLen/\(cap≠0->oo=off*k)/\(off+cap)*k=c.size:=by
 obtain ⟨b,c,h1,h2,h3⟩:=hr.own_cells hB
 cases hv with
 | ms _ _ _ _ hi h1' hv=>
  obtain ⟨oo,cap,c',T',g1,g2,g3,g4,g5,g6⟩:=hv b k h1
  rw [h2] at g5
  simp only [Option.some.injEq,Obj.cells.injEq] at g5
  obtain ⟨rfl,rfl,_⟩:=g5
  exact ⟨b,c,oo,cap,h1,h2,g1,hi,g2,g3,g4,g6⟩
theorem kpH {T e:TypeId} {x y:Operand} (ho:o.op = .indexAddr T x y) (hr:HR w O μ h n) (he:elemO P T=some e) {id off len kk:Nat} {T':TypeId} {es:List (List AV)} (hB:h id=some (.cells kk T' es))
  (hkk:kk=P.cellsOf e) (hne:kk≠0) (hv:VR w O μ n (.ms id off len) (a.eval x))
  {k:IntKind} {i:Int} (hi:VR w O μ n (.sc (.int k i)) (a.eval y)) (h0:0<=i) (h1:i<len) (hk:K (.own id (off+i.toNat) 0) h n):OpR P o a w O μ n K:=by
 obtain ⟨b,c,oo,cap,g1,g2,g3,g4,g5,g6,g7,g8⟩:=kii hr hB hv
 obtain ⟨ie,hie⟩:=kbL (P:=P) (T:=e) (by omega)
 refine OpR.value hr (u:=.pointer (some ⟨b,oo+i.toNat*P.cellsOf e,none⟩)) ?_ ?_ hk
 ·simp only [execOp,ho,g3,hi.int_inv]
  exact kan (kkU he hie b oo len cap k i h0 h1 w)
 ·rw [g7 (by omega),<-hkk,<-jby]
  exact VR.own_mk (i:=off+i.toNat) (j:=0) hr g1
theorem kku {T e:TypeId} {m:Nat} (he:arrO P T=some (m,e)) {ie:TypeInfo} (hi:P.info? e=some ie) (b off:Nat) (k:IntKind) (i:Int) (h0:0<=i) (h1:i<m) (w:World) :
  (Instr.indexAt T (.pointer (some ⟨b,off,none⟩)) (.int k i)).run P w = .ok (.pointer (some ⟨b,off+i.toNat*P.cellsOf e,none⟩)) w:=by
 have hs:=krD he
 simp [Instr.indexAt,run_underlying hs,asIntOf,h0,h1,kaC hi,khy,Instr.sureAddr]
theorem klc {T e:TypeId} {m:Nat} {x y:Operand} (ho:o.op = .indexAddr T x y) (hr:HR w O μ h n) (he:arrO P T=some (m,e)) (hne:P.cellsOf e≠0) {id i0 j0 kk:Nat} {T':TypeId} {es:List (List AV)} (hB:h id=some (.cells kk T' es))
  (hv:VR w O μ n (.own id i0 j0) (a.eval x)) {k:IntKind} {i:Int} (hi:VR w O μ n (.sc (.int k i)) (a.eval y)) (h0:0<=i) (h1:i<m) (hk:K (.own id i0 (j0+i.toNat*P.cellsOf e)) h n):OpR P o a w O μ n K:=by
 obtain ⟨b,c,g1,g2,g3,g4⟩:=kik hr hB hv
 obtain ⟨ie,hie⟩:=kbL hne
 refine OpR.value hr (u:=.pointer (some ⟨b,i0*kk+j0+i.toNat*P.cellsOf e,none⟩)) ?_ ?_ hk
 ·simp only [execOp,ho,g3,hi.int_inv]
  exact kan (kku he hie b _ k i h0 h1 w)
 ·rw [jdx]; exact VR.own_mk hr g1
theorem kmb {T e:TypeId} {m:Nat} {x y:Operand} (ho:o.op = .indexAddr T x y) (hr:HR w O μ h n) (he:arrO P T=some (m,e)) (hne:P.cellsOf e≠0) {cs:List AV}
  (hv:VR w O μ n (.fp cs) (a.eval x)) {k:IntKind} {i:Int} (hi:VR w O μ n (.sc (.int k i)) (a.eval y)) (h0:0<=i) (h1:i<m) (hk:K (.fp (cs.drop (i.toNat*P.cellsOf e))) h n):OpR P o a w O μ n K:=by
 generalize hu:a.eval x=u at hv
 obtain ⟨ie,hie⟩:=kbL hne
 cases hv with
 | fp _ b off us hA hc hh1 hr'=>
  refine OpR.value hr (u:=.pointer (some ⟨b,off+i.toNat*P.cellsOf e,none⟩)) ?_ ?_ hk
  ·simp only [execOp,ho,hu,hi.int_inv]
   exact kan (kku he hie b off k i h0 h1 w)
  ·refine .fp _ b _ (fun j=>us (i.toNat*P.cellsOf e+j)) (fun hne=>hA (by rintro rfl; simp at hne)) (fun j c hj=>?_) (fun j c hj=>?_) (fun j c hj=>?_)
   ·rw [jaq] at hj; rw [jdx]; exact hc _ c hj
   ·rw [jaq] at hj; exact hh1 _ c hj
   ·rw [jaq] at hj; exact hr' _ c hj
theorem VR.ag_cells {cs:List AV} {u:Value} (hv:VR w O μ n (.ag cs) u):∃ vs,u = .agg vs/\vs.size=cs.length/\∀ (j:Nat) (c:AV),cs[j]?=some c->c.one=true/\∃ y,vs[j]?=some y/\VR w O μ n c y:=by
 cases hv with
 | ag _ vs us hs hc h1 hr'=>exact ⟨vs,rfl,hs,fun j c hj=>⟨h1 j c hj,us j,hc j c hj,hr' j c hj⟩⟩
def partK (P:Program) (t:TypeId) (cs:List AV) (d:Nat) (K:AV->Prop):Prop:=
 match aggO P t with
 | some true=>K (.ag ((cs.drop d).take (P.cellsOf t)))
 | some false=>∃ c,cs[d]?=some c/\K c
 | none=>False
theorem kpJ {t:TypeId} {cs:List AV} {vs:Array Value} {d:Nat} {K':AV->Prop} (hs:vs.size=cs.length) (hc:∀ (j:Nat) (c:AV),cs[j]?=some c->c.one=true/\∃ y,vs[j]?=some y/\VR w O μ n c y) (hk:partK P t cs d K') :
  ∃ u v,(part t vs d).run P w = .ok u w/\K' v/\VR w O μ n v u:=by
 unfold partK at hk
 split at hk
 ·rename_i hagg
  obtain ⟨i,hi⟩:=kgT hagg
  refine ⟨.agg (vs.extract d (d+P.cellsOf t)),_,?_,hk,?_⟩
  ·simp [part,keo hagg,kaC hi]
  ·refine .ag _ _ (fun j=>vs.getD (d+j) undef) ?_ (fun j c hj=>?_) (fun j c hj=>?_) (fun j c hj=>?_)
   ·simp [hs]; omega
   all_goals
    rw [jbn] at hj
    split at hj
    case isFalse=>cases hj
    rw [jaq] at hj
    obtain ⟨h1,y,h2,h3⟩:=hc _ c hj
   ·have hlt:=(jak.1 h2).1
    rw [Array.getElem?_extract]
    rw [if_pos (by omega),jaf,h2]; rfl
   ·exact h1
   ·rw [jaf,h2]; exact h3
 ·rename_i hagg
  obtain ⟨c,hcd,hk⟩:=hk
  obtain ⟨h1,y,h2,h3⟩:=hc d c hcd
  refine ⟨y,c,?_,hk,h3⟩
  simp [part,keo hagg,h2]
 ·exact hk.elim
theorem kwP {T:TypeId} {x:Operand} {f d:Nat} {t:TypeId} (ho:o.op = .field T x f) (hr:HR w O μ h n) (hf:fldO P T f=some (d,t)) {cs:List AV} (hv:VR w O μ n (.ag cs) (a.eval x))
  (hk:partK P t cs d (fun v=>K v h n)):OpR P o a w O μ n K:=by
 obtain ⟨fs,x',h1,h2,h3,h4,h5⟩:=krH hf
 obtain ⟨vs,hu,hs,hc⟩:=hv.ag_cells
 obtain ⟨u,v,g1,g2,g3⟩:=kpJ hs hc hk
 refine OpR.value hr (u:=u) ?_ g3 g2
 simp only [execOp,ho,hu]
 refine kan ?_
 subst h3 h4
 simp [Instr.field,run_underlying h1,h2,asAgg,g1]
theorem ksh {T e:TypeId} {m:Nat} {x y:Operand} (ho:o.op = .index T x y) (hr:HR w O μ h n) (he:arrO P T=some (m,e)) (hne:P.cellsOf e≠0) {cs:List AV} (hv:VR w O μ n (.ag cs) (a.eval x))
  {k:IntKind} {i:Int} (hi:VR w O μ n (.sc (.int k i)) (a.eval y)) (h0:0<=i) (h1:i<m) (hk:partK P e cs (i.toNat*P.cellsOf e) (fun v=>K v h n)):OpR P o a w O μ n K:=by
 obtain ⟨vs,hu,hs,hc⟩:=hv.ag_cells
 obtain ⟨u,v,g1,g2,g3⟩:=kpJ hs hc hk
 obtain ⟨ie,hie⟩:=kbL hne
 have hs':=krD he
 refine OpR.value hr (u:=u) ?_ g3 g2
 simp only [execOp,ho,hu,hi.int_inv]
 refine kan ?_
 simp [Instr.index,run_underlying hs',asIntOf,h0,h1,kaC hie,g1]
theorem kse {T:TypeId} {x y:Operand} (ho:o.op = .index T x y) (hr:HR w O μ h n) (he:P.underlying T=some .string) {s:ByteArray} (hv:VR w O μ n (.sc (.string s)) (a.eval x))
  {k:IntKind} {i:Int} (hi:VR w O μ n (.sc (.int k i)) (a.eval y)) (h0:0<=i) {b:UInt8} (hb:s[i.toNat]?=some b) (hk:K (.sc (.int .u8 b.toNat)) h n):OpR P o a w O μ n K:=by
 refine OpR.value hr (u:=.int .u8 b.toNat) ?_ (.sc _ rfl) hk
 simp only [execOp,ho,hv.sc_inv,hi.int_inv]
 refine kan ?_
 simp [Instr.index,run_underlying he,asIntOf,h0,hb]
theorem kuJ {x:Operand} {i:Nat} (ho:o.op = .extract x i) (hr:HR w O μ h n) {cs:List AV} (hv:VR w O μ n (.tp cs) (a.eval x)) {c:AV} (hc:cs[i]?=some c) (hk:K c h n):OpR P o a w O μ n K:=by
 generalize hu:a.eval x=u at hv
 cases hv with
 | tp _ vs us hs hcc hr'=>
  refine OpR.value hr (u:=us i) ?_ (hr' i c hc) hk
  simp only [execOp,ho,hu]
  refine kan ?_
  simp [Instr.extract,hcc i c hc]
theorem ksC {f:FuncId} {caps:Array Operand} (ho:o.op = .makeFunc (.func f) #[] caps) (hr:HR w O μ h n) {env:Env} (hv:∀ x,VR w O μ n (ev env x) (a.eval x)) (hk:K (.fn f (caps.toList.map (ev env))) h n):OpR P o a w O μ n K:=by
 refine OpR.value hr (u:=.func (.func f) #[] (caps.map a.eval)) ?_ ?_ hk
 ·simp [execOp,ho,Instr.makeFunc]
 ·refine .fn f _ _ (fun j=>(caps.map a.eval).getD j undef) (by simp) (fun j c hj=>?_) (fun j c hj=>?_)
  all_goals
   simp only [jaw,jab] at hj
   obtain ⟨x,hx,rfl⟩:=hj
   simp only [jcl] at hx
  ·simp [hx]
  ·simp only [jaf,Array.getElem?_map,hx,jcg,jca]; exact hv x
theorem kqc {x:Operand} (ho:o.op = .nilCheck x) (hr:HR w O μ h n) {cs:List AV} (hv:VR w O μ n (.fp cs) (a.eval x)) (hk:K (.fp cs) h n):OpR P o a w O μ n K:=by
 have hv0:=hv
 generalize hu:a.eval x=u at hv
 cases hv with
 | fp _ b off us hA hc hh1 hr'=>
  rw [hu] at hv0
  refine OpR.value hr ?_ hv0 hk
  simp [execOp,ho,hu]
theorem kpq {x:Operand} (ho:o.op = .nilCheck x) (hr:HR w O μ h n) {id i j k:Nat} {T:TypeId} {es:List (List AV)} (hB:h id=some (.cells k T es)) (hv:VR w O μ n (.own id i j) (a.eval x)) (hk:K (.own id i j) h n):OpR P o a w O μ n K:=by
 obtain ⟨b,c,g1,g2,g3,g4⟩:=kik hr hB hv
 refine OpR.value hr (u:=a.eval x) ?_ hv hk
 simp [execOp,ho,g3]
theorem kqu {x:Operand} (ho:o.op = .nilCheck x) (hr:HR w O μ h n) {f:FuncId} {caps:List AV} (hv:VR w O μ n (.fn f caps) (a.eval x)) (hk:K (.fn f caps) h n):OpR P o a w O μ n K:=by
 have hv0:=hv
 generalize hu:a.eval x=u at hv
 cases hv with
 | fn _ _ vs us _ _ _=>
  rw [hu] at hv0
  refine OpR.value hr ?_ hv0 hk
  simp [execOp,ho,hu]
theorem kyg {x:Operand} (t:TypeId) (ho:o.op = .unOp .not t x) (hr:HR w O μ h n) {b:Bool} (hv:VR w O μ n (.sc (.bool b)) (a.eval x)) (hk:K (.sc (.bool (!b))) h n):OpR P o a w O μ n K:=by
 refine OpR.value hr (u:=.bool !b) ?_ (.sc _ rfl) hk
 simp [execOp,ho,hv.bool_inv,Op.unary]
theorem kxY {x:Operand} (t:TypeId) (ho:o.op = .unOp .neg t x) (hr:HR w O μ h n) {k:IntKind} {i:Int} (hv:VR w O μ n (.sc (.int k i)) (a.eval x)) (hk:K (.sc (.int k (k.wrap (0-i)))) h n):OpR P o a w O μ n K:=by
 refine OpR.value hr (u:=.int k (k.wrap (0-i))) ?_ (.sc _ rfl) hk
 simp [execOp,ho,hv.int_inv,Op.unary,Op.intArith]
theorem kpS {S T:TypeId} {x:Operand} (ho:o.op = .convert S T x) (hr:HR w O μ h n) {k k':IntKind} {i:Int} (hS:(P.underlying S).isSome=true) (hT:intO P T=some k') (hv:VR w O μ n (.sc (.int k i)) (a.eval x))
  (hk:K (.sc (.int k' (k'.wrap i))) h n):OpR P o a w O μ n K:=by
 have hT':P.underlying T=some (.int k'):=by
  unfold intO at hT; split at hT
  ·cases hT; assumption
  ·cases hT
 obtain ⟨d,hd⟩:=jao.1 hS
 refine OpR.value hr (u:=.int k' (k'.wrap i)) ?_ (.sc _ rfl) hk
 simp only [execOp,ho,hv.int_inv]
 exact kan (by simp [convert,run_underlying hd,run_underlying hT',Conv.intToInt])
theorem kkT {S T:TypeId} {x:Operand} (ho:o.op = .convert S T x) (hr:HR w O μ h n) {u v':Value} (hv:VR w O μ n (.sc u) (a.eval x)) (hc:∀ w,(convert S T u).run P w = .ok v' w) (h1:v'.oneCell'=true)
  (hk:K (.sc v') h n):OpR P o a w O μ n K:=by
 refine OpR.value hr (u:=v') ?_ (.sc _ h1) hk
 simp only [execOp,ho,hv.sc_inv]
 exact kan (hc w)
end
def bitsI (op:BinOp) (k:IntKind) (x y:Int):Int:=
 let a:=BitVec.ofInt k.bits x
 let b:=BitVec.ofInt k.bits y
 match op with
 | .and=>k.wrap (a &&& b).toNat
 | .or=>k.wrap (a ||| b).toNat
 | .xor=>k.wrap (a ^^^ b).toNat
 | _=>k.wrap (a &&& ~~~b).toNat
def abinI (op:BinOp) (k:IntKind) (x:Int) (k':IntKind) (y:Int) (K:AV->Prop):Prop:=
 match op with
 | .shl=>0<=y/\K (.sc (.int k (k.wrap (x*2 ^ (min y.toNat k.bits)))))
 | .shr=>0<=y/\K (.sc (.int k (x.fdiv (2 ^ (min y.toNat k.bits)))))
 | .add=>k=k'/\K (.sc (.int k (k.wrap (x+y))))
 | .sub=>k=k'/\K (.sc (.int k (k.wrap (x-y))))
 | .mul=>k=k'/\K (.sc (.int k (k.wrap (x*y))))
 | .quo=>k=k'/\y≠0/\K (.sc (.int k (k.wrap (x.tdiv y))))
 | .rem=>k=k'/\y≠0/\K (.sc (.int k (x.tmod y)))
 | .and=>k=k'/\K (.sc (.int k (bitsI .and k x y)))
 | .or=>k=k'/\K (.sc (.int k (bitsI .or k x y)))
 | .xor=>k=k'/\K (.sc (.int k (bitsI .xor k x y)))
 | .andNot=>k=k'/\K (.sc (.int k (bitsI .andNot k x y)))
 | .eql=>k=k'/\K (.sc (.bool (x==y)))
 | .neq=>k=k'/\K (.sc (.bool (x != y)))
 | .lss=>k=k'/\K (.sc (.bool (decide (x<y))))
 | .leq=>k=k'/\K (.sc (.bool (decide (x<=y))))
 | .gtr=>k=k'/\K (.sc (.bool (decide (y<x))))
 | .geq=>k=k'/\K (.sc (.bool (decide (y<=x))))
def abinS (op:BinOp) (x y:ByteArray) (K:AV->Prop):Prop:=
 match op with
 | .add=>x.size+y.size<=9223372036854775807/\K (.sc (.string (x++y)))
 | .eql=>K (.sc (.bool (x.toList==y.toList)))
 | .neq=>K (.sc (.bool (!(x.toList==y.toList))))
 | .lss=>K (.sc (.bool (Op.bytesLess x.toList y.toList)))
 | .leq=>K (.sc (.bool (Op.bytesLess x.toList y.toList||x.toList==y.toList)))
 | .gtr=>K (.sc (.bool (!(Op.bytesLess x.toList y.toList||x.toList==y.toList))))
 | .geq=>K (.sc (.bool (!(Op.bytesLess x.toList y.toList))))
 | _=>False
def Cmp (P:Program) (h:AH) (op:BinOp) (T:TypeId) (x y:AV) (S:Bool->Prop):Prop:=
 ∀ (w:World) (O:Nat->Prop) (μ:Mu) (n:Nat) (u v:Value) (X Y:Operand),HR w O μ h n->VR w O μ n x u->VR w O μ n y v->∃ b,S b/\(do eqGuard op T X Y u v; binOp op T u v:Sem Value).run P w = .ok (.bool b) w
def abin (P:Program) (h:AH) (op:BinOp) (T:TypeId) (x y:AV) (K:AV->Prop):Prop:=
 match x,y with
 | .sc (.int k a),.sc (.int k' b)=>abinI op k a k' b K
 | .sc (.string a),.sc (.string b)=>abinS op a b K
 | .sc (.bool a),.sc (.bool b)=>P.underlying T=some .bool/\(match op with | .eql=>K (.sc (.bool (a==b))) | .neq=>K (.sc (.bool (!(a==b)))) | _=>False)
 | x,y=>∃ S,Cmp P h op T x y S/\∀ b,S b->K (.sc (.bool b))
section
variable {P:Program} {o:Oper} {a:Act} {w:World} {O:Nat->Prop} {μ:Mu} {h:AH} {n:Nat} {K:K3}
theorem kgD (op:BinOp) (T:TypeId) (X Y:Operand) {u v:Value} (h1:∀ cs,u≠.agg cs) (h2:u≠.nilIface) (w:World):(eqGuard op T X Y u v).run P w = .ok () w:=by
 unfold eqGuard
 cases u <;> first | exact absurd rfl (h1 _) | exact absurd rfl h2 | (cases op <;> simp)
theorem kuZ {op:BinOp} {k k':IntKind} {x y:Int} {K':AV->Prop} (hk:abinI op k x k' y K') (T:TypeId) (w:World):∃ v,(binOp op T (.int k x) (.int k' y)).run P w = .ok v w/\v.oneCell'=true/\K' (.sc v):=by
 cases op
 case shl=>obtain ⟨h0,hk⟩:=hk; exact ⟨_,by simp [binOp,Op.shift,show ¬ y<0 by omega],rfl,hk⟩
 case shr=>obtain ⟨h0,hk⟩:=hk; exact ⟨_,by simp [binOp,Op.shift,show ¬ y<0 by omega],rfl,hk⟩
 case quo=>obtain ⟨rfl,h0,hk⟩:=hk; exact ⟨_,by simp [binOp,Op.intDiv,h0],rfl,hk⟩
 case rem=>obtain ⟨rfl,h0,hk⟩:=hk; exact ⟨_,by simp [binOp,Op.intDiv,h0],rfl,hk⟩
 all_goals
  obtain ⟨rfl,hk⟩:=hk
  refine ⟨_,?_,?_,hk⟩
  ·simp [binOp,Op.intArith,Op.intCmp,Op.intBits,bitsI]
  ·rfl
theorem kuR {op:BinOp} {x y:ByteArray} {K':AV->Prop} (hk:abinS op x y K') (T:TypeId) (w:World):∃ v,(binOp op T (.string x) (.string y)).run P w = .ok v w/\v.oneCell'=true/\K' (.sc v):=by
 cases op
 case add=>
  obtain ⟨h0,hk⟩:=hk
  refine ⟨_,?_,rfl,hk⟩
  have:¬ ((x.size+y.size:Nat):Int)>IntKind.i64.max:=by simp [IntKind.max,IntKind.signed,IntKind.bits]; omega
  simp only [binOp,Op.stringOp]
  rw [if_neg this]
  rfl
 all_goals first | exact hk.elim | exact ⟨_,by simp [binOp,Op.stringOp],rfl,hk⟩
theorem kwu {op:BinOp} {T T2:TypeId} {x y:Operand} (ho:o.op = .binOp op T x y T2) (hr:HR w O μ h n) {v1 v2:AV} (h1:VR w O μ n v1 (a.eval x)) (h2:VR w O μ n v2 (a.eval y))
  (hk:abin P h op T v1 v2 (fun v=>K v h n)):OpR P o a w O μ n K:=by
 unfold abin at hk
 split at hk
 ·rename_i k i k' j
  obtain ⟨v,g1,g2,g3⟩:=kuZ (P:=P) hk T w
  refine OpR.value hr (u:=v) ?_ (.sc v g2) g3
  simp only [execOp,ho,h1.int_inv,h2.int_inv]
  refine kan ?_
  rw [Sem.run_bind,kgD op T x y (by intro cs hc; cases hc) (by intro hc; cases hc)]
  exact g1
 ·rename_i s t
  obtain ⟨v,g1,g2,g3⟩:=kuR (P:=P) hk T w
  refine OpR.value hr (u:=v) ?_ (.sc v g2) g3
  simp only [execOp,ho,h1.sc_inv,h2.sc_inv]
  refine kan ?_
  rw [Sem.run_bind,kgD op T x y (by intro cs hc; cases hc) (by intro hc; cases hc)]
  exact g1
 ·rename_i s t
  obtain ⟨hT,hk⟩:=hk
  split at hk
  ·refine OpR.value hr (u:=.bool (s==t)) ?_ (.sc _ rfl) hk
   simp only [execOp,ho,h1.sc_inv,h2.sc_inv]
   refine kan ?_
   rw [Sem.run_bind,kgD _ T x y (by intro cs hc; cases hc) (by intro hc; cases hc)]
   exact run_eql_bool w T s t hT
  ·refine OpR.value hr (u:=.bool (!(s==t))) ?_ (.sc _ rfl) hk
   simp only [execOp,ho,h1.sc_inv,h2.sc_inv]
   refine kan ?_
   rw [Sem.run_bind,kgD _ T x y (by intro cs hc; cases hc) (by intro hc; cases hc)]
   exact run_neq_bool w T s t hT
  ·exact hk.elim
 ·obtain ⟨S,hc,hk⟩:=hk
  obtain ⟨b,hb,e⟩:=hc w O μ n _ _ x y hr h1 h2
  refine OpR.value hr (u:=.bool b) ?_ (.sc _ rfl) (hk b hb)
  simp only [execOp,ho]
  exact kan e
theorem khW {α:Type} (l vs:List α) (p:Nat) (hp:p+vs.length<=l.length) (q:Nat):(l.take p++vs++l.drop (p+vs.length))[q]?=if p<=q/\q<p+vs.length then vs[q-p]? else l[q]?:=by
 have h1:(l.take p).length=p:=by rw [jbh]; omega
 split
 ·rename_i h
  rw [jau,jcf (by omega),h1,jbl (by omega)]
 ·rename_i h
  rcases jdh q p with hq | hq
  ·rw [jau,jbl (by omega),jbn,if_pos hq]
  ·rw [jcf (by simp; omega),jaq]
   congr 1
   simp; omega
theorem kuB (hr:HR w O μ h n) {id k b i j:Nat} {T:TypeId} {es:List (List AV)} {c:Array Value} (hm:μ id=some (b,k)) (hb:w.heap[b]?=some (.cells c T (0,0)))
  (hB:h id=some (.cells k T es)) {e:List AV} (he:es[i]?=some e) {xs:List AV} {us:List Value} (hl:us.length=xs.length) (hfit:j+xs.length<=e.length)
  (h1:∀ x∈us,x.oneCell'=true) (hx:∀ (q:Nat) (x:AV),xs[q]?=some x->x.one=true/\∃ u,us[q]?=some u/\VR w O μ n x u) :
  ∃ w',(storeCells ⟨b,i*k+j,none⟩ us 0).run P w = .ok () w'/\Evo w μ n w' μ n/\HR w' O μ (updH h id (.cells k T (es.set i (e.take j++xs++e.drop (j+xs.length))))) n:=by
 obtain ⟨b',c',g1,g2,g3⟩:=hr.blk id _ hB
 rw [hm] at g1; cases g1
 rw [hb] at g2; cases g2
 have hek:e.length=k:=(g3 i e he).1
 have hsz:i*k+j+us.length<=c.size:=by
  rcases Nat.eq_zero_or_pos us.length with h0 | h0
  ·rw [h0]
   rcases Nat.eq_zero_or_pos k with hk0 | hk0
   ·have:j=0:=by omega
    simp [hk0,this]
   ·obtain ⟨_,u,hu,_⟩:=(g3 i e he).2 (k-1) (e[k-1]'(by omega)) (jae (by omega))
    have:=(jak.1 hu).1
    omega
  ·have hq:j+us.length-1<e.length:=by omega
   obtain ⟨_,u,hu,_⟩:=(g3 i e he).2 (j+us.length-1) (e[j+us.length-1]'hq) (jae hq)
   have:=(jak.1 hu).1
   omega
 have hrun:=run_storeCells_at P b (i*k+j) T us 0 c w hb (by omega) h1
 simp only [Nat.add_zero] at hrun
 refine ⟨_,hrun,?_⟩
 generalize hc':(c.toList.take (i*k+j)++us++c.toList.drop (i*k+j+us.length)).toArray=c'
 have hsp:∀ q,c'[q]?=if i*k+j<=q/\q<i*k+j+us.length then us[q-(i*k+j)]? else c[q]?:=by
  intro q
  rw [<-hc']
  have:=khW c.toList us (i*k+j) (by simpa using hsz) q
  simpa using this
 refine hr.set id b k hm _ rfl rfl rfl (by simp) (fun q hq=>setRow_other w b q c' hq) (fun c0 T0 f0 h0=>?_) (fun hevo=>?_)
 ·rw [hb] at h0; cases h0
  refine ⟨c',setRow_heap w b c c' T (0,0) hb,?_⟩
  rw [<-hc']; simp; omega
 ·refine ⟨b,c',hm,setRow_heap w b c c' T (0,0) hb,fun q e' hq=>?_⟩
  rw [List.getElem?_set] at hq
  by_cases hiq:i=q
  ·subst hiq
   rw [if_pos rfl,if_pos (jad.1 he).1] at hq
   cases hq
   refine ⟨by simp; omega,fun jj x hj=>?_⟩
   rw [khW e xs j hfit jj] at hj
   rw [hsp]
   split at hj
   ·rename_i hin
    obtain ⟨f1,u,f2,f3⟩:=hx _ x hj
    refine ⟨f1,u,?_,f3.evo hevo⟩
    rw [if_pos (by omega),show i*k+jj-(i*k+j)=jj-j by omega]
    exact f2
   ·rename_i hout
    obtain ⟨f1,u,f2,f3⟩:=(g3 i e he).2 jj x hj
    refine ⟨f1,u,?_,f3.evo hevo⟩
    rw [if_neg (by omega)]
    exact f2
  ·rw [if_neg hiq] at hq
   refine ⟨(g3 q e' hq).1,fun jj x hj=>?_⟩
   obtain ⟨f1,u,f2,f3⟩:=(g3 q e' hq).2 jj x hj
   refine ⟨f1,u,?_,f3.evo hevo⟩
   have hjj:jj<k:=by rw [<-(g3 q e' hq).1]; exact (jad.1 hj).1
   rw [hsp,if_neg ?_]
   ·exact f2
   ·rintro ⟨l1,l2⟩
    rcases Nat.lt_or_gt_of_ne hiq with hlt | hgt
    ·have:(i+1)*k<=q*k:=jbt k hlt
     rw [jby] at this; omega
    ·have:(q+1)*k<=i*k:=jbt k hgt
     rw [jby] at this; omega
theorem kxo {T:TypeId} {x y:Operand} (ho:o.op = .store T x y) (hr:HR w O μ h n) {id i j k:Nat} {T':TypeId} {es:List (List AV)} (hv:VR w O μ n (.own id i j) (a.eval x)) (hB:h id=some (.cells k T' es))
  {e:List AV} (he:es[i]?=some e) {v:AV} (hy:VR w O μ n v (a.eval y)) {xs:List AV} (hc:kax v=some xs) (hlen:xs.length=P.cellsOf T) (hne:xs.length≠0) (hfit:j+xs.length<=e.length)
  (hk:K .ud (updH h id (.cells k T' (es.set i (e.take j++xs++e.drop (j+xs.length))))) n):OpR P o a w O μ n K:=by
 obtain ⟨b,c,g1,g2,g3,g4⟩:=kik hr hB hv
 obtain ⟨f1,f2,f3⟩:=khe hy hc
 obtain ⟨ie,hie⟩:=kbL (P:=P) (T:=T) (by omega)
 obtain ⟨w',r1,r2,r3⟩:=kuB (P:=P) hr g1 g2 hB he (xs:=xs) (us:=(a.eval y).cells.toList) (by simpa using f1) hfit f2 (fun q z hq=>⟨(f3 q z hq).1,by simpa using (f3 q z hq).2⟩)
 refine ⟨undef,w',μ,.ud,_,n,.inr ⟨?_,rfl⟩,hk,r3,.ud,r2⟩
 simp only [execOp,ho,g3]
 have:(Instr.storeAt T (.pointer (some ⟨b,i*k+j,none⟩)) (a.eval y)).run P w = .ok () w':=by
  simp [Instr.storeAt,Instr.sureAddr,storeVar,kaC hie,f1,hlen,r1]
 simp [this]
end
def isCells:Option ABlk->Bool
 | some (.cells _ _ _)=>true
 | _=>false
def lenK (P:Program) (h:AH) (T:TypeId) (v:AV) (K:Nat->Prop):Prop:=
 match v with
 | .sl es=>(elemO P T).isSome=true/\(es.length<=9223372036854775807->K es.length)
 | .ms id _ len=>(elemO P T).isSome=true/\isCells (h id)=true/\(len<=9223372036854775807->K len)
 | .e0=>(elemO P T).isSome=true/\K 0
 | .sc (.slice _ l _)=>(elemO P T).isSome=true/\K l
 | .sc (.string s)=>P.underlying T=some .string/\K s.size
 | .mp id=>match h id,P.underlying T with
  | some (.map kvs),some (.map _ _)=>K kvs.length
  | _,_=>False
 | _=>False
section
variable {P:Program} {o:Oper} {a:Act} {w:World} {O:Nat->Prop} {μ:Mu} {h:AH} {n:Nat} {K:K3}
theorem kjh {T:TypeId} (he:(elemO P T).isSome=true):∃ e,P.underlying T=some (.slice e):=by
 obtain ⟨e,h⟩:=jao.1 he
 exact ⟨e,kca h⟩
theorem run_len_slice' {T e:TypeId} (hT:P.underlying T=some (.slice e)) (ty:TypeId) (base:Option Addr) (m c:Nat) (w:World):(Builtin.len_ #[T] ty #[.slice base m c]).run P w = .ok (goInt m) w:=by
 simp [Builtin.len_,run_underlying hT]
theorem kjU {B:Option ABlk} (hB:isCells B=true):∃ k T es,B=some (.cells k T es):=by
 cases B with
 | none=>simp [isCells] at hB
 | some B=>cases B with
  | cells k T es=>exact ⟨k,T,es,rfl⟩
  | map kvs=>simp [isCells] at hB
  | si s pos=>simp [isCells] at hB
theorem kdd {b:Builtin} {args:Array Operand} {ts:Array TypeId} (ho:o.op = .call { callee:=.builtin b,args:=args,argTypes:=ts }) :
  execOp a.eval o=builtin b ts o.type (args.map fun | .const _=>true | _=>false) (args.map a.eval):=by
 simp only [execOp,ho,resolve,pure_bind,invoke]
 rfl
theorem kyo {T:TypeId} {x:Operand} (ho:o.op = .call { callee:=.builtin .len,args:=#[x],argTypes:=#[T] }) (hr:HR w O μ h n) {v:AV} (hv:VR w O μ n v (a.eval x))
  (hk:lenK P h T v (fun m=>K (.sc (.int .i64 m)) h n)):OpR P o a w O μ n K:=by
 have fin:∀ {m:Nat},(Builtin.len_ #[T] o.type #[a.eval x]).run P w = .ok (goInt m) w->K (.sc (.int .i64 m)) h n->OpR P o a w O μ n K:=by
  intro m h1 h2
  refine OpR.value hr (u:=.int .i64 m) ?_ (.sc _ rfl) h2
  rw [kdd ho]
  simp only [List.map_toArray,jap,List.map_nil]
  exact kan h1
 unfold lenK at hk
 generalize hu:a.eval x=u at *
 split at hk
 ·obtain ⟨he,hk⟩:=hk
  obtain ⟨e,he⟩:=kjh he
  cases hv with
  | slnil=>exact fin (run_len_slice' he _ _ _ _ w) (hk (by simp))
  | sl _ _ _ _ _ _ hcap hmax=>exact fin (run_len_slice' he _ _ _ _ w) (hk (by simp only [maxLen] at hmax; omega))
 ·obtain ⟨he,hB,hk⟩:=hk
  obtain ⟨e,he⟩:=kjh he
  obtain ⟨k,T',es,hB⟩:=kjU hB
  obtain ⟨b,c,oo,cap,g1,g2,rfl,_,q1,q2,_⟩:=kii hr hB hv
  exact fin (run_len_slice' he _ _ _ _ w) (hk (by simp only [maxLen] at q2; omega))
 ·obtain ⟨he,hk⟩:=hk
  obtain ⟨e,he⟩:=kjh he
  cases hv with
  | e0 p=>exact fin (run_len_slice' he _ _ _ _ w) hk
 ·obtain ⟨he,hk⟩:=hk
  obtain ⟨e,he⟩:=kjh he
  rw [hv.sc_inv] at fin
  exact fin (run_len_slice' he _ _ _ _ w) hk
 ·obtain ⟨he,hk⟩:=hk
  rw [hv.sc_inv] at fin
  exact fin (by simp [Builtin.len_,run_underlying he]) hk
 ·split at hk
  ·rename_i kvs k e hB hT
   obtain ⟨b,es,g1,g2,g3,g4⟩:=hr.blk _ _ hB
   cases hv with
   | mp _ _ hi h1 hv=>
    rw [hv b 0 g1] at fin
    refine fin (m:=kvs.length) ?_ hk
    simp [Builtin.len_,run_underlying hT,getObj,Sem.run,g2,g3]
  ·exact hk.elim
 ·exact hk.elim
theorem kpR {x y:Operand} {ts:Array TypeId} {k:IntKind} {i j:Int} (hr:HR w O μ h n) (hi:VR w O μ n (.sc (.int k i)) (a.eval x)) (hj:VR w O μ n (.sc (.int k j)) (a.eval y)) :
  (o.op = .call { callee:=.builtin .min,args:=#[x,y],argTypes:=ts }->K (.sc (.int k (if j<i then j else i))) h n->OpR P o a w O μ n K)/\
  (o.op = .call { callee:=.builtin .max,args:=#[x,y],argTypes:=ts }->K (.sc (.int k (if i<j then j else i))) h n->OpR P o a w O μ n K):=by
 constructor
 ·intro ho hk
  refine OpR.value hr (u:=.int k (if j<i then j else i)) ?_ (.sc _ rfl) hk
  rw [kdd ho]
  simp only [List.map_toArray,jap,List.map_nil,hi.int_inv,hj.int_inv]
  exact kan (run_min_int2 w ts o.type k k i j)
 ·intro ho hk
  refine OpR.value hr (u:=.int k (if i<j then j else i)) ?_ (.sc _ rfl) hk
  rw [kdd ho]
  simp only [List.map_toArray,jap,List.map_nil,hi.int_inv,hj.int_inv]
  exact kan (run_max_int2 w ts o.type k k i j)
theorem koF {x y q:Operand} {ts:Array TypeId} {k:IntKind} {i j l:Int} (hr:HR w O μ h n) (hi:VR w O μ n (.sc (.int k i)) (a.eval x)) (hj:VR w O μ n (.sc (.int k j)) (a.eval y)) (hl:VR w O μ n (.sc (.int k l)) (a.eval q)) :
  (o.op = .call { callee:=.builtin .min,args:=#[x,y,q],argTypes:=ts }->K (.sc (.int k (if l<(if j<i then j else i) then l else (if j<i then j else i)))) h n->OpR P o a w O μ n K)/\
  (o.op = .call { callee:=.builtin .max,args:=#[x,y,q],argTypes:=ts }->K (.sc (.int k (if (if i<j then j else i)<l then l else (if i<j then j else i)))) h n->OpR P o a w O μ n K):=by
 constructor
 ·intro ho hk
  refine OpR.value hr (u:=.int k (if l<(if j<i then j else i) then l else (if j<i then j else i))) ?_ (.sc _ rfl) hk
  rw [kdd ho]
  simp only [List.map_toArray,jap,List.map_nil,hi.int_inv,hj.int_inv,hl.int_inv]
  exact kan (run_min_int3 w ts o.type k k k i j l)
 ·intro ho hk
  refine OpR.value hr (u:=.int k (if (if i<j then j else i)<l then l else (if i<j then j else i))) ?_ (.sc _ rfl) hk
  rw [kdd ho]
  simp only [List.map_toArray,jap,List.map_nil,hi.int_inv,hj.int_inv,hl.int_inv]
  exact kan (run_max_int3 w ts o.type k k k i j l)
def loA:Option AV->Option Int
 | none=>some 0
 | some (.sc (.int _ i))=>some i
 | _=>none
def hiA (len:Nat):Option AV->Option Int
 | none=>some len
 | some (.sc (.int _ i))=>some i
 | _=>none
def kbC (len:Nat) (lo hi:Option AV) (K:Nat->Nat->Prop):Prop:=
 match loA lo,hiA len hi with
 | some l,some u=>0<=l/\l<=u/\u<=len/\K l.toNat u.toNat
 | _,_=>False
theorem run_sliceBound' {k:IntKind} {i:Int} {y:Nat} {code:BoundsCode} (h0:0<=i) (h1:i<=y) (w:World):(Instr.sliceBound (.int k i) y code).run P w = .ok i.toNat w:=by
 simp [Instr.sliceBound,asIntOf,h0,h1]
theorem kdD {isS:Bool} {len cap:Nat} {lo hi:Option Value} {la ha:Option AV} (hcap:len<=cap) {K':Nat->Nat->Prop} (hk:kbC len la ha K')
  (hl:∀ v,lo=some v->∃ x,la=some x/\VR w O μ n x v) (hh:∀ v,hi=some v->∃ x,ha=some x/\VR w O μ n x v) (hl0:lo=none->la=none) (hh0:hi=none->ha=none) :
  ∃ l u,(Instr.sliceBounds isS len cap lo hi none).run P w = .ok (l,u,cap) w/\K' l u/\l<=u/\u<=len:=by
 unfold kbC at hk
 split at hk
 ·rename_i l u hla hha
  obtain ⟨h0,h1,h2,hk⟩:=hk
  refine ⟨l.toNat,u.toNat,?_,hk,by omega,by omega⟩
  have eh:∀ code,((match hi,(none:Option Value) with
    | some v,some _=>Instr.sliceBound v cap .slice3B
    | some v,none=>Instr.sliceBound v cap code
    | none,none=>pure len
    | none,some _=>stuck "":Sem Nat)).run P w = .ok u.toNat w:=by
   intro code
   cases hi with
   | none=>rw [hh0 rfl] at hha; simp [hiA] at hha; subst hha; simp
   | some v=>
    obtain ⟨x,rfl,hx⟩:=hh v rfl
    unfold hiA at hha
    split at hha
    ·rename_i e; cases e
    ·rename_i e; cases e; cases hha; rw [hx.int_inv]; exact run_sliceBound' (by omega) (by omega) w
    ·cases hha
  have el:∀ code,((match lo with
    | some v=>Instr.sliceBound v u.toNat code
    | none=>pure 0:Sem Nat)).run P w = .ok l.toNat w:=by
   intro code
   cases lo with
   | none=>rw [hl0 rfl] at hla; simp [loA] at hla; subst hla; simp
   | some v=>
    obtain ⟨x,rfl,hx⟩:=hl v rfl
    unfold loA at hla
    split at hla
    ·rename_i e; cases e
    ·rename_i e; cases e; cases hla; rw [hx.int_inv]; exact run_sliceBound' h0 (by omega) w
    ·cases hla
  have e2:=el .sliceB
  cases isS
  ·have e1:=eh .sliceAlen
   cases hi with
   | none=>
    simp only [Sem.run_pure,Result.ok.injEq,and_true] at e1
    cases lo with
    | none=>simp only [Sem.run_pure,Result.ok.injEq,and_true] at e2; simp [Instr.sliceBounds,<-e1,<-e2]
    | some v=>rw [<-e1] at e2 ⊢; simp [Instr.sliceBounds,e2]
   | some v=>
    simp only at e1
    cases lo with
    | none=>simp only [Sem.run_pure,Result.ok.injEq,and_true] at e2; simp [Instr.sliceBounds,e1,<-e2]
    | some v=>simp only at e2; simp [Instr.sliceBounds,e1,e2]
  ·have e1:=eh .sliceAcap
   cases hi with
   | none=>
    simp only [Sem.run_pure,Result.ok.injEq,and_true] at e1
    cases lo with
    | none=>simp only [Sem.run_pure,Result.ok.injEq,and_true] at e2; simp [Instr.sliceBounds,<-e1,<-e2]
    | some v=>rw [<-e1] at e2 ⊢; simp [Instr.sliceBounds,e2]
   | some v=>
    simp only at e1
    cases lo with
    | none=>simp only [Sem.run_pure,Result.ok.injEq,and_true] at e2; simp [Instr.sliceBounds,e1,<-e2]
    | some v=>simp only at e2; simp [Instr.sliceBounds,e1,e2]
 ·exact hk.elim
def keC (P:Program) (h:AH) (T:TypeId) (x:AV) (lo hi:Option AV) (K:AV->Prop):Prop:=
 match x with
 | .sl es=>(∃ e,elemO P T=some e/\(∃ i,P.info? e=some i)/\∀ c,es.head?=some c->c.length=P.cellsOf e)/\kbC es.length lo hi fun l u=>K (.sl ((es.take u).drop l))
 | .ms id off len=>(∃ e,elemO P T=some e/\match h id with | some (.cells k _ _)=>k=P.cellsOf e/\k≠0 | _=>False)/\kbC len lo hi fun l u=>K (.ms id (off+l) (u-l))
 | .sc (.slice none 0 0)=>(∃ e,elemO P T=some e/\∃ i,P.info? e=some i)/\kbC 0 lo hi fun _ _=>K (.sc (.slice none 0 0))
 | .sc (.string s)=>P.underlying T=some .string/\kbC s.size lo hi fun l u=>K (.sc (.string (s.extract l u)))
 | _=>False
theorem optAV {env:Env} (hv:∀ x,VR w O μ n (ev env x) (a.eval x)) (lo:Option Operand):(∀ v,lo.map a.eval=some v->∃ x,lo.map (ev env)=some x/\VR w O μ n x v)/\(lo.map a.eval=none->lo.map (ev env)=none):=by
 cases lo with
 | none=>exact ⟨fun v hv'=>by simp at hv',fun _=>rfl⟩
 | some x=>exact ⟨fun v hv'=>by simp at hv'; subst hv'; exact ⟨_,rfl,hv x⟩,fun hn=>by simp at hn⟩
theorem kfQ {T e:TypeId} (he:P.underlying T=some (.slice e)) {ie:TypeInfo} (hie:P.info? e=some ie) {p:Option Addr} {len cap:Nat} {lo hi:Option Value} {l u:Nat} (hb:(Instr.sliceBounds true len cap lo hi none).run P w = .ok (l,u,cap) w) :
  (Instr.sliceAt T (.slice p len cap) lo hi none).run P w = .ok (.slice (if cap=l then p else p.map (·.add (l*P.cellsOf e))) (u-l) (cap-l)) w:=by
 simp [Instr.sliceAt,run_underlying he,Instr.slice,hb,kaC hie]
theorem kxf {T:TypeId} {x:Operand} {lo hi:Option Operand} (ho:o.op = .slice T x lo hi none) (hr:HR w O μ h n) {env:Env} (hv:∀ x,VR w O μ n (ev env x) (a.eval x))
  (hk:keC P h T (ev env x) (lo.map (ev env)) (hi.map (ev env)) (fun v=>K v h n)):OpR P o a w O μ n K:=by
 have hx:=hv x
 obtain ⟨l1,l2⟩:=optAV hv lo
 obtain ⟨u1,u2⟩:=optAV hv hi
 have fin:∀ {u:Value} {v:AV},(Instr.sliceAt T (a.eval x) (lo.map a.eval) (hi.map a.eval) none).run P w = .ok u w->VR w O μ n v u->K v h n->OpR P o a w O μ n K:=by
  intro u v h1 h2 h3
  refine OpR.value hr ?_ h2 h3
  simp only [execOp,ho]
  exact kan h1
 unfold keC at hk
 generalize hu:a.eval x=u at *
 split at hk
 ·rename_i es hes
  rw [hes] at hx
  obtain ⟨⟨e,he,⟨ie,hie⟩,hlen⟩,hk⟩:=hk
  have hT:=kca he
  cases hx with
  | slnil=>
   obtain ⟨l,u,g1,g2,g3,g4⟩:=kdD (P:=P) (isS:=true) (cap:=0) (by simp) hk l1 u1 l2 u2
   simp at g4; subst g4
   have:l=0:=by omega
   subst this
   exact fin (kfQ hT hie g1) (by simp; exact .slnil _) g2
  | sl _ b off cap k us hcap hmax hA hkk hc h1 hr'=>
   obtain ⟨l,u,g1,g2,g3,g4⟩:=kdD (P:=P) (isS:=true) hcap hk l1 u1 l2 u2
   refine fin (kfQ hT hie g1) ?_ g2
   have hll:((es.take u).drop l).length=u-l:=by simp; omega
   by_cases hcl:cap=l
   ·rw [if_pos hcl]
    have:(es.take u).drop l=[]:=jbp (by omega)
    have hul:u-l=0:=by omega
    rw [this,hul]
    exact .sl [] b off _ k us (by simp) (by omega) (fun i e hi=>by simp at hi) (fun i e hi=>by simp at hi) (fun i e hi=>by simp at hi) (fun i e hi=>by simp at hi) (fun i e hi=>by simp at hi)
   ·rw [if_neg hcl]
    simp only [jcg,khy]
    rw [<-hll]
    have hg:∀ (i:Nat) (e':List AV),((es.take u).drop l)[i]?=some e'->es[l+i]?=some e':=by
     intro i e' hi
     rw [jaq,jbn] at hi
     split at hi
     ·exact hi
     ·cases hi
    have hkeq:es≠[]->k=P.cellsOf e:=by
     intro hne
     cases es with
     | nil=>exact absurd rfl hne
     | cons c es=>rw [<-hkk 0 c rfl]; exact hlen c rfl
    refine .sl _ b _ (cap-l) k (fun i j=>us (l+i) j) (by omega) (by omega) (fun i e' hi=>hA _ e' (hg i e' hi)) (fun i e' hi=>hkk _ e' (hg i e' hi)) (fun i e' hi j c hj=>?_) (fun i e' hi j c hj=>h1 _ e' (hg i e' hi) j c hj) (fun i e' hi j c hj=>hr' _ e' (hg i e' hi) j c hj)
    have hne:es≠[]:=by rintro rfl; simp at hi
    rw [<-hkeq hne]
    rw [show off+l*k+i*k+j=off+(l+i)*k+j by rw [jby]; omega]
    exact hc _ e' (hg i e' hi) j c hj
 ·rename_i id off len hes
  rw [hes] at hx
  obtain ⟨⟨e,he,hB⟩,hk⟩:=hk
  have hT:=kca he
  split at hB
  ·rename_i k T' es hB'
   obtain ⟨hke,hk0⟩:=hB
   obtain ⟨b,c,oo,cap,g1,g2,rfl,g3,g4,g5,g6,g7⟩:=kii hr hB' hx
   obtain ⟨ie,hie⟩:=kbL (P:=P) (T:=e) (by omega)
   obtain ⟨l,u,f1,f2,f3,f4⟩:=kdD (P:=P) (isS:=true) g4 hk l1 u1 l2 u2
   refine fin (kfQ hT hie f1) ?_ f2
   refine .ms id _ _ _ g3 rfl fun b' k' e'=>?_
   rw [g1] at e'; cases e'
   by_cases hcl:cap=l
   ·rw [if_pos hcl]
    exact ⟨oo,cap-l,c,T',rfl,by omega,by omega,fun hn=>by omega,g2,by rw [<-g7]; congr 1; omega⟩
   ·rw [if_neg hcl]
    simp only [jcg,khy]
    exact ⟨oo+l*P.cellsOf e,cap-l,c,T',rfl,by omega,by omega,fun hn=>by rw [g6 (by omega),hke,jby],g2,by rw [<-g7]; congr 1; omega⟩
  ·exact hB.elim
 ·rename_i hes
  rw [hes] at hx
  obtain ⟨⟨e,he,ie,hie⟩,hk⟩:=hk
  have hT:=kca he
  obtain ⟨l,u,g1,g2,g3,g4⟩:=kdD (P:=P) (isS:=true) (cap:=0) (by simp) hk l1 u1 l2 u2
  simp at g4; subst g4
  have:l=0:=by omega
  subst this
  rw [hx.sc_inv] at fin
  exact fin (kfQ hT hie g1) (.sc _ rfl) g2
 ·rename_i s hes
  rw [hes] at hx
  obtain ⟨hT,hk⟩:=hk
  obtain ⟨l,u,g1,g2,g3,g4⟩:=kdD (P:=P) (isS:=false) (cap:=s.size) (by simp) hk l1 u1 l2 u2
  rw [hx.sc_inv] at fin
  refine fin ?_ (.sc _ rfl) g2
  simp [Instr.sliceAt,run_underlying hT,Instr.slice,g1]
 ·exact hk.elim
end
section
variable {P:Program} {o:Oper} {a:Act} {w:World} {O:Nat->Prop} {μ:Mu} {h:AH} {n:Nat} {K:K3}
theorem khl {T:TypeId} {z:List AV} (hz:zeroO P T=some z):∃ i zv,P.info? T=some i/\i.zero=some zv/\z=zv.cells.toList.map .sc/\(∀ x∈zv.cells.toList,x.oneCell'=true)/\zv.cells.size=i.size/\P.cellsOf T=z.length:=by
 unfold zeroO at hz
 simp only [jaa] at hz
 obtain ⟨i,hi,zv,hzv,hz⟩:=hz
 split at hz
 ·rename_i hall
  cases hz
  simp only [jac,jcc,beq_iff_eq] at hall
  refine ⟨i,zv,hi,hzv,rfl,fun x hx=>hall.1 x (by simpa using hx),hall.2,?_⟩
  simp [Program.cellsOf,hi,hall.2]
 ·cases hz
theorem krZ {zv:Value} (h1:∀ x∈zv.cells.toList,x.oneCell'=true) (m k:Nat) (hk:zv.cells.size=k) (w:World) (O:Nat->Prop) (μ:Mu) (n:Nat) :
  ∀ (i:Nat) (e:List AV),(List.replicate m (zv.cells.toList.map AV.sc))[i]?=some e->e.length=k/\∀ (j:Nat) (x:AV),e[j]?=some x->x.one=true/\
   ∃ u,((Array.range (m*k)).map (fun q=>zv.cells[q % zv.cells.size]!))[i*k+j]?=some u/\VR w O μ n x u:=by
 intro i e hi
 have hlt:=(jad.1 hi).1
 simp only [jcr] at hlt
 rw [jct,if_pos hlt] at hi
 cases hi
 refine ⟨by simp [hk],fun j x hj=>?_⟩
 simp only [jaw,jab,jcl] at hj
 obtain ⟨y,hy,rfl⟩:=hj
 have hjk:j<k:=by rw [<-hk]; exact (jak.1 hy).1
 have hy1:=h1 y (by simpa using Array.mem_of_getElem? hy)
 refine ⟨hy1,y,?_,.sc y hy1⟩
 have hin:i*k+j<m*k:=by
  have:(i+1)*k<=m*k:=jbt k hlt
  rw [jby] at this; omega
 have hmod:(i*k+j) % zv.cells.size=j:=by
  rw [hk,Nat.mul_comm,Nat.mul_add_mod,Nat.mod_eq_of_lt hjk]
 simp only [Array.getElem?_map,Array.getElem?_range,hin,↓reduceIte,jcg,hmod]
 have:=jak.1 hy
 obtain ⟨hj2,he⟩:=this
 rw [getElem!_pos zv.cells j hj2,he]
theorem kst {T e:TypeId} {x y:Operand} (ho:o.op = .makeSlice T x y) (hr:HR w O μ h n) (he:elemO P T=some e) {z:List AV} (hz:zeroO P e=some z) (hne:z≠[])
  {k k':IntKind} {m:Int} (hx:VR w O μ n (.sc (.int k m)) (a.eval x)) (hy:VR w O μ n (.sc (.int k' m)) (a.eval y)) (h0:0<=m) (h1:m<=1048576) (hb:P.bytesOf e<=1024)
  (hk:K (.ms n 0 m.toNat) (updH h n (.cells z.length e (List.replicate m.toNat z))) (n+1)):OpR P o a w O μ n K:=by
 obtain ⟨i,zv,hi,hzv,hzz,hz1,hsz,hc⟩:=khl hz
 have hzl:z.length=zv.cells.size:=by rw [hzz]; simp
 have hzp:0<z.length:=by cases z with | nil=>exact absurd rfl hne | cons _ _=>simp
 have hT:=kca he
 obtain ⟨hev,hh⟩:=kgU hr e ((Array.range (m.toNat*z.length)).map (fun q=>zv.cells[q % zv.cells.size]!)) z.length (List.replicate m.toNat z) (by
  have:=krZ hz1 m.toNat z.length hzl.symm w O μ n
  rw [hzz] at this ⊢
  exact this)
 refine ⟨.slice (some ⟨w.heap.size,0,none⟩) m.toNat m.toNat,_,_,_,_,_,.inl ?_,hk,hh,?_,hev⟩
 ·simp only [execOp,ho,hx.int_inv,hy.int_inv]
  refine kan (u:=.slice (some ⟨w.heap.size,0,none⟩) m.toNat m.toNat) ?_
  have hbi:(i.bytes:Int)<=1024:=(by have:P.bytesOf e=i.bytes:=(by simp [Program.bytesOf,hi]); omega)
  have hw:IntKind.i64.wrap m=m:=IntWalk.i64_in m (by omega)
  have hmul:(i.bytes:Int)*m<=1024*1048576:=Int.mul_le_mul hbi h1 h0 (by omega)
  have hf:¬ (((decide (m<0)||decide ((i.bytes:Int)*m>2 ^ 48))||decide (m<0)||decide (m>m))=true):=by
   simp; omega
  simp only [Instr.makeSlice,Sem.run_bind,run_underlying hT,Result.andThen_ok,asInt,asIntOf,pure_bind,Sem.run_pure,typeInfo,run_program,hi,hw]
  rw [if_neg hf]
  simp only [Sem.run_bind,run_askRoom,Result.andThen_ok,kaC hi]
  by_cases h00:m.toNat*P.cellsOf e=0
  ·have hcell:∀ f:Nat->Value,(Array.range (m.toNat*P.cellsOf e)).map f=(Array.range (m.toNat*z.length)).map (fun q=>zv.cells[q % zv.cells.size]!):=fun f=>by
    rw [<-hc,h00]
    exact Array.ext (by simp) fun i h _=>by simp at h
   rw [if_pos h00]
   simp only [Sem.run_bind,newRow,run_newObj,Result.andThen_ok,Sem.run_pure,hcell]
   rfl
  ·rw [if_neg h00]
   simp only [Sem.run_bind,zeroValue,typeInfo,run_program,Result.andThen_ok,hi,Sem.run_pure,hzv,newRow,run_newObj,hc]
   rfl
 ·refine .ms n 0 _ _ (by omega) rfl fun b k2 e2=>?_
  simp [updM] at e2
  obtain ⟨rfl,rfl⟩:=e2
  refine ⟨0,m.toNat,_,e,rfl,jah _,?_,fun _=>by simp,kbn _ _,by simp⟩
  unfold maxLen; omega
theorem kvc (off:Nat):∀ (l:List Value) (s:Nat) (cells:Array Value),off+s+l.length<=cells.size->
  ((l.zipIdx s).foldl (fun cs x=>cs.setIfInBounds (off+x.2) x.1) cells).size=cells.size/\
  ∀ q,((l.zipIdx s).foldl (fun cs x=>cs.setIfInBounds (off+x.2) x.1) cells)[q]?=if off+s<=q/\q<off+s+l.length then l[q-(off+s)]? else cells[q]?
 | [],s,cells,_=>⟨rfl,fun q=>by simp; intro h1 h2; omega⟩
 | v::l,s,cells,hl=>by
  simp only [jdd] at hl
  obtain ⟨h1,h2⟩:=kvc off l (s+1) (cells.setIfInBounds (off+s) v) (by simp; omega)
  simp only [jbx,List.foldl_cons]
  refine ⟨by rw [h1]; simp,fun q=>?_⟩
  rw [h2]
  by_cases hq:q=off+s
  ·subst hq
   rw [if_neg (by omega),if_pos (by simp),Array.getElem?_setIfInBounds_self_of_lt (by omega)]
   simp
  ·by_cases hq2:off+s<=q/\q<off+s+(l.length+1)
   ·rw [if_pos (by omega),if_pos (by simpa using hq2)]
    rw [show q-(off+s)=(q-(off+(s+1)))+1 by omega,jbz]
   ·rw [if_neg (by omega),if_neg (by simpa using hq2),jcq (by omega)]
theorem krN {place:Nat->Option (Nat×Nat)} {cells:Array Value} {i off size:Nat} {v:Value} {rest:List (Nat×Value)} (hp:place i=some (off,size)) (hs:v.cells.size=size) (hf:off+size<=cells.size) :
  ∃ c',Instr.fill place cells ((i,v)::rest)=Instr.fill place c' rest/\c'.size=cells.size/\∀ q,c'[q]?=if off<=q/\q<off+size then v.cells[q-off]? else cells[q]?:=by
 obtain ⟨h1,h2⟩:=kvc off v.cells.toList 0 cells (by simp; omega)
 refine ⟨(v.cells.toList.zipIdx 0).foldl (fun cs x=>cs.setIfInBounds (off+x.2) x.1) cells,?_,h1,fun q=>?_⟩
 ·simp only [Instr.fill,hp]
  rw [if_neg (by simp [hs]; omega)]
  congr 1
  rw [<-Array.foldl_toList]
  simp
 ·rw [h2]
  simp only [Nat.add_zero,jci,hs,jcl]
def fillS (pl:List (Nat×Nat)) (env:Env):List (Nat×Operand)->List AV->Option (List AV)
 | [],cells=>some cells
 | (i,x)::rest,cells=>
  match pl[i]?,kax (ev env x) with
  | some (off,size),some xs=>if xs.length=size/\off+size<=cells.length then fillS pl env rest (cells.take off++xs++cells.drop (off+size)) else none
  | _,_=>none
def klE (w:World) (O:Nat->Prop) (μ:Mu) (n:Nat) (c:Array Value) (cells:List AV):Prop:=
 c.size=cells.length/\∀ (j:Nat) (x:AV),cells[j]?=some x->x.one=true/\∃ u,c[j]?=some u/\VR w O μ n x u
theorem kkE {env:Env} (hv:∀ x,VR w O μ n (ev env x) (a.eval x)) {place:Nat->Option (Nat×Nat)} {pl:List (Nat×Nat)} (hpl:∀ i x,pl[i]?=some x->place i=some x) :
  ∀ (parts:List (Nat×Operand)) (cells:List AV) (c:Array Value) (r:List AV),klE w O μ n c cells->fillS pl env parts cells=some r->∃ c',Instr.fill place c (parts.map fun x=>(x.1,a.eval x.2))=some c'/\klE w O μ n c' r
 | [],cells,c,r,hc,hf=>by simp [fillS] at hf; subst hf; exact ⟨c,rfl,hc⟩
 | (i,x)::rest,cells,c,r,hc,hf=>by
  simp only [fillS] at hf
  split at hf
  ·rename_i off size xs hi hx
   split at hf
   ·rename_i hcond
    obtain ⟨f1,f2,f3⟩:=khe (hv x) hx
    obtain ⟨c',g1,g2,g3⟩:=krN (place:=place) (cells:=c) (rest:=rest.map fun x=>(x.1,a.eval x.2)) (hpl i _ hi) (v:=a.eval x) (by rw [f1]; exact hcond.1) (by rw [hc.1]; exact hcond.2)
    have hrel:klE w O μ n c' (cells.take off++xs++cells.drop (off+size)):=by
     refine ⟨by rw [g2,hc.1]; simp; omega,fun j y hj=>?_⟩
     rw [<-hcond.1,khW cells xs off (by omega) j] at hj
     rw [g3,<-hcond.1]
     split at hj
     ·rename_i hin
      rw [if_pos hin]
      obtain ⟨q1,u,q2,q3⟩:=f3 _ y hj
      exact ⟨q1,u,q2,q3⟩
     ·rename_i hout
      rw [if_neg hout]
      exact hc.2 j y hj
    obtain ⟨c'',k1,k2⟩:=kkE hv hpl rest _ c' r hrel hf
    exact ⟨c'',by rw [jap,g1]; exact k1,k2⟩
   ·cases hf
  ·cases hf
def kjt (P:Program) (T:TypeId):Option (List (Nat×Nat)):=
 match P.underlying T with
 | some (.struct fs)=>fs.toList.mapM fun f=>(P.info? f.type).map fun i=>(f.offset,i.size)
 | some (.array n e)=>(P.info? e).map fun i=>(List.range n).map fun j=>(j*i.size,i.size)
 | _=>none
theorem kpY:∀ (fs:List Field) (r:List (Nat×Nat)),fs.mapM (fun f=>(P.info? f.type).map fun i=>(f.offset,i.size))=some r->
  ∀ w,(fs.mapM (fun f=>do pure (f.offset,<-sizeOf f.type)):Sem (List (Nat×Nat))).run P w = .ok r w
 | [],r,h,w=>by simp at h; subst h; simp
 | f::fs,r,h,w=>by
  simp only [jdn,Option.bind_eq_bind,jaa,jab,Option.pure_def,Option.some.injEq] at h
  obtain ⟨x,⟨i,hi,rfl⟩,r',hr,rfl⟩:=h
  have ih:=kpY fs r' hr w
  simp only [jdn,Sem.run_bind,kaC hi,Result.andThen_ok,Sem.run_pure,ih]
  simp [Program.cellsOf,hi]
theorem kwJ {T:TypeId} {parts:Array (Nat×Operand)} (ho:o.op = .build T parts) (hr:HR w O μ h n) {env:Env} (hv:∀ x,VR w O μ n (ev env x) (a.eval x)) {z:List AV} (hz:zeroO P T=some z) {pl:List (Nat×Nat)} (hp:kjt P T=some pl)
  {cs:List AV} (hf:fillS pl env parts.toList z=some cs) (hk:K (.ag cs) h n):OpR P o a w O μ n K:=by
 obtain ⟨i,zv,hi,hzv,hzz,hz1,hsz,hc⟩:=khl hz
 have hrel:klE w O μ n zv.cells z:=by
  refine ⟨by rw [hzz]; simp,fun j x hj=>?_⟩
  rw [hzz] at hj
  simp only [jaw,jab,jcl] at hj
  obtain ⟨y,hy,rfl⟩:=hj
  have hy1:=hz1 y (by simpa using Array.mem_of_getElem? hy)
  exact ⟨hy1,y,hy,.sc y hy1⟩
 have hpt:(parts.map fun x=>(x.1,a.eval x.2)).toList=parts.toList.map fun x=>(x.1,a.eval x.2):=by simp
 unfold kjt at hp
 split at hp
 ·rename_i fs hT
  obtain ⟨c',g1,g2,g3⟩:=kkE hv (place:=fun i=>pl.toArray[i]?) (pl:=pl) (fun i x h=>by simpa using h) parts.toList z zv.cells cs hrel hf
  refine OpR.value hr (u:=.agg c') ?_ ?_ hk
  ·simp only [execOp,ho]
   refine kan ?_
   have hpr:=kpY (P:=P) fs.toList pl hp w
   have hpa:(fs.mapM (fun f=>do pure (f.offset,<-sizeOf f.type)):Sem (Array (Nat×Nat))).run P w = .ok pl.toArray w:=by
    rw [Array.mapM_eq_mapM_toList]
    simp only [Sem.run_map,hpr,Result.andThen_ok]
   simp only [Instr.build,Sem.run_bind,zeroValue,typeInfo,run_program,Result.andThen_ok,hi,Sem.run_pure,hzv,run_underlying hT,hpa]
   rw [hpt,g1]
   rfl
  ·exact .ag cs c' (fun j=>c'.getD j undef) g2 (fun j x hj=>by obtain ⟨_,u,h2,_⟩:=g3 j x hj; simp [h2]) (fun j x hj=>(g3 j x hj).1) (fun j x hj=>by obtain ⟨_,u,h2,h3⟩:=g3 j x hj; simpa [h2] using h3)
 ·rename_i m e hT
  simp only [jab] at hp
  obtain ⟨ie,hie,rfl⟩:=hp
  have hcell:P.cellsOf e=ie.size:=by simp [Program.cellsOf,hie]
  obtain ⟨c',g1,g2,g3⟩:=kkE hv (place:=fun i=>some (i*ie.size,ie.size)) (pl:=(List.range m).map fun j=>(j*ie.size,ie.size)) (fun i x h=>by
   simp only [jaw,jab] at h
   obtain ⟨q,hq,rfl⟩:=h
   obtain ⟨_,hq⟩:=jad.1 hq
   simp only [List.getElem_range] at hq
   subst hq; rfl) parts.toList z zv.cells cs hrel hf
  refine OpR.value hr (u:=.agg c') ?_ ?_ hk
  ·simp only [execOp,ho]
   refine kan ?_
   simp only [Instr.build,Sem.run_bind,zeroValue,typeInfo,run_program,Result.andThen_ok,hi,Sem.run_pure,hzv,run_underlying hT,kaC hie,hcell]
   rw [hpt,g1]
   rfl
  ·exact .ag cs c' (fun j=>c'.getD j undef) g2 (fun j x hj=>by obtain ⟨_,u,h2,_⟩:=g3 j x hj; simp [h2]) (fun j x hj=>(g3 j x hj).1) (fun j x hj=>by obtain ⟨_,u,h2,h3⟩:=g3 j x hj; simpa [h2] using h3)
 ·cases hp
def fillE (k:Nat) (env:Env):List (Nat×Operand)->List (List AV)->Option (List (List AV))
 | [],es=>some es
 | (i,x)::rest,es=>
  match kax (ev env x) with
  | some xs=>if xs.length=k/\i<es.length then fillE k env rest (es.set i xs) else none
  | none=>none
def EsRel (w:World) (O:Nat->Prop) (μ:Mu) (n k:Nat) (c:Array Value) (es:List (List AV)):Prop:=
 c.size=es.length*k/\∀ (i:Nat) (e:List AV),es[i]?=some e->e.length=k/\∀ (j:Nat) (x:AV),e[j]?=some x->x.one=true/\∃ u,c[i*k+j]?=some u/\VR w O μ n x u
theorem EsRel.set {k i:Nat} {c c':Array Value} {es:List (List AV)} (hc:EsRel w O μ n k c es) {xs:List AV} (hx:xs.length=k) (hi:i<es.length) (hs:c'.size=c.size) {us:Nat->Option Value}
  (hc':∀ q,c'[q]?=if i*k<=q/\q<i*k+k then us (q-i*k) else c[q]?) (hxs:∀ (j:Nat) (x:AV),xs[j]?=some x->x.one=true/\∃ u,us j=some u/\VR w O μ n x u):EsRel w O μ n k c' (es.set i xs):=by
 refine ⟨by rw [hs,hc.1]; simp,fun q e hq=>?_⟩
 rw [List.getElem?_set] at hq
 by_cases hiq:i=q
 ·subst hiq
  rw [if_pos rfl,if_pos hi] at hq
  cases hq
  refine ⟨hx,fun j x hj=>?_⟩
  obtain ⟨h1,u,h2,h3⟩:=hxs j x hj
  have hjk:j<k:=by rw [<-hx]; exact (jad.1 hj).1
  exact ⟨h1,u,by rw [hc',if_pos (by omega),show i*k+j-i*k=j by omega]; exact h2,h3⟩
 ·rw [if_neg hiq] at hq
  refine ⟨(hc.2 q e hq).1,fun j x hj=>?_⟩
  obtain ⟨h1,u,h2,h3⟩:=(hc.2 q e hq).2 j x hj
  have hjk:j<k:=by rw [<-(hc.2 q e hq).1]; exact (jad.1 hj).1
  refine ⟨h1,u,?_,h3⟩
  rw [hc',if_neg ?_]
  ·exact h2
  ·rintro ⟨l1,l2⟩
   rcases Nat.lt_or_gt_of_ne hiq with hlt | hgt
   ·have:(i+1)*k<=q*k:=jbt k hlt
    rw [jby] at this; omega
   ·have:(q+1)*k<=i*k:=jbt k hgt
    rw [jby] at this; omega
theorem koy {k:Nat} {env:Env} (hv:∀ x,VR w O μ n (ev env x) (a.eval x)) :
  ∀ (parts:List (Nat×Operand)) (es:List (List AV)) (c:Array Value) (r:List (List AV)),EsRel w O μ n k c es->fillE k env parts es=some r->
   ∃ c',Instr.fill (fun i=>some (i*k,k)) c (parts.map fun x=>(x.1,a.eval x.2))=some c'/\EsRel w O μ n k c' r/\r.length=es.length
 | [],es,c,r,hc,hf=>by simp [fillE] at hf; subst hf; exact ⟨c,rfl,hc,rfl⟩
 | (i,x)::rest,es,c,r,hc,hf=>by
  simp only [fillE] at hf
  split at hf
  ·rename_i xs hx
   split at hf
   ·rename_i hcond
    obtain ⟨f1,f2,f3⟩:=khe (hv x) hx
    have hfit:i*k+k<=c.size:=by
     rw [hc.1]
     have:(i+1)*k<=es.length*k:=jbt k hcond.2
     rw [jby] at this; omega
    obtain ⟨c',g1,g2,g3⟩:=krN (place:=fun i=>some (i*k,k)) (cells:=c) (rest:=rest.map fun x=>(x.1,a.eval x.2)) (i:=i) rfl (v:=a.eval x) (by rw [f1]; exact hcond.1) hfit
    have hrel:=hc.set hcond.1 hcond.2 g2 (us:=fun q=>(a.eval x).cells[q]?) g3 f3
    obtain ⟨c'',k1,k2,k3⟩:=koy hv rest _ c' r hrel hf
    exact ⟨c'',by rw [jap,g1]; exact k1,k2,by rw [k3]; simp⟩
   ·cases hf
  ·cases hf
theorem VR.ms_new (w:World) (O:Nat->Prop) (μ:Mu) (n:Nat) (c:Array Value) (T:TypeId) (k len:Nat) (hs:c.size=len*k) (hl:len<=maxLen):VR (w.alloc (.cells c T)) O (updM μ n (w.heap.size,k)) (n+1) (.ms n 0 len) (.slice (some ⟨w.heap.size,0,none⟩) len len):=by
 refine .ms n 0 _ _ (by omega) rfl fun b k2 e2=>?_
 simp [updM] at e2
 obtain ⟨rfl,rfl⟩:=e2
 exact ⟨0,len,c,T,rfl,jah _,hl,fun _=>by simp,kbn _ _,by simp [hs]⟩
theorem khX {T e:TypeId} {len:Nat} {parts:Array (Nat×Operand)} (ho:o.op = .buildSlice T len parts) (he:elemO P T=some e) {env:Env} (hv:∀ x,VR w O μ n (ev env x) (a.eval x)) {z:List AV} (hz:zeroO P e=some z)
  (hl:len<=1000) (hzl:z.length<=1000) {es:List (List AV)} (hf:fillE z.length env parts.toList (List.replicate len z)=some es) :
  ∃ c',(execOp a.eval o).run P w = .ok (.value (.slice (some ⟨w.heap.size,0,none⟩) len len)) (w.alloc (.cells c' e))/\EsRel w O μ n z.length c' es/\es.length=len:=by
 obtain ⟨i,zv,hi,hzv,hzz,hz1,hsz,hc⟩:=khl hz
 have hzl':zv.cells.size=z.length:=by rw [hzz]; simp
 have hT:=kca he
 have hrel:EsRel w O μ n z.length ((Array.range (len*z.length)).map (fun q=>zv.cells[q % zv.cells.size]!)) (List.replicate len z):=by
  refine ⟨by simp,?_⟩
  have:=krZ hz1 len z.length hzl' w O μ n
  rw [hzz] at this ⊢
  exact this
 obtain ⟨c',g1,g2,g3⟩:=koy hv parts.toList _ _ es hrel hf
 simp only [jcr] at g3
 refine ⟨c',?_,g2,g3⟩
 simp only [execOp,ho]
 refine kan ?_
 have hb:¬ len*z.length>2 ^ 24:=by
  have:len*z.length<=1000*1000:=Nat.mul_le_mul hl hzl
  omega
 have hpm:(parts.map fun x=>(x.1,a.eval x.2)).toList=parts.toList.map fun x=>(x.1,a.eval x.2):=by simp
 simp only [Instr.buildSlice,Sem.run_bind,run_underlying hT,Result.andThen_ok,kaC hi,hc]
 rw [if_neg hb]
 simp only [hpm]
 by_cases h00:len*z.length=0
 ·have hcell:∀ f:Nat->Value,(Array.range (len*z.length)).map f=(Array.range (len*z.length)).map (fun q=>zv.cells[q % zv.cells.size]!):=fun f=>by
   rw [h00]
   exact Array.ext (by simp) fun i h _=>by simp at h
  rw [if_pos h00]
  simp only [Sem.run_bind,Result.andThen_ok,Sem.run_pure,hcell,g1,newRow,run_newObj]
  rfl
 ·rw [if_neg h00]
  simp only [Sem.run_bind,zeroValue,typeInfo,run_program,Result.andThen_ok,hi,Sem.run_pure,hzv,g1,newRow,run_newObj]
  rfl
theorem kqL {T e:TypeId} {len:Nat} {parts:Array (Nat×Operand)} (ho:o.op = .buildSlice T len parts) (hr:HR w O μ h n) (he:elemO P T=some e) {env:Env} (hv:∀ x,VR w O μ n (ev env x) (a.eval x)) {z:List AV} (hz:zeroO P e=some z)
  (hl:len<=1000) (hzl:z.length<=1000) {es:List (List AV)} (hf:fillE z.length env parts.toList (List.replicate len z)=some es) (hk:K (.ms n 0 len) (updH h n (.cells z.length e es)) (n+1)):OpR P o a w O μ n K:=by
 obtain ⟨c',g1,g2,g3⟩:=khX ho he hv hz hl hzl hf
 obtain ⟨hev,hh⟩:=kgU hr e c' z.length es g2.2
 exact ⟨.slice (some ⟨w.heap.size,0,none⟩) len len,_,_,_,_,_,.inl g1,hk,hh,VR.ms_new w O μ n c' e z.length len (by rw [g2.1,g3]) (by unfold maxLen; omega),hev⟩
theorem knd (hr:HR w O μ h n) (o:Obj):Evo w μ n (w.alloc o) μ n/\HR (w.alloc o) O μ h n:=by
 have he:Evo w μ n (w.alloc o) μ n:=⟨rfl,rfl,rfl,by simp,jah _,fun b hb _=>kdo w o b hb,fun b c T f hc=>⟨c,by rw [kdo w o b (jak.1 hc).1]; exact hc,rfl⟩,fun _ _=>.inl rfl,
  fun id b k e hn=>absurd (hr.scope id b k e).1 (by omega)⟩
 refine ⟨he,fun b h=>by have:=hr.olt b h; simp; omega,fun id b k e=>by have:=hr.scope id b k e; simp; omega,hr.inj,hr.notO,fun id B hB=>?_⟩
 exact (hr.blk id B hB).evo rfl (fun b k e=>kdo w o b (hr.scope id b k e).2) he
theorem kpT {T e:TypeId} {len:Nat} {parts:Array (Nat×Operand)} (ho:o.op = .buildSlice T len parts) (hr:HR w O μ h n) (he:elemO P T=some e) {env:Env} (hv:∀ x,VR w O μ n (ev env x) (a.eval x)) {z:List AV} (hz:zeroO P e=some z)
  (hl:len<=1000) (hzl:z.length<=1000) {es:List (List AV)} (hf:fillE z.length env parts.toList (List.replicate len z)=some es) (hk:K (.sl es) h n):OpR P o a w O μ n K:=by
 obtain ⟨c',g1,g2,g3⟩:=khX ho he hv hz hl hzl hf
 obtain ⟨hev,hh⟩:=knd hr (.cells c' e)
 refine ⟨.slice (some ⟨w.heap.size,0,none⟩) len len,_,_,_,_,_,.inl g1,hk,hh,?_,hev⟩
 rw [<-g3]
 refine .sl es w.heap.size 0 es.length z.length (fun i j=>((c'[i*z.length+j]?).getD undef)) (jah _) (by unfold maxLen; omega) (fun i e hi hne hA=>?_) (fun i e hi=>(g2.2 i e hi).1) (fun i e hi j x hj=>?_) (fun i e hi j x hj=>((g2.2 i e hi).2 j x hj).1) (fun i e hi j x hj=>?_)
 ·rcases hA with hA | ⟨id,k,hA⟩
  ·exact absurd (hr.olt _ hA) (by omega)
  ·exact absurd (hr.scope id _ k hA).2 (by omega)
 ·obtain ⟨_,u,h2,_⟩:=(g2.2 i e hi).2 j x hj
  exact cell_heap.2 ⟨c',_,_,kbn w _,by rw [jcb,h2]; rfl⟩
 ·obtain ⟨_,u,h2,h3⟩:=(g2.2 i e hi).2 j x hj
  rw [h2]; exact h3.evo hev
theorem kqw {T e:TypeId} {parts:Array (Nat×Operand)} (ho:o.op = .buildSlice T 0 parts) (hr:HR w O μ h n) (he:elemO P T=some e) {env:Env} (hv:∀ x,VR w O μ n (ev env x) (a.eval x)) {z:List AV} (hz:zeroO P e=some z)
  (hzl:z.length<=1000) {es:List (List AV)} (hf:fillE z.length env parts.toList (List.replicate 0 z)=some es) (hk:K .e0 h n):OpR P o a w O μ n K:=by
 obtain ⟨c',g1,g2,g3⟩:=khX ho he hv hz (by omega) hzl hf
 obtain ⟨hev,hh⟩:=knd hr (.cells c' e)
 exact ⟨_,_,_,_,_,_,.inl g1,hk,hh,.e0 _,hev⟩
end
def ktD (b:UInt8):List AV:=[.sc (.int .u8 b.toNat)]
def srcA (h:AH) (k:Nat):AV->Option (List (List AV))
 | .sl es=>if es.all (fun e=>e.length==k) then some es else none
 | .ms id off len=>match h id with
  | some (.cells k' _ es)=>if k'=k/\off+len<=es.length then some ((es.drop off).take len) else none
  | _=>none
 | .e0=>some []
 | .sc (.slice none 0 0)=>some []
 | .sc (.string s)=>if k=1 then some (s.data.toList.map ktD) else none
 | _=>none
section
variable {P:Program} {o:Oper} {a:Act} {w:World} {O:Nat->Prop} {μ:Mu} {h:AH} {n:Nat} {K:K3}
structure Src (P:Program) (w:World) (O:Nat->Prop) (μ:Mu) (n k:Nat) (u:Value) (xs:List (List AV)) (vals:List Value):Prop where
 len:∀ w',(Builtin.lenOf u).run P w' = .ok xs.length w'
 cells:∀ w',w'.heap=w.heap->∀ q,q<=xs.length->(Builtin.firstCells k q u).run P w' = .ok (vals.take (q*k)).toArray w'
 size:vals.length=xs.length*k
 one:∀ v∈vals,v.oneCell'=true
 rel:∀ (i:Nat) (e:List AV),xs[i]?=some e->e.length=k/\∀ (j:Nat) (c:AV),e[j]?=some c->c.one=true/\∃ u,vals[i*k+j]?=some u/\VR w O μ n c u
theorem Src.nil (u:Value) (hu:∃ p c,u = .slice p 0 c) (k:Nat):Src P w O μ n k u [] []:=by
 obtain ⟨p,c,rfl⟩:=hu
 refine ⟨fun w'=>rfl,fun w' _ q hq=>?_,by simp,fun v hv=>by simp at hv,fun i e hi=>by simp at hi⟩
 simp at hq; subst hq
 cases p with
 | none=>simp [Builtin.firstCells]
 | some p=>simp [Builtin.firstCells,loadCells,loadCellsFrom]
theorem Src.of_reads {b off k cap:Nat} {xs:List (List AV)} (hr:xs≠[]->ReadsEs w O μ n b off k xs):∃ vals,Src P w O μ n k (.slice (some ⟨b,off,none⟩) xs.length cap) xs vals:=by
 by_cases hne:xs=[]
 ·subst hne; exact ⟨[],Src.nil _ ⟨_,_,rfl⟩ k⟩
 ·obtain ⟨vals,h1,h2,h3,h4⟩:=(hr hne).vals
  refine ⟨vals,fun w'=>rfl,fun w' hw q hq=>?_,h1,h3,h4⟩
  simp only [Builtin.firstCells]
  refine keA (fun j v hj=>?_) (by
   rw [jbh,h1]
   have:q*k<=xs.length*k:=jbt k hq
   omega)
  rw [jbn] at hj
  split at hj
  ·rw [kkc (w:=w) (by rw [hw])]; exact h2 j v hj
  ·cases hj
theorem kqa (hr:HR w O μ h n) {x:AV} {u:Value} (hv:VR w O μ n x u) {k:Nat} {xs:List (List AV)} (hs:srcA h k x=some xs):∃ vals,Src P w O μ n k u xs vals:=by
 unfold srcA at hs
 split at hs
 ·rename_i es
  split at hs
  ·rename_i hall
   cases hs
   cases hv with
   | slnil=>exact ⟨[],Src.nil _ ⟨_,_,rfl⟩ k⟩
   | sl _ b off cap k' us hcap hmax hA hkk hc h1 hr'=>
    refine Src.of_reads fun hne=>?_
    have hke:k'=k:=by
     cases xs with
     | nil=>exact absurd rfl hne
     | cons e xs=>
      have e1:=hkk 0 e rfl
      simp only [jdy,jac,beq_iff_eq] at hall
      rw [<-e1,hall.1]
    subst hke
    exact fun i e hi=>⟨hkk i e hi,fun j c hj=>⟨h1 i e hi j c hj,us i j,hc i e hi j c hj,hr' i e hi j c hj⟩⟩
  ·cases hs
 ·rename_i id off len
  split at hs
  ·rename_i k' T es hB
   split at hs
   ·rename_i hcond
    cases hs
    obtain ⟨rfl,hle⟩:=hcond
    obtain ⟨b,c,oo,cap,g1,g2,rfl,g3,g4,g5,g6,g7⟩:=kii hr hB hv
    have hlen:((es.drop off).take len).length=len:=by simp; omega
    obtain ⟨b',c',f1,f2,f3⟩:=hr.own_cells hB
    rw [g1] at f1; cases f1
    have:=Src.of_reads (P:=P) (w:=w) (O:=O) (μ:=μ) (n:=n) (b:=b) (off:=oo) (k:=k') (cap:=cap) (xs:=(es.drop off).take len) (fun hne i e hi=>by
     rw [jbn] at hi
     split at hi
     ·rename_i hlt
      rw [jaq] at hi
      obtain ⟨q1,q2⟩:=f3 _ e hi
      refine ⟨q1,?_⟩
      rw [g6 (by omega),<-jby]
      exact q2
     ·cases hi)
    rw [hlen] at this
    exact this
   ·cases hs
  ·cases hs
 ·cases hs
  cases hv with
  | e0 p=>exact ⟨[],Src.nil _ ⟨p,_,rfl⟩ k⟩
 ·cases hs
  rw [hv.sc_inv]
  exact ⟨[],Src.nil _ ⟨none,_,rfl⟩ k⟩
 ·rename_i s
  split at hs
  ·rename_i hk1
   cases hs
   subst hk1
   rw [hv.sc_inv]
   refine ⟨s.data.toList.map fun b=>.int .u8 b.toNat,fun w'=>by simp [Builtin.lenOf],fun w' _ q hq=>?_,by simp,fun v hv=>?_,fun i e hi=>?_⟩
   ·simp only [Builtin.firstCells,Nat.mul_one]
    simp only [Sem.run_pure]
    congr 1
    apply Array.ext'
    simp only [Array.toList_map]
    simp only [jar,jci] at hq
    simp
   ·simp only [jay] at hv; obtain ⟨b,_,rfl⟩:=hv; rfl
   ·simp only [jaw,jab] at hi
    obtain ⟨b,hb,rfl⟩:=hi
    refine ⟨rfl,fun j c hj=>?_⟩
    cases j with
    | zero=>
     simp [ktD] at hj; subst hj
     exact ⟨rfl,.int .u8 b.toNat,by simpa using ⟨b,by simpa using hb,rfl⟩,.sc _ rfl⟩
    | succ j=>simp [ktD] at hj
  ·cases hs
 ·cases hs
end
section
variable {P:Program} {o:Oper} {a:Act} {w:World} {O:Nat->Prop} {μ:Mu} {h:AH} {n:Nat} {K:K3}
theorem ksr (P:Program) {e:TypeId} {i:TypeInfo} {zv:Value} (hi:P.info? e=some i) (hz:i.zero=some zv) (w:World):(zeroValue e).run P w = .ok zv w:=by
 simp [zeroValue,typeInfo,hi,hz]
theorem koO {T T2 e:TypeId} {i:TypeInfo} {zv:Value} (hT:P.underlying T=some (.slice e)) {d2:TypeDesc} (hT2:P.underlying T2=some d2) (hn2:(∃ e2,d2 = .slice e2)\/d2 = .string) (hi:P.info? e=some i) (hz:i.zero=some zv)
  {k:Nat} (hk:P.cellsOf e=k) {base:Option Addr} {len cap m:Nat} {vold vnew:List Value} {x:Value} (hlen:∀ w',(Builtin.lenOf x).run P w' = .ok m w') (hnew:∀ w',w'.heap=w.heap->(Builtin.firstCells k m x).run P w' = .ok vnew.toArray w')
  (hold:∀ w',w'.heap=w.heap->(Builtin.firstCells k len (.slice base len cap)).run P w' = .ok vold.toArray w') (hneed:cap<len+m) (hsmall:len+m<=1048576) (hb:i.bytes<=1024) (ty:TypeId) :
  ∃ newCap rest,len+m<=newCap/\newCap<=maxLen/\rest.length=(newCap-(len+m))*zv.cells.size/\
   (Builtin.append_ #[T,T2] ty #[.slice base len cap,x]).run P w = .ok (.slice (some ⟨w.heap.size,0,none⟩) (len+m) newCap) (w.drew.alloc (.cells (vold++vnew++rest).toArray e)):=by
 have hcap:=grownCap_ge w (len+m) cap e
 have hcap2:=grownCap_le_maxLen w (len+m) cap e (by unfold maxLen; omega)
 refine ⟨grownCap w (len+m) cap e,(Builtin.zeroCells zv.cells (grownCap w (len+m) cap e-(len+m))).toList,hcap,hcap2,by simp [Builtin.zeroCells],?_⟩
 have hnext:¬ Builtin.nextslicecap (len+m) cap*i.bytes>2 ^ 48:=by
  have h1:Builtin.nextslicecap (len+m) cap<=4*(len+m)+1024:=by
   unfold Builtin.nextslicecap
   split
   ·omega
   ·split
    ·omega
    ·rename_i h1 h2
     have:∀ r c,c<len+m->Builtin.growBy (len+m) r c<=2*(len+m)+768:=by
      intro r
      induction r with
      | zero=>intro c hc; simp only [Builtin.growBy]; omega
      | succ r ih=>
       intro c hc
       simp only [Builtin.growBy]
       rw [if_neg (by omega)]
       rcases jdh (c+(c+768) / 4) (len+m) with h | h
       ·exact ih _ h
       ·cases r with
        | zero=>simp only [Builtin.growBy]; omega
        | succ r=>simp only [Builtin.growBy]; rw [if_pos (by omega)]; omega
     have:=this 4 cap hneed
     omega
  have:Builtin.nextslicecap (len+m) cap*i.bytes<=(4*1048576+1024)*1024:=Nat.mul_le_mul (by omega) hb
  omega
 have hmax:¬ (((len+m:Nat):Int)>IntKind.i64.max/\((false:Bool)=true\/i.bytes=0)):=by
  simp [IntKind.max,IntKind.signed,IntKind.bits]; omega
 have hforce:(Question.appendCap (len+m) cap e).forced=false:=rfl
 have hnew':=hnew w.drew rfl
 have hold':=hold w.drew rfl
 have hzv:=ksr P hi hz w.drew
 rcases hn2 with ⟨e2,rfl⟩ | rfl
 all_goals
  simp only [Builtin.append_,jbv,jcu,jbz,pure_bind,Sem.run_bind,run_underlying hT,run_underlying hT2,Result.andThen_ok,kaC hi,hk,jaj,if_false,hlen]
  rw [if_neg (by omega)]
  simp only [Sem.run_bind,typeInfo,run_program,Result.andThen_ok,hi,Sem.run_pure]
  rw [if_neg (by simpa using hmax)]
  simp only [Sem.run_bind,run_program,Result.andThen_ok,hi,Sem.run_pure]
  rw [if_neg hnext]
  simp only [Sem.run_bind,run_choose,hforce,jaj,if_false,Result.andThen_ok,run_program,hi,Sem.run_pure,run_askRoom,World.drew_eq,hold',hnew',hzv,jds,if_true,newRow,run_newObj]
  simp only [grownCap]
  congr 2
  show w.drew.heap.push _=w.drew.heap.push _
  congr 2
  apply Array.ext'
  simp
theorem kor {T T2 e:TypeId} {i:TypeInfo} (hT:P.underlying T=some (.slice e)) {d2:TypeDesc} (hT2:P.underlying T2=some d2) (hn2:(∃ e2,d2 = .slice e2)\/d2 = .string) (hi:P.info? e=some i)
  {k:Nat} (hk:P.cellsOf e=k) {base:Option Addr} {len cap m:Nat} {vnew:List Value} {x:Value} (hlen:∀ w',(Builtin.lenOf x).run P w' = .ok m w') (hnew:(Builtin.firstCells k m x).run P w = .ok vnew.toArray w)
  {w':World} (hst:∀ ad,base=some ad->(storeCells (ad.add (len*k)) vnew 0).run P w = .ok () w') (hbn:base=none->w'=w) (hneed:len+m<=cap) (ty:TypeId) :
  (Builtin.append_ #[T,T2] ty #[.slice base len cap,x]).run P w = .ok (.slice base (len+m) cap) w':=by
 rcases hn2 with ⟨e2,rfl⟩ | rfl
 all_goals
  simp only [Builtin.append_,jbv,jcu,jbz,pure_bind,Sem.run_bind,run_underlying hT,run_underlying hT2,Result.andThen_ok,kaC hi,hk,jaj,if_false,hlen]
  rw [if_pos hneed]
  simp only [Sem.run_bind,jds,if_true,hnew,Result.andThen_ok]
  cases base with
  | none=>rw [hbn rfl]; rfl
  | some ad=>simp only [Sem.run_bind,hst ad rfl,Result.andThen_ok,Sem.run_pure]
theorem HR.adopt {w w':World} (hr:HR w O μ h n) {id b k:Nat} (hm:μ id=some (b,k)) (B:ABlk) (hos:w'.os=w.os) (htape:w'.tape=w.tape) (hout:w'.output=w.output) (hsz:w'.heap.size=w.heap.size)
  (hkeep:∀ i,i≠b->w'.heap[i]?=w.heap[i]?) (hrow:∀ c T f,w.heap[b]?=some (.cells c T f)->∃ c',w'.heap[b]?=some (.cells c' T f)/\c'.size=c.size)
  (hB:Evo w μ n w' (updM (delM μ id) n (b,k)) (n+1)->BlkAt w' O (updM (delM μ id) n (b,k)) (n+1) n B) :
  Evo w μ n w' (updM (delM μ id) n (b,k)) (n+1)/\HR w' O (updM (delM μ id) n (b,k)) (updH (delH h id) n B) (n+1):=by
 have hidn:=(hr.scope id b k hm).1
 have hmu:∀ i b' k',updM (delM μ id) n (b,k) i=some (b',k')->(i=n/\b'=b/\k'=k)\/(i≠n/\i≠id/\μ i=some (b',k')):=by
  intro i b' k' e
  unfold updM delM at e
  split at e
  ·cases e; exact .inl ⟨by assumption,rfl,rfl⟩
  ·split at e
   ·cases e
   ·exact .inr ⟨by assumption,by assumption,e⟩
 have he:Evo w μ n w' (updM (delM μ id) n (b,k)) (n+1):=by
  refine ⟨hos,htape,hout,by omega,by omega,fun i hi hn=>hkeep i (by rintro rfl; exact hn id k hm),fun i c T f hb=>?_,fun i hi=>?_,fun i b' k' e hi=>?_⟩
  ·by_cases hib:i=b
   ·subst hib; exact hrow c T f hb
   ·exact ⟨c,by rw [hkeep i hib]; exact hb,rfl⟩
  ·unfold updM delM
   rw [if_neg (by omega)]
   split
   ·exact .inr rfl
   ·exact .inl rfl
  ·rcases hmu i b' k' e with ⟨_,rfl,_⟩ | ⟨_,_,e'⟩
   ·exact .inr ⟨id,k,hm⟩
   ·exact .inr ⟨i,k',e'⟩
 refine ⟨he,fun b hb=>by rw [hsz]; exact hr.olt b hb,fun i b' k' e=>?_,fun i i' b' k1 k2 e1 e2=>?_,fun i b' k' e=>?_,fun i B' hB'=>?_⟩
 ·rcases hmu i b' k' e with ⟨rfl,rfl,_⟩ | ⟨_,_,e'⟩
  ·have:=hr.scope id _ k hm; omega
  ·have:=hr.scope i b' k' e'; omega
 ·rcases hmu i b' k1 e1 with ⟨rfl,rfl,_⟩ | ⟨a1,a2,e1'⟩
  ·rcases hmu i' _ k2 e2 with ⟨rfl,_,_⟩ | ⟨a3,a4,e2'⟩
   ·rfl
   ·exact absurd (hr.inj _ _ _ _ _ e2' hm) a4
  ·rcases hmu i' _ k2 e2 with ⟨rfl,rfl,_⟩ | ⟨a3,a4,e2'⟩
   ·exact absurd (hr.inj _ _ _ _ _ e1' hm) a2
   ·exact hr.inj _ _ _ _ _ e1' e2'
 ·rcases hmu i b' k' e with ⟨rfl,rfl,_⟩ | ⟨_,_,e'⟩
  ·exact hr.notO id _ k hm
  ·exact hr.notO i b' k' e'
 ·unfold updH delH at hB'
  split at hB'
  ·cases hB'; subst_vars; exact hB he
  ·rename_i hne
   split at hB'
   ·cases hB'
   ·rename_i hne2
    refine (hr.blk i B' hB').evo ?_ ?_ he
    ·unfold updM delM; rw [if_neg hne,if_neg hne2]
    ·intro b' k' e
     refine hkeep b' ?_
     rintro rfl
     exact hne2 (hr.inj _ _ _ _ _ e hm)
end
def klv (P:Program) (T:TypeId):Bool:=
 match P.underlying T with
 | some (.slice _) | some .string=>true
 | _=>false
def kyK:AV->Bool
 | .e0=>true
 | .sc (.slice none 0 0)=>true
 | _=>false
def kby (P:Program) (h:AH) (n:Nat) (T T2:TypeId) (s x:AV) (K:K3):Prop:=
 klv P T2=true/\
 match elemO P T with
 | none=>False
 | some e=>match zeroO P e with
  | none=>False
  | some z=>z≠[]/\P.bytesOf e<=1024/\match srcA h z.length x with
   | none=>False
   | some xs=>match s with
    | .e0=>xs.length<=1048576/\(xs=[]->K .e0 h n)/\(xs≠[]->K (.ms n 0 xs.length) (updH h n (.cells z.length e xs)) (n+1))
    | .sc (.slice none 0 0)=>xs.length<=1048576/\(xs=[]->K (.sc (.slice none 0 0)) h n)/\(xs≠[]->K (.ms n 0 xs.length) (updH h n (.cells z.length e xs)) (n+1))
    | .ms id 0 len=>match h id with
     | some (.cells k e' es)=>k=z.length/\e'=e/\es.length=len/\len+xs.length<=1048576/\K (.ms n 0 (len+xs.length)) (updH (delH h id) n (.cells k e (es++xs))) (n+1)
     | _=>False
    | _=>False
def copyK (P:Program) (h:AH) (n:Nat) (T:TypeId) (d x:AV) (K:K3):Prop:=
 match elemO P T with
 | none=>False
 | some e=>match zeroO P e with
  | none=>False
  | some z=>z≠[]/\match srcA h z.length x with
   | none=>False
   | some xs=>match d with
    | .sc (.slice none 0 0)=>K (.sc (.int .i64 0)) h n
    | .ms id off len=>match h id with
     | some (.cells k e' es)=>k=z.length/\off+len<=es.length/\K (.sc (.int .i64 (min xs.length len:Nat))) (updH h id (.cells k e' (es.take off++xs.take (min xs.length len)++es.drop (off+min xs.length len)))) n
     | _=>False
    | _=>False
section
variable {P:Program} {o:Oper} {a:Act} {w:World} {O:Nat->Prop} {μ:Mu} {h:AH} {n:Nat} {K:K3}
theorem kuW {T:TypeId} (hp:klv P T=true):∃ d,P.underlying T=some d/\((∃ e,d = .slice e)\/d = .string):=by
 unfold klv at hp
 split at hp
 ·rename_i e hd; exact ⟨_,hd,.inl ⟨e,rfl⟩⟩
 ·rename_i hd; exact ⟨_,hd,.inr rfl⟩
 ·cases hp
theorem EsRel.app {k:Nat} {c:Array Value} {es xs:List (List AV)} {vo vn rest:List Value} (hl:vo.length=es.length*k) (ho:∀ (i:Nat) (e:List AV),es[i]?=some e->e.length=k/\∀ (j:Nat) (x:AV),e[j]?=some x->x.one=true/\∃ u,vo[i*k+j]?=some u/\VR w O μ n x u)
  (hln:vn.length=xs.length*k) (hn:∀ (i:Nat) (e:List AV),xs[i]?=some e->e.length=k/\∀ (j:Nat) (x:AV),e[j]?=some x->x.one=true/\∃ u,vn[i*k+j]?=some u/\VR w O μ n x u) :
  ∀ (i:Nat) (e:List AV),(es++xs)[i]?=some e->e.length=k/\∀ (j:Nat) (x:AV),e[j]?=some x->x.one=true/\∃ u,((vo++vn++rest).toArray)[i*k+j]?=some u/\VR w O μ n x u:=by
 intro i e hi
 rw [jbm] at hi
 split at hi
 ·rename_i hlt
  refine ⟨(ho i e hi).1,fun j x hj=>?_⟩
  obtain ⟨h1,u,h2,h3⟩:=(ho i e hi).2 j x hj
  refine ⟨h1,u,?_,h3⟩
  have:=(jad.1 h2).1
  simp only [jbv]
  rw [jau,jbl this]
  exact h2
 ·rename_i hge
  refine ⟨(hn _ e hi).1,fun j x hj=>?_⟩
  obtain ⟨h1,u,h2,h3⟩:=(hn _ e hi).2 j x hj
  refine ⟨h1,u,?_,h3⟩
  have hlt:=(jad.1 h2).1
  have hmul:(i-es.length)*k+es.length*k=i*k:=by rw [<-jby]; congr 1; omega
  simp only [jbv]
  rw [jau,jcf (by omega),jbl (by omega),hl,show i*k+j-es.length*k=(i-es.length)*k+j by omega]
  exact h2
theorem kvW {T T2:TypeId} {s x:Operand} (ho:o.op = .call { callee:=.builtin .append,args:=#[s,x],argTypes:=#[T,T2] }) (hr:HR w O μ h n) {vs vx:AV} (hs:VR w O μ n vs (a.eval s)) (hx:VR w O μ n vx (a.eval x))
  (hk:kby P h n T T2 vs vx K):OpR P o a w O μ n K:=by
 obtain ⟨hp,hk⟩:=hk
 obtain ⟨d2,hT2,hn2⟩:=kuW hp
 split at hk
 ·exact hk.elim
 rename_i e he
 split at hk
 ·exact hk.elim
 rename_i z hz
 obtain ⟨hne,hbytes,hk⟩:=hk
 split at hk
 ·exact hk.elim
 rename_i xs hxs
 have hT:=kca he
 obtain ⟨i,zv,hi,hzv,hzz,hz1,hsz,hc⟩:=khl hz
 have hzl:zv.cells.size=z.length:=by rw [hzz]; simp
 have hzp:0<z.length:=by cases z with | nil=>exact absurd rfl hne | cons _ _=>simp
 have hbi:i.bytes<=1024:=(by have:P.bytesOf e=i.bytes:=(by simp [Program.bytesOf,hi]); omega)
 obtain ⟨vals,src⟩:=kqa (P:=P) hr hx hxs
 have full:∀ w',w'.heap=w.heap->(Builtin.firstCells z.length xs.length (a.eval x)).run P w' = .ok vals.toArray w':=fun w' hw=>by
  have:=src.cells w' hw xs.length (jah _)
  rwa [<-src.size,List.take_length] at this
 have fin:∀ {u:Value} {w':World} {μ':Mu} {v:AV} {h':AH} {n':Nat},(Builtin.append_ #[T,T2] o.type #[a.eval s,a.eval x]).run P w = .ok u w'->K v h' n'->HR w' O μ' h' n'->VR w' O μ' n' v u->Evo w μ n w' μ' n'->OpR P o a w O μ n K:=by
  intro u w' μ' v h' n' f1 f2 f3 f4 f5
  refine ⟨u,w',μ',v,h',n',.inl ?_,f2,f3,f4,f5⟩
  rw [kdd ho]
  simp only [List.map_toArray,jap,List.map_nil]
  exact kan f1
 have emp:∀ {p:Option Addr},a.eval s = .slice p 0 0->xs.length<=1048576->(xs=[]->K vs h n)->(xs≠[]->K (.ms n 0 xs.length) (updH h n (.cells z.length e xs)) (n+1))->OpR P o a w O μ n K:=by
  intro p hu hsm k1 k2
  by_cases hxe:xs=[]
  ·have hfull:=full w rfl
   subst hxe
   have hv0:vals=[]:=jbp (by rw [src.size]; simp)
   subst hv0
   refine fin (u:=.slice p 0 0) (w':=w) ?_ (k1 rfl) hr (hu ▸ hs) hr.refl
   rw [hu]
   exact kor (P:=P) (w':=w) hT hT2 hn2 hi hc (base:=p) (len:=0) (cap:=0) (m:=0) src.len hfull (fun ad _=>by simp [storeCells]) (fun _=>rfl) (by omega) o.type
  ·have hxl:0<xs.length:=by cases xs with | nil=>exact absurd rfl hxe | cons _ _=>simp
   obtain ⟨newCap,rest,g1,g2,g3,g4⟩:=koO (P:=P) (w:=w) hT hT2 hn2 hi hzv hc (base:=p) (len:=0) (cap:=0) (vold:=[]) src.len full (fun w' hw=>by
    cases p with
    | none=>simp [Builtin.firstCells]
    | some p=>simp [Builtin.firstCells,loadCells,loadCellsFrom]) (by omega) (by omega) hbi o.type
   obtain ⟨e1,hr1⟩:=hr.drew
   have hes:∀ (i:Nat) (e:List AV),xs[i]?=some e->e.length=z.length/\∀ (j:Nat) (x:AV),e[j]?=some x->x.one=true/\∃ u,(([]++vals++rest:List Value).toArray)[i*z.length+j]?=some u/\VR w.drew O μ n x u:=by
    intro i e' hi'
    obtain ⟨q1,q2⟩:=src.rel i e' hi'
    refine ⟨q1,fun j y hj=>?_⟩
    obtain ⟨q3,u,q4,q5⟩:=q2 j y hj
    refine ⟨q3,u,?_,q5.evo e1⟩
    have:=(jad.1 q4).1
    simp only [jba,jbv]
    rw [jbl this]; exact q4
   obtain ⟨e2,hr2⟩:=kgU hr1 e ([]++vals++rest).toArray z.length xs hes
   refine fin (u:=.slice (some ⟨w.heap.size,0,none⟩) (0+xs.length) newCap) (by rw [hu]; exact g4) (k2 hxe) hr2 ?_ (e1.trans e2)
   refine .ms n 0 _ _ (by omega) rfl fun b k3 e3=>?_
   simp [updM] at e3
   obtain ⟨rfl,rfl⟩:=e3
   refine ⟨0,newCap,_,e,by simp,by omega,g2,fun _=>by simp,kbn w.drew _,?_⟩
   simp only [jba,List.size_toArray,jbg,src.size,g3,hzl]
   rw [<-jby]; congr 1; omega
 split at hk
 ·have:∃ p,a.eval s = .slice p 0 0:=by
   generalize a.eval s=u at hs
   cases hs with
   | e0 p=>exact ⟨p,rfl⟩
  obtain ⟨p,hp⟩:=this
  exact emp hp hk.1 hk.2.1 hk.2.2
 ·exact emp (p:=none) hs.sc_inv hk.1 hk.2.1 hk.2.2
 ·rename_i id len
  split at hk
  ·rename_i k e' es hB0
   obtain ⟨hkz,hee,hesl,hsm,hk⟩:=hk
   have hB:h id=some (.cells z.length e es):=by rw [hB0,hkz,hee]
   rw [hkz] at hk
   obtain ⟨b,c,oo,cap,g1,g2,g3,g4,g5,g6,g7,g8⟩:=kii hr hB hs
   simp only [Nat.zero_mul,jcb] at g7 g8
   obtain ⟨b',c',f1,f2,f3⟩:=hr.blk id _ hB
   rw [g1] at f1; cases f1
   rw [g2] at f2; cases f2
   by_cases hfit:len+xs.length<=cap
   ·
    have hcs:(len+xs.length)*z.length<=c.size:=by rw [<-g8]; exact jbt _ hfit
    have hst:∃ w',(∀ ad,(some ⟨b,oo,none⟩:Option Addr)=some ad->(storeCells (ad.add (len*z.length)) vals 0).run P w = .ok () w')/\
      w'=w.setRow b (c.toList.take (len*z.length)++vals++c.toList.drop (len*z.length+vals.length)).toArray:=by
     refine ⟨_,fun ad had=>?_,rfl⟩
     cases had
     rw [khy]
     by_cases hcap:cap=0
     ·have h1:len=0:=by omega
      have h2:xs.length=0:=by omega
      have h3:vals=[]:=jbp (by rw [src.size,h2]; simp)
      subst h3
      simp [storeCells,h1,setRow_self w b c e (0,0) g2]
     ·rw [g7 hcap]
      have:=run_storeCells_at P b (0+len*z.length) e vals 0 c w g2 (by rw [src.size]; rw [jby] at hcs; omega) src.one
      simpa using this
    obtain ⟨w',hst,hw'⟩:=hst
    have hrun:=kor (P:=P) (w':=w') hT hT2 hn2 hi hc (base:=some ⟨b,oo,none⟩) (len:=len) (cap:=cap) src.len (full w rfl) hst (fun h=>by cases h) hfit o.type
    generalize hcn:(c.toList.take (len*z.length)++vals++c.toList.drop (len*z.length+vals.length)).toArray=cn at hw'
    have hcnsz:cn.size=c.size:=by
     rw [<-hcn]; simp [src.size]; rw [jby] at hcs; omega
    obtain ⟨ev1,hr1⟩:=hr.adopt (w':=w') g1 (.cells z.length e (es++xs)) (by rw [hw']; rfl) (by rw [hw']; rfl) (by rw [hw']; rfl) (by rw [hw']; simp) (fun i hi=>by rw [hw']; exact setRow_other w b i cn hi)
     (fun c0 T0 f0 h0=>by rw [g2] at h0; cases h0; exact ⟨cn,by rw [hw']; exact setRow_heap w b c cn e (0,0) g2,hcnsz⟩) (fun hev=>by
      refine ⟨b,cn,by simp [updM],by rw [hw']; exact setRow_heap w b c cn e (0,0) g2,?_⟩
      have happ:=EsRel.app (w:=w) (O:=O) (μ:=μ) (n:=n) (k:=z.length) (c:=cn) (es:=es) (xs:=xs) (vo:=c.toList.take (len*z.length)) (vn:=vals) (rest:=c.toList.drop (len*z.length+vals.length))
       (by rw [jbh,hesl]; simp; rw [jby] at hcs; omega) (fun q e' hq=>⟨(f3 q e' hq).1,fun j y hj=>by
        obtain ⟨q1,u,q2,q3⟩:=(f3 q e' hq).2 j y hj
        refine ⟨q1,u,?_,q3⟩
        have hq':=(jad.1 hq).1
        have hj':j<z.length:=by rw [<-(f3 q e' hq).1]; exact (jad.1 hj).1
        have:(q+1)*z.length<=es.length*z.length:=jbt _ hq'
        rw [jby] at this
        rw [jbn,if_pos (by rw [<-hesl]; omega)]
        simpa using q2⟩) src.size src.rel
      intro q e' hq
      obtain ⟨q1,q2⟩:=happ q e' hq
      refine ⟨q1,fun j y hj=>?_⟩
      obtain ⟨q3,u,q4,q5⟩:=q2 j y hj
      rw [hcn] at q4
      exact ⟨q3,u,q4,q5.evo hev⟩)
    refine fin (u:=.slice (some ⟨b,oo,none⟩) (len+xs.length) cap) (by rw [g3]; exact hrun) hk hr1 ?_ ev1
    refine .ms n 0 _ _ (by omega) rfl fun b2 k2 e2=>?_
    simp [updM] at e2
    obtain ⟨rfl,rfl⟩:=e2
    exact ⟨oo,cap,cn,e,rfl,hfit,g6,fun hc0=>by rw [g7 hc0]; simp,by rw [hw']; exact setRow_heap w b c cn e (0,0) g2,by simp [hcnsz,g8]⟩
   ·
    have hold:∀ w',w'.heap=w.heap->(Builtin.firstCells z.length len (.slice (some ⟨b,oo,none⟩) len cap)).run P w' = .ok (c.toList.take (len*z.length)).toArray w':=by
     intro w' hw
     simp only [Builtin.firstCells]
     have hlc:len*z.length<=c.size:=by rw [<-g8]; exact jbt _ g5
     refine keA (fun j v hj=>?_) (by rw [jbh]; simp; omega)
     rw [jbn] at hj
     split at hj
     ·rename_i hjl
      have hcap:cap≠0:=by
       intro h0
       have:len=0:=by omega
       subst this; simp at hjl
      rw [g7 hcap,jcb]
      exact cell_heap.2 ⟨c,e,(0,0),by rw [hw]; exact g2,by simpa using hj⟩
     ·cases hj
    obtain ⟨newCap,rest,q1,q2,q3,q4⟩:=koO (P:=P) (w:=w) hT hT2 hn2 hi hzv hc (base:=some ⟨b,oo,none⟩) (len:=len) (cap:=cap) src.len full hold (by omega) hsm hbi o.type
    obtain ⟨e0,hr0⟩:=hr.del id
    obtain ⟨e1,hr1⟩:=hr0.drew
    have hlc:len*z.length<=c.size:=by rw [<-g8]; exact jbt _ g5
    have happ:=EsRel.app (w:=w) (O:=O) (μ:=μ) (n:=n) (k:=z.length) (c:=#[]) (es:=es) (xs:=xs) (vo:=c.toList.take (len*z.length)) (vn:=vals) (rest:=rest)
       (by rw [jbh,hesl]; simp; omega) (fun q e' hq=>⟨(f3 q e' hq).1,fun j y hj=>by
        obtain ⟨q1,u,q2,q3⟩:=(f3 q e' hq).2 j y hj
        refine ⟨q1,u,?_,q3⟩
        have hq':=(jad.1 hq).1
        have hj':j<z.length:=by rw [<-(f3 q e' hq).1]; exact (jad.1 hj).1
        have:(q+1)*z.length<=es.length*z.length:=jbt _ hq'
        rw [jby] at this
        rw [jbn,if_pos (by rw [<-hesl]; omega)]
        simpa using q2⟩) src.size src.rel
    obtain ⟨e2,hr2⟩:=kgU hr1 e (c.toList.take (len*z.length)++vals++rest).toArray z.length (es++xs) (fun q e' hq=>⟨(happ q e' hq).1,fun j y hj=>by
     obtain ⟨p1,u,p2,p3⟩:=(happ q e' hq).2 j y hj
     exact ⟨p1,u,p2,p3.evo (e0.trans e1)⟩⟩)
    refine fin (u:=.slice (some ⟨w.heap.size,0,none⟩) (len+xs.length) newCap) (by rw [g3]; exact q4) hk hr2 ?_ ((e0.trans e1).trans e2)
    refine .ms n 0 _ _ (by omega) rfl fun b2 k2 e2=>?_
    simp [updM] at e2
    obtain ⟨rfl,rfl⟩:=e2
    refine ⟨0,newCap,_,e,rfl,q1,q2,fun _=>by simp,kbn w.drew _,?_⟩
    simp only [List.size_toArray,jbg,jbh,jci,src.size,q3,hzl,Nat.min_eq_left hlc]
    rw [<-jby,<-jby,jcb]; congr 1; omega
  ·exact hk.elim
 ·exact hk.elim
theorem kxV {T T2:TypeId} {d x:Operand} (ho:o.op = .call { callee:=.builtin .copy,args:=#[d,x],argTypes:=#[T,T2] }) (hr:HR w O μ h n) {vd vx:AV} (hd:VR w O μ n vd (a.eval d)) (hx:VR w O μ n vx (a.eval x))
  (hk:copyK P h n T vd vx K):OpR P o a w O μ n K:=by
 unfold copyK at hk
 split at hk
 ·exact hk.elim
 rename_i e he
 split at hk
 ·exact hk.elim
 rename_i z hz
 obtain ⟨hne,hk⟩:=hk
 split at hk
 ·exact hk.elim
 rename_i xs hxs
 have hT:=kca he
 obtain ⟨i,zv,hi,hzv,hzz,hz1,hsz,hc⟩:=khl hz
 have hzp:0<z.length:=by cases z with | nil=>exact absurd rfl hne | cons _ _=>simp
 obtain ⟨vals,src⟩:=kqa (P:=P) hr hx hxs
 have fin:∀ {u:Value} {w':World} {μ':Mu} {v:AV} {h':AH} {n':Nat},(Builtin.copy_ #[T,T2] o.type #[a.eval d,a.eval x]).run P w = .ok u w'->K v h' n'->HR w' O μ' h' n'->VR w' O μ' n' v u->Evo w μ n w' μ' n'->OpR P o a w O μ n K:=by
  intro u w' μ' v h' n' f1 f2 f3 f4 f5
  refine ⟨u,w',μ',v,h',n',.inl ?_,f2,f3,f4,f5⟩
  rw [kdd ho]
  simp only [List.map_toArray,jap,List.map_nil]
  exact kan f1
 have run:∀ {base:Option Addr} {len cap:Nat} {w':World},a.eval d = .slice base len cap->(∀ ad,base=some ad->(storeCells ad (vals.take (min xs.length len*z.length)) 0).run P w = .ok () w')->(base=none->w'=w)->
   (Builtin.copy_ #[T,T2] o.type #[a.eval d,a.eval x]).run P w = .ok (.int .i64 (min xs.length len:Nat)) w':=by
  intro base len cap w' hu hst hbn
  have hcells:=src.cells w rfl (min xs.length len) (Nat.min_le_left _ _)
  rw [hu]
  simp only [Builtin.copy_,jbv,jcu,jbz,pure_bind,Sem.run_bind,run_underlying hT,Result.andThen_ok,kaC hi,hc,src.len]
  rw [show Nat.min xs.length len=min xs.length len from rfl,hcells]
  simp only [Result.andThen_ok]
  cases base with
  | none=>rw [hbn rfl]; rfl
  | some ad=>simp only [Sem.run_bind,hst ad rfl,Result.andThen_ok,Sem.run_pure]; rfl
 split at hk
 ·
  refine fin (u:=.int .i64 ((min xs.length 0:Nat):Int)) (w':=w) (run (base:=none) (len:=0) (cap:=0) hd.sc_inv (fun ad h=>by cases h) fun _=>rfl) hk hr ?_ hr.refl
  rw [Nat.min_zero]
  exact .sc _ rfl
 ·rename_i id off len
  split at hk
  ·rename_i k e' es hB
   obtain ⟨hkz,hle,hk⟩:=hk
   rw [hkz] at hk hB
   obtain ⟨b,c,oo,cap,g1,g2,g3,g4,g5,g6,g7,g8⟩:=kii hr hB hd
   obtain ⟨b',c',f1,f2,f3⟩:=hr.blk id _ hB
   rw [g1] at f1; cases f1
   rw [g2] at f2; cases f2
   generalize hm:min xs.length len=m at *
   have hml:m<=len:=by rw [<-hm]; exact Nat.min_le_right _ _
   have hmx:m<=xs.length:=by rw [<-hm]; exact Nat.min_le_left _ _
   have hvl:(vals.take (m*z.length)).length=m*z.length:=by
    rw [jbh,src.size]
    exact Nat.min_eq_left (jbt _ hmx)
   have hfit:off*z.length+m*z.length<=c.size:=by
    rw [<-g8,<-jby]
    exact jbt _ (by omega)
   generalize hcn:(c.toList.take (off*z.length)++vals.take (m*z.length)++c.toList.drop (off*z.length+m*z.length)).toArray=cn
   have hcnsz:cn.size=c.size:=by
    rw [<-hcn]
    simp only [List.size_toArray,jbg,jbh,jdo,jci]
    rw [jbh] at hvl
    omega
   have hst:∀ ad,(some ⟨b,oo,none⟩:Option Addr)=some ad->(storeCells ad (vals.take (m*z.length)) 0).run P w = .ok () (w.setRow b cn):=fun ad had=>by
    cases had
    by_cases hm0:m=0
    ·subst hm0
     have:cn=c:=by rw [<-hcn]; simp
     rw [this,setRow_self w b c e' (0,0) g2]
     simp [storeCells]
    ·rw [g7 (by omega)]
     have:=run_storeCells_at P b (off*z.length) e' (vals.take (m*z.length)) 0 c w g2 (by rw [hvl]; omega) (fun v hv=>src.one v (jco hv))
     rw [hvl] at this
     rw [<-hcn]
     simpa using this
   obtain ⟨ev1,hr1⟩:=hr.set (w':=w.setRow b cn) id b z.length g1 (.cells z.length e' (es.take off++xs.take m++es.drop (off+m))) rfl rfl rfl (by simp) (fun q hq=>setRow_other w b q cn hq)
    (fun c0 T0 f0 h0=>by rw [g2] at h0; cases h0; exact ⟨cn,setRow_heap w b c cn e' (0,0) g2,hcnsz⟩) (fun hev=>by
     refine ⟨b,cn,g1,setRow_heap w b c cn e' (0,0) g2,fun q e1 hq=>?_⟩
     have hcell:∀ j,cn[j]?=if j<off*z.length then c[j]? else if j<off*z.length+m*z.length then vals[j-off*z.length]? else c[j]?:=fun j=>by
      rw [<-hcn]
      simp only [jbv,jau]
      rw [jbm]
      have l1:(c.toList.take (off*z.length)).length=off*z.length:=by rw [jbh]; exact Nat.min_eq_left (show off*z.length<=c.size from jcy (Nat.le_add_right _ _) hfit)
      rw [l1]
      split
      ·rw [jbn,if_pos (by assumption)]; simp
      ·rw [jbm,hvl]
       split
       ·rw [if_pos (by omega),jbn,if_pos (by omega)]
       ·rw [if_neg (by omega),jaq]
        simp only [jcl]
        congr 1; omega
     have mulb:∀ {q j:Nat},j<z.length->∀ t,(q<t↔q*z.length+j<t*z.length):=fun {q j} hj t=>by
      constructor
      ·intro h
       have:(q+1)*z.length<=t*z.length:=jbt _ h
       rw [jby] at this; omega
      ·intro h
       apply Nat.lt_of_not_le
       intro h2
       have:t*z.length<=q*z.length:=jbt _ h2
       omega
     have old:es[q]?=some e1->(q<off\/off+m<=q)->e1.length=z.length/\∀ (j:Nat) (y:AV),e1[j]?=some y->y.one=true/\∃ u,cn[q*z.length+j]?=some u/\VR (w.setRow b cn) O μ n y u:=fun h1 h2=>by
      refine ⟨(f3 q e1 h1).1,fun j y hj=>?_⟩
      obtain ⟨q1,u,q2,q3⟩:=(f3 q e1 h1).2 j y hj
      refine ⟨q1,u,?_,q3.evo hev⟩
      have hj':j<z.length:=by rw [<-(f3 q e1 h1).1]; exact (jad.1 hj).1
      rw [hcell]
      rcases h2 with h2 | h2
      ·rw [if_pos ((mulb hj' off).1 h2)]; exact q2
      ·have h5:¬ q*z.length+j<(off+m)*z.length:=fun h=>by have:=(mulb (q:=q) hj' (off+m)).2 h; omega
       rw [jby] at h5
       rw [if_neg (by omega),if_neg h5]; exact q2
     rw [jau,jbm] at hq
     have l1:(es.take off).length=off:=by rw [jbh]; omega
     rw [l1] at hq
     split at hq
     ·rename_i hlt
      rw [jbn,if_pos hlt] at hq
      exact old hq (.inl hlt)
     ·rename_i hge
      rw [jbm] at hq
      have l2:(xs.take m).length=m:=by rw [jbh]; omega
      rw [l2] at hq
      split at hq
      ·rename_i hlt
       rw [jbn,if_pos hlt] at hq
       obtain ⟨r1,r2⟩:=src.rel _ e1 hq
       refine ⟨r1,fun j y hj=>?_⟩
       obtain ⟨q1,u,q2,q3⟩:=r2 j y hj
       refine ⟨q1,u,?_,q3.evo hev⟩
       have hj':j<z.length:=by rw [<-r1]; exact (jad.1 hj).1
       have h3:¬ q*z.length+j<off*z.length:=fun h=>by have:=(mulb (q:=q) hj' off).2 h; omega
       have h4:=(mulb (q:=q) hj' (off+m)).1 (by omega)
       rw [jby] at h4
       rw [hcell,if_neg h3,if_pos h4,<-q2]
       have:(q-off)*z.length+off*z.length=q*z.length:=by rw [<-jby]; congr 1; omega
       congr 1; omega
      ·rename_i hge2
       rw [jaq] at hq
       have e3:off+m+(q-off-m)=q:=by omega
       rw [e3] at hq
       exact old hq (.inr (by omega)))
   refine fin (u:=.int .i64 (m:Nat)) (by rw [<-hm]; exact run g3 (by rw [hm]; exact hst) (fun h=>by cases h)) hk hr1 (.sc _ rfl) ev1
  ·exact hk.elim
 ·exact hk.elim
end
def voC (P:Program) (t:TypeId) (xs:List Value):Value:=
 match aggO P t with
 | some true=>.agg xs.toArray
 | _=>xs.headD undef
theorem kfu {P:Program} {w:World} {e:TypeId} {X:Array Value} {o:Nat} {ag:Bool} (ha:aggO P e=some ag) (hl:o+P.cellsOf e<=X.size) (h1:ag=false->P.cellsOf e=1):(part e X o).run P w = .ok (voC P e ((X.toList.drop o).take (P.cellsOf e))) w:=by
 obtain ⟨i,hi⟩:=kgT ha
 cases ag with
 | true=>
  simp only [part,Sem.run_bind,keo ha,Result.andThen_ok,if_true,kaC hi,Sem.run_pure,voC,ha]
  congr 1
  congr 1
  apply Array.ext'
  rw [Array.toList_extract]; simp [List.extract]
 | false=>
  have hs:=h1 rfl
  have ho:o<X.size:=by omega
  simp only [part,Sem.run_bind,keo ha,Result.andThen_ok,jaj,if_false,voC,ha,hs]
  have:X[o]?=some X[o]:=jas ho
  have h2:(X.toList.drop o).take 1=[X[o]]:=by
   rw [jdt (by simpa using ho)]; simp
  rw [h2]
  simp [this]
def Scal:Value->Prop
 | .bool _ | .int _ _ | .string _=>True
 | _=>False
def OkFs (P:Program) (rec_:TypeId->List Value->Prop):List Field->Nat->List Value->Prop
 | [],_,cs=>cs=[]
 | f::fs,o,cs=>∃ a b,cs=a++b/\f.name≠ "_"/\f.offset=o/\a.length=P.cellsOf f.type/\(∃ ag,aggO P f.type=some ag/\(ag=false->P.cellsOf f.type=1))/\rec_ f.type a/\OkFs P rec_ fs (o+P.cellsOf f.type) b
def OkC (P:Program):Nat->TypeId->List Value->Prop
 | 0,_,_=>False
 | d+1,t,cs=>match P.underlying t with
  | some .bool=>∃ b,cs=[.bool b]
  | some (.int k)=>∃ n,cs=[.int k n]
  | some .string=>∃ s,cs=[.string s]
  | some (.struct fs)=>P.stoodInHeld t=false/\OkFs P (OkC P d) fs.toList 0 cs
  | some (.array n e)=>(∃ ag,aggO P e=some ag/\(ag=false->P.cellsOf e=1))/\∃ css:List (List Value),css.length=n/\cs=css.flatten/\∀ c∈css,c.length=P.cellsOf e/\OkC P d e c
  | _=>False
section
variable {P:Program}
theorem OkFs.scal {rec_:TypeId->List Value->Prop} (hr:∀ t cs,rec_ t cs->∀ v∈cs,Scal v):∀ (fs:List Field) (o:Nat) (cs:List Value),OkFs P rec_ fs o cs->∀ v∈cs,Scal v
 | [],_,cs,h=>by simp only [OkFs] at h; subst h; simp
 | f::fs,o,cs,h=>by
  obtain ⟨a,b,rfl,_,_,_,_,h1,h2⟩:=h
  intro v hv
  rcases jaz.1 hv with hv | hv
  ·exact hr _ _ h1 v hv
  ·exact OkFs.scal hr fs _ b h2 v hv
theorem OkC.scal:∀ (d:Nat) (t:TypeId) (cs:List Value),OkC P d t cs->∀ v∈cs,Scal v
 | 0,_,_,h=>h.elim
 | d+1,t,cs,h=>by
  unfold OkC at h
  split at h
  ·obtain ⟨b,rfl⟩:=h; simp [Scal]
  ·obtain ⟨b,rfl⟩:=h; simp [Scal]
  ·obtain ⟨b,rfl⟩:=h; simp [Scal]
  ·exact OkFs.scal (fun t cs h=>OkC.scal d t cs h) _ _ _ h.2
  ·obtain ⟨_,css,_,rfl,h⟩:=h
   intro v hv
   obtain ⟨c,hc,hv⟩:=List.mem_flatten.1 hv
   exact OkC.scal d _ c (h c hc).2 v hv
  ·exact h.elim
theorem kdr {α:Type} (p a b:List α) {o k:Nat} (hp:p.length=o) (ha:a.length=k):((p++(a++b)).drop o).take k=a:=by
 rw [<-hp,List.drop_left,<-ha,List.take_left]
def EqC (P:Program) (d:Nat):Prop:=∀ t xs ys,OkC P d t xs->OkC P d t ys->xs.length=ys.length/\∀ D w,∃ r:Bool,(Op.equalIn (D+d) t (voC P t xs) (voC P t ys)).run P w = .ok r w/\(r=true↔xs=ys)
theorem eqFs {d:Nat} (ih:EqC P d) {X Y:Array Value}:∀ (fs:List Field) (o:Nat) (px py xs ys:List Value),OkFs P (OkC P d) fs o xs->OkFs P (OkC P d) fs o ys->X.toList=px++xs->Y.toList=py++ys->px.length=o->py.length=o->
  xs.length=ys.length/\∀ D w,∃ r:Bool,(Op.eqFields (D+d) X Y fs).run P w = .ok r w/\(r=true↔xs=ys)
 | [],o,px,py,xs,ys,hx,hy,_,_,_,_=>by
  simp only [OkFs] at hx hy
  subst hx; subst hy
  exact ⟨rfl,fun D w=>⟨true,by simp [Op.eqFields],by simp⟩⟩
 | f::fs,o,px,py,xs,ys,hx,hy,eX,eY,lx,ly=>by
  obtain ⟨a,b,rfl,hn,ho,la,⟨ag,hag,h1⟩,ra,rb⟩:=hx
  obtain ⟨a',b',rfl,_,_,la',_,ra',rb'⟩:=hy
  obtain ⟨hl,hrun⟩:=eqFs ih fs (o+P.cellsOf f.type) (px++a) (py++a') b b' rb rb' (by rw [eX,jau]) (by rw [eY,jau]) (by simp [lx,la]) (by simp [ly,la'])
  obtain ⟨_,h2⟩:=ih f.type a a' ra ra'
  refine ⟨by simp [hl,la,la'],fun D w=>?_⟩
  obtain ⟨r1,g1,g2⟩:=h2 D w
  obtain ⟨r2,g3,g4⟩:=hrun D w
  have sX:f.offset+P.cellsOf f.type<=X.size:=by rw [<-jci,eX,ho]; simp; omega
  have sY:f.offset+P.cellsOf f.type<=Y.size:=by rw [<-jci,eY,ho]; simp; omega
  have q1:=kfu (w:=w) hag sX h1
  have q2:=kfu (w:=w) hag sY h1
  rw [eX,kdr px a b (lx.trans ho.symm) la] at q1
  rw [eY,kdr py a' b' (ly.trans ho.symm) la'] at q2
  have hab:a++b=a'++b'↔a=a'/\b=b':=⟨fun e=>List.append_inj e (by omega),fun ⟨e1,e2⟩=>by rw [e1,e2]⟩
  simp only [Op.eqFields,hn,ne_eq,not_false_eq_true,if_true,Sem.run_bind,q1,q2,Result.andThen_ok,g1]
  cases r1 with
  | false=>exact ⟨false,by simp,by rw [hab]; simp; intro e; exact absurd (g2.2 e) (by simp)⟩
  | true=>exact ⟨r2,by simpa using g3,by rw [hab,g4]; simp [g2.1 rfl]⟩
theorem eqIts {d:Nat} (ih:EqC P d) {e:TypeId} {ag:Bool} (hag:aggO P e=some ag) (h1:ag=false->P.cellsOf e=1) {X Y:Array Value}:∀ (cx cy:List (List Value)) (i:Nat) (px py:List Value),cx.length=cy.length->(∀ c∈cx,c.length=P.cellsOf e/\OkC P d e c)->(∀ c∈cy,c.length=P.cellsOf e/\OkC P d e c)->
  X.toList=px++cx.flatten->Y.toList=py++cy.flatten->px.length=i*P.cellsOf e->py.length=i*P.cellsOf e->
  cx.flatten.length=cy.flatten.length/\∀ D w,∃ r:Bool,(Op.eqItems (D+d) e (P.cellsOf e) X Y (List.range' i cx.length)).run P w = .ok r w/\(r=true↔cx.flatten=cy.flatten)
 | [],[],i,px,py,_,_,_,_,_,_,_=>⟨rfl,fun D w=>⟨true,by simp [Op.eqItems],by simp⟩⟩
 | [],_::_,i,px,py,h,_,_,_,_,_,_=>by simp at h
 | _::_,[],i,px,py,h,_,_,_,_,_,_=>by simp at h
 | a::cx,a'::cy,i,px,py,hl,hx,hy,eX,eY,lx,ly=>by
  obtain ⟨la,ra⟩:=hx a (by simp)
  obtain ⟨la',ra'⟩:=hy a' (by simp)
  simp only [List.flatten_cons] at eX eY ⊢
  obtain ⟨hl2,hrun⟩:=eqIts ih hag h1 cx cy (i+1) (px++a) (py++a') (by simpa using hl) (fun c hc=>hx c (by simp [hc])) (fun c hc=>hy c (by simp [hc])) (by rw [eX,jau]) (by rw [eY,jau]) (by rw [jbg,lx,la,Nat.succ_mul]) (by rw [jbg,ly,la',Nat.succ_mul])
  obtain ⟨_,h2⟩:=ih e a a' ra ra'
  refine ⟨by simp only [jbg]; omega,fun D w=>?_⟩
  obtain ⟨r1,g1,g2⟩:=h2 D w
  obtain ⟨r2,g3,g4⟩:=hrun D w
  have sX:i*P.cellsOf e+P.cellsOf e<=X.size:=by rw [<-jci,eX]; simp; omega
  have sY:i*P.cellsOf e+P.cellsOf e<=Y.size:=by rw [<-jci,eY]; simp; omega
  have q1:=kfu (w:=w) hag sX h1
  have q2:=kfu (w:=w) hag sY h1
  rw [eX,kdr px a _ lx la] at q1
  rw [eY,kdr py a' _ ly la'] at q2
  have hab:a++cx.flatten=a'++cy.flatten↔a=a'/\cx.flatten=cy.flatten:=⟨fun e=>List.append_inj e (by omega),fun ⟨e1,e2⟩=>by rw [e1,e2]⟩
  simp only [jdd,List.range'_succ,Op.eqItems,Sem.run_bind,q1,q2,Result.andThen_ok,g1]
  cases r1 with
  | false=>exact ⟨false,by simp,by rw [hab]; simp; intro e; exact absurd (g2.2 e) (by simp)⟩
  | true=>exact ⟨r2,by simpa using g3,by rw [hab,g4]; simp [g2.1 rfl]⟩
theorem eqC:∀ d,EqC P d
 | 0=>fun t xs ys h=>h.elim
 | d+1=>by
  intro t xs ys hx hy
  unfold OkC at hx hy
  split at hx
  ·rename_i hu
   simp only [hu] at hy
   obtain ⟨a,rfl⟩:=hx; obtain ⟨b,rfl⟩:=hy
   have hag:aggO P t=some false:=by simp [aggO,hu]
   refine ⟨rfl,fun D w=>⟨a==b,?_,by simp⟩⟩
   simp only [voC,hag,List.headD_cons]
   exact run_equalIn_bool w (D+d) t a b hu
  ·rename_i k hu
   simp only [hu] at hy
   obtain ⟨a,rfl⟩:=hx; obtain ⟨b,rfl⟩:=hy
   have hag:aggO P t=some false:=by simp [aggO,hu]
   refine ⟨rfl,fun D w=>⟨a==b,?_,by simp⟩⟩
   simp only [voC,hag,List.headD_cons]
   exact run_equalIn_int w (D+d) t k k a b hu
  ·rename_i hu
   simp only [hu] at hy
   obtain ⟨a,rfl⟩:=hx; obtain ⟨b,rfl⟩:=hy
   have hag:aggO P t=some false:=by simp [aggO,hu]
   refine ⟨rfl,fun D w=>⟨a==b,?_,by rw [MapKept.bytes_beq]; simp⟩⟩
   simp only [voC,hag,List.headD_cons]
   rw [beq_toListBytes]
   exact run_equalIn_string w (D+d) t a b hu
  ·rename_i fs hu
   simp only [hu] at hy
   have hag:aggO P t=some true:=by simp [aggO,hu]
   have hf:P.fieldsOf t=fs:=by simp [Program.fieldsOf,hu]
   obtain ⟨h1,h2⟩:=eqFs (eqC d) (X:=xs.toArray) (Y:=ys.toArray) fs.toList 0 [] [] xs ys hx.2 hy.2 (by simp) (by simp) rfl rfl
   refine ⟨h1,fun D w=>?_⟩
   obtain ⟨r,g1,g2⟩:=h2 D w
   refine ⟨r,?_,g2⟩
   simp only [voC,hag]
   rw [show D+(d+1)=(D+d)+1 from rfl,run_equalIn_struct w (D+d) t _ _ (by rw [hf]; exact hu) hx.1,hf]
   exact g1
  ·rename_i n e hu
   simp only [hu] at hy
   have hag:aggO P t=some true:=by simp [aggO,hu]
   obtain ⟨⟨ag,ha,h1⟩,cx,l1,rfl,hcx⟩:=hx
   obtain ⟨_,cy,l2,rfl,hcy⟩:=hy
   obtain ⟨i,hi⟩:=kgT ha
   obtain ⟨h2,h3⟩:=eqIts (eqC d) ha h1 (X:=cx.flatten.toArray) (Y:=cy.flatten.toArray) cx cy 0 [] [] (by omega) hcx hcy (by simp) (by simp) (by simp) (by simp)
   refine ⟨h2,fun D w=>?_⟩
   obtain ⟨r,g1,g2⟩:=h3 D w
   refine ⟨r,?_,g2⟩
   simp only [voC,hag]
   rw [show D+(d+1)=(D+d)+1 from rfl,run_equalIn_array w (D+d) _ _ hu hi,List.range_eq_range',<-l1]
   exact g1
  ·exact hx.elim
theorem ckFs {em:Bool} {d:Nat} (ih:∀ t cs,OkC P d t cs->∀ D w,(Instr.checkKey em (D+d) t (voC P t cs)).run P w = .ok () w) {X:Array Value} (D:Nat) (w:World):∀ (fs:List Field) (o:Nat) (px xs:List Value),OkFs P (OkC P d) fs o xs->X.toList=px++xs->px.length=o->
  (forIn (m:=Sem) fs PUnit.unit fun f _=>if f.name≠ "_" then do let v<-part f.type X f.offset; Instr.checkKey em (D+d) f.type v; pure (ForInStep.yield PUnit.unit) else pure (ForInStep.yield PUnit.unit)).run P w = .ok PUnit.unit w
 | [],o,px,xs,hx,_,_=>by simp
 | f::fs,o,px,xs,hx,eX,lx=>by
  obtain ⟨a,b,rfl,hn,ho,la,⟨ag,hag,h1⟩,ra,rb⟩:=hx
  have hr:=ckFs ih D w fs (o+P.cellsOf f.type) (px++a) b rb (by rw [eX,jau]) (by simp [lx,la])
  have sX:f.offset+P.cellsOf f.type<=X.size:=by rw [<-jci,eX,ho]; simp; omega
  have q1:=kfu (w:=w) hag sX h1
  rw [eX,kdr px a b (lx.trans ho.symm) la] at q1
  have q2:=ih f.type a ra D w
  simp only [List.forIn_cons,Sem.run_bind,hn,ne_eq,not_false_eq_true,if_true,Result.andThen_ok,q1,q2,Sem.run_pure]
  exact hr
theorem ckIts {em:Bool} {d:Nat} (ih:∀ t cs,OkC P d t cs->∀ D w,(Instr.checkKey em (D+d) t (voC P t cs)).run P w = .ok () w) {e:TypeId} {ag:Bool} (hag:aggO P e=some ag) (h1:ag=false->P.cellsOf e=1) {X:Array Value} (D:Nat) (w:World):∀ (cx:List (List Value)) (i:Nat) (px:List Value),
  (∀ c∈cx,c.length=P.cellsOf e/\OkC P d e c)->X.toList=px++cx.flatten->px.length=i*P.cellsOf e->
  (forIn (m:=Sem) (List.range' i cx.length) PUnit.unit fun i _=>do let n<-sizeOf e; let v<-part e X (i*n); Instr.checkKey em (D+d) e v; pure (ForInStep.yield PUnit.unit)).run P w = .ok PUnit.unit w
 | [],i,px,_,_,_=>by simp
 | a::cx,i,px,hx,eX,lx=>by
  obtain ⟨la,ra⟩:=hx a (by simp)
  obtain ⟨ii,hi⟩:=kgT hag
  simp only [List.flatten_cons] at eX
  have hr:=ckIts ih hag h1 D w cx (i+1) (px++a) (fun c hc=>hx c (by simp [hc])) (by rw [eX,jau]) (by rw [jbg,lx,la,Nat.succ_mul])
  have sX:i*P.cellsOf e+P.cellsOf e<=X.size:=by rw [<-jci,eX]; simp; omega
  have q1:=kfu (w:=w) hag sX h1
  rw [eX,kdr px a _ lx la] at q1
  have q2:=ih e a ra D w
  simp only [jdd,List.range'_succ,List.forIn_cons,Sem.run_bind,kaC hi,Result.andThen_ok,q1,q2,Sem.run_pure]
  exact hr
theorem ckC {em:Bool}:∀ (d:Nat) (t:TypeId) (cs:List Value),OkC P d t cs->∀ D w,(Instr.checkKey em (D+d) t (voC P t cs)).run P w = .ok () w
 | 0,_,_,h=>h.elim
 | d+1,t,cs,hx=>by
  intro D w
  unfold OkC at hx
  split at hx
  ·rename_i hu
   obtain ⟨a,rfl⟩:=hx
   exact MapKept.run_checkKey (n:=D+d) hu (by simp [voC,aggO,hu,MapKept.IsKey]) em
  ·rename_i k hu
   obtain ⟨a,rfl⟩:=hx
   exact MapKept.run_checkKey (n:=D+d) hu (by simp [voC,aggO,hu,MapKept.IsKey]) em
  ·rename_i hu
   obtain ⟨a,rfl⟩:=hx
   exact MapKept.run_checkKey (n:=D+d) hu (by simp [voC,aggO,hu,MapKept.IsKey]) em
  ·rename_i fs hu
   have hag:aggO P t=some true:=by simp [aggO,hu]
   simp only [voC,hag]
   rw [show D+(d+1)=(D+d)+1 from rfl,Instr.checkKey]
   simp only [Sem.run_bind,run_underlying hu,Result.andThen_ok]
   rw [<-Array.forIn_toList]
   have hr:=ckFs (ckC (em:=em) d) (X:=cs.toArray) D w fs.toList 0 [] cs hx.2 (by simp) rfl
   exact (congrArg (fun r=>r.andThen fun a w'=>Sem.run P (pure ()) w') hr).trans rfl
  ·rename_i n e hu
   obtain ⟨⟨ag,ha,h1⟩,cx,l1,rfl,hcx⟩:=hx
   have hag:aggO P t=some true:=by simp [aggO,hu]
   simp only [voC,hag]
   rw [show D+(d+1)=(D+d)+1 from rfl,Instr.checkKey]
   simp only [Sem.run_bind,run_underlying hu,Result.andThen_ok]
   simp only [Std.Legacy.Range.forIn_eq_forIn_range',Std.Legacy.Range.size,Nat.sub_zero,Nat.add_one_sub_one,Nat.div_one]
   rw [<-l1]
   have hr:=ckIts (ckC (em:=em) d) ha h1 (X:=cx.flatten.toArray) D w cx 0 [] hcx (by simp) (by simp)
   exact (congrArg (fun r=>r.andThen fun a w'=>Sem.run P (pure ()) w') hr).trans rfl
  ·exact hx.elim
end
def mapO (P:Program) (T:TypeId):Option (TypeId×TypeId):=
 match P.underlying T with
 | some (.map k e)=>some (k,e)
 | _=>none
def zvO (P:Program) (T:TypeId):Option Value:=(P.info? T).bind (·.zero)
def scV:List AV->Option (List Value)
 | []=>some []
 | .sc v::l=>(scV l).map (v :: ·)
 | _=>none
def keyA:AV->Option Value
 | .sc v=>some v
 | .ag cs=>(scV cs).map fun vs=>.agg vs.toArray
 | _=>none
def kba (P:Program) (kt:TypeId):Value->Prop
 | .int k _=>intO P kt=some k
 | .string _=>P.underlying kt=some .string
 | .bool _=>P.underlying kt=some .bool
 | .agg cs=>aggO P kt=some true/\OkC P 9 kt cs.toList
 | _=>False
def keyB1:Value->Value->Bool
 | .int k a,.int k' b=>k==k'&&a==b
 | .string a,.string b=>a==b
 | .bool a,.bool b=>a==b
 | _,_=>false
def keyBL:List Value->List Value->Bool
 | [],[]=>true
 | x::l,y::r=>keyB1 x y&&keyBL l r
 | _,_=>false
def keyB:Value->Value->Bool
 | .agg a,.agg b=>keyBL a.toList b.toList
 | a,b=>keyB1 a b
def findA (k:Value):List (Value×AV)->Nat->Option (Nat×AV)
 | [],_=>none
 | x::r,i=>if keyB k x.1 then some (i,x.2) else findA k r (i+1)
def kgV (P:Program) (h:AH) (T:TypeId) (m key:AV) (ok:Bool) (K:AV->Prop):Prop:=
 match m,keyA key,mapO P T with
 | .mp id,some k,some (kt,e)=>match h id with
  | some (.map kvs)=>kba P kt k/\(∀ x∈kvs,kba P kt x.1)/\match findA k kvs 0,zvO P e with
   | some (_,v),_=>K (if ok then .tp [v,.sc (.bool true)] else v)
   | none,some z=>K (if ok then .tp [cst z,.sc (.bool false)] else cst z)
   | none,none=>False
  | _=>False
 | _,_,_=>False
def kjv (P:Program) (h:AH) (n:Nat) (T:TypeId) (m key v:AV) (K:K3):Prop:=
 match m,keyA key,mapO P T with
 | .mp id,some k,some (kt,e)=>match h id with
  | some (.map kvs)=>kba P kt k/\(∀ x∈kvs,kba P kt x.1)/\v.vl=true/\K .ud (updH h id (.map (match findA k kvs 0 with | some (i,_)=>kvs.set i (k,v) | none=>kvs++[(k,v)]))) n
  | _=>False
 | _,_,_=>False
def klf (P:Program) (h:AH) (n:Nat) (T:TypeId) (m key:AV) (K:K3):Prop:=
 match m,keyA key,mapO P T with
 | .mp id,some k,some (kt,e)=>match h id with
  | some (.map kvs)=>kba P kt k/\(∀ x∈kvs,kba P kt x.1)/\match findA k kvs 0,zvO P e with
   | some (i,v),_=>K (.tp [v,.sc (.int .i64 i)]) (updH h id (.map kvs)) n
   | none,some z=>(cst z).vl=true/\K (.tp [cst z,.sc (.int .i64 kvs.length)]) (updH h id (.map (kvs++[(k,cst z)]))) n
   | none,none=>False
  | _=>False
 | _,_,_=>False
def knq (h:AH) (n:Nat) (m stamp v:AV) (K:K3):Prop:=
 match m,stamp with
 | .mp id,.sc (.int _ i)=>match h id with
  | some (.map kvs)=>0<=i/\v.vl=true/\∃ x,kvs[i.toNat]?=some x/\K .ud (updH h id (.map (kvs.set i.toNat (x.1,v)))) n
  | _=>False
 | _,_=>False
def knE (P:Program) (h:AH) (n:Nat) (T:TypeId) (v:AV) (K:K3):Prop:=
 match v with
 | .sc (.string s)=>P.underlying T=some .string/\K (.own n 0 0) (updH h n (.si s 0)) (n+1)
 | _=>False
def nextK (h:AH) (n:Nat) (v:AV) (K:K3):Prop:=
 match v with
 | .own id 0 0=>match h id with
  | some (.si s pos)=>if pos<s.size then K (.tp [.sc (.bool true),.sc (.int .i64 pos),.sc (.int .i32 (Utf8.decode s pos).1)]) (updH h id (.si s (pos+(Utf8.decode s pos).2))) n else K (.tp [.sc (.bool false)]) h n
  | _=>False
 | _=>False
section
variable {P:Program} {o:Oper} {a:Act} {w:World} {O:Nat->Prop} {μ:Mu} {h:AH} {n:Nat} {K:K3}
theorem kiB {T k e:TypeId} (hm:mapO P T=some (k,e)):P.underlying T=some (.map k e):=by
 unfold mapO at hm
 split at hm
 ·cases hm; assumption
 ·cases hm
def sKey:Value->Bool
 | .agg _=>false
 | _=>true
theorem kis {kt:TypeId} {k:Value} (hs:sKey k=true) (hk:kba P kt k):∃ d,P.underlying kt=some d/\MapKept.IsKey d k:=by
 cases k <;> simp only [kba] at hk
 ·exact ⟨_,hk,trivial⟩
 ·rename_i kk m
  unfold intO at hk
  split at hk
  ·rename_i q hq; cases hk; exact ⟨_,hq,rfl⟩
  ·cases hk
 ·exact ⟨_,hk,trivial⟩
 ·simp [sKey] at hs
theorem kwG {a b:Value} (ha:sKey a=true):keyB a b=keyB1 a b:=by
 cases a <;> first | rfl | (simp [sKey] at ha; done)
theorem ktb {d:TypeDesc} {a b:Value} (ha:MapKept.IsKey d a) (hb:MapKept.IsKey d b):Instr.sameNow d a b=some (keyB a b):=by
 cases d <;> cases a <;> cases b <;> simp_all [MapKept.IsKey,Instr.sameNow,keyB,keyB1]
theorem kpe {a b:Value} (ha:Scal a) (hb:Scal b):keyB1 a b=true↔a=b:=by
 cases a <;> simp only [Scal] at ha <;> cases b <;> simp only [Scal] at hb <;> simp [keyB1,MapKept.bytes_beq]
theorem koT:∀ {a b:List Value},(∀ v∈a,Scal v)->(∀ v∈b,Scal v)->(keyBL a b=true↔a=b)
 | [],[],_,_=>by simp [keyBL]
 | [],_::_,_,_=>by simp [keyBL]
 | _::_,[],_,_=>by simp [keyBL]
 | x::a,y::b,ha,hb=>by
  have ih:=koT (a:=a) (b:=b) (fun v h=>ha v (jbb _ h)) (fun v h=>hb v (jbb _ h))
  simp only [keyBL,jac,kpe (ha x (by simp)) (hb y (by simp)),ih,List.cons.injEq]
theorem kds {kt:TypeId} {k:Value} (hk:kba P kt k):Scal k\/∃ cs,k = .agg cs/\aggO P kt=some true/\OkC P 9 kt cs.toList/\∀ v∈cs.toList,Scal v:=by
 cases k <;> simp only [kba] at hk <;> first | exact .inl trivial | skip
 exact .inr ⟨_,rfl,hk.1,hk.2,OkC.scal 9 kt _ hk.2⟩
theorem kvh {kt:TypeId} {a b:Value} (ha:kba P kt a) (hb:kba P kt b):keyB a b=true↔a=b:=by
 rcases kds ha with h | ⟨x,rfl,_,_,hx⟩
 ·rcases kds hb with g | ⟨y,rfl,_⟩
  ·rw [<-kpe h g,kwG (by cases a <;> first | rfl | exact h.elim)]
  ·cases a <;> simp only [Scal] at h <;> simp [keyB,keyB1]
 ·rcases kds hb with g | ⟨y,rfl,_,_,hy⟩
  ·cases b <;> simp only [Scal] at g <;> simp [keyB,keyB1]
  ·show keyBL x.toList y.toList=true↔_
   rw [koT hx hy]
   constructor
   ·intro e; rw [Array.ext' e]
   ·intro e; cases e; rfl
theorem kmo {d:TypeDesc} {kt:TypeId} {k:Value} (hk:MapKept.IsKey d k):∀ (l:List MapEntry) (kvs:List (Value×AV)) (i:Nat),l.length=kvs.length->(∀ x∈kvs,MapKept.IsKey d x.1/\(keyB k x.1=true↔k=x.1))->(∀ (j:Nat) (x:Value×AV),kvs[j]?=some x->∃ e,l[j]?=some e/\e.key=x.1)->
  (findA k kvs i=none/\Instr.findNow d k l i=some none)\/∃ j x e,findA k kvs i=some (i+j,x.2)/\kvs[j]?=some x/\l[j]?=some e/\Instr.findNow d k l i=some (some (i+j,e.val))/\x.1=k
 | [],[],i,_,_,_=>.inl ⟨rfl,rfl⟩
 | e::l,[],i,h,_,_=>by simp at h
 | [],x::kvs,i,h,_,_=>by simp at h
 | e::l,x::kvs,i,hl,hks,hx=>by
  obtain ⟨e',he',hkey⟩:=hx 0 x rfl
  simp at he'; subst he'
  obtain ⟨hkx,hkb⟩:=hks x (by simp)
  have hs:Instr.sameNow d k e.key=some (keyB k x.1):=by rw [hkey]; exact ktb hk hkx
  cases hb:keyB k x.1 with
  | true=>
   exact .inr ⟨0,x,e,by simp [findA,hb],rfl,rfl,by simp [Instr.findNow,hs,hb],(hkb.1 hb).symm⟩
  | false=>
   rcases kmo (kt:=kt) hk l kvs (i+1) (by simpa using hl) (fun y hy=>hks y (by simp [hy])) (fun j y hj=>by simpa using hx (j+1) y (by simpa using hj)) with ⟨h1,h2⟩ | ⟨j,y,e2,h1,h2,h3,h4,h5⟩
   ·exact .inl ⟨by simp [findA,hb,h1],by simp [Instr.findNow,hs,hb,h2]⟩
   ·exact .inr ⟨j+1,y,e2,by simp [findA,hb,h1]; omega,by simpa using h2,by simpa using h3,by simp [Instr.findNow,hs,hb,h4]; omega,h5⟩
theorem kmr {kt:TypeId} {cs:Array Value} (hk:kba P kt (.agg cs)) (w:World):∀ (l:List MapEntry) (kvs:List (Value×AV)) (i:Nat),l.length=kvs.length->(∀ x∈kvs,kba P kt x.1)->(∀ (j:Nat) (x:Value×AV),kvs[j]?=some x->∃ e,l[j]?=some e/\e.key=x.1)->
  (findA (.agg cs) kvs i=none/\(Instr.findAsking kt (.agg cs) l i).run P w = .ok none w)\/∃ j x e,findA (.agg cs) kvs i=some (i+j,x.2)/\kvs[j]?=some x/\l[j]?=some e/\(Instr.findAsking kt (.agg cs) l i).run P w = .ok (some (i+j,e.val)) w/\x.1 = .agg cs
 | [],[],i,_,_,_=>.inl ⟨rfl,by simp [Instr.findAsking]⟩
 | e::l,[],i,h,_,_=>by simp at h
 | [],x::kvs,i,h,_,_=>by simp at h
 | e::l,x::kvs,i,hl,hks,hx=>by
  obtain ⟨e',he',hkey⟩:=hx 0 x rfl
  simp at he'; subst he'
  have hkx:=hks x (by simp)
  have hkb:=kvh hk hkx
  obtain ⟨r,hr,hiff⟩:∃ r:Bool,(Op.equal kt (.agg cs) e.key).run P w = .ok r w/\(r=true↔Value.agg cs=x.1):=by
   rcases kds hkx with h | ⟨y,hy,_,hoy,_⟩
   ·exfalso
    have hag:=hk.1
    have hsk:sKey x.1=true:=by cases hx1:x.1 <;> rw [hx1] at h <;> first | rfl | exact h.elim
    obtain ⟨d,hd,hkd⟩:=kis hsk hkx
    simp only [aggO,hd] at hag
    cases d <;> simp [MapKept.IsKey] at hkd hag <;> (cases hx1:x.1 <;> rw [hx1] at hkd <;> exact hkd)
   ·obtain ⟨_,h2⟩:=eqC 9 kt cs.toList y.toList hk.2 hoy
    obtain ⟨r,g1,g2⟩:=h2 (Op.maxDepth-9) w
    refine ⟨r,?_,?_⟩
    ·rw [hkey,hy]
     have e9:Op.maxDepth-9+9=Op.maxDepth:=by decide
     rw [e9] at g1
     simp only [voC,hk.1] at g1
     exact g1
    ·rw [g2,hy]
     constructor
     ·intro e; rw [Array.ext' e]
     ·intro e; cases e; rfl
  cases hb:keyB (.agg cs) x.1 with
  | true=>
   have:r=true:=hiff.2 (hkb.1 hb)
   subst this
   exact .inr ⟨0,x,e,by simp [findA,hb],rfl,rfl,by simp [Instr.findAsking,hr],(hkb.1 hb).symm⟩
  | false=>
   have:r=false:=by
    cases r
    ·rfl
    ·have:=hkb.2 (hiff.1 rfl); rw [hb] at this; cases this
   subst this
   rcases kmr hk w l kvs (i+1) (by simpa using hl) (fun y hy=>hks y (by simp [hy])) (fun j y hj=>by simpa using hx (j+1) y (by simpa using hj)) with ⟨h1,h2⟩ | ⟨j,y,e2,h1,h2,h3,h4,h5⟩
   ·exact .inl ⟨by simp [findA,hb,h1],by simp [Instr.findAsking,hr,h2]⟩
   ·exact .inr ⟨j+1,y,e2,by simp [findA,hb,h1]; omega,by simpa using h2,by simpa using h3,by simp [Instr.findAsking,hr,h4]; omega,h5⟩
theorem kuj {kt:TypeId} {k:Value} (hk:kba P kt k) (w:World) {l:List MapEntry} {kvs:List (Value×AV)} (hl:l.length=kvs.length) (hks:∀ x∈kvs,kba P kt x.1) (hx:∀ (j:Nat) (x:Value×AV),kvs[j]?=some x->∃ e,l[j]?=some e/\e.key=x.1) :
  (findA k kvs 0=none/\(Instr.findKey kt k l).run P w = .ok none w)\/∃ j x e,findA k kvs 0=some (j,x.2)/\kvs[j]?=some x/\l[j]?=some e/\(Instr.findKey kt k l).run P w = .ok (some (j,e.val)) w/\x.1=k:=by
 rcases kds hk with h | ⟨cs,rfl,hag,_,_⟩
 ·have hsk:sKey k=true:=by cases k <;> first | rfl | exact h.elim
  obtain ⟨d,hd,hkd⟩:=kis hsk hk
  have hna:aggO P kt≠some true:=by
   simp only [aggO,hd]
   cases d <;> simp [MapKept.IsKey] at hkd ⊢
  have hks':∀ x∈kvs,MapKept.IsKey d x.1/\(keyB k x.1=true↔k=x.1):=fun x hx=>by
   have hkx:=hks x hx
   refine ⟨?_,kvh hk hkx⟩
   rcases kds hkx with g | ⟨y,_,hy,_⟩
   ·obtain ⟨d',h1,h2⟩:=kis (by cases hx1:x.1 <;> rw [hx1] at g <;> first | rfl | exact g.elim) hkx
    rw [hd] at h1; cases h1; exact h2
   ·exact absurd hy hna
  rcases kmo (kt:=kt) hkd l kvs 0 hl hks' hx with ⟨h1,h2⟩ | ⟨j,x,e,h1,h2,h3,h4,h5⟩
  ·exact .inl ⟨h1,MapKept.run_findKey hd h2⟩
  ·simp only [jcb] at h1 h4
   exact .inr ⟨j,x,e,h1,h2,h3,MapKept.run_findKey hd h4,h5⟩
 ·have hf:∀ d,P.underlying kt=some d->(∀ q,d≠.int q)/\d≠.string/\d≠.bool:=fun d hd=>by
   simp only [aggO,hd] at hag
   cases d <;> simp at hag ⊢
  obtain ⟨d,hd⟩:∃ d,P.underlying kt=some d:=by
   cases hu:P.underlying kt with
   | none=>simp [aggO,hu] at hag
   | some d=>exact ⟨d,rfl⟩
  have hsame:∀ v,Instr.sameNow d (.agg cs) v=none:=fun v=>by cases d <;> cases v <;> rfl
  cases l with
  | nil=>
   have:kvs=[]:=jbp hl.symm
   subst this
   exact .inl ⟨rfl,MapKept.run_findKey hd (by rfl)⟩
  | cons e l=>
   have hfn:Instr.findNow d (.agg cs) (e::l) 0=none:=by simp [Instr.findNow,hsame]
   have hrun:(Instr.findKey kt (.agg cs) (e::l)).run P w=(Instr.findAsking kt (.agg cs) (e::l) 0).run P w:=by
    simp [Instr.findKey,run_underlying hd,hfn]
   rw [hrun]
   have:=kmr hk w (e::l) kvs 0 hl hks hx
   simpa only [jcb] using this
theorem kmX {kt:TypeId} {k:Value} (hk:kba P kt k) (w:World) (em:Bool):(Instr.checkKey em 10000 kt k).run P w = .ok () w:=by
 rcases kds hk with h | ⟨cs,rfl,hag,hok,_⟩
 ·obtain ⟨d,hd,hkd⟩:=kis (by cases k <;> first | rfl | exact h.elim) hk
  exact MapKept.run_checkKey hd hkd em 9999
 ·have:=ckC (em:=em) 9 kt cs.toList hok 9991 w
  simpa [voC,hag] using this
theorem kmz {v:Value} (hv:Scal v) (n:Nat):Instr.sameBits n v v=true:=by
 cases v <;> simp only [Scal] at hv <;> cases n <;> simp [Instr.sameBits,MapKept.bytes_beq]
theorem kvn {kt:TypeId} {k:Value} (hk:kba P kt k) (w:World):(Instr.keyThatStays k k).run P w = .ok k w:=by
 have:Instr.sameBits 10000 k k=true:=by
  rcases kds hk with h | ⟨cs,rfl,_,_,hs⟩
  ·exact kmz h _
  ·simp only [Instr.sameBits,BEq.rfl,Bool.true_and,jam]
   intro p hp
   obtain ⟨i,h1,h2⟩:=jdf.1 hp
   rw [List.getElem_zip] at h2
   subst h2
   exact kmz (hs _ (List.getElem_mem ..)) _
 simp [Instr.keyThatStays,this]
theorem kqC {w:World} {O:Nat->Prop} {μ:Mu} {n:Nat}:∀ {cs:List AV} {vs:List Value} (us:List Value),scV cs=some vs->us.length=cs.length->(∀ (j:Nat) (c:AV),cs[j]?=some c->∃ u,us[j]?=some u/\VR w O μ n c u)->us=vs
 | [],vs,us,h,hl,hv=>by simp [scV] at h; subst h; exact jbp hl
 | c::cs,vs,us,h,hl,hv=>by
  cases c with
  | sc v=>
   simp only [scV,jab] at h
   obtain ⟨vs',h1,rfl⟩:=h
   cases us with
   | nil=>simp at hl
   | cons u us=>
    obtain ⟨u',e,hu⟩:=hv 0 _ rfl
    simp at e; subst e
    rw [hu.sc_inv,kqC us h1 (by simpa using hl) fun j c hj=>by simpa using hv (j+1) c (by simpa using hj)]
  | _=>simp [scV] at h
theorem kri {a:AV} {u k:Value} (hk:keyA a=some k) (hv:VR w O μ n a u):u=k:=by
 cases a <;> simp only [keyA] at hk <;> first | cases hk | skip
 ·exact hv.sc_inv
 ·obtain ⟨vs,h1,rfl⟩:=jab.1 hk
  cases hv with
  | ag _ X us hs hc _ hr=>
   have:=kqC X.toList h1 (by simpa using hs) fun j c hj=>⟨us j,by simpa using hc j c hj,hr j c hj⟩
   rw [<-this]
theorem HR.own_map (hr:HR w O μ h n) {id:Nat} {kvs:List (Value×AV)} (hB:h id=some (.map kvs)):∃ b es,μ id=some (b,0)/\w.heap[b]?=some (.map es kvs.length)/\es.size=kvs.length/\
   ∀ (i:Nat) (x:Value×AV),kvs[i]?=some x->∃ e,es[i]?=some e/\e.key=x.1/\e.born=i/\x.2.vl=true/\VR w O μ n x.2 e.val:=hr.blk id _ hB
theorem VR.mp_inv {id:Nat} {v:Value} (hv:VR w O μ n (.mp id) v) {b k:Nat} (hm:μ id=some (b,k)):v = .map (some b):=by
 cases hv with
 | mp _ _ _ _ hv=>exact hv b k hm
theorem kuI {T:TypeId} (ho:o.op = .makeMap T none) (hr:HR w O μ h n) (hk:K (.mp n) (updH h n (.map [])) (n+1)):OpR P o a w O μ n K:=by
 have he:=Evo.alloc hr (.map #[] 0) 0
 refine ⟨.map (some w.heap.size),w.alloc (.map #[] 0),updM μ n (w.heap.size,0),.mp n,_,n+1,.inl ?_,hk,?_,?_,he⟩
 ·simp [execOp,ho,Instr.makeMap]
 ·exact hr.alloc _ 0 _ ⟨w.heap.size,#[],by simp [updM],kbn _ _,rfl,fun i x hi=>by simp at hi⟩
 ·exact .mp n _ (by omega) rfl fun b k e=>by simp [updM] at e; rw [e.1]
theorem kxd {T:TypeId} {x:Operand} (ho:o.op = .range T x) (hr:HR w O μ h n) {v:AV} (hv:VR w O μ n v (a.eval x)) (hk:knE P h n T v K):OpR P o a w O μ n K:=by
 unfold knE at hk
 split at hk
 ·rename_i s
  obtain ⟨hT,hk⟩:=hk
  have he:=Evo.alloc hr (.stringIter s 0) 0
  refine ⟨.pointer (some ⟨w.heap.size,0,none⟩),w.alloc (.stringIter s 0),updM μ n (w.heap.size,0),.own n 0 0,_,n+1,.inl ?_,hk,?_,?_,he⟩
  ·simp only [execOp,ho,hv.sc_inv]
   exact kan (run_range_string w T s hT)
  ·exact hr.alloc _ 0 _ ⟨w.heap.size,by simp [updM],kbn _ _⟩
  ·exact .own n 0 0 _ (by omega) rfl fun b k e=>by simp [updM] at e; rw [e.1]; simp
 ·exact hk.elim
theorem kxs {x:Operand} (ho:o.op = .next x true) (hr:HR w O μ h n) {v:AV} (hv:VR w O μ n v (a.eval x)) (hk:nextK h n v K):OpR P o a w O μ n K:=by
 unfold nextK at hk
 split at hk
 ·rename_i id
  split at hk
  ·rename_i s pos hB
   obtain ⟨b,h1,h2⟩:=hr.blk id _ hB
   have hb:=(hr.scope id b 0 h1).2
   have hp:a.eval x = .pointer (some ⟨b,0,none⟩):=by
    cases hv with
    | own _ _ _ _ _ _ hv=>simpa using hv b 0 h1
   split at hk
   ·rename_i hlt
    let w':World:={ w with heap:=w.heap.setIfInBounds b (.stringIter s (pos+(Utf8.decode s pos).2)) }
    have hset:=hr.set (w':=w') id b 0 h1 (.si s (pos+(Utf8.decode s pos).2)) rfl rfl rfl (by simp [w']) (fun i hi=>by simp [w',Ne.symm hi]) (fun c T f hc=>by rw [h2] at hc; cases hc)
     fun _=>⟨b,h1,by simp [w',hb]⟩
    refine ⟨.tuple #[.bool true,.int .i64 pos,.int .i32 (Utf8.decode s pos).1],w',μ,.tp [.sc (.bool true),.sc (.int .i64 pos),.sc (.int .i32 (Utf8.decode s pos).1)],_,n,.inl ?_,hk,hset.2,?_,hset.1⟩
    ·simp only [execOp,ho,hp]
     refine kan ?_
     simp only [Instr.next,getObj,setObj,Sem.run_bind,Sem.run,h2,Result.andThen,hlt,if_true]
     simp [goInt,w',hb]
    ·refine .tp _ _ (fun j=>([.bool true,.int .i64 pos,.int .i32 (Utf8.decode s pos).1]:List Value)[j]?.getD undef) rfl (fun j c hj=>?_) fun j c hj=>?_
     ·match j,hj with
      | 0,_=>rfl
      | 1,_=>rfl
      | 2,_=>rfl
     ·match j,hj with
      | 0,hj=>simp at hj; subst hj; exact .sc _ rfl
      | 1,hj=>simp at hj; subst hj; exact .sc _ rfl
      | 2,hj=>simp at hj; subst hj; exact .sc _ rfl
   ·rename_i hge
    refine OpR.value hr (u:=.tuple #[.bool false]) (v:=.tp [.sc (.bool false)]) ?_ ?_ hk
    ·simp only [execOp,ho,hp]
     refine kan ?_
     simp [Instr.next,getObj,Sem.run,h2,hge]
    ·refine .tp _ _ (fun _=>.bool false) rfl (fun j c hj=>?_) fun j c hj=>?_
     ·match j,hj with
      | 0,_=>rfl
     ·match j,hj with
      | 0,hj=>simp at hj; subst hj; exact .sc _ rfl
  ·exact hk.elim
 ·exact hk.elim
theorem kvS {T:TypeId} {m key:Operand} {ok:Bool} (ho:o.op = .lookup T m key ok) (hr:HR w O μ h n) {vm vk:AV} (hm:VR w O μ n vm (a.eval m)) (hkey:VR w O μ n vk (a.eval key)) (hk:kgV P h T vm vk ok (fun v=>K v h n)):OpR P o a w O μ n K:=by
 unfold kgV at hk
 split at hk
 ·rename_i id k kt e hka hT
  split at hk
  ·rename_i kvs hB
   obtain ⟨hk1,hks,hk⟩:=hk
   obtain ⟨b,es,g1,g2,g3,g4⟩:=hr.own_map hB
   have hmv:=hm.mp_inv g1
   have hkv:=kri hka hkey
   have fin:∀ {v:AV} {u:Value} {r:Option (Nat×Value)} {t:Bool},(Instr.findKey kt k es.toList).run P w = .ok r w->((match r with | some (_,v)=>pure (v,true) | none=>do pure (<-zeroValue e,false):Sem (Value×Bool)).run P w = .ok (u,t) w)->VR w O μ n v u->K (if ok then .tp [v,.sc (.bool t)] else v) h n->OpR P o a w O μ n K:=by
    intro v u r t h1 h2 h3 h4
    refine OpR.value hr (u:=if ok then .tuple #[u,.bool t] else u) (v:=if ok then .tp [v,.sc (.bool t)] else v) ?_ ?_ h4
    ·simp only [execOp,ho,hmv,hkv]
     refine kan ?_
     simp only [Instr.lookup,Sem.run_bind,run_underlying (kiB hT),Result.andThen_ok,MapKept.run_getObj_map g2,Sem.run_pure,kmX hk1,h1]
     rcases r with _ | ⟨i,rv⟩
     ·simp only [Sem.run_bind] at h2 ⊢
      cases hz:(zeroValue e).run P w with
      | ok z w1=>
       rw [hz] at h2
       simp at h2 ⊢
       obtain ⟨⟨rfl,rfl⟩,rfl⟩:=h2
       simp
      | halt=>rw [hz] at h2; simp [Result.andThen] at h2
     ·simp at h2 ⊢
      obtain ⟨rfl,rfl⟩:=h2
      simp
    ·cases ok
     ·exact h3
     ·exact .tp _ _ (fun j=>(#[u,.bool t]:Array Value).getD j undef) rfl (fun j c hj=>by match j with | 0=>simp | 1=>simp | j+2=>simp at hj) (fun j c hj=>by
       match j,hj with
       | 0,hj=>simp at hj; subst hj; exact h3
       | 1,hj=>simp at hj; subst hj; exact .sc _ rfl
       | j+2,hj=>simp at hj)
   rcases kuj hk1 w (l:=es.toList) (by simpa using g3) hks (fun j x hj=>by
    obtain ⟨e',h1,h2,_⟩:=g4 j x hj
    exact ⟨e',by simpa using h1,h2⟩) with ⟨h1,h2⟩ | ⟨j,x,e',h1,h2,h3,h4,h5⟩
   ·rw [h1] at hk
    split at hk
    ·rename_i e2; cases e2
    ·rename_i z _ hz
     unfold zvO at hz
     obtain ⟨ti,hi,hz⟩:=jaa.1 hz
     exact fin (t:=false) h2 (by simp [zeroValue,typeInfo,hi,hz]) (VR.cst w O μ n z) hk
    ·exact hk.elim
   ·rw [h1] at hk
    simp only at hk
    obtain ⟨e2,q1,q2,q3,q4,q5⟩:=g4 j x h2
    have:e2=e':=by rw [jcl] at h3; rw [q1] at h3; cases h3; rfl
    subst this
    exact fin (t:=true) h4 (by simp) q5 hk
  ·exact hk.elim
 ·exact hk.elim
theorem map_set (hr:HR w O μ h n) {id b:Nat} {es es':Array MapEntry} {kvs kvs':List (Value×AV)} {v:AV} {u:Value} {k:Value} (hB:h id=some (.map kvs)) (g1:μ id=some (b,0)) (g2:w.heap[b]?=some (.map es kvs.length)) (g4:∀ (i:Nat) (x:Value×AV),kvs[i]?=some x->∃ e,es[i]?=some e/\e.key=x.1/\e.born=i/\x.2.vl=true/\VR w O μ n x.2 e.val)
  (hone:v.vl=true) (hx:VR w O μ n v u) (hsz:es'.size=kvs'.length)
  (hel:∀ (i:Nat) (y:Value×AV),kvs'[i]?=some y->(kvs[i]?=some y/\∃ e,es[i]?=some e/\es'[i]?=some e)\/(y=(k,v)/\∃ e,es'[i]?=some e/\e.key=k/\e.born=i/\e.val=u)) :
  Evo w μ n { w with heap:=w.heap.setIfInBounds b (.map es' kvs'.length) } μ n/\HR { w with heap:=w.heap.setIfInBounds b (.map es' kvs'.length) } O μ (updH h id (.map kvs')) n:=by
 have hbl:b<w.heap.size:=(hr.scope id b 0 g1).2
 exact hr.set (w':={ w with heap:=w.heap.setIfInBounds b (.map es' kvs'.length) }) id b 0 g1 (.map kvs') rfl rfl rfl (by simp) (fun i hi=>by simp [Ne.symm hi]) (fun c T f hc=>by rw [g2] at hc; cases hc) (fun he=>by
  refine ⟨b,es',g1,by simp [hbl],hsz,fun i y hi=>?_⟩
  rcases hel i y hi with ⟨h1,e,h2,h3⟩ | ⟨rfl,e,h2,h3,h4,h5⟩
  ·obtain ⟨e',q1,q2,q3,q4,q5⟩:=g4 i y h1
   rw [h2] at q1; cases q1
   exact ⟨e,h3,q2,q3,q4,q5.evo he⟩
  ·exact ⟨e,h2,h3,h4,hone,by rw [h5]; exact hx.evo he⟩)
theorem kvI {es:Array MapEntry} {kvs:List (Value×AV)} (g3:es.size=kvs.length) {k u:Value} {v:AV} (i:Nat) (y:Value×AV) (hi:(kvs++[(k,v)])[i]?=some y) :
  (kvs[i]?=some y/\∃ e,es[i]?=some e/\(es.push { key:=k,val:=u,born:=kvs.length })[i]?=some e)\/(y=(k,v)/\∃ e,(es.push { key:=k,val:=u,born:=kvs.length })[i]?=some e/\e.key=k/\e.born=i/\e.val=u):=by
 rw [jbm] at hi
 split at hi
 ·rename_i hlt
  exact .inl ⟨hi,es[i]'(by omega),jas _,by rw [Array.getElem?_push,if_neg (by omega)]; exact jas _⟩
 ·rename_i hge
  have hi0:i-kvs.length=0:=by
   rcases Nat.eq_zero_or_pos (i-kvs.length) with h | h
   ·exact h
   ·rw [jdv (by simp; omega)] at hi; cases hi
  rw [hi0] at hi; simp at hi; subst hi
  have:i=es.size:=by omega
  subst this
  exact .inr ⟨rfl,{ key:=k,val:=u,born:=kvs.length },by simp,rfl,by simp [g3],rfl⟩
theorem knG {es:Array MapEntry} {kvs:List (Value×AV)} (g3:es.size=kvs.length) {k u:Value} {v:AV} {j:Nat} {e':MapEntry} (hj:es[j]?=some e') (hb:e'.born=j) (f:MapEntry->MapEntry) (hf:(f e').key=k/\(f e').born=e'.born/\(f e').val=u) (i:Nat) (z:Value×AV) (hi:(kvs.set j (k,v))[i]?=some z) :
  (kvs[i]?=some z/\∃ e,es[i]?=some e/\(es.modify j f)[i]?=some e)\/(z=(k,v)/\∃ e,(es.modify j f)[i]?=some e/\e.key=k/\e.born=i/\e.val=u):=by
 rw [List.getElem?_set] at hi
 split at hi
 ·rename_i hij
  subst hij
  split at hi
  ·cases hi
   exact .inr ⟨rfl,f e',by rw [Array.getElem?_modify,if_pos rfl,hj]; rfl,hf.1,by rw [hf.2.1,hb],hf.2.2⟩
  ·cases hi
 ·rename_i hij
  have hil:=(jad.1 hi).1
  exact .inl ⟨hi,es[i]'(by omega),jas _,by rw [Array.getElem?_modify,if_neg hij]; exact jas _⟩
theorem ksm {T:TypeId} {m key x:Operand} (ho:o.op = .mapUpdate T m key x) (hr:HR w O μ h n) {vm vk v:AV} (hm:VR w O μ n vm (a.eval m)) (hkey:VR w O μ n vk (a.eval key)) (hx:VR w O μ n v (a.eval x)) (hk:kjv P h n T vm vk v K):OpR P o a w O μ n K:=by
 unfold kjv at hk
 split at hk
 ·rename_i id k kt e hka hT
  split at hk
  ·rename_i kvs hB
   obtain ⟨hk1,hks,hone,hk⟩:=hk
   obtain ⟨b,es,g1,g2,g3,g4⟩:=hr.own_map hB
   have hmv:=hm.mp_inv g1
   have hkv:=kri hka hkey
   have fin:∀ (es':Array MapEntry) (kvs':List (Value×AV)),(Instr.mapUpdate T (.map (some b)) k (a.eval x)).run P w = .ok () { w with heap:=w.heap.setIfInBounds b (.map es' kvs'.length) }->es'.size=kvs'.length->
     (∀ (i:Nat) (y:Value×AV),kvs'[i]?=some y->(kvs[i]?=some y/\∃ e,es[i]?=some e/\es'[i]?=some e)\/(y=(k,v)/\∃ e,es'[i]?=some e/\e.key=k/\e.born=i/\e.val=a.eval x))->K .ud (updH h id (.map kvs')) n->OpR P o a w O μ n K:=by
    intro es' kvs' hrun hsz hel hk
    obtain ⟨he,hh⟩:=map_set hr hB g1 g2 g4 hone hx hsz hel
    refine ⟨undef,_,μ,.ud,_,n,.inr ⟨?_,rfl⟩,hk,hh,.ud,he⟩
    simp only [execOp,ho,hmv,hkv,Sem.run_bind,hrun,Result.andThen_ok,Sem.run_pure]
   rcases kuj hk1 w (l:=es.toList) (by simpa using g3) hks (fun j x hj=>by
    obtain ⟨e',h1,h2,_⟩:=g4 j x hj
    exact ⟨e',by simpa using h1,h2⟩) with ⟨h1,h2⟩ | ⟨j,y,e',h1,h2,h3,h4,h5⟩
   ·rw [h1] at hk
    refine fin (es.push { key:=k,val:=a.eval x,born:=kvs.length }) _ ?_ (by simp [g3]) (kvI g3) hk
    simp [Instr.mapUpdate,run_underlying (kiB hT),MapKept.run_getObj_map g2,kmX hk1,h2,MapKept.run_setObj_map _ g2]
   ·rw [h1] at hk
    have hj:es[j]?=some e':=by simpa using h3
    have hjl:=(jak.1 hj).1
    obtain ⟨e2,q1,q2,q3,_⟩:=g4 j y h2
    rw [hj] at q1; cases q1
    simp only at hk h4
    have hkk:e'.key=k:=by rw [q2,h5]
    refine fin (es.modify j fun e=>{ e with key:=k,val:=a.eval x }) _ ?_ (by simp [g3]) (knG g3 hj q3 _ ⟨rfl,rfl,rfl⟩) hk
    simp [Instr.mapUpdate,run_underlying (kiB hT),MapKept.run_getObj_map g2,kmX hk1,h4,hj,hkk,kvn hk1,MapKept.run_setObj_map _ g2]
  ·exact hk.elim
 ·exact hk.elim
theorem tp2 {a b:AV} {u v:Value} (h1:VR w O μ n a u) (h2:VR w O μ n b v):VR w O μ n (.tp [a,b]) (.tuple #[u,v]):=
 .tp _ _ (fun j=>(#[u,v]:Array Value).getD j undef) rfl (fun j c hj=>by match j with | 0=>simp | 1=>simp | j+2=>simp at hj) (fun j c hj=>by
  match j,hj with
  | 0,hj=>simp at hj; subst hj; exact h1
  | 1,hj=>simp at hj; subst hj; exact h2
  | j+2,hj=>simp at hj)
theorem ksD {T:TypeId} {m key:Operand} (ho:o.op = .mapEntry T m key) (hr:HR w O μ h n) {vm vk:AV} (hm:VR w O μ n vm (a.eval m)) (hkey:VR w O μ n vk (a.eval key)) (hk:klf P h n T vm vk K):OpR P o a w O μ n K:=by
 unfold klf at hk
 split at hk
 ·rename_i id k kt e hka hT
  split at hk
  ·rename_i kvs hB
   obtain ⟨hk1,hks,hk⟩:=hk
   obtain ⟨b,es,g1,g2,g3,g4⟩:=hr.own_map hB
   have hmv:=hm.mp_inv g1
   have hkv:=kri hka hkey
   rcases kuj hk1 w (l:=es.toList) (by simpa using g3) hks (fun j x hj=>by
    obtain ⟨e',h1,h2,_⟩:=g4 j x hj
    exact ⟨e',by simpa using h1,h2⟩) with ⟨h1,h2⟩ | ⟨j,y,e',h1,h2,h3,h4,h5⟩
   ·rw [h1] at hk
    split at hk
    ·rename_i e2; cases e2
    ·rename_i z _ hz
     unfold zvO at hz
     obtain ⟨ti,hi,hz⟩:=jaa.1 hz
     obtain ⟨hone,hk⟩:=hk
     have hzr:(zeroValue e).run P w = .ok z w:=by simp [zeroValue,typeInfo,hi,hz]
     obtain ⟨he,hh⟩:=map_set (es':=es.push { key:=k,val:=z,born:=kvs.length }) hr hB g1 g2 g4 hone (VR.cst w O μ n z) (by simp [g3]) (kvI g3)
     refine ⟨.tuple #[z,goInt kvs.length],_,μ,_,_,n,.inl ?_,hk,hh,(tp2 (VR.cst w O μ n z) (.sc _ rfl)).evo he,he⟩
     simp only [execOp,ho,hmv,hkv]
     refine kan ?_
     simp [Instr.mapEntry,run_underlying (kiB hT),MapKept.run_getObj_map g2,kmX hk1,h2,hzr,MapKept.run_setObj_map _ g2]
    ·exact hk.elim
   ·rw [h1] at hk
    have hj:es[j]?=some e':=by simpa using h3
    have hjl:=(jak.1 hj).1
    obtain ⟨e2,q1,q2,q3,q4,q5⟩:=g4 j y h2
    rw [hj] at q1; cases q1
    have hkk:e'.key=k:=by rw [q2,h5]
    have hy:kvs.set j (k,y.2)=kvs:=by
     rw [<-h5]
     refine List.ext_getElem? fun i=>?_
     rw [List.getElem?_set]
     split
     ·rename_i e; subst e
      split
      ·exact h2.symm
      ·rename_i hn; exact absurd (jad.1 h2).1 hn
     ·rfl
    have hms:=map_set (kvs':=kvs.set j (k,y.2)) (es':=es.modify j fun e=>{ e with key:=k }) (u:=e'.val) hr hB g1 g2 g4 q4 q5 (by simp [g3]) (knG g3 hj q3 _ ⟨rfl,rfl,rfl⟩)
    rw [hy] at hms
    obtain ⟨he,hh⟩:=hms
    refine ⟨.tuple #[e'.val,goInt j],_,μ,_,_,n,.inl ?_,hk,hh,(tp2 q5 (.sc _ rfl)).evo he,he⟩
    simp only [execOp,ho,hmv,hkv]
    refine kan ?_
    simp [Instr.mapEntry,run_underlying (kiB hT),MapKept.run_getObj_map g2,kmX hk1,h4,hj,hkk,q3,kvn hk1,MapKept.run_setObj_map _ g2]
  ·exact hk.elim
 ·exact hk.elim
theorem kqQ {T:TypeId} {m st x:Operand} (ho:o.op = .entryStore T m st x) (hr:HR w O μ h n) {vm vs v:AV} (hm:VR w O μ n vm (a.eval m)) (hs:VR w O μ n vs (a.eval st)) (hx:VR w O μ n v (a.eval x)) (hk:knq h n vm vs v K):OpR P o a w O μ n K:=by
 unfold knq at hk
 split at hk
 ·rename_i id q i
  split at hk
  ·rename_i kvs hB
   obtain ⟨h0,hone,y,hy,hk⟩:=hk
   obtain ⟨b,es,g1,g2,g3,g4⟩:=hr.own_map hB
   have hmv:=hm.mp_inv g1
   have hsv:=hs.sc_inv
   obtain ⟨e',q1,q2,q3,q4,q5⟩:=g4 _ y hy
   have hil:=(jak.1 q1).1
   have hfind:es.findIdx? (fun e=>(e.born:Int)==i)=some i.toNat:=by
    rw [Array.findIdx?_eq_some_iff_getElem]
    refine ⟨hil,?_,fun j hj=>?_⟩
    ·have:es[i.toNat]=e':=by have:=q1; rw [jas hil] at this; exact Option.some.inj this
     rw [this,q3]; simp; omega
    ·obtain ⟨yj,hyj⟩:∃ yj,kvs[j]?=some yj:=⟨_,jae (by omega)⟩
     obtain ⟨ej,p1,_,p3,_⟩:=g4 j yj hyj
     have:es[j]=ej:=by rw [jas (by omega)] at p1; exact Option.some.inj p1
     rw [this,p3]; simp; omega
   obtain ⟨he,hh⟩:=map_set (kvs':=kvs.set i.toNat (y.1,v)) (es':=es.modify i.toNat fun e=>{ e with val:=a.eval x }) hr hB g1 g2 g4 hone hx (by simp [g3]) (knG g3 q1 q3 _ ⟨q2,rfl,rfl⟩)
   refine ⟨undef,_,μ,.ud,_,n,.inr ⟨?_,rfl⟩,hk,hh,.ud,he⟩
   simp [execOp,ho,hmv,hsv,Instr.entryStore,MapKept.run_getObj_map g2,asInt,asIntOf,hfind,MapKept.run_setObj_map _ g2]
  ·exact hk.elim
 ·exact hk.elim
end
def kiM (ns:List Int):List UInt8:=ns.map fun n=>UInt8.ofNat n.toNat
theorem knh:∀ (l:List Int) (r:ByteArray),l.foldl (fun r n=>r.push (UInt8.ofNat n.toNat)) r=⟨r.data++(kiM l).toArray⟩
 | [],r=>by simp [kiM]
 | b::l,r=>by
  simp only [List.foldl_cons]
  rw [knh l]
  simp [ByteArray.push,kiM]
section
variable {P:Program} {o:Oper} {a:Act} {w:World} {O:Nat->Prop} {μ:Mu} {h:AH} {n:Nat} {K:K3}
theorem koh {S T e:TypeId} {x:Operand} {ns:List Int} (ho:o.op = .convert S T x) (hr:HR w O μ h n) (hS:elemO P S=some e) (he:P.underlying e=some (.int .u8)) (hT:P.underlying T=some .string)
  (hv:VR w O μ n (.sl (ns.map fun i=>[.sc (.int .u8 i)])) (a.eval x)) (hk:K (.sc (.string ⟨(kiM ns).toArray⟩)) h n):OpR P o a w O μ n K:=by
 have hS':P.underlying S=some (.slice e):=by
  unfold elemO at hS; split at hS
  ·cases hS; assumption
  ·cases hS
 refine OpR.value hr (u:=.string ⟨(kiM ns).toArray⟩) ?_ (.sc _ rfl) hk
 simp only [execOp,ho]
 refine kan ?_
 have e0:ByteArray.empty.data = #[]:=rfl
 have run:∀ (b:Addr) (c:Nat),(loadCells b ns.length).run P w = .ok (ns.map (Value.int .u8)).toArray w->(convert S T (.slice (some b) ns.length c)).run P w = .ok (.string ⟨(kiM ns).toArray⟩) w:=fun b c hl=>by
  rw [run_convert_bytes_string w S T e (some b) _ c hS' he hT,run_bytesToString w b _ c ns hl,knh,e0]
  simp
 generalize hes:ns.map (fun i=>[AV.sc (.int .u8 i)])=es at hv
 generalize a.eval x=u at hv
 cases hv with
 | slnil p=>
  obtain rfl:ns=[]:=by simpa using hes
  cases p with
  | none=>rw [run_convert_bytes_string w S T e none 0 0 hS' he hT]; rfl
  | some b=>exact run b 0 (by obtain ⟨b1,b2,b3⟩:=b; exact run_loadCells_list w _ [] fun j v hj=>by simp at hj)
 | sl _ b o2 cap k us hcap hmax hA hk2 hc h1 hr2=>
  have hlen:es.length=ns.length:=by rw [<-hes]; simp
  rw [hlen]
  refine run _ _ ?_
  have:=keA (P:=P) (w:=w) (b:=b) (o:=o2) (vals:=ns.map (Value.int .u8)) (m:=ns.length) (fun j v hj=>?_) (by simp)
  ·exact this
  ·simp only [jaw,jab] at hj
   obtain ⟨i,hi,rfl⟩:=hj
   have hej:es[j]?=some [.sc (.int .u8 i)]:=by rw [<-hes,jaw,hi]; rfl
   have hk1:=hk2 j _ hej
   simp at hk1
   subst hk1
   have h2:=hc j _ hej 0 _ rfl
   have h3:=(hr2 j _ hej 0 _ rfl).sc_inv
   rw [h3] at h2
   simpa using h2
end
def HC (P:Program) (f:FuncId) (args:List AV) (h:AH) (n:Nat) (R:K3):Prop:=
 (∃ fn,P.funcs[f]?=some fn/\fn.body.isSome=true/\(fn.name== "runtime.NumGoroutine")=false)/\
 ∀ (O:Nat->Prop) (μ:Mu) (w:World) (vs:Array Value),HR w O μ h n->vs.size=args.length->(∀ (j:Nat) (c:AV),args[j]?=some c->∃ u,vs[j]?=some u/\VR w O μ n c u)->
  Calls P f vs w (fun e w'=>∃ u v h' n' μ',e = .returned u/\R v h' n'/\HR w' O μ' h' n'/\VR w' O μ' n' v u/\Evo w μ n w' μ' n')
theorem HC.mono {P:Program} {f:FuncId} {args:List AV} {h:AH} {n:Nat} {R R':K3} (hc:HC P f args h n R) (hr:∀ v h' n',R v h' n'->R' v h' n'):HC P f args h n R':=
 ⟨hc.1,fun O μ w vs h1 h2 h3=>(hc.2 O μ w vs h1 h2 h3).mono fun _ _ ⟨u,v,h',n',μ',q1,q2,q3⟩=>⟨u,v,h',n',μ',q1,hr _ _ _ q2,q3⟩⟩
def callK (P:Program) (h:AH) (n:Nat) (f:AV) (args:List AV) (K:K3):Prop:=
 match f with
 | .fn g caps=>HC P g (args++caps) h n K
 | _=>False
def kct (P:Program) (h:AH) (T:TypeId) (x i:AV) (K:AV->Prop):Prop:=
 match i with
 | .sc (.int _ i)=>match x with
  | .sl es=>match elemO P T with
   | some e=>0<=i/\∃ c,es[i.toNat]?=some c/\c.length=P.cellsOf e/\c.length≠0/\K (.fp c)
   | none=>False
  | .ms id off len=>match elemO P T,h id with
   | some e,some (.cells k _ _)=>0<=i/\i<len/\k=P.cellsOf e/\k≠0/\K (.own id (off+i.toNat) 0)
   | _,_=>False
  | .own id a j=>match arrO P T,h id with
   | some (m,e),some (.cells _ _ _)=>0<=i/\i<m/\P.cellsOf e≠0/\K (.own id a (j+i.toNat*P.cellsOf e))
   | _,_=>False
  | .fp cs=>match arrO P T with
   | some (m,e)=>0<=i/\i<m/\P.cellsOf e≠0/\K (.fp (cs.drop (i.toNat*P.cellsOf e)))
   | none=>False
  | _=>False
 | _=>False
def idxK (P:Program) (T:TypeId) (x i:AV) (K:AV->Prop):Prop:=
 match i with
 | .sc (.int _ i)=>match x with
  | .ag cs=>match arrO P T with
   | some (m,e)=>0<=i/\i<m/\P.cellsOf e≠0/\partK P e cs (i.toNat*P.cellsOf e) K
   | none=>False
  | .sc (.string s)=>P.underlying T=some .string/\0<=i/\∃ b,s[i.toNat]?=some b/\K (.sc (.int .u8 b.toNat))
  | _=>False
 | _=>False
def putAt (e:List AV) (j:Nat) (xs:List AV):List AV:=
 match xs with
 | [x]=>e.set j x
 | xs=>e.take j++xs++e.drop (j+xs.length)
theorem kbx {e:List AV} {j:Nat} {xs:List AV} (h:j+xs.length<=e.length):putAt e j xs=e.take j++xs++e.drop (j+xs.length):=by
 unfold putAt
 split
 ·simp only [List.length_singleton] at h
  rw [List.set_eq_take_append_cons_drop,if_pos (by omega)]
  simp
 ·rfl
def kbz (P:Program) (h:AH) (n:Nat) (T:TypeId) (p x:AV) (K:K3):Prop:=
 match p with
 | .own id i j=>match h id,kax x with
  | some (.cells k T' es),some xs=>match es[i]? with
   | some e=>xs.length=P.cellsOf T/\xs.length≠0/\j+xs.length<=e.length/\K .ud (updH h id (.cells k T' (es.set i (putAt e j xs)))) n
   | none=>False
  | _,_=>False
 | _=>False
def liveA (h:AH):AV->Bool
 | .fp _ | .fn _ _=>true
 | .own id _ _=>isCells (h id)
 | _=>false
def kah (P:Program) (env:Env) (h:AH) (n:Nat) (b:Builtin) (args:Array Operand) (ts:Array TypeId) (K:K3):Prop:=
 match b,args.toList,ts.toList with
 | .len,[x],[T]=>lenK P h T (ev env x) fun m=>K (.sc (.int .i64 m)) h n
 | .append,[s,x],[T,T2]=>kby P h n T T2 (ev env s) (ev env x) K
 | .copy,[d,x],[T,T2]=>copyK P h n T (ev env d) (ev env x) K
 | .min,[x,y],_=>match ev env x,ev env y with
  | .sc (.int k i),.sc (.int k' j)=>k=k'/\K (.sc (.int k (if j<i then j else i))) h n
  | _,_=>False
 | .max,[x,y],_=>match ev env x,ev env y with
  | .sc (.int k i),.sc (.int k' j)=>k=k'/\K (.sc (.int k (if i<j then j else i))) h n
  | _,_=>False
 | .min,[x,y,q],_=>match ev env x,ev env y,ev env q with
  | .sc (.int k i),.sc (.int k' j),.sc (.int k'' l)=>(k=k'/\k=k'')/\K (.sc (.int k (if l<(if j<i then j else i) then l else (if j<i then j else i)))) h n
  | _,_,_=>False
 | .max,[x,y,q],_=>match ev env x,ev env y,ev env q with
  | .sc (.int k i),.sc (.int k' j),.sc (.int k'' l)=>(k=k'/\k=k'')/\K (.sc (.int k (if (if i<j then j else i)<l then l else (if i<j then j else i)))) h n
  | _,_,_=>False
 | _,_,_=>False
def convK (P:Program) (S T:TypeId) (x:AV) (K:AV->Prop):Prop:=
 match x with
 | .sc (.int _ i)=>match intO P T with
  | some k'=>(P.underlying S).isSome=true/\K (.sc (.int k' (k'.wrap i)))
  | none=>∃ v,(∀ k w,(convert S T (.int k i)).run P w = .ok v w)/\v.oneCell'=true/\K (.sc v)
 | .sc u=>∃ v,(∀ w,(convert S T u).run P w = .ok v w)/\v.oneCell'=true/\K (.sc v)
 | .sl es=>(∃ e,elemO P S=some e/\P.underlying e=some (.int .u8))/\P.underlying T=some .string/\∃ ns:List Int,es=ns.map (fun i=>[.sc (.int .u8 i)])/\K (.sc (.string ⟨(kiM ns).toArray⟩))
 | _=>False
def unK (op:UnOp) (x:AV) (K:AV->Prop):Prop:=
 match op,x with
 | .not,.sc (.bool b)=>K (.sc (.bool (!b)))
 | .neg,.sc (.int k i)=>K (.sc (.int k (k.wrap (0-i))))
 | _,_=>False
def aop (P:Program) (env:Env) (h:AH) (n:Nat) (o:Oper) (K:K3):Prop:=
 match o.op with
 | .move x=>K (ev env x) h n
 | .assign x=>K (ev env x) h n
 | .pick c a b=>match ev env c with
  | .sc (.bool t)=>K (if t then ev env a else ev env b) h n
  | _=>False
 | .alloc T=>match zeroO P T with
  | some z=>K (.own n 0 0) (updH h n (.cells z.length T [z])) (n+1)
  | none=>False
 | .box T x=>match kax (ev env x) with
  | some cs=>K (.own n 0 0) (updH h n (.cells cs.length T [cs])) (n+1)
  | none=>False
 | .load T x=>match deref h (ev env x) with
  | some cs=>loadK P h n T cs K
  | none=>False
 | .store T p x=>kbz P h n T (ev env p) (ev env x) K
 | .nilCheck x=>liveA h (ev env x)=true/\K (ev env x) h n
 | .binOp op T x y _=>abin P h op T (ev env x) (ev env y) fun v=>K v h n
 | .unOp op _ x=>unK op (ev env x) fun v=>K v h n
 | .convert S T x=>convK P S T (ev env x) fun v=>K v h n
 | .makeFunc (.func f) first caps=>first = #[]/\K (.fn f (caps.toList.map (ev env))) h n
 | .makeSlice T x y=>match elemO P T with
  | some e=>match zeroO P e,ev env x,ev env y with
   | some z,.sc (.int _ i),.sc (.int _ j)=>i=j/\0<=i/\i<=1048576/\P.bytesOf e<=1024/\z≠[]/\K (.ms n 0 i.toNat) (updH h n (.cells z.length e (List.replicate i.toNat z))) (n+1)
   | _,_,_=>False
  | none=>False
 | .slice T x lo hi none=>keC P h T (ev env x) (lo.map (ev env)) (hi.map (ev env)) fun v=>K v h n
 | .fieldAddr T x f=>match fldO P T f with
  | some (d,_)=>match ev env x with
   | .fp cs=>K (.fp (cs.drop d)) h n
   | .own id i j=>isCells (h id)=true/\K (.own id i (j+d)) h n
   | _=>False
  | none=>False
 | .field T x f=>match fldO P T f,ev env x with
  | some (d,t),.ag cs=>partK P t cs d fun v=>K v h n
  | _,_=>False
 | .indexAddr T x i=>kct P h T (ev env x) (ev env i) fun v=>K v h n
 | .index T x i=>idxK P T (ev env x) (ev env i) fun v=>K v h n
 | .extract x i=>match ev env x with
  | .tp cs=>∃ c,cs[i]?=some c/\K c h n
  | _=>False
 | .build T parts=>match zeroO P T,kjt P T with
  | some z,some pl=>match fillS pl env parts.toList z with
   | some cs=>K (.ag cs) h n
   | none=>False
  | _,_=>False
 | .buildSlice T len parts=>match elemO P T with
  | some e=>match zeroO P e with
   | some z=>len<=1000/\z.length<=1000/\match fillE z.length env parts.toList (List.replicate len z) with
    | some es=>K (.ms n 0 len) (updH h n (.cells z.length e es)) (n+1)\/K (.sl es) h n\/(len=0/\K .e0 h n)
    | none=>False
   | none=>False
  | none=>False
 | .makeMap T none=>K (.mp n) (updH h n (.map [])) (n+1)
 | .lookup T m k ok=>kgV P h T (ev env m) (ev env k) ok fun v=>K v h n
 | .mapUpdate T m k x=>kjv P h n T (ev env m) (ev env k) (ev env x) K
 | .mapEntry T m k=>klf P h n T (ev env m) (ev env k) K
 | .entryStore T m st x=>knq h n (ev env m) (ev env st) (ev env x) K
 | .range T x=>knE P h n T (ev env x) K
 | .next x true=>nextK h n (ev env x) K
 | .call c=>match c.callee with
  | .builtin b=>kah P env h n b c.args c.argTypes K
  | .value f=>callK P h n (ev env f) (c.args.toList.map (ev env)) K
  | .invoke _ _=>False
 | _=>False
section
variable {P:Program} {o:Oper} {a:Act} {w:World} {O:Nat->Prop} {μ:Mu} {h:AH} {n:Nat} {K:K3} {env:Env}
theorem koR {a:Act} {x:Next} {w':World} (h:(execOp a.eval o).run P w = .ok x w') (hx:∀ d,x≠.defer d):∀ c,o.op≠.defer c:=fun c hc=>by
 unfold execOp at h
 rw [hc] at h
 simp only [Sem.run_bind] at h
 cases hr:(resolve a.eval c o.type).run P w with
 | ok d w1=>rw [hr] at h; simp only [Result.andThen_ok,Sem.run_pure,Result.ok.injEq] at h; exact hx d h.1.symm
 | halt e w1=>rw [hr] at h; simp [Result.andThen] at h
def OpW (P:Program) (o:Oper) (a:Act) (w:World) (O:Nat->Prop) (μ:Mu) (n:Nat) (K:K3):Prop:=
 ∀ (ro:Option Nat) (next:Act->World->Prop) (Q:Exit->Act->World->Prop),(∀ u w' μ' v h' n',K v h' n'->HR w' O μ' h' n'->VR w' O μ' n' v u->Evo w μ n w' μ' n'->next (a.put o.dst u) w')->o.wpIn (FF ro) 0 P a w next Q
theorem OpR.toW (hR:OpR P o a w O μ n K):OpW P o a w O μ n K:=by
 obtain ⟨u,w',μ',v,h',n',hrun,hk,h1,h2,h3⟩:=hR
 intro ro next Q hn
 unfold Oper.wpIn
 refine ⟨fun _ _=>trivial,?_⟩
 rcases hrun with hrun | ⟨hrun,rfl⟩
 ·rw [Oper.semAt_eq _ _ _ (koR hrun fun d e=>by cases e),hrun,Oper.uponIn_value]; exact hn u w' μ' v h' n' hk h1 h2 h3
 ·rw [Oper.semAt_eq _ _ _ (koR hrun fun d e=>by cases e),hrun,Oper.uponIn_skip]; exact hn undef w' μ' v h' n' hk h1 h2 h3
theorem kxx {c:Call} {f:Operand} (ho:o.op = .call c) (hf:c.callee = .value f) (hr:HR w O μ h n) (hv:∀ x,VR w O μ n (ev env x) (a.eval x)) (hk:callK P h n (ev env f) (c.args.toList.map (ev env)) K):OpW P o a w O μ n K:=by
 intro ro next Q hn
 unfold callK at hk
 have hfv:=hv f
 generalize hu:a.eval f=u at hfv
 split at hk
 ·rename_i g caps hcap
  rw [hcap] at hfv
  obtain ⟨⟨fn,hfn,hbody,hname⟩,hk⟩:=hk
  cases hfv with
  | fn _ _ vs us hs hc hr'=>
   have hrun:(execOp a.eval o).run P w = .ok (.enter g (c.args.map a.eval++vs)) w:=by
    have hb:fn.body≠none:=by intro hfb; rw [hfb] at hbody; cases hbody
    have hnm:fn.name≠ "runtime.NumGoroutine":=by intro hnn; rw [hnn] at hname; simp at hname
    simp [execOp,ho,resolve,hf,hu,Deferred.ofValue,invoke,callFunc,hfn,hnm,hb]
   unfold Oper.wpIn
   refine ⟨fun _ _=>trivial,?_⟩
   rw [Oper.semAt_eq _ _ _ (koR hrun fun d e=>by cases e),hrun,Oper.uponIn_enter]
   refine ⟨(fun e=>by cases e),callsIn_FF.2 ?_⟩
   refine (hk O μ w _ hr (by simp [hs]) (fun j x hj=>?_)).mono ?_
   ·rw [jbm] at hj
    rw [Array.getElem?_append]
    simp only [jar,jci,Array.size_map] at hj ⊢
    split at hj
    ·rename_i hlt
     rw [if_pos hlt]
     simp only [jaw,jab,jcl] at hj
     obtain ⟨y,hy,rfl⟩:=hj
     exact ⟨a.eval y,by simp [hy],hv y⟩
    ·rename_i hge
     rw [if_neg hge]
     exact ⟨_,hc _ x hj,hr' _ x hj⟩
   ·rintro e w' ⟨u',v,h',n',μ',rfl,q1,q2,q3,q4⟩
    exact hn u' w' μ' v h' n' q1 q2 q3 q4
 ·exact hk.elim
theorem knF (hk:aop P env h n o K) (hr:HR w O μ h n) (hv:∀ x,VR w O μ n (ev env x) (a.eval x)):OpW P o a w O μ n K:=by
 unfold aop at hk
 split at hk
 ·rename_i x ho; exact (ktc (.inl ho) hr (hv x) hk).toW
 ·rename_i x ho; exact (ktc (.inr ho) hr (hv x) hk).toW
 ·rename_i c x y ho
  split at hk
  ·rename_i t hc; have:=hv c; rw [hc] at this; exact (kxt ho hr this (hv x) (hv y) hk).toW
  ·exact hk.elim
 ·rename_i T ho
  split at hk
  ·rename_i z hz; exact (kxr ho hr hz hk).toW
  ·exact hk.elim
 ·rename_i T x ho
  split at hk
  ·rename_i cs hc; exact (kyz ho hr (hv x) hc hk).toW
  ·exact hk.elim
 ·rename_i T x ho
  split at hk
  ·rename_i cs hc; exact (kxw ho hr (hv x) hc hk).toW
  ·exact hk.elim
 ·rename_i T p x ho
  unfold kbz at hk
  split at hk
  ·rename_i id i j hp
   split at hk
   ·rename_i k T' es xs hB hx
    split at hk
    ·rename_i e he
     obtain ⟨h1,h2,h3,hk⟩:=hk
     have:=hv p; rw [hp] at this
     rw [kbx h3] at hk
     exact (kxo ho hr this hB he (hv x) hx h1 h2 h3 hk).toW
    ·exact hk.elim
   ·exact hk.elim
  ·exact hk.elim
 ·rename_i x ho
  obtain ⟨hl,hk⟩:=hk
  have hx:=hv x
  generalize ev env x=v at *
  cases v <;> simp only [liveA,jaj] at hl
  ·obtain ⟨k,T,es,hB⟩:=kjU hl; exact (kpq ho hr hB hx hk).toW
  ·exact (kqc ho hr hx hk).toW
  ·exact (kqu ho hr hx hk).toW
 ·rename_i op T x y T2 ho; exact (kwu ho hr (hv x) (hv y) hk).toW
 ·rename_i op T x ho
  unfold unK at hk
  split at hk
  ·rename_i b hx; have:=hv x; rw [hx] at this; exact (kyg T ho hr this hk).toW
  ·rename_i k i hx; have:=hv x; rw [hx] at this; exact (kxY T ho hr this hk).toW
  ·exact hk.elim
 ·rename_i S T x ho
  unfold convK at hk
  split at hk
  ·rename_i k i hx
   have hxv:=hv x; rw [hx] at hxv
   split at hk
   ·rename_i k' hT; exact (kpS ho hr hk.1 hT hxv hk.2).toW
   ·obtain ⟨v,h1,h2,hk⟩:=hk; exact (kkT ho hr hxv (h1 k) h2 hk).toW
  ·rename_i u hx hxe
   have hxv:=hv x; rw [hxe] at hxv
   obtain ⟨v,h1,h2,hk⟩:=hk; exact (kkT ho hr hxv h1 h2 hk).toW
  ·rename_i es hx
   have hxv:=hv x; rw [hx] at hxv
   obtain ⟨⟨e,h1,h2⟩,h3,ns,rfl,hk⟩:=hk
   exact (koh ho hr h1 h2 h3 hxv hk).toW
  ·exact hk.elim
 ·rename_i f first caps ho
  obtain ⟨rfl,hk⟩:=hk
  exact (ksC ho hr hv hk).toW
 ·rename_i T x y ho
  split at hk
  ·rename_i e he
   split at hk
   ·rename_i z k i k' j hz hx hy
    obtain ⟨rfl,h0,h1,hb,hne,hk⟩:=hk
    have hxv:=hv x; rw [hx] at hxv
    have hyv:=hv y; rw [hy] at hyv
    exact (kst ho hr he hz hne hxv hyv h0 h1 hb hk).toW
   ·exact hk.elim
  ·exact hk.elim
 ·rename_i T x lo hi ho; exact (kxf ho hr hv hk).toW
 ·rename_i T x f ho
  split at hk
  ·rename_i d t hf
   have hxv:=hv x
   split at hk
   ·rename_i cs hx; rw [hx] at hxv; exact (koY ho hr hf hxv hk).toW
   ·rename_i id i j hx
    rw [hx] at hxv
    obtain ⟨hB,hk⟩:=hk
    obtain ⟨k,T',es,hB⟩:=kjU hB
    exact (kol ho hr hf hB hxv hk).toW
   ·exact hk.elim
  ·exact hk.elim
 ·rename_i T x f ho
  split at hk
  ·rename_i d t cs hf hx
   have hxv:=hv x; rw [hx] at hxv
   exact (kwP ho hr hf hxv hk).toW
  ·exact hk.elim
 ·rename_i T x i ho
  unfold kct at hk
  split at hk
  ·rename_i k i' hi
   have hiv:=hv i; rw [hi] at hiv
   have hxv:=hv x
   split at hk
   ·rename_i es hx
    rw [hx] at hxv
    split at hk
    ·rename_i e he
     obtain ⟨h0,c,hc,hl,hne,hk⟩:=hk
     exact (kpF ho hr he hxv hiv h0 hc hl hne hk).toW
    ·exact hk.elim
   ·rename_i id off len hx
    rw [hx] at hxv
    split at hk
    ·rename_i e k T' es he hB
     obtain ⟨h0,h1,h2,h3,hk⟩:=hk
     exact (kpH ho hr he hB h2 h3 hxv hiv h0 h1 hk).toW
    ·exact hk.elim
   ·rename_i id i0 j0 hx
    rw [hx] at hxv
    split at hk
    ·rename_i m e k T' es he hB
     obtain ⟨h0,h1,h2,hk⟩:=hk
     exact (klc ho hr he h2 hB hxv hiv h0 h1 hk).toW
    ·exact hk.elim
   ·rename_i cs hx
    rw [hx] at hxv
    split at hk
    ·rename_i m e he
     obtain ⟨h0,h1,h2,hk⟩:=hk
     exact (kmb ho hr he h2 hxv hiv h0 h1 hk).toW
    ·exact hk.elim
   ·exact hk.elim
  ·exact hk.elim
 ·rename_i T x i ho
  unfold idxK at hk
  split at hk
  ·rename_i k i' hi
   have hiv:=hv i; rw [hi] at hiv
   have hxv:=hv x
   split at hk
   ·rename_i cs hx
    rw [hx] at hxv
    split at hk
    ·rename_i m e he
     obtain ⟨h0,h1,h2,hk⟩:=hk
     exact (ksh ho hr he h2 hxv hiv h0 h1 hk).toW
    ·exact hk.elim
   ·rename_i s hx
    rw [hx] at hxv
    obtain ⟨hT,h0,b,hb,hk⟩:=hk
    exact (kse ho hr hT hxv hiv h0 hb hk).toW
   ·exact hk.elim
  ·exact hk.elim
 ·rename_i x i ho
  split at hk
  ·rename_i cs hx
   obtain ⟨c,hc,hk⟩:=hk
   have hxv:=hv x; rw [hx] at hxv
   exact (kuJ ho hr hxv hc hk).toW
  ·exact hk.elim
 ·rename_i T parts ho
  split at hk
  ·rename_i z pl hz hp
   split at hk
   ·rename_i cs hf; exact (kwJ ho hr hv hz hp hf hk).toW
   ·exact hk.elim
  ·exact hk.elim
 ·rename_i T len parts ho
  split at hk
  ·rename_i e he
   split at hk
   ·rename_i z hz
    obtain ⟨h1,h2,hk⟩:=hk
    split at hk
    ·rename_i es hf
     rcases hk with hk | hk | ⟨rfl,hk⟩
     ·exact (kqL ho hr he hv hz h1 h2 hf hk).toW
     ·exact (kpT ho hr he hv hz h1 h2 hf hk).toW
     ·exact (kqw ho hr he hv hz h2 hf hk).toW
    ·exact hk.elim
   ·exact hk.elim
  ·exact hk.elim
 ·rename_i T ho; exact (kuI ho hr hk).toW
 ·rename_i T m k ok ho; exact (kvS ho hr (hv m) (hv k) hk).toW
 ·rename_i T m k x ho; exact (ksm ho hr (hv m) (hv k) (hv x) hk).toW
 ·rename_i T m k ho; exact (ksD ho hr (hv m) (hv k) hk).toW
 ·rename_i T m st x ho; exact (kqQ ho hr (hv m) (hv st) (hv x) hk).toW
 ·rename_i T x ho; exact (kxd ho hr (hv x) hk).toW
 ·rename_i x ho; exact (kxs ho hr (hv x) hk).toW
 ·rename_i c ho
  split at hk
  ·rename_i b hb
   unfold kah at hk
   obtain ⟨callee,args,ts⟩:=c
   simp only at hb hk
   subst hb
   have eq1:∀ {α:Type} {xs:Array α} {l:List α},xs.toList=l->xs=l.toArray:=fun h=>by rw [<-h]
   split at hk
   ·rename_i x T ha ht
    rw [eq1 ha,eq1 ht] at ho
    exact (kyo ho hr (hv x) hk).toW
   ·rename_i s x T T2 ha ht
    rw [eq1 ha,eq1 ht] at ho
    exact (kvW ho hr (hv s) (hv x) hk).toW
   ·rename_i d x T T2 ha ht
    rw [eq1 ha,eq1 ht] at ho
    exact (kxV ho hr (hv d) (hv x) hk).toW
   ·rename_i ts' x y ha
    rw [eq1 ha] at ho
    split at hk
    ·rename_i k i k' j hx hy
     obtain ⟨rfl,hk⟩:=hk
     have hxv:=hv x; rw [hx] at hxv
     have hyv:=hv y; rw [hy] at hyv
     exact ((kpR hr hxv hyv).1 ho hk).toW
    ·exact hk.elim
   ·rename_i ts' x y ha
    rw [eq1 ha] at ho
    split at hk
    ·rename_i k i k' j hx hy
     obtain ⟨rfl,hk⟩:=hk
     have hxv:=hv x; rw [hx] at hxv
     have hyv:=hv y; rw [hy] at hyv
     exact ((kpR hr hxv hyv).2 ho hk).toW
    ·exact hk.elim
   ·rename_i ts' x y q ha
    rw [eq1 ha] at ho
    split at hk
    ·rename_i k i k' j k'' l hx hy hq
     obtain ⟨⟨rfl,rfl⟩,hk⟩:=hk
     have hxv:=hv x; rw [hx] at hxv
     have hyv:=hv y; rw [hy] at hyv
     have hqv:=hv q; rw [hq] at hqv
     exact ((koF hr hxv hyv hqv).1 ho hk).toW
    ·exact hk.elim
   ·rename_i ts' x y q ha
    rw [eq1 ha] at ho
    split at hk
    ·rename_i k i k' j k'' l hx hy hq
     obtain ⟨⟨rfl,rfl⟩,hk⟩:=hk
     have hxv:=hv x; rw [hx] at hxv
     have hyv:=hv y; rw [hy] at hyv
     have hqv:=hv q; rw [hq] at hqv
     exact ((koF hr hxv hyv hqv).2 ho hk).toW
    ·exact hk.elim
   ·exact hk.elim
  ·rename_i f hf; exact kxx ho hf hr hv hk
  ·exact hk.elim
 ·exact hk.elim
end
end Go.Abs
