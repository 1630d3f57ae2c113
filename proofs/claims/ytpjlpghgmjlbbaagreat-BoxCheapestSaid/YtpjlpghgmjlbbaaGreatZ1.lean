/- The machinery, part 1. -/
import Derived.WalkKit
import Derived.OrdersIn
import Derived.RangeFuncRecord
import Derived.RangeFuncLeaves
import Derived.Laws.Cover1
import Derived.Laws.Cover3
import Derived.Laws.StructEq
import Derived.ChangeKeysEq
import Derived.MapKept
import Derived.Laws.RangeString
import Derived.Laws.BytesString
set_option linter.constructorNameAsVariable false
set_option linter.unusedVariables false
set_option linter.unusedSimpArgs false
set_option linter.unusedSectionVars false
abbrev Ya:=List
abbrev Yb:=Option
abbrev Yc:=Go.TypeId
abbrev Yd:=Go.Program
abbrev Ye:=Go.Value
abbrev Yf:=Go.Operand
abbrev jaa:=@Option.bind_eq_some_iff
abbrev jab:=@Option.bind_some
abbrev jac:=@Bool.and_eq_true
abbrev jad:=@Option.map_eq_some_iff
abbrev jae:=@List.getElem?_eq_getElem
abbrev jaf:=@List.getElem?_eq_some_iff
abbrev jag:=@Nat.le_refl
abbrev jah:=@Array.getD_eq_getD_getElem?
abbrev jai:=@Bool.false_eq_true
abbrev jaj:=@decide_eq_true_eq
abbrev jak:=@List.mem_of_getElem?
abbrev jal:=@Array.getElem?_eq_some_iff
abbrev jam:=@List.all_eq_true
abbrev jan:=@Nat.lt_of_lt_of_le
abbrev jao:=@Option.isSome_iff_exists
abbrev jap:=@List.map_cons
abbrev jaq:=@List.length_map
abbrev jar:=@List.getElem?_drop
abbrev jas:=@List.getElem?_map
abbrev jat:=@Bool.or_eq_true
abbrev jau:=@List.append_assoc
abbrev jav:=@Array.getElem?_eq_getElem
abbrev jaw:=@List.mem_append
abbrev jax:=@List.mem_cons_of_mem
abbrev jay:=@Int.toNat_natCast
abbrev jaz:=@Bool.eq_false_or_eq_true
abbrev jba:=@List.getD_eq_getElem?_getD
abbrev jbb:=@List.mem_map
abbrev jbc:=@List.nil_append
abbrev jbd:=@Bool.not_eq_true'
abbrev jbe:=@List.append_nil
abbrev jbf:=@List.mem_iff_getElem?
abbrev jbg:=@List.getElem?_set_ne
abbrev jbh:=@List.length_append
abbrev jbi:=@List.length_take
abbrev jbj:=@List.zipIdx_cons
abbrev jbk:=@Bool.not_eq_true
abbrev jbl:=@Nat.lt_succ_self
abbrev jbm:=@List.getElem?_append
abbrev jbn:=@Nat.mul_le_mul_right
abbrev jbo:=@List.getElem?_append_left
abbrev jbp:=@List.take_of_length_le
abbrev jbq:=@List.mem_cons
abbrev jbr:=@List.getElem?_take
abbrev jbs:=@List.length_set
abbrev jbt:=@List.any_eq_true
abbrev jbu:=@List.contains_iff_mem
abbrev jbv:=@List.eq_nil_of_length_eq_zero
abbrev jbw:=@List.drop_eq_nil_of_le
abbrev jbx:=@List.getElem?_set_self
abbrev jby:=@List.getElem?_cons_succ
abbrev jbz:=@List.getElem?_toArray
abbrev jca:=@Nat.le_succ
abbrev jcb:=@Option.getD_some
abbrev jcc:=@Nat.add_mul
abbrev jcd:=@List.getElem?_replicate
abbrev jce:=@Array.all_eq_true_iff_forall_mem
abbrev jcf:=@Nat.zero_add
abbrev jcg:=@Bool.not_true
abbrev jch:=@List.getElem?_eq_none
abbrev jci:=@List.mem_filterMap
abbrev jcj:=@List.getElem?_append_right
abbrev jck:=@Option.map_some
abbrev jcl:=@List.mem_of_mem_take
abbrev jcm:=@List.map_append
abbrev jcn:=@Bool.false_or
abbrev jco:=@Array.length_toList
abbrev jcp:=@List.drop_zero
abbrev jcq:=@Int.le_refl
abbrev jcr:=@Array.getElem?_toList
abbrev jcs:=@List.mem_cons_self
abbrev jct:=@Option.any_eq_true
abbrev jcu:=@List.filterMap_cons
abbrev jcv:=@List.length_cons
abbrev jcw:=@List.isEmpty_iff
abbrev jcx:=@Array.getElem?_setIfInBounds_ne
abbrev jcy:=@List.getElem?_set
abbrev jcz:=@Bool.not_false
abbrev jda:=@Nat.le_trans
abbrev jdb:=@List.length_replicate
abbrev jdc:=@List.eq_nil_iff_forall_not_mem
abbrev jdd:=@List.getElem?_cons_zero
abbrev jde:=@List.nodup_cons
abbrev jdf:=@Option.ite_none_right_eq_some
abbrev jdg:=@Nat.lt_or_ge
abbrev jdh:=@List.getElem?_of_mem
abbrev jdi:=@List.mem_of_mem_drop
abbrev jdj:=@List.mem_singleton
abbrev jdk:=@List.findSome?_cons
abbrev jdl:=@List.mem_range
abbrev jdm:=@List.take_zero
abbrev jdn:=@Bool.or_eq_false_iff
abbrev jdo:=@Option.isNone_iff_eq_none
abbrev jdp:=@List.cons_append
abbrev jdq:=@List.any_cons
abbrev jdr:=@List.map_eq_nil_iff
abbrev jds:=@List.getElem?_take_of_lt
abbrev jdt:=@List.mem_zipIdx_iff_getElem?
abbrev jdu:=@List.mapM_cons
abbrev jdv:=@List.mem_iff_getElem
abbrev jdw:=@List.length_drop
abbrev jdx:=@List.getElem_mem
abbrev jdy:=@Array.getElem?_append_left
abbrev jdz:=@Array.getElem?_eq_none
abbrev jea:=@List.nodup_append
abbrev jeb:=@List.mem_filter
abbrev jec:=@Nat.add_assoc
abbrev jed:=@List.all_cons
abbrev jee:=@Nat.succ_mul
abbrev jef:=@Nat.lt_succ_of_lt
abbrev jeg:=@Bool.eq_false_iff
abbrev jeh:=@List.map_nil
abbrev jei:=@Bool.true_and
namespace Go.Abs
open Go Go.RowKit
inductive AV where
 | sc (v:Value)
 | ud
 | un
 | e0
 | own (id i j:Nat)
 | ms (id off len:Nat)
 | mp (id:Nat)
 | fp (cs:List AV)
 | sl (es:List (List AV))
 | fn (f:FuncId) (caps:List AV)
 | ag (cs:List AV)
 | tp (vs:List AV)
 | gs (es:List (List AV))
def AV.one:AV->Bool
 | .ud | .un | .ag _ | .tp _ | .gs _=>false
 | .sc v=>v.oneCell'
 | _=>true
def AV.vl:AV->Bool
 | .ag _=>true
 | v=>v.one
abbrev Mu:=Nat->Option (Nat×Nat)
def Av (O:Nat->Prop) (μ:Mu) (b:Nat):Prop:=O b\/∃ id k,μ id=some (b,k)
def MsAt (w:World) (b k off len:Nat) (v:Ye):Prop:=
 ∃ o cap c T,v = .slice (some ⟨b,o,none⟩) len cap/\len<=cap/\cap<=maxLen/\(cap≠0->o=off*k)/\w.heap[b]?=some (.cells c T (0,0))/\(off+cap)*k=c.size
inductive VR (w:World) (O:Nat->Prop) (μ:Mu) (n:Nat):AV->Value->Prop where
 | sc (v:Value) (h:v.oneCell'=true):VR w O μ n (.sc v) v
 | ud:VR w O μ n .ud undef
 | un (v:Value):VR w O μ n .un v
 | gs (es:List (List AV)):VR w O μ n (.gs es) undef
 | e0 (p:Option Addr):VR w O μ n .e0 (.slice p 0 0)
 | own (id i j:Nat) (v:Value) (h:id<n) (h1:v.oneCell'=true) (hv:∀ b k,μ id=some (b,k)->v = .pointer (some ⟨b,i*k+j,none⟩)):VR w O μ n (.own id i j) v
 | ms (id off len:Nat) (v:Value) (h:id<n) (h1:v.oneCell'=true) (hv:∀ b k,μ id=some (b,k)->MsAt w b k off len v):VR w O μ n (.ms id off len) v
 | mp (id:Nat) (v:Value) (h:id<n) (h1:v.oneCell'=true) (hv:∀ b k,μ id=some (b,k)->v = .map (some b)):VR w O μ n (.mp id) v
 | fp (cs:List AV) (b o:Nat) (us:Nat->Value) (hA:cs≠[]->¬ Av O μ b)
   (hc:∀ (j:Nat) (c:AV),cs[j]?=some c->w.cell? ⟨b,o+j,none⟩=some (us j)) (h1:∀ (j:Nat) (c:AV),cs[j]?=some c->c.one=true)
   (hr:∀ (j:Nat) (c:AV),cs[j]?=some c->VR w O μ n c (us j)):VR w O μ n (.fp cs) (.pointer (some ⟨b,o,none⟩))
 | slnil (p:Option Addr):VR w O μ n (.sl []) (.slice p 0 0)
 | sl (es:List (List AV)) (b o cap k:Nat) (us:Nat->Nat->Value) (hcap:es.length<=cap) (hmax:cap<=maxLen) (hA:∀ (i:Nat) (e:List AV),es[i]?=some e->e≠[]->¬ Av O μ b)
   (hk:∀ (i:Nat) (e:List AV),es[i]?=some e->e.length=k)
   (hc:∀ (i:Nat) (e:List AV),es[i]?=some e->∀ (j:Nat) (c:AV),e[j]?=some c->w.cell? ⟨b,o+i*k+j,none⟩=some (us i j)) (h1:∀ (i:Nat) (e:List AV),es[i]?=some e->∀ (j:Nat) (c:AV),e[j]?=some c->c.one=true)
   (hr:∀ (i:Nat) (e:List AV),es[i]?=some e->∀ (j:Nat) (c:AV),e[j]?=some c->VR w O μ n c (us i j)):VR w O μ n (.sl es) (.slice (some ⟨b,o,none⟩) es.length cap)
 | fn (f:FuncId) (caps:List AV) (vs:Array Value) (us:Nat->Value) (hs:vs.size=caps.length) (hc:∀ (j:Nat) (c:AV),caps[j]?=some c->vs[j]?=some (us j))
   (hr:∀ (j:Nat) (c:AV),caps[j]?=some c->VR w O μ n c (us j)):VR w O μ n (.fn f caps) (.func (.func f) #[] vs)
 | ag (cs:List AV) (vs:Array Value) (us:Nat->Value) (hs:vs.size=cs.length) (hc:∀ (j:Nat) (c:AV),cs[j]?=some c->vs[j]?=some (us j)) (h1:∀ (j:Nat) (c:AV),cs[j]?=some c->c.one=true)
   (hr:∀ (j:Nat) (c:AV),cs[j]?=some c->VR w O μ n c (us j)):VR w O μ n (.ag cs) (.agg vs)
 | tp (cs:List AV) (vs:Array Value) (us:Nat->Value) (hs:vs.size=cs.length) (hc:∀ (j:Nat) (c:AV),cs[j]?=some c->vs[j]?=some (us j))
   (hr:∀ (j:Nat) (c:AV),cs[j]?=some c->VR w O μ n c (us j)):VR w O μ n (.tp cs) (.tuple vs)
structure Evo (w:World) (μ:Mu) (n:Nat) (w':World) (μ':Mu) (n':Nat):Prop where
 os:w'.os=w.os
 tape:w'.tape=w.tape
 output:w'.output=w.output
 size:w.heap.size<=w'.heap.size
 le:n<=n'
 keep:∀ b,b<w.heap.size->(∀ id k,μ id≠some (b,k))->w'.heap[b]?=w.heap[b]?
 row:∀ (b:Nat) c T f,w.heap[b]?=some (.cells c T f)->∃ c',w'.heap[b]?=some (.cells c' T f)/\c'.size=c.size
 ids:∀ id,id<n->μ' id = μ id\/μ' id=none
 new:∀ id b k,μ' id=some (b,k)->n<=id->w.heap.size<=b\/∃ id0 k0,μ id0=some (b,k0)
theorem Evo.refl (w:World) (μ:Mu) (n:Nat) (e:∀ id b k,μ id=some (b,k)->id<n):Evo w μ n w μ n:=
 ⟨rfl,rfl,rfl,jag _,jag _,λ_ _ _=>rfl,λ_ c _ _ h=>⟨c,h,rfl⟩,λ_ _=>.inl rfl,λid b k h hn=>absurd (e id b k h) (by omega)⟩
theorem Evo.trans {w s t:World} {μ r p:Mu} {n n1 u:Nat} (h:Evo w μ n s r n1) (g:Evo s r n1 t p u):Evo w μ n t p u where
 os:=g.os.trans h.os
 tape:=g.tape.trans h.tape
 output:=g.output.trans h.output
 size:=jda h.size g.size
 le:=jda h.le g.le
 keep b hb hn:=by
  rw [g.keep b (jan hb h.size) ?_,h.keep b hb hn];intro id k j;rcases jdg id n with hi | hi
  ·rcases h.ids id hi with e | e
   ·rw [e] at j; exact hn id k j
   ·rw [e] at j; cases j
  ·rcases h.new id b k j hi with e | ⟨i,k0,e⟩
   ·omega
   ·exact hn i k0 e
 row b c T f hb:=by
  obtain ⟨x,l,z⟩:=h.row b c T f hb;obtain ⟨y,h2,v⟩:=g.row b x T f l;exact ⟨y,h2,v.trans z⟩
 ids id hi:=by
  rcases g.ids id (jan hi h.le) with e | e
  ·rw [e]; exact h.ids id hi
  ·exact .inr e
 new id b k j hi:=by
  rcases jdg id n1 with l | l
  ·rcases g.ids id l with e | e
   ·exact h.new id b k (e ▸ j) hi
   ·rw [e] at j; cases j
  ·rcases g.new id b k j l with e | ⟨i,k0,e⟩
   ·exact .inl (jda h.size e)
   ·rcases jdg i n with m | m
    ·rcases h.ids i m with e' | e'
     ·exact .inr ⟨i,k0,e' ▸ e⟩
     ·rw [e'] at e; cases e
    ·exact h.new i b k0 e m
theorem cell_heap {w:World} {b o:Nat} {v:Ye}:w.cell? ⟨b,o,none⟩=some v↔∃ c T f,w.heap[b]?=some (.cells c T f)/\c[o]?=some v:=by
 unfold World.cell?;constructor
 ·intro h;split at h
  ·rename_i c T f e;exact ⟨c,T,f,e,by simpa using h⟩
  ·cases h
 ·rintro ⟨c,T,f,e,g⟩;simp [e,g]
theorem kkm {w:World} {b o:Nat} {v:Ye} (h:w.cell? ⟨b,o,none⟩=some v):b<w.heap.size:=
 World.block_lt_of_cell? w ⟨b,o,none⟩ h
theorem kkU {w w':World} {b:Nat} (h:w'.heap[b]?=w.heap[b]?) (o:Nat):w'.cell? ⟨b,o,none⟩=w.cell? ⟨b,o,none⟩:=by
 simp only [World.cell?,h]
theorem Evo.av {w w':World} {μ i:Mu} {n n':Nat} {O:Nat->Prop} (h:Evo w μ n w' i n') {b:Nat} (j:b<w.heap.size) (g:Av O i b):Av O μ b:=by
 rcases g with g | ⟨id,k,c⟩
 ·exact .inl g
 ·rcases jdg id n with hi | hi
  ·rcases h.ids id hi with e | e
   ·exact .inr ⟨id,k,e ▸ c⟩
   ·rw [e] at c; cases c
  ·rcases h.new id b k c hi with e | ⟨f,k0,e⟩
   ·omega
   ·exact .inr ⟨f,k0,e⟩
theorem Evo.cell {w w':World} {μ g:Mu} {n n':Nat} {O:Nat->Prop} (h:Evo w μ n w' g n') {b o:Nat} {v:Ye} (f:¬ Av O μ b) (c:w.cell? ⟨b,o,none⟩=some v):w'.cell? ⟨b,o,none⟩=some v:=by
 rw [kkU (h.keep b (kkm c) λid k e=>f (.inr ⟨id,k,e⟩))];exact c
theorem VR.evo {w w':World} {μ C:Mu} {n n':Nat} {O:Nat->Prop} (h:Evo w μ n w' C n') {a:AV} {v:Ye} (t:VR w O μ n a v):VR w' O C n' a v:=by
 induction t with
 | sc v l=>exact .sc v l
 | ud=>exact .ud
 | gs es=>exact .gs es
 | un v=>exact .un v
 | e0 p=>exact .e0 p
 | own id i j v hi l t=>
  refine .own id i j v (jan hi h.le) l λb k r=>?_;rcases h.ids id hi with e | e
  ·exact t b k (e ▸ r)
  ·rw [e] at r; cases r
 | ms id off len v hi l t=>
  refine .ms id off len v (jan hi h.le) l λb k r=>?_;rcases h.ids id hi with e | e
  ·obtain ⟨o,cap,c,T,l,h2,I,G,F,L⟩:=t b k (e ▸ r);obtain ⟨c',J,H⟩:=h.row b c T (0,0) F;exact ⟨o,cap,c',T,l,h2,I,G,J,by rw [H]; exact L⟩
  ·rw [e] at r; cases r
 | mp id v hi l t=>
  refine .mp id v (jan hi h.le) l λb k r=>?_;rcases h.ids id hi with e | e
  ·exact t b k (e ▸ r)
  ·rw [e] at r; cases r
 | fp cs b o us hA m l _ s=>
  refine .fp cs b o us (λz B=>?_) (λj c g=>?_) l (λj c g=>s j c g)
  ·cases cs with
   | nil=>exact z rfl
   | cons c cs=>exact hA z (h.av (kkm (m 0 c rfl)) B)
  ·exact h.cell (hA (by rintro rfl; simp at g)) (m j c g)
 | slnil p=>exact .slnil p
 | sl es b o cap k us u A hA M m l _ s=>
  refine .sl es b o cap k us u A (λi e hi E B=>?_) M (λi e hi j c g=>?_) l (λi e hi j c g=>s i e hi j c g)
  ·cases e with
   | nil=>exact E rfl
   | cons c e=>exact hA i _ hi E (h.av (kkm (m i _ hi 0 c rfl)) B)
  ·exact h.cell (hA i e hi (by rintro rfl; simp at g)) (m i e hi j c g)
 | fn f y vs us x m _ s=>exact .fn f y vs us x m λj c g=>s j c g
 | ag cs vs us x m l _ s=>exact .ag cs vs us x m l λj c g=>s j c g
 | tp cs vs us x m _ s=>exact .tp cs vs us x m λj c g=>s j c g
inductive ABlk where
 | cells (k:Nat) (T:TypeId) (es:List (List AV))
 | map (kvs:List (Value×AV))
 | si (s:ByteArray) (pos:Nat)
abbrev AH:=Nat->Option ABlk
def BlkAt (w:World) (O:Nat->Prop) (μ:Mu) (n id:Nat):ABlk->Prop
 | .cells k T es=>∃ b c,μ id=some (b,k)/\w.heap[b]?=some (.cells c T (0,0))/\
   ∀ (i:Nat) (e:Ya AV),es[i]?=some e->e.length=k/\∀ (j:Nat) (a:AV),e[j]?=some a->a.one=true/\∃ u,c[i*k+j]?=some u/\VR w O μ n a u
 | .map f=>∃ b es,μ id=some (b,0)/\w.heap[b]?=some (.map es f.length)/\es.size=f.length/\
   ∀ (i:Nat) (x:Ye×AV),f[i]?=some x->∃ e,es[i]?=some e/\e.key=x.1/\e.born=i/\x.2.vl=true/\VR w O μ n x.2 e.val
 | .si s pos=>∃ b,μ id=some (b,0)/\w.heap[b]?=some (.stringIter s pos)
structure HR (w:World) (O:Nat->Prop) (μ:Mu) (h:AH) (n:Nat):Prop where
 olt:∀ b,O b->b<w.heap.size
 scope:∀ id b k,μ id=some (b,k)->id<n/\b<w.heap.size
 inj:∀ id id' b k k',μ id=some (b,k)->μ id'=some (b,k')->id=id'
 notO:∀ id b k,μ id=some (b,k)->¬ O b
 blk:∀ id B,h id=some B->BlkAt w O μ n id B
def updH (h:AH) (id:Nat) (B:ABlk):AH:=λi=>if i=id then some B else h i
def delH (h:AH) (id:Nat):AH:=λi=>if i=id then none else h i
def updM (μ:Mu) (id:Nat) (x:Nat×Nat):Mu:=λi=>if i=id then some x else μ i
def delM (μ:Mu) (id:Nat):Mu:=λi=>if i=id then none else μ i
theorem HR.refl {w:World} {O:Nat->Prop} {μ:Mu} {h:AH} {n:Nat} (hr:HR w O μ h n):Evo w μ n w μ n:=Evo.refl w μ n λid b k e=>(hr.scope id b k e).1
theorem BlkAt.evo {w w':World} {O:Nat->Prop} {μ r:Mu} {n n' id:Nat} {B:ABlk} (y:BlkAt w O μ n id B) (m:r id = μ id) (t:∀ b k,μ id=some (b,k)->w'.heap[b]?=w.heap[b]?) (z:Evo w μ n w' r n') :
  BlkAt w' O r n' id B:=by
 cases B with
 | cells k T es=>
  obtain ⟨b,c,f,h2,g⟩:=y;refine ⟨b,c,m.trans f,(t b k f).trans h2,λi e hi=>⟨(g i e hi).1,λj a A=>?_⟩⟩;obtain ⟨p,u,l,v⟩:=(g i e hi).2 j a A;exact ⟨p,u,l,v.evo z⟩
 | map C=>
  obtain ⟨b,es,f,h2,g,p⟩:=y;refine ⟨b,es,m.trans f,(t b 0 f).trans h2,g,λi x hi=>?_⟩;obtain ⟨e,l,v,G,E,F⟩:=p i x hi;exact ⟨e,l,v,G,E,F.evo z⟩
 | si s pos=>
  obtain ⟨b,f,h2⟩:=y;exact ⟨b,m.trans f,(t b 0 f).trans h2⟩
theorem HR.same {w w':World} {O:Nat->Prop} {μ:Mu} {h:AH} {n:Nat} (hr:HR w O μ h n) (g:w'.heap=w.heap) (h2:w'.os=w.os) (m:w'.tape=w.tape) (l:w'.output=w.output) :
  Evo w μ n w' μ n/\HR w' O μ h n:=by
 have j:Evo w μ n w' μ n:=⟨h2,m,l,by rw [g]; exact jag _,jag _,λ_ _ _=>by rw [g],λb c T f i=>⟨c,by rw [g]; exact i,rfl⟩,λ_ _=>.inl rfl,
  λid b k e hn=>absurd (hr.scope id b k e).1 (by omega)⟩
 refine ⟨j,λb i=>by rw [g]; exact hr.olt b i,λid b k e=>by rw [g]; exact hr.scope id b k e,hr.inj,hr.notO,λid B hB=>?_⟩;exact (hr.blk id B hB).evo rfl (λb k _=>by rw [g]) j
theorem HR.drew {w:World} {O:Nat->Prop} {μ:Mu} {h:AH} {n:Nat} (hr:HR w O μ h n):Evo w μ n w.drew μ n/\HR w.drew O μ h n:=hr.same rfl rfl rfl rfl
theorem kdW (w:World) (o:Obj) (b:Nat) (h:b<w.heap.size):(w.alloc o).heap[b]?=w.heap[b]?:=Below.heap_alloc w o b h
theorem kbO (w:World) (o:Obj):(w.alloc o).heap[w.heap.size]?=some o:=heap_alloc_new w o
theorem Evo.alloc {w:World} {O:Nat->Prop} {μ:Mu} {h:AH} {n:Nat} (hr:HR w O μ h n) (o:Obj) (k:Nat):Evo w μ n (w.alloc o) (updM μ n (w.heap.size,k)) (n+1) where
 os:=rfl
 tape:=rfl
 output:=rfl
 size:=by simp
 le:=by omega
 keep b hb _:=kdW w o b hb
 row b c T f hb:=⟨c,by rw [kdW w o b (jal.1 hb).1]; exact hb,rfl⟩
 ids id hi:=by unfold updM; rw [if_neg (by omega)]; exact .inl rfl
 new id b k' e hn:=by
  unfold updM at e;split at e
  ·cases e; exact .inl (jag _)
  ·have:=(hr.scope id b k' e).1; omega
theorem HR.alloc {w:World} {O:Nat->Prop} {μ:Mu} {h:AH} {n:Nat} (hr:HR w O μ h n) (o:Obj) (k:Nat) (B:ABlk) (hB:BlkAt (w.alloc o) O (updM μ n (w.heap.size,k)) (n+1) n B) :
  HR (w.alloc o) O (updM μ n (w.heap.size,k)) (updH h n B) (n+1) where
 olt b hb:=by have:=hr.olt b hb; simp; omega
 scope id b c e:=by
  unfold updM at e;split at e
  ·cases e; subst_vars; simp
  ·have:=hr.scope id b c e; simp; omega
 inj id id' b k1 k2 e1 e2:=by
  unfold updM at e1 e2;split at e1
  ·split at e2
   ·omega
   ·cases e1; have:=(hr.scope id' _ k2 e2).2; omega
  ·split at e2
   ·cases e2; have:=(hr.scope id _ k1 e1).2; omega
   ·exact hr.inj id id' b k1 k2 e1 e2
 notO id b c e:=by
  unfold updM at e;split at e
  ·cases e; intro g; have:=hr.olt _ g; omega
  ·exact hr.notO id b c e
 blk id B' hB':=by
  unfold updH at hB';split at hB'
  ·cases hB'; subst_vars; exact hB
  ·rename_i f;refine (hr.blk id B' hB').evo ?_ ?_ (Evo.alloc hr o k)
   ·unfold updM; rw [if_neg f]
   ·intro b c e;exact kdW w o b (hr.scope id b c e).2
theorem HR.del {w:World} {O:Nat->Prop} {μ:Mu} {h:AH} {n:Nat} (hr:HR w O μ h n) (id:Nat):Evo w μ n w (delM μ id) n/\HR w O (delM μ id) (delH h id) n:=by
 have g:∀ i b k,delM μ id i=some (b,k)->i≠id/\μ i=some (b,k):=λi b k e=>by
  unfold delM at e; split at e
  ·cases e
  ·exact ⟨by assumption,e⟩
 have m:Evo w μ n w (delM μ id) n:=⟨rfl,rfl,rfl,jag _,jag _,λ_ _ _=>rfl,λb c T f r=>⟨c,r,rfl⟩,
  λi _=>by unfold delM; split <;> simp,λi b k e hn=>absurd (hr.scope i b k (g i b k e).2).1 (by omega)⟩
 refine ⟨m,hr.olt,λi b k e=>hr.scope i b k (g i b k e).2,λi p b k l e e'=>hr.inj i p b k l (g i b k e).2 (g p b l e').2,λi b k e=>hr.notO i b k (g i b k e).2,λi B hB=>?_⟩;unfold delH at hB;split at hB
 ·cases hB
 ·rename_i j;exact (hr.blk i B hB).evo (by unfold delM; rw [if_neg j]) (λ_ _ _=>rfl) m
theorem HR.set {w w':World} {O:Nat->Prop} {μ:Mu} {h:AH} {n:Nat} (hr:HR w O μ h n) (id b k:Nat) (y:μ id=some (b,k)) (B:ABlk)
  (u:w'.os=w.os) (j:w'.tape=w.tape) (l:w'.output=w.output) (r:w'.heap.size=w.heap.size)
  (g:∀ i,i≠b->w'.heap[i]?=w.heap[i]?) (m:∀ c T f,w.heap[b]?=some (.cells c T f)->∃ c',w'.heap[b]?=some (.cells c' T f)/\c'.size=c.size)
  (hB:Evo w μ n w' μ n->BlkAt w' O μ n id B):Evo w μ n w' μ n/\HR w' O μ (updH h id B) n:=by
 have x:Evo w μ n w' μ n:=⟨u,j,l,by omega,jag _,λi hi hn=>g i (by rintro rfl; exact hn id k y),
  λi c T f t=>by
   by_cases p:i=b
   ·subst p; exact m c T f t
   ·exact ⟨c,by rw [g i p]; exact t,rfl⟩,
  λ_ _=>.inl rfl,λi b' s e hn=>absurd (hr.scope i b' s e).1 (by omega)⟩
 refine ⟨x,λb t=>by rw [r]; exact hr.olt b t,λi b' s e=>by rw [r]; exact hr.scope i b' s e,hr.inj,hr.notO,λi z hB'=>?_⟩;unfold updH at hB';split at hB'
 ·cases hB'; subst_vars; exact hB x
 ·rename_i v;refine (hr.blk i z hB').evo rfl (λb' s e=>g b' ?_) x;rintro rfl;exact v (hr.inj _ _ _ _ _ e y)
abbrev Env:=List (Nat×AV)
def lk:Env->Nat->AV
 | [],_=>.un
 | (d,v)::l,s=>if s=d then v else lk l s
def cst:Ye->AV
 | .tuple _=>.un
 | .agg cs=>if cs.all (·.oneCell') then .ag (cs.toList.map .sc) else .un
 | v=>.sc v
def ev (env:Env):Yf->AV
 | .tmp t=>lk env t
 | .const v=>cst v
 | .global _=>.un
 | .func f=>.fn f []
structure St where
 env:Env
 h:AH
 n:Nat
def FF (ro:Yb Nat):Fence:={ fn:=λ_=>True,depth:=none,alive:=false,round:=ro }
theorem callsIn_FF {ro:Yb Nat} {m:Nat} {P:Yd} {f:FuncId} {args:Array Ye} {w:World} {R:Ending->World->Prop}:CallsIn (FF ro) m P f args w R↔Calls P f args w R:=by
 rw [<-callsIn_wide (n:=m)]; exact Iff.rfl
def GS:Nat:=9000000
structure IterG where
 l:Nat
 xs:List (List AV)
 J:Nat->(Nat->Prop)->World->Prop
 Jx:World->Prop
structure DX where
 b:Nat
 it:Option IterG
def MarksOk (D:DX) (w:World) (μ:Mu) (c:Ya Deferred):Prop:=
 (D.it.isSome=true->c=[])/\D.b<=w.heap.size/\∃ bs:Ya Nat,bs.Nodup/\c=bs.map (λb=>({ target:=.collected b,args:=#[] }:Deferred))/\∀ b∈bs,D.b<=b/\w.heap[b]?=some (.deferred (some []))/\∀ id k,μ id≠some (b,k)
theorem MarksOk.nil (D:DX) (w:World) (μ:Mu) (c:D.b<=w.heap.size):MarksOk D w μ []:=⟨λ_=>rfl,c,[],List.nodup_nil,rfl,λb h=>by cases h⟩
theorem MarksOk.evo {D:DX} {w w':World} {μ m:Mu} {n n':Nat} {p:Ya Deferred} (h:MarksOk D w μ p) (e:Evo w μ n w' m n'):MarksOk D w' m p:=by
 obtain ⟨r,s,bs,u,h2,t⟩:=h;refine ⟨r,jda s e.size,bs,u,h2,λb v=>?_⟩;obtain ⟨g1,l,i⟩:=t b v;have j:=(jal.1 l).1;refine ⟨g1,(e.keep b j i).trans l,λid k f=>?_⟩;rcases jdg id n with hi | hi
 ·rcases e.ids id hi with c | c
  ·rw [c] at f; exact i id k f
  ·rw [c] at f; cases f
 ·rcases e.new id b k f hi with c | ⟨g,k0,c⟩
  ·omega
  ·exact i g k0 c
def GInv (D:DX) (O:Nat->Prop) (env:Env) (w:World) (μ:Mu):Prop:=
 match D.it with
 | none=>True
 | some g=>∃ W:World,Below W.heap.size W w/\(∀ id b k,μ id=some (b,k)->W.heap.size<=b)/\(match lk env GS with | .gs es=>g.J es.length O W | .ud=>g.Jx W | _=>True)
theorem Evo.belowW {W w w':World} {μ j:Mu} {n n':Nat} (e:Evo w μ n w' j n') (f:Below W.heap.size W w) (h2:∀ id b k,μ id=some (b,k)->W.heap.size<=b):Below W.heap.size W w'/\∀ id b k,j id=some (b,k)->W.heap.size<=b:=by
 have l:=f.size;refine ⟨⟨e.os.trans f.os,e.tape.trans f.tape,e.output.trans f.output,jda f.size e.size,λb m=>?_⟩,λid b k c=>?_⟩
 ·rw [e.keep b (by omega) λid k c=>by have:=h2 id b k c; omega];exact f.block b m
 ·rcases jdg id n with hi | hi
  ·rcases e.ids id hi with g | g
   ·rw [g] at c; exact h2 id b k c
   ·rw [g] at c; cases c
  ·rcases e.new id b k c hi with g | ⟨i,k0,g⟩
   ·omega
   ·exact h2 i b k0 g
def GOk (a a':AV):Prop:=a'=a\/((∀ es,a'≠.gs es)/\a'≠.ud)
theorem GOk.un {a:AV}:GOk a .un:=.inr ⟨(λes h=>by cases h),(λh=>by cases h)⟩
theorem GInv.evo {D:DX} {O:Nat->Prop} {env b:Env} {w w':World} {μ j:Mu} {n n':Nat} (h:GInv D O env w μ) (e:Evo w μ n w' j n') (m:D.it.isSome=true->GOk (lk env GS) (lk b GS)):GInv D O b w' j:=by
 unfold GInv at *
 cases f:D.it with
 | none=>trivial
 | some g=>
  rw [f] at h;obtain ⟨W,p,h2,l⟩:=h;obtain ⟨g1,k⟩:=e.belowW p h2;refine ⟨W,g1,k,?_⟩;rcases m (by rw [f]; rfl) with c | ⟨c,i⟩
  ·rw [c]; exact l
  ·generalize lk b GS=x at c i;cases x <;> first | trivial | exact absurd rfl (c _) | exact absurd rfl i
structure SR (N:Nat) (D:DX) (O:Nat->Prop) (μ:Mu) (st:St) (a:Act) (w:World):Prop where
 hr:HR w O μ st.h st.n
 size:a.tmps.size=N
 defers:MarksOk D w μ a.defers
 env:∀ s,VR w O μ st.n (lk st.env s) (a.tmps.getD s undef)
 gs:D.it.isSome=true->N<=GS
 gi:GInv D O st.env w μ
theorem VR.cst (w:World) (O:Nat->Prop) (μ:Mu) (n:Nat) (v:Ye):VR w O μ n (cst v) v:=by
 unfold Abs.cst;split
 ·exact .un _
 ·rename_i cs;split
  ·rename_i h;refine .ag _ cs (λj=>cs.getD j undef) (by simp) (λj c e=>?_) (λj c e=>?_) (λj c e=>?_)
   ·simp only [jas,jad] at e;obtain ⟨x,b,rfl⟩:=e;simp at b;simp [b]
   ·simp only [jas,jad] at e;obtain ⟨x,b,rfl⟩:=e;simp only [jce] at h;exact h x (by simp at b; exact Array.mem_of_getElem? b)
   ·simp only [jas,jad] at e;obtain ⟨x,b,rfl⟩:=e;simp at b;simp only [jah,b,jcb];simp only [jce] at h;exact .sc x (h x (Array.mem_of_getElem? b))
  ·exact .un _
 ·rename_i f h2;exact .sc v (by cases v <;> first | rfl | exact absurd rfl (f _) | exact absurd rfl (h2 _))
theorem SR.ev {N:Nat} {D:DX} {O:Nat->Prop} {μ:Mu} {st:St} {a:Act} {w:World} (e:SR N D O μ st a w) (x:Yf):VR w O μ st.n (ev st.env x) (a.eval x):=by
 cases x with
 | tmp t=>exact e.env t
 | const v=>exact VR.cst w O μ st.n v
 | global g=>exact .un _
 | func f=>exact .fn f [] #[] (λ_=>undef) rfl (λj c b=>by simp at b) (λj c b=>by simp at b)
theorem SR.put {N:Nat} {D:DX} {O:Nat->Prop} {μ e:Mu} {st:St} {a:Act} {w w':World} {h':AH} {n':Nat} {u:Ye} {v:AV} (b:SR N D O μ st a w)
  (hr:HR w' O e h' n') (f:Evo w μ st.n w' e n') (i:VR w' O e n' v u) (d:Nat) (g:d<N):SR N D O e ⟨(d,v)::st.env,h',n'⟩ (a.put (some d) u) w':=by
 refine ⟨hr,by simp [Act.put,b.size],b.defers.evo f,λs=>?_,b.gs,b.gi.evo f λhi=>?_⟩;case refine_2=>have:=b.gs hi; left; simp only [lk]; rw [if_neg (by omega)]
 simp only [lk,Act.put];split
 ·rename_i c; subst c;have:s<a.tmps.size:=by rw [b.size]; exact g
  simp [jah,this,i]
 ·rename_i c;have:=(b.env s).evo f;rw [jah] at this ⊢;rw [jcx (by omega)];exact this
theorem SR.step {N:Nat} {D:DX} {O:Nat->Prop} {μ e:Mu} {st:St} {a:Act} {w w':World} {h':AH} {n':Nat} (b:SR N D O μ st a w)
  (hr:HR w' O e h' n') (c:Evo w μ st.n w' e n'):SR N D O e ⟨st.env,h',n'⟩ a w':=
 ⟨hr,b.size,b.defers.evo c,λs=>(b.env s).evo c,b.gs,b.gi.evo c λ_=>.inl rfl⟩
def OKO (D:DX) (O O':Nat->Prop):Prop:=D.it=none->O'=O
def EvoD (D:DX) (w:World) (μ:Mu) (n:Nat) (w':World) (b:Mu) (n':Nat):Prop:=D.it=none->Evo w μ n w' b n'
theorem EvoD.refl {D:DX} {w:World} {μ:Mu} {n:Nat} {O:Nat->Prop} {h:AH} (hr:HR w O μ h n):EvoD D w μ n w μ n:=λ_=>hr.refl
theorem EvoD.trans {D:DX} {w f i:World} {μ b c:Mu} {n n1 j:Nat} (h:EvoD D w μ n f b n1) (g:EvoD D f b n1 i c j):EvoD D w μ n i c j:=λe=>(h e).trans (g e)
theorem Evo.d {D:DX} {w w':World} {μ b:Mu} {n n':Nat} (h:Evo w μ n w' b n'):EvoD D w μ n w' b n':=λ_=>h
def RO (D:DX) (ro:Yb Nat) (w:World) (μ:Mu):Prop:=
 match ro with
 | none=>True
 | some l=>D.it=none/\(∃ r,w.heap[l]?=some (.loop r))/\∀ id k,μ id≠some (l,k)
theorem RO.evo {D:DX} {ro:Yb Nat} {w w':World} {μ j:Mu} {n n':Nat} (h:RO D ro w μ) (p:EvoD D w μ n w' j n'):RO D ro w' j:=by
 cases ro with
 | none=>trivial
 | some l=>
  obtain ⟨m,⟨r,h2⟩,g⟩:=h;have e:=p m;have i:=(jal.1 h2).1;refine ⟨m,⟨r,(e.keep l i g).trans h2⟩,λid k c=>?_⟩;rcases jdg id n with hi | hi
  ·rcases e.ids id hi with b | b
   ·rw [b] at c; exact g id k c
   ·rw [b] at c; cases c
  ·rcases e.new id l k c hi with b | ⟨f,k0,b⟩
   ·omega
   ·exact g f k0 b
def Post (N:Nat) (D:DX) (O:Nat->Prop) (Q:Exit->St->Prop) (μ:Mu) (w:World) (n:Nat) (e:Exit) (a':Act) (w':World):Prop:=
 ∃ b c O',OKO D O O'/\Q e b/\SR N D O' c b a' w'/\EvoD D w μ n w' c b.n
def Sat (P:Yd) (N:Nat) (D:DX) (O:Nat->Prop) (c:Code) (Q:Exit->St->Prop) (st:St):Prop:=
 ∀ b,OKO D O b->∀ ro μ a w,RO D ro w μ->SR N D b μ st a w->c.wpIn (FF ro) 0 P (Post N D O Q μ w st.n) a w
variable {P:Yd} {N:Nat} {D:DX} {O:Nat->Prop} {Q:Exit->St->Prop} {st:St}
theorem Post.mono {Q':Exit->St->Prop} {μ:Mu} {w:World} {n:Nat} {e:Exit} {a':Act} {w':World} (h:Post N D O Q μ w n e a' w') (b:∀ s,Q e s->Q' e s):Post N D O Q' μ w n e a' w':=
 let ⟨st',μ',O',o,q,r,ev⟩:=h; ⟨st',μ',O',o,b _ q,r,ev⟩
theorem Post.from {μ b:Mu} {w c:World} {n n1:Nat} {e:Exit} {a':Act} {w':World} (h:Post N D O Q b c n1 e a' w') (f:EvoD D w μ n c b n1):Post N D O Q μ w n e a' w':=
 let ⟨st',μ',O',o,q,r,ev⟩:=h; ⟨st',μ',O',o,q,r,f.trans ev⟩
theorem Sat.mono {c:Code} {Q':Exit->St->Prop} (h:Sat P N D O c Q st) (i:∀ e s,Q e s->Q' e s):Sat P N D O c Q' st:=
 λg o ro μ a w b f=>wpIn_mono (h g o ro μ a w b f) λe _ _ q=>q.mono (i e)
def thenQ (K:St->Prop) (Q:Exit->St->Prop):Exit->St->Prop
 | .normal,s=>K s
 | e,s=>Q e s
def kfZ (id:Nat) (Q:Exit->St->Prop):Exit->St->Prop
 | .exit id',s=>if id'=id then Q .normal s else Q (.exit id') s
 | e,s=>Q e s
theorem Sat.seq {x y:Code} (h:Sat P N D O x (thenQ (λs=>Sat P N D O y Q s) Q) st):Sat P N D O (.seq x y) Q st:=by
 intro r o ro μ a w m p;refine wpIn_seq (wpIn_mono (h r o ro μ a w m p) ?_);rintro e a' w' ⟨f,i,O',k,j,b,g⟩;cases e with
 | normal=>exact wpIn_mono (j O' k ro i a' w' (m.evo g) b) λ_ _ _ q=>q.from g
 | exit id=>exact ⟨f,i,O',k,j,b,g⟩
 | goto l=>exact ⟨f,i,O',k,j,b,g⟩
 | ret=>exact ⟨f,i,O',k,j,b,g⟩
 | panic c=>exact ⟨f,i,O',k,j,b,g⟩
 | outgrown=>exact ⟨f,i,O',k,j,b,g⟩
theorem Sat.skip (h:Q .normal st):Sat P N D O .skip Q st:=λc o _ μ _ _ _ b=>wpIn_skip ⟨st,μ,c,o,h,b,.refl b.hr⟩
theorem Sat.exit {id:Nat} (h:Q (.exit id) st):Sat P N D O (.exit id) Q st:=λc o _ μ _ _ _ b=>wpIn_exit ⟨st,μ,c,o,h,b,.refl b.hr⟩
theorem Sat.ret (h:Q .ret st):Sat P N D O .ret Q st:=λc o _ μ _ _ _ b=>wpIn_ret ⟨st,μ,c,o,h,b,.refl b.hr⟩
theorem Sat.block {id:Nat} {c:Code} (h:Sat P N D O c (kfZ id Q) st):Sat P N D O (.block id c) Q st:=by
 intro t o ro μ a w p r;refine wpIn_block (wpIn_mono (h t o ro μ a w p r) ?_);rintro e a' w' ⟨b,i,O',k,g,f,j⟩;cases e with
 | exit s=>
  simp only [kfZ,Exit.inBlock] at g ⊢;split <;> rename_i m
  ·rw [if_pos m] at g; exact ⟨b,i,O',k,g,f,j⟩
  ·rw [if_neg m] at g; exact ⟨b,i,O',k,g,f,j⟩
 | normal=>exact ⟨b,i,O',k,g,f,j⟩
 | goto l=>exact ⟨b,i,O',k,g,f,j⟩
 | ret=>exact ⟨b,i,O',k,g,f,j⟩
 | panic c=>exact ⟨b,i,O',k,g,f,j⟩
 | outgrown=>exact ⟨b,i,O',k,g,f,j⟩
theorem VR.bool_inv {w:World} {O:Nat->Prop} {μ:Mu} {n:Nat} {b:Bool} {v:Ye} (h:VR w O μ n (.sc (.bool b)) v):v = .bool b:=by cases h; rfl
theorem Sat.cond {c:Yf} {x y:Code} {b:Bool} (l:Abs.ev st.env c = .sc (.bool b)) (m:b=true->Sat P N D O x Q st) (k:b=false->Sat P N D O y Q st):Sat P N D O (.cond c x y) Q st:=by
 intro i o ro μ a w f g;have j:=g.ev c;rw [l] at j;exact wpIn_cond_split j.bool_inv (λe=>m e i o ro μ a w f g) (λe=>k e i o ro μ a w f g)
theorem kvh {F:Fence} {y:Nat} {α:Type} {c:Code} {Q:Exit->Act->World->Prop} {a:Act} {w:World} (I:α->Act->World->Prop) (m:α->Nat) (z:α) (B:I z a w)
  (round:∀ x a w,I x a w->c.wpIn F y P (Exit.then (λa' w'=>∃ r,I r a' w'/\m r<m x) Q) a w):(Code.loop c).wpIn F y P Q a w:=by
 intro b k cs t v hr;have key:∀ n x a w,m x=n->I x a w->∃ e a' w',Q e a' w'/\ArrivesIn (Machine.fenced P F) P (lone (b.atR a (.code c :: .inLoop c::k)) cs w) b k cs e a' w':=by
  intro n;induction n using Nat.strongRecOn with
  | _ n G=>
   intro x a w hn hI;obtain ⟨e,j,p,g,f⟩:=round x a w hI b (.inLoop c::k) cs t v hr;cases e with
   | normal=>
    obtain ⟨r,hI₁,u⟩:=g;obtain ⟨C,A,E,s,i⟩:=G (m r) (hn ▸ u) r j p rfl hI₁;exact ⟨C,A,E,s,.of_steps (StepsIn.trans f (.one (fenced_calm v hr rfl) stepR_inLoop)) i⟩
   | exit id=>exact ⟨_,j,p,g,.pass (x:=.inLoop c) rfl (λ_ _=>.inl (by simp)) f⟩
   | goto l=>exact ⟨_,j,p,g,.pass (x:=.inLoop c) rfl (λ_ _=>.inl (by simp)) f⟩
   | ret=>exact ⟨_,j,p,g,.pass (x:=.inLoop c) rfl (λ_ _=>.inl (by simp)) f⟩
   | panic H=>exact ⟨_,j,p,g,.pass (x:=.inLoop c) rfl (λ_ _=>.inl (by simp)) f⟩
   | outgrown=>exact ⟨_,j,p,g,.pass (x:=.inLoop c) rfl (λ_ _=>.inl (by simp)) f⟩
 obtain ⟨e,a',w',g,f⟩:=key _ z a w rfl B;exact ⟨e,a',w',g,.of_steps (.one (fenced_calm v hr rfl) stepR_loop) f⟩
theorem Sat.loop {α:Type} {c:Code} (I:α->St->Prop) (m:α->Nat) (v:α) (z:I v st)
  (round:∀ x s,I x s->Sat P N D O c (thenQ (λs'=>∃ r,I r s'/\m r<m x) Q) s):Sat P N D O (.loop c) Q st:=by
 intro F o ro μ a w u y;refine kvh (λx a' w'=>∃ b i O',OKO D O O'/\I x b/\SR N D O' i b a' w'/\EvoD D w μ st.n w' i b.n) m v ⟨st,μ,F,o,z,y,.refl y.hr⟩ ?_;rintro x C E ⟨A,B,H,G,hI,t,f⟩;refine wpIn_mono (round x A hI H G ro B C E (u.evo f) t) ?_;rintro e a' w' ⟨b,i,O',p,j,g,k⟩;cases e with
 | normal=>obtain ⟨r,J,h2⟩:=j; exact ⟨r,⟨b,i,O',p,J,g,f.trans k⟩,h2⟩
 | exit id=>exact ⟨b,i,O',p,j,g,f.trans k⟩
 | goto l=>exact ⟨b,i,O',p,j,g,f.trans k⟩
 | ret=>exact ⟨b,i,O',p,j,g,f.trans k⟩
 | panic c=>exact ⟨b,i,O',p,j,g,f.trans k⟩
 | outgrown=>exact ⟨b,i,O',p,j,g,f.trans k⟩
def keep (l:Ya Nat) (env:Env):Env:=l.map λs=>(s,lk env s)
theorem kAL (l:Ya Nat) (env:Env) (s:Nat):lk (keep l env) s=lk env s\/lk (keep l env) s = .un:=by
 induction l with
 | nil=>exact .inr rfl
 | cons x l b=>
  simp only [keep,jap,lk];split
  ·rename_i e; subst e; exact .inl rfl
  ·exact b
variable {P:Yd} {w:World} {O:Nat->Prop} {μ:Mu} {h:AH} {n:Nat}
def deref (h:AH):AV->Yb (Ya AV)
 | .fp cs=>some cs
 | .own id i j=>match h id with
  | some (.cells _ _ es)=>(es[i]?).map (·.drop j)
  | _=>none
 | _=>none
theorem kiD (b o j:Nat):(⟨b,o,none⟩:Addr).add j=⟨b,o+j,none⟩:=by unfold Addr.add; split <;> simp_all
def Reads (w:World) (O:Nat->Prop) (μ:Mu) (n b o:Nat) (cs:Ya AV):Prop:=
 ∀ (j:Nat) (c:AV),cs[j]?=some c->c.one=true/\∃ u,w.cell? ⟨b,o+j,none⟩=some u/\VR w O μ n c u
theorem HR.own_cells (hr:HR w O μ h n) {id k:Nat} {T:Yc} {es:Ya (Ya AV)} (hB:h id=some (.cells k T es)) :
  ∃ b c,μ id=some (b,k)/\w.heap[b]?=some (.cells c T (0,0))/\(∀ (i:Nat) (e:Ya AV),es[i]?=some e->e.length=k/\Reads w O μ n b (i*k) e):=by
 obtain ⟨b,c,r,h2,f⟩:=hr.blk id _ hB;refine ⟨b,c,r,h2,λi e hi=>⟨(f i e hi).1,λj a l=>?_⟩⟩;obtain ⟨m,u,g,p⟩:=(f i e hi).2 j a l;exact ⟨m,u,cell_heap.2 ⟨c,T,(0,0),h2,g⟩,p⟩
theorem kpw (hr:HR w O μ h n) {p:AV} {v:Ye} (l:VR w O μ n p v) {cs:Ya AV} (f:deref h p=some cs):∃ b o,v = .pointer (some ⟨b,o,none⟩)/\Reads w O μ n b o cs:=by
 unfold deref at f;split at f
 ·cases f;cases l with
  | fp _ b o us hA x s m=>exact ⟨b,o,rfl,λj c g=>⟨s j c g,us j,x j c g,m j c g⟩⟩
 ·rename_i id i j;split at f
  ·rename_i k T es hB;obtain ⟨b,c,s,h2,z⟩:=hr.own_cells hB;cases r:es[i]? with
   | none=>simp [r] at f
   | some e=>
    simp [r] at f;subst f;cases l with
    | own _ _ _ _ hi A l=>
     refine ⟨b,i*k+j,l b k s,λB c g=>?_⟩;rw [jar] at g;obtain ⟨y,u,t,C⟩:=(z i e r).2 (j+B) c g;exact ⟨y,u,by rw [jec]; exact t,C⟩
  ·cases f
 ·cases f
theorem VR.one {a:AV} {v:Ye} (c:VR w O μ n a v) (b:AV.one a=true):v.oneCell'=true:=by
 cases c <;> first | assumption | rfl | (simp [AV.one] at b; done)
theorem Reads.vals {b:Nat}:∀ {cs:Ya AV} {o:Nat},Reads w O μ n b o cs->∃ vals:Ya Ye,vals.length=cs.length/\(∀ j v,vals[j]?=some v->w.cell? ⟨b,o+j,none⟩=some v)/\(∀ v∈vals,v.oneCell'=true)/\
  ∀ (j:Nat) (c:AV),cs[j]?=some c->∃ u,vals[j]?=some u/\VR w O μ n c u
 | [],o,_=>⟨[],rfl,λj v e=>by simp at e,λv f=>by simp at f,λj c e=>by simp at e⟩
 | c::cs,o,hrd=>by
  obtain ⟨y,u,h2,i⟩:=hrd 0 c rfl;have g:Reads w O μ n b (o+1) cs:=λj c' e=>by
   obtain ⟨l,u',k,x⟩:=hrd (j+1) c' (by simpa using e);exact ⟨l,u',by rw [jec,Nat.add_comm 1 j]; exact k,x⟩
  obtain ⟨vals,g1,m,p,t⟩:=Reads.vals (b:=b) g;refine ⟨u::vals,by simp [g1],λj v e=>?_,λv f=>?_,λj c' e=>?_⟩
  ·cases j with
   | zero=>simp at e; subst e; exact h2
   | succ j=>
    have:=m j v (by simpa using e)
    rwa [jec,Nat.add_comm 1 j] at this
  ·rcases jbq.1 f with rfl | f
   ·exact i.one y
   ·exact p v f
  ·cases j with
   | zero=>simp at e; subst e; exact ⟨u,rfl,i⟩
   | succ j=>obtain ⟨u',s,r⟩:=t j c' (by simpa using e); exact ⟨u',by simpa using s,r⟩
theorem Reads.take {b o:Nat} {cs:Ya AV} (h:Reads w O μ n b o cs) (k:Nat):Reads w O μ n b o (cs.take k):=λj c e=>by
 rw [jbr] at e;split at e
 ·exact h j c e
 ·cases e
theorem Reads.drop {b o:Nat} {cs:Ya AV} (h:Reads w O μ n b o cs) (k:Nat):Reads w O μ n b (o+k) (cs.drop k):=λj c e=>by
 rw [jar] at e;rw [jec]; exact h _ c e
theorem VR.ag_of {cs:Ya AV} {vals:Ya Ye} (hl:vals.length=cs.length) (g:∀ (j:Nat) (c:AV),cs[j]?=some c->c.one=true) (h2:∀ (j:Nat) (c:AV),cs[j]?=some c->∃ u,vals[j]?=some u/\VR w O μ n c u) :
  VR w O μ n (.ag cs) (.agg vals.toArray):=by
 refine .ag cs _ (λj=>vals.getD j undef) (by simpa using hl) (λj c b=>?_) g (λj c b=>?_)
 ·obtain ⟨u,e,_⟩:=h2 j c b;simp [e,List.getD]
 ·obtain ⟨u,e,f⟩:=h2 j c b;simpa [e,List.getD] using f
def ReadsEs (w:World) (O:Nat->Prop) (μ:Mu) (n b o k:Nat) (es:Ya (Ya AV)):Prop:=
 ∀ (i:Nat) (e:Ya AV),es[i]?=some e->e.length=k/\Reads w O μ n b (o+i*k) e
theorem ReadsEs.vals {b k:Nat}:∀ {es:Ya (Ya AV)} {o:Nat},ReadsEs w O μ n b o k es->∃ vals:Ya Ye,vals.length=es.length*k/\(∀ j v,vals[j]?=some v->w.cell? ⟨b,o+j,none⟩=some v)/\(∀ v∈vals,v.oneCell'=true)/\
  ∀ (i:Nat) (e:Ya AV),es[i]?=some e->e.length=k/\∀ (j:Nat) (c:AV),e[j]?=some c->c.one=true/\∃ u,vals[i*k+j]?=some u/\VR w O μ n c u
 | [],o,_=>⟨[],by simp,λj v f=>by simp at f,λv g=>by simp at g,λj c f=>by simp at f⟩
 | e::es,o,hrd=>by
  obtain ⟨m,y⟩:=hrd 0 e rfl;have l:Reads w O μ n b o e:=by simpa using y
  obtain ⟨z,p,F,T,H⟩:=l.vals (o:=o);have s:ReadsEs w O μ n b (o+k) k es:=λi e' hi=>by
   obtain ⟨A,x⟩:=hrd (i+1) e' (by simpa using hi);refine ⟨A,?_⟩;rw [show o+k+i*k=o+(i+1)*k by rw [jcc]; omega];exact x
  obtain ⟨C,g1,B,J,R⟩:=ReadsEs.vals s;refine ⟨z++C,by simp [p,g1,m,jcc]; omega,λj v f=>?_,λv g=>?_,λi e' hi=>?_⟩
  ·rw [jbm] at f;split at f
   ·exact F j v f
   ·rename_i r;have:=B _ v f;rw [p,m] at this r
    rwa [show o+k+(j-k)=o+j by omega] at this
  ·rcases jaw.1 g with g | g
   ·exact T v g
   ·exact J v g
  ·cases i with
   | zero=>
    simp at hi; subst hi;refine ⟨m,λj c f=>?_⟩;obtain ⟨u,t,I⟩:=H j c f;refine ⟨(l j c f).1,u,?_,I⟩;simp only [Nat.zero_mul,jcf];rw [jbo]
    ·exact t
    ·exact (jaf.1 t).1
   | succ i=>
    obtain ⟨M,L⟩:=R i e' (by simpa using hi);refine ⟨M,λj c f=>?_⟩;obtain ⟨G,u,S,E⟩:=L j c f;refine ⟨G,u,?_,E⟩;rw [jcj (by rw [p,m,jcc]; omega),p,m];rw [show (i+1)*k+j-k=i*k+j by rw [jcc]; omega];exact S
theorem kfv {b o:Nat} {vals:Ya Ye} (e:∀ j v,vals[j]?=some v->w.cell? ⟨b,o+j,none⟩=some v) {m:Nat} (c:vals.length=m) :
  (loadCells ⟨b,o,none⟩ m).run P w = .ok vals.toArray w:=by
 subst c;exact run_loadCells_list w ⟨b,o,none⟩ vals λj v f=>by rw [kiD]; exact e j v f
abbrev K3:=AV->AH->Nat->Prop
def OpR (P:Yd) (o:Oper) (a:Act) (w:World) (O:Nat->Prop) (μ:Mu) (n:Nat) (K:K3):Prop:=
 ∃ u w' b v h' n',((execOp a.eval o).run P w = .ok (.value u) w'\/((execOp a.eval o).run P w = .ok .skip w'/\u=undef))/\K v h' n'/\HR w' O b h' n'/\VR w' O b n' v u/\Evo w μ n w' b n'
def aggO (P:Yd) (T:Yc):Yb Bool:=
 match P.underlying T with
 | some (.struct _) | some (.array _ _)=>some true
 | some _=>some false
 | none=>none
def fldO (P:Yd) (T:Yc) (f:Nat):Yb (Nat×Yc):=
 match P.underlying T with
 | some (.struct fs)=>(fs[f]?).bind λx=>if P.cellsOf x.type=0 then none else some (x.offset,x.type)
 | _=>none
def elemO (P:Yd) (T:Yc):Yb Yc:=
 match P.underlying T with
 | some (.slice e)=>some e
 | _=>none
def arrO (P:Yd) (T:Yc):Yb (Nat×Yc):=
 match P.underlying T with
 | some (.array m e)=>some (m,e)
 | _=>none
def intO (P:Yd) (T:Yc):Yb IntKind:=
 match P.underlying T with
 | some (.int k)=>some k
 | _=>none
def zeroO (P:Yd) (T:Yc):Yb (Ya AV):=
 (P.info? T).bind λi=>i.zero.bind λz=>if z.cells.all (·.oneCell')&&z.cells.size==i.size then some (z.cells.toList.map .sc) else none
def kaI:AV->Yb (Ya AV)
 | .ag cs=>some cs
 | .ud | .un | .tp _ | .gs _=>none
 | a=>some [a]
section
variable {P:Yd} {o:Oper} {a:Act} {w:World} {O:Nat->Prop} {μ:Mu} {h:AH} {n:Nat} {K:K3}
theorem OpR.value {u:Ye} {v:AV} (hr:HR w O μ h n) (b:(execOp a.eval o).run P w = .ok (.value u) w) (c:VR w O μ n v u) (e:K v h n):OpR P o a w O μ n K:=
 ⟨u,w,μ,v,h,n,.inl b,e,hr,c,hr.refl⟩
theorem kaq {s:Sem Ye} {u:Ye} {w':World} (h:s.run P w = .ok u w'):(do pure (Next.value (<-s)):Sem Next).run P w = .ok (.value u) w':=by simp [h]
theorem kgf {T:Yc} {d:TypeDesc} (h:P.underlying T=some d):∃ i,P.info? T=some i:=by
 unfold Program.underlying at h;cases hi:P.info? T with
 | none=>simp [hi] at h
 | some i=>exact ⟨i,rfl⟩
theorem kaS {T:Yc} {i:TypeInfo} (h:P.info? T=some i) (w:World):(sizeOf T).run P w = .ok (P.cellsOf T) w:=by
 simp [sizeOf,typeInfo,h,Program.cellsOf]
theorem keW {T:Yc} {x:Bool} (h:aggO P T=some x) (w:World):(isAgg T).run P w = .ok x w:=by
 unfold aggO at h;unfold isAgg;split at h
 ·rename_i b; cases h; simp [run_underlying b]
 ·rename_i b; cases h; simp [run_underlying b]
 ·rename_i d c h2 b;cases h;rw [Sem.run_bind,run_underlying b];simp only [Result.andThen_ok];rfl
 ·cases h
theorem khI {T:Yc} {x:Bool} (h:aggO P T=some x):∃ i,P.info? T=some i:=by
 unfold aggO at h;split at h
 ·rename_i b; exact kgf b
 ·rename_i b; exact kgf b
 ·rename_i b; exact kgf b
 ·cases h
def loadK (P:Yd) (h:AH) (n:Nat) (T:Yc) (cs:Ya AV) (K:K3):Prop:=
 match aggO P T with
 | some true=>P.cellsOf T<=cs.length/\K (.ag (cs.take (P.cellsOf T))) h n
 | some false=>∃ c,cs[0]?=some c/\K c h n
 | none=>False
theorem kzG {T:Yc} {x:Yf} (s:o.op = .load T x) (hr:HR w O μ h n) {p:AV} (hp:VR w O μ n p (a.eval x)) {cs:Ya AV} (t:deref h p=some cs) (f:loadK P h n T cs K):OpR P o a w O μ n K:=by
 obtain ⟨b,off,m,g⟩:=kpw hr hp t;unfold loadK at f;split at f
 ·rename_i e;obtain ⟨A,f⟩:=f;obtain ⟨i,hi⟩:=khI e;obtain ⟨vals,l,h2,r,B⟩:=(g.take (P.cellsOf T)).vals;have k:vals.length=P.cellsOf T:=by rw [l,jbi]; omega
  refine OpR.value hr (u:=.agg vals.toArray) (v:=.ag (cs.take (P.cellsOf T))) ?_ ?_ f
  ·simp only [execOp,s,m];refine kaq ?_;simp only [Instr.loadAt,Instr.sureAddr,pure_bind,loadVar,Sem.run_bind,keW e,Result.andThen_ok,if_true,kaS hi,kfv h2 k,Sem.run_pure]
  ·exact VR.ag_of l (λj c z=>(g.take (P.cellsOf T) j c z).1) B
 ·rename_i e;obtain ⟨c,y,f⟩:=f;obtain ⟨l,u,h2,r⟩:=g 0 c y;refine OpR.value hr (u:=u) ?_ r f;simp only [execOp,s,m];refine kaq ?_;simp only [Nat.add_zero] at h2;simp [Instr.loadAt,Instr.sureAddr,loadVar,keW e,h2]
 ·exact f.elim
theorem ktR {x:Yf} (b:o.op = .move x\/o.op = .assign x) (hr:HR w O μ h n) {v:AV} (c:VR w O μ n v (a.eval x)) (e:K v h n):OpR P o a w O μ n K:=by
 refine OpR.value hr (u:=a.eval x) ?_ c e;rcases b with b | b <;> simp [execOp,b]
theorem kzO {c x y:Yf} (g:o.op = .pick c x y) (hr:HR w O μ h n) {t:Bool} {b e:AV} (f:VR w O μ n (.sc (.bool t)) (a.eval c)) (j:VR w O μ n b (a.eval x)) (h2:VR w O μ n e (a.eval y))
  (i:K (if t then b else e) h n):OpR P o a w O μ n K:=by
 refine OpR.value hr (u:=if t then a.eval x else a.eval y) ?_ (by cases t <;> assumption) i;simp [execOp,g,f.bool_inv,asBool]
theorem kig {v:AV} {u:Ye} (l:VR w O μ n v u) {cs:Ya AV} (e:kaI v=some cs):u.cells.size=cs.length/\(∀ x∈u.cells.toList,x.oneCell'=true)/\
  ∀ (j:Nat) (c:AV),cs[j]?=some c->c.one=true/\∃ y,u.cells[j]?=some y/\VR w O μ n c y:=by
 have b:∀ {v:AV} {u:Ye},VR w O μ n v u->v.one=true->u.cells.size=[v].length/\(∀ x∈u.cells.toList,x.oneCell'=true)/\∀ (j:Nat) (c:AV),[v][j]?=some c->c.one=true/\∃ y,u.cells[j]?=some y/\VR w O μ n c y:=by
  intro v u l i;have m:=l.one i;have z:u.cells = #[u]:=by cases u <;> first | rfl | (simp [Value.oneCell'] at m; done)
  rw [z];refine ⟨rfl,λx t=>by simp at t; subst t; exact m,λj c f=>?_⟩;cases j with
  | zero=>simp at f; subst f; exact ⟨i,u,rfl,l⟩
  | succ j=>simp at f
 have r:=l;cases l with
 | ag k vs us A s i p=>
  simp only [kaI,Option.some.injEq] at e;subst e;refine ⟨A,λx t=>?_,λj c f=>⟨i j c f,us j,s j c f,p j c f⟩⟩;obtain ⟨j,f,rfl⟩:=List.getElem_of_mem t;simp only [Value.cells,jco] at f;have g:j<k.length:=by omega
  have:=s j k[j] (jae g);have h2:=(p j k[j] (jae g)).one (i j _ (jae g));simp only [Value.cells,Array.getElem_toList];rw [jav f] at this;rw [Option.some.inj this];exact h2
 | ud=>simp [kaI] at e
 | gs es=>simp [kaI] at e
 | un _=>simp [kaI] at e
 | tp _ _ _ _ _ _=>simp [kaI] at e
 | sc _ i=>simp only [kaI,Option.some.injEq] at e; subst e; exact b r i
 | _=>simp only [kaI,Option.some.injEq] at e; subst e; exact b r rfl
theorem khM (hr:HR w O μ h n) (T:Yc) (c:Array Ye) (k:Nat) (es:Ya (Ya AV))
  (b:∀ (i:Nat) (e:Ya AV),es[i]?=some e->e.length=k/\∀ (j:Nat) (x:AV),e[j]?=some x->x.one=true/\∃ u,c[i*k+j]?=some u/\VR w O μ n x u) :
  Evo w μ n (w.alloc (.cells c T)) (updM μ n (w.heap.size,k)) (n+1)/\HR (w.alloc (.cells c T)) O (updM μ n (w.heap.size,k)) (updH h n (.cells k T es)) (n+1):=by
 have f:=Evo.alloc hr (.cells c T) k;refine ⟨f,hr.alloc _ k _ ⟨w.heap.size,c,by simp [updM],kbO _ _,λi e hi=>⟨(b i e hi).1,λj x g=>?_⟩⟩⟩;obtain ⟨m,u,h2,l⟩:=(b i e hi).2 j x g;exact ⟨m,u,h2,l.evo f⟩
theorem VR.own_new (w:World) (O:Nat->Prop) (μ:Mu) (n:Nat) (c:Array Ye) (T:Yc) (k:Nat):VR (w.alloc (.cells c T)) O (updM μ n (w.heap.size,k)) (n+1) (.own n 0 0) (.pointer (some ⟨w.heap.size,0,none⟩)):=by
 refine .own n 0 0 _ (by omega) rfl λb f e=>?_;simp [updM] at e;obtain ⟨rfl,rfl⟩:=e;simp
theorem kAu {T:Yc} {x:Yf} (g:o.op = .box T x) (hr:HR w O μ h n) {v:AV} (f:VR w O μ n v (a.eval x)) {cs:Ya AV} (b:kaI v=some cs)
  (m:K (.own n 0 0) (updH h n (.cells cs.length T [cs])) (n+1)):OpR P o a w O μ n K:=by
 obtain ⟨p,_,h2⟩:=kig f b;obtain ⟨k,l⟩:=khM hr T (a.eval x).cells cs.length [cs] (λi e hi=>by
  cases i with
  | zero=>simp at hi; subst hi; exact ⟨rfl,λj y c=>by simpa using h2 j y c⟩
  | succ i=>simp at hi)
 refine ⟨_,_,_,_,_,_,.inl ?_,m,l,VR.own_new w O μ n _ T cs.length,k⟩;simp [execOp,g,Instr.box,newVar,newRow]
theorem kyG {T:Yc} (m:o.op = .alloc T) (hr:HR w O μ h n) {z:Ya AV} (hz:zeroO P T=some z)
  (s:K (.own n 0 0) (updH h n (.cells z.length T [z])) (n+1)):OpR P o a w O μ n K:=by
 unfold zeroO at hz;simp only [jaa] at hz;obtain ⟨i,hi,c,g,hz⟩:=hz;split at hz
 ·rename_i b;cases hz;simp only [jac,jce] at b;obtain ⟨p,r⟩:=khM hr T c.cells (c.cells.toList.map AV.sc).length [c.cells.toList.map .sc] (λi e hi=>by
   cases i with
   | zero=>
    simp at hi; subst hi;refine ⟨rfl,λj y k=>?_⟩;simp only [jas,jad] at k;obtain ⟨x,f,rfl⟩:=k;simp only [jcr] at f;have l:=b.1 x (Array.mem_of_getElem? f);exact ⟨l,x,by simpa using f,.sc x l⟩
   | succ i=>simp at hi)
  refine ⟨_,_,_,_,_,_,.inl ?_,s,r,VR.own_new w O μ n _ T _,p⟩;simp [execOp,m,Instr.alloc,zeroValue,typeInfo,hi,g,newVar,newRow]
 ·cases hz
end
section
variable {P:Yd} {o:Oper} {a:Act} {w:World} {O:Nat->Prop} {μ:Mu} {h:AH} {n:Nat} {K:K3}
theorem VR.int_inv {k:IntKind} {x:Int} {u:Ye} (b:VR w O μ n (.sc (.int k x)) u):u = .int k x:=by cases b; rfl
theorem VR.sc_inv {x u:Ye} (b:VR w O μ n (.sc x) u):u=x:=by cases b; rfl
theorem ktn {T:Yc} {f d:Nat} {t:Yc} (b:fldO P T f=some (d,t)):∃ c x,P.underlying T=some (.struct c)/\c[f]?=some x/\x.offset=d/\x.type=t/\P.cellsOf t≠0:=by
 unfold fldO at b;split at b
 ·rename_i c i;cases e:c[f]? with
  | none=>simp [e] at b
  | some x=>
   simp [e] at b;obtain ⟨j,h2,g⟩:=b;exact ⟨c,x,i,e,h2,g,by rw [<-g]; exact j⟩
 ·cases b
theorem kcq {T:Yc} (b:P.cellsOf T≠0):∃ i,P.info? T=some i:=by
 unfold Program.cellsOf at b;cases hi:P.info? T with
 | none=>simp [hi] at b
 | some i=>exact ⟨i,rfl⟩
theorem kpE {T:Yc} {f d:Nat} {t:Yc} (g:fldO P T f=some (d,t)) (b off:Nat) (w:World):(Instr.fieldAt T (.pointer (some ⟨b,off,none⟩)) f).run P w = .ok (.pointer (some ⟨b,off+d,none⟩)) w:=by
 obtain ⟨l,x,k,h2,j,e,c⟩:=ktn g;obtain ⟨i,hi⟩:=kcq c;subst e;simp [Instr.fieldAt,run_underlying k,h2,Instr.sureAddr,fieldPlace,kaS hi,c,kiD,j]
theorem kqI {T:Yc} {x:Yf} {f d:Nat} {t:Yc} (p:o.op = .fieldAddr T x f) (hr:HR w O μ h n) (m:fldO P T f=some (d,t)) {cs:Ya AV} (k:VR w O μ n (.fp cs) (a.eval x))
  (v:K (.fp (cs.drop d)) h n):OpR P o a w O μ n K:=by
 generalize r:a.eval x=u at k;cases k with
 | fp _ b off us hA l s g=>
  refine OpR.value hr (u:=.pointer (some ⟨b,off+d,none⟩)) ?_ ?_ v
  ·simp only [execOp,p,r];exact kaq (kpE m b off w)
  ·refine .fp _ b (off+d) (λj=>us (d+j)) (λi=>hA (by rintro rfl; simp at i)) (λj c e=>?_) (λj c e=>?_) (λj c e=>?_)
   ·rw [jar] at e; rw [jec]; exact l _ c e
   ·rw [jar] at e; exact s _ c e
   ·rw [jar] at e; exact g _ c e
theorem kiZ (hr:HR w O μ h n) {id k:Nat} {T:Yc} {es:Ya (Ya AV)} (hB:h id=some (.cells k T es)) {i j:Nat} {u:Ye} (e:VR w O μ n (.own id i j) u) :
  ∃ b c,μ id=some (b,k)/\w.heap[b]?=some (.cells c T (0,0))/\u = .pointer (some ⟨b,i*k+j,none⟩)/\id<n:=by
 obtain ⟨b,c,f,h2,l⟩:=hr.own_cells hB;cases e with
 | own _ _ _ _ hi g e=>exact ⟨b,c,f,h2,e b k f,hi⟩
theorem VR.own_mk (hr:HR w O μ h n) {id b k i j:Nat} (c:μ id=some (b,k)):VR w O μ n (.own id i j) (.pointer (some ⟨b,i*k+j,none⟩)):=
 .own id i j _ (hr.scope id b k c).1 rfl λb' f e=>by rw [c] at e; cases e; rfl
theorem kpg {T:Yc} {x:Yf} {f d:Nat} {t:Yc} (m:o.op = .fieldAddr T x f) (hr:HR w O μ h n) (e:fldO P T f=some (d,t)) {id i j k:Nat} {T':Yc} {es:Ya (Ya AV)}
  (hB:h id=some (.cells k T' es)) (g:VR w O μ n (.own id i j) (a.eval x)) (r:K (.own id i (j+d)) h n):OpR P o a w O μ n K:=by
 obtain ⟨b,c,p,h2,l,s⟩:=kiZ hr hB g;refine OpR.value hr (u:=.pointer (some ⟨b,i*k+j+d,none⟩)) ?_ ?_ r
 ·simp only [execOp,m,l];exact kaq (kpE e b _ w)
 ·rw [jec]; exact VR.own_mk hr p
theorem kcH {T e:Yc} (b:elemO P T=some e):P.underlying T=some (.slice e):=by
 unfold elemO at b;split at b
 ·cases b; assumption
 ·cases b
theorem ksW {T e:Yc} {m:Nat} (b:arrO P T=some (m,e)):P.underlying T=some (.array m e):=by
 unfold arrO at b;split at b
 ·cases b; assumption
 ·cases b
theorem kmn {T e:Yc} (c:elemO P T=some e) {l:TypeInfo} (hi:P.info? e=some l) (b off len cap:Nat) (k:IntKind) (i:Int) (g:0<=i) (j:i<len) (w:World) :
  (Instr.indexAt T (.slice (some ⟨b,off,none⟩) len cap) (.int k i)).run P w = .ok (.pointer (some ⟨b,off+i.toNat*P.cellsOf e,none⟩)) w:=by
 have f:=kcH c;simp [Instr.indexAt,run_underlying f,asIntOf,g,j,kaS hi,kiD]
theorem kqz {T e:Yc} {x y:Yf} (E:o.op = .indexAddr T x y) (hr:HR w O μ h n) (G:elemO P T=some e) {es:Ya (Ya AV)} (z:VR w O μ n (.sl es) (a.eval x))
  {k:IntKind} {i:Int} (hi:VR w O μ n (.sc (.int k i)) (a.eval y)) (C:0<=i) {c:Ya AV} (f:es[i.toNat]?=some c) (l:c.length=P.cellsOf e) (F:c.length≠0) (J:K (.fp c) h n):OpR P o a w O μ n K:=by
 generalize H:a.eval x=u at z;obtain ⟨M,r⟩:=kcq (P:=P) (T:=e) (by omega);have v:i.toNat<es.length:=(jaf.1 f).1;cases z with
 | slnil=>simp at v
 | sl _ b off cap L us A B hA m t I s=>
  have p:=m _ _ f;refine OpR.value hr (u:=.pointer (some ⟨b,off+i.toNat*P.cellsOf e,none⟩)) ?_ ?_ J
  ·simp only [execOp,E,H,hi.int_inv];exact kaq (kmn G r b off _ cap k i C (by omega) w)
  ·rw [<-l,p];exact .fp c b _ (us i.toNat) (λhn=>hA _ c f hn) (λj y g=>t _ c f j y g) (λj y g=>I _ c f j y g) (λj y g=>s _ c f j y g)
theorem kjb (hr:HR w O μ h n) {id k off len:Nat} {T:Yc} {es:Ya (Ya AV)} (hB:h id=some (.cells k T es)) {u:Ye} (f:VR w O μ n (.ms id off len) u) :
  ∃ b c e cap,μ id=some (b,k)/\w.heap[b]?=some (.cells c T (0,0))/\u = .slice (some ⟨b,e,none⟩) len cap/\id<n/\len<=cap/\cap<=maxLen/\(cap≠0->e=off*k)/\(off+cap)*k=c.size:=by
 obtain ⟨b,c,i,h2,s⟩:=hr.own_cells hB;cases f with
 | ms _ _ _ _ hi l f=>
  obtain ⟨e,cap,c',T',g1,j,m,r,g,p⟩:=f b k i;rw [h2] at g;simp only [Option.some.injEq,Obj.cells.injEq] at g;obtain ⟨rfl,rfl,_⟩:=g;exact ⟨b,c,e,cap,i,h2,g1,hi,j,m,r,p⟩
theorem kqg {T e:Yc} {x y:Yf} (s:o.op = .indexAddr T x y) (hr:HR w O μ h n) (z:elemO P T=some e) {id off len l:Nat} {T':Yc} {es:Ya (Ya AV)} (hB:h id=some (.cells l T' es))
  (f:l=P.cellsOf e) (A:l≠0) (r:VR w O μ n (.ms id off len) (a.eval x))
  {k:IntKind} {i:Int} (hi:VR w O μ n (.sc (.int k i)) (a.eval y)) (p:0<=i) (B:i<len) (C:K (.own id (off+i.toNat) 0) h n):OpR P o a w O μ n K:=by
 obtain ⟨b,c,m,cap,g1,E,v,H,G,F,t,I⟩:=kjb hr hB r;obtain ⟨J,g⟩:=kcq (P:=P) (T:=e) (by omega);refine OpR.value hr (u:=.pointer (some ⟨b,m+i.toNat*P.cellsOf e,none⟩)) ?_ ?_ C
 ·simp only [execOp,s,v,hi.int_inv];exact kaq (kmn z g b m len cap k i p B w)
 ·rw [t (by omega),<-f,<-jcc];exact VR.own_mk (i:=off+i.toNat) (j:=0) hr g1
theorem kli {T e:Yc} {m:Nat} (c:arrO P T=some (m,e)) {l:TypeInfo} (hi:P.info? e=some l) (b off:Nat) (k:IntKind) (i:Int) (g:0<=i) (j:i<m) (w:World) :
  (Instr.indexAt T (.pointer (some ⟨b,off,none⟩)) (.int k i)).run P w = .ok (.pointer (some ⟨b,off+i.toNat*P.cellsOf e,none⟩)) w:=by
 have f:=ksW c;simp [Instr.indexAt,run_underlying f,asIntOf,g,j,kaS hi,kiD,Instr.sureAddr]
theorem kmq {T e:Yc} {m:Nat} {x y:Yf} (t:o.op = .indexAddr T x y) (hr:HR w O μ h n) (z:arrO P T=some (m,e)) (l:P.cellsOf e≠0) {id g j p:Nat} {T':Yc} {es:Ya (Ya AV)} (hB:h id=some (.cells p T' es))
  (s:VR w O μ n (.own id g j) (a.eval x)) {k:IntKind} {i:Int} (hi:VR w O μ n (.sc (.int k i)) (a.eval y)) (r:0<=i) (A:i<m) (B:K (.own id g (j+i.toNat*P.cellsOf e)) h n):OpR P o a w O μ n K:=by
 obtain ⟨b,c,g1,C,v,E⟩:=kiZ hr hB s;obtain ⟨F,f⟩:=kcq l;refine OpR.value hr (u:=.pointer (some ⟨b,g*p+j+i.toNat*P.cellsOf e,none⟩)) ?_ ?_ B
 ·simp only [execOp,t,v,hi.int_inv];exact kaq (kli z f b _ k i r A w)
 ·rw [jec]; exact VR.own_mk hr g1
theorem kmQ {T e:Yc} {m:Nat} {x y:Yf} (z:o.op = .indexAddr T x y) (hr:HR w O μ h n) (A:arrO P T=some (m,e)) (g:P.cellsOf e≠0) {cs:Ya AV}
  (s:VR w O μ n (.fp cs) (a.eval x)) {k:IntKind} {i:Int} (hi:VR w O μ n (.sc (.int k i)) (a.eval y)) (t:0<=i) (C:i<m) (E:K (.fp (cs.drop (i.toNat*P.cellsOf e))) h n):OpR P o a w O μ n K:=by
 generalize B:a.eval x=u at s;obtain ⟨F,p⟩:=kcq g;cases s with
 | fp _ b off us hA v l r=>
  refine OpR.value hr (u:=.pointer (some ⟨b,off+i.toNat*P.cellsOf e,none⟩)) ?_ ?_ E
  ·simp only [execOp,z,B,hi.int_inv];exact kaq (kli A p b off k i t C w)
  ·refine .fp _ b _ (λj=>us (i.toNat*P.cellsOf e+j)) (λg=>hA (by rintro rfl; simp at g)) (λj c f=>?_) (λj c f=>?_) (λj c f=>?_)
   ·rw [jar] at f; rw [jec]; exact v _ c f
   ·rw [jar] at f; exact l _ c f
   ·rw [jar] at f; exact r _ c f
theorem VR.ag_cells {cs:Ya AV} {u:Ye} (i:VR w O μ n (.ag cs) u):∃ vs,u = .agg vs/\vs.size=cs.length/\∀ (j:Nat) (c:AV),cs[j]?=some c->c.one=true/\∃ y,vs[j]?=some y/\VR w O μ n c y:=by
 cases i with
 | ag _ vs us f g k b=>exact ⟨vs,rfl,f,λj c e=>⟨k j c e,us j,g j c e,b j c e⟩⟩
def partK (P:Yd) (t:Yc) (cs:Ya AV) (d:Nat) (K:AV->Prop):Prop:=
 match aggO P t with
 | some true=>K (.ag ((cs.drop d).take (P.cellsOf t)))
 | some false=>∃ c,cs[d]?=some c/\K c
 | none=>False
theorem kqW {t:Yc} {cs:Ya AV} {vs:Array Ye} {d:Nat} {m:AV->Prop} (r:vs.size=cs.length) (l:∀ (j:Nat) (c:AV),cs[j]?=some c->c.one=true/\∃ y,vs[j]?=some y/\VR w O μ n c y) (f:partK P t cs d m) :
  ∃ u v,(part t vs d).run P w = .ok u w/\m v/\VR w O μ n v u:=by
 unfold partK at f;split at f
 ·rename_i b;obtain ⟨i,hi⟩:=khI b;refine ⟨.agg (vs.extract d (d+P.cellsOf t)),_,?_,f,?_⟩
  ·simp [part,keW b,kaS hi]
  ·refine .ag _ _ (λj=>vs.getD (d+j) undef) ?_ (λj c e=>?_) (λj c e=>?_) (λj c e=>?_)
   ·simp [r]; omega
   all_goals
    rw [jbr] at e;split at e;case isFalse=>cases e
    rw [jar] at e;obtain ⟨p,y,h2,g⟩:=l _ c e
   ·have s:=(jal.1 h2).1;rw [Array.getElem?_extract];rw [if_pos (by omega),jah,h2]; rfl
   ·exact p
   ·rw [jah,h2]; exact g
 ·rename_i b;obtain ⟨c,k,f⟩:=f;obtain ⟨p,y,h2,g⟩:=l d c k;refine ⟨y,c,?_,f,g⟩;simp [part,keW b,h2]
 ·exact f.elim
theorem kyj {T:Yc} {x:Yf} {f d:Nat} {t:Yc} (k:o.op = .field T x f) (hr:HR w O μ h n) (g:fldO P T f=some (d,t)) {cs:Ya AV} (i:VR w O μ n (.ag cs) (a.eval x))
  (m:partK P t cs d (λv=>K v h n)):OpR P o a w O μ n K:=by
 obtain ⟨z,A,s,h2,j,c,y⟩:=ktn g;obtain ⟨vs,r,l,b⟩:=i.ag_cells;obtain ⟨u,v,g1,e,p⟩:=kqW l b m;refine OpR.value hr (u:=u) ?_ p e;simp only [execOp,k,r];refine kaq ?_;subst j c;simp [Instr.field,run_underlying s,h2,asAgg,g1]
theorem ktN {T e:Yc} {m:Nat} {x y:Yf} (r:o.op = .index T x y) (hr:HR w O μ h n) (A:arrO P T=some (m,e)) (f:P.cellsOf e≠0) {cs:Ya AV} (p:VR w O μ n (.ag cs) (a.eval x))
  {k:IntKind} {i:Int} (hi:VR w O μ n (.sc (.int k i)) (a.eval y)) (j:0<=i) (C:i<m) (t:partK P e cs (i.toNat*P.cellsOf e) (λv=>K v h n)):OpR P o a w O μ n K:=by
 obtain ⟨vs,B,s,g⟩:=p.ag_cells;obtain ⟨u,v,g1,l,z⟩:=kqW s g t;obtain ⟨E,b⟩:=kcq f;have c:=ksW A;refine OpR.value hr (u:=u) ?_ z l;simp only [execOp,r,B,hi.int_inv];refine kaq ?_;simp [Instr.index,run_underlying c,asIntOf,j,C,kaS b,g1]
theorem ktG {T:Yc} {x y:Yf} (j:o.op = .index T x y) (hr:HR w O μ h n) (c:P.underlying T=some .string) {s:ByteArray} (e:VR w O μ n (.sc (.string s)) (a.eval x))
  {k:IntKind} {i:Int} (hi:VR w O μ n (.sc (.int k i)) (a.eval y)) (f:0<=i) {b:UInt8} (g:s[i.toNat]?=some b) (l:K (.sc (.int .u8 b.toNat)) h n):OpR P o a w O μ n K:=by
 refine OpR.value hr (u:=.int .u8 b.toNat) ?_ (.sc _ rfl) l;simp only [execOp,j,e.sc_inv,hi.int_inv];refine kaq ?_;simp [Instr.index,run_underlying c,asIntOf,f,g]
theorem kwf {x:Yf} {i:Nat} (j:o.op = .extract x i) (hr:HR w O μ h n) {cs:Ya AV} (g:VR w O μ n (.tp cs) (a.eval x)) {c:AV} (f:cs[i]?=some c) (l:K c h n):OpR P o a w O μ n K:=by
 generalize k:a.eval x=u at g;cases g with
 | tp _ vs us m b e=>
  refine OpR.value hr (u:=us i) ?_ (e i c f) l;simp only [execOp,j,k];refine kaq ?_;simp [Instr.extract,b i c f]
theorem ktO {f:FuncId} {b:Array Yf} (l:o.op = .makeFunc (.func f) #[] b) (hr:HR w O μ h n) {env:Env} (i:∀ x,VR w O μ n (ev env x) (a.eval x)) (k:K (.fn f (b.toList.map (ev env))) h n):OpR P o a w O μ n K:=by
 refine OpR.value hr (u:=.func (.func f) #[] (b.map a.eval)) ?_ ?_ k
 ·simp [execOp,l,Instr.makeFunc]
 ·refine .fn f _ _ (λj=>(b.map a.eval).getD j undef) (by simp) (λj c g=>?_) (λj c g=>?_);all_goals
   simp only [jas,jad] at g;obtain ⟨x,e,rfl⟩:=g;simp only [jcr] at e
  ·simp [e]
  ·simp only [jah,Array.getElem?_map,e,jck,jcb]; exact i x
theorem kra {x:Yf} (j:o.op = .nilCheck x) (hr:HR w O μ h n) {cs:Ya AV} (e:VR w O μ n (.fp cs) (a.eval x)) (k:K (.fp cs) h n):OpR P o a w O μ n K:=by
 have c:=e;generalize f:a.eval x=u at e;cases e with
 | fp _ b off us hA l g i=>
  rw [f] at c;refine OpR.value hr ?_ c k;simp [execOp,j,f]
theorem kqh {x:Yf} (f:o.op = .nilCheck x) (hr:HR w O μ h n) {id i j k:Nat} {T:Yc} {es:Ya (Ya AV)} (hB:h id=some (.cells k T es)) (e:VR w O μ n (.own id i j) (a.eval x)) (g:K (.own id i j) h n):OpR P o a w O μ n K:=by
 obtain ⟨b,c,g1,m,l,p⟩:=kiZ hr hB e;refine OpR.value hr (u:=a.eval x) ?_ e g;simp [execOp,f,l]
theorem krK {x:Yf} (j:o.op = .nilCheck x) (hr:HR w O μ h n) {f:FuncId} {b:Ya AV} (e:VR w O μ n (.fn f b) (a.eval x)) (i:K (.fn f b) h n):OpR P o a w O μ n K:=by
 have c:=e;generalize g:a.eval x=u at e;cases e with
 | fn _ _ vs us _ _ _=>
  rw [g] at c;refine OpR.value hr ?_ c i;simp [execOp,j,g]
theorem kAv {x:Yf} (t:Yc) (e:o.op = .unOp .not t x) (hr:HR w O μ h n) {b:Bool} (c:VR w O μ n (.sc (.bool b)) (a.eval x)) (f:K (.sc (.bool (!b))) h n):OpR P o a w O μ n K:=by
 refine OpR.value hr (u:=.bool !b) ?_ (.sc _ rfl) f;simp [execOp,e,c.bool_inv,Op.unary]
theorem kAW {x:Yf} (t:Yc) (c:o.op = .unOp .neg t x) (hr:HR w O μ h n) {k:IntKind} {i:Int} (b:VR w O μ n (.sc (.int k i)) (a.eval x)) (e:K (.sc (.int k (k.wrap (0-i)))) h n):OpR P o a w O μ n K:=by
 refine OpR.value hr (u:=.int k (k.wrap (0-i))) ?_ (.sc _ rfl) e;simp [execOp,c,b.int_inv,Op.unary,Op.intArith]
theorem krF {S T:Yc} {x:Yf} (f:o.op = .convert S T x) (hr:HR w O μ h n) {k b:IntKind} {i:Int} (hS:(P.underlying S).isSome=true) (hT:intO P T=some b) (e:VR w O μ n (.sc (.int k i)) (a.eval x))
  (g:K (.sc (.int b (b.wrap i))) h n):OpR P o a w O μ n K:=by
 have hT':P.underlying T=some (.int b):=by
  unfold intO at hT; split at hT
  ·cases hT; assumption
  ·cases hT
 obtain ⟨d,c⟩:=jao.1 hS;refine OpR.value hr (u:=.int b (b.wrap i)) ?_ (.sc _ rfl) g;simp only [execOp,f,e.int_inv];exact kaq (by simp [convert,run_underlying c,run_underlying hT',Conv.intToInt])
theorem kmg {S T:Yc} {x:Yf} (g:o.op = .convert S T x) (hr:HR w O μ h n) {u b:Ye} (e:VR w O μ n (.sc u) (a.eval x)) (c:∀ w,(convert S T u).run P w = .ok b w) (f:b.oneCell'=true)
  (i:K (.sc b) h n):OpR P o a w O μ n K:=by
 refine OpR.value hr (u:=b) ?_ (.sc _ f) i;simp only [execOp,g,e.sc_inv];exact kaq (c w)
end
def bitsI (c:BinOp) (k:IntKind) (x y:Int):Int:=
 let a:=BitVec.ofInt k.bits x
 let b:=BitVec.ofInt k.bits y
 match c with
 | .and=>k.wrap (a &&& b).toNat
 | .or=>k.wrap (a ||| b).toNat
 | .xor=>k.wrap (a ^^^ b).toNat
 | _=>k.wrap (a &&& ~~~b).toNat
def abinI (c:BinOp) (k:IntKind) (x:Int) (b:IntKind) (y:Int) (K:AV->Prop):Prop:=
 match c with
 | .shl=>0<=y/\K (.sc (.int k (k.wrap (x*2 ^ (min y.toNat k.bits)))))
 | .shr=>0<=y/\K (.sc (.int k (x.fdiv (2 ^ (min y.toNat k.bits)))))
 | .add=>k=b/\K (.sc (.int k (k.wrap (x+y))))
 | .sub=>k=b/\K (.sc (.int k (k.wrap (x-y))))
 | .mul=>k=b/\K (.sc (.int k (k.wrap (x*y))))
 | .quo=>k=b/\y≠0/\K (.sc (.int k (k.wrap (x.tdiv y))))
 | .rem=>k=b/\y≠0/\K (.sc (.int k (x.tmod y)))
 | .and=>k=b/\K (.sc (.int k (bitsI .and k x y)))
 | .or=>k=b/\K (.sc (.int k (bitsI .or k x y)))
 | .xor=>k=b/\K (.sc (.int k (bitsI .xor k x y)))
 | .andNot=>k=b/\K (.sc (.int k (bitsI .andNot k x y)))
 | .eql=>k=b/\K (.sc (.bool (x==y)))
 | .neq=>k=b/\K (.sc (.bool (x != y)))
 | .lss=>k=b/\K (.sc (.bool (decide (x<y))))
 | .leq=>k=b/\K (.sc (.bool (decide (x<=y))))
 | .gtr=>k=b/\K (.sc (.bool (decide (y<x))))
 | .geq=>k=b/\K (.sc (.bool (decide (y<=x))))
def abinS (b:BinOp) (x y:ByteArray) (K:AV->Prop):Prop:=
 match b with
 | .add=>x.size+y.size<=9223372036854775807/\K (.sc (.string (x++y)))
 | .eql=>K (.sc (.bool (x.toList==y.toList)))
 | .neq=>K (.sc (.bool (!(x.toList==y.toList))))
 | .lss=>K (.sc (.bool (Op.bytesLess x.toList y.toList)))
 | .leq=>K (.sc (.bool (Op.bytesLess x.toList y.toList||x.toList==y.toList)))
 | .gtr=>K (.sc (.bool (!(Op.bytesLess x.toList y.toList||x.toList==y.toList))))
 | .geq=>K (.sc (.bool (!(Op.bytesLess x.toList y.toList))))
 | _=>False
def Cmp (P:Yd) (h:AH) (c:BinOp) (T:Yc) (x y:AV) (S:Bool->Prop):Prop:=
 ∀ (w:World) (O:Nat->Prop) (μ:Mu) (n:Nat) (u v:Ye) (X Y:Yf),HR w O μ h n->VR w O μ n x u->VR w O μ n y v->∃ b,S b/\(do eqGuard c T X Y u v; binOp c T u v:Sem Ye).run P w = .ok (.bool b) w
def abin (P:Yd) (h:AH) (c:BinOp) (T:Yc) (x y:AV) (K:AV->Prop):Prop:=
 match x,y with
 | .sc (.int k a),.sc (.int k' b)=>abinI c k a k' b K
 | .sc (.string a),.sc (.string b)=>abinS c a b K
 | .sc (.bool a),.sc (.bool b)=>P.underlying T=some .bool/\(match c with | .eql=>K (.sc (.bool (a==b))) | .neq=>K (.sc (.bool (!(a==b)))) | _=>False)
 | x,y=>∃ S,Cmp P h c T x y S/\∀ b,S b->K (.sc (.bool b))
section
variable {P:Yd} {o:Oper} {a:Act} {w:World} {O:Nat->Prop} {μ:Mu} {h:AH} {n:Nat} {K:K3}
theorem khu (b:BinOp) (T:Yc) (X Y:Yf) {u v:Ye} (c:∀ cs,u≠.agg cs) (h2:u≠.nilIface) (w:World):(eqGuard b T X Y u v).run P w = .ok () w:=by
 unfold eqGuard;cases u <;> first | exact absurd rfl (c _) | exact absurd rfl h2 | (cases b <;> simp)
theorem kwa {e:BinOp} {k f:IntKind} {x y:Int} {g:AV->Prop} (b:abinI e k x f y g) (T:Yc) (w:World):∃ v,(binOp e T (.int k x) (.int f y)).run P w = .ok v w/\v.oneCell'=true/\g (.sc v):=by
 cases e;case shl=>obtain ⟨c,b⟩:=b; exact ⟨_,by simp [binOp,Op.shift,show ¬ y<0 by omega],rfl,b⟩
 case shr=>obtain ⟨c,b⟩:=b; exact ⟨_,by simp [binOp,Op.shift,show ¬ y<0 by omega],rfl,b⟩
 case quo=>obtain ⟨rfl,c,b⟩:=b; exact ⟨_,by simp [binOp,Op.intDiv,c],rfl,b⟩
 case rem=>obtain ⟨rfl,c,b⟩:=b; exact ⟨_,by simp [binOp,Op.intDiv,c],rfl,b⟩
 all_goals
  obtain ⟨rfl,b⟩:=b;refine ⟨_,?_,?_,b⟩
  ·simp [binOp,Op.intArith,Op.intCmp,Op.intBits,bitsI]
  ·rfl
theorem kwo {c:BinOp} {x y:ByteArray} {e:AV->Prop} (b:abinS c x y e) (T:Yc) (w:World):∃ v,(binOp c T (.string x) (.string y)).run P w = .ok v w/\v.oneCell'=true/\e (.sc v):=by
 cases c;case add=>
  obtain ⟨f,b⟩:=b;refine ⟨_,?_,rfl,b⟩;have:¬ ((x.size+y.size:Nat):Int)>IntKind.i64.max:=by simp [IntKind.max,IntKind.signed,IntKind.bits]; omega
  simp only [binOp,Op.stringOp];rw [if_neg this];rfl
 all_goals first | exact b.elim | exact ⟨_,by simp [binOp,Op.stringOp],rfl,b⟩
theorem kye {m:BinOp} {T B:Yc} {x y:Yf} (g:o.op = .binOp m T x y B) (hr:HR w O μ h n) {z A:AV} (l:VR w O μ n z (a.eval x)) (h2:VR w O μ n A (a.eval y))
  (f:abin P h m T z A (λv=>K v h n)):OpR P o a w O μ n K:=by
 unfold abin at f;split at f
 ·rename_i k i E j;obtain ⟨v,g1,p,r⟩:=kwa (P:=P) f T w;refine OpR.value hr (u:=v) ?_ (.sc v p) r;simp only [execOp,g,l.int_inv,h2.int_inv];refine kaq ?_;rw [Sem.run_bind,khu m T x y (by intro cs c; cases c) (by intro c; cases c)];exact g1
 ·rename_i s t;obtain ⟨v,g1,p,r⟩:=kwo (P:=P) f T w;refine OpR.value hr (u:=v) ?_ (.sc v p) r;simp only [execOp,g,l.sc_inv,h2.sc_inv];refine kaq ?_;rw [Sem.run_bind,khu m T x y (by intro cs c; cases c) (by intro c; cases c)];exact g1
 ·rename_i s t;obtain ⟨hT,f⟩:=f;split at f
  ·refine OpR.value hr (u:=.bool (s==t)) ?_ (.sc _ rfl) f;simp only [execOp,g,l.sc_inv,h2.sc_inv];refine kaq ?_;rw [Sem.run_bind,khu _ T x y (by intro cs c; cases c) (by intro c; cases c)];exact run_eql_bool w T s t hT
  ·refine OpR.value hr (u:=.bool (!(s==t))) ?_ (.sc _ rfl) f;simp only [execOp,g,l.sc_inv,h2.sc_inv];refine kaq ?_;rw [Sem.run_bind,khu _ T x y (by intro cs c; cases c) (by intro c; cases c)];exact run_neq_bool w T s t hT
  ·exact f.elim
 ·obtain ⟨S,c,f⟩:=f;obtain ⟨b,C,e⟩:=c w O μ n _ _ x y hr l h2;refine OpR.value hr (u:=.bool b) ?_ (.sc _ rfl) (f b C);simp only [execOp,g];exact kaq e
theorem kjd {α:Type} (l vs:Ya α) (p:Nat) (hp:p+vs.length<=l.length) (q:Nat):(l.take p++vs++l.drop (p+vs.length))[q]?=if p<=q/\q<p+vs.length then vs[q-p]? else l[q]?:=by
 have c:(l.take p).length=p:=by rw [jbi]; omega
 split
 ·rename_i h;rw [jau,jcj (by omega),c,jbo (by omega)]
 ·rename_i h;rcases jdg q p with b | b
  ·rw [jau,jbo (by omega),jbr,if_pos b]
  ·rw [jcj (by simp; omega),jar];congr 1;simp; omega
theorem kwq (hr:HR w O μ h n) {id k b i j:Nat} {T:Yc} {es:Ya (Ya AV)} {c:Array Ye} (H:μ id=some (b,k)) (G:w.heap[b]?=some (.cells c T (0,0)))
  (hB:h id=some (.cells k T es)) {e:Ya AV} (B:es[i]?=some e) {xs:Ya AV} {us:Ya Ye} (hl:us.length=xs.length) (z:j+xs.length<=e.length)
  (Z:∀ x∈us,x.oneCell'=true) (U:∀ (q:Nat) (x:AV),xs[q]?=some x->x.one=true/\∃ u,us[q]?=some u/\VR w O μ n x u) :
  ∃ w',(storeCells ⟨b,i*k+j,none⟩ us 0).run P w = .ok () w'/\Evo w μ n w' μ n/\HR w' O μ (updH h id (.cells k T (es.set i (e.take j++xs++e.drop (j+xs.length))))) n:=by
 obtain ⟨b',c',g1,S,s⟩:=hr.blk id _ hB;rw [H] at g1; cases g1;rw [G] at S; cases S;have X:e.length=k:=(s i e B).1;have L:i*k+j+us.length<=c.size:=by
  rcases Nat.eq_zero_or_pos us.length with t | t
  ·rw [t];rcases Nat.eq_zero_or_pos k with A | A
   ·have:j=0:=by omega
    simp [A,this]
   ·obtain ⟨_,u,M,_⟩:=(s i e B).2 (k-1) (e[k-1]'(by omega)) (jae (by omega));have:=(jal.1 M).1;omega
  ·have f:j+us.length-1<e.length:=by omega
   obtain ⟨_,u,M,_⟩:=(s i e B).2 (j+us.length-1) (e[j+us.length-1]'f) (jae f);have:=(jal.1 M).1;omega
 have l:=run_storeCells_at P b (i*k+j) T us 0 c w G (by omega) Z;simp only [Nat.add_zero] at l;refine ⟨_,l,?_⟩;generalize v:(c.toList.take (i*k+j)++us++c.toList.drop (i*k+j+us.length)).toArray=c';have E:∀ q,c'[q]?=if i*k+j<=q/\q<i*k+j+us.length then us[q-(i*k+j)]? else c[q]?:=by
  intro q;rw [<-v];have:=kjd c.toList us (i*k+j) (by simpa using L) q;simpa using this
 refine hr.set id b k H _ rfl rfl rfl (by simp) (λq f=>setRow_other w b q c' f) (λc0 T0 f0 t=>?_) (λg=>?_)
 ·rw [G] at t; cases t;refine ⟨c',setRow_heap w b c c' T (0,0) G,?_⟩;rw [<-v]; simp; omega
 ·refine ⟨b,c',H,setRow_heap w b c c' T (0,0) G,λq e' f=>?_⟩;rw [jcy] at f;by_cases p:i=q
  ·subst p;rw [if_pos rfl,if_pos (jaf.1 B).1] at f;cases f;refine ⟨by simp; omega,λr x m=>?_⟩;rw [kjd e xs j z r] at m;rw [E];split at m
   ·rename_i W;obtain ⟨C,u,y,F⟩:=U _ x m;refine ⟨C,u,?_,F.evo g⟩;rw [if_pos (by omega),show i*k+r-(i*k+j)=r-j by omega];exact y
   ·rename_i R;obtain ⟨C,u,y,F⟩:=(s i e B).2 r x m;refine ⟨C,u,?_,F.evo g⟩;rw [if_neg (by omega)];exact y
  ·rw [if_neg p] at f;refine ⟨(s q e' f).1,λr x m=>?_⟩;obtain ⟨C,u,y,F⟩:=(s q e' f).2 r x m;refine ⟨C,u,?_,F.evo g⟩;have Y:r<k:=by rw [<-(s q e' f).1]; exact (jaf.1 m).1
   rw [E,if_neg ?_]
   ·exact y
   ·rintro ⟨l1,l2⟩;rcases Nat.lt_or_gt_of_ne p with J | I
    ·have:(i+1)*k<=q*k:=jbn k J;rw [jcc] at this; omega
    ·have:(q+1)*k<=i*k:=jbn k I;rw [jcc] at this; omega
theorem kyk {T:Yc} {x y:Yf} (B:o.op = .store T x y) (hr:HR w O μ h n) {id i j k:Nat} {T':Yc} {es:Ya (Ya AV)} (A:VR w O μ n (.own id i j) (a.eval x)) (hB:h id=some (.cells k T' es))
  {e:Ya AV} (G:es[i]?=some e) {v:AV} (t:VR w O μ n v (a.eval y)) {xs:Ya AV} (s:kaI v=some xs) (g:xs.length=P.cellsOf T) (H:xs.length≠0) (f:j+xs.length<=e.length)
  (I:K .ud (updH h id (.cells k T' (es.set i (e.take j++xs++e.drop (j+xs.length))))) n):OpR P o a w O μ n K:=by
 obtain ⟨b,c,g1,u,F,J⟩:=kiZ hr hB A;obtain ⟨p,E,r⟩:=kig t s;obtain ⟨L,l⟩:=kcq (P:=P) (T:=T) (by omega);obtain ⟨w',r1,r2,C⟩:=kwq (P:=P) hr g1 u hB G (xs:=xs) (us:=(a.eval y).cells.toList) (by simpa using p) f E (λq z m=>⟨(r q z m).1,by simpa using (r q z m).2⟩);refine ⟨undef,w',μ,.ud,_,n,.inr ⟨?_,rfl⟩,I,C,.ud,r2⟩;simp only [execOp,B,F];have:(Instr.storeAt T (.pointer (some ⟨b,i*k+j,none⟩)) (a.eval y)).run P w = .ok () w':=by
  simp [Instr.storeAt,Instr.sureAddr,storeVar,kaS l,p,g,r1]
 simp [this]
end
def isCells:Yb ABlk->Bool
 | some (.cells _ _ _)=>true
 | _=>false
def lenK (P:Yd) (h:AH) (T:Yc) (v:AV) (K:Nat->Prop):Prop:=
 match v with
 | .sl es=>(elemO P T).isSome=true/\(es.length<=9223372036854775807->K es.length)
 | .ms id _ len=>(elemO P T).isSome=true/\isCells (h id)=true/\(len<=9223372036854775807->K len)
 | .e0=>(elemO P T).isSome=true/\K 0
 | .sc (.slice _ l _)=>(elemO P T).isSome=true/\K l
 | .sc (.string s)=>P.underlying T=some .string/\K s.size
 | .mp id=>match h id,P.underlying T with
  | some (.map kvs),some (.map _ _)=>K kvs.length
  | _,_=>False
 | _=>False
section
variable {P:Yd} {o:Oper} {a:Act} {w:World} {O:Nat->Prop} {μ:Mu} {h:AH} {n:Nat} {K:K3}
theorem kkd {T:Yc} (b:(elemO P T).isSome=true):∃ e,P.underlying T=some (.slice e):=by
 obtain ⟨e,h⟩:=jao.1 b;exact ⟨e,kcH h⟩
theorem run_len_slice' {T e:Yc} (hT:P.underlying T=some (.slice e)) (ty:Yc) (base:Yb Addr) (m c:Nat) (w:World):(Builtin.len_ #[T] ty #[.slice base m c]).run P w = .ok (goInt m) w:=by
 simp [Builtin.len_,run_underlying hT]
theorem kkH {B:Yb ABlk} (hB:isCells B=true):∃ k T es,B=some (.cells k T es):=by
 cases B with
 | none=>simp [isCells] at hB
 | some B=>cases B with
  | cells k T es=>exact ⟨k,T,es,rfl⟩
  | map b=>simp [isCells] at hB
  | si s pos=>simp [isCells] at hB
theorem kdB {b:Builtin} {args:Array Yf} {ts:Array Yc} (c:o.op = .call { callee:=.builtin b,args:=args,argTypes:=ts }) :
  execOp a.eval o=builtin b ts o.type (args.map fun | .const _=>true | _=>false) (args.map a.eval):=by
 simp only [execOp,c,resolve,pure_bind,invoke];rfl
theorem kAz {T:Yc} {x:Yf} (y:o.op = .call { callee:=.builtin .len,args:=#[x],argTypes:=#[T] }) (hr:HR w O μ h n) {v:AV} (i:VR w O μ n v (a.eval x))
  (f:lenK P h T v (λm=>K (.sc (.int .i64 m)) h n)):OpR P o a w O μ n K:=by
 have fin:∀ {m:Nat},(Builtin.len_ #[T] o.type #[a.eval x]).run P w = .ok (goInt m) w->K (.sc (.int .i64 m)) h n->OpR P o a w O μ n K:=by
  intro m t h2;refine OpR.value hr (u:=.int .i64 m) ?_ (.sc _ rfl) h2;rw [kdB y];simp only [List.map_toArray,jap,jeh];exact kaq t
 unfold lenK at f;generalize F:a.eval x=u at *
 split at f
 ·obtain ⟨g,f⟩:=f;obtain ⟨e,g⟩:=kkd g;cases i with
  | slnil=>exact fin (run_len_slice' g _ _ _ _ w) (f (by simp))
  | sl _ _ _ _ _ _ s j=>exact fin (run_len_slice' g _ _ _ _ w) (f (by simp only [maxLen] at j; omega))
 ·obtain ⟨g,hB,f⟩:=f;obtain ⟨e,g⟩:=kkd g;obtain ⟨k,T',es,hB⟩:=kkH hB;obtain ⟨b,c,B,cap,g1,r,rfl,_,C,z,_⟩:=kjb hr hB i;exact fin (run_len_slice' g _ _ _ _ w) (f (by simp only [maxLen] at z; omega))
 ·obtain ⟨g,f⟩:=f;obtain ⟨e,g⟩:=kkd g;cases i with
  | e0 p=>exact fin (run_len_slice' g _ _ _ _ w) f
 ·obtain ⟨g,f⟩:=f;obtain ⟨e,g⟩:=kkd g;rw [i.sc_inv] at fin;exact fin (run_len_slice' g _ _ _ _ w) f
 ·obtain ⟨g,f⟩:=f;rw [i.sc_inv] at fin;exact fin (by simp [Builtin.len_,run_underlying g]) f
 ·split at f
  ·rename_i l k e hB hT;obtain ⟨b,es,g1,r,A,E⟩:=hr.blk _ _ hB;cases i with
   | mp _ _ hi t i=>
    rw [i b 0 g1] at fin;refine fin (m:=l.length) ?_ f;simp [Builtin.len_,run_underlying hT,getObj,Sem.run,r,A]
  ·exact f.elim
 ·exact f.elim
theorem krq {x y:Yf} {ts:Array Yc} {k:IntKind} {i j:Int} (hr:HR w O μ h n) (hi:VR w O μ n (.sc (.int k i)) (a.eval x)) (e:VR w O μ n (.sc (.int k j)) (a.eval y)) :
  (o.op = .call { callee:=.builtin .min,args:=#[x,y],argTypes:=ts }->K (.sc (.int k (if j<i then j else i))) h n->OpR P o a w O μ n K)/\
  (o.op = .call { callee:=.builtin .max,args:=#[x,y],argTypes:=ts }->K (.sc (.int k (if i<j then j else i))) h n->OpR P o a w O μ n K):=by
 constructor
 ·intro b c;refine OpR.value hr (u:=.int k (if j<i then j else i)) ?_ (.sc _ rfl) c;rw [kdB b];simp only [List.map_toArray,jap,jeh,hi.int_inv,e.int_inv];exact kaq (run_min_int2 w ts o.type k k i j)
 ·intro b c;refine OpR.value hr (u:=.int k (if i<j then j else i)) ?_ (.sc _ rfl) c;rw [kdB b];simp only [List.map_toArray,jap,jeh,hi.int_inv,e.int_inv];exact kaq (run_max_int2 w ts o.type k k i j)
theorem kpB {x y q:Yf} {ts:Array Yc} {k:IntKind} {i j l:Int} (hr:HR w O μ h n) (hi:VR w O μ n (.sc (.int k i)) (a.eval x)) (e:VR w O μ n (.sc (.int k j)) (a.eval y)) (hl:VR w O μ n (.sc (.int k l)) (a.eval q)) :
  (o.op = .call { callee:=.builtin .min,args:=#[x,y,q],argTypes:=ts }->K (.sc (.int k (if l<(if j<i then j else i) then l else (if j<i then j else i)))) h n->OpR P o a w O μ n K)/\
  (o.op = .call { callee:=.builtin .max,args:=#[x,y,q],argTypes:=ts }->K (.sc (.int k (if (if i<j then j else i)<l then l else (if i<j then j else i)))) h n->OpR P o a w O μ n K):=by
 constructor
 ·intro b c;refine OpR.value hr (u:=.int k (if l<(if j<i then j else i) then l else (if j<i then j else i))) ?_ (.sc _ rfl) c;rw [kdB b];simp only [List.map_toArray,jap,jeh,hi.int_inv,e.int_inv,hl.int_inv];exact kaq (run_min_int3 w ts o.type k k k i j l)
 ·intro b c;refine OpR.value hr (u:=.int k (if (if i<j then j else i)<l then l else (if i<j then j else i))) ?_ (.sc _ rfl) c;rw [kdB b];simp only [List.map_toArray,jap,jeh,hi.int_inv,e.int_inv,hl.int_inv];exact kaq (run_max_int3 w ts o.type k k k i j l)
def loA:Yb AV->Yb Int
 | none=>some 0
 | some (.sc (.int _ i))=>some i
 | _=>none
def hiA (len:Nat):Yb AV->Yb Int
 | none=>some len
 | some (.sc (.int _ i))=>some i
 | _=>none
def kce (len:Nat) (lo hi:Yb AV) (K:Nat->Nat->Prop):Prop:=
 match loA lo,hiA len hi with
 | some l,some u=>0<=l/\l<=u/\u<=len/\K l.toNat u.toNat
 | _,_=>False
theorem run_sliceBound' {k:IntKind} {i:Int} {y:Nat} {b:BoundsCode} (c:0<=i) (e:i<=y) (w:World):(Instr.sliceBound (.int k i) y b).run P w = .ok i.toNat w:=by
 simp [Instr.sliceBound,asIntOf,c,e]
theorem kdX {isS:Bool} {len cap:Nat} {lo hi:Yb Ye} {la p:Yb AV} (y:len<=cap) {t:Nat->Nat->Prop} (j:kce len la p t)
  (hl:∀ v,lo=some v->∃ x,la=some x/\VR w O μ n x v) (B:∀ v,hi=some v->∃ x,p=some x/\VR w O μ n x v) (r:lo=none->la=none) (m:hi=none->p=none) :
  ∃ l u,(Instr.sliceBounds isS len cap lo hi none).run P w = .ok (l,u,cap) w/\t l u/\l<=u/\u<=len:=by
 unfold kce at j;split at j
 ·rename_i l u f g;obtain ⟨z,C,h2,j⟩:=j;refine ⟨l.toNat,u.toNat,?_,j,by omega,by omega⟩;have s:∀ b,((match hi,(none:Yb Ye) with
    | some v,some _=>Instr.sliceBound v cap .slice3B
    | some v,none=>Instr.sliceBound v cap b
    | none,none=>pure len
    | none,some _=>stuck "":Sem Nat)).run P w = .ok u.toNat w:=by
   intro b;cases hi with
   | none=>rw [m rfl] at g; simp [hiA] at g; subst g; simp
   | some v=>
    obtain ⟨x,rfl,k⟩:=B v rfl;unfold hiA at g;split at g
    ·rename_i e; cases e
    ·rename_i e; cases e; cases g; rw [k.int_inv]; exact run_sliceBound' (by omega) (by omega) w
    ·cases g
  have A:∀ b,((match lo with
    | some v=>Instr.sliceBound v u.toNat b
    | none=>pure 0:Sem Nat)).run P w = .ok l.toNat w:=by
   intro b;cases lo with
   | none=>rw [r rfl] at f; simp [loA] at f; subst f; simp
   | some v=>
    obtain ⟨x,rfl,k⟩:=hl v rfl;unfold loA at f;split at f
    ·rename_i e; cases e
    ·rename_i e; cases e; cases f; rw [k.int_inv]; exact run_sliceBound' z (by omega) w
    ·cases f
  have c:=A .sliceB;cases isS
  ·have i:=s .sliceAlen;cases hi with
   | none=>
    simp only [Sem.run_pure,Result.ok.injEq,and_true] at i;cases lo with
    | none=>simp only [Sem.run_pure,Result.ok.injEq,and_true] at c; simp [Instr.sliceBounds,<-i,<-c]
    | some v=>rw [<-i] at c ⊢; simp [Instr.sliceBounds,c]
   | some v=>
    simp only at i;cases lo with
    | none=>simp only [Sem.run_pure,Result.ok.injEq,and_true] at c; simp [Instr.sliceBounds,i,<-c]
    | some v=>simp only at c; simp [Instr.sliceBounds,i,c]
  ·have i:=s .sliceAcap;cases hi with
   | none=>
    simp only [Sem.run_pure,Result.ok.injEq,and_true] at i;cases lo with
    | none=>simp only [Sem.run_pure,Result.ok.injEq,and_true] at c; simp [Instr.sliceBounds,<-i,<-c]
    | some v=>rw [<-i] at c ⊢; simp [Instr.sliceBounds,c]
   | some v=>
    simp only at i;cases lo with
    | none=>simp only [Sem.run_pure,Result.ok.injEq,and_true] at c; simp [Instr.sliceBounds,i,<-c]
    | some v=>simp only at c; simp [Instr.sliceBounds,i,c]
 ·exact j.elim
def kfp (P:Yd) (h:AH) (T:Yc) (x:AV) (lo hi:Yb AV) (K:AV->Prop):Prop:=
 match x with
 | .sl es=>(∃ e,elemO P T=some e/\(∃ i,P.info? e=some i)/\∀ c,es.head?=some c->c.length=P.cellsOf e)/\kce es.length lo hi λl u=>K (.sl ((es.take u).drop l))
 | .ms id off len=>(∃ e,elemO P T=some e/\match h id with | some (.cells k _ _)=>k=P.cellsOf e/\k≠0 | _=>False)/\kce len lo hi λl u=>K (.ms id (off+l) (u-l))
 | .sc (.slice none 0 0)=>(∃ e,elemO P T=some e/\∃ i,P.info? e=some i)/\kce 0 lo hi λ_ _=>K (.sc (.slice none 0 0))
 | .sc (.string s)=>P.underlying T=some .string/\kce s.size lo hi λl u=>K (.sc (.string (s.extract l u)))
 | _=>False
theorem optAV {env:Env} (c:∀ x,VR w O μ n (ev env x) (a.eval x)) (lo:Yb Yf):(∀ v,lo.map a.eval=some v->∃ x,lo.map (ev env)=some x/\VR w O μ n x v)/\(lo.map a.eval=none->lo.map (ev env)=none):=by
 cases lo with
 | none=>exact ⟨λv b=>by simp at b,λ_=>rfl⟩
 | some x=>exact ⟨λv b=>by simp at b; subst b; exact ⟨_,rfl,c x⟩,λhn=>by simp at hn⟩
theorem kgw {T e:Yc} (c:P.underlying T=some (.slice e)) {f:TypeInfo} (b:P.info? e=some f) {p:Yb Addr} {len cap:Nat} {lo hi:Yb Ye} {l u:Nat} (g:(Instr.sliceBounds true len cap lo hi none).run P w = .ok (l,u,cap) w) :
  (Instr.sliceAt T (.slice p len cap) lo hi none).run P w = .ok (.slice (if cap=l then p else p.map (·.add (l*P.cellsOf e))) (u-l) (cap-l)) w:=by
 simp [Instr.sliceAt,run_underlying c,Instr.slice,g,kaS b]
theorem kyH {T:Yc} {x:Yf} {lo hi:Yb Yf} (ho:o.op = .slice T x lo hi none) (hr:HR w O μ h n) {env:Env} (S:∀ x,VR w O μ n (ev env x) (a.eval x))
  (f:kfp P h T (ev env x) (lo.map (ev env)) (hi.map (ev env)) (λv=>K v h n)):OpR P o a w O μ n K:=by
 have y:=S x;obtain ⟨l1,l2⟩:=optAV S lo;obtain ⟨I,B⟩:=optAV S hi;have fin:∀ {u:Ye} {v:AV},(Instr.sliceAt T (a.eval x) (lo.map a.eval) (hi.map a.eval) none).run P w = .ok u w->VR w O μ n v u->K v h n->OpR P o a w O μ n K:=by
  intro u v X h2 h3;refine OpR.value hr ?_ h2 h3;simp only [execOp,ho];exact kaq X
 unfold kfp at f;generalize hu:a.eval x=u at *
 split at f
 ·rename_i es g;rw [g] at y;obtain ⟨⟨e,E,⟨Z,m⟩,F⟩,f⟩:=f;have hT:=kcH E;cases y with
  | slnil=>
   obtain ⟨l,u,g1,r,H,t⟩:=kdX (P:=P) (isS:=true) (cap:=0) (by simp) f l1 I l2 B;simp at t; subst t;have:l=0:=by omega
   subst this;exact fin (kgw hT m g1) (by simp; exact .slnil _) r
  | sl _ b off cap k us G aa hA A hc X U=>
   obtain ⟨l,u,g1,r,H,t⟩:=kdX (P:=P) (isS:=true) G f l1 I l2 B;refine fin (kgw hT m g1) ?_ r;have W:((es.take u).drop l).length=u-l:=by simp; omega
   by_cases p:cap=l
   ·rw [if_pos p];have:(es.take u).drop l=[]:=jbv (by omega);have R:u-l=0:=by omega
    rw [this,R];exact .sl [] b off _ k us (by simp) (by omega) (λi e hi=>by simp at hi) (λi e hi=>by simp at hi) (λi e hi=>by simp at hi) (λi e hi=>by simp at hi) (λi e hi=>by simp at hi)
   ·rw [if_neg p];simp only [jck,kiD];rw [<-W];have J:∀ (i:Nat) (e':Ya AV),((es.take u).drop l)[i]?=some e'->es[l+i]?=some e':=by
     intro i e' hi;rw [jar,jbr] at hi;split at hi
     ·exact hi
     ·cases hi
    have C:es≠[]->k=P.cellsOf e:=by
     intro z;cases es with
     | nil=>exact absurd rfl z
     | cons c es=>rw [<-A 0 c rfl]; exact F c rfl
    refine .sl _ b _ (cap-l) k (λi j=>us (l+i) j) (by omega) (by omega) (λi e' hi=>hA _ e' (J i e' hi)) (λi e' hi=>A _ e' (J i e' hi)) (λi e' hi j c L=>?_) (λi e' hi j c L=>X _ e' (J i e' hi) j c L) (λi e' hi j c L=>U _ e' (J i e' hi) j c L);have z:es≠[]:=by rintro rfl; simp at hi
    rw [<-C z];rw [show off+l*k+i*k+j=off+(l+i)*k+j by rw [jcc]; omega];exact hc _ e' (J i e' hi) j c L
 ·rename_i id off len g;rw [g] at y;obtain ⟨⟨e,E,hB⟩,f⟩:=f;have hT:=kcH E;split at hB
  ·rename_i k T' es hB';obtain ⟨M,ab⟩:=hB;obtain ⟨b,c,oo,cap,g1,r,rfl,H,t,g5,g6,Y⟩:=kjb hr hB' y;obtain ⟨Z,m⟩:=kcq (P:=P) (T:=e) (by omega);obtain ⟨l,u,f1,f2,f3,f4⟩:=kdX (P:=P) (isS:=true) t f l1 I l2 B;refine fin (kgw hT m f1) ?_ f2;refine .ms id _ _ _ H rfl λb' k' e'=>?_;rw [g1] at e'; cases e';by_cases p:cap=l
   ·rw [if_pos p];exact ⟨oo,cap-l,c,T',rfl,by omega,by omega,λhn=>by omega,r,by rw [<-Y]; congr 1; omega⟩
   ·rw [if_neg p];simp only [jck,kiD];exact ⟨oo+l*P.cellsOf e,cap-l,c,T',rfl,by omega,by omega,λhn=>by rw [g6 (by omega),M,jcc],r,by rw [<-Y]; congr 1; omega⟩
  ·exact hB.elim
 ·rename_i g;rw [g] at y;obtain ⟨⟨e,E,Z,m⟩,f⟩:=f;have hT:=kcH E;obtain ⟨l,u,g1,r,H,t⟩:=kdX (P:=P) (isS:=true) (cap:=0) (by simp) f l1 I l2 B;simp at t; subst t;have:l=0:=by omega
  subst this;rw [y.sc_inv] at fin;exact fin (kgw hT m g1) (.sc _ rfl) r
 ·rename_i s g;rw [g] at y;obtain ⟨hT,f⟩:=f;obtain ⟨l,u,g1,r,H,t⟩:=kdX (P:=P) (isS:=false) (cap:=s.size) (by simp) f l1 I l2 B;rw [y.sc_inv] at fin;refine fin ?_ (.sc _ rfl) r;simp [Instr.sliceAt,run_underlying hT,Instr.slice,g1]
 ·exact f.elim
end
section
variable {P:Yd} {o:Oper} {a:Act} {w:World} {O:Nat->Prop} {μ:Mu} {h:AH} {n:Nat} {K:K3}
theorem kiq {T:Yc} {z:Ya AV} (hz:zeroO P T=some z):∃ i c,P.info? T=some i/\i.zero=some c/\z=c.cells.toList.map .sc/\(∀ x∈c.cells.toList,x.oneCell'=true)/\c.cells.size=i.size/\P.cellsOf T=z.length:=by
 unfold zeroO at hz;simp only [jaa] at hz;obtain ⟨i,hi,c,e,hz⟩:=hz;split at hz
 ·rename_i b;cases hz;simp only [jac,jce,beq_iff_eq] at b;refine ⟨i,c,hi,e,rfl,λx f=>b.1 x (by simpa using f),b.2,?_⟩;simp [Program.cellsOf,hi,b.2]
 ·cases hz
theorem ktb {b:Ye} (A:∀ x∈b.cells.toList,x.oneCell'=true) (m k:Nat) (t:b.cells.size=k) (w:World) (O:Nat->Prop) (μ:Mu) (n:Nat) :
  ∀ (i:Nat) (e:Ya AV),(List.replicate m (b.cells.toList.map AV.sc))[i]?=some e->e.length=k/\∀ (j:Nat) (x:AV),e[j]?=some x->x.one=true/\
   ∃ u,((Array.range (m*k)).map (λq=>b.cells[q % b.cells.size]!))[i*k+j]?=some u/\VR w O μ n x u:=by
 intro i e hi;have c:=(jaf.1 hi).1;simp only [jdb] at c;rw [jcd,if_pos c] at hi;cases hi;refine ⟨by simp [t],λj x v=>?_⟩;simp only [jas,jad,jcr] at v;obtain ⟨y,l,rfl⟩:=v;have p:j<k:=by rw [<-t]; exact (jal.1 l).1
 have g:=A y (by simpa using Array.mem_of_getElem? l);refine ⟨g,y,?_,.sc y g⟩;have s:i*k+j<m*k:=by
  have:(i+1)*k<=m*k:=jbn k c;rw [jcc] at this; omega
 have f:(i*k+j) % b.cells.size=j:=by
  rw [t,Nat.mul_comm,Nat.mul_add_mod,Nat.mod_eq_of_lt p]
 simp only [Array.getElem?_map,Array.getElem?_range,s,↓reduceIte,jck,f];have:=jal.1 l;obtain ⟨r,z⟩:=this;rw [getElem!_pos b.cells j r,z]
theorem ktx {T e:Yc} {x y:Yf} (L:o.op = .makeSlice T x y) (hr:HR w O μ h n) (U:elemO P T=some e) {z:Ya AV} (hz:zeroO P e=some z) (v:z≠[])
  {k M:IntKind} {m:Int} (H:VR w O μ n (.sc (.int k m)) (a.eval x)) (G:VR w O μ n (.sc (.int M m)) (a.eval y)) (F:0<=m) (X:m<=1048576) (Z:P.bytesOf e<=1024)
  (Y:K (.ms n 0 m.toNat) (updH h n (.cells z.length e (List.replicate m.toNat z))) (n+1)):OpR P o a w O μ n K:=by
 obtain ⟨i,j,hi,A,l,r,W,B⟩:=kiq hz;have p:z.length=j.cells.size:=by rw [l]; simp
 have R:0<z.length:=by cases z with | nil=>exact absurd rfl v | cons _ _=>simp
 have hT:=kcH U;obtain ⟨s,S⟩:=khM hr e ((Array.range (m.toNat*z.length)).map (λq=>j.cells[q % j.cells.size]!)) z.length (List.replicate m.toNat z) (by
  have:=ktb r m.toNat z.length p.symm w O μ n;rw [l] at this ⊢;exact this)
 refine ⟨.slice (some ⟨w.heap.size,0,none⟩) m.toNat m.toNat,_,_,_,_,_,.inl ?_,Y,S,?_,s⟩
 ·simp only [execOp,L,H.int_inv,G.int_inv];refine kaq (u:=.slice (some ⟨w.heap.size,0,none⟩) m.toNat m.toNat) ?_;have t:(i.bytes:Int)<=1024:=(by have:P.bytesOf e=i.bytes:=(by simp [Program.bytesOf,hi]); omega);have I:IntKind.i64.wrap m=m:=IntWalk.i64_in m (by omega);have E:(i.bytes:Int)*m<=1024*1048576:=Int.mul_le_mul t X F (by omega);have J:¬ (((decide (m<0)||decide ((i.bytes:Int)*m>2 ^ 48))||decide (m<0)||decide (m>m))=true):=by
   simp; omega
  simp only [Instr.makeSlice,Sem.run_bind,run_underlying hT,Result.andThen_ok,asInt,asIntOf,pure_bind,Sem.run_pure,typeInfo,run_program,hi,I];rw [if_neg J];simp only [Sem.run_bind,run_askRoom,Result.andThen_ok,kaS hi];by_cases c:m.toNat*P.cellsOf e=0
  ·have g:∀ f:Nat->Ye,(Array.range (m.toNat*P.cellsOf e)).map f=(Array.range (m.toNat*z.length)).map (λq=>j.cells[q % j.cells.size]!):=λf=>by
    rw [<-B,c];exact Array.ext (by simp) λi h _=>by simp at h
   rw [if_pos c];simp only [Sem.run_bind,newRow,run_newObj,Result.andThen_ok,Sem.run_pure,g];rfl
  ·rw [if_neg c];simp only [Sem.run_bind,zeroValue,typeInfo,run_program,Result.andThen_ok,hi,Sem.run_pure,A,newRow,run_newObj,B];rfl
 ·refine .ms n 0 _ _ (by omega) rfl λb k2 C=>?_;simp [updM] at C;obtain ⟨rfl,rfl⟩:=C;refine ⟨0,m.toNat,_,e,rfl,jag _,?_,λ_=>by simp,kbO _ _,by simp⟩;unfold maxLen; omega
theorem kwy (off:Nat):∀ (l:Ya Ye) (s:Nat) (cells:Array Ye),off+s+l.length<=cells.size->
  ((l.zipIdx s).foldl (λcs x=>cs.setIfInBounds (off+x.2) x.1) cells).size=cells.size/\
  ∀ q,((l.zipIdx s).foldl (λcs x=>cs.setIfInBounds (off+x.2) x.1) cells)[q]?=if off+s<=q/\q<off+s+l.length then l[q-(off+s)]? else cells[q]?
 | [],s,cells,_=>⟨rfl,λq=>by simp; intro c h2; omega⟩
 | v::l,s,cells,hl=>by
  simp only [jcv] at hl;obtain ⟨c,h2⟩:=kwy off l (s+1) (cells.setIfInBounds (off+s) v) (by simp; omega);simp only [jbj,List.foldl_cons];refine ⟨by rw [c]; simp,λq=>?_⟩;rw [h2];by_cases e:q=off+s
  ·subst e;rw [if_neg (by omega),if_pos (by simp),Array.getElem?_setIfInBounds_self_of_lt (by omega)];simp
  ·by_cases b:off+s<=q/\q<off+s+(l.length+1)
   ·rw [if_pos (by omega),if_pos (by simpa using b)];rw [show q-(off+s)=(q-(off+(s+1)))+1 by omega,jby]
   ·rw [if_neg (by omega),if_neg (by simpa using b),jcx (by omega)]
theorem kto {place:Nat->Yb (Nat×Nat)} {cells:Array Ye} {i off size:Nat} {v:Ye} {rest:Ya (Nat×Ye)} (hp:place i=some (off,size)) (b:v.cells.size=size) (e:off+size<=cells.size) :
  ∃ c',Instr.fill place cells ((i,v)::rest)=Instr.fill place c' rest/\c'.size=cells.size/\∀ q,c'[q]?=if off<=q/\q<off+size then v.cells[q-off]? else cells[q]?:=by
 obtain ⟨c,h2⟩:=kwy off v.cells.toList 0 cells (by simp; omega);refine ⟨(v.cells.toList.zipIdx 0).foldl (λcs x=>cs.setIfInBounds (off+x.2) x.1) cells,?_,c,λq=>?_⟩
 ·simp only [Instr.fill,hp];rw [if_neg (by simp [b]; omega)];congr 1;rw [<-Array.foldl_toList];simp
 ·rw [h2];simp only [Nat.add_zero,jco,b,jcr]
def fillS (pl:Ya (Nat×Nat)) (env:Env):Ya (Nat×Yf)->Ya AV->Yb (Ya AV)
 | [],cells=>some cells
 | (i,x)::rest,cells=>
  match pl[i]?,kaI (ev env x) with
  | some (off,size),some xs=>if xs.length=size/\off+size<=cells.length then fillS pl env rest (cells.take off++xs++cells.drop (off+size)) else none
  | _,_=>none
def kmL (w:World) (O:Nat->Prop) (μ:Mu) (n:Nat) (c:Array Ye) (cells:Ya AV):Prop:=
 c.size=cells.length/\∀ (j:Nat) (x:AV),cells[j]?=some x->x.one=true/\∃ u,c[j]?=some u/\VR w O μ n x u
theorem klL {env:Env} (s:∀ x,VR w O μ n (ev env x) (a.eval x)) {place:Nat->Yb (Nat×Nat)} {pl:Ya (Nat×Nat)} (g:∀ i x,pl[i]?=some x->place i=some x) :
  ∀ (e:Ya (Nat×Yf)) (cells:Ya AV) (c:Array Ye) (r:Ya AV),kmL w O μ n c cells->fillS pl env e cells=some r->∃ c',Instr.fill place c (e.map λx=>(x.1,a.eval x.2))=some c'/\kmL w O μ n c' r
 | [],cells,c,r,hc,hf=>by simp [fillS] at hf; subst hf; exact ⟨c,rfl,hc⟩
 | (i,x)::rest,cells,c,r,hc,hf=>by
  simp only [fillS] at hf;split at hf
  ·rename_i off size xs hi t;split at hf
   ·rename_i b;obtain ⟨F,H,G⟩:=kig (s x) t;obtain ⟨c',g1,A,C⟩:=kto (place:=place) (cells:=c) (rest:=rest.map λx=>(x.1,a.eval x.2)) (g i _ hi) (v:=a.eval x) (by rw [F]; exact b.1) (by rw [hc.1]; exact b.2);have k:kmL w O μ n c' (cells.take off++xs++cells.drop (off+size)):=by
     refine ⟨by rw [A,hc.1]; simp; omega,λj y l=>?_⟩;rw [<-b.1,kjd cells xs off (by omega) j] at l;rw [C,<-b.1];split at l
     ·rename_i p;rw [if_pos p];obtain ⟨z,u,B,E⟩:=G _ y l;exact ⟨z,u,B,E⟩
     ·rename_i f;rw [if_neg f];exact hc.2 j y l
    obtain ⟨m,k1,k2⟩:=klL s g rest _ c' r k hf;exact ⟨m,by rw [jap,g1]; exact k1,k2⟩
   ·cases hf
  ·cases hf
def kkn (P:Yd) (T:Yc):Yb (Ya (Nat×Nat)):=
 match P.underlying T with
 | some (.struct fs)=>fs.toList.mapM λf=>(P.info? f.type).map λi=>(f.offset,i.size)
 | some (.array n e)=>(P.info? e).map λi=>(List.range n).map λj=>(j*i.size,i.size)
 | _=>none
theorem krs:∀ (b:Ya Field) (r:Ya (Nat×Nat)),b.mapM (λf=>(P.info? f.type).map λi=>(f.offset,i.size))=some r->
  ∀ w,(b.mapM (λf=>do pure (f.offset,<-sizeOf f.type)):Sem (Ya (Nat×Nat))).run P w = .ok r w
 | [],r,h,w=>by simp at h; subst h; simp
 | f::b,r,h,w=>by
  simp only [jdu,Option.bind_eq_bind,jaa,jad,Option.pure_def,Option.some.injEq] at h;obtain ⟨x,⟨i,hi,rfl⟩,r',hr,rfl⟩:=h;have c:=krs b r' hr w;simp only [jdu,Sem.run_bind,kaS hi,Result.andThen_ok,Sem.run_pure,c];simp [Program.cellsOf,hi]
theorem kyR {T:Yc} {b:Array (Nat×Yf)} (S:o.op = .build T b) (hr:HR w O μ h n) {env:Env} (M:∀ x,VR w O μ n (ev env x) (a.eval x)) {z:Ya AV} (hz:zeroO P T=some z) {pl:Ya (Nat×Nat)} (hp:kkn P T=some pl)
  {cs:Ya AV} (R:fillS pl env b.toList z=some cs) (U:K (.ag cs) h n):OpR P o a w O μ n K:=by
 obtain ⟨i,C,hi,v,t,F,W,X⟩:=kiq hz;have g:kmL w O μ n C.cells z:=by
  refine ⟨by rw [t]; simp,λj x c=>?_⟩;rw [t] at c;simp only [jas,jad,jcr] at c;obtain ⟨y,L,rfl⟩:=c;have r:=F y (by simpa using Array.mem_of_getElem? L);exact ⟨r,y,L,.sc y r⟩
 have s:(b.map λx=>(x.1,a.eval x.2)).toList=b.toList.map λx=>(x.1,a.eval x.2):=by simp
 unfold kkn at hp;split at hp
 ·rename_i J hT;obtain ⟨c',g1,G,k⟩:=klL M (place:=λi=>pl.toArray[i]?) (pl:=pl) (λi x h=>by simpa using h) b.toList z C.cells cs g R;refine OpR.value hr (u:=.agg c') ?_ ?_ U
  ·simp only [execOp,S];refine kaq ?_;have E:=krs (P:=P) J.toList pl hp w;have I:(J.mapM (λf=>do pure (f.offset,<-sizeOf f.type)):Sem (Array (Nat×Nat))).run P w = .ok pl.toArray w:=by
    rw [Array.mapM_eq_mapM_toList];simp only [Sem.run_map,E,Result.andThen_ok]
   simp only [Instr.build,Sem.run_bind,zeroValue,typeInfo,run_program,Result.andThen_ok,hi,Sem.run_pure,v,run_underlying hT,I];rw [s,g1];rfl
  ·exact .ag cs c' (λj=>c'.getD j undef) G (λj x c=>by obtain ⟨_,u,h2,_⟩:=k j x c; simp [h2]) (λj x c=>(k j x c).1) (λj x c=>by obtain ⟨_,u,h2,H⟩:=k j x c; simpa [h2] using H)
 ·rename_i m e hT;simp only [jad] at hp;obtain ⟨A,p,rfl⟩:=hp;have l:P.cellsOf e=A.size:=by simp [Program.cellsOf,p]
  obtain ⟨c',g1,G,k⟩:=klL M (place:=λi=>some (i*A.size,A.size)) (pl:=(List.range m).map λj=>(j*A.size,A.size)) (λi x h=>by
   simp only [jas,jad] at h;obtain ⟨q,B,rfl⟩:=h;obtain ⟨_,B⟩:=jaf.1 B;simp only [List.getElem_range] at B;subst B; rfl) b.toList z C.cells cs g R
  refine OpR.value hr (u:=.agg c') ?_ ?_ U
  ·simp only [execOp,S];refine kaq ?_;simp only [Instr.build,Sem.run_bind,zeroValue,typeInfo,run_program,Result.andThen_ok,hi,Sem.run_pure,v,run_underlying hT,kaS p,l];rw [s,g1];rfl
  ·exact .ag cs c' (λj=>c'.getD j undef) G (λj x c=>by obtain ⟨_,u,h2,_⟩:=k j x c; simp [h2]) (λj x c=>(k j x c).1) (λj x c=>by obtain ⟨_,u,h2,H⟩:=k j x c; simpa [h2] using H)
 ·cases hp
def fillE (k:Nat) (env:Env):Ya (Nat×Yf)->Ya (Ya AV)->Yb (Ya (Ya AV))
 | [],es=>some es
 | (i,x)::rest,es=>
  match kaI (ev env x) with
  | some xs=>if xs.length=k/\i<es.length then fillE k env rest (es.set i xs) else none
  | none=>none
def EsRel (w:World) (O:Nat->Prop) (μ:Mu) (n k:Nat) (c:Array Ye) (es:Ya (Ya AV)):Prop:=
 c.size=es.length*k/\∀ (i:Nat) (e:Ya AV),es[i]?=some e->e.length=k/\∀ (j:Nat) (x:AV),e[j]?=some x->x.one=true/\∃ u,c[i*k+j]?=some u/\VR w O μ n x u
theorem EsRel.set {k i:Nat} {c c':Array Ye} {es:Ya (Ya AV)} (m:EsRel w O μ n k c es) {xs:Ya AV} (z:xs.length=k) (hi:i<es.length) (A:c'.size=c.size) {us:Nat->Yb Ye}
  (l:∀ q,c'[q]?=if i*k<=q/\q<i*k+k then us (q-i*k) else c[q]?) (v:∀ (j:Nat) (x:AV),xs[j]?=some x->x.one=true/\∃ u,us j=some u/\VR w O μ n x u):EsRel w O μ n k c' (es.set i xs):=by
 refine ⟨by rw [A,m.1]; simp,λq e b=>?_⟩;rw [jcy] at b;by_cases f:i=q
 ·subst f;rw [if_pos rfl,if_pos hi] at b;cases b;refine ⟨z,λj x g=>?_⟩;obtain ⟨y,u,h2,p⟩:=v j x g;have r:j<k:=by rw [<-z]; exact (jaf.1 g).1
  exact ⟨y,u,by rw [l,if_pos (by omega),show i*k+j-i*k=j by omega]; exact h2,p⟩
 ·rw [if_neg f] at b;refine ⟨(m.2 q e b).1,λj x g=>?_⟩;obtain ⟨y,u,h2,p⟩:=(m.2 q e b).2 j x g;have r:j<k:=by rw [<-(m.2 q e b).1]; exact (jaf.1 g).1
  refine ⟨y,u,?_,p⟩;rw [l,if_neg ?_]
  ·exact h2
  ·rintro ⟨l1,l2⟩;rcases Nat.lt_or_gt_of_ne f with t | s
   ·have:(i+1)*k<=q*k:=jbn k t;rw [jcc] at this; omega
   ·have:(q+1)*k<=i*k:=jbn k s;rw [jcc] at this; omega
theorem kpz {k:Nat} {env:Env} (l:∀ x,VR w O μ n (ev env x) (a.eval x)) :
  ∀ (e:Ya (Nat×Yf)) (es:Ya (Ya AV)) (c:Array Ye) (r:Ya (Ya AV)),EsRel w O μ n k c es->fillE k env e es=some r->
   ∃ c',Instr.fill (λi=>some (i*k,k)) c (e.map λx=>(x.1,a.eval x.2))=some c'/\EsRel w O μ n k c' r/\r.length=es.length
 | [],es,c,r,hc,hf=>by simp [fillE] at hf; subst hf; exact ⟨c,rfl,hc,rfl⟩
 | (i,x)::rest,es,c,r,hc,hf=>by
  simp only [fillE] at hf;split at hf
  ·rename_i xs m;split at hf
   ·rename_i b;obtain ⟨t,y,u⟩:=kig (l x) m;have f:i*k+k<=c.size:=by
     rw [hc.1];have:(i+1)*k<=es.length*k:=jbn k b.2;rw [jcc] at this; omega
    obtain ⟨c',g1,p,s⟩:=kto (place:=λi=>some (i*k,k)) (cells:=c) (rest:=rest.map λx=>(x.1,a.eval x.2)) (i:=i) rfl (v:=a.eval x) (by rw [t]; exact b.1) f;have g:=hc.set b.1 b.2 p (us:=λq=>(a.eval x).cells[q]?) s u;obtain ⟨j,k1,k2,k3⟩:=kpz l rest _ c' r g hf;exact ⟨j,by rw [jap,g1]; exact k1,k2,by rw [k3]; simp⟩
   ·cases hf
  ·cases hf
theorem VR.ms_new (w:World) (O:Nat->Prop) (μ:Mu) (n:Nat) (c:Array Ye) (T:Yc) (k len:Nat) (f:c.size=len*k) (hl:len<=maxLen):VR (w.alloc (.cells c T)) O (updM μ n (w.heap.size,k)) (n+1) (.ms n 0 len) (.slice (some ⟨w.heap.size,0,none⟩) len len):=by
 refine .ms n 0 _ _ (by omega) rfl λb k2 e=>?_;simp [updM] at e;obtain ⟨rfl,rfl⟩:=e;exact ⟨0,len,c,T,rfl,jag _,hl,λ_=>by simp,kbO _ _,by simp [f]⟩
theorem kiV {T e:Yc} {len:Nat} {b:Array (Nat×Yf)} (C:o.op = .buildSlice T len b) (E:elemO P T=some e) {env:Env} (A:∀ x,VR w O μ n (ev env x) (a.eval x)) {z:Ya AV} (hz:zeroO P e=some z)
  (hl:len<=1000) (p:z.length<=1000) {es:Ya (Ya AV)} (B:fillE z.length env b.toList (List.replicate len z)=some es) :
  ∃ c',(execOp a.eval o).run P w = .ok (.value (.slice (some ⟨w.heap.size,0,none⟩) len len)) (w.alloc (.cells c' e))/\EsRel w O μ n z.length c' es/\es.length=len:=by
 obtain ⟨i,j,hi,t,m,r,F,v⟩:=kiq hz;have k:j.cells.size=z.length:=by rw [m]; simp
 have hT:=kcH E;have l:EsRel w O μ n z.length ((Array.range (len*z.length)).map (λq=>j.cells[q % j.cells.size]!)) (List.replicate len z):=by
  refine ⟨by simp,?_⟩;have:=ktb r len z.length k w O μ n;rw [m] at this ⊢;exact this
 obtain ⟨c',g1,y,u⟩:=kpz A b.toList _ _ es l B;simp only [jdb] at u;refine ⟨c',?_,y,u⟩;simp only [execOp,C];refine kaq ?_;have G:¬ len*z.length>2 ^ 24:=by
  have:len*z.length<=1000*1000:=Nat.mul_le_mul hl p;omega
 have s:(b.map λx=>(x.1,a.eval x.2)).toList=b.toList.map λx=>(x.1,a.eval x.2):=by simp
 simp only [Instr.buildSlice,Sem.run_bind,run_underlying hT,Result.andThen_ok,kaS hi,v];rw [if_neg G];simp only [s];by_cases c:len*z.length=0
 ·have g:∀ f:Nat->Ye,(Array.range (len*z.length)).map f=(Array.range (len*z.length)).map (λq=>j.cells[q % j.cells.size]!):=λf=>by
   rw [c];exact Array.ext (by simp) λi h _=>by simp at h
  rw [if_pos c];simp only [Sem.run_bind,Result.andThen_ok,Sem.run_pure,g,g1,newRow,run_newObj];rfl
 ·rw [if_neg c];simp only [Sem.run_bind,zeroValue,typeInfo,run_program,Result.andThen_ok,hi,Sem.run_pure,t,g1,newRow,run_newObj];rfl
theorem ksC {T e:Yc} {len:Nat} {b:Array (Nat×Yf)} (k:o.op = .buildSlice T len b) (hr:HR w O μ h n) (p:elemO P T=some e) {env:Env} (i:∀ x,VR w O μ n (ev env x) (a.eval x)) {z:Ya AV} (hz:zeroO P e=some z)
  (hl:len<=1000) (c:z.length<=1000) {es:Ya (Ya AV)} (j:fillE z.length env b.toList (List.replicate len z)=some es) (r:K (.ms n 0 len) (updH h n (.cells z.length e es)) (n+1)):OpR P o a w O μ n K:=by
 obtain ⟨c',g1,g,l⟩:=kiV k p i hz hl c j;obtain ⟨f,m⟩:=khM hr e c' z.length es g.2;exact ⟨.slice (some ⟨w.heap.size,0,none⟩) len len,_,_,_,_,_,.inl g1,r,m,VR.ms_new w O μ n c' e z.length len (by rw [g.1,l]) (by unfold maxLen; omega),f⟩
theorem koy (hr:HR w O μ h n) (o:Obj):Evo w μ n (w.alloc o) μ n/\HR (w.alloc o) O μ h n:=by
 have g:Evo w μ n (w.alloc o) μ n:=⟨rfl,rfl,rfl,by simp,jag _,λb j _=>kdW w o b j,λb c T f i=>⟨c,by rw [kdW w o b (jal.1 i).1]; exact i,rfl⟩,λ_ _=>.inl rfl,
  λid b k e hn=>absurd (hr.scope id b k e).1 (by omega)⟩
 refine ⟨g,λb h=>by have:=hr.olt b h; simp; omega,λid b k e=>by have:=hr.scope id b k e; simp; omega,hr.inj,hr.notO,λid B hB=>?_⟩;exact (hr.blk id B hB).evo rfl (λb k e=>kdW w o b (hr.scope id b k e).2) g
theorem krg {T e:Yc} {len:Nat} {b:Array (Nat×Yf)} (s:o.op = .buildSlice T len b) (hr:HR w O μ h n) (A:elemO P T=some e) {env:Env} (m:∀ x,VR w O μ n (ev env x) (a.eval x)) {z:Ya AV} (hz:zeroO P e=some z)
  (hl:len<=1000) (l:z.length<=1000) {es:Ya (Ya AV)} (p:fillE z.length env b.toList (List.replicate len z)=some es) (B:K (.sl es) h n):OpR P o a w O μ n K:=by
 obtain ⟨c',g1,g,y⟩:=kiV s A m hz hl l p;obtain ⟨f,v⟩:=koy hr (.cells c' e);refine ⟨.slice (some ⟨w.heap.size,0,none⟩) len len,_,_,_,_,_,.inl g1,B,v,?_,f⟩;rw [<-y];refine .sl es w.heap.size 0 es.length z.length (λi j=>(c'[i*z.length+j]?).getD undef) (jag _) (by unfold maxLen; omega) (λi e hi t hA=>?_) (λi e hi=>(g.2 i e hi).1) (λi e hi j x c=>?_) (λi e hi j x c=>((g.2 i e hi).2 j x c).1) (λi e hi j x c=>?_)
 ·rcases hA with hA | ⟨id,k,hA⟩
  ·exact absurd (hr.olt _ hA) (by omega)
  ·exact absurd (hr.scope id _ k hA).2 (by omega)
 ·obtain ⟨_,u,h2,_⟩:=(g.2 i e hi).2 j x c;exact cell_heap.2 ⟨c',_,_,kbO w _,by rw [jcf,h2]; rfl⟩
 ·obtain ⟨_,u,h2,r⟩:=(g.2 i e hi).2 j x c;rw [h2]; exact r.evo f
theorem krj {T e:Yc} {b:Array (Nat×Yf)} (j:o.op = .buildSlice T 0 b) (hr:HR w O μ h n) (l:elemO P T=some e) {env:Env} (g:∀ x,VR w O μ n (ev env x) (a.eval x)) {z:Ya AV} (hz:zeroO P e=some z)
  (c:z.length<=1000) {es:Ya (Ya AV)} (i:fillE z.length env b.toList (List.replicate 0 z)=some es) (m:K .e0 h n):OpR P o a w O μ n K:=by
 obtain ⟨c',g1,p,r⟩:=kiV j l g hz (by omega) c i;obtain ⟨f,k⟩:=koy hr (.cells c' e);exact ⟨_,_,_,_,_,_,.inl g1,m,k,.e0 _,f⟩
end
def ktW (b:UInt8):Ya AV:=[.sc (.int .u8 b.toNat)]
def srcA (h:AH) (k:Nat):AV->Yb (Ya (Ya AV))
 | .sl es=>if es.all (λe=>e.length==k) then some es else none
 | .ms id off len=>match h id with
  | some (.cells k' _ es)=>if k'=k/\off+len<=es.length then some ((es.drop off).take len) else none
  | _=>none
 | .e0=>some []
 | .sc (.slice none 0 0)=>some []
 | .sc (.string s)=>if k=1 then some (s.data.toList.map ktW) else none
 | _=>none
section
variable {P:Yd} {o:Oper} {a:Act} {w:World} {O:Nat->Prop} {μ:Mu} {h:AH} {n:Nat} {K:K3}
structure Src (P:Program) (w:World) (O:Nat->Prop) (μ:Mu) (n k:Nat) (u:Value) (xs:List (List AV)) (vals:List Value):Prop where
 len:∀ w',(Builtin.lenOf u).run P w' = .ok xs.length w'
 cells:∀ w',w'.heap=w.heap->∀ q,q<=xs.length->(Builtin.firstCells k q u).run P w' = .ok (vals.take (q*k)).toArray w'
 size:vals.length=xs.length*k
 one:∀ v∈vals,v.oneCell'=true
 rel:∀ (i:Nat) (e:List AV),xs[i]?=some e->e.length=k/\∀ (j:Nat) (c:AV),e[j]?=some c->c.one=true/\∃ u,vals[i*k+j]?=some u/\VR w O μ n c u
theorem Src.nil (u:Ye) (g:∃ p c,u = .slice p 0 c) (k:Nat):Src P w O μ n k u [] []:=by
 obtain ⟨p,c,rfl⟩:=g;refine ⟨λw'=>rfl,λw' _ q b=>?_,by simp,λv f=>by simp at f,λi e hi=>by simp at hi⟩;simp at b; subst b;cases p with
 | none=>simp [Builtin.firstCells]
 | some p=>simp [Builtin.firstCells,loadCells,loadCellsFrom]
theorem Src.of_reads {b off k cap:Nat} {xs:Ya (Ya AV)} (hr:xs≠[]->ReadsEs w O μ n b off k xs):∃ vals,Src P w O μ n k (.slice (some ⟨b,off,none⟩) xs.length cap) xs vals:=by
 by_cases c:xs=[]
 ·subst c; exact ⟨[],Src.nil _ ⟨_,_,rfl⟩ k⟩
 ·obtain ⟨vals,f,h2,l,i⟩:=(hr c).vals;refine ⟨vals,λw'=>rfl,λw' g q m=>?_,f,l,i⟩;simp only [Builtin.firstCells];refine kfv (λj v e=>?_) (by
   rw [jbi,f];have:q*k<=xs.length*k:=jbn k m;omega)
  rw [jbr] at e;split at e
  ·rw [kkU (w:=w) (by rw [g])]; exact h2 j v e
  ·cases e
theorem krk (hr:HR w O μ h n) {x:AV} {u:Ye} (l:VR w O μ n x u) {k:Nat} {xs:Ya (Ya AV)} (f:srcA h k x=some xs):∃ vals,Src P w O μ n k u xs vals:=by
 unfold srcA at f;split at f
 ·rename_i es;split at f
  ·rename_i g;cases f;cases l with
   | slnil=>exact ⟨[],Src.nil _ ⟨_,_,rfl⟩ k⟩
   | sl _ b off cap C us F H hA t I Y E=>
    refine Src.of_reads λy=>?_;have B:C=k:=by
     cases xs with
     | nil=>exact absurd rfl y
     | cons e xs=>
      have e1:=t 0 e rfl;simp only [jed,jac,beq_iff_eq] at g;rw [<-e1,g.1]
    subst B;exact λi e hi=>⟨t i e hi,λj c r=>⟨Y i e hi j c r,us i j,I i e hi j c r,E i e hi j c r⟩⟩
  ·cases f
 ·rename_i id off len;split at f
  ·rename_i C T es hB;split at f
   ·rename_i m;cases f;obtain ⟨rfl,L⟩:=m;obtain ⟨b,c,J,cap,g1,g2,rfl,g3,g4,g5,U,g7⟩:=kjb hr hB l;have z:((es.drop off).take len).length=len:=by simp; omega
    obtain ⟨b',c',G,f2,X⟩:=hr.own_cells hB;rw [g1] at G; cases G;have:=Src.of_reads (P:=P) (w:=w) (O:=O) (μ:=μ) (n:=n) (b:=b) (off:=J) (k:=C) (cap:=cap) (xs:=(es.drop off).take len) (λy i e hi=>by
     rw [jbr] at hi;split at hi
     ·rename_i W;rw [jar] at hi;obtain ⟨M,S⟩:=X _ e hi;refine ⟨M,?_⟩;rw [U (by omega),<-jcc];exact S
     ·cases hi)
    rw [z] at this;exact this
   ·cases f
  ·cases f
 ·cases f;cases l with
  | e0 p=>exact ⟨[],Src.nil _ ⟨p,_,rfl⟩ k⟩
 ·cases f;rw [l.sc_inv];exact ⟨[],Src.nil _ ⟨none,_,rfl⟩ k⟩
 ·rename_i s;split at f
  ·rename_i A;cases f;subst A;rw [l.sc_inv];refine ⟨s.data.toList.map λb=>.int .u8 b.toNat,λw'=>by simp [Builtin.lenOf],λw' _ q R=>?_,by simp,λv l=>?_,λi e hi=>?_⟩
   ·simp only [Builtin.firstCells,Nat.mul_one];simp only [Sem.run_pure];congr 1;apply Array.ext';simp only [Array.toList_map];simp only [jaq,jco] at R;simp
   ·simp only [jbb] at l; obtain ⟨b,_,rfl⟩:=l; rfl
   ·simp only [jas,jad] at hi;obtain ⟨b,Z,rfl⟩:=hi;refine ⟨rfl,λj c r=>?_⟩;cases j with
    | zero=>
     simp [ktW] at r; subst r;exact ⟨rfl,.int .u8 b.toNat,by simpa using ⟨b,by simpa using Z,rfl⟩,.sc _ rfl⟩
    | succ j=>simp [ktW] at r
  ·cases f
 ·cases f
end
section
variable {P:Yd} {o:Oper} {a:Act} {w:World} {O:Nat->Prop} {μ:Mu} {h:AH} {n:Nat} {K:K3}
theorem ktF (P:Yd) {e:Yc} {i:TypeInfo} {b:Ye} (hi:P.info? e=some i) (hz:i.zero=some b) (w:World):(zeroValue e).run P w = .ok b w:=by
 simp [zeroValue,typeInfo,hi,hz]
theorem kpH {T G e:Yc} {i:TypeInfo} {B:Ye} (hT:P.underlying T=some (.slice e)) {C:TypeDesc} (hT2:P.underlying G=some C) (E:(∃ H,C = .slice H)\/C = .string) (hi:P.info? e=some i) (hz:i.zero=some B)
  {k:Nat} (L:P.cellsOf e=k) {base:Yb Addr} {len cap m:Nat} {vold f:Ya Ye} {x:Ye} (y:∀ w',(Builtin.lenOf x).run P w' = .ok m w') (u:∀ w',w'.heap=w.heap->(Builtin.firstCells k m x).run P w' = .ok f.toArray w')
  (v:∀ w',w'.heap=w.heap->(Builtin.firstCells k len (.slice base len cap)).run P w' = .ok vold.toArray w') (l:cap<len+m) (A:len+m<=1048576) (R:i.bytes<=1024) (ty:Yc) :
  ∃ newCap rest,len+m<=newCap/\newCap<=maxLen/\rest.length=(newCap-(len+m))*B.cells.size/\
   (Builtin.append_ #[T,G] ty #[.slice base len cap,x]).run P w = .ok (.slice (some ⟨w.heap.size,0,none⟩) (len+m) newCap) (w.drew.alloc (.cells (vold++f++rest).toArray e)):=by
 have t:=grownCap_ge w (len+m) cap e;have p:=grownCap_le_maxLen w (len+m) cap e (by unfold maxLen; omega);refine ⟨grownCap w (len+m) cap e,(Builtin.zeroCells B.cells (grownCap w (len+m) cap e-(len+m))).toList,t,p,by simp [Builtin.zeroCells],?_⟩;have s:¬ Builtin.nextslicecap (len+m) cap*i.bytes>2 ^ 48:=by
  have M:Builtin.nextslicecap (len+m) cap<=4*(len+m)+1024:=by
   unfold Builtin.nextslicecap;split
   ·omega
   ·split
    ·omega
    ·rename_i M h2;have:∀ r c,c<len+m->Builtin.growBy (len+m) r c<=2*(len+m)+768:=by
      intro r;induction r with
      | zero=>intro c I; simp only [Builtin.growBy]; omega
      | succ r J=>
       intro c I;simp only [Builtin.growBy];rw [if_neg (by omega)];rcases jdg (c+(c+768) / 4) (len+m) with h | h
       ·exact J _ h
       ·cases r with
        | zero=>simp only [Builtin.growBy]; omega
        | succ r=>simp only [Builtin.growBy]; rw [if_pos (by omega)]; omega
     have:=this 4 cap l;omega
  have:Builtin.nextslicecap (len+m) cap*i.bytes<=(4*1048576+1024)*1024:=Nat.mul_le_mul (by omega) R;omega
 have z:¬ (((len+m:Nat):Int)>IntKind.i64.max/\((false:Bool)=true\/i.bytes=0)):=by
  simp [IntKind.max,IntKind.signed,IntKind.bits]; omega
 have b:(Question.appendCap (len+m) cap e).forced=false:=rfl;have g:=u w.drew rfl;have j:=v w.drew rfl;have F:=ktF P hi hz w.drew;rcases E with ⟨H,rfl⟩ | rfl
 all_goals
  simp only [Builtin.append_,jbz,jdd,jby,pure_bind,Sem.run_bind,run_underlying hT,run_underlying hT2,Result.andThen_ok,kaS hi,L,jai,if_false,y];rw [if_neg (by omega)];simp only [Sem.run_bind,typeInfo,run_program,Result.andThen_ok,hi,Sem.run_pure];rw [if_neg (by simpa using z)];simp only [Sem.run_bind,run_program,Result.andThen_ok,hi,Sem.run_pure];rw [if_neg s];simp only [Sem.run_bind,run_choose,b,jai,if_false,Result.andThen_ok,run_program,hi,Sem.run_pure,run_askRoom,World.drew_eq,j,g,F,jcz,if_true,newRow,run_newObj];simp only [grownCap];congr 2;show w.drew.heap.push _=w.drew.heap.push _;congr 2;apply Array.ext';simp
theorem kpQ {T t e:Yc} {i:TypeInfo} (hT:P.underlying T=some (.slice e)) {l:TypeDesc} (hT2:P.underlying t=some l) (p:(∃ u,l = .slice u)\/l = .string) (hi:P.info? e=some i)
  {k:Nat} (v:P.cellsOf e=k) {base:Yb Addr} {len cap m:Nat} {b:Ya Ye} {x:Ye} (g:∀ w',(Builtin.lenOf x).run P w' = .ok m w') (f:(Builtin.firstCells k m x).run P w = .ok b.toArray w)
  {w':World} (s:∀ j,base=some j->(storeCells (j.add (len*k)) b 0).run P w = .ok () w') (r:base=none->w'=w) (c:len+m<=cap) (ty:Yc) :
  (Builtin.append_ #[T,t] ty #[.slice base len cap,x]).run P w = .ok (.slice base (len+m) cap) w':=by
 rcases p with ⟨u,rfl⟩ | rfl
 all_goals
  simp only [Builtin.append_,jbz,jdd,jby,pure_bind,Sem.run_bind,run_underlying hT,run_underlying hT2,Result.andThen_ok,kaS hi,v,jai,if_false,g];rw [if_pos c];simp only [Sem.run_bind,jcz,if_true,f,Result.andThen_ok];cases base with
  | none=>rw [r rfl]; rfl
  | some j=>simp only [Sem.run_bind,s j rfl,Result.andThen_ok,Sem.run_pure]
theorem HR.adopt {w w':World} (hr:HR w O μ h n) {id b k:Nat} (m:μ id=some (b,k)) (B:ABlk) (z:w'.os=w.os) (r:w'.tape=w.tape) (t:w'.output=w.output) (E:w'.heap.size=w.heap.size)
  (g:∀ i,i≠b->w'.heap[i]?=w.heap[i]?) (u:∀ c T f,w.heap[b]?=some (.cells c T f)->∃ c',w'.heap[b]?=some (.cells c' T f)/\c'.size=c.size)
  (hB:Evo w μ n w' (updM (delM μ id) n (b,k)) (n+1)->BlkAt w' O (updM (delM μ id) n (b,k)) (n+1) n B) :
  Evo w μ n w' (updM (delM μ id) n (b,k)) (n+1)/\HR w' O (updM (delM μ id) n (b,k)) (updH (delH h id) n B) (n+1):=by
 have I:=(hr.scope id b k m).1;have l:∀ i b' j,updM (delM μ id) n (b,k) i=some (b',j)->(i=n/\b'=b/\j=k)\/(i≠n/\i≠id/\μ i=some (b',j)):=by
  intro i b' j e;unfold updM delM at e;split at e
  ·cases e; exact .inl ⟨by assumption,rfl,rfl⟩
  ·split at e
   ·cases e
   ·exact .inr ⟨by assumption,by assumption,e⟩
 have C:Evo w μ n w' (updM (delM μ id) n (b,k)) (n+1):=by
  refine ⟨z,r,t,by omega,by omega,λi hi hn=>g i (by rintro rfl; exact hn id k m),λi c T f y=>?_,λi hi=>?_,λi b' j e hi=>?_⟩
  ·by_cases v:i=b
   ·subst v; exact u c T f y
   ·exact ⟨c,by rw [g i v]; exact y,rfl⟩
  ·unfold updM delM;rw [if_neg (by omega)];split
   ·exact .inr rfl
   ·exact .inl rfl
  ·rcases l i b' j e with ⟨_,rfl,_⟩ | ⟨_,_,e'⟩
   ·exact .inr ⟨id,k,m⟩
   ·exact .inr ⟨i,j,e'⟩
 refine ⟨C,λb y=>by rw [E]; exact hr.olt b y,λi b' j e=>?_,λi H b' k1 k2 R F=>?_,λi b' j e=>?_,λi L hB'=>?_⟩
 ·rcases l i b' j e with ⟨rfl,rfl,_⟩ | ⟨_,_,e'⟩
  ·have:=hr.scope id _ k m; omega
  ·have:=hr.scope i b' j e'; omega
 ·rcases l i b' k1 R with ⟨rfl,rfl,_⟩ | ⟨S,M,x⟩
  ·rcases l H _ k2 F with ⟨rfl,_,_⟩ | ⟨J,G,s⟩
   ·rfl
   ·exact absurd (hr.inj _ _ _ _ _ s m) G
  ·rcases l H _ k2 F with ⟨rfl,rfl,_⟩ | ⟨J,G,s⟩
   ·exact absurd (hr.inj _ _ _ _ _ x m) M
   ·exact hr.inj _ _ _ _ _ x s
 ·rcases l i b' j e with ⟨rfl,rfl,_⟩ | ⟨_,_,e'⟩
  ·exact hr.notO id _ k m
  ·exact hr.notO i b' j e'
 ·unfold updH delH at hB';split at hB'
  ·cases hB'; subst_vars; exact hB C
  ·rename_i A;split at hB'
   ·cases hB'
   ·rename_i p;refine (hr.blk i L hB').evo ?_ ?_ C
    ·unfold updM delM; rw [if_neg A,if_neg p]
    ·intro b' j e;refine g b' ?_;rintro rfl;exact p (hr.inj _ _ _ _ _ e m)
end
def klP (P:Yd) (T:Yc):Bool:=
 match P.underlying T with
 | some (.slice _) | some .string=>true
 | _=>false
def kBk:AV->Bool
 | .e0=>true
 | .sc (.slice none 0 0)=>true
 | _=>false
def kcf (P:Yd) (h:AH) (n:Nat) (T b:Yc) (s x:AV) (K:K3):Prop:=
 klP P b=true/\
 match elemO P T with
 | none=>False
 | some e=>match zeroO P e with
  | none=>False
  | some z=>z≠[]/\P.bytesOf e<=1024/\match srcA h z.length x with
   | none=>False
   | some xs=>match s with
    | .e0=>xs.length<=1048576/\(xs=[]->K .e0 h n)/\(xs≠[]->K (.ms n 0 xs.length) (updH h n (.cells z.length e xs)) (n+1))
    | .sc (.slice none 0 0)=>xs.length<=1048576/\(xs=[]->K (.sc (.slice none 0 0)) h n)/\(xs≠[]->K (.ms n 0 xs.length) (updH h n (.cells z.length e xs)) (n+1))
    | .ms id 0 len=>match h id with
     | some (.cells k e' es)=>k=z.length/\e'=e/\es.length=len/\len+xs.length<=1048576/\K (.ms n 0 (len+xs.length)) (updH (delH h id) n (.cells k e (es++xs))) (n+1)
     | _=>False
    | _=>False
def copyK (P:Yd) (h:AH) (n:Nat) (T:Yc) (d x:AV) (K:K3):Prop:=
 match elemO P T with
 | none=>False
 | some e=>match zeroO P e with
  | none=>False
  | some z=>z≠[]/\match srcA h z.length x with
   | none=>False
   | some xs=>match d with
    | .sc (.slice none 0 0)=>K (.sc (.int .i64 0)) h n
    | .ms id off len=>match h id with
     | some (.cells k e' es)=>k=z.length/\off+len<=es.length/\K (.sc (.int .i64 (min xs.length len:Nat))) (updH h id (.cells k e' (es.take off++xs.take (min xs.length len)++es.drop (off+min xs.length len)))) n
     | _=>False
    | _=>False
section
variable {P:Yd} {o:Oper} {a:Act} {w:World} {O:Nat->Prop} {μ:Mu} {h:AH} {n:Nat} {K:K3}
theorem kwx {T:Yc} (hp:klP P T=true):∃ d,P.underlying T=some d/\((∃ e,d = .slice e)\/d = .string):=by
 unfold klP at hp;split at hp
 ·rename_i e b; exact ⟨_,b,.inl ⟨e,rfl⟩⟩
 ·rename_i b; exact ⟨_,b,.inr rfl⟩
 ·cases hp
theorem EsRel.app {k:Nat} {c:Array Ye} {es xs:Ya (Ya AV)} {vo vn rest:Ya Ye} (hl:vo.length=es.length*k) (m:∀ (i:Nat) (e:Ya AV),es[i]?=some e->e.length=k/\∀ (j:Nat) (x:AV),e[j]?=some x->x.one=true/\∃ u,vo[i*k+j]?=some u/\VR w O μ n x u)
  (r:vn.length=xs.length*k) (hn:∀ (i:Nat) (e:Ya AV),xs[i]?=some e->e.length=k/\∀ (j:Nat) (x:AV),e[j]?=some x->x.one=true/\∃ u,vn[i*k+j]?=some u/\VR w O μ n x u) :
  ∀ (i:Nat) (e:Ya AV),(es++xs)[i]?=some e->e.length=k/\∀ (j:Nat) (x:AV),e[j]?=some x->x.one=true/\∃ u,((vo++vn++rest).toArray)[i*k+j]?=some u/\VR w O μ n x u:=by
 intro i e hi;rw [jbm] at hi;split at hi
 ·rename_i g;refine ⟨(m i e hi).1,λj x b=>?_⟩;obtain ⟨l,u,h2,f⟩:=(m i e hi).2 j x b;refine ⟨l,u,?_,f⟩;have:=(jaf.1 h2).1;simp only [jbz];rw [jau,jbo this];exact h2
 ·rename_i s;refine ⟨(hn _ e hi).1,λj x b=>?_⟩;obtain ⟨l,u,h2,f⟩:=(hn _ e hi).2 j x b;refine ⟨l,u,?_,f⟩;have g:=(jaf.1 h2).1;have p:(i-es.length)*k+es.length*k=i*k:=by rw [<-jcc]; congr 1; omega
  simp only [jbz];rw [jau,jcj (by omega),jbo (by omega),hl,show i*k+j-es.length*k=(i-es.length)*k+j by omega];exact h2
theorem kxH {T T2:Yc} {s x:Yf} (ho:o.op = .call { callee:=.builtin .append,args:=#[s,x],argTypes:=#[T,T2] }) (hr:HR w O μ h n) {vs vx:AV} (hs:VR w O μ n vs (a.eval s)) (hx:VR w O μ n vx (a.eval x))
  (g:kcf P h n T T2 vs vx K):OpR P o a w O μ n K:=by
 obtain ⟨hp,g⟩:=g;obtain ⟨d2,hT2,M⟩:=kwx hp;split at g
 ·exact g.elim
 rename_i e he;split at g
 ·exact g.elim
 rename_i z hz;obtain ⟨aG,ap,g⟩:=g;split at g
 ·exact g.elim
 rename_i xs aA;have hT:=kcH he;obtain ⟨i,zv,hi,ak,aB,aJ,aK,hc⟩:=kiq hz;have ae:zv.cells.size=z.length:=by rw [aB]; simp
 have aH:0<z.length:=by cases z with | nil=>exact absurd rfl aG | cons _ _=>simp
 have ao:i.bytes<=1024:=(by have:P.bytesOf e=i.bytes:=(by simp [Program.bytesOf,hi]); omega);obtain ⟨vals,f⟩:=krk (P:=P) hr hx aA;have B:∀ w',w'.heap=w.heap->(Builtin.firstCells z.length xs.length (a.eval x)).run P w' = .ok vals.toArray w':=λw' hw=>by
  have:=f.cells w' hw xs.length (jag _)
  rwa [<-f.size,List.take_length] at this
 have fin:∀ {u:Ye} {w':World} {μ':Mu} {v:AV} {h':AH} {n':Nat},(Builtin.append_ #[T,T2] o.type #[a.eval s,a.eval x]).run P w = .ok u w'->K v h' n'->HR w' O μ' h' n'->VR w' O μ' n' v u->Evo w μ n w' μ' n'->OpR P o a w O μ n K:=by
  intro u w' μ' v h' n' f1 f2 U f4 f5;refine ⟨u,w',μ',v,h',n',.inl ?_,f2,U,f4,f5⟩;rw [kdB ho];simp only [List.map_toArray,jap,jeh];exact kaq f1
 have al:∀ {p:Yb Addr},a.eval s = .slice p 0 0->xs.length<=1048576->(xs=[]->K vs h n)->(xs≠[]->K (.ms n 0 xs.length) (updH h n (.cells z.length e xs)) (n+1))->OpR P o a w O μ n K:=by
  intro p hu aj k1 k2;by_cases aa:xs=[]
  ·have ab:=B w rfl;subst aa;have aE:vals=[]:=jbv (by rw [f.size]; simp);subst aE;refine fin (u:=.slice p 0 0) (w':=w) ?_ (k1 rfl) hr (hu ▸ hs) hr.refl;rw [hu];exact kpQ (P:=P) (w':=w) hT hT2 M hi hc (base:=p) (len:=0) (cap:=0) (m:=0) f.len ab (λad _=>by simp [storeCells]) (λ_=>rfl) (by omega) o.type
  ·have aI:0<xs.length:=by cases xs with | nil=>exact absurd rfl aa | cons _ _=>simp
   obtain ⟨newCap,rest,g1,I,g3,g4⟩:=kpH (P:=P) (w:=w) hT hT2 M hi ak hc (base:=p) (len:=0) (cap:=0) (vold:=[]) f.len B (λw' hw=>by
    cases p with
    | none=>simp [Builtin.firstCells]
    | some p=>simp [Builtin.firstCells,loadCells,loadCellsFrom]) (by omega) (by omega) ao o.type
   obtain ⟨e1,G⟩:=hr.drew;have ar:∀ (i:Nat) (e:Ya AV),xs[i]?=some e->e.length=z.length/\∀ (j:Nat) (x:AV),e[j]?=some x->x.one=true/\∃ u,(([]++vals++rest:Ya Ye).toArray)[i*z.length+j]?=some u/\VR w.drew O μ n x u:=by
    intro i e' aC;obtain ⟨J,S⟩:=f.rel i e' aC;refine ⟨J,λj y r=>?_⟩;obtain ⟨R,u,W,q5⟩:=S j y r;refine ⟨R,u,?_,q5.evo e1⟩;have:=(jaf.1 W).1;simp only [jbc,jbz];rw [jbo this]; exact W
   obtain ⟨L,Z⟩:=khM G e ([]++vals++rest).toArray z.length xs ar;refine fin (u:=.slice (some ⟨w.heap.size,0,none⟩) (0+xs.length) newCap) (by rw [hu]; exact g4) (k2 aa) Z ?_ (e1.trans L);refine .ms n 0 _ _ (by omega) rfl λb k3 e3=>?_;simp [updM] at e3;obtain ⟨rfl,rfl⟩:=e3;refine ⟨0,newCap,_,e,by simp,by omega,I,λ_=>by simp,kbO w.drew _,?_⟩;simp only [jbc,List.size_toArray,jbh,f.size,g3,ae];rw [<-jcc]; congr 1; omega
 split at g
 ·have:∃ p,a.eval s = .slice p 0 0:=by
   generalize a.eval s=u at hs;cases hs with
   | e0 p=>exact ⟨p,rfl⟩
  obtain ⟨p,hp⟩:=this;exact al hp g.1 g.2.1 g.2.2
 ·exact al (p:=none) hs.sc_inv g.1 g.2.1 g.2.2
 ·rename_i id len;split at g
  ·rename_i k e' es hB0;obtain ⟨am,aq,A,aj,g⟩:=g;have hB:h id=some (.cells z.length e es):=by rw [hB0,am,aq]
   rw [am] at g;obtain ⟨b,c,oo,cap,g1,I,g3,g4,g5,g6,g7,g8⟩:=kjb hr hB hs;simp only [Nat.zero_mul,jcf] at g7 g8;obtain ⟨b',c',f1,f2,U⟩:=hr.blk id _ hB;rw [g1] at f1; cases f1;rw [I] at f2; cases f2;by_cases H:len+xs.length<=cap
   ·
    have X:(len+xs.length)*z.length<=c.size:=by rw [<-g8]; exact jbn _ H
    have ac:∃ w',(∀ ad,(some ⟨b,oo,none⟩:Yb Addr)=some ad->(storeCells (ad.add (len*z.length)) vals 0).run P w = .ok () w')/\
      w'=w.setRow b (c.toList.take (len*z.length)++vals++c.toList.drop (len*z.length+vals.length)).toArray:=by
     refine ⟨_,λad aw=>?_,rfl⟩;cases aw;rw [kiD];by_cases F:cap=0
     ·have h1:len=0:=by omega
      have h2:xs.length=0:=by omega
      have h3:vals=[]:=jbv (by rw [f.size,h2]; simp);subst h3;simp [storeCells,h1,setRow_self w b c e (0,0) I]
     ·rw [g7 F];have:=run_storeCells_at P b (0+len*z.length) e vals 0 c w I (by rw [f.size]; rw [jcc] at X; omega) f.one;simpa using this
    obtain ⟨w',ac,l⟩:=ac;have ah:=kpQ (P:=P) (w':=w') hT hT2 M hi hc (base:=some ⟨b,oo,none⟩) (len:=len) (cap:=cap) f.len (B w rfl) ac (λh=>by cases h) H o.type;generalize an:(c.toList.take (len*z.length)++vals++c.toList.drop (len*z.length+vals.length)).toArray=cn at l;have E:cn.size=c.size:=by
     rw [<-an]; simp [f.size]; rw [jcc] at X; omega
    obtain ⟨ax,G⟩:=hr.adopt (w':=w') g1 (.cells z.length e (es++xs)) (by rw [l]; rfl) (by rw [l]; rfl) (by rw [l]; rfl) (by rw [l]; simp) (λi hi=>by rw [l]; exact setRow_other w b i cn hi)
     (λc0 T0 f0 h0=>by rw [I] at h0; cases h0; exact ⟨cn,by rw [l]; exact setRow_heap w b c cn e (0,0) I,E⟩) (λaz=>by
      refine ⟨b,cn,by simp [updM],by rw [l]; exact setRow_heap w b c cn e (0,0) I,?_⟩;have C:=EsRel.app (w:=w) (O:=O) (μ:=μ) (n:=n) (k:=z.length) (c:=cn) (es:=es) (xs:=xs) (vo:=c.toList.take (len*z.length)) (vn:=vals) (rest:=c.toList.drop (len*z.length+vals.length))
       (by rw [jbi,A]; simp; rw [jcc] at X; omega) (λq e' t=>⟨(U q e' t).1,λj y r=>by
        obtain ⟨J,u,S,R⟩:=(U q e' t).2 j y r;refine ⟨J,u,?_,R⟩;have Y:=(jaf.1 t).1;have au:j<z.length:=by rw [<-(U q e' t).1]; exact (jaf.1 r).1
        have:(q+1)*z.length<=es.length*z.length:=jbn _ Y;rw [jcc] at this;rw [jbr,if_pos (by rw [<-A]; omega)];simpa using S⟩) f.size f.rel
      intro q e' t;obtain ⟨J,S⟩:=C q e' t;refine ⟨J,λj y r=>?_⟩;obtain ⟨R,u,W,q5⟩:=S j y r;rw [an] at W;exact ⟨R,u,W,q5.evo az⟩)
    refine fin (u:=.slice (some ⟨b,oo,none⟩) (len+xs.length) cap) (by rw [g3]; exact ah) g G ?_ ax;refine .ms n 0 _ _ (by omega) rfl λb2 k2 L=>?_;simp [updM] at L;obtain ⟨rfl,rfl⟩:=L;exact ⟨oo,cap,cn,e,rfl,H,g6,λaF=>by rw [g7 aF]; simp,by rw [l]; exact setRow_heap w b c cn e (0,0) I,by simp [E,g8]⟩
   ·
    have ai:∀ w',w'.heap=w.heap->(Builtin.firstCells z.length len (.slice (some ⟨b,oo,none⟩) len cap)).run P w' = .ok (c.toList.take (len*z.length)).toArray w':=by
     intro w' hw;simp only [Builtin.firstCells];have af:len*z.length<=c.size:=by rw [<-g8]; exact jbn _ g5
     refine kfv (λj v r=>?_) (by rw [jbi]; simp; omega);rw [jbr] at r;split at r
     ·rename_i aD;have F:cap≠0:=by
       intro h0;have:len=0:=by omega
       subst this; simp at aD
      rw [g7 F,jcf];exact cell_heap.2 ⟨c,e,(0,0),by rw [hw]; exact I,by simpa using r⟩
     ·cases r
    obtain ⟨newCap,rest,J,S,R,W⟩:=kpH (P:=P) (w:=w) hT hT2 M hi ak hc (base:=some ⟨b,oo,none⟩) (len:=len) (cap:=cap) f.len B ai (by omega) aj ao o.type;obtain ⟨e0,ay⟩:=hr.del id;obtain ⟨e1,G⟩:=ay.drew;have af:len*z.length<=c.size:=by rw [<-g8]; exact jbn _ g5
    have C:=EsRel.app (w:=w) (O:=O) (μ:=μ) (n:=n) (k:=z.length) (c:=#[]) (es:=es) (xs:=xs) (vo:=c.toList.take (len*z.length)) (vn:=vals) (rest:=rest)
       (by rw [jbi,A]; simp; omega) (λq e' t=>⟨(U q e' t).1,λj y r=>by
        obtain ⟨J,u,S,R⟩:=(U q e' t).2 j y r;refine ⟨J,u,?_,R⟩;have Y:=(jaf.1 t).1;have au:j<z.length:=by rw [<-(U q e' t).1]; exact (jaf.1 r).1
        have:(q+1)*z.length<=es.length*z.length:=jbn _ Y;rw [jcc] at this;rw [jbr,if_pos (by rw [<-A]; omega)];simpa using S⟩) f.size f.rel
    obtain ⟨L,Z⟩:=khM G e (c.toList.take (len*z.length)++vals++rest).toArray z.length (es++xs) (λq e' t=>⟨(C q e' t).1,λj y r=>by
     obtain ⟨p1,u,p2,p3⟩:=(C q e' t).2 j y r;exact ⟨p1,u,p2,p3.evo (e0.trans e1)⟩⟩)
    refine fin (u:=.slice (some ⟨w.heap.size,0,none⟩) (len+xs.length) newCap) (by rw [g3]; exact W) g Z ?_ ((e0.trans e1).trans L);refine .ms n 0 _ _ (by omega) rfl λb2 k2 L=>?_;simp [updM] at L;obtain ⟨rfl,rfl⟩:=L;refine ⟨0,newCap,_,e,rfl,J,S,λ_=>by simp,kbO w.drew _,?_⟩;simp only [List.size_toArray,jbh,jbi,jco,f.size,R,ae,Nat.min_eq_left af];rw [<-jcc,<-jcc,jcf]; congr 1; omega
  ·exact g.elim
 ·exact g.elim
theorem kAb {T T2:Yc} {d x:Yf} (ho:o.op = .call { callee:=.builtin .copy,args:=#[d,x],argTypes:=#[T,T2] }) (hr:HR w O μ h n) {vd vx:AV} (hd:VR w O μ n vd (a.eval d)) (hx:VR w O μ n vx (a.eval x))
  (f:copyK P h n T vd vx K):OpR P o a w O μ n K:=by
 unfold copyK at f;split at f
 ·exact f.elim
 rename_i e he;split at f
 ·exact f.elim
 rename_i z hz;obtain ⟨ak,f⟩:=f;split at f
 ·exact f.elim
 rename_i xs af;have hT:=kcH he;obtain ⟨i,zv,hi,an,aq,au,aw,hc⟩:=kiq hz;have am:0<z.length:=by cases z with | nil=>exact absurd rfl ak | cons _ _=>simp
 obtain ⟨vals,s⟩:=krk (P:=P) hr hx af;have fin:∀ {u:Ye} {w':World} {R:Mu} {v:AV} {h':AH} {n':Nat},(Builtin.copy_ #[T,T2] o.type #[a.eval d,a.eval x]).run P w = .ok u w'->K v h' n'->HR w' O R h' n'->VR w' O R n' v u->Evo w μ n w' R n'->OpR P o a w O μ n K:=by
  intro u w' R v h' n' X W U f4 f5;refine ⟨u,w',R,v,h',n',.inl ?_,W,U,f4,f5⟩;rw [kdB ho];simp only [List.map_toArray,jap,jeh];exact kaq X
 have run:∀ {base:Yb Addr} {len cap:Nat} {w':World},a.eval d = .slice base len cap->(∀ C,base=some C->(storeCells C (vals.take (min xs.length len*z.length)) 0).run P w = .ok () w')->(base=none->w'=w)->
   (Builtin.copy_ #[T,T2] o.type #[a.eval d,a.eval x]).run P w = .ok (.int .i64 (min xs.length len:Nat)) w':=by
  intro base len cap w' hu I ac;have F:=s.cells w rfl (min xs.length len) (Nat.min_le_left _ _);rw [hu];simp only [Builtin.copy_,jbz,jdd,jby,pure_bind,Sem.run_bind,run_underlying hT,Result.andThen_ok,kaS hi,hc,s.len];rw [show Nat.min xs.length len=min xs.length len from rfl,F];simp only [Result.andThen_ok];cases base with
  | none=>rw [ac rfl]; rfl
  | some C=>simp only [Sem.run_bind,I C rfl,Result.andThen_ok,Sem.run_pure]; rfl
 split at f
 ·
  refine fin (u:=.int .i64 ((min xs.length 0:Nat):Int)) (w':=w) (run (base:=none) (len:=0) (cap:=0) hd.sc_inv (λC h=>by cases h) λ_=>rfl) f hr ?_ hr.refl;rw [Nat.min_zero];exact .sc _ rfl
 ·rename_i id off len;split at f
  ·rename_i k e' es hB;obtain ⟨aj,ar,f⟩:=f;rw [aj] at f hB;obtain ⟨b,c,oo,cap,g1,J,g3,g4,g5,g6,g7,g8⟩:=kjb hr hB hd;obtain ⟨b',c',X,W,U⟩:=hr.blk id _ hB;rw [g1] at X; cases X;rw [J] at W; cases W;generalize Y:min xs.length len=m at *
   have ap:m<=len:=by rw [<-Y]; exact Nat.min_le_right _ _
   have ae:m<=xs.length:=by rw [<-Y]; exact Nat.min_le_left _ _
   have B:(vals.take (m*z.length)).length=m*z.length:=by
    rw [jbi,s.size];exact Nat.min_eq_left (jbn _ ae)
   have S:off*z.length+m*z.length<=c.size:=by
    rw [<-g8,<-jcc];exact jbn _ (by omega)
   generalize E:(c.toList.take (off*z.length)++vals.take (m*z.length)++c.toList.drop (off*z.length+m*z.length)).toArray=cn;have G:cn.size=c.size:=by
    rw [<-E];simp only [List.size_toArray,jbh,jbi,jdw,jco];rw [jbi] at B;omega
   have I:∀ C,(some ⟨b,oo,none⟩:Yb Addr)=some C->(storeCells C (vals.take (m*z.length)) 0).run P w = .ok () (w.setRow b cn):=λC aa=>by
    cases aa;by_cases ai:m=0
    ·subst ai;have:cn=c:=by rw [<-E]; simp
     rw [this,setRow_self w b c e' (0,0) J];simp [storeCells]
    ·rw [g7 (by omega)];have:=run_storeCells_at P b (off*z.length) e' (vals.take (m*z.length)) 0 c w J (by rw [B]; omega) (λv hv=>s.one v (jcl hv));rw [B] at this;rw [<-E];simpa using this
   obtain ⟨ab,ah⟩:=hr.set (w':=w.setRow b cn) id b z.length g1 (.cells z.length e' (es.take off++xs.take m++es.drop (off+m))) rfl rfl rfl (by simp) (λq g=>setRow_other w b q cn g)
    (λc0 T0 f0 h0=>by rw [J] at h0; cases h0; exact ⟨cn,setRow_heap w b c cn e' (0,0) J,G⟩) (λM=>by
     refine ⟨b,cn,g1,setRow_heap w b c cn e' (0,0) J,λq H g=>?_⟩;have r:∀ j,cn[j]?=if j<off*z.length then c[j]? else if j<off*z.length+m*z.length then vals[j-off*z.length]? else c[j]?:=λj=>by
      rw [<-E];simp only [jbz,jau];rw [jbm];have l1:(c.toList.take (off*z.length)).length=off*z.length:=by rw [jbi]; exact Nat.min_eq_left (show off*z.length<=c.size from jda (Nat.le_add_right _ _) S)
      rw [l1];split
      ·rw [jbr,if_pos (by assumption)]; simp
      ·rw [jbm,B];split
       ·rw [if_pos (by omega),jbr,if_pos (by omega)]
       ·rw [if_neg (by omega),jar];simp only [jcr];congr 1; omega
     have l:∀ {q j:Nat},j<z.length->∀ t,(q<t↔q*z.length+j<t*z.length):=λ{q j} L t=>by
      constructor
      ·intro h;have:(q+1)*z.length<=t*z.length:=jbn _ h;rw [jcc] at this; omega
      ·intro h;apply Nat.lt_of_not_le;intro h2;have:t*z.length<=q*z.length:=jbn _ h2;omega
     have old:es[q]?=some H->(q<off\/off+m<=q)->H.length=z.length/\∀ (j:Nat) (y:AV),H[j]?=some y->y.one=true/\∃ u,cn[q*z.length+j]?=some u/\VR (w.setRow b cn) O μ n y u:=λh1 h2=>by
      refine ⟨(U q H h1).1,λj y L=>?_⟩;obtain ⟨q1,u,Z,q3⟩:=(U q H h1).2 j y L;refine ⟨q1,u,?_,q3.evo M⟩;have p:j<z.length:=by rw [<-(U q H h1).1]; exact (jaf.1 L).1
      rw [r];rcases h2 with h2 | h2
      ·rw [if_pos ((l p off).1 h2)]; exact Z
      ·have h5:¬ q*z.length+j<(off+m)*z.length:=λh=>by have:=(l (q:=q) p (off+m)).2 h; omega
       rw [jcc] at h5;rw [if_neg (by omega),if_neg h5]; exact Z
     rw [jau,jbm] at g;have l1:(es.take off).length=off:=by rw [jbi]; omega
     rw [l1] at g;split at g
     ·rename_i A;rw [jbr,if_pos A] at g;exact old g (.inl A)
     ·rename_i ao;rw [jbm] at g;have l2:(xs.take m).length=m:=by rw [jbi]; omega
      rw [l2] at g;split at g
      ·rename_i A;rw [jbr,if_pos A] at g;obtain ⟨r1,r2⟩:=s.rel _ H g;refine ⟨r1,λj y L=>?_⟩;obtain ⟨q1,u,Z,q3⟩:=r2 j y L;refine ⟨q1,u,?_,q3.evo M⟩;have p:j<z.length:=by rw [<-r1]; exact (jaf.1 L).1
       have h3:¬ q*z.length+j<off*z.length:=λh=>by have:=(l (q:=q) p off).2 h; omega
       have h4:=(l (q:=q) p (off+m)).1 (by omega);rw [jcc] at h4;rw [r,if_neg h3,if_pos h4,<-Z];have:(q-off)*z.length+off*z.length=q*z.length:=by rw [<-jcc]; congr 1; omega
       congr 1; omega
      ·rename_i al;rw [jar] at g;have e3:off+m+(q-off-m)=q:=by omega
       rw [e3] at g;exact old g (.inr (by omega)))
   refine fin (u:=.int .i64 (m:Nat)) (by rw [<-Y]; exact run g3 (by rw [Y]; exact I) (λh=>by cases h)) f ah (.sc _ rfl) ab
  ·exact f.elim
 ·exact f.elim
end
def voC (P:Yd) (t:Yc) (xs:Ya Ye):Ye:=
 match aggO P t with
 | some true=>.agg xs.toArray
 | _=>xs.headD undef
theorem kge {P:Yd} {w:World} {e:Yc} {X:Array Ye} {o:Nat} {ag:Bool} (b:aggO P e=some ag) (hl:o+P.cellsOf e<=X.size) (g:ag=false->P.cellsOf e=1):(part e X o).run P w = .ok (voC P e ((X.toList.drop o).take (P.cellsOf e))) w:=by
 obtain ⟨i,hi⟩:=khI b;cases ag with
 | true=>
  simp only [part,Sem.run_bind,keW b,Result.andThen_ok,if_true,kaS hi,Sem.run_pure,voC,b];congr 1;congr 1;apply Array.ext';rw [Array.toList_extract]; simp [List.extract]
 | false=>
  have f:=g rfl;have c:o<X.size:=by omega
  simp only [part,Sem.run_bind,keW b,Result.andThen_ok,jai,if_false,voC,b,f];have:X[o]?=some X[o]:=jav c;have h2:(X.toList.drop o).take 1=[X[o]]:=by
   rw [List.drop_eq_getElem_cons (by simpa using c)]; simp
  rw [h2];simp [this]
def Scal:Ye->Prop
 | .bool _ | .int _ _ | .string _=>True
 | _=>False
def OkFs (P:Yd) (c:Yc->Ya Ye->Prop):Ya Field->Nat->Ya Ye->Prop
 | [],_,cs=>cs=[]
 | f::fs,o,cs=>∃ a b,cs=a++b/\f.name≠ "_"/\f.offset=o/\a.length=P.cellsOf f.type/\(∃ ag,aggO P f.type=some ag/\(ag=false->P.cellsOf f.type=1))/\c f.type a/\OkFs P c fs (o+P.cellsOf f.type) b
def OkC (P:Yd):Nat->Yc->Ya Ye->Prop
 | 0,_,_=>False
 | d+1,t,cs=>match P.underlying t with
  | some .bool=>∃ b,cs=[.bool b]
  | some (.int k)=>∃ n,cs=[.int k n]
  | some .string=>∃ s,cs=[.string s]
  | some (.struct fs)=>P.stoodInHeld t=false/\OkFs P (OkC P d) fs.toList 0 cs
  | some (.array n e)=>(∃ ag,aggO P e=some ag/\(ag=false->P.cellsOf e=1))/\∃ f:Ya (Ya Ye),f.length=n/\cs=f.flatten/\∀ c∈f,c.length=P.cellsOf e/\OkC P d e c
  | _=>False
section
variable {P:Yd}
theorem OkFs.scal {c:Yc->Ya Ye->Prop} (hr:∀ t cs,c t cs->∀ v∈cs,Scal v):∀ (g:Ya Field) (o:Nat) (cs:Ya Ye),OkFs P c g o cs->∀ v∈cs,Scal v
 | [],_,cs,h=>by simp only [OkFs] at h; subst h; simp
 | f::g,o,cs,h=>by
  obtain ⟨a,b,rfl,_,_,_,_,i,h2⟩:=h;intro v e;rcases jaw.1 e with e | e
  ·exact hr _ _ i v e
  ·exact OkFs.scal hr g _ b h2 v e
theorem OkC.scal:∀ (d:Nat) (t:Yc) (cs:Ya Ye),OkC P d t cs->∀ v∈cs,Scal v
 | 0,_,_,h=>h.elim
 | d+1,t,cs,h=>by
  unfold OkC at h;split at h
  ·obtain ⟨b,rfl⟩:=h; simp [Scal]
  ·obtain ⟨b,rfl⟩:=h; simp [Scal]
  ·obtain ⟨b,rfl⟩:=h; simp [Scal]
  ·exact OkFs.scal (λt cs h=>OkC.scal d t cs h) _ _ _ h.2
  ·obtain ⟨_,g,_,rfl,h⟩:=h;intro v e;obtain ⟨c,f,e⟩:=List.mem_flatten.1 e;exact OkC.scal d _ c (h c f).2 v e
  ·exact h.elim
theorem kdU {α:Type} (p a b:Ya α) {o k:Nat} (hp:p.length=o) (c:a.length=k):((p++(a++b)).drop o).take k=a:=by
 rw [<-hp,List.drop_left,<-c,List.take_left]
def EqC (P:Yd) (d:Nat):Prop:=∀ t xs ys,OkC P d t xs->OkC P d t ys->xs.length=ys.length/\∀ D w,∃ r:Bool,(Op.equalIn (D+d) t (voC P t xs) (voC P t ys)).run P w = .ok r w/\(r=true↔xs=ys)
theorem eqFs {d:Nat} (x:EqC P d) {X Y:Array Ye}:∀ (j:Ya Field) (o:Nat) (g i xs ys:Ya Ye),OkFs P (OkC P d) j o xs->OkFs P (OkC P d) j o ys->X.toList=g++xs->Y.toList=i++ys->g.length=o->i.length=o->
  xs.length=ys.length/\∀ D w,∃ r:Bool,(Op.eqFields (D+d) X Y j).run P w = .ok r w/\(r=true↔xs=ys)
 | [],o,g,i,xs,ys,hx,hy,_,_,_,_=>by
  simp only [OkFs] at hx hy;subst hx; subst hy;exact ⟨rfl,λD w=>⟨true,by simp [Op.eqFields],by simp⟩⟩
 | f::j,o,g,i,xs,ys,hx,hy,eX,eY,lx,ly=>by
  obtain ⟨a,b,rfl,hn,p,la,⟨ag,k,z⟩,F,B⟩:=hx;obtain ⟨a',b',rfl,_,_,c,_,s,t⟩:=hy;obtain ⟨hl,l⟩:=eqFs x j (o+P.cellsOf f.type) (g++a) (i++a') b b' B t (by rw [eX,jau]) (by rw [eY,jau]) (by simp [lx,la]) (by simp [ly,c]);obtain ⟨_,h2⟩:=x f.type a a' F s;refine ⟨by simp [hl,la,c],λD w=>?_⟩;obtain ⟨r1,g1,v⟩:=h2 D w;obtain ⟨r2,E,G⟩:=l D w;have sX:f.offset+P.cellsOf f.type<=X.size:=by rw [<-jco,eX,p]; simp; omega
  have sY:f.offset+P.cellsOf f.type<=Y.size:=by rw [<-jco,eY,p]; simp; omega
  have u:=kge (w:=w) k sX z;have y:=kge (w:=w) k sY z;rw [eX,kdU g a b (lx.trans p.symm) la] at u;rw [eY,kdU i a' b' (ly.trans p.symm) c] at y;have m:a++b=a'++b'↔a=a'/\b=b':=⟨λe=>List.append_inj e (by omega),λ⟨A,C⟩=>by rw [A,C]⟩;simp only [Op.eqFields,hn,ne_eq,not_false_eq_true,if_true,Sem.run_bind,u,y,Result.andThen_ok,g1];cases r1 with
  | false=>exact ⟨false,by simp,by rw [m]; simp; intro e; exact absurd (v.2 e) (by simp)⟩
  | true=>exact ⟨r2,by simpa using E,by rw [m,G]; simp [v.1 rfl]⟩
theorem eqIts {d:Nat} (y:EqC P d) {e:Yc} {ag:Bool} (k:aggO P e=some ag) (u:ag=false->P.cellsOf e=1) {X Y:Array Ye}:∀ (b f:Ya (Ya Ye)) (i:Nat) (g j:Ya Ye),b.length=f.length->(∀ c∈b,c.length=P.cellsOf e/\OkC P d e c)->(∀ c∈f,c.length=P.cellsOf e/\OkC P d e c)->
  X.toList=g++b.flatten->Y.toList=j++f.flatten->g.length=i*P.cellsOf e->j.length=i*P.cellsOf e->
  b.flatten.length=f.flatten.length/\∀ D w,∃ r:Bool,(Op.eqItems (D+d) e (P.cellsOf e) X Y (List.range' i b.length)).run P w = .ok r w/\(r=true↔b.flatten=f.flatten)
 | [],[],i,g,j,_,_,_,_,_,_,_=>⟨rfl,λD w=>⟨true,by simp [Op.eqItems],by simp⟩⟩
 | [],_::_,i,g,j,h,_,_,_,_,_,_=>by simp at h
 | _::_,[],i,g,j,h,_,_,_,_,_,_=>by simp at h
 | a::b,a'::f,i,g,j,hl,hx,hy,eX,eY,lx,ly=>by
  obtain ⟨la,E⟩:=hx a (by simp);obtain ⟨l,t⟩:=hy a' (by simp);simp only [List.flatten_cons] at eX eY ⊢;obtain ⟨B,m⟩:=eqIts y k u b f (i+1) (g++a) (j++a') (by simpa using hl) (λc s=>hx c (by simp [s])) (λc s=>hy c (by simp [s])) (by rw [eX,jau]) (by rw [eY,jau]) (by rw [jbh,lx,la,jee]) (by rw [jbh,ly,l,jee]);obtain ⟨_,h2⟩:=y e a a' E t;refine ⟨by simp only [jbh]; omega,λD w=>?_⟩;obtain ⟨r1,g1,x⟩:=h2 D w;obtain ⟨r2,C,F⟩:=m D w;have sX:i*P.cellsOf e+P.cellsOf e<=X.size:=by rw [<-jco,eX]; simp; omega
  have sY:i*P.cellsOf e+P.cellsOf e<=Y.size:=by rw [<-jco,eY]; simp; omega
  have v:=kge (w:=w) k sX u;have z:=kge (w:=w) k sY u;rw [eX,kdU g a _ lx la] at v;rw [eY,kdU j a' _ ly l] at z;have p:a++b.flatten=a'++f.flatten↔a=a'/\b.flatten=f.flatten:=⟨λe=>List.append_inj e (by omega),λ⟨G,A⟩=>by rw [G,A]⟩;simp only [jcv,List.range'_succ,Op.eqItems,Sem.run_bind,v,z,Result.andThen_ok,g1];cases r1 with
  | false=>exact ⟨false,by simp,by rw [p]; simp; intro e; exact absurd (x.2 e) (by simp)⟩
  | true=>exact ⟨r2,by simpa using C,by rw [p,F]; simp [x.1 rfl]⟩
theorem eqC:∀ d,EqC P d
 | 0=>λt xs ys h=>h.elim
 | d+1=>by
  intro t xs ys j g;unfold OkC at j g;split at j
  ·rename_i c;simp only [c] at g;obtain ⟨a,rfl⟩:=j; obtain ⟨b,rfl⟩:=g;have f:aggO P t=some false:=by simp [aggO,c]
   refine ⟨rfl,λD w=>⟨a==b,?_,by simp⟩⟩;simp only [voC,f,List.headD_cons];exact run_equalIn_bool w (D+d) t a b c
  ·rename_i k c;simp only [c] at g;obtain ⟨a,rfl⟩:=j; obtain ⟨b,rfl⟩:=g;have f:aggO P t=some false:=by simp [aggO,c]
   refine ⟨rfl,λD w=>⟨a==b,?_,by simp⟩⟩;simp only [voC,f,List.headD_cons];exact run_equalIn_int w (D+d) t k k a b c
  ·rename_i c;simp only [c] at g;obtain ⟨a,rfl⟩:=j; obtain ⟨b,rfl⟩:=g;have f:aggO P t=some false:=by simp [aggO,c]
   refine ⟨rfl,λD w=>⟨a==b,?_,by rw [MapKept.bytes_beq]; simp⟩⟩;simp only [voC,f,List.headD_cons];rw [beq_toListBytes];exact run_equalIn_string w (D+d) t a b c
  ·rename_i u c;simp only [c] at g;have f:aggO P t=some true:=by simp [aggO,c]
   have v:P.fieldsOf t=u:=by simp [Program.fieldsOf,c]
   obtain ⟨s,h2⟩:=eqFs (eqC d) (X:=xs.toArray) (Y:=ys.toArray) u.toList 0 [] [] xs ys j.2 g.2 (by simp) (by simp) rfl rfl;refine ⟨s,λD w=>?_⟩;obtain ⟨r,g1,l⟩:=h2 D w;refine ⟨r,?_,l⟩;simp only [voC,f];rw [show D+(d+1)=(D+d)+1 from rfl,run_equalIn_struct w (D+d) t _ _ (by rw [v]; exact c) j.1,v];exact g1
  ·rename_i n e c;simp only [c] at g;have f:aggO P t=some true:=by simp [aggO,c]
   obtain ⟨⟨ag,x,s⟩,z,l1,rfl,m⟩:=j;obtain ⟨_,y,l2,rfl,p⟩:=g;obtain ⟨i,hi⟩:=khI x;obtain ⟨h2,A⟩:=eqIts (eqC d) x s (X:=z.flatten.toArray) (Y:=y.flatten.toArray) z y 0 [] [] (by omega) m p (by simp) (by simp) (by simp) (by simp);refine ⟨h2,λD w=>?_⟩;obtain ⟨r,g1,l⟩:=A D w;refine ⟨r,?_,l⟩;simp only [voC,f];rw [show D+(d+1)=(D+d)+1 from rfl,run_equalIn_array w (D+d) _ _ c hi,List.range_eq_range',<-l1];exact g1
  ·exact j.elim
theorem ckFs {em:Bool} {d:Nat} (k:∀ t cs,OkC P d t cs->∀ D w,(Instr.checkKey em (D+d) t (voC P t cs)).run P w = .ok () w) {X:Array Ye} (D:Nat) (w:World):∀ (e:Ya Field) (o:Nat) (c xs:Ya Ye),OkFs P (OkC P d) e o xs->X.toList=c++xs->c.length=o->
  (forIn (m:=Sem) e PUnit.unit λf _=>if f.name≠ "_" then do let v<-part f.type X f.offset; Instr.checkKey em (D+d) f.type v; pure (ForInStep.yield PUnit.unit) else pure (ForInStep.yield PUnit.unit)).run P w = .ok PUnit.unit w
 | [],o,c,xs,hx,_,_=>by simp
 | f::e,o,c,xs,hx,eX,lx=>by
  obtain ⟨a,b,rfl,hn,j,la,⟨ag,g,s⟩,r,l⟩:=hx;have hr:=ckFs k D w e (o+P.cellsOf f.type) (c++a) b l (by rw [eX,jau]) (by simp [lx,la]);have sX:f.offset+P.cellsOf f.type<=X.size:=by rw [<-jco,eX,j]; simp; omega
  have i:=kge (w:=w) g sX s;rw [eX,kdU c a b (lx.trans j.symm) la] at i;have p:=k f.type a r D w;simp only [List.forIn_cons,Sem.run_bind,hn,ne_eq,not_false_eq_true,if_true,Result.andThen_ok,i,p,Sem.run_pure];exact hr
theorem ckIts {em:Bool} {d:Nat} (k:∀ t cs,OkC P d t cs->∀ D w,(Instr.checkKey em (D+d) t (voC P t cs)).run P w = .ok () w) {e:Yc} {ag:Bool} (b:aggO P e=some ag) (l:ag=false->P.cellsOf e=1) {X:Array Ye} (D:Nat) (w:World):∀ (g:Ya (Ya Ye)) (i:Nat) (f:Ya Ye),
  (∀ c∈g,c.length=P.cellsOf e/\OkC P d e c)->X.toList=f++g.flatten->f.length=i*P.cellsOf e->
  (forIn (m:=Sem) (List.range' i g.length) PUnit.unit λi _=>do let n<-sizeOf e; let v<-part e X (i*n); Instr.checkKey em (D+d) e v; pure (ForInStep.yield PUnit.unit)).run P w = .ok PUnit.unit w
 | [],i,f,_,_,_=>by simp
 | a::g,i,f,hx,eX,lx=>by
  obtain ⟨la,s⟩:=hx a (by simp);obtain ⟨u,hi⟩:=khI b;simp only [List.flatten_cons] at eX;have hr:=ckIts k b l D w g (i+1) (f++a) (λc p=>hx c (by simp [p])) (by rw [eX,jau]) (by rw [jbh,lx,la,jee]);have sX:i*P.cellsOf e+P.cellsOf e<=X.size:=by rw [<-jco,eX]; simp; omega
  have j:=kge (w:=w) b sX l;rw [eX,kdU f a _ lx la] at j;have r:=k e a s D w;simp only [jcv,List.range'_succ,List.forIn_cons,Sem.run_bind,kaS hi,Result.andThen_ok,j,r,Sem.run_pure];exact hr
theorem ckC {em:Bool}:∀ (d:Nat) (t:Yc) (cs:Ya Ye),OkC P d t cs->∀ D w,(Instr.checkKey em (D+d) t (voC P t cs)).run P w = .ok () w
 | 0,_,_,h=>h.elim
 | d+1,t,cs,hx=>by
  intro D w;unfold OkC at hx;split at hx
  ·rename_i b;obtain ⟨a,rfl⟩:=hx;exact MapKept.run_checkKey (n:=D+d) b (by simp [voC,aggO,b,MapKept.IsKey]) em
  ·rename_i k b;obtain ⟨a,rfl⟩:=hx;exact MapKept.run_checkKey (n:=D+d) b (by simp [voC,aggO,b,MapKept.IsKey]) em
  ·rename_i b;obtain ⟨a,rfl⟩:=hx;exact MapKept.run_checkKey (n:=D+d) b (by simp [voC,aggO,b,MapKept.IsKey]) em
  ·rename_i i b;have c:aggO P t=some true:=by simp [aggO,b]
   simp only [voC,c];rw [show D+(d+1)=(D+d)+1 from rfl,Instr.checkKey];simp only [Sem.run_bind,run_underlying b,Result.andThen_ok];rw [<-Array.forIn_toList];have hr:=ckFs (ckC (em:=em) d) (X:=cs.toArray) D w i.toList 0 [] cs hx.2 (by simp) rfl;exact (congrArg (λr=>r.andThen λa w'=>Sem.run P (pure ()) w') hr).trans rfl
  ·rename_i n e b;obtain ⟨⟨ag,j,l⟩,g,l1,rfl,f⟩:=hx;have c:aggO P t=some true:=by simp [aggO,b]
   simp only [voC,c];rw [show D+(d+1)=(D+d)+1 from rfl,Instr.checkKey];simp only [Sem.run_bind,run_underlying b,Result.andThen_ok];simp only [Std.Legacy.Range.forIn_eq_forIn_range',Std.Legacy.Range.size,Nat.sub_zero,Nat.add_one_sub_one,Nat.div_one];rw [<-l1];have hr:=ckIts (ckC (em:=em) d) j l (X:=g.flatten.toArray) D w g 0 [] f (by simp) (by simp);exact (congrArg (λr=>r.andThen λa w'=>Sem.run P (pure ()) w') hr).trans rfl
  ·exact hx.elim
end
def mapO (P:Yd) (T:Yc):Yb (Yc×Yc):=
 match P.underlying T with
 | some (.map k e)=>some (k,e)
 | _=>none
def zvO (P:Yd) (T:Yc):Yb Ye:=(P.info? T).bind (·.zero)
def scV:Ya AV->Yb (Ya Ye)
 | []=>some []
 | .sc v::l=>(scV l).map (v :: ·)
 | _=>none
def keyA:AV->Yb Ye
 | .sc v=>some v
 | .ag cs=>(scV cs).map λvs=>.agg vs.toArray
 | _=>none
def kbu (P:Yd) (kt:Yc):Ye->Prop
 | .int k _=>intO P kt=some k
 | .string _=>P.underlying kt=some .string
 | .bool _=>P.underlying kt=some .bool
 | .agg cs=>aggO P kt=some true/\OkC P 9 kt cs.toList
 | _=>False
def keyB1:Ye->Ye->Bool
 | .int k a,.int k' b=>k==k'&&a==b
 | .string a,.string b=>a==b
 | .bool a,.bool b=>a==b
 | _,_=>false
def keyBL:Ya Ye->Ya Ye->Bool
 | [],[]=>true
 | x::l,y::r=>keyB1 x y&&keyBL l r
 | _,_=>false
def keyB:Ye->Ye->Bool
 | .agg a,.agg b=>keyBL a.toList b.toList
 | a,b=>keyB1 a b
def findA (k:Ye):Ya (Ye×AV)->Nat->Yb (Nat×AV)
 | [],_=>none
 | x::r,i=>if keyB k x.1 then some (i,x.2) else findA k r (i+1)
def khR (P:Yd) (h:AH) (T:Yc) (m key:AV) (ok:Bool) (K:AV->Prop):Prop:=
 match m,keyA key,mapO P T with
 | .mp id,some k,some (kt,e)=>match h id with
  | some (.map kvs)=>kbu P kt k/\(∀ x∈kvs,kbu P kt x.1)/\match findA k kvs 0,zvO P e with
   | some (_,v),_=>K (if ok then .tp [v,.sc (.bool true)] else v)
   | none,some z=>K (if ok then .tp [cst z,.sc (.bool false)] else cst z)
   | none,none=>False
  | _=>False
 | _,_,_=>False
def kkr (P:Yd) (h:AH) (n:Nat) (T:Yc) (m key v:AV) (K:K3):Prop:=
 match m,keyA key,mapO P T with
 | .mp id,some k,some (kt,e)=>match h id with
  | some (.map kvs)=>kbu P kt k/\(∀ x∈kvs,kbu P kt x.1)/\v.vl=true/\K .ud (updH h id (.map (match findA k kvs 0 with | some (i,_)=>kvs.set i (k,v) | none=>kvs++[(k,v)]))) n
  | _=>False
 | _,_,_=>False
def kmf (P:Yd) (h:AH) (n:Nat) (T:Yc) (m key:AV) (K:K3):Prop:=
 match m,keyA key,mapO P T with
 | .mp id,some k,some (kt,e)=>match h id with
  | some (.map kvs)=>kbu P kt k/\(∀ x∈kvs,kbu P kt x.1)/\match findA k kvs 0,zvO P e with
   | some (i,v),_=>K (.tp [v,.sc (.int .i64 i)]) (updH h id (.map kvs)) n
   | none,some z=>(cst z).vl=true/\K (.tp [cst z,.sc (.int .i64 kvs.length)]) (updH h id (.map (kvs++[(k,cst z)]))) n
   | none,none=>False
  | _=>False
 | _,_,_=>False
def kov (h:AH) (n:Nat) (m b v:AV) (K:K3):Prop:=
 match m,b with
 | .mp id,.sc (.int _ i)=>match h id with
  | some (.map kvs)=>0<=i/\v.vl=true/\∃ x,kvs[i.toNat]?=some x/\K .ud (updH h id (.map (kvs.set i.toNat (x.1,v)))) n
  | _=>False
 | _,_=>False
def koK (P:Yd) (h:AH) (n:Nat) (T:Yc) (v:AV) (K:K3):Prop:=
 match v with
 | .sc (.string s)=>P.underlying T=some .string/\K (.own n 0 0) (updH h n (.si s 0)) (n+1)
 | _=>False
def nextK (h:AH) (n:Nat) (v:AV) (K:K3):Prop:=
 match v with
 | .own id 0 0=>match h id with
  | some (.si s pos)=>if pos<s.size then K (.tp [.sc (.bool true),.sc (.int .i64 pos),.sc (.int .i32 (Utf8.decode s pos).1)]) (updH h id (.si s (pos+(Utf8.decode s pos).2))) n else K (.tp [.sc (.bool false)]) h n
  | _=>False
 | _=>False
section
variable {P:Yd} {o:Oper} {a:Act} {w:World} {O:Nat->Prop} {μ:Mu} {h:AH} {n:Nat} {K:K3}
theorem kjv {T k e:Yc} (b:mapO P T=some (k,e)):P.underlying T=some (.map k e):=by
 unfold mapO at b;split at b
 ·cases b; assumption
 ·cases b
def sKey:Ye->Bool
 | .agg _=>false
 | _=>true
theorem kjm {kt:Yc} {k:Ye} (c:sKey k=true) (b:kbu P kt k):∃ d,P.underlying kt=some d/\MapKept.IsKey d k:=by
 cases k <;> simp only [kbu] at b
 ·exact ⟨_,b,trivial⟩
 ·rename_i f m;unfold intO at b;split at b
  ·rename_i q e; cases b; exact ⟨_,e,rfl⟩
  ·cases b
 ·exact ⟨_,b,trivial⟩
 ·simp [sKey] at c
theorem kzh {a b:Ye} (c:sKey a=true):keyB a b=keyB1 a b:=by
 cases a <;> first | rfl | (simp [sKey] at c; done)
theorem kvj {d:TypeDesc} {a b:Ye} (c:MapKept.IsKey d a) (e:MapKept.IsKey d b):Instr.sameNow d a b=some (keyB a b):=by
 cases d <;> cases a <;> cases b <;> simp_all [MapKept.IsKey,Instr.sameNow,keyB,keyB1]
theorem kqq {a b:Ye} (c:Scal a) (e:Scal b):keyB1 a b=true↔a=b:=by
 cases a <;> simp only [Scal] at c <;> cases b <;> simp only [Scal] at e <;> simp [keyB1,MapKept.bytes_beq]
theorem kqf:∀ {a b:Ya Ye},(∀ v∈a,Scal v)->(∀ v∈b,Scal v)->(keyBL a b=true↔a=b)
 | [],[],_,_=>by simp [keyBL]
 | [],_::_,_,_=>by simp [keyBL]
 | _::_,[],_,_=>by simp [keyBL]
 | x::a,y::b,ha,hb=>by
  have c:=kqf (a:=a) (b:=b) (λv h=>ha v (jax _ h)) (λv h=>hb v (jax _ h));simp only [keyBL,jac,kqq (ha x (by simp)) (hb y (by simp)),c,List.cons.injEq]
theorem keg {kt:Yc} {k:Ye} (b:kbu P kt k):Scal k\/∃ cs,k = .agg cs/\aggO P kt=some true/\OkC P 9 kt cs.toList/\∀ v∈cs.toList,Scal v:=by
 cases k <;> simp only [kbu] at b <;> first | exact .inl trivial | skip
 exact .inr ⟨_,rfl,b.1,b.2,OkC.scal 9 kt _ b.2⟩
theorem kwE {kt:Yc} {a b:Ye} (j:kbu P kt a) (c:kbu P kt b):keyB a b=true↔a=b:=by
 rcases keg j with h | ⟨x,rfl,_,_,i⟩
 ·rcases keg c with g | ⟨y,rfl,_⟩
  ·rw [<-kqq h g,kzh (by cases a <;> first | rfl | exact h.elim)]
  ·cases a <;> simp only [Scal] at h <;> simp [keyB,keyB1]
 ·rcases keg c with g | ⟨y,rfl,_,_,f⟩
  ·cases b <;> simp only [Scal] at g <;> simp [keyB,keyB1]
  ·show keyBL x.toList y.toList=true↔_;rw [kqf i f];constructor
   ·intro e; rw [Array.ext' e]
   ·intro e; cases e; rfl
theorem knu {d:TypeDesc} {kt:Yc} {k:Ye} (t:MapKept.IsKey d k):∀ (l:Ya MapEntry) (b:Ya (Ye×AV)) (i:Nat),l.length=b.length->(∀ x∈b,MapKept.IsKey d x.1/\(keyB k x.1=true↔k=x.1))->(∀ (j:Nat) (x:Ye×AV),b[j]?=some x->∃ e,l[j]?=some e/\e.key=x.1)->
  (findA k b i=none/\Instr.findNow d k l i=some none)\/∃ j x e,findA k b i=some (i+j,x.2)/\b[j]?=some x/\l[j]?=some e/\Instr.findNow d k l i=some (some (i+j,e.val))/\x.1=k
 | [],[],i,_,_,_=>.inl ⟨rfl,rfl⟩
 | e::l,[],i,h,_,_=>by simp at h
 | [],x::b,i,h,_,_=>by simp at h
 | e::l,x::b,i,hl,hks,hx=>by
  obtain ⟨e',g,f⟩:=hx 0 x rfl;simp at g; subst g;obtain ⟨m,s⟩:=hks x (by simp);have p:Instr.sameNow d k e.key=some (keyB k x.1):=by rw [f]; exact kvj t m
  cases c:keyB k x.1 with
  | true=>
   exact .inr ⟨0,x,e,by simp [findA,c],rfl,rfl,by simp [Instr.findNow,p,c],(s.1 c).symm⟩
  | false=>
   rcases knu (kt:=kt) t l b (i+1) (by simpa using hl) (λy v=>hks y (by simp [v])) (λj y z=>by simpa using hx (j+1) y (by simpa using z)) with ⟨r,h2⟩ | ⟨j,y,B,r,h2,C,A,u⟩
   ·exact .inl ⟨by simp [findA,c,r],by simp [Instr.findNow,p,c,h2]⟩
   ·exact .inr ⟨j+1,y,B,by simp [findA,c,r]; omega,by simpa using h2,by simpa using C,by simp [Instr.findNow,p,c,A]; omega,u⟩
theorem knf {kt:Yc} {cs:Array Ye} (v:kbu P kt (.agg cs)) (w:World):∀ (l:Ya MapEntry) (b:Ya (Ye×AV)) (i:Nat),l.length=b.length->(∀ x∈b,kbu P kt x.1)->(∀ (j:Nat) (x:Ye×AV),b[j]?=some x->∃ e,l[j]?=some e/\e.key=x.1)->
  (findA (.agg cs) b i=none/\(Instr.findAsking kt (.agg cs) l i).run P w = .ok none w)\/∃ j x e,findA (.agg cs) b i=some (i+j,x.2)/\b[j]?=some x/\l[j]?=some e/\(Instr.findAsking kt (.agg cs) l i).run P w = .ok (some (i+j,e.val)) w/\x.1 = .agg cs
 | [],[],i,_,_,_=>.inl ⟨rfl,by simp [Instr.findAsking]⟩
 | e::l,[],i,h,_,_=>by simp at h
 | [],x::b,i,h,_,_=>by simp at h
 | e::l,x::b,i,hl,hks,hx=>by
  obtain ⟨e',u,t⟩:=hx 0 x rfl;simp at u; subst u;have k:=hks x (by simp);have m:=kwE v k;obtain ⟨r,hr,c⟩:∃ r:Bool,(Op.equal kt (.agg cs) e.key).run P w = .ok r w/\(r=true↔Value.agg cs=x.1):=by
   rcases keg k with h | ⟨y,z,_,B,_⟩
   ·exfalso;have s:=v.1;have A:sKey x.1=true:=by cases f:x.1 <;> rw [f] at h <;> first | rfl | exact h.elim
    obtain ⟨d,E,g⟩:=kjm A k;simp only [aggO,E] at s;cases d <;> simp [MapKept.IsKey] at g s <;> (cases f:x.1 <;> rw [f] at g <;> exact g)
   ·obtain ⟨_,h2⟩:=eqC 9 kt cs.toList y.toList v.2 B;obtain ⟨r,g1,I⟩:=h2 (Op.maxDepth-9) w;refine ⟨r,?_,?_⟩
    ·rw [t,z];have M:Op.maxDepth-9+9=Op.maxDepth:=by decide
     rw [M] at g1;simp only [voC,v.1] at g1;exact g1
    ·rw [I,z];constructor
     ·intro e; rw [Array.ext' e]
     ·intro e; cases e; rfl
  cases p:keyB (.agg cs) x.1 with
  | true=>
   have:r=true:=c.2 (m.1 p);subst this;exact .inr ⟨0,x,e,by simp [findA,p],rfl,rfl,by simp [Instr.findAsking,hr],(m.1 p).symm⟩
  | false=>
   have:r=false:=by
    cases r
    ·rfl
    ·have:=m.2 (c.1 rfl); rw [p] at this; cases this
   subst this;rcases knf v w l b (i+1) (by simpa using hl) (λy z=>hks y (by simp [z])) (λj y G=>by simpa using hx (j+1) y (by simpa using G)) with ⟨C,h2⟩ | ⟨j,y,J,C,h2,L,H,F⟩
   ·exact .inl ⟨by simp [findA,p,C],by simp [Instr.findAsking,hr,h2]⟩
   ·exact .inr ⟨j+1,y,J,by simp [findA,p,C]; omega,by simpa using h2,by simpa using L,by simp [Instr.findAsking,hr,H]; omega,F⟩
theorem kvL {kt:Yc} {k:Ye} (A:kbu P kt k) (w:World) {l:Ya MapEntry} {b:Ya (Ye×AV)} (hl:l.length=b.length) (r:∀ x∈b,kbu P kt x.1) (z:∀ (j:Nat) (x:Ye×AV),b[j]?=some x->∃ e,l[j]?=some e/\e.key=x.1) :
  (findA k b 0=none/\(Instr.findKey kt k l).run P w = .ok none w)\/∃ j x e,findA k b 0=some (j,x.2)/\b[j]?=some x/\l[j]?=some e/\(Instr.findKey kt k l).run P w = .ok (some (j,e.val)) w/\x.1=k:=by
 rcases keg A with h | ⟨cs,rfl,i,_,_⟩
 ·have B:sKey k=true:=by cases k <;> first | rfl | exact h.elim
  obtain ⟨d,c,t⟩:=kjm B A;have E:aggO P kt≠some true:=by
   simp only [aggO,c];cases d <;> simp [MapKept.IsKey] at t ⊢
  have s:∀ x∈b,MapKept.IsKey d x.1/\(keyB k x.1=true↔k=x.1):=λx z=>by
   have m:=r x z;refine ⟨?_,kwE A m⟩;rcases keg m with g | ⟨y,_,I,_⟩
   ·obtain ⟨M,p,h2⟩:=kjm (by cases C:x.1 <;> rw [C] at g <;> first | rfl | exact g.elim) m;rw [c] at p; cases p; exact h2
   ·exact absurd I E
  rcases knu (kt:=kt) t l b 0 hl s z with ⟨p,h2⟩ | ⟨j,x,e,p,h2,J,G,H⟩
  ·exact .inl ⟨p,MapKept.run_findKey c h2⟩
  ·simp only [jcf] at p G;exact .inr ⟨j,x,e,p,h2,J,MapKept.run_findKey c G,H⟩
 ·have R:∀ d,P.underlying kt=some d->(∀ q,d≠.int q)/\d≠.string/\d≠.bool:=λd c=>by
   simp only [aggO,c] at i;cases d <;> simp at i ⊢
  obtain ⟨d,c⟩:∃ d,P.underlying kt=some d:=by
   cases L:P.underlying kt with
   | none=>simp [aggO,L] at i
   | some d=>exact ⟨d,rfl⟩
  have f:∀ v,Instr.sameNow d (.agg cs) v=none:=λv=>by cases d <;> cases v <;> rfl
  cases l with
  | nil=>
   have:b=[]:=jbv hl.symm;subst this;exact .inl ⟨rfl,MapKept.run_findKey c (by rfl)⟩
  | cons e l=>
   have F:Instr.findNow d (.agg cs) (e::l) 0=none:=by simp [Instr.findNow,f]
   have u:(Instr.findKey kt (.agg cs) (e::l)).run P w=(Instr.findAsking kt (.agg cs) (e::l) 0).run P w:=by
    simp [Instr.findKey,run_underlying c,F]
   rw [u];have:=knf A w (e::l) b 0 hl r z;simpa only [jcf] using this
theorem koU {kt:Yc} {k:Ye} (f:kbu P kt k) (w:World) (em:Bool):(Instr.checkKey em 10000 kt k).run P w = .ok () w:=by
 rcases keg f with h | ⟨cs,rfl,c,e,_⟩
 ·obtain ⟨d,g,b⟩:=kjm (by cases k <;> first | rfl | exact h.elim) f;exact MapKept.run_checkKey g b em 9999
 ·have:=ckC (em:=em) 9 kt cs.toList e 9991 w;simpa [voC,c] using this
theorem kno {v:Ye} (b:Scal v) (n:Nat):Instr.sameBits n v v=true:=by
 cases v <;> simp only [Scal] at b <;> cases n <;> simp [Instr.sameBits,MapKept.bytes_beq]
theorem kxi {kt:Yc} {k:Ye} (c:kbu P kt k) (w:World):(Instr.keyThatStays k k).run P w = .ok k w:=by
 have:Instr.sameBits 10000 k k=true:=by
  rcases keg c with h | ⟨cs,rfl,_,_,b⟩
  ·exact kno h _
  ·simp only [Instr.sameBits,BEq.rfl,jei,jam];intro p hp;obtain ⟨i,e,h2⟩:=jdv.1 hp;rw [List.getElem_zip] at h2;subst h2;exact kno (b _ (jdx ..)) _
 simp [Instr.keyThatStays,this]
theorem krM {w:World} {O:Nat->Prop} {μ:Mu} {n:Nat}:∀ {cs:Ya AV} {vs:Ya Ye} (us:Ya Ye),scV cs=some vs->us.length=cs.length->(∀ (j:Nat) (c:AV),cs[j]?=some c->∃ u,us[j]?=some u/\VR w O μ n c u)->us=vs
 | [],vs,us,h,hl,hv=>by simp [scV] at h; subst h; exact jbv hl
 | c::cs,vs,us,h,hl,hv=>by
  cases c with
  | sc v=>
   simp only [scV,jad] at h;obtain ⟨i,g,rfl⟩:=h;cases us with
   | nil=>simp at hl
   | cons u us=>
    obtain ⟨u',e,f⟩:=hv 0 _ rfl;simp at e; subst e;rw [f.sc_inv,krM us g (by simpa using hl) λj c b=>by simpa using hv (j+1) c (by simpa using b)]
  | _=>simp [scV] at h
theorem kst {a:AV} {u k:Ye} (b:keyA a=some k) (e:VR w O μ n a u):u=k:=by
 cases a <;> simp only [keyA] at b <;> first | cases b | skip
 ·exact e.sc_inv
 ·obtain ⟨vs,l,rfl⟩:=jad.1 b;cases e with
  | ag _ X us g i _ hr=>
   have:=krM X.toList l (by simpa using g) λj c f=>⟨us j,by simpa using i j c f,hr j c f⟩;rw [<-this]
theorem HR.own_map (hr:HR w O μ h n) {id:Nat} {c:Ya (Ye×AV)} (hB:h id=some (.map c)):∃ b es,μ id=some (b,0)/\w.heap[b]?=some (.map es c.length)/\es.size=c.length/\
   ∀ (i:Nat) (x:Ye×AV),c[i]?=some x->∃ e,es[i]?=some e/\e.key=x.1/\e.born=i/\x.2.vl=true/\VR w O μ n x.2 e.val:=hr.blk id _ hB
theorem VR.mp_inv {id:Nat} {v:Ye} (c:VR w O μ n (.mp id) v) {b k:Nat} (e:μ id=some (b,k)):v = .map (some b):=by
 cases c with
 | mp _ _ _ _ c=>exact c b k e
theorem kwb {T:Yc} (f:o.op = .makeMap T none) (hr:HR w O μ h n) (g:K (.mp n) (updH h n (.map [])) (n+1)):OpR P o a w O μ n K:=by
 have c:=Evo.alloc hr (.map #[] 0) 0;refine ⟨.map (some w.heap.size),w.alloc (.map #[] 0),updM μ n (w.heap.size,0),.mp n,_,n+1,.inl ?_,g,?_,?_,c⟩
 ·simp [execOp,f,Instr.makeMap]
 ·exact hr.alloc _ 0 _ ⟨w.heap.size,#[],by simp [updM],kbO _ _,rfl,λi x hi=>by simp at hi⟩
 ·exact .mp n _ (by omega) rfl λb k e=>by simp [updM] at e; rw [e.1]
theorem kyN {T:Yc} {x:Yf} (i:o.op = .range T x) (hr:HR w O μ h n) {v:AV} (g:VR w O μ n v (a.eval x)) (c:koK P h n T v K):OpR P o a w O μ n K:=by
 unfold koK at c;split at c
 ·rename_i s;obtain ⟨hT,c⟩:=c;have f:=Evo.alloc hr (.stringIter s 0) 0;refine ⟨.pointer (some ⟨w.heap.size,0,none⟩),w.alloc (.stringIter s 0),updM μ n (w.heap.size,0),.own n 0 0,_,n+1,.inl ?_,c,?_,?_,f⟩
  ·simp only [execOp,i,g.sc_inv];exact kaq (run_range_string w T s hT)
  ·exact hr.alloc _ 0 _ ⟨w.heap.size,by simp [updM],kbO _ _⟩
  ·exact .own n 0 0 _ (by omega) rfl λb k e=>by simp [updM] at e; rw [e.1]; simp
 ·exact c.elim
theorem kzE {x:Yf} (y:o.op = .next x true) (hr:HR w O μ h n) {v:AV} (p:VR w O μ n v (a.eval x)) (k:nextK h n v K):OpR P o a w O μ n K:=by
 unfold nextK at k;split at k
 ·rename_i id;split at k
  ·rename_i s pos hB;obtain ⟨b,l,h2⟩:=hr.blk id _ hB;have z:=(hr.scope id b 0 l).2;have hp:a.eval x = .pointer (some ⟨b,0,none⟩):=by
    cases p with
    | own _ _ _ _ _ _ p=>simpa using p b 0 l
   split at k
   ·rename_i r;let w':World:={ w with heap:=w.heap.setIfInBounds b (.stringIter s (pos+(Utf8.decode s pos).2)) }
    have g:=hr.set (w':=w') id b 0 l (.si s (pos+(Utf8.decode s pos).2)) rfl rfl rfl (by simp [w']) (λi hi=>by simp [w',Ne.symm hi]) (λc T f t=>by rw [h2] at t; cases t)
     λ_=>⟨b,l,by simp [w',z]⟩
    refine ⟨.tuple #[.bool true,.int .i64 pos,.int .i32 (Utf8.decode s pos).1],w',μ,.tp [.sc (.bool true),.sc (.int .i64 pos),.sc (.int .i32 (Utf8.decode s pos).1)],_,n,.inl ?_,k,g.2,?_,g.1⟩
    ·simp only [execOp,y,hp];refine kaq ?_;simp only [Instr.next,getObj,setObj,Sem.run_bind,Sem.run,h2,Result.andThen,r,if_true];simp [goInt,w',z]
    ·refine .tp _ _ (λj=>([.bool true,.int .i64 pos,.int .i32 (Utf8.decode s pos).1]:Ya Ye)[j]?.getD undef) rfl (λj c e=>?_) λj c e=>?_
     ·match j,e with
      | 0,_=>rfl
      | 1,_=>rfl
      | 2,_=>rfl
     ·match j,e with
      | 0,e=>simp at e; subst e; exact .sc _ rfl
      | 1,e=>simp at e; subst e; exact .sc _ rfl
      | 2,e=>simp at e; subst e; exact .sc _ rfl
   ·rename_i m;refine OpR.value hr (u:=.tuple #[.bool false]) (v:=.tp [.sc (.bool false)]) ?_ ?_ k
    ·simp only [execOp,y,hp];refine kaq ?_;simp [Instr.next,getObj,Sem.run,h2,m]
    ·refine .tp _ _ (λ_=>.bool false) rfl (λj c e=>?_) λj c e=>?_
     ·match j,e with
      | 0,_=>rfl
     ·match j,e with
      | 0,e=>simp at e; subst e; exact .sc _ rfl
  ·exact k.elim
 ·exact k.elim
theorem kxV {T:Yc} {m key:Yf} {ok:Bool} (W:o.op = .lookup T m key ok) (hr:HR w O μ h n) {J I:AV} (M:VR w O μ n J (a.eval m)) (A:VR w O μ n I (a.eval key)) (f:khR P h T J I ok (λv=>K v h n)):OpR P o a w O μ n K:=by
 unfold khR at f;split at f
 ·rename_i id k kt e H hT;split at f
  ·rename_i R hB;obtain ⟨y,C,f⟩:=f;obtain ⟨b,es,g1,U,X,L⟩:=hr.own_map hB;have E:=M.mp_inv g1;have B:=kst H A;have fin:∀ {v:AV} {u:Ye} {r:Yb (Nat×Ye)} {t:Bool},(Instr.findKey kt k es.toList).run P w = .ok r w->((match r with | some (_,v)=>pure (v,true) | none=>do pure (<-zeroValue e,false):Sem (Ye×Bool)).run P w = .ok (u,t) w)->VR w O μ n v u->K (if ok then .tp [v,.sc (.bool t)] else v) h n->OpR P o a w O μ n K:=by
    intro v u r t p h2 s F;refine OpR.value hr (u:=if ok then .tuple #[u,.bool t] else u) (v:=if ok then .tp [v,.sc (.bool t)] else v) ?_ ?_ F
    ·simp only [execOp,W,E,B];refine kaq ?_;simp only [Instr.lookup,Sem.run_bind,run_underlying (kjv hT),Result.andThen_ok,MapKept.run_getObj_map U,Sem.run_pure,koU y,p];rcases r with _ | ⟨i,rv⟩
     ·simp only [Sem.run_bind] at h2 ⊢;cases hz:(zeroValue e).run P w with
      | ok z w1=>
       rw [hz] at h2;simp at h2 ⊢;obtain ⟨⟨rfl,rfl⟩,rfl⟩:=h2;simp
      | halt=>rw [hz] at h2; simp [Result.andThen] at h2
     ·simp at h2 ⊢;obtain ⟨rfl,rfl⟩:=h2;simp
    ·cases ok
     ·exact s
     ·exact .tp _ _ (λj=>(#[u,.bool t]:Array Ye).getD j undef) rfl (λj c g=>by match j with | 0=>simp | 1=>simp | j+2=>simp at g) (λj c g=>by
       match j,g with
       | 0,g=>simp at g; subst g; exact s
       | 1,g=>simp at g; subst g; exact .sc _ rfl
       | j+2,g=>simp at g)
   rcases kvL y w (l:=es.toList) (by simpa using X) C (λj x g=>by
    obtain ⟨e',p,h2,_⟩:=L j x g;exact ⟨e',by simpa using p,h2⟩) with ⟨p,h2⟩ | ⟨j,x,e',p,h2,s,F,h5⟩
   ·rw [p] at f;split at f
    ·rename_i G; cases G
    ·rename_i z _ hz;unfold zvO at hz;obtain ⟨Z,hi,hz⟩:=jaa.1 hz;exact fin (t:=false) h2 (by simp [zeroValue,typeInfo,hi,hz]) (VR.cst w O μ n z) f
    ·exact f.elim
   ·rw [p] at f;simp only at f;obtain ⟨G,S,q2,q3,q4,Y⟩:=L j x h2;have:G=e':=by rw [jcr] at s; rw [S] at s; cases s; rfl
    subst this;exact fin (t:=true) F (by simp) Y f
  ·exact f.elim
 ·exact f.elim
theorem map_set (hr:HR w O μ h n) {id b:Nat} {es es':Array MapEntry} {g kvs':Ya (Ye×AV)} {v:AV} {u:Ye} {k:Ye} (hB:h id=some (.map g)) (g1:μ id=some (b,0)) (E:w.heap[b]?=some (.map es g.length)) (I:∀ (i:Nat) (x:Ye×AV),g[i]?=some x->∃ e,es[i]?=some e/\e.key=x.1/\e.born=i/\x.2.vl=true/\VR w O μ n x.2 e.val)
  (j:v.vl=true) (B:VR w O μ n v u) (r:es'.size=kvs'.length)
  (m:∀ (i:Nat) (y:Ye×AV),kvs'[i]?=some y->(g[i]?=some y/\∃ e,es[i]?=some e/\es'[i]?=some e)\/(y=(k,v)/\∃ e,es'[i]?=some e/\e.key=k/\e.born=i/\e.val=u)) :
  Evo w μ n { w with heap:=w.heap.setIfInBounds b (.map es' kvs'.length) } μ n/\HR { w with heap:=w.heap.setIfInBounds b (.map es' kvs'.length) } O μ (updH h id (.map kvs')) n:=by
 have p:b<w.heap.size:=(hr.scope id b 0 g1).2;exact hr.set (w':={ w with heap:=w.heap.setIfInBounds b (.map es' kvs'.length) }) id b 0 g1 (.map kvs') rfl rfl rfl (by simp) (λi hi=>by simp [Ne.symm hi]) (λc T f s=>by rw [E] at s; cases s) (λz=>by
  refine ⟨b,es',g1,by simp [p],r,λi y hi=>?_⟩;rcases m i y hi with ⟨L,e,h2,l⟩ | ⟨rfl,e,h2,l,C,A⟩
  ·obtain ⟨e',t,F,G,J,H⟩:=I i y L;rw [h2] at t; cases t;exact ⟨e,l,F,G,J,H.evo z⟩
  ·exact ⟨e,h2,l,C,j,by rw [A]; exact B.evo z⟩)
theorem kxd {es:Array MapEntry} {b:Ya (Ye×AV)} (j:es.size=b.length) {k u:Ye} {v:AV} (i:Nat) (y:Ye×AV) (hi:(b++[(k,v)])[i]?=some y) :
  (b[i]?=some y/\∃ e,es[i]?=some e/\(es.push { key:=k,val:=u,born:=b.length })[i]?=some e)\/(y=(k,v)/\∃ e,(es.push { key:=k,val:=u,born:=b.length })[i]?=some e/\e.key=k/\e.born=i/\e.val=u):=by
 rw [jbm] at hi;split at hi
 ·rename_i g;exact .inl ⟨hi,es[i]'(by omega),jav _,by rw [Array.getElem?_push,if_neg (by omega)]; exact jav _⟩
 ·rename_i f;have c:i-b.length=0:=by
   rcases Nat.eq_zero_or_pos (i-b.length) with h | h
   ·exact h
   ·rw [jch (by simp; omega)] at hi; cases hi
  rw [c] at hi; simp at hi; subst hi;have:i=es.size:=by omega
  subst this;exact .inr ⟨rfl,{ key:=k,val:=u,born:=b.length },by simp,rfl,by simp [j],rfl⟩
theorem kob {es:Array MapEntry} {b:Ya (Ye×AV)} (r:es.size=b.length) {k u:Ye} {v:AV} {j:Nat} {e':MapEntry} (l:es[j]?=some e') (p:e'.born=j) (f:MapEntry->MapEntry) (g:(f e').key=k/\(f e').born=e'.born/\(f e').val=u) (i:Nat) (z:Ye×AV) (hi:(b.set j (k,v))[i]?=some z) :
  (b[i]?=some z/\∃ e,es[i]?=some e/\(es.modify j f)[i]?=some e)\/(z=(k,v)/\∃ e,(es.modify j f)[i]?=some e/\e.key=k/\e.born=i/\e.val=u):=by
 rw [jcy] at hi;split at hi
 ·rename_i c;subst c;split at hi
  ·cases hi;exact .inr ⟨rfl,f e',by rw [Array.getElem?_modify,if_pos rfl,l]; rfl,g.1,by rw [g.2.1,p],g.2.2⟩
  ·cases hi
 ·rename_i c;have m:=(jaf.1 hi).1;exact .inl ⟨hi,es[i]'(by omega),jav _,by rw [Array.getElem?_modify,if_neg c]; exact jav _⟩
theorem ktE {T:Yc} {m key x:Yf} (W:o.op = .mapUpdate T m key x) (hr:HR w O μ h n) {R L v:AV} (S:VR w O μ n R (a.eval m)) (u:VR w O μ n L (a.eval key)) (U:VR w O μ n v (a.eval x)) (c:kkr P h n T R L v K):OpR P o a w O μ n K:=by
 unfold kkr at c;split at c
 ·rename_i id k kt e G hT;split at c
  ·rename_i p hB;obtain ⟨f,E,s,c⟩:=c;obtain ⟨b,es,g1,r,t,H⟩:=hr.own_map hB;have F:=S.mp_inv g1;have C:=kst G u;have fin:∀ (es':Array MapEntry) (kvs':Ya (Ye×AV)),(Instr.mapUpdate T (.map (some b)) k (a.eval x)).run P w = .ok () { w with heap:=w.heap.setIfInBounds b (.map es' kvs'.length) }->es'.size=kvs'.length->
     (∀ (i:Nat) (y:Ye×AV),kvs'[i]?=some y->(p[i]?=some y/\∃ e,es[i]?=some e/\es'[i]?=some e)\/(y=(k,v)/\∃ e,es'[i]?=some e/\e.key=k/\e.born=i/\e.val=a.eval x))->K .ud (updH h id (.map kvs')) n->OpR P o a w O μ n K:=by
    intro es' kvs' z I J c;obtain ⟨Z,hh⟩:=map_set hr hB g1 r H s U I J;refine ⟨undef,_,μ,.ud,_,n,.inr ⟨?_,rfl⟩,c,hh,.ud,Z⟩;simp only [execOp,W,F,C,Sem.run_bind,z,Result.andThen_ok,Sem.run_pure]
   rcases kvL f w (l:=es.toList) (by simpa using t) E (λj x g=>by
    obtain ⟨e',A,h2,_⟩:=H j x g;exact ⟨e',by simpa using A,h2⟩) with ⟨A,h2⟩ | ⟨j,y,e',A,h2,h3,h4,h5⟩
   ·rw [A] at c;refine fin (es.push { key:=k,val:=a.eval x,born:=p.length }) _ ?_ (by simp [t]) (kxd t) c;simp [Instr.mapUpdate,run_underlying (kjv hT),MapKept.run_getObj_map r,koU f,h2,MapKept.run_setObj_map _ r]
   ·rw [A] at c;have g:es[j]?=some e':=by simpa using h3
    have X:=(jal.1 g).1;obtain ⟨e2,M,Y,q3,_⟩:=H j y h2;rw [g] at M; cases M;simp only at c h4;have B:e'.key=k:=by rw [Y,h5]
    refine fin (es.modify j λe=>{ e with key:=k,val:=a.eval x }) _ ?_ (by simp [t]) (kob t g q3 _ ⟨rfl,rfl,rfl⟩) c;simp [Instr.mapUpdate,run_underlying (kjv hT),MapKept.run_getObj_map r,koU f,h4,g,B,kxi f,MapKept.run_setObj_map _ r]
  ·exact c.elim
 ·exact c.elim
theorem tp2 {a b:AV} {u v:Ye} (f:VR w O μ n a u) (h2:VR w O μ n b v):VR w O μ n (.tp [a,b]) (.tuple #[u,v]):=
 .tp _ _ (λj=>(#[u,v]:Array Ye).getD j undef) rfl (λj c e=>by match j with | 0=>simp | 1=>simp | j+2=>simp at e) (λj c e=>by
  match j,e with
  | 0,e=>simp at e; subst e; exact f
  | 1,e=>simp at e; subst e; exact h2
  | j+2,e=>simp at e)
theorem kvF {T:Yc} {m key:Yf} (W:o.op = .mapEntry T m key) (hr:HR w O μ h n) {X R:AV} (hm:VR w O μ n X (a.eval m)) (C:VR w O μ n R (a.eval key)) (c:kmf P h n T X R K):OpR P o a w O μ n K:=by
 unfold kmf at c;split at c
 ·rename_i id k kt e L hT;split at c
  ·rename_i f hB;obtain ⟨g,I,c⟩:=c;obtain ⟨b,es,g1,r,A,G⟩:=hr.own_map hB;have t:=hm.mp_inv g1;have s:=kst L C;rcases kvL g w (l:=es.toList) (by simpa using A) I (λj x p=>by
    obtain ⟨e',F,h2,_⟩:=G j x p;exact ⟨e',by simpa using F,h2⟩) with ⟨F,h2⟩ | ⟨j,y,e',F,h2,h3,h4,h5⟩
   ·rw [F] at c;split at c
    ·rename_i U; cases U
    ·rename_i z _ hz;unfold zvO at hz;obtain ⟨ti,hi,hz⟩:=jaa.1 hz;obtain ⟨v,c⟩:=c;have J:(zeroValue e).run P w = .ok z w:=by simp [zeroValue,typeInfo,hi,hz]
     obtain ⟨B,M⟩:=map_set (es':=es.push { key:=k,val:=z,born:=f.length }) hr hB g1 r G v (VR.cst w O μ n z) (by simp [A]) (kxd A);refine ⟨.tuple #[z,goInt f.length],_,μ,_,_,n,.inl ?_,c,M,(tp2 (VR.cst w O μ n z) (.sc _ rfl)).evo B,B⟩;simp only [execOp,W,t,s];refine kaq ?_;simp [Instr.mapEntry,run_underlying (kjv hT),MapKept.run_getObj_map r,koU g,h2,J,MapKept.run_setObj_map _ r]
    ·exact c.elim
   ·rw [F] at c;have p:es[j]?=some e':=by simpa using h3
    have aa:=(jal.1 p).1;obtain ⟨U,S,q2,Y,q4,Z⟩:=G j y h2;rw [p] at S; cases S;have H:e'.key=k:=by rw [q2,h5]
    have hy:f.set j (k,y.2)=f:=by
     rw [<-h5];refine List.ext_getElem? λi=>?_;rw [jcy];split
     ·rename_i e; subst e;split
      ·exact h2.symm
      ·rename_i hn; exact absurd (jaf.1 h2).1 hn
     ·rfl
    have E:=map_set (kvs':=f.set j (k,y.2)) (es':=es.modify j λe=>{ e with key:=k }) (u:=e'.val) hr hB g1 r G q4 Z (by simp [A]) (kob A p Y _ ⟨rfl,rfl,rfl⟩);rw [hy] at E;obtain ⟨B,M⟩:=E;refine ⟨.tuple #[e'.val,goInt j],_,μ,_,_,n,.inl ?_,c,M,(tp2 Z (.sc _ rfl)).evo B,B⟩;simp only [execOp,W,t,s];refine kaq ?_;simp [Instr.mapEntry,run_underlying (kjv hT),MapKept.run_getObj_map r,koU g,h4,p,H,Y,kxi g,MapKept.run_setObj_map _ r]
  ·exact c.elim
 ·exact c.elim
theorem ksk {T:Yc} {m st x:Yf} (J:o.op = .entryStore T m st x) (hr:HR w O μ h n) {B vs v:AV} (G:VR w O μ n B (a.eval m)) (L:VR w O μ n vs (a.eval st)) (I:VR w O μ n v (a.eval x)) (c:kov h n B vs v K):OpR P o a w O μ n K:=by
 unfold kov at c;split at c
 ·rename_i id q i;split at c
  ·rename_i k hB;obtain ⟨U,l,y,H,c⟩:=c;obtain ⟨b,es,g1,s,C,z⟩:=hr.own_map hB;have p:=G.mp_inv g1;have A:=L.sc_inv;obtain ⟨e',r,M,E,Y,X⟩:=z _ y H;have g:=(jal.1 r).1;have f:es.findIdx? (λe=>(e.born:Int)==i)=some i.toNat:=by
    rw [Array.findIdx?_eq_some_iff_getElem];refine ⟨g,?_,λj W=>?_⟩
    ·have:es[i.toNat]=e':=by have:=r; rw [jav g] at this; exact Option.some.inj this
     rw [this,E]; simp; omega
    ·obtain ⟨t,u⟩:∃ t,k[j]?=some t:=⟨_,jae (by omega)⟩;obtain ⟨F,p1,_,p3,_⟩:=z j t u;have:es[j]=F:=by rw [jav (by omega)] at p1; exact Option.some.inj p1
     rw [this,p3]; simp; omega
   obtain ⟨R,S⟩:=map_set (kvs':=k.set i.toNat (y.1,v)) (es':=es.modify i.toNat λe=>{ e with val:=a.eval x }) hr hB g1 s z l I (by simp [C]) (kob C r E _ ⟨M,rfl,rfl⟩);refine ⟨undef,_,μ,.ud,_,n,.inr ⟨?_,rfl⟩,c,S,.ud,R⟩;simp [execOp,J,p,A,Instr.entryStore,MapKept.run_getObj_map s,asInt,asIntOf,f,MapKept.run_setObj_map _ s]
  ·exact c.elim
 ·exact c.elim
end
def kjD (b:Ya Int):Ya UInt8:=b.map λn=>UInt8.ofNat n.toNat
theorem kok:∀ (l:Ya Int) (r:ByteArray),l.foldl (λr n=>r.push (UInt8.ofNat n.toNat)) r=⟨r.data++(kjD l).toArray⟩
 | [],r=>by simp [kjD]
 | b::l,r=>by
  simp only [List.foldl_cons];rw [kok l];simp [ByteArray.push,kjD]
section
variable {P:Yd} {o:Oper} {a:Act} {w:World} {O:Nat->Prop} {μ:Mu} {h:AH} {n:Nat} {K:K3}
theorem kps {S T e:Yc} {x:Yf} {f:Ya Int} (H:o.op = .convert S T x) (hr:HR w O μ h n) (hS:elemO P S=some e) (C:P.underlying e=some (.int .u8)) (hT:P.underlying T=some .string)
  (A:VR w O μ n (.sl (f.map λi=>[.sc (.int .u8 i)])) (a.eval x)) (J:K (.sc (.string ⟨(kjD f).toArray⟩)) h n):OpR P o a w O μ n K:=by
 have hS':P.underlying S=some (.slice e):=by
  unfold elemO at hS; split at hS
  ·cases hS; assumption
  ·cases hS
 refine OpR.value hr (u:=.string ⟨(kjD f).toArray⟩) ?_ (.sc _ rfl) J;simp only [execOp,H];refine kaq ?_;have e0:ByteArray.empty.data = #[]:=rfl;have run:∀ (b:Addr) (c:Nat),(loadCells b f.length).run P w = .ok (f.map (Value.int .u8)).toArray w->(convert S T (.slice (some b) f.length c)).run P w = .ok (.string ⟨(kjD f).toArray⟩) w:=λb c hl=>by
  rw [run_convert_bytes_string w S T e (some b) _ c hS' C hT,run_bytesToString w b _ c f hl,kok,e0];simp
 generalize g:f.map (λi=>[AV.sc (.int .u8 i)])=es at A;generalize a.eval x=u at A;cases A with
 | slnil p=>
  obtain rfl:f=[]:=by simpa using g
  cases p with
  | none=>rw [run_convert_bytes_string w S T e none 0 0 hS' C hT]; rfl
  | some b=>exact run b 0 (by obtain ⟨R,M,L⟩:=b; exact run_loadCells_list w _ [] λj v t=>by simp at t)
 | sl _ b I cap k us B E hA y F U z=>
  have s:es.length=f.length:=by rw [<-g]; simp
  rw [s];refine run _ _ ?_;have:=kfv (P:=P) (w:=w) (b:=b) (o:=I) (vals:=f.map (Value.int .u8)) (m:=f.length) (λj v t=>?_) (by simp)
  ·exact this
  ·simp only [jas,jad] at t;obtain ⟨i,hi,rfl⟩:=t;have l:es[j]?=some [.sc (.int .u8 i)]:=by rw [<-g,jas,hi]; rfl
   have r:=y j _ l;simp at r;subst r;have h2:=F j _ l 0 _ rfl;have G:=(z j _ l 0 _ rfl).sc_inv;rw [G] at h2;simpa using h2
end
def HC (P:Yd) (f:FuncId) (args:Ya AV) (h:AH) (n:Nat) (R:K3):Prop:=
 (∃ fn,P.funcs[f]?=some fn/\fn.body.isSome=true/\(fn.name== "runtime.NumGoroutine")=false)/\
 ∀ (O:Nat->Prop) (μ:Mu) (w:World) (vs:Array Ye),HR w O μ h n->vs.size=args.length->(∀ (j:Nat) (c:AV),args[j]?=some c->∃ u,vs[j]?=some u/\VR w O μ n c u)->
  Calls P f vs w (λe w'=>∃ u v h' n' b,e = .returned u/\R v h' n'/\HR w' O b h' n'/\VR w' O b n' v u/\Evo w μ n w' b n')
theorem HC.mono {P:Yd} {f:FuncId} {args:Ya AV} {h:AH} {n:Nat} {R b:K3} (c:HC P f args h n R) (hr:∀ v h' n',R v h' n'->b v h' n'):HC P f args h n b:=
 ⟨c.1,λO μ w vs l h2 g=>(c.2 O μ w vs l h2 g).mono λ_ _ ⟨u,v,h',n',i,e,j,k⟩=>⟨u,v,h',n',i,e,hr _ _ _ j,k⟩⟩
def callK (P:Yd) (h:AH) (n:Nat) (f:AV) (args:Ya AV) (K:K3):Prop:=
 match f with
 | .fn g b=>HC P g (args++b) h n K
 | _=>False
def kcV (P:Yd) (h:AH) (T:Yc) (x i:AV) (K:AV->Prop):Prop:=
 match i with
 | .sc (.int _ i)=>match x with
  | .sl es=>match elemO P T with
   | some e=>0<=i/\∃ c,es[i.toNat]?=some c/\c.length=P.cellsOf e/\c.length≠0/\K (.fp c)
   | none=>False
  | .ms id off len=>match elemO P T,h id with
   | some e,some (.cells k _ _)=>0<=i/\i<len/\k=P.cellsOf e/\k≠0/\K (.own id (off+i.toNat) 0)
   | _,_=>False
  | .own id a j=>match arrO P T,h id with
   | some (m,e),some (.cells _ _ _)=>0<=i/\i<m/\P.cellsOf e≠0/\K (.own id a (j+i.toNat*P.cellsOf e))
   | _,_=>False
  | .fp cs=>match arrO P T with
   | some (m,e)=>0<=i/\i<m/\P.cellsOf e≠0/\K (.fp (cs.drop (i.toNat*P.cellsOf e)))
   | none=>False
  | _=>False
 | _=>False
def idxK (P:Yd) (T:Yc) (x i:AV) (K:AV->Prop):Prop:=
 match i with
 | .sc (.int _ i)=>match x with
  | .ag cs=>match arrO P T with
   | some (m,e)=>0<=i/\i<m/\P.cellsOf e≠0/\partK P e cs (i.toNat*P.cellsOf e) K
   | none=>False
  | .sc (.string s)=>P.underlying T=some .string/\0<=i/\∃ b,s[i.toNat]?=some b/\K (.sc (.int .u8 b.toNat))
  | _=>False
 | _=>False
def putAt (e:Ya AV) (j:Nat) (xs:Ya AV):Ya AV:=
 match xs with
 | [x]=>e.set j x
 | xs=>e.take j++xs++e.drop (j+xs.length)
theorem kbY {e:Ya AV} {j:Nat} {xs:Ya AV} (h:j+xs.length<=e.length):putAt e j xs=e.take j++xs++e.drop (j+xs.length):=by
 unfold putAt;split
 ·simp only [List.length_singleton] at h;rw [List.set_eq_take_append_cons_drop,if_pos (by omega)];simp
 ·rfl
def kcd (P:Yd) (h:AH) (n:Nat) (T:Yc) (p x:AV) (K:K3):Prop:=
 match p with
 | .own id i j=>match h id,kaI x with
  | some (.cells k T' es),some xs=>match es[i]? with
   | some e=>xs.length=P.cellsOf T/\xs.length≠0/\j+xs.length<=e.length/\K .ud (updH h id (.cells k T' (es.set i (putAt e j xs)))) n
   | none=>False
  | _,_=>False
 | _=>False
def liveA (h:AH):AV->Bool
 | .fp _ | .fn _ _=>true
 | .own id _ _=>isCells (h id)
 | _=>false
def kai (P:Yd) (env:Env) (h:AH) (n:Nat) (b:Builtin) (args:Array Yf) (ts:Array Yc) (K:K3):Prop:=
 match b,args.toList,ts.toList with
 | .len,[x],[T]=>lenK P h T (ev env x) λm=>K (.sc (.int .i64 m)) h n
 | .append,[s,x],[T,T2]=>kcf P h n T T2 (ev env s) (ev env x) K
 | .copy,[d,x],[T,T2]=>copyK P h n T (ev env d) (ev env x) K
 | .min,[x,y],_=>match ev env x,ev env y with
  | .sc (.int k i),.sc (.int k' j)=>k=k'/\K (.sc (.int k (if j<i then j else i))) h n
  | _,_=>False
 | .max,[x,y],_=>match ev env x,ev env y with
  | .sc (.int k i),.sc (.int k' j)=>k=k'/\K (.sc (.int k (if i<j then j else i))) h n
  | _,_=>False
 | .min,[x,y,q],_=>match ev env x,ev env y,ev env q with
  | .sc (.int k i),.sc (.int k' j),.sc (.int k'' l)=>(k=k'/\k=k'')/\K (.sc (.int k (if l<(if j<i then j else i) then l else (if j<i then j else i)))) h n
  | _,_,_=>False
 | .max,[x,y,q],_=>match ev env x,ev env y,ev env q with
  | .sc (.int k i),.sc (.int k' j),.sc (.int k'' l)=>(k=k'/\k=k'')/\K (.sc (.int k (if (if i<j then j else i)<l then l else (if i<j then j else i)))) h n
  | _,_,_=>False
 | _,_,_=>False
def convK (P:Yd) (S T:Yc) (x:AV) (K:AV->Prop):Prop:=
 match x with
 | .sc (.int _ i)=>match intO P T with
  | some b=>(P.underlying S).isSome=true/\K (.sc (.int b (b.wrap i)))
  | none=>∃ v,(∀ k w,(convert S T (.int k i)).run P w = .ok v w)/\v.oneCell'=true/\K (.sc v)
 | .sc u=>∃ v,(∀ w,(convert S T u).run P w = .ok v w)/\v.oneCell'=true/\K (.sc v)
 | .sl es=>(∃ e,elemO P S=some e/\P.underlying e=some (.int .u8))/\P.underlying T=some .string/\∃ c:Ya Int,es=c.map (λi=>[.sc (.int .u8 i)])/\K (.sc (.string ⟨(kjD c).toArray⟩))
 | _=>False
def unK (c:UnOp) (x:AV) (K:AV->Prop):Prop:=
 match c,x with
 | .not,.sc (.bool b)=>K (.sc (.bool (!b)))
 | .neg,.sc (.int k i)=>K (.sc (.int k (k.wrap (0-i))))
 | _,_=>False
def aop (P:Yd) (env:Env) (h:AH) (n:Nat) (o:Oper) (K:K3):Prop:=
 match o.op with
 | .move x=>K (ev env x) h n
 | .assign x=>K (ev env x) h n
 | .pick c a b=>match ev env c with
  | .sc (.bool t)=>K (if t then ev env a else ev env b) h n
  | _=>False
 | .alloc T=>match zeroO P T with
  | some z=>K (.own n 0 0) (updH h n (.cells z.length T [z])) (n+1)
  | none=>False
 | .box T x=>match kaI (ev env x) with
  | some cs=>K (.own n 0 0) (updH h n (.cells cs.length T [cs])) (n+1)
  | none=>False
 | .load T x=>match deref h (ev env x) with
  | some cs=>loadK P h n T cs K
  | none=>False
 | .store T p x=>kcd P h n T (ev env p) (ev env x) K
 | .nilCheck x=>liveA h (ev env x)=true/\K (ev env x) h n
 | .binOp l T x y _=>abin P h l T (ev env x) (ev env y) λv=>K v h n
 | .unOp l _ x=>unK l (ev env x) λv=>K v h n
 | .convert S T x=>convK P S T (ev env x) λv=>K v h n
 | .makeFunc (.func f) first caps=>first = #[]/\K (.fn f (caps.toList.map (ev env))) h n
 | .makeSlice T x y=>match elemO P T with
  | some e=>match zeroO P e,ev env x,ev env y with
   | some z,.sc (.int _ i),.sc (.int _ j)=>i=j/\0<=i/\i<=1048576/\P.bytesOf e<=1024/\z≠[]/\K (.ms n 0 i.toNat) (updH h n (.cells z.length e (List.replicate i.toNat z))) (n+1)
   | _,_,_=>False
  | none=>False
 | .slice T x lo hi none=>kfp P h T (ev env x) (lo.map (ev env)) (hi.map (ev env)) λv=>K v h n
 | .fieldAddr T x f=>match fldO P T f with
  | some (d,_)=>match ev env x with
   | .fp cs=>K (.fp (cs.drop d)) h n
   | .own id i j=>isCells (h id)=true/\K (.own id i (j+d)) h n
   | _=>False
  | none=>False
 | .field T x f=>match fldO P T f,ev env x with
  | some (d,t),.ag cs=>partK P t cs d λv=>K v h n
  | _,_=>False
 | .indexAddr T x i=>kcV P h T (ev env x) (ev env i) λv=>K v h n
 | .index T x i=>idxK P T (ev env x) (ev env i) λv=>K v h n
 | .extract x i=>match ev env x with
  | .tp cs=>∃ c,cs[i]?=some c/\K c h n
  | _=>False
 | .build T g=>match zeroO P T,kkn P T with
  | some z,some pl=>match fillS pl env g.toList z with
   | some cs=>K (.ag cs) h n
   | none=>False
  | _,_=>False
 | .buildSlice T len g=>match elemO P T with
  | some e=>match zeroO P e with
   | some z=>len<=1000/\z.length<=1000/\match fillE z.length env g.toList (List.replicate len z) with
    | some es=>K (.ms n 0 len) (updH h n (.cells z.length e es)) (n+1)\/K (.sl es) h n\/(len=0/\K .e0 h n)
    | none=>False
   | none=>False
  | none=>False
 | .makeMap T none=>K (.mp n) (updH h n (.map [])) (n+1)
 | .lookup T m k ok=>khR P h T (ev env m) (ev env k) ok λv=>K v h n
 | .mapUpdate T m k x=>kkr P h n T (ev env m) (ev env k) (ev env x) K
 | .mapEntry T m k=>kmf P h n T (ev env m) (ev env k) K
 | .entryStore T m st x=>kov h n (ev env m) (ev env st) (ev env x) K
 | .range T x=>koK P h n T (ev env x) K
 | .next x true=>nextK h n (ev env x) K
 | .call c=>match c.callee with
  | .builtin b=>kai P env h n b c.args c.argTypes K
  | .value f=>callK P h n (ev env f) (c.args.toList.map (ev env)) K
  | .invoke _ _=>False
 | _=>False
section
variable {P:Yd} {o:Oper} {a:Act} {w:World} {O:Nat->Prop} {μ:Mu} {h:AH} {n:Nat} {K:K3} {env:Env}
theorem kqV {a:Act} {x:Next} {w':World} (h:(execOp a.eval o).run P w = .ok x w') (g:∀ d,x≠.defer d):∀ c,o.op≠.defer c:=λc f=>by
 unfold execOp at h;rw [f] at h;simp only [Sem.run_bind] at h;cases hr:(resolve a.eval c o.type).run P w with
 | ok d b=>rw [hr] at h; simp only [Result.andThen_ok,Sem.run_pure,Result.ok.injEq] at h; exact g d h.1.symm
 | halt e b=>rw [hr] at h; simp [Result.andThen] at h
def OpW (P:Yd) (o:Oper) (a:Act) (w:World) (O:Nat->Prop) (μ:Mu) (n:Nat) (K:K3):Prop:=
 ∀ (ro:Yb Nat) (next:Act->World->Prop) (Q:Exit->Act->World->Prop),(∀ u w' b v h' n',K v h' n'->HR w' O b h' n'->VR w' O b n' v u->Evo w μ n w' b n'->next (a.put o.dst u) w')->o.wpIn (FF ro) 0 P a w next Q
theorem OpR.toW (hR:OpR P o a w O μ n K):OpW P o a w O μ n K:=by
 obtain ⟨u,w',f,v,h',n',b,i,g,h2,c⟩:=hR;intro ro next Q hn
 unfold Oper.wpIn;refine ⟨λ_ _=>trivial,?_⟩;rcases b with b | ⟨b,rfl⟩
 ·rw [Oper.semAt_eq _ _ _ (kqV b λd e=>by cases e),b,Oper.uponIn_value]; exact hn u w' f v h' n' i g h2 c
 ·rw [Oper.semAt_eq _ _ _ (kqV b λd e=>by cases e),b,Oper.uponIn_skip]; exact hn undef w' f v h' n' i g h2 c
theorem kzI {c:Call} {f:Yf} (M:o.op = .call c) (L:c.callee = .value f) (hr:HR w O μ h n) (F:∀ x,VR w O μ n (ev env x) (a.eval x)) (p:callK P h n (ev env f) (c.args.toList.map (ev env)) K):OpW P o a w O μ n K:=by
 intro ro next Q hn
 unfold callK at p;have m:=F f;generalize X:a.eval f=u at m;split at p
 ·rename_i g G r;rw [r] at m;obtain ⟨⟨fn,B,i,b⟩,p⟩:=p;cases m with
  | fn _ _ vs us S I z=>
   have k:(execOp a.eval o).run P w = .ok (.enter g (c.args.map a.eval++vs)) w:=by
    have Y:fn.body≠none:=by intro E; rw [E] at i; cases i
    have s:fn.name≠ "runtime.NumGoroutine":=by intro A; rw [A] at b; simp at b
    simp [execOp,M,resolve,L,X,Deferred.ofValue,invoke,callFunc,B,s,Y]
   unfold Oper.wpIn;refine ⟨λ_ _=>trivial,?_⟩;rw [Oper.semAt_eq _ _ _ (kqV k λd e=>by cases e),k,Oper.uponIn_enter];refine ⟨(λe=>by cases e),callsIn_FF.2 ?_⟩;refine (p O μ w _ hr (by simp [S]) (λj x l=>?_)).mono ?_
   ·rw [jbm] at l;rw [Array.getElem?_append];simp only [jaq,jco,Array.size_map] at l ⊢;split at l
    ·rename_i C;rw [if_pos C];simp only [jas,jad,jcr] at l;obtain ⟨y,H,rfl⟩:=l;exact ⟨a.eval y,by simp [H],F y⟩
    ·rename_i t;rw [if_neg t];exact ⟨_,I _ x l,z _ x l⟩
   ·rintro e w' ⟨u',v,h',n',R,rfl,J,T,U,W⟩;exact hn u' w' R v h' n' J T U W
 ·exact p.elim
theorem koz (g:aop P env h n o K) (hr:HR w O μ h n) (B:∀ x,VR w O μ n (ev env x) (a.eval x)):OpW P o a w O μ n K:=by
 unfold aop at g;split at g
 ·rename_i x A; exact (ktR (.inl A) hr (B x) g).toW
 ·rename_i x A; exact (ktR (.inr A) hr (B x) g).toW
 ·rename_i c x y A;split at g
  ·rename_i t U; have:=B c; rw [U] at this; exact (kzO A hr this (B x) (B y) g).toW
  ·exact g.elim
 ·rename_i T A;split at g
  ·rename_i z hz; exact (kyG A hr hz g).toW
  ·exact g.elim
 ·rename_i T x A;split at g
  ·rename_i cs U; exact (kAu A hr (B x) U g).toW
  ·exact g.elim
 ·rename_i T x A;split at g
  ·rename_i cs U; exact (kzG A hr (B x) U g).toW
  ·exact g.elim
 ·rename_i T p x A;unfold kcd at g;split at g
  ·rename_i id i j hp;split at g
   ·rename_i k T' es xs hB C;split at g
    ·rename_i e I;obtain ⟨G,h2,h3,g⟩:=g;have:=B p; rw [hp] at this;rw [kbY h3] at g;exact (kyk A hr this hB I (B x) C G h2 h3 g).toW
    ·exact g.elim
   ·exact g.elim
  ·exact g.elim
 ·rename_i x A;obtain ⟨hl,g⟩:=g;have C:=B x;generalize ev env x=v at *
  cases v <;> simp only [liveA,jai] at hl
  ·obtain ⟨k,T,es,hB⟩:=kkH hl; exact (kqh A hr hB C g).toW
  ·exact (kra A hr C g).toW
  ·exact (krK A hr C g).toW
 ·rename_i op T x y T2 A; exact (kye A hr (B x) (B y) g).toW
 ·rename_i op T x A;unfold unK at g;split at g
  ·rename_i b C; have:=B x; rw [C] at this; exact (kAv T A hr this g).toW
  ·rename_i k i C; have:=B x; rw [C] at this; exact (kAW T A hr this g).toW
  ·exact g.elim
 ·rename_i S T x A;unfold convK at g;split at g
  ·rename_i k i C;have r:=B x; rw [C] at r;split at g
   ·rename_i k' hT; exact (krF A hr g.1 hT r g.2).toW
   ·obtain ⟨v,G,h2,g⟩:=g; exact (kmg A hr r (G k) h2 g).toW
  ·rename_i u C aa;have r:=B x; rw [aa] at r;obtain ⟨v,G,h2,g⟩:=g; exact (kmg A hr r G h2 g).toW
  ·rename_i es C;have r:=B x; rw [C] at r;obtain ⟨⟨e,G,h2⟩,h3,ns,rfl,g⟩:=g;exact (kps A hr G h2 h3 r g).toW
  ·exact g.elim
 ·rename_i f first ac A
  obtain ⟨rfl,g⟩:=g;exact (ktO A hr B g).toW
 ·rename_i T x y A;split at g
  ·rename_i e I;split at g
   ·rename_i z k i k' j hz C W;obtain ⟨rfl,J,G,hb,Z,g⟩:=g;have r:=B x; rw [C] at r;have E:=B y; rw [W] at E;exact (ktx A hr I hz Z r E J G hb g).toW
   ·exact g.elim
  ·exact g.elim
 ·rename_i T x lo hi A; exact (kyH A hr B g).toW
 ·rename_i T x f A;split at g
  ·rename_i d t M;have r:=B x;split at g
   ·rename_i cs C; rw [C] at r; exact (kqI A hr M r g).toW
   ·rename_i id i j C;rw [C] at r;obtain ⟨hB,g⟩:=g;obtain ⟨k,T',es,hB⟩:=kkH hB;exact (kpg A hr M hB r g).toW
   ·exact g.elim
  ·exact g.elim
 ·rename_i T x f A;split at g
  ·rename_i d t cs M C;have r:=B x; rw [C] at r;exact (kyj A hr M r g).toW
  ·exact g.elim
 ·rename_i T x i A;unfold kcV at g;split at g
  ·rename_i k i' hi;have H:=B i; rw [hi] at H;have r:=B x;split at g
   ·rename_i es C;rw [C] at r;split at g
    ·rename_i e I;obtain ⟨J,c,U,hl,Z,g⟩:=g;exact (kqz A hr I r H J U hl Z g).toW
    ·exact g.elim
   ·rename_i id off len C;rw [C] at r;split at g
    ·rename_i e k T' es I hB;obtain ⟨J,G,h2,h3,g⟩:=g;exact (kqg A hr I hB h2 h3 r H J G g).toW
    ·exact g.elim
   ·rename_i id i0 j0 C;rw [C] at r;split at g
    ·rename_i m e k T' es I hB;obtain ⟨J,G,h2,g⟩:=g;exact (kmq A hr I h2 hB r H J G g).toW
    ·exact g.elim
   ·rename_i cs C;rw [C] at r;split at g
    ·rename_i m e I;obtain ⟨J,G,h2,g⟩:=g;exact (kmQ A hr I h2 r H J G g).toW
    ·exact g.elim
   ·exact g.elim
  ·exact g.elim
 ·rename_i T x i A;unfold idxK at g;split at g
  ·rename_i k i' hi;have H:=B i; rw [hi] at H;have r:=B x;split at g
   ·rename_i cs C;rw [C] at r;split at g
    ·rename_i m e I;obtain ⟨J,G,h2,g⟩:=g;exact (ktN A hr I h2 r H J G g).toW
    ·exact g.elim
   ·rename_i s C;rw [C] at r;obtain ⟨hT,J,b,hb,g⟩:=g;exact (ktG A hr hT r H J hb g).toW
   ·exact g.elim
  ·exact g.elim
 ·rename_i x i A;split at g
  ·rename_i cs C;obtain ⟨c,U,g⟩:=g;have r:=B x; rw [C] at r;exact (kwf A hr r U g).toW
  ·exact g.elim
 ·rename_i T Y A;split at g
  ·rename_i z pl hz hp;split at g
   ·rename_i cs M; exact (kyR A hr B hz hp M g).toW
   ·exact g.elim
  ·exact g.elim
 ·rename_i T len Y A;split at g
  ·rename_i e I;split at g
   ·rename_i z hz;obtain ⟨G,h2,g⟩:=g;split at g
    ·rename_i es M;rcases g with g | g | ⟨rfl,g⟩
     ·exact (ksC A hr I B hz G h2 M g).toW
     ·exact (krg A hr I B hz G h2 M g).toW
     ·exact (krj A hr I B hz h2 M g).toW
    ·exact g.elim
   ·exact g.elim
  ·exact g.elim
 ·rename_i T A; exact (kwb A hr g).toW
 ·rename_i T m k ok A; exact (kxV A hr (B m) (B k) g).toW
 ·rename_i T m k x A; exact (ktE A hr (B m) (B k) (B x) g).toW
 ·rename_i T m k A; exact (kvF A hr (B m) (B k) g).toW
 ·rename_i T m st x A; exact (ksk A hr (B m) (B st) (B x) g).toW
 ·rename_i T x A; exact (kyN A hr (B x) g).toW
 ·rename_i x A; exact (kzE A hr (B x) g).toW
 ·rename_i c A;split at g
  ·rename_i b hb;unfold kai at g;obtain ⟨callee,args,ts⟩:=c;simp only at hb g;subst hb;have F:∀ {α:Type} {xs:Array α} {l:Ya α},xs.toList=l->xs=l.toArray:=λh=>by rw [<-h]
   split at g
   ·rename_i x T L ht;rw [F L,F ht] at A;exact (kAz A hr (B x) g).toW
   ·rename_i s x T T2 L ht;rw [F L,F ht] at A;exact (kxH A hr (B s) (B x) g).toW
   ·rename_i d x T T2 L ht;rw [F L,F ht] at A;exact (kAb A hr (B d) (B x) g).toW
   ·rename_i X x y L;rw [F L] at A;split at g
    ·rename_i k i k' j C W;obtain ⟨rfl,g⟩:=g;have r:=B x; rw [C] at r;have E:=B y; rw [W] at E;exact ((krq hr r E).1 A g).toW
    ·exact g.elim
   ·rename_i X x y L;rw [F L] at A;split at g
    ·rename_i k i k' j C W;obtain ⟨rfl,g⟩:=g;have r:=B x; rw [C] at r;have E:=B y; rw [W] at E;exact ((krq hr r E).2 A g).toW
    ·exact g.elim
   ·rename_i X x y q L;rw [F L] at A;split at g
    ·rename_i k i k' j ab l C W hq;obtain ⟨⟨rfl,rfl⟩,g⟩:=g;have r:=B x; rw [C] at r;have E:=B y; rw [W] at E;have R:=B q; rw [hq] at R;exact ((kpB hr r E R).1 A g).toW
    ·exact g.elim
   ·rename_i X x y q L;rw [F L] at A;split at g
    ·rename_i k i k' j ab l C W hq;obtain ⟨⟨rfl,rfl⟩,g⟩:=g;have r:=B x; rw [C] at r;have E:=B y; rw [W] at E;have R:=B q; rw [hq] at R;exact ((kpB hr r E R).2 A g).toW
    ·exact g.elim
   ·exact g.elim
  ·rename_i f M; exact kzI A M hr B g
  ·exact g.elim
 ·exact g.elim
end
end Go.Abs
