/- The machinery, part 1. -/
import Derived.WalkKit
import Derived.Lib.ItoaNum
import Derived.OrdersIn
import Derived.RangeFuncRecord
import Derived.RangeFuncLeaves
import Derived.Laws.Cover1
import Derived.Laws.Cover3
import Derived.Laws.StructEq
import Derived.ChangeKeysEq
import Derived.MapKept
import Derived.Maps.RangeRun
import Derived.Laws.RangeString
import Derived.Laws.BytesString
set_option linter.constructorNameAsVariable false
set_option linter.unusedVariables false
set_option linter.unusedSimpArgs false
set_option linter.unusedSectionVars false
abbrev Ya:=List
abbrev Yb:=Option
abbrev Yc:=Go.TypeId
abbrev Yd:=Go.Value
abbrev Ye:=Go.Program
abbrev Yf:=Go.Operand
abbrev jaa:=@Option.bind_eq_some_iff
abbrev jab:=@Option.bind_some
abbrev jac:=@Option.map_eq_some_iff
abbrev jad:=@Bool.and_eq_true
abbrev jae:=@List.getElem?_eq_some_iff
abbrev jaf:=@List.getElem?_eq_getElem
abbrev jag:=@Array.getD_eq_getD_getElem?
abbrev jah:=@Nat.le_refl
abbrev jai:=@List.mem_of_getElem?
abbrev jaj:=@Array.getElem?_eq_some_iff
abbrev jak:=@decide_eq_true_eq
abbrev jal:=@Bool.false_eq_true
abbrev jam:=@Int.toNat_natCast
abbrev jan:=@Option.isSome_iff_exists
abbrev jao:=@Array.getElem?_eq_getElem
abbrev jap:=@List.all_eq_true
abbrev jaq:=@List.getElem?_append_left
abbrev jar:=@Nat.lt_of_lt_of_le
abbrev jas:=@List.getElem?_map
abbrev jat:=@List.map_cons
abbrev jau:=@List.getElem?_drop
abbrev jav:=@List.nil_append
abbrev jaw:=@List.append_assoc
abbrev jax:=@List.length_append
abbrev jay:=@List.mem_append
abbrev jaz:=@List.take_of_length_le
abbrev jba:=@List.mem_map
abbrev jbb:=@List.length_map
abbrev jbc:=@Bool.eq_false_or_eq_true
abbrev jbd:=@List.drop_eq_getElem_cons
abbrev jbe:=@Bool.or_eq_true
abbrev jbf:=@List.append_nil
abbrev jbg:=@List.drop_eq_nil_of_le
abbrev jbh:=@List.length_take
abbrev jbi:=@List.mem_cons
abbrev jbj:=@List.getElem?_append_right
abbrev jbk:=@Nat.lt_succ_self
abbrev jbl:=@List.mem_iff_getElem?
abbrev jbm:=@List.mem_cons_of_mem
abbrev jbn:=@List.getElem?_set_ne
abbrev jbo:=@List.foldl_cons
abbrev jbp:=@Nat.le_succ
abbrev jbq:=@List.any_eq_true
abbrev jbr:=@Bool.not_eq_true'
abbrev jbs:=@List.getElem?_take
abbrev jbt:=@List.length_cons
abbrev jbu:=@List.getElem?_append
abbrev jbv:=@Nat.mul_le_mul_right
abbrev jbw:=@List.contains_iff_mem
abbrev jbx:=@List.eq_nil_of_length_eq_zero
abbrev jby:=@List.getElem?_set_self
abbrev jbz:=@Nat.lt_or_ge
abbrev jca:=@List.getElem?_toArray
abbrev jcb:=@Option.map_some
abbrev jcc:=@Option.getD_some
abbrev jcd:=@List.getElem?_eq_none
abbrev jce:=@Nat.zero_add
abbrev jcf:=@Nat.add_mul
abbrev jcg:=@Array.length_toList
abbrev jch:=@List.getElem?_cons_succ
abbrev jci:=@List.getElem?_cons_zero
abbrev jcj:=@Array.all_eq_true_iff_forall_mem
abbrev jck:=@List.take_succ_eq_append_getElem
abbrev jcl:=@Nat.le_trans
abbrev jcm:=@List.ext_getElem?
abbrev jcn:=@List.mem_filterMap
abbrev jco:=@List.drop_zero
abbrev jcp:=@List.filterMap_cons
abbrev jcq:=@List.length_set
abbrev jcr:=@List.map_append
abbrev jcs:=@Array.getElem?_toList
abbrev jct:=@List.zipIdx_cons
abbrev jcu:=@Option.any_eq_true
abbrev jcv:=@Bool.not_eq_true
abbrev jcw:=@List.isEmpty_iff
abbrev jcx:=@Array.getElem?_setIfInBounds_ne
abbrev jcy:=@List.eq_nil_iff_forall_not_mem
abbrev jcz:=@List.getElem?_replicate
abbrev jda:=@Bool.false_or
abbrev jdb:=@List.length_drop
abbrev jdc:=@Option.ite_none_right_eq_some
abbrev jdd:=@List.mem_of_mem_take
abbrev jde:=@List.getElem?_of_mem
abbrev jdf:=@List.mem_of_mem_drop
abbrev jdg:=@List.nodup_cons
abbrev jdh:=@List.getElem_mem
abbrev jdi:=@List.take_zero
abbrev jdj:=@List.cons_append
abbrev jdk:=@Nat.le_succ_of_le
abbrev jdl:=@List.mem_iff_getElem
abbrev jdm:=@Nat.min_eq_left
abbrev jdn:=@List.length_nil
abbrev jdo:=@List.drop_append_of_le_length
abbrev jdp:=@Option.bind_none
abbrev jdq:=@Nat.zero_le
abbrev jdr:=@List.map_eq_nil_iff
abbrev jds:=@Int.le_refl
abbrev jdt:=@List.map_nil
abbrev jdu:=@List.getElem?_take_of_lt
abbrev jdv:=@List.take_append_drop
abbrev jdw:=@List.mapM_cons
abbrev jdx:=@List.all_cons
abbrev jdy:=@List.mem_filter
abbrev jdz:=@List.mem_cons_self
abbrev jea:=@Bool.or_eq_false_iff
abbrev jeb:=@Array.getElem?_eq_none
abbrev jec:=@List.mem_range
abbrev jed:=@Option.isNone_iff_eq_none
abbrev jee:=@Nat.lt_succ_of_lt
abbrev jef:=@Nat.add_assoc
namespace Go.Abs
open Go Go.RowKit
inductive AV where
 | sc (v:Value)
 | ud
 | un
 | e0
 | own (id i j:Nat)
 | ms (id off len:Nat)
 | mp (id:Nat)
 | fp (cs:List AV)
 | sl (es:List (List AV))
 | fn (f:FuncId) (caps:List AV)
 | ag (cs:List AV)
 | tp (vs:List AV)
 | gs (es:List (List AV))
def AV.one:AV->Bool
 | .ud | .un | .ag _ | .tp _ | .gs _=>false
 | .sc v=>v.oneCell'
 | _=>true
def AV.vl:AV->Bool
 | .ag _=>true
 | v=>v.one
abbrev Mu:=Nat->Option (Nat×Nat)
def Av (O:Nat->Prop) (μ:Mu) (b:Nat):Prop:=O b\/∃ id k,μ id=some (b,k)
def MsAt (w:World) (b k off len:Nat) (v:Yd):Prop:=
 ∃ o cap c T,v = .slice (some ⟨b,o,none⟩) len cap/\len<=cap/\cap<=maxLen/\(cap≠0->o=off*k)/\w.heap[b]?=some (.cells c T (0,0))/\(off+cap)*k=c.size
inductive VR (w:World) (O:Nat->Prop) (μ:Mu) (n:Nat):AV->Value->Prop where
 | sc (v:Value) (h:v.oneCell'=true):VR w O μ n (.sc v) v
 | ud:VR w O μ n .ud undef
 | un (v:Value):VR w O μ n .un v
 | gs (es:List (List AV)):VR w O μ n (.gs es) undef
 | e0 (p:Option Addr):VR w O μ n .e0 (.slice p 0 0)
 | own (id i j:Nat) (v:Value) (h:id<n) (h1:v.oneCell'=true) (hv:∀ b k,μ id=some (b,k)->v = .pointer (some ⟨b,i*k+j,none⟩)):VR w O μ n (.own id i j) v
 | ms (id off len:Nat) (v:Value) (h:id<n) (h1:v.oneCell'=true) (hv:∀ b k,μ id=some (b,k)->MsAt w b k off len v):VR w O μ n (.ms id off len) v
 | mp (id:Nat) (v:Value) (h:id<n) (h1:v.oneCell'=true) (hv:∀ b k,μ id=some (b,k)->v = .map (some b)):VR w O μ n (.mp id) v
 | fp (cs:List AV) (b o:Nat) (us:Nat->Value) (hA:cs≠[]->¬ Av O μ b)
   (hc:∀ (j:Nat) (c:AV),cs[j]?=some c->w.cell? ⟨b,o+j,none⟩=some (us j)) (h1:∀ (j:Nat) (c:AV),cs[j]?=some c->c.one=true)
   (hr:∀ (j:Nat) (c:AV),cs[j]?=some c->VR w O μ n c (us j)):VR w O μ n (.fp cs) (.pointer (some ⟨b,o,none⟩))
 | slnil (p:Option Addr):VR w O μ n (.sl []) (.slice p 0 0)
 | sl (es:List (List AV)) (b o cap k:Nat) (us:Nat->Nat->Value) (hcap:es.length<=cap) (hmax:cap<=maxLen) (hA:∀ (i:Nat) (e:List AV),es[i]?=some e->e≠[]->¬ Av O μ b)
   (hk:∀ (i:Nat) (e:List AV),es[i]?=some e->e.length=k)
   (hc:∀ (i:Nat) (e:List AV),es[i]?=some e->∀ (j:Nat) (c:AV),e[j]?=some c->w.cell? ⟨b,o+i*k+j,none⟩=some (us i j)) (h1:∀ (i:Nat) (e:List AV),es[i]?=some e->∀ (j:Nat) (c:AV),e[j]?=some c->c.one=true)
   (hr:∀ (i:Nat) (e:List AV),es[i]?=some e->∀ (j:Nat) (c:AV),e[j]?=some c->VR w O μ n c (us i j)):VR w O μ n (.sl es) (.slice (some ⟨b,o,none⟩) es.length cap)
 | fn (f:FuncId) (caps:List AV) (vs:Array Value) (us:Nat->Value) (hs:vs.size=caps.length) (hc:∀ (j:Nat) (c:AV),caps[j]?=some c->vs[j]?=some (us j))
   (hr:∀ (j:Nat) (c:AV),caps[j]?=some c->VR w O μ n c (us j)):VR w O μ n (.fn f caps) (.func (.func f) #[] vs)
 | ag (cs:List AV) (vs:Array Value) (us:Nat->Value) (hs:vs.size=cs.length) (hc:∀ (j:Nat) (c:AV),cs[j]?=some c->vs[j]?=some (us j)) (h1:∀ (j:Nat) (c:AV),cs[j]?=some c->c.one=true)
   (hr:∀ (j:Nat) (c:AV),cs[j]?=some c->VR w O μ n c (us j)):VR w O μ n (.ag cs) (.agg vs)
 | tp (cs:List AV) (vs:Array Value) (us:Nat->Value) (hs:vs.size=cs.length) (hc:∀ (j:Nat) (c:AV),cs[j]?=some c->vs[j]?=some (us j))
   (hr:∀ (j:Nat) (c:AV),cs[j]?=some c->VR w O μ n c (us j)):VR w O μ n (.tp cs) (.tuple vs)
abbrev Blw (w w':World):Prop:=Below w.heap.size w w'/\w.drawn<=w'.drawn
theorem Blw.refl (w:World):Blw w w:=⟨.refl _ _,jah _⟩
structure Evo (w:World) (μ:Mu) (n:Nat) (w':World) (μ':Mu) (n':Nat):Prop where
 os:w'.os=w.os
 tape:w'.tape=w.tape
 output:w'.output=w.output/\w.drawn<=w'.drawn
 size:w.heap.size<=w'.heap.size
 le:n<=n'
 keep:∀ b,b<w.heap.size->(∀ id k,μ id≠some (b,k))->w'.heap[b]?=w.heap[b]?
 row:∀ (b:Nat) c T f,w.heap[b]?=some (.cells c T f)->(∃ id k,μ' id=some (b,k))->∃ c',w'.heap[b]?=some (.cells c' T f)/\c'.size=c.size
 ids:∀ id,id<n->μ' id = μ id\/μ' id=none
 new:∀ id b k,μ' id=some (b,k)->n<=id->w.heap.size<=b\/∃ id0 k0,μ id0=some (b,k0)
theorem Evo.refl (w:World) (μ:Mu) (n:Nat) (e:∀ id b k,μ id=some (b,k)->id<n):Evo w μ n w μ n:=
 ⟨rfl,rfl,⟨rfl,jah _⟩,jah _,jah _,λ_ _ _=>rfl,λ_ c _ _ h _=>⟨c,h,rfl⟩,λ_ _=>.inl rfl,λid b k h hn=>absurd (e id b k h) (by omega)⟩
theorem Evo.trans {w r t:World} {μ s u:Mu} {n n1 v:Nat} (h:Evo w μ n r s n1) (g:Evo r s n1 t u v):Evo w μ n t u v where
 os:=g.os.trans h.os
 tape:=g.tape.trans h.tape
 output:=⟨g.output.1.trans h.output.1,jcl h.output.2 g.output.2⟩
 size:=jcl h.size g.size
 le:=jcl h.le g.le
 keep b hb hn:=by
  rw [g.keep b (jar hb h.size) ?_,h.keep b hb hn];intro id k l;rcases jbz id n with j | j
  ·rcases h.ids id j with e | e
   ·rw [e] at l; exact hn id k l
   ·rw [e] at l; cases l
  ·rcases h.new id b k l j with e | ⟨i,k0,e⟩
   ·omega
   ·exact hn i k0 e
 row b c T f hb hm:=by
  obtain ⟨y,m,z⟩:=h.row b c T f hb (by
   obtain ⟨id,k,e⟩:=hm;rcases jbz id n1 with j | j
   ·rcases g.ids id j with q | q
    ·exact ⟨id,k,q ▸ e⟩
    ·rw [q] at e; cases e
   ·rcases g.new id b k e j with q | ⟨i,k0,q⟩
    ·have:=(jaj.1 hb).1; have:=h.size; omega
    ·exact ⟨i,k0,q⟩)
  obtain ⟨c2,h2,x⟩:=g.row b y T f m hm;exact ⟨c2,h2,x.trans z⟩
 ids id j:=by
  rcases g.ids id (jar j h.le) with e | e
  ·rw [e]; exact h.ids id j
  ·exact .inr e
 new id b k l j:=by
  rcases jbz id n1 with m | m
  ·rcases g.ids id m with e | e
   ·exact h.new id b k (e ▸ l) j
   ·rw [e] at l; cases l
  ·rcases g.new id b k l m with e | ⟨i,k0,e⟩
   ·exact .inl (jcl h.size e)
   ·rcases jbz i n with p | p
    ·rcases h.ids i p with e' | e'
     ·exact .inr ⟨i,k0,e' ▸ e⟩
     ·rw [e'] at e; cases e
    ·exact h.new i b k0 e p
theorem cell_heap {w:World} {b o:Nat} {v:Yd}:w.cell? ⟨b,o,none⟩=some v↔∃ c T f,w.heap[b]?=some (.cells c T f)/\c[o]?=some v:=by
 unfold World.cell?;constructor
 ·intro h;split at h
  ·rename_i c T f e;exact ⟨c,T,f,e,by simpa using h⟩
  ·cases h
 ·rintro ⟨c,T,f,e,g⟩;simp [e,g]
theorem kgd {w:World} {b o:Nat} {v:Yd} (h:w.cell? ⟨b,o,none⟩=some v):b<w.heap.size:=
 World.block_lt_of_cell? w ⟨b,o,none⟩ h
theorem kgy {w w':World} {b:Nat} (h:w'.heap[b]?=w.heap[b]?) (o:Nat):w'.cell? ⟨b,o,none⟩=w.cell? ⟨b,o,none⟩:=by
 simp only [World.cell?,h]
theorem Evo.av {w w':World} {μ j:Mu} {n n':Nat} {O:Nat->Prop} (h:Evo w μ n w' j n') {b:Nat} (l:b<w.heap.size) (f:Av O j b):Av O μ b:=by
 rcases f with f | ⟨id,k,c⟩
 ·exact .inl f
 ·rcases jbz id n with i | i
  ·rcases h.ids id i with e | e
   ·exact .inr ⟨id,k,e ▸ c⟩
   ·rw [e] at c; cases c
  ·rcases h.new id b k c i with e | ⟨g,k0,e⟩
   ·omega
   ·exact .inr ⟨g,k0,e⟩
theorem Evo.cell {w w':World} {μ g:Mu} {n n':Nat} {O:Nat->Prop} (h:Evo w μ n w' g n') {b o:Nat} {v:Yd} (f:¬ Av O μ b) (c:w.cell? ⟨b,o,none⟩=some v):w'.cell? ⟨b,o,none⟩=some v:=by
 rw [kgy (h.keep b (kgd c) λid k e=>f (.inr ⟨id,k,e⟩))];exact c
theorem VR.evo {w w':World} {μ E:Mu} {n n':Nat} {O:Nat->Prop} (h:Evo w μ n w' E n') {a:AV} {v:Yd} (u:VR w O μ n a v):VR w' O E n' a v:=by
 induction u with
 | sc v l=>exact .sc v l
 | ud=>exact .ud
 | gs es=>exact .gs es
 | un v=>exact .un v
 | e0 p=>exact .e0 p
 | own id i j v g l u=>
  refine .own id i j v (jar g h.le) l λb k r=>?_;rcases h.ids id g with e | e
  ·exact u b k (e ▸ r)
  ·rw [e] at r; cases r
 | ms id off len v g l u=>
  refine .ms id off len v (jar g h.le) l λb k r=>?_;rcases h.ids id g with e | e
  ·obtain ⟨o,cap,c,T,l,h2,R,I,J,S⟩:=u b k (e ▸ r);obtain ⟨G,L,M⟩:=h.row b c T (0,0) J ⟨id,k,r⟩;exact ⟨o,cap,G,T,l,h2,R,I,L,by rw [M]; exact S⟩
  ·rw [e] at r; cases r
 | mp id v g l u=>
  refine .mp id v (jar g h.le) l λb k r=>?_;rcases h.ids id g with e | e
  ·exact u b k (e ▸ r)
  ·rw [e] at r; cases r
 | fp cs b o us hA s l _ t=>
  refine .fp cs b o us (λx C=>?_) (λj c m=>?_) l (λj c m=>t j c m)
  ·cases cs with
   | nil=>exact x rfl
   | cons c cs=>exact hA x (h.av (kgd (s 0 c rfl)) C)
  ·exact h.cell (hA (by rintro rfl; simp at m)) (s j c m)
 | slnil p=>exact .slnil p
 | sl es b o cap k us y z hA H s l _ t=>
  refine .sl es b o cap k us y z (λi e g F C=>?_) H (λi e g j c m=>?_) l (λi e g j c m=>t i e g j c m)
  ·cases e with
   | nil=>exact F rfl
   | cons c e=>exact hA i _ g F (h.av (kgd (s i _ g 0 c rfl)) C)
  ·exact h.cell (hA i e g (by rintro rfl; simp at m)) (s i e g j c m)
 | fn f B vs us A s _ t=>exact .fn f B vs us A s λj c m=>t j c m
 | ag cs vs us A s l _ t=>exact .ag cs vs us A s l λj c m=>t j c m
 | tp cs vs us A s _ t=>exact .tp cs vs us A s λj c m=>t j c m
end Go.Abs
namespace Go.Abs
def GPin:Nat->Yb (Array Yd->Prop)
 | 0=>some λc=>c=(Go.Lib.pow10Tab.map λz=>Value.int .u64 z).toArray
 | 4 | 5=>some λc=>∃ t p,c = #[Value.iface t p]
 | _=>none
def GP (b:Nat):Prop:=∃ x,GPin b=some x
def PinAt (x:Array Yd->Prop) (o:Yb Obj):Prop:=∃ c T f,o=some (.cells c T f)/\x c
def OG (O:Nat->Prop) (b:Nat):Prop:=O b\/GP b
end Go.Abs
namespace Go.Abs
open Go Go.RowKit
inductive ABlk where
 | cells (k:Nat) (T:TypeId) (es:List (List AV))
 | map (kvs:List (Value×AV))
 | si (s:ByteArray) (pos:Nat)
 | mi (mid since:Nat) (seen:List Nat)
abbrev AH:=Nat->Option ABlk
def BlkAt (w:World) (O:Nat->Prop) (μ:Mu) (n id:Nat):ABlk->Prop
 | .cells k T es=>∃ b c,μ id=some (b,k)/\w.heap[b]?=some (.cells c T (0,0))/\
   ∀ (i:Nat) (e:Ya AV),es[i]?=some e->e.length=k/\∀ (j:Nat) (a:AV),e[j]?=some a->a.one=true/\∃ u,c[i*k+j]?=some u/\VR w O μ n a u
 | .map g=>∃ b es,μ id=some (b,0)/\w.heap[b]?=some (.map es g.length)/\es.size=g.length/\
   ∀ (i:Nat) (x:Yd×AV),g[i]?=some x->∃ e,es[i]?=some e/\e.key=x.1/\e.born=i/\x.2.vl=true/\VR w O μ n x.2 e.val
 | .si s pos=>∃ b,μ id=some (b,0)/\w.heap[b]?=some (.stringIter s pos)
 | .mi l f seen=>∃ b m,μ id=some (b,0)/\w.heap[b]?=some (.mapIter (some m) f seen.toArray f)/\VR w O μ n (.mp l) (.map (some m))
structure OLT (O:Nat->Prop) (w:World):Prop where
 lt:∀ b,O b->b<w.heap.size
 pin:∀ b x,GPin b=some x->PinAt x w.heap[b]?
instance {O:Nat->Prop} {w:World}:CoeFun (OLT O w) (λ_=>∀ b,O b->b<w.heap.size):=⟨OLT.lt⟩
theorem OLT.plt {O:Nat->Prop} {w:World} (h:OLT O w) {b:Nat} (g:GP b):b<w.heap.size:=by
 obtain ⟨x,i⟩:=g;obtain ⟨c,T,f,e,_⟩:=h.pin b x i;exact (jaj.1 e).1
theorem OLT.keep {O:Nat->Prop} {w w':World} (h:OLT O w) (g:w.heap.size<=w'.heap.size) (e:∀ b,GP b->w'.heap[b]?=w.heap[b]?):OLT O w':=
 ⟨λb f=>jar (h.lt b f) g,λb x c=>by rw [e b ⟨x,c⟩]; exact h.pin b x c⟩
theorem OLT.av {O O':Nat->Prop} {w:World} (h:OLT O w) (hl:∀ b,O' b->b<w.heap.size):OLT O' w:=⟨hl,h.pin⟩
theorem OLT.evo {O:Nat->Prop} {w w':World} {μ g:Mu} {n n':Nat} (h:OLT O w) (hn:∀ id b k,μ id=some (b,k)->¬ OG O b) (e:Evo w μ n w' g n'):OLT O w':=
 h.keep e.size λb c=>e.keep b (h.plt c) λid k f=>hn id b k f (.inr c)
structure HR (w:World) (O:Nat->Prop) (μ:Mu) (h:AH) (n:Nat):Prop where
 olt:OLT O w
 scope:∀ id b k,μ id=some (b,k)->id<n/\b<w.heap.size
 inj:∀ id id' b k k',μ id=some (b,k)->μ id'=some (b,k')->id=id'
 notO:∀ id b k,μ id=some (b,k)->¬ OG O b
 blk:∀ id B,h id=some B->BlkAt w O μ n id B
def updH (h:AH) (id:Nat) (B:ABlk):AH:=λi=>if i=id then some B else h i
def delH (h:AH) (id:Nat):AH:=λi=>if i=id then none else h i
def updM (μ:Mu) (id:Nat) (x:Nat×Nat):Mu:=λi=>if i=id then some x else μ i
def delM (μ:Mu) (id:Nat):Mu:=λi=>if i=id then none else μ i
theorem HR.refl {w:World} {O:Nat->Prop} {μ:Mu} {h:AH} {n:Nat} (hr:HR w O μ h n):Evo w μ n w μ n:=Evo.refl w μ n λid b k e=>(hr.scope id b k e).1
theorem BlkAt.evo {w w':World} {O:Nat->Prop} {μ y:Mu} {n n' id:Nat} {B:ABlk} (l:BlkAt w O μ n id B) (r:y id = μ id) (m:∀ b k,μ id=some (b,k)->w'.heap[b]?=w.heap[b]?) (C:Evo w μ n w' y n') :
  BlkAt w' O y n' id B:=by
 cases B with
 | cells k T es=>
  obtain ⟨b,c,f,h2,g⟩:=l;refine ⟨b,c,r.trans f,(m b k f).trans h2,λi e p=>⟨(g i e p).1,λj a L=>?_⟩⟩;obtain ⟨t,u,v,A⟩:=(g i e p).2 j a L;exact ⟨t,u,v,A.evo C⟩
 | map E=>
  obtain ⟨b,es,f,h2,g,t⟩:=l;refine ⟨b,es,r.trans f,(m b 0 f).trans h2,g,λi x p=>?_⟩;obtain ⟨e,v,A,F,H,J⟩:=t i x p;exact ⟨e,v,A,F,H,J.evo C⟩
 | si s pos=>
  obtain ⟨b,f,h2⟩:=l;exact ⟨b,r.trans f,(m b 0 f).trans h2⟩
 | mi I z seen=>
  obtain ⟨b,G,f,h2,g⟩:=l;exact ⟨b,G,r.trans f,(m b 0 f).trans h2,g.evo C⟩
theorem HR.same {w w':World} {O:Nat->Prop} {μ:Mu} {h:AH} {n:Nat} (hr:HR w O μ h n) (g:w'.heap=w.heap) (h2:w'.os=w.os) (m:w'.tape=w.tape) (l:w'.output=w.output/\w.drawn<=w'.drawn) :
  Evo w μ n w' μ n/\HR w' O μ h n:=by
 have i:Evo w μ n w' μ n:=⟨h2,m,l,by rw [g]; exact jah _,jah _,λ_ _ _=>by rw [g],λb c T f j _=>⟨c,by rw [g]; exact j,rfl⟩,λ_ _=>.inl rfl,
  λid b k e hn=>absurd (hr.scope id b k e).1 (by omega)⟩
 refine ⟨i,hr.olt.keep (by rw [g]; exact jah _) λb _=>by rw [g],λid b k e=>by rw [g]; exact hr.scope id b k e,hr.inj,hr.notO,λid B hB=>?_⟩;exact (hr.blk id B hB).evo rfl (λb k _=>by rw [g]) i
theorem HR.drew {w:World} {O:Nat->Prop} {μ:Mu} {h:AH} {n:Nat} (hr:HR w O μ h n):Evo w μ n w.drew μ n/\HR w.drew O μ h n:=hr.same rfl rfl rfl ⟨rfl,jbp _⟩
theorem kby (w:World) (o:Obj) (b:Nat) (h:b<w.heap.size):(w.alloc o).heap[b]?=w.heap[b]?:=Below.heap_alloc w o b h
theorem kaQ (w:World) (o:Obj):(w.alloc o).heap[w.heap.size]?=some o:=heap_alloc_new w o
theorem Evo.alloc {w:World} {O:Nat->Prop} {μ:Mu} {h:AH} {n:Nat} (hr:HR w O μ h n) (o:Obj) (k:Nat):Evo w μ n (w.alloc o) (updM μ n (w.heap.size,k)) (n+1) where
 os:=rfl
 tape:=rfl
 output:=⟨rfl,jah _⟩
 size:=by simp
 le:=by omega
 keep b hb _:=kby w o b hb
 row b c T f hb _:=⟨c,by rw [kby w o b (jaj.1 hb).1]; exact hb,rfl⟩
 ids id hi:=by unfold updM; rw [if_neg (by omega)]; exact .inl rfl
 new id b k' e hn:=by
  unfold updM at e;split at e
  ·cases e; exact .inl (jah _)
  ·have:=(hr.scope id b k' e).1; omega
theorem HR.alloc {w:World} {O:Nat->Prop} {μ:Mu} {h:AH} {n:Nat} (hr:HR w O μ h n) (o:Obj) (k:Nat) (B:ABlk) (hB:BlkAt (w.alloc o) O (updM μ n (w.heap.size,k)) (n+1) n B) :
  HR (w.alloc o) O (updM μ n (w.heap.size,k)) (updH h n B) (n+1) where
 olt:=hr.olt.keep (by simp) λb i=>kby w o b (hr.olt.plt i)
 scope id b c e:=by
  unfold updM at e;split at e
  ·cases e; subst_vars; simp
  ·have:=hr.scope id b c e; simp; omega
 inj id id' b k1 k2 e1 e2:=by
  unfold updM at e1 e2;split at e1
  ·split at e2
   ·omega
   ·cases e1; have:=(hr.scope id' _ k2 e2).2; omega
  ·split at e2
   ·cases e2; have:=(hr.scope id _ k1 e1).2; omega
   ·exact hr.inj id id' b k1 k2 e1 e2
 notO id b c e:=by
  unfold updM at e;split at e
  ·cases e; intro g; have:=g.elim (hr.olt.lt _) hr.olt.plt; omega
  ·exact hr.notO id b c e
 blk id B' hB':=by
  unfold updH at hB';split at hB'
  ·cases hB'; subst_vars; exact hB
  ·rename_i f;refine (hr.blk id B' hB').evo ?_ ?_ (Evo.alloc hr o k)
   ·unfold updM; rw [if_neg f]
   ·intro b c e;exact kby w o b (hr.scope id b c e).2
theorem HR.del {w:World} {O:Nat->Prop} {μ:Mu} {h:AH} {n:Nat} (hr:HR w O μ h n) (id:Nat):Evo w μ n w (delM μ id) n/\HR w O (delM μ id) (delH h id) n:=by
 have g:∀ i b k,delM μ id i=some (b,k)->i≠id/\μ i=some (b,k):=λi b k e=>by
  unfold delM at e; split at e
  ·cases e
  ·exact ⟨by assumption,e⟩
 have m:Evo w μ n w (delM μ id) n:=⟨rfl,rfl,⟨rfl,jah _⟩,jah _,jah _,λ_ _ _=>rfl,λb c T f r _=>⟨c,r,rfl⟩,
  λi _=>by unfold delM; split <;> simp,λi b k e hn=>absurd (hr.scope i b k (g i b k e).2).1 (by omega)⟩
 refine ⟨m,hr.olt,λi b k e=>hr.scope i b k (g i b k e).2,λi p b k l e e'=>hr.inj i p b k l (g i b k e).2 (g p b l e').2,λi b k e=>hr.notO i b k (g i b k e).2,λi B hB=>?_⟩;unfold delH at hB;split at hB
 ·cases hB
 ·rename_i j;exact (hr.blk i B hB).evo (by unfold delM; rw [if_neg j]) (λ_ _ _=>rfl) m
theorem HR.set {w w':World} {O:Nat->Prop} {μ:Mu} {h:AH} {n:Nat} (hr:HR w O μ h n) (id b k:Nat) (u:μ id=some (b,k)) (B:ABlk)
  (x:w'.os=w.os) (j:w'.tape=w.tape) (p:w'.output=w.output/\w.drawn<=w'.drawn) (m:w'.heap.size=w.heap.size)
  (g:∀ i,i≠b->w'.heap[i]?=w.heap[i]?) (r:∀ c T f,w.heap[b]?=some (.cells c T f)->∃ y,w'.heap[b]?=some (.cells y T f)/\y.size=c.size)
  (hB:Evo w μ n w' μ n->BlkAt w' O μ n id B):Evo w μ n w' μ n/\HR w' O μ (updH h id B) n:=by
 have v:Evo w μ n w' μ n:=⟨x,j,p,by omega,jah _,λi A hn=>g i (by rintro rfl; exact hn id k u),
  λi c T f z _=>by
   by_cases l:i=b
   ·subst l; exact r c T f z
   ·exact ⟨c,by rw [g i l]; exact z,rfl⟩,
  λ_ _=>.inl rfl,λi b' s e hn=>absurd (hr.scope i b' s e).1 (by omega)⟩
 refine ⟨v,hr.olt.keep (by rw [m]; exact jah _) λi A=>g i (by rintro rfl; exact hr.notO id _ k u (.inr A)),λi b' s e=>by rw [m]; exact hr.scope i b' s e,hr.inj,hr.notO,λi C hB'=>?_⟩;unfold updH at hB';split at hB'
 ·cases hB'; subst_vars; exact hB v
 ·rename_i t;refine (hr.blk i C hB').evo rfl (λb' s e=>g b' ?_) v;rintro rfl;exact t (hr.inj _ _ _ _ _ e u)
abbrev Env:=List (Nat×AV)
def lk:Env->Nat->AV
 | [],_=>.un
 | (d,v)::l,s=>if s=d then v else lk l s
def cst:Yd->AV
 | .tuple _=>.un
 | .agg cs=>if cs.all (·.oneCell') then .ag (cs.toList.map .sc) else .un
 | v=>.sc v
def ev (env:Env):Yf->AV
 | .tmp t=>lk env t
 | .const v=>cst v
 | .global _=>.un
 | .func f=>.fn f []
structure St where
 env:Env
 h:AH
 n:Nat
def FF (ro:Yb Nat):Fence:={ fn:=λ_=>True,depth:=none,alive:=false,round:=ro }
theorem callsIn_FF {ro:Yb Nat} {m:Nat} {P:Ye} {f:FuncId} {args:Array Yd} {w:World} {R:Ending->World->Prop}:CallsIn (FF ro) m P f args w R↔Calls P f args w R:=by
 rw [<-callsIn_wide (n:=m)]; exact Iff.rfl
def GS:Nat:=9000000
structure IterG where
 l:Nat
 xs:List (List AV)
 J:Nat->(Nat->Prop)->World->Prop
 Jx:World->Prop
 pv:Nat->Prop
 pn:Nat
structure DX where
 b:Nat
 it:Option IterG
def MarksOk (D:DX) (w:World) (μ:Mu) (c:Ya Deferred):Prop:=
 (D.it.isSome=true->c=[])/\D.b<=w.heap.size/\∃ bs:Ya Nat,bs.Nodup/\c=bs.map (λb=>({ target:=.collected b,args:=#[] }:Deferred))/\∀ b∈bs,D.b<=b/\w.heap[b]?=some (.deferred (some []))/\∀ id k,μ id≠some (b,k)
theorem MarksOk.nil (D:DX) (w:World) (μ:Mu) (c:D.b<=w.heap.size):MarksOk D w μ []:=⟨λ_=>rfl,c,[],List.nodup_nil,rfl,λb h=>by cases h⟩
theorem MarksOk.evo {D:DX} {w w':World} {μ r:Mu} {n n':Nat} {p:Ya Deferred} (h:MarksOk D w μ p) (e:Evo w μ n w' r n'):MarksOk D w' r p:=by
 obtain ⟨s,u,bs,v,h2,x⟩:=h;refine ⟨s,jcl u e.size,bs,v,h2,λb t=>?_⟩;obtain ⟨g1,m,l⟩:=x b t;have g:=(jaj.1 m).1;refine ⟨g1,(e.keep b g l).trans m,λid k f=>?_⟩;rcases jbz id n with j | j
 ·rcases e.ids id j with c | c
  ·rw [c] at f; exact l id k f
  ·rw [c] at f; cases f
 ·rcases e.new id b k f j with c | ⟨i,k0,c⟩
  ·omega
  ·exact l i k0 c
structure BlwX (pv:Nat->Prop) (w w':World):Prop where
 os:w'.os=w.os
 tape:w'.tape=w.tape
 output:w'.output=w.output
 size:w.heap.size<=w'.heap.size
 block:∀ b,b<w.heap.size->¬ pv b->w'.heap[b]?=w.heap[b]?
 drawn:w.drawn<=w'.drawn
theorem BlwX.of {pv:Nat->Prop} {w w':World} (h:Blw w w'):BlwX pv w w':=⟨h.1.os,h.1.tape,h.1.output,h.1.size,λb c _=>h.1.block b c,h.2⟩
def GInv (D:DX) (O:Nat->Prop) (env:Env) (w:World) (μ:Mu) (n:Nat):Prop:=
 match D.it with
 | none=>True
 | some g=>∃ W:World,BlwX g.pv W w/\(g.pn<=n/\∀ id b k,μ id=some (b,k)->(W.heap.size<=b/\g.pn<=id)\/g.pv b)/\(match lk env GS with | .gs es=>g.J es.length O W | .ud=>g.Jx W | _=>True)
theorem Evo.belowW {pv:Nat->Prop} {pn:Nat} {W w w':World} {μ l:Mu} {n n':Nat} (e:Evo w μ n w' l n') (c:BlwX pv W w) (h2:pn<=n/\∀ id b k,μ id=some (b,k)->(W.heap.size<=b/\pn<=id)\/pv b):BlwX pv W w'/\pn<=n'/\∀ id b k,l id=some (b,k)->(W.heap.size<=b/\pn<=id)\/pv b:=by
 obtain ⟨hp,h2⟩:=h2;have p:=c.size;refine ⟨⟨e.os.trans c.os,e.tape.trans c.tape,e.output.1.trans c.output,jcl c.size e.size,λb m hp=>?_,jcl c.drawn e.output.2⟩,jcl hp e.le,λid b k f=>?_⟩
 ·rw [e.keep b (by omega) λid k f=>by
   rcases h2 id b k f with h | h
   ·omega
   ·exact hp h]
  exact c.block b m hp
 ·rcases jbz id n with j | j
  ·rcases e.ids id j with g | g
   ·rw [g] at f; exact h2 id b k f
   ·rw [g] at f; cases f
  ·rcases e.new id b k f j with g | ⟨i,k0,g⟩
   ·exact .inl (by omega)
   ·rcases h2 i b k0 g with h | h
    ·exact .inl (by omega)
    ·exact .inr h
def GOk (a a':AV):Prop:=a'=a\/((∀ es,a'≠.gs es)/\a'≠.ud)
theorem GOk.un {a:AV}:GOk a .un:=.inr ⟨(λes h=>by cases h),(λh=>by cases h)⟩
theorem GInv.evo {D:DX} {O:Nat->Prop} {env b:Env} {w w':World} {μ j:Mu} {n n':Nat} (h:GInv D O env w μ n) (e:Evo w μ n w' j n') (p:D.it.isSome=true->GOk (lk env GS) (lk b GS)):GInv D O b w' j n':=by
 unfold GInv at *
 cases f:D.it with
 | none=>trivial
 | some g=>
  rw [f] at h;obtain ⟨W,l,h2,m⟩:=h;obtain ⟨g1,k⟩:=e.belowW l h2;refine ⟨W,g1,k,?_⟩;rcases p (by rw [f]; rfl) with c | ⟨c,i⟩
  ·rw [c]; exact m
  ·generalize lk b GS=x at c i;cases x <;> first | trivial | exact absurd rfl (c _) | exact absurd rfl i
structure SR (N:Nat) (D:DX) (O:Nat->Prop) (μ:Mu) (st:St) (a:Act) (w:World):Prop where
 hr:HR w O μ st.h st.n
 size:a.tmps.size=N
 defers:MarksOk D w μ a.defers
 env:∀ s,VR w O μ st.n (lk st.env s) (a.tmps.getD s undef)
 gs:D.it.isSome=true->N<=GS
 gi:GInv D O st.env w μ st.n
theorem VR.cst (w:World) (O:Nat->Prop) (μ:Mu) (n:Nat) (v:Yd):VR w O μ n (cst v) v:=by
 unfold Abs.cst;split
 ·exact .un _
 ·rename_i cs;split
  ·rename_i h;refine .ag _ cs (λj=>cs.getD j undef) (by simp) (λj c e=>?_) (λj c e=>?_) (λj c e=>?_)
   ·simp only [jas,jac] at e;obtain ⟨x,b,rfl⟩:=e;simp at b;simp [b]
   ·simp only [jas,jac] at e;obtain ⟨x,b,rfl⟩:=e;simp only [jcj] at h;exact h x (by simp at b; exact Array.mem_of_getElem? b)
   ·simp only [jas,jac] at e;obtain ⟨x,b,rfl⟩:=e;simp at b;simp only [jag,b,jcc];simp only [jcj] at h;exact .sc x (h x (Array.mem_of_getElem? b))
  ·exact .un _
 ·rename_i f h2;exact .sc v (by cases v <;> first | rfl | exact absurd rfl (f _) | exact absurd rfl (h2 _))
theorem SR.ev {N:Nat} {D:DX} {O:Nat->Prop} {μ:Mu} {st:St} {a:Act} {w:World} (e:SR N D O μ st a w) (x:Yf):VR w O μ st.n (ev st.env x) (a.eval x):=by
 cases x with
 | tmp t=>exact e.env t
 | const v=>exact VR.cst w O μ st.n v
 | global g=>exact .un _
 | func f=>exact .fn f [] #[] (λ_=>undef) rfl (λj c b=>by simp at b) (λj c b=>by simp at b)
theorem SR.put {N:Nat} {D:DX} {O:Nat->Prop} {μ e:Mu} {st:St} {a:Act} {w w':World} {h':AH} {n':Nat} {u:Yd} {v:AV} (b:SR N D O μ st a w)
  (hr:HR w' O e h' n') (f:Evo w μ st.n w' e n') (j:VR w' O e n' v u) (d:Nat) (g:d<N):SR N D O e ⟨(d,v)::st.env,h',n'⟩ (a.put (some d) u) w':=by
 refine ⟨hr,by simp [Act.put,b.size],b.defers.evo f,λs=>?_,b.gs,b.gi.evo f λi=>?_⟩;case refine_2=>have:=b.gs i; left; simp only [lk]; rw [if_neg (by omega)]
 simp only [lk,Act.put];split
 ·rename_i c; subst c;have:s<a.tmps.size:=by rw [b.size]; exact g
  simp [jag,this,j]
 ·rename_i c;have:=(b.env s).evo f;rw [jag] at this ⊢;rw [jcx (by omega)];exact this
theorem SR.step {N:Nat} {D:DX} {O:Nat->Prop} {μ e:Mu} {st:St} {a:Act} {w w':World} {h':AH} {n':Nat} (b:SR N D O μ st a w)
  (hr:HR w' O e h' n') (c:Evo w μ st.n w' e n'):SR N D O e ⟨st.env,h',n'⟩ a w':=
 ⟨hr,b.size,b.defers.evo c,λs=>(b.env s).evo c,b.gs,b.gi.evo c λ_=>.inl rfl⟩
def OKO (D:DX) (O O':Nat->Prop):Prop:=D.it=none->O'=O
def EvoD (D:DX) (w:World) (μ:Mu) (n:Nat) (w':World) (b:Mu) (n':Nat):Prop:=D.it=none->Evo w μ n w' b n'
theorem EvoD.refl {D:DX} {w:World} {μ:Mu} {n:Nat} {O:Nat->Prop} {h:AH} (hr:HR w O μ h n):EvoD D w μ n w μ n:=λ_=>hr.refl
theorem EvoD.trans {D:DX} {w b f:World} {μ c i:Mu} {n n1 j:Nat} (h:EvoD D w μ n b c n1) (g:EvoD D b c n1 f i j):EvoD D w μ n f i j:=λe=>(h e).trans (g e)
theorem Evo.d {D:DX} {w w':World} {μ b:Mu} {n n':Nat} (h:Evo w μ n w' b n'):EvoD D w μ n w' b n':=λ_=>h
def RO (D:DX) (ro:Yb Nat) (w:World) (μ:Mu):Prop:=
 match ro with
 | none=>True
 | some l=>D.it=none/\(∃ r,w.heap[l]?=some (.loop r))/\∀ id k,μ id≠some (l,k)
theorem RO.evo {D:DX} {ro:Yb Nat} {w w':World} {μ p:Mu} {n n':Nat} (h:RO D ro w μ) (s:EvoD D w μ n w' p n'):RO D ro w' p:=by
 cases ro with
 | none=>trivial
 | some l=>
  obtain ⟨m,⟨r,h2⟩,i⟩:=h;have e:=s m;have f:=(jaj.1 h2).1;refine ⟨m,⟨r,(e.keep l f i).trans h2⟩,λid k c=>?_⟩;rcases jbz id n with j | j
  ·rcases e.ids id j with b | b
   ·rw [b] at c; exact i id k c
   ·rw [b] at c; cases c
  ·rcases e.new id l k c j with b | ⟨g,k0,b⟩
   ·omega
   ·exact i g k0 b
def Post (N:Nat) (D:DX) (O:Nat->Prop) (Q:Exit->St->Prop) (μ:Mu) (w:World) (n:Nat) (e:Exit) (a':Act) (w':World):Prop:=
 ∃ b c O',OKO D O O'/\Q e b/\SR N D O' c b a' w'/\EvoD D w μ n w' c b.n
def Sat (P:Ye) (N:Nat) (D:DX) (O:Nat->Prop) (c:Code) (Q:Exit->St->Prop) (st:St):Prop:=
 ∀ b,OKO D O b->∀ ro μ a w,RO D ro w μ->SR N D b μ st a w->c.wpIn (FF ro) 0 P (Post N D O Q μ w st.n) a w
variable {P:Ye} {N:Nat} {D:DX} {O:Nat->Prop} {Q:Exit->St->Prop} {st:St}
theorem Post.mono {Q':Exit->St->Prop} {μ:Mu} {w:World} {n:Nat} {e:Exit} {a':Act} {w':World} (h:Post N D O Q μ w n e a' w') (b:∀ s,Q e s->Q' e s):Post N D O Q' μ w n e a' w':=
 let ⟨st',μ',O',o,q,r,ev⟩:=h; ⟨st',μ',O',o,b _ q,r,ev⟩
theorem Post.from {μ c:Mu} {w b:World} {n n1:Nat} {e:Exit} {a':Act} {w':World} (h:Post N D O Q c b n1 e a' w') (f:EvoD D w μ n b c n1):Post N D O Q μ w n e a' w':=
 let ⟨st',μ',O',o,q,r,ev⟩:=h; ⟨st',μ',O',o,q,r,f.trans ev⟩
theorem Sat.mono {c:Code} {Q':Exit->St->Prop} (h:Sat P N D O c Q st) (f:∀ e s,Q e s->Q' e s):Sat P N D O c Q' st:=
 λg o ro μ a w b i=>wpIn_mono (h g o ro μ a w b i) λe _ _ q=>q.mono (f e)
def thenQ (K:St->Prop) (Q:Exit->St->Prop):Exit->St->Prop
 | .normal,s=>K s
 | e,s=>Q e s
def kcB (id:Nat) (Q:Exit->St->Prop):Exit->St->Prop
 | .exit id',s=>if id'=id then Q .normal s else Q (.exit id') s
 | e,s=>Q e s
theorem Sat.seq {x y:Code} (h:Sat P N D O x (thenQ (λs=>Sat P N D O y Q s) Q) st):Sat P N D O (.seq x y) Q st:=by
 intro r o ro μ a w m p;refine wpIn_seq (wpIn_mono (h r o ro μ a w m p) ?_);rintro e a' w' ⟨f,j,O',k,i,b,g⟩;cases e with
 | normal=>exact wpIn_mono (i O' k ro j a' w' (m.evo g) b) λ_ _ _ q=>q.from g
 | exit id=>exact ⟨f,j,O',k,i,b,g⟩
 | goto l=>exact ⟨f,j,O',k,i,b,g⟩
 | ret=>exact ⟨f,j,O',k,i,b,g⟩
 | panic c=>exact ⟨f,j,O',k,i,b,g⟩
 | outgrown=>exact ⟨f,j,O',k,i,b,g⟩
theorem Sat.skip (h:Q .normal st):Sat P N D O .skip Q st:=λc o _ μ _ _ _ b=>wpIn_skip ⟨st,μ,c,o,h,b,.refl b.hr⟩
theorem Sat.exit {id:Nat} (h:Q (.exit id) st):Sat P N D O (.exit id) Q st:=λc o _ μ _ _ _ b=>wpIn_exit ⟨st,μ,c,o,h,b,.refl b.hr⟩
theorem Sat.ret (h:Q .ret st):Sat P N D O .ret Q st:=λc o _ μ _ _ _ b=>wpIn_ret ⟨st,μ,c,o,h,b,.refl b.hr⟩
theorem Sat.block {id:Nat} {c:Code} (h:Sat P N D O c (kcB id Q) st):Sat P N D O (.block id c) Q st:=by
 intro t o ro μ a w p s;refine wpIn_block (wpIn_mono (h t o ro μ a w p s) ?_);rintro e a' w' ⟨f,i,O',j,g,b,k⟩;cases e with
 | exit r=>
  simp only [kcB,Exit.inBlock] at g ⊢;split <;> rename_i m
  ·rw [if_pos m] at g; exact ⟨f,i,O',j,g,b,k⟩
  ·rw [if_neg m] at g; exact ⟨f,i,O',j,g,b,k⟩
 | normal=>exact ⟨f,i,O',j,g,b,k⟩
 | goto l=>exact ⟨f,i,O',j,g,b,k⟩
 | ret=>exact ⟨f,i,O',j,g,b,k⟩
 | panic c=>exact ⟨f,i,O',j,g,b,k⟩
 | outgrown=>exact ⟨f,i,O',j,g,b,k⟩
theorem VR.bool_inv {w:World} {O:Nat->Prop} {μ:Mu} {n:Nat} {b:Bool} {v:Yd} (h:VR w O μ n (.sc (.bool b)) v):v = .bool b:=by cases h; rfl
theorem Sat.cond {c:Yf} {x y:Code} {b:Bool} (m:Abs.ev st.env c = .sc (.bool b)) (l:b=true->Sat P N D O x Q st) (k:b=false->Sat P N D O y Q st):Sat P N D O (.cond c x y) Q st:=by
 intro j o ro μ a w f g;have i:=g.ev c;rw [m] at i;exact wpIn_cond_split i.bool_inv (λe=>l e j o ro μ a w f g) (λe=>k e j o ro μ a w f g)
theorem kqs {F:Fence} {z:Nat} {α:Type} {c:Code} {Q:Exit->Act->World->Prop} {a:Act} {w:World} (I:α->Act->World->Prop) (m:α->Nat) (y:α) (B:I y a w)
  (round:∀ x a w,I x a w->c.wpIn F z P (Exit.then (λa' w'=>∃ r,I r a' w'/\m r<m x) Q) a w):(Code.loop c).wpIn F z P Q a w:=by
 intro b k cs v u hr;have key:∀ n x a w,m x=n->I x a w->∃ e a' w',Q e a' w'/\ArrivesIn (Machine.fenced P F) P (lone (b.atR a (.code c :: .inLoop c::k)) cs w) b k cs e a' w':=by
  intro n;induction n using Nat.strongRecOn with
  | _ n E=>
   intro x a w hn hI;obtain ⟨e,p,j,g,f⟩:=round x a w hI b (.inLoop c::k) cs v u hr;cases e with
   | normal=>
    obtain ⟨r,hI₁,t⟩:=g;obtain ⟨A,C,G,s,i⟩:=E (m r) (hn ▸ t) r p j rfl hI₁;exact ⟨A,C,G,s,.of_steps (StepsIn.trans f (.one (fenced_calm u hr rfl) stepR_inLoop)) i⟩
   | exit id=>exact ⟨_,p,j,g,.pass (x:=.inLoop c) rfl (λ_ _=>.inl (by simp)) f⟩
   | goto l=>exact ⟨_,p,j,g,.pass (x:=.inLoop c) rfl (λ_ _=>.inl (by simp)) f⟩
   | ret=>exact ⟨_,p,j,g,.pass (x:=.inLoop c) rfl (λ_ _=>.inl (by simp)) f⟩
   | panic H=>exact ⟨_,p,j,g,.pass (x:=.inLoop c) rfl (λ_ _=>.inl (by simp)) f⟩
   | outgrown=>exact ⟨_,p,j,g,.pass (x:=.inLoop c) rfl (λ_ _=>.inl (by simp)) f⟩
 obtain ⟨e,a',w',g,f⟩:=key _ y a w rfl B;exact ⟨e,a',w',g,.of_steps (.one (fenced_calm u hr rfl) stepR_loop) f⟩
theorem Sat.loop {α:Type} {c:Code} (I:α->St->Prop) (m:α->Nat) (v:α) (A:I v st)
  (round:∀ x s,I x s->Sat P N D O c (thenQ (λs'=>∃ r,I r s'/\m r<m x) Q) s):Sat P N D O (.loop c) Q st:=by
 intro G o ro μ a w t y;refine kqs (λx a' w'=>∃ b i O',OKO D O O'/\I x b/\SR N D O' i b a' w'/\EvoD D w μ st.n w' i b.n) m v ⟨st,μ,G,o,A,y,.refl y.hr⟩ ?_;rintro x H z ⟨F,B,O2,E,hI,u,f⟩;refine wpIn_mono (round x F hI O2 E ro B H z (t.evo f) u) ?_;rintro e a' w' ⟨b,i,O',k,j,g,p⟩;cases e with
 | normal=>obtain ⟨r,C,h2⟩:=j; exact ⟨r,⟨b,i,O',k,C,g,f.trans p⟩,h2⟩
 | exit id=>exact ⟨b,i,O',k,j,g,f.trans p⟩
 | goto l=>exact ⟨b,i,O',k,j,g,f.trans p⟩
 | ret=>exact ⟨b,i,O',k,j,g,f.trans p⟩
 | panic c=>exact ⟨b,i,O',k,j,g,f.trans p⟩
 | outgrown=>exact ⟨b,i,O',k,j,g,f.trans p⟩
theorem Sat.forget {c:Code} (b:Env) (f:∀ s,lk b s=lk st.env s\/lk b s = .un) (h:Sat P N D O c Q ⟨b,st.h,st.n⟩):Sat P N D O c Q st:=by
 intro i o ro μ a w j g;refine h i o ro μ a w j ⟨g.hr,g.size,g.defers,λs=>?_,g.gs,g.gi.evo g.hr.refl λ_=>(f GS).elim .inl λe=>by rw [e]; exact .un⟩;rcases f s with e | e
 ·show VR w i μ st.n (lk b s) _;rw [e]; exact g.env s
 ·show VR w i μ st.n (lk b s) _;rw [e]; exact .un _
def keep (l:Ya Nat) (env:Env):Env:=l.map λs=>(s,lk env s)
theorem kuI (l:Ya Nat) (env:Env) (s:Nat):lk (keep l env) s=lk env s\/lk (keep l env) s = .un:=by
 induction l with
 | nil=>exact .inr rfl
 | cons x l b=>
  simp only [keep,jat,lk];split
  ·rename_i e; subst e; exact .inl rfl
  ·exact b
variable {P:Ye} {w:World} {O:Nat->Prop} {μ:Mu} {h:AH} {n:Nat}
def deref (h:AH):AV->Yb (Ya AV)
 | .fp cs=>some cs
 | .own id i j=>match h id with
  | some (.cells _ _ es)=>(es[i]?).map (·.drop j)
  | _=>none
 | _=>none
theorem keF (b o j:Nat):(⟨b,o,none⟩:Addr).add j=⟨b,o+j,none⟩:=by unfold Addr.add; split <;> simp_all
def Reads (w:World) (O:Nat->Prop) (μ:Mu) (n b o:Nat) (cs:Ya AV):Prop:=
 ∀ (j:Nat) (c:AV),cs[j]?=some c->c.one=true/\∃ u,w.cell? ⟨b,o+j,none⟩=some u/\VR w O μ n c u
theorem HR.own_cells (hr:HR w O μ h n) {id k:Nat} {T:Yc} {es:Ya (Ya AV)} (hB:h id=some (.cells k T es)) :
  ∃ b c,μ id=some (b,k)/\w.heap[b]?=some (.cells c T (0,0))/\(∀ (i:Nat) (e:Ya AV),es[i]?=some e->e.length=k/\Reads w O μ n b (i*k) e):=by
 obtain ⟨b,c,m,h2,f⟩:=hr.blk id _ hB;refine ⟨b,c,m,h2,λi e g=>⟨(f i e g).1,λj a s=>?_⟩⟩;obtain ⟨l,u,p,r⟩:=(f i e g).2 j a s;exact ⟨l,u,cell_heap.2 ⟨c,T,(0,0),h2,p⟩,r⟩
theorem kkq (hr:HR w O μ h n) {p:AV} {v:Yd} (l:VR w O μ n p v) {cs:Ya AV} (f:deref h p=some cs):∃ b o,v = .pointer (some ⟨b,o,none⟩)/\Reads w O μ n b o cs:=by
 unfold deref at f;split at f
 ·cases f;cases l with
  | fp _ b o us hA C r m=>exact ⟨b,o,rfl,λj c g=>⟨r j c g,us j,C j c g,m j c g⟩⟩
 ·rename_i id i j;split at f
  ·rename_i k T es hB;obtain ⟨b,c,r,h2,z⟩:=hr.own_cells hB;cases s:es[i]? with
   | none=>simp [s] at f
   | some e=>
    simp [s] at f;subst f;cases l with
    | own _ _ _ _ E A l=>
     refine ⟨b,i*k+j,l b k r,λx c g=>?_⟩;rw [jau] at g;obtain ⟨t,u,y,B⟩:=(z i e s).2 (j+x) c g;exact ⟨t,u,by rw [jef]; exact y,B⟩
  ·cases f
 ·cases f
theorem VR.one {a:AV} {v:Yd} (c:VR w O μ n a v) (b:AV.one a=true):v.oneCell'=true:=by
 cases c <;> first | assumption | rfl | (simp [AV.one] at b; done)
theorem Reads.vals {b:Nat}:∀ {cs:Ya AV} {o:Nat},Reads w O μ n b o cs->∃ vals:Ya Yd,vals.length=cs.length/\(∀ j v,vals[j]?=some v->w.cell? ⟨b,o+j,none⟩=some v)/\(∀ v∈vals,v.oneCell'=true)/\
  ∀ (j:Nat) (c:AV),cs[j]?=some c->∃ u,vals[j]?=some u/\VR w O μ n c u
 | [],o,_=>⟨[],rfl,λj v e=>by simp at e,λv f=>by simp at f,λj c e=>by simp at e⟩
 | c::cs,o,hrd=>by
  obtain ⟨s,u,h2,l⟩:=hrd 0 c rfl;have i:Reads w O μ n b (o+1) cs:=λj g e=>by
   obtain ⟨r,k,t,y⟩:=hrd (j+1) g (by simpa using e);exact ⟨r,k,by rw [jef,Nat.add_comm 1 j]; exact t,y⟩
  obtain ⟨vals,g1,p,A,x⟩:=Reads.vals (b:=b) i;refine ⟨u::vals,by simp [g1],λj v e=>?_,λv f=>?_,λj g e=>?_⟩
  ·cases j with
   | zero=>simp at e; subst e; exact h2
   | succ j=>
    have:=p j v (by simpa using e)
    rwa [jef,Nat.add_comm 1 j] at this
  ·rcases jbi.1 f with rfl | f
   ·exact l.one s
   ·exact A v f
  ·cases j with
   | zero=>simp at e; subst e; exact ⟨u,rfl,l⟩
   | succ j=>obtain ⟨k,z,m⟩:=x j g (by simpa using e); exact ⟨k,by simpa using z,m⟩
theorem Reads.take {b o:Nat} {cs:Ya AV} (h:Reads w O μ n b o cs) (k:Nat):Reads w O μ n b o (cs.take k):=λj c e=>by
 rw [jbs] at e;split at e
 ·exact h j c e
 ·cases e
theorem Reads.drop {b o:Nat} {cs:Ya AV} (h:Reads w O μ n b o cs) (k:Nat):Reads w O μ n b (o+k) (cs.drop k):=λj c e=>by
 rw [jau] at e;rw [jef]; exact h _ c e
theorem VR.ag_of {cs:Ya AV} {vals:Ya Yd} (hl:vals.length=cs.length) (g:∀ (j:Nat) (c:AV),cs[j]?=some c->c.one=true) (h2:∀ (j:Nat) (c:AV),cs[j]?=some c->∃ u,vals[j]?=some u/\VR w O μ n c u) :
  VR w O μ n (.ag cs) (.agg vals.toArray):=by
 refine .ag cs _ (λj=>vals.getD j undef) (by simpa using hl) (λj c b=>?_) g (λj c b=>?_)
 ·obtain ⟨u,e,_⟩:=h2 j c b;simp [e,List.getD]
 ·obtain ⟨u,e,f⟩:=h2 j c b;simpa [e,List.getD] using f
def ReadsEs (w:World) (O:Nat->Prop) (μ:Mu) (n b o k:Nat) (es:Ya (Ya AV)):Prop:=
 ∀ (i:Nat) (e:Ya AV),es[i]?=some e->e.length=k/\Reads w O μ n b (o+i*k) e
theorem ReadsEs.vals {b k:Nat}:∀ {es:Ya (Ya AV)} {o:Nat},ReadsEs w O μ n b o k es->∃ vals:Ya Yd,vals.length=es.length*k/\(∀ j v,vals[j]?=some v->w.cell? ⟨b,o+j,none⟩=some v)/\(∀ v∈vals,v.oneCell'=true)/\
  ∀ (i:Nat) (e:Ya AV),es[i]?=some e->e.length=k/\∀ (j:Nat) (c:AV),e[j]?=some c->c.one=true/\∃ u,vals[i*k+j]?=some u/\VR w O μ n c u
 | [],o,_=>⟨[],by simp,λj v f=>by simp at f,λv g=>by simp at g,λj c f=>by simp at f⟩
 | e::es,o,hrd=>by
  obtain ⟨l,A⟩:=hrd 0 e rfl;have p:Reads w O μ n b o e:=by simpa using A
  obtain ⟨E,r,L,S,R⟩:=p.vals (o:=o);have t:ReadsEs w O μ n b (o+k) k es:=λi e' m=>by
   obtain ⟨C,F⟩:=hrd (i+1) e' (by simpa using m);refine ⟨C,?_⟩;rw [show o+k+i*k=o+(i+1)*k by rw [jcf]; omega];exact F
  obtain ⟨v2,g1,B,T,I⟩:=ReadsEs.vals t;refine ⟨E++v2,by simp [r,g1,l,jcf]; omega,λj v f=>?_,λv g=>?_,λi e' m=>?_⟩
  ·rw [jbu] at f;split at f
   ·exact L j v f
   ·rename_i s;have:=B _ v f;rw [r,l] at this s
    rwa [show o+k+(j-k)=o+j by omega] at this
  ·rcases jay.1 g with g | g
   ·exact S v g
   ·exact T v g
  ·cases i with
   | zero=>
    simp at m; subst m;refine ⟨l,λj c f=>?_⟩;obtain ⟨u,x,J⟩:=R j c f;refine ⟨(p j c f).1,u,?_,J⟩;simp only [Nat.zero_mul,jce];rw [jaq]
    ·exact x
    ·exact (jae.1 x).1
   | succ i=>
    obtain ⟨M,y⟩:=I i e' (by simpa using m);refine ⟨M,λj c f=>?_⟩;obtain ⟨G,u,H,z⟩:=y j c f;refine ⟨G,u,?_,z⟩;rw [jbj (by rw [r,l,jcf]; omega),r,l];rw [show (i+1)*k+j-k=i*k+j by rw [jcf]; omega];exact H
theorem kcT {b o:Nat} {vals:Ya Yd} (f:∀ j v,vals[j]?=some v->w.cell? ⟨b,o+j,none⟩=some v) {m:Nat} (c:vals.length=m) :
  (loadCells ⟨b,o,none⟩ m).run P w = .ok vals.toArray w:=by
 subst c;exact run_loadCells_list w ⟨b,o,none⟩ vals λj v e=>by rw [keF]; exact f j v e
abbrev K3:=AV->AH->Nat->Prop
def OpR (P:Ye) (o:Oper) (a:Act) (w:World) (O:Nat->Prop) (μ:Mu) (n:Nat) (K:K3):Prop:=
 ∃ u w' b v h' n',((execOp a.eval o).run P w = .ok (.value u) w'\/((execOp a.eval o).run P w = .ok .skip w'/\u=undef))/\K v h' n'/\HR w' O b h' n'/\VR w' O b n' v u/\Evo w μ n w' b n'
def aggO (P:Ye) (T:Yc):Yb Bool:=
 match P.underlying T with
 | some (.struct _) | some (.array _ _)=>some true
 | some _=>some false
 | none=>none
def fldO (P:Ye) (T:Yc) (f:Nat):Yb (Nat×Yc):=
 match P.underlying T with
 | some (.struct fs)=>(fs[f]?).bind λx=>if P.cellsOf x.type=0 then none else some (x.offset,x.type)
 | _=>none
def elemO (P:Ye) (T:Yc):Yb Yc:=
 match P.underlying T with
 | some (.slice e)=>some e
 | _=>none
def arrO (P:Ye) (T:Yc):Yb (Nat×Yc):=
 match P.underlying T with
 | some (.array m e)=>some (m,e)
 | _=>none
def intO (P:Ye) (T:Yc):Yb IntKind:=
 match P.underlying T with
 | some (.int k)=>some k
 | _=>none
def zeroO (P:Ye) (T:Yc):Yb (Ya AV):=
 (P.info? T).bind λi=>i.zero.bind λz=>if z.cells.all (·.oneCell')&&z.cells.size==i.size then some (z.cells.toList.map .sc) else none
def kax:AV->Yb (Ya AV)
 | .ag cs=>some cs
 | .ud | .un | .tp _ | .gs _=>none
 | a=>some [a]
section
variable {P:Ye} {o:Oper} {a:Act} {w:World} {O:Nat->Prop} {μ:Mu} {h:AH} {n:Nat} {K:K3}
theorem OpR.value {u:Yd} {v:AV} (hr:HR w O μ h n) (b:(execOp a.eval o).run P w = .ok (.value u) w) (e:VR w O μ n v u) (c:K v h n):OpR P o a w O μ n K:=
 ⟨u,w,μ,v,h,n,.inl b,c,hr,e,hr.refl⟩
theorem kal {s:Sem Yd} {u:Yd} {w':World} (h:s.run P w = .ok u w'):(do pure (Next.value (<-s)):Sem Next).run P w = .ok (.value u) w':=by simp [h]
theorem kdb {T:Yc} {d:TypeDesc} (h:P.underlying T=some d):∃ i,P.info? T=some i:=by
 unfold Program.underlying at h;cases b:P.info? T with
 | none=>simp [b] at h
 | some i=>exact ⟨i,rfl⟩
theorem kaB {T:Yc} {i:TypeInfo} (h:P.info? T=some i) (w:World):(sizeOf T).run P w = .ok (P.cellsOf T) w:=by
 simp [sizeOf,typeInfo,h,Program.cellsOf]
theorem kcJ {T:Yc} {x:Bool} (h:aggO P T=some x) (w:World):(isAgg T).run P w = .ok x w:=by
 unfold aggO at h;unfold isAgg;split at h
 ·rename_i b; cases h; simp [run_underlying b]
 ·rename_i b; cases h; simp [run_underlying b]
 ·rename_i d c h2 b;cases h;rw [Sem.run_bind,run_underlying b];simp only [Result.andThen_ok];rfl
 ·cases h
theorem kec {T:Yc} {x:Bool} (h:aggO P T=some x):∃ i,P.info? T=some i:=by
 unfold aggO at h;split at h
 ·rename_i b; exact kdb b
 ·rename_i b; exact kdb b
 ·rename_i b; exact kdb b
 ·cases h
def loadK (P:Ye) (h:AH) (n:Nat) (T:Yc) (cs:Ya AV) (K:K3):Prop:=
 match aggO P T with
 | some true=>P.cellsOf T<=cs.length/\K (.ag (cs.take (P.cellsOf T))) h n
 | some false=>∃ c,cs[0]?=some c/\K c h n
 | none=>False
theorem kuE {T:Yc} {x:Yf} (m:o.op = .load T x) (hr:HR w O μ h n) {p:AV} (hp:VR w O μ n p (a.eval x)) {cs:Ya AV} (t:deref h p=some cs) (f:loadK P h n T cs K):OpR P o a w O μ n K:=by
 obtain ⟨b,off,s,g⟩:=kkq hr hp t;unfold loadK at f;split at f
 ·rename_i e;obtain ⟨B,f⟩:=f;obtain ⟨i,z⟩:=kec e;obtain ⟨vals,l,h2,r,y⟩:=(g.take (P.cellsOf T)).vals;have k:vals.length=P.cellsOf T:=by rw [l,jbh]; omega
  refine OpR.value hr (u:=.agg vals.toArray) (v:=.ag (cs.take (P.cellsOf T))) ?_ ?_ f
  ·simp only [execOp,m,s];refine kal ?_;simp only [Instr.loadAt,Instr.sureAddr,pure_bind,loadVar,Sem.run_bind,kcJ e,Result.andThen_ok,if_true,kaB z,kcT h2 k,Sem.run_pure]
  ·exact VR.ag_of l (λj c A=>(g.take (P.cellsOf T) j c A).1) y
 ·rename_i e;obtain ⟨c,C,f⟩:=f;obtain ⟨l,u,h2,r⟩:=g 0 c C;refine OpR.value hr (u:=u) ?_ r f;simp only [execOp,m,s];refine kal ?_;simp only [Nat.add_zero] at h2;simp [Instr.loadAt,Instr.sureAddr,loadVar,kcJ e,h2]
 ·exact f.elim
theorem kpF {x:Yf} (b:o.op = .move x\/o.op = .assign x) (hr:HR w O μ h n) {v:AV} (e:VR w O μ n v (a.eval x)) (c:K v h n):OpR P o a w O μ n K:=by
 refine OpR.value hr (u:=a.eval x) ?_ e c;rcases b with b | b <;> simp [execOp,b]
theorem ktN {c x y:Yf} (f:o.op = .pick c x y) (hr:HR w O μ h n) {t:Bool} {b v2:AV} (g:VR w O μ n (.sc (.bool t)) (a.eval c)) (i:VR w O μ n b (a.eval x)) (h2:VR w O μ n v2 (a.eval y))
  (e:K (if t then b else v2) h n):OpR P o a w O μ n K:=by
 refine OpR.value hr (u:=if t then a.eval x else a.eval y) ?_ (by cases t <;> assumption) e;simp [execOp,f,g.bool_inv,asBool]
theorem kes {v:AV} {u:Yd} (s:VR w O μ n v u) {cs:Ya AV} (f:kax v=some cs):u.cells.size=cs.length/\(∀ x∈u.cells.toList,x.oneCell'=true)/\
  ∀ (j:Nat) (c:AV),cs[j]?=some c->c.one=true/\∃ y,u.cells[j]?=some y/\VR w O μ n c y:=by
 have b:∀ {v:AV} {u:Yd},VR w O μ n v u->v.one=true->u.cells.size=[v].length/\(∀ x∈u.cells.toList,x.oneCell'=true)/\∀ (j:Nat) (c:AV),[v][j]?=some c->c.one=true/\∃ y,u.cells[j]?=some y/\VR w O μ n c y:=by
  intro v u s g;have r:=s.one g;have z:u.cells = #[u]:=by cases u <;> first | rfl | (simp [Value.oneCell'] at r; done)
  rw [z];refine ⟨rfl,λx t=>by simp at t; subst t; exact r,λj c e=>?_⟩;cases j with
  | zero=>simp at e; subst e; exact ⟨g,u,rfl,s⟩
  | succ j=>simp at e
 have p:=s;cases s with
 | ag k vs us A m g l=>
  simp only [kax,Option.some.injEq] at f;subst f;refine ⟨A,λx t=>?_,λj c e=>⟨g j c e,us j,m j c e,l j c e⟩⟩;obtain ⟨j,e,rfl⟩:=List.getElem_of_mem t;simp only [Value.cells,jcg] at e;have i:j<k.length:=by omega
  have:=m j k[j] (jaf i);have h2:=(l j k[j] (jaf i)).one (g j _ (jaf i));simp only [Value.cells,Array.getElem_toList];rw [jao e] at this;rw [Option.some.inj this];exact h2
 | ud=>simp [kax] at f
 | gs es=>simp [kax] at f
 | un _=>simp [kax] at f
 | tp _ _ _ _ _ _=>simp [kax] at f
 | sc _ g=>simp only [kax,Option.some.injEq] at f; subst f; exact b p g
 | _=>simp only [kax,Option.some.injEq] at f; subst f; exact b p rfl
theorem keg (hr:HR w O μ h n) (T:Yc) (c:Array Yd) (k:Nat) (es:Ya (Ya AV))
  (b:∀ (i:Nat) (e:Ya AV),es[i]?=some e->e.length=k/\∀ (j:Nat) (x:AV),e[j]?=some x->x.one=true/\∃ u,c[i*k+j]?=some u/\VR w O μ n x u) :
  Evo w μ n (w.alloc (.cells c T)) (updM μ n (w.heap.size,k)) (n+1)/\HR (w.alloc (.cells c T)) O (updM μ n (w.heap.size,k)) (updH h n (.cells k T es)) (n+1):=by
 have f:=Evo.alloc hr (.cells c T) k;refine ⟨f,hr.alloc _ k _ ⟨w.heap.size,c,by simp [updM],kaQ _ _,λi e g=>⟨(b i e g).1,λj x l=>?_⟩⟩⟩;obtain ⟨m,u,h2,p⟩:=(b i e g).2 j x l;exact ⟨m,u,h2,p.evo f⟩
theorem VR.own_new (w:World) (O:Nat->Prop) (μ:Mu) (n:Nat) (c:Array Yd) (T:Yc) (k:Nat):VR (w.alloc (.cells c T)) O (updM μ n (w.heap.size,k)) (n+1) (.own n 0 0) (.pointer (some ⟨w.heap.size,0,none⟩)):=by
 refine .own n 0 0 _ (by omega) rfl λb f e=>?_;simp [updM] at e;obtain ⟨rfl,rfl⟩:=e;simp
theorem kuW {T:Yc} {x:Yf} (f:o.op = .box T x) (hr:HR w O μ h n) {v:AV} (m:VR w O μ n v (a.eval x)) {cs:Ya AV} (p:kax v=some cs)
  (c:K (.own n 0 0) (updH h n (.cells cs.length T [cs])) (n+1)):OpR P o a w O μ n K:=by
 obtain ⟨r,_,h2⟩:=kes m p;obtain ⟨k,g⟩:=keg hr T (a.eval x).cells cs.length [cs] (λi e b=>by
  cases i with
  | zero=>simp at b; subst b; exact ⟨rfl,λj y l=>by simpa using h2 j y l⟩
  | succ i=>simp at b)
 refine ⟨_,_,_,_,_,_,.inl ?_,c,g,VR.own_new w O μ n _ T cs.length,k⟩;simp [execOp,f,Instr.box,newVar,newRow]
theorem ksI {T:Yc} (r:o.op = .alloc T) (hr:HR w O μ h n) {z:Ya AV} (hz:zeroO P T=some z)
  (p:K (.own n 0 0) (updH h n (.cells z.length T [z])) (n+1)):OpR P o a w O μ n K:=by
 unfold zeroO at hz;simp only [jaa] at hz;obtain ⟨i,c,k,f,hz⟩:=hz;split at hz
 ·rename_i b;cases hz;simp only [jad,jcj] at b;obtain ⟨t,s⟩:=keg hr T k.cells (k.cells.toList.map AV.sc).length [k.cells.toList.map .sc] (λi e c=>by
   cases i with
   | zero=>
    simp at c; subst c;refine ⟨rfl,λj y m=>?_⟩;simp only [jas,jac] at m;obtain ⟨x,g,rfl⟩:=m;simp only [jcs] at g;have l:=b.1 x (Array.mem_of_getElem? g);exact ⟨l,x,by simpa using g,.sc x l⟩
   | succ i=>simp at c)
  refine ⟨_,_,_,_,_,_,.inl ?_,p,s,VR.own_new w O μ n _ T _,t⟩;simp [execOp,r,Instr.alloc,zeroValue,typeInfo,c,f,newVar,newRow]
 ·cases hz
end
section
variable {P:Ye} {o:Oper} {a:Act} {w:World} {O:Nat->Prop} {μ:Mu} {h:AH} {n:Nat} {K:K3}
theorem VR.int_inv {k:IntKind} {x:Int} {u:Yd} (b:VR w O μ n (.sc (.int k x)) u):u = .int k x:=by cases b; rfl
theorem VR.sc_inv {x u:Yd} (b:VR w O μ n (.sc x) u):u=x:=by cases b; rfl
theorem knA {T:Yc} {f d:Nat} {t:Yc} (b:fldO P T f=some (d,t)):∃ c x,P.underlying T=some (.struct c)/\c[f]?=some x/\x.offset=d/\x.type=t/\P.cellsOf t≠0:=by
 unfold fldO at b;split at b
 ·rename_i c i;cases e:c[f]? with
  | none=>simp [e] at b
  | some x=>
   simp [e] at b;obtain ⟨j,h2,g⟩:=b;exact ⟨c,x,i,e,h2,g,by rw [<-g]; exact j⟩
 ·cases b
theorem kbw {T:Yc} (b:P.cellsOf T≠0):∃ i,P.info? T=some i:=by
 unfold Program.cellsOf at b;cases c:P.info? T with
 | none=>simp [c] at b
 | some i=>exact ⟨i,rfl⟩
theorem kkF {T:Yc} {f d:Nat} {t:Yc} (e:fldO P T f=some (d,t)) (b off:Nat) (w:World):(Instr.fieldAt T (.pointer (some ⟨b,off,none⟩)) f).run P w = .ok (.pointer (some ⟨b,off+d,none⟩)) w:=by
 obtain ⟨m,x,j,h2,k,g,c⟩:=knA e;obtain ⟨i,l⟩:=kbw c;subst g;simp [Instr.fieldAt,run_underlying j,h2,Instr.sureAddr,fieldPlace,kaB l,c,keF,k]
theorem kls {T:Yc} {x:Yf} {f d:Nat} {t:Yc} (r:o.op = .fieldAddr T x f) (hr:HR w O μ h n) (p:fldO P T f=some (d,t)) {cs:Ya AV} (k:VR w O μ n (.fp cs) (a.eval x))
  (l:K (.fp (cs.drop d)) h n):OpR P o a w O μ n K:=by
 generalize s:a.eval x=u at k;cases k with
 | fp _ b off us hA v m i=>
  refine OpR.value hr (u:=.pointer (some ⟨b,off+d,none⟩)) ?_ ?_ l
  ·simp only [execOp,r,s];exact kal (kkF p b off w)
  ·refine .fp _ b (off+d) (λj=>us (d+j)) (λg=>hA (by rintro rfl; simp at g)) (λj c e=>?_) (λj c e=>?_) (λj c e=>?_)
   ·rw [jau] at e; rw [jef]; exact v _ c e
   ·rw [jau] at e; exact m _ c e
   ·rw [jau] at e; exact i _ c e
theorem keO (hr:HR w O μ h n) {id k:Nat} {T:Yc} {es:Ya (Ya AV)} (hB:h id=some (.cells k T es)) {i j:Nat} {u:Yd} (e:VR w O μ n (.own id i j) u) :
  ∃ b c,μ id=some (b,k)/\w.heap[b]?=some (.cells c T (0,0))/\u = .pointer (some ⟨b,i*k+j,none⟩)/\id<n:=by
 obtain ⟨b,c,f,h2,m⟩:=hr.own_cells hB;cases e with
 | own _ _ _ _ l g e=>exact ⟨b,c,f,h2,e b k f,l⟩
theorem VR.own_mk (hr:HR w O μ h n) {id b k i j:Nat} (c:μ id=some (b,k)):VR w O μ n (.own id i j) (.pointer (some ⟨b,i*k+j,none⟩)):=
 .own id i j _ (hr.scope id b k c).1 rfl λb' f e=>by rw [c] at e; cases e; rfl
theorem kkj {T:Yc} {x:Yf} {f d:Nat} {t:Yc} (m:o.op = .fieldAddr T x f) (hr:HR w O μ h n) (l:fldO P T f=some (d,t)) {id i j k:Nat} {T':Yc} {es:Ya (Ya AV)}
  (hB:h id=some (.cells k T' es)) (r:VR w O μ n (.own id i j) (a.eval x)) (e:K (.own id i (j+d)) h n):OpR P o a w O μ n K:=by
 obtain ⟨b,c,g,h2,p,s⟩:=keO hr hB r;refine OpR.value hr (u:=.pointer (some ⟨b,i*k+j+d,none⟩)) ?_ ?_ e
 ·simp only [execOp,m,p];exact kal (kkF l b _ w)
 ·rw [jef]; exact VR.own_mk hr g
theorem kbD {T e:Yc} (b:elemO P T=some e):P.underlying T=some (.slice e):=by
 unfold elemO at b;split at b
 ·cases b; assumption
 ·cases b
theorem knv {T e:Yc} {m:Nat} (b:arrO P T=some (m,e)):P.underlying T=some (.array m e):=by
 unfold arrO at b;split at b
 ·cases b; assumption
 ·cases b
theorem khD {T e:Yc} (f:elemO P T=some e) {c:TypeInfo} (m:P.info? e=some c) (b off len cap:Nat) (k:IntKind) (i:Int) (j:0<=i) (g:i<len) (w:World) :
  (Instr.indexAt T (.slice (some ⟨b,off,none⟩) len cap) (.int k i)).run P w = .ok (.pointer (some ⟨b,off+i.toNat*P.cellsOf e,none⟩)) w:=by
 have l:=kbD f;simp [Instr.indexAt,run_underlying l,asIntOf,j,g,kaB m,keF]
theorem klj {T e:Yc} {x y:Yf} (H:o.op = .indexAddr T x y) (hr:HR w O μ h n) (L:elemO P T=some e) {es:Ya (Ya AV)} (B:VR w O μ n (.sl es) (a.eval x))
  {k:IntKind} {i:Int} (J:VR w O μ n (.sc (.int k i)) (a.eval y)) (E:0<=i) {c:Ya AV} (f:es[i.toNat]?=some c) (g:c.length=P.cellsOf e) (C:c.length≠0) (F:K (.fp c) h n):OpR P o a w O μ n K:=by
 generalize I:a.eval x=u at B;obtain ⟨R,v⟩:=kbw (P:=P) (T:=e) (by omega);have m:i.toNat<es.length:=(jae.1 f).1;cases B with
 | slnil=>simp at m
 | sl _ b off cap M us z A hA r s G p=>
  have t:=r _ _ f;refine OpR.value hr (u:=.pointer (some ⟨b,off+i.toNat*P.cellsOf e,none⟩)) ?_ ?_ F
  ·simp only [execOp,H,I,J.int_inv];exact kal (khD L v b off _ cap k i E (by omega) w)
  ·rw [<-g,t];exact .fp c b _ (us i.toNat) (λhn=>hA _ c f hn) (λj y l=>s _ c f j y l) (λj y l=>G _ c f j y l) (λj y l=>p _ c f j y l)
theorem keX (hr:HR w O μ h n) {id k off len:Nat} {T:Yc} {es:Ya (Ya AV)} (hB:h id=some (.cells k T es)) {u:Yd} (g:VR w O μ n (.ms id off len) u) :
  ∃ b c e cap,μ id=some (b,k)/\w.heap[b]?=some (.cells c T (0,0))/\u = .slice (some ⟨b,e,none⟩) len cap/\id<n/\len<=cap/\cap<=maxLen/\(cap≠0->e=off*k)/\(off+cap)*k=c.size:=by
 obtain ⟨b,c,i,h2,v⟩:=hr.own_cells hB;cases g with
 | ms _ _ _ _ r p g=>
  obtain ⟨e,cap,t,T',g1,l,s,m,f,j⟩:=g b k i;rw [h2] at f;simp only [Option.some.injEq,Obj.cells.injEq] at f;obtain ⟨rfl,rfl,_⟩:=f;exact ⟨b,c,e,cap,i,h2,g1,r,l,s,m,j⟩
theorem klm {T e:Yc} {x y:Yf} (z:o.op = .indexAddr T x y) (hr:HR w O μ h n) (B:elemO P T=some e) {id off len g:Nat} {T':Yc} {es:Ya (Ya AV)} (hB:h id=some (.cells g T' es))
  (f:g=P.cellsOf e) (p:g≠0) (C:VR w O μ n (.ms id off len) (a.eval x))
  {k:IntKind} {i:Int} (A:VR w O μ n (.sc (.int k i)) (a.eval y)) (r:0<=i) (t:i<len) (s:K (.own id (off+i.toNat) 0) h n):OpR P o a w O μ n K:=by
 obtain ⟨b,c,m,cap,g1,G,E,I,L,F,v,H⟩:=keX hr hB C;obtain ⟨J,l⟩:=kbw (P:=P) (T:=e) (by omega);refine OpR.value hr (u:=.pointer (some ⟨b,m+i.toNat*P.cellsOf e,none⟩)) ?_ ?_ s
 ·simp only [execOp,z,E,A.int_inv];exact kal (khD B l b m len cap k i r t w)
 ·rw [v (by omega),<-f,<-jcf];exact VR.own_mk (i:=off+i.toNat) (j:=0) hr g1
theorem khh {T e:Yc} {m:Nat} (f:arrO P T=some (m,e)) {c:TypeInfo} (p:P.info? e=some c) (b off:Nat) (k:IntKind) (i:Int) (j:0<=i) (g:i<m) (w:World) :
  (Instr.indexAt T (.pointer (some ⟨b,off,none⟩)) (.int k i)).run P w = .ok (.pointer (some ⟨b,off+i.toNat*P.cellsOf e,none⟩)) w:=by
 have l:=knv f;simp [Instr.indexAt,run_underlying l,asIntOf,j,g,kaB p,keF,Instr.sureAddr]
theorem khT {T e:Yc} {m:Nat} {x y:Yf} (t:o.op = .indexAddr T x y) (hr:HR w O μ h n) (z:arrO P T=some (m,e)) (f:P.cellsOf e≠0) {id i0 j l:Nat} {T':Yc} {es:Ya (Ya AV)} (hB:h id=some (.cells l T' es))
  (A:VR w O μ n (.own id i0 j) (a.eval x)) {k:IntKind} {i:Int} (v:VR w O μ n (.sc (.int k i)) (a.eval y)) (p:0<=i) (s:i<m) (r:K (.own id i0 (j+i.toNat*P.cellsOf e)) h n):OpR P o a w O μ n K:=by
 obtain ⟨b,c,g1,C,B,E⟩:=keO hr hB A;obtain ⟨F,g⟩:=kbw f;refine OpR.value hr (u:=.pointer (some ⟨b,i0*l+j+i.toNat*P.cellsOf e,none⟩)) ?_ ?_ r
 ·simp only [execOp,t,B,v.int_inv];exact kal (khh z g b _ k i p s w)
 ·rw [jef]; exact VR.own_mk hr g1
theorem khZ {T e:Yc} {m:Nat} {x y:Yf} (A:o.op = .indexAddr T x y) (hr:HR w O μ h n) (E:arrO P T=some (m,e)) (g:P.cellsOf e≠0) {cs:Ya AV}
  (s:VR w O μ n (.fp cs) (a.eval x)) {k:IntKind} {i:Int} (C:VR w O μ n (.sc (.int k i)) (a.eval y)) (t:0<=i) (z:i<m) (v:K (.fp (cs.drop (i.toNat*P.cellsOf e))) h n):OpR P o a w O μ n K:=by
 generalize B:a.eval x=u at s;obtain ⟨G,r⟩:=kbw g;cases s with
 | fp _ b off us hA F p l=>
  refine OpR.value hr (u:=.pointer (some ⟨b,off+i.toNat*P.cellsOf e,none⟩)) ?_ ?_ v
  ·simp only [execOp,A,B,C.int_inv];exact kal (khh E r b off k i t z w)
  ·refine .fp _ b _ (λj=>us (i.toNat*P.cellsOf e+j)) (λg=>hA (by rintro rfl; simp at g)) (λj c f=>?_) (λj c f=>?_) (λj c f=>?_)
   ·rw [jau] at f; rw [jef]; exact F _ c f
   ·rw [jau] at f; exact p _ c f
   ·rw [jau] at f; exact l _ c f
theorem VR.ag_cells {cs:Ya AV} {u:Yd} (f:VR w O μ n (.ag cs) u):∃ vs,u = .agg vs/\vs.size=cs.length/\∀ (j:Nat) (c:AV),cs[j]?=some c->c.one=true/\∃ y,vs[j]?=some y/\VR w O μ n c y:=by
 cases f with
 | ag _ vs us g k i e=>exact ⟨vs,rfl,g,λj c b=>⟨i j c b,us j,k j c b,e j c b⟩⟩
def partK (P:Ye) (t:Yc) (cs:Ya AV) (d:Nat) (K:AV->Prop):Prop:=
 match aggO P t with
 | some true=>K (.ag ((cs.drop d).take (P.cellsOf t)))
 | some false=>∃ c,cs[d]?=some c/\K c
 | none=>False
theorem klV {t:Yc} {cs:Ya AV} {vs:Array Yd} {d:Nat} {p:AV->Prop} (s:vs.size=cs.length) (m:∀ (j:Nat) (c:AV),cs[j]?=some c->c.one=true/\∃ y,vs[j]?=some y/\VR w O μ n c y) (e:partK P t cs d p) :
  ∃ u v,(part t vs d).run P w = .ok u w/\p v/\VR w O μ n v u:=by
 unfold partK at e;split at e
 ·rename_i b;obtain ⟨i,x⟩:=kec b;refine ⟨.agg (vs.extract d (d+P.cellsOf t)),_,?_,e,?_⟩
  ·simp [part,kcJ b,kaB x]
  ·refine .ag _ _ (λj=>vs.getD (d+j) undef) ?_ (λj c f=>?_) (λj c f=>?_) (λj c f=>?_)
   ·simp [s]; omega
   all_goals
    rw [jbs] at f;split at f;case isFalse=>cases f
    rw [jau] at f;obtain ⟨l,y,h2,g⟩:=m _ c f
   ·have r:=(jaj.1 h2).1;rw [Array.getElem?_extract];rw [if_pos (by omega),jag,h2]; rfl
   ·exact l
   ·rw [jag,h2]; exact g
 ·rename_i b;obtain ⟨c,k,e⟩:=e;obtain ⟨l,y,h2,g⟩:=m d c k;refine ⟨y,c,?_,e,g⟩;simp [part,kcJ b,h2]
 ·exact e.elim
theorem ktu {T:Yc} {x:Yf} {f d:Nat} {t:Yc} (j:o.op = .field T x f) (hr:HR w O μ h n) (i:fldO P T f=some (d,t)) {cs:Ya AV} (p:VR w O μ n (.ag cs) (a.eval x))
  (c:partK P t cs d (λv=>K v h n)):OpR P o a w O μ n K:=by
 obtain ⟨A,z,g,h2,l,e,y⟩:=knA i;obtain ⟨vs,k,m,r⟩:=p.ag_cells;obtain ⟨u,v,g1,b,s⟩:=klV m r c;refine OpR.value hr (u:=u) ?_ s b;simp only [execOp,j,k];refine kal ?_;subst l e;simp [Instr.field,run_underlying g,h2,asAgg,g1]
theorem koi {T e:Yc} {m:Nat} {x y:Yf} (r:o.op = .index T x y) (hr:HR w O μ h n) (A:arrO P T=some (m,e)) (b:P.cellsOf e≠0) {cs:Ya AV} (B:VR w O μ n (.ag cs) (a.eval x))
  {k:IntKind} {i:Int} (z:VR w O μ n (.sc (.int k i)) (a.eval y)) (g:0<=i) (p:i<m) (l:partK P e cs (i.toNat*P.cellsOf e) (λv=>K v h n)):OpR P o a w O μ n K:=by
 obtain ⟨vs,s,t,C⟩:=B.ag_cells;obtain ⟨u,v,g1,j,E⟩:=klV t C l;obtain ⟨F,f⟩:=kbw b;have c:=knv A;refine OpR.value hr (u:=u) ?_ E j;simp only [execOp,r,s,z.int_inv];refine kal ?_;simp [Instr.index,run_underlying c,asIntOf,g,p,kaB f,g1]
theorem kor {T:Yc} {x y:Yf} (e:o.op = .index T x y) (hr:HR w O μ h n) (f:P.underlying T=some .string) {s:ByteArray} (g:VR w O μ n (.sc (.string s)) (a.eval x))
  {k:IntKind} {i:Int} (m:VR w O μ n (.sc (.int k i)) (a.eval y)) (j:0<=i) {b:UInt8} (l:s[i.toNat]?=some b) (c:K (.sc (.int .u8 b.toNat)) h n):OpR P o a w O μ n K:=by
 refine OpR.value hr (u:=.int .u8 b.toNat) ?_ (.sc _ rfl) c;simp only [execOp,e,g.sc_inv,m.int_inv];refine kal ?_;simp [Instr.index,run_underlying f,asIntOf,j,l]
theorem kqS {x:Yf} {i:Nat} (k:o.op = .extract x i) (hr:HR w O μ h n) {cs:Ya AV} (f:VR w O μ n (.tp cs) (a.eval x)) {c:AV} (g:cs[i]?=some c) (j:K c h n):OpR P o a w O μ n K:=by
 generalize l:a.eval x=u at f;cases f with
 | tp _ vs us m b e=>
  refine OpR.value hr (u:=us i) ?_ (e i c g) j;simp only [execOp,k,l];refine kal ?_;simp [Instr.extract,b i c g]
theorem kqh {f:FuncId} {b:Array Yf} (i:o.op = .makeFunc (.func f) #[] b) (hr:HR w O μ h n) {env:Env} (l:∀ x,VR w O μ n (ev env x) (a.eval x)) (k:K (.fn f (b.toList.map (ev env))) h n):OpR P o a w O μ n K:=by
 refine OpR.value hr (u:=.func (.func f) #[] (b.map a.eval)) ?_ ?_ k
 ·simp [execOp,i,Instr.makeFunc]
 ·refine .fn f _ _ (λj=>(b.map a.eval).getD j undef) (by simp) (λj c e=>?_) (λj c e=>?_);all_goals
   simp only [jas,jac] at e;obtain ⟨x,g,rfl⟩:=e;simp only [jcs] at g
  ·simp [g]
  ·simp only [jag,Array.getElem?_map,g,jcb,jcc]; exact l x
theorem klB {x:Yf} (g:o.op = .nilCheck x) (hr:HR w O μ h n) {cs:Ya AV} (e:VR w O μ n (.fp cs) (a.eval x)) (i:K (.fp cs) h n):OpR P o a w O μ n K:=by
 have c:=e;generalize f:a.eval x=u at e;cases e with
 | fp _ b off us hA l k j=>
  rw [f] at c;refine OpR.value hr ?_ c i;simp [execOp,g,f]
theorem kkQ {x:Yf} (f:o.op = .nilCheck x) (hr:HR w O μ h n) {id i j k:Nat} {T:Yc} {es:Ya (Ya AV)} (hB:h id=some (.cells k T es)) (e:VR w O μ n (.own id i j) (a.eval x)) (g:K (.own id i j) h n):OpR P o a w O μ n K:=by
 obtain ⟨b,c,g1,p,l,m⟩:=keO hr hB e;refine OpR.value hr (u:=a.eval x) ?_ e g;simp [execOp,f,l]
theorem klN {x:Yf} (i:o.op = .nilCheck x) (hr:HR w O μ h n) {f:FuncId} {b:Ya AV} (e:VR w O μ n (.fn f b) (a.eval x)) (j:K (.fn f b) h n):OpR P o a w O μ n K:=by
 have c:=e;generalize g:a.eval x=u at e;cases e with
 | fn _ _ vs us _ _ _=>
  rw [g] at c;refine OpR.value hr ?_ c j;simp [execOp,i,g]
theorem kuV {x:Yf} (t:Yc) (e:o.op = .unOp .not t x) (hr:HR w O μ h n) {b:Bool} (f:VR w O μ n (.sc (.bool b)) (a.eval x)) (c:K (.sc (.bool (!b))) h n):OpR P o a w O μ n K:=by
 refine OpR.value hr (u:=.bool !b) ?_ (.sc _ rfl) c;simp [execOp,e,f.bool_inv,Op.unary]
theorem kvu {x:Yf} (t:Yc) (c:o.op = .unOp .neg t x) (hr:HR w O μ h n) {k:IntKind} {i:Int} (e:VR w O μ n (.sc (.int k i)) (a.eval x)) (b:K (.sc (.int k (k.wrap (0-i)))) h n):OpR P o a w O μ n K:=by
 refine OpR.value hr (u:=.int k (k.wrap (0-i))) ?_ (.sc _ rfl) b;simp [execOp,c,e.int_inv,Op.unary,Op.intArith]
theorem klJ {S T:Yc} {x:Yf} (f:o.op = .convert S T x) (hr:HR w O μ h n) {k b:IntKind} {i:Int} (hS:(P.underlying S).isSome=true) (hT:intO P T=some b) (g:VR w O μ n (.sc (.int k i)) (a.eval x))
  (e:K (.sc (.int b (b.wrap i))) h n):OpR P o a w O μ n K:=by
 have hT':P.underlying T=some (.int b):=by
  unfold intO at hT; split at hT
  ·cases hT; assumption
  ·cases hT
 obtain ⟨d,c⟩:=jan.1 hS;refine OpR.value hr (u:=.int b (b.wrap i)) ?_ (.sc _ rfl) e;simp only [execOp,f,g.int_inv];exact kal (by simp [convert,run_underlying c,run_underlying hT',Conv.intToInt])
theorem khG {S T:Yc} {x:Yf} (c:o.op = .convert S T x) (hr:HR w O μ h n) {u b:Yd} (f:VR w O μ n (.sc u) (a.eval x)) (i:∀ w,(convert S T u).run P w = .ok b w) (g:b.oneCell'=true)
  (e:K (.sc b) h n):OpR P o a w O μ n K:=by
 refine OpR.value hr (u:=b) ?_ (.sc _ g) e;simp only [execOp,c,f.sc_inv];exact kal (i w)
end
def bitsI (c:BinOp) (k:IntKind) (x y:Int):Int:=
 let a:=BitVec.ofInt k.bits x
 let b:=BitVec.ofInt k.bits y
 match c with
 | .and=>k.wrap (a &&& b).toNat
 | .or=>k.wrap (a ||| b).toNat
 | .xor=>k.wrap (a ^^^ b).toNat
 | _=>k.wrap (a &&& ~~~b).toNat
def abinI (c:BinOp) (k:IntKind) (x:Int) (b:IntKind) (y:Int) (K:AV->Prop):Prop:=
 match c with
 | .shl=>0<=y/\K (.sc (.int k (k.wrap (x*2 ^ (min y.toNat k.bits)))))
 | .shr=>0<=y/\K (.sc (.int k (x.fdiv (2 ^ (min y.toNat k.bits)))))
 | .add=>k=b/\K (.sc (.int k (k.wrap (x+y))))
 | .sub=>k=b/\K (.sc (.int k (k.wrap (x-y))))
 | .mul=>k=b/\K (.sc (.int k (k.wrap (x*y))))
 | .quo=>k=b/\y≠0/\K (.sc (.int k (k.wrap (x.tdiv y))))
 | .rem=>k=b/\y≠0/\K (.sc (.int k (x.tmod y)))
 | .and=>k=b/\K (.sc (.int k (bitsI .and k x y)))
 | .or=>k=b/\K (.sc (.int k (bitsI .or k x y)))
 | .xor=>k=b/\K (.sc (.int k (bitsI .xor k x y)))
 | .andNot=>k=b/\K (.sc (.int k (bitsI .andNot k x y)))
 | .eql=>k=b/\K (.sc (.bool (x==y)))
 | .neq=>k=b/\K (.sc (.bool (x != y)))
 | .lss=>k=b/\K (.sc (.bool (decide (x<y))))
 | .leq=>k=b/\K (.sc (.bool (decide (x<=y))))
 | .gtr=>k=b/\K (.sc (.bool (decide (y<x))))
 | .geq=>k=b/\K (.sc (.bool (decide (y<=x))))
def abinS (b:BinOp) (x y:ByteArray) (K:AV->Prop):Prop:=
 match b with
 | .add=>x.size+y.size<=9223372036854775807/\K (.sc (.string (x++y)))
 | .eql=>K (.sc (.bool (x.toList==y.toList)))
 | .neq=>K (.sc (.bool (!(x.toList==y.toList))))
 | .lss=>K (.sc (.bool (Op.bytesLess x.toList y.toList)))
 | .leq=>K (.sc (.bool (Op.bytesLess x.toList y.toList||x.toList==y.toList)))
 | .gtr=>K (.sc (.bool (!(Op.bytesLess x.toList y.toList||x.toList==y.toList))))
 | .geq=>K (.sc (.bool (!(Op.bytesLess x.toList y.toList))))
 | _=>False
def Cmp (P:Ye) (h:AH) (c:BinOp) (T:Yc) (x y:AV) (S:Bool->Prop):Prop:=
 ∀ (w:World) (O:Nat->Prop) (μ:Mu) (n:Nat) (u v:Yd) (X Y:Yf),HR w O μ h n->VR w O μ n x u->VR w O μ n y v->∃ b,S b/\(do eqGuard c T X Y u v; binOp c T u v:Sem Yd).run P w = .ok (.bool b) w
def abin (P:Ye) (h:AH) (c:BinOp) (T:Yc) (x y:AV) (K:AV->Prop):Prop:=
 match x,y with
 | .sc (.int k a),.sc (.int k' b)=>abinI c k a k' b K
 | .sc (.string a),.sc (.string b)=>abinS c a b K
 | .sc (.bool a),.sc (.bool b)=>P.underlying T=some .bool/\(match c with | .eql=>K (.sc (.bool (a==b))) | .neq=>K (.sc (.bool (!(a==b)))) | _=>False)
 | x,y=>∃ S,Cmp P h c T x y S/\∀ b,S b->K (.sc (.bool b))
section
variable {P:Ye} {o:Oper} {a:Act} {w:World} {O:Nat->Prop} {μ:Mu} {h:AH} {n:Nat} {K:K3}
theorem kdV (b:BinOp) (T:Yc) (X Y:Yf) {u v:Yd} (c:∀ cs,u≠.agg cs) (h2:u≠.nilIface) (w:World):(eqGuard b T X Y u v).run P w = .ok () w:=by
 unfold eqGuard;cases u <;> first | exact absurd rfl (c _) | exact absurd rfl h2 | (cases b <;> simp)
theorem kqX {e:BinOp} {k f:IntKind} {x y:Int} {g:AV->Prop} (b:abinI e k x f y g) (T:Yc) (w:World):∃ v,(binOp e T (.int k x) (.int f y)).run P w = .ok v w/\v.oneCell'=true/\g (.sc v):=by
 cases e;case shl=>obtain ⟨c,b⟩:=b; exact ⟨_,by simp [binOp,Op.shift,show ¬ y<0 by omega],rfl,b⟩
 case shr=>obtain ⟨c,b⟩:=b; exact ⟨_,by simp [binOp,Op.shift,show ¬ y<0 by omega],rfl,b⟩
 case quo=>obtain ⟨rfl,c,b⟩:=b; exact ⟨_,by simp [binOp,Op.intDiv,c],rfl,b⟩
 case rem=>obtain ⟨rfl,c,b⟩:=b; exact ⟨_,by simp [binOp,Op.intDiv,c],rfl,b⟩
 all_goals
  obtain ⟨rfl,b⟩:=b;refine ⟨_,?_,?_,b⟩
  ·simp [binOp,Op.intArith,Op.intCmp,Op.intBits,bitsI]
  ·rfl
theorem kqO {c:BinOp} {x y:ByteArray} {e:AV->Prop} (b:abinS c x y e) (T:Yc) (w:World):∃ v,(binOp c T (.string x) (.string y)).run P w = .ok v w/\v.oneCell'=true/\e (.sc v):=by
 cases c;case add=>
  obtain ⟨f,b⟩:=b;refine ⟨_,?_,rfl,b⟩;have:¬ ((x.size+y.size:Nat):Int)>IntKind.i64.max:=by simp [IntKind.max,IntKind.signed,IntKind.bits]; omega
  simp only [binOp,Op.stringOp];rw [if_neg this];rfl
 all_goals first | exact b.elim | exact ⟨_,by simp [binOp,Op.stringOp],rfl,b⟩
theorem ktr {m:BinOp} {T B:Yc} {x y:Yf} (l:o.op = .binOp m T x y B) (hr:HR w O μ h n) {z v2:AV} (g:VR w O μ n z (a.eval x)) (h2:VR w O μ n v2 (a.eval y))
  (f:abin P h m T z v2 (λv=>K v h n)):OpR P o a w O μ n K:=by
 unfold abin at f;split at f
 ·rename_i k i C j;obtain ⟨v,g1,p,r⟩:=kqX (P:=P) f T w;refine OpR.value hr (u:=v) ?_ (.sc v p) r;simp only [execOp,l,g.int_inv,h2.int_inv];refine kal ?_;rw [Sem.run_bind,kdV m T x y (by intro cs c; cases c) (by intro c; cases c)];exact g1
 ·rename_i s t;obtain ⟨v,g1,p,r⟩:=kqO (P:=P) f T w;refine OpR.value hr (u:=v) ?_ (.sc v p) r;simp only [execOp,l,g.sc_inv,h2.sc_inv];refine kal ?_;rw [Sem.run_bind,kdV m T x y (by intro cs c; cases c) (by intro c; cases c)];exact g1
 ·rename_i s t;obtain ⟨hT,f⟩:=f;split at f
  ·refine OpR.value hr (u:=.bool (s==t)) ?_ (.sc _ rfl) f;simp only [execOp,l,g.sc_inv,h2.sc_inv];refine kal ?_;rw [Sem.run_bind,kdV _ T x y (by intro cs c; cases c) (by intro c; cases c)];exact run_eql_bool w T s t hT
  ·refine OpR.value hr (u:=.bool (!(s==t))) ?_ (.sc _ rfl) f;simp only [execOp,l,g.sc_inv,h2.sc_inv];refine kal ?_;rw [Sem.run_bind,kdV _ T x y (by intro cs c; cases c) (by intro c; cases c)];exact run_neq_bool w T s t hT
  ·exact f.elim
 ·obtain ⟨S,c,f⟩:=f;obtain ⟨b,A,e⟩:=c w O μ n _ _ x y hr g h2;refine OpR.value hr (u:=.bool b) ?_ (.sc _ rfl) (f b A);simp only [execOp,l];exact kal e
theorem keV {α:Type} (l vs:Ya α) (p:Nat) (hp:p+vs.length<=l.length) (q:Nat):(l.take p++vs++l.drop (p+vs.length))[q]?=if p<=q/\q<p+vs.length then vs[q-p]? else l[q]?:=by
 have c:(l.take p).length=p:=by rw [jbh]; omega
 split
 ·rename_i h;rw [jaw,jbj (by omega),c,jaq (by omega)]
 ·rename_i h;rcases jbz q p with b | b
  ·rw [jaw,jaq (by omega),jbs,if_pos b]
  ·rw [jbj (by simp; omega),jau];congr 1;simp; omega
theorem kqF (hr:HR w O μ h n) {id k b i j:Nat} {T:Yc} {es:Ya (Ya AV)} {c:Array Yd} (R:μ id=some (b,k)) (y:w.heap[b]?=some (.cells c T (0,0)))
  (hB:h id=some (.cells k T es)) {e:Ya AV} (H:es[i]?=some e) {xs:Ya AV} {us:Ya Yd} (hl:us.length=xs.length) (C:j+xs.length<=e.length)
  (X:∀ x∈us,x.oneCell'=true) (hx:∀ (q:Nat) (x:AV),xs[q]?=some x->x.one=true/\∃ u,us[q]?=some u/\VR w O μ n x u) :
  ∃ w',(storeCells ⟨b,i*k+j,none⟩ us 0).run P w = .ok () w'/\Evo w μ n w' μ n/\HR w' O μ (updH h id (.cells k T (es.set i (e.take j++xs++e.drop (j+xs.length))))) n:=by
 obtain ⟨b',m,g1,S,t⟩:=hr.blk id _ hB;rw [R] at g1; cases g1;rw [y] at S; cases S;have W:e.length=k:=(t i e H).1;have L:i*k+j+us.length<=c.size:=by
  rcases Nat.eq_zero_or_pos us.length with v | v
  ·rw [v];rcases Nat.eq_zero_or_pos k with A | A
   ·have:j=0:=by omega
    simp [A,this]
   ·obtain ⟨_,u,M,_⟩:=(t i e H).2 (k-1) (e[k-1]'(by omega)) (jaf (by omega));have:=(jaj.1 M).1;omega
  ·have f:j+us.length-1<e.length:=by omega
   obtain ⟨_,u,M,_⟩:=(t i e H).2 (j+us.length-1) (e[j+us.length-1]'f) (jaf f);have:=(jaj.1 M).1;omega
 have l:=run_storeCells_at P b (i*k+j) T us 0 c w y (by omega) X;simp only [Nat.add_zero] at l;refine ⟨_,l,?_⟩;generalize B:(c.toList.take (i*k+j)++us++c.toList.drop (i*k+j+us.length)).toArray=m;have F:∀ q,m[q]?=if i*k+j<=q/\q<i*k+j+us.length then us[q-(i*k+j)]? else c[q]?:=by
  intro q;rw [<-B];have:=keV c.toList us (i*k+j) (by simpa using L) q;simpa using this
 refine hr.set id b k R _ rfl rfl ⟨rfl,jah _⟩ (by simp) (λq f=>setRow_other w b q m f) (λc0 T0 f0 v=>?_) (λg=>?_)
 ·rw [y] at v; cases v;refine ⟨m,setRow_heap w b c m T (0,0) y,?_⟩;rw [<-B]; simp; omega
 ·refine ⟨b,m,R,setRow_heap w b c m T (0,0) y,λq e' f=>?_⟩;rw [List.getElem?_set] at f;by_cases r:i=q
  ·subst r;rw [if_pos rfl,if_pos (jae.1 H).1] at f;cases f;refine ⟨by simp; omega,λp x s=>?_⟩;rw [keV e xs j C p] at s;rw [F];split at s
   ·rename_i Z;obtain ⟨z,u,E,G⟩:=hx _ x s;refine ⟨z,u,?_,G.evo g⟩;rw [if_pos (by omega),show i*k+p-(i*k+j)=p-j by omega];exact E
   ·rename_i U;obtain ⟨z,u,E,G⟩:=(t i e H).2 p x s;refine ⟨z,u,?_,G.evo g⟩;rw [if_neg (by omega)];exact E
  ·rw [if_neg r] at f;refine ⟨(t q e' f).1,λp x s=>?_⟩;obtain ⟨z,u,E,G⟩:=(t q e' f).2 p x s;refine ⟨z,u,?_,G.evo g⟩;have Y:p<k:=by rw [<-(t q e' f).1]; exact (jae.1 s).1
   rw [F,if_neg ?_]
   ·exact E
   ·rintro ⟨l1,l2⟩;rcases Nat.lt_or_gt_of_ne r with I | J
    ·have:(i+1)*k<=q*k:=jbv k I;rw [jcf] at this; omega
    ·have:(q+1)*k<=i*k:=jbv k J;rw [jcf] at this; omega
theorem ksH {T:Yc} {x y:Yf} (C:o.op = .store T x y) (hr:HR w O μ h n) {id i j k:Nat} {T':Yc} {es:Ya (Ya AV)} (G:VR w O μ n (.own id i j) (a.eval x)) (hB:h id=some (.cells k T' es))
  {e:Ya AV} (H:es[i]?=some e) {v:AV} (E:VR w O μ n v (a.eval y)) {xs:Ya AV} (I:kax v=some xs) (f:xs.length=P.cellsOf T) (t:xs.length≠0) (g:j+xs.length<=e.length)
  (B:K .ud (updH h id (.cells k T' (es.set i (e.take j++xs++e.drop (j+xs.length))))) n):OpR P o a w O μ n K:=by
 obtain ⟨b,c,g1,A,J,L⟩:=keO hr hB G;obtain ⟨p,F,r⟩:=kes E I;obtain ⟨M,l⟩:=kbw (P:=P) (T:=T) (by omega);obtain ⟨w',u,r2,s⟩:=kqF (P:=P) hr g1 A hB H (xs:=xs) (us:=(a.eval y).cells.toList) (by simpa using p) g F (λq z m=>⟨(r q z m).1,by simpa using (r q z m).2⟩);refine ⟨undef,w',μ,.ud,_,n,.inr ⟨?_,rfl⟩,B,s,.ud,r2⟩;simp only [execOp,C,J];have:(Instr.storeAt T (.pointer (some ⟨b,i*k+j,none⟩)) (a.eval y)).run P w = .ok () w':=by
  simp [Instr.storeAt,Instr.sureAddr,storeVar,kaB l,p,f,u]
 simp [this]
end
def isCells:Yb ABlk->Bool
 | some (.cells _ _ _)=>true
 | _=>false
def lenK (P:Ye) (h:AH) (T:Yc) (v:AV) (K:Nat->Prop):Prop:=
 match v with
 | .sl es=>(elemO P T).isSome=true/\(es.length<=9223372036854775807->K es.length)
 | .ms id _ len=>(elemO P T).isSome=true/\isCells (h id)=true/\(len<=9223372036854775807->K len)
 | .e0=>(elemO P T).isSome=true/\K 0
 | .sc (.slice _ l _)=>(elemO P T).isSome=true/\K l
 | .sc (.string s)=>P.underlying T=some .string/\K s.size
 | .mp id=>match h id,P.underlying T with
  | some (.map kvs),some (.map _ _)=>K kvs.length
  | _,_=>False
 | _=>False
section
variable {P:Ye} {o:Oper} {a:Act} {w:World} {O:Nat->Prop} {μ:Mu} {h:AH} {n:Nat} {K:K3}
theorem kfO {T:Yc} (b:(elemO P T).isSome=true):∃ e,P.underlying T=some (.slice e):=by
 obtain ⟨e,h⟩:=jan.1 b;exact ⟨e,kbD h⟩
theorem run_len_slice' {T e:Yc} (hT:P.underlying T=some (.slice e)) (ty:Yc) (base:Yb Addr) (m c:Nat) (w:World):(Builtin.len_ #[T] ty #[.slice base m c]).run P w = .ok (goInt m) w:=by
 simp [Builtin.len_,run_underlying hT]
theorem kgn {B:Yb ABlk} (hB:isCells B=true):∃ k T es,B=some (.cells k T es):=by
 cases B with
 | none=>simp [isCells] at hB
 | some B=>cases B with
  | cells k T es=>exact ⟨k,T,es,rfl⟩
  | map c=>simp [isCells] at hB
  | si s pos=>simp [isCells] at hB
  | mi e b seen=>simp [isCells] at hB
theorem kcj {b:Builtin} {args:Array Yf} {ts:Array Yc} (c:o.op = .call { callee:=.builtin b,args:=args,argTypes:=ts }) :
  execOp a.eval o=builtin b ts o.type (args.map fun | .const _=>true | _=>false) (args.map a.eval):=by
 simp only [execOp,c,resolve,pure_bind,invoke];rfl
theorem kvv {T:Yc} {x:Yf} (y:o.op = .call { callee:=.builtin .len,args:=#[x],argTypes:=#[T] }) (hr:HR w O μ h n) {v:AV} (i:VR w O μ n v (a.eval x))
  (f:lenK P h T v (λm=>K (.sc (.int .i64 m)) h n)):OpR P o a w O μ n K:=by
 have fin:∀ {m:Nat},(Builtin.len_ #[T] o.type #[a.eval x]).run P w = .ok (goInt m) w->K (.sc (.int .i64 m)) h n->OpR P o a w O μ n K:=by
  intro m s h2;refine OpR.value hr (u:=.int .i64 m) ?_ (.sc _ rfl) h2;rw [kcj y];simp only [List.map_toArray,jat,jdt];exact kal s
 unfold lenK at f;generalize E:a.eval x=u at *
 split at f
 ·obtain ⟨g,f⟩:=f;obtain ⟨e,g⟩:=kfO g;cases i with
  | slnil=>exact fin (run_len_slice' g _ _ _ _ w) (f (by simp))
  | sl _ _ _ _ _ _ t j=>exact fin (run_len_slice' g _ _ _ _ w) (f (by simp only [maxLen] at j; omega))
 ·obtain ⟨g,hB,f⟩:=f;obtain ⟨e,g⟩:=kfO g;obtain ⟨k,T',es,hB⟩:=kgn hB;obtain ⟨b,c,F,cap,g1,r,rfl,_,B,z,_⟩:=keX hr hB i;exact fin (run_len_slice' g _ _ _ _ w) (f (by simp only [maxLen] at z; omega))
 ·obtain ⟨g,f⟩:=f;obtain ⟨e,g⟩:=kfO g;cases i with
  | e0 p=>exact fin (run_len_slice' g _ _ _ _ w) f
 ·obtain ⟨g,f⟩:=f;obtain ⟨e,g⟩:=kfO g;rw [i.sc_inv] at fin;exact fin (run_len_slice' g _ _ _ _ w) f
 ·obtain ⟨g,f⟩:=f;rw [i.sc_inv] at fin;exact fin (by simp [Builtin.len_,run_underlying g]) f
 ·split at f
  ·rename_i l k e hB hT;obtain ⟨b,es,g1,r,A,C⟩:=hr.blk _ _ hB;cases i with
   | mp _ _ G s i=>
    rw [i b 0 g1] at fin;refine fin (m:=l.length) ?_ f;simp [Builtin.len_,run_underlying hT,getObj,Sem.run,r,A]
  ·exact f.elim
 ·exact f.elim
theorem klW {x y:Yf} {ts:Array Yc} {k:IntKind} {i j:Int} (hr:HR w O μ h n) (f:VR w O μ n (.sc (.int k i)) (a.eval x)) (e:VR w O μ n (.sc (.int k j)) (a.eval y)) :
  (o.op = .call { callee:=.builtin .min,args:=#[x,y],argTypes:=ts }->K (.sc (.int k (if j<i then j else i))) h n->OpR P o a w O μ n K)/\
  (o.op = .call { callee:=.builtin .max,args:=#[x,y],argTypes:=ts }->K (.sc (.int k (if i<j then j else i))) h n->OpR P o a w O μ n K):=by
 constructor
 ·intro c b;refine OpR.value hr (u:=.int k (if j<i then j else i)) ?_ (.sc _ rfl) b;rw [kcj c];simp only [List.map_toArray,jat,jdt,f.int_inv,e.int_inv];exact kal (run_min_int2 w ts o.type k k i j)
 ·intro c b;refine OpR.value hr (u:=.int k (if i<j then j else i)) ?_ (.sc _ rfl) b;rw [kcj c];simp only [List.map_toArray,jat,jdt,f.int_inv,e.int_inv];exact kal (run_max_int2 w ts o.type k k i j)
theorem kks {x y q:Yf} {ts:Array Yc} {k:IntKind} {i j l:Int} (hr:HR w O μ h n) (f:VR w O μ n (.sc (.int k i)) (a.eval x)) (e:VR w O μ n (.sc (.int k j)) (a.eval y)) (hl:VR w O μ n (.sc (.int k l)) (a.eval q)) :
  (o.op = .call { callee:=.builtin .min,args:=#[x,y,q],argTypes:=ts }->K (.sc (.int k (if l<(if j<i then j else i) then l else (if j<i then j else i)))) h n->OpR P o a w O μ n K)/\
  (o.op = .call { callee:=.builtin .max,args:=#[x,y,q],argTypes:=ts }->K (.sc (.int k (if (if i<j then j else i)<l then l else (if i<j then j else i)))) h n->OpR P o a w O μ n K):=by
 constructor
 ·intro c b;refine OpR.value hr (u:=.int k (if l<(if j<i then j else i) then l else (if j<i then j else i))) ?_ (.sc _ rfl) b;rw [kcj c];simp only [List.map_toArray,jat,jdt,f.int_inv,e.int_inv,hl.int_inv];exact kal (run_min_int3 w ts o.type k k k i j l)
 ·intro c b;refine OpR.value hr (u:=.int k (if (if i<j then j else i)<l then l else (if i<j then j else i))) ?_ (.sc _ rfl) b;rw [kcj c];simp only [List.map_toArray,jat,jdt,f.int_inv,e.int_inv,hl.int_inv];exact kal (run_max_int3 w ts o.type k k k i j l)
def loA:Yb AV->Yb Int
 | none=>some 0
 | some (.sc (.int _ i))=>some i
 | _=>none
def hiA (len:Nat):Yb AV->Yb Int
 | none=>some len
 | some (.sc (.int _ i))=>some i
 | _=>none
def kaT (len:Nat) (b c:Yb AV) (K:Nat->Nat->Prop):Prop:=
 match loA b,hiA len c with
 | some l,some u=>0<=l/\l<=u/\u<=len/\K l.toNat u.toNat
 | _,_=>False
theorem run_sliceBound' {k:IntKind} {i:Int} {y:Nat} {b:BoundsCode} (e:0<=i) (c:i<=y) (w:World):(Instr.sliceBound (.int k i) y b).run P w = .ok i.toNat w:=by
 simp [Instr.sliceBound,asIntOf,e,c]
theorem kcs {isS:Bool} {len cap:Nat} {j k:Yb Yd} {s y:Yb AV} (z:len<=cap) {B:Nat->Nat->Prop} (m:kaT len s y B)
  (hl:∀ v,j=some v->∃ x,s=some x/\VR w O μ n x v) (F:∀ v,k=some v->∃ x,y=some x/\VR w O μ n x v) (p:j=none->s=none) (r:k=none->y=none) :
  ∃ l u,(Instr.sliceBounds isS len cap j k none).run P w = .ok (l,u,cap) w/\B l u/\l<=u/\u<=len:=by
 unfold kaT at m;split at m
 ·rename_i l u f g;obtain ⟨C,G,h2,m⟩:=m;refine ⟨l.toNat,u.toNat,?_,m,by omega,by omega⟩;have A:∀ b,((match k,(none:Yb Yd) with
    | some v,some _=>Instr.sliceBound v cap .slice3B
    | some v,none=>Instr.sliceBound v cap b
    | none,none=>pure len
    | none,some _=>stuck "":Sem Nat)).run P w = .ok u.toNat w:=by
   intro b;cases k with
   | none=>rw [r rfl] at g; simp [hiA] at g; subst g; simp
   | some v=>
    obtain ⟨x,rfl,t⟩:=F v rfl;unfold hiA at g;split at g
    ·rename_i e; cases e
    ·rename_i e; cases e; cases g; rw [t.int_inv]; exact run_sliceBound' (by omega) (by omega) w
    ·cases g
  have E:∀ b,((match j with
    | some v=>Instr.sliceBound v u.toNat b
    | none=>pure 0:Sem Nat)).run P w = .ok l.toNat w:=by
   intro b;cases j with
   | none=>rw [p rfl] at f; simp [loA] at f; subst f; simp
   | some v=>
    obtain ⟨x,rfl,t⟩:=hl v rfl;unfold loA at f;split at f
    ·rename_i e; cases e
    ·rename_i e; cases e; cases f; rw [t.int_inv]; exact run_sliceBound' C (by omega) w
    ·cases f
  have c:=E .sliceB;cases isS
  ·have i:=A .sliceAlen;cases k with
   | none=>
    simp only [Sem.run_pure,Result.ok.injEq,and_true] at i;cases j with
    | none=>simp only [Sem.run_pure,Result.ok.injEq,and_true] at c; simp [Instr.sliceBounds,<-i,<-c]
    | some v=>rw [<-i] at c ⊢; simp [Instr.sliceBounds,c]
   | some v=>
    simp only at i;cases j with
    | none=>simp only [Sem.run_pure,Result.ok.injEq,and_true] at c; simp [Instr.sliceBounds,i,<-c]
    | some v=>simp only at c; simp [Instr.sliceBounds,i,c]
  ·have i:=A .sliceAcap;cases k with
   | none=>
    simp only [Sem.run_pure,Result.ok.injEq,and_true] at i;cases j with
    | none=>simp only [Sem.run_pure,Result.ok.injEq,and_true] at c; simp [Instr.sliceBounds,<-i,<-c]
    | some v=>rw [<-i] at c ⊢; simp [Instr.sliceBounds,c]
   | some v=>
    simp only at i;cases j with
    | none=>simp only [Sem.run_pure,Result.ok.injEq,and_true] at c; simp [Instr.sliceBounds,i,<-c]
    | some v=>simp only at c; simp [Instr.sliceBounds,i,c]
 ·exact m.elim
def kcp (P:Ye) (h:AH) (T:Yc) (x:AV) (b f:Yb AV) (K:AV->Prop):Prop:=
 match x with
 | .sl es=>(∃ e,elemO P T=some e/\(∃ i,P.info? e=some i)/\∀ c,es.head?=some c->c.length=P.cellsOf e)/\kaT es.length b f λl u=>K (.sl ((es.take u).drop l))
 | .ms id off len=>(∃ e,elemO P T=some e/\match h id with | some (.cells k _ _)=>k=P.cellsOf e/\k≠0 | _=>False)/\kaT len b f λl u=>K (.ms id (off+l) (u-l))
 | .sc (.slice none 0 0)=>(∃ e,elemO P T=some e/\∃ i,P.info? e=some i)/\kaT 0 b f λ_ _=>K (.sc (.slice none 0 0))
 | .sc (.string s)=>P.underlying T=some .string/\kaT s.size b f λl u=>K (.sc (.string (s.extract l u)))
 | _=>False
theorem optAV {env:Env} (e:∀ x,VR w O μ n (ev env x) (a.eval x)) (c:Yb Yf):(∀ v,c.map a.eval=some v->∃ x,c.map (ev env)=some x/\VR w O μ n x v)/\(c.map a.eval=none->c.map (ev env)=none):=by
 cases c with
 | none=>exact ⟨λv b=>by simp at b,λ_=>rfl⟩
 | some x=>exact ⟨λv b=>by simp at b; subst b; exact ⟨_,rfl,e x⟩,λhn=>by simp at hn⟩
theorem kdp {T e:Yc} (i:P.underlying T=some (.slice e)) {g:TypeInfo} (b:P.info? e=some g) {p:Yb Addr} {len cap:Nat} {c f:Yb Yd} {l u:Nat} (j:(Instr.sliceBounds true len cap c f none).run P w = .ok (l,u,cap) w) :
  (Instr.sliceAt T (.slice p len cap) c f none).run P w = .ok (.slice (if cap=l then p else p.map (·.add (l*P.cellsOf e))) (u-l) (cap-l)) w:=by
 simp [Instr.sliceAt,run_underlying i,Instr.slice,j,kaB b]
theorem ktp {T:Yc} {x:Yf} {R f:Yb Yf} (ho:o.op = .slice T x R f none) (hr:HR w O μ h n) {env:Env} (W:∀ x,VR w O μ n (ev env x) (a.eval x))
  (g:kcp P h T (ev env x) (R.map (ev env)) (f.map (ev env)) (λv=>K v h n)):OpR P o a w O μ n K:=by
 have z:=W x;obtain ⟨l1,l2⟩:=optAV W R;obtain ⟨F,L⟩:=optAV W f;have fin:∀ {u:Yd} {v:AV},(Instr.sliceAt T (a.eval x) (R.map a.eval) (f.map a.eval) none).run P w = .ok u w->VR w O μ n v u->K v h n->OpR P o a w O μ n K:=by
  intro u v Z h2 h3;refine OpR.value hr ?_ h2 h3;simp only [execOp,ho];exact kal Z
 unfold kcp at g;generalize hu:a.eval x=u at *
 split at g
 ·rename_i es m;rw [m] at z;obtain ⟨⟨e,J,⟨ie,p⟩,E⟩,g⟩:=g;have hT:=kbD J;cases z with
  | slnil=>
   obtain ⟨l,u,g1,t,M,y⟩:=kcs (P:=P) (isS:=true) (cap:=0) (by simp) g l1 F l2 L;simp at y; subst y;have:l=0:=by omega
   subst this;exact fin (kdp hT p g1) (by simp; exact .slnil _) t
  | sl _ b off cap k us C aa hA B hc Z S=>
   obtain ⟨l,u,g1,t,M,y⟩:=kcs (P:=P) (isS:=true) C g l1 F l2 L;refine fin (kdp hT p g1) ?_ t;have X:((es.take u).drop l).length=u-l:=by simp; omega
   by_cases r:cap=l
   ·rw [if_pos r];have:(es.take u).drop l=[]:=jbx (by omega);have Y:u-l=0:=by omega
    rw [this,Y];exact .sl [] b off _ k us (by simp) (by omega) (λi e f=>by simp at f) (λi e f=>by simp at f) (λi e f=>by simp at f) (λi e f=>by simp at f) (λi e f=>by simp at f)
   ·rw [if_neg r];simp only [jcb,keF];rw [<-X];have H:∀ (i:Nat) (e':Ya AV),((es.take u).drop l)[i]?=some e'->es[l+i]?=some e':=by
     intro i e' f;rw [jau,jbs] at f;split at f
     ·exact f
     ·cases f
    have I:es≠[]->k=P.cellsOf e:=by
     intro A;cases es with
     | nil=>exact absurd rfl A
     | cons c es=>rw [<-B 0 c rfl]; exact E c rfl
    refine .sl _ b _ (cap-l) k (λi j=>us (l+i) j) (by omega) (by omega) (λi e' f=>hA _ e' (H i e' f)) (λi e' f=>B _ e' (H i e' f)) (λi e' f j c G=>?_) (λi e' f j c G=>Z _ e' (H i e' f) j c G) (λi e' f j c G=>S _ e' (H i e' f) j c G);have A:es≠[]:=by rintro rfl; simp at f
    rw [<-I A];rw [show off+l*k+i*k+j=off+(l+i)*k+j by rw [jcf]; omega];exact hc _ e' (H i e' f) j c G
 ·rename_i id off len m;rw [m] at z;obtain ⟨⟨e,J,hB⟩,g⟩:=g;have hT:=kbD J;split at hB
  ·rename_i k T' es hB';obtain ⟨U,ab⟩:=hB;obtain ⟨b,c,oo,cap,g1,t,rfl,M,y,g5,g6,g7⟩:=keX hr hB' z;obtain ⟨ie,p⟩:=kbw (P:=P) (T:=e) (by omega);obtain ⟨l,u,f1,f2,f3,f4⟩:=kcs (P:=P) (isS:=true) y g l1 F l2 L;refine fin (kdp hT p f1) ?_ f2;refine .ms id _ _ _ M rfl λb' k' e'=>?_;rw [g1] at e'; cases e';by_cases r:cap=l
   ·rw [if_pos r];exact ⟨oo,cap-l,c,T',rfl,by omega,by omega,λhn=>by omega,t,by rw [<-g7]; congr 1; omega⟩
   ·rw [if_neg r];simp only [jcb,keF];exact ⟨oo+l*P.cellsOf e,cap-l,c,T',rfl,by omega,by omega,λhn=>by rw [g6 (by omega),U,jcf],t,by rw [<-g7]; congr 1; omega⟩
  ·exact hB.elim
 ·rename_i m;rw [m] at z;obtain ⟨⟨e,J,ie,p⟩,g⟩:=g;have hT:=kbD J;obtain ⟨l,u,g1,t,M,y⟩:=kcs (P:=P) (isS:=true) (cap:=0) (by simp) g l1 F l2 L;simp at y; subst y;have:l=0:=by omega
  subst this;rw [z.sc_inv] at fin;exact fin (kdp hT p g1) (.sc _ rfl) t
 ·rename_i s m;rw [m] at z;obtain ⟨hT,g⟩:=g;obtain ⟨l,u,g1,t,M,y⟩:=kcs (P:=P) (isS:=false) (cap:=s.size) (by simp) g l1 F l2 L;rw [z.sc_inv] at fin;refine fin ?_ (.sc _ rfl) t;simp [Instr.sliceAt,run_underlying hT,Instr.slice,g1]
 ·exact g.elim
end
section
variable {P:Ye} {o:Oper} {a:Act} {w:World} {O:Nat->Prop} {μ:Mu} {h:AH} {n:Nat} {K:K3}
theorem kex {T:Yc} {z:Ya AV} (hz:zeroO P T=some z):∃ i c,P.info? T=some i/\i.zero=some c/\z=c.cells.toList.map .sc/\(∀ x∈c.cells.toList,x.oneCell'=true)/\c.cells.size=i.size/\P.cellsOf T=z.length:=by
 unfold zeroO at hz;simp only [jaa] at hz;obtain ⟨i,f,c,e,hz⟩:=hz;split at hz
 ·rename_i b;cases hz;simp only [jad,jcj,beq_iff_eq] at b;refine ⟨i,c,f,e,rfl,λx g=>b.1 x (by simpa using g),b.2,?_⟩;simp [Program.cellsOf,f,b.2]
 ·cases hz
theorem knt {c:Yd} (A:∀ x∈c.cells.toList,x.oneCell'=true) (m k:Nat) (p:c.cells.size=k) (w:World) (O:Nat->Prop) (μ:Mu) (n:Nat) :
  ∀ (i:Nat) (e:Ya AV),(List.replicate m (c.cells.toList.map AV.sc))[i]?=some e->e.length=k/\∀ (j:Nat) (x:AV),e[j]?=some x->x.one=true/\
   ∃ u,((Array.range (m*k)).map (λq=>c.cells[q % c.cells.size]!))[i*k+j]?=some u/\VR w O μ n x u:=by
 intro i e t;have b:=(jae.1 t).1;simp only [List.length_replicate] at b;rw [jcz,if_pos b] at t;cases t;refine ⟨by simp [p],λj x z=>?_⟩;simp only [jas,jac,jcs] at z;obtain ⟨y,s,rfl⟩:=z;have l:j<k:=by rw [<-p]; exact (jaj.1 s).1
 have f:=A y (by simpa using Array.mem_of_getElem? s);refine ⟨f,y,?_,.sc y f⟩;have r:i*k+j<m*k:=by
  have:(i+1)*k<=m*k:=jbv k b;rw [jcf] at this; omega
 have g:(i*k+j) % c.cells.size=j:=by
  rw [p,Nat.mul_comm,Nat.mul_add_mod,Nat.mod_eq_of_lt l]
 simp only [Array.getElem?_map,Array.getElem?_range,r,↓reduceIte,jcb,g];have:=jaj.1 s;obtain ⟨v,B⟩:=this;rw [getElem!_pos c.cells j v,B]
theorem koe {T e:Yc} {x y:Yf} (X:o.op = .makeSlice T x y) (hr:HR w O μ h n) (he:elemO P T=some e) {z:Ya AV} (hz:zeroO P e=some z) (s:z≠[])
  {k M:IntKind} {m c:Int} (hx:VR w O μ n (.sc (.int k m)) (a.eval x)) (Y:VR w O μ n (.sc (.int M c)) (a.eval y)) (h0:0<=m) (W:m<=c) (J:c<=1048576) (hb:P.bytesOf e<=1024)
  (I:K (.ms n 0 m.toNat) (updH h n (.cells z.length e (List.replicate m.toNat z))) (n+1)):OpR P o a w O μ n K:=by
 obtain ⟨i,p,g,E,r,B,R,H⟩:=kex hz;have C:z.length=p.cells.size:=by rw [r]; simp
 have L:0<z.length:=by cases z with | nil=>exact absurd rfl s | cons _ _=>simp
 have hT:=kbD he;obtain ⟨v,Z⟩:=keg hr e ((Array.range (c.toNat*z.length)).map (λq=>p.cells[q % p.cells.size]!)) z.length (List.replicate m.toNat z) (by
  have:=knt B c.toNat z.length C.symm w O μ n;rw [r] at this ⊢;intro i e g;refine this i e ?_;rw [jcz] at g ⊢;split at g
  ·rw [if_pos (by omega)]; exact g
  ·cases g)
 refine ⟨.slice (some ⟨w.heap.size,0,none⟩) m.toNat c.toNat,_,_,_,_,_,.inl ?_,I,Z,?_,v⟩
 ·simp only [execOp,X,hx.int_inv,Y.int_inv];refine kal (u:=.slice (some ⟨w.heap.size,0,none⟩) m.toNat c.toNat) ?_;have A:(i.bytes:Int)<=1024:=(by have:P.bytesOf e=i.bytes:=(by simp [Program.bytesOf,g]); omega);have S:IntKind.i64.wrap m=m:=IntWalk.i64_in m (by omega);have t:IntKind.i64.wrap c=c:=IntWalk.i64_in c (by omega);have G:(i.bytes:Int)*c<=1024*1048576:=Int.mul_le_mul A J (by omega) (by omega);have U:¬ (((decide (c<0)||decide ((i.bytes:Int)*c>2 ^ 48))||decide (m<0)||decide (m>c))=true):=by
   simp; omega
  simp only [Instr.makeSlice,Sem.run_bind,run_underlying hT,Result.andThen_ok,asInt,asIntOf,pure_bind,Sem.run_pure,typeInfo,run_program,g,S,t];rw [if_neg U];simp only [Sem.run_bind,run_askRoom,Result.andThen_ok,kaB g];by_cases j:c.toNat*P.cellsOf e=0
  ·have l:∀ f:Nat->Yd,(Array.range (c.toNat*P.cellsOf e)).map f=(Array.range (c.toNat*z.length)).map (λq=>p.cells[q % p.cells.size]!):=λf=>by
    rw [<-H,j];exact Array.ext (by simp) λi h _=>by simp at h
   rw [if_pos j];simp only [Sem.run_bind,newRow,run_newObj,Result.andThen_ok,Sem.run_pure,l];rfl
  ·rw [if_neg j];simp only [Sem.run_bind,zeroValue,typeInfo,run_program,Result.andThen_ok,g,Sem.run_pure,E,newRow,run_newObj,H];rfl
 ·refine .ms n 0 _ _ (by omega) rfl λb k2 F=>?_;simp [updM] at F;obtain ⟨rfl,rfl⟩:=F;refine ⟨0,c.toNat,_,e,rfl,by omega,?_,λ_=>by simp,kaQ _ _,by simp⟩;unfold maxLen; omega
theorem krB (off:Nat):∀ (l:Ya Yd) (s:Nat) (cells:Array Yd),off+s+l.length<=cells.size->
  ((l.zipIdx s).foldl (λcs x=>cs.setIfInBounds (off+x.2) x.1) cells).size=cells.size/\
  ∀ q,((l.zipIdx s).foldl (λcs x=>cs.setIfInBounds (off+x.2) x.1) cells)[q]?=if off+s<=q/\q<off+s+l.length then l[q-(off+s)]? else cells[q]?
 | [],s,cells,_=>⟨rfl,λq=>by simp; intro c h2; omega⟩
 | v::l,s,cells,hl=>by
  simp only [jbt] at hl;obtain ⟨c,h2⟩:=krB off l (s+1) (cells.setIfInBounds (off+s) v) (by simp; omega);simp only [jct,jbo];refine ⟨by rw [c]; simp,λq=>?_⟩;rw [h2];by_cases e:q=off+s
  ·subst e;rw [if_neg (by omega),if_pos (by simp),Array.getElem?_setIfInBounds_self_of_lt (by omega)];simp
  ·by_cases b:off+s<=q/\q<off+s+(l.length+1)
   ·rw [if_pos (by omega),if_pos (by simpa using b)];rw [show q-(off+s)=(q-(off+(s+1)))+1 by omega,jch]
   ·rw [if_neg (by omega),if_neg (by simpa using b),jcx (by omega)]
theorem knU {place:Nat->Yb (Nat×Nat)} {cells:Array Yd} {i off size:Nat} {v:Yd} {rest:Ya (Nat×Yd)} (hp:place i=some (off,size)) (c:v.cells.size=size) (f:off+size<=cells.size) :
  ∃ b,Instr.fill place cells ((i,v)::rest)=Instr.fill place b rest/\b.size=cells.size/\∀ q,b[q]?=if off<=q/\q<off+size then v.cells[q-off]? else cells[q]?:=by
 obtain ⟨e,h2⟩:=krB off v.cells.toList 0 cells (by simp; omega);refine ⟨(v.cells.toList.zipIdx 0).foldl (λcs x=>cs.setIfInBounds (off+x.2) x.1) cells,?_,e,λq=>?_⟩
 ·simp only [Instr.fill,hp];rw [if_neg (by simp [c]; omega)];congr 1;rw [<-Array.foldl_toList];simp
 ·rw [h2];simp only [Nat.add_zero,jcg,c,jcs]
def fillS (pl:Ya (Nat×Nat)) (env:Env):Ya (Nat×Yf)->Ya AV->Yb (Ya AV)
 | [],cells=>some cells
 | (i,x)::rest,cells=>
  match pl[i]?,kax (ev env x) with
  | some (off,size),some xs=>if xs.length=size/\off+size<=cells.length then fillS pl env rest (cells.take off++xs++cells.drop (off+size)) else none
  | _,_=>none
def kic (w:World) (O:Nat->Prop) (μ:Mu) (n:Nat) (c:Array Yd) (cells:Ya AV):Prop:=
 c.size=cells.length/\∀ (j:Nat) (x:AV),cells[j]?=some x->x.one=true/\∃ u,c[j]?=some u/\VR w O μ n x u
theorem khu {env:Env} (t:∀ x,VR w O μ n (ev env x) (a.eval x)) {place:Nat->Yb (Nat×Nat)} {pl:Ya (Nat×Nat)} (g:∀ i x,pl[i]?=some x->place i=some x) :
  ∀ (e:Ya (Nat×Yf)) (cells:Ya AV) (c:Array Yd) (r:Ya AV),kic w O μ n c cells->fillS pl env e cells=some r->∃ f,Instr.fill place c (e.map λx=>(x.1,a.eval x.2))=some f/\kic w O μ n f r
 | [],cells,c,r,hc,hf=>by simp [fillS] at hf; subst hf; exact ⟨c,rfl,hc⟩
 | (i,x)::rest,cells,c,r,hc,hf=>by
  simp only [fillS] at hf;split at hf
  ·rename_i off size xs E F;split at hf
   ·rename_i b;obtain ⟨A,J,G⟩:=kes (t x) F;obtain ⟨f,g1,z,I⟩:=knU (place:=place) (cells:=c) (rest:=rest.map λx=>(x.1,a.eval x.2)) (g i _ E) (v:=a.eval x) (by rw [A]; exact b.1) (by rw [hc.1]; exact b.2);have k:kic w O μ n f (cells.take off++xs++cells.drop (off+size)):=by
     refine ⟨by rw [z,hc.1]; simp; omega,λj y m=>?_⟩;rw [<-b.1,keV cells xs off (by omega) j] at m;rw [I,<-b.1];split at m
     ·rename_i p;rw [if_pos p];obtain ⟨B,u,H,C⟩:=G _ y m;exact ⟨B,u,H,C⟩
     ·rename_i l;rw [if_neg l];exact hc.2 j y m
    obtain ⟨s,k1,k2⟩:=khu t g rest _ f r k hf;exact ⟨s,by rw [jat,g1]; exact k1,k2⟩
   ·cases hf
  ·cases hf
def kfZ (P:Ye) (T:Yc):Yb (Ya (Nat×Nat)):=
 match P.underlying T with
 | some (.struct fs)=>fs.toList.mapM λf=>(P.info? f.type).map λi=>(f.offset,i.size)
 | some (.array n e)=>(P.info? e).map λi=>(List.range n).map λj=>(j*i.size,i.size)
 | _=>none
theorem klM:∀ (b:Ya Field) (r:Ya (Nat×Nat)),b.mapM (λf=>(P.info? f.type).map λi=>(f.offset,i.size))=some r->
  ∀ w,(b.mapM (λf=>do pure (f.offset,<-sizeOf f.type)):Sem (Ya (Nat×Nat))).run P w = .ok r w
 | [],r,h,w=>by simp at h; subst h; simp
 | f::b,r,h,w=>by
  simp only [jdw,Option.bind_eq_bind,jaa,jac,Option.pure_def,Option.some.injEq] at h;obtain ⟨x,⟨i,c,rfl⟩,r',hr,rfl⟩:=h;have e:=klM b r' hr w;simp only [jdw,Sem.run_bind,kaB c,Result.andThen_ok,Sem.run_pure,e];simp [Program.cellsOf,c]
theorem ktc {T:Yc} {b:Array (Nat×Yf)} (R:o.op = .build T b) (hr:HR w O μ h n) {env:Env} (X:∀ x,VR w O μ n (ev env x) (a.eval x)) {z:Ya AV} (hz:zeroO P T=some z) {pl:Ya (Nat×Nat)} (hp:kfZ P T=some pl)
  {cs:Ya AV} (M:fillS pl env b.toList z=some cs) (L:K (.ag cs) h n):OpR P o a w O μ n K:=by
 obtain ⟨i,I,W,s,B,F,Y,Z⟩:=kex hz;have g:kic w O μ n I.cells z:=by
  refine ⟨by rw [B]; simp,λj x c=>?_⟩;rw [B] at c;simp only [jas,jac,jcs] at c;obtain ⟨y,S,rfl⟩:=c;have r:=F y (by simpa using Array.mem_of_getElem? S);exact ⟨r,y,S,.sc y r⟩
 have v:(b.map λx=>(x.1,a.eval x.2)).toList=b.toList.map λx=>(x.1,a.eval x.2):=by simp
 unfold kfZ at hp;split at hp
 ·rename_i U hT;obtain ⟨k,g1,E,p⟩:=khu X (place:=λi=>pl.toArray[i]?) (pl:=pl) (λi x h=>by simpa using h) b.toList z I.cells cs g M;refine OpR.value hr (u:=.agg k) ?_ ?_ L
  ·simp only [execOp,R];refine kal ?_;have G:=klM (P:=P) U.toList pl hp w;have J:(U.mapM (λf=>do pure (f.offset,<-sizeOf f.type)):Sem (Array (Nat×Nat))).run P w = .ok pl.toArray w:=by
    rw [Array.mapM_eq_mapM_toList];simp only [Sem.run_map,G,Result.andThen_ok]
   simp only [Instr.build,Sem.run_bind,zeroValue,typeInfo,run_program,Result.andThen_ok,W,Sem.run_pure,s,run_underlying hT,J];rw [v,g1];rfl
  ·exact .ag cs k (λj=>k.getD j undef) E (λj x c=>by obtain ⟨_,u,h2,_⟩:=p j x c; simp [h2]) (λj x c=>(p j x c).1) (λj x c=>by obtain ⟨_,u,h2,H⟩:=p j x c; simpa [h2] using H)
 ·rename_i m e hT;simp only [jac] at hp;obtain ⟨t,A,rfl⟩:=hp;have l:P.cellsOf e=t.size:=by simp [Program.cellsOf,A]
  obtain ⟨k,g1,E,p⟩:=khu X (place:=λi=>some (i*t.size,t.size)) (pl:=(List.range m).map λj=>(j*t.size,t.size)) (λi x h=>by
   simp only [jas,jac] at h;obtain ⟨q,C,rfl⟩:=h;obtain ⟨_,C⟩:=jae.1 C;simp only [List.getElem_range] at C;subst C; rfl) b.toList z I.cells cs g M
  refine OpR.value hr (u:=.agg k) ?_ ?_ L
  ·simp only [execOp,R];refine kal ?_;simp only [Instr.build,Sem.run_bind,zeroValue,typeInfo,run_program,Result.andThen_ok,W,Sem.run_pure,s,run_underlying hT,kaB A,l];rw [v,g1];rfl
  ·exact .ag cs k (λj=>k.getD j undef) E (λj x c=>by obtain ⟨_,u,h2,_⟩:=p j x c; simp [h2]) (λj x c=>(p j x c).1) (λj x c=>by obtain ⟨_,u,h2,H⟩:=p j x c; simpa [h2] using H)
 ·cases hp
def fillE (k:Nat) (env:Env):Ya (Nat×Yf)->Ya (Ya AV)->Yb (Ya (Ya AV))
 | [],es=>some es
 | (i,x)::rest,es=>
  match kax (ev env x) with
  | some xs=>if xs.length=k/\i<es.length then fillE k env rest (es.set i xs) else none
  | none=>none
def EsRel (w:World) (O:Nat->Prop) (μ:Mu) (n k:Nat) (c:Array Yd) (es:Ya (Ya AV)):Prop:=
 c.size=es.length*k/\∀ (i:Nat) (e:Ya AV),es[i]?=some e->e.length=k/\∀ (j:Nat) (x:AV),e[j]?=some x->x.one=true/\∃ u,c[i*k+j]?=some u/\VR w O μ n x u
theorem EsRel.set {k i:Nat} {c r:Array Yd} {es:Ya (Ya AV)} (m:EsRel w O μ n k c es) {xs:Ya AV} (A:xs.length=k) (C:i<es.length) (B:r.size=c.size) {us:Nat->Yb Yd}
  (g:∀ q,r[q]?=if i*k<=q/\q<i*k+k then us (q-i*k) else c[q]?) (t:∀ (j:Nat) (x:AV),xs[j]?=some x->x.one=true/\∃ u,us j=some u/\VR w O μ n x u):EsRel w O μ n k r (es.set i xs):=by
 refine ⟨by rw [B,m.1]; simp,λq e b=>?_⟩;rw [List.getElem?_set] at b;by_cases f:i=q
 ·subst f;rw [if_pos rfl,if_pos C] at b;cases b;refine ⟨A,λj x l=>?_⟩;obtain ⟨y,u,h2,z⟩:=t j x l;have s:j<k:=by rw [<-A]; exact (jae.1 l).1
  exact ⟨y,u,by rw [g,if_pos (by omega),show i*k+j-i*k=j by omega]; exact h2,z⟩
 ·rw [if_neg f] at b;refine ⟨(m.2 q e b).1,λj x l=>?_⟩;obtain ⟨y,u,h2,z⟩:=(m.2 q e b).2 j x l;have s:j<k:=by rw [<-(m.2 q e b).1]; exact (jae.1 l).1
  refine ⟨y,u,?_,z⟩;rw [g,if_neg ?_]
  ·exact h2
  ·rintro ⟨l1,l2⟩;rcases Nat.lt_or_gt_of_ne f with p | v
   ·have:(i+1)*k<=q*k:=jbv k p;rw [jcf] at this; omega
   ·have:(q+1)*k<=i*k:=jbv k v;rw [jcf] at this; omega
theorem kkI {k:Nat} {env:Env} (m:∀ x,VR w O μ n (ev env x) (a.eval x)) :
  ∀ (e:Ya (Nat×Yf)) (es:Ya (Ya AV)) (c:Array Yd) (r:Ya (Ya AV)),EsRel w O μ n k c es->fillE k env e es=some r->
   ∃ j,Instr.fill (λi=>some (i*k,k)) c (e.map λx=>(x.1,a.eval x.2))=some j/\EsRel w O μ n k j r/\r.length=es.length
 | [],es,c,r,hc,hf=>by simp [fillE] at hf; subst hf; exact ⟨c,rfl,hc,rfl⟩
 | (i,x)::rest,es,c,r,hc,hf=>by
  simp only [fillE] at hf;split at hf
  ·rename_i xs t;split at hf
   ·rename_i b;obtain ⟨s,z,u⟩:=kes (m x) t;have g:i*k+k<=c.size:=by
     rw [hc.1];have:(i+1)*k<=es.length*k:=jbv k b.2;rw [jcf] at this; omega
    obtain ⟨j,g1,p,y⟩:=knU (place:=λi=>some (i*k,k)) (cells:=c) (rest:=rest.map λx=>(x.1,a.eval x.2)) (i:=i) rfl (v:=a.eval x) (by rw [s]; exact b.1) g;have f:=hc.set b.1 b.2 p (us:=λq=>(a.eval x).cells[q]?) y u;obtain ⟨l,k1,k2,k3⟩:=kkI m rest _ j r f hf;exact ⟨l,by rw [jat,g1]; exact k1,k2,by rw [k3]; simp⟩
   ·cases hf
  ·cases hf
theorem VR.ms_new (w:World) (O:Nat->Prop) (μ:Mu) (n:Nat) (c:Array Yd) (T:Yc) (k len:Nat) (f:c.size=len*k) (hl:len<=maxLen):VR (w.alloc (.cells c T)) O (updM μ n (w.heap.size,k)) (n+1) (.ms n 0 len) (.slice (some ⟨w.heap.size,0,none⟩) len len):=by
 refine .ms n 0 _ _ (by omega) rfl λb k2 e=>?_;simp [updM] at e;obtain ⟨rfl,rfl⟩:=e;exact ⟨0,len,c,T,rfl,jah _,hl,λ_=>by simp,kaQ _ _,by simp [f]⟩
theorem keP {T e:Yc} {len:Nat} {b:Array (Nat×Yf)} (F:o.op = .buildSlice T len b) (G:elemO P T=some e) {env:Env} (H:∀ x,VR w O μ n (ev env x) (a.eval x)) {z:Ya AV} (hz:zeroO P e=some z)
  (hl:len<=1000) (s:z.length<=1000) {es:Ya (Ya AV)} (E:fillE z.length env b.toList (List.replicate len z)=some es) :
  ∃ p,(execOp a.eval o).run P w = .ok (.value (.slice (some ⟨w.heap.size,0,none⟩) len len)) (w.alloc (.cells p e))/\EsRel w O μ n z.length p es/\es.length=len:=by
 obtain ⟨i,l,v,t,m,r,C,I⟩:=kex hz;have j:l.cells.size=z.length:=by rw [m]; simp
 have hT:=kbD G;have k:EsRel w O μ n z.length ((Array.range (len*z.length)).map (λq=>l.cells[q % l.cells.size]!)) (List.replicate len z):=by
  refine ⟨by simp,?_⟩;have:=knt r len z.length j w O μ n;rw [m] at this ⊢;exact this
 obtain ⟨p,g1,B,y⟩:=kkI H b.toList _ _ es k E;simp only [List.length_replicate] at y;refine ⟨p,?_,B,y⟩;simp only [execOp,F];refine kal ?_;have A:¬ len*z.length>2 ^ 24:=by
  have:len*z.length<=1000*1000:=Nat.mul_le_mul hl s;omega
 have u:(b.map λx=>(x.1,a.eval x.2)).toList=b.toList.map λx=>(x.1,a.eval x.2):=by simp
 simp only [Instr.buildSlice,Sem.run_bind,run_underlying hT,Result.andThen_ok,kaB v,I];rw [if_neg A];simp only [u];by_cases c:len*z.length=0
 ·have g:∀ f:Nat->Yd,(Array.range (len*z.length)).map f=(Array.range (len*z.length)).map (λq=>l.cells[q % l.cells.size]!):=λf=>by
   rw [c];exact Array.ext (by simp) λi h _=>by simp at h
  rw [if_pos c];simp only [Sem.run_bind,Result.andThen_ok,Sem.run_pure,g,g1,newRow,run_newObj];rfl
 ·rw [if_neg c];simp only [Sem.run_bind,zeroValue,typeInfo,run_program,Result.andThen_ok,v,Sem.run_pure,t,g1,newRow,run_newObj];rfl
theorem kmN {T e:Yc} {len:Nat} {b:Array (Nat×Yf)} (l:o.op = .buildSlice T len b) (hr:HR w O μ h n) (p:elemO P T=some e) {env:Env} (r:∀ x,VR w O μ n (ev env x) (a.eval x)) {z:Ya AV} (hz:zeroO P e=some z)
  (hl:len<=1000) (f:z.length<=1000) {es:Ya (Ya AV)} (k:fillE z.length env b.toList (List.replicate len z)=some es) (j:K (.ms n 0 len) (updH h n (.cells z.length e es)) (n+1)):OpR P o a w O μ n K:=by
 obtain ⟨g,g1,i,s⟩:=keP l p r hz hl f k;obtain ⟨c,m⟩:=keg hr e g z.length es i.2;exact ⟨.slice (some ⟨w.heap.size,0,none⟩) len len,_,_,_,_,_,.inl g1,j,m,VR.ms_new w O μ n g e z.length len (by rw [i.1,s]) (by unfold maxLen; omega),c⟩
theorem kjL (hr:HR w O μ h n) (o:Obj):Evo w μ n (w.alloc o) μ n/\HR (w.alloc o) O μ h n:=by
 have i:Evo w μ n (w.alloc o) μ n:=⟨rfl,rfl,⟨rfl,jah _⟩,by simp,jah _,λb g _=>kby w o b g,λb c T f j _=>⟨c,by rw [kby w o b (jaj.1 j).1]; exact j,rfl⟩,λ_ _=>.inl rfl,
  λid b k e hn=>absurd (hr.scope id b k e).1 (by omega)⟩
 refine ⟨i,hr.olt.keep (by simp) λb g=>kby w o b (hr.olt.plt g),λid b k e=>by have:=hr.scope id b k e; simp; omega,hr.inj,hr.notO,λid B hB=>?_⟩;exact (hr.blk id B hB).evo rfl (λb k e=>kby w o b (hr.scope id b k e).2) i
theorem klA {T e:Yc} {len:Nat} {b:Array (Nat×Yf)} (v:o.op = .buildSlice T len b) (hr:HR w O μ h n) (B:elemO P T=some e) {env:Env} (C:∀ x,VR w O μ n (ev env x) (a.eval x)) {z:Ya AV} (hz:zeroO P e=some z)
  (hl:len<=1000) (p:z.length<=1000) {es:Ya (Ya AV)} (t:fillE z.length env b.toList (List.replicate len z)=some es) (s:K (.sl es) h n):OpR P o a w O μ n K:=by
 obtain ⟨m,g1,l,E⟩:=keP v B C hz hl p t;obtain ⟨f,y⟩:=kjL hr (.cells m e);refine ⟨.slice (some ⟨w.heap.size,0,none⟩) len len,_,_,_,_,_,.inl g1,s,y,?_,f⟩;rw [<-E];refine .sl es w.heap.size 0 es.length z.length (λi j=>(m[i*z.length+j]?).getD undef) (jah _) (by unfold maxLen; omega) (λi e c r hA=>?_) (λi e c=>(l.2 i e c).1) (λi e c j x g=>?_) (λi e c j x g=>((l.2 i e c).2 j x g).1) (λi e c j x g=>?_)
 ·rcases hA with hA | ⟨id,k,hA⟩
  ·exact absurd (hr.olt _ hA) (by omega)
  ·exact absurd (hr.scope id _ k hA).2 (by omega)
 ·obtain ⟨_,u,h2,_⟩:=(l.2 i e c).2 j x g;exact cell_heap.2 ⟨m,_,_,kaQ w _,by rw [jce,h2]; rfl⟩
 ·obtain ⟨_,u,h2,A⟩:=(l.2 i e c).2 j x g;rw [h2]; exact A.evo f
theorem kms {T e:Yc} {b:Array (Nat×Yf)} (k:o.op = .buildSlice T 0 b) (hr:HR w O μ h n) (m:elemO P T=some e) {env:Env} (p:∀ x,VR w O μ n (ev env x) (a.eval x)) {z:Ya AV} (hz:zeroO P e=some z)
  (f:z.length<=1000) {es:Ya (Ya AV)} (j:fillE z.length env b.toList (List.replicate 0 z)=some es) (i:K .e0 h n):OpR P o a w O μ n K:=by
 obtain ⟨g,g1,r,s⟩:=keP k m p hz (by omega) f j;obtain ⟨c,l⟩:=kjL hr (.cells g e);exact ⟨_,_,_,_,_,_,.inl g1,i,l,.e0 _,c⟩
end
def kgG (b:UInt8):Ya AV:=[.sc (.int .u8 b.toNat)]
def srcA (h:AH) (k:Nat):AV->Yb (Ya (Ya AV))
 | .sl es=>if es.all (λe=>e.length==k) then some es else none
 | .ms id off len=>match h id with
  | some (.cells k' _ es)=>if k'=k/\off+len<=es.length then some ((es.drop off).take len) else none
  | _=>none
 | .e0=>some []
 | .sc (.slice none 0 0)=>some []
 | .sc (.string s)=>if k=1 then some (s.data.toList.map kgG) else none
 | _=>none
section
variable {P:Ye} {o:Oper} {a:Act} {w:World} {O:Nat->Prop} {μ:Mu} {h:AH} {n:Nat} {K:K3}
structure Src (P:Program) (w:World) (O:Nat->Prop) (μ:Mu) (n k:Nat) (u:Value) (xs:List (List AV)) (vals:List Value):Prop where
 len:∀ w',(Builtin.lenOf u).run P w' = .ok xs.length w'
 cells:∀ w',w'.heap=w.heap->∀ q,q<=xs.length->(Builtin.firstCells k q u).run P w' = .ok (vals.take (q*k)).toArray w'
 size:vals.length=xs.length*k
 one:∀ v∈vals,v.oneCell'=true
 rel:∀ (i:Nat) (e:List AV),xs[i]?=some e->e.length=k/\∀ (j:Nat) (c:AV),e[j]?=some c->c.one=true/\∃ u,vals[i*k+j]?=some u/\VR w O μ n c u
theorem Src.nil (u:Yd) (g:∃ p c,u = .slice p 0 c) (k:Nat):Src P w O μ n k u [] []:=by
 obtain ⟨p,c,rfl⟩:=g;refine ⟨λw'=>rfl,λw' _ q b=>?_,by simp,λv f=>by simp at f,λi e j=>by simp at j⟩;simp at b; subst b;cases p with
 | none=>simp [Builtin.firstCells]
 | some p=>simp [Builtin.firstCells,loadCells,loadCellsFrom]
theorem Src.of_reads {b off k cap:Nat} {xs:Ya (Ya AV)} (hr:xs≠[]->ReadsEs w O μ n b off k xs):∃ vals,Src P w O μ n k (.slice (some ⟨b,off,none⟩) xs.length cap) xs vals:=by
 by_cases c:xs=[]
 ·subst c; exact ⟨[],Src.nil _ ⟨_,_,rfl⟩ k⟩
 ·obtain ⟨vals,f,h2,m,i⟩:=(hr c).vals;refine ⟨vals,λw'=>rfl,λw' l q g=>?_,f,m,i⟩;simp only [Builtin.firstCells];refine kcT (λj v e=>?_) (by
   rw [jbh,f];have:q*k<=xs.length*k:=jbv k g;omega)
  rw [jbs] at e;split at e
  ·rw [kgy (w:=w) (by rw [l])]; exact h2 j v e
  ·cases e
theorem klR (hr:HR w O μ h n) {x:AV} {u:Yd} (m:VR w O μ n x u) {k:Nat} {xs:Ya (Ya AV)} (f:srcA h k x=some xs):∃ vals,Src P w O μ n k u xs vals:=by
 unfold srcA at f;split at f
 ·rename_i es;split at f
  ·rename_i l;cases f;cases m with
   | slnil=>exact ⟨[],Src.nil _ ⟨_,_,rfl⟩ k⟩
   | sl _ b off cap E us H I hA z W U C=>
    refine Src.of_reads λy=>?_;have F:E=k:=by
     cases xs with
     | nil=>exact absurd rfl y
     | cons e xs=>
      have Y:=z 0 e rfl;simp only [jdx,jad,beq_iff_eq] at l;rw [<-Y,l.1]
    subst F;exact λi e g=>⟨z i e g,λj c t=>⟨U i e g j c t,us i j,W i e g j c t,C i e g j c t⟩⟩
  ·cases f
 ·rename_i id off len;split at f
  ·rename_i E T es hB;split at f
   ·rename_i r;cases f;obtain ⟨rfl,aa⟩:=r;obtain ⟨b,c,X,cap,g1,g2,rfl,g3,g4,g5,J,g7⟩:=keX hr hB m;have A:((es.drop off).take len).length=len:=by simp; omega
    obtain ⟨b',c',G,f2,Z⟩:=hr.own_cells hB;rw [g1] at G; cases G;have:=Src.of_reads (P:=P) (w:=w) (O:=O) (μ:=μ) (n:=n) (b:=b) (off:=X) (k:=E) (cap:=cap) (xs:=(es.drop off).take len) (λy i e g=>by
     rw [jbs] at g;split at g
     ·rename_i L;rw [jau] at g;obtain ⟨S,q2⟩:=Z _ e g;refine ⟨S,?_⟩;rw [J (by omega),<-jcf];exact q2
     ·cases g)
    rw [A] at this;exact this
   ·cases f
  ·cases f
 ·cases f;cases m with
  | e0 p=>exact ⟨[],Src.nil _ ⟨p,_,rfl⟩ k⟩
 ·cases f;rw [m.sc_inv];exact ⟨[],Src.nil _ ⟨none,_,rfl⟩ k⟩
 ·rename_i s;split at f
  ·rename_i B;cases f;subst B;rw [m.sc_inv];refine ⟨s.data.toList.map λb=>.int .u8 b.toNat,λw'=>by simp [Builtin.lenOf],λw' _ q R=>?_,by simp,λv m=>?_,λi e g=>?_⟩
   ·simp only [Builtin.firstCells,Nat.mul_one];simp only [Sem.run_pure];congr 1;apply Array.ext';simp only [Array.toList_map];simp only [jbb,jcg] at R;simp
   ·simp only [jba] at m; obtain ⟨b,_,rfl⟩:=m; rfl
   ·simp only [jas,jac] at g;obtain ⟨b,M,rfl⟩:=g;refine ⟨rfl,λj c t=>?_⟩;cases j with
    | zero=>
     simp [kgG] at t; subst t;exact ⟨rfl,.int .u8 b.toNat,by simpa using ⟨b,by simpa using M,rfl⟩,.sc _ rfl⟩
    | succ j=>simp [kgG] at t
  ·cases f
 ·cases f
end
section
variable {P:Ye} {o:Oper} {a:Act} {w:World} {O:Nat->Prop} {μ:Mu} {h:AH} {n:Nat} {K:K3}
theorem koh (P:Ye) {e:Yc} {i:TypeInfo} {b:Yd} (c:P.info? e=some i) (hz:i.zero=some b) (w:World):(zeroValue e).run P w = .ok b w:=by
 simp [zeroValue,typeInfo,c,hz]
theorem kkz {T I e:Yc} {i:TypeInfo} {G:Yd} (hT:P.underlying T=some (.slice e)) {C:TypeDesc} (hT2:P.underlying I=some C) (F:(∃ H,C = .slice H)\/C = .string) (A:P.info? e=some i) (hz:i.zero=some G)
  {k:Nat} (L:P.cellsOf e=k) {base:Yb Addr} {len cap m:Nat} {vold f:Ya Yd} {x:Yd} (y:∀ w',(Builtin.lenOf x).run P w' = .ok m w') (z:∀ w',w'.heap=w.heap->(Builtin.firstCells k m x).run P w' = .ok f.toArray w')
  (t:∀ w',w'.heap=w.heap->(Builtin.firstCells k len (.slice base len cap)).run P w' = .ok vold.toArray w') (g:cap<len+m) (B:len+m<=1048576) (J:i.bytes<=1024) (ty:Yc) :
  ∃ newCap rest,len+m<=newCap/\newCap<=maxLen/\rest.length=(newCap-(len+m))*G.cells.size/\
   (Builtin.append_ #[T,I] ty #[.slice base len cap,x]).run P w = .ok (.slice (some ⟨w.heap.size,0,none⟩) (len+m) newCap) (w.drew.alloc (.cells (vold++f++rest).toArray e)):=by
 have u:=grownCap_ge w (len+m) cap e;have p:=grownCap_le_maxLen w (len+m) cap e (by unfold maxLen; omega);refine ⟨grownCap w (len+m) cap e,(Builtin.zeroCells G.cells (grownCap w (len+m) cap e-(len+m))).toList,u,p,by simp [Builtin.zeroCells],?_⟩;have j:¬ Builtin.nextslicecap (len+m) cap*i.bytes>2 ^ 48:=by
  have M:Builtin.nextslicecap (len+m) cap<=4*(len+m)+1024:=by
   unfold Builtin.nextslicecap;split
   ·omega
   ·split
    ·omega
    ·rename_i M h2;have:∀ r c,c<len+m->Builtin.growBy (len+m) r c<=2*(len+m)+768:=by
      intro r;induction r with
      | zero=>intro c R; simp only [Builtin.growBy]; omega
      | succ r S=>
       intro c R;simp only [Builtin.growBy];rw [if_neg (by omega)];rcases jbz (c+(c+768) / 4) (len+m) with h | h
       ·exact S _ h
       ·cases r with
        | zero=>simp only [Builtin.growBy]; omega
        | succ r=>simp only [Builtin.growBy]; rw [if_pos (by omega)]; omega
     have:=this 4 cap g;omega
  have:Builtin.nextslicecap (len+m) cap*i.bytes<=(4*1048576+1024)*1024:=Nat.mul_le_mul (by omega) J;omega
 have v:¬ (((len+m:Nat):Int)>IntKind.i64.max/\((false:Bool)=true\/i.bytes=0)):=by
  simp [IntKind.max,IntKind.signed,IntKind.bits]; omega
 have b:(Question.appendCap (len+m) cap e).forced=false:=rfl;have s:=z w.drew rfl;have l:=t w.drew rfl;have E:=koh P A hz w.drew;rcases F with ⟨H,rfl⟩ | rfl
 all_goals
  simp only [Builtin.append_,jca,jci,jch,pure_bind,Sem.run_bind,run_underlying hT,run_underlying hT2,Result.andThen_ok,kaB A,L,jal,if_false,y];rw [if_neg (by omega)];simp only [Sem.run_bind,typeInfo,run_program,Result.andThen_ok,A,Sem.run_pure];rw [if_neg (by simpa using v)];simp only [Sem.run_bind,run_program,Result.andThen_ok,A,Sem.run_pure];rw [if_neg j];simp only [Sem.run_bind,run_choose,b,jal,if_false,Result.andThen_ok,run_program,A,Sem.run_pure,run_askRoom,World.drew_eq,l,s,E,Bool.not_false,if_true,newRow,run_newObj];simp only [grownCap];congr 2;show w.drew.heap.push _=w.drew.heap.push _;congr 2;apply Array.ext';simp
theorem kko {T u e:Yc} {i:TypeInfo} (hT:P.underlying T=some (.slice e)) {l:TypeDesc} (hT2:P.underlying u=some l) (r:(∃ t,l = .slice t)\/l = .string) (y:P.info? e=some i)
  {k:Nat} (v:P.cellsOf e=k) {base:Yb Addr} {len cap m:Nat} {b:Ya Yd} {x:Yd} (f:∀ w',(Builtin.lenOf x).run P w' = .ok m w') (g:(Builtin.firstCells k m x).run P w = .ok b.toArray w)
  {w':World} (p:∀ j,base=some j->(storeCells (j.add (len*k)) b 0).run P w = .ok () w') (s:base=none->w'=w) (c:len+m<=cap) (ty:Yc) :
  (Builtin.append_ #[T,u] ty #[.slice base len cap,x]).run P w = .ok (.slice base (len+m) cap) w':=by
 rcases r with ⟨t,rfl⟩ | rfl
 all_goals
  simp only [Builtin.append_,jca,jci,jch,pure_bind,Sem.run_bind,run_underlying hT,run_underlying hT2,Result.andThen_ok,kaB y,v,jal,if_false,f];rw [if_pos c];simp only [Sem.run_bind,Bool.not_false,if_true,g,Result.andThen_ok];cases base with
  | none=>rw [s rfl]; rfl
  | some j=>simp only [Sem.run_bind,p j rfl,Result.andThen_ok,Sem.run_pure]
theorem HR.adopt {w w':World} (hr:HR w O μ h n) {id b k:Nat} (m:μ id=some (b,k)) (B:ABlk) (E:w'.os=w.os) (s:w'.tape=w.tape) (u:w'.output=w.output/\w.drawn<=w'.drawn) (A:w'.heap.size=w.heap.size)
  (g:∀ i,i≠b->w'.heap[i]?=w.heap[i]?) (v:∀ c T f,w.heap[b]?=some (.cells c T f)->∃ F,w'.heap[b]?=some (.cells F T f)/\F.size=c.size)
  (hB:Evo w μ n w' (updM (delM μ id) n (b,k)) (n+1)->BlkAt w' O (updM (delM μ id) n (b,k)) (n+1) n B) :
  Evo w μ n w' (updM (delM μ id) n (b,k)) (n+1)/\HR w' O (updM (delM μ id) n (b,k)) (updH (delH h id) n B) (n+1):=by
 have J:=(hr.scope id b k m).1;have l:∀ i b' j,updM (delM μ id) n (b,k) i=some (b',j)->(i=n/\b'=b/\j=k)\/(i≠n/\i≠id/\μ i=some (b',j)):=by
  intro i b' j e;unfold updM delM at e;split at e
  ·cases e; exact .inl ⟨by assumption,rfl,rfl⟩
  ·split at e
   ·cases e
   ·exact .inr ⟨by assumption,by assumption,e⟩
 have C:Evo w μ n w' (updM (delM μ id) n (b,k)) (n+1):=by
  refine ⟨E,s,u,by omega,by omega,λi y hn=>g i (by rintro rfl; exact hn id k m),λi c T f G _=>?_,λi y=>?_,λi b' j e y=>?_⟩
  ·by_cases t:i=b
   ·subst t; exact v c T f G
   ·exact ⟨c,by rw [g i t]; exact G,rfl⟩
  ·unfold updM delM;rw [if_neg (by omega)];split
   ·exact .inr rfl
   ·exact .inl rfl
  ·rcases l i b' j e with ⟨_,rfl,_⟩ | ⟨_,_,e'⟩
   ·exact .inr ⟨id,k,m⟩
   ·exact .inr ⟨i,j,e'⟩
 refine ⟨C,hr.olt.keep (by rw [A]; exact jah _) λi y=>g i (by rintro rfl; exact hr.notO id _ k m (.inr y)),λi b' j e=>?_,λi I b' k1 k2 M H=>?_,λi b' j e=>?_,λi L hB'=>?_⟩
 ·rcases l i b' j e with ⟨rfl,rfl,_⟩ | ⟨_,_,e'⟩
  ·have:=hr.scope id _ k m; omega
  ·have:=hr.scope i b' j e'; omega
 ·rcases l i b' k1 M with ⟨rfl,rfl,_⟩ | ⟨R,a2,x⟩
  ·rcases l I _ k2 H with ⟨rfl,_,_⟩ | ⟨a3,a4,r⟩
   ·rfl
   ·exact absurd (hr.inj _ _ _ _ _ r m) a4
  ·rcases l I _ k2 H with ⟨rfl,rfl,_⟩ | ⟨a3,a4,r⟩
   ·exact absurd (hr.inj _ _ _ _ _ x m) a2
   ·exact hr.inj _ _ _ _ _ x r
 ·rcases l i b' j e with ⟨rfl,rfl,_⟩ | ⟨_,_,e'⟩
  ·exact hr.notO id _ k m
  ·exact hr.notO i b' j e'
 ·unfold updH delH at hB';split at hB'
  ·cases hB'; subst_vars; exact hB C
  ·rename_i z;split at hB'
   ·cases hB'
   ·rename_i p;refine (hr.blk i L hB').evo ?_ ?_ C
    ·unfold updM delM; rw [if_neg z,if_neg p]
    ·intro b' j e;refine g b' ?_;rintro rfl;exact p (hr.inj _ _ _ _ _ e m)
end
def khE (P:Ye) (T:Yc):Bool:=
 match P.underlying T with
 | some (.slice _) | some .string=>true
 | _=>false
def kvJ:AV->Bool
 | .e0=>true
 | .sc (.slice none 0 0)=>true
 | _=>false
def kbm (P:Ye) (h:AH) (n:Nat) (T b:Yc) (s x:AV) (K:K3):Prop:=
 khE P b=true/\
 match elemO P T with
 | none=>False
 | some e=>match zeroO P e with
  | none=>False
  | some z=>z≠[]/\P.bytesOf e<=1024/\match srcA h z.length x with
   | none=>False
   | some xs=>match s with
    | .e0=>xs.length<=1048576/\(xs=[]->K .e0 h n)/\(xs≠[]->K (.ms n 0 xs.length) (updH h n (.cells z.length e xs)) (n+1))
    | .sc (.slice none 0 0)=>xs.length<=1048576/\(xs=[]->K (.sc (.slice none 0 0)) h n)/\(xs≠[]->K (.ms n 0 xs.length) (updH h n (.cells z.length e xs)) (n+1))
    | .ms id 0 len=>match h id with
     | some (.cells k e' es)=>k=z.length/\e'=e/\es.length=len/\len+xs.length<=1048576/\K (.ms n 0 (len+xs.length)) (updH (delH h id) n (.cells k e (es++xs))) (n+1)
     | _=>False
    | _=>False
def copyK (P:Ye) (h:AH) (n:Nat) (T:Yc) (d x:AV) (K:K3):Prop:=
 match elemO P T with
 | none=>False
 | some e=>match zeroO P e with
  | none=>False
  | some z=>z≠[]/\match srcA h z.length x with
   | none=>False
   | some xs=>match d with
    | .sc (.slice none 0 0)=>K (.sc (.int .i64 0)) h n
    | .ms id off len=>match h id with
     | some (.cells k e' es)=>k=z.length/\off+len<=es.length/\K (.sc (.int .i64 (min xs.length len:Nat))) (updH h id (.cells k e' (es.take off++xs.take (min xs.length len)++es.drop (off+min xs.length len)))) n
     | _=>False
    | _=>False
section
variable {P:Ye} {o:Oper} {a:Act} {w:World} {O:Nat->Prop} {μ:Mu} {h:AH} {n:Nat} {K:K3}
theorem kqG {T:Yc} (hp:khE P T=true):∃ d,P.underlying T=some d/\((∃ e,d = .slice e)\/d = .string):=by
 unfold khE at hp;split at hp
 ·rename_i e b; exact ⟨_,b,.inl ⟨e,rfl⟩⟩
 ·rename_i b; exact ⟨_,b,.inr rfl⟩
 ·cases hp
theorem EsRel.app {k:Nat} {c:Array Yd} {es xs:Ya (Ya AV)} {vo vn rest:Ya Yd} (hl:vo.length=es.length*k) (p:∀ (i:Nat) (e:Ya AV),es[i]?=some e->e.length=k/\∀ (j:Nat) (x:AV),e[j]?=some x->x.one=true/\∃ u,vo[i*k+j]?=some u/\VR w O μ n x u)
  (t:vn.length=xs.length*k) (hn:∀ (i:Nat) (e:Ya AV),xs[i]?=some e->e.length=k/\∀ (j:Nat) (x:AV),e[j]?=some x->x.one=true/\∃ u,vn[i*k+j]?=some u/\VR w O μ n x u) :
  ∀ (i:Nat) (e:Ya AV),(es++xs)[i]?=some e->e.length=k/\∀ (j:Nat) (x:AV),e[j]?=some x->x.one=true/\∃ u,((vo++vn++rest).toArray)[i*k+j]?=some u/\VR w O μ n x u:=by
 intro i e b;rw [jbu] at b;split at b
 ·rename_i f;refine ⟨(p i e b).1,λj x m=>?_⟩;obtain ⟨g,u,h2,l⟩:=(p i e b).2 j x m;refine ⟨g,u,?_,l⟩;have:=(jae.1 h2).1;simp only [jca];rw [jaw,jaq this];exact h2
 ·rename_i s;refine ⟨(hn _ e b).1,λj x m=>?_⟩;obtain ⟨g,u,h2,l⟩:=(hn _ e b).2 j x m;refine ⟨g,u,?_,l⟩;have f:=(jae.1 h2).1;have r:(i-es.length)*k+es.length*k=i*k:=by rw [<-jcf]; congr 1; omega
  simp only [jca];rw [jaw,jbj (by omega),jaq (by omega),hl,show i*k+j-es.length*k=(i-es.length)*k+j by omega];exact h2
theorem krV {T T2:Yc} {s x:Yf} (ho:o.op = .call { callee:=.builtin .append,args:=#[s,x],argTypes:=#[T,T2] }) (hr:HR w O μ h n) {vs vx:AV} (hs:VR w O μ n vs (a.eval s)) (hx:VR w O μ n vx (a.eval x))
  (g:kbm P h n T T2 vs vx K):OpR P o a w O μ n K:=by
 obtain ⟨hp,g⟩:=g;obtain ⟨d2,hT2,U⟩:=kqG hp;split at g
 ·exact g.elim
 rename_i e he;split at g
 ·exact g.elim
 rename_i z hz;obtain ⟨aq,ap,g⟩:=g;split at g
 ·exact g.elim
 rename_i xs aD;have hT:=kbD he;obtain ⟨i,zv,hi,ai,aC,aJ,aH,hc⟩:=kex hz;have ah:zv.cells.size=z.length:=by rw [aC]; simp
 have aK:0<z.length:=by cases z with | nil=>exact absurd rfl aq | cons _ _=>simp
 have af:i.bytes<=1024:=(by have:P.bytesOf e=i.bytes:=(by simp [Program.bytesOf,hi]); omega);obtain ⟨vals,f⟩:=klR (P:=P) hr hx aD;have t:∀ w',w'.heap=w.heap->(Builtin.firstCells z.length xs.length (a.eval x)).run P w' = .ok vals.toArray w':=λw' hw=>by
  have:=f.cells w' hw xs.length (jah _)
  rwa [<-f.size,List.take_length] at this
 have fin:∀ {u:Yd} {w':World} {μ':Mu} {v:AV} {h':AH} {n':Nat},(Builtin.append_ #[T,T2] o.type #[a.eval s,a.eval x]).run P w = .ok u w'->K v h' n'->HR w' O μ' h' n'->VR w' O μ' n' v u->Evo w μ n w' μ' n'->OpR P o a w O μ n K:=by
  intro u w' μ' v h' n' f1 f2 W f4 f5;refine ⟨u,w',μ',v,h',n',.inl ?_,f2,W,f4,f5⟩;rw [kcj ho];simp only [List.map_toArray,jat,jdt];exact kal f1
 have am:∀ {p:Yb Addr},a.eval s = .slice p 0 0->xs.length<=1048576->(xs=[]->K vs h n)->(xs≠[]->K (.ms n 0 xs.length) (updH h n (.cells z.length e xs)) (n+1))->OpR P o a w O μ n K:=by
  intro p hu aj k1 k2;by_cases Y:xs=[]
  ·have ac:=t w rfl;subst Y;have aF:vals=[]:=jbx (by rw [f.size]; simp);subst aF;refine fin (u:=.slice p 0 0) (w':=w) ?_ (k1 rfl) hr (hu ▸ hs) hr.refl;rw [hu];exact kko (P:=P) (w':=w) hT hT2 U hi hc (base:=p) (len:=0) (cap:=0) (m:=0) f.len ac (λad _=>by simp [storeCells]) (λ_=>rfl) (by omega) o.type
  ·have aI:0<xs.length:=by cases xs with | nil=>exact absurd rfl Y | cons _ _=>simp
   obtain ⟨newCap,rest,g1,I,g3,g4⟩:=kkz (P:=P) (w:=w) hT hT2 U hi ai hc (base:=p) (len:=0) (cap:=0) (vold:=[]) f.len t (λw' hw=>by
    cases p with
    | none=>simp [Builtin.firstCells]
    | some p=>simp [Builtin.firstCells,loadCells,loadCellsFrom]) (by omega) (by omega) af o.type
   obtain ⟨e1,F⟩:=hr.drew;have aB:∀ (i:Nat) (e:Ya AV),xs[i]?=some e->e.length=z.length/\∀ (j:Nat) (x:AV),e[j]?=some x->x.one=true/\∃ u,(([]++vals++rest:Ya Yd).toArray)[i*z.length+j]?=some u/\VR w.drew O μ n x u:=by
    intro i e' ar;obtain ⟨S,R⟩:=f.rel i e' ar;refine ⟨S,λj y r=>?_⟩;obtain ⟨J,u,q4,q5⟩:=R j y r;refine ⟨J,u,?_,q5.evo e1⟩;have:=(jae.1 q4).1;simp only [jav,jca];rw [jaq this]; exact q4
   obtain ⟨L,X⟩:=keg F e ([]++vals++rest).toArray z.length xs aB;refine fin (u:=.slice (some ⟨w.heap.size,0,none⟩) (0+xs.length) newCap) (by rw [hu]; exact g4) (k2 Y) X ?_ (e1.trans L);refine .ms n 0 _ _ (by omega) rfl λb k3 e3=>?_;simp [updM] at e3;obtain ⟨rfl,rfl⟩:=e3;refine ⟨0,newCap,_,e,by simp,by omega,I,λ_=>by simp,kaQ w.drew _,?_⟩;simp only [jav,List.size_toArray,jax,f.size,g3,ah];rw [<-jcf]; congr 1; omega
 split at g
 ·have:∃ p,a.eval s = .slice p 0 0:=by
   generalize a.eval s=u at hs;cases hs with
   | e0 p=>exact ⟨p,rfl⟩
  obtain ⟨p,hp⟩:=this;exact am hp g.1 g.2.1 g.2.2
 ·exact am (p:=none) hs.sc_inv g.1 g.2.1 g.2.2
 ·rename_i id len;split at g
  ·rename_i k e' es hB0;obtain ⟨ao,az,A,aj,g⟩:=g;have hB:h id=some (.cells z.length e es):=by rw [hB0,ao,az]
   rw [ao] at g;obtain ⟨b,c,oo,cap,g1,I,g3,g4,g5,g6,g7,g8⟩:=keX hr hB hs;simp only [Nat.zero_mul,jce] at g7 g8;obtain ⟨b',c',f1,f2,W⟩:=hr.blk id _ hB;rw [g1] at f1; cases f1;rw [I] at f2; cases f2;by_cases H:len+xs.length<=cap
   ·
    have aa:(len+xs.length)*z.length<=c.size:=by rw [<-g8]; exact jbv _ H
    have Z:∃ w',(∀ ad,(some ⟨b,oo,none⟩:Yb Addr)=some ad->(storeCells (ad.add (len*z.length)) vals 0).run P w = .ok () w')/\
      w'=w.setRow b (c.toList.take (len*z.length)++vals++c.toList.drop (len*z.length+vals.length)).toArray:=by
     refine ⟨_,λad aw=>?_,rfl⟩;cases aw;rw [keF];by_cases E:cap=0
     ·have h1:len=0:=by omega
      have h2:xs.length=0:=by omega
      have h3:vals=[]:=jbx (by rw [f.size,h2]; simp);subst h3;simp [storeCells,h1,setRow_self w b c e (0,0) I]
     ·rw [g7 E];have:=run_storeCells_at P b (0+len*z.length) e vals 0 c w I (by rw [f.size]; rw [jcf] at aa; omega) f.one;simpa using this
    obtain ⟨w',Z,l⟩:=Z;have al:=kko (P:=P) (w':=w') hT hT2 U hi hc (base:=some ⟨b,oo,none⟩) (len:=len) (cap:=cap) f.len (t w rfl) Z (λh=>by cases h) H o.type;generalize ae:(c.toList.take (len*z.length)++vals++c.toList.drop (len*z.length+vals.length)).toArray=M at l;have G:M.size=c.size:=by
     rw [<-ae]; simp [f.size]; rw [jcf] at aa; omega
    obtain ⟨ay,F⟩:=hr.adopt (w':=w') g1 (.cells z.length e (es++xs)) (by rw [l]; rfl) (by rw [l]; rfl) (by rw [l]; exact ⟨rfl,jah _⟩) (by rw [l]; simp) (λi hi=>by rw [l]; exact setRow_other w b i M hi)
     (λc0 T0 f0 h0=>by rw [I] at h0; cases h0; exact ⟨M,by rw [l]; exact setRow_heap w b c M e (0,0) I,G⟩) (λaE=>by
      refine ⟨b,M,by simp [updM],by rw [l]; exact setRow_heap w b c M e (0,0) I,?_⟩;have B:=EsRel.app (w:=w) (O:=O) (μ:=μ) (n:=n) (k:=z.length) (c:=M) (es:=es) (xs:=xs) (vo:=c.toList.take (len*z.length)) (vn:=vals) (rest:=c.toList.drop (len*z.length+vals.length))
       (by rw [jbh,A]; simp; rw [jcf] at aa; omega) (λq e' C=>⟨(W q e' C).1,λj y r=>by
        obtain ⟨S,u,R,J⟩:=(W q e' C).2 j y r;refine ⟨S,u,?_,J⟩;have ab:=(jae.1 C).1;have aG:j<z.length:=by rw [<-(W q e' C).1]; exact (jae.1 r).1
        have:(q+1)*z.length<=es.length*z.length:=jbv _ ab;rw [jcf] at this;rw [jbs,if_pos (by rw [<-A]; omega)];simpa using R⟩) f.size f.rel
      intro q e' C;obtain ⟨S,R⟩:=B q e' C;refine ⟨S,λj y r=>?_⟩;obtain ⟨J,u,q4,q5⟩:=R j y r;rw [ae] at q4;exact ⟨J,u,q4,q5.evo aE⟩)
    refine fin (u:=.slice (some ⟨b,oo,none⟩) (len+xs.length) cap) (by rw [g3]; exact al) g F ?_ ay;refine .ms n 0 _ _ (by omega) rfl λb2 k2 L=>?_;simp [updM] at L;obtain ⟨rfl,rfl⟩:=L;exact ⟨oo,cap,M,e,rfl,H,g6,λax=>by rw [g7 ax]; simp,by rw [l]; exact setRow_heap w b c M e (0,0) I,by simp [G,g8]⟩
   ·
    have an:∀ w',w'.heap=w.heap->(Builtin.firstCells z.length len (.slice (some ⟨b,oo,none⟩) len cap)).run P w' = .ok (c.toList.take (len*z.length)).toArray w':=by
     intro w' hw;simp only [Builtin.firstCells];have ak:len*z.length<=c.size:=by rw [<-g8]; exact jbv _ g5
     refine kcT (λj v r=>?_) (by rw [jbh]; simp; omega);rw [jbs] at r;split at r
     ·rename_i au;have E:cap≠0:=by
       intro h0;have:len=0:=by omega
       subst this; simp at au
      rw [g7 E,jce];exact cell_heap.2 ⟨c,e,(0,0),by rw [hw]; exact I,by simpa using r⟩
     ·cases r
    obtain ⟨newCap,rest,S,R,J,q4⟩:=kkz (P:=P) (w:=w) hT hT2 U hi ai hc (base:=some ⟨b,oo,none⟩) (len:=len) (cap:=cap) f.len t an (by omega) aj af o.type;obtain ⟨e0,aA⟩:=hr.del id;obtain ⟨e1,F⟩:=aA.drew;have ak:len*z.length<=c.size:=by rw [<-g8]; exact jbv _ g5
    have B:=EsRel.app (w:=w) (O:=O) (μ:=μ) (n:=n) (k:=z.length) (c:=#[]) (es:=es) (xs:=xs) (vo:=c.toList.take (len*z.length)) (vn:=vals) (rest:=rest)
       (by rw [jbh,A]; simp; omega) (λq e' C=>⟨(W q e' C).1,λj y r=>by
        obtain ⟨S,u,R,J⟩:=(W q e' C).2 j y r;refine ⟨S,u,?_,J⟩;have ab:=(jae.1 C).1;have aG:j<z.length:=by rw [<-(W q e' C).1]; exact (jae.1 r).1
        have:(q+1)*z.length<=es.length*z.length:=jbv _ ab;rw [jcf] at this;rw [jbs,if_pos (by rw [<-A]; omega)];simpa using R⟩) f.size f.rel
    obtain ⟨L,X⟩:=keg F e (c.toList.take (len*z.length)++vals++rest).toArray z.length (es++xs) (λq e' C=>⟨(B q e' C).1,λj y r=>by
     obtain ⟨p1,u,p2,p3⟩:=(B q e' C).2 j y r;exact ⟨p1,u,p2,p3.evo (e0.trans e1)⟩⟩)
    refine fin (u:=.slice (some ⟨w.heap.size,0,none⟩) (len+xs.length) newCap) (by rw [g3]; exact q4) g X ?_ ((e0.trans e1).trans L);refine .ms n 0 _ _ (by omega) rfl λb2 k2 L=>?_;simp [updM] at L;obtain ⟨rfl,rfl⟩:=L;refine ⟨0,newCap,_,e,rfl,S,R,λ_=>by simp,kaQ w.drew _,?_⟩;simp only [List.size_toArray,jax,jbh,jcg,f.size,J,ah,jdm ak];rw [<-jcf,<-jcf,jce]; congr 1; omega
  ·exact g.elim
 ·exact g.elim
theorem ktR {T T2:Yc} {d x:Yf} (ho:o.op = .call { callee:=.builtin .copy,args:=#[d,x],argTypes:=#[T,T2] }) (hr:HR w O μ h n) {vd vx:AV} (hd:VR w O μ n vd (a.eval d)) (hx:VR w O μ n vx (a.eval x))
  (f:copyK P h n T vd vx K):OpR P o a w O μ n K:=by
 unfold copyK at f;split at f
 ·exact f.elim
 rename_i e he;split at f
 ·exact f.elim
 rename_i z hz;obtain ⟨aa,f⟩:=f;split at f
 ·exact f.elim
 rename_i xs ai;have hT:=kbD he;obtain ⟨i,zv,hi,am,aq,au,an,hc⟩:=kex hz;have aw:0<z.length:=by cases z with | nil=>exact absurd rfl aa | cons _ _=>simp
 obtain ⟨vals,s⟩:=klR (P:=P) hr hx ai;have fin:∀ {u:Yd} {w':World} {U:Mu} {v:AV} {h':AH} {n':Nat},(Builtin.copy_ #[T,T2] o.type #[a.eval d,a.eval x]).run P w = .ok u w'->K v h' n'->HR w' O U h' n'->VR w' O U n' v u->Evo w μ n w' U n'->OpR P o a w O μ n K:=by
  intro u w' U v h' n' Z X W f4 f5;refine ⟨u,w',U,v,h',n',.inl ?_,X,W,f4,f5⟩;rw [kcj ho];simp only [List.map_toArray,jat,jdt];exact kal Z
 have run:∀ {base:Yb Addr} {len cap:Nat} {w':World},a.eval d = .slice base len cap->(∀ F,base=some F->(storeCells F (vals.take (min xs.length len*z.length)) 0).run P w = .ok () w')->(base=none->w'=w)->
   (Builtin.copy_ #[T,T2] o.type #[a.eval d,a.eval x]).run P w = .ok (.int .i64 (min xs.length len:Nat)) w':=by
  intro base len cap w' hu I ak;have C:=s.cells w rfl (min xs.length len) (Nat.min_le_left _ _);rw [hu];simp only [Builtin.copy_,jca,jci,jch,pure_bind,Sem.run_bind,run_underlying hT,Result.andThen_ok,kaB hi,hc,s.len];rw [show Nat.min xs.length len=min xs.length len from rfl,C];simp only [Result.andThen_ok];cases base with
  | none=>rw [ak rfl]; rfl
  | some F=>simp only [Sem.run_bind,I F rfl,Result.andThen_ok,Sem.run_pure]; rfl
 split at f
 ·
  refine fin (u:=.int .i64 ((min xs.length 0:Nat):Int)) (w':=w) (run (base:=none) (len:=0) (cap:=0) hd.sc_inv (λF h=>by cases h) λ_=>rfl) f hr ?_ hr.refl;rw [Nat.min_zero];exact .sc _ rfl
 ·rename_i id off len;split at f
  ·rename_i k e' es hB;obtain ⟨aj,ap,f⟩:=f;rw [aj] at f hB;obtain ⟨b,c,oo,cap,g1,M,g3,g4,g5,g6,g7,g8⟩:=keX hr hB hd;obtain ⟨b',c',Z,X,W⟩:=hr.blk id _ hB;rw [g1] at Z; cases Z;rw [M] at X; cases X;generalize Y:min xs.length len=m at *
   have ao:m<=len:=by rw [<-Y]; exact Nat.min_le_right _ _
   have ah:m<=xs.length:=by rw [<-Y]; exact Nat.min_le_left _ _
   have G:(vals.take (m*z.length)).length=m*z.length:=by
    rw [jbh,s.size];exact jdm (jbv _ ah)
   have R:off*z.length+m*z.length<=c.size:=by
    rw [<-g8,<-jcf];exact jbv _ (by omega)
   generalize B:(c.toList.take (off*z.length)++vals.take (m*z.length)++c.toList.drop (off*z.length+m*z.length)).toArray=p;have J:p.size=c.size:=by
    rw [<-B];simp only [List.size_toArray,jax,jbh,jdb,jcg];rw [jbh] at G;omega
   have I:∀ F,(some ⟨b,oo,none⟩:Yb Addr)=some F->(storeCells F (vals.take (m*z.length)) 0).run P w = .ok () (w.setRow b p):=λF ac=>by
    cases ac;by_cases ae:m=0
    ·subst ae;have:p=c:=by rw [<-B]; simp
     rw [this,setRow_self w b c e' (0,0) M];simp [storeCells]
    ·rw [g7 (by omega)];have:=run_storeCells_at P b (off*z.length) e' (vals.take (m*z.length)) 0 c w M (by rw [G]; omega) (λv hv=>s.one v (jdd hv));rw [G] at this;rw [<-B];simpa using this
   obtain ⟨af,ab⟩:=hr.set (w':=w.setRow b p) id b z.length g1 (.cells z.length e' (es.take off++xs.take m++es.drop (off+m))) rfl rfl ⟨rfl,jah _⟩ (by simp) (λq g=>setRow_other w b q p g)
    (λc0 T0 f0 h0=>by rw [M] at h0; cases h0; exact ⟨p,setRow_heap w b c p e' (0,0) M,J⟩) (λS=>by
     refine ⟨b,p,g1,setRow_heap w b c p e' (0,0) M,λq H g=>?_⟩;have r:∀ j,p[j]?=if j<off*z.length then c[j]? else if j<off*z.length+m*z.length then vals[j-off*z.length]? else c[j]?:=λj=>by
      rw [<-B];simp only [jca,jaw];rw [jbu];have l1:(c.toList.take (off*z.length)).length=off*z.length:=by rw [jbh]; exact jdm (show off*z.length<=c.size from jcl (Nat.le_add_right _ _) R)
      rw [l1];split
      ·rw [jbs,if_pos (by assumption)]; simp
      ·rw [jbu,G];split
       ·rw [if_pos (by omega),jbs,if_pos (by omega)]
       ·rw [if_neg (by omega),jau];simp only [jcs];congr 1; omega
     have l:∀ {q j:Nat},j<z.length->∀ t,(q<t↔q*z.length+j<t*z.length):=λ{q j} L t=>by
      constructor
      ·intro h;have:(q+1)*z.length<=t*z.length:=jbv _ h;rw [jcf] at this; omega
      ·intro h;apply Nat.lt_of_not_le;intro h2;have:t*z.length<=q*z.length:=jbv _ h2;omega
     have old:es[q]?=some H->(q<off\/off+m<=q)->H.length=z.length/\∀ (j:Nat) (y:AV),H[j]?=some y->y.one=true/\∃ u,p[q*z.length+j]?=some u/\VR (w.setRow b p) O μ n y u:=λh1 h2=>by
      refine ⟨(W q H h1).1,λj y L=>?_⟩;obtain ⟨q1,u,q2,q3⟩:=(W q H h1).2 j y L;refine ⟨q1,u,?_,q3.evo S⟩;have A:j<z.length:=by rw [<-(W q H h1).1]; exact (jae.1 L).1
      rw [r];rcases h2 with h2 | h2
      ·rw [if_pos ((l A off).1 h2)]; exact q2
      ·have h5:¬ q*z.length+j<(off+m)*z.length:=λh=>by have:=(l (q:=q) A (off+m)).2 h; omega
       rw [jcf] at h5;rw [if_neg (by omega),if_neg h5]; exact q2
     rw [jaw,jbu] at g;have l1:(es.take off).length=off:=by rw [jbh]; omega
     rw [l1] at g;split at g
     ·rename_i E;rw [jbs,if_pos E] at g;exact old g (.inl E)
     ·rename_i ar;rw [jbu] at g;have l2:(xs.take m).length=m:=by rw [jbh]; omega
      rw [l2] at g;split at g
      ·rename_i E;rw [jbs,if_pos E] at g;obtain ⟨r1,r2⟩:=s.rel _ H g;refine ⟨r1,λj y L=>?_⟩;obtain ⟨q1,u,q2,q3⟩:=r2 j y L;refine ⟨q1,u,?_,q3.evo S⟩;have A:j<z.length:=by rw [<-r1]; exact (jae.1 L).1
       have h3:¬ q*z.length+j<off*z.length:=λh=>by have:=(l (q:=q) A off).2 h; omega
       have h4:=(l (q:=q) A (off+m)).1 (by omega);rw [jcf] at h4;rw [r,if_neg h3,if_pos h4,<-q2];have:(q-off)*z.length+off*z.length=q*z.length:=by rw [<-jcf]; congr 1; omega
       congr 1; omega
      ·rename_i al;rw [jau] at g;have e3:off+m+(q-off-m)=q:=by omega
       rw [e3] at g;exact old g (.inr (by omega)))
   refine fin (u:=.int .i64 (m:Nat)) (by rw [<-Y]; exact run g3 (by rw [Y]; exact I) (λh=>by cases h)) f ab (.sc _ rfl) af
  ·exact f.elim
 ·exact f.elim
end
def voC (P:Ye) (t:Yc) (xs:Ya Yd):Yd:=
 match aggO P t with
 | some true=>.agg xs.toArray
 | _=>xs.headD undef
theorem kdn {P:Ye} {w:World} {e:Yc} {X:Array Yd} {o:Nat} {ag:Bool} (b:aggO P e=some ag) (hl:o+P.cellsOf e<=X.size) (f:ag=false->P.cellsOf e=1):(part e X o).run P w = .ok (voC P e ((X.toList.drop o).take (P.cellsOf e))) w:=by
 obtain ⟨i,j⟩:=kec b;cases ag with
 | true=>
  simp only [part,Sem.run_bind,kcJ b,Result.andThen_ok,if_true,kaB j,Sem.run_pure,voC,b];congr 1;congr 1;apply Array.ext';rw [Array.toList_extract]; simp [List.extract]
 | false=>
  have g:=f rfl;have c:o<X.size:=by omega
  simp only [part,Sem.run_bind,kcJ b,Result.andThen_ok,jal,if_false,voC,b,g];have:X[o]?=some X[o]:=jao c;have h2:(X.toList.drop o).take 1=[X[o]]:=by
   rw [jbd (by simpa using c)]; simp
  rw [h2];simp [this]
def Scal:Yd->Prop
 | .bool _ | .int _ _ | .string _=>True
 | _=>False
def OkFs (P:Ye) (c:Yc->Ya Yd->Prop):Ya Field->Nat->Ya Yd->Prop
 | [],_,cs=>cs=[]
 | f::fs,o,cs=>∃ a b,cs=a++b/\f.name≠ "_"/\f.offset=o/\a.length=P.cellsOf f.type/\(∃ ag,aggO P f.type=some ag/\(ag=false->P.cellsOf f.type=1))/\c f.type a/\OkFs P c fs (o+P.cellsOf f.type) b
def OkC (P:Ye):Nat->Yc->Ya Yd->Prop
 | 0,_,_=>False
 | d+1,t,cs=>match P.underlying t with
  | some .bool=>∃ b,cs=[.bool b]
  | some (.int k)=>∃ n,cs=[.int k n]
  | some .string=>∃ s,cs=[.string s]
  | some (.struct fs)=>P.stoodInHeld t=false/\OkFs P (OkC P d) fs.toList 0 cs
  | some (.array n e)=>(∃ ag,aggO P e=some ag/\(ag=false->P.cellsOf e=1))/\∃ f:Ya (Ya Yd),f.length=n/\cs=f.flatten/\∀ c∈f,c.length=P.cellsOf e/\OkC P d e c
  | _=>False
section
variable {P:Ye}
theorem OkFs.scal {c:Yc->Ya Yd->Prop} (hr:∀ t cs,c t cs->∀ v∈cs,Scal v):∀ (g:Ya Field) (o:Nat) (cs:Ya Yd),OkFs P c g o cs->∀ v∈cs,Scal v
 | [],_,cs,h=>by simp only [OkFs] at h; subst h; simp
 | f::g,o,cs,h=>by
  obtain ⟨a,b,rfl,_,_,_,_,i,h2⟩:=h;intro v e;rcases jay.1 e with e | e
  ·exact hr _ _ i v e
  ·exact OkFs.scal hr g _ b h2 v e
theorem OkC.scal:∀ (d:Nat) (t:Yc) (cs:Ya Yd),OkC P d t cs->∀ v∈cs,Scal v
 | 0,_,_,h=>h.elim
 | d+1,t,cs,h=>by
  unfold OkC at h;split at h
  ·obtain ⟨b,rfl⟩:=h; simp [Scal]
  ·obtain ⟨b,rfl⟩:=h; simp [Scal]
  ·obtain ⟨b,rfl⟩:=h; simp [Scal]
  ·exact OkFs.scal (λt cs h=>OkC.scal d t cs h) _ _ _ h.2
  ·obtain ⟨_,f,_,rfl,h⟩:=h;intro v e;obtain ⟨c,g,e⟩:=List.mem_flatten.1 e;exact OkC.scal d _ c (h c g).2 v e
  ·exact h.elim
theorem kco {α:Type} (p a b:Ya α) {o k:Nat} (hp:p.length=o) (c:a.length=k):((p++(a++b)).drop o).take k=a:=by
 rw [<-hp,List.drop_left,<-c,List.take_left]
def EqC (P:Ye) (d:Nat):Prop:=∀ t xs ys,OkC P d t xs->OkC P d t ys->xs.length=ys.length/\∀ D w,∃ r:Bool,(Op.equalIn (D+d) t (voC P t xs) (voC P t ys)).run P w = .ok r w/\(r=true↔xs=ys)
theorem eqFs {d:Nat} (z:EqC P d) {X Y:Array Yd}:∀ (m:Ya Field) (o:Nat) (g i xs ys:Ya Yd),OkFs P (OkC P d) m o xs->OkFs P (OkC P d) m o ys->X.toList=g++xs->Y.toList=i++ys->g.length=o->i.length=o->
  xs.length=ys.length/\∀ D w,∃ r:Bool,(Op.eqFields (D+d) X Y m).run P w = .ok r w/\(r=true↔xs=ys)
 | [],o,g,i,xs,ys,hx,hy,_,_,_,_=>by
  simp only [OkFs] at hx hy;subst hx; subst hy;exact ⟨rfl,λD w=>⟨true,by simp [Op.eqFields],by simp⟩⟩
 | f::m,o,g,i,xs,ys,hx,hy,eX,eY,lx,ly=>by
  obtain ⟨a,b,rfl,hn,p,u,⟨ag,k,y⟩,B,G⟩:=hx;obtain ⟨a',b',rfl,_,_,c,_,t,s⟩:=hy;obtain ⟨hl,l⟩:=eqFs z m (o+P.cellsOf f.type) (g++a) (i++a') b b' G s (by rw [eX,jaw]) (by rw [eY,jaw]) (by simp [lx,u]) (by simp [ly,c]);obtain ⟨_,h2⟩:=z f.type a a' B t;refine ⟨by simp [hl,u,c],λD w=>?_⟩;obtain ⟨C,g1,v⟩:=h2 D w;obtain ⟨r2,I,F⟩:=l D w;have sX:f.offset+P.cellsOf f.type<=X.size:=by rw [<-jcg,eX,p]; simp; omega
  have sY:f.offset+P.cellsOf f.type<=Y.size:=by rw [<-jcg,eY,p]; simp; omega
  have x:=kdn (w:=w) k sX y;have A:=kdn (w:=w) k sY y;rw [eX,kco g a b (lx.trans p.symm) u] at x;rw [eY,kco i a' b' (ly.trans p.symm) c] at A;have j:a++b=a'++b'↔a=a'/\b=b':=⟨λe=>List.append_inj e (by omega),λ⟨H,E⟩=>by rw [H,E]⟩;simp only [Op.eqFields,hn,ne_eq,not_false_eq_true,if_true,Sem.run_bind,x,A,Result.andThen_ok,g1];cases C with
  | false=>exact ⟨false,by simp,by rw [j]; simp; intro e; exact absurd (v.2 e) (by simp)⟩
  | true=>exact ⟨r2,by simpa using I,by rw [j,F]; simp [v.1 rfl]⟩
theorem eqIts {d:Nat} (z:EqC P d) {e:Yc} {ag:Bool} (k:aggO P e=some ag) (s:ag=false->P.cellsOf e=1) {X Y:Array Yd}:∀ (b f:Ya (Ya Yd)) (i:Nat) (g j:Ya Yd),b.length=f.length->(∀ c∈b,c.length=P.cellsOf e/\OkC P d e c)->(∀ c∈f,c.length=P.cellsOf e/\OkC P d e c)->
  X.toList=g++b.flatten->Y.toList=j++f.flatten->g.length=i*P.cellsOf e->j.length=i*P.cellsOf e->
  b.flatten.length=f.flatten.length/\∀ D w,∃ r:Bool,(Op.eqItems (D+d) e (P.cellsOf e) X Y (List.range' i b.length)).run P w = .ok r w/\(r=true↔b.flatten=f.flatten)
 | [],[],i,g,j,_,_,_,_,_,_,_=>⟨rfl,λD w=>⟨true,by simp [Op.eqItems],by simp⟩⟩
 | [],_::_,i,g,j,h,_,_,_,_,_,_=>by simp at h
 | _::_,[],i,g,j,h,_,_,_,_,_,_=>by simp at h
 | a::b,a'::f,i,g,j,hl,hx,hy,eX,eY,lx,ly=>by
  obtain ⟨y,B⟩:=hx a (by simp);obtain ⟨m,u⟩:=hy a' (by simp);simp only [List.flatten_cons] at eX eY ⊢;obtain ⟨F,p⟩:=eqIts z k s b f (i+1) (g++a) (j++a') (by simpa using hl) (λc t=>hx c (by simp [t])) (λc t=>hy c (by simp [t])) (by rw [eX,jaw]) (by rw [eY,jaw]) (by rw [jax,lx,y,Nat.succ_mul]) (by rw [jax,ly,m,Nat.succ_mul]);obtain ⟨_,h2⟩:=z e a a' B u;refine ⟨by simp only [jax]; omega,λD w=>?_⟩;obtain ⟨C,g1,v⟩:=h2 D w;obtain ⟨r2,E,H⟩:=p D w;have sX:i*P.cellsOf e+P.cellsOf e<=X.size:=by rw [<-jcg,eX]; simp; omega
  have sY:i*P.cellsOf e+P.cellsOf e<=Y.size:=by rw [<-jcg,eY]; simp; omega
  have x:=kdn (w:=w) k sX s;have A:=kdn (w:=w) k sY s;rw [eX,kco g a _ lx y] at x;rw [eY,kco j a' _ ly m] at A;have l:a++b.flatten=a'++f.flatten↔a=a'/\b.flatten=f.flatten:=⟨λe=>List.append_inj e (by omega),λ⟨I,G⟩=>by rw [I,G]⟩;simp only [jbt,List.range'_succ,Op.eqItems,Sem.run_bind,x,A,Result.andThen_ok,g1];cases C with
  | false=>exact ⟨false,by simp,by rw [l]; simp; intro e; exact absurd (v.2 e) (by simp)⟩
  | true=>exact ⟨r2,by simpa using E,by rw [l,H]; simp [v.1 rfl]⟩
theorem eqC:∀ d,EqC P d
 | 0=>λt xs ys h=>h.elim
 | d+1=>by
  intro t xs ys j g;unfold OkC at j g;split at j
  ·rename_i c;simp only [c] at g;obtain ⟨a,rfl⟩:=j; obtain ⟨b,rfl⟩:=g;have f:aggO P t=some false:=by simp [aggO,c]
   refine ⟨rfl,λD w=>⟨a==b,?_,by simp⟩⟩;simp only [voC,f,List.headD_cons];exact run_equalIn_bool w (D+d) t a b c
  ·rename_i k c;simp only [c] at g;obtain ⟨a,rfl⟩:=j; obtain ⟨b,rfl⟩:=g;have f:aggO P t=some false:=by simp [aggO,c]
   refine ⟨rfl,λD w=>⟨a==b,?_,by simp⟩⟩;simp only [voC,f,List.headD_cons];exact run_equalIn_int w (D+d) t k k a b c
  ·rename_i c;simp only [c] at g;obtain ⟨a,rfl⟩:=j; obtain ⟨b,rfl⟩:=g;have f:aggO P t=some false:=by simp [aggO,c]
   refine ⟨rfl,λD w=>⟨a==b,?_,by rw [MapKept.bytes_beq]; simp⟩⟩;simp only [voC,f,List.headD_cons];rw [beq_toListBytes];exact run_equalIn_string w (D+d) t a b c
  ·rename_i y c;simp only [c] at g;have f:aggO P t=some true:=by simp [aggO,c]
   have x:P.fieldsOf t=y:=by simp [Program.fieldsOf,c]
   obtain ⟨p,h2⟩:=eqFs (eqC d) (X:=xs.toArray) (Y:=ys.toArray) y.toList 0 [] [] xs ys j.2 g.2 (by simp) (by simp) rfl rfl;refine ⟨p,λD w=>?_⟩;obtain ⟨r,g1,m⟩:=h2 D w;refine ⟨r,?_,m⟩;simp only [voC,f];rw [show D+(d+1)=(D+d)+1 from rfl,run_equalIn_struct w (D+d) t _ _ (by rw [x]; exact c) j.1,x];exact g1
  ·rename_i n e c;simp only [c] at g;have f:aggO P t=some true:=by simp [aggO,c]
   obtain ⟨⟨ag,z,p⟩,v,l1,rfl,l⟩:=j;obtain ⟨_,u,l2,rfl,s⟩:=g;obtain ⟨i,B⟩:=kec z;obtain ⟨h2,A⟩:=eqIts (eqC d) z p (X:=v.flatten.toArray) (Y:=u.flatten.toArray) v u 0 [] [] (by omega) l s (by simp) (by simp) (by simp) (by simp);refine ⟨h2,λD w=>?_⟩;obtain ⟨r,g1,m⟩:=A D w;refine ⟨r,?_,m⟩;simp only [voC,f];rw [show D+(d+1)=(D+d)+1 from rfl,run_equalIn_array w (D+d) _ _ c B,List.range_eq_range',<-l1];exact g1
  ·exact j.elim
theorem ckFs {em:Bool} {d:Nat} (l:∀ t cs,OkC P d t cs->∀ D w,(Instr.checkKey em (D+d) t (voC P t cs)).run P w = .ok () w) {X:Array Yd} (D:Nat) (w:World):∀ (e:Ya Field) (o:Nat) (c xs:Ya Yd),OkFs P (OkC P d) e o xs->X.toList=c++xs->c.length=o->
  (forIn (m:=Sem) e PUnit.unit λf _=>if f.name≠ "_" then do let v<-part f.type X f.offset; Instr.checkKey em (D+d) f.type v; pure (ForInStep.yield PUnit.unit) else pure (ForInStep.yield PUnit.unit)).run P w = .ok PUnit.unit w
 | [],o,c,xs,hx,_,_=>by simp
 | f::e,o,c,xs,hx,eX,lx=>by
  obtain ⟨a,b,rfl,hn,j,k,⟨ag,g,r⟩,p,s⟩:=hx;have hr:=ckFs l D w e (o+P.cellsOf f.type) (c++a) b s (by rw [eX,jaw]) (by simp [lx,k]);have sX:f.offset+P.cellsOf f.type<=X.size:=by rw [<-jcg,eX,j]; simp; omega
  have i:=kdn (w:=w) g sX r;rw [eX,kco c a b (lx.trans j.symm) k] at i;have u:=l f.type a p D w;simp only [List.forIn_cons,Sem.run_bind,hn,ne_eq,not_false_eq_true,if_true,Result.andThen_ok,i,u,Sem.run_pure];exact hr
theorem ckIts {em:Bool} {d:Nat} (p:∀ t cs,OkC P d t cs->∀ D w,(Instr.checkKey em (D+d) t (voC P t cs)).run P w = .ok () w) {e:Yc} {ag:Bool} (b:aggO P e=some ag) (k:ag=false->P.cellsOf e=1) {X:Array Yd} (D:Nat) (w:World):∀ (g:Ya (Ya Yd)) (i:Nat) (f:Ya Yd),
  (∀ c∈g,c.length=P.cellsOf e/\OkC P d e c)->X.toList=f++g.flatten->f.length=i*P.cellsOf e->
  (forIn (m:=Sem) (List.range' i g.length) PUnit.unit λi _=>do let n<-sizeOf e; let v<-part e X (i*n); Instr.checkKey em (D+d) e v; pure (ForInStep.yield PUnit.unit)).run P w = .ok PUnit.unit w
 | [],i,f,_,_,_=>by simp
 | a::g,i,f,hx,eX,lx=>by
  obtain ⟨l,r⟩:=hx a (by simp);obtain ⟨y,s⟩:=kec b;simp only [List.flatten_cons] at eX;have hr:=ckIts p b k D w g (i+1) (f++a) (λc u=>hx c (by simp [u])) (by rw [eX,jaw]) (by rw [jax,lx,l,Nat.succ_mul]);have sX:i*P.cellsOf e+P.cellsOf e<=X.size:=by rw [<-jcg,eX]; simp; omega
  have j:=kdn (w:=w) b sX k;rw [eX,kco f a _ lx l] at j;have x:=p e a r D w;simp only [jbt,List.range'_succ,List.forIn_cons,Sem.run_bind,kaB s,Result.andThen_ok,j,x,Sem.run_pure];exact hr
theorem ckC {em:Bool}:∀ (d:Nat) (t:Yc) (cs:Ya Yd),OkC P d t cs->∀ D w,(Instr.checkKey em (D+d) t (voC P t cs)).run P w = .ok () w
 | 0,_,_,h=>h.elim
 | d+1,t,cs,hx=>by
  intro D w;unfold OkC at hx;split at hx
  ·rename_i b;obtain ⟨a,rfl⟩:=hx;exact MapKept.run_checkKey (n:=D+d) b (by simp [voC,aggO,b,MapKept.IsKey]) em
  ·rename_i k b;obtain ⟨a,rfl⟩:=hx;exact MapKept.run_checkKey (n:=D+d) b (by simp [voC,aggO,b,MapKept.IsKey]) em
  ·rename_i b;obtain ⟨a,rfl⟩:=hx;exact MapKept.run_checkKey (n:=D+d) b (by simp [voC,aggO,b,MapKept.IsKey]) em
  ·rename_i j b;have c:aggO P t=some true:=by simp [aggO,b]
   simp only [voC,c];rw [show D+(d+1)=(D+d)+1 from rfl,Instr.checkKey];simp only [Sem.run_bind,run_underlying b,Result.andThen_ok];rw [<-Array.forIn_toList];have hr:=ckFs (ckC (em:=em) d) (X:=cs.toArray) D w j.toList 0 [] cs hx.2 (by simp) rfl;exact (congrArg (λr=>r.andThen λa w'=>Sem.run P (pure ()) w') hr).trans rfl
  ·rename_i n e b;obtain ⟨⟨ag,l,i⟩,g,l1,rfl,f⟩:=hx;have c:aggO P t=some true:=by simp [aggO,b]
   simp only [voC,c];rw [show D+(d+1)=(D+d)+1 from rfl,Instr.checkKey];simp only [Sem.run_bind,run_underlying b,Result.andThen_ok];simp only [Std.Legacy.Range.forIn_eq_forIn_range',Std.Legacy.Range.size,Nat.sub_zero,Nat.add_one_sub_one,Nat.div_one];rw [<-l1];have hr:=ckIts (ckC (em:=em) d) l i (X:=g.flatten.toArray) D w g 0 [] f (by simp) (by simp);exact (congrArg (λr=>r.andThen λa w'=>Sem.run P (pure ()) w') hr).trans rfl
  ·exact hx.elim
end
def mapO (P:Ye) (T:Yc):Yb (Yc×Yc):=
 match P.underlying T with
 | some (.map k e)=>some (k,e)
 | _=>none
def zvO (P:Ye) (T:Yc):Yb Yd:=(P.info? T).bind (·.zero)
def scV:Ya AV->Yb (Ya Yd)
 | []=>some []
 | .sc v::l=>(scV l).map (v :: ·)
 | _=>none
def keyA:AV->Yb Yd
 | .sc v=>some v
 | .ag cs=>(scV cs).map λvs=>.agg vs.toArray
 | _=>none
def kaR (P:Ye) (kt:Yc):Yd->Prop
 | .int k _=>intO P kt=some k
 | .string _=>P.underlying kt=some .string
 | .bool _=>P.underlying kt=some .bool
 | .agg cs=>aggO P kt=some true/\OkC P 9 kt cs.toList
 | _=>False
def keyB1:Yd->Yd->Bool
 | .int k a,.int k' b=>k==k'&&a==b
 | .string a,.string b=>a==b
 | .bool a,.bool b=>a==b
 | _,_=>false
def keyBL:Ya Yd->Ya Yd->Bool
 | [],[]=>true
 | x::l,y::r=>keyB1 x y&&keyBL l r
 | _,_=>false
def keyB:Yd->Yd->Bool
 | .agg a,.agg b=>keyBL a.toList b.toList
 | a,b=>keyB1 a b
def findA (k:Yd):Ya (Yd×AV)->Nat->Yb (Nat×AV)
 | [],_=>none
 | x::r,i=>if keyB k x.1 then some (i,x.2) else findA k r (i+1)
def ked (P:Ye) (h:AH) (T:Yc) (m key:AV) (ok:Bool) (K:AV->Prop):Prop:=
 match m,keyA key,mapO P T with
 | .mp id,some k,some (kt,e)=>match h id with
  | some (.map kvs)=>kaR P kt k/\(∀ x∈kvs,kaR P kt x.1)/\match findA k kvs 0,zvO P e with
   | some (_,v),_=>K (if ok then .tp [v,.sc (.bool true)] else v)
   | none,some z=>K (if ok then .tp [cst z,.sc (.bool false)] else cst z)
   | none,none=>False
  | _=>False
 | _,_,_=>False
def kdv (P:Ye) (h:AH) (n:Nat) (T:Yc) (m key v:AV) (K:K3):Prop:=
 match m,keyA key,mapO P T with
 | .mp id,some k,some (kt,e)=>match h id with
  | some (.map kvs)=>kaR P kt k/\(∀ x∈kvs,kaR P kt x.1)/\v.vl=true/\K .ud (updH h id (.map (match findA k kvs 0 with | some (i,_)=>kvs.set i (k,v) | none=>kvs++[(k,v)]))) n
  | _=>False
 | _,_,_=>False
def khN (P:Ye) (h:AH) (n:Nat) (T:Yc) (m key:AV) (K:K3):Prop:=
 match m,keyA key,mapO P T with
 | .mp id,some k,some (kt,e)=>match h id with
  | some (.map kvs)=>kaR P kt k/\(∀ x∈kvs,kaR P kt x.1)/\match findA k kvs 0,zvO P e with
   | some (i,v),_=>K (.tp [v,.sc (.int .i64 i)]) (updH h id (.map kvs)) n
   | none,some z=>(cst z).vl=true/\K (.tp [cst z,.sc (.int .i64 kvs.length)]) (updH h id (.map (kvs++[(k,cst z)]))) n
   | none,none=>False
  | _=>False
 | _,_,_=>False
def kjx (h:AH) (n:Nat) (m b v:AV) (K:K3):Prop:=
 match m,b with
 | .mp id,.sc (.int _ i)=>match h id with
  | some (.map kvs)=>0<=i/\v.vl=true/\∃ x,kvs[i.toNat]?=some x/\K .ud (updH h id (.map (kvs.set i.toNat (x.1,v)))) n
  | _=>False
 | _,_=>False
def kjs (P:Ye) (h:AH) (n:Nat) (T:Yc) (v:AV) (K:K3):Prop:=
 match v with
 | .sc (.string s)=>P.underlying T=some .string/\K (.own n 0 0) (updH h n (.si s 0)) (n+1)
 | .mp id=>match h id with
  | some (.map kvs)=>(mapO P T).isSome=true/\K (.own n 0 0) (updH h n (.mi id kvs.length [])) (n+1)
  | _=>False
 | _=>False
def kmm (h:AH) (n:Nat) (v:AV) (K:K3):Prop:=
 match v with
 | .own id 0 0=>match h id with
  | some (.mi mid since seen)=>match h mid with
   | some (.map kvs)=>since=kvs.length/\(∀ i x,kvs[i]?=some x->i∉seen->K (.tp [.sc (.bool true),cst x.1,x.2]) (updH h id (.mi mid since (seen++[i]))) n)/\((∀ i,i<kvs.length->i∈seen)->K (.tp [.sc (.bool false)]) h n)
   | _=>False
  | _=>False
 | _=>False
def kpG (h:AH) (n:Nat) (v:AV) (K:K3):Prop:=
 match v with
 | .own id 0 0=>match h id with
  | some (.mi mid since seen)=>match h mid,seen.getLast? with
   | some (.map kvs),some i=>since=kvs.length/\∃ x,kvs[i]?=some x/\K (.tp [cst x.1,x.2]) h n
   | _,_=>False
  | _=>False
 | _=>False
def nextK (h:AH) (n:Nat) (v:AV) (K:K3):Prop:=
 match v with
 | .own id 0 0=>match h id with
  | some (.si s pos)=>if pos<s.size then K (.tp [.sc (.bool true),.sc (.int .i64 pos),.sc (.int .i32 (Utf8.decode s pos).1)]) (updH h id (.si s (pos+(Utf8.decode s pos).2))) n else K (.tp [.sc (.bool false)]) h n
  | _=>False
 | _=>False
section
variable {P:Ye} {o:Oper} {a:Act} {w:World} {O:Nat->Prop} {μ:Mu} {h:AH} {n:Nat} {K:K3}
theorem keb {T k e:Yc} (b:mapO P T=some (k,e)):P.underlying T=some (.map k e):=by
 unfold mapO at b;split at b
 ·cases b; assumption
 ·cases b
def sKey:Yd->Bool
 | .agg _=>false
 | _=>true
theorem kfe {kt:Yc} {k:Yd} (e:sKey k=true) (b:kaR P kt k):∃ d,P.underlying kt=some d/\MapKept.IsKey d k:=by
 cases k <;> simp only [kaR] at b
 ·exact ⟨_,b,trivial⟩
 ·rename_i f m;unfold intO at b;split at b
  ·rename_i q c; cases b; exact ⟨_,c,rfl⟩
  ·cases b
 ·exact ⟨_,b,trivial⟩
 ·simp [sKey] at e
theorem ksN {a b:Yd} (c:sKey a=true):keyB a b=keyB1 a b:=by
 cases a <;> first | rfl | (simp [sKey] at c; done)
theorem kqu {d:TypeDesc} {a b:Yd} (c:MapKept.IsKey d a) (e:MapKept.IsKey d b):Instr.sameNow d a b=some (keyB a b):=by
 cases d <;> cases a <;> cases b <;> simp_all [MapKept.IsKey,Instr.sameNow,keyB,keyB1]
theorem kln {a b:Yd} (c:Scal a) (e:Scal b):keyB1 a b=true↔a=b:=by
 cases a <;> simp only [Scal] at c <;> cases b <;> simp only [Scal] at e <;> simp [keyB1,MapKept.bytes_beq]
theorem klb:∀ {a b:Ya Yd},(∀ v∈a,Scal v)->(∀ v∈b,Scal v)->(keyBL a b=true↔a=b)
 | [],[],_,_=>by simp [keyBL]
 | [],_::_,_,_=>by simp [keyBL]
 | _::_,[],_,_=>by simp [keyBL]
 | x::a,y::b,ha,hb=>by
  have c:=klb (a:=a) (b:=b) (λv h=>ha v (jbm _ h)) (λv h=>hb v (jbm _ h));simp only [keyBL,jad,kln (ha x (by simp)) (hb y (by simp)),c,List.cons.injEq]
theorem kcu {kt:Yc} {k:Yd} (b:kaR P kt k):Scal k\/∃ cs,k = .agg cs/\aggO P kt=some true/\OkC P 9 kt cs.toList/\∀ v∈cs.toList,Scal v:=by
 cases k <;> simp only [kaR] at b <;> first | exact .inl trivial | skip
 exact .inr ⟨_,rfl,b.1,b.2,OkC.scal 9 kt _ b.2⟩
theorem krM {kt:Yc} {a b:Yd} (f:kaR P kt a) (c:kaR P kt b):keyB a b=true↔a=b:=by
 rcases kcu f with h | ⟨x,rfl,_,_,j⟩
 ·rcases kcu c with g | ⟨y,rfl,_⟩
  ·rw [<-kln h g,ksN (by cases a <;> first | rfl | exact h.elim)]
  ·cases a <;> simp only [Scal] at h <;> simp [keyB,keyB1]
 ·rcases kcu c with g | ⟨y,rfl,_,_,i⟩
  ·cases b <;> simp only [Scal] at g <;> simp [keyB,keyB1]
  ·show keyBL x.toList y.toList=true↔_;rw [klb j i];constructor
   ·intro e; rw [Array.ext' e]
   ·intro e; cases e; rfl
theorem kiN {d:TypeDesc} {kt:Yc} {k:Yd} (t:MapKept.IsKey d k):∀ (l:Ya MapEntry) (b:Ya (Yd×AV)) (i:Nat),l.length=b.length->(∀ x∈b,MapKept.IsKey d x.1/\(keyB k x.1=true↔k=x.1))->(∀ (j:Nat) (x:Yd×AV),b[j]?=some x->∃ e,l[j]?=some e/\e.key=x.1)->
  (findA k b i=none/\Instr.findNow d k l i=some none)\/∃ j x e,findA k b i=some (i+j,x.2)/\b[j]?=some x/\l[j]?=some e/\Instr.findNow d k l i=some (some (i+j,e.val))/\x.1=k
 | [],[],i,_,_,_=>.inl ⟨rfl,rfl⟩
 | e::l,[],i,h,_,_=>by simp at h
 | [],x::b,i,h,_,_=>by simp at h
 | e::l,x::b,i,hl,hks,hx=>by
  obtain ⟨e',g,f⟩:=hx 0 x rfl;simp at g; subst g;obtain ⟨p,r⟩:=hks x (by simp);have s:Instr.sameNow d k e.key=some (keyB k x.1):=by rw [f]; exact kqu t p
  cases c:keyB k x.1 with
  | true=>
   exact .inr ⟨0,x,e,by simp [findA,c],rfl,rfl,by simp [Instr.findNow,s,c],(r.1 c).symm⟩
  | false=>
   rcases kiN (kt:=kt) t l b (i+1) (by simpa using hl) (λy A=>hks y (by simp [A])) (λj y C=>by simpa using hx (j+1) y (by simpa using C)) with ⟨m,h2⟩ | ⟨j,y,z,m,h2,B,u,v⟩
   ·exact .inl ⟨by simp [findA,c,m],by simp [Instr.findNow,s,c,h2]⟩
   ·exact .inr ⟨j+1,y,z,by simp [findA,c,m]; omega,by simpa using h2,by simpa using B,by simp [Instr.findNow,s,c,u]; omega,v⟩
theorem kiE {kt:Yc} {cs:Array Yd} (t:kaR P kt (.agg cs)) (w:World):∀ (l:Ya MapEntry) (b:Ya (Yd×AV)) (i:Nat),l.length=b.length->(∀ x∈b,kaR P kt x.1)->(∀ (j:Nat) (x:Yd×AV),b[j]?=some x->∃ e,l[j]?=some e/\e.key=x.1)->
  (findA (.agg cs) b i=none/\(Instr.findAsking kt (.agg cs) l i).run P w = .ok none w)\/∃ j x e,findA (.agg cs) b i=some (i+j,x.2)/\b[j]?=some x/\l[j]?=some e/\(Instr.findAsking kt (.agg cs) l i).run P w = .ok (some (i+j,e.val)) w/\x.1 = .agg cs
 | [],[],i,_,_,_=>.inl ⟨rfl,by simp [Instr.findAsking]⟩
 | e::l,[],i,h,_,_=>by simp at h
 | [],x::b,i,h,_,_=>by simp at h
 | e::l,x::b,i,hl,hks,hx=>by
  obtain ⟨e',v,u⟩:=hx 0 x rfl;simp at v; subst v;have k:=hks x (by simp);have m:=krM t k;obtain ⟨r,hr,c⟩:∃ r:Bool,(Op.equal kt (.agg cs) e.key).run P w = .ok r w/\(r=true↔Value.agg cs=x.1):=by
   rcases kcu k with h | ⟨y,z,_,C,_⟩
   ·exfalso;have s:=t.1;have A:sKey x.1=true:=by cases g:x.1 <;> rw [g] at h <;> first | rfl | exact h.elim
    obtain ⟨d,E,f⟩:=kfe A k;simp only [aggO,E] at s;cases d <;> simp [MapKept.IsKey] at f s <;> (cases g:x.1 <;> rw [g] at f <;> exact f)
   ·obtain ⟨_,h2⟩:=eqC 9 kt cs.toList y.toList t.2 C;obtain ⟨r,g1,G⟩:=h2 (Op.maxDepth-9) w;refine ⟨r,?_,?_⟩
    ·rw [u,z];have F:Op.maxDepth-9+9=Op.maxDepth:=by decide
     rw [F] at g1;simp only [voC,t.1] at g1;exact g1
    ·rw [G,z];constructor
     ·intro e; rw [Array.ext' e]
     ·intro e; cases e; rfl
  cases p:keyB (.agg cs) x.1 with
  | true=>
   have:r=true:=c.2 (m.1 p);subst this;exact .inr ⟨0,x,e,by simp [findA,p],rfl,rfl,by simp [Instr.findAsking,hr],(m.1 p).symm⟩
  | false=>
   have:r=false:=by
    cases r
    ·rfl
    ·have:=m.2 (c.1 rfl); rw [p] at this; cases this
   subst this;rcases kiE t w l b (i+1) (by simpa using hl) (λy z=>hks y (by simp [z])) (λj y M=>by simpa using hx (j+1) y (by simpa using M)) with ⟨B,h2⟩ | ⟨j,y,J,B,h2,L,H,I⟩
   ·exact .inl ⟨by simp [findA,p,B],by simp [Instr.findAsking,hr,h2]⟩
   ·exact .inr ⟨j+1,y,J,by simp [findA,p,B]; omega,by simpa using h2,by simpa using L,by simp [Instr.findAsking,hr,H]; omega,I⟩
theorem kqv {kt:Yc} {k:Yd} (z:kaR P kt k) (w:World) {l:Ya MapEntry} {b:Ya (Yd×AV)} (hl:l.length=b.length) (s:∀ x∈b,kaR P kt x.1) (A:∀ (j:Nat) (x:Yd×AV),b[j]?=some x->∃ e,l[j]?=some e/\e.key=x.1) :
  (findA k b 0=none/\(Instr.findKey kt k l).run P w = .ok none w)\/∃ j x e,findA k b 0=some (j,x.2)/\b[j]?=some x/\l[j]?=some e/\(Instr.findKey kt k l).run P w = .ok (some (j,e.val)) w/\x.1=k:=by
 rcases kcu z with h | ⟨cs,rfl,f,_,_⟩
 ·have C:sKey k=true:=by cases k <;> first | rfl | exact h.elim
  obtain ⟨d,c,t⟩:=kfe C z;have B:aggO P kt≠some true:=by
   simp only [aggO,c];cases d <;> simp [MapKept.IsKey] at t ⊢
  have r:∀ x∈b,MapKept.IsKey d x.1/\(keyB k x.1=true↔k=x.1):=λx A=>by
   have m:=s x A;refine ⟨?_,krM z m⟩;rcases kcu m with g | ⟨y,_,I,_⟩
   ·obtain ⟨R,i,h2⟩:=kfe (by cases E:x.1 <;> rw [E] at g <;> first | rfl | exact g.elim) m;rw [c] at i; cases i; exact h2
   ·exact absurd I B
  rcases kiN (kt:=kt) t l b 0 hl r A with ⟨i,h2⟩ | ⟨j,x,e,i,h2,L,G,H⟩
  ·exact .inl ⟨i,MapKept.run_findKey c h2⟩
  ·simp only [jce] at i G;exact .inr ⟨j,x,e,i,h2,L,MapKept.run_findKey c G,H⟩
 ·have M:∀ d,P.underlying kt=some d->(∀ q,d≠.int q)/\d≠.string/\d≠.bool:=λd c=>by
   simp only [aggO,c] at f;cases d <;> simp at f ⊢
  obtain ⟨d,c⟩:∃ d,P.underlying kt=some d:=by
   cases J:P.underlying kt with
   | none=>simp [aggO,J] at f
   | some d=>exact ⟨d,rfl⟩
  have p:∀ v,Instr.sameNow d (.agg cs) v=none:=λv=>by cases d <;> cases v <;> rfl
  cases l with
  | nil=>
   have:b=[]:=jbx hl.symm;subst this;exact .inl ⟨rfl,MapKept.run_findKey c (by rfl)⟩
  | cons e l=>
   have F:Instr.findNow d (.agg cs) (e::l) 0=none:=by simp [Instr.findNow,p]
   have u:(Instr.findKey kt (.agg cs) (e::l)).run P w=(Instr.findAsking kt (.agg cs) (e::l) 0).run P w:=by
    simp [Instr.findKey,run_underlying c,F]
   rw [u];have:=kiE z w (e::l) b 0 hl s A;simpa only [jce] using this
theorem kjC {kt:Yc} {k:Yd} (f:kaR P kt k) (w:World) (em:Bool):(Instr.checkKey em 10000 kt k).run P w = .ok () w:=by
 rcases kcu f with h | ⟨cs,rfl,e,b,_⟩
 ·obtain ⟨d,g,c⟩:=kfe (by cases k <;> first | rfl | exact h.elim) f;exact MapKept.run_checkKey g c em 9999
 ·have:=ckC (em:=em) 9 kt cs.toList b 9991 w;simpa [voC,e] using this
theorem kiF {v:Yd} (b:Scal v) (n:Nat):Instr.sameBits n v v=true:=by
 cases v <;> simp only [Scal] at b <;> cases n <;> simp [Instr.sameBits,MapKept.bytes_beq]
theorem krG {kt:Yc} {k:Yd} (b:kaR P kt k) (w:World):(Instr.keyThatStays k k).run P w = .ok k w:=by
 have:Instr.sameBits 10000 k k=true:=by
  rcases kcu b with h | ⟨cs,rfl,_,_,c⟩
  ·exact kiF h _
  ·simp only [Instr.sameBits,BEq.rfl,Bool.true_and,jap];intro p hp;obtain ⟨i,e,h2⟩:=jdl.1 hp;rw [List.getElem_zip] at h2;subst h2;exact kiF (c _ (jdh ..)) _
 simp [Instr.keyThatStays,this]
theorem klZ {w:World} {O:Nat->Prop} {μ:Mu} {n:Nat}:∀ {cs:Ya AV} {vs:Ya Yd} (us:Ya Yd),scV cs=some vs->us.length=cs.length->(∀ (j:Nat) (c:AV),cs[j]?=some c->∃ u,us[j]?=some u/\VR w O μ n c u)->us=vs
 | [],vs,us,h,hl,hv=>by simp [scV] at h; subst h; exact jbx hl
 | c::cs,vs,us,h,hl,hv=>by
  cases c with
  | sc v=>
   simp only [scV,jac] at h;obtain ⟨i,f,rfl⟩:=h;cases us with
   | nil=>simp at hl
   | cons u us=>
    obtain ⟨k,e,g⟩:=hv 0 _ rfl;simp at e; subst e;rw [g.sc_inv,klZ us f (by simpa using hl) λj c b=>by simpa using hv (j+1) c (by simpa using b)]
  | _=>simp [scV] at h
theorem kmS {a:AV} {u k:Yd} (b:keyA a=some k) (f:VR w O μ n a u):u=k:=by
 cases a <;> simp only [keyA] at b <;> first | cases b | skip
 ·exact f.sc_inv
 ·obtain ⟨vs,i,rfl⟩:=jac.1 b;cases f with
  | ag _ X us g l _ hr=>
   have:=klZ X.toList i (by simpa using g) λj c e=>⟨us j,by simpa using l j c e,hr j c e⟩;rw [<-this]
theorem HR.own_map (hr:HR w O μ h n) {id:Nat} {c:Ya (Yd×AV)} (hB:h id=some (.map c)):∃ b es,μ id=some (b,0)/\w.heap[b]?=some (.map es c.length)/\es.size=c.length/\
   ∀ (i:Nat) (x:Yd×AV),c[i]?=some x->∃ e,es[i]?=some e/\e.key=x.1/\e.born=i/\x.2.vl=true/\VR w O μ n x.2 e.val:=hr.blk id _ hB
theorem VR.mp_inv {id:Nat} {v:Yd} (c:VR w O μ n (.mp id) v) {b k:Nat} (e:μ id=some (b,k)):v = .map (some b):=by
 cases c with
 | mp _ _ _ _ c=>exact c b k e
theorem kqV {T:Yc} (f:o.op = .makeMap T none) (hr:HR w O μ h n) (c:K (.mp n) (updH h n (.map [])) (n+1)):OpR P o a w O μ n K:=by
 have g:=Evo.alloc hr (.map #[] 0) 0;refine ⟨.map (some w.heap.size),w.alloc (.map #[] 0),updM μ n (w.heap.size,0),.mp n,_,n+1,.inl ?_,c,?_,?_,g⟩
 ·simp [execOp,f,Instr.makeMap]
 ·exact hr.alloc _ 0 _ ⟨w.heap.size,#[],by simp [updM],kaQ _ _,rfl,λi x j=>by simp at j⟩
 ·exact .mp n _ (by omega) rfl λb k e=>by simp [updM] at e; rw [e.1]
theorem ktM {T:Yc} {x:Yf} (j:o.op = .range T x) (hr:HR w O μ h n) {v:AV} (i:VR w O μ n v (a.eval x)) (f:kjs P h n T v K):OpR P o a w O μ n K:=by
 unfold kjs at f;split at f
 ·rename_i s;obtain ⟨hT,f⟩:=f;have g:=Evo.alloc hr (.stringIter s 0) 0;refine ⟨.pointer (some ⟨w.heap.size,0,none⟩),w.alloc (.stringIter s 0),updM μ n (w.heap.size,0),.own n 0 0,_,n+1,.inl ?_,f,?_,?_,g⟩
  ·simp only [execOp,j,i.sc_inv];exact kal (run_range_string w T s hT)
  ·exact hr.alloc _ 0 _ ⟨w.heap.size,by simp [updM],kaQ _ _⟩
  ·exact .own n 0 0 _ (by omega) rfl λb k e=>by simp [updM] at e; rw [e.1]; simp
 ·rename_i id;split at f
  ·rename_i c hB;obtain ⟨hT,f⟩:=f;obtain ⟨⟨m,te⟩,hT⟩:=jan.1 hT;obtain ⟨b,es,p,h2,t,r⟩:=hr.blk id _ hB;have l:a.eval x = .map (some b):=i.mp_inv p;have g:=Evo.alloc hr (.mapIter (some b) c.length #[] c.length) 0;refine ⟨.pointer (some ⟨w.heap.size,0,none⟩),w.alloc (.mapIter (some b) c.length #[] c.length),updM μ n (w.heap.size,0),.own n 0 0,_,n+1,.inl ?_,f,?_,?_,g⟩
   ·simp only [execOp,j,l];exact kal (run_range_map w T m te b es c.length (keb hT) h2)
   ·rw [l] at i;exact hr.alloc _ 0 _ ⟨w.heap.size,b,by simp [updM],kaQ _ _,i.evo g⟩
   ·exact .own n 0 0 _ (by omega) rfl λb k e=>by simp [updM] at e; rw [e.1]; simp
  ·exact f.elim
 ·exact f.elim
theorem kuh {x:Yf} (y:o.op = .next x true) (hr:HR w O μ h n) {v:AV} (r:VR w O μ n v (a.eval x)) (g:nextK h n v K):OpR P o a w O μ n K:=by
 unfold nextK at g;split at g
 ·rename_i id;split at g
  ·rename_i s pos hB;obtain ⟨b,l,h2⟩:=hr.blk id _ hB;have t:=(hr.scope id b 0 l).2;have hp:a.eval x = .pointer (some ⟨b,0,none⟩):=by
    cases r with
    | own _ _ _ _ _ _ r=>simpa using r b 0 l
   split at g
   ·rename_i p;let w':World:={ w with heap:=w.heap.setIfInBounds b (.stringIter s (pos+(Utf8.decode s pos).2)) }
    have k:=hr.set (w':=w') id b 0 l (.si s (pos+(Utf8.decode s pos).2)) rfl rfl ⟨rfl,jah _⟩ (by simp [w']) (λi A=>by simp [w',Ne.symm A]) (λc T f z=>by rw [h2] at z; cases z)
     λ_=>⟨b,l,by simp [w',t]⟩
    refine ⟨.tuple #[.bool true,.int .i64 pos,.int .i32 (Utf8.decode s pos).1],w',μ,.tp [.sc (.bool true),.sc (.int .i64 pos),.sc (.int .i32 (Utf8.decode s pos).1)],_,n,.inl ?_,g,k.2,?_,k.1⟩
    ·simp only [execOp,y,hp];refine kal ?_;simp only [Instr.next,getObj,setObj,Sem.run_bind,Sem.run,h2,Result.andThen,p,if_true];simp [goInt,w',t]
    ·refine .tp _ _ (λj=>([.bool true,.int .i64 pos,.int .i32 (Utf8.decode s pos).1]:Ya Yd)[j]?.getD undef) rfl (λj c e=>?_) λj c e=>?_
     ·match j,e with
      | 0,_=>rfl
      | 1,_=>rfl
      | 2,_=>rfl
     ·match j,e with
      | 0,e=>simp at e; subst e; exact .sc _ rfl
      | 1,e=>simp at e; subst e; exact .sc _ rfl
      | 2,e=>simp at e; subst e; exact .sc _ rfl
   ·rename_i m;refine OpR.value hr (u:=.tuple #[.bool false]) (v:=.tp [.sc (.bool false)]) ?_ ?_ g
    ·simp only [execOp,y,hp];refine kal ?_;simp [Instr.next,getObj,Sem.run,h2,m]
    ·refine .tp _ _ (λ_=>.bool false) rfl (λj c e=>?_) λj c e=>?_
     ·match j,e with
      | 0,_=>rfl
     ·match j,e with
      | 0,e=>simp at e; subst e; exact .sc _ rfl
  ·exact g.elim
 ·exact g.elim
theorem ksK {x:Yf} (ho:o.op = .next x false) (hr:HR w O μ h n) {v:AV} (Z:VR w O μ n v (a.eval x)) (r:kmm h n v K):OpR P o a w O μ n K:=by
 unfold kmm at r;split at r
 ·rename_i id;split at r
  ·rename_i G W seen hB;split at r
   ·rename_i g hM;obtain ⟨rfl,R,M⟩:=r;obtain ⟨b,J,I,h2,h3⟩:=hr.blk id _ hB;obtain ⟨S,es,g1,g2,g3,g4⟩:=hr.blk G _ hM;have e:=h3.mp_inv g1;obtain rfl:J=S:=by simpa using e
    have hb:=(hr.scope id b 0 I).2;have hp:a.eval x = .pointer (some ⟨b,0,none⟩):=by
     cases Z with
     | own _ _ _ _ _ _ Z=>simpa using Z b 0 I
    have C:∀ (i:Nat) (e:MapEntry),es[i]?=some e->∃ y,g[i]?=some y/\e.key=y.1/\e.born=i/\VR w O μ n y.2 e.val:=λi e L=>by
     have B:i<g.length:=by rw [<-g3]; exact (jaj.1 L).1
     obtain ⟨e',s,H,t,X,q5⟩:=g4 i g[i] (jaf B);rw [L] at s;cases s;exact ⟨g[i],jaf B,H,t,q5⟩
    rcases run_next_at (P:=P) w o.type b J g.length g.length seen.toArray es g.length h2 g2 (λy F=>by
     obtain ⟨i,B,F⟩:=jdl.1 F;obtain ⟨y',s,H,t,X⟩:=C i y (by rw [<-F]; simp);rw [t]; exact (jae.1 s).1) (jah _) with ⟨hz,hrun⟩ | ⟨e,hel2,w1,hw1,hrun⟩
    ·refine OpR.value hr (u:=.tuple #[.bool false]) (v:=.tp [.sc (.bool false)]) ?_ ?_ (M λi B=>?_)
     ·simp only [execOp,ho,hp];exact kal hrun
     ·refine .tp _ _ (λ_=>.bool false) rfl (λj c l=>?_) λj c l=>?_
      ·match j,l with
       | 0,_=>rfl
      ·match j,l with
       | 0,l=>simp at l; subst l; exact .sc _ rfl
     ·refine Classical.byContradiction λhn=>?_;obtain ⟨e',s,H,t,_⟩:=g4 i g[i] (jaf B);have hm:e'∈(leftOf es seen.toArray).toList:=by
       unfold leftOf;simp only [Array.toList_filter,jdy];refine ⟨jai (by simpa using s),?_⟩;simp [t,hn]
      have aa:(leftOf es seen.toArray).toList.length=0:=by simpa using hz
      rw [List.length_eq_zero_iff.1 aa] at hm;cases hm
    ·have p:=hel2;unfold leftOf at p;simp only [Array.toList_filter,jdy] at p;obtain ⟨U,E⟩:=p;obtain ⟨i,B,F⟩:=jdl.1 U;obtain ⟨y,s,H,t,X⟩:=C i e (by rw [<-F]; simp);have Y:i∉seen:=by
      rw [t] at E;simpa using E
     let w':World:=ChangeMaps.setBlock w1 b (.mapIter (some J) g.length (seen.toArray.push e.born) g.length)
     have A:w1.heap=w.heap/\w1.os=w.os/\w1.tape=w.tape/\w1.output=w.output/\w.drawn<=w1.drawn:=by
      rcases hw1 with rfl | rfl
      ·exact ⟨rfl,rfl,rfl,rfl,jah _⟩
      ·exact ⟨rfl,rfl,rfl,rfl,jbp _⟩
     have z:seen.toArray.push e.born=(seen++[i]).toArray:=by rw [t]; simp
     have m:=hr.set (w':=w') id b 0 I (.mi G g.length (seen++[i])) (by simp [w',ChangeMaps.setBlock,A.2.1]) (by simp [w',ChangeMaps.setBlock,A.2.2.1]) (by simpa [w',ChangeMaps.setBlock] using A.2.2.2) (by simp [w',ChangeMaps.setBlock,A.1]) (λk r=>by simp [w',ChangeMaps.setBlock,A.1,Ne.symm r]) (λc T f hc=>by rw [h2] at hc; cases hc)
      λL=>⟨b,J,I,by simp [w',ChangeMaps.setBlock,A.1,hb,z],h3.evo L⟩
     refine ⟨.tuple #[.bool true,e.key,e.val],w',μ,.tp [.sc (.bool true),cst y.1,y.2],_,n,.inl ?_,R i y s Y,m.2,?_,m.1⟩
     ·simp only [execOp,ho,hp];exact kal hrun
     ·refine .tp _ _ (λj=>([.bool true,e.key,e.val]:Ya Yd)[j]?.getD undef) rfl (λj c l=>?_) λj c l=>?_
      ·match j,l with
       | 0,_=>rfl
       | 1,_=>rfl
       | 2,_=>rfl
      ·match j,l with
       | 0,l=>simp at l; subst l; exact .sc _ rfl
       | 1,l=>simp at l; subst l; rw [<-H]; exact VR.cst _ _ _ _ _
       | 2,l=>simp at l; subst l; exact X.evo m.1
   ·exact r.elim
  ·exact r.elim
 ·exact r.elim
theorem ksJ {x:Yf} (L:o.op = .entry x) (hr:HR w O μ h n) {v:AV} (z:VR w O μ n v (a.eval x)) (g:kpG h n v K):OpR P o a w O μ n K:=by
 unfold kpG at g;split at g
 ·rename_i id;split at g
  ·rename_i s r seen hB;split at g
   ·rename_i k i hM hl;obtain ⟨rfl,y,M,g⟩:=g;obtain ⟨b,C,A,h2,R⟩:=hr.blk id _ hB;obtain ⟨p,es,g1,G,U,B⟩:=hr.blk s _ hM;have e:=R.mp_inv g1;obtain rfl:C=p:=by simpa using e
    have hp:a.eval x = .pointer (some ⟨b,0,none⟩):=by
     cases z with
     | own _ _ _ _ _ _ z=>simpa using z b 0 A
    obtain ⟨e,H,S,I,T,J⟩:=B i y M;obtain ⟨s',rfl⟩:∃ s',seen=s'++[i]:=by
     obtain ⟨s',m⟩:=List.getLast?_eq_some_iff.1 hl;exact ⟨s',m⟩
    have l:(s'++[i]).toArray=s'.toArray.push e.born:=by rw [I]; simp
    rw [l] at h2;have t:(es.toList.map (·.born)).Nodup:=by
     have:es.toList.map (·.born)=List.range es.size:=by
      refine List.ext_getElem (by simp) λj A h2=>?_;have f:j<k.length:=by simp at h2; omega
      obtain ⟨e',F,r2,E,_⟩:=B j k[j] (jaf f);have:es[j]'(by simp at h2; exact h2)=e':=by
       have:=(jaj.1 F).2;exact this
      simp [this,E]
     rw [this]; exact List.nodup_range
    refine OpR.value hr (u:=.tuple #[e.key,e.val]) (v:=.tp [cst y.1,y.2]) ?_ ?_ g
    ·simp only [execOp,L,hp];exact kal (run_entry_at w b C k.length s'.toArray es k.length e h2 G (jai (by simpa using H)) t)
    ·refine .tp _ _ (λj=>([e.key,e.val]:Ya Yd)[j]?.getD undef) rfl (λj c f=>?_) λj c f=>?_
     ·match j,f with
      | 0,_=>rfl
      | 1,_=>rfl
     ·match j,f with
      | 0,f=>simp at f; subst f; rw [<-S]; exact VR.cst _ _ _ _ _
      | 1,f=>simp at f; subst f; exact J
   ·exact g.elim
  ·exact g.elim
 ·exact g.elim
theorem krZ {T:Yc} {m key:Yf} {ok:Bool} (W:o.op = .lookup T m key ok) (hr:HR w O μ h n) {L J:AV} (Y:VR w O μ n L (a.eval m)) (A:VR w O μ n J (a.eval key)) (f:ked P h T L J ok (λv=>K v h n)):OpR P o a w O μ n K:=by
 unfold ked at f;split at f
 ·rename_i id k kt e H hT;split at f
  ·rename_i M hB;obtain ⟨y,C,f⟩:=f;obtain ⟨b,es,g1,R,Z,I⟩:=hr.own_map hB;have B:=Y.mp_inv g1;have G:=kmS H A;have fin:∀ {v:AV} {u:Yd} {r:Yb (Nat×Yd)} {t:Bool},(Instr.findKey kt k es.toList).run P w = .ok r w->((match r with | some (_,v)=>pure (v,true) | none=>do pure (<-zeroValue e,false):Sem (Yd×Bool)).run P w = .ok (u,t) w)->VR w O μ n v u->K (if ok then .tp [v,.sc (.bool t)] else v) h n->OpR P o a w O μ n K:=by
    intro v u r t p h2 s E;refine OpR.value hr (u:=if ok then .tuple #[u,.bool t] else u) (v:=if ok then .tp [v,.sc (.bool t)] else v) ?_ ?_ E
    ·simp only [execOp,W,B,G];refine kal ?_;simp only [Instr.lookup,Sem.run_bind,run_underlying (keb hT),Result.andThen_ok,MapKept.run_getObj_map R,Sem.run_pure,kjC y,p];rcases r with _ | ⟨i,rv⟩
     ·simp only [Sem.run_bind] at h2 ⊢;cases hz:(zeroValue e).run P w with
      | ok z w1=>
       rw [hz] at h2;simp at h2 ⊢;obtain ⟨⟨rfl,rfl⟩,rfl⟩:=h2;simp
      | halt=>rw [hz] at h2; simp [Result.andThen] at h2
     ·simp at h2 ⊢;obtain ⟨rfl,rfl⟩:=h2;simp
    ·cases ok
     ·exact s
     ·exact .tp _ _ (λj=>(#[u,.bool t]:Array Yd).getD j undef) rfl (λj c g=>by match j with | 0=>simp | 1=>simp | j+2=>simp at g) (λj c g=>by
       match j,g with
       | 0,g=>simp at g; subst g; exact s
       | 1,g=>simp at g; subst g; exact .sc _ rfl
       | j+2,g=>simp at g)
   rcases kqv y w (l:=es.toList) (by simpa using Z) C (λj x g=>by
    obtain ⟨e',p,h2,_⟩:=I j x g;exact ⟨e',by simpa using p,h2⟩) with ⟨p,h2⟩ | ⟨j,x,e',p,h2,s,E,h5⟩
   ·rw [p] at f;split at f
    ·rename_i F; cases F
    ·rename_i z _ hz;unfold zvO at hz;obtain ⟨ti,X,hz⟩:=jaa.1 hz;exact fin (t:=false) h2 (by simp [zeroValue,typeInfo,X,hz]) (VR.cst w O μ n z) f
    ·exact f.elim
   ·rw [p] at f;simp only at f;obtain ⟨F,S,q2,q3,q4,U⟩:=I j x h2;have:F=e':=by rw [jcs] at s; rw [S] at s; cases s; rfl
    subst this;exact fin (t:=true) E (by simp) U f
  ·exact f.elim
 ·exact f.elim
theorem map_set (hr:HR w O μ h n) {id b:Nat} {es es':Array MapEntry} {g kvs':Ya (Yd×AV)} {v:AV} {u:Yd} {k:Yd} (hB:h id=some (.map g)) (g1:μ id=some (b,0)) (B:w.heap[b]?=some (.map es g.length)) (I:∀ (i:Nat) (x:Yd×AV),g[i]?=some x->∃ e,es[i]?=some e/\e.key=x.1/\e.born=i/\x.2.vl=true/\VR w O μ n x.2 e.val)
  (j:v.vl=true) (L:VR w O μ n v u) (p:es'.size=kvs'.length)
  (m:∀ (i:Nat) (y:Yd×AV),kvs'[i]?=some y->(g[i]?=some y/\∃ e,es[i]?=some e/\es'[i]?=some e)\/(y=(k,v)/\∃ e,es'[i]?=some e/\e.key=k/\e.born=i/\e.val=u)) :
  Evo w μ n { w with heap:=w.heap.setIfInBounds b (.map es' kvs'.length) } μ n/\HR { w with heap:=w.heap.setIfInBounds b (.map es' kvs'.length) } O μ (updH h id (.map kvs')) n:=by
 have l:b<w.heap.size:=(hr.scope id b 0 g1).2;exact hr.set (w':={ w with heap:=w.heap.setIfInBounds b (.map es' kvs'.length) }) id b 0 g1 (.map kvs') rfl rfl ⟨rfl,jah _⟩ (by simp) (λi s=>by simp [Ne.symm s]) (λc T f z=>by rw [B] at z; cases z) (λA=>by
  refine ⟨b,es',g1,by simp [l],p,λi y s=>?_⟩;rcases m i y s with ⟨E,e,h2,r⟩ | ⟨rfl,e,h2,r,C,F⟩
  ·obtain ⟨e',t,M,G,J,H⟩:=I i y E;rw [h2] at t; cases t;exact ⟨e,r,M,G,J,H.evo A⟩
  ·exact ⟨e,h2,r,C,j,by rw [F]; exact L.evo A⟩)
theorem krH {es:Array MapEntry} {b:Ya (Yd×AV)} (l:es.size=b.length) {k u:Yd} {v:AV} (i:Nat) (y:Yd×AV) (c:(b++[(k,v)])[i]?=some y) :
  (b[i]?=some y/\∃ e,es[i]?=some e/\(es.push { key:=k,val:=u,born:=b.length })[i]?=some e)\/(y=(k,v)/\∃ e,(es.push { key:=k,val:=u,born:=b.length })[i]?=some e/\e.key=k/\e.born=i/\e.val=u):=by
 rw [jbu] at c;split at c
 ·rename_i j;exact .inl ⟨c,es[i]'(by omega),jao _,by rw [Array.getElem?_push,if_neg (by omega)]; exact jao _⟩
 ·rename_i g;have f:i-b.length=0:=by
   rcases Nat.eq_zero_or_pos (i-b.length) with h | h
   ·exact h
   ·rw [jcd (by simp; omega)] at c; cases c
  rw [f] at c; simp at c; subst c;have:i=es.size:=by omega
  subst this;exact .inr ⟨rfl,{ key:=k,val:=u,born:=b.length },by simp,rfl,by simp [l],rfl⟩
theorem kiX {es:Array MapEntry} {b:Ya (Yd×AV)} (s:es.size=b.length) {k u:Yd} {v:AV} {j:Nat} {e':MapEntry} (m:es[j]?=some e') (p:e'.born=j) (f:MapEntry->MapEntry) (l:(f e').key=k/\(f e').born=e'.born/\(f e').val=u) (i:Nat) (z:Yd×AV) (c:(b.set j (k,v))[i]?=some z) :
  (b[i]?=some z/\∃ e,es[i]?=some e/\(es.modify j f)[i]?=some e)\/(z=(k,v)/\∃ e,(es.modify j f)[i]?=some e/\e.key=k/\e.born=i/\e.val=u):=by
 rw [List.getElem?_set] at c;split at c
 ·rename_i g;subst g;split at c
  ·cases c;exact .inr ⟨rfl,f e',by rw [Array.getElem?_modify,if_pos rfl,m]; rfl,l.1,by rw [l.2.1,p],l.2.2⟩
  ·cases c
 ·rename_i g;have r:=(jae.1 c).1;exact .inl ⟨c,es[i]'(by omega),jao _,by rw [Array.getElem?_modify,if_neg g]; exact jao _⟩
theorem kiJ {T:Yc} {m key x:Yf} (B:o.op = .mapUpdate T m key x\/o.op = .insert T m key x) (hr:HR w O μ h n) {S R v:AV} (Z:VR w O μ n S (a.eval m)) (s:VR w O μ n R (a.eval key)) (Y:VR w O μ n v (a.eval x)) (c:kdv P h n T S R v K):OpR P o a w O μ n K:=by
 unfold kdv at c;split at c
 ·rename_i id k kt e L hT;split at c
  ·rename_i p hB;obtain ⟨f,F,z,c⟩:=c;obtain ⟨b,es,g1,r,A,I⟩:=hr.own_map hB;have C:=Z.mp_inv g1;have J:=kmS L s;have fin:∀ (es':Array MapEntry) (kvs':Ya (Yd×AV)),(Instr.mapUpdate T (.map (some b)) k (a.eval x)).run P w = .ok () { w with heap:=w.heap.setIfInBounds b (.map es' kvs'.length) }->es'.size=kvs'.length->
     (∀ (i:Nat) (y:Yd×AV),kvs'[i]?=some y->(p[i]?=some y/\∃ e,es[i]?=some e/\es'[i]?=some e)\/(y=(k,v)/\∃ e,es'[i]?=some e/\e.key=k/\e.born=i/\e.val=a.eval x))->K .ud (updH h id (.map kvs')) n->OpR P o a w O μ n K:=by
    intro es' kvs' u H G c;obtain ⟨he,X⟩:=map_set hr hB g1 r I z Y H G;refine ⟨undef,_,μ,.ud,_,n,.inr ⟨?_,rfl⟩,c,X,.ud,he⟩;rcases B with B | B <;> simp only [execOp,B,C,J,Sem.run_bind,u,Result.andThen_ok,Sem.run_pure]
   rcases kqv f w (l:=es.toList) (by simpa using A) F (λj x g=>by
    obtain ⟨e',t,h2,_⟩:=I j x g;exact ⟨e',by simpa using t,h2⟩) with ⟨t,h2⟩ | ⟨j,y,e',t,h2,h3,h4,h5⟩
   ·rw [t] at c;refine fin (es.push { key:=k,val:=a.eval x,born:=p.length }) _ ?_ (by simp [A]) (krH A) c;simp [Instr.mapUpdate,run_underlying (keb hT),MapKept.run_getObj_map r,kjC f,h2,MapKept.run_setObj_map _ r]
   ·rw [t] at c;have g:es[j]?=some e':=by simpa using h3
    have U:=(jaj.1 g).1;obtain ⟨e2,M,q2,W,_⟩:=I j y h2;rw [g] at M; cases M;simp only at c h4;have E:e'.key=k:=by rw [q2,h5]
    refine fin (es.modify j λe=>{ e with key:=k,val:=a.eval x }) _ ?_ (by simp [A]) (kiX A g W _ ⟨rfl,rfl,rfl⟩) c;simp [Instr.mapUpdate,run_underlying (keb hT),MapKept.run_getObj_map r,kjC f,h4,g,E,krG f,MapKept.run_setObj_map _ r]
  ·exact c.elim
 ·exact c.elim
theorem tp2 {a b:AV} {u v:Yd} (f:VR w O μ n a u) (h2:VR w O μ n b v):VR w O μ n (.tp [a,b]) (.tuple #[u,v]):=
 .tp _ _ (λj=>(#[u,v]:Array Yd).getD j undef) rfl (λj c e=>by match j with | 0=>simp | 1=>simp | j+2=>simp at e) (λj c e=>by
  match j,e with
  | 0,e=>simp at e; subst e; exact f
  | 1,e=>simp at e; subst e; exact h2
  | j+2,e=>simp at e)
theorem kpa {T:Yc} {m key:Yf} (Y:o.op = .mapEntry T m key) (hr:HR w O μ h n) {Z X:AV} (hm:VR w O μ n Z (a.eval m)) (v:VR w O μ n X (a.eval key)) (c:khN P h n T Z X K):OpR P o a w O μ n K:=by
 unfold khN at c;split at c
 ·rename_i id k kt e M hT;split at c
  ·rename_i f hB;obtain ⟨g,I,c⟩:=c;obtain ⟨b,es,g1,p,F,G⟩:=hr.own_map hB;have t:=hm.mp_inv g1;have B:=kmS M v;rcases kqv g w (l:=es.toList) (by simpa using F) I (λj x r=>by
    obtain ⟨e',A,h2,_⟩:=G j x r;exact ⟨e',by simpa using A,h2⟩) with ⟨A,h2⟩ | ⟨j,y,e',A,h2,h3,h4,h5⟩
   ·rw [A] at c;split at c
    ·rename_i U; cases U
    ·rename_i z _ hz;unfold zvO at hz;obtain ⟨ti,hi,hz⟩:=jaa.1 hz;obtain ⟨C,c⟩:=c;have L:(zeroValue e).run P w = .ok z w:=by simp [zeroValue,typeInfo,hi,hz]
     obtain ⟨E,J⟩:=map_set (es':=es.push { key:=k,val:=z,born:=f.length }) hr hB g1 p G C (VR.cst w O μ n z) (by simp [F]) (krH F);refine ⟨.tuple #[z,goInt f.length],_,μ,_,_,n,.inl ?_,c,J,(tp2 (VR.cst w O μ n z) (.sc _ rfl)).evo E,E⟩;simp only [execOp,Y,t,B];refine kal ?_;simp [Instr.mapEntry,run_underlying (keb hT),MapKept.run_getObj_map p,kjC g,h2,L,MapKept.run_setObj_map _ p]
    ·exact c.elim
   ·rw [A] at c;have r:es[j]?=some e':=by simpa using h3
    have aa:=(jaj.1 r).1;obtain ⟨U,R,q2,S,q4,W⟩:=G j y h2;rw [r] at R; cases R;have H:e'.key=k:=by rw [q2,h5]
    have hy:f.set j (k,y.2)=f:=by
     rw [<-h5];refine jcm λi=>?_;rw [List.getElem?_set];split
     ·rename_i e; subst e;split
      ·exact h2.symm
      ·rename_i hn; exact absurd (jae.1 h2).1 hn
     ·rfl
    have s:=map_set (kvs':=f.set j (k,y.2)) (es':=es.modify j λe=>{ e with key:=k }) (u:=e'.val) hr hB g1 p G q4 W (by simp [F]) (kiX F r S _ ⟨rfl,rfl,rfl⟩);rw [hy] at s;obtain ⟨E,J⟩:=s;refine ⟨.tuple #[e'.val,goInt j],_,μ,_,_,n,.inl ?_,c,J,(tp2 W (.sc _ rfl)).evo E,E⟩;simp only [execOp,Y,t,B];refine kal ?_;simp [Instr.mapEntry,run_underlying (keb hT),MapKept.run_getObj_map p,kjC g,h4,r,H,S,krG g,MapKept.run_setObj_map _ p]
  ·exact c.elim
 ·exact c.elim
theorem kmI {T:Yc} {m st x:Yf} (G:o.op = .entryStore T m st x) (hr:HR w O μ h n) {C vs v:AV} (M:VR w O μ n C (a.eval m)) (J:VR w O μ n vs (a.eval st)) (L:VR w O μ n v (a.eval x)) (c:kjx h n C vs v K):OpR P o a w O μ n K:=by
 unfold kjx at c;split at c
 ·rename_i id q i;split at c
  ·rename_i g hB;obtain ⟨U,k,y,H,c⟩:=c;obtain ⟨b,es,g1,u,E,A⟩:=hr.own_map hB;have t:=M.mp_inv g1;have s:=J.sc_inv;obtain ⟨e',z,S,B,X,W⟩:=A _ y H;have l:=(jaj.1 z).1;have f:es.findIdx? (λe=>(e.born:Int)==i)=some i.toNat:=by
    rw [Array.findIdx?_eq_some_iff_getElem];refine ⟨l,?_,λj Y=>?_⟩
    ·have:es[i.toNat]=e':=by have:=z; rw [jao l] at this; exact Option.some.inj this
     rw [this,B]; simp; omega
    ·obtain ⟨r,p⟩:∃ r,g[j]?=some r:=⟨_,jaf (by omega)⟩;obtain ⟨F,p1,_,p3,_⟩:=A j r p;have:es[j]=F:=by rw [jao (by omega)] at p1; exact Option.some.inj p1
     rw [this,p3]; simp; omega
   obtain ⟨R,I⟩:=map_set (kvs':=g.set i.toNat (y.1,v)) (es':=es.modify i.toNat λe=>{ e with val:=a.eval x }) hr hB g1 u A k L (by simp [E]) (kiX E z B _ ⟨S,rfl,rfl⟩);refine ⟨undef,_,μ,.ud,_,n,.inr ⟨?_,rfl⟩,c,I,.ud,R⟩;simp [execOp,G,t,s,Instr.entryStore,MapKept.run_getObj_map u,asInt,asIntOf,f,MapKept.run_setObj_map _ u]
  ·exact c.elim
 ·exact c.elim
end
def kcV (b:Ya Int):Ya UInt8:=b.map λn=>UInt8.ofNat n.toNat
theorem kje:∀ (l:Ya Int) (r:ByteArray),l.foldl (λr n=>r.push (UInt8.ofNat n.toNat)) r=⟨r.data++(kcV l).toArray⟩
 | [],r=>by simp [kcV]
 | b::l,r=>by
  simp only [jbo];rw [kje l];simp [ByteArray.push,kcV]
section
variable {P:Ye} {o:Oper} {a:Act} {w:World} {O:Nat->Prop} {μ:Mu} {h:AH} {n:Nat} {K:K3}
theorem kkm {S T e:Yc} {x:Yf} {f:Ya Int} (H:o.op = .convert S T x) (hr:HR w O μ h n) (hS:elemO P S=some e) (E:P.underlying e=some (.int .u8)) (hT:P.underlying T=some .string)
  (A:VR w O μ n (.sl (f.map λi=>[.sc (.int .u8 i)])) (a.eval x)) (F:K (.sc (.string ⟨(kcV f).toArray⟩)) h n):OpR P o a w O μ n K:=by
 have hS':P.underlying S=some (.slice e):=by
  unfold elemO at hS; split at hS
  ·cases hS; assumption
  ·cases hS
 refine OpR.value hr (u:=.string ⟨(kcV f).toArray⟩) ?_ (.sc _ rfl) F;simp only [execOp,H];refine kal ?_;have e0:ByteArray.empty.data = #[]:=rfl;have run:∀ (b:Addr) (c:Nat),(loadCells b f.length).run P w = .ok (f.map (Value.int .u8)).toArray w->(convert S T (.slice (some b) f.length c)).run P w = .ok (.string ⟨(kcV f).toArray⟩) w:=λb c hl=>by
  rw [run_convert_bytes_string w S T e (some b) _ c hS' E hT,run_bytesToString w b _ c f hl,kje,e0];simp
 generalize l:f.map (λi=>[AV.sc (.int .u8 i)])=es at A;generalize a.eval x=u at A;cases A with
 | slnil p=>
  obtain rfl:f=[]:=by simpa using l
  cases p with
  | none=>rw [run_convert_bytes_string w S T e none 0 0 hS' E hT]; rfl
  | some b=>exact run b 0 (by obtain ⟨M,W,R⟩:=b; exact run_loadCells_list w _ [] λj v t=>by simp at t)
 | sl _ b G cap k us B C hA y L U z=>
  have s:es.length=f.length:=by rw [<-l]; simp
  rw [s];refine run _ _ ?_;have:=kcT (P:=P) (w:=w) (b:=b) (o:=G) (vals:=f.map (Value.int .u8)) (m:=f.length) (λj v t=>?_) (by simp)
  ·exact this
  ·simp only [jas,jac] at t;obtain ⟨i,J,rfl⟩:=t;have g:es[j]?=some [.sc (.int .u8 i)]:=by rw [<-l,jas,J]; rfl
   have r:=y j _ g;simp at r;subst r;have h2:=L j _ g 0 _ rfl;have I:=(z j _ g 0 _ rfl).sc_inv;rw [I] at h2;simpa using h2
end
end Go.Abs
