/- The functions and the law, part 8. -/
import Derived.Test.YtmcfapchpedbgaaS7
set_option linter.constructorNameAsVariable false
set_option linter.unusedVariables false
set_option linter.unusedSimpArgs false
set_option linter.unusedSectionVars false
namespace Go.Abs
open Go
abbrev Swg:=Int×Int×Bool
def lt2 (x y:Swg):Bool:=decide (x.1<y.1)||(x.1==y.1&&decide (x.2.1<y.2.1))
theorem klR (a b:Int):kbK a b=some (if a<b then -1 else if b<a then 1 else 0):=by
 unfold kbK kdM
 by_cases h1:a<b <;> by_cases h2:b<a <;> simp [h1,h2]
theorem Or_eq (a b:Int):kdt [a,b]=some (if a=0 then b else a):=by
 unfold kdt
 rw [keI (F:=kch [a,b]) [a,b] (by simp) (fun i x=>if x=0 then none else some x) (fun i hi=>by
  unfold kch
  rw [if_pos (lenI_lt.2 hi),kbf hi,kbn (by simp at hi; omega)]
  simp only [Option.bind_some]
  by_cases h:[a,b][i]=0 <;> simp [h,nextL]) (by unfold kch; rw [if_neg kaS])]
 simp only [List.zipIdx_cons,List.zipIdx_nil,List.findSome?_cons,List.findSome?_nil]
 by_cases h1:a=0 <;> by_cases h2:b=0 <;> simp [h1,h2,endL]
theorem ksw (x y:Swg):∃ o,kbY x y=some o∧decide (0≤o) = !lt2 x y:=by
 unfold kbY lt2
 rw [klR,klR]
 simp only [Option.bind_some,Or_eq]
 refine ⟨_,rfl,?_⟩
 rcases Int.lt_trichotomy x.1 y.1 with h | h | h
 ·simp [h]
 ·by_cases h2:x.2.1<y.2.1
  ·simp [h,h2]
  ·by_cases h3:y.2.1<x.2.1 <;> simp [h,h2,h3]
 ·have h4:¬ x.1<y.1:=by omega
  have h5:¬ x.1=y.1:=by omega
  simp [h,h4,h5]
def early (t u s:Int):Bool:=decide (IntKind.wrap .u64 (IntKind.wrap .u64 t-IntKind.wrap .u64 u)<IntKind.wrap .u64 s)
theorem kkZ (t u s:Int):kfl t u s=some (!early t u s):=by
 unfold kfl early
 congr 1
 rw [Bool.eq_iff_iff]; simp
def rowG (g:Int) (l:List Swg):List Swg:=l.filter fun x=>x.2.1==g
def khe (l:List Swg) (i:Nat) (x:Swg):Bool:=match i with | 0=>true | j+1=>(match l[j]? with | none=>true | some y=>lt2 y x)
def kjz (slow:Int) (x:Swg) (o:Option Swg):Bool:=match o with | none=>x.2.2 | some y=>(y.2.2 != x.2.2)&&!early x.1 y.1 (imax slow 1)
def okW9 (slow G:Int) (l:List Swg) (i:Nat):Bool:=
 match l[i]? with
 | none=>true
 | some x=>wi 0 (G-1) x.2.1&&khe l i x&&kjz slow x (rowG x.2.1 (l.take i)).getLast?
theorem kkU (slow:Int) (x:Swg):kjz slow x none=x.2.2:=rfl
theorem kkM (slow:Int) (x y:Swg):kjz slow x (some y)=((y.2.2 != x.2.2)&&!early x.1 y.1 (imax slow 1)):=rfl
theorem kke {slow G:Int} {l:List Swg} {i:Nat} (hi:i<l.length):okW9 slow G l i=(wi 0 (G-1) l[i].2.1&&khe l i l[i]&&kjz slow l[i] (rowG l[i].2.1 (l.take i)).getLast?):=by
 unfold okW9; rw [List.getElem?_eq_getElem hi]
def upto (slow G:Int) (l:List Swg) (i k:Nat):Bool:=(List.range' i k).all (okW9 slow G l)
theorem ksq (slow G:Int) (l:List Swg) (i k:Nat):upto slow G l i (k+1)=(okW9 slow G l i&&upto slow G l (i+1) k):=by
 unfold upto; rw [List.range'_succ,List.all_cons]
theorem kjo (g:Int) (l:List Swg) (x:Swg):rowG g (l++[x])=rowG g l++(if x.2.1=g then [x] else []):=by
 unfold rowG; rw [List.filter_append]; by_cases h:x.2.1=g <;> simp [h]
def rowsG (n:Nat) (l:List Swg):List (List Swg):=(List.range n).map fun (g:Nat)=>rowG (g:Int) l
theorem kkf {n:Nat} {l:List Swg} {g:Int} (h0:0≤g) (h1:g<n):gi (rowsG n l) g=some (rowG g l):=by
 unfold gi rowsG
 rw [if_pos h0,List.getElem?_map,List.getElem?_range (by omega)]
 simp [Int.toNat_of_nonneg h0]
theorem krM {n:Nat} {l:List Swg} {x:Swg} (h0:0≤x.2.1) (h1:x.2.1<n):lset (rowsG n l) x.2.1 (rowG x.2.1 l++[x])=rowsG n (l++[x]):=by
 apply List.ext_getElem?
 intro j
 unfold lset rowsG
 rw [List.getElem?_set]
 by_cases hj:x.2.1.toNat=j
 ·subst hj
  simp only [List.length_map,List.length_range,show x.2.1.toNat<n by omega,if_true,List.getElem?_map,List.getElem?_range (show x.2.1.toNat<n by omega),Option.map_some,Int.toNat_of_nonneg h0]
  rw [kjo,if_pos rfl]
 ·rw [if_neg hj]
  by_cases hj2:j<n
  ·simp only [List.getElem?_map,List.getElem?_range hj2,Option.map_some]
   rw [kjo,if_neg (by omega),List.append_nil]
  ·simp [show ¬ j<n from hj2]
def alt (r:List Swg):Prop:=∀ k (h:k<r.length),r[k].2.2=decide (k % 2=0)
theorem ksP {r:List Swg} {x:Swg} (h:alt r) (hx:x.2.2=decide (r.length % 2=0)):alt (r++[x]):=fun k hk=>by
 by_cases hk2:k<r.length
 ·rw [List.getElem_append_left hk2]; exact h k hk2
 ·have:k=r.length:=by simp at hk; omega
  subst this
  simpa using hx
theorem klx {r:List Swg} (h:alt r):(match r.getLast? with | none=>r.length=0 | some y=>0<r.length∧gi r ((r.length:Int)-1)=some y∧y.2.2 = !decide (r.length % 2=0)):=by
 cases hr:r.getLast? with
 | none=>simp only; rw [List.getLast?_eq_none_iff] at hr; simp [hr]
 | some y=>
  simp only
  rw [List.getLast?_eq_getElem?] at hr
  obtain ⟨h1,h2⟩:=List.getElem?_eq_some_iff.1 hr
  have h3:=h _ h1
  refine ⟨by omega,?_,?_⟩
  ·rw [show (r.length:Int)-1=((r.length-1:Nat):Int) by omega,kfp]; exact hr
  ·rw [←h2,h3,Bool.eq_iff_iff]; simp; omega
theorem krh (b:Belt) (f:List Fed) (hG:(b.2.2.2.1.length:Int)≤8) (l:List Swg) (hl:l.length≤1000) (i:Nat) (hi:i<l.length) (ha:∀ g,alt (rowG g (l.take i))) :
  kcc (some (b,f)) l ((i:Int),rowsG b.2.2.2.1.length (l.take i))=some (if okW9 b.2.2.1 b.2.2.2.1.length l i=true then .inl (((i+1:Nat):Int),rowsG b.2.2.2.1.length (l.take (i+1))) else .inr (.inl ([],false))):=by
 unfold kcc
 simp only
 rw [if_pos (lenI_lt.2 hi),kbf hi,kbn (by omega)]
 simp only [Option.bind_some,from1,kkZ]
 rw [kal (x:=lenI b.2.2.2.1-1) (by rw [kaQ]; omega) (by rw [kaQ]; omega),kaQ b.2.2.2.1]
 rw [kke hi]
 cases hw:wi 0 ((b.2.2.2.1.length:Int)-1) l[i].2.1 with
 | false=>simp
 | true=>
  rw [wi_iff] at hw
  simp only [Bool.not_true,Bool.false_eq_true,if_false,Bool.true_and]
  have hprev:(if decide (0<(i:Int))=true then (gi l (w64 ((i:Int)-1))).bind fun v3=>(kbY v3 l[i]).bind fun v7=>some (decide (0≤v7)) else some false)=some !khe l i l[i]:=by
   unfold khe
   cases i with
   | zero=>simp
   | succ j=>
    obtain ⟨o,ho1,ho2⟩:=ksw l[j] l[j+1]
    rw [if_pos (by simp only [decide_eq_true_eq]; omega),krH (by omega) (by omega),kbf (show j+1-1<l.length by omega)]
    simp only [Option.bind_some,Nat.add_sub_cancel]
    rw [List.getElem?_eq_getElem (by omega),ho1]
    simp only [Option.bind_some,ho2]
  rw [hprev]
  simp only [Option.bind_some]
  generalize khe l i l[i]=pr
  cases pr with
  | false=>simp
  | true=>
   simp only [Bool.not_true,Bool.false_eq_true,if_false,Bool.true_and]
   have hrow:=kkf (n:=b.2.2.2.1.length) (l:=l.take i) hw.1 (show l[i].2.1<(b.2.2.2.1.length:Int) by omega)
   simp only [hrow,Option.bind_some]
   have hal:=klx (ha l[i].2.1)
   have hlen:(rowG l[i].2.1 (l.take i)).length≤1000:=by
    have:=List.length_filter_le (fun x:Swg=>x.2.1==l[i].2.1) (l.take i)
    unfold rowG
    rw [List.length_take] at this; omega
   have hrs:=krM (n:=b.2.2.2.1.length) (l:=l.take i) (x:=l[i]) hw.1 (by omega)
   rw [List.take_append_getElem hi] at hrs
   have hgr:grem (lenI (rowG l[i].2.1 (l.take i))) 2=some (((rowG l[i].2.1 (l.take i)).length:Int) % 2):=by
    unfold grem; rw [if_neg (by omega),kaQ,Int.tmod_eq_emod_of_nonneg (by omega)]
   have happ:gapp (rowG l[i].2.1 (l.take i)) [l[i]]=some (rowG l[i].2.1 (l.take i)++[l[i]]):=kfe (by simp; omega)
   rw [hgr,happ]
   simp only [Option.bind_some,gsame,if_true]
   rw [hrs]
   cases hg:(rowG l[i].2.1 (l.take i)).getLast? with
   | none=>
    rw [hg] at hal
    simp only at hal
    rw [kkU]
    rw [kaQ,hal]
    cases hx:l[i].2.2 <;> simp
   | some y=>
    rw [hg] at hal
    simp only at hal
    rw [kkM]
    obtain ⟨h1,h2,h3⟩:=hal
    rw [kaQ,kal (x:=((rowG l[i].2.1 (l.take i)).length:Int)-1) (by omega) (by omega),h2]
    simp only [Option.bind_some,kkZ]
    have hd:(((rowG l[i].2.1 (l.take i)).length:Int) % 2==0)=decide ((rowG l[i].2.1 (l.take i)).length % 2=0):=by
     rw [Bool.eq_iff_iff]; simp; omega
    rw [hd,if_pos (show decide ((0:Int)<((rowG l[i].2.1 (l.take i)).length:Int))=true by simp only [decide_eq_true_eq]; omega),h3]
    cases decide ((rowG l[i].2.1 (l.take i)).length % 2=0) <;> cases hx:l[i].2.2 <;> cases early l[i].1 y.1 (imax b.2.2.1 1) <;> simp
theorem knY {slow G:Int} {l:List Swg} {i:Nat} (hi:i<l.length) (ho:okW9 slow G l i=true) (ha:∀ g,alt (rowG g (l.take i))) (g:Int):alt (rowG g (l.take (i+1))):=by
 rw [←List.take_append_getElem hi,kjo]
 by_cases hg:l[i].2.1=g
 ·rw [if_pos hg]
  apply ksP (ha g)
  rw [kke hi] at ho
  simp only [Bool.and_eq_true] at ho
  have hal:=klx (ha l[i].2.1)
  rw [hg] at ho hal
  unfold kjz at ho
  cases hr:(rowG g (l.take i)).getLast? with
  | none=>
   rw [hr] at ho hal
   simp only at ho hal
   rw [hal,ho.2]; rfl
  | some y=>
   rw [hr] at ho hal
   simp only [Bool.and_eq_true] at ho hal
   have h1:=ho.2.1
   rw [hal.2.2] at h1
   cases hx:l[i].2.2 <;> cases hd:decide ((rowG g (l.take i)).length % 2=0) <;> simp [hx,hd] at h1 ⊢
 ·rw [if_neg hg,List.append_nil]; exact ha g
theorem kqq:alt []:=fun k h=>by simp at h
theorem kqr {slow G:Int} {l:List Swg} (h:upto slow G l 0 l.length=true):∀ i,i≤l.length→∀ g,alt (rowG g (l.take i))
 | 0,_,g=>by rw [List.take_zero]; exact kqq
 | i+1,hi,g=>by
  unfold upto at h
  rw [List.all_eq_true] at h
  exact knY (by omega) (h i (by rw [List.mem_range'_1]; omega)) (kqr (by unfold upto; rw [List.all_eq_true]; exact h) i (by omega)) g
theorem ksL (b:Belt) (f:List Fed) (hG:(b.2.2.2.1.length:Int)≤8) (l:List Swg) (hl:l.length≤1000):keb (some (b,f)) l=some (if upto b.2.2.1 b.2.2.2.1.length l 0 l.length=true then (rowsG b.2.2.2.1.length l,true) else ([],false)):=by
 have:∀ k i:Nat,i+k=l.length→(∀ g,alt (rowG g (l.take i)))→itN (kcc (some (b,f)) l) (k+1) ((i:Int),rowsG b.2.2.2.1.length (l.take i))=some (if upto b.2.2.1 b.2.2.2.1.length l i k=true then .inr (rowsG b.2.2.2.1.length l) else .inl ([],false)):=by
  intro k
  induction k with
  | zero=>
   intro i h ha
   have:i=l.length:=by omega
   subst this
   exact kav (by unfold kcc; rw [if_neg kaS,List.take_length]; rfl)
  | succ k ih=>
   intro i h ha
   have e:=krh b f hG l hl i (by omega) ha
   rw [ksq]
   cases ho:okW9 b.2.2.1 b.2.2.2.1.length l i with
   | false=>rw [ho,if_neg (by simp)] at e; rw [kav e]; rfl
   | true=>
    rw [ho,if_pos rfl] at e
    rw [kcF e,ih (i+1) (by omega) (fun g=>knY (by omega) ho ha g),Bool.true_and]
 have h:=this l.length 0 (by omega) (fun g=>by rw [List.take_zero]; exact kqq)
 unfold keb
 simp only [Option.bind_some]
 have hmk:gmk (lenI b.2.2.2.1) ([]:List Swg)=some (rowsG b.2.2.2.1.length (l.take 0)):=by
  unfold gmk
  rw [if_pos (by rw [kaQ]; omega),kaQ,Int.toNat_natCast,List.take_zero]
  unfold rowsG rowG
  simp
  exact (List.map_const' ..).symm ▸ by simp
 rw [hmk]
 simp only [Option.bind_some]
 rw [show (0:Int)=((0:Nat):Int) from rfl,kbO h (by omega)]
 cases upto b.2.2.1 b.2.2.2.1.length l 0 l.length <;> rfl
theorem kkj (n:Int):IntKind.u64.wrap n=n % 18446744073709551616:=by simp [IntKind.wrap,IntKind.bits,IntKind.signed]
def inR (t:Int):Prop:=-9223372036854775808≤t∧t≤9223372036854775807
theorem kiL {t u s:Int} (ht:inR t) (hu:inR u) (h:u≤t) (hs:0≤s∧s≤10):early t u s=decide (t-u<s):=by
 unfold inR at ht hu
 unfold early
 rw [kkj,kkj,kkj,kkj,←Int.sub_emod,Int.emod_eq_of_lt (by omega) (by omega),Int.emod_eq_of_lt (a:=s) (by omega) (by omega)]
theorem ksl {x y z:Swg} (h1:lt2 x y=true) (h2:lt2 y z=true):lt2 x z=true:=by
 unfold lt2 at *
 simp only [Bool.or_eq_true,Bool.and_eq_true,decide_eq_true_eq,beq_iff_eq] at *
 omega
theorem krd {slow G:Int} {l:List Swg} (h:upto slow G l 0 l.length=true):l.Pairwise fun x y=>lt2 x y=true:=by
 have h1:∀ i (hi:i+1<l.length),lt2 l[i] l[i+1]=true:=fun i hi=>by
  unfold upto at h
  rw [List.all_eq_true] at h
  have:=h (i+1) (by rw [List.mem_range'_1]; omega)
  rw [kke hi] at this
  simp only [Bool.and_eq_true] at this
  have h3:=this.1.2
  unfold khe at h3
  simp only at h3
  rw [List.getElem?_eq_getElem (by omega)] at h3
  exact h3
 rw [List.pairwise_iff_getElem]
 intro i j hi hj hij
 induction j with
 | zero=>omega
 | succ j ih=>
  by_cases e:i=j
  ·subst e; exact h1 i hj
  ·exact ksl (ih (by omega) (by omega)) (h1 j hj)
theorem kiz {slow G:Int} {l:List Swg} (h:upto slow G l 0 l.length=true) (g:Int):(rowG g l).Pairwise fun x y=>x.1<y.1:=by
 have h2:=(krd h).filter (fun x:Swg=>x.2.1==g)
 refine List.Pairwise.imp_of_mem ?_ h2
 intro x y hx hy hl
 unfold rowG at hx hy
 rw [List.mem_filter] at hx hy
 unfold lt2 at hl
 simp only [Bool.or_eq_true,Bool.and_eq_true,decide_eq_true_eq,beq_iff_eq] at hl hx hy
 omega
theorem kkR {r:List Swg} (h:r.Pairwise fun x y=>x.1<y.1) (t:Int):r.filter (fun x=>decide (x.1≤t))=r.take (r.filter (fun x=>decide (x.1≤t))).length:=by
 induction r with
 | nil=>rfl
 | cons x r ih=>
  rw [List.pairwise_cons] at h
  by_cases hx:x.1≤t
  ·have e:(x::r).filter (fun x=>decide (x.1≤t))=x::r.filter (fun x=>decide (x.1≤t)):=List.filter_cons_of_pos (by simpa using hx)
   rw [e,List.length_cons,List.take_succ_cons,←ih h.2]
  ·have e:(x::r).filter (fun x=>decide (x.1≤t))=[]:=by
    rw [List.filter_eq_nil_iff]
    intro y hy
    rw [List.mem_cons] at hy
    rcases hy with rfl | hy
    ·simpa using hx
    ·have:=h.1 y hy; simp; omega
   rw [e]; rfl
def sgT (k t:Int) (l:List Swg):List Swg:=(rowG k l).filter fun x=>decide (x.1≤t)
def stG (slow t:Int) (T:List Swg):Nat:=if (T.any fun x=>early t x.1 slow)=true then 2 else if (match T.getLast? with | none=>false | some y=>y.2.2)=true then 1 else 0
theorem kos {slow t:Int} (hs:0≤slow∧slow≤10) (ht:inR t):∀ {T:List Swg},(T.Pairwise fun x y=>x.1<y.1)→(∀ x∈T,inR x.1∧x.1≤t)→(T.any fun x=>early t x.1 slow)=(match T.getLast? with | none=>false | some y=>early t y.1 slow)
 | [],_,_=>rfl
 | [x],_,_=>by simp
 | x::y::T,h,hb=>by
  have ih:=kos hs ht (T:=y::T) (List.pairwise_cons.1 h).2 (fun z hz=>hb z (List.mem_cons_of_mem _ hz))
  rw [List.any_cons,ih,List.getLast?_cons_cons]
  cases hl:(y::T).getLast? with
  | none=>simp at hl
  | some z=>
   have hz:=List.mem_of_getLast? hl
   have h1:=(List.pairwise_cons.1 h).1 z hz
   have hx:=hb x (by simp)
   have hz2:=hb z (List.mem_cons_of_mem _ hz)
   simp only
   rw [kiL ht hx.1 hx.2 hs,kiL ht hz2.1 hz2.2 hs,Bool.eq_iff_iff]
   simp; omega
def runG (slow tick read e:Int) (l:List Swg):List (Int×Int)→Nat→(List (Int×Int×Int)×Int)⊕(Int×Int×Int)
 | [],_=>.inr (read,-1,e)
 | g::r,k=>if stG slow (w64 (tick+g.1)) (sgT k (w64 (tick+g.1)) l)=2 then .inl ([],92) else if stG slow (w64 (tick+g.1)) (sgT k (w64 (tick+g.1)) l)=1 then .inr (read,g.2,w64 (tick+g.1)) else runG slow tick read e l r (k+1)
theorem ktX (x:Fed) (G:Nat) (l:List Swg) (v5:Int×Int×Int×Int) (g:Int×Int) (h0:0≤v5.1) (h1:v5.1<G) (hl:l.length≤1000) (hs:(rowG v5.1 l).Pairwise fun x y=>x.1<y.1) :
  iter (kdT (rowsG G l,true) x v5 g) 0=some ((sgT v5.1 (w64 (x.1+g.1)) l).length:Int):=by
 have hle:(rowG v5.1 l).length≤1000:=by
  have:=List.length_filter_le (fun x:Swg=>x.2.1==v5.1) l
  unfold rowG; omega
 have:∀ n k:Nat,k+n=(rowG v5.1 l).length→itN (kdT (rowsG G l,true) x v5 g) (n+1) (k:Int)=some ((k:Int)+(((rowG v5.1 l).drop k).filter fun y=>decide (y.1≤w64 (x.1+g.1))).length):=by
  intro n
  induction n with
  | zero=>
   intro k h
   have:k=(rowG v5.1 l).length:=by omega
   subst this
   rw [List.drop_length]
   exact kav (by
    unfold kdT
    simp only [kkf h0 h1,Option.bind_some]
    rw [if_neg kaS]; simp)
  | succ n ih=>
   intro k h
   have hk:k<(rowG v5.1 l).length:=by omega
   have hun:kdT (rowsG G l,true) x v5 g (k:Int)=(if decide ((rowG v5.1 l)[k].1≤w64 (x.1+g.1))=true then some (.inl ((k+1:Nat):Int)) else some (.inr (k:Int))):=by
    unfold kdT
    simp only [kkf h0 h1,Option.bind_some]
    rw [if_pos (lenI_lt.2 hk),kbf hk,kbn (by omega)]
    rfl
   by_cases hc:(rowG v5.1 l)[k].1≤w64 (x.1+g.1)
   ·rw [if_pos (by simpa using hc)] at hun
    rw [kcF hun,ih (k+1) (by omega),List.drop_eq_getElem_cons hk,List.filter_cons_of_pos (by simpa using hc)]
    congr 1; simp only [List.length_cons]; push_cast; omega
   ·rw [if_neg (by simpa using hc)] at hun
    rw [kav hun]
    have hp:=List.Pairwise.sublist (List.drop_sublist k (rowG v5.1 l)) hs
    rw [List.drop_eq_getElem_cons hk] at hp ⊢
    rw [List.pairwise_cons] at hp
    rw [show ((rowG v5.1 l)[k]::(rowG v5.1 l).drop (k+1)).filter (fun y=>decide (y.1≤w64 (x.1+g.1)))=[] from by
     rw [List.filter_eq_nil_iff]
     intro y hy
     rw [List.mem_cons] at hy
     rcases hy with rfl | hy
     ·simpa using hc
     ·have:=hp.1 y hy; simp; omega]
    simp
 have h:=this (rowG v5.1 l).length 0 (by omega)
 rw [List.drop_zero] at h
 rw [show (0:Int)=((0:Nat):Int) from rfl,kbO h (by omega)]
 simp [sgT]
theorem kts (n:Int):inR (w64 n):=by
 unfold inR w64
 rw [IntKind.wrap_i64]; omega
theorem krU {slow G:Int} {l:List Swg} (h:upto slow G l 0 l.length=true) (hr:∀ x∈l,inR x.1) (k t:Int):((sgT k t l).Pairwise fun x y=>x.1<y.1)∧(∀ x∈sgT k t l,inR x.1∧x.1≤t)∧alt (sgT k t l):=by
 have hs:=kiz h k
 refine ⟨hs.filter _,fun x hx=>?_,?_⟩
 ·unfold sgT rowG at hx
  simp only [List.mem_filter,decide_eq_true_eq] at hx
  exact ⟨hr x hx.1.1,hx.2⟩
 ·have ha:=kqr h l.length (Nat.le_refl _) k
  rw [List.take_length] at ha
  unfold sgT
  rw [kkR hs t]
  intro i hi
  rw [List.getElem_take]
  exact ha i (by rw [List.length_take] at hi; omega)
theorem ksm (b:Belt) (f:List Fed) (l:List Swg) (x:Fed) (hl:l.length≤1000) (hg:b.2.2.2.1.length≤1000) (hsl:0≤b.2.2.1∧b.2.2.1≤10) (h:upto b.2.2.1 b.2.2.2.1.length l 0 l.length=true) (hr:∀ x∈l,inR x.1) (read e:Int):∀ n k:Nat,k+n=b.2.2.2.1.length→itN (keV b (rowsG b.2.2.2.1.length l,true) x) (n+1) ((k:Int),read,-1,e)=some (runG b.2.2.1 x.1 read e l (b.2.2.2.1.drop k) k)
 | 0,k,hk=>by
  have:k=b.2.2.2.1.length:=by omega
  subst this
  rw [List.drop_length]
  exact kav (by unfold keV; rw [if_neg kaS]; rfl)
 | n+1,k,hk=>by
  have hk2:k<b.2.2.2.1.length:=by omega
  have ih:=ksm b f l x hl hg hsl h hr read e n (k+1) (by omega)
  rw [List.drop_eq_getElem_cons hk2]
  have hc:=ktX x b.2.2.2.1.length l ((k:Int),read,-1,e) b.2.2.2.1[k] (by simp) (by simp; omega) hl (kiz h k)
  simp only at hc
  obtain ⟨f1,f2,f3⟩:=krU h hr k (w64 (x.1+b.2.2.2.1[k].1))
  have hlast:=kos hsl (kts _) f1 f2
  have hal:=klx f3
  have hpre:∀ j:Nat,j<(sgT k (w64 (x.1+b.2.2.2.1[k].1)) l).length→gi (rowG k l) (j:Int)=gi (sgT k (w64 (x.1+b.2.2.2.1[k].1)) l) (j:Int):=fun j hj=>by
   have e1:sgT k (w64 (x.1+b.2.2.2.1[k].1)) l=(rowG k l).take (sgT k (w64 (x.1+b.2.2.2.1[k].1)) l).length:=by
    unfold sgT; exact kkR (kiz h k) _
   rw [kfp,kfp]
   conv=>rhs; rw [e1]
   rw [List.getElem?_take,if_pos hj]
  have hle:(sgT k (w64 (x.1+b.2.2.2.1[k].1)) l).length≤1000:=by
   have h1:=List.length_filter_le (fun y:Swg=>decide (y.1≤w64 (x.1+b.2.2.2.1[k].1))) (rowG k l)
   have h2:=List.length_filter_le (fun y:Swg=>y.2.1==(k:Int)) l
   unfold sgT; unfold rowG at h1 ⊢; omega
  have hgk:gi (rowsG b.2.2.2.1.length l) (k:Int)=some (rowG k l):=kkf (by omega) (by omega)
  have hun:keV b (rowsG b.2.2.2.1.length l,true) x ((k:Int),read,-1,e)=(if stG b.2.2.1 (w64 (x.1+b.2.2.2.1[k].1)) (sgT k (w64 (x.1+b.2.2.2.1[k].1)) l)=2 then some (.inr (.inl ([],92))) else if stG b.2.2.1 (w64 (x.1+b.2.2.2.1[k].1)) (sgT k (w64 (x.1+b.2.2.2.1[k].1)) l)=1 then some (.inr (.inr (read,b.2.2.2.1[k].2,w64 (x.1+b.2.2.2.1[k].1)))) else some (.inl (((k+1:Nat):Int),read,-1,e))):=by
   unfold keV stG
   rw [if_pos (lenI_lt.2 hk2),kbf hk2,kbn (by omega)]
   simp only [Option.bind_some,hc,hgk,kkZ]
   rw [hlast]
   generalize hT:sgT k (w64 (x.1+b.2.2.2.1[k].1)) l=T at *
   have hgr:grem (T.length:Int) 2=some ((T.length:Int) % 2):=by
    unfold grem; rw [if_neg (by omega),Int.tmod_eq_emod_of_nonneg (by omega)]
   rw [hgr]
   cases hg:T.getLast? with
   | none=>
    rw [hg] at hal
    simp only at hal
    rw [hal]
    simp
   | some y=>
    rw [hg] at hal
    simp only at hal
    obtain ⟨a1,a2,a3⟩:=hal
    have hsub:w64 ((T.length:Int)-1)=((T.length-1:Nat):Int):=by rw [kal (by omega) (by omega)]; omega
    rw [if_pos (by simpa using a1),hsub,hpre (T.length-1) (by omega),show ((T.length-1:Nat):Int)=(T.length:Int)-1 by omega,a2]
    simp only [Option.bind_some,Bool.not_not,a3]
    have hd:((T.length:Int) % 2==1) = !decide (T.length % 2=0):=by rw [Bool.eq_iff_iff]; simp; omega
    rw [hd]
    cases early (w64 (x.1+b.2.2.2.1[k].1)) y.1 b.2.2.1 <;> cases decide (T.length % 2=0) <;> simp
  simp only [runG]
  by_cases h3:stG b.2.2.1 (w64 (x.1+b.2.2.2.1[k].1)) (sgT k (w64 (x.1+b.2.2.2.1[k].1)) l)=2
  ·rw [if_pos h3] at hun ⊢; exact kav hun
  ·rw [if_neg h3] at hun ⊢
   by_cases h4:stG b.2.2.1 (w64 (x.1+b.2.2.2.1[k].1)) (sgT k (w64 (x.1+b.2.2.2.1[k].1)) l)=1
   ·rw [if_pos h4] at hun ⊢; exact kav hun
   ·rw [if_neg h4] at hun ⊢; rw [kcF hun,ih]
end Go.Abs
namespace Go.Abs
open Go
def hS (b:Belt) (l:List Fed) (p:Nat×Nat):List Sw:=swC b (Gc b (seg l p.1 p.2)) (fd l p.1) (fd l (p.2-1))
theorem kqv (b:Belt) (g:Int) (x y:Fed):(swC b g x y).length≤2:=by unfold swC; split <;> simp
theorem koa {α γ:Type} (f:α→List γ) (k:Nat) (h:∀ x,(f x).length≤k):∀ l:List α,(l.flatMap f).length≤k*l.length
 | []=>by simp
 | x::l=>by
  have:=koa f k h l
  have:=h x
  rw [List.flatMap_cons,List.length_append,List.length_cons,Nat.mul_add]; omega
section
variable {b:Belt} {l:List Fed} (B:BeltOk b) (L:FedsOk l)
include B L
theorem krt {r:List (Nat×Nat)} (hr:Cls (2*b.2.2.1+1) l 0 r) :
  iter (kdd b (clY b l r)) (0,[])=some (.inr (r.flatMap (hS b l))):=by
 have hL:=L.len
 have hn:=hr.lenr
 have hcl:(clY b l r).length=r.length:=by simp [clY]
 rw [kfY (F:=kdd b (clY b l r)) (clY b l r) (by omega) (fun i s=>s.length≤2*i) (fun s p=>s++swC b p.1 (fd p.2 0) (fd p.2 (p.2.length-1))) .inr (fun i s hi hs=>by
  have hm:=List.getElem_mem hi
  obtain ⟨p,hp,hp2⟩:=List.mem_map.1 hm
  obtain ⟨C,-⟩:=hr.mem p hp
  have hC:=C.le; have hC2:=C.lt
  have hc:=segOk L p.1 p.2
  have hlen:=keB (s:=p.1) hC
  unfold kdd
  dsimp only
  rw [if_pos (lenI_lt.2 hi),kbf hi]
  simp only [Option.bind_some]
  rw [←hp2]
  dsimp only
  generalize seg l p.1 p.2=c at *
  have k1:=hc.fd (i:=0) (by omega)
  have k2:=hc.fd (i:=c.length-1) (by omega)
  have:=B.s0; have:=B.s1
  simp only [decide_eq_true_eq]
  unfold swC
  by_cases h0:0≤Gc b c
  ·have h1:=Gc_lt h0
   have h2:=B.gt h1
   rw [if_pos h0,if_pos h0,gi_gt h0 h1,show (0:Int)=((0:Nat):Int) from rfl,gi_fd (show 0<c.length by omega),kaQ,w64n (n:=c.length-1) (by omega) (by omega),gi_fd (show c.length-1<c.length by omega)]
   simp only [Option.bind_some]
   rw [kfe (by simp; omega),kal (x:=(fd c 0).1+(gtF b (Gc b c)).1) (by omega) (by omega),kal (x:=(fd c 0).1+(gtF b (Gc b c)).1-b.2.2.1) (by omega) (by omega),
    kal (x:=(fd c (c.length-1)).1+(gtF b (Gc b c)).1) (by omega) (by omega),kal (x:=(fd c (c.length-1)).1+(gtF b (Gc b c)).1+1) (by omega) (by omega)]
   rfl
  ·rw [if_neg h0,if_neg h0,List.append_nil]; rfl) (fun i s hi hs=>by
   have:=kqv b (clY b l r)[i].1 (fd (clY b l r)[i].2 0) (fd (clY b l r)[i].2 ((clY b l r)[i].2.length-1))
   rw [List.length_append]; omega) (fun s hs=>by
   unfold kdd
   dsimp only
   rw [if_neg kaS]) [] (by simp)]
 rw [kfi (fun p:Int×List Fed=>swC b p.1 (fd p.2 0) (fd p.2 (p.2.length-1)))]
 simp only [List.nil_append,Option.some.injEq,Sum.inr.injEq]
 unfold clY
 rw [List.flatMap_map]
 have:∀ p∈r,swC b (Gc b (seg l p.1 p.2)) (fd (seg l p.1 p.2) 0) (fd (seg l p.1 p.2) ((seg l p.1 p.2).length-1))=hS b l p:=fun p hp=>by
  obtain ⟨C,-⟩:=hr.mem p hp
  have hC:=C.le; have hC2:=C.lt
  unfold hS
  rw [keB hC,kga (by omega),kga (by omega),show p.1+(p.2-p.1-1)=p.2-1 by omega]; rfl
 clear hr hn hcl
 induction r with
 | nil=>rfl
 | cons p r ih=>rw [List.flatMap_cons,List.flatMap_cons,this p (by simp),ih fun q hq=>this q (List.mem_cons_of_mem _ hq)]
omit L in
theorem klF (hm:∀ i j,i≤j→j<l.length→(fd l i).1≤(fd l j).1) {r:List (Nat×Nat)} (hr:Cls (2*b.2.2.1+1) l 0 r):Apart (r.flatMap (hS b l)):=by
 unfold Apart
 rw [List.pairwise_flatMap]
 have s0:=B.s0
 refine ⟨fun p hp=>?_,?_⟩
 ·obtain ⟨C,-⟩:=hr.mem p hp
  have hC:=C.le; have hC2:=C.lt
  have:=hm p.1 (p.2-1) (by omega) (by omega)
  unfold hS swC
  split
  ·refine List.pairwise_cons.2 ⟨fun y hy he=>?_,List.pairwise_singleton _ _⟩
   rw [List.mem_singleton] at hy; subst hy
   dsimp only; omega
  ·exact .nil
 ·have h2:r.Pairwise fun p q=>(p.2≤q.1)∧p∈r∧q∈r:=by
   rw [List.pairwise_iff_getElem]
   intro i j hi hj hij
   exact ⟨List.pairwise_iff_getElem.1 hr.pw i j hi hj hij,List.getElem_mem _,List.getElem_mem _⟩
  refine h2.imp fun {p q} h x hx y hy he=>?_
  obtain ⟨hpq,hp,hq⟩:=h
  obtain ⟨C,-⟩:=hr.mem p hp
  obtain ⟨C',-⟩:=hr.mem q hq
  have hC:=C.le; have hC2:=C.lt
  have hC':=C'.le; have hC2':=C'.lt
  have h3:=hm (p.2-1) (q.1-1) (by omega) (by omega)
  have h4:=hm q.1 (q.2-1) (by omega) (by omega)
  have h5:=hm p.1 (p.2-1) (by omega) (by omega)
  have h6:=C'.lo.resolve_left (by omega)
  unfold hS swC at hx hy
  split at hx
  ·split at hy
   ·simp only [List.mem_cons,List.not_mem_nil,or_false] at hx hy
    rcases hx with rfl | rfl <;> rcases hy with rfl | rfl <;> dsimp only at he ⊢ <;> rw [he] <;> omega
   ·cases hy
  ·cases hx
end
theorem kpX {b:Belt} {f:List Fed} (hg:b.2.2.2.1.length≤1000) (hb:b.2.2.2.2.length≤1000) (hf:∀ x∈f,x.2.2.length≤1000) (hfl:f.length≤1000)
  (h1:beltR b=true) (h2:fedR f=true) {r:List (Nat×Nat)} (hr:Cls (2*b.2.2.1+1) f 0 r) :
  ∃ W,kcW b f=some (W,0)∧W.Perm (r.flatMap (hS b f))∧W.Pairwise sle∧W.length≤1000:=by
 have B:=klo h1
 obtain ⟨L,-,-⟩:=kmu h2
 have hL:=L.len
 have hrl:=hr.lenr
 have hS1:(r.flatMap (hS b f)).length≤2*r.length:=koa _ 2 (fun p=>kqv ..) r
 obtain ⟨w,w1,w2,w3⟩:=kqX (r.flatMap (hS b f)) (by omega)
 refine ⟨w,?_,w2,w3,by rw [w2.length_eq]; omega⟩
 unfold kcW
 rw [kmm b f hg hb hf hfl,if_pos h1,if_pos h2]
 simp only [Option.bind_some]
 rw [if_neg (by simp)]
 unfold kbD
 simp only [Option.bind_some]
 rw [kqL B L hr (by omega)]
 simp only [Option.bind_some]
 rw [krt B L hr]
 simp only [Option.bind_some]
 rw [show (fun (u0:((Int×Int×Bool)×Int×Int×Bool))=>((kbY u0.1 u0.2).bind fun u1=>(some u1)))=how10 from rfl,w1]
 rfl
theorem kmy (v:List (Int×Int×Int)) (h:v.length≤1000):kcf v v=some true:=by
 unfold kcf
 rw [if_neg (by simp),knv (F:=kcP v v) false v (by omega) (fun i x=>false) (fun i hi=>by
  unfold kcP
  rw [if_pos (lenI_lt.2 hi),kbf hi,kbn (by omega)]
  simp) (by unfold kcP; rw [if_neg kaS])]
 have:(v.zipIdx.any fun x=>false)=false:=by simp
 rw [this]; rfl
end Go.Abs
namespace Go.Abs
open Go
def lastP (m:Int) (o:Option Sw) (x:Sw):Prop:=match o with | none=>x.2.2=true | some y=>y.2.2 = !x.2.2∧m≤x.1-y.1
def OkR (m:Int):Option Sw→List Sw→Prop
 | _,[]=>True
 | o,x::r=>lastP m o x∧OkR m (some x) r
theorem OkR.at {m:Int}:∀ {A:List Sw} {o:Option Sw} {x:Sw} {B:List Sw},OkR m o (A++x::B)→lastP m (A.getLast?.or o) x
 | [],o,x,B,h=>h.1
 | y::A,o,x,B,h=>by
  have:=OkR.at (A:=A) h.2
  cases A with
  | nil=>simpa using this
  | cons z A=>rw [List.getLast?_cons_cons]; cases hz:(z::A).getLast? with
   | none=>simp at hz
   | some w=>rw [hz] at this; exact this
section
variable {b:Belt} {f:List Fed} (B:BeltOk b) (L:FedsOk f)
theorem kij {k:Int} (hk:0≤k) (p:Nat×Nat):rowG k (hS b f p)=if Gc b (seg f p.1 p.2)=k then [((fd f p.1).1+(gtF b k).1-b.2.2.1,k,true),((fd f (p.2-1)).1+(gtF b k).1+1,k,false)] else []:=by
 unfold hS swC rowG
 by_cases h:Gc b (seg f p.1 p.2)=k
 ·rw [h,if_pos hk,if_pos rfl]; simp
 ·rw [if_neg h]
  split
  ·simp [h]
  ·rfl
theorem krL (k:Int) (r:List (Nat×Nat)):rowG k (r.flatMap (hS b f))=r.flatMap fun p=>rowG k (hS b f p):=by
 unfold rowG; rw [List.filter_flatMap]
def tF (f:List Fed) (i:Nat):Int:=(fd f i).1
def Gaps (b:Belt) (f:List Fed) (r:List (Nat×Nat)):Prop:=r.Pairwise fun p q=>2*b.2.2.1+1<tF f q.1-tF f (p.2-1)
theorem kkY {k:Int} (hk:0≤k) (h0:0≤b.2.2.1) {m:Int} (hm:m≤b.2.2.1+1):∀ {r:List (Nat×Nat)},(∀ p∈r,tF f p.1≤tF f (p.2-1))→Gaps b f r→∀ {o:Option Sw},
  (o=none∨∃ y,o=some y∧y.2.2=false∧∀ p∈r,m≤tF f p.1+(gtF b k).1-b.2.2.1-y.1)→OkR m o (r.flatMap fun p=>rowG k (hS b f p))
 | [],_,_,_,_=>trivial
 | p::r,hp,hg,o,ho=>by
  obtain ⟨g1,g2⟩:=List.pairwise_cons.1 hg
  have hpp:=hp p (by simp)
  have hpr:=fun q hq=>hp q (List.mem_cons_of_mem _ hq)
  unfold tF at *
  rw [List.flatMap_cons,kij hk p]
  by_cases h:Gc b (seg f p.1 p.2)=k
  ·rw [if_pos h]
   refine ⟨?_,⟨rfl,by dsimp only; omega⟩,kkY hk h0 hm hpr g2 (.inr ⟨_,rfl,rfl,fun q hq=>?_⟩)⟩
   ·rcases ho with rfl | ⟨y,rfl,hy,hyp⟩
    ·rfl
    ·exact ⟨by rw [hy]; rfl,hyp p (by simp)⟩
   ·have:=g1 q hq
    unfold tF
    dsimp only; omega
  ·rw [if_neg h,List.nil_append]
   refine kkY hk h0 hm hpr g2 ?_
   rcases ho with rfl | ⟨y,rfl,hy,hyp⟩
   ·exact .inl rfl
   ·exact .inr ⟨y,rfl,hy,fun q hq=>hyp q (List.mem_cons_of_mem _ hq)⟩
theorem knq {k:Int} (hk:0≤k):∀ (r:List (Nat×Nat)),(match (r.flatMap fun p=>rowG k (hS b f p)).getLast? with | none=>true | some y=>!y.2.2)=true
 | []=>rfl
 | p::r=>by
  have ih:=knq hk r
  rw [List.flatMap_cons,List.getLast?_append]
  cases hl:(r.flatMap fun p=>rowG k (hS b f p)).getLast? with
  | some y=>rw [hl] at ih; exact ih
  | none=>
   rw [kij hk p]
   by_cases h:Gc b (seg f p.1 p.2)=k
   ·rw [if_pos h]; rfl
   ·rw [if_neg h]; rfl
variable (hm:∀ i j,i≤j→j<f.length→(fd f i).1≤(fd f j).1) {r:List (Nat×Nat)} (hr:Cls (2*b.2.2.1+1) f 0 r)
include hm hr
theorem Cls.gaps:(∀ p∈r,tF f p.1≤tF f (p.2-1))∧Gaps b f r:=by
 refine ⟨fun p hp=>?_,?_⟩
 ·obtain ⟨C,-⟩:=hr.mem p hp
  have:=C.lt; have:=C.le
  exact hm _ _ (by omega) (by omega)
 ·have h2:r.Pairwise fun p q=>(p.2≤q.1)∧p∈r∧q∈r:=by
   rw [List.pairwise_iff_getElem]
   intro i j hi hj hij
   exact ⟨List.pairwise_iff_getElem.1 hr.pw i j hi hj hij,List.getElem_mem _,List.getElem_mem _⟩
  refine h2.imp fun {p q} ⟨h,hp,hq⟩=>?_
  obtain ⟨C,-⟩:=hr.mem p hp
  obtain ⟨C',-⟩:=hr.mem q hq
  have:=C.lt; have:=C.le; have:=C'.lt; have:=C'.le
  have h3:=hm (p.2-1) (q.1-1) (by omega) (by omega)
  have h6:=C'.lo.resolve_left (by omega)
  unfold tF; omega
variable {W:List Sw} (w1:W.Perm (r.flatMap (hS b f))) (w2:W.Pairwise sle)
include B L w1 w2
theorem rowW {k:Int} (hk:0≤k):rowG k W=r.flatMap fun p=>rowG k (hS b f p):=by
 have ha:=klF B hm hr
 rw [←krL]
 refine krC (S:=rowG k (r.flatMap (hS b f))) (List.Pairwise.filter _ ha) (w1.filter _) (.refl _) (w2.filter _) ?_
 have h2:(rowG k (r.flatMap (hS b f))).Pairwise fun s t=>s.2.1=t.2.1→s.1<t.1:=List.Pairwise.filter _ ha
 refine List.Pairwise.imp_of_mem ?_ h2
 intro x y hx hy h
 unfold rowG at hx hy
 simp only [List.mem_filter,beq_iff_eq] at hx hy
 exact .inl (h (by omega))
theorem memW {x:Sw} (hx:x∈W):0≤x.2.1∧x.2.1<b.2.2.2.1.length∧-10≤x.1∧x.1≤1100:=by
 rw [w1.mem_iff,List.mem_flatMap] at hx
 obtain ⟨p,hp,hx⟩:=hx
 obtain ⟨C,-⟩:=hr.mem p hp
 have:=C.lt; have:=C.le
 have t1:=(L.fd (i:=p.1) (by omega)).2
 have t2:=(L.fd (i:=p.2-1) (by omega)).2
 have:=B.s0; have:=B.s1
 unfold hS swC at hx
 split at hx
 ·rename_i h0
  have h1:=Gc_lt h0
  have h2:=B.gt h1
  simp only [List.mem_cons,List.not_mem_nil,or_false] at hx
  rcases hx with rfl | rfl <;> dsimp only <;> omega
 ·cases hx
theorem nodW:W.Nodup:=by
 have ha:=klF B hm hr
 rw [w1.nodup_iff]
 refine ha.imp fun {x y} h e=>?_
 have:=h (by rw [e]); rw [e] at this; omega
theorem valid {i:Nat} (hi:i<W.length):okW9 b.2.2.1 b.2.2.2.1.length W i=true:=by
 have ha:=klF B hm hr
 have hmem:=memW B L hm hr w1 w2 (List.getElem_mem hi)
 have s0:=B.s0; have s1:=B.s1
 rw [kke hi]
 simp only [Bool.and_eq_true]
 refine ⟨⟨wi_iff.2 ⟨hmem.1,by omega⟩,?_⟩,?_⟩
 ·unfold khe
  cases i with
  | zero=>rfl
  | succ j=>
   dsimp only
   rw [List.getElem?_eq_getElem (by omega)]
   dsimp only
   have h1:=List.pairwise_iff_getElem.1 w2 j (j+1) (by omega) hi (by omega)
   have h2:W[j]≠W[j+1]:=fun e=>List.pairwise_iff_getElem.1 (nodW B L hm hr w1 w2) j (j+1) (by omega) hi (by omega) e
   have h3:¬ sle W[j+1] W[j]:=fun h=>h2 (ha.anti (w1.mem_iff.1 (List.getElem_mem _)) (w1.mem_iff.1 (List.getElem_mem _)) h1 h)
   unfold lt2
   unfold sle at h1 h3
   simp only [Bool.or_eq_true,Bool.and_eq_true,decide_eq_true_eq,beq_iff_eq]
   omega
 ·generalize hg:W[i].2.1=g at *
  have hsp:rowG g W=rowG g (W.take i)++W[i]::rowG g (W.drop (i+1)):=by
   conv=>lhs; rw [←List.take_append_drop i W,List.drop_eq_getElem_cons hi]
   unfold rowG
   rw [List.filter_append,List.filter_cons_of_pos (by simpa using hg)]
  obtain ⟨c1,c2⟩:=Cls.gaps hm hr
  have him:imax b.2.2.1 1≤b.2.2.1+1∧0≤imax b.2.2.1 1∧imax b.2.2.1 1≤10:=by unfold imax; split <;> omega
  have hok:=kkY (b:=b) (f:=f) hmem.1 s0 him.1 c1 c2 (o:=none) (.inl rfl)
  rw [←rowW B L hm hr w1 w2 hmem.1,hsp] at hok
  have hl:=hok.at
  cases hlast:(rowG g (W.take i)).getLast? with
  | none=>rw [hlast] at hl; rw [kkU]; exact hl
  | some y=>
   rw [hlast] at hl
   obtain ⟨l1,l2⟩:=hl
   have hy:y∈W:=by
    have:=List.mem_of_getLast? hlast
    unfold rowG at this
    exact List.mem_of_mem_take (List.mem_filter.1 this).1
   have hym:=memW B L hm hr w1 w2 hy
   rw [kkM,kiL (by unfold inR; omega) (by unfold inR; omega) (by omega) him.2,l1]
   simp; omega
theorem krQ:upto b.2.2.1 b.2.2.2.1.length W 0 W.length=true:=by
 unfold upto
 rw [List.all_eq_true]
 intro i hi
 rw [List.mem_range'_1] at hi
 exact valid B L hm hr w1 w2 (by omega)
theorem st_eq {j:Nat} (hj:j<f.length) {k:Int} (hk:0≤k) (hkG:k.toNat<b.2.2.2.1.length):stG b.2.2.1 ((fd f j).1+(gtF b k).1) (sgT k ((fd f j).1+(gtF b k).1) W)=if Gj b f j=k then 1 else 0:=by
 obtain ⟨⟨s,e⟩,hp,q1,q2⟩:=hr.at j (by omega) hj
 obtain ⟨C,-⟩:=hr.mem _ hp
 dsimp only at q1 q2 C
 have hC:=C.le
 rw [Gj_eq B L C q1 q2]
 obtain ⟨c1,c2⟩:=Cls.gaps hm hr
 have s0:=B.s0; have s1:=B.s1
 have hgt:=B.gt hkG
 have hT:=(L.fd hj).2
 unfold sgT
 rw [rowW B L hm hr w1 w2 hk]
 obtain ⟨r1,r2,rfl⟩:=List.append_of_mem hp
 obtain ⟨d1,d2,d3⟩:=List.pairwise_append.1 c2
 obtain ⟨d4,d5⟩:=List.pairwise_cons.1 d2
 have hsj:=hm s j q1 hj
 have hje:=hm j (e-1) (by omega) (by omega)
 have k1:∀ x∈r1.flatMap fun p=>rowG k (hS b f p),x.1≤(fd f j).1+(gtF b k).1∧b.2.2.1≤(fd f j).1+(gtF b k).1-x.1∧-10≤x.1:=fun x hx=>by
  rw [List.mem_flatMap] at hx
  obtain ⟨p,hpr,hx⟩:=hx
  have:=d3 p hpr (s,e) (by simp)
  have h2:=c1 p (by simp [hpr])
  obtain ⟨Cp,-⟩:=hr.mem p (by simp [hpr])
  have:=Cp.lt; have:=Cp.le
  have t1:=(L.fd (i:=p.1) (by omega)).2
  unfold tF at *
  rw [kij hk p] at hx
  split at hx
  ·simp only [List.mem_cons,List.not_mem_nil,or_false] at hx
   rcases hx with rfl | rfl <;> dsimp only at * <;> omega
  ·cases hx
 have k2:∀ x∈r2.flatMap fun p=>rowG k (hS b f p),¬ x.1≤(fd f j).1+(gtF b k).1:=fun x hx=>by
  rw [List.mem_flatMap] at hx
  obtain ⟨p,hpr,hx⟩:=hx
  have:=d4 p hpr
  have h2:=c1 p (by simp [hpr])
  unfold tF at *
  rw [kij hk p] at hx
  split at hx
  ·simp only [List.mem_cons,List.not_mem_nil,or_false] at hx
   rcases hx with rfl | rfl <;> dsimp only at * <;> omega
  ·cases hx
 have hfil:((r1++(s,e)::r2).flatMap fun p=>rowG k (hS b f p)).filter (fun x=>decide (x.1≤(fd f j).1+(gtF b k).1))=(r1.flatMap fun p=>rowG k (hS b f p))++(if Gc b (seg f s e)=k then [((fd f s).1+(gtF b k).1-b.2.2.1,k,true)] else []):=by
  have f2:(r2.flatMap fun p=>rowG k (hS b f p)).filter (fun x=>decide (x.1≤(fd f j).1+(gtF b k).1))=[]:=by
   rw [List.filter_eq_nil_iff]
   intro x hx
   have:=k2 x hx
   simpa using this
  rw [List.flatMap_append,List.flatMap_cons,List.filter_append,List.filter_append,List.filter_eq_self.2 (fun x hx=>by simpa using (k1 x hx).1),f2,kij hk]
  rw [List.append_nil]
  congr 1
  split
  ·rw [List.filter_cons_of_pos (by simp only [decide_eq_true_eq]; omega),List.filter_cons_of_neg (by simp only [decide_eq_true_eq]; omega)]; rfl
  ·rfl
 rw [hfil]
 have hany:((r1.flatMap fun p=>rowG k (hS b f p))++(if Gc b (seg f s e)=k then [((fd f s).1+(gtF b k).1-b.2.2.1,k,true)] else [])).any (fun x=>early ((fd f j).1+(gtF b k).1) x.1 b.2.2.1)=false:=by
  rw [List.any_eq_false]
  intro x hx
  have hb:x.1≤(fd f j).1+(gtF b k).1∧b.2.2.1≤(fd f j).1+(gtF b k).1-x.1∧-10≤x.1:=by
   rcases List.mem_append.1 hx with hx | hx
   ·exact k1 x hx
   ·split at hx
    ·rw [List.mem_singleton] at hx; subst hx
     have t1:=(L.fd (i:=s) (by omega)).2
     dsimp only; omega
    ·cases hx
  rw [kiL (by unfold inR; omega) (by unfold inR; omega) hb.1 ⟨s0,s1⟩]
  simp; omega
 unfold stG
 rw [hany,if_neg (by simp)]
 by_cases h:Gc b (seg f s e)=k
 ·rw [if_pos h,if_pos h]; simp
 ·rw [if_neg h,if_neg h,List.append_nil]
  have hl:=knq (b:=b) (f:=f) hk r1
  cases hx:(r1.flatMap fun p=>rowG k (hS b f p)).getLast? with
  | none=>simp
  | some y=>rw [hx] at hl; simp only [Bool.not_eq_true'] at hl; simp [hl]
end
theorem kqt {slow tick read e:Int} {b:Belt} {W:List Sw} {g:Int} (hg:g<b.2.2.2.1.length)
  (hst:∀ k:Nat,k<b.2.2.2.1.length→stG slow (w64 (tick+(gtF b k).1)) (sgT k (w64 (tick+(gtF b k).1)) W)=if g=k then 1 else 0) :
  ∀ n k:Nat,k+n=b.2.2.2.1.length→runG slow tick read e W (b.2.2.2.1.drop k) k=if (k:Int)≤g then .inr (read,(gtF b g).2,w64 (tick+(gtF b g).1)) else .inr (read,-1,e)
 | 0,k,h=>by
  have:k=b.2.2.2.1.length:=by omega
  subst this
  rw [List.drop_length,if_neg (by omega)]; rfl
 | n+1,k,h=>by
  have hk:k<b.2.2.2.1.length:=by omega
  have ih:=kqt (slow:=slow) (tick:=tick) (read:=read) (e:=e) hg hst n (k+1) (by omega)
  have h1:=hst k hk
  have hgk:gtF b (k:Int)=b.2.2.2.1[k]:=by unfold gtF; rw [Int.toNat_natCast,List.getElem?_eq_getElem hk]; rfl
  rw [List.drop_eq_getElem_cons hk]
  simp only [runG]
  rw [←hgk,h1]
  by_cases e1:g=k
  ·rw [if_pos e1,if_neg (by decide),if_pos rfl,if_pos (by omega),←e1]
  ·rw [if_neg e1,if_neg (by decide),if_neg (by decide),ih]
   by_cases e2:(k:Int)≤g
   ·rw [if_pos e2,if_pos (by push_cast; omega)]
   ·rw [if_neg e2,if_neg (by push_cast; omega)]
end Go.Abs
namespace Go.Abs
open Go
theorem kqh (b:Belt) (f:List Fed):(List.range' 0 f.length).foldl (fun s j=>s++[ftF b (Gj b f j) (fd f j)]) []=kgU b f:=by
 rw [kfi (fun j=>[ftF b (Gj b f j) (fd f j)]),List.nil_append]
 unfold kgU
 rw [List.map_eq_flatMap]
theorem ktJ {b:Belt} {f:List Fed} (hg:b.2.2.2.1.length≤1000) (hb:b.2.2.2.2.length≤1000) (hf:∀ x∈f,x.2.2.length≤1000) (hfl:f.length≤1000)
  (h1:beltR b=true) (h2:fedR f=true) {r:List (Nat×Nat)} (hr:Cls (2*b.2.2.1+1) f 0 r) {W:List Sw} (w1:W.Perm (r.flatMap (hS b f))) (w2:W.Pairwise sle) (w3:W.length≤1000) :
  kiw b f W=some (kgU b f,0):=by
 have B:=klo h1
 obtain ⟨L,hsd,hmo⟩:=kmu h2
 have hm:∀ i j,i≤j→j<f.length→(fd f i).1≤(fd f j).1:=fun i j hij hj=>by
  by_cases e1:i=j
  ·rw [e1]; exact Int.le_refl _
  ·exact Int.le_of_lt (hmo i j (by omega) hj)
 have hL:=L.len
 have hv:=krQ B L hm hr w1 w2
 have hinR:∀ x∈W,inR x.1:=fun x hx=>by have:=memW B L hm hr w1 w2 hx; unfold inR; omega
 have s0:=B.s0; have s1:=B.s1; have l0:=B.l0; have l1:=B.l1
 have hlen:(List.range' 0 f.length).length=f.length:=by simp
 unfold kiw
 rw [kmm b f hg hb hf hfl,if_pos h1,if_pos h2]
 simp only [Option.bind_some]
 rw [if_neg (by simp),ksL b f (by have:=B.gl; omega) W w3,if_pos hv]
 simp only [Option.bind_some]
 rw [if_neg (by simp),kfY (F:=kfV b f (rowsG b.2.2.2.1.length W,true)) (List.range' 0 f.length) (by omega) (fun i s=>s.length=i) (fun s j=>s++[ftF b (Gj b f j) (fd f j)]) .inr (fun i s hi hs=>by
  rw [hlen] at hi
  have hx:=L.fd hi
  have hsdi:=klM (hsd (fd f i) (by rw [kfo hi]; exact List.getElem_mem _))
  have m1:=ksm b f W (fd f i) w3 hg ⟨s0,s1⟩ hv hinR (seenR (fd f i).2.2) (w64 ((fd f i).1+b.1)) b.2.2.2.1.length 0 (by omega)
  rw [List.drop_zero] at m1
  obtain ⟨⟨s',e'⟩,hp,q1,q2⟩:=hr.at i (by omega) hi
  obtain ⟨C,-⟩:=hr.mem _ hp
  dsimp only at q1 q2 C
  have hG:=Gj_eq B L C q1 q2
  have hGl:Gj b f i<b.2.2.2.1.length:=by
   by_cases h0:0≤Gj b f i
   ·rw [hG] at h0 ⊢; have:=Gc_lt h0; omega
   ·omega
  have m2:=kqt (slow:=b.2.2.1) (tick:=(fd f i).1) (read:=seenR (fd f i).2.2) (e:=w64 ((fd f i).1+b.1)) (W:=W) hGl (fun k hk=>by
   have hgt:=B.gt (g:=(k:Int)) (by simpa using hk)
   rw [kal (x:=(fd f i).1+(gtF b k).1) (by omega) (by omega)]
   exact st_eq B L hm hr w1 w2 hi (by omega) (by simpa using hk)) b.2.2.2.1.length 0 (by omega)
  rw [List.drop_zero] at m2
  rw [m2] at m1
  unfold kfV
  dsimp only
  rw [if_pos (lenI_lt.2 hi),gi_fd hi,kbn (by omega)]
  simp only [Option.bind_some]
  rw [kmH _ (by omega) (fun x hx=>(hsdi.2.2 x hx).2)]
  simp only [Option.bind_some]
  rw [show ((0:Int),seenR (fd f i).2.2,(-1:Int),w64 ((fd f i).1+b.1))=(((0:Nat):Int),seenR (fd f i).2.2,(-1:Int),w64 ((fd f i).1+b.1)) from rfl,kbO m1 (by omega)]
  simp only [Option.bind_some,List.getElem_range',Nat.zero_add,Nat.one_mul]
  unfold ftF
  by_cases h0:0≤Gj b f i
  ·have hgt:=B.gt (g:=Gj b f i) (by omega)
   rw [if_pos (by simpa using h0),if_pos h0]
   dsimp only
   rw [kfe (by simp; omega),kal (x:=(fd f i).1+(gtF b (Gj b f i)).1) (by omega) (by omega)]
   rfl
  ·rw [if_neg (by simpa using h0),if_neg h0]
   dsimp only
   rw [kfe (by simp; omega),kal (x:=(fd f i).1+b.1) (by omega) (by omega)]
   rfl) (fun i s hi hs=>by simp; omega) (fun s hs=>by
  unfold kfV
  dsimp only
  rw [hlen,if_neg kaS]) [] (by simp)]
 simp only [Option.bind_some]
 rw [kqh]
theorem law09_SortTrue_eq (b:Belt) (f:List Fed):kfL b f=some true:=by
 unfold kfL
 rw [ktr]
 simp only [Option.bind_some]
 obtain ⟨r,hr1,hr2⟩:=ksZ b f
 rw [hr1]
 simp only [Option.bind_some]
 cases r with
 | true=>rfl
 | false=>
  obtain ⟨a1,a2,a3,a4⟩:=hr2 rfl
  simp only [Bool.false_eq_true,if_false]
  rw [if_neg (by decide)]
  by_cases h:beltR b=true∧fedR f=true
  ·obtain ⟨h1,h2⟩:=h
   obtain ⟨r,hr,hs⟩:=krP a1 a2 a3 a4 h1 h2
   obtain ⟨W,hw,w1,w2,w3⟩:=kpX a1 a2 a3 a4 h1 h2 hr
   rw [hs,hw]
   simp only [Option.bind_some]
   rw [if_neg (by simp),if_neg (by simp),ktJ a1 a2 a3 a4 h1 h2 hr w1 w2 w3]
   simp only [Option.bind_some]
   rw [kmy _ (by rw [kqQ]; exact a4)]
   rfl
  ·obtain ⟨e,he,hs,hw⟩:=ksN a1 a2 a3 a4 h
   rw [hs,hw]
   simp only [Option.bind_some]
   rw [if_pos (by simpa using he)]
   simp [kpd]
end Go.Abs
