/- The functions and the law, part 8. -/
import Derived.Test.YtadfdnfenimkpaaS7
set_option linter.constructorNameAsVariable false
set_option linter.unusedVariables false
set_option linter.unusedSimpArgs false
set_option linter.unusedSectionVars false
namespace Go.Abs
open Go Go.Abs.Fl
def noFn:Ty→Bool
 | .fn _ _ _=>false
 | .pr p q | .sm p q=>noFn p&&noFn q
 | .w p | .pt p | .sl p | .op p | .ar _ p=>noFn p
 | _=>true
theorem kbl:∀ (t:Ty),noFn t=true→∀ x,teq t x x=true
 | .i _,_,x=>by simp [teq]
 | .b,_,x=>by simp [teq]
 | .s,_,x=>by simp [teq]
 | .un,_,x=>rfl
 | .nt,_,x=>by simp [teq]
 | .pr p q,h,x=>by
  simp only [noFn,Bool.and_eq_true] at h
  simp [teq,kbl p h.1,kbl q h.2]
 | .w a,h,x=>kbl a h x
 | .pt a,h,x=>kbl a h x
 | .sl a,h,x=>kjb (kbl a h) x
 | .op a,h,none=>rfl
 | .op a,h,some x=>kbl a h x
 | .ar _ a,h,x=>kjb (kbl a h) x.l
 | .sm p q,h,.inl x=>by
  simp only [noFn,Bool.and_eq_true] at h
  exact kbl p h.1 x
 | .sm p q,h,.inr x=>by
  simp only [noFn,Bool.and_eq_true] at h
  exact kbl q h.2 x
 | .fn _ _ _,h,x=>by simp [noFn] at h
def at3 (l:List It) (k:Nat):It:=(l[k]?).getD (0,0,0)
theorem kdp {l:List It} {k:Nat} (h:k<l.length):at3 l k=l[k]:=by unfold at3; rw [List.getElem?_eq_getElem h]; rfl
def kc (x:It):Int×Int:=(x.1,x.2.1)
def mayQ (X Y:List It) (sw:List Swap) (k j:Nat):Prop:=mayB sw (kc (at3 Y k)) (kc (at3 X j))=true
def rowQ (X:List It) (sw:List Swap) (y:It):List Bool:=X.map fun x=>mayB sw (kc y) (kc x)
theorem kmx {X:List It} {sw:List Swap} {y:It} {j:Nat} (h:j<X.length):sa (rowQ X sw y) j=mayB sw (kc y) (kc (at3 X j)):=by
 unfold sa rowQ
 rw [List.getD_eq_getElem?_getD,List.getElem?_map,kdp h,List.getElem?_eq_getElem h]; rfl
theorem idx_mem {s:List Bool} {n:Nat} {x:Int}:x∈idx s n↔∃ j,j<n∧x=(j:Int)∧sa s j=true:=by
 unfold idx
 simp only [List.mem_map,List.mem_filter,List.mem_range]
 constructor
 ·rintro ⟨j,⟨h1,h2⟩,rfl⟩; exact ⟨j,h1,rfl,h2⟩
 ·rintro ⟨j,h1,rfl,h2⟩; exact ⟨j,⟨h1,h2⟩,rfl⟩
theorem khk {α:Type} {l:List α} {x d:α} {k:Nat}:(l++[x]).getD k d=if k=l.length then x else l.getD k d:=by
 rw [List.getD_eq_getElem?_getD,List.getD_eq_getElem?_getD,List.getElem?_append]
 by_cases h:k<l.length
 ·rw [if_pos h,if_neg (by omega)]
 ·rw [if_neg h]
  by_cases e:k=l.length
  ·subst e; simp
  ·rw [if_neg e,List.getElem?_eq_none (l:=l) (by omega),List.getElem?_eq_none (l:=[x]) (by simp only [List.length_cons,List.length_nil]; omega)]
theorem krE {U:List (List Int)} {n m:Nat} (h:∀ k,k<n→U.getD k []=List.replicate m 0) {k j:Nat} (hk:k<n) (hj:j<m):ua U k j=0:=by
 unfold ua
 rw [h k hk,List.getD_eq_getElem?_getD,List.getElem?_replicate,if_pos hj]; rfl
theorem kiX {X:List It} {j:Nat} (h:j<X.length):la (X.map fun x=>x.2.2) j=needN X j:=by
 unfold la needN
 rw [List.getD_eq_getElem?_getD,List.getElem?_map,List.getElem?_eq_getElem h]; rfl
theorem kpq {X:List It} {i:Nat} (h:i<X.length):((X.take i).map fun x=>x.2.2)++[X[i].2.2]=(X.take (i+1)).map fun x=>x.2.2:=by
 rw [List.take_add_one,List.getElem?_eq_getElem h,List.map_append]; rfl
section
variable {X Y:List It} {sw:List Swap}
theorem kud (hX:X.length≤1000):iter (kbZ X) (0,Y,[])=some (Y,X.map fun x=>x.2.2):=by
 obtain ⟨z,hz,rfl⟩:=Fl.iter_inv (F:=kbZ X) (fun x=>∃ i:Nat,i≤X.length∧x=((i:Int),Y,(X.take i).map fun x=>x.2.2)) (fun x=>X.length-x.1.toNat) (fun z=>z=(Y,X.map fun x=>x.2.2))
  (fun x hx=>by
   obtain ⟨i,hi,rfl⟩:=hx
   by_cases hlt:i<X.length
   ·refine .inr ⟨((i+1:Nat),Y,(X.take (i+1)).map fun x=>x.2.2),?_,⟨i+1,by omega,rfl⟩,by simp only [Int.toNat_natCast]; omega⟩
    unfold kbZ
    have hg:gapp ((X.take i).map fun x=>x.2.2) [X[i].2.2]=some ((X.take (i+1)).map fun x=>x.2.2):=by
     rw [kcg (by simp only [List.length_map,List.length_take,List.length_cons,List.length_nil]; omega),kpq hlt]
    simp only [lenI_lt.2 hlt,if_true,kao hlt,Option.bind_some,hg,kal (show i<9223372036854775807 by omega)]
   ·have:i=X.length:=by omega
    subst this
    refine .inl ⟨(Y,X.map fun x=>x.2.2),?_,rfl⟩
    rw [List.take_length]
    unfold kbZ
    rw [if_neg kaH])
  (0,Y,[]) ⟨0,by omega,rfl⟩ (by simp only; omega)
 exact hz
theorem ktV (hX:X.length≤1000):iter (kca X) (0,[])=some (X.map fun x=>x.2.2):=by
 obtain ⟨z,hz,rfl⟩:=Fl.iter_inv (F:=kca X) (fun x=>∃ i:Nat,i≤X.length∧x=((i:Int),(X.take i).map fun x=>x.2.2)) (fun x=>X.length-x.1.toNat) (fun z=>z=X.map fun x=>x.2.2)
  (fun x hx=>by
   obtain ⟨i,hi,rfl⟩:=hx
   by_cases hlt:i<X.length
   ·refine .inr ⟨((i+1:Nat),(X.take (i+1)).map fun x=>x.2.2),?_,⟨i+1,by omega,rfl⟩,by simp only [Int.toNat_natCast]; omega⟩
    unfold kca
    have hg:gapp ((X.take i).map fun x=>x.2.2) [X[i].2.2]=some ((X.take (i+1)).map fun x=>x.2.2):=by
     rw [kcg (by simp only [List.length_map,List.length_take,List.length_cons,List.length_nil]; omega),kpq hlt]
    simp only [lenI_lt.2 hlt,if_true,kao hlt,Option.bind_some,hg,kal (show i<9223372036854775807 by omega)]
   ·have:i=X.length:=by omega
    subst this
    refine .inl ⟨X.map fun x=>x.2.2,?_,rfl⟩
    rw [List.take_length]
    unfold kca
    rw [if_neg kaH])
  (0,[]) ⟨0,by omega,rfl⟩ (by simp only; omega)
 exact hz
theorem row_p (hX:X.length≤1000) (hs:sw.length≤1000) (y:It):iter (kbV X sw y) (0,[])=some (idx (rowQ X sw y) X.length):=by
 have hl:(rowQ X sw y).length=X.length:=by simp [rowQ]
 have:=Fl.collect (s:=rowQ X sw y) (F:=kbV X sw y) (by omega) (fun i l hi hlen=>by
  rw [hl] at hi
  unfold kbV
  have h1:kfr sw (kc y) (kc X[i])=some (mayB sw (kc y) (kc X[i])):=krg sw hs _ _
  unfold kc at h1
  simp only [lenI_lt.2 hi,if_true,kao hi,Option.bind_some,kbx,h1,kal (show i<9223372036854775807 by omega)]
  rw [kmx hi,kdp hi]
  unfold kc
  cases mayB sw (y.1,y.2.1) (X[i].1,X[i].2.1) with
  | true=>simp only [if_true]; rw [kcg (by simp; omega)]; rfl
  | false=>rfl) (fun l=>by
  unfold kbV
  rw [if_neg (by rw [hl]; exact kaH)])
 rw [hl] at this
 exact this
theorem ktG (hX:X.length≤1000) (hY:Y.length≤1000) (hs:sw.length≤1000):∃ M U,iter (kbY X Y sw) (0,Y,[],[])=some (Y,M,U)∧MayL Y.length X.length (mayQ X Y sw) M∧U.length=Y.length∧∀ k,k<Y.length→U.getD k []=List.replicate X.length 0:=by
 obtain ⟨z,hz,M,U,rfl,a,b,c,d⟩:=Fl.iter_inv (F:=kbY X Y sw)
  (fun x=>∃ (i:Nat) (M U:List (List Int)),i≤Y.length∧x=((i:Int),Y,M,U)∧M.length=i∧(∀ k,k<i→M.getD k []=idx (rowQ X sw (at3 Y k)) X.length)∧U.length=i∧∀ k,k<i→U.getD k []=List.replicate X.length 0) (fun x=>Y.length-x.1.toNat)
  (fun z=>∃ M U,z=(Y,M,U)∧M.length=Y.length∧(∀ k,k<Y.length→M.getD k []=idx (rowQ X sw (at3 Y k)) X.length)∧U.length=Y.length∧∀ k,k<Y.length→U.getD k []=List.replicate X.length 0)
  (fun x hx=>by
   obtain ⟨i,M,U,hi,rfl,a,b,c,d⟩:=hx
   by_cases hlt:i<Y.length
   ·have hr:=row_p hX hs Y[i]
    have g1:gapp M [idx (rowQ X sw Y[i]) X.length]=some (M++[idx (rowQ X sw Y[i]) X.length]):=kcg (by simp; omega)
    have g2:gmk (lenI X) (0:Int)=some (List.replicate X.length 0):=by
     unfold gmk
     rw [kag,if_pos (by omega),Int.toNat_natCast]
    have g3:gapp U [List.replicate X.length (0:Int)]=some (U++[List.replicate X.length 0]):=kcg (by simp; omega)
    refine .inr ⟨((i+1:Nat),Y,M++[idx (rowQ X sw Y[i]) X.length],U++[List.replicate X.length 0]),?_,⟨i+1,_,_,by omega,rfl,by simp [a],fun k hk=>?_,by simp [c],fun k hk=>?_⟩,by simp only [Int.toNat_natCast]; omega⟩
    ·unfold kbY
     simp only [lenI_lt.2 hlt,if_true,kao hlt,Option.bind_some,hr,g1,g2,g3,kal (show i<9223372036854775807 by omega)]
     rw [kdQ (kbl _ rfl _),kdQ (kbl _ rfl _),kdQ (kbl _ rfl _),kdQ (kbl _ rfl _),kdQ (kbl _ rfl _)]
    ·rw [khk]
     by_cases e:k=i
     ·subst e; rw [if_pos a.symm,kdp hlt]
     ·rw [if_neg (by omega)]; exact b k (by omega)
    ·rw [khk]
     by_cases e:k=i
     ·subst e; rw [if_pos c.symm]
     ·rw [if_neg (by omega)]; exact d k (by omega)
   ·have:i=Y.length:=by omega
    subst this
    refine .inl ⟨(Y,M,U),?_,M,U,rfl,a,b,c,d⟩
    unfold kbY
    rw [if_neg kaH])
  (0,Y,[],[]) ⟨0,[],[],by omega,rfl,rfl,fun k h=>by omega,rfl,fun k h=>by omega⟩ (by simp only; omega)
 refine ⟨M,U,hz,⟨a,fun k hk=>?_,fun k hk x hx=>?_,fun k hk j hj hm=>?_⟩,c,d⟩
 ·rw [b k hk]; have:=kmr (rowQ X sw (at3 Y k)) X.length; omega
 ·rw [b k hk] at hx
  obtain ⟨j,h1,h2,h3⟩:=idx_mem.1 hx
  rw [kmx h1] at h3
  exact ⟨j,h1,h2,h3⟩
 ·rw [b k hk]
  exact idx_mem.2 ⟨j,hj,rfl,by rw [kmx hj]; exact hm⟩
theorem row_r (hX:X.length≤1000) (hs:sw.length≤1000) {i:Nat} (hi:i<Y.length) (v0:Int×List (List Bool)×List (List Int)) (h0:v0.1=i):∃ r,iter (kbW X Y sw v0) (0,List.replicate X.length false)=some r∧r.length=X.length∧∀ j,j<X.length→sa r j=mayB sw (kc (at3 Y i)) (kc (at3 X j)):=by
 obtain ⟨z,hz,a,b⟩:=Fl.iter_inv (F:=kbW X Y sw v0)
  (fun x=>∃ (j:Nat) (r:List Bool),j≤X.length∧x=((j:Int),r)∧r.length=X.length∧∀ j',j'<j→sa r j'=mayB sw (kc (at3 Y i)) (kc (at3 X j'))) (fun x=>X.length-x.1.toNat)
  (fun r=>r.length=X.length∧∀ j,j<X.length→sa r j=mayB sw (kc (at3 Y i)) (kc (at3 X j)))
  (fun x hx=>by
   obtain ⟨j,r,hj,rfl,a,b⟩:=hx
   by_cases hlt:j<X.length
   ·have h1:kdb sw Y[i].1 Y[i].2.1 X[j].1 X[j].2.1=some (mayB sw (kc Y[i]) (kc X[j])):=kjE sw hs (kc Y[i]) (kc X[j])
    have h2:gi r (j:Int)=some (sa r j):=Fl.gs a hlt
    refine .inr ⟨((j+1:Nat),r.set j (mayB sw (kc Y[i]) (kc X[j]))),?_,⟨j+1,_,by omega,rfl,by simp [a],fun j' hj'=>?_⟩,by simp only [Int.toNat_natCast]; omega⟩
    ·unfold kbW
     simp only [h0,lenI_lt.2 hlt,if_true,kao hlt,kao hi,Option.bind_some,h1,h2,kal (show j<9223372036854775807 by omega)]
     rfl
    ·rw [show sa (r.set j (mayB sw (kc Y[i]) (kc X[j]))) j'=if j'=j then mayB sw (kc Y[i]) (kc X[j]) else sa r j' from Fl.getD_set (by omega)]
     by_cases e:j'=j
     ·subst e; rw [if_pos rfl,kdp hi,kdp hlt]
     ·rw [if_neg e]; exact b j' (by omega)
   ·have:j=X.length:=by omega
    subst this
    refine .inl ⟨r,?_,a,b⟩
    unfold kbW
    rw [if_neg kaH])
  (0,List.replicate X.length false) ⟨0,_,by omega,rfl,by simp,fun j' h=>by omega⟩ (by simp only; omega)
 exact ⟨z,hz,a,b⟩
theorem ktI (hX:X.length≤1000) (hY:Y.length≤1000) (hs:sw.length≤1000):∃ B U,kef X Y sw=some (B,U,X.map fun x=>x.2.2)∧MayB Y.length X.length (mayQ X Y sw) B∧U.length=Y.length∧∀ k,k<Y.length→U.getD k []=List.replicate X.length 0:=by
 obtain ⟨z,hz,B,U,rfl,a,b,c,d⟩:=Fl.iter_inv (F:=kcP X Y sw)
  (fun x=>∃ (i:Nat) (B:List (List Bool)) (U:List (List Int)),i≤Y.length∧x=((i:Int),B,U)∧B.length=i∧(∀ k,k<i→(B.getD k []).length=X.length∧∀ j,j<X.length→sa (B.getD k []) j=mayB sw (kc (at3 Y k)) (kc (at3 X j)))∧U.length=i∧∀ k,k<i→U.getD k []=List.replicate X.length 0) (fun x=>Y.length-x.1.toNat)
  (fun z=>∃ B U,z=(B,U)∧B.length=Y.length∧(∀ k,k<Y.length→(B.getD k []).length=X.length∧∀ j,j<X.length→sa (B.getD k []) j=mayB sw (kc (at3 Y k)) (kc (at3 X j)))∧U.length=Y.length∧∀ k,k<Y.length→U.getD k []=List.replicate X.length 0)
  (fun x hx=>by
   obtain ⟨i,B,U,hi,rfl,a,b,c,d⟩:=hx
   by_cases hlt:i<Y.length
   ·obtain ⟨r,hr,r1,r2⟩:=row_r hX hs hlt ((i:Int),B,U) rfl
    have g0:gmk (lenI X) false=some (List.replicate X.length false):=by
     unfold gmk
     rw [kag,if_pos (by omega),Int.toNat_natCast]
    have g1:gapp B [r]=some (B++[r]):=kcg (by simp; omega)
    have g2:gmk (lenI X) (0:Int)=some (List.replicate X.length 0):=by
     unfold gmk
     rw [kag,if_pos (by omega),Int.toNat_natCast]
    have g3:gapp U [List.replicate X.length (0:Int)]=some (U++[List.replicate X.length 0]):=kcg (by simp; omega)
    refine .inr ⟨((i+1:Nat),B++[r],U++[List.replicate X.length 0]),?_,⟨i+1,_,_,by omega,rfl,by simp [a],fun k hk=>?_,by simp [c],fun k hk=>?_⟩,by simp only [Int.toNat_natCast]; omega⟩
    ·unfold kcP
     simp only [lenI_lt.2 hlt,if_true,g0,Option.bind_some,hr,g1,g2,g3,kal (show i<9223372036854775807 by omega)]
    ·rw [khk]
     by_cases e:k=i
     ·subst e; rw [if_pos a.symm]; exact ⟨r1,r2⟩
     ·rw [if_neg (by omega)]; exact b k (by omega)
    ·rw [khk]
     by_cases e:k=i
     ·subst e; rw [if_pos c.symm]
     ·rw [if_neg (by omega)]; exact d k (by omega)
   ·have:i=Y.length:=by omega
    subst this
    refine .inl ⟨(B,U),?_,B,U,rfl,a,b,c,d⟩
    unfold kcP
    rw [if_neg kaH])
  (0,[],[]) ⟨0,[],[],by omega,rfl,rfl,fun k h=>by omega,rfl,fun k h=>by omega⟩ (by simp only; omega)
 refine ⟨B,U,?_,⟨a,fun k hk=>(b k hk).1,fun k hk j hj=>by rw [(b k hk).2 j hj]; exact Iff.rfl⟩,c,d⟩
 unfold kef
 rw [hz]
 simp only [Option.bind_some,ktV hX]
end
def askE (X Y:List It) (sw:List Swap):Int:=if stk X=true∧stk Y=true then swE sw else 8
theorem knU (X Y:List It) (sw:List Swap):kes X Y sw=some (askE X Y sw):=by
 unfold kes askE
 rw [khO,khO,kfm]
 cases stk X <;> cases stk Y <;> simp
theorem krb {α β γ:Type} (x:Option α) (f:α→Option β):(x.bind fun a=>(f a).bind fun _=>(none:Option γ))=none:=by
 cases x with
 | none=>rfl
 | some a=>simp only [Option.bind_some]; cases f a <;> rfl
section
variable {X Y:List It} {sw:List Swap}
theorem bad_p (hs:sw.length≤1000):(if ((if stk X=true∧stk Y=true then (0:Int) else 8)==0)=true then (kbq sw).bind fun v1=>some v1 else some (if stk X=true∧stk Y=true then (0:Int) else 8))=some (askE X Y sw):=by
 unfold askE
 rw [kge sw hs]
 by_cases h:stk X=true∧stk Y=true
 ·simp [h]
 ·simp [h]
theorem g0_eq (hX:X.length≤1000) (hY:Y.length≤1000) (hs:sw.length≤1000):kcT X Y sw=if askE X Y sw≠0 then some (askE X Y sw) else none:=by
 unfold kcT
 rw [klm hX hY]
 simp only [Option.bind_some]
 rw [bad_p hs]
 simp only [Option.bind_some]
 by_cases h:askE X Y sw=0
 ·rw [if_neg (by simp [h]),if_neg (by simp [h])]
  exact krb _ _
 ·rw [if_pos (by simp [h]),if_pos h]
theorem g1_ok (hX:X.length≤1000) (hY:Y.length≤1000) (hs:sw.length≤1000) (h:askE X Y sw=0):∃ M U,kcW X Y sw=some (0,Y,M,U,X.map fun x=>x.2.2)∧MayL Y.length X.length (mayQ X Y sw) M∧U.length=Y.length∧∀ k,k<Y.length→U.getD k []=List.replicate X.length 0:=by
 obtain ⟨M,U,h1,h2,h3,h4⟩:=ktG hX hY hs
 refine ⟨M,U,?_,h2,h3,h4⟩
 unfold kcW
 rw [klm hX hY]
 simp only [Option.bind_some]
 rw [bad_p hs]
 simp only [Option.bind_some]
 rw [if_neg (by simp [h]),kud hX]
 simp only [Option.bind_some,h1]
end
theorem stk_N {l:List It} (h:stk l=true):l.length≤30∧∀ k,k<l.length→1≤needN l k∧needN l k≤1000:=by
 unfold stk at h
 simp only [Bool.and_eq_true,decide_eq_true_eq] at h
 refine ⟨h.1.1,fun k hk=>?_⟩
 rw [kgR hk]
 have:=List.all_eq_true.1 h.2 _ (List.getElem_mem hk)
 unfold okN at this
 simpa using this
theorem kta {X Y:List It} {sw:List Swap} (hX:X.length≤1000) (hY:Y.length≤1000) (hs:sw.length≤1000):∃ t l e,l.length≤1000∧kiq X Y sw=some ((t,l),e)∧kgk X Y sw=some ((t,l),e):=by
 unfold kiq kgk
 rw [knU,g0_eq hX hY hs]
 by_cases h:askE X Y sw=0
 ·have hst:stk X=true∧stk Y=true:=by
   by_cases c:stk X=true∧stk Y=true
   ·exact c
   ·unfold askE at h; rw [if_neg c] at h; omega
  obtain ⟨x1,x2⟩:=stk_N hst.1
  obtain ⟨y1,y2⟩:=stk_N hst.2
  obtain ⟨M,U,p1,p2,p3,p4⟩:=g1_ok hX hY hs h
  obtain ⟨B,U',r1,r2,r3,r4⟩:=ktI hX hY hs (X:=X) (Y:=Y) (sw:=sw)
  have hgm:gmk (lenI Y) false=some (List.replicate Y.length false):=by
   unfold gmk
   rw [kag,if_pos (by omega),Int.toNat_natCast]
  have hc:∀ j,j<X.length→needN X j≤1000:=fun j hj=>(x2 j hj).2
  have hc0:∀ j,j<X.length→0≤needN X j:=fun j hj=>by have:=(x2 j hj).1; omega
  have hN:∀ k,k<Y.length→0≤needN Y k∧needN Y k≤1000:=fun k hk=>by have:=y2 k hk; omega
  have shp:Shp Y.length X.length U (X.map fun x=>x.2.2):=⟨p3,fun k hk=>by rw [p4 k hk]; simp,by simp⟩
  have shr:Shp Y.length X.length U' (X.map fun x=>x.2.2):=⟨r3,fun k hk=>by rw [r4 k hk]; simp,by simp⟩
  have Ap:=At.zero (cap:=needN X) (may:=mayQ X Y sw) shp (fun k hk j hj=>krE p4 hk hj) (fun j hj=>kiX hj) hc0 (needN Y) rfl
  have Ar:=At.zero (cap:=needN X) (may:=mayQ X Y sw) shr (fun k hk j hj=>krE r4 hk hj) (fun j hj=>kiX hj) hc0 (needN Y) rfl
  obtain ⟨t,U2,L2,K2,i1,A2⟩:=ktZ (N:=Y) p2 rfl (by omega) (by omega) hc hN Ap
  obtain ⟨t',U3,L3,K3,i2,A3⟩:=kuh r2 rfl (by omega) (by omega) hc hN Ar
  obtain ⟨e1,e2,e3⟩:=alike A2 A3
  obtain ⟨s,s1,s2,s3⟩:=ktC (N:=Y) p2 (by omega) (by omega) A2.sh A2.kl
  obtain ⟨s',s1',s2',s3'⟩:=ktt r2 (by omega) (by omega) A3.sh A3.kl
  have hi:idx s Y.length=idx s' Y.length:=krL fun k hk=>by
   have:=(s3 k hk).trans ((e3 k).trans (s3' k hk).symm)
   cases h1:sa s k <;> cases h2:sa s' k <;> simp_all
  refine ⟨t,idx s Y.length,0,by have:=kmr s Y.length; omega,?_,?_⟩
  ·rw [if_neg (by simp [h])]
   simp only [Option.bind_none,elsO,p1,Option.bind_some,hgm]
   rw [if_neg (by simp)]
   simp only [i1,Option.bind_some,s2]
  ·simp only [Option.bind_some,h]
   rw [if_neg (by simp)]
   simp only [r1,Option.bind_some,hgm,i2,s2']
   rw [←e1,←hi]
 ·refine ⟨0,[],askE X Y sw,by simp,?_,?_⟩
  ·rw [if_pos h]
   simp only [Option.bind_some,elsO]
   rw [if_pos (by simp [h])]
  ·simp only [Option.bind_some]
   rw [if_pos (by simp [h])]
end Go.Abs
namespace Go.Abs
open Go Go.Abs.Fl
def kdZ (p u:It):Bool:=decide (u.1<p.1)||(u.1==p.1&&decide (u.2.1≤p.2.1))
def okU (X Y:List It) (sw:List Swap) (us:List It) (i:Nat) (W L:List Int):Bool:=
 wi 0 ((Y.length:Int)-1) (at3 us i).1&&wi 0 ((X.length:Int)-1) (at3 us i).2.1&&mayB sw (kc (at3 Y (at3 us i).1.toNat)) (kc (at3 X (at3 us i).2.1.toNat)) &&
  decide (1≤(at3 us i).2.2)&&decide ((at3 us i).2.2≤la W (at3 us i).1.toNat)&&decide ((at3 us i).2.2≤la L (at3 us i).2.1.toNat)&&!(decide (0<i)&&kdZ (at3 us (i-1)) (at3 us i))
def run (X Y:List It) (sw:List Swap) (us:List It):Nat→Nat→Int→List Int→List Int→Option Int
 | 0,_,t,_,_=>some t
 | k+1,i,t,W,L=>if okU X Y sw us i W L=true then run X Y sw us k (i+1) (t+(at3 us i).2.2) (W.set (at3 us i).1.toNat (la W (at3 us i).1.toNat-(at3 us i).2.2)) (L.set (at3 us i).2.1.toNat (la L (at3 us i).2.1.toNat-(at3 us i).2.2)) else none
def Sm (l:List Int):Prop:=∀ k,0≤la l k∧la l k≤1000
theorem Sm.set {l:List Int} (h:Sm l) {a:Nat} {v:Int} (h0:0≤v) (h1:v≤1000):Sm (l.set a v):=fun k=>by
 by_cases ha:a<l.length
 ·rw [kfb ha]; split
  ·exact ⟨h0,h1⟩
  ·exact h k
 ·rw [List.set_eq_of_length_le (by omega)]; exact h k
theorem kgy (lo hi n:Int):kcm lo hi n=some (wi lo hi n):=kpS lo hi n
theorem kdd (n lo hi:Int):kbh n lo hi=some (wi lo hi n):=kdx n lo hi
theorem okU_iff {X Y us:List It} {sw:List Swap} {i:Nat} {W L:List Int}:okU X Y sw us i W L=true↔(0≤(at3 us i).1∧(at3 us i).1≤(Y.length:Int)-1)∧(0≤(at3 us i).2.1∧(at3 us i).2.1≤(X.length:Int)-1)∧mayB sw (kc (at3 Y (at3 us i).1.toNat)) (kc (at3 X (at3 us i).2.1.toNat))=true∧
  1≤(at3 us i).2.2∧(at3 us i).2.2≤la W (at3 us i).1.toNat∧(at3 us i).2.2≤la L (at3 us i).2.1.toNat∧(decide (0<i)&&kdZ (at3 us (i-1)) (at3 us i))=false:=by
 unfold okU
 simp only [Bool.and_eq_true,wi_iff,decide_eq_true_eq,Bool.not_eq_true',and_assoc]
theorem ktz (l:List Int) (hl:l.length≤1000) (x:Int):kaT l x=some (l.any fun v=>x==v):=by
 unfold kaT kcI
 rw [kcD (F:=kbs l x) l (by omega) (fun i v=>if x==v then some (i:Int) else none) (fun i hi=>by
  unfold kbs
  rw [if_pos (by rw [kag]; simpa using hi),kao hi,kal (by omega)]
  simp only [Option.bind_some]
  by_cases h:(x==l[i])=true
  ·rw [if_pos h,if_pos h]; rfl
  ·rw [if_neg h,if_neg h]; rfl) (by unfold kbs; rw [if_neg (by simp [kag])])]
 have:∀ (l:List Int) (k:Nat),(endL ((l.zipIdx k).findSome? fun v=>if x==v.1 then some (v.2:Int) else none) = .inr ()∧(l.any fun v=>x==v)=false)∨∃ p:Int,0≤p∧endL ((l.zipIdx k).findSome? fun v=>if x==v.1 then some (v.2:Int) else none) = .inl p∧(l.any fun v=>x==v)=true:=by
  intro l
  induction l with
  | nil=>intro k; exact .inl ⟨rfl,rfl⟩
  | cons v l ih=>
   intro k
   rw [List.zipIdx_cons,List.findSome?_cons,List.any_cons]
   cases hp:(x==v) with
   | true=>exact .inr ⟨k,by omega,by simp [endL],by simp⟩
   | false=>
    simp only [Bool.false_eq_true,if_false,Bool.false_or]
    exact ih (k+1)
 rcases this l 0 with ⟨h1,h2⟩ | ⟨p,hp,h1,h2⟩
 ·rw [h1,h2]; rfl
 ·rw [h1,h2]
  simp only [Option.bind_some,decide_eq_true hp]
theorem ksu (p u:It):decide (0≤(if cmpI p.1 u.1≠0 then cmpI p.1 u.1 else cmpI p.2.1 u.2.1))=kdZ p u:=by
 unfold kdZ cmpI
 by_cases a:p.1<u.1
 ·have b:¬ u.1<p.1:=by omega
  have c:(u.1==p.1)=false:=by simp; omega
  simp [a,b,c]
 ·by_cases b:u.1<p.1
  ·simp [a,b]
  ·have c:p.1=u.1:=by omega
   rw [c]
   simp only [Int.lt_irrefl,if_false,ne_eq,not_true_eq_false,decide_false,beq_self_eq_true,Bool.true_and,Bool.false_or]
   by_cases d:p.2.1<u.2.1
   ·have e:¬ u.2.1≤p.2.1:=by omega
    simp [d,e]
   ·have e:u.2.1≤p.2.1:=by omega
    by_cases f:u.2.1<p.2.1 <;> simp [d,e,f]
section
variable {X Y us:List It} {sw:List Swap}
theorem ktP {M U:List (List Int)} {L0:List Int} (hM:MayL Y.length X.length (mayQ X Y sw) M) (hX:X.length≤1000) (hY:Y.length≤1000) (hu:us.length≤100):∀ (k i:Nat) (t:Int) (W L:List Int),i+k=us.length→W.length=Y.length→L.length=X.length→Sm W→Sm L→0≤t→t≤1000*i→
  itN (kaD X Y us (0,Y,M,U,L0)) (k+1) ((i:Int),t,Y,L,W)=some (match run X Y sw us k i t W L with | some T=>.inr T | none=>.inl (0,8)):=by
 intro k
 induction k with
 | zero=>
  intro i t W L h hW hL sW sL t0 t1
  have:i=us.length:=by omega
  subst this
  refine kcK ?_
  unfold kaD
  rw [if_neg kaH]; rfl
 | succ k ih=>
  intro i t W L h hW hL sW sL t0 t1
  have hi:i<us.length:=by omega
  have g0:gi us (i:Int)=some (at3 us i):=by rw [kao hi,kdp hi]
  have hn:w64 (lenI Y-1)=(Y.length:Int)-1:=by rw [kag]; exact kaN (by omega) (by omega)
  have hm:w64 (lenI X-1)=(X.length:Int)-1:=by rw [kag]; exact kaN (by omega) (by omega)
  have hlen:decide ((i:Int)<lenI us)=true:=lenI_lt.2 hi
  have hw:w64 ((i:Int)+1)=((i+1:Nat):Int):=kal (by omega)
  simp only [run]
  generalize hud:at3 us i=u at *
  have bad:okU X Y sw us i W L=false→kaD X Y us (0,Y,M,U,L0) ((i:Int),t,Y,L,W)=some (.inr (.inl (0,8)))→itN (kaD X Y us (0,Y,M,U,L0)) (k+1+1) ((i:Int),t,Y,L,W)=some (match (if okU X Y sw us i W L=true then run X Y sw us k (i+1) (t+u.2.2) (W.set u.1.toNat (la W u.1.toNat-u.2.2)) (L.set u.2.1.toNat (la L u.2.1.toNat-u.2.2)) else none) with | some T=>.inr T | none=>.inl (0,8)):=fun hb he=>by
   rw [hb,kcK he]; rfl
  by_cases c1:wi 0 ((Y.length:Int)-1) u.1=true
  ·by_cases c2:wi 0 ((X.length:Int)-1) u.2.1=true
   ·obtain ⟨a1,a2⟩:=wi_iff.1 c1
    obtain ⟨b1,b2⟩:=wi_iff.1 c2
    obtain ⟨a,ha⟩:∃ a:Nat,u.1=(a:Int):=⟨u.1.toNat,by omega⟩
    obtain ⟨b,hb⟩:∃ b:Nat,u.2.1=(b:Int):=⟨u.2.1.toNat,by omega⟩
    have han:a<Y.length:=by omega
    have hbm:b<X.length:=by omega
    have hat:u.1.toNat=a:=by omega
    have hbt:u.2.1.toNat=b:=by omega
    have gM:gi M (a:Int)=some (M.getD a []):=gi_D [] (by rw [hM.l]; exact han)
    have gW:gi W (a:Int)=some (la W a):=gi_D 0 (by omega)
    have gL:gi L (b:Int)=some (la L b):=gi_D 0 (by omega)
    have hc:kaT (M.getD a []) (b:Int)=some (mayB sw (kc (at3 Y a)) (kc (at3 X b))):=by
     rw [ktz _ (hM.s a han)]
     congr 1
     cases hq:mayB sw (kc (at3 Y a)) (kc (at3 X b)) with
     | true=>exact List.any_eq_true.2 ⟨(b:Int),hM.b a han b hbm hq,by simp⟩
     | false=>
      rw [Bool.eq_false_iff]
      intro he
      obtain ⟨v,hv,e⟩:=List.any_eq_true.1 he
      obtain ⟨j,_,rfl,hj⟩:=hM.a a han v hv
      have e':(b:Int)=(j:Int):=by simpa using e
      have:b=j:=by omega
      subst this
      unfold mayQ at hj
      rw [hq] at hj; cases hj
    cases c3:mayB sw (kc (at3 Y a)) (kc (at3 X b)) with
    | false=>
     refine bad ?_ ?_
     ·rw [Bool.eq_false_iff]; intro he
      have:=(okU_iff.1 he).2.2.1
      rw [hud,hat,hbt,c3] at this; cases this
     ·unfold kaD
      simp only [hlen,if_true,g0,Option.bind_some,hn,hm,kgy,c1,c2,Bool.not_true,Bool.false_eq_true,if_false]
      simp only [ha,hb,gM,hc,c3,Option.bind_some,Bool.not_false,if_true]
    | true=>
     by_cases c4:wi 1 (imin (la W a) (la L b)) u.2.2=true
     ·have hN:1≤u.2.2∧u.2.2≤la W a∧u.2.2≤la L b:=by
       obtain ⟨x1,x2⟩:=wi_iff.1 c4
       unfold imin at x2
       split at x2 <;> omega
      have hprev:(if decide (0<(i:Int))=true then (gi us (w64 ((i:Int)-1))).bind fun v31=>(kbf v31.1 u.1).bind fun v32=>(gi us (w64 ((i:Int)-1))).bind fun v33=>(kbf v33.2.1 u.2.1).bind fun v34=>(kdW [v32,v34]).bind fun v35=>some (decide (0≤v35)) else some false)=some (decide (0<i)&&kdZ (at3 us (i-1)) u):=by
       by_cases hi0:0<i
       ·rw [if_pos (by simp; omega),show w64 ((i:Int)-1)=((i-1:Nat):Int) by rw [kaN (by omega) (by omega)]; omega,kao (show i-1<us.length by omega)]
        simp only [Option.bind_some,kls,kny,←kdp (show i-1<us.length by omega)]
        rw [ksu]; simp [hi0]
       ·rw [if_neg (by simp; omega)]; simp [hi0]
      cases c5:(decide (0<i)&&kdZ (at3 us (i-1)) u) with
      | true=>
       refine bad ?_ ?_
       ·rw [Bool.eq_false_iff]; intro he
        have:=(okU_iff.1 he).2.2.2.2.2.2
        rw [hud,c5] at this; cases this
       ·unfold kaD
        simp only [hlen,if_true,g0,Option.bind_some,hn,hm,kgy,c1,c2,Bool.not_true,Bool.false_eq_true,if_false]
        rw [hprev,c5]
        simp only [ha,hb,gM,hc,c3,gW,gL,Option.bind_some,Bool.not_true,Bool.false_eq_true,if_false,c4,if_true]
      | false=>
       have hok:okU X Y sw us i W L=true:=okU_iff.2 (by rw [hud,hat,hbt]; exact ⟨⟨a1,a2⟩,⟨b1,b2⟩,c3,hN.1,hN.2.1,hN.2.2,c5⟩)
       rw [if_pos hok,hat,hbt]
       have sa1:=sW a
       have sb1:=sL b
       have e1:w64 (la L b-u.2.2)=la L b-u.2.2:=kaN (by omega) (by omega)
       have e2:w64 (la W a-u.2.2)=la W a-u.2.2:=kaN (by omega) (by omega)
       have e3:w64 (t+u.2.2)=t+u.2.2:=kaN (by omega) (by omega)
       rw [←ih (i+1) (t+u.2.2) (W.set a (la W a-u.2.2)) (L.set b (la L b-u.2.2)) (by omega) (by simp [hW]) (by simp [hL]) (sW.set (by omega) (by omega)) (sL.set (by omega) (by omega)) (by omega) (by push_cast; omega)]
       refine kgM ?_
       unfold kaD
       simp only [hlen,if_true,g0,Option.bind_some,hn,hm,kgy,c1,c2,Bool.not_true,Bool.false_eq_true,if_false]
       rw [hprev,c5]
       simp only [ha,hb,gM,hc,c3,gW,gL,Option.bind_some,Bool.not_true,Bool.false_eq_true,if_false,c4,e1,e2,e3,hw]
       rfl
     ·rw [Bool.not_eq_true] at c4
      refine bad ?_ ?_
      ·rw [Bool.eq_false_iff]; intro he
       obtain ⟨_,_,_,x1,x2,x3,_⟩:=okU_iff.1 he
       rw [hud] at x1 x2 x3
       rw [hat] at x2
       rw [hbt] at x3
       have:wi 1 (imin (la W a) (la L b)) u.2.2=true:=wi_iff.2 (by unfold imin; split <;> omega)
       rw [c4] at this; cases this
      ·unfold kaD
       simp only [hlen,if_true,g0,Option.bind_some,hn,hm,kgy,c1,c2,Bool.not_true,Bool.false_eq_true,if_false]
       simp only [ha,hb,gM,hc,c3,gW,gL,Option.bind_some,Bool.not_true,Bool.false_eq_true,if_false,c4,Bool.not_false,if_true]
   ·rw [Bool.not_eq_true] at c2
    refine bad ?_ ?_
    ·rw [Bool.eq_false_iff]; intro he
     have:=wi_iff.2 (okU_iff.1 he).2.1
     rw [hud,c2] at this; cases this
    ·unfold kaD
     simp only [hlen,if_true,g0,Option.bind_some,hn,hm,kgy,c1,c2,Bool.not_true,Bool.not_false,Bool.false_eq_true,if_false]
  ·rw [Bool.not_eq_true] at c1
   refine bad ?_ ?_
   ·rw [Bool.eq_false_iff]; intro he
    have:=wi_iff.2 (okU_iff.1 he).1
    rw [hud,c1] at this; cases this
   ·unfold kaD
    simp only [hlen,if_true,g0,Option.bind_some,hn,kgy,c1,Bool.not_false]
end
end Go.Abs
namespace Go.Abs
open Go Go.Abs.Fl
section
variable {X Y us:List It} {sw:List Swap}
structure Rl (X Y:List It) (W L G K:List Int):Prop where
 w:W.length=Y.length
 l:L.length=X.length
 g:G.length=Y.length
 k:K.length=X.length
 a:∀ a,a<Y.length→la W a=needN Y a-la G a
 b:∀ b,b<X.length→la L b=needN X b-la K b
theorem ktX (hs:sw.length≤1000) (hX:X.length≤1000) (hY:Y.length≤1000) (hu:us.length≤100) (nX:∀ b,b<X.length→0≤needN X b∧needN X b≤1000) (nY:∀ a,a<Y.length→0≤needN Y a∧needN Y a≤1000):∀ (k i:Nat) (t:Int) (W L G K:List Int),i+k=us.length→Rl X Y W L G K→Sm W→Sm L→
  itN (kaq X Y sw us) (k+1) ((i:Int),G,K)=some (match run X Y sw us k i t W L with | some _=>.inr () | none=>.inl false):=by
 intro k
 induction k with
 | zero=>
  intro i t W L G K h r sW sL
  have:i=us.length:=by omega
  subst this
  refine kcK ?_
  unfold kaq
  rw [if_neg kaH]; rfl
 | succ k ih=>
  intro i t W L G K h r sW sL
  have hi:i<us.length:=by omega
  have g0:gi us (i:Int)=some (at3 us i):=by rw [kao hi,kdp hi]
  have hn:w64 (lenI Y-1)=(Y.length:Int)-1:=by rw [kag]; exact kaN (by omega) (by omega)
  have hm:w64 (lenI X-1)=(X.length:Int)-1:=by rw [kag]; exact kaN (by omega) (by omega)
  have hlen:decide ((i:Int)<lenI us)=true:=lenI_lt.2 hi
  have hw:w64 ((i:Int)+1)=((i+1:Nat):Int):=kal (by omega)
  simp only [run]
  generalize hud:at3 us i=u at *
  have bad:okU X Y sw us i W L=false→kaq X Y sw us ((i:Int),G,K)=some (.inr (.inl false))→itN (kaq X Y sw us) (k+1+1) ((i:Int),G,K)=some (match (if okU X Y sw us i W L=true then run X Y sw us k (i+1) (t+u.2.2) (W.set u.1.toNat (la W u.1.toNat-u.2.2)) (L.set u.2.1.toNat (la L u.2.1.toNat-u.2.2)) else none) with | some _=>.inr () | none=>.inl false):=fun hb he=>by
   rw [hb,kcK he]; rfl
  by_cases c1:wi 0 ((Y.length:Int)-1) u.1=true
  ·by_cases c2:wi 0 ((X.length:Int)-1) u.2.1=true
   ·obtain ⟨a1,a2⟩:=wi_iff.1 c1
    obtain ⟨b1,b2⟩:=wi_iff.1 c2
    obtain ⟨a,ha⟩:∃ a:Nat,u.1=(a:Int):=⟨u.1.toNat,by omega⟩
    obtain ⟨b,hb⟩:∃ b:Nat,u.2.1=(b:Int):=⟨u.2.1.toNat,by omega⟩
    have han:a<Y.length:=by omega
    have hbm:b<X.length:=by omega
    have hat:u.1.toNat=a:=by omega
    have hbt:u.2.1.toNat=b:=by omega
    have ra:=r.a a han
    have rb:=r.b b hbm
    have na:=nY a han
    have nb:=nX b hbm
    have swa:=sW a
    have slb:=sL b
    by_cases c4:wi 1 1000 u.2.2=true
    ·obtain ⟨n1,n2⟩:=wi_iff.1 c4
     have gG:gi G (a:Int)=some (la G a):=gi_D 0 (by rw [r.g]; exact han)
     have gK:gi K (b:Int)=some (la K b):=gi_D 0 (by rw [r.k]; exact hbm)
     have gY:gi Y (a:Int)=some (at3 Y a):=by rw [kao han,kdp han]
     have gX:gi X (b:Int)=some (at3 X b):=by rw [kao hbm,kdp hbm]
     have e1:w64 (la G a+u.2.2)=la G a+u.2.2:=kaN (by omega) (by omega)
     have e2:w64 (la K b+u.2.2)=la K b+u.2.2:=kaN (by omega) (by omega)
     have gG2:gi (lset G (a:Int) (la G a+u.2.2)) (a:Int)=some (la G a+u.2.2):=by
      show gi (G.set a (la G a+u.2.2)) (a:Int)=_
      rw [gi_D 0 (by rw [List.length_set,r.g]; exact han),Fl.getD_set (by rw [r.g]; exact han),if_pos rfl]
     have gK2:gi (lset K (b:Int) (la K b+u.2.2)) (b:Int)=some (la K b+u.2.2):=by
      show gi (K.set b (la K b+u.2.2)) (b:Int)=_
      rw [gi_D 0 (by rw [List.length_set,r.k]; exact hbm),Fl.getD_set (by rw [r.k]; exact hbm),if_pos rfl]
     have hY2:(at3 Y a).2.2=needN Y a:=rfl
     have hX2:(at3 X b).2.2=needN X b:=rfl
     have hmay:kdb sw (at3 Y a).1 (at3 Y a).2.1 (at3 X b).1 (at3 X b).2.1=some (mayB sw (kc (at3 Y a)) (kc (at3 X b))):=kjE sw hs (kc (at3 Y a)) (kc (at3 X b))
     have hprev:(if decide (0<(i:Int))=true then (gi us (w64 ((i:Int)-1))).bind fun v10=>(if decide (u.1<v10.1)=true then some true else (gi us (w64 ((i:Int)-1))).bind fun v11=>(if (u.1==v11.1)=true then (gi us (w64 ((i:Int)-1))).bind fun v12=>some (decide (u.2.1≤v12.2.1)) else some false)) else some false)=some (decide (0<i)&&kdZ (at3 us (i-1)) u):=by
      by_cases hi0:0<i
      ·rw [if_pos (by simp; omega),show w64 ((i:Int)-1)=((i-1:Nat):Int) by rw [kaN (by omega) (by omega)]; omega,kao (show i-1<us.length by omega)]
       simp only [Option.bind_some,←kdp (show i-1<us.length by omega)]
       unfold kdZ
       by_cases q1:u.1<(at3 us (i-1)).1
       ·simp [q1,hi0]
       ·by_cases q2:(u.1==(at3 us (i-1)).1)=true
        ·simp [q1,q2,hi0]
        ·rw [Bool.not_eq_true] at q2; simp [q1,q2,hi0]
      ·rw [if_neg (by simp; omega)]; simp [hi0]
     cases c5:(decide (0<i)&&kdZ (at3 us (i-1)) u) with
     | true=>
      refine bad ?_ ?_
      ·rw [Bool.eq_false_iff]; intro he
       have:=(okU_iff.1 he).2.2.2.2.2.2
       rw [hud,c5] at this; cases this
      ·unfold kaq
       simp only [hlen,if_true,g0,Option.bind_some,hn,hm,kdd,c1,c2,c4,Bool.not_true,Bool.false_eq_true,if_false]
       rw [hprev,c5]
       simp only [Option.bind_some,if_true]
     | false=>
     cases c3:mayB sw (kc (at3 Y a)) (kc (at3 X b)) with
     | false=>
      refine bad ?_ ?_
      ·rw [Bool.eq_false_iff]; intro he
       have:=(okU_iff.1 he).2.2.1
       rw [hud,hat,hbt,c3] at this; cases this
      ·unfold kaq
       simp only [hlen,if_true,g0,Option.bind_some,hn,hm,kdd,c1,c2,c4,Bool.not_true,Bool.false_eq_true,if_false]
       rw [hprev,c5]
       simp only [ha,hb,gG,gK,gY,gX,hmay,c3,Option.bind_some,Bool.false_eq_true,if_false,Bool.not_false,if_true]
     | true=>
      by_cases c6:needN Y a<la G a+u.2.2
      ·refine bad ?_ ?_
       ·rw [Bool.eq_false_iff]; intro he
        have:=(okU_iff.1 he).2.2.2.2.1
        rw [hud,hat] at this; omega
       ·unfold kaq
        simp only [hlen,if_true,g0,Option.bind_some,hn,hm,kdd,c1,c2,c4,Bool.not_true,Bool.false_eq_true,if_false]
        rw [hprev,c5]
        simp only [ha,hb,gG,gK,gY,gX,hmay,c3,Option.bind_some,Bool.false_eq_true,if_false,Bool.not_true,e1,e2,gG2,hY2,decide_eq_true c6,if_true]
      ·by_cases c7:needN X b<la K b+u.2.2
       ·refine bad ?_ ?_
        ·rw [Bool.eq_false_iff]; intro he
         have:=(okU_iff.1 he).2.2.2.2.2.1
         rw [hud,hbt] at this; omega
        ·unfold kaq
         simp only [hlen,if_true,g0,Option.bind_some,hn,hm,kdd,c1,c2,c4,Bool.not_true,Bool.false_eq_true,if_false]
         rw [hprev,c5]
         simp only [ha,hb,gG,gK,gY,gX,hmay,c3,Option.bind_some,Bool.false_eq_true,if_false,Bool.not_true,e1,e2,gG2,gK2,hY2,hX2,decide_eq_false c6,decide_eq_true c7,if_true]
       ·have hok:okU X Y sw us i W L=true:=okU_iff.2 (by rw [hud,hat,hbt]; exact ⟨⟨a1,a2⟩,⟨b1,b2⟩,c3,n1,by omega,by omega,c5⟩)
        rw [if_pos hok,hat,hbt]
        have haW:a<W.length:=by rw [r.w]; exact han
        have hbL:b<L.length:=by rw [r.l]; exact hbm
        have haG:a<G.length:=by rw [r.g]; exact han
        have hbK:b<K.length:=by rw [r.k]; exact hbm
        rw [←ih (i+1) (t+u.2.2) (W.set a (la W a-u.2.2)) (L.set b (la L b-u.2.2)) (G.set a (la G a+u.2.2)) (K.set b (la K b+u.2.2)) (by omega) ⟨by simp [r.w],by simp [r.l],by simp [r.g],by simp [r.k],fun a' ha'=>?_,fun b' hb'=>?_⟩ (sW.set (by omega) (by omega)) (sL.set (by omega) (by omega))]
        ·refine kgM ?_
         unfold kaq
         simp only [hlen,if_true,g0,Option.bind_some,hn,hm,kdd,c1,c2,c4,Bool.not_true,Bool.false_eq_true,if_false]
         rw [hprev,c5]
         simp only [ha,hb,gG,gK,gY,gX,hmay,c3,Option.bind_some,Bool.false_eq_true,if_false,Bool.not_true,e1,e2,gG2,gK2,hY2,hX2,decide_eq_false c6,decide_eq_false c7,hw]
         rfl
        ·rw [kfb haW,kfb haG]
         split
         ·rename_i e; subst e; omega
         ·exact r.a a' ha'
        ·rw [kfb hbL,kfb hbK]
         split
         ·rename_i e; subst e; omega
         ·exact r.b b' hb'
    ·rw [Bool.not_eq_true] at c4
     refine bad ?_ ?_
     ·rw [Bool.eq_false_iff]; intro he
      obtain ⟨_,_,_,x1,x2,x3,_⟩:=okU_iff.1 he
      rw [hud] at x1 x2 x3
      rw [hat] at x2
      have:wi 1 1000 u.2.2=true:=wi_iff.2 (by omega)
      rw [c4] at this; cases this
     ·unfold kaq
      simp only [hlen,if_true,g0,Option.bind_some,hn,hm,kdd,c1,c2,c4,Bool.not_true,Bool.not_false,Bool.false_eq_true,if_false]
   ·rw [Bool.not_eq_true] at c2
    refine bad ?_ ?_
    ·rw [Bool.eq_false_iff]; intro he
     have:=wi_iff.2 (okU_iff.1 he).2.1
     rw [hud,c2] at this; cases this
    ·unfold kaq
     simp only [hlen,if_true,g0,Option.bind_some,hn,hm,kdd,c1,c2,Bool.not_true,Bool.not_false,Bool.false_eq_true,if_false]
  ·rw [Bool.not_eq_true] at c1
   refine bad ?_ ?_
   ·rw [Bool.eq_false_iff]; intro he
    have:=wi_iff.2 (okU_iff.1 he).1
    rw [hud,c1] at this; cases this
   ·unfold kaq
    simp only [hlen,if_true,g0,Option.bind_some,hn,kdd,c1,Bool.not_false]
theorem ksT:∀ (k i:Nat) (t T:Int) (W L:List Int),Sm W→Sm L→run X Y sw us k i t W L=some T→
  (∀ (d:Nat) (v:Int),i+k=us.length→0≤v→v≤1000*i→us.length≤100→v=t→itN (kcC us) (k+1) ((i:Int),v)=some T):=by
 intro k
 induction k with
 | zero=>
  intro i t T W L sW sL h d v hi h0 h1 hl hv
  simp only [run] at h
  cases h
  have:i=us.length:=by omega
  subst this hv
  refine kcK ?_
  unfold kcC
  rw [if_neg kaH]
 | succ k ih=>
  intro i t T W L sW sL h d v hi h0 h1 hl hv
  simp only [run] at h
  split at h
  ·rename_i hok
   obtain ⟨_,_,_,x1,x2,x3,_⟩:=okU_iff.1 hok
   have s1:=sW (at3 us i).1.toNat
   have s2:=sL (at3 us i).2.1.toNat
   have hlt:i<us.length:=by omega
   have:=ih (i+1) (t+(at3 us i).2.2) T _ _ (sW.set (by omega) (by omega)) (sL.set (by omega) (by omega)) h 0 (v+(at3 us i).2.2) (by omega) (by omega) (by push_cast; omega) hl (by omega)
   rw [←this]
   refine kgM ?_
   unfold kcC
   have e:w64 (v+(at3 us i).2.2)=v+(at3 us i).2.2:=kaN (by omega) (by omega)
   simp only [lenI_lt.2 hlt,if_true,kao hlt,Option.bind_some,kal (show i<9223372036854775807 by omega),←kdp hlt,e]
  ·cases h
theorem kqy (hY:Y.length≤1000):iter (kcs Y) (0,List.replicate Y.length 0)=some (Y.map fun x=>x.2.2):=by
 obtain ⟨z,hz,a,b⟩:=Fl.iter_inv (F:=kcs Y) (fun x=>∃ (i:Nat) (W:List Int),i≤Y.length∧x=((i:Int),W)∧W.length=Y.length∧∀ k,k<i→la W k=needN Y k) (fun x=>Y.length-x.1.toNat) (fun W=>W.length=Y.length∧∀ k,k<Y.length→la W k=needN Y k)
  (fun x hx=>by
   obtain ⟨i,W,hi,rfl,a,b⟩:=hx
   by_cases hlt:i<Y.length
   ·have g:gi W (i:Int)=some (la W i):=gi_D 0 (by omega)
    refine .inr ⟨((i+1:Nat),W.set i Y[i].2.2),?_,⟨i+1,_,by omega,rfl,by simp [a],fun k hk=>?_⟩,by simp only [Int.toNat_natCast]; omega⟩
    ·unfold kcs
     simp only [lenI_lt.2 hlt,if_true,kao hlt,g,Option.bind_some,kal (show i<9223372036854775807 by omega)]
     rfl
    ·rw [kfb (by omega)]
     by_cases e:k=i
     ·subst e; rw [if_pos rfl,kgR hlt]
     ·rw [if_neg e]; exact b k (by omega)
   ·have:i=Y.length:=by omega
    subst this
    refine .inl ⟨W,?_,a,b⟩
    unfold kcs
    rw [if_neg kaH])
  (0,List.replicate Y.length 0) ⟨0,_,by omega,rfl,by simp,fun k h=>by omega⟩ (by simp only; omega)
 rw [hz]
 congr 1
 apply List.ext_getElem (by simp [a])
 intro k h1 h2
 have:=b k (by omega)
 unfold la at this
 rw [List.getD_eq_getElem?_getD,List.getElem?_eq_getElem h1,kgR (by omega)] at this
 simpa using this
end
theorem kgv {l:List It} (h:∀ k,k<l.length→0≤needN l k∧needN l k≤1000):Sm (l.map fun x=>x.2.2):=fun k=>by
 by_cases hk:k<l.length
 ·rw [kiX hk]; exact h k hk
 ·unfold la
  rw [List.getD_eq_getElem?_getD,List.getElem?_eq_none (by simp; omega)]; simp
theorem krH (n k:Nat):la (List.replicate n 0) k=0:=by
 unfold la
 rw [List.getD_eq_getElem?_getD,List.getElem?_replicate]
 split <;> rfl
theorem kts {X Y us:List It} {sw:List Swap} (hX:X.length≤1000) (hY:Y.length≤1000) (hs:sw.length≤1000) (hu:us.length≤100):∃ t e,keD X Y sw us=some (t,e)∧kdy X Y sw us=some (t,e):=by
 unfold keD kdy
 rw [knU,g0_eq hX hY hs]
 by_cases h:askE X Y sw=0
 ·have hst:stk X=true∧stk Y=true:=by
   by_cases c:stk X=true∧stk Y=true
   ·exact c
   ·unfold askE at h; rw [if_neg c] at h; omega
  obtain ⟨x1,x2⟩:=stk_N hst.1
  obtain ⟨y1,y2⟩:=stk_N hst.2
  obtain ⟨M,U,p1,p2,p3,p4⟩:=g1_ok hX hY hs h
  have hgm:gmk (lenI Y) (0:Int)=some (List.replicate Y.length 0):=by
   unfold gmk
   rw [kag,if_pos (by omega),Int.toNat_natCast]
  have hgx:gmk (lenI X) (0:Int)=some (List.replicate X.length 0):=by
   unfold gmk
   rw [kag,if_pos (by omega),Int.toNat_natCast]
  have nX:∀ k,k<X.length→0≤needN X k∧needN X k≤1000:=fun k hk=>by have:=x2 k hk; omega
  have nY:∀ k,k<Y.length→0≤needN Y k∧needN Y k≤1000:=fun k hk=>by have:=y2 k hk; omega
  have P:=kfq (ktP (U:=U) (L0:=X.map fun x=>x.2.2) p2 hX hY hu us.length 0 0 (Y.map fun x=>x.2.2) (X.map fun x=>x.2.2) (by omega) (by simp) (by simp) (kgv nY) (kgv nX) (by omega) (by omega)) (by omega)
  have R:=kfq (ktX hs hX hY hu nX nY us.length 0 0 (Y.map fun x=>x.2.2) (X.map fun x=>x.2.2) (List.replicate Y.length 0) (List.replicate X.length 0) (by omega) ⟨by simp,by simp,by simp,by simp,fun a ha=>by rw [kiX ha,krH]; omega,fun b hb=>by rw [kiX hb,krH]; omega⟩ (kgv nY) (kgv nX)) (by omega)
  simp only [Int.natCast_zero] at P R
  have hF:kez X Y sw us=some (match run X Y sw us us.length 0 0 (Y.map fun x=>x.2.2) (X.map fun x=>x.2.2) with | some _=>true | none=>false):=by
   unfold kez
   rw [hgm,hgx]
   simp only [Option.bind_some]
   rw [kdQ (kbl _ rfl _)]
   simp only [Option.bind_some,R]
   cases run X Y sw us us.length 0 0 (Y.map fun x=>x.2.2) (X.map fun x=>x.2.2) <;> rfl
  have hL:(if (askE X Y sw≠0) then some (askE X Y sw) else (none:Option Int))=none:=if_neg (by simp [h])
  cases hr:run X Y sw us us.length 0 0 (Y.map fun x=>x.2.2) (X.map fun x=>x.2.2) with
  | none=>
   refine ⟨0,8,?_,?_⟩
   ·rw [hL]
    simp only [Option.bind_none,elsO,p1,Option.bind_some,hgm]
    rw [if_neg (by simp),kqy hY]
    simp only [Option.bind_some,P,hr]
   ·simp only [Option.bind_some,h]
    rw [if_neg (by simp),hF,hr]
    simp
  | some T=>
   have hT:=kfq (ksT us.length 0 0 T _ _ (kgv nY) (kgv nX) hr 0 0 (by omega) (by omega) (by omega) hu rfl) (by omega)
   simp only [Int.natCast_zero] at hT
   refine ⟨T,0,?_,?_⟩
   ·rw [hL]
    simp only [Option.bind_none,elsO,p1,Option.bind_some,hgm]
    rw [if_neg (by simp),kqy hY]
    simp only [Option.bind_some,P,hr]
   ·simp only [Option.bind_some,h]
    rw [if_neg (by simp),hF,hr]
    simp only [Option.bind_some,Bool.not_true,Bool.false_eq_true,if_false,hT]
 ·refine ⟨0,askE X Y sw,?_,?_⟩
  ·rw [if_pos h]
   simp only [Option.bind_some,elsO]
   rw [if_pos (by simp [h])]
  ·simp only [Option.bind_some]
   rw [if_pos (by simp [h])]
theorem kqd (l:List Int) (hl:l.length≤1000):kdV l l=some true:=by
 unfold kdV
 rw [if_neg (by simp),kfO (F:=kcR l l) false l (by omega) (fun _ _=>false) (fun i hi=>by
  unfold kcR
  rw [if_pos (by rw [kag]; simpa using hi),kao hi,kal (by omega)]
  simp) (by unfold kcR; rw [if_neg (by simp [kag])])]
 simp
theorem law08_BoxFills_eq (a b:List It) (sw:List Swap) (us:List It):kfx a b sw us=some true:=by
 obtain ⟨c,hc,hl⟩:=ktj a b
 unfold kfx
 rw [hc]
 cases c with
 | true=>rfl
 | false=>
  obtain ⟨ha,hb⟩:=hl rfl
  simp only [Option.bind_some,Bool.false_eq_true,if_false]
  by_cases h1:decide ((40:Int)<lenI sw)=true
  ·rw [if_pos h1]
  ·rw [if_neg h1]
   by_cases h2:decide ((100:Int)<lenI us)=true
   ·rw [if_pos h2]
   ·rw [if_neg h2]
    rw [decide_eq_true_eq,kag] at h1 h2
    obtain ⟨t,l,e,f0,f1,f2⟩:=kta (X:=a) (Y:=b) (sw:=sw) (by omega) (by omega) (by omega)
    obtain ⟨t',e',u1,u2⟩:=kts (X:=a) (Y:=b) (sw:=sw) (us:=us) (by omega) (by omega) (by omega) (by omega)
    rw [f1,f2,u1,u2,kge sw (by omega),kfm]
    simp [kqd l f0]
end Go.Abs
