/- The functions and the law, part 8. -/
import Derived.Test.YtadfdnfenimkpaaProg
import Derived.Test.YtadfdnfenimkpaaZ3
import Derived.Test.YtadfdnfenimkpaaZ7
set_option linter.constructorNameAsVariable false
set_option linter.unusedVariables false
set_option linter.unusedSimpArgs false
set_option linter.unusedSectionVars false
namespace Go.Abs
open Go
abbrev kfB:=(Int×(List Int))
@[reducible] def kqw:Ty:=(.pr (.sl (.i .i64)) (.pr (.i .i64) (.sl (.pr (.i .i64) (.pr (.i .u8) (.i .i64))))))
abbrev kbb:=((List Int)×Int×(List (Int×Int×Int)))
def kcc (x0:Int) (x1:Int) (x2:Int):Option Bool:=
 (if (decide (x1<=x0))=true then (some (decide (x0<=x2))) else (some false))
def kdf (x0:(List (Int×Int×Int))) (v0:(Int×Int)):Option ((Int×Int)⊕Int):=
 (if (decide (v0.1<(lenI x0)))=true then ((gi x0 v0.1).bind fun v1=>((kcc v1.2.2 0 1000).bind fun v2=>(if v2=true then ((gi x0 v0.1).bind fun v3=>(some (.inl ((w64 (v0.1+1)),(w64 (v0.2+v3.2.2)))))) else (some (.inl ((w64 (v0.1+1)),v0.2)))))) else (some (.inr v0.2)))
def kcR (x0:(List (Int×Int×Int))):Option Bool:=
 (if (decide (40<(lenI x0)))=true then (some true) else ((iter (kdf x0) (0,0)).bind fun v4=>(some (decide (8000<v4)))))
def keg (x0:(List (List (Int×Int×Int)))) (v0:Int):Option (Int⊕(Bool⊕Unit)):=
 (if (decide (v0<(lenI x0)))=true then ((gi x0 v0).bind fun v1=>((kcR v1).bind fun v2=>(if v2=true then (some (.inr (.inl true))) else (some (.inl (w64 (v0+1))))))) else (some (.inr (.inr ()))))
def keI (x0:(List (List (Int×Int×Int)))):Option Bool:=
 ((iter (keg x0) 0).bind fun v3=>(match v3 with | .inl v4=>(some v4) | .inr v5=>(some false)))
def keX (x0:Int) (x1:Int) (x2:Int):Option Bool:=
 (if (decide (x0<=x2))=true then (some (decide (x2<=x1))) else (some false))
def keL (x0:(Int×Int×Int)):Option Bool:=
 ((keX 1 1000 x0.2.2).bind fun v0=>(some (!v0)))
def kdL (x0:(Int×Int)):Option Bool:=
 ((keX 0 15 x0.1).bind fun v0=>(if v0=true then (some (decide (x0.2<=15))) else (some false)))
def kef (x0:Int):Option Bool:=
 (some (x0 != x0))
def kbF (x0:Int) (x1:Int):Option Int:=
 ((kef x0).bind fun v0=>((kef x1).bind fun v1=>(if v0=true then (if v1=true then (some 0) else (some (-1))) else (if v1=true then (some 1) else (if (decide (x0<x1))=true then (some (-1)) else (if (decide (x1<x0))=true then (some 1) else (some 0)))))))
def kdl (x0:Int):Option Bool:=
 (some (x0 != x0))
def kbM (x0:Int) (x1:Int):Option Int:=
 ((kdl x0).bind fun v0=>((kdl x1).bind fun v1=>(if v0=true then (if v1=true then (some 0) else (some (-1))) else (if v1=true then (some 1) else (if (decide (x0<x1))=true then (some (-1)) else (if (decide (x1<x0))=true then (some 1) else (some 0)))))))
def keh (x0:(List Int)) (v0:Int):Option (Int⊕(Int⊕Unit)):=
 (if (decide (v0<(lenI x0)))=true then ((gi x0 v0).bind fun v1=>(if (v1 != 0)=true then (some (.inr (.inl v1))) else (some (.inl (w64 (v0+1)))))) else (some (.inr (.inr ()))))
def keN (x0:(List Int)):Option Int:=
 ((iter (keh x0) 0).bind fun v2=>(match v2 with | .inl v3=>(some v3) | .inr v4=>(some 0)))
def kfE (x0:(Int×Int)) (x1:(Int×Int)):Option Int:=
 ((kbF x0.1 x1.1).bind fun v0=>((kbM x0.2 x1.2).bind fun v1=>((keN [v0,v1]).bind fun v2=>(some v2))))
def kbw (x0:(List (Int×Int×Int))) (x2:((Int×Int×Int)->Option (Int×Int))) (v0:Int):Option (Int⊕(Bool⊕Unit)):=
 (if (decide (v0<(lenI x0)))=true then ((gi x0 v0).bind fun v1=>((x2 v1).bind fun v2=>((kdL v2).bind fun v3=>(if (!v3)=true then (some (.inr (.inl false))) else (if (decide (0<v0))=true then ((gi x0 (w64 (v0-1))).bind fun v4=>((x2 v4).bind fun v5=>((x2 v1).bind fun v6=>((kfE v5 v6).bind fun v7=>(if (decide (0<=v7))=true then (some (.inr (.inl false))) else (some (.inl (w64 (v0+1))))))))) else (some (.inl (w64 (v0+1))))))))) else (some (.inr (.inr ()))))
def kbO (x0:(List (Int×Int×Int))) (x1:Int) (x2:((Int×Int×Int)->Option (Int×Int))):Option Bool:=
 ((iter (kbw x0 x2) 0).bind fun v8=>(match v8 with | .inl v9=>(some v9) | .inr v10=>(some (decide ((lenI x0)<=x1)))))
def kcX (x0:(Int×Int×Int)):Option (Int×Int):=
 (some (x0.1,x0.2.1))
def kaA (x0:(List (Int×Int×Int))) (x1:((Int×Int×Int)->Option Bool)) (v0:Int):Option (Int⊕(Int⊕Unit)):=
 (if (decide (v0<(lenI x0)))=true then ((gi x0 v0).bind fun v1=>((x1 v1).bind fun v2=>(if v2=true then (some (.inr (.inl v0))) else (some (.inl (w64 (v0+1))))))) else (some (.inr (.inr ()))))
def kaQ (x0:(List (Int×Int×Int))) (x1:((Int×Int×Int)->Option Bool)):Option Int:=
 ((iter (kaA x0 x1) 0).bind fun v3=>(match v3 with | .inl v4=>(some v4) | .inr v5=>(some (-1))))
def kas (x0:(List (Int×Int×Int))) (x1:((Int×Int×Int)->Option Bool)):Option Bool:=
 ((kaQ x0 x1).bind fun v0=>(some (decide (0<=v0))))
def kgQ (x0:(List (Int×Int×Int))):Option Int:=
 ((kbO x0 30 (fun (u0:(Int×Int×Int))=>((kcX u0).bind fun u1=>(some u1)))).bind fun v0=>(if (!v0)=true then (some 8) else ((kas x0 (fun (u0:(Int×Int×Int))=>((keL u0).bind fun u1=>(some u1)))).bind fun v1=>(if v1=true then (some 8) else (some 0)))))
def kdK (x0:(List (List (Int×Int×Int)))) (v0:Int):Option (Int⊕(Int⊕Unit)):=
 (if (decide (v0<(lenI x0)))=true then ((gi x0 v0).bind fun v1=>((kgQ v1).bind fun v2=>(if (v2 != 0)=true then (some (.inr (.inl v2))) else (some (.inl (w64 (v0+1))))))) else (some (.inr (.inr ()))))
def kcA (x0:(List (List (Int×Int×Int)))):Option Int:=
 ((iter (kdK x0) 0).bind fun v3=>(match v3 with | .inl v4=>(some v4) | .inr v5=>(some 0)))
def kdJ (x0:Int):Option Bool:=
 ((keX 0 1000 x0).bind fun v0=>(some (!v0)))
def kaO (x0:(List Int)) (x1:(Int->Option Bool)) (v0:Int):Option (Int⊕(Int⊕Unit)):=
 (if (decide (v0<(lenI x0)))=true then ((gi x0 v0).bind fun v1=>((x1 v1).bind fun v2=>(if v2=true then (some (.inr (.inl v0))) else (some (.inl (w64 (v0+1))))))) else (some (.inr (.inr ()))))
def kbg (x0:(List Int)) (x1:(Int->Option Bool)):Option Int:=
 ((iter (kaO x0 x1) 0).bind fun v3=>(match v3 with | .inl v4=>(some v4) | .inr v5=>(some (-1))))
def kaP (x0:(List Int)) (x1:(Int->Option Bool)):Option Bool:=
 ((kbg x0 x1).bind fun v0=>(some (decide (0<=v0))))
def kdW (x0:(List (List (Int×Int×Int)))) (x1:(List Int)):Option Int:=
 ((kcA x0).bind fun v0=>(if (v0 != 0)=true then (some v0) else (if (decide (8<(lenI x0)))=true then (some 4) else (if ((lenI x1) != (lenI x0))=true then (some 2) else ((kaP x1 (fun (u0:Int)=>((kdJ u0).bind fun u1=>(some u1)))).bind fun v1=>(if v1=true then (some 2) else (some 0)))))))
def kbR (x0:(List (Int×Int×Int))) (x1:(List (Int×Int×Int))):Option Int:=
 (if ((lenI x0)==0)=true then (some 1) else (if ((lenI x1)==0)=true then (some (-1)) else ((gi x0 0).bind fun v0=>((kcX v0).bind fun v1=>((gi x1 0).bind fun v2=>((kcX v2).bind fun v3=>((kfE v1 v3).bind fun v4=>(some v4))))))))
def kbf (x2:((Int×Int)->Option Int)) (v0:((List (Int×Int×Int))×(List (Int×Int×Int))×(List (Int×Int×Int)))):Option (((List (Int×Int×Int))×(List (Int×Int×Int))×(List (Int×Int×Int)))⊕(List (Int×Int×Int))):=
 ((if (decide (0<(lenI v0.1)))=true then (some true) else (some (decide (0<(lenI v0.2.1))))).bind fun v1=>(if v1=true then ((kbR v0.1 v0.2.1).bind fun v2=>((if (decide (v2<=0))=true then ((gi v0.1 0).bind fun v3=>((gi v0.1 0).bind fun v4=>((gsl v0.1 1 (lenI v0.1)).bind fun v5=>((if (v2==0)=true then ((gi v0.2.1 0).bind fun v6=>((gsl v0.2.1 1 (lenI v0.2.1)).bind fun v7=>(some (v6.2.2,v7)))) else (some (0,v0.2.1))).bind fun v8=>(some (v4.2.2,v8.1,v5,v8.2,v3)))))) else ((gi v0.2.1 0).bind fun v9=>((gi v0.2.1 0).bind fun v10=>((gsl v0.2.1 1 (lenI v0.2.1)).bind fun v11=>(some (0,v10.2.2,v0.1,v11,v9)))))).bind fun v12=>((x2 (v12.1,v12.2.1)).bind fun v13=>(if (v13 != 0)=true then ((gapp v0.2.2 [(v12.2.2.2.2.1,v12.2.2.2.2.2.1,v13)]).bind fun v14=>(some (.inl (v12.2.2.1,v12.2.2.2.1,v14)))) else (some (.inl (v12.2.2.1,v12.2.2.2.1,v0.2.2))))))) else (some (.inr v0.2.2))))
def kfV (x0:(List (Int×Int×Int))) (x1:(List (Int×Int×Int))) (x2:((Int×Int)->Option Int)):Option (List (Int×Int×Int)):=
 ((iter (kbf x2) (x0,x1,[])).bind fun v15=>(some v15))
def kfu (x0:Int) (x1:Int):Option Int:=
 (some (w64 (x0-x1)))
def khd (x0:(Int×Int×Int)):Option Bool:=
 (some (decide (x0.2.2<0)))
def kdC (x0:(List (Int×Int×Int))) (x1:(List (Int×Int×Int))):Option ((List (Int×Int×Int))×Int):=
 ((kcA [x0,x1]).bind fun v0=>(if (v0 != 0)=true then (some ([],v0)) else ((kfV x0 x1 (fun (u0:(Int×Int))=>((kfu u0.1 u0.2).bind fun u1=>(some u1)))).bind fun v1=>((kas v1 (fun (u0:(Int×Int×Int))=>((khd u0).bind fun u1=>(some u1)))).bind fun v2=>(if v2=true then (some ([],6)) else (some (v1,0)))))))
def kam (x0:(List (Int×Int×Int))):Option (List (Int×Int×Int)):=
 (if (isE x0)=true then (bthO (.sl (.pr (.i .i64) (.pr (.i .u8) (.i .i64)))) (some []) ((gapp [] x0).bind fun v0=>(some v0))) else ((gapp [] x0).bind fun v1=>(some v1)))
def kaF:Nat->List (List (Int×Int×Int))->Int->Int->List (Int×Int×Int)->Option (List (Int×List (Int×Int×Int)))
 | 0,_,_,_,_=>none
 | d+1,ps,i,s,l=>
  if i=lenI ps then some [(s,l)] else
   (gi ps i).bind fun p=>(kdC l p).bind fun r=>
    if r.2=0 then (gshl .i64 1 i).bind fun b=>(kaF d ps (w64 (i+1)) (bitsI .or .i64 s b) r.1).bind fun x=>(kaF d ps (w64 (i+1)) s l).bind fun y=>some (x++y)
    else kaF d ps (w64 (i+1)) s l
def kaZ (_:Option (List (Int×List (Int×Int×Int)))) (x0:List (List (Int×Int×Int))) (x1:List (Int×Int×Int)):Option (List (Int×List (Int×Int×Int))):=
 (kam x1).bind fun l=>kaF (x0.length+1) x0 0 0 l
def kcH (x0:(List (Int×Int×Int))) (x1:(List (List (Int×Int×Int)))):Option ((List (List (Int×Int×Int)))×(List (Int×Int×Int))):=
 (some (x1,x0))
def kbW (x0:Int) (x1:(List Int)) (v0:(Int×kfB)):Option ((Int×kfB)⊕kfB):=
 (if (decide (v0.1<(lenI x1)))=true then ((gi x1 v0.1).bind fun v1=>((gshr .i64 x0 v0.1).bind fun v2=>(if ((bitsI .and .i64 v2 1)==1)=true then ((gapp v0.2.2 [v0.1]).bind fun v3=>(some (.inl ((w64 (v0.1+1)),(w64 (v0.2.1+v1)),v3)))) else (some (.inl ((w64 (v0.1+1)),v0.2)))))) else (some (.inr v0.2)))
def keb (x0:Int) (x1:(List Int)):Option ((List Int)×Int):=
 ((iter (kbW x0 x1) (0,0,[])).bind fun v4=>(some (v4.2,v4.1)))
def kaJ (x0:(List Int)) (x1:(List Int)) (v0:Int):Option (Int⊕(Int⊕Unit)):=
 (if (decide (v0<(lenI x0)))=true then ((gi x0 v0).bind fun v1=>(if (decide ((lenI x1)<=v0))=true then (some (.inr (.inl 1))) else ((gi x1 v0).bind fun v2=>((kbF v1 v2).bind fun v3=>(if (v3 != 0)=true then (some (.inr (.inl v3))) else (some (.inl (w64 (v0+1))))))))) else (some (.inr (.inr ()))))
def kbt (x0:(List Int)) (x1:(List Int)):Option Int:=
 ((iter (kaJ x0 x1) 0).bind fun v4=>(match v4 with | .inl v5=>(some v5) | .inr v6=>(if (decide ((lenI x0)<(lenI x1)))=true then (some (-1)) else (some 0))))
def kch (x2:(List Int)) (v4:(List (Int×(List (Int×Int×Int))))) (v5:(Int×kbb)):Option ((Int×kbb)⊕((kbb×Int)⊕kbb)):=
 (if (decide (v5.1<(lenI v4)))=true then ((gi v4 v5.1).bind fun v6=>((keb v6.1 x2).bind fun v7=>(if (decide (v5.2.2.1<v7.2))=true then ((kam v6.2).bind fun v8=>(some (.inl ((v5.1+1),v7.1,v7.2,v8)))) else (if (v7.2==v5.2.2.1)=true then ((kbF (lenI v7.1) (lenI v5.2.1)).bind fun v9=>((kbt v7.1 v5.2.1).bind fun v10=>((keN [v9,v10]).bind fun v11=>(if (decide (v11<0))=true then ((kam v6.2).bind fun v12=>(some (.inl ((v5.1+1),v7.1,v7.2,v12)))) else (some (.inl ((v5.1+1),v5.2))))))) else (some (.inl ((v5.1+1),v5.2))))))) else (some (.inr (.inr v5.2))))
def keE (x0:(List (Int×Int×Int))) (x1:(List (List (Int×Int×Int)))) (x2:(List Int)):Option (kbb×Int):=
 ((kcA [x0]).bind fun v0=>((if (v0==0)=true then ((kdW x1 x2).bind fun v1=>(some v1)) else (some v0)).bind fun v2=>(if (v2 != 0)=true then (some (([],0,[]),v2)) else ((kcH x0 x1).bind fun v3=>((runI fun o=>(kaZ o v3.1 v3.2)).bind fun v4=>((iter (kch x2 v4) (0,[],(-1),[])).bind fun v13=>(match v13 with | .inl v14=>(some v14) | .inr v15=>(some (v15,0)))))))))
def keQ (x0:Int) (x1:Int):Option Bool:=
 ((kcc x0 0 15).bind fun v0=>(if v0=true then (some (decide (x1<=15))) else (some false)))
def kdw (x0:Int) (x1:Int) (x2:Int) (x3:Int):Option Bool:=
 (if (decide (x0<x2))=true then (some true) else (if (x0==x2)=true then (some (decide (x1<x3))) else (some false)))
def kdE (x0:(List (Int×Int×Int))) (v0:Int):Option (Int⊕(Bool⊕Unit)):=
 (if (decide (v0<(lenI x0)))=true then ((gi x0 v0).bind fun v1=>((keQ v1.1 v1.2.1).bind fun v2=>(if (!v2)=true then (some (.inr (.inl false))) else ((kcc v1.2.2 1 1000).bind fun v3=>(if (!v3)=true then (some (.inr (.inl false))) else (if (decide (0<v0))=true then ((gi x0 (w64 (v0-1))).bind fun v4=>((gi x0 (w64 (v0-1))).bind fun v5=>((kdw v4.1 v5.2.1 v1.1 v1.2.1).bind fun v6=>(if (!v6)=true then (some (.inr (.inl false))) else (some (.inl (w64 (v0+1)))))))) else (some (.inl (w64 (v0+1)))))))))) else (some (.inr (.inr ()))))
def kcz (x0:(List (Int×Int×Int))):Option Bool:=
 (if (decide (30<(lenI x0)))=true then (some false) else ((iter (kdE x0) 0).bind fun v7=>(match v7 with | .inl v8=>(some v8) | .inr v9=>(some true))))
def kcS (x0:(List (List (Int×Int×Int)))) (v0:Int):Option (Int⊕(Int⊕Unit)):=
 (if (decide (v0<(lenI x0)))=true then ((gi x0 v0).bind fun v1=>((kcz v1).bind fun v2=>(if (!v2)=true then (some (.inr (.inl 8))) else (some (.inl (w64 (v0+1))))))) else (some (.inr (.inr ()))))
def kcT (x1:(List Int)) (v6:Int):Option (Int⊕(Int⊕Unit)):=
 (if (decide (v6<(lenI x1)))=true then ((gi x1 v6).bind fun v7=>((kcc v7 0 1000).bind fun v8=>(if (!v8)=true then (some (.inr (.inl 2))) else (some (.inl (w64 (v6+1))))))) else (some (.inr (.inr ()))))
def kcZ (x0:(List (List (Int×Int×Int)))) (x1:(List Int)):Option Int:=
 ((iter (kcS x0) 0).bind fun v3=>(match v3 with | .inl v4=>(some v4) | .inr v5=>(if (decide (8<(lenI x0)))=true then (some 4) else (if ((lenI x1) != (lenI x0))=true then (some 2) else ((iter (kcT x1) 0).bind fun v9=>(match v9 with | .inl v10=>(some v10) | .inr v11=>(some 0)))))))
def keK (x0:(List (Int×Int×Int))) (x1:Int) (x2:Int) (v0:Int):Option (Int⊕(Int⊕Unit)):=
 (if (decide (v0<(lenI x0)))=true then (((gi x0 v0).bind fun v1=>(if (v1.1==x1)=true then ((gi x0 v0).bind fun v2=>(some (v2.2.1==x2))) else (some false))).bind fun v3=>(if v3=true then ((gi x0 v0).bind fun v4=>(some (.inr (.inl v4.2.2)))) else (some (.inl (w64 (v0+1)))))) else (some (.inr (.inr ()))))
def kfF (x0:(List (Int×Int×Int))) (x1:Int) (x2:Int):Option Int:=
 ((iter (keK x0 x1 x2) 0).bind fun v5=>(match v5 with | .inl v6=>(some v6) | .inr v7=>(some 0)))
def kbu (x0:(List (List (Int×Int×Int)))) (x1:(List Int)) (x2:Int) (x3:Int) (x4:Int) (v0:(Int×Int)):Option ((Int×Int)⊕Int):=
 (if (decide (v0.1<(lenI x0)))=true then ((gi x1 v0.1).bind fun v1=>(if (v1==x2)=true then ((gi x0 v0.1).bind fun v2=>((kfF v2 x3 x4).bind fun v3=>(some (.inl ((w64 (v0.1+1)),(w64 (v0.2+v3))))))) else (some (.inl ((w64 (v0.1+1)),v0.2))))) else (some (.inr v0.2)))
def kcL (x0:(List (List (Int×Int×Int)))) (x1:(List Int)) (x2:Int) (x3:Int) (x4:Int):Option Int:=
 ((iter (kbu x0 x1 x2 x3 x4) (0,0)).bind fun v4=>(some v4))
def kcj (x0:(List (Int×Int×Int))) (x1:(List (List (Int×Int×Int)))) (x2:(List Int)) (x3:Int) (v0:Int) (v1:Int):Option (Int⊕(Bool⊕Unit)):=
 ((gi x1 v0).bind fun v2=>(if (decide (v1<(lenI v2)))=true then ((gi x1 v0).bind fun v3=>((gi v3 v1).bind fun v4=>((gi x2 v0).bind fun v5=>(if (v5==x3)=true then ((kcL x1 x2 x3 v4.1 v4.2.1).bind fun v6=>((kfF x0 v4.1 v4.2.1).bind fun v7=>(if (decide (v7<v6))=true then (some (.inr (.inl false))) else (some (.inl (w64 (v1+1))))))) else (some (.inl (w64 (v1+1)))))))) else (some (.inr (.inr ())))))
def kbH (x0:(List (Int×Int×Int))) (x1:(List (List (Int×Int×Int)))) (x2:(List Int)) (x3:Int) (v0:Int):Option (Int⊕(Bool⊕Unit)):=
 (if (decide (v0<(lenI x1)))=true then ((iter (kcj x0 x1 x2 x3 v0) 0).bind fun v8=>(match v8 with | .inl v9=>(some (.inr (.inl v9))) | .inr v10=>(some (.inl (w64 (v0+1)))))) else (some (.inr (.inr ()))))
def kdH (x0:(List (Int×Int×Int))) (x1:(List (List (Int×Int×Int)))) (x2:(List Int)) (x3:Int):Option Bool:=
 ((iter (kbH x0 x1 x2 x3) 0).bind fun v11=>(match v11 with | .inl v12=>(some v12) | .inr v13=>(some true)))
def kcI (x0:(List Int)) (x1:(List Int)) (v0:Int):Option (Int⊕(Bool⊕Unit)):=
 (if (decide (v0<(lenI x0)))=true then ((gi x0 v0).bind fun v1=>((gi x1 v0).bind fun v2=>(if (v1 != v2)=true then ((gi x0 v0).bind fun v3=>((gi x1 v0).bind fun v4=>(some (.inr (.inl (decide (v3<v4))))))) else (some (.inl (w64 (v0+1))))))) else (some (.inr (.inr ()))))
def kfn (x0:(List Int)) (x1:(List Int)):Option Bool:=
 (if ((lenI x0) != (lenI x1))=true then (some (decide ((lenI x0)<(lenI x1)))) else ((iter (kcI x0 x1) 0).bind fun v5=>(match v5 with | .inl v6=>(some v6) | .inr v7=>(some false))))
def kci (x0:(List (Int×Int×Int))) (x1:(List (List (Int×Int×Int)))) (x2:(List Int)) (x3:Int) (v0:(Int×(List (Int×Int×Int)))):Option ((Int×(List (Int×Int×Int)))⊕(List (Int×Int×Int))):=
 (if (decide (v0.1<(lenI x0)))=true then ((gi x0 v0.1).bind fun v1=>((kcL x1 x2 x3 v1.1 v1.2.1).bind fun v2=>(if (decide (0<(w64 (v1.2.2-v2))))=true then ((gapp v0.2 [(v1.1,v1.2.1,(w64 (v1.2.2-v2)))]).bind fun v3=>(some (.inl ((w64 (v0.1+1)),v3)))) else (some (.inl ((w64 (v0.1+1)),v0.2)))))) else (some (.inr v0.2)))
def kfX (x0:(List (Int×Int×Int))) (x1:(List (List (Int×Int×Int)))) (x2:(List Int)) (x3:Int):Option (List (Int×Int×Int)):=
 ((iter (kci x0 x1 x2 x3) (0,[])).bind fun v4=>(some v4))
def kbr (x1:(List (List (Int×Int×Int)))) (x2:(List Int)) (v2:(Int×kbb)) (v5:(Int×(List Int)×kfB)):Option ((Int×(List Int)×kfB)⊕((List Int)×kfB)):=
 (if (decide (v5.1<(lenI x1)))=true then ((gshr .i64 v2.1 v5.1).bind fun v6=>((grem v6 2).bind fun v7=>(if (v7==1)=true then ((gi v5.2.1 v5.1).bind fun v8=>((gapp v5.2.2.2 [v5.1]).bind fun v9=>((gi x2 v5.1).bind fun v10=>(some (.inl ((w64 (v5.1+1)),(lset v5.2.1 v5.1 1),(w64 (v5.2.2.1+v10)),v9)))))) else (some (.inl ((w64 (v5.1+1)),v5.2)))))) else (some (.inr v5.2)))
def kbG (x0:(List (Int×Int×Int))) (x1:(List (List (Int×Int×Int)))) (x2:(List Int)) (v2:(Int×kbb)):Option ((Int×kbb)⊕kbb):=
 ((gshl .i64 1 (lenI x1)).bind fun v3=>(if (decide (v2.1<v3))=true then ((gmk (lenI x1) 0).bind fun v4=>((iter (kbr x1 x2 v2) (0,v4,0,[])).bind fun v11=>(((kdH x0 x1 v11.1 1).bind fun v12=>(if v12=true then (if (decide (v2.2.2.1<v11.2.1))=true then (some true) else (if (v11.2.1==v2.2.2.1)=true then ((kfn v11.2.2 v2.2.1).bind fun v13=>(some v13)) else (some false))) else (some false))).bind fun v14=>(if v14=true then ((kfX x0 x1 v11.1 1).bind fun v15=>(some (.inl ((w64 (v2.1+1)),v11.2.2,v11.2.1,v15)))) else (some (.inl ((w64 (v2.1+1)),v2.2))))))) else (some (.inr v2.2))))
def kds (x0:(List (Int×Int×Int))) (x1:(List (List (Int×Int×Int)))) (x2:(List Int)):Option (kbb×Int):=
 ((kcz x0).bind fun v0=>(if (!v0)=true then (some (([],0,[]),8)) else ((kcZ x1 x2).bind fun v1=>(if (v1 != 0)=true then (some (([],0,[]),v1)) else ((iter (kbG x0 x1 x2) (0,[],(-1),[])).bind fun v16=>(some (v16,0)))))))
def kaD (x0:(List Int)) (x1:(List Int)) (v0:Int):Option (Int⊕(Int⊕Unit)):=
 (if (decide (v0<(lenI x0)))=true then ((gi x0 v0).bind fun v1=>(if (decide ((lenI x1)<=v0))=true then (some (.inr (.inl 1))) else ((gi x1 v0).bind fun v2=>((kbM v1 v2).bind fun v3=>(if (v3 != 0)=true then (some (.inr (.inl v3))) else (some (.inl (w64 (v0+1))))))))) else (some (.inr (.inr ()))))
def kaU (x0:(List Int)) (x1:(List Int)):Option Int:=
 ((iter (kaD x0 x1) 0).bind fun v4=>(match v4 with | .inl v5=>(some v5) | .inr v6=>(if (decide ((lenI x0)<(lenI x1)))=true then (some (-1)) else (some 0))))
def kdo (v4:(List (Int×(List (Int×Int×Int))))) (v5:kfB):Option (kfB⊕(((List Int)×Int×Int)⊕(List Int))):=
 (if (decide (v5.1<(lenI v4)))=true then ((gi v4 v5.1).bind fun v6=>((gapp v5.2 [v6.1]).bind fun v7=>(some (.inl ((v5.1+1),v7))))) else (some (.inr (.inr v5.2))))
def kcd (v14:(Int×(List (Int×Int×Int)))) (v17:Int) (v18:(List Int)) (v19:(Int×(List Int))):Option ((Int×(List Int))⊕(List Int)):=
 (if (decide (v19.1<(lenI v18)))=true then ((gshr .i64 v14.1 v19.1).bind fun v20=>((gshr .i64 v17 v19.1).bind fun v21=>((gi v19.2 v19.1).bind fun v22=>(some (.inl ((w64 (v19.1+1)),(lset v19.2 v19.1 (IntKind.wrap .u8 (w64 ((bitsI .and .i64 v20 1)+(w64 (2*(bitsI .and .i64 v21 1))))))))))))) else (some (.inr v19.2)))
def kcM (x2:(List (List (Int×Int×Int)))) (x3:(List Int)) (v10:(List Int)) (v14:(Int×(List (Int×Int×Int)))) (v15:(Int×Int×(List Int))):Option ((Int×Int×(List Int))⊕((List Int)×Int)):=
 (if (decide (v15.1<(lenI v10)))=true then ((gi v10 v15.1).bind fun v16=>((gi v10 v15.1).bind fun v17=>(if ((bitsI .and .i64 v17 v14.1) != 0)=true then (some (.inl ((w64 (v15.1+1)),v15.2))) else ((gmk (lenI x2) 0).bind fun v18=>((iter (kcd v14 v17 v18) (0,v18)).bind fun v23=>((keb (bitsI .or .i64 v14.1 v17) x3).bind fun v24=>(if (decide (v15.2.1<v24.2))=true then (some (.inl ((w64 (v15.1+1)),v24.2,v23))) else (if (v24.2==v15.2.1)=true then ((kaU v23 v15.2.2).bind fun v25=>(if (decide (v25<0))=true then (some (.inl ((w64 (v15.1+1)),v24.2,v23))) else (some (.inl ((w64 (v15.1+1)),v15.2))))) else (some (.inl ((w64 (v15.1+1)),v15.2))))))))))) else (some (.inr (v15.2.2,v15.2.1))))
def kdq (x2:(List (List (Int×Int×Int)))) (x3:(List Int)) (v10:(List Int)) (v12:(List (Int×(List (Int×Int×Int))))) (v13:(Int×(List Int)×Int)):Option ((Int×(List Int)×Int)⊕(((List Int)×Int×Int)⊕((List Int)×Int))):=
 (if (decide (v13.1<(lenI v12)))=true then ((gi v12 v13.1).bind fun v14=>((iter (kcM x2 x3 v10 v14) (0,v13.2.2,v13.2.1)).bind fun v26=>(some (.inl ((v13.1+1),v26))))) else (some (.inr (.inr v13.2))))
def kfz (x0:(List (Int×Int×Int))) (x1:(List (Int×Int×Int))) (x2:(List (List (Int×Int×Int)))) (x3:(List Int)):Option ((List Int)×Int×Int):=
 ((kcA [x0,x1]).bind fun v0=>((if (v0==0)=true then ((kdW x2 x3).bind fun v1=>(some v1)) else (some v0)).bind fun v2=>(if (v2 != 0)=true then (some ([],0,v2)) else ((kcH x1 x2).bind fun v3=>((runI fun o=>(kaZ o v3.1 v3.2)).bind fun v4=>((iter (kdo v4) (0,[])).bind fun v8=>(match v8 with | .inl v9=>(some v9) | .inr v10=>((kcH x0 x2).bind fun v11=>((runI fun o=>(kaZ o v11.1 v11.2)).bind fun v12=>((iter (kdq x2 x3 v10 v12) (0,[],(-1))).bind fun v27=>(match v27 with | .inl v28=>(some v28) | .inr v29=>(some (v29.1,v29.2,0)))))))))))))
def kcF (x2:(List (List (Int×Int×Int)))) (v3:(Int×Int)):Option ((Int×Int)⊕Int):=
 (if (decide (v3.1<(lenI x2)))=true then (some (.inl ((w64 (v3.1+1)),(w64 (v3.2*3))))) else (some (.inr v3.2)))
def kbz (x3:(List Int)) (v7:(Int×Int×Int×(List Int))):Option ((Int×Int×Int×(List Int))⊕(Int×(List Int))):=
 (if (decide (0<=v7.1))=true then ((grem v7.2.1 3).bind fun v8=>((gi v7.2.2.2 v7.1).bind fun v9=>((gquo .i64 v7.2.1 3).bind fun v10=>((gi (lset v7.2.2.2 v7.1 (IntKind.wrap .u8 v8)) v7.1).bind fun v11=>((gi (lset v7.2.2.2 v7.1 (IntKind.wrap .u8 v8)) v7.1).bind fun v12=>(if (v12 != 0)=true then ((gi x3 v7.1).bind fun v13=>(some (.inl ((w64 (v7.1-1)),v10,(w64 (v7.2.2.1+v13)),(lset v7.2.2.2 v7.1 (IntKind.wrap .u8 v8)))))) else (some (.inl ((w64 (v7.1-1)),v10,v7.2.2.1,(lset v7.2.2.2 v7.1 (IntKind.wrap .u8 v8))))))))))) else (some (.inr v7.2.2)))
def kbB (x0:(List (Int×Int×Int))) (x1:(List (Int×Int×Int))) (x2:(List (List (Int×Int×Int)))) (x3:(List Int)) (v4:Int) (v5:(Int×Int×(List Int))):Option ((Int×Int×(List Int))⊕(Int×(List Int))):=
 (if (decide (v5.1<v4))=true then ((gmk (lenI x2) 0).bind fun v6=>((iter (kbz x3) ((w64 ((lenI x2)-1)),v5.1,0,v6)).bind fun v14=>(if (decide (v5.2.1<v14.1))=true then ((kdH x0 x2 v14.2 1).bind fun v15=>(if v15=true then ((kdH x1 x2 v14.2 2).bind fun v16=>(if v16=true then (some (.inl ((w64 (v5.1+1)),v14))) else (some (.inl ((w64 (v5.1+1)),v5.2))))) else (some (.inl ((w64 (v5.1+1)),v5.2))))) else (some (.inl ((w64 (v5.1+1)),v5.2)))))) else (some (.inr v5.2)))
def kea (x0:(List (Int×Int×Int))) (x1:(List (Int×Int×Int))) (x2:(List (List (Int×Int×Int)))) (x3:(List Int)):Option ((List Int)×Int×Int):=
 ((kcz x0).bind fun v0=>(if (!v0)=true then (some ([],0,8)) else ((kcz x1).bind fun v1=>(if (!v1)=true then (some ([],0,8)) else ((kcZ x2 x3).bind fun v2=>(if (v2 != 0)=true then (some ([],0,v2)) else ((iter (kcF x2) (0,1)).bind fun v4=>((iter (kbB x0 x1 x2 x3 v4) (0,(-1),[])).bind fun v17=>(some (v17.2,v17.1,0))))))))))
def kcC (x0:(List Int)) (x1:(List Int)) (v0:Int):Option (Int⊕(Bool⊕Unit)):=
 (if (decide (v0<(lenI x0)))=true then ((gi x0 v0).bind fun v1=>((gi x1 v0).bind fun v2=>(if (v1 != v2)=true then (some (.inr (.inl false))) else (some (.inl (w64 (v0+1))))))) else (some (.inr (.inr ()))))
def kcJ (x0:(List Int)) (x1:(List Int)):Option Bool:=
 (if ((lenI x0) != (lenI x1))=true then (some false) else ((iter (kcC x0 x1) 0).bind fun v3=>(match v3 with | .inl v4=>(some v4) | .inr v5=>(some true))))
def kcn (x0:(List (Int×Int×Int))) (x1:(List (Int×Int×Int))) (v0:Int):Option (Int⊕(Bool⊕Unit)):=
 (if (decide (v0<(lenI x0)))=true then ((gi x0 v0).bind fun v1=>((gi x1 v0).bind fun v2=>(if (!((v1.1==v2.1)&&((v1.2.1==v2.2.1)&&(v1.2.2==v2.2.2))))=true then (some (.inr (.inl false))) else (some (.inl (w64 (v0+1))))))) else (some (.inr (.inr ()))))
def kcp (x0:(List (Int×Int×Int))) (x1:(List (Int×Int×Int))):Option Bool:=
 (if ((lenI x0) != (lenI x1))=true then (some false) else ((iter (kcn x0 x1) 0).bind fun v3=>(match v3 with | .inl v4=>(some v4) | .inr v5=>(some true))))
def kfa (x0:(List (Int×Int×Int))) (x1:(List (Int×Int×Int))) (x2:(List (List (Int×Int×Int)))) (x3:(List Int)):Option Bool:=
 (((keI [x0,x1]).bind fun v0=>(if v0=true then (some true) else ((keI x2).bind fun v1=>(if v1=true then (some true) else (if (decide (12<(lenI x2)))=true then (some true) else (if (decide (6<(lenI x2)))=true then (if (decide ((lenI x2)<=8))=true then (some true) else (some (decide (20<(lenI x3))))) else (some (decide (20<(lenI x3)))))))))).bind fun v2=>(if v2=true then (some true) else ((keE x0 x2 x3).bind fun v3=>((kds x0 x2 x3).bind fun v4=>((kfz x0 x1 x2 x3).bind fun v5=>((kea x0 x1 x2 x3).bind fun v6=>((kcJ v3.1.1 v4.1.1).bind fun v7=>(if v7=true then (if (v3.1.2.1==v4.1.2.1)=true then ((kcp v3.1.2.2 v4.1.2.2).bind fun v8=>(if v8=true then (if (v3.2==v4.2)=true then (if ((kdc v5.1)==(kdc v6.1))=true then (if (v5.2.1==v6.2.1)=true then (some (v5.2.2==v6.2.2)) else (some false)) else (some false)) else (some false)) else (some false))) else (some false)) else (some false)))))))))
end Go.Abs
set_option maxRecDepth 100000
namespace Go.Abs
open Go Go.Proofs
def kcN:Ctr:=⟨ "",[(.i .i64),(.i .i64),(.i .i64)],[.b],fun x=>kcc x.1 x.2.1 x.2.2,[],[]⟩
theorem kcD:Good Try.prog 78 kcN:=
 kaj Try.func78 (by kernel_rfl) (An:=[]) [] (.nil) (fun x=>by kernel_rfl)
def kjy:Ctr:=⟨ "",[(.sl (.pr (.i .i64) (.pr (.i .u8) (.i .i64))))],[.b],fun x=>kcR x,[],[]⟩
theorem klx:Good Try.prog 28 kjy:=
 kaj Try.func28 (by kernel_rfl) (An:=[(0,⟨⟨[(4,.c (.i .i64)),(3,.c (.i .i64))],[]⟩,⟨[(3,.c (.i .i64))],[]⟩,[0],[],0,false,""⟩)]) [(78,kcN)] (.cons kcD <| .nil) (fun x=>by kernel_rfl)
def kjB:Ctr:=⟨ "",[(.sl (.sl (.pr (.i .i64) (.pr (.i .u8) (.i .i64)))))],[.b],fun x=>keI x,[],[]⟩
theorem klA:Good Try.prog 7 kjB:=
 kaj Try.func7 (by kernel_rfl) (An:=[(0,⟨⟨[(7,.c (.i .i64))],[]⟩,⟨[],[]⟩,[6,5],[],0,true,""⟩)]) [(28,kjy)] (.cons klx <| .nil) (fun x=>by kernel_rfl)
def kfU:Ctr:=⟨ "",[(.i .i64),(.i .i64),(.i .i64)],[.b],fun x=>keX x.1 x.2.1 x.2.2,[],[]⟩
theorem kfO:Good Try.prog 36 kfU:=
 kaj Try.func36 (by kernel_rfl) (An:=[]) [] (.nil) (fun x=>by kernel_rfl)
def khH:Ctr:=⟨ "",[(.pr (.i .i64) (.pr (.i .u8) (.i .i64)))],[.b],fun x=>keL x,[],[]⟩
theorem kjM:Good Try.prog 110 khH:=
 kaj Try.func110 (by kernel_rfl) (An:=[]) [(36,kfU)] (.cons kfO <| .nil) (fun x=>by kernel_rfl)
def kgG:Ctr:=⟨ "",[(.pr (.i .i64) (.i .u8))],[.b],fun x=>kdL x,[],[]⟩
theorem kiA:Good Try.prog 42 kgG:=
 kaj Try.func42 (by kernel_rfl) (An:=[]) [(36,kfU)] (.cons kfO <| .nil) (fun x=>by kernel_rfl)
def kgY:Ctr:=⟨ "",[(.i .i64)],[.b],fun x=>kef x,[],[]⟩
theorem kjv:Good Try.prog 85 kgY:=
 kaj Try.func85 (by kernel_rfl) (An:=[]) [] (.nil) (fun x=>by kernel_rfl)
def kcB:Ctr:=⟨ "",[(.i .i64),(.i .i64)],[(.i .i64)],fun x=>kbF x.1 x.2,[],[]⟩
theorem kcU:Good Try.prog 39 kcB:=
 kaj Try.func39 (by kernel_rfl) (An:=[]) [(85,kgY)] (.cons kjv <| .nil) (fun x=>by kernel_rfl)
def kfQ:Ctr:=⟨ "",[(.i .u8)],[.b],fun x=>kdl x,[],[]⟩
theorem khL:Good Try.prog 116 kfQ:=
 kaj Try.func116 (by kernel_rfl) (An:=[]) [] (.nil) (fun x=>by kernel_rfl)
def kdj:Ctr:=⟨ "",[(.i .u8),(.i .u8)],[(.i .i64)],fun x=>kbM x.1 x.2,[],[]⟩
theorem kdV:Good Try.prog 97 kdj:=
 kaj Try.func97 (by kernel_rfl) (An:=[]) [(116,kfQ)] (.cons khL <| .nil) (fun x=>by kernel_rfl)
def kgD:Ctr:=⟨ "",[(.sl (.i .i64))],[(.i .i64)],fun x=>keN x,[],[]⟩
theorem kgZ:Good Try.prog 38 kgD:=
 kaj Try.func38 (by kernel_rfl) (An:=[(0,⟨⟨[(8,.c (.i .i64))],[]⟩,⟨[],[]⟩,[7,6,3],[],0,true,""⟩)]) [] (.nil) (fun x=>by kernel_rfl)
def khf:Ctr:=⟨ "",[(.pr (.i .i64) (.i .u8)),(.pr (.i .i64) (.i .u8))],[(.i .i64)],fun x=>kfE x.1 x.2,[],[]⟩
theorem khn:Good Try.prog 98 khf:=
 kaj Try.func98 (by kernel_rfl) (An:=[]) [(38,kgD),(97,kdj),(39,kcB)] (.cons kgZ <| .cons kdV <| .cons kcU <| .nil) (fun x=>by kernel_rfl)
def kdR:Ctr:=⟨ "",[(.sl (.pr (.i .i64) (.pr (.i .u8) (.i .i64)))),(.i .i64),(.fn 1 (.pr (.i .i64) (.pr (.i .u8) (.i .i64))) (.pr (.i .i64) (.i .u8)))],[.b],fun x=>kbO x.1 x.2.1 x.2.2,[],[]⟩
theorem kfY:Good Try.prog 111 kdR:=
 kaj Try.func111 (by kernel_rfl) (An:=[(0,⟨⟨[(11,.c (.i .i64))],[]⟩,⟨[],[]⟩,[10,9,2,0,1],[],0,true,""⟩)]) [(98,khf),(42,kgG)] (.cons khn <| .cons kiA <| .nil) (fun x=>by kernel_rfl)
def kgv:Ctr:=⟨ "",[(.pr (.i .i64) (.pr (.i .u8) (.i .i64)))],[(.pr (.i .i64) (.i .u8))],fun x=>kcX x,[],[]⟩
theorem kgV:Good Try.prog 62 kgv:=
 kaj Try.func62 (by kernel_rfl) (An:=[]) [] (.nil) (fun x=>by kernel_rfl)
def kbx:Ctr:=⟨ "",[(.sl (.pr (.i .i64) (.pr (.i .u8) (.i .i64)))),(.fn 1 (.pr (.i .i64) (.pr (.i .u8) (.i .i64))) .b)],[(.i .i64)],fun x=>kaQ x.1 x.2,[],[]⟩
theorem kcO:Good Try.prog 126 kbx:=
 kaj Try.func126 (by kernel_rfl) (An:=[(0,⟨⟨[(8,.c (.i .i64))],[]⟩,⟨[],[]⟩,[7,1,0],[],0,true,""⟩)]) [] (.nil) (fun x=>by kernel_rfl)
def kaI:Ctr:=⟨ "",[(.sl (.pr (.i .i64) (.pr (.i .u8) (.i .i64)))),(.fn 1 (.pr (.i .i64) (.pr (.i .u8) (.i .i64))) .b)],[.b],fun x=>kas x.1 x.2,[],[]⟩
theorem kbd:Good Try.prog 112 kaI:=
 kaj Try.func112 (by kernel_rfl) (An:=[]) [(126,kbx)] (.cons kcO <| .nil) (fun x=>by kernel_rfl)
def kkm:Ctr:=⟨ "",[(.sl (.pr (.i .i64) (.pr (.i .u8) (.i .i64))))],[(.i .i64)],fun x=>kgQ x,[],[]⟩
theorem kmJ:Good Try.prog 88 kkm:=
 kaj Try.func88 (by kernel_rfl) (An:=[]) [(112,kaI),(62,kgv),(111,kdR),(110,khH)] (.cons kbd <| .cons kgV <| .cons kfY <| .cons kjM <| .nil) (fun x=>by kernel_rfl)
def kda:Ctr:=⟨ "",[(.sl (.sl (.pr (.i .i64) (.pr (.i .u8) (.i .i64)))))],[(.i .i64)],fun x=>kcA x,[],[]⟩
theorem kcW:Good Try.prog 45 kda:=
 kaj Try.func45 (by kernel_rfl) (An:=[(0,⟨⟨[(8,.c (.i .i64))],[]⟩,⟨[],[]⟩,[7,6],[],0,true,""⟩)]) [(88,kkm)] (.cons kmJ <| .nil) (fun x=>by kernel_rfl)
def kgC:Ctr:=⟨ "",[(.i .i64)],[.b],fun x=>kdJ x,[],[]⟩
theorem kiy:Good Try.prog 89 kgC:=
 kaj Try.func89 (by kernel_rfl) (An:=[]) [(36,kfU)] (.cons kfO <| .nil) (fun x=>by kernel_rfl)
def kcK:Ctr:=⟨ "",[(.sl (.i .i64)),(.fn 1 (.i .i64) .b)],[(.i .i64)],fun x=>kbg x.1 x.2,[],[]⟩
theorem kex:Good Try.prog 71 kcK:=
 kaj Try.func71 (by kernel_rfl) (An:=[(0,⟨⟨[(8,.c (.i .i64))],[]⟩,⟨[],[]⟩,[7,1,0],[],0,true,""⟩)]) [] (.nil) (fun x=>by kernel_rfl)
def kcg:Ctr:=⟨ "",[(.sl (.i .i64)),(.fn 1 (.i .i64) .b)],[.b],fun x=>kaP x.1 x.2,[],[]⟩
theorem kdO:Good Try.prog 90 kcg:=
 kaj Try.func90 (by kernel_rfl) (An:=[]) [(71,kcK)] (.cons kex <| .nil) (fun x=>by kernel_rfl)
def kfK:Ctr:=⟨ "",[(.sl (.sl (.pr (.i .i64) (.pr (.i .u8) (.i .i64))))),(.sl (.i .i64))],[(.i .i64)],fun x=>kdW x.1 x.2,[],[]⟩
theorem kgi:Good Try.prog 46 kfK:=
 kaj Try.func46 (by kernel_rfl) (An:=[]) [(90,kcg),(89,kgC),(45,kda)] (.cons kdO <| .cons kiy <| .cons kcW <| .nil) (fun x=>by kernel_rfl)
def kiw:Ctr:=⟨ "",[(.sl (.pr (.i .i64) (.pr (.i .u8) (.i .i64)))),(.sl (.pr (.i .i64) (.pr (.i .u8) (.i .i64))))],[(.i .i64)],fun x=>kbR x.1 x.2,[],[]⟩
theorem kky:Good Try.prog 127 kiw:=
 kaj Try.func127 (by kernel_rfl) (An:=[]) [(62,kgv),(98,khf)] (.cons kgV <| .cons khn <| .nil) (fun x=>by kernel_rfl)
def kiY:Ctr:=⟨ "",[(.sl (.pr (.i .i64) (.pr (.i .u8) (.i .i64)))),(.sl (.pr (.i .i64) (.pr (.i .u8) (.i .i64)))),(.fn 2 (.pr (.i .i64) (.i .i64)) (.i .i64))],[(.sl (.pr (.i .i64) (.pr (.i .u8) (.i .i64))))],fun x=>kfV x.1 x.2.1 x.2.2,[],[]⟩
theorem kly:Good Try.prog 113 kiY:=
 kaj Try.func113 (by kernel_rfl) (An:=[(0,⟨⟨[(0,.c (.sl (.pr (.i .i64) (.pr (.i .u8) (.i .i64))))),(1,.c (.sl (.pr (.i .i64) (.pr (.i .u8) (.i .i64))))),(7,.mw 1)],[(1,.sl 82 (.pr (.i .i64) (.pr (.i .u8) (.i .i64))))]⟩,⟨[(7,.mw 2)],[(2,.sl 82 (.pr (.i .i64) (.pr (.i .u8) (.i .i64))))]⟩,[2],[],3,false,""⟩),(10,⟨⟨[],[]⟩,⟨[(19,.c .b)],[]⟩,[0,1,7],[1],2,false,""⟩),(129,⟨⟨[(8,.ptr 2 0)],[(2,.bx 82 [.c (.i .i64),.c (.i .u8),.c (.i .i64)])]⟩,⟨[(9,.c (.i .i64)),(10,.c (.i .i64)),(8,.ptr 3 0),(0,.c (.sl (.pr (.i .i64) (.pr (.i .u8) (.i .i64))))),(1,.c (.sl (.pr (.i .i64) (.pr (.i .u8) (.i .i64)))))],[(3,.bx 82 [.c (.i .i64),.c (.i .u8),.c (.i .i64)])]⟩,[11,7],[1],4,false,""⟩),(181,⟨⟨[],[]⟩,⟨[(10,.c (.i .i64)),(1,.c (.sl (.pr (.i .i64) (.pr (.i .u8) (.i .i64)))))],[]⟩,[9,8,0],[2],3,false,""⟩)]) [(127,kiw)] (.cons kky <| .nil) (fun x=>by kernel_rfl)
def kil:Ctr:=⟨ "",[(.i .i64),(.i .i64)],[(.i .i64)],fun x=>kfu x.1 x.2,[],[]⟩
theorem kkv:Good Try.prog 114 kil:=
 kaj Try.func114 (by kernel_rfl) (An:=[]) [] (.nil) (fun x=>by kernel_rfl)
def kim:Ctr:=⟨ "",[(.pr (.i .i64) (.pr (.i .u8) (.i .i64)))],[.b],fun x=>khd x,[],[]⟩
theorem kle:Good Try.prog 115 kim:=
 kaj Try.func115 (by kernel_rfl) (An:=[]) [] (.nil) (fun x=>by kernel_rfl)
def krz:Ctr:=⟨ "",[(.sl (.pr (.i .i64) (.pr (.i .u8) (.i .i64)))),(.sl (.pr (.i .i64) (.pr (.i .u8) (.i .i64))))],[(.sl (.pr (.i .i64) (.pr (.i .u8) (.i .i64)))),(.i .i64)],fun x=>kdC x.1 x.2,[],[]⟩
theorem box_Take_C_ok:Good Try.prog 93 krz:=
 kaj Try.func93 (by kernel_rfl) (An:=[]) [(115,kim),(114,kil),(113,kiY),(45,kda),(112,kaI)] (.cons kle <| .cons kkv <| .cons kly <| .cons kcW <| .cons kbd <| .nil) (fun x=>by kernel_rfl)
def kbN:Ctr:=⟨ "",[(.sl (.pr (.i .i64) (.pr (.i .u8) (.i .i64))))],[(.sl (.pr (.i .i64) (.pr (.i .u8) (.i .i64))))],fun x=>kam x,[],[]⟩
theorem slices_Clone_s_api_Item_api_Item_C_ok:Good Try.prog 50 kbN:=
 kaj Try.func50 (by kernel_rfl) (An:=[]) [] (.nil) (fun x=>by kernel_rfl)
def growT:Ty:=.sl (.pr (.i .i64) (.pr (.i .u8) (.i .i64)))
abbrev GrowL:=List (Int×Int×Int)
def growA (x:GrowL):AV:=growT.av x
def growE (x:GrowL):List AV:=growT.enc x
def growY (y:Int×GrowL):List AV:=[.sc (.int .i64 y.1),growA y.2]
def growG (l:Nat) (A:AV):Nat->AV
 | 0=>.fn 92 [A,.fp [.sc (.func (.yield l) #[] #[])],.un]
 | d+1=>.fn 92 [A,.fp [.sc (.func (.yield l) #[] #[])],.fp [growG l A d]]
theorem krS {l:Nat} {A:AV}:∀ d,(growG l A d).one=true
 | 0=>rfl
 | _+1=>rfl
theorem klw {l:Nat} {A:AV} (hA:Free A):∀ d,Free (growG l A d)
 | 0=>by
  simp only [growG,kes,kbe,keY,kmp,kdy,and_true,true_and]
  exact ⟨hA,.un⟩
 | d+1=>by
  have:=klw (l:=l) hA d
  simp only [growG,kes,kbe,keY,kmp,kdy,and_true,true_and]
  exact ⟨hA,this⟩
theorem keM (x:GrowL):Free (growA x):=keu growT x rfl
theorem krT {l p:GrowL} {r:GrowL×Int} (h:kdC l p=some r):PC Try.prog 93 [growA l,growA p] (·= .tp [growA r.1,.sc (.int .i64 r.2)]):=
 box_Take_C_ok.2.1 (l,p) r h _ ⟨_,_,rfl,(kbL rfl).2 rfl,_,rfl,(kbL rfl).2 rfl⟩
theorem kkp (ps:List GrowL):Free (.sl (ps.map growE)):=keu (.sl growT) ps rfl
theorem kmQ (l:Nat) (ps:List GrowL):∀ (d:Nat) (i s:Int) (x:GrowL) (ls:List (Int×GrowL)),kaF d ps i s x=some ls->
  YV Try.prog l (growG l (.fp [.sl (ps.map growE)]) d) [.sc (.int .i64 i),.sc (.int .i64 s),growA x] (ls.map growY)
 | 0,i,s,x,ls,h=>by cases h
 | d+1,i,s,x,ls,h=>by
  refine YV.of_body (fn:=Try.f92) (rd:=9) Try.func92 rfl (by kernel_rfl) (by show 6<=49; omega) (by show 49<=9000000; omega) rfl fun D G O k hD hl ok hx=>?_
  subst hl
  have hg:=klw (l:=G.l) (A:=.fp [.sl (ps.map growE)]) (by simpa using kkp ps) d
  have hfree:=keM x
  let I:AV:=.sc (.int .i64 i)
  let S:AV:=.sc (.int .i64 s)
  let X:=growA x
  let A:AV:=.fp [.sl (ps.map growE)]
  let R:AV:=.fp [growG G.l A d]
  refine Sat.ofL ?_
  refine SatL.seq (SatL.rreg rfl ⟨.sc (.bool false),.assign rfl rfl,?_⟩)
  refine SatL.seq (SatL.seq (SatL.rreg rfl ⟨I,.move rfl rfl,_,.load rfl rfl (by kernel_rfl),_,.len rfl rfl rfl rfl rfl (by kernel_rfl),_,.bin rfl rfl rfl (fun K hk=>⟨rfl,hk⟩),?_⟩))
  refine SatL.condX (v:=i==(ps.map growE).length) rfl (fun e=>?_) fun e=>SatL.skip ?_
  ·have hi:i=lenI ps:=by simpa [lenI] using e
   obtain rfl:[(s,x)]=ls:=Option.some.inj ((if_pos hi).symm.trans h)
   refine SatL.seq (SatL.yreg 3 rfl hD ok rfl ⟨_,.load rfl rfl (by kernel_rfl),S,.move rfl rfl,X,.move rfl rfl,YieldK.of [] (z:=ah0) (es:=List.replicate k []) (avs:=[.sc (.int .i64 s),growA x]) (.inl rfl) rfl rfl .yield rfl (by simpa [growY] using hx) (fun q B h=>by cases h) (Snap.V (.free _ (.sc _))) (SnapL.free (show FreeL [S,X] by simp [S,X,hfree])) (fun t ht=>by cases ht) (aopsR.plain ⟨.sc (.bool true),.assign rfl rfl,?_⟩) (aopsR.plain ⟨.sc (.bool false),.assign rfl rfl,?_⟩)⟩)
   ·exact SatL.ret ⟨.inr rfl,.inl ⟨_,rfl,by simp,rfl⟩⟩
   ·exact SatL.ret ⟨.inr rfl,.inr ⟨rfl,rfl⟩⟩
  have hi:¬ i=lenI ps:=by simpa [lenI] using e
  replace h:=(if_neg hi).symm.trans h
  obtain ⟨p,hp,h⟩:=jaa.1 h
  obtain ⟨r,hr,h⟩:=jaa.1 h
  obtain ⟨h0,hp⟩:=kjt hp
  let Z:=growA r.1
  let E:AV:=.sc (.int .i64 r.2)
  refine SatL.seq (SatL.seq (SatL.rreg rfl ⟨X,.move rfl rfl,_,.load rfl rfl (by kernel_rfl),I,.move rfl rfl,_,.idx (e:=22) (c:=growE p) rfl rfl rfl (by kernel_rfl) h0 (by simp; exact ⟨p,hp,rfl⟩) (by kernel_rfl) (by simp [growE,growT,Ty.enc]),growA p,.load rfl rfl (by kernel_rfl),.tp [Z,E],.call rfl rfl rfl rfl (krT hr) (show FreeL [X,growA p] by simp only [kbe,kdy,and_true]; exact ⟨hfree,keM p⟩),.tp [Z,E],.move rfl rfl,Z,.extract rfl rfl rfl,E,.extract rfl rfl rfl,Z,.assign rfl rfl,E,.assign rfl rfl,?_⟩))
  have last:∀ (es:List (List AV)) (ls2:List (Int×GrowL)) (env:Env),lk env GS = .gs es->lk env 0=I->lk env 1=S->lk env 2=X->lk env 5=R->kaF d ps (w64 (i+1)) s x=some ls2->es.length+ls2.length=k+ls.length->(∀ j,j<ls2.length->G.xs[es.length+j]?=(ls2.map growY)[j]?)->
    SatL Try.prog 49 D O [(Try.f92.body.getD .skip |> fun c=>match c with | .seq _ (.seq _ (.seq _ c))=>c | c=>c)] (yvQ 9 (k+(ls.map growY).length)) ⟨env,ah0,0⟩:=by
   intro es ls2 env e1 e2 e3 e4 e5 hg2 hlen hx2
   let I1:AV:=.sc (.int .i64 (w64 (i+1)))
   refine SatL.seq (SatL.yreg 5 rfl hD ok rfl ⟨growG G.l A d,.load rfl (show deref ah0 (lk env 5)=_ by rw [e5]; rfl) (by kernel_rfl),I,.move rfl e2,I1,.bin rfl rfl rfl (fun K hk=>⟨rfl,hk⟩),S,.move rfl e3,X,.move rfl e4,
    YieldK.of [] (z:=ah0) (es:=es) (avs:=[I1,S,X]) (.inl rfl) rfl rfl (kmQ G.l ps d (w64 (i+1)) s x ls2 hg2) e1 (by simpa using hx2) (fun q B h=>by cases h) (Snap.V (.free _ hg)) (SnapL.free (show FreeL [I1,S,X] by simp [I1,S,X,hfree])) (fun t ht=>by cases ht) (aopsR.plain ⟨.sc (.bool true),.assign rfl rfl,?_⟩) (aopsR.plain ⟨.sc (.bool false),.assign rfl rfl,?_⟩)⟩)
   ·exact SatL.ret ⟨.inr rfl,.inl ⟨_,rfl,by simp; omega,rfl⟩⟩
   ·exact SatL.ret ⟨.inr rfl,.inr ⟨rfl,rfl⟩⟩
  by_cases hr0:r.2=0
  ·rw [if_pos hr0] at h
   obtain ⟨b,hb,h⟩:=jaa.1 h
   obtain ⟨l1,hl1,h⟩:=jaa.1 h
   obtain ⟨l2,hl2,h⟩:=jaa.1 h
   obtain rfl:l1++l2=ls:=Option.some.inj h
   obtain rfl:w64 (1*2 ^ (min i.toNat 64))=b:=Option.some.inj ((if_pos h0).symm.trans hb)
   have hx1:∀ j,j<l1.length+l2.length->G.xs[k+j]?=(l1.map growY++l2.map growY)[j]?:=fun j hj=>by
    rw [<-jcz]
    exact hx j (by rw [jav]; exact Nat.lt_of_lt_of_eq hj jbi.symm)
   have hlen:(l1++l2).length=l1.length+l2.length:=jbi
   let I1:AV:=.sc (.int .i64 (w64 (i+1)))
   let W:AV:=.sc (.int .i64 (w64 (1*2 ^ (min i.toNat 64))))
   let S1:AV:=.sc (.int .i64 (bitsI .or .i64 s (w64 (1*2 ^ (min i.toNat 64)))))
   refine SatL.seq (SatL.yregD 11 rfl hD ok (by kernel_rfl) (by kernel_rfl) (by kernel_rfl) (by kernel_rfl) rfl ⟨E,.move rfl rfl,.sc (.bool true),.bin rfl rfl rfl (fun K hk=>⟨rfl,by rw [hr0]; exact hk⟩),.sc (.bool true),.move rfl rfl,growG G.l A d,.load rfl rfl (by kernel_rfl),I,.move rfl rfl,I1,.bin rfl rfl rfl (fun K hk=>⟨rfl,hk⟩),S,.move rfl rfl,I,.move rfl rfl,
    W,.bin rfl rfl rfl (fun K hk=>⟨h0,hk⟩),S1,.bin rfl rfl rfl (fun K hk=>⟨rfl,hk⟩),Z,.move rfl rfl,
    YieldK.of [0,1,2,5,31] (z:=ah0) (es:=List.replicate k []) (avs:=[I1,S1,Z]) (.inr ⟨_,_,_,rfl,rfl,rfl⟩) rfl rfl (kmQ G.l ps d (w64 (i+1)) _ r.1 l1 hl1) rfl (fun j hj=>?_) (fun q B h=>by cases h) (Snap.V (.free _ hg)) (SnapL.free (show FreeL [I1,S1,Z] by simp only [I1,S1,kbe,kdy,and_true,kmp,true_and]; exact keM r.1)) (fun t ht=>?_)
     (aopsR.plain ⟨.sc (.bool false),.not true rfl rfl rfl,.sc (.bool false),.pick rfl rfl rfl,?_⟩) (aopsR.plain ⟨.sc (.bool true),.not false rfl rfl rfl,.sc (.bool true),.pick rfl rfl rfl,?_⟩)⟩)
   ·rw [jav] at hj
    rw [jdb,hx1 j (by omega),jbq (by simpa using hj)]
   ·simp only [jat,List.not_mem_nil,or_false] at ht
    rcases ht with rfl | rfl | rfl | rfl | rfl
    ·exact .sc _
    ·exact .sc _
    ·exact hfree
    ·show Free R
     simp only [R,keY,kbe,kdy,and_true]
     exact hg
    ·exact .sc _
   ·exact SatL.condF (v:=false) rfl rfl (SatL.skip (last _ l2 _ rfl rfl rfl rfl rfl hl2 (by rw [jbi,jdb,jav,hlen]; omega) (fun j hj=>by rw [jbi,jdb,jav,jef,hx1 _ (by omega),jck (by simp),jav,Nat.add_sub_cancel_left])))
   ·exact SatL.condT (v:=true) rfl rfl (SatL.seq (SatL.rreg rfl ⟨.sc (.bool false),.assign rfl rfl,SatL.ret ⟨.inr rfl,.inr ⟨rfl,rfl⟩⟩⟩))
  ·rw [if_neg hr0] at h
   refine SatL.seq (SatL.rregD (by kernel_rfl) (by kernel_rfl) rfl ⟨E,.move rfl rfl,.sc (.bool false),.bin rfl rfl rfl (fun K hk=>⟨rfl,by rw [show (r.2==0)=false by simpa using hr0]; exact hk⟩),.sc (.bool false),.move rfl rfl,.sc (.bool false),.pick rfl rfl rfl,?_⟩)
   exact SatL.condF (v:=false) rfl rfl (SatL.skip (last _ ls _ rfl rfl rfl rfl rfl h (by simp) (by simpa using hx)))
theorem krc {x l:GrowL} (h:kam x=some l):PC Try.prog 50 [growA x] (·= growA l):=
 slices_Clone_s_api_Item_api_Item_C_ok.2.1 x l h _ ⟨_,rfl,(kbL rfl).2 rfl⟩
def khF:CtrI:=⟨ "",[.pt (.sl growT),.pt growT],[.i .i64,growT],fun x=>runI fun o=>kaZ o x.1 x.2⟩
theorem krp {l:Nat} {A:AV} {h:AH} (hA:Free A) (h0:h 0=some (.cells 1 153 [[.sc (.func (.yield l) #[] #[])]])) (h1:h 1=some (.cells 1 154 [[.fn 92 [A,.own 0 0 0,.own 1 0 0]]])):∀ d,SnapV h (.fn 92 [A,.own 0 0 0,.own 1 0 0]) (growG l A d):=fun d=>by
 have step:∀ R,SnapV h (.own 1 0 0) R->SnapV h (.fn 92 [A,.own 0 0 0,.own 1 0 0]) (.fn 92 [A,.fp [.sc (.func (.yield l) #[] #[])],R]):=fun R hR=>.fn rfl fun q c c' hc hc'=>by
  match q,hc,hc' with
  | 0,hc,hc'=>cases hc; cases hc'; exact Snap.V (.free _ hA)
  | 1,hc,hc'=>cases hc; cases hc'; exact SnapV.own1 h0 rfl (Snap.V (.free _ (.sc _)))
  | 2,hc,hc'=>cases hc; cases hc'; exact hR
  | q+3,hc,hc'=>cases hc
 induction d with
 | zero=>exact step _ .un
 | succ d ih=>exact step _ (.own1 h1 (krS d) ih)
theorem kjQ:GoodI Try.prog 91 khF:=by
 refine ⟨rfl,fun x xs hF l hl=>?_⟩
 obtain ⟨ps,x⟩:=x
 obtain ⟨a,l',rfl,ha,a',rfl,ha'⟩:=hl
 obtain rfl:=(kbL rfl).1 ha
 obtain rfl:=(kbL rfl).1 ha'
 have hF:(kam x).bind (fun l=>kaF (ps.length+1) ps 0 0 l)=some xs:=by
  obtain ⟨xs1,h1,h2⟩:=jaa.1 (show runI (fun o=>kaZ o ps x)=some xs from hF)
  obtain ⟨ys,h3,h4⟩:=jaa.1 h2
  split at h4
  ·cases h4; exact h1
  ·cases h4
 obtain ⟨c,hc,hg⟩:=jaa.1 hF
 refine IT.of_body (fn:=Try.f91) Try.func91 rfl (by kernel_rfl) (by show 3<=10; omega) (by show 10<=9000000; omega) rfl fun D G O hD hx ok=>?_
 have hA:Free (.fp [.sl (ps.map growE)]):=by simpa using kkp ps
 let Y:AV:=.sc (.func (.yield G.l) #[] #[])
 let A:AV:=.fp [.sl (ps.map growE)]
 let F:AV:=.fn 92 [A,.own 0 0 0,.own 1 0 0]
 let H0:AH:=updH ah0 0 (.cells 1 153 [[Y]])
 let H1:AH:=updH H0 1 (.cells 1 154 [[.sc .nilFunc]])
 let H2:AH:=updH H1 1 (.cells 1 154 [[F]])
 let e0:Env:=(GS,.gs [])::kap (.sc (.func (.yield G.l) #[] #[])::[(Ty.pt (.sl growT)).av ps,(Ty.pt growT).av x])
 refine Sat.ofL (SatL.seq (Sat.region rfl (show SatL Try.prog 10 D O _ _ ⟨(3,.own 0 0 0)::e0,H0,1⟩ from ?_)))
 refine SatL.seq (Sat.region rfl (aops.cons rfl<|aop.alloc (z:=[.sc .nilFunc]) rfl (by kernel_rfl) (show SatL Try.prog 10 D O _ _ ⟨(4,.own 1 0 0)::(3,.own 0 0 0)::e0,H1,2⟩ from ?_)))
 refine SatL.seq (Sat.region rfl (aops.cons rfl<|aop.mkfn (v:=F) rfl rfl<|aops.cons rfl<|aop.store (id:=1) (k:=1) (T':=154) (a:=.sc .nilFunc) (b:=F) rfl rfl rfl rfl (by kernel_rfl) (show SatL Try.prog 10 D O _ _ ⟨(5,F)::(4,.own 1 0 0)::(3,.own 0 0 0)::e0,H2,2⟩ from ?_)))
 let C:=growA c
 refine SatL.yregD 3 rfl hD ok (by kernel_rfl) (by kernel_rfl) (by kernel_rfl) (by kernel_rfl) rfl ⟨F,.load rfl rfl (by kernel_rfl),growA x,.load rfl rfl (by kernel_rfl),C,.call rfl rfl rfl rfl (krc hc) (show FreeL [growA x] by simpa using keM x),
  YieldK.of [] (z:=H2) (es:=[]) (avs:=[.sc (.int .i64 0),.sc (.int .i64 0),C]) (.inl rfl) rfl rfl (kmQ G.l ps (ps.length+1) 0 0 c xs hg) rfl (fun j hj=>?_) (fun q B h=>h) (krp hA rfl rfl _) (SnapL.free (show FreeL [.sc (.int .i64 0),.sc (.int .i64 0),C] by simpa using keM c)) (fun t ht=>by cases ht) ?_ ?_⟩
 ·rw [hx]; simp only [List.length_nil,jch]; rfl
 ·exact ⟨.inl rfl,.inl ⟨_,rfl,rfl⟩⟩
 ·exact ⟨.inl rfl,.inr rfl⟩
def kdG:Ctr:=⟨ "",[],[],fun _=>none,[],[khF]⟩
theorem kdP:Good Try.prog 91 kdG:=good_dm.moreI kjQ
def box_built_m0_M:CtrM:=⟨ "",[some (.sl (.pr (.i .i64) (.pr (.i .u8) (.i .i64)))),some (.sl (.sl (.pr (.i .i64) (.pr (.i .u8) (.i .i64)))))],⟨[],[]⟩,0,⟨[(1000000,.fn 91 [.ptr 0 0,.ptr 1 0])],[(0,.bx 42 [.c (.sl (.sl (.pr (.i .i64) (.pr (.i .u8) (.i .i64)))))]),(1,.bx 22 [.c (.sl (.pr (.i .i64) (.pr (.i .u8) (.i .i64))))])]⟩,2,1,fun x=>kcH x.1 x.2,false⟩
theorem kjS:box_built_m0_M.ok=true/\GoodM Try.prog 47 box_built_m0_M:=
 kts Try.func47 (by kernel_rfl) (An:=[]) [(91,kdG)] (.cons kdP <| .nil) (fun x=>by kernel_rfl)
def box_built_C:Ctr:=⟨ "",[],[],fun _=>none,[],[]⟩
theorem box_built_C_ok:Good Try.prog 47 box_built_C:=good_dm
def kgn:Ctr:=⟨ "",box_built_C.as,box_built_C.rs,box_built_C.F,box_built_m0_M::box_built_C.mus,box_built_C.its⟩
theorem kgS:Good Try.prog 47 kgn:=(box_built_C_ok.more kjS)
def kfM:Ctr:=⟨ "",[(.i .i64),(.sl (.i .i64))],[(.sl (.i .i64)),(.i .i64)],fun x=>keb x.1 x.2,[],[]⟩
theorem kgF:Good Try.prog 48 kfM:=
 kaj Try.func48 (by kernel_rfl) (An:=[(0,⟨⟨[(12,.c (.i .i64)),(6,.mw 1),(7,.c (.i .i64))],[(1,.sl 3 (.i .i64))]⟩,⟨[(6,.mw 2),(7,.c (.i .i64))],[(2,.sl 3 (.i .i64))]⟩,[11,10,0],[],3,false,""⟩)]) [] (.nil) (fun x=>by kernel_rfl)
def kdd:Ctr:=⟨ "",[(.sl (.i .i64)),(.sl (.i .i64))],[(.i .i64)],fun x=>kbt x.1 x.2,[],[]⟩
theorem keU:Good Try.prog 49 kdd:=
 kaj Try.func49 (by kernel_rfl) (An:=[(0,⟨⟨[(11,.c (.i .i64))],[]⟩,⟨[],[]⟩,[10,9,1,0],[],0,true,""⟩)]) [(39,kcB)] (.cons kcU <| .nil) (fun x=>by kernel_rfl)
def kiW:Ctr:=⟨ "",[(.sl (.pr (.i .i64) (.pr (.i .u8) (.i .i64)))),(.sl (.sl (.pr (.i .i64) (.pr (.i .u8) (.i .i64))))),(.sl (.i .i64))],[kqw,(.i .i64)],fun x=>keE x.1 x.2.1 x.2.2,[],[]⟩
theorem klI:Good Try.prog 15 kiW:=
 kaj Try.func15 (by kernel_rfl) (An:=[(73,⟨⟨[],[]⟩,⟨[(8,.c (.i .i64))],[]⟩,[1,5,6,0],[0,3,1,2],5,false,""⟩),(0,⟨⟨[],[(9,.bx 44 [.c (.sl (.i .i64)),.c (.i .i64),.c (.sl (.pr (.i .i64) (.pr (.i .u8) (.i .i64))))])]⟩,⟨[],[(9,.bx 44 [.c (.sl (.i .i64)),.c (.i .i64),.c (.sl (.pr (.i .i64) (.pr (.i .u8) (.i .i64))))])]⟩,[29,9,6,5],[3,1,2,0],13,false,""⟩)]) [(49,kdd),(48,kfM),(47,kgn),(91,kdG),(50,kbN),(46,kfK),(45,kda),(38,kgD),(39,kcB)] (.cons keU <| .cons kgF <| .cons kgS <| .cons kdP <| .cons slices_Clone_s_api_Item_api_Item_C_ok <| .cons kgi <| .cons kcW <| .cons kgZ <| .cons kcU <| .nil) (fun x=>by kernel_rfl)
def khz:Ctr:=⟨ "",[(.i .i64),(.i .u8)],[.b],fun x=>keQ x.1 x.2,[],[]⟩
theorem kjT:Good Try.prog 87 khz:=
 kaj Try.func87 (by kernel_rfl) (An:=[]) [(78,kcN)] (.cons kcD <| .nil) (fun x=>by kernel_rfl)
def khG:Ctr:=⟨ "",[(.i .i64),(.i .u8),(.i .i64),(.i .u8)],[.b],fun x=>kdw x.1 x.2.1 x.2.2.1 x.2.2.2,[],[]⟩
theorem kjO:Good Try.prog 94 khG:=
 kaj Try.func94 (by kernel_rfl) (An:=[]) [] (.nil) (fun x=>by kernel_rfl)
def kei:Ctr:=⟨ "",[(.sl (.pr (.i .i64) (.pr (.i .u8) (.i .i64))))],[.b],fun x=>kcz x,[],[]⟩
theorem kek:Good Try.prog 51 kei:=
 kaj Try.func51 (by kernel_rfl) (An:=[(0,⟨⟨[(3,.c (.i .i64))],[]⟩,⟨[],[]⟩,[0],[],0,true,""⟩)]) [(94,khG),(87,khz),(78,kcN)] (.cons kjO <| .cons kjT <| .cons kcD <| .nil) (fun x=>by kernel_rfl)
def keF:Ctr:=⟨ "",[(.sl (.sl (.pr (.i .i64) (.pr (.i .u8) (.i .i64))))),(.sl (.i .i64))],[(.i .i64)],fun x=>kcZ x.1 x.2,[],[]⟩
theorem kfG:Good Try.prog 52 keF:=
 kaj Try.func52 (by kernel_rfl) (An:=[(0,⟨⟨[(5,.c (.i .i64))],[]⟩,⟨[],[]⟩,[0,1],[],0,true,""⟩),(8,⟨⟨[(6,.c (.i .i64))],[]⟩,⟨[],[]⟩,[1],[],0,true,""⟩)]) [(51,kei),(78,kcN)] (.cons kek <| .cons kcD <| .nil) (fun x=>by kernel_rfl)
def kha:Ctr:=⟨ "",[(.sl (.pr (.i .i64) (.pr (.i .u8) (.i .i64)))),(.i .i64),(.i .u8)],[(.i .i64)],fun x=>kfF x.1 x.2.1 x.2.2,[],[]⟩
theorem khy:Good Try.prog 96 kha:=
 kaj Try.func96 (by kernel_rfl) (An:=[(0,⟨⟨[(7,.c (.i .i64))],[]⟩,⟨[],[]⟩,[0,1,2],[],0,true,""⟩),(18,⟨⟨[],[]⟩,⟨[(29,.c .b)],[]⟩,[7],[],0,false,""⟩)]) [] (.nil) (fun x=>by kernel_rfl)
def kem:Ctr:=⟨ "",[(.sl (.sl (.pr (.i .i64) (.pr (.i .u8) (.i .i64))))),(.sl (.i .u8)),(.i .u8),(.i .i64),(.i .u8)],[(.i .i64)],fun x=>kcL x.1 x.2.1 x.2.2.1 x.2.2.2.1 x.2.2.2.2,[],[]⟩
theorem keV:Good Try.prog 95 kem:=
 kaj Try.func95 (by kernel_rfl) (An:=[(0,⟨⟨[(12,.c (.i .i64)),(11,.c (.i .i64))],[]⟩,⟨[(11,.c (.i .i64))],[]⟩,[0,1,2,3,4],[],0,false,""⟩)]) [(96,kha)] (.cons khy <| .nil) (fun x=>by kernel_rfl)
def kgx:Ctr:=⟨ "",[(.sl (.pr (.i .i64) (.pr (.i .u8) (.i .i64)))),(.sl (.sl (.pr (.i .i64) (.pr (.i .u8) (.i .i64))))),(.sl (.i .u8)),(.i .u8)],[.b],fun x=>kdH x.1 x.2.1 x.2.2.1 x.2.2.2,[],[]⟩
theorem kgW:Good Try.prog 53 kgx:=
 kaj Try.func53 (by kernel_rfl) (An:=[(0,⟨⟨[(9,.c (.i .i64))],[]⟩,⟨[],[]⟩,[1,2,3,0],[],0,true,""⟩),(8,⟨⟨[(10,.c (.i .i64))],[]⟩,⟨[],[]⟩,[9],[],0,true,""⟩)]) [(95,kem),(96,kha)] (.cons keV <| .cons khy <| .nil) (fun x=>by kernel_rfl)
def kin:Ctr:=⟨ "",[(.sl (.i .i64)),(.sl (.i .i64))],[.b],fun x=>kfn x.1 x.2,[],[]⟩
theorem kkZ:Good Try.prog 54 kin:=
 kaj Try.func54 (by kernel_rfl) (An:=[(0,⟨⟨[(5,.c (.i .i64))],[]⟩,⟨[],[]⟩,[0,1],[],0,true,""⟩)]) [] (.nil) (fun x=>by kernel_rfl)
def kiO:Ctr:=⟨ "",[(.sl (.pr (.i .i64) (.pr (.i .u8) (.i .i64)))),(.sl (.sl (.pr (.i .i64) (.pr (.i .u8) (.i .i64))))),(.sl (.i .u8)),(.i .u8)],[(.sl (.pr (.i .i64) (.pr (.i .u8) (.i .i64))))],fun x=>kfX x.1 x.2.1 x.2.2.1 x.2.2.2,[],[]⟩
theorem klN:Good Try.prog 55 kiO:=
 kaj Try.func55 (by kernel_rfl) (An:=[(0,⟨⟨[(10,.c (.i .i64)),(9,.mw 1)],[(1,.sl 82 (.pr (.i .i64) (.pr (.i .u8) (.i .i64))))]⟩,⟨[(9,.mw 2)],[(2,.sl 82 (.pr (.i .i64) (.pr (.i .u8) (.i .i64))))]⟩,[0,1,2,3],[],3,false,""⟩)]) [(95,kem)] (.cons keV <| .nil) (fun x=>by kernel_rfl)
def khw:Ctr:=⟨ "",[(.sl (.pr (.i .i64) (.pr (.i .u8) (.i .i64)))),(.sl (.sl (.pr (.i .i64) (.pr (.i .u8) (.i .i64))))),(.sl (.i .i64))],[kqw,(.i .i64)],fun x=>kds x.1 x.2.1 x.2.2,[],[]⟩
theorem kjN:Good Try.prog 16 khw:=
 kaj Try.func16 (by kernel_rfl) (An:=[(0,⟨⟨[(10,.c (.i .i64)),(9,.ptr 7 0)],[(7,.bx 44 [.c (.sl (.i .i64)),.c (.i .i64),.c (.sl (.pr (.i .i64) (.pr (.i .u8) (.i .i64))))])]⟩,⟨[(9,.ptr 8 0)],[(8,.bx 44 [.c (.sl (.i .i64)),.c (.i .i64),.c (.sl (.pr (.i .i64) (.pr (.i .u8) (.i .i64))))])]⟩,[1,2,0,6],[2,0,1],9,false,""⟩),(8,⟨⟨[(13,.c (.i .i64)),(11,.mw 8),(12,.ptr 11 0)],[(8,.sl 5 (.i .u8)),(11,.bx 44 [.mw 9,.c (.i .i64),.mw 10]),(9,.sl 3 (.i .i64))]⟩,⟨[(11,.mw 12),(12,.ptr 13 0)],[(12,.sl 5 (.i .u8)),(13,.bx 44 [.mw 14,.c (.i .i64),.mw 10]),(14,.sl 3 (.i .i64))]⟩,[10,9],[10,7],15,false,""⟩),(78,⟨⟨[],[]⟩,⟨[(88,.c .b)],[]⟩,[11,12,9,10],[12,13,14,10,7],15,false,""⟩)]) [(55,kiO),(54,kin),(53,kgx),(52,keF),(51,kei)] (.cons klN <| .cons kkZ <| .cons kgW <| .cons kfG <| .cons kek <| .nil) (fun x=>by kernel_rfl)
def kcv:Ctr:=⟨ "",[(.sl (.i .u8)),(.sl (.i .u8))],[(.i .i64)],fun x=>kaU x.1 x.2,[],[]⟩
theorem kdX:Good Try.prog 56 kcv:=
 kaj Try.func56 (by kernel_rfl) (An:=[(0,⟨⟨[(11,.c (.i .i64))],[]⟩,⟨[],[]⟩,[10,9,1,0],[],0,true,""⟩)]) [(97,kdj)] (.cons kdV <| .nil) (fun x=>by kernel_rfl)
def kki:Ctr:=⟨ "",[(.sl (.pr (.i .i64) (.pr (.i .u8) (.i .i64)))),(.sl (.pr (.i .i64) (.pr (.i .u8) (.i .i64)))),(.sl (.sl (.pr (.i .i64) (.pr (.i .u8) (.i .i64))))),(.sl (.i .i64))],[(.sl (.i .u8)),(.i .i64),(.i .i64)],fun x=>kfz x.1 x.2.1 x.2.2.1 x.2.2.2,[],[]⟩
theorem kmi:Good Try.prog 17 kki:=
 kaj Try.func17 (by kernel_rfl) (An:=[(113,⟨⟨[],[]⟩,⟨[(11,.c (.i .i64))],[]⟩,[6,7,1,0],[0,1],4,false,""⟩),(0,⟨⟨[],[(5,.bx 26 [.mw 4]),(4,.sl 3 (.i .i64))]⟩,⟨[],[(5,.bx 26 [.mw 9]),(9,.sl 3 (.i .i64))]⟩,[37,0,6,12,7],[0,1],10,false,""⟩),(8,⟨⟨[],[(11,.bx 49 [.c (.sl (.i .u8))]),(12,.bx 3 [.c (.i .i64)])]⟩,⟨[],[(11,.bx 49 [.c (.sl (.i .u8))]),(12,.bx 3 [.c (.i .i64)])]⟩,[46,14,15,12,6,7],[5,9,0,1],17,false,""⟩),(16,⟨⟨[(51,.c (.i .i64))],[(12,.bx 3 [.c (.i .i64)]),(11,.bx 49 [.c (.sl (.i .u8))])]⟩,⟨[],[(11,.bx 49 [.c (.sl (.i .u8))]),(12,.bx 3 [.c (.i .i64)])]⟩,[50,49,16],[],17,false,""⟩),(24,⟨⟨[(64,.c (.i .i64)),(19,.mw 15)],[(15,.sl 5 (.i .u8))]⟩,⟨[(19,.mw 16)],[(16,.sl 5 (.i .u8))]⟩,[63,18,51],[12,11],17,false,""⟩)]) [(56,kcv),(48,kfM),(47,kgn),(91,kdG),(46,kfK),(45,kda)] (.cons kdX <| .cons kgF <| .cons kgS <| .cons kdP <| .cons kgi <| .cons kcW <| .nil) (fun x=>by kernel_rfl)
def kio:Ctr:=⟨ "",[(.sl (.pr (.i .i64) (.pr (.i .u8) (.i .i64)))),(.sl (.pr (.i .i64) (.pr (.i .u8) (.i .i64)))),(.sl (.sl (.pr (.i .i64) (.pr (.i .u8) (.i .i64))))),(.sl (.i .i64))],[(.sl (.i .u8)),(.i .i64),(.i .i64)],fun x=>kea x.1 x.2.1 x.2.2.1 x.2.2.2,[],[]⟩
theorem klc:Good Try.prog 18 kio:=
 kaj Try.func18 (by kernel_rfl) (An:=[(0,⟨⟨[(13,.c (.i .i64)),(12,.c (.i .i64))],[]⟩,⟨[(12,.c (.i .i64))],[]⟩,[2,3,0,1],[],1,false,""⟩),(8,⟨⟨[(16,.c (.i .i64)),(14,.c (.i .i64)),(15,.mw 1)],[(1,.sl 5 (.i .u8))]⟩,⟨[(15,.mw 2),(14,.c (.i .i64))],[(2,.sl 5 (.i .u8))]⟩,[12,2,3,0,1],[],3,false,""⟩),(16,⟨⟨[(20,.c (.i .i64)),(17,.mw 2),(19,.c (.i .i64)),(18,.c (.i .i64))],[(2,.sl 5 (.i .u8))]⟩,⟨[(18,.c (.i .i64)),(17,.mw 3)],[(3,.sl 5 (.i .u8))]⟩,[14,16,15],[1],4,false,""⟩)]) [(53,kgx),(52,keF),(51,kei)] (.cons kgW <| .cons kfG <| .cons kek <| .nil) (fun x=>by kernel_rfl)
def kgj:Ctr:=⟨ "",[(.sl (.i .i64)),(.sl (.i .i64))],[.b],fun x=>kcJ x.1 x.2,[],[]⟩
theorem kiB:Good Try.prog 14 kgj:=
 kaj Try.func14 (by kernel_rfl) (An:=[(0,⟨⟨[(5,.c (.i .i64))],[]⟩,⟨[],[]⟩,[0,1],[],0,true,""⟩)]) [] (.nil) (fun x=>by kernel_rfl)
def kfP:Ctr:=⟨ "",[(.sl (.pr (.i .i64) (.pr (.i .u8) (.i .i64)))),(.sl (.pr (.i .i64) (.pr (.i .u8) (.i .i64))))],[.b],fun x=>kcp x.1 x.2,[],[]⟩
theorem khW:Good Try.prog 19 kfP:=
 kaj Try.func19 (by kernel_rfl) (An:=[(0,⟨⟨[(5,.c (.i .i64))],[]⟩,⟨[],[]⟩,[0,1],[],0,true,""⟩)]) [] (.nil) (fun x=>by kernel_rfl)
def kkM:Ctr:=⟨ "",[(.sl (.pr (.i .i64) (.pr (.i .u8) (.i .i64)))),(.sl (.pr (.i .i64) (.pr (.i .u8) (.i .i64)))),(.sl (.sl (.pr (.i .i64) (.pr (.i .u8) (.i .i64))))),(.sl (.i .i64))],[.b],fun x=>kfa x.1 x.2.1 x.2.2.1 x.2.2.2,[],[]⟩
theorem law08_BoxPlans_C_ok:Good Try.prog 4 kkM:=
 kaj Try.func4 (by kernel_rfl) (An:=[(6,⟨⟨[],[]⟩,⟨[(46,.c .b)],[]⟩,[0,1,2,3],[],0,false,""⟩)]) [(19,kfP),(14,kgj),(18,kio),(17,kki),(16,khw),(15,kiW),(7,kjB)] (.cons khW <| .cons kiB <| .cons klc <| .cons kmi <| .cons kjN <| .cons klI <| .cons klA <| .nil) (fun x=>by kernel_rfl)
end Go.Abs
namespace Go.Abs
open Go
abbrev It:=Int×Int×Int
def vP (x:It):Bool:=decide (0<=x.1)&&decide (x.1<=15)&&decide (x.2.1<=15)
def ltI (x y:It):Bool:=decide (x.1<y.1)||(x.1==y.1&&decide (x.2.1<y.2.1))
def okN (x:It):Bool:=decide (1<=x.2.2)&&decide (x.2.2<=1000)
def badI (l:List It) (i:Nat) (x:It):Bool:=!vP x||(decide (0<i)&&!ltI ((l[i-1]?).getD x) x)
def ordI (a b:Int×Int):Int:=if a.1<b.1 then -1 else if b.1<a.1 then 1 else if a.2<b.2 then -1 else if b.2<a.2 then 1 else 0
def stk (l:List It):Bool:=decide (l.length<=30)&&!(l.zipIdx.any fun x=>badI l x.2 x.1)&&l.all okN
@[simp] theorem kdk (n lo hi:Int):kcc n lo hi=some (decide (lo<=n)&&decide (n<=hi)):=by
 unfold kcc; by_cases h:lo<=n <;> simp [h]
@[simp] theorem kuG (lo hi n:Int):keX lo hi n=some (decide (lo<=n)&&decide (n<=hi)):=by
 unfold keX; by_cases h:lo<=n <;> simp [h]
@[simp] theorem kjR (x:It):kdL (x.1,x.2.1)=some (vP x):=by
 unfold kdL vP
 by_cases h1:0<=x.1 <;> by_cases h2:x.1<=15 <;> simp [h1,h2]
@[simp] theorem klW (x:It):keQ x.1 x.2.1=some (vP x):=by
 unfold keQ vP
 by_cases h1:0<=x.1 <;> by_cases h2:x.1<=15 <;> simp [h1,h2]
@[simp] theorem klJ (x y:It):kdw x.1 x.2.1 y.1 y.2.1=some (ltI x y):=by
 unfold kdw ltI
 by_cases h1:x.1<y.1
 ·simp [h1]
 ·by_cases h2:x.1=y.1 <;> simp [h1,h2]
def cmpI (a b:Int):Int:=if a<b then -1 else if b<a then 1 else 0
@[simp] theorem khZ (a b:Int):kbF a b=some (cmpI a b):=by
 unfold kbF kef cmpI
 by_cases h1:a<b <;> by_cases h2:b<a <;> simp [h1,h2]
@[simp] theorem knh (a b:Int):kbM a b=some (cmpI a b):=by
 unfold kbM kdl cmpI
 by_cases h1:a<b <;> by_cases h2:b<a <;> simp [h1,h2]
@[simp] theorem knl (a b:Int):keN [a,b]=some (if a≠0 then a else b):=by
 unfold keN
 rw [kcu (F:=keh [a,b]) [a,b] (by simp) (fun i x=>if x != 0 then some x else none) (fun i hi=>by
  unfold keh
  have h2:i<2:=by simpa using hi
  rw [if_pos (by rw [kad]; simp; omega),kak hi,kar (by omega)]
  simp only [jag]
  by_cases h:([a,b][i] != 0)=true <;> simp [h,nextL]) (by unfold keh; rw [if_neg (by simp [kad])])]
 simp only [jbw,List.zipIdx_nil,jds,List.findSome?_nil]
 by_cases ha:a=0
 ·by_cases hb:b=0 <;> simp [ha,hb,endL]
 ·simp [ha,endL]
theorem kiU (a b:Int×Int):kfE a b=some (ordI a b):=by
 unfold kfE ordI
 simp only [khZ,knh,jag,knl,cmpI]
 by_cases h1:a.1<b.1
 ·simp [h1]
 ·by_cases h2:b.1<a.1 <;> simp [h1,h2]
theorem ktF (x y:It):decide (0<=ordI (x.1,x.2.1) (y.1,y.2.1)) = !ltI x y:=by
 unfold ordI ltI
 by_cases h1:x.1<y.1
 ·simp [h1]
 ·by_cases h2:y.1<x.1
  ·simp [h1,h2]; omega
  ·have h3:x.1=y.1:=by omega
   by_cases h4:x.2.1<y.2.1
   ·simp [h1,h2,h3,h4]
   ·by_cases h5:y.2.1<x.2.1 <;> simp [h1,h2,h3,h4,h5]
theorem kuE {α:Type} (p q:α->Bool) (l:List α):(l.any fun x=>p x||q x)=(l.any p||l.any q):=by
 induction l with
 | nil=>rfl
 | cons x l ih=>simp only [jec,ih]; cases p x <;> cases q x <;> simp
theorem kqv {α:Type} (q:α->Bool):∀ (l:List α) (k:Nat),((l.zipIdx k).any fun x=>q x.1)=l.any q
 | [],k=>rfl
 | x::l,k=>by rw [jbw,jec,jec,kqv q l (k+1)]
theorem kmS {l:List It} {i:Nat} (hi:i<l.length) (x:It):(l[i-1]?).getD x=l[i-1]:=by rw [jaf (by omega)]; rfl
theorem kmg (l:List It) (hl:l.length<=1000):kbO l 30 (fun u=>(kcX u).bind fun v=>some v)=some (!(l.zipIdx.any fun x=>badI l x.2 x.1)&&decide (l.length<=30)):=by
 unfold kbO
 rw [kfJ (F:=kbw l _) false l (by omega) (badI l) (fun i hi=>?_) (by unfold kbw; rw [if_neg (by simp [kad])])]
 ·by_cases h:(l.zipIdx.any fun x=>badI l x.2 x.1)=true
  rotate_left
  ·rw [jbh] at h
   simp only [h,jal,if_false,jag,Bool.not_false,Bool.true_and,kad]
   congr 2; simp only [eq_iff_iff]; omega
  ·simp [h]
 ·unfold kbw
  rw [if_pos (by rw [kad]; simpa using hi),kak hi,kar (by omega)]
  simp only [jag,kcX,kjR,badI]
  by_cases hv:vP l[i]=true
  rotate_left
  ·rw [jbh] at hv; simp [hv]
  ·simp only [hv,Bool.not_true,jal,if_false,jdm]
   by_cases h0:0<i
   ·rw [if_pos (by simpa using h0),knb h0 (by omega),kak (by omega)]
    simp only [jag,kiU,ktF,kmS hi,h0,decide_true,Bool.true_and]
    by_cases h9:ltI l[i-1] l[i]=true <;> simp [h9]
   ·have:i=0:=by omega
    subst this; simp
theorem kqA {α:Type} (p:α->Bool) (l:List α):(l.any fun x=>!p x) = !l.all p:=by
 induction l with
 | nil=>rfl
 | cons x l ih=>simp only [jec,jdq,ih,Bool.not_and]
theorem kko (l:List It) (hl:l.length<=1000) (p:It->Bool):kas l (fun x=>some (p x))=some (l.any p):=by
 unfold kas kaQ
 rw [kcu (F:=kaA l _) l (by omega) (fun i x=>if p x then some (i:Int) else none) (fun i hi=>by
  unfold kaA
  rw [if_pos (by rw [kad]; simpa using hi),kak hi,kar (by omega)]
  simp only [jag]
  by_cases h:p l[i]=true <;> simp [h,nextL]) (by unfold kaA; rw [if_neg (by simp [kad])])]
 have:∀ (l:List It) (k:Nat),endL ((l.zipIdx k).findSome? fun x=>if p x.1 then some (x.2:Int) else none)=(if l.any p then .inl ((k:Int)+(l.findIdx p:Nat)) else .inr ()):=by
  intro l
  induction l with
  | nil=>intro k; rfl
  | cons x l ih=>
   intro k
   rw [jbw,jds,jec,List.findIdx_cons]
   cases hp:p x with
   | true=>simp [endL]
   | false=>
    simp only [jal,if_false,jdm,cond_false]
    rw [ih (k+1)]
    congr 2; push_cast; omega
 rw [this l 0]
 by_cases h:l.any p=true <;> simp [h]
theorem koI (l:List It) (hl:l.length<=1000):kgQ l=some (if stk l then 0 else 8):=by
 unfold kgQ
 rw [kmg l hl]
 have e:(fun u0:It=>(keL u0).bind fun u1=>some u1)=fun u=>some (!okN u):=by
  funext u; simp [keL,okN]
 rw [e,kko l hl,kqA]
 simp only [jag,stk]
 by_cases h1:(l.zipIdx.any fun x=>badI l x.2 x.1)=true <;> by_cases h2:l.length<=30 <;> by_cases h3:l.all okN=true <;> (try rw [jbh] at h1) <;> (try rw [jbh] at h3) <;> simp only [h1,h2,h3] <;> rfl
theorem kdI (l:List It):kcz l=some (stk l):=by
 unfold kcz stk
 rw [kad]
 by_cases hl:(30:Int)<l.length
 ·rw [if_pos (by simpa using hl)]
  have:¬ l.length<=30:=by omega
  simp [this]
 ·rw [if_neg (by simpa using hl)]
  have h30:l.length<=30:=by omega
  rw [kfJ (F:=kdE l) false l (by omega) (fun i x=>badI l i x||!okN x) (fun i hi=>?_) (by unfold kdE; rw [if_neg (by simp [kad])])]
  ·rw [kuE (fun x:It×Nat=>badI l x.2 x.1) (fun x=>!okN x.1),kqv (fun x=>!okN x),kqA]
   by_cases h1:(l.zipIdx.any fun x=>badI l x.2 x.1)=true <;> by_cases h2:l.all okN=true <;> simp [h30,h1,h2]
  ·unfold kdE
   rw [if_pos (by rw [kad]; simpa using hi),kak hi,kar (by omega)]
   simp only [jag,klW,badI,kdk]
   rw [show (decide (1<=l[i].2.2)&&decide (l[i].2.2<=1000))=okN l[i] from rfl]
   by_cases hv:vP l[i]=true
   rotate_left
   ·rw [jbh] at hv; simp [hv]
   ·by_cases hn:okN l[i]=true
    rotate_left
    ·rw [jbh] at hn; simp [hv,hn]
    ·simp only [hv,hn,Bool.not_true,jal,if_false,jdm,Bool.or_false]
     by_cases h0:0<i
     ·rw [if_pos (by simpa using h0),knb h0 (by omega),kak (by omega)]
      simp only [jag,kmS hi,h0,decide_true,Bool.true_and]
      rw [show kdw l[i-1].1 l[i-1].2.1 l[i].1 l[i].2.1=_ from klJ l[i-1] l[i]]
      simp only [jag]
      by_cases h9:ltI l[i-1] l[i]=true <;> simp [h9]
     ·have:i=0:=by omega
      subst this; simp
def key (x:It):Int:=16*x.1+x.2.1
def look:List It->Int->Int
 | [],_=>0
 | x::l,q=>if key x=q then x.2.2 else look l q
def srt (l:List It):Prop:=l.Pairwise fun x y=>key x<key y
def Vld (l:List It):Prop:=∀ x∈l,0<=x.1/\x.1<=15/\0<=x.2.1/\x.2.1<=15
theorem kbT:∀ {l:List It} {q:Int},(∀ x∈l,key x≠q)->look l q=0
 | [],q,_=>rfl
 | x::l,q,h=>by
  simp only [look]
  rw [if_neg (h x (by simp)),kbT fun y hy=>h y (by simp [hy])]
theorem keW:∀ {l:List It} {x:It},srt l->x∈l->look l (key x)=x.2.2
 | [],x,_,h=>by cases h
 | y::l,x,hs,h=>by
  simp only [srt,jda] at hs
  simp only [look]
  rcases jat.1 h with rfl | h
  ·simp
  ·have:=hs.1 x h
   rw [if_neg (by omega)]
   exact keW hs.2 h
theorem ktH {x y:It} (hx:0<=x.2.1/\x.2.1<=15) (hy:0<=y.2.1/\y.2.1<=15) (h:key x=key y):x.1=y.1/\x.2.1=y.2.1:=by
 unfold key at h
 omega
theorem uniq:∀ {l l':List It},srt l->srt l'->Vld l->Vld l'->(∀ x∈l,x.2.2≠0)->(∀ x∈l',x.2.2≠0)->(∀ q,look l q=look l' q)->l=l'
 | [],[],_,_,_,_,_,_,_=>rfl
 | [],y::l',_,_,_,_,_,hn,h=>by
  have:=h (key y)
  simp only [look,if_true] at this
  exact absurd this.symm (hn y (by simp))
 | x::l,[],_,_,_,_,hn,_,h=>by
  have:=h (key x)
  simp only [look,if_true] at this
  exact absurd this (hn x (by simp))
 | x::l,y::l',hs,hs',hv,hv',hn,hn',h=>by
  have s1:=hs
  have s2:=hs'
  simp only [srt,jda] at s1 s2
  have hk:key x=key y:=by
   rcases Int.lt_trichotomy (key x) (key y) with h1 | h1 | h1
   ·have e:=h (key x)
    simp only [look,if_true] at e
    rw [if_neg (by omega),kbT (fun z hz=>by have:=s2.1 z hz; omega)] at e
    exact absurd e (hn x (by simp))
   ·exact h1
   ·have e:=h (key y)
    simp only [look,if_true] at e
    rw [if_neg (by omega),kbT (fun z hz=>by have:=s1.1 z hz; omega)] at e
    exact absurd e.symm (hn' y (by simp))
  have hN:x.2.2=y.2.2:=by
   have e:=h (key x)
   simp only [look,if_true] at e
   rw [if_pos hk.symm] at e
   exact e
  have vx:=hv x (by simp)
  have vy:=hv' y (by simp)
  obtain ⟨e1,e2⟩:=ktH ⟨vx.2.2.1,vx.2.2.2⟩ ⟨vy.2.2.1,vy.2.2.2⟩ hk
  have hxy:x=y:=by
   obtain ⟨a,b,c⟩:=x
   obtain ⟨a',b',c'⟩:=y
   simp only at e1 e2 hN
   subst e1; subst e2; subst hN; rfl
  subst hxy
  rw [uniq s1.2 s2.2 (fun z hz=>hv z (by simp [hz])) (fun z hz=>hv' z (by simp [hz])) (fun z hz=>hn z (by simp [hz])) (fun z hz=>hn' z (by simp [hz])) fun q=>by
   have e:=h q
   simp only [look] at e
   by_cases hq:key x=q
   ·rw [kbT (fun z hz=>by have:=s1.1 z hz; omega),kbT (fun z hz=>by have:=s2.1 z hz; omega)]
   ·rw [if_neg hq,if_neg hq] at e; exact e]
structure Stk (l:List It):Prop where
 v:Vld l
 s:srt l
 n:∀ x∈l,1<=x.2.2/\x.2.2<=1000
 len:l.length<=30
theorem kqR {x y:It} (hx:0<=x.2.1/\x.2.1<=15) (hy:0<=y.2.1/\y.2.1<=15):ltI x y=decide (key x<key y):=by
 unfold ltI key
 rw [Bool.eq_iff_iff]
 simp only [jap,jaj,jab,beq_iff_eq]
 omega
theorem kir {l:List It} {p:Nat->It->Bool} (h:(l.zipIdx.any fun x=>p x.2 x.1)=false) (i:Nat) (hi:i<l.length):p i l[i]=false:=by
 rw [List.any_eq_false] at h
 have:=h (l[i],i) (by rw [jcu]; simp [hi])
 simpa using this
theorem kiZ {l:List It} (h:stk l=true) (hc:∀ x∈l,0<=x.2.1):Stk l:=by
 unfold stk at h
 simp only [jab,jbc,jaj] at h
 obtain ⟨⟨h1,h2⟩,h3⟩:=h
 have hv:∀ x∈l,vP x=true:=fun x hx=>by
  obtain ⟨i,hi,rfl⟩:=jdn.1 hx
  have:=kir h2 i hi
  unfold badI at this
  simp only [jbt,Bool.not_eq_false'] at this
  exact this.1
 have hV:Vld l:=fun x hx=>by
  have:=hv x hx
  unfold vP at this
  simp only [jab,jaj] at this
  exact ⟨this.1.1,this.1.2,hc x hx,this.2⟩
 refine ⟨hV,?_,fun x hx=>?_,h1⟩
 ·have adj:∀ i,(hi:i+1<l.length)->key l[i]<key l[i+1]:=fun i hi=>by
   have:=kir h2 (i+1) hi
   unfold badI at this
   simp only [jbt,jdv,Nat.succ_pos,decide_true,Bool.true_eq_false,false_or,Nat.add_sub_cancel,Bool.not_eq_false'] at this
   have h5:=this.2
   rw [jaf (by omega),jca] at h5
   have v1:=hV l[i] (jce _)
   have v2:=hV l[i+1] (jce _)
   rw [kqR ⟨v1.2.2.1,v1.2.2.2⟩ ⟨v2.2.2.1,v2.2.2.2⟩] at h5
   simpa using h5
  refine List.pairwise_iff_getElem.2 fun i j hi hj hij=>?_
  have:∀ d,(hd:i+d+1<l.length)->key l[i]<key l[i+d+1]:=by
   intro d
   induction d with
   | zero=>intro hd; exact adj i hd
   | succ d ih=>
    intro hd
    have h6:=ih (by omega)
    have h7:=adj (i+d+1) hd
    exact Int.lt_trans h6 h7
  have h8:=this (j-i-1) (by omega)
  have e:i+(j-i-1)+1=j:=by omega
  simpa only [e] using h8
 ·have:=jam.1 h3 x hx
  unfold okN at this
  simpa using this
theorem kuC {l:List It} (hv:Vld l) (hs:srt l):stk l=(decide (l.length<=30)&&l.all okN):=by
 unfold stk
 have:(l.zipIdx.any fun x=>badI l x.2 x.1)=false:=by
  rw [List.any_eq_false]
  intro x hx
  rw [jcu] at hx
  obtain ⟨hi,e⟩:=jad.1 hx
  obtain ⟨y,i⟩:=x
  simp only at hi e
  subst e
  have v1:=hv l[i] (jce _)
  unfold badI vP
  simp only [jbh,jbt,Bool.not_eq_false',jab,jaj,jdv]
  refine ⟨⟨⟨v1.1,v1.2.1⟩,v1.2.2.2⟩,?_⟩
  by_cases h0:0<i
  ·right
   rw [jaf (by omega),jca]
   have v2:=hv l[i-1] (jce _)
   rw [kqR ⟨v2.2.2.1,v2.2.2.2⟩ ⟨v1.2.2.1,v1.2.2.2⟩]
   simpa using List.pairwise_iff_getElem.1 hs (i-1) i (by omega) hi (by omega)
  ·left; simpa using h0
 rw [this]; simp
theorem kbs {l:List It} (h:Stk l) (q:Int):0<=look l q/\look l q<=1000:=by
 have hn:=h.n
 clear h
 induction l with
 | nil=>simp [look]
 | cons x l ih=>
  simp only [look]
  split
  ·have:=hn x (by simp); omega
  ·exact ih fun y hy=>hn y (by simp [hy])
theorem kiN {l:List It} (hv:Vld l) (hl:l.length<=1000) {k c:Int} (hc:0<=c/\c<=15):kfF l k c=some (look l (16*k+c)):=by
 unfold kfF
 rw [kcu (F:=keK l k c) l (by omega) (fun i x=>if x.1=k/\x.2.1=c then some x.2.2 else none) (fun i hi=>by
  unfold keK
  rw [if_pos (by rw [kad]; simpa using hi),kak hi,kar (by omega)]
  simp only [jag]
  by_cases h1:l[i].1=k <;> by_cases h2:l[i].2.1=c <;> simp [h1,h2,nextL]) (by unfold keK; rw [if_neg (by simp [kad])])]
 have:∀ (l:List It) (i:Nat),Vld l->((l.zipIdx i).findSome? fun x=>if x.1.1=k/\x.1.2.1=c then some x.1.2.2 else none).getD 0=look l (16*k+c):=by
  intro l
  induction l with
  | nil=>intro i _; rfl
  | cons x l ih=>
   intro i hv
   have vx:=hv x (by simp)
   have hk:(key x=16*k+c)↔(x.1=k/\x.2.1=c):=by unfold key; omega
   rw [jbw,jds]
   simp only [look]
   by_cases h:x.1=k/\x.2.1=c
   ·rw [if_pos (hk.2 h),if_pos h]; rfl
   ·rw [if_neg (fun e=>h (hk.1 e)),if_neg h]
    exact ih (i+1) fun y hy=>hv y (by simp [hy])
 have e:=this l 0 hv
 simp only [jag]
 generalize (l.zipIdx.findSome? fun x=>if x.1.1=k/\x.1.2.1=c then some x.1.2.2 else none)=o at e ⊢
 cases o with
 | none=>rw [<-e]; rfl
 | some v=>rw [<-e]; rfl
theorem ktg {x y:It} (hx:0<=x.2.1/\x.2.1<=15) (hy:0<=y.2.1/\y.2.1<=15):(ordI (x.1,x.2.1) (y.1,y.2.1)<0↔key x<key y)/\(ordI (x.1,x.2.1) (y.1,y.2.1)=0↔key x=key y):=by
 unfold ordI key
 simp only
 constructor <;> (repeat' split) <;> omega
theorem kqb (b:List It):kbR [] b=some 1:=by unfold kbR; rw [if_pos (by rfl)]
theorem koH (x:It) (a:List It):kbR (x::a) []=some (-1):=by
 unfold kbR
 rw [if_neg (by rw [kad]; simp; omega),if_pos (by rfl)]
theorem kgJ (x y:It) (a b:List It):kbR (x::a) (y::b)=some (ordI (x.1,x.2.1) (y.1,y.2.1)):=by
 unfold kbR
 rw [if_neg (by rw [kad]; simp; omega),if_neg (by rw [kad]; simp; omega),kfb,kfb]
 simp only [jag,kcX,kiU]
structure Mrg (h:Int->Int->Int) (a b r:List It):Prop where
 s:srt r
 v:Vld r
 n:∀ x∈r,x.2.2≠0
 lo:∀ p,(∀ x∈a,p<key x)->(∀ x∈b,p<key x)->∀ x∈r,p<key x
 l:∀ q,look r q=h (look a q) (look b q)
 len:r.length<=a.length+b.length
theorem Mrg.cons {h:Int->Int->Int} {a b a2 b2 r:List It} (hm:Mrg h a2 b2 r) {k c:Int} (hv:0<=k/\k<=15/\0<=c/\c<=15) (ha2:∀ x∈a2,16*k+c<key x) (hb2:∀ x∈b2,16*k+c<key x) (h0:h 0 0=0)
  (hla:∀ q,q≠16*k+c->look a q=look a2 q) (hlb:∀ q,q≠16*k+c->look b q=look b2 q) (hlen:a2.length+b2.length<a.length+b.length) (hlo:∀ p,(∀ x∈a,p<key x)->(∀ x∈b,p<key x)->p<16*k+c/\(∀ x∈a2,p<key x)/\∀ x∈b2,p<key x) :
  Mrg h a b (if h (look a (16*k+c)) (look b (16*k+c))≠0 then (k,c,h (look a (16*k+c)) (look b (16*k+c)))::r else r):=by
 have hr:=hm.lo _ ha2 hb2
 generalize hn:h (look a (16*k+c)) (look b (16*k+c))=n
 have hkey:key (k,c,n)=16*k+c:=rfl
 by_cases hz:n≠0
 ·rw [if_pos hz]
  refine ⟨jda.2 ⟨fun y hy=>by rw [hkey]; exact hr y hy,hm.s⟩,fun x hx=>?_,fun x hx=>?_,fun p h1 h2 x hx=>?_,fun q=>?_,by have:=hm.len; simp only [jaq]; omega⟩
  ·rcases jat.1 hx with rfl | hx
   ·exact hv
   ·exact hm.v x hx
  ·rcases jat.1 hx with rfl | hx
   ·exact hz
   ·exact hm.n x hx
  ·obtain ⟨g1,g2,g3⟩:=hlo p h1 h2
   rcases jat.1 hx with rfl | hx
   ·rw [hkey]; exact g1
   ·exact hm.lo p g2 g3 x hx
  ·simp only [look]
   rw [hkey]
   by_cases hq:16*k+c=q
   ·rw [if_pos hq,<-hq,hn]
   ·rw [if_neg hq,hm.l q,hla q (fun e=>hq e.symm),hlb q (fun e=>hq e.symm)]
 ·rw [if_neg hz]
  have hz:n=0:=by omega
  subst hz
  refine ⟨hm.s,hm.v,hm.n,fun p h1 h2 x hx=>?_,fun q=>?_,by have:=hm.len; omega⟩
  ·obtain ⟨g1,g2,g3⟩:=hlo p h1 h2
   exact hm.lo p g2 g3 x hx
  ·by_cases hq:q=16*k+c
   ·subst hq
    rw [hn]
    exact kbT fun x hx=>by have:=hr x hx; omega
   ·rw [hm.l q,hla q hq,hlb q hq]
theorem kbD {x:It} {l:List It} {q:Int} (h:key x≠q):look (x::l) q=look l q:=by simp only [look]; rw [if_neg h]
theorem kbq {x:It} {l:List It}:look (x::l) (key x)=x.2.2:=by simp [look]
theorem krI (how:Int×Int->Option Int) (h:Int->Int->Int) (hh:∀ n m,how (n,m)=some (h n m)) (h0:h 0 0=0):∀ (n:Nat) (a b out:List It),a.length+b.length<=n->srt a->srt b->Vld a->Vld b->out.length+n<=1000->
  ∃ r,itN (kbf how) (n+1) (a,b,out)=some (out++r)/\Mrg h a b r:=by
 intro n
 induction n with
 | zero=>
  intro a b out hn sa sb va vb ho
  have ea:a=[]:=jbf (by omega)
  have eb:b=[]:=jbf (by omega)
  subst ea; subst eb
  refine ⟨[],?_,⟨List.Pairwise.nil,fun x hx=>(by cases hx),fun x hx=>(by cases hx),fun p _ _ x hx=>(by cases hx),fun q=>by simp [look,h0],by simp⟩⟩
  rw [jbe]
  exact kbK rfl
 | succ n ih=>
  intro a b out hn sa sb va vb ho
  have fin:∀ (a2 b2:List It) (k c:Int) (N:Int) (o:List It),kbf how (a,b,out)=some (.inl (a2,b2,if N≠0 then out++[(k,c,N)] else out))->N=h (look a (16*k+c)) (look b (16*k+c))->(0<=k/\k<=15/\0<=c/\c<=15)->
    (∀ x∈a2,16*k+c<key x)->(∀ x∈b2,16*k+c<key x)->(∀ q,q≠16*k+c->look a q=look a2 q)->(∀ q,q≠16*k+c->look b q=look b2 q)->a2.length+b2.length<a.length+b.length->srt a2->srt b2->Vld a2->Vld b2->
    (∀ p,(∀ x∈a,p<key x)->(∀ x∈b,p<key x)->p<16*k+c/\(∀ x∈a2,p<key x)/\∀ x∈b2,p<key x)->∃ r,itN (kbf how) (n+1+1) (a,b,out)=some (out++r)/\Mrg h a b r:=by
   intro a2 b2 k c N o hgo hN hv ha2 hb2 hla hlb hlen s2 t2 v2 w2 hlo
   obtain ⟨r,g1,g2⟩:=ih a2 b2 (if N≠0 then out++[(k,c,N)] else out) (by omega) s2 t2 v2 w2 (by split <;> (try simp only [jbi,jdc]) <;> omega)
   refine ⟨_,?_,g2.cons hv ha2 hb2 h0 hla hlb hlen hlo⟩
   rw [kdm hgo,g1,<-hN]
   by_cases hz:N≠0
   ·rw [if_pos hz,if_pos hz,jar]; rfl
   ·rw [if_neg hz,if_neg hz]
  cases a with
  | nil=>
   cases b with
   | nil=>
    refine ⟨[],?_,⟨List.Pairwise.nil,fun x hx=>(by cases hx),fun x hx=>(by cases hx),fun p _ _ x hx=>(by cases hx),fun q=>by simp [look,h0],by simp⟩⟩
    rw [jbe]
    exact kbK rfl
   | cons y b=>
    have sb':=sb
    simp only [srt,jda] at sb'
    have vy:=vb y (by simp)
    refine fin [] b y.1 y.2.1 (h 0 y.2.2) out ?_ ?_ vy (fun x hx=>by cases hx) (fun x hx=>sb'.1 x hx) (fun q _=>rfl) (fun q hq=>kbD (fun e=>hq e.symm)) (by simp) List.Pairwise.nil sb'.2 va (fun x hx=>vb x (by simp [hx])) (fun p _ h2=>⟨h2 y (by simp),fun x hx=>(by cases hx),fun x hx=>h2 x (by simp [hx])⟩)
    ·unfold kbf
     simp only [kqb,kfb,kgM,jag,hh]
     rw [if_neg (by simp [kad]),show decide (0<lenI (y::b))=true by (simp [kad] <;> omega)]
     simp only [jag,if_true]
     rw [if_neg (by decide)]
     simp only [jag]
     by_cases hz:h 0 y.2.2=0
     ·simp [hz]
     ·rw [kbS (by simp only [jdc]; omega)]; simp [hz]
    ·show _=h (look [] (key y)) (look (y::b) (key y))
     rw [kbq]; rfl
  | cons x a=>
   have sa':=sa
   simp only [srt,jda] at sa'
   have vx:=va x (by simp)
   cases b with
   | nil=>
    refine fin a [] x.1 x.2.1 (h x.2.2 0) out ?_ ?_ vx (fun z hz=>sa'.1 z hz) (fun z hz=>by cases hz) (fun q hq=>kbD (fun e=>hq e.symm)) (fun q _=>rfl) (by simp) sa'.2 List.Pairwise.nil (fun z hz=>va z (by simp [hz])) vb (fun p h1 _=>⟨h1 x (by simp),fun z hz=>h1 z (by simp [hz]),fun z hz=>(by cases hz)⟩)
    ·unfold kbf
     simp only [koH,kfb,kgM,jag,hh]
     rw [if_pos (by simp [kad] <;> omega)]
     simp only [jag,if_true]
     rw [if_pos (by decide),if_neg (by decide)]
     simp only [jag]
     by_cases hz:h x.2.2 0=0
     ·simp [hz]
     ·rw [kbS (by simp only [jdc]; omega)]; simp [hz]
    ·show _=h (look (x::a) (key x)) (look [] (key x))
     rw [kbq]; rfl
   | cons y b=>
    have sb':=sb
    simp only [srt,jda] at sb'
    have vy:=vb y (by simp)
    obtain ⟨o1,o2⟩:=ktg (x:=x) (y:=y) ⟨vx.2.2.1,vx.2.2.2⟩ ⟨vy.2.2.1,vy.2.2.2⟩
    rcases Int.lt_trichotomy (key x) (key y) with hxy | hxy | hxy
    ·have e1:=o1.2 hxy
     refine fin a (y::b) x.1 x.2.1 (h x.2.2 0) out ?_ ?_ vx (fun z hz=>sa'.1 z hz) (fun z hz=>?_) (fun q hq=>kbD (fun e=>hq e.symm)) (fun q _=>rfl) (by simp) sa'.2 sb (fun z hz=>va z (by simp [hz])) vb (fun p h1 h2=>⟨h1 x (by simp),fun z hz=>h1 z (by simp [hz]),h2⟩)
     ·unfold kbf
      simp only [kgJ,kfb,kgM,jag,hh]
      rw [if_pos (by simp [kad] <;> omega)]
      simp only [jag,if_true]
      rw [if_pos (by simpa using Int.le_of_lt e1),if_neg (by simp; omega)]
      simp only [jag]
      by_cases hz:h x.2.2 0=0
      ·simp [hz]
      ·rw [kbS (by simp only [jdc]; omega)]; simp [hz]
     ·show _=h (look (x::a) (key x)) (look (y::b) (key x))
      rw [kbq,kbT (l:=y::b) (fun z hz=>by
       rcases jat.1 hz with rfl | hz
       ·omega
       ·have:=sb'.1 z hz; omega)]
     ·show key x<key z
      rcases jat.1 hz with rfl | hz
      ·exact hxy
      ·exact Int.lt_trans hxy (sb'.1 z hz)
    ·have e1:=o2.2 hxy
     refine fin a b x.1 x.2.1 (h x.2.2 y.2.2) out ?_ ?_ vx (fun z hz=>sa'.1 z hz) (fun z hz=>?_) (fun q hq=>kbD (fun e=>hq e.symm)) (fun q hq=>kbD (fun e=>hq (by rw [<-e,<-hxy]; rfl))) (by simp; omega) sa'.2 sb'.2 (fun z hz=>va z (by simp [hz])) (fun z hz=>vb z (by simp [hz])) (fun p h1 h2=>⟨h1 x (by simp),fun z hz=>h1 z (by simp [hz]),fun z hz=>h2 z (by simp [hz])⟩)
     ·unfold kbf
      simp only [kgJ,kfb,kgM,jag,hh,e1]
      rw [if_pos (by simp [kad] <;> omega)]
      simp only [jag,if_true]
      rw [if_pos (by decide),if_pos (by decide)]
      simp only [jag]
      by_cases hz:h x.2.2 y.2.2=0
      ·simp [hz]
      ·rw [kbS (by simp only [jdc]; omega)]; simp [hz]
     ·show _=h (look (x::a) (key x)) (look (y::b) (key x))
      rw [kbq,hxy,kbq]
     ·show key x<key z
      have:=sb'.1 z hz; omega
    ·have e1:0<ordI (x.1,x.2.1) (y.1,y.2.1):=by
      have n1:¬ ordI (x.1,x.2.1) (y.1,y.2.1)<0:=fun e=>by have:=o1.1 e; omega
      have n2:¬ ordI (x.1,x.2.1) (y.1,y.2.1)=0:=fun e=>by have:=o2.1 e; omega
      omega
     refine fin (x::a) b y.1 y.2.1 (h 0 y.2.2) out ?_ ?_ vy (fun z hz=>?_) (fun z hz=>sb'.1 z hz) (fun q _=>rfl) (fun q hq=>kbD (fun e=>hq e.symm)) (by simp) sa sb'.2 va (fun z hz=>vb z (by simp [hz])) (fun p h1 h2=>⟨h2 y (by simp),h1,fun z hz=>h2 z (by simp [hz])⟩)
     ·unfold kbf
      simp only [kgJ,kfb,kgM,jag,hh]
      rw [if_pos (by simp [kad] <;> omega)]
      simp only [jag,if_true]
      rw [if_neg (by simp; omega)]
      simp only [jag]
      by_cases hz:h 0 y.2.2=0
      ·simp [hz]
      ·rw [kbS (by simp only [jdc]; omega)]; simp [hz]
     ·show _=h (look (x::a) (key y)) (look (y::b) (key y))
      rw [kbq,kbT (l:=x::a) (fun z hz=>by
       rcases jat.1 hz with rfl | hz
       ·omega
       ·have:=sa'.1 z hz; omega)]
     ·show key y<key z
      rcases jat.1 hz with rfl | hz
      ·exact hxy
      ·exact Int.lt_trans hxy (sa'.1 z hz)
end Go.Abs
namespace Go.Abs.Fl
open Go Go.Abs
def sumN (f:Nat->Int):Nat->Int
 | 0=>0
 | n+1=>sumN f n+f n
theorem kfT {f g:Nat->Int}:∀ {n:Nat},(∀ i,i<n->f i=g i)->sumN f n=sumN g n
 | 0,_=>rfl
 | n+1,h=>by simp only [sumN]; rw [kfT fun i hi=>h i (by omega),h n (by omega)]
theorem kmc {f:Nat->Int}:∀ {n:Nat},(∀ i,i<n->0<=f i)->0<=sumN f n
 | 0,_=>jei 0
 | n+1,h=>by
  have:=kmc (f:=f) (n:=n) fun i hi=>h i (by omega)
  have:=h n (by omega)
  simp only [sumN]; omega
theorem kuy {f:Nat->Int}:∀ {n:Nat},(∀ i,i<n->0<=f i)->sumN f n<=0->∀ i,i<n->f i=0
 | 0,_,_,i,hi=>by omega
 | n+1,h,e,i,hi=>by
  have h1:=kmc (f:=f) (n:=n) fun i hi=>h i (by omega)
  have h2:=h n (by omega)
  simp only [sumN] at e
  by_cases hn:i=n
  ·subst hn; show f i=0; omega
  ·exact kuy (f:=f) (n:=n) (fun i hi=>h i (by omega)) (by omega) i (by omega)
theorem kkT {f g:Nat->Int} {i:Nat} {d:Int} (h:g i=f i+d):∀ {n:Nat},i<n->(∀ j,j<n->j≠i->g j=f j)->sumN g n=sumN f n+d
 | 0,hi,_=>by omega
 | n+1,hi,ho=>by
  simp only [sumN]
  by_cases e:i=n
  ·subst e
   rw [kfT (f:=g) (g:=f) fun j hj=>ho j (by omega) (by omega),h]; omega
  ·rw [kkT h (n:=n) (by omega) fun j hj hn=>ho j (by omega) hn,ho n (by omega) (by omega)]; omega
theorem knR {f:Nat->Int}:∀ {n:Nat},(∀ i,i<n->0<=f i)->∀ {i:Nat},i<n->f i<=sumN f n
 | 0,_,i,hi=>by omega
 | n+1,h,i,hi=>by
  have h1:=kmc (f:=f) (n:=n) fun i hi=>h i (by omega)
  have h2:=h n (by omega)
  simp only [sumN]
  by_cases hn:i=n
  ·subst hn; omega
  ·have:=knR (fun i hi=>h i (by omega)) (n:=n) (i:=i) (by omega); omega
section
variable (n m:Nat) (cap:Nat->Int) (may:Nat->Nat->Prop)
structure Val (u:Nat->Nat->Int) (l:Nat->Int):Prop where
 nn:∀ k,k<n->∀ j,j<m->0<=u k j
 ok:∀ k,k<n->∀ j,j<m->0<u k j->may k j
 ln:∀ j,j<m->0<=l j
 bal:∀ j,j<m->l j+sumN (fun k=>u k j) n=cap j
structure Sat (u:Nat->Nat->Int) (l:Nat->Int) (S:Nat->Bool):Prop where
 z:∀ k,k<n->S k=true->∀ j,j<m->may k j->l j=0
 c:∀ k,k<n->S k=true->∀ j,j<m->may k j->∀ k',k'<n->0<u k' j->S k'=true
end
def row (m:Nat) (u:Nat->Nat->Int) (k:Nat):Int:=sumN (u k) m
variable {n m:Nat} {cap:Nat->Int} {may:Nat->Nat->Prop} {u u':Nat->Nat->Int} {l l':Nat->Int} {S T:Nat->Bool}
theorem Val.take (v:Val n m cap may u l) {i j:Nat} {d:Int} (hi:i<n) (hj:j<m) (hm:may i j) (hd:0<=d) (hl:d<=l j)
  (h1:l' j=l j-d) (h2:u' i j=u i j+d) (h3:∀ j',j'<m->j'≠j->l' j'=l j') (h4:∀ k,k<n->∀ j',j'<m->¬ (k=i/\j'=j)->u' k j'=u k j') :
  Val n m cap may u' l'/\row m u' i=row m u i+d/\∀ k,k<n->k≠i->row m u' k=row m u k:=by
 refine ⟨⟨?_,?_,?_,?_⟩,?_,?_⟩
 ·intro k hk j' hj'
  by_cases e:k=i/\j'=j
  ·obtain ⟨rfl,rfl⟩:=e; rw [h2]; have:=v.nn k hk j' hj'; omega
  ·rw [h4 k hk j' hj' e]; exact v.nn k hk j' hj'
 ·intro k hk j' hj' hp
  by_cases e:k=i/\j'=j
  ·obtain ⟨rfl,rfl⟩:=e; exact hm
  ·rw [h4 k hk j' hj' e] at hp; exact v.ok k hk j' hj' hp
 ·intro j' hj'
  by_cases e:j'=j
  ·subst e; omega
  ·rw [h3 j' hj' e]; exact v.ln j' hj'
 ·intro j' hj'
  by_cases e:j'=j
  ·subst e
   rw [<-v.bal j' hj',h1,kkT (f:=fun k=>u k j') (g:=fun k=>u' k j') (i:=i) (d:=d) h2 hi fun k hk hn=>h4 k hk j' hj' (by omega)]; omega
  ·rw [<-v.bal j' hj',h3 j' hj' e,kfT fun k hk=>h4 k hk j' hj' (by omega)]
 ·exact kkT h2 hj fun j' hj' hn=>h4 i hi j' hj' (by omega)
 ·intro k hk hn
  exact kfT fun j' hj'=>h4 k hk j' hj' (by omega)
inductive Rch (n m:Nat) (may:Nat->Nat->Prop) (u:Nat->Nat->Int) (L:Nat->Prop):Nat->Prop
 | base {i:Nat}:i<n->L i->Rch n m may u L i
 | step {i j k:Nat}:Rch n m may u L i->j<m->may i j->k<n->0<u k j->Rch n m may u L k
theorem Rch.lt {L:Nat->Prop} {i:Nat} (h:Rch n m may u L i):i<n:=by cases h <;> assumption
theorem iter_inv {α β:Type} {F:α->Option (α⊕β)} (I:α->Prop) (m:α->Nat) (R:β->Prop)
  (h:∀ x,I x->(∃ z,F x=some (.inr z)/\R z)\/∃ y,F x=some (.inl y)/\I y/\m y<m x) (x:α) (hx:I x) (hm:m x<18446744073709551616):∃ z,iter F x=some z/\R z:=by
 have:∀ n x,I x->m x<n->∃ z,itN F n x=some z/\R z:=by
  intro n
  induction n with
  | zero=>intro x _ h0; omega
  | succ n ih=>
   intro x hx hm
   rcases h x hx with ⟨z,e,hz⟩ | ⟨y,e,hy,hlt⟩
   ·exact ⟨z,kbK e,hz⟩
   ·rw [kdm e]; exact ih y hy (by omega)
 obtain ⟨z,e,hz⟩:=this 18446744073709551616 x hx hm
 exact ⟨z,kdh e (jai _),hz⟩
def ua (U:List (List Int)) (k j:Nat):Int:=(U.getD k []).getD j 0
def la (L:List Int) (j:Nat):Int:=L.getD j 0
def sa (s:List Bool) (j:Nat):Bool:=s.getD j false
def upd (U:List (List Int)) (k j:Nat) (x:Int):List (List Int):=U.set k ((U.getD k []).set j x)
structure Shp (n m:Nat) (U:List (List Int)) (L:List Int):Prop where
 u:U.length=n
 r:∀ k,k<n->(U.getD k []).length=m
 l:L.length=m
theorem gi_D {α:Type} {l:List α} {i:Nat} (d:α) (h:i<l.length):gi l (i:Int)=some (l.getD i d):=by rw [kak h,jdd,jaf h]; rfl
section
variable {n m:Nat} {U:List (List Int)} {L:List Int} {k j:Nat} {x:Int}
theorem Shp.gu (h:Shp n m U L) (hk:k<n):gi U (k:Int)=some (U.getD k []):=gi_D [] (by rw [h.u]; exact hk)
theorem Shp.gl (h:Shp n m U L) (hj:j<m):gi L (j:Int)=some (la L j):=gi_D 0 (by rw [h.l]; exact hj)
theorem gs {s:List Bool} (hs:s.length=m) (hj:j<m):gi s (j:Int)=some (sa s j):=gi_D false (by omega)
theorem kie {α:Type} {l:List α} {i j:Nat} {x d:α} (h:i<l.length):(l.set i x).getD j d=if j=i then x else l.getD j d:=by
 rw [jdd,jdd,List.getElem?_set]
 by_cases e:j=i
 ·subst e; simp [h]
 ·rw [if_neg (fun h=>e h.symm),if_neg e]
theorem Shp.upd (h:Shp n m U L) (hk:k<n) (hj:j<m):Shp n m (upd U k j x) L:=by
 refine ⟨by simp [Fl.upd,h.u],fun k' hk'=>?_,h.l⟩
 unfold Fl.upd
 rw [kie (by rw [h.u]; exact hk)]
 split
 ·rw [jci]; exact h.r k hk
 ·exact h.r k' hk'
end
section
variable (n m:Nat) (cap:Nat->Int) (may:Nat->Nat->Prop)
def Cl (U:List (List Int)) (L:List Int) (s s':List Bool):Prop:=
 ∀ j,j<m->sa s' j=true->sa s j=false->la L j=0/\∀ k,k<n->0<ua U k j->∀ j',j'<m->may k j'->sa s' j'=true
structure Post (i:Nat) (most:Int) (U:List (List Int)) (L:List Int) (s:List Bool) (r:Int) (U':List (List Int)) (L':List Int) (s':List Bool):Prop where
 sh:Shp n m U' L'
 sl:s'.length=m
 mono:∀ j,sa s j=true->sa s' j=true
 v:Val n m cap may (ua U') (la L')
 fr:∀ j,j<m->sa s j=true->la L' j=la L j/\∀ k,k<n->ua U' k j=ua U k j
 r0:0<=r
 r1:r<=most
 ri:row m (ua U') i=row m (ua U) i+r
 ro:∀ k,k<n->k≠i->row m (ua U') k=row m (ua U) k
 z:r=0->U'=U/\L'=L/\(∀ j,j<m->may i j->sa s' j=true)/\Cl n m may U L s s'
end
variable {n m:Nat} {cap:Nat->Int} {may:Nat->Nat->Prop} {U U':List (List Int)} {L L':List Int} {s s' s1 s2:List Bool} {i j k:Nat} {most r:Int}
theorem Cl.mono (h:Cl n m may U L s s1) (h2:∀ j,sa s1 j=true->sa s2 j=true):∀ j,j<m->sa s1 j=true->sa s j=false->la L j=0/\∀ k,k<n->0<ua U k j->∀ j',j'<m->may k j'->sa s2 j'=true:=
 fun j hj h1 h0=>⟨(h j hj h1 h0).1,fun k hk hp j' hj' hm=>h2 _ ((h j hj h1 h0).2 k hk hp j' hj' hm)⟩
theorem Cl.trans (h:Cl n m may U L s s1) (h':Cl n m may U L s1 s2) (h2:∀ j,sa s1 j=true->sa s2 j=true):Cl n m may U L s s2:=fun j hj h1 h0=>by
 cases e:sa s1 j with
 | true=>exact h.mono h2 j hj e h0
 | false=>exact h' j hj h1 e
theorem Val.le (v:Val n m cap may (ua U) (la L)) (hk:k<n) (hj:j<m):0<=ua U k j/\ua U k j<=cap j:=by
 have h1:=v.bal j hj
 have h2:=v.ln j hj
 have h3:=knR (f:=fun k=>ua U k j) (fun k hk=>v.nn k hk j hj) hk
 have h4:=v.nn k hk j hj
 omega
end Go.Abs.Fl
namespace Go.Abs.Pl
open Go Go.Abs
theorem stkB {l:List It} (h:Stk l):Abs.stk l=true:=by
 rw [kuC h.v h.s]
 simp only [jab,jaj,jam]
 exact ⟨h.len,fun x hx=>by have:=h.n x hx; simp [okN]; exact this⟩
theorem koG:∀ {a r:List It},srt r->srt a->(∀ x∈r,∃ y∈a,key y=key x)->r.length<=a.length
 | _,[],_,_,_=>by simp
 | [],x::r,_,_,h=>by obtain ⟨y,hy,_⟩:=h x (by simp); cases hy
 | y::a,x::r,hr,ha,h=>by
  have hr':=jda.1 hr
  have ha':=jda.1 ha
  by_cases e:key y=key x
  ·have:=koG hr'.2 ha'.2 fun z hz=>by
    obtain ⟨u,hu,hk⟩:=h z (by simp [hz])
    rcases jat.1 hu with rfl | hu
    ·have:=hr'.1 z hz; omega
    ·exact ⟨u,hu,hk⟩
   simp; omega
  ·have hyx:key y<key x:=by
    obtain ⟨u,hu,hk⟩:=h x (by simp)
    rcases jat.1 hu with rfl | hu
    ·exact absurd hk e
    ·have:=ha'.1 u hu; omega
   have:=koG hr ha'.2 fun z hz=>by
    obtain ⟨u,hu,hk⟩:=h z hz
    rcases jat.1 hu with rfl | hu
    ·exfalso
     rcases jat.1 hz with rfl | hz
     ·exact e hk
     ·have:=hr'.1 z hz; omega
    ·exact ⟨u,hu,hk⟩
   simp at this ⊢; omega
theorem kks {l:List It} {q:Int} (h:look l q≠0):∃ x∈l,key x=q:=Classical.byContradiction fun hn=>h (kbT fun x hx e=>hn ⟨x,hx,e⟩)
theorem stkU {a b:List It} (ha:Stk a) (hb:Stk b) (h:∀ q,look a q=look b q):a=b:=
 Abs.uniq ha.s hb.s ha.v hb.v (fun x hx=>by have:=ha.n x hx; omega) (fun x hx=>by have:=hb.n x hx; omega) h
theorem kfo (ls:List (List It)) (hn:ls.length<=1000) (hl:∀ l∈ls,l.length<=1000):kcA ls=some (if ls.all Abs.stk then 0 else 8):=by
 unfold kcA
 rw [kcu (F:=kdK ls) ls (by omega) (fun i x=>if Abs.stk x then none else some 8) (fun i hi=>by
  unfold kdK
  rw [if_pos (by rw [kad]; simp; omega),kak hi,kar (by omega)]
  simp only [jag,koI _ (hl _ (jce hi))]
  by_cases h:Abs.stk ls[i]=true <;> simp [h,nextL]) (by unfold kdK; rw [if_neg (by simp [kad])])]
 have:∀ (ls:List (List It)) (k:Nat),(ls.zipIdx k).findSome? (fun x=>if Abs.stk x.1 then none else some (8:Int))=if ls.all Abs.stk then none else some 8:=by
  intro ls
  induction ls with
  | nil=>intro k; rfl
  | cons l ls ih=>
   intro k
   simp only [jbw,jds,jdq]
   by_cases h:Abs.stk l=true
   ·simp only [h,if_true,Bool.true_and]; exact ih _
   ·rw [jbh] at h; simp [h]
 rw [this]
 by_cases h:ls.all Abs.stk=true
 ·simp [h,endL]
 ·simp [h,endL]
theorem ktY {a b:List It} (ha:Stk a) (hb:Stk b):(∃ r,kdC a b=some (r,0)/\(∀ q,look b q<=look a q)/\Stk r/\∀ q,look r q=look a q-look b q)\/(kdC a b=some ([],6)/\∃ q,look a q<look b q):=by
 have la:=ha.len
 have lb:=hb.len
 obtain ⟨r,g1,g2⟩:=krI (fun u=>(kfu u.1 u.2).bind fun u1=>some u1) (fun n m=>w64 (n-m)) (fun n m=>rfl) rfl 60 a b [] (by omega) ha.s hb.s ha.v hb.v (by simp)
 have g1':kfV a b (fun u0=>(kfu u0.1 u0.2).bind fun u1=>some u1)=some r:=by
  unfold kfV
  rw [kdh g1 (by omega)]; rfl
 have hlk:∀ q,look r q=look a q-look b q:=fun q=>by
  have ra:=kbs ha q
  have rb:=kbs hb q
  rw [g2.l q,kcb (by omega) (by omega)]
 have hlen:=g2.len
 have e2:(fun u0:It=>(khd u0).bind fun u1=>some u1)=fun u=>some (decide (u.2.2<0)):=by
  funext u; rfl
 have hT:kdC a b=some (if (r.any fun u=>decide (u.2.2<0))=true then ([],6) else (r,0)):=by
  unfold kdC
  rw [kfo [a,b] (by simp) (fun l hl=>by simp at hl; rcases hl with rfl | rfl <;> omega),if_pos (by simp [stkB ha,stkB hb]),g1',e2]
  simp only [jag,kko r (by omega)]
  by_cases h:(r.any fun u=>decide (u.2.2<0))=true
  ·simp [h]
  ·simp [h]
 rw [hT]
 by_cases h:(r.any fun u=>decide (u.2.2<0))=true
 ·rw [if_pos h]
  right
  refine ⟨rfl,?_⟩
  obtain ⟨x,hx,hn⟩:=jbj.1 h
  have:=keW g2.s hx
  have:=hlk (key x)
  simp at hn
  exact ⟨key x,by omega⟩
 ·rw [if_neg h]
  left
  have h0:∀ x∈r,0<=x.2.2:=fun x hx=>by
   refine Int.not_lt.1 fun hn=>h (jbj.2 ⟨x,hx,by simpa using hn⟩)
  have hle:∀ q,look b q<=look a q:=fun q=>by
   have:=hlk q
   by_cases hz:look r q=0
   ·omega
   ·obtain ⟨x,hx,rfl⟩:=kks hz
    have:=keW g2.s hx
    have:=h0 x hx
    omega
  refine ⟨r,rfl,hle,⟨g2.v,g2.s,fun x hx=>?_,?_⟩,hlk⟩
  ·have h1:=g2.n x hx
   have h2:=h0 x hx
   have h3:=keW g2.s hx
   have h4:=hlk (key x)
   have h5:=kbs ha (key x)
   have h6:=kbs hb (key x)
   omega
  ·refine jcv (koG g2.s ha.s fun x hx=>?_) ha.len
   refine kks fun hz=>?_
   have h1:=g2.n x hx
   have h2:=h0 x hx
   have h3:=keW g2.s hx
   have h4:=hlk (key x)
   have h6:=kbs hb (key x)
   omega
def wl:List (List It)->Nat->Int->Int
 | [],_,_=>0
 | p::ps,S,q=>(if S % 2=1 then look p q else 0)+wl ps (S / 2) q
theorem wl_nn:∀ {ps:List (List It)} {S:Nat} {q:Int},(∀ p∈ps,Stk p)->0<=wl ps S q
 | [],_,_,_=>jei 0
 | p::ps,S,q,h=>by
  have h1:=kbs (h p (by simp)) q
  have h2:=wl_nn (ps:=ps) (S:=S / 2) (q:=q) fun x hx=>h x (by simp [hx])
  simp only [wl]
  split <;> omega
theorem ksD {a b:Nat} (ha:a<2 ^ 60) (hb:b<2 ^ 60):bitsI .or .i64 (a:Int) (b:Int)=((a ||| b:Nat):Int):=by
 have hab:a ||| b<2 ^ 60:=Nat.or_lt_two_pow ha hb
 show w64 ((BitVec.ofInt 64 (a:Int) ||| BitVec.ofInt 64 (b:Int)).toNat:Int)=_
 rw [BitVec.toNat_or,BitVec.ofInt_natCast,BitVec.ofInt_natCast,BitVec.toNat_ofNat,BitVec.toNat_ofNat,Nat.mod_eq_of_lt (by omega),Nat.mod_eq_of_lt (by omega),kcb (by omega) (by omega)]
theorem kqC {a b:Nat} (ha:a<2 ^ 60) (hb:b<2 ^ 60):bitsI .and .i64 (a:Int) (b:Int)=((a &&& b:Nat):Int):=by
 have hab:a &&& b<2 ^ 60:=Nat.and_lt_two_pow a hb
 show w64 ((BitVec.ofInt 64 (a:Int) &&& BitVec.ofInt 64 (b:Int)).toNat:Int)=_
 rw [BitVec.toNat_and,BitVec.ofInt_natCast,BitVec.ofInt_natCast,BitVec.toNat_ofNat,BitVec.toNat_ofNat,Nat.mod_eq_of_lt (by omega),Nat.mod_eq_of_lt (by omega),kcb (by omega) (by omega)]
theorem shl1 {i:Nat} (hi:i<20):w64 (1*2 ^ (min ((i:Int).toNat) 64))=((2 ^ i:Nat):Int):=by
 have h1:(2:Nat) ^ i<=2 ^ 20:=jee (by omega) (by omega)
 have h2:(0:Nat)<2 ^ i:=Nat.pow_pos (by omega)
 rw [show min ((i:Int).toNat) 64=i by omega,show (1:Int)*2 ^ i=((2 ^ i:Nat):Int) by push_cast; omega,kcb (by omega) (by omega)]
theorem kus {s i:Nat} (hs:s<2 ^ i) (hi:i<20):bitsI .or .i64 (s:Int) (w64 (1*2 ^ (min ((i:Int).toNat) 64)))=((s+2 ^ i:Nat):Int):=by
 have h1:(2:Nat) ^ i<=2 ^ 20:=jee (by omega) (by omega)
 rw [shl1 hi,ksD (by omega) (by omega)]
 have:=Nat.two_pow_add_eq_or_of_lt hs 1
 rw [Nat.mul_one] at this
 rw [Nat.or_comm,<-this,Nat.add_comm]
theorem krU (ps:List (List It)) (hn:ps.length<=12) (hp:∀ p∈ps,Stk p):∀ (rs:List (List It)) (i s:Nat) (l:List It) (d:Nat),ps.drop i=rs->i+rs.length=ps.length->rs.length<d->s<2 ^ i->Stk l->
  ∃ ls,kaF d ps (i:Int) (s:Int) l=some ls/\ls.length<=2 ^ rs.length/\(∀ y∈ls,∃ T,T<2 ^ rs.length/\y.1=((s+2 ^ i*T:Nat):Int)/\(∀ q,wl rs T q<=look l q)/\Stk y.2/\∀ q,look y.2 q=look l q-wl rs T q)/\
   ∀ T,T<2 ^ rs.length->(∀ q,wl rs T q<=look l q)->∃ y∈ls,y.1=((s+2 ^ i*T:Nat):Int):=by
 intro rs
 induction rs with
 | nil=>
  intro i s l d hd hlen hlt hs hl
  obtain ⟨d,rfl⟩:∃ d',d=d'+1:=⟨d-1,by omega⟩
  refine ⟨[((s:Int),l)],?_,by simp,fun y hy=>?_,fun T hT _=>⟨((s:Int),l),by simp,?_⟩⟩
  ·exact if_pos (show (i:Int)=lenI ps by rw [kad]; simp at hlen; omega)
  ·simp at hy; subst hy
   exact ⟨0,by simp,by simp,fun q=>by have:=kbs hl q; simp [wl]; omega,hl,fun q=>by simp [wl]⟩
  ·simp at hT; simp [hT]
 | cons p rs ih=>
  intro i s l d hd hlen hlt hs hl
  obtain ⟨d,rfl⟩:∃ d',d=d'+1:=⟨d-1,by omega⟩
  simp only [jaq] at hlen hlt
  have hi:i<ps.length:=by omega
  have hpi:ps[i]=p:=by have:=jaz hi; rw [hd] at this; exact (List.cons.inj this).1.symm
  have hd1:ps.drop (i+1)=rs:=by have:=jaz hi; rw [hd] at this; exact (List.cons.inj this).2.symm
  have hstk:Stk p:=hp p (by rw [<-hpi]; exact jce hi)
  have hw:w64 ((i:Int)+1)=((i+1:Nat):Int):=kar (by omega)
  have hpow:2 ^ (i+1)=2*2 ^ i:=by rw [jdt]; omega
  obtain ⟨l2,h2,b0,b1,b2⟩:=ih (i+1) s l d hd1 (by omega) (by omega) (by omega) hl
  have heven:∀ T,s+2 ^ (i+1)*T=s+2 ^ i*(2*T):=fun T=>by rw [hpow,Nat.mul_comm 2 (2 ^ i),Nat.mul_assoc]
  have hodd:∀ T,s+2 ^ i+2 ^ (i+1)*T=s+2 ^ i*(2*T+1):=fun T=>by rw [hpow,Nat.mul_comm 2 (2 ^ i),Nat.mul_assoc,Nat.mul_add,Nat.mul_one]; omega
  have wodd:∀ T q,wl (p::rs) (2*T+1) q=look p q+wl rs T q:=fun T q=>by
   simp only [wl]; rw [if_pos (by omega),show (2*T+1) / 2=T by omega]
  have wev:∀ T q,wl (p::rs) (2*T) q=wl rs T q:=fun T q=>by
   simp only [wl]; rw [if_neg (by omega),show (2*T) / 2=T by omega]; omega
  have c2:∀ y∈l2,∃ T,T<2 ^ (rs.length+1)/\y.1=((s+2 ^ i*T:Nat):Int)/\(∀ q,wl (p::rs) T q<=look l q)/\Stk y.2/\∀ q,look y.2 q=look l q-wl (p::rs) T q:=fun y hy=>by
   obtain ⟨T,t1,t2,t3,t4,t5⟩:=b1 y hy
   exact ⟨2*T,by rw [jdt]; omega,by rw [t2,heven],fun q=>by rw [wev]; exact t3 q,t4,fun q=>by rw [wev]; exact t5 q⟩
  have gr:kaF (d+1) ps (i:Int) (s:Int) l=(kdC l p).bind fun r=>if r.2=0 then (gshl .i64 1 (i:Int)).bind fun b=>(kaF d ps (w64 (i+1)) (bitsI .or .i64 s b) r.1).bind fun x=>(kaF d ps (w64 (i+1)) s l).bind fun y=>some (x++y) else kaF d ps (w64 (i+1)) s l:=by
   refine (if_neg (show ¬ (i:Int)=lenI ps by rw [kad]; omega)).trans ?_
   rw [kak hi,hpi]; rfl
  rw [gr]
  rcases ktY hl hstk with ⟨r,hr,hle,hrs,hrl⟩ | ⟨hr,q0,hq0⟩
  ·obtain ⟨l1,h1,a0,a1,a2⟩:=ih (i+1) (s+2 ^ i) r d hd1 (by omega) (by omega) (by omega) hrs
   refine ⟨l1++l2,?_,by rw [jbi,jaq,jdt]; omega,fun y hy=>?_,fun T hT hf=>?_⟩
   ·rw [hr]
    simp only [jag,if_true]
    rw [show gshl .i64 1 (i:Int)=some (w64 (1*2 ^ (min ((i:Int).toNat) 64))) from if_pos (by omega)]
    simp only [jag]
    rw [kus hs (by omega),hw,h1,h2]; rfl
   ·rcases jay.1 hy with hy | hy
    ·obtain ⟨T,t1,t2,t3,t4,t5⟩:=a1 y hy
     exact ⟨2*T+1,by rw [jaq,jdt]; omega,by rw [t2,hodd],fun q=>by rw [wodd]; have:=t3 q; rw [hrl] at this; omega,t4,fun q=>by rw [wodd,t5 q,hrl]; omega⟩
    ·exact c2 y hy
   ·rw [jaq,jdt] at hT
    rcases jcb T with e | e
    ·obtain ⟨T',rfl⟩:∃ T',T=2*T':=⟨T / 2,by omega⟩
     obtain ⟨y,hy,e⟩:=b2 T' (by omega) fun q=>by rw [<-wev T']; exact hf q
     exact ⟨y,List.mem_append_right _ hy,by rw [e,heven]⟩
    ·obtain ⟨T',rfl⟩:∃ T',T=2*T'+1:=⟨T / 2,by omega⟩
     obtain ⟨y,hy,e⟩:=a2 T' (by omega) fun q=>by have:=hf q; rw [wodd] at this; rw [hrl]; omega
     exact ⟨y,List.mem_append_left _ hy,by rw [e,hodd]⟩
  ·refine ⟨l2,?_,by rw [jaq,jdt]; omega,c2,fun T hT hf=>?_⟩
   ·rw [hr]
    simp only [jag]
    rw [if_neg (by decide),hw,h2]
   ·rw [jaq,jdt] at hT
    rcases jcb T with e | e
    ·obtain ⟨T',rfl⟩:∃ T',T=2*T':=⟨T / 2,by omega⟩
     obtain ⟨y,hy,e⟩:=b2 T' (by omega) fun q=>by rw [<-wev T']; exact hf q
     exact ⟨y,hy,by rw [e,heven]⟩
    ·obtain ⟨T',rfl⟩:∃ T',T=2*T'+1:=⟨T / 2,by omega⟩
     exfalso
     have h1:=hf q0
     have h2:=wl_nn (ps:=rs) (S:=T') (q:=q0) fun x hx=>hp x (by rw [<-hd1] at hx; exact jcx hx)
     rw [wodd] at h1
     omega
theorem koN (l:List It) (hl:l.length<=1000):kam l=some l:=by
 have h:gapp [] l=some l:=by rw [kbS (by simp; omega)]; rfl
 unfold kam
 rw [h]
 cases l with
 | nil=>rfl
 | cons x l=>rfl
theorem kid {ps:List (List It)} {box:List It} (hn:ps.length<=12) (hp:∀ p∈ps,Stk p) (hb:Stk box):∃ ls,(runI fun o=>kaZ o ps box)=some ls/\ls.length<=2 ^ ps.length/\
  (∀ y∈ls,∃ T:Nat,T<2 ^ ps.length/\y.1=(T:Int)/\(∀ q,wl ps T q<=look box q)/\Stk y.2/\∀ q,look y.2 q=look box q-wl ps T q)/\∀ T:Nat,T<2 ^ ps.length->(∀ q,wl ps T q<=look box q)->∃ y∈ls,y.1=(T:Int):=by
 obtain ⟨ls,h1,h0,h2,h3⟩:=krU ps hn hp ps 0 0 box (ps.length+1) rfl (by omega) (by omega) (by simp) hb
 refine ⟨ls,?_,h0,fun y hy=>?_,fun T hT hf=>?_⟩
 ·have hit:∀ o,kaZ o ps box=some ls:=fun o=>by
   unfold kaZ
   rw [koN box (by have:=hb.len; omega)]
   exact h1
  unfold runI
  simp only [hit,jag,if_true]
 ·obtain ⟨T,t1,t2,t3⟩:=h2 y hy
  exact ⟨T,t1,by rw [t2]; simp,t3⟩
 ·obtain ⟨y,hy,e⟩:=h3 T hT hf
  exact ⟨y,hy,by rw [e]; simp⟩
def mem:List Int->Nat->Nat->List Int×Int
 | [],_,_=>([],0)
 | v::vs,T,i=>if T % 2=1 then ((i:Int)::(mem vs (T / 2) (i+1)).1,v+(mem vs (T / 2) (i+1)).2) else mem vs (T / 2) (i+1)
def okV (vs:List Int):Prop:=∀ v∈vs,0<=v/\v<=1000
theorem kjL:∀ {vs:List Int} {T i:Nat},okV vs->0<=(mem vs T i).2/\(mem vs T i).2<=1000*vs.length/\(mem vs T i).1.length<=vs.length
 | [],_,_,_=>by simp [mem]
 | v::vs,T,i,h=>by
  have h1:=kjL (vs:=vs) (T:=T / 2) (i:=i+1) fun x hx=>h x (by simp [hx])
  have h2:=h v (by simp)
  simp only [mem,jaq]
  split <;> (try simp only [jaq]) <;> omega
theorem kpd:∀ {vs:List Int} {T i:Nat} {x:Int},x∈(mem vs T i).1->(i:Int)<=x
 | [],_,_,_,h=>by simp [mem] at h
 | v::vs,T,i,x,h=>by
  simp only [mem] at h
  split at h
  ·rcases jat.1 h with rfl | h
   ·omega
   ·have:=kpd h; omega
  ·have:=kpd h; omega
theorem kmC:∀ {vs:List Int} {T S i:Nat},T<2 ^ vs.length->S<2 ^ vs.length->(mem vs T i).1=(mem vs S i).1->T=S
 | [],T,S,_,hT,hS,_=>by simp at hT hS; omega
 | v::vs,T,S,i,hT,hS,h=>by
  rw [jaq,jdt] at hT hS
  simp only [mem] at h
  have no:∀ T:Nat,∀ l,(i:Int)::l≠(mem vs T (i+1)).1:=fun T l e=>by
   have:=kpd (vs:=vs) (T:=T) (i:=i+1) (x:=(i:Int)) (by rw [<-e]; simp)
   omega
  split at h <;> split at h
  ·have:=kmC (by omega) (by omega) (List.cons.inj h).2
   omega
  ·exact absurd h (no _ _)
  ·exact absurd h.symm (no _ _)
  ·have:=kmC (by omega) (by omega) h
   omega
theorem kmw {T i:Nat} (hi:i<64):gshr .i64 (T:Int) (i:Int)=some ((T / 2 ^ i:Nat):Int):=by
 unfold gshr
 rw [if_pos (by omega)]
 show some ((T:Int).fdiv (2 ^ (min ((i:Int).toNat) 64)))=_
 rw [show min ((i:Int).toNat) 64=i by omega,show (2:Int) ^ i=((2 ^ i:Nat):Int) by push_cast; rfl,Int.fdiv_eq_ediv_of_nonneg _ (Int.natCast_nonneg _)]
 rfl
theorem kgf (T i:Nat):T / 2 ^ (i+1)=T / 2 ^ i / 2:=by rw [jdt,Nat.div_div_eq_div_mul]
theorem and1 {T:Nat} (h:T<2 ^ 20):bitsI .and .i64 (T:Int) 1=((T % 2:Nat):Int):=by
 have:=kqC (a:=T) (b:=1) (by omega) (by omega)
 rwa [Nat.and_one_is_mod] at this
theorem krE {vals:List Int} {T:Nat} (hT:T<2 ^ 20) (hv:okV vals) (hl:vals.length<=20):∀ (vs:List Int) (i:Nat) (val:Int) (out:List Int),vals.drop i=vs->i+vs.length=vals.length->0<=val->val<=1000*i->out.length<=i->
  itN (kbW (T:Int) vals) (vs.length+1) ((i:Int),val,out)=some (val+(mem vs (T / 2 ^ i) i).2,out++(mem vs (T / 2 ^ i) i).1):=by
 intro vs
 induction vs with
 | nil=>
  intro i val out hd hlen h0 h1 h2
  refine kbK ?_
  unfold kbW
  rw [if_neg (by rw [lenI_lt]; simp at hlen; omega)]
  simp [mem]
 | cons v vs ih=>
  intro i val out hd hlen h0 h1 h2
  simp only [jaq] at hlen
  have hi:i<vals.length:=by omega
  have e1:vals[i]=v:=by have:=jaz hi; rw [hd] at this; exact (List.cons.inj this).1.symm
  have e2:vals.drop (i+1)=vs:=by have:=jaz hi; rw [hd] at this; exact (List.cons.inj this).2.symm
  have hvv:=hv v (by rw [<-e1]; exact jce hi)
  have hdiv:T / 2 ^ i<2 ^ 20:=Nat.lt_of_le_of_lt (Nat.div_le_self _ _) hT
  have hstep:kbW (T:Int) vals ((i:Int),val,out)=some (.inl (if T / 2 ^ i % 2=1 then (((i+1:Nat):Int),val+v,out++[(i:Int)]) else (((i+1:Nat):Int),val,out))):=by
   unfold kbW
   rw [if_pos (lenI_lt.2 hi)]
   simp only [kak hi,kmw (show i<64 by omega),jag,e1,kar (show i<9223372036854775807 by omega)]
   rw [and1 hdiv]
   rcases jcb (T / 2 ^ i) with e | e
   ·rw [e,if_neg (by decide),if_neg (by omega)]
   ·rw [e,if_pos (by decide),if_pos rfl,kbS (by simp; omega),kcb (by omega) (by omega)]; rfl
  rw [jaq,kdm hstep]
  by_cases hb:T / 2 ^ i % 2=1
  ·rw [if_pos hb,ih (i+1) _ _ e2 (by omega) (by omega) (by push_cast; omega) (by simp; omega),kgf]
   simp only [mem,hb,if_true,jar,List.singleton_append]
   rw [Int.add_assoc]
  ·rw [if_neg hb,ih (i+1) _ _ e2 (by omega) h0 (by push_cast; omega) (by omega),kgf]
   simp only [mem,hb,if_false]
theorem klD {vals:List Int} {T:Nat} (hT:T<2 ^ 20) (hv:okV vals) (hl:vals.length<=20):keb (T:Int) vals=some (mem vals T 0):=by
 have:=krE hT hv hl vals 0 0 [] rfl (by omega) (by omega) (by omega) (by simp)
 unfold keb
 have h2:iter (kbW (T:Int) vals) (0,0,[])=_:=kdh this (by omega)
 rw [h2]
 simp
def bl:Nat->Nat->List Int
 | 0,_=>[]
 | n+1,T=>((T % 2:Nat):Int)::bl n (T / 2)
theorem koc:∀ n T,(bl n T).length=n
 | 0,_=>rfl
 | n+1,T=>by simp [bl,koc]
def lexC:List Int->List Int->Int
 | [],[]=>0
 | [],_::_=>-1
 | _::_,[]=>1
 | x::a,y::b=>if cmpI x y≠0 then cmpI x y else lexC a b
theorem kpt {a b:List Int} {k:Nat} (h:¬ k<a.length) (hk:k<=a.length):lexC (a.drop k) (b.drop k)=if a.length<b.length then -1 else 0:=by
 have e:a.drop k=[]:=jbn (by omega)
 rw [e]
 by_cases hb:k<b.length
 ·rw [jaz hb,if_pos (by omega)]; rfl
 ·rw [jbn (by omega),if_neg (by omega)]; rfl
theorem kng {a b:List Int} {k:Nat} (ha:k<a.length) (hb:k<b.length):lexC (a.drop k) (b.drop k)=if cmpI a[k] b[k]≠0 then cmpI a[k] b[k] else lexC (a.drop (k+1)) (b.drop (k+1)):=by
 rw [jaz ha,jaz hb]; rfl
theorem ksV {a b:List Int} {k:Nat} (ha:k<a.length) (hb:b.length<=k):lexC (a.drop k) (b.drop k)=1:=by
 rw [jaz ha,jbn hb]; rfl
theorem kjA {F:Int->Option (Int⊕(Int⊕Unit))} (a b:List Int) (ha:a.length<=1000) (h1:∀ (k:Nat),k<a.length->b.length<=k->F (k:Int)=some (.inr (.inl 1))) (h2:∀ (k:Nat) (ha:k<a.length) (hb:k<b.length),F (k:Int)=some (if cmpI a[k] b[k]≠0 then .inr (.inl (cmpI a[k] b[k])) else .inl ((k+1:Nat):Int)))
  (h3:F (a.length:Int)=some (.inr (.inr ()))):∃ z,iter F 0=some z/\(match z with | .inl v=>v | .inr _=>if a.length<b.length then -1 else 0)=lexC a b:=by
 refine Fl.iter_inv (F:=F) (I:=fun i=>∃ k:Nat,i=k/\k<=a.length/\lexC (a.drop k) (b.drop k)=lexC a b) (m:=fun i=>a.length-i.toNat) (R:=fun z=>(match z with | .inl v=>v | .inr _=>if a.length<b.length then -1 else 0)=lexC a b) ?_ 0 ⟨0,rfl,by omega,rfl⟩ (by omega)
 rintro _ ⟨k,rfl,hk,e⟩
 by_cases hka:k<a.length
 ·by_cases hkb:k<b.length
  ·have hs:=kng hka hkb
   have h2:=h2 k hka hkb
   by_cases hc:cmpI a[k] b[k]≠0
   ·rw [if_pos hc] at hs h2
    exact .inl ⟨_,h2,by rw [<-e,hs]⟩
   ·rw [if_neg hc] at hs h2
    exact .inr ⟨_,h2,⟨k+1,rfl,by omega,by rw [<-hs,e]⟩,by simp; omega⟩
  ·exact .inl ⟨_,h1 k hka (by omega),by rw [<-e,ksV hka (by omega)]⟩
 ·obtain rfl:k=a.length:=by omega
  exact .inl ⟨_,h3,by rw [<-e,kpt hka (by omega)]⟩
theorem ktE (a b:List Int) (ha:a.length<=1000):kbt a b=some (lexC a b):=by
 obtain ⟨z,e,hz⟩:=kjA (F:=kaJ a b) a b ha (fun k h1 h2=>by
  unfold kaJ
  rw [if_pos (lenI_lt.2 h1),kak h1]
  simp only [jag]
  rw [if_pos (by rw [kad]; simpa using h2)]) (fun k h1 h2=>by
  unfold kaJ
  rw [if_pos (lenI_lt.2 h1),kak h1,kak h2,kar (by omega)]
  simp only [jag,khZ]
  rw [if_neg (by rw [kad]; simp; omega)]
  by_cases hc:cmpI a[k] b[k]=0 <;> simp [hc]) (by unfold kaJ; rw [if_neg keq])
 unfold kbt
 rw [e,<-hz]
 cases z with
 | inl v=>rfl
 | inr v=>simp only [jag,kad]; by_cases h:a.length<b.length <;> simp [h]
theorem ktM (a b:List Int) (ha:a.length<=1000):kaU a b=some (lexC a b):=by
 obtain ⟨z,e,hz⟩:=kjA (F:=kaD a b) a b ha (fun k h1 h2=>by
  unfold kaD
  rw [if_pos (lenI_lt.2 h1),kak h1]
  simp only [jag]
  rw [if_pos (by rw [kad]; simpa using h2)]) (fun k h1 h2=>by
  unfold kaD
  rw [if_pos (lenI_lt.2 h1),kak h1,kak h2,kar (by omega)]
  simp only [jag,knh]
  rw [if_neg (by rw [kad]; simp; omega)]
  by_cases hc:cmpI a[k] b[k]=0 <;> simp [hc]) (by unfold kaD; rw [if_neg keq])
 unfold kaU
 rw [e,<-hz]
 cases z with
 | inl v=>rfl
 | inr v=>simp only [jag,kad]; by_cases h:a.length<b.length <;> simp [h]
def ltL (a b:List Int):Bool:=if a.length=b.length then decide (lexC a b<0) else decide (a.length<b.length)
theorem ksZ (a b:List Int) (ha:a.length<=1000):kfn a b=some (ltL a b):=by
 unfold kfn ltL
 by_cases hl:a.length=b.length
 ·rw [if_neg (by simp [kad,hl]),if_pos hl]
  obtain ⟨z,e,hz⟩:=Fl.iter_inv (F:=kcI a b) (I:=fun i=>∃ k:Nat,i=k/\k<=a.length/\lexC (a.drop k) (b.drop k)=lexC a b) (m:=fun i=>a.length-i.toNat) (R:=fun z=>(match z with | .inl v=>v | .inr _=>false)=decide (lexC a b<0)) (by
   rintro _ ⟨k,rfl,hk,e⟩
   by_cases hka:k<a.length
   ·have hkb:k<b.length:=by omega
    have hs:=kng hka hkb
    have hF:kcI a b (k:Int)=some (if a[k]≠b[k] then .inr (.inl (decide (a[k]<b[k]))) else .inl ((k+1:Nat):Int)):=by
     unfold kcI
     rw [if_pos (lenI_lt.2 hka),kak hka,kak hkb,kar (by omega)]
     simp only [jag]
     by_cases hc:a[k]=b[k] <;> simp [hc]
    by_cases hc:a[k]=b[k]
    ·rw [if_neg (by simpa using hc)] at hF
     rw [if_neg (by simp [cmpI,hc])] at hs
     exact .inr ⟨_,hF,⟨k+1,rfl,by omega,by rw [<-hs,e]⟩,by simp; omega⟩
    ·rw [if_pos (by simpa using hc)] at hF
     have hne:cmpI a[k] b[k]≠0:=by unfold cmpI; (repeat' split) <;> omega
     rw [if_pos hne] at hs
     refine .inl ⟨_,hF,?_⟩
     rw [<-e,hs]
     simp only [cmpI]
     by_cases h1:a[k]<b[k]
     ·simp [h1]
     ·simp [h1]; split <;> simp
   ·obtain rfl:k=a.length:=by omega
    refine .inl ⟨.inr (),by unfold kcI; rw [if_neg keq],?_⟩
    rw [<-e,kpt hka (by omega),if_neg (by omega)]; rfl) 0 ⟨0,rfl,by omega,rfl⟩ (by omega)
  rw [e,<-hz]
  cases z <;> rfl
 ·rw [if_pos (by simp [kad]; omega),if_neg hl]
  simp [kad]
theorem or_lt (a b:List Int) (ha:a.length<=1000):decide ((if cmpI (lenI a) (lenI b)≠0 then cmpI (lenI a) (lenI b) else lexC a b)<0)=ltL a b:=by
 unfold ltL cmpI
 rw [kad,kad]
 rcases Nat.lt_trichotomy a.length b.length with h | h | h
 ·have h1:(a.length:Int)<b.length:=by omega
  have h2:¬ a.length=b.length:=by omega
  simp [h1,h2]; omega
 ·simp [h]
 ·have h1:¬ (a.length:Int)<b.length:=by omega
  have h2:¬ a.length=b.length:=by omega
  have h3:(b.length:Int)<a.length:=by omega
  simp [h1,h2,h3]; omega
theorem kmq:∀ {a b:List Int},lexC a b=0->a=b
 | [],[],_=>rfl
 | [],_::_,h=>by simp [lexC] at h
 | _::_,[],h=>by simp [lexC] at h
 | x::a,y::b,h=>by
  simp only [lexC] at h
  split at h
  ·contradiction
  ·rename_i hc
   have:x=y:=by unfold cmpI at hc; (repeat' split at hc) <;> omega
   rw [this,kmq h]
theorem keo:∀ {a b:List Int},lexC a b =-lexC b a
 | [],[]=>rfl
 | [],_::_=>rfl
 | _::_,[]=>rfl
 | x::a,y::b=>by
  have:=keo (a:=a) (b:=b)
  simp only [lexC,cmpI]
  (repeat' split) <;> omega
theorem khY:∀ {a b c:List Int},lexC a b<0->lexC b c<0->lexC a c<0
 | [],[],_,h,_=>by simp [lexC] at h
 | [],_::_,[],_,h=>by simp [lexC] at h
 | [],_::_,_::_,_,_=>by simp [lexC]
 | _::_,[],_,h,_=>by simp [lexC] at h
 | _::_,_::_,[],_,h=>by simp [lexC] at h
 | x::a,y::b,z::c,h1,h2=>by
  have ih:=khY (a:=a) (b:=b) (c:=c)
  simp only [lexC,cmpI] at h1 h2 ⊢
  (repeat' split at h1) <;> (repeat' split at h2) <;> (repeat' split) <;> first | omega | exact ih h1 h2
theorem ksb {a b c:List Int} (h1:ltL a b=true) (h2:ltL b c=true):ltL a c=true:=by
 unfold ltL at *
 split at h1 <;> split at h2 <;> split <;> simp only [jaj] at * <;> first | omega | exact khY h1 h2
theorem kug {a b:List Int} (h1:ltL a b=false) (h2:ltL b a=false):a=b:=by
 unfold ltL at *
 have:=keo (a:=a) (b:=b)
 split at h1
 ·rename_i e
  rw [if_pos e.symm] at h2
  simp only [decide_eq_false_iff_not] at h1 h2
  exact kmq (by omega)
 ·rename_i e
  rw [if_neg (fun e2=>e e2.symm)] at h2
  simp only [decide_eq_false_iff_not] at h1 h2
  omega
theorem rem2 {m:Nat}:grem (m:Int) 2=some ((m % 2:Nat):Int):=by
 unfold grem
 rw [if_neg (by decide),Int.tmod_eq_emod_of_nonneg (by omega)]; rfl
theorem kkQ {pre:List Int} {x y:Int} {r:List Int} {i:Nat} (h:pre.length=i):lset (pre++x::r) (i:Int) y=pre++y::r:=by
 unfold lset
 rw [show ((i:Int)).toNat=i by omega,<-h,List.set_append_right _ _ (jai _),Nat.sub_self]; rfl
theorem kur {ps:List (List It)} {vals:List Int} {T:Nat} {c:kbb} (hT:T<2 ^ 20) (hv:okV vals) (hl:vals.length<=20) (hp:ps.length=vals.length):∀ (vs:List Int) (i:Nat) (pre:List Int) (val:Int) (out:List Int),vals.drop i=vs->i+vs.length=vals.length->pre.length=i->0<=val->val<=1000*i->out.length<=i->
  itN (kbr ps vals ((T:Int),c)) (vs.length+1) ((i:Int),pre++List.replicate vs.length 0,val,out)=some (pre++bl vs.length (T / 2 ^ i),val+(mem vs (T / 2 ^ i) i).2,out++(mem vs (T / 2 ^ i) i).1):=by
 intro vs
 induction vs with
 | nil=>
  intro i pre val out hd hlen hpl h0 h1 h2
  refine kbK ?_
  unfold kbr
  rw [if_neg (by rw [lenI_lt]; simp at hlen; omega)]
  simp [mem,bl]
 | cons v vs ih=>
  intro i pre val out hd hlen hpl h0 h1 h2
  simp only [jaq] at hlen
  have hi:i<vals.length:=by omega
  have e1:vals[i]=v:=by have:=jaz hi; rw [hd] at this; exact (List.cons.inj this).1.symm
  have e2:vals.drop (i+1)=vs:=by have:=jaz hi; rw [hd] at this; exact (List.cons.inj this).2.symm
  have hvv:=hv v (by rw [<-e1]; exact jce hi)
  have hst:kbr ps vals ((T:Int),c) ((i:Int),pre++List.replicate (vs.length+1) 0,val,out)=some (.inl (if T / 2 ^ i % 2=1 then (((i+1:Nat):Int),(pre++[1])++List.replicate vs.length 0,val+v,out++[(i:Int)]) else (((i+1:Nat):Int),(pre++[0])++List.replicate vs.length 0,val,out))):=by
   unfold kbr
   rw [if_pos (lenI_lt.2 (by omega))]
   have hw:i<(pre++List.replicate (vs.length+1) (0:Int)).length:=by simp; omega
   simp only [kmw (show i<64 by omega),jag,rem2,kar (show i<9223372036854775807 by omega),kak hw,kak hi,e1]
   rw [List.replicate_succ]
   rcases jcb (T / 2 ^ i) with e | e
   ·rw [e,if_neg (by decide),if_neg (by omega)]; simp
   ·rw [e,if_pos (by decide),if_pos rfl,kbS (by simp; omega),kcb (by omega) (by omega),kkQ hpl]; simp
  rw [jaq,kdm hst]
  rcases jcb (T / 2 ^ i) with e | e
  ·rw [if_neg (by omega),ih (i+1) _ _ _ e2 (by omega) (by simp; omega) h0 (by push_cast; omega) (by omega),kgf]
   simp [mem,bl,e]
  ·rw [if_pos e,ih (i+1) _ _ _ e2 (by omega) (by simp; omega) (by omega) (by push_cast; omega) (by simp; omega),kgf]
   simp [mem,bl,e,Int.add_assoc]
def wt:List (List It)->List Int->Int->Int->Int
 | p::ps,w::ws,m,q=>(if w=m then look p q else 0)+wt ps ws m q
 | _,_,_,_=>0
def allS (ps:List (List It)):Prop:=∀ p∈ps,Stk p
theorem krK:∀ {ps:List (List It)} {ws:List Int} {m q:Int},allS ps->0<=wt ps ws m q/\wt ps ws m q<=1000*ps.length
 | [],_,_,_,_=>by simp [wt]
 | p::ps,[],_,_,_=>by simp [wt]; omega
 | p::ps,w::ws,m,q,h=>by
  have h1:=kbs (h p (by simp)) q
  have h2:=krK (ps:=ps) (ws:=ws) (m:=m) (q:=q) fun x hx=>h x (by simp [hx])
  simp only [wt,jaq]
  split <;> omega
theorem wt_bl:∀ {ps:List (List It)} {T:Nat} {q:Int},wt ps (bl ps.length T) 1 q=wl ps T q
 | [],_,_=>rfl
 | p::ps,T,q=>by
  simp only [jaq,bl,wt,wl,wt_bl]
  by_cases h:T % 2=1
  ·simp [h]
  ·rw [if_neg (by omega),if_neg h]
theorem ksr:∀ {ps:List (List It)} {ws:List Int} {m q:Int},allS ps->0<wt ps ws m q->∃ (i:Nat) (hi:i<ps.length) (hw:i<ws.length),ws[i]=m/\0<look ps[i] q
 | [],_,_,_,_,h=>by simp [wt] at h
 | p::ps,[],_,_,_,h=>by simp [wt] at h
 | p::ps,w::ws,m,q,hs,h=>by
  by_cases hc:w=m/\0<look p q
  ·exact ⟨0,by simp,by simp,hc.1,hc.2⟩
  ·have h0:0<wt ps ws m q:=by
    have:=kbs (hs p (by simp)) q
    simp only [wt] at h
    split at h
    ·rename_i e
     have:¬ 0<look p q:=fun h=>hc ⟨e,h⟩
     omega
    ·omega
   obtain ⟨i,hi,hw,e1,e2⟩:=ksr (fun x hx=>hs x (by simp [hx])) h0
   exact ⟨i+1,by simp; omega,by simp; omega,by simpa using e1,by simpa using e2⟩
theorem kqo {ps:List (List It)} {who:List Int} {m k c:Int} (hs:allS ps) (hw:who.length=ps.length) (hn:ps.length<=1000) (hc:0<=c/\c<=15):∀ (rs:List (List It)) (ws:List Int) (i:Nat) (n:Int),ps.drop i=rs->who.drop i=ws->i+rs.length=ps.length->0<=n->n<=1000*i->
  itN (kbu ps who m k c) (rs.length+1) ((i:Int),n)=some (n+wt rs ws m (16*k+c)):=by
 intro rs
 induction rs with
 | nil=>
  intro ws i n hd hd2 hlen h0 h1
  refine kbK ?_
  unfold kbu
  rw [if_neg (by rw [lenI_lt]; simp at hlen; omega)]
  simp [wt]
 | cons p rs ih=>
  intro ws i n hd hd2 hlen h0 h1
  simp only [jaq] at hlen
  have hi:i<ps.length:=by omega
  have hiw:i<who.length:=by omega
  have e1:ps[i]=p:=by have:=jaz hi; rw [hd] at this; exact (List.cons.inj this).1.symm
  have e2:ps.drop (i+1)=rs:=by have:=jaz hi; rw [hd] at this; exact (List.cons.inj this).2.symm
  have e3:ws=who[i]::who.drop (i+1):=by rw [<-hd2]; exact jaz hiw
  have hp:Stk p:=hs p (by rw [<-e1]; exact jce hi)
  have hr:=kbs hp (16*k+c)
  have hst:kbu ps who m k c ((i:Int),n)=some (.inl (((i+1:Nat):Int),n+if who[i]=m then look p (16*k+c) else 0)):=by
   unfold kbu
   rw [if_pos (lenI_lt.2 hi)]
   simp only [kak hi,kak hiw,jag,e1,kar (show i<9223372036854775807 by omega)]
   by_cases h:who[i]=m
   ·rw [if_pos (by simpa using h),kiN hp.v (by have:=hp.len; omega) hc]
    simp only [jag]
    rw [if_pos h,kcb (by omega) (by omega)]
   ·rw [if_neg (by simpa using h),if_neg h]; simp
  rw [jaq,kdm hst,ih _ (i+1) _ e2 rfl (by omega) (by split <;> omega) (by push_cast; split <;> omega),e3]
  simp only [wt,Int.add_assoc]
theorem kkh {ps:List (List It)} {who:List Int} {m k c:Int} (hs:allS ps) (hw:who.length=ps.length) (hn:ps.length<=1000) (hc:0<=c/\c<=15):kcL ps who m k c=some (wt ps who m (16*k+c)):=by
 have:=kqo (m:=m) (k:=k) hs hw hn hc ps who 0 0 rfl rfl (by omega) (by omega) (by omega)
 unfold kcL
 have h2:iter (kbu ps who m k c) (0,0)=_:=kdh this (by omega)
 rw [h2]
 simp
theorem kmI {box:List It} {ps:List (List It)} {who:List Int} {m:Int} (hb:Stk box) (hs:allS ps) (hw:who.length=ps.length) (hn:ps.length<=1000):∃ b,kdH box ps who m=some b/\(b=true↔∀ q,wt ps who m q<=look box q):=by
 have key1:∀ (i:Nat) (hi:i<ps.length) (hiw:i<who.length),∃ z,iter (kcj box ps who m (i:Int)) 0=some z/\((∃ q,z = .inl false/\look box q<wt ps who m q)\/(z = .inr ()/\(who[i]=m->∀ x∈ps[i],wt ps who m (key x)<=look box (key x)))):=by
  intro i hi hiw
  have hp:Stk ps[i]:=hs _ (jce hi)
  have hlen:=hp.len
  refine Fl.iter_inv (F:=kcj box ps who m (i:Int)) (I:=fun v=>∃ k:Nat,v=k/\k<=ps[i].length/\(who[i]=m->∀ j (hj:j<ps[i].length),j<k->wt ps who m (key ps[i][j])<=look box (key ps[i][j]))) (m:=fun v=>ps[i].length-v.toNat) (R:=fun z=>(∃ q,z = .inl false/\look box q<wt ps who m q)\/(z = .inr ()/\(who[i]=m->∀ x∈ps[i],wt ps who m (key x)<=look box (key x)))) ?_ 0 ⟨0,rfl,by omega,fun _ j _ h=>by omega⟩ (by omega)
  rintro _ ⟨k,rfl,hk,hI⟩
  by_cases hkl:k<ps[i].length
  ·have hx:=hp.v _ (jce hkl)
   have hF:kcj box ps who m (i:Int) (k:Int)=some (if who[i]=m/\look box (key ps[i][k])<wt ps who m (key ps[i][k]) then .inr (.inl false) else .inl ((k+1:Nat):Int)):=by
    unfold kcj
    simp only [kak hi,jag]
    rw [if_pos (lenI_lt.2 hkl)]
    simp only [kak hkl,kak hiw,jag,kar (show k<9223372036854775807 by omega)]
    by_cases h:who[i]=m
    ·rw [if_pos (by simpa using h),kkh hs hw hn ⟨hx.2.2.1,hx.2.2.2⟩,kiN hb.v (by have:=hb.len; omega) ⟨hx.2.2.1,hx.2.2.2⟩]
     simp only [jag,h,true_and]
     show (if decide (look box (key ps[i][k])<wt ps who m (key ps[i][k]))=true then _ else _)=_
     by_cases hc:look box (key ps[i][k])<wt ps who m (key ps[i][k]) <;> simp [hc]
    ·rw [if_neg (by simpa using h),if_neg (fun hh=>h hh.1)]
   by_cases hc:who[i]=m/\look box (key ps[i][k])<wt ps who m (key ps[i][k])
   ·rw [if_pos hc] at hF
    exact .inl ⟨_,hF,.inl ⟨_,rfl,hc.2⟩⟩
   ·rw [if_neg hc] at hF
    refine .inr ⟨_,hF,⟨k+1,rfl,by omega,fun he j hj hjk=>?_⟩,by simp; omega⟩
    rcases jcg.1 hjk with h | rfl
    ·exact hI he j hj h
    ·exact Int.not_lt.1 fun h=>hc ⟨he,h⟩
  ·refine .inl ⟨.inr (),?_,.inr ⟨rfl,fun he x hx=>?_⟩⟩
   ·unfold kcj
    simp only [kak hi,jag]
    rw [if_neg (by rw [lenI_lt]; exact hkl)]
   ·obtain ⟨j,hj,rfl⟩:=jdn.1 hx
    exact hI he j hj (by omega)
 obtain ⟨z,e,hz⟩:=Fl.iter_inv (F:=kbH box ps who m) (I:=fun v=>∃ k:Nat,v=k/\k<=ps.length/\∀ j (hj:j<ps.length) (hjw:j<who.length),j<k->who[j]=m->∀ x∈ps[j],wt ps who m (key x)<=look box (key x)) (m:=fun v=>ps.length-v.toNat)
  (R:=fun z=>(∃ q,z = .inl false/\look box q<wt ps who m q)\/(z = .inr ()/\∀ j (hj:j<ps.length) (hjw:j<who.length),who[j]=m->∀ x∈ps[j],wt ps who m (key x)<=look box (key x))) (by
  rintro _ ⟨k,rfl,hk,hI⟩
  by_cases hkl:k<ps.length
  ·have hkw:k<who.length:=by omega
   obtain ⟨z,e,hz⟩:=key1 k hkl hkw
   rcases hz with ⟨q,rfl,hq⟩ | ⟨rfl,hz⟩
   ·have hF:kbH box ps who m (k:Int)=some (.inr (.inl false)):=by
     unfold kbH
     rw [if_pos (lenI_lt.2 hkl),e]; rfl
    exact .inl ⟨_,hF,.inl ⟨q,rfl,hq⟩⟩
   ·have hF:kbH box ps who m (k:Int)=some (.inl ((k+1:Nat):Int)):=by
     unfold kbH
     rw [if_pos (lenI_lt.2 hkl),e,kar (by omega)]; rfl
    refine .inr ⟨_,hF,⟨k+1,rfl,by omega,fun j hj hjw hjk=>?_⟩,by simp; omega⟩
    rcases jcg.1 hjk with h | rfl
    ·exact hI j hj hjw h
    ·exact hz
  ·refine .inl ⟨.inr (),by unfold kbH; rw [if_neg (by rw [lenI_lt]; exact hkl)],.inr ⟨rfl,fun j hj hjw=>hI j hj hjw (by omega)⟩⟩) 0 ⟨0,rfl,by omega,fun j _ _ h=>by omega⟩ (by omega)
 unfold kdH
 rw [e]
 rcases hz with ⟨q,rfl,hq⟩ | ⟨rfl,hz⟩
 ·exact ⟨false,rfl,by simp; exact ⟨q,hq⟩⟩
 ·refine ⟨true,rfl,fun _ q=>?_,fun _=>rfl⟩
  have hb0:=kbs hb q
  by_cases h:0<wt ps who m q
  ·obtain ⟨i,hi,hiw,e1,e2⟩:=ksr hs h
   obtain ⟨x,hx,rfl⟩:=kks (show look ps[i] q≠0 by omega)
   exact hz i hi hiw e1 x hx
  ·omega
def left (f:Int->Int):List It->List It
 | []=>[]
 | x::l=>if 0<x.2.2-f (key x) then (x.1,x.2.1,x.2.2-f (key x))::left f l else left f l
theorem kgh {f:Int->Int}:∀ {l:List It} {y:It},y∈left f l->∃ x∈l,y.1=x.1/\y.2.1=x.2.1/\y.2.2=x.2.2-f (key x)/\0<y.2.2
 | [],_,h=>by simp [left] at h
 | x::l,y,h=>by
  simp only [left] at h
  split at h
  ·rename_i hp
   rcases jat.1 h with rfl | h
   ·exact ⟨x,by simp,rfl,rfl,rfl,hp⟩
   ·obtain ⟨z,hz,e⟩:=kgh h; exact ⟨z,by simp [hz],e⟩
  ·obtain ⟨z,hz,e⟩:=kgh h; exact ⟨z,by simp [hz],e⟩
theorem ktf {f:Int->Int} {l:List It} {y:It} (h:y∈left f l):∃ x∈l,key y=key x:=by
 obtain ⟨x,hx,h1,h2,_⟩:=kgh h
 exact ⟨x,hx,by unfold key; rw [h1,h2]⟩
theorem kkP {f:Int->Int}:∀ {l:List It},srt l->srt (left f l)
 | [],_=>List.Pairwise.nil
 | x::l,h=>by
  have h':=jda.1 h
  simp only [left]
  split
  ·refine jda.2 ⟨fun y hy=>?_,kkP h'.2⟩
   obtain ⟨z,hz,e⟩:=ktf hy
   have:=h'.1 z hz
   show key x<key y
   omega
  ·exact kkP h'.2
theorem kob {f:Int->Int}:∀ {l:List It},(left f l).length<=l.length
 | []=>by simp [left]
 | x::l=>by
  have:=kob (f:=f) (l:=l)
  simp only [left]
  split <;> simp <;> omega
theorem kna {f:Int->Int}:∀ {l:List It},srt l->(∀ q,0<=f q)->(∀ x∈l,f (key x)<=x.2.2)->∀ q,(∀ x∈l,key x≠q)/\look (left f l) q=0\/(∃ x∈l,key x=q)/\look (left f l) q=look l q-f q
 | [],_,_,_,q=>.inl ⟨by simp,rfl⟩
 | x::l,h,hf,hx,q=>by
  have h':=jda.1 h
  have ih:=kna h'.2 hf (fun y hy=>hx y (by simp [hy])) q
  by_cases e:key x=q
  ·right
   refine ⟨⟨x,by simp,e⟩,?_⟩
   subst e
   have h0:=hx x (by simp)
   simp only [left]
   split
   ·rename_i hp
    rw [kbq]
    show look ((x.1,x.2.1,x.2.2-f (key x))::left f l) (key (x.1,x.2.1,x.2.2-f (key x)))=_
    rw [kbq]
   ·rw [kbq]
    rcases ih with ⟨_,ih⟩ | ⟨⟨y,hy,ey⟩,_⟩
    ·rw [ih]; omega
    ·have:=h'.1 y hy; omega
  ·have hl:look (left f (x::l)) q=look (left f l) q:=by
    simp only [left]
    split
    ·exact kbD (by simpa [key] using e)
    ·rfl
   rw [hl,kbD e]
   rcases ih with ⟨h1,h2⟩ | ⟨⟨y,hy,ey⟩,h2⟩
   ·exact .inl ⟨fun z hz=>by rcases jat.1 hz with rfl | hz; exact e; exact h1 z hz,h2⟩
   ·exact .inr ⟨⟨y,by simp [hy],ey⟩,h2⟩
theorem ksM {f:Int->Int} {l:List It} (hl:Stk l) (hf:∀ q,0<=f q) (h:∀ q,f q<=look l q):Stk (left f l)/\∀ q,look (left f l) q=look l q-f q:=by
 have hx:∀ x∈l,f (key x)<=x.2.2:=fun x hx=>by rw [<-keW hl.s hx]; exact h _
 refine ⟨⟨fun y hy=>?_,kkP hl.s,fun y hy=>?_,jcv kob hl.len⟩,fun q=>?_⟩
 ·obtain ⟨x,hx,h1,h2,_⟩:=kgh hy
  rw [h1,h2]; exact hl.v x hx
 ·obtain ⟨x,hx,h1,h2,h3,h4⟩:=kgh hy
  have:=hl.n x hx
  have:=hf (key x)
  omega
 ·rcases kna hl.s hf hx q with ⟨h1,h2⟩ | ⟨_,h2⟩
  ·have:=hf q
   have:=h q
   rw [kbT h1] at this ⊢
   omega
  ·exact h2
theorem kuf {box:List It} {ps:List (List It)} {who:List Int} {m:Int} (hb:Stk box) (hs:allS ps) (hw:who.length=ps.length) (hn:ps.length<=1000):kfX box ps who m=some (left (wt ps who m) box):=by
 have hbl:=hb.len
 have key1:∀ (rs:List It) (i:Nat) (out:List It),box.drop i=rs->i+rs.length=box.length->out.length<=i->itN (kci box ps who m) (rs.length+1) ((i:Int),out)=some (out++left (wt ps who m) rs):=by
  intro rs
  induction rs with
  | nil=>
   intro i out hd hlen ho
   refine kbK ?_
   unfold kci
   rw [if_neg (by rw [lenI_lt]; simp at hlen; omega)]
   simp [left]
  | cons x rs ih=>
   intro i out hd hlen ho
   simp only [jaq] at hlen
   have hi:i<box.length:=by omega
   have e1:box[i]=x:=by have:=jaz hi; rw [hd] at this; exact (List.cons.inj this).1.symm
   have e2:box.drop (i+1)=rs:=by have:=jaz hi; rw [hd] at this; exact (List.cons.inj this).2.symm
   have hm:x∈box:=by rw [<-e1]; exact jce hi
   have hx:=hb.v x hm
   have hxn:=hb.n x hm
   have hwr:=krK (ws:=who) (m:=m) (q:=key x) hs
   have hst:kci box ps who m ((i:Int),out)=some (.inl (((i+1:Nat):Int),if 0<x.2.2-wt ps who m (key x) then out++[(x.1,x.2.1,x.2.2-wt ps who m (key x))] else out)):=by
    unfold kci
    rw [if_pos (lenI_lt.2 hi)]
    simp only [kak hi,jag,e1,kar (show i<9223372036854775807 by omega),kkh hs hw hn ⟨hx.2.2.1,hx.2.2.2⟩]
    show (if decide (0<w64 (x.2.2-wt ps who m (key x)))=true then (gapp out [(x.1,x.2.1,w64 (x.2.2-wt ps who m (key x)))]).bind _ else _)=_
    rw [kcb (by omega) (by omega)]
    by_cases h:0<x.2.2-wt ps who m (key x)
    ·rw [if_pos (by simpa using h),if_pos h,kbS (by simp; omega)]; rfl
    ·rw [if_neg (by simpa using h),if_neg h]
   rw [jaq,kdm hst,ih (i+1) _ e2 (by omega) (by split <;> (try simp) <;> omega)]
   simp only [left]
   split <;> simp
 have:=key1 box 0 [] rfl (by omega) (by simp)
 unfold kfX
 have h2:iter (kci box ps who m) (0,[])=_:=kdh this (by omega)
 rw [h2]
 simp
section
variable {vals:List Int} {ps:List (List It)} {box:List It}
def bt (vals:List Int) (S:Nat) (c:kbb):Bool:=decide (c.2.1<(mem vals S 0).2)||(decide ((mem vals S 0).2=c.2.1)&&ltL (mem vals S 0).1 c.1)
structure Is (vals:List Int) (ps:List (List It)) (box:List It) (T:Nat) (c:kbb):Prop where
 lt:T<2 ^ vals.length
 l:c.1=(mem vals T 0).1
 v:c.2.1=(mem vals T 0).2
 s:Stk c.2.2
 k:∀ q,look c.2.2 q=look box q-wl ps T q
def St (vals:List Int) (ps:List (List It)) (box:List It) (P:Nat->Prop) (c:kbb):Prop:=
 (c=([],-1,[])/\∀ S,¬ P S)\/∃ T,P T/\Is vals ps box T c/\∀ S,P S->bt vals S c=false
theorem ksX (a:List Int):ltL a a=false:=by
 unfold ltL
 have:=keo (a:=a) (b:=a)
 rw [if_pos rfl]; simp; omega
theorem St.add {P P':Nat->Prop} {c:kbb} (hv:okV vals) (h:St vals ps box P c) {S:Nat} (hP:∀ T,P' T↔P T\/T=S) {y:List It} (hs:Stk y) (hk:∀ q,look y q=look box q-wl ps S q) (hlt:S<2 ^ vals.length) :
  St vals ps box P' (if bt vals S c=true then ((mem vals S 0).1,(mem vals S 0).2,y) else c):=by
 by_cases hb:bt vals S c=true
 ·rw [if_pos hb]
  refine .inr ⟨S,(hP S).2 (.inr rfl),⟨hlt,rfl,rfl,hs,hk⟩,fun S' hS'=>?_⟩
  rcases (hP S').1 hS' with hS' | rfl
  ·rcases h with ⟨_,h⟩ | ⟨T,hT,hI,h⟩
   ·exact absurd hS' (h S')
   ·have h2:=h S' hS'
    unfold bt at hb h2 ⊢
    simp only [jap,jab,jaj,jbt,jdv,decide_eq_false_iff_not] at hb h2 ⊢
    refine ⟨by omega,?_⟩
    by_cases e:(mem vals S' 0).2=(mem vals S 0).2
    ·right
     cases hl:ltL (mem vals S' 0).1 (mem vals S 0).1 with
     | false=>rfl
     | true=>
      exfalso
      rcases hb with hb | ⟨hb1,hb2⟩
      ·omega
      ·rcases h2.2 with h3 | h3
       ·exact h3 (by omega)
       ·rw [ksb hl hb2] at h3; cases h3
    ·exact .inl e
  ·unfold bt
   simp [ksX]
 ·rw [if_neg hb]
  rw [jbh] at hb
  rcases h with ⟨rfl,h⟩ | ⟨T,hT,hI,h⟩
  ·exfalso
   have:=kjL (T:=S) (i:=0) hv
   unfold bt at hb
   simp only [jbt,decide_eq_false_iff_not] at hb
   omega
  ·refine .inr ⟨T,(hP T).2 (.inl hT),hI,fun S' hS'=>?_⟩
   rcases (hP S').1 hS' with hS' | rfl
   ·exact h S' hS'
   ·exact hb
theorem St.same {P P':Nat->Prop} {c:kbb} (h:St vals ps box P c) (hP:∀ T,P' T↔P T):St vals ps box P' c:=by
 obtain rfl:P'=P:=funext fun T=>propext (hP T)
 exact h
theorem St.uniq {P:Nat->Prop} {c d:kbb} (hc:St vals ps box P c) (hd:St vals ps box P d) (h0:∃ S,P S):c=d/\c.1.length<=vals.length/\c.2.2.length<=30/\okV vals=okV vals:=by
 obtain ⟨S0,h0⟩:=h0
 rcases hc with ⟨_,h⟩ | ⟨T,hT,hI,h⟩
 ·exact absurd h0 (h S0)
 rcases hd with ⟨_,g⟩ | ⟨U,hU,hJ,g⟩
 ·exact absurd h0 (g S0)
 have h1:=h U hU
 have h2:=g T hT
 unfold bt at h1 h2
 rw [<-hJ.l,<-hJ.v] at h1
 rw [<-hI.l,<-hI.v] at h2
 simp only [jbt,jdv,decide_eq_false_iff_not] at h1 h2
 have hv:c.2.1=d.2.1:=by omega
 have hl:c.1=d.1:=by
  rcases h1.2 with h3 | h3
  ·omega
  ·rcases h2.2 with h4 | h4
   ·omega
   ·exact kug h4 h3
 have hTU:T=U:=kmC hI.lt hJ.lt (by rw [<-hI.l,<-hJ.l,hl])
 subst hTU
 have hs:=stkU hI.s hJ.s fun q=>by rw [hI.k,hJ.k]
 refine ⟨?_,?_,hI.s.len,rfl⟩
 ·obtain ⟨c1,c2,c3⟩:=c
  obtain ⟨d1,d2,d3⟩:=d
  simp only at hl hv hs
  rw [hl,hv,hs]
 ·have:∀ (vs:List Int) (T i:Nat),(mem vs T i).1.length<=vs.length:=by
   intro vs
   induction vs with
   | nil=>intro T i; simp [mem]
   | cons v vs ih=>
    intro T i
    have:=ih (T / 2) (i+1)
    simp only [mem,jaq]
    split <;> (try simp only [jaq]) <;> omega
  rw [hI.l]; exact this _ _ _
theorem pow20 {n T:Nat} (hn:n<=12) (h:T<2 ^ n):T<2 ^ 20:=jao h (jee (by omega) (by omega))
theorem kpS {ls:List (Int×List It)} (hv:okV vals) (hl:vals.length<=12) {k S:Nat} {c:kbb} (hk:k<ls.length) (hS:ls[k].1=(S:Int)) (hlt:S<2 ^ vals.length) (hs:Stk ls[k].2) :
  kch vals ls ((k:Int),c)=some (.inl (((k+1:Nat):Int),if bt vals S c=true then ((mem vals S 0).1,(mem vals S 0).2,ls[k].2) else c)):=by
 have hm:=kjL (T:=S) (i:=0) hv
 unfold kch
 rw [if_pos (lenI_lt.2 hk),kak hk]
 simp only [jag,hS,klD (pow20 hl hlt) hv (by omega),koN _ (by have:=hs.len; omega:ls[k].2.length<=1000),khZ,ktE (mem vals S 0).1 c.1 (by omega),knl,or_lt (mem vals S 0).1 c.1 (by omega)]
 unfold bt
 by_cases h1:c.2.1<(mem vals S 0).2
 ·simp [h1]
 ·by_cases h2:(mem vals S 0).2=c.2.1
  ·cases h3:ltL (mem vals S 0).1 c.1 <;> simp [h1,h2,h3]
  ·simp [h1,h2]
theorem kql (hv:okV vals) (hl:vals.length<=12) (hp:ps.length=vals.length) {ls:List (Int×List It)} (hn:ls.length<9223372036854775807) (h1:∀ y∈ls,∃ T:Nat,T<2 ^ ps.length/\y.1=(T:Int)/\(∀ q,wl ps T q<=look box q)/\Stk y.2/\∀ q,look y.2 q=look box q-wl ps T q) :
  ∃ c,iter (kch vals ls) (0,[],(-1),[])=some (.inr c)/\St vals ps box (fun T=>∃ y∈ls,y.1=(T:Int)) c:=by
 obtain ⟨z,e,c,rfl,hc⟩:=Fl.iter_inv (F:=kch vals ls) (I:=fun v=>∃ k:Nat,v.1=k/\k<=ls.length/\St vals ps box (fun T=>∃ y∈ls.take k,y.1=(T:Int)) v.2) (m:=fun v=>ls.length-v.1.toNat)
  (R:=fun z=>∃ c,z = .inr c/\St vals ps box (fun T=>∃ y∈ls,y.1=(T:Int)) c) (by
  rintro ⟨v,c⟩ ⟨k,hkv,hk,hI⟩
  simp only at hkv hI
  subst hkv
  by_cases hkl:k<ls.length
  ·obtain ⟨T,t1,t2,t3,t4,t5⟩:=h1 _ (jce hkl)
   refine .inr ⟨_,kpS hv hl hkl t2 (by rw [<-hp]; exact t1) t4,⟨k+1,rfl,by omega,?_⟩,by simp; omega⟩
   refine hI.add hv (fun U=>?_) t4 t5 (by rw [<-hp]; exact t1)
   rw [jcm hkl]
   constructor
   ·rintro ⟨y,hy,e⟩
    rcases jay.1 hy with hy | hy
    ·exact .inl ⟨y,hy,e⟩
    ·simp at hy; subst hy; right; rw [t2] at e; omega
   ·rintro (⟨y,hy,e⟩ | rfl)
    ·exact ⟨y,List.mem_append_left _ hy,e⟩
    ·exact ⟨_,List.mem_append_right _ (by simp),t2⟩
  ·obtain rfl:k=ls.length:=by omega
   refine .inl ⟨_,by unfold kch; rw [if_neg (by rw [lenI_lt]; exact hkl)],c,rfl,?_⟩
   rwa [List.take_length] at hI) (0,[],(-1),[]) ⟨0,rfl,by omega,.inl ⟨rfl,fun S ⟨y,hy,_⟩=>by simp at hy⟩⟩ (by simp; omega)
 exact ⟨c,e,hc⟩
theorem kuc (hv:okV vals) (hl:vals.length<=12) (hp:ps.length=vals.length) {T:Nat} {c:kbb} (hT:T<2 ^ 20):iter (kbr ps vals ((T:Int),c)) (0,List.replicate vals.length 0,0,[])=some (bl vals.length T,(mem vals T 0).2,(mem vals T 0).1):=by
 have:=kur (c:=c) hT hv (by omega) hp vals 0 [] 0 [] rfl (by omega) rfl (by omega) (by omega) (by simp)
 have h2:iter (kbr ps vals ((T:Int),c)) (0,List.replicate vals.length 0,0,[])=_:=kdh this (by omega)
 rw [h2]
 simp
theorem ksW (hb:Stk box) (hs:allS ps) (hv:okV vals) (hl:vals.length<=12) (hp:ps.length=vals.length) {T:Nat} {c:kbb} (hT:T<2 ^ vals.length):∃ f:Bool,(f=true↔∀ q,wl ps T q<=look box q)/\
  kbG box ps vals ((T:Int),c)=some (.inl (((T+1:Nat):Int),if f=true then (if bt vals T c=true then ((mem vals T 0).1,(mem vals T 0).2,left (wl ps T) box) else c) else c)):=by
 have hm:=kjL (T:=T) (i:=0) hv
 obtain ⟨f,hf,hfi⟩:=kmI (m:=1) (who:=bl vals.length T) hb hs (by rw [koc,hp]) (by omega)
 have hwl:∀ q,wt ps (bl vals.length T) 1 q=wl ps T q:=fun q=>by rw [<-hp]; exact wt_bl
 refine ⟨f,?_,?_⟩
 ·rw [hfi]; exact ⟨fun h q=>by rw [<-hwl]; exact h q,fun h q=>by rw [hwl]; exact h q⟩
 ·have hT2:=pow20 hl hT
  unfold kbG
  rw [kad,show gshl .i64 1 (ps.length:Int)=some (w64 (1*2 ^ (min ((ps.length:Int).toNat) 64))) from if_pos (by omega),shl1 (by omega)]
  simp only [jag]
  rw [if_pos (by rw [hp]; exact decide_eq_true (Int.ofNat_lt.2 hT))]
  rw [show gmk (ps.length:Int) (0:Int)=some (List.replicate vals.length 0) by unfold gmk; rw [if_pos (by omega),hp]; simp]
  simp only [jag,kuc hv hl hp hT2,hf,ksZ (mem vals T 0).1 c.1 (by omega),kuf (m:=1) (who:=bl vals.length T) hb hs (by rw [koc,hp]) (by omega)]
  rw [show wt ps (bl vals.length T) 1=wl ps T from funext hwl,kar (by omega)]
  unfold bt
  cases f with
  | false=>simp
  | true=>
   by_cases h1:c.2.1<(mem vals T 0).2
   ·simp [h1]
   ·by_cases h2:(mem vals T 0).2=c.2.1
    ·cases h3:ltL (mem vals T 0).1 c.1 <;> simp [h1,h2,h3]
    ·simp [h1,h2]
theorem krw (hb:Stk box) (hs:allS ps) (hv:okV vals) (hl:vals.length<=12) (hp:ps.length=vals.length) :
  ∃ c,iter (kbG box ps vals) (0,[],(-1),[])=some c/\St vals ps box (fun T=>T<2 ^ ps.length/\∀ q,wl ps T q<=look box q) c:=by
 have hpw:2 ^ vals.length<2 ^ 20:=Nat.pow_lt_pow_right (by omega) (by omega)
 refine Fl.iter_inv (F:=kbG box ps vals) (I:=fun v=>∃ k:Nat,v.1=k/\k<=2 ^ vals.length/\St vals ps box (fun T=>T<k/\∀ q,wl ps T q<=look box q) v.2) (m:=fun v=>2 ^ vals.length-v.1.toNat)
  (R:=fun c=>St vals ps box (fun T=>T<2 ^ ps.length/\∀ q,wl ps T q<=look box q) c) ?_ (0,[],(-1),[]) ⟨0,rfl,jeb _,.inl ⟨rfl,fun S h=>by have:=h.1; omega⟩⟩ (Nat.lt_of_le_of_lt (Nat.sub_le _ _) (Nat.lt_trans hpw (by omega)))
 rintro ⟨v,c⟩ ⟨k,hkv,hk,hI⟩
 simp only at hkv hI
 subst hkv
 by_cases hkl:k<2 ^ vals.length
 ·obtain ⟨f,hf,hst⟩:=ksW hb hs hv hl hp (c:=c) hkl
  refine .inr ⟨_,hst,⟨k+1,rfl,by omega,?_⟩,by simp; omega⟩
  cases hfv:f with
  | true=>
   rw [if_pos rfl]
   have hfit:=hf.1 hfv
   obtain ⟨g1,g2⟩:=ksM hb (fun q=>wl_nn hs) hfit
   refine hI.add hv (fun U=>?_) g1 g2 hkl
   constructor
   ·rintro ⟨h1,h2⟩
    rcases jcg.1 h1 with h | h
    ·exact .inl ⟨h,h2⟩
    ·exact .inr h
   ·rintro (⟨h1,h2⟩ | rfl)
    ·exact ⟨by omega,h2⟩
    ·exact ⟨by omega,hfit⟩
  | false=>
   rw [if_neg (by simp)]
   refine hI.same fun U=>⟨fun ⟨h1,h2⟩=>?_,fun ⟨h1,h2⟩=>⟨by omega,h2⟩⟩
   rcases jcg.1 h1 with h | rfl
   ·exact ⟨h,h2⟩
   ·have:=hf.2 h2; rw [hfv] at this; cases this
 ·obtain rfl:k=2 ^ vals.length:=by omega
  refine .inl ⟨c,?_,by rw [hp]; exact hI⟩
  unfold kbG
  rw [kad,show gshl .i64 1 (ps.length:Int)=some (w64 (1*2 ^ (min ((ps.length:Int).toNat) 64))) from if_pos (by omega),shl1 (by omega)]
  simp only [jag]
  rw [if_neg (by rw [hp]; simp)]
end
def wh:Nat->Nat->Nat->List Int
 | 0,_,_=>[]
 | n+1,M,S=>((M % 2+2*(S % 2):Nat):Int)::wh n (M / 2) (S / 2)
theorem klv:∀ n M S,(wh n M S).length=n
 | 0,_,_=>rfl
 | n+1,M,S=>by simp [wh,klv]
def vw:List Int->List Int->Int
 | v::vs,w::ws=>(if w≠0 then v else 0)+vw vs ws
 | _,_=>0
theorem kop:∀ {vs ws:List Int},okV vs->0<=vw vs ws/\vw vs ws<=1000*vs.length
 | [],_,_=>by simp [vw]
 | v::vs,[],_=>by simp [vw]; omega
 | v::vs,w::ws,h=>by
  have h1:=kop (vs:=vs) (ws:=ws) fun x hx=>h x (by simp [hx])
  have h2:=h v (by simp)
  simp only [vw,jaq]
  split <;> omega
theorem and2 {M S:Nat} (h:M &&& S=0):¬ (M % 2=1/\S % 2=1)/\M / 2 &&& S / 2=0:=by
 refine ⟨fun hh=>?_,by rw [<-Nat.and_div_two,h]⟩
 have:=Nat.and_mod_two_eq_one.2 hh
 rw [h] at this; simp at this
theorem wt_wh:∀ {ps:List (List It)} {M S:Nat} {q:Int},M &&& S=0->wt ps (wh ps.length M S) 1 q=wl ps M q/\wt ps (wh ps.length M S) 2 q=wl ps S q
 | [],_,_,_,_=>⟨rfl,rfl⟩
 | p::ps,M,S,q,h=>by
  obtain ⟨h1,h2⟩:=and2 h
  obtain ⟨i1,i2⟩:=wt_wh (ps:=ps) (q:=q) h2
  simp only [jaq,wh,wt,wl,i1,i2]
  rcases jcb M with e | e <;> rcases jcb S with f | f
  ·simp [e,f]
  ·simp [e,f]
  ·simp [e,f]
  ·exact absurd ⟨e,f⟩ h1
theorem vw_wh:∀ {vs:List Int} {M S i:Nat},M &&& S=0->(mem vs (M ||| S) i).2=vw vs (wh vs.length M S)
 | [],_,_,_,_=>rfl
 | v::vs,M,S,i,h=>by
  obtain ⟨h1,h2⟩:=and2 h
  have ih:=vw_wh (vs:=vs) (i:=i+1) h2
  have hm:(M ||| S) % 2=1↔M % 2=1\/S % 2=1:=Nat.or_mod_two_eq_one
  simp only [jaq,wh,vw,mem,Nat.or_div_two,ih]
  rcases jcb M with e | e <;> rcases jcb S with f | f
  ·rw [if_neg (by rw [hm]; omega)]; simp [e,f,ih]
  ·rw [if_pos (by rw [hm]; omega)]; simp [e,f,ih]
  ·rw [if_pos (by rw [hm]; omega)]; simp [e,f,ih]
  ·exact absurd ⟨e,f⟩ h1
def tri (w:List Int):Prop:=∀ x∈w,x=0\/x=1\/x=2
theorem kpe:∀ {n M S:Nat},M &&& S=0->tri (wh n M S)
 | 0,_,_,_=>fun x hx=>by simp [wh] at hx
 | n+1,M,S,h=>fun x hx=>by
  obtain ⟨h1,h2⟩:=and2 h
  rcases jat.1 hx with rfl | hx
  ·omega
  ·exact kpe h2 x hx
def mk (m:Int):List Int->Nat
 | []=>0
 | x::w=>(if x=m then 1 else 0)+2*mk m w
theorem mk_lt:∀ {m:Int} {w:List Int},mk m w<2 ^ w.length
 | _,[]=>by simp [mk]
 | m,x::w=>by
  have:=mk_lt (m:=m) (w:=w)
  simp only [mk,jaq,jdt]
  split <;> omega
theorem knW:∀ {w:List Int},mk 1 w &&& mk 2 w=0
 | []=>rfl
 | x::w=>by
  have ih:=knW (w:=w)
  refine Nat.eq_of_testBit_eq fun i=>?_
  rw [Nat.zero_testBit,Nat.testBit_and]
  cases i with
  | zero=>
   simp only [Nat.testBit_zero,mk]
   by_cases h:x=1
   ·have:¬ x=2:=by omega
    simp [h]
   ·simp [h]
  | succ i=>
   have e1:(mk 1 (x::w)) / 2=mk 1 w:=by simp only [mk]; split <;> omega
   have e2:(mk 2 (x::w)) / 2=mk 2 w:=by simp only [mk]; split <;> omega
   rw [Nat.testBit_succ,Nat.testBit_succ,e1,e2,<-Nat.testBit_and,ih,Nat.zero_testBit]
theorem wh_mk:∀ {w:List Int},tri w->wh w.length (mk 1 w) (mk 2 w)=w
 | [],_=>rfl
 | x::w,h=>by
  have e1:(mk 1 (x::w)) / 2=mk 1 w:=by simp only [mk]; split <;> omega
  have e2:(mk 2 (x::w)) / 2=mk 2 w:=by simp only [mk]; split <;> omega
  have ih:=wh_mk (w:=w) fun y hy=>h y (jba _ hy)
  simp only [jaq,wh,e1,e2,ih]
  congr 1
  simp only [mk]
  rcases h x (by simp) with rfl | rfl | rfl <;> simp <;> omega
def dg:Nat->Nat->List Int
 | 0,_=>[]
 | n+1,m=>dg n (m / 3)++[((m % 3:Nat):Int)]
theorem kjb:∀ n m,(dg n m).length=n
 | 0,_=>rfl
 | n+1,m=>by simp [dg,kjb]
theorem ksy:∀ {n m:Nat},tri (dg n m)
 | 0,_=>fun x hx=>by simp [dg] at hx
 | n+1,m=>fun x hx=>by
  simp only [dg] at hx
  rcases jay.1 hx with hx | hx
  ·exact ksy x hx
  ·simp at hx; omega
theorem kpb:∀ {u v p q:List Int},u.length=v.length->lexC u v<0->lexC (u++p) (v++q)<0
 | [],[],_,_,_,h=>by simp [lexC] at h
 | [],_::_,_,_,h,_=>by simp at h
 | _::_,[],_,_,h,_=>by simp at h
 | x::u,y::v,p,q,hl,h=>by
  have ih:=kpb (u:=u) (v:=v) (p:=p) (q:=q) (by simpa using hl)
  simp only [lexC,jdg] at h ⊢
  split at h
  ·rename_i hc; rw [if_pos hc]; exact h
  ·rename_i hc; rw [if_neg hc]; exact ih h
theorem kmZ:∀ {u:List Int} {x y:Int},x<y->lexC (u++[x]) (u++[y])<0
 | [],x,y,h=>by simp [lexC,cmpI,h]
 | z::u,x,y,h=>by
  have:=kmZ (u:=u) h
  simp only [lexC,jdg]
  rw [if_neg (by simp [cmpI])]; exact this
theorem dg_lt:∀ {n a b:Nat},a<b->b<3 ^ n->lexC (dg n a) (dg n b)<0
 | 0,a,b,h1,h2=>by simp at h2; omega
 | n+1,a,b,h1,h2=>by
  rw [jdt] at h2
  simp only [dg]
  rcases jdh (a / 3) (b / 3) with h | h
  ·exact kpb (by rw [kjb,kjb]) (dg_lt h (by omega))
  ·have e:a / 3=b / 3:=by omega
   rw [e]
   exact kmZ (by omega)
theorem krJ:∀ {n:Nat} {w:List Int},w.length=n->tri w->∃ m,m<3 ^ n/\dg n m=w
 | 0,w,h,_=>⟨0,by simp,by simp [dg,jbf h]⟩
 | n+1,w,h,ht=>by
  have hne:w≠[]:=by intro e; simp [e] at h
  obtain ⟨m,hm,e⟩:=krJ (n:=n) (w:=w.dropLast) (by simp [h]) fun x hx=>ht x (List.dropLast_subset _ hx)
  have hx:=ht _ (List.getLast_mem hne)
  have hw:=List.dropLast_concat_getLast hne
  have key:∀ d:Nat,d<3->w.getLast hne=(d:Int)->∃ m,m<3 ^ (n+1)/\dg (n+1) m=w:=fun d hd he=>by
   refine ⟨3*m+d,by rw [jdt]; omega,?_⟩
   simp only [dg]
   rw [show (3*m+d) / 3=m by omega,show (3*m+d) % 3=d by omega,e,<-he,hw]
  rcases hx with hx | hx | hx
  ·exact key 0 (by omega) (by rw [hx]; rfl)
  ·exact key 1 (by omega) (by rw [hx]; rfl)
  ·exact key 2 (by omega) (by rw [hx]; rfl)
theorem krN:∀ {a w:List Int} {x y:Int},a.length=w.length->vw (a++[x]) (w++[y])=vw a w+if y≠0 then x else 0
 | [],[],x,y,_=>by simp [vw]
 | [],_::_,_,_,h=>by simp at h
 | _::_,[],_,_,h=>by simp at h
 | v::a,z::w,x,y,h=>by
  have:=krN (a:=a) (w:=w) (x:=x) (y:=y) (by simpa using h)
  simp only [jdg,vw,this]; omega
section
variable {vals:List Int}
def bw (vals w:List Int) (s:Int×List Int):Bool:=decide (s.1<vw vals w)||(decide (vw vals w=s.1)&&decide (lexC w s.2<0))
def Sw (vals:List Int) (P:List Int->Prop) (s:Int×List Int):Prop:=
 (s=(-1,[])/\∀ w,¬ P w)\/(P s.2/\s.1=vw vals s.2/\∀ w,P w->bw vals w s=false)
theorem Sw.add {P P':List Int->Prop} {s:Int×List Int} (hv:okV vals) (h:Sw vals P s) {w:List Int} (hP:∀ u,P' u↔P u\/u=w):Sw vals P' (if bw vals w s=true then (vw vals w,w) else s):=by
 by_cases hb:bw vals w s=true
 ·rw [if_pos hb]
  refine .inr ⟨(hP w).2 (.inr rfl),rfl,fun u hu=>?_⟩
  rcases (hP u).1 hu with hu | rfl
  ·rcases h with ⟨_,h⟩ | ⟨_,_,h⟩
   ·exact absurd hu (h u)
   ·have h2:=h u hu
    unfold bw at hb h2 ⊢
    simp only [jap,jab,jaj,jbt,jdv,decide_eq_false_iff_not] at hb h2 ⊢
    refine ⟨by omega,?_⟩
    by_cases e:vw vals u=vw vals w
    ·right
     intro hl
     rcases hb with hb | ⟨hb1,hb2⟩
     ·omega
     ·rcases h2.2 with h3 | h3
      ·exact h3 (by omega)
      ·exact h3 (khY hl hb2)
    ·exact .inl e
  ·unfold bw
   have:=keo (a:=u) (b:=u)
   simp; omega
 ·rw [if_neg hb]
  rw [jbh] at hb
  rcases h with ⟨rfl,h⟩ | ⟨h1,h2,h⟩
  ·exfalso
   have:=kop (ws:=w) hv
   unfold bw at hb
   simp only [jbt,decide_eq_false_iff_not] at hb
   omega
  ·refine .inr ⟨(hP _).2 (.inl h1),h2,fun u hu=>?_⟩
   rcases (hP u).1 hu with hu | rfl
   ·exact h u hu
   ·exact hb
theorem Sw.same {P P':List Int->Prop} {s:Int×List Int} (h:Sw vals P s) (hP:∀ T,P' T↔P T):Sw vals P' s:=by
 obtain rfl:P'=P:=funext fun T=>propext (hP T)
 exact h
theorem Sw.uniq {P:List Int->Prop} {c d:Int×List Int} (hc:Sw vals P c) (hd:Sw vals P d) (h0:∃ S,P S):c=d/\P c.2:=by
 obtain ⟨S0,h0⟩:=h0
 rcases hc with ⟨_,h⟩ | ⟨hT,hI,h⟩
 ·exact absurd h0 (h S0)
 rcases hd with ⟨_,g⟩ | ⟨hU,hJ,g⟩
 ·exact absurd h0 (g S0)
 have h1:=h _ hU
 have h2:=g _ hT
 unfold bw at h1 h2
 rw [<-hJ] at h1
 rw [<-hI] at h2
 simp only [jbt,jdv,decide_eq_false_iff_not] at h1 h2
 have hv:c.1=d.1:=by omega
 have ha:=keo (a:=c.2) (b:=d.2)
 have hl:c.2=d.2:=by
  rcases h1.2 with h3 | h3
  ·omega
  ·rcases h2.2 with h4 | h4
   ·omega
   ·exact kmq (by omega)
 exact ⟨Prod.ext hv hl,hT⟩
end
section
variable {vals:List Int} {ps:List (List It)}
theorem kti {y:Int×List It} {M S:Nat} (hy:y.1=(M:Int)) (hM:M<2 ^ 20) (hS:S<2 ^ 20) {w0:List Int} (hw0:w0.length<=12):∀ (r i:Nat) (pre:List Int),i+r=w0.length->pre.length=i->
  itN (kcd y (S:Int) w0) (r+1) ((i:Int),pre++List.replicate r 0)=some (pre++wh r (M / 2 ^ i) (S / 2 ^ i)):=by
 intro r
 induction r with
 | zero=>
  intro i pre hlen hpl
  refine kbK ?_
  unfold kcd
  rw [if_neg (by rw [lenI_lt]; omega)]
  simp [wh]
 | succ r ih=>
  intro i pre hlen hpl
  have hMi:M / 2 ^ i<2 ^ 20:=Nat.lt_of_le_of_lt (Nat.div_le_self _ _) hM
  have hSi:S / 2 ^ i<2 ^ 20:=Nat.lt_of_le_of_lt (Nat.div_le_self _ _) hS
  have hval:IntKind.wrap .u8 (w64 (((M / 2 ^ i % 2:Nat):Int)+w64 (2*((S / 2 ^ i % 2:Nat):Int))))=((M / 2 ^ i % 2+2*(S / 2 ^ i % 2):Nat):Int):=by
   rcases jcb (M / 2 ^ i) with e | e <;> rcases jcb (S / 2 ^ i) with f | f <;> rw [e,f] <;> decide
  have hst:kcd y (S:Int) w0 ((i:Int),pre++List.replicate (r+1) 0)=some (.inl (((i+1:Nat):Int),(pre++[((M / 2 ^ i % 2+2*(S / 2 ^ i % 2):Nat):Int)])++List.replicate r 0)):=by
   unfold kcd
   rw [if_pos (lenI_lt.2 (by omega))]
   have hw:i<(pre++List.replicate (r+1) (0:Int)).length:=by simp; omega
   simp only [hy,kmw (show i<64 by omega),jag,kak hw,kar (show i<9223372036854775807 by omega),and1 hMi,and1 hSi,hval]
   rw [List.replicate_succ,kkQ hpl]; simp
  rw [kdm hst,ih (i+1) _ (by omega) (by simp; omega),kgf,kgf]
  simp [wh]
theorem krL {y:Int×List It} {M S:Nat} (hy:y.1=(M:Int)) (hM:M<2 ^ 20) (hS:S<2 ^ 20) {n:Nat} (hn:n<=12):iter (kcd y (S:Int) (List.replicate n 0)) (0,List.replicate n 0)=some (wh n M S):=by
 have:=kti hy hM hS (w0:=List.replicate n 0) (by simpa using hn) n 0 [] (by simp) rfl
 have h2:iter (kcd y (S:Int) (List.replicate n 0)) (0,List.replicate n 0)=_:=kdh this (by omega)
 rw [h2]; simp
theorem kra (hv:okV vals) (hl:vals.length<=12) (hp:ps.length=vals.length) {os:List Int} {y:Int×List It} {M S j:Nat} (hos:os.length<=1048576) (hj:j<os.length) (hS:os[j]=(S:Int)) (hy:y.1=(M:Int)) (hM:M<2 ^ 20) (hS2:S<2 ^ 20) (s:Int×List Int) :
  kcM ps vals os y ((j:Int),s)=some (.inl (((j+1:Nat):Int),if M &&& S=0 then (if bw vals (wh vals.length M S) s=true then (vw vals (wh vals.length M S),wh vals.length M S) else s) else s)):=by
 have hMS:M ||| S<2 ^ 20:=Nat.or_lt_two_pow hM hS2
 unfold kcM
 rw [if_pos (lenI_lt.2 hj)]
 simp only [kak hj,hS,hy,jag,kar (show j<9223372036854775807 by omega)]
 rw [kqC (by omega) (by omega),ksD (by omega) (by omega),kad,show gmk (ps.length:Int) (0:Int)=some (List.replicate vals.length 0) by unfold gmk; rw [if_pos (by omega),hp]; simp]
 simp only [jag,krL hy hM hS2 hl,klD hMS hv (by omega),ktM (wh vals.length M S) s.2 (by rw [klv]; omega)]
 by_cases h:M &&& S=0
 ·rw [if_neg (by rw [Nat.and_comm,h]; decide),if_pos h,vw_wh h]
  unfold bw
  by_cases h1:s.1<vw vals (wh vals.length M S)
  ·simp [h1]
  ·by_cases h2:vw vals (wh vals.length M S)=s.1
   ·by_cases h3:lexC (wh vals.length M S) s.2<0 <;> simp [h1,h2,h3]
   ·simp [h1,h2]
 ·rw [if_pos (by rw [Nat.and_comm]; simp; omega),if_neg h]
theorem ksL (hv:okV vals) (hl:vals.length<=12) (hp:ps.length=vals.length) {os:List Int} {y:Int×List It} {M:Nat} (hos:os.length<=1048576) (hos2:∀ x∈os,∃ S:Nat,S<2 ^ 20/\x=(S:Int)) (hy:y.1=(M:Int)) (hM:M<2 ^ 20) {P:List Int->Prop} {s:Int×List Int} (hs:Sw vals P s) :
  ∃ z,iter (kcM ps vals os y) (0,s)=some z/\∃ s',z=(s'.2,s'.1)/\Sw vals (fun w=>P w\/∃ S:Nat,(S:Int)∈os/\M &&& S=0/\w=wh vals.length M S) s':=by
 refine Fl.iter_inv (F:=kcM ps vals os y) (I:=fun v=>∃ k:Nat,v.1=k/\k<=os.length/\Sw vals (fun w=>P w\/∃ S:Nat,(S:Int)∈os.take k/\M &&& S=0/\w=wh vals.length M S) v.2) (m:=fun v=>os.length-v.1.toNat)
  (R:=fun z=>∃ s',z=(s'.2,s'.1)/\Sw vals (fun w=>P w\/∃ S:Nat,(S:Int)∈os/\M &&& S=0/\w=wh vals.length M S) s') ?_ (0,s) ⟨0,rfl,by omega,hs.same fun w=>by simp⟩ (by simp; omega)
 rintro ⟨v,s⟩ ⟨k,hkv,hk,hI⟩
 simp only at hkv hI
 subst hkv
 by_cases hkl:k<os.length
 ·obtain ⟨S,hS,hSe⟩:=hos2 _ (jce hkl)
  have hmem:∀ U:Nat,(U:Int)∈os.take (k+1)↔(U:Int)∈os.take k\/U=S:=fun U=>by
   rw [jcm hkl,jay,List.mem_singleton,hSe]; exact or_congr Iff.rfl Int.natCast_inj
  refine .inr ⟨_,kra hv hl hp hos hkl hSe hy hM hS s,⟨k+1,rfl,by omega,?_⟩,by simp; omega⟩
  by_cases h:M &&& S=0
  ·rw [if_pos h]
   refine hI.add hv fun u=>⟨?_,?_⟩
   ·rintro (hu | ⟨U,h1,h2,h3⟩)
    ·exact .inl (.inl hu)
    ·rcases (hmem U).1 h1 with h4 | rfl
     ·exact .inl (.inr ⟨U,h4,h2,h3⟩)
     ·exact .inr h3
   ·rintro ((hu | ⟨U,h1,h2,h3⟩) | rfl)
    ·exact .inl hu
    ·exact .inr ⟨U,(hmem U).2 (.inl h1),h2,h3⟩
    ·exact .inr ⟨S,(hmem S).2 (.inr rfl),h,rfl⟩
  ·rw [if_neg h]
   refine hI.same fun u=>⟨?_,?_⟩
   ·rintro (hu | ⟨U,h1,h2,h3⟩)
    ·exact .inl hu
    ·rcases (hmem U).1 h1 with h4 | rfl
     ·exact .inr ⟨U,h4,h2,h3⟩
     ·exact absurd h2 h
   ·rintro (hu | ⟨U,h1,h2,h3⟩)
    ·exact .inl hu
    ·exact .inr ⟨U,(hmem U).2 (.inl h1),h2,h3⟩
 ·obtain rfl:k=os.length:=by omega
  refine .inl ⟨_,by unfold kcM; rw [if_neg (by rw [lenI_lt]; exact hkl)],s,rfl,?_⟩
  rwa [List.take_length] at hI
theorem krx (hv:okV vals) (hl:vals.length<=12) (hp:ps.length=vals.length) {os:List Int} {ls:List (Int×List It)} (hos:os.length<=1048576) (hos2:∀ x∈os,∃ S:Nat,S<2 ^ 20/\x=(S:Int)) (hls:ls.length<=1048576) (hls2:∀ y∈ls,∃ M:Nat,M<2 ^ 20/\y.1=(M:Int)) :
  ∃ z,iter (kdq ps vals os ls) (0,[],(-1))=some z/\∃ s,z = .inr (s.2,s.1)/\Sw vals (fun w=>∃ y∈ls,∃ M S:Nat,y.1=(M:Int)/\(S:Int)∈os/\M &&& S=0/\w=wh vals.length M S) s:=by
 refine Fl.iter_inv (F:=kdq ps vals os ls) (I:=fun v=>∃ k:Nat,v.1=k/\k<=ls.length/\Sw vals (fun w=>∃ y∈ls.take k,∃ M S:Nat,y.1=(M:Int)/\(S:Int)∈os/\M &&& S=0/\w=wh vals.length M S) (v.2.2,v.2.1)) (m:=fun v=>ls.length-v.1.toNat)
  (R:=fun z=>∃ s,z = .inr (s.2,s.1)/\Sw vals (fun w=>∃ y∈ls,∃ M S:Nat,y.1=(M:Int)/\(S:Int)∈os/\M &&& S=0/\w=wh vals.length M S) s) ?_ (0,[],(-1)) ⟨0,rfl,by omega,.inl ⟨rfl,fun w ⟨y,hy,_⟩=>by simp at hy⟩⟩ (by simp; omega)
 rintro ⟨v,b,s⟩ ⟨k,hkv,hk,hI⟩
 simp only at hkv hI
 subst hkv
 by_cases hkl:k<ls.length
 ·obtain ⟨M,hM,hMe⟩:=hls2 _ (jce hkl)
  obtain ⟨z,e,s',rfl,hs'⟩:=ksL hv hl hp hos hos2 hMe hM hI
  refine .inr ⟨(((k+1:Nat):Int),s'.2,s'.1),?_,⟨k+1,rfl,by omega,?_⟩,by simp; omega⟩
  ·unfold kdq
   rw [if_pos (lenI_lt.2 hkl),kak hkl]
   simp only [jag]
   rw [e]; rfl
  ·refine hs'.same fun w=>⟨?_,?_⟩
   ·rintro ⟨y,hy,M',S,h1,h2,h3,h4⟩
    rw [jcm hkl] at hy
    rcases jay.1 hy with hy | hy
    ·exact .inl ⟨y,hy,M',S,h1,h2,h3,h4⟩
    ·simp at hy; subst hy
     have:M'=M:=by rw [hMe] at h1; omega
     subst this
     exact .inr ⟨S,h2,h3,h4⟩
   ·rw [jcm hkl]
    rintro (⟨y,hy,h⟩ | ⟨S,h1,h2,h3⟩)
    ·exact ⟨y,List.mem_append_left _ hy,h⟩
    ·exact ⟨_,List.mem_append_right _ (by simp),M,S,hMe,h1,h2,h3⟩
 ·obtain rfl:k=ls.length:=by omega
  refine .inl ⟨.inr (b,s),by unfold kdq; rw [if_neg (by rw [lenI_lt]; exact hkl)],(s,b),rfl,?_⟩
  rwa [List.take_length] at hI
theorem ksg {ls:List (Int×List It)} (hls:ls.length<=1048576):iter (kdo ls) (0,[])=some (.inr (ls.map (·.1))):=by
 obtain ⟨z,e,rfl⟩:=Fl.iter_inv (F:=kdo ls) (I:=fun v=>∃ k:Nat,v.1=k/\k<=ls.length/\v.2=(ls.take k).map (·.1)) (m:=fun v=>ls.length-v.1.toNat) (R:=fun z=>z = .inr (ls.map (·.1))) (by
  rintro ⟨v,o⟩ ⟨k,hkv,hk,hI⟩
  simp only at hkv hI
  subst hkv hI
  by_cases hkl:k<ls.length
  ·refine .inr ⟨(((k+1:Nat):Int),(ls.take (k+1)).map (·.1)),?_,⟨k+1,rfl,by omega,rfl⟩,by simp; omega⟩
   unfold kdo
   rw [if_pos (lenI_lt.2 hkl),kak hkl]
   simp only [jag]
   rw [show (ls.take (k+1)).map (·.1)=(ls.take k).map (·.1)++[ls[k].1] by rw [jcm hkl,jcz]; rfl,kbS (by simp; omega)]; rfl
  ·obtain rfl:k=ls.length:=by omega
   refine .inl ⟨_,by unfold kdo; rw [if_neg (by rw [lenI_lt]; exact hkl)],?_⟩
   rw [List.take_length]) (0,[]) ⟨0,rfl,by omega,by simp⟩ (by simp; omega)
 exact e
end
section
variable {vals:List Int} {ps:List (List It)} {a b:List It}
theorem pow3 (n:Nat) (hn:n<=12):3 ^ n<=531441:=jcv (jee (by omega) hn) (by decide)
theorem kup (hp:ps.length<=12):iter (kcF ps) (0,1)=some ((3 ^ ps.length:Nat):Int):=by
 obtain ⟨z,e,rfl⟩:=Fl.iter_inv (F:=kcF ps) (I:=fun v=>∃ k:Nat,v.1=k/\k<=ps.length/\v.2=((3 ^ k:Nat):Int)) (m:=fun v=>ps.length-v.1.toNat) (R:=fun z=>z=((3 ^ ps.length:Nat):Int)) (by
  rintro ⟨v,o⟩ ⟨k,hkv,hk,hI⟩
  simp only at hkv hI
  subst hkv hI
  by_cases hkl:k<ps.length
  ·refine .inr ⟨(((k+1:Nat):Int),((3 ^ (k+1):Nat):Int)),?_,⟨k+1,rfl,by omega,rfl⟩,by simp; omega⟩
   have:=pow3 k (by omega)
   unfold kcF
   have key:∀ t:Nat,t<=531441->w64 ((t:Int)*3)=((t*3:Nat):Int):=fun t ht=>by rw [kcb (by omega) (by omega)]; push_cast; rfl
   rw [if_pos (lenI_lt.2 hkl),kar (by omega),key _ this,jdt]
  ·obtain rfl:k=ps.length:=by omega
   exact .inl ⟨_,by unfold kcF; rw [if_neg (by rw [lenI_lt]; exact hkl)],rfl⟩) (0,1) ⟨0,rfl,by omega,rfl⟩ (by simp; omega)
 exact e
theorem dgu {m:Nat}:IntKind.wrap .u8 ((m % 3:Nat):Int)=((m % 3:Nat):Int):=by
 rcases (show m % 3=0\/m % 3=1\/m % 3=2 by omega) with e | e | e <;> rw [e] <;> decide
theorem ktr (hv:okV vals) (hl:vals.length<=12):∀ (k m:Nat) (val:Int) (suf:List Int),k+suf.length=vals.length->m<531441->0<=val->val<=1000*suf.length->
  itN (kbz vals) (k+1) ((k:Int)-1,(m:Int),val,List.replicate k 0++suf)=some (val+vw (vals.take k) (dg k m),dg k m++suf):=by
 intro k
 induction k with
 | zero=>
  intro m val suf hlen hm h0 h1
  refine kbK ?_
  unfold kbz
  rw [if_neg (by simp)]
  simp [dg,vw]
 | succ k ih=>
  intro m val suf hlen hm h0 h1
  have hk:k<vals.length:=by omega
  have hvv:=hv _ (jce hk)
  have hw:k<(List.replicate (k+1) (0:Int)++suf).length:=by simp; omega
  have hset:lset (List.replicate (k+1) (0:Int)++suf) (k:Int) ((m % 3:Nat):Int)=List.replicate k 0++(((m % 3:Nat):Int)::suf):=by
   rw [List.replicate_succ',jar,List.singleton_append,kkQ (by simp)]
  have hw2:k<(List.replicate k (0:Int)++(((m % 3:Nat):Int)::suf)).length:=by simp
  have hget:(List.replicate k (0:Int)++(((m % 3:Nat):Int)::suf))[k]=((m % 3:Nat):Int):=by
   rw [List.getElem_append_right (by simp)]; simp
  have hq:gquo .i64 (m:Int) 3=some ((m / 3:Nat):Int):=by
   unfold gquo
   rw [if_neg (by decide),Int.tdiv_eq_ediv_of_nonneg (by omega)]
   show some (w64 ((m:Int) / 3))=_
   rw [kcb (by omega) (by omega)]; rfl
  have hr:grem (m:Int) 3=some ((m % 3:Nat):Int):=by
   unfold grem
   rw [if_neg (by decide),Int.tmod_eq_emod_of_nonneg (by omega)]; rfl
  have hst:kbz vals (((k+1:Nat):Int)-1,(m:Int),val,List.replicate (k+1) 0++suf)=some (.inl ((k:Int)-1,((m / 3:Nat):Int),val+(if ((m % 3:Nat):Int)≠0 then vals[k] else 0),List.replicate k 0++(((m % 3:Nat):Int)::suf))):=by
   rw [show ((k+1:Nat):Int)-1=(k:Int) by omega]
   unfold kbz
   rw [if_pos (by simp)]
   simp only [hr,hq,kak hw,jag,dgu,hset,kak hw2,hget,kak hk]
   rw [show w64 ((k:Int)-1)=(k:Int)-1 from kcb (by omega) (by omega)]
   by_cases h:m % 3=0
   ·rw [h]; simp
   ·rw [if_pos (by simp; omega),if_pos (by omega),kcb (by omega) (by omega)]
  rw [kdm hst,ih (m / 3) _ _ (by simp; omega) (by omega) (by split <;> omega) (by simp; split <;> omega)]
  rw [jcm hk]
  simp only [dg]
  rw [krN (by rw [kjb,jbo]; omega),jar]
  simp only [Int.add_assoc,List.singleton_append]
  rw [Int.add_comm (vw (List.take k vals) (dg k (m / 3)))]
theorem ksS (hv:okV vals) (hl:vals.length<=12) {m:Nat} (hm:m<531441):iter (kbz vals) (w64 ((vals.length:Int)-1),(m:Int),0,List.replicate vals.length 0)=some (vw vals (dg vals.length m),dg vals.length m):=by
 have:=ktr hv hl vals.length m 0 [] (by simp) hm (by omega) (by simp)
 rw [jbe] at this
 rw [kcb (by omega) (by omega)]
 have h2:iter (kbz vals) ((vals.length:Int)-1,(m:Int),0,List.replicate vals.length 0)=_:=kdh this (by omega)
 rw [h2,List.take_length]; simp
def Cand (ps:List (List It)) (a b:List It) (w:List Int):Prop:=w.length=ps.length/\tri w/\(∀ q,wt ps w 1 q<=look a q)/\∀ q,wt ps w 2 q<=look b q
theorem kqm (ha:Stk a) (hb:Stk b) (hs:allS ps) (hv:okV vals) (hl:vals.length<=12) (hp:ps.length=vals.length) {m:Nat} (hm:m<3 ^ vals.length) (s:Int×List Int):∃ f:Bool,(f=true->s.1<vw vals (dg vals.length m)/\Cand ps a b (dg vals.length m))/\(f=false->¬ (s.1<vw vals (dg vals.length m)/\Cand ps a b (dg vals.length m)))/\
  kbB a b ps vals ((3 ^ vals.length:Nat):Int) ((m:Int),s)=some (.inl (((m+1:Nat):Int),if f=true then (vw vals (dg vals.length m),dg vals.length m) else s)):=by
 have h3:=pow3 vals.length hl
 have hlen:(dg vals.length m).length=ps.length:=by rw [kjb,hp]
 obtain ⟨f1,e1,i1⟩:=kmI (m:=1) (who:=dg vals.length m) ha hs hlen (by omega)
 obtain ⟨f2,e2,i2⟩:=kmI (m:=2) (who:=dg vals.length m) hb hs hlen (by omega)
 have hstep:kbB a b ps vals ((3 ^ vals.length:Nat):Int) ((m:Int),s)=some (.inl (((m+1:Nat):Int),if (decide (s.1<vw vals (dg vals.length m))&&(f1&&f2))=true then (vw vals (dg vals.length m),dg vals.length m) else s)):=by
  unfold kbB
  rw [if_pos (decide_eq_true (Int.ofNat_lt.2 hm)),kad,show gmk (ps.length:Int) (0:Int)=some (List.replicate vals.length 0) by unfold gmk; rw [if_pos (by omega),hp]; simp,hp]
  simp only [jag,ksS hv hl (show m<531441 by omega),e1,e2,kar (show m<9223372036854775807 by omega)]
  by_cases h1:s.1<vw vals (dg vals.length m)
  ·cases f1 <;> cases f2 <;> simp [h1]
  ·simp [h1]
 refine ⟨_,fun hf=>?_,fun hf hh=>?_,hstep⟩
 ·simp only [jab,jaj] at hf
  exact ⟨hf.1,hlen,ksy,i1.1 hf.2.1,i2.1 hf.2.2⟩
 ·rw [show (decide (s.1<vw vals (dg vals.length m))&&(f1&&f2))=true by
   simp only [jab,jaj]; exact ⟨hh.1,i1.2 hh.2.2.2.1,i2.2 hh.2.2.2.2⟩] at hf
  cases hf
theorem ksF (ha:Stk a) (hb:Stk b) (hs:allS ps) (hv:okV vals) (hl:vals.length<=12) (hp:ps.length=vals.length) :
  ∃ z,iter (kbB a b ps vals ((3 ^ vals.length:Nat):Int)) (0,(-1),[])=some z/\Sw vals (Cand ps a b) z:=by
 have h3:=pow3 vals.length hl
 refine Fl.iter_inv (F:=kbB a b ps vals ((3 ^ vals.length:Nat):Int)) (I:=fun v=>∃ k:Nat,v.1=k/\k<=3 ^ vals.length/\Sw vals (fun w=>Cand ps a b w/\∃ m,m<k/\w=dg vals.length m) v.2) (m:=fun v=>3 ^ vals.length-v.1.toNat)
  (R:=fun z=>Sw vals (Cand ps a b) z) ?_ (0,(-1),[]) ⟨0,rfl,jeb _,.inl ⟨rfl,fun w ⟨_,m,h,_⟩=>by omega⟩⟩ (Nat.lt_of_le_of_lt (Nat.sub_le _ _) (by omega))
 rintro ⟨v,s⟩ ⟨k,hkv,hk,hI⟩
 simp only at hkv hI
 subst hkv
 by_cases hkl:k<3 ^ vals.length
 ·obtain ⟨f,f1,f2,hst⟩:=kqm ha hb hs hv hl hp hkl s
  refine .inr ⟨_,hst,⟨k+1,rfl,by omega,?_⟩,by simp; omega⟩
  have hadd:Cand ps a b (dg vals.length k)->Sw vals (fun w=>Cand ps a b w/\∃ m,m<k+1/\w=dg vals.length m) (if bw vals (dg vals.length k) s=true then (vw vals (dg vals.length k),dg vals.length k) else s):=fun hc=>by
   refine hI.add hv fun u=>⟨?_,?_⟩
   ·rintro ⟨h1,m,h2,h3⟩
    rcases jcg.1 h2 with h | rfl
    ·exact .inl ⟨h1,m,h,h3⟩
    ·exact .inr h3
   ·rintro (⟨h1,m,h2,h3⟩ | rfl)
    ·exact ⟨h1,m,by omega,h3⟩
    ·exact ⟨hc,k,by omega,rfl⟩
  by_cases hc:Cand ps a b (dg vals.length k)
  ·have h:=hadd hc
   cases hfv:f with
   | true=>
    have hlt:=(f1 hfv).1
    rw [if_pos (by unfold bw; simp [hlt])] at h
    rw [if_pos rfl]; exact h
   | false=>
    have hlt:¬ s.1<vw vals (dg vals.length k):=fun hh=>f2 hfv ⟨hh,hc⟩
    rw [if_neg (by simp)]
    have hb:bw vals (dg vals.length k) s=false:=by
     unfold bw
     simp only [jbt,jdv,decide_eq_false_iff_not]
     refine ⟨hlt,.inr ?_⟩
     rcases hI with ⟨rfl,_⟩ | ⟨⟨_,m,hm,e⟩,_⟩
     ·exfalso
      have:=kop (vs:=vals) (ws:=dg vals.length k) hv
      simp only at hlt
      omega
     ·have h1:=dg_lt (n:=vals.length) hm hkl
      have h2:=keo (a:=dg vals.length m) (b:=dg vals.length k)
      rw [e]; omega
    rw [if_neg (by rw [hb]; simp)] at h
    exact h
  ·have hfv:f=false:=by
    cases h:f with
    | false=>rfl
    | true=>exact absurd (f1 h).2 hc
   rw [hfv,if_neg (by simp)]
   refine hI.same fun u=>⟨?_,fun ⟨h1,m,h2,h3⟩=>⟨h1,m,by omega,h3⟩⟩
   rintro ⟨h1,m,h2,h3⟩
   rcases jcg.1 h2 with h | rfl
   ·exact ⟨h1,m,h,h3⟩
   ·rw [h3] at h1; exact absurd h1 hc
 ·obtain rfl:k=3 ^ vals.length:=by omega
  refine .inl ⟨s,by unfold kbB; rw [if_neg (by simp)],hI.same fun w=>⟨fun h=>⟨h,?_⟩,fun h=>h.1⟩⟩
  obtain ⟨m,h1,h2⟩:=krJ (h.1.trans hp) h.2.1
  exact ⟨m,h1,h2.symm⟩
end
theorem kot (l:List Int) (hl:l.length<=1000) (p:Int->Bool):kaP l (fun x=>some (p x))=some (l.any p):=by
 have:∃ v,kbg l (fun x=>some (p x))=some v/\decide (0<=v)=l.any p:=by
  unfold kbg
  rw [kcu (F:=kaO l fun x=>some (p x)) l (by omega) (fun i x=>if p x then some (i:Int) else none) (fun i hi=>by
   unfold kaO
   rw [if_pos (by rw [kad]; simpa using hi),kak hi,kar (by omega)]
   simp only [jag]
   by_cases h:p l[i]=true <;> simp [h,nextL]) (by unfold kaO; rw [if_neg (by simp [kad])])]
  have key:∀ (l:List Int) (k:Nat),(∃ i:Nat,(l.zipIdx k).findSome? (fun x=>if p x.1 then some ((x.2:Nat):Int) else none)=some (i:Int))/\l.any p=true\/(l.zipIdx k).findSome? (fun x=>if p x.1 then some ((x.2:Nat):Int) else none)=none/\l.any p=false:=by
   intro l
   induction l with
   | nil=>intro k; exact .inr ⟨rfl,rfl⟩
   | cons x l ih=>
    intro k
    simp only [jbw,jds,jec]
    by_cases h:p x=true
    ·left; simp [h]; exact ⟨k,rfl⟩
    ·rw [jbh] at h
     simp only [h,jal,if_false,jdm]
     exact ih (k+1)
  rcases key l 0 with ⟨⟨i,e⟩,h⟩ | ⟨e,h⟩
  ·rw [e,h]; exact ⟨_,rfl,by simp [endL]⟩
  ·rw [e,h]; exact ⟨_,rfl,by simp [endL]⟩
 obtain ⟨v,h1,h2⟩:=this
 unfold kaP
 rw [h1]; simp only [jag,h2]
def badV (v:Int):Bool:=!(decide (0<=v)&&decide (v<=1000))
def pe (ps:List (List It)) (vals:List Int):Int:=
 if ps.all stk=true then (if 8<ps.length then 4 else if vals.length≠ps.length then 2 else if vals.any badV=true then 2 else 0) else 8
section
variable {ps:List (List It)} {vals:List Int}
theorem kjl (hn:ps.length<=12) (hl:∀ l∈ps,l.length<=40) (hv:vals.length<=20):kdW ps vals=some (pe ps vals):=by
 unfold kdW pe
 rw [kfo ps (by omega) (fun l h=>by have:=hl l h; omega)]
 have e:(fun u0:Int=>(kdJ u0).bind fun u1=>some u1)=fun u=>some (badV u):=by
  funext u
  unfold kdJ badV
  simp
 rw [e]
 simp only [jag,kot vals (by omega)]
 by_cases h1:ps.all stk=true
 ·rw [if_pos h1,if_pos h1]
  by_cases h2:8<ps.length
  ·rw [if_neg (by decide),if_pos (decide_eq_true (by rw [kad]; omega)),if_pos h2]
  ·rw [if_neg (by decide),if_neg (by rw [jaj,kad]; omega),if_neg h2]
   by_cases h3:vals.length=ps.length
   ·rw [if_neg (by rw [kad,kad,h3]; simp),if_neg (show ¬ vals.length≠ps.length by simp [h3])]
    cases vals.any badV <;> rfl
   ·rw [if_pos (by rw [kad,kad,bne_iff_ne]; omega),if_pos h3]
 ·rw [if_neg h1,if_neg h1]; rfl
theorem kke (hn:ps.length<=12) (hv:vals.length<=20):kcZ ps vals=some (pe ps vals):=by
 have hfs:∀ {α:Type} (q:α->Bool) (z:Int) (l:List α) (k:Nat),(l.zipIdx k).findSome? (fun x=>if q x.1 then none else some z)=if l.all q then none else some z:=by
  intro α q z l
  induction l with
  | nil=>intro k; rfl
  | cons x l ih=>
   intro k
   simp only [jbw,jds,jdq]
   by_cases h:q x=true
   ·simp only [h,if_true,Bool.true_and]; exact ih _
   ·rw [jbh] at h; simp [h]
 unfold kcZ pe
 rw [kcu (F:=kcS ps) ps (by omega) (fun i x=>if stk x then none else some 8) (fun i hi=>by
  unfold kcS
  rw [if_pos (lenI_lt.2 hi),kak hi,kar (by omega)]
  simp only [jag,kdI]
  by_cases h:stk ps[i]=true <;> simp [h,nextL]) (by unfold kcS; rw [if_neg keq]),hfs stk 8 ps 0]
 by_cases h1:ps.all stk=true
 ·rw [if_pos h1,if_pos h1]
  simp only [jag,endL]
  by_cases h2:8<ps.length
  ·rw [if_pos (decide_eq_true (by rw [kad]; omega)),if_pos h2]
  ·rw [if_neg (by rw [jaj,kad]; omega),if_neg h2]
   by_cases h3:vals.length=ps.length
   ·rw [if_neg (by rw [kad,kad,h3]; simp),if_neg (show ¬ vals.length≠ps.length by simp [h3])]
    rw [kcu (F:=kcT vals) vals (by omega) (fun i x=>if !badV x then none else some 2) (fun i hi=>by
     unfold kcT
     rw [if_pos (lenI_lt.2 hi),kak hi,kar (by omega)]
     simp only [jag,kdk]
     unfold badV
     cases (decide (0<=vals[i])&&decide (vals[i]<=1000)) <;> simp [nextL]) (by unfold kcT; rw [if_neg keq]),hfs (fun v=>!badV v) 2 vals 0]
    have:vals.all (fun v=>!badV v) = !vals.any badV:=by
     generalize vals=vs
     induction vs with
     | nil=>rfl
     | cons x l ih=>simp only [jdq,jec,ih]; cases badV x <;> rfl
    rw [this]
    cases vals.any badV <;> rfl
   ·rw [if_pos (by rw [kad,kad,bne_iff_ne]; omega),if_pos h3]
 ·rw [if_neg h1,if_neg h1]; rfl
theorem pe_ok (h:pe ps vals=0):ps.all stk=true/\ps.length<=8/\ps.length=vals.length/\okV vals:=by
 unfold pe at h
 split at h
 ·rename_i h1
  split at h
  ·cases h
  ·rename_i h2
   split at h
   ·cases h
   ·rename_i h3
    split at h
    ·cases h
    ·rename_i h4
     refine ⟨h1,by omega,by omega,fun v hv=>?_⟩
     rw [jbh] at h4
     have:=List.any_eq_false.1 h4 v hv
     unfold badV at this
     simpa using this
 ·cases h
theorem kjF:∀ {ps:List (List It)} {q:Int},wl ps 0 q=0
 | [],_=>rfl
 | p::ps,q=>by simp only [wl,Nat.zero_mod,Nat.zero_div,kjF]; simp
theorem kqp {box:List It} (hb:box.length<=40) (cb:∀ x∈box,0<=x.2.1) (hn:ps.length<=12) (hl:∀ l∈ps,l.length<=40) (cp:∀ l∈ps,∀ x∈l,0<=x.2.1) (hv:vals.length<=20) :
  ∃ z:kbb×Int,keE box ps vals=some z/\kds box ps vals=some z/\z.1.1.length<=1000/\z.1.2.2.length<=1000:=by
 unfold keE kds
 rw [kfo [box] (by simp) (fun l h=>by simp at h; subst h; omega),kjl hn hl hv,kke hn hv,kdI]
 by_cases hs:stk box=true
 ·rw [if_pos (by simp [hs])]
  simp only [jag,hs]
  rw [if_pos (by rfl),if_neg (by simp)]
  by_cases he:pe ps vals=0
  ·obtain ⟨h1,h2,h3,hok⟩:=pe_ok he
   have hst:allS ps:=fun p hp=>kiZ (jam.1 h1 p hp) (cp p hp)
   have hbx:=kiZ hs cb
   obtain ⟨ls,e1,l0,l1,l2⟩:=kid hn hst hbx
   have hpow:(2:Nat) ^ ps.length<=2 ^ 20:=jee (by omega) (by omega)
   obtain ⟨c,c1,c2⟩:=kql hok (by omega) h3 (by omega) l1
   obtain ⟨d,d1,d2⟩:=krw hbx hst hok (by omega) h3
   have hPP:∀ T:Nat,(∃ y∈ls,y.1=(T:Int))↔(T<2 ^ ps.length/\∀ q,wl ps T q<=look box q):=fun T=>by
    constructor
    ·rintro ⟨y,hy,e⟩
     obtain ⟨U,u1,u2,u3,_⟩:=l1 y hy
     obtain rfl:U=T:=by rw [u2] at e; omega
     exact ⟨u1,u3⟩
    ·rintro ⟨t1,t2⟩
     exact l2 T t1 t2
   obtain ⟨rfl,g1,g2,_⟩:=(c2.same fun T=>(hPP T).symm).uniq d2 ⟨0,Nat.pow_pos (by omega),fun q=>by rw [kjF]; exact (kbs hbx q).1⟩
   refine ⟨(c,0),?_,?_,by simp only; omega,by simp only; omega⟩
   ·rw [he]
    unfold kcH
    simp only [jag]
    rw [if_neg (by decide),e1]
    simp only [jag]
    rw [c1]; rfl
   ·rw [he,if_neg (by decide),d1]; rfl
  ·refine ⟨(([],0,[]),pe ps vals),?_,?_,by simp,by simp⟩
   ·simp only [jag]; rw [if_pos (by simpa using he)]
   ·rw [if_pos (by simpa using he)]
 ·rw [jbh] at hs
  exact ⟨(([],0,[]),8),by simp [hs],by simp [hs],by simp,by simp⟩
theorem krC {a b:List It} (ha:a.length<=40) (ca:∀ x∈a,0<=x.2.1) (hb:b.length<=40) (cb:∀ x∈b,0<=x.2.1) (hn:ps.length<=12) (hl:∀ l∈ps,l.length<=40) (cp:∀ l∈ps,∀ x∈l,0<=x.2.1) (hv:vals.length<=20) :
  ∃ z:List Int×Int×Int,kfz a b ps vals=some z/\kea a b ps vals=some z:=by
 unfold kfz kea
 rw [kfo [a,b] (by simp) (fun l h=>by simp at h; rcases h with rfl | rfl <;> omega),kjl hn hl hv,kke hn hv,kdI,kdI]
 by_cases hsa:stk a=true
 ·by_cases hsb:stk b=true
  ·rw [if_pos (by simp [hsa,hsb])]
   simp only [jag,hsa,hsb]
   rw [if_pos (by rfl),if_neg (by simp),if_neg (by simp)]
   by_cases he:pe ps vals=0
   ·obtain ⟨h1,h2,h3,hok⟩:=pe_ok he
    have hst:allS ps:=fun p hp=>kiZ (jam.1 h1 p hp) (cp p hp)
    have hA:=kiZ hsa ca
    have hB:=kiZ hsb cb
    obtain ⟨lb,e1,b0,b1,b2⟩:=kid hn hst hB
    obtain ⟨la,e2,a0,a1,a2⟩:=kid hn hst hA
    have hpow:(2:Nat) ^ ps.length<=2 ^ 12:=jee (by omega) (by omega)
    obtain ⟨z,s1,s,rfl,s2⟩:=krx (os:=lb.map (·.1)) (ls:=la) hok (by omega) h3 (by simp; omega) (fun x hx=>by
     obtain ⟨y,hy,rfl⟩:=jax.1 hx
     obtain ⟨T,t1,t2,_⟩:=b1 y hy
     exact ⟨T,by omega,t2⟩) (by omega) (fun y hy=>by
     obtain ⟨T,t1,t2,_⟩:=a1 y hy
     exact ⟨T,by omega,t2⟩)
    obtain ⟨r,r1,r2⟩:=ksF hA hB hst hok (by omega) h3
    have hPP:∀ w,(∃ y∈la,∃ M S:Nat,y.1=(M:Int)/\(S:Int)∈lb.map (·.1)/\M &&& S=0/\w=wh vals.length M S)↔Cand ps a b w:=fun w=>by
     constructor
     ·rintro ⟨y,hy,M,S,m1,m2,m3,rfl⟩
      obtain ⟨M',t1,t2,t3,_⟩:=a1 y hy
      obtain rfl:M'=M:=by rw [t2] at m1; omega
      obtain ⟨x,hx,ex⟩:=jax.1 m2
      obtain ⟨S',u1,u2,u3,_⟩:=b1 x hx
      obtain rfl:S'=S:=by rw [u2] at ex; omega
      rw [<-h3]
      refine ⟨klv _ _ _,kpe m3,fun q=>?_,fun q=>?_⟩
      ·rw [(wt_wh m3).1]; exact t3 q
      ·rw [(wt_wh m3).2]; exact u3 q
     ·rintro ⟨w1,w2,w3,w4⟩
      have hw:=wh_mk w2
      rw [w1] at hw
      have hlt1:=mk_lt (m:=1) (w:=w)
      have hlt2:=mk_lt (m:=2) (w:=w)
      rw [w1] at hlt1 hlt2
      have hq:=fun q=>wt_wh (ps:=ps) (q:=q) (knW (w:=w))
      rw [hw] at hq
      obtain ⟨y,hy,ey⟩:=a2 (mk 1 w) hlt1 fun q=>by rw [<-(hq q).1]; exact w3 q
      obtain ⟨x,hx,ex⟩:=b2 (mk 2 w) hlt2 fun q=>by rw [<-(hq q).2]; exact w4 q
      exact ⟨y,hy,mk 1 w,mk 2 w,ey,jax.2 ⟨x,hx,ex⟩,knW,by rw [<-h3]; exact hw.symm⟩
    obtain ⟨rfl,_⟩:=(s2.same fun w=>(hPP w).symm).uniq r2 ⟨wh ps.length 0 0,klv _ _ _,kpe rfl,fun q=>by rw [(wt_wh rfl).1,kjF]; exact (kbs hA q).1,fun q=>by rw [(wt_wh rfl).2,kjF]; exact (kbs hB q).1⟩
    refine ⟨(s.2,s.1,0),?_,?_⟩
    ·rw [he]
     unfold kcH
     simp only [jag]
     rw [if_neg (by decide),e1]
     simp only [jag]
     rw [ksg (by omega)]
     simp only [jag]
     rw [e2]
     simp only [jag]
     rw [s1]; rfl
    ·rw [he,if_neg (by decide),kup hn]
     simp only [jag]
     rw [h3,r1]; rfl
   ·exact ⟨([],0,pe ps vals),by simp only [jag]; rw [if_pos (by simpa using he)],by rw [if_pos (by simpa using he)]⟩
  ·rw [jbh] at hsb
   exact ⟨([],0,8),by simp [hsa,hsb],by simp [hsa,hsb]⟩
 ·rw [jbh] at hsa
  exact ⟨([],0,8),by simp [hsa],by simp [hsa]⟩
end
theorem krl (l:List Int) (hl:l.length<=1000):kcJ l l=some true:=by
 unfold kcJ
 rw [if_neg (by simp),kfJ (F:=kcC l l) false l (by omega) (fun _ _=>false) (fun i hi=>by
  unfold kcC
  rw [if_pos (by rw [kad]; simpa using hi),kak hi,kar (by omega)]
  simp) (by unfold kcC; rw [if_neg (by simp [kad])])]
 simp
theorem kqd (l:List It) (hl:l.length<=1000):kcp l l=some true:=by
 unfold kcp
 rw [if_neg (by simp),kfJ (F:=kcn l l) false l (by omega) (fun _ _=>false) (fun i hi=>by
  unfold kcn
  rw [if_pos (by rw [kad]; simpa using hi),kak hi,kar (by omega)]
  simp) (by unfold kcn; rw [if_neg (by simp [kad])])]
 simp
theorem lots1 (l:List It):∃ b,kcR l=some b/\(b=false->l.length<=40):=by
 unfold kcR
 rw [kad]
 by_cases hl:(40:Int)<l.length
 ·exact ⟨true,by rw [if_pos (by simpa using hl)],fun h=>by cases h⟩
 ·rw [if_neg (by simpa using hl)]
  have:∀ (k i:Nat) (v:Int),i+k=l.length->∃ r,itN (kdf l) (k+1) ((i:Int),v)=some r:=by
   intro k
   induction k with
   | zero=>
    intro i v h
    refine ⟨v,kbK ?_⟩
    unfold kdf
    rw [if_neg (by rw [kad]; simp; omega)]
   | succ k ih=>
    intro i v h
    have hi:i<l.length:=by omega
    by_cases hw:(decide (0<=l[i].2.2)&&decide (l[i].2.2<=1000))=true
    ·obtain ⟨r,hr⟩:=ih (i+1) (w64 (v+l[i].2.2)) (by omega)
     refine ⟨r,?_⟩
     rw [<-hr]
     refine kdm ?_
     unfold kdf
     rw [if_pos (by rw [kad]; simpa using hi),kak hi,kar (by omega)]
     simp only [jag,kdk,hw,if_true]
    ·obtain ⟨r,hr⟩:=ih (i+1) v (by omega)
     refine ⟨r,?_⟩
     rw [<-hr]
     refine kdm ?_
     unfold kdf
     rw [if_pos (by rw [kad]; simpa using hi),kak hi,kar (by omega)]
     simp only [jag,kdk,hw,if_false]
     rw [if_neg (by simp)]
  obtain ⟨r,hr⟩:=this l.length 0 0 (by omega)
  refine ⟨decide (8000<r),?_,fun _=>by omega⟩
  rw [show ((0:Int),(0:Int))=(((0:Nat):Int),0) from rfl,kdh hr (by omega)]; rfl
theorem ksJ (ls:List (List It)) (hl:ls.length<=9223372036854775807):∃ c,keI ls=some c/\(c=false->∀ l∈ls,l.length<=40):=by
 unfold keI
 rw [kfJ (F:=keg ls) true ls hl (fun _ l=>decide (kcR l=some true)) (fun i hi=>by
  unfold keg
  rw [if_pos (lenI_lt.2 hi),kak hi,kar (by omega)]
  obtain ⟨u,hu,_⟩:=lots1 ls[i]
  simp only [jag,hu]
  cases u <;> rfl) (by unfold keg; rw [if_neg keq])]
 rw [kqI (fun l=>decide (kcR l=some true)) ls 0]
 cases hc:ls.any fun l=>decide (kcR l=some true) with
 | true=>exact ⟨true,rfl,fun h=>by cases h⟩
 | false=>
  refine ⟨_,rfl,fun _ l hl=>?_⟩
  have:=List.any_eq_false.1 hc l hl
  obtain ⟨u,hu,hu2⟩:=lots1 l
  rw [jaj,hu] at this
  cases u with
  | true=>exact absurd rfl this
  | false=>exact hu2 rfl
theorem law08_BoxPlans_eq (a b:List It) (ps:List (List It)) (vals:List Int) (ca:∀ x∈a,0<=x.2.1) (cb:∀ x∈b,0<=x.2.1) (cp:∀ l∈ps,∀ x∈l,0<=x.2.1) (hl:ps.length<=9223372036854775807):kfa a b ps vals=some true:=by
 unfold kfa
 obtain ⟨u,hu,hu2⟩:=ksJ [a,b] (by simp)
 obtain ⟨v,hv,hv2⟩:=ksJ ps hl
 rw [hu,hv]
 cases u with
 | true=>rfl
 | false=>
  cases v with
  | true=>rfl
  | false=>
   have hu2:=hu2 rfl
   have hv2:=hv2 rfl
   simp only [jag,jal,if_false]
   have main:ps.length<=12->vals.length<=20->((keE a ps vals).bind fun v3=>((kds a ps vals).bind fun v4=>((kfz a b ps vals).bind fun v5=>((kea a b ps vals).bind fun v6=>((kcJ v3.1.1 v4.1.1).bind fun v7=>(if v7=true then (if (v3.1.2.1==v4.1.2.1)=true then ((kcp v3.1.2.2 v4.1.2.2).bind fun v8=>(if v8=true then (if (v3.2==v4.2)=true then (if ((kdc v5.1)==(kdc v6.1))=true then (if (v5.2.1==v6.2.1)=true then (some (v5.2.2==v6.2.2)) else (some false)) else (some false)) else (some false)) else (some false))) else (some false)) else (some false)))))))=some true:=fun h1 h2=>by
    obtain ⟨z,z1,z2,z3,z4⟩:=kqp (hu2 a (by simp)) ca h1 hv2 cp h2
    obtain ⟨y,y1,y2⟩:=krC (hu2 a (by simp)) ca (hu2 b (by simp)) cb h1 hv2 cp h2
    rw [z1,z2,y1,y2]
    simp only [jag,krl _ z3,kqd _ z4]
    simp
   by_cases h1:12<ps.length
   ·rw [if_pos (decide_eq_true (by rw [kad]; omega))]; rfl
   ·rw [if_neg (by rw [jaj,kad]; omega)]
    by_cases h2:20<vals.length
    ·rw [show decide ((20:Int)<lenI vals)=true from decide_eq_true (by rw [kad]; omega)]
     by_cases h3:6<ps.length
     ·rw [if_pos (decide_eq_true (by rw [kad]; omega))]
      by_cases h4:ps.length<=8
      ·rw [if_pos (decide_eq_true (by rw [kad]; omega))]; rfl
      ·rw [if_neg (by rw [jaj,kad]; omega)]; rfl
     ·rw [if_neg (by rw [jaj,kad]; omega)]; rfl
    ·rw [show decide ((20:Int)<lenI vals)=false from decide_eq_false (by rw [kad]; omega)]
     by_cases h3:6<ps.length
     ·rw [if_pos (decide_eq_true (by rw [kad]; omega))]
      by_cases h4:ps.length<=8
      ·rw [if_pos (decide_eq_true (by rw [kad]; omega))]; rfl
      ·rw [if_neg (by rw [jaj,kad]; omega)]; exact main (by omega) (by omega)
     ·rw [if_neg (by rw [jaj,kad]; omega)]; exact main (by omega) (by omega)
end Go.Abs.Pl
