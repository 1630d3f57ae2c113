/- The functions and the law, part 7. -/
import Derived.Test.YtmcfapchpedbgaaProg
import Derived.Test.YtmcfapchpedbgaaZ3
import Derived.Test.YtmcfapchpedbgaaZ5
import Derived.Test.YtmcfapchpedbgaaZ6
set_option linter.constructorNameAsVariable false
set_option linter.unusedVariables false
set_option linter.unusedSimpArgs false
set_option linter.unusedSectionVars false
namespace Go.Abs
open Go
@[reducible] def tBelt:Ty:=(.pr (.i .i64) (.pr (.i .i64) (.pr (.i .i64) (.pr (.sl (.pr (.i .i64) (.i .i64))) (.sl (.i .i64))))))
abbrev Belt:=(Int×Int×Int×(List (Int×Int))×(List Int))
@[reducible] def tFed:Ty:=(.pr (.i .i64) (.pr (.i .i64) (.sl (.i .i64))))
abbrev Fed:=(Int×Int×(List Int))
@[reducible] def tPile:Ty:=(.pr (.i .i64) (.sl (.i .i64)))
abbrev Pile:=(Int×(List Int))
@[reducible] def tLine:Ty:=(.pr tBelt (.sl tFed))
abbrev Line:=(Belt×(List Fed))
def kmB (v0:(Int×Int×Fed)):Option ((Int×Int×Fed)⊕(Int×Fed)):=
 (if (decide (v0.1<16))=true then ((if (decide (v0.1<2))=true then (some v0.1) else (some (-1))).bind fun v1=>((gapp v0.2.2.2.2 [v1]).bind fun v2=>(some (.inl ((w64 (v0.1+1)),v0.2.1,v0.2.2.1,v0.2.2.2.1,v2))))) else (some (.inr v0.2)))
def law09_belt:Option Belt:=
 ((iter (kmB) (0,20,2,2,[])).bind fun v3=>(some (v3.1,v3.2.1,v3.2.2.1,[(10,0),(15,1)],v3.2.2.2)))
def kcl (x0:Int) (x1:Int):Option Fed:=
 (some (x0,x1,[x1]))
def keW (x0:Int) (x1:Int) (x2:Int):Option Bool:=
 (if (decide (x0<x1))=true then (some true) else (some (decide (x2<x0))))
def kaO (x0:(List Int)) (x1:(Int→Option Bool)) (v0:Int):Option (Int⊕(Int⊕Unit)):=
 (if (decide (v0<(lenI x0)))=true then ((gi x0 v0).bind fun v1=>((x1 v1).bind fun v2=>(if v2=true then (some (.inr (.inl v0))) else (some (.inl (w64 (v0+1))))))) else (some (.inr (.inr ()))))
def kbD (x0:(List Int)) (x1:(Int→Option Bool)):Option Int:=
 ((iter (kaO x0 x1) 0).bind fun v3=>(match v3 with | .inl v4=>(some v4) | .inr v5=>(some (-1))))
def kaN (x0:(List Int)) (x1:(Int→Option Bool)):Option Bool:=
 ((kbD x0 x1).bind fun v0=>(some (decide (0≤v0))))
def kaq (x0:Int) (x1:Int) (x2:(List Int)):Option Bool:=
 ((kaN x2 (fun (u0:Int)=>((keW u0 x0 x1).bind fun u1=>(some u1)))).bind fun v0=>(some (!v0)))
def kjr (x0:Belt) (v4:(Int×Int×(List (Int×Bool)))):Option ((Int×Int×(List (Int×Bool)))⊕(Int⊕Unit)):=
 (if (decide (v4.1<(lenI x0.2.2.2.1)))=true then ((gi x0.2.2.2.1 v4.1).bind fun v5=>((kaq v4.2.1 (w64 (x0.1-1)) [v5.1]).bind fun v6=>(if (!v6)=true then (some (.inr (.inl 90))) else ((kaq 0 7 [v5.2]).bind fun v7=>(if (!v7)=true then (some (.inr (.inl 90))) else (if ((mget v4.2.2 v5.2).getD false)=true then (some (.inr (.inl 90))) else (some (.inl ((w64 (v4.1+1)),(w64 (v5.1+1)),(mput v4.2.2 v5.2 true)))))))))) else (some (.inr (.inr ()))))
def khA (x0:Belt):Option Int:=
 ((kaq 2 100 [x0.1]).bind fun v0=>(if (!v0)=true then (some 90) else ((kaq 0 (w64 (x0.1-2)) [x0.2.1]).bind fun v1=>(if (!v1)=true then (some 90) else ((kaq 0 10 [x0.2.2.1]).bind fun v2=>(if (!v2)=true then (some 90) else (if (decide (8<(lenI x0.2.2.2.1)))=true then (some 90) else (if ((lenI x0.2.2.2.2) != 16)=true then (some 90) else ((kaq (-1) 7 x0.2.2.2.2).bind fun v3=>(if (!v3)=true then (some 90) else ((iter (kjr x0) (0,(w64 (x0.2.1+1)),[])).bind fun v8=>(match v8 with | .inl v9=>(some v9) | .inr v10=>(some 0)))))))))))))
def kmn (x0:(List Int)):Option Bool:=
 ((kaq 1 9 [(lenI x0)]).bind fun v0=>(if v0=true then ((kaq (-1) 15 x0).bind fun v1=>(some v1)) else (some false)))
def kke (x0:(List Fed)) (v0:(Int×Int)):Option ((Int×Int)⊕(Int⊕Unit)):=
 (if (decide (v0.1<(lenI x0)))=true then ((gi x0 v0.1).bind fun v1=>((kaq v0.2 1000 [v1.1]).bind fun v2=>(if (!v2)=true then (some (.inr (.inl 91))) else ((kaq 0 15 [v1.2.1]).bind fun v3=>(if (!v3)=true then (some (.inr (.inl 91))) else ((kmn v1.2.2).bind fun v4=>(if (!v4)=true then (some (.inr (.inl 91))) else (some (.inl ((w64 (v0.1+1)),(w64 (v1.1+1)))))))))))) else (some (.inr (.inr ()))))
def kil (x0:(List Fed)):Option Int:=
 (if (decide (40<(lenI x0)))=true then (some 91) else ((iter (kke x0) (0,0)).bind fun v5=>(match v5 with | .inl v6=>(some v6) | .inr v7=>(some 0))))
def kjX (x0:Belt) (x1:(List Fed)):Option ((Option Line)×Int):=
 ((khA x0).bind fun v0=>((if (v0==0)=true then ((kil x1).bind fun v1=>(some v1)) else (some v0)).bind fun v2=>(if (v2 != 0)=true then (some (none,v2)) else (some ((some (x0,x1)),0)))))
def keK (x0:(List Int)) (v0:(Int×(Arr 16 Int))):Option ((Int×(Arr 16 Int))⊕(Arr 16 Int)):=
 (if (decide (v0.1<(lenI x0)))=true then ((gi x0 v0.1).bind fun v1=>(if (decide (0≤v1))=true then ((garr v0.2 v1).bind fun v2=>((garr v0.2 v1).bind fun v3=>((garr v0.2 v1).bind fun v4=>(some (.inl ((w64 (v0.1+1)),(aset v0.2 v1 (w64 (v3+1))))))))) else (some (.inl ((w64 (v0.1+1)),v0.2))))) else (some (.inr v0.2)))
def kej (v5:(Arr 16 Int)) (v6:(Int×Int×Int)):Option ((Int×Int×Int)⊕Int):=
 (if (decide (v6.1<16))=true then ((garr v5 v6.1).bind fun v7=>(if (decide (v6.2.1<v7))=true then (some (.inl ((w64 (v6.1+1)),v7,v6.1))) else (if (v7==v6.2.1)=true then (some (.inl ((w64 (v6.1+1)),v6.2.1,(-1)))) else (some (.inl ((w64 (v6.1+1)),v6.2)))))) else (some (.inr v6.2.2)))
def keF (x0:(List Int)):Option Int:=
 ((iter (keK x0) (0,(amk 16 0))).bind fun v5=>((iter (kej v5) (0,0,(-1))).bind fun v8=>(some v8)))
def kfX (x0:(Int×Int)) (x1:(Option Line)) (x2:Int):Option Bool:=
 (x1.bind fun v0=>((gi v0.1.2.2.2.2 x2).bind fun v1=>(some (x0.2==v1))))
def kdc (x0:(List (Int×Int))) (x1:((Int×Int)→Option Bool)) (v0:Int):Option (Int⊕(Int⊕Unit)):=
 (if (decide (v0<(lenI x0)))=true then ((gi x0 v0).bind fun v1=>((x1 v1).bind fun v2=>(if v2=true then (some (.inr (.inl v0))) else (some (.inl (w64 (v0+1))))))) else (some (.inr (.inr ()))))
def kby (x0:(List (Int×Int))) (x1:((Int×Int)→Option Bool)):Option Int:=
 ((iter (kdc x0 x1) 0).bind fun v3=>(match v3 with | .inl v4=>(some v4) | .inr v5=>(some (-1))))
def kfp (x0:(Option Line)) (x1:Fed):Option Int:=
 ((keF x1.2.2).bind fun v0=>(if (decide (v0<0))=true then (some (-1)) else (x0.bind fun v1=>((kby v1.1.2.2.2.1 (fun (u0:(Int×Int))=>((kfX u0 x0 v0).bind fun u1=>(some u1)))).bind fun v2=>(some v2)))))
def kfe (x0:Fed) (x1:(Option Line)) (x2:Int):Option Bool:=
 ((kfp x1 x0).bind fun v0=>(some (v0 != x2)))
def kdO (x0:(List Fed)) (x1:(Fed→Option Bool)) (v0:Int):Option (Int⊕(Int⊕Unit)):=
 (if (decide (v0<(lenI x0)))=true then ((gi x0 v0).bind fun v1=>((x1 v1).bind fun v2=>(if v2=true then (some (.inr (.inl v0))) else (some (.inl (w64 (v0+1))))))) else (some (.inr (.inr ()))))
def kbM (x0:(List Fed)) (x1:(Fed→Option Bool)):Option Int:=
 ((iter (kdO x0 x1) 0).bind fun v3=>(match v3 with | .inl v4=>(some v4) | .inr v5=>(some (-1))))
def kbs (x0:(List Fed)) (x1:(Fed→Option Bool)):Option Bool:=
 ((kbM x0 x1).bind fun v0=>(some (decide (0≤v0))))
def kgx (x0:(Option Line)) (x1:(List Fed)):Option Int:=
 ((gi x1 0).bind fun v0=>((kfp x0 v0).bind fun v1=>((gi x1 (w64 ((lenI x1)-1))).bind fun v2=>((gi x1 0).bind fun v3=>(if (decide (v1<0))=true then (some (-1)) else ((kbs x1 (fun (u0:Fed)=>((kfe u0 x0 v1).bind fun u1=>(some u1)))).bind fun v4=>(if v4=true then (some (-1)) else (x0.bind fun v5=>(x0.bind fun v6=>((gi v6.1.2.2.2.1 v1).bind fun v7=>(x0.bind fun v8=>(if (decide ((w64 (v7.1-v8.1.2.1))<(w64 ((w64 ((w64 (v2.1-v3.1))+(w64 (3*v5.1.2.2.1))))+1))))=true then (some (-1)) else (some v1)))))))))))))
def kfJ (x0:(Option Line)) (v1:((List Fed)×(List (Int×(List Fed))))) (v2:Int):Option (Int⊕Int):=
 (if (decide (v2<(lenI v1.1)))=true then ((gi v1.1 v2).bind fun v3=>((gi v1.1 (w64 (v2-1))).bind fun v4=>(x0.bind fun v5=>(if (decide ((w64 (v3.1-v4.1))≤(w64 ((w64 (2*v5.1.2.2.1))+1))))=true then (some (.inl (w64 (v2+1)))) else (some (.inr v2)))))) else (some (.inr v2)))
def kfH (o:Option (List (Int×(List Fed)))) (x0:(Option Line)) (v1:((List Fed)×(List (Int×(List Fed))))):Option (((List Fed)×(List (Int×(List Fed))))⊕((List (Int×(List Fed)))⊕(List (Int×(List Fed))))):=
 (if (decide (0<(lenI v1.1)))=true then ((iter (kfJ x0 v1) 1).bind fun v6=>((gsl v1.1 0 v6).bind fun v7=>((kgx x0 v7).bind fun v8=>((gsl v1.1 0 v6).bind fun v9=>((gpre (.pr (.i .i64) (.sl (.pr (.i .i64) (.pr (.i .i64) (.sl (.i .i64)))))) o v1.2 (v8,v9)).bind fun v10=>((gsl v1.1 v6 (lenI v1.1)).bind fun v11=>(some (.inl (v11,v10))))))))) else (some (.inr (.inr v1.2))))
def kcc (o:Option (List (Int×(List Fed)))) (x0:(Option Line)):Option (List (Int×(List Fed))):=
 (x0.bind fun v0=>((iter (kfH o x0) (v0.2,[])).bind fun v12=>(match v12 with | .inl v13=>(some v13) | .inr v14=>(some v14))))
def kcO (x0:(Option Line)):Option (Option Line):=
 (some x0)
def knv (x0:Belt) (v4:(Int×(List Fed))) (v5:(Int×(List (Int×Int×Int)))):Option ((Int×(List (Int×Int×Int)))⊕(List (Int×Int×Int))):=
 (if (decide (v5.1<(lenI v4.2)))=true then ((gi v4.2 v5.1).bind fun v6=>((keF v6.2.2).bind fun v7=>(if (decide (0≤v4.1))=true then ((gi x0.2.2.2.1 v4.1).bind fun v8=>((gi x0.2.2.2.1 v4.1).bind fun v9=>((gapp v5.2 [(v7,v8.2,(w64 (v6.1+v9.1)))]).bind fun v10=>(some (.inl ((w64 (v5.1+1)),v10)))))) else ((gapp v5.2 [(v7,(-1),(w64 (v6.1+x0.1)))]).bind fun v11=>(some (.inl ((w64 (v5.1+1)),v11))))))) else (some (.inr v5.2)))
def kmQ (x0:Belt) (v2:(List (Int×(List Fed)))) (v3:(Int×(List (Int×Int×Int)))):Option ((Int×(List (Int×Int×Int)))⊕(((List (Int×Int×Int))×Int)⊕(List (Int×Int×Int)))):=
 (if (decide (v3.1<(lenI v2)))=true then ((gi v2 v3.1).bind fun v4=>((iter (knv x0 v4) (0,v3.2)).bind fun v12=>(some (.inl ((v3.1+1),v12))))) else (some (.inr (.inr v3.2))))
def kiV (x0:Belt) (x1:(List Fed)):Option ((List (Int×Int×Int))×Int):=
 ((kjX x0 x1).bind fun v0=>(if (v0.2 != 0)=true then (some ([],v0.2)) else ((kcO v0.1).bind fun v1=>((runI fun o=>(kcc o v1)).bind fun v2=>((iter (kmQ x0 v2) (0,[])).bind fun v13=>(match v13 with | .inl v14=>(some v14) | .inr v15=>(some (v15,0))))))))
def kfR (x0:Int):Option Bool:=
 (some (x0 != x0))
def kfa (x0:Int) (x1:Int):Option Int:=
 ((kfR x0).bind fun v0=>((kfR x1).bind fun v1=>(if v0=true then (if v1=true then (some 0) else (some (-1))) else (if v1=true then (some 1) else (if (decide (x0<x1))=true then (some (-1)) else (if (decide (x1<x0))=true then (some 1) else (some 0)))))))
def kmz (x0:(List Int)) (v0:Int):Option (Int⊕(Int⊕Unit)):=
 (if (decide (v0<(lenI x0)))=true then ((gi x0 v0).bind fun v1=>(if (v1 != 0)=true then (some (.inr (.inl v1))) else (some (.inl (w64 (v0+1)))))) else (some (.inr (.inr ()))))
def khF (x0:(List Int)):Option Int:=
 ((iter (kmz x0) 0).bind fun v2=>(match v2 with | .inl v3=>(some v3) | .inr v4=>(some 0)))
def kkM (x0:(Int×Int×Bool)) (x1:(Int×Int×Bool)):Option Int:=
 ((kfa x0.1 x1.1).bind fun v0=>((kfa x0.2.1 x1.2.1).bind fun v1=>((khF [v0,v1]).bind fun v2=>(some v2))))
def kcC (x0:Int) (x2:(((Int×Int×Bool)×Int×Int×Bool)→Option Int)) (v1:(Int×(List (Int×Int×Bool)))):Option ((Int×(List (Int×Int×Bool)))⊕(List (Int×Int×Bool))):=
 (if (decide (x0<v1.1))=true then ((gi v1.2 v1.1).bind fun v2=>((gi v1.2 v1.1).bind fun v3=>((gi v1.2 (w64 (v1.1-1))).bind fun v4=>((gi v1.2 (w64 (v1.1-1))).bind fun v5=>((x2 (v3,v5)).bind fun v6=>(if (decide (v6<0))=true then ((gi v1.2 (w64 (v1.1-1))).bind fun v7=>((gi v1.2 (w64 (v1.1-1))).bind fun v8=>((gi v1.2 v1.1).bind fun v9=>((gi v1.2 v1.1).bind fun v10=>((gi v1.2 v1.1).bind fun v11=>((gi (lset v1.2 v1.1 v8) (w64 (v1.1-1))).bind fun v12=>(some (.inl ((w64 (v1.1-1)),(lset (lset v1.2 v1.1 v8) (w64 (v1.1-1)) v10)))))))))) else (some (.inr v1.2)))))))) else (some (.inr v1.2)))
def kcx (x0:Int) (x1:Int) (x2:(((Int×Int×Bool)×Int×Int×Bool)→Option Int)) (v0:(Int×(List (Int×Int×Bool)))):Option ((Int×(List (Int×Int×Bool)))⊕(List (Int×Int×Bool))):=
 (if (decide (v0.1<x1))=true then ((iter (kcC x0 x2) v0).bind fun v13=>(some (.inl ((w64 (v0.1+1)),v13)))) else (some (.inr v0.2)))
def kaE (x0:Int) (x1:Int) (x2:(((Int×Int×Bool)×Int×Int×Bool)→Option Int)) (x3:(List (Int×Int×Bool))):Option (List (Int×Int×Bool)):=
 ((iter (kcx x0 x1 x2) ((w64 (x0+1)),x3)).bind fun v14=>(some v14))
def kdp (x0:Int) (x1:Int) (x2:Int) (v0:(Int×(List (Int×Int×Bool)))):Option ((Int×(List (Int×Int×Bool)))⊕(List (Int×Int×Bool))):=
 (if (decide (v0.1<x2))=true then ((gi v0.2 (w64 (x1+v0.1))).bind fun v1=>((gi v0.2 (w64 (x1+v0.1))).bind fun v2=>((gi v0.2 (w64 (x0+v0.1))).bind fun v3=>((gi v0.2 (w64 (x0+v0.1))).bind fun v4=>((gi v0.2 (w64 (x0+v0.1))).bind fun v5=>((gi (lset v0.2 (w64 (x0+v0.1)) v2) (w64 (x1+v0.1))).bind fun v6=>(some (.inl ((w64 (v0.1+1)),(lset (lset v0.2 (w64 (x0+v0.1)) v2) (w64 (x1+v0.1)) v4)))))))))) else (some (.inr v0.2)))
def kax (x0:Int) (x1:Int) (x2:Int) (x3:(((Int×Int×Bool)×Int×Int×Bool)→Option Int)) (x4:(List (Int×Int×Bool))):Option (List (Int×Int×Bool)):=
 ((iter (kdp x0 x1 x2) (0,x4)).bind fun v7=>(some v7))
def kdY (x1:Int) (x3:(((Int×Int×Bool)×Int×Int×Bool)→Option Int)) (v0:(Int×Int×(List (Int×Int×Bool)))):Option ((Int×Int×(List (Int×Int×Bool)))⊕(Int×(List (Int×Int×Bool)))):=
 (if (v0.1 != v0.2.1)=true then (if (decide (v0.2.1<v0.1))=true then ((kax (w64 (x1-v0.1)) x1 v0.2.1 x3 v0.2.2).bind fun v1=>(some (.inl ((w64 (v0.1-v0.2.1)),v0.2.1,v1)))) else ((kax (w64 (x1-v0.1)) (w64 ((w64 (x1+v0.2.1))-v0.1)) v0.1 x3 v0.2.2).bind fun v2=>(some (.inl (v0.1,(w64 (v0.2.1-v0.1)),v2))))) else (some (.inr (v0.1,v0.2.2))))
def kbU (x0:Int) (x1:Int) (x2:Int) (x3:(((Int×Int×Bool)×Int×Int×Bool)→Option Int)) (x4:(List (Int×Int×Bool))):Option (List (Int×Int×Bool)):=
 ((iter (kdY x1 x3) ((w64 (x1-x0)),(w64 (x2-x1)),x4)).bind fun v3=>((kax (w64 (x1-v3.1)) x1 v3.1 x3 v3.2).bind fun v4=>(some v4)))
def kdy (x0:Int) (x3:(((Int×Int×Bool)×Int×Int×Bool)→Option Int)) (x4:(List (Int×Int×Bool))) (v0:(Int×Int)):Option ((Int×Int)⊕Int):=
 (if (decide (v0.1<v0.2))=true then ((gshr .u64 (IntKind.wrap .u64 (w64 (v0.1+v0.2))) 1).bind fun v1=>((gi x4 (w64 v1)).bind fun v2=>((gi x4 (w64 v1)).bind fun v3=>((gi x4 x0).bind fun v4=>((gi x4 x0).bind fun v5=>((x3 (v3,v5)).bind fun v6=>(if (decide (v6<0))=true then (some (.inl ((w64 ((w64 v1)+1)),v0.2))) else (some (.inl (v0.1,(w64 v1))))))))))) else (some (.inr v0.1)))
def kdC (v7:Int) (v8:(Int×(List (Int×Int×Bool)))):Option ((Int×(List (Int×Int×Bool)))⊕(List (Int×Int×Bool))):=
 (if (decide (v8.1<(w64 (v7-1))))=true then ((gi v8.2 (w64 (v8.1+1))).bind fun v9=>((gi v8.2 (w64 (v8.1+1))).bind fun v10=>((gi v8.2 v8.1).bind fun v11=>((gi v8.2 v8.1).bind fun v12=>((gi v8.2 v8.1).bind fun v13=>((gi (lset v8.2 v8.1 v10) (w64 (v8.1+1))).bind fun v14=>(some (.inl ((w64 (v8.1+1)),(lset (lset v8.2 v8.1 v10) (w64 (v8.1+1)) v12)))))))))) else (some (.inr v8.2)))
def kdB (x1:Int) (x3:(((Int×Int×Bool)×Int×Int×Bool)→Option Int)) (x4:(List (Int×Int×Bool))) (v16:(Int×Int)):Option ((Int×Int)⊕Int):=
 (if (decide (v16.1<v16.2))=true then ((gshr .u64 (IntKind.wrap .u64 (w64 (v16.1+v16.2))) 1).bind fun v17=>((gi x4 x1).bind fun v18=>((gi x4 x1).bind fun v19=>((gi x4 (w64 v17)).bind fun v20=>((gi x4 (w64 v17)).bind fun v21=>((x3 (v19,v21)).bind fun v22=>(if (!(decide (v22<0)))=true then (some (.inl ((w64 ((w64 v17)+1)),v16.2))) else (some (.inl (v16.1,(w64 v17))))))))))) else (some (.inr v16.1)))
def kdD (v23:Int) (v24:(Int×(List (Int×Int×Bool)))):Option ((Int×(List (Int×Int×Bool)))⊕(List (Int×Int×Bool))):=
 (if (decide (v23<v24.1))=true then ((gi v24.2 (w64 (v24.1-1))).bind fun v25=>((gi v24.2 (w64 (v24.1-1))).bind fun v26=>((gi v24.2 v24.1).bind fun v27=>((gi v24.2 v24.1).bind fun v28=>((gi v24.2 v24.1).bind fun v29=>((gi (lset v24.2 v24.1 v26) (w64 (v24.1-1))).bind fun v30=>(some (.inl ((w64 (v24.1-1)),(lset (lset v24.2 v24.1 v26) (w64 (v24.1-1)) v28)))))))))) else (some (.inr v24.2)))
def kdv (x1:Int) (x3:(((Int×Int×Bool)×Int×Int×Bool)→Option Int)) (x4:(List (Int×Int×Bool))) (v32:Int) (v34:(Int×Int)):Option ((Int×Int)⊕Int):=
 (if (decide (v34.1<v34.2))=true then ((gshr .u64 (IntKind.wrap .u64 (w64 (v34.1+v34.2))) 1).bind fun v35=>((gi x4 (w64 ((w64 ((w64 ((w64 v32)+x1))-1))-(w64 v35)))).bind fun v36=>((gi x4 (w64 ((w64 ((w64 ((w64 v32)+x1))-1))-(w64 v35)))).bind fun v37=>((gi x4 (w64 v35)).bind fun v38=>((gi x4 (w64 v35)).bind fun v39=>((x3 (v37,v39)).bind fun v40=>(if (!(decide (v40<0)))=true then (some (.inl ((w64 ((w64 v35)+1)),v34.2))) else (some (.inl (v34.1,(w64 v35))))))))))) else (some (.inr v34.1)))
def kdI (rec_slices_symMergeCmpFunc_api_Swing_m4:Int→Int→Int→(((Int×Int×Bool)×Int×Int×Bool)→Option Int)→(List (Int×Int×Bool))→Option (List (Int×Int×Bool))) (x0:Int) (x1:Int) (x2:Int) (x3:(((Int×Int×Bool)×Int×Int×Bool)→Option Int)) (x4:(List (Int×Int×Bool))):Option (List (Int×Int×Bool)):=
 (if ((w64 (x1-x0))==1)=true then ((iter (kdy x0 x3 x4) (x1,x2)).bind fun v7=>((iter (kdC v7) (x0,x4)).bind fun v15=>(some v15))) else (if ((w64 (x2-x1))==1)=true then ((iter (kdB x1 x3 x4) (x0,x1)).bind fun v23=>((iter (kdD v23) (x1,x4)).bind fun v31=>(some v31))) else ((gshr .u64 (IntKind.wrap .u64 (w64 (x0+x2))) 1).bind fun v32=>((if (decide ((w64 v32)<x1))=true then (some ((w64 ((w64 ((w64 v32)+x1))-x2)),(w64 v32))) else (some (x0,x1))).bind fun v33=>((iter (kdv x1 x3 x4 v32) v33).bind fun v41=>((if (decide (v41<x1))=true then (some (decide (x1<(w64 ((w64 ((w64 v32)+x1))-v41))))) else (some false)).bind fun v42=>((if v42=true then ((kbU v41 x1 (w64 ((w64 ((w64 v32)+x1))-v41)) x3 x4).bind fun v43=>(some v43)) else (some x4)).bind fun v44=>((if (decide (x0<v41))=true then (some (decide (v41<(w64 v32)))) else (some false)).bind fun v45=>((if v45=true then ((rec_slices_symMergeCmpFunc_api_Swing_m4 x0 v41 (w64 v32) x3 v44).bind fun v46=>(some v46)) else (some v44)).bind fun v47=>(if (decide ((w64 v32)<(w64 ((w64 ((w64 v32)+x1))-v41))))=true then (if (decide ((w64 ((w64 ((w64 v32)+x1))-v41))<x2))=true then ((rec_slices_symMergeCmpFunc_api_Swing_m4 (w64 v32) (w64 ((w64 ((w64 v32)+x1))-v41)) x2 x3 v47).bind fun v48=>(some v48)) else (some v47)) else (some v47)))))))))))
def kaM:Nat→Int→Int→Int→(((Int×Int×Bool)×Int×Int×Bool)→Option Int)→(List (Int×Int×Bool))→Option (List (Int×Int×Bool))
 | 0,_,_,_,_,_=>none
 | k+1,x0,x1,x2,x3,x4=>kdI (kaM k) x0 x1 x2 x3 x4
def kaU (x0:Int) (x1:Int) (x2:Int) (x3:(((Int×Int×Bool)×Int×Int×Bool)→Option Int)) (x4:(List (Int×Int×Bool))):Option (List (Int×Int×Bool)):=kaM 1000000 x0 x1 x2 x3 x4
def kef (x0:Int) (x1:(((Int×Int×Bool)×Int×Int×Bool)→Option Int)) (v0:(Int×Int×(List (Int×Int×Bool)))):Option ((Int×Int×(List (Int×Int×Bool)))⊕(Int×(List (Int×Int×Bool)))):=
 (if (decide (v0.1≤x0))=true then ((kaE v0.2.1 v0.1 x1 v0.2.2).bind fun v1=>(some (.inl ((w64 (v0.1+20)),v0.1,v1)))) else (some (.inr v0.2)))
def kee (x0:Int) (x1:(((Int×Int×Bool)×Int×Int×Bool)→Option Int)) (v4:(Int×(List (Int×Int×Bool)))) (v5:(Int×Int×(List (Int×Int×Bool)))):Option ((Int×Int×(List (Int×Int×Bool)))⊕(Int×(List (Int×Int×Bool)))):=
 (if (decide (v5.1≤x0))=true then ((kaU v5.2.1 (w64 (v5.2.1+v4.1)) v5.1 x1 v5.2.2).bind fun v6=>(some (.inl ((w64 (v5.1+(w64 (2*v4.1)))),v5.1,v6)))) else (some (.inr v5.2)))
def ked (x0:Int) (x1:(((Int×Int×Bool)×Int×Int×Bool)→Option Int)) (v4:(Int×(List (Int×Int×Bool)))):Option ((Int×(List (Int×Int×Bool)))⊕(List (Int×Int×Bool))):=
 (if (decide (v4.1<x0))=true then ((iter (kee x0 x1 v4) ((w64 (2*v4.1)),0,v4.2)).bind fun v7=>(if (decide ((w64 (v7.1+v4.1))<x0))=true then ((kaU v7.1 (w64 (v7.1+v4.1)) x0 x1 v7.2).bind fun v8=>(some (.inl ((w64 (v4.1*2)),v8)))) else (some (.inl ((w64 (v4.1*2)),v7.2))))) else (some (.inr v4.2)))
def kbS (x0:Int) (x1:(((Int×Int×Bool)×Int×Int×Bool)→Option Int)) (x2:(List (Int×Int×Bool))):Option (List (Int×Int×Bool)):=
 ((iter (kef x0 x1) (20,0,x2)).bind fun v2=>((kaE v2.1 x0 x1 v2.2).bind fun v3=>((iter (ked x0 x1) (20,v3)).bind fun v9=>(some v9))))
def kaW (x0:(((Int×Int×Bool)×Int×Int×Bool)→Option Int)) (x1:(List (Int×Int×Bool))):Option (List (Int×Int×Bool)):=
 ((kbS (lenI x1) x0 x1).bind fun v0=>(some v0))
def kdG (x0:(((Int×Int×Bool)×Int×Int×Bool)→Option Int)) (x1:(List (Int×Int×Bool))):Option (List (Int×Int×Bool)):=
 ((kaW x0 x1).bind fun v0=>(some v0))
def klL (x0:Belt) (v2:(List (Int×(List Fed)))) (v3:(Int×(List (Int×Int×Bool)))):Option ((Int×(List (Int×Int×Bool)))⊕(((List (Int×Int×Bool))×Int)⊕(List (Int×Int×Bool)))):=
 (if (decide (v3.1<(lenI v2)))=true then ((gi v2 v3.1).bind fun v4=>(if (decide (0≤v4.1))=true then ((gi x0.2.2.2.1 v4.1).bind fun v5=>((gi v4.2 0).bind fun v6=>((gi v4.2 (w64 ((lenI v4.2)-1))).bind fun v7=>((gapp v3.2 [((w64 ((w64 (v6.1+v5.1))-x0.2.2.1)),v4.1,true),((w64 ((w64 (v7.1+v5.1))+1)),v4.1,false)]).bind fun v8=>(some (.inl ((v3.1+1),v8))))))) else (some (.inl ((v3.1+1),v3.2))))) else (some (.inr (.inr v3.2))))
def kjL (x0:Belt) (x1:(List Fed)):Option ((List (Int×Int×Bool))×Int):=
 ((kjX x0 x1).bind fun v0=>(if (v0.2 != 0)=true then (some ([],v0.2)) else ((kcO v0.1).bind fun v1=>((runI fun o=>(kcc o v1)).bind fun v2=>((iter (klL x0 v2) (0,[])).bind fun v9=>(match v9 with | .inl v10=>(some v10) | .inr v11=>((kdG (fun (u0:((Int×Int×Bool)×Int×Int×Bool))=>((kkM u0.1 u0.2).bind fun u1=>(some u1))) v11).bind fun v12=>(some (v12,0)))))))))
def law09_table:Option (List (List Int)):=
 (some [[900,50,50],[100,800,100]])
def kcp (v2:(List Int)) (v4:(Int×Int)):Option ((Int×Int)⊕Int):=
 (if (decide (v4.1<(lenI v2)))=true then ((gi v2 v4.1).bind fun v5=>(some (.inl ((w64 (v4.1+1)),(w64 (v4.2+v5)))))) else (some (.inr v4.2)))
def kbu (x0:(List (List Int))) (v1:Int):Option (Int⊕(Int⊕Unit)):=
 (if (decide (v1<(lenI x0)))=true then ((gi x0 v1).bind fun v2=>(if ((lenI v2) != (w64 ((lenI x0)+1)))=true then (some (.inr (.inl 8))) else ((kaq 0 1000 v2).bind fun v3=>(if (!v3)=true then (some (.inr (.inl 8))) else ((iter (kcp v2) (0,0)).bind fun v6=>(if (v6 != 1000)=true then (some (.inr (.inl 8))) else (some (.inl (w64 (v1+1)))))))))) else (some (.inr (.inr ()))))
def kdF (x0:(List (List Int))):Option Int:=
 ((kaq 1 8 [(lenI x0)]).bind fun v0=>(if (!v0)=true then (some 8) else ((iter (kbu x0) 0).bind fun v7=>(match v7 with | .inl v8=>(some v8) | .inr v9=>(some 0)))))
def kao (rec_sort_chances_c1_m8:Int→Int→Int→(List Int)→Int→(List Int)→(List Int)→Option (Int×(List Int)×Int×(List Int)×(List Int))) (x0:Int) (x1:Int) (x6:(List Int)) (v5:(Int×(List Int)×Int×Int×(List Int)×(List Int))):Option ((Int×(List Int)×Int×Int×(List Int)×(List Int))⊕((List Int)×Int×Int×(List Int)×(List Int))):=
 (if (decide (v5.1<(lenI x6)))=true then ((gi x6 v5.1).bind fun v6=>(if (v6==0)=true then (some (.inl ((w64 (v5.1+1)),v5.2))) else ((gi v5.2.1 x0).bind fun v7=>((if (v5.1==v5.2.2.1)=true then ((gi (lset v5.2.1 x0 v5.1) x0).bind fun v8=>(some (lset (lset v5.2.1 x0 v5.1) x0 (-1)))) else (some (lset v5.2.1 x0 v5.1))).bind fun v9=>((rec_sort_chances_c1_m8 (w64 (x0+1)) (w64 (x1*v6)) v5.2.2.2.1 v9 v5.2.2.1 v5.2.2.2.2.1 v5.2.2.2.2.2).bind fun v10=>(some (.inl ((w64 (v5.1+1)),v10.2.1,v10.2.2.1,v10.1,v10.2.2.2)))))))) else (some (.inr v5.2)))
def kcX (rec_sort_chances_c1_m8:Int→Int→Int→(List Int)→Int→(List Int)→(List Int)→Option (Int×(List Int)×Int×(List Int)×(List Int))) (x0:Int) (x1:Int) (x2:Int) (x3:(List Int)) (x4:Int) (x5:(List Int)) (x6:(List Int)):Option (Int×(List Int)×Int×(List Int)×(List Int)):=
 (if (x0==x2)=true then ((keF x3).bind fun v0=>((if (decide (v0<0))=true then (some x4) else (some v0)).bind fun v1=>((gi x5 v1).bind fun v2=>((gi x5 v1).bind fun v3=>((gi x5 v1).bind fun v4=>(some (x2,x3,x4,(lset x5 v1 (w64 (v3+x1))),x6))))))) else ((iter (kao rec_sort_chances_c1_m8 x0 x1 x6) (0,x3,x4,x2,x5,x6)).bind fun v11=>(some (v11.2.2.1,v11.1,v11.2.1,v11.2.2.2))))
def kam:Nat→Int→Int→Int→(List Int)→Int→(List Int)→(List Int)→Option (Int×(List Int)×Int×(List Int)×(List Int))
 | 0,_,_,_,_,_,_,_=>none
 | k+1,x0,x1,x2,x3,x4,x5,x6=>kcX (kam k) x0 x1 x2 x3 x4 x5 x6
def keb (x0:Int) (x1:Int) (x2:Int) (x3:(List Int)) (x4:Int) (x5:(List Int)) (x6:(List Int)):Option (Int×(List Int)×Int×(List Int)×(List Int)):=kam 1000000 x0 x1 x2 x3 x4 x5 x6
def keN (x0:(List Int)) (x1:Int):Option (List Int):=
 ((gmk (lenI x0) 0).bind fun v0=>((gmk x1 0).bind fun v1=>((keb 0 1 x1 v1 (w64 ((lenI x0)-1)) v0 x0).bind fun v2=>(some v2.2.2.2.1))))
def kcJ (x0:(List (List Int))) (x1:Int) (x2:Int):Option ((List Int)×Int):=
 ((kdF x0).bind fun v0=>(if (v0 != 0)=true then (some ([],v0)) else ((kaq 0 (w64 ((lenI x0)-1)) [x1]).bind fun v1=>(if (!v1)=true then (some ([],2)) else ((kaq 1 5 [x2]).bind fun v2=>(if (!v2)=true then (some ([],2)) else ((gi x0 x1).bind fun v3=>((keN v3 x2).bind fun v4=>(some (v4,0))))))))))
def kig (x0:(List Int)) (x1:Int):Option Bool:=
 ((kaq 2 8 [x1]).bind fun v0=>(if v0=true then ((kaq 1 12 [(lenI x0)]).bind fun v1=>(if v1=true then ((kaq 0 1000 x0).bind fun v2=>(some v2)) else (some false))) else (some false)))
def kgF (x0:Pile) (x1:Pile):Option Int:=
 ((khF [(w64 (x0.1-x1.1)),(w64 ((lenI x0.2)-(lenI x1.2)))]).bind fun v0=>(some v0))
def kbn (x0:(List Pile)) (x1:Pile) (x2:((Pile×Pile)→Option Int)) (v0:(Int×Int)):Option ((Int×Int)⊕Int):=
 (if (decide (v0.1<v0.2))=true then ((gshr .u64 (IntKind.wrap .u64 (w64 (v0.1+v0.2))) 1).bind fun v1=>((gi x0 (w64 v1)).bind fun v2=>((x2 (v2,x1)).bind fun v3=>(if (decide (v3<0))=true then (some (.inl ((w64 ((w64 v1)+1)),v0.2))) else (some (.inl (v0.1,(w64 v1)))))))) else (some (.inr v0.1)))
def kaC (x0:(List Pile)) (x1:Pile) (x2:((Pile×Pile)→Option Int)):Option (Int×Bool):=
 ((iter (kbn x0 x1 x2) (0,(lenI x0))).bind fun v4=>(if (decide (v4<(lenI x0)))=true then ((gi x0 v4).bind fun v5=>((x2 (v5,x1)).bind fun v6=>(some (v4,(v6==0))))) else (some (v4,false))))
def kcz (x0:Int) (x2:((Pile×Pile)→Option Int)) (v1:(Int×(List Pile))):Option ((Int×(List Pile))⊕(List Pile)):=
 (if (decide (x0<v1.1))=true then ((gi v1.2 v1.1).bind fun v2=>((gi v1.2 v1.1).bind fun v3=>((gi v1.2 (w64 (v1.1-1))).bind fun v4=>((gi v1.2 (w64 (v1.1-1))).bind fun v5=>((x2 (v3,v5)).bind fun v6=>(if (decide (v6<0))=true then ((gi v1.2 (w64 (v1.1-1))).bind fun v7=>((gi v1.2 (w64 (v1.1-1))).bind fun v8=>((gi v1.2 v1.1).bind fun v9=>((gi v1.2 v1.1).bind fun v10=>((gi v1.2 v1.1).bind fun v11=>((gi (lset v1.2 v1.1 v8) (w64 (v1.1-1))).bind fun v12=>(some (.inl ((w64 (v1.1-1)),(lset (lset v1.2 v1.1 v8) (w64 (v1.1-1)) v10)))))))))) else (some (.inr v1.2)))))))) else (some (.inr v1.2)))
def kcB (x0:Int) (x1:Int) (x2:((Pile×Pile)→Option Int)) (v0:(Int×(List Pile))):Option ((Int×(List Pile))⊕(List Pile)):=
 (if (decide (v0.1<x1))=true then ((iter (kcz x0 x2) v0).bind fun v13=>(some (.inl ((w64 (v0.1+1)),v13)))) else (some (.inr v0.2)))
def kaD (x0:Int) (x1:Int) (x2:((Pile×Pile)→Option Int)) (x3:(List Pile)):Option (List Pile):=
 ((iter (kcB x0 x1 x2) ((w64 (x0+1)),x3)).bind fun v14=>(some v14))
def kcZ (x0:Int) (x1:Int) (x2:Int) (v0:(Int×(List Pile))):Option ((Int×(List Pile))⊕(List Pile)):=
 (if (decide (v0.1<x2))=true then ((gi v0.2 (w64 (x1+v0.1))).bind fun v1=>((gi v0.2 (w64 (x1+v0.1))).bind fun v2=>((gi v0.2 (w64 (x0+v0.1))).bind fun v3=>((gi v0.2 (w64 (x0+v0.1))).bind fun v4=>((gi v0.2 (w64 (x0+v0.1))).bind fun v5=>((gi (lset v0.2 (w64 (x0+v0.1)) v2) (w64 (x1+v0.1))).bind fun v6=>(some (.inl ((w64 (v0.1+1)),(lset (lset v0.2 (w64 (x0+v0.1)) v2) (w64 (x1+v0.1)) v4)))))))))) else (some (.inr v0.2)))
def kav (x0:Int) (x1:Int) (x2:Int) (x3:((Pile×Pile)→Option Int)) (x4:(List Pile)):Option (List Pile):=
 ((iter (kcZ x0 x1 x2) (0,x4)).bind fun v7=>(some v7))
def kdH (x1:Int) (x3:((Pile×Pile)→Option Int)) (v0:(Int×Int×(List Pile))):Option ((Int×Int×(List Pile))⊕(Int×(List Pile))):=
 (if (v0.1 != v0.2.1)=true then (if (decide (v0.2.1<v0.1))=true then ((kav (w64 (x1-v0.1)) x1 v0.2.1 x3 v0.2.2).bind fun v1=>(some (.inl ((w64 (v0.1-v0.2.1)),v0.2.1,v1)))) else ((kav (w64 (x1-v0.1)) (w64 ((w64 (x1+v0.2.1))-v0.1)) v0.1 x3 v0.2.2).bind fun v2=>(some (.inl (v0.1,(w64 (v0.2.1-v0.1)),v2))))) else (some (.inr (v0.1,v0.2.2))))
def kbG (x0:Int) (x1:Int) (x2:Int) (x3:((Pile×Pile)→Option Int)) (x4:(List Pile)):Option (List Pile):=
 ((iter (kdH x1 x3) ((w64 (x1-x0)),(w64 (x2-x1)),x4)).bind fun v3=>((kav (w64 (x1-v3.1)) x1 v3.1 x3 v3.2).bind fun v4=>(some v4)))
def kdd (x0:Int) (x3:((Pile×Pile)→Option Int)) (x4:(List Pile)) (v0:(Int×Int)):Option ((Int×Int)⊕Int):=
 (if (decide (v0.1<v0.2))=true then ((gshr .u64 (IntKind.wrap .u64 (w64 (v0.1+v0.2))) 1).bind fun v1=>((gi x4 (w64 v1)).bind fun v2=>((gi x4 (w64 v1)).bind fun v3=>((gi x4 x0).bind fun v4=>((gi x4 x0).bind fun v5=>((x3 (v3,v5)).bind fun v6=>(if (decide (v6<0))=true then (some (.inl ((w64 ((w64 v1)+1)),v0.2))) else (some (.inl (v0.1,(w64 v1))))))))))) else (some (.inr v0.1)))
def kdf (v7:Int) (v8:(Int×(List Pile))):Option ((Int×(List Pile))⊕(List Pile)):=
 (if (decide (v8.1<(w64 (v7-1))))=true then ((gi v8.2 (w64 (v8.1+1))).bind fun v9=>((gi v8.2 (w64 (v8.1+1))).bind fun v10=>((gi v8.2 v8.1).bind fun v11=>((gi v8.2 v8.1).bind fun v12=>((gi v8.2 v8.1).bind fun v13=>((gi (lset v8.2 v8.1 v10) (w64 (v8.1+1))).bind fun v14=>(some (.inl ((w64 (v8.1+1)),(lset (lset v8.2 v8.1 v10) (w64 (v8.1+1)) v12)))))))))) else (some (.inr v8.2)))
def kde (x1:Int) (x3:((Pile×Pile)→Option Int)) (x4:(List Pile)) (v16:(Int×Int)):Option ((Int×Int)⊕Int):=
 (if (decide (v16.1<v16.2))=true then ((gshr .u64 (IntKind.wrap .u64 (w64 (v16.1+v16.2))) 1).bind fun v17=>((gi x4 x1).bind fun v18=>((gi x4 x1).bind fun v19=>((gi x4 (w64 v17)).bind fun v20=>((gi x4 (w64 v17)).bind fun v21=>((x3 (v19,v21)).bind fun v22=>(if (!(decide (v22<0)))=true then (some (.inl ((w64 ((w64 v17)+1)),v16.2))) else (some (.inl (v16.1,(w64 v17))))))))))) else (some (.inr v16.1)))
def kdl (v23:Int) (v24:(Int×(List Pile))):Option ((Int×(List Pile))⊕(List Pile)):=
 (if (decide (v23<v24.1))=true then ((gi v24.2 (w64 (v24.1-1))).bind fun v25=>((gi v24.2 (w64 (v24.1-1))).bind fun v26=>((gi v24.2 v24.1).bind fun v27=>((gi v24.2 v24.1).bind fun v28=>((gi v24.2 v24.1).bind fun v29=>((gi (lset v24.2 v24.1 v26) (w64 (v24.1-1))).bind fun v30=>(some (.inl ((w64 (v24.1-1)),(lset (lset v24.2 v24.1 v26) (w64 (v24.1-1)) v28)))))))))) else (some (.inr v24.2)))
def kdi (x1:Int) (x3:((Pile×Pile)→Option Int)) (x4:(List Pile)) (v32:Int) (v34:(Int×Int)):Option ((Int×Int)⊕Int):=
 (if (decide (v34.1<v34.2))=true then ((gshr .u64 (IntKind.wrap .u64 (w64 (v34.1+v34.2))) 1).bind fun v35=>((gi x4 (w64 ((w64 ((w64 ((w64 v32)+x1))-1))-(w64 v35)))).bind fun v36=>((gi x4 (w64 ((w64 ((w64 ((w64 v32)+x1))-1))-(w64 v35)))).bind fun v37=>((gi x4 (w64 v35)).bind fun v38=>((gi x4 (w64 v35)).bind fun v39=>((x3 (v37,v39)).bind fun v40=>(if (!(decide (v40<0)))=true then (some (.inl ((w64 ((w64 v35)+1)),v34.2))) else (some (.inl (v34.1,(w64 v35))))))))))) else (some (.inr v34.1)))
def kdA (rec_slices_symMergeCmpFunc_sort_pile_m12:Int→Int→Int→((Pile×Pile)→Option Int)→(List Pile)→Option (List Pile)) (x0:Int) (x1:Int) (x2:Int) (x3:((Pile×Pile)→Option Int)) (x4:(List Pile)):Option (List Pile):=
 (if ((w64 (x1-x0))==1)=true then ((iter (kdd x0 x3 x4) (x1,x2)).bind fun v7=>((iter (kdf v7) (x0,x4)).bind fun v15=>(some v15))) else (if ((w64 (x2-x1))==1)=true then ((iter (kde x1 x3 x4) (x0,x1)).bind fun v23=>((iter (kdl v23) (x1,x4)).bind fun v31=>(some v31))) else ((gshr .u64 (IntKind.wrap .u64 (w64 (x0+x2))) 1).bind fun v32=>((if (decide ((w64 v32)<x1))=true then (some ((w64 ((w64 ((w64 v32)+x1))-x2)),(w64 v32))) else (some (x0,x1))).bind fun v33=>((iter (kdi x1 x3 x4 v32) v33).bind fun v41=>((if (decide (v41<x1))=true then (some (decide (x1<(w64 ((w64 ((w64 v32)+x1))-v41))))) else (some false)).bind fun v42=>((if v42=true then ((kbG v41 x1 (w64 ((w64 ((w64 v32)+x1))-v41)) x3 x4).bind fun v43=>(some v43)) else (some x4)).bind fun v44=>((if (decide (x0<v41))=true then (some (decide (v41<(w64 v32)))) else (some false)).bind fun v45=>((if v45=true then ((rec_slices_symMergeCmpFunc_sort_pile_m12 x0 v41 (w64 v32) x3 v44).bind fun v46=>(some v46)) else (some v44)).bind fun v47=>(if (decide ((w64 v32)<(w64 ((w64 ((w64 v32)+x1))-v41))))=true then (if (decide ((w64 ((w64 ((w64 v32)+x1))-v41))<x2))=true then ((rec_slices_symMergeCmpFunc_sort_pile_m12 (w64 v32) (w64 ((w64 ((w64 v32)+x1))-v41)) x2 x3 v47).bind fun v48=>(some v48)) else (some v47)) else (some v47)))))))))))
def kaI:Nat→Int→Int→Int→((Pile×Pile)→Option Int)→(List Pile)→Option (List Pile)
 | 0,_,_,_,_,_=>none
 | k+1,x0,x1,x2,x3,x4=>kdA (kaI k) x0 x1 x2 x3 x4
def kaQ (x0:Int) (x1:Int) (x2:Int) (x3:((Pile×Pile)→Option Int)) (x4:(List Pile)):Option (List Pile):=kaI 1000000 x0 x1 x2 x3 x4
def kdL (x0:Int) (x1:((Pile×Pile)→Option Int)) (v0:(Int×Int×(List Pile))):Option ((Int×Int×(List Pile))⊕(Int×(List Pile))):=
 (if (decide (v0.1≤x0))=true then ((kaD v0.2.1 v0.1 x1 v0.2.2).bind fun v1=>(some (.inl ((w64 (v0.1+20)),v0.1,v1)))) else (some (.inr v0.2)))
def kdN (x0:Int) (x1:((Pile×Pile)→Option Int)) (v4:(Int×(List Pile))) (v5:(Int×Int×(List Pile))):Option ((Int×Int×(List Pile))⊕(Int×(List Pile))):=
 (if (decide (v5.1≤x0))=true then ((kaQ v5.2.1 (w64 (v5.2.1+v4.1)) v5.1 x1 v5.2.2).bind fun v6=>(some (.inl ((w64 (v5.1+(w64 (2*v4.1)))),v5.1,v6)))) else (some (.inr v5.2)))
def kdJ (x0:Int) (x1:((Pile×Pile)→Option Int)) (v4:(Int×(List Pile))):Option ((Int×(List Pile))⊕(List Pile)):=
 (if (decide (v4.1<x0))=true then ((iter (kdN x0 x1 v4) ((w64 (2*v4.1)),0,v4.2)).bind fun v7=>(if (decide ((w64 (v7.1+v4.1))<x0))=true then ((kaQ v7.1 (w64 (v7.1+v4.1)) x0 x1 v7.2).bind fun v8=>(some (.inl ((w64 (v4.1*2)),v8)))) else (some (.inl ((w64 (v4.1*2)),v7.2))))) else (some (.inr v4.2)))
def kbJ (x0:Int) (x1:((Pile×Pile)→Option Int)) (x2:(List Pile)):Option (List Pile):=
 ((iter (kdL x0 x1) (20,0,x2)).bind fun v2=>((kaD v2.1 x0 x1 v2.2).bind fun v3=>((iter (kdJ x0 x1) (20,v3)).bind fun v9=>(some v9))))
def kaS (x0:((Pile×Pile)→Option Int)) (x1:(List Pile)):Option (List Pile):=
 ((kbJ (lenI x1) x0 x1).bind fun v0=>(some v0))
def kdn (x0:((Pile×Pile)→Option Int)) (x1:(List Pile)):Option (List Pile):=
 ((kaS x0 x1).bind fun v0=>(some v0))
def kow (x0:(List Int)) (v1:(Int×(List Pile))):Option ((Int×(List Pile))⊕(List Pile)):=
 (if (decide (v1.1<(lenI x0)))=true then ((gi x0 v1.1).bind fun v2=>((gapp v1.2 [(v2,[v1.1])]).bind fun v3=>(some (.inl ((w64 (v1.1+1)),v3))))) else (some (.inr v1.2)))
def kmP (x1:Int) (v5:(List Pile)):Option ((List Pile)⊕(List Pile)):=
 ((grem (w64 ((lenI v5)-1)) (w64 (x1-1))).bind fun v6=>(if (v6 != 0)=true then ((gapp v5 [(0,[])]).bind fun v7=>(some (.inl v7))) else (some (.inr v5))))
def kmS (x1:Int) (v11:(Int×(List Pile)×(List Int))) (v13:Fed):Option (Fed⊕Pile):=
 (if (decide (v13.1<(x1-0)))=true then ((gmi 0 (x1-0) v13.1).bind fun v14=>((gi v11.2.1 v14).bind fun v15=>((gapp v13.2.2 v15.2).bind fun v16=>(some (.inl ((w64 (v13.1+1)),(w64 (v13.2.1+v15.1)),v16)))))) else (some (.inr v13.2)))
def knl (v17:Pile) (v18:Pile):Option (Pile⊕(List Int)):=
 (if (decide (v18.1<(lenI v17.2)))=true then ((gi v17.2 v18.1).bind fun v19=>((gi v17.2 v18.1).bind fun v20=>((gi v18.2 v20).bind fun v21=>((gi v18.2 v20).bind fun v22=>((gi v18.2 v20).bind fun v23=>(some (.inl ((w64 (v18.1+1)),(lset v18.2 v20 (w64 (v22+1))))))))))) else (some (.inr v18.2)))
def knz (x1:Int) (v11:(Int×(List Pile)×(List Int))):Option ((Int×(List Pile)×(List Int))⊕Pile):=
 (if (decide (1<(lenI v11.2.1)))=true then ((gsl v11.2.1 0 x1).bind fun v12=>((iter (kmS x1 v11) (0,0,[])).bind fun v17=>((iter (knl v17) (0,v11.2.2)).bind fun v24=>((gsl v11.2.1 x1 (lenI v11.2.1)).bind fun v25=>((kaC ((List.drop (Int.toNat x1) v11.2.1).take (Int.toNat ((lenI v11.2.1)-x1))) v17 (fun (u0:(Pile×Pile))=>((kgF u0.1 u0.2).bind fun u1=>(some u1)))).bind fun v26=>((gmk (w64 (((lenI v11.2.1)-x1)+1)) (0,[])).bind fun v27=>((gmb ((lenI v11.2.1)-x1) 0 v26.1).bind fun v28=>((gi (lcopy v27 0 (lenI v27) ((List.drop (Int.toNat (x1+0)) v11.2.1).take (Int.toNat (v26.1-0)))) v26.1).bind fun v29=>((gsl (lset (lcopy v27 0 (lenI v27) ((List.drop (Int.toNat (x1+0)) v11.2.1).take (Int.toNat (v26.1-0)))) v26.1 v17) (w64 (v26.1+1)) (lenI (lset (lcopy v27 0 (lenI v27) ((List.drop (Int.toNat (x1+0)) v11.2.1).take (Int.toNat (v26.1-0)))) v26.1 v17))).bind fun v30=>((gmb ((lenI v11.2.1)-x1) v26.1 ((lenI v11.2.1)-x1)).bind fun v31=>(some (.inl ((w64 (v11.1+v17.1)),(kse (lset (lcopy v27 0 (lenI v27) ((List.drop (Int.toNat (x1+0)) v11.2.1).take (Int.toNat (v26.1-0)))) v26.1 v17) ((w64 (v26.1+1)),((lenI (lset (lcopy v27 0 (lenI v27) ((List.drop (Int.toNat (x1+0)) v11.2.1).take (Int.toNat (v26.1-0)))) v26.1 v17))-(w64 (v26.1+1)))) ((List.drop (Int.toNat (x1+v26.1)) v11.2.1).take (Int.toNat (((lenI v11.2.1)-x1)-v26.1)))),v24))))))))))))) else (some (.inr (v11.1,v11.2.2))))
def kmm (x0:(List Int)) (x1:Int):Option ((List Int)×Int×Int):=
 ((kig x0 x1).bind fun v0=>(if (!v0)=true then (some ([],0,2)) else ((iter (kow x0) (0,[])).bind fun v4=>((iter (kmP x1) v4).bind fun v8=>((gmk (lenI x0) 0).bind fun v9=>((kdn (fun (u0:(Pile×Pile))=>((kgF u0.1 u0.2).bind fun u1=>(some u1))) v8).bind fun v10=>((iter (knz x1) (0,v10,v9)).bind fun v32=>(some (v32.2,v32.1,0)))))))))
def kiD (x0:(List (Int×Int×Int))) (x1:(List (Int×Int×Int))) (v0:Int):Option (Int⊕(Bool⊕Unit)):=
 (if (decide (v0<(lenI x0)))=true then ((gi x0 v0).bind fun v1=>((gi x1 v0).bind fun v2=>(if (!((v1.1==v2.1)&&((v1.2.1==v2.2.1)&&(v1.2.2==v2.2.2))))=true then (some (.inr (.inl false))) else (some (.inl (w64 (v0+1))))))) else (some (.inr (.inr ()))))
def keO (x0:(List (Int×Int×Int))) (x1:(List (Int×Int×Int))):Option Bool:=
 (if ((lenI x0) != (lenI x1))=true then (some false) else ((iter (kiD x0 x1) 0).bind fun v3=>(match v3 with | .inl v4=>(some v4) | .inr v5=>(some true))))
def kin (x0:(List (Int×Int×Bool))) (x1:(List (Int×Int×Bool))) (v0:Int):Option (Int⊕(Bool⊕Unit)):=
 (if (decide (v0<(lenI x0)))=true then ((gi x0 v0).bind fun v1=>((gi x1 v0).bind fun v2=>(if (!((v1.1==v2.1)&&((v1.2.1==v2.2.1)&&(v1.2.2==v2.2.2))))=true then (some (.inr (.inl false))) else (some (.inl (w64 (v0+1))))))) else (some (.inr (.inr ()))))
def kgu (x0:(List (Int×Int×Bool))) (x1:(List (Int×Int×Bool))):Option Bool:=
 (if ((lenI x0) != (lenI x1))=true then (some false) else ((iter (kin x0 x1) 0).bind fun v3=>(match v3 with | .inl v4=>(some v4) | .inr v5=>(some true))))
def kcD (x0:(List Int)) (x1:(List Int)) (v0:Int):Option (Int⊕(Bool⊕Unit)):=
 (if (decide (v0<(lenI x0)))=true then ((gi x0 v0).bind fun v1=>((gi x1 v0).bind fun v2=>(if (v1 != v2)=true then (some (.inr (.inl false))) else (some (.inl (w64 (v0+1))))))) else (some (.inr (.inr ()))))
def kcM (x0:(List Int)) (x1:(List Int)):Option Bool:=
 (if ((lenI x0) != (lenI x1))=true then (some false) else ((iter (kcD x0 x1) 0).bind fun v3=>(match v3 with | .inl v4=>(some v4) | .inr v5=>(some true))))
def kiU:Option Bool:=
 (law09_belt.bind fun v0=>((kcl 0 0).bind fun v1=>((kcl 6 1).bind fun v2=>((kcl 12 2).bind fun v3=>((kiV v0 [v1,v2,v3]).bind fun v4=>(law09_belt.bind fun v5=>((kcl 0 0).bind fun v6=>((kcl 4 1).bind fun v7=>((kiV v5 [v6,v7]).bind fun v8=>(law09_belt.bind fun v9=>((kcl 0 0).bind fun v10=>((kcl 6 1).bind fun v11=>((kcl 12 2).bind fun v12=>((kjL v9 [v10,v11,v12]).bind fun v13=>(law09_table.bind fun v14=>((kcJ v14 0 2).bind fun v15=>((kmm [5,4,3] 2).bind fun v16=>(if (v4.2 != 0)=true then (some false) else ((keO v4.1 [(0,0,10),(1,1,21),(2,(-1),32)]).bind fun v17=>(if (!v17)=true then (some false) else (if (v8.2 != 0)=true then (some false) else ((keO v8.1 [(0,(-1),20),(1,(-1),24)]).bind fun v18=>(if (!v18)=true then (some false) else (if (v13.2==0)=true then ((kgu v13.1 [(8,0,true),(11,0,false),(19,1,true),(22,1,false)]).bind fun v19=>(if v19=true then (if (v15.2==0)=true then ((kcM v15.1 [900000,7500,92500]).bind fun v20=>(if v20=true then (if (v16.2.2==0)=true then (some (v16.2.1==19)) else (some false)) else (some false))) else (some false)) else (some false))) else (some false)))))))))))))))))))))))))
def law09_alive:Option Bool:=some true
theorem kqZ:kiU=law09_alive:=by kernel_rfl
def kex (x0:(List (List Int))) (v0:Int):Option (Int⊕(Bool⊕Unit)):=
 (if (decide (v0<(lenI x0)))=true then ((gi x0 v0).bind fun v1=>(if (decide (12<(lenI v1)))=true then (some (.inr (.inl true))) else (some (.inl (w64 (v0+1)))))) else (some (.inr (.inr ()))))
def kga (x0:(List (List Int))):Option Bool:=
 ((iter (kex x0) 0).bind fun v2=>(match v2 with | .inl v3=>(some v3) | .inr v4=>(some (decide (10<(lenI x0))))))
def kfB (x0:(List (List Int))) (x1:Int):Option Bool:=
 (if (decide (4<(lenI x0)))=true then (some (decide (3<x1))) else (some false))
def kaR (x2:Int) (v5:(Int×Int)):Option ((Int×Int)⊕Int):=
 (if (decide (v5.1<x2))=true then (some (.inl ((w64 (v5.1+1)),(w64 (v5.2*1000))))) else (some (.inr v5.2)))
def kci (v3:((List Int)×Int)) (v7:(Int×Int)):Option ((Int×Int)⊕(Bool⊕Int)):=
 (if (decide (v7.1<(lenI v3.1)))=true then ((gi v3.1 v7.1).bind fun v8=>(if (decide (v8<0))=true then (some (.inr (.inl false))) else (some (.inl ((w64 (v7.1+1)),(w64 (v7.2+v8))))))) else (some (.inr (.inr v7.2))))
def keQ (x0:(List (List Int))) (x1:Int) (x2:Int):Option Bool:=
 (law09_alive.bind fun v0=>((kga x0).bind fun v1=>(if v1=true then (some v0) else ((kfB x0 x2).bind fun v2=>(if v2=true then (some v0) else (if (!v0)=true then (some v0) else ((kcJ x0 x1 x2).bind fun v3=>(if (v3.2 != 0)=true then ((if v0=true then (some ((lenI v3.1)==0)) else (some false)).bind fun v4=>(some v4)) else ((iter (kaR x2) (0,1)).bind fun v6=>((iter (kci v3) (0,0)).bind fun v9=>(match v9 with | .inl v10=>(some v10) | .inr v11=>((kcJ x0 x1 1).bind fun v12=>(if v0=true then (if (v11==v6)=true then (if ((lenI v3.1)==(w64 ((lenI x0)+1)))=true then (if (v12.2==0)=true then (if (decide (0≤x1))=true then (if (decide (x1<(lenI x0)))=true then ((gi x0 x1).bind fun v13=>((kcM v12.1 v13).bind fun v14=>(some v14))) else (some false)) else (some false)) else (some false)) else (some false)) else (some false)) else (some false))))))))))))))
end Go.Abs
set_option maxRecDepth 100000
namespace Go.Abs
open Go Go.Proofs
def kiI:Ctr:=⟨ "",[],[tBelt],fun x=>law09_belt,[],[]⟩
theorem klk:Good Try.prog 77 kiI:=
 kaj Try.func77 (by kernel_rfl) (An:=[(0,⟨⟨[(8,.c (.i .i64)),(1,.ptr 8 0)],[(8,.bx 25 [.c (.i .i64),.c (.i .i64),.c (.i .i64),.mw 3,.mw 5]),(5,.sl 3 (.i .i64))]⟩,⟨[(1,.ptr 9 0)],[(9,.bx 25 [.c (.i .i64),.c (.i .i64),.c (.i .i64),.mw 3,.mw 10]),(10,.sl 3 (.i .i64))]⟩,[0],[3,2,0,1],11,false,""⟩),(49,⟨⟨[],[]⟩,⟨[(3,.c (.i .i64))],[]⟩,[2,1,8],[8,5],9,false,""⟩)]) [] (.nil) (fun x=>by kernel_rfl)
def kjB:Ctr:=⟨ "",[(.i .i64),(.i .i64)],[tFed],fun x=>kcl x.1 x.2,[],[]⟩
theorem klG:Good Try.prog 78 kjB:=
 kaj Try.func78 (by kernel_rfl) (An:=[]) [] (.nil) (fun x=>by kernel_rfl)
def khh:Ctr:=⟨ "",[(.i .i64),(.pt (.i .i64)),(.pt (.i .i64))],[.b],fun x=>keW x.1 x.2.1 x.2.2,[],[]⟩
theorem kjp:Good Try.prog 82 khh:=
 kaj Try.func82 (by kernel_rfl) (An:=[]) [] (.nil) (fun x=>by kernel_rfl)
def kcG:Ctr:=⟨ "",[(.sl (.i .i64)),(.fn 1 (.i .i64) .b)],[(.i .i64)],fun x=>kbD x.1 x.2,[],[]⟩
theorem keJ:Good Try.prog 93 kcG:=
 kaj Try.func93 (by kernel_rfl) (An:=[(0,⟨⟨[(8,.c (.i .i64))],[]⟩,⟨[],[]⟩,[7,1,0],[],0,true,""⟩)]) [] (.nil) (fun x=>by kernel_rfl)
def kcd:Ctr:=⟨ "",[(.sl (.i .i64)),(.fn 1 (.i .i64) .b)],[.b],fun x=>kaN x.1 x.2,[],[]⟩
theorem keq:Good Try.prog 81 kcd:=
 kaj Try.func81 (by kernel_rfl) (An:=[]) [(93,kcG)] (.cons keJ <| .nil) (fun x=>by kernel_rfl)
def kcv:Ctr:=⟨ "",[(.i .i64),(.i .i64),(.sl (.i .i64))],[.b],fun x=>kaq x.1 x.2.1 x.2.2,[],[]⟩
theorem kbW:Good Try.prog 54 kcv:=
 kaj Try.func54 (by kernel_rfl) (An:=[]) [(81,kcd),(82,khh)] (.cons keq <| .cons kjp <| .nil) (fun x=>by kernel_rfl)
def kgH:Ctr:=⟨ "",[tBelt],[(.i .i64)],fun x=>khA x,[],[]⟩
theorem kim:Good Try.prog 18 kgH:=
 kaj Try.func18 (by kernel_rfl) (An:=[(0,⟨⟨[(52,.c (.i .i64)),(3,.c (.i .i64)),(4,.mp 4)],[(4,.mp (.i .i64) .b)]⟩,⟨[],[]⟩,[51,50,1],[0],5,true,""⟩)]) [(54,kcv)] (.cons kbW <| .nil) (fun x=>by kernel_rfl)
def kjF:Ctr:=⟨ "",[(.sl (.i .i64))],[.b],fun x=>kmn x,[],[]⟩
theorem kln:Good Try.prog 50 kjF:=
 kaj Try.func50 (by kernel_rfl) (An:=[]) [(54,kcv)] (.cons kbW <| .nil) (fun x=>by kernel_rfl)
def kgV:Ctr:=⟨ "",[(.sl tFed)],[(.i .i64)],fun x=>kil x,[],[]⟩
theorem kiJ:Good Try.prog 20 kgV:=
 kaj Try.func20 (by kernel_rfl) (An:=[(0,⟨⟨[(11,.c (.i .i64)),(3,.c (.i .i64))],[]⟩,⟨[],[]⟩,[10,9],[],0,true,""⟩)]) [(50,kjF),(54,kcv)] (.cons kln <| .cons kbW <| .nil) (fun x=>by kernel_rfl)
def khX:Ctr:=⟨ "",[tBelt,(.sl tFed)],[(.op tLine),(.i .i64)],fun x=>kjX x.1 x.2,[],[]⟩
theorem kif:Good Try.prog 59 khX:=
 kaj Try.func59 (by kernel_rfl) (An:=[(41,⟨⟨[],[]⟩,⟨[(6,.c (.i .i64))],[]⟩,[1,2],[0],1,false,""⟩)]) [(20,kgV),(18,kgH)] (.cons kiJ <| .cons kim <| .nil) (fun x=>by kernel_rfl)
def kfw:Ctr:=⟨ "",[(.sl (.i .i64))],[(.i .i64)],fun x=>keF x,[],[]⟩
theorem kfh:Good Try.prog 51 kfw:=
 kaj Try.func51 (by kernel_rfl) (An:=[(0,⟨⟨[(12,.c (.i .i64)),(3,.ptr 0 0)],[(0,.el 130 (.ar 16 (.i .i64)))]⟩,⟨[(3,.ptr 1 0)],[(1,.el 130 (.ar 16 (.i .i64)))]⟩,[11,10],[],2,false,""⟩),(8,⟨⟨[(25,.c (.i .i64)),(7,.c (.i .i64)),(6,.c (.i .i64))],[]⟩,⟨[(6,.c (.i .i64))],[]⟩,[24],[],2,false,""⟩)]) [] (.nil) (fun x=>by kernel_rfl)
def kff:Ctr:=⟨ "",[(.pr (.i .i64) (.i .i64)),(.pt (.op tLine)),(.pt (.i .i64))],[.b],fun x=>kfX x.1 x.2.1 x.2.2,[],[]⟩
theorem khc:Good Try.prog 103 kff:=
 kaj Try.func103 (by kernel_rfl) (An:=[]) [] (.nil) (fun x=>by kernel_rfl)
def kbp:Ctr:=⟨ "",[(.sl (.pr (.i .i64) (.i .i64))),(.fn 1 (.pr (.i .i64) (.i .i64)) .b)],[(.i .i64)],fun x=>kby x.1 x.2,[],[]⟩
theorem kcR:Good Try.prog 102 kbp:=
 kaj Try.func102 (by kernel_rfl) (An:=[(0,⟨⟨[(8,.c (.i .i64))],[]⟩,⟨[],[]⟩,[7,1,0],[],0,true,""⟩)]) [] (.nil) (fun x=>by kernel_rfl)
def keB:Ctr:=⟨ "",[(.op tLine),tFed],[(.i .i64)],fun x=>kfp x.1 x.2,[],[]⟩
theorem kfc:Good Try.prog 95 keB:=
 kaj Try.func95 (by kernel_rfl) (An:=[]) [(102,kbp),(103,kff),(51,kfw)] (.cons kcR <| .cons khc <| .cons kfh <| .nil) (fun x=>by kernel_rfl)
def keE:Ctr:=⟨ "",[tFed,(.pt (.op tLine)),(.pt (.i .i64))],[.b],fun x=>kfe x.1 x.2.1 x.2.2,[],[]⟩
theorem kgm:Good Try.prog 96 keE:=
 kaj Try.func96 (by kernel_rfl) (An:=[]) [(95,keB)] (.cons kfc <| .nil) (fun x=>by kernel_rfl)
def kbt:Ctr:=⟨ "",[(.sl tFed),(.fn 1 tFed .b)],[(.i .i64)],fun x=>kbM x.1 x.2,[],[]⟩
theorem kdj:Good Try.prog 104 kbt:=
 kaj Try.func104 (by kernel_rfl) (An:=[(0,⟨⟨[(8,.c (.i .i64))],[]⟩,⟨[],[]⟩,[7,1,0],[],0,true,""⟩)]) [] (.nil) (fun x=>by kernel_rfl)
def kbl:Ctr:=⟨ "",[(.sl tFed),(.fn 1 tFed .b)],[.b],fun x=>kbs x.1 x.2,[],[]⟩
theorem kcF:Good Try.prog 97 kbl:=
 kaj Try.func97 (by kernel_rfl) (An:=[]) [(104,kbt)] (.cons kdj <| .nil) (fun x=>by kernel_rfl)
def kfE:Ctr:=⟨ "",[(.op tLine),(.sl tFed)],[(.i .i64)],fun x=>kgx x.1 x.2,[],[]⟩
theorem khl:Good Try.prog 89 kfE:=
 kaj Try.func89 (by kernel_rfl) (An:=[(7,⟨⟨[],[]⟩,⟨[],[]⟩,[0],[0],0,false,""⟩)]) [(97,kbl),(96,keE),(95,keB)] (.cons kcF <| .cons kgm <| .cons kfc <| .nil) (fun x=>by kernel_rfl)
def kep:CtrI:=⟨ "",[(.pt (.op tLine))],[(.i .i64),(.sl tFed)],fun x=>runI fun o=>kcc o x⟩
theorem kfQ:GoodI Try.prog 88 kep:=
 kqR Try.func88 (by kernel_rfl) (An:=[(0,⟨⟨[(3,.c (.sl tFed)),(9000000,.gs (.pr (.i .i64) (.sl tFed)))],[]⟩,⟨[(9000000,.gs (.pr (.i .i64) (.sl tFed)))],[]⟩,[1],[],1,true,""⟩),(8,⟨⟨[(4,.c (.i .i64))],[]⟩,⟨[(4,.c (.i .i64))],[]⟩,[3,9000000],[],1,false,""⟩)]) [(89,kfE)] (.cons khl <| .nil) (fun x=>by kernel_rfl)
def kbo:Ctr:=⟨ "",[],[],fun _=>none,[],[kep]⟩
theorem kbC:Good Try.prog 88 kbo:=good_dm.moreI kfQ
def sort_line_clusters_m0_M:CtrM:=⟨ "",[some (.op tLine)],⟨[],[]⟩,0,⟨[(1000000,.fn 88 [.ptr 0 0])],[(0,.bx 100 [.c (.op tLine)])]⟩,1,1,fun x=>kcO x⟩
theorem kfS:sort_line_clusters_m0_M.ok=true∧GoodM Try.prog 70 sort_line_clusters_m0_M:=
 kaY Try.func70 (by kernel_rfl) (An:=[]) [(88,kbo)] (.cons kbC <| .nil) (fun x=>by kernel_rfl)
def sort_line_clusters_C:Ctr:=⟨ "",[],[],fun _=>none,[],[]⟩
theorem sort_line_clusters_C_ok:Good Try.prog 70 sort_line_clusters_C:=good_dm
def kcN:Ctr:=⟨ "",sort_line_clusters_C.as,sort_line_clusters_C.rs,sort_line_clusters_C.F,sort_line_clusters_m0_M::sort_line_clusters_C.mus,sort_line_clusters_C.its⟩
theorem kdS:Good Try.prog 70 kcN:=sort_line_clusters_C_ok.more kfS
def kjD:Ctr:=⟨ "",[tBelt,(.sl tFed)],[(.sl (.pr (.i .i64) (.pr (.i .i64) (.i .i64)))),(.i .i64)],fun x=>kiV x.1 x.2,[],[]⟩
theorem klw:Good Try.prog 39 kjD:=
 kaj Try.func39 (by kernel_rfl) (An:=[(0,⟨⟨[],[(3,.bx 57 [.mw 2]),(2,.sl 86 (.pr (.i .i64) (.pr (.i .i64) (.i .i64))))]⟩,⟨[],[(3,.bx 57 [.mw 6]),(6,.sl 86 (.pr (.i .i64) (.pr (.i .i64) (.i .i64))))]⟩,[24,8,2],[0],7,false,""⟩),(8,⟨⟨[(29,.c (.i .i64))],[(3,.bx 57 [.mw 2]),(2,.sl 86 (.pr (.i .i64) (.pr (.i .i64) (.i .i64))))]⟩,⟨[],[(3,.bx 57 [.mw 6]),(6,.sl 86 (.pr (.i .i64) (.pr (.i .i64) (.i .i64))))]⟩,[28,27,9],[],7,false,""⟩),(47,⟨⟨[],[]⟩,⟨[],[]⟩,[0,6,5,3,2],[0,6,5,3,2],0,false,""⟩),(55,⟨⟨[],[]⟩,⟨[],[]⟩,[0,7,6,5,3,2],[0,6,5,3,2],0,false,""⟩)]) [(70,kcN),(88,kbo),(51,kfw),(59,khX)] (.cons kdS <| .cons kbC <| .cons kfh <| .cons kif <| .nil) (fun x=>by kernel_rfl)
def kgR:Ctr:=⟨ "",[(.i .i64)],[.b],fun x=>kfR x,[],[]⟩
theorem kiK:Good Try.prog 99 kgR:=
 kaj Try.func99 (by kernel_rfl) (An:=[]) [] (.nil) (fun x=>by kernel_rfl)
def kfY:Ctr:=⟨ "",[(.i .i64),(.i .i64)],[(.i .i64)],fun x=>kfa x.1 x.2,[],[]⟩
theorem khQ:Good Try.prog 92 kfY:=
 kaj Try.func92 (by kernel_rfl) (An:=[]) [(99,kgR)] (.cons kiK <| .nil) (fun x=>by kernel_rfl)
def kgD:Ctr:=⟨ "",[(.sl (.i .i64))],[(.i .i64)],fun x=>khF x,[],[]⟩
theorem kgU:Good Try.prog 67 kgD:=
 kaj Try.func67 (by kernel_rfl) (An:=[(0,⟨⟨[(8,.c (.i .i64))],[]⟩,⟨[],[]⟩,[7,6,3],[],0,true,""⟩)]) [] (.nil) (fun x=>by kernel_rfl)
def kiw:Ctr:=⟨ "",[(.pr (.i .i64) (.pr (.i .i64) .b)),(.pr (.i .i64) (.pr (.i .i64) .b))],[(.i .i64)],fun x=>kkM x.1 x.2,[],[]⟩
theorem kkZ:Good Try.prog 73 kiw:=
 kaj Try.func73 (by kernel_rfl) (An:=[]) [(67,kgD),(92,kfY)] (.cons kgU <| .cons khQ <| .nil) (fun x=>by kernel_rfl)
def slices_insertionSortCmpFunc_api_Swing_m1_M:CtrM:=⟨ "",[none,some (.i .i64),some (.i .i64),some (.fn 2 (.pr (.pr (.i .i64) (.pr (.i .i64) .b)) (.pr (.i .i64) (.pr (.i .i64) .b))) (.i .i64))],⟨[(0,.mw 0)],[(0,.sl 107 (.pr (.i .i64) (.pr (.i .i64) .b)))]⟩,1,⟨[(0,.mw 0)],[(0,.sl 107 (.pr (.i .i64) (.pr (.i .i64) .b)))]⟩,1,0,fun x=>kaE x.1 x.2.1 x.2.2.1 x.2.2.2⟩
theorem kcg:slices_insertionSortCmpFunc_api_Swing_m1_M.ok=true∧GoodM Try.prog 105 slices_insertionSortCmpFunc_api_Swing_m1_M:=
 kaY Try.func105 (by kernel_rfl) (An:=[(0,⟨⟨[(8,.c (.i .i64))],[(0,.sl 107 (.pr (.i .i64) (.pr (.i .i64) .b)))]⟩,⟨[],[(0,.sl 107 (.pr (.i .i64) (.pr (.i .i64) .b)))]⟩,[2,1,3],[],2,false,""⟩),(8,⟨⟨[(9,.c (.i .i64))],[(0,.sl 107 (.pr (.i .i64) (.pr (.i .i64) .b)))]⟩,⟨[],[(0,.sl 107 (.pr (.i .i64) (.pr (.i .i64) .b)))]⟩,[8],[],2,false,""⟩),(27,⟨⟨[],[]⟩,⟨[],[]⟩,[],[],0,false,""⟩)]) [] (.nil) (fun x=>by kernel_rfl)
def slices_insertionSortCmpFunc_api_Swing_C:Ctr:=⟨ "",[],[],fun _=>none,[],[]⟩
theorem slices_insertionSortCmpFunc_api_Swing_C_ok:Good Try.prog 105 slices_insertionSortCmpFunc_api_Swing_C:=good_dm
def kbi:Ctr:=⟨ "",slices_insertionSortCmpFunc_api_Swing_C.as,slices_insertionSortCmpFunc_api_Swing_C.rs,slices_insertionSortCmpFunc_api_Swing_C.F,slices_insertionSortCmpFunc_api_Swing_m1_M::slices_insertionSortCmpFunc_api_Swing_C.mus,slices_insertionSortCmpFunc_api_Swing_C.its⟩
theorem kcA:Good Try.prog 105 kbi:=slices_insertionSortCmpFunc_api_Swing_C_ok.more kcg
def slices_swapRangeCmpFunc_api_Swing_m2_M:CtrM:=⟨ "",[none,some (.i .i64),some (.i .i64),some (.i .i64),some (.fn 2 (.pr (.pr (.i .i64) (.pr (.i .i64) .b)) (.pr (.i .i64) (.pr (.i .i64) .b))) (.i .i64))],⟨[(0,.mw 0)],[(0,.sl 107 (.pr (.i .i64) (.pr (.i .i64) .b)))]⟩,1,⟨[(0,.mw 0)],[(0,.sl 107 (.pr (.i .i64) (.pr (.i .i64) .b)))]⟩,1,0,fun x=>kax x.1 x.2.1 x.2.2.1 x.2.2.2.1 x.2.2.2.2⟩
theorem kcP:slices_swapRangeCmpFunc_api_Swing_m2_M.ok=true∧GoodM Try.prog 110 slices_swapRangeCmpFunc_api_Swing_m2_M:=
 kaY Try.func110 (by kernel_rfl) (An:=[(0,⟨⟨[(10,.c (.i .i64))],[(0,.sl 107 (.pr (.i .i64) (.pr (.i .i64) .b)))]⟩,⟨[],[(0,.sl 107 (.pr (.i .i64) (.pr (.i .i64) .b)))]⟩,[3,1,2],[],2,false,""⟩),(15,⟨⟨[],[]⟩,⟨[],[]⟩,[],[],0,false,""⟩)]) [] (.nil) (fun x=>by kernel_rfl)
def slices_swapRangeCmpFunc_api_Swing_C:Ctr:=⟨ "",[],[],fun _=>none,[],[]⟩
theorem slices_swapRangeCmpFunc_api_Swing_C_ok:Good Try.prog 110 slices_swapRangeCmpFunc_api_Swing_C:=good_dm
def kbv:Ctr:=⟨ "",slices_swapRangeCmpFunc_api_Swing_C.as,slices_swapRangeCmpFunc_api_Swing_C.rs,slices_swapRangeCmpFunc_api_Swing_C.F,slices_swapRangeCmpFunc_api_Swing_m2_M::slices_swapRangeCmpFunc_api_Swing_C.mus,slices_swapRangeCmpFunc_api_Swing_C.its⟩
theorem kdr:Good Try.prog 110 kbv:=slices_swapRangeCmpFunc_api_Swing_C_ok.more kcP
def slices_rotateCmpFunc_api_Swing_m3_M:CtrM:=⟨ "",[none,some (.i .i64),some (.i .i64),some (.i .i64),some (.fn 2 (.pr (.pr (.i .i64) (.pr (.i .i64) .b)) (.pr (.i .i64) (.pr (.i .i64) .b))) (.i .i64))],⟨[(0,.mw 0)],[(0,.sl 107 (.pr (.i .i64) (.pr (.i .i64) .b)))]⟩,1,⟨[(0,.mw 0)],[(0,.sl 107 (.pr (.i .i64) (.pr (.i .i64) .b)))]⟩,1,0,fun x=>kbU x.1 x.2.1 x.2.2.1 x.2.2.2.1 x.2.2.2.2⟩
theorem kdx:slices_rotateCmpFunc_api_Swing_m3_M.ok=true∧GoodM Try.prog 108 slices_rotateCmpFunc_api_Swing_m3_M:=
 kaY Try.func108 (by kernel_rfl) (An:=[(0,⟨⟨[(10,.c (.i .i64)),(11,.c (.i .i64))],[(0,.sl 107 (.pr (.i .i64) (.pr (.i .i64) .b)))]⟩,⟨[(10,.c (.i .i64))],[(0,.sl 107 (.pr (.i .i64) (.pr (.i .i64) .b)))]⟩,[2,4],[],2,false,""⟩)]) [(110,kbv)] (.cons kdr <| .nil) (fun x=>by kernel_rfl)
def slices_rotateCmpFunc_api_Swing_C:Ctr:=⟨ "",[],[],fun _=>none,[],[]⟩
theorem slices_rotateCmpFunc_api_Swing_C_ok:Good Try.prog 108 slices_rotateCmpFunc_api_Swing_C:=good_dm
def kbR:Ctr:=⟨ "",slices_rotateCmpFunc_api_Swing_C.as,slices_rotateCmpFunc_api_Swing_C.rs,slices_rotateCmpFunc_api_Swing_C.F,slices_rotateCmpFunc_api_Swing_m3_M::slices_rotateCmpFunc_api_Swing_C.mus,slices_rotateCmpFunc_api_Swing_C.its⟩
theorem kdV:Good Try.prog 108 kbR:=slices_rotateCmpFunc_api_Swing_C_ok.more kdx
def kaJ (k:Nat):CtrM:=⟨ "",[none,some (.i .i64),some (.i .i64),some (.i .i64),some (.fn 2 (.pr (.pr (.i .i64) (.pr (.i .i64) .b)) (.pr (.i .i64) (.pr (.i .i64) .b))) (.i .i64))],⟨[(0,.mw 0)],[(0,.sl 107 (.pr (.i .i64) (.pr (.i .i64) .b)))]⟩,1,⟨[(0,.mw 0)],[(0,.sl 107 (.pr (.i .i64) (.pr (.i .i64) .b)))]⟩,1,0,fun x=>kaM k x.1 x.2.1 x.2.2.1 x.2.2.2.1 x.2.2.2.2⟩
theorem kbk:∀ k,(kaJ k).ok=true∧GoodM Try.prog 106 (kaJ k)
 | 0=>khI (by kernel_rfl) (fun x=>rfl)
 | k+1=>kaY Try.func106 (by kernel_rfl) (An:=[(0,⟨⟨[(10,.c (.i .i64)),(11,.c (.i .i64))],[]⟩,⟨[(10,.c (.i .i64))],[]⟩,[4,1],[0],1,false,""⟩),(8,⟨⟨[(13,.c (.i .i64))],[(0,.sl 107 (.pr (.i .i64) (.pr (.i .i64) .b)))]⟩,⟨[],[(0,.sl 107 (.pr (.i .i64) (.pr (.i .i64) .b)))]⟩,[10],[],2,false,""⟩),(47,⟨⟨[],[]⟩,⟨[],[]⟩,[],[],0,false,""⟩),(16,⟨⟨[(14,.c (.i .i64)),(15,.c (.i .i64))],[]⟩,⟨[(14,.c (.i .i64))],[]⟩,[4,2],[0],1,false,""⟩),(24,⟨⟨[(17,.c (.i .i64))],[(0,.sl 107 (.pr (.i .i64) (.pr (.i .i64) .b)))]⟩,⟨[],[(0,.sl 107 (.pr (.i .i64) (.pr (.i .i64) .b)))]⟩,[14],[],2,false,""⟩),(95,⟨⟨[],[]⟩,⟨[],[]⟩,[],[],0,false,""⟩),(561,⟨⟨[],[]⟩,⟨[(20,.c (.i .i64)),(21,.c (.i .i64))],[]⟩,[19,3,18,4,2,1],[0],1,false,""⟩),(32,⟨⟨[(20,.c (.i .i64)),(21,.c (.i .i64))],[]⟩,⟨[(20,.c (.i .i64))],[]⟩,[4,22,19,2,1,18,3],[0],1,false,""⟩),(158,⟨⟨[],[]⟩,⟨[(185,.c .b)],[]⟩,[20,2,24,4,1,18,3],[0],1,false,""⟩),(741,⟨⟨[],[(0,.sl 107 (.pr (.i .i64) (.pr (.i .i64) .b)))]⟩,⟨[],[(0,.sl 107 (.pr (.i .i64) (.pr (.i .i64) .b)))]⟩,[20,2,24,4,1,18,3],[],2,false,""⟩),(166,⟨⟨[],[]⟩,⟨[(199,.c .b)],[]⟩,[1,20,18,4,24,3],[0],2,false,""⟩),(797,⟨⟨[],[(0,.sl 107 (.pr (.i .i64) (.pr (.i .i64) .b)))]⟩,⟨[],[(0,.sl 107 (.pr (.i .i64) (.pr (.i .i64) .b)))]⟩,[1,20,18,4,24,3],[],3,false,""⟩)]) ((106,⟨ "",[],[],fun _=>none,[kaJ k],[]⟩)::[(108,kbR)]) (.cons (good_dm.more (kbk k)) <| .cons kdV <| .nil) (fun x=>by kernel_rfl)
def slices_symMergeCmpFunc_api_Swing_m4_M:CtrM:=⟨ "",[none,some (.i .i64),some (.i .i64),some (.i .i64),some (.fn 2 (.pr (.pr (.i .i64) (.pr (.i .i64) .b)) (.pr (.i .i64) (.pr (.i .i64) .b))) (.i .i64))],⟨[(0,.mw 0)],[(0,.sl 107 (.pr (.i .i64) (.pr (.i .i64) .b)))]⟩,1,⟨[(0,.mw 0)],[(0,.sl 107 (.pr (.i .i64) (.pr (.i .i64) .b)))]⟩,1,0,fun x=>kaU x.1 x.2.1 x.2.2.1 x.2.2.2.1 x.2.2.2.2⟩
theorem kcU:slices_symMergeCmpFunc_api_Swing_m4_M.ok=true∧GoodM Try.prog 106 slices_symMergeCmpFunc_api_Swing_m4_M:=kbk 1000000
def slices_symMergeCmpFunc_api_Swing_C:Ctr:=⟨ "",[],[],fun _=>none,[],[]⟩
theorem slices_symMergeCmpFunc_api_Swing_C_ok:Good Try.prog 106 slices_symMergeCmpFunc_api_Swing_C:=good_dm
def kbB:Ctr:=⟨ "",slices_symMergeCmpFunc_api_Swing_C.as,slices_symMergeCmpFunc_api_Swing_C.rs,slices_symMergeCmpFunc_api_Swing_C.F,slices_symMergeCmpFunc_api_Swing_m4_M::slices_symMergeCmpFunc_api_Swing_C.mus,slices_symMergeCmpFunc_api_Swing_C.its⟩
theorem kdw:Good Try.prog 106 kbB:=slices_symMergeCmpFunc_api_Swing_C_ok.more kcU
def slices_stableCmpFunc_api_Swing_m5_M:CtrM:=⟨ "",[none,some (.i .i64),some (.fn 2 (.pr (.pr (.i .i64) (.pr (.i .i64) .b)) (.pr (.i .i64) (.pr (.i .i64) .b))) (.i .i64))],⟨[(0,.mw 0)],[(0,.sl 107 (.pr (.i .i64) (.pr (.i .i64) .b)))]⟩,1,⟨[(0,.mw 0)],[(0,.sl 107 (.pr (.i .i64) (.pr (.i .i64) .b)))]⟩,1,0,fun x=>kbS x.1 x.2.1 x.2.2⟩
theorem kdz:slices_stableCmpFunc_api_Swing_m5_M.ok=true∧GoodM Try.prog 98 slices_stableCmpFunc_api_Swing_m5_M:=
 kaY Try.func98 (by kernel_rfl) (An:=[(0,⟨⟨[(8,.c (.i .i64)),(7,.c (.i .i64))],[(0,.sl 107 (.pr (.i .i64) (.pr (.i .i64) .b)))]⟩,⟨[(7,.c (.i .i64))],[(0,.sl 107 (.pr (.i .i64) (.pr (.i .i64) .b)))]⟩,[1,2,6],[],2,false,""⟩),(8,⟨⟨[(6,.c (.i .i64))],[(0,.sl 107 (.pr (.i .i64) (.pr (.i .i64) .b)))]⟩,⟨[],[(0,.sl 107 (.pr (.i .i64) (.pr (.i .i64) .b)))]⟩,[1,2],[],3,false,""⟩),(16,⟨⟨[(8,.c (.i .i64)),(7,.c (.i .i64))],[(0,.sl 107 (.pr (.i .i64) (.pr (.i .i64) .b)))]⟩,⟨[(7,.c (.i .i64))],[(0,.sl 107 (.pr (.i .i64) (.pr (.i .i64) .b)))]⟩,[6],[],3,false,""⟩)]) [(106,kbB),(105,kbi)] (.cons kdw <| .cons kcA <| .nil) (fun x=>by kernel_rfl)
def slices_stableCmpFunc_api_Swing_C:Ctr:=⟨ "",[],[],fun _=>none,[],[]⟩
theorem slices_stableCmpFunc_api_Swing_C_ok:Good Try.prog 98 slices_stableCmpFunc_api_Swing_C:=good_dm
def kbT:Ctr:=⟨ "",slices_stableCmpFunc_api_Swing_C.as,slices_stableCmpFunc_api_Swing_C.rs,slices_stableCmpFunc_api_Swing_C.F,slices_stableCmpFunc_api_Swing_m5_M::slices_stableCmpFunc_api_Swing_C.mus,slices_stableCmpFunc_api_Swing_C.its⟩
theorem kec:Good Try.prog 98 kbT:=slices_stableCmpFunc_api_Swing_C_ok.more kdz
def slices_SortStableFunc_s_api_Swing_api_Swing_m6_M:CtrM:=⟨ "",[none,some (.fn 2 (.pr (.pr (.i .i64) (.pr (.i .i64) .b)) (.pr (.i .i64) (.pr (.i .i64) .b))) (.i .i64))],⟨[(0,.mw 0)],[(0,.sl 107 (.pr (.i .i64) (.pr (.i .i64) .b)))]⟩,1,⟨[(0,.mw 0)],[(0,.sl 107 (.pr (.i .i64) (.pr (.i .i64) .b)))]⟩,1,0,fun x=>kaW x.1 x.2⟩
theorem kbF:slices_SortStableFunc_s_api_Swing_api_Swing_m6_M.ok=true∧GoodM Try.prog 91 slices_SortStableFunc_s_api_Swing_api_Swing_m6_M:=
 kaY Try.func91 (by kernel_rfl) (An:=[]) [(98,kbT)] (.cons kec <| .nil) (fun x=>by kernel_rfl)
def slices_SortStableFunc_s_api_Swing_api_Swing_C:Ctr:=⟨ "",[],[],fun _=>none,[],[]⟩
theorem slices_SortStableFunc_s_api_Swing_api_Swing_C_ok:Good Try.prog 91 slices_SortStableFunc_s_api_Swing_api_Swing_C:=good_dm
def kaV:Ctr:=⟨ "",slices_SortStableFunc_s_api_Swing_api_Swing_C.as,slices_SortStableFunc_s_api_Swing_api_Swing_C.rs,slices_SortStableFunc_s_api_Swing_api_Swing_C.F,slices_SortStableFunc_s_api_Swing_api_Swing_m6_M::slices_SortStableFunc_s_api_Swing_api_Swing_C.mus,slices_SortStableFunc_s_api_Swing_api_Swing_C.its⟩
theorem kbZ:Good Try.prog 91 kaV:=slices_SortStableFunc_s_api_Swing_api_Swing_C_ok.more kbF
def sort_ordered_api_Swing_m7_M:CtrM:=⟨ "",[none,some (.fn 2 (.pr (.pr (.i .i64) (.pr (.i .i64) .b)) (.pr (.i .i64) (.pr (.i .i64) .b))) (.i .i64))],⟨[(0,.mw 0)],[(0,.sl 107 (.pr (.i .i64) (.pr (.i .i64) .b)))]⟩,1,⟨[(0,.mw 0),(1000000,.mw 0)],[(0,.sl 107 (.pr (.i .i64) (.pr (.i .i64) .b)))]⟩,1,1,fun x=>kdG x.1 x.2⟩
theorem keM:sort_ordered_api_Swing_m7_M.ok=true∧GoodM Try.prog 72 sort_ordered_api_Swing_m7_M:=
 kaY Try.func72 (by kernel_rfl) (An:=[]) [(91,kaV)] (.cons kbZ <| .nil) (fun x=>by kernel_rfl)
def sort_ordered_api_Swing_C:Ctr:=⟨ "",[],[],fun _=>none,[],[]⟩
theorem sort_ordered_api_Swing_C_ok:Good Try.prog 72 sort_ordered_api_Swing_C:=good_dm
def kdE:Ctr:=⟨ "",sort_ordered_api_Swing_C.as,sort_ordered_api_Swing_C.rs,sort_ordered_api_Swing_C.F,sort_ordered_api_Swing_m7_M::sort_ordered_api_Swing_C.mus,sort_ordered_api_Swing_C.its⟩
theorem kfg:Good Try.prog 72 kdE:=sort_ordered_api_Swing_C_ok.more keM
def kii:Ctr:=⟨ "",[tBelt,(.sl tFed)],[(.sl (.pr (.i .i64) (.pr (.i .i64) .b))),(.i .i64)],fun x=>kjL x.1 x.2,[],[]⟩
theorem kku:Good Try.prog 41 kii:=
 kaj Try.func41 (by kernel_rfl) (An:=[(0,⟨⟨[],[(3,.bx 56 [.mw 2]),(2,.sl 107 (.pr (.i .i64) (.pr (.i .i64) .b)))]⟩,⟨[],[(3,.bx 56 [.mw 6]),(6,.sl 107 (.pr (.i .i64) (.pr (.i .i64) .b)))]⟩,[22,8,2],[0],7,false,""⟩)]) [(72,kdE),(73,kiw),(70,kcN),(88,kbo),(59,khX)] (.cons kfg <| .cons kkZ <| .cons kdS <| .cons kbC <| .cons kif <| .nil) (fun x=>by kernel_rfl)
def kic:Ctr:=⟨ "",[],[(.sl (.sl (.i .i64)))],fun x=>law09_table,[],[]⟩
theorem kkm:Good Try.prog 79 kic:=
 kaj Try.func79 (by kernel_rfl) (An:=[]) [] (.nil) (fun x=>by kernel_rfl)
def kfW:Ctr:=⟨ "",[(.sl (.sl (.i .i64)))],[(.i .i64)],fun x=>kdF x,[],[]⟩
theorem khJ:Good Try.prog 28 kfW:=
 kaj Try.func28 (by kernel_rfl) (An:=[(0,⟨⟨[(15,.c (.i .i64))],[]⟩,⟨[],[]⟩,[14,13,0],[],1,true,""⟩),(8,⟨⟨[(32,.c (.i .i64)),(5,.c (.i .i64))],[]⟩,⟨[(5,.c (.i .i64))],[]⟩,[31,30,15],[],1,false,""⟩)]) [(54,kcv)] (.cons kbW <| .nil) (fun x=>by kernel_rfl)
def kcK (k:Nat):CtrM:=⟨ "",[some (.i .i64),some (.i .i64),none,none,none,none,none,none],⟨[(2,.ptr 0 0),(3,.ptr 1 0),(4,.ptr 3 0),(5,.ptr 4 0),(6,.ptr 6 0),(7,.ptr 7 0)],[(0,.bx 3 [.c (.i .i64)]),(1,.bx 23 [.mw 2]),(2,.sl 3 (.i .i64)),(3,.bx 3 [.c (.i .i64)]),(4,.bx 23 [.mw 5]),(5,.sl 3 (.i .i64)),(6,.bx 23 [.c (.sl (.i .i64))]),(7,.bx 133 [.fn 83 [.ptr 0 0,.ptr 1 0,.ptr 3 0,.ptr 4 0,.ptr 6 0,.ptr 7 0]])]⟩,8,⟨[(2,.ptr 0 0),(3,.ptr 1 0),(4,.ptr 3 0),(5,.ptr 4 0),(6,.ptr 6 0),(7,.ptr 7 0)],[(0,.bx 3 [.c (.i .i64)]),(1,.bx 23 [.mw 8]),(8,.sl 3 (.i .i64)),(3,.bx 3 [.c (.i .i64)]),(4,.bx 23 [.mw 9]),(9,.sl 3 (.i .i64)),(6,.bx 23 [.c (.sl (.i .i64))]),(7,.bx 133 [.fn 83 [.ptr 0 0,.ptr 1 0,.ptr 3 0,.ptr 4 0,.ptr 6 0,.ptr 7 0]])]⟩,10,0,fun x=>kam k x.1 x.2.1 x.2.2.1 x.2.2.2.1 x.2.2.2.2.1 x.2.2.2.2.2.1 x.2.2.2.2.2.2⟩
theorem kev:∀ k,(kcK k).ok=true∧GoodM Try.prog 83 (kcK k)
 | 0=>khI (by kernel_rfl) (fun x=>rfl)
 | k+1=>kaY Try.func83 (by kernel_rfl) (An:=[(77,⟨⟨[],[]⟩,⟨[(10,.c (.i .i64))],[]⟩,[1],[3,4,5,0,1,2,6,7],8,false,""⟩),(0,⟨⟨[(30,.c (.i .i64))],[(1,.bx 23 [.mw 2]),(2,.sl 3 (.i .i64)),(3,.bx 3 [.c (.i .i64)]),(7,.bx 133 [.fn 83 [.ptr 0 0,.ptr 1 0,.ptr 3 0,.ptr 4 0,.ptr 6 0,.ptr 7 0]]),(0,.bx 3 [.c (.i .i64)]),(4,.bx 23 [.mw 5]),(5,.sl 3 (.i .i64)),(6,.bx 23 [.c (.sl (.i .i64))])]⟩,⟨[],[(1,.bx 23 [.mw 9]),(9,.sl 3 (.i .i64)),(3,.bx 3 [.c (.i .i64)]),(7,.bx 133 [.fn 83 [.ptr 0 0,.ptr 1 0,.ptr 3 0,.ptr 4 0,.ptr 6 0,.ptr 7 0]]),(0,.bx 3 [.c (.i .i64)]),(4,.bx 23 [.mw 14]),(14,.sl 3 (.i .i64)),(6,.bx 23 [.c (.sl (.i .i64))])]⟩,[29,28,0,1],[],16,false,""⟩),(173,⟨⟨[],[(2,.sl 3 (.i .i64))]⟩,⟨[],[(2,.sl 3 (.i .i64))]⟩,[12,30],[1,7,0,3,4,5,6],9,false,""⟩)]) ((83,⟨ "",[],[],fun _=>none,[kcK k],[]⟩)::[(51,kfw)]) (.cons (good_dm.more (kev k)) <| .cons kfh <| .nil) (fun x=>by kernel_rfl)
def sort_chances_c1_m8_M:CtrM:=⟨ "",[some (.i .i64),some (.i .i64),none,none,none,none,none,none],⟨[(2,.ptr 0 0),(3,.ptr 1 0),(4,.ptr 3 0),(5,.ptr 4 0),(6,.ptr 6 0),(7,.ptr 7 0)],[(0,.bx 3 [.c (.i .i64)]),(1,.bx 23 [.mw 2]),(2,.sl 3 (.i .i64)),(3,.bx 3 [.c (.i .i64)]),(4,.bx 23 [.mw 5]),(5,.sl 3 (.i .i64)),(6,.bx 23 [.c (.sl (.i .i64))]),(7,.bx 133 [.fn 83 [.ptr 0 0,.ptr 1 0,.ptr 3 0,.ptr 4 0,.ptr 6 0,.ptr 7 0]])]⟩,8,⟨[(2,.ptr 0 0),(3,.ptr 1 0),(4,.ptr 3 0),(5,.ptr 4 0),(6,.ptr 6 0),(7,.ptr 7 0)],[(0,.bx 3 [.c (.i .i64)]),(1,.bx 23 [.mw 8]),(8,.sl 3 (.i .i64)),(3,.bx 3 [.c (.i .i64)]),(4,.bx 23 [.mw 9]),(9,.sl 3 (.i .i64)),(6,.bx 23 [.c (.sl (.i .i64))]),(7,.bx 133 [.fn 83 [.ptr 0 0,.ptr 1 0,.ptr 3 0,.ptr 4 0,.ptr 6 0,.ptr 7 0]])]⟩,10,0,fun x=>keb x.1 x.2.1 x.2.2.1 x.2.2.2.1 x.2.2.2.2.1 x.2.2.2.2.2.1 x.2.2.2.2.2.2⟩
theorem kgL:sort_chances_c1_m8_M.ok=true∧GoodM Try.prog 83 sort_chances_c1_m8_M:=kev 1000000
def sort_chances_c1_C:Ctr:=⟨ "",[],[],fun _=>none,[],[]⟩
theorem sort_chances_c1_C_ok:Good Try.prog 83 sort_chances_c1_C:=good_dm
def kfO:Ctr:=⟨ "",sort_chances_c1_C.as,sort_chances_c1_C.rs,sort_chances_c1_C.F,sort_chances_c1_m8_M::sort_chances_c1_C.mus,sort_chances_c1_C.its⟩
theorem khw:Good Try.prog 83 kfO:=sort_chances_c1_C_ok.more kgL
def khi:Ctr:=⟨ "",[(.sl (.i .i64)),(.i .i64)],[(.sl (.i .i64))],fun x=>keN x.1 x.2,[],[]⟩
theorem kjw:Good Try.prog 55 khi:=
 kaj Try.func55 (by kernel_rfl) (An:=[]) [(83,kfO)] (.cons khw <| .nil) (fun x=>by kernel_rfl)
def kfl:Ctr:=⟨ "",[(.sl (.sl (.i .i64))),(.i .i64),(.i .i64)],[(.sl (.i .i64)),(.i .i64)],fun x=>kcJ x.1 x.2.1 x.2.2,[],[]⟩
theorem kfZ:Good Try.prog 24 kfl:=
 kaj Try.func24 (by kernel_rfl) (An:=[]) [(55,khi),(28,kfW),(54,kcv)] (.cons kjw <| .cons khJ <| .cons kbW <| .nil) (fun x=>by kernel_rfl)
def kgQ:Ctr:=⟨ "",[(.sl (.i .i64)),(.i .i64)],[.b],fun x=>kig x.1 x.2,[],[]⟩
theorem kjb:Good Try.prog 65 kgQ:=
 kaj Try.func65 (by kernel_rfl) (An:=[]) [(54,kcv)] (.cons kbW <| .nil) (fun x=>by kernel_rfl)
def khm:Ctr:=⟨ "",[tPile,tPile],[(.i .i64)],fun x=>kgF x.1 x.2,[],[]⟩
theorem kjt:Good Try.prog 66 khm:=
 kaj Try.func66 (by kernel_rfl) (An:=[]) [(67,kgD)] (.cons kgU <| .nil) (fun x=>by kernel_rfl)
def kaA:Ctr:=⟨ "",[(.sl tPile),tPile,(.fn 2 (.pr tPile tPile) (.i .i64))],[(.i .i64),.b],fun x=>kaC x.1 x.2.1 x.2.2,[],[]⟩
theorem kbg:Good Try.prog 69 kaA:=
 kaj Try.func69 (by kernel_rfl) (An:=[(0,⟨⟨[(9,.c (.i .i64)),(10,.c (.i .i64))],[]⟩,⟨[(9,.c (.i .i64))],[]⟩,[2,0,4,8],[0],1,false,""⟩)]) [] (.nil) (fun x=>by kernel_rfl)
def slices_insertionSortCmpFunc_sort_pile_m9_M:CtrM:=⟨ "",[none,some (.i .i64),some (.i .i64),some (.fn 2 (.pr tPile tPile) (.i .i64))],⟨[(0,.mw 0)],[(0,.sl 114 tPile)]⟩,1,⟨[(0,.mw 0)],[(0,.sl 114 tPile)]⟩,1,0,fun x=>kaD x.1 x.2.1 x.2.2.1 x.2.2.2⟩
theorem kck:slices_insertionSortCmpFunc_sort_pile_m9_M.ok=true∧GoodM Try.prog 100 slices_insertionSortCmpFunc_sort_pile_m9_M:=
 kaY Try.func100 (by kernel_rfl) (An:=[(0,⟨⟨[(8,.c (.i .i64))],[(0,.sl 114 tPile)]⟩,⟨[],[(0,.sl 114 tPile)]⟩,[2,1,3],[],2,false,""⟩),(8,⟨⟨[(9,.c (.i .i64))],[(0,.sl 114 tPile)]⟩,⟨[],[(0,.sl 114 tPile)]⟩,[8],[],2,false,""⟩),(27,⟨⟨[],[]⟩,⟨[],[]⟩,[],[],0,false,""⟩)]) [] (.nil) (fun x=>by kernel_rfl)
def slices_insertionSortCmpFunc_sort_pile_C:Ctr:=⟨ "",[],[],fun _=>none,[],[]⟩
theorem slices_insertionSortCmpFunc_sort_pile_C_ok:Good Try.prog 100 slices_insertionSortCmpFunc_sort_pile_C:=good_dm
def kbf:Ctr:=⟨ "",slices_insertionSortCmpFunc_sort_pile_C.as,slices_insertionSortCmpFunc_sort_pile_C.rs,slices_insertionSortCmpFunc_sort_pile_C.F,slices_insertionSortCmpFunc_sort_pile_m9_M::slices_insertionSortCmpFunc_sort_pile_C.mus,slices_insertionSortCmpFunc_sort_pile_C.its⟩
theorem kcy:Good Try.prog 100 kbf:=slices_insertionSortCmpFunc_sort_pile_C_ok.more kck
def slices_swapRangeCmpFunc_sort_pile_m10_M:CtrM:=⟨ "",[none,some (.i .i64),some (.i .i64),some (.i .i64),some (.fn 2 (.pr tPile tPile) (.i .i64))],⟨[(0,.mw 0)],[(0,.sl 114 tPile)]⟩,1,⟨[(0,.mw 0)],[(0,.sl 114 tPile)]⟩,1,0,fun x=>kav x.1 x.2.1 x.2.2.1 x.2.2.2.1 x.2.2.2.2⟩
theorem kcI:slices_swapRangeCmpFunc_sort_pile_m10_M.ok=true∧GoodM Try.prog 109 slices_swapRangeCmpFunc_sort_pile_m10_M:=
 kaY Try.func109 (by kernel_rfl) (An:=[(0,⟨⟨[(10,.c (.i .i64))],[(0,.sl 114 tPile)]⟩,⟨[],[(0,.sl 114 tPile)]⟩,[3,1,2],[],2,false,""⟩),(15,⟨⟨[],[]⟩,⟨[],[]⟩,[],[],0,false,""⟩)]) [] (.nil) (fun x=>by kernel_rfl)
def slices_swapRangeCmpFunc_sort_pile_C:Ctr:=⟨ "",[],[],fun _=>none,[],[]⟩
theorem slices_swapRangeCmpFunc_sort_pile_C_ok:Good Try.prog 109 slices_swapRangeCmpFunc_sort_pile_C:=good_dm
def kbr:Ctr:=⟨ "",slices_swapRangeCmpFunc_sort_pile_C.as,slices_swapRangeCmpFunc_sort_pile_C.rs,slices_swapRangeCmpFunc_sort_pile_C.F,slices_swapRangeCmpFunc_sort_pile_m10_M::slices_swapRangeCmpFunc_sort_pile_C.mus,slices_swapRangeCmpFunc_sort_pile_C.its⟩
theorem kda:Good Try.prog 109 kbr:=slices_swapRangeCmpFunc_sort_pile_C_ok.more kcI
def slices_rotateCmpFunc_sort_pile_m11_M:CtrM:=⟨ "",[none,some (.i .i64),some (.i .i64),some (.i .i64),some (.fn 2 (.pr tPile tPile) (.i .i64))],⟨[(0,.mw 0)],[(0,.sl 114 tPile)]⟩,1,⟨[(0,.mw 0)],[(0,.sl 114 tPile)]⟩,1,0,fun x=>kbG x.1 x.2.1 x.2.2.1 x.2.2.2.1 x.2.2.2.2⟩
theorem kdg:slices_rotateCmpFunc_sort_pile_m11_M.ok=true∧GoodM Try.prog 107 slices_rotateCmpFunc_sort_pile_m11_M:=
 kaY Try.func107 (by kernel_rfl) (An:=[(0,⟨⟨[(10,.c (.i .i64)),(11,.c (.i .i64))],[(0,.sl 114 tPile)]⟩,⟨[(10,.c (.i .i64))],[(0,.sl 114 tPile)]⟩,[2,4],[],2,false,""⟩)]) [(109,kbr)] (.cons kda <| .nil) (fun x=>by kernel_rfl)
def slices_rotateCmpFunc_sort_pile_C:Ctr:=⟨ "",[],[],fun _=>none,[],[]⟩
theorem slices_rotateCmpFunc_sort_pile_C_ok:Good Try.prog 107 slices_rotateCmpFunc_sort_pile_C:=good_dm
def kbH:Ctr:=⟨ "",slices_rotateCmpFunc_sort_pile_C.as,slices_rotateCmpFunc_sort_pile_C.rs,slices_rotateCmpFunc_sort_pile_C.F,slices_rotateCmpFunc_sort_pile_m11_M::slices_rotateCmpFunc_sort_pile_C.mus,slices_rotateCmpFunc_sort_pile_C.its⟩
theorem kdK:Good Try.prog 107 kbH:=slices_rotateCmpFunc_sort_pile_C_ok.more kdg
def kaF (k:Nat):CtrM:=⟨ "",[none,some (.i .i64),some (.i .i64),some (.i .i64),some (.fn 2 (.pr tPile tPile) (.i .i64))],⟨[(0,.mw 0)],[(0,.sl 114 tPile)]⟩,1,⟨[(0,.mw 0)],[(0,.sl 114 tPile)]⟩,1,0,fun x=>kaI k x.1 x.2.1 x.2.2.1 x.2.2.2.1 x.2.2.2.2⟩
theorem kbh:∀ k,(kaF k).ok=true∧GoodM Try.prog 101 (kaF k)
 | 0=>khI (by kernel_rfl) (fun x=>rfl)
 | k+1=>kaY Try.func101 (by kernel_rfl) (An:=[(0,⟨⟨[(10,.c (.i .i64)),(11,.c (.i .i64))],[]⟩,⟨[(10,.c (.i .i64))],[]⟩,[4,1],[0],1,false,""⟩),(8,⟨⟨[(13,.c (.i .i64))],[(0,.sl 114 tPile)]⟩,⟨[],[(0,.sl 114 tPile)]⟩,[10],[],2,false,""⟩),(47,⟨⟨[],[]⟩,⟨[],[]⟩,[],[],0,false,""⟩),(16,⟨⟨[(14,.c (.i .i64)),(15,.c (.i .i64))],[]⟩,⟨[(14,.c (.i .i64))],[]⟩,[4,2],[0],1,false,""⟩),(24,⟨⟨[(17,.c (.i .i64))],[(0,.sl 114 tPile)]⟩,⟨[],[(0,.sl 114 tPile)]⟩,[14],[],2,false,""⟩),(95,⟨⟨[],[]⟩,⟨[],[]⟩,[],[],0,false,""⟩),(561,⟨⟨[],[]⟩,⟨[(20,.c (.i .i64)),(21,.c (.i .i64))],[]⟩,[19,3,18,4,2,1],[0],1,false,""⟩),(32,⟨⟨[(20,.c (.i .i64)),(21,.c (.i .i64))],[]⟩,⟨[(20,.c (.i .i64))],[]⟩,[4,22,19,2,1,18,3],[0],1,false,""⟩),(158,⟨⟨[],[]⟩,⟨[(185,.c .b)],[]⟩,[20,2,24,4,1,18,3],[0],1,false,""⟩),(741,⟨⟨[],[(0,.sl 114 tPile)]⟩,⟨[],[(0,.sl 114 tPile)]⟩,[20,2,24,4,1,18,3],[],2,false,""⟩),(166,⟨⟨[],[]⟩,⟨[(199,.c .b)],[]⟩,[1,20,18,4,24,3],[0],2,false,""⟩),(797,⟨⟨[],[(0,.sl 114 tPile)]⟩,⟨[],[(0,.sl 114 tPile)]⟩,[1,20,18,4,24,3],[],3,false,""⟩)]) ((101,⟨ "",[],[],fun _=>none,[kaF k],[]⟩)::[(107,kbH)]) (.cons (good_dm.more (kbh k)) <| .cons kdK <| .nil) (fun x=>by kernel_rfl)
def slices_symMergeCmpFunc_sort_pile_m12_M:CtrM:=⟨ "",[none,some (.i .i64),some (.i .i64),some (.i .i64),some (.fn 2 (.pr tPile tPile) (.i .i64))],⟨[(0,.mw 0)],[(0,.sl 114 tPile)]⟩,1,⟨[(0,.mw 0)],[(0,.sl 114 tPile)]⟩,1,0,fun x=>kaQ x.1 x.2.1 x.2.2.1 x.2.2.2.1 x.2.2.2.2⟩
theorem kcQ:slices_symMergeCmpFunc_sort_pile_m12_M.ok=true∧GoodM Try.prog 101 slices_symMergeCmpFunc_sort_pile_m12_M:=kbh 1000000
def slices_symMergeCmpFunc_sort_pile_C:Ctr:=⟨ "",[],[],fun _=>none,[],[]⟩
theorem slices_symMergeCmpFunc_sort_pile_C_ok:Good Try.prog 101 slices_symMergeCmpFunc_sort_pile_C:=good_dm
def kbw:Ctr:=⟨ "",slices_symMergeCmpFunc_sort_pile_C.as,slices_symMergeCmpFunc_sort_pile_C.rs,slices_symMergeCmpFunc_sort_pile_C.F,slices_symMergeCmpFunc_sort_pile_m12_M::slices_symMergeCmpFunc_sort_pile_C.mus,slices_symMergeCmpFunc_sort_pile_C.its⟩
theorem kdo:Good Try.prog 101 kbw:=slices_symMergeCmpFunc_sort_pile_C_ok.more kcQ
def slices_stableCmpFunc_sort_pile_m13_M:CtrM:=⟨ "",[none,some (.i .i64),some (.fn 2 (.pr tPile tPile) (.i .i64))],⟨[(0,.mw 0)],[(0,.sl 114 tPile)]⟩,1,⟨[(0,.mw 0)],[(0,.sl 114 tPile)]⟩,1,0,fun x=>kbJ x.1 x.2.1 x.2.2⟩
theorem kdk:slices_stableCmpFunc_sort_pile_m13_M.ok=true∧GoodM Try.prog 94 slices_stableCmpFunc_sort_pile_m13_M:=
 kaY Try.func94 (by kernel_rfl) (An:=[(0,⟨⟨[(8,.c (.i .i64)),(7,.c (.i .i64))],[(0,.sl 114 tPile)]⟩,⟨[(7,.c (.i .i64))],[(0,.sl 114 tPile)]⟩,[1,2,6],[],2,false,""⟩),(8,⟨⟨[(6,.c (.i .i64))],[(0,.sl 114 tPile)]⟩,⟨[],[(0,.sl 114 tPile)]⟩,[1,2],[],3,false,""⟩),(16,⟨⟨[(8,.c (.i .i64)),(7,.c (.i .i64))],[(0,.sl 114 tPile)]⟩,⟨[(7,.c (.i .i64))],[(0,.sl 114 tPile)]⟩,[6],[],3,false,""⟩)]) [(101,kbw),(100,kbf)] (.cons kdo <| .cons kcy <| .nil) (fun x=>by kernel_rfl)
def slices_stableCmpFunc_sort_pile_C:Ctr:=⟨ "",[],[],fun _=>none,[],[]⟩
theorem slices_stableCmpFunc_sort_pile_C_ok:Good Try.prog 94 slices_stableCmpFunc_sort_pile_C:=good_dm
def kbL:Ctr:=⟨ "",slices_stableCmpFunc_sort_pile_C.as,slices_stableCmpFunc_sort_pile_C.rs,slices_stableCmpFunc_sort_pile_C.F,slices_stableCmpFunc_sort_pile_m13_M::slices_stableCmpFunc_sort_pile_C.mus,slices_stableCmpFunc_sort_pile_C.its⟩
theorem kdM:Good Try.prog 94 kbL:=slices_stableCmpFunc_sort_pile_C_ok.more kdk
def slices_SortStableFunc_s_sort_pile_sort_pile_m14_M:CtrM:=⟨ "",[none,some (.fn 2 (.pr tPile tPile) (.i .i64))],⟨[(0,.mw 0)],[(0,.sl 114 tPile)]⟩,1,⟨[(0,.mw 0)],[(0,.sl 114 tPile)]⟩,1,0,fun x=>kaS x.1 x.2⟩
theorem kbE:slices_SortStableFunc_s_sort_pile_sort_pile_m14_M.ok=true∧GoodM Try.prog 87 slices_SortStableFunc_s_sort_pile_sort_pile_m14_M:=
 kaY Try.func87 (by kernel_rfl) (An:=[]) [(94,kbL)] (.cons kdM <| .nil) (fun x=>by kernel_rfl)
def slices_SortStableFunc_s_sort_pile_sort_pile_C:Ctr:=⟨ "",[],[],fun _=>none,[],[]⟩
theorem slices_SortStableFunc_s_sort_pile_sort_pile_C_ok:Good Try.prog 87 slices_SortStableFunc_s_sort_pile_sort_pile_C:=good_dm
def kaT:Ctr:=⟨ "",slices_SortStableFunc_s_sort_pile_sort_pile_C.as,slices_SortStableFunc_s_sort_pile_sort_pile_C.rs,slices_SortStableFunc_s_sort_pile_sort_pile_C.F,slices_SortStableFunc_s_sort_pile_sort_pile_m14_M::slices_SortStableFunc_s_sort_pile_sort_pile_C.mus,slices_SortStableFunc_s_sort_pile_sort_pile_C.its⟩
theorem kbQ:Good Try.prog 87 kaT:=slices_SortStableFunc_s_sort_pile_sort_pile_C_ok.more kbE
def sort_ordered_sort_pile_m15_M:CtrM:=⟨ "",[none,some (.fn 2 (.pr tPile tPile) (.i .i64))],⟨[(0,.mw 0)],[(0,.sl 114 tPile)]⟩,1,⟨[(0,.mw 0),(1000000,.mw 0)],[(0,.sl 114 tPile)]⟩,1,1,fun x=>kdn x.1 x.2⟩
theorem keI:sort_ordered_sort_pile_m15_M.ok=true∧GoodM Try.prog 68 sort_ordered_sort_pile_m15_M:=
 kaY Try.func68 (by kernel_rfl) (An:=[]) [(87,kaT)] (.cons kbQ <| .nil) (fun x=>by kernel_rfl)
def sort_ordered_sort_pile_C:Ctr:=⟨ "",[],[],fun _=>none,[],[]⟩
theorem sort_ordered_sort_pile_C_ok:Good Try.prog 68 sort_ordered_sort_pile_C:=good_dm
def kdq:Ctr:=⟨ "",sort_ordered_sort_pile_C.as,sort_ordered_sort_pile_C.rs,sort_ordered_sort_pile_C.F,sort_ordered_sort_pile_m15_M::sort_ordered_sort_pile_C.mus,sort_ordered_sort_pile_C.its⟩
theorem kfb:Good Try.prog 68 kdq:=sort_ordered_sort_pile_C_ok.more keI
def kjN:Ctr:=⟨ "",[(.sl (.i .i64)),(.i .i64)],[(.sl (.i .i64)),(.i .i64),(.i .i64)],fun x=>kmm x.1 x.2,[],[]⟩
theorem klt:Good Try.prog 36 kjN:=
 kaj Try.func36 (by kernel_rfl) (An:=[(0,⟨⟨[(28,.c (.i .i64)),(7,.mw 1)],[(1,.sl 114 tPile)]⟩,⟨[(7,.mw 2)],[(2,.sl 114 tPile)]⟩,[27,26,1,0],[],3,false,""⟩),(8,⟨⟨[(7,.mw 2)],[(2,.sl 114 tPile)]⟩,⟨[(7,.mw 3)],[(3,.sl 114 tPile)]⟩,[1,0],[],4,false,""⟩),(16,⟨⟨[(7,.mw 3),(10,.mw 4),(11,.c (.i .i64))],[(3,.sl 114 tPile),(4,.sl 3 (.i .i64))]⟩,⟨[(10,.mw 5),(11,.c (.i .i64))],[(5,.sl 3 (.i .i64))]⟩,[1,12],[],6,false,""⟩),(24,⟨⟨[(65,.c (.i .i64)),(13,.ptr 6 0)],[(6,.bx 114 [.c (.i .i64),.mw 5]),(5,.sl 3 (.i .i64))]⟩,⟨[(13,.ptr 7 0)],[(7,.bx 114 [.c (.i .i64),.mw 8]),(8,.sl 3 (.i .i64))]⟩,[64,63,10,11,7],[4,3],9,false,""⟩),(32,⟨⟨[(85,.c (.i .i64)),(10,.mw 4)],[(4,.sl 3 (.i .i64))]⟩,⟨[(10,.mw 9)],[(9,.sl 3 (.i .i64))]⟩,[84,83,11,13,7],[8,7,3],10,false,""⟩)]) [(68,kdq),(69,kaA),(66,khm),(65,kgQ)] (.cons kfb <| .cons kbg <| .cons kjt <| .cons kjb <| .nil) (fun x=>by kernel_rfl)
def kfV:Ctr:=⟨ "",[(.sl (.pr (.i .i64) (.pr (.i .i64) (.i .i64)))),(.sl (.pr (.i .i64) (.pr (.i .i64) (.i .i64))))],[.b],fun x=>keO x.1 x.2,[],[]⟩
theorem khZ:Good Try.prog 33 kfV:=
 kaj Try.func33 (by kernel_rfl) (An:=[(0,⟨⟨[(5,.c (.i .i64))],[]⟩,⟨[],[]⟩,[0,1],[],0,true,""⟩)]) [] (.nil) (fun x=>by kernel_rfl)
def kfG:Ctr:=⟨ "",[(.sl (.pr (.i .i64) (.pr (.i .i64) .b))),(.sl (.pr (.i .i64) (.pr (.i .i64) .b)))],[.b],fun x=>kgu x.1 x.2,[],[]⟩
theorem khp:Good Try.prog 43 kfG:=
 kaj Try.func43 (by kernel_rfl) (An:=[(0,⟨⟨[(5,.c (.i .i64))],[]⟩,⟨[],[]⟩,[0,1],[],0,true,""⟩)]) [] (.nil) (fun x=>by kernel_rfl)
def keD:Ctr:=⟨ "",[(.sl (.i .i64)),(.sl (.i .i64))],[.b],fun x=>kcM x.1 x.2,[],[]⟩
theorem kfd:Good Try.prog 30 keD:=
 kaj Try.func30 (by kernel_rfl) (An:=[(0,⟨⟨[(5,.c (.i .i64))],[]⟩,⟨[],[]⟩,[0,1],[],0,true,""⟩)]) [] (.nil) (fun x=>by kernel_rfl)
def khk:Ctr:=⟨ "",[],[.b],fun x=>kiU,[],[]⟩
theorem kju:Good Try.prog 44 khk:=
 kaj Try.func44 (by kernel_rfl) (An:=[]) [(30,keD),(43,kfG),(33,kfV),(36,kjN),(24,kfl),(79,kic),(41,kii),(39,kjD),(78,kjB),(77,kiI)] (.cons kfd <| .cons khp <| .cons khZ <| .cons klt <| .cons kfZ <| .cons kkm <| .cons kku <| .cons klw <| .cons klG <| .cons klk <| .nil) (fun x=>by kernel_rfl)
def kie:Ctr:=⟨ "",[],[.b],fun x=>law09_alive,[],[]⟩
theorem kkc:Good Try.prog 44 kie:=by
 have h:=kju
 unfold khk at h
 rw [kqZ] at h
 exact h
def kiN:Ctr:=⟨ "",[(.sl (.sl (.i .i64)))],[.b],fun x=>kga x,[],[]⟩
theorem kkO:Good Try.prog 22 kiN:=
 kaj Try.func22 (by kernel_rfl) (An:=[(0,⟨⟨[(7,.c (.i .i64))],[]⟩,⟨[],[]⟩,[6,5,0],[],0,true,""⟩)]) [] (.nil) (fun x=>by kernel_rfl)
def kij:Ctr:=⟨ "",[(.sl (.sl (.i .i64))),(.i .i64)],[.b],fun x=>kfB x.1 x.2,[],[]⟩
theorem kkj:Good Try.prog 23 kij:=
 kaj Try.func23 (by kernel_rfl) (An:=[]) [] (.nil) (fun x=>by kernel_rfl)
def kjv:Ctr:=⟨ "",[(.sl (.sl (.i .i64))),(.i .i64),(.i .i64)],[.b],fun x=>keQ x.1 x.2.1 x.2.2,[],[]⟩
theorem law09_SortWhole_C_ok:Good Try.prog 10 kjv:=
 kaj Try.func10 (by kernel_rfl) (An:=[(26,⟨⟨[],[]⟩,⟨[(6,.c .b)],[]⟩,[7,8],[],0,false,""⟩),(0,⟨⟨[(45,.c (.i .i64)),(11,.c (.i .i64))],[]⟩,⟨[(11,.c (.i .i64))],[]⟩,[44,8,10,0,1,7],[],0,false,""⟩),(8,⟨⟨[(52,.c (.i .i64)),(10,.c (.i .i64))],[]⟩,⟨[(10,.c (.i .i64))],[]⟩,[51,50,0,1,7,11,8],[],0,true,""⟩)]) [(23,kij),(22,kiN),(44,kie),(30,keD),(24,kfl)] (.cons kkj <| .cons kkO <| .cons kkc <| .cons kfd <| .cons kfZ <| .nil) (fun x=>by kernel_rfl)
end Go.Abs
namespace Go.Abs
open Go
def kel (x0:(List Int)) (x1:Int) (v0:(Int×Int)):Option ((Int×Int)⊕Int):=
 (if (decide (v0.1<(lenI x0)))=true then ((gi x0 v0.1).bind fun v1=>(if (v1==x1)=true then (some (.inl ((w64 (v0.1+1)),(w64 (v0.2+1))))) else (some (.inl ((w64 (v0.1+1)),v0.2))))) else (some (.inr v0.2)))
def khf (x0:(List Int)) (x1:Int):Option Int:=
 ((iter (kel x0 x1) (0,0)).bind fun v2=>(some v2))
def kdh (x0:(List Int)) (v0:(Int×Int×Int×Bool)):Option ((Int×Int×Int×Bool)⊕(Int×Bool×Int)):=
 (if (decide (v0.1<16))=true then ((khf x0 v0.1).bind fun v1=>(if (decide (v0.2.1<v1))=true then (some (.inl ((w64 (v0.1+1)),v1,v0.1,false))) else (if (v1==v0.2.1)=true then (some (.inl ((w64 (v0.1+1)),v0.2.1,v0.2.2.1,true))) else (some (.inl ((w64 (v0.1+1)),v0.2)))))) else (some (.inr (v0.2.1,v0.2.2.2,v0.2.2.1))))
def kkW (x0:(List Int)):Option Int:=
 ((iter (kdh x0) (0,0,(-1),false)).bind fun v2=>(if (v2.1==0)=true then (some (-1)) else (if v2.2.1=true then (some (-1)) else (some v2.2.2))))
end Go.Abs
namespace Go.Abs
open Go
theorem koj (l:List Int) (hl:l.length≤100000) (p:Int→Bool):kaN l (fun x=>some (p x))=some (l.any p):=by
 unfold kaN kbD
 rw [kkU (F:=kaO l _) l (by omega) (fun i x=>if p x then some (i:Int) else none) (fun i hi=>by
  unfold kaO
  rw [if_pos (lenI_lt.2 hi),kbA hi,kca (by omega)]
  simp only [Option.bind_some]
  by_cases h:p l[i]=true <;> simp [h,nextL]) (by unfold kaO; rw [if_neg kcm])]
 have:∀ (l:List Int) (k:Nat),endL ((l.zipIdx k).findSome? fun x=>if p x.1 then some (x.2:Int) else none)=(if l.any p then .inl ((k:Int)+(l.findIdx p:Nat)) else .inr ()):=by
  intro l
  induction l with
  | nil=>intro k; rfl
  | cons x l ih=>
   intro k
   rw [List.zipIdx_cons,List.findSome?_cons,List.any_cons,List.findIdx_cons]
   cases hp:p x with
   | true=>simp [endL]
   | false=>
    simp only [Bool.false_eq_true,if_false,Bool.false_or,cond_false]
    rw [ih (k+1)]
    congr 2; push_cast; omega
 rw [this l 0]
 by_cases h:l.any p=true <;> simp [h]
theorem kdW (lo hi:Int) (l:List Int) (hl:l.length≤100000):kaq lo hi l=some (l.all (wi lo hi)):=by
 unfold kaq
 have e:(fun u0:Int=>(keW u0 lo hi).bind fun u1=>some u1)=fun u=>some (!wi lo hi u):=by
  funext u
  unfold keW wi
  by_cases h1:u<lo <;> by_cases h2:hi<u <;> simp [h1,h2] <;> omega
 rw [e,koj l hl,krF]
 simp
@[simp] theorem from1 (lo hi n:Int):kaq lo hi [n]=some (wi lo hi n):=by rw [kdW lo hi [n] (by simp)]; simp
def kaz (k:Int) (l:List Int):Int:=(l.countP fun x=>x==k:Nat)
theorem kjQ (k x:Int) (l:List Int):kaz k (l++[x])=kaz k l+if x=k then 1 else 0:=by
 unfold kaz; rw [List.countP_append]; by_cases h:x=k <;> simp [h]
theorem kit (k:Int) (l:List Int):0≤kaz k l∧kaz k l≤l.length:=by
 unfold kaz; have:=List.countP_le_length (p:=fun x=>x==k) (l:=l); omega
theorem kng (l:List Int) (kind:Int) (hl:(l.length:Int)≤1000):∀ k i:Nat,i+k=l.length→itN (kel l kind) (k+1) ((i:Int),kaz kind (l.take i))=some (kaz kind l)
 | 0,i,h=>kcw (by
  have:i=l.length:=by omega
  subst this
  unfold kel; rw [if_neg kcm,List.take_length])
 | k+1,i,h=>by
  have hi:i<l.length:=by omega
  have hv:=kit kind (l.take i)
  have hs:=kjQ kind l[i] (l.take i)
  rw [List.take_append_getElem hi] at hs
  simp only [List.length_take] at hv
  rw [←kng l kind hl k (i+1) (by omega)]
  apply keX
  unfold kel
  rw [if_pos (lenI_lt.2 hi),kbA hi,kca (by omega),kbI (by omega) (by omega)]
  simp only [Option.bind_some]
  by_cases hk:l[i]=kind
  ·rw [if_pos (by simpa using hk),hs,if_pos hk]
  ·rw [if_neg (by simpa using hk),hs,if_neg hk,Int.add_zero]
theorem kqF (l:List Int) (kind:Int) (hl:(l.length:Int)≤1000):khf l kind=some (kaz kind l):=by
 unfold khf
 have:=kng l kind hl l.length 0 (by omega)
 simp only [List.take_zero,Int.natCast_zero] at this
 rw [show kaz kind []=0 from rfl] at this
 rw [keG this (by omega)]; rfl
def scanF (v:Int→Int):Nat→Int→Int→Int→Int×Int
 | 0,_,b,m=>(b,m)
 | k+1,x,b,m=>if m<v x then scanF v k (x+1) x (v x) else if v x=m then scanF v k (x+1) (-1) m else scanF v k (x+1) b m
def seenR (l:List Int):Int:=(scanF (fun k=>kaz k l) 16 0 (-1) 0).1
theorem scan0 (v:Int→Int) (hv:∀ k,0≤v k):∀ k x b m,0≤m→(m=0→b = -1)→((scanF v k x b m).2=0→(scanF v k x b m).1 = -1)
 | 0,x,b,m,_,h=>h
 | k+1,x,b,m,hm,h=>by
  simp only [scanF]
  split
  ·exact scan0 v hv k _ _ _ (hv x) (fun e=>by omega)
  ·split
   ·exact scan0 v hv k _ _ _ hm (fun _=>rfl)
   ·exact scan0 v hv k _ _ _ hm h
theorem kjm (l:List Int) (hl:(l.length:Int)≤1000):∀ (k:Nat) (x b m:Int) (e:Bool),0≤x→x+k=16→∃ b' m' e',itN (kdh l) (k+1) (x,m,b,e)=some (m',e',b')∧scanF (fun k=>kaz k l) k x (if e then -1 else b) m=(if e' then -1 else b',m')
 | 0,x,b,m,e,h0,h=>⟨b,m,e,kcw (by unfold kdh; rw [if_neg (by simp; omega)]),rfl⟩
 | k+1,x,b,m,e,h0,h=>by
  have hgo:kdh l (x,m,b,e)=some (.inl (x+1,if m<kaz x l then (kaz x l,x,false) else if kaz x l=m then (m,b,true) else (m,b,e))):=by
   unfold kdh
   rw [if_pos (by simp; omega),kqF l x hl]
   simp only [Option.bind_some,decide_eq_true_eq,beq_iff_eq]
   rw [kbI (by omega) (by omega)]
   by_cases h1:m<kaz x l
   ·rw [if_pos h1,if_pos h1]
   ·rw [if_neg h1,if_neg h1]
    by_cases h2:kaz x l=m
    ·rw [if_pos h2,if_pos h2]
    ·rw [if_neg h2,if_neg h2]
  rw [keX hgo]
  simp only [scanF]
  by_cases h1:m<kaz x l
  ·rw [if_pos h1,if_pos h1]; exact kjm l hl k (x+1) x (kaz x l) false (by omega) (by omega)
  ·rw [if_neg h1,if_neg h1]
   by_cases h2:kaz x l=m
   ·rw [if_pos h2,if_pos h2]; exact kjm l hl k (x+1) b m true (by omega) (by omega)
   ·rw [if_neg h2,if_neg h2]; exact kjm l hl k (x+1) b m e (by omega) (by omega)
theorem ksl (l:List Int) (hl:(l.length:Int)≤1000):kkW l=some (seenR l):=by
 unfold kkW seenR
 obtain ⟨b,m,e,h1,h2⟩:=kjm l hl 16 0 (-1) 0 false (by omega) (by omega)
 simp only [Bool.false_eq_true,if_false] at h2
 have h3:=scan0 (fun k=>kaz k l) (fun k=>(kit k l).1) 16 0 (-1) 0 (by omega) (fun _=>rfl)
 rw [h2] at h3
 rw [keG h1 (by omega),h2]
 simp only [Option.bind_some]
 simp only at h3
 by_cases hm:m=0
 ·rw [h3 hm]; simp [hm]
 ·cases e <;> simp [hm]
def tally (v:Int→Int):Arr 16 Int:=⟨(List.range 16).map fun (k:Nat)=>v (k:Int),by simp⟩
theorem kla (v:Int→Int) {x:Int} (h0:0≤x) (h1:x≤15):garr (tally v) x=some (v x):=by
 unfold garr gi tally
 rw [if_pos h0,List.getElem?_map,List.getElem?_range (by omega)]
 simp [Int.toNat_of_nonneg h0]
theorem klP {n:Nat} {α:Type} {a b:Arr n α} (h:a.l=b.l):a=b:=by cases a; cases b; simp only at h; subst h; rfl
theorem kpF (v:Int→Int) {x:Int} (h0:0≤x) (h1:x≤15) (c:Int):aset (tally v) x c=tally fun k=>if k=x then c else v k:=by
 apply klP
 apply List.ext_getElem?
 intro j
 unfold tally aset
 simp only
 rw [List.getElem?_set]
 by_cases hj:x.toNat=j
 ·subst hj
  simp [List.getElem?_range,show x.toNat<16 by omega,Int.toNat_of_nonneg h0]
 ·rw [if_neg hj]
  by_cases hj2:j<16
  ·simp only [List.getElem?_map,List.getElem?_range hj2,Option.map_some]
   rw [if_neg (by omega)]
  ·simp [show ¬ j<16 from hj2]
theorem kph (l:List Int) (hl:(l.length:Int)≤1000) (hx:∀ x∈l,x≤15):∀ k i:Nat,i+k=l.length→itN (keK l) (k+1) ((i:Int),tally fun x=>kaz x (l.take i))=some (tally fun x=>kaz x l)
 | 0,i,h=>kcw (by
  have:i=l.length:=by omega
  subst this
  unfold keK; rw [if_neg kcm,List.take_length])
 | k+1,i,h=>by
  have hi:i<l.length:=by omega
  have hs:=fun x=>kjQ x l[i] (l.take i)
  simp only [List.take_append_getElem hi] at hs
  have hl15:=hx l[i] (List.getElem_mem hi)
  rw [←kph l hl hx k (i+1) (by omega)]
  apply keX
  unfold keK
  rw [if_pos (lenI_lt.2 hi),kbA hi,kca (by omega)]
  simp only [Option.bind_some,decide_eq_true_eq]
  by_cases h0:0≤l[i]
  ·have hv:=kit l[i] (l.take i)
   simp only [List.length_take] at hv
   rw [if_pos h0,kla _ h0 hl15]
   simp only [Option.bind_some]
   rw [kbI (by omega) (by omega),kpF _ h0 hl15]
   congr 4
   funext x
   rw [hs]
   by_cases hxx:x=l[i]
   ·simp [hxx]
   ·simp [hxx,show ¬ l[i]=x from fun e=>hxx e.symm]
  ·rw [if_neg h0]
   congr 3
   apply klP
   unfold tally
   simp only
   apply List.map_congr_left
   intro j _
   show kaz _ _=kaz _ _
   rw [hs,if_neg (by omega)]; simp
theorem kjo (v:Int→Int):∀ (k:Nat) (x b m:Int),0≤x→x+k=16→itN (kej (tally v)) (k+1) (x,m,b)=some (scanF v k x b m).1
 | 0,x,b,m,_,_=>kcw (by unfold kej; rw [if_neg (by simp; omega)]; rfl)
 | k+1,x,b,m,h0,h=>by
  have hgo:kej (tally v) (x,m,b)=some (.inl (x+1,if m<v x then (v x,x) else if v x=m then (m,-1) else (m,b))):=by
   unfold kej
   rw [if_pos (by simp; omega),kla v h0 (by omega)]
   simp only [Option.bind_some,decide_eq_true_eq,beq_iff_eq]
   rw [kbI (by omega) (by omega)]
   by_cases h1:m<v x
   ·rw [if_pos h1,if_pos h1]
   ·rw [if_neg h1,if_neg h1]
    by_cases h2:v x=m
    ·rw [if_pos h2,if_pos h2]
    ·rw [if_neg h2,if_neg h2]
  rw [keX hgo]
  simp only [scanF]
  by_cases h1:m<v x
  ·rw [if_pos h1,if_pos h1]; exact kjo v k _ _ _ (by omega) (by omega)
  ·rw [if_neg h1,if_neg h1]
   by_cases h2:v x=m
   ·rw [if_pos h2,if_pos h2]; exact kjo v k _ _ _ (by omega) (by omega)
   ·rw [if_neg h2,if_neg h2]; exact kjo v k _ _ _ (by omega) (by omega)
theorem kri (l:List Int) (hl:(l.length:Int)≤1000) (hx:∀ x∈l,x≤15):keF l=some (seenR l):=by
 unfold keF seenR
 have:=kph l hl hx l.length 0 (by omega)
 simp only [List.take_zero,Int.natCast_zero] at this
 rw [show (tally fun x=>kaz x [])=amk 16 0 from klP rfl] at this
 rw [keG this (by omega)]
 simp only [Option.bind_some]
 rw [keG (kjo _ 16 0 (-1) 0 (by omega) (by omega)) (by omega)]
 rfl
def idxF {α:Type} (p:α→Bool):List α→Int→Int
 | [],_=>-1
 | x::r,i=>if p x then i else idxF p r (i+1)
def ksc (b:Belt) (bin:Int):Int:=idxF (fun g=>g.2==bin) b.2.2.2.1 0
end Go.Abs
namespace Go.Abs
open Go
theorem knj {α β:Type} {F:α→Option (α⊕β)} (I:α→Prop) (m:α→Nat) (R:β→Prop)
  (h:∀ x,I x→(∃ z,F x=some (.inr z)∧R z)∨∃ y,F x=some (.inl y)∧I y∧m y<m x) (x:α) (hx:I x) (hm:m x<18446744073709551616):∃ z,iter F x=some z∧R z:=by
 have:∀ n x,I x→m x<n→∃ z,itN F n x=some z∧R z:=by
  intro n
  induction n with
  | zero=>intro x _ h0; omega
  | succ n ih=>
   intro x hx hm
   rcases h x hx with ⟨z,e,hz⟩ | ⟨y,e,hy,hlt⟩
   ·exact ⟨z,kcw e,hz⟩
   ·rw [keX e]; exact ih y hy (by omega)
 obtain ⟨z,e,hz⟩:=this 18446744073709551616 x hx hm
 exact ⟨z,keG e (Nat.le_refl _),hz⟩
abbrev Sw:=Int×Int×Bool
end Go.Abs
namespace Go.Abs
open Go
def gg (l:List Sw) (k:Nat):Sw:=(l[k]?).getD (0,0,false)
structure COk (cmp:Sw×Sw→Option Int) (le:Sw→Sw→Prop):Prop where
 c:∀ x y,∃ v,cmp (x,y)=some v∧(v<0↔¬ le y x)
 tr:∀ x y z,le x y→le y z→le x z
 tot:∀ x y,le x y∨le y x
section
variable {cmp:Sw×Sw→Option Int} {le:Sw→Sw→Prop} (ok:COk cmp le)
include ok
end
end Go.Abs
namespace Go.Abs
open Go
section
variable {cmp:Sw×Sw→Option Int} {le:Sw→Sw→Prop} (ok:COk cmp le)
include ok
end
end Go.Abs
namespace Go.Abs
open Go
section
variable {cmp:Sw×Sw→Option Int} {le:Sw→Sw→Prop} (ok:COk cmp le)
include ok
end
end Go.Abs
namespace Go.Abs
open Go
section
variable {cmp:Sw×Sw→Option Int} {le:Sw→Sw→Prop} (ok:COk cmp le)
include ok
end
end Go.Abs
namespace Go.Abs
open Go
def ksa (x t:Sw):Bool:=decide (t.1<x.1)||(t.1==x.1&&decide (t.2.1<x.2.1))
end Go.Abs
namespace Go.Abs
open Go
structure kir (b:Belt):Prop where
 l0:2≤b.1
 l1:b.1≤100
 c0:0≤b.2.1
 c1:b.2.1≤98
 s0:0≤b.2.2.1
 s1:b.2.2.1≤10
 gl:b.2.2.2.1.length≤8
 bl:b.2.2.2.2.length=16
 bb:∀ x∈b.2.2.2.2,-1≤x∧x≤7
 gb:∀ g∈b.2.2.2.1,0≤g.1∧g.1≤99∧0≤g.2∧g.2≤7
def fedOk (x:Fed):Prop:=x.2.2.length≤1000∧∀ t∈x.2.2,t≤15
def gateK (b:Belt) (k:Int):Int:=if k<0 then -1 else ksc b ((b.2.2.2.2[k.toNat]?).getD (-1))
def gateF (b:Belt) (x:Fed):Int:=gateK b (seenR x.2.2)
end Go.Abs
namespace Go.Abs
open Go
def fd (l:List Fed) (i:Nat):Fed:=(l[i]?).getD (0,0,[])
structure kiX (l:List Fed):Prop where
 len:l.length≤40
 ok:∀ x∈l,fedOk x∧0≤x.1∧x.1≤1000
def seg (l:List Fed) (s e:Nat):List Fed:=(l.drop s).take (e-s)
def Gc (b:Belt) (c:List Fed):Int:=
 if gateF b (fd c 0)<0 then -1 else if c.any (fun x=>gateF b x != gateF b (fd c 0)) then -1 else
  if ((b.2.2.2.1[(gateF b (fd c 0)).toNat]?).getD (0,0)).1-b.2.1<(fd c (c.length-1)).1-(fd c 0).1+3*b.2.2.1+1 then -1 else gateF b (fd c 0)
structure Clus (D:Int) (l:List Fed) (s e:Nat):Prop where
 lt:s<e
 le:e≤l.length
 lo:s=0∨D<(fd l s).1-(fd l (s-1)).1
 mid:∀ k,s<k→k<e→(fd l k).1-(fd l (k-1)).1≤D
 hi:e=l.length∨D<(fd l e).1-(fd l (e-1)).1
section
variable {b:Belt} {l:List Fed} (B:kir b) (L:kiX l) {s e:Nat} (C:Clus (2*b.2.2.1+1) l s e)
include B L C
end
end Go.Abs
namespace Go.Abs
open Go
section
variable {b:Belt} {l:List Fed} (B:kir b) (L:kiX l) {s e:Nat} (C:Clus (2*b.2.2.1+1) l s e)
include B L C
end
end Go.Abs
namespace Go.Abs
open Go
section
variable {b:Belt} {l:List Fed} (B:kir b) (L:kiX l)
include B L
end
end Go.Abs
namespace Go.Abs
open Go
def gtF (b:Belt) (g:Int):Int×Int:=(b.2.2.2.1[g.toNat]?).getD (0,0)
def swC (b:Belt) (g:Int) (x y:Fed):List Sw:=
 if 0≤g then [(x.1+(gtF b g).1-b.2.2.1,g,true),(y.1+(gtF b g).1+1,g,false)] else []
section
variable {b:Belt} {l:List Fed} (B:kir b) (L:kiX l)
section
variable {s e:Nat} (C:Clus (2*b.2.2.1+1) l s e)
include B L C
end
end
end Go.Abs
namespace Go.Abs
open Go
theorem krm:law09_alive=some true:=rfl
end Go.Abs
namespace Go.Abs
open Go
theorem knW {α:Type} (l:List α) (i:Nat) (x:α):lset l (i:Int) x=l.set i x:=rfl
def rowR (k:Nat) (row:List Int):Bool:=decide (row.length=k+1)&&(row.all (wi 0 1000))&&decide (row.sum=1000)
def kgI (l:List (List Int)):Bool:=wi 1 8 l.length&&l.all (rowR l.length)
theorem krT (l:List Int) (h:∀ x∈l,0≤x∧x≤1000):0≤l.sum∧l.sum≤1000*l.length:=by
 induction l with
 | nil=>simp
 | cons x r ih=>
  have h1:=h x (by simp)
  have h2:=ih fun y hy=>h y (by simp [hy])
  simp only [List.sum_cons,List.length_cons]
  omega
theorem kmE (r:List Int) (hl:r.length≤9) (h:∀ x∈r,0≤x∧x≤1000):iter (kcp r) (0,0)=some r.sum:=by
 obtain ⟨z,hz,rfl⟩:=knj (F:=kcp r) (fun v=>∃ i:Nat,v=((i:Int),(r.take i).sum)∧i≤r.length) (fun v=>r.length-v.1.toNat) (fun z=>z=r.sum) (fun v ⟨i,hv,hi⟩=>by
  subst hv
  unfold kcp
  dsimp only
  by_cases hc:i<r.length
  ·right
   have h1:=krT (r.take (i+1)) fun x hx=>h x (List.mem_of_mem_take hx)
   have hlt:(r.take (i+1)).length≤9:=by simp; omega
   have hs:(r.take (i+1)).sum=(r.take i).sum+r[i]:=by rw [←List.take_append_getElem hc,List.sum_append]; simp
   rw [if_pos (lenI_lt.2 hc),kbA hc,kca (by omega)]
   simp only [Option.bind_some]
   rw [kbI (by omega) (by omega),←hs]
   exact ⟨_,rfl,⟨i+1,rfl,hc⟩,by dsimp only; omega⟩
  ·left
   have:i=r.length:=by omega
   subst this
   rw [if_neg kcm,List.take_length]
   exact ⟨_,rfl,rfl⟩) (0,0) ⟨0,by simp,by omega⟩ (by dsimp only; omega)
 exact hz
theorem kih (l:List (List Int)) (hl:l.length≤8):∀ k i:Nat,i+k=l.length→itN (kbu l) (k+1) (i:Int)=some (if (l.drop i).all (rowR l.length) then .inr () else .inl 8)
 | 0,i,h=>by
  have:i=l.length:=by omega
  subst this
  rw [List.drop_length]
  exact kcw (by unfold kbu; rw [if_neg kcm]; rfl)
 | k+1,i,h=>by
  have hi:i<l.length:=by omega
  have ih:=kih l hl k (i+1) (by omega)
  rw [List.drop_eq_getElem_cons hi,List.all_cons]
  have e:kbu l (i:Int)=some (if rowR l.length l[i]=true then .inl ((i+1:Nat):Int) else .inr (.inl 8)):=by
   unfold kbu
   rw [if_pos (lenI_lt.2 hi),kbA hi,kca (by omega)]
   simp only [Option.bind_some]
   rw [kdu,kdu,kbI (by omega) (by omega)]
   by_cases h1:l[i].length=l.length+1
   ·rw [if_neg (by simp; omega),kdW _ _ _ (by omega)]
    simp only [Option.bind_some]
    by_cases h2:(l[i].all (wi 0 1000))=true
    ·rw [h2,if_neg (by simp),kmE l[i] (by omega) (fun x hx=>wi_iff.1 (List.all_eq_true.1 h2 x hx))]
     simp only [Option.bind_some]
     by_cases h4:l[i].sum=1000
     ·rw [if_neg (by simpa using h4),if_pos (by simp only [rowR,h1,h2,h4,decide_true,Bool.and_self])]
     ·rw [if_pos (by simpa using h4),if_neg (by simp [rowR,h4])]
    ·rw [if_pos (by simpa using h2),if_neg (by simp only [rowR,Bool.eq_false_iff.2 h2,Bool.and_false,Bool.false_and]; decide)]
   ·rw [if_pos (by simp; omega),if_neg (by simp [rowR,h1])]
  by_cases hr:rowR l.length l[i]=true
  ·rw [if_pos hr] at e; rw [keX e,ih,hr,Bool.true_and]
  ·rw [if_neg hr] at e; rw [kcw e,Bool.eq_false_iff.2 hr]; rfl
theorem kje (l:List (List Int)) (hl:l.length≤1000):kdF l=some (if kgI l then 0 else 8):=by
 unfold kdF kgI
 rw [kdu,kdW _ _ _ (by simp)]
 simp only [List.all_cons,List.all_nil,Bool.and_true,Option.bind_some]
 by_cases h1:wi 1 8 (l.length:Int)=true
 ·have hw:=wi_iff.1 h1
  have:=kih l (by omega) l.length 0 (by omega)
  rw [List.drop_zero] at this
  rw [h1,if_neg (by simp),show (0:Int)=((0:Nat):Int) from rfl,keG this (by omega)]
  by_cases h2:l.all (rowR l.length)=true <;> simp [h2]
 ·rw [if_pos (by simpa using h1),Bool.eq_false_iff.2 h1]; rfl
theorem klX {k:Nat} {row:List Int} (h:rowR k row=true):row.length=k+1∧(∀ x∈row,0≤x∧x≤1000)∧row.sum=1000:=by
 simp only [rowR,Bool.and_eq_true,decide_eq_true_eq,List.all_eq_true] at h
 exact ⟨h.1.1,fun x hx=>wi_iff.1 (h.1.2 x hx),h.2⟩
theorem kjP {l:List (List Int)} (h:kgI l=true):1≤l.length∧l.length≤8∧∀ r∈l,rowR l.length r=true:=by
 simp only [kgI,Bool.and_eq_true,List.all_eq_true] at h
 have:=wi_iff.1 h.1
 exact ⟨by omega,by omega,h.2⟩
theorem kgP (v:Int→Int):∀ (k:Nat) (x b m:Int),(scanF v k x b m).1=b∨(scanF v k x b m).1 = -1∨(∃ y,(scanF v k x b m).1=y∧m<v y)
 | 0,x,b,m=>.inl rfl
 | k+1,x,b,m=>by
  simp only [scanF]
  split
  ·rename_i h
   rcases kgP v k (x+1) x (v x) with h1 | h1 | ⟨y,h1,h2⟩
   ·exact .inr (.inr ⟨x,h1,h⟩)
   ·exact .inr (.inl h1)
   ·exact .inr (.inr ⟨y,h1,by omega⟩)
  ·split
   ·rcases kgP v k (x+1) (-1) m with h1 | h1 | ⟨y,h1,h2⟩
    ·exact .inr (.inl h1)
    ·exact .inr (.inl h1)
    ·exact .inr (.inr ⟨y,h1,h2⟩)
   ·exact kgP v k (x+1) b m
theorem kmq (l:List Int) (h:0≤seenR l):seenR l∈l:=by
 unfold seenR at h ⊢
 rcases kgP (fun k=>kaz k l) 16 0 (-1) 0 with h1 | h1 | ⟨y,h1,h2⟩
 ·omega
 ·omega
 ·rw [h1]
  simp only [kaz] at h2
  have:0<l.countP fun x=>x==y:=by omega
  obtain ⟨x,hx,e⟩:=List.countP_pos_iff.1 this
  simp at e; subst e; exact hx
def sayR (row:List Int) (j:Int):Int:=if j=(row.length:Int)-1 then -1 else j
def leafR (row b:List Int) (w:Int) (out:List Int):List Int:=
 let i:Int:=if seenR b<0 then (row.length:Int)-1 else seenR b
 out.set i.toNat (w64 (out.getD i.toNat 0+w))
def addR (row:List Int):Nat→List Int→Int→List Int→List Int
 | 0,b,w,out=>leafR row b w out
 | m+1,b,w,out=>(row.zipIdx).foldl (fun out x=>if x.1=0 then out else addR row m (b++[sayR row x.2]) (w64 (w*x.1)) out) out
theorem kpR (row b:List Int) (w:Int) (out:List Int):(leafR row b w out).length=out.length:=by simp [leafR]
theorem khU (row:List Int):∀ (m:Nat) (b:List Int) (w:Int) (out:List Int),(addR row m b w out).length=out.length
 | 0,b,w,out=>kpR row b w out
 | m+1,b,w,out=>by
  have:∀ (l:List (Int×Nat)) (out:List Int),(l.foldl (fun out x=>if x.1=0 then out else addR row m (b++[sayR row x.2]) (w64 (w*x.1)) out) out).length=out.length:=by
   intro l
   induction l with
   | nil=>intro out; rfl
   | cons x l ih=>
    intro out
    rw [List.foldl_cons,ih]
    split
    ·rfl
    ·exact khU row m _ _ _
  exact this _ _
def begR (row b:List Int):Prop:=∀ x∈b,-1≤x∧x<(row.length:Int)-1
theorem kmj {row b:List Int} (h:begR row b) {j:Nat} (hj:j<row.length):begR row (b++[sayR row j]):=by
 intro x hx
 rcases List.mem_append.1 hx with hx | hx
 ·exact h x hx
 ·simp at hx; subst hx
  unfold sayR
  split <;> omega
theorem kki {β:Type} (f:β→Int×Nat→β) (row:List Int) (i:Nat) (hi:i<row.length) (out:β):((row.zipIdx).drop i).foldl f out=((row.zipIdx).drop (i+1)).foldl f (f out (row[i],i)):=by
 rw [List.drop_eq_getElem_cons (by simpa using hi),List.foldl_cons]
 simp
theorem krJ {row b:List Int} (hb:begR row b) (hr:0<row.length) {out:List Int} (ho:out.length=row.length):∀ i:Int,i=(if seenR b<0 then (row.length:Int)-1 else seenR b)→gi out i=some (out.getD i.toNat 0):=by
 intro i hi
 have h1:0≤i∧i<out.length:=by
  split at hi
  ·omega
  ·rename_i h
   have:=hb _ (kmq b (by omega))
   omega
 rw [klJ h1.1 h1.2]
 congr 1
 rw [List.getD_eq_getElem?_getD,List.getElem?_eq_getElem (by omega)]; rfl
theorem kpf (row:List Int) (hrow:2≤row.length∧row.length≤9) (n:Nat) (hn:n≤5):∀ (m i:Nat) (fuel:Nat) (w:Int) (rs out:List Int),i+m=n→m<fuel→rs.length=n→out.length=row.length→begR row (rs.take i)→
  ∃ rs',kam fuel i w n rs ((row.length:Int)-1) out row=some ((n:Int),rs',(row.length:Int)-1,addR row m (rs.take i) w out,row)∧rs'.length=n∧rs'.take i=rs.take i
 | m,i,0,w,rs,out,hi,hf,_,_,_=>by omega
 | 0,i,fuel+1,w,rs,out,hi,hf,hrs,ho,hb=>by
  have hin:i=n:=by omega
  have ht:rs.take i=rs:=List.take_of_length_le (by omega)
  refine ⟨rs,?_,hrs,rfl⟩
  rw [ht] at hb ⊢
  simp only [kam]
  unfold kcX
  rw [if_pos (by simp [hin]),kri rs (by omega) fun x hx=>by have:=hb x hx; omega]
  have hl:=krJ hb (by omega) ho _ rfl
  simp only [Option.bind_some,addR,leafR,decide_eq_true_eq]
  by_cases hs:seenR rs<0
  ·simp only [hs,if_true] at hl ⊢
   simp only [Option.bind_some]
   rw [hl]; rfl
  ·simp only [hs,if_false] at hl ⊢
   simp only [Option.bind_some]
   rw [hl]; rfl
 | m+1,i,fuel+1,w,rs,out,hi,hf,hrs,ho,hb=>by
  simp only [kam]
  unfold kcX
  rw [if_neg (by simp; omega)]
  have loop:∀ (k j:Nat) (rs1 out1:List Int),j+k=row.length→rs1.length=n→out1.length=row.length→rs1.take i=rs.take i→
    ∃ rs2,itN (kao (kam fuel) i w row) (k+1) ((j:Int),rs1,(row.length:Int)-1,(n:Int),out1,row)=some (rs2,(row.length:Int)-1,(n:Int),((row.zipIdx).drop j).foldl (fun out x=>if x.1=0 then out else addR row m (rs.take i++[sayR row x.2]) (w64 (w*x.1)) out) out1,row)∧rs2.length=n∧rs2.take i=rs.take i:=by
   intro k
   induction k with
   | zero=>
    intro j rs1 out1 hj h1 h2 h3
    have:j=row.length:=by omega
    subst this
    refine ⟨rs1,?_,h1,h3⟩
    rw [List.drop_eq_nil_of_le (by simp)]
    exact kcw (by unfold kao; dsimp only; rw [if_neg kcm]; rfl)
   | succ k ih=>
    intro j rs1 out1 hj h1 h2 h3
    have hjl:j<row.length:=by omega
    rw [kki _ row j hjl]
    by_cases h0:row[j]=0
    ·have e:kao (kam fuel) i w row ((j:Int),rs1,(row.length:Int)-1,(n:Int),out1,row)=some (.inl (((j+1:Nat):Int),rs1,(row.length:Int)-1,(n:Int),out1,row)):=by
      unfold kao
      dsimp only
      rw [if_pos (lenI_lt.2 hjl),kbA hjl,kca (by omega)]
      simp only [Option.bind_some]
      rw [if_pos (by simpa using h0)]
     rw [keX e]
     dsimp only
     rw [if_pos h0]
     exact ih (j+1) rs1 out1 (by omega) h1 h2 h3
    ·have step:∀ rs3:List Int,rs3.length=n→rs3.take (i+1)=rs.take i++[sayR row j]→
       kao (kam fuel) i w row ((j:Int),rs1,(row.length:Int)-1,(n:Int),out1,row)=((kam fuel (w64 ((i:Int)+1)) (w64 (w*row[j])) n rs3 ((row.length:Int)-1) out1 row).bind fun v10=>some (.inl (((j+1:Nat):Int),v10.2.1,v10.2.2.1,v10.1,v10.2.2.2)))→
       ∃ rs2,itN (kao (kam fuel) i w row) (k+1+1) ((j:Int),rs1,(row.length:Int)-1,(n:Int),out1,row)=some (rs2,(row.length:Int)-1,(n:Int),((row.zipIdx).drop (j+1)).foldl (fun out x=>if x.1=0 then out else addR row m (rs.take i++[sayR row x.2]) (w64 (w*x.1)) out) (if row[j]=0 then out1 else addR row m (rs.take i++[sayR row j]) (w64 (w*row[j])) out1),row)∧rs2.length=n∧rs2.take i=rs.take i:=by
      intro rs3 g1 g2 e
      obtain ⟨rs4,f1,f2,f3⟩:=kpf row hrow n hn m (i+1) fuel (w64 (w*row[j])) rs3 out1 (by omega) (by omega) g1 h2 (by rw [g2]; exact kmj hb hjl)
      rw [kbI (by omega) (by omega),show ((i:Int)+1)=((i+1:Nat):Int) by omega,f1] at e
      simp only [Option.bind_some] at e
      rw [keX e,if_neg h0,g2]
      refine ih (j+1) rs4 _ (by omega) f2 (by rw [khU]; exact h2) ?_
      have e1:rs4.take i=(rs4.take (i+1)).take i:=by rw [List.take_take]; congr 1; omega
      have e2:rs.take i=(rs3.take (i+1)).take i:=by rw [g2]; rw [List.take_append_of_le_length (by simp; omega),List.take_take]; congr 1; omega
      rw [e1,f3,←e2]
     have tk:∀ x:Int,(rs1.set i x).take (i+1)=rs.take i++[x]:=fun x=>by
      rw [←h3]
      have hi':i<(rs1.set i x).length:=by simp; omega
      rw [←List.take_append_getElem hi']
      simp [List.take_set_of_le]
     by_cases hj2:(j:Int)=(row.length:Int)-1
     ·refine step ((rs1.set i j).set i (-1)) (by simpa using h1) (by rw [List.set_set,tk,sayR,if_pos hj2]) ?_
      unfold kao
      dsimp only
      rw [if_pos (lenI_lt.2 hjl),kbA hjl,kca (by omega)]
      simp only [Option.bind_some]
      rw [if_neg (by simpa using h0),kbA (l:=rs1) (i:=i) (by omega)]
      simp only [Option.bind_some]
      rw [if_pos (by simpa using hj2),knW,kbA (l:=rs1.set i j) (i:=i) (by simp; omega)]
      simp only [Option.bind_some,knW]
     ·refine step (rs1.set i j) (by simpa using h1) (by rw [tk,sayR,if_neg hj2]) ?_
      unfold kao
      dsimp only
      rw [if_pos (lenI_lt.2 hjl),kbA hjl,kca (by omega)]
      simp only [Option.bind_some]
      rw [if_neg (by simpa using h0),kbA (l:=rs1) (i:=i) (by omega)]
      simp only [Option.bind_some]
      rw [if_neg (by simpa using hj2),knW]
      simp only [Option.bind_some]
  obtain ⟨rs2,q1,q2,q3⟩:=loop row.length 0 rs out (by omega) hrs ho rfl
  refine ⟨rs2,?_,q2,q3⟩
  rw [List.drop_zero] at q1
  rw [show ((0:Int),rs,(row.length:Int)-1,(n:Int),out,row)=(((0:Nat):Int),rs,(row.length:Int)-1,(n:Int),out,row) from rfl,keG q1 (by omega)]
  rfl
def chR (row:List Int) (n:Int):List Int:=addR row n.toNat [] 1 (List.replicate row.length 0)
theorem kkR (row:List Int) (hrow:2≤row.length∧row.length≤9) (n:Int) (h1:1≤n) (h5:n≤5):keN row n=some (chR row n):=by
 unfold keN
 have g1:gmk (lenI row) (0:Int)=some (List.replicate row.length 0):=by unfold gmk; rw [kdu,if_pos (by omega)]; simp
 have g2:gmk n (0:Int)=some (List.replicate n.toNat 0):=by unfold gmk; rw [if_pos (by omega)]
 rw [g1,g2]
 simp only [Option.bind_some]
 obtain ⟨rs,q1,q2,q3⟩:=kpf row hrow n.toNat (by omega) n.toNat 0 1000000 1 (List.replicate n.toNat 0) (List.replicate row.length 0) (by omega) (by omega) (by simp) (by simp) (fun x hx=>by simp at hx)
 rw [kdu,kbI (by omega) (by omega)]
 rw [show ((n.toNat:Nat):Int)=n by omega] at q1
 unfold keb
 rw [show ((0:Nat):Int)=0 from rfl] at q1
 rw [q1]
 rfl
def kka (t:List (List Int)) (kind n:Int):List Int×Int:=
 if kgI t then (if wi 0 ((t.length:Int)-1) kind then (if wi 1 5 n then (chR (t.getD kind.toNat []) n,0) else ([],2)) else ([],2)) else ([],8)
theorem kgY (t:List (List Int)) (kind n:Int) (ht:t.length≤1000):kcJ t kind n=some (kka t kind n):=by
 unfold kcJ kka
 rw [kje t ht]
 by_cases h:kgI t=true
 ·obtain ⟨t1,t2,t3⟩:=kjP h
  rw [kdu,kbI (x:=(t.length:Int)-1) (by omega) (by omega),kdW _ _ _ (by simp),kdW _ _ _ (by simp)]
  simp only [List.all_cons,List.all_nil,Bool.and_true,Option.bind_some,h,if_true]
  by_cases h1:wi 0 ((t.length:Int)-1) kind=true
  ·by_cases h2:wi 1 5 n=true
   ·have k1:=wi_iff.1 h1
    have k2:=wi_iff.1 h2
    have hk:kind.toNat<t.length:=by omega
    obtain ⟨r1,r2,r3⟩:=klX (t3 _ (List.getElem_mem hk))
    rw [klJ k1.1 (by omega)]
    have:=kkR (t[kind.toNat]) (by omega) n (by omega) (by omega)
    simp only [Option.bind_some,this,h1,h2,if_true]
    simp [List.getD_eq_getElem?_getD,List.getElem?_eq_getElem hk]
   ·simp [h1,h2]
  ·simp [h1]
 ·simp [h]
end Go.Abs
namespace Go.Abs
open Go
end Go.Abs
namespace Go.Abs
open Go
def hS (b:Belt) (l:List Fed) (p:Nat×Nat):List Sw:=swC b (Gc b (seg l p.1 p.2)) (fd l p.1) (fd l (p.2-1))
section
variable {b:Belt} {l:List Fed} (B:kir b) (L:kiX l)
include B L
end
end Go.Abs
namespace Go.Abs
open Go
theorem koZ:∀ (l:List Int) (i:Nat) (h:i<l.length) (y:Int),(l.set i y).sum=l.sum-l[i]+y
 | [],i,h,y=>by simp at h
 | x::l,0,h,y=>by simp; omega
 | x::l,i+1,h,y=>by
  have:=koZ l i (by simpa using h) y
  simp only [List.set_cons_succ,List.sum_cons,List.getElem_cons_succ]; omega
theorem khn:∀ {l:List Int},(∀ x∈l,0≤x)→0≤l.sum∧∀ x∈l,x≤l.sum
 | [],h=>⟨by simp,fun x hx=>by cases hx⟩
 | x::l,h=>by
  have h0:=h x (by simp)
  obtain ⟨h1,h2⟩:=khn fun y hy=>h y (List.mem_cons_of_mem _ hy)
  rw [List.sum_cons]
  refine ⟨by omega,fun y hy=>?_⟩
  rcases List.mem_cons.1 hy with rfl | hy
  ·omega
  ·have:=h2 y hy; omega
theorem mem_set' {α:Type} {l:List α} {i:Nat} {x y:α} (h:y∈l.set i x):y∈l∨y=x:=List.mem_or_eq_of_mem_set h
theorem kmN {row:List Int} (hrow:2≤row.length∧row.length≤9) (h0:∀ x∈row,0≤x∧x≤1000) (hs:row.sum=1000):∀ (m:Nat) (b:List Int) (w:Int) (out:List Int),begR row b→out.length=row.length→(∀ x∈out,0≤x)→0≤w→out.sum+w*1000 ^ m≤1000000000000000→
  (addR row m b w out).sum=out.sum+w*1000 ^ m∧∀ x∈addR row m b w out,0≤x
 | 0,b,w,out,hb,ho,hn,hw,hB=>by
  obtain ⟨n1,n2⟩:=khn hn
  simp only [Int.pow_zero,Int.mul_one] at hB ⊢
  unfold addR leafR
  dsimp only
  generalize hi:(if seenR b<0 then (row.length:Int)-1 else seenR b)=i
  have hir:0≤i∧i<out.length:=by
   split at hi
   ·omega
   ·have:=hb _ (kmq b (by omega)); omega
  have hlt:i.toNat<out.length:=by omega
  have hg:out.getD i.toNat 0=out[i.toNat]:=by rw [List.getD_eq_getElem?_getD,List.getElem?_eq_getElem hlt]; rfl
  have hx:=n2 _ (List.getElem_mem hlt)
  have hx0:=hn _ (List.getElem_mem hlt)
  rw [hg,kbI (by omega) (by omega)]
  refine ⟨by rw [koZ _ _ hlt]; omega,fun x hx=>?_⟩
  rcases mem_set' hx with hx | rfl
  ·exact hn x hx
  ·omega
 | m+1,b,w,out,hb,ho,hn,hw,hB=>by
  have hP:(1:Int)≤1000 ^ m:=by
   have:(0:Int)<1000 ^ m:=Int.pow_pos (by decide)
   omega
  have go:∀ (k j:Nat) (out1:List Int),j+k=row.length→out1.length=row.length→(∀ x∈out1,0≤x)→out1.sum+w*1000 ^ m*(row.drop j).sum≤1000000000000000→
    (((row.zipIdx).drop j).foldl (fun out x=>if x.1=0 then out else addR row m (b++[sayR row x.2]) (w64 (w*x.1)) out) out1).sum=out1.sum+w*1000 ^ m*(row.drop j).sum∧∀ x∈((row.zipIdx).drop j).foldl (fun out x=>if x.1=0 then out else addR row m (b++[sayR row x.2]) (w64 (w*x.1)) out) out1,0≤x:=by
   intro k
   induction k with
   | zero=>
    intro j out1 hj h1 h2 h3
    have:j=row.length:=by omega
    subst this
    rw [List.drop_eq_nil_of_le (by simp),List.drop_length]
    exact ⟨by simp,h2⟩
   | succ k ih=>
    intro j out1 hj h1 h2 h3
    have hjl:j<row.length:=by omega
    rw [kki _ row j hjl]
    have hd:(row.drop j).sum=row[j]+(row.drop (j+1)).sum:=by rw [List.drop_eq_getElem_cons hjl,List.sum_cons]
    have hxj:=h0 _ (List.getElem_mem hjl)
    have hr0:0≤(row.drop (j+1)).sum:=(khn fun x hx=>(h0 x (List.mem_of_mem_drop hx)).1).1
    have hwP:0≤w*1000 ^ m:=Int.mul_nonneg hw (by omega)
    rw [hd,Int.mul_add] at h3 ⊢
    by_cases hz:row[j]=0
    ·dsimp only
     rw [if_pos hz]
     rw [hz,Int.mul_zero] at h3 ⊢
     obtain ⟨q1,q2⟩:=ih (j+1) out1 (by omega) h1 h2 (by omega)
     exact ⟨by omega,q2⟩
    ·dsimp only
     rw [if_neg hz]
     have e1:w*row[j]*1000 ^ m=w*1000 ^ m*row[j]:=by rw [Int.mul_assoc,Int.mul_comm row[j],←Int.mul_assoc]
     have hwx:0≤w*row[j]:=Int.mul_nonneg hw hxj.1
     have h5:0≤w*1000 ^ m*(row.drop (j+1)).sum:=Int.mul_nonneg hwP hr0
     have h6:=(khn h2).1
     have h7:w*row[j]≤w*row[j]*1000 ^ m:=by
      have:=Int.mul_le_mul_of_nonneg_left hP hwx
      rwa [Int.mul_one] at this
     rw [kbI (x:=w*row[j]) (by omega) (by omega)]
     obtain ⟨p1,p2⟩:=kmN hrow h0 hs m (b++[sayR row j]) (w*row[j]) out1 (kmj hb hjl) h1 h2 hwx (by omega)
     obtain ⟨q1,q2⟩:=ih (j+1) (addR row m (b++[sayR row j]) (w*row[j]) out1) (by omega) (by rw [khU]; exact h1) p2 (by omega)
     exact ⟨by omega,q2⟩
  have hpow:w*1000 ^ (m+1)=w*1000 ^ m*1000:=by rw [Int.pow_succ,Int.mul_assoc]
  have:=go row.length 0 out (by omega) ho hn (by rw [List.drop_zero,hs]; omega)
  rw [List.drop_zero,List.drop_zero,hs] at this
  rw [hpow]
  exact this
theorem klD:∀ n:Nat,(List.replicate n (0:Int)).sum=0
 | 0=>rfl
 | n+1=>by rw [List.replicate_succ,List.sum_cons,klD n]; rfl
theorem kro {row:List Int} (hrow:2≤row.length∧row.length≤9) (h0:∀ x∈row,0≤x∧x≤1000) (hs:row.sum=1000) {n:Int} (h1:1≤n) (h5:n≤5) :
  (chR row n).sum=1000 ^ n.toNat∧(∀ x∈chR row n,0≤x)∧(chR row n).length=row.length:=by
 have hp:(1000:Int) ^ n.toNat≤1000000000000000:=by
  have:n=1∨n=2∨n=3∨n=4∨n=5:=by omega
  rcases this with rfl | rfl | rfl | rfl | rfl <;> decide
 have:=kmN hrow h0 hs n.toNat [] 1 (List.replicate row.length 0) (fun x hx=>by cases hx) (by simp) (fun x hx=>by rw [(List.mem_replicate.1 hx).2]; exact Int.le_refl _) (by decide) (by rw [klD]; omega)
 rw [klD] at this
 unfold chR
 exact ⟨by omega,this.2,by rw [khU]; simp⟩
theorem kqb {x:Int} (h:-1≤x∧x≤7):seenR [x]=x:=by
 have:x = -1∨x=0∨x=1∨x=2∨x=3∨x=4∨x=5∨x=6∨x=7:=by omega
 rcases this with rfl | rfl | rfl | rfl | rfl | rfl | rfl | rfl | rfl <;> decide
theorem krx {row:List Int} (hrow:2≤row.length∧row.length≤9) (h0:∀ x∈row,0≤x∧x≤1000):chR row 1=row:=by
 have go:∀ (k j:Nat),j+k=row.length→((row.zipIdx).drop j).foldl (fun out x=>if x.1=0 then out else addR row 0 ([]++[sayR row x.2]) (w64 (1*x.1)) out) (row.take j++List.replicate k 0)=row:=by
  intro k
  induction k with
  | zero=>
   intro j hj
   have:j=row.length:=by omega
   subst this
   rw [List.drop_eq_nil_of_le (by simp),List.take_length]; simp
  | succ k ih=>
   intro j hj
   have hjl:j<row.length:=by omega
   rw [kki _ row j hjl]
   have hx:=h0 _ (List.getElem_mem hjl)
   have e:(if row[j]=0 then row.take j++List.replicate (k+1) 0 else addR row 0 ([]++[sayR row j]) (w64 (1*row[j])) (row.take j++List.replicate (k+1) 0))=row.take (j+1)++List.replicate k 0:=by
    have hset:(row.take j++List.replicate (k+1) (0:Int)).set j row[j]=row.take (j+1)++List.replicate k 0:=by
     have hlt:(row.take j).length=j:=by rw [List.length_take]; omega
     rw [List.set_append_right _ _ (by omega),hlt,Nat.sub_self,List.replicate_succ,List.set_cons_zero,←List.take_append_getElem hjl,List.append_assoc]
     rfl
    by_cases hz:row[j]=0
    ·rw [if_pos hz,←hset,hz,List.replicate_succ]
     have hlt:(row.take j).length=j:=by rw [List.length_take]; omega
     rw [List.set_append_right _ _ (by omega),hlt,Nat.sub_self,List.set_cons_zero]
    ·rw [if_neg hz,List.nil_append,←hset]
     unfold addR leafR
     dsimp only
     have hsay:(if seenR [sayR row j]<0 then (row.length:Int)-1 else seenR [sayR row j])=j:=by
      rw [kqb (by unfold sayR; split <;> omega)]
      unfold sayR
      split <;> (try split) <;> omega
     have hlt:(row.take j).length=j:=by rw [List.length_take]; omega
     have hget:(row.take j++List.replicate (k+1) (0:Int)).getD j 0=0:=by
      rw [List.getD_eq_getElem?_getD,List.getElem?_append_right (by omega),hlt,Nat.sub_self]; rfl
     rw [hsay,Int.toNat_natCast,hget,Int.zero_add,Int.one_mul,kbI (x:=row[j]) (by omega) (by omega),kbI (x:=row[j]) (by omega) (by omega)]
   rw [show (if (row[j],j).1=0 then row.take j++List.replicate (k+1) 0 else addR row 0 ([]++[sayR row (row[j],j).2]) (w64 (1*(row[j],j).1)) (row.take j++List.replicate (k+1) 0))=row.take (j+1)++List.replicate k 0 from e]
   exact ih (j+1) (by omega)
 have:=go row.length 0 (by omega)
 rw [List.drop_zero,List.take_zero,List.nil_append] at this
 exact this
theorem kmC (v:List Int) (h:v.length≤1000):kcM v v=some true:=by
 unfold kcM
 rw [if_neg (by simp),kmd (F:=kcD v v) false v (by omega) (fun i x=>false) (fun i hi=>by
  unfold kcD
  rw [if_pos (lenI_lt.2 hi),kbA hi,kca (by omega)]
  simp) (by unfold kcD; rw [if_neg kcm])]
 have:(v.zipIdx.any fun x=>false)=false:=by simp
 rw [this]; rfl
theorem kqK {n:Int} (h1:1≤n) (h5:n≤5):iter (kaR n) (0,1)=some (1000 ^ n.toNat):=by
 have:n=1∨n=2∨n=3∨n=4∨n=5:=by omega
 rcases this with rfl | rfl | rfl | rfl | rfl
 ·exact (by kernel_rfl:iter (kaR 1) (0,1)=some 1000)
 ·exact (by kernel_rfl:iter (kaR 2) (0,1)=some 1000000)
 ·exact (by kernel_rfl:iter (kaR 3) (0,1)=some 1000000000)
 ·exact (by kernel_rfl:iter (kaR 4) (0,1)=some 1000000000000)
 ·exact (by kernel_rfl:iter (kaR 5) (0,1)=some 1000000000000000)
theorem kre (c:List Int) (e:Int) (hl:c.length≤1000) (hn:∀ x∈c,0≤x) (hs:c.sum≤1000000000000000):iter (kci (c,e)) (0,0)=some (.inr c.sum):=by
 obtain ⟨z,hz,rfl⟩:=knj (F:=kci (c,e)) (fun v=>∃ i:Nat,v=((i:Int),(c.take i).sum)∧i≤c.length) (fun v=>c.length-v.1.toNat) (fun z=>z = .inr c.sum) (fun v ⟨i,hv,hi⟩=>by
  subst hv
  unfold kci
  dsimp only
  by_cases hc:i<c.length
  ·right
   have hs':(c.take (i+1)).sum=(c.take i).sum+c[i]:=by rw [←List.take_append_getElem hc,List.sum_append]; simp
   have hx:=hn _ (List.getElem_mem hc)
   have h3:=(khn fun x hx=>hn x (List.mem_of_mem_take (i:=i) hx)).1
   have h4:=(khn fun x hx=>hn x (List.mem_of_mem_drop (i:=i+1) hx)).1
   have h5:(c.take (i+1)).sum+(c.drop (i+1)).sum=c.sum:=by rw [←List.sum_append,List.take_append_drop]
   rw [if_pos (lenI_lt.2 hc),kbA hc,kca (by omega)]
   simp only [Option.bind_some,decide_eq_true_eq]
   rw [if_neg (by omega),kbI (by omega) (by omega),←hs']
   exact ⟨_,rfl,⟨i+1,rfl,hc⟩,by dsimp only; omega⟩
  ·left
   have:i=c.length:=by omega
   subst this
   rw [if_neg kcm,List.take_length]
   exact ⟨_,rfl,rfl⟩) (0,0) ⟨0,by simp,by omega⟩ (by dsimp only; omega)
 exact hz
theorem krO (t:List (List Int)) (ht:t.length≤9223372036854775807):∃ r,kga t=some r∧(r=false→t.length≤10):=by
 unfold kga
 rw [kmd (F:=kex t) true t (by omega) (fun i x=>decide (12<lenI x)) (fun i hi=>by
  unfold kex
  rw [if_pos (lenI_lt.2 hi),kbA hi,kca (by omega)]
  simp only [Option.bind_some]
  split <;> rfl) (by unfold kex; rw [if_neg kcm])]
 simp only [Option.bind_some]
 split
 ·rename_i h
  split at h
  ·cases h; exact ⟨true,rfl,by simp⟩
  ·cases h
 ·exact ⟨_,rfl,fun h=>by rw [kdu,decide_eq_false_iff_not] at h; omega⟩
theorem kqN (t:List (List Int)) (n:Int):∃ r,kfB t n=some r:=by
 unfold kfB; split <;> exact ⟨_,rfl⟩
theorem law09_SortWhole_eq (t:List (List Int)) (kind n:Int) (ht:t.length≤9223372036854775807):keQ t kind n=some true:=by
 unfold keQ
 rw [krm]
 simp only [Option.bind_some]
 obtain ⟨r,hr1,hr2⟩:=krO t ht
 rw [hr1]
 simp only [Option.bind_some]
 cases r with
 | true=>rfl
 | false=>
  have htl:=hr2 rfl
  obtain ⟨q,hq⟩:=kqN t n
  rw [hq]
  simp only [Option.bind_some,Bool.false_eq_true,if_false]
  cases q with
  | true=>rfl
  | false=>
   simp only [Bool.false_eq_true,if_false]
   rw [if_neg (by decide),kgY t kind n (by omega),kgY t kind 1 (by omega)]
   simp only [Option.bind_some]
   unfold kka
   by_cases h:kgI t=true
   ·obtain ⟨t1,t2,t3⟩:=kjP h
    rw [if_pos h]
    by_cases h1:wi 0 ((t.length:Int)-1) kind=true
    ·rw [if_pos h1]
     by_cases h2:wi 1 5 n=true
     ·have k1:=wi_iff.1 h1
      have k2:=wi_iff.1 h2
      have hk:kind.toNat<t.length:=by omega
      obtain ⟨r1,r2,r3⟩:=klX (t3 _ (List.getElem_mem hk))
      have hgd:t.getD kind.toNat []=t[kind.toNat]:=by rw [List.getD_eq_getElem?_getD,List.getElem?_eq_getElem hk]; rfl
      rw [if_pos h2,hgd,if_pos h,if_pos h1,if_pos (show wi 1 5 1=true by decide)]
      obtain ⟨c1,c2,c3⟩:=kro (row:=t[kind.toNat]) (by omega) r2 r3 k2.1 k2.2
      have hp:(1000:Int) ^ n.toNat≤1000000000000000:=by
       have:n=1∨n=2∨n=3∨n=4∨n=5:=by omega
       rcases this with rfl | rfl | rfl | rfl | rfl <;> decide
      rw [if_neg (by simp),kqK k2.1 k2.2]
      simp only [Option.bind_some]
      rw [kre _ _ (by omega) c2 (by omega)]
      simp only [Option.bind_some]
      rw [krx (by omega) r2,c1,kdu,kdu,c3,r1,kbI (by omega) (by omega),klJ k1.1 (by omega)]
      simp only [Option.bind_some]
      rw [kmC _ (by omega)]
      have e1:kind<(t.length:Int):=by omega
      simp [k1.1,e1]
     ·rw [if_neg h2,if_pos (by simp)]; simp [kkr]
    ·rw [if_neg h1,if_pos (by simp)]; simp [kkr]
   ·rw [if_neg h,if_pos (by simp)]; simp [kkr]
end Go.Abs
