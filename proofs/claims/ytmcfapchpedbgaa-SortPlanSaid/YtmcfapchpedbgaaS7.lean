/- The functions and the law, part 7. -/
import Derived.Test.YtmcfapchpedbgaaProg
import Derived.Test.YtmcfapchpedbgaaZ3
import Derived.Test.YtmcfapchpedbgaaZ6
set_option linter.constructorNameAsVariable false
set_option linter.unusedVariables false
set_option linter.unusedSimpArgs false
set_option linter.unusedSectionVars false
namespace Go.Abs
open Go
@[reducible] def tBelt:Ty:=(.pr (.i .i64) (.pr (.i .i64) (.pr (.i .i64) (.pr (.sl (.pr (.i .i64) (.i .i64))) (.sl (.i .i64))))))
abbrev Belt:=(Int×Int×Int×(List (Int×Int))×(List Int))
@[reducible] def tFed:Ty:=(.pr (.i .i64) (.pr (.i .i64) (.sl (.i .i64))))
abbrev Fed:=(Int×Int×(List Int))
@[reducible] def tPile:Ty:=(.pr (.i .i64) (.sl (.i .i64)))
abbrev Pile:=(Int×(List Int))
@[reducible] def tLine:Ty:=(.pr tBelt (.sl tFed))
abbrev Line:=(Belt×(List Fed))
def kmC (v0:(Int×Int×Fed)):Option ((Int×Int×Fed)⊕(Int×Fed)):=
 (if (decide (v0.1<16))=true then ((if (decide (v0.1<2))=true then (some v0.1) else (some (-1))).bind fun v1=>((gapp v0.2.2.2.2 [v1]).bind fun v2=>(some (.inl ((w64 (v0.1+1)),v0.2.1,v0.2.2.1,v0.2.2.2.1,v2))))) else (some (.inr v0.2)))
def law09_belt:Option Belt:=
 ((iter (kmC) (0,20,2,2,[])).bind fun v3=>(some (v3.1,v3.2.1,v3.2.2.1,[(10,0),(15,1)],v3.2.2.2)))
def kcs (x0:Int) (x1:Int):Option Fed:=
 (some (x0,x1,[x1]))
def keO (x0:Int) (x1:Int) (x2:Int):Option Bool:=
 (if (decide (x0<x1))=true then (some true) else (some (decide (x2<x0))))
def kaV (x0:(List Int)) (x1:(Int→Option Bool)) (v0:Int):Option (Int⊕(Int⊕Unit)):=
 (if (decide (v0<(lenI x0)))=true then ((gi x0 v0).bind fun v1=>((x1 v1).bind fun v2=>(if v2=true then (some (.inr (.inl v0))) else (some (.inl (w64 (v0+1))))))) else (some (.inr (.inr ()))))
def kbM (x0:(List Int)) (x1:(Int→Option Bool)):Option Int:=
 ((iter (kaV x0 x1) 0).bind fun v3=>(match v3 with | .inl v4=>(some v4) | .inr v5=>(some (-1))))
def kaU (x0:(List Int)) (x1:(Int→Option Bool)):Option Bool:=
 ((kbM x0 x1).bind fun v0=>(some (decide (0≤v0))))
def kav (x0:Int) (x1:Int) (x2:(List Int)):Option Bool:=
 ((kaU x2 (fun (u0:Int)=>((keO u0 x0 x1).bind fun u1=>(some u1)))).bind fun v0=>(some (!v0)))
def kjD (x0:Belt) (v4:(Int×Int×(List (Int×Bool)))):Option ((Int×Int×(List (Int×Bool)))⊕(Int⊕Unit)):=
 (if (decide (v4.1<(lenI x0.2.2.2.1)))=true then ((gi x0.2.2.2.1 v4.1).bind fun v5=>((kav v4.2.1 (w64 (x0.1-1)) [v5.1]).bind fun v6=>(if (!v6)=true then (some (.inr (.inl 90))) else ((kav 0 7 [v5.2]).bind fun v7=>(if (!v7)=true then (some (.inr (.inl 90))) else (if ((mget v4.2.2 v5.2).getD false)=true then (some (.inr (.inl 90))) else (some (.inl ((w64 (v4.1+1)),(w64 (v5.1+1)),(mput v4.2.2 v5.2 true)))))))))) else (some (.inr (.inr ()))))
def khh (x0:Belt):Option Int:=
 ((kav 2 100 [x0.1]).bind fun v0=>(if (!v0)=true then (some 90) else ((kav 0 (w64 (x0.1-2)) [x0.2.1]).bind fun v1=>(if (!v1)=true then (some 90) else ((kav 0 10 [x0.2.2.1]).bind fun v2=>(if (!v2)=true then (some 90) else (if (decide (8<(lenI x0.2.2.2.1)))=true then (some 90) else (if ((lenI x0.2.2.2.2) != 16)=true then (some 90) else ((kav (-1) 7 x0.2.2.2.2).bind fun v3=>(if (!v3)=true then (some 90) else ((iter (kjD x0) (0,(w64 (x0.2.1+1)),[])).bind fun v8=>(match v8 with | .inl v9=>(some v9) | .inr v10=>(some 0)))))))))))))
def kmt (x0:(List Int)):Option Bool:=
 ((kav 1 9 [(lenI x0)]).bind fun v0=>(if v0=true then ((kav (-1) 15 x0).bind fun v1=>(some v1)) else (some false)))
def kks (x0:(List Fed)) (v0:(Int×Int)):Option ((Int×Int)⊕(Int⊕Unit)):=
 (if (decide (v0.1<(lenI x0)))=true then ((gi x0 v0.1).bind fun v1=>((kav v0.2 1000 [v1.1]).bind fun v2=>(if (!v2)=true then (some (.inr (.inl 91))) else ((kav 0 15 [v1.2.1]).bind fun v3=>(if (!v3)=true then (some (.inr (.inl 91))) else ((kmt v1.2.2).bind fun v4=>(if (!v4)=true then (some (.inr (.inl 91))) else (some (.inl ((w64 (v0.1+1)),(w64 (v1.1+1)))))))))))) else (some (.inr (.inr ()))))
def kij (x0:(List Fed)):Option Int:=
 (if (decide (40<(lenI x0)))=true then (some 91) else ((iter (kks x0) (0,0)).bind fun v5=>(match v5 with | .inl v6=>(some v6) | .inr v7=>(some 0))))
def kky (x0:Belt) (x1:(List Fed)):Option ((Option Line)×Int):=
 ((khh x0).bind fun v0=>((if (v0==0)=true then ((kij x1).bind fun v1=>(some v1)) else (some v0)).bind fun v2=>(if (v2 != 0)=true then (some (none,v2)) else (some ((some (x0,x1)),0)))))
def kmQ (x0:(List Int)) (v0:(Int×(Arr 16 Int))):Option ((Int×(Arr 16 Int))⊕(Arr 16 Int)):=
 (if (decide (v0.1<(lenI x0)))=true then ((gi x0 v0.1).bind fun v1=>(if (decide (0≤v1))=true then ((garr v0.2 v1).bind fun v2=>((garr v0.2 v1).bind fun v3=>((garr v0.2 v1).bind fun v4=>(some (.inl ((w64 (v0.1+1)),(aset v0.2 v1 (w64 (v3+1))))))))) else (some (.inl ((w64 (v0.1+1)),v0.2))))) else (some (.inr v0.2)))
def kmV (v5:(Arr 16 Int)) (v6:(Int×Int×Int)):Option ((Int×Int×Int)⊕Int):=
 (if (decide (v6.1<16))=true then ((garr v5 v6.1).bind fun v7=>(if (decide (v6.2.1<v7))=true then (some (.inl ((w64 (v6.1+1)),v7,v6.1))) else (if (v7==v6.2.1)=true then (some (.inl ((w64 (v6.1+1)),v6.2.1,(-1)))) else (some (.inl ((w64 (v6.1+1)),v6.2)))))) else (some (.inr v6.2.2)))
def kgL (x0:(List Int)):Option Int:=
 ((iter (kmQ x0) (0,(amk 16 0))).bind fun v5=>((iter (kmV v5) (0,0,(-1))).bind fun v8=>(some v8)))
def kfU (x0:(Int×Int)) (x1:(Option Line)) (x2:Int):Option Bool:=
 (x1.bind fun v0=>((gi v0.1.2.2.2.2 x2).bind fun v1=>(some (x0.2==v1))))
def kdh (x0:(List (Int×Int))) (x1:((Int×Int)→Option Bool)) (v0:Int):Option (Int⊕(Int⊕Unit)):=
 (if (decide (v0<(lenI x0)))=true then ((gi x0 v0).bind fun v1=>((x1 v1).bind fun v2=>(if v2=true then (some (.inr (.inl v0))) else (some (.inl (w64 (v0+1))))))) else (some (.inr (.inr ()))))
def kbF (x0:(List (Int×Int))) (x1:((Int×Int)→Option Bool)):Option Int:=
 ((iter (kdh x0 x1) 0).bind fun v3=>(match v3 with | .inl v4=>(some v4) | .inr v5=>(some (-1))))
def kfk (x0:(Option Line)) (x1:Fed):Option Int:=
 ((kgL x1.2.2).bind fun v0=>(if (decide (v0<0))=true then (some (-1)) else (x0.bind fun v1=>((kbF v1.1.2.2.2.1 (fun (u0:(Int×Int))=>((kfU u0 x0 v0).bind fun u1=>(some u1)))).bind fun v2=>(some v2)))))
def kfc (x0:Fed) (x1:(Option Line)) (x2:Int):Option Bool:=
 ((kfk x1 x0).bind fun v0=>(some (v0 != x2)))
def kdO (x0:(List Fed)) (x1:(Fed→Option Bool)) (v0:Int):Option (Int⊕(Int⊕Unit)):=
 (if (decide (v0<(lenI x0)))=true then ((gi x0 v0).bind fun v1=>((x1 v1).bind fun v2=>(if v2=true then (some (.inr (.inl v0))) else (some (.inl (w64 (v0+1))))))) else (some (.inr (.inr ()))))
def kbP (x0:(List Fed)) (x1:(Fed→Option Bool)):Option Int:=
 ((iter (kdO x0 x1) 0).bind fun v3=>(match v3 with | .inl v4=>(some v4) | .inr v5=>(some (-1))))
def kbC (x0:(List Fed)) (x1:(Fed→Option Bool)):Option Bool:=
 ((kbP x0 x1).bind fun v0=>(some (decide (0≤v0))))
def kgk (x0:(Option Line)) (x1:(List Fed)):Option Int:=
 ((gi x1 0).bind fun v0=>((kfk x0 v0).bind fun v1=>((gi x1 (w64 ((lenI x1)-1))).bind fun v2=>((gi x1 0).bind fun v3=>(if (decide (v1<0))=true then (some (-1)) else ((kbC x1 (fun (u0:Fed)=>((kfc u0 x0 v1).bind fun u1=>(some u1)))).bind fun v4=>(if v4=true then (some (-1)) else (x0.bind fun v5=>(x0.bind fun v6=>((gi v6.1.2.2.2.1 v1).bind fun v7=>(x0.bind fun v8=>(if (decide ((w64 (v7.1-v8.1.2.1))<(w64 ((w64 ((w64 (v2.1-v3.1))+(w64 (3*v5.1.2.2.1))))+1))))=true then (some (-1)) else (some v1)))))))))))))
def kfL (x0:(Option Line)) (v1:((List Fed)×(List (Int×(List Fed))))) (v2:Int):Option (Int⊕Int):=
 (if (decide (v2<(lenI v1.1)))=true then ((gi v1.1 v2).bind fun v3=>((gi v1.1 (w64 (v2-1))).bind fun v4=>(x0.bind fun v5=>(if (decide ((w64 (v3.1-v4.1))≤(w64 ((w64 (2*v5.1.2.2.1))+1))))=true then (some (.inl (w64 (v2+1)))) else (some (.inr v2)))))) else (some (.inr v2)))
def kfF (o:Option (List (Int×(List Fed)))) (x0:(Option Line)) (v1:((List Fed)×(List (Int×(List Fed))))):Option (((List Fed)×(List (Int×(List Fed))))⊕((List (Int×(List Fed)))⊕(List (Int×(List Fed))))):=
 (if (decide (0<(lenI v1.1)))=true then ((iter (kfL x0 v1) 1).bind fun v6=>((gsl v1.1 0 v6).bind fun v7=>((kgk x0 v7).bind fun v8=>((gsl v1.1 0 v6).bind fun v9=>((gpre (.pr (.i .i64) (.sl (.pr (.i .i64) (.pr (.i .i64) (.sl (.i .i64)))))) o v1.2 (v8,v9)).bind fun v10=>((gsl v1.1 v6 (lenI v1.1)).bind fun v11=>(some (.inl (v11,v10))))))))) else (some (.inr (.inr v1.2))))
def kcm (o:Option (List (Int×(List Fed)))) (x0:(Option Line)):Option (List (Int×(List Fed))):=
 (x0.bind fun v0=>((iter (kfF o x0) (v0.2,[])).bind fun v12=>(match v12 with | .inl v13=>(some v13) | .inr v14=>(some v14))))
def kcL (x0:(Option Line)):Option (Option Line):=
 (some x0)
def knO (x0:Belt) (v4:(Int×(List Fed))) (v5:(Int×(List (Int×Int×Int)))):Option ((Int×(List (Int×Int×Int)))⊕(List (Int×Int×Int))):=
 (if (decide (v5.1<(lenI v4.2)))=true then ((gi v4.2 v5.1).bind fun v6=>((kgL v6.2.2).bind fun v7=>(if (decide (0≤v4.1))=true then ((gi x0.2.2.2.1 v4.1).bind fun v8=>((gi x0.2.2.2.1 v4.1).bind fun v9=>((gapp v5.2 [(v7,v8.2,(w64 (v6.1+v9.1)))]).bind fun v10=>(some (.inl ((w64 (v5.1+1)),v10)))))) else ((gapp v5.2 [(v7,(-1),(w64 (v6.1+x0.1)))]).bind fun v11=>(some (.inl ((w64 (v5.1+1)),v11))))))) else (some (.inr v5.2)))
def koo (x0:Belt) (v2:(List (Int×(List Fed)))) (v3:(Int×(List (Int×Int×Int)))):Option ((Int×(List (Int×Int×Int)))⊕(((List (Int×Int×Int))×Int)⊕(List (Int×Int×Int)))):=
 (if (decide (v3.1<(lenI v2)))=true then ((gi v2 v3.1).bind fun v4=>((iter (knO x0 v4) (0,v3.2)).bind fun v12=>(some (.inl ((v3.1+1),v12))))) else (some (.inr (.inr v3.2))))
def kiP (x0:Belt) (x1:(List Fed)):Option ((List (Int×Int×Int))×Int):=
 ((kky x0 x1).bind fun v0=>(if (v0.2 != 0)=true then (some ([],v0.2)) else ((kcL v0.1).bind fun v1=>((runI fun o=>(kcm o v1)).bind fun v2=>((iter (koo x0 v2) (0,[])).bind fun v13=>(match v13 with | .inl v14=>(some v14) | .inr v15=>(some (v15,0))))))))
def kfT (x0:Int):Option Bool:=
 (some (x0 != x0))
def keY (x0:Int) (x1:Int):Option Int:=
 ((kfT x0).bind fun v0=>((kfT x1).bind fun v1=>(if v0=true then (if v1=true then (some 0) else (some (-1))) else (if v1=true then (some 1) else (if (decide (x0<x1))=true then (some (-1)) else (if (decide (x1<x0))=true then (some 1) else (some 0)))))))
def keB (x0:(List Int)) (v0:Int):Option (Int⊕(Int⊕Unit)):=
 (if (decide (v0<(lenI x0)))=true then ((gi x0 v0).bind fun v1=>(if (v1 != 0)=true then (some (.inr (.inl v1))) else (some (.inl (w64 (v0+1)))))) else (some (.inr (.inr ()))))
def keV (x0:(List Int)):Option Int:=
 ((iter (keB x0) 0).bind fun v2=>(match v2 with | .inl v3=>(some v3) | .inr v4=>(some 0)))
def kkR (x0:(Int×Int×Bool)) (x1:(Int×Int×Bool)):Option Int:=
 ((keY x0.1 x1.1).bind fun v0=>((keY x0.2.1 x1.2.1).bind fun v1=>((keV [v0,v1]).bind fun v2=>(some v2))))
def kcF (x0:Int) (x2:(((Int×Int×Bool)×Int×Int×Bool)→Option Int)) (v1:(Int×(List (Int×Int×Bool)))):Option ((Int×(List (Int×Int×Bool)))⊕(List (Int×Int×Bool))):=
 (if (decide (x0<v1.1))=true then ((gi v1.2 v1.1).bind fun v2=>((gi v1.2 v1.1).bind fun v3=>((gi v1.2 (w64 (v1.1-1))).bind fun v4=>((gi v1.2 (w64 (v1.1-1))).bind fun v5=>((x2 (v3,v5)).bind fun v6=>(if (decide (v6<0))=true then ((gi v1.2 (w64 (v1.1-1))).bind fun v7=>((gi v1.2 (w64 (v1.1-1))).bind fun v8=>((gi v1.2 v1.1).bind fun v9=>((gi v1.2 v1.1).bind fun v10=>((gi v1.2 v1.1).bind fun v11=>((gi (lset v1.2 v1.1 v8) (w64 (v1.1-1))).bind fun v12=>(some (.inl ((w64 (v1.1-1)),(lset (lset v1.2 v1.1 v8) (w64 (v1.1-1)) v10)))))))))) else (some (.inr v1.2)))))))) else (some (.inr v1.2)))
def kcC (x0:Int) (x1:Int) (x2:(((Int×Int×Bool)×Int×Int×Bool)→Option Int)) (v0:(Int×(List (Int×Int×Bool)))):Option ((Int×(List (Int×Int×Bool)))⊕(List (Int×Int×Bool))):=
 (if (decide (v0.1<x1))=true then ((iter (kcF x0 x2) v0).bind fun v13=>(some (.inl ((w64 (v0.1+1)),v13)))) else (some (.inr v0.2)))
def kaI (x0:Int) (x1:Int) (x2:(((Int×Int×Bool)×Int×Int×Bool)→Option Int)) (x3:(List (Int×Int×Bool))):Option (List (Int×Int×Bool)):=
 ((iter (kcC x0 x1 x2) ((w64 (x0+1)),x3)).bind fun v14=>(some v14))
def kdr (x0:Int) (x1:Int) (x2:Int) (v0:(Int×(List (Int×Int×Bool)))):Option ((Int×(List (Int×Int×Bool)))⊕(List (Int×Int×Bool))):=
 (if (decide (v0.1<x2))=true then ((gi v0.2 (w64 (x1+v0.1))).bind fun v1=>((gi v0.2 (w64 (x1+v0.1))).bind fun v2=>((gi v0.2 (w64 (x0+v0.1))).bind fun v3=>((gi v0.2 (w64 (x0+v0.1))).bind fun v4=>((gi v0.2 (w64 (x0+v0.1))).bind fun v5=>((gi (lset v0.2 (w64 (x0+v0.1)) v2) (w64 (x1+v0.1))).bind fun v6=>(some (.inl ((w64 (v0.1+1)),(lset (lset v0.2 (w64 (x0+v0.1)) v2) (w64 (x1+v0.1)) v4)))))))))) else (some (.inr v0.2)))
def kaD (x0:Int) (x1:Int) (x2:Int) (x3:(((Int×Int×Bool)×Int×Int×Bool)→Option Int)) (x4:(List (Int×Int×Bool))):Option (List (Int×Int×Bool)):=
 ((iter (kdr x0 x1 x2) (0,x4)).bind fun v7=>(some v7))
def kdT (x1:Int) (x3:(((Int×Int×Bool)×Int×Int×Bool)→Option Int)) (v0:(Int×Int×(List (Int×Int×Bool)))):Option ((Int×Int×(List (Int×Int×Bool)))⊕(Int×(List (Int×Int×Bool)))):=
 (if (v0.1 != v0.2.1)=true then (if (decide (v0.2.1<v0.1))=true then ((kaD (w64 (x1-v0.1)) x1 v0.2.1 x3 v0.2.2).bind fun v1=>(some (.inl ((w64 (v0.1-v0.2.1)),v0.2.1,v1)))) else ((kaD (w64 (x1-v0.1)) (w64 ((w64 (x1+v0.2.1))-v0.1)) v0.1 x3 v0.2.2).bind fun v2=>(some (.inl (v0.1,(w64 (v0.2.1-v0.1)),v2))))) else (some (.inr (v0.1,v0.2.2))))
def kca (x0:Int) (x1:Int) (x2:Int) (x3:(((Int×Int×Bool)×Int×Int×Bool)→Option Int)) (x4:(List (Int×Int×Bool))):Option (List (Int×Int×Bool)):=
 ((iter (kdT x1 x3) ((w64 (x1-x0)),(w64 (x2-x1)),x4)).bind fun v3=>((kaD (w64 (x1-v3.1)) x1 v3.1 x3 v3.2).bind fun v4=>(some v4)))
def kdG (x0:Int) (x3:(((Int×Int×Bool)×Int×Int×Bool)→Option Int)) (x4:(List (Int×Int×Bool))) (v0:(Int×Int)):Option ((Int×Int)⊕Int):=
 (if (decide (v0.1<v0.2))=true then ((gshr .u64 (IntKind.wrap .u64 (w64 (v0.1+v0.2))) 1).bind fun v1=>((gi x4 (w64 v1)).bind fun v2=>((gi x4 (w64 v1)).bind fun v3=>((gi x4 x0).bind fun v4=>((gi x4 x0).bind fun v5=>((x3 (v3,v5)).bind fun v6=>(if (decide (v6<0))=true then (some (.inl ((w64 ((w64 v1)+1)),v0.2))) else (some (.inl (v0.1,(w64 v1))))))))))) else (some (.inr v0.1)))
def kdF (v7:Int) (v8:(Int×(List (Int×Int×Bool)))):Option ((Int×(List (Int×Int×Bool)))⊕(List (Int×Int×Bool))):=
 (if (decide (v8.1<(w64 (v7-1))))=true then ((gi v8.2 (w64 (v8.1+1))).bind fun v9=>((gi v8.2 (w64 (v8.1+1))).bind fun v10=>((gi v8.2 v8.1).bind fun v11=>((gi v8.2 v8.1).bind fun v12=>((gi v8.2 v8.1).bind fun v13=>((gi (lset v8.2 v8.1 v10) (w64 (v8.1+1))).bind fun v14=>(some (.inl ((w64 (v8.1+1)),(lset (lset v8.2 v8.1 v10) (w64 (v8.1+1)) v12)))))))))) else (some (.inr v8.2)))
def kdE (x1:Int) (x3:(((Int×Int×Bool)×Int×Int×Bool)→Option Int)) (x4:(List (Int×Int×Bool))) (v16:(Int×Int)):Option ((Int×Int)⊕Int):=
 (if (decide (v16.1<v16.2))=true then ((gshr .u64 (IntKind.wrap .u64 (w64 (v16.1+v16.2))) 1).bind fun v17=>((gi x4 x1).bind fun v18=>((gi x4 x1).bind fun v19=>((gi x4 (w64 v17)).bind fun v20=>((gi x4 (w64 v17)).bind fun v21=>((x3 (v19,v21)).bind fun v22=>(if (!(decide (v22<0)))=true then (some (.inl ((w64 ((w64 v17)+1)),v16.2))) else (some (.inl (v16.1,(w64 v17))))))))))) else (some (.inr v16.1)))
def kdA (v23:Int) (v24:(Int×(List (Int×Int×Bool)))):Option ((Int×(List (Int×Int×Bool)))⊕(List (Int×Int×Bool))):=
 (if (decide (v23<v24.1))=true then ((gi v24.2 (w64 (v24.1-1))).bind fun v25=>((gi v24.2 (w64 (v24.1-1))).bind fun v26=>((gi v24.2 v24.1).bind fun v27=>((gi v24.2 v24.1).bind fun v28=>((gi v24.2 v24.1).bind fun v29=>((gi (lset v24.2 v24.1 v26) (w64 (v24.1-1))).bind fun v30=>(some (.inl ((w64 (v24.1-1)),(lset (lset v24.2 v24.1 v26) (w64 (v24.1-1)) v28)))))))))) else (some (.inr v24.2)))
def kdH (x1:Int) (x3:(((Int×Int×Bool)×Int×Int×Bool)→Option Int)) (x4:(List (Int×Int×Bool))) (v32:Int) (v34:(Int×Int)):Option ((Int×Int)⊕Int):=
 (if (decide (v34.1<v34.2))=true then ((gshr .u64 (IntKind.wrap .u64 (w64 (v34.1+v34.2))) 1).bind fun v35=>((gi x4 (w64 ((w64 ((w64 ((w64 v32)+x1))-1))-(w64 v35)))).bind fun v36=>((gi x4 (w64 ((w64 ((w64 ((w64 v32)+x1))-1))-(w64 v35)))).bind fun v37=>((gi x4 (w64 v35)).bind fun v38=>((gi x4 (w64 v35)).bind fun v39=>((x3 (v37,v39)).bind fun v40=>(if (!(decide (v40<0)))=true then (some (.inl ((w64 ((w64 v35)+1)),v34.2))) else (some (.inl (v34.1,(w64 v35))))))))))) else (some (.inr v34.1)))
def kdP (rec_slices_symMergeCmpFunc_api_Swing_m4:Int→Int→Int→(((Int×Int×Bool)×Int×Int×Bool)→Option Int)→(List (Int×Int×Bool))→Option (List (Int×Int×Bool))) (x0:Int) (x1:Int) (x2:Int) (x3:(((Int×Int×Bool)×Int×Int×Bool)→Option Int)) (x4:(List (Int×Int×Bool))):Option (List (Int×Int×Bool)):=
 (if ((w64 (x1-x0))==1)=true then ((iter (kdG x0 x3 x4) (x1,x2)).bind fun v7=>((iter (kdF v7) (x0,x4)).bind fun v15=>(some v15))) else (if ((w64 (x2-x1))==1)=true then ((iter (kdE x1 x3 x4) (x0,x1)).bind fun v23=>((iter (kdA v23) (x1,x4)).bind fun v31=>(some v31))) else ((gshr .u64 (IntKind.wrap .u64 (w64 (x0+x2))) 1).bind fun v32=>((if (decide ((w64 v32)<x1))=true then (some ((w64 ((w64 ((w64 v32)+x1))-x2)),(w64 v32))) else (some (x0,x1))).bind fun v33=>((iter (kdH x1 x3 x4 v32) v33).bind fun v41=>((if (decide (v41<x1))=true then (some (decide (x1<(w64 ((w64 ((w64 v32)+x1))-v41))))) else (some false)).bind fun v42=>((if v42=true then ((kca v41 x1 (w64 ((w64 ((w64 v32)+x1))-v41)) x3 x4).bind fun v43=>(some v43)) else (some x4)).bind fun v44=>((if (decide (x0<v41))=true then (some (decide (v41<(w64 v32)))) else (some false)).bind fun v45=>((if v45=true then ((rec_slices_symMergeCmpFunc_api_Swing_m4 x0 v41 (w64 v32) x3 v44).bind fun v46=>(some v46)) else (some v44)).bind fun v47=>(if (decide ((w64 v32)<(w64 ((w64 ((w64 v32)+x1))-v41))))=true then (if (decide ((w64 ((w64 ((w64 v32)+x1))-v41))<x2))=true then ((rec_slices_symMergeCmpFunc_api_Swing_m4 (w64 v32) (w64 ((w64 ((w64 v32)+x1))-v41)) x2 x3 v47).bind fun v48=>(some v48)) else (some v47)) else (some v47)))))))))))
def kaT:Nat→Int→Int→Int→(((Int×Int×Bool)×Int×Int×Bool)→Option Int)→(List (Int×Int×Bool))→Option (List (Int×Int×Bool))
 | 0,_,_,_,_,_=>none
 | k+1,x0,x1,x2,x3,x4=>kdP (kaT k) x0 x1 x2 x3 x4
def kba (x0:Int) (x1:Int) (x2:Int) (x3:(((Int×Int×Bool)×Int×Int×Bool)→Option Int)) (x4:(List (Int×Int×Bool))):Option (List (Int×Int×Bool)):=kaT 1000000 x0 x1 x2 x3 x4
def kdX (x0:Int) (x1:(((Int×Int×Bool)×Int×Int×Bool)→Option Int)) (v0:(Int×Int×(List (Int×Int×Bool)))):Option ((Int×Int×(List (Int×Int×Bool)))⊕(Int×(List (Int×Int×Bool)))):=
 (if (decide (v0.1≤x0))=true then ((kaI v0.2.1 v0.1 x1 v0.2.2).bind fun v1=>(some (.inl ((w64 (v0.1+20)),v0.1,v1)))) else (some (.inr v0.2)))
def kee (x0:Int) (x1:(((Int×Int×Bool)×Int×Int×Bool)→Option Int)) (v4:(Int×(List (Int×Int×Bool)))) (v5:(Int×Int×(List (Int×Int×Bool)))):Option ((Int×Int×(List (Int×Int×Bool)))⊕(Int×(List (Int×Int×Bool)))):=
 (if (decide (v5.1≤x0))=true then ((kba v5.2.1 (w64 (v5.2.1+v4.1)) v5.1 x1 v5.2.2).bind fun v6=>(some (.inl ((w64 (v5.1+(w64 (2*v4.1)))),v5.1,v6)))) else (some (.inr v5.2)))
def keb (x0:Int) (x1:(((Int×Int×Bool)×Int×Int×Bool)→Option Int)) (v4:(Int×(List (Int×Int×Bool)))):Option ((Int×(List (Int×Int×Bool)))⊕(List (Int×Int×Bool))):=
 (if (decide (v4.1<x0))=true then ((iter (kee x0 x1 v4) ((w64 (2*v4.1)),0,v4.2)).bind fun v7=>(if (decide ((w64 (v7.1+v4.1))<x0))=true then ((kba v7.1 (w64 (v7.1+v4.1)) x0 x1 v7.2).bind fun v8=>(some (.inl ((w64 (v4.1*2)),v8)))) else (some (.inl ((w64 (v4.1*2)),v7.2))))) else (some (.inr v4.2)))
def kce (x0:Int) (x1:(((Int×Int×Bool)×Int×Int×Bool)→Option Int)) (x2:(List (Int×Int×Bool))):Option (List (Int×Int×Bool)):=
 ((iter (kdX x0 x1) (20,0,x2)).bind fun v2=>((kaI v2.1 x0 x1 v2.2).bind fun v3=>((iter (keb x0 x1) (20,v3)).bind fun v9=>(some v9))))
def kbb (x0:(((Int×Int×Bool)×Int×Int×Bool)→Option Int)) (x1:(List (Int×Int×Bool))):Option (List (Int×Int×Bool)):=
 ((kce (lenI x1) x0 x1).bind fun v0=>(some v0))
def kdJ (x0:(((Int×Int×Bool)×Int×Int×Bool)→Option Int)) (x1:(List (Int×Int×Bool))):Option (List (Int×Int×Bool)):=
 ((kbb x0 x1).bind fun v0=>(some v0))
def klT (x0:Belt) (v2:(List (Int×(List Fed)))) (v3:(Int×(List (Int×Int×Bool)))):Option ((Int×(List (Int×Int×Bool)))⊕(((List (Int×Int×Bool))×Int)⊕(List (Int×Int×Bool)))):=
 (if (decide (v3.1<(lenI v2)))=true then ((gi v2 v3.1).bind fun v4=>(if (decide (0≤v4.1))=true then ((gi x0.2.2.2.1 v4.1).bind fun v5=>((gi v4.2 0).bind fun v6=>((gi v4.2 (w64 ((lenI v4.2)-1))).bind fun v7=>((gapp v3.2 [((w64 ((w64 (v6.1+v5.1))-x0.2.2.1)),v4.1,true),((w64 ((w64 (v7.1+v5.1))+1)),v4.1,false)]).bind fun v8=>(some (.inl ((v3.1+1),v8))))))) else (some (.inl ((v3.1+1),v3.2))))) else (some (.inr (.inr v3.2))))
def kjK (x0:Belt) (x1:(List Fed)):Option ((List (Int×Int×Bool))×Int):=
 ((kky x0 x1).bind fun v0=>(if (v0.2 != 0)=true then (some ([],v0.2)) else ((kcL v0.1).bind fun v1=>((runI fun o=>(kcm o v1)).bind fun v2=>((iter (klT x0 v2) (0,[])).bind fun v9=>(match v9 with | .inl v10=>(some v10) | .inr v11=>((kdJ (fun (u0:((Int×Int×Bool)×Int×Int×Bool))=>((kkR u0.1 u0.2).bind fun u1=>(some u1))) v11).bind fun v12=>(some (v12,0)))))))))
def law09_table:Option (List (List Int)):=
 (some [[900,50,50],[100,800,100]])
def kiH (v2:(List Int)) (v4:(Int×Int)):Option ((Int×Int)⊕Int):=
 (if (decide (v4.1<(lenI v2)))=true then ((gi v2 v4.1).bind fun v5=>(some (.inl ((w64 (v4.1+1)),(w64 (v4.2+v5)))))) else (some (.inr v4.2)))
def kiC (x0:(List (List Int))) (v1:Int):Option (Int⊕(Int⊕Unit)):=
 (if (decide (v1<(lenI x0)))=true then ((gi x0 v1).bind fun v2=>(if ((lenI v2) != (w64 ((lenI x0)+1)))=true then (some (.inr (.inl 8))) else ((kav 0 1000 v2).bind fun v3=>(if (!v3)=true then (some (.inr (.inl 8))) else ((iter (kiH v2) (0,0)).bind fun v6=>(if (v6 != 1000)=true then (some (.inr (.inl 8))) else (some (.inl (w64 (v1+1)))))))))) else (some (.inr (.inr ()))))
def kgJ (x0:(List (List Int))):Option Int:=
 ((kav 1 8 [(lenI x0)]).bind fun v0=>(if (!v0)=true then (some 8) else ((iter (kiC x0) 0).bind fun v7=>(match v7 with | .inl v8=>(some v8) | .inr v9=>(some 0)))))
def khD (rec_sort_chances_c1_m8:Int→Int→Int→(List Int)→Int→(List Int)→(List Int)→Option (Int×(List Int)×Int×(List Int)×(List Int))) (x0:Int) (x1:Int) (x6:(List Int)) (v5:(Int×(List Int)×Int×Int×(List Int)×(List Int))):Option ((Int×(List Int)×Int×Int×(List Int)×(List Int))⊕((List Int)×Int×Int×(List Int)×(List Int))):=
 (if (decide (v5.1<(lenI x6)))=true then ((gi x6 v5.1).bind fun v6=>(if (v6==0)=true then (some (.inl ((w64 (v5.1+1)),v5.2))) else ((gi v5.2.1 x0).bind fun v7=>((if (v5.1==v5.2.2.1)=true then ((gi (lset v5.2.1 x0 v5.1) x0).bind fun v8=>(some (lset (lset v5.2.1 x0 v5.1) x0 (-1)))) else (some (lset v5.2.1 x0 v5.1))).bind fun v9=>((rec_sort_chances_c1_m8 (w64 (x0+1)) (w64 (x1*v6)) v5.2.2.2.1 v9 v5.2.2.1 v5.2.2.2.2.1 v5.2.2.2.2.2).bind fun v10=>(some (.inl ((w64 (v5.1+1)),v10.2.1,v10.2.2.1,v10.1,v10.2.2.2)))))))) else (some (.inr v5.2)))
def khM (rec_sort_chances_c1_m8:Int→Int→Int→(List Int)→Int→(List Int)→(List Int)→Option (Int×(List Int)×Int×(List Int)×(List Int))) (x0:Int) (x1:Int) (x2:Int) (x3:(List Int)) (x4:Int) (x5:(List Int)) (x6:(List Int)):Option (Int×(List Int)×Int×(List Int)×(List Int)):=
 (if (x0==x2)=true then ((kgL x3).bind fun v0=>((if (decide (v0<0))=true then (some x4) else (some v0)).bind fun v1=>((gi x5 v1).bind fun v2=>((gi x5 v1).bind fun v3=>((gi x5 v1).bind fun v4=>(some (x2,x3,x4,(lset x5 v1 (w64 (v3+x1))),x6))))))) else ((iter (khD rec_sort_chances_c1_m8 x0 x1 x6) (0,x3,x4,x2,x5,x6)).bind fun v11=>(some (v11.2.2.1,v11.1,v11.2.1,v11.2.2.2))))
def kcZ:Nat→Int→Int→Int→(List Int)→Int→(List Int)→(List Int)→Option (Int×(List Int)×Int×(List Int)×(List Int))
 | 0,_,_,_,_,_,_,_=>none
 | k+1,x0,x1,x2,x3,x4,x5,x6=>khM (kcZ k) x0 x1 x2 x3 x4 x5 x6
def kfI (x0:Int) (x1:Int) (x2:Int) (x3:(List Int)) (x4:Int) (x5:(List Int)) (x6:(List Int)):Option (Int×(List Int)×Int×(List Int)×(List Int)):=kcZ 1000000 x0 x1 x2 x3 x4 x5 x6
def kiv (x0:(List Int)) (x1:Int):Option (List Int):=
 ((gmk (lenI x0) 0).bind fun v0=>((gmk x1 0).bind fun v1=>((kfI 0 1 x1 v1 (w64 ((lenI x0)-1)) v0 x0).bind fun v2=>(some v2.2.2.2.1))))
def kjl (x0:(List (List Int))) (x1:Int) (x2:Int):Option ((List Int)×Int):=
 ((kgJ x0).bind fun v0=>(if (v0 != 0)=true then (some ([],v0)) else ((kav 0 (w64 ((lenI x0)-1)) [x1]).bind fun v1=>(if (!v1)=true then (some ([],2)) else ((kav 1 5 [x2]).bind fun v2=>(if (!v2)=true then (some ([],2)) else ((gi x0 x1).bind fun v3=>((kiv v3 x2).bind fun v4=>(some (v4,0))))))))))
def kds (x0:(List Int)) (x1:Int):Option Bool:=
 ((kav 2 8 [x1]).bind fun v0=>(if v0=true then ((kav 1 12 [(lenI x0)]).bind fun v1=>(if v1=true then ((kav 0 1000 x0).bind fun v2=>(some v2)) else (some false))) else (some false)))
def kbI (x0:Pile) (x1:Pile):Option Int:=
 ((keV [(w64 (x0.1-x1.1)),(w64 ((lenI x0.2)-(lenI x1.2)))]).bind fun v0=>(some v0))
def kae (x0:(List Pile)) (x1:Pile) (x2:((Pile×Pile)→Option Int)) (v0:(Int×Int)):Option ((Int×Int)⊕Int):=
 (if (decide (v0.1<v0.2))=true then ((gshr .u64 (IntKind.wrap .u64 (w64 (v0.1+v0.2))) 1).bind fun v1=>((gi x0 (w64 v1)).bind fun v2=>((x2 (v2,x1)).bind fun v3=>(if (decide (v3<0))=true then (some (.inl ((w64 ((w64 v1)+1)),v0.2))) else (some (.inl (v0.1,(w64 v1)))))))) else (some (.inr v0.1)))
def kaj (x0:(List Pile)) (x1:Pile) (x2:((Pile×Pile)→Option Int)):Option (Int×Bool):=
 ((iter (kae x0 x1 x2) (0,(lenI x0))).bind fun v4=>(if (decide (v4<(lenI x0)))=true then ((gi x0 v4).bind fun v5=>((x2 (v5,x1)).bind fun v6=>(some (v4,(v6==0))))) else (some (v4,false))))
def kak (x0:Int) (x2:((Pile×Pile)→Option Int)) (v1:(Int×(List Pile))):Option ((Int×(List Pile))⊕(List Pile)):=
 (if (decide (x0<v1.1))=true then ((gi v1.2 v1.1).bind fun v2=>((gi v1.2 v1.1).bind fun v3=>((gi v1.2 (w64 (v1.1-1))).bind fun v4=>((gi v1.2 (w64 (v1.1-1))).bind fun v5=>((x2 (v3,v5)).bind fun v6=>(if (decide (v6<0))=true then ((gi v1.2 (w64 (v1.1-1))).bind fun v7=>((gi v1.2 (w64 (v1.1-1))).bind fun v8=>((gi v1.2 v1.1).bind fun v9=>((gi v1.2 v1.1).bind fun v10=>((gi v1.2 v1.1).bind fun v11=>((gi (lset v1.2 v1.1 v8) (w64 (v1.1-1))).bind fun v12=>(some (.inl ((w64 (v1.1-1)),(lset (lset v1.2 v1.1 v8) (w64 (v1.1-1)) v10)))))))))) else (some (.inr v1.2)))))))) else (some (.inr v1.2)))
def kaq (x0:Int) (x1:Int) (x2:((Pile×Pile)→Option Int)) (v0:(Int×(List Pile))):Option ((Int×(List Pile))⊕(List Pile)):=
 (if (decide (v0.1<x1))=true then ((iter (kak x0 x2) v0).bind fun v13=>(some (.inl ((w64 (v0.1+1)),v13)))) else (some (.inr v0.2)))
def kas (x0:Int) (x1:Int) (x2:((Pile×Pile)→Option Int)) (x3:(List Pile)):Option (List Pile):=
 ((iter (kaq x0 x1 x2) ((w64 (x0+1)),x3)).bind fun v14=>(some v14))
def kdc (x0:Int) (x1:Int) (x2:Int) (v0:(Int×(List Pile))):Option ((Int×(List Pile))⊕(List Pile)):=
 (if (decide (v0.1<x2))=true then ((gi v0.2 (w64 (x1+v0.1))).bind fun v1=>((gi v0.2 (w64 (x1+v0.1))).bind fun v2=>((gi v0.2 (w64 (x0+v0.1))).bind fun v3=>((gi v0.2 (w64 (x0+v0.1))).bind fun v4=>((gi v0.2 (w64 (x0+v0.1))).bind fun v5=>((gi (lset v0.2 (w64 (x0+v0.1)) v2) (w64 (x1+v0.1))).bind fun v6=>(some (.inl ((w64 (v0.1+1)),(lset (lset v0.2 (w64 (x0+v0.1)) v2) (w64 (x1+v0.1)) v4)))))))))) else (some (.inr v0.2)))
def kaB (x0:Int) (x1:Int) (x2:Int) (x3:((Pile×Pile)→Option Int)) (x4:(List Pile)):Option (List Pile):=
 ((iter (kdc x0 x1 x2) (0,x4)).bind fun v7=>(some v7))
def kdK (x1:Int) (x3:((Pile×Pile)→Option Int)) (v0:(Int×Int×(List Pile))):Option ((Int×Int×(List Pile))⊕(Int×(List Pile))):=
 (if (v0.1 != v0.2.1)=true then (if (decide (v0.2.1<v0.1))=true then ((kaB (w64 (x1-v0.1)) x1 v0.2.1 x3 v0.2.2).bind fun v1=>(some (.inl ((w64 (v0.1-v0.2.1)),v0.2.1,v1)))) else ((kaB (w64 (x1-v0.1)) (w64 ((w64 (x1+v0.2.1))-v0.1)) v0.1 x3 v0.2.2).bind fun v2=>(some (.inl (v0.1,(w64 (v0.2.1-v0.1)),v2))))) else (some (.inr (v0.1,v0.2.2))))
def kbQ (x0:Int) (x1:Int) (x2:Int) (x3:((Pile×Pile)→Option Int)) (x4:(List Pile)):Option (List Pile):=
 ((iter (kdK x1 x3) ((w64 (x1-x0)),(w64 (x2-x1)),x4)).bind fun v3=>((kaB (w64 (x1-v3.1)) x1 v3.1 x3 v3.2).bind fun v4=>(some v4)))
def kdq (x0:Int) (x3:((Pile×Pile)→Option Int)) (x4:(List Pile)) (v0:(Int×Int)):Option ((Int×Int)⊕Int):=
 (if (decide (v0.1<v0.2))=true then ((gshr .u64 (IntKind.wrap .u64 (w64 (v0.1+v0.2))) 1).bind fun v1=>((gi x4 (w64 v1)).bind fun v2=>((gi x4 (w64 v1)).bind fun v3=>((gi x4 x0).bind fun v4=>((gi x4 x0).bind fun v5=>((x3 (v3,v5)).bind fun v6=>(if (decide (v6<0))=true then (some (.inl ((w64 ((w64 v1)+1)),v0.2))) else (some (.inl (v0.1,(w64 v1))))))))))) else (some (.inr v0.1)))
def kdo (v7:Int) (v8:(Int×(List Pile))):Option ((Int×(List Pile))⊕(List Pile)):=
 (if (decide (v8.1<(w64 (v7-1))))=true then ((gi v8.2 (w64 (v8.1+1))).bind fun v9=>((gi v8.2 (w64 (v8.1+1))).bind fun v10=>((gi v8.2 v8.1).bind fun v11=>((gi v8.2 v8.1).bind fun v12=>((gi v8.2 v8.1).bind fun v13=>((gi (lset v8.2 v8.1 v10) (w64 (v8.1+1))).bind fun v14=>(some (.inl ((w64 (v8.1+1)),(lset (lset v8.2 v8.1 v10) (w64 (v8.1+1)) v12)))))))))) else (some (.inr v8.2)))
def kdg (x1:Int) (x3:((Pile×Pile)→Option Int)) (x4:(List Pile)) (v16:(Int×Int)):Option ((Int×Int)⊕Int):=
 (if (decide (v16.1<v16.2))=true then ((gshr .u64 (IntKind.wrap .u64 (w64 (v16.1+v16.2))) 1).bind fun v17=>((gi x4 x1).bind fun v18=>((gi x4 x1).bind fun v19=>((gi x4 (w64 v17)).bind fun v20=>((gi x4 (w64 v17)).bind fun v21=>((x3 (v19,v21)).bind fun v22=>(if (!(decide (v22<0)))=true then (some (.inl ((w64 ((w64 v17)+1)),v16.2))) else (some (.inl (v16.1,(w64 v17))))))))))) else (some (.inr v16.1)))
def kdj (v23:Int) (v24:(Int×(List Pile))):Option ((Int×(List Pile))⊕(List Pile)):=
 (if (decide (v23<v24.1))=true then ((gi v24.2 (w64 (v24.1-1))).bind fun v25=>((gi v24.2 (w64 (v24.1-1))).bind fun v26=>((gi v24.2 v24.1).bind fun v27=>((gi v24.2 v24.1).bind fun v28=>((gi v24.2 v24.1).bind fun v29=>((gi (lset v24.2 v24.1 v26) (w64 (v24.1-1))).bind fun v30=>(some (.inl ((w64 (v24.1-1)),(lset (lset v24.2 v24.1 v26) (w64 (v24.1-1)) v28)))))))))) else (some (.inr v24.2)))
def kdu (x1:Int) (x3:((Pile×Pile)→Option Int)) (x4:(List Pile)) (v32:Int) (v34:(Int×Int)):Option ((Int×Int)⊕Int):=
 (if (decide (v34.1<v34.2))=true then ((gshr .u64 (IntKind.wrap .u64 (w64 (v34.1+v34.2))) 1).bind fun v35=>((gi x4 (w64 ((w64 ((w64 ((w64 v32)+x1))-1))-(w64 v35)))).bind fun v36=>((gi x4 (w64 ((w64 ((w64 ((w64 v32)+x1))-1))-(w64 v35)))).bind fun v37=>((gi x4 (w64 v35)).bind fun v38=>((gi x4 (w64 v35)).bind fun v39=>((x3 (v37,v39)).bind fun v40=>(if (!(decide (v40<0)))=true then (some (.inl ((w64 ((w64 v35)+1)),v34.2))) else (some (.inl (v34.1,(w64 v35))))))))))) else (some (.inr v34.1)))
def kdC (rec_slices_symMergeCmpFunc_sort_pile_m12:Int→Int→Int→((Pile×Pile)→Option Int)→(List Pile)→Option (List Pile)) (x0:Int) (x1:Int) (x2:Int) (x3:((Pile×Pile)→Option Int)) (x4:(List Pile)):Option (List Pile):=
 (if ((w64 (x1-x0))==1)=true then ((iter (kdq x0 x3 x4) (x1,x2)).bind fun v7=>((iter (kdo v7) (x0,x4)).bind fun v15=>(some v15))) else (if ((w64 (x2-x1))==1)=true then ((iter (kdg x1 x3 x4) (x0,x1)).bind fun v23=>((iter (kdj v23) (x1,x4)).bind fun v31=>(some v31))) else ((gshr .u64 (IntKind.wrap .u64 (w64 (x0+x2))) 1).bind fun v32=>((if (decide ((w64 v32)<x1))=true then (some ((w64 ((w64 ((w64 v32)+x1))-x2)),(w64 v32))) else (some (x0,x1))).bind fun v33=>((iter (kdu x1 x3 x4 v32) v33).bind fun v41=>((if (decide (v41<x1))=true then (some (decide (x1<(w64 ((w64 ((w64 v32)+x1))-v41))))) else (some false)).bind fun v42=>((if v42=true then ((kbQ v41 x1 (w64 ((w64 ((w64 v32)+x1))-v41)) x3 x4).bind fun v43=>(some v43)) else (some x4)).bind fun v44=>((if (decide (x0<v41))=true then (some (decide (v41<(w64 v32)))) else (some false)).bind fun v45=>((if v45=true then ((rec_slices_symMergeCmpFunc_sort_pile_m12 x0 v41 (w64 v32) x3 v44).bind fun v46=>(some v46)) else (some v44)).bind fun v47=>(if (decide ((w64 v32)<(w64 ((w64 ((w64 v32)+x1))-v41))))=true then (if (decide ((w64 ((w64 ((w64 v32)+x1))-v41))<x2))=true then ((rec_slices_symMergeCmpFunc_sort_pile_m12 (w64 v32) (w64 ((w64 ((w64 v32)+x1))-v41)) x2 x3 v47).bind fun v48=>(some v48)) else (some v47)) else (some v47)))))))))))
def kaN:Nat→Int→Int→Int→((Pile×Pile)→Option Int)→(List Pile)→Option (List Pile)
 | 0,_,_,_,_,_=>none
 | k+1,x0,x1,x2,x3,x4=>kdC (kaN k) x0 x1 x2 x3 x4
def kaY (x0:Int) (x1:Int) (x2:Int) (x3:((Pile×Pile)→Option Int)) (x4:(List Pile)):Option (List Pile):=kaN 1000000 x0 x1 x2 x3 x4
def kaS (x0:Int) (x1:((Pile×Pile)→Option Int)) (v0:(Int×Int×(List Pile))):Option ((Int×Int×(List Pile))⊕(Int×(List Pile))):=
 (if (decide (v0.1≤x0))=true then ((kas v0.2.1 v0.1 x1 v0.2.2).bind fun v1=>(some (.inl ((w64 (v0.1+20)),v0.1,v1)))) else (some (.inr v0.2)))
def kdL (x0:Int) (x1:((Pile×Pile)→Option Int)) (v4:(Int×(List Pile))) (v5:(Int×Int×(List Pile))):Option ((Int×Int×(List Pile))⊕(Int×(List Pile))):=
 (if (decide (v5.1≤x0))=true then ((kaY v5.2.1 (w64 (v5.2.1+v4.1)) v5.1 x1 v5.2.2).bind fun v6=>(some (.inl ((w64 (v5.1+(w64 (2*v4.1)))),v5.1,v6)))) else (some (.inr v5.2)))
def kaR (x0:Int) (x1:((Pile×Pile)→Option Int)) (v4:(Int×(List Pile))):Option ((Int×(List Pile))⊕(List Pile)):=
 (if (decide (v4.1<x0))=true then ((iter (kdL x0 x1 v4) ((w64 (2*v4.1)),0,v4.2)).bind fun v7=>(if (decide ((w64 (v7.1+v4.1))<x0))=true then ((kaY v7.1 (w64 (v7.1+v4.1)) x0 x1 v7.2).bind fun v8=>(some (.inl ((w64 (v4.1*2)),v8)))) else (some (.inl ((w64 (v4.1*2)),v7.2))))) else (some (.inr v4.2)))
def kbf (x0:Int) (x1:((Pile×Pile)→Option Int)) (x2:(List Pile)):Option (List Pile):=
 ((iter (kaS x0 x1) (20,0,x2)).bind fun v2=>((kas v2.1 x0 x1 v2.2).bind fun v3=>((iter (kaR x0 x1) (20,v3)).bind fun v9=>(some v9))))
def kaz (x0:((Pile×Pile)→Option Int)) (x1:(List Pile)):Option (List Pile):=
 ((kbf (lenI x1) x0 x1).bind fun v0=>(some v0))
def kaK (x0:((Pile×Pile)→Option Int)) (x1:(List Pile)):Option (List Pile):=
 ((kaz x0 x1).bind fun v0=>(some v0))
def kdU (x0:(List Int)) (v1:(Int×(List Pile))):Option ((Int×(List Pile))⊕(List Pile)):=
 (if (decide (v1.1<(lenI x0)))=true then ((gi x0 v1.1).bind fun v2=>((gapp v1.2 [(v2,[v1.1])]).bind fun v3=>(some (.inl ((w64 (v1.1+1)),v3))))) else (some (.inr v1.2)))
def kcH (x1:Int) (v5:(List Pile)):Option ((List Pile)⊕(List Pile)):=
 ((grem (w64 ((lenI v5)-1)) (w64 (x1-1))).bind fun v6=>(if (v6 != 0)=true then ((gapp v5 [(0,[])]).bind fun v7=>(some (.inl v7))) else (some (.inr v5))))
def kdS (x1:Int) (v11:(Int×(List Pile)×(List Int))) (v13:Fed):Option (Fed⊕Pile):=
 (if (decide (v13.1<(x1-0)))=true then ((gmi 0 (x1-0) v13.1).bind fun v14=>((gi v11.2.1 v14).bind fun v15=>((gapp v13.2.2 v15.2).bind fun v16=>(some (.inl ((w64 (v13.1+1)),(w64 (v13.2.1+v15.1)),v16)))))) else (some (.inr v13.2)))
def kcP (v17:Pile) (v18:Pile):Option (Pile⊕(List Int)):=
 (if (decide (v18.1<(lenI v17.2)))=true then ((gi v17.2 v18.1).bind fun v19=>((gi v17.2 v18.1).bind fun v20=>((gi v18.2 v20).bind fun v21=>((gi v18.2 v20).bind fun v22=>((gi v18.2 v20).bind fun v23=>(some (.inl ((w64 (v18.1+1)),(lset v18.2 v20 (w64 (v22+1))))))))))) else (some (.inr v18.2)))
def kcj (x1:Int) (v11:(Int×(List Pile)×(List Int))):Option ((Int×(List Pile)×(List Int))⊕Pile):=
 (if (decide (1<(lenI v11.2.1)))=true then ((gsl v11.2.1 0 x1).bind fun v12=>((iter (kdS x1 v11) (0,0,[])).bind fun v17=>((iter (kcP v17) (0,v11.2.2)).bind fun v24=>((gsl v11.2.1 x1 (lenI v11.2.1)).bind fun v25=>((kaj ((List.drop (Int.toNat x1) v11.2.1).take (Int.toNat ((lenI v11.2.1)-x1))) v17 (fun (u0:(Pile×Pile))=>((kbI u0.1 u0.2).bind fun u1=>(some u1)))).bind fun v26=>((gmk (w64 (((lenI v11.2.1)-x1)+1)) (0,[])).bind fun v27=>((gmb ((lenI v11.2.1)-x1) 0 v26.1).bind fun v28=>((gi (lcopy v27 0 (lenI v27) ((List.drop (Int.toNat (x1+0)) v11.2.1).take (Int.toNat (v26.1-0)))) v26.1).bind fun v29=>((gsl (lset (lcopy v27 0 (lenI v27) ((List.drop (Int.toNat (x1+0)) v11.2.1).take (Int.toNat (v26.1-0)))) v26.1 v17) (w64 (v26.1+1)) (lenI (lset (lcopy v27 0 (lenI v27) ((List.drop (Int.toNat (x1+0)) v11.2.1).take (Int.toNat (v26.1-0)))) v26.1 v17))).bind fun v30=>((gmb ((lenI v11.2.1)-x1) v26.1 ((lenI v11.2.1)-x1)).bind fun v31=>(some (.inl ((w64 (v11.1+v17.1)),(knq (lset (lcopy v27 0 (lenI v27) ((List.drop (Int.toNat (x1+0)) v11.2.1).take (Int.toNat (v26.1-0)))) v26.1 v17) ((w64 (v26.1+1)),((lenI (lset (lcopy v27 0 (lenI v27) ((List.drop (Int.toNat (x1+0)) v11.2.1).take (Int.toNat (v26.1-0)))) v26.1 v17))-(w64 (v26.1+1)))) ((List.drop (Int.toNat (x1+v26.1)) v11.2.1).take (Int.toNat (((lenI v11.2.1)-x1)-v26.1)))),v24))))))))))))) else (some (.inr (v11.1,v11.2.2))))
def kcV (x0:(List Int)) (x1:Int):Option ((List Int)×Int×Int):=
 ((kds x0 x1).bind fun v0=>(if (!v0)=true then (some ([],0,2)) else ((iter (kdU x0) (0,[])).bind fun v4=>((iter (kcH x1) v4).bind fun v8=>((gmk (lenI x0) 0).bind fun v9=>((kaK (fun (u0:(Pile×Pile))=>((kbI u0.1 u0.2).bind fun u1=>(some u1))) v8).bind fun v10=>((iter (kcj x1) (0,v10,v9)).bind fun v32=>(some (v32.2,v32.1,0)))))))))
def kja (x0:(List (Int×Int×Int))) (x1:(List (Int×Int×Int))) (v0:Int):Option (Int⊕(Bool⊕Unit)):=
 (if (decide (v0<(lenI x0)))=true then ((gi x0 v0).bind fun v1=>((gi x1 v0).bind fun v2=>(if (!((v1.1==v2.1)&&((v1.2.1==v2.2.1)&&(v1.2.2==v2.2.2))))=true then (some (.inr (.inl false))) else (some (.inl (w64 (v0+1))))))) else (some (.inr (.inr ()))))
def keT (x0:(List (Int×Int×Int))) (x1:(List (Int×Int×Int))):Option Bool:=
 (if ((lenI x0) != (lenI x1))=true then (some false) else ((iter (kja x0 x1) 0).bind fun v3=>(match v3 with | .inl v4=>(some v4) | .inr v5=>(some true))))
def kiq (x0:(List (Int×Int×Bool))) (x1:(List (Int×Int×Bool))) (v0:Int):Option (Int⊕(Bool⊕Unit)):=
 (if (decide (v0<(lenI x0)))=true then ((gi x0 v0).bind fun v1=>((gi x1 v0).bind fun v2=>(if (!((v1.1==v2.1)&&((v1.2.1==v2.2.1)&&(v1.2.2==v2.2.2))))=true then (some (.inr (.inl false))) else (some (.inl (w64 (v0+1))))))) else (some (.inr (.inr ()))))
def kgn (x0:(List (Int×Int×Bool))) (x1:(List (Int×Int×Bool))):Option Bool:=
 (if ((lenI x0) != (lenI x1))=true then (some false) else ((iter (kiq x0 x1) 0).bind fun v3=>(match v3 with | .inl v4=>(some v4) | .inr v5=>(some true))))
def kjv (x0:(List Int)) (x1:(List Int)) (v0:Int):Option (Int⊕(Bool⊕Unit)):=
 (if (decide (v0<(lenI x0)))=true then ((gi x0 v0).bind fun v1=>((gi x1 v0).bind fun v2=>(if (v1 != v2)=true then (some (.inr (.inl false))) else (some (.inl (w64 (v0+1))))))) else (some (.inr (.inr ()))))
def khH (x0:(List Int)) (x1:(List Int)):Option Bool:=
 (if ((lenI x0) != (lenI x1))=true then (some false) else ((iter (kjv x0 x1) 0).bind fun v3=>(match v3 with | .inl v4=>(some v4) | .inr v5=>(some true))))
def kji:Option Bool:=
 (law09_belt.bind fun v0=>((kcs 0 0).bind fun v1=>((kcs 6 1).bind fun v2=>((kcs 12 2).bind fun v3=>((kiP v0 [v1,v2,v3]).bind fun v4=>(law09_belt.bind fun v5=>((kcs 0 0).bind fun v6=>((kcs 4 1).bind fun v7=>((kiP v5 [v6,v7]).bind fun v8=>(law09_belt.bind fun v9=>((kcs 0 0).bind fun v10=>((kcs 6 1).bind fun v11=>((kcs 12 2).bind fun v12=>((kjK v9 [v10,v11,v12]).bind fun v13=>(law09_table.bind fun v14=>((kjl v14 0 2).bind fun v15=>((kcV [5,4,3] 2).bind fun v16=>(if (v4.2 != 0)=true then (some false) else ((keT v4.1 [(0,0,10),(1,1,21),(2,(-1),32)]).bind fun v17=>(if (!v17)=true then (some false) else (if (v8.2 != 0)=true then (some false) else ((keT v8.1 [(0,(-1),20),(1,(-1),24)]).bind fun v18=>(if (!v18)=true then (some false) else (if (v13.2==0)=true then ((kgn v13.1 [(8,0,true),(11,0,false),(19,1,true),(22,1,false)]).bind fun v19=>(if v19=true then (if (v15.2==0)=true then ((khH v15.1 [900000,7500,92500]).bind fun v20=>(if v20=true then (if (v16.2.2==0)=true then (some (v16.2.1==19)) else (some false)) else (some false))) else (some false)) else (some false))) else (some false)))))))))))))))))))))))))
def law09_alive:Option Bool:=some true
theorem krt:kji=law09_alive:=by kernel_rfl
def kef (x2:Int) (v2:(Int×Int)):Option ((Int×Int)⊕Int):=
 (if (decide (v2.1<11))=true then (some (.inl ((w64 (v2.1+1)),(w64 (v2.2*x2))))) else (some (.inr v2.2)))
def kdR (x2:Int) (v5:Int) (v6:(Int×Int)):Option ((Int×Int)⊕Int):=
 (if (decide (v6.1<v5))=true then ((gquo .i64 v6.2 x2).bind fun v7=>(some (.inl ((w64 (v6.1+1)),v7)))) else (some (.inr v6.2)))
def kea (x0:(List Int)) (x1:(List Int)) (x2:Int) (v3:Int) (v4:(Int×Int×Int)):Option ((Int×Int×Int)⊕(Int×Int)):=
 (if (decide (v4.1<(lenI x1)))=true then ((gi x1 v4.1).bind fun v5=>((iter (kdR x2 v5) (0,v3)).bind fun v8=>((gi x0 v4.1).bind fun v9=>(some (.inl ((w64 (v4.1+1)),(w64 (v4.2.1-v8)),(w64 (v4.2.2+(w64 (v9*v5)))))))))) else (some (.inr v4.2)))
def kfJ (x0:(List Int)) (x1:(List Int)) (x2:Int):Option (Int×Int):=
 ((kds x0 x2).bind fun v0=>(if (!v0)=true then (some (0,2)) else (if ((lenI x1) != (lenI x0))=true then (some (0,2)) else ((kav 0 11 x1).bind fun v1=>(if (!v1)=true then (some (0,2)) else ((iter (kef x2) (0,1)).bind fun v3=>((iter (kea x0 x1 x2 v3) (0,v3,0)).bind fun v10=>(if (decide (v10.1<0))=true then (some (0,6)) else (some (v10.2,0))))))))))
def kck (x0:(List Int)) (v0:(Int×Int)) (v1:(Int×Int)):Option ((Int×Int)⊕Int):=
 (if (decide (v1.1<(lenI x0)))=true then ((gi x0 v1.1).bind fun v2=>(if (v2==v0.1)=true then (some (.inl ((w64 (v1.1+1)),(w64 (v1.2-1))))) else (some (.inl ((w64 (v1.1+1)),v1.2))))) else (some (.inr v1.2)))
def kcK (x0:(List Int)) (x1:Int) (v0:(Int×Int)):Option ((Int×Int)⊕(Bool⊕Unit)):=
 (if (decide (v0.1≤11))=true then ((iter (kck x0 v0) (0,v0.2)).bind fun v3=>(if (decide (v3<0))=true then (some (.inr (.inl false))) else (some (.inl ((w64 (v0.1+1)),(imin (w64 (v3*x1)) 100)))))) else (some (.inr (.inr ()))))
def kgW (x0:(List Int)) (x1:Int):Option Bool:=
 ((iter (kcK x0 x1) (0,1)).bind fun v4=>(match v4 with | .inl v5=>(some v5) | .inr v6=>(some true)))
def kfd (x0:(List Int)) (x1:(List Int)) (x2:Int):Option Bool:=
 (law09_alive.bind fun v0=>(if (decide (20<(lenI x0)))=true then (some v0) else (if (decide (20<(lenI x1)))=true then (some v0) else (if (!v0)=true then (some v0) else ((kcV x0 x2).bind fun v1=>(if (v1.2.2 != 0)=true then ((if v0=true then (if ((lenI v1.1)==0)=true then (some (v1.2.1==0)) else (some false)) else (some false)).bind fun v2=>(some v2)) else ((kfJ x0 v1.1 x2).bind fun v3=>(if (v3.2 != 0)=true then (some false) else (if (v3.1 != v1.2.1)=true then (some false) else ((kgW v1.1 x2).bind fun v4=>(if (!v4)=true then (some false) else ((kfJ x0 x1 x2).bind fun v5=>((if (v5.2==0)=true then (some (decide (v5.1<v1.2.1))) else (some false)).bind fun v6=>(if v6=true then (some false) else ((kcV x0 (w64 (x2+1))).bind fun v7=>(if v0=true then (if (v7.2.2 != 0)=true then (some true) else (some (decide (v7.2.1≤v1.2.1)))) else (some false)))))))))))))))))
end Go.Abs
set_option maxRecDepth 100000
namespace Go.Abs
open Go Go.Proofs
def kiO:Ctr:=⟨ "",[],[tBelt],fun x=>law09_belt,[],[]⟩
theorem kln:Good Try.prog 77 kiO:=
 kan Try.func77 (by kernel_rfl) (An:=[(0,⟨⟨[(8,.c (.i .i64)),(1,.ptr 8 0)],[(8,.bx 25 [.c (.i .i64),.c (.i .i64),.c (.i .i64),.mw 3,.mw 5]),(5,.sl 3 (.i .i64))]⟩,⟨[(1,.ptr 9 0)],[(9,.bx 25 [.c (.i .i64),.c (.i .i64),.c (.i .i64),.mw 3,.mw 10]),(10,.sl 3 (.i .i64))]⟩,[0],[3,2,0,1],11,false,""⟩),(49,⟨⟨[],[]⟩,⟨[(3,.c (.i .i64))],[]⟩,[2,1,8],[8,5],9,false,""⟩)]) [] (.nil) (fun x=>by kernel_rfl)
def kjR:Ctr:=⟨ "",[(.i .i64),(.i .i64)],[tFed],fun x=>kcs x.1 x.2,[],[]⟩
theorem klU:Good Try.prog 78 kjR:=
 kan Try.func78 (by kernel_rfl) (An:=[]) [] (.nil) (fun x=>by kernel_rfl)
def kht:Ctr:=⟨ "",[(.i .i64),(.pt (.i .i64)),(.pt (.i .i64))],[.b],fun x=>keO x.1 x.2.1 x.2.2,[],[]⟩
theorem kjB:Good Try.prog 82 kht:=
 kan Try.func82 (by kernel_rfl) (An:=[]) [] (.nil) (fun x=>by kernel_rfl)
def kcQ:Ctr:=⟨ "",[(.sl (.i .i64)),(.fn 1 (.i .i64) .b)],[(.i .i64)],fun x=>kbM x.1 x.2,[],[]⟩
theorem keI:Good Try.prog 93 kcQ:=
 kan Try.func93 (by kernel_rfl) (An:=[(0,⟨⟨[(8,.c (.i .i64))],[]⟩,⟨[],[]⟩,[7,1,0],[],0,true,""⟩)]) [] (.nil) (fun x=>by kernel_rfl)
def kcn:Ctr:=⟨ "",[(.sl (.i .i64)),(.fn 1 (.i .i64) .b)],[.b],fun x=>kaU x.1 x.2,[],[]⟩
theorem kes:Good Try.prog 81 kcn:=
 kan Try.func81 (by kernel_rfl) (An:=[]) [(93,kcQ)] (.cons keI <| .nil) (fun x=>by kernel_rfl)
def kcd:Ctr:=⟨ "",[(.i .i64),(.i .i64),(.sl (.i .i64))],[.b],fun x=>kav x.1 x.2.1 x.2.2,[],[]⟩
theorem kbz:Good Try.prog 54 kcd:=
 kan Try.func54 (by kernel_rfl) (An:=[]) [(81,kcn),(82,kht)] (.cons kes <| .cons kjB <| .nil) (fun x=>by kernel_rfl)
def kgG:Ctr:=⟨ "",[tBelt],[(.i .i64)],fun x=>khh x,[],[]⟩
theorem kir:Good Try.prog 18 kgG:=
 kan Try.func18 (by kernel_rfl) (An:=[(0,⟨⟨[(52,.c (.i .i64)),(3,.c (.i .i64)),(4,.mp 4)],[(4,.mp (.i .i64) .b)]⟩,⟨[],[]⟩,[51,50,1],[0],5,true,""⟩)]) [(54,kcd)] (.cons kbz <| .nil) (fun x=>by kernel_rfl)
def kjF:Ctr:=⟨ "",[(.sl (.i .i64))],[.b],fun x=>kmt x,[],[]⟩
theorem klO:Good Try.prog 50 kjF:=
 kan Try.func50 (by kernel_rfl) (An:=[]) [(54,kcd)] (.cons kbz <| .nil) (fun x=>by kernel_rfl)
def kgX:Ctr:=⟨ "",[(.sl tFed)],[(.i .i64)],fun x=>kij x,[],[]⟩
theorem kiF:Good Try.prog 20 kgX:=
 kan Try.func20 (by kernel_rfl) (An:=[(0,⟨⟨[(11,.c (.i .i64)),(3,.c (.i .i64))],[]⟩,⟨[],[]⟩,[10,9],[],0,true,""⟩)]) [(50,kjF),(54,kcd)] (.cons klO <| .cons kbz <| .nil) (fun x=>by kernel_rfl)
def kia:Ctr:=⟨ "",[tBelt,(.sl tFed)],[(.op tLine),(.i .i64)],fun x=>kky x.1 x.2,[],[]⟩
theorem kip:Good Try.prog 59 kia:=
 kan Try.func59 (by kernel_rfl) (An:=[(41,⟨⟨[],[]⟩,⟨[(6,.c (.i .i64))],[]⟩,[1,2],[0],1,false,""⟩)]) [(20,kgX),(18,kgG)] (.cons kiF <| .cons kir <| .nil) (fun x=>by kernel_rfl)
def kfu:Ctr:=⟨ "",[(.sl (.i .i64))],[(.i .i64)],fun x=>kgL x,[],[]⟩
theorem kfl:Good Try.prog 51 kfu:=
 kan Try.func51 (by kernel_rfl) (An:=[(0,⟨⟨[(12,.c (.i .i64)),(3,.ptr 0 0)],[(0,.el 130 (.ar 16 (.i .i64)))]⟩,⟨[(3,.ptr 1 0)],[(1,.el 130 (.ar 16 (.i .i64)))]⟩,[11,10],[],2,false,""⟩),(8,⟨⟨[(25,.c (.i .i64)),(7,.c (.i .i64)),(6,.c (.i .i64))],[]⟩,⟨[(6,.c (.i .i64))],[]⟩,[24],[],2,false,""⟩)]) [] (.nil) (fun x=>by kernel_rfl)
def kfa:Ctr:=⟨ "",[(.pr (.i .i64) (.i .i64)),(.pt (.op tLine)),(.pt (.i .i64))],[.b],fun x=>kfU x.1 x.2.1 x.2.2,[],[]⟩
theorem kgZ:Good Try.prog 103 kfa:=
 kan Try.func103 (by kernel_rfl) (An:=[]) [] (.nil) (fun x=>by kernel_rfl)
def kby:Ctr:=⟨ "",[(.sl (.pr (.i .i64) (.i .i64))),(.fn 1 (.pr (.i .i64) (.i .i64)) .b)],[(.i .i64)],fun x=>kbF x.1 x.2,[],[]⟩
theorem kcS:Good Try.prog 102 kby:=
 kan Try.func102 (by kernel_rfl) (An:=[(0,⟨⟨[(8,.c (.i .i64))],[]⟩,⟨[],[]⟩,[7,1,0],[],0,true,""⟩)]) [] (.nil) (fun x=>by kernel_rfl)
def keD:Ctr:=⟨ "",[(.op tLine),tFed],[(.i .i64)],fun x=>kfk x.1 x.2,[],[]⟩
theorem kfb:Good Try.prog 95 keD:=
 kan Try.func95 (by kernel_rfl) (An:=[]) [(102,kby),(103,kfa),(51,kfu)] (.cons kcS <| .cons kgZ <| .cons kfl <| .nil) (fun x=>by kernel_rfl)
def keG:Ctr:=⟨ "",[tFed,(.pt (.op tLine)),(.pt (.i .i64))],[.b],fun x=>kfc x.1 x.2.1 x.2.2,[],[]⟩
theorem kgv:Good Try.prog 96 keG:=
 kan Try.func96 (by kernel_rfl) (An:=[]) [(95,keD)] (.cons kfb <| .nil) (fun x=>by kernel_rfl)
def kbK:Ctr:=⟨ "",[(.sl tFed),(.fn 1 tFed .b)],[(.i .i64)],fun x=>kbP x.1 x.2,[],[]⟩
theorem kdp:Good Try.prog 104 kbK:=
 kan Try.func104 (by kernel_rfl) (An:=[(0,⟨⟨[(8,.c (.i .i64))],[]⟩,⟨[],[]⟩,[7,1,0],[],0,true,""⟩)]) [] (.nil) (fun x=>by kernel_rfl)
def kbv:Ctr:=⟨ "",[(.sl tFed),(.fn 1 tFed .b)],[.b],fun x=>kbC x.1 x.2,[],[]⟩
theorem kcM:Good Try.prog 97 kbv:=
 kan Try.func97 (by kernel_rfl) (An:=[]) [(104,kbK)] (.cons kdp <| .nil) (fun x=>by kernel_rfl)
def kfz:Ctr:=⟨ "",[(.op tLine),(.sl tFed)],[(.i .i64)],fun x=>kgk x.1 x.2,[],[]⟩
theorem khl:Good Try.prog 89 kfz:=
 kan Try.func89 (by kernel_rfl) (An:=[(7,⟨⟨[],[]⟩,⟨[],[]⟩,[0],[0],0,false,""⟩)]) [(97,kbv),(96,keG),(95,keD)] (.cons kcM <| .cons kgv <| .cons kfb <| .nil) (fun x=>by kernel_rfl)
def ker:CtrI:=⟨ "",[(.pt (.op tLine))],[(.i .i64),(.sl tFed)],fun x=>runI fun o=>kcm o x⟩
theorem kfR:GoodI Try.prog 88 ker:=
 krj Try.func88 (by kernel_rfl) (An:=[(0,⟨⟨[(3,.c (.sl tFed)),(9000000,.gs (.pr (.i .i64) (.sl tFed)))],[]⟩,⟨[(9000000,.gs (.pr (.i .i64) (.sl tFed)))],[]⟩,[1],[],1,true,""⟩),(8,⟨⟨[(4,.c (.i .i64))],[]⟩,⟨[(4,.c (.i .i64))],[]⟩,[3,9000000],[],1,false,""⟩)]) [(89,kfz)] (.cons khl <| .nil) (fun x=>by kernel_rfl)
def kbx:Ctr:=⟨ "",[],[],fun _=>none,[],[ker]⟩
theorem kbN:Good Try.prog 88 kbx:=good_dm.moreI kfR
def sort_line_clusters_m0_M:CtrM:=⟨ "",[some (.op tLine)],⟨[],[]⟩,0,⟨[(1000000,.fn 88 [.ptr 0 0])],[(0,.bx 100 [.c (.op tLine)])]⟩,1,1,fun x=>kcL x⟩
theorem kfP:sort_line_clusters_m0_M.ok=true∧GoodM Try.prog 70 sort_line_clusters_m0_M:=
 kbe Try.func70 (by kernel_rfl) (An:=[]) [(88,kbx)] (.cons kbN <| .nil) (fun x=>by kernel_rfl)
def sort_line_clusters_C:Ctr:=⟨ "",[],[],fun _=>none,[],[]⟩
theorem sort_line_clusters_C_ok:Good Try.prog 70 sort_line_clusters_C:=good_dm
def kcI:Ctr:=⟨ "",sort_line_clusters_C.as,sort_line_clusters_C.rs,sort_line_clusters_C.F,sort_line_clusters_m0_M::sort_line_clusters_C.mus,sort_line_clusters_C.its⟩
theorem kej:Good Try.prog 70 kcI:=sort_line_clusters_C_ok.more kfP
def kjX:Ctr:=⟨ "",[tBelt,(.sl tFed)],[(.sl (.pr (.i .i64) (.pr (.i .i64) (.i .i64)))),(.i .i64)],fun x=>kiP x.1 x.2,[],[]⟩
theorem klz:Good Try.prog 39 kjX:=
 kan Try.func39 (by kernel_rfl) (An:=[(0,⟨⟨[],[(3,.bx 57 [.mw 2]),(2,.sl 86 (.pr (.i .i64) (.pr (.i .i64) (.i .i64))))]⟩,⟨[],[(3,.bx 57 [.mw 6]),(6,.sl 86 (.pr (.i .i64) (.pr (.i .i64) (.i .i64))))]⟩,[24,8,2],[0],7,false,""⟩),(8,⟨⟨[(29,.c (.i .i64))],[(3,.bx 57 [.mw 2]),(2,.sl 86 (.pr (.i .i64) (.pr (.i .i64) (.i .i64))))]⟩,⟨[],[(3,.bx 57 [.mw 6]),(6,.sl 86 (.pr (.i .i64) (.pr (.i .i64) (.i .i64))))]⟩,[28,27,9],[],7,false,""⟩),(47,⟨⟨[],[]⟩,⟨[],[]⟩,[0,6,5,3,2],[0,6,5,3,2],0,false,""⟩),(55,⟨⟨[],[]⟩,⟨[],[]⟩,[0,7,6,5,3,2],[0,6,5,3,2],0,false,""⟩)]) [(70,kcI),(88,kbx),(51,kfu),(59,kia)] (.cons kej <| .cons kbN <| .cons kfl <| .cons kip <| .nil) (fun x=>by kernel_rfl)
def kgV:Ctr:=⟨ "",[(.i .i64)],[.b],fun x=>kfT x,[],[]⟩
theorem kiT:Good Try.prog 99 kgV:=
 kan Try.func99 (by kernel_rfl) (An:=[]) [] (.nil) (fun x=>by kernel_rfl)
def kfV:Ctr:=⟨ "",[(.i .i64),(.i .i64)],[(.i .i64)],fun x=>keY x.1 x.2,[],[]⟩
theorem kib:Good Try.prog 92 kfV:=
 kan Try.func92 (by kernel_rfl) (An:=[]) [(99,kgV)] (.cons kiT <| .nil) (fun x=>by kernel_rfl)
def kgw:Ctr:=⟨ "",[(.sl (.i .i64))],[(.i .i64)],fun x=>keV x,[],[]⟩
theorem kgS:Good Try.prog 67 kgw:=
 kan Try.func67 (by kernel_rfl) (An:=[(0,⟨⟨[(8,.c (.i .i64))],[]⟩,⟨[],[]⟩,[7,6,3],[],0,true,""⟩)]) [] (.nil) (fun x=>by kernel_rfl)
def kiU:Ctr:=⟨ "",[(.pr (.i .i64) (.pr (.i .i64) .b)),(.pr (.i .i64) (.pr (.i .i64) .b))],[(.i .i64)],fun x=>kkR x.1 x.2,[],[]⟩
theorem kkQ:Good Try.prog 73 kiU:=
 kan Try.func73 (by kernel_rfl) (An:=[]) [(67,kgw),(92,kfV)] (.cons kgS <| .cons kib <| .nil) (fun x=>by kernel_rfl)
def slices_insertionSortCmpFunc_api_Swing_m1_M:CtrM:=⟨ "",[none,some (.i .i64),some (.i .i64),some (.fn 2 (.pr (.pr (.i .i64) (.pr (.i .i64) .b)) (.pr (.i .i64) (.pr (.i .i64) .b))) (.i .i64))],⟨[(0,.mw 0)],[(0,.sl 107 (.pr (.i .i64) (.pr (.i .i64) .b)))]⟩,1,⟨[(0,.mw 0)],[(0,.sl 107 (.pr (.i .i64) (.pr (.i .i64) .b)))]⟩,1,0,fun x=>kaI x.1 x.2.1 x.2.2.1 x.2.2.2⟩
theorem kct:slices_insertionSortCmpFunc_api_Swing_m1_M.ok=true∧GoodM Try.prog 105 slices_insertionSortCmpFunc_api_Swing_m1_M:=
 kbe Try.func105 (by kernel_rfl) (An:=[(0,⟨⟨[(8,.c (.i .i64))],[(0,.sl 107 (.pr (.i .i64) (.pr (.i .i64) .b)))]⟩,⟨[],[(0,.sl 107 (.pr (.i .i64) (.pr (.i .i64) .b)))]⟩,[2,1,3],[],2,false,""⟩),(8,⟨⟨[(9,.c (.i .i64))],[(0,.sl 107 (.pr (.i .i64) (.pr (.i .i64) .b)))]⟩,⟨[],[(0,.sl 107 (.pr (.i .i64) (.pr (.i .i64) .b)))]⟩,[8],[],2,false,""⟩),(27,⟨⟨[],[]⟩,⟨[],[]⟩,[],[],0,false,""⟩)]) [] (.nil) (fun x=>by kernel_rfl)
def slices_insertionSortCmpFunc_api_Swing_C:Ctr:=⟨ "",[],[],fun _=>none,[],[]⟩
theorem slices_insertionSortCmpFunc_api_Swing_C_ok:Good Try.prog 105 slices_insertionSortCmpFunc_api_Swing_C:=good_dm
def kbq:Ctr:=⟨ "",slices_insertionSortCmpFunc_api_Swing_C.as,slices_insertionSortCmpFunc_api_Swing_C.rs,slices_insertionSortCmpFunc_api_Swing_C.F,slices_insertionSortCmpFunc_api_Swing_m1_M::slices_insertionSortCmpFunc_api_Swing_C.mus,slices_insertionSortCmpFunc_api_Swing_C.its⟩
theorem kcE:Good Try.prog 105 kbq:=slices_insertionSortCmpFunc_api_Swing_C_ok.more kct
def slices_swapRangeCmpFunc_api_Swing_m2_M:CtrM:=⟨ "",[none,some (.i .i64),some (.i .i64),some (.i .i64),some (.fn 2 (.pr (.pr (.i .i64) (.pr (.i .i64) .b)) (.pr (.i .i64) (.pr (.i .i64) .b))) (.i .i64))],⟨[(0,.mw 0)],[(0,.sl 107 (.pr (.i .i64) (.pr (.i .i64) .b)))]⟩,1,⟨[(0,.mw 0)],[(0,.sl 107 (.pr (.i .i64) (.pr (.i .i64) .b)))]⟩,1,0,fun x=>kaD x.1 x.2.1 x.2.2.1 x.2.2.2.1 x.2.2.2.2⟩
theorem kcT:slices_swapRangeCmpFunc_api_Swing_m2_M.ok=true∧GoodM Try.prog 110 slices_swapRangeCmpFunc_api_Swing_m2_M:=
 kbe Try.func110 (by kernel_rfl) (An:=[(0,⟨⟨[(10,.c (.i .i64))],[(0,.sl 107 (.pr (.i .i64) (.pr (.i .i64) .b)))]⟩,⟨[],[(0,.sl 107 (.pr (.i .i64) (.pr (.i .i64) .b)))]⟩,[3,1,2],[],2,false,""⟩),(15,⟨⟨[],[]⟩,⟨[],[]⟩,[],[],0,false,""⟩)]) [] (.nil) (fun x=>by kernel_rfl)
def slices_swapRangeCmpFunc_api_Swing_C:Ctr:=⟨ "",[],[],fun _=>none,[],[]⟩
theorem slices_swapRangeCmpFunc_api_Swing_C_ok:Good Try.prog 110 slices_swapRangeCmpFunc_api_Swing_C:=good_dm
def kbE:Ctr:=⟨ "",slices_swapRangeCmpFunc_api_Swing_C.as,slices_swapRangeCmpFunc_api_Swing_C.rs,slices_swapRangeCmpFunc_api_Swing_C.F,slices_swapRangeCmpFunc_api_Swing_m2_M::slices_swapRangeCmpFunc_api_Swing_C.mus,slices_swapRangeCmpFunc_api_Swing_C.its⟩
theorem kdl:Good Try.prog 110 kbE:=slices_swapRangeCmpFunc_api_Swing_C_ok.more kcT
def slices_rotateCmpFunc_api_Swing_m3_M:CtrM:=⟨ "",[none,some (.i .i64),some (.i .i64),some (.i .i64),some (.fn 2 (.pr (.pr (.i .i64) (.pr (.i .i64) .b)) (.pr (.i .i64) (.pr (.i .i64) .b))) (.i .i64))],⟨[(0,.mw 0)],[(0,.sl 107 (.pr (.i .i64) (.pr (.i .i64) .b)))]⟩,1,⟨[(0,.mw 0)],[(0,.sl 107 (.pr (.i .i64) (.pr (.i .i64) .b)))]⟩,1,0,fun x=>kca x.1 x.2.1 x.2.2.1 x.2.2.2.1 x.2.2.2.2⟩
theorem kdz:slices_rotateCmpFunc_api_Swing_m3_M.ok=true∧GoodM Try.prog 108 slices_rotateCmpFunc_api_Swing_m3_M:=
 kbe Try.func108 (by kernel_rfl) (An:=[(0,⟨⟨[(10,.c (.i .i64)),(11,.c (.i .i64))],[(0,.sl 107 (.pr (.i .i64) (.pr (.i .i64) .b)))]⟩,⟨[(10,.c (.i .i64))],[(0,.sl 107 (.pr (.i .i64) (.pr (.i .i64) .b)))]⟩,[2,4],[],2,false,""⟩)]) [(110,kbE)] (.cons kdl <| .nil) (fun x=>by kernel_rfl)
def slices_rotateCmpFunc_api_Swing_C:Ctr:=⟨ "",[],[],fun _=>none,[],[]⟩
theorem slices_rotateCmpFunc_api_Swing_C_ok:Good Try.prog 108 slices_rotateCmpFunc_api_Swing_C:=good_dm
def kcb:Ctr:=⟨ "",slices_rotateCmpFunc_api_Swing_C.as,slices_rotateCmpFunc_api_Swing_C.rs,slices_rotateCmpFunc_api_Swing_C.F,slices_rotateCmpFunc_api_Swing_m3_M::slices_rotateCmpFunc_api_Swing_C.mus,slices_rotateCmpFunc_api_Swing_C.its⟩
theorem kdQ:Good Try.prog 108 kcb:=slices_rotateCmpFunc_api_Swing_C_ok.more kdz
def kaO (k:Nat):CtrM:=⟨ "",[none,some (.i .i64),some (.i .i64),some (.i .i64),some (.fn 2 (.pr (.pr (.i .i64) (.pr (.i .i64) .b)) (.pr (.i .i64) (.pr (.i .i64) .b))) (.i .i64))],⟨[(0,.mw 0)],[(0,.sl 107 (.pr (.i .i64) (.pr (.i .i64) .b)))]⟩,1,⟨[(0,.mw 0)],[(0,.sl 107 (.pr (.i .i64) (.pr (.i .i64) .b)))]⟩,1,0,fun x=>kaT k x.1 x.2.1 x.2.2.1 x.2.2.2.1 x.2.2.2.2⟩
theorem kbu:∀ k,(kaO k).ok=true∧GoodM Try.prog 106 (kaO k)
 | 0=>khT (by kernel_rfl) (fun x=>rfl)
 | k+1=>kbe Try.func106 (by kernel_rfl) (An:=[(0,⟨⟨[(10,.c (.i .i64)),(11,.c (.i .i64))],[]⟩,⟨[(10,.c (.i .i64))],[]⟩,[4,1],[0],1,false,""⟩),(8,⟨⟨[(13,.c (.i .i64))],[(0,.sl 107 (.pr (.i .i64) (.pr (.i .i64) .b)))]⟩,⟨[],[(0,.sl 107 (.pr (.i .i64) (.pr (.i .i64) .b)))]⟩,[10],[],2,false,""⟩),(47,⟨⟨[],[]⟩,⟨[],[]⟩,[],[],0,false,""⟩),(16,⟨⟨[(14,.c (.i .i64)),(15,.c (.i .i64))],[]⟩,⟨[(14,.c (.i .i64))],[]⟩,[4,2],[0],1,false,""⟩),(24,⟨⟨[(17,.c (.i .i64))],[(0,.sl 107 (.pr (.i .i64) (.pr (.i .i64) .b)))]⟩,⟨[],[(0,.sl 107 (.pr (.i .i64) (.pr (.i .i64) .b)))]⟩,[14],[],2,false,""⟩),(95,⟨⟨[],[]⟩,⟨[],[]⟩,[],[],0,false,""⟩),(561,⟨⟨[],[]⟩,⟨[(20,.c (.i .i64)),(21,.c (.i .i64))],[]⟩,[19,3,18,4,2,1],[0],1,false,""⟩),(32,⟨⟨[(20,.c (.i .i64)),(21,.c (.i .i64))],[]⟩,⟨[(20,.c (.i .i64))],[]⟩,[4,22,19,2,1,18,3],[0],1,false,""⟩),(158,⟨⟨[],[]⟩,⟨[(185,.c .b)],[]⟩,[20,2,24,4,1,18,3],[0],1,false,""⟩),(741,⟨⟨[],[(0,.sl 107 (.pr (.i .i64) (.pr (.i .i64) .b)))]⟩,⟨[],[(0,.sl 107 (.pr (.i .i64) (.pr (.i .i64) .b)))]⟩,[20,2,24,4,1,18,3],[],2,false,""⟩),(166,⟨⟨[],[]⟩,⟨[(199,.c .b)],[]⟩,[1,20,18,4,24,3],[0],2,false,""⟩),(797,⟨⟨[],[(0,.sl 107 (.pr (.i .i64) (.pr (.i .i64) .b)))]⟩,⟨[],[(0,.sl 107 (.pr (.i .i64) (.pr (.i .i64) .b)))]⟩,[1,20,18,4,24,3],[],3,false,""⟩)]) ((106,⟨ "",[],[],fun _=>none,[kaO k],[]⟩)::[(108,kcb)]) (.cons (good_dm.more (kbu k)) <| .cons kdQ <| .nil) (fun x=>by kernel_rfl)
def slices_symMergeCmpFunc_api_Swing_m4_M:CtrM:=⟨ "",[none,some (.i .i64),some (.i .i64),some (.i .i64),some (.fn 2 (.pr (.pr (.i .i64) (.pr (.i .i64) .b)) (.pr (.i .i64) (.pr (.i .i64) .b))) (.i .i64))],⟨[(0,.mw 0)],[(0,.sl 107 (.pr (.i .i64) (.pr (.i .i64) .b)))]⟩,1,⟨[(0,.mw 0)],[(0,.sl 107 (.pr (.i .i64) (.pr (.i .i64) .b)))]⟩,1,0,fun x=>kba x.1 x.2.1 x.2.2.1 x.2.2.2.1 x.2.2.2.2⟩
theorem kde:slices_symMergeCmpFunc_api_Swing_m4_M.ok=true∧GoodM Try.prog 106 slices_symMergeCmpFunc_api_Swing_m4_M:=kbu 1000000
def slices_symMergeCmpFunc_api_Swing_C:Ctr:=⟨ "",[],[],fun _=>none,[],[]⟩
theorem slices_symMergeCmpFunc_api_Swing_C_ok:Good Try.prog 106 slices_symMergeCmpFunc_api_Swing_C:=good_dm
def kbL:Ctr:=⟨ "",slices_symMergeCmpFunc_api_Swing_C.as,slices_symMergeCmpFunc_api_Swing_C.rs,slices_symMergeCmpFunc_api_Swing_C.F,slices_symMergeCmpFunc_api_Swing_m4_M::slices_symMergeCmpFunc_api_Swing_C.mus,slices_symMergeCmpFunc_api_Swing_C.its⟩
theorem kdD:Good Try.prog 106 kbL:=slices_symMergeCmpFunc_api_Swing_C_ok.more kde
def slices_stableCmpFunc_api_Swing_m5_M:CtrM:=⟨ "",[none,some (.i .i64),some (.fn 2 (.pr (.pr (.i .i64) (.pr (.i .i64) .b)) (.pr (.i .i64) (.pr (.i .i64) .b))) (.i .i64))],⟨[(0,.mw 0)],[(0,.sl 107 (.pr (.i .i64) (.pr (.i .i64) .b)))]⟩,1,⟨[(0,.mw 0)],[(0,.sl 107 (.pr (.i .i64) (.pr (.i .i64) .b)))]⟩,1,0,fun x=>kce x.1 x.2.1 x.2.2⟩
theorem kdB:slices_stableCmpFunc_api_Swing_m5_M.ok=true∧GoodM Try.prog 98 slices_stableCmpFunc_api_Swing_m5_M:=
 kbe Try.func98 (by kernel_rfl) (An:=[(0,⟨⟨[(8,.c (.i .i64)),(7,.c (.i .i64))],[(0,.sl 107 (.pr (.i .i64) (.pr (.i .i64) .b)))]⟩,⟨[(7,.c (.i .i64))],[(0,.sl 107 (.pr (.i .i64) (.pr (.i .i64) .b)))]⟩,[1,2,6],[],2,false,""⟩),(8,⟨⟨[(6,.c (.i .i64))],[(0,.sl 107 (.pr (.i .i64) (.pr (.i .i64) .b)))]⟩,⟨[],[(0,.sl 107 (.pr (.i .i64) (.pr (.i .i64) .b)))]⟩,[1,2],[],3,false,""⟩),(16,⟨⟨[(8,.c (.i .i64)),(7,.c (.i .i64))],[(0,.sl 107 (.pr (.i .i64) (.pr (.i .i64) .b)))]⟩,⟨[(7,.c (.i .i64))],[(0,.sl 107 (.pr (.i .i64) (.pr (.i .i64) .b)))]⟩,[6],[],3,false,""⟩)]) [(106,kbL),(105,kbq)] (.cons kdD <| .cons kcE <| .nil) (fun x=>by kernel_rfl)
def slices_stableCmpFunc_api_Swing_C:Ctr:=⟨ "",[],[],fun _=>none,[],[]⟩
theorem slices_stableCmpFunc_api_Swing_C_ok:Good Try.prog 98 slices_stableCmpFunc_api_Swing_C:=good_dm
def kcc:Ctr:=⟨ "",slices_stableCmpFunc_api_Swing_C.as,slices_stableCmpFunc_api_Swing_C.rs,slices_stableCmpFunc_api_Swing_C.F,slices_stableCmpFunc_api_Swing_m5_M::slices_stableCmpFunc_api_Swing_C.mus,slices_stableCmpFunc_api_Swing_C.its⟩
theorem kem:Good Try.prog 98 kcc:=slices_stableCmpFunc_api_Swing_C_ok.more kdB
def slices_SortStableFunc_s_api_Swing_api_Swing_m6_M:CtrM:=⟨ "",[none,some (.fn 2 (.pr (.pr (.i .i64) (.pr (.i .i64) .b)) (.pr (.i .i64) (.pr (.i .i64) .b))) (.i .i64))],⟨[(0,.mw 0)],[(0,.sl 107 (.pr (.i .i64) (.pr (.i .i64) .b)))]⟩,1,⟨[(0,.mw 0)],[(0,.sl 107 (.pr (.i .i64) (.pr (.i .i64) .b)))]⟩,1,0,fun x=>kbb x.1 x.2⟩
theorem kbU:slices_SortStableFunc_s_api_Swing_api_Swing_m6_M.ok=true∧GoodM Try.prog 91 slices_SortStableFunc_s_api_Swing_api_Swing_m6_M:=
 kbe Try.func91 (by kernel_rfl) (An:=[]) [(98,kcc)] (.cons kem <| .nil) (fun x=>by kernel_rfl)
def slices_SortStableFunc_s_api_Swing_api_Swing_C:Ctr:=⟨ "",[],[],fun _=>none,[],[]⟩
theorem slices_SortStableFunc_s_api_Swing_api_Swing_C_ok:Good Try.prog 91 slices_SortStableFunc_s_api_Swing_api_Swing_C:=good_dm
def kbc:Ctr:=⟨ "",slices_SortStableFunc_s_api_Swing_api_Swing_C.as,slices_SortStableFunc_s_api_Swing_api_Swing_C.rs,slices_SortStableFunc_s_api_Swing_api_Swing_C.F,slices_SortStableFunc_s_api_Swing_api_Swing_m6_M::slices_SortStableFunc_s_api_Swing_api_Swing_C.mus,slices_SortStableFunc_s_api_Swing_api_Swing_C.its⟩
theorem kcf:Good Try.prog 91 kbc:=slices_SortStableFunc_s_api_Swing_api_Swing_C_ok.more kbU
def sort_ordered_api_Swing_m7_M:CtrM:=⟨ "",[none,some (.fn 2 (.pr (.pr (.i .i64) (.pr (.i .i64) .b)) (.pr (.i .i64) (.pr (.i .i64) .b))) (.i .i64))],⟨[(0,.mw 0)],[(0,.sl 107 (.pr (.i .i64) (.pr (.i .i64) .b)))]⟩,1,⟨[(0,.mw 0),(1000000,.mw 0)],[(0,.sl 107 (.pr (.i .i64) (.pr (.i .i64) .b)))]⟩,1,1,fun x=>kdJ x.1 x.2⟩
theorem keJ:sort_ordered_api_Swing_m7_M.ok=true∧GoodM Try.prog 72 sort_ordered_api_Swing_m7_M:=
 kbe Try.func72 (by kernel_rfl) (An:=[]) [(91,kbc)] (.cons kcf <| .nil) (fun x=>by kernel_rfl)
def sort_ordered_api_Swing_C:Ctr:=⟨ "",[],[],fun _=>none,[],[]⟩
theorem sort_ordered_api_Swing_C_ok:Good Try.prog 72 sort_ordered_api_Swing_C:=good_dm
def kdI:Ctr:=⟨ "",sort_ordered_api_Swing_C.as,sort_ordered_api_Swing_C.rs,sort_ordered_api_Swing_C.F,sort_ordered_api_Swing_m7_M::sort_ordered_api_Swing_C.mus,sort_ordered_api_Swing_C.its⟩
theorem kfn:Good Try.prog 72 kdI:=sort_ordered_api_Swing_C_ok.more keJ
def kil:Ctr:=⟨ "",[tBelt,(.sl tFed)],[(.sl (.pr (.i .i64) (.pr (.i .i64) .b))),(.i .i64)],fun x=>kjK x.1 x.2,[],[]⟩
theorem kko:Good Try.prog 41 kil:=
 kan Try.func41 (by kernel_rfl) (An:=[(0,⟨⟨[],[(3,.bx 56 [.mw 2]),(2,.sl 107 (.pr (.i .i64) (.pr (.i .i64) .b)))]⟩,⟨[],[(3,.bx 56 [.mw 6]),(6,.sl 107 (.pr (.i .i64) (.pr (.i .i64) .b)))]⟩,[22,8,2],[0],7,false,""⟩)]) [(72,kdI),(73,kiU),(70,kcI),(88,kbx),(59,kia)] (.cons kfn <| .cons kkQ <| .cons kej <| .cons kbN <| .cons kip <| .nil) (fun x=>by kernel_rfl)
def kim:Ctr:=⟨ "",[],[(.sl (.sl (.i .i64)))],fun x=>law09_table,[],[]⟩
theorem kkn:Good Try.prog 79 kim:=
 kan Try.func79 (by kernel_rfl) (An:=[]) [] (.nil) (fun x=>by kernel_rfl)
def kfW:Ctr:=⟨ "",[(.sl (.sl (.i .i64)))],[(.i .i64)],fun x=>kgJ x,[],[]⟩
theorem kic:Good Try.prog 28 kfW:=
 kan Try.func28 (by kernel_rfl) (An:=[(0,⟨⟨[(15,.c (.i .i64))],[]⟩,⟨[],[]⟩,[14,13,0],[],1,true,""⟩),(8,⟨⟨[(32,.c (.i .i64)),(5,.c (.i .i64))],[]⟩,⟨[(5,.c (.i .i64))],[]⟩,[31,30,15],[],1,false,""⟩)]) [(54,kcd)] (.cons kbz <| .nil) (fun x=>by kernel_rfl)
def kcJ (k:Nat):CtrM:=⟨ "",[some (.i .i64),some (.i .i64),none,none,none,none,none,none],⟨[(2,.ptr 0 0),(3,.ptr 1 0),(4,.ptr 3 0),(5,.ptr 4 0),(6,.ptr 6 0),(7,.ptr 7 0)],[(0,.bx 3 [.c (.i .i64)]),(1,.bx 23 [.mw 2]),(2,.sl 3 (.i .i64)),(3,.bx 3 [.c (.i .i64)]),(4,.bx 23 [.mw 5]),(5,.sl 3 (.i .i64)),(6,.bx 23 [.c (.sl (.i .i64))]),(7,.bx 133 [.fn 83 [.ptr 0 0,.ptr 1 0,.ptr 3 0,.ptr 4 0,.ptr 6 0,.ptr 7 0]])]⟩,8,⟨[(2,.ptr 0 0),(3,.ptr 1 0),(4,.ptr 3 0),(5,.ptr 4 0),(6,.ptr 6 0),(7,.ptr 7 0)],[(0,.bx 3 [.c (.i .i64)]),(1,.bx 23 [.mw 8]),(8,.sl 3 (.i .i64)),(3,.bx 3 [.c (.i .i64)]),(4,.bx 23 [.mw 9]),(9,.sl 3 (.i .i64)),(6,.bx 23 [.c (.sl (.i .i64))]),(7,.bx 133 [.fn 83 [.ptr 0 0,.ptr 1 0,.ptr 3 0,.ptr 4 0,.ptr 6 0,.ptr 7 0]])]⟩,10,0,fun x=>kcZ k x.1 x.2.1 x.2.2.1 x.2.2.2.1 x.2.2.2.2.1 x.2.2.2.2.2.1 x.2.2.2.2.2.2⟩
theorem ket:∀ k,(kcJ k).ok=true∧GoodM Try.prog 83 (kcJ k)
 | 0=>khT (by kernel_rfl) (fun x=>rfl)
 | k+1=>kbe Try.func83 (by kernel_rfl) (An:=[(77,⟨⟨[],[]⟩,⟨[(10,.c (.i .i64))],[]⟩,[1],[3,4,5,0,1,2,6,7],8,false,""⟩),(0,⟨⟨[(30,.c (.i .i64))],[(1,.bx 23 [.mw 2]),(2,.sl 3 (.i .i64)),(3,.bx 3 [.c (.i .i64)]),(7,.bx 133 [.fn 83 [.ptr 0 0,.ptr 1 0,.ptr 3 0,.ptr 4 0,.ptr 6 0,.ptr 7 0]]),(0,.bx 3 [.c (.i .i64)]),(4,.bx 23 [.mw 5]),(5,.sl 3 (.i .i64)),(6,.bx 23 [.c (.sl (.i .i64))])]⟩,⟨[],[(1,.bx 23 [.mw 9]),(9,.sl 3 (.i .i64)),(3,.bx 3 [.c (.i .i64)]),(7,.bx 133 [.fn 83 [.ptr 0 0,.ptr 1 0,.ptr 3 0,.ptr 4 0,.ptr 6 0,.ptr 7 0]]),(0,.bx 3 [.c (.i .i64)]),(4,.bx 23 [.mw 14]),(14,.sl 3 (.i .i64)),(6,.bx 23 [.c (.sl (.i .i64))])]⟩,[29,28,0,1],[],16,false,""⟩),(173,⟨⟨[],[(2,.sl 3 (.i .i64))]⟩,⟨[],[(2,.sl 3 (.i .i64))]⟩,[12,30],[1,7,0,3,4,5,6],9,false,""⟩)]) ((83,⟨ "",[],[],fun _=>none,[kcJ k],[]⟩)::[(51,kfu)]) (.cons (good_dm.more (ket k)) <| .cons kfl <| .nil) (fun x=>by kernel_rfl)
def sort_chances_c1_m8_M:CtrM:=⟨ "",[some (.i .i64),some (.i .i64),none,none,none,none,none,none],⟨[(2,.ptr 0 0),(3,.ptr 1 0),(4,.ptr 3 0),(5,.ptr 4 0),(6,.ptr 6 0),(7,.ptr 7 0)],[(0,.bx 3 [.c (.i .i64)]),(1,.bx 23 [.mw 2]),(2,.sl 3 (.i .i64)),(3,.bx 3 [.c (.i .i64)]),(4,.bx 23 [.mw 5]),(5,.sl 3 (.i .i64)),(6,.bx 23 [.c (.sl (.i .i64))]),(7,.bx 133 [.fn 83 [.ptr 0 0,.ptr 1 0,.ptr 3 0,.ptr 4 0,.ptr 6 0,.ptr 7 0]])]⟩,8,⟨[(2,.ptr 0 0),(3,.ptr 1 0),(4,.ptr 3 0),(5,.ptr 4 0),(6,.ptr 6 0),(7,.ptr 7 0)],[(0,.bx 3 [.c (.i .i64)]),(1,.bx 23 [.mw 8]),(8,.sl 3 (.i .i64)),(3,.bx 3 [.c (.i .i64)]),(4,.bx 23 [.mw 9]),(9,.sl 3 (.i .i64)),(6,.bx 23 [.c (.sl (.i .i64))]),(7,.bx 133 [.fn 83 [.ptr 0 0,.ptr 1 0,.ptr 3 0,.ptr 4 0,.ptr 6 0,.ptr 7 0]])]⟩,10,0,fun x=>kfI x.1 x.2.1 x.2.2.1 x.2.2.2.1 x.2.2.2.2.1 x.2.2.2.2.2.1 x.2.2.2.2.2.2⟩
theorem kgI:sort_chances_c1_m8_M.ok=true∧GoodM Try.prog 83 sort_chances_c1_m8_M:=ket 1000000
def sort_chances_c1_C:Ctr:=⟨ "",[],[],fun _=>none,[],[]⟩
theorem sort_chances_c1_C_ok:Good Try.prog 83 sort_chances_c1_C:=good_dm
def kfy:Ctr:=⟨ "",sort_chances_c1_C.as,sort_chances_c1_C.rs,sort_chances_c1_C.F,sort_chances_c1_m8_M::sort_chances_c1_C.mus,sort_chances_c1_C.its⟩
theorem khi:Good Try.prog 83 kfy:=sort_chances_c1_C_ok.more kgI
def khr:Ctr:=⟨ "",[(.sl (.i .i64)),(.i .i64)],[(.sl (.i .i64))],fun x=>kiv x.1 x.2,[],[]⟩
theorem kjz:Good Try.prog 55 khr:=
 kan Try.func55 (by kernel_rfl) (An:=[]) [(83,kfy)] (.cons khi <| .nil) (fun x=>by kernel_rfl)
def khC:Ctr:=⟨ "",[(.sl (.sl (.i .i64))),(.i .i64),(.i .i64)],[(.sl (.i .i64)),(.i .i64)],fun x=>kjl x.1 x.2.1 x.2.2,[],[]⟩
theorem kjy:Good Try.prog 24 khC:=
 kan Try.func24 (by kernel_rfl) (An:=[]) [(55,khr),(28,kfW),(54,kcd)] (.cons kjz <| .cons kic <| .cons kbz <| .nil) (fun x=>by kernel_rfl)
def keU:Ctr:=⟨ "",[(.sl (.i .i64)),(.i .i64)],[.b],fun x=>kds x.1 x.2,[],[]⟩
theorem kfM:Good Try.prog 65 keU:=
 kan Try.func65 (by kernel_rfl) (An:=[]) [(54,kcd)] (.cons kbz <| .nil) (fun x=>by kernel_rfl)
def khm:Ctr:=⟨ "",[tPile,tPile],[(.i .i64)],fun x=>kbI x.1 x.2,[],[]⟩
theorem kjA:Good Try.prog 66 khm:=
 kan Try.func66 (by kernel_rfl) (An:=[]) [(67,kgw)] (.cons kgS <| .nil) (fun x=>by kernel_rfl)
def kaG:Ctr:=⟨ "",[(.sl tPile),tPile,(.fn 2 (.pr tPile tPile) (.i .i64))],[(.i .i64),.b],fun x=>kaj x.1 x.2.1 x.2.2,[],[]⟩
theorem kbp:Good Try.prog 69 kaG:=
 kan Try.func69 (by kernel_rfl) (An:=[(0,⟨⟨[(9,.c (.i .i64)),(10,.c (.i .i64))],[]⟩,⟨[(9,.c (.i .i64))],[]⟩,[2,0,4,8],[0],1,false,""⟩)]) [] (.nil) (fun x=>by kernel_rfl)
def slices_insertionSortCmpFunc_sort_pile_m9_M:CtrM:=⟨ "",[none,some (.i .i64),some (.i .i64),some (.fn 2 (.pr tPile tPile) (.i .i64))],⟨[(0,.mw 0)],[(0,.sl 114 tPile)]⟩,1,⟨[(0,.mw 0)],[(0,.sl 114 tPile)]⟩,1,0,fun x=>kas x.1 x.2.1 x.2.2.1 x.2.2.2⟩
theorem kcq:slices_insertionSortCmpFunc_sort_pile_m9_M.ok=true∧GoodM Try.prog 100 slices_insertionSortCmpFunc_sort_pile_m9_M:=
 kbe Try.func100 (by kernel_rfl) (An:=[(0,⟨⟨[(8,.c (.i .i64))],[(0,.sl 114 tPile)]⟩,⟨[],[(0,.sl 114 tPile)]⟩,[2,1,3],[],2,false,""⟩),(8,⟨⟨[(9,.c (.i .i64))],[(0,.sl 114 tPile)]⟩,⟨[],[(0,.sl 114 tPile)]⟩,[8],[],2,false,""⟩),(27,⟨⟨[],[]⟩,⟨[],[]⟩,[],[],0,false,""⟩)]) [] (.nil) (fun x=>by kernel_rfl)
def slices_insertionSortCmpFunc_sort_pile_C:Ctr:=⟨ "",[],[],fun _=>none,[],[]⟩
theorem slices_insertionSortCmpFunc_sort_pile_C_ok:Good Try.prog 100 slices_insertionSortCmpFunc_sort_pile_C:=good_dm
def kbo:Ctr:=⟨ "",slices_insertionSortCmpFunc_sort_pile_C.as,slices_insertionSortCmpFunc_sort_pile_C.rs,slices_insertionSortCmpFunc_sort_pile_C.F,slices_insertionSortCmpFunc_sort_pile_m9_M::slices_insertionSortCmpFunc_sort_pile_C.mus,slices_insertionSortCmpFunc_sort_pile_C.its⟩
theorem kcD:Good Try.prog 100 kbo:=slices_insertionSortCmpFunc_sort_pile_C_ok.more kcq
def slices_swapRangeCmpFunc_sort_pile_m10_M:CtrM:=⟨ "",[none,some (.i .i64),some (.i .i64),some (.i .i64),some (.fn 2 (.pr tPile tPile) (.i .i64))],⟨[(0,.mw 0)],[(0,.sl 114 tPile)]⟩,1,⟨[(0,.mw 0)],[(0,.sl 114 tPile)]⟩,1,0,fun x=>kaB x.1 x.2.1 x.2.2.1 x.2.2.2.1 x.2.2.2.2⟩
theorem kcO:slices_swapRangeCmpFunc_sort_pile_m10_M.ok=true∧GoodM Try.prog 109 slices_swapRangeCmpFunc_sort_pile_m10_M:=
 kbe Try.func109 (by kernel_rfl) (An:=[(0,⟨⟨[(10,.c (.i .i64))],[(0,.sl 114 tPile)]⟩,⟨[],[(0,.sl 114 tPile)]⟩,[3,1,2],[],2,false,""⟩),(15,⟨⟨[],[]⟩,⟨[],[]⟩,[],[],0,false,""⟩)]) [] (.nil) (fun x=>by kernel_rfl)
def slices_swapRangeCmpFunc_sort_pile_C:Ctr:=⟨ "",[],[],fun _=>none,[],[]⟩
theorem slices_swapRangeCmpFunc_sort_pile_C_ok:Good Try.prog 109 slices_swapRangeCmpFunc_sort_pile_C:=good_dm
def kbD:Ctr:=⟨ "",slices_swapRangeCmpFunc_sort_pile_C.as,slices_swapRangeCmpFunc_sort_pile_C.rs,slices_swapRangeCmpFunc_sort_pile_C.F,slices_swapRangeCmpFunc_sort_pile_m10_M::slices_swapRangeCmpFunc_sort_pile_C.mus,slices_swapRangeCmpFunc_sort_pile_C.its⟩
theorem kdd:Good Try.prog 109 kbD:=slices_swapRangeCmpFunc_sort_pile_C_ok.more kcO
def slices_rotateCmpFunc_sort_pile_m11_M:CtrM:=⟨ "",[none,some (.i .i64),some (.i .i64),some (.i .i64),some (.fn 2 (.pr tPile tPile) (.i .i64))],⟨[(0,.mw 0)],[(0,.sl 114 tPile)]⟩,1,⟨[(0,.mw 0)],[(0,.sl 114 tPile)]⟩,1,0,fun x=>kbQ x.1 x.2.1 x.2.2.1 x.2.2.2.1 x.2.2.2.2⟩
theorem kdm:slices_rotateCmpFunc_sort_pile_m11_M.ok=true∧GoodM Try.prog 107 slices_rotateCmpFunc_sort_pile_m11_M:=
 kbe Try.func107 (by kernel_rfl) (An:=[(0,⟨⟨[(10,.c (.i .i64)),(11,.c (.i .i64))],[(0,.sl 114 tPile)]⟩,⟨[(10,.c (.i .i64))],[(0,.sl 114 tPile)]⟩,[2,4],[],2,false,""⟩)]) [(109,kbD)] (.cons kdd <| .nil) (fun x=>by kernel_rfl)
def slices_rotateCmpFunc_sort_pile_C:Ctr:=⟨ "",[],[],fun _=>none,[],[]⟩
theorem slices_rotateCmpFunc_sort_pile_C_ok:Good Try.prog 107 slices_rotateCmpFunc_sort_pile_C:=good_dm
def kbV:Ctr:=⟨ "",slices_rotateCmpFunc_sort_pile_C.as,slices_rotateCmpFunc_sort_pile_C.rs,slices_rotateCmpFunc_sort_pile_C.F,slices_rotateCmpFunc_sort_pile_m11_M::slices_rotateCmpFunc_sort_pile_C.mus,slices_rotateCmpFunc_sort_pile_C.its⟩
theorem kdN:Good Try.prog 107 kbV:=slices_rotateCmpFunc_sort_pile_C_ok.more kdm
def kaJ (k:Nat):CtrM:=⟨ "",[none,some (.i .i64),some (.i .i64),some (.i .i64),some (.fn 2 (.pr tPile tPile) (.i .i64))],⟨[(0,.mw 0)],[(0,.sl 114 tPile)]⟩,1,⟨[(0,.mw 0)],[(0,.sl 114 tPile)]⟩,1,0,fun x=>kaN k x.1 x.2.1 x.2.2.1 x.2.2.2.1 x.2.2.2.2⟩
theorem kbr:∀ k,(kaJ k).ok=true∧GoodM Try.prog 101 (kaJ k)
 | 0=>khT (by kernel_rfl) (fun x=>rfl)
 | k+1=>kbe Try.func101 (by kernel_rfl) (An:=[(0,⟨⟨[(10,.c (.i .i64)),(11,.c (.i .i64))],[]⟩,⟨[(10,.c (.i .i64))],[]⟩,[4,1],[0],1,false,""⟩),(8,⟨⟨[(13,.c (.i .i64))],[(0,.sl 114 tPile)]⟩,⟨[],[(0,.sl 114 tPile)]⟩,[10],[],2,false,""⟩),(47,⟨⟨[],[]⟩,⟨[],[]⟩,[],[],0,false,""⟩),(16,⟨⟨[(14,.c (.i .i64)),(15,.c (.i .i64))],[]⟩,⟨[(14,.c (.i .i64))],[]⟩,[4,2],[0],1,false,""⟩),(24,⟨⟨[(17,.c (.i .i64))],[(0,.sl 114 tPile)]⟩,⟨[],[(0,.sl 114 tPile)]⟩,[14],[],2,false,""⟩),(95,⟨⟨[],[]⟩,⟨[],[]⟩,[],[],0,false,""⟩),(561,⟨⟨[],[]⟩,⟨[(20,.c (.i .i64)),(21,.c (.i .i64))],[]⟩,[19,3,18,4,2,1],[0],1,false,""⟩),(32,⟨⟨[(20,.c (.i .i64)),(21,.c (.i .i64))],[]⟩,⟨[(20,.c (.i .i64))],[]⟩,[4,22,19,2,1,18,3],[0],1,false,""⟩),(158,⟨⟨[],[]⟩,⟨[(185,.c .b)],[]⟩,[20,2,24,4,1,18,3],[0],1,false,""⟩),(741,⟨⟨[],[(0,.sl 114 tPile)]⟩,⟨[],[(0,.sl 114 tPile)]⟩,[20,2,24,4,1,18,3],[],2,false,""⟩),(166,⟨⟨[],[]⟩,⟨[(199,.c .b)],[]⟩,[1,20,18,4,24,3],[0],2,false,""⟩),(797,⟨⟨[],[(0,.sl 114 tPile)]⟩,⟨[],[(0,.sl 114 tPile)]⟩,[1,20,18,4,24,3],[],3,false,""⟩)]) ((101,⟨ "",[],[],fun _=>none,[kaJ k],[]⟩)::[(107,kbV)]) (.cons (good_dm.more (kbr k)) <| .cons kdN <| .nil) (fun x=>by kernel_rfl)
def slices_symMergeCmpFunc_sort_pile_m12_M:CtrM:=⟨ "",[none,some (.i .i64),some (.i .i64),some (.i .i64),some (.fn 2 (.pr tPile tPile) (.i .i64))],⟨[(0,.mw 0)],[(0,.sl 114 tPile)]⟩,1,⟨[(0,.mw 0)],[(0,.sl 114 tPile)]⟩,1,0,fun x=>kaY x.1 x.2.1 x.2.2.1 x.2.2.2.1 x.2.2.2.2⟩
theorem kcU:slices_symMergeCmpFunc_sort_pile_m12_M.ok=true∧GoodM Try.prog 101 slices_symMergeCmpFunc_sort_pile_m12_M:=kbr 1000000
def slices_symMergeCmpFunc_sort_pile_C:Ctr:=⟨ "",[],[],fun _=>none,[],[]⟩
theorem slices_symMergeCmpFunc_sort_pile_C_ok:Good Try.prog 101 slices_symMergeCmpFunc_sort_pile_C:=good_dm
def kbH:Ctr:=⟨ "",slices_symMergeCmpFunc_sort_pile_C.as,slices_symMergeCmpFunc_sort_pile_C.rs,slices_symMergeCmpFunc_sort_pile_C.F,slices_symMergeCmpFunc_sort_pile_m12_M::slices_symMergeCmpFunc_sort_pile_C.mus,slices_symMergeCmpFunc_sort_pile_C.its⟩
theorem kdv:Good Try.prog 101 kbH:=slices_symMergeCmpFunc_sort_pile_C_ok.more kcU
def slices_stableCmpFunc_sort_pile_m13_M:CtrM:=⟨ "",[none,some (.i .i64),some (.fn 2 (.pr tPile tPile) (.i .i64))],⟨[(0,.mw 0)],[(0,.sl 114 tPile)]⟩,1,⟨[(0,.mw 0)],[(0,.sl 114 tPile)]⟩,1,0,fun x=>kbf x.1 x.2.1 x.2.2⟩
theorem kdk:slices_stableCmpFunc_sort_pile_m13_M.ok=true∧GoodM Try.prog 94 slices_stableCmpFunc_sort_pile_m13_M:=
 kbe Try.func94 (by kernel_rfl) (An:=[(0,⟨⟨[(8,.c (.i .i64)),(7,.c (.i .i64))],[(0,.sl 114 tPile)]⟩,⟨[(7,.c (.i .i64))],[(0,.sl 114 tPile)]⟩,[1,2,6],[],2,false,""⟩),(8,⟨⟨[(6,.c (.i .i64))],[(0,.sl 114 tPile)]⟩,⟨[],[(0,.sl 114 tPile)]⟩,[1,2],[],3,false,""⟩),(16,⟨⟨[(8,.c (.i .i64)),(7,.c (.i .i64))],[(0,.sl 114 tPile)]⟩,⟨[(7,.c (.i .i64))],[(0,.sl 114 tPile)]⟩,[6],[],3,false,""⟩)]) [(101,kbH),(100,kbo)] (.cons kdv <| .cons kcD <| .nil) (fun x=>by kernel_rfl)
def slices_stableCmpFunc_sort_pile_C:Ctr:=⟨ "",[],[],fun _=>none,[],[]⟩
theorem slices_stableCmpFunc_sort_pile_C_ok:Good Try.prog 94 slices_stableCmpFunc_sort_pile_C:=good_dm
def kbT:Ctr:=⟨ "",slices_stableCmpFunc_sort_pile_C.as,slices_stableCmpFunc_sort_pile_C.rs,slices_stableCmpFunc_sort_pile_C.F,slices_stableCmpFunc_sort_pile_m13_M::slices_stableCmpFunc_sort_pile_C.mus,slices_stableCmpFunc_sort_pile_C.its⟩
theorem kdM:Good Try.prog 94 kbT:=slices_stableCmpFunc_sort_pile_C_ok.more kdk
def slices_SortStableFunc_s_sort_pile_sort_pile_m14_M:CtrM:=⟨ "",[none,some (.fn 2 (.pr tPile tPile) (.i .i64))],⟨[(0,.mw 0)],[(0,.sl 114 tPile)]⟩,1,⟨[(0,.mw 0)],[(0,.sl 114 tPile)]⟩,1,0,fun x=>kaz x.1 x.2⟩
theorem kbO:slices_SortStableFunc_s_sort_pile_sort_pile_m14_M.ok=true∧GoodM Try.prog 87 slices_SortStableFunc_s_sort_pile_sort_pile_m14_M:=
 kbe Try.func87 (by kernel_rfl) (An:=[]) [(94,kbT)] (.cons kdM <| .nil) (fun x=>by kernel_rfl)
def slices_SortStableFunc_s_sort_pile_sort_pile_C:Ctr:=⟨ "",[],[],fun _=>none,[],[]⟩
theorem slices_SortStableFunc_s_sort_pile_sort_pile_C_ok:Good Try.prog 87 slices_SortStableFunc_s_sort_pile_sort_pile_C:=good_dm
def kaZ:Ctr:=⟨ "",slices_SortStableFunc_s_sort_pile_sort_pile_C.as,slices_SortStableFunc_s_sort_pile_sort_pile_C.rs,slices_SortStableFunc_s_sort_pile_sort_pile_C.F,slices_SortStableFunc_s_sort_pile_sort_pile_m14_M::slices_SortStableFunc_s_sort_pile_sort_pile_C.mus,slices_SortStableFunc_s_sort_pile_sort_pile_C.its⟩
theorem kbY:Good Try.prog 87 kaZ:=slices_SortStableFunc_s_sort_pile_sort_pile_C_ok.more kbO
def sort_ordered_sort_pile_m15_M:CtrM:=⟨ "",[none,some (.fn 2 (.pr tPile tPile) (.i .i64))],⟨[(0,.mw 0)],[(0,.sl 114 tPile)]⟩,1,⟨[(0,.mw 0),(1000000,.mw 0)],[(0,.sl 114 tPile)]⟩,1,1,fun x=>kaK x.1 x.2⟩
theorem keH:sort_ordered_sort_pile_m15_M.ok=true∧GoodM Try.prog 68 sort_ordered_sort_pile_m15_M:=
 kbe Try.func68 (by kernel_rfl) (An:=[]) [(87,kaZ)] (.cons kbY <| .nil) (fun x=>by kernel_rfl)
def sort_ordered_sort_pile_C:Ctr:=⟨ "",[],[],fun _=>none,[],[]⟩
theorem sort_ordered_sort_pile_C_ok:Good Try.prog 68 sort_ordered_sort_pile_C:=good_dm
def kdi:Ctr:=⟨ "",sort_ordered_sort_pile_C.as,sort_ordered_sort_pile_C.rs,sort_ordered_sort_pile_C.F,sort_ordered_sort_pile_m15_M::sort_ordered_sort_pile_C.mus,sort_ordered_sort_pile_C.its⟩
theorem keZ:Good Try.prog 68 kdi:=sort_ordered_sort_pile_C_ok.more keH
def khf:Ctr:=⟨ "",[(.sl (.i .i64)),(.i .i64)],[(.sl (.i .i64)),(.i .i64),(.i .i64)],fun x=>kcV x.1 x.2,[],[]⟩
theorem khI:Good Try.prog 36 khf:=
 kan Try.func36 (by kernel_rfl) (An:=[(0,⟨⟨[(28,.c (.i .i64)),(7,.mw 1)],[(1,.sl 114 tPile)]⟩,⟨[(7,.mw 2)],[(2,.sl 114 tPile)]⟩,[27,26,1,0],[],3,false,""⟩),(8,⟨⟨[(7,.mw 2)],[(2,.sl 114 tPile)]⟩,⟨[(7,.mw 3)],[(3,.sl 114 tPile)]⟩,[1,0],[],4,false,""⟩),(16,⟨⟨[(7,.mw 3),(10,.mw 4),(11,.c (.i .i64))],[(3,.sl 114 tPile),(4,.sl 3 (.i .i64))]⟩,⟨[(10,.mw 5),(11,.c (.i .i64))],[(5,.sl 3 (.i .i64))]⟩,[1,12],[],6,false,""⟩),(24,⟨⟨[(65,.c (.i .i64)),(13,.ptr 6 0)],[(6,.bx 114 [.c (.i .i64),.mw 5]),(5,.sl 3 (.i .i64))]⟩,⟨[(13,.ptr 7 0)],[(7,.bx 114 [.c (.i .i64),.mw 8]),(8,.sl 3 (.i .i64))]⟩,[64,63,10,11,7],[4,3],9,false,""⟩),(32,⟨⟨[(85,.c (.i .i64)),(10,.mw 4)],[(4,.sl 3 (.i .i64))]⟩,⟨[(10,.mw 9)],[(9,.sl 3 (.i .i64))]⟩,[84,83,11,13,7],[8,7,3],10,false,""⟩)]) [(68,kdi),(69,kaG),(66,khm),(65,keU)] (.cons keZ <| .cons kbp <| .cons kjA <| .cons kfM <| .nil) (fun x=>by kernel_rfl)
def kfX:Ctr:=⟨ "",[(.sl (.pr (.i .i64) (.pr (.i .i64) (.i .i64)))),(.sl (.pr (.i .i64) (.pr (.i .i64) (.i .i64))))],[.b],fun x=>keT x.1 x.2,[],[]⟩
theorem khL:Good Try.prog 33 kfX:=
 kan Try.func33 (by kernel_rfl) (An:=[(0,⟨⟨[(5,.c (.i .i64))],[]⟩,⟨[],[]⟩,[0,1],[],0,true,""⟩)]) [] (.nil) (fun x=>by kernel_rfl)
def kfK:Ctr:=⟨ "",[(.sl (.pr (.i .i64) (.pr (.i .i64) .b))),(.sl (.pr (.i .i64) (.pr (.i .i64) .b)))],[.b],fun x=>kgn x.1 x.2,[],[]⟩
theorem khk:Good Try.prog 43 kfK:=
 kan Try.func43 (by kernel_rfl) (An:=[(0,⟨⟨[(5,.c (.i .i64))],[]⟩,⟨[],[]⟩,[0,1],[],0,true,""⟩)]) [] (.nil) (fun x=>by kernel_rfl)
def kgp:Ctr:=⟨ "",[(.sl (.i .i64)),(.sl (.i .i64))],[.b],fun x=>khH x.1 x.2,[],[]⟩
theorem kit:Good Try.prog 30 kgp:=
 kan Try.func30 (by kernel_rfl) (An:=[(0,⟨⟨[(5,.c (.i .i64))],[]⟩,⟨[],[]⟩,[0,1],[],0,true,""⟩)]) [] (.nil) (fun x=>by kernel_rfl)
def khz:Ctr:=⟨ "",[],[.b],fun x=>kji,[],[]⟩
theorem kjC:Good Try.prog 44 khz:=
 kan Try.func44 (by kernel_rfl) (An:=[]) [(30,kgp),(43,kfK),(33,kfX),(36,khf),(24,khC),(79,kim),(41,kil),(39,kjX),(78,kjR),(77,kiO)] (.cons kit <| .cons khk <| .cons khL <| .cons khI <| .cons kjy <| .cons kkn <| .cons kko <| .cons klz <| .cons klU <| .cons kln <| .nil) (fun x=>by kernel_rfl)
def kii:Ctr:=⟨ "",[],[.b],fun x=>law09_alive,[],[]⟩
theorem kki:Good Try.prog 44 kii:=by
 have h:=kjC
 unfold khz at h
 rw [krt] at h
 exact h
def kjM:Ctr:=⟨ "",[(.sl (.i .i64)),(.sl (.i .i64)),(.i .i64)],[(.i .i64),(.i .i64)],fun x=>kfJ x.1 x.2.1 x.2.2,[],[]⟩
theorem klN:Good Try.prog 34 kjM:=
 kan Try.func34 (by kernel_rfl) (An:=[(0,⟨⟨[(30,.c (.i .i64)),(8,.c (.i .i64))],[]⟩,⟨[(8,.c (.i .i64))],[]⟩,[2,1,0],[],0,false,""⟩),(8,⟨⟨[(39,.c (.i .i64)),(10,.c (.i .i64)),(9,.c (.i .i64))],[]⟩,⟨[(10,.c (.i .i64)),(9,.c (.i .i64))],[]⟩,[38,37,8,2,0],[],0,false,""⟩),(16,⟨⟨[(46,.c (.i .i64)),(13,.c (.i .i64))],[]⟩,⟨[(13,.c (.i .i64))],[]⟩,[45,10,9,11,12,39],[],0,false,""⟩)]) [(65,keU),(54,kcd)] (.cons kfM <| .cons kbz <| .nil) (fun x=>by kernel_rfl)
def kjO:Ctr:=⟨ "",[(.sl (.i .i64)),(.i .i64)],[.b],fun x=>kgW x.1 x.2,[],[]⟩
theorem klw:Good Try.prog 49 kjO:=
 kan Try.func49 (by kernel_rfl) (An:=[(0,⟨⟨[(6,.c (.i .i64)),(5,.c (.i .i64))],[]⟩,⟨[],[]⟩,[0,1],[],0,true,""⟩),(8,⟨⟨[(7,.c (.i .i64)),(5,.c (.i .i64))],[]⟩,⟨[(5,.c (.i .i64))],[]⟩,[6],[],0,false,""⟩)]) [] (.nil) (fun x=>by kernel_rfl)
def kkF:Ctr:=⟨ "",[(.sl (.i .i64)),(.sl (.i .i64)),(.i .i64)],[.b],fun x=>kfd x.1 x.2.1 x.2.2,[],[]⟩
theorem law09_SortPlan_C_ok:Good Try.prog 12 kkF:=
 kan Try.func12 (by kernel_rfl) (An:=[(26,⟨⟨[],[]⟩,⟨[(6,.c .b)],[]⟩,[7,8,9],[],0,false,""⟩),(46,⟨⟨[],[]⟩,⟨[(84,.c .b)],[]⟩,[14,13,9,0,2,7],[],0,false,""⟩)]) [(49,kjO),(34,kjM),(44,kii),(36,khf)] (.cons klw <| .cons klN <| .cons kki <| .cons khI <| .nil) (fun x=>by kernel_rfl)
end Go.Abs
namespace Go.Abs
open Go
end Go.Abs
namespace Go.Abs
open Go
theorem kow (l:List Int) (hl:l.length≤100000) (p:Int→Bool):kaU l (fun x=>some (p x))=some (l.any p):=by
 unfold kaU kbM
 rw [kkT (F:=kaV l _) l (by omega) (fun i x=>if p x then some (i:Int) else none) (fun i hi=>by
  unfold kaV
  rw [if_pos (lenI_lt.2 hi),kbg hi,kbB (by omega)]
  simp only [Option.bind_some]
  by_cases h:p l[i]=true <;> simp [h,nextL]) (by unfold kaV; rw [if_neg kqL])]
 have:∀ (l:List Int) (k:Nat),endL ((l.zipIdx k).findSome? fun x=>if p x.1 then some (x.2:Int) else none)=(if l.any p then .inl ((k:Int)+(l.findIdx p:Nat)) else .inr ()):=by
  intro l
  induction l with
  | nil=>intro k; rfl
  | cons x l ih=>
   intro k
   rw [List.zipIdx_cons,List.findSome?_cons,List.any_cons,List.findIdx_cons]
   cases hp:p x with
   | true=>simp [endL]
   | false=>
    simp only [Bool.false_eq_true,if_false,Bool.false_or,cond_false]
    rw [ih (k+1)]
    congr 2; push_cast; omega
 rw [this l 0]
 by_cases h:l.any p=true <;> simp [h]
theorem keN (lo hi:Int) (l:List Int) (hl:l.length≤100000):kav lo hi l=some (l.all (wi lo hi)):=by
 unfold kav
 have e:(fun u0:Int=>(keO u0 lo hi).bind fun u1=>some u1)=fun u=>some (!wi lo hi u):=by
  funext u
  unfold keO wi
  by_cases h1:u<lo <;> by_cases h2:hi<u <;> simp [h1,h2] <;> omega
 rw [e,kow l hl,ksj]
 simp
end Go.Abs
namespace Go.Abs
open Go
def numR (l:List Int) (b:Int):Bool:=wi 2 8 b&&wi 1 12 l.length&&l.all (wi 0 1000)
theorem kgY (l:List Int) (b:Int) (hl:l.length≤1000):kds l b=some (numR l b):=by
 unfold kds numR
 rw [keN 2 8 [b] (by simp),keN 1 12 [lenI l] (by simp),keN 0 1000 l (by omega)]
 simp only [Option.bind_some,List.all_cons,List.all_nil,Bool.and_true,kao]
 by_cases h1:wi 2 8 b=true <;> by_cases h2:wi 1 12 l.length=true <;> simp [h1,h2]
theorem kdw {b:Int} (hb:2≤b∧b≤8):∀ k:Nat,k≤11→1≤b ^ k∧b ^ k≤8589934592:=by
 have h:∀ k:Nat,1≤b ^ k∧b ^ k≤8 ^ k:=by
  intro k
  induction k with
  | zero=>simp
  | succ k ih=>
   rw [Int.pow_succ,Int.pow_succ]
   constructor
   ·have:=Int.mul_le_mul ih.1 (show (1:Int)≤b by omega) (by omega) (by omega); omega
   ·exact Int.mul_le_mul ih.2 hb.2 (by omega) (by have:=ih.1; have:=ih.2; omega)
 intro k hk
 refine ⟨(h k).1,Int.le_trans (h k).2 ?_⟩
 have:(8:Int) ^ k≤8 ^ 11:=by
  have:=Nat.pow_le_pow_right (show 0<8 by omega) hk
  exact_mod_cast this
 exact this
theorem kpw {b:Int} (hb:2≤b∧b≤8):∀ (n k:Nat),k+n=11→itN (kef b) (n+1) ((k:Int),b ^ k)=some (b ^ 11)
 | 0,k,h=>by
  have:k=11:=by omega
  subst this
  exact kaE (by unfold kef; rw [if_neg (by simp)])
 | n+1,k,h=>by
  have hp:=kdw hb (k+1) (by omega)
  rw [Int.pow_succ] at hp
  have e:kef b ((k:Int),b ^ k)=some (.inl (((k+1:Nat):Int),b ^ (k+1))):=by
   unfold kef
   rw [if_pos (by simp; omega),kbB (by omega),kaX (x:=b ^ k*b) (by omega) (by omega),Int.pow_succ]
  rw [kbS e]
  exact kpw hb n (k+1) (by omega)
theorem kpt {b:Int} (hb:2≤b∧b≤8) (p:Nat) (hp:p≤11):∀ (n k:Nat),k+n=p→itN (kdR b p) (n+1) ((k:Int),b ^ (11-k))=some (b ^ (11-p))
 | 0,k,h=>by
  have:k=p:=by omega
  subst this
  exact kaE (by unfold kdR; rw [if_neg (by simp)])
 | n+1,k,h=>by
  have hr:=kdw hb (11-(k+1)) (by omega)
  have hd:gquo .i64 (b ^ (11-k)) b=some (b ^ (11-(k+1))):=by
   unfold gquo
   rw [if_neg (by omega),show 11-k=(11-(k+1))+1 by omega,Int.pow_succ,Int.mul_tdiv_cancel _ (by omega)]
   show some (w64 _)=_
   rw [kaX (by omega) (by omega)]
  have e:kdR b p ((k:Int),b ^ (11-k))=some (.inl (((k+1:Nat):Int),b ^ (11-(k+1)))):=by
   unfold kdR
   rw [if_pos (by simp; omega),hd,kbB (by omega)]; rfl
  rw [kbS e]
  exact kpt hb p hp n (k+1) (by omega)
def tak (b:Int):List Int→Int
 | []=>0
 | p::l=>b ^ (11-p.toNat)+tak b l
def csum:List Int→List Int→Int
 | c::cs,p::ps=>c*p+csum cs ps
 | _,_=>0
theorem kpn {b:Int} (hb:2≤b∧b≤8) (cs ps:List Int) (hl:ps.length=cs.length) (hle:ps.length≤12) (hc:∀ c∈cs,0≤c∧c≤1000) (hp:∀ p∈ps,0≤p∧p≤11):∀ (n i:Nat) (left cost:Int),i+n=ps.length→-8589934592*i≤left→left≤8589934592→0≤cost→cost≤11000*i→
  itN (kea cs ps b (b ^ 11)) (n+1) ((i:Int),left,cost)=some (left-tak b (ps.drop i),cost+csum (cs.drop i) (ps.drop i))
 | 0,i,left,cost,h,h1,h2,h3,h4=>by
  have:i=ps.length:=by omega
  subst this
  rw [List.drop_length]
  have:csum (cs.drop ps.length) []=0:=by cases cs.drop ps.length <;> rfl
  rw [this]
  simp only [tak,Int.sub_zero,Int.add_zero]
  exact kaE (by unfold kea; rw [if_neg (by simp [kao])])
 | n+1,i,left,cost,h,h1,h2,h3,h4=>by
  have hi:i<ps.length:=by omega
  have hi2:i<cs.length:=by omega
  have hpi:=hp ps[i] (List.getElem_mem _)
  have hci:=hc cs[i] (List.getElem_mem _)
  have hpow:=kdw hb (11-ps[i].toNat) (by omega)
  have m0:0≤cs[i]*ps[i]:=Int.mul_nonneg hci.1 hpi.1
  have m1:cs[i]*ps[i]≤1000*11:=Int.mul_le_mul hci.2 hpi.2 hpi.1 (by omega)
  rw [List.drop_eq_getElem_cons hi,List.drop_eq_getElem_cons hi2]
  simp only [tak,csum]
  have hin:=kpt hb ps[i].toNat (by omega) ps[i].toNat 0 (by omega)
  rw [show ((ps[i].toNat:Nat):Int)=ps[i] from Int.toNat_of_nonneg hpi.1] at hin
  have e:kea cs ps b (b ^ 11) ((i:Int),left,cost)=some (.inl (((i+1:Nat):Int),left-b ^ (11-ps[i].toNat),cost+cs[i]*ps[i])):=by
   unfold kea
   rw [if_pos (by rw [kao]; simpa using hi),kbg hi]
   simp only [Option.bind_some]
   rw [show ((0:Int),b ^ 11)=(((0:Nat):Int),b ^ (11-0)) from rfl,kbm hin (by omega),kbg hi2]
   simp only [Option.bind_some]
   rw [kbB (by omega),kaX (x:=cs[i]*ps[i]) (by omega) (by omega),kaX (by omega) (by omega),kaX (by omega) (by omega)]
  rw [kbS e,kpn hb cs ps hl hle hc hp n (i+1) _ _ (by omega) (by push_cast; omega) (by omega) (by omega) (by push_cast; omega)]
  congr 2 <;> omega
def cnt (d:Int) (l:List Int):Int:=(l.countP fun p=>p==d:Nat)
theorem krY (d:Int) (l:List Int):0≤cnt d l∧cnt d l≤l.length:=by
 unfold cnt; have:=List.countP_le_length (p:=fun x=>x==d) (l:=l); omega
theorem koC (d p:Int) (l:List Int):cnt d (p::l)=cnt d l+if p=d then 1 else 0:=by
 unfold cnt; rw [List.countP_cons]; by_cases h:p=d <;> simp [h]
theorem knX (ps:List Int) (hle:ps.length≤12) (v0:Int×Int):∀ (n i:Nat) (f:Int),i+n=ps.length→-(i:Int)≤f→f≤100→itN (kck ps v0) (n+1) ((i:Int),f)=some (f-cnt v0.1 (ps.drop i))
 | 0,i,f,h,h1,h2=>by
  have:i=ps.length:=by omega
  subst this
  rw [List.drop_length,show cnt v0.1 []=0 from rfl,Int.sub_zero]
  exact kaE (by unfold kck; rw [if_neg (by simp [kao])])
 | n+1,i,f,h,h1,h2=>by
  have hi:i<ps.length:=by omega
  rw [List.drop_eq_getElem_cons hi,koC]
  by_cases hp:ps[i]=v0.1
  ·have e:kck ps v0 ((i:Int),f)=some (.inl (((i+1:Nat):Int),f-1)):=by
    unfold kck
    rw [if_pos (by rw [kao]; simpa using hi),kbg hi]
    simp only [Option.bind_some,hp,beq_self_eq_true,if_true]
    rw [kbB (by omega),kaX (by omega) (by omega)]
   rw [kbS e,knX ps hle v0 n (i+1) (f-1) (by omega) (by push_cast; omega) (by omega),if_pos hp]
   congr 1; omega
  ·have e:kck ps v0 ((i:Int),f)=some (.inl (((i+1:Nat):Int),f)):=by
    unfold kck
    rw [if_pos (by rw [kao]; simpa using hi),kbg hi]
    simp only [Option.bind_some]
    rw [if_neg (by simpa using hp),kbB (by omega)]
   rw [kbS e,knX ps hle v0 n (i+1) f (by omega) (by push_cast; omega) (by omega),if_neg hp,Int.add_zero]
def rst9 (b:Int) (d:Nat):List Int→Int
 | []=>0
 | p::l=>(if (d:Int)≤p then b ^ (11-p.toNat) else 0)+rst9 b d l
theorem knM (b:Int):∀ (l:List Int),(∀ p∈l,0≤p∧p≤11)→rst9 b 0 l=tak b l
 | [],_=>rfl
 | p::l,h=>by
  simp only [rst9,tak]
  rw [if_pos (by have:=h p (by simp); simpa using this.1),knM b l fun x hx=>h x (by simp [hx])]
theorem kjs (b:Int):∀ (l:List Int),(∀ p∈l,0≤p∧p≤11)→rst9 b 12 l=0
 | [],_=>rfl
 | p::l,h=>by
  simp only [rst9]
  rw [if_neg (by have:=h p (by simp); omega),kjs b l fun x hx=>h x (by simp [hx])]; rfl
theorem kol (b:Int) (d:Nat):∀ (l:List Int),(∀ p∈l,0≤p∧p≤11)→rst9 b d l=cnt d l*b ^ (11-d)+rst9 b (d+1) l
 | [],_=>by simp [rst9,cnt]
 | p::l,h=>by
  have hp:=h p (by simp)
  simp only [rst9]
  rw [kol b d l fun x hx=>h x (by simp [hx]),koC,Int.add_mul]
  rcases Int.lt_trichotomy p d with h1 | h1 | h1
  ·rw [if_neg (by omega),if_neg (by omega),if_neg (by push_cast; omega)]; omega
  ·rw [if_pos (by omega),if_pos h1,if_neg (by push_cast; omega),show p.toNat=d by omega]; omega
  ·rw [if_pos (by omega),if_neg (by omega),if_pos (by push_cast; omega)]; omega
theorem knW {b:Int} (hb:2≤b∧b≤8) (d:Nat) (hd:d≤11):∀ (l:List Int),(∀ p∈l,0≤p∧p≤11)→0≤rst9 b d l∧rst9 b d l≤l.length*b ^ (11-d)
 | [],_=>by simp [rst9]
 | p::l,h=>by
  have hp:=h p (by simp)
  have ih:=knW hb d hd l fun x hx=>h x (by simp [hx])
  have h1:=kdw hb (11-p.toNat) (by omega)
  have h2:=kdw hb (11-d) (by omega)
  simp only [rst9,List.length_cons]
  push_cast
  rw [Int.add_mul]
  split
  ·rename_i hdp
   have:b ^ (11-p.toNat)≤b ^ (11-d):=by
    rw [show 11-d=(11-p.toNat)+(p.toNat-d) by omega,Int.pow_add]
    have h3:=kdw hb (p.toNat-d) (by omega)
    have:=Int.mul_le_mul_of_nonneg_left h3.1 (show 0≤b ^ (11-p.toNat) by omega)
    omega
   omega
  ·omega
theorem kqw {b:Int} (hb:2≤b∧b≤8) (ps:List Int) (hle:ps.length≤12) (hp:∀ p∈ps,0≤p∧p≤11):∀ (n d:Nat) (f:Int),d+n=12→0≤f→f≤100→
  itN (kcK ps b) (n+1) ((d:Int),f)=some (if rst9 b d ps≤f*b ^ (11-d) then .inr () else .inl false)
 | 0,d,f,h,h1,h2=>by
  have:d=12:=by omega
  subst this
  rw [kjs b ps hp,if_pos (by simpa using h1)]
  exact kaE (by unfold kcK; rw [if_neg (by simp)])
 | n+1,d,f,h,h1,h2=>by
  have hin:=knX ps hle ((d:Int),f) ps.length 0 f (by omega) (by omega) h2
  have hc:=krY d ps
  rw [List.drop_zero] at hin
  simp only at hin
  have hpow:=kdw hb (11-d) (by omega)
  have hst:=kol b d ps hp
  by_cases hx:f-cnt d ps<0
  ·rw [if_neg]
   ·exact kaE (by
     unfold kcK
     rw [if_pos (by simp; omega),show ((0:Int),f)=(((0:Nat):Int),f) from rfl,kbm hin (by omega)]
     simp only [Option.bind_some]
     rw [if_pos (by simpa using hx)])
   ·have h0:0≤rst9 b (d+1) ps:=by
     by_cases hd:d+1≤11
     ·exact (knW hb (d+1) hd ps hp).1
     ·rw [show d+1=12 by omega,kjs b ps hp]; exact Int.le_refl _
    have:(f+1)*b ^ (11-d)≤cnt d ps*b ^ (11-d):=Int.mul_le_mul_of_nonneg_right (by omega) (by omega)
    rw [Int.add_mul] at this
    omega
  ·have hmul:0≤(f-cnt d ps)*b:=Int.mul_nonneg (by omega) (by omega)
   have hmul2:(f-cnt d ps)*b≤100*8:=Int.mul_le_mul (by omega) hb.2 (by omega) (by omega)
   have e:kcK ps b ((d:Int),f)=some (.inl (((d+1:Nat):Int),imin ((f-cnt d ps)*b) 100)):=by
    unfold kcK
    rw [if_pos (by simp; omega),show ((0:Int),f)=(((0:Nat):Int),f) from rfl,kbm hin (by omega)]
    simp only [Option.bind_some]
    rw [if_neg (by simpa using hx),kbB (by omega),kaX (by omega) (by omega)]
   have hm:0≤imin ((f-cnt d ps)*b) 100∧imin ((f-cnt d ps)*b) 100≤100:=by unfold imin; split <;> omega
   rw [kbS e,kqw hb ps hle hp n (d+1) _ (by omega) hm.1 hm.2]
   congr 1
   have key:rst9 b (d+1) ps≤imin ((f-cnt d ps)*b) 100*b ^ (11-(d+1))↔rst9 b d ps≤f*b ^ (11-d):=by
    rw [hst]
    by_cases hd:d+1≤11
    ·have hp2:=kdw hb (11-(d+1)) (by omega)
     have hr:=knW hb (d+1) hd ps hp
     have ee:b ^ (11-d)=b ^ (11-(d+1))*b:=by rw [←Int.pow_succ]; congr 1; omega
     have hr2:rst9 b (d+1) ps≤12*b ^ (11-(d+1)):=Int.le_trans hr.2 (Int.mul_le_mul_of_nonneg_right (by omega) (by omega))
     have e3:(f-cnt d ps)*b*b ^ (11-(d+1))=f*b ^ (11-d)-cnt d ps*b ^ (11-d):=by
      rw [ee,Int.sub_mul,Int.sub_mul]
      congr 1 <;> rw [Int.mul_assoc,Int.mul_comm b]
     unfold imin
     split
     ·rename_i hlt
      have e4:100*b ^ (11-(d+1))≤(f-cnt d ps)*b*b ^ (11-(d+1)):=Int.mul_le_mul_of_nonneg_right (by omega) (by omega)
      constructor <;> intro _ <;> omega
     ·rw [e3]; omega
    ·have:d=11:=by omega
     subst this
     rw [kjs b ps hp]
     simp only [Nat.sub_self,Int.pow_zero,Int.mul_one]
     constructor
     ·intro _; omega
     ·intro _
      show (0:Int)≤_*b ^ 0
      simp; exact hm.1
   by_cases hk:rst9 b d ps≤f*b ^ (11-d)
   ·rw [if_pos hk,if_pos (key.2 hk)]
   ·rw [if_neg hk,if_neg fun h=>hk (key.1 h)]
theorem ksJ {b:Int} (hb:2≤b∧b≤8) (ps:List Int) (hle:ps.length≤12) (hp:∀ p∈ps,0≤p∧p≤11):kgW ps b=some (decide (tak b ps≤b ^ 11)):=by
 have:=kqw hb ps hle hp 12 0 1 (by omega) (by omega) (by omega)
 unfold kgW
 rw [show ((0:Int),(1:Int))=(((0:Nat):Int),1) from rfl,kbm this (by omega),knM b ps hp,Int.one_mul,Nat.sub_zero]
 by_cases h:tak b ps≤b ^ 11
 ·rw [if_pos h]; simp [h]
 ·rw [if_neg h]; simp [h]
end Go.Abs
namespace Go.Abs
open Go
def okP9 (p:Pile):Prop:=0≤p.1∧p.1≤12000∧p.2.length≤12
def K9 (p:Pile):Int:=1000*p.1+p.2.length
abbrev how9:Pile×Pile→Option Int:=fun u0=>(kbI u0.1 u0.2).bind fun u1=>some u1
theorem krT (a b:Int):keV [a,b]=some (if a≠0 then a else b):=by
 unfold keV
 rw [kkT (F:=keB [a,b]) [a,b] (by simp) (fun i x=>if x != 0 then some x else none) (fun i hi=>by
  unfold keB
  have h2:i<2:=by simpa using hi
  rw [if_pos (by rw [kao]; simp; omega),kbg hi,kbB (by omega)]
  simp only [Option.bind_some]
  by_cases h:([a,b][i] != 0)=true <;> simp [h,nextL]) (by unfold keB; rw [if_neg (by simp [kao])])]
 simp only [List.zipIdx_cons,List.zipIdx_nil,List.findSome?_cons,List.findSome?_nil]
 by_cases ha:a=0
 ·by_cases hb:b=0 <;> simp [ha,hb,endL]
 ·simp [ha,endL]
theorem klY (a b:Pile) (ha:okP9 a) (hb:okP9 b):∃ v,how9 (a,b)=some v∧(v<0↔K9 a<K9 b):=by
 obtain ⟨a1,a2,a3⟩:=ha
 obtain ⟨b1,b2,b3⟩:=hb
 show ∃ v,((kbI a b).bind fun u1=>some u1)=some v∧_
 unfold kbI
 rw [krT]
 refine ⟨_,rfl,?_⟩
 rw [kaX (x:=a.1-b.1) (by omega) (by omega),kao,kao,kaX (x:=(a.2.length:Int)-b.2.length) (by omega) (by omega)]
 unfold K9
 split <;> omega
def kf9 (l:List Pile) (x:Nat):Int:=K9 ((l[x]?).getD (0,[]))
theorem khj {l:List Pile} {x:Nat} (h:x<l.length):kf9 l x=K9 l[x]:=by unfold kf9; rw [List.getElem?_eq_getElem h]; rfl
def swap9 (l:List Pile) (j:Nat) (a b:Pile):List Pile:=(l.set j b).set (j-1) a
theorem krW {l:List Pile} {j:Nat} (hj:0<j) (h:j<l.length) (a b:Pile) (x:Nat):kf9 (swap9 l j a b) x=if x=j-1 then K9 a else if x=j then K9 b else kf9 l x:=by
 unfold kf9 swap9
 rw [List.getElem?_set,List.getElem?_set,List.length_set]
 by_cases h1:x=j-1
 ·rw [if_pos h1.symm,if_pos (by omega),if_pos h1]; rfl
 ·rw [if_neg (fun e=>h1 e.symm),if_neg h1]
  by_cases h2:x=j
  ·rw [if_pos h2.symm,if_pos h,if_pos h2]; rfl
  ·rw [if_neg (fun e=>h2 e.symm),if_neg h2]
theorem kqq {l:List Pile} {j:Nat} (hj:0<j) (h:j<l.length):(swap9 l j l[j] l[j-1]).Perm l:=by
 unfold swap9
 exact @List.set_set_perm _ l j (j-1) h (by omega)
theorem kqj (i:Nat):∀ (j:Nat) (l:List Pile),j≤i→i<l.length→l.length≤1000→(∀ p∈l,okP9 p)→(∀ x y,x<y→y≤i→y≠j→kf9 l x≤kf9 l y)→
  ∃ l',itN (kak 0 how9) (j+1) ((j:Int),l)=some l'∧l'.Perm l∧∀ x y,x<y→y≤i→kf9 l' x≤kf9 l' y
 | 0,l,hj,hi,hl,ho,hs=>by
  refine ⟨l,kaE (by unfold kak; rw [if_neg (by simp)]),.refl _,fun x y hxy hy=>hs x y hxy hy (by omega)⟩
 | j+1,l,hj,hi,hl,ho,hs=>by
  have h1:j+1<l.length:=by omega
  have h2:j<l.length:=by omega
  obtain ⟨v,hv,hlt⟩:=klY l[j+1] l[j] (ho _ (List.getElem_mem _)) (ho _ (List.getElem_mem _))
  have hw:w64 (((j+1:Nat):Int)-1)=(j:Int):=by rw [kaX (by omega) (by omega)]; push_cast; omega
  by_cases hc:v<0
  ·have e:kak 0 how9 (((j+1:Nat):Int),l)=some (.inl ((j:Int),swap9 l (j+1) l[j+1] l[j])):=by
    unfold kak
    rw [if_pos (by simp <;> omega)]
    simp only [hw,kbg h1,kbg h2,Option.bind_some,hv]
    rw [if_pos (by simpa using hc)]
    simp only [lset,Int.toNat_natCast]
    rw [kbg (by rw [List.length_set]; exact h2)]
    rfl
   have hp:=kqq (l:=l) (j:=j+1) (by omega) h1
   simp only [Nat.add_sub_cancel] at hp
   have hk:=krW (l:=l) (j:=j+1) (by omega) h1 l[j+1] l[j]
   simp only [Nat.add_sub_cancel] at hk
   have hlen:(swap9 l (j+1) l[j+1] l[j]).length=l.length:=hp.length_eq
   obtain ⟨l',g1,g2,g3⟩:=kqj i j (swap9 l (j+1) l[j+1] l[j]) (by omega) (by rw [hlen]; exact hi) (by rw [hlen]; exact hl) (fun p hp'=>ho p (hp.mem_iff.1 hp')) (fun x y hxy hy hne=>by
    have ka:=khj h1
    have kb:=khj h2
    have kab:=hlt.1 hc
    rw [hk,hk]
    by_cases y1:y=j+1
    ·rw [if_neg (show ¬ y=j from hne),if_pos y1]
     by_cases x1:x=j
     ·rw [if_pos x1]; omega
     ·rw [if_neg x1,if_neg (by omega)]
      have:=hs x j (by omega) (by omega) (by omega)
      omega
    ·rw [if_neg (show ¬ y=j from hne),if_neg y1]
     by_cases x1:x=j
     ·rw [if_pos x1]
      have:=hs (j+1) y (by omega) hy y1
      omega
     ·rw [if_neg x1]
      by_cases x2:x=j+1
      ·rw [if_pos x2]
       have:=hs j y (by omega) hy y1
       omega
      ·rw [if_neg x2]; exact hs x y hxy hy y1)
   exact ⟨l',by rw [kbS e]; exact g1,g2.trans hp,g3⟩
  ·refine ⟨l,kaE ?_,.refl _,fun x y hxy hy=>?_⟩
   ·unfold kak
    rw [if_pos (by simp <;> omega)]
    simp only [hw,kbg h1,kbg h2,Option.bind_some,hv]
    rw [if_neg (by simpa using hc)]
   ·by_cases hyj:y=j+1
    ·subst hyj
     have kab:K9 l[j]≤K9 l[j+1]:=Int.not_lt.1 fun h=>hc (hlt.2 h)
     rw [←khj h1,←khj h2] at kab
     by_cases hx:x=j
     ·subst hx; exact kab
     ·exact Int.le_trans (hs x j (by omega) (by omega) (by omega)) kab
    ·exact hs x y hxy hy hyj
theorem kqm (N:Nat) (hN:N≤1000):∀ (m i:Nat) (l:List Pile),i+m=N→l.length=N→1≤i→(∀ p∈l,okP9 p)→(∀ x y,x<y→y<i→kf9 l x≤kf9 l y)→
  ∃ l',itN (kaq 0 N how9) (m+1) ((i:Int),l)=some l'∧l'.Perm l∧∀ x y,x<y→y<N→kf9 l' x≤kf9 l' y
 | 0,i,l,h,hl,h1,ho,hs=>by
  have:i=N:=by omega
  subst this
  exact ⟨l,kaE (by unfold kaq; rw [if_neg (by simp)]),.refl _,hs⟩
 | m+1,i,l,h,hl,h1,ho,hs=>by
  obtain ⟨l1,g1,g2,g3⟩:=kqj i i l (Nat.le_refl _) (by omega) (by omega) ho (fun x y hxy hy hne=>hs x y hxy (by omega))
  have e:kaq 0 N how9 ((i:Int),l)=some (.inl (((i+1:Nat):Int),l1)):=by
   unfold kaq
   rw [if_pos (by simp <;> omega),kbm g1 (by omega),kbB (by omega)]; rfl
  obtain ⟨l',g4,g5,g6⟩:=kqm N hN m (i+1) l1 (by omega) (by rw [g2.length_eq]; exact hl) (by omega) (fun p hp=>ho p (g2.mem_iff.1 hp)) (fun x y hxy hy=>g3 x y hxy (by omega))
  exact ⟨l',by rw [kbS e]; exact g4,g5.trans g2,g6⟩
theorem kpJ (l:List Pile) (h1:1≤l.length) (h2:l.length≤18) (ho:∀ p∈l,okP9 p):∃ l',kaK how9 l=some l'∧l'.Perm l∧l'.Pairwise fun a b=>a.1≤b.1:=by
 obtain ⟨l',g1,g2,g3⟩:=kqm l.length (by omega) (l.length-1) 1 l (by omega) rfl (Nat.le_refl _) ho (fun x y hxy hy=>by omega)
 refine ⟨l',?_,g2,?_⟩
 ·have m0:kas 0 (l.length:Int) how9 l=some l':=by
   unfold kas
   rw [show w64 ((0:Int)+1)=((1:Nat):Int) from rfl,kbm g1 (by omega)]; rfl
  unfold kaK kaz kbf
  rw [kao]
  have e0:itN (kaS (l.length:Int) how9) (0+1) (20,0,l)=some (0,l):=kaE (by unfold kaS; rw [if_neg (by simp; omega)])
  have e1:itN (kaR (l.length:Int) how9) (0+1) (20,l')=some l':=kaE (by unfold kaR; rw [if_neg (by simp; omega)])
  rw [kbm e0 (by omega)]
  simp only [Option.bind_some]
  rw [m0]
  simp only [Option.bind_some]
  rw [kbm e1 (by omega)]; rfl
 ·refine List.pairwise_iff_getElem.2 fun i j hi hj hij=>?_
  have hk:=g3 i j hij (by rw [←g2.length_eq]; exact hj)
  rw [khj hi,khj hj] at hk
  have oi:=ho _ (g2.mem_iff.1 (List.getElem_mem hi))
  have oj:=ho _ (g2.mem_iff.1 (List.getElem_mem hj))
  unfold K9 at hk
  obtain ⟨_,_,a3⟩:=oi
  obtain ⟨_,_,b3⟩:=oj
  omega
end Go.Abs
namespace Go.Abs
open Go
def sc:List Pile→Int
 | []=>0
 | x::l=>x.1+sc l
def kd:List Pile→List Int
 | []=>[]
 | x::l=>x.2++kd l
def sI:List Int→Int
 | []=>0
 | x::l=>x+sI l
theorem kcX:∀ (a b:List Pile),sc (a++b)=sc a+sc b
 | [],b=>by simp [sc]
 | x::a,b=>by simp only [List.cons_append,sc,kcX a b]; omega
theorem kbt:∀ (a b:List Pile),kd (a++b)=kd a++kd b
 | [],b=>by simp [kd]
 | x::a,b=>by simp only [List.cons_append,kd,kbt a b,List.append_assoc]
theorem sc_sI:∀ (a:List Pile),sc a=sI (a.map (·.1))
 | []=>rfl
 | x::a=>by simp only [List.map_cons,sc,sI,sc_sI a]
theorem sc_nn:∀ {l:List Pile},(∀ x∈l,0≤x.1)→0≤sc l
 | [],_=>Int.le_refl _
 | x::l,h=>by
  have:=h x (by simp)
  have:=sc_nn (l:=l) fun y hy=>h y (by simp [hy])
  simp only [sc]; omega
structure PI (n:Nat) (b:Nat) (p:List Pile):Prop where
 s:p.Pairwise fun a b=>a.1≤b.1
 nn:∀ x∈p,0≤x.1
 tot:sc p≤12000
 kin:∀ k∈kd p,0≤k∧k<n
 kl:(kd p).length≤12
 len:1≤p.length∧p.length≤18
 md:(p.length-1) % (b-1)=0
theorem krr {α:Type} {l:List α} {i:Nat} (h:i<l.length):l=l.take i++l[i]::l.drop (i+1):=by
 conv=>lhs; rw [←List.take_append_drop i l,List.drop_eq_getElem_cons h]
theorem PI.ok {n b:Nat} {p:List Pile} (h:PI n b p):∀ x∈p,okP9 x:=fun x hx=>by
 obtain ⟨i,hi,rfl⟩:=List.mem_iff_getElem.1 hx
 have e:=krr hi
 have h1:sc p=sc (p.take i)+(p[i].1+sc (p.drop (i+1))):=by
  conv=>lhs; rw [e]
  rw [kcX]; rfl
 have h2:(kd p).length=(kd (p.take i)).length+(p[i].2.length+(kd (p.drop (i+1))).length):=by
  conv=>lhs; rw [e]
  rw [kbt]; simp [kd]
 have n1:=sc_nn (l:=p.take i) fun y hy=>h.nn y (List.mem_of_mem_take hy)
 have n2:=sc_nn (l:=p.drop (i+1)) fun y hy=>h.nn y (List.mem_of_mem_drop hy)
 have:=h.tot
 have:=h.kl
 have:=h.nn p[i] hx
 exact ⟨by omega,by omega,by omega⟩
theorem kqt {α:Type} {l:List α} {i:Nat} (h:i<l.length):l.take (i+1)=l.take i++[l[i]]:=by
 rw [List.take_add_one,List.getElem?_eq_getElem h]; rfl
theorem khq {n b:Nat} {p:List Pile} (h:PI n b p) (i:Nat):0≤sc (p.take i)∧sc (p.take i)≤12000∧(kd (p.take i)).length≤12:=by
 have e:sc p=sc (p.take i)+sc (p.drop i):=by rw [←kcX,List.take_append_drop]
 have e2:(kd p).length=(kd (p.take i)).length+(kd (p.drop i)).length:=by rw [←List.length_append,←kbt,List.take_append_drop]
 have n1:=sc_nn (l:=p.take i) fun y hy=>h.nn y (List.mem_of_mem_take hy)
 have n2:=sc_nn (l:=p.drop i) fun y hy=>h.nn y (List.mem_of_mem_drop hy)
 have:=h.tot
 have:=h.kl
 exact ⟨n1,by omega,by omega⟩
theorem L3_eq {n b:Nat} {p:List Pile} (h:PI n b p) (hb:b≤8) (hbp:b≤p.length) (c:Int) (ps:List Int):∀ (m i:Nat),i+m=b→itN (kdS (b:Int) (c,p,ps)) (m+1) ((i:Int),sc (p.take i),kd (p.take i))=some (sc (p.take b),kd (p.take b))
 | 0,i,hm=>by
  have:i=b:=by omega
  subst this
  exact kaE (by unfold kdS; rw [if_neg (by simp)])
 | m+1,i,hm=>by
  have hi:i<p.length:=by omega
  have h1:=khq h i
  have h2:=khq h (i+1)
  have et:=kqt hi
  have es:sc (p.take (i+1))=sc (p.take i)+p[i].1:=by rw [et,kcX]; simp [sc]
  have ek:kd (p.take (i+1))=kd (p.take i)++p[i].2:=by rw [et,kbt]; simp [kd]
  have e:kdS (b:Int) (c,p,ps) ((i:Int),sc (p.take i),kd (p.take i))=some (.inl (((i+1:Nat):Int),sc (p.take (i+1)),kd (p.take (i+1)))):=by
   have hg:gmi 0 ((b:Int)-0) (i:Int)=some (i:Int):=by unfold gmi; rw [if_pos (by omega)]; simp
   unfold kdS
   rw [if_pos (by simp <;> omega)]
   simp only [hg,Option.bind_some,kbg hi]
   rw [kiL (by rw [←List.length_append,←ek]; omega),kbB (by omega),kaX (by omega) (by omega),←es,←ek]; rfl
  rw [kbS e]
  exact L3_eq h hb hbp c ps m (i+1) (by omega)
theorem bs_L0 (r:List Pile) (x:Pile) (hr:∀ y∈r,okP9 y) (hx:okP9 x) (hl:r.length≤1000):∀ (m i j:Nat),j-i≤m→i≤j→j≤r.length→(∀ h:0<i,(r[i-1]?.getD x).1≤x.1)→(∀ h:j<r.length,x.1≤(r[j]?.getD x).1)→
  ∃ at':Nat,itN (kae r x how9) (m+1) ((i:Int),(j:Int))=some (at':Int)∧at'≤r.length∧(∀ h:0<at',(r[at'-1]?.getD x).1≤x.1)∧∀ h:at'<r.length,x.1≤(r[at']?.getD x).1
 | m,i,j,hm,hij,hj,h1,h2=>by
  by_cases hlt:i<j
  ·cases m with
   | zero=>omega
   | succ m=>
    have hv:gshr .u64 (IntKind.wrap .u64 (w64 ((i:Int)+j))) 1=some (((i+j) / 2:Nat):Int):=by
     rw [kaX (by omega) (by omega)]
     have hw:IntKind.wrap .u64 ((i:Int)+j)=(i:Int)+j:=by
      simp only [IntKind.wrap,IntKind.signed,IntKind.bits]
      simp
      omega
     rw [hw]
     unfold gshr
     rw [if_pos (by omega)]
     simp only [IntKind.bits]
     rw [show min (Int.toNat 1) 64=1 from rfl]
     congr 1
     rw [Int.fdiv_eq_ediv_of_nonneg _ (by decide)]
     push_cast; rfl
    have hh:(i+j) / 2<r.length:=by omega
    obtain ⟨v,hv2,hlt2⟩:=klY r[(i+j) / 2] x (hr _ (List.getElem_mem _)) hx
    have ok:=hr _ (List.getElem_mem hh)
    have hw2:w64 (((i+j) / 2:Nat):Int)=(((i+j) / 2:Nat):Int):=kaX (by omega) (by omega)
    by_cases hc:v<0
    ·have e:kae r x how9 ((i:Int),(j:Int))=some (.inl ((((i+j) / 2+1:Nat):Int),(j:Int))):=by
      unfold kae
      rw [if_pos (by simpa using hlt)]
      simp only [hv,Option.bind_some,hw2,kbg hh,hv2]
      rw [if_pos (by simpa using hc),kbB (by omega)]
     rw [kbS e]
     refine bs_L0 r x hr hx hl m ((i+j) / 2+1) j (by omega) (by omega) hj (fun _=>?_) h2
     rw [Nat.add_sub_cancel,List.getElem?_eq_getElem hh,Option.getD_some]
     have:=hlt2.1 hc
     unfold K9 at this
     obtain ⟨_,_,a3⟩:=ok
     obtain ⟨_,_,b3⟩:=hx
     omega
    ·have e:kae r x how9 ((i:Int),(j:Int))=some (.inl ((i:Int),(((i+j) / 2:Nat):Int))):=by
      unfold kae
      rw [if_pos (by simpa using hlt)]
      simp only [hv,Option.bind_some,hw2,kbg hh,hv2]
      rw [if_neg (by simpa using hc)]
     rw [kbS e]
     refine bs_L0 r x hr hx hl m i ((i+j) / 2) (by omega) (by omega) (by omega) h1 (fun _=>?_)
     rw [List.getElem?_eq_getElem hh,Option.getD_some]
     have:K9 x≤K9 r[(i+j) / 2]:=Int.not_lt.1 fun h=>hc (hlt2.2 h)
     unfold K9 at this
     obtain ⟨_,_,a3⟩:=ok
     obtain ⟨_,_,b3⟩:=hx
     omega
  ·have:i=j:=by omega
   subst this
   refine ⟨i,?_,hj,h1,h2⟩
   exact kaE (by unfold kae; rw [if_neg (by simp)])
theorem bs_eq (r:List Pile) (x:Pile) (hr:∀ y∈r,okP9 y) (hx:okP9 x) (hl:r.length≤1000):∃ (at':Nat) (f:Bool),kaj r x how9=some ((at':Int),f)∧at'≤r.length∧(∀ h:0<at',(r[at'-1]?.getD x).1≤x.1)∧∀ h:at'<r.length,x.1≤(r[at']?.getD x).1:=by
 obtain ⟨a,g1,g2,g3,g4⟩:=bs_L0 r x hr hx hl r.length 0 r.length (by omega) (by omega) (Nat.le_refl _) (fun h=>by omega) (fun h=>by omega)
 unfold kaj
 rw [kao,show ((0:Int),((r.length:Nat):Int))=(((0:Nat):Int),(r.length:Int)) from rfl,kbm g1 (by omega)]
 simp only [Option.bind_some]
 by_cases h:a<r.length
 ·obtain ⟨v,hv,_⟩:=klY r[a] x (hr _ (List.getElem_mem _)) hx
  refine ⟨a,v==0,?_,g2,g3,g4⟩
  rw [if_pos (by simpa using h),kbg h]
  simp only [Option.bind_some]
  rw [hv]; rfl
 ·exact ⟨a,false,by rw [if_neg (by simpa using h)],g2,g3,g4⟩
theorem ksv {α:Type} (r:List α) (z x:α) (a:Nat) (ha:a≤r.length) :
  knq ((lcopy (List.replicate (r.length+1) z) 0 (lenI (List.replicate (r.length+1) z)) (r.take a)).set a x) ((a:Int)+1,((r.length+1:Nat):Int)-((a:Int)+1)) (r.drop a)=r.take a++x::r.drop a:=by
 have e1:lcopy (List.replicate (r.length+1) z) 0 (lenI (List.replicate (r.length+1) z)) (r.take a)=r.take a++List.replicate (r.length+1-a) z:=by
  unfold lcopy
  rw [kao]
  simp only [Int.toNat_natCast,List.length_replicate,List.length_take,Int.toNat_zero,List.take_zero,List.nil_append,Nat.zero_add,List.drop_replicate,List.take_take]
  congr 1
  ·congr 1; omega
  ·congr 1; omega
 rw [e1]
 have l1:(r.take a).length=a:=by rw [List.length_take]; omega
 have e2:(r.take a++List.replicate (r.length+1-a) z).set a x=r.take a++x::List.replicate (r.length-a) z:=by
  rw [List.set_append_right _ _ (by omega),l1,Nat.sub_self,show r.length+1-a=(r.length-a)+1 by omega,List.replicate_succ]; rfl
 rw [e2]
 unfold knq lcopy
 have t1:Int.toNat ((a:Int)+1)=a+1:=by omega
 have t2:min (r.drop a).length (Int.toNat (((r.length+1:Nat):Int)-((a:Int)+1)))=r.length-a:=by rw [List.length_drop]; omega
 simp only [t1,t2]
 rw [show (r.drop a).take (r.length-a)=r.drop a by rw [List.take_of_length_le]; rw [List.length_drop]; exact Nat.le_refl _]
 have e3:(r.take a++x::List.replicate (r.length-a) z).take (a+1)=r.take a++[x]:=by
  rw [List.take_append,l1,List.take_of_length_le (by omega),show a+1-a=1 by omega]; rfl
 have e4:(r.take a++x::List.replicate (r.length-a) z).drop (a+1+(r.length-a))=[]:=by
  rw [List.drop_eq_nil_of_le]; simp only [List.length_append,l1,List.length_cons,List.length_replicate]; omega
 rw [e3,e4,List.append_nil,List.append_assoc]; rfl
end Go.Abs
namespace Go.Abs
open Go
def sum9:List Int→Int
 | []=>0
 | x::l=>x+sum9 l
inductive Huff (b:Nat):List Int→Int→Prop
 | one (w:Int):Huff b [w] 0
 | step {ws ws':List Int} {c:Int} (hb:b≤ws.length) (hs:ws.Pairwise (·≤·)) (hp:ws'.Perm (ws.drop b++[sum9 (ws.take b)])) (h:Huff b ws' c):Huff b ws (sum9 (ws.take b)+c)
def kr (b N:Nat):List Nat→Nat
 | []=>0
 | d::l=>b ^ (N-d)+kr b N l
def tot:List Nat→Nat
 | []=>0
 | d::l=>d+tot l
def dot:List Int→List Nat→Int
 | w::ws,d::ds=>w*d+dot ws ds
 | _,_=>0
theorem kpg {b N:Nat} {l l':List Nat} (h:l.Perm l'):kr b N l=kr b N l':=by
 induction h with
 | nil=>rfl
 | cons x _ ih=>simp only [kr,ih]
 | swap x y l=>simp only [kr]; omega
 | trans _ _ h1 h2=>exact h1.trans h2
theorem kry {l l':List Nat} (h:l.Perm l'):tot l=tot l':=by
 induction h with
 | nil=>rfl
 | cons x _ ih=>simp only [tot,ih]
 | swap x y l=>simp only [tot]; omega
 | trans _ _ h1 h2=>exact h1.trans h2
theorem kro {vs ws:List Int} (h:vs.Perm ws):∀ ds:List Nat,ds.length=vs.length→∃ ds',ds'.Perm ds∧dot ws ds'=dot vs ds:=by
 induction h with
 | nil=>intro ds hd; exact ⟨ds,.refl _,rfl⟩
 | cons x h ih=>
  intro ds hd
  cases ds with
  | nil=>simp at hd
  | cons d ds=>
   obtain ⟨ds',p,e⟩:=ih ds (by simpa using hd)
   exact ⟨d::ds',p.cons d,by simp only [dot,e]⟩
 | swap x y l=>
  intro ds hd
  cases ds with
  | nil=>simp at hd
  | cons d ds=>
   cases ds with
   | nil=>simp at hd
   | cons d' ds=>exact ⟨d'::d::ds,.swap _ _ _,by simp only [dot]; omega⟩
 | trans h1 h2 ih1 ih2=>
  intro ds hd
  obtain ⟨ds',p,e⟩:=ih1 ds hd
  obtain ⟨ds'',p',e'⟩:=ih2 ds' (by rw [p.length_eq,hd,h1.length_eq])
  exact ⟨ds'',p'.trans p,e'.trans e⟩
def insD (d:Nat):List Nat→List Nat
 | []=>[d]
 | x::l=>if x≤d then d::x::l else x::insD d l
theorem kiM (d:Nat):∀ l:List Nat,(insD d l).Perm (d::l)
 | []=>.refl _
 | x::l=>by
  simp only [insD]
  split
  ·exact .refl _
  ·exact ((kiM d l).cons x).trans (.swap _ _ _)
theorem kjH (d:Nat):∀ l:List Nat,l.Pairwise (·≥·)→(insD d l).Pairwise (·≥·)
 | [],h=>List.pairwise_singleton _ _
 | x::l,h=>by
  obtain ⟨h1,h2⟩:=List.pairwise_cons.1 h
  simp only [insD]
  split
  ·rename_i hx
   exact List.pairwise_cons.2 ⟨fun y hy=>by
    rcases List.mem_cons.1 hy with rfl | hy
    ·exact hx
    ·have:=h1 y hy; omega,h⟩
  ·rename_i hx
   exact List.pairwise_cons.2 ⟨fun y hy=>by
    rcases List.mem_cons.1 ((kiM d l).mem_iff.1 hy) with rfl | hy
    ·omega
    ·exact h1 y hy,kjH d l h2⟩
theorem knK (d:Nat):∀ (l:List Nat) (w:Int) (ws:List Int),(w::ws).Pairwise (·≤·)→ws.length=l.length→dot (w::ws) (insD d l)≤w*d+dot ws l
 | [],w,ws,h,hl=>by
  cases ws with
  | nil=>simp [insD,dot]
  | cons x ws=>simp at hl
 | x::l,w,[],h,hl=>by simp at hl
 | x::l,w,w2::ws,h,hl=>by
  obtain ⟨h1,h2⟩:=List.pairwise_cons.1 h
  simp only [insD]
  split
  ·simp only [dot]; omega
  ·rename_i hx
   have ih:=knK d l w2 ws h2 (by simpa using hl)
   have hw:=h1 w2 (by simp)
   simp only [dot]
   have hm:0≤(w2-w)*((x:Int)-d):=Int.mul_nonneg (by omega) (by omega)
   rw [Int.sub_mul,Int.mul_sub,Int.mul_sub] at hm
   omega
theorem rearr:∀ (ws:List Int) (ds:List Nat),ws.Pairwise (·≤·)→ds.length=ws.length→∃ ds',ds'.Perm ds∧ds'.Pairwise (·≥·)∧dot ws ds'≤dot ws ds
 | [],ds,_,hl=>by
  cases ds with
  | nil=>exact ⟨[],.refl _,.nil,Int.le_refl _⟩
  | cons d ds=>simp at hl
 | w::ws,[],_,hl=>by simp at hl
 | w::ws,d::ds,h,hl=>by
  obtain ⟨ds',p,s,e⟩:=rearr ws ds (List.pairwise_cons.1 h).2 (by simpa using hl)
  refine ⟨insD d ds',(kiM d ds').trans (p.cons d),kjH d ds' s,?_⟩
  have:=knK d ds' w ws h (by rw [p.length_eq]; simp at hl; omega)
  simp only [dot] at this ⊢
  omega
theorem kjn (e:Nat):∀ k:Nat,∃ q,(e+1) ^ k=1+q*e
 | 0=>⟨0,by simp⟩
 | k+1=>by
  obtain ⟨q,hq⟩:=kjn e k
  refine ⟨q*e+1+q,?_⟩
  rw [Nat.pow_succ,hq]
  simp only [Nat.mul_add,Nat.add_mul,Nat.mul_one,Nat.one_mul]
  omega
theorem kno (e N:Nat):∀ l:List Nat,∃ q,kr (e+1) N l=l.length+q*e
 | []=>⟨0,by simp [kr]⟩
 | d::l=>by
  obtain ⟨q,hq⟩:=kno e N l
  obtain ⟨q',hq'⟩:=kjn e (N-d)
  refine ⟨q+q',?_⟩
  simp only [kr,List.length_cons,hq,hq',Nat.add_mul]; omega
theorem koc {b N D:Nat} (hD:D≤N):∀ {l:List Nat},(∀ d∈l,d≤D)→kr b N l=b ^ (N-D)*kr b D l
 | [],_=>by simp [kr]
 | d::l,h=>by
  have h1:=h d (by simp)
  have ih:=koc (b:=b) hD (l:=l) fun x hx=>h x (List.mem_cons_of_mem _ hx)
  simp only [kr]
  rw [ih,Nat.mul_add,←Nat.pow_add,show N-D+(D-d)=N-d by omega]
theorem kgQ (b N:Nat):∀ (l l':List Nat),kr b N (l++l')=kr b N l+kr b N l'
 | [],l'=>by simp [kr]
 | d::l,l'=>by simp only [List.cons_append,kr,kgQ b N l l']; omega
theorem khy (b N d:Nat):∀ m:Nat,kr b N (List.replicate m d)=m*b ^ (N-d)
 | 0=>by simp [kr]
 | m+1=>by rw [List.replicate_succ]; simp only [kr,khy b N d m,Nat.add_mul]; omega
theorem kqB {b D:Nat}:∀ {l:List Nat},(∀ d∈l,d<D)→b ∣ kr b D l
 | [],_=>Nat.dvd_zero _
 | d::l,h=>by
  have h1:=h d (by simp)
  simp only [kr]
  refine Nat.dvd_add ?_ (kqB fun x hx=>h x (List.mem_cons_of_mem _ hx))
  rw [show D-d=(D-d-1)+1 by omega,Nat.pow_succ]
  exact Nat.dvd_mul_left _ _
theorem kmn {D:Nat}:∀ {l:List Nat},l.Pairwise (·≥·)→(∀ d∈l,d≤D)→∃ m r,l=List.replicate m D++r∧∀ d∈r,d<D
 | [],_,_=>⟨0,[],rfl,fun d hd=>by cases hd⟩
 | d::l,h,hd=>by
  obtain ⟨h1,h2⟩:=List.pairwise_cons.1 h
  by_cases e:d=D
  ·obtain ⟨m,r,e1,e2⟩:=kmn h2 fun x hx=>hd x (List.mem_cons_of_mem _ hx)
   exact ⟨m+1,r,by rw [List.replicate_succ,List.cons_append,←e1,e],e2⟩
  ·refine ⟨0,d::l,rfl,fun x hx=>?_⟩
   have:=hd d (by simp)
   rcases List.mem_cons.1 hx with rfl | hx
   ·omega
   ·have:=h1 x hx; omega
theorem knV:∀ (b:Nat) (ws:List Int) (D:Nat) (r:List Nat),b≤ws.length→dot ws (List.replicate b D++r)=sum9 (ws.take b)*D+dot (ws.drop b) r
 | 0,ws,D,r,_=>by simp [sum9]
 | b+1,[],D,r,h=>by simp at h
 | b+1,w::ws,D,r,h=>by
  rw [List.replicate_succ,List.cons_append,List.take_succ_cons,List.drop_succ_cons]
  simp only [dot,sum9]
  rw [knV b ws D r (by simpa using h),Int.add_mul]; omega
theorem kqN:∀ {ws:List Int} {ds:List Nat},(∀ w∈ws,0≤w)→0≤dot ws ds
 | [],ds,_=>by simp [dot]
 | w::ws,[],_=>by simp [dot]
 | w::ws,d::ds,h=>by
  have h1:0≤w*(d:Int):=Int.mul_nonneg (h w (by simp)) (by omega)
  have h2:=kqN (ws:=ws) (ds:=ds) fun x hx=>h x (List.mem_cons_of_mem _ hx)
  simp only [dot]; omega
theorem kpI:∀ {ws:List Int},(∀ w∈ws,0≤w)→0≤sum9 ws
 | [],_=>by simp [sum9]
 | w::ws,h=>by
  have:=h w (by simp)
  have:=kpI (ws:=ws) fun x hx=>h x (List.mem_cons_of_mem _ hx)
  simp only [sum9]; omega
theorem Huff.len {b:Nat} (hb:2≤b) {ws:List Int} {c:Int} (h:Huff b ws c):∃ q,ws.length=1+q*(b-1):=by
 induction h with
 | one w=>exact ⟨0,by simp⟩
 | @step ws ws' c hl hs hp h ih=>
  obtain ⟨q,hq⟩:=ih
  refine ⟨q+1,?_⟩
  have:=hp.length_eq
  rw [List.length_append,List.length_drop,List.length_singleton] at this
  rw [Nat.add_mul]; omega
theorem Huff.least {b:Nat} (hb:2≤b) {ws:List Int} {c:Int} (h:Huff b ws c):∀ (N:Nat) (vs:List Int) (ds:List Nat),vs.Perm ws→ds.length=vs.length→(∀ w∈vs,0≤w)→(∀ d∈ds,d≤N)→kr b N ds≤b ^ N→c≤dot vs ds:=by
 induction h with
 | one w=>intro N vs ds hv hl hn hd hk; exact kqN hn
 | @step ws ws' c hl0 hs hp h ih=>
  obtain ⟨q,hq⟩:=(Huff.step hl0 hs hp h).len hb
  have key:∀ (T N:Nat) (ds:List Nat),tot ds≤T→ds.length=ws.length→(∀ w∈ws,0≤w)→(∀ d∈ds,d≤N)→kr b N ds≤b ^ N→sum9 (ws.take b)+c≤dot ws ds:=by
   intro T
   induction T with
   | zero=>
    intro N ds ht hl hn hd hk
    exfalso
    have hz:∀ d∈ds,d=0:=by
     have:∀ {l:List Nat},tot l≤0→∀ d∈l,d=0:=by
      intro l
      induction l with
      | nil=>intro _ d hd; cases hd
      | cons x l ihl=>
       intro h d hd
       simp only [tot] at h
       rcases List.mem_cons.1 hd with rfl | hd
       ·omega
       ·exact ihl (by omega) d hd
     exact this ht
    have:ds=List.replicate ds.length 0:=List.eq_replicate_of_mem fun d hd=>hz d hd
    rw [this,khy,Nat.sub_zero] at hk
    have hp:0<b ^ N:=Nat.pow_pos (by omega)
    have h1:ds.length*b ^ N≤1*b ^ N:=by omega
    have:=Nat.le_of_mul_le_mul_right h1 hp
    omega
   | succ T ihT=>
    intro N ds ht hl hn hd hk
    obtain ⟨ds',p,s,e⟩:=rearr ws ds hs hl
    rw [←kry p] at ht
    rw [←kpg p] at hk
    have hl':ds'.length=ws.length:=by rw [p.length_eq,hl]
    have hd':∀ d∈ds',d≤N:=fun d hx=>hd d (p.mem_iff.1 hx)
    refine Int.le_trans ?_ e
    cases hds:ds' with
    | nil=>rw [hds] at hl'; simp at hl'; omega
    | cons D t=>
     rw [hds] at s hl' hd' hk ht
     have hDN:=hd' D (by simp)
     have hmax:∀ d∈D::t,d≤D:=fun d hx=>by
      rcases List.mem_cons.1 hx with rfl | hx
      ·exact Nat.le_refl _
      ·exact (List.pairwise_cons.1 s).1 d hx
     have hkD:kr b D (D::t)≤b ^ D:=by
      rw [koc hDN hmax] at hk
      have:b ^ N=b ^ (N-D)*b ^ D:=by rw [←Nat.pow_add]; congr 1; omega
      rw [this] at hk
      exact Nat.le_of_mul_le_mul_left hk (Nat.pow_pos (by omega))
     obtain ⟨m,r,e1,e2⟩:=kmn s hmax
     have hm:1≤m:=by
      cases m with
      | zero=>
       rw [List.replicate_zero,List.nil_append] at e1
       have:=e2 D (by rw [←e1]; simp)
       omega
      | succ m=>omega
     have hD0:1≤D:=by
      cases D with
      | zero=>
       exfalso
       have:(0::t)=List.replicate (0::t).length 0:=List.eq_replicate_of_mem fun d hx=>by have:=hmax d hx; omega
       rw [this,khy] at hkD
       simp only [Nat.sub_self,Nat.pow_zero,Nat.mul_one,List.length_cons] at hkD hl'
       omega
      | succ D=>omega
     by_cases hfull:kr b D (D::t)=b ^ D
     ·
      have hmb:b≤m:=by
       rw [e1,kgQ,khy,Nat.sub_self,Nat.pow_zero,Nat.mul_one] at hfull
       have h1:b ∣ kr b D r:=kqB e2
       have h2:b ∣ b ^ D:=⟨b ^ (D-1),by rw [Nat.mul_comm,←Nat.pow_succ]; congr 1; omega⟩
       have h3:b ∣ m:=by
        rw [←hfull] at h2
        exact (Nat.dvd_add_left h1).1 h2
       exact Nat.le_of_dvd (by omega) h3
      have e3:D::t=List.replicate b D++(List.replicate (m-b) D++r):=by
       rw [e1,←List.append_assoc,List.replicate_append_replicate]; congr 2; omega
      rw [e3,knV b ws D _ hl0]
      have hr:=ih D (sum9 (ws.take b)::ws.drop b) ((D-1)::(List.replicate (m-b) D++r)) ((List.perm_append_comm (l₁:=[sum9 (ws.take b)])).trans hp.symm)
       (by
        have h1:=congrArg List.length e3
        rw [hl',List.length_append,List.length_replicate] at h1
        rw [List.length_cons,List.length_cons,List.length_drop]; omega)
       (fun w hw=>by
        rcases List.mem_cons.1 hw with rfl | hw
        ·exact kpI fun x hx=>hn x (List.mem_of_mem_take hx)
        ·exact hn w (List.mem_of_mem_drop hw))
       (fun d hx=>by
        rcases List.mem_cons.1 hx with rfl | hx
        ·omega
        ·exact hmax d (by rw [e3]; exact List.mem_append.2 (.inr hx)))
       (by
        rw [←hfull,e3,kgQ,khy,Nat.sub_self,Nat.pow_zero,Nat.mul_one]
        simp only [kr]
        rw [show D-(D-1)=1 by omega,Nat.pow_one]
        exact Nat.le_refl _)
      simp only [dot] at hr
      have e4:sum9 (ws.take b)*((D-1:Nat):Int)=sum9 (ws.take b)*D-sum9 (ws.take b):=by
       rw [show ((D-1:Nat):Int)=(D:Int)-1 by omega,Int.mul_sub,Int.mul_one]
      rw [e4] at hr
      omega
     ·
      have hroom:kr b D ((D-1)::t)≤b ^ D:=by
       obtain ⟨e,rfl⟩:∃ e,b=e+1:=⟨b-1,by omega⟩
       obtain ⟨q1,h1⟩:=kno e D (D::t)
       obtain ⟨q2,h2⟩:=kjn e D
       rw [show e+1-1=e by omega] at hq
       have hlen:(D::t).length=1+q*e:=by rw [hl',hq]
       rw [hlen] at h1
       have hlt:kr (e+1) D (D::t)<(e+1) ^ D:=by omega
       have h3:(q+q1)*e<q2*e:=by rw [Nat.add_mul]; omega
       have h4:q+q1<q2:=Nat.lt_of_mul_lt_mul_right h3
       have h5:(q+q1+1)*e≤q2*e:=Nat.mul_le_mul_right e h4
       rw [Nat.add_mul,Nat.add_mul,Nat.one_mul] at h5
       simp only [kr] at h1 hlt ⊢
       rw [Nat.sub_self,Nat.pow_zero] at h1 hlt
       rw [show D-(D-1)=1 by omega,Nat.pow_one]
       omega
      have ht':tot ((D-1)::t)≤T:=by simp only [tot] at ht ⊢; omega
      have:=ihT D ((D-1)::t) ht' (by simpa using hl') hn (fun d hx=>by
       rcases List.mem_cons.1 hx with rfl | hx
       ·omega
       ·exact hmax d (List.mem_cons_of_mem _ hx)) hroom
      refine Int.le_trans this ?_
      cases ws with
      | nil=>simp at hl'
      | cons w ws=>
       simp only [dot]
       have hw:=hn w (by simp)
       have:w*((D-1:Nat):Int)≤w*(D:Int):=Int.mul_le_mul_of_nonneg_left (by omega) hw
       omega
  intro N vs ds hv hl hn hd hk
  obtain ⟨ds',p,e⟩:=kro hv ds hl
  rw [←e]
  exact key (tot ds') N ds' (Nat.le_refl _) (by rw [p.length_eq,hl,hv.length_eq]) (fun w hw=>hn w (hv.mem_iff.2 hw)) (fun d hx=>hd d (p.mem_iff.1 hx)) (by rw [kpg p]; exact hk)
end Go.Abs
namespace Go.Abs
open Go
theorem PI.big {n b:Nat} {p:List Pile} (h:PI n b p) (hb:2≤b) (hl:1<p.length):b≤p.length:=by
 have hd:=Nat.dvd_of_mod_eq_zero h.md
 have:=Nat.le_of_dvd (by omega) hd
 omega
theorem koJ {α:Type} {l:List α} {a c:Int} (h1:0≤a) (h2:a≤c) (h3:c≤l.length):∃ v,gsl l a c=some v:=by
 unfold gsl; rw [if_pos ⟨h1,h2,h3⟩]; exact ⟨_,rfl⟩
theorem kqE {n a c:Int} (h1:0≤a) (h2:a≤c) (h3:c≤n):gmb n a c=some ():=by
 unfold gmb; rw [if_pos ⟨h1,h2,h3⟩]
theorem kpT {n b:Nat} {p:List Pile} (h:PI n b p) (hb:2≤b∧b≤8) (hl:1<p.length) (c:Int) (hc:0≤c∧c≤1000000) (ps ps':List Int) (hL4:itN (kcP (sc (p.take b),kd (p.take b))) ((kd (p.take b)).length+1) (((0:Nat):Int),ps)=some ps') :
  ∃ a,a≤(p.drop b).length∧kcj (b:Int) (c,p,ps)=some (.inl (c+sc (p.take b),(p.drop b).take a++(sc (p.take b),kd (p.take b))::(p.drop b).drop a,ps'))∧PI n b ((p.drop b).take a++(sc (p.take b),kd (p.take b))::(p.drop b).drop a):=by
 have hbp:=h.big hb.1 hl
 have hok:=h.ok
 have h18:=h.len.2
 have hpart:=khq h b
 have e3:=L3_eq h hb.2 hbp c ps b 0 (by omega)
 have e4:=hL4
 have hokx:okP9 (sc (p.take b),kd (p.take b)):=⟨hpart.1,hpart.2.1,hpart.2.2⟩
 have hrok:∀ y∈p.drop b,okP9 y:=fun y hy=>hok y (List.mem_of_mem_drop hy)
 have hrl:(p.drop b).length=p.length-b:=List.length_drop ..
 obtain ⟨a,f,e5,ha,hlo,hhi⟩:=bs_eq (p.drop b) (sc (p.take b),kd (p.take b)) hrok hokx (by omega)
 generalize hr:p.drop b=r at *
 generalize hS:sc (p.take b)=S at *
 generalize hks:kd (p.take b)=ks at *
 refine ⟨a,ha,?_,?_⟩
 ·unfold kcj
  rw [if_pos (by rw [kao]; simp; omega)]
  obtain ⟨v12,g12⟩:=koJ (l:=p) (a:=0) (c:=(b:Int)) (by omega) (by omega) (by omega)
  obtain ⟨v25,g25⟩:=koJ (l:=p) (a:=(b:Int)) (c:=lenI p) (by omega) (by rw [kao]; omega) (by rw [kao]; omega)
  simp only [g12,Option.bind_some]
  rw [show ((0:Int),(0:Int),([]:List Int))=(((0:Nat):Int),sc (p.take 0),kd (p.take 0)) from rfl,kbm e3 (by omega)]
  simp only [Option.bind_some]
  rw [show ((0:Int),ps)=(((0:Nat):Int),ps) from rfl,kbm e4 (by omega)]
  simp only [Option.bind_some,g25]
  have er:(List.drop (Int.toNat (b:Int)) p).take (Int.toNat ((lenI p)-(b:Int)))=r:=by
   rw [Int.toNat_natCast,hr,List.take_of_length_le]
   rw [kao]; omega
  rw [er,show kaj r (S,ks) (fun u0=>(kbI u0.1 u0.2).bind fun u1=>some u1)=_ from e5]
  simp only [Option.bind_some]
  have emk:gmk (w64 (((lenI p)-(b:Int))+1)) ((0,[]):Pile)=some (List.replicate (r.length+1) (0,[])):=by
   rw [kao,kaX (by omega) (by omega)]
   unfold gmk
   rw [if_pos (by omega)]
   congr 2; omega
  rw [emk]
  simp only [Option.bind_some]
  rw [kqE (by omega) (by omega) (by rw [kao]; omega)]
  simp only [Option.bind_some]
  have et:(List.drop (Int.toNat ((b:Int)+0)) p).take (Int.toNat ((a:Int)-0))=r.take a:=by
   rw [show Int.toNat ((b:Int)+0)=b by omega,show Int.toNat ((a:Int)-0)=a by omega,hr]
  have ed:(List.drop (Int.toNat ((b:Int)+(a:Int))) p).take (Int.toNat (((lenI p)-(b:Int))-(a:Int)))=r.drop a:=by
   rw [show Int.toNat ((b:Int)+(a:Int))=b+a by omega,←List.drop_drop,hr,List.take_of_length_le]
   rw [List.length_drop,kao]; omega
  rw [et,ed]
  have hlc:(lcopy (List.replicate (r.length+1) ((0,[]):Pile)) 0 (lenI (List.replicate (r.length+1) ((0,[]):Pile))) (r.take a)).length=r.length+1:=by
   unfold lcopy
   simp only [kao,Int.toNat_natCast,Int.toNat_zero,List.take_zero,List.nil_append,List.length_append,List.length_take,List.length_drop,List.length_replicate]
   omega
  rw [kbg (by rw [hlc]; omega)]
  simp only [Option.bind_some,lset,Int.toNat_natCast]
  have hset:=ksv r ((0,[]):Pile) (S,ks) a ha
  obtain ⟨v30,g30⟩:=koJ (l:=(lcopy (List.replicate (r.length+1) ((0,[]):Pile)) 0 (lenI (List.replicate (r.length+1) ((0,[]):Pile))) (r.take a)).set a (S,ks)) (a:=w64 ((a:Int)+1)) (c:=lenI ((lcopy (List.replicate (r.length+1) ((0,[]):Pile)) 0 (lenI (List.replicate (r.length+1) ((0,[]):Pile))) (r.take a)).set a (S,ks)))
   (by rw [kaX (by omega) (by omega)]; omega) (by rw [kaX (by omega) (by omega),kao,List.length_set,hlc]; omega) (by rw [kao]; omega)
  rw [g30]
  simp only [Option.bind_some]
  rw [kqE (by omega) (by rw [kao]; omega) (Int.le_refl _)]
  simp only [Option.bind_some]
  have hlen2:lenI ((lcopy (List.replicate (r.length+1) ((0,[]):Pile)) 0 (lenI (List.replicate (r.length+1) ((0,[]):Pile))) (r.take a)).set a (S,ks))=((r.length+1:Nat):Int):=by rw [kao,List.length_set,hlc]
  rw [hlen2,kaX (x:=(a:Int)+1) (by omega) (by omega),hset,kaX (by omega) (by omega)]
 ·have hrs:r.Pairwise fun a b=>a.1≤b.1:=by rw [←hr]; exact h.s.sublist (List.drop_sublist b p)
  have esc:sc p=S+sc r:=by rw [←hS,←hr,←kcX,List.take_append_drop]
  have ekd:kd p=ks++kd r:=by rw [←hks,←hr,←kbt,List.take_append_drop]
  have esr:sc r=sc (r.take a)+sc (r.drop a):=by rw [←kcX,List.take_append_drop]
  have ekr:kd r=kd (r.take a)++kd (r.drop a):=by rw [←kbt,List.take_append_drop]
  refine ⟨?_,fun x hx=>?_,?_,fun k hk=>?_,?_,?_,?_⟩
  ·refine List.pairwise_append.2 ⟨hrs.sublist (List.take_sublist a r),List.pairwise_cons.2 ⟨fun y hy=>?_,hrs.sublist (List.drop_sublist a r)⟩,fun x hx y hy=>?_⟩
   ·obtain ⟨i,hi,rfl⟩:=List.mem_iff_getElem.1 hy
    rw [List.length_drop] at hi
    have h0:=hhi (by omega)
    rw [List.getElem?_eq_getElem (by omega),Option.getD_some] at h0
    rw [List.getElem_drop]
    by_cases hi0:i=0
    ·subst hi0; exact h0
    ·exact Int.le_trans h0 (List.pairwise_iff_getElem.1 hrs a (a+i) (by omega) (by omega) (by omega))
   ·have hxS:x.1≤S:=by
     obtain ⟨i,hi,rfl⟩:=List.mem_iff_getElem.1 hx
     rw [List.length_take] at hi
     have h0:=hlo (by omega)
     rw [List.getElem?_eq_getElem (by omega),Option.getD_some] at h0
     rw [List.getElem_take]
     by_cases hi0:i=a-1
     ·subst hi0; exact h0
     ·exact Int.le_trans (List.pairwise_iff_getElem.1 hrs i (a-1) (by omega) (by omega) (by omega)) h0
    rcases List.mem_cons.1 hy with rfl | hy
    ·exact hxS
    ·obtain ⟨i,hi,rfl⟩:=List.mem_iff_getElem.1 hx
     obtain ⟨j,hj,rfl⟩:=List.mem_iff_getElem.1 hy
     rw [List.length_take] at hi
     rw [List.length_drop] at hj
     rw [List.getElem_take,List.getElem_drop]
     exact List.pairwise_iff_getElem.1 hrs i (a+j) (by omega) (by omega) (by omega)
  ·have hin:∀ y∈r,0≤y.1:=fun y hy=>h.nn y (by rw [←hr] at hy; exact List.mem_of_mem_drop hy)
   rcases List.mem_append.1 hx with hx | hx
   ·exact hin x (List.mem_of_mem_take hx)
   ·rcases List.mem_cons.1 hx with rfl | hx
    ·exact hpart.1
    ·exact hin x (List.mem_of_mem_drop hx)
  ·have:=h.tot
   rw [kcX]
   simp only [sc]; omega
  ·refine h.kin k ?_
   rw [ekd,ekr]
   rw [kbt] at hk
   simp only [kd,List.mem_append] at hk ⊢
   rcases hk with hk | hk | hk
   ·exact .inr (.inl hk)
   ·exact .inl hk
   ·exact .inr (.inr hk)
  ·have:=h.kl
   rw [ekd,ekr] at this
   rw [kbt]
   simp only [kd,List.length_append] at this ⊢; omega
  ·simp only [List.length_append,List.length_cons,List.length_take,List.length_drop]; omega
  ·have hd:=Nat.dvd_of_mod_eq_zero h.md
   refine Nat.mod_eq_zero_of_dvd ?_
   have e:(r.take a++(S,ks)::r.drop a).length-1=(p.length-1)-(b-1):=by
    simp only [List.length_append,List.length_cons,List.length_take,List.length_drop]; omega
   rw [e]
   exact Nat.dvd_sub hd (Nat.dvd_refl _)
def gp (ps:List Int) (k:Int):Int:=(ps[k.toNat]?).getD 0
theorem kqo {ps:List Int} {k j v:Int} (hk:0≤k) (hk2:k.toNat<ps.length) (hj:0≤j):gp (lset ps k v) j=if j=k then v else gp ps j:=by
 unfold gp lset
 rw [List.getElem?_set]
 by_cases h:j=k
 ·subst h; rw [if_pos rfl,if_pos hk2,if_pos rfl]; rfl
 ·rw [if_neg (by omega),if_neg h]
theorem gi_gp {ps:List Int} {k:Int} (hk:0≤k) (hk2:k.toNat<ps.length):gi ps k=some (gp ps k):=by
 rw [ksq hk (by omega)]
 unfold gp
 rw [List.getElem?_eq_getElem hk2]; rfl
theorem L4_gp (S:Int) (ks:List Int) (n:Nat) (hk:∀ k∈ks,0≤k∧k<n) (hl:ks.length≤1000) (hd:ks.Nodup):∀ (m i:Nat) (ps:List Int),i+m=ks.length→ps.length=n→(∀ k∈ks.drop i,0≤gp ps k∧gp ps k≤1000)→
  ∃ ps',itN (kcP (S,ks)) (m+1) ((i:Int),ps)=some ps'∧ps'.length=n∧∀ j:Int,0≤j→gp ps' j=gp ps j+if j∈ks.drop i then 1 else 0
 | 0,i,ps,hm,hp,hr=>by
  refine ⟨ps,kaE (by unfold kcP; rw [if_neg (by rw [kao]; simp; omega)]),hp,fun j hj=>?_⟩
  rw [List.drop_eq_nil_of_le (by omega)]; simp
 | m+1,i,ps,hm,hp,hr=>by
  have hi:i<ks.length:=by omega
  have hki:=hk _ (List.getElem_mem hi)
  have hdr:=List.drop_eq_getElem_cons hi
  have hnd:(ks.drop i).Nodup:=hd.sublist (List.drop_sublist i ks)
  rw [hdr] at hnd hr
  obtain ⟨n1,n2⟩:=List.nodup_cons.1 hnd
  have hri:=hr ks[i] List.mem_cons_self
  have hkl:ks[i].toNat<ps.length:=by omega
  have e:kcP (S,ks) ((i:Int),ps)=some (.inl (((i+1:Nat):Int),lset ps ks[i] (gp ps ks[i]+1))):=by
   unfold kcP
   rw [if_pos (by rw [kao]; simpa using hi)]
   simp only [kbg hi,Option.bind_some,gi_gp hki.1 hkl]
   rw [kbB (by omega),kaX (by omega) (by omega)]
  obtain ⟨ps',g1,g2,g3⟩:=L4_gp S ks n hk hl hd m (i+1) (lset ps ks[i] (gp ps ks[i]+1)) (by omega) (by simp [lset,hp]) (fun k hkm=>by
   have h0:=(hk k (List.mem_of_mem_drop hkm)).1
   rw [kqo hki.1 hkl h0,if_neg (fun e=>n1 (by rw [←e]; exact hkm))]
   exact hr k (List.mem_cons_of_mem _ hkm))
  refine ⟨ps',by rw [kbS e]; exact g1,g2,fun j hj=>?_⟩
  rw [g3 j hj,kqo hki.1 hkl hj,hdr]
  by_cases hjk:j=ks[i]
  ·subst hjk; rw [if_pos rfl,if_neg n1,if_pos List.mem_cons_self]; omega
  ·rw [if_neg hjk]
   by_cases hjm:j∈ks.drop (i+1)
   ·rw [if_pos hjm,if_pos (List.mem_cons_of_mem _ hjm)]
   ·rw [if_neg hjm,if_neg (fun h=>by rcases List.mem_cons.1 h with h | h; exact hjk h; exact hjm h)]
def roomK (b:Int) (ps:List Int):List Int→Int
 | []=>0
 | k::l=>b ^ (11-(gp ps k).toNat)+roomK b ps l
def wtK (cs:List Int):List Int→Int
 | []=>0
 | k::l=>gp cs k+wtK cs l
def costK (cs ps:List Int):List Int→Int
 | []=>0
 | k::l=>gp cs k*gp ps k+costK cs ps l
theorem kiR (b:Int) (ps:List Int):∀ l l':List Int,roomK b ps (l++l')=roomK b ps l+roomK b ps l'
 | [],l'=>by simp [roomK]
 | k::l,l'=>by simp only [List.cons_append,roomK,kiR b ps l l']; omega
theorem kkX (cs:List Int):∀ l l':List Int,wtK cs (l++l')=wtK cs l+wtK cs l'
 | [],l'=>by simp [wtK]
 | k::l,l'=>by simp only [List.cons_append,wtK,kkX cs l l']; omega
theorem kgy (cs ps:List Int):∀ l l':List Int,costK cs ps (l++l')=costK cs ps l+costK cs ps l'
 | [],l'=>by simp [costK]
 | k::l,l'=>by simp only [List.cons_append,costK,kgy cs ps l l']; omega
theorem kkc {b:Int} {ps ps':List Int}:∀ {l:List Int},(∀ k∈l,gp ps' k=gp ps k)→roomK b ps' l=roomK b ps l
 | [],_=>rfl
 | k::l,h=>by simp only [roomK]; rw [h k (by simp),kkc fun x hx=>h x (List.mem_cons_of_mem _ hx)]
theorem kjU {cs ps ps':List Int}:∀ {l:List Int},(∀ k∈l,gp ps' k=gp ps k)→costK cs ps' l=costK cs ps l
 | [],_=>rfl
 | k::l,h=>by simp only [costK]; rw [h k (by simp),kjU fun x hx=>h x (List.mem_cons_of_mem _ hx)]
theorem kkM {b:Int} {ps ps':List Int}:∀ {l:List Int},(∀ k∈l,gp ps' k=gp ps k+1∧0≤gp ps k∧gp ps k≤10)→b*roomK b ps' l=roomK b ps l
 | [],_=>by simp [roomK]
 | k::l,h=>by
  obtain ⟨h1,h2,h3⟩:=h k (by simp)
  simp only [roomK]
  rw [Int.mul_add,kkM fun x hx=>h x (List.mem_cons_of_mem _ hx),h1,Int.mul_comm,←Int.pow_succ,show (11-(gp ps k+1).toNat).succ=11-(gp ps k).toNat by omega]
theorem kkS {cs ps ps':List Int}:∀ {l:List Int},(∀ k∈l,gp ps' k=gp ps k+1)→costK cs ps' l=costK cs ps l+wtK cs l
 | [],_=>rfl
 | k::l,h=>by
  simp only [costK,wtK]
  rw [h k (by simp),kkS fun x hx=>h x (List.mem_cons_of_mem _ hx),Int.mul_add]; omega
theorem kli {cs ps:List Int} {l l':List Int} (h:l.Perm l'):costK cs ps l=costK cs ps l':=by
 induction h with
 | nil=>rfl
 | cons x _ ih=>simp only [costK,ih]
 | swap x y l=>simp only [costK]; omega
 | trans _ _ h1 h2=>exact h1.trans h2
theorem kpO {b:Int} {ps:List Int} {l l':List Int} (h:l.Perm l'):roomK b ps l=roomK b ps l':=by
 induction h with
 | nil=>rfl
 | cons x _ ih=>simp only [roomK,ih]
 | swap x y l=>simp only [roomK]; omega
 | trans _ _ h1 h2=>exact h1.trans h2
theorem sc_wt {cs:List Int}:∀ {p:List Pile},(∀ q∈p,q.1=wtK cs q.2)→sc p=wtK cs (kd p)
 | [],_=>rfl
 | q::p,h=>by
  simp only [sc,kd]
  rw [kkX,h q (by simp),sc_wt fun x hx=>h x (List.mem_cons_of_mem _ hx)]
theorem kpG {b:Int} {ps:List Int}:∀ {p:List Pile},(∀ q∈p,roomK b ps q.2≤b ^ 11)→roomK b ps (kd p)≤p.length*b ^ 11
 | [],_=>by simp [kd,roomK]
 | q::p,h=>by
  simp only [kd,List.length_cons]
  have h1:=h q (by simp)
  have h2:=kpG (p:=p) fun x hx=>h x (List.mem_cons_of_mem _ hx)
  rw [kiR]
  push_cast
  rw [Int.add_mul,Int.one_mul]; omega
theorem ksm {a b:List Pile} (h:a.Perm b):(kd a).Perm (kd b):=by
 induction h with
 | nil=>exact .refl _
 | cons x _ ih=>exact ih.append_left _
 | swap x y l=>
  simp only [kd,←List.append_assoc]
  exact List.perm_append_comm.append_right _
 | trans _ _ h1 h2=>exact h1.trans h2
theorem ksL {p:List Pile} {q:Pile} {k:Int} (hq:q∈p) (hk:k∈q.2):k∈kd p:=by
 induction p with
 | nil=>cases hq
 | cons x p ih=>
  simp only [kd]
  rcases List.mem_cons.1 hq with rfl | hq
  ·exact List.mem_append.2 (.inl hk)
  ·exact List.mem_append.2 (.inr (ih hq))
structure PK (n b:Nat) (cs:List Int) (Lg:Nat) (p:List Pile) (ps:List Int) (c:Int) (r:Nat):Prop where
 pi:PI n b p
 nd:(kd p).Nodup
 lps:ps.length=n
 rng:∀ k:Int,0≤k→0≤gp ps k∧gp ps k≤r
 rl:p.length+r*(b-1)=Lg
 room:∀ q∈p,roomK b ps q.2≤(b:Int) ^ 11
 wt:∀ q∈p,q.1=wtK cs q.2
 cost:c=costK cs ps (kd p)
theorem rmul {b r:Nat} (hb:2≤b∧b≤8) (h:r*(b-1)≤b+9):r≤11:=by
 have:b=2∨b=3∨b=4∨b=5∨b=6∨b=7∨b=8:=by omega
 rcases this with rfl | rfl | rfl | rfl | rfl | rfl | rfl <;> omega
theorem kph:∀ l:List Int,sum9 l=sI l
 | []=>rfl
 | x::l=>by simp only [sum9,sI,kph l]
theorem PK.round {n b:Nat} {cs:List Int} {Lg:Nat} {p:List Pile} {ps:List Int} {c:Int} {r:Nat} (h:PK n b cs Lg p ps c r) (hb:2≤b∧b≤8) (hl:1<p.length) (hL:Lg≤b+10) (hc:0≤c∧c≤1000000) :
  ∃ p' ps',kcj (b:Int) (c,p,ps)=some (.inl (c+sc (p.take b),p',ps'))∧PK n b cs Lg p' ps' (c+sc (p.take b)) (r+1)∧p'.length+b=p.length+1∧(p'.map (·.1)).Perm ((p.drop b).map (·.1)++[sc (p.take b)])∧(kd p').Perm (kd p):=by
 have hbp:=h.pi.big hb.1 hl
 have hpart:=khq h.pi b
 have ekd:kd p=kd (p.take b)++kd (p.drop b):=by rw [←kbt,List.take_append_drop]
 have hr1:(r+1)*(b-1)=r*(b-1)+(b-1):=by rw [Nat.add_mul,Nat.one_mul]
 have hrl:=h.rl
 have hr11:r+1≤11:=rmul hb (by omega)
 have hnd:=h.nd
 rw [ekd] at hnd
 obtain ⟨nd1,nd2,nd3⟩:=List.nodup_append.1 hnd
 have hkin:∀ k∈kd (p.take b),0≤k∧k<n:=fun k hk=>h.pi.kin k (by rw [ekd]; exact List.mem_append.2 (.inl hk))
 have hkin2:∀ k∈kd (p.drop b),0≤k∧k<n:=fun k hk=>h.pi.kin k (by rw [ekd]; exact List.mem_append.2 (.inr hk))
 obtain ⟨ps',e4,l4,g4⟩:=L4_gp (sc (p.take b)) (kd (p.take b)) n hkin (by omega) nd1 (kd (p.take b)).length 0 ps (by omega) h.lps (fun k hk=>by
  have:=h.rng k (hkin k (List.mem_of_mem_drop hk)).1; omega)
 rw [List.drop_zero] at g4
 obtain ⟨a,ha,e5,hpi⟩:=kpT h.pi hb hl c hc ps ps' e4
 have hin:∀ k∈kd (p.take b),gp ps' k=gp ps k+1:=fun k hk=>by rw [g4 k (hkin k hk).1,if_pos hk]
 have hout:∀ k∈kd (p.drop b),gp ps' k=gp ps k:=fun k hk=>by
  rw [g4 k (hkin2 k hk).1,if_neg (fun h1=>nd3 k h1 k hk rfl)]; omega
 have hkdp:(kd ((p.drop b).take a++(sc (p.take b),kd (p.take b))::(p.drop b).drop a)).Perm (kd p):=by
  rw [kbt,ekd]
  simp only [kd]
  have e:kd (p.drop b)=kd ((p.drop b).take a)++kd ((p.drop b).drop a):=by rw [←kbt,List.take_append_drop]
  rw [e,←List.append_assoc,←List.append_assoc]
  exact List.perm_append_comm.append_right _
 have hpos:(0:Int)<(b:Int) ^ 11:=Int.pow_pos (by omega)
 have hmem:∀ q∈(p.drop b).take a++(sc (p.take b),kd (p.take b))::(p.drop b).drop a,q=(sc (p.take b),kd (p.take b))∨q∈p.drop b:=fun q hq=>by
  rcases List.mem_append.1 hq with hq | hq
  ·exact .inr (List.mem_of_mem_take hq)
  ·rcases List.mem_cons.1 hq with hq | hq
   ·exact .inl hq
   ·exact .inr (List.mem_of_mem_drop hq)
 have hlen:((p.drop b).take a++(sc (p.take b),kd (p.take b))::(p.drop b).drop a).length+b=p.length+1:=by
  rw [List.length_drop] at ha
  simp only [List.length_append,List.length_cons,List.length_take,List.length_drop]; omega
 refine ⟨_,ps',e5,⟨hpi,hkdp.nodup_iff.2 h.nd,l4,fun k hk=>?_,by omega,fun q hq=>?_,fun q hq=>?_,?_⟩,hlen,?_,hkdp⟩
 ·have:=h.rng k hk
  rw [g4 k hk]
  split <;> omega
 ·rcases hmem q hq with rfl | hq
  ·dsimp only
   have h1:=kkM (b:=(b:Int)) (ps:=ps) (ps':=ps') (l:=kd (p.take b)) fun k hk=>⟨hin k hk,by have:=h.rng k (hkin k hk).1; omega⟩
   have h2:=kpG (b:=(b:Int)) (ps:=ps) (p:=p.take b) fun q hq=>h.room q (List.mem_of_mem_take hq)
   rw [←h1,List.length_take,Nat.min_eq_left hbp] at h2
   exact Int.le_of_mul_le_mul_left h2 (by omega)
  ·rw [kkc fun k hk=>hout k (ksL hq hk)]
   exact h.room q (List.mem_of_mem_drop hq)
 ·rcases hmem q hq with rfl | hq
  ·exact sc_wt fun q hq=>h.wt q (List.mem_of_mem_take hq)
  ·exact h.wt q (List.mem_of_mem_drop hq)
 ·rw [kli hkdp,ekd,kgy,kkS hin,kjU hout,h.cost,ekd,kgy,sc_wt fun q hq=>h.wt q (List.mem_of_mem_take hq)]; omega
 ·rw [List.map_append,List.map_cons]
  have:(p.drop b).map (·.1)=((p.drop b).take a).map (·.1)++((p.drop b).drop a).map (·.1):=by rw [←List.map_append,List.take_append_drop]
  rw [this]
  exact List.perm_middle.trans ((List.perm_append_comm (l₁:=[sc (p.take b)])).trans (.refl _))
theorem PK.rounds {n b:Nat} {cs:List Int} {Lg:Nat} (hb:2≤b∧b≤8) (hL:Lg≤b+10):∀ (m:Nat) (p:List Pile) (ps:List Int) (c:Int) (r:Nat),p.length≤m+1→PK n b cs Lg p ps c r→0≤c→c≤12000*(18-p.length)→
  ∃ c' ps' hf q r',itN (kcj (b:Int)) (m+1) (c,p,ps)=some (c',ps')∧Huff b (p.map (·.1)) hf∧c'=c+hf∧PK n b cs Lg [q] ps' c' r'∧(kd [q]).Perm (kd p):=by
 intro m
 induction m with
 | zero=>
  intro p ps c r hm h h0 h1
  have hl:¬ (1:Int)<lenI p:=by rw [kao]; omega
  have hlen:=h.pi.len.1
  obtain ⟨q,rfl⟩:∃ q,p=[q]:=by
   cases p with
   | nil=>simp at hlen
   | cons q t=>cases t with
    | nil=>exact ⟨q,rfl⟩
    | cons x t=>simp at hm
  exact ⟨c,ps,0,q,r,kaE (by unfold kcj; rw [if_neg (by simpa using hl)]),.one _,by omega,h,.refl _⟩
 | succ m ih=>
  intro p ps c r hm h h0 h1
  by_cases hl:1<p.length
  ·have hbp:=h.pi.big hb.1 hl
   have h18:=h.pi.len.2
   have hpart:=khq h.pi b
   obtain ⟨p',ps',e1,e2,e3,e4,e5⟩:=h.round hb hl hL ⟨h0,by omega⟩
   obtain ⟨c',ps'',hf,q,r',k1,k2,k3,k4,k5⟩:=ih p' ps' (c+sc (p.take b)) (r+1) (by omega) e2 (by omega) (by omega)
   refine ⟨c',ps'',sc (p.take b)+hf,q,r',by rw [kbS e1]; exact k1,?_,by omega,k4,k5.trans e5⟩
   have:sc (p.take b)=sum9 ((p.map (·.1)).take b):=by rw [kph,←List.map_take,←sc_sI]
   rw [this]
   refine .step (by rw [List.length_map]; exact hbp) (List.pairwise_map.2 h.pi.s) ?_ k2
   rw [←this,←List.map_drop]
   exact e4
  ·have hl1:¬ (1:Int)<lenI p:=by rw [kao]; omega
   have hlen:=h.pi.len.1
   obtain ⟨q,rfl⟩:∃ q,p=[q]:=by
    cases p with
    | nil=>simp at hlen
    | cons q t=>cases t with
     | nil=>exact ⟨q,rfl⟩
     | cons x t=>simp at hl
   exact ⟨c,ps,0,q,r,kaE (by unfold kcj; rw [if_neg (by simpa using hl1)]),.one _,by omega,h,.refl _⟩
end Go.Abs
namespace Go.Abs
open Go
def ph (cs:List Int) (j:Nat):Pile:=(gp cs j,[(j:Int)])
theorem khn {cs:List Int} {j:Nat} (h:j<cs.length):gp cs (j:Int)=cs[j]:=by unfold gp; rw [Int.toNat_natCast,List.getElem?_eq_getElem h]; rfl
theorem knS (cs:List Int) (hl:cs.length≤12):∀ m i:Nat,i+m=cs.length→itN (kdU cs) (m+1) ((i:Int),(List.range i).map (ph cs))=some ((List.range cs.length).map (ph cs))
 | 0,i,hm=>by
  have:i=cs.length:=by omega
  subst this
  exact kaE (by unfold kdU; rw [if_neg (by rw [kao]; simp)])
 | m+1,i,hm=>by
  have hi:i<cs.length:=by omega
  have e:kdU cs ((i:Int),(List.range i).map (ph cs))=some (.inl (((i+1:Nat):Int),(List.range (i+1)).map (ph cs))):=by
   unfold kdU
   rw [if_pos (by rw [kao]; simpa using hi),kbg hi]
   simp only [Option.bind_some]
   rw [kiL (by simp; omega),kbB (by omega),List.range_succ,List.map_append]
   simp only [Option.bind_some,List.map_cons,List.map_nil]
   unfold ph
   rw [khn hi]
  rw [kbS e]
  exact knS cs hl m (i+1) (by omega)
theorem pads {b:Nat} (hb:2≤b∧b≤8):∀ (f:Nat) (p:List Pile),1≤p.length→p.length+f≤100→(p.length-1+f) % (b-1)=0→
  ∃ k,k≤f∧itN (kcH (b:Int)) (f+1) p=some (p++List.replicate k (0,[]))∧(p.length+k-1) % (b-1)=0:=by
 intro f
 have rem:∀ L:Nat,1≤L→L≤100→grem (w64 ((L:Int)-1)) (w64 ((b:Int)-1))=some (((L-1) % (b-1):Nat):Int):=fun L h1 h2=>by
  rw [kaX (by omega) (by omega),kaX (by omega) (by omega)]
  unfold grem
  rw [if_neg (by omega),Int.tmod_eq_emod_of_nonneg (by omega),show (L:Int)-1=((L-1:Nat):Int) by omega,show (b:Int)-1=((b-1:Nat):Int) by omega]
  rfl
 induction f with
 | zero=>
  intro p h1 h2 h3
  rw [Nat.add_zero] at h3
  refine ⟨0,Nat.le_refl _,?_,by simpa using h3⟩
  rw [List.replicate_zero,List.append_nil]
  exact kaE (by unfold kcH; rw [kao,rem _ h1 (by omega),h3]; rfl)
 | succ f ih=>
  intro p h1 h2 h3
  by_cases hz:(p.length-1) % (b-1)=0
  ·refine ⟨0,by omega,?_,by simpa using hz⟩
   rw [List.replicate_zero,List.append_nil]
   exact kaE (by unfold kcH; rw [kao,rem _ h1 (by omega),hz]; rfl)
  ·have hne:((((p.length-1) % (b-1):Nat):Int) != 0)=true:=by simp; omega
   obtain ⟨k,g1,g2,g4⟩:=ih (p++[(0,[])]) (by simp) (by simp; omega) (by simp only [List.length_append,List.length_singleton]; rw [show p.length+1-1+f=p.length-1+(f+1) by omega]; exact h3)
   refine ⟨k+1,by omega,?_,by simp only [List.length_append,List.length_singleton] at g4; rw [show p.length+(k+1)-1=p.length+1+k-1 by omega]; exact g4⟩
   have e:kcH (b:Int) p=some (.inl (p++[(0,[])])):=by
    unfold kcH
    rw [kao,rem _ h1 (by omega)]
    simp only [Option.bind_some]
    rw [if_pos hne,kiL (by simp only [List.length_singleton]; omega)]; rfl
   rw [kbS e,g2,List.append_assoc,List.replicate_succ]; rfl
theorem krP {a b:List Pile} (h:a.Perm b):sc a=sc b:=by
 induction h with
 | nil=>rfl
 | cons x _ ih=>simp only [sc,ih]
 | swap x y l=>simp only [sc]; omega
 | trans _ _ h1 h2=>exact h1.trans h2
theorem ksI (k:Nat):kd (List.replicate k ((0,[]):Pile))=[]:=by
 induction k with
 | zero=>rfl
 | succ k ih=>rw [List.replicate_succ]; simp [kd,ih]
theorem ksz (k:Nat):sc (List.replicate k ((0,[]):Pile))=0:=by
 induction k with
 | zero=>rfl
 | succ k ih=>rw [List.replicate_succ]; simp [sc,ih]
theorem sI_le:∀ (l:List Int),(∀ x∈l,0≤x∧x≤1000)→sI l≤1000*l.length
 | [],_=>by simp [sI]
 | x::l,h=>by
  have:=h x (by simp)
  have:=sI_le l fun y hy=>h y (by simp [hy])
  simp only [sI,List.length_cons]; push_cast; omega
theorem kqS (cs:List Int):∀ l:List Nat,kd (l.map (ph cs))=l.map fun (j:Nat)=>(j:Int)
 | []=>rfl
 | j::l=>by simp only [List.map_cons,kd,ph,kqS cs l]; rfl
theorem kqF (cs:List Int):(List.range cs.length).map (fun (j:Nat)=>gp cs (j:Int))=cs:=
 List.ext_getElem (by simp) fun i h1 h2=>by rw [List.getElem_map,List.getElem_range,khn h2]
theorem klb {cs ps:List Int}:∀ {l:List Int},(∀ k∈l,gp ps k=0)→costK cs ps l=0
 | [],_=>rfl
 | k::l,h=>by simp only [costK]; rw [h k (by simp),klb fun x hx=>h x (List.mem_cons_of_mem _ hx)]; simp
theorem kmN (b:Int) (ps:List Int):∀ m i:Nat,i+m=ps.length→tak b (ps.drop i)=roomK b ps ((List.range' i m).map fun (j:Nat)=>(j:Int))
 | 0,i,h=>by rw [List.drop_eq_nil_of_le (by omega)]; rfl
 | m+1,i,h=>by
  have hi:i<ps.length:=by omega
  rw [List.drop_eq_getElem_cons hi,List.range'_succ,List.map_cons]
  simp only [tak,roomK]
  rw [khn hi,kmN b ps m (i+1) (by omega)]
theorem kmy (cs ps:List Int) (hl:ps.length=cs.length):∀ m i:Nat,i+m=ps.length→csum (cs.drop i) (ps.drop i)=costK cs ps ((List.range' i m).map fun (j:Nat)=>(j:Int))
 | 0,i,h=>by rw [List.drop_eq_nil_of_le (by omega),List.drop_eq_nil_of_le (by omega)]; rfl
 | m+1,i,h=>by
  have hi:i<ps.length:=by omega
  rw [List.drop_eq_getElem_cons hi,List.drop_eq_getElem_cons (show i<cs.length by omega),List.range'_succ,List.map_cons]
  simp only [csum,costK]
  rw [khn hi,khn (show i<cs.length by omega),kmy cs ps hl m (i+1) (by omega)]
theorem kqz {b:Nat}:∀ {qs:List Int},(∀ q∈qs,0≤q∧q≤11)→((kr b 12 (qs.map Int.toNat):Nat):Int)=b*tak (b:Int) qs∧((kr b 11 (qs.map Int.toNat):Nat):Int)=tak (b:Int) qs
 | [],_=>by simp [kr,tak]
 | q::qs,h=>by
  have h1:=h q (by simp)
  obtain ⟨e1,e2⟩:=kqz (b:=b) (qs:=qs) fun x hx=>h x (List.mem_cons_of_mem _ hx)
  simp only [List.map_cons,kr,tak]
  push_cast
  refine ⟨?_,by rw [e2]⟩
  rw [e1,Int.mul_add,show 12-q.toNat=(11-q.toNat)+1 by omega,Int.pow_succ,Int.mul_comm]
theorem ksf (k:Nat) (ds:List Nat):dot (List.replicate k 0) ds=0:=by
 induction k generalizing ds with
 | zero=>simp [dot]
 | succ k ih=>
  rw [List.replicate_succ]
  cases ds with
  | nil=>rfl
  | cons d ds=>simp only [dot,ih]; omega
theorem knR (k:Nat) (ds:List Nat):∀ (cs qs:List Int),qs.length=cs.length→(∀ q∈qs,0≤q)→dot (cs++List.replicate k 0) (qs.map Int.toNat++ds)=csum cs qs
 | [],[],_,_=>by simp only [List.nil_append,List.map_nil]; rw [ksf]; rfl
 | [],q::qs,h,_=>by simp at h
 | c::cs,[],h,_=>by simp at h
 | c::cs,q::qs,h,hq=>by
  have h0:=hq q (by simp)
  simp only [List.cons_append,List.map_cons,dot,csum]
  rw [knR k ds cs qs (by simpa using h) fun x hx=>hq x (List.mem_cons_of_mem _ hx),Int.toNat_of_nonneg h0]
theorem kgM {cs:List Int} {b:Int} (hn:numR cs b=true):(2≤b∧b≤8)∧(1≤cs.length∧cs.length≤12)∧∀ c∈cs,0≤c∧c≤1000:=by
 unfold numR at hn
 simp only [Bool.and_eq_true,List.all_eq_true] at hn
 obtain ⟨⟨h1,h2⟩,h3⟩:=hn
 rw [wi_iff] at h1 h2
 exact ⟨h1,by omega,fun c hc=>wi_iff.1 (h3 c hc)⟩
theorem kmz (cs:List Int) (b:Int) (hn:numR cs b=true):∃ ps c,kcV cs b=some (ps,c,0)∧ps.length=cs.length∧(∀ p∈ps,0≤p∧p≤11)∧tak b ps≤b ^ 11∧csum cs ps=c∧
  ∀ qs:List Int,qs.length=cs.length→(∀ q∈qs,0≤q∧q≤11)→tak b qs≤b ^ 11→c≤csum cs qs:=by
 obtain ⟨hb,hl,hc⟩:=kgM hn
 obtain ⟨B,hB⟩:∃ B:Nat,(B:Int)=b:=⟨b.toNat,by omega⟩
 subst hB
 have hB:2≤B∧B≤8:=by omega
 have e0:=knS cs hl.2 cs.length 0 (by omega)
 generalize hp0d:(List.range cs.length).map (ph cs)=p0 at e0
 have hp0:p0.length=cs.length:=by rw [←hp0d]; simp
 have m0:p0.map (·.1)=cs:=by
  rw [←hp0d,List.map_map]
  exact kqF cs
 have k0:kd p0=(List.range cs.length).map fun (j:Nat)=>(j:Int):=by rw [←hp0d,kqS]
 have hpad:∃ f,f≤B-2∧(cs.length-1+f) % (B-1)=0∧((cs.length-1) % (B-1)=0→f=0):=by
  have hlt:=Nat.mod_lt (cs.length-1) (show 0<B-1 by omega)
  by_cases hz:(cs.length-1) % (B-1)=0
  ·exact ⟨0,by omega,by simpa using hz,fun _=>rfl⟩
  ·refine ⟨B-1-(cs.length-1) % (B-1),by omega,?_,fun h=>absurd h hz⟩
   have h1:=Nat.mod_add_div (cs.length-1) (B-1)
   refine Nat.mod_eq_zero_of_dvd ⟨(cs.length-1) / (B-1)+1,?_⟩
   rw [Nat.mul_add]; omega
 obtain ⟨f,hf,hmod,heven⟩:=hpad
 obtain ⟨k,hk,e1,hm⟩:=pads hB f p0 (by omega) (by omega) (by rw [hp0]; exact hmod)
 have hmap:(p0++List.replicate k ((0,[]):Pile)).map (·.1)=cs++List.replicate k 0:=by rw [List.map_append,m0,List.map_replicate]
 have hnn:∀ x∈p0++List.replicate k ((0,[]):Pile),0≤x.1∧x.1≤1000:=fun x hx=>by
  have hx:x.1∈cs++List.replicate k 0:=by rw [←hmap]; exact List.mem_map.2 ⟨x,hx,rfl⟩
  rcases List.mem_append.1 hx with hx | hx
  ·exact hc _ hx
  ·have:=(List.mem_replicate.1 hx).2; omega
 have hkd:kd (p0++List.replicate k ((0,[]):Pile))=kd p0:=by rw [kbt,ksI,List.append_nil]
 have hlen1:(p0++List.replicate k ((0,[]):Pile)).length=cs.length+k:=by rw [List.length_append,List.length_replicate,hp0]
 have hsc:sc (p0++List.replicate k ((0,[]):Pile))≤12000:=by
  rw [kcX,ksz,sc_sI,m0]
  have:=sI_le cs hc
  omega
 have hshape:∀ x∈p0++List.replicate k ((0,[]):Pile),(∃ j:Nat,j<cs.length∧x=ph cs j)∨x=(0,[]):=fun x hx=>by
  rcases List.mem_append.1 hx with hx | hx
  ·rw [←hp0d] at hx
   obtain ⟨j,hj,rfl⟩:=List.mem_map.1 hx
   exact .inl ⟨j,List.mem_range.1 hj,rfl⟩
  ·exact .inr (List.mem_replicate.1 hx).2
 have hok:∀ x∈p0++List.replicate k ((0,[]):Pile),okP9 x:=fun x hx=>by
  have h1:=hnn x hx
  refine ⟨h1.1,by omega,?_⟩
  rcases hshape x hx with ⟨j,hj,rfl⟩ | rfl
  ·simp [ph]
  ·simp
 obtain ⟨p2,e3,hperm,hsorted⟩:=kpJ _ (by rw [hlen1]; omega) (by rw [hlen1]; omega) hok
 have hlen2:=hperm.length_eq
 have hkp:(kd p2).Perm ((List.range cs.length).map fun (j:Nat)=>(j:Int)):=by
  have:=ksm hperm
  rw [hkd,k0] at this; exact this
 have hPI:PI cs.length B p2:=by
  refine ⟨hsorted,fun x hx=>(hnn x (hperm.mem_iff.1 hx)).1,by rw [krP hperm]; exact hsc,fun j hj=>?_,by rw [hkp.length_eq]; simp; exact hl.2,by rw [hlen2,hlen1]; omega,by rw [hlen2,hlen1,←hp0]; exact hm⟩
  obtain ⟨i,hi,rfl⟩:=List.mem_map.1 (hkp.mem_iff.1 hj)
  have:=List.mem_range.1 hi; omega
 have hg0:∀ j:Int,gp (List.replicate cs.length 0) j=0:=fun j=>by
  unfold gp
  by_cases h:j.toNat<cs.length
  ·rw [List.getElem?_replicate,if_pos h]; rfl
  ·rw [List.getElem?_replicate,if_neg h]; rfl
 have hpos:(0:Int)≤(B:Int) ^ 11:=Int.le_of_lt (Int.pow_pos (by omega))
 have hPK:PK cs.length B cs (cs.length+k) p2 (List.replicate cs.length 0) 0 0:=by
  refine ⟨hPI,hkp.nodup_iff.2 ?_,by simp,fun j _=>by rw [hg0]; omega,by rw [hlen2,hlen1]; omega,fun q hq=>?_,fun q hq=>?_,(klb fun j _=>hg0 j).symm⟩
  ·refine List.Pairwise.map _ (fun a b h e=>h (by omega)) List.nodup_range
  ·rcases hshape q (hperm.mem_iff.1 hq) with ⟨j,hj,rfl⟩ | rfl
   ·simp only [ph,roomK]
    rw [hg0]; simp
   ·simpa [roomK] using hpos
  ·rcases hshape q (hperm.mem_iff.1 hq) with ⟨j,hj,rfl⟩ | rfl
   ·simp [ph,wtK]
   ·rfl
 obtain ⟨c',ps',hf',q,r',r1,r2,r3,r4,r5⟩:=PK.rounds hB (by omega) 20 p2 (List.replicate cs.length 0) 0 0 (by rw [hlen2,hlen1]; omega) hPK (Int.le_refl _) (by rw [hlen2,hlen1]; push_cast; omega)
 have hr11:r'≤11:=rmul hB (by have:=r4.rl; simp only [List.length_singleton] at this; omega)
 have hlps:=r4.lps
 have hkq:(kd [q]).Perm ((List.range' 0 cs.length).map fun (j:Nat)=>(j:Int)):=by
  rw [←List.range_eq_range']; exact r5.trans hkp
 have ht:=kmN (B:Int) ps' cs.length 0 (by omega)
 have hcost:=kmy cs ps' hlps cs.length 0 (by omega)
 rw [List.drop_zero] at ht
 rw [List.drop_zero,List.drop_zero] at hcost
 refine ⟨ps',c',?_,hlps,fun p hp=>?_,?_,?_,fun qs hq1 hq2 hq3=>?_⟩
 ·unfold kcV
  rw [kgY cs _ (by omega),hn]
  simp only [Option.bind_some,Bool.not_true,Bool.false_eq_true,if_false]
  rw [show ((0:Int),([]:List Pile))=(((0:Nat):Int),(List.range 0).map (ph cs)) from rfl,kbm e0 (by omega)]
  simp only [Option.bind_some]
  rw [kbm e1 (by omega)]
  simp only [Option.bind_some]
  have emk:gmk (lenI cs) (0:Int)=some (List.replicate cs.length 0):=by
   unfold gmk
   rw [kao,if_pos (by omega)]; rfl
  rw [emk]
  simp only [Option.bind_some]
  rw [show kaK (fun u0=>(kbI u0.1 u0.2).bind fun u1=>some u1) (p0++List.replicate k (0,[]))=_ from e3]
  simp only [Option.bind_some]
  rw [kbm r1 (by omega)]; rfl
 ·obtain ⟨i,hi,rfl⟩:=List.mem_iff_getElem.1 hp
  have:=r4.rng (i:Int) (by omega)
  rw [khn hi] at this; omega
 ·rw [ht,←kpO hkq]
  have:=r4.room q (by simp)
  simpa [kd] using this
 ·rw [hcost,←kli hkq]; exact r4.cost.symm
 ·have hperm2:(cs++List.replicate k 0).Perm (p2.map fun x:Pile=>x.1):=by rw [←hmap]; exact (hperm.map (fun x:Pile=>x.1)).symm
  obtain ⟨t1,t2⟩:=kqz (b:=B) hq2
  have hroom:kr B 12 (qs.map Int.toNat++List.replicate k 12)≤B ^ 12:=by
   rw [kgQ,khy,Nat.sub_self,Nat.pow_zero,Nat.mul_one]
   have h12:B ^ 12=B*B ^ 11:=by rw [Nat.pow_succ,Nat.mul_comm]
   have hp11:((B ^ 11:Nat):Int)=(B:Int) ^ 11:=by push_cast; rfl
   have t3:kr B 12 (qs.map Int.toNat)=B*kr B 11 (qs.map Int.toNat):=by
    have:((kr B 12 (qs.map Int.toNat):Nat):Int)=((B*kr B 11 (qs.map Int.toNat):Nat):Int):=by rw [t1]; push_cast; rw [t2]
    omega
   have hle:kr B 11 (qs.map Int.toNat)≤B ^ 11:=by omega
   rw [t3,h12]
   by_cases hfull:kr B 11 (qs.map Int.toNat)=B ^ 11
   ·have hk0:k=0:=by
     obtain ⟨e,rfl⟩:∃ e,B=e+1:=⟨B-1,by omega⟩
     obtain ⟨q1,g1⟩:=kno e 11 (qs.map Int.toNat)
     obtain ⟨q2,g2⟩:=kjn e 11
     rw [hfull,g2,List.length_map,hq1] at g1
     have:f=0:=heven (Nat.mod_eq_zero_of_dvd (by
      have h2:cs.length-1+q1*e=q2*e:=by omega
      rw [show e+1-1=e by omega]
      exact (Nat.dvd_add_left (Nat.dvd_mul_left e q1)).1 (by rw [h2]; exact Nat.dvd_mul_left e q2)))
     omega
    rw [hk0,hfull]; exact Nat.le_refl _
   ·have h1:kr B 11 (qs.map Int.toNat)+1≤B ^ 11:=by omega
    have h2:=Nat.mul_le_mul_left B h1
    rw [Nat.mul_add,Nat.mul_one] at h2
    omega
  have:=r2.least hB.1 12 (cs++List.replicate k 0) (qs.map Int.toNat++List.replicate k 12) hperm2 (by simp [hq1]) (fun w hw=>by
    rcases List.mem_append.1 hw with hw | hw
    ·exact (hc w hw).1
    ·rw [(List.mem_replicate.1 hw).2]; exact Int.le_refl _)
   (fun d hd=>by
    rcases List.mem_append.1 hd with hd | hd
    ·obtain ⟨y,hy,rfl⟩:=List.mem_map.1 hd
     have:=hq2 y hy; omega
    ·rw [(List.mem_replicate.1 hd).2]; exact Nat.le_refl _) hroom
  rw [knR k _ cs qs hq1 fun y hy=>(hq2 y hy).1] at this
  omega
theorem kov (cs ps:List Int) (b:Int) (hn:numR cs b=true) (hps:ps.length≤20):∃ x,kfJ cs ps b=some x∧(x.2=0→ps.length=cs.length∧(∀ p∈ps,0≤p∧p≤11)∧tak b ps≤b ^ 11∧x.1=csum cs ps)∧
  (ps.length=cs.length→(∀ p∈ps,0≤p∧p≤11)→tak b ps≤b ^ 11→x=(csum cs ps,0)):=by
 obtain ⟨hb,hl,hc⟩:=kgM hn
 unfold kfJ
 rw [kgY cs b (by omega)]
 simp only [Option.bind_some,hn,Bool.not_true,Bool.false_eq_true,if_false]
 by_cases he:ps.length=cs.length
 ·rw [if_neg (by simp [lenI,he]),keN 0 11 ps (by omega)]
  by_cases hw:ps.all (wi 0 11)=true
  ·have hp:∀ p∈ps,0≤p∧p≤11:=fun p hp=>wi_iff.1 (List.all_eq_true.1 hw p hp)
   have h2:=kpw hb 11 0 (by omega)
   have h3:=kpn hb cs ps he (by omega) hc hp ps.length 0 (b ^ 11) 0 (by omega) (by have:=kdw hb 11 (by omega); omega) (kdw hb 11 (by omega)).2 (by omega) (by omega)
   rw [List.drop_zero,List.drop_zero,Int.zero_add] at h3
   simp only [Option.bind_some,hw,Bool.not_true,Bool.false_eq_true,if_false]
   rw [show ((0:Int),(1:Int))=(((0:Nat):Int),b ^ 0) by simp,kbm h2 (by omega)]
   simp only [Option.bind_some]
   rw [show ((0:Int),b ^ 11,(0:Int))=(((0:Nat):Int),b ^ 11,0) from rfl,kbm h3 (by omega)]
   simp only [Option.bind_some]
   by_cases ht:tak b ps≤b ^ 11
   ·exact ⟨(csum cs ps,0),by rw [if_neg (by simp; omega)],fun _=>⟨he,hp,ht,rfl⟩,fun _ _ _=>rfl⟩
   ·exact ⟨(0,6),by rw [if_pos (by simp; omega)],fun h=>by simp at h,fun _ _ h=>absurd h ht⟩
  ·rw [Bool.not_eq_true] at hw
   refine ⟨(0,2),by simp [hw],fun h=>by simp at h,fun _ h _=>?_⟩
   exfalso
   have:ps.all (wi 0 11)=true:=List.all_eq_true.2 fun p hp=>wi_iff.2 (h p hp)
   rw [hw] at this; cases this
 ·rw [if_pos (by simp [lenI]; omega)]
  exact ⟨(0,2),rfl,fun h=>by simp at h,fun h=>absurd h he⟩
theorem knA (cs:List Int) (b:Int) (hcs:cs.length≤20) (hn:¬ numR cs b=true):kcV cs b=some ([],0,2):=by
 unfold kcV
 rw [kgY cs b (by omega),Bool.not_eq_true _ |>.mp hn]
 rfl
theorem knb {b:Int} (hb:2≤b):∀ {l:List Int},(∀ p∈l,0≤p∧p≤11)→tak (b+1) l*b ^ 11≤(b+1) ^ 11*tak b l
 | [],_=>by simp [tak]
 | p::l,h=>by
  have h1:=h p (by simp)
  have ih:=knb hb (l:=l) fun x hx=>h x (List.mem_cons_of_mem _ hx)
  have key:(b+1) ^ (11-p.toNat)*b ^ 11≤(b+1) ^ 11*b ^ (11-p.toNat):=by
   have e1:b ^ 11=b ^ p.toNat*b ^ (11-p.toNat):=by rw [←Int.pow_add]; congr 1; omega
   have e2:(b+1) ^ 11=(b+1) ^ (11-p.toNat)*(b+1) ^ p.toNat:=by rw [←Int.pow_add]; congr 1; omega
   have hle:b ^ p.toNat≤(b+1) ^ p.toNat:=by
    generalize p.toNat=k
    induction k with
    | zero=>simp
    | succ k ihk=>
     rw [Int.pow_succ,Int.pow_succ]
     exact Int.mul_le_mul ihk (by omega) (by omega) (Int.le_of_lt (Int.pow_pos (by omega)))
   rw [e1,e2,Int.mul_assoc]
   refine Int.mul_le_mul_of_nonneg_left ?_ (Int.le_of_lt (Int.pow_pos (by omega)))
   exact Int.mul_le_mul_of_nonneg_right hle (Int.le_of_lt (Int.pow_pos (by omega)))
  simp only [tak]
  rw [Int.add_mul,Int.mul_add]; omega
theorem law09_SortPlan_eq (cs qs:List Int) (b:Int) (hbI:-9223372036854775808≤b∧b≤9223372036854775807):kfd cs qs b=some true:=by
 unfold kfd
 rw [show law09_alive=some true from rfl]
 simp only [Option.bind_some]
 by_cases h1:(20:Int)<lenI cs
 ·rw [if_pos (by simpa using h1)]
 ·rw [if_neg (by simpa using h1)]
  by_cases h2:(20:Int)<lenI qs
  ·rw [if_pos (by simpa using h2)]
  ·rw [if_neg (by simpa using h2),if_neg (by decide)]
   rw [kao] at h1 h2
   by_cases hn:numR cs b=true
   ·obtain ⟨hb,hl,hc⟩:=kgM hn
    obtain ⟨ps,c,e1,p1,p2,p3,p4,p5⟩:=kmz cs b hn
    obtain ⟨x,x1,x2,x3⟩:=kov cs ps b hn (by omega)
    have hx:=x3 p1 p2 p3
    subst hx
    obtain ⟨y,y1,y2,-⟩:=kov cs qs b hn (by omega)
    rw [e1]
    simp only [Option.bind_some]
    rw [if_neg (by simp),x1]
    simp only [Option.bind_some]
    rw [if_neg (by simp),if_neg (by simp [p4]),ksJ hb ps (by omega) p2]
    simp only [Option.bind_some]
    rw [if_neg (by simp [p3]),y1]
    simp only [Option.bind_some]
    have hy:(if (y.2==0)=true then some (decide (y.1<c)) else some false)=some false:=by
     by_cases h0:y.2=0
     ·obtain ⟨q1,q2,q3,q4⟩:=y2 h0
      have:=p5 qs q1 q2 q3
      rw [if_pos (by simpa using h0)]
      simp; omega
     ·rw [if_neg (by simpa using h0)]
    rw [hy]
    simp only [Option.bind_some]
    rw [if_neg (by simp),kaX (by omega) (by omega)]
    by_cases hn2:numR cs (b+1)=true
    ·obtain ⟨hb2,-,-⟩:=kgM hn2
     obtain ⟨ps2,c2,e2,-,-,-,-,r5⟩:=kmz cs (b+1) hn2
     have ht:tak (b+1) ps≤(b+1) ^ 11:=by
      have h3:=knb hb.1 p2
      have hp:(0:Int)<(b+1) ^ 11:=Int.pow_pos (by omega)
      have hp2:(0:Int)<b ^ 11:=Int.pow_pos (by omega)
      have h4:=Int.mul_le_mul_of_nonneg_left p3 (Int.le_of_lt hp)
      exact Int.le_of_mul_le_mul_right (Int.le_trans h3 h4) hp2
     have:=r5 ps p1 p2 ht
     rw [e2]
     simp only [Option.bind_some]
     rw [if_pos trivial,if_neg (by simp)]
     simp; omega
    ·rw [knA cs (b+1) (by omega) hn2]
     rfl
   ·rw [knA cs b (by omega) hn]
    rfl
end Go.Abs
