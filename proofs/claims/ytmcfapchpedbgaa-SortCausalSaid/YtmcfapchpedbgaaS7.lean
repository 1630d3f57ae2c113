/- The functions and the law, part 7. -/
import Derived.Test.YtmcfapchpedbgaaProg
import Derived.Test.YtmcfapchpedbgaaZ3
import Derived.Test.YtmcfapchpedbgaaZ5
import Derived.Test.YtmcfapchpedbgaaZ6
set_option linter.constructorNameAsVariable false
set_option linter.unusedVariables false
set_option linter.unusedSimpArgs false
set_option linter.unusedSectionVars false
namespace Go.Abs
open Go
@[reducible] def tBelt:Ty:=(.pr (.i .i64) (.pr (.i .i64) (.pr (.i .i64) (.pr (.sl (.pr (.i .i64) (.i .i64))) (.sl (.i .i64))))))
abbrev Belt:=(Int×Int×Int×(List (Int×Int))×(List Int))
@[reducible] def tFed:Ty:=(.pr (.i .i64) (.pr (.i .i64) (.sl (.i .i64))))
abbrev Fed:=(Int×Int×(List Int))
@[reducible] def tPile:Ty:=(.pr (.i .i64) (.sl (.i .i64)))
abbrev Pile:=(Int×(List Int))
@[reducible] def tLine:Ty:=(.pr tBelt (.sl tFed))
abbrev Line:=(Belt×(List Fed))
def knv (v0:(Int×Int×Fed)):Option ((Int×Int×Fed)⊕(Int×Fed)):=
 (if (decide (v0.1<16))=true then ((if (decide (v0.1<2))=true then (some v0.1) else (some (-1))).bind fun v1=>((gapp v0.2.2.2.2 [v1]).bind fun v2=>(some (.inl ((w64 (v0.1+1)),v0.2.1,v0.2.2.1,v0.2.2.2.1,v2))))) else (some (.inr v0.2)))
def law09_belt:Option Belt:=
 ((iter (knv) (0,20,2,2,[])).bind fun v3=>(some (v3.1,v3.2.1,v3.2.2.1,[(10,0),(15,1)],v3.2.2.2)))
def kcS (x0:Int) (x1:Int):Option Fed:=
 (some (x0,x1,[x1]))
def kfw (x0:Int) (x1:Int) (x2:Int):Option Bool:=
 (if (decide (x0<x1))=true then (some true) else (some (decide (x2<x0))))
def kbk (x0:(List Int)) (x1:(Int→Option Bool)) (v0:Int):Option (Int⊕(Int⊕Unit)):=
 (if (decide (v0<(lenI x0)))=true then ((gi x0 v0).bind fun v1=>((x1 v1).bind fun v2=>(if v2=true then (some (.inr (.inl v0))) else (some (.inl (w64 (v0+1))))))) else (some (.inr (.inr ()))))
def kcg (x0:(List Int)) (x1:(Int→Option Bool)):Option Int:=
 ((iter (kbk x0 x1) 0).bind fun v3=>(match v3 with | .inl v4=>(some v4) | .inr v5=>(some (-1))))
def kbl (x0:(List Int)) (x1:(Int→Option Bool)):Option Bool:=
 ((kcg x0 x1).bind fun v0=>(some (decide (0≤v0))))
def kav (x0:Int) (x1:Int) (x2:(List Int)):Option Bool:=
 ((kbl x2 (fun (u0:Int)=>((kfw u0 x0 x1).bind fun u1=>(some u1)))).bind fun v0=>(some (!v0)))
def kch (x0:Belt) (v4:(Int×Int×(List (Int×Bool)))):Option ((Int×Int×(List (Int×Bool)))⊕(Int⊕Unit)):=
 (if (decide (v4.1<(lenI x0.2.2.2.1)))=true then ((gi x0.2.2.2.1 v4.1).bind fun v5=>((kav v4.2.1 (w64 (x0.1-1)) [v5.1]).bind fun v6=>(if (!v6)=true then (some (.inr (.inl 90))) else ((kav 0 7 [v5.2]).bind fun v7=>(if (!v7)=true then (some (.inr (.inl 90))) else (if ((mget v4.2.2 v5.2).getD false)=true then (some (.inr (.inl 90))) else (some (.inl ((w64 (v4.1+1)),(w64 (v5.1+1)),(mput v4.2.2 v5.2 true)))))))))) else (some (.inr (.inr ()))))
def kdg (x0:Belt):Option Int:=
 ((kav 2 100 [x0.1]).bind fun v0=>(if (!v0)=true then (some 90) else ((kav 0 (w64 (x0.1-2)) [x0.2.1]).bind fun v1=>(if (!v1)=true then (some 90) else ((kav 0 10 [x0.2.2.1]).bind fun v2=>(if (!v2)=true then (some 90) else (if (decide (8<(lenI x0.2.2.2.1)))=true then (some 90) else (if ((lenI x0.2.2.2.2) != 16)=true then (some 90) else ((kav (-1) 7 x0.2.2.2.2).bind fun v3=>(if (!v3)=true then (some 90) else ((iter (kch x0) (0,(w64 (x0.2.1+1)),[])).bind fun v8=>(match v8 with | .inl v9=>(some v9) | .inr v10=>(some 0)))))))))))))
def kht (x0:(List Int)):Option Bool:=
 ((kav 1 9 [(lenI x0)]).bind fun v0=>(if v0=true then ((kav (-1) 15 x0).bind fun v1=>(some v1)) else (some false)))
def kcB (x0:(List Fed)) (v0:(Int×Int)):Option ((Int×Int)⊕(Int⊕Unit)):=
 (if (decide (v0.1<(lenI x0)))=true then ((gi x0 v0.1).bind fun v1=>((kav v0.2 1000 [v1.1]).bind fun v2=>(if (!v2)=true then (some (.inr (.inl 91))) else ((kav 0 15 [v1.2.1]).bind fun v3=>(if (!v3)=true then (some (.inr (.inl 91))) else ((kht v1.2.2).bind fun v4=>(if (!v4)=true then (some (.inr (.inl 91))) else (some (.inl ((w64 (v0.1+1)),(w64 (v1.1+1)))))))))))) else (some (.inr (.inr ()))))
def keZ (x0:(List Fed)):Option Int:=
 (if (decide (40<(lenI x0)))=true then (some 91) else ((iter (kcB x0) (0,0)).bind fun v5=>(match v5 with | .inl v6=>(some v6) | .inr v7=>(some 0))))
def kgQ (x0:Belt) (x1:(List Fed)):Option ((Option Line)×Int):=
 ((kdg x0).bind fun v0=>((if (v0==0)=true then ((keZ x1).bind fun v1=>(some v1)) else (some v0)).bind fun v2=>(if (v2 != 0)=true then (some (none,v2)) else (some ((some (x0,x1)),0)))))
def kfl (x0:(List Int)) (v0:(Int×(Arr 16 Int))):Option ((Int×(Arr 16 Int))⊕(Arr 16 Int)):=
 (if (decide (v0.1<(lenI x0)))=true then ((gi x0 v0.1).bind fun v1=>(if (decide (0≤v1))=true then ((garr v0.2 v1).bind fun v2=>((garr v0.2 v1).bind fun v3=>((garr v0.2 v1).bind fun v4=>(some (.inl ((w64 (v0.1+1)),(aset v0.2 v1 (w64 (v3+1))))))))) else (some (.inl ((w64 (v0.1+1)),v0.2))))) else (some (.inr v0.2)))
def keq (v5:(Arr 16 Int)) (v6:(Int×Int×Int)):Option ((Int×Int×Int)⊕Int):=
 (if (decide (v6.1<16))=true then ((garr v5 v6.1).bind fun v7=>(if (decide (v6.2.1<v7))=true then (some (.inl ((w64 (v6.1+1)),v7,v6.1))) else (if (v7==v6.2.1)=true then (some (.inl ((w64 (v6.1+1)),v6.2.1,(-1)))) else (some (.inl ((w64 (v6.1+1)),v6.2)))))) else (some (.inr v6.2.2)))
def kfe (x0:(List Int)):Option Int:=
 ((iter (kfl x0) (0,(amk 16 0))).bind fun v5=>((iter (keq v5) (0,0,(-1))).bind fun v8=>(some v8)))
def keM (x0:(Int×Int)) (x1:(Option Line)) (x2:Int):Option Bool:=
 (x1.bind fun v0=>((gi v0.1.2.2.2.2 x2).bind fun v1=>(some (x0.2==v1))))
def kay (x0:(List (Int×Int))) (x1:((Int×Int)→Option Bool)) (v0:Int):Option (Int⊕(Int⊕Unit)):=
 (if (decide (v0<(lenI x0)))=true then ((gi x0 v0).bind fun v1=>((x1 v1).bind fun v2=>(if v2=true then (some (.inr (.inl v0))) else (some (.inl (w64 (v0+1))))))) else (some (.inr (.inr ()))))
def kaN (x0:(List (Int×Int))) (x1:((Int×Int)→Option Bool)):Option Int:=
 ((iter (kay x0 x1) 0).bind fun v3=>(match v3 with | .inl v4=>(some v4) | .inr v5=>(some (-1))))
def kdc (x0:(Option Line)) (x1:Fed):Option Int:=
 ((kfe x1.2.2).bind fun v0=>(if (decide (v0<0))=true then (some (-1)) else (x0.bind fun v1=>((kaN v1.1.2.2.2.1 (fun (u0:(Int×Int))=>((keM u0 x0 v0).bind fun u1=>(some u1)))).bind fun v2=>(some v2)))))
def kdY (x0:Fed) (x1:(Option Line)) (x2:Int):Option Bool:=
 ((kdc x1 x0).bind fun v0=>(some (v0 != x2)))
def kaI (x0:(List Fed)) (x1:(Fed→Option Bool)) (v0:Int):Option (Int⊕(Int⊕Unit)):=
 (if (decide (v0<(lenI x0)))=true then ((gi x0 v0).bind fun v1=>((x1 v1).bind fun v2=>(if v2=true then (some (.inr (.inl v0))) else (some (.inl (w64 (v0+1))))))) else (some (.inr (.inr ()))))
def kbw (x0:(List Fed)) (x1:(Fed→Option Bool)):Option Int:=
 ((iter (kaI x0 x1) 0).bind fun v3=>(match v3 with | .inl v4=>(some v4) | .inr v5=>(some (-1))))
def kaJ (x0:(List Fed)) (x1:(Fed→Option Bool)):Option Bool:=
 ((kbw x0 x1).bind fun v0=>(some (decide (0≤v0))))
def kdr (x0:(Option Line)) (x1:(List Fed)):Option Int:=
 ((gi x1 0).bind fun v0=>((kdc x0 v0).bind fun v1=>((gi x1 (w64 ((lenI x1)-1))).bind fun v2=>((gi x1 0).bind fun v3=>(if (decide (v1<0))=true then (some (-1)) else ((kaJ x1 (fun (u0:Fed)=>((kdY u0 x0 v1).bind fun u1=>(some u1)))).bind fun v4=>(if v4=true then (some (-1)) else (x0.bind fun v5=>(x0.bind fun v6=>((gi v6.1.2.2.2.1 v1).bind fun v7=>(x0.bind fun v8=>(if (decide ((w64 (v7.1-v8.1.2.1))<(w64 ((w64 ((w64 (v2.1-v3.1))+(w64 (3*v5.1.2.2.1))))+1))))=true then (some (-1)) else (some v1)))))))))))))
def kby (x0:(Option Line)) (v1:((List Fed)×(List (Int×(List Fed))))) (v2:Int):Option (Int⊕Int):=
 (if (decide (v2<(lenI v1.1)))=true then ((gi v1.1 v2).bind fun v3=>((gi v1.1 (w64 (v2-1))).bind fun v4=>(x0.bind fun v5=>(if (decide ((w64 (v3.1-v4.1))≤(w64 ((w64 (2*v5.1.2.2.1))+1))))=true then (some (.inl (w64 (v2+1)))) else (some (.inr v2)))))) else (some (.inr v2)))
def kaW (o:Option (List (Int×(List Fed)))) (x0:(Option Line)) (v1:((List Fed)×(List (Int×(List Fed))))):Option (((List Fed)×(List (Int×(List Fed))))⊕((List (Int×(List Fed)))⊕(List (Int×(List Fed))))):=
 (if (decide (0<(lenI v1.1)))=true then ((iter (kby x0 v1) 1).bind fun v6=>((gsl v1.1 0 v6).bind fun v7=>((kdr x0 v7).bind fun v8=>((gsl v1.1 0 v6).bind fun v9=>((gpre (.pr (.i .i64) (.sl (.pr (.i .i64) (.pr (.i .i64) (.sl (.i .i64)))))) o v1.2 (v8,v9)).bind fun v10=>((gsl v1.1 v6 (lenI v1.1)).bind fun v11=>(some (.inl (v11,v10))))))))) else (some (.inr (.inr v1.2))))
def kaS (o:Option (List (Int×(List Fed)))) (x0:(Option Line)):Option (List (Int×(List Fed))):=
 (x0.bind fun v0=>((iter (kaW o x0) (v0.2,[])).bind fun v12=>(match v12 with | .inl v13=>(some v13) | .inr v14=>(some v14))))
def kbF (x0:(Option Line)):Option (Option Line):=
 (some x0)
def keo (x0:Belt) (v4:(Int×(List Fed))) (v5:(Int×(List (Int×Int×Int)))):Option ((Int×(List (Int×Int×Int)))⊕(List (Int×Int×Int))):=
 (if (decide (v5.1<(lenI v4.2)))=true then ((gi v4.2 v5.1).bind fun v6=>((kfe v6.2.2).bind fun v7=>(if (decide (0≤v4.1))=true then ((gi x0.2.2.2.1 v4.1).bind fun v8=>((gi x0.2.2.2.1 v4.1).bind fun v9=>((gapp v5.2 [(v7,v8.2,(w64 (v6.1+v9.1)))]).bind fun v10=>(some (.inl ((w64 (v5.1+1)),v10)))))) else ((gapp v5.2 [(v7,(-1),(w64 (v6.1+x0.1)))]).bind fun v11=>(some (.inl ((w64 (v5.1+1)),v11))))))) else (some (.inr v5.2)))
def kei (x0:Belt) (v2:(List (Int×(List Fed)))) (v3:(Int×(List (Int×Int×Int)))):Option ((Int×(List (Int×Int×Int)))⊕(((List (Int×Int×Int))×Int)⊕(List (Int×Int×Int)))):=
 (if (decide (v3.1<(lenI v2)))=true then ((gi v2 v3.1).bind fun v4=>((iter (keo x0 v4) (0,v3.2)).bind fun v12=>(some (.inl ((v3.1+1),v12))))) else (some (.inr (.inr v3.2))))
def kem (x0:Belt) (x1:(List Fed)):Option ((List (Int×Int×Int))×Int):=
 ((kgQ x0 x1).bind fun v0=>(if (v0.2 != 0)=true then (some ([],v0.2)) else ((kbF v0.1).bind fun v1=>((runI fun o=>(kaS o v1)).bind fun v2=>((iter (kei x0 v2) (0,[])).bind fun v13=>(match v13 with | .inl v14=>(some v14) | .inr v15=>(some (v15,0))))))))
def keW (x0:Int):Option Bool:=
 (some (x0 != x0))
def kcL (x0:Int) (x1:Int):Option Int:=
 ((keW x0).bind fun v0=>((keW x1).bind fun v1=>(if v0=true then (if v1=true then (some 0) else (some (-1))) else (if v1=true then (some 1) else (if (decide (x0<x1))=true then (some (-1)) else (if (decide (x1<x0))=true then (some 1) else (some 0)))))))
def keY (x0:(List Int)) (v0:Int):Option (Int⊕(Int⊕Unit)):=
 (if (decide (v0<(lenI x0)))=true then ((gi x0 v0).bind fun v1=>(if (v1 != 0)=true then (some (.inr (.inl v1))) else (some (.inl (w64 (v0+1)))))) else (some (.inr (.inr ()))))
def kfr (x0:(List Int)):Option Int:=
 ((iter (keY x0) 0).bind fun v2=>(match v2 with | .inl v3=>(some v3) | .inr v4=>(some 0)))
def keH (x0:(Int×Int×Bool)) (x1:(Int×Int×Bool)):Option Int:=
 ((kcL x0.1 x1.1).bind fun v0=>((kcL x0.2.1 x1.2.1).bind fun v1=>((kfr [v0,v1]).bind fun v2=>(some v2))))
def kar (x0:Int) (x2:(((Int×Int×Bool)×Int×Int×Bool)→Option Int)) (v1:(Int×(List (Int×Int×Bool)))):Option ((Int×(List (Int×Int×Bool)))⊕(List (Int×Int×Bool))):=
 (if (decide (x0<v1.1))=true then ((gi v1.2 v1.1).bind fun v2=>((gi v1.2 v1.1).bind fun v3=>((gi v1.2 (w64 (v1.1-1))).bind fun v4=>((gi v1.2 (w64 (v1.1-1))).bind fun v5=>((x2 (v3,v5)).bind fun v6=>(if (decide (v6<0))=true then ((gi v1.2 (w64 (v1.1-1))).bind fun v7=>((gi v1.2 (w64 (v1.1-1))).bind fun v8=>((gi v1.2 v1.1).bind fun v9=>((gi v1.2 v1.1).bind fun v10=>((gi v1.2 v1.1).bind fun v11=>((gi (lset v1.2 v1.1 v8) (w64 (v1.1-1))).bind fun v12=>(some (.inl ((w64 (v1.1-1)),(lset (lset v1.2 v1.1 v8) (w64 (v1.1-1)) v10)))))))))) else (some (.inr v1.2)))))))) else (some (.inr v1.2)))
def kas (x0:Int) (x1:Int) (x2:(((Int×Int×Bool)×Int×Int×Bool)→Option Int)) (v0:(Int×(List (Int×Int×Bool)))):Option ((Int×(List (Int×Int×Bool)))⊕(List (Int×Int×Bool))):=
 (if (decide (v0.1<x1))=true then ((iter (kar x0 x2) v0).bind fun v13=>(some (.inl ((w64 (v0.1+1)),v13)))) else (some (.inr v0.2)))
def kap (x0:Int) (x1:Int) (x2:(((Int×Int×Bool)×Int×Int×Bool)→Option Int)) (x3:(List (Int×Int×Bool))):Option (List (Int×Int×Bool)):=
 ((iter (kas x0 x1 x2) ((w64 (x0+1)),x3)).bind fun v14=>(some v14))
def kaZ (x0:Int) (x1:Int) (x2:Int) (v0:(Int×(List (Int×Int×Bool)))):Option ((Int×(List (Int×Int×Bool)))⊕(List (Int×Int×Bool))):=
 (if (decide (v0.1<x2))=true then ((gi v0.2 (w64 (x1+v0.1))).bind fun v1=>((gi v0.2 (w64 (x1+v0.1))).bind fun v2=>((gi v0.2 (w64 (x0+v0.1))).bind fun v3=>((gi v0.2 (w64 (x0+v0.1))).bind fun v4=>((gi v0.2 (w64 (x0+v0.1))).bind fun v5=>((gi (lset v0.2 (w64 (x0+v0.1)) v2) (w64 (x1+v0.1))).bind fun v6=>(some (.inl ((w64 (v0.1+1)),(lset (lset v0.2 (w64 (x0+v0.1)) v2) (w64 (x1+v0.1)) v4)))))))))) else (some (.inr v0.2)))
def kan (x0:Int) (x1:Int) (x2:Int) (x3:(((Int×Int×Bool)×Int×Int×Bool)→Option Int)) (x4:(List (Int×Int×Bool))):Option (List (Int×Int×Bool)):=
 ((iter (kaZ x0 x1 x2) (0,x4)).bind fun v7=>(some v7))
def kbn (x1:Int) (x3:(((Int×Int×Bool)×Int×Int×Bool)→Option Int)) (v0:(Int×Int×(List (Int×Int×Bool)))):Option ((Int×Int×(List (Int×Int×Bool)))⊕(Int×(List (Int×Int×Bool)))):=
 (if (v0.1 != v0.2.1)=true then (if (decide (v0.2.1<v0.1))=true then ((kan (w64 (x1-v0.1)) x1 v0.2.1 x3 v0.2.2).bind fun v1=>(some (.inl ((w64 (v0.1-v0.2.1)),v0.2.1,v1)))) else ((kan (w64 (x1-v0.1)) (w64 ((w64 (x1+v0.2.1))-v0.1)) v0.1 x3 v0.2.2).bind fun v2=>(some (.inl (v0.1,(w64 (v0.2.1-v0.1)),v2))))) else (some (.inr (v0.1,v0.2.2))))
def kaw (x0:Int) (x1:Int) (x2:Int) (x3:(((Int×Int×Bool)×Int×Int×Bool)→Option Int)) (x4:(List (Int×Int×Bool))):Option (List (Int×Int×Bool)):=
 ((iter (kbn x1 x3) ((w64 (x1-x0)),(w64 (x2-x1)),x4)).bind fun v3=>((kan (w64 (x1-v3.1)) x1 v3.1 x3 v3.2).bind fun v4=>(some v4)))
def kaC (x0:Int) (x3:(((Int×Int×Bool)×Int×Int×Bool)→Option Int)) (x4:(List (Int×Int×Bool))) (v0:(Int×Int)):Option ((Int×Int)⊕Int):=
 (if (decide (v0.1<v0.2))=true then ((gshr .u64 (IntKind.wrap .u64 (w64 (v0.1+v0.2))) 1).bind fun v1=>((gi x4 (w64 v1)).bind fun v2=>((gi x4 (w64 v1)).bind fun v3=>((gi x4 x0).bind fun v4=>((gi x4 x0).bind fun v5=>((x3 (v3,v5)).bind fun v6=>(if (decide (v6<0))=true then (some (.inl ((w64 ((w64 v1)+1)),v0.2))) else (some (.inl (v0.1,(w64 v1))))))))))) else (some (.inr v0.1)))
def kaD (v7:Int) (v8:(Int×(List (Int×Int×Bool)))):Option ((Int×(List (Int×Int×Bool)))⊕(List (Int×Int×Bool))):=
 (if (decide (v8.1<(w64 (v7-1))))=true then ((gi v8.2 (w64 (v8.1+1))).bind fun v9=>((gi v8.2 (w64 (v8.1+1))).bind fun v10=>((gi v8.2 v8.1).bind fun v11=>((gi v8.2 v8.1).bind fun v12=>((gi v8.2 v8.1).bind fun v13=>((gi (lset v8.2 v8.1 v10) (w64 (v8.1+1))).bind fun v14=>(some (.inl ((w64 (v8.1+1)),(lset (lset v8.2 v8.1 v10) (w64 (v8.1+1)) v12)))))))))) else (some (.inr v8.2)))
def kaE (x1:Int) (x3:(((Int×Int×Bool)×Int×Int×Bool)→Option Int)) (x4:(List (Int×Int×Bool))) (v16:(Int×Int)):Option ((Int×Int)⊕Int):=
 (if (decide (v16.1<v16.2))=true then ((gshr .u64 (IntKind.wrap .u64 (w64 (v16.1+v16.2))) 1).bind fun v17=>((gi x4 x1).bind fun v18=>((gi x4 x1).bind fun v19=>((gi x4 (w64 v17)).bind fun v20=>((gi x4 (w64 v17)).bind fun v21=>((x3 (v19,v21)).bind fun v22=>(if (!(decide (v22<0)))=true then (some (.inl ((w64 ((w64 v17)+1)),v16.2))) else (some (.inl (v16.1,(w64 v17))))))))))) else (some (.inr v16.1)))
def kaF (v23:Int) (v24:(Int×(List (Int×Int×Bool)))):Option ((Int×(List (Int×Int×Bool)))⊕(List (Int×Int×Bool))):=
 (if (decide (v23<v24.1))=true then ((gi v24.2 (w64 (v24.1-1))).bind fun v25=>((gi v24.2 (w64 (v24.1-1))).bind fun v26=>((gi v24.2 v24.1).bind fun v27=>((gi v24.2 v24.1).bind fun v28=>((gi v24.2 v24.1).bind fun v29=>((gi (lset v24.2 v24.1 v26) (w64 (v24.1-1))).bind fun v30=>(some (.inl ((w64 (v24.1-1)),(lset (lset v24.2 v24.1 v26) (w64 (v24.1-1)) v28)))))))))) else (some (.inr v24.2)))
def kaB (x1:Int) (x3:(((Int×Int×Bool)×Int×Int×Bool)→Option Int)) (x4:(List (Int×Int×Bool))) (v32:Int) (v34:(Int×Int)):Option ((Int×Int)⊕Int):=
 (if (decide (v34.1<v34.2))=true then ((gshr .u64 (IntKind.wrap .u64 (w64 (v34.1+v34.2))) 1).bind fun v35=>((gi x4 (w64 ((w64 ((w64 ((w64 v32)+x1))-1))-(w64 v35)))).bind fun v36=>((gi x4 (w64 ((w64 ((w64 ((w64 v32)+x1))-1))-(w64 v35)))).bind fun v37=>((gi x4 (w64 v35)).bind fun v38=>((gi x4 (w64 v35)).bind fun v39=>((x3 (v37,v39)).bind fun v40=>(if (!(decide (v40<0)))=true then (some (.inl ((w64 ((w64 v35)+1)),v34.2))) else (some (.inl (v34.1,(w64 v35))))))))))) else (some (.inr v34.1)))
def kbi (rec_slices_symMergeCmpFunc_api_Swing_m4:Int→Int→Int→(((Int×Int×Bool)×Int×Int×Bool)→Option Int)→(List (Int×Int×Bool))→Option (List (Int×Int×Bool))) (x0:Int) (x1:Int) (x2:Int) (x3:(((Int×Int×Bool)×Int×Int×Bool)→Option Int)) (x4:(List (Int×Int×Bool))):Option (List (Int×Int×Bool)):=
 (if ((w64 (x1-x0))==1)=true then ((iter (kaC x0 x3 x4) (x1,x2)).bind fun v7=>((iter (kaD v7) (x0,x4)).bind fun v15=>(some v15))) else (if ((w64 (x2-x1))==1)=true then ((iter (kaE x1 x3 x4) (x0,x1)).bind fun v23=>((iter (kaF v23) (x1,x4)).bind fun v31=>(some v31))) else ((gshr .u64 (IntKind.wrap .u64 (w64 (x0+x2))) 1).bind fun v32=>((if (decide ((w64 v32)<x1))=true then (some ((w64 ((w64 ((w64 v32)+x1))-x2)),(w64 v32))) else (some (x0,x1))).bind fun v33=>((iter (kaB x1 x3 x4 v32) v33).bind fun v41=>((if (decide (v41<x1))=true then (some (decide (x1<(w64 ((w64 ((w64 v32)+x1))-v41))))) else (some false)).bind fun v42=>((if v42=true then ((kaw v41 x1 (w64 ((w64 ((w64 v32)+x1))-v41)) x3 x4).bind fun v43=>(some v43)) else (some x4)).bind fun v44=>((if (decide (x0<v41))=true then (some (decide (v41<(w64 v32)))) else (some false)).bind fun v45=>((if v45=true then ((rec_slices_symMergeCmpFunc_api_Swing_m4 x0 v41 (w64 v32) x3 v44).bind fun v46=>(some v46)) else (some v44)).bind fun v47=>(if (decide ((w64 v32)<(w64 ((w64 ((w64 v32)+x1))-v41))))=true then (if (decide ((w64 ((w64 ((w64 v32)+x1))-v41))<x2))=true then ((rec_slices_symMergeCmpFunc_api_Swing_m4 (w64 v32) (w64 ((w64 ((w64 v32)+x1))-v41)) x2 x3 v47).bind fun v48=>(some v48)) else (some v47)) else (some v47)))))))))))
def kai:Nat→Int→Int→Int→(((Int×Int×Bool)×Int×Int×Bool)→Option Int)→(List (Int×Int×Bool))→Option (List (Int×Int×Bool))
 | 0,_,_,_,_,_=>none
 | k+1,x0,x1,x2,x3,x4=>kbi (kai k) x0 x1 x2 x3 x4
def kat (x0:Int) (x1:Int) (x2:Int) (x3:(((Int×Int×Bool)×Int×Int×Bool)→Option Int)) (x4:(List (Int×Int×Bool))):Option (List (Int×Int×Bool)):=kai 1000000 x0 x1 x2 x3 x4
def kaM (x0:Int) (x1:(((Int×Int×Bool)×Int×Int×Bool)→Option Int)) (v0:(Int×Int×(List (Int×Int×Bool)))):Option ((Int×Int×(List (Int×Int×Bool)))⊕(Int×(List (Int×Int×Bool)))):=
 (if (decide (v0.1≤x0))=true then ((kap v0.2.1 v0.1 x1 v0.2.2).bind fun v1=>(some (.inl ((w64 (v0.1+20)),v0.1,v1)))) else (some (.inr v0.2)))
def kaO (x0:Int) (x1:(((Int×Int×Bool)×Int×Int×Bool)→Option Int)) (v4:(Int×(List (Int×Int×Bool)))) (v5:(Int×Int×(List (Int×Int×Bool)))):Option ((Int×Int×(List (Int×Int×Bool)))⊕(Int×(List (Int×Int×Bool)))):=
 (if (decide (v5.1≤x0))=true then ((kat v5.2.1 (w64 (v5.2.1+v4.1)) v5.1 x1 v5.2.2).bind fun v6=>(some (.inl ((w64 (v5.1+(w64 (2*v4.1)))),v5.1,v6)))) else (some (.inr v5.2)))
def kbm (x0:Int) (x1:(((Int×Int×Bool)×Int×Int×Bool)→Option Int)) (v4:(Int×(List (Int×Int×Bool)))):Option ((Int×(List (Int×Int×Bool)))⊕(List (Int×Int×Bool))):=
 (if (decide (v4.1<x0))=true then ((iter (kaO x0 x1 v4) ((w64 (2*v4.1)),0,v4.2)).bind fun v7=>(if (decide ((w64 (v7.1+v4.1))<x0))=true then ((kat v7.1 (w64 (v7.1+v4.1)) x0 x1 v7.2).bind fun v8=>(some (.inl ((w64 (v4.1*2)),v8)))) else (some (.inl ((w64 (v4.1*2)),v7.2))))) else (some (.inr v4.2)))
def kaU (x0:Int) (x1:(((Int×Int×Bool)×Int×Int×Bool)→Option Int)) (x2:(List (Int×Int×Bool))):Option (List (Int×Int×Bool)):=
 ((iter (kaM x0 x1) (20,0,x2)).bind fun v2=>((kap v2.1 x0 x1 v2.2).bind fun v3=>((iter (kbm x0 x1) (20,v3)).bind fun v9=>(some v9))))
def kaK (x0:(((Int×Int×Bool)×Int×Int×Bool)→Option Int)) (x1:(List (Int×Int×Bool))):Option (List (Int×Int×Bool)):=
 ((kaU (lenI x1) x0 x1).bind fun v0=>(some v0))
def kbH (x0:(((Int×Int×Bool)×Int×Int×Bool)→Option Int)) (x1:(List (Int×Int×Bool))):Option (List (Int×Int×Bool)):=
 ((kaK x0 x1).bind fun v0=>(some v0))
def kdd (x0:Belt) (v2:(List (Int×(List Fed)))) (v3:(Int×(List (Int×Int×Bool)))):Option ((Int×(List (Int×Int×Bool)))⊕(((List (Int×Int×Bool))×Int)⊕(List (Int×Int×Bool)))):=
 (if (decide (v3.1<(lenI v2)))=true then ((gi v2 v3.1).bind fun v4=>(if (decide (0≤v4.1))=true then ((gi x0.2.2.2.1 v4.1).bind fun v5=>((gi v4.2 0).bind fun v6=>((gi v4.2 (w64 ((lenI v4.2)-1))).bind fun v7=>((gapp v3.2 [((w64 ((w64 (v6.1+v5.1))-x0.2.2.1)),v4.1,true),((w64 ((w64 (v7.1+v5.1))+1)),v4.1,false)]).bind fun v8=>(some (.inl ((v3.1+1),v8))))))) else (some (.inl ((v3.1+1),v3.2))))) else (some (.inr (.inr v3.2))))
def kbX (x0:Belt) (x1:(List Fed)):Option ((List (Int×Int×Bool))×Int):=
 ((kgQ x0 x1).bind fun v0=>(if (v0.2 != 0)=true then (some ([],v0.2)) else ((kbF v0.1).bind fun v1=>((runI fun o=>(kaS o v1)).bind fun v2=>((iter (kdd x0 v2) (0,[])).bind fun v9=>(match v9 with | .inl v10=>(some v10) | .inr v11=>((kbH (fun (u0:((Int×Int×Bool)×Int×Int×Bool))=>((keH u0.1 u0.2).bind fun u1=>(some u1))) v11).bind fun v12=>(some (v12,0)))))))))
def law09_table:Option (List (List Int)):=
 (some [[900,50,50],[100,800,100]])
def kjx (v2:(List Int)) (v4:(Int×Int)):Option ((Int×Int)⊕Int):=
 (if (decide (v4.1<(lenI v2)))=true then ((gi v2 v4.1).bind fun v5=>(some (.inl ((w64 (v4.1+1)),(w64 (v4.2+v5)))))) else (some (.inr v4.2)))
def kjE (x0:(List (List Int))) (v1:Int):Option (Int⊕(Int⊕Unit)):=
 (if (decide (v1<(lenI x0)))=true then ((gi x0 v1).bind fun v2=>(if ((lenI v2) != (w64 ((lenI x0)+1)))=true then (some (.inr (.inl 8))) else ((kav 0 1000 v2).bind fun v3=>(if (!v3)=true then (some (.inr (.inl 8))) else ((iter (kjx v2) (0,0)).bind fun v6=>(if (v6 != 1000)=true then (some (.inr (.inl 8))) else (some (.inl (w64 (v1+1)))))))))) else (some (.inr (.inr ()))))
def khq (x0:(List (List Int))):Option Int:=
 ((kav 1 8 [(lenI x0)]).bind fun v0=>(if (!v0)=true then (some 8) else ((iter (kjE x0) 0).bind fun v7=>(match v7 with | .inl v8=>(some v8) | .inr v9=>(some 0)))))
def khN (rec_sort_chances_c1_m8:Int→Int→Int→(List Int)→Int→(List Int)→(List Int)→Option (Int×(List Int)×Int×(List Int)×(List Int))) (x0:Int) (x1:Int) (x6:(List Int)) (v5:(Int×(List Int)×Int×Int×(List Int)×(List Int))):Option ((Int×(List Int)×Int×Int×(List Int)×(List Int))⊕((List Int)×Int×Int×(List Int)×(List Int))):=
 (if (decide (v5.1<(lenI x6)))=true then ((gi x6 v5.1).bind fun v6=>(if (v6==0)=true then (some (.inl ((w64 (v5.1+1)),v5.2))) else ((gi v5.2.1 x0).bind fun v7=>((if (v5.1==v5.2.2.1)=true then ((gi (lset v5.2.1 x0 v5.1) x0).bind fun v8=>(some (lset (lset v5.2.1 x0 v5.1) x0 (-1)))) else (some (lset v5.2.1 x0 v5.1))).bind fun v9=>((rec_sort_chances_c1_m8 (w64 (x0+1)) (w64 (x1*v6)) v5.2.2.2.1 v9 v5.2.2.1 v5.2.2.2.2.1 v5.2.2.2.2.2).bind fun v10=>(some (.inl ((w64 (v5.1+1)),v10.2.1,v10.2.2.1,v10.1,v10.2.2.2)))))))) else (some (.inr v5.2)))
def kiG (rec_sort_chances_c1_m8:Int→Int→Int→(List Int)→Int→(List Int)→(List Int)→Option (Int×(List Int)×Int×(List Int)×(List Int))) (x0:Int) (x1:Int) (x2:Int) (x3:(List Int)) (x4:Int) (x5:(List Int)) (x6:(List Int)):Option (Int×(List Int)×Int×(List Int)×(List Int)):=
 (if (x0==x2)=true then ((kfe x3).bind fun v0=>((if (decide (v0<0))=true then (some x4) else (some v0)).bind fun v1=>((gi x5 v1).bind fun v2=>((gi x5 v1).bind fun v3=>((gi x5 v1).bind fun v4=>(some (x2,x3,x4,(lset x5 v1 (w64 (v3+x1))),x6))))))) else ((iter (khN rec_sort_chances_c1_m8 x0 x1 x6) (0,x3,x4,x2,x5,x6)).bind fun v11=>(some (v11.2.2.1,v11.1,v11.2.1,v11.2.2.2))))
def kdt:Nat→Int→Int→Int→(List Int)→Int→(List Int)→(List Int)→Option (Int×(List Int)×Int×(List Int)×(List Int))
 | 0,_,_,_,_,_,_,_=>none
 | k+1,x0,x1,x2,x3,x4,x5,x6=>kiG (kdt k) x0 x1 x2 x3 x4 x5 x6
def kgg (x0:Int) (x1:Int) (x2:Int) (x3:(List Int)) (x4:Int) (x5:(List Int)) (x6:(List Int)):Option (Int×(List Int)×Int×(List Int)×(List Int)):=kdt 1000000 x0 x1 x2 x3 x4 x5 x6
def kjH (x0:(List Int)) (x1:Int):Option (List Int):=
 ((gmk (lenI x0) 0).bind fun v0=>((gmk x1 0).bind fun v1=>((kgg 0 1 x1 v1 (w64 ((lenI x0)-1)) v0 x0).bind fun v2=>(some v2.2.2.2.1))))
def kjD (x0:(List (List Int))) (x1:Int) (x2:Int):Option ((List Int)×Int):=
 ((khq x0).bind fun v0=>(if (v0 != 0)=true then (some ([],v0)) else ((kav 0 (w64 ((lenI x0)-1)) [x1]).bind fun v1=>(if (!v1)=true then (some ([],2)) else ((kav 1 5 [x2]).bind fun v2=>(if (!v2)=true then (some ([],2)) else ((gi x0 x1).bind fun v3=>((kjH v3 x2).bind fun v4=>(some (v4,0))))))))))
def kiP (x0:(List Int)) (x1:Int):Option Bool:=
 ((kav 2 8 [x1]).bind fun v0=>(if v0=true then ((kav 1 12 [(lenI x0)]).bind fun v1=>(if v1=true then ((kav 0 1000 x0).bind fun v2=>(some v2)) else (some false))) else (some false)))
def kgP (x0:Pile) (x1:Pile):Option Int:=
 ((kfr [(w64 (x0.1-x1.1)),(w64 ((lenI x0.2)-(lenI x1.2)))]).bind fun v0=>(some v0))
def kbQ (x0:(List Pile)) (x1:Pile) (x2:((Pile×Pile)→Option Int)) (v0:(Int×Int)):Option ((Int×Int)⊕Int):=
 (if (decide (v0.1<v0.2))=true then ((gshr .u64 (IntKind.wrap .u64 (w64 (v0.1+v0.2))) 1).bind fun v1=>((gi x0 (w64 v1)).bind fun v2=>((x2 (v2,x1)).bind fun v3=>(if (decide (v3<0))=true then (some (.inl ((w64 ((w64 v1)+1)),v0.2))) else (some (.inl (v0.1,(w64 v1)))))))) else (some (.inr v0.1)))
def kaT (x0:(List Pile)) (x1:Pile) (x2:((Pile×Pile)→Option Int)):Option (Int×Bool):=
 ((iter (kbQ x0 x1 x2) (0,(lenI x0))).bind fun v4=>(if (decide (v4<(lenI x0)))=true then ((gi x0 v4).bind fun v5=>((x2 (v5,x1)).bind fun v6=>(some (v4,(v6==0))))) else (some (v4,false))))
def kcW (x0:Int) (x2:((Pile×Pile)→Option Int)) (v1:(Int×(List Pile))):Option ((Int×(List Pile))⊕(List Pile)):=
 (if (decide (x0<v1.1))=true then ((gi v1.2 v1.1).bind fun v2=>((gi v1.2 v1.1).bind fun v3=>((gi v1.2 (w64 (v1.1-1))).bind fun v4=>((gi v1.2 (w64 (v1.1-1))).bind fun v5=>((x2 (v3,v5)).bind fun v6=>(if (decide (v6<0))=true then ((gi v1.2 (w64 (v1.1-1))).bind fun v7=>((gi v1.2 (w64 (v1.1-1))).bind fun v8=>((gi v1.2 v1.1).bind fun v9=>((gi v1.2 v1.1).bind fun v10=>((gi v1.2 v1.1).bind fun v11=>((gi (lset v1.2 v1.1 v8) (w64 (v1.1-1))).bind fun v12=>(some (.inl ((w64 (v1.1-1)),(lset (lset v1.2 v1.1 v8) (w64 (v1.1-1)) v10)))))))))) else (some (.inr v1.2)))))))) else (some (.inr v1.2)))
def kcZ (x0:Int) (x1:Int) (x2:((Pile×Pile)→Option Int)) (v0:(Int×(List Pile))):Option ((Int×(List Pile))⊕(List Pile)):=
 (if (decide (v0.1<x1))=true then ((iter (kcW x0 x2) v0).bind fun v13=>(some (.inl ((w64 (v0.1+1)),v13)))) else (some (.inr v0.2)))
def kaX (x0:Int) (x1:Int) (x2:((Pile×Pile)→Option Int)) (x3:(List Pile)):Option (List Pile):=
 ((iter (kcZ x0 x1 x2) ((w64 (x0+1)),x3)).bind fun v14=>(some v14))
def kdw (x0:Int) (x1:Int) (x2:Int) (v0:(Int×(List Pile))):Option ((Int×(List Pile))⊕(List Pile)):=
 (if (decide (v0.1<x2))=true then ((gi v0.2 (w64 (x1+v0.1))).bind fun v1=>((gi v0.2 (w64 (x1+v0.1))).bind fun v2=>((gi v0.2 (w64 (x0+v0.1))).bind fun v3=>((gi v0.2 (w64 (x0+v0.1))).bind fun v4=>((gi v0.2 (w64 (x0+v0.1))).bind fun v5=>((gi (lset v0.2 (w64 (x0+v0.1)) v2) (w64 (x1+v0.1))).bind fun v6=>(some (.inl ((w64 (v0.1+1)),(lset (lset v0.2 (w64 (x0+v0.1)) v2) (w64 (x1+v0.1)) v4)))))))))) else (some (.inr v0.2)))
def kaH (x0:Int) (x1:Int) (x2:Int) (x3:((Pile×Pile)→Option Int)) (x4:(List Pile)):Option (List Pile):=
 ((iter (kdw x0 x1 x2) (0,x4)).bind fun v7=>(some v7))
def keh (x1:Int) (x3:((Pile×Pile)→Option Int)) (v0:(Int×Int×(List Pile))):Option ((Int×Int×(List Pile))⊕(Int×(List Pile))):=
 (if (v0.1 != v0.2.1)=true then (if (decide (v0.2.1<v0.1))=true then ((kaH (w64 (x1-v0.1)) x1 v0.2.1 x3 v0.2.2).bind fun v1=>(some (.inl ((w64 (v0.1-v0.2.1)),v0.2.1,v1)))) else ((kaH (w64 (x1-v0.1)) (w64 ((w64 (x1+v0.2.1))-v0.1)) v0.1 x3 v0.2.2).bind fun v2=>(some (.inl (v0.1,(w64 (v0.2.1-v0.1)),v2))))) else (some (.inr (v0.1,v0.2.2))))
def kck (x0:Int) (x1:Int) (x2:Int) (x3:((Pile×Pile)→Option Int)) (x4:(List Pile)):Option (List Pile):=
 ((iter (keh x1 x3) ((w64 (x1-x0)),(w64 (x2-x1)),x4)).bind fun v3=>((kaH (w64 (x1-v3.1)) x1 v3.1 x3 v3.2).bind fun v4=>(some v4)))
def kdN (x0:Int) (x3:((Pile×Pile)→Option Int)) (x4:(List Pile)) (v0:(Int×Int)):Option ((Int×Int)⊕Int):=
 (if (decide (v0.1<v0.2))=true then ((gshr .u64 (IntKind.wrap .u64 (w64 (v0.1+v0.2))) 1).bind fun v1=>((gi x4 (w64 v1)).bind fun v2=>((gi x4 (w64 v1)).bind fun v3=>((gi x4 x0).bind fun v4=>((gi x4 x0).bind fun v5=>((x3 (v3,v5)).bind fun v6=>(if (decide (v6<0))=true then (some (.inl ((w64 ((w64 v1)+1)),v0.2))) else (some (.inl (v0.1,(w64 v1))))))))))) else (some (.inr v0.1)))
def kdL (v7:Int) (v8:(Int×(List Pile))):Option ((Int×(List Pile))⊕(List Pile)):=
 (if (decide (v8.1<(w64 (v7-1))))=true then ((gi v8.2 (w64 (v8.1+1))).bind fun v9=>((gi v8.2 (w64 (v8.1+1))).bind fun v10=>((gi v8.2 v8.1).bind fun v11=>((gi v8.2 v8.1).bind fun v12=>((gi v8.2 v8.1).bind fun v13=>((gi (lset v8.2 v8.1 v10) (w64 (v8.1+1))).bind fun v14=>(some (.inl ((w64 (v8.1+1)),(lset (lset v8.2 v8.1 v10) (w64 (v8.1+1)) v12)))))))))) else (some (.inr v8.2)))
def kdQ (x1:Int) (x3:((Pile×Pile)→Option Int)) (x4:(List Pile)) (v16:(Int×Int)):Option ((Int×Int)⊕Int):=
 (if (decide (v16.1<v16.2))=true then ((gshr .u64 (IntKind.wrap .u64 (w64 (v16.1+v16.2))) 1).bind fun v17=>((gi x4 x1).bind fun v18=>((gi x4 x1).bind fun v19=>((gi x4 (w64 v17)).bind fun v20=>((gi x4 (w64 v17)).bind fun v21=>((x3 (v19,v21)).bind fun v22=>(if (!(decide (v22<0)))=true then (some (.inl ((w64 ((w64 v17)+1)),v16.2))) else (some (.inl (v16.1,(w64 v17))))))))))) else (some (.inr v16.1)))
def kdJ (v23:Int) (v24:(Int×(List Pile))):Option ((Int×(List Pile))⊕(List Pile)):=
 (if (decide (v23<v24.1))=true then ((gi v24.2 (w64 (v24.1-1))).bind fun v25=>((gi v24.2 (w64 (v24.1-1))).bind fun v26=>((gi v24.2 v24.1).bind fun v27=>((gi v24.2 v24.1).bind fun v28=>((gi v24.2 v24.1).bind fun v29=>((gi (lset v24.2 v24.1 v26) (w64 (v24.1-1))).bind fun v30=>(some (.inl ((w64 (v24.1-1)),(lset (lset v24.2 v24.1 v26) (w64 (v24.1-1)) v28)))))))))) else (some (.inr v24.2)))
def kdH (x1:Int) (x3:((Pile×Pile)→Option Int)) (x4:(List Pile)) (v32:Int) (v34:(Int×Int)):Option ((Int×Int)⊕Int):=
 (if (decide (v34.1<v34.2))=true then ((gshr .u64 (IntKind.wrap .u64 (w64 (v34.1+v34.2))) 1).bind fun v35=>((gi x4 (w64 ((w64 ((w64 ((w64 v32)+x1))-1))-(w64 v35)))).bind fun v36=>((gi x4 (w64 ((w64 ((w64 ((w64 v32)+x1))-1))-(w64 v35)))).bind fun v37=>((gi x4 (w64 v35)).bind fun v38=>((gi x4 (w64 v35)).bind fun v39=>((x3 (v37,v39)).bind fun v40=>(if (!(decide (v40<0)))=true then (some (.inl ((w64 ((w64 v35)+1)),v34.2))) else (some (.inl (v34.1,(w64 v35))))))))))) else (some (.inr v34.1)))
def kdW (rec_slices_symMergeCmpFunc_sort_pile_m12:Int→Int→Int→((Pile×Pile)→Option Int)→(List Pile)→Option (List Pile)) (x0:Int) (x1:Int) (x2:Int) (x3:((Pile×Pile)→Option Int)) (x4:(List Pile)):Option (List Pile):=
 (if ((w64 (x1-x0))==1)=true then ((iter (kdN x0 x3 x4) (x1,x2)).bind fun v7=>((iter (kdL v7) (x0,x4)).bind fun v15=>(some v15))) else (if ((w64 (x2-x1))==1)=true then ((iter (kdQ x1 x3 x4) (x0,x1)).bind fun v23=>((iter (kdJ v23) (x1,x4)).bind fun v31=>(some v31))) else ((gshr .u64 (IntKind.wrap .u64 (w64 (x0+x2))) 1).bind fun v32=>((if (decide ((w64 v32)<x1))=true then (some ((w64 ((w64 ((w64 v32)+x1))-x2)),(w64 v32))) else (some (x0,x1))).bind fun v33=>((iter (kdH x1 x3 x4 v32) v33).bind fun v41=>((if (decide (v41<x1))=true then (some (decide (x1<(w64 ((w64 ((w64 v32)+x1))-v41))))) else (some false)).bind fun v42=>((if v42=true then ((kck v41 x1 (w64 ((w64 ((w64 v32)+x1))-v41)) x3 x4).bind fun v43=>(some v43)) else (some x4)).bind fun v44=>((if (decide (x0<v41))=true then (some (decide (v41<(w64 v32)))) else (some false)).bind fun v45=>((if v45=true then ((rec_slices_symMergeCmpFunc_sort_pile_m12 x0 v41 (w64 v32) x3 v44).bind fun v46=>(some v46)) else (some v44)).bind fun v47=>(if (decide ((w64 v32)<(w64 ((w64 ((w64 v32)+x1))-v41))))=true then (if (decide ((w64 ((w64 ((w64 v32)+x1))-v41))<x2))=true then ((rec_slices_symMergeCmpFunc_sort_pile_m12 (w64 v32) (w64 ((w64 ((w64 v32)+x1))-v41)) x2 x3 v47).bind fun v48=>(some v48)) else (some v47)) else (some v47)))))))))))
def kbd:Nat→Int→Int→Int→((Pile×Pile)→Option Int)→(List Pile)→Option (List Pile)
 | 0,_,_,_,_,_=>none
 | k+1,x0,x1,x2,x3,x4=>kdW (kbd k) x0 x1 x2 x3 x4
def kbo (x0:Int) (x1:Int) (x2:Int) (x3:((Pile×Pile)→Option Int)) (x4:(List Pile)):Option (List Pile):=kbd 1000000 x0 x1 x2 x3 x4
def kee (x0:Int) (x1:((Pile×Pile)→Option Int)) (v0:(Int×Int×(List Pile))):Option ((Int×Int×(List Pile))⊕(Int×(List Pile))):=
 (if (decide (v0.1≤x0))=true then ((kaX v0.2.1 v0.1 x1 v0.2.2).bind fun v1=>(some (.inl ((w64 (v0.1+20)),v0.1,v1)))) else (some (.inr v0.2)))
def kec (x0:Int) (x1:((Pile×Pile)→Option Int)) (v4:(Int×(List Pile))) (v5:(Int×Int×(List Pile))):Option ((Int×Int×(List Pile))⊕(Int×(List Pile))):=
 (if (decide (v5.1≤x0))=true then ((kbo v5.2.1 (w64 (v5.2.1+v4.1)) v5.1 x1 v5.2.2).bind fun v6=>(some (.inl ((w64 (v5.1+(w64 (2*v4.1)))),v5.1,v6)))) else (some (.inr v5.2)))
def ked (x0:Int) (x1:((Pile×Pile)→Option Int)) (v4:(Int×(List Pile))):Option ((Int×(List Pile))⊕(List Pile)):=
 (if (decide (v4.1<x0))=true then ((iter (kec x0 x1 v4) ((w64 (2*v4.1)),0,v4.2)).bind fun v7=>(if (decide ((w64 (v7.1+v4.1))<x0))=true then ((kbo v7.1 (w64 (v7.1+v4.1)) x0 x1 v7.2).bind fun v8=>(some (.inl ((w64 (v4.1*2)),v8)))) else (some (.inl ((w64 (v4.1*2)),v7.2))))) else (some (.inr v4.2)))
def kcn (x0:Int) (x1:((Pile×Pile)→Option Int)) (x2:(List Pile)):Option (List Pile):=
 ((iter (kee x0 x1) (20,0,x2)).bind fun v2=>((kaX v2.1 x0 x1 v2.2).bind fun v3=>((iter (ked x0 x1) (20,v3)).bind fun v9=>(some v9))))
def kbr (x0:((Pile×Pile)→Option Int)) (x1:(List Pile)):Option (List Pile):=
 ((kcn (lenI x1) x0 x1).bind fun v0=>(some v0))
def kdO (x0:((Pile×Pile)→Option Int)) (x1:(List Pile)):Option (List Pile):=
 ((kbr x0 x1).bind fun v0=>(some v0))
def knJ (x0:(List Int)) (v1:(Int×(List Pile))):Option ((Int×(List Pile))⊕(List Pile)):=
 (if (decide (v1.1<(lenI x0)))=true then ((gi x0 v1.1).bind fun v2=>((gapp v1.2 [(v2,[v1.1])]).bind fun v3=>(some (.inl ((w64 (v1.1+1)),v3))))) else (some (.inr v1.2)))
def kor (x1:Int) (v5:(List Pile)):Option ((List Pile)⊕(List Pile)):=
 ((grem (w64 ((lenI v5)-1)) (w64 (x1-1))).bind fun v6=>(if (v6 != 0)=true then ((gapp v5 [(0,[])]).bind fun v7=>(some (.inl v7))) else (some (.inr v5))))
def koW (x1:Int) (v11:(Int×(List Pile)×(List Int))) (v13:Fed):Option (Fed⊕Pile):=
 (if (decide (v13.1<(x1-0)))=true then ((gmi 0 (x1-0) v13.1).bind fun v14=>((gi v11.2.1 v14).bind fun v15=>((gapp v13.2.2 v15.2).bind fun v16=>(some (.inl ((w64 (v13.1+1)),(w64 (v13.2.1+v15.1)),v16)))))) else (some (.inr v13.2)))
def koV (v17:Pile) (v18:Pile):Option (Pile⊕(List Int)):=
 (if (decide (v18.1<(lenI v17.2)))=true then ((gi v17.2 v18.1).bind fun v19=>((gi v17.2 v18.1).bind fun v20=>((gi v18.2 v20).bind fun v21=>((gi v18.2 v20).bind fun v22=>((gi v18.2 v20).bind fun v23=>(some (.inl ((w64 (v18.1+1)),(lset v18.2 v20 (w64 (v22+1))))))))))) else (some (.inr v18.2)))
def koa (x1:Int) (v11:(Int×(List Pile)×(List Int))):Option ((Int×(List Pile)×(List Int))⊕Pile):=
 (if (decide (1<(lenI v11.2.1)))=true then ((gsl v11.2.1 0 x1).bind fun v12=>((iter (koW x1 v11) (0,0,[])).bind fun v17=>((iter (koV v17) (0,v11.2.2)).bind fun v24=>((gsl v11.2.1 x1 (lenI v11.2.1)).bind fun v25=>((kaT ((List.drop (Int.toNat x1) v11.2.1).take (Int.toNat ((lenI v11.2.1)-x1))) v17 (fun (u0:(Pile×Pile))=>((kgP u0.1 u0.2).bind fun u1=>(some u1)))).bind fun v26=>((gmk (w64 (((lenI v11.2.1)-x1)+1)) (0,[])).bind fun v27=>((gmb ((lenI v11.2.1)-x1) 0 v26.1).bind fun v28=>((gi (lcopy v27 0 (lenI v27) ((List.drop (Int.toNat (x1+0)) v11.2.1).take (Int.toNat (v26.1-0)))) v26.1).bind fun v29=>((gsl (lset (lcopy v27 0 (lenI v27) ((List.drop (Int.toNat (x1+0)) v11.2.1).take (Int.toNat (v26.1-0)))) v26.1 v17) (w64 (v26.1+1)) (lenI (lset (lcopy v27 0 (lenI v27) ((List.drop (Int.toNat (x1+0)) v11.2.1).take (Int.toNat (v26.1-0)))) v26.1 v17))).bind fun v30=>((gmb ((lenI v11.2.1)-x1) v26.1 ((lenI v11.2.1)-x1)).bind fun v31=>(some (.inl ((w64 (v11.1+v17.1)),(ktx (lset (lcopy v27 0 (lenI v27) ((List.drop (Int.toNat (x1+0)) v11.2.1).take (Int.toNat (v26.1-0)))) v26.1 v17) ((w64 (v26.1+1)),((lenI (lset (lcopy v27 0 (lenI v27) ((List.drop (Int.toNat (x1+0)) v11.2.1).take (Int.toNat (v26.1-0)))) v26.1 v17))-(w64 (v26.1+1)))) ((List.drop (Int.toNat (x1+v26.1)) v11.2.1).take (Int.toNat (((lenI v11.2.1)-x1)-v26.1)))),v24))))))))))))) else (some (.inr (v11.1,v11.2.2))))
def kmR (x0:(List Int)) (x1:Int):Option ((List Int)×Int×Int):=
 ((kiP x0 x1).bind fun v0=>(if (!v0)=true then (some ([],0,2)) else ((iter (knJ x0) (0,[])).bind fun v4=>((iter (kor x1) v4).bind fun v8=>((gmk (lenI x0) 0).bind fun v9=>((kdO (fun (u0:(Pile×Pile))=>((kgP u0.1 u0.2).bind fun u1=>(some u1))) v8).bind fun v10=>((iter (koa x1) (0,v10,v9)).bind fun v32=>(some (v32.2,v32.1,0)))))))))
def kjt (x0:(List (Int×Int×Int))) (x1:(List (Int×Int×Int))) (v0:Int):Option (Int⊕(Bool⊕Unit)):=
 (if (decide (v0<(lenI x0)))=true then ((gi x0 v0).bind fun v1=>((gi x1 v0).bind fun v2=>(if (!((v1.1==v2.1)&&((v1.2.1==v2.2.1)&&(v1.2.2==v2.2.2))))=true then (some (.inr (.inl false))) else (some (.inl (w64 (v0+1))))))) else (some (.inr (.inr ()))))
def kfv (x0:(List (Int×Int×Int))) (x1:(List (Int×Int×Int))):Option Bool:=
 (if ((lenI x0) != (lenI x1))=true then (some false) else ((iter (kjt x0 x1) 0).bind fun v3=>(match v3 with | .inl v4=>(some v4) | .inr v5=>(some true))))
def kcE (x0:(List (Int×Int×Bool))) (x1:(List (Int×Int×Bool))) (v0:Int):Option (Int⊕(Bool⊕Unit)):=
 (if (decide (v0<(lenI x0)))=true then ((gi x0 v0).bind fun v1=>((gi x1 v0).bind fun v2=>(if (!((v1.1==v2.1)&&((v1.2.1==v2.2.1)&&(v1.2.2==v2.2.2))))=true then (some (.inr (.inl false))) else (some (.inl (w64 (v0+1))))))) else (some (.inr (.inr ()))))
def kcD (x0:(List (Int×Int×Bool))) (x1:(List (Int×Int×Bool))):Option Bool:=
 (if ((lenI x0) != (lenI x1))=true then (some false) else ((iter (kcE x0 x1) 0).bind fun v3=>(match v3 with | .inl v4=>(some v4) | .inr v5=>(some true))))
def kkf (x0:(List Int)) (x1:(List Int)) (v0:Int):Option (Int⊕(Bool⊕Unit)):=
 (if (decide (v0<(lenI x0)))=true then ((gi x0 v0).bind fun v1=>((gi x1 v0).bind fun v2=>(if (v1 != v2)=true then (some (.inr (.inl false))) else (some (.inl (w64 (v0+1))))))) else (some (.inr (.inr ()))))
def khY (x0:(List Int)) (x1:(List Int)):Option Bool:=
 (if ((lenI x0) != (lenI x1))=true then (some false) else ((iter (kkf x0 x1) 0).bind fun v3=>(match v3 with | .inl v4=>(some v4) | .inr v5=>(some true))))
def kjm:Option Bool:=
 (law09_belt.bind fun v0=>((kcS 0 0).bind fun v1=>((kcS 6 1).bind fun v2=>((kcS 12 2).bind fun v3=>((kem v0 [v1,v2,v3]).bind fun v4=>(law09_belt.bind fun v5=>((kcS 0 0).bind fun v6=>((kcS 4 1).bind fun v7=>((kem v5 [v6,v7]).bind fun v8=>(law09_belt.bind fun v9=>((kcS 0 0).bind fun v10=>((kcS 6 1).bind fun v11=>((kcS 12 2).bind fun v12=>((kbX v9 [v10,v11,v12]).bind fun v13=>(law09_table.bind fun v14=>((kjD v14 0 2).bind fun v15=>((kmR [5,4,3] 2).bind fun v16=>(if (v4.2 != 0)=true then (some false) else ((kfv v4.1 [(0,0,10),(1,1,21),(2,(-1),32)]).bind fun v17=>(if (!v17)=true then (some false) else (if (v8.2 != 0)=true then (some false) else ((kfv v8.1 [(0,(-1),20),(1,(-1),24)]).bind fun v18=>(if (!v18)=true then (some false) else (if (v13.2==0)=true then ((kcD v13.1 [(8,0,true),(11,0,false),(19,1,true),(22,1,false)]).bind fun v19=>(if v19=true then (if (v15.2==0)=true then ((khY v15.1 [900000,7500,92500]).bind fun v20=>(if v20=true then (if (v16.2.2==0)=true then (some (v16.2.1==19)) else (some false)) else (some false))) else (some false)) else (some false))) else (some false)))))))))))))))))))))))))
def law09_alive:Option Bool:=some true
theorem krX:kjm=law09_alive:=by kernel_rfl
def keC (x1:(List Fed)) (v0:Int):Option (Int⊕(Bool⊕Unit)):=
 (if (decide (v0<(lenI x1)))=true then ((gi x1 v0).bind fun v1=>(if (decide (20<(lenI v1.2.2)))=true then (some (.inr (.inl true))) else (some (.inl (w64 (v0+1)))))) else (some (.inr (.inr ()))))
def kdS (x0:Belt) (x1:(List Fed)):Option Bool:=
 (if (decide (12<(lenI x0.2.2.2.1)))=true then (some true) else (if (decide (30<(lenI x0.2.2.2.2)))=true then (some true) else (if (decide (60<(lenI x1)))=true then (some true) else ((iter (keC x1) 0).bind fun v2=>(match v2 with | .inl v3=>(some v3) | .inr v4=>(some false))))))
def keI (x0:(List (Int×Int×Bool))) (x1:Int) (v0:(Int×(List (Int×Int×Bool)))):Option ((Int×(List (Int×Int×Bool)))⊕(List (Int×Int×Bool))):=
 (if (decide (v0.1<(lenI x0)))=true then ((gi x0 v0.1).bind fun v1=>(if (decide (v1.1≤x1))=true then ((gapp v0.2 [v1]).bind fun v2=>(some (.inl ((w64 (v0.1+1)),v2)))) else (some (.inl ((w64 (v0.1+1)),v0.2))))) else (some (.inr v0.2)))
def keR (x0:(List (Int×Int×Bool))) (x1:Int):Option (List (Int×Int×Bool)):=
 ((iter (keI x0 x1) (0,[])).bind fun v3=>(some v3))
def kbT (x0:Belt) (x1:(List Fed)) (x3:Int) (v4:(Int×(List Fed))):Option ((Int×(List Fed))⊕(List Fed)):=
 (if (decide (v4.1<(lenI x1)))=true then ((gi x1 v4.1).bind fun v5=>(if (decide (v5.1≤(w64 (x3-x0.2.1))))=true then ((gapp v4.2 [v5]).bind fun v6=>(some (.inl ((w64 (v4.1+1)),v6)))) else (some (.inl ((w64 (v4.1+1)),v4.2))))) else (some (.inr v4.2)))
def kbU (x0:Belt) (x2:(List Fed)) (x3:Int) (v8:(Int×(List Fed))):Option ((Int×(List Fed))⊕(List Fed)):=
 (if (decide (v8.1<(lenI x2)))=true then ((gi x2 v8.1).bind fun v9=>(if (decide ((w64 (x3-x0.2.1))<v9.1))=true then ((gapp v8.2 [v9]).bind fun v10=>(some (.inl ((w64 (v8.1+1)),v10)))) else (some (.inl ((w64 (v8.1+1)),v8.2))))) else (some (.inr v8.2)))
def kfd (x0:Belt) (x1:(List Fed)) (x2:(List Fed)) (x3:Int):Option Bool:=
 (law09_alive.bind fun v0=>((kdS x0 x1).bind fun v1=>(if v1=true then (some v0) else (if (decide (60<(lenI x2)))=true then (some v0) else ((kdS x0 x2).bind fun v2=>(if v2=true then (some v0) else (if (decide (x3<(-5000)))=true then (some v0) else (if (decide (5000<x3))=true then (some v0) else (if (!v0)=true then (some v0) else ((kdg x0).bind fun v3=>(if (v3 != 0)=true then (some v0) else ((iter (kbT x0 x1 x3) (0,[])).bind fun v7=>((iter (kbU x0 x2 x3) (0,v7)).bind fun v11=>((kbX x0 x1).bind fun v12=>((kbX x0 v11).bind fun v13=>(if (v12.2 != 0)=true then (some v0) else (if (v13.2 != 0)=true then (some v0) else (if v0=true then ((keR v12.1 x3).bind fun v14=>((keR v13.1 x3).bind fun v15=>((kcD v14 v15).bind fun v16=>(some v16)))) else (some false)))))))))))))))))))
def kdf (x0:Belt) (x1:Int) (v0:Int):Option (Int⊕(Int⊕Unit)):=
 (if (decide (v0<(lenI x0.2.2.2.1)))=true then ((gi x0.2.2.2.1 v0).bind fun v1=>(if (v1.2==x1)=true then (some (.inr (.inl v0))) else (some (.inl (w64 (v0+1)))))) else (some (.inr (.inr ()))))
def khA (x0:Belt) (x1:Int):Option Int:=
 ((iter (kdf x0 x1) 0).bind fun v2=>(match v2 with | .inl v3=>(some v3) | .inr v4=>(some (-1))))
end Go.Abs
set_option maxRecDepth 100000
namespace Go.Abs
open Go Go.Proofs
def kjR:Ctr:=⟨ "",[],[tBelt],fun x=>law09_belt,[],[]⟩
theorem klG:Good Try.prog 77 kjR:=
 kak Try.func77 (by kernel_rfl) (An:=[(0,⟨⟨[(8,.c (.i .i64)),(1,.ptr 8 0)],[(8,.bx 25 [.c (.i .i64),.c (.i .i64),.c (.i .i64),.mw 3,.mw 5]),(5,.sl 3 (.i .i64))]⟩,⟨[(1,.ptr 9 0)],[(9,.bx 25 [.c (.i .i64),.c (.i .i64),.c (.i .i64),.mw 3,.mw 10]),(10,.sl 3 (.i .i64))]⟩,[0],[3,2,0,1],11,false,""⟩),(49,⟨⟨[],[]⟩,⟨[(3,.c (.i .i64))],[]⟩,[2,1,8],[8,5],9,false,""⟩)]) [] (.nil) (fun x=>by kernel_rfl)
def kkD:Ctr:=⟨ "",[(.i .i64),(.i .i64)],[tFed],fun x=>kcS x.1 x.2,[],[]⟩
theorem kmu:Good Try.prog 78 kkD:=
 kak Try.func78 (by kernel_rfl) (An:=[]) [] (.nil) (fun x=>by kernel_rfl)
def khX:Ctr:=⟨ "",[(.i .i64),(.pt (.i .i64)),(.pt (.i .i64))],[.b],fun x=>kfw x.1 x.2.1 x.2.2,[],[]⟩
theorem kke:Good Try.prog 82 khX:=
 kak Try.func82 (by kernel_rfl) (An:=[]) [] (.nil) (fun x=>by kernel_rfl)
def kdb:Ctr:=⟨ "",[(.sl (.i .i64)),(.fn 1 (.i .i64) .b)],[(.i .i64)],fun x=>kcg x.1 x.2,[],[]⟩
theorem kfj:Good Try.prog 93 kdb:=
 kak Try.func93 (by kernel_rfl) (An:=[(0,⟨⟨[(8,.c (.i .i64))],[]⟩,⟨[],[]⟩,[7,1,0],[],0,true,""⟩)]) [] (.nil) (fun x=>by kernel_rfl)
def kcF:Ctr:=⟨ "",[(.sl (.i .i64)),(.fn 1 (.i .i64) .b)],[.b],fun x=>kbl x.1 x.2,[],[]⟩
theorem keL:Good Try.prog 81 kcF:=
 kak Try.func81 (by kernel_rfl) (An:=[]) [(93,kdb)] (.cons kfj <| .nil) (fun x=>by kernel_rfl)
def kcU:Ctr:=⟨ "",[(.i .i64),(.i .i64),(.sl (.i .i64))],[.b],fun x=>kav x.1 x.2.1 x.2.2,[],[]⟩
theorem kcz:Good Try.prog 54 kcU:=
 kak Try.func54 (by kernel_rfl) (An:=[]) [(81,kcF),(82,khX)] (.cons keL <| .cons kke <| .nil) (fun x=>by kernel_rfl)
def kfb:Ctr:=⟨ "",[tBelt],[(.i .i64)],fun x=>kdg x,[],[]⟩
theorem kfD:Good Try.prog 18 kfb:=
 kak Try.func18 (by kernel_rfl) (An:=[(0,⟨⟨[(52,.c (.i .i64)),(3,.c (.i .i64)),(4,.mp 4)],[(4,.mp (.i .i64) .b)]⟩,⟨[],[]⟩,[51,50,1],[0],5,true,""⟩)]) [(54,kcU)] (.cons kcz <| .nil) (fun x=>by kernel_rfl)
def kko:Ctr:=⟨ "",[(.sl (.i .i64))],[.b],fun x=>kht x,[],[]⟩
theorem kms:Good Try.prog 50 kko:=
 kak Try.func50 (by kernel_rfl) (An:=[]) [(54,kcU)] (.cons kcz <| .nil) (fun x=>by kernel_rfl)
def khm:Ctr:=⟨ "",[(.sl tFed)],[(.i .i64)],fun x=>keZ x,[],[]⟩
theorem kiY:Good Try.prog 20 khm:=
 kak Try.func20 (by kernel_rfl) (An:=[(0,⟨⟨[(11,.c (.i .i64)),(3,.c (.i .i64))],[]⟩,⟨[],[]⟩,[10,9],[],0,true,""⟩)]) [(50,kko),(54,kcU)] (.cons kms <| .cons kcz <| .nil) (fun x=>by kernel_rfl)
def kik:Ctr:=⟨ "",[tBelt,(.sl tFed)],[(.op tLine),(.i .i64)],fun x=>kgQ x.1 x.2,[],[]⟩
theorem kiQ:Good Try.prog 59 kik:=
 kak Try.func59 (by kernel_rfl) (An:=[(41,⟨⟨[],[]⟩,⟨[(6,.c (.i .i64))],[]⟩,[1,2],[0],1,false,""⟩)]) [(20,khm),(18,kfb)] (.cons kiY <| .cons kfD <| .nil) (fun x=>by kernel_rfl)
def kfV:Ctr:=⟨ "",[(.sl (.i .i64))],[(.i .i64)],fun x=>kfe x,[],[]⟩
theorem kfM:Good Try.prog 51 kfV:=
 kak Try.func51 (by kernel_rfl) (An:=[(0,⟨⟨[(12,.c (.i .i64)),(3,.ptr 0 0)],[(0,.el 130 (.ar 16 (.i .i64)))]⟩,⟨[(3,.ptr 1 0)],[(1,.el 130 (.ar 16 (.i .i64)))]⟩,[11,10],[],2,false,""⟩),(8,⟨⟨[(25,.c (.i .i64)),(7,.c (.i .i64)),(6,.c (.i .i64))],[]⟩,⟨[(6,.c (.i .i64))],[]⟩,[24],[],2,false,""⟩)]) [] (.nil) (fun x=>by kernel_rfl)
def kfE:Ctr:=⟨ "",[(.pr (.i .i64) (.i .i64)),(.pt (.op tLine)),(.pt (.i .i64))],[.b],fun x=>keM x.1 x.2.1 x.2.2,[],[]⟩
theorem khz:Good Try.prog 103 kfE:=
 kak Try.func103 (by kernel_rfl) (An:=[]) [] (.nil) (fun x=>by kernel_rfl)
def kbS:Ctr:=⟨ "",[(.sl (.pr (.i .i64) (.i .i64))),(.fn 1 (.pr (.i .i64) (.i .i64)) .b)],[(.i .i64)],fun x=>kaN x.1 x.2,[],[]⟩
theorem kdo:Good Try.prog 102 kbS:=
 kak Try.func102 (by kernel_rfl) (An:=[(0,⟨⟨[(8,.c (.i .i64))],[]⟩,⟨[],[]⟩,[7,1,0],[],0,true,""⟩)]) [] (.nil) (fun x=>by kernel_rfl)
def kfa:Ctr:=⟨ "",[(.op tLine),tFed],[(.i .i64)],fun x=>kdc x.1 x.2,[],[]⟩
theorem kfC:Good Try.prog 95 kfa:=
 kak Try.func95 (by kernel_rfl) (An:=[]) [(102,kbS),(103,kfE),(51,kfV)] (.cons kdo <| .cons khz <| .cons kfM <| .nil) (fun x=>by kernel_rfl)
def kfh:Ctr:=⟨ "",[tFed,(.pt (.op tLine)),(.pt (.i .i64))],[.b],fun x=>kdY x.1 x.2.1 x.2.2,[],[]⟩
theorem kgY:Good Try.prog 96 kfh:=
 kak Try.func96 (by kernel_rfl) (An:=[]) [(95,kfa)] (.cons kfC <| .nil) (fun x=>by kernel_rfl)
def kbY:Ctr:=⟨ "",[(.sl tFed),(.fn 1 tFed .b)],[(.i .i64)],fun x=>kbw x.1 x.2,[],[]⟩
theorem kdM:Good Try.prog 104 kbY:=
 kak Try.func104 (by kernel_rfl) (An:=[(0,⟨⟨[(8,.c (.i .i64))],[]⟩,⟨[],[]⟩,[7,1,0],[],0,true,""⟩)]) [] (.nil) (fun x=>by kernel_rfl)
def kbN:Ctr:=⟨ "",[(.sl tFed),(.fn 1 tFed .b)],[.b],fun x=>kaJ x.1 x.2,[],[]⟩
theorem kde:Good Try.prog 97 kbN:=
 kak Try.func97 (by kernel_rfl) (An:=[]) [(104,kbY)] (.cons kdM <| .nil) (fun x=>by kernel_rfl)
def kgb:Ctr:=⟨ "",[(.op tLine),(.sl tFed)],[(.i .i64)],fun x=>kdr x.1 x.2,[],[]⟩
theorem khW:Good Try.prog 89 kgb:=
 kak Try.func89 (by kernel_rfl) (An:=[(7,⟨⟨[],[]⟩,⟨[],[]⟩,[0],[0],0,false,""⟩)]) [(97,kbN),(96,kfh),(95,kfa)] (.cons kde <| .cons kgY <| .cons kfC <| .nil) (fun x=>by kernel_rfl)
def keK:CtrI:=⟨ "",[(.pt (.op tLine))],[(.i .i64),(.sl tFed)],fun x=>runI fun o=>kaS o x⟩
theorem kgr:GoodI Try.prog 88 keK:=
 kss Try.func88 (by kernel_rfl) (An:=[(0,⟨⟨[(3,.c (.sl tFed)),(9000000,.gs (.pr (.i .i64) (.sl tFed)))],[]⟩,⟨[(9000000,.gs (.pr (.i .i64) (.sl tFed)))],[]⟩,[1],[],1,true,""⟩),(8,⟨⟨[(4,.c (.i .i64))],[]⟩,⟨[(4,.c (.i .i64))],[]⟩,[3,9000000],[],1,false,""⟩)]) [(89,kgb)] (.cons khW <| .nil) (fun x=>by kernel_rfl)
def kbR:Ctr:=⟨ "",[],[],fun _=>none,[],[keK]⟩
theorem kce:Good Try.prog 88 kbR:=good_dm.moreI kgr
def sort_line_clusters_m0_M:CtrM:=⟨ "",[some (.op tLine)],⟨[],[]⟩,0,⟨[(1000000,.fn 88 [.ptr 0 0])],[(0,.bx 100 [.c (.op tLine)])]⟩,1,1,fun x=>kbF x⟩
theorem kgn:sort_line_clusters_m0_M.ok=true∧GoodM Try.prog 70 sort_line_clusters_m0_M:=
 kbu Try.func70 (by kernel_rfl) (An:=[]) [(88,kbR)] (.cons kce <| .nil) (fun x=>by kernel_rfl)
def sort_line_clusters_C:Ctr:=⟨ "",[],[],fun _=>none,[],[]⟩
theorem sort_line_clusters_C_ok:Good Try.prog 70 sort_line_clusters_C:=good_dm
def kdj:Ctr:=⟨ "",sort_line_clusters_C.as,sort_line_clusters_C.rs,sort_line_clusters_C.F,sort_line_clusters_m0_M::sort_line_clusters_C.mus,sort_line_clusters_C.its⟩
theorem kew:Good Try.prog 70 kdj:=sort_line_clusters_C_ok.more kgn
def kkx:Ctr:=⟨ "",[tBelt,(.sl tFed)],[(.sl (.pr (.i .i64) (.pr (.i .i64) (.i .i64)))),(.i .i64)],fun x=>kem x.1 x.2,[],[]⟩
theorem kmc:Good Try.prog 39 kkx:=
 kak Try.func39 (by kernel_rfl) (An:=[(0,⟨⟨[],[(3,.bx 57 [.mw 2]),(2,.sl 86 (.pr (.i .i64) (.pr (.i .i64) (.i .i64))))]⟩,⟨[],[(3,.bx 57 [.mw 6]),(6,.sl 86 (.pr (.i .i64) (.pr (.i .i64) (.i .i64))))]⟩,[24,8,2],[0],7,false,""⟩),(8,⟨⟨[(29,.c (.i .i64))],[(3,.bx 57 [.mw 2]),(2,.sl 86 (.pr (.i .i64) (.pr (.i .i64) (.i .i64))))]⟩,⟨[],[(3,.bx 57 [.mw 6]),(6,.sl 86 (.pr (.i .i64) (.pr (.i .i64) (.i .i64))))]⟩,[28,27,9],[],7,false,""⟩),(47,⟨⟨[],[]⟩,⟨[],[]⟩,[0,6,5,3,2],[0,6,5,3,2],0,false,""⟩),(55,⟨⟨[],[]⟩,⟨[],[]⟩,[0,7,6,5,3,2],[0,6,5,3,2],0,false,""⟩)]) [(70,kdj),(88,kbR),(51,kfV),(59,kik)] (.cons kew <| .cons kce <| .cons kfM <| .cons kiQ <| .nil) (fun x=>by kernel_rfl)
def khs:Ctr:=⟨ "",[(.i .i64)],[.b],fun x=>keW x,[],[]⟩
theorem kjv:Good Try.prog 99 khs:=
 kak Try.func99 (by kernel_rfl) (An:=[]) [] (.nil) (fun x=>by kernel_rfl)
def kgu:Ctr:=⟨ "",[(.i .i64),(.i .i64)],[(.i .i64)],fun x=>kcL x.1 x.2,[],[]⟩
theorem kiq:Good Try.prog 92 kgu:=
 kak Try.func92 (by kernel_rfl) (An:=[]) [(99,khs)] (.cons kjv <| .nil) (fun x=>by kernel_rfl)
def kgW:Ctr:=⟨ "",[(.sl (.i .i64))],[(.i .i64)],fun x=>kfr x,[],[]⟩
theorem khu:Good Try.prog 67 kgW:=
 kak Try.func67 (by kernel_rfl) (An:=[(0,⟨⟨[(8,.c (.i .i64))],[]⟩,⟨[],[]⟩,[7,6,3],[],0,true,""⟩)]) [] (.nil) (fun x=>by kernel_rfl)
def kjg:Ctr:=⟨ "",[(.pr (.i .i64) (.pr (.i .i64) .b)),(.pr (.i .i64) (.pr (.i .i64) .b))],[(.i .i64)],fun x=>keH x.1 x.2,[],[]⟩
theorem klO:Good Try.prog 73 kjg:=
 kak Try.func73 (by kernel_rfl) (An:=[]) [(67,kgW),(92,kgu)] (.cons khu <| .cons kiq <| .nil) (fun x=>by kernel_rfl)
def slices_insertionSortCmpFunc_api_Swing_m1_M:CtrM:=⟨ "",[none,some (.i .i64),some (.i .i64),some (.fn 2 (.pr (.pr (.i .i64) (.pr (.i .i64) .b)) (.pr (.i .i64) (.pr (.i .i64) .b))) (.i .i64))],⟨[(0,.mw 0)],[(0,.sl 107 (.pr (.i .i64) (.pr (.i .i64) .b)))]⟩,1,⟨[(0,.mw 0)],[(0,.sl 107 (.pr (.i .i64) (.pr (.i .i64) .b)))]⟩,1,0,fun x=>kap x.1 x.2.1 x.2.2.1 x.2.2.2⟩
theorem kcJ:slices_insertionSortCmpFunc_api_Swing_m1_M.ok=true∧GoodM Try.prog 105 slices_insertionSortCmpFunc_api_Swing_m1_M:=
 kbu Try.func105 (by kernel_rfl) (An:=[(0,⟨⟨[(8,.c (.i .i64))],[(0,.sl 107 (.pr (.i .i64) (.pr (.i .i64) .b)))]⟩,⟨[],[(0,.sl 107 (.pr (.i .i64) (.pr (.i .i64) .b)))]⟩,[2,1,3],[],2,false,""⟩),(8,⟨⟨[(9,.c (.i .i64))],[(0,.sl 107 (.pr (.i .i64) (.pr (.i .i64) .b)))]⟩,⟨[],[(0,.sl 107 (.pr (.i .i64) (.pr (.i .i64) .b)))]⟩,[8],[],2,false,""⟩),(27,⟨⟨[],[]⟩,⟨[],[]⟩,[],[],0,false,""⟩)]) [] (.nil) (fun x=>by kernel_rfl)
def slices_insertionSortCmpFunc_api_Swing_C:Ctr:=⟨ "",[],[],fun _=>none,[],[]⟩
theorem slices_insertionSortCmpFunc_api_Swing_C_ok:Good Try.prog 105 slices_insertionSortCmpFunc_api_Swing_C:=good_dm
def kbM:Ctr:=⟨ "",slices_insertionSortCmpFunc_api_Swing_C.as,slices_insertionSortCmpFunc_api_Swing_C.rs,slices_insertionSortCmpFunc_api_Swing_C.F,slices_insertionSortCmpFunc_api_Swing_m1_M::slices_insertionSortCmpFunc_api_Swing_C.mus,slices_insertionSortCmpFunc_api_Swing_C.its⟩
theorem kcY:Good Try.prog 105 kbM:=slices_insertionSortCmpFunc_api_Swing_C_ok.more kcJ
def slices_swapRangeCmpFunc_api_Swing_m2_M:CtrM:=⟨ "",[none,some (.i .i64),some (.i .i64),some (.i .i64),some (.fn 2 (.pr (.pr (.i .i64) (.pr (.i .i64) .b)) (.pr (.i .i64) (.pr (.i .i64) .b))) (.i .i64))],⟨[(0,.mw 0)],[(0,.sl 107 (.pr (.i .i64) (.pr (.i .i64) .b)))]⟩,1,⟨[(0,.mw 0)],[(0,.sl 107 (.pr (.i .i64) (.pr (.i .i64) .b)))]⟩,1,0,fun x=>kan x.1 x.2.1 x.2.2.1 x.2.2.2.1 x.2.2.2.2⟩
theorem kdn:slices_swapRangeCmpFunc_api_Swing_m2_M.ok=true∧GoodM Try.prog 110 slices_swapRangeCmpFunc_api_Swing_m2_M:=
 kbu Try.func110 (by kernel_rfl) (An:=[(0,⟨⟨[(10,.c (.i .i64))],[(0,.sl 107 (.pr (.i .i64) (.pr (.i .i64) .b)))]⟩,⟨[],[(0,.sl 107 (.pr (.i .i64) (.pr (.i .i64) .b)))]⟩,[3,1,2],[],2,false,""⟩),(15,⟨⟨[],[]⟩,⟨[],[]⟩,[],[],0,false,""⟩)]) [] (.nil) (fun x=>by kernel_rfl)
def slices_swapRangeCmpFunc_api_Swing_C:Ctr:=⟨ "",[],[],fun _=>none,[],[]⟩
theorem slices_swapRangeCmpFunc_api_Swing_C_ok:Good Try.prog 110 slices_swapRangeCmpFunc_api_Swing_C:=good_dm
def kca:Ctr:=⟨ "",slices_swapRangeCmpFunc_api_Swing_C.as,slices_swapRangeCmpFunc_api_Swing_C.rs,slices_swapRangeCmpFunc_api_Swing_C.F,slices_swapRangeCmpFunc_api_Swing_m2_M::slices_swapRangeCmpFunc_api_Swing_C.mus,slices_swapRangeCmpFunc_api_Swing_C.its⟩
theorem kdB:Good Try.prog 110 kca:=slices_swapRangeCmpFunc_api_Swing_C_ok.more kdn
def slices_rotateCmpFunc_api_Swing_m3_M:CtrM:=⟨ "",[none,some (.i .i64),some (.i .i64),some (.i .i64),some (.fn 2 (.pr (.pr (.i .i64) (.pr (.i .i64) .b)) (.pr (.i .i64) (.pr (.i .i64) .b))) (.i .i64))],⟨[(0,.mw 0)],[(0,.sl 107 (.pr (.i .i64) (.pr (.i .i64) .b)))]⟩,1,⟨[(0,.mw 0)],[(0,.sl 107 (.pr (.i .i64) (.pr (.i .i64) .b)))]⟩,1,0,fun x=>kaw x.1 x.2.1 x.2.2.1 x.2.2.2.1 x.2.2.2.2⟩
theorem kdX:slices_rotateCmpFunc_api_Swing_m3_M.ok=true∧GoodM Try.prog 108 slices_rotateCmpFunc_api_Swing_m3_M:=
 kbu Try.func108 (by kernel_rfl) (An:=[(0,⟨⟨[(10,.c (.i .i64)),(11,.c (.i .i64))],[(0,.sl 107 (.pr (.i .i64) (.pr (.i .i64) .b)))]⟩,⟨[(10,.c (.i .i64))],[(0,.sl 107 (.pr (.i .i64) (.pr (.i .i64) .b)))]⟩,[2,4],[],2,false,""⟩)]) [(110,kca)] (.cons kdB <| .nil) (fun x=>by kernel_rfl)
def slices_rotateCmpFunc_api_Swing_C:Ctr:=⟨ "",[],[],fun _=>none,[],[]⟩
theorem slices_rotateCmpFunc_api_Swing_C_ok:Good Try.prog 108 slices_rotateCmpFunc_api_Swing_C:=good_dm
def kct:Ctr:=⟨ "",slices_rotateCmpFunc_api_Swing_C.as,slices_rotateCmpFunc_api_Swing_C.rs,slices_rotateCmpFunc_api_Swing_C.F,slices_rotateCmpFunc_api_Swing_m3_M::slices_rotateCmpFunc_api_Swing_C.mus,slices_rotateCmpFunc_api_Swing_C.its⟩
theorem kes:Good Try.prog 108 kct:=slices_rotateCmpFunc_api_Swing_C_ok.more kdX
def kbe (k:Nat):CtrM:=⟨ "",[none,some (.i .i64),some (.i .i64),some (.i .i64),some (.fn 2 (.pr (.pr (.i .i64) (.pr (.i .i64) .b)) (.pr (.i .i64) (.pr (.i .i64) .b))) (.i .i64))],⟨[(0,.mw 0)],[(0,.sl 107 (.pr (.i .i64) (.pr (.i .i64) .b)))]⟩,1,⟨[(0,.mw 0)],[(0,.sl 107 (.pr (.i .i64) (.pr (.i .i64) .b)))]⟩,1,0,fun x=>kai k x.1 x.2.1 x.2.2.1 x.2.2.2.1 x.2.2.2.2⟩
theorem kbO:∀ k,(kbe k).ok=true∧GoodM Try.prog 106 (kbe k)
 | 0=>kiI (by kernel_rfl) (fun x=>rfl)
 | k+1=>kbu Try.func106 (by kernel_rfl) (An:=[(0,⟨⟨[(10,.c (.i .i64)),(11,.c (.i .i64))],[]⟩,⟨[(10,.c (.i .i64))],[]⟩,[4,1],[0],1,false,""⟩),(8,⟨⟨[(13,.c (.i .i64))],[(0,.sl 107 (.pr (.i .i64) (.pr (.i .i64) .b)))]⟩,⟨[],[(0,.sl 107 (.pr (.i .i64) (.pr (.i .i64) .b)))]⟩,[10],[],2,false,""⟩),(47,⟨⟨[],[]⟩,⟨[],[]⟩,[],[],0,false,""⟩),(16,⟨⟨[(14,.c (.i .i64)),(15,.c (.i .i64))],[]⟩,⟨[(14,.c (.i .i64))],[]⟩,[4,2],[0],1,false,""⟩),(24,⟨⟨[(17,.c (.i .i64))],[(0,.sl 107 (.pr (.i .i64) (.pr (.i .i64) .b)))]⟩,⟨[],[(0,.sl 107 (.pr (.i .i64) (.pr (.i .i64) .b)))]⟩,[14],[],2,false,""⟩),(95,⟨⟨[],[]⟩,⟨[],[]⟩,[],[],0,false,""⟩),(561,⟨⟨[],[]⟩,⟨[(20,.c (.i .i64)),(21,.c (.i .i64))],[]⟩,[19,3,18,4,2,1],[0],1,false,""⟩),(32,⟨⟨[(20,.c (.i .i64)),(21,.c (.i .i64))],[]⟩,⟨[(20,.c (.i .i64))],[]⟩,[4,22,19,2,1,18,3],[0],1,false,""⟩),(158,⟨⟨[],[]⟩,⟨[(185,.c .b)],[]⟩,[20,2,24,4,1,18,3],[0],1,false,""⟩),(741,⟨⟨[],[(0,.sl 107 (.pr (.i .i64) (.pr (.i .i64) .b)))]⟩,⟨[],[(0,.sl 107 (.pr (.i .i64) (.pr (.i .i64) .b)))]⟩,[20,2,24,4,1,18,3],[],2,false,""⟩),(166,⟨⟨[],[]⟩,⟨[(199,.c .b)],[]⟩,[1,20,18,4,24,3],[0],2,false,""⟩),(797,⟨⟨[],[(0,.sl 107 (.pr (.i .i64) (.pr (.i .i64) .b)))]⟩,⟨[],[(0,.sl 107 (.pr (.i .i64) (.pr (.i .i64) .b)))]⟩,[1,20,18,4,24,3],[],3,false,""⟩)]) ((106,⟨ "",[],[],fun _=>none,[kbe k],[]⟩)::[(108,kct)]) (.cons (good_dm.more (kbO k)) <| .cons kes <| .nil) (fun x=>by kernel_rfl)
def slices_symMergeCmpFunc_api_Swing_m4_M:CtrM:=⟨ "",[none,some (.i .i64),some (.i .i64),some (.i .i64),some (.fn 2 (.pr (.pr (.i .i64) (.pr (.i .i64) .b)) (.pr (.i .i64) (.pr (.i .i64) .b))) (.i .i64))],⟨[(0,.mw 0)],[(0,.sl 107 (.pr (.i .i64) (.pr (.i .i64) .b)))]⟩,1,⟨[(0,.mw 0)],[(0,.sl 107 (.pr (.i .i64) (.pr (.i .i64) .b)))]⟩,1,0,fun x=>kat x.1 x.2.1 x.2.2.1 x.2.2.2.1 x.2.2.2.2⟩
theorem kds:slices_symMergeCmpFunc_api_Swing_m4_M.ok=true∧GoodM Try.prog 106 slices_symMergeCmpFunc_api_Swing_m4_M:=kbO 1000000
def slices_symMergeCmpFunc_api_Swing_C:Ctr:=⟨ "",[],[],fun _=>none,[],[]⟩
theorem slices_symMergeCmpFunc_api_Swing_C_ok:Good Try.prog 106 slices_symMergeCmpFunc_api_Swing_C:=good_dm
def kcd:Ctr:=⟨ "",slices_symMergeCmpFunc_api_Swing_C.as,slices_symMergeCmpFunc_api_Swing_C.rs,slices_symMergeCmpFunc_api_Swing_C.F,slices_symMergeCmpFunc_api_Swing_m4_M::slices_symMergeCmpFunc_api_Swing_C.mus,slices_symMergeCmpFunc_api_Swing_C.its⟩
theorem kdZ:Good Try.prog 106 kcd:=slices_symMergeCmpFunc_api_Swing_C_ok.more kds
def slices_stableCmpFunc_api_Swing_m5_M:CtrM:=⟨ "",[none,some (.i .i64),some (.fn 2 (.pr (.pr (.i .i64) (.pr (.i .i64) .b)) (.pr (.i .i64) (.pr (.i .i64) .b))) (.i .i64))],⟨[(0,.mw 0)],[(0,.sl 107 (.pr (.i .i64) (.pr (.i .i64) .b)))]⟩,1,⟨[(0,.mw 0)],[(0,.sl 107 (.pr (.i .i64) (.pr (.i .i64) .b)))]⟩,1,0,fun x=>kaU x.1 x.2.1 x.2.2⟩
theorem kdV:slices_stableCmpFunc_api_Swing_m5_M.ok=true∧GoodM Try.prog 98 slices_stableCmpFunc_api_Swing_m5_M:=
 kbu Try.func98 (by kernel_rfl) (An:=[(0,⟨⟨[(8,.c (.i .i64)),(7,.c (.i .i64))],[(0,.sl 107 (.pr (.i .i64) (.pr (.i .i64) .b)))]⟩,⟨[(7,.c (.i .i64))],[(0,.sl 107 (.pr (.i .i64) (.pr (.i .i64) .b)))]⟩,[1,2,6],[],2,false,""⟩),(8,⟨⟨[(6,.c (.i .i64))],[(0,.sl 107 (.pr (.i .i64) (.pr (.i .i64) .b)))]⟩,⟨[],[(0,.sl 107 (.pr (.i .i64) (.pr (.i .i64) .b)))]⟩,[1,2],[],3,false,""⟩),(16,⟨⟨[(8,.c (.i .i64)),(7,.c (.i .i64))],[(0,.sl 107 (.pr (.i .i64) (.pr (.i .i64) .b)))]⟩,⟨[(7,.c (.i .i64))],[(0,.sl 107 (.pr (.i .i64) (.pr (.i .i64) .b)))]⟩,[6],[],3,false,""⟩)]) [(106,kcd),(105,kbM)] (.cons kdZ <| .cons kcY <| .nil) (fun x=>by kernel_rfl)
def slices_stableCmpFunc_api_Swing_C:Ctr:=⟨ "",[],[],fun _=>none,[],[]⟩
theorem slices_stableCmpFunc_api_Swing_C_ok:Good Try.prog 98 slices_stableCmpFunc_api_Swing_C:=good_dm
def kcs:Ctr:=⟨ "",slices_stableCmpFunc_api_Swing_C.as,slices_stableCmpFunc_api_Swing_C.rs,slices_stableCmpFunc_api_Swing_C.F,slices_stableCmpFunc_api_Swing_m5_M::slices_stableCmpFunc_api_Swing_C.mus,slices_stableCmpFunc_api_Swing_C.its⟩
theorem kep:Good Try.prog 98 kcs:=slices_stableCmpFunc_api_Swing_C_ok.more kdV
def slices_SortStableFunc_s_api_Swing_api_Swing_m6_M:CtrM:=⟨ "",[none,some (.fn 2 (.pr (.pr (.i .i64) (.pr (.i .i64) .b)) (.pr (.i .i64) (.pr (.i .i64) .b))) (.i .i64))],⟨[(0,.mw 0)],[(0,.sl 107 (.pr (.i .i64) (.pr (.i .i64) .b)))]⟩,1,⟨[(0,.mw 0)],[(0,.sl 107 (.pr (.i .i64) (.pr (.i .i64) .b)))]⟩,1,0,fun x=>kaK x.1 x.2⟩
theorem kcm:slices_SortStableFunc_s_api_Swing_api_Swing_m6_M.ok=true∧GoodM Try.prog 91 slices_SortStableFunc_s_api_Swing_api_Swing_m6_M:=
 kbu Try.func91 (by kernel_rfl) (An:=[]) [(98,kcs)] (.cons kep <| .nil) (fun x=>by kernel_rfl)
def slices_SortStableFunc_s_api_Swing_api_Swing_C:Ctr:=⟨ "",[],[],fun _=>none,[],[]⟩
theorem slices_SortStableFunc_s_api_Swing_api_Swing_C_ok:Good Try.prog 91 slices_SortStableFunc_s_api_Swing_api_Swing_C:=good_dm
def kbt:Ctr:=⟨ "",slices_SortStableFunc_s_api_Swing_api_Swing_C.as,slices_SortStableFunc_s_api_Swing_api_Swing_C.rs,slices_SortStableFunc_s_api_Swing_api_Swing_C.F,slices_SortStableFunc_s_api_Swing_api_Swing_m6_M::slices_SortStableFunc_s_api_Swing_api_Swing_C.mus,slices_SortStableFunc_s_api_Swing_api_Swing_C.its⟩
theorem kcx:Good Try.prog 91 kbt:=slices_SortStableFunc_s_api_Swing_api_Swing_C_ok.more kcm
def sort_ordered_api_Swing_m7_M:CtrM:=⟨ "",[none,some (.fn 2 (.pr (.pr (.i .i64) (.pr (.i .i64) .b)) (.pr (.i .i64) (.pr (.i .i64) .b))) (.i .i64))],⟨[(0,.mw 0)],[(0,.sl 107 (.pr (.i .i64) (.pr (.i .i64) .b)))]⟩,1,⟨[(0,.mw 0),(1000000,.mw 0)],[(0,.sl 107 (.pr (.i .i64) (.pr (.i .i64) .b)))]⟩,1,1,fun x=>kbH x.1 x.2⟩
theorem kfz:sort_ordered_api_Swing_m7_M.ok=true∧GoodM Try.prog 72 sort_ordered_api_Swing_m7_M:=
 kbu Try.func72 (by kernel_rfl) (An:=[]) [(91,kbt)] (.cons kcx <| .nil) (fun x=>by kernel_rfl)
def sort_ordered_api_Swing_C:Ctr:=⟨ "",[],[],fun _=>none,[],[]⟩
theorem sort_ordered_api_Swing_C_ok:Good Try.prog 72 sort_ordered_api_Swing_C:=good_dm
def keb:Ctr:=⟨ "",sort_ordered_api_Swing_C.as,sort_ordered_api_Swing_C.rs,sort_ordered_api_Swing_C.F,sort_ordered_api_Swing_m7_M::sort_ordered_api_Swing_C.mus,sort_ordered_api_Swing_C.its⟩
theorem kfT:Good Try.prog 72 keb:=sort_ordered_api_Swing_C_ok.more kfz
def kgl:Ctr:=⟨ "",[tBelt,(.sl tFed)],[(.sl (.pr (.i .i64) (.pr (.i .i64) .b))),(.i .i64)],fun x=>kbX x.1 x.2,[],[]⟩
theorem kgO:Good Try.prog 41 kgl:=
 kak Try.func41 (by kernel_rfl) (An:=[(0,⟨⟨[],[(3,.bx 56 [.mw 2]),(2,.sl 107 (.pr (.i .i64) (.pr (.i .i64) .b)))]⟩,⟨[],[(3,.bx 56 [.mw 6]),(6,.sl 107 (.pr (.i .i64) (.pr (.i .i64) .b)))]⟩,[22,8,2],[0],7,false,""⟩)]) [(72,keb),(73,kjg),(70,kdj),(88,kbR),(59,kik)] (.cons kfT <| .cons klO <| .cons kew <| .cons kce <| .cons kiQ <| .nil) (fun x=>by kernel_rfl)
def kiN:Ctr:=⟨ "",[],[(.sl (.sl (.i .i64)))],fun x=>law09_table,[],[]⟩
theorem kkM:Good Try.prog 79 kiN:=
 kak Try.func79 (by kernel_rfl) (An:=[]) [] (.nil) (fun x=>by kernel_rfl)
def kgs:Ctr:=⟨ "",[(.sl (.sl (.i .i64)))],[(.i .i64)],fun x=>khq x,[],[]⟩
theorem kiz:Good Try.prog 28 kgs:=
 kak Try.func28 (by kernel_rfl) (An:=[(0,⟨⟨[(15,.c (.i .i64))],[]⟩,⟨[],[]⟩,[14,13,0],[],1,true,""⟩),(8,⟨⟨[(32,.c (.i .i64)),(5,.c (.i .i64))],[]⟩,⟨[(5,.c (.i .i64))],[]⟩,[31,30,15],[],1,false,""⟩)]) [(54,kcU)] (.cons kcz <| .nil) (fun x=>by kernel_rfl)
def kdi (k:Nat):CtrM:=⟨ "",[some (.i .i64),some (.i .i64),none,none,none,none,none,none],⟨[(2,.ptr 0 0),(3,.ptr 1 0),(4,.ptr 3 0),(5,.ptr 4 0),(6,.ptr 6 0),(7,.ptr 7 0)],[(0,.bx 3 [.c (.i .i64)]),(1,.bx 23 [.mw 2]),(2,.sl 3 (.i .i64)),(3,.bx 3 [.c (.i .i64)]),(4,.bx 23 [.mw 5]),(5,.sl 3 (.i .i64)),(6,.bx 23 [.c (.sl (.i .i64))]),(7,.bx 133 [.fn 83 [.ptr 0 0,.ptr 1 0,.ptr 3 0,.ptr 4 0,.ptr 6 0,.ptr 7 0]])]⟩,8,⟨[(2,.ptr 0 0),(3,.ptr 1 0),(4,.ptr 3 0),(5,.ptr 4 0),(6,.ptr 6 0),(7,.ptr 7 0)],[(0,.bx 3 [.c (.i .i64)]),(1,.bx 23 [.mw 8]),(8,.sl 3 (.i .i64)),(3,.bx 3 [.c (.i .i64)]),(4,.bx 23 [.mw 9]),(9,.sl 3 (.i .i64)),(6,.bx 23 [.c (.sl (.i .i64))]),(7,.bx 133 [.fn 83 [.ptr 0 0,.ptr 1 0,.ptr 3 0,.ptr 4 0,.ptr 6 0,.ptr 7 0]])]⟩,10,0,fun x=>kdt k x.1 x.2.1 x.2.2.1 x.2.2.2.1 x.2.2.2.2.1 x.2.2.2.2.2.1 x.2.2.2.2.2.2⟩
theorem keT:∀ k,(kdi k).ok=true∧GoodM Try.prog 83 (kdi k)
 | 0=>kiI (by kernel_rfl) (fun x=>rfl)
 | k+1=>kbu Try.func83 (by kernel_rfl) (An:=[(77,⟨⟨[],[]⟩,⟨[(10,.c (.i .i64))],[]⟩,[1],[3,4,5,0,1,2,6,7],8,false,""⟩),(0,⟨⟨[(30,.c (.i .i64))],[(1,.bx 23 [.mw 2]),(2,.sl 3 (.i .i64)),(3,.bx 3 [.c (.i .i64)]),(7,.bx 133 [.fn 83 [.ptr 0 0,.ptr 1 0,.ptr 3 0,.ptr 4 0,.ptr 6 0,.ptr 7 0]]),(0,.bx 3 [.c (.i .i64)]),(4,.bx 23 [.mw 5]),(5,.sl 3 (.i .i64)),(6,.bx 23 [.c (.sl (.i .i64))])]⟩,⟨[],[(1,.bx 23 [.mw 9]),(9,.sl 3 (.i .i64)),(3,.bx 3 [.c (.i .i64)]),(7,.bx 133 [.fn 83 [.ptr 0 0,.ptr 1 0,.ptr 3 0,.ptr 4 0,.ptr 6 0,.ptr 7 0]]),(0,.bx 3 [.c (.i .i64)]),(4,.bx 23 [.mw 14]),(14,.sl 3 (.i .i64)),(6,.bx 23 [.c (.sl (.i .i64))])]⟩,[29,28,0,1],[],16,false,""⟩),(173,⟨⟨[],[(2,.sl 3 (.i .i64))]⟩,⟨[],[(2,.sl 3 (.i .i64))]⟩,[12,30],[1,7,0,3,4,5,6],9,false,""⟩)]) ((83,⟨ "",[],[],fun _=>none,[kdi k],[]⟩)::[(51,kfV)]) (.cons (good_dm.more (keT k)) <| .cons kfM <| .nil) (fun x=>by kernel_rfl)
def sort_chances_c1_m8_M:CtrM:=⟨ "",[some (.i .i64),some (.i .i64),none,none,none,none,none,none],⟨[(2,.ptr 0 0),(3,.ptr 1 0),(4,.ptr 3 0),(5,.ptr 4 0),(6,.ptr 6 0),(7,.ptr 7 0)],[(0,.bx 3 [.c (.i .i64)]),(1,.bx 23 [.mw 2]),(2,.sl 3 (.i .i64)),(3,.bx 3 [.c (.i .i64)]),(4,.bx 23 [.mw 5]),(5,.sl 3 (.i .i64)),(6,.bx 23 [.c (.sl (.i .i64))]),(7,.bx 133 [.fn 83 [.ptr 0 0,.ptr 1 0,.ptr 3 0,.ptr 4 0,.ptr 6 0,.ptr 7 0]])]⟩,8,⟨[(2,.ptr 0 0),(3,.ptr 1 0),(4,.ptr 3 0),(5,.ptr 4 0),(6,.ptr 6 0),(7,.ptr 7 0)],[(0,.bx 3 [.c (.i .i64)]),(1,.bx 23 [.mw 8]),(8,.sl 3 (.i .i64)),(3,.bx 3 [.c (.i .i64)]),(4,.bx 23 [.mw 9]),(9,.sl 3 (.i .i64)),(6,.bx 23 [.c (.sl (.i .i64))]),(7,.bx 133 [.fn 83 [.ptr 0 0,.ptr 1 0,.ptr 3 0,.ptr 4 0,.ptr 6 0,.ptr 7 0]])]⟩,10,0,fun x=>kgg x.1 x.2.1 x.2.2.1 x.2.2.2.1 x.2.2.2.2.1 x.2.2.2.2.2.1 x.2.2.2.2.2.2⟩
theorem khk:sort_chances_c1_m8_M.ok=true∧GoodM Try.prog 83 sort_chances_c1_m8_M:=keT 1000000
def sort_chances_c1_C:Ctr:=⟨ "",[],[],fun _=>none,[],[]⟩
theorem sort_chances_c1_C_ok:Good Try.prog 83 sort_chances_c1_C:=good_dm
def kgk:Ctr:=⟨ "",sort_chances_c1_C.as,sort_chances_c1_C.rs,sort_chances_c1_C.F,sort_chances_c1_m8_M::sort_chances_c1_C.mus,sort_chances_c1_C.its⟩
theorem khZ:Good Try.prog 83 kgk:=sort_chances_c1_C_ok.more khk
def khM:Ctr:=⟨ "",[(.sl (.i .i64)),(.i .i64)],[(.sl (.i .i64))],fun x=>kjH x.1 x.2,[],[]⟩
theorem kkj:Good Try.prog 55 khM:=
 kak Try.func55 (by kernel_rfl) (An:=[]) [(83,kgk)] (.cons khZ <| .nil) (fun x=>by kernel_rfl)
def kic:Ctr:=⟨ "",[(.sl (.sl (.i .i64))),(.i .i64),(.i .i64)],[(.sl (.i .i64)),(.i .i64)],fun x=>kjD x.1 x.2.1 x.2.2,[],[]⟩
theorem kkh:Good Try.prog 24 kic:=
 kak Try.func24 (by kernel_rfl) (An:=[]) [(55,khM),(28,kgs),(54,kcU)] (.cons kkj <| .cons kiz <| .cons kcz <| .nil) (fun x=>by kernel_rfl)
def khx:Ctr:=⟨ "",[(.sl (.i .i64)),(.i .i64)],[.b],fun x=>kiP x.1 x.2,[],[]⟩
theorem kjq:Good Try.prog 65 khx:=
 kak Try.func65 (by kernel_rfl) (An:=[]) [(54,kcU)] (.cons kcz <| .nil) (fun x=>by kernel_rfl)
def kih:Ctr:=⟨ "",[tPile,tPile],[(.i .i64)],fun x=>kgP x.1 x.2,[],[]⟩
theorem kkk:Good Try.prog 66 kih:=
 kak Try.func66 (by kernel_rfl) (An:=[]) [(67,kgW)] (.cons khu <| .nil) (fun x=>by kernel_rfl)
def kaQ:Ctr:=⟨ "",[(.sl tPile),tPile,(.fn 2 (.pr tPile tPile) (.i .i64))],[(.i .i64),.b],fun x=>kaT x.1 x.2.1 x.2.2,[],[]⟩
theorem kbL:Good Try.prog 69 kaQ:=
 kak Try.func69 (by kernel_rfl) (An:=[(0,⟨⟨[(9,.c (.i .i64)),(10,.c (.i .i64))],[]⟩,⟨[(9,.c (.i .i64))],[]⟩,[2,0,4,8],[0],1,false,""⟩)]) [] (.nil) (fun x=>by kernel_rfl)
def slices_insertionSortCmpFunc_sort_pile_m9_M:CtrM:=⟨ "",[none,some (.i .i64),some (.i .i64),some (.fn 2 (.pr tPile tPile) (.i .i64))],⟨[(0,.mw 0)],[(0,.sl 114 tPile)]⟩,1,⟨[(0,.mw 0)],[(0,.sl 114 tPile)]⟩,1,0,fun x=>kaX x.1 x.2.1 x.2.2.1 x.2.2.2⟩
theorem kcR:slices_insertionSortCmpFunc_sort_pile_m9_M.ok=true∧GoodM Try.prog 100 slices_insertionSortCmpFunc_sort_pile_m9_M:=
 kbu Try.func100 (by kernel_rfl) (An:=[(0,⟨⟨[(8,.c (.i .i64))],[(0,.sl 114 tPile)]⟩,⟨[],[(0,.sl 114 tPile)]⟩,[2,1,3],[],2,false,""⟩),(8,⟨⟨[(9,.c (.i .i64))],[(0,.sl 114 tPile)]⟩,⟨[],[(0,.sl 114 tPile)]⟩,[8],[],2,false,""⟩),(27,⟨⟨[],[]⟩,⟨[],[]⟩,[],[],0,false,""⟩)]) [] (.nil) (fun x=>by kernel_rfl)
def slices_insertionSortCmpFunc_sort_pile_C:Ctr:=⟨ "",[],[],fun _=>none,[],[]⟩
theorem slices_insertionSortCmpFunc_sort_pile_C_ok:Good Try.prog 100 slices_insertionSortCmpFunc_sort_pile_C:=good_dm
def kbK:Ctr:=⟨ "",slices_insertionSortCmpFunc_sort_pile_C.as,slices_insertionSortCmpFunc_sort_pile_C.rs,slices_insertionSortCmpFunc_sort_pile_C.F,slices_insertionSortCmpFunc_sort_pile_m9_M::slices_insertionSortCmpFunc_sort_pile_C.mus,slices_insertionSortCmpFunc_sort_pile_C.its⟩
theorem kcX:Good Try.prog 100 kbK:=slices_insertionSortCmpFunc_sort_pile_C_ok.more kcR
def slices_swapRangeCmpFunc_sort_pile_m10_M:CtrM:=⟨ "",[none,some (.i .i64),some (.i .i64),some (.i .i64),some (.fn 2 (.pr tPile tPile) (.i .i64))],⟨[(0,.mw 0)],[(0,.sl 114 tPile)]⟩,1,⟨[(0,.mw 0)],[(0,.sl 114 tPile)]⟩,1,0,fun x=>kaH x.1 x.2.1 x.2.2.1 x.2.2.2.1 x.2.2.2.2⟩
theorem kdh:slices_swapRangeCmpFunc_sort_pile_m10_M.ok=true∧GoodM Try.prog 109 slices_swapRangeCmpFunc_sort_pile_m10_M:=
 kbu Try.func109 (by kernel_rfl) (An:=[(0,⟨⟨[(10,.c (.i .i64))],[(0,.sl 114 tPile)]⟩,⟨[],[(0,.sl 114 tPile)]⟩,[3,1,2],[],2,false,""⟩),(15,⟨⟨[],[]⟩,⟨[],[]⟩,[],[],0,false,""⟩)]) [] (.nil) (fun x=>by kernel_rfl)
def slices_swapRangeCmpFunc_sort_pile_C:Ctr:=⟨ "",[],[],fun _=>none,[],[]⟩
theorem slices_swapRangeCmpFunc_sort_pile_C_ok:Good Try.prog 109 slices_swapRangeCmpFunc_sort_pile_C:=good_dm
def kbW:Ctr:=⟨ "",slices_swapRangeCmpFunc_sort_pile_C.as,slices_swapRangeCmpFunc_sort_pile_C.rs,slices_swapRangeCmpFunc_sort_pile_C.F,slices_swapRangeCmpFunc_sort_pile_m10_M::slices_swapRangeCmpFunc_sort_pile_C.mus,slices_swapRangeCmpFunc_sort_pile_C.its⟩
theorem kdv:Good Try.prog 109 kbW:=slices_swapRangeCmpFunc_sort_pile_C_ok.more kdh
def slices_rotateCmpFunc_sort_pile_m11_M:CtrM:=⟨ "",[none,some (.i .i64),some (.i .i64),some (.i .i64),some (.fn 2 (.pr tPile tPile) (.i .i64))],⟨[(0,.mw 0)],[(0,.sl 114 tPile)]⟩,1,⟨[(0,.mw 0)],[(0,.sl 114 tPile)]⟩,1,0,fun x=>kck x.1 x.2.1 x.2.2.1 x.2.2.2.1 x.2.2.2.2⟩
theorem kdC:slices_rotateCmpFunc_sort_pile_m11_M.ok=true∧GoodM Try.prog 107 slices_rotateCmpFunc_sort_pile_m11_M:=
 kbu Try.func107 (by kernel_rfl) (An:=[(0,⟨⟨[(10,.c (.i .i64)),(11,.c (.i .i64))],[(0,.sl 114 tPile)]⟩,⟨[(10,.c (.i .i64))],[(0,.sl 114 tPile)]⟩,[2,4],[],2,false,""⟩)]) [(109,kbW)] (.cons kdv <| .nil) (fun x=>by kernel_rfl)
def slices_rotateCmpFunc_sort_pile_C:Ctr:=⟨ "",[],[],fun _=>none,[],[]⟩
theorem slices_rotateCmpFunc_sort_pile_C_ok:Good Try.prog 107 slices_rotateCmpFunc_sort_pile_C:=good_dm
def kci:Ctr:=⟨ "",slices_rotateCmpFunc_sort_pile_C.as,slices_rotateCmpFunc_sort_pile_C.rs,slices_rotateCmpFunc_sort_pile_C.F,slices_rotateCmpFunc_sort_pile_m11_M::slices_rotateCmpFunc_sort_pile_C.mus,slices_rotateCmpFunc_sort_pile_C.its⟩
theorem kef:Good Try.prog 107 kci:=slices_rotateCmpFunc_sort_pile_C_ok.more kdC
def kaY (k:Nat):CtrM:=⟨ "",[none,some (.i .i64),some (.i .i64),some (.i .i64),some (.fn 2 (.pr tPile tPile) (.i .i64))],⟨[(0,.mw 0)],[(0,.sl 114 tPile)]⟩,1,⟨[(0,.mw 0)],[(0,.sl 114 tPile)]⟩,1,0,fun x=>kbd k x.1 x.2.1 x.2.2.1 x.2.2.2.1 x.2.2.2.2⟩
theorem kbI:∀ k,(kaY k).ok=true∧GoodM Try.prog 101 (kaY k)
 | 0=>kiI (by kernel_rfl) (fun x=>rfl)
 | k+1=>kbu Try.func101 (by kernel_rfl) (An:=[(0,⟨⟨[(10,.c (.i .i64)),(11,.c (.i .i64))],[]⟩,⟨[(10,.c (.i .i64))],[]⟩,[4,1],[0],1,false,""⟩),(8,⟨⟨[(13,.c (.i .i64))],[(0,.sl 114 tPile)]⟩,⟨[],[(0,.sl 114 tPile)]⟩,[10],[],2,false,""⟩),(47,⟨⟨[],[]⟩,⟨[],[]⟩,[],[],0,false,""⟩),(16,⟨⟨[(14,.c (.i .i64)),(15,.c (.i .i64))],[]⟩,⟨[(14,.c (.i .i64))],[]⟩,[4,2],[0],1,false,""⟩),(24,⟨⟨[(17,.c (.i .i64))],[(0,.sl 114 tPile)]⟩,⟨[],[(0,.sl 114 tPile)]⟩,[14],[],2,false,""⟩),(95,⟨⟨[],[]⟩,⟨[],[]⟩,[],[],0,false,""⟩),(561,⟨⟨[],[]⟩,⟨[(20,.c (.i .i64)),(21,.c (.i .i64))],[]⟩,[19,3,18,4,2,1],[0],1,false,""⟩),(32,⟨⟨[(20,.c (.i .i64)),(21,.c (.i .i64))],[]⟩,⟨[(20,.c (.i .i64))],[]⟩,[4,22,19,2,1,18,3],[0],1,false,""⟩),(158,⟨⟨[],[]⟩,⟨[(185,.c .b)],[]⟩,[20,2,24,4,1,18,3],[0],1,false,""⟩),(741,⟨⟨[],[(0,.sl 114 tPile)]⟩,⟨[],[(0,.sl 114 tPile)]⟩,[20,2,24,4,1,18,3],[],2,false,""⟩),(166,⟨⟨[],[]⟩,⟨[(199,.c .b)],[]⟩,[1,20,18,4,24,3],[0],2,false,""⟩),(797,⟨⟨[],[(0,.sl 114 tPile)]⟩,⟨[],[(0,.sl 114 tPile)]⟩,[1,20,18,4,24,3],[],3,false,""⟩)]) ((101,⟨ "",[],[],fun _=>none,[kaY k],[]⟩)::[(107,kci)]) (.cons (good_dm.more (kbI k)) <| .cons kef <| .nil) (fun x=>by kernel_rfl)
def slices_symMergeCmpFunc_sort_pile_m12_M:CtrM:=⟨ "",[none,some (.i .i64),some (.i .i64),some (.i .i64),some (.fn 2 (.pr tPile tPile) (.i .i64))],⟨[(0,.mw 0)],[(0,.sl 114 tPile)]⟩,1,⟨[(0,.mw 0)],[(0,.sl 114 tPile)]⟩,1,0,fun x=>kbo x.1 x.2.1 x.2.2.1 x.2.2.2.1 x.2.2.2.2⟩
theorem kdm:slices_symMergeCmpFunc_sort_pile_m12_M.ok=true∧GoodM Try.prog 101 slices_symMergeCmpFunc_sort_pile_m12_M:=kbI 1000000
def slices_symMergeCmpFunc_sort_pile_C:Ctr:=⟨ "",[],[],fun _=>none,[],[]⟩
theorem slices_symMergeCmpFunc_sort_pile_C_ok:Good Try.prog 101 slices_symMergeCmpFunc_sort_pile_C:=good_dm
def kcc:Ctr:=⟨ "",slices_symMergeCmpFunc_sort_pile_C.as,slices_symMergeCmpFunc_sort_pile_C.rs,slices_symMergeCmpFunc_sort_pile_C.F,slices_symMergeCmpFunc_sort_pile_m12_M::slices_symMergeCmpFunc_sort_pile_C.mus,slices_symMergeCmpFunc_sort_pile_C.its⟩
theorem kdK:Good Try.prog 101 kcc:=slices_symMergeCmpFunc_sort_pile_C_ok.more kdm
def slices_stableCmpFunc_sort_pile_m13_M:CtrM:=⟨ "",[none,some (.i .i64),some (.fn 2 (.pr tPile tPile) (.i .i64))],⟨[(0,.mw 0)],[(0,.sl 114 tPile)]⟩,1,⟨[(0,.mw 0)],[(0,.sl 114 tPile)]⟩,1,0,fun x=>kcn x.1 x.2.1 x.2.2⟩
theorem kdP:slices_stableCmpFunc_sort_pile_m13_M.ok=true∧GoodM Try.prog 94 slices_stableCmpFunc_sort_pile_m13_M:=
 kbu Try.func94 (by kernel_rfl) (An:=[(0,⟨⟨[(8,.c (.i .i64)),(7,.c (.i .i64))],[(0,.sl 114 tPile)]⟩,⟨[(7,.c (.i .i64))],[(0,.sl 114 tPile)]⟩,[1,2,6],[],2,false,""⟩),(8,⟨⟨[(6,.c (.i .i64))],[(0,.sl 114 tPile)]⟩,⟨[],[(0,.sl 114 tPile)]⟩,[1,2],[],3,false,""⟩),(16,⟨⟨[(8,.c (.i .i64)),(7,.c (.i .i64))],[(0,.sl 114 tPile)]⟩,⟨[(7,.c (.i .i64))],[(0,.sl 114 tPile)]⟩,[6],[],3,false,""⟩)]) [(101,kcc),(100,kbK)] (.cons kdK <| .cons kcX <| .nil) (fun x=>by kernel_rfl)
def slices_stableCmpFunc_sort_pile_C:Ctr:=⟨ "",[],[],fun _=>none,[],[]⟩
theorem slices_stableCmpFunc_sort_pile_C_ok:Good Try.prog 94 slices_stableCmpFunc_sort_pile_C:=good_dm
def kcl:Ctr:=⟨ "",slices_stableCmpFunc_sort_pile_C.as,slices_stableCmpFunc_sort_pile_C.rs,slices_stableCmpFunc_sort_pile_C.F,slices_stableCmpFunc_sort_pile_m13_M::slices_stableCmpFunc_sort_pile_C.mus,slices_stableCmpFunc_sort_pile_C.its⟩
theorem keg:Good Try.prog 94 kcl:=slices_stableCmpFunc_sort_pile_C_ok.more kdP
def slices_SortStableFunc_s_sort_pile_sort_pile_m14_M:CtrM:=⟨ "",[none,some (.fn 2 (.pr tPile tPile) (.i .i64))],⟨[(0,.mw 0)],[(0,.sl 114 tPile)]⟩,1,⟨[(0,.mw 0)],[(0,.sl 114 tPile)]⟩,1,0,fun x=>kbr x.1 x.2⟩
theorem kcf:slices_SortStableFunc_s_sort_pile_sort_pile_m14_M.ok=true∧GoodM Try.prog 87 slices_SortStableFunc_s_sort_pile_sort_pile_m14_M:=
 kbu Try.func87 (by kernel_rfl) (An:=[]) [(94,kcl)] (.cons keg <| .nil) (fun x=>by kernel_rfl)
def slices_SortStableFunc_s_sort_pile_sort_pile_C:Ctr:=⟨ "",[],[],fun _=>none,[],[]⟩
theorem slices_SortStableFunc_s_sort_pile_sort_pile_C_ok:Good Try.prog 87 slices_SortStableFunc_s_sort_pile_sort_pile_C:=good_dm
def kbq:Ctr:=⟨ "",slices_SortStableFunc_s_sort_pile_sort_pile_C.as,slices_SortStableFunc_s_sort_pile_sort_pile_C.rs,slices_SortStableFunc_s_sort_pile_sort_pile_C.F,slices_SortStableFunc_s_sort_pile_sort_pile_m14_M::slices_SortStableFunc_s_sort_pile_sort_pile_C.mus,slices_SortStableFunc_s_sort_pile_sort_pile_C.its⟩
theorem kcp:Good Try.prog 87 kbq:=slices_SortStableFunc_s_sort_pile_sort_pile_C_ok.more kcf
def sort_ordered_sort_pile_m15_M:CtrM:=⟨ "",[none,some (.fn 2 (.pr tPile tPile) (.i .i64))],⟨[(0,.mw 0)],[(0,.sl 114 tPile)]⟩,1,⟨[(0,.mw 0),(1000000,.mw 0)],[(0,.sl 114 tPile)]⟩,1,1,fun x=>kdO x.1 x.2⟩
theorem kfk:sort_ordered_sort_pile_m15_M.ok=true∧GoodM Try.prog 68 sort_ordered_sort_pile_m15_M:=
 kbu Try.func68 (by kernel_rfl) (An:=[]) [(87,kbq)] (.cons kcp <| .nil) (fun x=>by kernel_rfl)
def sort_ordered_sort_pile_C:Ctr:=⟨ "",[],[],fun _=>none,[],[]⟩
theorem sort_ordered_sort_pile_C_ok:Good Try.prog 68 sort_ordered_sort_pile_C:=good_dm
def kdE:Ctr:=⟨ "",sort_ordered_sort_pile_C.as,sort_ordered_sort_pile_C.rs,sort_ordered_sort_pile_C.F,sort_ordered_sort_pile_m15_M::sort_ordered_sort_pile_C.mus,sort_ordered_sort_pile_C.its⟩
theorem kfB:Good Try.prog 68 kdE:=sort_ordered_sort_pile_C_ok.more kfk
def kkB:Ctr:=⟨ "",[(.sl (.i .i64)),(.i .i64)],[(.sl (.i .i64)),(.i .i64),(.i .i64)],fun x=>kmR x.1 x.2,[],[]⟩
theorem kmD:Good Try.prog 36 kkB:=
 kak Try.func36 (by kernel_rfl) (An:=[(0,⟨⟨[(28,.c (.i .i64)),(7,.mw 1)],[(1,.sl 114 tPile)]⟩,⟨[(7,.mw 2)],[(2,.sl 114 tPile)]⟩,[27,26,1,0],[],3,false,""⟩),(8,⟨⟨[(7,.mw 2)],[(2,.sl 114 tPile)]⟩,⟨[(7,.mw 3)],[(3,.sl 114 tPile)]⟩,[1,0],[],4,false,""⟩),(16,⟨⟨[(7,.mw 3),(10,.mw 4),(11,.c (.i .i64))],[(3,.sl 114 tPile),(4,.sl 3 (.i .i64))]⟩,⟨[(10,.mw 5),(11,.c (.i .i64))],[(5,.sl 3 (.i .i64))]⟩,[1,12],[],6,false,""⟩),(24,⟨⟨[(65,.c (.i .i64)),(13,.ptr 6 0)],[(6,.bx 114 [.c (.i .i64),.mw 5]),(5,.sl 3 (.i .i64))]⟩,⟨[(13,.ptr 7 0)],[(7,.bx 114 [.c (.i .i64),.mw 8]),(8,.sl 3 (.i .i64))]⟩,[64,63,10,11,7],[4,3],9,false,""⟩),(32,⟨⟨[(85,.c (.i .i64)),(10,.mw 4)],[(4,.sl 3 (.i .i64))]⟩,⟨[(10,.mw 9)],[(9,.sl 3 (.i .i64))]⟩,[84,83,11,13,7],[8,7,3],10,false,""⟩)]) [(68,kdE),(69,kaQ),(66,kih),(65,khx)] (.cons kfB <| .cons kbL <| .cons kkk <| .cons kjq <| .nil) (fun x=>by kernel_rfl)
def kgt:Ctr:=⟨ "",[(.sl (.pr (.i .i64) (.pr (.i .i64) (.i .i64)))),(.sl (.pr (.i .i64) (.pr (.i .i64) (.i .i64))))],[.b],fun x=>kfv x.1 x.2,[],[]⟩
theorem kiD:Good Try.prog 33 kgt:=
 kak Try.func33 (by kernel_rfl) (An:=[(0,⟨⟨[(5,.c (.i .i64))],[]⟩,⟨[],[]⟩,[0,1],[],0,true,""⟩)]) [] (.nil) (fun x=>by kernel_rfl)
def kel:Ctr:=⟨ "",[(.sl (.pr (.i .i64) (.pr (.i .i64) .b))),(.sl (.pr (.i .i64) (.pr (.i .i64) .b)))],[.b],fun x=>kcD x.1 x.2,[],[]⟩
theorem kfi:Good Try.prog 43 kel:=
 kak Try.func43 (by kernel_rfl) (An:=[(0,⟨⟨[(5,.c (.i .i64))],[]⟩,⟨[],[]⟩,[0,1],[],0,true,""⟩)]) [] (.nil) (fun x=>by kernel_rfl)
def kgH:Ctr:=⟨ "",[(.sl (.i .i64)),(.sl (.i .i64))],[.b],fun x=>khY x.1 x.2,[],[]⟩
theorem kiT:Good Try.prog 30 kgH:=
 kak Try.func30 (by kernel_rfl) (An:=[(0,⟨⟨[(5,.c (.i .i64))],[]⟩,⟨[],[]⟩,[0,1],[],0,true,""⟩)]) [] (.nil) (fun x=>by kernel_rfl)
def khO:Ctr:=⟨ "",[],[.b],fun x=>kjm,[],[]⟩
theorem kkg:Good Try.prog 44 khO:=
 kak Try.func44 (by kernel_rfl) (An:=[]) [(30,kgH),(43,kel),(33,kgt),(36,kkB),(24,kic),(79,kiN),(41,kgl),(39,kkx),(78,kkD),(77,kjR)] (.cons kiT <| .cons kfi <| .cons kiD <| .cons kmD <| .cons kkh <| .cons kkM <| .cons kgO <| .cons kmc <| .cons kmu <| .cons klG <| .nil) (fun x=>by kernel_rfl)
def kiL:Ctr:=⟨ "",[],[.b],fun x=>law09_alive,[],[]⟩
theorem kkX:Good Try.prog 44 kiL:=by
 have h:=kkg
 unfold khO at h
 rw [krX] at h
 exact h
def kiO:Ctr:=⟨ "",[tBelt,(.sl tFed)],[.b],fun x=>kdS x.1 x.2,[],[]⟩
theorem klc:Good Try.prog 15 kiO:=
 kak Try.func15 (by kernel_rfl) (An:=[(0,⟨⟨[(5,.c (.i .i64))],[]⟩,⟨[],[]⟩,[1],[],1,true,""⟩)]) [] (.nil) (fun x=>by kernel_rfl)
def kiM:Ctr:=⟨ "",[(.sl (.pr (.i .i64) (.pr (.i .i64) .b))),(.i .i64)],[(.sl (.pr (.i .i64) (.pr (.i .i64) .b)))],fun x=>keR x.1 x.2,[],[]⟩
theorem kkP:Good Try.prog 45 kiM:=
 kak Try.func45 (by kernel_rfl) (An:=[(0,⟨⟨[(10,.c (.i .i64)),(5,.mw 1)],[(1,.sl 107 (.pr (.i .i64) (.pr (.i .i64) .b)))]⟩,⟨[(5,.mw 2)],[(2,.sl 107 (.pr (.i .i64) (.pr (.i .i64) .b)))]⟩,[9,8,1],[],3,false,""⟩)]) [] (.nil) (fun x=>by kernel_rfl)
def kjB:Ctr:=⟨ "",[tBelt,(.sl tFed),(.sl tFed),(.i .i64)],[.b],fun x=>kfd x.1 x.2.1 x.2.2.1 x.2.2.2,[],[]⟩
theorem law09_SortCausal_C_ok:Good Try.prog 8 kjB:=
 kak Try.func8 (by kernel_rfl) (An:=[(0,⟨⟨[(52,.c (.i .i64)),(10,.mw 1)],[(1,.sl 78 tFed)]⟩,⟨[(10,.mw 2)],[(2,.sl 78 tFed)]⟩,[51,50,3,4,2,1,9],[0],3,false,""⟩),(8,⟨⟨[(70,.c (.i .i64)),(10,.mw 2)],[(2,.sl 78 tFed)]⟩,⟨[(10,.mw 3)],[(3,.sl 78 tFed)]⟩,[69,68,3,4,1,9],[0],4,false,""⟩)]) [(45,kiM),(15,kiO),(44,kiL),(43,kel),(41,kgl),(18,kfb)] (.cons kkP <| .cons klc <| .cons kkX <| .cons kfi <| .cons kgO <| .cons kfD <| .nil) (fun x=>by kernel_rfl)
end Go.Abs
namespace Go.Abs
open Go
def keG (x0:(List Int)) (x1:Int) (v0:(Int×Int)):Option ((Int×Int)⊕Int):=
 (if (decide (v0.1<(lenI x0)))=true then ((gi x0 v0.1).bind fun v1=>(if (v1==x1)=true then (some (.inl ((w64 (v0.1+1)),(w64 (v0.2+1))))) else (some (.inl ((w64 (v0.1+1)),v0.2))))) else (some (.inr v0.2)))
def khF (x0:(List Int)) (x1:Int):Option Int:=
 ((iter (keG x0 x1) (0,0)).bind fun v2=>(some v2))
def kdG (x0:(List Int)) (v0:(Int×Int×Int×Bool)):Option ((Int×Int×Int×Bool)⊕(Int×Bool×Int)):=
 (if (decide (v0.1<16))=true then ((khF x0 v0.1).bind fun v1=>(if (decide (v0.2.1<v1))=true then (some (.inl ((w64 (v0.1+1)),v1,v0.1,false))) else (if (v1==v0.2.1)=true then (some (.inl ((w64 (v0.1+1)),v0.2.1,v0.2.2.1,true))) else (some (.inl ((w64 (v0.1+1)),v0.2)))))) else (some (.inr (v0.2.1,v0.2.2.2,v0.2.2.1))))
def kgx (x0:(List Int)):Option Int:=
 ((iter (kdG x0) (0,0,(-1),false)).bind fun v2=>(if (v2.1==0)=true then (some (-1)) else (if v2.2.1=true then (some (-1)) else (some v2.2.2))))
def kfG (x0:Belt) (x1:(List Fed)) (v0:Int):Option (Int⊕Int):=
 (if (decide (0<v0))=true then ((gi x1 v0).bind fun v1=>((gi x1 (w64 (v0-1))).bind fun v2=>(if (decide ((w64 (v1.1-v2.1))≤(w64 ((w64 (2*x0.2.2.1))+1))))=true then (some (.inl (w64 (v0-1)))) else (some (.inr v0))))) else (some (.inr v0)))
def khB (x0:Belt) (x1:(List Fed)) (x2:Int):Option Int:=
 ((iter (kfG x0 x1) x2).bind fun v3=>(some v3))
def kgm (x0:Belt) (x1:(List Fed)) (v0:Int):Option (Int⊕Int):=
 (if (decide ((w64 (v0+1))<(lenI x1)))=true then ((gi x1 (w64 (v0+1))).bind fun v1=>((gi x1 v0).bind fun v2=>(if (decide ((w64 (v1.1-v2.1))≤(w64 ((w64 (2*x0.2.2.1))+1))))=true then (some (.inl (w64 (v0+1)))) else (some (.inr v0))))) else (some (.inr v0)))
def kij (x0:Belt) (x1:(List Fed)) (x2:Int):Option Int:=
 ((iter (kgm x0 x1) x2).bind fun v3=>(some v3))
def kgw (x0:Belt) (x1:Int):Option Int:=
 (if (decide (x1<0))=true then (some (-1)) else ((gi x0.2.2.2.2 x1).bind fun v0=>(if (decide (v0<0))=true then (some (-1)) else ((gi x0.2.2.2.2 x1).bind fun v1=>((khA x0 v1).bind fun v2=>(some v2))))))
def kea (x0:Belt) (x1:(List Fed)) (v1:Int) (v4:Int) (v5:Int):Option (Int⊕(Int⊕Unit)):=
 (if (decide (v5≤v1))=true then ((gi x1 v5).bind fun v6=>((kgx v6.2.2).bind fun v7=>((kgw x0 v7).bind fun v8=>(if (v8 != v4)=true then (some (.inr (.inl (-1)))) else (some (.inl (w64 (v5+1)))))))) else (some (.inr (.inr ()))))
def kgL (x0:Belt) (x1:(List Fed)) (x2:Int):Option Int:=
 ((khB x0 x1 x2).bind fun v0=>((kij x0 x1 x2).bind fun v1=>((gi x1 x2).bind fun v2=>((kgx v2.2.2).bind fun v3=>((kgw x0 v3).bind fun v4=>((iter (kea x0 x1 v1 v4) v0).bind fun v9=>(match v9 with | .inl v10=>(some v10) | .inr v11=>(if (decide (v4<0))=true then (some (-1)) else ((gi x1 v1).bind fun v12=>((gi x1 v0).bind fun v13=>((gi x0.2.2.2.1 v4).bind fun v14=>(if (decide ((w64 (v14.1-x0.2.1))<(w64 ((w64 ((w64 (v12.1-v13.1))+(w64 (3*x0.2.2.1))))+1))))=true then (some (-1)) else (some v4)))))))))))))
end Go.Abs
namespace Go.Abs
open Go
theorem knA (l:List Int) (hl:l.length≤100000) (p:Int→Bool):kbl l (fun x=>some (p x))=some (l.any p):=by
 unfold kbl kcg
 rw [kfm (F:=kbk l _) l (by omega) (fun i x=>if p x then some (i:Int) else none) (fun i hi=>by
  unfold kbk
  rw [if_pos (lenI_lt.2 hi),kbs hi,kbB (by omega)]
  simp only [Option.bind_some]
  by_cases h:p l[i]=true <;> simp [h,nextL]) (by unfold kbk; rw [if_neg kbc])]
 have:∀ (l:List Int) (k:Nat),endL ((l.zipIdx k).findSome? fun x=>if p x.1 then some (x.2:Int) else none)=(if l.any p then .inl ((k:Int)+(l.findIdx p:Nat)) else .inr ()):=by
  intro l
  induction l with
  | nil=>intro k; rfl
  | cons x l ih=>
   intro k
   rw [List.zipIdx_cons,List.findSome?_cons,List.any_cons,List.findIdx_cons]
   cases hp:p x with
   | true=>simp [endL]
   | false=>
    simp only [Bool.false_eq_true,if_false,Bool.false_or,cond_false]
    rw [ih (k+1)]
    congr 2; push_cast; omega
 rw [this l 0]
 by_cases h:l.any p=true <;> simp [h]
theorem kgG (lo hi:Int) (l:List Int) (hl:l.length≤100000):kav lo hi l=some (l.all (wi lo hi)):=by
 unfold kav
 have e:(fun u0:Int=>(kfw u0 lo hi).bind fun u1=>some u1)=fun u=>some (!wi lo hi u):=by
  funext u
  unfold kfw wi
  by_cases h1:u<lo <;> by_cases h2:hi<u <;> simp [h1,h2] <;> omega
 rw [e,knA l hl,ksW]
 simp
@[simp] theorem from1 (lo hi n:Int):kav lo hi [n]=some (wi lo hi n):=by rw [kgG lo hi [n] (by simp)]; simp
def saidR (l:List Int):Bool:=wi 1 9 l.length&&l.all (wi (-1) 15)
theorem ksD (l:List Int) (hl:l.length≤100000):kht l=some (saidR l):=by
 unfold kht saidR
 rw [kgG _ _ l hl,from1,kbj]
 by_cases h:wi 1 9 l.length=true <;> simp [h]
theorem kqy {l:List Int} (h:saidR l=true):(l.length:Int)≤9∧0<l.length∧∀ x∈l,-1≤x∧x≤15:=by
 simp only [saidR,Bool.and_eq_true,wi_iff,List.all_eq_true] at h
 exact ⟨by omega,by omega,fun x hx=>h.2 x hx⟩
def kaV (k:Int) (l:List Int):Int:=(l.countP fun x=>x==k:Nat)
theorem kkE (k x:Int) (l:List Int):kaV k (l++[x])=kaV k l+if x=k then 1 else 0:=by
 unfold kaV; rw [List.countP_append]; by_cases h:x=k <;> simp [h]
theorem kjh (k:Int) (l:List Int):0≤kaV k l∧kaV k l≤l.length:=by
 unfold kaV; have:=List.countP_le_length (p:=fun x=>x==k) (l:=l); omega
theorem koQ (l:List Int) (kind:Int) (hl:(l.length:Int)≤1000):∀ k i:Nat,i+k=l.length→itN (keG l kind) (k+1) ((i:Int),kaV kind (l.take i))=some (kaV kind l)
 | 0,i,h=>kbf (by
  have:i=l.length:=by omega
  subst this
  unfold keG; rw [if_neg kbc,List.take_length])
 | k+1,i,h=>by
  have hi:i<l.length:=by omega
  have hv:=kjh kind (l.take i)
  have hs:=kkE kind l[i] (l.take i)
  rw [List.take_append_getElem hi] at hs
  simp only [List.length_take] at hv
  rw [←koQ l kind hl k (i+1) (by omega)]
  apply kdz
  unfold keG
  rw [if_pos (lenI_lt.2 hi),kbs hi,kbB (by omega),kao (by omega) (by omega)]
  simp only [Option.bind_some]
  by_cases hk:l[i]=kind
  ·rw [if_pos (by simpa using hk),hs,if_pos hk]
  ·rw [if_neg (by simpa using hk),hs,if_neg hk,Int.add_zero]
theorem krN (l:List Int) (kind:Int) (hl:(l.length:Int)≤1000):khF l kind=some (kaV kind l):=by
 unfold khF
 have:=koQ l kind hl l.length 0 (by omega)
 simp only [List.take_zero,Int.natCast_zero] at this
 rw [show kaV kind []=0 from rfl] at this
 rw [kcy this (by omega)]; rfl
def scanF (v:Int→Int):Nat→Int→Int→Int→Int×Int
 | 0,_,b,m=>(b,m)
 | k+1,x,b,m=>if m<v x then scanF v k (x+1) x (v x) else if v x=m then scanF v k (x+1) (-1) m else scanF v k (x+1) b m
def seenR (l:List Int):Int:=(scanF (fun k=>kaV k l) 16 0 (-1) 0).1
theorem scan0 (v:Int→Int) (hv:∀ k,0≤v k):∀ k x b m,0≤m→(m=0→b = -1)→((scanF v k x b m).2=0→(scanF v k x b m).1 = -1)
 | 0,x,b,m,_,h=>h
 | k+1,x,b,m,hm,h=>by
  simp only [scanF]
  split
  ·exact scan0 v hv k _ _ _ (hv x) (fun e=>by omega)
  ·split
   ·exact scan0 v hv k _ _ _ hm (fun _=>rfl)
   ·exact scan0 v hv k _ _ _ hm h
theorem kkb (l:List Int) (hl:(l.length:Int)≤1000):∀ (k:Nat) (x b m:Int) (e:Bool),0≤x→x+k=16→∃ b' m' e',itN (kdG l) (k+1) (x,m,b,e)=some (m',e',b')∧scanF (fun k=>kaV k l) k x (if e then -1 else b) m=(if e' then -1 else b',m')
 | 0,x,b,m,e,h0,h=>⟨b,m,e,kbf (by unfold kdG; rw [if_neg (by simp; omega)]),rfl⟩
 | k+1,x,b,m,e,h0,h=>by
  have hgo:kdG l (x,m,b,e)=some (.inl (x+1,if m<kaV x l then (kaV x l,x,false) else if kaV x l=m then (m,b,true) else (m,b,e))):=by
   unfold kdG
   rw [if_pos (by simp; omega),krN l x hl]
   simp only [Option.bind_some,decide_eq_true_eq,beq_iff_eq]
   rw [kao (by omega) (by omega)]
   by_cases h1:m<kaV x l
   ·rw [if_pos h1,if_pos h1]
   ·rw [if_neg h1,if_neg h1]
    by_cases h2:kaV x l=m
    ·rw [if_pos h2,if_pos h2]
    ·rw [if_neg h2,if_neg h2]
  rw [kdz hgo]
  simp only [scanF]
  by_cases h1:m<kaV x l
  ·rw [if_pos h1,if_pos h1]; exact kkb l hl k (x+1) x (kaV x l) false (by omega) (by omega)
  ·rw [if_neg h1,if_neg h1]
   by_cases h2:kaV x l=m
   ·rw [if_pos h2,if_pos h2]; exact kkb l hl k (x+1) b m true (by omega) (by omega)
   ·rw [if_neg h2,if_neg h2]; exact kkb l hl k (x+1) b m e (by omega) (by omega)
theorem kqe (l:List Int) (hl:(l.length:Int)≤1000):kgx l=some (seenR l):=by
 unfold kgx seenR
 obtain ⟨b,m,e,h1,h2⟩:=kkb l hl 16 0 (-1) 0 false (by omega) (by omega)
 simp only [Bool.false_eq_true,if_false] at h2
 have h3:=scan0 (fun k=>kaV k l) (fun k=>(kjh k l).1) 16 0 (-1) 0 (by omega) (fun _=>rfl)
 rw [h2] at h3
 rw [kcy h1 (by omega),h2]
 simp only [Option.bind_some]
 simp only at h3
 by_cases hm:m=0
 ·rw [h3 hm]; simp [hm]
 ·cases e <;> simp [hm]
def tally (v:Int→Int):Arr 16 Int:=⟨(List.range 16).map fun (k:Nat)=>v (k:Int),by simp⟩
theorem klQ (v:Int→Int) {x:Int} (h0:0≤x) (h1:x≤15):garr (tally v) x=some (v x):=by
 unfold garr gi tally
 rw [if_pos h0,List.getElem?_map,List.getElem?_range (by omega)]
 simp [Int.toNat_of_nonneg h0]
theorem kmH {n:Nat} {α:Type} {a b:Arr n α} (h:a.l=b.l):a=b:=by cases a; cases b; simp only at h; subst h; rfl
theorem kqJ (v:Int→Int) {x:Int} (h0:0≤x) (h1:x≤15) (c:Int):aset (tally v) x c=tally fun k=>if k=x then c else v k:=by
 apply kmH
 apply List.ext_getElem?
 intro j
 unfold tally aset
 simp only
 rw [List.getElem?_set]
 by_cases hj:x.toNat=j
 ·subst hj
  simp [List.getElem?_range,show x.toNat<16 by omega,Int.toNat_of_nonneg h0]
 ·rw [if_neg hj]
  by_cases hj2:j<16
  ·simp only [List.getElem?_map,List.getElem?_range hj2,Option.map_some]
   rw [if_neg (by omega)]
  ·simp [show ¬ j<16 from hj2]
theorem kpW (l:List Int) (hl:(l.length:Int)≤1000) (hx:∀ x∈l,x≤15):∀ k i:Nat,i+k=l.length→itN (kfl l) (k+1) ((i:Int),tally fun x=>kaV x (l.take i))=some (tally fun x=>kaV x l)
 | 0,i,h=>kbf (by
  have:i=l.length:=by omega
  subst this
  unfold kfl; rw [if_neg kbc,List.take_length])
 | k+1,i,h=>by
  have hi:i<l.length:=by omega
  have hs:=fun x=>kkE x l[i] (l.take i)
  simp only [List.take_append_getElem hi] at hs
  have hl15:=hx l[i] (List.getElem_mem hi)
  rw [←kpW l hl hx k (i+1) (by omega)]
  apply kdz
  unfold kfl
  rw [if_pos (lenI_lt.2 hi),kbs hi,kbB (by omega)]
  simp only [Option.bind_some,decide_eq_true_eq]
  by_cases h0:0≤l[i]
  ·have hv:=kjh l[i] (l.take i)
   simp only [List.length_take] at hv
   rw [if_pos h0,klQ _ h0 hl15]
   simp only [Option.bind_some]
   rw [kao (by omega) (by omega),kqJ _ h0 hl15]
   congr 4
   funext x
   rw [hs]
   by_cases hxx:x=l[i]
   ·simp [hxx]
   ·simp [hxx,show ¬ l[i]=x from fun e=>hxx e.symm]
  ·rw [if_neg h0]
   congr 3
   apply kmH
   unfold tally
   simp only
   apply List.map_congr_left
   intro j _
   show kaV _ _=kaV _ _
   rw [hs,if_neg (by omega)]; simp
theorem kjY (v:Int→Int):∀ (k:Nat) (x b m:Int),0≤x→x+k=16→itN (keq (tally v)) (k+1) (x,m,b)=some (scanF v k x b m).1
 | 0,x,b,m,_,_=>kbf (by unfold keq; rw [if_neg (by simp; omega)]; rfl)
 | k+1,x,b,m,h0,h=>by
  have hgo:keq (tally v) (x,m,b)=some (.inl (x+1,if m<v x then (v x,x) else if v x=m then (m,-1) else (m,b))):=by
   unfold keq
   rw [if_pos (by simp; omega),klQ v h0 (by omega)]
   simp only [Option.bind_some,decide_eq_true_eq,beq_iff_eq]
   rw [kao (by omega) (by omega)]
   by_cases h1:m<v x
   ·rw [if_pos h1,if_pos h1]
   ·rw [if_neg h1,if_neg h1]
    by_cases h2:v x=m
    ·rw [if_pos h2,if_pos h2]
    ·rw [if_neg h2,if_neg h2]
  rw [kdz hgo]
  simp only [scanF]
  by_cases h1:m<v x
  ·rw [if_pos h1,if_pos h1]; exact kjY v k _ _ _ (by omega) (by omega)
  ·rw [if_neg h1,if_neg h1]
   by_cases h2:v x=m
   ·rw [if_pos h2,if_pos h2]; exact kjY v k _ _ _ (by omega) (by omega)
   ·rw [if_neg h2,if_neg h2]; exact kjY v k _ _ _ (by omega) (by omega)
theorem kql (l:List Int) (hl:(l.length:Int)≤1000) (hx:∀ x∈l,x≤15):kfe l=some (seenR l):=by
 unfold kfe seenR
 have:=kpW l hl hx l.length 0 (by omega)
 simp only [List.take_zero,Int.natCast_zero] at this
 rw [show (tally fun x=>kaV x [])=amk 16 0 from kmH rfl] at this
 rw [kcy this (by omega)]
 simp only [Option.bind_some]
 rw [kcy (kjY _ 16 0 (-1) 0 (by omega) (by omega)) (by omega)]
 rfl
def fedF:List Fed→Int→Bool
 | [],_=>true
 | x::r,m=>wi m 1000 x.1&&wi 0 15 x.2.1&&saidR x.2.2&&fedF r (x.1+1)
theorem knb (x:Fed) (r:List Fed) (m:Int):fedF (x::r) m=(wi m 1000 x.1&&wi 0 15 x.2.1&&saidR x.2.2&&fedF r (x.1+1)):=rfl
def fedR (l:List Fed):Bool:=decide ((l.length:Int)≤40)&&fedF l 0
theorem kkl (l:List Fed) (hr:∀ x∈l,x.2.2.length≤1000) (hl:l.length≤1000):∀ (k i:Nat) (m:Int),0≤m→i+k=l.length→itN (kcB l) (k+1) ((i:Int),m)=some (if fedF (l.drop i) m then .inr () else .inl 91)
 | 0,i,m,hm,h=>by
  have:i=l.length:=by omega
  subst this
  rw [List.drop_length]
  exact kbf (by unfold kcB; rw [if_neg kbc]; rfl)
 | k+1,i,m,hm,h=>by
  have hi:i<l.length:=by omega
  have hri:=hr l[i] (List.getElem_mem hi)
  have e:kcB l ((i:Int),m)=some (if (wi m 1000 l[i].1&&wi 0 15 l[i].2.1&&saidR l[i].2.2)=true then .inl (((i+1:Nat):Int),w64 (l[i].1+1)) else .inr (.inl 91)):=by
   unfold kcB
   rw [if_pos (lenI_lt.2 hi),kbs hi,kbB (by omega)]
   simp only [Option.bind_some,from1,ksD _ (show l[i].2.2.length≤100000 by omega)]
   by_cases h1:wi m 1000 l[i].1=true <;> by_cases h2:wi 0 15 l[i].2.1=true <;> by_cases h3:saidR l[i].2.2=true <;> simp [h1,h2,h3]
  rw [List.drop_eq_getElem_cons hi]
  rw [knb]
  by_cases hc:(wi m 1000 l[i].1&&wi 0 15 l[i].2.1&&saidR l[i].2.2)=true
  ·rw [hc,Bool.true_and]
   rw [if_pos hc] at e
   simp only [Bool.and_eq_true,wi_iff] at hc
   rw [kao (by omega) (by omega)] at e
   rw [kdz e]
   exact kkl l hr hl k (i+1) _ (by omega) (by omega)
  ·rw [if_neg hc] at e
   rw [kbf e,Bool.eq_false_iff.2 hc]; rfl
theorem kpH (l:List Fed) (hr:∀ x∈l,x.2.2.length≤1000) (hl:l.length≤1000):keZ l=some (if fedR l then 0 else 91):=by
 unfold keZ fedR
 have:=kkl l hr hl l.length 0 0 (by omega) (by omega)
 rw [List.drop_zero] at this
 rw [show ((0:Int),(0:Int))=(((0:Nat):Int),0) from rfl,kcy this (by omega),kbj]
 by_cases h:(l.length:Int)≤40
 ·have h':¬ (40:Int)<l.length:=by omega
  by_cases h2:fedF l 0=true <;> simp [h,h',h2]
 ·have h':(40:Int)<l.length:=by omega
  simp [h,h']
def kgM (hi:Int):List (Int×Int)→Int→List Int→Bool
 | [],_,_=>true
 | g::r,m,s=>wi m hi g.1&&wi 0 7 g.2&&!s.contains g.2&&kgM hi r (g.1+1) (g.2::s)
theorem kkF (hi:Int) (g:Int×Int) (r:List (Int×Int)) (m:Int) (s:List Int):kgM hi (g::r) m s=(wi m hi g.1&&wi 0 7 g.2&&!s.contains g.2&&kgM hi r (g.1+1) (g.2::s)):=rfl
def beltR (b:Belt):Bool:=wi 2 100 b.1&&wi 0 (b.1-2) b.2.1&&wi 0 10 b.2.2.1&&decide ((b.2.2.2.1.length:Int)≤8)&&decide ((b.2.2.2.2.length:Int)=16)&&(b.2.2.2.2.all (wi (-1) 7))&&kgM (b.1-1) b.2.2.2.1 (b.2.1+1) []
theorem kqZ {κ β:Type} [DecidableEq κ] (l:List (κ×β)) (k k':κ) (v:β):mget (mput l k v) k'=if k'=k then some v else mget l k':=by
 induction l with
 | nil=>simp [mput,mget]
 | cons p r ih=>
  simp only [mput]
  split
  ·rename_i h; subst h; simp only [mget]; split <;> rfl
  ·rename_i h
   simp only [mget,ih]
   by_cases h2:k'=p.1
   ·subst h2; rw [if_pos rfl,if_neg (fun e=>h e.symm)]; simp
   ·rw [if_neg h2]; simp [h2]
theorem kjF (b:Belt) (hL:wi 2 100 b.1=true) (hg:b.2.2.2.1.length≤1000):∀ (k i:Nat) (m:Int) (bins:List (Int×Bool)) (s:List Int),0≤m→(∀ x,(mget bins x).getD false=s.contains x)→i+k=b.2.2.2.1.length→itN (kch b) (k+1) ((i:Int),m,bins)=some (if kgM (b.1-1) (b.2.2.2.1.drop i) m s then .inr () else .inl 90)
 | 0,i,m,bins,s,hm,hs,h=>by
  have:i=b.2.2.2.1.length:=by omega
  subst this
  rw [List.drop_length]
  exact kbf (by unfold kch; rw [if_neg kbc]; rfl)
 | k+1,i,m,bins,s,hm,hs,h=>by
  have hi:i<b.2.2.2.1.length:=by omega
  rw [wi_iff] at hL
  have e:kch b ((i:Int),m,bins)=some (if (wi m (b.1-1) b.2.2.2.1[i].1&&wi 0 7 b.2.2.2.1[i].2&&!s.contains b.2.2.2.1[i].2)=true then .inl (((i+1:Nat):Int),w64 (b.2.2.2.1[i].1+1),mput bins b.2.2.2.1[i].2 true) else .inr (.inl 90)):=by
   unfold kch
   rw [if_pos (lenI_lt.2 hi),kbs hi,kbB (by omega),kao (x:=b.1-1) (by omega) (by omega)]
   simp only [Option.bind_some,from1,hs]
   by_cases h1:wi m (b.1-1) b.2.2.2.1[i].1=true <;> by_cases h2:wi 0 7 b.2.2.2.1[i].2=true <;> cases h3:s.contains b.2.2.2.1[i].2 <;> simp only [h1,h2,h3,Bool.not_true,Bool.not_false,Bool.and_true,Bool.true_and,Bool.false_and,Bool.and_false,Bool.false_eq_true,if_true,if_false]
  rw [List.drop_eq_getElem_cons hi]
  rw [kkF]
  by_cases hc:(wi m (b.1-1) b.2.2.2.1[i].1&&wi 0 7 b.2.2.2.1[i].2&&!s.contains b.2.2.2.1[i].2)=true
  ·rw [hc,Bool.true_and]
   rw [if_pos hc] at e
   simp only [Bool.and_eq_true,wi_iff] at hc
   rw [kao (by omega) (by omega)] at e
   rw [kdz e]
   exact kjF b (wi_iff.2 hL) hg k (i+1) _ _ _ (by omega) (fun x=>by
    rw [kqZ,List.contains_cons]
    by_cases hx:x=b.2.2.2.1[i].2
    ·simp [hx]
    ·simp only [if_neg hx,hs,show (x==b.2.2.2.1[i].2)=false by simpa using hx,Bool.false_or]) (by omega)
  ·rw [if_neg hc] at e
   rw [kbf e,Bool.eq_false_iff.2 hc]; rfl
theorem kjf (b:Belt) (hg:b.2.2.2.1.length≤1000) (hb:b.2.2.2.2.length≤1000):kdg b=some (if beltR b then 0 else 90):=by
 unfold kdg beltR
 simp only [from1,Option.bind_some,kgG _ _ b.2.2.2.2 (by omega),kbj]
 by_cases h1:wi 2 100 b.1=true
 ·have hw:=wi_iff.1 h1
  rw [kao (x:=b.1-2) (by omega) (by omega)]
  by_cases h2:wi 0 (b.1-2) b.2.1=true
  ·have hw2:=wi_iff.1 h2
   have:=kjF b h1 hg b.2.2.2.1.length 0 (b.2.1+1) [] [] (by omega) (fun x=>rfl) (by omega)
   rw [List.drop_zero] at this
   rw [kao (x:=b.2.1+1) (by omega) (by omega),show ((0:Int),b.2.1+1,([]:List (Int×Bool)))=(((0:Nat):Int),b.2.1+1,[]) from rfl,kcy this (by omega)]
   by_cases h3:wi 0 10 b.2.2.1=true
   ·by_cases h4:(b.2.2.2.1.length:Int)≤8
    ·have h4':¬ (8:Int)<b.2.2.2.1.length:=by omega
     by_cases h5:(b.2.2.2.2.length:Int)=16
     ·by_cases h6:b.2.2.2.2.all (wi (-1) 7)=true
      ·by_cases h7:kgM (b.1-1) b.2.2.2.1 (b.2.1+1) []=true <;> simp [h1,h2,h3,h4,h4',h5,h6,h7]
      ·simp [h1,h2,h3,h4,h4',h5,h6]
     ·simp [h1,h2,h3,h4,h4',h5]
    ·have h4':(8:Int)<b.2.2.2.1.length:=by omega
     simp [h1,h2,h3,h4,h4']
   ·simp [h1,h2,h3]
  ·simp [h1,h2]
 ·simp [h1]
def idxF {α:Type} (p:α→Bool):List α→Int→Int
 | [],_=>-1
 | x::r,i=>if p x then i else idxF p r (i+1)
theorem kjW {α:Type} (p:α→Bool):∀ (l:List α) (i:Int),0≤i→0≤idxF p l i∨idxF p l i = -1
 | [],i,_=>.inr rfl
 | x::r,i,h=>by
  simp only [idxF]
  split
  ·exact .inl h
  ·exact kjW p r (i+1) (by omega)
theorem kpd (b:Belt) (bin:Int) (hg:b.2.2.2.1.length≤1000):∀ k i:Nat,i+k=b.2.2.2.1.length→itN (kdf b bin) (k+1) (i:Int)=some (if 0≤idxF (fun g=>g.2==bin) (b.2.2.2.1.drop i) i then .inl (idxF (fun g=>g.2==bin) (b.2.2.2.1.drop i) i) else .inr ())
 | 0,i,h=>by
  have:i=b.2.2.2.1.length:=by omega
  subst this
  rw [List.drop_length]
  exact kbf (by unfold kdf; rw [if_neg kbc]; rfl)
 | k+1,i,h=>by
  have hi:i<b.2.2.2.1.length:=by omega
  rw [List.drop_eq_getElem_cons hi]
  by_cases hp:(b.2.2.2.1[i].2==bin)=true
  ·have e:idxF (fun g:Int×Int=>g.2==bin) (b.2.2.2.1[i]::List.drop (i+1) b.2.2.2.1) i=i:=by
    show (if (b.2.2.2.1[i].2==bin)=true then _ else _)=_
    rw [if_pos hp]
   rw [e,if_pos (by omega)]
   exact kbf (by
    unfold kdf
    rw [if_pos (lenI_lt.2 hi),kbs hi]
    simp only [Option.bind_some]
    rw [if_pos hp])
  ·have e:idxF (fun g:Int×Int=>g.2==bin) (b.2.2.2.1[i]::List.drop (i+1) b.2.2.2.1) i=idxF (fun g:Int×Int=>g.2==bin) (List.drop (i+1) b.2.2.2.1) ((i+1:Nat):Int):=by
    show (if (b.2.2.2.1[i].2==bin)=true then _ else _)=_
    rw [if_neg hp]; rfl
   rw [e,←kpd b bin hg k (i+1) (by omega)]
   apply kdz
   unfold kdf
   rw [if_pos (lenI_lt.2 hi),kbs hi,kbB (by omega)]
   simp only [Option.bind_some]
   rw [if_neg hp]
def kjp (b:Belt) (bin:Int):Int:=idxF (fun g=>g.2==bin) b.2.2.2.1 0
theorem krY (b:Belt) (bin:Int) (hg:b.2.2.2.1.length≤1000):khA b bin=some (kjp b bin):=by
 unfold khA kjp
 have:=kpd b bin hg b.2.2.2.1.length 0 (by omega)
 rw [List.drop_zero] at this
 rw [show (0:Int)=((0:Nat):Int) from rfl,kcy this (by omega)]
 rcases kjW (fun g=>g.2==bin) b.2.2.2.1 ((0:Nat):Int) (by omega) with h | h
 ·rw [if_pos h]; rfl
 ·rw [if_neg (by omega),h]; rfl
theorem kpe (b:Belt) (f:List Fed) (hg:b.2.2.2.1.length≤1000) (hb:b.2.2.2.2.length≤1000) (hr:∀ x∈f,x.2.2.length≤1000) (hl:f.length≤1000) :
  kgQ b f=some (if beltR b then (if fedR f then (some (b,f),0) else (none,91)) else (none,90)):=by
 unfold kgQ
 rw [kjf b hg hb,kpH f hr hl]
 by_cases h:beltR b=true <;> by_cases h2:fedR f=true <;> simp [h,h2]
end Go.Abs
namespace Go.Abs
open Go
theorem kbx {α β:Type} {F:α→Option (α⊕β)} (I:α→Prop) (m:α→Nat) (R:β→Prop)
  (h:∀ x,I x→(∃ z,F x=some (.inr z)∧R z)∨∃ y,F x=some (.inl y)∧I y∧m y<m x) (x:α) (hx:I x) (hm:m x<18446744073709551616):∃ z,iter F x=some z∧R z:=by
 have:∀ n x,I x→m x<n→∃ z,itN F n x=some z∧R z:=by
  intro n
  induction n with
  | zero=>intro x _ h0; omega
  | succ n ih=>
   intro x hx hm
   rcases h x hx with ⟨z,e,hz⟩ | ⟨y,e,hy,hlt⟩
   ·exact ⟨z,kbf e,hz⟩
   ·rw [kdz e]; exact ih y hy (by omega)
 obtain ⟨z,e,hz⟩:=this 18446744073709551616 x hx hm
 exact ⟨z,kcy e (Nat.le_refl _),hz⟩
abbrev Sw:=Int×Int×Bool
structure Is (σ:Nat→Nat) (l l':List Sw):Prop where
 len:l'.length=l.length
 perm:l'.Perm l
 at':∀ k,l'[k]?=l[σ k]?
theorem Is.refl (l:List Sw):Is (fun k=>k) l l:=⟨rfl,.refl _,fun _=>rfl⟩
theorem Is.trans {σ τ:Nat→Nat} {l l' l'':List Sw} (h:Is σ l l') (h':Is τ l' l''):Is (fun k=>σ (τ k)) l l'':=
 ⟨h'.len.trans h.len,h'.perm.trans h.perm,fun k=>(h'.at' k).trans (h.at' _)⟩
theorem Is.congr {σ τ:Nat→Nat} {l l':List Sw} (h:Is σ l l') (e:∀ k,k<l.length→σ k = τ k) (hb:∀ k,l.length≤k→l.length≤τ k):Is τ l l':=
 ⟨h.len,h.perm,fun k=>by
  by_cases hk:k<l.length
  ·rw [h.at',e k hk]
  ·rw [List.getElem?_eq_none (by rw [h.len]; omega),List.getElem?_eq_none (hb k (by omega))]⟩
theorem Is.swap {l:List Sw} {i j:Nat} (hi:i<l.length) (hj:j<l.length):Is (fun k=>if k=j then i else if k=i then j else k) l ((l.set i l[j]).set j l[i]):=by
 refine ⟨by simp,List.set_set_perm hi hj,fun k=>?_⟩
 simp only [List.getElem?_set,List.length_set]
 by_cases h1:j=k
 ·subst h1; simp [hj,hi]
 ·rw [if_neg h1]
  by_cases h2:i=k
  ·subst h2; simp [hi,hj,h1]
   rw [if_neg (fun e=>h1 e.symm),List.getElem?_eq_getElem hj]
  ·rw [if_neg h2,if_neg (fun e=>h1 e.symm),if_neg (fun e=>h2 e.symm)]
theorem kii (l:List Sw) (i:Nat) (x:Sw):lset l (i:Int) x=l.set i x:=rfl
theorem w64n {x:Int} {n:Nat} (h:x=n) (hn:n≤1000000):w64 x=(n:Int):=by rw [kao (by omega) (by omega),h]
theorem kfH (a b n:Nat) (cmp) (l:List Sw) (h1:a+n≤b) (h2:b+n≤l.length) (hl:l.length≤1000) :
  ∃ l',kan a b n cmp l=some l'∧Is (fun k=>if a≤k∧k<a+n then k+(b-a) else if b≤k∧k<b+n then k-(b-a) else k) l l':=by
 unfold kan
 obtain ⟨z,hz,hR⟩:=kbx (F:=kaZ a b n)
  (fun v=>∃ i:Nat,v.1=i∧i≤n∧Is (fun k=>if a≤k∧k<a+i then k+(b-a) else if b≤k∧k<b+i then k-(b-a) else k) l v.2)
  (fun v=>n-v.1.toNat) (fun z=>Is (fun k=>if a≤k∧k<a+n then k+(b-a) else if b≤k∧k<b+n then k-(b-a) else k) l z)
  (fun ⟨i',v⟩ ⟨i,hi,hin,his⟩=>by
   dsimp only at hi his ⊢
   subst hi
   unfold kaZ
   dsimp only
   by_cases hc:i<n
   ·right
    rw [if_pos (by simpa using hc)]
    have ha':a+i<v.length:=by rw [his.len]; omega
    have hb':b+i<v.length:=by rw [his.len]; omega
    rw [w64n (n:=b+i) (by push_cast; rfl) (by omega),w64n (n:=a+i) (by push_cast; rfl) (by omega),w64n (n:=i+1) (by push_cast; rfl) (by omega)]
    simp only [kig,kii,List.getElem?_eq_getElem ha',List.getElem?_eq_getElem hb',Option.bind_some,List.getElem?_set,List.length_set]
    rw [if_neg (by omega)]
    simp only [Option.bind_some]
    refine ⟨_,rfl,⟨i+1,rfl,by omega,(his.trans (Is.swap ha' hb')).congr (fun k hk=>?_) (fun k hk=>?_)⟩,by dsimp only; omega⟩
    ·repeat' split
     all_goals omega
    ·split <;> (try split) <;> omega
   ·left
    rw [if_neg (by simpa using hc)]
    have:i=n:=by omega
    subst this
    exact ⟨_,rfl,his⟩)
  (0,l) ⟨0,rfl,by omega,(Is.refl l).congr (fun k hk=>by rw [if_neg (by omega),if_neg (by omega)]) (fun k hk=>by rw [if_neg (by omega),if_neg (by omega)]; exact hk)⟩ (by dsimp only; omega)
 rw [hz]
 exact ⟨z,rfl,hR⟩
def rotF (a m b k:Nat):Nat:=if k<a then k else if k<a+(b-m) then k+(m-a) else if k<b then k-(b-m) else k
theorem kpx (a m b:Nat) (cmp) (l:List Sw) (h1:a<m) (h2:m<b) (h3:b≤l.length) (hl:l.length≤1000) :
  ∃ l',kaw a m b cmp l=some l'∧Is (rotF a m b) l l':=by
 unfold kaw
 obtain ⟨z,hz,hR⟩:=kbx (F:=kbn m cmp)
  (fun v=>∃ (i j:Nat) (σ:Nat→Nat),v.1=i∧v.2.1=j∧0<i∧0<j∧i≤m-a∧j≤b-m∧Is σ l v.2.2∧∀ k,k<l.length→σ (rotF (m-i) m (m+j) k)=rotF a m b k)
  (fun v=>v.1.toNat+v.2.1.toNat)
  (fun z=>∃ (i:Nat) (σ:Nat→Nat),z.1=i∧0<i∧i≤m-a∧i≤b-m∧Is σ l z.2∧∀ k,k<l.length→σ (rotF (m-i) m (m+i) k)=rotF a m b k)
  (fun ⟨i',j',v⟩ ⟨i,j,σ,hi,hj,hi0,hj0,him,hjm,his,hσ⟩=>by
   dsimp only at hi hj his ⊢
   subst hi; subst hj
   unfold kbn
   dsimp only
   by_cases he:i=j
   ·left
    subst he
    rw [if_neg (by simp)]
    exact ⟨_,rfl,i,σ,rfl,hi0,him,hjm,his,hσ⟩
   ·right
    rw [if_pos (by simpa using (by omega:¬ ((i:Int)=j)))]
    by_cases hlt:j<i
    ·rw [if_pos (by simpa using hlt),w64n (n:=m-i) (by omega) (by omega),w64n (n:=i-j) (by omega) (by omega)]
     obtain ⟨l',e,hl'⟩:=kfH (m-i) m j cmp v (by omega) (by rw [his.len]; omega) (by rw [his.len]; omega)
     rw [e]
     simp only [Option.bind_some]
     refine ⟨_,rfl,⟨i-j,j,_,rfl,rfl,by omega,by omega,by omega,by omega,his.trans hl',fun k hk=>?_⟩,by dsimp only; omega⟩
     rw [←hσ k hk]
     congr 1
     unfold rotF
     split <;> (try split) <;> (try split) <;> (try split) <;> (try split) <;> (try split) <;> (try split) <;> (try split) <;> omega
    ·rw [if_neg (by simpa using hlt),w64n (x:=(m:Int)+j) (n:=m+j) (by omega) (by omega),w64n (x:=((m+j:Nat):Int)-i) (n:=m+j-i) (by omega) (by omega),w64n (x:=(m:Int)-i) (n:=m-i) (by omega) (by omega),w64n (x:=(j:Int)-i) (n:=j-i) (by omega) (by omega)]
     obtain ⟨l',e,hl'⟩:=kfH (m-i) (m+j-i) i cmp v (by omega) (by rw [his.len]; omega) (by rw [his.len]; omega)
     rw [e]
     simp only [Option.bind_some]
     refine ⟨_,rfl,⟨i,j-i,_,rfl,rfl,by omega,by omega,by omega,by omega,his.trans hl',fun k hk=>?_⟩,by dsimp only; omega⟩
     rw [←hσ k hk]
     congr 1
     unfold rotF
     split <;> (try split) <;> (try split) <;> (try split) <;> (try split) <;> (try split) <;> (try split) <;> (try split) <;> omega)
  (((m-a:Nat):Int),((b-m:Nat):Int),l) ⟨m-a,b-m,fun k=>k,rfl,rfl,by omega,by omega,by omega,by omega,Is.refl l,fun k hk=>by rw [show m-(m-a)=a by omega,show m+(b-m)=b by omega]⟩ (by dsimp only; omega)
 rw [w64n (n:=m-a) (by omega) (by omega),w64n (n:=b-m) (by omega) (by omega),hz]
 simp only [Option.bind_some]
 obtain ⟨i,σ,hi,hi0,him,hib,his,hσ⟩:=hR
 obtain ⟨z1,z2⟩:=z
 dsimp only at hi his
 subst hi
 dsimp only
 rw [w64n (n:=m-i) (by omega) (by omega)]
 obtain ⟨l',e,hl'⟩:=kfH (m-i) m i cmp z2 (by omega) (by rw [his.len]; omega) (by rw [his.len]; omega)
 rw [e]
 refine ⟨l',rfl,(his.trans hl').congr (fun k hk=>?_) (fun k hk=>by unfold rotF; split <;> (try split) <;> (try split) <;> omega)⟩
 rw [←hσ k hk]
 congr 1
 unfold rotF
 split <;> (try split) <;> (try split) <;> (try split) <;> (try split) <;> (try split) <;> (try split) <;> (try split) <;> omega
end Go.Abs
namespace Go.Abs
open Go
def gg (l:List Sw) (k:Nat):Sw:=(l[k]?).getD (0,0,false)
theorem kju {l:List Sw} {k:Nat} (h:k<l.length):gg l k=l[k]:=by unfold gg; rw [List.getElem?_eq_getElem h]; rfl
theorem gi_gg {l:List Sw} {k:Nat} (h:k<l.length):gi l (k:Int)=some (gg l k):=by rw [kig,List.getElem?_eq_getElem h,kju h]
theorem Is.gg {σ:Nat→Nat} {l l':List Sw} (h:Is σ l l') (k:Nat):gg l' k=gg l (σ k):=by unfold Go.Abs.gg; rw [h.at']
structure Mv (a b:Nat) (l l':List Sw):Prop where
 len:l'.length=l.length
 perm:l'.Perm l
 out:∀ k,k<a∨b≤k→gg l' k=gg l k
 ins:∀ k,a≤k→k<b→∃ k',a≤k'∧k'<b∧gg l' k=gg l k'
theorem Mv.refl (a b:Nat) (l:List Sw):Mv a b l l:=⟨rfl,.refl _,fun _ _=>rfl,fun k h1 h2=>⟨k,h1,h2,rfl⟩⟩
theorem Mv.trans {a b:Nat} {l l' l'':List Sw} (h:Mv a b l l') (h':Mv a b l' l''):Mv a b l l'':=
 ⟨h'.len.trans h.len,h'.perm.trans h.perm,fun k hk=>(h'.out k hk).trans (h.out k hk),fun k h1 h2=>by
  obtain ⟨k',g1,g2,g3⟩:=h'.ins k h1 h2
  obtain ⟨k'',g4,g5,g6⟩:=h.ins k' g1 g2
  exact ⟨k'',g4,g5,g3.trans g6⟩⟩
theorem Mv.wide {a b a' b':Nat} {l l':List Sw} (h:Mv a b l l') (ha:a'≤a) (hb:b≤b'):Mv a' b' l l':=
 ⟨h.len,h.perm,fun k hk=>h.out k (by omega),fun k h1 h2=>by
  by_cases hk:a≤k∧k<b
  ·obtain ⟨k',g1,g2,g3⟩:=h.ins k hk.1 hk.2
   exact ⟨k',by omega,by omega,g3⟩
  ·exact ⟨k,h1,h2,h.out k (by omega)⟩⟩
theorem Is.mv {σ:Nat→Nat} {a b:Nat} {l l':List Sw} (h:Is σ l l') (h1:∀ k,k<a∨b≤k→σ k=k) (h2:∀ k,a≤k→k<b→a≤σ k∧σ k<b):Mv a b l l':=
 ⟨h.len,h.perm,fun k hk=>by rw [h.gg,h1 k hk],fun k g1 g2=>⟨σ k,(h2 k g1 g2).1,(h2 k g1 g2).2,h.gg k⟩⟩
structure COk (cmp:Sw×Sw→Option Int) (le:Sw→Sw→Prop):Prop where
 c:∀ x y,∃ v,cmp (x,y)=some v∧(v<0↔¬ le y x)
 tr:∀ x y z,le x y→le y z→le x z
 tot:∀ x y,le x y∨le y x
def Srt (le:Sw→Sw→Prop) (l:List Sw) (a b:Nat):Prop:=∀ i j,a≤i→i<j→j<b→le (gg l i) (gg l j)
section
variable {cmp:Sw×Sw→Option Int} {le:Sw→Sw→Prop} (ok:COk cmp le)
include ok
theorem COk.rf (x:Sw):le x x:=(ok.tot x x).elim id id
theorem Srt.le' {l:List Sw} {a b:Nat} (h:Srt le l a b) {i j:Nat} (h1:a≤i) (h2:i≤j) (h3:j<b):le (gg l i) (gg l j):=by
 by_cases e:i=j
 ·subst e; exact ok.rf _
 ·exact h i j h1 (by omega) h3
theorem COk.nle {x y:Sw} (h:¬ le x y):le y x:=(ok.tot x y).resolve_left h
theorem ins1 {a i:Nat} {l:List Sw} (hi:i<l.length) (ha:a≤i) (hl:l.length≤1000) (hs:Srt le l a i) :
  ∃ l',iter (kar a cmp) ((i:Int),l)=some l'∧Mv a (i+1) l l'∧Srt le l' a (i+1):=by
 refine kbx (F:=kar a cmp) (fun v=>∃ j:Nat,v.1=j∧a≤j∧j≤i∧Mv a (i+1) l v.2∧∀ x y,a≤x→x<y→y≤i→y≠j→le (gg v.2 x) (gg v.2 y))
  (fun v=>v.1.toNat) (fun l'=>Mv a (i+1) l l'∧Srt le l' a (i+1)) (fun ⟨j',v⟩ ⟨j,hj,h1,h2,hm,hv⟩=>?_) _ ⟨i,rfl,ha,Nat.le_refl _,.refl _ _ _,fun x y g1 g2 g3 g4=>hs x y g1 g2 (by omega)⟩ (by dsimp only; omega)
 dsimp only at hj hm hv ⊢
 subst hj
 unfold kar
 dsimp only
 by_cases hc:a<j
 ·rw [if_pos (by simpa using hc)]
  have b1:j<v.length:=by rw [hm.len]; omega
  have b2:j-1<v.length:=by omega
  rw [w64n (n:=j-1) (by omega) (by omega)]
  obtain ⟨c,hcc,hlt⟩:=ok.c (gg v j) (gg v (j-1))
  rw [gi_gg b1,gi_gg b2]
  simp only [Option.bind_some]
  rw [hcc]
  simp only [Option.bind_some]
  by_cases hneg:c<0
  ·right
   rw [if_pos (by simpa using hneg),kju b1,kju b2]
   simp only [kig,kii,List.getElem?_set,List.length_set]
   rw [if_neg (by omega),List.getElem?_eq_getElem b2]
   simp only [Option.bind_some]
   have his:=Is.swap b1 b2
   have hgt:=hlt.1 hneg
   refine ⟨_,rfl,⟨j-1,rfl,by omega,by omega,hm.trans (his.mv (fun k hk=>?_) (fun k g1 g2=>?_)),fun x y g1 g2 g3 g4=>?_⟩,by dsimp only; omega⟩
   ·rw [if_neg (by omega),if_neg (by omega)]
   ·split
    ·omega
    ·split <;> omega
   ·dsimp only
    rw [his.gg,his.gg]
    by_cases e1:y=j
    ·subst e1
     rw [if_neg (show ¬ y=y-1 by omega),if_pos rfl]
     by_cases e2:x=y-1
     ·rw [if_pos e2]; exact ok.nle hgt
     ·rw [if_neg e2,if_neg (by omega)]; exact hv x (y-1) g1 (by omega) (by omega) (by omega)
    ·rw [if_neg (show ¬ y=j-1 from g4),if_neg e1]
     by_cases e2:x=j-1
     ·rw [if_pos e2]; exact hv j y (by omega) (by omega) g3 e1
     ·rw [if_neg e2]
      by_cases e3:x=j
      ·rw [if_pos e3]; exact hv (j-1) y (by omega) (by omega) g3 e1
      ·rw [if_neg e3]; exact hv x y g1 g2 g3 e1
  ·left
   rw [if_neg (by simpa using hneg)]
   refine ⟨_,rfl,hm,fun x y g1 g2 g3=>?_⟩
   have hle:le (gg v (j-1)) (gg v j):=Classical.byContradiction fun h=>hneg (hlt.2 h)
   by_cases e:y=j
   ·subst e
    by_cases e2:x=y-1
    ·rw [e2]; exact hle
    ·exact ok.tr _ _ _ (hv x (y-1) g1 (by omega) (by omega) (by omega)) hle
   ·exact hv x y g1 g2 (by omega) e
 ·left
  rw [if_neg (by simpa using hc)]
  exact ⟨_,rfl,hm,fun x y g1 g2 g3=>hv x y g1 g2 (by omega) (by omega)⟩
theorem knQ {a b:Nat} {l:List Sw} (ha:a≤1000) (hb:b≤l.length) (hl:l.length≤1000):∃ l',kap a b cmp l=some l'∧Mv a b l l'∧Srt le l' a b:=by
 unfold kap
 by_cases hab:b≤a
 ·refine ⟨l,?_,.refl _ _ _,fun i j h1 h2 h3=>by omega⟩
  rw [w64n (n:=a+1) (by push_cast; rfl) (by omega),kcy (n:=1) (kbf (z:=l) (by unfold kas; dsimp only; rw [if_neg (by simp; omega)])) (by omega)]
  rfl
 ·obtain ⟨z,hz,h1,h2⟩:=kbx (F:=kas a b cmp) (fun v=>∃ i:Nat,v.1=i∧a<i∧i≤b∧Mv a b l v.2∧Srt le v.2 a i)
   (fun v=>b-v.1.toNat) (fun l'=>Mv a b l l'∧Srt le l' a b) (fun ⟨i',v⟩ ⟨i,hi,h1,h2,hm,hv⟩=>by
    dsimp only at hi hm hv ⊢
    subst hi
    unfold kas
    dsimp only
    by_cases hc:i<b
    ·right
     rw [if_pos (by simpa using hc)]
     obtain ⟨l',e,g1,g2⟩:=ins1 ok (a:=a) (i:=i) (l:=v) (by rw [hm.len]; omega) (by omega) (by rw [hm.len]; omega) hv
     rw [e]
     simp only [Option.bind_some]
     rw [w64n (n:=i+1) (by push_cast; rfl) (by omega)]
     exact ⟨_,rfl,⟨i+1,rfl,by omega,by omega,hm.trans (g1.wide (Nat.le_refl _) (by omega)),g2⟩,by dsimp only; omega⟩
    ·left
     rw [if_neg (by simpa using hc)]
     exact ⟨_,rfl,hm,by rwa [show i=b by omega] at hv⟩)
   (((a+1:Nat):Int),l) ⟨a+1,rfl,by omega,by omega,.refl _ _ _,fun i j h1 h2 h3=>by omega⟩ (by dsimp only; omega)
  rw [w64n (n:=a+1) (by push_cast; rfl) (by omega),hz]
  exact ⟨z,rfl,h1,h2⟩
end
end Go.Abs
namespace Go.Abs
open Go
theorem kiE {i j:Nat} (h:i+j≤100000):gshr .u64 (IntKind.wrap .u64 (w64 ((i:Int)+j))) 1=some (((i+j) / 2:Nat):Int):=by
 rw [w64n (n:=i+j) (by push_cast; rfl) (by omega)]
 have hw:IntKind.wrap .u64 ((i+j:Nat):Int)=((i+j:Nat):Int):=by
  unfold IntKind.wrap
  simp [IntKind.bits,IntKind.signed]
  omega
 rw [hw]
 unfold gshr
 rw [if_pos (by omega)]
 have:(2:Int) ^ (min (1:Int).toNat (IntKind.bits .u64))=2:=by decide
 rw [this,Int.fdiv_eq_ediv_of_nonneg _ (by omega)]
 congr 1
section
variable {cmp:Sw×Sw→Option Int} {le:Sw→Sw→Prop} (ok:COk cmp le)
include ok
theorem sm_L0 {a m b:Nat} {l:List Sw} (ha:a<l.length) (hm:m≤b) (hb:b≤l.length) (hl:l.length≤1000) (hs:Srt le l m b) :
  ∃ z,iter (kaC a cmp l) ((m:Int),(b:Int))=some z∧∃ i:Nat,z=i∧m≤i∧i≤b∧(∀ k,m≤k→k<i→¬ le (gg l a) (gg l k))∧∀ k,i≤k→k<b→le (gg l a) (gg l k):=by
 refine kbx (F:=kaC a cmp l) (fun v=>∃ i j:Nat,v.1=i∧v.2=j∧m≤i∧i≤j∧j≤b∧(∀ k,m≤k→k<i→¬ le (gg l a) (gg l k))∧∀ k,j≤k→k<b→le (gg l a) (gg l k))
  (fun v=>v.2.toNat-v.1.toNat) (fun z=>∃ i:Nat,z=i∧m≤i∧i≤b∧(∀ k,m≤k→k<i→¬ le (gg l a) (gg l k))∧∀ k,i≤k→k<b→le (gg l a) (gg l k)) (fun ⟨i',j'⟩ ⟨i,j,hi,hj,h1,h2,h3,h4,h5⟩=>?_) _ ⟨m,b,rfl,rfl,Nat.le_refl _,hm,Nat.le_refl _,fun k g1 g2=>by omega,fun k g1 g2=>by omega⟩ (by dsimp only; omega)
 dsimp only at hi hj ⊢
 subst hi; subst hj
 unfold kaC
 dsimp only
 by_cases hc:i<j
 ·right
  rw [if_pos (by simpa using hc),kiE (by omega)]
  generalize hh:(i+j) / 2=h
  have b1:i≤h:=by omega
  have b2:h<j:=by omega
  simp only [Option.bind_some]
  rw [w64n (x:=(h:Int)) (n:=h) rfl (by omega),gi_gg (show h<l.length by omega),gi_gg ha]
  simp only [Option.bind_some]
  obtain ⟨c,hcc,hlt⟩:=ok.c (gg l h) (gg l a)
  rw [hcc]
  simp only [Option.bind_some]
  by_cases hneg:c<0
  ·rw [if_pos (by simpa using hneg),w64n (n:=h+1) (by push_cast; rfl) (by omega)]
   refine ⟨_,rfl,⟨h+1,j,rfl,rfl,by omega,by omega,h3,fun k g1 g2 hle=>hlt.1 hneg ?_,h5⟩,by dsimp only; omega⟩
   exact ok.tr _ _ _ hle (hs.le' ok g1 (by omega) (by omega))
  ·rw [if_neg (by simpa using hneg)]
   have hle:le (gg l a) (gg l h):=Classical.byContradiction fun x=>hneg (hlt.2 x)
   exact ⟨_,rfl,⟨i,h,rfl,rfl,h1,by omega,by omega,h4,fun k g1 g2=>ok.tr _ _ _ hle (hs.le' ok (by omega) g1 g2)⟩,by dsimp only; omega⟩
 ·left
  rw [if_neg (by simpa using hc)]
  exact ⟨_,rfl,i,rfl,h1,by omega,h4,fun k g1 g2=>h5 k (by omega) g2⟩
theorem sm_L2 {a m:Nat} {l:List Sw} (hm:m<l.length) (ha:a≤m) (hl:l.length≤1000) (hs:Srt le l a m) :
  ∃ z,iter (kaE m cmp l) ((a:Int),(m:Int))=some z∧∃ i:Nat,z=i∧a≤i∧i≤m∧(∀ k,a≤k→k<i→le (gg l k) (gg l m))∧∀ k,i≤k→k<m→¬ le (gg l k) (gg l m):=by
 refine kbx (F:=kaE m cmp l) (fun v=>∃ i j:Nat,v.1=i∧v.2=j∧a≤i∧i≤j∧j≤m∧(∀ k,a≤k→k<i→le (gg l k) (gg l m))∧∀ k,j≤k→k<m→¬ le (gg l k) (gg l m))
  (fun v=>v.2.toNat-v.1.toNat) (fun z=>∃ i:Nat,z=i∧a≤i∧i≤m∧(∀ k,a≤k→k<i→le (gg l k) (gg l m))∧∀ k,i≤k→k<m→¬ le (gg l k) (gg l m)) (fun ⟨i',j'⟩ ⟨i,j,hi,hj,h1,h2,h3,h4,h5⟩=>?_) _ ⟨a,m,rfl,rfl,Nat.le_refl _,ha,Nat.le_refl _,fun k g1 g2=>by omega,fun k g1 g2=>by omega⟩ (by dsimp only; omega)
 dsimp only at hi hj ⊢
 subst hi; subst hj
 unfold kaE
 dsimp only
 by_cases hc:i<j
 ·right
  rw [if_pos (by simpa using hc),kiE (by omega)]
  generalize hh:(i+j) / 2=h
  have b1:i≤h:=by omega
  have b2:h<j:=by omega
  simp only [Option.bind_some]
  rw [w64n (x:=(h:Int)) (n:=h) rfl (by omega),gi_gg (show h<l.length by omega),gi_gg hm]
  simp only [Option.bind_some]
  obtain ⟨c,hcc,hlt⟩:=ok.c (gg l m) (gg l h)
  rw [hcc]
  simp only [Option.bind_some]
  by_cases hneg:c<0
  ·rw [if_neg (by simpa using hneg)]
   exact ⟨_,rfl,⟨i,h,rfl,rfl,h1,by omega,by omega,h4,fun k g1 g2 hle=>hlt.1 hneg (ok.tr _ _ _ (hs.le' ok (by omega) g1 g2) hle)⟩,by dsimp only; omega⟩
  ·rw [if_pos (by simpa using hneg),w64n (n:=h+1) (by push_cast; rfl) (by omega)]
   have hle:le (gg l h) (gg l m):=Classical.byContradiction fun x=>hneg (hlt.2 x)
   exact ⟨_,rfl,⟨h+1,j,rfl,rfl,by omega,by omega,h3,fun k g1 g2=>ok.tr _ _ _ (hs.le' ok g1 (by omega) (by omega)) hle,h5⟩,by dsimp only; omega⟩
 ·left
  rw [if_neg (by simpa using hc)]
  exact ⟨_,rfl,i,rfl,h1,by omega,h4,fun k g1 g2=>h5 k (by omega) g2⟩
theorem sm_L4 {lo hi n m:Nat} {md:Int} {l:List Sw} (hlo:lo≤hi) (hmd:md+m=n) (hm0:0≤md) (hb:hi<n) (hn:n≤l.length+lo) (hhi:hi≤l.length) (hl:l.length≤1000) (hn1:n≤3000) :
  ∃ z,iter (kaB m cmp l md) ((lo:Int),(hi:Int))=some z∧∃ s:Nat,z=s∧lo≤s∧s≤hi∧(lo<s→le (gg l (s-1)) (gg l (n-s)))∧(s<hi→¬ le (gg l s) (gg l (n-1-s))):=by
 refine kbx (F:=kaB m cmp l md) (fun v=>∃ i j:Nat,v.1=i∧v.2=j∧lo≤i∧i≤j∧j≤hi∧(lo<i→le (gg l (i-1)) (gg l (n-i)))∧(j<hi→¬ le (gg l j) (gg l (n-1-j))))
  (fun v=>v.2.toNat-v.1.toNat) (fun z=>∃ s:Nat,z=s∧lo≤s∧s≤hi∧(lo<s→le (gg l (s-1)) (gg l (n-s)))∧(s<hi→¬ le (gg l s) (gg l (n-1-s)))) (fun ⟨i',j'⟩ ⟨i,j,hi',hj,h1,h2,h3,h4,h5⟩=>?_) _ ⟨lo,hi,rfl,rfl,Nat.le_refl _,hlo,Nat.le_refl _,fun g=>by omega,fun g=>by omega⟩ (by dsimp only; omega)
 dsimp only at hi' hj ⊢
 subst hi'; subst hj
 unfold kaB
 dsimp only
 by_cases hc:i<j
 ·right
  rw [if_pos (by simpa using hc),kiE (by omega)]
  generalize hh:(i+j) / 2=h
  have b1:i≤h:=by omega
  have b2:h<j:=by omega
  simp only [Option.bind_some]
  rw [w64n (x:=(h:Int)) (n:=h) rfl (by omega),kao (x:=md) (by omega) (by omega),w64n (x:=md+m) (n:=n) (by omega) (by omega),w64n (x:=(n:Int)-1) (n:=n-1) (by omega) (by omega),w64n (x:=((n-1:Nat):Int)-h) (n:=n-1-h) (by omega) (by omega),gi_gg (show n-1-h<l.length by omega),gi_gg (show h<l.length by omega)]
  simp only [Option.bind_some]
  obtain ⟨c,hcc,hlt⟩:=ok.c (gg l (n-1-h)) (gg l h)
  rw [hcc]
  simp only [Option.bind_some]
  by_cases hneg:c<0
  ·rw [if_neg (by simpa using hneg)]
   exact ⟨_,rfl,⟨i,h,rfl,rfl,h1,by omega,by omega,h4,fun _=>hlt.1 hneg⟩,by dsimp only; omega⟩
  ·rw [if_pos (by simpa using hneg),w64n (n:=h+1) (by push_cast; rfl) (by omega)]
   have hle:le (gg l h) (gg l (n-1-h)):=Classical.byContradiction fun x=>hneg (hlt.2 x)
   exact ⟨_,rfl,⟨h+1,j,rfl,rfl,by omega,by omega,h3,fun _=>by rw [show h+1-1=h by omega,show n-(h+1)=n-1-h by omega]; exact hle,h5⟩,by dsimp only; omega⟩
 ·left
  rw [if_neg (by simpa using hc)]
  obtain rfl:i=j:=by omega
  exact ⟨_,rfl,i,rfl,h1,h3,h4,h5⟩
end
theorem sm_L1 {a i:Nat} {l:List Sw} (ha:a<i) (hi:i≤l.length) (hl:l.length≤1000) :
  ∃ l',iter (kaD i) ((a:Int),l)=some l'∧Is (fun k=>if a≤k∧k<i-1 then k+1 else if k=i-1 then a else k) l l':=by
 refine kbx (F:=kaD i) (fun v=>∃ j:Nat,v.1=j∧a≤j∧j≤i-1∧Is (fun k=>if a≤k∧k<j then k+1 else if k=j then a else k) l v.2)
  (fun v=>i-v.1.toNat) (fun l'=>Is (fun k=>if a≤k∧k<i-1 then k+1 else if k=i-1 then a else k) l l') (fun ⟨j',v⟩ ⟨j,hj,h1,h2,his⟩=>?_) _ ⟨a,rfl,Nat.le_refl _,by omega,(Is.refl l).congr (fun k hk=>by rw [if_neg (by omega)]; split <;> omega) (fun k hk=>by rw [if_neg (by omega),if_neg (by omega)]; exact hk)⟩ (by dsimp only; omega)
 dsimp only at hj his ⊢
 subst hj
 unfold kaD
 dsimp only
 rw [w64n (x:=(i:Int)-1) (n:=i-1) (by omega) (by omega)]
 by_cases hc:j<i-1
 ·right
  have b1:j<v.length:=by rw [his.len]; omega
  have b2:j+1<v.length:=by rw [his.len]; omega
  rw [if_pos (by simpa using hc),w64n (n:=j+1) (by push_cast; rfl) (by omega)]
  simp only [kig,kii,List.getElem?_eq_getElem b1,List.getElem?_eq_getElem b2,Option.bind_some,List.getElem?_set,List.length_set]
  rw [if_neg (by omega)]
  simp only [Option.bind_some]
  refine ⟨_,rfl,⟨j+1,rfl,by omega,by omega,(his.trans (Is.swap b1 b2)).congr (fun k hk=>?_) (fun k hk=>?_)⟩,by dsimp only; omega⟩
  ·repeat' split
   all_goals omega
  ·repeat' split
   all_goals omega
 ·left
  rw [if_neg (by simpa using hc)]
  obtain rfl:j=i-1:=by omega
  exact ⟨_,rfl,his⟩
theorem sm_L3 {m i:Nat} {l:List Sw} (hi:i≤m) (hm:m<l.length) (hl:l.length≤1000) :
  ∃ l',iter (kaF i) ((m:Int),l)=some l'∧Is (fun k=>if k=i then m else if i<k∧k≤m then k-1 else k) l l':=by
 refine kbx (F:=kaF i) (fun v=>∃ j:Nat,v.1=j∧i≤j∧j≤m∧Is (fun k=>if k=j then m else if j<k∧k≤m then k-1 else k) l v.2)
  (fun v=>v.1.toNat) (fun l'=>Is (fun k=>if k=i then m else if i<k∧k≤m then k-1 else k) l l') (fun ⟨j',v⟩ ⟨j,hj,h1,h2,his⟩=>?_) _ ⟨m,rfl,hi,Nat.le_refl _,(Is.refl l).congr (fun k hk=>by split <;> (try split) <;> omega) (fun k hk=>by split <;> (try split) <;> omega)⟩ (by dsimp only; omega)
 dsimp only at hj his ⊢
 subst hj
 unfold kaF
 dsimp only
 by_cases hc:i<j
 ·right
  have b1:j<v.length:=by rw [his.len]; omega
  have b2:j-1<v.length:=by omega
  rw [if_pos (by simpa using hc),w64n (n:=j-1) (by omega) (by omega)]
  simp only [kig,kii,List.getElem?_eq_getElem b1,List.getElem?_eq_getElem b2,Option.bind_some,List.getElem?_set,List.length_set]
  rw [if_neg (by omega)]
  simp only [Option.bind_some]
  refine ⟨_,rfl,⟨j-1,rfl,by omega,by omega,(his.trans (Is.swap b1 b2)).congr (fun k hk=>?_) (fun k hk=>?_)⟩,by dsimp only; omega⟩
  ·repeat' split
   all_goals omega
  ·repeat' split
   all_goals omega
 ·left
  rw [if_neg (by simpa using hc)]
  obtain rfl:j=i:=by omega
  exact ⟨_,rfl,his⟩
end Go.Abs
namespace Go.Abs
open Go
theorem kpZ {s m e k:Nat} (hs:s≤m) (hm:m≤e) (h:¬ (s<m∧m<e)):k=rotF s m e k:=by
 unfold rotF; repeat' split
 all_goals omega
theorem krP {s m e k:Nat} (hs:s≤m) (hm:m≤e) (h:k<s∨e≤k):rotF s m e k=k:=by
 unfold rotF; repeat' split
 all_goals omega
theorem ksR {s m e k:Nat} (hs:s≤m) (hm:m≤e) (h1:s≤k) (h2:k<e):s≤rotF s m e k∧rotF s m e k<e:=by
 unfold rotF; repeat' split
 all_goals omega
section
variable {cmp:Sw×Sw→Option Int} {le:Sw→Sw→Prop} (ok:COk cmp le)
theorem Srt.out {l l':List Sw} {a b x y:Nat} (h:Mv a b l l') (hs:Srt le l x y) (hd:y≤a∨b≤x):Srt le l' x y:=fun i j h1 h2 h3=>by
 rw [h.out i (by omega),h.out j (by omega)]; exact hs i j h1 h2 h3
include ok
theorem keV:∀ (N a m b:Nat) (l:List Sw),b-a≤N→a<m→m<b→b≤l.length→l.length≤1000→Srt le l a m→Srt le l m b→
  ∃ l',kai N a m b cmp l=some l'∧Mv a b l l'∧Srt le l' a b
 | 0,a,m,b,l,hN,h1,h2,h3,hl,s1,s2=>by omega
 | N+1,a,m,b,l,hN,h1,h2,h3,hl,s1,s2=>by
  show ∃ l',kbi (kai N) a m b cmp l=some l'∧_
  unfold kbi
  rw [w64n (x:=(m:Int)-a) (n:=m-a) (by omega) (by omega),w64n (x:=(b:Int)-m) (n:=b-m) (by omega) (by omega)]
  by_cases c1:m-a=1
  ·rw [if_pos (by simpa using (by omega:((m-a:Nat):Int)=1))]
   obtain ⟨z,hz,i,rfl,g1,g2,g3,g4⟩:=sm_L0 ok (a:=a) (by omega) (Nat.le_of_lt h2) h3 hl s2
   rw [hz]
   simp only [Option.bind_some]
   obtain ⟨l',e,his⟩:=sm_L1 (a:=a) (i:=i) (l:=l) (by omega) (by omega) hl
   rw [e]
   refine ⟨l',rfl,his.mv (fun k hk=>?_) (fun k k1 k2=>?_),fun x y k1 k2 k3=>?_⟩
   ·rw [if_neg (by omega),if_neg (by omega)]
   ·repeat' split
    all_goals omega
   ·rw [his.gg,his.gg]
    by_cases e1:y<i-1
    ·rw [if_pos (by omega),if_pos (by omega)]; exact s2 _ _ (by omega) (by omega) (by omega)
    ·by_cases e2:y=i-1
     ·rw [if_pos (show a≤x∧x<i-1 by omega),if_neg (by omega),if_pos e2]
      exact ok.nle (g3 (x+1) (by omega) (by omega))
     ·rw [if_neg (show ¬ (a≤y∧y<i-1) by omega),if_neg e2]
      have hy:le (gg l a) (gg l y):=g4 y (by omega) k3
      by_cases e3:x<i-1
      ·rw [if_pos (by omega)]; exact ok.tr _ _ _ (ok.nle (g3 (x+1) (by omega) (by omega))) hy
      ·rw [if_neg (by omega)]
       by_cases e4:x=i-1
       ·rw [if_pos e4]; exact hy
       ·rw [if_neg e4]; exact s2 x y (by omega) k2 k3
  rw [if_neg (by simpa using (by omega:¬ ((m-a:Nat):Int)=1))]
  by_cases c2:b-m=1
  ·rw [if_pos (by simpa using (by omega:((b-m:Nat):Int)=1))]
   obtain ⟨z,hz,i,rfl,g1,g2,g3,g4⟩:=sm_L2 ok (a:=a) (m:=m) (by omega) (Nat.le_of_lt h1) hl s1
   rw [hz]
   simp only [Option.bind_some]
   obtain ⟨l',e,his⟩:=sm_L3 (m:=m) (i:=i) (l:=l) g2 (by omega) hl
   rw [e]
   refine ⟨l',rfl,his.mv (fun k hk=>?_) (fun k k1 k2=>?_),fun x y k1 k2 k3=>?_⟩
   ·rw [if_neg (by omega),if_neg (by omega)]
   ·repeat' split
    all_goals omega
   ·rw [his.gg,his.gg]
    by_cases e1:y<i
    ·rw [if_neg (by omega),if_neg (by omega),if_neg (by omega),if_neg (by omega)]; exact s1 _ _ k1 k2 (by omega)
    ·by_cases e2:y=i
     ·rw [if_neg (show ¬ x=i by omega),if_neg (by omega),if_pos e2]
      exact g3 x k1 (by omega)
     ·rw [if_neg e2,if_pos (show i<y∧y≤m by omega)]
      by_cases e3:x<i
      ·rw [if_neg (by omega),if_neg (by omega)]
       exact s1 x (y-1) k1 (by omega) (by omega)
      ·by_cases e4:x=i
       ·rw [if_pos e4]
        exact ok.nle (g4 (y-1) (by omega) (by omega))
       ·rw [if_neg e4,if_pos (by omega)]
        exact s1 (x-1) (y-1) (by omega) (by omega) (by omega)
  rw [if_neg (by simpa using (by omega:¬ ((b-m:Nat):Int)=1)),kiE (by omega)]
  generalize hmid:(a+b) / 2=mid
  simp only [Option.bind_some]
  rw [w64n (x:=(mid:Int)) (n:=mid) rfl (by omega),w64n (x:=(mid:Int)+m) (n:=mid+m) (by push_cast; rfl) (by omega)]
  obtain ⟨lo,hi,hst,q1,q2,q3,q4,q5,q6⟩:∃ lo hi:Nat,(if decide ((mid:Int)<(m:Int))=true then (some (w64 (((mid+m:Nat):Int)-b),(mid:Int)):Option (Int×Int)) else some ((a:Int),(m:Int)))=some ((lo:Int),(hi:Int))∧lo≤hi∧hi<mid+m∧mid+m≤l.length+lo∧hi≤l.length∧(hi=m∧m≤mid∨hi=mid∧mid<m)∧(lo=a∧m≤mid∨lo+b=mid+m∧mid<m):=by
   by_cases hc:mid<m
   ·refine ⟨mid+m-b,mid,?_,by omega,by omega,by omega,by omega,.inr ⟨rfl,hc⟩,.inr ⟨by omega,hc⟩⟩
    rw [if_pos (by simpa using hc),w64n (n:=mid+m-b) (by omega) (by omega)]
   ·exact ⟨a,m,by rw [if_neg (by simpa using hc)],by omega,by omega,by omega,by omega,.inl ⟨rfl,by omega⟩,.inl ⟨rfl,by omega⟩⟩
  rw [hst]
  simp only [Option.bind_some]
  obtain ⟨z,hz,s,rfl,r1,r2,r3,r4⟩:=sm_L4 ok (l:=l) (lo:=lo) (hi:=hi) (n:=mid+m) (m:=m) (md:=mid) q1 (by push_cast; rfl) (by omega) q2 q3 q4 hl (by omega)
  rw [hz]
  simp only [Option.bind_some]
  obtain ⟨e,he⟩:∃ e,e=mid+m-s:=⟨_,rfl⟩
  rw [w64n (x:=((mid+m:Nat):Int)-s) (n:=e) (by omega) (by omega)]
  have hes:e+s=mid+m:=by omega
  have has:a≤s:=by omega
  have hsm:s≤m:=by omega
  have hsd:s≤mid:=by omega
  have hem:m≤e:=by omega
  have hed:mid≤e:=by omega
  have heb:e≤b:=by omega
  rw [show mid+m-s=e by omega,show mid+m-1-s=e-1 by omega] at *
  obtain ⟨l1,hrot,his⟩:∃ l1,((if decide ((s:Int)<(m:Int))=true then (some (decide ((m:Int)<(e:Int))):Option Bool) else some false).bind fun v42=>((if v42=true then ((kaw s m e cmp l).bind fun v43=>some v43) else some l):Option (List Sw)))=some l1∧Is (rotF s m e) l l1:=by
   by_cases hc:s<m∧m<e
   ·rw [if_pos (by simpa using hc.1)]
    simp only [Option.bind_some]
    rw [if_pos (by simpa using hc.2)]
    obtain ⟨l1,h4,h5⟩:=kpx s m e cmp l hc.1 hc.2 (by omega) hl
    exact ⟨l1,by rw [h4]; rfl,h5⟩
   ·refine ⟨l,?_,(Is.refl l).congr (fun k hk=>kpZ hsm hem hc) (fun k hk=>by rw [←kpZ hsm hem hc]; exact hk)⟩
    by_cases hc1:s<m
    ·rw [if_pos (by simpa using hc1)]
     simp only [Option.bind_some]
     rw [if_neg (by simp; omega)]
    ·rw [if_neg (by simpa using hc1)]; rfl
  obtain ⟨v42,hv42,hrot⟩:=Option.bind_eq_some_iff.1 hrot
  rw [hv42]
  simp only [Option.bind_some]
  rw [hrot]
  simp only [Option.bind_some]
  have hlen1:=his.len
  have p1:Srt le l1 a s:=fun x y k1 k2 k3=>by
   rw [his.gg,his.gg]; unfold rotF; rw [if_pos (by omega),if_pos (by omega)]; exact s1 x y k1 k2 (by omega)
  have p2:Srt le l1 s mid:=fun x y k1 k2 k3=>by
   rw [his.gg,his.gg]; unfold rotF
   rw [if_neg (by omega),if_pos (by omega),if_neg (by omega),if_pos (by omega)]; exact s2 _ _ (by omega) (by omega) (by omega)
  have p3:Srt le l1 mid e:=fun x y k1 k2 k3=>by
   rw [his.gg,his.gg]; unfold rotF
   rw [if_neg (by omega),if_neg (by omega),if_pos (by omega),if_neg (by omega),if_neg (by omega),if_pos (by omega)]; exact s1 _ _ (by omega) (by omega) (by omega)
  have p4:Srt le l1 e b:=fun x y k1 k2 k3=>by
   rw [his.gg,his.gg]; unfold rotF
   rw [if_neg (by omega),if_neg (by omega),if_neg (by omega),if_neg (by omega),if_neg (by omega),if_neg (by omega)]; exact s2 _ _ (by omega) k2 k3
  have cross:∀ x y,a≤x→x<mid→mid≤y→y<b→le (gg l1 x) (gg l1 y):=fun x y k1 k2 k3 k4=>by
   rw [his.gg,his.gg]
   unfold rotF
   by_cases f1:x<s
   ·rw [if_pos f1,if_neg (by omega),if_neg (by omega)]
    by_cases f2:y<e
    ·rw [if_pos f2]; exact s1.le' ok k1 (by omega) (by omega)
    ·rw [if_neg f2]
     exact ok.tr _ _ _ (s1.le' ok (i:=x) (j:=s-1) k1 (by omega) (by omega)) (ok.tr _ _ _ (r3 (by omega)) (s2.le' ok (i:=e) (j:=y) (by omega) (by omega) k4))
   ·rw [if_neg f1,if_pos (by omega),if_neg (by omega),if_neg (by omega)]
    by_cases f2:y<e
    ·rw [if_pos f2]
     exact ok.tr _ _ _ (s2.le' ok (i:=x+(m-s)) (j:=e-1) (by omega) (by omega) (by omega)) (ok.tr _ _ _ (ok.nle (r4 (by omega))) (s1.le' ok (i:=s) (j:=y-(e-m)) (by omega) (by omega) (by omega)))
    ·rw [if_neg f2]; exact s2.le' ok (by omega) (by omega) k4
  have m1:Mv a b l l1:=(his.mv (a:=s) (b:=e) (fun k hk=>krP hsm hem hk) (fun k k1 k2=>ksR hsm hem k1 k2)).wide has heb
  obtain ⟨l2,hl2,m2,t2⟩:∃ l2,((if decide ((a:Int)<(s:Int))=true then (some (decide ((s:Int)<(mid:Int))):Option Bool) else some false).bind fun v45=>((if v45=true then ((kai N a s mid cmp l1).bind fun v46=>some v46) else some l1):Option (List Sw)))=some l2∧Mv a mid l1 l2∧Srt le l2 a mid:=by
   by_cases hc:a<s∧s<mid
   ·rw [if_pos (by simpa using hc.1)]
    simp only [Option.bind_some]
    rw [if_pos (by simpa using hc.2)]
    obtain ⟨l2,h4,h5,h6⟩:=keV N a s mid l1 (by omega) hc.1 hc.2 (by omega) (by omega) p1 p2
    exact ⟨l2,by rw [h4]; rfl,h5,h6⟩
   ·refine ⟨l1,?_,.refl _ _ _,fun x y k1 k2 k3=>?_⟩
    ·by_cases hc1:a<s
     ·rw [if_pos (by simpa using hc1)]
      simp only [Option.bind_some]
      rw [if_neg (by simp; omega)]
     ·rw [if_neg (by simpa using hc1)]; rfl
    ·by_cases hc1:a<s
     ·exact p1 x y k1 k2 (by omega)
     ·exact p2 x y (by omega) k2 k3
  obtain ⟨v45,hv45,hl2⟩:=Option.bind_eq_some_iff.1 hl2
  rw [hv45]
  simp only [Option.bind_some]
  rw [hl2]
  simp only [Option.bind_some]
  have hlen2:=m2.len
  have p3':=p3.out m2 (.inr (Nat.le_refl _))
  have p4':=p4.out m2 (.inr hed)
  obtain ⟨l3,hl3,m3,t3⟩:∃ l3,((if decide ((mid:Int)<(e:Int))=true then (if decide ((e:Int)<(b:Int))=true then ((kai N mid e b cmp l2).bind fun v48=>some v48) else some l2) else some l2):Option (List Sw))=some l3∧Mv mid b l2 l3∧Srt le l3 mid b:=by
   by_cases hc:mid<e∧e<b
   ·rw [if_pos (by simpa using hc.1),if_pos (by simpa using hc.2)]
    obtain ⟨l3,h4,h5,h6⟩:=keV N mid e b l2 (by omega) hc.1 hc.2 (by omega) (by omega) p3' p4'
    exact ⟨l3,by rw [h4]; rfl,h5,h6⟩
   ·refine ⟨l2,?_,.refl _ _ _,fun x y k1 k2 k3=>?_⟩
    ·by_cases hc1:mid<e
     ·rw [if_pos (by simpa using hc1),if_neg (by simp; omega)]
     ·rw [if_neg (by simpa using hc1)]
    ·by_cases hc1:mid<e
     ·exact p3' x y k1 k2 (by omega)
     ·exact p4' x y (by omega) k2 k3
  rw [hl3]
  refine ⟨l3,rfl,m1.trans ((m2.wide (Nat.le_refl _) (by omega)).trans (m3.wide (by omega) (Nat.le_refl _))),fun x y k1 k2 k3=>?_⟩
  by_cases f1:y<mid
  ·exact t2.out m3 (.inl (Nat.le_refl _)) x y k1 k2 f1
  ·by_cases f2:mid≤x
   ·exact t3 x y f2 k2 k3
   ·rw [m3.out x (by omega)]
    obtain ⟨y',y1,y2,y3⟩:=m3.ins y (by omega) k3
    obtain ⟨x',x1,x2,x3⟩:=m2.ins x k1 (by omega)
    rw [y3,x3,m2.out y' (by omega)]
    exact cross x' y' x1 x2 y1 y2
end
end Go.Abs
namespace Go.Abs
open Go
theorem kkW {q q' c:Nat} (h:q'<q):q'*c+c≤q*c:=by
 have:(q'+1)*c≤q*c:=Nat.mul_le_mul_right c h
 rwa [Nat.succ_mul] at this
section
variable {cmp:Sw×Sw→Option Int} {le:Sw→Sw→Prop} (ok:COk cmp le)
def Blks (le:Sw→Sw→Prop) (n bs:Nat) (l:List Sw):Prop:=∀ q,Srt le l (q*bs) (min n (q*bs+bs))
theorem Srt.sub {l:List Sw} {a b a' b':Nat} (h:Srt le l a b) (ha:a≤a') (hb:b'≤b):Srt le l a' b':=fun i j h1 h2 h3=>h i j (by omega) h2 (by omega)
include ok
theorem krv {n:Nat} {l:List Sw} (hn:n=l.length) (hl:l.length≤1000) :
  ∃ z,iter (kaM n cmp) (20,0,l)=some z∧∃ a:Nat,z.1=a∧a≤n∧n<a+20∧Mv 0 n l z.2∧∀ q,q*20+20≤a∧Srt le z.2 (q*20) (q*20+20)∨q*20=a∨n<q*20:=by
 refine kbx (F:=kaM n cmp) (fun v=>∃ q:Nat,v.1=((q*20+20:Nat):Int)∧v.2.1=((q*20:Nat):Int)∧q*20≤n∧Mv 0 n l v.2.2∧∀ q',q'<q→Srt le v.2.2 (q'*20) (q'*20+20))
  (fun v=>n+20-v.1.toNat) _ (fun ⟨b',a',v⟩ ⟨q,hb,ha,h1,hm,hs⟩=>?_) _ ⟨0,rfl,rfl,by omega,.refl _ _ _,fun q' h=>by omega⟩ (by dsimp only; omega)
 dsimp only at hb ha hm hs ⊢
 subst hb; subst ha
 unfold kaM
 dsimp only
 by_cases hc:q*20+20≤n
 ·right
  rw [if_pos (by simp only [decide_eq_true_eq]; omega)]
  obtain ⟨v',e,g1,g2⟩:=knQ ok (a:=q*20) (b:=q*20+20) (l:=v) (by omega) (by rw [hm.len]; omega) (by rw [hm.len]; omega)
  rw [e]
  simp only [Option.bind_some]
  rw [w64n (n:=(q+1)*20+20) (by omega) (by omega)]
  refine ⟨_,rfl,⟨q+1,rfl,by dsimp only; omega,by omega,hm.trans (g1.wide (by omega) hc),fun q' h=>?_⟩,by dsimp only; omega⟩
  by_cases e:q'=q
  ·subst e; exact g2
  ·exact (hs q' (by omega)).out g1 (.inl (by omega))
 ·left
  rw [if_neg (by simp only [decide_eq_true_eq]; omega)]
  refine ⟨_,rfl,q*20,rfl,h1,by omega,hm,fun q'=>?_⟩
  rcases Nat.lt_trichotomy q' q with h | h | h
  ·exact .inl ⟨by omega,hs q' h⟩
  ·exact .inr (.inl (by omega))
  ·exact .inr (.inr (by omega))
theorem krh {n bs:Nat} {l:List Sw} (w:Int×List Sw) (hw:w.1=bs) (hbs:0<bs) (hbn:bs<n) (hn:n=l.length) (hl:l.length≤1000) (hB:Blks le n bs l) :
  ∃ z,iter (kaO n cmp w) (((2*bs:Nat):Int),0,l)=some z∧∃ q:Nat,z.1=((q*(2*bs):Nat):Int)∧q*(2*bs)≤n∧n<q*(2*bs)+2*bs∧Mv 0 n l z.2∧(∀ q',q'<q→Srt le z.2 (q'*(2*bs)) (q'*(2*bs)+2*bs))∧∀ q',q*(2*bs)≤q'*bs→Srt le z.2 (q'*bs) (min n (q'*bs+bs)):=by
 refine kbx (F:=kaO n cmp w) (fun v=>∃ q:Nat,v.1=((q*(2*bs)+2*bs:Nat):Int)∧v.2.1=((q*(2*bs):Nat):Int)∧q*(2*bs)≤n∧Mv 0 n l v.2.2∧(∀ q',q'<q→Srt le v.2.2 (q'*(2*bs)) (q'*(2*bs)+2*bs))∧∀ q',q*(2*bs)≤q'*bs→Srt le v.2.2 (q'*bs) (min n (q'*bs+bs)))
  (fun v=>n+2*bs-v.1.toNat) _ (fun ⟨b',a',v⟩ ⟨q,hb,ha,h1,hm,hs,hr⟩=>?_) _ ⟨0,by dsimp only; simp,by dsimp only; simp,by omega,.refl _ _ _,fun q' h=>by omega,fun q' _=>hB q'⟩ (by dsimp only; omega)
 dsimp only at hb ha hm hs hr ⊢
 subst hb; subst ha
 unfold kaO
 dsimp only
 have e1:(2*q)*bs=q*(2*bs):=by rw [Nat.mul_comm 2 q,Nat.mul_assoc]
 have e2:(2*q+1)*bs=q*(2*bs)+bs:=by rw [Nat.succ_mul,e1]
 by_cases hc:q*(2*bs)+2*bs≤n
 ·right
  generalize hA:q*(2*bs)=A at *
  rw [if_pos (by simp only [decide_eq_true_eq]; omega),hw,w64n (x:=(A:Int)+bs) (n:=A+bs) (by push_cast; rfl) (by omega),w64n (x:=2*(bs:Int)) (n:=2*bs) (by omega) (by omega),w64n (x:=((A+2*bs:Nat):Int)+((2*bs:Nat):Int)) (n:=A+2*bs+2*bs) (by omega) (by omega)]
  have r1:=hr (2*q) (by omega)
  have r2:=hr (2*q+1) (by omega)
  rw [e1] at r1
  rw [e2] at r2
  obtain ⟨v',e,g1,g2⟩:=keV ok 1000000 A (A+bs) (A+2*bs) v (by omega) (by omega) (by omega) (by rw [hm.len]; omega) (by rw [hm.len]; omega) (r1.sub (Nat.le_refl _) (by omega)) (r2.sub (Nat.le_refl _) (by omega))
  have e':kat A ((A+bs:Nat):Int) ((A+2*bs:Nat):Int) cmp v=some v':=e
  rw [e']
  simp only [Option.bind_some]
  have e3:(q+1)*(2*bs)=A+2*bs:=by rw [Nat.succ_mul,hA]
  refine ⟨_,rfl,⟨q+1,by dsimp only; rw [e3],by dsimp only; rw [e3],by omega,hm.trans (g1.wide (by omega) hc),fun q' h=>?_,fun q' h=>?_⟩,by dsimp only; omega⟩
  ·by_cases e:q'=q
   ·subst e; rw [hA]; exact g2
   ·refine (hs q' (by omega)).out g1 (.inl ?_)
    have:=kkW (c:=2*bs) (show q'<q by omega)
    omega
  ·rw [e3] at h
   exact (hr q' (by omega)).out g1 (.inr h)
 ·left
  rw [if_neg (by simp only [decide_eq_true_eq]; omega)]
  exact ⟨_,rfl,q,rfl,h1,by omega,hm,hs,hr⟩
theorem kpv {l:List Sw} (hl:l.length≤1000):∃ l',kaU (lenI l) cmp l=some l'∧l'.Perm l∧Srt le l' 0 l.length:=by
 unfold kaU
 rw [kbj]
 obtain ⟨⟨z1,z2⟩,hz,a,ha,h1,h2,hm,hq⟩:=krv ok (n:=l.length) (l:=l) rfl hl
 dsimp only at ha hm hq
 subst ha
 rw [hz]
 simp only [Option.bind_some]
 obtain ⟨v,e,g1,g2⟩:=knQ ok (a:=a) (b:=l.length) (l:=z2) (by omega) (by rw [hm.len]; omega) (by rw [hm.len]; omega)
 rw [e]
 simp only [Option.bind_some]
 have hB:Blks le l.length 20 v:=fun q=>by
  rcases hq q with ⟨h3,h4⟩ | h3 | h3
  ·exact (h4.out g1 (.inl h3)).sub (Nat.le_refl _) (by omega)
  ·rw [h3]; exact g2.sub (Nat.le_refl _) (by omega)
  ·intro i j k1 k2 k3; omega
 have hM:Mv 0 l.length l v:=hm.trans (g1.wide (by omega) (Nat.le_refl _))
 obtain ⟨z,hz,hR⟩:=kbx (F:=kbm l.length cmp) (fun v=>∃ bs:Nat,v.1=bs∧0<bs∧bs≤100000∧Mv 0 l.length l v.2∧Blks le l.length bs v.2)
  (fun v=>l.length-v.1.toNat) (fun l'=>l'.Perm l∧Srt le l' 0 l.length) (fun ⟨b',v⟩ ⟨bs,hbs,h1,h2,hm,hB⟩=>by
   dsimp only at hbs hm hB ⊢
   subst hbs
   unfold kbm
   dsimp only
   by_cases hc:bs<l.length
   ·right
    rw [if_pos (by simp only [decide_eq_true_eq]; omega),w64n (x:=2*(bs:Int)) (n:=2*bs) (by omega) (by omega)]
    obtain ⟨⟨z1,z2⟩,hz,q,hq,k1,k2,hm2,hs,hr⟩:=krh ok (n:=l.length) (bs:=bs) (l:=v) ((bs:Int),v) rfl h1 hc hm.len.symm (by rw [hm.len]; exact hl) hB
    dsimp only at hq hm2 hs hr
    subst hq
    rw [hz]
    simp only [Option.bind_some]
    have e1:(2*q)*bs=q*(2*bs):=by rw [Nat.mul_comm 2 q,Nat.mul_assoc]
    have e2:(2*q+1)*bs=q*(2*bs)+bs:=by rw [Nat.succ_mul,e1]
    have fin:∀ v':List Sw,Mv (q*(2*bs)) l.length z2 v'→Srt le v' (q*(2*bs)) l.length→Mv 0 l.length l v'∧Blks le l.length (2*bs) v':=fun v' g1 g2=>by
     refine ⟨hm.trans (hm2.trans (g1.wide (by omega) (Nat.le_refl _))),fun q'=>?_⟩
     rcases Nat.lt_trichotomy q' q with h | h | h
     ·have:=kkW (c:=2*bs) h
      exact ((hs q' h).out g1 (.inl this)).sub (Nat.le_refl _) (by omega)
     ·subst h; exact g2.sub (Nat.le_refl _) (by omega)
     ·have:=kkW (c:=2*bs) h
      intro i j g1 g2 g3; omega
    generalize hA:q*(2*bs)=A at *
    have r1:=hr (2*q) (by omega)
    have r2:=hr (2*q+1) (by omega)
    rw [e1] at r1
    rw [e2] at r2
    rw [w64n (x:=(A:Int)+bs) (n:=A+bs) (by push_cast; rfl) (by omega),w64n (x:=(bs:Int)*2) (n:=2*bs) (by omega) (by omega)]
    by_cases hd:A+bs<l.length
    ·rw [if_pos (by simp only [decide_eq_true_eq]; omega)]
     obtain ⟨v',e,g1,g2⟩:=keV ok 1000000 A (A+bs) l.length z2 (by omega) (by omega) hd (by rw [hm2.len,hm.len]; exact Nat.le_refl _) (by rw [hm2.len,hm.len]; exact hl) (r1.sub (Nat.le_refl _) (by omega)) (r2.sub (Nat.le_refl _) (by omega))
     have e':kat A ((A+bs:Nat):Int) l.length cmp z2=some v':=e
     rw [e']
     simp only [Option.bind_some]
     obtain ⟨f1,f2⟩:=fin v' g1 g2
     exact ⟨_,rfl,⟨2*bs,rfl,by omega,by omega,f1,f2⟩,by dsimp only; omega⟩
    ·rw [if_neg (by simp only [decide_eq_true_eq]; omega)]
     obtain ⟨f1,f2⟩:=fin z2 (.refl _ _ _) (r1.sub (Nat.le_refl _) (by omega))
     exact ⟨_,rfl,⟨2*bs,rfl,by omega,by omega,f1,f2⟩,by dsimp only; omega⟩
   ·left
    rw [if_neg (by simp only [decide_eq_true_eq]; omega)]
    refine ⟨_,rfl,hm.perm,?_⟩
    have:=hB 0
    rw [Nat.zero_mul] at this
    exact this.sub (Nat.le_refl _) (by omega))
  (20,v) ⟨20,rfl,by omega,by omega,hM,hB⟩ (by dsimp only; omega)
 rw [hz]
 exact ⟨z,rfl,hR⟩
end
end Go.Abs
namespace Go.Abs
open Go
theorem ksZ (a b:Int):kfr [a,b]=some (if a≠0 then a else b):=by
 unfold kfr
 rw [kfm (F:=keY [a,b]) [a,b] (by simp) (fun i x=>if x != 0 then some x else none) (fun i hi=>by
  unfold keY
  have h2:i<2:=by simpa using hi
  rw [if_pos (by rw [kbj]; simp; omega),kbs hi,kbB (by omega)]
  simp only [Option.bind_some]
  by_cases h:([a,b][i] != 0)=true <;> simp [h,nextL]) (by unfold keY; rw [if_neg (by simp [kbj])])]
 simp only [List.zipIdx_cons,List.zipIdx_nil,List.findSome?_cons,List.findSome?_nil]
 by_cases ha:a=0
 ·by_cases hb:b=0 <;> simp [ha,hb,endL]
 ·simp [ha,endL]
theorem khT (a b:Int):kcL a b=some (if a<b then -1 else if b<a then 1 else 0):=by
 unfold kcL keW
 simp only [Option.bind_some,bne_self_eq_false,Bool.false_eq_true,if_false,decide_eq_true_eq]
 split
 ·rfl
 ·split <;> rfl
def sle (x y:Sw):Prop:=x.1<y.1∨x.1=y.1∧x.2.1≤y.2.1
abbrev how10:Sw×Sw→Option Int:=fun u0=>(keH u0.1 u0.2).bind fun u1=>some u1
theorem kso:COk how10 sle:=by
 refine ⟨fun x y=>?_,fun x y z h1 h2=>?_,fun x y=>?_⟩
 ·refine ⟨if (if x.1<y.1 then (-1:Int) else if y.1<x.1 then 1 else 0)≠0 then (if x.1<y.1 then (-1:Int) else if y.1<x.1 then 1 else 0) else (if x.2.1<y.2.1 then (-1:Int) else if y.2.1<x.2.1 then 1 else 0),?_,?_⟩
  ·show ((keH x y).bind fun u1=>some u1)=_
   unfold keH
   rw [khT,khT]
   simp only [Option.bind_some]
   rw [ksZ]
   rfl
  ·unfold sle
   repeat' split
   all_goals omega
 ·unfold sle at *; omega
 ·unfold sle; omega
theorem Srt.pw {le:Sw→Sw→Prop} {l:List Sw} (h:Srt le l 0 l.length):l.Pairwise le:=by
 rw [List.pairwise_iff_getElem]
 intro i j hi hj hij
 have:=h i j (by omega) hij hj
 rwa [kju hi,kju hj] at this
theorem kqI (l:List Sw) (hl:l.length≤1000):∃ l',kbH how10 l=some l'∧l'.Perm l∧l'.Pairwise sle:=by
 unfold kbH kaK
 obtain ⟨l',e,h1,h2⟩:=kpv kso (l:=l) hl
 rw [e]
 exact ⟨l',rfl,h1,Srt.pw (by rw [h1.length_eq]; exact h2)⟩
def ktq (x t:Sw):Bool:=decide (t.1<x.1)||(t.1==x.1&&decide (t.2.1<x.2.1))
def Apart (S:List Sw):Prop:=S.Pairwise fun s t=>s.2.1=t.2.1→s.1<t.1
theorem Apart.anti {S:List Sw} (h:Apart S):∀ {x y:Sw},x∈S→y∈S→sle x y→sle y x→x=y:=by
 induction S with
 | nil=>intro x y hx; cases hx
 | cons s S ih=>
  obtain ⟨h1,h2⟩:=List.pairwise_cons.1 h
  intro x y hx hy hxy hyx
  have hk:x.1=y.1∧x.2.1=y.2.1:=by unfold sle at *; omega
  rcases List.mem_cons.1 hx with ex | hx <;> rcases List.mem_cons.1 hy with ey | hy
  ·rw [ex,ey]
  ·have:=h1 y hy (by rw [←ex]; exact hk.2); rw [←ex] at this; omega
  ·have:=h1 x hx (by rw [←ey]; exact hk.2.symm); rw [←ey] at this; omega
  ·exact ih h2 hx hy hxy hyx
theorem krJ {S a b:List Sw} (h:Apart S) (ha:a.Perm S) (hb:b.Perm S) (pa:a.Pairwise sle) (pb:b.Pairwise sle):a=b:=
 List.Perm.eq_of_pairwise (le:=sle) (fun x y hx hy h1 h2=>h.anti (ha.mem_iff.1 hx) (hb.mem_iff.1 hy) h1 h2) pa pb (ha.trans hb.symm)
end Go.Abs
namespace Go.Abs
open Go
theorem kjZ (v:Int→Int):∀ (k:Nat) (x b m:Int),0≤x→x+k≤16→-1≤b→b≤15→-1≤(scanF v k x b m).1∧(scanF v k x b m).1≤15
 | 0,x,b,m,h0,h1,h2,h3=>⟨h2,h3⟩
 | k+1,x,b,m,h0,h1,h2,h3=>by
  simp only [scanF]
  split
  ·exact kjZ v k _ _ _ (by omega) (by omega) (by omega) (by omega)
  ·split
   ·exact kjZ v k _ _ _ (by omega) (by omega) (by omega) (by omega)
   ·exact kjZ v k _ _ _ (by omega) (by omega) h2 h3
theorem kmh (l:List Int):-1≤seenR l∧seenR l≤15:=kjZ _ 16 0 (-1) 0 (by omega) (by omega) (by omega) (by omega)
theorem klf {α:Type} (p:α→Bool):∀ (l:List α) (k:Nat),endL ((l.zipIdx k).findSome? fun x=>if p x.1 then some (x.2:Int) else none)=(if 0≤idxF p l (k:Int) then .inl (idxF p l (k:Int)) else .inr ())
 | [],k=>rfl
 | x::l,k=>by
  rw [List.zipIdx_cons,List.findSome?_cons]
  simp only [idxF]
  by_cases hp:p x=true
  ·simp [hp,endL]
  ·simp only [if_neg hp]
   rw [klf p l (k+1)]
   rfl
theorem kpV {α:Type} (p:α→Bool) (l:List α):(match (if 0≤idxF p l 0 then (.inl (idxF p l 0)) else .inr ():Int⊕Unit) with | .inl v4=>(some v4) | .inr _=>(some (-1)))=some (idxF p l 0):=by
 rcases kjW p l 0 (by omega) with h | h
 ·rw [if_pos h]
 ·rw [if_neg (by omega),h]
theorem kqR (l:List (Int×Int)) (f:(Int×Int)→Option Bool) (p:(Int×Int)→Bool) (h:∀ g∈l,f g=some (p g)) (hl:l.length≤100000):kaN l f=some (idxF p l 0):=by
 unfold kaN
 rw [kfm (F:=kay l f) l (by omega) (fun i x=>if p x then some (i:Int) else none) (fun i hi=>by
  unfold kay
  rw [if_pos (lenI_lt.2 hi),kbs hi,kbB (by omega)]
  simp only [Option.bind_some]
  rw [h _ (List.getElem_mem _)]
  simp only [Option.bind_some]
  by_cases h:p l[i]=true <;> simp [h,nextL]) (by unfold kay; rw [if_neg kbc])]
 simp only [Option.bind_some]
 rw [klf p l 0]
 exact kpV p l
theorem kpo (l:List Fed) (f:Fed→Option Bool) (p:Fed→Bool) (h:∀ g∈l,f g=some (p g)) (hl:l.length≤100000):kaJ l f=some (l.any p):=by
 unfold kaJ kbw
 rw [kfm (F:=kaI l f) l (by omega) (fun i x=>if p x then some (i:Int) else none) (fun i hi=>by
  unfold kaI
  rw [if_pos (lenI_lt.2 hi),kbs hi,kbB (by omega)]
  simp only [Option.bind_some]
  rw [h _ (List.getElem_mem _)]
  simp only [Option.bind_some]
  by_cases h:p l[i]=true <;> simp [h,nextL]) (by unfold kaI; rw [if_neg kbc])]
 simp only [Option.bind_some]
 rw [klf p l 0]
 have e:=kpV p l
 refine Eq.trans (congrArg (fun o:Option Int=>o.bind fun v0=>some (decide (0≤v0))) e) ?_
 simp only [Option.bind_some,Option.some.injEq]
 have:∀ (l:List Fed) (k:Int),0≤k→decide (0≤idxF p l k)=l.any p:=by
  intro l
  induction l with
  | nil=>intro k hk; simp [idxF]
  | cons x l ih=>
   intro k hk
   simp only [idxF,List.any_cons]
   by_cases hp:p x=true
   ·simp [hp,hk]
   ·rw [Bool.not_eq_true] at hp
    simp only [hp,Bool.false_eq_true,if_false,Bool.false_or]; exact ih (k+1) (by omega)
 exact this l 0 (by omega)
structure BeltOk (b:Belt):Prop where
 l0:2≤b.1
 l1:b.1≤100
 c0:0≤b.2.1
 c1:b.2.1≤98
 s0:0≤b.2.2.1
 s1:b.2.2.1≤10
 gl:b.2.2.2.1.length≤8
 bl:b.2.2.2.2.length=16
 bb:∀ x∈b.2.2.2.2,-1≤x∧x≤7
 gb:∀ g∈b.2.2.2.1,0≤g.1∧g.1≤99∧0≤g.2∧g.2≤7
theorem klX (hi:Int):∀ (l:List (Int×Int)) (m:Int) (s:List Int),0≤m→kgM hi l m s=true→∀ g∈l,0≤g.1∧g.1≤hi∧0≤g.2∧g.2≤7
 | [],m,s,hm,h,g,hg=>by cases hg
 | x::r,m,s,hm,h,g,hg=>by
  rw [kkF] at h
  simp only [Bool.and_eq_true] at h
  obtain ⟨⟨⟨h1,h2⟩,h3⟩,h4⟩:=h
  rw [wi_iff] at h1 h2
  rcases List.mem_cons.1 hg with rfl | hg
  ·exact ⟨by omega,by omega,h2.1,h2.2⟩
  ·exact klX hi r _ _ (by omega) h4 g hg
theorem klb {b:Belt} (h:beltR b=true):BeltOk b:=by
 unfold beltR at h
 simp only [Bool.and_eq_true,decide_eq_true_eq,List.all_eq_true] at h
 obtain ⟨⟨⟨⟨⟨⟨h1,h2⟩,h3⟩,h4⟩,h5⟩,h6⟩,h7⟩:=h
 rw [wi_iff] at h1 h2 h3
 have hg:=klX _ _ _ _ (by omega) h7
 refine ⟨h1.1,h1.2,h2.1,by omega,h3.1,h3.2,by omega,by omega,fun x hx=>wi_iff.1 (h6 x hx),fun g hg'=>?_⟩
 obtain ⟨a1,a2,a3,a4⟩:=hg g hg'
 exact ⟨a1,by omega,a3,a4⟩
def fedOk (x:Fed):Prop:=x.2.2.length≤1000∧∀ t∈x.2.2,t≤15
def gateK (b:Belt) (k:Int):Int:=if k<0 then -1 else kjp b ((b.2.2.2.2[k.toNat]?).getD (-1))
def gateF (b:Belt) (x:Fed):Int:=gateK b (seenR x.2.2)
theorem kmS {α:Type} (p:α→Bool):∀ (l:List α) (j:Int),(∀ x∈l,p x=false)→idxF p l j = -1
 | [],j,h=>rfl
 | x::r,j,h=>by
  simp only [idxF]
  rw [if_neg (by rw [h x (by simp)]; decide)]
  exact kmS p r _ fun y hy=>h y (List.mem_cons_of_mem _ hy)
theorem kpS {α:Type} (p:α→Bool):∀ (l:List α) (j:Int),0≤j→idxF p l j<j+l.length
 | [],j,h=>by simp [idxF]; omega
 | x::r,j,h=>by
  simp only [idxF,List.length_cons]
  split
  ·push_cast; omega
  ·have:=kpS p r (j+1) (by omega); push_cast; omega
theorem ksb {b:Belt} (k:Int):-1≤gateK b k∧gateK b k<b.2.2.2.1.length∨gateK b k = -1:=by
 unfold gateK
 split
 ·exact .inr rfl
 ·unfold kjp
  have h1:=kpS (fun g=>g.2==(b.2.2.2.2[k.toNat]?).getD (-1)) b.2.2.2.1 0 (by omega)
  rcases kjW (fun g=>g.2==(b.2.2.2.2[k.toNat]?).getD (-1)) b.2.2.2.1 0 (by omega) with h | h
  ·exact .inl ⟨by omega,by omega⟩
  ·exact .inr h
theorem klR {b:Belt} (B:BeltOk b) {k:Int} (hk:k≤15):kgw b k=some (gateK b k):=by
 unfold kgw gateK
 by_cases h:k<0
 ·simp [h]
 ·have hlt:k.toNat<b.2.2.2.2.length:=by rw [B.bl]; omega
  rw [if_neg (by simpa using h),if_neg h,kib (by omega) (by omega)]
  simp only [Option.bind_some,decide_eq_true_eq]
  rw [List.getElem?_eq_getElem hlt]
  simp only [Option.getD_some]
  split
  ·rename_i hn
   unfold kjp
   rw [kmS]
   intro g hg
   have:=(B.gb g hg).2.2.1
   simp only [beq_eq_false_iff_ne,ne_eq]
   omega
  ·rw [krY b _ (by have:=B.gl; omega)]; rfl
theorem kkr {b:Belt} (B:BeltOk b) (l:List Fed) {x:Fed} (hx:fedOk x):kdc (some (b,l)) x=some (gateF b x):=by
 unfold kdc gateF gateK
 rw [kql _ (by have:=hx.1; omega) hx.2]
 simp only [Option.bind_some,decide_eq_true_eq]
 have hk:=(kmh x.2.2).2
 split
 ·rfl
 ·rename_i h
  have hlt:(seenR x.2.2).toNat<b.2.2.2.2.length:=by rw [B.bl]; omega
  rw [kqR _ _ (fun g=>g.2==(b.2.2.2.2[(seenR x.2.2).toNat]?).getD (-1)) (fun g hg=>by
   unfold keM
   simp only [Option.bind_some]
   rw [kib (by omega) (by omega),List.getElem?_eq_getElem hlt]
   rfl) (by have:=B.gl; omega)]
  rfl
end Go.Abs
namespace Go.Abs
open Go
def fd (l:List Fed) (i:Nat):Fed:=(l[i]?).getD (0,0,[])
theorem kdD {l:List Fed} {i:Nat} (h:i<l.length):fd l i=l[i]:=by unfold fd; rw [List.getElem?_eq_getElem h]; rfl
theorem gi_fd {l:List Fed} {i:Nat} (h:i<l.length):gi l (i:Int)=some (fd l i):=by rw [kbs h,kdD h]
structure FedsOk (l:List Fed):Prop where
 len:l.length≤40
 ok:∀ x∈l,fedOk x∧0≤x.1∧x.1≤1000
theorem FedsOk.fd {l:List Fed} (h:FedsOk l) {i:Nat} (hi:i<l.length):fedOk (fd l i)∧0≤(fd l i).1∧(fd l i).1≤1000:=by
 rw [kdD hi]; exact h.ok _ (List.getElem_mem _)
def seg (l:List Fed) (s e:Nat):List Fed:=(l.drop s).take (e-s)
theorem kcA {l:List Fed} {s e:Nat} (h:e≤l.length):(seg l s e).length=e-s:=by unfold seg; rw [List.length_take,List.length_drop]; omega
theorem kdI {l:List Fed} {s e j:Nat} (h:j<e-s):fd (seg l s e) j=fd l (s+j):=by
 unfold fd seg
 rw [List.getElem?_take,if_pos h,List.getElem?_drop]
def Gc (b:Belt) (c:List Fed):Int:=
 if gateF b (fd c 0)<0 then -1 else if c.any (fun x=>gateF b x != gateF b (fd c 0)) then -1 else
  if ((b.2.2.2.1[(gateF b (fd c 0)).toNat]?).getD (0,0)).1-b.2.1<(fd c (c.length-1)).1-(fd c 0).1+3*b.2.2.1+1 then -1 else gateF b (fd c 0)
theorem klm {b:Belt} {x:Fed} (h:¬ gateF b x<0):(gateF b x).toNat<b.2.2.2.1.length:=by
 unfold gateF at *
 rcases ksb (b:=b) (seenR x.2.2) with ⟨h1,h2⟩ | h1 <;> omega
theorem kqA {b:Belt} (B:BeltOk b) (l:List Fed) {c:List Fed} (hc:FedsOk c) (h0:0<c.length):kdr (some (b,l)) c=some (Gc b c):=by
 unfold kdr Gc
 have hl:=hc.len
 have k1:=hc.fd (i:=0) h0
 have k2:=hc.fd (i:=c.length-1) (by omega)
 rw [show (0:Int)=((0:Nat):Int) from rfl,gi_fd h0]
 simp only [Option.bind_some]
 rw [kkr B l k1.1]
 simp only [Option.bind_some]
 rw [kbj,w64n (n:=c.length-1) (by omega) (by omega),gi_fd (show c.length-1<c.length by omega)]
 simp only [Option.bind_some,decide_eq_true_eq,Int.natCast_zero]
 by_cases hg:gateF b (fd c 0)<0
 ·rw [if_pos hg,if_pos hg]
 ·rw [if_neg hg,if_neg hg,kpo c _ (fun x=>gateF b x != gateF b (fd c 0)) (fun x hx=>by
   unfold kdY
   rw [kkr B l (hc.ok x hx).1]
   rfl) (by omega)]
  simp only [Option.bind_some]
  split
  ·rfl
  ·have hlt:=klm hg
   rw [kib (by omega) (by omega),List.getElem?_eq_getElem hlt]
   simp only [Option.bind_some,Option.getD_some]
   have hgb:=B.gb _ (List.getElem_mem hlt)
   have:=B.s0; have:=B.s1; have:=B.c0; have:=B.c1
   generalize b.2.2.2.1[(gateF b (fd c 0)).toNat]'hlt=gt at *
   rw [kao (x:=gt.1-b.2.1) (by omega) (by omega),kao (x:=(fd c (c.length-1)).1-(fd c 0).1) (by omega) (by omega),kao (x:=3*b.2.2.1) (by omega) (by omega),kao (x:=(fd c (c.length-1)).1-(fd c 0).1+3*b.2.2.1) (by omega) (by omega),kao (x:=(fd c (c.length-1)).1-(fd c 0).1+3*b.2.2.1+1) (by omega) (by omega)]
   split <;> rfl
structure Clus (D:Int) (l:List Fed) (s e:Nat):Prop where
 lt:s<e
 le:e≤l.length
 lo:s=0∨D<(fd l s).1-(fd l (s-1)).1
 mid:∀ k,s<k→k<e→(fd l k).1-(fd l (k-1)).1≤D
 hi:e=l.length∨D<(fd l e).1-(fd l (e-1)).1
section
variable {b:Belt} {l:List Fed} (B:BeltOk b) (L:FedsOk l) {s e:Nat} (C:Clus (2*b.2.2.1+1) l s e)
include B L C
theorem ksj {i:Nat} (h1:s≤i) (h2:i<e):khB b l i=some (s:Int):=by
 have hL:=L.len; have:=C.le; have:=B.s0; have:=B.s1
 unfold khB
 obtain ⟨z,hz,rfl⟩:=kbx (F:=kfG b l) (fun v=>∃ j:Nat,v=j∧s≤j∧j≤i) (fun v=>v.toNat) (fun z=>z=(s:Int)) (fun v ⟨j,hj,g1,g2⟩=>by
  subst hj
  unfold kfG
  by_cases hc:0<j
  ·have t1:=L.fd (i:=j) (by omega)
   have t2:=L.fd (i:=j-1) (by omega)
   rw [if_pos (by simpa using hc),gi_fd (show j<l.length by omega),w64n (x:=(j:Int)-1) (n:=j-1) (by omega) (by omega),gi_fd (show j-1<l.length by omega)]
   simp only [Option.bind_some,decide_eq_true_eq]
   rw [kao (x:=(fd l j).1-(fd l (j-1)).1) (by omega) (by omega),kao (x:=2*b.2.2.1) (by omega) (by omega),kao (x:=2*b.2.2.1+1) (by omega) (by omega)]
   by_cases e1:j=s
   ·left
    subst e1
    rw [if_neg (by have:=C.lo; omega)]
    exact ⟨_,rfl,rfl⟩
   ·right
    rw [if_pos (C.mid j (by omega) (by omega))]
    exact ⟨_,rfl,⟨j-1,rfl,by omega,by omega⟩,by omega⟩
  ·left
   rw [if_neg (by simpa using hc)]
   exact ⟨_,rfl,by omega⟩) (i:Int) ⟨i,rfl,h1,Nat.le_refl _⟩ (by omega)
 rw [hz]; rfl
theorem kth {i:Nat} (h1:s≤i) (h2:i<e):kij b l i=some ((e-1:Nat):Int):=by
 have hL:=L.len; have:=C.le; have:=B.s0; have:=B.s1
 unfold kij
 obtain ⟨z,hz,rfl⟩:=kbx (F:=kgm b l) (fun v=>∃ j:Nat,v=j∧i≤j∧j≤e-1) (fun v=>e-v.toNat) (fun z=>z=((e-1:Nat):Int)) (fun v ⟨j,hj,g1,g2⟩=>by
  subst hj
  unfold kgm
  rw [w64n (x:=(j:Int)+1) (n:=j+1) (by push_cast; rfl) (by omega)]
  by_cases hc:j+1<l.length
  ·have t1:=L.fd (i:=j) (by omega)
   have t2:=L.fd (i:=j+1) hc
   rw [if_pos (lenI_lt.2 hc),gi_fd hc,gi_fd (show j<l.length by omega)]
   simp only [Option.bind_some,decide_eq_true_eq]
   rw [kao (x:=(fd l (j+1)).1-(fd l j).1) (by omega) (by omega),kao (x:=2*b.2.2.1) (by omega) (by omega),kao (x:=2*b.2.2.1+1) (by omega) (by omega)]
   by_cases e1:j=e-1
   ·left
    have hh:=C.hi
    rw [show e=j+1 by omega,show j+1-1=j by omega] at hh
    rw [if_neg (by omega)]
    exact ⟨_,rfl,by rw [e1]⟩
   ·right
    have:=C.mid (j+1) (by omega) (by omega)
    rw [show j+1-1=j by omega] at this
    rw [if_pos this]
    exact ⟨_,rfl,⟨j+1,rfl,by omega,by omega⟩,by omega⟩
  ·left
   rw [if_neg (by rw [lenI_lt]; exact hc)]
   exact ⟨_,rfl,by rw [show j=e-1 by omega]⟩) (i:Int) ⟨i,rfl,Nat.le_refl _,by omega⟩ (by omega)
 rw [hz]; rfl
end
end Go.Abs
namespace Go.Abs
open Go
section
variable {b:Belt} {l:List Fed} (B:BeltOk b) (L:FedsOk l) {s e:Nat} (C:Clus (2*b.2.2.1+1) l s e)
include B L C
theorem knK {k:Int}:∃ z,iter (kea b l ((e-1:Nat):Int) k) (s:Int)=some z∧(z=if (seg l s e).any (fun x=>gateF b x != k) then .inl (-1) else .inr ()):=by
 have hL:=L.len; have hC:=C.le; have hC2:=C.lt
 refine kbx (F:=kea b l ((e-1:Nat):Int) k) (fun v=>∃ j:Nat,v=j∧s≤j∧j≤e∧∀ x,s≤x→x<j→gateF b (fd l x)=k) (fun v=>e-v.toNat) _ (fun v ⟨j,hj,g1,g2,g3⟩=>?_) _ ⟨s,rfl,Nat.le_refl _,by omega,fun x h1 h2=>by omega⟩ (by omega)
 subst hj
 unfold kea
 by_cases hc:j<e
 ·have t1:=L.fd (i:=j) (by omega)
  rw [if_pos (by simp only [decide_eq_true_eq]; omega),gi_fd (show j<l.length by omega)]
  simp only [Option.bind_some]
  rw [kqe _ (by have:=t1.1.1; omega)]
  simp only [Option.bind_some]
  rw [klR B (kmh _).2]
  simp only [Option.bind_some]
  rw [show gateK b (seenR (fd l j).2.2)=gateF b (fd l j) from rfl,w64n (x:=(j:Int)+1) (n:=j+1) (by push_cast; rfl) (by omega)]
  by_cases hg:gateF b (fd l j)=k
  ·right
   rw [if_neg (by simp [hg])]
   refine ⟨_,rfl,⟨j+1,rfl,by omega,by omega,fun x h1 h2=>?_⟩,by omega⟩
   by_cases e1:x=j
   ·rw [e1]; exact hg
   ·exact g3 x h1 (by omega)
  ·left
   rw [if_pos (by simp [hg])]
   refine ⟨_,rfl,?_⟩
   rw [if_pos]
   rw [List.any_eq_true]
   refine ⟨fd l j,?_,by simp [hg]⟩
   have hlen:=kcA (s:=s) hC
   have:(seg l s e)[j-s]'(by rw [hlen]; omega)=fd l j:=by rw [←kdD (by rw [hlen]; omega),kdI (by omega),show s+(j-s)=j by omega]
   rw [←this]; exact List.getElem_mem _
 ·left
  rw [if_neg (by simp only [decide_eq_true_eq]; omega)]
  refine ⟨_,rfl,?_⟩
  rw [if_neg]
  simp only [List.any_eq_true,not_exists,not_and,bne_iff_ne,ne_eq,Decidable.not_not]
  intro x hx
  obtain ⟨q,hq,rfl⟩:=List.getElem_of_mem hx
  have hlen:=kcA (s:=s) hC
  rw [←kdD hq,kdI (by omega)]
  exact g3 _ (by omega) (by omega)
theorem koA {i:Nat} (h1:s≤i) (h2:i<e):kgL b l i=some (Gc b (seg l s e)):=by
 have hL:=L.len; have hC:=C.le; have hC2:=C.lt
 have hlen:=kcA (s:=s) hC
 unfold kgL
 rw [ksj B L C h1 h2,kth B L C h1 h2]
 simp only [Option.bind_some]
 have ti:=L.fd (i:=i) (by omega)
 have ts:=L.fd (i:=s) (by omega)
 have te:=L.fd (i:=e-1) (by omega)
 rw [gi_fd (show i<l.length by omega)]
 simp only [Option.bind_some]
 rw [kqe _ (by have:=ti.1.1; omega)]
 simp only [Option.bind_some]
 rw [klR B (kmh _).2]
 simp only [Option.bind_some]
 rw [show gateK b (seenR (fd l i).2.2)=gateF b (fd l i) from rfl]
 obtain ⟨z,hz,rfl⟩:=knK B L C (k:=gateF b (fd l i))
 rw [hz]
 simp only [Option.bind_some]
 have f0:fd (seg l s e) 0=fd l s:=by rw [kdI (by omega)]; rfl
 have f1:fd (seg l s e) ((seg l s e).length-1)=fd l (e-1):=by rw [hlen,kdI (by omega),show s+(e-s-1)=e-1 by omega]
 unfold Gc
 rw [f0,f1]
 have mem:∀ j,s≤j→j<e→fd l j∈seg l s e:=fun j g1 g2=>by
  have:(seg l s e)[j-s]'(by rw [hlen]; omega)=fd l j:=by rw [←kdD (by rw [hlen]; omega),kdI (by omega),show s+(j-s)=j by omega]
  rw [←this]; exact List.getElem_mem _
 by_cases hany:(seg l s e).any (fun x=>gateF b x != gateF b (fd l i))=true
 ·rw [if_pos hany]
  dsimp only
  split
  ·rfl
  ·rename_i hg
   rw [if_pos]
   obtain ⟨x,hx,hne⟩:=List.any_eq_true.1 hany
   rw [List.any_eq_true]
   by_cases hs:gateF b (fd l i)=gateF b (fd l s)
   ·rw [hs] at hne; exact ⟨x,hx,hne⟩
   ·exact ⟨fd l i,mem i h1 h2,by simpa using hs⟩
 ·rw [if_neg hany]
  have hall:∀ x∈seg l s e,gateF b x=gateF b (fd l i):=fun x hx=>by
   rw [Bool.not_eq_true] at hany
   have:=List.any_eq_false.1 hany x hx
   simpa using this
  have hs:=hall _ (mem s (Nat.le_refl _) hC2)
  rw [hs,if_neg hany]
  dsimp only
  simp only [decide_eq_true_eq]
  split
  ·rfl
  ·rename_i hg
   have hlt:=klm hg
   rw [gi_fd (show e-1<l.length by omega),gi_fd (show s<l.length by omega),kib (by omega) (by omega),List.getElem?_eq_getElem hlt]
   simp only [Option.bind_some,Option.getD_some]
   have hgb:=B.gb _ (List.getElem_mem hlt)
   have:=B.s0; have:=B.s1; have:=B.c0; have:=B.c1
   generalize b.2.2.2.1[(gateF b (fd l i)).toNat]'hlt=gt at *
   rw [kao (x:=gt.1-b.2.1) (by omega) (by omega),kao (x:=(fd l (e-1)).1-(fd l s).1) (by omega) (by omega),kao (x:=3*b.2.2.1) (by omega) (by omega),kao (x:=(fd l (e-1)).1-(fd l s).1+3*b.2.2.1) (by omega) (by omega),kao (x:=(fd l (e-1)).1-(fd l s).1+3*b.2.2.1+1) (by omega) (by omega)]
   split <;> rfl
end
inductive Cls (D:Int) (l:List Fed):Nat→List (Nat×Nat)→Prop
 | nil:Cls D l l.length []
 | cons {s e:Nat} {r:List (Nat×Nat)} (h:Clus D l s e) (hr:Cls D l e r):Cls D l s ((s,e)::r)
theorem Cls.exists {D:Int} {l:List Fed}:∀ (k s:Nat),s+k=l.length→(s=0∨s=l.length∨D<(fd l s).1-(fd l (s-1)).1)→∃ r,Cls D l s r:=by
 have step:∀ (m s e:Nat),e+m=l.length→s<e→(∀ k,s<k→k<e→(fd l k).1-(fd l (k-1)).1≤D)→∃ e',s<e'∧e'≤l.length∧(∀ k,s<k→k<e'→(fd l k).1-(fd l (k-1)).1≤D)∧(e'=l.length∨D<(fd l e').1-(fd l (e'-1)).1):=by
  intro m
  induction m with
  | zero=>intro s e h1 h2 h3; exact ⟨e,h2,by omega,h3,.inl (by omega)⟩
  | succ m ih=>
   intro s e h1 h2 h3
   by_cases hg:(fd l e).1-(fd l (e-1)).1≤D
   ·exact ih s (e+1) (by omega) (by omega) fun k k1 k2=>by
     by_cases e1:k=e
     ·rw [e1]; exact hg
     ·exact h3 k k1 (by omega)
   ·exact ⟨e,h2,by omega,h3,.inr (by omega)⟩
 intro k
 induction k using Nat.strongRecOn with
 | ind k ih=>
  intro s hs hlo
  by_cases h0:s=l.length
  ·subst h0; exact ⟨[],.nil⟩
  ·obtain ⟨e,h1,h2,h3,h4⟩:=step (l.length-(s+1)) s (s+1) (by omega) (by omega) (fun k k1 k2=>by omega)
   obtain ⟨r,hr⟩:=ih (l.length-e) (by omega) e (by omega) (h4.elim (fun h=>.inr (.inl h)) fun h=>.inr (.inr h))
   exact ⟨(s,e)::r,.cons ⟨h1,h2,hlo.elim .inl fun h=>h.elim (fun h=>absurd h h0) .inr,h3,h4⟩ hr⟩
end Go.Abs
namespace Go.Abs
open Go
theorem kkO {α:Type} {f:α→α→Bool} (h:∀ a,f a a=true):∀ l:List α,((l.zip l).all fun p=>f p.1 p.2)=true
 | []=>rfl
 | a::l=>by simp only [List.zip_cons_cons,List.all_cons,h a,kkO h l,Bool.and_self]
theorem beqPr (u v:Ty) (x y:(Ty.pr u v).den):Ty.beq (.pr u v) x y=(Ty.beq u x.1 y.1&&Ty.beq v x.2 y.2):=by
 simp only [Ty.beq]
theorem Ty.beq_self:∀ (t:Ty),t.dat=true→∀ x:t.den,t.beq x x=true
 | .i _,_,x=>by simp [Ty.beq]
 | .b,_,x=>by simp [Ty.beq]
 | .s,_,x=>by simp [Ty.beq]
 | .un,_,_=>rfl
 | .pr u v,h,x=>by
  simp only [Ty.dat,Bool.and_eq_true] at h
  rw [beqPr,Ty.beq_self u h.1,Ty.beq_self v h.2]; rfl
 | .w a,h,x=>Ty.beq_self a h x
 | .pt a,h,x=>Ty.beq_self a h x
 | .sl a,h,x=>by
  unfold Ty.beq
  simp only [decide_true,Bool.true_and]
  exact kkO (α:=a.den) (Ty.beq_self a h) x
 | .op a,h,x=>by
  cases hx:(x:Option a.den) with
  | none=>unfold Ty.beq; rfl
  | some y=>unfold Ty.beq; exact Ty.beq_self a h y
 | .ar _ a,h,x=>by
  unfold Ty.beq
  exact kkO (α:=a.den) (Ty.beq_self a h) x.l
 | .nt,h,_=>by simp [Ty.dat] at h
 | .sm _ _,h,_=>by simp [Ty.dat] at h
 | .fn _ _ _,h,_=>by simp [Ty.dat] at h
theorem ksP (t:Ty) (ht:t.dat=true) {o:Option (List t.den)} {ys:List t.den} {e:t.den} (h:o=none∨∃ r,o=some (ys++e::r)):gpre t o ys e=some (ys++[e]):=by
 rcases h with rfl | ⟨r,rfl⟩
 ·rfl
 ·unfold gpre
  dsimp only
  rw [List.getElem?_append_right (Nat.le_refl _)]
  simp only [Nat.sub_self,List.getElem?_cons_zero]
  rw [if_pos (Ty.beq_self t ht e)]
section
variable {b:Belt} {l:List Fed} (B:BeltOk b) (L:FedsOk l)
include B L
theorem it_L1 {s e:Nat} (C:Clus (2*b.2.2.1+1) l s e) (ys:List (Int×List Fed)):iter (kby (some (b,l)) (l.drop s,ys)) 1=some ((e-s:Nat):Int):=by
 have hL:=L.len; have hC:=C.le; have hC2:=C.lt; have:=B.s0; have:=B.s1
 obtain ⟨z,hz,rfl⟩:=kbx (F:=kby (some (b,l)) (l.drop s,ys)) (fun v=>∃ j:Nat,v=j∧1≤j∧j≤e-s) (fun v=>e-v.toNat) (fun z=>z=((e-s:Nat):Int)) (fun v ⟨j,hj,g1,g2⟩=>by
  subst hj
  unfold kby
  dsimp only
  by_cases hc:s+j<l.length
  ·have hdl:j<(l.drop s).length:=by rw [List.length_drop]; omega
   have t1:=L.fd (i:=s+j) hc
   have t2:=L.fd (i:=s+j-1) (by omega)
   have q1:fd (l.drop s) j=fd l (s+j):=by unfold fd; rw [List.getElem?_drop]
   have q2:fd (l.drop s) (j-1)=fd l (s+j-1):=by unfold fd; rw [List.getElem?_drop,show s+(j-1)=s+j-1 by omega]
   rw [if_pos (lenI_lt.2 hdl),gi_fd hdl,w64n (x:=(j:Int)-1) (n:=j-1) (by omega) (by omega),gi_fd (show j-1<(l.drop s).length by omega),q1,q2]
   simp only [Option.bind_some,decide_eq_true_eq]
   rw [kao (x:=(fd l (s+j)).1-(fd l (s+j-1)).1) (by omega) (by omega),kao (x:=2*b.2.2.1) (by omega) (by omega),kao (x:=2*b.2.2.1+1) (by omega) (by omega),w64n (x:=(j:Int)+1) (n:=j+1) (by push_cast; rfl) (by omega)]
   by_cases e1:s+j=e
   ·left
    have hh:=C.hi
    rw [←e1] at hh
    rw [if_neg (by omega)]
    exact ⟨_,rfl,by omega⟩
   ·right
    rw [if_pos (C.mid (s+j) (by omega) (by omega))]
    exact ⟨_,rfl,⟨j+1,rfl,by omega,by omega⟩,by omega⟩
  ·left
   rw [if_neg (by rw [lenI_lt,List.length_drop]; omega)]
   exact ⟨_,rfl,by omega⟩) 1 ⟨1,rfl,by omega,by omega⟩ (by omega)
 exact hz
def clY (b:Belt) (l:List Fed) (r:List (Nat×Nat)):List (Int×List Fed):=r.map fun p=>(Gc b (seg l p.1 p.2),seg l p.1 p.2)
theorem it_L0 (o:Option (List (Int×List Fed))):∀ {s:Nat} {r:List (Nat×Nat)},Cls (2*b.2.2.1+1) l s r→∀ ys:List (Int×List Fed),(o=none∨o=some (ys++clY b l r))→
  itN (kaW o (some (b,l))) (r.length+1) (l.drop s,ys)=some (.inr (ys++clY b l r)):=by
 intro s r hr
 induction hr with
 | nil=>
  intro ys ho
  refine kbf ?_
  unfold kaW
  rw [List.drop_length]
  simp [clY,ksv]
 | @cons s e r h hr ih=>
  intro ys ho
  have hL:=L.len; have hC:=h.le; have hC2:=h.lt
  have hdl:(l.drop s).length=l.length-s:=List.length_drop
  have hF:FedsOk (seg l s e):=by
   refine ⟨by rw [kcA hC]; omega,fun x hx=>L.ok x ?_⟩
   unfold seg at hx
   exact List.mem_of_mem_drop (List.mem_of_mem_take hx)
  have e1:kaW o (some (b,l)) (l.drop s,ys)=some (.inl (l.drop e,ys++[(Gc b (seg l s e),seg l s e)])):=by
   unfold kaW
   dsimp only
   rw [if_pos (by rw [kbj,decide_eq_true_eq]; omega),it_L1 B L h ys]
   simp only [Option.bind_some]
   have g1:gsl (l.drop s) 0 ((e-s:Nat):Int)=some (seg l s e):=by
    unfold gsl
    rw [if_pos (by omega)]
    simp [seg]
   have g2:gsl (l.drop s) ((e-s:Nat):Int) (lenI (l.drop s))=some (l.drop e):=by
    unfold gsl
    rw [if_pos (by rw [kbj]; omega)]
    simp only [kbj,Int.toNat_natCast,Option.some.injEq]
    rw [List.take_length,List.drop_drop,show s+(e-s)=e by omega]
   rw [g1]
   simp only [Option.bind_some]
   rw [kqA B l hF (by rw [kcA hC]; omega)]
   simp only [Option.bind_some]
   have hp:=ksP (.pr (.i .i64) (.sl (.pr (.i .i64) (.pr (.i .i64) (.sl (.i .i64)))))) rfl (o:=o) (ys:=ys) (e:=(Gc b (seg l s e),seg l s e)) (by
    rcases ho with ho | ho
    ·exact .inl ho
    ·exact .inr ⟨clY b l r,ho⟩)
   rw [hp]
   simp only [Option.bind_some]
   rw [g2]
   rfl
  rw [List.length_cons,kdz e1,ih (ys++[(Gc b (seg l s e),seg l s e)]) (by
   rcases ho with ho | ho
   ·exact .inl ho
   ·right; rw [ho]; simp [clY])]
  simp [clY]
theorem kqi {r:List (Nat×Nat)} (hr:Cls (2*b.2.2.1+1) l 0 r) (hrl:r.length≤1000):(runI fun o=>kaS o (some (b,l)))=some (clY b l r):=by
 have key:∀ o,(o=none∨o=some (clY b l r))→kaS o (some (b,l))=some (clY b l r):=fun o ho=>by
  unfold kaS
  simp only [Option.bind_some]
  have:=it_L0 B L o hr [] (by simpa using ho)
  rw [List.drop_zero] at this
  rw [kcy this (by omega)]
  simp
 unfold runI
 dsimp only
 rw [key none (.inl rfl)]
 simp only [Option.bind_some]
 rw [key _ (.inr rfl)]
 simp
end
end Go.Abs
namespace Go.Abs
open Go
theorem kgA {α γ:Type} (f:α→List γ):∀ (l:List α) (a:List γ),l.foldl (fun s x=>s++f x) a=a++l.flatMap f
 | [],a=>by simp
 | x::l,a=>by rw [List.foldl_cons,kgA f l,List.flatMap_cons,List.append_assoc]
def gtF (b:Belt) (g:Int):Int×Int:=(b.2.2.2.1[g.toNat]?).getD (0,0)
def ftF (b:Belt) (g:Int) (x:Fed):Int×Int×Int:=
 if 0≤g then (seenR x.2.2,(gtF b g).2,x.1+(gtF b g).1) else (seenR x.2.2,-1,x.1+b.1)
def swC (b:Belt) (g:Int) (x y:Fed):List Sw:=
 if 0≤g then [(x.1+(gtF b g).1-b.2.2.1,g,true),(y.1+(gtF b g).1+1,g,false)] else []
theorem Gc_lt {b:Belt} {c:List Fed} (h:0≤Gc b c):(Gc b c).toNat<b.2.2.2.1.length:=by
 unfold Gc at *
 split at h
 ·omega
 ·rename_i h1
  split at h
  ·omega
  ·rename_i h2
   split at h
   ·omega
   ·rename_i h3
    rw [if_neg h1,if_neg h2,if_neg h3]; exact klm h1
theorem gi_gt {b:Belt} {g:Int} (h0:0≤g) (h:g.toNat<b.2.2.2.1.length):gi b.2.2.2.1 g=some (gtF b g):=by
 rw [kib (by omega) (by omega)]
 unfold gtF
 rw [List.getElem?_eq_getElem h]; rfl
theorem BeltOk.gt {b:Belt} (B:BeltOk b) {g:Int} (h:g.toNat<b.2.2.2.1.length):0≤(gtF b g).1∧(gtF b g).1≤99:=by
 unfold gtF
 rw [List.getElem?_eq_getElem h]
 have:=B.gb _ (List.getElem_mem h)
 exact ⟨this.1,this.2.1⟩
section
variable {b:Belt} {l:List Fed} (B:BeltOk b) (L:FedsOk l)
include B in
theorem ksJ {c:List Fed} (hc:FedsOk c) {g:Int} (hg:0≤g→g.toNat<b.2.2.2.1.length) {acc:List (Int×Int×Int)} (ha:acc.length≤10000) :
  iter (keo b (g,c)) (0,acc)=some (acc++c.map (ftF b g)):=by
 have hl:=hc.len
 rw [kdT (F:=keo b (g,c)) c (by omega) (fun i s=>s.length=acc.length+i) (fun s x=>s++[ftF b g x]) id (fun i s hi hs=>by
  have hx:=hc.ok _ (List.getElem_mem hi)
  have:=B.l0; have:=B.l1
  unfold keo
  dsimp only
  rw [if_pos (lenI_lt.2 hi),kbs hi,kbB (by omega)]
  simp only [Option.bind_some]
  rw [kql _ (by have:=hx.1.1; omega) hx.1.2]
  simp only [Option.bind_some,decide_eq_true_eq]
  unfold ftF
  by_cases h0:0≤g
  ·have h1:=hg h0
   have h2:=B.gt h1
   rw [if_pos h0,if_pos h0,gi_gt h0 h1]
   simp only [Option.bind_some]
   rw [kff (by simp; omega),kao (x:=c[i].1+(gtF b g).1) (by omega) (by omega)]
   rfl
  ·rw [if_neg h0,if_neg h0,kff (by simp; omega),kao (x:=c[i].1+b.1) (by omega) (by omega)]
   rfl) (fun i s hi hs=>by simp; omega) (fun s hs=>by
  unfold keo
  dsimp only
  rw [if_neg kbc]; rfl) acc (by simp)]
 rw [kgA (fun x=>[ftF b g x])]
 simp only [id,Option.some.injEq,List.append_cancel_left_eq]
 exact (List.map_eq_flatMap ..).symm
theorem Cls.lenr {D:Int} {s:Nat} {r:List (Nat×Nat)} (h:Cls D l s r):r.length+s≤l.length:=by
 induction h with
 | nil=>simp
 | cons h hr ih=>have:=h.lt; rw [List.length_cons]; omega
theorem Cls.mem {D:Int} {s:Nat} {r:List (Nat×Nat)} (h:Cls D l s r):∀ p∈r,Clus D l p.1 p.2∧s≤p.1:=by
 induction h with
 | nil=>intro p hp; cases hp
 | cons h hr ih=>
  intro p hp
  rcases List.mem_cons.1 hp with rfl | hp
  ·exact ⟨h,Nat.le_refl _⟩
  ·have:=h.lt; exact ⟨(ih p hp).1,by have:=(ih p hp).2; omega⟩
theorem Cls.pw {D:Int} {s:Nat} {r:List (Nat×Nat)} (h:Cls D l s r):r.Pairwise fun p q=>p.2≤q.1:=by
 induction h with
 | nil=>exact .nil
 | @cons s e r h hr ih=>exact List.pairwise_cons.2 ⟨fun q hq=>(hr.mem q hq).2,ih⟩
theorem Cls.flat {γ:Type} {D:Int} {s:Nat} {r:List (Nat×Nat)} (f:Nat→List γ) (g:Nat×Nat→List γ) (h:Cls D l s r)
  (hfg:∀ p∈r,(List.range' p.1 (p.2-p.1)).flatMap f=g p):(List.range' s (l.length-s)).flatMap f=r.flatMap g:=by
 induction h with
 | nil=>simp
 | @cons s e r h hr ih=>
  have h1:=h.lt; have h2:=h.le
  have:List.range' s (l.length-s)=List.range' s (e-s)++List.range' e (l.length-e):=by
   rw [show l.length-s=(e-s)+(l.length-e) by omega,←List.range'_append_1,show s+(e-s)=e by omega]
  rw [this,List.flatMap_append,hfg (s,e) (by simp),ih fun p hp=>hfg p (List.mem_cons_of_mem _ hp),List.flatMap_cons]
include L in
theorem segOk (s e:Nat):FedsOk (seg l s e):=by
 have hL:=L.len
 refine ⟨by unfold seg; rw [List.length_take,List.length_drop]; omega,fun x hx=>L.ok x ?_⟩
 unfold seg at hx
 exact List.mem_of_mem_drop (List.mem_of_mem_take hx)
include B L in
theorem ksO {r:List (Nat×Nat)} (hr:Cls (2*b.2.2.1+1) l 0 r) :
  iter (kei b (clY b l r)) (0,[])=some (.inr (r.flatMap fun p=>(seg l p.1 p.2).map (ftF b (Gc b (seg l p.1 p.2))))):=by
 have hL:=L.len
 have hn:=hr.lenr
 have hcl:(clY b l r).length=r.length:=by simp [clY]
 rw [kdT (F:=kei b (clY b l r)) (clY b l r) (by omega) (fun i s=>s.length≤40*i) (fun s p=>s++p.2.map (ftF b p.1)) .inr (fun i s hi hs=>by
  have hm:=List.getElem_mem hi
  obtain ⟨p,hp,hp2⟩:=List.mem_map.1 hm
  unfold kei
  dsimp only
  rw [if_pos (lenI_lt.2 hi),kbs hi]
  simp only [Option.bind_some]
  rw [←hp2,ksJ B (segOk L _ _) Gc_lt (by omega)]
  rfl) (fun i s hi hs=>by
   have hm:=List.getElem_mem hi
   obtain ⟨p,hp,hp2⟩:=List.mem_map.1 hm
   rw [←hp2,List.length_append,List.length_map]
   have:=(segOk L p.1 p.2).len
   dsimp only; omega) (fun s hs=>by
   unfold kei
   dsimp only
   rw [if_neg kbc]) [] (by simp)]
 rw [kgA (fun p:Int×List Fed=>p.2.map (ftF b p.1))]
 simp [clY,List.flatMap_map]
def Gj (b:Belt) (l:List Fed) (j:Nat):Int:=(kgL b l j).getD (-1)
section
variable {s e:Nat} (C:Clus (2*b.2.2.1+1) l s e)
include B L C
theorem Gj_eq {j:Nat} (h1:s≤j) (h2:j<e):Gj b l j=Gc b (seg l s e):=by unfold Gj; rw [koA B L C h1 h2]; rfl
end
include B L in
theorem kqu {r:List (Nat×Nat)} (hr:Cls (2*b.2.2.1+1) l 0 r) :
  ((List.range' 0 l.length).flatMap fun j=>[ftF b (Gj b l j) (fd l j)])=r.flatMap fun p=>(seg l p.1 p.2).map (ftF b (Gc b (seg l p.1 p.2))):=by
 refine hr.flat _ _ fun p hp=>?_
 obtain ⟨C,-⟩:=hr.mem p hp
 have hC:=C.le
 rw [←List.map_eq_flatMap]
 refine List.ext_getElem (by simp [kcA hC]) fun i h1 h2=>?_
 rw [List.length_map,List.length_range'] at h1
 rw [List.getElem_map,List.getElem_map,List.getElem_range',Gj_eq B L C (by omega) (by omega),←kdD (l:=seg l p.1 p.2) (by rw [kcA hC]; omega),kdI h1,Nat.one_mul]
end
end Go.Abs
namespace Go.Abs
open Go
theorem kiW:∀ {l:List Fed} {m:Int},fedF l m=true→(l.Pairwise fun x y=>x.1<y.1)∧∀ x∈l,m≤x.1∧x.1≤1000∧saidR x.2.2=true
 | [],m,h=>⟨.nil,fun x hx=>by cases hx⟩
 | x::l,m,h=>by
  rw [knb] at h
  simp only [Bool.and_eq_true,wi_iff] at h
  obtain ⟨⟨⟨h1,h2⟩,h3⟩,h4⟩:=h
  obtain ⟨g1,g2⟩:=kiW h4
  refine ⟨List.pairwise_cons.2 ⟨fun y hy=>by have:=(g2 y hy).1; omega,g1⟩,fun y hy=>?_⟩
  rcases List.mem_cons.1 hy with rfl | hy
  ·exact ⟨h1.1,h1.2,h3⟩
  ·have:=g2 y hy; exact ⟨by omega,this.2⟩
theorem kmk {f:List Fed} (h2:fedR f=true):FedsOk f∧(∀ x∈f,saidR x.2.2=true)∧∀ i j,i<j→j<f.length→(fd f i).1<(fd f j).1:=by
 unfold fedR at h2
 simp only [Bool.and_eq_true,decide_eq_true_eq] at h2
 obtain ⟨m1,m2⟩:=kiW h2.2
 have L:FedsOk f:=⟨by omega,fun x hx=>by
  have:=m2 x hx
  have h3:=kqy this.2.2
  exact ⟨⟨by omega,fun t ht=>(h3.2.2 t ht).2⟩,this.1,this.2.1⟩⟩
 refine ⟨L,fun x hx=>(m2 x hx).2.2,fun i j hij hj=>?_⟩
 rw [kdD (by omega),kdD hj]
 exact List.pairwise_iff_getElem.1 m1 i j (by omega) hj (by omega)
def krm (b:Belt) (f:List Fed):List (Int×Int×Int):=(List.range' 0 f.length).map fun j=>ftF b (Gj b f j) (fd f j)
theorem kjc {b:Belt} {f:List Fed} (hg:b.2.2.2.1.length≤1000) (hb:b.2.2.2.2.length≤1000) (hf:∀ x∈f,x.2.2.length≤1000) (hfl:f.length≤1000)
  (h1:beltR b=true) (h2:fedR f=true):∃ r,Cls (2*b.2.2.1+1) f 0 r∧kem b f=some (krm b f,0):=by
 have B:=klb h1
 obtain ⟨L,-,-⟩:=kmk h2
 obtain ⟨r,hr⟩:=Cls.exists (D:=2*b.2.2.1+1) (l:=f) f.length 0 (by omega) (.inl rfl)
 have hrl:=hr.lenr
 refine ⟨r,hr,?_⟩
 unfold kem
 rw [kpe b f hg hb hf hfl,if_pos h1,if_pos h2]
 simp only [Option.bind_some]
 rw [if_neg (by simp)]
 unfold kbF
 simp only [Option.bind_some]
 rw [kqi B L hr (by have:=L.len; omega)]
 simp only [Option.bind_some]
 rw [ksO B L hr,←kqu B L hr]
 unfold krm
 rw [List.map_eq_flatMap]
 rfl
theorem kla {b:Belt} {f:List Fed} (hg:b.2.2.2.1.length≤1000) (hb:b.2.2.2.2.length≤1000) (hf:∀ x∈f,x.2.2.length≤1000) (hfl:f.length≤1000)
  (h:¬ (beltR b=true∧fedR f=true)):∃ e,e≠0∧kem b f=some ([],e)∧kbX b f=some ([],e):=by
 unfold kem kbX
 rw [kpe b f hg hb hf hfl]
 by_cases h1:beltR b=true
 ·have h2:¬ fedR f=true:=fun h2=>h ⟨h1,h2⟩
  rw [if_pos h1,if_neg h2]
  exact ⟨91,by decide,rfl,rfl⟩
 ·rw [if_neg h1]
  exact ⟨90,by decide,rfl,rfl⟩
theorem knI (b:Belt) (f:List Fed):∃ r,kdS b f=some r∧(r=false→b.2.2.2.1.length≤1000∧b.2.2.2.2.length≤1000∧(∀ x∈f,x.2.2.length≤1000)∧f.length≤1000):=by
 unfold kdS
 rw [kbj,kbj,kbj]
 by_cases h1:(12:Int)<b.2.2.2.1.length
 ·exact ⟨true,by rw [if_pos (by simpa using h1)],by simp⟩
 ·rw [if_neg (by simpa using h1)]
  by_cases h2:(30:Int)<b.2.2.2.2.length
  ·exact ⟨true,by rw [if_pos (by simpa using h2)],by simp⟩
  ·rw [if_neg (by simpa using h2)]
   by_cases h3:(60:Int)<f.length
   ·exact ⟨true,by rw [if_pos (by simpa using h3)],by simp⟩
   ·rw [if_neg (by simpa using h3),kmJ (F:=keC f) true f (by omega) (fun i x=>decide (20<x.2.2.length)) (fun i hi=>by
     unfold keC
     rw [if_pos (lenI_lt.2 hi),kbs hi,kbB (by omega)]
     simp only [Option.bind_some]
     rw [kbj]
     by_cases h:20<f[i].2.2.length
     ·rw [if_pos (show decide ((20:Int)<f[i].2.2.length)=true by simp only [decide_eq_true_eq]; omega),if_pos (decide_eq_true h)]
     ·rw [if_neg (show ¬ decide ((20:Int)<f[i].2.2.length)=true by simp only [decide_eq_true_eq]; omega),if_neg (by simpa using h)]) (by unfold keC; rw [if_neg kbc]),kqp (fun x:Fed=>decide (20<x.2.2.length))]
    cases ha:f.any fun x=>decide (20<x.2.2.length) with
    | true=>exact ⟨true,rfl,by simp⟩
    | false=>
     refine ⟨false,rfl,fun _=>⟨by omega,by omega,fun x hx=>?_,by omega⟩⟩
     have:=List.any_eq_false.1 ha x hx
     simp at this; omega
theorem kta:law09_alive=some true:=rfl
end Go.Abs
namespace Go.Abs
open Go
end Go.Abs
namespace Go.Abs
open Go
def hS (b:Belt) (l:List Fed) (p:Nat×Nat):List Sw:=swC b (Gc b (seg l p.1 p.2)) (fd l p.1) (fd l (p.2-1))
theorem kqk (b:Belt) (g:Int) (x y:Fed):(swC b g x y).length≤2:=by unfold swC; split <;> simp
theorem kpc {α γ:Type} (f:α→List γ) (k:Nat) (h:∀ x,(f x).length≤k):∀ l:List α,(l.flatMap f).length≤k*l.length
 | []=>by simp
 | x::l=>by
  have:=kpc f k h l
  have:=h x
  rw [List.flatMap_cons,List.length_append,List.length_cons,Nat.mul_add]; omega
section
variable {b:Belt} {l:List Fed} (B:BeltOk b) (L:FedsOk l)
include B L
theorem krw {r:List (Nat×Nat)} (hr:Cls (2*b.2.2.1+1) l 0 r) :
  iter (kdd b (clY b l r)) (0,[])=some (.inr (r.flatMap (hS b l))):=by
 have hL:=L.len
 have hn:=hr.lenr
 have hcl:(clY b l r).length=r.length:=by simp [clY]
 rw [kdT (F:=kdd b (clY b l r)) (clY b l r) (by omega) (fun i s=>s.length≤2*i) (fun s p=>s++swC b p.1 (fd p.2 0) (fd p.2 (p.2.length-1))) .inr (fun i s hi hs=>by
  have hm:=List.getElem_mem hi
  obtain ⟨p,hp,hp2⟩:=List.mem_map.1 hm
  obtain ⟨C,-⟩:=hr.mem p hp
  have hC:=C.le; have hC2:=C.lt
  have hc:=segOk L p.1 p.2
  have hlen:=kcA (s:=p.1) hC
  unfold kdd
  dsimp only
  rw [if_pos (lenI_lt.2 hi),kbs hi]
  simp only [Option.bind_some]
  rw [←hp2]
  dsimp only
  generalize seg l p.1 p.2=c at *
  have k1:=hc.fd (i:=0) (by omega)
  have k2:=hc.fd (i:=c.length-1) (by omega)
  have:=B.s0; have:=B.s1
  simp only [decide_eq_true_eq]
  unfold swC
  by_cases h0:0≤Gc b c
  ·have h1:=Gc_lt h0
   have h2:=B.gt h1
   rw [if_pos h0,if_pos h0,gi_gt h0 h1,show (0:Int)=((0:Nat):Int) from rfl,gi_fd (show 0<c.length by omega),kbj,w64n (n:=c.length-1) (by omega) (by omega),gi_fd (show c.length-1<c.length by omega)]
   simp only [Option.bind_some]
   rw [kff (by simp; omega),kao (x:=(fd c 0).1+(gtF b (Gc b c)).1) (by omega) (by omega),kao (x:=(fd c 0).1+(gtF b (Gc b c)).1-b.2.2.1) (by omega) (by omega),
    kao (x:=(fd c (c.length-1)).1+(gtF b (Gc b c)).1) (by omega) (by omega),kao (x:=(fd c (c.length-1)).1+(gtF b (Gc b c)).1+1) (by omega) (by omega)]
   rfl
  ·rw [if_neg h0,if_neg h0,List.append_nil]; rfl) (fun i s hi hs=>by
   have:=kqk b (clY b l r)[i].1 (fd (clY b l r)[i].2 0) (fd (clY b l r)[i].2 ((clY b l r)[i].2.length-1))
   rw [List.length_append]; omega) (fun s hs=>by
   unfold kdd
   dsimp only
   rw [if_neg kbc]) [] (by simp)]
 rw [kgA (fun p:Int×List Fed=>swC b p.1 (fd p.2 0) (fd p.2 (p.2.length-1)))]
 simp only [List.nil_append,Option.some.injEq,Sum.inr.injEq]
 unfold clY
 rw [List.flatMap_map]
 have:∀ p∈r,swC b (Gc b (seg l p.1 p.2)) (fd (seg l p.1 p.2) 0) (fd (seg l p.1 p.2) ((seg l p.1 p.2).length-1))=hS b l p:=fun p hp=>by
  obtain ⟨C,-⟩:=hr.mem p hp
  have hC:=C.le; have hC2:=C.lt
  unfold hS
  rw [kcA hC,kdI (by omega),kdI (by omega),show p.1+(p.2-p.1-1)=p.2-1 by omega]; rfl
 clear hr hn hcl
 induction r with
 | nil=>rfl
 | cons p r ih=>rw [List.flatMap_cons,List.flatMap_cons,this p (by simp),ih fun q hq=>this q (List.mem_cons_of_mem _ hq)]
omit L in
theorem ksq (hm:∀ i j,i≤j→j<l.length→(fd l i).1≤(fd l j).1) {r:List (Nat×Nat)} (hr:Cls (2*b.2.2.1+1) l 0 r):Apart (r.flatMap (hS b l)):=by
 unfold Apart
 rw [List.pairwise_flatMap]
 have s0:=B.s0
 refine ⟨fun p hp=>?_,?_⟩
 ·obtain ⟨C,-⟩:=hr.mem p hp
  have hC:=C.le; have hC2:=C.lt
  have:=hm p.1 (p.2-1) (by omega) (by omega)
  unfold hS swC
  split
  ·refine List.pairwise_cons.2 ⟨fun y hy he=>?_,List.pairwise_singleton _ _⟩
   rw [List.mem_singleton] at hy; subst hy
   dsimp only; omega
  ·exact .nil
 ·have h2:r.Pairwise fun p q=>(p.2≤q.1)∧p∈r∧q∈r:=by
   rw [List.pairwise_iff_getElem]
   intro i j hi hj hij
   exact ⟨List.pairwise_iff_getElem.1 hr.pw i j hi hj hij,List.getElem_mem _,List.getElem_mem _⟩
  refine h2.imp fun {p q} h x hx y hy he=>?_
  obtain ⟨hpq,hp,hq⟩:=h
  obtain ⟨C,-⟩:=hr.mem p hp
  obtain ⟨C',-⟩:=hr.mem q hq
  have hC:=C.le; have hC2:=C.lt
  have hC':=C'.le; have hC2':=C'.lt
  have h3:=hm (p.2-1) (q.1-1) (by omega) (by omega)
  have h4:=hm q.1 (q.2-1) (by omega) (by omega)
  have h5:=hm p.1 (p.2-1) (by omega) (by omega)
  have h6:=C'.lo.resolve_left (by omega)
  unfold hS swC at hx hy
  split at hx
  ·split at hy
   ·simp only [List.mem_cons,List.not_mem_nil,or_false] at hx hy
    rcases hx with rfl | rfl <;> rcases hy with rfl | rfl <;> dsimp only at he ⊢ <;> rw [he] <;> omega
   ·cases hy
  ·cases hx
end
theorem khI {b:Belt} {f:List Fed} (hg:b.2.2.2.1.length≤1000) (hb:b.2.2.2.2.length≤1000) (hf:∀ x∈f,x.2.2.length≤1000) (hfl:f.length≤1000)
  (h1:beltR b=true) (h2:fedR f=true) {r:List (Nat×Nat)} (hr:Cls (2*b.2.2.1+1) f 0 r) :
  ∃ W,kbX b f=some (W,0)∧W.Perm (r.flatMap (hS b f))∧W.Pairwise sle∧W.length≤1000:=by
 have B:=klb h1
 obtain ⟨L,-,-⟩:=kmk h2
 have hL:=L.len
 have hrl:=hr.lenr
 have hS1:(r.flatMap (hS b f)).length≤2*r.length:=kpc _ 2 (fun p=>kqk ..) r
 obtain ⟨w,w1,w2,w3⟩:=kqI (r.flatMap (hS b f)) (by omega)
 refine ⟨w,?_,w2,w3,by rw [w2.length_eq]; omega⟩
 unfold kbX
 rw [kpe b f hg hb hf hfl,if_pos h1,if_pos h2]
 simp only [Option.bind_some]
 rw [if_neg (by simp)]
 unfold kbF
 simp only [Option.bind_some]
 rw [kqi B L hr (by omega)]
 simp only [Option.bind_some]
 rw [krw B L hr]
 simp only [Option.bind_some]
 rw [show (fun (u0:((Int×Int×Bool)×Int×Int×Bool))=>((keH u0.1 u0.2).bind fun u1=>(some u1)))=how10 from rfl,w1]
 rfl
theorem klZ (v:List Sw) (h:v.length≤1000):kcD v v=some true:=by
 unfold kcD
 rw [if_neg (by simp),kmJ (F:=kcE v v) false v (by omega) (fun i x=>false) (fun i hi=>by
  unfold kcE
  rw [if_pos (lenI_lt.2 hi),kbs hi,kbB (by omega)]
  simp) (by unfold kcE; rw [if_neg kbc])]
 have:(v.zipIdx.any fun x=>false)=false:=by simp
 rw [this]; rfl
end Go.Abs
namespace Go.Abs
open Go
section
variable {b:Belt} {f:List Fed} (B:BeltOk b) (L:FedsOk f)
def tF (f:List Fed) (i:Nat):Int:=(fd f i).1
variable (hm:∀ i j,i≤j→j<f.length→(fd f i).1≤(fd f j).1) {r:List (Nat×Nat)} (hr:Cls (2*b.2.2.1+1) f 0 r)
include hm hr
variable {W:List Sw} (w1:W.Perm (r.flatMap (hS b f))) (w2:W.Pairwise sle)
include B L w1 w2
end
end Go.Abs
