/- The functions and the law, part 7. -/
import Derived.Test.YtmcfapchpedbgaaProg
import Derived.Test.YtmcfapchpedbgaaZ3
import Derived.Test.YtmcfapchpedbgaaZ5
import Derived.Test.YtmcfapchpedbgaaZ6
set_option linter.constructorNameAsVariable false
set_option linter.unusedVariables false
set_option linter.unusedSimpArgs false
set_option linter.unusedSectionVars false
namespace Go.Abs
open Go
@[reducible] def tBelt:Ty:=(.pr (.i .i64) (.pr (.i .i64) (.pr (.i .i64) (.pr (.sl (.pr (.i .i64) (.i .i64))) (.sl (.i .i64))))))
abbrev Belt:=(Int×Int×Int×(List (Int×Int))×(List Int))
@[reducible] def tFed:Ty:=(.pr (.i .i64) (.pr (.i .i64) (.sl (.i .i64))))
abbrev Fed:=(Int×Int×(List Int))
@[reducible] def tPile:Ty:=(.pr (.i .i64) (.sl (.i .i64)))
abbrev Pile:=(Int×(List Int))
@[reducible] def tLine:Ty:=(.pr tBelt (.sl tFed))
abbrev Line:=(Belt×(List Fed))
def kmI (v0:(Int×Int×Fed)):Option ((Int×Int×Fed)⊕(Int×Fed)):=
 (if (decide (v0.1<16))=true then ((if (decide (v0.1<2))=true then (some v0.1) else (some (-1))).bind fun v1=>((gapp v0.2.2.2.2 [v1]).bind fun v2=>(some (.inl ((w64 (v0.1+1)),v0.2.1,v0.2.2.1,v0.2.2.2.1,v2))))) else (some (.inr v0.2)))
def law09_belt:Option Belt:=
 ((iter (kmI) (0,20,2,2,[])).bind fun v3=>(some (v3.1,v3.2.1,v3.2.2.1,[(10,0),(15,1)],v3.2.2.2)))
def kcp (x0:Int) (x1:Int):Option Fed:=
 (some (x0,x1,[x1]))
def keU (x0:Int) (x1:Int) (x2:Int):Option Bool:=
 (if (decide (x0<x1))=true then (some true) else (some (decide (x2<x0))))
def kaP (x0:(List Int)) (x1:(Int→Option Bool)) (v0:Int):Option (Int⊕(Int⊕Unit)):=
 (if (decide (v0<(lenI x0)))=true then ((gi x0 v0).bind fun v1=>((x1 v1).bind fun v2=>(if v2=true then (some (.inr (.inl v0))) else (some (.inl (w64 (v0+1))))))) else (some (.inr (.inr ()))))
def kbF (x0:(List Int)) (x1:(Int→Option Bool)):Option Int:=
 ((iter (kaP x0 x1) 0).bind fun v3=>(match v3 with | .inl v4=>(some v4) | .inr v5=>(some (-1))))
def kaO (x0:(List Int)) (x1:(Int→Option Bool)):Option Bool:=
 ((kbF x0 x1).bind fun v0=>(some (decide (0≤v0))))
def kao (x0:Int) (x1:Int) (x2:(List Int)):Option Bool:=
 ((kaO x2 (fun (u0:Int)=>((keU u0 x0 x1).bind fun u1=>(some u1)))).bind fun v0=>(some (!v0)))
def kjv (x0:Belt) (v4:(Int×Int×(List (Int×Bool)))):Option ((Int×Int×(List (Int×Bool)))⊕(Int⊕Unit)):=
 (if (decide (v4.1<(lenI x0.2.2.2.1)))=true then ((gi x0.2.2.2.1 v4.1).bind fun v5=>((kao v4.2.1 (w64 (x0.1-1)) [v5.1]).bind fun v6=>(if (!v6)=true then (some (.inr (.inl 90))) else ((kao 0 7 [v5.2]).bind fun v7=>(if (!v7)=true then (some (.inr (.inl 90))) else (if ((mget v4.2.2 v5.2).getD false)=true then (some (.inr (.inl 90))) else (some (.inl ((w64 (v4.1+1)),(w64 (v5.1+1)),(mput v4.2.2 v5.2 true)))))))))) else (some (.inr (.inr ()))))
def khy (x0:Belt):Option Int:=
 ((kao 2 100 [x0.1]).bind fun v0=>(if (!v0)=true then (some 90) else ((kao 0 (w64 (x0.1-2)) [x0.2.1]).bind fun v1=>(if (!v1)=true then (some 90) else ((kao 0 10 [x0.2.2.1]).bind fun v2=>(if (!v2)=true then (some 90) else (if (decide (8<(lenI x0.2.2.2.1)))=true then (some 90) else (if ((lenI x0.2.2.2.2) != 16)=true then (some 90) else ((kao (-1) 7 x0.2.2.2.2).bind fun v3=>(if (!v3)=true then (some 90) else ((iter (kjv x0) (0,(w64 (x0.2.1+1)),[])).bind fun v8=>(match v8 with | .inl v9=>(some v9) | .inr v10=>(some 0)))))))))))))
def klY (x0:(List Int)):Option Bool:=
 ((kao 1 9 [(lenI x0)]).bind fun v0=>(if v0=true then ((kao (-1) 15 x0).bind fun v1=>(some v1)) else (some false)))
def kkp (x0:(List Fed)) (v0:(Int×Int)):Option ((Int×Int)⊕(Int⊕Unit)):=
 (if (decide (v0.1<(lenI x0)))=true then ((gi x0 v0.1).bind fun v1=>((kao v0.2 1000 [v1.1]).bind fun v2=>(if (!v2)=true then (some (.inr (.inl 91))) else ((kao 0 15 [v1.2.1]).bind fun v3=>(if (!v3)=true then (some (.inr (.inl 91))) else ((klY v1.2.2).bind fun v4=>(if (!v4)=true then (some (.inr (.inl 91))) else (some (.inl ((w64 (v0.1+1)),(w64 (v1.1+1)))))))))))) else (some (.inr (.inr ()))))
def kie (x0:(List Fed)):Option Int:=
 (if (decide (40<(lenI x0)))=true then (some 91) else ((iter (kkp x0) (0,0)).bind fun v5=>(match v5 with | .inl v6=>(some v6) | .inr v7=>(some 0))))
def kkl (x0:Belt) (x1:(List Fed)):Option ((Option Line)×Int):=
 ((khy x0).bind fun v0=>((if (v0==0)=true then ((kie x1).bind fun v1=>(some v1)) else (some v0)).bind fun v2=>(if (v2 != 0)=true then (some (none,v2)) else (some ((some (x0,x1)),0)))))
def keV (x0:(List Int)) (v0:(Int×(Arr 16 Int))):Option ((Int×(Arr 16 Int))⊕(Arr 16 Int)):=
 (if (decide (v0.1<(lenI x0)))=true then ((gi x0 v0.1).bind fun v1=>(if (decide (0≤v1))=true then ((garr v0.2 v1).bind fun v2=>((garr v0.2 v1).bind fun v3=>((garr v0.2 v1).bind fun v4=>(some (.inl ((w64 (v0.1+1)),(aset v0.2 v1 (w64 (v3+1))))))))) else (some (.inl ((w64 (v0.1+1)),v0.2))))) else (some (.inr v0.2)))
def kdN (v5:(Arr 16 Int)) (v6:(Int×Int×Int)):Option ((Int×Int×Int)⊕Int):=
 (if (decide (v6.1<16))=true then ((garr v5 v6.1).bind fun v7=>(if (decide (v6.2.1<v7))=true then (some (.inl ((w64 (v6.1+1)),v7,v6.1))) else (if (v7==v6.2.1)=true then (some (.inl ((w64 (v6.1+1)),v6.2.1,(-1)))) else (some (.inl ((w64 (v6.1+1)),v6.2)))))) else (some (.inr v6.2.2)))
def keH (x0:(List Int)):Option Int:=
 ((iter (keV x0) (0,(amk 16 0))).bind fun v5=>((iter (kdN v5) (0,0,(-1))).bind fun v8=>(some v8)))
def kfY (x0:(Int×Int)) (x1:(Option Line)) (x2:Int):Option Bool:=
 (x1.bind fun v0=>((gi v0.1.2.2.2.2 x2).bind fun v1=>(some (x0.2==v1))))
def kdo (x0:(List (Int×Int))) (x1:((Int×Int)→Option Bool)) (v0:Int):Option (Int⊕(Int⊕Unit)):=
 (if (decide (v0<(lenI x0)))=true then ((gi x0 v0).bind fun v1=>((x1 v1).bind fun v2=>(if v2=true then (some (.inr (.inl v0))) else (some (.inl (w64 (v0+1))))))) else (some (.inr (.inr ()))))
def kbB (x0:(List (Int×Int))) (x1:((Int×Int)→Option Bool)):Option Int:=
 ((iter (kdo x0 x1) 0).bind fun v3=>(match v3 with | .inl v4=>(some v4) | .inr v5=>(some (-1))))
def kfg (x0:(Option Line)) (x1:Fed):Option Int:=
 ((keH x1.2.2).bind fun v0=>(if (decide (v0<0))=true then (some (-1)) else (x0.bind fun v1=>((kbB v1.1.2.2.2.1 (fun (u0:(Int×Int))=>((kfY u0 x0 v0).bind fun u1=>(some u1)))).bind fun v2=>(some v2)))))
def kfc (x0:Fed) (x1:(Option Line)) (x2:Int):Option Bool:=
 ((kfg x1 x0).bind fun v0=>(some (v0 != x2)))
def kdK (x0:(List Fed)) (x1:(Fed→Option Bool)) (v0:Int):Option (Int⊕(Int⊕Unit)):=
 (if (decide (v0<(lenI x0)))=true then ((gi x0 v0).bind fun v1=>((x1 v1).bind fun v2=>(if v2=true then (some (.inr (.inl v0))) else (some (.inl (w64 (v0+1))))))) else (some (.inr (.inr ()))))
def kbP (x0:(List Fed)) (x1:(Fed→Option Bool)):Option Int:=
 ((iter (kdK x0 x1) 0).bind fun v3=>(match v3 with | .inl v4=>(some v4) | .inr v5=>(some (-1))))
def kbv (x0:(List Fed)) (x1:(Fed→Option Bool)):Option Bool:=
 ((kbP x0 x1).bind fun v0=>(some (decide (0≤v0))))
def kgA (x0:(Option Line)) (x1:(List Fed)):Option Int:=
 ((gi x1 0).bind fun v0=>((kfg x0 v0).bind fun v1=>((gi x1 (w64 ((lenI x1)-1))).bind fun v2=>((gi x1 0).bind fun v3=>(if (decide (v1<0))=true then (some (-1)) else ((kbv x1 (fun (u0:Fed)=>((kfc u0 x0 v1).bind fun u1=>(some u1)))).bind fun v4=>(if v4=true then (some (-1)) else (x0.bind fun v5=>(x0.bind fun v6=>((gi v6.1.2.2.2.1 v1).bind fun v7=>(x0.bind fun v8=>(if (decide ((w64 (v7.1-v8.1.2.1))<(w64 ((w64 ((w64 (v2.1-v3.1))+(w64 (3*v5.1.2.2.1))))+1))))=true then (some (-1)) else (some v1)))))))))))))
def kfK (x0:(Option Line)) (v1:((List Fed)×(List (Int×(List Fed))))) (v2:Int):Option (Int⊕Int):=
 (if (decide (v2<(lenI v1.1)))=true then ((gi v1.1 v2).bind fun v3=>((gi v1.1 (w64 (v2-1))).bind fun v4=>(x0.bind fun v5=>(if (decide ((w64 (v3.1-v4.1))≤(w64 ((w64 (2*v5.1.2.2.1))+1))))=true then (some (.inl (w64 (v2+1)))) else (some (.inr v2)))))) else (some (.inr v2)))
def kfB (o:Option (List (Int×(List Fed)))) (x0:(Option Line)) (v1:((List Fed)×(List (Int×(List Fed))))):Option (((List Fed)×(List (Int×(List Fed))))⊕((List (Int×(List Fed)))⊕(List (Int×(List Fed))))):=
 (if (decide (0<(lenI v1.1)))=true then ((iter (kfK x0 v1) 1).bind fun v6=>((gsl v1.1 0 v6).bind fun v7=>((kgA x0 v7).bind fun v8=>((gsl v1.1 0 v6).bind fun v9=>((gpre (.pr (.i .i64) (.sl (.pr (.i .i64) (.pr (.i .i64) (.sl (.i .i64)))))) o v1.2 (v8,v9)).bind fun v10=>((gsl v1.1 v6 (lenI v1.1)).bind fun v11=>(some (.inl (v11,v10))))))))) else (some (.inr (.inr v1.2))))
def kce (o:Option (List (Int×(List Fed)))) (x0:(Option Line)):Option (List (Int×(List Fed))):=
 (x0.bind fun v0=>((iter (kfB o x0) (v0.2,[])).bind fun v12=>(match v12 with | .inl v13=>(some v13) | .inr v14=>(some v14))))
def kcL (x0:(Option Line)):Option (Option Line):=
 (some x0)
def knl (x0:Belt) (v4:(Int×(List Fed))) (v5:(Int×(List (Int×Int×Int)))):Option ((Int×(List (Int×Int×Int)))⊕(List (Int×Int×Int))):=
 (if (decide (v5.1<(lenI v4.2)))=true then ((gi v4.2 v5.1).bind fun v6=>((keH v6.2.2).bind fun v7=>(if (decide (0≤v4.1))=true then ((gi x0.2.2.2.1 v4.1).bind fun v8=>((gi x0.2.2.2.1 v4.1).bind fun v9=>((gapp v5.2 [(v7,v8.2,(w64 (v6.1+v9.1)))]).bind fun v10=>(some (.inl ((w64 (v5.1+1)),v10)))))) else ((gapp v5.2 [(v7,(-1),(w64 (v6.1+x0.1)))]).bind fun v11=>(some (.inl ((w64 (v5.1+1)),v11))))))) else (some (.inr v5.2)))
def kno (x0:Belt) (v2:(List (Int×(List Fed)))) (v3:(Int×(List (Int×Int×Int)))):Option ((Int×(List (Int×Int×Int)))⊕(((List (Int×Int×Int))×Int)⊕(List (Int×Int×Int)))):=
 (if (decide (v3.1<(lenI v2)))=true then ((gi v2 v3.1).bind fun v4=>((iter (knl x0 v4) (0,v3.2)).bind fun v12=>(some (.inl ((v3.1+1),v12))))) else (some (.inr (.inr v3.2))))
def kiD (x0:Belt) (x1:(List Fed)):Option ((List (Int×Int×Int))×Int):=
 ((kkl x0 x1).bind fun v0=>(if (v0.2 != 0)=true then (some ([],v0.2)) else ((kcL v0.1).bind fun v1=>((runI fun o=>(kce o v1)).bind fun v2=>((iter (kno x0 v2) (0,[])).bind fun v13=>(match v13 with | .inl v14=>(some v14) | .inr v15=>(some (v15,0))))))))
def kfQ (x0:Int):Option Bool:=
 (some (x0 != x0))
def keS (x0:Int) (x1:Int):Option Int:=
 ((kfQ x0).bind fun v0=>((kfQ x1).bind fun v1=>(if v0=true then (if v1=true then (some 0) else (some (-1))) else (if v1=true then (some 1) else (if (decide (x0<x1))=true then (some (-1)) else (if (decide (x1<x0))=true then (some 1) else (some 0)))))))
def kmC (x0:(List Int)) (v0:Int):Option (Int⊕(Int⊕Unit)):=
 (if (decide (v0<(lenI x0)))=true then ((gi x0 v0).bind fun v1=>(if (v1 != 0)=true then (some (.inr (.inl v1))) else (some (.inl (w64 (v0+1)))))) else (some (.inr (.inr ()))))
def khW (x0:(List Int)):Option Int:=
 ((iter (kmC x0) 0).bind fun v2=>(match v2 with | .inl v3=>(some v3) | .inr v4=>(some 0)))
def kkR (x0:(Int×Int×Bool)) (x1:(Int×Int×Bool)):Option Int:=
 ((keS x0.1 x1.1).bind fun v0=>((keS x0.2.1 x1.2.1).bind fun v1=>((khW [v0,v1]).bind fun v2=>(some v2))))
def kcC (x0:Int) (x2:(((Int×Int×Bool)×Int×Int×Bool)→Option Int)) (v1:(Int×(List (Int×Int×Bool)))):Option ((Int×(List (Int×Int×Bool)))⊕(List (Int×Int×Bool))):=
 (if (decide (x0<v1.1))=true then ((gi v1.2 v1.1).bind fun v2=>((gi v1.2 v1.1).bind fun v3=>((gi v1.2 (w64 (v1.1-1))).bind fun v4=>((gi v1.2 (w64 (v1.1-1))).bind fun v5=>((x2 (v3,v5)).bind fun v6=>(if (decide (v6<0))=true then ((gi v1.2 (w64 (v1.1-1))).bind fun v7=>((gi v1.2 (w64 (v1.1-1))).bind fun v8=>((gi v1.2 v1.1).bind fun v9=>((gi v1.2 v1.1).bind fun v10=>((gi v1.2 v1.1).bind fun v11=>((gi (lset v1.2 v1.1 v8) (w64 (v1.1-1))).bind fun v12=>(some (.inl ((w64 (v1.1-1)),(lset (lset v1.2 v1.1 v8) (w64 (v1.1-1)) v10)))))))))) else (some (.inr v1.2)))))))) else (some (.inr v1.2)))
def kcz (x0:Int) (x1:Int) (x2:(((Int×Int×Bool)×Int×Int×Bool)→Option Int)) (v0:(Int×(List (Int×Int×Bool)))):Option ((Int×(List (Int×Int×Bool)))⊕(List (Int×Int×Bool))):=
 (if (decide (v0.1<x1))=true then ((iter (kcC x0 x2) v0).bind fun v13=>(some (.inl ((w64 (v0.1+1)),v13)))) else (some (.inr v0.2)))
def kaE (x0:Int) (x1:Int) (x2:(((Int×Int×Bool)×Int×Int×Bool)→Option Int)) (x3:(List (Int×Int×Bool))):Option (List (Int×Int×Bool)):=
 ((iter (kcz x0 x1 x2) ((w64 (x0+1)),x3)).bind fun v14=>(some v14))
def kdk (x0:Int) (x1:Int) (x2:Int) (v0:(Int×(List (Int×Int×Bool)))):Option ((Int×(List (Int×Int×Bool)))⊕(List (Int×Int×Bool))):=
 (if (decide (v0.1<x2))=true then ((gi v0.2 (w64 (x1+v0.1))).bind fun v1=>((gi v0.2 (w64 (x1+v0.1))).bind fun v2=>((gi v0.2 (w64 (x0+v0.1))).bind fun v3=>((gi v0.2 (w64 (x0+v0.1))).bind fun v4=>((gi v0.2 (w64 (x0+v0.1))).bind fun v5=>((gi (lset v0.2 (w64 (x0+v0.1)) v2) (w64 (x1+v0.1))).bind fun v6=>(some (.inl ((w64 (v0.1+1)),(lset (lset v0.2 (w64 (x0+v0.1)) v2) (w64 (x1+v0.1)) v4)))))))))) else (some (.inr v0.2)))
def kax (x0:Int) (x1:Int) (x2:Int) (x3:(((Int×Int×Bool)×Int×Int×Bool)→Option Int)) (x4:(List (Int×Int×Bool))):Option (List (Int×Int×Bool)):=
 ((iter (kdk x0 x1 x2) (0,x4)).bind fun v7=>(some v7))
def kdP (x1:Int) (x3:(((Int×Int×Bool)×Int×Int×Bool)→Option Int)) (v0:(Int×Int×(List (Int×Int×Bool)))):Option ((Int×Int×(List (Int×Int×Bool)))⊕(Int×(List (Int×Int×Bool)))):=
 (if (v0.1 != v0.2.1)=true then (if (decide (v0.2.1<v0.1))=true then ((kax (w64 (x1-v0.1)) x1 v0.2.1 x3 v0.2.2).bind fun v1=>(some (.inl ((w64 (v0.1-v0.2.1)),v0.2.1,v1)))) else ((kax (w64 (x1-v0.1)) (w64 ((w64 (x1+v0.2.1))-v0.1)) v0.1 x3 v0.2.2).bind fun v2=>(some (.inl (v0.1,(w64 (v0.2.1-v0.1)),v2))))) else (some (.inr (v0.1,v0.2.2))))
def kbX (x0:Int) (x1:Int) (x2:Int) (x3:(((Int×Int×Bool)×Int×Int×Bool)→Option Int)) (x4:(List (Int×Int×Bool))):Option (List (Int×Int×Bool)):=
 ((iter (kdP x1 x3) ((w64 (x1-x0)),(w64 (x2-x1)),x4)).bind fun v3=>((kax (w64 (x1-v3.1)) x1 v3.1 x3 v3.2).bind fun v4=>(some v4)))
def kdz (x0:Int) (x3:(((Int×Int×Bool)×Int×Int×Bool)→Option Int)) (x4:(List (Int×Int×Bool))) (v0:(Int×Int)):Option ((Int×Int)⊕Int):=
 (if (decide (v0.1<v0.2))=true then ((gshr .u64 (IntKind.wrap .u64 (w64 (v0.1+v0.2))) 1).bind fun v1=>((gi x4 (w64 v1)).bind fun v2=>((gi x4 (w64 v1)).bind fun v3=>((gi x4 x0).bind fun v4=>((gi x4 x0).bind fun v5=>((x3 (v3,v5)).bind fun v6=>(if (decide (v6<0))=true then (some (.inl ((w64 ((w64 v1)+1)),v0.2))) else (some (.inl (v0.1,(w64 v1))))))))))) else (some (.inr v0.1)))
def kdt (v7:Int) (v8:(Int×(List (Int×Int×Bool)))):Option ((Int×(List (Int×Int×Bool)))⊕(List (Int×Int×Bool))):=
 (if (decide (v8.1<(w64 (v7-1))))=true then ((gi v8.2 (w64 (v8.1+1))).bind fun v9=>((gi v8.2 (w64 (v8.1+1))).bind fun v10=>((gi v8.2 v8.1).bind fun v11=>((gi v8.2 v8.1).bind fun v12=>((gi v8.2 v8.1).bind fun v13=>((gi (lset v8.2 v8.1 v10) (w64 (v8.1+1))).bind fun v14=>(some (.inl ((w64 (v8.1+1)),(lset (lset v8.2 v8.1 v10) (w64 (v8.1+1)) v12)))))))))) else (some (.inr v8.2)))
def kdA (x1:Int) (x3:(((Int×Int×Bool)×Int×Int×Bool)→Option Int)) (x4:(List (Int×Int×Bool))) (v16:(Int×Int)):Option ((Int×Int)⊕Int):=
 (if (decide (v16.1<v16.2))=true then ((gshr .u64 (IntKind.wrap .u64 (w64 (v16.1+v16.2))) 1).bind fun v17=>((gi x4 x1).bind fun v18=>((gi x4 x1).bind fun v19=>((gi x4 (w64 v17)).bind fun v20=>((gi x4 (w64 v17)).bind fun v21=>((x3 (v19,v21)).bind fun v22=>(if (!(decide (v22<0)))=true then (some (.inl ((w64 ((w64 v17)+1)),v16.2))) else (some (.inl (v16.1,(w64 v17))))))))))) else (some (.inr v16.1)))
def kdu (v23:Int) (v24:(Int×(List (Int×Int×Bool)))):Option ((Int×(List (Int×Int×Bool)))⊕(List (Int×Int×Bool))):=
 (if (decide (v23<v24.1))=true then ((gi v24.2 (w64 (v24.1-1))).bind fun v25=>((gi v24.2 (w64 (v24.1-1))).bind fun v26=>((gi v24.2 v24.1).bind fun v27=>((gi v24.2 v24.1).bind fun v28=>((gi v24.2 v24.1).bind fun v29=>((gi (lset v24.2 v24.1 v26) (w64 (v24.1-1))).bind fun v30=>(some (.inl ((w64 (v24.1-1)),(lset (lset v24.2 v24.1 v26) (w64 (v24.1-1)) v28)))))))))) else (some (.inr v24.2)))
def kdy (x1:Int) (x3:(((Int×Int×Bool)×Int×Int×Bool)→Option Int)) (x4:(List (Int×Int×Bool))) (v32:Int) (v34:(Int×Int)):Option ((Int×Int)⊕Int):=
 (if (decide (v34.1<v34.2))=true then ((gshr .u64 (IntKind.wrap .u64 (w64 (v34.1+v34.2))) 1).bind fun v35=>((gi x4 (w64 ((w64 ((w64 ((w64 v32)+x1))-1))-(w64 v35)))).bind fun v36=>((gi x4 (w64 ((w64 ((w64 ((w64 v32)+x1))-1))-(w64 v35)))).bind fun v37=>((gi x4 (w64 v35)).bind fun v38=>((gi x4 (w64 v35)).bind fun v39=>((x3 (v37,v39)).bind fun v40=>(if (!(decide (v40<0)))=true then (some (.inl ((w64 ((w64 v35)+1)),v34.2))) else (some (.inl (v34.1,(w64 v35))))))))))) else (some (.inr v34.1)))
def kdH (rec_slices_symMergeCmpFunc_api_Swing_m4:Int→Int→Int→(((Int×Int×Bool)×Int×Int×Bool)→Option Int)→(List (Int×Int×Bool))→Option (List (Int×Int×Bool))) (x0:Int) (x1:Int) (x2:Int) (x3:(((Int×Int×Bool)×Int×Int×Bool)→Option Int)) (x4:(List (Int×Int×Bool))):Option (List (Int×Int×Bool)):=
 (if ((w64 (x1-x0))==1)=true then ((iter (kdz x0 x3 x4) (x1,x2)).bind fun v7=>((iter (kdt v7) (x0,x4)).bind fun v15=>(some v15))) else (if ((w64 (x2-x1))==1)=true then ((iter (kdA x1 x3 x4) (x0,x1)).bind fun v23=>((iter (kdu v23) (x1,x4)).bind fun v31=>(some v31))) else ((gshr .u64 (IntKind.wrap .u64 (w64 (x0+x2))) 1).bind fun v32=>((if (decide ((w64 v32)<x1))=true then (some ((w64 ((w64 ((w64 v32)+x1))-x2)),(w64 v32))) else (some (x0,x1))).bind fun v33=>((iter (kdy x1 x3 x4 v32) v33).bind fun v41=>((if (decide (v41<x1))=true then (some (decide (x1<(w64 ((w64 ((w64 v32)+x1))-v41))))) else (some false)).bind fun v42=>((if v42=true then ((kbX v41 x1 (w64 ((w64 ((w64 v32)+x1))-v41)) x3 x4).bind fun v43=>(some v43)) else (some x4)).bind fun v44=>((if (decide (x0<v41))=true then (some (decide (v41<(w64 v32)))) else (some false)).bind fun v45=>((if v45=true then ((rec_slices_symMergeCmpFunc_api_Swing_m4 x0 v41 (w64 v32) x3 v44).bind fun v46=>(some v46)) else (some v44)).bind fun v47=>(if (decide ((w64 v32)<(w64 ((w64 ((w64 v32)+x1))-v41))))=true then (if (decide ((w64 ((w64 ((w64 v32)+x1))-v41))<x2))=true then ((rec_slices_symMergeCmpFunc_api_Swing_m4 (w64 v32) (w64 ((w64 ((w64 v32)+x1))-v41)) x2 x3 v47).bind fun v48=>(some v48)) else (some v47)) else (some v47)))))))))))
def kaM:Nat→Int→Int→Int→(((Int×Int×Bool)×Int×Int×Bool)→Option Int)→(List (Int×Int×Bool))→Option (List (Int×Int×Bool))
 | 0,_,_,_,_,_=>none
 | k+1,x0,x1,x2,x3,x4=>kdH (kaM k) x0 x1 x2 x3 x4
def kaU (x0:Int) (x1:Int) (x2:Int) (x3:(((Int×Int×Bool)×Int×Int×Bool)→Option Int)) (x4:(List (Int×Int×Bool))):Option (List (Int×Int×Bool)):=kaM 1000000 x0 x1 x2 x3 x4
def kee (x0:Int) (x1:(((Int×Int×Bool)×Int×Int×Bool)→Option Int)) (v0:(Int×Int×(List (Int×Int×Bool)))):Option ((Int×Int×(List (Int×Int×Bool)))⊕(Int×(List (Int×Int×Bool)))):=
 (if (decide (v0.1≤x0))=true then ((kaE v0.2.1 v0.1 x1 v0.2.2).bind fun v1=>(some (.inl ((w64 (v0.1+20)),v0.1,v1)))) else (some (.inr v0.2)))
def kdM (x0:Int) (x1:(((Int×Int×Bool)×Int×Int×Bool)→Option Int)) (v4:(Int×(List (Int×Int×Bool)))) (v5:(Int×Int×(List (Int×Int×Bool)))):Option ((Int×Int×(List (Int×Int×Bool)))⊕(Int×(List (Int×Int×Bool)))):=
 (if (decide (v5.1≤x0))=true then ((kaU v5.2.1 (w64 (v5.2.1+v4.1)) v5.1 x1 v5.2.2).bind fun v6=>(some (.inl ((w64 (v5.1+(w64 (2*v4.1)))),v5.1,v6)))) else (some (.inr v5.2)))
def kdT (x0:Int) (x1:(((Int×Int×Bool)×Int×Int×Bool)→Option Int)) (v4:(Int×(List (Int×Int×Bool)))):Option ((Int×(List (Int×Int×Bool)))⊕(List (Int×Int×Bool))):=
 (if (decide (v4.1<x0))=true then ((iter (kdM x0 x1 v4) ((w64 (2*v4.1)),0,v4.2)).bind fun v7=>(if (decide ((w64 (v7.1+v4.1))<x0))=true then ((kaU v7.1 (w64 (v7.1+v4.1)) x0 x1 v7.2).bind fun v8=>(some (.inl ((w64 (v4.1*2)),v8)))) else (some (.inl ((w64 (v4.1*2)),v7.2))))) else (some (.inr v4.2)))
def kbU (x0:Int) (x1:(((Int×Int×Bool)×Int×Int×Bool)→Option Int)) (x2:(List (Int×Int×Bool))):Option (List (Int×Int×Bool)):=
 ((iter (kee x0 x1) (20,0,x2)).bind fun v2=>((kaE v2.1 x0 x1 v2.2).bind fun v3=>((iter (kdT x0 x1) (20,v3)).bind fun v9=>(some v9))))
def kaV (x0:(((Int×Int×Bool)×Int×Int×Bool)→Option Int)) (x1:(List (Int×Int×Bool))):Option (List (Int×Int×Bool)):=
 ((kbU (lenI x1) x0 x1).bind fun v0=>(some v0))
def kdD (x0:(((Int×Int×Bool)×Int×Int×Bool)→Option Int)) (x1:(List (Int×Int×Bool))):Option (List (Int×Int×Bool)):=
 ((kaV x0 x1).bind fun v0=>(some v0))
def klx (x0:Belt) (v2:(List (Int×(List Fed)))) (v3:(Int×(List (Int×Int×Bool)))):Option ((Int×(List (Int×Int×Bool)))⊕(((List (Int×Int×Bool))×Int)⊕(List (Int×Int×Bool)))):=
 (if (decide (v3.1<(lenI v2)))=true then ((gi v2 v3.1).bind fun v4=>(if (decide (0≤v4.1))=true then ((gi x0.2.2.2.1 v4.1).bind fun v5=>((gi v4.2 0).bind fun v6=>((gi v4.2 (w64 ((lenI v4.2)-1))).bind fun v7=>((gapp v3.2 [((w64 ((w64 (v6.1+v5.1))-x0.2.2.1)),v4.1,true),((w64 ((w64 (v7.1+v5.1))+1)),v4.1,false)]).bind fun v8=>(some (.inl ((v3.1+1),v8))))))) else (some (.inl ((v3.1+1),v3.2))))) else (some (.inr (.inr v3.2))))
def kjT (x0:Belt) (x1:(List Fed)):Option ((List (Int×Int×Bool))×Int):=
 ((kkl x0 x1).bind fun v0=>(if (v0.2 != 0)=true then (some ([],v0.2)) else ((kcL v0.1).bind fun v1=>((runI fun o=>(kce o v1)).bind fun v2=>((iter (klx x0 v2) (0,[])).bind fun v9=>(match v9 with | .inl v10=>(some v10) | .inr v11=>((kdD (fun (u0:((Int×Int×Bool)×Int×Int×Bool))=>((kkR u0.1 u0.2).bind fun u1=>(some u1))) v11).bind fun v12=>(some (v12,0)))))))))
def law09_table:Option (List (List Int)):=
 (some [[900,50,50],[100,800,100]])
def kcv (v2:(List Int)) (v4:(Int×Int)):Option ((Int×Int)⊕Int):=
 (if (decide (v4.1<(lenI v2)))=true then ((gi v2 v4.1).bind fun v5=>(some (.inl ((w64 (v4.1+1)),(w64 (v4.2+v5)))))) else (some (.inr v4.2)))
def kbw (x0:(List (List Int))) (v1:Int):Option (Int⊕(Int⊕Unit)):=
 (if (decide (v1<(lenI x0)))=true then ((gi x0 v1).bind fun v2=>(if ((lenI v2) != (w64 ((lenI x0)+1)))=true then (some (.inr (.inl 8))) else ((kao 0 1000 v2).bind fun v3=>(if (!v3)=true then (some (.inr (.inl 8))) else ((iter (kcv v2) (0,0)).bind fun v6=>(if (v6 != 1000)=true then (some (.inr (.inl 8))) else (some (.inl (w64 (v1+1)))))))))) else (some (.inr (.inr ()))))
def kcm (x0:(List (List Int))):Option Int:=
 ((kao 1 8 [(lenI x0)]).bind fun v0=>(if (!v0)=true then (some 8) else ((iter (kbw x0) 0).bind fun v7=>(match v7 with | .inl v8=>(some v8) | .inr v9=>(some 0)))))
def kaq (rec_sort_chances_c1_m8:Int→Int→Int→(List Int)→Int→(List Int)→(List Int)→Option (Int×(List Int)×Int×(List Int)×(List Int))) (x0:Int) (x1:Int) (x6:(List Int)) (v5:(Int×(List Int)×Int×Int×(List Int)×(List Int))):Option ((Int×(List Int)×Int×Int×(List Int)×(List Int))⊕((List Int)×Int×Int×(List Int)×(List Int))):=
 (if (decide (v5.1<(lenI x6)))=true then ((gi x6 v5.1).bind fun v6=>(if (v6==0)=true then (some (.inl ((w64 (v5.1+1)),v5.2))) else ((gi v5.2.1 x0).bind fun v7=>((if (v5.1==v5.2.2.1)=true then ((gi (lset v5.2.1 x0 v5.1) x0).bind fun v8=>(some (lset (lset v5.2.1 x0 v5.1) x0 (-1)))) else (some (lset v5.2.1 x0 v5.1))).bind fun v9=>((rec_sort_chances_c1_m8 (w64 (x0+1)) (w64 (x1*v6)) v5.2.2.2.1 v9 v5.2.2.1 v5.2.2.2.2.1 v5.2.2.2.2.2).bind fun v10=>(some (.inl ((w64 (v5.1+1)),v10.2.1,v10.2.2.1,v10.1,v10.2.2.2)))))))) else (some (.inr v5.2)))
def kcZ (rec_sort_chances_c1_m8:Int→Int→Int→(List Int)→Int→(List Int)→(List Int)→Option (Int×(List Int)×Int×(List Int)×(List Int))) (x0:Int) (x1:Int) (x2:Int) (x3:(List Int)) (x4:Int) (x5:(List Int)) (x6:(List Int)):Option (Int×(List Int)×Int×(List Int)×(List Int)):=
 (if (x0==x2)=true then ((keH x3).bind fun v0=>((if (decide (v0<0))=true then (some x4) else (some v0)).bind fun v1=>((gi x5 v1).bind fun v2=>((gi x5 v1).bind fun v3=>((gi x5 v1).bind fun v4=>(some (x2,x3,x4,(lset x5 v1 (w64 (v3+x1))),x6))))))) else ((iter (kaq rec_sort_chances_c1_m8 x0 x1 x6) (0,x3,x4,x2,x5,x6)).bind fun v11=>(some (v11.2.2.1,v11.1,v11.2.1,v11.2.2.2))))
def kam:Nat→Int→Int→Int→(List Int)→Int→(List Int)→(List Int)→Option (Int×(List Int)×Int×(List Int)×(List Int))
 | 0,_,_,_,_,_,_,_=>none
 | k+1,x0,x1,x2,x3,x4,x5,x6=>kcZ (kam k) x0 x1 x2 x3 x4 x5 x6
def kdY (x0:Int) (x1:Int) (x2:Int) (x3:(List Int)) (x4:Int) (x5:(List Int)) (x6:(List Int)):Option (Int×(List Int)×Int×(List Int)×(List Int)):=kam 1000000 x0 x1 x2 x3 x4 x5 x6
def kec (x0:(List Int)) (x1:Int):Option (List Int):=
 ((gmk (lenI x0) 0).bind fun v0=>((gmk x1 0).bind fun v1=>((kdY 0 1 x1 v1 (w64 ((lenI x0)-1)) v0 x0).bind fun v2=>(some v2.2.2.2.1))))
def kiI (x0:(List (List Int))) (x1:Int) (x2:Int):Option ((List Int)×Int):=
 ((kcm x0).bind fun v0=>(if (v0 != 0)=true then (some ([],v0)) else ((kao 0 (w64 ((lenI x0)-1)) [x1]).bind fun v1=>(if (!v1)=true then (some ([],2)) else ((kao 1 5 [x2]).bind fun v2=>(if (!v2)=true then (some ([],2)) else ((gi x0 x1).bind fun v3=>((kec v3 x2).bind fun v4=>(some (v4,0))))))))))
def kib (x0:(List Int)) (x1:Int):Option Bool:=
 ((kao 2 8 [x1]).bind fun v0=>(if v0=true then ((kao 1 12 [(lenI x0)]).bind fun v1=>(if v1=true then ((kao 0 1000 x0).bind fun v2=>(some v2)) else (some false))) else (some false)))
def kgy (x0:Pile) (x1:Pile):Option Int:=
 ((khW [(w64 (x0.1-x1.1)),(w64 ((lenI x0.2)-(lenI x1.2)))]).bind fun v0=>(some v0))
def kbn (x0:(List Pile)) (x1:Pile) (x2:((Pile×Pile)→Option Int)) (v0:(Int×Int)):Option ((Int×Int)⊕Int):=
 (if (decide (v0.1<v0.2))=true then ((gshr .u64 (IntKind.wrap .u64 (w64 (v0.1+v0.2))) 1).bind fun v1=>((gi x0 (w64 v1)).bind fun v2=>((x2 (v2,x1)).bind fun v3=>(if (decide (v3<0))=true then (some (.inl ((w64 ((w64 v1)+1)),v0.2))) else (some (.inl (v0.1,(w64 v1)))))))) else (some (.inr v0.1)))
def kaC (x0:(List Pile)) (x1:Pile) (x2:((Pile×Pile)→Option Int)):Option (Int×Bool):=
 ((iter (kbn x0 x1 x2) (0,(lenI x0))).bind fun v4=>(if (decide (v4<(lenI x0)))=true then ((gi x0 v4).bind fun v5=>((x2 (v5,x1)).bind fun v6=>(some (v4,(v6==0))))) else (some (v4,false))))
def kcD (x0:Int) (x2:((Pile×Pile)→Option Int)) (v1:(Int×(List Pile))):Option ((Int×(List Pile))⊕(List Pile)):=
 (if (decide (x0<v1.1))=true then ((gi v1.2 v1.1).bind fun v2=>((gi v1.2 v1.1).bind fun v3=>((gi v1.2 (w64 (v1.1-1))).bind fun v4=>((gi v1.2 (w64 (v1.1-1))).bind fun v5=>((x2 (v3,v5)).bind fun v6=>(if (decide (v6<0))=true then ((gi v1.2 (w64 (v1.1-1))).bind fun v7=>((gi v1.2 (w64 (v1.1-1))).bind fun v8=>((gi v1.2 v1.1).bind fun v9=>((gi v1.2 v1.1).bind fun v10=>((gi v1.2 v1.1).bind fun v11=>((gi (lset v1.2 v1.1 v8) (w64 (v1.1-1))).bind fun v12=>(some (.inl ((w64 (v1.1-1)),(lset (lset v1.2 v1.1 v8) (w64 (v1.1-1)) v10)))))))))) else (some (.inr v1.2)))))))) else (some (.inr v1.2)))
def kcB (x0:Int) (x1:Int) (x2:((Pile×Pile)→Option Int)) (v0:(Int×(List Pile))):Option ((Int×(List Pile))⊕(List Pile)):=
 (if (decide (v0.1<x1))=true then ((iter (kcD x0 x2) v0).bind fun v13=>(some (.inl ((w64 (v0.1+1)),v13)))) else (some (.inr v0.2)))
def kaD (x0:Int) (x1:Int) (x2:((Pile×Pile)→Option Int)) (x3:(List Pile)):Option (List Pile):=
 ((iter (kcB x0 x1 x2) ((w64 (x0+1)),x3)).bind fun v14=>(some v14))
def kcW (x0:Int) (x1:Int) (x2:Int) (v0:(Int×(List Pile))):Option ((Int×(List Pile))⊕(List Pile)):=
 (if (decide (v0.1<x2))=true then ((gi v0.2 (w64 (x1+v0.1))).bind fun v1=>((gi v0.2 (w64 (x1+v0.1))).bind fun v2=>((gi v0.2 (w64 (x0+v0.1))).bind fun v3=>((gi v0.2 (w64 (x0+v0.1))).bind fun v4=>((gi v0.2 (w64 (x0+v0.1))).bind fun v5=>((gi (lset v0.2 (w64 (x0+v0.1)) v2) (w64 (x1+v0.1))).bind fun v6=>(some (.inl ((w64 (v0.1+1)),(lset (lset v0.2 (w64 (x0+v0.1)) v2) (w64 (x1+v0.1)) v4)))))))))) else (some (.inr v0.2)))
def kav (x0:Int) (x1:Int) (x2:Int) (x3:((Pile×Pile)→Option Int)) (x4:(List Pile)):Option (List Pile):=
 ((iter (kcW x0 x1 x2) (0,x4)).bind fun v7=>(some v7))
def kdF (x1:Int) (x3:((Pile×Pile)→Option Int)) (v0:(Int×Int×(List Pile))):Option ((Int×Int×(List Pile))⊕(Int×(List Pile))):=
 (if (v0.1 != v0.2.1)=true then (if (decide (v0.2.1<v0.1))=true then ((kav (w64 (x1-v0.1)) x1 v0.2.1 x3 v0.2.2).bind fun v1=>(some (.inl ((w64 (v0.1-v0.2.1)),v0.2.1,v1)))) else ((kav (w64 (x1-v0.1)) (w64 ((w64 (x1+v0.2.1))-v0.1)) v0.1 x3 v0.2.2).bind fun v2=>(some (.inl (v0.1,(w64 (v0.2.1-v0.1)),v2))))) else (some (.inr (v0.1,v0.2.2))))
def kbN (x0:Int) (x1:Int) (x2:Int) (x3:((Pile×Pile)→Option Int)) (x4:(List Pile)):Option (List Pile):=
 ((iter (kdF x1 x3) ((w64 (x1-x0)),(w64 (x2-x1)),x4)).bind fun v3=>((kav (w64 (x1-v3.1)) x1 v3.1 x3 v3.2).bind fun v4=>(some v4)))
def kdb (x0:Int) (x3:((Pile×Pile)→Option Int)) (x4:(List Pile)) (v0:(Int×Int)):Option ((Int×Int)⊕Int):=
 (if (decide (v0.1<v0.2))=true then ((gshr .u64 (IntKind.wrap .u64 (w64 (v0.1+v0.2))) 1).bind fun v1=>((gi x4 (w64 v1)).bind fun v2=>((gi x4 (w64 v1)).bind fun v3=>((gi x4 x0).bind fun v4=>((gi x4 x0).bind fun v5=>((x3 (v3,v5)).bind fun v6=>(if (decide (v6<0))=true then (some (.inl ((w64 ((w64 v1)+1)),v0.2))) else (some (.inl (v0.1,(w64 v1))))))))))) else (some (.inr v0.1)))
def kdl (v7:Int) (v8:(Int×(List Pile))):Option ((Int×(List Pile))⊕(List Pile)):=
 (if (decide (v8.1<(w64 (v7-1))))=true then ((gi v8.2 (w64 (v8.1+1))).bind fun v9=>((gi v8.2 (w64 (v8.1+1))).bind fun v10=>((gi v8.2 v8.1).bind fun v11=>((gi v8.2 v8.1).bind fun v12=>((gi v8.2 v8.1).bind fun v13=>((gi (lset v8.2 v8.1 v10) (w64 (v8.1+1))).bind fun v14=>(some (.inl ((w64 (v8.1+1)),(lset (lset v8.2 v8.1 v10) (w64 (v8.1+1)) v12)))))))))) else (some (.inr v8.2)))
def kdh (x1:Int) (x3:((Pile×Pile)→Option Int)) (x4:(List Pile)) (v16:(Int×Int)):Option ((Int×Int)⊕Int):=
 (if (decide (v16.1<v16.2))=true then ((gshr .u64 (IntKind.wrap .u64 (w64 (v16.1+v16.2))) 1).bind fun v17=>((gi x4 x1).bind fun v18=>((gi x4 x1).bind fun v19=>((gi x4 (w64 v17)).bind fun v20=>((gi x4 (w64 v17)).bind fun v21=>((x3 (v19,v21)).bind fun v22=>(if (!(decide (v22<0)))=true then (some (.inl ((w64 ((w64 v17)+1)),v16.2))) else (some (.inl (v16.1,(w64 v17))))))))))) else (some (.inr v16.1)))
def kdi (v23:Int) (v24:(Int×(List Pile))):Option ((Int×(List Pile))⊕(List Pile)):=
 (if (decide (v23<v24.1))=true then ((gi v24.2 (w64 (v24.1-1))).bind fun v25=>((gi v24.2 (w64 (v24.1-1))).bind fun v26=>((gi v24.2 v24.1).bind fun v27=>((gi v24.2 v24.1).bind fun v28=>((gi v24.2 v24.1).bind fun v29=>((gi (lset v24.2 v24.1 v26) (w64 (v24.1-1))).bind fun v30=>(some (.inl ((w64 (v24.1-1)),(lset (lset v24.2 v24.1 v26) (w64 (v24.1-1)) v28)))))))))) else (some (.inr v24.2)))
def kdg (x1:Int) (x3:((Pile×Pile)→Option Int)) (x4:(List Pile)) (v32:Int) (v34:(Int×Int)):Option ((Int×Int)⊕Int):=
 (if (decide (v34.1<v34.2))=true then ((gshr .u64 (IntKind.wrap .u64 (w64 (v34.1+v34.2))) 1).bind fun v35=>((gi x4 (w64 ((w64 ((w64 ((w64 v32)+x1))-1))-(w64 v35)))).bind fun v36=>((gi x4 (w64 ((w64 ((w64 ((w64 v32)+x1))-1))-(w64 v35)))).bind fun v37=>((gi x4 (w64 v35)).bind fun v38=>((gi x4 (w64 v35)).bind fun v39=>((x3 (v37,v39)).bind fun v40=>(if (!(decide (v40<0)))=true then (some (.inl ((w64 ((w64 v35)+1)),v34.2))) else (some (.inl (v34.1,(w64 v35))))))))))) else (some (.inr v34.1)))
def kdw (rec_slices_symMergeCmpFunc_sort_pile_m12:Int→Int→Int→((Pile×Pile)→Option Int)→(List Pile)→Option (List Pile)) (x0:Int) (x1:Int) (x2:Int) (x3:((Pile×Pile)→Option Int)) (x4:(List Pile)):Option (List Pile):=
 (if ((w64 (x1-x0))==1)=true then ((iter (kdb x0 x3 x4) (x1,x2)).bind fun v7=>((iter (kdl v7) (x0,x4)).bind fun v15=>(some v15))) else (if ((w64 (x2-x1))==1)=true then ((iter (kdh x1 x3 x4) (x0,x1)).bind fun v23=>((iter (kdi v23) (x1,x4)).bind fun v31=>(some v31))) else ((gshr .u64 (IntKind.wrap .u64 (w64 (x0+x2))) 1).bind fun v32=>((if (decide ((w64 v32)<x1))=true then (some ((w64 ((w64 ((w64 v32)+x1))-x2)),(w64 v32))) else (some (x0,x1))).bind fun v33=>((iter (kdg x1 x3 x4 v32) v33).bind fun v41=>((if (decide (v41<x1))=true then (some (decide (x1<(w64 ((w64 ((w64 v32)+x1))-v41))))) else (some false)).bind fun v42=>((if v42=true then ((kbN v41 x1 (w64 ((w64 ((w64 v32)+x1))-v41)) x3 x4).bind fun v43=>(some v43)) else (some x4)).bind fun v44=>((if (decide (x0<v41))=true then (some (decide (v41<(w64 v32)))) else (some false)).bind fun v45=>((if v45=true then ((rec_slices_symMergeCmpFunc_sort_pile_m12 x0 v41 (w64 v32) x3 v44).bind fun v46=>(some v46)) else (some v44)).bind fun v47=>(if (decide ((w64 v32)<(w64 ((w64 ((w64 v32)+x1))-v41))))=true then (if (decide ((w64 ((w64 ((w64 v32)+x1))-v41))<x2))=true then ((rec_slices_symMergeCmpFunc_sort_pile_m12 (w64 v32) (w64 ((w64 ((w64 v32)+x1))-v41)) x2 x3 v47).bind fun v48=>(some v48)) else (some v47)) else (some v47)))))))))))
def kaJ:Nat→Int→Int→Int→((Pile×Pile)→Option Int)→(List Pile)→Option (List Pile)
 | 0,_,_,_,_,_=>none
 | k+1,x0,x1,x2,x3,x4=>kdw (kaJ k) x0 x1 x2 x3 x4
def kaR (x0:Int) (x1:Int) (x2:Int) (x3:((Pile×Pile)→Option Int)) (x4:(List Pile)):Option (List Pile):=kaJ 1000000 x0 x1 x2 x3 x4
def kdJ (x0:Int) (x1:((Pile×Pile)→Option Int)) (v0:(Int×Int×(List Pile))):Option ((Int×Int×(List Pile))⊕(Int×(List Pile))):=
 (if (decide (v0.1≤x0))=true then ((kaD v0.2.1 v0.1 x1 v0.2.2).bind fun v1=>(some (.inl ((w64 (v0.1+20)),v0.1,v1)))) else (some (.inr v0.2)))
def kdI (x0:Int) (x1:((Pile×Pile)→Option Int)) (v4:(Int×(List Pile))) (v5:(Int×Int×(List Pile))):Option ((Int×Int×(List Pile))⊕(Int×(List Pile))):=
 (if (decide (v5.1≤x0))=true then ((kaR v5.2.1 (w64 (v5.2.1+v4.1)) v5.1 x1 v5.2.2).bind fun v6=>(some (.inl ((w64 (v5.1+(w64 (2*v4.1)))),v5.1,v6)))) else (some (.inr v5.2)))
def kdE (x0:Int) (x1:((Pile×Pile)→Option Int)) (v4:(Int×(List Pile))):Option ((Int×(List Pile))⊕(List Pile)):=
 (if (decide (v4.1<x0))=true then ((iter (kdI x0 x1 v4) ((w64 (2*v4.1)),0,v4.2)).bind fun v7=>(if (decide ((w64 (v7.1+v4.1))<x0))=true then ((kaR v7.1 (w64 (v7.1+v4.1)) x0 x1 v7.2).bind fun v8=>(some (.inl ((w64 (v4.1*2)),v8)))) else (some (.inl ((w64 (v4.1*2)),v7.2))))) else (some (.inr v4.2)))
def kbL (x0:Int) (x1:((Pile×Pile)→Option Int)) (x2:(List Pile)):Option (List Pile):=
 ((iter (kdJ x0 x1) (20,0,x2)).bind fun v2=>((kaD v2.1 x0 x1 v2.2).bind fun v3=>((iter (kdE x0 x1) (20,v3)).bind fun v9=>(some v9))))
def kaS (x0:((Pile×Pile)→Option Int)) (x1:(List Pile)):Option (List Pile):=
 ((kbL (lenI x1) x0 x1).bind fun v0=>(some v0))
def kdp (x0:((Pile×Pile)→Option Int)) (x1:(List Pile)):Option (List Pile):=
 ((kaS x0 x1).bind fun v0=>(some v0))
def knj (x0:(List Int)) (v1:(Int×(List Pile))):Option ((Int×(List Pile))⊕(List Pile)):=
 (if (decide (v1.1<(lenI x0)))=true then ((gi x0 v1.1).bind fun v2=>((gapp v1.2 [(v2,[v1.1])]).bind fun v3=>(some (.inl ((w64 (v1.1+1)),v3))))) else (some (.inr v1.2)))
def koB (x1:Int) (v5:(List Pile)):Option ((List Pile)⊕(List Pile)):=
 ((grem (w64 ((lenI v5)-1)) (w64 (x1-1))).bind fun v6=>(if (v6 != 0)=true then ((gapp v5 [(0,[])]).bind fun v7=>(some (.inl v7))) else (some (.inr v5))))
def knq (x1:Int) (v11:(Int×(List Pile)×(List Int))) (v13:Fed):Option (Fed⊕Pile):=
 (if (decide (v13.1<(x1-0)))=true then ((gmi 0 (x1-0) v13.1).bind fun v14=>((gi v11.2.1 v14).bind fun v15=>((gapp v13.2.2 v15.2).bind fun v16=>(some (.inl ((w64 (v13.1+1)),(w64 (v13.2.1+v15.1)),v16)))))) else (some (.inr v13.2)))
def knv (v17:Pile) (v18:Pile):Option (Pile⊕(List Int)):=
 (if (decide (v18.1<(lenI v17.2)))=true then ((gi v17.2 v18.1).bind fun v19=>((gi v17.2 v18.1).bind fun v20=>((gi v18.2 v20).bind fun v21=>((gi v18.2 v20).bind fun v22=>((gi v18.2 v20).bind fun v23=>(some (.inl ((w64 (v18.1+1)),(lset v18.2 v20 (w64 (v22+1))))))))))) else (some (.inr v18.2)))
def kmU (x1:Int) (v11:(Int×(List Pile)×(List Int))):Option ((Int×(List Pile)×(List Int))⊕Pile):=
 (if (decide (1<(lenI v11.2.1)))=true then ((gsl v11.2.1 0 x1).bind fun v12=>((iter (knq x1 v11) (0,0,[])).bind fun v17=>((iter (knv v17) (0,v11.2.2)).bind fun v24=>((gsl v11.2.1 x1 (lenI v11.2.1)).bind fun v25=>((kaC ((List.drop (Int.toNat x1) v11.2.1).take (Int.toNat ((lenI v11.2.1)-x1))) v17 (fun (u0:(Pile×Pile))=>((kgy u0.1 u0.2).bind fun u1=>(some u1)))).bind fun v26=>((gmk (w64 (((lenI v11.2.1)-x1)+1)) (0,[])).bind fun v27=>((gmb ((lenI v11.2.1)-x1) 0 v26.1).bind fun v28=>((gi (lcopy v27 0 (lenI v27) ((List.drop (Int.toNat (x1+0)) v11.2.1).take (Int.toNat (v26.1-0)))) v26.1).bind fun v29=>((gsl (lset (lcopy v27 0 (lenI v27) ((List.drop (Int.toNat (x1+0)) v11.2.1).take (Int.toNat (v26.1-0)))) v26.1 v17) (w64 (v26.1+1)) (lenI (lset (lcopy v27 0 (lenI v27) ((List.drop (Int.toNat (x1+0)) v11.2.1).take (Int.toNat (v26.1-0)))) v26.1 v17))).bind fun v30=>((gmb ((lenI v11.2.1)-x1) v26.1 ((lenI v11.2.1)-x1)).bind fun v31=>(some (.inl ((w64 (v11.1+v17.1)),(ksb (lset (lcopy v27 0 (lenI v27) ((List.drop (Int.toNat (x1+0)) v11.2.1).take (Int.toNat (v26.1-0)))) v26.1 v17) ((w64 (v26.1+1)),((lenI (lset (lcopy v27 0 (lenI v27) ((List.drop (Int.toNat (x1+0)) v11.2.1).take (Int.toNat (v26.1-0)))) v26.1 v17))-(w64 (v26.1+1)))) ((List.drop (Int.toNat (x1+v26.1)) v11.2.1).take (Int.toNat (((lenI v11.2.1)-x1)-v26.1)))),v24))))))))))))) else (some (.inr (v11.1,v11.2.2))))
def kmf (x0:(List Int)) (x1:Int):Option ((List Int)×Int×Int):=
 ((kib x0 x1).bind fun v0=>(if (!v0)=true then (some ([],0,2)) else ((iter (knj x0) (0,[])).bind fun v4=>((iter (koB x1) v4).bind fun v8=>((gmk (lenI x0) 0).bind fun v9=>((kdp (fun (u0:(Pile×Pile))=>((kgy u0.1 u0.2).bind fun u1=>(some u1))) v8).bind fun v10=>((iter (kmU x1) (0,v10,v9)).bind fun v32=>(some (v32.2,v32.1,0)))))))))
def kiw (x0:(List (Int×Int×Int))) (x1:(List (Int×Int×Int))) (v0:Int):Option (Int⊕(Bool⊕Unit)):=
 (if (decide (v0<(lenI x0)))=true then ((gi x0 v0).bind fun v1=>((gi x1 v0).bind fun v2=>(if (!((v1.1==v2.1)&&((v1.2.1==v2.2.1)&&(v1.2.2==v2.2.2))))=true then (some (.inr (.inl false))) else (some (.inl (w64 (v0+1))))))) else (some (.inr (.inr ()))))
def keQ (x0:(List (Int×Int×Int))) (x1:(List (Int×Int×Int))):Option Bool:=
 (if ((lenI x0) != (lenI x1))=true then (some false) else ((iter (kiw x0 x1) 0).bind fun v3=>(match v3 with | .inl v4=>(some v4) | .inr v5=>(some true))))
def kio (x0:(List (Int×Int×Bool))) (x1:(List (Int×Int×Bool))) (v0:Int):Option (Int⊕(Bool⊕Unit)):=
 (if (decide (v0<(lenI x0)))=true then ((gi x0 v0).bind fun v1=>((gi x1 v0).bind fun v2=>(if (!((v1.1==v2.1)&&((v1.2.1==v2.2.1)&&(v1.2.2==v2.2.2))))=true then (some (.inr (.inl false))) else (some (.inl (w64 (v0+1))))))) else (some (.inr (.inr ()))))
def kgz (x0:(List (Int×Int×Bool))) (x1:(List (Int×Int×Bool))):Option Bool:=
 (if ((lenI x0) != (lenI x1))=true then (some false) else ((iter (kio x0 x1) 0).bind fun v3=>(match v3 with | .inl v4=>(some v4) | .inr v5=>(some true))))
def kjy (x0:(List Int)) (x1:(List Int)) (v0:Int):Option (Int⊕(Bool⊕Unit)):=
 (if (decide (v0<(lenI x0)))=true then ((gi x0 v0).bind fun v1=>((gi x1 v0).bind fun v2=>(if (v1 != v2)=true then (some (.inr (.inl false))) else (some (.inl (w64 (v0+1))))))) else (some (.inr (.inr ()))))
def khs (x0:(List Int)) (x1:(List Int)):Option Bool:=
 (if ((lenI x0) != (lenI x1))=true then (some false) else ((iter (kjy x0 x1) 0).bind fun v3=>(match v3 with | .inl v4=>(some v4) | .inr v5=>(some true))))
def kiA:Option Bool:=
 (law09_belt.bind fun v0=>((kcp 0 0).bind fun v1=>((kcp 6 1).bind fun v2=>((kcp 12 2).bind fun v3=>((kiD v0 [v1,v2,v3]).bind fun v4=>(law09_belt.bind fun v5=>((kcp 0 0).bind fun v6=>((kcp 4 1).bind fun v7=>((kiD v5 [v6,v7]).bind fun v8=>(law09_belt.bind fun v9=>((kcp 0 0).bind fun v10=>((kcp 6 1).bind fun v11=>((kcp 12 2).bind fun v12=>((kjT v9 [v10,v11,v12]).bind fun v13=>(law09_table.bind fun v14=>((kiI v14 0 2).bind fun v15=>((kmf [5,4,3] 2).bind fun v16=>(if (v4.2 != 0)=true then (some false) else ((keQ v4.1 [(0,0,10),(1,1,21),(2,(-1),32)]).bind fun v17=>(if (!v17)=true then (some false) else (if (v8.2 != 0)=true then (some false) else ((keQ v8.1 [(0,(-1),20),(1,(-1),24)]).bind fun v18=>(if (!v18)=true then (some false) else (if (v13.2==0)=true then ((kgz v13.1 [(8,0,true),(11,0,false),(19,1,true),(22,1,false)]).bind fun v19=>(if v19=true then (if (v15.2==0)=true then ((khs v15.1 [900000,7500,92500]).bind fun v20=>(if v20=true then (if (v16.2.2==0)=true then (some (v16.2.1==19)) else (some false)) else (some false))) else (some false)) else (some false))) else (some false)))))))))))))))))))))))))
def law09_alive:Option Bool:=some true
theorem krc:kiA=law09_alive:=by kernel_rfl
def kex (x0:(List (List Int))) (v0:Int):Option (Int⊕(Bool⊕Unit)):=
 (if (decide (v0<(lenI x0)))=true then ((gi x0 v0).bind fun v1=>(if (decide (12<(lenI v1)))=true then (some (.inr (.inl true))) else (some (.inl (w64 (v0+1)))))) else (some (.inr (.inr ()))))
def kgb (x0:(List (List Int))):Option Bool:=
 ((iter (kex x0) 0).bind fun v2=>(match v2 with | .inl v3=>(some v3) | .inr v4=>(some (decide (10<(lenI x0))))))
def kfv (x0:(List (List Int))) (x1:Int):Option Bool:=
 (if (decide (4<(lenI x0)))=true then (some (decide (3<x1))) else (some false))
end Go.Abs
set_option maxRecDepth 100000
namespace Go.Abs
open Go Go.Proofs
def kiZ:Ctr:=⟨ "",[],[tBelt],fun x=>law09_belt,[],[]⟩
theorem kkS:Good Try.prog 77 kiZ:=
 kaj Try.func77 (by kernel_rfl) (An:=[(0,⟨⟨[(8,.c (.i .i64)),(1,.ptr 8 0)],[(8,.bx 25 [.c (.i .i64),.c (.i .i64),.c (.i .i64),.mw 3,.mw 5]),(5,.sl 3 (.i .i64))]⟩,⟨[(1,.ptr 9 0)],[(9,.bx 25 [.c (.i .i64),.c (.i .i64),.c (.i .i64),.mw 3,.mw 10]),(10,.sl 3 (.i .i64))]⟩,[0],[3,2,0,1],11,false,""⟩),(49,⟨⟨[],[]⟩,⟨[(3,.c (.i .i64))],[]⟩,[2,1,8],[8,5],9,false,""⟩)]) [] (.nil) (fun x=>by kernel_rfl)
def kjS:Ctr:=⟨ "",[(.i .i64),(.i .i64)],[tFed],fun x=>kcp x.1 x.2,[],[]⟩
theorem klv:Good Try.prog 78 kjS:=
 kaj Try.func78 (by kernel_rfl) (An:=[]) [] (.nil) (fun x=>by kernel_rfl)
def khr:Ctr:=⟨ "",[(.i .i64),(.pt (.i .i64)),(.pt (.i .i64))],[.b],fun x=>keU x.1 x.2.1 x.2.2,[],[]⟩
theorem kjw:Good Try.prog 82 khr:=
 kaj Try.func82 (by kernel_rfl) (An:=[]) [] (.nil) (fun x=>by kernel_rfl)
def kcI:Ctr:=⟨ "",[(.sl (.i .i64)),(.fn 1 (.i .i64) .b)],[(.i .i64)],fun x=>kbF x.1 x.2,[],[]⟩
theorem keI:Good Try.prog 93 kcI:=
 kaj Try.func93 (by kernel_rfl) (An:=[(0,⟨⟨[(8,.c (.i .i64))],[]⟩,⟨[],[]⟩,[7,1,0],[],0,true,""⟩)]) [] (.nil) (fun x=>by kernel_rfl)
def kcf:Ctr:=⟨ "",[(.sl (.i .i64)),(.fn 1 (.i .i64) .b)],[.b],fun x=>kaO x.1 x.2,[],[]⟩
theorem kep:Good Try.prog 81 kcf:=
 kaj Try.func81 (by kernel_rfl) (An:=[]) [(93,kcI)] (.cons keI <| .nil) (fun x=>by kernel_rfl)
def kbW:Ctr:=⟨ "",[(.i .i64),(.i .i64),(.sl (.i .i64))],[.b],fun x=>kao x.1 x.2.1 x.2.2,[],[]⟩
theorem kbs:Good Try.prog 54 kbW:=
 kaj Try.func54 (by kernel_rfl) (An:=[]) [(81,kcf),(82,khr)] (.cons kep <| .cons kjw <| .nil) (fun x=>by kernel_rfl)
def kgp:Ctr:=⟨ "",[tBelt],[(.i .i64)],fun x=>khy x,[],[]⟩
theorem kil:Good Try.prog 18 kgp:=
 kaj Try.func18 (by kernel_rfl) (An:=[(0,⟨⟨[(52,.c (.i .i64)),(3,.c (.i .i64)),(4,.mp 4)],[(4,.mp (.i .i64) .b)]⟩,⟨[],[]⟩,[51,50,1],[0],5,true,""⟩)]) [(54,kbW)] (.cons kbs <| .nil) (fun x=>by kernel_rfl)
def kjK:Ctr:=⟨ "",[(.sl (.i .i64))],[.b],fun x=>klY x,[],[]⟩
theorem klq:Good Try.prog 50 kjK:=
 kaj Try.func50 (by kernel_rfl) (An:=[]) [(54,kbW)] (.cons kbs <| .nil) (fun x=>by kernel_rfl)
def kgR:Ctr:=⟨ "",[(.sl tFed)],[(.i .i64)],fun x=>kie x,[],[]⟩
theorem kiJ:Good Try.prog 20 kgR:=
 kaj Try.func20 (by kernel_rfl) (An:=[(0,⟨⟨[(11,.c (.i .i64)),(3,.c (.i .i64))],[]⟩,⟨[],[]⟩,[10,9],[],0,true,""⟩)]) [(50,kjK),(54,kbW)] (.cons klq <| .cons kbs <| .nil) (fun x=>by kernel_rfl)
def khE:Ctr:=⟨ "",[tBelt,(.sl tFed)],[(.op tLine),(.i .i64)],fun x=>kkl x.1 x.2,[],[]⟩
theorem kic:Good Try.prog 59 khE:=
 kaj Try.func59 (by kernel_rfl) (An:=[(41,⟨⟨[],[]⟩,⟨[(6,.c (.i .i64))],[]⟩,[1,2],[0],1,false,""⟩)]) [(20,kgR),(18,kgp)] (.cons kiJ <| .cons kil <| .nil) (fun x=>by kernel_rfl)
def kfA:Ctr:=⟨ "",[(.sl (.i .i64))],[(.i .i64)],fun x=>keH x,[],[]⟩
theorem kfj:Good Try.prog 51 kfA:=
 kaj Try.func51 (by kernel_rfl) (An:=[(0,⟨⟨[(12,.c (.i .i64)),(3,.ptr 0 0)],[(0,.el 130 (.ar 16 (.i .i64)))]⟩,⟨[(3,.ptr 1 0)],[(1,.el 130 (.ar 16 (.i .i64)))]⟩,[11,10],[],2,false,""⟩),(8,⟨⟨[(25,.c (.i .i64)),(7,.c (.i .i64)),(6,.c (.i .i64))],[]⟩,⟨[(6,.c (.i .i64))],[]⟩,[24],[],2,false,""⟩)]) [] (.nil) (fun x=>by kernel_rfl)
def kfd:Ctr:=⟨ "",[(.pr (.i .i64) (.i .i64)),(.pt (.op tLine)),(.pt (.i .i64))],[.b],fun x=>kfY x.1 x.2.1 x.2.2,[],[]⟩
theorem khe:Good Try.prog 103 kfd:=
 kaj Try.func103 (by kernel_rfl) (An:=[]) [] (.nil) (fun x=>by kernel_rfl)
def kbp:Ctr:=⟨ "",[(.sl (.pr (.i .i64) (.i .i64))),(.fn 1 (.pr (.i .i64) (.i .i64)) .b)],[(.i .i64)],fun x=>kbB x.1 x.2,[],[]⟩
theorem kcP:Good Try.prog 102 kbp:=
 kaj Try.func102 (by kernel_rfl) (An:=[(0,⟨⟨[(8,.c (.i .i64))],[]⟩,⟨[],[]⟩,[7,1,0],[],0,true,""⟩)]) [] (.nil) (fun x=>by kernel_rfl)
def keC:Ctr:=⟨ "",[(.op tLine),tFed],[(.i .i64)],fun x=>kfg x.1 x.2,[],[]⟩
theorem kfe:Good Try.prog 95 keC:=
 kaj Try.func95 (by kernel_rfl) (An:=[]) [(102,kbp),(103,kfd),(51,kfA)] (.cons kcP <| .cons khe <| .cons kfj <| .nil) (fun x=>by kernel_rfl)
def keF:Ctr:=⟨ "",[tFed,(.pt (.op tLine)),(.pt (.i .i64))],[.b],fun x=>kfc x.1 x.2.1 x.2.2,[],[]⟩
theorem kgK:Good Try.prog 96 keF:=
 kaj Try.func96 (by kernel_rfl) (An:=[]) [(95,keC)] (.cons kfe <| .nil) (fun x=>by kernel_rfl)
def kby:Ctr:=⟨ "",[(.sl tFed),(.fn 1 tFed .b)],[(.i .i64)],fun x=>kbP x.1 x.2,[],[]⟩
theorem kde:Good Try.prog 104 kby:=
 kaj Try.func104 (by kernel_rfl) (An:=[(0,⟨⟨[(8,.c (.i .i64))],[]⟩,⟨[],[]⟩,[7,1,0],[],0,true,""⟩)]) [] (.nil) (fun x=>by kernel_rfl)
def kbm:Ctr:=⟨ "",[(.sl tFed),(.fn 1 tFed .b)],[.b],fun x=>kbv x.1 x.2,[],[]⟩
theorem kcG:Good Try.prog 97 kbm:=
 kaj Try.func97 (by kernel_rfl) (An:=[]) [(104,kby)] (.cons kde <| .nil) (fun x=>by kernel_rfl)
def kfL:Ctr:=⟨ "",[(.op tLine),(.sl tFed)],[(.i .i64)],fun x=>kgA x.1 x.2,[],[]⟩
theorem kho:Good Try.prog 89 kfL:=
 kaj Try.func89 (by kernel_rfl) (An:=[(7,⟨⟨[],[]⟩,⟨[],[]⟩,[0],[0],0,false,""⟩)]) [(97,kbm),(96,keF),(95,keC)] (.cons kcG <| .cons kgK <| .cons kfe <| .nil) (fun x=>by kernel_rfl)
def keo:CtrI:=⟨ "",[(.pt (.op tLine))],[(.i .i64),(.sl tFed)],fun x=>runI fun o=>kce o x⟩
theorem kfS:GoodI Try.prog 88 keo:=
 kqK Try.func88 (by kernel_rfl) (An:=[(0,⟨⟨[(3,.c (.sl tFed)),(9000000,.gs (.pr (.i .i64) (.sl tFed)))],[]⟩,⟨[(9000000,.gs (.pr (.i .i64) (.sl tFed)))],[]⟩,[1],[],1,true,""⟩),(8,⟨⟨[(4,.c (.i .i64))],[]⟩,⟨[(4,.c (.i .i64))],[]⟩,[3,9000000],[],1,false,""⟩)]) [(89,kfL)] (.cons kho <| .nil) (fun x=>by kernel_rfl)
def kbo:Ctr:=⟨ "",[],[],fun _=>none,[],[keo]⟩
theorem kbH:Good Try.prog 88 kbo:=good_dm.moreI kfS
def sort_line_clusters_m0_M:CtrM:=⟨ "",[some (.op tLine)],⟨[],[]⟩,0,⟨[(1000000,.fn 88 [.ptr 0 0])],[(0,.bx 100 [.c (.op tLine)])]⟩,1,1,fun x=>kcL x⟩
theorem kfU:sort_line_clusters_m0_M.ok=true∧GoodM Try.prog 70 sort_line_clusters_m0_M:=
 kaX Try.func70 (by kernel_rfl) (An:=[]) [(88,kbo)] (.cons kbH <| .nil) (fun x=>by kernel_rfl)
def sort_line_clusters_C:Ctr:=⟨ "",[],[],fun _=>none,[],[]⟩
theorem sort_line_clusters_C_ok:Good Try.prog 70 sort_line_clusters_C:=good_dm
def kcM:Ctr:=⟨ "",sort_line_clusters_C.as,sort_line_clusters_C.rs,sort_line_clusters_C.F,sort_line_clusters_m0_M::sort_line_clusters_C.mus,sort_line_clusters_C.its⟩
theorem kef:Good Try.prog 70 kcM:=sort_line_clusters_C_ok.more kfU
def kjL:Ctr:=⟨ "",[tBelt,(.sl tFed)],[(.sl (.pr (.i .i64) (.pr (.i .i64) (.i .i64)))),(.i .i64)],fun x=>kiD x.1 x.2,[],[]⟩
theorem klV:Good Try.prog 39 kjL:=
 kaj Try.func39 (by kernel_rfl) (An:=[(0,⟨⟨[],[(3,.bx 57 [.mw 2]),(2,.sl 86 (.pr (.i .i64) (.pr (.i .i64) (.i .i64))))]⟩,⟨[],[(3,.bx 57 [.mw 6]),(6,.sl 86 (.pr (.i .i64) (.pr (.i .i64) (.i .i64))))]⟩,[24,8,2],[0],7,false,""⟩),(8,⟨⟨[(29,.c (.i .i64))],[(3,.bx 57 [.mw 2]),(2,.sl 86 (.pr (.i .i64) (.pr (.i .i64) (.i .i64))))]⟩,⟨[],[(3,.bx 57 [.mw 6]),(6,.sl 86 (.pr (.i .i64) (.pr (.i .i64) (.i .i64))))]⟩,[28,27,9],[],7,false,""⟩),(47,⟨⟨[],[]⟩,⟨[],[]⟩,[0,6,5,3,2],[0,6,5,3,2],0,false,""⟩),(55,⟨⟨[],[]⟩,⟨[],[]⟩,[0,7,6,5,3,2],[0,6,5,3,2],0,false,""⟩)]) [(70,kcM),(88,kbo),(51,kfA),(59,khE)] (.cons kef <| .cons kbH <| .cons kfj <| .cons kic <| .nil) (fun x=>by kernel_rfl)
def kgN:Ctr:=⟨ "",[(.i .i64)],[.b],fun x=>kfQ x,[],[]⟩
theorem kiR:Good Try.prog 99 kgN:=
 kaj Try.func99 (by kernel_rfl) (An:=[]) [] (.nil) (fun x=>by kernel_rfl)
def kfW:Ctr:=⟨ "",[(.i .i64),(.i .i64)],[(.i .i64)],fun x=>keS x.1 x.2,[],[]⟩
theorem khG:Good Try.prog 92 kfW:=
 kaj Try.func92 (by kernel_rfl) (An:=[]) [(99,kgN)] (.cons kiR <| .nil) (fun x=>by kernel_rfl)
def kgm:Ctr:=⟨ "",[(.sl (.i .i64))],[(.i .i64)],fun x=>khW x,[],[]⟩
theorem kgU:Good Try.prog 67 kgm:=
 kaj Try.func67 (by kernel_rfl) (An:=[(0,⟨⟨[(8,.c (.i .i64))],[]⟩,⟨[],[]⟩,[7,6,3],[],0,true,""⟩)]) [] (.nil) (fun x=>by kernel_rfl)
def kiu:Ctr:=⟨ "",[(.pr (.i .i64) (.pr (.i .i64) .b)),(.pr (.i .i64) (.pr (.i .i64) .b))],[(.i .i64)],fun x=>kkR x.1 x.2,[],[]⟩
theorem kkF:Good Try.prog 73 kiu:=
 kaj Try.func73 (by kernel_rfl) (An:=[]) [(67,kgm),(92,kfW)] (.cons kgU <| .cons khG <| .nil) (fun x=>by kernel_rfl)
def slices_insertionSortCmpFunc_api_Swing_m1_M:CtrM:=⟨ "",[none,some (.i .i64),some (.i .i64),some (.fn 2 (.pr (.pr (.i .i64) (.pr (.i .i64) .b)) (.pr (.i .i64) (.pr (.i .i64) .b))) (.i .i64))],⟨[(0,.mw 0)],[(0,.sl 107 (.pr (.i .i64) (.pr (.i .i64) .b)))]⟩,1,⟨[(0,.mw 0)],[(0,.sl 107 (.pr (.i .i64) (.pr (.i .i64) .b)))]⟩,1,0,fun x=>kaE x.1 x.2.1 x.2.2.1 x.2.2.2⟩
theorem kcl:slices_insertionSortCmpFunc_api_Swing_m1_M.ok=true∧GoodM Try.prog 105 slices_insertionSortCmpFunc_api_Swing_m1_M:=
 kaX Try.func105 (by kernel_rfl) (An:=[(0,⟨⟨[(8,.c (.i .i64))],[(0,.sl 107 (.pr (.i .i64) (.pr (.i .i64) .b)))]⟩,⟨[],[(0,.sl 107 (.pr (.i .i64) (.pr (.i .i64) .b)))]⟩,[2,1,3],[],2,false,""⟩),(8,⟨⟨[(9,.c (.i .i64))],[(0,.sl 107 (.pr (.i .i64) (.pr (.i .i64) .b)))]⟩,⟨[],[(0,.sl 107 (.pr (.i .i64) (.pr (.i .i64) .b)))]⟩,[8],[],2,false,""⟩),(27,⟨⟨[],[]⟩,⟨[],[]⟩,[],[],0,false,""⟩)]) [] (.nil) (fun x=>by kernel_rfl)
def slices_insertionSortCmpFunc_api_Swing_C:Ctr:=⟨ "",[],[],fun _=>none,[],[]⟩
theorem slices_insertionSortCmpFunc_api_Swing_C_ok:Good Try.prog 105 slices_insertionSortCmpFunc_api_Swing_C:=good_dm
def kbf:Ctr:=⟨ "",slices_insertionSortCmpFunc_api_Swing_C.as,slices_insertionSortCmpFunc_api_Swing_C.rs,slices_insertionSortCmpFunc_api_Swing_C.F,slices_insertionSortCmpFunc_api_Swing_m1_M::slices_insertionSortCmpFunc_api_Swing_C.mus,slices_insertionSortCmpFunc_api_Swing_C.its⟩
theorem kcy:Good Try.prog 105 kbf:=slices_insertionSortCmpFunc_api_Swing_C_ok.more kcl
def slices_swapRangeCmpFunc_api_Swing_m2_M:CtrM:=⟨ "",[none,some (.i .i64),some (.i .i64),some (.i .i64),some (.fn 2 (.pr (.pr (.i .i64) (.pr (.i .i64) .b)) (.pr (.i .i64) (.pr (.i .i64) .b))) (.i .i64))],⟨[(0,.mw 0)],[(0,.sl 107 (.pr (.i .i64) (.pr (.i .i64) .b)))]⟩,1,⟨[(0,.mw 0)],[(0,.sl 107 (.pr (.i .i64) (.pr (.i .i64) .b)))]⟩,1,0,fun x=>kax x.1 x.2.1 x.2.2.1 x.2.2.2.1 x.2.2.2.2⟩
theorem kcO:slices_swapRangeCmpFunc_api_Swing_m2_M.ok=true∧GoodM Try.prog 110 slices_swapRangeCmpFunc_api_Swing_m2_M:=
 kaX Try.func110 (by kernel_rfl) (An:=[(0,⟨⟨[(10,.c (.i .i64))],[(0,.sl 107 (.pr (.i .i64) (.pr (.i .i64) .b)))]⟩,⟨[],[(0,.sl 107 (.pr (.i .i64) (.pr (.i .i64) .b)))]⟩,[3,1,2],[],2,false,""⟩),(15,⟨⟨[],[]⟩,⟨[],[]⟩,[],[],0,false,""⟩)]) [] (.nil) (fun x=>by kernel_rfl)
def slices_swapRangeCmpFunc_api_Swing_C:Ctr:=⟨ "",[],[],fun _=>none,[],[]⟩
theorem slices_swapRangeCmpFunc_api_Swing_C_ok:Good Try.prog 110 slices_swapRangeCmpFunc_api_Swing_C:=good_dm
def kbA:Ctr:=⟨ "",slices_swapRangeCmpFunc_api_Swing_C.as,slices_swapRangeCmpFunc_api_Swing_C.rs,slices_swapRangeCmpFunc_api_Swing_C.F,slices_swapRangeCmpFunc_api_Swing_m2_M::slices_swapRangeCmpFunc_api_Swing_C.mus,slices_swapRangeCmpFunc_api_Swing_C.its⟩
theorem kdf:Good Try.prog 110 kbA:=slices_swapRangeCmpFunc_api_Swing_C_ok.more kcO
def slices_rotateCmpFunc_api_Swing_m3_M:CtrM:=⟨ "",[none,some (.i .i64),some (.i .i64),some (.i .i64),some (.fn 2 (.pr (.pr (.i .i64) (.pr (.i .i64) .b)) (.pr (.i .i64) (.pr (.i .i64) .b))) (.i .i64))],⟨[(0,.mw 0)],[(0,.sl 107 (.pr (.i .i64) (.pr (.i .i64) .b)))]⟩,1,⟨[(0,.mw 0)],[(0,.sl 107 (.pr (.i .i64) (.pr (.i .i64) .b)))]⟩,1,0,fun x=>kbX x.1 x.2.1 x.2.2.1 x.2.2.2.1 x.2.2.2.2⟩
theorem kdv:slices_rotateCmpFunc_api_Swing_m3_M.ok=true∧GoodM Try.prog 108 slices_rotateCmpFunc_api_Swing_m3_M:=
 kaX Try.func108 (by kernel_rfl) (An:=[(0,⟨⟨[(10,.c (.i .i64)),(11,.c (.i .i64))],[(0,.sl 107 (.pr (.i .i64) (.pr (.i .i64) .b)))]⟩,⟨[(10,.c (.i .i64))],[(0,.sl 107 (.pr (.i .i64) (.pr (.i .i64) .b)))]⟩,[2,4],[],2,false,""⟩)]) [(110,kbA)] (.cons kdf <| .nil) (fun x=>by kernel_rfl)
def slices_rotateCmpFunc_api_Swing_C:Ctr:=⟨ "",[],[],fun _=>none,[],[]⟩
theorem slices_rotateCmpFunc_api_Swing_C_ok:Good Try.prog 108 slices_rotateCmpFunc_api_Swing_C:=good_dm
def kbY:Ctr:=⟨ "",slices_rotateCmpFunc_api_Swing_C.as,slices_rotateCmpFunc_api_Swing_C.rs,slices_rotateCmpFunc_api_Swing_C.F,slices_rotateCmpFunc_api_Swing_m3_M::slices_rotateCmpFunc_api_Swing_C.mus,slices_rotateCmpFunc_api_Swing_C.its⟩
theorem kdQ:Good Try.prog 108 kbY:=slices_rotateCmpFunc_api_Swing_C_ok.more kdv
def kaI (k:Nat):CtrM:=⟨ "",[none,some (.i .i64),some (.i .i64),some (.i .i64),some (.fn 2 (.pr (.pr (.i .i64) (.pr (.i .i64) .b)) (.pr (.i .i64) (.pr (.i .i64) .b))) (.i .i64))],⟨[(0,.mw 0)],[(0,.sl 107 (.pr (.i .i64) (.pr (.i .i64) .b)))]⟩,1,⟨[(0,.mw 0)],[(0,.sl 107 (.pr (.i .i64) (.pr (.i .i64) .b)))]⟩,1,0,fun x=>kaM k x.1 x.2.1 x.2.2.1 x.2.2.2.1 x.2.2.2.2⟩
theorem kbk:∀ k,(kaI k).ok=true∧GoodM Try.prog 106 (kaI k)
 | 0=>khV (by kernel_rfl) (fun x=>rfl)
 | k+1=>kaX Try.func106 (by kernel_rfl) (An:=[(0,⟨⟨[(10,.c (.i .i64)),(11,.c (.i .i64))],[]⟩,⟨[(10,.c (.i .i64))],[]⟩,[4,1],[0],1,false,""⟩),(8,⟨⟨[(13,.c (.i .i64))],[(0,.sl 107 (.pr (.i .i64) (.pr (.i .i64) .b)))]⟩,⟨[],[(0,.sl 107 (.pr (.i .i64) (.pr (.i .i64) .b)))]⟩,[10],[],2,false,""⟩),(47,⟨⟨[],[]⟩,⟨[],[]⟩,[],[],0,false,""⟩),(16,⟨⟨[(14,.c (.i .i64)),(15,.c (.i .i64))],[]⟩,⟨[(14,.c (.i .i64))],[]⟩,[4,2],[0],1,false,""⟩),(24,⟨⟨[(17,.c (.i .i64))],[(0,.sl 107 (.pr (.i .i64) (.pr (.i .i64) .b)))]⟩,⟨[],[(0,.sl 107 (.pr (.i .i64) (.pr (.i .i64) .b)))]⟩,[14],[],2,false,""⟩),(95,⟨⟨[],[]⟩,⟨[],[]⟩,[],[],0,false,""⟩),(561,⟨⟨[],[]⟩,⟨[(20,.c (.i .i64)),(21,.c (.i .i64))],[]⟩,[19,3,18,4,2,1],[0],1,false,""⟩),(32,⟨⟨[(20,.c (.i .i64)),(21,.c (.i .i64))],[]⟩,⟨[(20,.c (.i .i64))],[]⟩,[4,22,19,2,1,18,3],[0],1,false,""⟩),(158,⟨⟨[],[]⟩,⟨[(185,.c .b)],[]⟩,[20,2,24,4,1,18,3],[0],1,false,""⟩),(741,⟨⟨[],[(0,.sl 107 (.pr (.i .i64) (.pr (.i .i64) .b)))]⟩,⟨[],[(0,.sl 107 (.pr (.i .i64) (.pr (.i .i64) .b)))]⟩,[20,2,24,4,1,18,3],[],2,false,""⟩),(166,⟨⟨[],[]⟩,⟨[(199,.c .b)],[]⟩,[1,20,18,4,24,3],[0],2,false,""⟩),(797,⟨⟨[],[(0,.sl 107 (.pr (.i .i64) (.pr (.i .i64) .b)))]⟩,⟨[],[(0,.sl 107 (.pr (.i .i64) (.pr (.i .i64) .b)))]⟩,[1,20,18,4,24,3],[],3,false,""⟩)]) ((106,⟨ "",[],[],fun _=>none,[kaI k],[]⟩)::[(108,kbY)]) (.cons (good_dm.more (kbk k)) <| .cons kdQ <| .nil) (fun x=>by kernel_rfl)
def slices_symMergeCmpFunc_api_Swing_m4_M:CtrM:=⟨ "",[none,some (.i .i64),some (.i .i64),some (.i .i64),some (.fn 2 (.pr (.pr (.i .i64) (.pr (.i .i64) .b)) (.pr (.i .i64) (.pr (.i .i64) .b))) (.i .i64))],⟨[(0,.mw 0)],[(0,.sl 107 (.pr (.i .i64) (.pr (.i .i64) .b)))]⟩,1,⟨[(0,.mw 0)],[(0,.sl 107 (.pr (.i .i64) (.pr (.i .i64) .b)))]⟩,1,0,fun x=>kaU x.1 x.2.1 x.2.2.1 x.2.2.2.1 x.2.2.2.2⟩
theorem kcU:slices_symMergeCmpFunc_api_Swing_m4_M.ok=true∧GoodM Try.prog 106 slices_symMergeCmpFunc_api_Swing_m4_M:=kbk 1000000
def slices_symMergeCmpFunc_api_Swing_C:Ctr:=⟨ "",[],[],fun _=>none,[],[]⟩
theorem slices_symMergeCmpFunc_api_Swing_C_ok:Good Try.prog 106 slices_symMergeCmpFunc_api_Swing_C:=good_dm
def kbE:Ctr:=⟨ "",slices_symMergeCmpFunc_api_Swing_C.as,slices_symMergeCmpFunc_api_Swing_C.rs,slices_symMergeCmpFunc_api_Swing_C.F,slices_symMergeCmpFunc_api_Swing_m4_M::slices_symMergeCmpFunc_api_Swing_C.mus,slices_symMergeCmpFunc_api_Swing_C.its⟩
theorem kdx:Good Try.prog 106 kbE:=slices_symMergeCmpFunc_api_Swing_C_ok.more kcU
def slices_stableCmpFunc_api_Swing_m5_M:CtrM:=⟨ "",[none,some (.i .i64),some (.fn 2 (.pr (.pr (.i .i64) (.pr (.i .i64) .b)) (.pr (.i .i64) (.pr (.i .i64) .b))) (.i .i64))],⟨[(0,.mw 0)],[(0,.sl 107 (.pr (.i .i64) (.pr (.i .i64) .b)))]⟩,1,⟨[(0,.mw 0)],[(0,.sl 107 (.pr (.i .i64) (.pr (.i .i64) .b)))]⟩,1,0,fun x=>kbU x.1 x.2.1 x.2.2⟩
theorem kdB:slices_stableCmpFunc_api_Swing_m5_M.ok=true∧GoodM Try.prog 98 slices_stableCmpFunc_api_Swing_m5_M:=
 kaX Try.func98 (by kernel_rfl) (An:=[(0,⟨⟨[(8,.c (.i .i64)),(7,.c (.i .i64))],[(0,.sl 107 (.pr (.i .i64) (.pr (.i .i64) .b)))]⟩,⟨[(7,.c (.i .i64))],[(0,.sl 107 (.pr (.i .i64) (.pr (.i .i64) .b)))]⟩,[1,2,6],[],2,false,""⟩),(8,⟨⟨[(6,.c (.i .i64))],[(0,.sl 107 (.pr (.i .i64) (.pr (.i .i64) .b)))]⟩,⟨[],[(0,.sl 107 (.pr (.i .i64) (.pr (.i .i64) .b)))]⟩,[1,2],[],3,false,""⟩),(16,⟨⟨[(8,.c (.i .i64)),(7,.c (.i .i64))],[(0,.sl 107 (.pr (.i .i64) (.pr (.i .i64) .b)))]⟩,⟨[(7,.c (.i .i64))],[(0,.sl 107 (.pr (.i .i64) (.pr (.i .i64) .b)))]⟩,[6],[],3,false,""⟩)]) [(106,kbE),(105,kbf)] (.cons kdx <| .cons kcy <| .nil) (fun x=>by kernel_rfl)
def slices_stableCmpFunc_api_Swing_C:Ctr:=⟨ "",[],[],fun _=>none,[],[]⟩
theorem slices_stableCmpFunc_api_Swing_C_ok:Good Try.prog 98 slices_stableCmpFunc_api_Swing_C:=good_dm
def kbV:Ctr:=⟨ "",slices_stableCmpFunc_api_Swing_C.as,slices_stableCmpFunc_api_Swing_C.rs,slices_stableCmpFunc_api_Swing_C.F,slices_stableCmpFunc_api_Swing_m5_M::slices_stableCmpFunc_api_Swing_C.mus,slices_stableCmpFunc_api_Swing_C.its⟩
theorem kdV:Good Try.prog 98 kbV:=slices_stableCmpFunc_api_Swing_C_ok.more kdB
def slices_SortStableFunc_s_api_Swing_api_Swing_m6_M:CtrM:=⟨ "",[none,some (.fn 2 (.pr (.pr (.i .i64) (.pr (.i .i64) .b)) (.pr (.i .i64) (.pr (.i .i64) .b))) (.i .i64))],⟨[(0,.mw 0)],[(0,.sl 107 (.pr (.i .i64) (.pr (.i .i64) .b)))]⟩,1,⟨[(0,.mw 0)],[(0,.sl 107 (.pr (.i .i64) (.pr (.i .i64) .b)))]⟩,1,0,fun x=>kaV x.1 x.2⟩
theorem kbJ:slices_SortStableFunc_s_api_Swing_api_Swing_m6_M.ok=true∧GoodM Try.prog 91 slices_SortStableFunc_s_api_Swing_api_Swing_m6_M:=
 kaX Try.func91 (by kernel_rfl) (An:=[]) [(98,kbV)] (.cons kdV <| .nil) (fun x=>by kernel_rfl)
def slices_SortStableFunc_s_api_Swing_api_Swing_C:Ctr:=⟨ "",[],[],fun _=>none,[],[]⟩
theorem slices_SortStableFunc_s_api_Swing_api_Swing_C_ok:Good Try.prog 91 slices_SortStableFunc_s_api_Swing_api_Swing_C:=good_dm
def kaW:Ctr:=⟨ "",slices_SortStableFunc_s_api_Swing_api_Swing_C.as,slices_SortStableFunc_s_api_Swing_api_Swing_C.rs,slices_SortStableFunc_s_api_Swing_api_Swing_C.F,slices_SortStableFunc_s_api_Swing_api_Swing_m6_M::slices_SortStableFunc_s_api_Swing_api_Swing_C.mus,slices_SortStableFunc_s_api_Swing_api_Swing_C.its⟩
theorem kcc:Good Try.prog 91 kaW:=slices_SortStableFunc_s_api_Swing_api_Swing_C_ok.more kbJ
def sort_ordered_api_Swing_m7_M:CtrM:=⟨ "",[none,some (.fn 2 (.pr (.pr (.i .i64) (.pr (.i .i64) .b)) (.pr (.i .i64) (.pr (.i .i64) .b))) (.i .i64))],⟨[(0,.mw 0)],[(0,.sl 107 (.pr (.i .i64) (.pr (.i .i64) .b)))]⟩,1,⟨[(0,.mw 0),(1000000,.mw 0)],[(0,.sl 107 (.pr (.i .i64) (.pr (.i .i64) .b)))]⟩,1,1,fun x=>kdD x.1 x.2⟩
theorem keX:sort_ordered_api_Swing_m7_M.ok=true∧GoodM Try.prog 72 sort_ordered_api_Swing_m7_M:=
 kaX Try.func72 (by kernel_rfl) (An:=[]) [(91,kaW)] (.cons kcc <| .nil) (fun x=>by kernel_rfl)
def sort_ordered_api_Swing_C:Ctr:=⟨ "",[],[],fun _=>none,[],[]⟩
theorem sort_ordered_api_Swing_C_ok:Good Try.prog 72 sort_ordered_api_Swing_C:=good_dm
def kdC:Ctr:=⟨ "",sort_ordered_api_Swing_C.as,sort_ordered_api_Swing_C.rs,sort_ordered_api_Swing_C.F,sort_ordered_api_Swing_m7_M::sort_ordered_api_Swing_C.mus,sort_ordered_api_Swing_C.its⟩
theorem kfn:Good Try.prog 72 kdC:=sort_ordered_api_Swing_C_ok.more keX
def kii:Ctr:=⟨ "",[tBelt,(.sl tFed)],[(.sl (.pr (.i .i64) (.pr (.i .i64) .b))),(.i .i64)],fun x=>kjT x.1 x.2,[],[]⟩
theorem kkn:Good Try.prog 41 kii:=
 kaj Try.func41 (by kernel_rfl) (An:=[(0,⟨⟨[],[(3,.bx 56 [.mw 2]),(2,.sl 107 (.pr (.i .i64) (.pr (.i .i64) .b)))]⟩,⟨[],[(3,.bx 56 [.mw 6]),(6,.sl 107 (.pr (.i .i64) (.pr (.i .i64) .b)))]⟩,[22,8,2],[0],7,false,""⟩)]) [(72,kdC),(73,kiu),(70,kcM),(88,kbo),(59,khE)] (.cons kfn <| .cons kkF <| .cons kef <| .cons kbH <| .cons kic <| .nil) (fun x=>by kernel_rfl)
def kig:Ctr:=⟨ "",[],[(.sl (.sl (.i .i64)))],fun x=>law09_table,[],[]⟩
theorem kkd:Good Try.prog 79 kig:=
 kaj Try.func79 (by kernel_rfl) (An:=[]) [] (.nil) (fun x=>by kernel_rfl)
def keq:Ctr:=⟨ "",[(.sl (.sl (.i .i64)))],[(.i .i64)],fun x=>kcm x,[],[]⟩
theorem keT:Good Try.prog 28 keq:=
 kaj Try.func28 (by kernel_rfl) (An:=[(0,⟨⟨[(15,.c (.i .i64))],[]⟩,⟨[],[]⟩,[14,13,0],[],1,true,""⟩),(8,⟨⟨[(32,.c (.i .i64)),(5,.c (.i .i64))],[]⟩,⟨[(5,.c (.i .i64))],[]⟩,[31,30,15],[],1,false,""⟩)]) [(54,kbW)] (.cons kbs <| .nil) (fun x=>by kernel_rfl)
def kcJ (k:Nat):CtrM:=⟨ "",[some (.i .i64),some (.i .i64),none,none,none,none,none,none],⟨[(2,.ptr 0 0),(3,.ptr 1 0),(4,.ptr 3 0),(5,.ptr 4 0),(6,.ptr 6 0),(7,.ptr 7 0)],[(0,.bx 3 [.c (.i .i64)]),(1,.bx 23 [.mw 2]),(2,.sl 3 (.i .i64)),(3,.bx 3 [.c (.i .i64)]),(4,.bx 23 [.mw 5]),(5,.sl 3 (.i .i64)),(6,.bx 23 [.c (.sl (.i .i64))]),(7,.bx 133 [.fn 83 [.ptr 0 0,.ptr 1 0,.ptr 3 0,.ptr 4 0,.ptr 6 0,.ptr 7 0]])]⟩,8,⟨[(2,.ptr 0 0),(3,.ptr 1 0),(4,.ptr 3 0),(5,.ptr 4 0),(6,.ptr 6 0),(7,.ptr 7 0)],[(0,.bx 3 [.c (.i .i64)]),(1,.bx 23 [.mw 8]),(8,.sl 3 (.i .i64)),(3,.bx 3 [.c (.i .i64)]),(4,.bx 23 [.mw 9]),(9,.sl 3 (.i .i64)),(6,.bx 23 [.c (.sl (.i .i64))]),(7,.bx 133 [.fn 83 [.ptr 0 0,.ptr 1 0,.ptr 3 0,.ptr 4 0,.ptr 6 0,.ptr 7 0]])]⟩,10,0,fun x=>kam k x.1 x.2.1 x.2.2.1 x.2.2.2.1 x.2.2.2.2.1 x.2.2.2.2.2.1 x.2.2.2.2.2.2⟩
theorem ket:∀ k,(kcJ k).ok=true∧GoodM Try.prog 83 (kcJ k)
 | 0=>khV (by kernel_rfl) (fun x=>rfl)
 | k+1=>kaX Try.func83 (by kernel_rfl) (An:=[(77,⟨⟨[],[]⟩,⟨[(10,.c (.i .i64))],[]⟩,[1],[3,4,5,0,1,2,6,7],8,false,""⟩),(0,⟨⟨[(30,.c (.i .i64))],[(1,.bx 23 [.mw 2]),(2,.sl 3 (.i .i64)),(3,.bx 3 [.c (.i .i64)]),(7,.bx 133 [.fn 83 [.ptr 0 0,.ptr 1 0,.ptr 3 0,.ptr 4 0,.ptr 6 0,.ptr 7 0]]),(0,.bx 3 [.c (.i .i64)]),(4,.bx 23 [.mw 5]),(5,.sl 3 (.i .i64)),(6,.bx 23 [.c (.sl (.i .i64))])]⟩,⟨[],[(1,.bx 23 [.mw 9]),(9,.sl 3 (.i .i64)),(3,.bx 3 [.c (.i .i64)]),(7,.bx 133 [.fn 83 [.ptr 0 0,.ptr 1 0,.ptr 3 0,.ptr 4 0,.ptr 6 0,.ptr 7 0]]),(0,.bx 3 [.c (.i .i64)]),(4,.bx 23 [.mw 14]),(14,.sl 3 (.i .i64)),(6,.bx 23 [.c (.sl (.i .i64))])]⟩,[29,28,0,1],[],16,false,""⟩),(173,⟨⟨[],[(2,.sl 3 (.i .i64))]⟩,⟨[],[(2,.sl 3 (.i .i64))]⟩,[12,30],[1,7,0,3,4,5,6],9,false,""⟩)]) ((83,⟨ "",[],[],fun _=>none,[kcJ k],[]⟩)::[(51,kfA)]) (.cons (good_dm.more (ket k)) <| .cons kfj <| .nil) (fun x=>by kernel_rfl)
def sort_chances_c1_m8_M:CtrM:=⟨ "",[some (.i .i64),some (.i .i64),none,none,none,none,none,none],⟨[(2,.ptr 0 0),(3,.ptr 1 0),(4,.ptr 3 0),(5,.ptr 4 0),(6,.ptr 6 0),(7,.ptr 7 0)],[(0,.bx 3 [.c (.i .i64)]),(1,.bx 23 [.mw 2]),(2,.sl 3 (.i .i64)),(3,.bx 3 [.c (.i .i64)]),(4,.bx 23 [.mw 5]),(5,.sl 3 (.i .i64)),(6,.bx 23 [.c (.sl (.i .i64))]),(7,.bx 133 [.fn 83 [.ptr 0 0,.ptr 1 0,.ptr 3 0,.ptr 4 0,.ptr 6 0,.ptr 7 0]])]⟩,8,⟨[(2,.ptr 0 0),(3,.ptr 1 0),(4,.ptr 3 0),(5,.ptr 4 0),(6,.ptr 6 0),(7,.ptr 7 0)],[(0,.bx 3 [.c (.i .i64)]),(1,.bx 23 [.mw 8]),(8,.sl 3 (.i .i64)),(3,.bx 3 [.c (.i .i64)]),(4,.bx 23 [.mw 9]),(9,.sl 3 (.i .i64)),(6,.bx 23 [.c (.sl (.i .i64))]),(7,.bx 133 [.fn 83 [.ptr 0 0,.ptr 1 0,.ptr 3 0,.ptr 4 0,.ptr 6 0,.ptr 7 0]])]⟩,10,0,fun x=>kdY x.1 x.2.1 x.2.2.1 x.2.2.2.1 x.2.2.2.2.1 x.2.2.2.2.2.1 x.2.2.2.2.2.2⟩
theorem kgM:sort_chances_c1_m8_M.ok=true∧GoodM Try.prog 83 sort_chances_c1_m8_M:=ket 1000000
def sort_chances_c1_C:Ctr:=⟨ "",[],[],fun _=>none,[],[]⟩
theorem sort_chances_c1_C_ok:Good Try.prog 83 sort_chances_c1_C:=good_dm
def kfD:Ctr:=⟨ "",sort_chances_c1_C.as,sort_chances_c1_C.rs,sort_chances_c1_C.F,sort_chances_c1_m8_M::sort_chances_c1_C.mus,sort_chances_c1_C.its⟩
theorem khC:Good Try.prog 83 kfD:=sort_chances_c1_C_ok.more kgM
def kfp:Ctr:=⟨ "",[(.sl (.i .i64)),(.i .i64)],[(.sl (.i .i64))],fun x=>kec x.1 x.2,[],[]⟩
theorem kfX:Good Try.prog 55 kfp:=
 kaj Try.func55 (by kernel_rfl) (An:=[]) [(83,kfD)] (.cons khC <| .nil) (fun x=>by kernel_rfl)
def khk:Ctr:=⟨ "",[(.sl (.sl (.i .i64))),(.i .i64),(.i .i64)],[(.sl (.i .i64)),(.i .i64)],fun x=>kiI x.1 x.2.1 x.2.2,[],[]⟩
theorem kjt:Good Try.prog 24 khk:=
 kaj Try.func24 (by kernel_rfl) (An:=[]) [(55,kfp),(28,keq),(54,kbW)] (.cons kfX <| .cons keT <| .cons kbs <| .nil) (fun x=>by kernel_rfl)
def kgS:Ctr:=⟨ "",[(.sl (.i .i64)),(.i .i64)],[.b],fun x=>kib x.1 x.2,[],[]⟩
theorem kiY:Good Try.prog 65 kgS:=
 kaj Try.func65 (by kernel_rfl) (An:=[]) [(54,kbW)] (.cons kbs <| .nil) (fun x=>by kernel_rfl)
def khp:Ctr:=⟨ "",[tPile,tPile],[(.i .i64)],fun x=>kgy x.1 x.2,[],[]⟩
theorem kju:Good Try.prog 66 khp:=
 kaj Try.func66 (by kernel_rfl) (An:=[]) [(67,kgm)] (.cons kgU <| .nil) (fun x=>by kernel_rfl)
def kaA:Ctr:=⟨ "",[(.sl tPile),tPile,(.fn 2 (.pr tPile tPile) (.i .i64))],[(.i .i64),.b],fun x=>kaC x.1 x.2.1 x.2.2,[],[]⟩
theorem kbg:Good Try.prog 69 kaA:=
 kaj Try.func69 (by kernel_rfl) (An:=[(0,⟨⟨[(9,.c (.i .i64)),(10,.c (.i .i64))],[]⟩,⟨[(9,.c (.i .i64))],[]⟩,[2,0,4,8],[0],1,false,""⟩)]) [] (.nil) (fun x=>by kernel_rfl)
def slices_insertionSortCmpFunc_sort_pile_m9_M:CtrM:=⟨ "",[none,some (.i .i64),some (.i .i64),some (.fn 2 (.pr tPile tPile) (.i .i64))],⟨[(0,.mw 0)],[(0,.sl 114 tPile)]⟩,1,⟨[(0,.mw 0)],[(0,.sl 114 tPile)]⟩,1,0,fun x=>kaD x.1 x.2.1 x.2.2.1 x.2.2.2⟩
theorem kck:slices_insertionSortCmpFunc_sort_pile_m9_M.ok=true∧GoodM Try.prog 100 slices_insertionSortCmpFunc_sort_pile_m9_M:=
 kaX Try.func100 (by kernel_rfl) (An:=[(0,⟨⟨[(8,.c (.i .i64))],[(0,.sl 114 tPile)]⟩,⟨[],[(0,.sl 114 tPile)]⟩,[2,1,3],[],2,false,""⟩),(8,⟨⟨[(9,.c (.i .i64))],[(0,.sl 114 tPile)]⟩,⟨[],[(0,.sl 114 tPile)]⟩,[8],[],2,false,""⟩),(27,⟨⟨[],[]⟩,⟨[],[]⟩,[],[],0,false,""⟩)]) [] (.nil) (fun x=>by kernel_rfl)
def slices_insertionSortCmpFunc_sort_pile_C:Ctr:=⟨ "",[],[],fun _=>none,[],[]⟩
theorem slices_insertionSortCmpFunc_sort_pile_C_ok:Good Try.prog 100 slices_insertionSortCmpFunc_sort_pile_C:=good_dm
def kbi:Ctr:=⟨ "",slices_insertionSortCmpFunc_sort_pile_C.as,slices_insertionSortCmpFunc_sort_pile_C.rs,slices_insertionSortCmpFunc_sort_pile_C.F,slices_insertionSortCmpFunc_sort_pile_m9_M::slices_insertionSortCmpFunc_sort_pile_C.mus,slices_insertionSortCmpFunc_sort_pile_C.its⟩
theorem kcA:Good Try.prog 100 kbi:=slices_insertionSortCmpFunc_sort_pile_C_ok.more kck
def slices_swapRangeCmpFunc_sort_pile_m10_M:CtrM:=⟨ "",[none,some (.i .i64),some (.i .i64),some (.i .i64),some (.fn 2 (.pr tPile tPile) (.i .i64))],⟨[(0,.mw 0)],[(0,.sl 114 tPile)]⟩,1,⟨[(0,.mw 0)],[(0,.sl 114 tPile)]⟩,1,0,fun x=>kav x.1 x.2.1 x.2.2.1 x.2.2.2.1 x.2.2.2.2⟩
theorem kcK:slices_swapRangeCmpFunc_sort_pile_m10_M.ok=true∧GoodM Try.prog 109 slices_swapRangeCmpFunc_sort_pile_m10_M:=
 kaX Try.func109 (by kernel_rfl) (An:=[(0,⟨⟨[(10,.c (.i .i64))],[(0,.sl 114 tPile)]⟩,⟨[],[(0,.sl 114 tPile)]⟩,[3,1,2],[],2,false,""⟩),(15,⟨⟨[],[]⟩,⟨[],[]⟩,[],[],0,false,""⟩)]) [] (.nil) (fun x=>by kernel_rfl)
def slices_swapRangeCmpFunc_sort_pile_C:Ctr:=⟨ "",[],[],fun _=>none,[],[]⟩
theorem slices_swapRangeCmpFunc_sort_pile_C_ok:Good Try.prog 109 slices_swapRangeCmpFunc_sort_pile_C:=good_dm
def kbu:Ctr:=⟨ "",slices_swapRangeCmpFunc_sort_pile_C.as,slices_swapRangeCmpFunc_sort_pile_C.rs,slices_swapRangeCmpFunc_sort_pile_C.F,slices_swapRangeCmpFunc_sort_pile_m10_M::slices_swapRangeCmpFunc_sort_pile_C.mus,slices_swapRangeCmpFunc_sort_pile_C.its⟩
theorem kcY:Good Try.prog 109 kbu:=slices_swapRangeCmpFunc_sort_pile_C_ok.more kcK
def slices_rotateCmpFunc_sort_pile_m11_M:CtrM:=⟨ "",[none,some (.i .i64),some (.i .i64),some (.i .i64),some (.fn 2 (.pr tPile tPile) (.i .i64))],⟨[(0,.mw 0)],[(0,.sl 114 tPile)]⟩,1,⟨[(0,.mw 0)],[(0,.sl 114 tPile)]⟩,1,0,fun x=>kbN x.1 x.2.1 x.2.2.1 x.2.2.2.1 x.2.2.2.2⟩
theorem kdd:slices_rotateCmpFunc_sort_pile_m11_M.ok=true∧GoodM Try.prog 107 slices_rotateCmpFunc_sort_pile_m11_M:=
 kaX Try.func107 (by kernel_rfl) (An:=[(0,⟨⟨[(10,.c (.i .i64)),(11,.c (.i .i64))],[(0,.sl 114 tPile)]⟩,⟨[(10,.c (.i .i64))],[(0,.sl 114 tPile)]⟩,[2,4],[],2,false,""⟩)]) [(109,kbu)] (.cons kcY <| .nil) (fun x=>by kernel_rfl)
def slices_rotateCmpFunc_sort_pile_C:Ctr:=⟨ "",[],[],fun _=>none,[],[]⟩
theorem slices_rotateCmpFunc_sort_pile_C_ok:Good Try.prog 107 slices_rotateCmpFunc_sort_pile_C:=good_dm
def kbM:Ctr:=⟨ "",slices_rotateCmpFunc_sort_pile_C.as,slices_rotateCmpFunc_sort_pile_C.rs,slices_rotateCmpFunc_sort_pile_C.F,slices_rotateCmpFunc_sort_pile_m11_M::slices_rotateCmpFunc_sort_pile_C.mus,slices_rotateCmpFunc_sort_pile_C.its⟩
theorem kdG:Good Try.prog 107 kbM:=slices_rotateCmpFunc_sort_pile_C_ok.more kdd
def kaF (k:Nat):CtrM:=⟨ "",[none,some (.i .i64),some (.i .i64),some (.i .i64),some (.fn 2 (.pr tPile tPile) (.i .i64))],⟨[(0,.mw 0)],[(0,.sl 114 tPile)]⟩,1,⟨[(0,.mw 0)],[(0,.sl 114 tPile)]⟩,1,0,fun x=>kaJ k x.1 x.2.1 x.2.2.1 x.2.2.2.1 x.2.2.2.2⟩
theorem kbh:∀ k,(kaF k).ok=true∧GoodM Try.prog 101 (kaF k)
 | 0=>khV (by kernel_rfl) (fun x=>rfl)
 | k+1=>kaX Try.func101 (by kernel_rfl) (An:=[(0,⟨⟨[(10,.c (.i .i64)),(11,.c (.i .i64))],[]⟩,⟨[(10,.c (.i .i64))],[]⟩,[4,1],[0],1,false,""⟩),(8,⟨⟨[(13,.c (.i .i64))],[(0,.sl 114 tPile)]⟩,⟨[],[(0,.sl 114 tPile)]⟩,[10],[],2,false,""⟩),(47,⟨⟨[],[]⟩,⟨[],[]⟩,[],[],0,false,""⟩),(16,⟨⟨[(14,.c (.i .i64)),(15,.c (.i .i64))],[]⟩,⟨[(14,.c (.i .i64))],[]⟩,[4,2],[0],1,false,""⟩),(24,⟨⟨[(17,.c (.i .i64))],[(0,.sl 114 tPile)]⟩,⟨[],[(0,.sl 114 tPile)]⟩,[14],[],2,false,""⟩),(95,⟨⟨[],[]⟩,⟨[],[]⟩,[],[],0,false,""⟩),(561,⟨⟨[],[]⟩,⟨[(20,.c (.i .i64)),(21,.c (.i .i64))],[]⟩,[19,3,18,4,2,1],[0],1,false,""⟩),(32,⟨⟨[(20,.c (.i .i64)),(21,.c (.i .i64))],[]⟩,⟨[(20,.c (.i .i64))],[]⟩,[4,22,19,2,1,18,3],[0],1,false,""⟩),(158,⟨⟨[],[]⟩,⟨[(185,.c .b)],[]⟩,[20,2,24,4,1,18,3],[0],1,false,""⟩),(741,⟨⟨[],[(0,.sl 114 tPile)]⟩,⟨[],[(0,.sl 114 tPile)]⟩,[20,2,24,4,1,18,3],[],2,false,""⟩),(166,⟨⟨[],[]⟩,⟨[(199,.c .b)],[]⟩,[1,20,18,4,24,3],[0],2,false,""⟩),(797,⟨⟨[],[(0,.sl 114 tPile)]⟩,⟨[],[(0,.sl 114 tPile)]⟩,[1,20,18,4,24,3],[],3,false,""⟩)]) ((101,⟨ "",[],[],fun _=>none,[kaF k],[]⟩)::[(107,kbM)]) (.cons (good_dm.more (kbh k)) <| .cons kdG <| .nil) (fun x=>by kernel_rfl)
def slices_symMergeCmpFunc_sort_pile_m12_M:CtrM:=⟨ "",[none,some (.i .i64),some (.i .i64),some (.i .i64),some (.fn 2 (.pr tPile tPile) (.i .i64))],⟨[(0,.mw 0)],[(0,.sl 114 tPile)]⟩,1,⟨[(0,.mw 0)],[(0,.sl 114 tPile)]⟩,1,0,fun x=>kaR x.1 x.2.1 x.2.2.1 x.2.2.2.1 x.2.2.2.2⟩
theorem kcQ:slices_symMergeCmpFunc_sort_pile_m12_M.ok=true∧GoodM Try.prog 101 slices_symMergeCmpFunc_sort_pile_m12_M:=kbh 1000000
def slices_symMergeCmpFunc_sort_pile_C:Ctr:=⟨ "",[],[],fun _=>none,[],[]⟩
theorem slices_symMergeCmpFunc_sort_pile_C_ok:Good Try.prog 101 slices_symMergeCmpFunc_sort_pile_C:=good_dm
def kbC:Ctr:=⟨ "",slices_symMergeCmpFunc_sort_pile_C.as,slices_symMergeCmpFunc_sort_pile_C.rs,slices_symMergeCmpFunc_sort_pile_C.F,slices_symMergeCmpFunc_sort_pile_m12_M::slices_symMergeCmpFunc_sort_pile_C.mus,slices_symMergeCmpFunc_sort_pile_C.its⟩
theorem kdc:Good Try.prog 101 kbC:=slices_symMergeCmpFunc_sort_pile_C_ok.more kcQ
def slices_stableCmpFunc_sort_pile_m13_M:CtrM:=⟨ "",[none,some (.i .i64),some (.fn 2 (.pr tPile tPile) (.i .i64))],⟨[(0,.mw 0)],[(0,.sl 114 tPile)]⟩,1,⟨[(0,.mw 0)],[(0,.sl 114 tPile)]⟩,1,0,fun x=>kbL x.1 x.2.1 x.2.2⟩
theorem kdm:slices_stableCmpFunc_sort_pile_m13_M.ok=true∧GoodM Try.prog 94 slices_stableCmpFunc_sort_pile_m13_M:=
 kaX Try.func94 (by kernel_rfl) (An:=[(0,⟨⟨[(8,.c (.i .i64)),(7,.c (.i .i64))],[(0,.sl 114 tPile)]⟩,⟨[(7,.c (.i .i64))],[(0,.sl 114 tPile)]⟩,[1,2,6],[],2,false,""⟩),(8,⟨⟨[(6,.c (.i .i64))],[(0,.sl 114 tPile)]⟩,⟨[],[(0,.sl 114 tPile)]⟩,[1,2],[],3,false,""⟩),(16,⟨⟨[(8,.c (.i .i64)),(7,.c (.i .i64))],[(0,.sl 114 tPile)]⟩,⟨[(7,.c (.i .i64))],[(0,.sl 114 tPile)]⟩,[6],[],3,false,""⟩)]) [(101,kbC),(100,kbi)] (.cons kdc <| .cons kcA <| .nil) (fun x=>by kernel_rfl)
def slices_stableCmpFunc_sort_pile_C:Ctr:=⟨ "",[],[],fun _=>none,[],[]⟩
theorem slices_stableCmpFunc_sort_pile_C_ok:Good Try.prog 94 slices_stableCmpFunc_sort_pile_C:=good_dm
def kbI:Ctr:=⟨ "",slices_stableCmpFunc_sort_pile_C.as,slices_stableCmpFunc_sort_pile_C.rs,slices_stableCmpFunc_sort_pile_C.F,slices_stableCmpFunc_sort_pile_m13_M::slices_stableCmpFunc_sort_pile_C.mus,slices_stableCmpFunc_sort_pile_C.its⟩
theorem kdL:Good Try.prog 94 kbI:=slices_stableCmpFunc_sort_pile_C_ok.more kdm
def slices_SortStableFunc_s_sort_pile_sort_pile_m14_M:CtrM:=⟨ "",[none,some (.fn 2 (.pr tPile tPile) (.i .i64))],⟨[(0,.mw 0)],[(0,.sl 114 tPile)]⟩,1,⟨[(0,.mw 0)],[(0,.sl 114 tPile)]⟩,1,0,fun x=>kaS x.1 x.2⟩
theorem kbG:slices_SortStableFunc_s_sort_pile_sort_pile_m14_M.ok=true∧GoodM Try.prog 87 slices_SortStableFunc_s_sort_pile_sort_pile_m14_M:=
 kaX Try.func87 (by kernel_rfl) (An:=[]) [(94,kbI)] (.cons kdL <| .nil) (fun x=>by kernel_rfl)
def slices_SortStableFunc_s_sort_pile_sort_pile_C:Ctr:=⟨ "",[],[],fun _=>none,[],[]⟩
theorem slices_SortStableFunc_s_sort_pile_sort_pile_C_ok:Good Try.prog 87 slices_SortStableFunc_s_sort_pile_sort_pile_C:=good_dm
def kaT:Ctr:=⟨ "",slices_SortStableFunc_s_sort_pile_sort_pile_C.as,slices_SortStableFunc_s_sort_pile_sort_pile_C.rs,slices_SortStableFunc_s_sort_pile_sort_pile_C.F,slices_SortStableFunc_s_sort_pile_sort_pile_m14_M::slices_SortStableFunc_s_sort_pile_sort_pile_C.mus,slices_SortStableFunc_s_sort_pile_sort_pile_C.its⟩
theorem kbT:Good Try.prog 87 kaT:=slices_SortStableFunc_s_sort_pile_sort_pile_C_ok.more kbG
def sort_ordered_sort_pile_m15_M:CtrM:=⟨ "",[none,some (.fn 2 (.pr tPile tPile) (.i .i64))],⟨[(0,.mw 0)],[(0,.sl 114 tPile)]⟩,1,⟨[(0,.mw 0),(1000000,.mw 0)],[(0,.sl 114 tPile)]⟩,1,1,fun x=>kdp x.1 x.2⟩
theorem keJ:sort_ordered_sort_pile_m15_M.ok=true∧GoodM Try.prog 68 sort_ordered_sort_pile_m15_M:=
 kaX Try.func68 (by kernel_rfl) (An:=[]) [(87,kaT)] (.cons kbT <| .nil) (fun x=>by kernel_rfl)
def sort_ordered_sort_pile_C:Ctr:=⟨ "",[],[],fun _=>none,[],[]⟩
theorem sort_ordered_sort_pile_C_ok:Good Try.prog 68 sort_ordered_sort_pile_C:=good_dm
def kdn:Ctr:=⟨ "",sort_ordered_sort_pile_C.as,sort_ordered_sort_pile_C.rs,sort_ordered_sort_pile_C.F,sort_ordered_sort_pile_m15_M::sort_ordered_sort_pile_C.mus,sort_ordered_sort_pile_C.its⟩
theorem kfb:Good Try.prog 68 kdn:=sort_ordered_sort_pile_C_ok.more keJ
def kjM:Ctr:=⟨ "",[(.sl (.i .i64)),(.i .i64)],[(.sl (.i .i64)),(.i .i64),(.i .i64)],fun x=>kmf x.1 x.2,[],[]⟩
theorem klB:Good Try.prog 36 kjM:=
 kaj Try.func36 (by kernel_rfl) (An:=[(0,⟨⟨[(28,.c (.i .i64)),(7,.mw 1)],[(1,.sl 114 tPile)]⟩,⟨[(7,.mw 2)],[(2,.sl 114 tPile)]⟩,[27,26,1,0],[],3,false,""⟩),(8,⟨⟨[(7,.mw 2)],[(2,.sl 114 tPile)]⟩,⟨[(7,.mw 3)],[(3,.sl 114 tPile)]⟩,[1,0],[],4,false,""⟩),(16,⟨⟨[(7,.mw 3),(10,.mw 4),(11,.c (.i .i64))],[(3,.sl 114 tPile),(4,.sl 3 (.i .i64))]⟩,⟨[(10,.mw 5),(11,.c (.i .i64))],[(5,.sl 3 (.i .i64))]⟩,[1,12],[],6,false,""⟩),(24,⟨⟨[(65,.c (.i .i64)),(13,.ptr 6 0)],[(6,.bx 114 [.c (.i .i64),.mw 5]),(5,.sl 3 (.i .i64))]⟩,⟨[(13,.ptr 7 0)],[(7,.bx 114 [.c (.i .i64),.mw 8]),(8,.sl 3 (.i .i64))]⟩,[64,63,10,11,7],[4,3],9,false,""⟩),(32,⟨⟨[(85,.c (.i .i64)),(10,.mw 4)],[(4,.sl 3 (.i .i64))]⟩,⟨[(10,.mw 9)],[(9,.sl 3 (.i .i64))]⟩,[84,83,11,13,7],[8,7,3],10,false,""⟩)]) [(68,kdn),(69,kaA),(66,khp),(65,kgS)] (.cons kfb <| .cons kbg <| .cons kju <| .cons kiY <| .nil) (fun x=>by kernel_rfl)
def kfV:Ctr:=⟨ "",[(.sl (.pr (.i .i64) (.pr (.i .i64) (.i .i64)))),(.sl (.pr (.i .i64) (.pr (.i .i64) (.i .i64))))],[.b],fun x=>keQ x.1 x.2,[],[]⟩
theorem khY:Good Try.prog 33 kfV:=
 kaj Try.func33 (by kernel_rfl) (An:=[(0,⟨⟨[(5,.c (.i .i64))],[]⟩,⟨[],[]⟩,[0,1],[],0,true,""⟩)]) [] (.nil) (fun x=>by kernel_rfl)
def kfN:Ctr:=⟨ "",[(.sl (.pr (.i .i64) (.pr (.i .i64) .b))),(.sl (.pr (.i .i64) (.pr (.i .i64) .b)))],[.b],fun x=>kgz x.1 x.2,[],[]⟩
theorem khm:Good Try.prog 43 kfN:=
 kaj Try.func43 (by kernel_rfl) (An:=[(0,⟨⟨[(5,.c (.i .i64))],[]⟩,⟨[],[]⟩,[0,1],[],0,true,""⟩)]) [] (.nil) (fun x=>by kernel_rfl)
def kgC:Ctr:=⟨ "",[(.sl (.i .i64)),(.sl (.i .i64))],[.b],fun x=>khs x.1 x.2,[],[]⟩
theorem kim:Good Try.prog 30 kgC:=
 kaj Try.func30 (by kernel_rfl) (An:=[(0,⟨⟨[(5,.c (.i .i64))],[]⟩,⟨[],[]⟩,[0,1],[],0,true,""⟩)]) [] (.nil) (fun x=>by kernel_rfl)
def khz:Ctr:=⟨ "",[],[.b],fun x=>kiA,[],[]⟩
theorem kjz:Good Try.prog 44 khz:=
 kaj Try.func44 (by kernel_rfl) (An:=[]) [(30,kgC),(43,kfN),(33,kfV),(36,kjM),(24,khk),(79,kig),(41,kii),(39,kjL),(78,kjS),(77,kiZ)] (.cons kim <| .cons khm <| .cons khY <| .cons klB <| .cons kjt <| .cons kkd <| .cons kkn <| .cons klV <| .cons klv <| .cons kkS <| .nil) (fun x=>by kernel_rfl)
def kik:Ctr:=⟨ "",[],[.b],fun x=>law09_alive,[],[]⟩
theorem kkg:Good Try.prog 44 kik:=by
 have h:=kjz
 unfold khz at h
 rw [krc] at h
 exact h
def kjc:Ctr:=⟨ "",[(.sl (.sl (.i .i64)))],[.b],fun x=>kgb x,[],[]⟩
theorem kkQ:Good Try.prog 22 kjc:=
 kaj Try.func22 (by kernel_rfl) (An:=[(0,⟨⟨[(7,.c (.i .i64))],[]⟩,⟨[],[]⟩,[6,5,0],[],0,true,""⟩)]) [] (.nil) (fun x=>by kernel_rfl)
def kih:Ctr:=⟨ "",[(.sl (.sl (.i .i64))),(.i .i64)],[.b],fun x=>kfv x.1 x.2,[],[]⟩
theorem kjZ:Good Try.prog 23 kih:=
 kaj Try.func23 (by kernel_rfl) (An:=[]) [] (.nil) (fun x=>by kernel_rfl)
end Go.Abs
namespace Go.Abs
open Go
def keB (x2:(List Int)) (x3:(List Int)) (v5:(Int×(List (Int×Int)))) (v8:(List Int)) (v9:(Int×(List (Int×Int)))):Option ((Int×(List (Int×Int)))⊕(List (Int×Int))):=
 (if (decide (v9.1<(lenI v8)))=true then ((gi v8 v9.1).bind fun v10=>((gi x3 v9.1).bind fun v11=>(if (decide (v11<0))=true then (some (.inl ((w64 (v9.1+1)),v9.2))) else ((gi x3 v9.1).bind fun v12=>((gi v9.2 v12).bind fun v13=>((gi v9.2 v12).bind fun v14=>((gi x2 v5.1).bind fun v15=>((gi v9.2 v12).bind fun v16=>((gi x3 v5.1).bind fun v17=>((gi x3 v9.1).bind fun v18=>(if (v17 != v18)=true then ((gi (lset v9.2 v12 (v16.1,(w64 (v14.2+(w64 (v15*v10)))))) v12).bind fun v19=>((gi x2 v5.1).bind fun v20=>((gi (lset v9.2 v12 (v16.1,(w64 (v14.2+(w64 (v15*v10)))))) v12).bind fun v21=>(some (.inl ((w64 (v9.1+1)),(lset (lset v9.2 v12 (v16.1,(w64 (v14.2+(w64 (v15*v10)))))) v12 ((w64 (v19.1+(w64 (v20*v10)))),v21.2)))))))) else (some (.inl ((w64 (v9.1+1)),(lset v9.2 v12 (v16.1,(w64 (v14.2+(w64 (v15*v10)))))))))))))))))))) else (some (.inr v9.2)))
def kfO (x0:(List (List Int))) (x1:Int) (x2:(List Int)) (x3:(List Int)) (v5:(Int×(List (Int×Int)))):Option ((Int×(List (Int×Int)))⊕(List (Int×Int))):=
 (if (decide (v5.1<(lenI x0)))=true then ((gi x0 v5.1).bind fun v6=>((kec v6 x1).bind fun v7=>((gsl v7 0 (lenI x0)).bind fun v8=>((iter (keB x2 x3 v5 v8) (0,v5.2)).bind fun v22=>(some (.inl ((w64 (v5.1+1)),v22))))))) else (some (.inr v5.2)))
def kga (x0:(List (List Int))) (x1:Int) (x2:(List Int)) (x3:(List Int)):Option ((List (Int×Int))×Int):=
 ((kcm x0).bind fun v0=>(if (v0 != 0)=true then (some ([],v0)) else ((kao 1 5 [x1]).bind fun v1=>(if (!v1)=true then (some ([],2)) else (if ((lenI x2) != (lenI x0))=true then (some ([],2)) else (if ((lenI x3) != (lenI x0))=true then (some ([],2)) else ((kao 0 1000 x2).bind fun v2=>(if (!v2)=true then (some ([],2)) else ((kao (-1) 7 x3).bind fun v3=>(if (!v3)=true then (some ([],2)) else ((gmk 8 (0,0)).bind fun v4=>((iter (kfO x0 x1 x2 x3) (0,v4)).bind fun v23=>(some (v23,0))))))))))))))
def kcE (x0:(List (List Int))) (v5:(Int×Bool)):Option ((Int×Bool)⊕Bool):=
 (if (decide (v5.1<(lenI x0)))=true then ((gi x0 v5.1).bind fun v6=>(if v5.2=true then (if (decide (v5.1<(lenI v6)))=true then ((gi v6 v5.1).bind fun v7=>(some (.inl ((w64 (v5.1+1)),(v7==1000))))) else (some (.inl ((w64 (v5.1+1)),false)))) else (some (.inl ((w64 (v5.1+1)),false))))) else (some (.inr v5.2)))
def kbO (v3:((List (Int×Int))×Int)) (v8:Bool) (v9:Int):Option (Int⊕(Bool⊕Unit)):=
 (if (decide (v9<(lenI v3.1)))=true then ((gi v3.1 v9).bind fun v10=>(if (decide (v10.1<0))=true then (some (.inr (.inl false))) else (if (decide (v10.2<v10.1))=true then (some (.inr (.inl false))) else (if v8=true then (if (v10.1 != 0)=true then (some (.inr (.inl false))) else (some (.inl (w64 (v9+1))))) else (some (.inl (w64 (v9+1)))))))) else (some (.inr (.inr ()))))
def kft (x0:(List (List Int))) (x1:Int) (x2:(List Int)) (x3:(List Int)):Option Bool:=
 (law09_alive.bind fun v0=>((kgb x0).bind fun v1=>(if v1=true then (some v0) else ((kfv x0 x1).bind fun v2=>(if v2=true then (some v0) else (if (decide (20<(lenI x2)))=true then (some v0) else (if (decide (20<(lenI x3)))=true then (some v0) else (if (!v0)=true then (some v0) else ((kga x0 x1 x2 x3).bind fun v3=>(if (v3.2 != 0)=true then ((if v0=true then (some ((lenI v3.1)==0)) else (some false)).bind fun v4=>(some v4)) else ((iter (kcE x0) (0,true)).bind fun v8=>((iter (kbO v3 v8) 0).bind fun v11=>(match v11 with | .inl v12=>(some v12) | .inr v13=>(if v0=true then (some ((lenI v3.1)==8)) else (some false)))))))))))))))
end Go.Abs
set_option maxRecDepth 100000
namespace Go.Abs
open Go Go.Proofs
def kiV:Ctr:=⟨ "",[(.sl (.sl (.i .i64))),(.i .i64),(.sl (.i .i64)),(.sl (.i .i64))],[(.sl (.pr (.i .i64) (.i .i64))),(.i .i64)],fun x=>kga x.1 x.2.1 x.2.2.1 x.2.2.2,[],[]⟩
theorem kkN:Good Try.prog 26 kiV:=
 kaj Try.func26 (by kernel_rfl) (An:=[(0,⟨⟨[(54,.c (.i .i64)),(12,.mw 2)],[(2,.sl 51 (.pr (.i .i64) (.i .i64)))]⟩,⟨[(12,.mw 3)],[(3,.sl 51 (.pr (.i .i64) (.i .i64)))]⟩,[53,52,1,11,3,2],[],4,false,""⟩),(8,⟨⟨[(65,.c (.i .i64)),(12,.mw 2)],[(2,.sl 51 (.pr (.i .i64) (.i .i64)))]⟩,⟨[(12,.mw 3)],[(3,.sl 51 (.pr (.i .i64) (.i .i64)))]⟩,[64,63,13,54],[],4,false,""⟩)]) [(55,kfp),(28,keq),(54,kbW)] (.cons kfX <| .cons keT <| .cons kbs <| .nil) (fun x=>by kernel_rfl)
def kko:Ctr:=⟨ "",[(.sl (.sl (.i .i64))),(.i .i64),(.sl (.i .i64)),(.sl (.i .i64))],[.b],fun x=>kft x.1 x.2.1 x.2.2.1 x.2.2.2,[],[]⟩
theorem law09_SortSure_C_ok:Good Try.prog 13 kko:=
 kaj Try.func13 (by kernel_rfl) (An:=[(26,⟨⟨[],[]⟩,⟨[(8,.c .b)],[]⟩,[9,10],[],0,false,""⟩),(0,⟨⟨[(58,.c (.i .i64)),(12,.c .b)],[]⟩,⟨[(12,.c .b)],[]⟩,[57,56,10,9],[],0,false,""⟩),(8,⟨⟨[(80,.c (.i .i64))],[]⟩,⟨[],[]⟩,[79,78,12,9,10],[],0,true,""⟩)]) [(26,kiV),(23,kih),(22,kjc),(44,kik)] (.cons kkN <| .cons kjZ <| .cons kkQ <| .cons kkg <| .nil) (fun x=>by kernel_rfl)
end Go.Abs
namespace Go.Abs
open Go
def kem (x0:(List Int)) (x1:Int) (v0:(Int×Int)):Option ((Int×Int)⊕Int):=
 (if (decide (v0.1<(lenI x0)))=true then ((gi x0 v0.1).bind fun v1=>(if (v1==x1)=true then (some (.inl ((w64 (v0.1+1)),(w64 (v0.2+1))))) else (some (.inl ((w64 (v0.1+1)),v0.2))))) else (some (.inr v0.2)))
def kha (x0:(List Int)) (x1:Int):Option Int:=
 ((iter (kem x0 x1) (0,0)).bind fun v2=>(some v2))
def kdj (x0:(List Int)) (v0:(Int×Int×Int×Bool)):Option ((Int×Int×Int×Bool)⊕(Int×Bool×Int)):=
 (if (decide (v0.1<16))=true then ((kha x0 v0.1).bind fun v1=>(if (decide (v0.2.1<v1))=true then (some (.inl ((w64 (v0.1+1)),v1,v0.1,false))) else (if (v1==v0.2.1)=true then (some (.inl ((w64 (v0.1+1)),v0.2.1,v0.2.2.1,true))) else (some (.inl ((w64 (v0.1+1)),v0.2)))))) else (some (.inr (v0.2.1,v0.2.2.2,v0.2.2.1))))
def klo (x0:(List Int)):Option Int:=
 ((iter (kdj x0) (0,0,(-1),false)).bind fun v2=>(if (v2.1==0)=true then (some (-1)) else (if v2.2.1=true then (some (-1)) else (some v2.2.2))))
end Go.Abs
namespace Go.Abs
open Go
theorem knR (l:List Int) (hl:l.length≤100000) (p:Int→Bool):kaO l (fun x=>some (p x))=some (l.any p):=by
 unfold kaO kbF
 rw [kkY (F:=kaP l _) l (by omega) (fun i x=>if p x then some (i:Int) else none) (fun i hi=>by
  unfold kaP
  rw [if_pos (lenI_lt.2 hi),kaN hi,kbq (by omega)]
  simp only [Option.bind_some]
  by_cases h:p l[i]=true <;> simp [h,nextL]) (by unfold kaP; rw [if_neg kbx])]
 have:∀ (l:List Int) (k:Nat),endL ((l.zipIdx k).findSome? fun x=>if p x.1 then some (x.2:Int) else none)=(if l.any p then .inl ((k:Int)+(l.findIdx p:Nat)) else .inr ()):=by
  intro l
  induction l with
  | nil=>intro k; rfl
  | cons x l ih=>
   intro k
   rw [List.zipIdx_cons,List.findSome?_cons,List.any_cons,List.findIdx_cons]
   cases hp:p x with
   | true=>simp [endL]
   | false=>
    simp only [Bool.false_eq_true,if_false,Bool.false_or,cond_false]
    rw [ih (k+1)]
    congr 2; push_cast; omega
 rw [this l 0]
 by_cases h:l.any p=true <;> simp [h]
theorem keb (lo hi:Int) (l:List Int) (hl:l.length≤100000):kao lo hi l=some (l.all (wi lo hi)):=by
 unfold kao
 have e:(fun u0:Int=>(keU u0 lo hi).bind fun u1=>some u1)=fun u=>some (!wi lo hi u):=by
  funext u
  unfold keU wi
  by_cases h1:u<lo <;> by_cases h2:hi<u <;> simp [h1,h2] <;> omega
 rw [e,knR l hl,krH]
 simp
def kaz (k:Int) (l:List Int):Int:=(l.countP fun x=>x==k:Nat)
theorem kjN (k x:Int) (l:List Int):kaz k (l++[x])=kaz k l+if x=k then 1 else 0:=by
 unfold kaz; rw [List.countP_append]; by_cases h:x=k <;> simp [h]
theorem kjg (k:Int) (l:List Int):0≤kaz k l∧kaz k l≤l.length:=by
 unfold kaz; have:=List.countP_le_length (p:=fun x=>x==k) (l:=l); omega
theorem knC (l:List Int) (kind:Int) (hl:(l.length:Int)≤1000):∀ k i:Nat,i+k=l.length→itN (kem l kind) (k+1) ((i:Int),kaz kind (l.take i))=some (kaz kind l)
 | 0,i,h=>kcw (by
  have:i=l.length:=by omega
  subst this
  unfold kem; rw [if_neg kbx,List.take_length])
 | k+1,i,h=>by
  have hi:i<l.length:=by omega
  have hv:=kjg kind (l.take i)
  have hs:=kjN kind l[i] (l.take i)
  rw [List.take_append_getElem hi] at hs
  simp only [List.length_take] at hv
  rw [←knC l kind hl k (i+1) (by omega)]
  apply keP
  unfold kem
  rw [if_pos (lenI_lt.2 hi),kaN hi,kbq (by omega),kco (by omega) (by omega)]
  simp only [Option.bind_some]
  by_cases hk:l[i]=kind
  ·rw [if_pos (by simpa using hk),hs,if_pos hk]
  ·rw [if_neg (by simpa using hk),hs,if_neg hk,Int.add_zero]
theorem kqS (l:List Int) (kind:Int) (hl:(l.length:Int)≤1000):kha l kind=some (kaz kind l):=by
 unfold kha
 have:=knC l kind hl l.length 0 (by omega)
 simp only [List.take_zero,Int.natCast_zero] at this
 rw [show kaz kind []=0 from rfl] at this
 rw [keG this (by omega)]; rfl
def scanF (v:Int→Int):Nat→Int→Int→Int→Int×Int
 | 0,_,b,m=>(b,m)
 | k+1,x,b,m=>if m<v x then scanF v k (x+1) x (v x) else if v x=m then scanF v k (x+1) (-1) m else scanF v k (x+1) b m
def seenR (l:List Int):Int:=(scanF (fun k=>kaz k l) 16 0 (-1) 0).1
theorem scan0 (v:Int→Int) (hv:∀ k,0≤v k):∀ k x b m,0≤m→(m=0→b = -1)→((scanF v k x b m).2=0→(scanF v k x b m).1 = -1)
 | 0,x,b,m,_,h=>h
 | k+1,x,b,m,hm,h=>by
  simp only [scanF]
  split
  ·exact scan0 v hv k _ _ _ (hv x) (fun e=>by omega)
  ·split
   ·exact scan0 v hv k _ _ _ hm (fun _=>rfl)
   ·exact scan0 v hv k _ _ _ hm h
theorem kjm (l:List Int) (hl:(l.length:Int)≤1000):∀ (k:Nat) (x b m:Int) (e:Bool),0≤x→x+k=16→∃ b' m' e',itN (kdj l) (k+1) (x,m,b,e)=some (m',e',b')∧scanF (fun k=>kaz k l) k x (if e then -1 else b) m=(if e' then -1 else b',m')
 | 0,x,b,m,e,h0,h=>⟨b,m,e,kcw (by unfold kdj; rw [if_neg (by simp; omega)]),rfl⟩
 | k+1,x,b,m,e,h0,h=>by
  have hgo:kdj l (x,m,b,e)=some (.inl (x+1,if m<kaz x l then (kaz x l,x,false) else if kaz x l=m then (m,b,true) else (m,b,e))):=by
   unfold kdj
   rw [if_pos (by simp; omega),kqS l x hl]
   simp only [Option.bind_some,decide_eq_true_eq,beq_iff_eq]
   rw [kco (by omega) (by omega)]
   by_cases h1:m<kaz x l
   ·rw [if_pos h1,if_pos h1]
   ·rw [if_neg h1,if_neg h1]
    by_cases h2:kaz x l=m
    ·rw [if_pos h2,if_pos h2]
    ·rw [if_neg h2,if_neg h2]
  rw [keP hgo]
  simp only [scanF]
  by_cases h1:m<kaz x l
  ·rw [if_pos h1,if_pos h1]; exact kjm l hl k (x+1) x (kaz x l) false (by omega) (by omega)
  ·rw [if_neg h1,if_neg h1]
   by_cases h2:kaz x l=m
   ·rw [if_pos h2,if_pos h2]; exact kjm l hl k (x+1) b m true (by omega) (by omega)
   ·rw [if_neg h2,if_neg h2]; exact kjm l hl k (x+1) b m e (by omega) (by omega)
theorem kst (l:List Int) (hl:(l.length:Int)≤1000):klo l=some (seenR l):=by
 unfold klo seenR
 obtain ⟨b,m,e,h1,h2⟩:=kjm l hl 16 0 (-1) 0 false (by omega) (by omega)
 simp only [Bool.false_eq_true,if_false] at h2
 have h3:=scan0 (fun k=>kaz k l) (fun k=>(kjg k l).1) 16 0 (-1) 0 (by omega) (fun _=>rfl)
 rw [h2] at h3
 rw [keG h1 (by omega),h2]
 simp only [Option.bind_some]
 simp only at h3
 by_cases hm:m=0
 ·rw [h3 hm]; simp [hm]
 ·cases e <;> simp [hm]
def tally (v:Int→Int):Arr 16 Int:=⟨(List.range 16).map fun (k:Nat)=>v (k:Int),by simp⟩
theorem kkW (v:Int→Int) {x:Int} (h0:0≤x) (h1:x≤15):garr (tally v) x=some (v x):=by
 unfold garr gi tally
 rw [if_pos h0,List.getElem?_map,List.getElem?_range (by omega)]
 simp [Int.toNat_of_nonneg h0]
theorem klS {n:Nat} {α:Type} {a b:Arr n α} (h:a.l=b.l):a=b:=by cases a; cases b; simp only at h; subst h; rfl
theorem kpQ (v:Int→Int) {x:Int} (h0:0≤x) (h1:x≤15) (c:Int):aset (tally v) x c=tally fun k=>if k=x then c else v k:=by
 apply klS
 apply List.ext_getElem?
 intro j
 unfold tally aset
 simp only
 rw [List.getElem?_set]
 by_cases hj:x.toNat=j
 ·subst hj
  simp [List.getElem?_range,show x.toNat<16 by omega,Int.toNat_of_nonneg h0]
 ·rw [if_neg hj]
  by_cases hj2:j<16
  ·simp only [List.getElem?_map,List.getElem?_range hj2,Option.map_some]
   rw [if_neg (by omega)]
  ·simp [show ¬ j<16 from hj2]
theorem kpv (l:List Int) (hl:(l.length:Int)≤1000) (hx:∀ x∈l,x≤15):∀ k i:Nat,i+k=l.length→itN (keV l) (k+1) ((i:Int),tally fun x=>kaz x (l.take i))=some (tally fun x=>kaz x l)
 | 0,i,h=>kcw (by
  have:i=l.length:=by omega
  subst this
  unfold keV; rw [if_neg kbx,List.take_length])
 | k+1,i,h=>by
  have hi:i<l.length:=by omega
  have hs:=fun x=>kjN x l[i] (l.take i)
  simp only [List.take_append_getElem hi] at hs
  have hl15:=hx l[i] (List.getElem_mem hi)
  rw [←kpv l hl hx k (i+1) (by omega)]
  apply keP
  unfold keV
  rw [if_pos (lenI_lt.2 hi),kaN hi,kbq (by omega)]
  simp only [Option.bind_some,decide_eq_true_eq]
  by_cases h0:0≤l[i]
  ·have hv:=kjg l[i] (l.take i)
   simp only [List.length_take] at hv
   rw [if_pos h0,kkW _ h0 hl15]
   simp only [Option.bind_some]
   rw [kco (by omega) (by omega),kpQ _ h0 hl15]
   congr 4
   funext x
   rw [hs]
   by_cases hxx:x=l[i]
   ·simp [hxx]
   ·simp [hxx,show ¬ l[i]=x from fun e=>hxx e.symm]
  ·rw [if_neg h0]
   congr 3
   apply klS
   unfold tally
   simp only
   apply List.map_congr_left
   intro j _
   show kaz _ _=kaz _ _
   rw [hs,if_neg (by omega)]; simp
theorem kjk (v:Int→Int):∀ (k:Nat) (x b m:Int),0≤x→x+k=16→itN (kdN (tally v)) (k+1) (x,m,b)=some (scanF v k x b m).1
 | 0,x,b,m,_,_=>kcw (by unfold kdN; rw [if_neg (by simp; omega)]; rfl)
 | k+1,x,b,m,h0,h=>by
  have hgo:kdN (tally v) (x,m,b)=some (.inl (x+1,if m<v x then (v x,x) else if v x=m then (m,-1) else (m,b))):=by
   unfold kdN
   rw [if_pos (by simp; omega),kkW v h0 (by omega)]
   simp only [Option.bind_some,decide_eq_true_eq,beq_iff_eq]
   rw [kco (by omega) (by omega)]
   by_cases h1:m<v x
   ·rw [if_pos h1,if_pos h1]
   ·rw [if_neg h1,if_neg h1]
    by_cases h2:v x=m
    ·rw [if_pos h2,if_pos h2]
    ·rw [if_neg h2,if_neg h2]
  rw [keP hgo]
  simp only [scanF]
  by_cases h1:m<v x
  ·rw [if_pos h1,if_pos h1]; exact kjk v k _ _ _ (by omega) (by omega)
  ·rw [if_neg h1,if_neg h1]
   by_cases h2:v x=m
   ·rw [if_pos h2,if_pos h2]; exact kjk v k _ _ _ (by omega) (by omega)
   ·rw [if_neg h2,if_neg h2]; exact kjk v k _ _ _ (by omega) (by omega)
theorem krU (l:List Int) (hl:(l.length:Int)≤1000) (hx:∀ x∈l,x≤15):keH l=some (seenR l):=by
 unfold keH seenR
 have:=kpv l hl hx l.length 0 (by omega)
 simp only [List.take_zero,Int.natCast_zero] at this
 rw [show (tally fun x=>kaz x [])=amk 16 0 from klS rfl] at this
 rw [keG this (by omega)]
 simp only [Option.bind_some]
 rw [keG (kjk _ 16 0 (-1) 0 (by omega) (by omega)) (by omega)]
 rfl
def idxF {α:Type} (p:α→Bool):List α→Int→Int
 | [],_=>-1
 | x::r,i=>if p x then i else idxF p r (i+1)
def ksl (b:Belt) (bin:Int):Int:=idxF (fun g=>g.2==bin) b.2.2.2.1 0
end Go.Abs
namespace Go.Abs
open Go
theorem khR {α β:Type} {F:α→Option (α⊕β)} (I:α→Prop) (m:α→Nat) (R:β→Prop)
  (h:∀ x,I x→(∃ z,F x=some (.inr z)∧R z)∨∃ y,F x=some (.inl y)∧I y∧m y<m x) (x:α) (hx:I x) (hm:m x<18446744073709551616):∃ z,iter F x=some z∧R z:=by
 have:∀ n x,I x→m x<n→∃ z,itN F n x=some z∧R z:=by
  intro n
  induction n with
  | zero=>intro x _ h0; omega
  | succ n ih=>
   intro x hx hm
   rcases h x hx with ⟨z,e,hz⟩ | ⟨y,e,hy,hlt⟩
   ·exact ⟨z,kcw e,hz⟩
   ·rw [keP e]; exact ih y hy (by omega)
 obtain ⟨z,e,hz⟩:=this 18446744073709551616 x hx hm
 exact ⟨z,keG e (Nat.le_refl _),hz⟩
abbrev Sw:=Int×Int×Bool
end Go.Abs
namespace Go.Abs
open Go
def gg (l:List Sw) (k:Nat):Sw:=(l[k]?).getD (0,0,false)
structure COk (cmp:Sw×Sw→Option Int) (le:Sw→Sw→Prop):Prop where
 c:∀ x y,∃ v,cmp (x,y)=some v∧(v<0↔¬ le y x)
 tr:∀ x y z,le x y→le y z→le x z
 tot:∀ x y,le x y∨le y x
section
variable {cmp:Sw×Sw→Option Int} {le:Sw→Sw→Prop} (ok:COk cmp le)
include ok
end
end Go.Abs
namespace Go.Abs
open Go
section
variable {cmp:Sw×Sw→Option Int} {le:Sw→Sw→Prop} (ok:COk cmp le)
include ok
end
end Go.Abs
namespace Go.Abs
open Go
section
variable {cmp:Sw×Sw→Option Int} {le:Sw→Sw→Prop} (ok:COk cmp le)
include ok
end
end Go.Abs
namespace Go.Abs
open Go
section
variable {cmp:Sw×Sw→Option Int} {le:Sw→Sw→Prop} (ok:COk cmp le)
include ok
end
end Go.Abs
namespace Go.Abs
open Go
def ksd (x t:Sw):Bool:=decide (t.1<x.1)||(t.1==x.1&&decide (t.2.1<x.2.1))
end Go.Abs
namespace Go.Abs
open Go
structure kiy (b:Belt):Prop where
 l0:2≤b.1
 l1:b.1≤100
 c0:0≤b.2.1
 c1:b.2.1≤98
 s0:0≤b.2.2.1
 s1:b.2.2.1≤10
 gl:b.2.2.2.1.length≤8
 bl:b.2.2.2.2.length=16
 bb:∀ x∈b.2.2.2.2,-1≤x∧x≤7
 gb:∀ g∈b.2.2.2.1,0≤g.1∧g.1≤99∧0≤g.2∧g.2≤7
def fedOk (x:Fed):Prop:=x.2.2.length≤1000∧∀ t∈x.2.2,t≤15
def gateK (b:Belt) (k:Int):Int:=if k<0 then -1 else ksl b ((b.2.2.2.2[k.toNat]?).getD (-1))
def gateF (b:Belt) (x:Fed):Int:=gateK b (seenR x.2.2)
end Go.Abs
namespace Go.Abs
open Go
def fd (l:List Fed) (i:Nat):Fed:=(l[i]?).getD (0,0,[])
structure kji (l:List Fed):Prop where
 len:l.length≤40
 ok:∀ x∈l,fedOk x∧0≤x.1∧x.1≤1000
def seg (l:List Fed) (s e:Nat):List Fed:=(l.drop s).take (e-s)
def Gc (b:Belt) (c:List Fed):Int:=
 if gateF b (fd c 0)<0 then -1 else if c.any (fun x=>gateF b x != gateF b (fd c 0)) then -1 else
  if ((b.2.2.2.1[(gateF b (fd c 0)).toNat]?).getD (0,0)).1-b.2.1<(fd c (c.length-1)).1-(fd c 0).1+3*b.2.2.1+1 then -1 else gateF b (fd c 0)
structure Clus (D:Int) (l:List Fed) (s e:Nat):Prop where
 lt:s<e
 le:e≤l.length
 lo:s=0∨D<(fd l s).1-(fd l (s-1)).1
 mid:∀ k,s<k→k<e→(fd l k).1-(fd l (k-1)).1≤D
 hi:e=l.length∨D<(fd l e).1-(fd l (e-1)).1
section
variable {b:Belt} {l:List Fed} (B:kiy b) (L:kji l) {s e:Nat} (C:Clus (2*b.2.2.1+1) l s e)
include B L C
end
end Go.Abs
namespace Go.Abs
open Go
section
variable {b:Belt} {l:List Fed} (B:kiy b) (L:kji l) {s e:Nat} (C:Clus (2*b.2.2.1+1) l s e)
include B L C
end
end Go.Abs
namespace Go.Abs
open Go
section
variable {b:Belt} {l:List Fed} (B:kiy b) (L:kji l)
include B L
end
end Go.Abs
namespace Go.Abs
open Go
def gtF (b:Belt) (g:Int):Int×Int:=(b.2.2.2.1[g.toNat]?).getD (0,0)
def swC (b:Belt) (g:Int) (x y:Fed):List Sw:=
 if 0≤g then [(x.1+(gtF b g).1-b.2.2.1,g,true),(y.1+(gtF b g).1+1,g,false)] else []
section
variable {b:Belt} {l:List Fed} (B:kiy b) (L:kji l)
section
variable {s e:Nat} (C:Clus (2*b.2.2.1+1) l s e)
include B L C
end
end
end Go.Abs
namespace Go.Abs
open Go
theorem krR:law09_alive=some true:=rfl
end Go.Abs
namespace Go.Abs
open Go
theorem knP {α:Type} (l:List α) (i:Nat) (x:α):lset l (i:Int) x=l.set i x:=rfl
def rowR (k:Nat) (row:List Int):Bool:=decide (row.length=k+1)&&(row.all (wi 0 1000))&&decide (row.sum=1000)
def kiX (l:List (List Int)):Bool:=wi 1 8 l.length&&l.all (rowR l.length)
theorem ksf (l:List Int) (h:∀ x∈l,0≤x∧x≤1000):0≤l.sum∧l.sum≤1000*l.length:=by
 induction l with
 | nil=>simp
 | cons x r ih=>
  have h1:=h x (by simp)
  have h2:=ih fun y hy=>h y (by simp [hy])
  simp only [List.sum_cons,List.length_cons]
  omega
theorem kmN (r:List Int) (hl:r.length≤9) (h:∀ x∈r,0≤x∧x≤1000):iter (kcv r) (0,0)=some r.sum:=by
 obtain ⟨z,hz,rfl⟩:=khR (F:=kcv r) (fun v=>∃ i:Nat,v=((i:Int),(r.take i).sum)∧i≤r.length) (fun v=>r.length-v.1.toNat) (fun z=>z=r.sum) (fun v ⟨i,hv,hi⟩=>by
  subst hv
  unfold kcv
  dsimp only
  by_cases hc:i<r.length
  ·right
   have h1:=ksf (r.take (i+1)) fun x hx=>h x (List.mem_of_mem_take hx)
   have hlt:(r.take (i+1)).length≤9:=by simp; omega
   have hs:(r.take (i+1)).sum=(r.take i).sum+r[i]:=by rw [←List.take_append_getElem hc,List.sum_append]; simp
   rw [if_pos (lenI_lt.2 hc),kaN hc,kbq (by omega)]
   simp only [Option.bind_some]
   rw [kco (by omega) (by omega),←hs]
   exact ⟨_,rfl,⟨i+1,rfl,hc⟩,by dsimp only; omega⟩
  ·left
   have:i=r.length:=by omega
   subst this
   rw [if_neg kbx,List.take_length]
   exact ⟨_,rfl,rfl⟩) (0,0) ⟨0,by simp,by omega⟩ (by dsimp only; omega)
 exact hz
theorem kid (l:List (List Int)) (hl:l.length≤8):∀ k i:Nat,i+k=l.length→itN (kbw l) (k+1) (i:Int)=some (if (l.drop i).all (rowR l.length) then .inr () else .inl 8)
 | 0,i,h=>by
  have:i=l.length:=by omega
  subst this
  rw [List.drop_length]
  exact kcw (by unfold kbw; rw [if_neg kbx]; rfl)
 | k+1,i,h=>by
  have hi:i<l.length:=by omega
  have ih:=kid l hl k (i+1) (by omega)
  rw [List.drop_eq_getElem_cons hi,List.all_cons]
  have e:kbw l (i:Int)=some (if rowR l.length l[i]=true then .inl ((i+1:Nat):Int) else .inr (.inl 8)):=by
   unfold kbw
   rw [if_pos (lenI_lt.2 hi),kaN hi,kbq (by omega)]
   simp only [Option.bind_some]
   rw [kbr,kbr,kco (by omega) (by omega)]
   by_cases h1:l[i].length=l.length+1
   ·rw [if_neg (by simp; omega),keb _ _ _ (by omega)]
    simp only [Option.bind_some]
    by_cases h2:(l[i].all (wi 0 1000))=true
    ·rw [h2,if_neg (by simp),kmN l[i] (by omega) (fun x hx=>wi_iff.1 (List.all_eq_true.1 h2 x hx))]
     simp only [Option.bind_some]
     by_cases h4:l[i].sum=1000
     ·rw [if_neg (by simpa using h4),if_pos (by simp only [rowR,h1,h2,h4,decide_true,Bool.and_self])]
     ·rw [if_pos (by simpa using h4),if_neg (by simp [rowR,h4])]
    ·rw [if_pos (by simpa using h2),if_neg (by simp only [rowR,Bool.eq_false_iff.2 h2,Bool.and_false,Bool.false_and]; decide)]
   ·rw [if_pos (by simp; omega),if_neg (by simp [rowR,h1])]
  by_cases hr:rowR l.length l[i]=true
  ·rw [if_pos hr] at e; rw [keP e,ih,hr,Bool.true_and]
  ·rw [if_neg hr] at e; rw [kcw e,Bool.eq_false_iff.2 hr]; rfl
theorem kiM (l:List (List Int)) (hl:l.length≤1000):kcm l=some (if kiX l then 0 else 8):=by
 unfold kcm kiX
 rw [kbr,keb _ _ _ (by simp)]
 simp only [List.all_cons,List.all_nil,Bool.and_true,Option.bind_some]
 by_cases h1:wi 1 8 (l.length:Int)=true
 ·have hw:=wi_iff.1 h1
  have:=kid l (by omega) l.length 0 (by omega)
  rw [List.drop_zero] at this
  rw [h1,if_neg (by simp),show (0:Int)=((0:Nat):Int) from rfl,keG this (by omega)]
  by_cases h2:l.all (rowR l.length)=true <;> simp [h2]
 ·rw [if_pos (by simpa using h1),Bool.eq_false_iff.2 h1]; rfl
theorem kpW {k:Nat} {row:List Int} (h:rowR k row=true):row.length=k+1∧(∀ x∈row,0≤x∧x≤1000)∧row.sum=1000:=by
 simp only [rowR,Bool.and_eq_true,decide_eq_true_eq,List.all_eq_true] at h
 exact ⟨h.1.1,fun x hx=>wi_iff.1 (h.1.2 x hx),h.2⟩
theorem koS {l:List (List Int)} (h:kiX l=true):1≤l.length∧l.length≤8∧∀ r∈l,rowR l.length r=true:=by
 simp only [kiX,Bool.and_eq_true,List.all_eq_true] at h
 have:=wi_iff.1 h.1
 exact ⟨by omega,by omega,h.2⟩
theorem kgW (v:Int→Int):∀ (k:Nat) (x b m:Int),(scanF v k x b m).1=b∨(scanF v k x b m).1 = -1∨(∃ y,(scanF v k x b m).1=y∧m<v y)
 | 0,x,b,m=>.inl rfl
 | k+1,x,b,m=>by
  simp only [scanF]
  split
  ·rename_i h
   rcases kgW v k (x+1) x (v x) with h1 | h1 | ⟨y,h1,h2⟩
   ·exact .inr (.inr ⟨x,h1,h⟩)
   ·exact .inr (.inl h1)
   ·exact .inr (.inr ⟨y,h1,by omega⟩)
  ·split
   ·rcases kgW v k (x+1) (-1) m with h1 | h1 | ⟨y,h1,h2⟩
    ·exact .inr (.inl h1)
    ·exact .inr (.inl h1)
    ·exact .inr (.inr ⟨y,h1,h2⟩)
   ·exact kgW v k (x+1) b m
theorem kmq (l:List Int) (h:0≤seenR l):seenR l∈l:=by
 unfold seenR at h ⊢
 rcases kgW (fun k=>kaz k l) 16 0 (-1) 0 with h1 | h1 | ⟨y,h1,h2⟩
 ·omega
 ·omega
 ·rw [h1]
  simp only [kaz] at h2
  have:0<l.countP fun x=>x==y:=by omega
  obtain ⟨x,hx,e⟩:=List.countP_pos_iff.1 this
  simp at e; subst e; exact hx
def sayR (row:List Int) (j:Int):Int:=if j=(row.length:Int)-1 then -1 else j
def leafR (row b:List Int) (w:Int) (out:List Int):List Int:=
 let i:Int:=if seenR b<0 then (row.length:Int)-1 else seenR b
 out.set i.toNat (w64 (out.getD i.toNat 0+w))
def addR (row:List Int):Nat→List Int→Int→List Int→List Int
 | 0,b,w,out=>leafR row b w out
 | m+1,b,w,out=>(row.zipIdx).foldl (fun out x=>if x.1=0 then out else addR row m (b++[sayR row x.2]) (w64 (w*x.1)) out) out
theorem kqD (row b:List Int) (w:Int) (out:List Int):(leafR row b w out).length=out.length:=by simp [leafR]
theorem kgB (row:List Int):∀ (m:Nat) (b:List Int) (w:Int) (out:List Int),(addR row m b w out).length=out.length
 | 0,b,w,out=>kqD row b w out
 | m+1,b,w,out=>by
  have:∀ (l:List (Int×Nat)) (out:List Int),(l.foldl (fun out x=>if x.1=0 then out else addR row m (b++[sayR row x.2]) (w64 (w*x.1)) out) out).length=out.length:=by
   intro l
   induction l with
   | nil=>intro out; rfl
   | cons x l ih=>
    intro out
    rw [List.foldl_cons,ih]
    split
    ·rfl
    ·exact kgB row m _ _ _
  exact this _ _
def begR (row b:List Int):Prop:=∀ x∈b,-1≤x∧x<(row.length:Int)-1
theorem kma {row b:List Int} (h:begR row b) {j:Nat} (hj:j<row.length):begR row (b++[sayR row j]):=by
 intro x hx
 rcases List.mem_append.1 hx with hx | hx
 ·exact h x hx
 ·simp at hx; subst hx
  unfold sayR
  split <;> omega
theorem kkv {β:Type} (f:β→Int×Nat→β) (row:List Int) (i:Nat) (hi:i<row.length) (out:β):((row.zipIdx).drop i).foldl f out=((row.zipIdx).drop (i+1)).foldl f (f out (row[i],i)):=by
 rw [List.drop_eq_getElem_cons (by simpa using hi),List.foldl_cons]
 simp
theorem krA {row b:List Int} (hb:begR row b) (hr:0<row.length) {out:List Int} (ho:out.length=row.length):∀ i:Int,i=(if seenR b<0 then (row.length:Int)-1 else seenR b)→gi out i=some (out.getD i.toNat 0):=by
 intro i hi
 have h1:0≤i∧i<out.length:=by
  split at hi
  ·omega
  ·rename_i h
   have:=hb _ (kmq b (by omega))
   omega
 rw [klC h1.1 h1.2]
 congr 1
 rw [List.getD_eq_getElem?_getD,List.getElem?_eq_getElem (by omega)]; rfl
theorem kps (row:List Int) (hrow:2≤row.length∧row.length≤9) (n:Nat) (hn:n≤5):∀ (m i:Nat) (fuel:Nat) (w:Int) (rs out:List Int),i+m=n→m<fuel→rs.length=n→out.length=row.length→begR row (rs.take i)→
  ∃ rs',kam fuel i w n rs ((row.length:Int)-1) out row=some ((n:Int),rs',(row.length:Int)-1,addR row m (rs.take i) w out,row)∧rs'.length=n∧rs'.take i=rs.take i
 | m,i,0,w,rs,out,hi,hf,_,_,_=>by omega
 | 0,i,fuel+1,w,rs,out,hi,hf,hrs,ho,hb=>by
  have hin:i=n:=by omega
  have ht:rs.take i=rs:=List.take_of_length_le (by omega)
  refine ⟨rs,?_,hrs,rfl⟩
  rw [ht] at hb ⊢
  simp only [kam]
  unfold kcZ
  rw [if_pos (by simp [hin]),krU rs (by omega) fun x hx=>by have:=hb x hx; omega]
  have hl:=krA hb (by omega) ho _ rfl
  simp only [Option.bind_some,addR,leafR,decide_eq_true_eq]
  by_cases hs:seenR rs<0
  ·simp only [hs,if_true] at hl ⊢
   simp only [Option.bind_some]
   rw [hl]; rfl
  ·simp only [hs,if_false] at hl ⊢
   simp only [Option.bind_some]
   rw [hl]; rfl
 | m+1,i,fuel+1,w,rs,out,hi,hf,hrs,ho,hb=>by
  simp only [kam]
  unfold kcZ
  rw [if_neg (by simp; omega)]
  have loop:∀ (k j:Nat) (rs1 out1:List Int),j+k=row.length→rs1.length=n→out1.length=row.length→rs1.take i=rs.take i→
    ∃ rs2,itN (kaq (kam fuel) i w row) (k+1) ((j:Int),rs1,(row.length:Int)-1,(n:Int),out1,row)=some (rs2,(row.length:Int)-1,(n:Int),((row.zipIdx).drop j).foldl (fun out x=>if x.1=0 then out else addR row m (rs.take i++[sayR row x.2]) (w64 (w*x.1)) out) out1,row)∧rs2.length=n∧rs2.take i=rs.take i:=by
   intro k
   induction k with
   | zero=>
    intro j rs1 out1 hj h1 h2 h3
    have:j=row.length:=by omega
    subst this
    refine ⟨rs1,?_,h1,h3⟩
    rw [List.drop_eq_nil_of_le (by simp)]
    exact kcw (by unfold kaq; dsimp only; rw [if_neg kbx]; rfl)
   | succ k ih=>
    intro j rs1 out1 hj h1 h2 h3
    have hjl:j<row.length:=by omega
    rw [kkv _ row j hjl]
    by_cases h0:row[j]=0
    ·have e:kaq (kam fuel) i w row ((j:Int),rs1,(row.length:Int)-1,(n:Int),out1,row)=some (.inl (((j+1:Nat):Int),rs1,(row.length:Int)-1,(n:Int),out1,row)):=by
      unfold kaq
      dsimp only
      rw [if_pos (lenI_lt.2 hjl),kaN hjl,kbq (by omega)]
      simp only [Option.bind_some]
      rw [if_pos (by simpa using h0)]
     rw [keP e]
     dsimp only
     rw [if_pos h0]
     exact ih (j+1) rs1 out1 (by omega) h1 h2 h3
    ·have step:∀ rs3:List Int,rs3.length=n→rs3.take (i+1)=rs.take i++[sayR row j]→
       kaq (kam fuel) i w row ((j:Int),rs1,(row.length:Int)-1,(n:Int),out1,row)=((kam fuel (w64 ((i:Int)+1)) (w64 (w*row[j])) n rs3 ((row.length:Int)-1) out1 row).bind fun v10=>some (.inl (((j+1:Nat):Int),v10.2.1,v10.2.2.1,v10.1,v10.2.2.2)))→
       ∃ rs2,itN (kaq (kam fuel) i w row) (k+1+1) ((j:Int),rs1,(row.length:Int)-1,(n:Int),out1,row)=some (rs2,(row.length:Int)-1,(n:Int),((row.zipIdx).drop (j+1)).foldl (fun out x=>if x.1=0 then out else addR row m (rs.take i++[sayR row x.2]) (w64 (w*x.1)) out) (if row[j]=0 then out1 else addR row m (rs.take i++[sayR row j]) (w64 (w*row[j])) out1),row)∧rs2.length=n∧rs2.take i=rs.take i:=by
      intro rs3 g1 g2 e
      obtain ⟨rs4,f1,f2,f3⟩:=kps row hrow n hn m (i+1) fuel (w64 (w*row[j])) rs3 out1 (by omega) (by omega) g1 h2 (by rw [g2]; exact kma hb hjl)
      rw [kco (by omega) (by omega),show ((i:Int)+1)=((i+1:Nat):Int) by omega,f1] at e
      simp only [Option.bind_some] at e
      rw [keP e,if_neg h0,g2]
      refine ih (j+1) rs4 _ (by omega) f2 (by rw [kgB]; exact h2) ?_
      have e1:rs4.take i=(rs4.take (i+1)).take i:=by rw [List.take_take]; congr 1; omega
      have e2:rs.take i=(rs3.take (i+1)).take i:=by rw [g2]; rw [List.take_append_of_le_length (by simp; omega),List.take_take]; congr 1; omega
      rw [e1,f3,←e2]
     have tk:∀ x:Int,(rs1.set i x).take (i+1)=rs.take i++[x]:=fun x=>by
      rw [←h3]
      have hi':i<(rs1.set i x).length:=by simp; omega
      rw [←List.take_append_getElem hi']
      simp [List.take_set_of_le]
     by_cases hj2:(j:Int)=(row.length:Int)-1
     ·refine step ((rs1.set i j).set i (-1)) (by simpa using h1) (by rw [List.set_set,tk,sayR,if_pos hj2]) ?_
      unfold kaq
      dsimp only
      rw [if_pos (lenI_lt.2 hjl),kaN hjl,kbq (by omega)]
      simp only [Option.bind_some]
      rw [if_neg (by simpa using h0),kaN (l:=rs1) (i:=i) (by omega)]
      simp only [Option.bind_some]
      rw [if_pos (by simpa using hj2),knP,kaN (l:=rs1.set i j) (i:=i) (by simp; omega)]
      simp only [Option.bind_some,knP]
     ·refine step (rs1.set i j) (by simpa using h1) (by rw [tk,sayR,if_neg hj2]) ?_
      unfold kaq
      dsimp only
      rw [if_pos (lenI_lt.2 hjl),kaN hjl,kbq (by omega)]
      simp only [Option.bind_some]
      rw [if_neg (by simpa using h0),kaN (l:=rs1) (i:=i) (by omega)]
      simp only [Option.bind_some]
      rw [if_neg (by simpa using hj2),knP]
      simp only [Option.bind_some]
  obtain ⟨rs2,q1,q2,q3⟩:=loop row.length 0 rs out (by omega) hrs ho rfl
  refine ⟨rs2,?_,q2,q3⟩
  rw [List.drop_zero] at q1
  rw [show ((0:Int),rs,(row.length:Int)-1,(n:Int),out,row)=(((0:Nat):Int),rs,(row.length:Int)-1,(n:Int),out,row) from rfl,keG q1 (by omega)]
  rfl
def chR (row:List Int) (n:Int):List Int:=addR row n.toNat [] 1 (List.replicate row.length 0)
theorem klb (row:List Int) (hrow:2≤row.length∧row.length≤9) (n:Int) (h1:1≤n) (h5:n≤5):kec row n=some (chR row n):=by
 unfold kec
 have g1:gmk (lenI row) (0:Int)=some (List.replicate row.length 0):=by unfold gmk; rw [kbr,if_pos (by omega)]; simp
 have g2:gmk n (0:Int)=some (List.replicate n.toNat 0):=by unfold gmk; rw [if_pos (by omega)]
 rw [g1,g2]
 simp only [Option.bind_some]
 obtain ⟨rs,q1,q2,q3⟩:=kps row hrow n.toNat (by omega) n.toNat 0 1000000 1 (List.replicate n.toNat 0) (List.replicate row.length 0) (by omega) (by omega) (by simp) (by simp) (fun x hx=>by simp at hx)
 rw [kbr,kco (by omega) (by omega)]
 rw [show ((n.toNat:Nat):Int)=n by omega] at q1
 unfold kdY
 rw [show ((0:Nat):Int)=0 from rfl] at q1
 rw [q1]
 rfl
end Go.Abs
namespace Go.Abs
open Go
end Go.Abs
namespace Go.Abs
open Go
def hS (b:Belt) (l:List Fed) (p:Nat×Nat):List Sw:=swC b (Gc b (seg l p.1 p.2)) (fd l p.1) (fd l (p.2-1))
section
variable {b:Belt} {l:List Fed} (B:kiy b) (L:kji l)
include B L
end
end Go.Abs
namespace Go.Abs
open Go
theorem klu:∀ (l:List Int) (i:Nat) (h:i<l.length) (y:Int),(l.set i y).sum=l.sum-l[i]+y
 | [],i,h,y=>by simp at h
 | x::l,0,h,y=>by simp; omega
 | x::l,i+1,h,y=>by
  have:=klu l i (by simpa using h) y
  simp only [List.set_cons_succ,List.sum_cons,List.getElem_cons_succ]; omega
theorem keO:∀ {l:List Int},(∀ x∈l,0≤x)→0≤l.sum∧∀ x∈l,x≤l.sum
 | [],h=>⟨by simp,fun x hx=>by cases hx⟩
 | x::l,h=>by
  have h0:=h x (by simp)
  obtain ⟨h1,h2⟩:=keO fun y hy=>h y (List.mem_cons_of_mem _ hy)
  rw [List.sum_cons]
  refine ⟨by omega,fun y hy=>?_⟩
  rcases List.mem_cons.1 hy with rfl | hy
  ·omega
  ·have:=h2 y hy; omega
theorem mem_set' {α:Type} {l:List α} {i:Nat} {x y:α} (h:y∈l.set i x):y∈l∨y=x:=List.mem_or_eq_of_mem_set h
theorem kov {row:List Int} (hrow:2≤row.length∧row.length≤9) (h0:∀ x∈row,0≤x∧x≤1000) (hs:row.sum=1000):∀ (m:Nat) (b:List Int) (w:Int) (out:List Int),begR row b→out.length=row.length→(∀ x∈out,0≤x)→0≤w→out.sum+w*1000 ^ m≤1000000000000000→
  (addR row m b w out).sum=out.sum+w*1000 ^ m∧∀ x∈addR row m b w out,0≤x
 | 0,b,w,out,hb,ho,hn,hw,hB=>by
  obtain ⟨n1,n2⟩:=keO hn
  simp only [Int.pow_zero,Int.mul_one] at hB ⊢
  unfold addR leafR
  dsimp only
  generalize hi:(if seenR b<0 then (row.length:Int)-1 else seenR b)=i
  have hir:0≤i∧i<out.length:=by
   split at hi
   ·omega
   ·have:=hb _ (kmq b (by omega)); omega
  have hlt:i.toNat<out.length:=by omega
  have hg:out.getD i.toNat 0=out[i.toNat]:=by rw [List.getD_eq_getElem?_getD,List.getElem?_eq_getElem hlt]; rfl
  have hx:=n2 _ (List.getElem_mem hlt)
  have hx0:=hn _ (List.getElem_mem hlt)
  rw [hg,kco (by omega) (by omega)]
  refine ⟨by rw [klu _ _ hlt]; omega,fun x hx=>?_⟩
  rcases mem_set' hx with hx | rfl
  ·exact hn x hx
  ·omega
 | m+1,b,w,out,hb,ho,hn,hw,hB=>by
  have hP:(1:Int)≤1000 ^ m:=by
   have:(0:Int)<1000 ^ m:=Int.pow_pos (by decide)
   omega
  have go:∀ (k j:Nat) (out1:List Int),j+k=row.length→out1.length=row.length→(∀ x∈out1,0≤x)→out1.sum+w*1000 ^ m*(row.drop j).sum≤1000000000000000→
    (((row.zipIdx).drop j).foldl (fun out x=>if x.1=0 then out else addR row m (b++[sayR row x.2]) (w64 (w*x.1)) out) out1).sum=out1.sum+w*1000 ^ m*(row.drop j).sum∧∀ x∈((row.zipIdx).drop j).foldl (fun out x=>if x.1=0 then out else addR row m (b++[sayR row x.2]) (w64 (w*x.1)) out) out1,0≤x:=by
   intro k
   induction k with
   | zero=>
    intro j out1 hj h1 h2 h3
    have:j=row.length:=by omega
    subst this
    rw [List.drop_eq_nil_of_le (by simp),List.drop_length]
    exact ⟨by simp,h2⟩
   | succ k ih=>
    intro j out1 hj h1 h2 h3
    have hjl:j<row.length:=by omega
    rw [kkv _ row j hjl]
    have hd:(row.drop j).sum=row[j]+(row.drop (j+1)).sum:=by rw [List.drop_eq_getElem_cons hjl,List.sum_cons]
    have hxj:=h0 _ (List.getElem_mem hjl)
    have hr0:0≤(row.drop (j+1)).sum:=(keO fun x hx=>(h0 x (List.mem_of_mem_drop hx)).1).1
    have hwP:0≤w*1000 ^ m:=Int.mul_nonneg hw (by omega)
    rw [hd,Int.mul_add] at h3 ⊢
    by_cases hz:row[j]=0
    ·dsimp only
     rw [if_pos hz]
     rw [hz,Int.mul_zero] at h3 ⊢
     obtain ⟨q1,q2⟩:=ih (j+1) out1 (by omega) h1 h2 (by omega)
     exact ⟨by omega,q2⟩
    ·dsimp only
     rw [if_neg hz]
     have e1:w*row[j]*1000 ^ m=w*1000 ^ m*row[j]:=by rw [Int.mul_assoc,Int.mul_comm row[j],←Int.mul_assoc]
     have hwx:0≤w*row[j]:=Int.mul_nonneg hw hxj.1
     have h5:0≤w*1000 ^ m*(row.drop (j+1)).sum:=Int.mul_nonneg hwP hr0
     have h6:=(keO h2).1
     have h7:w*row[j]≤w*row[j]*1000 ^ m:=by
      have:=Int.mul_le_mul_of_nonneg_left hP hwx
      rwa [Int.mul_one] at this
     rw [kco (x:=w*row[j]) (by omega) (by omega)]
     obtain ⟨p1,p2⟩:=kov hrow h0 hs m (b++[sayR row j]) (w*row[j]) out1 (kma hb hjl) h1 h2 hwx (by omega)
     obtain ⟨q1,q2⟩:=ih (j+1) (addR row m (b++[sayR row j]) (w*row[j]) out1) (by omega) (by rw [kgB]; exact h1) p2 (by omega)
     exact ⟨by omega,q2⟩
  have hpow:w*1000 ^ (m+1)=w*1000 ^ m*1000:=by rw [Int.pow_succ,Int.mul_assoc]
  have:=go row.length 0 out (by omega) ho hn (by rw [List.drop_zero,hs]; omega)
  rw [List.drop_zero,List.drop_zero,hs] at this
  rw [hpow]
  exact this
theorem kly:∀ n:Nat,(List.replicate n (0:Int)).sum=0
 | 0=>rfl
 | n+1=>by rw [List.replicate_succ,List.sum_cons,kly n]; rfl
theorem kry {row:List Int} (hrow:2≤row.length∧row.length≤9) (h0:∀ x∈row,0≤x∧x≤1000) (hs:row.sum=1000) {n:Int} (h1:1≤n) (h5:n≤5) :
  (chR row n).sum=1000 ^ n.toNat∧(∀ x∈chR row n,0≤x)∧(chR row n).length=row.length:=by
 have hp:(1000:Int) ^ n.toNat≤1000000000000000:=by
  have:n=1∨n=2∨n=3∨n=4∨n=5:=by omega
  rcases this with rfl | rfl | rfl | rfl | rfl <;> decide
 have:=kov hrow h0 hs n.toNat [] 1 (List.replicate row.length 0) (fun x hx=>by cases hx) (by simp) (fun x hx=>by rw [(List.mem_replicate.1 hx).2]; exact Int.le_refl _) (by decide) (by rw [kly]; omega)
 rw [kly] at this
 unfold chR
 exact ⟨by omega,this.2,by rw [kgB]; simp⟩
theorem krT (t:List (List Int)) (ht:t.length≤9223372036854775807):∃ r,kgb t=some r∧(r=false→t.length≤10):=by
 unfold kgb
 rw [kmh (F:=kex t) true t (by omega) (fun i x=>decide (12<lenI x)) (fun i hi=>by
  unfold kex
  rw [if_pos (lenI_lt.2 hi),kaN hi,kbq (by omega)]
  simp only [Option.bind_some]
  split <;> rfl) (by unfold kex; rw [if_neg kbx])]
 simp only [Option.bind_some]
 split
 ·rename_i h
  split at h
  ·cases h; exact ⟨true,rfl,by simp⟩
  ·cases h
 ·exact ⟨_,rfl,fun h=>by rw [kbr,decide_eq_false_iff_not] at h; omega⟩
theorem kqG (t:List (List Int)) (n:Int):∃ r,kfv t n=some r:=by
 unfold kfv; split <;> exact ⟨_,rfl⟩
end Go.Abs
namespace Go.Abs
open Go
def dsum:List (Int×Int)→Int
 | []=>0
 | x::l=>x.2+dsum l
theorem koi:∀ (l:List (Int×Int)) (i:Nat) (h:i<l.length) (y:Int×Int),dsum (l.set i y)=dsum l-l[i].2+y.2
 | [],i,h,y=>by simp at h
 | x::l,0,h,y=>by simp [dsum]; omega
 | x::l,i+1,h,y=>by
  have:=koi l i (by simpa using h) y
  simp only [List.set_cons_succ,dsum,List.getElem_cons_succ]; omega
theorem kpu:∀ {l:List (Int×Int)},(∀ x∈l,0≤x.2)→0≤dsum l∧∀ x∈l,x.2≤dsum l
 | [],h=>⟨by simp [dsum],fun x hx=>by cases hx⟩
 | x::l,h=>by
  have h0:=h x (by simp)
  obtain ⟨h1,h2⟩:=kpu fun y hy=>h y (List.mem_cons_of_mem _ hy)
  simp only [dsum]
  refine ⟨by omega,fun y hy=>?_⟩
  rcases List.mem_cons.1 hy with rfl | hy
  ·omega
  ·have:=h2 y hy; omega
structure BI (sure:Prop) (D:Int) (out:List (Int×Int)):Prop where
 len:out.length=8
 ok:∀ x∈out,0≤x.1∧x.1≤x.2∧(sure→x.1=0)
 sum:dsum out≤D
theorem BI.put {sure:Prop} {D:Int} {out:List (Int×Int)} (h:BI sure D out) {i:Nat} (hi:i<out.length) {a c:Int} (ha:0≤a) (hac:a≤c) (hs:sure→a=0):BI sure (D+c) (out.set i (out[i].1+a,out[i].2+c)):=by
 have hx:=h.ok _ (List.getElem_mem hi)
 refine ⟨by rw [List.length_set]; exact h.len,fun x hm=>?_,by rw [koi _ _ hi]; have:=h.sum; dsimp only; omega⟩
 rcases List.mem_or_eq_of_mem_set hm with hm | rfl
 ·exact h.ok x hm
 ·exact ⟨by dsimp only; omega,by dsimp only; omega,fun s=>by have:=hx.2.2 s; have:=hs s; dsimp only; omega⟩
theorem kqT {sure:Prop} (counts bins ws:List Int) (own:Nat) (hown:own<ws.length) (hc:counts.length=ws.length) (hb:bins.length=ws.length) (hk:ws.length≤8) (hcr:∀ c∈counts,0≤c∧c≤1000) (hbr:∀ x∈bins,-1≤x∧x≤7) (hw:∀ x∈ws,0≤x)
  (hws:ws.sum≤1000000000000000) (hsure:sure→∀ j:Nat,j≠own→ws.getD j 0=0) (D:Int) (hD:D≤7000000000000000000) (v5:Int×List (Int×Int)) (hv:v5.1=(own:Int)) (hI:BI sure D v5.2) :
  ∃ out,iter (keB counts bins v5 ws) (0,v5.2)=some out∧BI sure (D+1000000000000000000) out:=by
 have hci:=hcr _ (List.getElem_mem (show own<counts.length by omega))
 generalize hcn:counts[own]'(by omega)=cnt at hci
 have hgc:gi counts v5.1=some cnt:=by rw [hv,kaN (by omega),hcn]
 have hgb:gi bins v5.1=some (bins[own]'(by omega)):=by rw [hv,kaN (by omega)]
 obtain ⟨z,hz,hR⟩:=khR (F:=keB counts bins v5 ws) (fun v=>∃ j:Nat,v.1=j∧j≤ws.length∧BI sure (D+cnt*(ws.take j).sum) v.2) (fun v=>ws.length-v.1.toNat) (fun z=>BI sure (D+cnt*ws.sum) z) (fun ⟨j',out⟩ ⟨j,hj,hjl,hB⟩=>by
  dsimp only at hj hB ⊢
  subst hj
  unfold keB
  dsimp only
  by_cases hlt:j<ws.length
  ·right
   have hwj:=hw _ (List.getElem_mem hlt)
   have hsum:(ws.take (j+1)).sum=(ws.take j).sum+ws[j]:=by rw [←List.take_append_getElem hlt,List.sum_append]; simp
   have hle:(ws.take (j+1)).sum≤ws.sum:=by
    have h4:=(keO fun x hx=>hw x (List.mem_of_mem_drop (i:=j+1) hx)).1
    have h5:(ws.take (j+1)).sum+(ws.drop (j+1)).sum=ws.sum:=by rw [←List.sum_append,List.take_append_drop]
    omega
   have ht0:=(keO fun x hx=>hw x (List.mem_of_mem_take (i:=j) hx)).1
   have m1:cnt*(ws.take (j+1)).sum=cnt*(ws.take j).sum+cnt*ws[j]:=by rw [hsum,Int.mul_add]
   have m2:0≤cnt*ws[j]:=Int.mul_nonneg hci.1 hwj
   have m3:cnt*(ws.take (j+1)).sum≤1000*1000000000000000:=Int.mul_le_mul hci.2 (by omega) (by omega) (by omega)
   have m4:0≤cnt*(ws.take j).sum:=Int.mul_nonneg hci.1 ht0
   have hbj:j<bins.length:=by omega
   have hbb:=hbr _ (List.getElem_mem hbj)
   rw [if_pos (lenI_lt.2 hlt),kaN hlt,kaN hbj,kbq (by omega)]
   simp only [Option.bind_some,decide_eq_true_eq]
   by_cases h0:bins[j]<0
   ·rw [if_pos h0]
    refine ⟨_,rfl,⟨j+1,rfl,hlt,hB.len,hB.ok,by have:=hB.sum; dsimp only; omega⟩,by dsimp only; omega⟩
   ·rw [if_neg h0]
    have hbi:bins[j].toNat<out.length:=by rw [hB.len]; omega
    have hgo:gi out bins[j]=some out[bins[j].toNat]:=klC (by omega) (by omega)
    have hx:=hB.ok _ (List.getElem_mem hbi)
    have hd:=(kpu (l:=out) fun y hy=>by have:=hB.ok y hy; omega).2 _ (List.getElem_mem hbi)
    have hds:=hB.sum
    generalize hxx:out[bins[j].toNat]=x at hx hd hgo
    rw [hgo,hgc,hgb]
    simp only [Option.bind_some]
    rw [kco (x:=cnt*ws[j]) (by omega) (by omega),kco (x:=x.2+cnt*ws[j]) (by omega) (by omega)]
    have hls:∀ y:Int×Int,lset out bins[j] y=out.set bins[j].toNat y:=fun y=>rfl
    have hgs:∀ y:Int×Int,gi (out.set bins[j].toNat y) bins[j]=some y:=fun y=>by
     rw [klC (by omega) (by rw [List.length_set]; omega)]; simp
    have hlss:∀ y z:Int×Int,lset (out.set bins[j].toNat y) bins[j] z=out.set bins[j].toNat z:=fun y z=>by
     show (out.set bins[j].toNat y).set bins[j].toNat z=_
     rw [List.set_set]
    rw [hls]
    by_cases hne:bins[own]'(by omega)=bins[j]
    ·rw [if_neg (by simpa using hne)]
     refine ⟨_,rfl,⟨j+1,rfl,hlt,?_⟩,by dsimp only; omega⟩
     have hp:=hB.put hbi (Int.le_refl 0) m2 (fun _=>rfl)
     rw [hxx,Int.add_zero] at hp
     rw [m1,←Int.add_assoc]; exact hp
    ·have hjo:j≠own:=fun e=>hne (by subst e; rfl)
     have hsz:sure→cnt*ws[j]=0:=fun s=>by
      have:=hsure s j hjo
      rw [List.getD_eq_getElem?_getD,List.getElem?_eq_getElem hlt] at this
      simp only [Option.getD_some] at this
      rw [this,Int.mul_zero]
     rw [if_pos (by simpa using hne),hgs]
     simp only [Option.bind_some]
     rw [kco (x:=x.1+cnt*ws[j]) (by omega) (by omega),hlss]
     refine ⟨_,rfl,⟨j+1,rfl,hlt,?_⟩,by dsimp only; omega⟩
     have hp:=hB.put hbi m2 (Int.le_refl _) hsz
     rw [hxx] at hp
     rw [m1,←Int.add_assoc]; exact hp
  ·left
   have:j=ws.length:=by omega
   subst this
   rw [if_neg kbx]
   rw [List.take_length] at hB
   exact ⟨_,rfl,hB⟩) (0,v5.2) ⟨0,rfl,by omega,by simpa using hI⟩ (by dsimp only; omega)
 have m5:cnt*ws.sum≤1000*1000000000000000:=Int.mul_le_mul hci.2 hws (keO hw).1 (by omega)
 exact ⟨z,hz,hR.len,hR.ok,by have:=hR.sum; omega⟩
theorem kqv {t:Nat} {x:Int} (h1:1≤t) (h5:t≤5) (h0:0≤x) (h7:x≤7):seenR (List.replicate t x)=x:=by
 have hx:x=0∨x=1∨x=2∨x=3∨x=4∨x=5∨x=6∨x=7:=by omega
 have ht:t=1∨t=2∨t=3∨t=4∨t=5:=by omega
 rcases ht with rfl | rfl | rfl | rfl | rfl <;> rcases hx with rfl | rfl | rfl | rfl | rfl | rfl | rfl | rfl <;> decide
theorem kmy {row:List Int} {own:Nat} (hown:own+1<row.length) (hl:row.length≤9) (hz:∀ j,(h:j<row.length)→row[j]≠0→j=own):∀ (m t:Nat) (w:Int) (out:List Int),1≤t+m→t+m≤5→out.length=row.length→∀ i:Nat,i≠own→
  (addR row m (List.replicate t (own:Int)) w out).getD i 0=out.getD i 0
 | 0,t,w,out,h1,h5,ho,i,hi=>by
  unfold addR leafR
  dsimp only
  rw [kqv (t:=t) (by omega) (by omega) (by omega) (by omega),if_neg (by omega),Int.toNat_natCast,List.getD_eq_getElem?_getD,List.getElem?_set_ne (fun e=>hi e.symm),←List.getD_eq_getElem?_getD]
 | m+1,t,w,out,h1,h5,ho,i,hi=>by
  have go:∀ (k j:Nat) (out1:List Int),j+k=row.length→out1.length=row.length→(((row.zipIdx).drop j).foldl (fun out x=>if x.1=0 then out else addR row m (List.replicate t (own:Int)++[sayR row x.2]) (w64 (w*x.1)) out) out1).getD i 0=out1.getD i 0:=by
   intro k
   induction k with
   | zero=>
    intro j out1 hj h
    rw [List.drop_eq_nil_of_le (by simp; omega)]; rfl
   | succ k ih=>
    intro j out1 hj h
    have hjl:j<row.length:=by omega
    rw [kkv _ row j hjl]
    dsimp only
    by_cases hr:row[j]=0
    ·rw [if_pos hr]; exact ih (j+1) out1 (by omega) h
    ·rw [if_neg hr]
     have hjo:=hz j hjl hr
     subst hjo
     have hsay:sayR row j=(j:Int):=by unfold sayR; rw [if_neg (by omega)]
     rw [hsay,ih (j+1) _ (by omega) (by rw [kgB]; exact h),show List.replicate t (j:Int)++[(j:Int)]=List.replicate (t+1) (j:Int) from (List.replicate_succ' ..).symm]
     exact kmy hown hl hz m (t+1) _ out1 (by omega) (by omega) h i hi
  have:=go row.length 0 out (by omega) ho
  rw [List.drop_zero] at this
  exact this
theorem kqP {row:List Int} {own:Nat} (hown:own+1<row.length) (hl:row.length≤9) (h0:∀ x∈row,0≤x∧x≤1000) (hs:row.sum=1000) (hr:row[own]?=some 1000) {n:Int} (h1:1≤n) (h5:n≤5):∀ i:Nat,i≠own→(chR row n).getD i 0=0:=by
 intro i hi
 have hz:∀ j,(h:j<row.length)→row[j]≠0→j=own:=by
  intro j hj hne
  by_cases e:j=own
  ·exact e
  ·exfalso
   have ho:own<row.length:=by omega
   rw [List.getElem?_eq_getElem ho] at hr
   have hro:row[own]=1000:=Option.some.inj hr
   have hnn:∀ x∈row.set own 0,0≤x:=fun x hx=>by
    rcases List.mem_or_eq_of_mem_set hx with hx | rfl
    ·exact (h0 x hx).1
    ·exact Int.le_refl _
   have hsum:(row.set own 0).sum=0:=by rw [klu _ _ ho,hs,hro]; rfl
   have hm:row[j]∈row.set own 0:=by
    have:(row.set own 0)[j]'(by rw [List.length_set]; exact hj)=row[j]:=by rw [List.getElem_set_ne (fun e'=>e e'.symm)]
    rw [←this]; exact List.getElem_mem _
   have:=(keO hnn).2 _ hm
   have:=hnn _ hm
   omega
 unfold chR
 have:=kmy hown hl hz n.toNat 0 1 (List.replicate row.length 0) (by omega) (by omega) (by simp) i hi
 rw [List.replicate_zero] at this
 rw [this,List.getD_eq_getElem?_getD,List.getElem?_replicate]
 split <;> rfl
def SURE (t:List (List Int)):Prop:=∀ k:Nat,(h:k<t.length)→t[k][k]?=some 1000
theorem kqq (t:List (List Int)) (n:Int) (counts bins:List Int) (ht:t.length≤1000) (hcl:counts.length≤1000) (hbl:bins.length≤1000):∃ w e,kga t n counts bins=some (w,e)∧(e≠0→w=[])∧(e=0→BI (SURE t) 8000000000000000000 w):=by
 unfold kga
 rw [kiM t ht]
 simp only [Option.bind_some]
 by_cases h:kiX t=true
 ·rw [if_pos h,if_neg (by simp),keb _ _ _ (by simp)]
  simp only [List.all_cons,List.all_nil,Bool.and_true,Option.bind_some]
  obtain ⟨t1,t2,t3⟩:=koS h
  by_cases h1:wi 1 5 n=true
  ·rw [h1,if_neg (by simp)]
   have k1:=wi_iff.1 h1
   by_cases h2:counts.length=t.length
   ·rw [if_neg (by simp [kbr,h2])]
    by_cases h3:bins.length=t.length
    ·rw [if_neg (by simp [kbr,h3]),keb _ _ _ (by omega)]
     simp only [Option.bind_some]
     by_cases h4:counts.all (wi 0 1000)=true
     ·rw [h4,if_neg (by simp),keb _ _ _ (by omega)]
      simp only [Option.bind_some]
      by_cases h5:bins.all (wi (-1) 7)=true
      ·rw [h5,if_neg (by simp)]
       have hcr:∀ c∈counts,0≤c∧c≤1000:=fun c hc=>wi_iff.1 (List.all_eq_true.1 h4 c hc)
       have hbr:∀ c∈bins,-1≤c∧c≤7:=fun c hc=>wi_iff.1 (List.all_eq_true.1 h5 c hc)
       have g:gmk 8 ((0,0):Int×Int)=some (List.replicate 8 (0,0)):=by unfold gmk; rw [if_pos (by omega)]; rfl
       rw [g]
       simp only [Option.bind_some]
       obtain ⟨z,hz,hR⟩:=khR (F:=kfO t n counts bins) (fun v=>∃ own:Nat,v.1=own∧own≤t.length∧BI (SURE t) (1000000000000000000*own) v.2) (fun v=>t.length-v.1.toNat) (fun z=>BI (SURE t) (1000000000000000000*t.length) z) (fun ⟨o',out⟩ ⟨own,ho,hol,hB⟩=>by
        dsimp only at ho hB ⊢
        subst ho
        unfold kfO
        dsimp only
        by_cases hlt:own<t.length
        ·right
         obtain ⟨r1,r2,r3⟩:=kpW (t3 _ (List.getElem_mem hlt))
         obtain ⟨c1,c2,c3⟩:=kry (row:=t[own]) (by omega) r2 r3 k1.1 k1.2
         have hp:(1000:Int) ^ n.toNat≤1000000000000000:=by
          have:n=1∨n=2∨n=3∨n=4∨n=5:=by omega
          rcases this with rfl | rfl | rfl | rfl | rfl <;> decide
         rw [if_pos (lenI_lt.2 hlt),kaN hlt,kbq (by omega)]
         simp only [Option.bind_some]
         rw [klb _ (by omega) n k1.1 k1.2]
         simp only [Option.bind_some]
         have hgsl:gsl (chR t[own] n) 0 (lenI t)=some ((chR t[own] n).take t.length):=by
          unfold gsl
          rw [if_pos (by rw [kbr]; omega),kbr]; simp
         rw [hgsl]
         simp only [Option.bind_some]
         have hlen:((chR t[own] n).take t.length).length=t.length:=by rw [List.length_take]; omega
         have hnnw:∀ x∈(chR t[own] n).take t.length,0≤x:=fun x hx=>c2 x (List.mem_of_mem_take hx)
         have hsum:((chR t[own] n).take t.length).sum≤1000000000000000:=by
          have h4:=(keO fun x hx=>c2 x (List.mem_of_mem_drop (i:=t.length) hx)).1
          have h5:((chR t[own] n).take t.length).sum+((chR t[own] n).drop t.length).sum=(chR t[own] n).sum:=by rw [←List.sum_append,List.take_append_drop]
          omega
         obtain ⟨out',e1,e2⟩:=kqT (sure:=SURE t) counts bins ((chR t[own] n).take t.length) own (by omega) (by omega) (by omega) (by omega) hcr hbr hnnw hsum (fun hs j hj=>by
          rw [List.getD_eq_getElem?_getD,List.getElem?_take]
          split
          ·rw [←List.getD_eq_getElem?_getD]
           exact kqP (by omega) (by omega) r2 r3 (hs own hlt) k1.1 k1.2 j hj
          ·rfl) (1000000000000000000*own) (by omega) ((own:Int),out) rfl hB
         rw [e1]
         simp only [Option.bind_some]
         refine ⟨_,rfl,⟨own+1,rfl,hlt,e2.len,e2.ok,by have:=e2.sum; dsimp only; push_cast; omega⟩,by dsimp only; omega⟩
        ·left
         have:own=t.length:=by omega
         subst this
         rw [if_neg kbx]
         exact ⟨_,rfl,hB⟩) (0,List.replicate 8 (0,0)) ⟨0,rfl,by omega,by simp,fun x hx=>by rw [(List.mem_replicate.1 hx).2]; simp,by simp [List.replicate,dsum]⟩ (by dsimp only; omega)
       rw [hz]
       exact ⟨z,0,rfl,fun h=>absurd rfl h,fun _=>⟨hR.len,hR.ok,by have:=hR.sum; omega⟩⟩
      ·rw [if_pos (by simpa using h5)]; exact ⟨[],2,rfl,fun _=>rfl,fun h=>by omega⟩
     ·rw [if_pos (by simpa using h4)]; exact ⟨[],2,rfl,fun _=>rfl,fun h=>by omega⟩
    ·rw [if_pos (by simp [kbr]; omega)]; exact ⟨[],2,rfl,fun _=>rfl,fun h=>by omega⟩
   ·rw [if_pos (by simp [kbr]; omega)]; exact ⟨[],2,rfl,fun _=>rfl,fun h=>by omega⟩
  ·rw [if_pos (by simpa using h1)]; exact ⟨[],2,rfl,fun _=>rfl,fun h=>by omega⟩
 ·rw [if_neg h,if_pos (by simp)]; exact ⟨[],8,rfl,fun _=>rfl,fun h=>by omega⟩
theorem krG (t:List (List Int)) (ht:t.length≤1000):∃ s,iter (kcE t) (0,true)=some s∧(s=true→SURE t):=by
 obtain ⟨z,hz,hR⟩:=khR (F:=kcE t) (fun v=>∃ i:Nat,v.1=i∧i≤t.length∧(v.2=true→∀ k:Nat,(h:k<t.length)→k<i→t[k][k]?=some 1000)) (fun v=>t.length-v.1.toNat) (fun z=>z=true→SURE t) (fun ⟨i',s⟩ ⟨i,hi,hil,hs⟩=>by
  dsimp only at hi hs ⊢
  subst hi
  unfold kcE
  dsimp only
  by_cases hlt:i<t.length
  ·right
   rw [if_pos (lenI_lt.2 hlt),kaN hlt,kbq (by omega)]
   simp only [Option.bind_some]
   cases s with
   | false=>
    rw [if_neg (by simp)]
    exact ⟨_,rfl,⟨i+1,rfl,hlt,fun h=>by cases h⟩,by dsimp only; omega⟩
   | true=>
    rw [if_pos rfl]
    by_cases h1:i<t[i].length
    ·rw [if_pos (lenI_lt.2 h1),kaN h1]
     simp only [Option.bind_some]
     refine ⟨_,rfl,⟨i+1,rfl,hlt,fun h k hk hki=>?_⟩,by dsimp only; omega⟩
     by_cases e:k=i
     ·subst e
      rw [List.getElem?_eq_getElem h1]
      simpa using h
     ·exact hs rfl k hk (by omega)
    ·rw [if_neg (by rw [lenI_lt]; exact h1)]
     exact ⟨_,rfl,⟨i+1,rfl,hlt,fun h=>by cases h⟩,by dsimp only; omega⟩
  ·left
   have:i=t.length:=by omega
   subst this
   rw [if_neg kbx]
   exact ⟨_,rfl,fun h k hk=>hs h k hk hk⟩) (0,true) ⟨0,rfl,by omega,fun _ k _ h=>by omega⟩ (by dsimp only; omega)
 exact ⟨z,hz,hR⟩
theorem krz (w:List (Int×Int)) (e:Int) (s:Bool) {sure:Prop} {D:Int} (hB:BI sure D w) (hs:s=true→sure):iter (kbO (w,e) s) 0=some (.inr ()):=by
 have hl:=hB.len
 rw [kmh (F:=kbO (w,e) s) false w (by omega) (fun i x=>false) (fun i hi=>by
  have hx:=hB.ok _ (List.getElem_mem hi)
  unfold kbO
  dsimp only
  rw [if_pos (lenI_lt.2 hi),kaN hi,kbq (by omega)]
  simp only [Option.bind_some,decide_eq_true_eq]
  rw [if_neg (by omega),if_neg (by omega)]
  cases s with
  | false=>simp
  | true=>
   have:=hx.2.2 (hs rfl)
   simp [this]) (by unfold kbO; dsimp only; rw [if_neg kbx])]
 have:(w.zipIdx.any fun x=>false)=false:=by simp
 rw [this]; rfl
theorem law09_SortSure_eq (t:List (List Int)) (n:Int) (counts bins:List Int) (ht:t.length≤9223372036854775807):kft t n counts bins=some true:=by
 unfold kft
 rw [krR]
 simp only [Option.bind_some]
 obtain ⟨r,hr1,hr2⟩:=krT t ht
 rw [hr1]
 simp only [Option.bind_some]
 cases r with
 | true=>rfl
 | false=>
  have htl:=hr2 rfl
  obtain ⟨q,hq⟩:=kqG t n
  rw [hq]
  simp only [Option.bind_some,Bool.false_eq_true,if_false]
  cases q with
  | true=>rfl
  | false=>
   simp only [Bool.false_eq_true,if_false,decide_eq_true_eq]
   by_cases h1:(20:Int)<lenI counts
   ·rw [if_pos h1]
   ·rw [if_neg h1]
    by_cases h2:(20:Int)<lenI bins
    ·rw [if_pos h2]
    ·rw [if_neg h2,if_neg (by decide)]
     rw [kbr] at h1 h2
     obtain ⟨w,e,e1,e2,e3⟩:=kqq t n counts bins (by omega) (by omega) (by omega)
     rw [e1]
     simp only [Option.bind_some]
     by_cases he:e=0
     ·obtain ⟨s,s1,s2⟩:=krG t (by omega)
      rw [if_neg (by simpa using he),s1]
      simp only [Option.bind_some]
      rw [krz w e s (e3 he) s2]
      have:=(e3 he).len
      simp [kbr,this]
     ·rw [if_pos (by simpa using he),e2 he]
      simp [krf]
end Go.Abs
