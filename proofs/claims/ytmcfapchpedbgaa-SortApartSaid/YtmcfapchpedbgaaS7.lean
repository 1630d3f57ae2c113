/- The functions and the law, part 7. -/
import Derived.Test.YtmcfapchpedbgaaProg
import Derived.Test.YtmcfapchpedbgaaZ3
import Derived.Test.YtmcfapchpedbgaaZ5
import Derived.Test.YtmcfapchpedbgaaZ6
set_option linter.constructorNameAsVariable false
set_option linter.unusedVariables false
set_option linter.unusedSimpArgs false
set_option linter.unusedSectionVars false
namespace Go.Abs
open Go
@[reducible] def tBelt:Ty:=(.pr (.i .i64) (.pr (.i .i64) (.pr (.i .i64) (.pr (.sl (.pr (.i .i64) (.i .i64))) (.sl (.i .i64))))))
abbrev Belt:=(Int×Int×Int×(List (Int×Int))×(List Int))
@[reducible] def tFed:Ty:=(.pr (.i .i64) (.pr (.i .i64) (.sl (.i .i64))))
abbrev Fed:=(Int×Int×(List Int))
@[reducible] def tPile:Ty:=(.pr (.i .i64) (.sl (.i .i64)))
abbrev Pile:=(Int×(List Int))
@[reducible] def tLine:Ty:=(.pr tBelt (.sl tFed))
abbrev Line:=(Belt×(List Fed))
def knn (v0:(Int×Int×Fed)):Option ((Int×Int×Fed)⊕(Int×Fed)):=
 (if (decide (v0.1<16))=true then ((if (decide (v0.1<2))=true then (some v0.1) else (some (-1))).bind fun v1=>((gapp v0.2.2.2.2 [v1]).bind fun v2=>(some (.inl ((w64 (v0.1+1)),v0.2.1,v0.2.2.1,v0.2.2.2.1,v2))))) else (some (.inr v0.2)))
def law09_belt:Option Belt:=
 ((iter (knn) (0,20,2,2,[])).bind fun v3=>(some (v3.1,v3.2.1,v3.2.2.1,[(10,0),(15,1)],v3.2.2.2)))
def kcw (x0:Int) (x1:Int):Option Fed:=
 (some (x0,x1,[x1]))
def kfe (x0:Int) (x1:Int) (x2:Int):Option Bool:=
 (if (decide (x0<x1))=true then (some true) else (some (decide (x2<x0))))
def kaW (x0:(List Int)) (x1:(Int→Option Bool)) (v0:Int):Option (Int⊕(Int⊕Unit)):=
 (if (decide (v0<(lenI x0)))=true then ((gi x0 v0).bind fun v1=>((x1 v1).bind fun v2=>(if v2=true then (some (.inr (.inl v0))) else (some (.inl (w64 (v0+1))))))) else (some (.inr (.inr ()))))
def kbR (x0:(List Int)) (x1:(Int→Option Bool)):Option Int:=
 ((iter (kaW x0 x1) 0).bind fun v3=>(match v3 with | .inl v4=>(some v4) | .inr v5=>(some (-1))))
def kaV (x0:(List Int)) (x1:(Int→Option Bool)):Option Bool:=
 ((kbR x0 x1).bind fun v0=>(some (decide (0≤v0))))
def kap (x0:Int) (x1:Int) (x2:(List Int)):Option Bool:=
 ((kaV x2 (fun (u0:Int)=>((kfe u0 x0 x1).bind fun u1=>(some u1)))).bind fun v0=>(some (!v0)))
def kbV (x0:Belt) (v4:(Int×Int×(List (Int×Bool)))):Option ((Int×Int×(List (Int×Bool)))⊕(Int⊕Unit)):=
 (if (decide (v4.1<(lenI x0.2.2.2.1)))=true then ((gi x0.2.2.2.1 v4.1).bind fun v5=>((kap v4.2.1 (w64 (x0.1-1)) [v5.1]).bind fun v6=>(if (!v6)=true then (some (.inr (.inl 90))) else ((kap 0 7 [v5.2]).bind fun v7=>(if (!v7)=true then (some (.inr (.inl 90))) else (if ((mget v4.2.2 v5.2).getD false)=true then (some (.inr (.inl 90))) else (some (.inl ((w64 (v4.1+1)),(w64 (v5.1+1)),(mput v4.2.2 v5.2 true)))))))))) else (some (.inr (.inr ()))))
def kev (x0:Belt):Option Int:=
 ((kap 2 100 [x0.1]).bind fun v0=>(if (!v0)=true then (some 90) else ((kap 0 (w64 (x0.1-2)) [x0.2.1]).bind fun v1=>(if (!v1)=true then (some 90) else ((kap 0 10 [x0.2.2.1]).bind fun v2=>(if (!v2)=true then (some 90) else (if (decide (8<(lenI x0.2.2.2.1)))=true then (some 90) else (if ((lenI x0.2.2.2.2) != 16)=true then (some 90) else ((kap (-1) 7 x0.2.2.2.2).bind fun v3=>(if (!v3)=true then (some 90) else ((iter (kbV x0) (0,(w64 (x0.2.1+1)),[])).bind fun v8=>(match v8 with | .inl v9=>(some v9) | .inr v10=>(some 0)))))))))))))
def khj (x0:(List Int)):Option Bool:=
 ((kap 1 9 [(lenI x0)]).bind fun v0=>(if v0=true then ((kap (-1) 15 x0).bind fun v1=>(some v1)) else (some false)))
def kcm (x0:(List Fed)) (v0:(Int×Int)):Option ((Int×Int)⊕(Int⊕Unit)):=
 (if (decide (v0.1<(lenI x0)))=true then ((gi x0 v0.1).bind fun v1=>((kap v0.2 1000 [v1.1]).bind fun v2=>(if (!v2)=true then (some (.inr (.inl 91))) else ((kap 0 15 [v1.2.1]).bind fun v3=>(if (!v3)=true then (some (.inr (.inl 91))) else ((khj v1.2.2).bind fun v4=>(if (!v4)=true then (some (.inr (.inl 91))) else (some (.inl ((w64 (v0.1+1)),(w64 (v1.1+1)))))))))))) else (some (.inr (.inr ()))))
def keP (x0:(List Fed)):Option Int:=
 (if (decide (40<(lenI x0)))=true then (some 91) else ((iter (kcm x0) (0,0)).bind fun v5=>(match v5 with | .inl v6=>(some v6) | .inr v7=>(some 0))))
def kgT (x0:Belt) (x1:(List Fed)):Option ((Option Line)×Int):=
 ((kev x0).bind fun v0=>((if (v0==0)=true then ((keP x1).bind fun v1=>(some v1)) else (some v0)).bind fun v2=>(if (v2 != 0)=true then (some (none,v2)) else (some ((some (x0,x1)),0)))))
def kfl (x0:(List Int)) (v0:(Int×(Arr 16 Int))):Option ((Int×(Arr 16 Int))⊕(Arr 16 Int)):=
 (if (decide (v0.1<(lenI x0)))=true then ((gi x0 v0.1).bind fun v1=>(if (decide (0≤v1))=true then ((garr v0.2 v1).bind fun v2=>((garr v0.2 v1).bind fun v3=>((garr v0.2 v1).bind fun v4=>(some (.inl ((w64 (v0.1+1)),(aset v0.2 v1 (w64 (v3+1))))))))) else (some (.inl ((w64 (v0.1+1)),v0.2))))) else (some (.inr v0.2)))
def kes (v5:(Arr 16 Int)) (v6:(Int×Int×Int)):Option ((Int×Int×Int)⊕Int):=
 (if (decide (v6.1<16))=true then ((garr v5 v6.1).bind fun v7=>(if (decide (v6.2.1<v7))=true then (some (.inl ((w64 (v6.1+1)),v7,v6.1))) else (if (v7==v6.2.1)=true then (some (.inl ((w64 (v6.1+1)),v6.2.1,(-1)))) else (some (.inl ((w64 (v6.1+1)),v6.2)))))) else (some (.inr v6.2.2)))
def keY (x0:(List Int)):Option Int:=
 ((iter (kfl x0) (0,(amk 16 0))).bind fun v5=>((iter (kes v5) (0,0,(-1))).bind fun v8=>(some v8)))
def keE (x0:(Int×Int)) (x1:(Option Line)) (x2:Int):Option Bool:=
 (x1.bind fun v0=>((gi v0.1.2.2.2.2 x2).bind fun v1=>(some (x0.2==v1))))
def kar (x0:(List (Int×Int))) (x1:((Int×Int)→Option Bool)) (v0:Int):Option (Int⊕(Int⊕Unit)):=
 (if (decide (v0<(lenI x0)))=true then ((gi x0 v0).bind fun v1=>((x1 v1).bind fun v2=>(if v2=true then (some (.inr (.inl v0))) else (some (.inl (w64 (v0+1))))))) else (some (.inr (.inr ()))))
def kaB (x0:(List (Int×Int))) (x1:((Int×Int)→Option Bool)):Option Int:=
 ((iter (kar x0 x1) 0).bind fun v3=>(match v3 with | .inl v4=>(some v4) | .inr v5=>(some (-1))))
def kcV (x0:(Option Line)) (x1:Fed):Option Int:=
 ((keY x1.2.2).bind fun v0=>(if (decide (v0<0))=true then (some (-1)) else (x0.bind fun v1=>((kaB v1.1.2.2.2.1 (fun (u0:(Int×Int))=>((keE u0 x0 v0).bind fun u1=>(some u1)))).bind fun v2=>(some v2)))))
def kdI (x0:Fed) (x1:(Option Line)) (x2:Int):Option Bool:=
 ((kcV x1 x0).bind fun v0=>(some (v0 != x2)))
def kay (x0:(List Fed)) (x1:(Fed→Option Bool)) (v0:Int):Option (Int⊕(Int⊕Unit)):=
 (if (decide (v0<(lenI x0)))=true then ((gi x0 v0).bind fun v1=>((x1 v1).bind fun v2=>(if v2=true then (some (.inr (.inl v0))) else (some (.inl (w64 (v0+1))))))) else (some (.inr (.inr ()))))
def kbg (x0:(List Fed)) (x1:(Fed→Option Bool)):Option Int:=
 ((iter (kay x0 x1) 0).bind fun v3=>(match v3 with | .inl v4=>(some v4) | .inr v5=>(some (-1))))
def kaw (x0:(List Fed)) (x1:(Fed→Option Bool)):Option Bool:=
 ((kbg x0 x1).bind fun v0=>(some (decide (0≤v0))))
def kdi (x0:(Option Line)) (x1:(List Fed)):Option Int:=
 ((gi x1 0).bind fun v0=>((kcV x0 v0).bind fun v1=>((gi x1 (w64 ((lenI x1)-1))).bind fun v2=>((gi x1 0).bind fun v3=>(if (decide (v1<0))=true then (some (-1)) else ((kaw x1 (fun (u0:Fed)=>((kdI u0 x0 v1).bind fun u1=>(some u1)))).bind fun v4=>(if v4=true then (some (-1)) else (x0.bind fun v5=>(x0.bind fun v6=>((gi v6.1.2.2.2.1 v1).bind fun v7=>(x0.bind fun v8=>(if (decide ((w64 (v7.1-v8.1.2.1))<(w64 ((w64 ((w64 (v2.1-v3.1))+(w64 (3*v5.1.2.2.1))))+1))))=true then (some (-1)) else (some v1)))))))))))))
def kbi (x0:(Option Line)) (v1:((List Fed)×(List (Int×(List Fed))))) (v2:Int):Option (Int⊕Int):=
 (if (decide (v2<(lenI v1.1)))=true then ((gi v1.1 v2).bind fun v3=>((gi v1.1 (w64 (v2-1))).bind fun v4=>(x0.bind fun v5=>(if (decide ((w64 (v3.1-v4.1))≤(w64 ((w64 (2*v5.1.2.2.1))+1))))=true then (some (.inl (w64 (v2+1)))) else (some (.inr v2)))))) else (some (.inr v2)))
def kaJ (o:Option (List (Int×(List Fed)))) (x0:(Option Line)) (v1:((List Fed)×(List (Int×(List Fed))))):Option (((List Fed)×(List (Int×(List Fed))))⊕((List (Int×(List Fed)))⊕(List (Int×(List Fed))))):=
 (if (decide (0<(lenI v1.1)))=true then ((iter (kbi x0 v1) 1).bind fun v6=>((gsl v1.1 0 v6).bind fun v7=>((kdi x0 v7).bind fun v8=>((gsl v1.1 0 v6).bind fun v9=>((gpre (.pr (.i .i64) (.sl (.pr (.i .i64) (.pr (.i .i64) (.sl (.i .i64)))))) o v1.2 (v8,v9)).bind fun v10=>((gsl v1.1 v6 (lenI v1.1)).bind fun v11=>(some (.inl (v11,v10))))))))) else (some (.inr (.inr v1.2))))
def kaG (o:Option (List (Int×(List Fed)))) (x0:(Option Line)):Option (List (Int×(List Fed))):=
 (x0.bind fun v0=>((iter (kaJ o x0) (v0.2,[])).bind fun v12=>(match v12 with | .inl v13=>(some v13) | .inr v14=>(some v14))))
def kbM (x0:(Option Line)):Option (Option Line):=
 (some x0)
def kea (x0:Belt) (v4:(Int×(List Fed))) (v5:(Int×(List (Int×Int×Int)))):Option ((Int×(List (Int×Int×Int)))⊕(List (Int×Int×Int))):=
 (if (decide (v5.1<(lenI v4.2)))=true then ((gi v4.2 v5.1).bind fun v6=>((keY v6.2.2).bind fun v7=>(if (decide (0≤v4.1))=true then ((gi x0.2.2.2.1 v4.1).bind fun v8=>((gi x0.2.2.2.1 v4.1).bind fun v9=>((gapp v5.2 [(v7,v8.2,(w64 (v6.1+v9.1)))]).bind fun v10=>(some (.inl ((w64 (v5.1+1)),v10)))))) else ((gapp v5.2 [(v7,(-1),(w64 (v6.1+x0.1)))]).bind fun v11=>(some (.inl ((w64 (v5.1+1)),v11))))))) else (some (.inr v5.2)))
def keo (x0:Belt) (v2:(List (Int×(List Fed)))) (v3:(Int×(List (Int×Int×Int)))):Option ((Int×(List (Int×Int×Int)))⊕(((List (Int×Int×Int))×Int)⊕(List (Int×Int×Int)))):=
 (if (decide (v3.1<(lenI v2)))=true then ((gi v2 v3.1).bind fun v4=>((iter (kea x0 v4) (0,v3.2)).bind fun v12=>(some (.inl ((v3.1+1),v12))))) else (some (.inr (.inr v3.2))))
def keV (x0:Belt) (x1:(List Fed)):Option ((List (Int×Int×Int))×Int):=
 ((kgT x0 x1).bind fun v0=>(if (v0.2 != 0)=true then (some ([],v0.2)) else ((kbM v0.1).bind fun v1=>((runI fun o=>(kaG o v1)).bind fun v2=>((iter (keo x0 v2) (0,[])).bind fun v13=>(match v13 with | .inl v14=>(some v14) | .inr v15=>(some (v15,0))))))))
def kgi (x0:Int):Option Bool:=
 (some (x0 != x0))
def kfq (x0:Int) (x1:Int):Option Int:=
 ((kgi x0).bind fun v0=>((kgi x1).bind fun v1=>(if v0=true then (if v1=true then (some 0) else (some (-1))) else (if v1=true then (some 1) else (if (decide (x0<x1))=true then (some (-1)) else (if (decide (x1<x0))=true then (some 1) else (some 0)))))))
def knt (x0:(List Int)) (v0:Int):Option (Int⊕(Int⊕Unit)):=
 (if (decide (v0<(lenI x0)))=true then ((gi x0 v0).bind fun v1=>(if (v1 != 0)=true then (some (.inr (.inl v1))) else (some (.inl (w64 (v0+1)))))) else (some (.inr (.inr ()))))
def kiC (x0:(List Int)):Option Int:=
 ((iter (knt x0) 0).bind fun v2=>(match v2 with | .inl v3=>(some v3) | .inr v4=>(some 0)))
def klE (x0:(Int×Int×Bool)) (x1:(Int×Int×Bool)):Option Int:=
 ((kfq x0.1 x1.1).bind fun v0=>((kfq x0.2.1 x1.2.1).bind fun v1=>((kiC [v0,v1]).bind fun v2=>(some v2))))
def kcI (x0:Int) (x2:(((Int×Int×Bool)×Int×Int×Bool)→Option Int)) (v1:(Int×(List (Int×Int×Bool)))):Option ((Int×(List (Int×Int×Bool)))⊕(List (Int×Int×Bool))):=
 (if (decide (x0<v1.1))=true then ((gi v1.2 v1.1).bind fun v2=>((gi v1.2 v1.1).bind fun v3=>((gi v1.2 (w64 (v1.1-1))).bind fun v4=>((gi v1.2 (w64 (v1.1-1))).bind fun v5=>((x2 (v3,v5)).bind fun v6=>(if (decide (v6<0))=true then ((gi v1.2 (w64 (v1.1-1))).bind fun v7=>((gi v1.2 (w64 (v1.1-1))).bind fun v8=>((gi v1.2 v1.1).bind fun v9=>((gi v1.2 v1.1).bind fun v10=>((gi v1.2 v1.1).bind fun v11=>((gi (lset v1.2 v1.1 v8) (w64 (v1.1-1))).bind fun v12=>(some (.inl ((w64 (v1.1-1)),(lset (lset v1.2 v1.1 v8) (w64 (v1.1-1)) v10)))))))))) else (some (.inr v1.2)))))))) else (some (.inr v1.2)))
def kcK (x0:Int) (x1:Int) (x2:(((Int×Int×Bool)×Int×Int×Bool)→Option Int)) (v0:(Int×(List (Int×Int×Bool)))):Option ((Int×(List (Int×Int×Bool)))⊕(List (Int×Int×Bool))):=
 (if (decide (v0.1<x1))=true then ((iter (kcI x0 x2) v0).bind fun v13=>(some (.inl ((w64 (v0.1+1)),v13)))) else (some (.inr v0.2)))
def kaK (x0:Int) (x1:Int) (x2:(((Int×Int×Bool)×Int×Int×Bool)→Option Int)) (x3:(List (Int×Int×Bool))):Option (List (Int×Int×Bool)):=
 ((iter (kcK x0 x1 x2) ((w64 (x0+1)),x3)).bind fun v14=>(some v14))
def kdp (x0:Int) (x1:Int) (x2:Int) (v0:(Int×(List (Int×Int×Bool)))):Option ((Int×(List (Int×Int×Bool)))⊕(List (Int×Int×Bool))):=
 (if (decide (v0.1<x2))=true then ((gi v0.2 (w64 (x1+v0.1))).bind fun v1=>((gi v0.2 (w64 (x1+v0.1))).bind fun v2=>((gi v0.2 (w64 (x0+v0.1))).bind fun v3=>((gi v0.2 (w64 (x0+v0.1))).bind fun v4=>((gi v0.2 (w64 (x0+v0.1))).bind fun v5=>((gi (lset v0.2 (w64 (x0+v0.1)) v2) (w64 (x1+v0.1))).bind fun v6=>(some (.inl ((w64 (v0.1+1)),(lset (lset v0.2 (w64 (x0+v0.1)) v2) (w64 (x1+v0.1)) v4)))))))))) else (some (.inr v0.2)))
def kaA (x0:Int) (x1:Int) (x2:Int) (x3:(((Int×Int×Bool)×Int×Int×Bool)→Option Int)) (x4:(List (Int×Int×Bool))):Option (List (Int×Int×Bool)):=
 ((iter (kdp x0 x1 x2) (0,x4)).bind fun v7=>(some v7))
def kek (x1:Int) (x3:(((Int×Int×Bool)×Int×Int×Bool)→Option Int)) (v0:(Int×Int×(List (Int×Int×Bool)))):Option ((Int×Int×(List (Int×Int×Bool)))⊕(Int×(List (Int×Int×Bool)))):=
 (if (v0.1 != v0.2.1)=true then (if (decide (v0.2.1<v0.1))=true then ((kaA (w64 (x1-v0.1)) x1 v0.2.1 x3 v0.2.2).bind fun v1=>(some (.inl ((w64 (v0.1-v0.2.1)),v0.2.1,v1)))) else ((kaA (w64 (x1-v0.1)) (w64 ((w64 (x1+v0.2.1))-v0.1)) v0.1 x3 v0.2.2).bind fun v2=>(some (.inl (v0.1,(w64 (v0.2.1-v0.1)),v2))))) else (some (.inr (v0.1,v0.2.2))))
def kcf (x0:Int) (x1:Int) (x2:Int) (x3:(((Int×Int×Bool)×Int×Int×Bool)→Option Int)) (x4:(List (Int×Int×Bool))):Option (List (Int×Int×Bool)):=
 ((iter (kek x1 x3) ((w64 (x1-x0)),(w64 (x2-x1)),x4)).bind fun v3=>((kaA (w64 (x1-v3.1)) x1 v3.1 x3 v3.2).bind fun v4=>(some v4)))
def kdH (x0:Int) (x3:(((Int×Int×Bool)×Int×Int×Bool)→Option Int)) (x4:(List (Int×Int×Bool))) (v0:(Int×Int)):Option ((Int×Int)⊕Int):=
 (if (decide (v0.1<v0.2))=true then ((gshr .u64 (IntKind.wrap .u64 (w64 (v0.1+v0.2))) 1).bind fun v1=>((gi x4 (w64 v1)).bind fun v2=>((gi x4 (w64 v1)).bind fun v3=>((gi x4 x0).bind fun v4=>((gi x4 x0).bind fun v5=>((x3 (v3,v5)).bind fun v6=>(if (decide (v6<0))=true then (some (.inl ((w64 ((w64 v1)+1)),v0.2))) else (some (.inl (v0.1,(w64 v1))))))))))) else (some (.inr v0.1)))
def kdL (v7:Int) (v8:(Int×(List (Int×Int×Bool)))):Option ((Int×(List (Int×Int×Bool)))⊕(List (Int×Int×Bool))):=
 (if (decide (v8.1<(w64 (v7-1))))=true then ((gi v8.2 (w64 (v8.1+1))).bind fun v9=>((gi v8.2 (w64 (v8.1+1))).bind fun v10=>((gi v8.2 v8.1).bind fun v11=>((gi v8.2 v8.1).bind fun v12=>((gi v8.2 v8.1).bind fun v13=>((gi (lset v8.2 v8.1 v10) (w64 (v8.1+1))).bind fun v14=>(some (.inl ((w64 (v8.1+1)),(lset (lset v8.2 v8.1 v10) (w64 (v8.1+1)) v12)))))))))) else (some (.inr v8.2)))
def kdM (x1:Int) (x3:(((Int×Int×Bool)×Int×Int×Bool)→Option Int)) (x4:(List (Int×Int×Bool))) (v16:(Int×Int)):Option ((Int×Int)⊕Int):=
 (if (decide (v16.1<v16.2))=true then ((gshr .u64 (IntKind.wrap .u64 (w64 (v16.1+v16.2))) 1).bind fun v17=>((gi x4 x1).bind fun v18=>((gi x4 x1).bind fun v19=>((gi x4 (w64 v17)).bind fun v20=>((gi x4 (w64 v17)).bind fun v21=>((x3 (v19,v21)).bind fun v22=>(if (!(decide (v22<0)))=true then (some (.inl ((w64 ((w64 v17)+1)),v16.2))) else (some (.inl (v16.1,(w64 v17))))))))))) else (some (.inr v16.1)))
def kdF (v23:Int) (v24:(Int×(List (Int×Int×Bool)))):Option ((Int×(List (Int×Int×Bool)))⊕(List (Int×Int×Bool))):=
 (if (decide (v23<v24.1))=true then ((gi v24.2 (w64 (v24.1-1))).bind fun v25=>((gi v24.2 (w64 (v24.1-1))).bind fun v26=>((gi v24.2 v24.1).bind fun v27=>((gi v24.2 v24.1).bind fun v28=>((gi v24.2 v24.1).bind fun v29=>((gi (lset v24.2 v24.1 v26) (w64 (v24.1-1))).bind fun v30=>(some (.inl ((w64 (v24.1-1)),(lset (lset v24.2 v24.1 v26) (w64 (v24.1-1)) v28)))))))))) else (some (.inr v24.2)))
def kdG (x1:Int) (x3:(((Int×Int×Bool)×Int×Int×Bool)→Option Int)) (x4:(List (Int×Int×Bool))) (v32:Int) (v34:(Int×Int)):Option ((Int×Int)⊕Int):=
 (if (decide (v34.1<v34.2))=true then ((gshr .u64 (IntKind.wrap .u64 (w64 (v34.1+v34.2))) 1).bind fun v35=>((gi x4 (w64 ((w64 ((w64 ((w64 v32)+x1))-1))-(w64 v35)))).bind fun v36=>((gi x4 (w64 ((w64 ((w64 ((w64 v32)+x1))-1))-(w64 v35)))).bind fun v37=>((gi x4 (w64 v35)).bind fun v38=>((gi x4 (w64 v35)).bind fun v39=>((x3 (v37,v39)).bind fun v40=>(if (!(decide (v40<0)))=true then (some (.inl ((w64 ((w64 v35)+1)),v34.2))) else (some (.inl (v34.1,(w64 v35))))))))))) else (some (.inr v34.1)))
def kdS (rec_slices_symMergeCmpFunc_api_Swing_m4:Int→Int→Int→(((Int×Int×Bool)×Int×Int×Bool)→Option Int)→(List (Int×Int×Bool))→Option (List (Int×Int×Bool))) (x0:Int) (x1:Int) (x2:Int) (x3:(((Int×Int×Bool)×Int×Int×Bool)→Option Int)) (x4:(List (Int×Int×Bool))):Option (List (Int×Int×Bool)):=
 (if ((w64 (x1-x0))==1)=true then ((iter (kdH x0 x3 x4) (x1,x2)).bind fun v7=>((iter (kdL v7) (x0,x4)).bind fun v15=>(some v15))) else (if ((w64 (x2-x1))==1)=true then ((iter (kdM x1 x3 x4) (x0,x1)).bind fun v23=>((iter (kdF v23) (x1,x4)).bind fun v31=>(some v31))) else ((gshr .u64 (IntKind.wrap .u64 (w64 (x0+x2))) 1).bind fun v32=>((if (decide ((w64 v32)<x1))=true then (some ((w64 ((w64 ((w64 v32)+x1))-x2)),(w64 v32))) else (some (x0,x1))).bind fun v33=>((iter (kdG x1 x3 x4 v32) v33).bind fun v41=>((if (decide (v41<x1))=true then (some (decide (x1<(w64 ((w64 ((w64 v32)+x1))-v41))))) else (some false)).bind fun v42=>((if v42=true then ((kcf v41 x1 (w64 ((w64 ((w64 v32)+x1))-v41)) x3 x4).bind fun v43=>(some v43)) else (some x4)).bind fun v44=>((if (decide (x0<v41))=true then (some (decide (v41<(w64 v32)))) else (some false)).bind fun v45=>((if v45=true then ((rec_slices_symMergeCmpFunc_api_Swing_m4 x0 v41 (w64 v32) x3 v44).bind fun v46=>(some v46)) else (some v44)).bind fun v47=>(if (decide ((w64 v32)<(w64 ((w64 ((w64 v32)+x1))-v41))))=true then (if (decide ((w64 ((w64 ((w64 v32)+x1))-v41))<x2))=true then ((rec_slices_symMergeCmpFunc_api_Swing_m4 (w64 v32) (w64 ((w64 ((w64 v32)+x1))-v41)) x2 x3 v47).bind fun v48=>(some v48)) else (some v47)) else (some v47)))))))))))
def kaT:Nat→Int→Int→Int→(((Int×Int×Bool)×Int×Int×Bool)→Option Int)→(List (Int×Int×Bool))→Option (List (Int×Int×Bool))
 | 0,_,_,_,_,_=>none
 | k+1,x0,x1,x2,x3,x4=>kdS (kaT k) x0 x1 x2 x3 x4
def kbc (x0:Int) (x1:Int) (x2:Int) (x3:(((Int×Int×Bool)×Int×Int×Bool)→Option Int)) (x4:(List (Int×Int×Bool))):Option (List (Int×Int×Bool)):=kaT 1000000 x0 x1 x2 x3 x4
def kel (x0:Int) (x1:(((Int×Int×Bool)×Int×Int×Bool)→Option Int)) (v0:(Int×Int×(List (Int×Int×Bool)))):Option ((Int×Int×(List (Int×Int×Bool)))⊕(Int×(List (Int×Int×Bool)))):=
 (if (decide (v0.1≤x0))=true then ((kaK v0.2.1 v0.1 x1 v0.2.2).bind fun v1=>(some (.inl ((w64 (v0.1+20)),v0.1,v1)))) else (some (.inr v0.2)))
def kef (x0:Int) (x1:(((Int×Int×Bool)×Int×Int×Bool)→Option Int)) (v4:(Int×(List (Int×Int×Bool)))) (v5:(Int×Int×(List (Int×Int×Bool)))):Option ((Int×Int×(List (Int×Int×Bool)))⊕(Int×(List (Int×Int×Bool)))):=
 (if (decide (v5.1≤x0))=true then ((kbc v5.2.1 (w64 (v5.2.1+v4.1)) v5.1 x1 v5.2.2).bind fun v6=>(some (.inl ((w64 (v5.1+(w64 (2*v4.1)))),v5.1,v6)))) else (some (.inr v5.2)))
def kej (x0:Int) (x1:(((Int×Int×Bool)×Int×Int×Bool)→Option Int)) (v4:(Int×(List (Int×Int×Bool)))):Option ((Int×(List (Int×Int×Bool)))⊕(List (Int×Int×Bool))):=
 (if (decide (v4.1<x0))=true then ((iter (kef x0 x1 v4) ((w64 (2*v4.1)),0,v4.2)).bind fun v7=>(if (decide ((w64 (v7.1+v4.1))<x0))=true then ((kbc v7.1 (w64 (v7.1+v4.1)) x0 x1 v7.2).bind fun v8=>(some (.inl ((w64 (v4.1*2)),v8)))) else (some (.inl ((w64 (v4.1*2)),v7.2))))) else (some (.inr v4.2)))
def kce (x0:Int) (x1:(((Int×Int×Bool)×Int×Int×Bool)→Option Int)) (x2:(List (Int×Int×Bool))):Option (List (Int×Int×Bool)):=
 ((iter (kel x0 x1) (20,0,x2)).bind fun v2=>((kaK v2.1 x0 x1 v2.2).bind fun v3=>((iter (kej x0 x1) (20,v3)).bind fun v9=>(some v9))))
def kbd (x0:(((Int×Int×Bool)×Int×Int×Bool)→Option Int)) (x1:(List (Int×Int×Bool))):Option (List (Int×Int×Bool)):=
 ((kce (lenI x1) x0 x1).bind fun v0=>(some v0))
def kdP (x0:(((Int×Int×Bool)×Int×Int×Bool)→Option Int)) (x1:(List (Int×Int×Bool))):Option (List (Int×Int×Bool)):=
 ((kbd x0 x1).bind fun v0=>(some v0))
def kmg (x0:Belt) (v2:(List (Int×(List Fed)))) (v3:(Int×(List (Int×Int×Bool)))):Option ((Int×(List (Int×Int×Bool)))⊕(((List (Int×Int×Bool))×Int)⊕(List (Int×Int×Bool)))):=
 (if (decide (v3.1<(lenI v2)))=true then ((gi v2 v3.1).bind fun v4=>(if (decide (0≤v4.1))=true then ((gi x0.2.2.2.1 v4.1).bind fun v5=>((gi v4.2 0).bind fun v6=>((gi v4.2 (w64 ((lenI v4.2)-1))).bind fun v7=>((gapp v3.2 [((w64 ((w64 (v6.1+v5.1))-x0.2.2.1)),v4.1,true),((w64 ((w64 (v7.1+v5.1))+1)),v4.1,false)]).bind fun v8=>(some (.inl ((v3.1+1),v8))))))) else (some (.inl ((v3.1+1),v3.2))))) else (some (.inr (.inr v3.2))))
def kkw (x0:Belt) (x1:(List Fed)):Option ((List (Int×Int×Bool))×Int):=
 ((kgT x0 x1).bind fun v0=>(if (v0.2 != 0)=true then (some ([],v0.2)) else ((kbM v0.1).bind fun v1=>((runI fun o=>(kaG o v1)).bind fun v2=>((iter (kmg x0 v2) (0,[])).bind fun v9=>(match v9 with | .inl v10=>(some v10) | .inr v11=>((kdP (fun (u0:((Int×Int×Bool)×Int×Int×Bool))=>((klE u0.1 u0.2).bind fun u1=>(some u1))) v11).bind fun v12=>(some (v12,0)))))))))
def law09_table:Option (List (List Int)):=
 (some [[900,50,50],[100,800,100]])
def kjd (v2:(List Int)) (v4:(Int×Int)):Option ((Int×Int)⊕Int):=
 (if (decide (v4.1<(lenI v2)))=true then ((gi v2 v4.1).bind fun v5=>(some (.inl ((w64 (v4.1+1)),(w64 (v4.2+v5)))))) else (some (.inr v4.2)))
def kjw (x0:(List (List Int))) (v1:Int):Option (Int⊕(Int⊕Unit)):=
 (if (decide (v1<(lenI x0)))=true then ((gi x0 v1).bind fun v2=>(if ((lenI v2) != (w64 ((lenI x0)+1)))=true then (some (.inr (.inl 8))) else ((kap 0 1000 v2).bind fun v3=>(if (!v3)=true then (some (.inr (.inl 8))) else ((iter (kjd v2) (0,0)).bind fun v6=>(if (v6 != 1000)=true then (some (.inr (.inl 8))) else (some (.inl (w64 (v1+1)))))))))) else (some (.inr (.inr ()))))
def khr (x0:(List (List Int))):Option Int:=
 ((kap 1 8 [(lenI x0)]).bind fun v0=>(if (!v0)=true then (some 8) else ((iter (kjw x0) 0).bind fun v7=>(match v7 with | .inl v8=>(some v8) | .inr v9=>(some 0)))))
def khW (rec_sort_chances_c1_m8:Int→Int→Int→(List Int)→Int→(List Int)→(List Int)→Option (Int×(List Int)×Int×(List Int)×(List Int))) (x0:Int) (x1:Int) (x6:(List Int)) (v5:(Int×(List Int)×Int×Int×(List Int)×(List Int))):Option ((Int×(List Int)×Int×Int×(List Int)×(List Int))⊕((List Int)×Int×Int×(List Int)×(List Int))):=
 (if (decide (v5.1<(lenI x6)))=true then ((gi x6 v5.1).bind fun v6=>(if (v6==0)=true then (some (.inl ((w64 (v5.1+1)),v5.2))) else ((gi v5.2.1 x0).bind fun v7=>((if (v5.1==v5.2.2.1)=true then ((gi (lset v5.2.1 x0 v5.1) x0).bind fun v8=>(some (lset (lset v5.2.1 x0 v5.1) x0 (-1)))) else (some (lset v5.2.1 x0 v5.1))).bind fun v9=>((rec_sort_chances_c1_m8 (w64 (x0+1)) (w64 (x1*v6)) v5.2.2.2.1 v9 v5.2.2.1 v5.2.2.2.2.1 v5.2.2.2.2.2).bind fun v10=>(some (.inl ((w64 (v5.1+1)),v10.2.1,v10.2.2.1,v10.1,v10.2.2.2)))))))) else (some (.inr v5.2)))
def kir (rec_sort_chances_c1_m8:Int→Int→Int→(List Int)→Int→(List Int)→(List Int)→Option (Int×(List Int)×Int×(List Int)×(List Int))) (x0:Int) (x1:Int) (x2:Int) (x3:(List Int)) (x4:Int) (x5:(List Int)) (x6:(List Int)):Option (Int×(List Int)×Int×(List Int)×(List Int)):=
 (if (x0==x2)=true then ((keY x3).bind fun v0=>((if (decide (v0<0))=true then (some x4) else (some v0)).bind fun v1=>((gi x5 v1).bind fun v2=>((gi x5 v1).bind fun v3=>((gi x5 v1).bind fun v4=>(some (x2,x3,x4,(lset x5 v1 (w64 (v3+x1))),x6))))))) else ((iter (khW rec_sort_chances_c1_m8 x0 x1 x6) (0,x3,x4,x2,x5,x6)).bind fun v11=>(some (v11.2.2.1,v11.1,v11.2.1,v11.2.2.2))))
def kdg:Nat→Int→Int→Int→(List Int)→Int→(List Int)→(List Int)→Option (Int×(List Int)×Int×(List Int)×(List Int))
 | 0,_,_,_,_,_,_,_=>none
 | k+1,x0,x1,x2,x3,x4,x5,x6=>kir (kdg k) x0 x1 x2 x3 x4 x5 x6
def kgd (x0:Int) (x1:Int) (x2:Int) (x3:(List Int)) (x4:Int) (x5:(List Int)) (x6:(List Int)):Option (Int×(List Int)×Int×(List Int)×(List Int)):=kdg 1000000 x0 x1 x2 x3 x4 x5 x6
def kiX (x0:(List Int)) (x1:Int):Option (List Int):=
 ((gmk (lenI x0) 0).bind fun v0=>((gmk x1 0).bind fun v1=>((kgd 0 1 x1 v1 (w64 ((lenI x0)-1)) v0 x0).bind fun v2=>(some v2.2.2.2.1))))
def kiW (x0:(List (List Int))) (x1:Int) (x2:Int):Option ((List Int)×Int):=
 ((khr x0).bind fun v0=>(if (v0 != 0)=true then (some ([],v0)) else ((kap 0 (w64 ((lenI x0)-1)) [x1]).bind fun v1=>(if (!v1)=true then (some ([],2)) else ((kap 1 5 [x2]).bind fun v2=>(if (!v2)=true then (some ([],2)) else ((gi x0 x1).bind fun v3=>((kiX v3 x2).bind fun v4=>(some (v4,0))))))))))
def kiM (x0:(List Int)) (x1:Int):Option Bool:=
 ((kap 2 8 [x1]).bind fun v0=>(if v0=true then ((kap 1 12 [(lenI x0)]).bind fun v1=>(if v1=true then ((kap 0 1000 x0).bind fun v2=>(some v2)) else (some false))) else (some false)))
def kgJ (x0:Pile) (x1:Pile):Option Int:=
 ((kiC [(w64 (x0.1-x1.1)),(w64 ((lenI x0.2)-(lenI x1.2)))]).bind fun v0=>(some v0))
def kbA (x0:(List Pile)) (x1:Pile) (x2:((Pile×Pile)→Option Int)) (v0:(Int×Int)):Option ((Int×Int)⊕Int):=
 (if (decide (v0.1<v0.2))=true then ((gshr .u64 (IntKind.wrap .u64 (w64 (v0.1+v0.2))) 1).bind fun v1=>((gi x0 (w64 v1)).bind fun v2=>((x2 (v2,x1)).bind fun v3=>(if (decide (v3<0))=true then (some (.inl ((w64 ((w64 v1)+1)),v0.2))) else (some (.inl (v0.1,(w64 v1)))))))) else (some (.inr v0.1)))
def kaH (x0:(List Pile)) (x1:Pile) (x2:((Pile×Pile)→Option Int)):Option (Int×Bool):=
 ((iter (kbA x0 x1 x2) (0,(lenI x0))).bind fun v4=>(if (decide (v4<(lenI x0)))=true then ((gi x0 v4).bind fun v5=>((x2 (v5,x1)).bind fun v6=>(some (v4,(v6==0))))) else (some (v4,false))))
def kcG (x0:Int) (x2:((Pile×Pile)→Option Int)) (v1:(Int×(List Pile))):Option ((Int×(List Pile))⊕(List Pile)):=
 (if (decide (x0<v1.1))=true then ((gi v1.2 v1.1).bind fun v2=>((gi v1.2 v1.1).bind fun v3=>((gi v1.2 (w64 (v1.1-1))).bind fun v4=>((gi v1.2 (w64 (v1.1-1))).bind fun v5=>((x2 (v3,v5)).bind fun v6=>(if (decide (v6<0))=true then ((gi v1.2 (w64 (v1.1-1))).bind fun v7=>((gi v1.2 (w64 (v1.1-1))).bind fun v8=>((gi v1.2 v1.1).bind fun v9=>((gi v1.2 v1.1).bind fun v10=>((gi v1.2 v1.1).bind fun v11=>((gi (lset v1.2 v1.1 v8) (w64 (v1.1-1))).bind fun v12=>(some (.inl ((w64 (v1.1-1)),(lset (lset v1.2 v1.1 v8) (w64 (v1.1-1)) v10)))))))))) else (some (.inr v1.2)))))))) else (some (.inr v1.2)))
def kcL (x0:Int) (x1:Int) (x2:((Pile×Pile)→Option Int)) (v0:(Int×(List Pile))):Option ((Int×(List Pile))⊕(List Pile)):=
 (if (decide (v0.1<x1))=true then ((iter (kcG x0 x2) v0).bind fun v13=>(some (.inl ((w64 (v0.1+1)),v13)))) else (some (.inr v0.2)))
def kaL (x0:Int) (x1:Int) (x2:((Pile×Pile)→Option Int)) (x3:(List Pile)):Option (List Pile):=
 ((iter (kcL x0 x1 x2) ((w64 (x0+1)),x3)).bind fun v14=>(some v14))
def kdc (x0:Int) (x1:Int) (x2:Int) (v0:(Int×(List Pile))):Option ((Int×(List Pile))⊕(List Pile)):=
 (if (decide (v0.1<x2))=true then ((gi v0.2 (w64 (x1+v0.1))).bind fun v1=>((gi v0.2 (w64 (x1+v0.1))).bind fun v2=>((gi v0.2 (w64 (x0+v0.1))).bind fun v3=>((gi v0.2 (w64 (x0+v0.1))).bind fun v4=>((gi v0.2 (w64 (x0+v0.1))).bind fun v5=>((gi (lset v0.2 (w64 (x0+v0.1)) v2) (w64 (x1+v0.1))).bind fun v6=>(some (.inl ((w64 (v0.1+1)),(lset (lset v0.2 (w64 (x0+v0.1)) v2) (w64 (x1+v0.1)) v4)))))))))) else (some (.inr v0.2)))
def kax (x0:Int) (x1:Int) (x2:Int) (x3:((Pile×Pile)→Option Int)) (x4:(List Pile)):Option (List Pile):=
 ((iter (kdc x0 x1 x2) (0,x4)).bind fun v7=>(some v7))
def kdT (x1:Int) (x3:((Pile×Pile)→Option Int)) (v0:(Int×Int×(List Pile))):Option ((Int×Int×(List Pile))⊕(Int×(List Pile))):=
 (if (v0.1 != v0.2.1)=true then (if (decide (v0.2.1<v0.1))=true then ((kax (w64 (x1-v0.1)) x1 v0.2.1 x3 v0.2.2).bind fun v1=>(some (.inl ((w64 (v0.1-v0.2.1)),v0.2.1,v1)))) else ((kax (w64 (x1-v0.1)) (w64 ((w64 (x1+v0.2.1))-v0.1)) v0.1 x3 v0.2.2).bind fun v2=>(some (.inl (v0.1,(w64 (v0.2.1-v0.1)),v2))))) else (some (.inr (v0.1,v0.2.2))))
def kbW (x0:Int) (x1:Int) (x2:Int) (x3:((Pile×Pile)→Option Int)) (x4:(List Pile)):Option (List Pile):=
 ((iter (kdT x1 x3) ((w64 (x1-x0)),(w64 (x2-x1)),x4)).bind fun v3=>((kax (w64 (x1-v3.1)) x1 v3.1 x3 v3.2).bind fun v4=>(some v4)))
def kdl (x0:Int) (x3:((Pile×Pile)→Option Int)) (x4:(List Pile)) (v0:(Int×Int)):Option ((Int×Int)⊕Int):=
 (if (decide (v0.1<v0.2))=true then ((gshr .u64 (IntKind.wrap .u64 (w64 (v0.1+v0.2))) 1).bind fun v1=>((gi x4 (w64 v1)).bind fun v2=>((gi x4 (w64 v1)).bind fun v3=>((gi x4 x0).bind fun v4=>((gi x4 x0).bind fun v5=>((x3 (v3,v5)).bind fun v6=>(if (decide (v6<0))=true then (some (.inl ((w64 ((w64 v1)+1)),v0.2))) else (some (.inl (v0.1,(w64 v1))))))))))) else (some (.inr v0.1)))
def kdq (v7:Int) (v8:(Int×(List Pile))):Option ((Int×(List Pile))⊕(List Pile)):=
 (if (decide (v8.1<(w64 (v7-1))))=true then ((gi v8.2 (w64 (v8.1+1))).bind fun v9=>((gi v8.2 (w64 (v8.1+1))).bind fun v10=>((gi v8.2 v8.1).bind fun v11=>((gi v8.2 v8.1).bind fun v12=>((gi v8.2 v8.1).bind fun v13=>((gi (lset v8.2 v8.1 v10) (w64 (v8.1+1))).bind fun v14=>(some (.inl ((w64 (v8.1+1)),(lset (lset v8.2 v8.1 v10) (w64 (v8.1+1)) v12)))))))))) else (some (.inr v8.2)))
def kdt (x1:Int) (x3:((Pile×Pile)→Option Int)) (x4:(List Pile)) (v16:(Int×Int)):Option ((Int×Int)⊕Int):=
 (if (decide (v16.1<v16.2))=true then ((gshr .u64 (IntKind.wrap .u64 (w64 (v16.1+v16.2))) 1).bind fun v17=>((gi x4 x1).bind fun v18=>((gi x4 x1).bind fun v19=>((gi x4 (w64 v17)).bind fun v20=>((gi x4 (w64 v17)).bind fun v21=>((x3 (v19,v21)).bind fun v22=>(if (!(decide (v22<0)))=true then (some (.inl ((w64 ((w64 v17)+1)),v16.2))) else (some (.inl (v16.1,(w64 v17))))))))))) else (some (.inr v16.1)))
def kdw (v23:Int) (v24:(Int×(List Pile))):Option ((Int×(List Pile))⊕(List Pile)):=
 (if (decide (v23<v24.1))=true then ((gi v24.2 (w64 (v24.1-1))).bind fun v25=>((gi v24.2 (w64 (v24.1-1))).bind fun v26=>((gi v24.2 v24.1).bind fun v27=>((gi v24.2 v24.1).bind fun v28=>((gi v24.2 v24.1).bind fun v29=>((gi (lset v24.2 v24.1 v26) (w64 (v24.1-1))).bind fun v30=>(some (.inl ((w64 (v24.1-1)),(lset (lset v24.2 v24.1 v26) (w64 (v24.1-1)) v28)))))))))) else (some (.inr v24.2)))
def kdx (x1:Int) (x3:((Pile×Pile)→Option Int)) (x4:(List Pile)) (v32:Int) (v34:(Int×Int)):Option ((Int×Int)⊕Int):=
 (if (decide (v34.1<v34.2))=true then ((gshr .u64 (IntKind.wrap .u64 (w64 (v34.1+v34.2))) 1).bind fun v35=>((gi x4 (w64 ((w64 ((w64 ((w64 v32)+x1))-1))-(w64 v35)))).bind fun v36=>((gi x4 (w64 ((w64 ((w64 ((w64 v32)+x1))-1))-(w64 v35)))).bind fun v37=>((gi x4 (w64 v35)).bind fun v38=>((gi x4 (w64 v35)).bind fun v39=>((x3 (v37,v39)).bind fun v40=>(if (!(decide (v40<0)))=true then (some (.inl ((w64 ((w64 v35)+1)),v34.2))) else (some (.inl (v34.1,(w64 v35))))))))))) else (some (.inr v34.1)))
def kdN (rec_slices_symMergeCmpFunc_sort_pile_m12:Int→Int→Int→((Pile×Pile)→Option Int)→(List Pile)→Option (List Pile)) (x0:Int) (x1:Int) (x2:Int) (x3:((Pile×Pile)→Option Int)) (x4:(List Pile)):Option (List Pile):=
 (if ((w64 (x1-x0))==1)=true then ((iter (kdl x0 x3 x4) (x1,x2)).bind fun v7=>((iter (kdq v7) (x0,x4)).bind fun v15=>(some v15))) else (if ((w64 (x2-x1))==1)=true then ((iter (kdt x1 x3 x4) (x0,x1)).bind fun v23=>((iter (kdw v23) (x1,x4)).bind fun v31=>(some v31))) else ((gshr .u64 (IntKind.wrap .u64 (w64 (x0+x2))) 1).bind fun v32=>((if (decide ((w64 v32)<x1))=true then (some ((w64 ((w64 ((w64 v32)+x1))-x2)),(w64 v32))) else (some (x0,x1))).bind fun v33=>((iter (kdx x1 x3 x4 v32) v33).bind fun v41=>((if (decide (v41<x1))=true then (some (decide (x1<(w64 ((w64 ((w64 v32)+x1))-v41))))) else (some false)).bind fun v42=>((if v42=true then ((kbW v41 x1 (w64 ((w64 ((w64 v32)+x1))-v41)) x3 x4).bind fun v43=>(some v43)) else (some x4)).bind fun v44=>((if (decide (x0<v41))=true then (some (decide (v41<(w64 v32)))) else (some false)).bind fun v45=>((if v45=true then ((rec_slices_symMergeCmpFunc_sort_pile_m12 x0 v41 (w64 v32) x3 v44).bind fun v46=>(some v46)) else (some v44)).bind fun v47=>(if (decide ((w64 v32)<(w64 ((w64 ((w64 v32)+x1))-v41))))=true then (if (decide ((w64 ((w64 ((w64 v32)+x1))-v41))<x2))=true then ((rec_slices_symMergeCmpFunc_sort_pile_m12 (w64 v32) (w64 ((w64 ((w64 v32)+x1))-v41)) x2 x3 v47).bind fun v48=>(some v48)) else (some v47)) else (some v47)))))))))))
def kaQ:Nat→Int→Int→Int→((Pile×Pile)→Option Int)→(List Pile)→Option (List Pile)
 | 0,_,_,_,_,_=>none
 | k+1,x0,x1,x2,x3,x4=>kdN (kaQ k) x0 x1 x2 x3 x4
def kaY (x0:Int) (x1:Int) (x2:Int) (x3:((Pile×Pile)→Option Int)) (x4:(List Pile)):Option (List Pile):=kaQ 1000000 x0 x1 x2 x3 x4
def kdX (x0:Int) (x1:((Pile×Pile)→Option Int)) (v0:(Int×Int×(List Pile))):Option ((Int×Int×(List Pile))⊕(Int×(List Pile))):=
 (if (decide (v0.1≤x0))=true then ((kaL v0.2.1 v0.1 x1 v0.2.2).bind fun v1=>(some (.inl ((w64 (v0.1+20)),v0.1,v1)))) else (some (.inr v0.2)))
def kdW (x0:Int) (x1:((Pile×Pile)→Option Int)) (v4:(Int×(List Pile))) (v5:(Int×Int×(List Pile))):Option ((Int×Int×(List Pile))⊕(Int×(List Pile))):=
 (if (decide (v5.1≤x0))=true then ((kaY v5.2.1 (w64 (v5.2.1+v4.1)) v5.1 x1 v5.2.2).bind fun v6=>(some (.inl ((w64 (v5.1+(w64 (2*v4.1)))),v5.1,v6)))) else (some (.inr v5.2)))
def kdV (x0:Int) (x1:((Pile×Pile)→Option Int)) (v4:(Int×(List Pile))):Option ((Int×(List Pile))⊕(List Pile)):=
 (if (decide (v4.1<x0))=true then ((iter (kdW x0 x1 v4) ((w64 (2*v4.1)),0,v4.2)).bind fun v7=>(if (decide ((w64 (v7.1+v4.1))<x0))=true then ((kaY v7.1 (w64 (v7.1+v4.1)) x0 x1 v7.2).bind fun v8=>(some (.inl ((w64 (v4.1*2)),v8)))) else (some (.inl ((w64 (v4.1*2)),v7.2))))) else (some (.inr v4.2)))
def kbX (x0:Int) (x1:((Pile×Pile)→Option Int)) (x2:(List Pile)):Option (List Pile):=
 ((iter (kdX x0 x1) (20,0,x2)).bind fun v2=>((kaL v2.1 x0 x1 v2.2).bind fun v3=>((iter (kdV x0 x1) (20,v3)).bind fun v9=>(some v9))))
def kbb (x0:((Pile×Pile)→Option Int)) (x1:(List Pile)):Option (List Pile):=
 ((kbX (lenI x1) x0 x1).bind fun v0=>(some v0))
def kdB (x0:((Pile×Pile)→Option Int)) (x1:(List Pile)):Option (List Pile):=
 ((kbb x0 x1).bind fun v0=>(some v0))
def knz (x0:(List Int)) (v1:(Int×(List Pile))):Option ((Int×(List Pile))⊕(List Pile)):=
 (if (decide (v1.1<(lenI x0)))=true then ((gi x0 v1.1).bind fun v2=>((gapp v1.2 [(v2,[v1.1])]).bind fun v3=>(some (.inl ((w64 (v1.1+1)),v3))))) else (some (.inr v1.2)))
def knF (x1:Int) (v5:(List Pile)):Option ((List Pile)⊕(List Pile)):=
 ((grem (w64 ((lenI v5)-1)) (w64 (x1-1))).bind fun v6=>(if (v6 != 0)=true then ((gapp v5 [(0,[])]).bind fun v7=>(some (.inl v7))) else (some (.inr v5))))
def knJ (x1:Int) (v11:(Int×(List Pile)×(List Int))) (v13:Fed):Option (Fed⊕Pile):=
 (if (decide (v13.1<(x1-0)))=true then ((gmi 0 (x1-0) v13.1).bind fun v14=>((gi v11.2.1 v14).bind fun v15=>((gapp v13.2.2 v15.2).bind fun v16=>(some (.inl ((w64 (v13.1+1)),(w64 (v13.2.1+v15.1)),v16)))))) else (some (.inr v13.2)))
def kow (v17:Pile) (v18:Pile):Option (Pile⊕(List Int)):=
 (if (decide (v18.1<(lenI v17.2)))=true then ((gi v17.2 v18.1).bind fun v19=>((gi v17.2 v18.1).bind fun v20=>((gi v18.2 v20).bind fun v21=>((gi v18.2 v20).bind fun v22=>((gi v18.2 v20).bind fun v23=>(some (.inl ((w64 (v18.1+1)),(lset v18.2 v20 (w64 (v22+1))))))))))) else (some (.inr v18.2)))
def koV (x1:Int) (v11:(Int×(List Pile)×(List Int))):Option ((Int×(List Pile)×(List Int))⊕Pile):=
 (if (decide (1<(lenI v11.2.1)))=true then ((gsl v11.2.1 0 x1).bind fun v12=>((iter (knJ x1 v11) (0,0,[])).bind fun v17=>((iter (kow v17) (0,v11.2.2)).bind fun v24=>((gsl v11.2.1 x1 (lenI v11.2.1)).bind fun v25=>((kaH ((List.drop (Int.toNat x1) v11.2.1).take (Int.toNat ((lenI v11.2.1)-x1))) v17 (fun (u0:(Pile×Pile))=>((kgJ u0.1 u0.2).bind fun u1=>(some u1)))).bind fun v26=>((gmk (w64 (((lenI v11.2.1)-x1)+1)) (0,[])).bind fun v27=>((gmb ((lenI v11.2.1)-x1) 0 v26.1).bind fun v28=>((gi (lcopy v27 0 (lenI v27) ((List.drop (Int.toNat (x1+0)) v11.2.1).take (Int.toNat (v26.1-0)))) v26.1).bind fun v29=>((gsl (lset (lcopy v27 0 (lenI v27) ((List.drop (Int.toNat (x1+0)) v11.2.1).take (Int.toNat (v26.1-0)))) v26.1 v17) (w64 (v26.1+1)) (lenI (lset (lcopy v27 0 (lenI v27) ((List.drop (Int.toNat (x1+0)) v11.2.1).take (Int.toNat (v26.1-0)))) v26.1 v17))).bind fun v30=>((gmb ((lenI v11.2.1)-x1) v26.1 ((lenI v11.2.1)-x1)).bind fun v31=>(some (.inl ((w64 (v11.1+v17.1)),(kto (lset (lcopy v27 0 (lenI v27) ((List.drop (Int.toNat (x1+0)) v11.2.1).take (Int.toNat (v26.1-0)))) v26.1 v17) ((w64 (v26.1+1)),((lenI (lset (lcopy v27 0 (lenI v27) ((List.drop (Int.toNat (x1+0)) v11.2.1).take (Int.toNat (v26.1-0)))) v26.1 v17))-(w64 (v26.1+1)))) ((List.drop (Int.toNat (x1+v26.1)) v11.2.1).take (Int.toNat (((lenI v11.2.1)-x1)-v26.1)))),v24))))))))))))) else (some (.inr (v11.1,v11.2.2))))
def knf (x0:(List Int)) (x1:Int):Option ((List Int)×Int×Int):=
 ((kiM x0 x1).bind fun v0=>(if (!v0)=true then (some ([],0,2)) else ((iter (knz x0) (0,[])).bind fun v4=>((iter (knF x1) v4).bind fun v8=>((gmk (lenI x0) 0).bind fun v9=>((kdB (fun (u0:(Pile×Pile))=>((kgJ u0.1 u0.2).bind fun u1=>(some u1))) v8).bind fun v10=>((iter (koV x1) (0,v10,v9)).bind fun v32=>(some (v32.2,v32.1,0)))))))))
def kjM (x0:(List (Int×Int×Int))) (x1:(List (Int×Int×Int))) (v0:Int):Option (Int⊕(Bool⊕Unit)):=
 (if (decide (v0<(lenI x0)))=true then ((gi x0 v0).bind fun v1=>((gi x1 v0).bind fun v2=>(if (!((v1.1==v2.1)&&((v1.2.1==v2.2.1)&&(v1.2.2==v2.2.2))))=true then (some (.inr (.inl false))) else (some (.inl (w64 (v0+1))))))) else (some (.inr (.inr ()))))
def kfi (x0:(List (Int×Int×Int))) (x1:(List (Int×Int×Int))):Option Bool:=
 (if ((lenI x0) != (lenI x1))=true then (some false) else ((iter (kjM x0 x1) 0).bind fun v3=>(match v3 with | .inl v4=>(some v4) | .inr v5=>(some true))))
def kiS (x0:(List (Int×Int×Bool))) (x1:(List (Int×Int×Bool))) (v0:Int):Option (Int⊕(Bool⊕Unit)):=
 (if (decide (v0<(lenI x0)))=true then ((gi x0 v0).bind fun v1=>((gi x1 v0).bind fun v2=>(if (!((v1.1==v2.1)&&((v1.2.1==v2.2.1)&&(v1.2.2==v2.2.2))))=true then (some (.inr (.inl false))) else (some (.inl (w64 (v0+1))))))) else (some (.inr (.inr ()))))
def kgU (x0:(List (Int×Int×Bool))) (x1:(List (Int×Int×Bool))):Option Bool:=
 (if ((lenI x0) != (lenI x1))=true then (some false) else ((iter (kiS x0 x1) 0).bind fun v3=>(match v3 with | .inl v4=>(some v4) | .inr v5=>(some true))))
def kkc (x0:(List Int)) (x1:(List Int)) (v0:Int):Option (Int⊕(Bool⊕Unit)):=
 (if (decide (v0<(lenI x0)))=true then ((gi x0 v0).bind fun v1=>((gi x1 v0).bind fun v2=>(if (v1 != v2)=true then (some (.inr (.inl false))) else (some (.inl (w64 (v0+1))))))) else (some (.inr (.inr ()))))
def khL (x0:(List Int)) (x1:(List Int)):Option Bool:=
 (if ((lenI x0) != (lenI x1))=true then (some false) else ((iter (kkc x0 x1) 0).bind fun v3=>(match v3 with | .inl v4=>(some v4) | .inr v5=>(some true))))
def kjH:Option Bool:=
 (law09_belt.bind fun v0=>((kcw 0 0).bind fun v1=>((kcw 6 1).bind fun v2=>((kcw 12 2).bind fun v3=>((keV v0 [v1,v2,v3]).bind fun v4=>(law09_belt.bind fun v5=>((kcw 0 0).bind fun v6=>((kcw 4 1).bind fun v7=>((keV v5 [v6,v7]).bind fun v8=>(law09_belt.bind fun v9=>((kcw 0 0).bind fun v10=>((kcw 6 1).bind fun v11=>((kcw 12 2).bind fun v12=>((kkw v9 [v10,v11,v12]).bind fun v13=>(law09_table.bind fun v14=>((kiW v14 0 2).bind fun v15=>((knf [5,4,3] 2).bind fun v16=>(if (v4.2 != 0)=true then (some false) else ((kfi v4.1 [(0,0,10),(1,1,21),(2,(-1),32)]).bind fun v17=>(if (!v17)=true then (some false) else (if (v8.2 != 0)=true then (some false) else ((kfi v8.1 [(0,(-1),20),(1,(-1),24)]).bind fun v18=>(if (!v18)=true then (some false) else (if (v13.2==0)=true then ((kgU v13.1 [(8,0,true),(11,0,false),(19,1,true),(22,1,false)]).bind fun v19=>(if v19=true then (if (v15.2==0)=true then ((khL v15.1 [900000,7500,92500]).bind fun v20=>(if v20=true then (if (v16.2.2==0)=true then (some (v16.2.1==19)) else (some false)) else (some false))) else (some false)) else (some false))) else (some false)))))))))))))))))))))))))
def law09_alive:Option Bool:=some true
theorem ksk:kjH=law09_alive:=by kernel_rfl
def keC (x1:(List Fed)) (v0:Int):Option (Int⊕(Bool⊕Unit)):=
 (if (decide (v0<(lenI x1)))=true then ((gi x1 v0).bind fun v1=>(if (decide (20<(lenI v1.2.2)))=true then (some (.inr (.inl true))) else (some (.inl (w64 (v0+1)))))) else (some (.inr (.inr ()))))
def kfQ (x0:Belt) (x1:(List Fed)):Option Bool:=
 (if (decide (12<(lenI x0.2.2.2.1)))=true then (some true) else (if (decide (30<(lenI x0.2.2.2.2)))=true then (some true) else (if (decide (60<(lenI x1)))=true then (some true) else ((iter (keC x1) 0).bind fun v2=>(match v2 with | .inl v3=>(some v3) | .inr v4=>(some false))))))
def kat (x0:Int) (x1:Int) (x2:Int):Option Bool:=
 (if (decide (x1≤x0))=true then (some (decide (x0≤x2))) else (some false))
def kcO (x0:Belt) (x1:Int) (v0:Int):Option (Int⊕(Int⊕Unit)):=
 (if (decide (v0<(lenI x0.2.2.2.1)))=true then ((gi x0.2.2.2.1 v0).bind fun v1=>(if (v1.2==x1)=true then (some (.inr (.inl v0))) else (some (.inl (w64 (v0+1)))))) else (some (.inr (.inr ()))))
def kcF (x0:Belt) (x1:Int):Option Int:=
 ((iter (kcO x0 x1) 0).bind fun v2=>(match v2 with | .inl v3=>(some v3) | .inr v4=>(some (-1))))
def kdo (x0:Belt) (v3:Int):Option (Int⊕(Bool⊕Unit)):=
 (if (decide (v3<(lenI x0.2.2.2.1)))=true then ((gi x0.2.2.2.1 v3).bind fun v4=>((kat v4.1 (w64 (x0.2.1+1)) (w64 (x0.1-1))).bind fun v5=>(if (!v5)=true then (some (.inr (.inl false))) else (if (decide (0<v3))=true then ((gi x0.2.2.2.1 (w64 (v3-1))).bind fun v6=>(if (decide (v4.1≤v6.1))=true then (some (.inr (.inl false))) else ((kat v4.2 0 7).bind fun v7=>(if (!v7)=true then (some (.inr (.inl false))) else ((kcF x0 v4.2).bind fun v8=>(if (v8 != v3)=true then (some (.inr (.inl false))) else (some (.inl (w64 (v3+1)))))))))) else ((kat v4.2 0 7).bind fun v9=>(if (!v9)=true then (some (.inr (.inl false))) else ((kcF x0 v4.2).bind fun v10=>(if (v10 != v3)=true then (some (.inr (.inl false))) else (some (.inl (w64 (v3+1)))))))))))) else (some (.inr (.inr ()))))
def kdv (x0:Belt) (v14:Int):Option (Int⊕(Bool⊕Unit)):=
 (if (decide (v14<16))=true then ((gi x0.2.2.2.2 v14).bind fun v15=>((kat v15 (-1) 7).bind fun v16=>(if (!v16)=true then (some (.inr (.inl false))) else (some (.inl (w64 (v14+1))))))) else (some (.inr (.inr ()))))
def kgp (x0:Belt):Option Bool:=
 ((kat x0.1 2 100).bind fun v0=>(if (!v0)=true then (some false) else ((kat x0.2.1 0 (w64 (x0.1-2))).bind fun v1=>(if (!v1)=true then (some false) else ((kat x0.2.2.1 0 10).bind fun v2=>(if (!v2)=true then (some false) else (if (decide (8<(lenI x0.2.2.2.1)))=true then (some false) else (if ((lenI x0.2.2.2.2) != 16)=true then (some false) else ((iter (kdo x0) 0).bind fun v11=>(match v11 with | .inl v12=>(some v12) | .inr v13=>((iter (kdv x0) 0).bind fun v17=>(match v17 with | .inl v18=>(some v18) | .inr v19=>(some true)))))))))))))
def keQ (x0:(List Int)) (v1:Int):Option (Int⊕(Bool⊕Unit)):=
 (if (decide (v1<(lenI x0)))=true then ((gi x0 v1).bind fun v2=>((kat v2 (-1) 15).bind fun v3=>(if (!v3)=true then (some (.inr (.inl false))) else (some (.inl (w64 (v1+1))))))) else (some (.inr (.inr ()))))
def kfg (x0:(List Int)):Option Bool:=
 ((kat (lenI x0) 1 9).bind fun v0=>(if (!v0)=true then (some false) else ((iter (keQ x0) 0).bind fun v4=>(match v4 with | .inl v5=>(some v5) | .inr v6=>(some true)))))
def kcM (x0:(List Fed)) (v0:Int):Option (Int⊕(Bool⊕Unit)):=
 (if (decide (v0<(lenI x0)))=true then ((gi x0 v0).bind fun v1=>((kat v1.1 0 1000).bind fun v2=>(if (!v2)=true then (some (.inr (.inl false))) else (if (decide (0<v0))=true then ((gi x0 (w64 (v0-1))).bind fun v3=>(if (decide (v1.1≤v3.1))=true then (some (.inr (.inl false))) else ((kat v1.2.1 0 15).bind fun v4=>(if (!v4)=true then (some (.inr (.inl false))) else ((kfg v1.2.2).bind fun v5=>(if (!v5)=true then (some (.inr (.inl false))) else (some (.inl (w64 (v0+1)))))))))) else ((kat v1.2.1 0 15).bind fun v6=>(if (!v6)=true then (some (.inr (.inl false))) else ((kfg v1.2.2).bind fun v7=>(if (!v7)=true then (some (.inr (.inl false))) else (some (.inl (w64 (v0+1)))))))))))) else (some (.inr (.inr ()))))
def kfN (x0:(List Fed)):Option Bool:=
 (if (decide (40<(lenI x0)))=true then (some false) else ((iter (kcM x0) 0).bind fun v8=>(match v8 with | .inl v9=>(some v9) | .inr v10=>(some true))))
def kbH (x0:Belt) (x1:(List Fed)) (v0:Bool) (v4:Int):Option (Int⊕(Bool⊕Unit)):=
 (if (decide (v4<(lenI x1)))=true then ((gi x1 v4).bind fun v5=>((gi x1 (w64 (v4-1))).bind fun v6=>(if (decide ((w64 (v5.1-v6.1))≤(w64 ((w64 (2*x0.2.2.1))+1))))=true then (some (.inr (.inl v0))) else (some (.inl (w64 (v4+1))))))) else (some (.inr (.inr ()))))
def kbF (x0:Belt) (v10:((List (Int×Int×Int))×Int)) (v11:Int):Option (Int⊕(Bool⊕Unit)):=
 (if (decide (v11<(lenI v10.1)))=true then ((gi v10.1 v11).bind fun v12=>(if (decide (v12.1<0))=true then (some (.inl (w64 (v11+1)))) else (if (decide ((lenI x0.2.2.2.2)≤v12.1))=true then (some (.inl (w64 (v11+1)))) else ((gi x0.2.2.2.2 v12.1).bind fun v13=>((kcF x0 v13).bind fun v14=>(if (decide (0≤v13))=true then (if (decide (0≤v14))=true then ((gi x0.2.2.2.1 v14).bind fun v15=>(if (decide ((w64 ((w64 (3*x0.2.2.1))+1))≤(w64 (v15.1-x0.2.1))))=true then (if (v12.2.1 != v13)=true then (some (.inr (.inl false))) else (some (.inl (w64 (v11+1))))) else (some (.inl (w64 (v11+1)))))) else (some (.inl (w64 (v11+1))))) else (some (.inl (w64 (v11+1)))))))))) else (some (.inr (.inr ()))))
def kfh (x0:Belt) (x1:(List Fed)):Option Bool:=
 (law09_alive.bind fun v0=>((kfQ x0 x1).bind fun v1=>(if v1=true then (some v0) else ((kgp x0).bind fun v2=>(if (!v2)=true then (some v0) else ((kfN x1).bind fun v3=>(if (!v3)=true then (some v0) else (if (!v0)=true then (some v0) else ((iter (kbH x0 x1 v0) 1).bind fun v7=>(match v7 with | .inl v8=>(some v8) | .inr v9=>((keV x0 x1).bind fun v10=>(if (v10.2 != 0)=true then (some false) else (if ((lenI v10.1) != (lenI x1))=true then (some false) else ((iter (kbF x0 v10) 0).bind fun v16=>(match v16 with | .inl v17=>(some v17) | .inr v18=>(some v0))))))))))))))))
end Go.Abs
set_option maxRecDepth 100000
namespace Go.Abs
open Go Go.Proofs
def kjv:Ctr:=⟨ "",[],[tBelt],fun x=>law09_belt,[],[]⟩
theorem kmb:Good Try.prog 77 kjv:=
 kah Try.func77 (by kernel_rfl) (An:=[(0,⟨⟨[(8,.c (.i .i64)),(1,.ptr 8 0)],[(8,.bx 25 [.c (.i .i64),.c (.i .i64),.c (.i .i64),.mw 3,.mw 5]),(5,.sl 3 (.i .i64))]⟩,⟨[(1,.ptr 9 0)],[(9,.bx 25 [.c (.i .i64),.c (.i .i64),.c (.i .i64),.mw 3,.mw 10]),(10,.sl 3 (.i .i64))]⟩,[0],[3,2,0,1],11,false,""⟩),(49,⟨⟨[],[]⟩,⟨[(3,.c (.i .i64))],[]⟩,[2,1,8],[8,5],9,false,""⟩)]) [] (.nil) (fun x=>by kernel_rfl)
def kkD:Ctr:=⟨ "",[(.i .i64),(.i .i64)],[tFed],fun x=>kcw x.1 x.2,[],[]⟩
theorem kme:Good Try.prog 78 kkD:=
 kah Try.func78 (by kernel_rfl) (An:=[]) [] (.nil) (fun x=>by kernel_rfl)
def kia:Ctr:=⟨ "",[(.i .i64),(.pt (.i .i64)),(.pt (.i .i64))],[.b],fun x=>kfe x.1 x.2.1 x.2.2,[],[]⟩
theorem kkd:Good Try.prog 82 kia:=
 kah Try.func82 (by kernel_rfl) (An:=[]) [] (.nil) (fun x=>by kernel_rfl)
def kcU:Ctr:=⟨ "",[(.sl (.i .i64)),(.fn 1 (.i .i64) .b)],[(.i .i64)],fun x=>kbR x.1 x.2,[],[]⟩
theorem keZ:Good Try.prog 93 kcU:=
 kah Try.func93 (by kernel_rfl) (An:=[(0,⟨⟨[(8,.c (.i .i64))],[]⟩,⟨[],[]⟩,[7,1,0],[],0,true,""⟩)]) [] (.nil) (fun x=>by kernel_rfl)
def kco:Ctr:=⟨ "",[(.sl (.i .i64)),(.fn 1 (.i .i64) .b)],[.b],fun x=>kaV x.1 x.2,[],[]⟩
theorem keF:Good Try.prog 81 kco:=
 kah Try.func81 (by kernel_rfl) (An:=[]) [(93,kcU)] (.cons keZ <| .nil) (fun x=>by kernel_rfl)
def kcE:Ctr:=⟨ "",[(.i .i64),(.i .i64),(.sl (.i .i64))],[.b],fun x=>kap x.1 x.2.1 x.2.2,[],[]⟩
theorem kcj:Good Try.prog 54 kcE:=
 kah Try.func54 (by kernel_rfl) (An:=[]) [(81,kco),(82,kia)] (.cons keF <| .cons kkd <| .nil) (fun x=>by kernel_rfl)
def khb:Ctr:=⟨ "",[tBelt],[(.i .i64)],fun x=>kev x,[],[]⟩
theorem kiR:Good Try.prog 18 khb:=
 kah Try.func18 (by kernel_rfl) (An:=[(0,⟨⟨[(52,.c (.i .i64)),(3,.c (.i .i64)),(4,.mp 4)],[(4,.mp (.i .i64) .b)]⟩,⟨[],[]⟩,[51,50,1],[0],5,true,""⟩)]) [(54,kcE)] (.cons kcj <| .nil) (fun x=>by kernel_rfl)
def kko:Ctr:=⟨ "",[(.sl (.i .i64))],[.b],fun x=>khj x,[],[]⟩
theorem kmC:Good Try.prog 50 kko:=
 kah Try.func50 (by kernel_rfl) (An:=[]) [(54,kcE)] (.cons kcj <| .nil) (fun x=>by kernel_rfl)
def khk:Ctr:=⟨ "",[(.sl tFed)],[(.i .i64)],fun x=>keP x,[],[]⟩
theorem kja:Good Try.prog 20 khk:=
 kah Try.func20 (by kernel_rfl) (An:=[(0,⟨⟨[(11,.c (.i .i64)),(3,.c (.i .i64))],[]⟩,⟨[],[]⟩,[10,9],[],0,true,""⟩)]) [(50,kko),(54,kcE)] (.cons kmC <| .cons kcj <| .nil) (fun x=>by kernel_rfl)
def kiE:Ctr:=⟨ "",[tBelt,(.sl tFed)],[(.op tLine),(.i .i64)],fun x=>kgT x.1 x.2,[],[]⟩
theorem kiP:Good Try.prog 59 kiE:=
 kah Try.func59 (by kernel_rfl) (An:=[(41,⟨⟨[],[]⟩,⟨[(6,.c (.i .i64))],[]⟩,[1,2],[0],1,false,""⟩)]) [(20,khk),(18,khb)] (.cons kja <| .cons kiR <| .nil) (fun x=>by kernel_rfl)
def kfR:Ctr:=⟨ "",[(.sl (.i .i64))],[(.i .i64)],fun x=>keY x,[],[]⟩
theorem kfI:Good Try.prog 51 kfR:=
 kah Try.func51 (by kernel_rfl) (An:=[(0,⟨⟨[(12,.c (.i .i64)),(3,.ptr 0 0)],[(0,.el 130 (.ar 16 (.i .i64)))]⟩,⟨[(3,.ptr 1 0)],[(1,.el 130 (.ar 16 (.i .i64)))]⟩,[11,10],[],2,false,""⟩),(8,⟨⟨[(25,.c (.i .i64)),(7,.c (.i .i64)),(6,.c (.i .i64))],[]⟩,⟨[(6,.c (.i .i64))],[]⟩,[24],[],2,false,""⟩)]) [] (.nil) (fun x=>by kernel_rfl)
def kft:Ctr:=⟨ "",[(.pr (.i .i64) (.i .i64)),(.pt (.op tLine)),(.pt (.i .i64))],[.b],fun x=>keE x.1 x.2.1 x.2.2,[],[]⟩
theorem khG:Good Try.prog 103 kft:=
 kah Try.func103 (by kernel_rfl) (An:=[]) [] (.nil) (fun x=>by kernel_rfl)
def kbC:Ctr:=⟨ "",[(.sl (.pr (.i .i64) (.i .i64))),(.fn 1 (.pr (.i .i64) (.i .i64)) .b)],[(.i .i64)],fun x=>kaB x.1 x.2,[],[]⟩
theorem kcY:Good Try.prog 102 kbC:=
 kah Try.func102 (by kernel_rfl) (An:=[(0,⟨⟨[(8,.c (.i .i64))],[]⟩,⟨[],[]⟩,[7,1,0],[],0,true,""⟩)]) [] (.nil) (fun x=>by kernel_rfl)
def keS:Ctr:=⟨ "",[(.op tLine),tFed],[(.i .i64)],fun x=>kcV x.1 x.2,[],[]⟩
theorem kfu:Good Try.prog 95 keS:=
 kah Try.func95 (by kernel_rfl) (An:=[]) [(102,kbC),(103,kft),(51,kfR)] (.cons kcY <| .cons khG <| .cons kfI <| .nil) (fun x=>by kernel_rfl)
def keX:Ctr:=⟨ "",[tFed,(.pt (.op tLine)),(.pt (.i .i64))],[.b],fun x=>kdI x.1 x.2.1 x.2.2,[],[]⟩
theorem khe:Good Try.prog 96 keX:=
 kah Try.func96 (by kernel_rfl) (An:=[]) [(95,keS)] (.cons kfu <| .nil) (fun x=>by kernel_rfl)
def kbG:Ctr:=⟨ "",[(.sl tFed),(.fn 1 tFed .b)],[(.i .i64)],fun x=>kbg x.1 x.2,[],[]⟩
theorem kdz:Good Try.prog 104 kbG:=
 kah Try.func104 (by kernel_rfl) (An:=[(0,⟨⟨[(8,.c (.i .i64))],[]⟩,⟨[],[]⟩,[7,1,0],[],0,true,""⟩)]) [] (.nil) (fun x=>by kernel_rfl)
def kby:Ctr:=⟨ "",[(.sl tFed),(.fn 1 tFed .b)],[.b],fun x=>kaw x.1 x.2,[],[]⟩
theorem kcS:Good Try.prog 97 kby:=
 kah Try.func97 (by kernel_rfl) (An:=[]) [(104,kbG)] (.cons kdz <| .nil) (fun x=>by kernel_rfl)
def kgb:Ctr:=⟨ "",[(.op tLine),(.sl tFed)],[(.i .i64)],fun x=>kdi x.1 x.2,[],[]⟩
theorem khX:Good Try.prog 89 kgb:=
 kah Try.func89 (by kernel_rfl) (An:=[(7,⟨⟨[],[]⟩,⟨[],[]⟩,[0],[0],0,false,""⟩)]) [(97,kby),(96,keX),(95,keS)] (.cons kcS <| .cons khe <| .cons kfu <| .nil) (fun x=>by kernel_rfl)
def keD:CtrI:=⟨ "",[(.pt (.op tLine))],[(.i .i64),(.sl tFed)],fun x=>runI fun o=>kaG o x⟩
theorem kgg:GoodI Try.prog 88 keD:=
 krZ Try.func88 (by kernel_rfl) (An:=[(0,⟨⟨[(3,.c (.sl tFed)),(9000000,.gs (.pr (.i .i64) (.sl tFed)))],[]⟩,⟨[(9000000,.gs (.pr (.i .i64) (.sl tFed)))],[]⟩,[1],[],1,true,""⟩),(8,⟨⟨[(4,.c (.i .i64))],[]⟩,⟨[(4,.c (.i .i64))],[]⟩,[3,9000000],[],1,false,""⟩)]) [(89,kgb)] (.cons khX <| .nil) (fun x=>by kernel_rfl)
def kbB:Ctr:=⟨ "",[],[],fun _=>none,[],[keD]⟩
theorem kbP:Good Try.prog 88 kbB:=good_dm.moreI kgg
def sort_line_clusters_m0_M:CtrM:=⟨ "",[some (.op tLine)],⟨[],[]⟩,0,⟨[(1000000,.fn 88 [.ptr 0 0])],[(0,.bx 100 [.c (.op tLine)])]⟩,1,1,fun x=>kbM x⟩
theorem kgh:sort_line_clusters_m0_M.ok=true∧GoodM Try.prog 70 sort_line_clusters_m0_M:=
 kbf Try.func70 (by kernel_rfl) (An:=[]) [(88,kbB)] (.cons kbP <| .nil) (fun x=>by kernel_rfl)
def sort_line_clusters_C:Ctr:=⟨ "",[],[],fun _=>none,[],[]⟩
theorem sort_line_clusters_C_ok:Good Try.prog 70 sort_line_clusters_C:=good_dm
def kcW:Ctr:=⟨ "",sort_line_clusters_C.as,sort_line_clusters_C.rs,sort_line_clusters_C.F,sort_line_clusters_m0_M::sort_line_clusters_C.mus,sort_line_clusters_C.its⟩
theorem kee:Good Try.prog 70 kcW:=sort_line_clusters_C_ok.more kgh
def khE:Ctr:=⟨ "",[tBelt,(.sl tFed)],[(.sl (.pr (.i .i64) (.pr (.i .i64) (.i .i64)))),(.i .i64)],fun x=>keV x.1 x.2,[],[]⟩
theorem kib:Good Try.prog 39 khE:=
 kah Try.func39 (by kernel_rfl) (An:=[(0,⟨⟨[],[(3,.bx 57 [.mw 2]),(2,.sl 86 (.pr (.i .i64) (.pr (.i .i64) (.i .i64))))]⟩,⟨[],[(3,.bx 57 [.mw 6]),(6,.sl 86 (.pr (.i .i64) (.pr (.i .i64) (.i .i64))))]⟩,[24,8,2],[0],7,false,""⟩),(8,⟨⟨[(29,.c (.i .i64))],[(3,.bx 57 [.mw 2]),(2,.sl 86 (.pr (.i .i64) (.pr (.i .i64) (.i .i64))))]⟩,⟨[],[(3,.bx 57 [.mw 6]),(6,.sl 86 (.pr (.i .i64) (.pr (.i .i64) (.i .i64))))]⟩,[28,27,9],[],7,false,""⟩),(47,⟨⟨[],[]⟩,⟨[],[]⟩,[0,6,5,3,2],[0,6,5,3,2],0,false,""⟩),(55,⟨⟨[],[]⟩,⟨[],[]⟩,[0,7,6,5,3,2],[0,6,5,3,2],0,false,""⟩)]) [(70,kcW),(88,kbB),(51,kfR),(59,kiE)] (.cons kee <| .cons kbP <| .cons kfI <| .cons kiP <| .nil) (fun x=>by kernel_rfl)
def khs:Ctr:=⟨ "",[(.i .i64)],[.b],fun x=>kgi x,[],[]⟩
theorem kjb:Good Try.prog 99 khs:=
 kah Try.func99 (by kernel_rfl) (An:=[]) [] (.nil) (fun x=>by kernel_rfl)
def kgm:Ctr:=⟨ "",[(.i .i64),(.i .i64)],[(.i .i64)],fun x=>kfq x.1 x.2,[],[]⟩
theorem kiw:Good Try.prog 92 kgm:=
 kah Try.func92 (by kernel_rfl) (An:=[]) [(99,khs)] (.cons kjb <| .nil) (fun x=>by kernel_rfl)
def kgY:Ctr:=⟨ "",[(.sl (.i .i64))],[(.i .i64)],fun x=>kiC x,[],[]⟩
theorem khp:Good Try.prog 67 kgY:=
 kah Try.func67 (by kernel_rfl) (An:=[(0,⟨⟨[(8,.c (.i .i64))],[]⟩,⟨[],[]⟩,[7,6,3],[],0,true,""⟩)]) [] (.nil) (fun x=>by kernel_rfl)
def kjx:Ctr:=⟨ "",[(.pr (.i .i64) (.pr (.i .i64) .b)),(.pr (.i .i64) (.pr (.i .i64) .b))],[(.i .i64)],fun x=>klE x.1 x.2,[],[]⟩
theorem klr:Good Try.prog 73 kjx:=
 kah Try.func73 (by kernel_rfl) (An:=[]) [(67,kgY),(92,kgm)] (.cons khp <| .cons kiw <| .nil) (fun x=>by kernel_rfl)
def slices_insertionSortCmpFunc_api_Swing_m1_M:CtrM:=⟨ "",[none,some (.i .i64),some (.i .i64),some (.fn 2 (.pr (.pr (.i .i64) (.pr (.i .i64) .b)) (.pr (.i .i64) (.pr (.i .i64) .b))) (.i .i64))],⟨[(0,.mw 0)],[(0,.sl 107 (.pr (.i .i64) (.pr (.i .i64) .b)))]⟩,1,⟨[(0,.mw 0)],[(0,.sl 107 (.pr (.i .i64) (.pr (.i .i64) .b)))]⟩,1,0,fun x=>kaK x.1 x.2.1 x.2.2.1 x.2.2.2⟩
theorem kcy:slices_insertionSortCmpFunc_api_Swing_m1_M.ok=true∧GoodM Try.prog 105 slices_insertionSortCmpFunc_api_Swing_m1_M:=
 kbf Try.func105 (by kernel_rfl) (An:=[(0,⟨⟨[(8,.c (.i .i64))],[(0,.sl 107 (.pr (.i .i64) (.pr (.i .i64) .b)))]⟩,⟨[],[(0,.sl 107 (.pr (.i .i64) (.pr (.i .i64) .b)))]⟩,[2,1,3],[],2,false,""⟩),(8,⟨⟨[(9,.c (.i .i64))],[(0,.sl 107 (.pr (.i .i64) (.pr (.i .i64) .b)))]⟩,⟨[],[(0,.sl 107 (.pr (.i .i64) (.pr (.i .i64) .b)))]⟩,[8],[],2,false,""⟩),(27,⟨⟨[],[]⟩,⟨[],[]⟩,[],[],0,false,""⟩)]) [] (.nil) (fun x=>by kernel_rfl)
def slices_insertionSortCmpFunc_api_Swing_C:Ctr:=⟨ "",[],[],fun _=>none,[],[]⟩
theorem slices_insertionSortCmpFunc_api_Swing_C_ok:Good Try.prog 105 slices_insertionSortCmpFunc_api_Swing_C:=good_dm
def kbv:Ctr:=⟨ "",slices_insertionSortCmpFunc_api_Swing_C.as,slices_insertionSortCmpFunc_api_Swing_C.rs,slices_insertionSortCmpFunc_api_Swing_C.F,slices_insertionSortCmpFunc_api_Swing_m1_M::slices_insertionSortCmpFunc_api_Swing_C.mus,slices_insertionSortCmpFunc_api_Swing_C.its⟩
theorem kcJ:Good Try.prog 105 kbv:=slices_insertionSortCmpFunc_api_Swing_C_ok.more kcy
def slices_swapRangeCmpFunc_api_Swing_m2_M:CtrM:=⟨ "",[none,some (.i .i64),some (.i .i64),some (.i .i64),some (.fn 2 (.pr (.pr (.i .i64) (.pr (.i .i64) .b)) (.pr (.i .i64) (.pr (.i .i64) .b))) (.i .i64))],⟨[(0,.mw 0)],[(0,.sl 107 (.pr (.i .i64) (.pr (.i .i64) .b)))]⟩,1,⟨[(0,.mw 0)],[(0,.sl 107 (.pr (.i .i64) (.pr (.i .i64) .b)))]⟩,1,0,fun x=>kaA x.1 x.2.1 x.2.2.1 x.2.2.2.1 x.2.2.2.2⟩
theorem kcZ:slices_swapRangeCmpFunc_api_Swing_m2_M.ok=true∧GoodM Try.prog 110 slices_swapRangeCmpFunc_api_Swing_m2_M:=
 kbf Try.func110 (by kernel_rfl) (An:=[(0,⟨⟨[(10,.c (.i .i64))],[(0,.sl 107 (.pr (.i .i64) (.pr (.i .i64) .b)))]⟩,⟨[],[(0,.sl 107 (.pr (.i .i64) (.pr (.i .i64) .b)))]⟩,[3,1,2],[],2,false,""⟩),(15,⟨⟨[],[]⟩,⟨[],[]⟩,[],[],0,false,""⟩)]) [] (.nil) (fun x=>by kernel_rfl)
def slices_swapRangeCmpFunc_api_Swing_C:Ctr:=⟨ "",[],[],fun _=>none,[],[]⟩
theorem slices_swapRangeCmpFunc_api_Swing_C_ok:Good Try.prog 110 slices_swapRangeCmpFunc_api_Swing_C:=good_dm
def kbL:Ctr:=⟨ "",slices_swapRangeCmpFunc_api_Swing_C.as,slices_swapRangeCmpFunc_api_Swing_C.rs,slices_swapRangeCmpFunc_api_Swing_C.F,slices_swapRangeCmpFunc_api_Swing_m2_M::slices_swapRangeCmpFunc_api_Swing_C.mus,slices_swapRangeCmpFunc_api_Swing_C.its⟩
theorem kds:Good Try.prog 110 kbL:=slices_swapRangeCmpFunc_api_Swing_C_ok.more kcZ
def slices_rotateCmpFunc_api_Swing_m3_M:CtrM:=⟨ "",[none,some (.i .i64),some (.i .i64),some (.i .i64),some (.fn 2 (.pr (.pr (.i .i64) (.pr (.i .i64) .b)) (.pr (.i .i64) (.pr (.i .i64) .b))) (.i .i64))],⟨[(0,.mw 0)],[(0,.sl 107 (.pr (.i .i64) (.pr (.i .i64) .b)))]⟩,1,⟨[(0,.mw 0)],[(0,.sl 107 (.pr (.i .i64) (.pr (.i .i64) .b)))]⟩,1,0,fun x=>kcf x.1 x.2.1 x.2.2.1 x.2.2.2.1 x.2.2.2.2⟩
theorem kdK:slices_rotateCmpFunc_api_Swing_m3_M.ok=true∧GoodM Try.prog 108 slices_rotateCmpFunc_api_Swing_m3_M:=
 kbf Try.func108 (by kernel_rfl) (An:=[(0,⟨⟨[(10,.c (.i .i64)),(11,.c (.i .i64))],[(0,.sl 107 (.pr (.i .i64) (.pr (.i .i64) .b)))]⟩,⟨[(10,.c (.i .i64))],[(0,.sl 107 (.pr (.i .i64) (.pr (.i .i64) .b)))]⟩,[2,4],[],2,false,""⟩)]) [(110,kbL)] (.cons kds <| .nil) (fun x=>by kernel_rfl)
def slices_rotateCmpFunc_api_Swing_C:Ctr:=⟨ "",[],[],fun _=>none,[],[]⟩
theorem slices_rotateCmpFunc_api_Swing_C_ok:Good Try.prog 108 slices_rotateCmpFunc_api_Swing_C:=good_dm
def kcd:Ctr:=⟨ "",slices_rotateCmpFunc_api_Swing_C.as,slices_rotateCmpFunc_api_Swing_C.rs,slices_rotateCmpFunc_api_Swing_C.F,slices_rotateCmpFunc_api_Swing_m3_M::slices_rotateCmpFunc_api_Swing_C.mus,slices_rotateCmpFunc_api_Swing_C.its⟩
theorem keb:Good Try.prog 108 kcd:=slices_rotateCmpFunc_api_Swing_C_ok.more kdK
def kaP (k:Nat):CtrM:=⟨ "",[none,some (.i .i64),some (.i .i64),some (.i .i64),some (.fn 2 (.pr (.pr (.i .i64) (.pr (.i .i64) .b)) (.pr (.i .i64) (.pr (.i .i64) .b))) (.i .i64))],⟨[(0,.mw 0)],[(0,.sl 107 (.pr (.i .i64) (.pr (.i .i64) .b)))]⟩,1,⟨[(0,.mw 0)],[(0,.sl 107 (.pr (.i .i64) (.pr (.i .i64) .b)))]⟩,1,0,fun x=>kaT k x.1 x.2.1 x.2.2.1 x.2.2.2.1 x.2.2.2.2⟩
theorem kbz:∀ k,(kaP k).ok=true∧GoodM Try.prog 106 (kaP k)
 | 0=>kiH (by kernel_rfl) (fun x=>rfl)
 | k+1=>kbf Try.func106 (by kernel_rfl) (An:=[(0,⟨⟨[(10,.c (.i .i64)),(11,.c (.i .i64))],[]⟩,⟨[(10,.c (.i .i64))],[]⟩,[4,1],[0],1,false,""⟩),(8,⟨⟨[(13,.c (.i .i64))],[(0,.sl 107 (.pr (.i .i64) (.pr (.i .i64) .b)))]⟩,⟨[],[(0,.sl 107 (.pr (.i .i64) (.pr (.i .i64) .b)))]⟩,[10],[],2,false,""⟩),(47,⟨⟨[],[]⟩,⟨[],[]⟩,[],[],0,false,""⟩),(16,⟨⟨[(14,.c (.i .i64)),(15,.c (.i .i64))],[]⟩,⟨[(14,.c (.i .i64))],[]⟩,[4,2],[0],1,false,""⟩),(24,⟨⟨[(17,.c (.i .i64))],[(0,.sl 107 (.pr (.i .i64) (.pr (.i .i64) .b)))]⟩,⟨[],[(0,.sl 107 (.pr (.i .i64) (.pr (.i .i64) .b)))]⟩,[14],[],2,false,""⟩),(95,⟨⟨[],[]⟩,⟨[],[]⟩,[],[],0,false,""⟩),(561,⟨⟨[],[]⟩,⟨[(20,.c (.i .i64)),(21,.c (.i .i64))],[]⟩,[19,3,18,4,2,1],[0],1,false,""⟩),(32,⟨⟨[(20,.c (.i .i64)),(21,.c (.i .i64))],[]⟩,⟨[(20,.c (.i .i64))],[]⟩,[4,22,19,2,1,18,3],[0],1,false,""⟩),(158,⟨⟨[],[]⟩,⟨[(185,.c .b)],[]⟩,[20,2,24,4,1,18,3],[0],1,false,""⟩),(741,⟨⟨[],[(0,.sl 107 (.pr (.i .i64) (.pr (.i .i64) .b)))]⟩,⟨[],[(0,.sl 107 (.pr (.i .i64) (.pr (.i .i64) .b)))]⟩,[20,2,24,4,1,18,3],[],2,false,""⟩),(166,⟨⟨[],[]⟩,⟨[(199,.c .b)],[]⟩,[1,20,18,4,24,3],[0],2,false,""⟩),(797,⟨⟨[],[(0,.sl 107 (.pr (.i .i64) (.pr (.i .i64) .b)))]⟩,⟨[],[(0,.sl 107 (.pr (.i .i64) (.pr (.i .i64) .b)))]⟩,[1,20,18,4,24,3],[],3,false,""⟩)]) ((106,⟨ "",[],[],fun _=>none,[kaP k],[]⟩)::[(108,kcd)]) (.cons (good_dm.more (kbz k)) <| .cons keb <| .nil) (fun x=>by kernel_rfl)
def slices_symMergeCmpFunc_api_Swing_m4_M:CtrM:=⟨ "",[none,some (.i .i64),some (.i .i64),some (.i .i64),some (.fn 2 (.pr (.pr (.i .i64) (.pr (.i .i64) .b)) (.pr (.i .i64) (.pr (.i .i64) .b))) (.i .i64))],⟨[(0,.mw 0)],[(0,.sl 107 (.pr (.i .i64) (.pr (.i .i64) .b)))]⟩,1,⟨[(0,.mw 0)],[(0,.sl 107 (.pr (.i .i64) (.pr (.i .i64) .b)))]⟩,1,0,fun x=>kbc x.1 x.2.1 x.2.2.1 x.2.2.2.1 x.2.2.2.2⟩
theorem kdd:slices_symMergeCmpFunc_api_Swing_m4_M.ok=true∧GoodM Try.prog 106 slices_symMergeCmpFunc_api_Swing_m4_M:=kbz 1000000
def slices_symMergeCmpFunc_api_Swing_C:Ctr:=⟨ "",[],[],fun _=>none,[],[]⟩
theorem slices_symMergeCmpFunc_api_Swing_C_ok:Good Try.prog 106 slices_symMergeCmpFunc_api_Swing_C:=good_dm
def kbO:Ctr:=⟨ "",slices_symMergeCmpFunc_api_Swing_C.as,slices_symMergeCmpFunc_api_Swing_C.rs,slices_symMergeCmpFunc_api_Swing_C.F,slices_symMergeCmpFunc_api_Swing_m4_M::slices_symMergeCmpFunc_api_Swing_C.mus,slices_symMergeCmpFunc_api_Swing_C.its⟩
theorem kdJ:Good Try.prog 106 kbO:=slices_symMergeCmpFunc_api_Swing_C_ok.more kdd
def slices_stableCmpFunc_api_Swing_m5_M:CtrM:=⟨ "",[none,some (.i .i64),some (.fn 2 (.pr (.pr (.i .i64) (.pr (.i .i64) .b)) (.pr (.i .i64) (.pr (.i .i64) .b))) (.i .i64))],⟨[(0,.mw 0)],[(0,.sl 107 (.pr (.i .i64) (.pr (.i .i64) .b)))]⟩,1,⟨[(0,.mw 0)],[(0,.sl 107 (.pr (.i .i64) (.pr (.i .i64) .b)))]⟩,1,0,fun x=>kce x.1 x.2.1 x.2.2⟩
theorem kdE:slices_stableCmpFunc_api_Swing_m5_M.ok=true∧GoodM Try.prog 98 slices_stableCmpFunc_api_Swing_m5_M:=
 kbf Try.func98 (by kernel_rfl) (An:=[(0,⟨⟨[(8,.c (.i .i64)),(7,.c (.i .i64))],[(0,.sl 107 (.pr (.i .i64) (.pr (.i .i64) .b)))]⟩,⟨[(7,.c (.i .i64))],[(0,.sl 107 (.pr (.i .i64) (.pr (.i .i64) .b)))]⟩,[1,2,6],[],2,false,""⟩),(8,⟨⟨[(6,.c (.i .i64))],[(0,.sl 107 (.pr (.i .i64) (.pr (.i .i64) .b)))]⟩,⟨[],[(0,.sl 107 (.pr (.i .i64) (.pr (.i .i64) .b)))]⟩,[1,2],[],3,false,""⟩),(16,⟨⟨[(8,.c (.i .i64)),(7,.c (.i .i64))],[(0,.sl 107 (.pr (.i .i64) (.pr (.i .i64) .b)))]⟩,⟨[(7,.c (.i .i64))],[(0,.sl 107 (.pr (.i .i64) (.pr (.i .i64) .b)))]⟩,[6],[],3,false,""⟩)]) [(106,kbO),(105,kbv)] (.cons kdJ <| .cons kcJ <| .nil) (fun x=>by kernel_rfl)
def slices_stableCmpFunc_api_Swing_C:Ctr:=⟨ "",[],[],fun _=>none,[],[]⟩
theorem slices_stableCmpFunc_api_Swing_C_ok:Good Try.prog 98 slices_stableCmpFunc_api_Swing_C:=good_dm
def kcg:Ctr:=⟨ "",slices_stableCmpFunc_api_Swing_C.as,slices_stableCmpFunc_api_Swing_C.rs,slices_stableCmpFunc_api_Swing_C.F,slices_stableCmpFunc_api_Swing_m5_M::slices_stableCmpFunc_api_Swing_C.mus,slices_stableCmpFunc_api_Swing_C.its⟩
theorem kdZ:Good Try.prog 98 kcg:=slices_stableCmpFunc_api_Swing_C_ok.more kdE
def slices_SortStableFunc_s_api_Swing_api_Swing_m6_M:CtrM:=⟨ "",[none,some (.fn 2 (.pr (.pr (.i .i64) (.pr (.i .i64) .b)) (.pr (.i .i64) (.pr (.i .i64) .b))) (.i .i64))],⟨[(0,.mw 0)],[(0,.sl 107 (.pr (.i .i64) (.pr (.i .i64) .b)))]⟩,1,⟨[(0,.mw 0)],[(0,.sl 107 (.pr (.i .i64) (.pr (.i .i64) .b)))]⟩,1,0,fun x=>kbd x.1 x.2⟩
theorem kbU:slices_SortStableFunc_s_api_Swing_api_Swing_m6_M.ok=true∧GoodM Try.prog 91 slices_SortStableFunc_s_api_Swing_api_Swing_m6_M:=
 kbf Try.func91 (by kernel_rfl) (An:=[]) [(98,kcg)] (.cons kdZ <| .nil) (fun x=>by kernel_rfl)
def slices_SortStableFunc_s_api_Swing_api_Swing_C:Ctr:=⟨ "",[],[],fun _=>none,[],[]⟩
theorem slices_SortStableFunc_s_api_Swing_api_Swing_C_ok:Good Try.prog 91 slices_SortStableFunc_s_api_Swing_api_Swing_C:=good_dm
def kbe:Ctr:=⟨ "",slices_SortStableFunc_s_api_Swing_api_Swing_C.as,slices_SortStableFunc_s_api_Swing_api_Swing_C.rs,slices_SortStableFunc_s_api_Swing_api_Swing_C.F,slices_SortStableFunc_s_api_Swing_api_Swing_m6_M::slices_SortStableFunc_s_api_Swing_api_Swing_C.mus,slices_SortStableFunc_s_api_Swing_api_Swing_C.its⟩
theorem kch:Good Try.prog 91 kbe:=slices_SortStableFunc_s_api_Swing_api_Swing_C_ok.more kbU
def sort_ordered_api_Swing_m7_M:CtrM:=⟨ "",[none,some (.fn 2 (.pr (.pr (.i .i64) (.pr (.i .i64) .b)) (.pr (.i .i64) (.pr (.i .i64) .b))) (.i .i64))],⟨[(0,.mw 0)],[(0,.sl 107 (.pr (.i .i64) (.pr (.i .i64) .b)))]⟩,1,⟨[(0,.mw 0),(1000000,.mw 0)],[(0,.sl 107 (.pr (.i .i64) (.pr (.i .i64) .b)))]⟩,1,1,fun x=>kdP x.1 x.2⟩
theorem kfr:sort_ordered_api_Swing_m7_M.ok=true∧GoodM Try.prog 72 sort_ordered_api_Swing_m7_M:=
 kbf Try.func72 (by kernel_rfl) (An:=[]) [(91,kbe)] (.cons kch <| .nil) (fun x=>by kernel_rfl)
def sort_ordered_api_Swing_C:Ctr:=⟨ "",[],[],fun _=>none,[],[]⟩
theorem sort_ordered_api_Swing_C_ok:Good Try.prog 72 sort_ordered_api_Swing_C:=good_dm
def kdQ:Ctr:=⟨ "",sort_ordered_api_Swing_C.as,sort_ordered_api_Swing_C.rs,sort_ordered_api_Swing_C.F,sort_ordered_api_Swing_m7_M::sort_ordered_api_Swing_C.mus,sort_ordered_api_Swing_C.its⟩
theorem kfv:Good Try.prog 72 kdQ:=sort_ordered_api_Swing_C_ok.more kfr
def kiQ:Ctr:=⟨ "",[tBelt,(.sl tFed)],[(.sl (.pr (.i .i64) (.pr (.i .i64) .b))),(.i .i64)],fun x=>kkw x.1 x.2,[],[]⟩
theorem kkO:Good Try.prog 41 kiQ:=
 kah Try.func41 (by kernel_rfl) (An:=[(0,⟨⟨[],[(3,.bx 56 [.mw 2]),(2,.sl 107 (.pr (.i .i64) (.pr (.i .i64) .b)))]⟩,⟨[],[(3,.bx 56 [.mw 6]),(6,.sl 107 (.pr (.i .i64) (.pr (.i .i64) .b)))]⟩,[22,8,2],[0],7,false,""⟩)]) [(72,kdQ),(73,kjx),(70,kcW),(88,kbB),(59,kiE)] (.cons kfv <| .cons klr <| .cons kee <| .cons kbP <| .cons kiP <| .nil) (fun x=>by kernel_rfl)
def kiK:Ctr:=⟨ "",[],[(.sl (.sl (.i .i64)))],fun x=>law09_table,[],[]⟩
theorem kkN:Good Try.prog 79 kiK:=
 kah Try.func79 (by kernel_rfl) (An:=[]) [] (.nil) (fun x=>by kernel_rfl)
def kgo:Ctr:=⟨ "",[(.sl (.sl (.i .i64)))],[(.i .i64)],fun x=>khr x,[],[]⟩
theorem kiz:Good Try.prog 28 kgo:=
 kah Try.func28 (by kernel_rfl) (An:=[(0,⟨⟨[(15,.c (.i .i64))],[]⟩,⟨[],[]⟩,[14,13,0],[],1,true,""⟩),(8,⟨⟨[(32,.c (.i .i64)),(5,.c (.i .i64))],[]⟩,⟨[(5,.c (.i .i64))],[]⟩,[31,30,15],[],1,false,""⟩)]) [(54,kcE)] (.cons kcj <| .nil) (fun x=>by kernel_rfl)
def kcN (k:Nat):CtrM:=⟨ "",[some (.i .i64),some (.i .i64),none,none,none,none,none,none],⟨[(2,.ptr 0 0),(3,.ptr 1 0),(4,.ptr 3 0),(5,.ptr 4 0),(6,.ptr 6 0),(7,.ptr 7 0)],[(0,.bx 3 [.c (.i .i64)]),(1,.bx 23 [.mw 2]),(2,.sl 3 (.i .i64)),(3,.bx 3 [.c (.i .i64)]),(4,.bx 23 [.mw 5]),(5,.sl 3 (.i .i64)),(6,.bx 23 [.c (.sl (.i .i64))]),(7,.bx 133 [.fn 83 [.ptr 0 0,.ptr 1 0,.ptr 3 0,.ptr 4 0,.ptr 6 0,.ptr 7 0]])]⟩,8,⟨[(2,.ptr 0 0),(3,.ptr 1 0),(4,.ptr 3 0),(5,.ptr 4 0),(6,.ptr 6 0),(7,.ptr 7 0)],[(0,.bx 3 [.c (.i .i64)]),(1,.bx 23 [.mw 8]),(8,.sl 3 (.i .i64)),(3,.bx 3 [.c (.i .i64)]),(4,.bx 23 [.mw 9]),(9,.sl 3 (.i .i64)),(6,.bx 23 [.c (.sl (.i .i64))]),(7,.bx 133 [.fn 83 [.ptr 0 0,.ptr 1 0,.ptr 3 0,.ptr 4 0,.ptr 6 0,.ptr 7 0]])]⟩,10,0,fun x=>kdg k x.1 x.2.1 x.2.2.1 x.2.2.2.1 x.2.2.2.2.1 x.2.2.2.2.2.1 x.2.2.2.2.2.2⟩
theorem keN:∀ k,(kcN k).ok=true∧GoodM Try.prog 83 (kcN k)
 | 0=>kiH (by kernel_rfl) (fun x=>rfl)
 | k+1=>kbf Try.func83 (by kernel_rfl) (An:=[(77,⟨⟨[],[]⟩,⟨[(10,.c (.i .i64))],[]⟩,[1],[3,4,5,0,1,2,6,7],8,false,""⟩),(0,⟨⟨[(30,.c (.i .i64))],[(1,.bx 23 [.mw 2]),(2,.sl 3 (.i .i64)),(3,.bx 3 [.c (.i .i64)]),(7,.bx 133 [.fn 83 [.ptr 0 0,.ptr 1 0,.ptr 3 0,.ptr 4 0,.ptr 6 0,.ptr 7 0]]),(0,.bx 3 [.c (.i .i64)]),(4,.bx 23 [.mw 5]),(5,.sl 3 (.i .i64)),(6,.bx 23 [.c (.sl (.i .i64))])]⟩,⟨[],[(1,.bx 23 [.mw 9]),(9,.sl 3 (.i .i64)),(3,.bx 3 [.c (.i .i64)]),(7,.bx 133 [.fn 83 [.ptr 0 0,.ptr 1 0,.ptr 3 0,.ptr 4 0,.ptr 6 0,.ptr 7 0]]),(0,.bx 3 [.c (.i .i64)]),(4,.bx 23 [.mw 14]),(14,.sl 3 (.i .i64)),(6,.bx 23 [.c (.sl (.i .i64))])]⟩,[29,28,0,1],[],16,false,""⟩),(173,⟨⟨[],[(2,.sl 3 (.i .i64))]⟩,⟨[],[(2,.sl 3 (.i .i64))]⟩,[12,30],[1,7,0,3,4,5,6],9,false,""⟩)]) ((83,⟨ "",[],[],fun _=>none,[kcN k],[]⟩)::[(51,kfR)]) (.cons (good_dm.more (keN k)) <| .cons kfI <| .nil) (fun x=>by kernel_rfl)
def sort_chances_c1_m8_M:CtrM:=⟨ "",[some (.i .i64),some (.i .i64),none,none,none,none,none,none],⟨[(2,.ptr 0 0),(3,.ptr 1 0),(4,.ptr 3 0),(5,.ptr 4 0),(6,.ptr 6 0),(7,.ptr 7 0)],[(0,.bx 3 [.c (.i .i64)]),(1,.bx 23 [.mw 2]),(2,.sl 3 (.i .i64)),(3,.bx 3 [.c (.i .i64)]),(4,.bx 23 [.mw 5]),(5,.sl 3 (.i .i64)),(6,.bx 23 [.c (.sl (.i .i64))]),(7,.bx 133 [.fn 83 [.ptr 0 0,.ptr 1 0,.ptr 3 0,.ptr 4 0,.ptr 6 0,.ptr 7 0]])]⟩,8,⟨[(2,.ptr 0 0),(3,.ptr 1 0),(4,.ptr 3 0),(5,.ptr 4 0),(6,.ptr 6 0),(7,.ptr 7 0)],[(0,.bx 3 [.c (.i .i64)]),(1,.bx 23 [.mw 8]),(8,.sl 3 (.i .i64)),(3,.bx 3 [.c (.i .i64)]),(4,.bx 23 [.mw 9]),(9,.sl 3 (.i .i64)),(6,.bx 23 [.c (.sl (.i .i64))]),(7,.bx 133 [.fn 83 [.ptr 0 0,.ptr 1 0,.ptr 3 0,.ptr 4 0,.ptr 6 0,.ptr 7 0]])]⟩,10,0,fun x=>kgd x.1 x.2.1 x.2.2.1 x.2.2.2.1 x.2.2.2.2.1 x.2.2.2.2.2.1 x.2.2.2.2.2.2⟩
theorem khi:sort_chances_c1_m8_M.ok=true∧GoodM Try.prog 83 sort_chances_c1_m8_M:=keN 1000000
def sort_chances_c1_C:Ctr:=⟨ "",[],[],fun _=>none,[],[]⟩
theorem sort_chances_c1_C_ok:Good Try.prog 83 sort_chances_c1_C:=good_dm
def kfU:Ctr:=⟨ "",sort_chances_c1_C.as,sort_chances_c1_C.rs,sort_chances_c1_C.F,sort_chances_c1_m8_M::sort_chances_c1_C.mus,sort_chances_c1_C.its⟩
theorem khJ:Good Try.prog 83 kfU:=sort_chances_c1_C_ok.more khi
def khQ:Ctr:=⟨ "",[(.sl (.i .i64)),(.i .i64)],[(.sl (.i .i64))],fun x=>kiX x.1 x.2,[],[]⟩
theorem kki:Good Try.prog 55 khQ:=
 kah Try.func55 (by kernel_rfl) (An:=[]) [(83,kfU)] (.cons khJ <| .nil) (fun x=>by kernel_rfl)
def khN:Ctr:=⟨ "",[(.sl (.sl (.i .i64))),(.i .i64),(.i .i64)],[(.sl (.i .i64)),(.i .i64)],fun x=>kiW x.1 x.2.1 x.2.2,[],[]⟩
theorem kkk:Good Try.prog 24 khN:=
 kah Try.func24 (by kernel_rfl) (An:=[]) [(55,khQ),(28,kgo),(54,kcE)] (.cons kki <| .cons kiz <| .cons kcj <| .nil) (fun x=>by kernel_rfl)
def kht:Ctr:=⟨ "",[(.sl (.i .i64)),(.i .i64)],[.b],fun x=>kiM x.1 x.2,[],[]⟩
theorem kjm:Good Try.prog 65 kht:=
 kah Try.func65 (by kernel_rfl) (An:=[]) [(54,kcE)] (.cons kcj <| .nil) (fun x=>by kernel_rfl)
def khY:Ctr:=⟨ "",[tPile,tPile],[(.i .i64)],fun x=>kgJ x.1 x.2,[],[]⟩
theorem kkh:Good Try.prog 66 khY:=
 kah Try.func66 (by kernel_rfl) (An:=[]) [(67,kgY)] (.cons khp <| .nil) (fun x=>by kernel_rfl)
def kaE:Ctr:=⟨ "",[(.sl tPile),tPile,(.fn 2 (.pr tPile tPile) (.i .i64))],[(.i .i64),.b],fun x=>kaH x.1 x.2.1 x.2.2,[],[]⟩
theorem kbu:Good Try.prog 69 kaE:=
 kah Try.func69 (by kernel_rfl) (An:=[(0,⟨⟨[(9,.c (.i .i64)),(10,.c (.i .i64))],[]⟩,⟨[(9,.c (.i .i64))],[]⟩,[2,0,4,8],[0],1,false,""⟩)]) [] (.nil) (fun x=>by kernel_rfl)
def slices_insertionSortCmpFunc_sort_pile_m9_M:CtrM:=⟨ "",[none,some (.i .i64),some (.i .i64),some (.fn 2 (.pr tPile tPile) (.i .i64))],⟨[(0,.mw 0)],[(0,.sl 114 tPile)]⟩,1,⟨[(0,.mw 0)],[(0,.sl 114 tPile)]⟩,1,0,fun x=>kaL x.1 x.2.1 x.2.2.1 x.2.2.2⟩
theorem kcx:slices_insertionSortCmpFunc_sort_pile_m9_M.ok=true∧GoodM Try.prog 100 slices_insertionSortCmpFunc_sort_pile_m9_M:=
 kbf Try.func100 (by kernel_rfl) (An:=[(0,⟨⟨[(8,.c (.i .i64))],[(0,.sl 114 tPile)]⟩,⟨[],[(0,.sl 114 tPile)]⟩,[2,1,3],[],2,false,""⟩),(8,⟨⟨[(9,.c (.i .i64))],[(0,.sl 114 tPile)]⟩,⟨[],[(0,.sl 114 tPile)]⟩,[8],[],2,false,""⟩),(27,⟨⟨[],[]⟩,⟨[],[]⟩,[],[],0,false,""⟩)]) [] (.nil) (fun x=>by kernel_rfl)
def slices_insertionSortCmpFunc_sort_pile_C:Ctr:=⟨ "",[],[],fun _=>none,[],[]⟩
theorem slices_insertionSortCmpFunc_sort_pile_C_ok:Good Try.prog 100 slices_insertionSortCmpFunc_sort_pile_C:=good_dm
def kbw:Ctr:=⟨ "",slices_insertionSortCmpFunc_sort_pile_C.as,slices_insertionSortCmpFunc_sort_pile_C.rs,slices_insertionSortCmpFunc_sort_pile_C.F,slices_insertionSortCmpFunc_sort_pile_m9_M::slices_insertionSortCmpFunc_sort_pile_C.mus,slices_insertionSortCmpFunc_sort_pile_C.its⟩
theorem kcH:Good Try.prog 100 kbw:=slices_insertionSortCmpFunc_sort_pile_C_ok.more kcx
def slices_swapRangeCmpFunc_sort_pile_m10_M:CtrM:=⟨ "",[none,some (.i .i64),some (.i .i64),some (.i .i64),some (.fn 2 (.pr tPile tPile) (.i .i64))],⟨[(0,.mw 0)],[(0,.sl 114 tPile)]⟩,1,⟨[(0,.mw 0)],[(0,.sl 114 tPile)]⟩,1,0,fun x=>kax x.1 x.2.1 x.2.2.1 x.2.2.2.1 x.2.2.2.2⟩
theorem kcP:slices_swapRangeCmpFunc_sort_pile_m10_M.ok=true∧GoodM Try.prog 109 slices_swapRangeCmpFunc_sort_pile_m10_M:=
 kbf Try.func109 (by kernel_rfl) (An:=[(0,⟨⟨[(10,.c (.i .i64))],[(0,.sl 114 tPile)]⟩,⟨[],[(0,.sl 114 tPile)]⟩,[3,1,2],[],2,false,""⟩),(15,⟨⟨[],[]⟩,⟨[],[]⟩,[],[],0,false,""⟩)]) [] (.nil) (fun x=>by kernel_rfl)
def slices_swapRangeCmpFunc_sort_pile_C:Ctr:=⟨ "",[],[],fun _=>none,[],[]⟩
theorem slices_swapRangeCmpFunc_sort_pile_C_ok:Good Try.prog 109 slices_swapRangeCmpFunc_sort_pile_C:=good_dm
def kbE:Ctr:=⟨ "",slices_swapRangeCmpFunc_sort_pile_C.as,slices_swapRangeCmpFunc_sort_pile_C.rs,slices_swapRangeCmpFunc_sort_pile_C.F,slices_swapRangeCmpFunc_sort_pile_m10_M::slices_swapRangeCmpFunc_sort_pile_C.mus,slices_swapRangeCmpFunc_sort_pile_C.its⟩
theorem kdh:Good Try.prog 109 kbE:=slices_swapRangeCmpFunc_sort_pile_C_ok.more kcP
def slices_rotateCmpFunc_sort_pile_m11_M:CtrM:=⟨ "",[none,some (.i .i64),some (.i .i64),some (.i .i64),some (.fn 2 (.pr tPile tPile) (.i .i64))],⟨[(0,.mw 0)],[(0,.sl 114 tPile)]⟩,1,⟨[(0,.mw 0)],[(0,.sl 114 tPile)]⟩,1,0,fun x=>kbW x.1 x.2.1 x.2.2.1 x.2.2.2.1 x.2.2.2.2⟩
theorem kdy:slices_rotateCmpFunc_sort_pile_m11_M.ok=true∧GoodM Try.prog 107 slices_rotateCmpFunc_sort_pile_m11_M:=
 kbf Try.func107 (by kernel_rfl) (An:=[(0,⟨⟨[(10,.c (.i .i64)),(11,.c (.i .i64))],[(0,.sl 114 tPile)]⟩,⟨[(10,.c (.i .i64))],[(0,.sl 114 tPile)]⟩,[2,4],[],2,false,""⟩)]) [(109,kbE)] (.cons kdh <| .nil) (fun x=>by kernel_rfl)
def slices_rotateCmpFunc_sort_pile_C:Ctr:=⟨ "",[],[],fun _=>none,[],[]⟩
theorem slices_rotateCmpFunc_sort_pile_C_ok:Good Try.prog 107 slices_rotateCmpFunc_sort_pile_C:=good_dm
def kbY:Ctr:=⟨ "",slices_rotateCmpFunc_sort_pile_C.as,slices_rotateCmpFunc_sort_pile_C.rs,slices_rotateCmpFunc_sort_pile_C.F,slices_rotateCmpFunc_sort_pile_m11_M::slices_rotateCmpFunc_sort_pile_C.mus,slices_rotateCmpFunc_sort_pile_C.its⟩
theorem kdR:Good Try.prog 107 kbY:=slices_rotateCmpFunc_sort_pile_C_ok.more kdy
def kaM (k:Nat):CtrM:=⟨ "",[none,some (.i .i64),some (.i .i64),some (.i .i64),some (.fn 2 (.pr tPile tPile) (.i .i64))],⟨[(0,.mw 0)],[(0,.sl 114 tPile)]⟩,1,⟨[(0,.mw 0)],[(0,.sl 114 tPile)]⟩,1,0,fun x=>kaQ k x.1 x.2.1 x.2.2.1 x.2.2.2.1 x.2.2.2.2⟩
theorem kbt:∀ k,(kaM k).ok=true∧GoodM Try.prog 101 (kaM k)
 | 0=>kiH (by kernel_rfl) (fun x=>rfl)
 | k+1=>kbf Try.func101 (by kernel_rfl) (An:=[(0,⟨⟨[(10,.c (.i .i64)),(11,.c (.i .i64))],[]⟩,⟨[(10,.c (.i .i64))],[]⟩,[4,1],[0],1,false,""⟩),(8,⟨⟨[(13,.c (.i .i64))],[(0,.sl 114 tPile)]⟩,⟨[],[(0,.sl 114 tPile)]⟩,[10],[],2,false,""⟩),(47,⟨⟨[],[]⟩,⟨[],[]⟩,[],[],0,false,""⟩),(16,⟨⟨[(14,.c (.i .i64)),(15,.c (.i .i64))],[]⟩,⟨[(14,.c (.i .i64))],[]⟩,[4,2],[0],1,false,""⟩),(24,⟨⟨[(17,.c (.i .i64))],[(0,.sl 114 tPile)]⟩,⟨[],[(0,.sl 114 tPile)]⟩,[14],[],2,false,""⟩),(95,⟨⟨[],[]⟩,⟨[],[]⟩,[],[],0,false,""⟩),(561,⟨⟨[],[]⟩,⟨[(20,.c (.i .i64)),(21,.c (.i .i64))],[]⟩,[19,3,18,4,2,1],[0],1,false,""⟩),(32,⟨⟨[(20,.c (.i .i64)),(21,.c (.i .i64))],[]⟩,⟨[(20,.c (.i .i64))],[]⟩,[4,22,19,2,1,18,3],[0],1,false,""⟩),(158,⟨⟨[],[]⟩,⟨[(185,.c .b)],[]⟩,[20,2,24,4,1,18,3],[0],1,false,""⟩),(741,⟨⟨[],[(0,.sl 114 tPile)]⟩,⟨[],[(0,.sl 114 tPile)]⟩,[20,2,24,4,1,18,3],[],2,false,""⟩),(166,⟨⟨[],[]⟩,⟨[(199,.c .b)],[]⟩,[1,20,18,4,24,3],[0],2,false,""⟩),(797,⟨⟨[],[(0,.sl 114 tPile)]⟩,⟨[],[(0,.sl 114 tPile)]⟩,[1,20,18,4,24,3],[],3,false,""⟩)]) ((101,⟨ "",[],[],fun _=>none,[kaM k],[]⟩)::[(107,kbY)]) (.cons (good_dm.more (kbt k)) <| .cons kdR <| .nil) (fun x=>by kernel_rfl)
def slices_symMergeCmpFunc_sort_pile_m12_M:CtrM:=⟨ "",[none,some (.i .i64),some (.i .i64),some (.i .i64),some (.fn 2 (.pr tPile tPile) (.i .i64))],⟨[(0,.mw 0)],[(0,.sl 114 tPile)]⟩,1,⟨[(0,.mw 0)],[(0,.sl 114 tPile)]⟩,1,0,fun x=>kaY x.1 x.2.1 x.2.2.1 x.2.2.2.1 x.2.2.2.2⟩
theorem kcX:slices_symMergeCmpFunc_sort_pile_m12_M.ok=true∧GoodM Try.prog 101 slices_symMergeCmpFunc_sort_pile_m12_M:=kbt 1000000
def slices_symMergeCmpFunc_sort_pile_C:Ctr:=⟨ "",[],[],fun _=>none,[],[]⟩
theorem slices_symMergeCmpFunc_sort_pile_C_ok:Good Try.prog 101 slices_symMergeCmpFunc_sort_pile_C:=good_dm
def kbJ:Ctr:=⟨ "",slices_symMergeCmpFunc_sort_pile_C.as,slices_symMergeCmpFunc_sort_pile_C.rs,slices_symMergeCmpFunc_sort_pile_C.F,slices_symMergeCmpFunc_sort_pile_m12_M::slices_symMergeCmpFunc_sort_pile_C.mus,slices_symMergeCmpFunc_sort_pile_C.its⟩
theorem kdu:Good Try.prog 101 kbJ:=slices_symMergeCmpFunc_sort_pile_C_ok.more kcX
def slices_stableCmpFunc_sort_pile_m13_M:CtrM:=⟨ "",[none,some (.i .i64),some (.fn 2 (.pr tPile tPile) (.i .i64))],⟨[(0,.mw 0)],[(0,.sl 114 tPile)]⟩,1,⟨[(0,.mw 0)],[(0,.sl 114 tPile)]⟩,1,0,fun x=>kbX x.1 x.2.1 x.2.2⟩
theorem kdn:slices_stableCmpFunc_sort_pile_m13_M.ok=true∧GoodM Try.prog 94 slices_stableCmpFunc_sort_pile_m13_M:=
 kbf Try.func94 (by kernel_rfl) (An:=[(0,⟨⟨[(8,.c (.i .i64)),(7,.c (.i .i64))],[(0,.sl 114 tPile)]⟩,⟨[(7,.c (.i .i64))],[(0,.sl 114 tPile)]⟩,[1,2,6],[],2,false,""⟩),(8,⟨⟨[(6,.c (.i .i64))],[(0,.sl 114 tPile)]⟩,⟨[],[(0,.sl 114 tPile)]⟩,[1,2],[],3,false,""⟩),(16,⟨⟨[(8,.c (.i .i64)),(7,.c (.i .i64))],[(0,.sl 114 tPile)]⟩,⟨[(7,.c (.i .i64))],[(0,.sl 114 tPile)]⟩,[6],[],3,false,""⟩)]) [(101,kbJ),(100,kbw)] (.cons kdu <| .cons kcH <| .nil) (fun x=>by kernel_rfl)
def slices_stableCmpFunc_sort_pile_C:Ctr:=⟨ "",[],[],fun _=>none,[],[]⟩
theorem slices_stableCmpFunc_sort_pile_C_ok:Good Try.prog 94 slices_stableCmpFunc_sort_pile_C:=good_dm
def kbT:Ctr:=⟨ "",slices_stableCmpFunc_sort_pile_C.as,slices_stableCmpFunc_sort_pile_C.rs,slices_stableCmpFunc_sort_pile_C.F,slices_stableCmpFunc_sort_pile_m13_M::slices_stableCmpFunc_sort_pile_C.mus,slices_stableCmpFunc_sort_pile_C.its⟩
theorem kdU:Good Try.prog 94 kbT:=slices_stableCmpFunc_sort_pile_C_ok.more kdn
def slices_SortStableFunc_s_sort_pile_sort_pile_m14_M:CtrM:=⟨ "",[none,some (.fn 2 (.pr tPile tPile) (.i .i64))],⟨[(0,.mw 0)],[(0,.sl 114 tPile)]⟩,1,⟨[(0,.mw 0)],[(0,.sl 114 tPile)]⟩,1,0,fun x=>kbb x.1 x.2⟩
theorem kbQ:slices_SortStableFunc_s_sort_pile_sort_pile_m14_M.ok=true∧GoodM Try.prog 87 slices_SortStableFunc_s_sort_pile_sort_pile_m14_M:=
 kbf Try.func87 (by kernel_rfl) (An:=[]) [(94,kbT)] (.cons kdU <| .nil) (fun x=>by kernel_rfl)
def slices_SortStableFunc_s_sort_pile_sort_pile_C:Ctr:=⟨ "",[],[],fun _=>none,[],[]⟩
theorem slices_SortStableFunc_s_sort_pile_sort_pile_C_ok:Good Try.prog 87 slices_SortStableFunc_s_sort_pile_sort_pile_C:=good_dm
def kba:Ctr:=⟨ "",slices_SortStableFunc_s_sort_pile_sort_pile_C.as,slices_SortStableFunc_s_sort_pile_sort_pile_C.rs,slices_SortStableFunc_s_sort_pile_sort_pile_C.F,slices_SortStableFunc_s_sort_pile_sort_pile_m14_M::slices_SortStableFunc_s_sort_pile_sort_pile_C.mus,slices_SortStableFunc_s_sort_pile_sort_pile_C.its⟩
theorem kca:Good Try.prog 87 kba:=slices_SortStableFunc_s_sort_pile_sort_pile_C_ok.more kbQ
def sort_ordered_sort_pile_m15_M:CtrM:=⟨ "",[none,some (.fn 2 (.pr tPile tPile) (.i .i64))],⟨[(0,.mw 0)],[(0,.sl 114 tPile)]⟩,1,⟨[(0,.mw 0),(1000000,.mw 0)],[(0,.sl 114 tPile)]⟩,1,1,fun x=>kdB x.1 x.2⟩
theorem kfa:sort_ordered_sort_pile_m15_M.ok=true∧GoodM Try.prog 68 sort_ordered_sort_pile_m15_M:=
 kbf Try.func68 (by kernel_rfl) (An:=[]) [(87,kba)] (.cons kca <| .nil) (fun x=>by kernel_rfl)
def sort_ordered_sort_pile_C:Ctr:=⟨ "",[],[],fun _=>none,[],[]⟩
theorem sort_ordered_sort_pile_C_ok:Good Try.prog 68 sort_ordered_sort_pile_C:=good_dm
def kdA:Ctr:=⟨ "",sort_ordered_sort_pile_C.as,sort_ordered_sort_pile_C.rs,sort_ordered_sort_pile_C.F,sort_ordered_sort_pile_m15_M::sort_ordered_sort_pile_C.mus,sort_ordered_sort_pile_C.its⟩
theorem kfs:Good Try.prog 68 kdA:=sort_ordered_sort_pile_C_ok.more kfa
def kkr:Ctr:=⟨ "",[(.sl (.i .i64)),(.i .i64)],[(.sl (.i .i64)),(.i .i64),(.i .i64)],fun x=>knf x.1 x.2,[],[]⟩
theorem kmi:Good Try.prog 36 kkr:=
 kah Try.func36 (by kernel_rfl) (An:=[(0,⟨⟨[(28,.c (.i .i64)),(7,.mw 1)],[(1,.sl 114 tPile)]⟩,⟨[(7,.mw 2)],[(2,.sl 114 tPile)]⟩,[27,26,1,0],[],3,false,""⟩),(8,⟨⟨[(7,.mw 2)],[(2,.sl 114 tPile)]⟩,⟨[(7,.mw 3)],[(3,.sl 114 tPile)]⟩,[1,0],[],4,false,""⟩),(16,⟨⟨[(7,.mw 3),(10,.mw 4),(11,.c (.i .i64))],[(3,.sl 114 tPile),(4,.sl 3 (.i .i64))]⟩,⟨[(10,.mw 5),(11,.c (.i .i64))],[(5,.sl 3 (.i .i64))]⟩,[1,12],[],6,false,""⟩),(24,⟨⟨[(65,.c (.i .i64)),(13,.ptr 6 0)],[(6,.bx 114 [.c (.i .i64),.mw 5]),(5,.sl 3 (.i .i64))]⟩,⟨[(13,.ptr 7 0)],[(7,.bx 114 [.c (.i .i64),.mw 8]),(8,.sl 3 (.i .i64))]⟩,[64,63,10,11,7],[4,3],9,false,""⟩),(32,⟨⟨[(85,.c (.i .i64)),(10,.mw 4)],[(4,.sl 3 (.i .i64))]⟩,⟨[(10,.mw 9)],[(9,.sl 3 (.i .i64))]⟩,[84,83,11,13,7],[8,7,3],10,false,""⟩)]) [(68,kdA),(69,kaE),(66,khY),(65,kht)] (.cons kfs <| .cons kbu <| .cons kkh <| .cons kjm <| .nil) (fun x=>by kernel_rfl)
def kgn:Ctr:=⟨ "",[(.sl (.pr (.i .i64) (.pr (.i .i64) (.i .i64)))),(.sl (.pr (.i .i64) (.pr (.i .i64) (.i .i64))))],[.b],fun x=>kfi x.1 x.2,[],[]⟩
theorem kiF:Good Try.prog 33 kgn:=
 kah Try.func33 (by kernel_rfl) (An:=[(0,⟨⟨[(5,.c (.i .i64))],[]⟩,⟨[],[]⟩,[0,1],[],0,true,""⟩)]) [] (.nil) (fun x=>by kernel_rfl)
def kfY:Ctr:=⟨ "",[(.sl (.pr (.i .i64) (.pr (.i .i64) .b))),(.sl (.pr (.i .i64) (.pr (.i .i64) .b)))],[.b],fun x=>kgU x.1 x.2,[],[]⟩
theorem kie:Good Try.prog 43 kfY:=
 kah Try.func43 (by kernel_rfl) (An:=[(0,⟨⟨[(5,.c (.i .i64))],[]⟩,⟨[],[]⟩,[0,1],[],0,true,""⟩)]) [] (.nil) (fun x=>by kernel_rfl)
def kgE:Ctr:=⟨ "",[(.sl (.i .i64)),(.sl (.i .i64))],[.b],fun x=>khL x.1 x.2,[],[]⟩
theorem kiT:Good Try.prog 30 kgE:=
 kah Try.func30 (by kernel_rfl) (An:=[(0,⟨⟨[(5,.c (.i .i64))],[]⟩,⟨[],[]⟩,[0,1],[],0,true,""⟩)]) [] (.nil) (fun x=>by kernel_rfl)
def kid:Ctr:=⟨ "",[],[.b],fun x=>kjH,[],[]⟩
theorem kkj:Good Try.prog 44 kid:=
 kah Try.func44 (by kernel_rfl) (An:=[]) [(30,kgE),(43,kfY),(33,kgn),(36,kkr),(24,khN),(79,kiK),(41,kiQ),(39,khE),(78,kkD),(77,kjv)] (.cons kiT <| .cons kie <| .cons kiF <| .cons kmi <| .cons kkk <| .cons kkN <| .cons kkO <| .cons kib <| .cons kme <| .cons kmb <| .nil) (fun x=>by kernel_rfl)
def kiJ:Ctr:=⟨ "",[],[.b],fun x=>law09_alive,[],[]⟩
theorem kkT:Good Try.prog 44 kiJ:=by
 have h:=kkj
 unfold kid at h
 rw [ksk] at h
 exact h
def kiI:Ctr:=⟨ "",[tBelt,(.sl tFed)],[.b],fun x=>kfQ x.1 x.2,[],[]⟩
theorem kkX:Good Try.prog 15 kiI:=
 kah Try.func15 (by kernel_rfl) (An:=[(0,⟨⟨[(5,.c (.i .i64))],[]⟩,⟨[],[]⟩,[1],[],1,true,""⟩)]) [] (.nil) (fun x=>by kernel_rfl)
def keB:Ctr:=⟨ "",[(.i .i64),(.i .i64),(.i .i64)],[.b],fun x=>kat x.1 x.2.1 x.2.2,[],[]⟩
theorem keG:Good Try.prog 57 keB:=
 kah Try.func57 (by kernel_rfl) (An:=[]) [] (.nil) (fun x=>by kernel_rfl)
def kgf:Ctr:=⟨ "",[tBelt,(.i .i64)],[(.i .i64)],fun x=>kcF x.1 x.2,[],[]⟩
theorem kgZ:Good Try.prog 48 kgf:=
 kah Try.func48 (by kernel_rfl) (An:=[(0,⟨⟨[(5,.c (.i .i64))],[]⟩,⟨[],[]⟩,[2,1],[0],1,true,""⟩)]) [] (.nil) (fun x=>by kernel_rfl)
def kjl:Ctr:=⟨ "",[tBelt],[.b],fun x=>kgp x,[],[]⟩
theorem klR:Good Try.prog 46 kjl:=
 kah Try.func46 (by kernel_rfl) (An:=[(0,⟨⟨[(3,.c (.i .i64))],[]⟩,⟨[],[]⟩,[1],[0],1,true,""⟩),(8,⟨⟨[(5,.c (.i .i64))],[]⟩,⟨[],[]⟩,[1],[0],1,true,""⟩)]) [(48,kgf),(57,keB)] (.cons kgZ <| .cons keG <| .nil) (fun x=>by kernel_rfl)
def kjo:Ctr:=⟨ "",[(.sl (.i .i64))],[.b],fun x=>kfg x,[],[]⟩
theorem klx:Good Try.prog 52 kjo:=
 kah Try.func52 (by kernel_rfl) (An:=[(0,⟨⟨[(3,.c (.i .i64))],[]⟩,⟨[],[]⟩,[0],[],0,true,""⟩)]) [(57,keB)] (.cons keG <| .nil) (fun x=>by kernel_rfl)
def kiL:Ctr:=⟨ "",[(.sl tFed)],[.b],fun x=>kfN x,[],[]⟩
theorem klb:Good Try.prog 47 kiL:=
 kah Try.func47 (by kernel_rfl) (An:=[(0,⟨⟨[(3,.c (.i .i64))],[]⟩,⟨[],[]⟩,[0],[],0,true,""⟩)]) [(52,kjo),(57,keB)] (.cons klx <| .cons keG <| .nil) (fun x=>by kernel_rfl)
def kkf:Ctr:=⟨ "",[tBelt,(.sl tFed)],[.b],fun x=>kfh x.1 x.2,[],[]⟩
theorem law09_SortApart_C_ok:Good Try.prog 9 kkf:=
 kah Try.func9 (by kernel_rfl) (An:=[(0,⟨⟨[(6,.c (.i .i64))],[]⟩,⟨[],[]⟩,[1,2,5],[0],1,true,""⟩),(8,⟨⟨[(73,.c (.i .i64))],[]⟩,⟨[],[]⟩,[72,71,2,5],[0],1,true,""⟩)]) [(47,kiL),(46,kjl),(48,kgf),(15,kiI),(44,kiJ),(39,khE)] (.cons klb <| .cons klR <| .cons kgZ <| .cons kkX <| .cons kkT <| .cons kib <| .nil) (fun x=>by kernel_rfl)
end Go.Abs
namespace Go.Abs
open Go
def keu (x0:(List Int)) (x1:Int) (v0:(Int×Int)):Option ((Int×Int)⊕Int):=
 (if (decide (v0.1<(lenI x0)))=true then ((gi x0 v0.1).bind fun v1=>(if (v1==x1)=true then (some (.inl ((w64 (v0.1+1)),(w64 (v0.2+1))))) else (some (.inl ((w64 (v0.1+1)),v0.2))))) else (some (.inr v0.2)))
def khF (x0:(List Int)) (x1:Int):Option Int:=
 ((iter (keu x0 x1) (0,0)).bind fun v2=>(some v2))
def kdr (x0:(List Int)) (v0:(Int×Int×Int×Bool)):Option ((Int×Int×Int×Bool)⊕(Int×Bool×Int)):=
 (if (decide (v0.1<16))=true then ((khF x0 v0.1).bind fun v1=>(if (decide (v0.2.1<v1))=true then (some (.inl ((w64 (v0.1+1)),v1,v0.1,false))) else (if (v1==v0.2.1)=true then (some (.inl ((w64 (v0.1+1)),v0.2.1,v0.2.2.1,true))) else (some (.inl ((w64 (v0.1+1)),v0.2)))))) else (some (.inr (v0.2.1,v0.2.2.2,v0.2.2.1))))
def kgt (x0:(List Int)):Option Int:=
 ((iter (kdr x0) (0,0,(-1),false)).bind fun v2=>(if (v2.1==0)=true then (some (-1)) else (if v2.2.1=true then (some (-1)) else (some v2.2.2))))
def kfz (x0:Belt) (x1:(List Fed)) (v0:Int):Option (Int⊕Int):=
 (if (decide (0<v0))=true then ((gi x1 v0).bind fun v1=>((gi x1 (w64 (v0-1))).bind fun v2=>(if (decide ((w64 (v1.1-v2.1))≤(w64 ((w64 (2*x0.2.2.1))+1))))=true then (some (.inl (w64 (v0-1)))) else (some (.inr v0))))) else (some (.inr v0)))
def khx (x0:Belt) (x1:(List Fed)) (x2:Int):Option Int:=
 ((iter (kfz x0 x1) x2).bind fun v3=>(some v3))
def kge (x0:Belt) (x1:(List Fed)) (v0:Int):Option (Int⊕Int):=
 (if (decide ((w64 (v0+1))<(lenI x1)))=true then ((gi x1 (w64 (v0+1))).bind fun v1=>((gi x1 v0).bind fun v2=>(if (decide ((w64 (v1.1-v2.1))≤(w64 ((w64 (2*x0.2.2.1))+1))))=true then (some (.inl (w64 (v0+1)))) else (some (.inr v0))))) else (some (.inr v0)))
def kiB (x0:Belt) (x1:(List Fed)) (x2:Int):Option Int:=
 ((iter (kge x0 x1) x2).bind fun v3=>(some v3))
def kgu (x0:Belt) (x1:Int):Option Int:=
 (if (decide (x1<0))=true then (some (-1)) else ((gi x0.2.2.2.2 x1).bind fun v0=>(if (decide (v0<0))=true then (some (-1)) else ((gi x0.2.2.2.2 x1).bind fun v1=>((kcF x0 v1).bind fun v2=>(some v2))))))
def kdO (x0:Belt) (x1:(List Fed)) (v1:Int) (v4:Int) (v5:Int):Option (Int⊕(Int⊕Unit)):=
 (if (decide (v5≤v1))=true then ((gi x1 v5).bind fun v6=>((kgt v6.2.2).bind fun v7=>((kgu x0 v7).bind fun v8=>(if (v8 != v4)=true then (some (.inr (.inl (-1)))) else (some (.inl (w64 (v5+1)))))))) else (some (.inr (.inr ()))))
def kgO (x0:Belt) (x1:(List Fed)) (x2:Int):Option Int:=
 ((khx x0 x1 x2).bind fun v0=>((kiB x0 x1 x2).bind fun v1=>((gi x1 x2).bind fun v2=>((kgt v2.2.2).bind fun v3=>((kgu x0 v3).bind fun v4=>((iter (kdO x0 x1 v1 v4) v0).bind fun v9=>(match v9 with | .inl v10=>(some v10) | .inr v11=>(if (decide (v4<0))=true then (some (-1)) else ((gi x1 v1).bind fun v12=>((gi x1 v0).bind fun v13=>((gi x0.2.2.2.1 v4).bind fun v14=>(if (decide ((w64 (v14.1-x0.2.1))<(w64 ((w64 ((w64 (v12.1-v13.1))+(w64 (3*x0.2.2.1))))+1))))=true then (some (-1)) else (some v4)))))))))))))
end Go.Abs
namespace Go.Abs
open Go
theorem kph (l:List Int) (hl:l.length≤100000) (p:Int→Bool):kaV l (fun x=>some (p x))=some (l.any p):=by
 unfold kaV kbR
 rw [kgv (F:=kaW l _) l (by omega) (fun i x=>if p x then some (i:Int) else none) (fun i hi=>by
  unfold kaW
  rw [if_pos (lenI_lt.2 hi),kaU hi,kbn (by omega)]
  simp only [Option.bind_some]
  by_cases h:p l[i]=true <;> simp [h,nextL]) (by unfold kaW; rw [if_neg kaX])]
 have:∀ (l:List Int) (k:Nat),endL ((l.zipIdx k).findSome? fun x=>if p x.1 then some (x.2:Int) else none)=(if l.any p then .inl ((k:Int)+(l.findIdx p:Nat)) else .inr ()):=by
  intro l
  induction l with
  | nil=>intro k; rfl
  | cons x l ih=>
   intro k
   rw [List.zipIdx_cons,List.findSome?_cons,List.any_cons,List.findIdx_cons]
   cases hp:p x with
   | true=>simp [endL]
   | false=>
    simp only [Bool.false_eq_true,if_false,Bool.false_or,cond_false]
    rw [ih (k+1)]
    congr 2; push_cast; omega
 rw [this l 0]
 by_cases h:l.any p=true <;> simp [h]
theorem kgV (lo hi:Int) (l:List Int) (hl:l.length≤100000):kap lo hi l=some (l.all (wi lo hi)):=by
 unfold kap
 have e:(fun u0:Int=>(kfe u0 lo hi).bind fun u1=>some u1)=fun u=>some (!wi lo hi u):=by
  funext u
  unfold kfe wi
  by_cases h1:u<lo <;> by_cases h2:hi<u <;> simp [h1,h2] <;> omega
 rw [e,kph l hl,kmI]
 simp
@[simp] theorem from1 (lo hi n:Int):kap lo hi [n]=some (wi lo hi n):=by rw [kgV lo hi [n] (by simp)]; simp
@[simp] theorem keU (n lo hi:Int):kat n lo hi=some (wi lo hi n):=by
 unfold kat wi; by_cases h:lo≤n <;> simp [h]
def saidR (l:List Int):Bool:=wi 1 9 l.length&&l.all (wi (-1) 15)
theorem ksL (l:List Int) (hl:l.length≤100000):khj l=some (saidR l):=by
 unfold khj saidR
 rw [kgV _ _ l hl,from1,kbj]
 by_cases h:wi 1 9 l.length=true <;> simp [h]
theorem ksK (l:List Int) (hl:l.length≤100000):kfg l=some (saidR l):=by
 unfold kfg saidR
 rw [khl (F:=keQ l) false l (by omega) (fun i x=>!wi (-1) 15 x) (fun i hi=>by
  unfold keQ
  rw [if_pos (lenI_lt.2 hi),kaU hi,kbn (by omega)]
  simp only [Option.bind_some,keU]
  by_cases h:wi (-1) 15 l[i]=true <;> simp [h]) (by unfold keQ; rw [if_neg kaX]),kjU (fun x=>!wi (-1) 15 x),kmI]
 simp only [keU,Option.bind_some,kbj]
 by_cases h1:wi 1 9 l.length=true <;> by_cases h3:l.all (wi (-1) 15)=true <;> simp [h1,h3]
theorem kqA {l:List Int} (h:saidR l=true):(l.length:Int)≤9∧0<l.length∧∀ x∈l,-1≤x∧x≤15:=by
 simp only [saidR,Bool.and_eq_true,wi_iff,List.all_eq_true] at h
 exact ⟨by omega,by omega,fun x hx=>h.2 x hx⟩
def kaI (k:Int) (l:List Int):Int:=(l.countP fun x=>x==k:Nat)
theorem kkp (k x:Int) (l:List Int):kaI k (l++[x])=kaI k l+if x=k then 1 else 0:=by
 unfold kaI; rw [List.countP_append]; by_cases h:x=k <;> simp [h]
theorem kjz (k:Int) (l:List Int):0≤kaI k l∧kaI k l≤l.length:=by
 unfold kaI; have:=List.countP_le_length (p:=fun x=>x==k) (l:=l); omega
theorem knI (l:List Int) (kind:Int) (hl:(l.length:Int)≤1000):∀ k i:Nat,i+k=l.length→itN (keu l kind) (k+1) ((i:Int),kaI kind (l.take i))=some (kaI kind l)
 | 0,i,h=>kaC (by
  have:i=l.length:=by omega
  subst this
  unfold keu; rw [if_neg kaX,List.take_length])
 | k+1,i,h=>by
  have hi:i<l.length:=by omega
  have hv:=kjz kind (l.take i)
  have hs:=kkp kind l[i] (l.take i)
  rw [List.take_append_getElem hi] at hs
  simp only [List.length_take] at hv
  rw [←knI l kind hl k (i+1) (by omega)]
  apply kcA
  unfold keu
  rw [if_pos (lenI_lt.2 hi),kaU hi,kbn (by omega),kal (by omega) (by omega)]
  simp only [Option.bind_some]
  by_cases hk:l[i]=kind
  ·rw [if_pos (by simpa using hk),hs,if_pos hk]
  ·rw [if_neg (by simpa using hk),hs,if_neg hk,Int.add_zero]
theorem ksd (l:List Int) (kind:Int) (hl:(l.length:Int)≤1000):khF l kind=some (kaI kind l):=by
 unfold khF
 have:=knI l kind hl l.length 0 (by omega)
 simp only [List.take_zero,Int.natCast_zero] at this
 rw [show kaI kind []=0 from rfl] at this
 rw [kbN this (by omega)]; rfl
def scanF (v:Int→Int):Nat→Int→Int→Int→Int×Int
 | 0,_,b,m=>(b,m)
 | k+1,x,b,m=>if m<v x then scanF v k (x+1) x (v x) else if v x=m then scanF v k (x+1) (-1) m else scanF v k (x+1) b m
def seenR (l:List Int):Int:=(scanF (fun k=>kaI k l) 16 0 (-1) 0).1
theorem scan0 (v:Int→Int) (hv:∀ k,0≤v k):∀ k x b m,0≤m→(m=0→b = -1)→((scanF v k x b m).2=0→(scanF v k x b m).1 = -1)
 | 0,x,b,m,_,h=>h
 | k+1,x,b,m,hm,h=>by
  simp only [scanF]
  split
  ·exact scan0 v hv k _ _ _ (hv x) (fun e=>by omega)
  ·split
   ·exact scan0 v hv k _ _ _ hm (fun _=>rfl)
   ·exact scan0 v hv k _ _ _ hm h
theorem kjT (l:List Int) (hl:(l.length:Int)≤1000):∀ (k:Nat) (x b m:Int) (e:Bool),0≤x→x+k=16→∃ b' m' e',itN (kdr l) (k+1) (x,m,b,e)=some (m',e',b')∧scanF (fun k=>kaI k l) k x (if e then -1 else b) m=(if e' then -1 else b',m')
 | 0,x,b,m,e,h0,h=>⟨b,m,e,kaC (by unfold kdr; rw [if_neg (by simp; omega)]),rfl⟩
 | k+1,x,b,m,e,h0,h=>by
  have hgo:kdr l (x,m,b,e)=some (.inl (x+1,if m<kaI x l then (kaI x l,x,false) else if kaI x l=m then (m,b,true) else (m,b,e))):=by
   unfold kdr
   rw [if_pos (by simp; omega),ksd l x hl]
   simp only [Option.bind_some,decide_eq_true_eq,beq_iff_eq]
   rw [kal (by omega) (by omega)]
   by_cases h1:m<kaI x l
   ·rw [if_pos h1,if_pos h1]
   ·rw [if_neg h1,if_neg h1]
    by_cases h2:kaI x l=m
    ·rw [if_pos h2,if_pos h2]
    ·rw [if_neg h2,if_neg h2]
  rw [kcA hgo]
  simp only [scanF]
  by_cases h1:m<kaI x l
  ·rw [if_pos h1,if_pos h1]; exact kjT l hl k (x+1) x (kaI x l) false (by omega) (by omega)
  ·rw [if_neg h1,if_neg h1]
   by_cases h2:kaI x l=m
   ·rw [if_pos h2,if_pos h2]; exact kjT l hl k (x+1) b m true (by omega) (by omega)
   ·rw [if_neg h2,if_neg h2]; exact kjT l hl k (x+1) b m e (by omega) (by omega)
theorem kqc (l:List Int) (hl:(l.length:Int)≤1000):kgt l=some (seenR l):=by
 unfold kgt seenR
 obtain ⟨b,m,e,h1,h2⟩:=kjT l hl 16 0 (-1) 0 false (by omega) (by omega)
 simp only [Bool.false_eq_true,if_false] at h2
 have h3:=scan0 (fun k=>kaI k l) (fun k=>(kjz k l).1) 16 0 (-1) 0 (by omega) (fun _=>rfl)
 rw [h2] at h3
 rw [kbN h1 (by omega),h2]
 simp only [Option.bind_some]
 simp only at h3
 by_cases hm:m=0
 ·rw [h3 hm]; simp [hm]
 ·cases e <;> simp [hm]
def tally (v:Int→Int):Arr 16 Int:=⟨(List.range 16).map fun (k:Nat)=>v (k:Int),by simp⟩
theorem klB (v:Int→Int) {x:Int} (h0:0≤x) (h1:x≤15):garr (tally v) x=some (v x):=by
 unfold garr gi tally
 rw [if_pos h0,List.getElem?_map,List.getElem?_range (by omega)]
 simp [Int.toNat_of_nonneg h0]
theorem kmr {n:Nat} {α:Type} {a b:Arr n α} (h:a.l=b.l):a=b:=by cases a; cases b; simp only at h; subst h; rfl
theorem kqs (v:Int→Int) {x:Int} (h0:0≤x) (h1:x≤15) (c:Int):aset (tally v) x c=tally fun k=>if k=x then c else v k:=by
 apply kmr
 apply List.ext_getElem?
 intro j
 unfold tally aset
 simp only
 rw [List.getElem?_set]
 by_cases hj:x.toNat=j
 ·subst hj
  simp [List.getElem?_range,show x.toNat<16 by omega,Int.toNat_of_nonneg h0]
 ·rw [if_neg hj]
  by_cases hj2:j<16
  ·simp only [List.getElem?_map,List.getElem?_range hj2,Option.map_some]
   rw [if_neg (by omega)]
  ·simp [show ¬ j<16 from hj2]
theorem kqj (l:List Int) (hl:(l.length:Int)≤1000) (hx:∀ x∈l,x≤15):∀ k i:Nat,i+k=l.length→itN (kfl l) (k+1) ((i:Int),tally fun x=>kaI x (l.take i))=some (tally fun x=>kaI x l)
 | 0,i,h=>kaC (by
  have:i=l.length:=by omega
  subst this
  unfold kfl; rw [if_neg kaX,List.take_length])
 | k+1,i,h=>by
  have hi:i<l.length:=by omega
  have hs:=fun x=>kkp x l[i] (l.take i)
  simp only [List.take_append_getElem hi] at hs
  have hl15:=hx l[i] (List.getElem_mem hi)
  rw [←kqj l hl hx k (i+1) (by omega)]
  apply kcA
  unfold kfl
  rw [if_pos (lenI_lt.2 hi),kaU hi,kbn (by omega)]
  simp only [Option.bind_some,decide_eq_true_eq]
  by_cases h0:0≤l[i]
  ·have hv:=kjz l[i] (l.take i)
   simp only [List.length_take] at hv
   rw [if_pos h0,klB _ h0 hl15]
   simp only [Option.bind_some]
   rw [kal (by omega) (by omega),kqs _ h0 hl15]
   congr 4
   funext x
   rw [hs]
   by_cases hxx:x=l[i]
   ·simp [hxx]
   ·simp [hxx,show ¬ l[i]=x from fun e=>hxx e.symm]
  ·rw [if_neg h0]
   congr 3
   apply kmr
   unfold tally
   simp only
   apply List.map_congr_left
   intro j _
   show kaI _ _=kaI _ _
   rw [hs,if_neg (by omega)]; simp
theorem kka (v:Int→Int):∀ (k:Nat) (x b m:Int),0≤x→x+k=16→itN (kes (tally v)) (k+1) (x,m,b)=some (scanF v k x b m).1
 | 0,x,b,m,_,_=>kaC (by unfold kes; rw [if_neg (by simp; omega)]; rfl)
 | k+1,x,b,m,h0,h=>by
  have hgo:kes (tally v) (x,m,b)=some (.inl (x+1,if m<v x then (v x,x) else if v x=m then (m,-1) else (m,b))):=by
   unfold kes
   rw [if_pos (by simp; omega),klB v h0 (by omega)]
   simp only [Option.bind_some,decide_eq_true_eq,beq_iff_eq]
   rw [kal (by omega) (by omega)]
   by_cases h1:m<v x
   ·rw [if_pos h1,if_pos h1]
   ·rw [if_neg h1,if_neg h1]
    by_cases h2:v x=m
    ·rw [if_pos h2,if_pos h2]
    ·rw [if_neg h2,if_neg h2]
  rw [kcA hgo]
  simp only [scanF]
  by_cases h1:m<v x
  ·rw [if_pos h1,if_pos h1]; exact kka v k _ _ _ (by omega) (by omega)
  ·rw [if_neg h1,if_neg h1]
   by_cases h2:v x=m
   ·rw [if_pos h2,if_pos h2]; exact kka v k _ _ _ (by omega) (by omega)
   ·rw [if_neg h2,if_neg h2]; exact kka v k _ _ _ (by omega) (by omega)
theorem kqn (l:List Int) (hl:(l.length:Int)≤1000) (hx:∀ x∈l,x≤15):keY l=some (seenR l):=by
 unfold keY seenR
 have:=kqj l hl hx l.length 0 (by omega)
 simp only [List.take_zero,Int.natCast_zero] at this
 rw [show (tally fun x=>kaI x [])=amk 16 0 from kmr rfl] at this
 rw [kbN this (by omega)]
 simp only [Option.bind_some]
 rw [kbN (kka _ 16 0 (-1) 0 (by omega) (by omega)) (by omega)]
 rfl
def fedF:List Fed→Int→Bool
 | [],_=>true
 | x::r,m=>wi m 1000 x.1&&wi 0 15 x.2.1&&saidR x.2.2&&fedF r (x.1+1)
theorem kjf (x:Fed) (r:List Fed) (m:Int):fedF (x::r) m=(wi m 1000 x.1&&wi 0 15 x.2.1&&saidR x.2.2&&fedF r (x.1+1)):=rfl
def fedR (l:List Fed):Bool:=decide ((l.length:Int)≤40)&&fedF l 0
theorem kkt (l:List Fed) (hr:∀ x∈l,x.2.2.length≤1000) (hl:l.length≤1000):∀ (k i:Nat) (m:Int),0≤m→i+k=l.length→itN (kcm l) (k+1) ((i:Int),m)=some (if fedF (l.drop i) m then .inr () else .inl 91)
 | 0,i,m,hm,h=>by
  have:i=l.length:=by omega
  subst this
  rw [List.drop_length]
  exact kaC (by unfold kcm; rw [if_neg kaX]; rfl)
 | k+1,i,m,hm,h=>by
  have hi:i<l.length:=by omega
  have hri:=hr l[i] (List.getElem_mem hi)
  have e:kcm l ((i:Int),m)=some (if (wi m 1000 l[i].1&&wi 0 15 l[i].2.1&&saidR l[i].2.2)=true then .inl (((i+1:Nat):Int),w64 (l[i].1+1)) else .inr (.inl 91)):=by
   unfold kcm
   rw [if_pos (lenI_lt.2 hi),kaU hi,kbn (by omega)]
   simp only [Option.bind_some,from1,ksL _ (show l[i].2.2.length≤100000 by omega)]
   by_cases h1:wi m 1000 l[i].1=true <;> by_cases h2:wi 0 15 l[i].2.1=true <;> by_cases h3:saidR l[i].2.2=true <;> simp [h1,h2,h3]
  rw [List.drop_eq_getElem_cons hi]
  rw [kjf]
  by_cases hc:(wi m 1000 l[i].1&&wi 0 15 l[i].2.1&&saidR l[i].2.2)=true
  ·rw [hc,Bool.true_and]
   rw [if_pos hc] at e
   simp only [Bool.and_eq_true,wi_iff] at hc
   rw [kal (by omega) (by omega)] at e
   rw [kcA e]
   exact kkt l hr hl k (i+1) _ (by omega) (by omega)
  ·rw [if_neg hc] at e
   rw [kaC e,Bool.eq_false_iff.2 hc]; rfl
theorem kpA (l:List Fed) (hr:∀ x∈l,x.2.2.length≤1000) (hl:l.length≤1000):keP l=some (if fedR l then 0 else 91):=by
 unfold keP fedR
 have:=kkt l hr hl l.length 0 0 (by omega) (by omega)
 rw [List.drop_zero] at this
 rw [show ((0:Int),(0:Int))=(((0:Nat):Int),0) from rfl,kbN this (by omega),kbj]
 by_cases h:(l.length:Int)≤40
 ·have h':¬ (40:Int)<l.length:=by omega
  by_cases h2:fedF l 0=true <;> simp [h,h',h2]
 ·have h':(40:Int)<l.length:=by omega
  simp [h,h']
theorem koh (l:List Fed) (hr:∀ x∈l,x.2.2.length≤1000) (hl:(l.length:Int)≤40):∀ (k i:Nat) (m:Int),0≤m→(i=0→m=0)→(∀ h:0<i,(h':i-1<l.length)→m=l[i-1].1+1)→i+k=l.length→itN (kcM l) (k+1) (i:Int)=some (if fedF (l.drop i) m then .inr () else .inl false)
 | 0,i,m,hm,h0,h1,h=>by
  have:i=l.length:=by omega
  subst this
  rw [List.drop_length]
  exact kaC (by unfold kcM; rw [if_neg kaX]; rfl)
 | k+1,i,m,hm,h0,h1,h=>by
  have hi:i<l.length:=by omega
  have hri:=hr l[i] (List.getElem_mem hi)
  have e:kcM l (i:Int)=some (if (wi m 1000 l[i].1&&wi 0 15 l[i].2.1&&saidR l[i].2.2)=true then .inl ((i+1:Nat):Int) else .inr (.inl false)):=by
   unfold kcM
   rw [if_pos (lenI_lt.2 hi),kaU hi,kbn (by omega)]
   simp only [Option.bind_some,keU,ksK _ (show l[i].2.2.length≤100000 by omega),decide_eq_true_eq]
   rcases Nat.eq_zero_or_pos i with hz | hz
   ·have hm0:=h0 hz
    subst hm0
    rw [if_neg (show ¬ (0:Int)<i by omega)]
    by_cases h1:wi 0 1000 l[i].1=true <;> by_cases h2:wi 0 15 l[i].2.1=true <;> by_cases h3:saidR l[i].2.2=true <;> simp [h1,h2,h3]
   ·have hm1:=h1 hz (by omega)
    rw [if_pos (show (0:Int)<i by omega),kng hz (by omega),kaU (show i-1<l.length by omega)]
    simp only [Option.bind_some]
    have hw:wi m 1000 l[i].1=(wi 0 1000 l[i].1&&!decide (l[i].1≤l[i-1].1)):=by
     rw [Bool.eq_iff_iff]; simp only [Bool.and_eq_true,wi_iff,Bool.not_eq_true',decide_eq_false_iff_not]; omega
    rw [hw]
    by_cases h1:wi 0 1000 l[i].1=true <;> by_cases h4:l[i].1≤l[i-1].1 <;> by_cases h2:wi 0 15 l[i].2.1=true <;> by_cases h3:saidR l[i].2.2=true <;> simp [h1,h2,h3,h4]
  rw [List.drop_eq_getElem_cons hi]
  rw [kjf]
  by_cases hc:(wi m 1000 l[i].1&&wi 0 15 l[i].2.1&&saidR l[i].2.2)=true
  ·rw [hc,Bool.true_and]
   rw [if_pos hc] at e
   simp only [Bool.and_eq_true,wi_iff] at hc
   rw [kcA e]
   exact koh l hr hl k (i+1) _ (by omega) (by omega) (fun _ _=>rfl) (by omega)
  ·rw [if_neg hc] at e
   rw [kaC e,Bool.eq_false_iff.2 hc]; rfl
theorem krC (l:List Fed) (hr:∀ x∈l,x.2.2.length≤1000):kfN l=some (fedR l):=by
 unfold kfN fedR
 rw [kbj]
 by_cases h:(l.length:Int)≤40
 ·have h':¬ (40:Int)<l.length:=by omega
  have:=koh l hr h l.length 0 0 (by omega) (fun _=>rfl) (fun h=>by omega) (by omega)
  rw [List.drop_zero] at this
  rw [show (0:Int)=((0:Nat):Int) from rfl,kbN this (by omega)]
  by_cases h2:fedF l 0=true <;> simp [h,h',h2]
 ·have h':(40:Int)<l.length:=by omega
  simp [h,h']
def keL (hi:Int):List (Int×Int)→Int→List Int→Bool
 | [],_,_=>true
 | g::r,m,s=>wi m hi g.1&&wi 0 7 g.2&&!s.contains g.2&&keL hi r (g.1+1) (g.2::s)
theorem khB (hi:Int) (g:Int×Int) (r:List (Int×Int)) (m:Int) (s:List Int):keL hi (g::r) m s=(wi m hi g.1&&wi 0 7 g.2&&!s.contains g.2&&keL hi r (g.1+1) (g.2::s)):=rfl
def beltR (b:Belt):Bool:=wi 2 100 b.1&&wi 0 (b.1-2) b.2.1&&wi 0 10 b.2.2.1&&decide ((b.2.2.2.1.length:Int)≤8)&&decide ((b.2.2.2.2.length:Int)=16)&&(b.2.2.2.2.all (wi (-1) 7))&&keL (b.1-1) b.2.2.2.1 (b.2.1+1) []
theorem krb {κ β:Type} [DecidableEq κ] (l:List (κ×β)) (k k':κ) (v:β):mget (mput l k v) k'=if k'=k then some v else mget l k':=by
 induction l with
 | nil=>simp [mput,mget]
 | cons p r ih=>
  simp only [mput]
  split
  ·rename_i h; subst h; simp only [mget]; split <;> rfl
  ·rename_i h
   simp only [mget,ih]
   by_cases h2:k'=p.1
   ·subst h2; rw [if_pos rfl,if_neg (fun e=>h e.symm)]; simp
   ·rw [if_neg h2]; simp [h2]
theorem kjD (b:Belt) (hL:wi 2 100 b.1=true) (hg:b.2.2.2.1.length≤1000):∀ (k i:Nat) (m:Int) (bins:List (Int×Bool)) (s:List Int),0≤m→(∀ x,(mget bins x).getD false=s.contains x)→i+k=b.2.2.2.1.length→itN (kbV b) (k+1) ((i:Int),m,bins)=some (if keL (b.1-1) (b.2.2.2.1.drop i) m s then .inr () else .inl 90)
 | 0,i,m,bins,s,hm,hs,h=>by
  have:i=b.2.2.2.1.length:=by omega
  subst this
  rw [List.drop_length]
  exact kaC (by unfold kbV; rw [if_neg kaX]; rfl)
 | k+1,i,m,bins,s,hm,hs,h=>by
  have hi:i<b.2.2.2.1.length:=by omega
  rw [wi_iff] at hL
  have e:kbV b ((i:Int),m,bins)=some (if (wi m (b.1-1) b.2.2.2.1[i].1&&wi 0 7 b.2.2.2.1[i].2&&!s.contains b.2.2.2.1[i].2)=true then .inl (((i+1:Nat):Int),w64 (b.2.2.2.1[i].1+1),mput bins b.2.2.2.1[i].2 true) else .inr (.inl 90)):=by
   unfold kbV
   rw [if_pos (lenI_lt.2 hi),kaU hi,kbn (by omega),kal (x:=b.1-1) (by omega) (by omega)]
   simp only [Option.bind_some,from1,hs]
   by_cases h1:wi m (b.1-1) b.2.2.2.1[i].1=true <;> by_cases h2:wi 0 7 b.2.2.2.1[i].2=true <;> cases h3:s.contains b.2.2.2.1[i].2 <;> simp only [h1,h2,h3,Bool.not_true,Bool.not_false,Bool.and_true,Bool.true_and,Bool.false_and,Bool.and_false,Bool.false_eq_true,if_true,if_false]
  rw [List.drop_eq_getElem_cons hi]
  rw [khB]
  by_cases hc:(wi m (b.1-1) b.2.2.2.1[i].1&&wi 0 7 b.2.2.2.1[i].2&&!s.contains b.2.2.2.1[i].2)=true
  ·rw [hc,Bool.true_and]
   rw [if_pos hc] at e
   simp only [Bool.and_eq_true,wi_iff] at hc
   rw [kal (by omega) (by omega)] at e
   rw [kcA e]
   exact kjD b (wi_iff.2 hL) hg k (i+1) _ _ _ (by omega) (fun x=>by
    rw [krb,List.contains_cons]
    by_cases hx:x=b.2.2.2.1[i].2
    ·simp [hx]
    ·simp only [if_neg hx,hs,show (x==b.2.2.2.1[i].2)=false by simpa using hx,Bool.false_or]) (by omega)
  ·rw [if_neg hc] at e
   rw [kaC e,Bool.eq_false_iff.2 hc]; rfl
theorem kpk (b:Belt) (hg:b.2.2.2.1.length≤1000) (hb:b.2.2.2.2.length≤1000):kev b=some (if beltR b then 0 else 90):=by
 unfold kev beltR
 simp only [from1,Option.bind_some,kgV _ _ b.2.2.2.2 (by omega),kbj]
 by_cases h1:wi 2 100 b.1=true
 ·have hw:=wi_iff.1 h1
  rw [kal (x:=b.1-2) (by omega) (by omega)]
  by_cases h2:wi 0 (b.1-2) b.2.1=true
  ·have hw2:=wi_iff.1 h2
   have:=kjD b h1 hg b.2.2.2.1.length 0 (b.2.1+1) [] [] (by omega) (fun x=>rfl) (by omega)
   rw [List.drop_zero] at this
   rw [kal (x:=b.2.1+1) (by omega) (by omega),show ((0:Int),b.2.1+1,([]:List (Int×Bool)))=(((0:Nat):Int),b.2.1+1,[]) from rfl,kbN this (by omega)]
   by_cases h3:wi 0 10 b.2.2.1=true
   ·by_cases h4:(b.2.2.2.1.length:Int)≤8
    ·have h4':¬ (8:Int)<b.2.2.2.1.length:=by omega
     by_cases h5:(b.2.2.2.2.length:Int)=16
     ·by_cases h6:b.2.2.2.2.all (wi (-1) 7)=true
      ·by_cases h7:keL (b.1-1) b.2.2.2.1 (b.2.1+1) []=true <;> simp [h1,h2,h3,h4,h4',h5,h6,h7]
      ·simp [h1,h2,h3,h4,h4',h5,h6]
     ·simp [h1,h2,h3,h4,h4',h5]
    ·have h4':(8:Int)<b.2.2.2.1.length:=by omega
     simp [h1,h2,h3,h4,h4']
   ·simp [h1,h2,h3]
  ·simp [h1,h2]
 ·simp [h1]
def idxF {α:Type} (p:α→Bool):List α→Int→Int
 | [],_=>-1
 | x::r,i=>if p x then i else idxF p r (i+1)
theorem kjP {α:Type} (p:α→Bool):∀ (l:List α) (i:Int),0≤i→0≤idxF p l i∨idxF p l i = -1
 | [],i,_=>.inr rfl
 | x::r,i,h=>by
  simp only [idxF]
  split
  ·exact .inl h
  ·exact kjP p r (i+1) (by omega)
theorem klW {α:Type} (p:α→Bool):∀ (l:List α) (i:Nat) (j:Int),0≤j→(h:i<l.length)→p l[i]=true→(idxF p l j=j+i↔(l.take i).any p=false)
 | [],i,j,_,h,_=>by simp at h
 | x::r,0,j,hj,h,hp=>by simp at hp; simp [idxF,hp]
 | x::r,i+1,j,hj,h,hp=>by
  simp only [idxF,List.take_succ_cons,List.any_cons]
  by_cases hx:p x=true
  ·simp only [hx,if_true,Bool.true_or]; constructor
   ·intro e; omega
   ·intro e; cases e
  ·have ih:=klW p r i (j+1) (by omega) (by simpa using h) (by simpa using hp)
   rw [if_neg hx,Bool.eq_false_iff.2 hx,Bool.false_or,←ih]
   constructor <;> intro e <;> rw [e] <;> omega
theorem kpd (b:Belt) (bin:Int) (hg:b.2.2.2.1.length≤1000):∀ k i:Nat,i+k=b.2.2.2.1.length→itN (kcO b bin) (k+1) (i:Int)=some (if 0≤idxF (fun g=>g.2==bin) (b.2.2.2.1.drop i) i then .inl (idxF (fun g=>g.2==bin) (b.2.2.2.1.drop i) i) else .inr ())
 | 0,i,h=>by
  have:i=b.2.2.2.1.length:=by omega
  subst this
  rw [List.drop_length]
  exact kaC (by unfold kcO; rw [if_neg kaX]; rfl)
 | k+1,i,h=>by
  have hi:i<b.2.2.2.1.length:=by omega
  rw [List.drop_eq_getElem_cons hi]
  by_cases hp:(b.2.2.2.1[i].2==bin)=true
  ·have e:idxF (fun g:Int×Int=>g.2==bin) (b.2.2.2.1[i]::List.drop (i+1) b.2.2.2.1) i=i:=by
    show (if (b.2.2.2.1[i].2==bin)=true then _ else _)=_
    rw [if_pos hp]
   rw [e,if_pos (by omega)]
   exact kaC (by
    unfold kcO
    rw [if_pos (lenI_lt.2 hi),kaU hi]
    simp only [Option.bind_some]
    rw [if_pos hp])
  ·have e:idxF (fun g:Int×Int=>g.2==bin) (b.2.2.2.1[i]::List.drop (i+1) b.2.2.2.1) i=idxF (fun g:Int×Int=>g.2==bin) (List.drop (i+1) b.2.2.2.1) ((i+1:Nat):Int):=by
    show (if (b.2.2.2.1[i].2==bin)=true then _ else _)=_
    rw [if_neg hp]; rfl
   rw [e,←kpd b bin hg k (i+1) (by omega)]
   apply kcA
   unfold kcO
   rw [if_pos (lenI_lt.2 hi),kaU hi,kbn (by omega)]
   simp only [Option.bind_some]
   rw [if_neg hp]
def kbr (b:Belt) (bin:Int):Int:=idxF (fun g=>g.2==bin) b.2.2.2.1 0
theorem kle (b:Belt) (bin:Int) (hg:b.2.2.2.1.length≤1000):kcF b bin=some (kbr b bin):=by
 unfold kcF kbr
 have:=kpd b bin hg b.2.2.2.1.length 0 (by omega)
 rw [List.drop_zero] at this
 rw [show (0:Int)=((0:Nat):Int) from rfl,kbN this (by omega)]
 rcases kjP (fun g=>g.2==bin) b.2.2.2.1 ((0:Nat):Int) (by omega) with h | h
 ·rw [if_pos h]; rfl
 ·rw [if_neg (by omega),h]; rfl
theorem kpR (b:Belt) (hL:wi 2 100 b.1=true) (hC:wi 0 (b.1-2) b.2.1=true) (hl:(b.2.2.2.1.length:Int)≤8):∀ (k i:Nat) (m:Int),b.2.1+1≤m→(i=0→m=b.2.1+1)→(∀ h:0<i,(h':i-1<b.2.2.2.1.length)→m=b.2.2.2.1[i-1].1+1)→i+k=b.2.2.2.1.length→
  itN (kdo b) (k+1) (i:Int)=some (if keL (b.1-1) (b.2.2.2.1.drop i) m ((b.2.2.2.1.take i).map (·.2)).reverse then .inr () else .inl false)
 | 0,i,m,hm,h0,h1,h=>by
  have:i=b.2.2.2.1.length:=by omega
  subst this
  rw [List.drop_length]
  exact kaC (by unfold kdo; rw [if_neg kaX]; rfl)
 | k+1,i,m,hm,h0,h1,h=>by
  have hi:i<b.2.2.2.1.length:=by omega
  have hw0:=wi_iff.1 hL
  have hw1:=wi_iff.1 hC
  have htk:((b.2.2.2.1.take (i+1)).map (·.2)).reverse=b.2.2.2.1[i].2::((b.2.2.2.1.take i).map (·.2)).reverse:=by
   rw [←List.take_append_getElem hi,List.map_append,List.reverse_append]; rfl
  have hlead:(kbr b b.2.2.2.1[i].2 != (i:Int))=((b.2.2.2.1.take i).map (·.2)).reverse.contains b.2.2.2.1[i].2:=by
   have:=klW (fun g=>g.2==b.2.2.2.1[i].2) b.2.2.2.1 i 0 (by omega) hi (by simp)
   unfold kbr
   rw [Int.zero_add] at this
   rw [Bool.eq_iff_iff,bne_iff_ne]
   rw [Ne,this]
   rw [Bool.not_eq_false,List.any_eq_true,List.contains_iff_mem,List.mem_reverse,List.mem_map]
   simp only [beq_iff_eq]
  have e:kdo b (i:Int)=some (if (wi m (b.1-1) b.2.2.2.1[i].1&&wi 0 7 b.2.2.2.1[i].2&&!((b.2.2.2.1.take i).map (·.2)).reverse.contains b.2.2.2.1[i].2)=true then .inl ((i+1:Nat):Int) else .inr (.inl false)):=by
   unfold kdo
   rw [if_pos (lenI_lt.2 hi),kaU hi,kbn (by omega),kal (x:=b.1-1) (by omega) (by omega),kal (x:=b.2.1+1) (by omega) (by omega)]
   simp only [Option.bind_some,keU,kle b _ (show b.2.2.2.1.length≤1000 by omega),decide_eq_true_eq,hlead]
   rcases Nat.eq_zero_or_pos i with hz | hz
   ·have hm0:=h0 hz
    rw [if_neg (show ¬ (0:Int)<i by omega),←hm0]
    cases h1:wi m (b.1-1) b.2.2.2.1[i].1 <;> cases h2:wi 0 7 b.2.2.2.1[i].2 <;> cases h3:((b.2.2.2.1.take i).map (·.2)).reverse.contains b.2.2.2.1[i].2 <;> simp only [Bool.not_true,Bool.not_false,Bool.and_true,Bool.true_and,Bool.false_and,Bool.and_false,Bool.false_eq_true,if_true,if_false]
   ·have hm1:=h1 hz (by omega)
    rw [if_pos (show (0:Int)<i by omega),kng hz (by omega),kaU (show i-1<b.2.2.2.1.length by omega)]
    simp only [Option.bind_some]
    have hw:wi m (b.1-1) b.2.2.2.1[i].1=(wi (b.2.1+1) (b.1-1) b.2.2.2.1[i].1&&!decide (b.2.2.2.1[i].1≤b.2.2.2.1[i-1].1)):=by
     rw [Bool.eq_iff_iff]; simp only [Bool.and_eq_true,wi_iff,Bool.not_eq_true',decide_eq_false_iff_not]; omega
    rw [hw]
    by_cases h4:b.2.2.2.1[i].1≤b.2.2.2.1[i-1].1
    ·rw [if_pos h4]
     cases h1:wi (b.2.1+1) (b.1-1) b.2.2.2.1[i].1 <;> simp [h4]
    ·rw [if_neg h4]
     cases h1:wi (b.2.1+1) (b.1-1) b.2.2.2.1[i].1 <;> cases h2:wi 0 7 b.2.2.2.1[i].2 <;> cases h3:((b.2.2.2.1.take i).map (·.2)).reverse.contains b.2.2.2.1[i].2 <;> simp only [h4,decide_false,Bool.not_true,Bool.not_false,Bool.and_true,Bool.true_and,Bool.false_and,Bool.and_false,Bool.false_eq_true,if_true,if_false]
  rw [List.drop_eq_getElem_cons hi]
  rw [khB]
  by_cases hc:(wi m (b.1-1) b.2.2.2.1[i].1&&wi 0 7 b.2.2.2.1[i].2&&!((b.2.2.2.1.take i).map (·.2)).reverse.contains b.2.2.2.1[i].2)=true
  ·rw [hc,Bool.true_and]
   rw [if_pos hc] at e
   simp only [Bool.and_eq_true,wi_iff] at hc
   rw [kcA e,←htk]
   exact kpR b hL hC hl k (i+1) _ (by omega) (by omega) (fun _ _=>rfl) (by omega)
  ·rw [if_neg hc] at e
   rw [kaC e,Bool.eq_false_iff.2 hc]; rfl
theorem ksJ (b:Belt) (hb:(b.2.2.2.2.length:Int)=16):iter (kdv b) 0=some (if b.2.2.2.2.all (wi (-1) 7) then .inr () else .inl false):=by
 rw [khl (F:=kdv b) false b.2.2.2.2 (by omega) (fun i x=>!wi (-1) 7 x) (fun i hi=>by
  unfold kdv
  rw [if_pos (by simp; omega),kaU hi,kbn (by omega)]
  simp only [Option.bind_some,keU]
  by_cases h:wi (-1) 7 b.2.2.2.2[i]=true <;> simp [h]) (by unfold kdv; rw [if_neg (by simp; omega)]),kjU (fun x=>!wi (-1) 7 x),kmI]
 by_cases h:b.2.2.2.2.all (wi (-1) 7)=true <;> simp [h]
theorem ksM (b:Belt):kgp b=some (beltR b):=by
 unfold kgp beltR
 simp only [keU,Option.bind_some,kbj]
 by_cases h1:wi 2 100 b.1=true
 ·have hw:=wi_iff.1 h1
  rw [kal (x:=b.1-2) (by omega) (by omega)]
  by_cases h2:wi 0 (b.1-2) b.2.1=true
  ·by_cases h3:wi 0 10 b.2.2.1=true
   ·by_cases h4:(b.2.2.2.1.length:Int)≤8
    ·have h4':¬ (8:Int)<b.2.2.2.1.length:=by omega
     have hw2:=wi_iff.1 h2
     have:=kpR b h1 h2 h4 b.2.2.2.1.length 0 (b.2.1+1) (by omega) (fun _=>rfl) (fun h=>by omega) (by omega)
     rw [List.drop_zero,List.take_zero] at this
     by_cases h5:(b.2.2.2.2.length:Int)=16
     ·rw [ksJ b h5,show (0:Int)=((0:Nat):Int) from rfl,kbN this (by omega)]
      by_cases h6:b.2.2.2.2.all (wi (-1) 7)=true
      ·by_cases h7:keL (b.1-1) b.2.2.2.1 (b.2.1+1) []=true <;> simp [h1,h2,h3,h4,h4',h5,h6,h7]
      ·by_cases h7:keL (b.1-1) b.2.2.2.1 (b.2.1+1) []=true <;> simp [h1,h2,h3,h4,h4',h5,h6,h7]
     ·simp [h1,h2,h3,h4,h4',h5]
    ·have h4':(8:Int)<b.2.2.2.1.length:=by omega
     simp [h1,h2,h3,h4,h4']
   ·simp [h1,h2,h3]
  ·simp [h1,h2]
 ·simp [h1]
theorem ktp (b:Belt) (f:List Fed) (hg:b.2.2.2.1.length≤1000) (hb:b.2.2.2.2.length≤1000) (hr:∀ x∈f,x.2.2.length≤1000) (hl:f.length≤1000) :
  kgT b f=some (if beltR b then (if fedR f then (some (b,f),0) else (none,91)) else (none,90)):=by
 unfold kgT
 rw [kpk b hg hb,kpA f hr hl]
 by_cases h:beltR b=true <;> by_cases h2:fedR f=true <;> simp [h,h2]
end Go.Abs
namespace Go.Abs
open Go
theorem kgG {α β:Type} {F:α→Option (α⊕β)} (I:α→Prop) (m:α→Nat) (R:β→Prop)
  (h:∀ x,I x→(∃ z,F x=some (.inr z)∧R z)∨∃ y,F x=some (.inl y)∧I y∧m y<m x) (x:α) (hx:I x) (hm:m x<4611686018427387904):∃ z,iter F x=some z∧R z:=by
 have:∀ n x,I x→m x<n→∃ z,itN F n x=some z∧R z:=by
  intro n
  induction n with
  | zero=>intro x _ h0; omega
  | succ n ih=>
   intro x hx hm
   rcases h x hx with ⟨z,e,hz⟩ | ⟨y,e,hy,hlt⟩
   ·exact ⟨z,kaC e,hz⟩
   ·rw [kcA e]; exact ih y hy (by omega)
 obtain ⟨z,e,hz⟩:=this 4611686018427387904 x hx hm
 exact ⟨z,kbN e (Nat.le_refl _),hz⟩
abbrev Sw:=Int×Int×Bool
theorem w64n {x:Int} {n:Nat} (h:x=n) (hn:n≤1000000):w64 x=(n:Int):=by rw [kal (by omega) (by omega),h]
end Go.Abs
namespace Go.Abs
open Go
def gg (l:List Sw) (k:Nat):Sw:=(l[k]?).getD (0,0,false)
structure COk (cmp:Sw×Sw→Option Int) (le:Sw→Sw→Prop):Prop where
 c:∀ x y,∃ v,cmp (x,y)=some v∧(v<0↔¬ le y x)
 tr:∀ x y z,le x y→le y z→le x z
 tot:∀ x y,le x y∨le y x
section
variable {cmp:Sw×Sw→Option Int} {le:Sw→Sw→Prop} (ok:COk cmp le)
include ok
end
end Go.Abs
namespace Go.Abs
open Go
section
variable {cmp:Sw×Sw→Option Int} {le:Sw→Sw→Prop} (ok:COk cmp le)
include ok
end
end Go.Abs
namespace Go.Abs
open Go
section
variable {cmp:Sw×Sw→Option Int} {le:Sw→Sw→Prop} (ok:COk cmp le)
include ok
end
end Go.Abs
namespace Go.Abs
open Go
section
variable {cmp:Sw×Sw→Option Int} {le:Sw→Sw→Prop} (ok:COk cmp le)
include ok
end
end Go.Abs
namespace Go.Abs
open Go
def kth (x t:Sw):Bool:=decide (t.1<x.1)||(t.1==x.1&&decide (t.2.1<x.2.1))
end Go.Abs
namespace Go.Abs
open Go
theorem kjW (v:Int→Int):∀ (k:Nat) (x b m:Int),0≤x→x+k≤16→-1≤b→b≤15→-1≤(scanF v k x b m).1∧(scanF v k x b m).1≤15
 | 0,x,b,m,h0,h1,h2,h3=>⟨h2,h3⟩
 | k+1,x,b,m,h0,h1,h2,h3=>by
  simp only [scanF]
  split
  ·exact kjW v k _ _ _ (by omega) (by omega) (by omega) (by omega)
  ·split
   ·exact kjW v k _ _ _ (by omega) (by omega) (by omega) (by omega)
   ·exact kjW v k _ _ _ (by omega) (by omega) h2 h3
theorem kjS (l:List Int):-1≤seenR l∧seenR l≤15:=kjW _ 16 0 (-1) 0 (by omega) (by omega) (by omega) (by omega)
theorem kkV {α:Type} (p:α→Bool):∀ (l:List α) (k:Nat),endL ((l.zipIdx k).findSome? fun x=>if p x.1 then some (x.2:Int) else none)=(if 0≤idxF p l (k:Int) then .inl (idxF p l (k:Int)) else .inr ())
 | [],k=>rfl
 | x::l,k=>by
  rw [List.zipIdx_cons,List.findSome?_cons]
  simp only [idxF]
  by_cases hp:p x=true
  ·simp [hp,endL]
  ·simp only [if_neg hp]
   rw [kkV p l (k+1)]
   rfl
theorem kqe {α:Type} (p:α→Bool) (l:List α):(match (if 0≤idxF p l 0 then (.inl (idxF p l 0)) else .inr ():Int⊕Unit) with | .inl v4=>(some v4) | .inr _=>(some (-1)))=some (idxF p l 0):=by
 rcases kjP p l 0 (by omega) with h | h
 ·rw [if_pos h]
 ·rw [if_neg (by omega),h]
theorem kqo (l:List (Int×Int)) (f:(Int×Int)→Option Bool) (p:(Int×Int)→Bool) (h:∀ g∈l,f g=some (p g)) (hl:l.length≤100000):kaB l f=some (idxF p l 0):=by
 unfold kaB
 rw [kgv (F:=kar l f) l (by omega) (fun i x=>if p x then some (i:Int) else none) (fun i hi=>by
  unfold kar
  rw [if_pos (lenI_lt.2 hi),kaU hi,kbn (by omega)]
  simp only [Option.bind_some]
  rw [h _ (List.getElem_mem _)]
  simp only [Option.bind_some]
  by_cases h:p l[i]=true <;> simp [h,nextL]) (by unfold kar; rw [if_neg kaX])]
 simp only [Option.bind_some]
 rw [kkV p l 0]
 exact kqe p l
theorem knW (l:List Fed) (f:Fed→Option Bool) (p:Fed→Bool) (h:∀ g∈l,f g=some (p g)) (hl:l.length≤100000):kaw l f=some (l.any p):=by
 unfold kaw kbg
 rw [kgv (F:=kay l f) l (by omega) (fun i x=>if p x then some (i:Int) else none) (fun i hi=>by
  unfold kay
  rw [if_pos (lenI_lt.2 hi),kaU hi,kbn (by omega)]
  simp only [Option.bind_some]
  rw [h _ (List.getElem_mem _)]
  simp only [Option.bind_some]
  by_cases h:p l[i]=true <;> simp [h,nextL]) (by unfold kay; rw [if_neg kaX])]
 simp only [Option.bind_some]
 rw [kkV p l 0]
 have e:=kqe p l
 refine Eq.trans (congrArg (fun o:Option Int=>o.bind fun v0=>some (decide (0≤v0))) e) ?_
 simp only [Option.bind_some,Option.some.injEq]
 have:∀ (l:List Fed) (k:Int),0≤k→decide (0≤idxF p l k)=l.any p:=by
  intro l
  induction l with
  | nil=>intro k hk; simp [idxF]
  | cons x l ih=>
   intro k hk
   simp only [idxF,List.any_cons]
   by_cases hp:p x=true
   ·simp [hp,hk]
   ·rw [Bool.not_eq_true] at hp
    simp only [hp,Bool.false_eq_true,if_false,Bool.false_or]; exact ih (k+1) (by omega)
 exact this l 0 (by omega)
structure BeltOk (b:Belt):Prop where
 l0:2≤b.1
 l1:b.1≤100
 c0:0≤b.2.1
 c1:b.2.1≤98
 s0:0≤b.2.2.1
 s1:b.2.2.1≤10
 gl:b.2.2.2.1.length≤8
 bl:b.2.2.2.2.length=16
 bb:∀ x∈b.2.2.2.2,-1≤x∧x≤7
 gb:∀ g∈b.2.2.2.1,0≤g.1∧g.1≤99∧0≤g.2∧g.2≤7
theorem kls (hi:Int):∀ (l:List (Int×Int)) (m:Int) (s:List Int),0≤m→keL hi l m s=true→∀ g∈l,0≤g.1∧g.1≤hi∧0≤g.2∧g.2≤7
 | [],m,s,hm,h,g,hg=>by cases hg
 | x::r,m,s,hm,h,g,hg=>by
  rw [khB] at h
  simp only [Bool.and_eq_true] at h
  obtain ⟨⟨⟨h1,h2⟩,h3⟩,h4⟩:=h
  rw [wi_iff] at h1 h2
  rcases List.mem_cons.1 hg with rfl | hg
  ·exact ⟨by omega,by omega,h2.1,h2.2⟩
  ·exact kls hi r _ _ (by omega) h4 g hg
theorem kpa {b:Belt} (h:beltR b=true):BeltOk b:=by
 unfold beltR at h
 simp only [Bool.and_eq_true,decide_eq_true_eq,List.all_eq_true] at h
 obtain ⟨⟨⟨⟨⟨⟨h1,h2⟩,h3⟩,h4⟩,h5⟩,h6⟩,h7⟩:=h
 rw [wi_iff] at h1 h2 h3
 have hg:=kls _ _ _ _ (by omega) h7
 refine ⟨h1.1,h1.2,h2.1,by omega,h3.1,h3.2,by omega,by omega,fun x hx=>wi_iff.1 (h6 x hx),fun g hg'=>?_⟩
 obtain ⟨a1,a2,a3,a4⟩:=hg g hg'
 exact ⟨a1,by omega,a3,a4⟩
def fedOk (x:Fed):Prop:=x.2.2.length≤1000∧∀ t∈x.2.2,t≤15
def gateK (b:Belt) (k:Int):Int:=if k<0 then -1 else kbr b ((b.2.2.2.2[k.toNat]?).getD (-1))
def gateF (b:Belt) (x:Fed):Int:=gateK b (seenR x.2.2)
theorem knj {α:Type} (p:α→Bool):∀ (l:List α) (j:Int),(∀ x∈l,p x=false)→idxF p l j = -1
 | [],j,h=>rfl
 | x::r,j,h=>by
  simp only [idxF]
  rw [if_neg (by rw [h x (by simp)]; decide)]
  exact knj p r _ fun y hy=>h y (List.mem_cons_of_mem _ hy)
theorem kpY {α:Type} (p:α→Bool):∀ (l:List α) (j:Int),0≤j→idxF p l j<j+l.length
 | [],j,h=>by simp [idxF]; omega
 | x::r,j,h=>by
  simp only [idxF,List.length_cons]
  split
  ·push_cast; omega
  ·have:=kpY p r (j+1) (by omega); push_cast; omega
theorem krJ {b:Belt} (k:Int):-1≤gateK b k∧gateK b k<b.2.2.2.1.length∨gateK b k = -1:=by
 unfold gateK
 split
 ·exact .inr rfl
 ·unfold kbr
  have h1:=kpY (fun g=>g.2==(b.2.2.2.2[k.toNat]?).getD (-1)) b.2.2.2.1 0 (by omega)
  rcases kjP (fun g=>g.2==(b.2.2.2.2[k.toNat]?).getD (-1)) b.2.2.2.1 0 (by omega) with h | h
  ·exact .inl ⟨by omega,by omega⟩
  ·exact .inr h
theorem klV {b:Belt} (B:BeltOk b) {k:Int} (hk:k≤15):kgu b k=some (gateK b k):=by
 unfold kgu gateK
 by_cases h:k<0
 ·simp [h]
 ·have hlt:k.toNat<b.2.2.2.2.length:=by rw [B.bl]; omega
  rw [if_neg (by simpa using h),if_neg h,kgx (by omega) (by omega)]
  simp only [Option.bind_some,decide_eq_true_eq]
  rw [List.getElem?_eq_getElem hlt]
  simp only [Option.getD_some]
  split
  ·rename_i hn
   unfold kbr
   rw [knj]
   intro g hg
   have:=(B.gb g hg).2.2.1
   simp only [beq_eq_false_iff_ne,ne_eq]
   omega
  ·rw [kle b _ (by have:=B.gl; omega)]; rfl
theorem kkC {b:Belt} (B:BeltOk b) (l:List Fed) {x:Fed} (hx:fedOk x):kcV (some (b,l)) x=some (gateF b x):=by
 unfold kcV gateF gateK
 rw [kqn _ (by have:=hx.1; omega) hx.2]
 simp only [Option.bind_some,decide_eq_true_eq]
 have hk:=(kjS x.2.2).2
 split
 ·rfl
 ·rename_i h
  have hlt:(seenR x.2.2).toNat<b.2.2.2.2.length:=by rw [B.bl]; omega
  rw [kqo _ _ (fun g=>g.2==(b.2.2.2.2[(seenR x.2.2).toNat]?).getD (-1)) (fun g hg=>by
   unfold keE
   simp only [Option.bind_some]
   rw [kgx (by omega) (by omega),List.getElem?_eq_getElem hlt]
   rfl) (by have:=B.gl; omega)]
  rfl
end Go.Abs
namespace Go.Abs
open Go
def fd (l:List Fed) (i:Nat):Fed:=(l[i]?).getD (0,0,[])
theorem kfd {l:List Fed} {i:Nat} (h:i<l.length):fd l i=l[i]:=by unfold fd; rw [List.getElem?_eq_getElem h]; rfl
theorem gi_fd {l:List Fed} {i:Nat} (h:i<l.length):gi l (i:Int)=some (fd l i):=by rw [kaU h,kfd h]
structure FedsOk (l:List Fed):Prop where
 len:l.length≤40
 ok:∀ x∈l,fedOk x∧0≤x.1∧x.1≤1000
theorem FedsOk.fd {l:List Fed} (h:FedsOk l) {i:Nat} (hi:i<l.length):fedOk (fd l i)∧0≤(fd l i).1∧(fd l i).1≤1000:=by
 rw [kfd hi]; exact h.ok _ (List.getElem_mem _)
def seg (l:List Fed) (s e:Nat):List Fed:=(l.drop s).take (e-s)
theorem kfB {l:List Fed} {s e:Nat} (h:e≤l.length):(seg l s e).length=e-s:=by unfold seg; rw [List.length_take,List.length_drop]; omega
theorem khK {l:List Fed} {s e j:Nat} (h:j<e-s):fd (seg l s e) j=fd l (s+j):=by
 unfold fd seg
 rw [List.getElem?_take,if_pos h,List.getElem?_drop]
def Gc (b:Belt) (c:List Fed):Int:=
 if gateF b (fd c 0)<0 then -1 else if c.any (fun x=>gateF b x != gateF b (fd c 0)) then -1 else
  if ((b.2.2.2.1[(gateF b (fd c 0)).toNat]?).getD (0,0)).1-b.2.1<(fd c (c.length-1)).1-(fd c 0).1+3*b.2.2.1+1 then -1 else gateF b (fd c 0)
theorem klh {b:Belt} {x:Fed} (h:¬ gateF b x<0):(gateF b x).toNat<b.2.2.2.1.length:=by
 unfold gateF at *
 rcases krJ (b:=b) (seenR x.2.2) with ⟨h1,h2⟩ | h1 <;> omega
theorem kqM {b:Belt} (B:BeltOk b) (l:List Fed) {c:List Fed} (hc:FedsOk c) (h0:0<c.length):kdi (some (b,l)) c=some (Gc b c):=by
 unfold kdi Gc
 have hl:=hc.len
 have k1:=hc.fd (i:=0) h0
 have k2:=hc.fd (i:=c.length-1) (by omega)
 rw [show (0:Int)=((0:Nat):Int) from rfl,gi_fd h0]
 simp only [Option.bind_some]
 rw [kkC B l k1.1]
 simp only [Option.bind_some]
 rw [kbj,w64n (n:=c.length-1) (by omega) (by omega),gi_fd (show c.length-1<c.length by omega)]
 simp only [Option.bind_some,decide_eq_true_eq,Int.natCast_zero]
 by_cases hg:gateF b (fd c 0)<0
 ·rw [if_pos hg,if_pos hg]
 ·rw [if_neg hg,if_neg hg,knW c _ (fun x=>gateF b x != gateF b (fd c 0)) (fun x hx=>by
   unfold kdI
   rw [kkC B l (hc.ok x hx).1]
   rfl) (by omega)]
  simp only [Option.bind_some]
  split
  ·rfl
  ·have hlt:=klh hg
   rw [kgx (by omega) (by omega),List.getElem?_eq_getElem hlt]
   simp only [Option.bind_some,Option.getD_some]
   have hgb:=B.gb _ (List.getElem_mem hlt)
   have:=B.s0; have:=B.s1; have:=B.c0; have:=B.c1
   generalize b.2.2.2.1[(gateF b (fd c 0)).toNat]'hlt=gt at *
   rw [kal (x:=gt.1-b.2.1) (by omega) (by omega),kal (x:=(fd c (c.length-1)).1-(fd c 0).1) (by omega) (by omega),kal (x:=3*b.2.2.1) (by omega) (by omega),kal (x:=(fd c (c.length-1)).1-(fd c 0).1+3*b.2.2.1) (by omega) (by omega),kal (x:=(fd c (c.length-1)).1-(fd c 0).1+3*b.2.2.1+1) (by omega) (by omega)]
   split <;> rfl
structure Clus (D:Int) (l:List Fed) (s e:Nat):Prop where
 lt:s<e
 le:e≤l.length
 lo:s=0∨D<(fd l s).1-(fd l (s-1)).1
 mid:∀ k,s<k→k<e→(fd l k).1-(fd l (k-1)).1≤D
 hi:e=l.length∨D<(fd l e).1-(fd l (e-1)).1
section
variable {b:Belt} {l:List Fed} (B:BeltOk b) (L:FedsOk l) {s e:Nat} (C:Clus (2*b.2.2.1+1) l s e)
include B L C
theorem ksa {i:Nat} (h1:s≤i) (h2:i<e):khx b l i=some (s:Int):=by
 have hL:=L.len; have:=C.le; have:=B.s0; have:=B.s1
 unfold khx
 obtain ⟨z,hz,rfl⟩:=kgG (F:=kfz b l) (fun v=>∃ j:Nat,v=j∧s≤j∧j≤i) (fun v=>v.toNat) (fun z=>z=(s:Int)) (fun v ⟨j,hj,g1,g2⟩=>by
  subst hj
  unfold kfz
  by_cases hc:0<j
  ·have t1:=L.fd (i:=j) (by omega)
   have t2:=L.fd (i:=j-1) (by omega)
   rw [if_pos (by simpa using hc),gi_fd (show j<l.length by omega),w64n (x:=(j:Int)-1) (n:=j-1) (by omega) (by omega),gi_fd (show j-1<l.length by omega)]
   simp only [Option.bind_some,decide_eq_true_eq]
   rw [kal (x:=(fd l j).1-(fd l (j-1)).1) (by omega) (by omega),kal (x:=2*b.2.2.1) (by omega) (by omega),kal (x:=2*b.2.2.1+1) (by omega) (by omega)]
   by_cases e1:j=s
   ·left
    subst e1
    rw [if_neg (by have:=C.lo; omega)]
    exact ⟨_,rfl,rfl⟩
   ·right
    rw [if_pos (C.mid j (by omega) (by omega))]
    exact ⟨_,rfl,⟨j-1,rfl,by omega,by omega⟩,by omega⟩
  ·left
   rw [if_neg (by simpa using hc)]
   exact ⟨_,rfl,by omega⟩) (i:Int) ⟨i,rfl,h1,Nat.le_refl _⟩ (by omega)
 rw [hz]; rfl
theorem kso {i:Nat} (h1:s≤i) (h2:i<e):kiB b l i=some ((e-1:Nat):Int):=by
 have hL:=L.len; have:=C.le; have:=B.s0; have:=B.s1
 unfold kiB
 obtain ⟨z,hz,rfl⟩:=kgG (F:=kge b l) (fun v=>∃ j:Nat,v=j∧i≤j∧j≤e-1) (fun v=>e-v.toNat) (fun z=>z=((e-1:Nat):Int)) (fun v ⟨j,hj,g1,g2⟩=>by
  subst hj
  unfold kge
  rw [w64n (x:=(j:Int)+1) (n:=j+1) (by push_cast; rfl) (by omega)]
  by_cases hc:j+1<l.length
  ·have t1:=L.fd (i:=j) (by omega)
   have t2:=L.fd (i:=j+1) hc
   rw [if_pos (lenI_lt.2 hc),gi_fd hc,gi_fd (show j<l.length by omega)]
   simp only [Option.bind_some,decide_eq_true_eq]
   rw [kal (x:=(fd l (j+1)).1-(fd l j).1) (by omega) (by omega),kal (x:=2*b.2.2.1) (by omega) (by omega),kal (x:=2*b.2.2.1+1) (by omega) (by omega)]
   by_cases e1:j=e-1
   ·left
    have hh:=C.hi
    rw [show e=j+1 by omega,show j+1-1=j by omega] at hh
    rw [if_neg (by omega)]
    exact ⟨_,rfl,by rw [e1]⟩
   ·right
    have:=C.mid (j+1) (by omega) (by omega)
    rw [show j+1-1=j by omega] at this
    rw [if_pos this]
    exact ⟨_,rfl,⟨j+1,rfl,by omega,by omega⟩,by omega⟩
  ·left
   rw [if_neg (by rw [lenI_lt]; exact hc)]
   exact ⟨_,rfl,by rw [show j=e-1 by omega]⟩) (i:Int) ⟨i,rfl,Nat.le_refl _,by omega⟩ (by omega)
 rw [hz]; rfl
end
end Go.Abs
namespace Go.Abs
open Go
section
variable {b:Belt} {l:List Fed} (B:BeltOk b) (L:FedsOk l) {s e:Nat} (C:Clus (2*b.2.2.1+1) l s e)
include B L C
theorem knC {k:Int}:∃ z,iter (kdO b l ((e-1:Nat):Int) k) (s:Int)=some z∧(z=if (seg l s e).any (fun x=>gateF b x != k) then .inl (-1) else .inr ()):=by
 have hL:=L.len; have hC:=C.le; have hC2:=C.lt
 refine kgG (F:=kdO b l ((e-1:Nat):Int) k) (fun v=>∃ j:Nat,v=j∧s≤j∧j≤e∧∀ x,s≤x→x<j→gateF b (fd l x)=k) (fun v=>e-v.toNat) _ (fun v ⟨j,hj,g1,g2,g3⟩=>?_) _ ⟨s,rfl,Nat.le_refl _,by omega,fun x h1 h2=>by omega⟩ (by omega)
 subst hj
 unfold kdO
 by_cases hc:j<e
 ·have t1:=L.fd (i:=j) (by omega)
  rw [if_pos (by simp only [decide_eq_true_eq]; omega),gi_fd (show j<l.length by omega)]
  simp only [Option.bind_some]
  rw [kqc _ (by have:=t1.1.1; omega)]
  simp only [Option.bind_some]
  rw [klV B (kjS _).2]
  simp only [Option.bind_some]
  rw [show gateK b (seenR (fd l j).2.2)=gateF b (fd l j) from rfl,w64n (x:=(j:Int)+1) (n:=j+1) (by push_cast; rfl) (by omega)]
  by_cases hg:gateF b (fd l j)=k
  ·right
   rw [if_neg (by simp [hg])]
   refine ⟨_,rfl,⟨j+1,rfl,by omega,by omega,fun x h1 h2=>?_⟩,by omega⟩
   by_cases e1:x=j
   ·rw [e1]; exact hg
   ·exact g3 x h1 (by omega)
  ·left
   rw [if_pos (by simp [hg])]
   refine ⟨_,rfl,?_⟩
   rw [if_pos]
   rw [List.any_eq_true]
   refine ⟨fd l j,?_,by simp [hg]⟩
   have hlen:=kfB (s:=s) hC
   have:(seg l s e)[j-s]'(by rw [hlen]; omega)=fd l j:=by rw [←kfd (by rw [hlen]; omega),khK (by omega),show s+(j-s)=j by omega]
   rw [←this]; exact List.getElem_mem _
 ·left
  rw [if_neg (by simp only [decide_eq_true_eq]; omega)]
  refine ⟨_,rfl,?_⟩
  rw [if_neg]
  simp only [List.any_eq_true,not_exists,not_and,bne_iff_ne,ne_eq,Decidable.not_not]
  intro x hx
  obtain ⟨q,hq,rfl⟩:=List.getElem_of_mem hx
  have hlen:=kfB (s:=s) hC
  rw [←kfd hq,khK (by omega)]
  exact g3 _ (by omega) (by omega)
theorem koK {i:Nat} (h1:s≤i) (h2:i<e):kgO b l i=some (Gc b (seg l s e)):=by
 have hL:=L.len; have hC:=C.le; have hC2:=C.lt
 have hlen:=kfB (s:=s) hC
 unfold kgO
 rw [ksa B L C h1 h2,kso B L C h1 h2]
 simp only [Option.bind_some]
 have ti:=L.fd (i:=i) (by omega)
 have ts:=L.fd (i:=s) (by omega)
 have te:=L.fd (i:=e-1) (by omega)
 rw [gi_fd (show i<l.length by omega)]
 simp only [Option.bind_some]
 rw [kqc _ (by have:=ti.1.1; omega)]
 simp only [Option.bind_some]
 rw [klV B (kjS _).2]
 simp only [Option.bind_some]
 rw [show gateK b (seenR (fd l i).2.2)=gateF b (fd l i) from rfl]
 obtain ⟨z,hz,rfl⟩:=knC B L C (k:=gateF b (fd l i))
 rw [hz]
 simp only [Option.bind_some]
 have f0:fd (seg l s e) 0=fd l s:=by rw [khK (by omega)]; rfl
 have f1:fd (seg l s e) ((seg l s e).length-1)=fd l (e-1):=by rw [hlen,khK (by omega),show s+(e-s-1)=e-1 by omega]
 unfold Gc
 rw [f0,f1]
 have mem:∀ j,s≤j→j<e→fd l j∈seg l s e:=fun j g1 g2=>by
  have:(seg l s e)[j-s]'(by rw [hlen]; omega)=fd l j:=by rw [←kfd (by rw [hlen]; omega),khK (by omega),show s+(j-s)=j by omega]
  rw [←this]; exact List.getElem_mem _
 by_cases hany:(seg l s e).any (fun x=>gateF b x != gateF b (fd l i))=true
 ·rw [if_pos hany]
  dsimp only
  split
  ·rfl
  ·rename_i hg
   rw [if_pos]
   obtain ⟨x,hx,hne⟩:=List.any_eq_true.1 hany
   rw [List.any_eq_true]
   by_cases hs:gateF b (fd l i)=gateF b (fd l s)
   ·rw [hs] at hne; exact ⟨x,hx,hne⟩
   ·exact ⟨fd l i,mem i h1 h2,by simpa using hs⟩
 ·rw [if_neg hany]
  have hall:∀ x∈seg l s e,gateF b x=gateF b (fd l i):=fun x hx=>by
   rw [Bool.not_eq_true] at hany
   have:=List.any_eq_false.1 hany x hx
   simpa using this
  have hs:=hall _ (mem s (Nat.le_refl _) hC2)
  rw [hs,if_neg hany]
  dsimp only
  simp only [decide_eq_true_eq]
  split
  ·rfl
  ·rename_i hg
   have hlt:=klh hg
   rw [gi_fd (show e-1<l.length by omega),gi_fd (show s<l.length by omega),kgx (by omega) (by omega),List.getElem?_eq_getElem hlt]
   simp only [Option.bind_some,Option.getD_some]
   have hgb:=B.gb _ (List.getElem_mem hlt)
   have:=B.s0; have:=B.s1; have:=B.c0; have:=B.c1
   generalize b.2.2.2.1[(gateF b (fd l i)).toNat]'hlt=gt at *
   rw [kal (x:=gt.1-b.2.1) (by omega) (by omega),kal (x:=(fd l (e-1)).1-(fd l s).1) (by omega) (by omega),kal (x:=3*b.2.2.1) (by omega) (by omega),kal (x:=(fd l (e-1)).1-(fd l s).1+3*b.2.2.1) (by omega) (by omega),kal (x:=(fd l (e-1)).1-(fd l s).1+3*b.2.2.1+1) (by omega) (by omega)]
   split <;> rfl
end
inductive Cls (D:Int) (l:List Fed):Nat→List (Nat×Nat)→Prop
 | nil:Cls D l l.length []
 | cons {s e:Nat} {r:List (Nat×Nat)} (h:Clus D l s e) (hr:Cls D l e r):Cls D l s ((s,e)::r)
theorem Cls.exists {D:Int} {l:List Fed}:∀ (k s:Nat),s+k=l.length→(s=0∨s=l.length∨D<(fd l s).1-(fd l (s-1)).1)→∃ r,Cls D l s r:=by
 have step:∀ (m s e:Nat),e+m=l.length→s<e→(∀ k,s<k→k<e→(fd l k).1-(fd l (k-1)).1≤D)→∃ e',s<e'∧e'≤l.length∧(∀ k,s<k→k<e'→(fd l k).1-(fd l (k-1)).1≤D)∧(e'=l.length∨D<(fd l e').1-(fd l (e'-1)).1):=by
  intro m
  induction m with
  | zero=>intro s e h1 h2 h3; exact ⟨e,h2,by omega,h3,.inl (by omega)⟩
  | succ m ih=>
   intro s e h1 h2 h3
   by_cases hg:(fd l e).1-(fd l (e-1)).1≤D
   ·exact ih s (e+1) (by omega) (by omega) fun k k1 k2=>by
     by_cases e1:k=e
     ·rw [e1]; exact hg
     ·exact h3 k k1 (by omega)
   ·exact ⟨e,h2,by omega,h3,.inr (by omega)⟩
 intro k
 induction k using Nat.strongRecOn with
 | ind k ih=>
  intro s hs hlo
  by_cases h0:s=l.length
  ·subst h0; exact ⟨[],.nil⟩
  ·obtain ⟨e,h1,h2,h3,h4⟩:=step (l.length-(s+1)) s (s+1) (by omega) (by omega) (fun k k1 k2=>by omega)
   obtain ⟨r,hr⟩:=ih (l.length-e) (by omega) e (by omega) (h4.elim (fun h=>.inr (.inl h)) fun h=>.inr (.inr h))
   exact ⟨(s,e)::r,.cons ⟨h1,h2,hlo.elim .inl fun h=>h.elim (fun h=>absurd h h0) .inr,h3,h4⟩ hr⟩
end Go.Abs
namespace Go.Abs
open Go
theorem kkP {α:Type} {f:α→α→Bool} (h:∀ a,f a a=true):∀ l:List α,((l.zip l).all fun p=>f p.1 p.2)=true
 | []=>rfl
 | a::l=>by simp only [List.zip_cons_cons,List.all_cons,h a,kkP h l,Bool.and_self]
theorem beqPr (u v:Ty) (x y:(Ty.pr u v).den):Ty.beq (.pr u v) x y=(Ty.beq u x.1 y.1&&Ty.beq v x.2 y.2):=by
 simp only [Ty.beq]
theorem Ty.beq_self:∀ (t:Ty),t.dat=true→∀ x:t.den,t.beq x x=true
 | .i _,_,x=>by simp [Ty.beq]
 | .b,_,x=>by simp [Ty.beq]
 | .s,_,x=>by simp [Ty.beq]
 | .un,_,_=>rfl
 | .pr u v,h,x=>by
  simp only [Ty.dat,Bool.and_eq_true] at h
  rw [beqPr,Ty.beq_self u h.1,Ty.beq_self v h.2]; rfl
 | .w a,h,x=>Ty.beq_self a h x
 | .pt a,h,x=>Ty.beq_self a h x
 | .sl a,h,x=>by
  unfold Ty.beq
  simp only [decide_true,Bool.true_and]
  exact kkP (α:=a.den) (Ty.beq_self a h) x
 | .op a,h,x=>by
  cases hx:(x:Option a.den) with
  | none=>unfold Ty.beq; rfl
  | some y=>unfold Ty.beq; exact Ty.beq_self a h y
 | .ar _ a,h,x=>by
  unfold Ty.beq
  exact kkP (α:=a.den) (Ty.beq_self a h) x.l
 | .nt,h,_=>by simp [Ty.dat] at h
 | .sm _ _,h,_=>by simp [Ty.dat] at h
 | .fn _ _ _,h,_=>by simp [Ty.dat] at h
theorem ksU (t:Ty) (ht:t.dat=true) {o:Option (List t.den)} {ys:List t.den} {e:t.den} (h:o=none∨∃ r,o=some (ys++e::r)):gpre t o ys e=some (ys++[e]):=by
 rcases h with rfl | ⟨r,rfl⟩
 ·rfl
 ·unfold gpre
  dsimp only
  rw [List.getElem?_append_right (Nat.le_refl _)]
  simp only [Nat.sub_self,List.getElem?_cons_zero]
  rw [if_pos (Ty.beq_self t ht e)]
section
variable {b:Belt} {l:List Fed} (B:BeltOk b) (L:FedsOk l)
include B L
theorem it_L1 {s e:Nat} (C:Clus (2*b.2.2.1+1) l s e) (ys:List (Int×List Fed)):iter (kbi (some (b,l)) (l.drop s,ys)) 1=some ((e-s:Nat):Int):=by
 have hL:=L.len; have hC:=C.le; have hC2:=C.lt; have:=B.s0; have:=B.s1
 obtain ⟨z,hz,rfl⟩:=kgG (F:=kbi (some (b,l)) (l.drop s,ys)) (fun v=>∃ j:Nat,v=j∧1≤j∧j≤e-s) (fun v=>e-v.toNat) (fun z=>z=((e-s:Nat):Int)) (fun v ⟨j,hj,g1,g2⟩=>by
  subst hj
  unfold kbi
  dsimp only
  by_cases hc:s+j<l.length
  ·have hdl:j<(l.drop s).length:=by rw [List.length_drop]; omega
   have t1:=L.fd (i:=s+j) hc
   have t2:=L.fd (i:=s+j-1) (by omega)
   have q1:fd (l.drop s) j=fd l (s+j):=by unfold fd; rw [List.getElem?_drop]
   have q2:fd (l.drop s) (j-1)=fd l (s+j-1):=by unfold fd; rw [List.getElem?_drop,show s+(j-1)=s+j-1 by omega]
   rw [if_pos (lenI_lt.2 hdl),gi_fd hdl,w64n (x:=(j:Int)-1) (n:=j-1) (by omega) (by omega),gi_fd (show j-1<(l.drop s).length by omega),q1,q2]
   simp only [Option.bind_some,decide_eq_true_eq]
   rw [kal (x:=(fd l (s+j)).1-(fd l (s+j-1)).1) (by omega) (by omega),kal (x:=2*b.2.2.1) (by omega) (by omega),kal (x:=2*b.2.2.1+1) (by omega) (by omega),w64n (x:=(j:Int)+1) (n:=j+1) (by push_cast; rfl) (by omega)]
   by_cases e1:s+j=e
   ·left
    have hh:=C.hi
    rw [←e1] at hh
    rw [if_neg (by omega)]
    exact ⟨_,rfl,by omega⟩
   ·right
    rw [if_pos (C.mid (s+j) (by omega) (by omega))]
    exact ⟨_,rfl,⟨j+1,rfl,by omega,by omega⟩,by omega⟩
  ·left
   rw [if_neg (by rw [lenI_lt,List.length_drop]; omega)]
   exact ⟨_,rfl,by omega⟩) 1 ⟨1,rfl,by omega,by omega⟩ (by omega)
 exact hz
def clY (b:Belt) (l:List Fed) (r:List (Nat×Nat)):List (Int×List Fed):=r.map fun p=>(Gc b (seg l p.1 p.2),seg l p.1 p.2)
theorem it_L0 (o:Option (List (Int×List Fed))):∀ {s:Nat} {r:List (Nat×Nat)},Cls (2*b.2.2.1+1) l s r→∀ ys:List (Int×List Fed),(o=none∨o=some (ys++clY b l r))→
  itN (kaJ o (some (b,l))) (r.length+1) (l.drop s,ys)=some (.inr (ys++clY b l r)):=by
 intro s r hr
 induction hr with
 | nil=>
  intro ys ho
  refine kaC ?_
  unfold kaJ
  rw [List.drop_length]
  simp [clY,krV]
 | @cons s e r h hr ih=>
  intro ys ho
  have hL:=L.len; have hC:=h.le; have hC2:=h.lt
  have hdl:(l.drop s).length=l.length-s:=List.length_drop
  have hF:FedsOk (seg l s e):=by
   refine ⟨by rw [kfB hC]; omega,fun x hx=>L.ok x ?_⟩
   unfold seg at hx
   exact List.mem_of_mem_drop (List.mem_of_mem_take hx)
  have e1:kaJ o (some (b,l)) (l.drop s,ys)=some (.inl (l.drop e,ys++[(Gc b (seg l s e),seg l s e)])):=by
   unfold kaJ
   dsimp only
   rw [if_pos (by rw [kbj,decide_eq_true_eq]; omega),it_L1 B L h ys]
   simp only [Option.bind_some]
   have g1:gsl (l.drop s) 0 ((e-s:Nat):Int)=some (seg l s e):=by
    unfold gsl
    rw [if_pos (by omega)]
    simp [seg]
   have g2:gsl (l.drop s) ((e-s:Nat):Int) (lenI (l.drop s))=some (l.drop e):=by
    unfold gsl
    rw [if_pos (by rw [kbj]; omega)]
    simp only [kbj,Int.toNat_natCast,Option.some.injEq]
    rw [List.take_length,List.drop_drop,show s+(e-s)=e by omega]
   rw [g1]
   simp only [Option.bind_some]
   rw [kqM B l hF (by rw [kfB hC]; omega)]
   simp only [Option.bind_some]
   have hp:=ksU (.pr (.i .i64) (.sl (.pr (.i .i64) (.pr (.i .i64) (.sl (.i .i64)))))) rfl (o:=o) (ys:=ys) (e:=(Gc b (seg l s e),seg l s e)) (by
    rcases ho with ho | ho
    ·exact .inl ho
    ·exact .inr ⟨clY b l r,ho⟩)
   rw [hp]
   simp only [Option.bind_some]
   rw [g2]
   rfl
  rw [List.length_cons,kcA e1,ih (ys++[(Gc b (seg l s e),seg l s e)]) (by
   rcases ho with ho | ho
   ·exact .inl ho
   ·right; rw [ho]; simp [clY])]
  simp [clY]
theorem ksR {r:List (Nat×Nat)} (hr:Cls (2*b.2.2.1+1) l 0 r) (hrl:r.length≤1000):(runI fun o=>kaG o (some (b,l)))=some (clY b l r):=by
 have key:∀ o,(o=none∨o=some (clY b l r))→kaG o (some (b,l))=some (clY b l r):=fun o ho=>by
  unfold kaG
  simp only [Option.bind_some]
  have:=it_L0 B L o hr [] (by simpa using ho)
  rw [List.drop_zero] at this
  rw [kbN this (by omega)]
  simp
 unfold runI
 dsimp only
 rw [key none (.inl rfl)]
 simp only [Option.bind_some]
 rw [key _ (.inr rfl)]
 simp
end
end Go.Abs
namespace Go.Abs
open Go
theorem kip {α γ:Type} (f:α→List γ):∀ (l:List α) (a:List γ),l.foldl (fun s x=>s++f x) a=a++l.flatMap f
 | [],a=>by simp
 | x::l,a=>by rw [List.foldl_cons,kip f l,List.flatMap_cons,List.append_assoc]
def gtF (b:Belt) (g:Int):Int×Int:=(b.2.2.2.1[g.toNat]?).getD (0,0)
def ftF (b:Belt) (g:Int) (x:Fed):Int×Int×Int:=
 if 0≤g then (seenR x.2.2,(gtF b g).2,x.1+(gtF b g).1) else (seenR x.2.2,-1,x.1+b.1)
theorem Gc_lt {b:Belt} {c:List Fed} (h:0≤Gc b c):(Gc b c).toNat<b.2.2.2.1.length:=by
 unfold Gc at *
 split at h
 ·omega
 ·rename_i h1
  split at h
  ·omega
  ·rename_i h2
   split at h
   ·omega
   ·rename_i h3
    rw [if_neg h1,if_neg h2,if_neg h3]; exact klh h1
theorem gi_gt {b:Belt} {g:Int} (h0:0≤g) (h:g.toNat<b.2.2.2.1.length):gi b.2.2.2.1 g=some (gtF b g):=by
 rw [kgx (by omega) (by omega)]
 unfold gtF
 rw [List.getElem?_eq_getElem h]; rfl
theorem BeltOk.gt {b:Belt} (B:BeltOk b) {g:Int} (h:g.toNat<b.2.2.2.1.length):0≤(gtF b g).1∧(gtF b g).1≤99:=by
 unfold gtF
 rw [List.getElem?_eq_getElem h]
 have:=B.gb _ (List.getElem_mem h)
 exact ⟨this.1,this.2.1⟩
section
variable {b:Belt} {l:List Fed} (B:BeltOk b) (L:FedsOk l)
include B in
theorem ksG {c:List Fed} (hc:FedsOk c) {g:Int} (hg:0≤g→g.toNat<b.2.2.2.1.length) {acc:List (Int×Int×Int)} (ha:acc.length≤10000) :
  iter (kea b (g,c)) (0,acc)=some (acc++c.map (ftF b g)):=by
 have hl:=hc.len
 rw [kkl (F:=kea b (g,c)) c (by omega) (fun i s=>s.length=acc.length+i) (fun s x=>s++[ftF b g x]) id (fun i s hi hs=>by
  have hx:=hc.ok _ (List.getElem_mem hi)
  have:=B.l0; have:=B.l1
  unfold kea
  dsimp only
  rw [if_pos (lenI_lt.2 hi),kaU hi,kbn (by omega)]
  simp only [Option.bind_some]
  rw [kqn _ (by have:=hx.1.1; omega) hx.1.2]
  simp only [Option.bind_some,decide_eq_true_eq]
  unfold ftF
  by_cases h0:0≤g
  ·have h1:=hg h0
   have h2:=B.gt h1
   rw [if_pos h0,if_pos h0,gi_gt h0 h1]
   simp only [Option.bind_some]
   rw [kne (by simp; omega),kal (x:=c[i].1+(gtF b g).1) (by omega) (by omega)]
   rfl
  ·rw [if_neg h0,if_neg h0,kne (by simp; omega),kal (x:=c[i].1+b.1) (by omega) (by omega)]
   rfl) (fun i s hi hs=>by simp; omega) (fun s hs=>by
  unfold kea
  dsimp only
  rw [if_neg kaX]; rfl) acc (by simp)]
 rw [kip (fun x=>[ftF b g x])]
 simp only [id,Option.some.injEq,List.append_cancel_left_eq]
 exact (List.map_eq_flatMap ..).symm
theorem Cls.lenr {D:Int} {s:Nat} {r:List (Nat×Nat)} (h:Cls D l s r):r.length+s≤l.length:=by
 induction h with
 | nil=>simp
 | cons h hr ih=>have:=h.lt; rw [List.length_cons]; omega
theorem Cls.mem {D:Int} {s:Nat} {r:List (Nat×Nat)} (h:Cls D l s r):∀ p∈r,Clus D l p.1 p.2∧s≤p.1:=by
 induction h with
 | nil=>intro p hp; cases hp
 | cons h hr ih=>
  intro p hp
  rcases List.mem_cons.1 hp with rfl | hp
  ·exact ⟨h,Nat.le_refl _⟩
  ·have:=h.lt; exact ⟨(ih p hp).1,by have:=(ih p hp).2; omega⟩
theorem Cls.at {D:Int} {s:Nat} {r:List (Nat×Nat)} (h:Cls D l s r):∀ j,s≤j→j<l.length→∃ p∈r,p.1≤j∧j<p.2:=by
 induction h with
 | nil=>intro j h1 h2; omega
 | @cons s e r h hr ih=>
  intro j h1 h2
  by_cases h3:j<e
  ·exact ⟨(s,e),by simp,h1,h3⟩
  ·obtain ⟨p,hp,h4⟩:=ih j (by omega) h2
   exact ⟨p,List.mem_cons_of_mem _ hp,h4⟩
theorem Cls.flat {γ:Type} {D:Int} {s:Nat} {r:List (Nat×Nat)} (f:Nat→List γ) (g:Nat×Nat→List γ) (h:Cls D l s r)
  (hfg:∀ p∈r,(List.range' p.1 (p.2-p.1)).flatMap f=g p):(List.range' s (l.length-s)).flatMap f=r.flatMap g:=by
 induction h with
 | nil=>simp
 | @cons s e r h hr ih=>
  have h1:=h.lt; have h2:=h.le
  have:List.range' s (l.length-s)=List.range' s (e-s)++List.range' e (l.length-e):=by
   rw [show l.length-s=(e-s)+(l.length-e) by omega,←List.range'_append_1,show s+(e-s)=e by omega]
  rw [this,List.flatMap_append,hfg (s,e) (by simp),ih fun p hp=>hfg p (List.mem_cons_of_mem _ hp),List.flatMap_cons]
include L in
theorem segOk (s e:Nat):FedsOk (seg l s e):=by
 have hL:=L.len
 refine ⟨by unfold seg; rw [List.length_take,List.length_drop]; omega,fun x hx=>L.ok x ?_⟩
 unfold seg at hx
 exact List.mem_of_mem_drop (List.mem_of_mem_take hx)
include B L in
theorem ksQ {r:List (Nat×Nat)} (hr:Cls (2*b.2.2.1+1) l 0 r) :
  iter (keo b (clY b l r)) (0,[])=some (.inr (r.flatMap fun p=>(seg l p.1 p.2).map (ftF b (Gc b (seg l p.1 p.2))))):=by
 have hL:=L.len
 have hn:=hr.lenr
 have hcl:(clY b l r).length=r.length:=by simp [clY]
 rw [kkl (F:=keo b (clY b l r)) (clY b l r) (by omega) (fun i s=>s.length≤40*i) (fun s p=>s++p.2.map (ftF b p.1)) .inr (fun i s hi hs=>by
  have hm:=List.getElem_mem hi
  obtain ⟨p,hp,hp2⟩:=List.mem_map.1 hm
  unfold keo
  dsimp only
  rw [if_pos (lenI_lt.2 hi),kaU hi]
  simp only [Option.bind_some]
  rw [←hp2,ksG B (segOk L _ _) Gc_lt (by omega)]
  rfl) (fun i s hi hs=>by
   have hm:=List.getElem_mem hi
   obtain ⟨p,hp,hp2⟩:=List.mem_map.1 hm
   rw [←hp2,List.length_append,List.length_map]
   have:=(segOk L p.1 p.2).len
   dsimp only; omega) (fun s hs=>by
   unfold keo
   dsimp only
   rw [if_neg kaX]) [] (by simp)]
 rw [kip (fun p:Int×List Fed=>p.2.map (ftF b p.1))]
 simp [clY,List.flatMap_map]
def Gj (b:Belt) (l:List Fed) (j:Nat):Int:=(kgO b l j).getD (-1)
section
variable {s e:Nat} (C:Clus (2*b.2.2.1+1) l s e)
include B L C
theorem Gj_eq {j:Nat} (h1:s≤j) (h2:j<e):Gj b l j=Gc b (seg l s e):=by unfold Gj; rw [koK B L C h1 h2]; rfl
end
include B L in
theorem kqE {r:List (Nat×Nat)} (hr:Cls (2*b.2.2.1+1) l 0 r) :
  ((List.range' 0 l.length).flatMap fun j=>[ftF b (Gj b l j) (fd l j)])=r.flatMap fun p=>(seg l p.1 p.2).map (ftF b (Gc b (seg l p.1 p.2))):=by
 refine hr.flat _ _ fun p hp=>?_
 obtain ⟨C,-⟩:=hr.mem p hp
 have hC:=C.le
 rw [←List.map_eq_flatMap]
 refine List.ext_getElem (by simp [kfB hC]) fun i h1 h2=>?_
 rw [List.length_map,List.length_range'] at h1
 rw [List.getElem_map,List.getElem_map,List.getElem_range',Gj_eq B L C (by omega) (by omega),←kfd (l:=seg l p.1 p.2) (by rw [kfB hC]; omega),khK h1,Nat.one_mul]
end
end Go.Abs
namespace Go.Abs
open Go
theorem kni:∀ {l:List Fed} {m:Int},fedF l m=true→(l.Pairwise fun x y=>x.1<y.1)∧∀ x∈l,m≤x.1∧x.1≤1000∧saidR x.2.2=true
 | [],m,h=>⟨.nil,fun x hx=>by cases hx⟩
 | x::l,m,h=>by
  rw [kjf] at h
  simp only [Bool.and_eq_true,wi_iff] at h
  obtain ⟨⟨⟨h1,h2⟩,h3⟩,h4⟩:=h
  obtain ⟨g1,g2⟩:=kni h4
  refine ⟨List.pairwise_cons.2 ⟨fun y hy=>by have:=(g2 y hy).1; omega,g1⟩,fun y hy=>?_⟩
  rcases List.mem_cons.1 hy with rfl | hy
  ·exact ⟨h1.1,h1.2,h3⟩
  ·have:=g2 y hy; exact ⟨by omega,this.2⟩
theorem kpL {f:List Fed} (h2:fedR f=true):FedsOk f∧(∀ x∈f,saidR x.2.2=true)∧∀ i j,i<j→j<f.length→(fd f i).1<(fd f j).1:=by
 unfold fedR at h2
 simp only [Bool.and_eq_true,decide_eq_true_eq] at h2
 obtain ⟨m1,m2⟩:=kni h2.2
 have L:FedsOk f:=⟨by omega,fun x hx=>by
  have:=m2 x hx
  have h3:=kqA this.2.2
  exact ⟨⟨by omega,fun t ht=>(h3.2.2 t ht).2⟩,this.1,this.2.1⟩⟩
 refine ⟨L,fun x hx=>(m2 x hx).2.2,fun i j hij hj=>?_⟩
 rw [kfd (by omega),kfd hj]
 exact List.pairwise_iff_getElem.1 m1 i j (by omega) hj (by omega)
def ked (b:Belt) (f:List Fed):List (Int×Int×Int):=(List.range' 0 f.length).map fun j=>ftF b (Gj b f j) (fd f j)
theorem klL (b:Belt) (f:List Fed):(ked b f).length=f.length:=by simp [ked]
theorem kqz (b:Belt) (f:List Fed) {i:Nat} (h:i<(ked b f).length):(ked b f)[i]=ftF b (Gj b f i) (fd f i):=by
 simp [ked]
theorem krc {b:Belt} {f:List Fed} (hg:b.2.2.2.1.length≤1000) (hb:b.2.2.2.2.length≤1000) (hf:∀ x∈f,x.2.2.length≤1000) (hfl:f.length≤1000)
  (h1:beltR b=true) (h2:fedR f=true):∃ r,Cls (2*b.2.2.1+1) f 0 r∧keV b f=some (ked b f,0):=by
 have B:=kpa h1
 obtain ⟨L,-,-⟩:=kpL h2
 obtain ⟨r,hr⟩:=Cls.exists (D:=2*b.2.2.1+1) (l:=f) f.length 0 (by omega) (.inl rfl)
 have hrl:=hr.lenr
 refine ⟨r,hr,?_⟩
 unfold keV
 rw [ktp b f hg hb hf hfl,if_pos h1,if_pos h2]
 simp only [Option.bind_some]
 rw [if_neg (by simp)]
 unfold kbM
 simp only [Option.bind_some]
 rw [ksR B L hr (by have:=L.len; omega)]
 simp only [Option.bind_some]
 rw [ksQ B L hr,←kqE B L hr]
 unfold ked
 rw [List.map_eq_flatMap]
 rfl
theorem krE (b:Belt) (f:List Fed):∃ r,kfQ b f=some r∧(r=false→b.2.2.2.1.length≤1000∧b.2.2.2.2.length≤1000∧(∀ x∈f,x.2.2.length≤1000)∧f.length≤1000):=by
 unfold kfQ
 rw [kbj,kbj,kbj]
 by_cases h1:(12:Int)<b.2.2.2.1.length
 ·exact ⟨true,by rw [if_pos (by simpa using h1)],by simp⟩
 ·rw [if_neg (by simpa using h1)]
  by_cases h2:(30:Int)<b.2.2.2.2.length
  ·exact ⟨true,by rw [if_pos (by simpa using h2)],by simp⟩
  ·rw [if_neg (by simpa using h2)]
   by_cases h3:(60:Int)<f.length
   ·exact ⟨true,by rw [if_pos (by simpa using h3)],by simp⟩
   ·rw [if_neg (by simpa using h3),khl (F:=keC f) true f (by omega) (fun i x=>decide (20<x.2.2.length)) (fun i hi=>by
     unfold keC
     rw [if_pos (lenI_lt.2 hi),kaU hi,kbn (by omega)]
     simp only [Option.bind_some]
     rw [kbj]
     by_cases h:20<f[i].2.2.length
     ·rw [if_pos (show decide ((20:Int)<f[i].2.2.length)=true by simp only [decide_eq_true_eq]; omega),if_pos (decide_eq_true h)]
     ·rw [if_neg (show ¬ decide ((20:Int)<f[i].2.2.length)=true by simp only [decide_eq_true_eq]; omega),if_neg (by simpa using h)]) (by unfold keC; rw [if_neg kaX]),kjU (fun x:Fed=>decide (20<x.2.2.length))]
    cases ha:f.any fun x=>decide (20<x.2.2.length) with
    | true=>exact ⟨true,rfl,by simp⟩
    | false=>
     refine ⟨false,rfl,fun _=>⟨by omega,by omega,fun x hx=>?_,by omega⟩⟩
     have:=List.any_eq_false.1 ha x hx
     simp at this; omega
theorem kmN {α:Type} (p:α→Bool):∀ (l:List α) (j:Int),0≤j→idxF p l j = -1∨∃ i:Nat,∃ h:i<l.length,idxF p l j=j+i∧p l[i]=true
 | [],j,hj=>.inl rfl
 | x::r,j,hj=>by
  simp only [idxF]
  by_cases hp:p x=true
  ·rw [if_pos hp]; exact .inr ⟨0,by simp,by simp,hp⟩
  ·rw [if_neg hp]
   rcases kmN p r (j+1) (by omega) with h | ⟨i,h1,h2,h3⟩
   ·exact .inl h
   ·exact .inr ⟨i+1,by simp; omega,by rw [h2]; push_cast; omega,by simpa using h3⟩
theorem kqt {b:Belt} {bin:Int} (h:0≤kbr b bin):(kbr b bin).toNat<b.2.2.2.1.length∧(gtF b (kbr b bin)).2=bin:=by
 rcases kmN (fun g=>g.2==bin) b.2.2.2.1 0 (by omega) with h1 | ⟨i,h1,h2,h3⟩
 ·unfold kbr at h; omega
 ·have e:kbr b bin=(i:Int):=by unfold kbr; omega
  rw [e]
  refine ⟨by simpa using h1,?_⟩
  unfold gtF
  rw [Int.toNat_natCast,List.getElem?_eq_getElem h1]
  simpa using h3
theorem ksB:law09_alive=some true:=rfl
end Go.Abs
namespace Go.Abs
open Go
theorem krY (b:Belt) (f:List Fed) (B:BeltOk b) (L:FedsOk f):iter (kbH b f true) 1=some (.inl true)∨(iter (kbH b f true) 1=some (.inr ())∧∀ k,0<k→k<f.length→2*b.2.2.1+1<(fd f k).1-(fd f (k-1)).1):=by
 have hL:=L.len; have:=B.s0; have:=B.s1
 obtain ⟨z,hz,h⟩:=kgG (F:=kbH b f true) (fun v=>∃ i:Nat,v=i∧0<i∧∀ k,0<k→k<i→k<f.length→2*b.2.2.1+1<(fd f k).1-(fd f (k-1)).1) (fun v=>f.length-v.toNat)
  (fun z=>z = .inl true∨(z = .inr ()∧∀ k,0<k→k<f.length→2*b.2.2.1+1<(fd f k).1-(fd f (k-1)).1)) (fun v ⟨i,hi,h0,hk⟩=>by
   subst hi
   unfold kbH
   by_cases hc:i<f.length
   ·have t1:=L.fd (i:=i) hc
    have t2:=L.fd (i:=i-1) (by omega)
    rw [if_pos (lenI_lt.2 hc),gi_fd hc,w64n (x:=(i:Int)-1) (n:=i-1) (by omega) (by omega),gi_fd (show i-1<f.length by omega)]
    simp only [Option.bind_some,decide_eq_true_eq]
    rw [kal (x:=(fd f i).1-(fd f (i-1)).1) (by omega) (by omega),kal (x:=2*b.2.2.1) (by omega) (by omega),kal (x:=2*b.2.2.1+1) (by omega) (by omega),w64n (x:=(i:Int)+1) (n:=i+1) (by push_cast; rfl) (by omega)]
    by_cases hg:(fd f i).1-(fd f (i-1)).1≤2*b.2.2.1+1
    ·left; rw [if_pos hg]; exact ⟨_,rfl,.inl rfl⟩
    ·right; rw [if_neg hg]
     refine ⟨_,rfl,⟨i+1,rfl,by omega,fun k k1 k2 k3=>?_⟩,by omega⟩
     by_cases e:k=i
     ·rw [e]; omega
     ·exact hk k k1 (by omega) k3
   ·left; rw [if_neg (by rw [lenI_lt]; exact hc)]
    exact ⟨_,rfl,.inr ⟨rfl,fun k k1 k2=>hk k k1 (by omega) k2⟩⟩) 1 ⟨1,rfl,by omega,fun k k1 k2=>by omega⟩ (by omega)
 rcases h with rfl | ⟨rfl,h⟩
 ·exact .inl hz
 ·exact .inr ⟨hz,h⟩
theorem krW (b:Belt) (f:List Fed) (B:BeltOk b) (L:FedsOk f) (e:Int) {r:List (Nat×Nat)} (hr:Cls (2*b.2.2.1+1) f 0 r) (hk:∀ k,0<k→k<f.length→2*b.2.2.1+1<(fd f k).1-(fd f (k-1)).1) :
  iter (kbF b (ked b f,e)) 0=some (.inr ()):=by
 have hL:=L.len; have:=B.s0; have:=B.s1
 have hlen:=klL b f
 rw [khl (F:=kbF b (ked b f,e)) false (ked b f) (by omega) (fun i x=>false) (fun i hi=>by
  unfold kbF
  dsimp only
  rw [if_pos (lenI_lt.2 hi),kaU hi,kbn (by omega),kqz b f hi]
  rw [hlen] at hi
  simp only [Option.bind_some,decide_eq_true_eq]
  rw [if_neg (show ¬ false=true by decide)]
  generalize hR:(Sum.inl ((i+1:Nat):Int):Int⊕(Bool⊕Unit))=R
  have hread:(ftF b (Gj b f i) (fd f i)).1=seenR (fd f i).2.2:=by unfold ftF; split <;> rfl
  rw [hread]
  have hsb:=kjS (fd f i).2.2
  by_cases h0:seenR (fd f i).2.2<0
  ·rw [if_pos h0]
  ·rw [if_neg h0]
   have hbl:=B.bl
   have hlt:(seenR (fd f i).2.2).toNat<b.2.2.2.2.length:=by rw [hbl]; omega
   rw [if_neg (by rw [kbj,hbl]; omega),kgx (by omega) (by omega)]
   simp only [Option.bind_some]
   rw [kle b _ (by have:=B.gl; omega)]
   simp only [Option.bind_some]
   generalize hbin:b.2.2.2.2[(seenR (fd f i).2.2).toNat]=bin
   by_cases h1:0≤bin
   ·rw [if_pos h1]
    by_cases h2:0≤kbr b bin
    ·have h3:=kqt h2
     have h4:=B.gt h3.1
     rw [if_pos h2,gi_gt h2 h3.1]
     simp only [Option.bind_some]
     rw [kal (x:=3*b.2.2.1) (by omega) (by omega),kal (x:=3*b.2.2.1+1) (by omega) (by omega),kal (x:=(gtF b (kbr b bin)).1-b.2.1) (by have:=B.c0; have:=B.c1; omega) (by have:=B.c0; have:=B.c1; omega)]
     by_cases h5:3*b.2.2.1+1≤(gtF b (kbr b bin)).1-b.2.1
     ·rw [if_pos h5,if_neg]
      obtain ⟨⟨s,t⟩,hp,q1,q2⟩:=hr.at i (by omega) hi
      have C:=(hr.mem _ hp).1
      dsimp only at q1 q2 C
      have hC:=C.le
      have es:s=i:=by
       by_cases e1:s<i
       ·have:=hk i (by omega) hi
        have:=C.mid i e1 q2
        omega
       ·omega
      have et:t=i+1:=by
       by_cases e1:i+1<t
       ·have:=hk (i+1) (by omega) (by omega)
        have:=C.mid (i+1) (by omega) e1
        omega
       ·omega
      subst es; subst et
      have hG:Gj b f s=kbr b bin:=by
       rw [Gj_eq B L C (Nat.le_refl _) (by omega)]
       have hs:seg f s (s+1)=[fd f s]:=by
        unfold seg
        rw [show s+1-s=1 by omega,kfd hi,List.drop_eq_getElem_cons hi]; rfl
       have hgf:gateF b (fd f s)=kbr b bin:=by
        unfold gateF gateK
        rw [if_neg h0,List.getElem?_eq_getElem hlt,hbin]; rfl
       rw [hs]
       unfold Gc
       have e0:fd [fd f s] 0=fd f s:=rfl
       have e1:fd [fd f s] ([fd f s].length-1)=fd f s:=rfl
       rw [e0,e1,hgf,if_neg (by omega),if_neg (by simp [hgf]),if_neg]
       have:(b.2.2.2.1[(kbr b bin).toNat]?).getD (0,0)=gtF b (kbr b bin):=rfl
       rw [this]; omega
      unfold ftF
      rw [hG,if_pos h2]
      simp [h3.2]
     ·rw [if_neg h5]
    ·rw [if_neg h2]
   ·rw [if_neg h1]) (by unfold kbF; dsimp only; rw [if_neg kaX])]
 have:((ked b f).zipIdx.any fun x=>false)=false:=by simp
 rw [this]; rfl
theorem law09_SortApart_eq (b:Belt) (f:List Fed):kfh b f=some true:=by
 unfold kfh
 rw [ksB]
 simp only [Option.bind_some]
 obtain ⟨r,hr1,hr2⟩:=krE b f
 rw [hr1]
 simp only [Option.bind_some]
 cases r with
 | true=>rfl
 | false=>
  obtain ⟨a1,a2,a3,a4⟩:=hr2 rfl
  simp only [Bool.false_eq_true,if_false]
  rw [ksM b,krC f a3]
  simp only [Option.bind_some]
  by_cases h1:beltR b=true
  ·by_cases h2:fedR f=true
   ·rw [if_neg (by simp [h1]),if_neg (by simp [h2]),if_neg (by decide)]
    have B:=kpa h1
    obtain ⟨L,-,-⟩:=kpL h2
    obtain ⟨r,hr,hs⟩:=krc a1 a2 a3 a4 h1 h2
    rcases krY b f B L with h | ⟨h,hk⟩
    ·rw [h]; rfl
    ·rw [h,hs]
     simp only [Option.bind_some]
     rw [if_neg (by simp),if_neg (by rw [kbj,kbj,klL]; simp),krW b f B L 0 hr hk]
     rfl
   ·rw [if_neg (by simp [h1]),if_pos (by simp [h2])]
  ·rw [if_pos (by simp [h1])]
end Go.Abs
