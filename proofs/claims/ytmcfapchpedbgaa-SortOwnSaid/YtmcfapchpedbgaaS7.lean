/- The functions and the law, part 7. -/
import Derived.Test.YtmcfapchpedbgaaProg
import Derived.Test.YtmcfapchpedbgaaZ3
import Derived.Test.YtmcfapchpedbgaaZ5
import Derived.Test.YtmcfapchpedbgaaZ6
set_option linter.constructorNameAsVariable false
set_option linter.unusedVariables false
set_option linter.unusedSimpArgs false
set_option linter.unusedSectionVars false
namespace Go.Abs
open Go
@[reducible] def tBelt:Ty:=(.pr (.i .i64) (.pr (.i .i64) (.pr (.i .i64) (.pr (.sl (.pr (.i .i64) (.i .i64))) (.sl (.i .i64))))))
abbrev Belt:=(Int×Int×Int×(List (Int×Int))×(List Int))
@[reducible] def tFed:Ty:=(.pr (.i .i64) (.pr (.i .i64) (.sl (.i .i64))))
abbrev Fed:=(Int×Int×(List Int))
@[reducible] def tPile:Ty:=(.pr (.i .i64) (.sl (.i .i64)))
abbrev Pile:=(Int×(List Int))
@[reducible] def tLine:Ty:=(.pr tBelt (.sl tFed))
abbrev Line:=(Belt×(List Fed))
def knp (v0:(Int×Int×Fed)):Option ((Int×Int×Fed)⊕(Int×Fed)):=
 (if (decide (v0.1<16))=true then ((if (decide (v0.1<2))=true then (some v0.1) else (some (-1))).bind fun v1=>((gapp v0.2.2.2.2 [v1]).bind fun v2=>(some (.inl ((w64 (v0.1+1)),v0.2.1,v0.2.2.1,v0.2.2.2.1,v2))))) else (some (.inr v0.2)))
def law09_belt:Option Belt:=
 ((iter (knp) (0,20,2,2,[])).bind fun v3=>(some (v3.1,v3.2.1,v3.2.2.1,[(10,0),(15,1)],v3.2.2.2)))
def kcu (x0:Int) (x1:Int):Option Fed:=
 (some (x0,x1,[x1]))
def kfk (x0:Int) (x1:Int) (x2:Int):Option Bool:=
 (if (decide (x0<x1))=true then (some true) else (some (decide (x2<x0))))
def kaV (x0:(List Int)) (x1:(Int→Option Bool)) (v0:Int):Option (Int⊕(Int⊕Unit)):=
 (if (decide (v0<(lenI x0)))=true then ((gi x0 v0).bind fun v1=>((x1 v1).bind fun v2=>(if v2=true then (some (.inr (.inl v0))) else (some (.inl (w64 (v0+1))))))) else (some (.inr (.inr ()))))
def kbN (x0:(List Int)) (x1:(Int→Option Bool)):Option Int:=
 ((iter (kaV x0 x1) 0).bind fun v3=>(match v3 with | .inl v4=>(some v4) | .inr v5=>(some (-1))))
def kaW (x0:(List Int)) (x1:(Int→Option Bool)):Option Bool:=
 ((kbN x0 x1).bind fun v0=>(some (decide (0≤v0))))
def kap (x0:Int) (x1:Int) (x2:(List Int)):Option Bool:=
 ((kaW x2 (fun (u0:Int)=>((kfk u0 x0 x1).bind fun u1=>(some u1)))).bind fun v0=>(some (!v0)))
def kbU (x0:Belt) (v4:(Int×Int×(List (Int×Bool)))):Option ((Int×Int×(List (Int×Bool)))⊕(Int⊕Unit)):=
 (if (decide (v4.1<(lenI x0.2.2.2.1)))=true then ((gi x0.2.2.2.1 v4.1).bind fun v5=>((kap v4.2.1 (w64 (x0.1-1)) [v5.1]).bind fun v6=>(if (!v6)=true then (some (.inr (.inl 90))) else ((kap 0 7 [v5.2]).bind fun v7=>(if (!v7)=true then (some (.inr (.inl 90))) else (if ((mget v4.2.2 v5.2).getD false)=true then (some (.inr (.inl 90))) else (some (.inl ((w64 (v4.1+1)),(w64 (v5.1+1)),(mput v4.2.2 v5.2 true)))))))))) else (some (.inr (.inr ()))))
def keC (x0:Belt):Option Int:=
 ((kap 2 100 [x0.1]).bind fun v0=>(if (!v0)=true then (some 90) else ((kap 0 (w64 (x0.1-2)) [x0.2.1]).bind fun v1=>(if (!v1)=true then (some 90) else ((kap 0 10 [x0.2.2.1]).bind fun v2=>(if (!v2)=true then (some 90) else (if (decide (8<(lenI x0.2.2.2.1)))=true then (some 90) else (if ((lenI x0.2.2.2.2) != 16)=true then (some 90) else ((kap (-1) 7 x0.2.2.2.2).bind fun v3=>(if (!v3)=true then (some 90) else ((iter (kbU x0) (0,(w64 (x0.2.1+1)),[])).bind fun v8=>(match v8 with | .inl v9=>(some v9) | .inr v10=>(some 0)))))))))))))
def kfY (x0:(List Int)):Option Bool:=
 ((kap 1 9 [(lenI x0)]).bind fun v0=>(if v0=true then ((kap (-1) 15 x0).bind fun v1=>(some v1)) else (some false)))
def kck (x0:(List Fed)) (v0:(Int×Int)):Option ((Int×Int)⊕(Int⊕Unit)):=
 (if (decide (v0.1<(lenI x0)))=true then ((gi x0 v0.1).bind fun v1=>((kap v0.2 1000 [v1.1]).bind fun v2=>(if (!v2)=true then (some (.inr (.inl 91))) else ((kap 0 15 [v1.2.1]).bind fun v3=>(if (!v3)=true then (some (.inr (.inl 91))) else ((kfY v1.2.2).bind fun v4=>(if (!v4)=true then (some (.inr (.inl 91))) else (some (.inl ((w64 (v0.1+1)),(w64 (v1.1+1)))))))))))) else (some (.inr (.inr ()))))
def keS (x0:(List Fed)):Option Int:=
 (if (decide (40<(lenI x0)))=true then (some 91) else ((iter (kck x0) (0,0)).bind fun v5=>(match v5 with | .inl v6=>(some v6) | .inr v7=>(some 0))))
def khf (x0:Belt) (x1:(List Fed)):Option ((Option Line)×Int):=
 ((keC x0).bind fun v0=>((if (v0==0)=true then ((keS x1).bind fun v1=>(some v1)) else (some v0)).bind fun v2=>(if (v2 != 0)=true then (some (none,v2)) else (some ((some (x0,x1)),0)))))
def kfo (x0:(List Int)) (v0:(Int×(Arr 16 Int))):Option ((Int×(Arr 16 Int))⊕(Arr 16 Int)):=
 (if (decide (v0.1<(lenI x0)))=true then ((gi x0 v0.1).bind fun v1=>(if (decide (0≤v1))=true then ((garr v0.2 v1).bind fun v2=>((garr v0.2 v1).bind fun v3=>((garr v0.2 v1).bind fun v4=>(some (.inl ((w64 (v0.1+1)),(aset v0.2 v1 (w64 (v3+1))))))))) else (some (.inl ((w64 (v0.1+1)),v0.2))))) else (some (.inr v0.2)))
def kej (v5:(Arr 16 Int)) (v6:(Int×Int×Int)):Option ((Int×Int×Int)⊕Int):=
 (if (decide (v6.1<16))=true then ((garr v5 v6.1).bind fun v7=>(if (decide (v6.2.1<v7))=true then (some (.inl ((w64 (v6.1+1)),v7,v6.1))) else (if (v7==v6.2.1)=true then (some (.inl ((w64 (v6.1+1)),v6.2.1,(-1)))) else (some (.inl ((w64 (v6.1+1)),v6.2)))))) else (some (.inr v6.2.2)))
def keb (x0:(List Int)):Option Int:=
 ((iter (kfo x0) (0,(amk 16 0))).bind fun v5=>((iter (kej v5) (0,0,(-1))).bind fun v8=>(some v8)))
def keF (x0:(Int×Int)) (x1:(Option Line)) (x2:Int):Option Bool:=
 (x1.bind fun v0=>((gi v0.1.2.2.2.2 x2).bind fun v1=>(some (x0.2==v1))))
def kar (x0:(List (Int×Int))) (x1:((Int×Int)→Option Bool)) (v0:Int):Option (Int⊕(Int⊕Unit)):=
 (if (decide (v0<(lenI x0)))=true then ((gi x0 v0).bind fun v1=>((x1 v1).bind fun v2=>(if v2=true then (some (.inr (.inl v0))) else (some (.inl (w64 (v0+1))))))) else (some (.inr (.inr ()))))
def kaB (x0:(List (Int×Int))) (x1:((Int×Int)→Option Bool)):Option Int:=
 ((iter (kar x0 x1) 0).bind fun v3=>(match v3 with | .inl v4=>(some v4) | .inr v5=>(some (-1))))
def kcQ (x0:(Option Line)) (x1:Fed):Option Int:=
 ((keb x1.2.2).bind fun v0=>(if (decide (v0<0))=true then (some (-1)) else (x0.bind fun v1=>((kaB v1.1.2.2.2.1 (fun (u0:(Int×Int))=>((keF u0 x0 v0).bind fun u1=>(some u1)))).bind fun v2=>(some v2)))))
def kdH (x0:Fed) (x1:(Option Line)) (x2:Int):Option Bool:=
 ((kcQ x1 x0).bind fun v0=>(some (v0 != x2)))
def kaw (x0:(List Fed)) (x1:(Fed→Option Bool)) (v0:Int):Option (Int⊕(Int⊕Unit)):=
 (if (decide (v0<(lenI x0)))=true then ((gi x0 v0).bind fun v1=>((x1 v1).bind fun v2=>(if v2=true then (some (.inr (.inl v0))) else (some (.inl (w64 (v0+1))))))) else (some (.inr (.inr ()))))
def kbf (x0:(List Fed)) (x1:(Fed→Option Bool)):Option Int:=
 ((iter (kaw x0 x1) 0).bind fun v3=>(match v3 with | .inl v4=>(some v4) | .inr v5=>(some (-1))))
def kax (x0:(List Fed)) (x1:(Fed→Option Bool)):Option Bool:=
 ((kbf x0 x1).bind fun v0=>(some (decide (0≤v0))))
def kdi (x0:(Option Line)) (x1:(List Fed)):Option Int:=
 ((gi x1 0).bind fun v0=>((kcQ x0 v0).bind fun v1=>((gi x1 (w64 ((lenI x1)-1))).bind fun v2=>((gi x1 0).bind fun v3=>(if (decide (v1<0))=true then (some (-1)) else ((kax x1 (fun (u0:Fed)=>((kdH u0 x0 v1).bind fun u1=>(some u1)))).bind fun v4=>(if v4=true then (some (-1)) else (x0.bind fun v5=>(x0.bind fun v6=>((gi v6.1.2.2.2.1 v1).bind fun v7=>(x0.bind fun v8=>(if (decide ((w64 (v7.1-v8.1.2.1))<(w64 ((w64 ((w64 (v2.1-v3.1))+(w64 (3*v5.1.2.2.1))))+1))))=true then (some (-1)) else (some v1)))))))))))))
def kbi (x0:(Option Line)) (v1:((List Fed)×(List (Int×(List Fed))))) (v2:Int):Option (Int⊕Int):=
 (if (decide (v2<(lenI v1.1)))=true then ((gi v1.1 v2).bind fun v3=>((gi v1.1 (w64 (v2-1))).bind fun v4=>(x0.bind fun v5=>(if (decide ((w64 (v3.1-v4.1))≤(w64 ((w64 (2*v5.1.2.2.1))+1))))=true then (some (.inl (w64 (v2+1)))) else (some (.inr v2)))))) else (some (.inr v2)))
def kaJ (o:Option (List (Int×(List Fed)))) (x0:(Option Line)) (v1:((List Fed)×(List (Int×(List Fed))))):Option (((List Fed)×(List (Int×(List Fed))))⊕((List (Int×(List Fed)))⊕(List (Int×(List Fed))))):=
 (if (decide (0<(lenI v1.1)))=true then ((iter (kbi x0 v1) 1).bind fun v6=>((gsl v1.1 0 v6).bind fun v7=>((kdi x0 v7).bind fun v8=>((gsl v1.1 0 v6).bind fun v9=>((gpre (.pr (.i .i64) (.sl (.pr (.i .i64) (.pr (.i .i64) (.sl (.i .i64)))))) o v1.2 (v8,v9)).bind fun v10=>((gsl v1.1 v6 (lenI v1.1)).bind fun v11=>(some (.inl (v11,v10))))))))) else (some (.inr (.inr v1.2))))
def kaG (o:Option (List (Int×(List Fed)))) (x0:(Option Line)):Option (List (Int×(List Fed))):=
 (x0.bind fun v0=>((iter (kaJ o x0) (v0.2,[])).bind fun v12=>(match v12 with | .inl v13=>(some v13) | .inr v14=>(some v14))))
def kbJ (x0:(Option Line)):Option (Option Line):=
 (some x0)
def kea (x0:Belt) (v4:(Int×(List Fed))) (v5:(Int×(List (Int×Int×Int)))):Option ((Int×(List (Int×Int×Int)))⊕(List (Int×Int×Int))):=
 (if (decide (v5.1<(lenI v4.2)))=true then ((gi v4.2 v5.1).bind fun v6=>((keb v6.2.2).bind fun v7=>(if (decide (0≤v4.1))=true then ((gi x0.2.2.2.1 v4.1).bind fun v8=>((gi x0.2.2.2.1 v4.1).bind fun v9=>((gapp v5.2 [(v7,v8.2,(w64 (v6.1+v9.1)))]).bind fun v10=>(some (.inl ((w64 (v5.1+1)),v10)))))) else ((gapp v5.2 [(v7,(-1),(w64 (v6.1+x0.1)))]).bind fun v11=>(some (.inl ((w64 (v5.1+1)),v11))))))) else (some (.inr v5.2)))
def keg (x0:Belt) (v2:(List (Int×(List Fed)))) (v3:(Int×(List (Int×Int×Int)))):Option ((Int×(List (Int×Int×Int)))⊕(((List (Int×Int×Int))×Int)⊕(List (Int×Int×Int)))):=
 (if (decide (v3.1<(lenI v2)))=true then ((gi v2 v3.1).bind fun v4=>((iter (kea x0 v4) (0,v3.2)).bind fun v12=>(some (.inl ((v3.1+1),v12))))) else (some (.inr (.inr v3.2))))
def kcZ (x0:Belt) (x1:(List Fed)):Option ((List (Int×Int×Int))×Int):=
 ((khf x0 x1).bind fun v0=>(if (v0.2 != 0)=true then (some ([],v0.2)) else ((kbJ v0.1).bind fun v1=>((runI fun o=>(kaG o v1)).bind fun v2=>((iter (keg x0 v2) (0,[])).bind fun v13=>(match v13 with | .inl v14=>(some v14) | .inr v15=>(some (v15,0))))))))
def kgb (x0:Int):Option Bool:=
 (some (x0 != x0))
def kfm (x0:Int) (x1:Int):Option Int:=
 ((kgb x0).bind fun v0=>((kgb x1).bind fun v1=>(if v0=true then (if v1=true then (some 0) else (some (-1))) else (if v1=true then (some 1) else (if (decide (x0<x1))=true then (some (-1)) else (if (decide (x1<x0))=true then (some 1) else (some 0)))))))
def kno (x0:(List Int)) (v0:Int):Option (Int⊕(Int⊕Unit)):=
 (if (decide (v0<(lenI x0)))=true then ((gi x0 v0).bind fun v1=>(if (v1 != 0)=true then (some (.inr (.inl v1))) else (some (.inl (w64 (v0+1)))))) else (some (.inr (.inr ()))))
def kik (x0:(List Int)):Option Int:=
 ((iter (kno x0) 0).bind fun v2=>(match v2 with | .inl v3=>(some v3) | .inr v4=>(some 0)))
def klx (x0:(Int×Int×Bool)) (x1:(Int×Int×Bool)):Option Int:=
 ((kfm x0.1 x1.1).bind fun v0=>((kfm x0.2.1 x1.2.1).bind fun v1=>((kik [v0,v1]).bind fun v2=>(some v2))))
def kcG (x0:Int) (x2:(((Int×Int×Bool)×Int×Int×Bool)→Option Int)) (v1:(Int×(List (Int×Int×Bool)))):Option ((Int×(List (Int×Int×Bool)))⊕(List (Int×Int×Bool))):=
 (if (decide (x0<v1.1))=true then ((gi v1.2 v1.1).bind fun v2=>((gi v1.2 v1.1).bind fun v3=>((gi v1.2 (w64 (v1.1-1))).bind fun v4=>((gi v1.2 (w64 (v1.1-1))).bind fun v5=>((x2 (v3,v5)).bind fun v6=>(if (decide (v6<0))=true then ((gi v1.2 (w64 (v1.1-1))).bind fun v7=>((gi v1.2 (w64 (v1.1-1))).bind fun v8=>((gi v1.2 v1.1).bind fun v9=>((gi v1.2 v1.1).bind fun v10=>((gi v1.2 v1.1).bind fun v11=>((gi (lset v1.2 v1.1 v8) (w64 (v1.1-1))).bind fun v12=>(some (.inl ((w64 (v1.1-1)),(lset (lset v1.2 v1.1 v8) (w64 (v1.1-1)) v10)))))))))) else (some (.inr v1.2)))))))) else (some (.inr v1.2)))
def kcI (x0:Int) (x1:Int) (x2:(((Int×Int×Bool)×Int×Int×Bool)→Option Int)) (v0:(Int×(List (Int×Int×Bool)))):Option ((Int×(List (Int×Int×Bool)))⊕(List (Int×Int×Bool))):=
 (if (decide (v0.1<x1))=true then ((iter (kcG x0 x2) v0).bind fun v13=>(some (.inl ((w64 (v0.1+1)),v13)))) else (some (.inr v0.2)))
def kaK (x0:Int) (x1:Int) (x2:(((Int×Int×Bool)×Int×Int×Bool)→Option Int)) (x3:(List (Int×Int×Bool))):Option (List (Int×Int×Bool)):=
 ((iter (kcI x0 x1 x2) ((w64 (x0+1)),x3)).bind fun v14=>(some v14))
def kdz (x0:Int) (x1:Int) (x2:Int) (v0:(Int×(List (Int×Int×Bool)))):Option ((Int×(List (Int×Int×Bool)))⊕(List (Int×Int×Bool))):=
 (if (decide (v0.1<x2))=true then ((gi v0.2 (w64 (x1+v0.1))).bind fun v1=>((gi v0.2 (w64 (x1+v0.1))).bind fun v2=>((gi v0.2 (w64 (x0+v0.1))).bind fun v3=>((gi v0.2 (w64 (x0+v0.1))).bind fun v4=>((gi v0.2 (w64 (x0+v0.1))).bind fun v5=>((gi (lset v0.2 (w64 (x0+v0.1)) v2) (w64 (x1+v0.1))).bind fun v6=>(some (.inl ((w64 (v0.1+1)),(lset (lset v0.2 (w64 (x0+v0.1)) v2) (w64 (x1+v0.1)) v4)))))))))) else (some (.inr v0.2)))
def kaA (x0:Int) (x1:Int) (x2:Int) (x3:(((Int×Int×Bool)×Int×Int×Bool)→Option Int)) (x4:(List (Int×Int×Bool))):Option (List (Int×Int×Bool)):=
 ((iter (kdz x0 x1 x2) (0,x4)).bind fun v7=>(some v7))
def ked (x1:Int) (x3:(((Int×Int×Bool)×Int×Int×Bool)→Option Int)) (v0:(Int×Int×(List (Int×Int×Bool)))):Option ((Int×Int×(List (Int×Int×Bool)))⊕(Int×(List (Int×Int×Bool)))):=
 (if (v0.1 != v0.2.1)=true then (if (decide (v0.2.1<v0.1))=true then ((kaA (w64 (x1-v0.1)) x1 v0.2.1 x3 v0.2.2).bind fun v1=>(some (.inl ((w64 (v0.1-v0.2.1)),v0.2.1,v1)))) else ((kaA (w64 (x1-v0.1)) (w64 ((w64 (x1+v0.2.1))-v0.1)) v0.1 x3 v0.2.2).bind fun v2=>(some (.inl (v0.1,(w64 (v0.2.1-v0.1)),v2))))) else (some (.inr (v0.1,v0.2.2))))
def kcc (x0:Int) (x1:Int) (x2:Int) (x3:(((Int×Int×Bool)×Int×Int×Bool)→Option Int)) (x4:(List (Int×Int×Bool))):Option (List (Int×Int×Bool)):=
 ((iter (ked x1 x3) ((w64 (x1-x0)),(w64 (x2-x1)),x4)).bind fun v3=>((kaA (w64 (x1-v3.1)) x1 v3.1 x3 v3.2).bind fun v4=>(some v4)))
def kdL (x0:Int) (x3:(((Int×Int×Bool)×Int×Int×Bool)→Option Int)) (x4:(List (Int×Int×Bool))) (v0:(Int×Int)):Option ((Int×Int)⊕Int):=
 (if (decide (v0.1<v0.2))=true then ((gshr .u64 (IntKind.wrap .u64 (w64 (v0.1+v0.2))) 1).bind fun v1=>((gi x4 (w64 v1)).bind fun v2=>((gi x4 (w64 v1)).bind fun v3=>((gi x4 x0).bind fun v4=>((gi x4 x0).bind fun v5=>((x3 (v3,v5)).bind fun v6=>(if (decide (v6<0))=true then (some (.inl ((w64 ((w64 v1)+1)),v0.2))) else (some (.inl (v0.1,(w64 v1))))))))))) else (some (.inr v0.1)))
def kdG (v7:Int) (v8:(Int×(List (Int×Int×Bool)))):Option ((Int×(List (Int×Int×Bool)))⊕(List (Int×Int×Bool))):=
 (if (decide (v8.1<(w64 (v7-1))))=true then ((gi v8.2 (w64 (v8.1+1))).bind fun v9=>((gi v8.2 (w64 (v8.1+1))).bind fun v10=>((gi v8.2 v8.1).bind fun v11=>((gi v8.2 v8.1).bind fun v12=>((gi v8.2 v8.1).bind fun v13=>((gi (lset v8.2 v8.1 v10) (w64 (v8.1+1))).bind fun v14=>(some (.inl ((w64 (v8.1+1)),(lset (lset v8.2 v8.1 v10) (w64 (v8.1+1)) v12)))))))))) else (some (.inr v8.2)))
def kdD (x1:Int) (x3:(((Int×Int×Bool)×Int×Int×Bool)→Option Int)) (x4:(List (Int×Int×Bool))) (v16:(Int×Int)):Option ((Int×Int)⊕Int):=
 (if (decide (v16.1<v16.2))=true then ((gshr .u64 (IntKind.wrap .u64 (w64 (v16.1+v16.2))) 1).bind fun v17=>((gi x4 x1).bind fun v18=>((gi x4 x1).bind fun v19=>((gi x4 (w64 v17)).bind fun v20=>((gi x4 (w64 v17)).bind fun v21=>((x3 (v19,v21)).bind fun v22=>(if (!(decide (v22<0)))=true then (some (.inl ((w64 ((w64 v17)+1)),v16.2))) else (some (.inl (v16.1,(w64 v17))))))))))) else (some (.inr v16.1)))
def kdE (v23:Int) (v24:(Int×(List (Int×Int×Bool)))):Option ((Int×(List (Int×Int×Bool)))⊕(List (Int×Int×Bool))):=
 (if (decide (v23<v24.1))=true then ((gi v24.2 (w64 (v24.1-1))).bind fun v25=>((gi v24.2 (w64 (v24.1-1))).bind fun v26=>((gi v24.2 v24.1).bind fun v27=>((gi v24.2 v24.1).bind fun v28=>((gi v24.2 v24.1).bind fun v29=>((gi (lset v24.2 v24.1 v26) (w64 (v24.1-1))).bind fun v30=>(some (.inl ((w64 (v24.1-1)),(lset (lset v24.2 v24.1 v26) (w64 (v24.1-1)) v28)))))))))) else (some (.inr v24.2)))
def kdM (x1:Int) (x3:(((Int×Int×Bool)×Int×Int×Bool)→Option Int)) (x4:(List (Int×Int×Bool))) (v32:Int) (v34:(Int×Int)):Option ((Int×Int)⊕Int):=
 (if (decide (v34.1<v34.2))=true then ((gshr .u64 (IntKind.wrap .u64 (w64 (v34.1+v34.2))) 1).bind fun v35=>((gi x4 (w64 ((w64 ((w64 ((w64 v32)+x1))-1))-(w64 v35)))).bind fun v36=>((gi x4 (w64 ((w64 ((w64 ((w64 v32)+x1))-1))-(w64 v35)))).bind fun v37=>((gi x4 (w64 v35)).bind fun v38=>((gi x4 (w64 v35)).bind fun v39=>((x3 (v37,v39)).bind fun v40=>(if (!(decide (v40<0)))=true then (some (.inl ((w64 ((w64 v35)+1)),v34.2))) else (some (.inl (v34.1,(w64 v35))))))))))) else (some (.inr v34.1)))
def kdS (rec_slices_symMergeCmpFunc_api_Swing_m4:Int→Int→Int→(((Int×Int×Bool)×Int×Int×Bool)→Option Int)→(List (Int×Int×Bool))→Option (List (Int×Int×Bool))) (x0:Int) (x1:Int) (x2:Int) (x3:(((Int×Int×Bool)×Int×Int×Bool)→Option Int)) (x4:(List (Int×Int×Bool))):Option (List (Int×Int×Bool)):=
 (if ((w64 (x1-x0))==1)=true then ((iter (kdL x0 x3 x4) (x1,x2)).bind fun v7=>((iter (kdG v7) (x0,x4)).bind fun v15=>(some v15))) else (if ((w64 (x2-x1))==1)=true then ((iter (kdD x1 x3 x4) (x0,x1)).bind fun v23=>((iter (kdE v23) (x1,x4)).bind fun v31=>(some v31))) else ((gshr .u64 (IntKind.wrap .u64 (w64 (x0+x2))) 1).bind fun v32=>((if (decide ((w64 v32)<x1))=true then (some ((w64 ((w64 ((w64 v32)+x1))-x2)),(w64 v32))) else (some (x0,x1))).bind fun v33=>((iter (kdM x1 x3 x4 v32) v33).bind fun v41=>((if (decide (v41<x1))=true then (some (decide (x1<(w64 ((w64 ((w64 v32)+x1))-v41))))) else (some false)).bind fun v42=>((if v42=true then ((kcc v41 x1 (w64 ((w64 ((w64 v32)+x1))-v41)) x3 x4).bind fun v43=>(some v43)) else (some x4)).bind fun v44=>((if (decide (x0<v41))=true then (some (decide (v41<(w64 v32)))) else (some false)).bind fun v45=>((if v45=true then ((rec_slices_symMergeCmpFunc_api_Swing_m4 x0 v41 (w64 v32) x3 v44).bind fun v46=>(some v46)) else (some v44)).bind fun v47=>(if (decide ((w64 v32)<(w64 ((w64 ((w64 v32)+x1))-v41))))=true then (if (decide ((w64 ((w64 ((w64 v32)+x1))-v41))<x2))=true then ((rec_slices_symMergeCmpFunc_api_Swing_m4 (w64 v32) (w64 ((w64 ((w64 v32)+x1))-v41)) x2 x3 v47).bind fun v48=>(some v48)) else (some v47)) else (some v47)))))))))))
def kaT:Nat→Int→Int→Int→(((Int×Int×Bool)×Int×Int×Bool)→Option Int)→(List (Int×Int×Bool))→Option (List (Int×Int×Bool))
 | 0,_,_,_,_,_=>none
 | k+1,x0,x1,x2,x3,x4=>kdS (kaT k) x0 x1 x2 x3 x4
def kbc (x0:Int) (x1:Int) (x2:Int) (x3:(((Int×Int×Bool)×Int×Int×Bool)→Option Int)) (x4:(List (Int×Int×Bool))):Option (List (Int×Int×Bool)):=kaT 1000000 x0 x1 x2 x3 x4
def kef (x0:Int) (x1:(((Int×Int×Bool)×Int×Int×Bool)→Option Int)) (v0:(Int×Int×(List (Int×Int×Bool)))):Option ((Int×Int×(List (Int×Int×Bool)))⊕(Int×(List (Int×Int×Bool)))):=
 (if (decide (v0.1≤x0))=true then ((kaK v0.2.1 v0.1 x1 v0.2.2).bind fun v1=>(some (.inl ((w64 (v0.1+20)),v0.1,v1)))) else (some (.inr v0.2)))
def ker (x0:Int) (x1:(((Int×Int×Bool)×Int×Int×Bool)→Option Int)) (v4:(Int×(List (Int×Int×Bool)))) (v5:(Int×Int×(List (Int×Int×Bool)))):Option ((Int×Int×(List (Int×Int×Bool)))⊕(Int×(List (Int×Int×Bool)))):=
 (if (decide (v5.1≤x0))=true then ((kbc v5.2.1 (w64 (v5.2.1+v4.1)) v5.1 x1 v5.2.2).bind fun v6=>(some (.inl ((w64 (v5.1+(w64 (2*v4.1)))),v5.1,v6)))) else (some (.inr v5.2)))
def keh (x0:Int) (x1:(((Int×Int×Bool)×Int×Int×Bool)→Option Int)) (v4:(Int×(List (Int×Int×Bool)))):Option ((Int×(List (Int×Int×Bool)))⊕(List (Int×Int×Bool))):=
 (if (decide (v4.1<x0))=true then ((iter (ker x0 x1 v4) ((w64 (2*v4.1)),0,v4.2)).bind fun v7=>(if (decide ((w64 (v7.1+v4.1))<x0))=true then ((kbc v7.1 (w64 (v7.1+v4.1)) x0 x1 v7.2).bind fun v8=>(some (.inl ((w64 (v4.1*2)),v8)))) else (some (.inl ((w64 (v4.1*2)),v7.2))))) else (some (.inr v4.2)))
def kbZ (x0:Int) (x1:(((Int×Int×Bool)×Int×Int×Bool)→Option Int)) (x2:(List (Int×Int×Bool))):Option (List (Int×Int×Bool)):=
 ((iter (kef x0 x1) (20,0,x2)).bind fun v2=>((kaK v2.1 x0 x1 v2.2).bind fun v3=>((iter (keh x0 x1) (20,v3)).bind fun v9=>(some v9))))
def kbd (x0:(((Int×Int×Bool)×Int×Int×Bool)→Option Int)) (x1:(List (Int×Int×Bool))):Option (List (Int×Int×Bool)):=
 ((kbZ (lenI x1) x0 x1).bind fun v0=>(some v0))
def kdP (x0:(((Int×Int×Bool)×Int×Int×Bool)→Option Int)) (x1:(List (Int×Int×Bool))):Option (List (Int×Int×Bool)):=
 ((kbd x0 x1).bind fun v0=>(some v0))
def kmc (x0:Belt) (v2:(List (Int×(List Fed)))) (v3:(Int×(List (Int×Int×Bool)))):Option ((Int×(List (Int×Int×Bool)))⊕(((List (Int×Int×Bool))×Int)⊕(List (Int×Int×Bool)))):=
 (if (decide (v3.1<(lenI v2)))=true then ((gi v2 v3.1).bind fun v4=>(if (decide (0≤v4.1))=true then ((gi x0.2.2.2.1 v4.1).bind fun v5=>((gi v4.2 0).bind fun v6=>((gi v4.2 (w64 ((lenI v4.2)-1))).bind fun v7=>((gapp v3.2 [((w64 ((w64 (v6.1+v5.1))-x0.2.2.1)),v4.1,true),((w64 ((w64 (v7.1+v5.1))+1)),v4.1,false)]).bind fun v8=>(some (.inl ((v3.1+1),v8))))))) else (some (.inl ((v3.1+1),v3.2))))) else (some (.inr (.inr v3.2))))
def kfK (x0:Belt) (x1:(List Fed)):Option ((List (Int×Int×Bool))×Int):=
 ((khf x0 x1).bind fun v0=>(if (v0.2 != 0)=true then (some ([],v0.2)) else ((kbJ v0.1).bind fun v1=>((runI fun o=>(kaG o v1)).bind fun v2=>((iter (kmc x0 v2) (0,[])).bind fun v9=>(match v9 with | .inl v10=>(some v10) | .inr v11=>((kdP (fun (u0:((Int×Int×Bool)×Int×Int×Bool))=>((klx u0.1 u0.2).bind fun u1=>(some u1))) v11).bind fun v12=>(some (v12,0)))))))))
def law09_table:Option (List (List Int)):=
 (some [[900,50,50],[100,800,100]])
def kiW (v2:(List Int)) (v4:(Int×Int)):Option ((Int×Int)⊕Int):=
 (if (decide (v4.1<(lenI v2)))=true then ((gi v2 v4.1).bind fun v5=>(some (.inl ((w64 (v4.1+1)),(w64 (v4.2+v5)))))) else (some (.inr v4.2)))
def kjo (x0:(List (List Int))) (v1:Int):Option (Int⊕(Int⊕Unit)):=
 (if (decide (v1<(lenI x0)))=true then ((gi x0 v1).bind fun v2=>(if ((lenI v2) != (w64 ((lenI x0)+1)))=true then (some (.inr (.inl 8))) else ((kap 0 1000 v2).bind fun v3=>(if (!v3)=true then (some (.inr (.inl 8))) else ((iter (kiW v2) (0,0)).bind fun v6=>(if (v6 != 1000)=true then (some (.inr (.inl 8))) else (some (.inl (w64 (v1+1)))))))))) else (some (.inr (.inr ()))))
def khu (x0:(List (List Int))):Option Int:=
 ((kap 1 8 [(lenI x0)]).bind fun v0=>(if (!v0)=true then (some 8) else ((iter (kjo x0) 0).bind fun v7=>(match v7 with | .inl v8=>(some v8) | .inr v9=>(some 0)))))
def khJ (rec_sort_chances_c1_m8:Int→Int→Int→(List Int)→Int→(List Int)→(List Int)→Option (Int×(List Int)×Int×(List Int)×(List Int))) (x0:Int) (x1:Int) (x6:(List Int)) (v5:(Int×(List Int)×Int×Int×(List Int)×(List Int))):Option ((Int×(List Int)×Int×Int×(List Int)×(List Int))⊕((List Int)×Int×Int×(List Int)×(List Int))):=
 (if (decide (v5.1<(lenI x6)))=true then ((gi x6 v5.1).bind fun v6=>(if (v6==0)=true then (some (.inl ((w64 (v5.1+1)),v5.2))) else ((gi v5.2.1 x0).bind fun v7=>((if (v5.1==v5.2.2.1)=true then ((gi (lset v5.2.1 x0 v5.1) x0).bind fun v8=>(some (lset (lset v5.2.1 x0 v5.1) x0 (-1)))) else (some (lset v5.2.1 x0 v5.1))).bind fun v9=>((rec_sort_chances_c1_m8 (w64 (x0+1)) (w64 (x1*v6)) v5.2.2.2.1 v9 v5.2.2.1 v5.2.2.2.2.1 v5.2.2.2.2.2).bind fun v10=>(some (.inl ((w64 (v5.1+1)),v10.2.1,v10.2.2.1,v10.1,v10.2.2.2)))))))) else (some (.inr v5.2)))
def kiA (rec_sort_chances_c1_m8:Int→Int→Int→(List Int)→Int→(List Int)→(List Int)→Option (Int×(List Int)×Int×(List Int)×(List Int))) (x0:Int) (x1:Int) (x2:Int) (x3:(List Int)) (x4:Int) (x5:(List Int)) (x6:(List Int)):Option (Int×(List Int)×Int×(List Int)×(List Int)):=
 (if (x0==x2)=true then ((keb x3).bind fun v0=>((if (decide (v0<0))=true then (some x4) else (some v0)).bind fun v1=>((gi x5 v1).bind fun v2=>((gi x5 v1).bind fun v3=>((gi x5 v1).bind fun v4=>(some (x2,x3,x4,(lset x5 v1 (w64 (v3+x1))),x6))))))) else ((iter (khJ rec_sort_chances_c1_m8 x0 x1 x6) (0,x3,x4,x2,x5,x6)).bind fun v11=>(some (v11.2.2.1,v11.1,v11.2.1,v11.2.2.2))))
def kdd:Nat→Int→Int→Int→(List Int)→Int→(List Int)→(List Int)→Option (Int×(List Int)×Int×(List Int)×(List Int))
 | 0,_,_,_,_,_,_,_=>none
 | k+1,x0,x1,x2,x3,x4,x5,x6=>kiA (kdd k) x0 x1 x2 x3 x4 x5 x6
def kfR (x0:Int) (x1:Int) (x2:Int) (x3:(List Int)) (x4:Int) (x5:(List Int)) (x6:(List Int)):Option (Int×(List Int)×Int×(List Int)×(List Int)):=kdd 1000000 x0 x1 x2 x3 x4 x5 x6
def kju (x0:(List Int)) (x1:Int):Option (List Int):=
 ((gmk (lenI x0) 0).bind fun v0=>((gmk x1 0).bind fun v1=>((kfR 0 1 x1 v1 (w64 ((lenI x0)-1)) v0 x0).bind fun v2=>(some v2.2.2.2.1))))
def kjr (x0:(List (List Int))) (x1:Int) (x2:Int):Option ((List Int)×Int):=
 ((khu x0).bind fun v0=>(if (v0 != 0)=true then (some ([],v0)) else ((kap 0 (w64 ((lenI x0)-1)) [x1]).bind fun v1=>(if (!v1)=true then (some ([],2)) else ((kap 1 5 [x2]).bind fun v2=>(if (!v2)=true then (some ([],2)) else ((gi x0 x1).bind fun v3=>((kju v3 x2).bind fun v4=>(some (v4,0))))))))))
def kiL (x0:(List Int)) (x1:Int):Option Bool:=
 ((kap 2 8 [x1]).bind fun v0=>(if v0=true then ((kap 1 12 [(lenI x0)]).bind fun v1=>(if v1=true then ((kap 0 1000 x0).bind fun v2=>(some v2)) else (some false))) else (some false)))
def kgS (x0:Pile) (x1:Pile):Option Int:=
 ((kik [(w64 (x0.1-x1.1)),(w64 ((lenI x0.2)-(lenI x1.2)))]).bind fun v0=>(some v0))
def kbz (x0:(List Pile)) (x1:Pile) (x2:((Pile×Pile)→Option Int)) (v0:(Int×Int)):Option ((Int×Int)⊕Int):=
 (if (decide (v0.1<v0.2))=true then ((gshr .u64 (IntKind.wrap .u64 (w64 (v0.1+v0.2))) 1).bind fun v1=>((gi x0 (w64 v1)).bind fun v2=>((x2 (v2,x1)).bind fun v3=>(if (decide (v3<0))=true then (some (.inl ((w64 ((w64 v1)+1)),v0.2))) else (some (.inl (v0.1,(w64 v1)))))))) else (some (.inr v0.1)))
def kaH (x0:(List Pile)) (x1:Pile) (x2:((Pile×Pile)→Option Int)):Option (Int×Bool):=
 ((iter (kbz x0 x1 x2) (0,(lenI x0))).bind fun v4=>(if (decide (v4<(lenI x0)))=true then ((gi x0 v4).bind fun v5=>((x2 (v5,x1)).bind fun v6=>(some (v4,(v6==0))))) else (some (v4,false))))
def kcF (x0:Int) (x2:((Pile×Pile)→Option Int)) (v1:(Int×(List Pile))):Option ((Int×(List Pile))⊕(List Pile)):=
 (if (decide (x0<v1.1))=true then ((gi v1.2 v1.1).bind fun v2=>((gi v1.2 v1.1).bind fun v3=>((gi v1.2 (w64 (v1.1-1))).bind fun v4=>((gi v1.2 (w64 (v1.1-1))).bind fun v5=>((x2 (v3,v5)).bind fun v6=>(if (decide (v6<0))=true then ((gi v1.2 (w64 (v1.1-1))).bind fun v7=>((gi v1.2 (w64 (v1.1-1))).bind fun v8=>((gi v1.2 v1.1).bind fun v9=>((gi v1.2 v1.1).bind fun v10=>((gi v1.2 v1.1).bind fun v11=>((gi (lset v1.2 v1.1 v8) (w64 (v1.1-1))).bind fun v12=>(some (.inl ((w64 (v1.1-1)),(lset (lset v1.2 v1.1 v8) (w64 (v1.1-1)) v10)))))))))) else (some (.inr v1.2)))))))) else (some (.inr v1.2)))
def kcJ (x0:Int) (x1:Int) (x2:((Pile×Pile)→Option Int)) (v0:(Int×(List Pile))):Option ((Int×(List Pile))⊕(List Pile)):=
 (if (decide (v0.1<x1))=true then ((iter (kcF x0 x2) v0).bind fun v13=>(some (.inl ((w64 (v0.1+1)),v13)))) else (some (.inr v0.2)))
def kaL (x0:Int) (x1:Int) (x2:((Pile×Pile)→Option Int)) (x3:(List Pile)):Option (List Pile):=
 ((iter (kcJ x0 x1 x2) ((w64 (x0+1)),x3)).bind fun v14=>(some v14))
def kdh (x0:Int) (x1:Int) (x2:Int) (v0:(Int×(List Pile))):Option ((Int×(List Pile))⊕(List Pile)):=
 (if (decide (v0.1<x2))=true then ((gi v0.2 (w64 (x1+v0.1))).bind fun v1=>((gi v0.2 (w64 (x1+v0.1))).bind fun v2=>((gi v0.2 (w64 (x0+v0.1))).bind fun v3=>((gi v0.2 (w64 (x0+v0.1))).bind fun v4=>((gi v0.2 (w64 (x0+v0.1))).bind fun v5=>((gi (lset v0.2 (w64 (x0+v0.1)) v2) (w64 (x1+v0.1))).bind fun v6=>(some (.inl ((w64 (v0.1+1)),(lset (lset v0.2 (w64 (x0+v0.1)) v2) (w64 (x1+v0.1)) v4)))))))))) else (some (.inr v0.2)))
def kay (x0:Int) (x1:Int) (x2:Int) (x3:((Pile×Pile)→Option Int)) (x4:(List Pile)):Option (List Pile):=
 ((iter (kdh x0 x1 x2) (0,x4)).bind fun v7=>(some v7))
def kdU (x1:Int) (x3:((Pile×Pile)→Option Int)) (v0:(Int×Int×(List Pile))):Option ((Int×Int×(List Pile))⊕(Int×(List Pile))):=
 (if (v0.1 != v0.2.1)=true then (if (decide (v0.2.1<v0.1))=true then ((kay (w64 (x1-v0.1)) x1 v0.2.1 x3 v0.2.2).bind fun v1=>(some (.inl ((w64 (v0.1-v0.2.1)),v0.2.1,v1)))) else ((kay (w64 (x1-v0.1)) (w64 ((w64 (x1+v0.2.1))-v0.1)) v0.1 x3 v0.2.2).bind fun v2=>(some (.inl (v0.1,(w64 (v0.2.1-v0.1)),v2))))) else (some (.inr (v0.1,v0.2.2))))
def kbS (x0:Int) (x1:Int) (x2:Int) (x3:((Pile×Pile)→Option Int)) (x4:(List Pile)):Option (List Pile):=
 ((iter (kdU x1 x3) ((w64 (x1-x0)),(w64 (x2-x1)),x4)).bind fun v3=>((kay (w64 (x1-v3.1)) x1 v3.1 x3 v3.2).bind fun v4=>(some v4)))
def kdt (x0:Int) (x3:((Pile×Pile)→Option Int)) (x4:(List Pile)) (v0:(Int×Int)):Option ((Int×Int)⊕Int):=
 (if (decide (v0.1<v0.2))=true then ((gshr .u64 (IntKind.wrap .u64 (w64 (v0.1+v0.2))) 1).bind fun v1=>((gi x4 (w64 v1)).bind fun v2=>((gi x4 (w64 v1)).bind fun v3=>((gi x4 x0).bind fun v4=>((gi x4 x0).bind fun v5=>((x3 (v3,v5)).bind fun v6=>(if (decide (v6<0))=true then (some (.inl ((w64 ((w64 v1)+1)),v0.2))) else (some (.inl (v0.1,(w64 v1))))))))))) else (some (.inr v0.1)))
def kdj (v7:Int) (v8:(Int×(List Pile))):Option ((Int×(List Pile))⊕(List Pile)):=
 (if (decide (v8.1<(w64 (v7-1))))=true then ((gi v8.2 (w64 (v8.1+1))).bind fun v9=>((gi v8.2 (w64 (v8.1+1))).bind fun v10=>((gi v8.2 v8.1).bind fun v11=>((gi v8.2 v8.1).bind fun v12=>((gi v8.2 v8.1).bind fun v13=>((gi (lset v8.2 v8.1 v10) (w64 (v8.1+1))).bind fun v14=>(some (.inl ((w64 (v8.1+1)),(lset (lset v8.2 v8.1 v10) (w64 (v8.1+1)) v12)))))))))) else (some (.inr v8.2)))
def kdq (x1:Int) (x3:((Pile×Pile)→Option Int)) (x4:(List Pile)) (v16:(Int×Int)):Option ((Int×Int)⊕Int):=
 (if (decide (v16.1<v16.2))=true then ((gshr .u64 (IntKind.wrap .u64 (w64 (v16.1+v16.2))) 1).bind fun v17=>((gi x4 x1).bind fun v18=>((gi x4 x1).bind fun v19=>((gi x4 (w64 v17)).bind fun v20=>((gi x4 (w64 v17)).bind fun v21=>((x3 (v19,v21)).bind fun v22=>(if (!(decide (v22<0)))=true then (some (.inl ((w64 ((w64 v17)+1)),v16.2))) else (some (.inl (v16.1,(w64 v17))))))))))) else (some (.inr v16.1)))
def kdp (v23:Int) (v24:(Int×(List Pile))):Option ((Int×(List Pile))⊕(List Pile)):=
 (if (decide (v23<v24.1))=true then ((gi v24.2 (w64 (v24.1-1))).bind fun v25=>((gi v24.2 (w64 (v24.1-1))).bind fun v26=>((gi v24.2 v24.1).bind fun v27=>((gi v24.2 v24.1).bind fun v28=>((gi v24.2 v24.1).bind fun v29=>((gi (lset v24.2 v24.1 v26) (w64 (v24.1-1))).bind fun v30=>(some (.inl ((w64 (v24.1-1)),(lset (lset v24.2 v24.1 v26) (w64 (v24.1-1)) v28)))))))))) else (some (.inr v24.2)))
def kdn (x1:Int) (x3:((Pile×Pile)→Option Int)) (x4:(List Pile)) (v32:Int) (v34:(Int×Int)):Option ((Int×Int)⊕Int):=
 (if (decide (v34.1<v34.2))=true then ((gshr .u64 (IntKind.wrap .u64 (w64 (v34.1+v34.2))) 1).bind fun v35=>((gi x4 (w64 ((w64 ((w64 ((w64 v32)+x1))-1))-(w64 v35)))).bind fun v36=>((gi x4 (w64 ((w64 ((w64 ((w64 v32)+x1))-1))-(w64 v35)))).bind fun v37=>((gi x4 (w64 v35)).bind fun v38=>((gi x4 (w64 v35)).bind fun v39=>((x3 (v37,v39)).bind fun v40=>(if (!(decide (v40<0)))=true then (some (.inl ((w64 ((w64 v35)+1)),v34.2))) else (some (.inl (v34.1,(w64 v35))))))))))) else (some (.inr v34.1)))
def kdJ (rec_slices_symMergeCmpFunc_sort_pile_m12:Int→Int→Int→((Pile×Pile)→Option Int)→(List Pile)→Option (List Pile)) (x0:Int) (x1:Int) (x2:Int) (x3:((Pile×Pile)→Option Int)) (x4:(List Pile)):Option (List Pile):=
 (if ((w64 (x1-x0))==1)=true then ((iter (kdt x0 x3 x4) (x1,x2)).bind fun v7=>((iter (kdj v7) (x0,x4)).bind fun v15=>(some v15))) else (if ((w64 (x2-x1))==1)=true then ((iter (kdq x1 x3 x4) (x0,x1)).bind fun v23=>((iter (kdp v23) (x1,x4)).bind fun v31=>(some v31))) else ((gshr .u64 (IntKind.wrap .u64 (w64 (x0+x2))) 1).bind fun v32=>((if (decide ((w64 v32)<x1))=true then (some ((w64 ((w64 ((w64 v32)+x1))-x2)),(w64 v32))) else (some (x0,x1))).bind fun v33=>((iter (kdn x1 x3 x4 v32) v33).bind fun v41=>((if (decide (v41<x1))=true then (some (decide (x1<(w64 ((w64 ((w64 v32)+x1))-v41))))) else (some false)).bind fun v42=>((if v42=true then ((kbS v41 x1 (w64 ((w64 ((w64 v32)+x1))-v41)) x3 x4).bind fun v43=>(some v43)) else (some x4)).bind fun v44=>((if (decide (x0<v41))=true then (some (decide (v41<(w64 v32)))) else (some false)).bind fun v45=>((if v45=true then ((rec_slices_symMergeCmpFunc_sort_pile_m12 x0 v41 (w64 v32) x3 v44).bind fun v46=>(some v46)) else (some v44)).bind fun v47=>(if (decide ((w64 v32)<(w64 ((w64 ((w64 v32)+x1))-v41))))=true then (if (decide ((w64 ((w64 ((w64 v32)+x1))-v41))<x2))=true then ((rec_slices_symMergeCmpFunc_sort_pile_m12 (w64 v32) (w64 ((w64 ((w64 v32)+x1))-v41)) x2 x3 v47).bind fun v48=>(some v48)) else (some v47)) else (some v47)))))))))))
def kaQ:Nat→Int→Int→Int→((Pile×Pile)→Option Int)→(List Pile)→Option (List Pile)
 | 0,_,_,_,_,_=>none
 | k+1,x0,x1,x2,x3,x4=>kdJ (kaQ k) x0 x1 x2 x3 x4
def kaX (x0:Int) (x1:Int) (x2:Int) (x3:((Pile×Pile)→Option Int)) (x4:(List Pile)):Option (List Pile):=kaQ 1000000 x0 x1 x2 x3 x4
def kdT (x0:Int) (x1:((Pile×Pile)→Option Int)) (v0:(Int×Int×(List Pile))):Option ((Int×Int×(List Pile))⊕(Int×(List Pile))):=
 (if (decide (v0.1≤x0))=true then ((kaL v0.2.1 v0.1 x1 v0.2.2).bind fun v1=>(some (.inl ((w64 (v0.1+20)),v0.1,v1)))) else (some (.inr v0.2)))
def kdQ (x0:Int) (x1:((Pile×Pile)→Option Int)) (v4:(Int×(List Pile))) (v5:(Int×Int×(List Pile))):Option ((Int×Int×(List Pile))⊕(Int×(List Pile))):=
 (if (decide (v5.1≤x0))=true then ((kaX v5.2.1 (w64 (v5.2.1+v4.1)) v5.1 x1 v5.2.2).bind fun v6=>(some (.inl ((w64 (v5.1+(w64 (2*v4.1)))),v5.1,v6)))) else (some (.inr v5.2)))
def kdV (x0:Int) (x1:((Pile×Pile)→Option Int)) (v4:(Int×(List Pile))):Option ((Int×(List Pile))⊕(List Pile)):=
 (if (decide (v4.1<x0))=true then ((iter (kdQ x0 x1 v4) ((w64 (2*v4.1)),0,v4.2)).bind fun v7=>(if (decide ((w64 (v7.1+v4.1))<x0))=true then ((kaX v7.1 (w64 (v7.1+v4.1)) x0 x1 v7.2).bind fun v8=>(some (.inl ((w64 (v4.1*2)),v8)))) else (some (.inl ((w64 (v4.1*2)),v7.2))))) else (some (.inr v4.2)))
def kbQ (x0:Int) (x1:((Pile×Pile)→Option Int)) (x2:(List Pile)):Option (List Pile):=
 ((iter (kdT x0 x1) (20,0,x2)).bind fun v2=>((kaL v2.1 x0 x1 v2.2).bind fun v3=>((iter (kdV x0 x1) (20,v3)).bind fun v9=>(some v9))))
def kbb (x0:((Pile×Pile)→Option Int)) (x1:(List Pile)):Option (List Pile):=
 ((kbQ (lenI x1) x0 x1).bind fun v0=>(some v0))
def kdr (x0:((Pile×Pile)→Option Int)) (x1:(List Pile)):Option (List Pile):=
 ((kbb x0 x1).bind fun v0=>(some v0))
def knG (x0:(List Int)) (v1:(Int×(List Pile))):Option ((Int×(List Pile))⊕(List Pile)):=
 (if (decide (v1.1<(lenI x0)))=true then ((gi x0 v1.1).bind fun v2=>((gapp v1.2 [(v2,[v1.1])]).bind fun v3=>(some (.inl ((w64 (v1.1+1)),v3))))) else (some (.inr v1.2)))
def koZ (x1:Int) (v5:(List Pile)):Option ((List Pile)⊕(List Pile)):=
 ((grem (w64 ((lenI v5)-1)) (w64 (x1-1))).bind fun v6=>(if (v6 != 0)=true then ((gapp v5 [(0,[])]).bind fun v7=>(some (.inl v7))) else (some (.inr v5))))
def koz (x1:Int) (v11:(Int×(List Pile)×(List Int))) (v13:Fed):Option (Fed⊕Pile):=
 (if (decide (v13.1<(x1-0)))=true then ((gmi 0 (x1-0) v13.1).bind fun v14=>((gi v11.2.1 v14).bind fun v15=>((gapp v13.2.2 v15.2).bind fun v16=>(some (.inl ((w64 (v13.1+1)),(w64 (v13.2.1+v15.1)),v16)))))) else (some (.inr v13.2)))
def koK (v17:Pile) (v18:Pile):Option (Pile⊕(List Int)):=
 (if (decide (v18.1<(lenI v17.2)))=true then ((gi v17.2 v18.1).bind fun v19=>((gi v17.2 v18.1).bind fun v20=>((gi v18.2 v20).bind fun v21=>((gi v18.2 v20).bind fun v22=>((gi v18.2 v20).bind fun v23=>(some (.inl ((w64 (v18.1+1)),(lset v18.2 v20 (w64 (v22+1))))))))))) else (some (.inr v18.2)))
def kos (x1:Int) (v11:(Int×(List Pile)×(List Int))):Option ((Int×(List Pile)×(List Int))⊕Pile):=
 (if (decide (1<(lenI v11.2.1)))=true then ((gsl v11.2.1 0 x1).bind fun v12=>((iter (koz x1 v11) (0,0,[])).bind fun v17=>((iter (koK v17) (0,v11.2.2)).bind fun v24=>((gsl v11.2.1 x1 (lenI v11.2.1)).bind fun v25=>((kaH ((List.drop (Int.toNat x1) v11.2.1).take (Int.toNat ((lenI v11.2.1)-x1))) v17 (fun (u0:(Pile×Pile))=>((kgS u0.1 u0.2).bind fun u1=>(some u1)))).bind fun v26=>((gmk (w64 (((lenI v11.2.1)-x1)+1)) (0,[])).bind fun v27=>((gmb ((lenI v11.2.1)-x1) 0 v26.1).bind fun v28=>((gi (lcopy v27 0 (lenI v27) ((List.drop (Int.toNat (x1+0)) v11.2.1).take (Int.toNat (v26.1-0)))) v26.1).bind fun v29=>((gsl (lset (lcopy v27 0 (lenI v27) ((List.drop (Int.toNat (x1+0)) v11.2.1).take (Int.toNat (v26.1-0)))) v26.1 v17) (w64 (v26.1+1)) (lenI (lset (lcopy v27 0 (lenI v27) ((List.drop (Int.toNat (x1+0)) v11.2.1).take (Int.toNat (v26.1-0)))) v26.1 v17))).bind fun v30=>((gmb ((lenI v11.2.1)-x1) v26.1 ((lenI v11.2.1)-x1)).bind fun v31=>(some (.inl ((w64 (v11.1+v17.1)),(kta (lset (lcopy v27 0 (lenI v27) ((List.drop (Int.toNat (x1+0)) v11.2.1).take (Int.toNat (v26.1-0)))) v26.1 v17) ((w64 (v26.1+1)),((lenI (lset (lcopy v27 0 (lenI v27) ((List.drop (Int.toNat (x1+0)) v11.2.1).take (Int.toNat (v26.1-0)))) v26.1 v17))-(w64 (v26.1+1)))) ((List.drop (Int.toNat (x1+v26.1)) v11.2.1).take (Int.toNat (((lenI v11.2.1)-x1)-v26.1)))),v24))))))))))))) else (some (.inr (v11.1,v11.2.2))))
def kmO (x0:(List Int)) (x1:Int):Option ((List Int)×Int×Int):=
 ((kiL x0 x1).bind fun v0=>(if (!v0)=true then (some ([],0,2)) else ((iter (knG x0) (0,[])).bind fun v4=>((iter (koZ x1) v4).bind fun v8=>((gmk (lenI x0) 0).bind fun v9=>((kdr (fun (u0:(Pile×Pile))=>((kgS u0.1 u0.2).bind fun u1=>(some u1))) v8).bind fun v10=>((iter (kos x1) (0,v10,v9)).bind fun v32=>(some (v32.2,v32.1,0)))))))))
def kjt (x0:(List (Int×Int×Int))) (x1:(List (Int×Int×Int))) (v0:Int):Option (Int⊕(Bool⊕Unit)):=
 (if (decide (v0<(lenI x0)))=true then ((gi x0 v0).bind fun v1=>((gi x1 v0).bind fun v2=>(if (!((v1.1==v2.1)&&((v1.2.1==v2.2.1)&&(v1.2.2==v2.2.2))))=true then (some (.inr (.inl false))) else (some (.inl (w64 (v0+1))))))) else (some (.inr (.inr ()))))
def kfp (x0:(List (Int×Int×Int))) (x1:(List (Int×Int×Int))):Option Bool:=
 (if ((lenI x0) != (lenI x1))=true then (some false) else ((iter (kjt x0 x1) 0).bind fun v3=>(match v3 with | .inl v4=>(some v4) | .inr v5=>(some true))))
def kiU (x0:(List (Int×Int×Bool))) (x1:(List (Int×Int×Bool))) (v0:Int):Option (Int⊕(Bool⊕Unit)):=
 (if (decide (v0<(lenI x0)))=true then ((gi x0 v0).bind fun v1=>((gi x1 v0).bind fun v2=>(if (!((v1.1==v2.1)&&((v1.2.1==v2.2.1)&&(v1.2.2==v2.2.2))))=true then (some (.inr (.inl false))) else (some (.inl (w64 (v0+1))))))) else (some (.inr (.inr ()))))
def kgI (x0:(List (Int×Int×Bool))) (x1:(List (Int×Int×Bool))):Option Bool:=
 (if ((lenI x0) != (lenI x1))=true then (some false) else ((iter (kiU x0 x1) 0).bind fun v3=>(match v3 with | .inl v4=>(some v4) | .inr v5=>(some true))))
def kkb (x0:(List Int)) (x1:(List Int)) (v0:Int):Option (Int⊕(Bool⊕Unit)):=
 (if (decide (v0<(lenI x0)))=true then ((gi x0 v0).bind fun v1=>((gi x1 v0).bind fun v2=>(if (v1 != v2)=true then (some (.inr (.inl false))) else (some (.inl (w64 (v0+1))))))) else (some (.inr (.inr ()))))
def khS (x0:(List Int)) (x1:(List Int)):Option Bool:=
 (if ((lenI x0) != (lenI x1))=true then (some false) else ((iter (kkb x0 x1) 0).bind fun v3=>(match v3 with | .inl v4=>(some v4) | .inr v5=>(some true))))
def kjd:Option Bool:=
 (law09_belt.bind fun v0=>((kcu 0 0).bind fun v1=>((kcu 6 1).bind fun v2=>((kcu 12 2).bind fun v3=>((kcZ v0 [v1,v2,v3]).bind fun v4=>(law09_belt.bind fun v5=>((kcu 0 0).bind fun v6=>((kcu 4 1).bind fun v7=>((kcZ v5 [v6,v7]).bind fun v8=>(law09_belt.bind fun v9=>((kcu 0 0).bind fun v10=>((kcu 6 1).bind fun v11=>((kcu 12 2).bind fun v12=>((kfK v9 [v10,v11,v12]).bind fun v13=>(law09_table.bind fun v14=>((kjr v14 0 2).bind fun v15=>((kmO [5,4,3] 2).bind fun v16=>(if (v4.2 != 0)=true then (some false) else ((kfp v4.1 [(0,0,10),(1,1,21),(2,(-1),32)]).bind fun v17=>(if (!v17)=true then (some false) else (if (v8.2 != 0)=true then (some false) else ((kfp v8.1 [(0,(-1),20),(1,(-1),24)]).bind fun v18=>(if (!v18)=true then (some false) else (if (v13.2==0)=true then ((kgI v13.1 [(8,0,true),(11,0,false),(19,1,true),(22,1,false)]).bind fun v19=>(if v19=true then (if (v15.2==0)=true then ((khS v15.1 [900000,7500,92500]).bind fun v20=>(if v20=true then (if (v16.2.2==0)=true then (some (v16.2.1==19)) else (some false)) else (some false))) else (some false)) else (some false))) else (some false)))))))))))))))))))))))))
def law09_alive:Option Bool:=some true
theorem krD:kjd=law09_alive:=by kernel_rfl
def kev (x1:(List Fed)) (v0:Int):Option (Int⊕(Bool⊕Unit)):=
 (if (decide (v0<(lenI x1)))=true then ((gi x1 v0).bind fun v1=>(if (decide (20<(lenI v1.2.2)))=true then (some (.inr (.inl true))) else (some (.inl (w64 (v0+1)))))) else (some (.inr (.inr ()))))
def kfL (x0:Belt) (x1:(List Fed)):Option Bool:=
 (if (decide (12<(lenI x0.2.2.2.1)))=true then (some true) else (if (decide (30<(lenI x0.2.2.2.2)))=true then (some true) else (if (decide (60<(lenI x1)))=true then (some true) else ((iter (kev x1) 0).bind fun v2=>(match v2 with | .inl v3=>(some v3) | .inr v4=>(some false))))))
def kas (x0:Int) (x1:Int) (x2:Int):Option Bool:=
 (if (decide (x1≤x0))=true then (some (decide (x0≤x2))) else (some false))
def kcO (x0:Belt) (x1:Int) (v0:Int):Option (Int⊕(Int⊕Unit)):=
 (if (decide (v0<(lenI x0.2.2.2.1)))=true then ((gi x0.2.2.2.1 v0).bind fun v1=>(if (v1.2==x1)=true then (some (.inr (.inl v0))) else (some (.inl (w64 (v0+1)))))) else (some (.inr (.inr ()))))
def kcE (x0:Belt) (x1:Int):Option Int:=
 ((iter (kcO x0 x1) 0).bind fun v2=>(match v2 with | .inl v3=>(some v3) | .inr v4=>(some (-1))))
def kdu (x0:Belt) (v3:Int):Option (Int⊕(Bool⊕Unit)):=
 (if (decide (v3<(lenI x0.2.2.2.1)))=true then ((gi x0.2.2.2.1 v3).bind fun v4=>((kas v4.1 (w64 (x0.2.1+1)) (w64 (x0.1-1))).bind fun v5=>(if (!v5)=true then (some (.inr (.inl false))) else (if (decide (0<v3))=true then ((gi x0.2.2.2.1 (w64 (v3-1))).bind fun v6=>(if (decide (v4.1≤v6.1))=true then (some (.inr (.inl false))) else ((kas v4.2 0 7).bind fun v7=>(if (!v7)=true then (some (.inr (.inl false))) else ((kcE x0 v4.2).bind fun v8=>(if (v8 != v3)=true then (some (.inr (.inl false))) else (some (.inl (w64 (v3+1)))))))))) else ((kas v4.2 0 7).bind fun v9=>(if (!v9)=true then (some (.inr (.inl false))) else ((kcE x0 v4.2).bind fun v10=>(if (v10 != v3)=true then (some (.inr (.inl false))) else (some (.inl (w64 (v3+1)))))))))))) else (some (.inr (.inr ()))))
def kdl (x0:Belt) (v14:Int):Option (Int⊕(Bool⊕Unit)):=
 (if (decide (v14<16))=true then ((gi x0.2.2.2.2 v14).bind fun v15=>((kas v15 (-1) 7).bind fun v16=>(if (!v16)=true then (some (.inr (.inl false))) else (some (.inl (w64 (v14+1))))))) else (some (.inr (.inr ()))))
def kgt (x0:Belt):Option Bool:=
 ((kas x0.1 2 100).bind fun v0=>(if (!v0)=true then (some false) else ((kas x0.2.1 0 (w64 (x0.1-2))).bind fun v1=>(if (!v1)=true then (some false) else ((kas x0.2.2.1 0 10).bind fun v2=>(if (!v2)=true then (some false) else (if (decide (8<(lenI x0.2.2.2.1)))=true then (some false) else (if ((lenI x0.2.2.2.2) != 16)=true then (some false) else ((iter (kdu x0) 0).bind fun v11=>(match v11 with | .inl v12=>(some v12) | .inr v13=>((iter (kdl x0) 0).bind fun v17=>(match v17 with | .inl v18=>(some v18) | .inr v19=>(some true)))))))))))))
def keR (x0:(List Int)) (v1:Int):Option (Int⊕(Bool⊕Unit)):=
 (if (decide (v1<(lenI x0)))=true then ((gi x0 v1).bind fun v2=>((kas v2 (-1) 15).bind fun v3=>(if (!v3)=true then (some (.inr (.inl false))) else (some (.inl (w64 (v1+1))))))) else (some (.inr (.inr ()))))
def kgr (x0:(List Int)):Option Bool:=
 ((kas (lenI x0) 1 9).bind fun v0=>(if (!v0)=true then (some false) else ((iter (keR x0) 0).bind fun v4=>(match v4 with | .inl v5=>(some v5) | .inr v6=>(some true)))))
def kew (x0:(List Fed)) (v0:Int):Option (Int⊕(Bool⊕Unit)):=
 (if (decide (v0<(lenI x0)))=true then ((gi x0 v0).bind fun v1=>((kas v1.1 0 1000).bind fun v2=>(if (!v2)=true then (some (.inr (.inl false))) else (if (decide (0<v0))=true then ((gi x0 (w64 (v0-1))).bind fun v3=>(if (decide (v1.1≤v3.1))=true then (some (.inr (.inl false))) else ((kas v1.2.1 0 15).bind fun v4=>(if (!v4)=true then (some (.inr (.inl false))) else ((kgr v1.2.2).bind fun v5=>(if (!v5)=true then (some (.inr (.inl false))) else (some (.inl (w64 (v0+1)))))))))) else ((kas v1.2.1 0 15).bind fun v6=>(if (!v6)=true then (some (.inr (.inl false))) else ((kgr v1.2.2).bind fun v7=>(if (!v7)=true then (some (.inr (.inl false))) else (some (.inl (w64 (v0+1)))))))))))) else (some (.inr (.inr ()))))
def kho (x0:(List Int)):Option (Int×Int):=
 ((kfY x0).bind fun v0=>(if (!v0)=true then (some (0,2)) else ((keb x0).bind fun v1=>(some (v1,0)))))
def kcl (x0:Belt) (x1:(List Fed)) (v2:((List (Int×Int×Int))×Int)) (v4:Int):Option (Int⊕(Bool⊕Unit)):=
 (if (decide (v4<(lenI v2.1)))=true then ((gi v2.1 v4).bind fun v5=>((gi x1 v4).bind fun v6=>((kho v6.2.2).bind fun v7=>(if (v7.2 != 0)=true then (some (.inr (.inl false))) else (if (v5.1 != v7.1)=true then (some (.inr (.inl false))) else (if (decide (v5.2.1<0))=true then ((gi x1 v4).bind fun v8=>(if (!((v5.1==v7.1)&&((v5.2.1==(-1))&&(v5.2.2==(w64 (v8.1+x0.1))))))=true then (some (.inr (.inl false))) else (some (.inl (w64 (v4+1)))))) else ((kcE x0 v5.2.1).bind fun v9=>(if (decide (v7.1<0))=true then (some (.inr (.inl false))) else (if (decide ((lenI x0.2.2.2.2)≤v7.1))=true then (some (.inr (.inl false))) else (if (decide (v9<0))=true then (some (.inr (.inl false))) else ((gi x0.2.2.2.2 v7.1).bind fun v10=>(if (v10 != v5.2.1)=true then (some (.inr (.inl false))) else ((gi x1 v4).bind fun v11=>((gi x0.2.2.2.1 v9).bind fun v12=>(if (v5.2.2 != (w64 (v11.1+v12.1)))=true then (some (.inr (.inl false))) else (some (.inl (w64 (v4+1))))))))))))))))))) else (some (.inr (.inr ()))))
def kgd (x0:Belt) (x1:(List Fed)):Option Bool:=
 (law09_alive.bind fun v0=>((kfL x0 x1).bind fun v1=>(if v1=true then (some v0) else (if (!v0)=true then (some v0) else ((kcZ x0 x1).bind fun v2=>(if (v2.2 != 0)=true then (some v0) else (if ((lenI v2.1) != (lenI x1))=true then (some false) else ((kgt x0).bind fun v3=>(if (!v3)=true then (some false) else ((iter (kcl x0 x1 v2) 0).bind fun v13=>(match v13 with | .inl v14=>(some v14) | .inr v15=>(some v0))))))))))))
end Go.Abs
set_option maxRecDepth 100000
namespace Go.Abs
open Go Go.Proofs
def kjw:Ctr:=⟨ "",[],[tBelt],fun x=>law09_belt,[],[]⟩
theorem klX:Good Try.prog 77 kjw:=
 kah Try.func77 (by kernel_rfl) (An:=[(0,⟨⟨[(8,.c (.i .i64)),(1,.ptr 8 0)],[(8,.bx 25 [.c (.i .i64),.c (.i .i64),.c (.i .i64),.mw 3,.mw 5]),(5,.sl 3 (.i .i64))]⟩,⟨[(1,.ptr 9 0)],[(9,.bx 25 [.c (.i .i64),.c (.i .i64),.c (.i .i64),.mw 3,.mw 10]),(10,.sl 3 (.i .i64))]⟩,[0],[3,2,0,1],11,false,""⟩),(49,⟨⟨[],[]⟩,⟨[(3,.c (.i .i64))],[]⟩,[2,1,8],[8,5],9,false,""⟩)]) [] (.nil) (fun x=>by kernel_rfl)
def kku:Ctr:=⟨ "",[(.i .i64),(.i .i64)],[tFed],fun x=>kcu x.1 x.2,[],[]⟩
theorem kmv:Good Try.prog 78 kku:=
 kah Try.func78 (by kernel_rfl) (An:=[]) [] (.nil) (fun x=>by kernel_rfl)
def khN:Ctr:=⟨ "",[(.i .i64),(.pt (.i .i64)),(.pt (.i .i64))],[.b],fun x=>kfk x.1 x.2.1 x.2.2,[],[]⟩
theorem kkf:Good Try.prog 82 khN:=
 kah Try.func82 (by kernel_rfl) (An:=[]) [] (.nil) (fun x=>by kernel_rfl)
def kcS:Ctr:=⟨ "",[(.sl (.i .i64)),(.fn 1 (.i .i64) .b)],[(.i .i64)],fun x=>kbN x.1 x.2,[],[]⟩
theorem kfb:Good Try.prog 93 kcS:=
 kah Try.func93 (by kernel_rfl) (An:=[(0,⟨⟨[(8,.c (.i .i64))],[]⟩,⟨[],[]⟩,[7,1,0],[],0,true,""⟩)]) [] (.nil) (fun x=>by kernel_rfl)
def kcm:Ctr:=⟨ "",[(.sl (.i .i64)),(.fn 1 (.i .i64) .b)],[.b],fun x=>kaW x.1 x.2,[],[]⟩
theorem keG:Good Try.prog 81 kcm:=
 kah Try.func81 (by kernel_rfl) (An:=[]) [(93,kcS)] (.cons kfb <| .nil) (fun x=>by kernel_rfl)
def kcC:Ctr:=⟨ "",[(.i .i64),(.i .i64),(.sl (.i .i64))],[.b],fun x=>kap x.1 x.2.1 x.2.2,[],[]⟩
theorem kch:Good Try.prog 54 kcC:=
 kah Try.func54 (by kernel_rfl) (An:=[]) [(81,kcm),(82,khN)] (.cons keG <| .cons kkf <| .nil) (fun x=>by kernel_rfl)
def kgF:Ctr:=⟨ "",[tBelt],[(.i .i64)],fun x=>keC x,[],[]⟩
theorem kiT:Good Try.prog 18 kgF:=
 kah Try.func18 (by kernel_rfl) (An:=[(0,⟨⟨[(52,.c (.i .i64)),(3,.c (.i .i64)),(4,.mp 4)],[(4,.mp (.i .i64) .b)]⟩,⟨[],[]⟩,[51,50,1],[0],5,true,""⟩)]) [(54,kcC)] (.cons kch <| .nil) (fun x=>by kernel_rfl)
def khD:Ctr:=⟨ "",[(.sl (.i .i64))],[.b],fun x=>kfY x,[],[]⟩
theorem khM:Good Try.prog 50 khD:=
 kah Try.func50 (by kernel_rfl) (An:=[]) [(54,kcC)] (.cons kch <| .nil) (fun x=>by kernel_rfl)
def khr:Ctr:=⟨ "",[(.sl tFed)],[(.i .i64)],fun x=>keS x,[],[]⟩
theorem kjL:Good Try.prog 20 khr:=
 kah Try.func20 (by kernel_rfl) (An:=[(0,⟨⟨[(11,.c (.i .i64)),(3,.c (.i .i64))],[]⟩,⟨[],[]⟩,[10,9],[],0,true,""⟩)]) [(50,khD),(54,kcC)] (.cons khM <| .cons kch <| .nil) (fun x=>by kernel_rfl)
def kiC:Ctr:=⟨ "",[tBelt,(.sl tFed)],[(.op tLine),(.i .i64)],fun x=>khf x.1 x.2,[],[]⟩
theorem kiO:Good Try.prog 59 kiC:=
 kah Try.func59 (by kernel_rfl) (An:=[(41,⟨⟨[],[]⟩,⟨[(6,.c (.i .i64))],[]⟩,[1,2],[0],1,false,""⟩)]) [(20,khr),(18,kgF)] (.cons kjL <| .cons kiT <| .nil) (fun x=>by kernel_rfl)
def keK:Ctr:=⟨ "",[(.sl (.i .i64))],[(.i .i64)],fun x=>keb x,[],[]⟩
theorem keD:Good Try.prog 51 keK:=
 kah Try.func51 (by kernel_rfl) (An:=[(0,⟨⟨[(12,.c (.i .i64)),(3,.ptr 0 0)],[(0,.el 130 (.ar 16 (.i .i64)))]⟩,⟨[(3,.ptr 1 0)],[(1,.el 130 (.ar 16 (.i .i64)))]⟩,[11,10],[],2,false,""⟩),(8,⟨⟨[(25,.c (.i .i64)),(7,.c (.i .i64)),(6,.c (.i .i64))],[]⟩,⟨[(6,.c (.i .i64))],[]⟩,[24],[],2,false,""⟩)]) [] (.nil) (fun x=>by kernel_rfl)
def kfs:Ctr:=⟨ "",[(.pr (.i .i64) (.i .i64)),(.pt (.op tLine)),(.pt (.i .i64))],[.b],fun x=>keF x.1 x.2.1 x.2.2,[],[]⟩
theorem khv:Good Try.prog 103 kfs:=
 kah Try.func103 (by kernel_rfl) (An:=[]) [] (.nil) (fun x=>by kernel_rfl)
def kbB:Ctr:=⟨ "",[(.sl (.pr (.i .i64) (.i .i64))),(.fn 1 (.pr (.i .i64) (.i .i64)) .b)],[(.i .i64)],fun x=>kaB x.1 x.2,[],[]⟩
theorem kcV:Good Try.prog 102 kbB:=
 kah Try.func102 (by kernel_rfl) (An:=[(0,⟨⟨[(8,.c (.i .i64))],[]⟩,⟨[],[]⟩,[7,1,0],[],0,true,""⟩)]) [] (.nil) (fun x=>by kernel_rfl)
def keV:Ctr:=⟨ "",[(.op tLine),tFed],[(.i .i64)],fun x=>kcQ x.1 x.2,[],[]⟩
theorem kfr:Good Try.prog 95 keV:=
 kah Try.func95 (by kernel_rfl) (An:=[]) [(102,kbB),(103,kfs),(51,keK)] (.cons kcV <| .cons khv <| .cons keD <| .nil) (fun x=>by kernel_rfl)
def keY:Ctr:=⟨ "",[tFed,(.pt (.op tLine)),(.pt (.i .i64))],[.b],fun x=>kdH x.1 x.2.1 x.2.2,[],[]⟩
theorem kgQ:Good Try.prog 96 keY:=
 kah Try.func96 (by kernel_rfl) (An:=[]) [(95,keV)] (.cons kfr <| .nil) (fun x=>by kernel_rfl)
def kbI:Ctr:=⟨ "",[(.sl tFed),(.fn 1 tFed .b)],[(.i .i64)],fun x=>kbf x.1 x.2,[],[]⟩
theorem kds:Good Try.prog 104 kbI:=
 kah Try.func104 (by kernel_rfl) (An:=[(0,⟨⟨[(8,.c (.i .i64))],[]⟩,⟨[],[]⟩,[7,1,0],[],0,true,""⟩)]) [] (.nil) (fun x=>by kernel_rfl)
def kbx:Ctr:=⟨ "",[(.sl tFed),(.fn 1 tFed .b)],[.b],fun x=>kax x.1 x.2,[],[]⟩
theorem kcT:Good Try.prog 97 kbx:=
 kah Try.func97 (by kernel_rfl) (An:=[]) [(104,kbI)] (.cons kds <| .nil) (fun x=>by kernel_rfl)
def kfN:Ctr:=⟨ "",[(.op tLine),(.sl tFed)],[(.i .i64)],fun x=>kdi x.1 x.2,[],[]⟩
theorem kie:Good Try.prog 89 kfN:=
 kah Try.func89 (by kernel_rfl) (An:=[(7,⟨⟨[],[]⟩,⟨[],[]⟩,[0],[0],0,false,""⟩)]) [(97,kbx),(96,keY),(95,keV)] (.cons kcT <| .cons kgQ <| .cons kfr <| .nil) (fun x=>by kernel_rfl)
def keE:CtrI:=⟨ "",[(.pt (.op tLine))],[(.i .i64),(.sl tFed)],fun x=>runI fun o=>kaG o x⟩
theorem kgc:GoodI Try.prog 88 keE:=
 krJ Try.func88 (by kernel_rfl) (An:=[(0,⟨⟨[(3,.c (.sl tFed)),(9000000,.gs (.pr (.i .i64) (.sl tFed)))],[]⟩,⟨[(9000000,.gs (.pr (.i .i64) (.sl tFed)))],[]⟩,[1],[],1,true,""⟩),(8,⟨⟨[(4,.c (.i .i64))],[]⟩,⟨[(4,.c (.i .i64))],[]⟩,[3,9000000],[],1,false,""⟩)]) [(89,kfN)] (.cons kie <| .nil) (fun x=>by kernel_rfl)
def kbA:Ctr:=⟨ "",[],[],fun _=>none,[],[keE]⟩
theorem kbM:Good Try.prog 88 kbA:=good_dm.moreI kgc
def sort_line_clusters_m0_M:CtrM:=⟨ "",[some (.op tLine)],⟨[],[]⟩,0,⟨[(1000000,.fn 88 [.ptr 0 0])],[(0,.bx 100 [.c (.op tLine)])]⟩,1,1,fun x=>kbJ x⟩
theorem kga:sort_line_clusters_m0_M.ok=true∧GoodM Try.prog 70 sort_line_clusters_m0_M:=
 kbg Try.func70 (by kernel_rfl) (An:=[]) [(88,kbA)] (.cons kbM <| .nil) (fun x=>by kernel_rfl)
def sort_line_clusters_C:Ctr:=⟨ "",[],[],fun _=>none,[],[]⟩
theorem sort_line_clusters_C_ok:Good Try.prog 70 sort_line_clusters_C:=good_dm
def kcL:Ctr:=⟨ "",sort_line_clusters_C.as,sort_line_clusters_C.rs,sort_line_clusters_C.F,sort_line_clusters_m0_M::sort_line_clusters_C.mus,sort_line_clusters_C.its⟩
theorem kee:Good Try.prog 70 kcL:=sort_line_clusters_C_ok.more kga
def khy:Ctr:=⟨ "",[tBelt,(.sl tFed)],[(.sl (.pr (.i .i64) (.pr (.i .i64) (.i .i64)))),(.i .i64)],fun x=>kcZ x.1 x.2,[],[]⟩
theorem kib:Good Try.prog 39 khy:=
 kah Try.func39 (by kernel_rfl) (An:=[(0,⟨⟨[],[(3,.bx 57 [.mw 2]),(2,.sl 86 (.pr (.i .i64) (.pr (.i .i64) (.i .i64))))]⟩,⟨[],[(3,.bx 57 [.mw 6]),(6,.sl 86 (.pr (.i .i64) (.pr (.i .i64) (.i .i64))))]⟩,[24,8,2],[0],7,false,""⟩),(8,⟨⟨[(29,.c (.i .i64))],[(3,.bx 57 [.mw 2]),(2,.sl 86 (.pr (.i .i64) (.pr (.i .i64) (.i .i64))))]⟩,⟨[],[(3,.bx 57 [.mw 6]),(6,.sl 86 (.pr (.i .i64) (.pr (.i .i64) (.i .i64))))]⟩,[28,27,9],[],7,false,""⟩),(47,⟨⟨[],[]⟩,⟨[],[]⟩,[0,6,5,3,2],[0,6,5,3,2],0,false,""⟩),(55,⟨⟨[],[]⟩,⟨[],[]⟩,[0,7,6,5,3,2],[0,6,5,3,2],0,false,""⟩)]) [(70,kcL),(88,kbA),(51,keK),(59,kiC)] (.cons kee <| .cons kbM <| .cons keD <| .cons kiO <| .nil) (fun x=>by kernel_rfl)
def khh:Ctr:=⟨ "",[(.i .i64)],[.b],fun x=>kgb x,[],[]⟩
theorem kji:Good Try.prog 99 khh:=
 kah Try.func99 (by kernel_rfl) (An:=[]) [] (.nil) (fun x=>by kernel_rfl)
def kgl:Ctr:=⟨ "",[(.i .i64),(.i .i64)],[(.i .i64)],fun x=>kfm x.1 x.2,[],[]⟩
theorem kiB:Good Try.prog 92 kgl:=
 kah Try.func92 (by kernel_rfl) (An:=[]) [(99,khh)] (.cons kji <| .nil) (fun x=>by kernel_rfl)
def kgE:Ctr:=⟨ "",[(.sl (.i .i64))],[(.i .i64)],fun x=>kik x,[],[]⟩
theorem khl:Good Try.prog 67 kgE:=
 kah Try.func67 (by kernel_rfl) (An:=[(0,⟨⟨[(8,.c (.i .i64))],[]⟩,⟨[],[]⟩,[7,6,3],[],0,true,""⟩)]) [] (.nil) (fun x=>by kernel_rfl)
def kjM:Ctr:=⟨ "",[(.pr (.i .i64) (.pr (.i .i64) .b)),(.pr (.i .i64) (.pr (.i .i64) .b))],[(.i .i64)],fun x=>klx x.1 x.2,[],[]⟩
theorem kmb:Good Try.prog 73 kjM:=
 kah Try.func73 (by kernel_rfl) (An:=[]) [(67,kgE),(92,kgl)] (.cons khl <| .cons kiB <| .nil) (fun x=>by kernel_rfl)
def slices_insertionSortCmpFunc_api_Swing_m1_M:CtrM:=⟨ "",[none,some (.i .i64),some (.i .i64),some (.fn 2 (.pr (.pr (.i .i64) (.pr (.i .i64) .b)) (.pr (.i .i64) (.pr (.i .i64) .b))) (.i .i64))],⟨[(0,.mw 0)],[(0,.sl 107 (.pr (.i .i64) (.pr (.i .i64) .b)))]⟩,1,⟨[(0,.mw 0)],[(0,.sl 107 (.pr (.i .i64) (.pr (.i .i64) .b)))]⟩,1,0,fun x=>kaK x.1 x.2.1 x.2.2.1 x.2.2.2⟩
theorem kcB:slices_insertionSortCmpFunc_api_Swing_m1_M.ok=true∧GoodM Try.prog 105 slices_insertionSortCmpFunc_api_Swing_m1_M:=
 kbg Try.func105 (by kernel_rfl) (An:=[(0,⟨⟨[(8,.c (.i .i64))],[(0,.sl 107 (.pr (.i .i64) (.pr (.i .i64) .b)))]⟩,⟨[],[(0,.sl 107 (.pr (.i .i64) (.pr (.i .i64) .b)))]⟩,[2,1,3],[],2,false,""⟩),(8,⟨⟨[(9,.c (.i .i64))],[(0,.sl 107 (.pr (.i .i64) (.pr (.i .i64) .b)))]⟩,⟨[],[(0,.sl 107 (.pr (.i .i64) (.pr (.i .i64) .b)))]⟩,[8],[],2,false,""⟩),(27,⟨⟨[],[]⟩,⟨[],[]⟩,[],[],0,false,""⟩)]) [] (.nil) (fun x=>by kernel_rfl)
def slices_insertionSortCmpFunc_api_Swing_C:Ctr:=⟨ "",[],[],fun _=>none,[],[]⟩
theorem slices_insertionSortCmpFunc_api_Swing_C_ok:Good Try.prog 105 slices_insertionSortCmpFunc_api_Swing_C:=good_dm
def kbt:Ctr:=⟨ "",slices_insertionSortCmpFunc_api_Swing_C.as,slices_insertionSortCmpFunc_api_Swing_C.rs,slices_insertionSortCmpFunc_api_Swing_C.F,slices_insertionSortCmpFunc_api_Swing_m1_M::slices_insertionSortCmpFunc_api_Swing_C.mus,slices_insertionSortCmpFunc_api_Swing_C.its⟩
theorem kcK:Good Try.prog 105 kbt:=slices_insertionSortCmpFunc_api_Swing_C_ok.more kcB
def slices_swapRangeCmpFunc_api_Swing_m2_M:CtrM:=⟨ "",[none,some (.i .i64),some (.i .i64),some (.i .i64),some (.fn 2 (.pr (.pr (.i .i64) (.pr (.i .i64) .b)) (.pr (.i .i64) (.pr (.i .i64) .b))) (.i .i64))],⟨[(0,.mw 0)],[(0,.sl 107 (.pr (.i .i64) (.pr (.i .i64) .b)))]⟩,1,⟨[(0,.mw 0)],[(0,.sl 107 (.pr (.i .i64) (.pr (.i .i64) .b)))]⟩,1,0,fun x=>kaA x.1 x.2.1 x.2.2.1 x.2.2.2.1 x.2.2.2.2⟩
theorem kcW:slices_swapRangeCmpFunc_api_Swing_m2_M.ok=true∧GoodM Try.prog 110 slices_swapRangeCmpFunc_api_Swing_m2_M:=
 kbg Try.func110 (by kernel_rfl) (An:=[(0,⟨⟨[(10,.c (.i .i64))],[(0,.sl 107 (.pr (.i .i64) (.pr (.i .i64) .b)))]⟩,⟨[],[(0,.sl 107 (.pr (.i .i64) (.pr (.i .i64) .b)))]⟩,[3,1,2],[],2,false,""⟩),(15,⟨⟨[],[]⟩,⟨[],[]⟩,[],[],0,false,""⟩)]) [] (.nil) (fun x=>by kernel_rfl)
def slices_swapRangeCmpFunc_api_Swing_C:Ctr:=⟨ "",[],[],fun _=>none,[],[]⟩
theorem slices_swapRangeCmpFunc_api_Swing_C_ok:Good Try.prog 110 slices_swapRangeCmpFunc_api_Swing_C:=good_dm
def kbE:Ctr:=⟨ "",slices_swapRangeCmpFunc_api_Swing_C.as,slices_swapRangeCmpFunc_api_Swing_C.rs,slices_swapRangeCmpFunc_api_Swing_C.F,slices_swapRangeCmpFunc_api_Swing_m2_M::slices_swapRangeCmpFunc_api_Swing_C.mus,slices_swapRangeCmpFunc_api_Swing_C.its⟩
theorem kdA:Good Try.prog 110 kbE:=slices_swapRangeCmpFunc_api_Swing_C_ok.more kcW
def slices_rotateCmpFunc_api_Swing_m3_M:CtrM:=⟨ "",[none,some (.i .i64),some (.i .i64),some (.i .i64),some (.fn 2 (.pr (.pr (.i .i64) (.pr (.i .i64) .b)) (.pr (.i .i64) (.pr (.i .i64) .b))) (.i .i64))],⟨[(0,.mw 0)],[(0,.sl 107 (.pr (.i .i64) (.pr (.i .i64) .b)))]⟩,1,⟨[(0,.mw 0)],[(0,.sl 107 (.pr (.i .i64) (.pr (.i .i64) .b)))]⟩,1,0,fun x=>kcc x.1 x.2.1 x.2.2.1 x.2.2.2.1 x.2.2.2.2⟩
theorem kdF:slices_rotateCmpFunc_api_Swing_m3_M.ok=true∧GoodM Try.prog 108 slices_rotateCmpFunc_api_Swing_m3_M:=
 kbg Try.func108 (by kernel_rfl) (An:=[(0,⟨⟨[(10,.c (.i .i64)),(11,.c (.i .i64))],[(0,.sl 107 (.pr (.i .i64) (.pr (.i .i64) .b)))]⟩,⟨[(10,.c (.i .i64))],[(0,.sl 107 (.pr (.i .i64) (.pr (.i .i64) .b)))]⟩,[2,4],[],2,false,""⟩)]) [(110,kbE)] (.cons kdA <| .nil) (fun x=>by kernel_rfl)
def slices_rotateCmpFunc_api_Swing_C:Ctr:=⟨ "",[],[],fun _=>none,[],[]⟩
theorem slices_rotateCmpFunc_api_Swing_C_ok:Good Try.prog 108 slices_rotateCmpFunc_api_Swing_C:=good_dm
def kcb:Ctr:=⟨ "",slices_rotateCmpFunc_api_Swing_C.as,slices_rotateCmpFunc_api_Swing_C.rs,slices_rotateCmpFunc_api_Swing_C.F,slices_rotateCmpFunc_api_Swing_m3_M::slices_rotateCmpFunc_api_Swing_C.mus,slices_rotateCmpFunc_api_Swing_C.its⟩
theorem ken:Good Try.prog 108 kcb:=slices_rotateCmpFunc_api_Swing_C_ok.more kdF
def kaP (k:Nat):CtrM:=⟨ "",[none,some (.i .i64),some (.i .i64),some (.i .i64),some (.fn 2 (.pr (.pr (.i .i64) (.pr (.i .i64) .b)) (.pr (.i .i64) (.pr (.i .i64) .b))) (.i .i64))],⟨[(0,.mw 0)],[(0,.sl 107 (.pr (.i .i64) (.pr (.i .i64) .b)))]⟩,1,⟨[(0,.mw 0)],[(0,.sl 107 (.pr (.i .i64) (.pr (.i .i64) .b)))]⟩,1,0,fun x=>kaT k x.1 x.2.1 x.2.2.1 x.2.2.2.1 x.2.2.2.2⟩
theorem kby:∀ k,(kaP k).ok=true∧GoodM Try.prog 106 (kaP k)
 | 0=>kix (by kernel_rfl) (fun x=>rfl)
 | k+1=>kbg Try.func106 (by kernel_rfl) (An:=[(0,⟨⟨[(10,.c (.i .i64)),(11,.c (.i .i64))],[]⟩,⟨[(10,.c (.i .i64))],[]⟩,[4,1],[0],1,false,""⟩),(8,⟨⟨[(13,.c (.i .i64))],[(0,.sl 107 (.pr (.i .i64) (.pr (.i .i64) .b)))]⟩,⟨[],[(0,.sl 107 (.pr (.i .i64) (.pr (.i .i64) .b)))]⟩,[10],[],2,false,""⟩),(47,⟨⟨[],[]⟩,⟨[],[]⟩,[],[],0,false,""⟩),(16,⟨⟨[(14,.c (.i .i64)),(15,.c (.i .i64))],[]⟩,⟨[(14,.c (.i .i64))],[]⟩,[4,2],[0],1,false,""⟩),(24,⟨⟨[(17,.c (.i .i64))],[(0,.sl 107 (.pr (.i .i64) (.pr (.i .i64) .b)))]⟩,⟨[],[(0,.sl 107 (.pr (.i .i64) (.pr (.i .i64) .b)))]⟩,[14],[],2,false,""⟩),(95,⟨⟨[],[]⟩,⟨[],[]⟩,[],[],0,false,""⟩),(561,⟨⟨[],[]⟩,⟨[(20,.c (.i .i64)),(21,.c (.i .i64))],[]⟩,[19,3,18,4,2,1],[0],1,false,""⟩),(32,⟨⟨[(20,.c (.i .i64)),(21,.c (.i .i64))],[]⟩,⟨[(20,.c (.i .i64))],[]⟩,[4,22,19,2,1,18,3],[0],1,false,""⟩),(158,⟨⟨[],[]⟩,⟨[(185,.c .b)],[]⟩,[20,2,24,4,1,18,3],[0],1,false,""⟩),(741,⟨⟨[],[(0,.sl 107 (.pr (.i .i64) (.pr (.i .i64) .b)))]⟩,⟨[],[(0,.sl 107 (.pr (.i .i64) (.pr (.i .i64) .b)))]⟩,[20,2,24,4,1,18,3],[],2,false,""⟩),(166,⟨⟨[],[]⟩,⟨[(199,.c .b)],[]⟩,[1,20,18,4,24,3],[0],2,false,""⟩),(797,⟨⟨[],[(0,.sl 107 (.pr (.i .i64) (.pr (.i .i64) .b)))]⟩,⟨[],[(0,.sl 107 (.pr (.i .i64) (.pr (.i .i64) .b)))]⟩,[1,20,18,4,24,3],[],3,false,""⟩)]) ((106,⟨ "",[],[],fun _=>none,[kaP k],[]⟩)::[(108,kcb)]) (.cons (good_dm.more (kby k)) <| .cons ken <| .nil) (fun x=>by kernel_rfl)
def slices_symMergeCmpFunc_api_Swing_m4_M:CtrM:=⟨ "",[none,some (.i .i64),some (.i .i64),some (.i .i64),some (.fn 2 (.pr (.pr (.i .i64) (.pr (.i .i64) .b)) (.pr (.i .i64) (.pr (.i .i64) .b))) (.i .i64))],⟨[(0,.mw 0)],[(0,.sl 107 (.pr (.i .i64) (.pr (.i .i64) .b)))]⟩,1,⟨[(0,.mw 0)],[(0,.sl 107 (.pr (.i .i64) (.pr (.i .i64) .b)))]⟩,1,0,fun x=>kbc x.1 x.2.1 x.2.2.1 x.2.2.2.1 x.2.2.2.2⟩
theorem kde:slices_symMergeCmpFunc_api_Swing_m4_M.ok=true∧GoodM Try.prog 106 slices_symMergeCmpFunc_api_Swing_m4_M:=kby 1000000
def slices_symMergeCmpFunc_api_Swing_C:Ctr:=⟨ "",[],[],fun _=>none,[],[]⟩
theorem slices_symMergeCmpFunc_api_Swing_C_ok:Good Try.prog 106 slices_symMergeCmpFunc_api_Swing_C:=good_dm
def kbK:Ctr:=⟨ "",slices_symMergeCmpFunc_api_Swing_C.as,slices_symMergeCmpFunc_api_Swing_C.rs,slices_symMergeCmpFunc_api_Swing_C.F,slices_symMergeCmpFunc_api_Swing_m4_M::slices_symMergeCmpFunc_api_Swing_C.mus,slices_symMergeCmpFunc_api_Swing_C.its⟩
theorem kdI:Good Try.prog 106 kbK:=slices_symMergeCmpFunc_api_Swing_C_ok.more kde
def slices_stableCmpFunc_api_Swing_m5_M:CtrM:=⟨ "",[none,some (.i .i64),some (.fn 2 (.pr (.pr (.i .i64) (.pr (.i .i64) .b)) (.pr (.i .i64) (.pr (.i .i64) .b))) (.i .i64))],⟨[(0,.mw 0)],[(0,.sl 107 (.pr (.i .i64) (.pr (.i .i64) .b)))]⟩,1,⟨[(0,.mw 0)],[(0,.sl 107 (.pr (.i .i64) (.pr (.i .i64) .b)))]⟩,1,0,fun x=>kbZ x.1 x.2.1 x.2.2⟩
theorem kdK:slices_stableCmpFunc_api_Swing_m5_M.ok=true∧GoodM Try.prog 98 slices_stableCmpFunc_api_Swing_m5_M:=
 kbg Try.func98 (by kernel_rfl) (An:=[(0,⟨⟨[(8,.c (.i .i64)),(7,.c (.i .i64))],[(0,.sl 107 (.pr (.i .i64) (.pr (.i .i64) .b)))]⟩,⟨[(7,.c (.i .i64))],[(0,.sl 107 (.pr (.i .i64) (.pr (.i .i64) .b)))]⟩,[1,2,6],[],2,false,""⟩),(8,⟨⟨[(6,.c (.i .i64))],[(0,.sl 107 (.pr (.i .i64) (.pr (.i .i64) .b)))]⟩,⟨[],[(0,.sl 107 (.pr (.i .i64) (.pr (.i .i64) .b)))]⟩,[1,2],[],3,false,""⟩),(16,⟨⟨[(8,.c (.i .i64)),(7,.c (.i .i64))],[(0,.sl 107 (.pr (.i .i64) (.pr (.i .i64) .b)))]⟩,⟨[(7,.c (.i .i64))],[(0,.sl 107 (.pr (.i .i64) (.pr (.i .i64) .b)))]⟩,[6],[],3,false,""⟩)]) [(106,kbK),(105,kbt)] (.cons kdI <| .cons kcK <| .nil) (fun x=>by kernel_rfl)
def slices_stableCmpFunc_api_Swing_C:Ctr:=⟨ "",[],[],fun _=>none,[],[]⟩
theorem slices_stableCmpFunc_api_Swing_C_ok:Good Try.prog 98 slices_stableCmpFunc_api_Swing_C:=good_dm
def kca:Ctr:=⟨ "",slices_stableCmpFunc_api_Swing_C.as,slices_stableCmpFunc_api_Swing_C.rs,slices_stableCmpFunc_api_Swing_C.F,slices_stableCmpFunc_api_Swing_m5_M::slices_stableCmpFunc_api_Swing_C.mus,slices_stableCmpFunc_api_Swing_C.its⟩
theorem kdX:Good Try.prog 98 kca:=slices_stableCmpFunc_api_Swing_C_ok.more kdK
def slices_SortStableFunc_s_api_Swing_api_Swing_m6_M:CtrM:=⟨ "",[none,some (.fn 2 (.pr (.pr (.i .i64) (.pr (.i .i64) .b)) (.pr (.i .i64) (.pr (.i .i64) .b))) (.i .i64))],⟨[(0,.mw 0)],[(0,.sl 107 (.pr (.i .i64) (.pr (.i .i64) .b)))]⟩,1,⟨[(0,.mw 0)],[(0,.sl 107 (.pr (.i .i64) (.pr (.i .i64) .b)))]⟩,1,0,fun x=>kbd x.1 x.2⟩
theorem kbO:slices_SortStableFunc_s_api_Swing_api_Swing_m6_M.ok=true∧GoodM Try.prog 91 slices_SortStableFunc_s_api_Swing_api_Swing_m6_M:=
 kbg Try.func91 (by kernel_rfl) (An:=[]) [(98,kca)] (.cons kdX <| .nil) (fun x=>by kernel_rfl)
def slices_SortStableFunc_s_api_Swing_api_Swing_C:Ctr:=⟨ "",[],[],fun _=>none,[],[]⟩
theorem slices_SortStableFunc_s_api_Swing_api_Swing_C_ok:Good Try.prog 91 slices_SortStableFunc_s_api_Swing_api_Swing_C:=good_dm
def kbe:Ctr:=⟨ "",slices_SortStableFunc_s_api_Swing_api_Swing_C.as,slices_SortStableFunc_s_api_Swing_api_Swing_C.rs,slices_SortStableFunc_s_api_Swing_api_Swing_C.F,slices_SortStableFunc_s_api_Swing_api_Swing_m6_M::slices_SortStableFunc_s_api_Swing_api_Swing_C.mus,slices_SortStableFunc_s_api_Swing_api_Swing_C.its⟩
theorem kcg:Good Try.prog 91 kbe:=slices_SortStableFunc_s_api_Swing_api_Swing_C_ok.more kbO
def sort_ordered_api_Swing_m7_M:CtrM:=⟨ "",[none,some (.fn 2 (.pr (.pr (.i .i64) (.pr (.i .i64) .b)) (.pr (.i .i64) (.pr (.i .i64) .b))) (.i .i64))],⟨[(0,.mw 0)],[(0,.sl 107 (.pr (.i .i64) (.pr (.i .i64) .b)))]⟩,1,⟨[(0,.mw 0),(1000000,.mw 0)],[(0,.sl 107 (.pr (.i .i64) (.pr (.i .i64) .b)))]⟩,1,1,fun x=>kdP x.1 x.2⟩
theorem kfg:sort_ordered_api_Swing_m7_M.ok=true∧GoodM Try.prog 72 sort_ordered_api_Swing_m7_M:=
 kbg Try.func72 (by kernel_rfl) (An:=[]) [(91,kbe)] (.cons kcg <| .nil) (fun x=>by kernel_rfl)
def sort_ordered_api_Swing_C:Ctr:=⟨ "",[],[],fun _=>none,[],[]⟩
theorem sort_ordered_api_Swing_C_ok:Good Try.prog 72 sort_ordered_api_Swing_C:=good_dm
def kdO:Ctr:=⟨ "",sort_ordered_api_Swing_C.as,sort_ordered_api_Swing_C.rs,sort_ordered_api_Swing_C.F,sort_ordered_api_Swing_m7_M::sort_ordered_api_Swing_C.mus,sort_ordered_api_Swing_C.its⟩
theorem kfv:Good Try.prog 72 kdO:=sort_ordered_api_Swing_C_ok.more kfg
def kiN:Ctr:=⟨ "",[tBelt,(.sl tFed)],[(.sl (.pr (.i .i64) (.pr (.i .i64) .b))),(.i .i64)],fun x=>kfK x.1 x.2,[],[]⟩
theorem kkQ:Good Try.prog 41 kiN:=
 kah Try.func41 (by kernel_rfl) (An:=[(0,⟨⟨[],[(3,.bx 56 [.mw 2]),(2,.sl 107 (.pr (.i .i64) (.pr (.i .i64) .b)))]⟩,⟨[],[(3,.bx 56 [.mw 6]),(6,.sl 107 (.pr (.i .i64) (.pr (.i .i64) .b)))]⟩,[22,8,2],[0],7,false,""⟩)]) [(72,kdO),(73,kjM),(70,kcL),(88,kbA),(59,kiC)] (.cons kfv <| .cons kmb <| .cons kee <| .cons kbM <| .cons kiO <| .nil) (fun x=>by kernel_rfl)
def kiM:Ctr:=⟨ "",[],[(.sl (.sl (.i .i64)))],fun x=>law09_table,[],[]⟩
theorem klh:Good Try.prog 79 kiM:=
 kah Try.func79 (by kernel_rfl) (An:=[]) [] (.nil) (fun x=>by kernel_rfl)
def kgk:Ctr:=⟨ "",[(.sl (.sl (.i .i64)))],[(.i .i64)],fun x=>khu x,[],[]⟩
theorem kis:Good Try.prog 28 kgk:=
 kah Try.func28 (by kernel_rfl) (An:=[(0,⟨⟨[(15,.c (.i .i64))],[]⟩,⟨[],[]⟩,[14,13,0],[],1,true,""⟩),(8,⟨⟨[(32,.c (.i .i64)),(5,.c (.i .i64))],[]⟩,⟨[(5,.c (.i .i64))],[]⟩,[31,30,15],[],1,false,""⟩)]) [(54,kcC)] (.cons kch <| .nil) (fun x=>by kernel_rfl)
def kcN (k:Nat):CtrM:=⟨ "",[some (.i .i64),some (.i .i64),none,none,none,none,none,none],⟨[(2,.ptr 0 0),(3,.ptr 1 0),(4,.ptr 3 0),(5,.ptr 4 0),(6,.ptr 6 0),(7,.ptr 7 0)],[(0,.bx 3 [.c (.i .i64)]),(1,.bx 23 [.mw 2]),(2,.sl 3 (.i .i64)),(3,.bx 3 [.c (.i .i64)]),(4,.bx 23 [.mw 5]),(5,.sl 3 (.i .i64)),(6,.bx 23 [.c (.sl (.i .i64))]),(7,.bx 133 [.fn 83 [.ptr 0 0,.ptr 1 0,.ptr 3 0,.ptr 4 0,.ptr 6 0,.ptr 7 0]])]⟩,8,⟨[(2,.ptr 0 0),(3,.ptr 1 0),(4,.ptr 3 0),(5,.ptr 4 0),(6,.ptr 6 0),(7,.ptr 7 0)],[(0,.bx 3 [.c (.i .i64)]),(1,.bx 23 [.mw 8]),(8,.sl 3 (.i .i64)),(3,.bx 3 [.c (.i .i64)]),(4,.bx 23 [.mw 9]),(9,.sl 3 (.i .i64)),(6,.bx 23 [.c (.sl (.i .i64))]),(7,.bx 133 [.fn 83 [.ptr 0 0,.ptr 1 0,.ptr 3 0,.ptr 4 0,.ptr 6 0,.ptr 7 0]])]⟩,10,0,fun x=>kdd k x.1 x.2.1 x.2.2.1 x.2.2.2.1 x.2.2.2.2.1 x.2.2.2.2.2.1 x.2.2.2.2.2.2⟩
theorem keP:∀ k,(kcN k).ok=true∧GoodM Try.prog 83 (kcN k)
 | 0=>kix (by kernel_rfl) (fun x=>rfl)
 | k+1=>kbg Try.func83 (by kernel_rfl) (An:=[(77,⟨⟨[],[]⟩,⟨[(10,.c (.i .i64))],[]⟩,[1],[3,4,5,0,1,2,6,7],8,false,""⟩),(0,⟨⟨[(30,.c (.i .i64))],[(1,.bx 23 [.mw 2]),(2,.sl 3 (.i .i64)),(3,.bx 3 [.c (.i .i64)]),(7,.bx 133 [.fn 83 [.ptr 0 0,.ptr 1 0,.ptr 3 0,.ptr 4 0,.ptr 6 0,.ptr 7 0]]),(0,.bx 3 [.c (.i .i64)]),(4,.bx 23 [.mw 5]),(5,.sl 3 (.i .i64)),(6,.bx 23 [.c (.sl (.i .i64))])]⟩,⟨[],[(1,.bx 23 [.mw 9]),(9,.sl 3 (.i .i64)),(3,.bx 3 [.c (.i .i64)]),(7,.bx 133 [.fn 83 [.ptr 0 0,.ptr 1 0,.ptr 3 0,.ptr 4 0,.ptr 6 0,.ptr 7 0]]),(0,.bx 3 [.c (.i .i64)]),(4,.bx 23 [.mw 14]),(14,.sl 3 (.i .i64)),(6,.bx 23 [.c (.sl (.i .i64))])]⟩,[29,28,0,1],[],16,false,""⟩),(173,⟨⟨[],[(2,.sl 3 (.i .i64))]⟩,⟨[],[(2,.sl 3 (.i .i64))]⟩,[12,30],[1,7,0,3,4,5,6],9,false,""⟩)]) ((83,⟨ "",[],[],fun _=>none,[kcN k],[]⟩)::[(51,keK)]) (.cons (good_dm.more (keP k)) <| .cons keD <| .nil) (fun x=>by kernel_rfl)
def sort_chances_c1_m8_M:CtrM:=⟨ "",[some (.i .i64),some (.i .i64),none,none,none,none,none,none],⟨[(2,.ptr 0 0),(3,.ptr 1 0),(4,.ptr 3 0),(5,.ptr 4 0),(6,.ptr 6 0),(7,.ptr 7 0)],[(0,.bx 3 [.c (.i .i64)]),(1,.bx 23 [.mw 2]),(2,.sl 3 (.i .i64)),(3,.bx 3 [.c (.i .i64)]),(4,.bx 23 [.mw 5]),(5,.sl 3 (.i .i64)),(6,.bx 23 [.c (.sl (.i .i64))]),(7,.bx 133 [.fn 83 [.ptr 0 0,.ptr 1 0,.ptr 3 0,.ptr 4 0,.ptr 6 0,.ptr 7 0]])]⟩,8,⟨[(2,.ptr 0 0),(3,.ptr 1 0),(4,.ptr 3 0),(5,.ptr 4 0),(6,.ptr 6 0),(7,.ptr 7 0)],[(0,.bx 3 [.c (.i .i64)]),(1,.bx 23 [.mw 8]),(8,.sl 3 (.i .i64)),(3,.bx 3 [.c (.i .i64)]),(4,.bx 23 [.mw 9]),(9,.sl 3 (.i .i64)),(6,.bx 23 [.c (.sl (.i .i64))]),(7,.bx 133 [.fn 83 [.ptr 0 0,.ptr 1 0,.ptr 3 0,.ptr 4 0,.ptr 6 0,.ptr 7 0]])]⟩,10,0,fun x=>kfR x.1 x.2.1 x.2.2.1 x.2.2.2.1 x.2.2.2.2.1 x.2.2.2.2.2.1 x.2.2.2.2.2.2⟩
theorem khg:sort_chances_c1_m8_M.ok=true∧GoodM Try.prog 83 sort_chances_c1_m8_M:=keP 1000000
def sort_chances_c1_C:Ctr:=⟨ "",[],[],fun _=>none,[],[]⟩
theorem sort_chances_c1_C_ok:Good Try.prog 83 sort_chances_c1_C:=good_dm
def kfU:Ctr:=⟨ "",sort_chances_c1_C.as,sort_chances_c1_C.rs,sort_chances_c1_C.F,sort_chances_c1_m8_M::sort_chances_c1_C.mus,sort_chances_c1_C.its⟩
theorem khT:Good Try.prog 83 kfU:=sort_chances_c1_C_ok.more khg
def khP:Ctr:=⟨ "",[(.sl (.i .i64)),(.i .i64)],[(.sl (.i .i64))],fun x=>kju x.1 x.2,[],[]⟩
theorem kkc:Good Try.prog 55 khP:=
 kah Try.func55 (by kernel_rfl) (An:=[]) [(83,kfU)] (.cons khT <| .nil) (fun x=>by kernel_rfl)
def kig:Ctr:=⟨ "",[(.sl (.sl (.i .i64))),(.i .i64),(.i .i64)],[(.sl (.i .i64)),(.i .i64)],fun x=>kjr x.1 x.2.1 x.2.2,[],[]⟩
theorem kkh:Good Try.prog 24 kig:=
 kah Try.func24 (by kernel_rfl) (An:=[]) [(55,khP),(28,kgk),(54,kcC)] (.cons kkc <| .cons kis <| .cons kch <| .nil) (fun x=>by kernel_rfl)
def khk:Ctr:=⟨ "",[(.sl (.i .i64)),(.i .i64)],[.b],fun x=>kiL x.1 x.2,[],[]⟩
theorem kiY:Good Try.prog 65 khk:=
 kah Try.func65 (by kernel_rfl) (An:=[]) [(54,kcC)] (.cons kch <| .nil) (fun x=>by kernel_rfl)
def khU:Ctr:=⟨ "",[tPile,tPile],[(.i .i64)],fun x=>kgS x.1 x.2,[],[]⟩
theorem kke:Good Try.prog 66 khU:=
 kah Try.func66 (by kernel_rfl) (An:=[]) [(67,kgE)] (.cons khl <| .nil) (fun x=>by kernel_rfl)
def kaE:Ctr:=⟨ "",[(.sl tPile),tPile,(.fn 2 (.pr tPile tPile) (.i .i64))],[(.i .i64),.b],fun x=>kaH x.1 x.2.1 x.2.2,[],[]⟩
theorem kbs:Good Try.prog 69 kaE:=
 kah Try.func69 (by kernel_rfl) (An:=[(0,⟨⟨[(9,.c (.i .i64)),(10,.c (.i .i64))],[]⟩,⟨[(9,.c (.i .i64))],[]⟩,[2,0,4,8],[0],1,false,""⟩)]) [] (.nil) (fun x=>by kernel_rfl)
def slices_insertionSortCmpFunc_sort_pile_m9_M:CtrM:=⟨ "",[none,some (.i .i64),some (.i .i64),some (.fn 2 (.pr tPile tPile) (.i .i64))],⟨[(0,.mw 0)],[(0,.sl 114 tPile)]⟩,1,⟨[(0,.mw 0)],[(0,.sl 114 tPile)]⟩,1,0,fun x=>kaL x.1 x.2.1 x.2.2.1 x.2.2.2⟩
theorem kcv:slices_insertionSortCmpFunc_sort_pile_m9_M.ok=true∧GoodM Try.prog 100 slices_insertionSortCmpFunc_sort_pile_m9_M:=
 kbg Try.func100 (by kernel_rfl) (An:=[(0,⟨⟨[(8,.c (.i .i64))],[(0,.sl 114 tPile)]⟩,⟨[],[(0,.sl 114 tPile)]⟩,[2,1,3],[],2,false,""⟩),(8,⟨⟨[(9,.c (.i .i64))],[(0,.sl 114 tPile)]⟩,⟨[],[(0,.sl 114 tPile)]⟩,[8],[],2,false,""⟩),(27,⟨⟨[],[]⟩,⟨[],[]⟩,[],[],0,false,""⟩)]) [] (.nil) (fun x=>by kernel_rfl)
def slices_insertionSortCmpFunc_sort_pile_C:Ctr:=⟨ "",[],[],fun _=>none,[],[]⟩
theorem slices_insertionSortCmpFunc_sort_pile_C_ok:Good Try.prog 100 slices_insertionSortCmpFunc_sort_pile_C:=good_dm
def kbu:Ctr:=⟨ "",slices_insertionSortCmpFunc_sort_pile_C.as,slices_insertionSortCmpFunc_sort_pile_C.rs,slices_insertionSortCmpFunc_sort_pile_C.F,slices_insertionSortCmpFunc_sort_pile_m9_M::slices_insertionSortCmpFunc_sort_pile_C.mus,slices_insertionSortCmpFunc_sort_pile_C.its⟩
theorem kcH:Good Try.prog 100 kbu:=slices_insertionSortCmpFunc_sort_pile_C_ok.more kcv
def slices_swapRangeCmpFunc_sort_pile_m10_M:CtrM:=⟨ "",[none,some (.i .i64),some (.i .i64),some (.i .i64),some (.fn 2 (.pr tPile tPile) (.i .i64))],⟨[(0,.mw 0)],[(0,.sl 114 tPile)]⟩,1,⟨[(0,.mw 0)],[(0,.sl 114 tPile)]⟩,1,0,fun x=>kay x.1 x.2.1 x.2.2.1 x.2.2.2.1 x.2.2.2.2⟩
theorem kcR:slices_swapRangeCmpFunc_sort_pile_m10_M.ok=true∧GoodM Try.prog 109 slices_swapRangeCmpFunc_sort_pile_m10_M:=
 kbg Try.func109 (by kernel_rfl) (An:=[(0,⟨⟨[(10,.c (.i .i64))],[(0,.sl 114 tPile)]⟩,⟨[],[(0,.sl 114 tPile)]⟩,[3,1,2],[],2,false,""⟩),(15,⟨⟨[],[]⟩,⟨[],[]⟩,[],[],0,false,""⟩)]) [] (.nil) (fun x=>by kernel_rfl)
def slices_swapRangeCmpFunc_sort_pile_C:Ctr:=⟨ "",[],[],fun _=>none,[],[]⟩
theorem slices_swapRangeCmpFunc_sort_pile_C_ok:Good Try.prog 109 slices_swapRangeCmpFunc_sort_pile_C:=good_dm
def kbD:Ctr:=⟨ "",slices_swapRangeCmpFunc_sort_pile_C.as,slices_swapRangeCmpFunc_sort_pile_C.rs,slices_swapRangeCmpFunc_sort_pile_C.F,slices_swapRangeCmpFunc_sort_pile_m10_M::slices_swapRangeCmpFunc_sort_pile_C.mus,slices_swapRangeCmpFunc_sort_pile_C.its⟩
theorem kdg:Good Try.prog 109 kbD:=slices_swapRangeCmpFunc_sort_pile_C_ok.more kcR
def slices_rotateCmpFunc_sort_pile_m11_M:CtrM:=⟨ "",[none,some (.i .i64),some (.i .i64),some (.i .i64),some (.fn 2 (.pr tPile tPile) (.i .i64))],⟨[(0,.mw 0)],[(0,.sl 114 tPile)]⟩,1,⟨[(0,.mw 0)],[(0,.sl 114 tPile)]⟩,1,0,fun x=>kbS x.1 x.2.1 x.2.2.1 x.2.2.2.1 x.2.2.2.2⟩
theorem kdy:slices_rotateCmpFunc_sort_pile_m11_M.ok=true∧GoodM Try.prog 107 slices_rotateCmpFunc_sort_pile_m11_M:=
 kbg Try.func107 (by kernel_rfl) (An:=[(0,⟨⟨[(10,.c (.i .i64)),(11,.c (.i .i64))],[(0,.sl 114 tPile)]⟩,⟨[(10,.c (.i .i64))],[(0,.sl 114 tPile)]⟩,[2,4],[],2,false,""⟩)]) [(109,kbD)] (.cons kdg <| .nil) (fun x=>by kernel_rfl)
def slices_rotateCmpFunc_sort_pile_C:Ctr:=⟨ "",[],[],fun _=>none,[],[]⟩
theorem slices_rotateCmpFunc_sort_pile_C_ok:Good Try.prog 107 slices_rotateCmpFunc_sort_pile_C:=good_dm
def kbP:Ctr:=⟨ "",slices_rotateCmpFunc_sort_pile_C.as,slices_rotateCmpFunc_sort_pile_C.rs,slices_rotateCmpFunc_sort_pile_C.F,slices_rotateCmpFunc_sort_pile_m11_M::slices_rotateCmpFunc_sort_pile_C.mus,slices_rotateCmpFunc_sort_pile_C.its⟩
theorem kdR:Good Try.prog 107 kbP:=slices_rotateCmpFunc_sort_pile_C_ok.more kdy
def kaM (k:Nat):CtrM:=⟨ "",[none,some (.i .i64),some (.i .i64),some (.i .i64),some (.fn 2 (.pr tPile tPile) (.i .i64))],⟨[(0,.mw 0)],[(0,.sl 114 tPile)]⟩,1,⟨[(0,.mw 0)],[(0,.sl 114 tPile)]⟩,1,0,fun x=>kaQ k x.1 x.2.1 x.2.2.1 x.2.2.2.1 x.2.2.2.2⟩
theorem kbr:∀ k,(kaM k).ok=true∧GoodM Try.prog 101 (kaM k)
 | 0=>kix (by kernel_rfl) (fun x=>rfl)
 | k+1=>kbg Try.func101 (by kernel_rfl) (An:=[(0,⟨⟨[(10,.c (.i .i64)),(11,.c (.i .i64))],[]⟩,⟨[(10,.c (.i .i64))],[]⟩,[4,1],[0],1,false,""⟩),(8,⟨⟨[(13,.c (.i .i64))],[(0,.sl 114 tPile)]⟩,⟨[],[(0,.sl 114 tPile)]⟩,[10],[],2,false,""⟩),(47,⟨⟨[],[]⟩,⟨[],[]⟩,[],[],0,false,""⟩),(16,⟨⟨[(14,.c (.i .i64)),(15,.c (.i .i64))],[]⟩,⟨[(14,.c (.i .i64))],[]⟩,[4,2],[0],1,false,""⟩),(24,⟨⟨[(17,.c (.i .i64))],[(0,.sl 114 tPile)]⟩,⟨[],[(0,.sl 114 tPile)]⟩,[14],[],2,false,""⟩),(95,⟨⟨[],[]⟩,⟨[],[]⟩,[],[],0,false,""⟩),(561,⟨⟨[],[]⟩,⟨[(20,.c (.i .i64)),(21,.c (.i .i64))],[]⟩,[19,3,18,4,2,1],[0],1,false,""⟩),(32,⟨⟨[(20,.c (.i .i64)),(21,.c (.i .i64))],[]⟩,⟨[(20,.c (.i .i64))],[]⟩,[4,22,19,2,1,18,3],[0],1,false,""⟩),(158,⟨⟨[],[]⟩,⟨[(185,.c .b)],[]⟩,[20,2,24,4,1,18,3],[0],1,false,""⟩),(741,⟨⟨[],[(0,.sl 114 tPile)]⟩,⟨[],[(0,.sl 114 tPile)]⟩,[20,2,24,4,1,18,3],[],2,false,""⟩),(166,⟨⟨[],[]⟩,⟨[(199,.c .b)],[]⟩,[1,20,18,4,24,3],[0],2,false,""⟩),(797,⟨⟨[],[(0,.sl 114 tPile)]⟩,⟨[],[(0,.sl 114 tPile)]⟩,[1,20,18,4,24,3],[],3,false,""⟩)]) ((101,⟨ "",[],[],fun _=>none,[kaM k],[]⟩)::[(107,kbP)]) (.cons (good_dm.more (kbr k)) <| .cons kdR <| .nil) (fun x=>by kernel_rfl)
def slices_symMergeCmpFunc_sort_pile_m12_M:CtrM:=⟨ "",[none,some (.i .i64),some (.i .i64),some (.i .i64),some (.fn 2 (.pr tPile tPile) (.i .i64))],⟨[(0,.mw 0)],[(0,.sl 114 tPile)]⟩,1,⟨[(0,.mw 0)],[(0,.sl 114 tPile)]⟩,1,0,fun x=>kaX x.1 x.2.1 x.2.2.1 x.2.2.2.1 x.2.2.2.2⟩
theorem kcX:slices_symMergeCmpFunc_sort_pile_m12_M.ok=true∧GoodM Try.prog 101 slices_symMergeCmpFunc_sort_pile_m12_M:=kbr 1000000
def slices_symMergeCmpFunc_sort_pile_C:Ctr:=⟨ "",[],[],fun _=>none,[],[]⟩
theorem slices_symMergeCmpFunc_sort_pile_C_ok:Good Try.prog 101 slices_symMergeCmpFunc_sort_pile_C:=good_dm
def kbG:Ctr:=⟨ "",slices_symMergeCmpFunc_sort_pile_C.as,slices_symMergeCmpFunc_sort_pile_C.rs,slices_symMergeCmpFunc_sort_pile_C.F,slices_symMergeCmpFunc_sort_pile_m12_M::slices_symMergeCmpFunc_sort_pile_C.mus,slices_symMergeCmpFunc_sort_pile_C.its⟩
theorem kdo:Good Try.prog 101 kbG:=slices_symMergeCmpFunc_sort_pile_C_ok.more kcX
def slices_stableCmpFunc_sort_pile_m13_M:CtrM:=⟨ "",[none,some (.i .i64),some (.fn 2 (.pr tPile tPile) (.i .i64))],⟨[(0,.mw 0)],[(0,.sl 114 tPile)]⟩,1,⟨[(0,.mw 0)],[(0,.sl 114 tPile)]⟩,1,0,fun x=>kbQ x.1 x.2.1 x.2.2⟩
theorem kdx:slices_stableCmpFunc_sort_pile_m13_M.ok=true∧GoodM Try.prog 94 slices_stableCmpFunc_sort_pile_m13_M:=
 kbg Try.func94 (by kernel_rfl) (An:=[(0,⟨⟨[(8,.c (.i .i64)),(7,.c (.i .i64))],[(0,.sl 114 tPile)]⟩,⟨[(7,.c (.i .i64))],[(0,.sl 114 tPile)]⟩,[1,2,6],[],2,false,""⟩),(8,⟨⟨[(6,.c (.i .i64))],[(0,.sl 114 tPile)]⟩,⟨[],[(0,.sl 114 tPile)]⟩,[1,2],[],3,false,""⟩),(16,⟨⟨[(8,.c (.i .i64)),(7,.c (.i .i64))],[(0,.sl 114 tPile)]⟩,⟨[(7,.c (.i .i64))],[(0,.sl 114 tPile)]⟩,[6],[],3,false,""⟩)]) [(101,kbG),(100,kbu)] (.cons kdo <| .cons kcH <| .nil) (fun x=>by kernel_rfl)
def slices_stableCmpFunc_sort_pile_C:Ctr:=⟨ "",[],[],fun _=>none,[],[]⟩
theorem slices_stableCmpFunc_sort_pile_C_ok:Good Try.prog 94 slices_stableCmpFunc_sort_pile_C:=good_dm
def kbR:Ctr:=⟨ "",slices_stableCmpFunc_sort_pile_C.as,slices_stableCmpFunc_sort_pile_C.rs,slices_stableCmpFunc_sort_pile_C.F,slices_stableCmpFunc_sort_pile_m13_M::slices_stableCmpFunc_sort_pile_C.mus,slices_stableCmpFunc_sort_pile_C.its⟩
theorem kdW:Good Try.prog 94 kbR:=slices_stableCmpFunc_sort_pile_C_ok.more kdx
def slices_SortStableFunc_s_sort_pile_sort_pile_m14_M:CtrM:=⟨ "",[none,some (.fn 2 (.pr tPile tPile) (.i .i64))],⟨[(0,.mw 0)],[(0,.sl 114 tPile)]⟩,1,⟨[(0,.mw 0)],[(0,.sl 114 tPile)]⟩,1,0,fun x=>kbb x.1 x.2⟩
theorem kbL:slices_SortStableFunc_s_sort_pile_sort_pile_m14_M.ok=true∧GoodM Try.prog 87 slices_SortStableFunc_s_sort_pile_sort_pile_m14_M:=
 kbg Try.func87 (by kernel_rfl) (An:=[]) [(94,kbR)] (.cons kdW <| .nil) (fun x=>by kernel_rfl)
def slices_SortStableFunc_s_sort_pile_sort_pile_C:Ctr:=⟨ "",[],[],fun _=>none,[],[]⟩
theorem slices_SortStableFunc_s_sort_pile_sort_pile_C_ok:Good Try.prog 87 slices_SortStableFunc_s_sort_pile_sort_pile_C:=good_dm
def kba:Ctr:=⟨ "",slices_SortStableFunc_s_sort_pile_sort_pile_C.as,slices_SortStableFunc_s_sort_pile_sort_pile_C.rs,slices_SortStableFunc_s_sort_pile_sort_pile_C.F,slices_SortStableFunc_s_sort_pile_sort_pile_m14_M::slices_SortStableFunc_s_sort_pile_sort_pile_C.mus,slices_SortStableFunc_s_sort_pile_sort_pile_C.its⟩
theorem kbW:Good Try.prog 87 kba:=slices_SortStableFunc_s_sort_pile_sort_pile_C_ok.more kbL
def sort_ordered_sort_pile_m15_M:CtrM:=⟨ "",[none,some (.fn 2 (.pr tPile tPile) (.i .i64))],⟨[(0,.mw 0)],[(0,.sl 114 tPile)]⟩,1,⟨[(0,.mw 0),(1000000,.mw 0)],[(0,.sl 114 tPile)]⟩,1,1,fun x=>kdr x.1 x.2⟩
theorem kfa:sort_ordered_sort_pile_m15_M.ok=true∧GoodM Try.prog 68 sort_ordered_sort_pile_m15_M:=
 kbg Try.func68 (by kernel_rfl) (An:=[]) [(87,kba)] (.cons kbW <| .nil) (fun x=>by kernel_rfl)
def sort_ordered_sort_pile_C:Ctr:=⟨ "",[],[],fun _=>none,[],[]⟩
theorem sort_ordered_sort_pile_C_ok:Good Try.prog 68 sort_ordered_sort_pile_C:=good_dm
def kdm:Ctr:=⟨ "",sort_ordered_sort_pile_C.as,sort_ordered_sort_pile_C.rs,sort_ordered_sort_pile_C.F,sort_ordered_sort_pile_m15_M::sort_ordered_sort_pile_C.mus,sort_ordered_sort_pile_C.its⟩
theorem kfq:Good Try.prog 68 kdm:=sort_ordered_sort_pile_C_ok.more kfa
def kkw:Ctr:=⟨ "",[(.sl (.i .i64)),(.i .i64)],[(.sl (.i .i64)),(.i .i64),(.i .i64)],fun x=>kmO x.1 x.2,[],[]⟩
theorem kmH:Good Try.prog 36 kkw:=
 kah Try.func36 (by kernel_rfl) (An:=[(0,⟨⟨[(28,.c (.i .i64)),(7,.mw 1)],[(1,.sl 114 tPile)]⟩,⟨[(7,.mw 2)],[(2,.sl 114 tPile)]⟩,[27,26,1,0],[],3,false,""⟩),(8,⟨⟨[(7,.mw 2)],[(2,.sl 114 tPile)]⟩,⟨[(7,.mw 3)],[(3,.sl 114 tPile)]⟩,[1,0],[],4,false,""⟩),(16,⟨⟨[(7,.mw 3),(10,.mw 4),(11,.c (.i .i64))],[(3,.sl 114 tPile),(4,.sl 3 (.i .i64))]⟩,⟨[(10,.mw 5),(11,.c (.i .i64))],[(5,.sl 3 (.i .i64))]⟩,[1,12],[],6,false,""⟩),(24,⟨⟨[(65,.c (.i .i64)),(13,.ptr 6 0)],[(6,.bx 114 [.c (.i .i64),.mw 5]),(5,.sl 3 (.i .i64))]⟩,⟨[(13,.ptr 7 0)],[(7,.bx 114 [.c (.i .i64),.mw 8]),(8,.sl 3 (.i .i64))]⟩,[64,63,10,11,7],[4,3],9,false,""⟩),(32,⟨⟨[(85,.c (.i .i64)),(10,.mw 4)],[(4,.sl 3 (.i .i64))]⟩,⟨[(10,.mw 9)],[(9,.sl 3 (.i .i64))]⟩,[84,83,11,13,7],[8,7,3],10,false,""⟩)]) [(68,kdm),(69,kaE),(66,khU),(65,khk)] (.cons kfq <| .cons kbs <| .cons kke <| .cons kiY <| .nil) (fun x=>by kernel_rfl)
def kgj:Ctr:=⟨ "",[(.sl (.pr (.i .i64) (.pr (.i .i64) (.i .i64)))),(.sl (.pr (.i .i64) (.pr (.i .i64) (.i .i64))))],[.b],fun x=>kfp x.1 x.2,[],[]⟩
theorem kip:Good Try.prog 33 kgj:=
 kah Try.func33 (by kernel_rfl) (An:=[(0,⟨⟨[(5,.c (.i .i64))],[]⟩,⟨[],[]⟩,[0,1],[],0,true,""⟩)]) [] (.nil) (fun x=>by kernel_rfl)
def kfV:Ctr:=⟨ "",[(.sl (.pr (.i .i64) (.pr (.i .i64) .b))),(.sl (.pr (.i .i64) (.pr (.i .i64) .b)))],[.b],fun x=>kgI x.1 x.2,[],[]⟩
theorem khH:Good Try.prog 43 kfV:=
 kah Try.func43 (by kernel_rfl) (An:=[(0,⟨⟨[(5,.c (.i .i64))],[]⟩,⟨[],[]⟩,[0,1],[],0,true,""⟩)]) [] (.nil) (fun x=>by kernel_rfl)
def kgW:Ctr:=⟨ "",[(.sl (.i .i64)),(.sl (.i .i64))],[.b],fun x=>khS x.1 x.2,[],[]⟩
theorem kiR:Good Try.prog 30 kgW:=
 kah Try.func30 (by kernel_rfl) (An:=[(0,⟨⟨[(5,.c (.i .i64))],[]⟩,⟨[],[]⟩,[0,1],[],0,true,""⟩)]) [] (.nil) (fun x=>by kernel_rfl)
def khZ:Ctr:=⟨ "",[],[.b],fun x=>kjd,[],[]⟩
theorem kkg:Good Try.prog 44 khZ:=
 kah Try.func44 (by kernel_rfl) (An:=[]) [(30,kgW),(43,kfV),(33,kgj),(36,kkw),(24,kig),(79,kiM),(41,kiN),(39,khy),(78,kku),(77,kjw)] (.cons kiR <| .cons khH <| .cons kip <| .cons kmH <| .cons kkh <| .cons klh <| .cons kkQ <| .cons kib <| .cons kmv <| .cons klX <| .nil) (fun x=>by kernel_rfl)
def kiK:Ctr:=⟨ "",[],[.b],fun x=>law09_alive,[],[]⟩
theorem kkL:Good Try.prog 44 kiK:=by
 have h:=kkg
 unfold khZ at h
 rw [krD] at h
 exact h
def kiQ:Ctr:=⟨ "",[tBelt,(.sl tFed)],[.b],fun x=>kfL x.1 x.2,[],[]⟩
theorem kkV:Good Try.prog 15 kiQ:=
 kah Try.func15 (by kernel_rfl) (An:=[(0,⟨⟨[(5,.c (.i .i64))],[]⟩,⟨[],[]⟩,[1],[],1,true,""⟩)]) [] (.nil) (fun x=>by kernel_rfl)
def khX:Ctr:=⟨ "",[(.i .i64),(.i .i64),(.i .i64)],[.b],fun x=>kas x.1 x.2.1 x.2.2,[],[]⟩
theorem kki:Good Try.prog 57 khX:=
 kah Try.func57 (by kernel_rfl) (An:=[]) [] (.nil) (fun x=>by kernel_rfl)
def kgg:Ctr:=⟨ "",[tBelt,(.i .i64)],[(.i .i64)],fun x=>kcE x.1 x.2,[],[]⟩
theorem kgL:Good Try.prog 48 kgg:=
 kah Try.func48 (by kernel_rfl) (An:=[(0,⟨⟨[(5,.c (.i .i64))],[]⟩,⟨[],[]⟩,[2,1],[0],1,true,""⟩)]) [] (.nil) (fun x=>by kernel_rfl)
def kjs:Ctr:=⟨ "",[tBelt],[.b],fun x=>kgt x,[],[]⟩
theorem klu:Good Try.prog 46 kjs:=
 kah Try.func46 (by kernel_rfl) (An:=[(0,⟨⟨[(3,.c (.i .i64))],[]⟩,⟨[],[]⟩,[1],[0],1,true,""⟩),(8,⟨⟨[(5,.c (.i .i64))],[]⟩,⟨[],[]⟩,[1],[0],1,true,""⟩)]) [(48,kgg),(57,khX)] (.cons kgL <| .cons kki <| .nil) (fun x=>by kernel_rfl)
def kkx:Ctr:=⟨ "",[(.sl (.i .i64))],[(.i .i64),(.i .i64)],fun x=>kho x,[],[]⟩
theorem kmw:Good Try.prog 16 kkx:=
 kah Try.func16 (by kernel_rfl) (An:=[]) [(51,keK),(50,khD)] (.cons keD <| .cons khM <| .nil) (fun x=>by kernel_rfl)
def klY:Ctr:=⟨ "",[tBelt,(.sl tFed)],[.b],fun x=>kgd x.1 x.2,[],[]⟩
theorem law09_SortOwn_C_ok:Good Try.prog 11 klY:=
 kah Try.func11 (by kernel_rfl) (An:=[(0,⟨⟨[(43,.c (.i .i64))],[]⟩,⟨[],[]⟩,[42,41,1,2,5],[0],1,true,""⟩)]) [(16,kkx),(46,kjs),(48,kgg),(15,kiQ),(44,kiK),(39,khy)] (.cons kmw <| .cons klu <| .cons kgL <| .cons kkV <| .cons kkL <| .cons kib <| .nil) (fun x=>by kernel_rfl)
end Go.Abs
namespace Go.Abs
open Go
def keB (x0:(List Int)) (x1:Int) (v0:(Int×Int)):Option ((Int×Int)⊕Int):=
 (if (decide (v0.1<(lenI x0)))=true then ((gi x0 v0.1).bind fun v1=>(if (v1==x1)=true then (some (.inl ((w64 (v0.1+1)),(w64 (v0.2+1))))) else (some (.inl ((w64 (v0.1+1)),v0.2))))) else (some (.inr v0.2)))
def khw (x0:(List Int)) (x1:Int):Option Int:=
 ((iter (keB x0 x1) (0,0)).bind fun v2=>(some v2))
def kdv (x0:(List Int)) (v0:(Int×Int×Int×Bool)):Option ((Int×Int×Int×Bool)⊕(Int×Bool×Int)):=
 (if (decide (v0.1<16))=true then ((khw x0 v0.1).bind fun v1=>(if (decide (v0.2.1<v1))=true then (some (.inl ((w64 (v0.1+1)),v1,v0.1,false))) else (if (v1==v0.2.1)=true then (some (.inl ((w64 (v0.1+1)),v0.2.1,v0.2.2.1,true))) else (some (.inl ((w64 (v0.1+1)),v0.2)))))) else (some (.inr (v0.2.1,v0.2.2.2,v0.2.2.1))))
def kgo (x0:(List Int)):Option Int:=
 ((iter (kdv x0) (0,0,(-1),false)).bind fun v2=>(if (v2.1==0)=true then (some (-1)) else (if v2.2.1=true then (some (-1)) else (some v2.2.2))))
def kfx (x0:Belt) (x1:(List Fed)) (v0:Int):Option (Int⊕Int):=
 (if (decide (0<v0))=true then ((gi x1 v0).bind fun v1=>((gi x1 (w64 (v0-1))).bind fun v2=>(if (decide ((w64 (v1.1-v2.1))≤(w64 ((w64 (2*x0.2.2.1))+1))))=true then (some (.inl (w64 (v0-1)))) else (some (.inr v0))))) else (some (.inr v0)))
def khA (x0:Belt) (x1:(List Fed)) (x2:Int):Option Int:=
 ((iter (kfx x0 x1) x2).bind fun v3=>(some v3))
def kgh (x0:Belt) (x1:(List Fed)) (v0:Int):Option (Int⊕Int):=
 (if (decide ((w64 (v0+1))<(lenI x1)))=true then ((gi x1 (w64 (v0+1))).bind fun v1=>((gi x1 v0).bind fun v2=>(if (decide ((w64 (v1.1-v2.1))≤(w64 ((w64 (2*x0.2.2.1))+1))))=true then (some (.inl (w64 (v0+1)))) else (some (.inr v0))))) else (some (.inr v0)))
def kiF (x0:Belt) (x1:(List Fed)) (x2:Int):Option Int:=
 ((iter (kgh x0 x1) x2).bind fun v3=>(some v3))
def kgq (x0:Belt) (x1:Int):Option Int:=
 (if (decide (x1<0))=true then (some (-1)) else ((gi x0.2.2.2.2 x1).bind fun v0=>(if (decide (v0<0))=true then (some (-1)) else ((gi x0.2.2.2.2 x1).bind fun v1=>((kcE x0 v1).bind fun v2=>(some v2))))))
def kdN (x0:Belt) (x1:(List Fed)) (v1:Int) (v4:Int) (v5:Int):Option (Int⊕(Int⊕Unit)):=
 (if (decide (v5≤v1))=true then ((gi x1 v5).bind fun v6=>((kgo v6.2.2).bind fun v7=>((kgq x0 v7).bind fun v8=>(if (v8 != v4)=true then (some (.inr (.inl (-1)))) else (some (.inl (w64 (v5+1)))))))) else (some (.inr (.inr ()))))
def kgK (x0:Belt) (x1:(List Fed)) (x2:Int):Option Int:=
 ((khA x0 x1 x2).bind fun v0=>((kiF x0 x1 x2).bind fun v1=>((gi x1 x2).bind fun v2=>((kgo v2.2.2).bind fun v3=>((kgq x0 v3).bind fun v4=>((iter (kdN x0 x1 v1 v4) v0).bind fun v9=>(match v9 with | .inl v10=>(some v10) | .inr v11=>(if (decide (v4<0))=true then (some (-1)) else ((gi x1 v1).bind fun v12=>((gi x1 v0).bind fun v13=>((gi x0.2.2.2.1 v4).bind fun v14=>(if (decide ((w64 (v14.1-x0.2.1))<(w64 ((w64 ((w64 (v12.1-v13.1))+(w64 (3*x0.2.2.1))))+1))))=true then (some (-1)) else (some v4)))))))))))))
end Go.Abs
namespace Go.Abs
open Go
theorem koC (l:List Int) (hl:l.length≤100000) (p:Int→Bool):kaW l (fun x=>some (p x))=some (l.any p):=by
 unfold kaW kbN
 rw [kgn (F:=kaV l _) l (by omega) (fun i x=>if p x then some (i:Int) else none) (fun i hi=>by
  unfold kaV
  rw [if_pos (lenI_lt.2 hi),kaU hi,kbl (by omega)]
  simp only [Option.bind_some]
  by_cases h:p l[i]=true <;> simp [h,nextL]) (by unfold kaV; rw [if_neg kaY])]
 have:∀ (l:List Int) (k:Nat),endL ((l.zipIdx k).findSome? fun x=>if p x.1 then some (x.2:Int) else none)=(if l.any p then .inl ((k:Int)+(l.findIdx p:Nat)) else .inr ()):=by
  intro l
  induction l with
  | nil=>intro k; rfl
  | cons x l ih=>
   intro k
   rw [List.zipIdx_cons,List.findSome?_cons,List.any_cons,List.findIdx_cons]
   cases hp:p x with
   | true=>simp [endL]
   | false=>
    simp only [Bool.false_eq_true,if_false,Bool.false_or,cond_false]
    rw [ih (k+1)]
    congr 2; push_cast; omega
 rw [this l 0]
 by_cases h:l.any p=true <;> simp [h]
theorem khe (lo hi:Int) (l:List Int) (hl:l.length≤100000):kap lo hi l=some (l.all (wi lo hi)):=by
 unfold kap
 have e:(fun u0:Int=>(kfk u0 lo hi).bind fun u1=>some u1)=fun u=>some (!wi lo hi u):=by
  funext u
  unfold kfk wi
  by_cases h1:u<lo <;> by_cases h2:hi<u <;> simp [h1,h2] <;> omega
 rw [e,koC l hl,kmy]
 simp
@[simp] theorem from1 (lo hi n:Int):kap lo hi [n]=some (wi lo hi n):=by rw [khe lo hi [n] (by simp)]; simp
@[simp] theorem keW (n lo hi:Int):kas n lo hi=some (wi lo hi n):=by
 unfold kas wi; by_cases h:lo≤n <;> simp [h]
def saidR (l:List Int):Bool:=wi 1 9 l.length&&l.all (wi (-1) 15)
theorem kqf (l:List Int) (hl:l.length≤100000):kfY l=some (saidR l):=by
 unfold kfY saidR
 rw [khe _ _ l hl,from1,kbp]
 by_cases h:wi 1 9 l.length=true <;> simp [h]
theorem kso (l:List Int) (hl:l.length≤100000):kgr l=some (saidR l):=by
 unfold kgr saidR
 rw [khi (F:=keR l) false l (by omega) (fun i x=>!wi (-1) 15 x) (fun i hi=>by
  unfold keR
  rw [if_pos (lenI_lt.2 hi),kaU hi,kbl (by omega)]
  simp only [Option.bind_some,keW]
  by_cases h:wi (-1) 15 l[i]=true <;> simp [h]) (by unfold keR; rw [if_neg kaY]),kjO (fun x=>!wi (-1) 15 x),kmy]
 simp only [keW,Option.bind_some,kbp]
 by_cases h1:wi 1 9 l.length=true <;> by_cases h3:l.all (wi (-1) 15)=true <;> simp [h1,h3]
theorem klV {l:List Int} (h:saidR l=true):(l.length:Int)≤9∧0<l.length∧∀ x∈l,-1≤x∧x≤15:=by
 simp only [saidR,Bool.and_eq_true,wi_iff,List.all_eq_true] at h
 exact ⟨by omega,by omega,fun x hx=>h.2 x hx⟩
def kaI (k:Int) (l:List Int):Int:=(l.countP fun x=>x==k:Nat)
theorem kky (k x:Int) (l:List Int):kaI k (l++[x])=kaI k l+if x=k then 1 else 0:=by
 unfold kaI; rw [List.countP_append]; by_cases h:x=k <;> simp [h]
theorem kjn (k:Int) (l:List Int):0≤kaI k l∧kaI k l≤l.length:=by
 unfold kaI; have:=List.countP_le_length (p:=fun x=>x==k) (l:=l); omega
theorem koX (l:List Int) (kind:Int) (hl:(l.length:Int)≤1000):∀ k i:Nat,i+k=l.length→itN (keB l kind) (k+1) ((i:Int),kaI kind (l.take i))=some (kaI kind l)
 | 0,i,h=>kaC (by
  have:i=l.length:=by omega
  subst this
  unfold keB; rw [if_neg kaY,List.take_length])
 | k+1,i,h=>by
  have hi:i<l.length:=by omega
  have hv:=kjn kind (l.take i)
  have hs:=kky kind l[i] (l.take i)
  rw [List.take_append_getElem hi] at hs
  simp only [List.length_take] at hv
  rw [←koX l kind hl k (i+1) (by omega)]
  apply kcq
  unfold keB
  rw [if_pos (lenI_lt.2 hi),kaU hi,kbl (by omega),kam (by omega) (by omega)]
  simp only [Option.bind_some]
  by_cases hk:l[i]=kind
  ·rw [if_pos (by simpa using hk),hs,if_pos hk]
  ·rw [if_neg (by simpa using hk),hs,if_neg hk,Int.add_zero]
theorem krX (l:List Int) (kind:Int) (hl:(l.length:Int)≤1000):khw l kind=some (kaI kind l):=by
 unfold khw
 have:=koX l kind hl l.length 0 (by omega)
 simp only [List.take_zero,Int.natCast_zero] at this
 rw [show kaI kind []=0 from rfl] at this
 rw [kci this (by omega)]; rfl
def scanF (v:Int→Int):Nat→Int→Int→Int→Int×Int
 | 0,_,b,m=>(b,m)
 | k+1,x,b,m=>if m<v x then scanF v k (x+1) x (v x) else if v x=m then scanF v k (x+1) (-1) m else scanF v k (x+1) b m
def seenR (l:List Int):Int:=(scanF (fun k=>kaI k l) 16 0 (-1) 0).1
theorem scan0 (v:Int→Int) (hv:∀ k,0≤v k):∀ k x b m,0≤m→(m=0→b = -1)→((scanF v k x b m).2=0→(scanF v k x b m).1 = -1)
 | 0,x,b,m,_,h=>h
 | k+1,x,b,m,hm,h=>by
  simp only [scanF]
  split
  ·exact scan0 v hv k _ _ _ (hv x) (fun e=>by omega)
  ·split
   ·exact scan0 v hv k _ _ _ hm (fun _=>rfl)
   ·exact scan0 v hv k _ _ _ hm h
theorem kjY (l:List Int) (hl:(l.length:Int)≤1000):∀ (k:Nat) (x b m:Int) (e:Bool),0≤x→x+k=16→∃ b' m' e',itN (kdv l) (k+1) (x,m,b,e)=some (m',e',b')∧scanF (fun k=>kaI k l) k x (if e then -1 else b) m=(if e' then -1 else b',m')
 | 0,x,b,m,e,h0,h=>⟨b,m,e,kaC (by unfold kdv; rw [if_neg (by simp; omega)]),rfl⟩
 | k+1,x,b,m,e,h0,h=>by
  have hgo:kdv l (x,m,b,e)=some (.inl (x+1,if m<kaI x l then (kaI x l,x,false) else if kaI x l=m then (m,b,true) else (m,b,e))):=by
   unfold kdv
   rw [if_pos (by simp; omega),krX l x hl]
   simp only [Option.bind_some,decide_eq_true_eq,beq_iff_eq]
   rw [kam (by omega) (by omega)]
   by_cases h1:m<kaI x l
   ·rw [if_pos h1,if_pos h1]
   ·rw [if_neg h1,if_neg h1]
    by_cases h2:kaI x l=m
    ·rw [if_pos h2,if_pos h2]
    ·rw [if_neg h2,if_neg h2]
  rw [kcq hgo]
  simp only [scanF]
  by_cases h1:m<kaI x l
  ·rw [if_pos h1,if_pos h1]; exact kjY l hl k (x+1) x (kaI x l) false (by omega) (by omega)
  ·rw [if_neg h1,if_neg h1]
   by_cases h2:kaI x l=m
   ·rw [if_pos h2,if_pos h2]; exact kjY l hl k (x+1) b m true (by omega) (by omega)
   ·rw [if_neg h2,if_neg h2]; exact kjY l hl k (x+1) b m e (by omega) (by omega)
theorem kpY (l:List Int) (hl:(l.length:Int)≤1000):kgo l=some (seenR l):=by
 unfold kgo seenR
 obtain ⟨b,m,e,h1,h2⟩:=kjY l hl 16 0 (-1) 0 false (by omega) (by omega)
 simp only [Bool.false_eq_true,if_false] at h2
 have h3:=scan0 (fun k=>kaI k l) (fun k=>(kjn k l).1) 16 0 (-1) 0 (by omega) (fun _=>rfl)
 rw [h2] at h3
 rw [kci h1 (by omega),h2]
 simp only [Option.bind_some]
 simp only at h3
 by_cases hm:m=0
 ·rw [h3 hm]; simp [hm]
 ·cases e <;> simp [hm]
def tally (v:Int→Int):Arr 16 Int:=⟨(List.range 16).map fun (k:Nat)=>v (k:Int),by simp⟩
theorem klz (v:Int→Int) {x:Int} (h0:0≤x) (h1:x≤15):garr (tally v) x=some (v x):=by
 unfold garr gi tally
 rw [if_pos h0,List.getElem?_map,List.getElem?_range (by omega)]
 simp [Int.toNat_of_nonneg h0]
theorem kmh {n:Nat} {α:Type} {a b:Arr n α} (h:a.l=b.l):a=b:=by cases a; cases b; simp only at h; subst h; rfl
theorem kqp (v:Int→Int) {x:Int} (h0:0≤x) (h1:x≤15) (c:Int):aset (tally v) x c=tally fun k=>if k=x then c else v k:=by
 apply kmh
 apply List.ext_getElem?
 intro j
 unfold tally aset
 simp only
 rw [List.getElem?_set]
 by_cases hj:x.toNat=j
 ·subst hj
  simp [List.getElem?_range,show x.toNat<16 by omega,Int.toNat_of_nonneg h0]
 ·rw [if_neg hj]
  by_cases hj2:j<16
  ·simp only [List.getElem?_map,List.getElem?_range hj2,Option.map_some]
   rw [if_neg (by omega)]
  ·simp [show ¬ j<16 from hj2]
theorem kpO (l:List Int) (hl:(l.length:Int)≤1000) (hx:∀ x∈l,x≤15):∀ k i:Nat,i+k=l.length→itN (kfo l) (k+1) ((i:Int),tally fun x=>kaI x (l.take i))=some (tally fun x=>kaI x l)
 | 0,i,h=>kaC (by
  have:i=l.length:=by omega
  subst this
  unfold kfo; rw [if_neg kaY,List.take_length])
 | k+1,i,h=>by
  have hi:i<l.length:=by omega
  have hs:=fun x=>kky x l[i] (l.take i)
  simp only [List.take_append_getElem hi] at hs
  have hl15:=hx l[i] (List.getElem_mem hi)
  rw [←kpO l hl hx k (i+1) (by omega)]
  apply kcq
  unfold kfo
  rw [if_pos (lenI_lt.2 hi),kaU hi,kbl (by omega)]
  simp only [Option.bind_some,decide_eq_true_eq]
  by_cases h0:0≤l[i]
  ·have hv:=kjn l[i] (l.take i)
   simp only [List.length_take] at hv
   rw [if_pos h0,klz _ h0 hl15]
   simp only [Option.bind_some]
   rw [kam (by omega) (by omega),kqp _ h0 hl15]
   congr 4
   funext x
   rw [hs]
   by_cases hxx:x=l[i]
   ·simp [hxx]
   ·simp [hxx,show ¬ l[i]=x from fun e=>hxx e.symm]
  ·rw [if_neg h0]
   congr 3
   apply kmh
   unfold tally
   simp only
   apply List.map_congr_left
   intro j _
   show kaI _ _=kaI _ _
   rw [hs,if_neg (by omega)]; simp
theorem kjR (v:Int→Int):∀ (k:Nat) (x b m:Int),0≤x→x+k=16→itN (kej (tally v)) (k+1) (x,m,b)=some (scanF v k x b m).1
 | 0,x,b,m,_,_=>kaC (by unfold kej; rw [if_neg (by simp; omega)]; rfl)
 | k+1,x,b,m,h0,h=>by
  have hgo:kej (tally v) (x,m,b)=some (.inl (x+1,if m<v x then (v x,x) else if v x=m then (m,-1) else (m,b))):=by
   unfold kej
   rw [if_pos (by simp; omega),klz v h0 (by omega)]
   simp only [Option.bind_some,decide_eq_true_eq,beq_iff_eq]
   rw [kam (by omega) (by omega)]
   by_cases h1:m<v x
   ·rw [if_pos h1,if_pos h1]
   ·rw [if_neg h1,if_neg h1]
    by_cases h2:v x=m
    ·rw [if_pos h2,if_pos h2]
    ·rw [if_neg h2,if_neg h2]
  rw [kcq hgo]
  simp only [scanF]
  by_cases h1:m<v x
  ·rw [if_pos h1,if_pos h1]; exact kjR v k _ _ _ (by omega) (by omega)
  ·rw [if_neg h1,if_neg h1]
   by_cases h2:v x=m
   ·rw [if_pos h2,if_pos h2]; exact kjR v k _ _ _ (by omega) (by omega)
   ·rw [if_neg h2,if_neg h2]; exact kjR v k _ _ _ (by omega) (by omega)
theorem kmn (l:List Int) (hl:(l.length:Int)≤1000) (hx:∀ x∈l,x≤15):keb l=some (seenR l):=by
 unfold keb seenR
 have:=kpO l hl hx l.length 0 (by omega)
 simp only [List.take_zero,Int.natCast_zero] at this
 rw [show (tally fun x=>kaI x [])=amk 16 0 from kmh rfl] at this
 rw [kci this (by omega)]
 simp only [Option.bind_some]
 rw [kci (kjR _ 16 0 (-1) 0 (by omega) (by omega)) (by omega)]
 rfl
def fedF:List Fed→Int→Bool
 | [],_=>true
 | x::r,m=>wi m 1000 x.1&&wi 0 15 x.2.1&&saidR x.2.2&&fedF r (x.1+1)
theorem kjm (x:Fed) (r:List Fed) (m:Int):fedF (x::r) m=(wi m 1000 x.1&&wi 0 15 x.2.1&&saidR x.2.2&&fedF r (x.1+1)):=rfl
def fedR (l:List Fed):Bool:=decide ((l.length:Int)≤40)&&fedF l 0
theorem kkl (l:List Fed) (hr:∀ x∈l,x.2.2.length≤1000) (hl:l.length≤1000):∀ (k i:Nat) (m:Int),0≤m→i+k=l.length→itN (kck l) (k+1) ((i:Int),m)=some (if fedF (l.drop i) m then .inr () else .inl 91)
 | 0,i,m,hm,h=>by
  have:i=l.length:=by omega
  subst this
  rw [List.drop_length]
  exact kaC (by unfold kck; rw [if_neg kaY]; rfl)
 | k+1,i,m,hm,h=>by
  have hi:i<l.length:=by omega
  have hri:=hr l[i] (List.getElem_mem hi)
  have e:kck l ((i:Int),m)=some (if (wi m 1000 l[i].1&&wi 0 15 l[i].2.1&&saidR l[i].2.2)=true then .inl (((i+1:Nat):Int),w64 (l[i].1+1)) else .inr (.inl 91)):=by
   unfold kck
   rw [if_pos (lenI_lt.2 hi),kaU hi,kbl (by omega)]
   simp only [Option.bind_some,from1,kqf _ (show l[i].2.2.length≤100000 by omega)]
   by_cases h1:wi m 1000 l[i].1=true <;> by_cases h2:wi 0 15 l[i].2.1=true <;> by_cases h3:saidR l[i].2.2=true <;> simp [h1,h2,h3]
  rw [List.drop_eq_getElem_cons hi]
  rw [kjm]
  by_cases hc:(wi m 1000 l[i].1&&wi 0 15 l[i].2.1&&saidR l[i].2.2)=true
  ·rw [hc,Bool.true_and]
   rw [if_pos hc] at e
   simp only [Bool.and_eq_true,wi_iff] at hc
   rw [kam (by omega) (by omega)] at e
   rw [kcq e]
   exact kkl l hr hl k (i+1) _ (by omega) (by omega)
  ·rw [if_neg hc] at e
   rw [kaC e,Bool.eq_false_iff.2 hc]; rfl
theorem kpt (l:List Fed) (hr:∀ x∈l,x.2.2.length≤1000) (hl:l.length≤1000):keS l=some (if fedR l then 0 else 91):=by
 unfold keS fedR
 have:=kkl l hr hl l.length 0 0 (by omega) (by omega)
 rw [List.drop_zero] at this
 rw [show ((0:Int),(0:Int))=(((0:Nat):Int),0) from rfl,kci this (by omega),kbp]
 by_cases h:(l.length:Int)≤40
 ·have h':¬ (40:Int)<l.length:=by omega
  by_cases h2:fedF l 0=true <;> simp [h,h',h2]
 ·have h':(40:Int)<l.length:=by omega
  simp [h,h']
theorem krF (l:List Fed) (hr:∀ x∈l,x.2.2.length≤1000) (hl:(l.length:Int)≤40):∀ (k i:Nat) (m:Int),0≤m→(i=0→m=0)→(∀ h:0<i,(h':i-1<l.length)→m=l[i-1].1+1)→i+k=l.length→itN (kew l) (k+1) (i:Int)=some (if fedF (l.drop i) m then .inr () else .inl false)
 | 0,i,m,hm,h0,h1,h=>by
  have:i=l.length:=by omega
  subst this
  rw [List.drop_length]
  exact kaC (by unfold kew; rw [if_neg kaY]; rfl)
 | k+1,i,m,hm,h0,h1,h=>by
  have hi:i<l.length:=by omega
  have hri:=hr l[i] (List.getElem_mem hi)
  have e:kew l (i:Int)=some (if (wi m 1000 l[i].1&&wi 0 15 l[i].2.1&&saidR l[i].2.2)=true then .inl ((i+1:Nat):Int) else .inr (.inl false)):=by
   unfold kew
   rw [if_pos (lenI_lt.2 hi),kaU hi,kbl (by omega)]
   simp only [Option.bind_some,keW,kso _ (show l[i].2.2.length≤100000 by omega),decide_eq_true_eq]
   rcases Nat.eq_zero_or_pos i with hz | hz
   ·have hm0:=h0 hz
    subst hm0
    rw [if_neg (show ¬ (0:Int)<i by omega)]
    by_cases h1:wi 0 1000 l[i].1=true <;> by_cases h2:wi 0 15 l[i].2.1=true <;> by_cases h3:saidR l[i].2.2=true <;> simp [h1,h2,h3]
   ·have hm1:=h1 hz (by omega)
    rw [if_pos (show (0:Int)<i by omega),kmU hz (by omega),kaU (show i-1<l.length by omega)]
    simp only [Option.bind_some]
    have hw:wi m 1000 l[i].1=(wi 0 1000 l[i].1&&!decide (l[i].1≤l[i-1].1)):=by
     rw [Bool.eq_iff_iff]; simp only [Bool.and_eq_true,wi_iff,Bool.not_eq_true',decide_eq_false_iff_not]; omega
    rw [hw]
    by_cases h1:wi 0 1000 l[i].1=true <;> by_cases h4:l[i].1≤l[i-1].1 <;> by_cases h2:wi 0 15 l[i].2.1=true <;> by_cases h3:saidR l[i].2.2=true <;> simp [h1,h2,h3,h4]
  rw [List.drop_eq_getElem_cons hi]
  rw [kjm]
  by_cases hc:(wi m 1000 l[i].1&&wi 0 15 l[i].2.1&&saidR l[i].2.2)=true
  ·rw [hc,Bool.true_and]
   rw [if_pos hc] at e
   simp only [Bool.and_eq_true,wi_iff] at hc
   rw [kcq e]
   exact krF l hr hl k (i+1) _ (by omega) (by omega) (fun _ _=>rfl) (by omega)
  ·rw [if_neg hc] at e
   rw [kaC e,Bool.eq_false_iff.2 hc]; rfl
def keM (hi:Int):List (Int×Int)→Int→List Int→Bool
 | [],_,_=>true
 | g::r,m,s=>wi m hi g.1&&wi 0 7 g.2&&!s.contains g.2&&keM hi r (g.1+1) (g.2::s)
theorem khF (hi:Int) (g:Int×Int) (r:List (Int×Int)) (m:Int) (s:List Int):keM hi (g::r) m s=(wi m hi g.1&&wi 0 7 g.2&&!s.contains g.2&&keM hi r (g.1+1) (g.2::s)):=rfl
def beltR (b:Belt):Bool:=wi 2 100 b.1&&wi 0 (b.1-2) b.2.1&&wi 0 10 b.2.2.1&&decide ((b.2.2.2.1.length:Int)≤8)&&decide ((b.2.2.2.2.length:Int)=16)&&(b.2.2.2.2.all (wi (-1) 7))&&keM (b.1-1) b.2.2.2.1 (b.2.1+1) []
theorem kri {κ β:Type} [DecidableEq κ] (l:List (κ×β)) (k k':κ) (v:β):mget (mput l k v) k'=if k'=k then some v else mget l k':=by
 induction l with
 | nil=>simp [mput,mget]
 | cons p r ih=>
  simp only [mput]
  split
  ·rename_i h; subst h; simp only [mget]; split <;> rfl
  ·rename_i h
   simp only [mget,ih]
   by_cases h2:k'=p.1
   ·subst h2; rw [if_pos rfl,if_neg (fun e=>h e.symm)]; simp
   ·rw [if_neg h2]; simp [h2]
theorem kjI (b:Belt) (hL:wi 2 100 b.1=true) (hg:b.2.2.2.1.length≤1000):∀ (k i:Nat) (m:Int) (bins:List (Int×Bool)) (s:List Int),0≤m→(∀ x,(mget bins x).getD false=s.contains x)→i+k=b.2.2.2.1.length→itN (kbU b) (k+1) ((i:Int),m,bins)=some (if keM (b.1-1) (b.2.2.2.1.drop i) m s then .inr () else .inl 90)
 | 0,i,m,bins,s,hm,hs,h=>by
  have:i=b.2.2.2.1.length:=by omega
  subst this
  rw [List.drop_length]
  exact kaC (by unfold kbU; rw [if_neg kaY]; rfl)
 | k+1,i,m,bins,s,hm,hs,h=>by
  have hi:i<b.2.2.2.1.length:=by omega
  rw [wi_iff] at hL
  have e:kbU b ((i:Int),m,bins)=some (if (wi m (b.1-1) b.2.2.2.1[i].1&&wi 0 7 b.2.2.2.1[i].2&&!s.contains b.2.2.2.1[i].2)=true then .inl (((i+1:Nat):Int),w64 (b.2.2.2.1[i].1+1),mput bins b.2.2.2.1[i].2 true) else .inr (.inl 90)):=by
   unfold kbU
   rw [if_pos (lenI_lt.2 hi),kaU hi,kbl (by omega),kam (x:=b.1-1) (by omega) (by omega)]
   simp only [Option.bind_some,from1,hs]
   by_cases h1:wi m (b.1-1) b.2.2.2.1[i].1=true <;> by_cases h2:wi 0 7 b.2.2.2.1[i].2=true <;> cases h3:s.contains b.2.2.2.1[i].2 <;> simp only [h1,h2,h3,Bool.not_true,Bool.not_false,Bool.and_true,Bool.true_and,Bool.false_and,Bool.and_false,Bool.false_eq_true,if_true,if_false]
  rw [List.drop_eq_getElem_cons hi]
  rw [khF]
  by_cases hc:(wi m (b.1-1) b.2.2.2.1[i].1&&wi 0 7 b.2.2.2.1[i].2&&!s.contains b.2.2.2.1[i].2)=true
  ·rw [hc,Bool.true_and]
   rw [if_pos hc] at e
   simp only [Bool.and_eq_true,wi_iff] at hc
   rw [kam (by omega) (by omega)] at e
   rw [kcq e]
   exact kjI b (wi_iff.2 hL) hg k (i+1) _ _ _ (by omega) (fun x=>by
    rw [kri,List.contains_cons]
    by_cases hx:x=b.2.2.2.1[i].2
    ·simp [hx]
    ·simp only [if_neg hx,hs,show (x==b.2.2.2.1[i].2)=false by simpa using hx,Bool.false_or]) (by omega)
  ·rw [if_neg hc] at e
   rw [kaC e,Bool.eq_false_iff.2 hc]; rfl
theorem koT (b:Belt) (hg:b.2.2.2.1.length≤1000) (hb:b.2.2.2.2.length≤1000):keC b=some (if beltR b then 0 else 90):=by
 unfold keC beltR
 simp only [from1,Option.bind_some,khe _ _ b.2.2.2.2 (by omega),kbp]
 by_cases h1:wi 2 100 b.1=true
 ·have hw:=wi_iff.1 h1
  rw [kam (x:=b.1-2) (by omega) (by omega)]
  by_cases h2:wi 0 (b.1-2) b.2.1=true
  ·have hw2:=wi_iff.1 h2
   have:=kjI b h1 hg b.2.2.2.1.length 0 (b.2.1+1) [] [] (by omega) (fun x=>rfl) (by omega)
   rw [List.drop_zero] at this
   rw [kam (x:=b.2.1+1) (by omega) (by omega),show ((0:Int),b.2.1+1,([]:List (Int×Bool)))=(((0:Nat):Int),b.2.1+1,[]) from rfl,kci this (by omega)]
   by_cases h3:wi 0 10 b.2.2.1=true
   ·by_cases h4:(b.2.2.2.1.length:Int)≤8
    ·have h4':¬ (8:Int)<b.2.2.2.1.length:=by omega
     by_cases h5:(b.2.2.2.2.length:Int)=16
     ·by_cases h6:b.2.2.2.2.all (wi (-1) 7)=true
      ·by_cases h7:keM (b.1-1) b.2.2.2.1 (b.2.1+1) []=true <;> simp [h1,h2,h3,h4,h4',h5,h6,h7]
      ·simp [h1,h2,h3,h4,h4',h5,h6]
     ·simp [h1,h2,h3,h4,h4',h5]
    ·have h4':(8:Int)<b.2.2.2.1.length:=by omega
     simp [h1,h2,h3,h4,h4']
   ·simp [h1,h2,h3]
  ·simp [h1,h2]
 ·simp [h1]
def idxF {α:Type} (p:α→Bool):List α→Int→Int
 | [],_=>-1
 | x::r,i=>if p x then i else idxF p r (i+1)
theorem kka {α:Type} (p:α→Bool):∀ (l:List α) (i:Int),0≤i→0≤idxF p l i∨idxF p l i = -1
 | [],i,_=>.inr rfl
 | x::r,i,h=>by
  simp only [idxF]
  split
  ·exact .inl h
  ·exact kka p r (i+1) (by omega)
theorem klG {α:Type} (p:α→Bool):∀ (l:List α) (i:Nat) (j:Int),0≤j→(h:i<l.length)→p l[i]=true→(idxF p l j=j+i↔(l.take i).any p=false)
 | [],i,j,_,h,_=>by simp at h
 | x::r,0,j,hj,h,hp=>by simp at hp; simp [idxF,hp]
 | x::r,i+1,j,hj,h,hp=>by
  simp only [idxF,List.take_succ_cons,List.any_cons]
  by_cases hx:p x=true
  ·simp only [hx,if_true,Bool.true_or]; constructor
   ·intro e; omega
   ·intro e; cases e
  ·have ih:=klG p r i (j+1) (by omega) (by simpa using h) (by simpa using hp)
   rw [if_neg hx,Bool.eq_false_iff.2 hx,Bool.false_or,←ih]
   constructor <;> intro e <;> rw [e] <;> omega
theorem knT (b:Belt) (bin:Int) (hg:b.2.2.2.1.length≤1000):∀ k i:Nat,i+k=b.2.2.2.1.length→itN (kcO b bin) (k+1) (i:Int)=some (if 0≤idxF (fun g=>g.2==bin) (b.2.2.2.1.drop i) i then .inl (idxF (fun g=>g.2==bin) (b.2.2.2.1.drop i) i) else .inr ())
 | 0,i,h=>by
  have:i=b.2.2.2.1.length:=by omega
  subst this
  rw [List.drop_length]
  exact kaC (by unfold kcO; rw [if_neg kaY]; rfl)
 | k+1,i,h=>by
  have hi:i<b.2.2.2.1.length:=by omega
  rw [List.drop_eq_getElem_cons hi]
  by_cases hp:(b.2.2.2.1[i].2==bin)=true
  ·have e:idxF (fun g:Int×Int=>g.2==bin) (b.2.2.2.1[i]::List.drop (i+1) b.2.2.2.1) i=i:=by
    show (if (b.2.2.2.1[i].2==bin)=true then _ else _)=_
    rw [if_pos hp]
   rw [e,if_pos (by omega)]
   exact kaC (by
    unfold kcO
    rw [if_pos (lenI_lt.2 hi),kaU hi]
    simp only [Option.bind_some]
    rw [if_pos hp])
  ·have e:idxF (fun g:Int×Int=>g.2==bin) (b.2.2.2.1[i]::List.drop (i+1) b.2.2.2.1) i=idxF (fun g:Int×Int=>g.2==bin) (List.drop (i+1) b.2.2.2.1) ((i+1:Nat):Int):=by
    show (if (b.2.2.2.1[i].2==bin)=true then _ else _)=_
    rw [if_neg hp]; rfl
   rw [e,←knT b bin hg k (i+1) (by omega)]
   apply kcq
   unfold kcO
   rw [if_pos (lenI_lt.2 hi),kaU hi,kbl (by omega)]
   simp only [Option.bind_some]
   rw [if_neg hp]
def kcA (b:Belt) (bin:Int):Int:=idxF (fun g=>g.2==bin) b.2.2.2.1 0
theorem kll (b:Belt) (bin:Int) (hg:b.2.2.2.1.length≤1000):kcE b bin=some (kcA b bin):=by
 unfold kcE kcA
 have:=knT b bin hg b.2.2.2.1.length 0 (by omega)
 rw [List.drop_zero] at this
 rw [show (0:Int)=((0:Nat):Int) from rfl,kci this (by omega)]
 rcases kka (fun g=>g.2==bin) b.2.2.2.1 ((0:Nat):Int) (by omega) with h | h
 ·rw [if_pos h]; rfl
 ·rw [if_neg (by omega),h]; rfl
theorem kpU (b:Belt) (hL:wi 2 100 b.1=true) (hC:wi 0 (b.1-2) b.2.1=true) (hl:(b.2.2.2.1.length:Int)≤8):∀ (k i:Nat) (m:Int),b.2.1+1≤m→(i=0→m=b.2.1+1)→(∀ h:0<i,(h':i-1<b.2.2.2.1.length)→m=b.2.2.2.1[i-1].1+1)→i+k=b.2.2.2.1.length→
  itN (kdu b) (k+1) (i:Int)=some (if keM (b.1-1) (b.2.2.2.1.drop i) m ((b.2.2.2.1.take i).map (·.2)).reverse then .inr () else .inl false)
 | 0,i,m,hm,h0,h1,h=>by
  have:i=b.2.2.2.1.length:=by omega
  subst this
  rw [List.drop_length]
  exact kaC (by unfold kdu; rw [if_neg kaY]; rfl)
 | k+1,i,m,hm,h0,h1,h=>by
  have hi:i<b.2.2.2.1.length:=by omega
  have hw0:=wi_iff.1 hL
  have hw1:=wi_iff.1 hC
  have htk:((b.2.2.2.1.take (i+1)).map (·.2)).reverse=b.2.2.2.1[i].2::((b.2.2.2.1.take i).map (·.2)).reverse:=by
   rw [←List.take_append_getElem hi,List.map_append,List.reverse_append]; rfl
  have hlead:(kcA b b.2.2.2.1[i].2 != (i:Int))=((b.2.2.2.1.take i).map (·.2)).reverse.contains b.2.2.2.1[i].2:=by
   have:=klG (fun g=>g.2==b.2.2.2.1[i].2) b.2.2.2.1 i 0 (by omega) hi (by simp)
   unfold kcA
   rw [Int.zero_add] at this
   rw [Bool.eq_iff_iff,bne_iff_ne]
   rw [Ne,this]
   rw [Bool.not_eq_false,List.any_eq_true,List.contains_iff_mem,List.mem_reverse,List.mem_map]
   simp only [beq_iff_eq]
  have e:kdu b (i:Int)=some (if (wi m (b.1-1) b.2.2.2.1[i].1&&wi 0 7 b.2.2.2.1[i].2&&!((b.2.2.2.1.take i).map (·.2)).reverse.contains b.2.2.2.1[i].2)=true then .inl ((i+1:Nat):Int) else .inr (.inl false)):=by
   unfold kdu
   rw [if_pos (lenI_lt.2 hi),kaU hi,kbl (by omega),kam (x:=b.1-1) (by omega) (by omega),kam (x:=b.2.1+1) (by omega) (by omega)]
   simp only [Option.bind_some,keW,kll b _ (show b.2.2.2.1.length≤1000 by omega),decide_eq_true_eq,hlead]
   rcases Nat.eq_zero_or_pos i with hz | hz
   ·have hm0:=h0 hz
    rw [if_neg (show ¬ (0:Int)<i by omega),←hm0]
    cases h1:wi m (b.1-1) b.2.2.2.1[i].1 <;> cases h2:wi 0 7 b.2.2.2.1[i].2 <;> cases h3:((b.2.2.2.1.take i).map (·.2)).reverse.contains b.2.2.2.1[i].2 <;> simp only [Bool.not_true,Bool.not_false,Bool.and_true,Bool.true_and,Bool.false_and,Bool.and_false,Bool.false_eq_true,if_true,if_false]
   ·have hm1:=h1 hz (by omega)
    rw [if_pos (show (0:Int)<i by omega),kmU hz (by omega),kaU (show i-1<b.2.2.2.1.length by omega)]
    simp only [Option.bind_some]
    have hw:wi m (b.1-1) b.2.2.2.1[i].1=(wi (b.2.1+1) (b.1-1) b.2.2.2.1[i].1&&!decide (b.2.2.2.1[i].1≤b.2.2.2.1[i-1].1)):=by
     rw [Bool.eq_iff_iff]; simp only [Bool.and_eq_true,wi_iff,Bool.not_eq_true',decide_eq_false_iff_not]; omega
    rw [hw]
    by_cases h4:b.2.2.2.1[i].1≤b.2.2.2.1[i-1].1
    ·rw [if_pos h4]
     cases h1:wi (b.2.1+1) (b.1-1) b.2.2.2.1[i].1 <;> simp [h4]
    ·rw [if_neg h4]
     cases h1:wi (b.2.1+1) (b.1-1) b.2.2.2.1[i].1 <;> cases h2:wi 0 7 b.2.2.2.1[i].2 <;> cases h3:((b.2.2.2.1.take i).map (·.2)).reverse.contains b.2.2.2.1[i].2 <;> simp only [h4,decide_false,Bool.not_true,Bool.not_false,Bool.and_true,Bool.true_and,Bool.false_and,Bool.and_false,Bool.false_eq_true,if_true,if_false]
  rw [List.drop_eq_getElem_cons hi]
  rw [khF]
  by_cases hc:(wi m (b.1-1) b.2.2.2.1[i].1&&wi 0 7 b.2.2.2.1[i].2&&!((b.2.2.2.1.take i).map (·.2)).reverse.contains b.2.2.2.1[i].2)=true
  ·rw [hc,Bool.true_and]
   rw [if_pos hc] at e
   simp only [Bool.and_eq_true,wi_iff] at hc
   rw [kcq e,←htk]
   exact kpU b hL hC hl k (i+1) _ (by omega) (by omega) (fun _ _=>rfl) (by omega)
  ·rw [if_neg hc] at e
   rw [kaC e,Bool.eq_false_iff.2 hc]; rfl
theorem ksk (b:Belt) (hb:(b.2.2.2.2.length:Int)=16):iter (kdl b) 0=some (if b.2.2.2.2.all (wi (-1) 7) then .inr () else .inl false):=by
 rw [khi (F:=kdl b) false b.2.2.2.2 (by omega) (fun i x=>!wi (-1) 7 x) (fun i hi=>by
  unfold kdl
  rw [if_pos (by simp; omega),kaU hi,kbl (by omega)]
  simp only [Option.bind_some,keW]
  by_cases h:wi (-1) 7 b.2.2.2.2[i]=true <;> simp [h]) (by unfold kdl; rw [if_neg (by simp; omega)]),kjO (fun x=>!wi (-1) 7 x),kmy]
 by_cases h:b.2.2.2.2.all (wi (-1) 7)=true <;> simp [h]
theorem ksp (b:Belt):kgt b=some (beltR b):=by
 unfold kgt beltR
 simp only [keW,Option.bind_some,kbp]
 by_cases h1:wi 2 100 b.1=true
 ·have hw:=wi_iff.1 h1
  rw [kam (x:=b.1-2) (by omega) (by omega)]
  by_cases h2:wi 0 (b.1-2) b.2.1=true
  ·by_cases h3:wi 0 10 b.2.2.1=true
   ·by_cases h4:(b.2.2.2.1.length:Int)≤8
    ·have h4':¬ (8:Int)<b.2.2.2.1.length:=by omega
     have hw2:=wi_iff.1 h2
     have:=kpU b h1 h2 h4 b.2.2.2.1.length 0 (b.2.1+1) (by omega) (fun _=>rfl) (fun h=>by omega) (by omega)
     rw [List.drop_zero,List.take_zero] at this
     by_cases h5:(b.2.2.2.2.length:Int)=16
     ·rw [ksk b h5,show (0:Int)=((0:Nat):Int) from rfl,kci this (by omega)]
      by_cases h6:b.2.2.2.2.all (wi (-1) 7)=true
      ·by_cases h7:keM (b.1-1) b.2.2.2.1 (b.2.1+1) []=true <;> simp [h1,h2,h3,h4,h4',h5,h6,h7]
      ·by_cases h7:keM (b.1-1) b.2.2.2.1 (b.2.1+1) []=true <;> simp [h1,h2,h3,h4,h4',h5,h6,h7]
     ·simp [h1,h2,h3,h4,h4',h5]
    ·have h4':(8:Int)<b.2.2.2.1.length:=by omega
     simp [h1,h2,h3,h4,h4']
   ·simp [h1,h2,h3]
  ·simp [h1,h2]
 ·simp [h1]
theorem krd (b:Belt) (f:List Fed) (hg:b.2.2.2.1.length≤1000) (hb:b.2.2.2.2.length≤1000) (hr:∀ x∈f,x.2.2.length≤1000) (hl:f.length≤1000) :
  khf b f=some (if beltR b then (if fedR f then (some (b,f),0) else (none,91)) else (none,90)):=by
 unfold khf
 rw [koT b hg hb,kpt f hr hl]
 by_cases h:beltR b=true <;> by_cases h2:fedR f=true <;> simp [h,h2]
end Go.Abs
namespace Go.Abs
open Go
theorem kiE {α β:Type} {F:α→Option (α⊕β)} (I:α→Prop) (m:α→Nat) (R:β→Prop)
  (h:∀ x,I x→(∃ z,F x=some (.inr z)∧R z)∨∃ y,F x=some (.inl y)∧I y∧m y<m x) (x:α) (hx:I x) (hm:m x<4611686018427387904):∃ z,iter F x=some z∧R z:=by
 have:∀ n x,I x→m x<n→∃ z,itN F n x=some z∧R z:=by
  intro n
  induction n with
  | zero=>intro x _ h0; omega
  | succ n ih=>
   intro x hx hm
   rcases h x hx with ⟨z,e,hz⟩ | ⟨y,e,hy,hlt⟩
   ·exact ⟨z,kaC e,hz⟩
   ·rw [kcq e]; exact ih y hy (by omega)
 obtain ⟨z,e,hz⟩:=this 4611686018427387904 x hx hm
 exact ⟨z,kci e (Nat.le_refl _),hz⟩
abbrev Sw:=Int×Int×Bool
theorem w64n {x:Int} {n:Nat} (h:x=n) (hn:n≤1000000):w64 x=(n:Int):=by rw [kam (by omega) (by omega),h]
end Go.Abs
namespace Go.Abs
open Go
def gg (l:List Sw) (k:Nat):Sw:=(l[k]?).getD (0,0,false)
structure COk (cmp:Sw×Sw→Option Int) (le:Sw→Sw→Prop):Prop where
 c:∀ x y,∃ v,cmp (x,y)=some v∧(v<0↔¬ le y x)
 tr:∀ x y z,le x y→le y z→le x z
 tot:∀ x y,le x y∨le y x
section
variable {cmp:Sw×Sw→Option Int} {le:Sw→Sw→Prop} (ok:COk cmp le)
include ok
end
end Go.Abs
namespace Go.Abs
open Go
section
variable {cmp:Sw×Sw→Option Int} {le:Sw→Sw→Prop} (ok:COk cmp le)
include ok
end
end Go.Abs
namespace Go.Abs
open Go
section
variable {cmp:Sw×Sw→Option Int} {le:Sw→Sw→Prop} (ok:COk cmp le)
include ok
end
end Go.Abs
namespace Go.Abs
open Go
section
variable {cmp:Sw×Sw→Option Int} {le:Sw→Sw→Prop} (ok:COk cmp le)
include ok
end
end Go.Abs
namespace Go.Abs
open Go
def ktc (x t:Sw):Bool:=decide (t.1<x.1)||(t.1==x.1&&decide (t.2.1<x.2.1))
end Go.Abs
namespace Go.Abs
open Go
theorem kjZ (v:Int→Int):∀ (k:Nat) (x b m:Int),0≤x→x+k≤16→-1≤b→b≤15→-1≤(scanF v k x b m).1∧(scanF v k x b m).1≤15
 | 0,x,b,m,h0,h1,h2,h3=>⟨h2,h3⟩
 | k+1,x,b,m,h0,h1,h2,h3=>by
  simp only [scanF]
  split
  ·exact kjZ v k _ _ _ (by omega) (by omega) (by omega) (by omega)
  ·split
   ·exact kjZ v k _ _ _ (by omega) (by omega) (by omega) (by omega)
   ·exact kjZ v k _ _ _ (by omega) (by omega) h2 h3
theorem kjT (l:List Int):-1≤seenR l∧seenR l≤15:=kjZ _ 16 0 (-1) 0 (by omega) (by omega) (by omega) (by omega)
theorem kkJ {α:Type} (p:α→Bool):∀ (l:List α) (k:Nat),endL ((l.zipIdx k).findSome? fun x=>if p x.1 then some (x.2:Int) else none)=(if 0≤idxF p l (k:Int) then .inl (idxF p l (k:Int)) else .inr ())
 | [],k=>rfl
 | x::l,k=>by
  rw [List.zipIdx_cons,List.findSome?_cons]
  simp only [idxF]
  by_cases hp:p x=true
  ·simp [hp,endL]
  ·simp only [if_neg hp]
   rw [kkJ p l (k+1)]
   rfl
theorem kqe {α:Type} (p:α→Bool) (l:List α):(match (if 0≤idxF p l 0 then (.inl (idxF p l 0)) else .inr ():Int⊕Unit) with | .inl v4=>(some v4) | .inr _=>(some (-1)))=some (idxF p l 0):=by
 rcases kka p l 0 (by omega) with h | h
 ·rw [if_pos h]
 ·rw [if_neg (by omega),h]
theorem kqm (l:List (Int×Int)) (f:(Int×Int)→Option Bool) (p:(Int×Int)→Bool) (h:∀ g∈l,f g=some (p g)) (hl:l.length≤100000):kaB l f=some (idxF p l 0):=by
 unfold kaB
 rw [kgn (F:=kar l f) l (by omega) (fun i x=>if p x then some (i:Int) else none) (fun i hi=>by
  unfold kar
  rw [if_pos (lenI_lt.2 hi),kaU hi,kbl (by omega)]
  simp only [Option.bind_some]
  rw [h _ (List.getElem_mem _)]
  simp only [Option.bind_some]
  by_cases h:p l[i]=true <;> simp [h,nextL]) (by unfold kar; rw [if_neg kaY])]
 simp only [Option.bind_some]
 rw [kkJ p l 0]
 exact kqe p l
theorem kom (l:List Fed) (f:Fed→Option Bool) (p:Fed→Bool) (h:∀ g∈l,f g=some (p g)) (hl:l.length≤100000):kax l f=some (l.any p):=by
 unfold kax kbf
 rw [kgn (F:=kaw l f) l (by omega) (fun i x=>if p x then some (i:Int) else none) (fun i hi=>by
  unfold kaw
  rw [if_pos (lenI_lt.2 hi),kaU hi,kbl (by omega)]
  simp only [Option.bind_some]
  rw [h _ (List.getElem_mem _)]
  simp only [Option.bind_some]
  by_cases h:p l[i]=true <;> simp [h,nextL]) (by unfold kaw; rw [if_neg kaY])]
 simp only [Option.bind_some]
 rw [kkJ p l 0]
 have e:=kqe p l
 refine Eq.trans (congrArg (fun o:Option Int=>o.bind fun v0=>some (decide (0≤v0))) e) ?_
 simp only [Option.bind_some,Option.some.injEq]
 have:∀ (l:List Fed) (k:Int),0≤k→decide (0≤idxF p l k)=l.any p:=by
  intro l
  induction l with
  | nil=>intro k hk; simp [idxF]
  | cons x l ih=>
   intro k hk
   simp only [idxF,List.any_cons]
   by_cases hp:p x=true
   ·simp [hp,hk]
   ·rw [Bool.not_eq_true] at hp
    simp only [hp,Bool.false_eq_true,if_false,Bool.false_or]; exact ih (k+1) (by omega)
 exact this l 0 (by omega)
structure BeltOk (b:Belt):Prop where
 l0:2≤b.1
 l1:b.1≤100
 c0:0≤b.2.1
 c1:b.2.1≤98
 s0:0≤b.2.2.1
 s1:b.2.2.1≤10
 gl:b.2.2.2.1.length≤8
 bl:b.2.2.2.2.length=16
 bb:∀ x∈b.2.2.2.2,-1≤x∧x≤7
 gb:∀ g∈b.2.2.2.1,0≤g.1∧g.1≤99∧0≤g.2∧g.2≤7
theorem klK (hi:Int):∀ (l:List (Int×Int)) (m:Int) (s:List Int),0≤m→keM hi l m s=true→∀ g∈l,0≤g.1∧g.1≤hi∧0≤g.2∧g.2≤7
 | [],m,s,hm,h,g,hg=>by cases hg
 | x::r,m,s,hm,h,g,hg=>by
  rw [khF] at h
  simp only [Bool.and_eq_true] at h
  obtain ⟨⟨⟨h1,h2⟩,h3⟩,h4⟩:=h
  rw [wi_iff] at h1 h2
  rcases List.mem_cons.1 hg with rfl | hg
  ·exact ⟨by omega,by omega,h2.1,h2.2⟩
  ·exact klK hi r _ _ (by omega) h4 g hg
theorem knL {b:Belt} (h:beltR b=true):BeltOk b:=by
 unfold beltR at h
 simp only [Bool.and_eq_true,decide_eq_true_eq,List.all_eq_true] at h
 obtain ⟨⟨⟨⟨⟨⟨h1,h2⟩,h3⟩,h4⟩,h5⟩,h6⟩,h7⟩:=h
 rw [wi_iff] at h1 h2 h3
 have hg:=klK _ _ _ _ (by omega) h7
 refine ⟨h1.1,h1.2,h2.1,by omega,h3.1,h3.2,by omega,by omega,fun x hx=>wi_iff.1 (h6 x hx),fun g hg'=>?_⟩
 obtain ⟨a1,a2,a3,a4⟩:=hg g hg'
 exact ⟨a1,by omega,a3,a4⟩
def fedOk (x:Fed):Prop:=x.2.2.length≤1000∧∀ t∈x.2.2,t≤15
def gateK (b:Belt) (k:Int):Int:=if k<0 then -1 else kcA b ((b.2.2.2.2[k.toNat]?).getD (-1))
def gateF (b:Belt) (x:Fed):Int:=gateK b (seenR x.2.2)
theorem kmL {α:Type} (p:α→Bool):∀ (l:List α) (j:Int),(∀ x∈l,p x=false)→idxF p l j = -1
 | [],j,h=>rfl
 | x::r,j,h=>by
  simp only [idxF]
  rw [if_neg (by rw [h x (by simp)]; decide)]
  exact kmL p r _ fun y hy=>h y (List.mem_cons_of_mem _ hy)
theorem kqi {α:Type} (p:α→Bool):∀ (l:List α) (j:Int),0≤j→idxF p l j<j+l.length
 | [],j,h=>by simp [idxF]; omega
 | x::r,j,h=>by
  simp only [idxF,List.length_cons]
  split
  ·push_cast; omega
  ·have:=kqi p r (j+1) (by omega); push_cast; omega
theorem krz {b:Belt} (k:Int):-1≤gateK b k∧gateK b k<b.2.2.2.1.length∨gateK b k = -1:=by
 unfold gateK
 split
 ·exact .inr rfl
 ·unfold kcA
  have h1:=kqi (fun g=>g.2==(b.2.2.2.2[k.toNat]?).getD (-1)) b.2.2.2.1 0 (by omega)
  rcases kka (fun g=>g.2==(b.2.2.2.2[k.toNat]?).getD (-1)) b.2.2.2.1 0 (by omega) with h | h
  ·exact .inl ⟨by omega,by omega⟩
  ·exact .inr h
theorem klQ {b:Belt} (B:BeltOk b) {k:Int} (hk:k≤15):kgq b k=some (gateK b k):=by
 unfold kgq gateK
 by_cases h:k<0
 ·simp [h]
 ·have hlt:k.toNat<b.2.2.2.2.length:=by rw [B.bl]; omega
  rw [if_neg (by simpa using h),if_neg h,kgw (by omega) (by omega)]
  simp only [Option.bind_some,decide_eq_true_eq]
  rw [List.getElem?_eq_getElem hlt]
  simp only [Option.getD_some]
  split
  ·rename_i hn
   unfold kcA
   rw [kmL]
   intro g hg
   have:=(B.gb g hg).2.2.1
   simp only [beq_eq_false_iff_ne,ne_eq]
   omega
  ·rw [kll b _ (by have:=B.gl; omega)]; rfl
theorem kkC {b:Belt} (B:BeltOk b) (l:List Fed) {x:Fed} (hx:fedOk x):kcQ (some (b,l)) x=some (gateF b x):=by
 unfold kcQ gateF gateK
 rw [kmn _ (by have:=hx.1; omega) hx.2]
 simp only [Option.bind_some,decide_eq_true_eq]
 have hk:=(kjT x.2.2).2
 split
 ·rfl
 ·rename_i h
  have hlt:(seenR x.2.2).toNat<b.2.2.2.2.length:=by rw [B.bl]; omega
  rw [kqm _ _ (fun g=>g.2==(b.2.2.2.2[(seenR x.2.2).toNat]?).getD (-1)) (fun g hg=>by
   unfold keF
   simp only [Option.bind_some]
   rw [kgw (by omega) (by omega),List.getElem?_eq_getElem hlt]
   rfl) (by have:=B.gl; omega)]
  rfl
end Go.Abs
namespace Go.Abs
open Go
def fd (l:List Fed) (i:Nat):Fed:=(l[i]?).getD (0,0,[])
theorem keO {l:List Fed} {i:Nat} (h:i<l.length):fd l i=l[i]:=by unfold fd; rw [List.getElem?_eq_getElem h]; rfl
theorem gi_fd {l:List Fed} {i:Nat} (h:i<l.length):gi l (i:Int)=some (fd l i):=by rw [kaU h,keO h]
structure FedsOk (l:List Fed):Prop where
 len:l.length≤40
 ok:∀ x∈l,fedOk x∧0≤x.1∧x.1≤1000
theorem FedsOk.fd {l:List Fed} (h:FedsOk l) {i:Nat} (hi:i<l.length):fedOk (fd l i)∧0≤(fd l i).1∧(fd l i).1≤1000:=by
 rw [keO hi]; exact h.ok _ (List.getElem_mem _)
def seg (l:List Fed) (s e:Nat):List Fed:=(l.drop s).take (e-s)
theorem keX {l:List Fed} {s e:Nat} (h:e≤l.length):(seg l s e).length=e-s:=by unfold seg; rw [List.length_take,List.length_drop]; omega
theorem khd {l:List Fed} {s e j:Nat} (h:j<e-s):fd (seg l s e) j=fd l (s+j):=by
 unfold fd seg
 rw [List.getElem?_take,if_pos h,List.getElem?_drop]
def Gc (b:Belt) (c:List Fed):Int:=
 if gateF b (fd c 0)<0 then -1 else if c.any (fun x=>gateF b x != gateF b (fd c 0)) then -1 else
  if ((b.2.2.2.1[(gateF b (fd c 0)).toNat]?).getD (0,0)).1-b.2.1<(fd c (c.length-1)).1-(fd c 0).1+3*b.2.2.1+1 then -1 else gateF b (fd c 0)
theorem kkN {b:Belt} {x:Fed} (h:¬ gateF b x<0):(gateF b x).toNat<b.2.2.2.1.length:=by
 unfold gateF at *
 rcases krz (b:=b) (seenR x.2.2) with ⟨h1,h2⟩ | h1 <;> omega
theorem kqz {b:Belt} (B:BeltOk b) (l:List Fed) {c:List Fed} (hc:FedsOk c) (h0:0<c.length):kdi (some (b,l)) c=some (Gc b c):=by
 unfold kdi Gc
 have hl:=hc.len
 have k1:=hc.fd (i:=0) h0
 have k2:=hc.fd (i:=c.length-1) (by omega)
 rw [show (0:Int)=((0:Nat):Int) from rfl,gi_fd h0]
 simp only [Option.bind_some]
 rw [kkC B l k1.1]
 simp only [Option.bind_some]
 rw [kbp,w64n (n:=c.length-1) (by omega) (by omega),gi_fd (show c.length-1<c.length by omega)]
 simp only [Option.bind_some,decide_eq_true_eq,Int.natCast_zero]
 by_cases hg:gateF b (fd c 0)<0
 ·rw [if_pos hg,if_pos hg]
 ·rw [if_neg hg,if_neg hg,kom c _ (fun x=>gateF b x != gateF b (fd c 0)) (fun x hx=>by
   unfold kdH
   rw [kkC B l (hc.ok x hx).1]
   rfl) (by omega)]
  simp only [Option.bind_some]
  split
  ·rfl
  ·have hlt:=kkN hg
   rw [kgw (by omega) (by omega),List.getElem?_eq_getElem hlt]
   simp only [Option.bind_some,Option.getD_some]
   have hgb:=B.gb _ (List.getElem_mem hlt)
   have:=B.s0; have:=B.s1; have:=B.c0; have:=B.c1
   generalize b.2.2.2.1[(gateF b (fd c 0)).toNat]'hlt=gt at *
   rw [kam (x:=gt.1-b.2.1) (by omega) (by omega),kam (x:=(fd c (c.length-1)).1-(fd c 0).1) (by omega) (by omega),kam (x:=3*b.2.2.1) (by omega) (by omega),kam (x:=(fd c (c.length-1)).1-(fd c 0).1+3*b.2.2.1) (by omega) (by omega),kam (x:=(fd c (c.length-1)).1-(fd c 0).1+3*b.2.2.1+1) (by omega) (by omega)]
   split <;> rfl
structure Clus (D:Int) (l:List Fed) (s e:Nat):Prop where
 lt:s<e
 le:e≤l.length
 lo:s=0∨D<(fd l s).1-(fd l (s-1)).1
 mid:∀ k,s<k→k<e→(fd l k).1-(fd l (k-1)).1≤D
 hi:e=l.length∨D<(fd l e).1-(fd l (e-1)).1
section
variable {b:Belt} {l:List Fed} (B:BeltOk b) (L:FedsOk l) {s e:Nat} (C:Clus (2*b.2.2.1+1) l s e)
include B L C
theorem krQ {i:Nat} (h1:s≤i) (h2:i<e):khA b l i=some (s:Int):=by
 have hL:=L.len; have:=C.le; have:=B.s0; have:=B.s1
 unfold khA
 obtain ⟨z,hz,rfl⟩:=kiE (F:=kfx b l) (fun v=>∃ j:Nat,v=j∧s≤j∧j≤i) (fun v=>v.toNat) (fun z=>z=(s:Int)) (fun v ⟨j,hj,g1,g2⟩=>by
  subst hj
  unfold kfx
  by_cases hc:0<j
  ·have t1:=L.fd (i:=j) (by omega)
   have t2:=L.fd (i:=j-1) (by omega)
   rw [if_pos (by simpa using hc),gi_fd (show j<l.length by omega),w64n (x:=(j:Int)-1) (n:=j-1) (by omega) (by omega),gi_fd (show j-1<l.length by omega)]
   simp only [Option.bind_some,decide_eq_true_eq]
   rw [kam (x:=(fd l j).1-(fd l (j-1)).1) (by omega) (by omega),kam (x:=2*b.2.2.1) (by omega) (by omega),kam (x:=2*b.2.2.1+1) (by omega) (by omega)]
   by_cases e1:j=s
   ·left
    subst e1
    rw [if_neg (by have:=C.lo; omega)]
    exact ⟨_,rfl,rfl⟩
   ·right
    rw [if_pos (C.mid j (by omega) (by omega))]
    exact ⟨_,rfl,⟨j-1,rfl,by omega,by omega⟩,by omega⟩
  ·left
   rw [if_neg (by simpa using hc)]
   exact ⟨_,rfl,by omega⟩) (i:Int) ⟨i,rfl,h1,Nat.le_refl _⟩ (by omega)
 rw [hz]; rfl
theorem ksn {i:Nat} (h1:s≤i) (h2:i<e):kiF b l i=some ((e-1:Nat):Int):=by
 have hL:=L.len; have:=C.le; have:=B.s0; have:=B.s1
 unfold kiF
 obtain ⟨z,hz,rfl⟩:=kiE (F:=kgh b l) (fun v=>∃ j:Nat,v=j∧i≤j∧j≤e-1) (fun v=>e-v.toNat) (fun z=>z=((e-1:Nat):Int)) (fun v ⟨j,hj,g1,g2⟩=>by
  subst hj
  unfold kgh
  rw [w64n (x:=(j:Int)+1) (n:=j+1) (by push_cast; rfl) (by omega)]
  by_cases hc:j+1<l.length
  ·have t1:=L.fd (i:=j) (by omega)
   have t2:=L.fd (i:=j+1) hc
   rw [if_pos (lenI_lt.2 hc),gi_fd hc,gi_fd (show j<l.length by omega)]
   simp only [Option.bind_some,decide_eq_true_eq]
   rw [kam (x:=(fd l (j+1)).1-(fd l j).1) (by omega) (by omega),kam (x:=2*b.2.2.1) (by omega) (by omega),kam (x:=2*b.2.2.1+1) (by omega) (by omega)]
   by_cases e1:j=e-1
   ·left
    have hh:=C.hi
    rw [show e=j+1 by omega,show j+1-1=j by omega] at hh
    rw [if_neg (by omega)]
    exact ⟨_,rfl,by rw [e1]⟩
   ·right
    have:=C.mid (j+1) (by omega) (by omega)
    rw [show j+1-1=j by omega] at this
    rw [if_pos this]
    exact ⟨_,rfl,⟨j+1,rfl,by omega,by omega⟩,by omega⟩
  ·left
   rw [if_neg (by rw [lenI_lt]; exact hc)]
   exact ⟨_,rfl,by rw [show j=e-1 by omega]⟩) (i:Int) ⟨i,rfl,Nat.le_refl _,by omega⟩ (by omega)
 rw [hz]; rfl
end
end Go.Abs
namespace Go.Abs
open Go
section
variable {b:Belt} {l:List Fed} (B:BeltOk b) (L:FedsOk l) {s e:Nat} (C:Clus (2*b.2.2.1+1) l s e)
include B L C
theorem koI {k:Int}:∃ z,iter (kdN b l ((e-1:Nat):Int) k) (s:Int)=some z∧(z=if (seg l s e).any (fun x=>gateF b x != k) then .inl (-1) else .inr ()):=by
 have hL:=L.len; have hC:=C.le; have hC2:=C.lt
 refine kiE (F:=kdN b l ((e-1:Nat):Int) k) (fun v=>∃ j:Nat,v=j∧s≤j∧j≤e∧∀ x,s≤x→x<j→gateF b (fd l x)=k) (fun v=>e-v.toNat) _ (fun v ⟨j,hj,g1,g2,g3⟩=>?_) _ ⟨s,rfl,Nat.le_refl _,by omega,fun x h1 h2=>by omega⟩ (by omega)
 subst hj
 unfold kdN
 by_cases hc:j<e
 ·have t1:=L.fd (i:=j) (by omega)
  rw [if_pos (by simp only [decide_eq_true_eq]; omega),gi_fd (show j<l.length by omega)]
  simp only [Option.bind_some]
  rw [kpY _ (by have:=t1.1.1; omega)]
  simp only [Option.bind_some]
  rw [klQ B (kjT _).2]
  simp only [Option.bind_some]
  rw [show gateK b (seenR (fd l j).2.2)=gateF b (fd l j) from rfl,w64n (x:=(j:Int)+1) (n:=j+1) (by push_cast; rfl) (by omega)]
  by_cases hg:gateF b (fd l j)=k
  ·right
   rw [if_neg (by simp [hg])]
   refine ⟨_,rfl,⟨j+1,rfl,by omega,by omega,fun x h1 h2=>?_⟩,by omega⟩
   by_cases e1:x=j
   ·rw [e1]; exact hg
   ·exact g3 x h1 (by omega)
  ·left
   rw [if_pos (by simp [hg])]
   refine ⟨_,rfl,?_⟩
   rw [if_pos]
   rw [List.any_eq_true]
   refine ⟨fd l j,?_,by simp [hg]⟩
   have hlen:=keX (s:=s) hC
   have:(seg l s e)[j-s]'(by rw [hlen]; omega)=fd l j:=by rw [←keO (by rw [hlen]; omega),khd (by omega),show s+(j-s)=j by omega]
   rw [←this]; exact List.getElem_mem _
 ·left
  rw [if_neg (by simp only [decide_eq_true_eq]; omega)]
  refine ⟨_,rfl,?_⟩
  rw [if_neg]
  simp only [List.any_eq_true,not_exists,not_and,bne_iff_ne,ne_eq,Decidable.not_not]
  intro x hx
  obtain ⟨q,hq,rfl⟩:=List.getElem_of_mem hx
  have hlen:=keX (s:=s) hC
  rw [←keO hq,khd (by omega)]
  exact g3 _ (by omega) (by omega)
theorem koh {i:Nat} (h1:s≤i) (h2:i<e):kgK b l i=some (Gc b (seg l s e)):=by
 have hL:=L.len; have hC:=C.le; have hC2:=C.lt
 have hlen:=keX (s:=s) hC
 unfold kgK
 rw [krQ B L C h1 h2,ksn B L C h1 h2]
 simp only [Option.bind_some]
 have ti:=L.fd (i:=i) (by omega)
 have ts:=L.fd (i:=s) (by omega)
 have te:=L.fd (i:=e-1) (by omega)
 rw [gi_fd (show i<l.length by omega)]
 simp only [Option.bind_some]
 rw [kpY _ (by have:=ti.1.1; omega)]
 simp only [Option.bind_some]
 rw [klQ B (kjT _).2]
 simp only [Option.bind_some]
 rw [show gateK b (seenR (fd l i).2.2)=gateF b (fd l i) from rfl]
 obtain ⟨z,hz,rfl⟩:=koI B L C (k:=gateF b (fd l i))
 rw [hz]
 simp only [Option.bind_some]
 have f0:fd (seg l s e) 0=fd l s:=by rw [khd (by omega)]; rfl
 have f1:fd (seg l s e) ((seg l s e).length-1)=fd l (e-1):=by rw [hlen,khd (by omega),show s+(e-s-1)=e-1 by omega]
 unfold Gc
 rw [f0,f1]
 have mem:∀ j,s≤j→j<e→fd l j∈seg l s e:=fun j g1 g2=>by
  have:(seg l s e)[j-s]'(by rw [hlen]; omega)=fd l j:=by rw [←keO (by rw [hlen]; omega),khd (by omega),show s+(j-s)=j by omega]
  rw [←this]; exact List.getElem_mem _
 by_cases hany:(seg l s e).any (fun x=>gateF b x != gateF b (fd l i))=true
 ·rw [if_pos hany]
  dsimp only
  split
  ·rfl
  ·rename_i hg
   rw [if_pos]
   obtain ⟨x,hx,hne⟩:=List.any_eq_true.1 hany
   rw [List.any_eq_true]
   by_cases hs:gateF b (fd l i)=gateF b (fd l s)
   ·rw [hs] at hne; exact ⟨x,hx,hne⟩
   ·exact ⟨fd l i,mem i h1 h2,by simpa using hs⟩
 ·rw [if_neg hany]
  have hall:∀ x∈seg l s e,gateF b x=gateF b (fd l i):=fun x hx=>by
   rw [Bool.not_eq_true] at hany
   have:=List.any_eq_false.1 hany x hx
   simpa using this
  have hs:=hall _ (mem s (Nat.le_refl _) hC2)
  rw [hs,if_neg hany]
  dsimp only
  simp only [decide_eq_true_eq]
  split
  ·rfl
  ·rename_i hg
   have hlt:=kkN hg
   rw [gi_fd (show e-1<l.length by omega),gi_fd (show s<l.length by omega),kgw (by omega) (by omega),List.getElem?_eq_getElem hlt]
   simp only [Option.bind_some,Option.getD_some]
   have hgb:=B.gb _ (List.getElem_mem hlt)
   have:=B.s0; have:=B.s1; have:=B.c0; have:=B.c1
   generalize b.2.2.2.1[(gateF b (fd l i)).toNat]'hlt=gt at *
   rw [kam (x:=gt.1-b.2.1) (by omega) (by omega),kam (x:=(fd l (e-1)).1-(fd l s).1) (by omega) (by omega),kam (x:=3*b.2.2.1) (by omega) (by omega),kam (x:=(fd l (e-1)).1-(fd l s).1+3*b.2.2.1) (by omega) (by omega),kam (x:=(fd l (e-1)).1-(fd l s).1+3*b.2.2.1+1) (by omega) (by omega)]
   split <;> rfl
end
inductive Cls (D:Int) (l:List Fed):Nat→List (Nat×Nat)→Prop
 | nil:Cls D l l.length []
 | cons {s e:Nat} {r:List (Nat×Nat)} (h:Clus D l s e) (hr:Cls D l e r):Cls D l s ((s,e)::r)
theorem Cls.exists {D:Int} {l:List Fed}:∀ (k s:Nat),s+k=l.length→(s=0∨s=l.length∨D<(fd l s).1-(fd l (s-1)).1)→∃ r,Cls D l s r:=by
 have step:∀ (m s e:Nat),e+m=l.length→s<e→(∀ k,s<k→k<e→(fd l k).1-(fd l (k-1)).1≤D)→∃ e',s<e'∧e'≤l.length∧(∀ k,s<k→k<e'→(fd l k).1-(fd l (k-1)).1≤D)∧(e'=l.length∨D<(fd l e').1-(fd l (e'-1)).1):=by
  intro m
  induction m with
  | zero=>intro s e h1 h2 h3; exact ⟨e,h2,by omega,h3,.inl (by omega)⟩
  | succ m ih=>
   intro s e h1 h2 h3
   by_cases hg:(fd l e).1-(fd l (e-1)).1≤D
   ·exact ih s (e+1) (by omega) (by omega) fun k k1 k2=>by
     by_cases e1:k=e
     ·rw [e1]; exact hg
     ·exact h3 k k1 (by omega)
   ·exact ⟨e,h2,by omega,h3,.inr (by omega)⟩
 intro k
 induction k using Nat.strongRecOn with
 | ind k ih=>
  intro s hs hlo
  by_cases h0:s=l.length
  ·subst h0; exact ⟨[],.nil⟩
  ·obtain ⟨e,h1,h2,h3,h4⟩:=step (l.length-(s+1)) s (s+1) (by omega) (by omega) (fun k k1 k2=>by omega)
   obtain ⟨r,hr⟩:=ih (l.length-e) (by omega) e (by omega) (h4.elim (fun h=>.inr (.inl h)) fun h=>.inr (.inr h))
   exact ⟨(s,e)::r,.cons ⟨h1,h2,hlo.elim .inl fun h=>h.elim (fun h=>absurd h h0) .inr,h3,h4⟩ hr⟩
end Go.Abs
namespace Go.Abs
open Go
theorem kkU {α:Type} {f:α→α→Bool} (h:∀ a,f a a=true):∀ l:List α,((l.zip l).all fun p=>f p.1 p.2)=true
 | []=>rfl
 | a::l=>by simp only [List.zip_cons_cons,List.all_cons,h a,kkU h l,Bool.and_self]
theorem beqPr (u v:Ty) (x y:(Ty.pr u v).den):Ty.beq (.pr u v) x y=(Ty.beq u x.1 y.1&&Ty.beq v x.2 y.2):=by
 simp only [Ty.beq]
theorem Ty.beq_self:∀ (t:Ty),t.dat=true→∀ x:t.den,t.beq x x=true
 | .i _,_,x=>by simp [Ty.beq]
 | .b,_,x=>by simp [Ty.beq]
 | .s,_,x=>by simp [Ty.beq]
 | .un,_,_=>rfl
 | .pr u v,h,x=>by
  simp only [Ty.dat,Bool.and_eq_true] at h
  rw [beqPr,Ty.beq_self u h.1,Ty.beq_self v h.2]; rfl
 | .w a,h,x=>Ty.beq_self a h x
 | .pt a,h,x=>Ty.beq_self a h x
 | .sl a,h,x=>by
  unfold Ty.beq
  simp only [decide_true,Bool.true_and]
  exact kkU (α:=a.den) (Ty.beq_self a h) x
 | .op a,h,x=>by
  cases hx:(x:Option a.den) with
  | none=>unfold Ty.beq; rfl
  | some y=>unfold Ty.beq; exact Ty.beq_self a h y
 | .ar _ a,h,x=>by
  unfold Ty.beq
  exact kkU (α:=a.den) (Ty.beq_self a h) x.l
 | .nt,h,_=>by simp [Ty.dat] at h
 | .sm _ _,h,_=>by simp [Ty.dat] at h
 | .fn _ _ _,h,_=>by simp [Ty.dat] at h
theorem ksx (t:Ty) (ht:t.dat=true) {o:Option (List t.den)} {ys:List t.den} {e:t.den} (h:o=none∨∃ r,o=some (ys++e::r)):gpre t o ys e=some (ys++[e]):=by
 rcases h with rfl | ⟨r,rfl⟩
 ·rfl
 ·unfold gpre
  dsimp only
  rw [List.getElem?_append_right (Nat.le_refl _)]
  simp only [Nat.sub_self,List.getElem?_cons_zero]
  rw [if_pos (Ty.beq_self t ht e)]
section
variable {b:Belt} {l:List Fed} (B:BeltOk b) (L:FedsOk l)
include B L
theorem it_L1 {s e:Nat} (C:Clus (2*b.2.2.1+1) l s e) (ys:List (Int×List Fed)):iter (kbi (some (b,l)) (l.drop s,ys)) 1=some ((e-s:Nat):Int):=by
 have hL:=L.len; have hC:=C.le; have hC2:=C.lt; have:=B.s0; have:=B.s1
 obtain ⟨z,hz,rfl⟩:=kiE (F:=kbi (some (b,l)) (l.drop s,ys)) (fun v=>∃ j:Nat,v=j∧1≤j∧j≤e-s) (fun v=>e-v.toNat) (fun z=>z=((e-s:Nat):Int)) (fun v ⟨j,hj,g1,g2⟩=>by
  subst hj
  unfold kbi
  dsimp only
  by_cases hc:s+j<l.length
  ·have hdl:j<(l.drop s).length:=by rw [List.length_drop]; omega
   have t1:=L.fd (i:=s+j) hc
   have t2:=L.fd (i:=s+j-1) (by omega)
   have q1:fd (l.drop s) j=fd l (s+j):=by unfold fd; rw [List.getElem?_drop]
   have q2:fd (l.drop s) (j-1)=fd l (s+j-1):=by unfold fd; rw [List.getElem?_drop,show s+(j-1)=s+j-1 by omega]
   rw [if_pos (lenI_lt.2 hdl),gi_fd hdl,w64n (x:=(j:Int)-1) (n:=j-1) (by omega) (by omega),gi_fd (show j-1<(l.drop s).length by omega),q1,q2]
   simp only [Option.bind_some,decide_eq_true_eq]
   rw [kam (x:=(fd l (s+j)).1-(fd l (s+j-1)).1) (by omega) (by omega),kam (x:=2*b.2.2.1) (by omega) (by omega),kam (x:=2*b.2.2.1+1) (by omega) (by omega),w64n (x:=(j:Int)+1) (n:=j+1) (by push_cast; rfl) (by omega)]
   by_cases e1:s+j=e
   ·left
    have hh:=C.hi
    rw [←e1] at hh
    rw [if_neg (by omega)]
    exact ⟨_,rfl,by omega⟩
   ·right
    rw [if_pos (C.mid (s+j) (by omega) (by omega))]
    exact ⟨_,rfl,⟨j+1,rfl,by omega,by omega⟩,by omega⟩
  ·left
   rw [if_neg (by rw [lenI_lt,List.length_drop]; omega)]
   exact ⟨_,rfl,by omega⟩) 1 ⟨1,rfl,by omega,by omega⟩ (by omega)
 exact hz
def clY (b:Belt) (l:List Fed) (r:List (Nat×Nat)):List (Int×List Fed):=r.map fun p=>(Gc b (seg l p.1 p.2),seg l p.1 p.2)
theorem it_L0 (o:Option (List (Int×List Fed))):∀ {s:Nat} {r:List (Nat×Nat)},Cls (2*b.2.2.1+1) l s r→∀ ys:List (Int×List Fed),(o=none∨o=some (ys++clY b l r))→
  itN (kaJ o (some (b,l))) (r.length+1) (l.drop s,ys)=some (.inr (ys++clY b l r)):=by
 intro s r hr
 induction hr with
 | nil=>
  intro ys ho
  refine kaC ?_
  unfold kaJ
  rw [List.drop_length]
  simp [clY,krU]
 | @cons s e r h hr ih=>
  intro ys ho
  have hL:=L.len; have hC:=h.le; have hC2:=h.lt
  have hdl:(l.drop s).length=l.length-s:=List.length_drop
  have hF:FedsOk (seg l s e):=by
   refine ⟨by rw [keX hC]; omega,fun x hx=>L.ok x ?_⟩
   unfold seg at hx
   exact List.mem_of_mem_drop (List.mem_of_mem_take hx)
  have e1:kaJ o (some (b,l)) (l.drop s,ys)=some (.inl (l.drop e,ys++[(Gc b (seg l s e),seg l s e)])):=by
   unfold kaJ
   dsimp only
   rw [if_pos (by rw [kbp,decide_eq_true_eq]; omega),it_L1 B L h ys]
   simp only [Option.bind_some]
   have g1:gsl (l.drop s) 0 ((e-s:Nat):Int)=some (seg l s e):=by
    unfold gsl
    rw [if_pos (by omega)]
    simp [seg]
   have g2:gsl (l.drop s) ((e-s:Nat):Int) (lenI (l.drop s))=some (l.drop e):=by
    unfold gsl
    rw [if_pos (by rw [kbp]; omega)]
    simp only [kbp,Int.toNat_natCast,Option.some.injEq]
    rw [List.take_length,List.drop_drop,show s+(e-s)=e by omega]
   rw [g1]
   simp only [Option.bind_some]
   rw [kqz B l hF (by rw [keX hC]; omega)]
   simp only [Option.bind_some]
   have hp:=ksx (.pr (.i .i64) (.sl (.pr (.i .i64) (.pr (.i .i64) (.sl (.i .i64)))))) rfl (o:=o) (ys:=ys) (e:=(Gc b (seg l s e),seg l s e)) (by
    rcases ho with ho | ho
    ·exact .inl ho
    ·exact .inr ⟨clY b l r,ho⟩)
   rw [hp]
   simp only [Option.bind_some]
   rw [g2]
   rfl
  rw [List.length_cons,kcq e1,ih (ys++[(Gc b (seg l s e),seg l s e)]) (by
   rcases ho with ho | ho
   ·exact .inl ho
   ·right; rw [ho]; simp [clY])]
  simp [clY]
theorem ksw {r:List (Nat×Nat)} (hr:Cls (2*b.2.2.1+1) l 0 r) (hrl:r.length≤1000):(runI fun o=>kaG o (some (b,l)))=some (clY b l r):=by
 have key:∀ o,(o=none∨o=some (clY b l r))→kaG o (some (b,l))=some (clY b l r):=fun o ho=>by
  unfold kaG
  simp only [Option.bind_some]
  have:=it_L0 B L o hr [] (by simpa using ho)
  rw [List.drop_zero] at this
  rw [kci this (by omega)]
  simp
 unfold runI
 dsimp only
 rw [key none (.inl rfl)]
 simp only [Option.bind_some]
 rw [key _ (.inr rfl)]
 simp
end
end Go.Abs
namespace Go.Abs
open Go
theorem kii {α γ:Type} (f:α→List γ):∀ (l:List α) (a:List γ),l.foldl (fun s x=>s++f x) a=a++l.flatMap f
 | [],a=>by simp
 | x::l,a=>by rw [List.foldl_cons,kii f l,List.flatMap_cons,List.append_assoc]
def gtF (b:Belt) (g:Int):Int×Int:=(b.2.2.2.1[g.toNat]?).getD (0,0)
def ftF (b:Belt) (g:Int) (x:Fed):Int×Int×Int:=
 if 0≤g then (seenR x.2.2,(gtF b g).2,x.1+(gtF b g).1) else (seenR x.2.2,-1,x.1+b.1)
theorem Gc_lt {b:Belt} {c:List Fed} (h:0≤Gc b c):(Gc b c).toNat<b.2.2.2.1.length:=by
 unfold Gc at *
 split at h
 ·omega
 ·rename_i h1
  split at h
  ·omega
  ·rename_i h2
   split at h
   ·omega
   ·rename_i h3
    rw [if_neg h1,if_neg h2,if_neg h3]; exact kkN h1
theorem gi_gt {b:Belt} {g:Int} (h0:0≤g) (h:g.toNat<b.2.2.2.1.length):gi b.2.2.2.1 g=some (gtF b g):=by
 rw [kgw (by omega) (by omega)]
 unfold gtF
 rw [List.getElem?_eq_getElem h]; rfl
theorem BeltOk.gt {b:Belt} (B:BeltOk b) {g:Int} (h:g.toNat<b.2.2.2.1.length):0≤(gtF b g).1∧(gtF b g).1≤99:=by
 unfold gtF
 rw [List.getElem?_eq_getElem h]
 have:=B.gb _ (List.getElem_mem h)
 exact ⟨this.1,this.2.1⟩
section
variable {b:Belt} {l:List Fed} (B:BeltOk b) (L:FedsOk l)
include B in
theorem ksr {c:List Fed} (hc:FedsOk c) {g:Int} (hg:0≤g→g.toNat<b.2.2.2.1.length) {acc:List (Int×Int×Int)} (ha:acc.length≤10000) :
  iter (kea b (g,c)) (0,acc)=some (acc++c.map (ftF b g)):=by
 have hl:=hc.len
 rw [kkF (F:=kea b (g,c)) c (by omega) (fun i s=>s.length=acc.length+i) (fun s x=>s++[ftF b g x]) id (fun i s hi hs=>by
  have hx:=hc.ok _ (List.getElem_mem hi)
  have:=B.l0; have:=B.l1
  unfold kea
  dsimp only
  rw [if_pos (lenI_lt.2 hi),kaU hi,kbl (by omega)]
  simp only [Option.bind_some]
  rw [kmn _ (by have:=hx.1.1; omega) hx.1.2]
  simp only [Option.bind_some,decide_eq_true_eq]
  unfold ftF
  by_cases h0:0≤g
  ·have h1:=hg h0
   have h2:=B.gt h1
   rw [if_pos h0,if_pos h0,gi_gt h0 h1]
   simp only [Option.bind_some]
   rw [knj (by simp; omega),kam (x:=c[i].1+(gtF b g).1) (by omega) (by omega)]
   rfl
  ·rw [if_neg h0,if_neg h0,knj (by simp; omega),kam (x:=c[i].1+b.1) (by omega) (by omega)]
   rfl) (fun i s hi hs=>by simp; omega) (fun s hs=>by
  unfold kea
  dsimp only
  rw [if_neg kaY]; rfl) acc (by simp)]
 rw [kii (fun x=>[ftF b g x])]
 simp only [id,Option.some.injEq,List.append_cancel_left_eq]
 exact (List.map_eq_flatMap ..).symm
theorem Cls.lenr {D:Int} {s:Nat} {r:List (Nat×Nat)} (h:Cls D l s r):r.length+s≤l.length:=by
 induction h with
 | nil=>simp
 | cons h hr ih=>have:=h.lt; rw [List.length_cons]; omega
theorem Cls.mem {D:Int} {s:Nat} {r:List (Nat×Nat)} (h:Cls D l s r):∀ p∈r,Clus D l p.1 p.2∧s≤p.1:=by
 induction h with
 | nil=>intro p hp; cases hp
 | cons h hr ih=>
  intro p hp
  rcases List.mem_cons.1 hp with rfl | hp
  ·exact ⟨h,Nat.le_refl _⟩
  ·have:=h.lt; exact ⟨(ih p hp).1,by have:=(ih p hp).2; omega⟩
theorem Cls.at {D:Int} {s:Nat} {r:List (Nat×Nat)} (h:Cls D l s r):∀ j,s≤j→j<l.length→∃ p∈r,p.1≤j∧j<p.2:=by
 induction h with
 | nil=>intro j h1 h2; omega
 | @cons s e r h hr ih=>
  intro j h1 h2
  by_cases h3:j<e
  ·exact ⟨(s,e),by simp,h1,h3⟩
  ·obtain ⟨p,hp,h4⟩:=ih j (by omega) h2
   exact ⟨p,List.mem_cons_of_mem _ hp,h4⟩
theorem Cls.flat {γ:Type} {D:Int} {s:Nat} {r:List (Nat×Nat)} (f:Nat→List γ) (g:Nat×Nat→List γ) (h:Cls D l s r)
  (hfg:∀ p∈r,(List.range' p.1 (p.2-p.1)).flatMap f=g p):(List.range' s (l.length-s)).flatMap f=r.flatMap g:=by
 induction h with
 | nil=>simp
 | @cons s e r h hr ih=>
  have h1:=h.lt; have h2:=h.le
  have:List.range' s (l.length-s)=List.range' s (e-s)++List.range' e (l.length-e):=by
   rw [show l.length-s=(e-s)+(l.length-e) by omega,←List.range'_append_1,show s+(e-s)=e by omega]
  rw [this,List.flatMap_append,hfg (s,e) (by simp),ih fun p hp=>hfg p (List.mem_cons_of_mem _ hp),List.flatMap_cons]
include L in
theorem segOk (s e:Nat):FedsOk (seg l s e):=by
 have hL:=L.len
 refine ⟨by unfold seg; rw [List.length_take,List.length_drop]; omega,fun x hx=>L.ok x ?_⟩
 unfold seg at hx
 exact List.mem_of_mem_drop (List.mem_of_mem_take hx)
include B L in
theorem ksF {r:List (Nat×Nat)} (hr:Cls (2*b.2.2.1+1) l 0 r) :
  iter (keg b (clY b l r)) (0,[])=some (.inr (r.flatMap fun p=>(seg l p.1 p.2).map (ftF b (Gc b (seg l p.1 p.2))))):=by
 have hL:=L.len
 have hn:=hr.lenr
 have hcl:(clY b l r).length=r.length:=by simp [clY]
 rw [kkF (F:=keg b (clY b l r)) (clY b l r) (by omega) (fun i s=>s.length≤40*i) (fun s p=>s++p.2.map (ftF b p.1)) .inr (fun i s hi hs=>by
  have hm:=List.getElem_mem hi
  obtain ⟨p,hp,hp2⟩:=List.mem_map.1 hm
  unfold keg
  dsimp only
  rw [if_pos (lenI_lt.2 hi),kaU hi]
  simp only [Option.bind_some]
  rw [←hp2,ksr B (segOk L _ _) Gc_lt (by omega)]
  rfl) (fun i s hi hs=>by
   have hm:=List.getElem_mem hi
   obtain ⟨p,hp,hp2⟩:=List.mem_map.1 hm
   rw [←hp2,List.length_append,List.length_map]
   have:=(segOk L p.1 p.2).len
   dsimp only; omega) (fun s hs=>by
   unfold keg
   dsimp only
   rw [if_neg kaY]) [] (by simp)]
 rw [kii (fun p:Int×List Fed=>p.2.map (ftF b p.1))]
 simp [clY,List.flatMap_map]
def Gj (b:Belt) (l:List Fed) (j:Nat):Int:=(kgK b l j).getD (-1)
section
variable {s e:Nat} (C:Clus (2*b.2.2.1+1) l s e)
include B L C
theorem Gj_eq {j:Nat} (h1:s≤j) (h2:j<e):Gj b l j=Gc b (seg l s e):=by unfold Gj; rw [koh B L C h1 h2]; rfl
end
include B L in
theorem kqL {r:List (Nat×Nat)} (hr:Cls (2*b.2.2.1+1) l 0 r) :
  ((List.range' 0 l.length).flatMap fun j=>[ftF b (Gj b l j) (fd l j)])=r.flatMap fun p=>(seg l p.1 p.2).map (ftF b (Gc b (seg l p.1 p.2))):=by
 refine hr.flat _ _ fun p hp=>?_
 obtain ⟨C,-⟩:=hr.mem p hp
 have hC:=C.le
 rw [←List.map_eq_flatMap]
 refine List.ext_getElem (by simp [keX hC]) fun i h1 h2=>?_
 rw [List.length_map,List.length_range'] at h1
 rw [List.getElem_map,List.getElem_map,List.getElem_range',Gj_eq B L C (by omega) (by omega),←keO (l:=seg l p.1 p.2) (by rw [keX hC]; omega),khd h1,Nat.one_mul]
end
end Go.Abs
namespace Go.Abs
open Go
theorem kmN:∀ {l:List Fed} {m:Int},fedF l m=true→(l.Pairwise fun x y=>x.1<y.1)∧∀ x∈l,m≤x.1∧x.1≤1000∧saidR x.2.2=true
 | [],m,h=>⟨.nil,fun x hx=>by cases hx⟩
 | x::l,m,h=>by
  rw [kjm] at h
  simp only [Bool.and_eq_true,wi_iff] at h
  obtain ⟨⟨⟨h1,h2⟩,h3⟩,h4⟩:=h
  obtain ⟨g1,g2⟩:=kmN h4
  refine ⟨List.pairwise_cons.2 ⟨fun y hy=>by have:=(g2 y hy).1; omega,g1⟩,fun y hy=>?_⟩
  rcases List.mem_cons.1 hy with rfl | hy
  ·exact ⟨h1.1,h1.2,h3⟩
  ·have:=g2 y hy; exact ⟨by omega,this.2⟩
theorem kpP {f:List Fed} (h2:fedR f=true):FedsOk f∧(∀ x∈f,saidR x.2.2=true)∧∀ i j,i<j→j<f.length→(fd f i).1<(fd f j).1:=by
 unfold fedR at h2
 simp only [Bool.and_eq_true,decide_eq_true_eq] at h2
 obtain ⟨m1,m2⟩:=kmN h2.2
 have L:FedsOk f:=⟨by omega,fun x hx=>by
  have:=m2 x hx
  have h3:=klV this.2.2
  exact ⟨⟨by omega,fun t ht=>(h3.2.2 t ht).2⟩,this.1,this.2.1⟩⟩
 refine ⟨L,fun x hx=>(m2 x hx).2.2,fun i j hij hj=>?_⟩
 rw [keO (by omega),keO hj]
 exact List.pairwise_iff_getElem.1 m1 i j (by omega) hj (by omega)
def kep (b:Belt) (f:List Fed):List (Int×Int×Int):=(List.range' 0 f.length).map fun j=>ftF b (Gj b f j) (fd f j)
theorem kly (b:Belt) (f:List Fed):(kep b f).length=f.length:=by simp [kep]
theorem kqx (b:Belt) (f:List Fed) {i:Nat} (h:i<(kep b f).length):(kep b f)[i]=ftF b (Gj b f i) (fd f i):=by
 simp [kep]
theorem kqS {b:Belt} {f:List Fed} (hg:b.2.2.2.1.length≤1000) (hb:b.2.2.2.2.length≤1000) (hf:∀ x∈f,x.2.2.length≤1000) (hfl:f.length≤1000)
  (h1:beltR b=true) (h2:fedR f=true):∃ r,Cls (2*b.2.2.1+1) f 0 r∧kcZ b f=some (kep b f,0):=by
 have B:=knL h1
 obtain ⟨L,-,-⟩:=kpP h2
 obtain ⟨r,hr⟩:=Cls.exists (D:=2*b.2.2.1+1) (l:=f) f.length 0 (by omega) (.inl rfl)
 have hrl:=hr.lenr
 refine ⟨r,hr,?_⟩
 unfold kcZ
 rw [krd b f hg hb hf hfl,if_pos h1,if_pos h2]
 simp only [Option.bind_some]
 rw [if_neg (by simp)]
 unfold kbJ
 simp only [Option.bind_some]
 rw [ksw B L hr (by have:=L.len; omega)]
 simp only [Option.bind_some]
 rw [ksF B L hr,←kqL B L hr]
 unfold kep
 rw [List.map_eq_flatMap]
 rfl
theorem krG {b:Belt} {f:List Fed} (hg:b.2.2.2.1.length≤1000) (hb:b.2.2.2.2.length≤1000) (hf:∀ x∈f,x.2.2.length≤1000) (hfl:f.length≤1000)
  (h:¬ (beltR b=true∧fedR f=true)):∃ e,e≠0∧kcZ b f=some ([],e)∧kfK b f=some ([],e):=by
 unfold kcZ kfK
 rw [krd b f hg hb hf hfl]
 by_cases h1:beltR b=true
 ·have h2:¬ fedR f=true:=fun h2=>h ⟨h1,h2⟩
  rw [if_pos h1,if_neg h2]
  exact ⟨91,by decide,rfl,rfl⟩
 ·rw [if_neg h1]
  exact ⟨90,by decide,rfl,rfl⟩
theorem krN (b:Belt) (f:List Fed):∃ r,kfL b f=some r∧(r=false→b.2.2.2.1.length≤1000∧b.2.2.2.2.length≤1000∧(∀ x∈f,x.2.2.length≤1000)∧f.length≤1000):=by
 unfold kfL
 rw [kbp,kbp,kbp]
 by_cases h1:(12:Int)<b.2.2.2.1.length
 ·exact ⟨true,by rw [if_pos (by simpa using h1)],by simp⟩
 ·rw [if_neg (by simpa using h1)]
  by_cases h2:(30:Int)<b.2.2.2.2.length
  ·exact ⟨true,by rw [if_pos (by simpa using h2)],by simp⟩
  ·rw [if_neg (by simpa using h2)]
   by_cases h3:(60:Int)<f.length
   ·exact ⟨true,by rw [if_pos (by simpa using h3)],by simp⟩
   ·rw [if_neg (by simpa using h3),khi (F:=kev f) true f (by omega) (fun i x=>decide (20<x.2.2.length)) (fun i hi=>by
     unfold kev
     rw [if_pos (lenI_lt.2 hi),kaU hi,kbl (by omega)]
     simp only [Option.bind_some]
     rw [kbp]
     by_cases h:20<f[i].2.2.length
     ·rw [if_pos (show decide ((20:Int)<f[i].2.2.length)=true by simp only [decide_eq_true_eq]; omega),if_pos (decide_eq_true h)]
     ·rw [if_neg (show ¬ decide ((20:Int)<f[i].2.2.length)=true by simp only [decide_eq_true_eq]; omega),if_neg (by simpa using h)]) (by unfold kev; rw [if_neg kaY]),kjO (fun x:Fed=>decide (20<x.2.2.length))]
    cases ha:f.any fun x=>decide (20<x.2.2.length) with
    | true=>exact ⟨true,rfl,by simp⟩
    | false=>
     refine ⟨false,rfl,fun _=>⟨by omega,by omega,fun x hx=>?_,by omega⟩⟩
     have:=List.any_eq_false.1 ha x hx
     simp at this; omega
theorem kna {α:Type} (p:α→Bool):∀ (l:List α) (j:Int),0≤j→idxF p l j = -1∨∃ i:Nat,∃ h:i<l.length,idxF p l j=j+i∧p l[i]=true
 | [],j,hj=>.inl rfl
 | x::r,j,hj=>by
  simp only [idxF]
  by_cases hp:p x=true
  ·rw [if_pos hp]; exact .inr ⟨0,by simp,by simp,hp⟩
  ·rw [if_neg hp]
   rcases kna p r (j+1) (by omega) with h | ⟨i,h1,h2,h3⟩
   ·exact .inl h
   ·exact .inr ⟨i+1,by simp; omega,by rw [h2]; push_cast; omega,by simpa using h3⟩
theorem kqG {b:Belt} {bin:Int} (h:0≤kcA b bin):(kcA b bin).toNat<b.2.2.2.1.length∧(gtF b (kcA b bin)).2=bin:=by
 rcases kna (fun g=>g.2==bin) b.2.2.2.1 0 (by omega) with h1 | ⟨i,h1,h2,h3⟩
 ·unfold kcA at h; omega
 ·have e:kcA b bin=(i:Int):=by unfold kcA; omega
  rw [e]
  refine ⟨by simpa using h1,?_⟩
  unfold gtF
  rw [Int.toNat_natCast,List.getElem?_eq_getElem h1]
  simpa using h3
theorem ksB {b:Belt} {c:List Fed} (h:0≤Gc b c):∀ x∈c,gateF b x=Gc b c:=by
 unfold Gc at *
 split at h
 ·omega
 ·rename_i h1
  split at h
  ·omega
  ·rename_i h2
   split at h
   ·omega
   ·rename_i h3
    rw [if_neg h1,if_neg h2,if_neg h3]
    intro x hx
    rw [Bool.not_eq_true] at h2
    simpa using List.any_eq_false.1 h2 x hx
theorem kqO {b:Belt} {x:Fed} (h:0≤gateF b x):0≤seenR x.2.2∧gateF b x=kcA b ((b.2.2.2.2[(seenR x.2.2).toNat]?).getD (-1)):=by
 unfold gateF gateK at *
 split at h
 ·omega
 ·rename_i h1
  exact ⟨by omega,by rw [if_neg h1]⟩
theorem ksK {l:List Fed} {s e j:Nat} (h1:s≤j) (h2:j<e) (h3:e≤l.length):fd l j∈seg l s e:=by
 have hlen:=keX (s:=s) h3
 have:(seg l s e)[j-s]'(by rw [hlen]; omega)=fd l j:=by rw [←keO (by rw [hlen]; omega),khd (by omega),show s+(j-s)=j by omega]
 rw [←this]; exact List.getElem_mem _
theorem kst:law09_alive=some true:=rfl
end Go.Abs
namespace Go.Abs
open Go
theorem ksL (l:List Int) (h:saidR l=true):kho l=some (seenR l,0):=by
 have h3:=klV h
 unfold kho
 rw [kqf l (by omega),h]
 simp only [Option.bind_some]
 rw [if_neg (by simp),kmn l (by omega) (fun t ht=>(h3.2.2 t ht).2)]
 rfl
theorem ktq (b:Belt) (f:List Fed) (B:BeltOk b) (L:FedsOk f) (hsd:∀ x∈f,saidR x.2.2=true) (e:Int) {r:List (Nat×Nat)} (hr:Cls (2*b.2.2.1+1) f 0 r) :
  iter (kcl b f (kep b f,e)) 0=some (.inr ()):=by
 have hL:=L.len
 have hlen:=kly b f
 rw [khi (F:=kcl b f (kep b f,e)) false (kep b f) (by omega) (fun i x=>false) (fun i hi=>by
  unfold kcl
  dsimp only
  rw [if_pos (lenI_lt.2 hi),kaU hi,kbl (by omega),kqx b f hi]
  rw [hlen] at hi
  simp only [Option.bind_some,decide_eq_true_eq]
  rw [if_neg (show ¬ false=true by decide),gi_fd hi]
  simp only [Option.bind_some]
  rw [ksL _ (hsd _ (by rw [keO hi]; exact List.getElem_mem _))]
  simp only [Option.bind_some]
  generalize hR:(Sum.inl ((i+1:Nat):Int):Int⊕(Bool⊕Unit))=R
  have hread:(ftF b (Gj b f i) (fd f i)).1=seenR (fd f i).2.2:=by unfold ftF; split <;> rfl
  rw [hread,if_neg (by simp),if_neg (by simp)]
  obtain ⟨⟨s,t⟩,hp,q1,q2⟩:=hr.at i (by omega) hi
  have C:=(hr.mem _ hp).1
  dsimp only at q1 q2 C
  have hC:=C.le
  have hG:=Gj_eq B L C q1 q2
  have hx:=L.fd hi
  have:=B.l0; have:=B.l1
  by_cases h0:0≤Gj b f i
  ·have hgt:=Gc_lt (b:=b) (c:=seg f s t) (by rw [←hG]; exact h0)
   rw [←hG] at hgt
   have hgf:gateF b (fd f i)=Gj b f i:=by rw [hG]; exact ksB (by rw [←hG]; exact h0) _ (ksK q1 q2 hC)
   obtain ⟨k0,k1⟩:=kqO (b:=b) (x:=fd f i) (by rw [hgf]; exact h0)
   have hsb:=kjT (fd f i).2.2
   have hbl:=B.bl
   have hlt:(seenR (fd f i).2.2).toNat<b.2.2.2.2.length:=by rw [hbl]; omega
   rw [List.getElem?_eq_getElem hlt,Option.getD_some,hgf] at k1
   have k2:=kqG (b:=b) (bin:=b.2.2.2.2[(seenR (fd f i).2.2).toNat]) (by rw [←k1]; exact h0)
   rw [←k1] at k2
   have e1:ftF b (Gj b f i) (fd f i)=(seenR (fd f i).2.2,(gtF b (Gj b f i)).2,(fd f i).1+(gtF b (Gj b f i)).1):=by unfold ftF; rw [if_pos h0]
   rw [e1]
   dsimp only
   have hb0:0≤(gtF b (Gj b f i)).2:=by
    unfold gtF
    rw [List.getElem?_eq_getElem hgt]
    exact (B.gb _ (List.getElem_mem hgt)).2.2.1
   have hgb:=B.gt hgt
   rw [if_neg (by omega),kll b _ (by have:=B.gl; omega)]
   simp only [Option.bind_some]
   rw [k2.2,←k1,if_neg (by omega),if_neg (by rw [kbp,hbl]; omega),if_neg (by omega),kgw (by omega) (by omega)]
   simp only [Option.bind_some]
   rw [if_neg (by simp),gi_gt h0 hgt]
   simp only [Option.bind_some]
   rw [kam (x:=(fd f i).1+(gtF b (Gj b f i)).1) (by omega) (by omega),if_neg (by simp)]
  ·have e1:ftF b (Gj b f i) (fd f i)=(seenR (fd f i).2.2,-1,(fd f i).1+b.1):=by unfold ftF; rw [if_neg h0]
   rw [e1]
   dsimp only
   rw [if_pos (by omega),kam (x:=(fd f i).1+b.1) (by omega) (by omega),if_neg (by simp)]) (by unfold kcl; dsimp only; rw [if_neg kaY])]
 have:((kep b f).zipIdx.any fun x=>false)=false:=by simp
 rw [this]; rfl
theorem law09_SortOwn_eq (b:Belt) (f:List Fed):kgd b f=some true:=by
 unfold kgd
 rw [kst]
 simp only [Option.bind_some]
 obtain ⟨r,hr1,hr2⟩:=krN b f
 rw [hr1]
 simp only [Option.bind_some]
 cases r with
 | true=>rfl
 | false=>
  obtain ⟨a1,a2,a3,a4⟩:=hr2 rfl
  simp only [Bool.false_eq_true,if_false]
  rw [if_neg (by decide)]
  by_cases h:beltR b=true∧fedR f=true
  ·obtain ⟨h1,h2⟩:=h
   have B:=knL h1
   obtain ⟨L,hsd,-⟩:=kpP h2
   obtain ⟨r,hr,hs⟩:=kqS a1 a2 a3 a4 h1 h2
   rw [hs]
   simp only [Option.bind_some]
   rw [if_neg (by simp),if_neg (by rw [kbp,kbp,kly]; simp),ksp b,h1]
   simp only [Option.bind_some]
   rw [if_neg (by simp),ktq b f B L hsd 0 hr]
   rfl
  ·obtain ⟨e,he,hs,-⟩:=krG a1 a2 a3 a4 h
   rw [hs]
   simp only [Option.bind_some]
   rw [if_pos (by simpa using he)]
end Go.Abs
