/- The functions and the law, part 8. -/
import Derived.Test.YtadfdnfenimkpaaProg
import Derived.Test.YtadfdnfenimkpaaZ3
import Derived.Test.YtadfdnfenimkpaaZ6
set_option linter.constructorNameAsVariable false
set_option linter.unusedVariables false
set_option linter.unusedSimpArgs false
set_option linter.unusedSectionVars false
namespace Go.Abs
open Go
@[reducible] def kwd:Ty:=(.pr (.i .i64) (.sl (.i .i64)))
abbrev kcB:=(Int×(List Int))
abbrev Flow:=((List (List Bool))×(List (List Int))×(List Int))
abbrev Flow5:=((List (Int×Int×Int))×(List (List Int))×(List (List Int))×(List Int))
@[reducible] def tSwap:Ty:=(.pr (.i .i64) (.pr (.i .u8) (.pr (.i .i64) (.i .u8))))
abbrev Swap:=(Int×Int×Int×Int)
@[reducible] def tLine:Ty:=(.pr (.i .i64) (.pr (.i .i64) (.pr (.i .i64) (.pr (.pr (.i .i64) (.i .u8)) .b))))
abbrev Line:=(Int×Int×Int×(Int×Int)×Bool)
def kcS (x0:Int) (x1:Int) (x2:Int):Option Bool:=
 (if (decide (x1<=x0))=true then (some (decide (x0<=x2))) else (some false))
def kdT (x0:(List (Int×Int×Int))) (v0:(Int×Int)):Option ((Int×Int)⊕Int):=
 (if (decide (v0.1<(lenI x0)))=true then ((gi x0 v0.1).bind fun v1=>((kcS v1.2.2 0 1000).bind fun v2=>(if v2=true then ((gi x0 v0.1).bind fun v3=>(some (.inl ((w64 (v0.1+1)),(w64 (v0.2+v3.2.2)))))) else (some (.inl ((w64 (v0.1+1)),v0.2)))))) else (some (.inr v0.2)))
def kfO (x0:(List (Int×Int×Int))):Option Bool:=
 (if (decide (40<(lenI x0)))=true then (some true) else ((iter (kdT x0) (0,0)).bind fun v4=>(some (decide (8000<v4)))))
def kfq (x0:(List (List (Int×Int×Int)))) (v0:Int):Option (Int⊕(Bool⊕Unit)):=
 (if (decide (v0<(lenI x0)))=true then ((gi x0 v0).bind fun v1=>((kfO v1).bind fun v2=>(if v2=true then (some (.inr (.inl true))) else (some (.inl (w64 (v0+1))))))) else (some (.inr (.inr ()))))
def khh (x0:(List (List (Int×Int×Int)))):Option Bool:=
 ((iter (kfq x0) 0).bind fun v3=>(match v3 with | .inl v4=>(some v4) | .inr v5=>(some false)))
def kgq (x0:Int) (x1:Int) (x2:Int):Option Bool:=
 (if (decide (x0<=x2))=true then (some (decide (x2<=x1))) else (some false))
def kfQ (x0:(Int×Int×Int)):Option Bool:=
 ((kgq 1 1000 x0.2.2).bind fun v0=>(some (!v0)))
def kbN (x0:(Int×Int)):Option Bool:=
 ((kgq 0 15 x0.1).bind fun v0=>(if v0=true then (some (decide (x0.2<=15))) else (some false)))
def kfs (x0:Int):Option Bool:=
 (some (x0 != x0))
def kee (x0:Int) (x1:Int):Option Int:=
 ((kfs x0).bind fun v0=>((kfs x1).bind fun v1=>(if v0=true then (if v1=true then (some 0) else (some (-1))) else (if v1=true then (some 1) else (if (decide (x0<x1))=true then (some (-1)) else (if (decide (x1<x0))=true then (some 1) else (some 0)))))))
def ked (x0:Int):Option Bool:=
 (some (x0 != x0))
def kdB (x0:Int) (x1:Int):Option Int:=
 ((ked x0).bind fun v0=>((ked x1).bind fun v1=>(if v0=true then (if v1=true then (some 0) else (some (-1))) else (if v1=true then (some 1) else (if (decide (x0<x1))=true then (some (-1)) else (if (decide (x1<x0))=true then (some 1) else (some 0)))))))
def kfv (x0:(List Int)) (v0:Int):Option (Int⊕(Int⊕Unit)):=
 (if (decide (v0<(lenI x0)))=true then ((gi x0 v0).bind fun v1=>(if (v1 != 0)=true then (some (.inr (.inl v1))) else (some (.inl (w64 (v0+1)))))) else (some (.inr (.inr ()))))
def khg (x0:(List Int)):Option Int:=
 ((iter (kfv x0) 0).bind fun v2=>(match v2 with | .inl v3=>(some v3) | .inr v4=>(some 0)))
def keC (x0:(Int×Int)) (x1:(Int×Int)):Option Int:=
 ((kee x0.1 x1.1).bind fun v0=>((kdB x0.2 x1.2).bind fun v1=>((khg [v0,v1]).bind fun v2=>(some v2))))
def kcd (x0:(List (Int×Int×Int))) (x2:((Int×Int×Int)->Option (Int×Int))) (v0:Int):Option (Int⊕(Bool⊕Unit)):=
 (if (decide (v0<(lenI x0)))=true then ((gi x0 v0).bind fun v1=>((x2 v1).bind fun v2=>((kbN v2).bind fun v3=>(if (!v3)=true then (some (.inr (.inl false))) else (if (decide (0<v0))=true then ((gi x0 (w64 (v0-1))).bind fun v4=>((x2 v4).bind fun v5=>((x2 v1).bind fun v6=>((keC v5 v6).bind fun v7=>(if (decide (0<=v7))=true then (some (.inr (.inl false))) else (some (.inl (w64 (v0+1))))))))) else (some (.inl (w64 (v0+1))))))))) else (some (.inr (.inr ()))))
def kcI (x0:(List (Int×Int×Int))) (x1:Int) (x2:((Int×Int×Int)->Option (Int×Int))):Option Bool:=
 ((iter (kcd x0 x2) 0).bind fun v8=>(match v8 with | .inl v9=>(some v9) | .inr v10=>(some (decide ((lenI x0)<=x1)))))
def kbH (x0:(Int×Int×Int)):Option (Int×Int):=
 (some (x0.1,x0.2.1))
def kaI (x0:(List (Int×Int×Int))) (x1:((Int×Int×Int)->Option Bool)) (v0:Int):Option (Int⊕(Int⊕Unit)):=
 (if (decide (v0<(lenI x0)))=true then ((gi x0 v0).bind fun v1=>((x1 v1).bind fun v2=>(if v2=true then (some (.inr (.inl v0))) else (some (.inl (w64 (v0+1))))))) else (some (.inr (.inr ()))))
def kbm (x0:(List (Int×Int×Int))) (x1:((Int×Int×Int)->Option Bool)):Option Int:=
 ((iter (kaI x0 x1) 0).bind fun v3=>(match v3 with | .inl v4=>(some v4) | .inr v5=>(some (-1))))
def kaH (x0:(List (Int×Int×Int))) (x1:((Int×Int×Int)->Option Bool)):Option Bool:=
 ((kbm x0 x1).bind fun v0=>(some (decide (0<=v0))))
def kir (x0:(List (Int×Int×Int))):Option Int:=
 ((kcI x0 30 (fun (u0:(Int×Int×Int))=>((kbH u0).bind fun u1=>(some u1)))).bind fun v0=>(if (!v0)=true then (some 8) else ((kaH x0 (fun (u0:(Int×Int×Int))=>((kfQ u0).bind fun u1=>(some u1)))).bind fun v1=>(if v1=true then (some 8) else (some 0)))))
def keR (x0:(List (List (Int×Int×Int)))) (v0:Int):Option (Int⊕(Int⊕Unit)):=
 (if (decide (v0<(lenI x0)))=true then ((gi x0 v0).bind fun v1=>((kir v1).bind fun v2=>(if (v2 != 0)=true then (some (.inr (.inl v2))) else (some (.inl (w64 (v0+1))))))) else (some (.inr (.inr ()))))
def kfl (x0:(List (List (Int×Int×Int)))):Option Int:=
 ((iter (keR x0) 0).bind fun v3=>(match v3 with | .inl v4=>(some v4) | .inr v5=>(some 0)))
def kcx (x0:Swap):Option Bool:=
 ((bthO tSwap (some x0) (some x0)).bind fun v0=>((kbN (v0.1,v0.2.1)).bind fun v1=>(if (!v1)=true then (some true) else ((kbN v0.2.2).bind fun v2=>(if (!v2)=true then (some true) else (some ((v0.1==v0.2.2.1)&&(v0.2.1==v0.2.2.2))))))))
def kaG (x0:(List Swap)) (x1:(Swap->Option Bool)) (v0:Int):Option (Int⊕(Int⊕Unit)):=
 (if (decide (v0<(lenI x0)))=true then ((gi x0 v0).bind fun v1=>((x1 v1).bind fun v2=>(if v2=true then (some (.inr (.inl v0))) else (some (.inl (w64 (v0+1))))))) else (some (.inr (.inr ()))))
def kbo (x0:(List Swap)) (x1:(Swap->Option Bool)):Option Int:=
 ((iter (kaG x0 x1) 0).bind fun v3=>(match v3 with | .inl v4=>(some v4) | .inr v5=>(some (-1))))
def kbf (x0:(List Swap)) (x1:(Swap->Option Bool)):Option Bool:=
 ((kbo x0 x1).bind fun v0=>(some (decide (0<=v0))))
def kcO (x0:(List Swap)):Option Int:=
 (if (decide (30<(lenI x0)))=true then (some 2) else ((kbf x0 (fun (u0:Swap)=>((kcx u0).bind fun u1=>(some u1)))).bind fun v0=>(if v0=true then (some 2) else (some 0))))
def kaX (x0:(List Swap)) (x1:Swap) (v0:Int):Option (Int⊕(Int⊕Unit)):=
 (if (decide (v0<(lenI x0)))=true then ((gi x0 v0).bind fun v1=>(if ((x1.1==v1.1)&&((x1.2.1==v1.2.1)&&((x1.2.2.1==v1.2.2.1)&&(x1.2.2.2==v1.2.2.2))))=true then (some (.inr (.inl v0))) else (some (.inl (w64 (v0+1)))))) else (some (.inr (.inr ()))))
def kbJ (x0:(List Swap)) (x1:Swap):Option Int:=
 ((iter (kaX x0 x1) 0).bind fun v2=>(match v2 with | .inl v3=>(some v3) | .inr v4=>(some (-1))))
def kbu (x0:(List Swap)) (x1:Swap):Option Bool:=
 ((kbJ x0 x1).bind fun v0=>(some (decide (0<=v0))))
def khs (x0:(List Swap)) (x1:(Int×Int)) (x2:(Int×Int)):Option Bool:=
 (if ((x1.1==x2.1)&&(x1.2==x2.2))=true then (some true) else ((kbu x0 (x1.1,x1.2,x2)).bind fun v0=>(some v0)))
def kgc (x0:(Int×Int×Int)):Option Bool:=
 ((kgq 0 10000 x0.2.2).bind fun v0=>(some (!v0)))
def kbY (x0:(List (Int×Int×Int))) (x2:((Int×Int×Int)->Option (Int×Int))) (v0:Int):Option (Int⊕(Bool⊕Unit)):=
 (if (decide (v0<(lenI x0)))=true then ((gi x0 v0).bind fun v1=>((x2 v1).bind fun v2=>((kbN v2).bind fun v3=>(if (!v3)=true then (some (.inr (.inl false))) else (if (decide (0<v0))=true then ((gi x0 (w64 (v0-1))).bind fun v4=>((x2 v4).bind fun v5=>((x2 v1).bind fun v6=>((keC v5 v6).bind fun v7=>(if (decide (0<=v7))=true then (some (.inr (.inl false))) else (some (.inl (w64 (v0+1))))))))) else (some (.inl (w64 (v0+1))))))))) else (some (.inr (.inr ()))))
def kbQ (x0:(List (Int×Int×Int))) (x1:Int) (x2:((Int×Int×Int)->Option (Int×Int))):Option Bool:=
 ((iter (kbY x0 x2) 0).bind fun v8=>(match v8 with | .inl v9=>(some v9) | .inr v10=>(some (decide ((lenI x0)<=x1)))))
def kbD (x0:(Int×Int×Int)):Option (Int×Int):=
 (some (x0.1,x0.2.1))
def kaA (x0:(List (Int×Int×Int))) (x1:((Int×Int×Int)->Option Bool)) (v0:Int):Option (Int⊕(Int⊕Unit)):=
 (if (decide (v0<(lenI x0)))=true then ((gi x0 v0).bind fun v1=>((x1 v1).bind fun v2=>(if v2=true then (some (.inr (.inl v0))) else (some (.inl (w64 (v0+1))))))) else (some (.inr (.inr ()))))
def kbh (x0:(List (Int×Int×Int))) (x1:((Int×Int×Int)->Option Bool)):Option Int:=
 ((iter (kaA x0 x1) 0).bind fun v3=>(match v3 with | .inl v4=>(some v4) | .inr v5=>(some (-1))))
def kas (x0:(List (Int×Int×Int))) (x1:((Int×Int×Int)->Option Bool)):Option Bool:=
 ((kbh x0 x1).bind fun v0=>(some (decide (0<=v0))))
def kcF (x0:Line) (x1:Line):Option Int:=
 (if (!(x0.2.2.2.2==x1.2.2.2.2))=true then (if x1.2.2.2.2=true then (some (-1)) else (some 1)) else (some (w64 (x1.2.1-x0.2.1))))
def kax (x0:Int) (x2:((Line×Line)->Option Int)) (v1:(Int×(List Line))):Option ((Int×(List Line))⊕(List Line)):=
 (if (decide (x0<v1.1))=true then ((gi v1.2 v1.1).bind fun v2=>((gi v1.2 v1.1).bind fun v3=>((gi v1.2 (w64 (v1.1-1))).bind fun v4=>((gi v1.2 (w64 (v1.1-1))).bind fun v5=>((x2 (v3,v5)).bind fun v6=>(if (decide (v6<0))=true then ((gi v1.2 (w64 (v1.1-1))).bind fun v7=>((gi v1.2 (w64 (v1.1-1))).bind fun v8=>((gi v1.2 v1.1).bind fun v9=>((gi v1.2 v1.1).bind fun v10=>((gi v1.2 v1.1).bind fun v11=>((gi (lset v1.2 v1.1 v8) (w64 (v1.1-1))).bind fun v12=>(some (.inl ((w64 (v1.1-1)),(lset (lset v1.2 v1.1 v8) (w64 (v1.1-1)) v10)))))))))) else (some (.inr v1.2)))))))) else (some (.inr v1.2)))
def kay (x0:Int) (x1:Int) (x2:((Line×Line)->Option Int)) (v0:(Int×(List Line))):Option ((Int×(List Line))⊕(List Line)):=
 (if (decide (v0.1<x1))=true then ((iter (kax x0 x2) v0).bind fun v13=>(some (.inl ((w64 (v0.1+1)),v13)))) else (some (.inr v0.2)))
def kau (x0:Int) (x1:Int) (x2:((Line×Line)->Option Int)) (x3:(List Line)):Option (List Line):=
 ((iter (kay x0 x1 x2) ((w64 (x0+1)),x3)).bind fun v14=>(some v14))
def kbj (x0:Int) (x1:Int) (x2:Int) (v0:(Int×(List Line))):Option ((Int×(List Line))⊕(List Line)):=
 (if (decide (v0.1<x2))=true then ((gi v0.2 (w64 (x1+v0.1))).bind fun v1=>((gi v0.2 (w64 (x1+v0.1))).bind fun v2=>((gi v0.2 (w64 (x0+v0.1))).bind fun v3=>((gi v0.2 (w64 (x0+v0.1))).bind fun v4=>((gi v0.2 (w64 (x0+v0.1))).bind fun v5=>((gi (lset v0.2 (w64 (x0+v0.1)) v2) (w64 (x1+v0.1))).bind fun v6=>(some (.inl ((w64 (v0.1+1)),(lset (lset v0.2 (w64 (x0+v0.1)) v2) (w64 (x1+v0.1)) v4)))))))))) else (some (.inr v0.2)))
def kat (x0:Int) (x1:Int) (x2:Int) (x3:((Line×Line)->Option Int)) (x4:(List Line)):Option (List Line):=
 ((iter (kbj x0 x1 x2) (0,x4)).bind fun v7=>(some v7))
def kbt (x1:Int) (x3:((Line×Line)->Option Int)) (v0:(Int×Int×(List Line))):Option ((Int×Int×(List Line))⊕(Int×(List Line))):=
 (if (v0.1 != v0.2.1)=true then (if (decide (v0.2.1<v0.1))=true then ((kat (w64 (x1-v0.1)) x1 v0.2.1 x3 v0.2.2).bind fun v1=>(some (.inl ((w64 (v0.1-v0.2.1)),v0.2.1,v1)))) else ((kat (w64 (x1-v0.1)) (w64 ((w64 (x1+v0.2.1))-v0.1)) v0.1 x3 v0.2.2).bind fun v2=>(some (.inl (v0.1,(w64 (v0.2.1-v0.1)),v2))))) else (some (.inr (v0.1,v0.2.2))))
def kaK (x0:Int) (x1:Int) (x2:Int) (x3:((Line×Line)->Option Int)) (x4:(List Line)):Option (List Line):=
 ((iter (kbt x1 x3) ((w64 (x1-x0)),(w64 (x2-x1)),x4)).bind fun v3=>((kat (w64 (x1-v3.1)) x1 v3.1 x3 v3.2).bind fun v4=>(some v4)))
def kaO (x0:Int) (x3:((Line×Line)->Option Int)) (x4:(List Line)) (v0:(Int×Int)):Option ((Int×Int)⊕Int):=
 (if (decide (v0.1<v0.2))=true then ((gshr .u64 (IntKind.wrap .u64 (w64 (v0.1+v0.2))) 1).bind fun v1=>((gi x4 (w64 v1)).bind fun v2=>((gi x4 (w64 v1)).bind fun v3=>((gi x4 x0).bind fun v4=>((gi x4 x0).bind fun v5=>((x3 (v3,v5)).bind fun v6=>(if (decide (v6<0))=true then (some (.inl ((w64 ((w64 v1)+1)),v0.2))) else (some (.inl (v0.1,(w64 v1))))))))))) else (some (.inr v0.1)))
def kaP (v7:Int) (v8:(Int×(List Line))):Option ((Int×(List Line))⊕(List Line)):=
 (if (decide (v8.1<(w64 (v7-1))))=true then ((gi v8.2 (w64 (v8.1+1))).bind fun v9=>((gi v8.2 (w64 (v8.1+1))).bind fun v10=>((gi v8.2 v8.1).bind fun v11=>((gi v8.2 v8.1).bind fun v12=>((gi v8.2 v8.1).bind fun v13=>((gi (lset v8.2 v8.1 v10) (w64 (v8.1+1))).bind fun v14=>(some (.inl ((w64 (v8.1+1)),(lset (lset v8.2 v8.1 v10) (w64 (v8.1+1)) v12)))))))))) else (some (.inr v8.2)))
def kaS (x1:Int) (x3:((Line×Line)->Option Int)) (x4:(List Line)) (v16:(Int×Int)):Option ((Int×Int)⊕Int):=
 (if (decide (v16.1<v16.2))=true then ((gshr .u64 (IntKind.wrap .u64 (w64 (v16.1+v16.2))) 1).bind fun v17=>((gi x4 x1).bind fun v18=>((gi x4 x1).bind fun v19=>((gi x4 (w64 v17)).bind fun v20=>((gi x4 (w64 v17)).bind fun v21=>((x3 (v19,v21)).bind fun v22=>(if (!(decide (v22<0)))=true then (some (.inl ((w64 ((w64 v17)+1)),v16.2))) else (some (.inl (v16.1,(w64 v17))))))))))) else (some (.inr v16.1)))
def kaQ (v23:Int) (v24:(Int×(List Line))):Option ((Int×(List Line))⊕(List Line)):=
 (if (decide (v23<v24.1))=true then ((gi v24.2 (w64 (v24.1-1))).bind fun v25=>((gi v24.2 (w64 (v24.1-1))).bind fun v26=>((gi v24.2 v24.1).bind fun v27=>((gi v24.2 v24.1).bind fun v28=>((gi v24.2 v24.1).bind fun v29=>((gi (lset v24.2 v24.1 v26) (w64 (v24.1-1))).bind fun v30=>(some (.inl ((w64 (v24.1-1)),(lset (lset v24.2 v24.1 v26) (w64 (v24.1-1)) v28)))))))))) else (some (.inr v24.2)))
def kaR (x1:Int) (x3:((Line×Line)->Option Int)) (x4:(List Line)) (v32:Int) (v34:(Int×Int)):Option ((Int×Int)⊕Int):=
 (if (decide (v34.1<v34.2))=true then ((gshr .u64 (IntKind.wrap .u64 (w64 (v34.1+v34.2))) 1).bind fun v35=>((gi x4 (w64 ((w64 ((w64 ((w64 v32)+x1))-1))-(w64 v35)))).bind fun v36=>((gi x4 (w64 ((w64 ((w64 ((w64 v32)+x1))-1))-(w64 v35)))).bind fun v37=>((gi x4 (w64 v35)).bind fun v38=>((gi x4 (w64 v35)).bind fun v39=>((x3 (v37,v39)).bind fun v40=>(if (!(decide (v40<0)))=true then (some (.inl ((w64 ((w64 v35)+1)),v34.2))) else (some (.inl (v34.1,(w64 v35))))))))))) else (some (.inr v34.1)))
def kbr (rec_slices_symMergeCmpFunc_box_line_m0:Int->Int->Int->((Line×Line)->Option Int)->(List Line)->Option (List Line)) (x0:Int) (x1:Int) (x2:Int) (x3:((Line×Line)->Option Int)) (x4:(List Line)):Option (List Line):=
 (if ((w64 (x1-x0))==1)=true then ((iter (kaO x0 x3 x4) (x1,x2)).bind fun v7=>((iter (kaP v7) (x0,x4)).bind fun v15=>(some v15))) else (if ((w64 (x2-x1))==1)=true then ((iter (kaS x1 x3 x4) (x0,x1)).bind fun v23=>((iter (kaQ v23) (x1,x4)).bind fun v31=>(some v31))) else ((gshr .u64 (IntKind.wrap .u64 (w64 (x0+x2))) 1).bind fun v32=>((if (decide ((w64 v32)<x1))=true then (some ((w64 ((w64 ((w64 v32)+x1))-x2)),(w64 v32))) else (some (x0,x1))).bind fun v33=>((iter (kaR x1 x3 x4 v32) v33).bind fun v41=>((if (decide (v41<x1))=true then (some (decide (x1<(w64 ((w64 ((w64 v32)+x1))-v41))))) else (some false)).bind fun v42=>((if v42=true then ((kaK v41 x1 (w64 ((w64 ((w64 v32)+x1))-v41)) x3 x4).bind fun v43=>(some v43)) else (some x4)).bind fun v44=>((if (decide (x0<v41))=true then (some (decide (v41<(w64 v32)))) else (some false)).bind fun v45=>((if v45=true then ((rec_slices_symMergeCmpFunc_box_line_m0 x0 v41 (w64 v32) x3 v44).bind fun v46=>(some v46)) else (some v44)).bind fun v47=>(if (decide ((w64 v32)<(w64 ((w64 ((w64 v32)+x1))-v41))))=true then (if (decide ((w64 ((w64 ((w64 v32)+x1))-v41))<x2))=true then ((rec_slices_symMergeCmpFunc_box_line_m0 (w64 v32) (w64 ((w64 ((w64 v32)+x1))-v41)) x2 x3 v47).bind fun v48=>(some v48)) else (some v47)) else (some v47)))))))))))
def kan:Nat->Int->Int->Int->((Line×Line)->Option Int)->(List Line)->Option (List Line)
 | 0,_,_,_,_,_=>none
 | k+1,x0,x1,x2,x3,x4=>kbr (kan k) x0 x1 x2 x3 x4
def kaB (x0:Int) (x1:Int) (x2:Int) (x3:((Line×Line)->Option Int)) (x4:(List Line)):Option (List Line):=kan 1000000 x0 x1 x2 x3 x4
def kaY (x0:Int) (x1:((Line×Line)->Option Int)) (v0:(Int×Int×(List Line))):Option ((Int×Int×(List Line))⊕(Int×(List Line))):=
 (if (decide (v0.1<=x0))=true then ((kau v0.2.1 v0.1 x1 v0.2.2).bind fun v1=>(some (.inl ((w64 (v0.1+20)),v0.1,v1)))) else (some (.inr v0.2)))
def kaW (x0:Int) (x1:((Line×Line)->Option Int)) (v4:(Int×(List Line))) (v5:(Int×Int×(List Line))):Option ((Int×Int×(List Line))⊕(Int×(List Line))):=
 (if (decide (v5.1<=x0))=true then ((kaB v5.2.1 (w64 (v5.2.1+v4.1)) v5.1 x1 v5.2.2).bind fun v6=>(some (.inl ((w64 (v5.1+(w64 (2*v4.1)))),v5.1,v6)))) else (some (.inr v5.2)))
def kbv (x0:Int) (x1:((Line×Line)->Option Int)) (v4:(Int×(List Line))):Option ((Int×(List Line))⊕(List Line)):=
 (if (decide (v4.1<x0))=true then ((iter (kaW x0 x1 v4) ((w64 (2*v4.1)),0,v4.2)).bind fun v7=>(if (decide ((w64 (v7.1+v4.1))<x0))=true then ((kaB v7.1 (w64 (v7.1+v4.1)) x0 x1 v7.2).bind fun v8=>(some (.inl ((w64 (v4.1*2)),v8)))) else (some (.inl ((w64 (v4.1*2)),v7.2))))) else (some (.inr v4.2)))
def kbd (x0:Int) (x1:((Line×Line)->Option Int)) (x2:(List Line)):Option (List Line):=
 ((iter (kaY x0 x1) (20,0,x2)).bind fun v2=>((kau v2.1 x0 x1 v2.2).bind fun v3=>((iter (kbv x0 x1) (20,v3)).bind fun v9=>(some v9))))
def kaq (x0:((Line×Line)->Option Int)) (x1:(List Line)):Option (List Line):=
 ((kbd (lenI x1) x0 x1).bind fun v0=>(some v0))
def kaU (x0:(Int×Int)) (x1:(List ((Int×Int)×Int))) (x2:Bool) (x3:Int) (x4:Int) (x5:Int):Option ((List ((Int×Int)×Int))×Bool×Int×Int×Int):=
 (if (mget x1 x0).isSome=true then (if (!x2)=true then (some (x1,true,((mget x1 x0).getD 0),x0)) else (if (decide (((mget x1 x0).getD 0)<x3))=true then (some (x1,true,((mget x1 x0).getD 0),x0)) else (if (((mget x1 x0).getD 0)==x3)=true then ((keC x0 (x4,x5)).bind fun v0=>(if (decide (v0<0))=true then (some (x1,true,((mget x1 x0).getD 0),x0)) else (some (x1,x2,x3,x4,x5)))) else (some (x1,x2,x3,x4,x5))))) else (some (x1,x2,x3,x4,x5)))
def keF (x0:(List Swap)) (x1:(Int×Int)) (v1:(Int×(List ((Int×Int)×Int))×Bool×Int×Int×Int)):Option ((Int×(List ((Int×Int)×Int))×Bool×Int×Int×Int)⊕(Int×Int×Int×Bool×(List ((Int×Int)×Int)))):=
 (if (decide (v1.1<(lenI x0)))=true then ((gi x0 v1.1).bind fun v2=>(if ((x1.1==v2.1)&&(x1.2==v2.2.1))=true then ((kaU v2.2.2 v1.2.1 v1.2.2.1 v1.2.2.2.1 v1.2.2.2.2.1 v1.2.2.2.2.2).bind fun v3=>(some (.inl ((w64 (v1.1+1)),v3)))) else (some (.inl ((w64 (v1.1+1)),v1.2))))) else (some (.inr (v1.2.2.2.1,v1.2.2.2.2.1,v1.2.2.2.2.2,v1.2.2.1,v1.2.1))))
def kcs (x0:(List Swap)) (x1:(Int×Int)) (x2:(List ((Int×Int)×Int))):Option (Int×Int×Int×Bool×(List ((Int×Int)×Int))):=
 ((kaU x1 x2 false 0 0 0).bind fun v0=>((iter (keF x0 x1) (0,v0)).bind fun v4=>(some v4)))
def klI (x0:(List (Int×Int×Int))) (v3:(Int×(List (Int×Int×Int))×(List Int))):Option ((Int×(List (Int×Int×Int))×(List Int))⊕((List (Int×Int×Int))×(List Int))):=
 (if (decide (v3.1<(lenI x0)))=true then ((gi x0 v3.1).bind fun v4=>((gapp v3.2.2 [v4.2.2]).bind fun v5=>(some (.inl ((w64 (v3.1+1)),v3.2.1,v5))))) else (some (.inr v3.2)))
def klN (x0:(List (Int×Int×Int))) (x2:(List Swap)) (v8:(Int×Int×Int)) (v9:kcB):Option (kcB⊕(List Int)):=
 (if (decide (v9.1<(lenI x0)))=true then ((gi x0 v9.1).bind fun v10=>((kbH v8).bind fun v11=>((kbH v10).bind fun v12=>((khs x2 v11 v12).bind fun v13=>(if v13=true then ((gapp v9.2 [v9.1]).bind fun v14=>(some (.inl ((w64 (v9.1+1)),v14)))) else (some (.inl ((w64 (v9.1+1)),v9.2)))))))) else (some (.inr v9.2)))
def klG (x0:(List (Int×Int×Int))) (x1:(List (Int×Int×Int))) (x2:(List Swap)) (v7:(Int×(List (Int×Int×Int))×(List (List Int))×(List (List Int)))):Option ((Int×(List (Int×Int×Int))×(List (List Int))×(List (List Int)))⊕((List (Int×Int×Int))×(List (List Int))×(List (List Int)))):=
 (if (decide (v7.1<(lenI x1)))=true then ((gi x1 v7.1).bind fun v8=>((iter (klN x0 x2 v8) (0,[])).bind fun v15=>(bthO (.sm (.pr (.i .i64) (.pr (.sl (.pr (.i .i64) (.pr (.i .u8) (.i .i64)))) (.pr (.sl (.sl (.i .i64))) (.sl (.sl (.i .i64)))))) (.pr (.sl (.pr (.i .i64) (.pr (.i .u8) (.i .i64)))) (.pr (.sl (.sl (.i .i64))) (.sl (.sl (.i .i64)))))) ((gapp v7.2.2.1 [v15]).bind fun v16=>((gmk (lenI x0) 0).bind fun v17=>((gapp v7.2.2.2 [v17]).bind fun v18=>(some (.inl ((w64 (v7.1+1)),v7.2.1,v16,v18)))))) (bthO (.sm (.pr (.i .i64) (.pr (.sl (.pr (.i .i64) (.pr (.i .u8) (.i .i64)))) (.pr (.sl (.sl (.i .i64))) (.sl (.sl (.i .i64)))))) (.pr (.sl (.pr (.i .i64) (.pr (.i .u8) (.i .i64)))) (.pr (.sl (.sl (.i .i64))) (.sl (.sl (.i .i64)))))) ((gmk (lenI x0) 0).bind fun v19=>((gapp v7.2.2.1 [v15]).bind fun v20=>((gapp v7.2.2.2 [v19]).bind fun v21=>(some (.inl ((w64 (v7.1+1)),v7.2.1,v20,v21)))))) (bthO (.sm (.pr (.i .i64) (.pr (.sl (.pr (.i .i64) (.pr (.i .u8) (.i .i64)))) (.pr (.sl (.sl (.i .i64))) (.sl (.sl (.i .i64)))))) (.pr (.sl (.pr (.i .i64) (.pr (.i .u8) (.i .i64)))) (.pr (.sl (.sl (.i .i64))) (.sl (.sl (.i .i64)))))) ((gmk (lenI x0) 0).bind fun v22=>((gapp v7.2.2.1 [v15]).bind fun v23=>((gapp v7.2.2.2 [v22]).bind fun v24=>(some (.inl ((w64 (v7.1+1)),v7.2.1,v23,v24)))))) (bthO (.sm (.pr (.i .i64) (.pr (.sl (.pr (.i .i64) (.pr (.i .u8) (.i .i64)))) (.pr (.sl (.sl (.i .i64))) (.sl (.sl (.i .i64)))))) (.pr (.sl (.pr (.i .i64) (.pr (.i .u8) (.i .i64)))) (.pr (.sl (.sl (.i .i64))) (.sl (.sl (.i .i64)))))) ((gmk (lenI x0) 0).bind fun v25=>((gapp v7.2.2.1 [v15]).bind fun v26=>((gapp v7.2.2.2 [v25]).bind fun v27=>(some (.inl ((w64 (v7.1+1)),v7.2.1,v26,v27)))))) (bthO (.sm (.pr (.i .i64) (.pr (.sl (.pr (.i .i64) (.pr (.i .u8) (.i .i64)))) (.pr (.sl (.sl (.i .i64))) (.sl (.sl (.i .i64)))))) (.pr (.sl (.pr (.i .i64) (.pr (.i .u8) (.i .i64)))) (.pr (.sl (.sl (.i .i64))) (.sl (.sl (.i .i64)))))) ((gmk (lenI x0) 0).bind fun v28=>((gapp v7.2.2.1 [v15]).bind fun v29=>((gapp v7.2.2.2 [v28]).bind fun v30=>(some (.inl ((w64 (v7.1+1)),v7.2.1,v29,v30)))))) ((gmk (lenI x0) 0).bind fun v31=>((gapp v7.2.2.1 [v15]).bind fun v32=>((gapp v7.2.2.2 [v31]).bind fun v33=>(some (.inl ((w64 (v7.1+1)),v7.2.1,v32,v33))))))))))))) else (some (.inr v7.2)))
def keO (x0:(List (Int×Int×Int))) (x1:(List (Int×Int×Int))) (x2:(List Swap)):Option Int:=
 ((kfl [x0,x1]).bind fun v0=>((if (v0==0)=true then ((kcO x2).bind fun v1=>(some v1)) else (some v0)).bind fun v2=>(if (v2 != 0)=true then (some v2) else ((iter (klI x0) (0,x1,[])).bind fun v6=>((iter (klG x0 x1 x2) (0,v6.1,[],[])).bind fun v34=>none)))))
def kcy (x0:(List (Int×Int×Int))) (v3:(Int×(List (Int×Int×Int))×(List Int))):Option ((Int×(List (Int×Int×Int))×(List Int))⊕((List (Int×Int×Int))×(List Int))):=
 (if (decide (v3.1<(lenI x0)))=true then ((gi x0 v3.1).bind fun v4=>((gapp v3.2.2 [v4.2.2]).bind fun v5=>(some (.inl ((w64 (v3.1+1)),v3.2.1,v5))))) else (some (.inr v3.2)))
def kcD (x0:(List (Int×Int×Int))) (x2:(List Swap)) (v8:(Int×Int×Int)) (v9:kcB):Option (kcB⊕(List Int)):=
 (if (decide (v9.1<(lenI x0)))=true then ((gi x0 v9.1).bind fun v10=>((kbH v8).bind fun v11=>((kbH v10).bind fun v12=>((khs x2 v11 v12).bind fun v13=>(if v13=true then ((gapp v9.2 [v9.1]).bind fun v14=>(some (.inl ((w64 (v9.1+1)),v14)))) else (some (.inl ((w64 (v9.1+1)),v9.2)))))))) else (some (.inr v9.2)))
def kcw (x0:(List (Int×Int×Int))) (x1:(List (Int×Int×Int))) (x2:(List Swap)) (v7:(Int×(List (Int×Int×Int))×(List (List Int))×(List (List Int)))):Option ((Int×(List (Int×Int×Int))×(List (List Int))×(List (List Int)))⊕((List (Int×Int×Int))×(List (List Int))×(List (List Int)))):=
 (if (decide (v7.1<(lenI x1)))=true then ((gi x1 v7.1).bind fun v8=>((iter (kcD x0 x2 v8) (0,[])).bind fun v15=>(bthO (.sm (.pr (.i .i64) (.pr (.sl (.pr (.i .i64) (.pr (.i .u8) (.i .i64)))) (.pr (.sl (.sl (.i .i64))) (.sl (.sl (.i .i64)))))) (.pr (.sl (.pr (.i .i64) (.pr (.i .u8) (.i .i64)))) (.pr (.sl (.sl (.i .i64))) (.sl (.sl (.i .i64)))))) ((gapp v7.2.2.1 [v15]).bind fun v16=>((gmk (lenI x0) 0).bind fun v17=>((gapp v7.2.2.2 [v17]).bind fun v18=>(some (.inl ((w64 (v7.1+1)),v7.2.1,v16,v18)))))) (bthO (.sm (.pr (.i .i64) (.pr (.sl (.pr (.i .i64) (.pr (.i .u8) (.i .i64)))) (.pr (.sl (.sl (.i .i64))) (.sl (.sl (.i .i64)))))) (.pr (.sl (.pr (.i .i64) (.pr (.i .u8) (.i .i64)))) (.pr (.sl (.sl (.i .i64))) (.sl (.sl (.i .i64)))))) ((gmk (lenI x0) 0).bind fun v19=>((gapp v7.2.2.1 [v15]).bind fun v20=>((gapp v7.2.2.2 [v19]).bind fun v21=>(some (.inl ((w64 (v7.1+1)),v7.2.1,v20,v21)))))) (bthO (.sm (.pr (.i .i64) (.pr (.sl (.pr (.i .i64) (.pr (.i .u8) (.i .i64)))) (.pr (.sl (.sl (.i .i64))) (.sl (.sl (.i .i64)))))) (.pr (.sl (.pr (.i .i64) (.pr (.i .u8) (.i .i64)))) (.pr (.sl (.sl (.i .i64))) (.sl (.sl (.i .i64)))))) ((gmk (lenI x0) 0).bind fun v22=>((gapp v7.2.2.1 [v15]).bind fun v23=>((gapp v7.2.2.2 [v22]).bind fun v24=>(some (.inl ((w64 (v7.1+1)),v7.2.1,v23,v24)))))) (bthO (.sm (.pr (.i .i64) (.pr (.sl (.pr (.i .i64) (.pr (.i .u8) (.i .i64)))) (.pr (.sl (.sl (.i .i64))) (.sl (.sl (.i .i64)))))) (.pr (.sl (.pr (.i .i64) (.pr (.i .u8) (.i .i64)))) (.pr (.sl (.sl (.i .i64))) (.sl (.sl (.i .i64)))))) ((gmk (lenI x0) 0).bind fun v25=>((gapp v7.2.2.1 [v15]).bind fun v26=>((gapp v7.2.2.2 [v25]).bind fun v27=>(some (.inl ((w64 (v7.1+1)),v7.2.1,v26,v27)))))) (bthO (.sm (.pr (.i .i64) (.pr (.sl (.pr (.i .i64) (.pr (.i .u8) (.i .i64)))) (.pr (.sl (.sl (.i .i64))) (.sl (.sl (.i .i64)))))) (.pr (.sl (.pr (.i .i64) (.pr (.i .u8) (.i .i64)))) (.pr (.sl (.sl (.i .i64))) (.sl (.sl (.i .i64)))))) ((gmk (lenI x0) 0).bind fun v28=>((gapp v7.2.2.1 [v15]).bind fun v29=>((gapp v7.2.2.2 [v28]).bind fun v30=>(some (.inl ((w64 (v7.1+1)),v7.2.1,v29,v30)))))) ((gmk (lenI x0) 0).bind fun v31=>((gapp v7.2.2.1 [v15]).bind fun v32=>((gapp v7.2.2.2 [v31]).bind fun v33=>(some (.inl ((w64 (v7.1+1)),v7.2.1,v32,v33))))))))))))) else (some (.inr v7.2)))
def keQ (x0:(List (Int×Int×Int))) (x1:(List (Int×Int×Int))) (x2:(List Swap)):Option (Int×Flow5):=
 ((kfl [x0,x1]).bind fun v0=>((if (v0==0)=true then ((kcO x2).bind fun v1=>(some v1)) else (some v0)).bind fun v2=>(if (v2 != 0)=true then none else ((iter (kcy x0) (0,x1,[])).bind fun v6=>((iter (kcw x0 x1 x2) (0,v6.1,[],[])).bind fun v34=>(some (0,v34.1,v34.2.1,v34.2.2,v6.2)))))))
def kbg (rec_box_flow_give_c1_m0:Int->Int->(List (Int×Int×Int))->(List (List Int))->(List (List Int))->(List Int)->(List Bool)->Option (Int×(List (Int×Int×Int))×(List (List Int))×(List (List Int))×(List Int)×(List Bool))) (x0:Int) (x1:Int) (v2:(Int×(List Bool)×Flow5)) (v3:Int) (v22:(Int×(List (Int×Int×Int))×(List (List Int))×(List (List Int))×(List Int)×(List Bool))):Option ((Int×(List (Int×Int×Int))×(List (List Int))×(List (List Int))×(List Int)×(List Bool))⊕((Int×(List (Int×Int×Int))×(List (List Int))×(List (List Int))×(List Int)×(List Bool))⊕((List (Int×Int×Int))×(List (List Int))×(List (List Int))×(List Int)×(List Bool)))):=
 (if (decide (v22.1<(lenI v2.2.2.2.2.1)))=true then ((gi v22.2.2.2.1 v22.1).bind fun v23=>((gi v22.2.2.2.1 v22.1).bind fun v24=>((gi v22.2.2.2.1 v22.1).bind fun v25=>((gi v25 v3).bind fun v26=>((gi v22.2.2.2.1 v22.1).bind fun v27=>((gi v27 v3).bind fun v28=>(if (v28==0)=true then (some (.inl ((w64 (v22.1+1)),v22.2))) else ((gi v22.2.2.2.1 v22.1).bind fun v29=>((gi v22.2.2.2.1 v22.1).bind fun v30=>((gi v22.2.2.2.1 v22.1).bind fun v31=>((gi v31 v3).bind fun v32=>((gi v22.2.2.2.1 v22.1).bind fun v33=>((gi v33 v3).bind fun v34=>((rec_box_flow_give_c1_m0 v22.1 (imin x1 v34) v22.2.1 v22.2.2.1 v22.2.2.2.1 v22.2.2.2.2.1 v22.2.2.2.2.2).bind fun v35=>(if (decide (0<v35.1))=true then ((gi v35.2.2.2.1 v22.1).bind fun v36=>((gi v35.2.2.2.1 v22.1).bind fun v37=>((gi v35.2.2.2.1 v22.1).bind fun v38=>((gi v38 v3).bind fun v39=>((gi v35.2.2.2.1 v22.1).bind fun v40=>((gi v40 v3).bind fun v41=>((gi v35.2.2.2.1 v22.1).bind fun v42=>((gi v42 v3).bind fun v43=>((gi v35.2.2.2.1 v22.1).bind fun v44=>((gi v44 v3).bind fun v45=>((gi (lset v35.2.2.2.1 v22.1 (lset v44 v3 (w64 (v41-v35.1)))) x0).bind fun v46=>((gi (lset v35.2.2.2.1 v22.1 (lset v44 v3 (w64 (v41-v35.1)))) x0).bind fun v47=>((gi (lset v35.2.2.2.1 v22.1 (lset v44 v3 (w64 (v41-v35.1)))) x0).bind fun v48=>((gi v48 v3).bind fun v49=>((gi (lset v35.2.2.2.1 v22.1 (lset v44 v3 (w64 (v41-v35.1)))) x0).bind fun v50=>((gi v50 v3).bind fun v51=>((gi (lset v35.2.2.2.1 v22.1 (lset v44 v3 (w64 (v41-v35.1)))) x0).bind fun v52=>((gi v52 v3).bind fun v53=>((gi (lset v35.2.2.2.1 v22.1 (lset v44 v3 (w64 (v41-v35.1)))) x0).bind fun v54=>((gi v54 v3).bind fun v55=>(some (.inr (.inl (v35.1,v35.2.1,v35.2.2.1,(lset (lset v35.2.2.2.1 v22.1 (lset v44 v3 (w64 (v41-v35.1)))) x0 (lset v54 v3 (w64 (v51+v35.1)))),v35.2.2.2.2)))))))))))))))))))))))) else (some (.inl ((w64 (v22.1+1)),v35.2)))))))))))))))))) else (some (.inr (.inr v22.2))))
def kaV (rec_box_flow_give_c1_m0:Int->Int->(List (Int×Int×Int))->(List (List Int))->(List (List Int))->(List Int)->(List Bool)->Option (Int×(List (Int×Int×Int))×(List (List Int))×(List (List Int))×(List Int)×(List Bool))) (x0:Int) (x1:Int) (v1:(List Int)) (v2:(Int×(List Bool)×Flow5)):Option ((Int×(List Bool)×Flow5)⊕((Int×(List (Int×Int×Int))×(List (List Int))×(List (List Int))×(List Int)×(List Bool))⊕((List Bool)×(List Int)×(List (List Int))×(List (Int×Int×Int))×(List (List Int))))):=
 (if (decide (v2.1<(lenI v1)))=true then ((gi v1 v2.1).bind fun v3=>((gi v2.2.1 v3).bind fun v4=>((gi v2.2.1 v3).bind fun v5=>(if v5=true then (some (.inl ((w64 (v2.1+1)),v2.2))) else ((gi v2.2.1 v3).bind fun v6=>((gi v2.2.2.2.2.2 v3).bind fun v7=>((gi v2.2.2.2.2.2 v3).bind fun v8=>(if (decide (0<(imin x1 v8)))=true then ((gi v2.2.2.2.2.2 v3).bind fun v9=>((gi v2.2.2.2.2.2 v3).bind fun v10=>((gi v2.2.2.2.2.2 v3).bind fun v11=>((gi v2.2.2.2.2.1 x0).bind fun v12=>((gi v2.2.2.2.2.1 x0).bind fun v13=>((gi v2.2.2.2.2.1 x0).bind fun v14=>((gi v14 v3).bind fun v15=>((gi v2.2.2.2.2.1 x0).bind fun v16=>((gi v16 v3).bind fun v17=>((gi v2.2.2.2.2.1 x0).bind fun v18=>((gi v18 v3).bind fun v19=>((gi v2.2.2.2.2.1 x0).bind fun v20=>((gi v20 v3).bind fun v21=>(some (.inr (.inl ((imin x1 v8),v2.2.2.1,v2.2.2.2.1,(lset v2.2.2.2.2.1 x0 (lset v20 v3 (w64 (v17+(imin x1 v8))))),(lset v2.2.2.2.2.2 v3 (w64 (v10-(imin x1 v8)))),(lset v2.2.1 v3 true)))))))))))))))))) else ((iter (kbg rec_box_flow_give_c1_m0 x0 x1 v2 v3) (0,v2.2.2.1,v2.2.2.2.1,v2.2.2.2.2.1,v2.2.2.2.2.2,(lset v2.2.1 v3 true))).bind fun v56=>(match v56 with | .inl v57=>(some (.inr (.inl v57))) | .inr v58=>(some (.inl ((w64 (v2.1+1)),v58.2.2.2.2,v58.1,v58.2.1,v58.2.2.1,v58.2.2.2.1))))))))))))) else (some (.inr (.inr (v2.2.1,v2.2.2.2.2.2,v2.2.2.2.2.1,v2.2.2.1,v2.2.2.2.1)))))
def kfI (rec_box_flow_give_c1_m0:Int->Int->(List (Int×Int×Int))->(List (List Int))->(List (List Int))->(List Int)->(List Bool)->Option (Int×(List (Int×Int×Int))×(List (List Int))×(List (List Int))×(List Int)×(List Bool))) (x0:Int) (x1:Int) (x2:(List (Int×Int×Int))) (x3:(List (List Int))) (x4:(List (List Int))) (x5:(List Int)) (x6:(List Bool)):Option (Int×(List (Int×Int×Int))×(List (List Int))×(List (List Int))×(List Int)×(List Bool)):=
 ((gi x3 x0).bind fun v0=>((gi x3 x0).bind fun v1=>((iter (kaV rec_box_flow_give_c1_m0 x0 x1 v1) (0,x6,x2,x3,x4,x5)).bind fun v59=>(match v59 with | .inl v60=>(some v60) | .inr v61=>(some (0,v61.2.2.2.1,v61.2.2.2.2,v61.2.2.1,v61.2.1,v61.1))))))
def kba:Nat->Int->Int->(List (Int×Int×Int))->(List (List Int))->(List (List Int))->(List Int)->(List Bool)->Option (Int×(List (Int×Int×Int))×(List (List Int))×(List (List Int))×(List Int)×(List Bool))
 | 0,_,_,_,_,_,_,_=>none
 | k+1,x0,x1,x2,x3,x4,x5,x6=>kfI (kba k) x0 x1 x2 x3 x4 x5 x6
def kea (x0:Int) (x1:Int) (x2:(List (Int×Int×Int))) (x3:(List (List Int))) (x4:(List (List Int))) (x5:(List Int)) (x6:(List Bool)):Option (Int×(List (Int×Int×Int))×(List (List Int))×(List (List Int))×(List Int)×(List Bool)):=kba 1000000 x0 x1 x2 x3 x4 x5 x6
def kcg (x0:Int) (x1:Int) (v0:(Int×(List (Int×Int×Int))×(List (List Int))×(List (List Int))×(List Int)×(List Bool))):Option ((Int×(List (Int×Int×Int))×(List (List Int))×(List (List Int))×(List Int)×(List Bool))⊕(Int×Flow5)):=
 (if (decide (v0.1<x1))=true then ((gmk (lenI v0.2.2.2.2.1) false).bind fun v1=>((kea x0 (w64 (x1-v0.1)) v0.2.1 v0.2.2.1 v0.2.2.2.1 v0.2.2.2.2.1 v1).bind fun v2=>(if (v2.1==0)=true then (some (.inr (v0.1,v2.2.1,v2.2.2.1,v2.2.2.2.1,v2.2.2.2.2.1))) else (some (.inl ((w64 (v0.1+v2.1)),v2.2)))))) else (some (.inr (v0.1,v0.2.1,v0.2.2.1,v0.2.2.2.1,v0.2.2.2.2.1))))
def kdO (x0:Int) (x1:Int) (x2:(List (Int×Int×Int))) (x3:(List (List Int))) (x4:(List (List Int))) (x5:(List Int)):Option (Int×Flow5):=
 ((iter (kcg x0 x1) (0,x2,x3,x4,x5,[])).bind fun v3=>(some v3))
def kco (x0:Int) (x1:Int):Option Bool:=
 ((kcS x0 0 15).bind fun v0=>(if v0=true then (some (decide (x1<=15))) else (some false)))
def kcU (x0:Int) (x1:Int) (x2:Int) (x3:Int):Option Bool:=
 (if (decide (x0<x2))=true then (some true) else (if (x0==x2)=true then (some (decide (x1<x3))) else (some false)))
def keL (x0:(List (Int×Int×Int))) (v0:Int):Option (Int⊕(Bool⊕Unit)):=
 (if (decide (v0<(lenI x0)))=true then ((gi x0 v0).bind fun v1=>((kco v1.1 v1.2.1).bind fun v2=>(if (!v2)=true then (some (.inr (.inl false))) else ((kcS v1.2.2 1 1000).bind fun v3=>(if (!v3)=true then (some (.inr (.inl false))) else (if (decide (0<v0))=true then ((gi x0 (w64 (v0-1))).bind fun v4=>((gi x0 (w64 (v0-1))).bind fun v5=>((kcU v4.1 v5.2.1 v1.1 v1.2.1).bind fun v6=>(if (!v6)=true then (some (.inr (.inl false))) else (some (.inl (w64 (v0+1)))))))) else (some (.inl (w64 (v0+1)))))))))) else (some (.inr (.inr ()))))
def kfi (x0:(List (Int×Int×Int))):Option Bool:=
 (if (decide (30<(lenI x0)))=true then (some false) else ((iter (keL x0) 0).bind fun v7=>(match v7 with | .inl v8=>(some v8) | .inr v9=>(some true))))
def keS (x0:(List Swap)) (v0:Int):Option (Int⊕(Bool⊕Unit)):=
 (if (decide (v0<(lenI x0)))=true then ((gi x0 v0).bind fun v1=>((kco v1.1 v1.2.1).bind fun v2=>(if (!v2)=true then (some (.inr (.inl false))) else ((kco v1.2.2.1 v1.2.2.2).bind fun v3=>(if (!v3)=true then (some (.inr (.inl false))) else (if (v1.1==v1.2.2.1)=true then (if (v1.2.1==v1.2.2.2)=true then (some (.inr (.inl false))) else (some (.inl (w64 (v0+1))))) else (some (.inl (w64 (v0+1)))))))))) else (some (.inr (.inr ()))))
def kiz (x0:(List Swap)):Option Bool:=
 (if (decide (30<(lenI x0)))=true then (some false) else ((iter (keS x0) 0).bind fun v4=>(match v4 with | .inl v5=>(some v5) | .inr v6=>(some true))))
def kdQ (x0:(List Swap)):Option Int:=
 ((kiz x0).bind fun v0=>(if (!v0)=true then (some 2) else (some 0)))
def kgB (x0:(List (Int×Int×Int))) (x1:(List (Int×Int×Int))) (x2:(List Swap)):Option Int:=
 ((kfi x0).bind fun v0=>(if (!v0)=true then (some 8) else ((kfi x1).bind fun v1=>(if (!v1)=true then (some 8) else ((kdQ x2).bind fun v2=>(some v2))))))
def kej (x0:(List (Int×Int×Int))) (v0:Int):Option (Int⊕(Bool⊕Unit)):=
 (if (decide (v0<(lenI x0)))=true then ((gi x0 v0).bind fun v1=>((kco v1.1 v1.2.1).bind fun v2=>(if (!v2)=true then (some (.inr (.inl false))) else ((kcS v1.2.2 0 10000).bind fun v3=>(if (!v3)=true then (some (.inr (.inl false))) else (if (decide (0<v0))=true then ((gi x0 (w64 (v0-1))).bind fun v4=>((gi x0 (w64 (v0-1))).bind fun v5=>((kcU v4.1 v5.2.1 v1.1 v1.2.1).bind fun v6=>(if (!v6)=true then (some (.inr (.inl false))) else (some (.inl (w64 (v0+1)))))))) else (some (.inl (w64 (v0+1)))))))))) else (some (.inr (.inr ()))))
def kfZ (x0:(List (Int×Int×Int))):Option Bool:=
 (if (decide (60<(lenI x0)))=true then (some false) else ((iter (kej x0) 0).bind fun v7=>(match v7 with | .inl v8=>(some v8) | .inr v9=>(some true))))
def kfL (x0:(List Swap)) (x1:Int) (x2:Int) (x3:Int) (x4:Int) (v1:Int):Option (Int⊕(Bool⊕Unit)):=
 (if (decide (v1<(lenI x0)))=true then ((gi x0 v1).bind fun v2=>(if ((v2.1==x1)&&((v2.2.1==x2)&&((v2.2.2.1==x3)&&(v2.2.2.2==x4))))=true then (some (.inr (.inl true))) else (some (.inl (w64 (v1+1)))))) else (some (.inr (.inr ()))))
def kew (x0:(List Swap)) (x1:Int) (x2:Int) (x3:Int) (x4:Int):Option Bool:=
 ((if (x1==x3)=true then (some (x2==x4)) else (some false)).bind fun v0=>(if v0=true then (some true) else ((iter (kfL x0 x1 x2 x3 x4) 0).bind fun v3=>(match v3 with | .inl v4=>(some v4) | .inr v5=>(some false)))))
def kfc (x0:(List Swap)) (x1:(List (Int×Int×Int))) (x2:Int) (x3:Int) (v0:(Int×Int)):Option ((Int×Int)⊕Int):=
 (if (decide (v0.1<(lenI x1)))=true then ((gi x1 v0.1).bind fun v1=>((gi x1 v0.1).bind fun v2=>((kew x0 x2 x3 v1.1 v2.2.1).bind fun v3=>(if v3=true then (if (decide (v0.2<0))=true then (some (.inl ((w64 (v0.1+1)),v0.1))) else ((gi x1 v0.1).bind fun v4=>((gi x1 v0.2).bind fun v5=>(if (decide (v4.2.2<v5.2.2))=true then (some (.inl ((w64 (v0.1+1)),v0.1))) else (some (.inl ((w64 (v0.1+1)),v0.2))))))) else (some (.inl ((w64 (v0.1+1)),v0.2))))))) else (some (.inr v0.2)))
def kbx (x0:(List Swap)) (x1:(List (Int×Int×Int))) (x2:Int) (x3:Int):Option Int:=
 ((iter (kfc x0 x1 x2 x3) (0,(-1))).bind fun v6=>(some v6))
def kfX (x0:(List Swap)) (x1:(List (Int×Int×Int))) (x2:(Int×Int×Int)):Option Int:=
 ((kbx x0 x1 x2.1 x2.2.1).bind fun v0=>(if (decide (v0<0))=true then (some 10001) else ((gi x1 v0).bind fun v1=>(some v1.2.2))))
def kcC (x0:(List (Int×Int×Int))) (x1:(List (Int×Int×Int))) (x2:(List Swap)) (v0:(Int×(List (List Bool))×(List (List Int)))) (v2:(Int×(List Bool))):Option ((Int×(List Bool))⊕(List Bool)):=
 (if (decide (v2.1<(lenI x0)))=true then ((gi x1 v0.1).bind fun v3=>((gi x1 v0.1).bind fun v4=>((gi x0 v2.1).bind fun v5=>((gi x0 v2.1).bind fun v6=>((kew x2 v3.1 v4.2.1 v5.1 v6.2.1).bind fun v7=>((gi v2.2 v2.1).bind fun v8=>(some (.inl ((w64 (v2.1+1)),(lset v2.2 v2.1 v7)))))))))) else (some (.inr v2.2)))
def kdz (x0:(List (Int×Int×Int))) (x1:(List (Int×Int×Int))) (x2:(List Swap)) (v0:(Int×(List (List Bool))×(List (List Int)))):Option ((Int×(List (List Bool))×(List (List Int)))⊕((List (List Bool))×(List (List Int)))):=
 (if (decide (v0.1<(lenI x1)))=true then ((gmk (lenI x0) false).bind fun v1=>((iter (kcC x0 x1 x2 v0) (0,v1)).bind fun v9=>((gapp v0.2.1 [v9]).bind fun v10=>((gmk (lenI x0) 0).bind fun v11=>((gapp v0.2.2 [v11]).bind fun v12=>(some (.inl ((w64 (v0.1+1)),v10,v12)))))))) else (some (.inr v0.2)))
def kcz (x0:(List (Int×Int×Int))) (v14:kcB):Option (kcB⊕(List Int)):=
 (if (decide (v14.1<(lenI x0)))=true then ((gi x0 v14.1).bind fun v15=>((gapp v14.2 [v15.2.2]).bind fun v16=>(some (.inl ((w64 (v14.1+1)),v16))))) else (some (.inr v14.2)))
def keP (x0:(List (Int×Int×Int))) (x1:(List (Int×Int×Int))) (x2:(List Swap)):Option Flow:=
 ((iter (kdz x0 x1 x2) (0,[],[])).bind fun v13=>((iter (kcz x0) (0,[])).bind fun v17=>(some (v13.1,v13.2,v17))))
def kdq (x0:(List (Int×Int×Int))) (x1:(List Swap)) (x2:(List (Int×Int×Int))) (x3:(List Int)) (v1:(Int×kcB)):Option ((Int×kcB)⊕((Bool×Bool×Int×(List (Int×Int×Int)))⊕kcB)):=
 (if (decide (v1.1<(lenI x0)))=true then ((gi x0 v1.1).bind fun v2=>((gi x3 v1.1).bind fun v3=>((gi x0 v1.1).bind fun v4=>((gi x0 v1.1).bind fun v5=>((kbx x1 x2 v4.1 v5.2.1).bind fun v6=>((if (decide (0<(w64 (v2.2.2-v3))))=true then (some (decide (v6<0))) else (some false)).bind fun v7=>(if v7=true then (some (.inr (.inl (true,false,0,[])))) else (if (decide (0<(w64 (v2.2.2-v3))))=true then ((gi v1.2.2 v6).bind fun v8=>((gi v1.2.2 v6).bind fun v9=>((gi v1.2.2 v6).bind fun v10=>((gi x2 v6).bind fun v11=>(some (.inl ((w64 (v1.1+1)),(w64 (v1.2.1+(w64 ((w64 (v2.2.2-v3))*v11.2.2)))),(lset v1.2.2 v6 (w64 (v9+(w64 (v2.2.2-v3)))))))))))) else (some (.inl ((w64 (v1.1+1)),v1.2))))))))))) else (some (.inr (.inr v1.2))))
def kdi (x2:(List (Int×Int×Int))) (v14:kcB) (v15:(Int×Bool×(List (Int×Int×Int)))):Option ((Int×Bool×(List (Int×Int×Int)))⊕(Bool×(List (Int×Int×Int)))):=
 (if (decide (v15.1<(lenI v14.2)))=true then ((if v15.2.1=true then (some true) else ((gi v14.2 v15.1).bind fun v16=>((gi v14.2 v15.1).bind fun v17=>(some (decide (1000<v17)))))).bind fun v18=>((gi v14.2 v15.1).bind fun v19=>((gi v14.2 v15.1).bind fun v20=>(if (decide (0<v20))=true then ((gi x2 v15.1).bind fun v21=>((gi x2 v15.1).bind fun v22=>((gi v14.2 v15.1).bind fun v23=>((gi v14.2 v15.1).bind fun v24=>((gapp v15.2.2 [(v21.1,v22.2.1,v24)]).bind fun v25=>(some (.inl ((w64 (v15.1+1)),v18,v25)))))))) else (some (.inl ((w64 (v15.1+1)),v18,v15.2.2))))))) else (some (.inr v15.2)))
def kei (x0:(List (Int×Int×Int))) (x1:(List Swap)) (x2:(List (Int×Int×Int))) (x3:(List Int)):Option (Bool×Bool×Int×(List (Int×Int×Int))):=
 ((gmk (lenI x2) 0).bind fun v0=>((iter (kdq x0 x1 x2 x3) (0,0,v0)).bind fun v12=>(match v12 with | .inl v13=>(some v13) | .inr v14=>((iter (kdi x2 v14) (0,false,[])).bind fun v26=>(some (false,v26.1,v14.1,v26.2))))))
def kck (rec_ref08_more_m0:Int->(List (List Bool))->(List (List Int))->(List Int)->(List Bool)->Option (Bool×(List Bool)×Flow)) (x0:Int) (v0:(Int×(List (List Bool))×(List (List Int))×(List Int)×(List Bool))) (v22:(Int×(List (List Bool))×(List (List Int))×(List Int)×(List Bool))):Option ((Int×(List (List Bool))×(List (List Int))×(List Int)×(List Bool))⊕((Bool×(List Bool)×Flow)⊕((List (List Bool))×(List (List Int))×(List Int)×(List Bool)))):=
 (if (decide (v22.1<(lenI v22.2.2.1)))=true then ((gi v22.2.2.1 v22.1).bind fun v23=>((gi v22.2.2.1 v22.1).bind fun v24=>((gi v22.2.2.1 v22.1).bind fun v25=>((gi v25 v0.1).bind fun v26=>((gi v22.2.2.1 v22.1).bind fun v27=>((gi v27 v0.1).bind fun v28=>(if (decide (0<v28))=true then ((rec_ref08_more_m0 v22.1 v22.2.1 v22.2.2.1 v22.2.2.2.1 v22.2.2.2.2).bind fun v29=>(if v29.1=true then ((gi v29.2.2.2.1 v22.1).bind fun v30=>((gi v29.2.2.2.1 v22.1).bind fun v31=>((gi v29.2.2.2.1 v22.1).bind fun v32=>((gi v32 v0.1).bind fun v33=>((gi v29.2.2.2.1 v22.1).bind fun v34=>((gi v34 v0.1).bind fun v35=>((gi v29.2.2.2.1 v22.1).bind fun v36=>((gi v36 v0.1).bind fun v37=>((gi v29.2.2.2.1 v22.1).bind fun v38=>((gi v38 v0.1).bind fun v39=>((gi (lset v29.2.2.2.1 v22.1 (lset v38 v0.1 (w64 (v35-1)))) x0).bind fun v40=>((gi (lset v29.2.2.2.1 v22.1 (lset v38 v0.1 (w64 (v35-1)))) x0).bind fun v41=>((gi (lset v29.2.2.2.1 v22.1 (lset v38 v0.1 (w64 (v35-1)))) x0).bind fun v42=>((gi v42 v0.1).bind fun v43=>((gi (lset v29.2.2.2.1 v22.1 (lset v38 v0.1 (w64 (v35-1)))) x0).bind fun v44=>((gi v44 v0.1).bind fun v45=>((gi (lset v29.2.2.2.1 v22.1 (lset v38 v0.1 (w64 (v35-1)))) x0).bind fun v46=>((gi v46 v0.1).bind fun v47=>((gi (lset v29.2.2.2.1 v22.1 (lset v38 v0.1 (w64 (v35-1)))) x0).bind fun v48=>((gi v48 v0.1).bind fun v49=>(some (.inr (.inl (true,v29.2.1,v29.2.2.1,(lset (lset v29.2.2.2.1 v22.1 (lset v38 v0.1 (w64 (v35-1)))) x0 (lset v48 v0.1 (w64 (v45+1)))),v29.2.2.2.2)))))))))))))))))))))))) else (some (.inl ((w64 (v22.1+1)),v29.2.2.1,v29.2.2.2.1,v29.2.2.2.2,v29.2.1))))) else (some (.inl ((w64 (v22.1+1)),v22.2)))))))))) else (some (.inr (.inr v22.2))))
def kbp (rec_ref08_more_m0:Int->(List (List Bool))->(List (List Int))->(List Int)->(List Bool)->Option (Bool×(List Bool)×Flow)) (x0:Int) (v0:(Int×(List (List Bool))×(List (List Int))×(List Int)×(List Bool))):Option ((Int×(List (List Bool))×(List (List Int))×(List Int)×(List Bool))⊕((Bool×(List Bool)×Flow)⊕((List Bool)×(List Int)×(List (List Bool))×(List (List Int))))):=
 (if (decide (v0.1<(lenI v0.2.2.2.1)))=true then ((gi v0.2.1 x0).bind fun v1=>((gi v0.2.1 x0).bind fun v2=>((gi v2 v0.1).bind fun v3=>(if (!v3)=true then (some (.inl ((w64 (v0.1+1)),v0.2))) else ((gi v0.2.2.2.2 v0.1).bind fun v4=>((gi v0.2.2.2.2 v0.1).bind fun v5=>(if v5=true then (some (.inl ((w64 (v0.1+1)),v0.2))) else ((gi v0.2.2.2.2 v0.1).bind fun v6=>((gi v0.2.2.2.1 v0.1).bind fun v7=>((gi v0.2.2.2.1 v0.1).bind fun v8=>(if (decide (0<v8))=true then ((gi v0.2.2.2.1 v0.1).bind fun v9=>((gi v0.2.2.2.1 v0.1).bind fun v10=>((gi v0.2.2.2.1 v0.1).bind fun v11=>((gi v0.2.2.1 x0).bind fun v12=>((gi v0.2.2.1 x0).bind fun v13=>((gi v0.2.2.1 x0).bind fun v14=>((gi v14 v0.1).bind fun v15=>((gi v0.2.2.1 x0).bind fun v16=>((gi v16 v0.1).bind fun v17=>((gi v0.2.2.1 x0).bind fun v18=>((gi v18 v0.1).bind fun v19=>((gi v0.2.2.1 x0).bind fun v20=>((gi v20 v0.1).bind fun v21=>(some (.inr (.inl (true,(lset v0.2.2.2.2 v0.1 true),v0.2.1,(lset v0.2.2.1 x0 (lset v20 v0.1 (w64 (v17+1)))),(lset v0.2.2.2.1 v0.1 (w64 (v10-1)))))))))))))))))))) else ((iter (kck rec_ref08_more_m0 x0 v0) (0,v0.2.1,v0.2.2.1,v0.2.2.2.1,(lset v0.2.2.2.2 v0.1 true))).bind fun v50=>(match v50 with | .inl v51=>(some (.inr (.inl v51))) | .inr v52=>(some (.inl ((w64 (v0.1+1)),v52)))))))))))))))) else (some (.inr (.inr (v0.2.2.2.2,v0.2.2.2.1,v0.2.1,v0.2.2.1)))))
def kil (rec_ref08_more_m0:Int->(List (List Bool))->(List (List Int))->(List Int)->(List Bool)->Option (Bool×(List Bool)×Flow)) (x0:Int) (x1:(List (List Bool))) (x2:(List (List Int))) (x3:(List Int)) (x4:(List Bool)):Option (Bool×(List Bool)×Flow):=
 ((iter (kbp rec_ref08_more_m0 x0) (0,x1,x2,x3,x4)).bind fun v53=>(match v53 with | .inl v54=>(some v54) | .inr v55=>(some (false,v55.1,v55.2.2.1,v55.2.2.2,v55.2.1))))
def kbW:Nat->Int->(List (List Bool))->(List (List Int))->(List Int)->(List Bool)->Option (Bool×(List Bool)×Flow)
 | 0,_,_,_,_,_=>none
 | k+1,x0,x1,x2,x3,x4=>kil (kbW k) x0 x1 x2 x3 x4
def kgX (x0:Int) (x1:(List (List Bool))) (x2:(List (List Int))) (x3:(List Int)) (x4:(List Bool)):Option (Bool×(List Bool)×Flow):=kbW 1000000 x0 x1 x2 x3 x4
def kdp (x0:Int) (x1:Int) (v0:(Int×Flow)):Option ((Int×Flow)⊕(Int×(List (List Int))×(List (List Bool))×(List Int))):=
 (if (decide (v0.1<x1))=true then ((gmk (lenI v0.2.2.2) false).bind fun v1=>((kgX x0 v0.2.1 v0.2.2.1 v0.2.2.2 v1).bind fun v2=>(if v2.1=true then (some (.inl ((w64 (v0.1+1)),v2.2.2))) else (some (.inr (v0.1,v2.2.2.2.1,v2.2.2.1,v2.2.2.2.2)))))) else (some (.inr (v0.1,v0.2.2.1,v0.2.1,v0.2.2.2))))
def kez (x0:Int) (x1:Int) (x2:(List (List Bool))) (x3:(List (List Int))) (x4:(List Int)):Option (Int×Flow):=
 ((iter (kdp x0 x1) (0,x2,x3,x4)).bind fun v3=>(some (v3.1,v3.2.2.1,v3.2.1,v3.2.2.2)))
def kdA (x0:(List Int)) (x1:(List Int)) (v0:Int):Option (Int⊕(Bool⊕Unit)):=
 (if (decide (v0<(lenI x0)))=true then ((gi x0 v0).bind fun v1=>((gi x1 v0).bind fun v2=>(if (v1 != v2)=true then (some (.inr (.inl false))) else (some (.inl (w64 (v0+1))))))) else (some (.inr (.inr ()))))
def keJ (x0:(List Int)) (x1:(List Int)):Option Bool:=
 (if ((lenI x0) != (lenI x1))=true then (some false) else ((iter (kdA x0 x1) 0).bind fun v3=>(match v3 with | .inl v4=>(some v4) | .inr v5=>(some true))))
def kdl (x0:(List (Int×Int×Int))) (x1:(List (Int×Int×Int))) (v0:Int):Option (Int⊕(Bool⊕Unit)):=
 (if (decide (v0<(lenI x0)))=true then ((gi x0 v0).bind fun v1=>((gi x1 v0).bind fun v2=>(if (!((v1.1==v2.1)&&((v1.2.1==v2.2.1)&&(v1.2.2==v2.2.2))))=true then (some (.inr (.inl false))) else (some (.inl (w64 (v0+1))))))) else (some (.inr (.inr ()))))
def kcu (x0:(List (Int×Int×Int))) (x1:(List (Int×Int×Int))):Option Bool:=
 (if ((lenI x0) != (lenI x1))=true then (some false) else ((iter (kdl x0 x1) 0).bind fun v3=>(match v3 with | .inl v4=>(some v4) | .inr v5=>(some true))))
def kpH (x3:(List (Int×Int×Int))) (v3:(Int×(List ((Int×Int)×Int)))):Option ((Int×(List ((Int×Int)×Int)))⊕(List ((Int×Int)×Int))):=
 (if (decide (v3.1<(lenI x3)))=true then ((gi x3 v3.1).bind fun v4=>((kbD v4).bind fun v5=>(some (.inl ((w64 (v3.1+1)),(mput v3.2 v5 v4.2.2)))))) else (some (.inr v3.2)))
def kpF (x1:(List (Int×Int×Int))) (x2:(List Swap)) (v7:(Int×(List ((Int×Int)×Int))×(List Line))):Option ((Int×(List ((Int×Int)×Int))×(List Line))⊕(List Line)):=
 (if (decide (v7.1<(lenI x1)))=true then ((gi x1 v7.1).bind fun v8=>((kbH v8).bind fun v9=>((kcs x2 v9 v7.2.1).bind fun v10=>((gapp v7.2.2 [(v7.1,v10.1,v8.2.2,(v10.2.1,v10.2.2.1),v10.2.2.2.1)]).bind fun v11=>(some (.inl ((w64 (v7.1+1)),v10.2.2.2.2,v11))))))) else (some (.inr v7.2.2)))
def kpI (v13:(List Line)) (v15:Int):Option (Int⊕((Int×Int×(List Int)×(List (Int×Int×Int)))⊕Unit)):=
 (if (decide (v15<(lenI v13)))=true then ((gi v13 v15).bind fun v16=>((gi v13 v15).bind fun v17=>none)) else (some (.inr (.inr ()))))
def kpu (x3:(List (Int×Int×Int))) (v21:(Int×Int×Int×(List (Int×Int×Int)))):Option ((Int×Int×Int×(List (Int×Int×Int)))⊕((Int×Int×(List Int)×(List (Int×Int×Int)))⊕(Int×(List (Int×Int×Int))×Int))):=
 (if (decide (v21.1<(lenI x3)))=true then ((gi x3 v21.1).bind fun v22=>((kbD v22).bind fun v23=>(if (decide (1000<((mget [] v23).getD 0)))=true then (some (.inr (.inl (0,4,[],[])))) else (if (decide (0<((mget [] v23).getD 0)))=true then ((gapp v21.2.2.2 [(v22.1,v22.2.1,((mget [] v23).getD 0))]).bind fun v24=>(some (.inl ((w64 (v21.1+1)),v21.2.1,v21.2.2.1,v24)))) else (some (.inl ((w64 (v21.1+1)),v21.2))))))) else (some (.inr (.inr (v21.2.2.1,v21.2.2.2,v21.2.1)))))
def kfu (x3:(List (Int×Int×Int))) (v31:(Int×(List ((Int×Int)×Int)))):Option ((Int×(List ((Int×Int)×Int)))⊕(List ((Int×Int)×Int))):=
 (if (decide (v31.1<(lenI x3)))=true then ((gi x3 v31.1).bind fun v32=>((kbD v32).bind fun v33=>(some (.inl ((w64 (v31.1+1)),(mput v31.2 v33 v32.2.2)))))) else (some (.inr v31.2)))
def kfp (x1:(List (Int×Int×Int))) (x2:(List Swap)) (v35:(Int×(List ((Int×Int)×Int))×(List Line))):Option ((Int×(List ((Int×Int)×Int))×(List Line))⊕(List Line)):=
 (if (decide (v35.1<(lenI x1)))=true then ((gi x1 v35.1).bind fun v36=>((kbH v36).bind fun v37=>((kcs x2 v37 v35.2.1).bind fun v38=>((gapp v35.2.2 [(v35.1,v38.1,v36.2.2,(v38.2.1,v38.2.2.1),v38.2.2.2.1)]).bind fun v39=>(some (.inl ((w64 (v35.1+1)),v38.2.2.2.2,v39))))))) else (some (.inr v35.2.2)))
def kfw (v41:(List Line)) (v43:(Int×(List (Int×Int×Int))×(List (List Int))×(List (List Int))×(List Int)×Int×(List Int)×Int×(List ((Int×Int)×Int)))):Option ((Int×(List (Int×Int×Int))×(List (List Int))×(List (List Int))×(List Int)×Int×(List Int)×Int×(List ((Int×Int)×Int)))⊕((Int×Int×(List Int)×(List (Int×Int×Int)))⊕((List ((Int×Int)×Int))×Int×kcB))):=
 (if (decide (v43.1<(lenI v41)))=true then ((gi v41 v43.1).bind fun v44=>((gi v41 v43.1).bind fun v45=>((kdO v45.1 v45.2.2.1 v43.2.1 v43.2.2.1 v43.2.2.2.1 v43.2.2.2.2.1).bind fun v46=>((gi v43.2.2.2.2.2.2.1 v45.1).bind fun v47=>((if (decide (v46.1<v45.2.2.1))=true then (some (!v45.2.2.2.2)) else (some false)).bind fun v48=>(if v48=true then (some (.inr (.inl (0,80,[],[])))) else (bthO (.sm (.pr (.i .i64) (.pr (.sl (.pr (.i .i64) (.pr (.i .u8) (.i .i64)))) (.pr (.sl (.sl (.i .i64))) (.pr (.sl (.sl (.i .i64))) (.pr (.sl (.i .i64)) (.pr (.i .i64) (.pr (.sl (.i .i64)) (.pr (.i .i64) (.sl (.pr (.pr (.i .i64) (.i .u8)) (.i .i64))))))))))) (.sm (.pr (.i .i64) (.pr (.i .i64) (.pr (.sl (.i .i64)) (.sl (.pr (.i .i64) (.pr (.i .u8) (.i .i64))))))) (.pr (.sl (.pr (.pr (.i .i64) (.i .u8)) (.i .i64))) (.pr (.i .i64) kwd)))) ((gi (ment v43.2.2.2.2.2.2.2.2 v45.2.2.2.1 0) (midx v43.2.2.2.2.2.2.2.2 v45.2.2.2.1)).bind fun v49=>(some (.inl ((w64 (v43.1+1)),v46.2.1,v46.2.2.1,v46.2.2.2.1,v46.2.2.2.2,(w64 (v43.2.2.2.2.2.1+(w64 ((w64 (v45.2.2.1-v46.1))*v45.2.1)))),(lset v43.2.2.2.2.2.2.1 v45.1 v46.1),v43.2.2.2.2.2.2.2.1,(mset (ment v43.2.2.2.2.2.2.2.2 v45.2.2.2.1 0) (midx v43.2.2.2.2.2.2.2.2 v45.2.2.2.1) (w64 (((mget v43.2.2.2.2.2.2.2.2 v45.2.2.2.1).getD 0)+(w64 (v45.2.2.1-v46.1))))))))) ((gi (ment v43.2.2.2.2.2.2.2.2 v45.2.2.2.1 0) (midx v43.2.2.2.2.2.2.2.2 v45.2.2.2.1)).bind fun v50=>(some (.inl ((w64 (v43.1+1)),v46.2.1,v46.2.2.1,v46.2.2.2.1,v46.2.2.2.2,(w64 (v43.2.2.2.2.2.1+(w64 ((w64 (v45.2.2.1-v46.1))*v45.2.1)))),(lset v43.2.2.2.2.2.2.1 v45.1 v46.1),v43.2.2.2.2.2.2.2.1,(mset (ment v43.2.2.2.2.2.2.2.2 v45.2.2.2.1 0) (midx v43.2.2.2.2.2.2.2.2 v45.2.2.2.1) (w64 (((mget (ment v43.2.2.2.2.2.2.2.2 v45.2.2.2.1 0) v45.2.2.2.1).getD 0)+(w64 (v45.2.2.1-v46.1)))))))))))))))) else (some (.inr (.inr (v43.2.2.2.2.2.2.2.2,v43.2.2.2.2.2.2.2.1,v43.2.2.2.2.2.1,v43.2.2.2.2.2.2.1)))))
def kfr (x3:(List (Int×Int×Int))) (v53:((List ((Int×Int)×Int))×Int×kcB)) (v54:(Int×Int×Int×(List (Int×Int×Int)))):Option ((Int×Int×Int×(List (Int×Int×Int)))⊕((Int×Int×(List Int)×(List (Int×Int×Int)))⊕(Int×(List (Int×Int×Int))×Int))):=
 (if (decide (v54.1<(lenI x3)))=true then ((gi x3 v54.1).bind fun v55=>((kbD v55).bind fun v56=>(if (decide (1000<((mget v53.1 v56).getD 0)))=true then (some (.inr (.inl (0,4,[],[])))) else (if (decide (0<((mget v53.1 v56).getD 0)))=true then ((gapp v54.2.2.2 [(v55.1,v55.2.1,((mget v53.1 v56).getD 0))]).bind fun v57=>(some (.inl ((w64 (v54.1+1)),v54.2.1,v54.2.2.1,v57)))) else (some (.inl ((w64 (v54.1+1)),v54.2))))))) else (some (.inr (.inr (v54.2.2.1,v54.2.2.2,v54.2.1)))))
def khm (x0:(List (Int×Int×Int))) (x1:(List (Int×Int×Int))) (x2:(List Swap)) (x3:(List (Int×Int×Int))):Option (Int×Int×(List Int)×(List (Int×Int×Int))):=
 (elsO ((keO x0 x1 x2).bind fun v0=>(if (v0 != 0)=true then (some (0,v0,[],[])) else ((kbQ x3 60 (fun (u0:(Int×Int×Int))=>((kbD u0).bind fun u1=>(some u1)))).bind fun v1=>(if (!v1)=true then (some (0,2,[],[])) else ((kas x3 (fun (u0:(Int×Int×Int))=>((kgc u0).bind fun u1=>(some u1)))).bind fun v2=>(if v2=true then (some (0,2,[],[])) else ((iter (kpH x3) (0,[])).bind fun v6=>((iter (kpF x1 x2) (0,v6,[])).bind fun v12=>((kaq (fun (u0:(Line×Line))=>((kcF u0.1 u0.2).bind fun u1=>(some u1))) v12).bind fun v13=>((gmk (lenI x1) 0).bind fun v14=>((iter (kpI v13) 0).bind fun v18=>(match v18 with | .inl v19=>(some v19) | .inr v20=>((iter (kpu x3) (0,0,0,[])).bind fun v25=>(match v25 with | .inl v26=>(some v26) | .inr v27=>(some (v27.1,0,v14,v27.2.1)))))))))))))))) ((keQ x0 x1 x2).bind fun v28=>(if (v28.1 != 0)=true then (some (0,v28.1,[],[])) else ((kbQ x3 60 (fun (u0:(Int×Int×Int))=>((kbD u0).bind fun u1=>(some u1)))).bind fun v29=>(if (!v29)=true then (some (0,2,[],[])) else ((kas x3 (fun (u0:(Int×Int×Int))=>((kgc u0).bind fun u1=>(some u1)))).bind fun v30=>(if v30=true then (some (0,2,[],[])) else ((iter (kfu x3) (0,[])).bind fun v34=>((iter (kfp x1 x2) (0,v34,[])).bind fun v40=>((kaq (fun (u0:(Line×Line))=>((kcF u0.1 u0.2).bind fun u1=>(some u1))) v40).bind fun v41=>((gmk (lenI x1) 0).bind fun v42=>((iter (kfw v41) (0,v28.2.1,v28.2.2.1,v28.2.2.2.1,v28.2.2.2.2,0,v42,0,[])).bind fun v51=>(match v51 with | .inl v52=>(some v52) | .inr v53=>((iter (kfr x3 v53) (0,v53.2.1,v53.2.2.1,[])).bind fun v58=>(match v58 with | .inl v59=>(some v59) | .inr v60=>(some (v60.1,0,v53.2.2.2,v60.2.1)))))))))))))))))
def kdn (x1:(List (Int×Int×Int))) (x2:(List Swap)) (x3:(List (Int×Int×Int))) (v5:kcB):Option (kcB⊕(List Int)):=
 (if (decide (v5.1<(lenI x1)))=true then ((gi x1 v5.1).bind fun v6=>((kfX x2 x3 v6).bind fun v7=>((gi v5.2 v5.1).bind fun v8=>(some (.inl ((w64 (v5.1+1)),(lset v5.2 v5.1 v7))))))) else (some (.inr v5.2)))
def kef (x1:(List (Int×Int×Int))) (v9:(List Int)) (v10:(Int×(List Int)×Flow)) (v11:(Int×(List Int)×Flow)):Option ((Int×(List Int)×Flow)⊕((List Int)×Flow)):=
 (if (decide (v11.1<(lenI x1)))=true then ((gi v9 v11.1).bind fun v12=>((gi v9 v11.1).bind fun v13=>(if (v13==v10.1)=true then ((gi x1 v11.1).bind fun v14=>((kez v11.1 v14.2.2 v11.2.2.1 v11.2.2.2.1 v11.2.2.2.2).bind fun v15=>((gi v11.2.1 v11.1).bind fun v16=>(some (.inl ((w64 (v11.1+1)),(lset v11.2.1 v11.1 v15.1),v15.2)))))) else (some (.inl ((w64 (v11.1+1)),v11.2)))))) else (some (.inr v11.2)))
def kdr (x1:(List (Int×Int×Int))) (v9:(List Int)) (v10:(Int×(List Int)×Flow)):Option ((Int×(List Int)×Flow)⊕(List Int)):=
 (if (decide (0<=v10.1))=true then ((iter (kef x1 v9 v10) (0,v10.2)).bind fun v17=>(some (.inl ((w64 (v10.1-1)),v17)))) else (some (.inr v10.2.1)))
def kii (x1:(List (Int×Int×Int))) (x2:(List Swap)) (x3:(List (Int×Int×Int))) (v22:kcB):Option (kcB⊕(List Int)):=
 (if (decide (v22.1<(lenI x1)))=true then ((gi x1 v22.1).bind fun v23=>((kfX x2 x3 v23).bind fun v24=>((gi v22.2 v22.1).bind fun v25=>(some (.inl ((w64 (v22.1+1)),(lset v22.2 v22.1 v24))))))) else (some (.inr v22.2)))
def kmX (x1:(List (Int×Int×Int))) (v26:(List Int)) (v27:(Int×(List Int)×Flow)) (v28:(Int×(List Int)×Flow)):Option ((Int×(List Int)×Flow)⊕((List Int)×Flow)):=
 (if (decide (v28.1<(lenI x1)))=true then ((gi v26 v28.1).bind fun v29=>((gi v26 v28.1).bind fun v30=>(if (v30==v27.1)=true then ((gi x1 v28.1).bind fun v31=>((kez v28.1 v31.2.2 v28.2.2.1 v28.2.2.2.1 v28.2.2.2.2).bind fun v32=>((gi v28.2.1 v28.1).bind fun v33=>(some (.inl ((w64 (v28.1+1)),(lset v28.2.1 v28.1 v32.1),v32.2)))))) else (some (.inl ((w64 (v28.1+1)),v28.2)))))) else (some (.inr v28.2)))
def kih (x1:(List (Int×Int×Int))) (v26:(List Int)) (v27:(Int×(List Int)×Flow)):Option ((Int×(List Int)×Flow)⊕(List Int)):=
 (if (decide (0<=v27.1))=true then ((iter (kmX x1 v26 v27) (0,v27.2)).bind fun v34=>(some (.inl ((w64 (v27.1-1)),v34)))) else (some (.inr v27.2.1)))
def kge (x0:(List (Int×Int×Int))) (x1:(List (Int×Int×Int))) (x2:(List Swap)) (x3:(List (Int×Int×Int))):Option (Int×Int×(List Int)×(List (Int×Int×Int))):=
 ((kgB x0 x1 x2).bind fun v0=>(if (v0 != 0)=true then (some (0,v0,[],[])) else ((kfZ x3).bind fun v1=>(if (!v1)=true then (some (0,2,[],[])) else ((keP x0 x1 x2).bind fun v2=>(bthO (.pr (.i .i64) (.pr (.i .i64) (.pr (.sl (.i .i64)) (.sl (.pr (.i .i64) (.pr (.i .u8) (.i .i64))))))) ((gmk (lenI x1) 0).bind fun v3=>((gmk (lenI x1) 0).bind fun v4=>((iter (kdn x1 x2 x3) (0,v4)).bind fun v9=>((iter (kdr x1 v9) (10001,v3,v2)).bind fun v18=>((kei x1 x2 x3 v18).bind fun v19=>(if v19.1=true then (some (0,80,[],[])) else (if v19.2.1=true then (some (0,4,[],[])) else (some (v19.2.2.1,0,v18,v19.2.2.2))))))))) ((gmk (lenI x1) 0).bind fun v20=>((gmk (lenI x1) 0).bind fun v21=>((iter (kii x1 x2 x3) (0,v20)).bind fun v26=>((iter (kih x1 v26) (10001,v21,v2)).bind fun v35=>((kei x1 x2 x3 v35).bind fun v36=>(if v36.1=true then (some (0,80,[],[])) else (if v36.2.1=true then (some (0,4,[],[])) else (some (v36.2.2.1,0,v35,v36.2.2.2)))))))))))))))
def kfb (x0:(List (Int×Int×Int))) (v0:(Int×(List (Int×Int×Int)))):Option ((Int×(List (Int×Int×Int)))⊕(List (Int×Int×Int))):=
 (if (decide (v0.1<(lenI x0)))=true then ((gi v0.2 v0.1).bind fun v1=>((gi v0.2 v0.1).bind fun v2=>(some (.inl ((w64 (v0.1+1)),(lset v0.2 v0.1 (v2.1,v2.2.1,(-7)))))))) else (some (.inr v0.2)))
def keN (x0:(List (Int×Int×Int))):Option (List (Int×Int×Int)):=
 ((iter (kfb x0) (0,x0)).bind fun v3=>(some v3))
def kgm (x0:(List (Int×Int×Int))) (x1:(List (Int×Int×Int))) (x2:(List Swap)) (x3:(List (Int×Int×Int))):Option Bool:=
 ((khh [x0,x1]).bind fun v0=>(if v0=true then (some true) else (if (decide (40<(lenI x2)))=true then (some true) else (if (decide (80<(lenI x3)))=true then (some true) else ((gapp [] x0).bind fun v1=>((gapp [] x1).bind fun v2=>((khm v1 v2 x2 x3).bind fun v3=>((kge x0 x1 x2 x3).bind fun v4=>(((keJ v3.2.2.1 v4.2.2.1).bind fun v5=>(if v5=true then ((kcu v3.2.2.2 v4.2.2.2).bind fun v6=>(if v6=true then (if (v3.1==v4.1)=true then (some (v3.2.1==v4.2.1)) else (some false)) else (some false))) else (some false))).bind fun v7=>((keN v3.2.2.2).bind fun v8=>(if v7=true then ((kcu v1 x0).bind fun v9=>(if v9=true then ((kcu v2 x1).bind fun v10=>(some v10)) else (some false))) else (some false))))))))))))
end Go.Abs
set_option maxRecDepth 100000
namespace Go.Abs
open Go Go.Proofs
def kdU:Ctr:=⟨ "",[],[],fun _=>none,[],[]⟩
theorem kcr {g:FuncId}:Good Try.prog g kdU:=good_dm
def kdD:Ctr:=⟨ "",[(.i .i64),(.i .i64),(.i .i64)],[.b],fun x=>kcS x.1 x.2.1 x.2.2,[],[]⟩
theorem kdy:Good Try.prog 78 kdD:=
 kal Try.func78 (by kernel_rfl) (An:=[]) [] (.nil) (fun x=>by kernel_rfl)
def kkD:Ctr:=⟨ "",[(.sl (.pr (.i .i64) (.pr (.i .u8) (.i .i64))))],[.b],fun x=>kfO x,[],[]⟩
theorem kny:Good Try.prog 28 kkD:=
 kal Try.func28 (by kernel_rfl) (An:=[(0,⟨⟨[(4,.c (.i .i64)),(3,.c (.i .i64))],[]⟩,⟨[(3,.c (.i .i64))],[]⟩,[0],[],0,false,""⟩)]) [(78,kdD)] (.cons kdy <| .nil) (fun x=>by kernel_rfl)
def kla:Ctr:=⟨ "",[(.sl (.sl (.pr (.i .i64) (.pr (.i .u8) (.i .i64)))))],[.b],fun x=>khh x,[],[]⟩
theorem knC:Good Try.prog 7 kla:=
 kal Try.func7 (by kernel_rfl) (An:=[(0,⟨⟨[(7,.c (.i .i64))],[]⟩,⟨[],[]⟩,[6,5],[],0,true,""⟩)]) [(28,kkD)] (.cons kny <| .nil) (fun x=>by kernel_rfl)
def khl:Ctr:=⟨ "",[(.i .i64),(.i .i64),(.i .i64)],[.b],fun x=>kgq x.1 x.2.1 x.2.2,[],[]⟩
theorem kgT:Good Try.prog 36 khl:=
 kal Try.func36 (by kernel_rfl) (An:=[]) [] (.nil) (fun x=>by kernel_rfl)
def kje:Ctr:=⟨ "",[(.pr (.i .i64) (.pr (.i .u8) (.i .i64)))],[.b],fun x=>kfQ x,[],[]⟩
theorem klM:Good Try.prog 110 kje:=
 kal Try.func110 (by kernel_rfl) (An:=[]) [(36,khl)] (.cons kgT <| .nil) (fun x=>by kernel_rfl)
def kdN:Ctr:=⟨ "",[(.pr (.i .i64) (.i .u8))],[.b],fun x=>kbN x,[],[]⟩
theorem keb:Good Try.prog 42 kdN:=
 kal Try.func42 (by kernel_rfl) (An:=[]) [(36,khl)] (.cons kgT <| .nil) (fun x=>by kernel_rfl)
def kin:Ctr:=⟨ "",[(.i .i64)],[.b],fun x=>kfs x,[],[]⟩
theorem klo:Good Try.prog 85 kin:=
 kal Try.func85 (by kernel_rfl) (An:=[]) [] (.nil) (fun x=>by kernel_rfl)
def khb:Ctr:=⟨ "",[(.i .i64),(.i .i64)],[(.i .i64)],fun x=>kee x.1 x.2,[],[]⟩
theorem kjr:Good Try.prog 39 khb:=
 kal Try.func39 (by kernel_rfl) (An:=[]) [(85,kin)] (.cons klo <| .nil) (fun x=>by kernel_rfl)
def kha:Ctr:=⟨ "",[(.i .u8)],[.b],fun x=>ked x,[],[]⟩
theorem kjD:Good Try.prog 116 kha:=
 kal Try.func116 (by kernel_rfl) (An:=[]) [] (.nil) (fun x=>by kernel_rfl)
def kgj:Ctr:=⟨ "",[(.i .u8),(.i .u8)],[(.i .i64)],fun x=>kdB x.1 x.2,[],[]⟩
theorem kiL:Good Try.prog 97 kgj:=
 kal Try.func97 (by kernel_rfl) (An:=[]) [(116,kha)] (.cons kjD <| .nil) (fun x=>by kernel_rfl)
def kkN:Ctr:=⟨ "",[(.sl (.i .i64))],[(.i .i64)],fun x=>khg x,[],[]⟩
theorem knz:Good Try.prog 38 kkN:=
 kal Try.func38 (by kernel_rfl) (An:=[(0,⟨⟨[(8,.c (.i .i64))],[]⟩,⟨[],[]⟩,[7,6,3],[],0,true,""⟩)]) [] (.nil) (fun x=>by kernel_rfl)
def kgE:Ctr:=⟨ "",[(.pr (.i .i64) (.i .u8)),(.pr (.i .i64) (.i .u8))],[(.i .i64)],fun x=>keC x.1 x.2,[],[]⟩
theorem kgy:Good Try.prog 98 kgE:=
 kal Try.func98 (by kernel_rfl) (An:=[]) [(38,kkN),(97,kgj),(39,khb)] (.cons knz <| .cons kiL <| .cons kjr <| .nil) (fun x=>by kernel_rfl)
def kff:Ctr:=⟨ "",[(.sl (.pr (.i .i64) (.pr (.i .u8) (.i .i64)))),(.i .i64),(.fn 1 (.pr (.i .i64) (.pr (.i .u8) (.i .i64))) (.pr (.i .i64) (.i .u8)))],[.b],fun x=>kcI x.1 x.2.1 x.2.2,[],[]⟩
theorem khf:Good Try.prog 111 kff:=
 kal Try.func111 (by kernel_rfl) (An:=[(0,⟨⟨[(11,.c (.i .i64))],[]⟩,⟨[],[]⟩,[10,9,2,0,1],[],0,true,""⟩)]) [(98,kgE),(42,kdN)] (.cons kgy <| .cons keb <| .nil) (fun x=>by kernel_rfl)
def keq:Ctr:=⟨ "",[(.pr (.i .i64) (.pr (.i .u8) (.i .i64)))],[(.pr (.i .i64) (.i .u8))],fun x=>kbH x,[],[]⟩
theorem keh:Good Try.prog 62 keq:=
 kal Try.func62 (by kernel_rfl) (An:=[]) [] (.nil) (fun x=>by kernel_rfl)
def kce:Ctr:=⟨ "",[(.sl (.pr (.i .i64) (.pr (.i .u8) (.i .i64)))),(.fn 1 (.pr (.i .i64) (.pr (.i .u8) (.i .i64))) .b)],[(.i .i64)],fun x=>kbm x.1 x.2,[],[]⟩
theorem kdG:Good Try.prog 126 kce:=
 kal Try.func126 (by kernel_rfl) (An:=[(0,⟨⟨[(8,.c (.i .i64))],[]⟩,⟨[],[]⟩,[7,1,0],[],0,true,""⟩)]) [] (.nil) (fun x=>by kernel_rfl)
def kbS:Ctr:=⟨ "",[(.sl (.pr (.i .i64) (.pr (.i .u8) (.i .i64)))),(.fn 1 (.pr (.i .i64) (.pr (.i .u8) (.i .i64))) .b)],[.b],fun x=>kaH x.1 x.2,[],[]⟩
theorem kdt:Good Try.prog 112 kbS:=
 kal Try.func112 (by kernel_rfl) (An:=[]) [(126,kce)] (.cons kdG <| .nil) (fun x=>by kernel_rfl)
def klR:Ctr:=⟨ "",[(.sl (.pr (.i .i64) (.pr (.i .u8) (.i .i64))))],[(.i .i64)],fun x=>kir x,[],[]⟩
theorem koA:Good Try.prog 88 klR:=
 kal Try.func88 (by kernel_rfl) (An:=[]) [(112,kbS),(62,keq),(111,kff),(110,kje)] (.cons kdt <| .cons keh <| .cons khf <| .cons klM <| .nil) (fun x=>by kernel_rfl)
def kgW:Ctr:=⟨ "",[(.sl (.sl (.pr (.i .i64) (.pr (.i .u8) (.i .i64)))))],[(.i .i64)],fun x=>kfl x,[],[]⟩
theorem kid:Good Try.prog 45 kgW:=
 kal Try.func45 (by kernel_rfl) (An:=[(0,⟨⟨[(8,.c (.i .i64))],[]⟩,⟨[],[]⟩,[7,6],[],0,true,""⟩)]) [(88,klR)] (.cons koA <| .nil) (fun x=>by kernel_rfl)
def kgh:Ctr:=⟨ "",[tSwap],[.b],fun x=>kcx x,[],[]⟩
theorem kiy:Good Try.prog 41 kgh:=
 kal Try.func41 (by kernel_rfl) (An:=[(6,⟨⟨[],[]⟩,⟨[(3,.ptr 1 0),(4,.ptr 2 0)],[(1,.bx 102 [.c (.i .i64),.c (.i .u8)]),(2,.bx 102 [.c (.i .i64),.c (.i .u8)])]⟩,[1],[0],3,false,""⟩)]) [(42,kdN)] (.cons keb <| .nil) (fun x=>by kernel_rfl)
def kch:Ctr:=⟨ "",[(.sl tSwap),(.fn 1 tSwap .b)],[(.i .i64)],fun x=>kbo x.1 x.2,[],[]⟩
theorem kdH:Good Try.prog 86 kch:=
 kal Try.func86 (by kernel_rfl) (An:=[(0,⟨⟨[(8,.c (.i .i64))],[]⟩,⟨[],[]⟩,[7,1,0],[],0,true,""⟩)]) [] (.nil) (fun x=>by kernel_rfl)
def kbR:Ctr:=⟨ "",[(.sl tSwap),(.fn 1 tSwap .b)],[.b],fun x=>kbf x.1 x.2,[],[]⟩
theorem kdv:Good Try.prog 43 kbR:=
 kal Try.func43 (by kernel_rfl) (An:=[]) [(86,kch)] (.cons kdH <| .nil) (fun x=>by kernel_rfl)
def kfB:Ctr:=⟨ "",[(.sl tSwap)],[(.i .i64)],fun x=>kcO x,[],[]⟩
theorem kgi:Good Try.prog 12 kfB:=
 kal Try.func12 (by kernel_rfl) (An:=[]) [(43,kbR),(41,kgh)] (.cons kdv <| .cons kiy <| .nil) (fun x=>by kernel_rfl)
def kcE:Ctr:=⟨ "",[(.sl tSwap),tSwap],[(.i .i64)],fun x=>kbJ x.1 x.2,[],[]⟩
theorem ken:Good Try.prog 125 kcE:=
 kal Try.func125 (by kernel_rfl) (An:=[(0,⟨⟨[(8,.c (.i .i64))],[]⟩,⟨[],[]⟩,[7,3,0],[0],1,true,""⟩)]) [] (.nil) (fun x=>by kernel_rfl)
def kcl:Ctr:=⟨ "",[(.sl tSwap),tSwap],[.b],fun x=>kbu x.1 x.2,[],[]⟩
theorem kdR:Good Try.prog 109 kcl:=
 kal Try.func109 (by kernel_rfl) (An:=[]) [(125,kcE)] (.cons ken <| .nil) (fun x=>by kernel_rfl)
def kld:Ctr:=⟨ "",[(.sl tSwap),(.pr (.i .i64) (.i .u8)),(.pr (.i .i64) (.i .u8))],[.b],fun x=>khs x.1 x.2.1 x.2.2,[],[]⟩
theorem klg:Good Try.prog 79 kld:=
 kal Try.func79 (by kernel_rfl) (An:=[]) [(109,kcl)] (.cons kdR <| .nil) (fun x=>by kernel_rfl)
def kkv:Ctr:=⟨ "",[(.pr (.i .i64) (.pr (.i .u8) (.i .i64)))],[.b],fun x=>kgc x,[],[]⟩
theorem knD:Good Try.prog 57 kkv:=
 kal Try.func57 (by kernel_rfl) (An:=[]) [(36,khl)] (.cons kgT <| .nil) (fun x=>by kernel_rfl)
def keY:Ctr:=⟨ "",[(.sl (.pr (.i .i64) (.pr (.i .u8) (.i .i64)))),(.i .i64),(.fn 1 (.pr (.i .i64) (.pr (.i .u8) (.i .i64))) (.pr (.i .i64) (.i .u8)))],[.b],fun x=>kbQ x.1 x.2.1 x.2.2,[],[]⟩
theorem kgU:Good Try.prog 58 keY:=
 kal Try.func58 (by kernel_rfl) (An:=[(0,⟨⟨[(11,.c (.i .i64))],[]⟩,⟨[],[]⟩,[10,9,2,0,1],[],0,true,""⟩)]) [(98,kgE),(42,kdN)] (.cons kgy <| .cons keb <| .nil) (fun x=>by kernel_rfl)
def kkf:Ctr:=⟨ "",[(.pr (.i .i64) (.pr (.i .u8) (.i .i64)))],[(.pr (.i .i64) (.i .u8))],fun x=>kbD x,[],[]⟩
theorem kmJ:Good Try.prog 59 kkf:=
 kal Try.func59 (by kernel_rfl) (An:=[]) [] (.nil) (fun x=>by kernel_rfl)
def kbV:Ctr:=⟨ "",[(.sl (.pr (.i .i64) (.pr (.i .u8) (.i .i64)))),(.fn 1 (.pr (.i .i64) (.pr (.i .u8) (.i .i64))) .b)],[(.i .i64)],fun x=>kbh x.1 x.2,[],[]⟩
theorem kdx:Good Try.prog 99 kbV:=
 kal Try.func99 (by kernel_rfl) (An:=[(0,⟨⟨[(8,.c (.i .i64))],[]⟩,⟨[],[]⟩,[7,1,0],[],0,true,""⟩)]) [] (.nil) (fun x=>by kernel_rfl)
def kbI:Ctr:=⟨ "",[(.sl (.pr (.i .i64) (.pr (.i .u8) (.i .i64)))),(.fn 1 (.pr (.i .i64) (.pr (.i .u8) (.i .i64))) .b)],[.b],fun x=>kas x.1 x.2,[],[]⟩
theorem kda:Good Try.prog 60 kbI:=
 kal Try.func60 (by kernel_rfl) (An:=[]) [(99,kbV)] (.cons kdx <| .nil) (fun x=>by kernel_rfl)
def kkS:Ctr:=⟨ "",[tLine,tLine],[(.i .i64)],fun x=>kcF x.1 x.2,[],[]⟩
theorem knl:Good Try.prog 64 kkS:=
 kal Try.func64 (by kernel_rfl) (An:=[]) [] (.nil) (fun x=>by kernel_rfl)
def slices_insertionSortCmpFunc_box_line_m0_M:CtrM:=⟨ "",[none,some (.i .i64),some (.i .i64),some (.fn 2 (.pr tLine tLine) (.i .i64))],⟨[(0,.mw 0)],[(0,.sl 131 tLine)]⟩,1,⟨[(0,.mw 0)],[(0,.sl 131 tLine)]⟩,1,0,fun x=>kau x.1 x.2.1 x.2.2.1 x.2.2.2,false⟩
theorem kdw:slices_insertionSortCmpFunc_box_line_m0_M.ok=true/\GoodM Try.prog 117 slices_insertionSortCmpFunc_box_line_m0_M:=
 kbe Try.func117 (by kernel_rfl) (An:=[(0,⟨⟨[(8,.c (.i .i64))],[(0,.sl 131 tLine)]⟩,⟨[],[(0,.sl 131 tLine)]⟩,[2,1,3],[],2,false,""⟩),(8,⟨⟨[(9,.c (.i .i64))],[(0,.sl 131 tLine)]⟩,⟨[],[(0,.sl 131 tLine)]⟩,[8],[],2,false,""⟩)]) [] (.nil) (fun x=>by kernel_rfl)
def slices_insertionSortCmpFunc_box_line_C:Ctr:=⟨ "",[],[],fun _=>none,[],[]⟩
theorem slices_insertionSortCmpFunc_box_line_C_ok:Good Try.prog 117 slices_insertionSortCmpFunc_box_line_C:=good_dm
def kcb:Ctr:=⟨ "",slices_insertionSortCmpFunc_box_line_C.as,slices_insertionSortCmpFunc_box_line_C.rs,slices_insertionSortCmpFunc_box_line_C.F,slices_insertionSortCmpFunc_box_line_m0_M::slices_insertionSortCmpFunc_box_line_C.mus,slices_insertionSortCmpFunc_box_line_C.its⟩
theorem kdF:Good Try.prog 117 kcb:=(slices_insertionSortCmpFunc_box_line_C_ok.more kdw)
def slices_swapRangeCmpFunc_box_line_m0_M:CtrM:=⟨ "",[none,some (.i .i64),some (.i .i64),some (.i .i64),some (.fn 2 (.pr tLine tLine) (.i .i64))],⟨[(0,.mw 0)],[(0,.sl 131 tLine)]⟩,1,⟨[(0,.mw 0)],[(0,.sl 131 tLine)]⟩,1,0,fun x=>kat x.1 x.2.1 x.2.2.1 x.2.2.2.1 x.2.2.2.2,false⟩
theorem kdS:slices_swapRangeCmpFunc_box_line_m0_M.ok=true/\GoodM Try.prog 132 slices_swapRangeCmpFunc_box_line_m0_M:=
 kbe Try.func132 (by kernel_rfl) (An:=[(0,⟨⟨[(10,.c (.i .i64))],[(0,.sl 131 tLine)]⟩,⟨[],[(0,.sl 131 tLine)]⟩,[3,1,2],[],2,false,""⟩)]) [] (.nil) (fun x=>by kernel_rfl)
def slices_swapRangeCmpFunc_box_line_C:Ctr:=⟨ "",[],[],fun _=>none,[],[]⟩
theorem slices_swapRangeCmpFunc_box_line_C_ok:Good Try.prog 132 slices_swapRangeCmpFunc_box_line_C:=good_dm
def kct:Ctr:=⟨ "",slices_swapRangeCmpFunc_box_line_C.as,slices_swapRangeCmpFunc_box_line_C.rs,slices_swapRangeCmpFunc_box_line_C.F,slices_swapRangeCmpFunc_box_line_m0_M::slices_swapRangeCmpFunc_box_line_C.mus,slices_swapRangeCmpFunc_box_line_C.its⟩
theorem kec:Good Try.prog 132 kct:=(slices_swapRangeCmpFunc_box_line_C_ok.more kdS)
def slices_rotateCmpFunc_box_line_m0_M:CtrM:=⟨ "",[none,some (.i .i64),some (.i .i64),some (.i .i64),some (.fn 2 (.pr tLine tLine) (.i .i64))],⟨[(0,.mw 0)],[(0,.sl 131 tLine)]⟩,1,⟨[(0,.mw 0)],[(0,.sl 131 tLine)]⟩,1,0,fun x=>kaK x.1 x.2.1 x.2.2.1 x.2.2.2.1 x.2.2.2.2,false⟩
theorem kel:slices_rotateCmpFunc_box_line_m0_M.ok=true/\GoodM Try.prog 128 slices_rotateCmpFunc_box_line_m0_M:=
 kbe Try.func128 (by kernel_rfl) (An:=[(0,⟨⟨[(10,.c (.i .i64)),(11,.c (.i .i64))],[(0,.sl 131 tLine)]⟩,⟨[(10,.c (.i .i64))],[(0,.sl 131 tLine)]⟩,[2,4],[],2,false,""⟩)]) [(132,kct)] (.cons kec <| .nil) (fun x=>by kernel_rfl)
def slices_rotateCmpFunc_box_line_C:Ctr:=⟨ "",[],[],fun _=>none,[],[]⟩
theorem slices_rotateCmpFunc_box_line_C_ok:Good Try.prog 128 slices_rotateCmpFunc_box_line_C:=good_dm
def kcW:Ctr:=⟨ "",slices_rotateCmpFunc_box_line_C.as,slices_rotateCmpFunc_box_line_C.rs,slices_rotateCmpFunc_box_line_C.F,slices_rotateCmpFunc_box_line_m0_M::slices_rotateCmpFunc_box_line_C.mus,slices_rotateCmpFunc_box_line_C.its⟩
theorem keU:Good Try.prog 128 kcW:=(slices_rotateCmpFunc_box_line_C_ok.more kel)
def kbl (k:Nat):CtrM:=⟨ "",[none,some (.i .i64),some (.i .i64),some (.i .i64),some (.fn 2 (.pr tLine tLine) (.i .i64))],⟨[(0,.mw 0)],[(0,.sl 131 tLine)]⟩,1,⟨[(0,.mw 0)],[(0,.sl 131 tLine)]⟩,1,0,fun x=>kan k x.1 x.2.1 x.2.2.1 x.2.2.2.1 x.2.2.2.2,false⟩
theorem kcj:∀ k,(kbl k).ok=true/\GoodM Try.prog 118 (kbl k)
 | 0=>kjK (by kernel_rfl) (fun x=>rfl)
 | k+1=>kbe Try.func118 (by kernel_rfl) (An:=[(0,⟨⟨[(10,.c (.i .i64)),(11,.c (.i .i64))],[]⟩,⟨[(10,.c (.i .i64))],[]⟩,[4,1],[0],1,false,""⟩),(8,⟨⟨[(13,.c (.i .i64))],[(0,.sl 131 tLine)]⟩,⟨[],[(0,.sl 131 tLine)]⟩,[10],[],2,false,""⟩),(16,⟨⟨[(14,.c (.i .i64)),(15,.c (.i .i64))],[]⟩,⟨[(14,.c (.i .i64))],[]⟩,[4,2],[0],1,false,""⟩),(24,⟨⟨[(17,.c (.i .i64))],[(0,.sl 131 tLine)]⟩,⟨[],[(0,.sl 131 tLine)]⟩,[14],[],2,false,""⟩),(561,⟨⟨[],[]⟩,⟨[(20,.c (.i .i64)),(21,.c (.i .i64))],[]⟩,[19,3,18,4,2,1],[0],1,false,""⟩),(32,⟨⟨[(20,.c (.i .i64)),(21,.c (.i .i64))],[]⟩,⟨[(20,.c (.i .i64))],[]⟩,[4,22,19,2,1,18,3],[0],1,false,""⟩),(158,⟨⟨[],[]⟩,⟨[(185,.c .b)],[]⟩,[20,2,24,4,1,18,3],[0],1,false,""⟩),(741,⟨⟨[],[(0,.sl 131 tLine)]⟩,⟨[],[(0,.sl 131 tLine)]⟩,[20,2,24,4,1,18,3],[],2,false,""⟩),(166,⟨⟨[],[]⟩,⟨[(199,.c .b)],[]⟩,[1,20,18,4,24,3],[0],2,false,""⟩),(797,⟨⟨[],[(0,.sl 131 tLine)]⟩,⟨[],[(0,.sl 131 tLine)]⟩,[1,20,18,4,24,3],[],3,false,""⟩)]) ((118,⟨ "",[],[],fun _=>none,[kbl k],[]⟩)::[(128,kcW)]) (.cons (good_dm.more (kcj k)) <| .cons keU <| .nil) (fun x=>by kernel_rfl)
def slices_symMergeCmpFunc_box_line_m0_M:CtrM:=⟨ "",[none,some (.i .i64),some (.i .i64),some (.i .i64),some (.fn 2 (.pr tLine tLine) (.i .i64))],⟨[(0,.mw 0)],[(0,.sl 131 tLine)]⟩,1,⟨[(0,.mw 0)],[(0,.sl 131 tLine)]⟩,1,0,fun x=>kaB x.1 x.2.1 x.2.2.1 x.2.2.2.1 x.2.2.2.2,false⟩
theorem kdV:slices_symMergeCmpFunc_box_line_m0_M.ok=true/\GoodM Try.prog 118 slices_symMergeCmpFunc_box_line_m0_M:=kcj 1000000
def slices_symMergeCmpFunc_box_line_C:Ctr:=⟨ "",[],[],fun _=>none,[],[]⟩
theorem slices_symMergeCmpFunc_box_line_C_ok:Good Try.prog 118 slices_symMergeCmpFunc_box_line_C:=good_dm
def kcA:Ctr:=⟨ "",slices_symMergeCmpFunc_box_line_C.as,slices_symMergeCmpFunc_box_line_C.rs,slices_symMergeCmpFunc_box_line_C.F,slices_symMergeCmpFunc_box_line_m0_M::slices_symMergeCmpFunc_box_line_C.mus,slices_symMergeCmpFunc_box_line_C.its⟩
theorem kem:Good Try.prog 118 kcA:=(slices_symMergeCmpFunc_box_line_C_ok.more kdV)
def slices_stableCmpFunc_box_line_m0_M:CtrM:=⟨ "",[none,some (.i .i64),some (.fn 2 (.pr tLine tLine) (.i .i64))],⟨[(0,.mw 0)],[(0,.sl 131 tLine)]⟩,1,⟨[(0,.mw 0)],[(0,.sl 131 tLine)]⟩,1,0,fun x=>kbd x.1 x.2.1 x.2.2,false⟩
theorem kek:slices_stableCmpFunc_box_line_m0_M.ok=true/\GoodM Try.prog 101 slices_stableCmpFunc_box_line_m0_M:=
 kbe Try.func101 (by kernel_rfl) (An:=[(0,⟨⟨[(8,.c (.i .i64)),(7,.c (.i .i64))],[(0,.sl 131 tLine)]⟩,⟨[(7,.c (.i .i64))],[(0,.sl 131 tLine)]⟩,[1,2,6],[],2,false,""⟩),(8,⟨⟨[(6,.c (.i .i64))],[(0,.sl 131 tLine)]⟩,⟨[],[(0,.sl 131 tLine)]⟩,[1,2],[],3,false,""⟩),(16,⟨⟨[(8,.c (.i .i64)),(7,.c (.i .i64))],[(0,.sl 131 tLine)]⟩,⟨[(7,.c (.i .i64))],[(0,.sl 131 tLine)]⟩,[6],[],3,false,""⟩)]) [(118,kcA),(117,kcb)] (.cons kem <| .cons kdF <| .nil) (fun x=>by kernel_rfl)
def slices_stableCmpFunc_box_line_C:Ctr:=⟨ "",[],[],fun _=>none,[],[]⟩
theorem slices_stableCmpFunc_box_line_C_ok:Good Try.prog 101 slices_stableCmpFunc_box_line_C:=good_dm
def kcV:Ctr:=⟨ "",slices_stableCmpFunc_box_line_C.as,slices_stableCmpFunc_box_line_C.rs,slices_stableCmpFunc_box_line_C.F,slices_stableCmpFunc_box_line_m0_M::slices_stableCmpFunc_box_line_C.mus,slices_stableCmpFunc_box_line_C.its⟩
theorem keK:Good Try.prog 101 kcV:=(slices_stableCmpFunc_box_line_C_ok.more kek)
def slices_SortStableFunc_s_box_line_box_line_m0_M:CtrM:=⟨ "",[none,some (.fn 2 (.pr tLine tLine) (.i .i64))],⟨[(0,.mw 0)],[(0,.sl 131 tLine)]⟩,1,⟨[(0,.mw 0)],[(0,.sl 131 tLine)]⟩,1,0,fun x=>kaq x.1 x.2,false⟩
theorem kcM:slices_SortStableFunc_s_box_line_box_line_m0_M.ok=true/\GoodM Try.prog 63 slices_SortStableFunc_s_box_line_box_line_m0_M:=
 kbe Try.func63 (by kernel_rfl) (An:=[]) [(101,kcV)] (.cons keK <| .nil) (fun x=>by kernel_rfl)
def slices_SortStableFunc_s_box_line_box_line_C:Ctr:=⟨ "",[],[],fun _=>none,[],[]⟩
theorem slices_SortStableFunc_s_box_line_box_line_C_ok:Good Try.prog 63 slices_SortStableFunc_s_box_line_box_line_C:=good_dm
def kbC:Ctr:=⟨ "",slices_SortStableFunc_s_box_line_box_line_C.as,slices_SortStableFunc_s_box_line_box_line_C.rs,slices_SortStableFunc_s_box_line_box_line_C.F,slices_SortStableFunc_s_box_line_box_line_m0_M::slices_SortStableFunc_s_box_line_box_line_C.mus,slices_SortStableFunc_s_box_line_box_line_C.its⟩
theorem kcZ:Good Try.prog 63 kbC:=(slices_SortStableFunc_s_box_line_box_line_C_ok.more kcM)
def box_cheapest_c1_m0_M:CtrM:=⟨ "",[some (.pr (.i .i64) (.i .u8)),none,none,none,none],⟨[(1,.ptr 0 0),(2,.ptr 2 0),(3,.ptr 3 0),(4,.ptr 4 0)],[(0,.bx 125 [.mp 1]),(1,.mp (.pr (.i .i64) (.i .u8)) (.i .i64)),(2,.bx 4 [.c .b]),(3,.bx 3 [.c (.i .i64)]),(4,.bx 102 [.c (.i .i64),.c (.i .u8)])]⟩,5,⟨[(1,.ptr 0 0),(2,.ptr 2 0),(3,.ptr 3 0),(4,.ptr 4 0)],[(0,.bx 125 [.mp 1]),(1,.mp (.pr (.i .i64) (.i .u8)) (.i .i64)),(2,.bx 4 [.c .b]),(3,.bx 3 [.c (.i .i64)]),(4,.bx 102 [.c (.i .i64),.c (.i .u8)])]⟩,5,0,fun x=>kaU x.1 x.2.1 x.2.2.1 x.2.2.2.1 x.2.2.2.2.1 x.2.2.2.2.2,false⟩
theorem kie:box_cheapest_c1_m0_M.ok=true/\GoodM Try.prog 100 box_cheapest_c1_m0_M:=
 kbe Try.func100 (by kernel_rfl) (An:=[]) [(98,kgE)] (.cons kgy <| .nil) (fun x=>by kernel_rfl)
def box_cheapest_c1_C:Ctr:=⟨ "",[],[],fun _=>none,[],[]⟩
theorem box_cheapest_c1_C_ok:Good Try.prog 100 box_cheapest_c1_C:=good_dm
def kgQ:Ctr:=⟨ "",box_cheapest_c1_C.as,box_cheapest_c1_C.rs,box_cheapest_c1_C.F,box_cheapest_c1_m0_M::box_cheapest_c1_C.mus,box_cheapest_c1_C.its⟩
theorem kjj:Good Try.prog 100 kgQ:=(box_cheapest_c1_C_ok.more kie)
def box_cheapest_m0_M:CtrM:=⟨ "",[some (.sl tSwap),none,some (.pr (.i .i64) (.i .u8))],⟨[(1,.mp 0)],[(0,.mp (.pr (.i .i64) (.i .u8)) (.i .i64))]⟩,1,⟨[(1,.mp 0),(1000000,.c (.i .i64)),(1000001,.ag [.c (.i .i64),.c (.i .u8)]),(1000002,.c .b)],[(0,.mp (.pr (.i .i64) (.i .u8)) (.i .i64))]⟩,1,3,fun x=>kcs x.1 x.2.1 x.2.2,false⟩
theorem kjA:box_cheapest_m0_M.ok=true/\GoodM Try.prog 61 box_cheapest_m0_M:=
 kbe Try.func61 (by kernel_rfl) (An:=[(0,⟨⟨[(22,.c (.i .i64)),(12,.fn 100 [.ptr 1 0,.ptr 6 0,.ptr 4 0,.ptr 5 0]),(9,.ptr 4 0),(10,.ptr 5 0),(11,.ptr 6 0)],[(1,.bx 125 [.mp 0]),(0,.mp (.pr (.i .i64) (.i .u8)) (.i .i64)),(6,.bx 4 [.c .b]),(4,.bx 3 [.c (.i .i64)]),(5,.bx 102 [.c (.i .i64),.c (.i .u8)])]⟩,⟨[(9,.ptr 7 0),(10,.ptr 8 0),(11,.ptr 9 0)],[(7,.bx 3 [.c (.i .i64)]),(8,.bx 102 [.c (.i .i64),.c (.i .u8)]),(9,.bx 4 [.c .b]),(0,.mp (.pr (.i .i64) (.i .u8)) (.i .i64))]⟩,[21,20,5,7],[2,3],11,false,""⟩)]) [(100,kgQ)] (.cons kjj <| .nil) (fun x=>by kernel_rfl)
def box_cheapest_C:Ctr:=⟨ "",[],[],fun _=>none,[],[]⟩
theorem box_cheapest_C_ok:Good Try.prog 61 box_cheapest_C:=good_dm
def kit:Ctr:=⟨ "",box_cheapest_C.as,box_cheapest_C.rs,box_cheapest_C.F,box_cheapest_m0_M::box_cheapest_C.mus,box_cheapest_C.its⟩
theorem kkY:Good Try.prog 61 kit:=(box_cheapest_C_ok.more kjA)
def box_begin_m0g0_M:CtrM:=⟨ "",[some (.sl (.pr (.i .i64) (.pr (.i .u8) (.i .i64)))),some (.sl (.pr (.i .i64) (.pr (.i .u8) (.i .i64)))),some (.sl tSwap)],⟨[],[]⟩,0,⟨[(1000000,.sc (.pointer none)),(1000001,.c (.i .i64))],[]⟩,0,2,fun x=>keO x.1 x.2.1 x.2.2,true⟩
theorem kkg:box_begin_m0g0_M.ok=true/\GoodM Try.prog 29 box_begin_m0g0_M:=
 kbe Try.func29 (by kernel_rfl) (An:=[(89,⟨⟨[],[]⟩,⟨[(8,.c (.i .i64))],[]⟩,[2,1,0],[],1,false,""⟩),(0,⟨⟨[(33,.c (.i .i64)),(9,.ptr 5 0)],[(5,.bx 97 [.c (.sl (.pr (.i .i64) (.pr (.i .u8) (.i .i64)))),.mw 2,.fw 3,.mw 4]),(4,.sl 3 (.i .i64))]⟩,⟨[(9,.ptr 6 0)],[(6,.bx 97 [.c (.sl (.pr (.i .i64) (.pr (.i .u8) (.i .i64)))),.mw 2,.fw 3,.mw 7]),(7,.sl 3 (.i .i64))]⟩,[32,31,1,0,2],[2,3],8,false,""⟩),(8,⟨⟨[(51,.c (.i .i64)),(9,.ptr 6 0)],[(6,.bx 97 [.c (.sl (.pr (.i .i64) (.pr (.i .u8) (.i .i64)))),.mw 2,.fw 3,.mw 7]),(2,.sl 26 (.sl (.i .i64))),(3,.fm 26 (.sl (.i .i64)) 0 3 (.i .i64))]⟩,⟨[(9,.ptr 8 0)],[(8,.bx 97 [.c (.sl (.pr (.i .i64) (.pr (.i .u8) (.i .i64)))),.mw 9,.fw 10,.mw 7]),(9,.sl 26 (.sl (.i .i64))),(10,.fm 26 (.sl (.i .i64)) 0 3 (.i .i64))]⟩,[50,49,0,2],[7],11,false,""⟩),(16,⟨⟨[(57,.c (.i .i64)),(14,.mw 9)],[(9,.sl 3 (.i .i64))]⟩,⟨[(14,.mw 10)],[(10,.sl 3 (.i .i64))]⟩,[56,55,13,9,51],[8,6,2,3],11,false,""⟩)]) [(4097001,kdU),(7000089,kdU),(6000083,kdU),(6000029,kdU),(79,kld),(12,kfB),(45,kgW),(62,keq)] (.cons kcr <| .cons kcr <| .cons kcr <| .cons kcr <| .cons klg <| .cons kgi <| .cons kid <| .cons keh <| .nil) (fun x=>by kernel_rfl)
def box_begin_m0g1_M:CtrM:=⟨ "",[some (.sl (.pr (.i .i64) (.pr (.i .u8) (.i .i64)))),some (.sl (.pr (.i .i64) (.pr (.i .u8) (.i .i64)))),some (.sl tSwap)],⟨[],[]⟩,0,⟨[(1000000,.ptr 0 0),(1000001,.c (.i .i64))],[(0,.bx 97 [.c (.sl (.pr (.i .i64) (.pr (.i .u8) (.i .i64)))),.mw 1,.fw 2,.mw 3]),(1,.sl 26 (.sl (.i .i64))),(2,.fm 26 (.sl (.i .i64)) 0 3 (.i .i64)),(3,.sl 3 (.i .i64))]⟩,4,2,fun x=>keQ x.1 x.2.1 x.2.2,true⟩
theorem kkk:box_begin_m0g1_M.ok=true/\GoodM Try.prog 29 box_begin_m0g1_M:=
 kbe Try.func29 (by kernel_rfl) (An:=[(89,⟨⟨[],[]⟩,⟨[(8,.c (.i .i64))],[]⟩,[2,1,0],[],1,false,""⟩),(0,⟨⟨[(33,.c (.i .i64)),(9,.ptr 5 0)],[(5,.bx 97 [.c (.sl (.pr (.i .i64) (.pr (.i .u8) (.i .i64)))),.mw 2,.fw 3,.mw 4]),(4,.sl 3 (.i .i64))]⟩,⟨[(9,.ptr 6 0)],[(6,.bx 97 [.c (.sl (.pr (.i .i64) (.pr (.i .u8) (.i .i64)))),.mw 2,.fw 3,.mw 7]),(7,.sl 3 (.i .i64))]⟩,[32,31,1,0,2],[2,3],8,false,""⟩),(8,⟨⟨[(51,.c (.i .i64)),(9,.ptr 6 0)],[(6,.bx 97 [.c (.sl (.pr (.i .i64) (.pr (.i .u8) (.i .i64)))),.mw 2,.fw 3,.mw 7]),(2,.sl 26 (.sl (.i .i64))),(3,.fm 26 (.sl (.i .i64)) 0 3 (.i .i64))]⟩,⟨[(9,.ptr 8 0)],[(8,.bx 97 [.c (.sl (.pr (.i .i64) (.pr (.i .u8) (.i .i64)))),.mw 9,.fw 10,.mw 7]),(9,.sl 26 (.sl (.i .i64))),(10,.fm 26 (.sl (.i .i64)) 0 3 (.i .i64))]⟩,[50,49,0,2],[7],11,false,""⟩),(16,⟨⟨[(57,.c (.i .i64)),(14,.mw 9)],[(9,.sl 3 (.i .i64))]⟩,⟨[(14,.mw 10)],[(10,.sl 3 (.i .i64))]⟩,[56,55,13,9,51],[8,6,2,3],11,false,""⟩)]) [(4097001,kdU),(7000089,kdU),(6000083,kdU),(6000029,kdU),(79,kld),(12,kfB),(45,kgW),(62,keq)] (.cons kcr <| .cons kcr <| .cons kcr <| .cons kcr <| .cons klg <| .cons kgi <| .cons kid <| .cons keh <| .nil) (fun x=>by kernel_rfl)
def box_begin_B8:Ctr:=⟨ "",[],[],fun _=>none,[],[]⟩
theorem box_begin_B8_ok:Good Try.prog 29 box_begin_B8:=good_dm
def klh:Ctr:=⟨ "",box_begin_B8.as,box_begin_B8.rs,box_begin_B8.F,box_begin_m0g0_M::box_begin_m0g1_M::box_begin_B8.mus,box_begin_B8.its⟩
theorem knN:Good Try.prog 29 klh:=((box_begin_B8_ok.more kkk).more kkg)
def kdu (k:Nat):CtrM:=⟨ "",[some (.i .i64),some (.i .i64),none,none,none],⟨[(2,.ptr 0 0),(3,.ptr 5 0),(4,.ptr 7 0)],[(0,.bx 77 [.ptr 1 0]),(1,.bx 97 [.c (.sl (.pr (.i .i64) (.pr (.i .u8) (.i .i64)))),.mw 2,.fw 3,.mw 4]),(2,.sl 26 (.sl (.i .i64))),(3,.fm 26 (.sl (.i .i64)) 0 3 (.i .i64)),(4,.sl 3 (.i .i64)),(5,.bx 80 [.mw 6]),(6,.sl 4 .b),(7,.bx 83 [.fn 80 [.ptr 0 0,.ptr 5 0,.ptr 7 0]])]⟩,8,⟨[(2,.ptr 0 0),(3,.ptr 5 0),(4,.ptr 7 0),(1000000,.c (.i .i64))],[(0,.bx 77 [.ptr 1 0]),(1,.bx 97 [.c (.sl (.pr (.i .i64) (.pr (.i .u8) (.i .i64)))),.mw 2,.fw 3,.mw 4]),(2,.sl 26 (.sl (.i .i64))),(3,.fm 26 (.sl (.i .i64)) 0 3 (.i .i64)),(4,.sl 3 (.i .i64)),(5,.bx 80 [.mw 6]),(6,.sl 4 .b),(7,.bx 83 [.fn 80 [.ptr 0 0,.ptr 5 0,.ptr 7 0]])]⟩,8,1,fun x=>kba k x.1 x.2.1 x.2.2.1 x.2.2.2.1 x.2.2.2.2.1 x.2.2.2.2.2.1 x.2.2.2.2.2.2,false⟩
theorem keX:∀ k,(kdu k).ok=true/\GoodM Try.prog 80 (kdu k)
 | 0=>kjK (by kernel_rfl) (fun x=>rfl)
 | k+1=>kbe Try.func80 (by kernel_rfl) (An:=[(0,⟨⟨[(21,.c (.i .i64))],[(5,.bx 80 [.mw 6]),(6,.sl 4 .b),(0,.bx 77 [.ptr 1 0]),(1,.bx 97 [.c (.sl (.pr (.i .i64) (.pr (.i .u8) (.i .i64)))),.mw 2,.fw 3,.mw 4]),(2,.sl 26 (.sl (.i .i64))),(3,.fm 26 (.sl (.i .i64)) 0 3 (.i .i64)),(4,.sl 3 (.i .i64)),(7,.bx 83 [.fn 80 [.ptr 0 0,.ptr 5 0,.ptr 7 0]])]⟩,⟨[],[(6,.sl 4 .b),(4,.sl 3 (.i .i64)),(5,.bx 80 [.mw 6]),(3,.fm 26 (.sl (.i .i64)) 0 3 (.i .i64)),(0,.bx 77 [.ptr 1 0]),(1,.bx 97 [.c (.sl (.pr (.i .i64) (.pr (.i .u8) (.i .i64)))),.mw 2,.fw 3,.mw 4]),(2,.sl 26 (.sl (.i .i64))),(7,.bx 83 [.fn 80 [.ptr 0 0,.ptr 5 0,.ptr 7 0]])]⟩,[20,19,1,0],[],16,true,""⟩),(8,⟨⟨[(72,.c (.i .i64))],[(0,.bx 77 [.ptr 1 0]),(1,.bx 97 [.c (.sl (.pr (.i .i64) (.pr (.i .u8) (.i .i64)))),.mw 2,.fw 3,.mw 4]),(2,.sl 26 (.sl (.i .i64))),(3,.fm 26 (.sl (.i .i64)) 0 3 (.i .i64)),(4,.sl 3 (.i .i64)),(7,.bx 83 [.fn 80 [.ptr 0 0,.ptr 5 0,.ptr 7 0]]),(5,.bx 80 [.mw 6]),(6,.sl 4 .b)]⟩,⟨[],[(0,.bx 77 [.ptr 1 0]),(1,.bx 97 [.c (.sl (.pr (.i .i64) (.pr (.i .u8) (.i .i64)))),.mw 2,.fw 3,.mw 4]),(2,.sl 26 (.sl (.i .i64))),(3,.fm 26 (.sl (.i .i64)) 0 3 (.i .i64)),(4,.sl 3 (.i .i64)),(7,.bx 83 [.fn 80 [.ptr 0 0,.ptr 5 0,.ptr 7 0]]),(5,.bx 80 [.mw 6]),(6,.sl 4 .b)]⟩,[71,9,21],[],16,true,""⟩)]) ((80,⟨ "",[],[],fun _=>none,[kdu k],[]⟩)::[]) (.cons (good_dm.more (keX k)) <| .nil) (fun x=>by kernel_rfl)
def box_flow_give_c1_m0_M:CtrM:=⟨ "",[some (.i .i64),some (.i .i64),none,none,none],⟨[(2,.ptr 0 0),(3,.ptr 5 0),(4,.ptr 7 0)],[(0,.bx 77 [.ptr 1 0]),(1,.bx 97 [.c (.sl (.pr (.i .i64) (.pr (.i .u8) (.i .i64)))),.mw 2,.fw 3,.mw 4]),(2,.sl 26 (.sl (.i .i64))),(3,.fm 26 (.sl (.i .i64)) 0 3 (.i .i64)),(4,.sl 3 (.i .i64)),(5,.bx 80 [.mw 6]),(6,.sl 4 .b),(7,.bx 83 [.fn 80 [.ptr 0 0,.ptr 5 0,.ptr 7 0]])]⟩,8,⟨[(2,.ptr 0 0),(3,.ptr 5 0),(4,.ptr 7 0),(1000000,.c (.i .i64))],[(0,.bx 77 [.ptr 1 0]),(1,.bx 97 [.c (.sl (.pr (.i .i64) (.pr (.i .u8) (.i .i64)))),.mw 2,.fw 3,.mw 4]),(2,.sl 26 (.sl (.i .i64))),(3,.fm 26 (.sl (.i .i64)) 0 3 (.i .i64)),(4,.sl 3 (.i .i64)),(5,.bx 80 [.mw 6]),(6,.sl 4 .b),(7,.bx 83 [.fn 80 [.ptr 0 0,.ptr 5 0,.ptr 7 0]])]⟩,8,1,fun x=>kea x.1 x.2.1 x.2.2.1 x.2.2.2.1 x.2.2.2.2.1 x.2.2.2.2.2.1 x.2.2.2.2.2.2,false⟩
theorem khL:box_flow_give_c1_m0_M.ok=true/\GoodM Try.prog 80 box_flow_give_c1_m0_M:=keX 1000000
def box_flow_give_c1_C:Ctr:=⟨ "",[],[],fun _=>none,[],[]⟩
theorem box_flow_give_c1_C_ok:Good Try.prog 80 box_flow_give_c1_C:=good_dm
def kgg:Ctr:=⟨ "",box_flow_give_c1_C.as,box_flow_give_c1_C.rs,box_flow_give_c1_C.F,box_flow_give_c1_m0_M::box_flow_give_c1_C.mus,box_flow_give_c1_C.its⟩
theorem kiK:Good Try.prog 80 kgg:=(box_flow_give_c1_C_ok.more khL)
def box_flow_give_m0_M:CtrM:=⟨ "",[none,some (.i .i64),some (.i .i64)],⟨[(0,.ptr 0 0)],[(0,.bx 97 [.c (.sl (.pr (.i .i64) (.pr (.i .u8) (.i .i64)))),.mw 1,.fw 2,.mw 3]),(1,.sl 26 (.sl (.i .i64))),(2,.fm 26 (.sl (.i .i64)) 0 3 (.i .i64)),(3,.sl 3 (.i .i64))]⟩,4,⟨[(0,.ptr 0 0),(1000000,.c (.i .i64))],[(0,.bx 97 [.c (.sl (.pr (.i .i64) (.pr (.i .u8) (.i .i64)))),.mw 1,.fw 2,.mw 3]),(1,.sl 26 (.sl (.i .i64))),(2,.fm 26 (.sl (.i .i64)) 0 3 (.i .i64)),(3,.sl 3 (.i .i64))]⟩,4,1,fun x=>kdO x.1 x.2.1 x.2.2.1 x.2.2.2.1 x.2.2.2.2.1 x.2.2.2.2.2,false⟩
theorem kiT:box_flow_give_m0_M.ok=true/\GoodM Try.prog 30 box_flow_give_m0_M:=
 kbe Try.func30 (by kernel_rfl) (An:=[(0,⟨⟨[(9,.c (.i .i64)),(3,.ptr 4 0),(7,.ptr 6 0),(8,.ptr 7 0)],[(4,.bx 77 [.ptr 0 0]),(0,.bx 97 [.c (.sl (.pr (.i .i64) (.pr (.i .u8) (.i .i64)))),.mw 1,.fw 2,.mw 3]),(1,.sl 26 (.sl (.i .i64))),(2,.fm 26 (.sl (.i .i64)) 0 3 (.i .i64)),(3,.sl 3 (.i .i64)),(6,.bx 80 [.mw 5]),(5,.sl 4 .b),(7,.bx 83 [.fn 80 [.ptr 4 0,.ptr 6 0,.ptr 7 0]])]⟩,⟨[(9,.c (.i .i64))],[(0,.bx 97 [.c (.sl (.pr (.i .i64) (.pr (.i .u8) (.i .i64)))),.mw 1,.fw 2,.mw 3]),(1,.sl 26 (.sl (.i .i64))),(2,.fm 26 (.sl (.i .i64)) 0 3 (.i .i64)),(3,.sl 3 (.i .i64))]⟩,[2,1],[],12,false,""⟩)]) [(80,kgg)] (.cons kiK <| .nil) (fun x=>by kernel_rfl)
def box_flow_give_C:Ctr:=⟨ "",[],[],fun _=>none,[],[]⟩
theorem box_flow_give_C_ok:Good Try.prog 30 box_flow_give_C:=good_dm
def khd:Ctr:=⟨ "",box_flow_give_C.as,box_flow_give_C.rs,box_flow_give_C.F,box_flow_give_m0_M::box_flow_give_C.mus,box_flow_give_C.its⟩
theorem kjy:Good Try.prog 30 khd:=(box_flow_give_C_ok.more kiT)
def keT:Ctr:=⟨ "",[(.i .i64),(.i .u8)],[.b],fun x=>kco x.1 x.2,[],[]⟩
theorem keZ:Good Try.prog 87 keT:=
 kal Try.func87 (by kernel_rfl) (An:=[]) [(78,kdD)] (.cons kdy <| .nil) (fun x=>by kernel_rfl)
def kgs:Ctr:=⟨ "",[(.i .i64),(.i .u8),(.i .i64),(.i .u8)],[.b],fun x=>kcU x.1 x.2.1 x.2.2.1 x.2.2.2,[],[]⟩
theorem kgZ:Good Try.prog 94 kgs:=
 kal Try.func94 (by kernel_rfl) (An:=[]) [] (.nil) (fun x=>by kernel_rfl)
def kkc:Ctr:=⟨ "",[(.sl (.pr (.i .i64) (.pr (.i .u8) (.i .i64))))],[.b],fun x=>kfi x,[],[]⟩
theorem kmT:Good Try.prog 51 kkc:=
 kal Try.func51 (by kernel_rfl) (An:=[(0,⟨⟨[(3,.c (.i .i64))],[]⟩,⟨[],[]⟩,[0],[],0,true,""⟩)]) [(94,kgs),(87,keT),(78,kdD)] (.cons kgZ <| .cons keZ <| .cons kdy <| .nil) (fun x=>by kernel_rfl)
def kkd:Ctr:=⟨ "",[(.sl tSwap)],[.b],fun x=>kiz x,[],[]⟩
theorem kms:Good Try.prog 44 kkd:=
 kal Try.func44 (by kernel_rfl) (An:=[(0,⟨⟨[(3,.c (.i .i64))],[]⟩,⟨[],[]⟩,[0],[],0,true,""⟩)]) [(87,keT)] (.cons keZ <| .nil) (fun x=>by kernel_rfl)
def kgO:Ctr:=⟨ "",[(.sl tSwap)],[(.i .i64)],fun x=>kdQ x,[],[]⟩
theorem kiZ:Good Try.prog 13 kgO:=
 kal Try.func13 (by kernel_rfl) (An:=[]) [(44,kkd)] (.cons kms <| .nil) (fun x=>by kernel_rfl)
def kka:Ctr:=⟨ "",[(.sl (.pr (.i .i64) (.pr (.i .u8) (.i .i64)))),(.sl (.pr (.i .i64) (.pr (.i .u8) (.i .i64)))),(.sl tSwap)],[(.i .i64)],fun x=>kgB x.1 x.2.1 x.2.2,[],[]⟩
theorem kmu:Good Try.prog 32 kka:=
 kal Try.func32 (by kernel_rfl) (An:=[]) [(13,kgO),(51,kkc)] (.cons kiZ <| .cons kmT <| .nil) (fun x=>by kernel_rfl)
def kiP:Ctr:=⟨ "",[(.sl (.pr (.i .i64) (.pr (.i .u8) (.i .i64))))],[.b],fun x=>kfZ x,[],[]⟩
theorem klH:Good Try.prog 65 kiP:=
 kal Try.func65 (by kernel_rfl) (An:=[(0,⟨⟨[(3,.c (.i .i64))],[]⟩,⟨[],[]⟩,[0],[],0,true,""⟩)]) [(94,kgs),(87,keT),(78,kdD)] (.cons kgZ <| .cons keZ <| .cons kdy <| .nil) (fun x=>by kernel_rfl)
def kiF:Ctr:=⟨ "",[(.sl tSwap),(.i .i64),(.i .u8),(.i .i64),(.i .u8)],[.b],fun x=>kew x.1 x.2.1 x.2.2.1 x.2.2.2.1 x.2.2.2.2,[],[]⟩
theorem kjb:Good Try.prog 82 kiF:=
 kal Try.func82 (by kernel_rfl) (An:=[(6,⟨⟨[],[]⟩,⟨[(19,.c .b)],[]⟩,[1,3,2,4,0],[],0,false,""⟩),(0,⟨⟨[(11,.c (.i .i64))],[]⟩,⟨[],[]⟩,[0,1,2,3,4],[],0,true,""⟩)]) [] (.nil) (fun x=>by kernel_rfl)
def kfz:Ctr:=⟨ "",[(.sl tSwap),(.sl (.pr (.i .i64) (.pr (.i .u8) (.i .i64)))),(.i .i64),(.i .u8)],[(.i .i64)],fun x=>kbx x.1 x.2.1 x.2.2.1 x.2.2.2,[],[]⟩
theorem kgk:Good Try.prog 102 kfz:=
 kal Try.func102 (by kernel_rfl) (An:=[(0,⟨⟨[(10,.c (.i .i64)),(9,.c (.i .i64))],[]⟩,⟨[(9,.c (.i .i64))],[]⟩,[1,0,2,3],[],0,false,""⟩)]) [(82,kiF)] (.cons kjb <| .nil) (fun x=>by kernel_rfl)
def kkU:Ctr:=⟨ "",[(.sl tSwap),(.sl (.pr (.i .i64) (.pr (.i .u8) (.i .i64)))),(.pr (.i .i64) (.pr (.i .u8) (.i .i64)))],[(.i .i64)],fun x=>kfX x.1 x.2.1 x.2.2,[],[]⟩
theorem knE:Good Try.prog 66 kkU:=
 kal Try.func66 (by kernel_rfl) (An:=[]) [(102,kfz)] (.cons kgk <| .nil) (fun x=>by kernel_rfl)
def ref08_begun_m0_M:CtrM:=⟨ "",[some (.sl (.pr (.i .i64) (.pr (.i .u8) (.i .i64)))),some (.sl (.pr (.i .i64) (.pr (.i .u8) (.i .i64)))),some (.sl tSwap)],⟨[],[]⟩,0,⟨[(1000000,.ag [.mw 0,.fw 1,.mw 2])],[(0,.sl 80 (.sl .b)),(1,.fm 26 (.sl (.i .i64)) 0 3 (.i .i64)),(2,.sl 3 (.i .i64))]⟩,3,1,fun x=>keP x.1 x.2.1 x.2.2,false⟩
theorem kkn:ref08_begun_m0_M.ok=true/\GoodM Try.prog 33 ref08_begun_m0_M:=
 kbe Try.func33 (by kernel_rfl) (An:=[(0,⟨⟨[(8,.c (.i .i64)),(7,.ptr 7 0)],[(7,.bx 88 [.mw 4,.fw 5,.mw 6]),(4,.sl 80 (.sl .b)),(5,.fm 26 (.sl (.i .i64)) 0 3 (.i .i64))]⟩,⟨[(7,.ptr 8 0)],[(8,.bx 88 [.mw 9,.fw 10,.mw 6]),(9,.sl 80 (.sl .b)),(10,.fm 26 (.sl (.i .i64)) 0 3 (.i .i64))]⟩,[1,0,2,6],[6,3,0,1,2],11,false,""⟩),(8,⟨⟨[(10,.c (.i .i64)),(9,.mw 8)],[(8,.sl 4 .b)]⟩,⟨[(9,.mw 9)],[(9,.sl 4 .b)]⟩,[8,7],[7,4,5],10,false,""⟩),(16,⟨⟨[(11,.c (.i .i64)),(7,.ptr 8 0)],[(8,.bx 88 [.mw 9,.fw 10,.mw 6]),(6,.sl 3 (.i .i64))]⟩,⟨[(7,.ptr 11 0)],[(11,.bx 88 [.mw 9,.fw 10,.mw 12]),(12,.sl 3 (.i .i64))]⟩,[0,6],[9,10,3,0,1,2],13,false,""⟩)]) [(4088000,kdU),(7000063,kdU),(6000007,kdU),(82,kiF)] (.cons kcr <| .cons kcr <| .cons kcr <| .cons kjb <| .nil) (fun x=>by kernel_rfl)
def ref08_begun_B11:Ctr:=⟨ "",[],[],fun _=>none,[],[]⟩
theorem ref08_begun_B11_ok:Good Try.prog 33 ref08_begun_B11:=good_dm
def kik:Ctr:=⟨ "",ref08_begun_B11.as,ref08_begun_B11.rs,ref08_begun_B11.F,ref08_begun_m0_M::ref08_begun_B11.mus,ref08_begun_B11.its⟩
theorem kkH:Good Try.prog 33 kik:=(ref08_begun_B11_ok.more kkn)
def ref08_bought_m0_M:CtrM:=⟨ "",[some (.sl (.pr (.i .i64) (.pr (.i .u8) (.i .i64)))),some (.sl tSwap),some (.sl (.pr (.i .i64) (.pr (.i .u8) (.i .i64)))),some (.sl (.i .i64))],⟨[],[]⟩,0,⟨[(1000000,.mw 0),(1000001,.c .b),(1000002,.c .b),(1000003,.c (.i .i64))],[(0,.sl 82 (.pr (.i .i64) (.pr (.i .u8) (.i .i64))))]⟩,1,4,fun x=>kei x.1 x.2.1 x.2.2.1 x.2.2.2,false⟩
theorem kjR:ref08_bought_m0_M.ok=true/\GoodM Try.prog 67 ref08_bought_m0_M:=
 kbe Try.func67 (by kernel_rfl) (An:=[(0,⟨⟨[(14,.c (.i .i64)),(12,.mw 1),(13,.c (.i .i64))],[(1,.sl 3 (.i .i64))]⟩,⟨[(12,.mw 2),(13,.c (.i .i64))],[(2,.sl 3 (.i .i64))]⟩,[0,3,1,2],[],3,true,""⟩),(34,⟨⟨[],[]⟩,⟨[(57,.c .b)],[]⟩,[15,16,12,13,14],[1],2,false,""⟩),(8,⟨⟨[(19,.c (.i .i64)),(18,.c .b),(17,.mw 3)],[(3,.sl 82 (.pr (.i .i64) (.pr (.i .u8) (.i .i64))))]⟩,⟨[(17,.mw 4),(18,.c .b)],[(4,.sl 82 (.pr (.i .i64) (.pr (.i .u8) (.i .i64))))]⟩,[12,2,13],[2],5,false,""⟩),(74,⟨⟨[],[]⟩,⟨[(18,.c .b)],[]⟩,[19,17],[3],4,false,""⟩)]) [(102,kfz)] (.cons kgk <| .nil) (fun x=>by kernel_rfl)
def ref08_bought_B12:Ctr:=⟨ "",[],[],fun _=>none,[],[]⟩
theorem ref08_bought_B12_ok:Good Try.prog 67 ref08_bought_B12:=good_dm
def khV:Ctr:=⟨ "",ref08_bought_B12.as,ref08_bought_B12.rs,ref08_bought_B12.F,ref08_bought_m0_M::ref08_bought_B12.mus,ref08_bought_B12.its⟩
theorem kkm:Good Try.prog 67 khV:=(ref08_bought_B12_ok.more kjR)
def kfA (k:Nat):CtrM:=⟨ "",[none,some (.i .i64),none],⟨[(0,.ag [.mw 0,.fw 1,.mw 2]),(2,.mw 3)],[(0,.sl 80 (.sl .b)),(1,.fm 26 (.sl (.i .i64)) 0 3 (.i .i64)),(2,.sl 3 (.i .i64)),(3,.sl 4 .b)]⟩,4,⟨[(2,.mw 3),(1000000,.c .b)],[(3,.sl 4 .b),(0,.sl 80 (.sl .b)),(1,.fm 26 (.sl (.i .i64)) 0 3 (.i .i64)),(2,.sl 3 (.i .i64))]⟩,4,1,fun x=>kbW k x.1 x.2.1 x.2.2.1 x.2.2.2.1 x.2.2.2.2,false⟩
theorem khe:∀ k,(kfA k).ok=true/\GoodM Try.prog 83 (kfA k)
 | 0=>kjK (by kernel_rfl) (fun x=>rfl)
 | k+1=>kbe Try.func83 (by kernel_rfl) (An:=[(0,⟨⟨[(7,.c (.i .i64)),(3,.ptr 4 0)],[(4,.bx 88 [.mw 0,.fw 1,.mw 2]),(0,.sl 80 (.sl .b)),(1,.fm 26 (.sl (.i .i64)) 0 3 (.i .i64)),(2,.sl 3 (.i .i64)),(3,.sl 4 .b)]⟩,⟨[],[(3,.sl 4 .b),(2,.sl 3 (.i .i64)),(0,.sl 80 (.sl .b)),(1,.fm 26 (.sl (.i .i64)) 0 3 (.i .i64))]⟩,[1],[],9,true,""⟩),(8,⟨⟨[(8,.c (.i .i64)),(3,.ptr 4 0)],[(4,.bx 88 [.mw 0,.fw 1,.mw 2]),(0,.sl 80 (.sl .b)),(1,.fm 26 (.sl (.i .i64)) 0 3 (.i .i64)),(2,.sl 3 (.i .i64)),(3,.sl 4 .b)]⟩,⟨[(3,.ptr 5 0)],[(5,.bx 88 [.mw 0,.fw 1,.mw 2]),(0,.sl 80 (.sl .b)),(1,.fm 26 (.sl (.i .i64)) 0 3 (.i .i64)),(2,.sl 3 (.i .i64)),(3,.sl 4 .b)]⟩,[7],[],10,true,""⟩)]) ((83,⟨ "",[],[],fun _=>none,[kfA k],[]⟩)::[]) (.cons (good_dm.more (khe k)) <| .nil) (fun x=>by kernel_rfl)
def ref08_more_m0_M:CtrM:=⟨ "",[none,some (.i .i64),none],⟨[(0,.ag [.mw 0,.fw 1,.mw 2]),(2,.mw 3)],[(0,.sl 80 (.sl .b)),(1,.fm 26 (.sl (.i .i64)) 0 3 (.i .i64)),(2,.sl 3 (.i .i64)),(3,.sl 4 .b)]⟩,4,⟨[(2,.mw 3),(1000000,.c .b)],[(3,.sl 4 .b),(0,.sl 80 (.sl .b)),(1,.fm 26 (.sl (.i .i64)) 0 3 (.i .i64)),(2,.sl 3 (.i .i64))]⟩,4,1,fun x=>kgX x.1 x.2.1 x.2.2.1 x.2.2.2.1 x.2.2.2.2,false⟩
theorem kko:ref08_more_m0_M.ok=true/\GoodM Try.prog 83 ref08_more_m0_M:=khe 1000000
def ref08_more_C:Ctr:=⟨ "",[],[],fun _=>none,[],[]⟩
theorem ref08_more_C_ok:Good Try.prog 83 ref08_more_C:=good_dm
def kiM:Ctr:=⟨ "",ref08_more_C.as,ref08_more_C.rs,ref08_more_C.F,ref08_more_m0_M::ref08_more_C.mus,ref08_more_C.its⟩
theorem klK:Good Try.prog 83 kiM:=(ref08_more_C_ok.more kko)
def ref08_got_m0_M:CtrM:=⟨ "",[none,some (.i .i64),some (.i .i64)],⟨[(0,.ag [.mw 0,.fw 1,.mw 2])],[(0,.sl 80 (.sl .b)),(1,.fm 26 (.sl (.i .i64)) 0 3 (.i .i64)),(2,.sl 3 (.i .i64))]⟩,3,⟨[(1000000,.c (.i .i64))],[(0,.sl 80 (.sl .b)),(1,.fm 26 (.sl (.i .i64)) 0 3 (.i .i64)),(2,.sl 3 (.i .i64))]⟩,3,1,fun x=>kez x.1 x.2.1 x.2.2.1 x.2.2.2.1 x.2.2.2.2,false⟩
theorem klE:ref08_got_m0_M.ok=true/\GoodM Try.prog 34 ref08_got_m0_M:=
 kbe Try.func34 (by kernel_rfl) (An:=[(0,⟨⟨[(7,.c (.i .i64)),(3,.ptr 3 0)],[(3,.bx 88 [.mw 0,.fw 1,.mw 2]),(0,.sl 80 (.sl .b)),(1,.fm 26 (.sl (.i .i64)) 0 3 (.i .i64)),(2,.sl 3 (.i .i64))]⟩,⟨[(7,.c (.i .i64))],[(1,.fm 26 (.sl (.i .i64)) 0 3 (.i .i64)),(0,.sl 80 (.sl .b)),(2,.sl 3 (.i .i64))]⟩,[2,1],[],7,false,""⟩)]) [(83,kiM)] (.cons klK <| .nil) (fun x=>by kernel_rfl)
def ref08_got_C:Ctr:=⟨ "",[],[],fun _=>none,[],[]⟩
theorem ref08_got_C_ok:Good Try.prog 34 ref08_got_C:=good_dm
def kjV:Ctr:=⟨ "",ref08_got_C.as,ref08_got_C.rs,ref08_got_C.F,ref08_got_m0_M::ref08_got_C.mus,ref08_got_C.its⟩
theorem kmS:Good Try.prog 34 kjV:=(ref08_got_C_ok.more klE)
def khF:Ctr:=⟨ "",[(.sl (.i .i64)),(.sl (.i .i64))],[.b],fun x=>keJ x.1 x.2,[],[]⟩
theorem kkj:Good Try.prog 14 khF:=
 kal Try.func14 (by kernel_rfl) (An:=[(0,⟨⟨[(5,.c (.i .i64))],[]⟩,⟨[],[]⟩,[0,1],[],0,true,""⟩)]) [] (.nil) (fun x=>by kernel_rfl)
def khc:Ctr:=⟨ "",[(.sl (.pr (.i .i64) (.pr (.i .u8) (.i .i64)))),(.sl (.pr (.i .i64) (.pr (.i .u8) (.i .i64))))],[.b],fun x=>kcu x.1 x.2,[],[]⟩
theorem kjI:Good Try.prog 19 khc:=
 kal Try.func19 (by kernel_rfl) (An:=[(0,⟨⟨[(5,.c (.i .i64))],[]⟩,⟨[],[]⟩,[0,1],[],0,true,""⟩)]) [] (.nil) (fun x=>by kernel_rfl)
def box_Buy_m0_M:CtrM:=⟨ "",[some (.sl (.pr (.i .i64) (.pr (.i .u8) (.i .i64)))),some (.sl (.pr (.i .i64) (.pr (.i .u8) (.i .i64)))),some (.sl tSwap),some (.sl (.pr (.i .i64) (.pr (.i .u8) (.i .i64))))],⟨[],[]⟩,0,⟨[(1000000,.ag [.mw 0,.mw 1,.c (.i .i64)]),(1000001,.c (.i .i64))],[(0,.sl 3 (.i .i64)),(1,.sl 82 (.pr (.i .i64) (.pr (.i .u8) (.i .i64))))]⟩,2,2,fun x=>khm x.1 x.2.1 x.2.2.1 x.2.2.2,false⟩
theorem knH:box_Buy_m0_M.ok=true/\GoodM Try.prog 20 box_Buy_m0_M:=
 kbe Try.func20 (by kernel_rfl) (An:=[(4,⟨⟨[(55,.c (.i .i64)),(13,.mp 3)],[(3,.mp (.pr (.i .i64) (.i .u8)) (.i .i64))]⟩,⟨[(13,.mp 4)],[(4,.mp (.pr (.i .i64) (.i .u8)) (.i .i64))]⟩,[54,53,1,2,10,8,3],[2,0,1],5,false,""⟩),(12,⟨⟨[(67,.c (.i .i64)),(13,.mp 4),(16,.mw 5)],[(4,.mp (.pr (.i .i64) (.i .u8)) (.i .i64)),(5,.sl 131 tLine)]⟩,⟨[(16,.mw 6)],[(6,.sl 131 tLine)]⟩,[66,65,2,1,10,8,3],[2,0,1],7,false,""⟩),(20,⟨⟨[(101,.c (.i .i64))],[]⟩,⟨[],[]⟩,[100,99,10,22,8,23,3],[6,12,7,9,2,0,1,13],14,true,""⟩),(28,⟨⟨[(152,.c (.i .i64)),(8,.ptr 2 0),(22,.ptr 12 0)],[(2,.bx 58 [.mw 0,.mw 1,.c (.i .i64)]),(12,.bx 58 [.mw 7,.mw 9,.c (.i .i64)]),(9,.sl 82 (.pr (.i .i64) (.pr (.i .u8) (.i .i64))))]⟩,⟨[(22,.ptr 14 0),(8,.ptr 16 0)],[(14,.bx 58 [.mw 7,.mw 15,.c (.i .i64)]),(15,.sl 82 (.pr (.i .i64) (.pr (.i .u8) (.i .i64)))),(16,.bx 58 [.mw 0,.mw 1,.c (.i .i64)])]⟩,[151,150,23],[13,0,1,7],17,true,""⟩),(4,⟨⟨[(55,.c (.i .i64)),(13,.mp 7)],[(7,.mp (.pr (.i .i64) (.i .u8)) (.i .i64))]⟩,⟨[(13,.mp 8)],[(8,.mp (.pr (.i .i64) (.i .u8)) (.i .i64))]⟩,[54,53,1,2,10,8,3],[3,4,5,6,2,0,1],9,false,""⟩),(12,⟨⟨[(67,.c (.i .i64)),(13,.mp 8),(16,.mw 9)],[(8,.mp (.pr (.i .i64) (.i .u8)) (.i .i64)),(9,.sl 131 tLine)]⟩,⟨[(16,.mw 10)],[(10,.sl 131 tLine)]⟩,[66,65,2,1,10,8,3],[3,4,5,6,2,0,1],11,false,""⟩),(20,⟨⟨[(101,.c (.i .i64)),(10,.ptr 3 0),(22,.ptr 16 0),(8,.ptr 2 0),(23,.mp 17)],[(3,.bx 97 [.c (.sl (.pr (.i .i64) (.pr (.i .u8) (.i .i64)))),.mw 4,.fw 5,.mw 6]),(4,.sl 26 (.sl (.i .i64))),(5,.fm 26 (.sl (.i .i64)) 0 3 (.i .i64)),(6,.sl 3 (.i .i64)),(16,.bx 58 [.mw 11,.mw 13,.c (.i .i64)]),(11,.sl 3 (.i .i64)),(2,.bx 58 [.mw 0,.mw 1,.c (.i .i64)]),(17,.mp (.pr (.i .i64) (.i .u8)) (.i .i64))]⟩,⟨[(23,.mp 18),(8,.ptr 19 0),(22,.ptr 20 0)],[(18,.mp (.pr (.i .i64) (.i .u8)) (.i .i64)),(19,.bx 58 [.mw 0,.mw 1,.c (.i .i64)]),(20,.bx 58 [.mw 21,.mw 13,.c (.i .i64)]),(21,.sl 3 (.i .i64))]⟩,[100,99,3],[10,13,0,1],22,true,""⟩),(114,⟨⟨[],[]⟩,⟨[(125,.c .b)],[]⟩,[26,25,8,22,23,101,10],[18,2,16,11,17,3,4,5,6],19,false,""⟩),(28,⟨⟨[(152,.c (.i .i64)),(8,.ptr 19 0),(22,.ptr 20 0)],[(19,.bx 58 [.mw 0,.mw 1,.c (.i .i64)]),(20,.bx 58 [.mw 21,.mw 13,.c (.i .i64)]),(13,.sl 82 (.pr (.i .i64) (.pr (.i .u8) (.i .i64))))]⟩,⟨[(22,.ptr 22 0),(8,.ptr 24 0)],[(22,.bx 58 [.mw 21,.mw 23,.c (.i .i64)]),(23,.sl 82 (.pr (.i .i64) (.pr (.i .u8) (.i .i64)))),(24,.bx 58 [.mw 0,.mw 1,.c (.i .i64)])]⟩,[151,150,23],[18,0,1,21],25,true,""⟩)]) [(29,klh),(30,khd),(61,kit),(63,kbC),(64,kkS),(60,kbI),(59,kkf),(58,keY),(57,kkv),(62,keq)] (.cons knN <| .cons kjy <| .cons kkY <| .cons kcZ <| .cons knl <| .cons kda <| .cons kmJ <| .cons kgU <| .cons knD <| .cons keh <| .nil) (fun x=>by kernel_rfl)
def box_Buy_B15:Ctr:=⟨ "",[],[],fun _=>none,[],[]⟩
theorem box_Buy_B15_ok:Good Try.prog 20 box_Buy_B15:=good_dm
def klX:Ctr:=⟨ "",box_Buy_B15.as,box_Buy_B15.rs,box_Buy_B15.F,box_Buy_m0_M::box_Buy_B15.mus,box_Buy_B15.its⟩
theorem koC:Good Try.prog 20 klX:=(box_Buy_B15_ok.more knH)
def ref08_Buy_m0_M:CtrM:=⟨ "",[some (.sl (.pr (.i .i64) (.pr (.i .u8) (.i .i64)))),some (.sl (.pr (.i .i64) (.pr (.i .u8) (.i .i64)))),some (.sl tSwap),some (.sl (.pr (.i .i64) (.pr (.i .u8) (.i .i64))))],⟨[],[]⟩,0,⟨[(1000000,.ag [.mw 0,.mw 1,.c (.i .i64)]),(1000001,.c (.i .i64))],[(0,.sl 3 (.i .i64)),(1,.sl 82 (.pr (.i .i64) (.pr (.i .u8) (.i .i64))))]⟩,2,2,fun x=>kge x.1 x.2.1 x.2.2.1 x.2.2.2,false⟩
theorem klO:ref08_Buy_m0_M.ok=true/\GoodM Try.prog 21 ref08_Buy_m0_M:=
 kbe Try.func21 (by kernel_rfl) (An:=[(0,⟨⟨[(14,.c (.i .i64)),(13,.mw 11)],[(11,.sl 3 (.i .i64))]⟩,⟨[(13,.mw 12)],[(12,.sl 3 (.i .i64))]⟩,[1,2,3,12,11,8],[10,9,3,4,5,2,0,1],13,false,""⟩),(8,⟨⟨[(15,.c (.i .i64)),(12,.mw 10),(11,.ptr 9 0)],[(10,.sl 3 (.i .i64)),(9,.bx 88 [.mw 3,.fw 4,.mw 5]),(3,.sl 80 (.sl .b)),(4,.fm 26 (.sl (.i .i64)) 0 3 (.i .i64)),(5,.sl 3 (.i .i64))]⟩,⟨[(12,.mw 13)],[(13,.sl 3 (.i .i64))]⟩,[1,13,2,3,8],[12,2,0,1],14,false,""⟩),(16,⟨⟨[(16,.c (.i .i64)),(12,.mw 10),(11,.ptr 9 0)],[(10,.sl 3 (.i .i64)),(9,.bx 88 [.mw 3,.fw 4,.mw 5]),(3,.sl 80 (.sl .b)),(4,.fm 26 (.sl (.i .i64)) 0 3 (.i .i64)),(5,.sl 3 (.i .i64))]⟩,⟨[(12,.mw 13),(11,.ptr 14 0)],[(13,.sl 3 (.i .i64)),(14,.bx 88 [.mw 15,.fw 16,.mw 17]),(15,.sl 80 (.sl .b)),(16,.fm 26 (.sl (.i .i64)) 0 3 (.i .i64)),(17,.sl 3 (.i .i64))]⟩,[15],[],18,false,""⟩),(0,⟨⟨[(14,.c (.i .i64)),(13,.mw 10)],[(10,.sl 3 (.i .i64))]⟩,⟨[(13,.mw 12)],[(12,.sl 3 (.i .i64))]⟩,[1,2,3,12,11,8],[11,9,3,4,5,2,0,1],13,false,""⟩),(8,⟨⟨[(15,.c (.i .i64)),(12,.mw 11),(11,.ptr 9 0)],[(11,.sl 3 (.i .i64)),(9,.bx 88 [.mw 3,.fw 4,.mw 5]),(3,.sl 80 (.sl .b)),(4,.fm 26 (.sl (.i .i64)) 0 3 (.i .i64)),(5,.sl 3 (.i .i64))]⟩,⟨[(12,.mw 13)],[(13,.sl 3 (.i .i64))]⟩,[1,13,2,3,8],[12,2,0,1],14,false,""⟩),(16,⟨⟨[(16,.c (.i .i64)),(12,.mw 11),(11,.ptr 9 0)],[(11,.sl 3 (.i .i64)),(9,.bx 88 [.mw 3,.fw 4,.mw 5]),(3,.sl 80 (.sl .b)),(4,.fm 26 (.sl (.i .i64)) 0 3 (.i .i64)),(5,.sl 3 (.i .i64))]⟩,⟨[(12,.mw 13),(11,.ptr 14 0)],[(13,.sl 3 (.i .i64)),(14,.bx 88 [.mw 15,.fw 16,.mw 17]),(15,.sl 80 (.sl .b)),(16,.fm 26 (.sl (.i .i64)) 0 3 (.i .i64)),(17,.sl 3 (.i .i64))]⟩,[15],[],18,false,""⟩)]) [(67,khV),(33,kik),(34,kjV),(66,kkU),(65,kiP),(32,kka)] (.cons kkm <| .cons kkH <| .cons kmS <| .cons knE <| .cons klH <| .cons kmu <| .nil) (fun x=>by kernel_rfl)
def ref08_Buy_B16:Ctr:=⟨ "",[],[],fun _=>none,[],[]⟩
theorem ref08_Buy_B16_ok:Good Try.prog 21 ref08_Buy_B16:=good_dm
def kjT:Ctr:=⟨ "",ref08_Buy_B16.as,ref08_Buy_B16.rs,ref08_Buy_B16.F,ref08_Buy_m0_M::ref08_Buy_B16.mus,ref08_Buy_B16.its⟩
theorem kmv:Good Try.prog 21 kjT:=(ref08_Buy_B16_ok.more klO)
def law08_spoil_m0_M:CtrM:=⟨ "",[none],⟨[(0,.mw 0)],[(0,.sl 82 (.pr (.i .i64) (.pr (.i .u8) (.i .i64))))]⟩,1,⟨[(0,.mw 0)],[(0,.sl 82 (.pr (.i .i64) (.pr (.i .u8) (.i .i64))))]⟩,1,0,fun x=>keN x,false⟩
theorem kkh:law08_spoil_m0_M.ok=true/\GoodM Try.prog 22 law08_spoil_m0_M:=
 kbe Try.func22 (by kernel_rfl) (An:=[(0,⟨⟨[(5,.c (.i .i64))],[(0,.sl 82 (.pr (.i .i64) (.pr (.i .u8) (.i .i64))))]⟩,⟨[],[(0,.sl 82 (.pr (.i .i64) (.pr (.i .u8) (.i .i64))))]⟩,[4],[],2,false,""⟩)]) [] (.nil) (fun x=>by kernel_rfl)
def law08_spoil_C:Ctr:=⟨ "",[],[],fun _=>none,[],[]⟩
theorem law08_spoil_C_ok:Good Try.prog 22 law08_spoil_C:=good_dm
def kig:Ctr:=⟨ "",law08_spoil_C.as,law08_spoil_C.rs,law08_spoil_C.F,law08_spoil_m0_M::law08_spoil_C.mus,law08_spoil_C.its⟩
theorem kkE:Good Try.prog 22 kig:=(law08_spoil_C_ok.more kkh)
def kmK:Ctr:=⟨ "",[(.sl (.pr (.i .i64) (.pr (.i .u8) (.i .i64)))),(.sl (.pr (.i .i64) (.pr (.i .u8) (.i .i64)))),(.sl tSwap),(.sl (.pr (.i .i64) (.pr (.i .u8) (.i .i64))))],[.b],fun x=>kgm x.1 x.2.1 x.2.2.1 x.2.2.2,[],[]⟩
theorem law08_BoxBills_C_ok:Good Try.prog 5 kmK:=
 kal Try.func5 (by kernel_rfl) (An:=[(26,⟨⟨[],[]⟩,⟨[(15,.c .b)],[]⟩,[11,13,12,14,9,0,10,1],[9,5,6,14,10,11,2,4],15,false,""⟩)]) [(21,kjT),(20,klX),(22,kig),(19,khc),(14,khF),(7,kla)] (.cons kmv <| .cons koC <| .cons kkE <| .cons kjI <| .cons kkj <| .cons knC <| .nil) (fun x=>by kernel_rfl)
end Go.Abs
namespace Go.Abs
open Go
abbrev It:=Int×Int×Int
def vP (x:It):Bool:=decide (0<=x.1)&&decide (x.1<=15)&&decide (x.2.1<=15)
def ltI (x y:It):Bool:=decide (x.1<y.1)||(x.1==y.1&&decide (x.2.1<y.2.1))
def okN (x:It):Bool:=decide (1<=x.2.2)&&decide (x.2.2<=1000)
def badI (l:List It) (i:Nat) (x:It):Bool:=!vP x||(decide (0<i)&&!ltI ((l[i-1]?).getD x) x)
def ordI (a b:Int×Int):Int:=if a.1<b.1 then -1 else if b.1<a.1 then 1 else if a.2<b.2 then -1 else if b.2<a.2 then 1 else 0
def stk (l:List It):Bool:=decide (l.length<=30)&&!(l.zipIdx.any fun x=>badI l x.2 x.1)&&l.all okN
@[simp] theorem keg (n lo hi:Int):kcS n lo hi=some (decide (lo<=n)&&decide (n<=hi)):=by
 unfold kcS; by_cases h:lo<=n <;> simp [h]
@[simp] theorem kwH (lo hi n:Int):kgq lo hi n=some (decide (lo<=n)&&decide (n<=hi)):=by
 unfold kgq; by_cases h:lo<=n <;> simp [h]
@[simp] theorem kfa (x:It):kbN (x.1,x.2.1)=some (vP x):=by
 unfold kbN vP
 by_cases h1:0<=x.1 <;> by_cases h2:x.1<=15 <;> simp [h1,h2]
@[simp] theorem kfN (x:It):kco x.1 x.2.1=some (vP x):=by
 unfold kco vP
 by_cases h1:0<=x.1 <;> by_cases h2:x.1<=15 <;> simp [h1,h2]
@[simp] theorem kiv (x y:It):kcU x.1 x.2.1 y.1 y.2.1=some (ltI x y):=by
 unfold kcU ltI
 by_cases h1:x.1<y.1
 ·simp [h1]
 ·by_cases h2:x.1=y.1 <;> simp [h1,h2]
def cmpI (a b:Int):Int:=if a<b then -1 else if b<a then 1 else 0
@[simp] theorem ksR (a b:Int):kee a b=some (cmpI a b):=by
 unfold kee kfs cmpI
 by_cases h1:a<b <;> by_cases h2:b<a <;> simp [h1,h2]
@[simp] theorem kua (a b:Int):kdB a b=some (cmpI a b):=by
 unfold kdB ked cmpI
 by_cases h1:a<b <;> by_cases h2:b<a <;> simp [h1,h2]
@[simp] theorem ktY (a b:Int):khg [a,b]=some (if a≠0 then a else b):=by
 unfold khg
 rw [kdm (F:=kfv [a,b]) [a,b] (by simp) (fun i x=>if x != 0 then some x else none) (fun i hi=>by
  unfold kfv
  have h2:i<2:=by simpa using hi
  rw [if_pos (by rw [kae]; simp; omega),kaj hi,kam (by omega)]
  simp only [jab]
  by_cases h:([a,b][i] != 0)=true <;> simp [h,nextL]) (by unfold kfv; rw [if_neg (by simp [kae])])]
 simp only [jbv,List.zipIdx_nil,jdh,List.findSome?_nil]
 by_cases ha:a=0
 ·by_cases hb:b=0 <;> simp [ha,hb,endL]
 ·simp [ha,endL]
theorem kia (a b:Int×Int):keC a b=some (ordI a b):=by
 unfold keC ordI
 simp only [ksR,kua,jab,ktY,cmpI]
 by_cases h1:a.1<b.1
 ·simp [h1]
 ·by_cases h2:b.1<a.1 <;> simp [h1,h2]
theorem ksD (x y:It):decide (0<=ordI (x.1,x.2.1) (y.1,y.2.1)) = !ltI x y:=by
 unfold ordI ltI
 by_cases h1:x.1<y.1
 ·simp [h1]
 ·by_cases h2:y.1<x.1
  ·simp [h1,h2]; omega
  ·have h3:x.1=y.1:=by omega
   by_cases h4:x.2.1<y.2.1
   ·simp [h1,h2,h3,h4]
   ·by_cases h5:y.2.1<x.2.1 <;> simp [h1,h2,h3,h4,h5]
theorem kuk {α:Type} (p q:α->Bool) (l:List α):(l.any fun x=>p x||q x)=(l.any p||l.any q):=by
 induction l with
 | nil=>rfl
 | cons x l ih=>simp only [jdm,ih]; cases p x <;> cases q x <;> simp
theorem kou {α:Type} (q:α->Bool):∀ (l:List α) (k:Nat),((l.zipIdx k).any fun x=>q x.1)=l.any q
 | [],k=>rfl
 | x::l,k=>by rw [jbv,jdm,jdm,kou q l (k+1)]
theorem kim {l:List It} {i:Nat} (hi:i<l.length) (x:It):(l[i-1]?).getD x=l[i-1]:=by rw [jae (by omega)]; rfl
theorem knW (l:List It) (hl:l.length<=1000):kcI l 30 (fun u=>(kbH u).bind fun v=>some v)=some (!(l.zipIdx.any fun x=>badI l x.2 x.1)&&decide (l.length<=30)):=by
 unfold kcI
 rw [kdI (F:=kcd l _) false l (by omega) (badI l) (fun i hi=>?_) (by unfold kcd; rw [if_neg (by simp [kae])])]
 ·by_cases h:(l.zipIdx.any fun x=>badI l x.2 x.1)=true
  rotate_left
  ·rw [jbs] at h
   simp only [h,jai,if_false,jab,jdx,Bool.true_and,kae]
   congr 2; simp only [eq_iff_iff]; omega
  ·simp [h]
 ·unfold kcd
  rw [if_pos (by rw [kae]; simpa using hi),kaj hi,kam (by omega)]
  simp only [jab,kbH,kfa,badI]
  by_cases hv:vP l[i]=true
  rotate_left
  ·rw [jbs] at hv; simp [hv]
  ·simp only [hv,jdr,jai,if_false,jcj]
   by_cases h0:0<i
   ·rw [if_pos (by simpa using h0),kio h0 (by omega),kaj (by omega)]
    simp only [jab,kia,ksD,kim hi,h0,decide_true,Bool.true_and]
    by_cases h9:ltI l[i-1] l[i]=true <;> simp [h9]
   ·have:i=0:=by omega
    subst this; simp
theorem kiQ {α:Type} (p:α->Bool) (l:List α):(l.any fun x=>!p x) = !l.all p:=by
 induction l with
 | nil=>rfl
 | cons x l ih=>simp only [jdm,jdw,ih,Bool.not_and]
theorem krJ (l:List It) (hl:l.length<=1000) (p:It->Bool):kaH l (fun x=>some (p x))=some (l.any p):=by
 unfold kaH kbm
 rw [kdm (F:=kaI l _) l (by omega) (fun i x=>if p x then some (i:Int) else none) (fun i hi=>by
  unfold kaI
  rw [if_pos (by rw [kae]; simpa using hi),kaj hi,kam (by omega)]
  simp only [jab]
  by_cases h:p l[i]=true <;> simp [h,nextL]) (by unfold kaI; rw [if_neg (by simp [kae])])]
 have:∀ (l:List It) (k:Nat),endL ((l.zipIdx k).findSome? fun x=>if p x.1 then some (x.2:Int) else none)=(if l.any p then .inl ((k:Int)+(l.findIdx p:Nat)) else .inr ()):=by
  intro l
  induction l with
  | nil=>intro k; rfl
  | cons x l ih=>
   intro k
   rw [jbv,jdh,jdm,List.findIdx_cons]
   cases hp:p x with
   | true=>simp [endL]
   | false=>
    simp only [jai,if_false,jcj,cond_false]
    rw [ih (k+1)]
    congr 2; push_cast; omega
 rw [this l 0]
 by_cases h:l.any p=true <;> simp [h]
theorem krb (l:List It) (hl:l.length<=1000):kir l=some (if stk l then 0 else 8):=by
 unfold kir
 rw [knW l hl]
 have e:(fun u0:It=>(kfQ u0).bind fun u1=>some u1)=fun u=>some (!okN u):=by
  funext u; simp [kfQ,okN]
 rw [e,krJ l hl,kiQ]
 simp only [jab,stk]
 by_cases h1:(l.zipIdx.any fun x=>badI l x.2 x.1)=true <;> by_cases h2:l.length<=30 <;> by_cases h3:l.all okN=true <;> (try rw [jbs] at h1) <;> (try rw [jbs] at h3) <;> simp only [h1,h2,h3] <;> rfl
theorem kiY (l:List It):kfi l=some (stk l):=by
 unfold kfi stk
 rw [kae]
 by_cases hl:(30:Int)<l.length
 ·rw [if_pos (by simpa using hl)]
  have:¬ l.length<=30:=by omega
  simp [this]
 ·rw [if_neg (by simpa using hl)]
  have h30:l.length<=30:=by omega
  rw [kdI (F:=keL l) false l (by omega) (fun i x=>badI l i x||!okN x) (fun i hi=>?_) (by unfold keL; rw [if_neg (by simp [kae])])]
  ·rw [kuk (fun x:It×Nat=>badI l x.2 x.1) (fun x=>!okN x.1),kou (fun x=>!okN x),kiQ]
   by_cases h1:(l.zipIdx.any fun x=>badI l x.2 x.1)=true <;> by_cases h2:l.all okN=true <;> simp [h30,h1,h2]
  ·unfold keL
   rw [if_pos (by rw [kae]; simpa using hi),kaj hi,kam (by omega)]
   simp only [jab,kfN,badI,keg]
   rw [show (decide (1<=l[i].2.2)&&decide (l[i].2.2<=1000))=okN l[i] from rfl]
   by_cases hv:vP l[i]=true
   rotate_left
   ·rw [jbs] at hv; simp [hv]
   ·by_cases hn:okN l[i]=true
    rotate_left
    ·rw [jbs] at hn; simp [hv,hn]
    ·simp only [hv,hn,jdr,jai,if_false,jcj,Bool.or_false]
     by_cases h0:0<i
     ·rw [if_pos (by simpa using h0),kio h0 (by omega),kaj (by omega)]
      simp only [jab,kim hi,h0,decide_true,Bool.true_and]
      rw [show kcU l[i-1].1 l[i-1].2.1 l[i].1 l[i].2.1=_ from kiv l[i-1] l[i]]
      simp only [jab]
      by_cases h9:ltI l[i-1] l[i]=true <;> simp [h9]
     ·have:i=0:=by omega
      subst this; simp
end Go.Abs
namespace Go.Abs.Fl
open Go Go.Abs
def sumN (f:Nat->Int):Nat->Int
 | 0=>0
 | n+1=>sumN f n+f n
theorem kaN {f g:Nat->Int}:∀ {n:Nat},(∀ i,i<n->f i=g i)->sumN f n=sumN g n
 | 0,_=>rfl
 | n+1,h=>by simp only [sumN]; rw [kaN fun i hi=>h i (by omega),h n (by omega)]
theorem keI {f:Nat->Int}:∀ {n:Nat},(∀ i,i<n->0<=f i)->0<=sumN f n
 | 0,_=>jdv 0
 | n+1,h=>by
  have:=keI (f:=f) (n:=n) fun i hi=>h i (by omega)
  have:=h n (by omega)
  simp only [sumN]; omega
theorem knq {f:Nat->Int}:∀ {n:Nat},(∀ i,i<n->0<=f i)->sumN f n<=0->∀ i,i<n->f i=0
 | 0,_,_,i,hi=>by omega
 | n+1,h,e,i,hi=>by
  have h1:=keI (f:=f) (n:=n) fun i hi=>h i (by omega)
  have h2:=h n (by omega)
  simp only [sumN] at e
  by_cases hn:i=n
  ·subst hn; show f i=0; omega
  ·exact knq (f:=f) (n:=n) (fun i hi=>h i (by omega)) (by omega) i (by omega)
theorem kmF (f g:Nat->Int):∀ n:Nat,sumN (fun i=>f i+g i) n=sumN f n+sumN g n
 | 0=>rfl
 | n+1=>by simp only [sumN]; rw [kmF f g n]; omega
theorem kmg (f g:Nat->Int):∀ n:Nat,sumN (fun i=>f i-g i) n=sumN f n-sumN g n
 | 0=>rfl
 | n+1=>by simp only [sumN]; rw [kmg f g n]; omega
theorem khN:∀ n:Nat,sumN (fun _=>0) n=0
 | 0=>rfl
 | n+1=>by simp only [sumN]; rw [khN n]; rfl
theorem koR (f:Nat->Nat->Int) (m:Nat):∀ n:Nat,sumN (fun i=>sumN (f i) m) n=sumN (fun j=>sumN (fun i=>f i j) n) m
 | 0=>by simp only [sumN]; rw [khN]
 | n+1=>by simp only [sumN]; rw [koR f m n,<-kmF]
theorem kuH (b:Bool) (f:Nat->Int) (n:Nat):(if b=true then sumN f n else 0)=sumN (fun i=>if b=true then f i else 0) n:=by
 cases b
 ·simp [khN]
 ·simp
theorem kfC {f g:Nat->Int} {i:Nat} {d:Int} (h:g i=f i+d):∀ {n:Nat},i<n->(∀ j,j<n->j≠i->g j=f j)->sumN g n=sumN f n+d
 | 0,hi,_=>by omega
 | n+1,hi,ho=>by
  simp only [sumN]
  by_cases e:i=n
  ·subst e
   rw [kaN (f:=g) (g:=f) fun j hj=>ho j (by omega) (by omega),h]; omega
  ·rw [kfC h (n:=n) (by omega) fun j hj hn=>ho j (by omega) hn,ho n (by omega) (by omega)]; omega
theorem kqN {f:Nat->Int}:∀ {n:Nat},(∀ i,i<n->0<=f i)->∀ {i:Nat},i<n->f i<=sumN f n
 | 0,_,i,hi=>by omega
 | n+1,h,i,hi=>by
  have h1:=keI (f:=f) (n:=n) fun i hi=>h i (by omega)
  have h2:=h n (by omega)
  simp only [sumN]
  by_cases hn:i=n
  ·subst hn; omega
  ·have:=kqN (fun i hi=>h i (by omega)) (n:=n) (i:=i) (by omega); omega
section
variable (n m:Nat) (cap:Nat->Int) (may:Nat->Nat->Prop)
structure Val (u:Nat->Nat->Int) (l:Nat->Int):Prop where
 nn:∀ k,k<n->∀ j,j<m->0<=u k j
 ok:∀ k,k<n->∀ j,j<m->0<u k j->may k j
 ln:∀ j,j<m->0<=l j
 bal:∀ j,j<m->l j+sumN (fun k=>u k j) n=cap j
structure Sat (u:Nat->Nat->Int) (l:Nat->Int) (S:Nat->Bool):Prop where
 z:∀ k,k<n->S k=true->∀ j,j<m->may k j->l j=0
 c:∀ k,k<n->S k=true->∀ j,j<m->may k j->∀ k',k'<n->0<u k' j->S k'=true
end
def row (m:Nat) (u:Nat->Nat->Int) (k:Nat):Int:=sumN (u k) m
variable {n m:Nat} {cap:Nat->Int} {may:Nat->Nat->Prop} {u u':Nat->Nat->Int} {l l':Nat->Int} {S T:Nat->Bool}
theorem ksA (v:Val n m cap may u l) (hT:∀ k,k<n->S k=true->∀ j,j<m->may k j->T j=true) :
  sumN (fun k=>if S k=true then row m u k else 0) n=sumN (fun j=>if T j=true then sumN (fun k=>if S k=true then u k j else 0) n else 0) m:=by
 rw [kaN (f:=fun k=>if S k=true then row m u k else 0) (g:=fun k=>sumN (fun j=>if S k=true then u k j else 0) m) fun k hk=>kuH (S k) (u k) m]
 rw [koR]
 apply kaN
 intro j hj
 by_cases t:T j=true
 ·rw [if_pos t]
 ·rw [if_neg t,kaN (g:=fun _=>0) fun k hk=>?_,khN]
  by_cases s:S k=true
  ·rw [if_pos s]
   by_cases hp:0<u k j
   ·exact absurd (hT k hk s j hj (v.ok k hk j hj hp)) t
   ·have:=v.nn k hk j hj; omega
  ·rw [if_neg s]
theorem kru (v:Val n m cap may u l) (v':Val n m cap may u' l') (s:Sat n m may u l S) (h:∀ k,k<n->S k=true->row m u k<=row m u' k) :
  Sat n m may u' l' S/\∀ k,k<n->S k=true->row m u k=row m u' k:=by
 classical
 obtain ⟨T,hT⟩:∃ T:Nat->Bool,∀ j,T j=true↔∃ k,k<n/\S k=true/\may k j:=⟨fun j=>decide (∃ k,k<n/\S k=true/\may k j),fun j=>by simp⟩
 have hT1:∀ k,k<n->S k=true->∀ j,j<m->may k j->T j=true:=fun k hk hs j _ hm=>(hT j).2 ⟨k,hk,hs,hm⟩
 have e1:=ksA v hT1
 have e2:=ksA v' hT1
 have e3:sumN (fun j=>if T j=true then sumN (fun k=>if S k=true then u k j else 0) n else 0) m=sumN (fun j=>if T j=true then cap j else 0) m:=by
  apply kaN
  intro j hj
  by_cases t:T j=true
  ·rw [if_pos t,if_pos t]
   obtain ⟨k,hk,hs,hm⟩:=(hT j).1 t
   rw [<-v.bal j hj,s.z k hk hs j hj hm,Int.zero_add]
   apply kaN
   intro k' hk'
   by_cases s':S k'=true
   ·rw [if_pos s']
   ·rw [if_neg s']
    by_cases hp:0<u k' j
    ·exact absurd (s.c k hk hs j hj hm k' hk' hp) s'
    ·have:=v.nn k' hk' j hj; omega
  ·rw [if_neg t,if_neg t]
 have e4:sumN (fun j=>if T j=true then sumN (fun k=>if S k=true then u' k j else 0) n else 0) m
   = sumN (fun j=>if T j=true then cap j else 0) m-sumN (fun j=>if T j=true then l' j+sumN (fun k=>if S k=true then 0 else u' k j) n else 0) m:=by
  rw [<-kmg]
  apply kaN
  intro j hj
  by_cases t:T j=true
  ·simp only [if_pos t]
   rw [<-v'.bal j hj]
   have:sumN (fun k=>u' k j) n=sumN (fun k=>if S k=true then u' k j else 0) n+sumN (fun k=>if S k=true then 0 else u' k j) n:=by
    rw [<-kmF]
    apply kaN
    intro k hk
    by_cases s':S k=true
    ·simp [s']
    ·simp [s']
   omega
  ·simp only [if_neg t]; rfl
 have nB:∀ j,j<m->0<=(if T j=true then l' j+sumN (fun k=>if S k=true then 0 else u' k j) n else 0):=by
  intro j hj
  split
  ·have h1:=v'.ln j hj
   have h2:=keI (f:=fun k=>if S k=true then 0 else u' k j) (n:=n) fun k hk=>by
    show 0<=if S k=true then 0 else u' k j
    split
    ·omega
    ·exact v'.nn k hk j hj
   omega
  ·omega
 have nA:∀ k,k<n->0<=(if S k=true then row m u' k else 0)-(if S k=true then row m u k else 0):=by
  intro k hk
  by_cases s':S k=true
  ·simp only [if_pos s']; have:=h k hk s'; omega
  ·simp only [if_neg s']; omega
 have sA:=keI nA
 have sB:=keI nB
 have e5:=kmg (fun k=>if S k=true then row m u' k else 0) (fun k=>if S k=true then row m u k else 0) n
 have zA:=knq nA (by omega)
 have zB:=knq nB (by omega)
 refine ⟨⟨?_,?_⟩,?_⟩
 ·intro k hk hs j hj hm
  have:=zB j hj
  rw [if_pos (hT1 k hk hs j hj hm)] at this
  have h1:=v'.ln j hj
  have h2:=keI (f:=fun k=>if S k=true then 0 else u' k j) (n:=n) fun k hk=>by
   show 0<=if S k=true then 0 else u' k j
   split
   ·omega
   ·exact v'.nn k hk j hj
  omega
 ·intro k hk hs j hj hm k' hk' hp
  have:=zB j hj
  rw [if_pos (hT1 k hk hs j hj hm)] at this
  have h1:=v'.ln j hj
  have h3:∀ k,k<n->0<=(fun k=>if S k=true then 0 else u' k j) k:=fun k hk=>by
   show 0<=if S k=true then 0 else u' k j
   split
   ·omega
   ·exact v'.nn k hk j hj
  have h2:=keI h3
  have h4:=knq h3 (by omega) k' hk'
  by_cases s':S k'=true
  ·exact s'
  ·simp only [if_neg s'] at h4; omega
 ·intro k hk hs
  have:=zA k hk
  simp only [if_pos hs] at this; omega
theorem ksI (v:Val n m cap may u l) (v':Val n m cap may u' l') (s:Sat n m may u l S) {i:Nat} (hi:i<n) (hs:S i=true) (h:∀ k,k<n->k≠i->row m u k<=row m u' k):row m u' i<=row m u i:=by
 by_cases c:row m u' i<=row m u i
 ·exact c
 ·have:=(kru v v' s fun k hk hS=>by
   by_cases e:k=i
   ·subst e; omega
   ·exact h k hk e).2 i hi hs
  omega
theorem Val.take (v:Val n m cap may u l) {i j:Nat} {d:Int} (hi:i<n) (hj:j<m) (hm:may i j) (hd:0<=d) (hl:d<=l j)
  (h1:l' j=l j-d) (h2:u' i j=u i j+d) (h3:∀ j',j'<m->j'≠j->l' j'=l j') (h4:∀ k,k<n->∀ j',j'<m->¬ (k=i/\j'=j)->u' k j'=u k j') :
  Val n m cap may u' l'/\row m u' i=row m u i+d/\∀ k,k<n->k≠i->row m u' k=row m u k:=by
 refine ⟨⟨?_,?_,?_,?_⟩,?_,?_⟩
 ·intro k hk j' hj'
  by_cases e:k=i/\j'=j
  ·obtain ⟨rfl,rfl⟩:=e; rw [h2]; have:=v.nn k hk j' hj'; omega
  ·rw [h4 k hk j' hj' e]; exact v.nn k hk j' hj'
 ·intro k hk j' hj' hp
  by_cases e:k=i/\j'=j
  ·obtain ⟨rfl,rfl⟩:=e; exact hm
  ·rw [h4 k hk j' hj' e] at hp; exact v.ok k hk j' hj' hp
 ·intro j' hj'
  by_cases e:j'=j
  ·subst e; omega
  ·rw [h3 j' hj' e]; exact v.ln j' hj'
 ·intro j' hj'
  by_cases e:j'=j
  ·subst e
   rw [<-v.bal j' hj',h1,kfC (f:=fun k=>u k j') (g:=fun k=>u' k j') (i:=i) (d:=d) h2 hi fun k hk hn=>h4 k hk j' hj' (by omega)]; omega
  ·rw [<-v.bal j' hj',h3 j' hj' e,kaN fun k hk=>h4 k hk j' hj' (by omega)]
 ·exact kfC h2 hj fun j' hj' hn=>h4 i hi j' hj' (by omega)
 ·intro k hk hn
  exact kaN fun j' hj'=>h4 k hk j' hj' (by omega)
theorem Val.swap (v:Val n m cap may u l) {i k j:Nat} {d:Int} (hi:i<n) (hk:k<n) (hj:j<m) (hm:may i j) (hd:0<=d) (hl:d<=u k j) (ne:k≠i)
  (h1:u' k j=u k j-d) (h2:u' i j=u i j+d) (h4:∀ k',k'<n->∀ j',j'<m->¬ (k'=i/\j'=j)->¬ (k'=k/\j'=j)->u' k' j'=u k' j') :
  Val n m cap may u' l/\row m u' i=row m u i+d/\row m u' k=row m u k-d/\∀ k',k'<n->k'≠i->k'≠k->row m u' k'=row m u k':=by
 refine ⟨⟨?_,?_,v.ln,?_⟩,?_,?_,?_⟩
 ·intro a ha j' hj'
  by_cases e:a=i/\j'=j
  ·obtain ⟨rfl,rfl⟩:=e; rw [h2]; have:=v.nn a ha j' hj'; omega
  ·by_cases e2:a=k/\j'=j
   ·obtain ⟨rfl,rfl⟩:=e2; rw [h1]; omega
   ·rw [h4 a ha j' hj' e e2]; exact v.nn a ha j' hj'
 ·intro a ha j' hj' hp
  by_cases e:a=i/\j'=j
  ·obtain ⟨rfl,rfl⟩:=e; exact hm
  ·by_cases e2:a=k/\j'=j
   ·obtain ⟨rfl,rfl⟩:=e2; exact v.ok a ha j' hj' (by omega)
   ·rw [h4 a ha j' hj' e e2] at hp; exact v.ok a ha j' hj' hp
 ·intro j' hj'
  by_cases e:j'=j
  ·subst e
   rw [<-v.bal j' hj']
   let w:Nat->Int:=fun a=>if a=i then u i j'+d else u a j'
   have e1:sumN w n=sumN (fun a=>u a j') n+d:=kfC (i:=i) (by simp [w]) hi fun a ha hn=>by simp [w,hn]
   have e2:sumN (fun a=>u' a j') n=sumN w n+(-d):=kfC (i:=k) (by simp only [w,if_neg ne]; omega) hk fun a ha hn=>by
    by_cases ea:a=i
    ·subst ea; simp only [w,if_true]; exact h2
    ·simp only [w,if_neg ea]; exact h4 a ha j' hj' (by omega) (by omega)
   omega
  ·rw [<-v.bal j' hj',kaN fun a ha=>h4 a ha j' hj' (by omega) (by omega)]
 ·exact kfC h2 hj fun j' hj' hn=>h4 i hi j' hj' (by omega) (by omega)
 ·have:=kfC (f:=u k) (g:=u' k) (i:=j) (d:=-d) (by omega) hj fun j' hj' hn=>h4 k hk j' hj' (by omega) (by omega)
  unfold row; omega
 ·intro a ha hn hn2
  exact kaN fun j' hj'=>h4 a ha j' hj' (by omega) (by omega)
inductive Rch (n m:Nat) (may:Nat->Nat->Prop) (u:Nat->Nat->Int) (L:Nat->Prop):Nat->Prop
 | base {i:Nat}:i<n->L i->Rch n m may u L i
 | step {i j k:Nat}:Rch n m may u L i->j<m->may i j->k<n->0<u k j->Rch n m may u L k
theorem Rch.lt {L:Nat->Prop} {i:Nat} (h:Rch n m may u L i):i<n:=by cases h <;> assumption
theorem iter_inv {α β:Type} {F:α->Option (α⊕β)} (I:α->Prop) (m:α->Nat) (R:β->Prop)
  (h:∀ x,I x->(∃ z,F x=some (.inr z)/\R z)\/∃ y,F x=some (.inl y)/\I y/\m y<m x) (x:α) (hx:I x) (hm:m x<18446744073709551616):∃ z,iter F x=some z/\R z:=by
 have:∀ n x,I x->m x<n->∃ z,itN F n x=some z/\R z:=by
  intro n
  induction n with
  | zero=>intro x _ h0; omega
  | succ n ih=>
   intro x hx hm
   rcases h x hx with ⟨z,e,hz⟩ | ⟨y,e,hy,hlt⟩
   ·exact ⟨z,khP e,hz⟩
   ·rw [kmY e]; exact ih y hy (by omega)
 obtain ⟨z,e,hz⟩:=this 18446744073709551616 x hx hm
 exact ⟨z,kly e (jag _),hz⟩
def ua (U:List (List Int)) (k j:Nat):Int:=(U.getD k []).getD j 0
def la (L:List Int) (j:Nat):Int:=L.getD j 0
def sa (s:List Bool) (j:Nat):Bool:=s.getD j false
def upd (U:List (List Int)) (k j:Nat) (x:Int):List (List Int):=U.set k ((U.getD k []).set j x)
structure Shp (n m:Nat) (U:List (List Int)) (L:List Int):Prop where
 u:U.length=n
 r:∀ k,k<n->(U.getD k []).length=m
 l:L.length=m
theorem gi_D {α:Type} {l:List α} {i:Nat} (d:α) (h:i<l.length):gi l (i:Int)=some (l.getD i d):=by rw [kaj h,jbl,jae h]; rfl
section
variable {n m:Nat} {U:List (List Int)} {L:List Int} {k j:Nat} {x:Int}
theorem Shp.gu (h:Shp n m U L) (hk:k<n):gi U (k:Int)=some (U.getD k []):=gi_D [] (by rw [h.u]; exact hk)
theorem Shp.guj (h:Shp n m U L) (hk:k<n) (hj:j<m):gi (U.getD k []) (j:Int)=some (ua U k j):=gi_D 0 (by rw [h.r k hk]; exact hj)
theorem Shp.gl (h:Shp n m U L) (hj:j<m):gi L (j:Int)=some (la L j):=gi_D 0 (by rw [h.l]; exact hj)
theorem gs {s:List Bool} (hs:s.length=m) (hj:j<m):gi s (j:Int)=some (sa s j):=gi_D false (by omega)
theorem kqK:lset U (k:Int) (lset (U.getD k []) (j:Int) x)=upd U k j x:=rfl
theorem getD_set {α:Type} {l:List α} {i j:Nat} {x d:α} (h:i<l.length):(l.set i x).getD j d=if j=i then x else l.getD j d:=by
 rw [jbl,jbl,jcl]
 by_cases e:j=i
 ·subst e; simp [h]
 ·rw [if_neg (fun h=>e h.symm),if_neg e]
theorem Shp.upd (h:Shp n m U L) (hk:k<n) (hj:j<m):Shp n m (upd U k j x) L:=by
 refine ⟨by simp [Fl.upd,h.u],fun k' hk'=>?_,h.l⟩
 unfold Fl.upd
 rw [getD_set (by rw [h.u]; exact hk)]
 split
 ·rw [jby]; exact h.r k hk
 ·exact h.r k' hk'
theorem Shp.ua_upd (h:Shp n m U L) (hk:k<n) (hj:j<m) (k' j':Nat):ua (Fl.upd U k j x) k' j'=if k'=k/\j'=j then x else ua U k' j':=by
 unfold ua Fl.upd
 rw [getD_set (by rw [h.u]; exact hk)]
 by_cases e:k'=k
 ·subst e
  rw [if_pos rfl,getD_set (by rw [h.r _ hk]; exact hj)]
  simp
 ·rw [if_neg e,if_neg (fun h=>e h.1)]
theorem Shp.setL (h:Shp n m U L):Shp n m U (L.set j x):=⟨h.u,h.r,by simp [h.l]⟩
theorem krB (hj:j<L.length) (j':Nat):la (L.set j x) j'=if j'=j then x else la L j':=getD_set hj
theorem kfM {s:List Bool} (hj:j<s.length) (j':Nat):sa (s.set j true) j'=if j'=j then true else sa s j':=getD_set hj
end
def uns (s:List Bool):Nat:=s.countP (fun b=>!b)
theorem kog:∀ {s:List Bool} {j:Nat},j<s.length->sa s j=false->uns (s.set j true)+1=uns s
 | [],j,h,_=>by simp at h
 | b::s,0,_,h=>by
  have:b=false:=by simpa [sa] using h
  subst this
  simp [uns,List.countP_cons]
 | b::s,j+1,h,h2=>by
  have:=kog (s:=s) (j:=j) (by simpa using h) (by simpa [sa] using h2)
  simp only [uns,List.set_cons_succ,List.countP_cons] at this ⊢
  omega
theorem khD:∀ {s s':List Bool},s'.length=s.length->(∀ j,sa s j=true->sa s' j=true)->uns s'<=uns s
 | [],[],_,_=>jag _
 | [],_::_,h,_=>by simp at h
 | _::_,[],h,_=>by simp at h
 | b::s,b'::s',h,hm=>by
  have:=khD (s:=s) (s':=s') (by simpa using h) fun j hj=>by simpa [sa] using hm (j+1) (by simpa [sa] using hj)
  have h0:=hm 0
  simp only [sa,List.getD_cons_zero] at h0
  simp only [uns,List.countP_cons] at this ⊢
  cases b <;> cases b' <;> simp at h0 ⊢ <;> omega
section
variable (n m:Nat) (cap:Nat->Int) (may:Nat->Nat->Prop)
def Cl (U:List (List Int)) (L:List Int) (s s':List Bool):Prop:=
 ∀ j,j<m->sa s' j=true->sa s j=false->la L j=0/\∀ k,k<n->0<ua U k j->∀ j',j'<m->may k j'->sa s' j'=true
structure Post (i:Nat) (most:Int) (U:List (List Int)) (L:List Int) (s:List Bool) (r:Int) (U':List (List Int)) (L':List Int) (s':List Bool):Prop where
 sh:Shp n m U' L'
 sl:s'.length=m
 mono:∀ j,sa s j=true->sa s' j=true
 v:Val n m cap may (ua U') (la L')
 fr:∀ j,j<m->sa s j=true->la L' j=la L j/\∀ k,k<n->ua U' k j=ua U k j
 r0:0<=r
 r1:r<=most
 ri:row m (ua U') i=row m (ua U) i+r
 ro:∀ k,k<n->k≠i->row m (ua U') k=row m (ua U) k
 z:r=0->U'=U/\L'=L/\(∀ j,j<m->may i j->sa s' j=true)/\Cl n m may U L s s'
end
variable {n m:Nat} {cap:Nat->Int} {may:Nat->Nat->Prop} {U U':List (List Int)} {L L':List Int} {s s' s1 s2:List Bool} {i j k:Nat} {most r:Int}
theorem Cl.mono (h:Cl n m may U L s s1) (h2:∀ j,sa s1 j=true->sa s2 j=true):∀ j,j<m->sa s1 j=true->sa s j=false->la L j=0/\∀ k,k<n->0<ua U k j->∀ j',j'<m->may k j'->sa s2 j'=true:=
 fun j hj h1 h0=>⟨(h j hj h1 h0).1,fun k hk hp j' hj' hm=>h2 _ ((h j hj h1 h0).2 k hk hp j' hj' hm)⟩
theorem Cl.trans (h:Cl n m may U L s s1) (h':Cl n m may U L s1 s2) (h2:∀ j,sa s1 j=true->sa s2 j=true):Cl n m may U L s s2:=fun j hj h1 h0=>by
 cases e:sa s1 j with
 | true=>exact h.mono h2 j hj e h0
 | false=>exact h' j hj h1 e
theorem Val.le (v:Val n m cap may (ua U) (la L)) (hk:k<n) (hj:j<m):0<=ua U k j/\ua U k j<=cap j:=by
 have h1:=v.bal j hj
 have h2:=v.ln j hj
 have h3:=kqN (f:=fun k=>ua U k j) (fun k hk=>v.nn k hk j hj) hk
 have h4:=v.nn k hk j hj
 omega
theorem Val.lle (v:Val n m cap may (ua U) (la L)) (hj:j<m):0<=la L j/\la L j<=cap j:=by
 have h1:=v.bal j hj
 have h2:=v.ln j hj
 have h3:=keI (f:=fun k=>ua U k j) (n:=n) (fun k hk=>v.nn k hk j hj)
 omega
theorem koM (sh:Shp n m U L) (v:Val n m cap may (ua U) (la L)) (hl:s1.length=m) (hs:∀ j,sa s j=true->sa s1 j=true) (hi:i<n) (hj:j<m) (hn:sa s1 j=false) (hm:may i j) {d:Int} (h0:0<d) (h1:d<=la L j) (h2:d<=most) :
  Post n m cap may i most U L s d (upd U i j (ua U i j+d)) (L.set j (la L j-d)) (s1.set j true):=by
 have hjs:sa s j=false:=by
  cases e:sa s j with
  | false=>rfl
  | true=>rw [hs j e] at hn; cases hn
 have hjl:j<L.length:=by rw [sh.l]; exact hj
 obtain ⟨a,b,c⟩:=v.take (u':=ua (upd U i j (ua U i j+d))) (l':=la (L.set j (la L j-d))) hi hj hm (by omega:(0:Int)<=d) h1 (by rw [krB hjl,if_pos rfl]) (by rw [sh.ua_upd hi hj,if_pos ⟨rfl,rfl⟩])
  (fun j' _ hne=>by rw [krB hjl,if_neg hne]) (fun k _ j' _ hne=>by rw [sh.ua_upd hi hj,if_neg hne])
 refine ⟨(sh.upd hi hj).setL,by simp [hl],fun j' hj'=>?_,a,fun j' hj' h=>?_,by omega,h2,b,c,fun e=>by omega⟩
 ·rw [kfM (by omega)]; split
  ·rfl
  ·exact hs j' hj'
 ·have hne:j'≠j:=by rintro rfl; rw [hjs] at h; cases h
  refine ⟨by rw [krB hjl,if_neg hne],fun k hk=>by rw [sh.ua_upd hi hj,if_neg (fun h=>hne h.2)]⟩
theorem knF (hp:Post n m cap may k most U L s2 r U' L' s') (hi:i<n) (hk:k<n) (hj:j<m) (hjs:sa s j=false) (hj2:sa s2 j=true) (hs:∀ j,sa s j=true->sa s2 j=true) (hm:may i j) (h0:0<r) (h1:most<=ua U k j) {most':Int} (h2:most<=most') :
  Post n m cap may i most' U L s r (upd (upd U' k j (ua U' k j-r)) i j (ua (upd U' k j (ua U' k j-r)) i j+r)) L' s':=by
 have sh1:=hp.sh.upd hk hj (x:=ua U' k j-r)
 have hfr:∀ j',j'<m->sa s j'=true->la L' j'=la L j'/\∀ k',k'<n->ua (upd (upd U' k j (ua U' k j-r)) i j (ua (upd U' k j (ua U' k j-r)) i j+r)) k' j'=ua U k' j':=fun j' hj' h=>by
  have hne:j'≠j:=by rintro rfl; rw [hjs] at h; cases h
  obtain ⟨a,b⟩:=hp.fr j' hj' (hs j' h)
  exact ⟨a,fun k' hk'=>by rw [sh1.ua_upd hi hj,if_neg (fun h=>hne h.2),hp.sh.ua_upd hk hj,if_neg (fun h=>hne h.2)]; exact b k' hk'⟩
 have hcol:=(hp.fr j hj hj2).2 k hk
 have hr:=hp.r1
 by_cases e:k=i
 ·subst e
  have hu:∀ k' j',ua (upd (upd U' k j (ua U' k j-r)) k j (ua (upd U' k j (ua U' k j-r)) k j+r)) k' j'=ua U' k' j':=fun k' j'=>by
   rw [sh1.ua_upd hi hj,hp.sh.ua_upd hk hj,hp.sh.ua_upd hk hj]
   by_cases h:k'=k/\j'=j
   ·obtain ⟨rfl,rfl⟩:=h; simp
   ·rw [if_neg h,if_neg h]
  have hv:Val n m cap may (ua (upd (upd U' k j (ua U' k j-r)) k j (ua (upd U' k j (ua U' k j-r)) k j+r))) (la L'):=by
   rw [show ua (upd (upd U' k j (ua U' k j-r)) k j (ua (upd U' k j (ua U' k j-r)) k j+r))=ua U' from funext fun k'=>funext fun j'=>hu k' j']
   exact hp.v
  have hrow:∀ k',row m (ua (upd (upd U' k j (ua U' k j-r)) k j (ua (upd U' k j (ua U' k j-r)) k j+r))) k'=row m (ua U') k':=fun k'=>kaN fun j' _=>hu k' j'
  exact ⟨sh1.upd hi hj,hp.sl,fun j' h=>hp.mono j' (hs j' h),hv,hfr,by omega,by omega,by rw [hrow]; exact hp.ri,fun k' hk' hne=>by rw [hrow]; exact hp.ro k' hk' hne,fun e=>by omega⟩
 ·have hne:¬ (i=k/\j=j):=fun h=>e h.1.symm
  obtain ⟨a,b,c,d⟩:=hp.v.swap (u':=ua (upd (upd U' k j (ua U' k j-r)) i j (ua (upd U' k j (ua U' k j-r)) i j+r))) (i:=i) (k:=k) (j:=j) (d:=r) hi hk hj hm (by omega) (by omega) e
   (by rw [sh1.ua_upd hi hj,if_neg (fun h=>e h.1),hp.sh.ua_upd hk hj,if_pos ⟨rfl,rfl⟩]) (by rw [sh1.ua_upd hi hj,if_pos ⟨rfl,rfl⟩,hp.sh.ua_upd hk hj,if_neg hne])
   (fun k' hk' j' hj' g1 g2=>by rw [sh1.ua_upd hi hj,if_neg g1,hp.sh.ua_upd hk hj,if_neg g2])
  refine ⟨sh1.upd hi hj,hp.sl,fun j' h=>hp.mono j' (hs j' h),a,hfr,by omega,by omega,?_,fun k' hk' hne'=>?_,fun e=>by omega⟩
  ·rw [b,hp.ro i hi (fun h=>e h.symm)]
  ·by_cases e2:k'=k
   ·subst e2; rw [c,hp.ri]; omega
   ·rw [d k' hk' hne' e2,hp.ro k' hk' e2]
structure MayL (n m:Nat) (may:Nat->Nat->Prop) (M:List (List Int)):Prop where
 l:M.length=n
 s:∀ k,k<n->(M.getD k []).length<=1000
 a:∀ k,k<n->∀ x∈M.getD k [],∃ j,j<m/\x=(j:Int)/\may k j
 b:∀ k,k<n->∀ j,j<m->may k j->(j:Int)∈M.getD k []
theorem knS {a b:Int} (ha:0<a):imin a b<=a/\imin a b<=b/\(0<imin a b↔0<b):=by
 unfold imin; split <;> omega
variable {n m:Nat} {cap:Nat->Int} {may:Nat->Nat->Prop} {M:List (List Int)} {N:List (Int×Int×Int)}
theorem ktS (hM:MayL n m may M) (hn:n<=1000) (hc:∀ j,j<m->cap j<=1000):∀ (fuel i:Nat) (most:Int) (U:List (List Int)) (L:List Int) (s:List Bool),i<n->0<most->Shp n m U L->s.length=m->Val n m cap may (ua U) (la L)->uns s<fuel->
  ∃ r U' L' s',kba fuel (i:Int) most N M U L s=some (r,N,M,U',L',s')/\Post n m cap may i most U L s r U' L' s':=by
 intro fuel
 induction fuel with
 | zero=>intro i most U L s _ _ _ _ _ h; omega
 | succ fuel ih=>
  intro i most U L s hi hm0 sh hs v hf
  unfold kba kfI
  have gM:gi M (i:Int)=some (M.getD i []):=gi_D [] (by rw [hM.l]; exact hi)
  generalize hJ:M.getD i []=J at gM
  have hJ1:∀ x∈J,∃ j,j<m/\x=(j:Int)/\may i j:=by rw [<-hJ]; exact hM.a i hi
  have hJ2:∀ j,j<m->may i j->(j:Int)∈J:=by rw [<-hJ]; exact hM.b i hi
  have hJl:J.length<=1000:=by rw [<-hJ]; exact hM.s i hi
  simp only [gM,jab]
  let Q:Nat->List Bool->Prop:=fun t s1=>s1.length=m/\(∀ j,sa s j=true->sa s1 j=true)/\(∀ (t':Nat) (x:Int),t'<t->J[t']?=some x->∀ j:Nat,x=(j:Int)->sa s1 j=true)/\Cl n m may U L s s1
  have key:=iter_inv (F:=kaV (kba fuel) (i:Int) most J)
   (fun x=>∃ t s1,t<=J.length/\x=((t:Int),s1,N,M,U,L)/\Q t s1) (fun x=>J.length-x.1.toNat)
   (fun z=>(∃ r U' L' s',z = .inl (r,N,M,U',L',s')/\Post n m cap may i most U L s r U' L' s')\/∃ s1,z = .inr (s1,L,U,N,M)/\Q J.length s1)
   (fun x hx=>by
    obtain ⟨t,s1,ht,rfl,q1,q2,q3,q4⟩:=hx
    by_cases hlt:t<J.length
    ·obtain ⟨j,hj,hxj,hmj⟩:=hJ1 J[t] (jdu hlt)
     have g1:gi J (t:Int)=some (j:Int):=by rw [kaj hlt,hxj]
     have g2:gi s1 (j:Int)=some (sa s1 j):=gs q1 hj
     have g3:=sh.gl hj
     have g4:=sh.gu hi
     have g5:=sh.guj hi hj
     have hw:w64 ((t:Int)+1)=((t+1:Nat):Int):=kam (by omega)
     have hlen:decide ((t:Int)<lenI J)=true:=lenI_lt.2 hlt
     cases hsj:sa s1 j with
     | true=>
      refine .inr ⟨((t+1:Nat),s1,N,M,U,L),?_,⟨t+1,s1,by omega,rfl,q1,q2,fun t' x ht' hx' j' hj'=>?_,q4⟩,by simp only [jao]; omega⟩
      ·unfold kaV
       simp only [hlen,if_true,g1,g2,jab,hsj,hw]
      ·by_cases e:t'=t
       ·subst e
        rw [jae hlt,hxj] at hx'
        cases hx'
        have:j=j':=by omega
        subst this; exact hsj
       ·exact q3 t' x (by omega) hx' j' hj'
     | false=>
      obtain ⟨d1,d2,d3⟩:=knS (b:=la L j) hm0
      obtain ⟨b1,b2⟩:=v.le hi hj
      obtain ⟨b3,b4⟩:=v.lle hj
      have b5:=hc j hj
      by_cases hd:0<imin most (la L j)
      ·
       have e1:w64 (ua U i j+imin most (la L j))=ua U i j+imin most (la L j):=kbb (by omega) (by omega)
       have e2:w64 (la L j-imin most (la L j))=la L j-imin most (la L j):=kbb (by omega) (by omega)
       refine .inl ⟨.inl (imin most (la L j),N,M,upd U i j (ua U i j+imin most (la L j)),L.set j (la L j-imin most (la L j)),s1.set j true),?_,.inl ⟨_,_,_,_,rfl,koM sh v q1 q2 hi hj hsj hmj hd d2 d1⟩⟩
       unfold kaV
       simp only [hlen,if_true,g1,g2,g3,g4,g5,jab,hsj,jai,if_false,decide_eq_true hd,e1,e2]
       rfl
      ·
       have hl0:la L j=0:=by
        have:¬ 0<la L j:=fun h=>hd (d3.2 h)
        omega
       have hs2:(s1.set j true).length=m:=by simp [q1]
       have hju:uns (s1.set j true)<fuel:=by
        have:=kog (s:=s1) (j:=j) (by omega) hsj
        have:=khD (s:=s) (s':=s1) (by rw [q1,hs]) q2
        omega
       have hjs:sa s j=false:=by
        cases e:sa s j with
        | false=>rfl
        | true=>rw [q2 j e] at hsj; cases hsj
       let Q2:Nat->List Bool->Prop:=fun k s3=>s3.length=m/\(∀ j',sa (s1.set j true) j'=true->sa s3 j'=true)/\(∀ k',k'<k->0<ua U k' j->∀ j',j'<m->may k' j'->sa s3 j'=true)/\Cl n m may U L (s1.set j true) s3
       have hjt:∀ s3,(∀ j',sa (s1.set j true) j'=true->sa s3 j'=true)->sa s3 j=true:=fun s3 h=>h j (by rw [kfM (by omega)]; simp)
       have hmon:∀ s3,(∀ j',sa (s1.set j true) j'=true->sa s3 j'=true)->∀ j',sa s j'=true->sa s3 j'=true:=fun s3 h j' hj'=>h j' (by rw [kfM (by omega)]; split; rfl; exact q2 j' hj')
       obtain ⟨z,hz,hR⟩:=iter_inv (F:=kbg (kba fuel) (i:Int) most ((t:Int),s1,N,M,U,L) (j:Int))
        (fun x=>∃ k s3,k<=n/\x=((k:Int),N,M,U,L,s3)/\Q2 k s3) (fun x=>n-x.1.toNat)
        (fun z=>(∃ r U' L' s',z = .inl (r,N,M,U',L',s')/\Post n m cap may i most U L s r U' L' s')\/∃ s3,z = .inr (N,M,U,L,s3)/\Q2 n s3)
        (fun x hx=>by
         obtain ⟨k,s3,hk,rfl,p1,p2,p3,p4⟩:=hx
         have hlU:lenI U=(n:Int):=by rw [kae,sh.u]
         by_cases hkn:k<n
         ·have hw:w64 ((k:Int)+1)=((k+1:Nat):Int):=kam (by omega)
          have hk1:decide ((k:Int)<lenI U)=true:=by rw [hlU]; simp; omega
          have f1:=sh.gu hkn
          have f2:=sh.guj hkn hj
          by_cases hz0:ua U k j=0
          ·refine .inr ⟨((k+1:Nat),N,M,U,L,s3),?_,⟨k+1,s3,by omega,rfl,p1,p2,fun k' hk' hp=>?_,p4⟩,by simp only [jao]; omega⟩
           ·unfold kbg
            simp only [hk1,if_true,f1,f2,jab,hz0,hw]
            rfl
           ·by_cases e:k'=k
            ·subst e; omega
            ·exact p3 k' (by omega) hp
          ·have hpos:0<ua U k j:=by have:=(v.le hkn hj).1; omega
           obtain ⟨c1,c2,c3⟩:=knS (b:=ua U k j) hm0
           obtain ⟨r,U',L',s',hrec,hp⟩:=ih k (imin most (ua U k j)) U L s3 hkn (c3.2 hpos) sh p1 v (by
            have:=khD (s:=s1.set j true) (s':=s3) (by rw [p1,hs2]) p2
            omega)
           have hne:(ua U k j==0)=false:=by simp [hz0]
           by_cases hr:0<r
           ·have F1:=hp.sh.gu hkn
            have F2:=hp.sh.guj hkn hj
            have sh1:=hp.sh.upd hkn hj (x:=ua U' k j-r)
            have F3:=sh1.gu hi
            have F4:=sh1.guj hi hj
            have B1:=hp.v.le hkn hj
            have B2:=hp.v.le hi hj
            have B3:=hp.r1
            have B4:=v.le hkn hj
            have E1:w64 (ua U' k j-r)=ua U' k j-r:=kbb (by omega) (by omega)
            have hb:-10000<=ua (upd U' k j (ua U' k j-r)) i j/\ua (upd U' k j (ua U' k j-r)) i j<=10000:=by
             rw [hp.sh.ua_upd hkn hj]; split <;> omega
            have E2:w64 (ua (upd U' k j (ua U' k j-r)) i j+r)=ua (upd U' k j (ua U' k j-r)) i j+r:=kbb (by omega) (by omega)
            refine .inl ⟨.inl (r,N,M,upd (upd U' k j (ua U' k j-r)) i j (ua (upd U' k j (ua U' k j-r)) i j+r),L',s'),?_,.inl ⟨_,_,_,_,rfl,knF hp hi hkn hj hjs (hjt s3 p2) (hmon s3 p2) hmj hr c2 c1⟩⟩
            unfold kbg
            simp only [hk1,if_true,f1,f2,jab,hne,jai,if_false,hrec,decide_eq_true hr,F1,F2,E1,kqK,F3,F4,E2]
           ·have hr0:r=0:=by have:=hp.r0; omega
            obtain ⟨z1,z2,z3,z4⟩:=hp.z hr0
            subst z1 z2
            refine .inr ⟨((k+1:Nat),N,M,U',L',s'),?_,⟨k+1,s',by omega,rfl,hp.sl,fun j' h=>hp.mono j' (p2 j' h),fun k' hk' hp' j' hj' hm'=>?_,p4.trans z4 hp.mono⟩,by simp only [jao]; omega⟩
            ·unfold kbg
             simp only [hk1,if_true,f1,f2,jab,hne,jai,if_false,hrec,decide_eq_false hr,hw]
            ·by_cases e:k'=k
             ·subst e; exact z3 j' hj' hm'
             ·exact hp.mono j' (p3 k' (by omega) hp' j' hj' hm')
         ·have hk2:¬ decide ((k:Int)<lenI U)=true:=by rw [hlU]; simp; omega
          have:k=n:=by omega
          subst this
          refine .inl ⟨.inr (N,M,U,L,s3),?_,.inr ⟨s3,rfl,p1,p2,p3,p4⟩⟩
          unfold kbg
          simp only [hk2,if_false]
          rfl)
        (0,N,M,U,L,s1.set j true) ⟨0,s1.set j true,by omega,rfl,hs2,fun _ h=>h,fun k' h=>by omega,fun j' _ h1 h2=>by rw [h1] at h2; cases h2⟩ (by simp only; omega)
       have hd':decide (0<imin most (la L j))=false:=decide_eq_false hd
       have hset:lset s1 (j:Int) true=s1.set j true:=rfl
       rcases hR with ⟨r,U',L',s',rfl,hp⟩ | ⟨s3,rfl,p1,p2,p3,p4⟩
       ·refine .inl ⟨.inl (r,N,M,U',L',s'),?_,.inl ⟨_,_,_,_,rfl,hp⟩⟩
        unfold kaV
        simp only [hlen,if_true,g1,g2,g3,jab,hsj,jai,if_false,hd',hset,hz]
       ·have hm3:∀ j',sa s1 j'=true->sa s3 j'=true:=fun j' h=>p2 j' (by rw [kfM (by omega)]; split; rfl; exact h)
        refine .inr ⟨((t+1:Nat),s3,N,M,U,L),?_,⟨t+1,s3,by omega,rfl,p1,hmon s3 p2,fun t' x ht' hx' j' hj'=>?_,fun j' hj' h1 h2=>?_⟩,by simp only [jao]; omega⟩
        ·unfold kaV
         simp only [hlen,if_true,g1,g2,g3,jab,hsj,jai,if_false,hd',hset,hz,hw]
        ·by_cases e:t'=t
         ·subst e
          rw [jae hlt,hxj] at hx'
          cases hx'
          have:j=j':=by omega
          subst this; exact hjt s3 p2
         ·exact hm3 j' (q3 t' x (by omega) hx' j' hj')
        ·cases e:sa s1 j' with
         | true=>exact q4.mono hm3 j' hj' e h2
         | false=>
          by_cases e2:j'=j
          ·subst e2
           exact ⟨hl0,fun k hk hp=>p3 k hk hp⟩
          ·exact p4 j' hj' h1 (by rw [kfM (by omega),if_neg e2]; exact e)
    ·have:t=J.length:=by omega
     subst this
     refine .inl ⟨.inr (s1,L,U,N,M),?_,.inr ⟨s1,rfl,q1,q2,q3,q4⟩⟩
     unfold kaV
     rw [if_neg keH])
   (0,s,N,M,U,L) ⟨0,s,by omega,rfl,hs,fun _ h=>h,fun t' x h=>by omega,fun j' _ h1 h2=>by rw [h1] at h2; cases h2⟩ (by simp only; omega)
  obtain ⟨z,hz,hR⟩:=key
  rw [hz]
  rcases hR with ⟨r,U',L',s',rfl,hp⟩ | ⟨s1,rfl,q1,q2,q3,q4⟩
  ·exact ⟨r,U',L',s',rfl,hp⟩
  ·refine ⟨0,U,L,s1,rfl,sh,q1,q2,v,fun _ _ _=>⟨rfl,fun _ _=>rfl⟩,by omega,by omega,by omega,fun _ _ _=>rfl,fun _=>⟨rfl,rfl,fun j hj hmj=>?_,q4⟩⟩
   obtain ⟨t',ht',e⟩:=jds.1 (hJ2 j hj hmj)
   exact q3 t' (j:Int) ht' (by rw [jae ht',e]) j rfl
structure MayB (n m:Nat) (may:Nat->Nat->Prop) (B:List (List Bool)):Prop where
 l:B.length=n
 r:∀ k,k<n->(B.getD k []).length=m
 a:∀ k,k<n->∀ j,j<m->(sa (B.getD k []) j=true↔may k j)
variable {n m:Nat} {cap:Nat->Int} {may:Nat->Nat->Prop} {B:List (List Bool)}
theorem ktP (hB:MayB n m may B) (hn:n<=1000) (hmm:m<=1000) (hc:∀ j,j<m->cap j<=1000):∀ (fuel i:Nat) (U:List (List Int)) (L:List Int) (s:List Bool),i<n->Shp n m U L->s.length=m->Val n m cap may (ua U) (la L)->uns s<fuel->
  ∃ (b:Bool) (U':List (List Int)) (L':List Int) (s':List Bool),kbW fuel (i:Int) B U L s=some (b,s',B,U',L')/\Post n m cap may i 1 U L s (if b=true then 1 else 0) U' L' s':=by
 intro fuel
 induction fuel with
 | zero=>intro i U L s _ _ _ _ h; omega
 | succ fuel ih=>
  intro i U L s hi sh hs v hf
  unfold kbW kil
  have gB:gi B (i:Int)=some (B.getD i []):=gi_D [] (by rw [hB.l]; exact hi)
  have hlL:lenI L=(m:Int):=by rw [kae,sh.l]
  let Q:Nat->List Bool->Prop:=fun t s1=>s1.length=m/\(∀ j,sa s j=true->sa s1 j=true)/\(∀ j,j<t->may i j->sa s1 j=true)/\Cl n m may U L s s1
  have key:=iter_inv (F:=kbp (kbW fuel) (i:Int))
   (fun x=>∃ t s1,t<=m/\x=((t:Int),B,U,L,s1)/\Q t s1) (fun x=>m-x.1.toNat)
   (fun z=>(∃ U' L' s',z = .inl (true,s',B,U',L')/\Post n m cap may i 1 U L s 1 U' L' s')\/∃ s1,z = .inr (s1,L,B,U)/\Q m s1)
   (fun x hx=>by
    obtain ⟨t,s1,ht,rfl,q1,q2,q3,q4⟩:=hx
    by_cases hj:t<m
    ·have g1:gi (B.getD i []) (t:Int)=some (sa (B.getD i []) t):=gi_D false (by rw [hB.r i hi]; exact hj)
     have g2:gi s1 (t:Int)=some (sa s1 t):=gs q1 hj
     have g3:=sh.gl hj
     have g4:=sh.gu hi
     have g5:=sh.guj hi hj
     have hw:w64 ((t:Int)+1)=((t+1:Nat):Int):=kam (by omega)
     have hlen:decide ((t:Int)<lenI L)=true:=by rw [hlL]; simp; omega
     cases hmt:sa (B.getD i []) t with
     | false=>
      refine .inr ⟨((t+1:Nat),B,U,L,s1),?_,⟨t+1,s1,by omega,rfl,q1,q2,fun j' hj' hm'=>?_,q4⟩,by simp only [jao]; omega⟩
      ·unfold kbp
       simp only [hlen,if_true,gB,g1,jab,hmt,jdx,hw]
      ·by_cases e:j'=t
       ·subst e; rw [(hB.a i hi _ hj).2 hm'] at hmt; cases hmt
       ·exact q3 j' (by omega) hm'
     | true=>
     have hmj:=(hB.a i hi t hj).1 hmt
     cases hsj:sa s1 t with
     | true=>
      refine .inr ⟨((t+1:Nat),B,U,L,s1),?_,⟨t+1,s1,by omega,rfl,q1,q2,fun j' hj' hm'=>?_,q4⟩,by simp only [jao]; omega⟩
      ·unfold kbp
       simp only [hlen,if_true,gB,g1,g2,jab,hmt,hsj,jdr,jai,if_false,hw]
      ·by_cases e:j'=t
       ·subst e; exact hsj
       ·exact q3 j' (by omega) hm'
     | false=>
      obtain ⟨b1,b2⟩:=v.le hi hj
      obtain ⟨b3,b4⟩:=v.lle hj
      have b5:=hc t hj
      by_cases hd:0<la L t
      ·
       have e1:w64 (ua U i t+1)=ua U i t+1:=kbb (by omega) (by omega)
       have e2:w64 (la L t-1)=la L t-1:=kbb (by omega) (by omega)
       refine .inl ⟨.inl (true,s1.set t true,B,upd U i t (ua U i t+1),L.set t (la L t-1)),?_,.inl ⟨_,_,_,rfl,koM sh v q1 q2 hi hj hsj hmj (by omega) (by omega) (by omega)⟩⟩
       unfold kbp
       simp only [hlen,if_true,gB,g1,g2,g3,g4,g5,jab,hmt,hsj,jdr,jai,if_false,decide_eq_true hd,e1,e2]
       rfl
      ·
       have hl0:la L t=0:=by omega
       have hs2:(s1.set t true).length=m:=by simp [q1]
       have hju:uns (s1.set t true)<fuel:=by
        have:=kog (s:=s1) (j:=t) (by omega) hsj
        have:=khD (s:=s) (s':=s1) (by rw [q1,hs]) q2
        omega
       have hjs:sa s t=false:=by
        cases e:sa s t with
        | false=>rfl
        | true=>rw [q2 t e] at hsj; cases hsj
       let Q2:Nat->List Bool->Prop:=fun k s3=>s3.length=m/\(∀ j',sa (s1.set t true) j'=true->sa s3 j'=true)/\(∀ k',k'<k->0<ua U k' t->∀ j',j'<m->may k' j'->sa s3 j'=true)/\Cl n m may U L (s1.set t true) s3
       have hjt:∀ s3,(∀ j',sa (s1.set t true) j'=true->sa s3 j'=true)->sa s3 t=true:=fun s3 h=>h t (by rw [kfM (by omega)]; simp)
       have hmon:∀ s3,(∀ j',sa (s1.set t true) j'=true->sa s3 j'=true)->∀ j',sa s j'=true->sa s3 j'=true:=fun s3 h j' hj'=>h j' (by rw [kfM (by omega)]; split; rfl; exact q2 j' hj')
       obtain ⟨z,hz,hR⟩:=iter_inv (F:=kck (kbW fuel) (i:Int) ((t:Int),B,U,L,s1))
        (fun x=>∃ k s3,k<=n/\x=((k:Int),B,U,L,s3)/\Q2 k s3) (fun x=>n-x.1.toNat)
        (fun z=>(∃ U' L' s',z = .inl (true,s',B,U',L')/\Post n m cap may i 1 U L s 1 U' L' s')\/∃ s3,z = .inr (B,U,L,s3)/\Q2 n s3)
        (fun x hx=>by
         obtain ⟨k,s3,hk,rfl,p1,p2,p3,p4⟩:=hx
         have hlU:lenI U=(n:Int):=by rw [kae,sh.u]
         by_cases hkn:k<n
         ·have hw:w64 ((k:Int)+1)=((k+1:Nat):Int):=kam (by omega)
          have hk1:decide ((k:Int)<lenI U)=true:=by rw [hlU]; simp; omega
          have f1:=sh.gu hkn
          have f2:=sh.guj hkn hj
          by_cases hpos:0<ua U k t
          ·obtain ⟨b,U',L',s',hrec,hp⟩:=ih k U L s3 hkn sh p1 v (by
            have:=khD (s:=s1.set t true) (s':=s3) (by rw [p1,hs2]) p2
            omega)
           cases b with
           | true=>
            simp only [if_true] at hp
            have F1:=hp.sh.gu hkn
            have F2:=hp.sh.guj hkn hj
            have sh1:=hp.sh.upd hkn hj (x:=ua U' k t-1)
            have F3:=sh1.gu hi
            have F4:=sh1.guj hi hj
            have B1:=hp.v.le hkn hj
            have B2:=hp.v.le hi hj
            have E1:w64 (ua U' k t-1)=ua U' k t-1:=kbb (by omega) (by omega)
            have hb:-10000<=ua (upd U' k t (ua U' k t-1)) i t/\ua (upd U' k t (ua U' k t-1)) i t<=10000:=by
             rw [hp.sh.ua_upd hkn hj]; split <;> omega
            have E2:w64 (ua (upd U' k t (ua U' k t-1)) i t+1)=ua (upd U' k t (ua U' k t-1)) i t+1:=kbb (by omega) (by omega)
            refine .inl ⟨.inl (true,s',B,upd (upd U' k t (ua U' k t-1)) i t (ua (upd U' k t (ua U' k t-1)) i t+1),L'),?_,.inl ⟨_,_,_,rfl,knF hp hi hkn hj hjs (hjt s3 p2) (hmon s3 p2) hmj (by omega) (by omega) (jdv _)⟩⟩
            unfold kck
            simp only [hk1,if_true,f1,f2,jab,decide_eq_true hpos,hrec,F1,F2,E1,kqK,F3,F4,E2]
           | false=>
            simp only [jai,if_false] at hp
            obtain ⟨z1,z2,z3,z4⟩:=hp.z rfl
            subst z1 z2
            refine .inr ⟨((k+1:Nat),B,U',L',s'),?_,⟨k+1,s',by omega,rfl,hp.sl,fun j' h=>hp.mono j' (p2 j' h),fun k' hk' hp' j' hj' hm'=>?_,p4.trans z4 hp.mono⟩,by simp only [jao]; omega⟩
            ·unfold kck
             simp only [hk1,if_true,f1,f2,jab,decide_eq_true hpos,hrec,jai,if_false,hw]
            ·by_cases e:k'=k
             ·subst e; exact z3 j' hj' hm'
             ·exact hp.mono j' (p3 k' (by omega) hp' j' hj' hm')
          ·refine .inr ⟨((k+1:Nat),B,U,L,s3),?_,⟨k+1,s3,by omega,rfl,p1,p2,fun k' hk' hp=>?_,p4⟩,by simp only [jao]; omega⟩
           ·unfold kck
            simp only [hk1,if_true,f1,f2,jab,decide_eq_false hpos,jai,if_false,hw]
           ·by_cases e:k'=k
            ·subst e; exact absurd hp hpos
            ·exact p3 k' (by omega) hp
         ·have hk2:¬ decide ((k:Int)<lenI U)=true:=by rw [hlU]; simp; omega
          have:k=n:=by omega
          subst this
          refine .inl ⟨.inr (B,U,L,s3),?_,.inr ⟨s3,rfl,p1,p2,p3,p4⟩⟩
          unfold kck
          simp only [hk2,if_false]
          rfl)
        (0,B,U,L,s1.set t true) ⟨0,s1.set t true,by omega,rfl,hs2,fun _ h=>h,fun k' h=>by omega,fun j' _ h1 h2=>by rw [h1] at h2; cases h2⟩ (by simp only; omega)
       have hd':decide (0<la L t)=false:=decide_eq_false hd
       have hset:lset s1 (t:Int) true=s1.set t true:=rfl
       rcases hR with ⟨U',L',s',rfl,hp⟩ | ⟨s3,rfl,p1,p2,p3,p4⟩
       ·refine .inl ⟨.inl (true,s',B,U',L'),?_,.inl ⟨_,_,_,rfl,hp⟩⟩
        unfold kbp
        simp only [hlen,if_true,gB,g1,g2,g3,jab,hmt,hsj,jdr,jai,if_false,hd',hset,hz]
       ·have hm3:∀ j',sa s1 j'=true->sa s3 j'=true:=fun j' h=>p2 j' (by rw [kfM (by omega)]; split; rfl; exact h)
        refine .inr ⟨((t+1:Nat),B,U,L,s3),?_,⟨t+1,s3,by omega,rfl,p1,hmon s3 p2,fun j' hj' hm'=>?_,fun j' hj' h1 h2=>?_⟩,by simp only [jao]; omega⟩
        ·unfold kbp
         simp only [hlen,if_true,gB,g1,g2,g3,jab,hmt,hsj,jdr,jai,if_false,hd',hset,hz,hw]
        ·by_cases e:j'=t
         ·subst e; exact hjt s3 p2
         ·exact hm3 j' (q3 j' (by omega) hm')
        ·cases e:sa s1 j' with
         | true=>exact q4.mono hm3 j' hj' e h2
         | false=>
          by_cases e2:j'=t
          ·subst e2
           exact ⟨hl0,fun k hk hp=>p3 k hk hp⟩
          ·exact p4 j' hj' h1 (by rw [kfM (by omega),if_neg e2]; exact e)
    ·have:t=m:=by omega
     subst this
     refine .inl ⟨.inr (s1,L,B,U),?_,.inr ⟨s1,rfl,q1,q2,q3,q4⟩⟩
     unfold kbp
     have:¬ decide ((t:Int)<lenI L)=true:=by rw [hlL]; simp
     rw [if_neg this])
   (0,B,U,L,s) ⟨0,s,by omega,rfl,hs,fun _ h=>h,fun j' h=>by omega,fun j' _ h1 h2=>by rw [h1] at h2; cases h2⟩ (by simp only; omega)
  obtain ⟨z,hz,hR⟩:=key
  rw [hz]
  rcases hR with ⟨U',L',s',rfl,hp⟩ | ⟨s1,rfl,q1,q2,q3,q4⟩
  ·exact ⟨true,U',L',s',rfl,by rw [if_pos rfl]; exact hp⟩
  ·refine ⟨false,U,L,s1,rfl,?_⟩
   rw [if_neg (by simp)]
   exact ⟨sh,q1,q2,v,fun _ _ _=>⟨rfl,fun _ _=>rfl⟩,by omega,by omega,by omega,fun _ _ _=>rfl,fun _=>⟨rfl,rfl,fun j hj hmj=>q3 j hj hmj,q4⟩⟩
variable {n m:Nat} {cap:Nat->Int} {may:Nat->Nat->Prop}
structure Gave (n m:Nat) (cap:Nat->Int) (may:Nat->Nat->Prop) (i:Nat) (most:Int) (U:List (List Int)) (g:Int) (U':List (List Int)) (L':List Int):Prop where
 sh:Shp n m U' L'
 v:Val n m cap may (ua U') (la L')
 g0:0<=g
 g1:g<=most
 ri:row m (ua U') i=row m (ua U) i+g
 ro:∀ k,k<n->k≠i->row m (ua U') k=row m (ua U) k
 st:g<most->∃ S,S i=true/\Sat n m may (ua U') (la L') S
theorem kqF {i:Nat} {most:Int} {U U':List (List Int)} {L L':List Int} {s':List Bool} (hi:i<n) (h:Post n m cap may i most U L (List.replicate m false) 0 U' L' s'):∃ S,S i=true/\Sat n m may (ua U') (la L') S:=by
 classical
 obtain ⟨e1,e2,h1,h2⟩:=h.z rfl
 subst e1 e2
 have h0:∀ j,sa (List.replicate m false) j=false:=fun j=>by
  unfold sa
  rw [jbl,jcb]
  split <;> rfl
 obtain ⟨S,hS⟩:∃ S:Nat->Bool,∀ k,S k=true↔∀ j,j<m->may k j->sa s' j=true:=⟨fun k=>decide (∀ j,j<m->may k j->sa s' j=true),fun k=>by simp⟩
 exact ⟨S,(hS i).2 h1,fun k _ hk j hj hm=>(h2 j hj ((hS k).1 hk j hj hm) (h0 j)).1,fun k _ hk j hj hm k' hk' hp=>(hS k').2 ((h2 j hj ((hS k).1 hk j hj hm) (h0 j)).2 k' hk' hp)⟩
theorem kul {M:List (List Int)} {N:List (Int×Int×Int)} (hM:MayL n m may M) (hn:n<=1000) (hm:m<=1000) (hc:∀ j,j<m->cap j<=1000) {i:Nat} {most:Int} {U:List (List Int)} {L:List Int} (hi:i<n) (h0:0<=most) (h1:most<=1000) (sh:Shp n m U L) (v:Val n m cap may (ua U) (la L)) :
  ∃ g U' L',kdO (i:Int) most N M U L=some (g,N,M,U',L')/\Gave n m cap may i most U g U' L':=by
 unfold kdO
 obtain ⟨z,hz,g,U',L',rfl,hg⟩:=iter_inv (F:=kcg (i:Int) most)
  (fun x=>∃ g U' L' s,x=(g,N,M,U',L',s)/\0<=g/\g<=most/\Shp n m U' L'/\Val n m cap may (ua U') (la L')/\row m (ua U') i=row m (ua U) i+g/\∀ k,k<n->k≠i->row m (ua U') k=row m (ua U) k) (fun x=>(most-x.1).toNat)
  (fun z=>∃ g U' L',z=(g,N,M,U',L')/\Gave n m cap may i most U g U' L')
  (fun x hx=>by
   obtain ⟨g,U',L',s,rfl,g0,g1,sh',v',ri,ro⟩:=hx
   by_cases hlt:g<most
   ·have hgm:gmk (lenI L') false=some (List.replicate m false):=by
     unfold gmk
     rw [kae,sh'.l,if_pos (by omega),jao]
    have hw:w64 (most-g)=most-g:=kbb (by omega) (by omega)
    obtain ⟨r,U2,L2,s2,hr,hp⟩:=ktS (N:=N) hM hn hc 1000000 i (most-g) U' L' (List.replicate m false) hi (by omega) sh' (by simp) v' (by
     have:uns (List.replicate m false)<=m:=by
      unfold uns
      have:=List.countP_le_length (p:=fun b=>!b) (l:=List.replicate m false)
      simpa using this
     omega)
    have hr':kea (i:Int) (most-g) N M U' L' (List.replicate m false)=some (r,N,M,U2,L2,s2):=hr
    by_cases hz:r=0
    ·subst hz
     refine .inl ⟨(g,N,M,U2,L2),?_,g,U2,L2,rfl,hp.sh,hp.v,g0,g1,by rw [hp.ri,ri]; omega,fun k hk hne=>by rw [hp.ro k hk hne,ro k hk hne],fun _=>kqF hi hp⟩
     unfold kcg
     simp only [decide_eq_true hlt,if_true,hgm,hw,hr',jab]
     rfl
    ·have a0:=hp.r0
     have a1:=hp.r1
     have hw2:w64 (g+r)=g+r:=kbb (by omega) (by omega)
     refine .inr ⟨(g+r,N,M,U2,L2,s2),?_,⟨g+r,U2,L2,s2,rfl,by omega,by omega,hp.sh,hp.v,by rw [hp.ri,ri]; omega,fun k hk hne=>by rw [hp.ro k hk hne,ro k hk hne]⟩,by simp only; omega⟩
     unfold kcg
     have hb:(r==0)=false:=by simp [hz]
     simp only [decide_eq_true hlt,if_true,hgm,hw,hr',jab,hb,jai,if_false,hw2]
   ·refine .inl ⟨(g,N,M,U',L'),?_,g,U',L',rfl,sh',v',g0,g1,ri,ro,fun h=>absurd h hlt⟩
    unfold kcg
    simp only [decide_eq_false hlt,jai,if_false])
  (0,N,M,U,L,[]) ⟨0,U,L,[],rfl,by omega,h0,sh,v,by omega,fun _ _ _=>rfl⟩ (by simp only; omega)
 exact ⟨g,U',L',by rw [hz]; rfl,hg⟩
theorem kvn {B:List (List Bool)} (hB:MayB n m may B) (hn:n<=1000) (hm:m<=1000) (hc:∀ j,j<m->cap j<=1000) {i:Nat} {most:Int} {U:List (List Int)} {L:List Int} (hi:i<n) (h0:0<=most) (h1:most<=1000) (sh:Shp n m U L) (v:Val n m cap may (ua U) (la L)) :
  ∃ g U' L',kez (i:Int) most B U L=some (g,B,U',L')/\Gave n m cap may i most U g U' L':=by
 unfold kez
 obtain ⟨z,hz,g,U',L',rfl,hg⟩:=iter_inv (F:=kdp (i:Int) most)
  (fun x=>∃ g U' L',x=(g,B,U',L')/\0<=g/\g<=most/\Shp n m U' L'/\Val n m cap may (ua U') (la L')/\row m (ua U') i=row m (ua U) i+g/\∀ k,k<n->k≠i->row m (ua U') k=row m (ua U) k) (fun x=>(most-x.1).toNat)
  (fun z=>∃ g U' L',z=(g,U',B,L')/\Gave n m cap may i most U g U' L')
  (fun x hx=>by
   obtain ⟨g,U',L',rfl,g0,g1,sh',v',ri,ro⟩:=hx
   by_cases hlt:g<most
   ·have hgm:gmk (lenI L') false=some (List.replicate m false):=by
     unfold gmk
     rw [kae,sh'.l,if_pos (by omega),jao]
    obtain ⟨b,U2,L2,s2,hr,hp⟩:=ktP hB hn hm hc 1000000 i U' L' (List.replicate m false) hi sh' (by simp) v' (by
     have:uns (List.replicate m false)<=m:=by
      unfold uns
      have:=List.countP_le_length (p:=fun b=>!b) (l:=List.replicate m false)
      simpa using this
     omega)
    have hr':kgX (i:Int) B U' L' (List.replicate m false)=some (b,s2,B,U2,L2):=hr
    cases b with
    | false=>
     simp only [jai,if_false] at hp
     have hp0:=hp
     refine .inl ⟨(g,U2,B,L2),?_,g,U2,L2,rfl,hp.sh,hp.v,g0,g1,by rw [hp.ri,ri]; omega,fun k hk hne=>by rw [hp.ro k hk hne,ro k hk hne],fun _=>kqF hi hp⟩
     unfold kdp
     simp only [decide_eq_true hlt,if_true,hgm,hr',jab,jai,if_false]
    | true=>
     simp only [if_true] at hp
     have hw2:w64 (g+1)=g+1:=kbb (by omega) (by omega)
     refine .inr ⟨(g+1,B,U2,L2),?_,⟨g+1,U2,L2,rfl,by omega,by omega,hp.sh,hp.v,by rw [hp.ri,ri]; omega,fun k hk hne=>by rw [hp.ro k hk hne,ro k hk hne]⟩,by simp only; omega⟩
     unfold kdp
     simp only [decide_eq_true hlt,if_true,hgm,hr',jab,hw2]
   ·refine .inl ⟨(g,U',B,L'),?_,g,U',L',rfl,sh',v',g0,g1,ri,ro,fun h=>absurd h hlt⟩
    unfold kdp
    simp only [decide_eq_false hlt,jai,if_false])
  (0,B,U,L) ⟨0,U,L,rfl,by omega,h0,sh,v,by omega,fun _ _ _=>rfl⟩ (by simp only; omega)
 exact ⟨g,U',L',by rw [hz]; rfl,hg⟩
def Canon (n m:Nat) (cap:Nat->Int) (may:Nat->Nat->Prop) (N:Nat->Int) (i:Nat) (r:Nat->Int):Prop:=
 ∀ k,k<i->(∃ u l,Val n m cap may u l/\(∀ k',k'<=k->row m u k'=r k')/\(∀ k',k<k'->k'<n->row m u k'=0)/\r k<=N k)/\
  ∀ u l,Val n m cap may u l->(∀ k',k'<k->row m u k'=r k')->(∀ k',k<k'->k'<n->row m u k'=0)->row m u k<=N k->row m u k<=r k
theorem Canon.uniq {N:Nat->Int} {i:Nat} {r r':Nat->Int} (h:Canon n m cap may N i r) (h':Canon n m cap may N i r'):∀ k,k<i->r k=r' k:=by
 intro k
 induction k using Nat.strongRecOn with
 | _ k ih=>
  intro hk
  obtain ⟨⟨u,l,v,a,b,c⟩,d⟩:=h k hk
  obtain ⟨⟨u',l',v',a',b',c'⟩,d'⟩:=h' k hk
  have e1:=d' u l v (fun k' hk'=>by rw [a k' (by omega),ih k' hk' (by omega)]) b (by rw [a k (jag _)]; exact c)
  have e2:=d u' l' v' (fun k' hk'=>by rw [a' k' (by omega),ih k' hk' (by omega)]) b' (by rw [a' k (jag _)]; exact c')
  rw [a k (jag _)] at e1
  rw [a' k (jag _)] at e2
  omega
structure At (n m:Nat) (cap:Nat->Int) (may:Nat->Nat->Prop) (N:Nat->Int) (i:Nat) (U:List (List Int)) (L:List Int) (K:List Bool) (t:Int):Prop where
 sh:Shp n m U L
 v:Val n m cap may (ua U) (la L)
 z:∀ k,i<=k->k<n->row m (ua U) k=0
 c:Canon n m cap may N i (row m (ua U))
 le:∀ k,k<i->row m (ua U) k<=N k
 st:∀ k,k<i->row m (ua U) k<N k->∃ S,S k=true/\Sat n m may (ua U) (la L) S
 kl:K.length=n
 k1:∀ k,k<i->sa K k=decide (row m (ua U) k<N k)
 k0:∀ k,i<=k->sa K k=false
 t:t=sumN (row m (ua U)) i
theorem At.step {N:Nat->Int} {i:Nat} {U U':List (List Int)} {L L':List Int} {K:List Bool} {t g:Int} (h:At n m cap may N i U L K t) (hi:i<n) (hg:Gave n m cap may i (N i) U g U' L') :
  At n m cap may N (i+1) U' L' (K.set i (decide (g<N i))) (t+g):=by
 have r0:row m (ua U) i=0:=h.z i (jag _) hi
 have ri:row m (ua U') i=g:=by rw [hg.ri,r0]; omega
 have mono:∀ k,k<n->row m (ua U) k<=row m (ua U') k:=fun k hk=>by
  by_cases e:k=i
  ·subst e; have:=hg.g0; omega
  ·rw [hg.ro k hk e]; omega
 refine ⟨hg.sh,hg.v,fun k hk hkn=>by rw [hg.ro k hkn (by omega)]; exact h.z k (by omega) hkn,fun k hk=>?_,fun k hk=>?_,fun k hk hlt=>?_,by simp [h.kl],fun k hk=>?_,fun k hk=>?_,?_⟩
 ·by_cases e:k=i
  ·subst e
   refine ⟨⟨_,_,hg.v,fun _ _=>rfl,fun k' h1 h2=>by rw [hg.ro k' h2 (by omega)]; exact h.z k' (by omega) h2,by rw [ri]; exact hg.g1⟩,fun u l v a b c=>?_⟩
   by_cases hl:g<N k
   ·obtain ⟨S,s1,s2⟩:=hg.st hl
    exact ksI hg.v v s2 hi s1 fun k' hk' hne=>by
     by_cases hlt:k'<k
     ·rw [a k' hlt]; omega
     ·rw [b k' (by omega) hk',hg.ro k' hk' hne,h.z k' (by omega) hk']; omega
   ·have:=hg.g1; omega
  ·have hk':k<i:=by omega
   have same:∀ k',k'<=k->row m (ua U') k'=row m (ua U) k':=fun k' h'=>hg.ro k' (by omega) (by omega)
   obtain ⟨⟨u,l,v,a,b,c⟩,d⟩:=h.c k hk'
   refine ⟨⟨u,l,v,fun k' h'=>by rw [same k' h']; exact a k' h',b,by rw [same k (jag _)]; exact c⟩,fun u l v a b c=>?_⟩
   rw [same k (jag _)]
   exact d u l v (fun k' h'=>by rw [a k' h',same k' (by omega)]) b c
 ·by_cases e:k=i
  ·subst e; rw [ri]; exact hg.g1
  ·rw [hg.ro k (by omega) e]; exact h.le k (by omega)
 ·by_cases e:k=i
  ·subst e; rw [ri] at hlt; exact hg.st hlt
  ·rw [hg.ro k (by omega) e] at hlt
   obtain ⟨S,s1,s2⟩:=h.st k (by omega) hlt
   exact ⟨S,s1,(kru h.v hg.v s2 fun k' hk' _=>mono k' hk').1⟩
 ·rw [show sa (K.set i (decide (g<N i))) k=if k=i then decide (g<N i) else sa K k from getD_set (by rw [h.kl]; exact hi)]
  by_cases e:k=i
  ·subst e; rw [if_pos rfl,ri]
  ·rw [if_neg e,hg.ro k (by omega) e]; exact h.k1 k (by omega)
 ·rw [show sa (K.set i (decide (g<N i))) k=if k=i then decide (g<N i) else sa K k from getD_set (by rw [h.kl]; exact hi),if_neg (by omega)]
  exact h.k0 k (by omega)
 ·simp only [sumN]
  rw [ri,h.t,kaN (f:=row m (ua U')) (g:=row m (ua U)) fun k hk=>hg.ro k (by omega) (by omega)]
variable {n m:Nat} {cap:Nat->Int} {may:Nat->Nat->Prop}
abbrev It3:=Int×Int×Int
def needN (N:List It3) (k:Nat):Int:=((N[k]?).getD (0,0,0)).2.2
theorem kjH {N:List It3} {k:Nat} (h:k<N.length):needN N k=N[k].2.2:=by unfold needN; rw [jae h]; rfl
theorem At.zero {U:List (List Int)} {L:List Int} {K:List Bool} (sh:Shp n m U L) (hu:∀ k,k<n->∀ j,j<m->ua U k j=0) (hl:∀ j,j<m->la L j=cap j) (hc:∀ j,j<m->0<=cap j) (N:Nat->Int) (hK:K=List.replicate n false):At n m cap may N 0 U L K 0:=by
 have hz:∀ k,k<n->row m (ua U) k=0:=fun k hk=>by
  unfold row
  rw [kaN (g:=fun _=>0) fun j hj=>hu k hk j hj,khN]
 refine ⟨sh,⟨fun k hk j hj=>by rw [hu k hk j hj]; exact jdv _,fun k hk j hj h=>by rw [hu k hk j hj] at h; omega,fun j hj=>by rw [hl j hj]; exact hc j hj,fun j hj=>?_⟩,fun k _ hk=>hz k hk,fun k hk=>by omega,fun k hk=>by omega,fun k hk=>by omega,by simp [hK],fun k hk=>by omega,fun k _=>?_,rfl⟩
 ·rw [hl j hj,kaN (g:=fun _=>0) fun k hk=>hu k hk j hj,khN]; omega
 ·subst hK
  unfold sa
  rw [jbl,jcb]
  split <;> rfl
def idx (s:List Bool) (n:Nat):List Int:=((List.range n).filter fun k=>sa s k).map fun (k:Nat)=>(k:Int)
theorem kuB (s:List Bool) (n:Nat):idx s (n+1)=if sa s n=true then idx s n++[(n:Int)] else idx s n:=by
 unfold idx
 rw [List.range_succ,List.filter_append,jco]
 cases h:sa s n <;> simp [h]
theorem ksm (s:List Bool) (n:Nat):(idx s n).length<=n:=by
 unfold idx
 rw [jaw]
 exact jdb (List.length_filter_le _ _) (by simp)
theorem collect {F:Int×List Int->Option ((Int×List Int)⊕List Int)} {s:List Bool} (hs:s.length<=1000)
  (h1:∀ (i:Nat) (l:List Int),i<s.length->l.length<=1000->F ((i:Int),l)=some (.inl (((i+1:Nat):Int),if sa s i=true then l++[(i:Int)] else l))) (h2:∀ l,F ((s.length:Int),l)=some (.inr l)):iter F (0,[])=some (idx s s.length):=by
 obtain ⟨z,hz,rfl⟩:=iter_inv (F:=F) (fun x=>∃ i:Nat,i<=s.length/\x=((i:Int),idx s i)) (fun x=>s.length-x.1.toNat) (fun z=>z=idx s s.length)
  (fun x hx=>by
   obtain ⟨i,hi,rfl⟩:=hx
   by_cases hlt:i<s.length
   ·exact .inr ⟨_,h1 i _ hlt (by have:=ksm s i; omega),⟨i+1,by omega,by rw [kuB]⟩,by simp only [jao]; omega⟩
   ·have:i=s.length:=by omega
    subst this
    exact .inl ⟨_,h2 _,rfl⟩)
  (0,[]) ⟨0,by omega,rfl⟩ (by simp only; omega)
 exact hz
theorem kuv {U U' V V':List (List Int)} {L' M':List Int} {i:Nat} {most g g':Int} (hi:i<n) (he:∀ k,k<n->row m (ua U) k=row m (ua V) k) (h:Gave n m cap may i most U g U' L') (h':Gave n m cap may i most V g' V' M') :
  g=g'/\∀ k,k<n->row m (ua U') k=row m (ua V') k:=by
 have key:∀ {U U' V V':List (List Int)} {L' M':List Int} {g g':Int},(∀ k,k<n->row m (ua U) k=row m (ua V) k)->Gave n m cap may i most U g U' L'->Gave n m cap may i most V g' V' M'->¬ g<g':=fun {U U' V V' L' M' g g'} he h h' hlt=>by
  have h1:=h'.g1
  obtain ⟨S,s1,s2⟩:=h.st (by omega)
  have:=ksI h.v h'.v s2 hi s1 fun k hk hne=>by rw [h.ro k hk hne,h'.ro k hk hne,he k hk]; exact jdv _
  rw [h.ri,h'.ri,he i hi] at this
  omega
 have e:g=g':=by
  have a:=key he h h'
  have b:=key (fun k hk=>(he k hk).symm) h' h
  omega
 subst e
 refine ⟨rfl,fun k hk=>?_⟩
 by_cases hk2:k=i
 ·subst hk2; rw [h.ri,h'.ri,he k hk]
 ·rw [h.ro k hk hk2,h'.ro k hk hk2,he k hk]
end Go.Abs.Fl
namespace Go.Abs
open Go Go.Abs.Fl
theorem knK {a b:List It} (ha:a.length<=1000) (hb:b.length<=1000):kfl [a,b]=some (if stk a=true/\stk b=true then 0 else 8):=by
 unfold kfl
 rw [kdm (F:=keR [a,b]) [a,b] (by simp) (fun i x=>if stk x then none else some 8) (fun i hi=>by
  have h2:i<2:=by simpa using hi
  unfold keR
  rw [if_pos (by rw [kae]; simp; omega),kaj hi,kam (by omega)]
  have hl:[a,b][i].length<=1000:=by
   have:[a,b][i]∈[a,b]:=jdu _
   simp only [jbn,List.not_mem_nil,or_false] at this
   rcases this with e | e <;> rw [e] <;> assumption
  simp only [jab,krb _ hl]
  by_cases h:stk [a,b][i]=true <;> simp [h,nextL]) (by unfold keR; rw [if_neg (by simp [kae])])]
 simp only [jbv,List.zipIdx_nil,jdh,List.findSome?_nil]
 by_cases h1:stk a=true <;> by_cases h2:stk b=true <;> simp [h1,h2,endL]
theorem lots1 (l:List It):∃ b,kfO l=some b/\(b=false->l.length<=40):=by
 unfold kfO
 rw [kae]
 by_cases hl:(40:Int)<l.length
 ·exact ⟨true,by rw [if_pos (by simpa using hl)],fun h=>by cases h⟩
 ·rw [if_neg (by simpa using hl)]
  have:∀ (k i:Nat) (v:Int),i+k=l.length->∃ r,itN (kdT l) (k+1) ((i:Int),v)=some r:=by
   intro k
   induction k with
   | zero=>
    intro i v h
    refine ⟨v,khP ?_⟩
    unfold kdT
    rw [if_neg (by rw [kae]; simp; omega)]
   | succ k ih=>
    intro i v h
    have hi:i<l.length:=by omega
    by_cases hw:(decide (0<=l[i].2.2)&&decide (l[i].2.2<=1000))=true
    ·obtain ⟨r,hr⟩:=ih (i+1) (w64 (v+l[i].2.2)) (by omega)
     refine ⟨r,?_⟩
     rw [<-hr]
     refine kmY ?_
     unfold kdT
     rw [if_pos (by rw [kae]; simpa using hi),kaj hi,kam (by omega)]
     simp only [jab,keg,hw,if_true]
    ·obtain ⟨r,hr⟩:=ih (i+1) v (by omega)
     refine ⟨r,?_⟩
     rw [<-hr]
     refine kmY ?_
     unfold kdT
     rw [if_pos (by rw [kae]; simpa using hi),kaj hi,kam (by omega)]
     simp only [jab,keg,hw,if_false]
     rw [if_neg (by simp)]
  obtain ⟨r,hr⟩:=this l.length 0 0 (by omega)
  refine ⟨decide (8000<r),?_,fun _=>by omega⟩
  rw [show ((0:Int),(0:Int))=(((0:Nat):Int),0) from rfl,kly hr (by omega)]; rfl
theorem kvr (a b:List It):∃ c,khh [a,b]=some c/\(c=false->a.length<=40/\b.length<=40):=by
 obtain ⟨u,hu,hu2⟩:=lots1 a
 obtain ⟨v,hv,hv2⟩:=lots1 b
 refine ⟨u||v,?_,fun h=>?_⟩
 ·unfold khh
  rw [kdm (F:=kfq [a,b]) [a,b] (by simp) (fun i x=>if kfO x=some true then some true else none) (fun i hi=>by
   have h2:i<2:=by simpa using hi
   unfold kfq
   rw [if_pos (by rw [kae]; simp; omega),kaj hi,kam (by omega)]
   have hm:[a,b][i]∈[a,b]:=jdu _
   simp only [jbn,List.not_mem_nil,or_false] at hm
   simp only [jab]
   rcases hm with e | e
   ·rw [e,hu]; cases u <;> simp [nextL]
   ·rw [e,hv]; cases v <;> simp [nextL]) (by unfold kfq; rw [if_neg (by simp [kae])])]
  simp only [jbv,List.zipIdx_nil,jdh,List.findSome?_nil,hu,hv]
  cases u <;> cases v <;> simp [endL]
 ·rw [jdj] at h
  exact ⟨hu2 h.1,hv2 h.2⟩
def pOk (k c:Int):Bool:=decide (0<=k)&&decide (k<=15)&&decide (c<=15)
theorem kvu (x:Int×Int):kbN x=some (pOk x.1 x.2):=kfa (x.1,x.2,0)
theorem kuu (k c:Int):kco k c=some (pOk k c):=kfN (k,c,0)
def swBad (x:Swap):Bool:=!pOk x.1 x.2.1||!pOk x.2.2.1 x.2.2.2||(x.1==x.2.2.1&&x.2.1==x.2.2.2)
def swE (l:List Swap):Int:=if l.length<=30/\l.any swBad=false then 0 else 2
theorem kkP {α:Type} {f:α->α->Bool} (h:∀ x,f x x=true):∀ l:List α,lbeq f l l=true
 | []=>rfl
 | x::l=>by simp [lbeq,h x,kkP h l]
theorem kdJ {t:Ty} {x:t.den} (h:teq t x x=true):bthO t (some x) (some x)=some x:=by
 unfold bthO
 simp only [h,if_true]
theorem ktw (x:Swap):bthO tSwap (some x) (some x)=some x:=kdJ (by simp [teq])
theorem c1_eq (x:Swap):kcx x=some (swBad x):=by
 unfold kcx swBad
 rw [ktw]
 simp only [jab,kvu]
 cases pOk x.1 x.2.1 <;> cases pOk x.2.2.1 x.2.2.2 <;> simp
theorem klF (l:List Swap) (hl:l.length<=1000):kcO l=some (swE l):=by
 unfold kcO swE
 rw [kae]
 by_cases h30:(30:Int)<l.length
 ·rw [if_pos (by simpa using h30),if_neg (by omega)]
 ·rw [if_neg (by simpa using h30)]
  unfold kbf kbo
  have e:(fun u0:Swap=>(kcx u0).bind fun u1=>some u1)=fun u=>some (swBad u):=by funext u; rw [c1_eq]; rfl
  rw [e,kdm (F:=kaG l _) l (by omega) (fun i x=>if swBad x then some (i:Int) else none) (fun i hi=>by
   unfold kaG
   rw [if_pos (by rw [kae]; simpa using hi),kaj hi,kam (by omega)]
   simp only [jab]
   by_cases h:swBad l[i]=true <;> simp [h,nextL]) (by unfold kaG; rw [if_neg (by simp [kae])])]
  have:∀ (l:List Swap) (k:Nat),(endL ((l.zipIdx k).findSome? fun x=>if swBad x.1 then some (x.2:Int) else none) = .inr ()/\l.any swBad=false)\/∃ p:Int,0<=p/\endL ((l.zipIdx k).findSome? fun x=>if swBad x.1 then some (x.2:Int) else none) = .inl p/\l.any swBad=true:=by
   intro l
   induction l with
   | nil=>intro k; exact .inl ⟨rfl,rfl⟩
   | cons x l ih=>
    intro k
    rw [jbv,jdh,jdm]
    cases hp:swBad x with
    | true=>exact .inr ⟨k,by omega,by simp [endL],by simp⟩
    | false=>
     simp only [jai,if_false,jcj]
     exact ih (k+1)
  rcases this l 0 with ⟨h1,h2⟩ | ⟨p,hp,h1,h2⟩
  ·rw [h1,h2]
   have h30':l.length<=30:=by omega
   simp [h30']
  ·rw [h1,h2]
   simp only [jab,decide_eq_true hp,if_true]
   rw [if_neg (by simp)]
theorem kkl (l:List Swap):kdQ l=some (swE l):=by
 unfold kdQ kiz swE
 rw [kae]
 by_cases h30:(30:Int)<l.length
 ·rw [if_pos (by simpa using h30),if_neg (by omega)]; rfl
 ·rw [if_neg (by simpa using h30),kdI (F:=keS l) false l (by omega) (fun _ x=>swBad x) (fun i hi=>by
   unfold keS
   rw [if_pos (by rw [kae]; simpa using hi),kaj hi,kam (by omega)]
   simp only [jab,kuu]
   unfold swBad
   cases pOk l[i].1 l[i].2.1 <;> cases pOk l[i].2.2.1 l[i].2.2.2 <;> cases (l[i].1==l[i].2.2.1) <;> cases (l[i].2.1==l[i].2.2.2) <;> simp) (by unfold keS; rw [if_neg (by simp [kae])])]
  rw [koI swBad l 0]
  cases h:l.any swBad with
  | true=>simp
  | false=>simp; omega
def mayB (sw:List Swap) (a b:Int×Int):Bool:=(a.1==b.1&&a.2==b.2)||sw.any fun v=>a.1==v.1&&(a.2==v.2.1&&(b.1==v.2.2.1&&b.2==v.2.2.2))
theorem kti (sw:List Swap) (hl:sw.length<=1000) (a b:Int×Int):khs sw a b=some (mayB sw a b):=by
 unfold khs mayB
 cases hc:(a.1==b.1&&a.2==b.2) with
 | true=>simp
 | false=>
  simp only [jai,if_false,jcj]
  unfold kbu kbJ
  let q:Swap->Bool:=fun v=>a.1==v.1&&(a.2==v.2.1&&(b.1==v.2.2.1&&b.2==v.2.2.2))
  rw [kdm (F:=kaX sw _) sw (by omega) (fun i x=>if q x then some (i:Int) else none) (fun i hi=>by
   unfold kaX
   rw [if_pos (by rw [kae]; simpa using hi),kaj hi,kam (by omega)]
   simp only [jab]
   by_cases h:q sw[i]=true
   ·have h':=h
    simp only [q] at h'
    rw [if_pos h',if_pos h]; rfl
   ·have h':=h
    simp only [q] at h'
    rw [if_neg h',if_neg h]; rfl) (by unfold kaX; rw [if_neg (by simp [kae])])]
  have:∀ (l:List Swap) (k:Nat),(endL ((l.zipIdx k).findSome? fun x=>if q x.1 then some (x.2:Int) else none) = .inr ()/\l.any q=false)\/∃ p:Int,0<=p/\endL ((l.zipIdx k).findSome? fun x=>if q x.1 then some (x.2:Int) else none) = .inl p/\l.any q=true:=by
   intro l
   induction l with
   | nil=>intro k; exact .inl ⟨rfl,rfl⟩
   | cons x l ih=>
    intro k
    rw [jbv,jdh,jdm]
    cases hp:q x with
    | true=>exact .inr ⟨k,by omega,by simp [endL],by simp⟩
    | false=>
     simp only [jai,if_false,jcj]
     exact ih (k+1)
  rcases this sw 0 with ⟨h1,h2⟩ | ⟨p,hp,h1,h2⟩
  ·rw [h1,h2]; rfl
  ·rw [h1,h2]
   simp only [jab,decide_eq_true hp]
theorem kkz (sw:List Swap) (hl:sw.length<=1000) (a b:Int×Int):kew sw a.1 a.2 b.1 b.2=some (mayB sw a b):=by
 unfold kew mayB
 have h0:(if (a.1==b.1)=true then some (a.2==b.2) else some false)=some (a.1==b.1&&a.2==b.2):=by cases (a.1==b.1) <;> simp
 rw [h0]
 simp only [jab]
 cases hc:(a.1==b.1&&a.2==b.2) with
 | true=>simp
 | false=>
  simp only [jai,if_false,jcj]
  rw [kdI (F:=kfL sw a.1 a.2 b.1 b.2) true sw (by omega) (fun _ v=>a.1==v.1&&(a.2==v.2.1&&(b.1==v.2.2.1&&b.2==v.2.2.2))) (fun i hi=>by
   unfold kfL
   rw [if_pos (by rw [kae]; simpa using hi),kaj hi,kam (by omega)]
   have e:(sw[i].1==a.1&&(sw[i].2.1==a.2&&(sw[i].2.2.1==b.1&&sw[i].2.2.2==b.2)))=(a.1==sw[i].1&&(a.2==sw[i].2.1&&(b.1==sw[i].2.2.1&&b.2==sw[i].2.2.2))):=by
    rw [Bool.beq_comm (a:=sw[i].1),Bool.beq_comm (a:=sw[i].2.1),Bool.beq_comm (a:=sw[i].2.2.1),Bool.beq_comm (a:=sw[i].2.2.2)]
   simp only [jab,e]
   split <;> rfl) (by unfold kfL; rw [if_neg (by simp [kae])])]
  rw [koI (fun v:Swap=>a.1==v.1&&(a.2==v.2.1&&(b.1==v.2.2.1&&b.2==v.2.2.2))) sw 0]
  cases sw.any fun v=>a.1==v.1&&(a.2==v.2.1&&(b.1==v.2.2.1&&b.2==v.2.2.2)) <;> rfl
def noFn:Ty->Bool
 | .fn _ _ _=>false
 | .pr p q | .sm p q=>noFn p&&noFn q
 | .w p | .pt p | .sl p | .op p | .ar _ p=>noFn p
 | _=>true
theorem kbz:∀ (t:Ty),noFn t=true->∀ x,teq t x x=true
 | .i _,_,x=>by simp [teq]
 | .b,_,x=>by simp [teq]
 | .s,_,x=>by simp [teq]
 | .un,_,x=>rfl
 | .nt,_,x=>by simp [teq]
 | .pr p q,h,x=>by
  simp only [noFn,jac] at h
  simp [teq,kbz p h.1,kbz q h.2]
 | .w a,h,x=>kbz a h x
 | .pt a,h,x=>kbz a h x
 | .sl a,h,x=>kkP (kbz a h) x
 | .op a,h,none=>rfl
 | .op a,h,some x=>kbz a h x
 | .ar _ a,h,x=>kkP (kbz a h) x.l
 | .sm p q,h,.inl x=>by
  simp only [noFn,jac] at h
  exact kbz p h.1 x
 | .sm p q,h,.inr x=>by
  simp only [noFn,jac] at h
  exact kbz q h.2 x
 | .fn _ _ _,h,x=>by simp [noFn] at h
def at3 (l:List It) (k:Nat):It:=(l[k]?).getD (0,0,0)
theorem kbG {l:List It} {k:Nat} (h:k<l.length):at3 l k=l[k]:=by unfold at3; rw [jae h]; rfl
def kc (x:It):Int×Int:=(x.1,x.2.1)
def mayQ (X Y:List It) (sw:List Swap) (k j:Nat):Prop:=mayB sw (kc (at3 Y k)) (kc (at3 X j))=true
def rowQ (X:List It) (sw:List Swap) (y:It):List Bool:=X.map fun x=>mayB sw (kc y) (kc x)
theorem koH {X:List It} {sw:List Swap} {y:It} {j:Nat} (h:j<X.length):sa (rowQ X sw y) j=mayB sw (kc y) (kc (at3 X j)):=by
 unfold sa rowQ
 rw [jbl,jav,kbG h,jae h]; rfl
theorem idx_mem {s:List Bool} {n:Nat} {x:Int}:x∈idx s n↔∃ j,j<n/\x=(j:Int)/\sa s j=true:=by
 unfold idx
 simp only [jay,jdq,jcv]
 constructor
 ·rintro ⟨j,⟨h1,h2⟩,rfl⟩; exact ⟨j,h1,rfl,h2⟩
 ·rintro ⟨j,h1,rfl,h2⟩; exact ⟨j,⟨h1,h2⟩,rfl⟩
theorem kiq {α:Type} {l:List α} {x d:α} {k:Nat}:(l++[x]).getD k d=if k=l.length then x else l.getD k d:=by
 rw [jbl,jbl,jbo]
 by_cases h:k<l.length
 ·rw [if_pos h,if_neg (by omega)]
 ·rw [if_neg h]
  by_cases e:k=l.length
  ·subst e; simp
  ·rw [if_neg e,jce (l:=l) (by omega),jce (l:=[x]) (by simp only [jcm,jec]; omega)]
theorem knk {U:List (List Int)} {n m:Nat} (h:∀ k,k<n->U.getD k []=List.replicate m 0) {k j:Nat} (hk:k<n) (hj:j<m):ua U k j=0:=by
 unfold ua
 rw [h k hk,jbl,jcb,if_pos hj]; rfl
theorem kut {X:List It} {j:Nat} (h:j<X.length):la (X.map fun x=>x.2.2) j=needN X j:=by
 unfold la needN
 rw [jbl,jav,jae h]; rfl
theorem kqM {X:List It} {i:Nat} (h:i<X.length):((X.take i).map fun x=>x.2.2)++[X[i].2.2]=(X.take (i+1)).map fun x=>x.2.2:=by
 rw [List.take_add_one,jae h,jco]; rfl
section
variable {X Y:List It} {sw:List Swap}
theorem kws (hX:X.length<=1000):iter (kcy X) (0,Y,[])=some (Y,X.map fun x=>x.2.2):=by
 obtain ⟨z,hz,rfl⟩:=Fl.iter_inv (F:=kcy X) (fun x=>∃ i:Nat,i<=X.length/\x=((i:Int),Y,(X.take i).map fun x=>x.2.2)) (fun x=>X.length-x.1.toNat) (fun z=>z=(Y,X.map fun x=>x.2.2))
  (fun x hx=>by
   obtain ⟨i,hi,rfl⟩:=hx
   by_cases hlt:i<X.length
   ·refine .inr ⟨((i+1:Nat),Y,(X.take (i+1)).map fun x=>x.2.2),?_,⟨i+1,by omega,rfl⟩,by simp only [jao]; omega⟩
    unfold kcy
    have hg:gapp ((X.take i).map fun x=>x.2.2) [X[i].2.2]=some ((X.take (i+1)).map fun x=>x.2.2):=by
     rw [kbZ (by simp only [jaw,jbh,jcm,jec]; omega),kqM hlt]
    simp only [lenI_lt.2 hlt,if_true,kaj hlt,jab,hg,kam (show i<9223372036854775807 by omega)]
   ·have:i=X.length:=by omega
    subst this
    refine .inl ⟨(Y,X.map fun x=>x.2.2),?_,rfl⟩
    rw [List.take_length]
    unfold kcy
    rw [if_neg keH])
  (0,Y,[]) ⟨0,by omega,rfl⟩ (by simp only; omega)
 exact hz
theorem kwu (hX:X.length<=1000):iter (kcz X) (0,[])=some (X.map fun x=>x.2.2):=by
 obtain ⟨z,hz,rfl⟩:=Fl.iter_inv (F:=kcz X) (fun x=>∃ i:Nat,i<=X.length/\x=((i:Int),(X.take i).map fun x=>x.2.2)) (fun x=>X.length-x.1.toNat) (fun z=>z=X.map fun x=>x.2.2)
  (fun x hx=>by
   obtain ⟨i,hi,rfl⟩:=hx
   by_cases hlt:i<X.length
   ·refine .inr ⟨((i+1:Nat),(X.take (i+1)).map fun x=>x.2.2),?_,⟨i+1,by omega,rfl⟩,by simp only [jao]; omega⟩
    unfold kcz
    have hg:gapp ((X.take i).map fun x=>x.2.2) [X[i].2.2]=some ((X.take (i+1)).map fun x=>x.2.2):=by
     rw [kbZ (by simp only [jaw,jbh,jcm,jec]; omega),kqM hlt]
    simp only [lenI_lt.2 hlt,if_true,kaj hlt,jab,hg,kam (show i<9223372036854775807 by omega)]
   ·have:i=X.length:=by omega
    subst this
    refine .inl ⟨X.map fun x=>x.2.2,?_,rfl⟩
    rw [List.take_length]
    unfold kcz
    rw [if_neg keH])
  (0,[]) ⟨0,by omega,rfl⟩ (by simp only; omega)
 exact hz
theorem row_p (hX:X.length<=1000) (hs:sw.length<=1000) (y:It):iter (kcD X sw y) (0,[])=some (idx (rowQ X sw y) X.length):=by
 have hl:(rowQ X sw y).length=X.length:=by simp [rowQ]
 have:=Fl.collect (s:=rowQ X sw y) (F:=kcD X sw y) (by omega) (fun i l hi hlen=>by
  rw [hl] at hi
  unfold kcD
  have h1:khs sw (kc y) (kc X[i])=some (mayB sw (kc y) (kc X[i])):=kti sw hs _ _
  unfold kc at h1
  simp only [lenI_lt.2 hi,if_true,kaj hi,jab,kbH,h1,kam (show i<9223372036854775807 by omega)]
  rw [koH hi,kbG hi]
  unfold kc
  cases mayB sw (y.1,y.2.1) (X[i].1,X[i].2.1) with
  | true=>simp only [if_true]; rw [kbZ (by simp; omega)]; rfl
  | false=>rfl) (fun l=>by
  unfold kcD
  rw [if_neg (by rw [hl]; exact keH)])
 rw [hl] at this
 exact this
theorem kvv (hX:X.length<=1000) (hY:Y.length<=1000) (hs:sw.length<=1000):∃ M U,iter (kcw X Y sw) (0,Y,[],[])=some (Y,M,U)/\MayL Y.length X.length (mayQ X Y sw) M/\U.length=Y.length/\∀ k,k<Y.length->U.getD k []=List.replicate X.length 0:=by
 obtain ⟨z,hz,M,U,rfl,a,b,c,d⟩:=Fl.iter_inv (F:=kcw X Y sw)
  (fun x=>∃ (i:Nat) (M U:List (List Int)),i<=Y.length/\x=((i:Int),Y,M,U)/\M.length=i/\(∀ k,k<i->M.getD k []=idx (rowQ X sw (at3 Y k)) X.length)/\U.length=i/\∀ k,k<i->U.getD k []=List.replicate X.length 0) (fun x=>Y.length-x.1.toNat)
  (fun z=>∃ M U,z=(Y,M,U)/\M.length=Y.length/\(∀ k,k<Y.length->M.getD k []=idx (rowQ X sw (at3 Y k)) X.length)/\U.length=Y.length/\∀ k,k<Y.length->U.getD k []=List.replicate X.length 0)
  (fun x hx=>by
   obtain ⟨i,M,U,hi,rfl,a,b,c,d⟩:=hx
   by_cases hlt:i<Y.length
   ·have hr:=row_p hX hs Y[i]
    have g1:gapp M [idx (rowQ X sw Y[i]) X.length]=some (M++[idx (rowQ X sw Y[i]) X.length]):=kbZ (by simp; omega)
    have g2:gmk (lenI X) (0:Int)=some (List.replicate X.length 0):=by
     unfold gmk
     rw [kae,if_pos (by omega),jao]
    have g3:gapp U [List.replicate X.length (0:Int)]=some (U++[List.replicate X.length 0]):=kbZ (by simp; omega)
    refine .inr ⟨((i+1:Nat),Y,M++[idx (rowQ X sw Y[i]) X.length],U++[List.replicate X.length 0]),?_,⟨i+1,_,_,by omega,rfl,by simp [a],fun k hk=>?_,by simp [c],fun k hk=>?_⟩,by simp only [jao]; omega⟩
    ·unfold kcw
     simp only [lenI_lt.2 hlt,if_true,kaj hlt,jab,hr,g1,g2,g3,kam (show i<9223372036854775807 by omega)]
     rw [kdJ (kbz _ rfl _),kdJ (kbz _ rfl _),kdJ (kbz _ rfl _),kdJ (kbz _ rfl _),kdJ (kbz _ rfl _)]
    ·rw [kiq]
     by_cases e:k=i
     ·subst e; rw [if_pos a.symm,kbG hlt]
     ·rw [if_neg (by omega)]; exact b k (by omega)
    ·rw [kiq]
     by_cases e:k=i
     ·subst e; rw [if_pos c.symm]
     ·rw [if_neg (by omega)]; exact d k (by omega)
   ·have:i=Y.length:=by omega
    subst this
    refine .inl ⟨(Y,M,U),?_,M,U,rfl,a,b,c,d⟩
    unfold kcw
    rw [if_neg keH])
  (0,Y,[],[]) ⟨0,[],[],by omega,rfl,rfl,fun k h=>by omega,rfl,fun k h=>by omega⟩ (by simp only; omega)
 refine ⟨M,U,hz,⟨a,fun k hk=>?_,fun k hk x hx=>?_,fun k hk j hj hm=>?_⟩,c,d⟩
 ·rw [b k hk]; have:=ksm (rowQ X sw (at3 Y k)) X.length; omega
 ·rw [b k hk] at hx
  obtain ⟨j,h1,h2,h3⟩:=idx_mem.1 hx
  rw [koH h1] at h3
  exact ⟨j,h1,h2,h3⟩
 ·rw [b k hk]
  exact idx_mem.2 ⟨j,hj,rfl,by rw [koH hj]; exact hm⟩
theorem row_r (hX:X.length<=1000) (hs:sw.length<=1000) {i:Nat} (hi:i<Y.length) (v0:Int×List (List Bool)×List (List Int)) (h0:v0.1=i):∃ r,iter (kcC X Y sw v0) (0,List.replicate X.length false)=some r/\r.length=X.length/\∀ j,j<X.length->sa r j=mayB sw (kc (at3 Y i)) (kc (at3 X j)):=by
 obtain ⟨z,hz,a,b⟩:=Fl.iter_inv (F:=kcC X Y sw v0)
  (fun x=>∃ (j:Nat) (r:List Bool),j<=X.length/\x=((j:Int),r)/\r.length=X.length/\∀ j',j'<j->sa r j'=mayB sw (kc (at3 Y i)) (kc (at3 X j'))) (fun x=>X.length-x.1.toNat)
  (fun r=>r.length=X.length/\∀ j,j<X.length->sa r j=mayB sw (kc (at3 Y i)) (kc (at3 X j)))
  (fun x hx=>by
   obtain ⟨j,r,hj,rfl,a,b⟩:=hx
   by_cases hlt:j<X.length
   ·have h1:kew sw Y[i].1 Y[i].2.1 X[j].1 X[j].2.1=some (mayB sw (kc Y[i]) (kc X[j])):=kkz sw hs (kc Y[i]) (kc X[j])
    have h2:gi r (j:Int)=some (sa r j):=Fl.gs a hlt
    refine .inr ⟨((j+1:Nat),r.set j (mayB sw (kc Y[i]) (kc X[j]))),?_,⟨j+1,_,by omega,rfl,by simp [a],fun j' hj'=>?_⟩,by simp only [jao]; omega⟩
    ·unfold kcC
     simp only [h0,lenI_lt.2 hlt,if_true,kaj hlt,kaj hi,jab,h1,h2,kam (show j<9223372036854775807 by omega)]
     rfl
    ·rw [show sa (r.set j (mayB sw (kc Y[i]) (kc X[j]))) j'=if j'=j then mayB sw (kc Y[i]) (kc X[j]) else sa r j' from Fl.getD_set (by omega)]
     by_cases e:j'=j
     ·subst e; rw [if_pos rfl,kbG hi,kbG hlt]
     ·rw [if_neg e]; exact b j' (by omega)
   ·have:j=X.length:=by omega
    subst this
    refine .inl ⟨r,?_,a,b⟩
    unfold kcC
    rw [if_neg keH])
  (0,List.replicate X.length false) ⟨0,_,by omega,rfl,by simp,fun j' h=>by omega⟩ (by simp only; omega)
 exact ⟨z,hz,a,b⟩
theorem kwa (hX:X.length<=1000) (hY:Y.length<=1000) (hs:sw.length<=1000):∃ B U,keP X Y sw=some (B,U,X.map fun x=>x.2.2)/\MayB Y.length X.length (mayQ X Y sw) B/\U.length=Y.length/\∀ k,k<Y.length->U.getD k []=List.replicate X.length 0:=by
 obtain ⟨z,hz,B,U,rfl,a,b,c,d⟩:=Fl.iter_inv (F:=kdz X Y sw)
  (fun x=>∃ (i:Nat) (B:List (List Bool)) (U:List (List Int)),i<=Y.length/\x=((i:Int),B,U)/\B.length=i/\(∀ k,k<i->(B.getD k []).length=X.length/\∀ j,j<X.length->sa (B.getD k []) j=mayB sw (kc (at3 Y k)) (kc (at3 X j)))/\U.length=i/\∀ k,k<i->U.getD k []=List.replicate X.length 0) (fun x=>Y.length-x.1.toNat)
  (fun z=>∃ B U,z=(B,U)/\B.length=Y.length/\(∀ k,k<Y.length->(B.getD k []).length=X.length/\∀ j,j<X.length->sa (B.getD k []) j=mayB sw (kc (at3 Y k)) (kc (at3 X j)))/\U.length=Y.length/\∀ k,k<Y.length->U.getD k []=List.replicate X.length 0)
  (fun x hx=>by
   obtain ⟨i,B,U,hi,rfl,a,b,c,d⟩:=hx
   by_cases hlt:i<Y.length
   ·obtain ⟨r,hr,r1,r2⟩:=row_r hX hs hlt ((i:Int),B,U) rfl
    have g0:gmk (lenI X) false=some (List.replicate X.length false):=by
     unfold gmk
     rw [kae,if_pos (by omega),jao]
    have g1:gapp B [r]=some (B++[r]):=kbZ (by simp; omega)
    have g2:gmk (lenI X) (0:Int)=some (List.replicate X.length 0):=by
     unfold gmk
     rw [kae,if_pos (by omega),jao]
    have g3:gapp U [List.replicate X.length (0:Int)]=some (U++[List.replicate X.length 0]):=kbZ (by simp; omega)
    refine .inr ⟨((i+1:Nat),B++[r],U++[List.replicate X.length 0]),?_,⟨i+1,_,_,by omega,rfl,by simp [a],fun k hk=>?_,by simp [c],fun k hk=>?_⟩,by simp only [jao]; omega⟩
    ·unfold kdz
     simp only [lenI_lt.2 hlt,if_true,g0,jab,hr,g1,g2,g3,kam (show i<9223372036854775807 by omega)]
    ·rw [kiq]
     by_cases e:k=i
     ·subst e; rw [if_pos a.symm]; exact ⟨r1,r2⟩
     ·rw [if_neg (by omega)]; exact b k (by omega)
    ·rw [kiq]
     by_cases e:k=i
     ·subst e; rw [if_pos c.symm]
     ·rw [if_neg (by omega)]; exact d k (by omega)
   ·have:i=Y.length:=by omega
    subst this
    refine .inl ⟨(B,U),?_,B,U,rfl,a,b,c,d⟩
    unfold kdz
    rw [if_neg keH])
  (0,[],[]) ⟨0,[],[],by omega,rfl,rfl,fun k h=>by omega,rfl,fun k h=>by omega⟩ (by simp only; omega)
 refine ⟨B,U,?_,⟨a,fun k hk=>(b k hk).1,fun k hk j hj=>by rw [(b k hk).2 j hj]; exact Iff.rfl⟩,c,d⟩
 unfold keP
 rw [hz]
 simp only [jab,kwu hX]
end
def askE (X Y:List It) (sw:List Swap):Int:=if stk X=true/\stk Y=true then swE sw else 8
theorem kuL (X Y:List It) (sw:List Swap):kgB X Y sw=some (askE X Y sw):=by
 unfold kgB askE
 rw [kiY,kiY,kkl]
 cases stk X <;> cases stk Y <;> simp
theorem ksZ {α β γ:Type} (x:Option α) (f:α->Option β):(x.bind fun a=>(f a).bind fun _=>(none:Option γ))=none:=by
 cases x with
 | none=>rfl
 | some a=>simp only [jab]; cases f a <;> rfl
section
variable {X Y:List It} {sw:List Swap}
theorem bad_p (hs:sw.length<=1000):(if ((if stk X=true/\stk Y=true then (0:Int) else 8)==0)=true then (kcO sw).bind fun v1=>some v1 else some (if stk X=true/\stk Y=true then (0:Int) else 8))=some (askE X Y sw):=by
 unfold askE
 rw [klF sw hs]
 by_cases h:stk X=true/\stk Y=true
 ·simp [h]
 ·simp [h]
theorem g0_eq (hX:X.length<=1000) (hY:Y.length<=1000) (hs:sw.length<=1000):keO X Y sw=if askE X Y sw≠0 then some (askE X Y sw) else none:=by
 unfold keO
 rw [knK hX hY]
 simp only [jab]
 rw [bad_p hs]
 simp only [jab]
 by_cases h:askE X Y sw=0
 ·rw [if_neg (by simp [h]),if_neg (by simp [h])]
  exact ksZ _ _
 ·rw [if_pos (by simp [h]),if_pos h]
theorem g1_ok (hX:X.length<=1000) (hY:Y.length<=1000) (hs:sw.length<=1000) (h:askE X Y sw=0):∃ M U,keQ X Y sw=some (0,Y,M,U,X.map fun x=>x.2.2)/\MayL Y.length X.length (mayQ X Y sw) M/\U.length=Y.length/\∀ k,k<Y.length->U.getD k []=List.replicate X.length 0:=by
 obtain ⟨M,U,h1,h2,h3,h4⟩:=kvv hX hY hs
 refine ⟨M,U,?_,h2,h3,h4⟩
 unfold keQ
 rw [knK hX hY]
 simp only [jab]
 rw [bad_p hs]
 simp only [jab]
 rw [if_neg (by simp [h]),kws hX]
 simp only [jab,h1]
end
theorem stk_N {l:List It} (h:stk l=true):l.length<=30/\∀ k,k<l.length->1<=needN l k/\needN l k<=1000:=by
 unfold stk at h
 simp only [jac,jak] at h
 refine ⟨h.1.1,fun k hk=>?_⟩
 rw [kjH hk]
 have:=jam.1 h.2 _ (jdu hk)
 unfold okN at this
 simpa using this
end Go.Abs
