/- The functions and the law, part 7. -/
import Derived.Test.YtadfdnfenimkpaaProg
import Derived.Test.YtadfdnfenimkpaaZ3
import Derived.Test.YtadfdnfenimkpaaZ6
set_option linter.constructorNameAsVariable false
set_option linter.unusedVariables false
set_option linter.unusedSimpArgs false
set_option linter.unusedSectionVars false
namespace Go.Abs
open Go
@[reducible] def kqu:Ty:=(.pr (.i .i64) (.sl (.i .i64)))
abbrev kaU:=(Int×(List Int))
@[reducible] def tFlow:Ty:=(.pr (.sl (.sl .b)) (.pr (.sl (.sl (.i .i64))) (.sl (.i .i64))))
abbrev Flow:=((List (List Bool))×(List (List Int))×(List Int))
@[reducible] def kcU:Ty:=(.pr (.sl (.pr (.i .i64) (.pr (.i .u8) (.i .i64)))) (.pr (.sl (.sl (.i .i64))) (.pr (.sl (.sl (.i .i64))) (.sl (.i .i64)))))
abbrev Flow5:=((List (Int×Int×Int))×(List (List Int))×(List (List Int))×(List Int))
@[reducible] def tSwap:Ty:=(.pr (.i .i64) (.pr (.i .u8) (.pr (.i .i64) (.i .u8))))
abbrev Swap:=(Int×Int×Int×Int)
def kbh (x0:Int) (x1:Int) (x2:Int):Option Bool:=
 (if (decide (x1≤x0))=true then (some (decide (x0≤x2))) else (some false))
def kdm (x0:(List (Int×Int×Int))) (v0:(Int×Int)):Option ((Int×Int)⊕Int):=
 (if (decide (v0.1<(lenI x0)))=true then ((gi x0 v0.1).bind fun v1=>((kbh v1.2.2 0 1000).bind fun v2=>(if v2=true then ((gi x0 v0.1).bind fun v3=>(some (.inl ((w64 (v0.1+1)),(w64 (v0.2+v3.2.2)))))) else (some (.inl ((w64 (v0.1+1)),v0.2)))))) else (some (.inr v0.2)))
def keU (x0:(List (Int×Int×Int))):Option Bool:=
 (if (decide (40<(lenI x0)))=true then (some true) else ((iter (kdm x0) (0,0)).bind fun v4=>(some (decide (8000<v4)))))
def keA (x0:(List (List (Int×Int×Int)))) (v0:Int):Option (Int⊕(Bool⊕Unit)):=
 (if (decide (v0<(lenI x0)))=true then ((gi x0 v0).bind fun v1=>((keU v1).bind fun v2=>(if v2=true then (some (.inr (.inl true))) else (some (.inl (w64 (v0+1))))))) else (some (.inr (.inr ()))))
def kgn (x0:(List (List (Int×Int×Int)))):Option Bool:=
 ((iter (keA x0) 0).bind fun v3=>(match v3 with | .inl v4=>(some v4) | .inr v5=>(some false)))
def kcm (x0:Int) (x1:Int) (x2:Int):Option Bool:=
 (if (decide (x0≤x2))=true then (some (decide (x2≤x1))) else (some false))
def kfi (x0:(Int×Int×Int)):Option Bool:=
 ((kcm 1 1000 x0.2.2).bind fun v0=>(some (!v0)))
def kbK (x0:(Int×Int)):Option Bool:=
 ((kcm 0 15 x0.1).bind fun v0=>(if v0=true then (some (decide (x0.2≤15))) else (some false)))
def keC (x0:Int):Option Bool:=
 (some (x0 != x0))
def kbf (x0:Int) (x1:Int):Option Int:=
 ((keC x0).bind fun v0=>((keC x1).bind fun v1=>(if v0=true then (if v1=true then (some 0) else (some (-1))) else (if v1=true then (some 1) else (if (decide (x0<x1))=true then (some (-1)) else (if (decide (x1<x0))=true then (some 1) else (some 0)))))))
def kdz (x0:Int):Option Bool:=
 (some (x0 != x0))
def kcN (x0:Int) (x1:Int):Option Int:=
 ((kdz x0).bind fun v0=>((kdz x1).bind fun v1=>(if v0=true then (if v1=true then (some 0) else (some (-1))) else (if v1=true then (some 1) else (if (decide (x0<x1))=true then (some (-1)) else (if (decide (x1<x0))=true then (some 1) else (some 0)))))))
def keG (x0:(List Int)) (v0:Int):Option (Int⊕(Int⊕Unit)):=
 (if (decide (v0<(lenI x0)))=true then ((gi x0 v0).bind fun v1=>(if (v1 != 0)=true then (some (.inr (.inl v1))) else (some (.inl (w64 (v0+1)))))) else (some (.inr (.inr ()))))
def kdW (x0:(List Int)):Option Int:=
 ((iter (keG x0) 0).bind fun v2=>(match v2 with | .inl v3=>(some v3) | .inr v4=>(some 0)))
def khq (x0:(Int×Int)) (x1:(Int×Int)):Option Int:=
 ((kbf x0.1 x1.1).bind fun v0=>((kcN x0.2 x1.2).bind fun v1=>((kdW [v0,v1]).bind fun v2=>(some v2))))
def kbD (x0:(List (Int×Int×Int))) (x2:((Int×Int×Int)→Option (Int×Int))) (v0:Int):Option (Int⊕(Bool⊕Unit)):=
 (if (decide (v0<(lenI x0)))=true then ((gi x0 v0).bind fun v1=>((x2 v1).bind fun v2=>((kbK v2).bind fun v3=>(if (!v3)=true then (some (.inr (.inl false))) else (if (decide (0<v0))=true then ((gi x0 (w64 (v0-1))).bind fun v4=>((x2 v4).bind fun v5=>((x2 v1).bind fun v6=>((khq v5 v6).bind fun v7=>(if (decide (0≤v7))=true then (some (.inr (.inl false))) else (some (.inl (w64 (v0+1))))))))) else (some (.inl (w64 (v0+1))))))))) else (some (.inr (.inr ()))))
def kcb (x0:(List (Int×Int×Int))) (x1:Int) (x2:((Int×Int×Int)→Option (Int×Int))):Option Bool:=
 ((iter (kbD x0 x2) 0).bind fun v8=>(match v8 with | .inl v9=>(some v9) | .inr v10=>(some (decide ((lenI x0)≤x1)))))
def kbx (x0:(Int×Int×Int)):Option (Int×Int):=
 (some (x0.1,x0.2.1))
def kaA (x0:(List (Int×Int×Int))) (x1:((Int×Int×Int)→Option Bool)) (v0:Int):Option (Int⊕(Int⊕Unit)):=
 (if (decide (v0<(lenI x0)))=true then ((gi x0 v0).bind fun v1=>((x1 v1).bind fun v2=>(if v2=true then (some (.inr (.inl v0))) else (some (.inl (w64 (v0+1))))))) else (some (.inr (.inr ()))))
def kaY (x0:(List (Int×Int×Int))) (x1:((Int×Int×Int)→Option Bool)):Option Int:=
 ((iter (kaA x0 x1) 0).bind fun v3=>(match v3 with | .inl v4=>(some v4) | .inr v5=>(some (-1))))
def kay (x0:(List (Int×Int×Int))) (x1:((Int×Int×Int)→Option Bool)):Option Bool:=
 ((kaY x0 x1).bind fun v0=>(some (decide (0≤v0))))
def khy (x0:(List (Int×Int×Int))):Option Int:=
 ((kcb x0 30 (fun (u0:(Int×Int×Int))=>((kbx u0).bind fun u1=>(some u1)))).bind fun v0=>(if (!v0)=true then (some 8) else ((kay x0 (fun (u0:(Int×Int×Int))=>((kfi u0).bind fun u1=>(some u1)))).bind fun v1=>(if v1=true then (some 8) else (some 0)))))
def keb (x0:(List (List (Int×Int×Int)))) (v0:Int):Option (Int⊕(Int⊕Unit)):=
 (if (decide (v0<(lenI x0)))=true then ((gi x0 v0).bind fun v1=>((khy v1).bind fun v2=>(if (v2 != 0)=true then (some (.inr (.inl v2))) else (some (.inl (w64 (v0+1))))))) else (some (.inr (.inr ()))))
def kdt (x0:(List (List (Int×Int×Int)))):Option Int:=
 ((iter (keb x0) 0).bind fun v3=>(match v3 with | .inl v4=>(some v4) | .inr v5=>(some 0)))
def kbT (x0:Swap):Option Bool:=
 ((bthO tSwap (some x0) (some x0)).bind fun v0=>((kbK (v0.1,v0.2.1)).bind fun v1=>(if (!v1)=true then (some true) else ((kbK v0.2.2).bind fun v2=>(if (!v2)=true then (some true) else (some ((v0.1==v0.2.2.1)&&(v0.2.1==v0.2.2.2))))))))
def kaz (x0:(List Swap)) (x1:(Swap→Option Bool)) (v0:Int):Option (Int⊕(Int⊕Unit)):=
 (if (decide (v0<(lenI x0)))=true then ((gi x0 v0).bind fun v1=>((x1 v1).bind fun v2=>(if v2=true then (some (.inr (.inl v0))) else (some (.inl (w64 (v0+1))))))) else (some (.inr (.inr ()))))
def kaW (x0:(List Swap)) (x1:(Swap→Option Bool)):Option Int:=
 ((iter (kaz x0 x1) 0).bind fun v3=>(match v3 with | .inl v4=>(some v4) | .inr v5=>(some (-1))))
def kaP (x0:(List Swap)) (x1:(Swap→Option Bool)):Option Bool:=
 ((kaW x0 x1).bind fun v0=>(some (decide (0≤v0))))
def kbq (x0:(List Swap)):Option Int:=
 (if (decide (30<(lenI x0)))=true then (some 2) else ((kaP x0 (fun (u0:Swap)=>((kbT u0).bind fun u1=>(some u1)))).bind fun v0=>(if v0=true then (some 2) else (some 0))))
def kaK (x0:(List Swap)) (x1:Swap) (v0:Int):Option (Int⊕(Int⊕Unit)):=
 (if (decide (v0<(lenI x0)))=true then ((gi x0 v0).bind fun v1=>(if ((x1.1==v1.1)&&((x1.2.1==v1.2.1)&&((x1.2.2.1==v1.2.2.1)&&(x1.2.2.2==v1.2.2.2))))=true then (some (.inr (.inl v0))) else (some (.inl (w64 (v0+1)))))) else (some (.inr (.inr ()))))
def kbm (x0:(List Swap)) (x1:Swap):Option Int:=
 ((iter (kaK x0 x1) 0).bind fun v2=>(match v2 with | .inl v3=>(some v3) | .inr v4=>(some (-1))))
def kba (x0:(List Swap)) (x1:Swap):Option Bool:=
 ((kbm x0 x1).bind fun v0=>(some (decide (0≤v0))))
def kfr (x0:(List Swap)) (x1:(Int×Int)) (x2:(Int×Int)):Option Bool:=
 (if ((x1.1==x2.1)&&(x1.2==x2.2))=true then (some true) else ((kba x0 (x1.1,x1.2,x2)).bind fun v0=>(some v0)))
def kog (x0:(List (Int×Int×Int))) (v3:(Int×(List (Int×Int×Int))×(List Int))):Option ((Int×(List (Int×Int×Int))×(List Int))⊕((List (Int×Int×Int))×(List Int))):=
 (if (decide (v3.1<(lenI x0)))=true then ((gi x0 v3.1).bind fun v4=>((gapp v3.2.2 [v4.2.2]).bind fun v5=>(some (.inl ((w64 (v3.1+1)),v3.2.1,v5))))) else (some (.inr v3.2)))
def kps (x0:(List (Int×Int×Int))) (x2:(List Swap)) (v8:(Int×Int×Int)) (v9:kaU):Option (kaU⊕(List Int)):=
 (if (decide (v9.1<(lenI x0)))=true then ((gi x0 v9.1).bind fun v10=>((kbx v8).bind fun v11=>((kbx v10).bind fun v12=>((kfr x2 v11 v12).bind fun v13=>(if v13=true then ((gapp v9.2 [v9.1]).bind fun v14=>(some (.inl ((w64 (v9.1+1)),v14)))) else (some (.inl ((w64 (v9.1+1)),v9.2)))))))) else (some (.inr v9.2)))
def koh (x0:(List (Int×Int×Int))) (x1:(List (Int×Int×Int))) (x2:(List Swap)) (v7:(Int×(List (Int×Int×Int))×(List (List Int))×(List (List Int)))):Option ((Int×(List (Int×Int×Int))×(List (List Int))×(List (List Int)))⊕((List (Int×Int×Int))×(List (List Int))×(List (List Int)))):=
 (if (decide (v7.1<(lenI x1)))=true then ((gi x1 v7.1).bind fun v8=>((iter (kps x0 x2 v8) (0,[])).bind fun v15=>(bthO (.sm (.pr (.i .i64) (.pr (.sl (.pr (.i .i64) (.pr (.i .u8) (.i .i64)))) (.pr (.sl (.sl (.i .i64))) (.sl (.sl (.i .i64)))))) (.pr (.sl (.pr (.i .i64) (.pr (.i .u8) (.i .i64)))) (.pr (.sl (.sl (.i .i64))) (.sl (.sl (.i .i64)))))) ((gapp v7.2.2.1 [v15]).bind fun v16=>((gmk (lenI x0) 0).bind fun v17=>((gapp v7.2.2.2 [v17]).bind fun v18=>(some (.inl ((w64 (v7.1+1)),v7.2.1,v16,v18)))))) (bthO (.sm (.pr (.i .i64) (.pr (.sl (.pr (.i .i64) (.pr (.i .u8) (.i .i64)))) (.pr (.sl (.sl (.i .i64))) (.sl (.sl (.i .i64)))))) (.pr (.sl (.pr (.i .i64) (.pr (.i .u8) (.i .i64)))) (.pr (.sl (.sl (.i .i64))) (.sl (.sl (.i .i64)))))) ((gmk (lenI x0) 0).bind fun v19=>((gapp v7.2.2.1 [v15]).bind fun v20=>((gapp v7.2.2.2 [v19]).bind fun v21=>(some (.inl ((w64 (v7.1+1)),v7.2.1,v20,v21)))))) (bthO (.sm (.pr (.i .i64) (.pr (.sl (.pr (.i .i64) (.pr (.i .u8) (.i .i64)))) (.pr (.sl (.sl (.i .i64))) (.sl (.sl (.i .i64)))))) (.pr (.sl (.pr (.i .i64) (.pr (.i .u8) (.i .i64)))) (.pr (.sl (.sl (.i .i64))) (.sl (.sl (.i .i64)))))) ((gmk (lenI x0) 0).bind fun v22=>((gapp v7.2.2.1 [v15]).bind fun v23=>((gapp v7.2.2.2 [v22]).bind fun v24=>(some (.inl ((w64 (v7.1+1)),v7.2.1,v23,v24)))))) (bthO (.sm (.pr (.i .i64) (.pr (.sl (.pr (.i .i64) (.pr (.i .u8) (.i .i64)))) (.pr (.sl (.sl (.i .i64))) (.sl (.sl (.i .i64)))))) (.pr (.sl (.pr (.i .i64) (.pr (.i .u8) (.i .i64)))) (.pr (.sl (.sl (.i .i64))) (.sl (.sl (.i .i64)))))) ((gmk (lenI x0) 0).bind fun v25=>((gapp v7.2.2.1 [v15]).bind fun v26=>((gapp v7.2.2.2 [v25]).bind fun v27=>(some (.inl ((w64 (v7.1+1)),v7.2.1,v26,v27)))))) (bthO (.sm (.pr (.i .i64) (.pr (.sl (.pr (.i .i64) (.pr (.i .u8) (.i .i64)))) (.pr (.sl (.sl (.i .i64))) (.sl (.sl (.i .i64)))))) (.pr (.sl (.pr (.i .i64) (.pr (.i .u8) (.i .i64)))) (.pr (.sl (.sl (.i .i64))) (.sl (.sl (.i .i64)))))) ((gmk (lenI x0) 0).bind fun v28=>((gapp v7.2.2.1 [v15]).bind fun v29=>((gapp v7.2.2.2 [v28]).bind fun v30=>(some (.inl ((w64 (v7.1+1)),v7.2.1,v29,v30)))))) ((gmk (lenI x0) 0).bind fun v31=>((gapp v7.2.2.1 [v15]).bind fun v32=>((gapp v7.2.2.2 [v31]).bind fun v33=>(some (.inl ((w64 (v7.1+1)),v7.2.1,v32,v33))))))))))))) else (some (.inr v7.2)))
def ksa (x0:(List (Int×Int×Int))) (x1:(List (Int×Int×Int))) (x2:(List Swap)):Option ((Option Flow5)×Int):=
 ((kdt [x0,x1]).bind fun v0=>((if (v0==0)=true then ((kbq x2).bind fun v1=>(some v1)) else (some v0)).bind fun v2=>(if (v2 != 0)=true then (some (none,v2)) else ((iter (kog x0) (0,x1,[])).bind fun v6=>((iter (koh x0 x1 x2) (0,v6.1,[],[])).bind fun v34=>(some ((some (v34.1,v34.2.1,v34.2.2,v6.2)),0)))))))
def kbd (rec_box_flow_short_c1_m0:Int→(List Bool)→(Option Flow5)→Option ((List Bool)×(Option Flow5))) (v6:Int) (v7:Flow5) (v8:(Int×(Option Flow5)×(List Bool))):Option ((Int×(Option Flow5)×(List Bool))⊕((Option Flow5)×(List Bool))):=
 (if (decide (v8.1<(lenI v7.2.2.1)))=true then (v8.2.1.bind fun v9=>((gi v9.2.2.1 v8.1).bind fun v10=>((gi v10 v6).bind fun v11=>(if (decide (0<v11))=true then ((rec_box_flow_short_c1_m0 v8.1 v8.2.2 v8.2.1).bind fun v12=>(some (.inl ((w64 (v8.1+1)),v12.2,v12.1)))) else (some (.inl ((w64 (v8.1+1)),v8.2))))))) else (some (.inr v8.2)))
def kbE (rec_box_flow_short_c1_m0:Int→(List Bool)→(Option Flow5)→Option ((List Bool)×(Option Flow5))) (v4:(List Int)) (v5:(Int×(Option Flow5)×(List Bool))):Option ((Int×(Option Flow5)×(List Bool))⊕((Option Flow5)×(List Bool))):=
 (if (decide (v5.1<(lenI v4)))=true then ((gi v4 v5.1).bind fun v6=>(v5.2.1.bind fun v7=>((iter (kbd rec_box_flow_short_c1_m0 v6 v7) (0,v5.2)).bind fun v13=>(some (.inl ((w64 (v5.1+1)),v13)))))) else (some (.inr v5.2)))
def kev (rec_box_flow_short_c1_m0:Int→(List Bool)→(Option Flow5)→Option ((List Bool)×(Option Flow5))) (x0:Int) (x1:(List Bool)) (x2:(Option Flow5)):Option ((List Bool)×(Option Flow5)):=
 ((gi x1 x0).bind fun v0=>((gi x1 x0).bind fun v1=>(if v1=true then (some (x1,x2)) else ((gi x1 x0).bind fun v2=>(x2.bind fun v3=>((gi v3.2.1 x0).bind fun v4=>((iter (kbE rec_box_flow_short_c1_m0 v4) (0,x2,(lset x1 x0 true))).bind fun v14=>(some (v14.2,v14.1)))))))))
def kaJ:Nat→Int→(List Bool)→(Option Flow5)→Option ((List Bool)×(Option Flow5))
 | 0,_,_,_=>none
 | k+1,x0,x1,x2=>kev (kaJ k) x0 x1 x2
def kce (x0:Int) (x1:(List Bool)) (x2:(Option Flow5)):Option ((List Bool)×(Option Flow5)):=kaJ 1000000 x0 x1 x2
def kkh (x1:(List Bool)) (v1:(Int×(List Bool)×(Option Flow5))):Option ((Int×(List Bool)×(Option Flow5))⊕(List Bool)):=
 (if (decide (v1.1<(lenI x1)))=true then ((gi x1 v1.1).bind fun v2=>(if v2=true then ((kce v1.1 v1.2.1 v1.2.2).bind fun v3=>(some (.inl ((w64 (v1.1+1)),v3)))) else (some (.inl ((w64 (v1.1+1)),v1.2))))) else (some (.inr v1.2.1)))
def kkj (v4:(List Bool)) (v5:kaU):Option (kaU⊕(List Int)):=
 (if (decide (v5.1<(lenI v4)))=true then ((gi v4 v5.1).bind fun v6=>((gi v4 v5.1).bind fun v7=>(if v7=true then ((gapp v5.2 [v5.1]).bind fun v8=>(some (.inl ((w64 (v5.1+1)),v8)))) else (some (.inl ((w64 (v5.1+1)),v5.2)))))) else (some (.inr v5.2)))
def kmy (x0:(Option Flow5)) (x1:(List Bool)):Option (List Int):=
 ((gmk (lenI x1) false).bind fun v0=>((iter (kkh x1) (0,v0,x0)).bind fun v4=>((iter (kkj v4) (0,[])).bind fun v9=>(some v9))))
def kkc (x0:(List (Int×Int×Int))) (v3:(Int×(List (Int×Int×Int))×(List Int))):Option ((Int×(List (Int×Int×Int))×(List Int))⊕((List (Int×Int×Int))×(List Int))):=
 (if (decide (v3.1<(lenI x0)))=true then ((gi x0 v3.1).bind fun v4=>((gapp v3.2.2 [v4.2.2]).bind fun v5=>(some (.inl ((w64 (v3.1+1)),v3.2.1,v5))))) else (some (.inr v3.2)))
def kkd (x0:(List (Int×Int×Int))) (x2:(List Swap)) (v8:(Int×Int×Int)) (v9:kaU):Option (kaU⊕(List Int)):=
 (if (decide (v9.1<(lenI x0)))=true then ((gi x0 v9.1).bind fun v10=>((kbx v8).bind fun v11=>((kbx v10).bind fun v12=>((kfr x2 v11 v12).bind fun v13=>(if v13=true then ((gapp v9.2 [v9.1]).bind fun v14=>(some (.inl ((w64 (v9.1+1)),v14)))) else (some (.inl ((w64 (v9.1+1)),v9.2)))))))) else (some (.inr v9.2)))
def kki (x0:(List (Int×Int×Int))) (x1:(List (Int×Int×Int))) (x2:(List Swap)) (v7:(Int×(List (Int×Int×Int))×(List (List Int))×(List (List Int)))):Option ((Int×(List (Int×Int×Int))×(List (List Int))×(List (List Int)))⊕((List (Int×Int×Int))×(List (List Int))×(List (List Int)))):=
 (if (decide (v7.1<(lenI x1)))=true then ((gi x1 v7.1).bind fun v8=>((iter (kkd x0 x2 v8) (0,[])).bind fun v15=>(bthO (.sm (.pr (.i .i64) (.pr (.sl (.pr (.i .i64) (.pr (.i .u8) (.i .i64)))) (.pr (.sl (.sl (.i .i64))) (.sl (.sl (.i .i64)))))) (.pr (.sl (.pr (.i .i64) (.pr (.i .u8) (.i .i64)))) (.pr (.sl (.sl (.i .i64))) (.sl (.sl (.i .i64)))))) ((gapp v7.2.2.1 [v15]).bind fun v16=>((gmk (lenI x0) 0).bind fun v17=>((gapp v7.2.2.2 [v17]).bind fun v18=>(some (.inl ((w64 (v7.1+1)),v7.2.1,v16,v18)))))) (bthO (.sm (.pr (.i .i64) (.pr (.sl (.pr (.i .i64) (.pr (.i .u8) (.i .i64)))) (.pr (.sl (.sl (.i .i64))) (.sl (.sl (.i .i64)))))) (.pr (.sl (.pr (.i .i64) (.pr (.i .u8) (.i .i64)))) (.pr (.sl (.sl (.i .i64))) (.sl (.sl (.i .i64)))))) ((gmk (lenI x0) 0).bind fun v19=>((gapp v7.2.2.1 [v15]).bind fun v20=>((gapp v7.2.2.2 [v19]).bind fun v21=>(some (.inl ((w64 (v7.1+1)),v7.2.1,v20,v21)))))) (bthO (.sm (.pr (.i .i64) (.pr (.sl (.pr (.i .i64) (.pr (.i .u8) (.i .i64)))) (.pr (.sl (.sl (.i .i64))) (.sl (.sl (.i .i64)))))) (.pr (.sl (.pr (.i .i64) (.pr (.i .u8) (.i .i64)))) (.pr (.sl (.sl (.i .i64))) (.sl (.sl (.i .i64)))))) ((gmk (lenI x0) 0).bind fun v22=>((gapp v7.2.2.1 [v15]).bind fun v23=>((gapp v7.2.2.2 [v22]).bind fun v24=>(some (.inl ((w64 (v7.1+1)),v7.2.1,v23,v24)))))) (bthO (.sm (.pr (.i .i64) (.pr (.sl (.pr (.i .i64) (.pr (.i .u8) (.i .i64)))) (.pr (.sl (.sl (.i .i64))) (.sl (.sl (.i .i64)))))) (.pr (.sl (.pr (.i .i64) (.pr (.i .u8) (.i .i64)))) (.pr (.sl (.sl (.i .i64))) (.sl (.sl (.i .i64)))))) ((gmk (lenI x0) 0).bind fun v25=>((gapp v7.2.2.1 [v15]).bind fun v26=>((gapp v7.2.2.2 [v25]).bind fun v27=>(some (.inl ((w64 (v7.1+1)),v7.2.1,v26,v27)))))) (bthO (.sm (.pr (.i .i64) (.pr (.sl (.pr (.i .i64) (.pr (.i .u8) (.i .i64)))) (.pr (.sl (.sl (.i .i64))) (.sl (.sl (.i .i64)))))) (.pr (.sl (.pr (.i .i64) (.pr (.i .u8) (.i .i64)))) (.pr (.sl (.sl (.i .i64))) (.sl (.sl (.i .i64)))))) ((gmk (lenI x0) 0).bind fun v28=>((gapp v7.2.2.1 [v15]).bind fun v29=>((gapp v7.2.2.2 [v28]).bind fun v30=>(some (.inl ((w64 (v7.1+1)),v7.2.1,v29,v30)))))) ((gmk (lenI x0) 0).bind fun v31=>((gapp v7.2.2.1 [v15]).bind fun v32=>((gapp v7.2.2.2 [v31]).bind fun v33=>(some (.inl ((w64 (v7.1+1)),v7.2.1,v32,v33))))))))))))) else (some (.inr v7.2)))
def kcT (x0:(List (Int×Int×Int))) (x1:(List (Int×Int×Int))) (x2:(List Swap)):Option Int:=
 ((kdt [x0,x1]).bind fun v0=>((if (v0==0)=true then ((kbq x2).bind fun v1=>(some v1)) else (some v0)).bind fun v2=>(if (v2 != 0)=true then (some v2) else ((iter (kkc x0) (0,x1,[])).bind fun v6=>((iter (kki x0 x1 x2) (0,v6.1,[],[])).bind fun v34=>none)))))
def kbZ (x0:(List (Int×Int×Int))) (v3:(Int×(List (Int×Int×Int))×(List Int))):Option ((Int×(List (Int×Int×Int))×(List Int))⊕((List (Int×Int×Int))×(List Int))):=
 (if (decide (v3.1<(lenI x0)))=true then ((gi x0 v3.1).bind fun v4=>((gapp v3.2.2 [v4.2.2]).bind fun v5=>(some (.inl ((w64 (v3.1+1)),v3.2.1,v5))))) else (some (.inr v3.2)))
def kbV (x0:(List (Int×Int×Int))) (x2:(List Swap)) (v8:(Int×Int×Int)) (v9:kaU):Option (kaU⊕(List Int)):=
 (if (decide (v9.1<(lenI x0)))=true then ((gi x0 v9.1).bind fun v10=>((kbx v8).bind fun v11=>((kbx v10).bind fun v12=>((kfr x2 v11 v12).bind fun v13=>(if v13=true then ((gapp v9.2 [v9.1]).bind fun v14=>(some (.inl ((w64 (v9.1+1)),v14)))) else (some (.inl ((w64 (v9.1+1)),v9.2)))))))) else (some (.inr v9.2)))
def kbY (x0:(List (Int×Int×Int))) (x1:(List (Int×Int×Int))) (x2:(List Swap)) (v7:(Int×(List (Int×Int×Int))×(List (List Int))×(List (List Int)))):Option ((Int×(List (Int×Int×Int))×(List (List Int))×(List (List Int)))⊕((List (Int×Int×Int))×(List (List Int))×(List (List Int)))):=
 (if (decide (v7.1<(lenI x1)))=true then ((gi x1 v7.1).bind fun v8=>((iter (kbV x0 x2 v8) (0,[])).bind fun v15=>(bthO (.sm (.pr (.i .i64) (.pr (.sl (.pr (.i .i64) (.pr (.i .u8) (.i .i64)))) (.pr (.sl (.sl (.i .i64))) (.sl (.sl (.i .i64)))))) (.pr (.sl (.pr (.i .i64) (.pr (.i .u8) (.i .i64)))) (.pr (.sl (.sl (.i .i64))) (.sl (.sl (.i .i64)))))) ((gapp v7.2.2.1 [v15]).bind fun v16=>((gmk (lenI x0) 0).bind fun v17=>((gapp v7.2.2.2 [v17]).bind fun v18=>(some (.inl ((w64 (v7.1+1)),v7.2.1,v16,v18)))))) (bthO (.sm (.pr (.i .i64) (.pr (.sl (.pr (.i .i64) (.pr (.i .u8) (.i .i64)))) (.pr (.sl (.sl (.i .i64))) (.sl (.sl (.i .i64)))))) (.pr (.sl (.pr (.i .i64) (.pr (.i .u8) (.i .i64)))) (.pr (.sl (.sl (.i .i64))) (.sl (.sl (.i .i64)))))) ((gmk (lenI x0) 0).bind fun v19=>((gapp v7.2.2.1 [v15]).bind fun v20=>((gapp v7.2.2.2 [v19]).bind fun v21=>(some (.inl ((w64 (v7.1+1)),v7.2.1,v20,v21)))))) (bthO (.sm (.pr (.i .i64) (.pr (.sl (.pr (.i .i64) (.pr (.i .u8) (.i .i64)))) (.pr (.sl (.sl (.i .i64))) (.sl (.sl (.i .i64)))))) (.pr (.sl (.pr (.i .i64) (.pr (.i .u8) (.i .i64)))) (.pr (.sl (.sl (.i .i64))) (.sl (.sl (.i .i64)))))) ((gmk (lenI x0) 0).bind fun v22=>((gapp v7.2.2.1 [v15]).bind fun v23=>((gapp v7.2.2.2 [v22]).bind fun v24=>(some (.inl ((w64 (v7.1+1)),v7.2.1,v23,v24)))))) (bthO (.sm (.pr (.i .i64) (.pr (.sl (.pr (.i .i64) (.pr (.i .u8) (.i .i64)))) (.pr (.sl (.sl (.i .i64))) (.sl (.sl (.i .i64)))))) (.pr (.sl (.pr (.i .i64) (.pr (.i .u8) (.i .i64)))) (.pr (.sl (.sl (.i .i64))) (.sl (.sl (.i .i64)))))) ((gmk (lenI x0) 0).bind fun v25=>((gapp v7.2.2.1 [v15]).bind fun v26=>((gapp v7.2.2.2 [v25]).bind fun v27=>(some (.inl ((w64 (v7.1+1)),v7.2.1,v26,v27)))))) (bthO (.sm (.pr (.i .i64) (.pr (.sl (.pr (.i .i64) (.pr (.i .u8) (.i .i64)))) (.pr (.sl (.sl (.i .i64))) (.sl (.sl (.i .i64)))))) (.pr (.sl (.pr (.i .i64) (.pr (.i .u8) (.i .i64)))) (.pr (.sl (.sl (.i .i64))) (.sl (.sl (.i .i64)))))) ((gmk (lenI x0) 0).bind fun v28=>((gapp v7.2.2.1 [v15]).bind fun v29=>((gapp v7.2.2.2 [v28]).bind fun v30=>(some (.inl ((w64 (v7.1+1)),v7.2.1,v29,v30)))))) ((gmk (lenI x0) 0).bind fun v31=>((gapp v7.2.2.1 [v15]).bind fun v32=>((gapp v7.2.2.2 [v31]).bind fun v33=>(some (.inl ((w64 (v7.1+1)),v7.2.1,v32,v33))))))))))))) else (some (.inr v7.2)))
def kcW (x0:(List (Int×Int×Int))) (x1:(List (Int×Int×Int))) (x2:(List Swap)):Option (Int×Flow5):=
 ((kdt [x0,x1]).bind fun v0=>((if (v0==0)=true then ((kbq x2).bind fun v1=>(some v1)) else (some v0)).bind fun v2=>(if (v2 != 0)=true then none else ((iter (kbZ x0) (0,x1,[])).bind fun v6=>((iter (kbY x0 x1 x2) (0,v6.1,[],[])).bind fun v34=>(some (0,v34.1,v34.2.1,v34.2.2,v6.2)))))))
def kby (x1:(List Bool)) (v1:(Int×(List Bool)×(Option Flow5))):Option ((Int×(List Bool)×(Option Flow5))⊕(List Bool)):=
 (if (decide (v1.1<(lenI x1)))=true then ((gi x1 v1.1).bind fun v2=>(if v2=true then ((kce v1.1 v1.2.1 v1.2.2).bind fun v3=>(some (.inl ((w64 (v1.1+1)),v3)))) else (some (.inl ((w64 (v1.1+1)),v1.2))))) else (some (.inr v1.2.1)))
def kcd (v4:(List Bool)) (v5:kaU):Option (kaU⊕(List Int)):=
 (if (decide (v5.1<(lenI v4)))=true then ((gi v4 v5.1).bind fun v6=>((gi v4 v5.1).bind fun v7=>(if v7=true then ((gapp v5.2 [v5.1]).bind fun v8=>(some (.inl ((w64 (v5.1+1)),v8)))) else (some (.inl ((w64 (v5.1+1)),v5.2)))))) else (some (.inr v5.2)))
def kbS (x0:(Option Flow5)) (x1:(List Bool)):Option (List Int):=
 ((gmk (lenI x1) false).bind fun v0=>((iter (kby x1) (0,v0,x0)).bind fun v4=>((iter (kcd v4) (0,[])).bind fun v9=>(some v9))))
def kaQ (rec_box_flow_give_c1_m3:Int→Int→(List (Int×Int×Int))→(List (List Int))→(List (List Int))→(List Int)→(List Bool)→Option (Int×(List (Int×Int×Int))×(List (List Int))×(List (List Int))×(List Int)×(List Bool))) (x0:Int) (x1:Int) (v2:(Int×(List Bool)×Flow5)) (v3:Int) (v22:(Int×(List (Int×Int×Int))×(List (List Int))×(List (List Int))×(List Int)×(List Bool))):Option ((Int×(List (Int×Int×Int))×(List (List Int))×(List (List Int))×(List Int)×(List Bool))⊕((Int×(List (Int×Int×Int))×(List (List Int))×(List (List Int))×(List Int)×(List Bool))⊕((List (Int×Int×Int))×(List (List Int))×(List (List Int))×(List Int)×(List Bool)))):=
 (if (decide (v22.1<(lenI v2.2.2.2.2.1)))=true then ((gi v22.2.2.2.1 v22.1).bind fun v23=>((gi v22.2.2.2.1 v22.1).bind fun v24=>((gi v22.2.2.2.1 v22.1).bind fun v25=>((gi v25 v3).bind fun v26=>((gi v22.2.2.2.1 v22.1).bind fun v27=>((gi v27 v3).bind fun v28=>(if (v28==0)=true then (some (.inl ((w64 (v22.1+1)),v22.2))) else ((gi v22.2.2.2.1 v22.1).bind fun v29=>((gi v22.2.2.2.1 v22.1).bind fun v30=>((gi v22.2.2.2.1 v22.1).bind fun v31=>((gi v31 v3).bind fun v32=>((gi v22.2.2.2.1 v22.1).bind fun v33=>((gi v33 v3).bind fun v34=>((rec_box_flow_give_c1_m3 v22.1 (imin x1 v34) v22.2.1 v22.2.2.1 v22.2.2.2.1 v22.2.2.2.2.1 v22.2.2.2.2.2).bind fun v35=>(if (decide (0<v35.1))=true then ((gi v35.2.2.2.1 v22.1).bind fun v36=>((gi v35.2.2.2.1 v22.1).bind fun v37=>((gi v35.2.2.2.1 v22.1).bind fun v38=>((gi v38 v3).bind fun v39=>((gi v35.2.2.2.1 v22.1).bind fun v40=>((gi v40 v3).bind fun v41=>((gi v35.2.2.2.1 v22.1).bind fun v42=>((gi v42 v3).bind fun v43=>((gi v35.2.2.2.1 v22.1).bind fun v44=>((gi v44 v3).bind fun v45=>((gi (lset v35.2.2.2.1 v22.1 (lset v44 v3 (w64 (v41-v35.1)))) x0).bind fun v46=>((gi (lset v35.2.2.2.1 v22.1 (lset v44 v3 (w64 (v41-v35.1)))) x0).bind fun v47=>((gi (lset v35.2.2.2.1 v22.1 (lset v44 v3 (w64 (v41-v35.1)))) x0).bind fun v48=>((gi v48 v3).bind fun v49=>((gi (lset v35.2.2.2.1 v22.1 (lset v44 v3 (w64 (v41-v35.1)))) x0).bind fun v50=>((gi v50 v3).bind fun v51=>((gi (lset v35.2.2.2.1 v22.1 (lset v44 v3 (w64 (v41-v35.1)))) x0).bind fun v52=>((gi v52 v3).bind fun v53=>((gi (lset v35.2.2.2.1 v22.1 (lset v44 v3 (w64 (v41-v35.1)))) x0).bind fun v54=>((gi v54 v3).bind fun v55=>(some (.inr (.inl (v35.1,v35.2.1,v35.2.2.1,(lset (lset v35.2.2.2.1 v22.1 (lset v44 v3 (w64 (v41-v35.1)))) x0 (lset v54 v3 (w64 (v51+v35.1)))),v35.2.2.2.2)))))))))))))))))))))))) else (some (.inl ((w64 (v22.1+1)),v35.2)))))))))))))))))) else (some (.inr (.inr v22.2))))
def kaI (rec_box_flow_give_c1_m3:Int→Int→(List (Int×Int×Int))→(List (List Int))→(List (List Int))→(List Int)→(List Bool)→Option (Int×(List (Int×Int×Int))×(List (List Int))×(List (List Int))×(List Int)×(List Bool))) (x0:Int) (x1:Int) (v1:(List Int)) (v2:(Int×(List Bool)×Flow5)):Option ((Int×(List Bool)×Flow5)⊕((Int×(List (Int×Int×Int))×(List (List Int))×(List (List Int))×(List Int)×(List Bool))⊕((List Bool)×(List Int)×(List (List Int))×(List (Int×Int×Int))×(List (List Int))))):=
 (if (decide (v2.1<(lenI v1)))=true then ((gi v1 v2.1).bind fun v3=>((gi v2.2.1 v3).bind fun v4=>((gi v2.2.1 v3).bind fun v5=>(if v5=true then (some (.inl ((w64 (v2.1+1)),v2.2))) else ((gi v2.2.1 v3).bind fun v6=>((gi v2.2.2.2.2.2 v3).bind fun v7=>((gi v2.2.2.2.2.2 v3).bind fun v8=>(if (decide (0<(imin x1 v8)))=true then ((gi v2.2.2.2.2.2 v3).bind fun v9=>((gi v2.2.2.2.2.2 v3).bind fun v10=>((gi v2.2.2.2.2.2 v3).bind fun v11=>((gi v2.2.2.2.2.1 x0).bind fun v12=>((gi v2.2.2.2.2.1 x0).bind fun v13=>((gi v2.2.2.2.2.1 x0).bind fun v14=>((gi v14 v3).bind fun v15=>((gi v2.2.2.2.2.1 x0).bind fun v16=>((gi v16 v3).bind fun v17=>((gi v2.2.2.2.2.1 x0).bind fun v18=>((gi v18 v3).bind fun v19=>((gi v2.2.2.2.2.1 x0).bind fun v20=>((gi v20 v3).bind fun v21=>(some (.inr (.inl ((imin x1 v8),v2.2.2.1,v2.2.2.2.1,(lset v2.2.2.2.2.1 x0 (lset v20 v3 (w64 (v17+(imin x1 v8))))),(lset v2.2.2.2.2.2 v3 (w64 (v10-(imin x1 v8)))),(lset v2.2.1 v3 true)))))))))))))))))) else ((iter (kaQ rec_box_flow_give_c1_m3 x0 x1 v2 v3) (0,v2.2.2.1,v2.2.2.2.1,v2.2.2.2.2.1,v2.2.2.2.2.2,(lset v2.2.1 v3 true))).bind fun v56=>(match v56 with | .inl v57=>(some (.inr (.inl v57))) | .inr v58=>(some (.inl ((w64 (v2.1+1)),v58.2.2.2.2,v58.1,v58.2.1,v58.2.2.1,v58.2.2.2.1))))))))))))) else (some (.inr (.inr (v2.2.1,v2.2.2.2.2.2,v2.2.2.2.2.1,v2.2.2.1,v2.2.2.2.1)))))
def keQ (rec_box_flow_give_c1_m3:Int→Int→(List (Int×Int×Int))→(List (List Int))→(List (List Int))→(List Int)→(List Bool)→Option (Int×(List (Int×Int×Int))×(List (List Int))×(List (List Int))×(List Int)×(List Bool))) (x0:Int) (x1:Int) (x2:(List (Int×Int×Int))) (x3:(List (List Int))) (x4:(List (List Int))) (x5:(List Int)) (x6:(List Bool)):Option (Int×(List (Int×Int×Int))×(List (List Int))×(List (List Int))×(List Int)×(List Bool)):=
 ((gi x3 x0).bind fun v0=>((gi x3 x0).bind fun v1=>((iter (kaI rec_box_flow_give_c1_m3 x0 x1 v1) (0,x6,x2,x3,x4,x5)).bind fun v59=>(match v59 with | .inl v60=>(some v60) | .inr v61=>(some (0,v61.2.2.2.1,v61.2.2.2.2,v61.2.2.1,v61.2.1,v61.1))))))
def kaM:Nat→Int→Int→(List (Int×Int×Int))→(List (List Int))→(List (List Int))→(List Int)→(List Bool)→Option (Int×(List (Int×Int×Int))×(List (List Int))×(List (List Int))×(List Int)×(List Bool))
 | 0,_,_,_,_,_,_,_=>none
 | k+1,x0,x1,x2,x3,x4,x5,x6=>keQ (kaM k) x0 x1 x2 x3 x4 x5 x6
def kdw (x0:Int) (x1:Int) (x2:(List (Int×Int×Int))) (x3:(List (List Int))) (x4:(List (List Int))) (x5:(List Int)) (x6:(List Bool)):Option (Int×(List (Int×Int×Int))×(List (List Int))×(List (List Int))×(List Int)×(List Bool)):=kaM 1000000 x0 x1 x2 x3 x4 x5 x6
def kbG (x0:Int) (x1:Int) (v0:(Int×(List (Int×Int×Int))×(List (List Int))×(List (List Int))×(List Int)×(List Bool))):Option ((Int×(List (Int×Int×Int))×(List (List Int))×(List (List Int))×(List Int)×(List Bool))⊕(Int×Flow5)):=
 (if (decide (v0.1<x1))=true then ((gmk (lenI v0.2.2.2.2.1) false).bind fun v1=>((kdw x0 (w64 (x1-v0.1)) v0.2.1 v0.2.2.1 v0.2.2.2.1 v0.2.2.2.2.1 v1).bind fun v2=>(if (v2.1==0)=true then (some (.inr (v0.1,v2.2.1,v2.2.2.1,v2.2.2.2.1,v2.2.2.2.2.1))) else (some (.inl ((w64 (v0.1+v2.1)),v2.2)))))) else (some (.inr (v0.1,v0.2.1,v0.2.2.1,v0.2.2.2.1,v0.2.2.2.2.1))))
def kdk (x0:Int) (x1:Int) (x2:(List (Int×Int×Int))) (x3:(List (List Int))) (x4:(List (List Int))) (x5:(List Int)):Option (Int×Flow5):=
 ((iter (kbG x0 x1) (0,x2,x3,x4,x5,[])).bind fun v3=>(some v3))
def kpO (x1:(List (Int×Int×Int))) (v2:(Int×Int)):Option ((Int×Int)⊕Int):=
 (if (decide (v2.1<(lenI x1)))=true then ((gi x1 v2.1).bind fun v3=>none) else (some (.inr v2.2)))
def kej (x1:(List (Int×Int×Int))) (v8:(Int×Int×(List (Int×Int×Int))×(List (List Int))×(List (List Int))×(List Int)×(List Bool))):Option ((Int×Int×(List (Int×Int×Int))×(List (List Int))×(List (List Int))×(List Int)×(List Bool))⊕(Int×(List (Int×Int×Int))×(List (List Int))×(List (List Int))×(List Int)×(List Bool))):=
 (if (decide (v8.1<(lenI x1)))=true then ((gi x1 v8.1).bind fun v9=>((kdk v8.1 v9.2.2 v8.2.2.1 v8.2.2.2.1 v8.2.2.2.2.1 v8.2.2.2.2.2.1).bind fun v10=>((gi v8.2.2.2.2.2.2 v8.1).bind fun v11=>(some (.inl ((w64 (v8.1+1)),(w64 (v8.2.1+v10.1)),v10.2.1,v10.2.2.1,v10.2.2.2.1,v10.2.2.2.2,(lset v8.2.2.2.2.2.2 v8.1 (decide (v10.1<v9.2.2))))))))) else (some (.inr v8.2)))
def kiq (x0:(List (Int×Int×Int))) (x1:(List (Int×Int×Int))) (x2:(List Swap)):Option (kaU×Int):=
 (elsO ((kcT x0 x1 x2).bind fun v0=>(if (v0 != 0)=true then (some ((0,[]),v0)) else ((gmk (lenI x1) false).bind fun v1=>((iter (kpO x1) (0,0)).bind fun v4=>((kbS none v1).bind fun v5=>(some ((v4,v5),0))))))) ((kcW x0 x1 x2).bind fun v6=>(if (v6.1 != 0)=true then (some ((0,[]),v6.1)) else ((gmk (lenI x1) false).bind fun v7=>((iter (kej x1) (0,0,v6.2.1,v6.2.2.1,v6.2.2.2.1,v6.2.2.2.2,v7)).bind fun v12=>((kbS (some (v12.2.1,v12.2.2.1,v12.2.2.2.1,v12.2.2.2.2.1)) v12.2.2.2.2.2).bind fun v13=>(some ((v12.1,v13),0))))))))
def kcn (x0:Int) (x1:Int):Option Bool:=
 ((kbh x0 0 15).bind fun v0=>(if v0=true then (some (decide (x1≤15))) else (some false)))
def kdM (x0:Int) (x1:Int) (x2:Int) (x3:Int):Option Bool:=
 (if (decide (x0<x2))=true then (some true) else (if (x0==x2)=true then (some (decide (x1<x3))) else (some false)))
def kdY (x0:(List (Int×Int×Int))) (v0:Int):Option (Int⊕(Bool⊕Unit)):=
 (if (decide (v0<(lenI x0)))=true then ((gi x0 v0).bind fun v1=>((kcn v1.1 v1.2.1).bind fun v2=>(if (!v2)=true then (some (.inr (.inl false))) else ((kbh v1.2.2 1 1000).bind fun v3=>(if (!v3)=true then (some (.inr (.inl false))) else (if (decide (0<v0))=true then ((gi x0 (w64 (v0-1))).bind fun v4=>((gi x0 (w64 (v0-1))).bind fun v5=>((kdM v4.1 v5.2.1 v1.1 v1.2.1).bind fun v6=>(if (!v6)=true then (some (.inr (.inl false))) else (some (.inl (w64 (v0+1)))))))) else (some (.inl (w64 (v0+1)))))))))) else (some (.inr (.inr ()))))
def keq (x0:(List (Int×Int×Int))):Option Bool:=
 (if (decide (30<(lenI x0)))=true then (some false) else ((iter (kdY x0) 0).bind fun v7=>(match v7 with | .inl v8=>(some v8) | .inr v9=>(some true))))
def kea (x0:(List Swap)) (v0:Int):Option (Int⊕(Bool⊕Unit)):=
 (if (decide (v0<(lenI x0)))=true then ((gi x0 v0).bind fun v1=>((kcn v1.1 v1.2.1).bind fun v2=>(if (!v2)=true then (some (.inr (.inl false))) else ((kcn v1.2.2.1 v1.2.2.2).bind fun v3=>(if (!v3)=true then (some (.inr (.inl false))) else (if (v1.1==v1.2.2.1)=true then (if (v1.2.1==v1.2.2.2)=true then (some (.inr (.inl false))) else (some (.inl (w64 (v0+1))))) else (some (.inl (w64 (v0+1)))))))))) else (some (.inr (.inr ()))))
def khC (x0:(List Swap)):Option Bool:=
 (if (decide (30<(lenI x0)))=true then (some false) else ((iter (kea x0) 0).bind fun v4=>(match v4 with | .inl v5=>(some v5) | .inr v6=>(some true))))
def kcr (x0:(List Swap)):Option Int:=
 ((khC x0).bind fun v0=>(if (!v0)=true then (some 2) else (some 0)))
def kes (x0:(List (Int×Int×Int))) (x1:(List (Int×Int×Int))) (x2:(List Swap)):Option Int:=
 ((keq x0).bind fun v0=>(if (!v0)=true then (some 8) else ((keq x1).bind fun v1=>(if (!v1)=true then (some 8) else ((kcr x2).bind fun v2=>(some v2))))))
def keW (x0:(List Swap)) (x1:Int) (x2:Int) (x3:Int) (x4:Int) (v1:Int):Option (Int⊕(Bool⊕Unit)):=
 (if (decide (v1<(lenI x0)))=true then ((gi x0 v1).bind fun v2=>(if ((v2.1==x1)&&((v2.2.1==x2)&&((v2.2.2.1==x3)&&(v2.2.2.2==x4))))=true then (some (.inr (.inl true))) else (some (.inl (w64 (v1+1)))))) else (some (.inr (.inr ()))))
def kdb (x0:(List Swap)) (x1:Int) (x2:Int) (x3:Int) (x4:Int):Option Bool:=
 ((if (x1==x3)=true then (some (x2==x4)) else (some false)).bind fun v0=>(if v0=true then (some true) else ((iter (keW x0 x1 x2 x3 x4) 0).bind fun v3=>(match v3 with | .inl v4=>(some v4) | .inr v5=>(some false)))))
def kma (x0:(List (Int×Int×Int))) (x1:(List (Int×Int×Int))) (x2:(List Swap)) (v0:(Int×(List (List Bool))×(List (List Int)))) (v2:(Int×(List Bool))):Option ((Int×(List Bool))⊕(List Bool)):=
 (if (decide (v2.1<(lenI x0)))=true then ((gi x1 v0.1).bind fun v3=>((gi x1 v0.1).bind fun v4=>((gi x0 v2.1).bind fun v5=>((gi x0 v2.1).bind fun v6=>((kdb x2 v3.1 v4.2.1 v5.1 v6.2.1).bind fun v7=>((gi v2.2 v2.1).bind fun v8=>(some (.inl ((w64 (v2.1+1)),(lset v2.2 v2.1 v7)))))))))) else (some (.inr v2.2)))
def kmu (x0:(List (Int×Int×Int))) (x1:(List (Int×Int×Int))) (x2:(List Swap)) (v0:(Int×(List (List Bool))×(List (List Int)))):Option ((Int×(List (List Bool))×(List (List Int)))⊕((List (List Bool))×(List (List Int)))):=
 (if (decide (v0.1<(lenI x1)))=true then ((gmk (lenI x0) false).bind fun v1=>((iter (kma x0 x1 x2 v0) (0,v1)).bind fun v9=>((gapp v0.2.1 [v9]).bind fun v10=>((gmk (lenI x0) 0).bind fun v11=>((gapp v0.2.2 [v11]).bind fun v12=>(some (.inl ((w64 (v0.1+1)),v10,v12)))))))) else (some (.inr v0.2)))
def kmb (x0:(List (Int×Int×Int))) (v14:kaU):Option (kaU⊕(List Int)):=
 (if (decide (v14.1<(lenI x0)))=true then ((gi x0 v14.1).bind fun v15=>((gapp v14.2 [v15.2.2]).bind fun v16=>(some (.inl ((w64 (v14.1+1)),v16))))) else (some (.inr v14.2)))
def kpX (x0:(List (Int×Int×Int))) (x1:(List (Int×Int×Int))) (x2:(List Swap)):Option Flow:=
 ((iter (kmu x0 x1 x2) (0,[],[])).bind fun v13=>((iter (kmb x0) (0,[])).bind fun v17=>(some (v13.1,v13.2,v17))))
def kmp (x0:Flow) (v2:(Int×Bool×(List Bool))) (v3:(Int×Bool×(List Bool))) (v6:(Int×Bool×(List Bool))):Option ((Int×Bool×(List Bool))⊕(Bool×(List Bool))):=
 ((gi x0.1 v2.1).bind fun v7=>((gi v7 v3.1).bind fun v8=>(if v8=true then (if (decide (v6.1<(lenI v6.2.2)))=true then (((gi x0.2.1 v6.1).bind fun v9=>((gi v9 v3.1).bind fun v10=>(if (decide (0<v10))=true then ((gi v6.2.2 v6.1).bind fun v11=>((gi v6.2.2 v6.1).bind fun v12=>(some (!v12)))) else (some false)))).bind fun v13=>(if v13=true then ((gi v6.2.2 v6.1).bind fun v14=>(some (.inl ((w64 (v6.1+1)),true,(lset v6.2.2 v6.1 true))))) else (some (.inl ((w64 (v6.1+1)),v6.2))))) else (some (.inr v6.2))) else (some (.inr v6.2)))))
def kms (x0:Flow) (v2:(Int×Bool×(List Bool))) (v3:(Int×Bool×(List Bool))):Option ((Int×Bool×(List Bool))⊕(Bool×(List Bool))):=
 ((gi v3.2.2 v2.1).bind fun v4=>((gi v3.2.2 v2.1).bind fun v5=>(if v5=true then (if (decide (v3.1<(lenI x0.2.2)))=true then ((iter (kmp x0 v2 v3) (0,v3.2)).bind fun v15=>(some (.inl ((w64 (v3.1+1)),v15)))) else (some (.inr v3.2))) else (some (.inr v3.2)))))
def kmP (x0:Flow) (v2:(Int×Bool×(List Bool))):Option ((Int×Bool×(List Bool))⊕(Bool×(List Bool))):=
 (if (decide (v2.1<(lenI v2.2.2)))=true then ((iter (kms x0 v2) (0,v2.2)).bind fun v16=>(some (.inl ((w64 (v2.1+1)),v16)))) else (some (.inr v2.2)))
def kmc (x0:Flow) (v1:(Bool×(List Bool))):Option ((Bool×(List Bool))⊕(List Bool)):=
 (if v1.1=true then ((iter (kmP x0) (0,false,v1.2)).bind fun v17=>(some (.inl v17))) else (some (.inr v1.2)))
def kmF (v18:(List Bool)) (v19:kaU):Option (kaU⊕(List Int)):=
 (if (decide (v19.1<(lenI v18)))=true then ((gi v18 v19.1).bind fun v20=>((gi v18 v19.1).bind fun v21=>(if v21=true then ((gapp v19.2 [v19.1]).bind fun v22=>(some (.inl ((w64 (v19.1+1)),v22)))) else (some (.inl ((w64 (v19.1+1)),v19.2)))))) else (some (.inr v19.2)))
def kqk (x0:Flow) (x1:(List Bool)):Option (List Int):=
 ((gapp [] x1).bind fun v0=>((iter (kmc x0) (true,v0)).bind fun v18=>((iter (kmF v18) (0,[])).bind fun v23=>(some v23))))
def kbW (x0:(List (Int×Int×Int))) (x1:(List (Int×Int×Int))) (x2:(List Swap)) (v0:(Int×(List (List Bool))×(List (List Int)))) (v2:(Int×(List Bool))):Option ((Int×(List Bool))⊕(List Bool)):=
 (if (decide (v2.1<(lenI x0)))=true then ((gi x1 v0.1).bind fun v3=>((gi x1 v0.1).bind fun v4=>((gi x0 v2.1).bind fun v5=>((gi x0 v2.1).bind fun v6=>((kdb x2 v3.1 v4.2.1 v5.1 v6.2.1).bind fun v7=>((gi v2.2 v2.1).bind fun v8=>(some (.inl ((w64 (v2.1+1)),(lset v2.2 v2.1 v7)))))))))) else (some (.inr v2.2)))
def kcP (x0:(List (Int×Int×Int))) (x1:(List (Int×Int×Int))) (x2:(List Swap)) (v0:(Int×(List (List Bool))×(List (List Int)))):Option ((Int×(List (List Bool))×(List (List Int)))⊕((List (List Bool))×(List (List Int)))):=
 (if (decide (v0.1<(lenI x1)))=true then ((gmk (lenI x0) false).bind fun v1=>((iter (kbW x0 x1 x2 v0) (0,v1)).bind fun v9=>((gapp v0.2.1 [v9]).bind fun v10=>((gmk (lenI x0) 0).bind fun v11=>((gapp v0.2.2 [v11]).bind fun v12=>(some (.inl ((w64 (v0.1+1)),v10,v12)))))))) else (some (.inr v0.2)))
def kca (x0:(List (Int×Int×Int))) (v14:kaU):Option (kaU⊕(List Int)):=
 (if (decide (v14.1<(lenI x0)))=true then ((gi x0 v14.1).bind fun v15=>((gapp v14.2 [v15.2.2]).bind fun v16=>(some (.inl ((w64 (v14.1+1)),v16))))) else (some (.inr v14.2)))
def kef (x0:(List (Int×Int×Int))) (x1:(List (Int×Int×Int))) (x2:(List Swap)):Option Flow:=
 ((iter (kcP x0 x1 x2) (0,[],[])).bind fun v13=>((iter (kca x0) (0,[])).bind fun v17=>(some (v13.1,v13.2,v17))))
def kaR (x0:Flow) (v2:(Int×Bool×(List Bool))) (v3:(Int×Bool×(List Bool))) (v6:(Int×Bool×(List Bool))):Option ((Int×Bool×(List Bool))⊕(Bool×(List Bool))):=
 ((gi x0.1 v2.1).bind fun v7=>((gi v7 v3.1).bind fun v8=>(if v8=true then (if (decide (v6.1<(lenI v6.2.2)))=true then (((gi x0.2.1 v6.1).bind fun v9=>((gi v9 v3.1).bind fun v10=>(if (decide (0<v10))=true then ((gi v6.2.2 v6.1).bind fun v11=>((gi v6.2.2 v6.1).bind fun v12=>(some (!v12)))) else (some false)))).bind fun v13=>(if v13=true then ((gi v6.2.2 v6.1).bind fun v14=>(some (.inl ((w64 (v6.1+1)),true,(lset v6.2.2 v6.1 true))))) else (some (.inl ((w64 (v6.1+1)),v6.2))))) else (some (.inr v6.2))) else (some (.inr v6.2)))))
def kbB (x0:Flow) (v2:(Int×Bool×(List Bool))) (v3:(Int×Bool×(List Bool))):Option ((Int×Bool×(List Bool))⊕(Bool×(List Bool))):=
 ((gi v3.2.2 v2.1).bind fun v4=>((gi v3.2.2 v2.1).bind fun v5=>(if v5=true then (if (decide (v3.1<(lenI x0.2.2)))=true then ((iter (kaR x0 v2 v3) (0,v3.2)).bind fun v15=>(some (.inl ((w64 (v3.1+1)),v15)))) else (some (.inr v3.2))) else (some (.inr v3.2)))))
def kbU (x0:Flow) (v2:(Int×Bool×(List Bool))):Option ((Int×Bool×(List Bool))⊕(Bool×(List Bool))):=
 (if (decide (v2.1<(lenI v2.2.2)))=true then ((iter (kbB x0 v2) (0,v2.2)).bind fun v16=>(some (.inl ((w64 (v2.1+1)),v16)))) else (some (.inr v2.2)))
def kcO (x0:Flow) (v1:(Bool×(List Bool))):Option ((Bool×(List Bool))⊕(List Bool)):=
 (if v1.1=true then ((iter (kbU x0) (0,false,v1.2)).bind fun v17=>(some (.inl v17))) else (some (.inr v1.2)))
def kcQ (v18:(List Bool)) (v19:kaU):Option (kaU⊕(List Int)):=
 (if (decide (v19.1<(lenI v18)))=true then ((gi v18 v19.1).bind fun v20=>((gi v18 v19.1).bind fun v21=>(if v21=true then ((gapp v19.2 [v19.1]).bind fun v22=>(some (.inl ((w64 (v19.1+1)),v22)))) else (some (.inl ((w64 (v19.1+1)),v19.2)))))) else (some (.inr v19.2)))
def kec (x0:Flow) (x1:(List Bool)):Option (List Int):=
 ((gapp [] x1).bind fun v0=>((iter (kcO x0) (true,v0)).bind fun v18=>((iter (kcQ v18) (0,[])).bind fun v23=>(some v23))))
def kbL (rec_ref08_more_m7:Int→(List (List Bool))→(List (List Int))→(List Int)→(List Bool)→Option (Bool×(List Bool)×Flow)) (x0:Int) (v0:(Int×(List (List Bool))×(List (List Int))×(List Int)×(List Bool))) (v22:(Int×(List (List Bool))×(List (List Int))×(List Int)×(List Bool))):Option ((Int×(List (List Bool))×(List (List Int))×(List Int)×(List Bool))⊕((Bool×(List Bool)×Flow)⊕((List (List Bool))×(List (List Int))×(List Int)×(List Bool)))):=
 (if (decide (v22.1<(lenI v22.2.2.1)))=true then ((gi v22.2.2.1 v22.1).bind fun v23=>((gi v22.2.2.1 v22.1).bind fun v24=>((gi v22.2.2.1 v22.1).bind fun v25=>((gi v25 v0.1).bind fun v26=>((gi v22.2.2.1 v22.1).bind fun v27=>((gi v27 v0.1).bind fun v28=>(if (decide (0<v28))=true then ((rec_ref08_more_m7 v22.1 v22.2.1 v22.2.2.1 v22.2.2.2.1 v22.2.2.2.2).bind fun v29=>(if v29.1=true then ((gi v29.2.2.2.1 v22.1).bind fun v30=>((gi v29.2.2.2.1 v22.1).bind fun v31=>((gi v29.2.2.2.1 v22.1).bind fun v32=>((gi v32 v0.1).bind fun v33=>((gi v29.2.2.2.1 v22.1).bind fun v34=>((gi v34 v0.1).bind fun v35=>((gi v29.2.2.2.1 v22.1).bind fun v36=>((gi v36 v0.1).bind fun v37=>((gi v29.2.2.2.1 v22.1).bind fun v38=>((gi v38 v0.1).bind fun v39=>((gi (lset v29.2.2.2.1 v22.1 (lset v38 v0.1 (w64 (v35-1)))) x0).bind fun v40=>((gi (lset v29.2.2.2.1 v22.1 (lset v38 v0.1 (w64 (v35-1)))) x0).bind fun v41=>((gi (lset v29.2.2.2.1 v22.1 (lset v38 v0.1 (w64 (v35-1)))) x0).bind fun v42=>((gi v42 v0.1).bind fun v43=>((gi (lset v29.2.2.2.1 v22.1 (lset v38 v0.1 (w64 (v35-1)))) x0).bind fun v44=>((gi v44 v0.1).bind fun v45=>((gi (lset v29.2.2.2.1 v22.1 (lset v38 v0.1 (w64 (v35-1)))) x0).bind fun v46=>((gi v46 v0.1).bind fun v47=>((gi (lset v29.2.2.2.1 v22.1 (lset v38 v0.1 (w64 (v35-1)))) x0).bind fun v48=>((gi v48 v0.1).bind fun v49=>(some (.inr (.inl (true,v29.2.1,v29.2.2.1,(lset (lset v29.2.2.2.1 v22.1 (lset v38 v0.1 (w64 (v35-1)))) x0 (lset v48 v0.1 (w64 (v45+1)))),v29.2.2.2.2)))))))))))))))))))))))) else (some (.inl ((w64 (v22.1+1)),v29.2.2.1,v29.2.2.2.1,v29.2.2.2.2,v29.2.1))))) else (some (.inl ((w64 (v22.1+1)),v22.2)))))))))) else (some (.inr (.inr v22.2))))
def kaX (rec_ref08_more_m7:Int→(List (List Bool))→(List (List Int))→(List Int)→(List Bool)→Option (Bool×(List Bool)×Flow)) (x0:Int) (v0:(Int×(List (List Bool))×(List (List Int))×(List Int)×(List Bool))):Option ((Int×(List (List Bool))×(List (List Int))×(List Int)×(List Bool))⊕((Bool×(List Bool)×Flow)⊕((List Bool)×(List Int)×(List (List Bool))×(List (List Int))))):=
 (if (decide (v0.1<(lenI v0.2.2.2.1)))=true then ((gi v0.2.1 x0).bind fun v1=>((gi v0.2.1 x0).bind fun v2=>((gi v2 v0.1).bind fun v3=>(if (!v3)=true then (some (.inl ((w64 (v0.1+1)),v0.2))) else ((gi v0.2.2.2.2 v0.1).bind fun v4=>((gi v0.2.2.2.2 v0.1).bind fun v5=>(if v5=true then (some (.inl ((w64 (v0.1+1)),v0.2))) else ((gi v0.2.2.2.2 v0.1).bind fun v6=>((gi v0.2.2.2.1 v0.1).bind fun v7=>((gi v0.2.2.2.1 v0.1).bind fun v8=>(if (decide (0<v8))=true then ((gi v0.2.2.2.1 v0.1).bind fun v9=>((gi v0.2.2.2.1 v0.1).bind fun v10=>((gi v0.2.2.2.1 v0.1).bind fun v11=>((gi v0.2.2.1 x0).bind fun v12=>((gi v0.2.2.1 x0).bind fun v13=>((gi v0.2.2.1 x0).bind fun v14=>((gi v14 v0.1).bind fun v15=>((gi v0.2.2.1 x0).bind fun v16=>((gi v16 v0.1).bind fun v17=>((gi v0.2.2.1 x0).bind fun v18=>((gi v18 v0.1).bind fun v19=>((gi v0.2.2.1 x0).bind fun v20=>((gi v20 v0.1).bind fun v21=>(some (.inr (.inl (true,(lset v0.2.2.2.2 v0.1 true),v0.2.1,(lset v0.2.2.1 x0 (lset v20 v0.1 (w64 (v17+1)))),(lset v0.2.2.2.1 v0.1 (w64 (v10-1)))))))))))))))))))) else ((iter (kbL rec_ref08_more_m7 x0 v0) (0,v0.2.1,v0.2.2.1,v0.2.2.2.1,(lset v0.2.2.2.2 v0.1 true))).bind fun v50=>(match v50 with | .inl v51=>(some (.inr (.inl v51))) | .inr v52=>(some (.inl ((w64 (v0.1+1)),v52)))))))))))))))) else (some (.inr (.inr (v0.2.2.2.2,v0.2.2.2.1,v0.2.1,v0.2.2.1)))))
def khp (rec_ref08_more_m7:Int→(List (List Bool))→(List (List Int))→(List Int)→(List Bool)→Option (Bool×(List Bool)×Flow)) (x0:Int) (x1:(List (List Bool))) (x2:(List (List Int))) (x3:(List Int)) (x4:(List Bool)):Option (Bool×(List Bool)×Flow):=
 ((iter (kaX rec_ref08_more_m7 x0) (0,x1,x2,x3,x4)).bind fun v53=>(match v53 with | .inl v54=>(some v54) | .inr v55=>(some (false,v55.1,v55.2.2.1,v55.2.2.2,v55.2.1))))
def kbw:Nat→Int→(List (List Bool))→(List (List Int))→(List Int)→(List Bool)→Option (Bool×(List Bool)×Flow)
 | 0,_,_,_,_,_=>none
 | k+1,x0,x1,x2,x3,x4=>khp (kbw k) x0 x1 x2 x3 x4
def kgb (x0:Int) (x1:(List (List Bool))) (x2:(List (List Int))) (x3:(List Int)) (x4:(List Bool)):Option (Bool×(List Bool)×Flow):=kbw 1000000 x0 x1 x2 x3 x4
def kcE (x0:Int) (x1:Int) (v0:(Int×Flow)):Option ((Int×Flow)⊕(Int×(List (List Int))×(List (List Bool))×(List Int))):=
 (if (decide (v0.1<x1))=true then ((gmk (lenI v0.2.2.2) false).bind fun v1=>((kgb x0 v0.2.1 v0.2.2.1 v0.2.2.2 v1).bind fun v2=>(if v2.1=true then (some (.inl ((w64 (v0.1+1)),v2.2.2))) else (some (.inr (v0.1,v2.2.2.2.1,v2.2.2.1,v2.2.2.2.2)))))) else (some (.inr (v0.1,v0.2.2.1,v0.2.1,v0.2.2.2))))
def kfe (x0:Int) (x1:Int) (x2:(List (List Bool))) (x3:(List (List Int))) (x4:(List Int)):Option (Int×Flow):=
 ((iter (kcE x0 x1) (0,x2,x3,x4)).bind fun v3=>(some (v3.1,v3.2.2.1,v3.2.1,v3.2.2.2)))
def kdq (x1:(List (Int×Int×Int))) (v3:(Int×Int×(List (List Bool))×(List (List Int))×(List Int)×(List Bool))):Option ((Int×Int×(List (List Bool))×(List (List Int))×(List Int)×(List Bool))⊕(Int×(List (List Bool))×(List (List Int))×(List Int)×(List Bool))):=
 (if (decide (v3.1<(lenI x1)))=true then ((gi x1 v3.1).bind fun v4=>((kfe v3.1 v4.2.2 v3.2.2.1 v3.2.2.2.1 v3.2.2.2.2.1).bind fun v5=>((gi x1 v3.1).bind fun v6=>((gi v3.2.2.2.2.2 v3.1).bind fun v7=>(some (.inl ((w64 (v3.1+1)),(w64 (v3.2.1+v5.1)),v5.2.1,v5.2.2.1,v5.2.2.2,(lset v3.2.2.2.2.2 v3.1 (decide (v5.1<v6.2.2)))))))))) else (some (.inr v3.2)))
def kgk (x0:(List (Int×Int×Int))) (x1:(List (Int×Int×Int))) (x2:(List Swap)):Option (kaU×Int):=
 ((kes x0 x1 x2).bind fun v0=>(if (v0 != 0)=true then (some ((0,[]),v0)) else ((kef x0 x1 x2).bind fun v1=>((gmk (lenI x1) false).bind fun v2=>((iter (kdq x1) (0,0,v1.1,v1.2.1,v1.2.2,v2)).bind fun v8=>((kec (v8.2.1,v8.2.2.1,v8.2.2.2.1) v8.2.2.2.2).bind fun v9=>(some ((v8.1,v9),0))))))))
def kbs (x0:(List Int)) (x1:Int) (v0:Int):Option (Int⊕(Int⊕Unit)):=
 (if (decide (v0<(lenI x0)))=true then ((gi x0 v0).bind fun v1=>(if (x1==v1)=true then (some (.inr (.inl v0))) else (some (.inl (w64 (v0+1)))))) else (some (.inr (.inr ()))))
def kcI (x0:(List Int)) (x1:Int):Option Int:=
 ((iter (kbs x0 x1) 0).bind fun v2=>(match v2 with | .inl v3=>(some v3) | .inr v4=>(some (-1))))
def kaT (x0:(List Int)) (x1:Int):Option Bool:=
 ((kcI x0 x1).bind fun v0=>(some (decide (0≤v0))))
def kkP (x1:(List (Int×Int×Int))) (v2:kaU):Option (kaU⊕(List Int)):=
 (if (decide (v2.1<(lenI x1)))=true then ((gi x1 v2.1).bind fun v3=>((gi v2.2 v2.1).bind fun v4=>(some (.inl ((w64 (v2.1+1)),(lset v2.2 v2.1 v3.2.2)))))) else (some (.inr v2.2)))
def kkO (x0:(List (Int×Int×Int))) (x1:(List (Int×Int×Int))) (x3:(List (Int×Int×Int))) (v6:(Int×Int)):Option ((Int×Int)⊕((Int×Int)⊕Int)):=
 (if (decide (v6.1<(lenI x3)))=true then ((gi x3 v6.1).bind fun v7=>((kcm 0 (w64 ((lenI x1)-1)) v7.1).bind fun v8=>(if (!v8)=true then (some (.inr (.inl (0,8)))) else ((kcm 0 (w64 ((lenI x0)-1)) v7.2.1).bind fun v9=>(if (!v9)=true then (some (.inr (.inl (0,8)))) else none))))) else (some (.inr (.inr v6.2))))
def kcs (x1:(List (Int×Int×Int))) (v15:kaU):Option (kaU⊕(List Int)):=
 (if (decide (v15.1<(lenI x1)))=true then ((gi x1 v15.1).bind fun v16=>((gi v15.2 v15.1).bind fun v17=>(some (.inl ((w64 (v15.1+1)),(lset v15.2 v15.1 v16.2.2)))))) else (some (.inr v15.2)))
def kaD (x0:(List (Int×Int×Int))) (x1:(List (Int×Int×Int))) (x3:(List (Int×Int×Int))) (v13:(Int×Flow5)) (v19:(Int×Int×(List (Int×Int×Int))×(List Int)×(List Int))):Option ((Int×Int×(List (Int×Int×Int))×(List Int)×(List Int))⊕((Int×Int)⊕Int)):=
 (if (decide (v19.1<(lenI x3)))=true then ((gi x3 v19.1).bind fun v20=>((kcm 0 (w64 ((lenI x1)-1)) v20.1).bind fun v21=>(if (!v21)=true then (some (.inr (.inl (0,8)))) else ((kcm 0 (w64 ((lenI x0)-1)) v20.2.1).bind fun v22=>(if (!v22)=true then (some (.inr (.inl (0,8)))) else ((gi v13.2.2.1 v20.1).bind fun v23=>((gi v13.2.2.1 v20.1).bind fun v24=>((kaT v24 v20.2.1).bind fun v25=>(if (!v25)=true then (some (.inr (.inl (0,8)))) else ((gi v19.2.2.2.2 v20.1).bind fun v26=>((gi v19.2.2.2.2 v20.1).bind fun v27=>((gi v19.2.2.2.1 v20.2.1).bind fun v28=>((gi v19.2.2.2.1 v20.2.1).bind fun v29=>((kcm 1 (imin v27 v29) v20.2.2).bind fun v30=>(if (!v30)=true then (some (.inr (.inl (0,8)))) else ((if (decide (0<v19.1))=true then ((gi x3 (w64 (v19.1-1))).bind fun v31=>((kbf v31.1 v20.1).bind fun v32=>((gi x3 (w64 (v19.1-1))).bind fun v33=>((kbf v33.2.1 v20.2.1).bind fun v34=>((kdW [v32,v34]).bind fun v35=>(some (decide (0≤v35)))))))) else (some false)).bind fun v36=>(if v36=true then (some (.inr (.inl (0,8)))) else ((gi v19.2.2.2.2 v20.1).bind fun v37=>((gi v19.2.2.2.2 v20.1).bind fun v38=>((gi v19.2.2.2.2 v20.1).bind fun v39=>((gi v19.2.2.2.1 v20.2.1).bind fun v40=>((gi v19.2.2.2.1 v20.2.1).bind fun v41=>((gi v19.2.2.2.1 v20.2.1).bind fun v42=>(some (.inl ((w64 (v19.1+1)),(w64 (v19.2.1+v20.2.2)),v19.2.2.1,(lset v19.2.2.2.1 v20.2.1 (w64 (v41-v20.2.2))),(lset v19.2.2.2.2 v20.1 (w64 (v38-v20.2.2))))))))))))))))))))))))))))) else (some (.inr (.inr v19.2.1))))
def keD (x0:(List (Int×Int×Int))) (x1:(List (Int×Int×Int))) (x2:(List Swap)) (x3:(List (Int×Int×Int))):Option (Int×Int):=
 (elsO ((kcT x0 x1 x2).bind fun v0=>(if (v0 != 0)=true then (some (0,v0)) else ((gmk (lenI x1) 0).bind fun v1=>((iter (kkP x1) (0,v1)).bind fun v5=>((iter (kkO x0 x1 x3) (0,0)).bind fun v10=>(match v10 with | .inl v11=>(some v11) | .inr v12=>(some (v12,0)))))))) ((kcW x0 x1 x2).bind fun v13=>(if (v13.1 != 0)=true then (some (0,v13.1)) else ((gmk (lenI x1) 0).bind fun v14=>((iter (kcs x1) (0,v14)).bind fun v18=>((iter (kaD x0 x1 x3 v13) (0,0,v13.2.1,v13.2.2.2.2,v18)).bind fun v43=>(match v43 with | .inl v44=>(some v44) | .inr v45=>(some (v45,0)))))))))
def kaq (x0:(List (Int×Int×Int))) (x1:(List (Int×Int×Int))) (x2:(List Swap)) (x3:(List (Int×Int×Int))) (v5:(Int×(List Int)×(List Int))):Option ((Int×(List Int)×(List Int))⊕(Bool⊕Unit)):=
 (if (decide (v5.1<(lenI x3)))=true then ((gi x3 v5.1).bind fun v6=>((kbh v6.1 0 (w64 ((lenI x1)-1))).bind fun v7=>(if (!v7)=true then (some (.inr (.inl false))) else ((kbh v6.2.1 0 (w64 ((lenI x0)-1))).bind fun v8=>(if (!v8)=true then (some (.inr (.inl false))) else ((kbh v6.2.2 1 1000).bind fun v9=>(if (!v9)=true then (some (.inr (.inl false))) else ((if (decide (0<v5.1))=true then ((gi x3 (w64 (v5.1-1))).bind fun v10=>(if (decide (v6.1<v10.1))=true then (some true) else ((gi x3 (w64 (v5.1-1))).bind fun v11=>(if (v6.1==v11.1)=true then ((gi x3 (w64 (v5.1-1))).bind fun v12=>(some (decide (v6.2.1≤v12.2.1)))) else (some false))))) else (some false)).bind fun v13=>(if v13=true then (some (.inr (.inl false))) else ((gi v5.2.1 v6.1).bind fun v14=>((gi v5.2.1 v6.1).bind fun v15=>((gi v5.2.1 v6.1).bind fun v16=>((gi v5.2.2 v6.2.1).bind fun v17=>((gi v5.2.2 v6.2.1).bind fun v18=>((gi v5.2.2 v6.2.1).bind fun v19=>((gi x1 v6.1).bind fun v20=>((gi x1 v6.1).bind fun v21=>((gi x0 v6.2.1).bind fun v22=>((gi x0 v6.2.1).bind fun v23=>((kdb x2 v20.1 v21.2.1 v22.1 v23.2.1).bind fun v24=>(if (!v24)=true then (some (.inr (.inl false))) else ((gi (lset v5.2.1 v6.1 (w64 (v15+v6.2.2))) v6.1).bind fun v25=>((gi (lset v5.2.1 v6.1 (w64 (v15+v6.2.2))) v6.1).bind fun v26=>((gi x1 v6.1).bind fun v27=>(if (decide (v27.2.2<v26))=true then (some (.inr (.inl false))) else ((gi (lset v5.2.2 v6.2.1 (w64 (v18+v6.2.2))) v6.2.1).bind fun v28=>((gi (lset v5.2.2 v6.2.1 (w64 (v18+v6.2.2))) v6.2.1).bind fun v29=>((gi x0 v6.2.1).bind fun v30=>(if (decide (v30.2.2<v29))=true then (some (.inr (.inl false))) else (some (.inl ((w64 (v5.1+1)),(lset v5.2.1 v6.1 (w64 (v15+v6.2.2))),(lset v5.2.2 v6.2.1 (w64 (v18+v6.2.2))))))))))))))))))))))))))))))))))) else (some (.inr (.inr ()))))
def kez (x0:(List (Int×Int×Int))) (x1:(List (Int×Int×Int))) (x2:(List Swap)) (x3:(List (Int×Int×Int))):Option Bool:=
 ((bthO (.pr (.sl (.i .i64)) (.sl (.i .i64))) ((gmk (lenI x1) 0).bind fun v0=>((gmk (lenI x0) 0).bind fun v1=>(some (v0,v1)))) ((gmk (lenI x0) 0).bind fun v2=>((gmk (lenI x1) 0).bind fun v3=>(some (v3,v2))))).bind fun v4=>((iter (kaq x0 x1 x2 x3) (0,v4)).bind fun v31=>(match v31 with | .inl v32=>(some v32) | .inr v33=>(some true))))
def kcC (x3:(List (Int×Int×Int))) (v2:(Int×Int)):Option ((Int×Int)⊕Int):=
 (if (decide (v2.1<(lenI x3)))=true then ((gi x3 v2.1).bind fun v3=>(some (.inl ((w64 (v2.1+1)),(w64 (v2.2+v3.2.2)))))) else (some (.inr v2.2)))
def kdy (x0:(List (Int×Int×Int))) (x1:(List (Int×Int×Int))) (x2:(List Swap)) (x3:(List (Int×Int×Int))):Option (Int×Int):=
 ((kes x0 x1 x2).bind fun v0=>(if (v0 != 0)=true then (some (0,v0)) else ((kez x0 x1 x2 x3).bind fun v1=>(if (!v1)=true then (some (0,8)) else ((iter (kcC x3) (0,0)).bind fun v4=>(some (v4,0)))))))
def kcR (x0:(List Int)) (x1:(List Int)) (v0:Int):Option (Int⊕(Bool⊕Unit)):=
 (if (decide (v0<(lenI x0)))=true then ((gi x0 v0).bind fun v1=>((gi x1 v0).bind fun v2=>(if (v1 != v2)=true then (some (.inr (.inl false))) else (some (.inl (w64 (v0+1))))))) else (some (.inr (.inr ()))))
def kdV (x0:(List Int)) (x1:(List Int)):Option Bool:=
 (if ((lenI x0) != (lenI x1))=true then (some false) else ((iter (kcR x0 x1) 0).bind fun v3=>(match v3 with | .inl v4=>(some v4) | .inr v5=>(some true))))
def kfx (x0:(List (Int×Int×Int))) (x1:(List (Int×Int×Int))) (x2:(List Swap)) (x3:(List (Int×Int×Int))):Option Bool:=
 ((kgn [x0,x1]).bind fun v0=>(if v0=true then (some true) else (if (decide (40<(lenI x2)))=true then (some true) else (if (decide (100<(lenI x3)))=true then (some true) else ((kiq x0 x1 x2).bind fun v1=>((kgk x0 x1 x2).bind fun v2=>((keD x0 x1 x2 x3).bind fun v3=>((kdy x0 x1 x2 x3).bind fun v4=>((kbq x2).bind fun v5=>((kcr x2).bind fun v6=>(if (v5==v6)=true then (if (v1.1.1==v2.1.1)=true then ((kdV v1.1.2 v2.1.2).bind fun v7=>(if v7=true then (if (v1.2==v2.2)=true then (if (v3.1==v4.1)=true then (some (v3.2==v4.2)) else (some false)) else (some false)) else (some false))) else (some false)) else (some false))))))))))))
end Go.Abs
set_option maxRecDepth 100000
namespace Go.Abs
open Go Go.Proofs
def kdo:Ctr:=⟨ "",[],[],fun _=>none,[],[]⟩
theorem kbP {g:FuncId}:Good Try.prog g kdo:=good_dm
def kcX:Ctr:=⟨ "",[(.i .i64),(.i .i64),(.i .i64)],[.b],fun x=>kbh x.1 x.2.1 x.2.2,[],[]⟩
theorem kcS:Good Try.prog 78 kcX:=
 kaj Try.func78 (by kernel_rfl) (An:=[]) [] (.nil) (fun x=>by kernel_rfl)
def kjn:Ctr:=⟨ "",[(.sl (.pr (.i .i64) (.pr (.i .u8) (.i .i64))))],[.b],fun x=>keU x,[],[]⟩
theorem klv:Good Try.prog 28 kjn:=
 kaj Try.func28 (by kernel_rfl) (An:=[(0,⟨⟨[(4,.c (.i .i64)),(3,.c (.i .i64))],[]⟩,⟨[(3,.c (.i .i64))],[]⟩,[0],[],0,false,""⟩)]) [(78,kcX)] (.cons kcS <| .nil) (fun x=>by kernel_rfl)
def kjx:Ctr:=⟨ "",[(.sl (.sl (.pr (.i .i64) (.pr (.i .u8) (.i .i64)))))],[.b],fun x=>kgn x,[],[]⟩
theorem klI:Good Try.prog 7 kjx:=
 kaj Try.func7 (by kernel_rfl) (An:=[(0,⟨⟨[(7,.c (.i .i64))],[]⟩,⟨[],[]⟩,[6,5],[],0,true,""⟩)]) [(28,kjn)] (.cons klv <| .nil) (fun x=>by kernel_rfl)
def kgj:Ctr:=⟨ "",[(.i .i64),(.i .i64),(.i .i64)],[.b],fun x=>kcm x.1 x.2.1 x.2.2,[],[]⟩
theorem kga:Good Try.prog 36 kgj:=
 kaj Try.func36 (by kernel_rfl) (An:=[]) [] (.nil) (fun x=>by kernel_rfl)
def khY:Ctr:=⟨ "",[(.pr (.i .i64) (.pr (.i .u8) (.i .i64)))],[.b],fun x=>kfi x,[],[]⟩
theorem kjZ:Good Try.prog 110 khY:=
 kaj Try.func110 (by kernel_rfl) (An:=[]) [(36,kgj)] (.cons kga <| .nil) (fun x=>by kernel_rfl)
def keI:Ctr:=⟨ "",[(.pr (.i .i64) (.i .u8))],[.b],fun x=>kbK x,[],[]⟩
theorem kfn:Good Try.prog 42 keI:=
 kaj Try.func42 (by kernel_rfl) (An:=[]) [(36,kgj)] (.cons kga <| .nil) (fun x=>by kernel_rfl)
def khs:Ctr:=⟨ "",[(.i .i64)],[.b],fun x=>keC x,[],[]⟩
theorem kjC:Good Try.prog 85 khs:=
 kaj Try.func85 (by kernel_rfl) (An:=[]) [] (.nil) (fun x=>by kernel_rfl)
def kei:Ctr:=⟨ "",[(.i .i64),(.i .i64)],[(.i .i64)],fun x=>kbf x.1 x.2,[],[]⟩
theorem keS:Good Try.prog 39 kei:=
 kaj Try.func39 (by kernel_rfl) (An:=[]) [(85,khs)] (.cons kjC <| .nil) (fun x=>by kernel_rfl)
def kgd:Ctr:=⟨ "",[(.i .u8)],[.b],fun x=>kdz x,[],[]⟩
theorem kir:Good Try.prog 116 kgd:=
 kaj Try.func116 (by kernel_rfl) (An:=[]) [] (.nil) (fun x=>by kernel_rfl)
def kfp:Ctr:=⟨ "",[(.i .u8),(.i .u8)],[(.i .i64)],fun x=>kcN x.1 x.2,[],[]⟩
theorem khF:Good Try.prog 97 kfp:=
 kaj Try.func97 (by kernel_rfl) (An:=[]) [(116,kgd)] (.cons kir <| .nil) (fun x=>by kernel_rfl)
def kgA:Ctr:=⟨ "",[(.sl (.i .i64))],[(.i .i64)],fun x=>kdW x,[],[]⟩
theorem khm:Good Try.prog 38 kgA:=
 kaj Try.func38 (by kernel_rfl) (An:=[(0,⟨⟨[(8,.c (.i .i64))],[]⟩,⟨[],[]⟩,[7,6,3],[],0,true,""⟩)]) [] (.nil) (fun x=>by kernel_rfl)
def kkm:Ctr:=⟨ "",[(.pr (.i .i64) (.i .u8)),(.pr (.i .i64) (.i .u8))],[(.i .i64)],fun x=>khq x.1 x.2,[],[]⟩
theorem kmB:Good Try.prog 98 kkm:=
 kaj Try.func98 (by kernel_rfl) (An:=[]) [(38,kgA),(97,kfp),(39,kei)] (.cons khm <| .cons khF <| .cons keS <| .nil) (fun x=>by kernel_rfl)
def kex:Ctr:=⟨ "",[(.sl (.pr (.i .i64) (.pr (.i .u8) (.i .i64)))),(.i .i64),(.fn 1 (.pr (.i .i64) (.pr (.i .u8) (.i .i64))) (.pr (.i .i64) (.i .u8)))],[.b],fun x=>kcb x.1 x.2.1 x.2.2,[],[]⟩
theorem kgp:Good Try.prog 111 kex:=
 kaj Try.func111 (by kernel_rfl) (An:=[(0,⟨⟨[(11,.c (.i .i64))],[]⟩,⟨[],[]⟩,[10,9,2,0,1],[],0,true,""⟩)]) [(98,kkm),(42,keI)] (.cons kmB <| .cons kfn <| .nil) (fun x=>by kernel_rfl)
def kdD:Ctr:=⟨ "",[(.pr (.i .i64) (.pr (.i .u8) (.i .i64)))],[(.pr (.i .i64) (.i .u8))],fun x=>kbx x,[],[]⟩
theorem kdA:Good Try.prog 62 kdD:=
 kaj Try.func62 (by kernel_rfl) (An:=[]) [] (.nil) (fun x=>by kernel_rfl)
def kbI:Ctr:=⟨ "",[(.sl (.pr (.i .i64) (.pr (.i .u8) (.i .i64)))),(.fn 1 (.pr (.i .i64) (.pr (.i .u8) (.i .i64))) .b)],[(.i .i64)],fun x=>kaY x.1 x.2,[],[]⟩
theorem kcZ:Good Try.prog 126 kbI:=
 kaj Try.func126 (by kernel_rfl) (An:=[(0,⟨⟨[(8,.c (.i .i64))],[]⟩,⟨[],[]⟩,[7,1,0],[],0,true,""⟩)]) [] (.nil) (fun x=>by kernel_rfl)
def kbt:Ctr:=⟨ "",[(.sl (.pr (.i .i64) (.pr (.i .u8) (.i .i64)))),(.fn 1 (.pr (.i .i64) (.pr (.i .u8) (.i .i64))) .b)],[.b],fun x=>kay x.1 x.2,[],[]⟩
theorem kcJ:Good Try.prog 112 kbt:=
 kaj Try.func112 (by kernel_rfl) (An:=[]) [(126,kbI)] (.cons kcZ <| .nil) (fun x=>by kernel_rfl)
def kkl:Ctr:=⟨ "",[(.sl (.pr (.i .i64) (.pr (.i .u8) (.i .i64))))],[(.i .i64)],fun x=>khy x,[],[]⟩
theorem kmK:Good Try.prog 88 kkl:=
 kaj Try.func88 (by kernel_rfl) (An:=[]) [(112,kbt),(62,kdD),(111,kex),(110,khY)] (.cons kcJ <| .cons kdA <| .cons kgp <| .cons kjZ <| .nil) (fun x=>by kernel_rfl)
def keB:Ctr:=⟨ "",[(.sl (.sl (.pr (.i .i64) (.pr (.i .u8) (.i .i64)))))],[(.i .i64)],fun x=>kdt x,[],[]⟩
theorem keH:Good Try.prog 45 keB:=
 kaj Try.func45 (by kernel_rfl) (An:=[(0,⟨⟨[(8,.c (.i .i64))],[]⟩,⟨[],[]⟩,[7,6],[],0,true,""⟩)]) [(88,kkl)] (.cons kmK <| .nil) (fun x=>by kernel_rfl)
def kfo:Ctr:=⟨ "",[tSwap],[.b],fun x=>kbT x,[],[]⟩
theorem khE:Good Try.prog 41 kfo:=
 kaj Try.func41 (by kernel_rfl) (An:=[(6,⟨⟨[],[]⟩,⟨[(3,.ptr 1 0),(4,.ptr 2 0)],[(1,.bx 102 [.c (.i .i64),.c (.i .u8)]),(2,.bx 102 [.c (.i .i64),.c (.i .u8)])]⟩,[1],[0],3,false,""⟩)]) [(42,keI)] (.cons kfn <| .nil) (fun x=>by kernel_rfl)
def kbH:Ctr:=⟨ "",[(.sl tSwap),(.fn 1 tSwap .b)],[(.i .i64)],fun x=>kaW x.1 x.2,[],[]⟩
theorem kda:Good Try.prog 86 kbH:=
 kaj Try.func86 (by kernel_rfl) (An:=[(0,⟨⟨[(8,.c (.i .i64))],[]⟩,⟨[],[]⟩,[7,1,0],[],0,true,""⟩)]) [] (.nil) (fun x=>by kernel_rfl)
def kbu:Ctr:=⟨ "",[(.sl tSwap),(.fn 1 tSwap .b)],[.b],fun x=>kaP x.1 x.2,[],[]⟩
theorem kcL:Good Try.prog 43 kbu:=
 kaj Try.func43 (by kernel_rfl) (An:=[]) [(86,kbH)] (.cons kda <| .nil) (fun x=>by kernel_rfl)
def kcp:Ctr:=⟨ "",[(.sl tSwap)],[(.i .i64)],fun x=>kbq x,[],[]⟩
theorem kcv:Good Try.prog 12 kcp:=
 kaj Try.func12 (by kernel_rfl) (An:=[]) [(43,kbu),(41,kfo)] (.cons kcL <| .cons khE <| .nil) (fun x=>by kernel_rfl)
def kbX:Ctr:=⟨ "",[(.sl tSwap),tSwap],[(.i .i64)],fun x=>kbm x.1 x.2,[],[]⟩
theorem kdB:Good Try.prog 125 kbX:=
 kaj Try.func125 (by kernel_rfl) (An:=[(0,⟨⟨[(8,.c (.i .i64))],[]⟩,⟨[],[]⟩,[7,3,0],[0],1,true,""⟩)]) [] (.nil) (fun x=>by kernel_rfl)
def kbM:Ctr:=⟨ "",[(.sl tSwap),tSwap],[.b],fun x=>kba x.1 x.2,[],[]⟩
theorem kdj:Good Try.prog 109 kbM:=
 kaj Try.func109 (by kernel_rfl) (An:=[]) [(125,kbX)] (.cons kdB <| .nil) (fun x=>by kernel_rfl)
def khh:Ctr:=⟨ "",[(.sl tSwap),(.pr (.i .i64) (.i .u8)),(.pr (.i .i64) (.i .u8))],[.b],fun x=>kfr x.1 x.2.1 x.2.2,[],[]⟩
theorem khd:Good Try.prog 79 khh:=
 kaj Try.func79 (by kernel_rfl) (An:=[]) [(109,kbM)] (.cons kdj <| .nil) (fun x=>by kernel_rfl)
def box_begin_C:Ctr:=⟨ "",[(.sl (.pr (.i .i64) (.pr (.i .u8) (.i .i64)))),(.sl (.pr (.i .i64) (.pr (.i .u8) (.i .i64)))),(.sl tSwap)],[(.op kcU),(.i .i64)],fun x=>ksa x.1 x.2.1 x.2.2,[],[]⟩
theorem box_begin_C_ok:Good Try.prog 29 box_begin_C:=
 kaj Try.func29 (by kernel_rfl) (An:=[(89,⟨⟨[],[]⟩,⟨[(8,.c (.i .i64))],[]⟩,[2,1,0],[],1,false,""⟩),(0,⟨⟨[(33,.c (.i .i64)),(9,.ptr 5 0)],[(5,.bx 97 [.c (.sl (.pr (.i .i64) (.pr (.i .u8) (.i .i64)))),.mw 2,.mw 3,.mw 4]),(4,.sl 3 (.i .i64))]⟩,⟨[(9,.ptr 6 0)],[(6,.bx 97 [.c (.sl (.pr (.i .i64) (.pr (.i .u8) (.i .i64)))),.mw 2,.mw 3,.mw 7]),(7,.sl 3 (.i .i64))]⟩,[32,31,1,0,2],[2,3],8,false,""⟩),(8,⟨⟨[(51,.c (.i .i64)),(9,.ptr 6 0)],[(6,.bx 97 [.c (.sl (.pr (.i .i64) (.pr (.i .u8) (.i .i64)))),.mw 2,.mw 3,.mw 7]),(2,.sl 26 (.sl (.i .i64))),(3,.sl 26 (.sl (.i .i64)))]⟩,⟨[(9,.ptr 8 0)],[(8,.bx 97 [.c (.sl (.pr (.i .i64) (.pr (.i .u8) (.i .i64)))),.mw 9,.mw 10,.mw 7]),(9,.sl 26 (.sl (.i .i64))),(10,.sl 26 (.sl (.i .i64)))]⟩,[50,49,0,2],[7],11,false,""⟩),(16,⟨⟨[(57,.c (.i .i64)),(14,.mw 9)],[(9,.sl 3 (.i .i64))]⟩,⟨[(14,.mw 10)],[(10,.sl 3 (.i .i64))]⟩,[56,55,13,9,51],[8,6,2,3],11,false,""⟩)]) [(79,khh),(12,kcp),(45,keB),(62,kdD)] (.cons khd <| .cons kcv <| .cons keH <| .cons kdA <| .nil) (fun x=>by kernel_rfl)
def kcw (k:Nat):CtrM:=⟨ "",[some (.i .i64),none,none,none],⟨[(1,.ptr 0 0),(2,.ptr 2 0),(3,.ptr 3 0)],[(0,.bx 80 [.mw 1]),(1,.sl 4 .b),(2,.bx 77 [.c (.op kcU)]),(3,.bx 145 [.fn 81 [.ptr 0 0,.ptr 2 0,.ptr 3 0]])]⟩,4,⟨[(1,.ptr 0 0),(2,.ptr 2 0),(3,.ptr 3 0)],[(0,.bx 80 [.mw 1]),(1,.sl 4 .b),(2,.bx 77 [.c (.op kcU)]),(3,.bx 145 [.fn 81 [.ptr 0 0,.ptr 2 0,.ptr 3 0]])]⟩,4,0,fun x=>kaJ k x.1 x.2.1 x.2.2,false⟩
theorem kdR:∀ k,(kcw k).ok=true∧GoodM Try.prog 81 (kcw k)
 | 0=>kiy (by kernel_rfl) (fun x=>rfl)
 | k+1=>kcM Try.func81 (by kernel_rfl) (An:=[(0,⟨⟨[(23,.c (.i .i64))],[(2,.bx 77 [.c (.op kcU)]),(3,.bx 145 [.fn 81 [.ptr 0 0,.ptr 2 0,.ptr 3 0]]),(0,.bx 80 [.mw 1]),(1,.sl 4 .b)]⟩,⟨[],[(2,.bx 77 [.c (.op kcU)]),(3,.bx 145 [.fn 81 [.ptr 0 0,.ptr 2 0,.ptr 3 0]]),(0,.bx 80 [.mw 1]),(1,.sl 4 .b)]⟩,[22,21],[],8,false,""⟩),(8,⟨⟨[(32,.c (.i .i64))],[(2,.bx 77 [.c (.op kcU)]),(3,.bx 145 [.fn 81 [.ptr 0 0,.ptr 2 0,.ptr 3 0]]),(0,.bx 80 [.mw 1]),(1,.sl 4 .b)]⟩,⟨[],[(2,.bx 77 [.c (.op kcU)]),(3,.bx 145 [.fn 81 [.ptr 0 0,.ptr 2 0,.ptr 3 0]]),(0,.bx 80 [.mw 1]),(1,.sl 4 .b)]⟩,[31,6,23],[],8,false,""⟩)]) ((81,⟨ "",[],[],fun _=>none,[kcw k],[]⟩)::[]) (.cons (good_dm.more (kdR k)) <| .nil) (fun x=>by kernel_rfl)
def box_flow_short_c1_m0_M:CtrM:=⟨ "",[some (.i .i64),none,none,none],⟨[(1,.ptr 0 0),(2,.ptr 2 0),(3,.ptr 3 0)],[(0,.bx 80 [.mw 1]),(1,.sl 4 .b),(2,.bx 77 [.c (.op kcU)]),(3,.bx 145 [.fn 81 [.ptr 0 0,.ptr 2 0,.ptr 3 0]])]⟩,4,⟨[(1,.ptr 0 0),(2,.ptr 2 0),(3,.ptr 3 0)],[(0,.bx 80 [.mw 1]),(1,.sl 4 .b),(2,.bx 77 [.c (.op kcU)]),(3,.bx 145 [.fn 81 [.ptr 0 0,.ptr 2 0,.ptr 3 0]])]⟩,4,0,fun x=>kce x.1 x.2.1 x.2.2,false⟩
theorem kgm:box_flow_short_c1_m0_M.ok=true∧GoodM Try.prog 81 box_flow_short_c1_m0_M:=kdR 1000000
def box_flow_short_c1_C:Ctr:=⟨ "",[],[],fun _=>none,[],[]⟩
theorem box_flow_short_c1_C_ok:Good Try.prog 81 box_flow_short_c1_C:=good_dm
def kdi:Ctr:=⟨ "",box_flow_short_c1_C.as,box_flow_short_c1_C.rs,box_flow_short_c1_C.F,box_flow_short_c1_m0_M::box_flow_short_c1_C.mus,box_flow_short_c1_C.its⟩
theorem keg:Good Try.prog 81 kdi:=(box_flow_short_c1_C_ok.more kgm)
def box_flow_short_C:Ctr:=⟨ "",[(.op kcU),(.sl .b)],[(.sl (.i .i64))],fun x=>kmy x.1 x.2,[],[]⟩
theorem box_flow_short_C_ok:Good Try.prog 31 box_flow_short_C:=
 kaj Try.func31 (by kernel_rfl) (An:=[(0,⟨⟨[(18,.c (.i .i64)),(5,.ptr 2 0),(6,.ptr 5 0)],[(2,.bx 145 [.fn 81 [.ptr 5 0,.ptr 0 0,.ptr 2 0]]),(5,.bx 80 [.mw 3]),(3,.sl 4 .b),(0,.bx 77 [.c (.op kcU)])]⟩,⟨[(6,.ptr 6 0)],[(6,.bx 80 [.mw 7]),(7,.sl 4 .b)]⟩,[17,16],[],8,false,""⟩),(8,⟨⟨[(30,.c (.i .i64)),(9,.mw 8)],[(8,.sl 3 (.i .i64))]⟩,⟨[(9,.mw 9)],[(9,.sl 3 (.i .i64))]⟩,[29,28],[7],10,false,""⟩)]) [(81,kdi)] (.cons keg <| .nil) (fun x=>by kernel_rfl)
def box_begin_m1g0_M:CtrM:=⟨ "",[some (.sl (.pr (.i .i64) (.pr (.i .u8) (.i .i64)))),some (.sl (.pr (.i .i64) (.pr (.i .u8) (.i .i64)))),some (.sl tSwap)],⟨[],[]⟩,0,⟨[(1000000,.sc (.pointer none)),(1000001,.c (.i .i64))],[]⟩,0,2,fun x=>kcT x.1 x.2.1 x.2.2,true⟩
theorem kiW:box_begin_m1g0_M.ok=true∧GoodM Try.prog 29 box_begin_m1g0_M:=
 kcM Try.func29 (by kernel_rfl) (An:=[(89,⟨⟨[],[]⟩,⟨[(8,.c (.i .i64))],[]⟩,[2,1,0],[],1,false,""⟩),(0,⟨⟨[(33,.c (.i .i64)),(9,.ptr 5 0)],[(5,.bx 97 [.c (.sl (.pr (.i .i64) (.pr (.i .u8) (.i .i64)))),.mw 2,.fw 3,.mw 4]),(4,.sl 3 (.i .i64))]⟩,⟨[(9,.ptr 6 0)],[(6,.bx 97 [.c (.sl (.pr (.i .i64) (.pr (.i .u8) (.i .i64)))),.mw 2,.fw 3,.mw 7]),(7,.sl 3 (.i .i64))]⟩,[32,31,1,0,2],[2,3],8,false,""⟩),(8,⟨⟨[(51,.c (.i .i64)),(9,.ptr 6 0)],[(6,.bx 97 [.c (.sl (.pr (.i .i64) (.pr (.i .u8) (.i .i64)))),.mw 2,.fw 3,.mw 7]),(2,.sl 26 (.sl (.i .i64))),(3,.fm 26 (.sl (.i .i64)) 0 3 (.i .i64))]⟩,⟨[(9,.ptr 8 0)],[(8,.bx 97 [.c (.sl (.pr (.i .i64) (.pr (.i .u8) (.i .i64)))),.mw 9,.fw 10,.mw 7]),(9,.sl 26 (.sl (.i .i64))),(10,.fm 26 (.sl (.i .i64)) 0 3 (.i .i64))]⟩,[50,49,0,2],[7],11,false,""⟩),(16,⟨⟨[(57,.c (.i .i64)),(14,.mw 9)],[(9,.sl 3 (.i .i64))]⟩,⟨[(14,.mw 10)],[(10,.sl 3 (.i .i64))]⟩,[56,55,13,9,51],[8,6,2,3],11,false,""⟩)]) [(4097001,kdo),(7000089,kdo),(6000083,kdo),(6000029,kdo),(79,khh),(12,kcp),(45,keB),(62,kdD)] (.cons kbP <| .cons kbP <| .cons kbP <| .cons kbP <| .cons khd <| .cons kcv <| .cons keH <| .cons kdA <| .nil) (fun x=>by kernel_rfl)
def box_begin_m1g1_M:CtrM:=⟨ "",[some (.sl (.pr (.i .i64) (.pr (.i .u8) (.i .i64)))),some (.sl (.pr (.i .i64) (.pr (.i .u8) (.i .i64)))),some (.sl tSwap)],⟨[],[]⟩,0,⟨[(1000000,.ptr 0 0),(1000001,.c (.i .i64))],[(0,.bx 97 [.c (.sl (.pr (.i .i64) (.pr (.i .u8) (.i .i64)))),.mw 1,.fw 2,.mw 3]),(1,.sl 26 (.sl (.i .i64))),(2,.fm 26 (.sl (.i .i64)) 0 3 (.i .i64)),(3,.sl 3 (.i .i64))]⟩,4,2,fun x=>kcW x.1 x.2.1 x.2.2,true⟩
theorem kiU:box_begin_m1g1_M.ok=true∧GoodM Try.prog 29 box_begin_m1g1_M:=
 kcM Try.func29 (by kernel_rfl) (An:=[(89,⟨⟨[],[]⟩,⟨[(8,.c (.i .i64))],[]⟩,[2,1,0],[],1,false,""⟩),(0,⟨⟨[(33,.c (.i .i64)),(9,.ptr 5 0)],[(5,.bx 97 [.c (.sl (.pr (.i .i64) (.pr (.i .u8) (.i .i64)))),.mw 2,.fw 3,.mw 4]),(4,.sl 3 (.i .i64))]⟩,⟨[(9,.ptr 6 0)],[(6,.bx 97 [.c (.sl (.pr (.i .i64) (.pr (.i .u8) (.i .i64)))),.mw 2,.fw 3,.mw 7]),(7,.sl 3 (.i .i64))]⟩,[32,31,1,0,2],[2,3],8,false,""⟩),(8,⟨⟨[(51,.c (.i .i64)),(9,.ptr 6 0)],[(6,.bx 97 [.c (.sl (.pr (.i .i64) (.pr (.i .u8) (.i .i64)))),.mw 2,.fw 3,.mw 7]),(2,.sl 26 (.sl (.i .i64))),(3,.fm 26 (.sl (.i .i64)) 0 3 (.i .i64))]⟩,⟨[(9,.ptr 8 0)],[(8,.bx 97 [.c (.sl (.pr (.i .i64) (.pr (.i .u8) (.i .i64)))),.mw 9,.fw 10,.mw 7]),(9,.sl 26 (.sl (.i .i64))),(10,.fm 26 (.sl (.i .i64)) 0 3 (.i .i64))]⟩,[50,49,0,2],[7],11,false,""⟩),(16,⟨⟨[(57,.c (.i .i64)),(14,.mw 9)],[(9,.sl 3 (.i .i64))]⟩,⟨[(14,.mw 10)],[(10,.sl 3 (.i .i64))]⟩,[56,55,13,9,51],[8,6,2,3],11,false,""⟩)]) [(4097001,kdo),(7000089,kdo),(6000083,kdo),(6000029,kdo),(79,khh),(12,kcp),(45,keB),(62,kdD)] (.cons kbP <| .cons kbP <| .cons kbP <| .cons kbP <| .cons khd <| .cons kcv <| .cons keH <| .cons kdA <| .nil) (fun x=>by kernel_rfl)
def kgN:Ctr:=⟨ "",box_begin_C.as,box_begin_C.rs,box_begin_C.F,box_begin_m1g0_M::box_begin_m1g1_M::box_begin_C.mus,box_begin_C.its⟩
theorem khr:Good Try.prog 29 kgN:=((box_begin_C_ok.more kiU).more kiW)
def box_flow_short_m2_M:CtrM:=⟨ "",[some (.op kcU),some (.sl .b)],⟨[],[]⟩,0,⟨[(1000000,.mw 0)],[(0,.sl 3 (.i .i64))]⟩,1,1,fun x=>kbS x.1 x.2,false⟩
theorem khz:box_flow_short_m2_M.ok=true∧GoodM Try.prog 31 box_flow_short_m2_M:=
 kcM Try.func31 (by kernel_rfl) (An:=[(0,⟨⟨[(18,.c (.i .i64)),(5,.ptr 2 0),(6,.ptr 5 0)],[(2,.bx 145 [.fn 81 [.ptr 5 0,.ptr 0 0,.ptr 2 0]]),(5,.bx 80 [.mw 3]),(3,.sl 4 .b),(0,.bx 77 [.c (.op kcU)])]⟩,⟨[(6,.ptr 6 0)],[(6,.bx 80 [.mw 7]),(7,.sl 4 .b)]⟩,[17,16],[],8,false,""⟩),(8,⟨⟨[(30,.c (.i .i64)),(9,.mw 8)],[(8,.sl 3 (.i .i64))]⟩,⟨[(9,.mw 9)],[(9,.sl 3 (.i .i64))]⟩,[29,28],[7],10,false,""⟩)]) [(81,kdi)] (.cons keg <| .nil) (fun x=>by kernel_rfl)
def kgh:Ctr:=⟨ "",box_flow_short_C.as,box_flow_short_C.rs,box_flow_short_C.F,box_flow_short_m2_M::box_flow_short_C.mus,box_flow_short_C.its⟩
theorem kiv:Good Try.prog 31 kgh:=(box_flow_short_C_ok.more khz)
def kcH (k:Nat):CtrM:=⟨ "",[some (.i .i64),some (.i .i64),none,none,none],⟨[(2,.ptr 0 0),(3,.ptr 5 0),(4,.ptr 7 0)],[(0,.bx 77 [.ptr 1 0]),(1,.bx 97 [.c (.sl (.pr (.i .i64) (.pr (.i .u8) (.i .i64)))),.mw 2,.fw 3,.mw 4]),(2,.sl 26 (.sl (.i .i64))),(3,.fm 26 (.sl (.i .i64)) 0 3 (.i .i64)),(4,.sl 3 (.i .i64)),(5,.bx 80 [.mw 6]),(6,.sl 4 .b),(7,.bx 83 [.fn 80 [.ptr 0 0,.ptr 5 0,.ptr 7 0]])]⟩,8,⟨[(2,.ptr 0 0),(3,.ptr 5 0),(4,.ptr 7 0),(1000000,.c (.i .i64))],[(0,.bx 77 [.ptr 1 0]),(1,.bx 97 [.c (.sl (.pr (.i .i64) (.pr (.i .u8) (.i .i64)))),.mw 2,.fw 3,.mw 4]),(2,.sl 26 (.sl (.i .i64))),(3,.fm 26 (.sl (.i .i64)) 0 3 (.i .i64)),(4,.sl 3 (.i .i64)),(5,.bx 80 [.mw 6]),(6,.sl 4 .b),(7,.bx 83 [.fn 80 [.ptr 0 0,.ptr 5 0,.ptr 7 0]])]⟩,8,1,fun x=>kaM k x.1 x.2.1 x.2.2.1 x.2.2.2.1 x.2.2.2.2.1 x.2.2.2.2.2.1 x.2.2.2.2.2.2,false⟩
theorem keh:∀ k,(kcH k).ok=true∧GoodM Try.prog 80 (kcH k)
 | 0=>kiy (by kernel_rfl) (fun x=>rfl)
 | k+1=>kcM Try.func80 (by kernel_rfl) (An:=[(0,⟨⟨[(21,.c (.i .i64))],[(5,.bx 80 [.mw 6]),(6,.sl 4 .b),(0,.bx 77 [.ptr 1 0]),(1,.bx 97 [.c (.sl (.pr (.i .i64) (.pr (.i .u8) (.i .i64)))),.mw 2,.fw 3,.mw 4]),(2,.sl 26 (.sl (.i .i64))),(3,.fm 26 (.sl (.i .i64)) 0 3 (.i .i64)),(4,.sl 3 (.i .i64)),(7,.bx 83 [.fn 80 [.ptr 0 0,.ptr 5 0,.ptr 7 0]])]⟩,⟨[],[(6,.sl 4 .b),(4,.sl 3 (.i .i64)),(5,.bx 80 [.mw 6]),(3,.fm 26 (.sl (.i .i64)) 0 3 (.i .i64)),(0,.bx 77 [.ptr 1 0]),(1,.bx 97 [.c (.sl (.pr (.i .i64) (.pr (.i .u8) (.i .i64)))),.mw 2,.fw 3,.mw 4]),(2,.sl 26 (.sl (.i .i64))),(7,.bx 83 [.fn 80 [.ptr 0 0,.ptr 5 0,.ptr 7 0]])]⟩,[20,19,1,0],[],16,true,""⟩),(8,⟨⟨[(72,.c (.i .i64))],[(0,.bx 77 [.ptr 1 0]),(1,.bx 97 [.c (.sl (.pr (.i .i64) (.pr (.i .u8) (.i .i64)))),.mw 2,.fw 3,.mw 4]),(2,.sl 26 (.sl (.i .i64))),(3,.fm 26 (.sl (.i .i64)) 0 3 (.i .i64)),(4,.sl 3 (.i .i64)),(7,.bx 83 [.fn 80 [.ptr 0 0,.ptr 5 0,.ptr 7 0]]),(5,.bx 80 [.mw 6]),(6,.sl 4 .b)]⟩,⟨[],[(0,.bx 77 [.ptr 1 0]),(1,.bx 97 [.c (.sl (.pr (.i .i64) (.pr (.i .u8) (.i .i64)))),.mw 2,.fw 3,.mw 4]),(2,.sl 26 (.sl (.i .i64))),(3,.fm 26 (.sl (.i .i64)) 0 3 (.i .i64)),(4,.sl 3 (.i .i64)),(7,.bx 83 [.fn 80 [.ptr 0 0,.ptr 5 0,.ptr 7 0]]),(5,.bx 80 [.mw 6]),(6,.sl 4 .b)]⟩,[71,9,21],[],16,true,""⟩)]) ((80,⟨ "",[],[],fun _=>none,[kcH k],[]⟩)::[]) (.cons (good_dm.more (keh k)) <| .nil) (fun x=>by kernel_rfl)
def box_flow_give_c1_m3_M:CtrM:=⟨ "",[some (.i .i64),some (.i .i64),none,none,none],⟨[(2,.ptr 0 0),(3,.ptr 5 0),(4,.ptr 7 0)],[(0,.bx 77 [.ptr 1 0]),(1,.bx 97 [.c (.sl (.pr (.i .i64) (.pr (.i .u8) (.i .i64)))),.mw 2,.fw 3,.mw 4]),(2,.sl 26 (.sl (.i .i64))),(3,.fm 26 (.sl (.i .i64)) 0 3 (.i .i64)),(4,.sl 3 (.i .i64)),(5,.bx 80 [.mw 6]),(6,.sl 4 .b),(7,.bx 83 [.fn 80 [.ptr 0 0,.ptr 5 0,.ptr 7 0]])]⟩,8,⟨[(2,.ptr 0 0),(3,.ptr 5 0),(4,.ptr 7 0),(1000000,.c (.i .i64))],[(0,.bx 77 [.ptr 1 0]),(1,.bx 97 [.c (.sl (.pr (.i .i64) (.pr (.i .u8) (.i .i64)))),.mw 2,.fw 3,.mw 4]),(2,.sl 26 (.sl (.i .i64))),(3,.fm 26 (.sl (.i .i64)) 0 3 (.i .i64)),(4,.sl 3 (.i .i64)),(5,.bx 80 [.mw 6]),(6,.sl 4 .b),(7,.bx 83 [.fn 80 [.ptr 0 0,.ptr 5 0,.ptr 7 0]])]⟩,8,1,fun x=>kdw x.1 x.2.1 x.2.2.1 x.2.2.2.1 x.2.2.2.2.1 x.2.2.2.2.2.1 x.2.2.2.2.2.2,false⟩
theorem kgK:box_flow_give_c1_m3_M.ok=true∧GoodM Try.prog 80 box_flow_give_c1_m3_M:=keh 1000000
def box_flow_give_c1_C:Ctr:=⟨ "",[],[],fun _=>none,[],[]⟩
theorem box_flow_give_c1_C_ok:Good Try.prog 80 box_flow_give_c1_C:=good_dm
def kfl:Ctr:=⟨ "",box_flow_give_c1_C.as,box_flow_give_c1_C.rs,box_flow_give_c1_C.F,box_flow_give_c1_m3_M::box_flow_give_c1_C.mus,box_flow_give_c1_C.its⟩
theorem khJ:Good Try.prog 80 kfl:=(box_flow_give_c1_C_ok.more kgK)
def box_flow_give_m4_M:CtrM:=⟨ "",[none,some (.i .i64),some (.i .i64)],⟨[(0,.ptr 0 0)],[(0,.bx 97 [.c (.sl (.pr (.i .i64) (.pr (.i .u8) (.i .i64)))),.mw 1,.fw 2,.mw 3]),(1,.sl 26 (.sl (.i .i64))),(2,.fm 26 (.sl (.i .i64)) 0 3 (.i .i64)),(3,.sl 3 (.i .i64))]⟩,4,⟨[(0,.ptr 0 0),(1000000,.c (.i .i64))],[(0,.bx 97 [.c (.sl (.pr (.i .i64) (.pr (.i .u8) (.i .i64)))),.mw 1,.fw 2,.mw 3]),(1,.sl 26 (.sl (.i .i64))),(2,.fm 26 (.sl (.i .i64)) 0 3 (.i .i64)),(3,.sl 3 (.i .i64))]⟩,4,1,fun x=>kdk x.1 x.2.1 x.2.2.1 x.2.2.2.1 x.2.2.2.2.1 x.2.2.2.2.2,false⟩
theorem kif:box_flow_give_m4_M.ok=true∧GoodM Try.prog 30 box_flow_give_m4_M:=
 kcM Try.func30 (by kernel_rfl) (An:=[(0,⟨⟨[(9,.c (.i .i64)),(3,.ptr 4 0),(7,.ptr 6 0),(8,.ptr 7 0)],[(4,.bx 77 [.ptr 0 0]),(0,.bx 97 [.c (.sl (.pr (.i .i64) (.pr (.i .u8) (.i .i64)))),.mw 1,.fw 2,.mw 3]),(1,.sl 26 (.sl (.i .i64))),(2,.fm 26 (.sl (.i .i64)) 0 3 (.i .i64)),(3,.sl 3 (.i .i64)),(6,.bx 80 [.mw 5]),(5,.sl 4 .b),(7,.bx 83 [.fn 80 [.ptr 4 0,.ptr 6 0,.ptr 7 0]])]⟩,⟨[(9,.c (.i .i64))],[(0,.bx 97 [.c (.sl (.pr (.i .i64) (.pr (.i .u8) (.i .i64)))),.mw 1,.fw 2,.mw 3]),(1,.sl 26 (.sl (.i .i64))),(2,.fm 26 (.sl (.i .i64)) 0 3 (.i .i64)),(3,.sl 3 (.i .i64))]⟩,[2,1],[],12,false,""⟩)]) [(80,kfl)] (.cons khJ <| .nil) (fun x=>by kernel_rfl)
def box_flow_give_C:Ctr:=⟨ "",[],[],fun _=>none,[],[]⟩
theorem box_flow_give_C_ok:Good Try.prog 30 box_flow_give_C:=good_dm
def khf:Ctr:=⟨ "",box_flow_give_C.as,box_flow_give_C.rs,box_flow_give_C.F,box_flow_give_m4_M::box_flow_give_C.mus,box_flow_give_C.its⟩
theorem kiR:Good Try.prog 30 khf:=(box_flow_give_C_ok.more kif)
def klP:Ctr:=⟨ "",[(.sl (.pr (.i .i64) (.pr (.i .u8) (.i .i64)))),(.sl (.pr (.i .i64) (.pr (.i .u8) (.i .i64)))),(.sl tSwap)],[kqu,(.i .i64)],fun x=>kiq x.1 x.2.1 x.2.2,[],[]⟩
theorem knI:Good Try.prog 8 klP:=
 kaj Try.func8 (by kernel_rfl) (An:=[(0,⟨⟨[(31,.c (.i .i64)),(10,.c (.i .i64))],[]⟩,⟨[(10,.c (.i .i64))],[]⟩,[30,29,8,11,6],[2,1,0],3,false,""⟩),(0,⟨⟨[(31,.c (.i .i64)),(8,.ptr 2 0),(10,.c (.i .i64)),(11,.mw 6)],[(2,.bx 97 [.c (.sl (.pr (.i .i64) (.pr (.i .u8) (.i .i64)))),.mw 3,.fw 4,.mw 5]),(3,.sl 26 (.sl (.i .i64))),(4,.fm 26 (.sl (.i .i64)) 0 3 (.i .i64)),(5,.sl 3 (.i .i64)),(6,.sl 4 .b)]⟩,⟨[(10,.c (.i .i64)),(8,.ptr 7 0),(11,.mw 11)],[(7,.bx 97 [.c (.sl (.pr (.i .i64) (.pr (.i .u8) (.i .i64)))),.mw 8,.fw 9,.mw 10]),(8,.sl 26 (.sl (.i .i64))),(9,.fm 26 (.sl (.i .i64)) 0 3 (.i .i64)),(10,.sl 3 (.i .i64)),(11,.sl 4 .b)]⟩,[30,29,6],[1,0],12,false,""⟩)]) [(31,kgh),(29,kgN),(30,khf)] (.cons kiv <| .cons khr <| .cons kiR <| .nil) (fun x=>by kernel_rfl)
def kfs:Ctr:=⟨ "",[(.i .i64),(.i .u8)],[.b],fun x=>kcn x.1 x.2,[],[]⟩
theorem kgg:Good Try.prog 87 kfs:=
 kaj Try.func87 (by kernel_rfl) (An:=[]) [(78,kcX)] (.cons kcS <| .nil) (fun x=>by kernel_rfl)
def kig:Ctr:=⟨ "",[(.i .i64),(.i .u8),(.i .i64),(.i .u8)],[.b],fun x=>kdM x.1 x.2.1 x.2.2.1 x.2.2.2,[],[]⟩
theorem kkf:Good Try.prog 94 kig:=
 kaj Try.func94 (by kernel_rfl) (An:=[]) [] (.nil) (fun x=>by kernel_rfl)
def kiK:Ctr:=⟨ "",[(.sl (.pr (.i .i64) (.pr (.i .u8) (.i .i64))))],[.b],fun x=>keq x,[],[]⟩
theorem kkH:Good Try.prog 51 kiK:=
 kaj Try.func51 (by kernel_rfl) (An:=[(0,⟨⟨[(3,.c (.i .i64))],[]⟩,⟨[],[]⟩,[0],[],0,true,""⟩)]) [(94,kig),(87,kfs),(78,kcX)] (.cons kkf <| .cons kgg <| .cons kcS <| .nil) (fun x=>by kernel_rfl)
def kiO:Ctr:=⟨ "",[(.sl tSwap)],[.b],fun x=>khC x,[],[]⟩
theorem kli:Good Try.prog 44 kiO:=
 kaj Try.func44 (by kernel_rfl) (An:=[(0,⟨⟨[(3,.c (.i .i64))],[]⟩,⟨[],[]⟩,[0],[],0,true,""⟩)]) [(87,kfs)] (.cons kgg <| .nil) (fun x=>by kernel_rfl)
def kdL:Ctr:=⟨ "",[(.sl tSwap)],[(.i .i64)],fun x=>kcr x,[],[]⟩
theorem keO:Good Try.prog 13 kdL:=
 kaj Try.func13 (by kernel_rfl) (An:=[]) [(44,kiO)] (.cons kli <| .nil) (fun x=>by kernel_rfl)
def kfX:Ctr:=⟨ "",[(.sl (.pr (.i .i64) (.pr (.i .u8) (.i .i64)))),(.sl (.pr (.i .i64) (.pr (.i .u8) (.i .i64)))),(.sl tSwap)],[(.i .i64)],fun x=>kes x.1 x.2.1 x.2.2,[],[]⟩
theorem khe:Good Try.prog 32 kfX:=
 kaj Try.func32 (by kernel_rfl) (An:=[]) [(13,kdL),(51,kiK)] (.cons keO <| .cons kkH <| .nil) (fun x=>by kernel_rfl)
def kfK:Ctr:=⟨ "",[(.sl tSwap),(.i .i64),(.i .u8),(.i .i64),(.i .u8)],[.b],fun x=>kdb x.1 x.2.1 x.2.2.1 x.2.2.2.1 x.2.2.2.2,[],[]⟩
theorem kfD:Good Try.prog 82 kfK:=
 kaj Try.func82 (by kernel_rfl) (An:=[(6,⟨⟨[],[]⟩,⟨[(19,.c .b)],[]⟩,[1,3,2,4,0],[],0,false,""⟩),(0,⟨⟨[(11,.c (.i .i64))],[]⟩,⟨[],[]⟩,[0,1,2,3,4],[],0,true,""⟩)]) [] (.nil) (fun x=>by kernel_rfl)
def ref08_begun_C:Ctr:=⟨ "",[(.sl (.pr (.i .i64) (.pr (.i .u8) (.i .i64)))),(.sl (.pr (.i .i64) (.pr (.i .u8) (.i .i64)))),(.sl tSwap)],[tFlow],fun x=>kpX x.1 x.2.1 x.2.2,[],[]⟩
theorem ref08_begun_C_ok:Good Try.prog 33 ref08_begun_C:=
 kaj Try.func33 (by kernel_rfl) (An:=[(0,⟨⟨[(8,.c (.i .i64)),(7,.ptr 7 0)],[(7,.bx 88 [.mw 4,.mw 5,.mw 6]),(4,.sl 80 (.sl .b)),(5,.sl 26 (.sl (.i .i64)))]⟩,⟨[(7,.ptr 8 0)],[(8,.bx 88 [.mw 9,.mw 10,.mw 6]),(9,.sl 80 (.sl .b)),(10,.sl 26 (.sl (.i .i64)))]⟩,[1,0,2,6],[6,3,0,1,2],11,false,""⟩),(8,⟨⟨[(10,.c (.i .i64)),(9,.mw 8)],[(8,.sl 4 .b)]⟩,⟨[(9,.mw 9)],[(9,.sl 4 .b)]⟩,[8,7],[7,4,5],10,false,""⟩),(16,⟨⟨[(11,.c (.i .i64)),(7,.ptr 8 0)],[(8,.bx 88 [.mw 9,.mw 10,.mw 6]),(6,.sl 3 (.i .i64))]⟩,⟨[(7,.ptr 11 0)],[(11,.bx 88 [.mw 9,.mw 10,.mw 12]),(12,.sl 3 (.i .i64))]⟩,[0,6],[9,10,3,0,1,2],13,false,""⟩)]) [(82,kfK)] (.cons kfD <| .nil) (fun x=>by kernel_rfl)
def ref08_short_C:Ctr:=⟨ "",[tFlow,(.sl .b)],[(.sl (.i .i64))],fun x=>kqk x.1 x.2,[],[]⟩
theorem ref08_short_C_ok:Good Try.prog 35 ref08_short_C:=
 kaj Try.func35 (by kernel_rfl) (An:=[(0,⟨⟨[(6,.c .b),(5,.mw 3)],[(3,.sl 4 .b)]⟩,⟨[(5,.mw 4)],[(4,.sl 4 .b)]⟩,[2],[0],5,false,""⟩),(8,⟨⟨[(7,.c (.i .i64)),(5,.mw 3),(6,.c .b)],[(3,.sl 4 .b)]⟩,⟨[(6,.c .b),(5,.mw 4)],[(4,.sl 4 .b)]⟩,[],[],5,false,""⟩),(16,⟨⟨[(5,.mw 3),(8,.c (.i .i64)),(6,.c .b)],[(3,.sl 4 .b)]⟩,⟨[(5,.mw 4),(6,.c .b)],[(4,.sl 4 .b)]⟩,[7],[],5,false,""⟩),(24,⟨⟨[(9,.c (.i .i64)),(5,.mw 3),(6,.c .b)],[(3,.sl 4 .b)]⟩,⟨[(5,.mw 4),(6,.c .b)],[(4,.sl 4 .b)]⟩,[8],[],5,false,""⟩),(58,⟨⟨[],[]⟩,⟨[(66,.c .b)],[]⟩,[9,5,6],[3],4,false,""⟩),(32,⟨⟨[(11,.c (.i .i64)),(10,.mw 5)],[(5,.sl 3 (.i .i64))]⟩,⟨[(10,.mw 6)],[(6,.sl 3 (.i .i64))]⟩,[5],[4],7,false,""⟩)]) [] (.nil) (fun x=>by kernel_rfl)
def ref08_begun_m5_M:CtrM:=⟨ "",[some (.sl (.pr (.i .i64) (.pr (.i .u8) (.i .i64)))),some (.sl (.pr (.i .i64) (.pr (.i .u8) (.i .i64)))),some (.sl tSwap)],⟨[],[]⟩,0,⟨[(1000000,.ag [.mw 0,.fw 1,.mw 2])],[(0,.sl 80 (.sl .b)),(1,.fm 26 (.sl (.i .i64)) 0 3 (.i .i64)),(2,.sl 3 (.i .i64))]⟩,3,1,fun x=>kef x.1 x.2.1 x.2.2,false⟩
theorem kiQ:ref08_begun_m5_M.ok=true∧GoodM Try.prog 33 ref08_begun_m5_M:=
 kcM Try.func33 (by kernel_rfl) (An:=[(0,⟨⟨[(8,.c (.i .i64)),(7,.ptr 7 0)],[(7,.bx 88 [.mw 4,.fw 5,.mw 6]),(4,.sl 80 (.sl .b)),(5,.fm 26 (.sl (.i .i64)) 0 3 (.i .i64))]⟩,⟨[(7,.ptr 8 0)],[(8,.bx 88 [.mw 9,.fw 10,.mw 6]),(9,.sl 80 (.sl .b)),(10,.fm 26 (.sl (.i .i64)) 0 3 (.i .i64))]⟩,[1,0,2,6],[6,3,0,1,2],11,false,""⟩),(8,⟨⟨[(10,.c (.i .i64)),(9,.mw 8)],[(8,.sl 4 .b)]⟩,⟨[(9,.mw 9)],[(9,.sl 4 .b)]⟩,[8,7],[7,4,5],10,false,""⟩),(16,⟨⟨[(11,.c (.i .i64)),(7,.ptr 8 0)],[(8,.bx 88 [.mw 9,.fw 10,.mw 6]),(6,.sl 3 (.i .i64))]⟩,⟨[(7,.ptr 11 0)],[(11,.bx 88 [.mw 9,.fw 10,.mw 12]),(12,.sl 3 (.i .i64))]⟩,[0,6],[9,10,3,0,1,2],13,false,""⟩)]) [(4088000,kdo),(7000063,kdo),(6000007,kdo),(82,kfK)] (.cons kbP <| .cons kbP <| .cons kbP <| .cons kfD <| .nil) (fun x=>by kernel_rfl)
def khW:Ctr:=⟨ "",ref08_begun_C.as,ref08_begun_C.rs,ref08_begun_C.F,ref08_begun_m5_M::ref08_begun_C.mus,ref08_begun_C.its⟩
theorem kkg:Good Try.prog 33 khW:=(ref08_begun_C_ok.more kiQ)
def ref08_short_m6_M:CtrM:=⟨ "",[some tFlow,some (.sl .b)],⟨[],[]⟩,0,⟨[(1000000,.mw 0)],[(0,.sl 3 (.i .i64))]⟩,1,1,fun x=>kec x.1 x.2,false⟩
theorem kiS:ref08_short_m6_M.ok=true∧GoodM Try.prog 35 ref08_short_m6_M:=
 kcM Try.func35 (by kernel_rfl) (An:=[(0,⟨⟨[(6,.c .b),(5,.mw 3)],[(3,.sl 4 .b)]⟩,⟨[(5,.mw 4)],[(4,.sl 4 .b)]⟩,[2],[0],5,false,""⟩),(8,⟨⟨[(7,.c (.i .i64)),(5,.mw 3),(6,.c .b)],[(3,.sl 4 .b)]⟩,⟨[(6,.c .b),(5,.mw 4)],[(4,.sl 4 .b)]⟩,[],[],5,false,""⟩),(16,⟨⟨[(5,.mw 3),(8,.c (.i .i64)),(6,.c .b)],[(3,.sl 4 .b)]⟩,⟨[(5,.mw 4),(6,.c .b)],[(4,.sl 4 .b)]⟩,[7],[],5,false,""⟩),(24,⟨⟨[(9,.c (.i .i64)),(5,.mw 3),(6,.c .b)],[(3,.sl 4 .b)]⟩,⟨[(5,.mw 4),(6,.c .b)],[(4,.sl 4 .b)]⟩,[8],[],5,false,""⟩),(58,⟨⟨[],[]⟩,⟨[(66,.c .b)],[]⟩,[9,5,6],[3],4,false,""⟩),(32,⟨⟨[(11,.c (.i .i64)),(10,.mw 5)],[(5,.sl 3 (.i .i64))]⟩,⟨[(10,.mw 6)],[(6,.sl 3 (.i .i64))]⟩,[5],[4],7,false,""⟩)]) [] (.nil) (fun x=>by kernel_rfl)
def kij:Ctr:=⟨ "",ref08_short_C.as,ref08_short_C.rs,ref08_short_C.F,ref08_short_m6_M::ref08_short_C.mus,ref08_short_C.its⟩
theorem kjY:Good Try.prog 35 kij:=(ref08_short_C_ok.more kiS)
def keJ (k:Nat):CtrM:=⟨ "",[none,some (.i .i64),none],⟨[(0,.ag [.mw 0,.fw 1,.mw 2]),(2,.mw 3)],[(0,.sl 80 (.sl .b)),(1,.fm 26 (.sl (.i .i64)) 0 3 (.i .i64)),(2,.sl 3 (.i .i64)),(3,.sl 4 .b)]⟩,4,⟨[(2,.mw 3),(1000000,.c .b)],[(3,.sl 4 .b),(0,.sl 80 (.sl .b)),(1,.fm 26 (.sl (.i .i64)) 0 3 (.i .i64)),(2,.sl 3 (.i .i64))]⟩,4,1,fun x=>kbw k x.1 x.2.1 x.2.2.1 x.2.2.2.1 x.2.2.2.2,false⟩
theorem kgc:∀ k,(keJ k).ok=true∧GoodM Try.prog 83 (keJ k)
 | 0=>kiy (by kernel_rfl) (fun x=>rfl)
 | k+1=>kcM Try.func83 (by kernel_rfl) (An:=[(0,⟨⟨[(7,.c (.i .i64)),(3,.ptr 4 0)],[(4,.bx 88 [.mw 0,.fw 1,.mw 2]),(0,.sl 80 (.sl .b)),(1,.fm 26 (.sl (.i .i64)) 0 3 (.i .i64)),(2,.sl 3 (.i .i64)),(3,.sl 4 .b)]⟩,⟨[],[(3,.sl 4 .b),(2,.sl 3 (.i .i64)),(0,.sl 80 (.sl .b)),(1,.fm 26 (.sl (.i .i64)) 0 3 (.i .i64))]⟩,[1],[],9,true,""⟩),(8,⟨⟨[(8,.c (.i .i64)),(3,.ptr 4 0)],[(4,.bx 88 [.mw 0,.fw 1,.mw 2]),(0,.sl 80 (.sl .b)),(1,.fm 26 (.sl (.i .i64)) 0 3 (.i .i64)),(2,.sl 3 (.i .i64)),(3,.sl 4 .b)]⟩,⟨[(3,.ptr 5 0)],[(5,.bx 88 [.mw 0,.fw 1,.mw 2]),(0,.sl 80 (.sl .b)),(1,.fm 26 (.sl (.i .i64)) 0 3 (.i .i64)),(2,.sl 3 (.i .i64)),(3,.sl 4 .b)]⟩,[7],[],10,true,""⟩)]) ((83,⟨ "",[],[],fun _=>none,[keJ k],[]⟩)::[]) (.cons (good_dm.more (kgc k)) <| .nil) (fun x=>by kernel_rfl)
def ref08_more_m7_M:CtrM:=⟨ "",[none,some (.i .i64),none],⟨[(0,.ag [.mw 0,.fw 1,.mw 2]),(2,.mw 3)],[(0,.sl 80 (.sl .b)),(1,.fm 26 (.sl (.i .i64)) 0 3 (.i .i64)),(2,.sl 3 (.i .i64)),(3,.sl 4 .b)]⟩,4,⟨[(2,.mw 3),(1000000,.c .b)],[(3,.sl 4 .b),(0,.sl 80 (.sl .b)),(1,.fm 26 (.sl (.i .i64)) 0 3 (.i .i64)),(2,.sl 3 (.i .i64))]⟩,4,1,fun x=>kgb x.1 x.2.1 x.2.2.1 x.2.2.2.1 x.2.2.2.2,false⟩
theorem kjl:ref08_more_m7_M.ok=true∧GoodM Try.prog 83 ref08_more_m7_M:=kgc 1000000
def ref08_more_C:Ctr:=⟨ "",[],[],fun _=>none,[],[]⟩
theorem ref08_more_C_ok:Good Try.prog 83 ref08_more_C:=good_dm
def kiN:Ctr:=⟨ "",ref08_more_C.as,ref08_more_C.rs,ref08_more_C.F,ref08_more_m7_M::ref08_more_C.mus,ref08_more_C.its⟩
theorem kkV:Good Try.prog 83 kiN:=(ref08_more_C_ok.more kjl)
def ref08_got_m8_M:CtrM:=⟨ "",[none,some (.i .i64),some (.i .i64)],⟨[(0,.ag [.mw 0,.fw 1,.mw 2])],[(0,.sl 80 (.sl .b)),(1,.fm 26 (.sl (.i .i64)) 0 3 (.i .i64)),(2,.sl 3 (.i .i64))]⟩,3,⟨[(1000000,.c (.i .i64))],[(0,.sl 80 (.sl .b)),(1,.fm 26 (.sl (.i .i64)) 0 3 (.i .i64)),(2,.sl 3 (.i .i64))]⟩,3,1,fun x=>kfe x.1 x.2.1 x.2.2.1 x.2.2.2.1 x.2.2.2.2,false⟩
theorem kka:ref08_got_m8_M.ok=true∧GoodM Try.prog 34 ref08_got_m8_M:=
 kcM Try.func34 (by kernel_rfl) (An:=[(0,⟨⟨[(7,.c (.i .i64)),(3,.ptr 3 0)],[(3,.bx 88 [.mw 0,.fw 1,.mw 2]),(0,.sl 80 (.sl .b)),(1,.fm 26 (.sl (.i .i64)) 0 3 (.i .i64)),(2,.sl 3 (.i .i64))]⟩,⟨[(7,.c (.i .i64))],[(1,.fm 26 (.sl (.i .i64)) 0 3 (.i .i64)),(0,.sl 80 (.sl .b)),(2,.sl 3 (.i .i64))]⟩,[2,1],[],7,false,""⟩)]) [(83,kiN)] (.cons kkV <| .nil) (fun x=>by kernel_rfl)
def ref08_got_C:Ctr:=⟨ "",[],[],fun _=>none,[],[]⟩
theorem ref08_got_C_ok:Good Try.prog 34 ref08_got_C:=good_dm
def kjD:Ctr:=⟨ "",ref08_got_C.as,ref08_got_C.rs,ref08_got_C.F,ref08_got_m8_M::ref08_got_C.mus,ref08_got_C.its⟩
theorem klo:Good Try.prog 34 kjD:=(ref08_got_C_ok.more kka)
def kjR:Ctr:=⟨ "",[(.sl (.pr (.i .i64) (.pr (.i .u8) (.i .i64)))),(.sl (.pr (.i .i64) (.pr (.i .u8) (.i .i64)))),(.sl tSwap)],[kqu,(.i .i64)],fun x=>kgk x.1 x.2.1 x.2.2,[],[]⟩
theorem klQ:Good Try.prog 9 kjR:=
 kaj Try.func9 (by kernel_rfl) (An:=[(0,⟨⟨[(12,.c (.i .i64)),(9,.ptr 8 0),(10,.c (.i .i64)),(11,.mw 9)],[(8,.bx 88 [.mw 2,.fw 3,.mw 4]),(2,.sl 80 (.sl .b)),(3,.fm 26 (.sl (.i .i64)) 0 3 (.i .i64)),(4,.sl 3 (.i .i64)),(9,.sl 4 .b)]⟩,⟨[(10,.c (.i .i64)),(9,.ptr 10 0),(11,.mw 14)],[(10,.bx 88 [.mw 11,.fw 12,.mw 13]),(11,.sl 80 (.sl .b)),(12,.fm 26 (.sl (.i .i64)) 0 3 (.i .i64)),(13,.sl 3 (.i .i64)),(14,.sl 4 .b)]⟩,[1,6],[1,0],15,false,""⟩)]) [(35,kij),(33,khW),(34,kjD),(32,kfX)] (.cons kjY <| .cons kkg <| .cons klo <| .cons khe <| .nil) (fun x=>by kernel_rfl)
def kdP:Ctr:=⟨ "",[(.sl (.i .i64)),(.i .i64)],[(.i .i64)],fun x=>kcI x.1 x.2,[],[]⟩
theorem kfR:Good Try.prog 84 kdP:=
 kaj Try.func84 (by kernel_rfl) (An:=[(0,⟨⟨[(8,.c (.i .i64))],[]⟩,⟨[],[]⟩,[7,1,0],[],0,true,""⟩)]) [] (.nil) (fun x=>by kernel_rfl)
def kde:Ctr:=⟨ "",[(.sl (.i .i64)),(.i .i64)],[.b],fun x=>kaT x.1 x.2,[],[]⟩
theorem kff:Good Try.prog 37 kde:=
 kaj Try.func37 (by kernel_rfl) (An:=[]) [(84,kdP)] (.cons kfR <| .nil) (fun x=>by kernel_rfl)
def khi:Ctr:=⟨ "",[(.sl (.pr (.i .i64) (.pr (.i .u8) (.i .i64)))),(.sl (.pr (.i .i64) (.pr (.i .u8) (.i .i64)))),(.sl tSwap),(.sl (.pr (.i .i64) (.pr (.i .i64) (.i .i64))))],[(.i .i64),(.i .i64)],fun x=>keD x.1 x.2.1 x.2.2.1 x.2.2.2,[],[]⟩
theorem kja:Good Try.prog 10 khi:=
 kaj Try.func10 (by kernel_rfl) (An:=[(0,⟨⟨[(33,.c (.i .i64)),(13,.mw 0)],[(0,.sl 3 (.i .i64))]⟩,⟨[(13,.mw 1)],[(1,.sl 3 (.i .i64))]⟩,[32,31,3,1,0,10,12],[],2,false,""⟩),(8,⟨⟨[(46,.c (.i .i64)),(12,.c (.i .i64))],[]⟩,⟨[(12,.c (.i .i64))],[]⟩,[45,44,1,0,10,13,3],[1],2,true,""⟩),(0,⟨⟨[(33,.c (.i .i64)),(13,.mw 4)],[(4,.sl 3 (.i .i64))]⟩,⟨[(13,.mw 5)],[(5,.sl 3 (.i .i64))]⟩,[32,31,3,1,0,10,12],[0,1,2,3],6,false,""⟩),(8,⟨⟨[(46,.c (.i .i64)),(10,.ptr 0 0),(13,.mw 5),(12,.c (.i .i64))],[(0,.bx 97 [.c (.sl (.pr (.i .i64) (.pr (.i .u8) (.i .i64)))),.mw 1,.fw 2,.mw 3]),(3,.sl 3 (.i .i64)),(5,.sl 3 (.i .i64))]⟩,⟨[(12,.c (.i .i64))],[]⟩,[45,44,1,0,3],[1,2],6,true,""⟩),(62,⟨⟨[],[]⟩,⟨[(125,.c .b)],[]⟩,[16,17,13,10,12,46],[6,5,0,3],7,false,""⟩)]) [(29,kgN),(37,kde),(38,kgA),(39,kei),(36,kgj)] (.cons khr <| .cons kff <| .cons khm <| .cons keS <| .cons kga <| .nil) (fun x=>by kernel_rfl)
def khl:Ctr:=⟨ "",[(.sl (.pr (.i .i64) (.pr (.i .u8) (.i .i64)))),(.sl (.pr (.i .i64) (.pr (.i .u8) (.i .i64)))),(.sl tSwap),(.sl (.pr (.i .i64) (.pr (.i .i64) (.i .i64))))],[.b],fun x=>kez x.1 x.2.1 x.2.2.1 x.2.2.2,[],[]⟩
theorem kjp:Good Try.prog 40 khl:=
 kaj Try.func40 (by kernel_rfl) (An:=[(6,⟨⟨[],[]⟩,⟨[(9,.mw 0),(10,.mw 1)],[(0,.sl 3 (.i .i64)),(1,.sl 3 (.i .i64))]⟩,[1,0,3,2],[],2,false,""⟩),(0,⟨⟨[(11,.c (.i .i64)),(9,.mw 0),(10,.mw 1)],[(0,.sl 3 (.i .i64)),(1,.sl 3 (.i .i64))]⟩,⟨[],[]⟩,[3,1,0,2],[],2,true,""⟩),(34,⟨⟨[],[]⟩,⟨[(85,.c .b)],[]⟩,[11,12,9,10],[2,0,1],3,false,""⟩)]) [(82,kfK),(78,kcX)] (.cons kfD <| .cons kcS <| .nil) (fun x=>by kernel_rfl)
def kgf:Ctr:=⟨ "",[(.sl (.pr (.i .i64) (.pr (.i .u8) (.i .i64)))),(.sl (.pr (.i .i64) (.pr (.i .u8) (.i .i64)))),(.sl tSwap),(.sl (.pr (.i .i64) (.pr (.i .i64) (.i .i64))))],[(.i .i64),(.i .i64)],fun x=>kdy x.1 x.2.1 x.2.2.1 x.2.2.2,[],[]⟩
theorem kiE:Good Try.prog 11 kgf:=
 kaj Try.func11 (by kernel_rfl) (An:=[(0,⟨⟨[(12,.c (.i .i64)),(11,.c (.i .i64))],[]⟩,⟨[(11,.c (.i .i64))],[]⟩,[3],[],0,false,""⟩)]) [(40,khl),(32,kfX)] (.cons kjp <| .cons khe <| .nil) (fun x=>by kernel_rfl)
def kgG:Ctr:=⟨ "",[(.sl (.i .i64)),(.sl (.i .i64))],[.b],fun x=>kdV x.1 x.2,[],[]⟩
theorem kiT:Good Try.prog 14 kgG:=
 kaj Try.func14 (by kernel_rfl) (An:=[(0,⟨⟨[(5,.c (.i .i64))],[]⟩,⟨[],[]⟩,[0,1],[],0,true,""⟩)]) [] (.nil) (fun x=>by kernel_rfl)
def kkG:Ctr:=⟨ "",[(.sl (.pr (.i .i64) (.pr (.i .u8) (.i .i64)))),(.sl (.pr (.i .i64) (.pr (.i .u8) (.i .i64)))),(.sl tSwap),(.sl (.pr (.i .i64) (.pr (.i .i64) (.i .i64))))],[.b],fun x=>kfx x.1 x.2.1 x.2.2.1 x.2.2.2,[],[]⟩
theorem law08_BoxFills_C_ok:Good Try.prog 3 kkG:=
 kaj Try.func3 (by kernel_rfl) (An:=[]) [(14,kgG),(11,kgf),(10,khi),(9,kjR),(13,kdL),(8,klP),(12,kcp),(7,kjx)] (.cons kiT <| .cons kiE <| .cons kja <| .cons klQ <| .cons keO <| .cons knI <| .cons kcv <| .cons klI <| .nil) (fun x=>by kernel_rfl)
end Go.Abs
namespace Go.Abs
open Go
abbrev It:=Int×Int×Int
def vP (x:It):Bool:=decide (0≤x.1)&&decide (x.1≤15)&&decide (x.2.1≤15)
def ltI (x y:It):Bool:=decide (x.1<y.1)||(x.1==y.1&&decide (x.2.1<y.2.1))
def okN (x:It):Bool:=decide (1≤x.2.2)&&decide (x.2.2≤1000)
def badI (l:List It) (i:Nat) (x:It):Bool:=!vP x||(decide (0<i)&&!ltI ((l[i-1]?).getD x) x)
def ordI (a b:Int×Int):Int:=if a.1<b.1 then -1 else if b.1<a.1 then 1 else if a.2<b.2 then -1 else if b.2<a.2 then 1 else 0
def stk (l:List It):Bool:=decide (l.length≤30)&&!(l.zipIdx.any fun x=>badI l x.2 x.1)&&l.all okN
@[simp] theorem kdx (n lo hi:Int):kbh n lo hi=some (decide (lo≤n)&&decide (n≤hi)):=by
 unfold kbh; by_cases h:lo≤n <;> simp [h]
@[simp] theorem kpS (lo hi n:Int):kcm lo hi n=some (decide (lo≤n)&&decide (n≤hi)):=by
 unfold kcm; by_cases h:lo≤n <;> simp [h]
@[simp] theorem kgi (x:It):kbK (x.1,x.2.1)=some (vP x):=by
 unfold kbK vP
 by_cases h1:0≤x.1 <;> by_cases h2:x.1≤15 <;> simp [h1,h2]
@[simp] theorem khn (x:It):kcn x.1 x.2.1=some (vP x):=by
 unfold kcn vP
 by_cases h1:0≤x.1 <;> by_cases h2:x.1≤15 <;> simp [h1,h2]
@[simp] theorem klq (x y:It):kdM x.1 x.2.1 y.1 y.2.1=some (ltI x y):=by
 unfold kdM ltI
 by_cases h1:x.1<y.1
 ·simp [h1]
 ·by_cases h2:x.1=y.1 <;> simp [h1,h2]
def cmpI (a b:Int):Int:=if a<b then -1 else if b<a then 1 else 0
@[simp] theorem kls (a b:Int):kbf a b=some (cmpI a b):=by
 unfold kbf keC cmpI
 by_cases h1:a<b <;> by_cases h2:b<a <;> simp [h1,h2]
@[simp] theorem krQ (a b:Int):kcN a b=some (cmpI a b):=by
 unfold kcN kdz cmpI
 by_cases h1:a<b <;> by_cases h2:b<a <;> simp [h1,h2]
@[simp] theorem kny (a b:Int):kdW [a,b]=some (if a≠0 then a else b):=by
 unfold kdW
 rw [kcD (F:=keG [a,b]) [a,b] (by simp) (fun i x=>if x != 0 then some x else none) (fun i hi=>by
  unfold keG
  have h2:i<2:=by simpa using hi
  rw [if_pos (by rw [kag]; simp; omega),kao hi,kal (by omega)]
  simp only [Option.bind_some]
  by_cases h:([a,b][i] != 0)=true <;> simp [h,nextL]) (by unfold keG; rw [if_neg (by simp [kag])])]
 simp only [List.zipIdx_cons,List.zipIdx_nil,List.findSome?_cons,List.findSome?_nil]
 by_cases ha:a=0
 ·by_cases hb:b=0 <;> simp [ha,hb,endL]
 ·simp [ha,endL]
theorem kol (a b:Int×Int):khq a b=some (ordI a b):=by
 unfold khq ordI
 simp only [kls,krQ,Option.bind_some,kny,cmpI]
 by_cases h1:a.1<b.1
 ·simp [h1]
 ·by_cases h2:b.1<a.1 <;> simp [h1,h2]
theorem ktq (x y:It):decide (0≤ordI (x.1,x.2.1) (y.1,y.2.1)) = !ltI x y:=by
 unfold ordI ltI
 by_cases h1:x.1<y.1
 ·simp [h1]
 ·by_cases h2:y.1<x.1
  ·simp [h1,h2]; omega
  ·have h3:x.1=y.1:=by omega
   by_cases h4:x.2.1<y.2.1
   ·simp [h1,h2,h3,h4]
   ·by_cases h5:y.2.1<x.2.1 <;> simp [h1,h2,h3,h4,h5]
theorem kui {α:Type} (p q:α→Bool) (l:List α):(l.any fun x=>p x||q x)=(l.any p||l.any q):=by
 induction l with
 | nil=>rfl
 | cons x l ih=>simp only [List.any_cons,ih]; cases p x <;> cases q x <;> simp
theorem kqP {α:Type} (q:α→Bool):∀ (l:List α) (k:Nat),((l.zipIdx k).any fun x=>q x.1)=l.any q
 | [],k=>rfl
 | x::l,k=>by rw [List.zipIdx_cons,List.any_cons,List.any_cons,kqP q l (k+1)]
theorem knb {l:List It} {i:Nat} (hi:i<l.length) (x:It):(l[i-1]?).getD x=l[i-1]:=by rw [List.getElem?_eq_getElem (by omega)]; rfl
theorem kmL (l:List It) (hl:l.length≤1000):kcb l 30 (fun u=>(kbx u).bind fun v=>some v)=some (!(l.zipIdx.any fun x=>badI l x.2 x.1)&&decide (l.length≤30)):=by
 unfold kcb
 rw [kfO (F:=kbD l _) false l (by omega) (badI l) (fun i hi=>?_) (by unfold kbD; rw [if_neg (by simp [kag])])]
 ·by_cases h:(l.zipIdx.any fun x=>badI l x.2 x.1)=true
  rotate_left
  ·rw [Bool.not_eq_true] at h
   simp only [h,Bool.false_eq_true,if_false,Option.bind_some,Bool.not_false,Bool.true_and,kag]
   congr 2; simp only [eq_iff_iff]; omega
  ·simp [h]
 ·unfold kbD
  rw [if_pos (by rw [kag]; simpa using hi),kao hi,kal (by omega)]
  simp only [Option.bind_some,kbx,kgi,badI]
  by_cases hv:vP l[i]=true
  rotate_left
  ·rw [Bool.not_eq_true] at hv; simp [hv]
  ·simp only [hv,Bool.not_true,Bool.false_eq_true,if_false,Bool.false_or]
   by_cases h0:0<i
   ·rw [if_pos (by simpa using h0),kni h0 (by omega),kao (by omega)]
    simp only [Option.bind_some,kol,ktq,knb hi,h0,decide_true,Bool.true_and]
    by_cases h9:ltI l[i-1] l[i]=true <;> simp [h9]
   ·have:i=0:=by omega
    subst this; simp
theorem kqM {α:Type} (p:α→Bool) (l:List α):(l.any fun x=>!p x) = !l.all p:=by
 induction l with
 | nil=>rfl
 | cons x l ih=>simp only [List.any_cons,List.all_cons,ih,Bool.not_and]
theorem kql (l:List It) (hl:l.length≤1000) (p:It→Bool):kay l (fun x=>some (p x))=some (l.any p):=by
 unfold kay kaY
 rw [kcD (F:=kaA l _) l (by omega) (fun i x=>if p x then some (i:Int) else none) (fun i hi=>by
  unfold kaA
  rw [if_pos (by rw [kag]; simpa using hi),kao hi,kal (by omega)]
  simp only [Option.bind_some]
  by_cases h:p l[i]=true <;> simp [h,nextL]) (by unfold kaA; rw [if_neg (by simp [kag])])]
 have:∀ (l:List It) (k:Nat),endL ((l.zipIdx k).findSome? fun x=>if p x.1 then some (x.2:Int) else none)=(if l.any p then .inl ((k:Int)+(l.findIdx p:Nat)) else .inr ()):=by
  intro l
  induction l with
  | nil=>intro k; rfl
  | cons x l ih=>
   intro k
   rw [List.zipIdx_cons,List.findSome?_cons,List.any_cons,List.findIdx_cons]
   cases hp:p x with
   | true=>simp [endL]
   | false=>
    simp only [Bool.false_eq_true,if_false,Bool.false_or,cond_false]
    rw [ih (k+1)]
    congr 2; push_cast; omega
 rw [this l 0]
 by_cases h:l.any p=true <;> simp [h]
theorem knY (l:List It) (hl:l.length≤1000):khy l=some (if stk l then 0 else 8):=by
 unfold khy
 rw [kmL l hl]
 have e:(fun u0:It=>(kfi u0).bind fun u1=>some u1)=fun u=>some (!okN u):=by
  funext u; simp [kfi,okN]
 rw [e,kql l hl,kqM]
 simp only [Option.bind_some,stk]
 by_cases h1:(l.zipIdx.any fun x=>badI l x.2 x.1)=true <;> by_cases h2:l.length≤30 <;> by_cases h3:l.all okN=true <;> (try rw [Bool.not_eq_true] at h1) <;> (try rw [Bool.not_eq_true] at h3) <;> simp only [h1,h2,h3] <;> rfl
theorem khO (l:List It):keq l=some (stk l):=by
 unfold keq stk
 rw [kag]
 by_cases hl:(30:Int)<l.length
 ·rw [if_pos (by simpa using hl)]
  have:¬ l.length≤30:=by omega
  simp [this]
 ·rw [if_neg (by simpa using hl)]
  have h30:l.length≤30:=by omega
  rw [kfO (F:=kdY l) false l (by omega) (fun i x=>badI l i x||!okN x) (fun i hi=>?_) (by unfold kdY; rw [if_neg (by simp [kag])])]
  ·rw [kui (fun x:It×Nat=>badI l x.2 x.1) (fun x=>!okN x.1),kqP (fun x=>!okN x),kqM]
   by_cases h1:(l.zipIdx.any fun x=>badI l x.2 x.1)=true <;> by_cases h2:l.all okN=true <;> simp [h30,h1,h2]
  ·unfold kdY
   rw [if_pos (by rw [kag]; simpa using hi),kao hi,kal (by omega)]
   simp only [Option.bind_some,khn,badI,kdx]
   rw [show (decide (1≤l[i].2.2)&&decide (l[i].2.2≤1000))=okN l[i] from rfl]
   by_cases hv:vP l[i]=true
   rotate_left
   ·rw [Bool.not_eq_true] at hv; simp [hv]
   ·by_cases hn:okN l[i]=true
    rotate_left
    ·rw [Bool.not_eq_true] at hn; simp [hv,hn]
    ·simp only [hv,hn,Bool.not_true,Bool.false_eq_true,if_false,Bool.false_or,Bool.or_false]
     by_cases h0:0<i
     ·rw [if_pos (by simpa using h0),kni h0 (by omega),kao (by omega)]
      simp only [Option.bind_some,knb hi,h0,decide_true,Bool.true_and]
      rw [show kdM l[i-1].1 l[i-1].2.1 l[i].1 l[i].2.1=_ from klq l[i-1] l[i]]
      simp only [Option.bind_some]
      by_cases h9:ltI l[i-1] l[i]=true <;> simp [h9]
     ·have:i=0:=by omega
      subst this; simp
end Go.Abs
namespace Go.Abs.Fl
open Go Go.Abs
def sumN (f:Nat→Int):Nat→Int
 | 0=>0
 | n+1=>sumN f n+f n
theorem kaE {f g:Nat→Int}:∀ {n:Nat},(∀ i,i<n→f i=g i)→sumN f n=sumN g n
 | 0,_=>rfl
 | n+1,h=>by simp only [sumN]; rw [kaE fun i hi=>h i (by omega),h n (by omega)]
theorem kds {f:Nat→Int}:∀ {n:Nat},(∀ i,i<n→0≤f i)→0≤sumN f n
 | 0,_=>Int.le_refl 0
 | n+1,h=>by
  have:=kds (f:=f) (n:=n) fun i hi=>h i (by omega)
  have:=h n (by omega)
  simp only [sumN]; omega
theorem klB {f:Nat→Int}:∀ {n:Nat},(∀ i,i<n→0≤f i)→sumN f n≤0→∀ i,i<n→f i=0
 | 0,_,_,i,hi=>by omega
 | n+1,h,e,i,hi=>by
  have h1:=kds (f:=f) (n:=n) fun i hi=>h i (by omega)
  have h2:=h n (by omega)
  simp only [sumN] at e
  by_cases hn:i=n
  ·subst hn; show f i=0; omega
  ·exact klB (f:=f) (n:=n) (fun i hi=>h i (by omega)) (by omega) i (by omega)
theorem klj (f g:Nat→Int):∀ n:Nat,sumN (fun i=>f i+g i) n=sumN f n+sumN g n
 | 0=>rfl
 | n+1=>by simp only [sumN]; rw [klj f g n]; omega
theorem kla (f g:Nat→Int):∀ n:Nat,sumN (fun i=>f i-g i) n=sumN f n-sumN g n
 | 0=>rfl
 | n+1=>by simp only [sumN]; rw [kla f g n]; omega
theorem khX:∀ n:Nat,sumN (fun _=>0) n=0
 | 0=>rfl
 | n+1=>by simp only [sumN]; rw [khX n]; rfl
theorem knh (f:Nat→Nat→Int) (m:Nat):∀ n:Nat,sumN (fun i=>sumN (f i) m) n=sumN (fun j=>sumN (fun i=>f i j) n) m
 | 0=>by simp only [sumN]; rw [khX]
 | n+1=>by simp only [sumN]; rw [knh f m n,←klj]
theorem ksA (b:Bool) (f:Nat→Int) (n:Nat):(if b=true then sumN f n else 0)=sumN (fun i=>if b=true then f i else 0) n:=by
 cases b
 ·simp [khX]
 ·simp
theorem keK {f g:Nat→Int} {i:Nat} {d:Int} (h:g i=f i+d):∀ {n:Nat},i<n→(∀ j,j<n→j≠i→g j=f j)→sumN g n=sumN f n+d
 | 0,hi,_=>by omega
 | n+1,hi,ho=>by
  simp only [sumN]
  by_cases e:i=n
  ·subst e
   rw [kaE (f:=g) (g:=f) fun j hj=>ho j (by omega) (by omega),h]; omega
  ·rw [keK h (n:=n) (by omega) fun j hj hn=>ho j (by omega) hn,ho n (by omega) (by omega)]; omega
theorem koy {f:Nat→Int}:∀ {n:Nat},(∀ i,i<n→0≤f i)→∀ {i:Nat},i<n→f i≤sumN f n
 | 0,_,i,hi=>by omega
 | n+1,h,i,hi=>by
  have h1:=kds (f:=f) (n:=n) fun i hi=>h i (by omega)
  have h2:=h n (by omega)
  simp only [sumN]
  by_cases hn:i=n
  ·subst hn; omega
  ·have:=koy (fun i hi=>h i (by omega)) (n:=n) (i:=i) (by omega); omega
section
variable (n m:Nat) (cap:Nat→Int) (may:Nat→Nat→Prop)
structure Val (u:Nat→Nat→Int) (l:Nat→Int):Prop where
 nn:∀ k,k<n→∀ j,j<m→0≤u k j
 ok:∀ k,k<n→∀ j,j<m→0<u k j→may k j
 ln:∀ j,j<m→0≤l j
 bal:∀ j,j<m→l j+sumN (fun k=>u k j) n=cap j
structure Sat (u:Nat→Nat→Int) (l:Nat→Int) (S:Nat→Bool):Prop where
 z:∀ k,k<n→S k=true→∀ j,j<m→may k j→l j=0
 c:∀ k,k<n→S k=true→∀ j,j<m→may k j→∀ k',k'<n→0<u k' j→S k'=true
end
def row (m:Nat) (u:Nat→Nat→Int) (k:Nat):Int:=sumN (u k) m
variable {n m:Nat} {cap:Nat→Int} {may:Nat→Nat→Prop} {u u':Nat→Nat→Int} {l l':Nat→Int} {S T:Nat→Bool}
theorem kqL (v:Val n m cap may u l) (hT:∀ k,k<n→S k=true→∀ j,j<m→may k j→T j=true) :
  sumN (fun k=>if S k=true then row m u k else 0) n=sumN (fun j=>if T j=true then sumN (fun k=>if S k=true then u k j else 0) n else 0) m:=by
 rw [kaE (f:=fun k=>if S k=true then row m u k else 0) (g:=fun k=>sumN (fun j=>if S k=true then u k j else 0) m) fun k hk=>ksA (S k) (u k) m]
 rw [knh]
 apply kaE
 intro j hj
 by_cases t:T j=true
 ·rw [if_pos t]
 ·rw [if_neg t,kaE (g:=fun _=>0) fun k hk=>?_,khX]
  by_cases s:S k=true
  ·rw [if_pos s]
   by_cases hp:0<u k j
   ·exact absurd (hT k hk s j hj (v.ok k hk j hj hp)) t
   ·have:=v.nn k hk j hj; omega
  ·rw [if_neg s]
theorem kkF (v:Val n m cap may u l) (v':Val n m cap may u' l') (s:Sat n m may u l S) (h:∀ k,k<n→S k=true→row m u k≤row m u' k) :
  Sat n m may u' l' S∧∀ k,k<n→S k=true→row m u k=row m u' k:=by
 classical
 obtain ⟨T,hT⟩:∃ T:Nat→Bool,∀ j,T j=true↔∃ k,k<n∧S k=true∧may k j:=⟨fun j=>decide (∃ k,k<n∧S k=true∧may k j),fun j=>by simp⟩
 have hT1:∀ k,k<n→S k=true→∀ j,j<m→may k j→T j=true:=fun k hk hs j _ hm=>(hT j).2 ⟨k,hk,hs,hm⟩
 have e1:=kqL v hT1
 have e2:=kqL v' hT1
 have e3:sumN (fun j=>if T j=true then sumN (fun k=>if S k=true then u k j else 0) n else 0) m=sumN (fun j=>if T j=true then cap j else 0) m:=by
  apply kaE
  intro j hj
  by_cases t:T j=true
  ·rw [if_pos t,if_pos t]
   obtain ⟨k,hk,hs,hm⟩:=(hT j).1 t
   rw [←v.bal j hj,s.z k hk hs j hj hm,Int.zero_add]
   apply kaE
   intro k' hk'
   by_cases s':S k'=true
   ·rw [if_pos s']
   ·rw [if_neg s']
    by_cases hp:0<u k' j
    ·exact absurd (s.c k hk hs j hj hm k' hk' hp) s'
    ·have:=v.nn k' hk' j hj; omega
  ·rw [if_neg t,if_neg t]
 have e4:sumN (fun j=>if T j=true then sumN (fun k=>if S k=true then u' k j else 0) n else 0) m
   = sumN (fun j=>if T j=true then cap j else 0) m-sumN (fun j=>if T j=true then l' j+sumN (fun k=>if S k=true then 0 else u' k j) n else 0) m:=by
  rw [←kla]
  apply kaE
  intro j hj
  by_cases t:T j=true
  ·simp only [if_pos t]
   rw [←v'.bal j hj]
   have:sumN (fun k=>u' k j) n=sumN (fun k=>if S k=true then u' k j else 0) n+sumN (fun k=>if S k=true then 0 else u' k j) n:=by
    rw [←klj]
    apply kaE
    intro k hk
    by_cases s':S k=true
    ·simp [s']
    ·simp [s']
   omega
  ·simp only [if_neg t]; rfl
 have nB:∀ j,j<m→0≤(if T j=true then l' j+sumN (fun k=>if S k=true then 0 else u' k j) n else 0):=by
  intro j hj
  split
  ·have h1:=v'.ln j hj
   have h2:=kds (f:=fun k=>if S k=true then 0 else u' k j) (n:=n) fun k hk=>by
    show 0≤if S k=true then 0 else u' k j
    split
    ·omega
    ·exact v'.nn k hk j hj
   omega
  ·omega
 have nA:∀ k,k<n→0≤(if S k=true then row m u' k else 0)-(if S k=true then row m u k else 0):=by
  intro k hk
  by_cases s':S k=true
  ·simp only [if_pos s']; have:=h k hk s'; omega
  ·simp only [if_neg s']; omega
 have sA:=kds nA
 have sB:=kds nB
 have e5:=kla (fun k=>if S k=true then row m u' k else 0) (fun k=>if S k=true then row m u k else 0) n
 have zA:=klB nA (by omega)
 have zB:=klB nB (by omega)
 refine ⟨⟨?_,?_⟩,?_⟩
 ·intro k hk hs j hj hm
  have:=zB j hj
  rw [if_pos (hT1 k hk hs j hj hm)] at this
  have h1:=v'.ln j hj
  have h2:=kds (f:=fun k=>if S k=true then 0 else u' k j) (n:=n) fun k hk=>by
   show 0≤if S k=true then 0 else u' k j
   split
   ·omega
   ·exact v'.nn k hk j hj
  omega
 ·intro k hk hs j hj hm k' hk' hp
  have:=zB j hj
  rw [if_pos (hT1 k hk hs j hj hm)] at this
  have h1:=v'.ln j hj
  have h3:∀ k,k<n→0≤(fun k=>if S k=true then 0 else u' k j) k:=fun k hk=>by
   show 0≤if S k=true then 0 else u' k j
   split
   ·omega
   ·exact v'.nn k hk j hj
  have h2:=kds h3
  have h4:=klB h3 (by omega) k' hk'
  by_cases s':S k'=true
  ·exact s'
  ·simp only [if_neg s'] at h4; omega
 ·intro k hk hs
  have:=zA k hk
  simp only [if_pos hs] at this; omega
theorem ktg (v:Val n m cap may u l) (v':Val n m cap may u' l') (s:Sat n m may u l S) {i:Nat} (hi:i<n) (hs:S i=true) (h:∀ k,k<n→k≠i→row m u k≤row m u' k):row m u' i≤row m u i:=by
 by_cases c:row m u' i≤row m u i
 ·exact c
 ·have:=(kkF v v' s fun k hk hS=>by
   by_cases e:k=i
   ·subst e; omega
   ·exact h k hk e).2 i hi hs
  omega
theorem Val.take (v:Val n m cap may u l) {i j:Nat} {d:Int} (hi:i<n) (hj:j<m) (hm:may i j) (hd:0≤d) (hl:d≤l j)
  (h1:l' j=l j-d) (h2:u' i j=u i j+d) (h3:∀ j',j'<m→j'≠j→l' j'=l j') (h4:∀ k,k<n→∀ j',j'<m→¬ (k=i∧j'=j)→u' k j'=u k j') :
  Val n m cap may u' l'∧row m u' i=row m u i+d∧∀ k,k<n→k≠i→row m u' k=row m u k:=by
 refine ⟨⟨?_,?_,?_,?_⟩,?_,?_⟩
 ·intro k hk j' hj'
  by_cases e:k=i∧j'=j
  ·obtain ⟨rfl,rfl⟩:=e; rw [h2]; have:=v.nn k hk j' hj'; omega
  ·rw [h4 k hk j' hj' e]; exact v.nn k hk j' hj'
 ·intro k hk j' hj' hp
  by_cases e:k=i∧j'=j
  ·obtain ⟨rfl,rfl⟩:=e; exact hm
  ·rw [h4 k hk j' hj' e] at hp; exact v.ok k hk j' hj' hp
 ·intro j' hj'
  by_cases e:j'=j
  ·subst e; omega
  ·rw [h3 j' hj' e]; exact v.ln j' hj'
 ·intro j' hj'
  by_cases e:j'=j
  ·subst e
   rw [←v.bal j' hj',h1,keK (f:=fun k=>u k j') (g:=fun k=>u' k j') (i:=i) (d:=d) h2 hi fun k hk hn=>h4 k hk j' hj' (by omega)]; omega
  ·rw [←v.bal j' hj',h3 j' hj' e,kaE fun k hk=>h4 k hk j' hj' (by omega)]
 ·exact keK h2 hj fun j' hj' hn=>h4 i hi j' hj' (by omega)
 ·intro k hk hn
  exact kaE fun j' hj'=>h4 k hk j' hj' (by omega)
theorem Val.swap (v:Val n m cap may u l) {i k j:Nat} {d:Int} (hi:i<n) (hk:k<n) (hj:j<m) (hm:may i j) (hd:0≤d) (hl:d≤u k j) (ne:k≠i)
  (h1:u' k j=u k j-d) (h2:u' i j=u i j+d) (h4:∀ k',k'<n→∀ j',j'<m→¬ (k'=i∧j'=j)→¬ (k'=k∧j'=j)→u' k' j'=u k' j') :
  Val n m cap may u' l∧row m u' i=row m u i+d∧row m u' k=row m u k-d∧∀ k',k'<n→k'≠i→k'≠k→row m u' k'=row m u k':=by
 refine ⟨⟨?_,?_,v.ln,?_⟩,?_,?_,?_⟩
 ·intro a ha j' hj'
  by_cases e:a=i∧j'=j
  ·obtain ⟨rfl,rfl⟩:=e; rw [h2]; have:=v.nn a ha j' hj'; omega
  ·by_cases e2:a=k∧j'=j
   ·obtain ⟨rfl,rfl⟩:=e2; rw [h1]; omega
   ·rw [h4 a ha j' hj' e e2]; exact v.nn a ha j' hj'
 ·intro a ha j' hj' hp
  by_cases e:a=i∧j'=j
  ·obtain ⟨rfl,rfl⟩:=e; exact hm
  ·by_cases e2:a=k∧j'=j
   ·obtain ⟨rfl,rfl⟩:=e2; exact v.ok a ha j' hj' (by omega)
   ·rw [h4 a ha j' hj' e e2] at hp; exact v.ok a ha j' hj' hp
 ·intro j' hj'
  by_cases e:j'=j
  ·subst e
   rw [←v.bal j' hj']
   let w:Nat→Int:=fun a=>if a=i then u i j'+d else u a j'
   have e1:sumN w n=sumN (fun a=>u a j') n+d:=keK (i:=i) (by simp [w]) hi fun a ha hn=>by simp [w,hn]
   have e2:sumN (fun a=>u' a j') n=sumN w n+(-d):=keK (i:=k) (by simp only [w,if_neg ne]; omega) hk fun a ha hn=>by
    by_cases ea:a=i
    ·subst ea; simp only [w,if_true]; exact h2
    ·simp only [w,if_neg ea]; exact h4 a ha j' hj' (by omega) (by omega)
   omega
  ·rw [←v.bal j' hj',kaE fun a ha=>h4 a ha j' hj' (by omega) (by omega)]
 ·exact keK h2 hj fun j' hj' hn=>h4 i hi j' hj' (by omega) (by omega)
 ·have:=keK (f:=u k) (g:=u' k) (i:=j) (d:=-d) (by omega) hj fun j' hj' hn=>h4 k hk j' hj' (by omega) (by omega)
  unfold row; omega
 ·intro a ha hn hn2
  exact kaE fun j' hj'=>h4 a ha j' hj' (by omega) (by omega)
inductive Rch (n m:Nat) (may:Nat→Nat→Prop) (u:Nat→Nat→Int) (L:Nat→Prop):Nat→Prop
 | base {i:Nat}:i<n→L i→Rch n m may u L i
 | step {i j k:Nat}:Rch n m may u L i→j<m→may i j→k<n→0<u k j→Rch n m may u L k
theorem Rch.lt {L:Nat→Prop} {i:Nat} (h:Rch n m may u L i):i<n:=by cases h <;> assumption
theorem kmW {L:Nat→Prop} (v:Val n m cap may u l) (v':Val n m cap may u' l') (h:∀ k,k<n→row m u k=row m u' k)
  (hs:∀ i,i<n→L i→∃ S,S i=true∧Sat n m may u l S) {i:Nat} (r:Rch n m may u' L i):Rch n m may u L i:=by
 classical
 obtain ⟨R,hR⟩:∃ R:Nat→Bool,∀ k,R k=true↔Rch n m may u L k:=⟨fun k=>decide (Rch n m may u L k),fun k=>by simp⟩
 have hz:∀ k,Rch n m may u L k→∃ S,S k=true∧Sat n m may u l S:=by
  intro k hk
  induction hk with
  | base a b=>exact hs _ a b
  | step a b c d e ih=>
   obtain ⟨S,s1,s2⟩:=ih
   exact ⟨S,s2.c _ a.lt s1 _ b c _ d e,s2⟩
 have sR:Sat n m may u l R:=⟨fun k hk hs j hj hm=>by
   obtain ⟨S,s1,s2⟩:=hz k ((hR k).1 hs)
   exact s2.z k hk s1 j hj hm,fun k hk hs j hj hm k' hk' hp=>(hR k').2 (.step ((hR k).1 hs) hj hm hk' hp)⟩
 have sR':=(kkF v v' sR fun k hk _=>by rw [h k hk]; exact Int.le_refl _).1
 have:R i=true:=by
  induction r with
  | base a b=>exact (hR _).2 (.base a b)
  | step a b c d e ih=>exact sR'.c _ a.lt ih _ b c _ d e
 exact (hR i).1 this
end Go.Abs.Fl
namespace Go.Abs.Fl
open Go Go.Abs
theorem iter_inv {α β:Type} {F:α→Option (α⊕β)} (I:α→Prop) (m:α→Nat) (R:β→Prop)
  (h:∀ x,I x→(∃ z,F x=some (.inr z)∧R z)∨∃ y,F x=some (.inl y)∧I y∧m y<m x) (x:α) (hx:I x) (hm:m x<18446744073709551616):∃ z,iter F x=some z∧R z:=by
 have:∀ n x,I x→m x<n→∃ z,itN F n x=some z∧R z:=by
  intro n
  induction n with
  | zero=>intro x _ h0; omega
  | succ n ih=>
   intro x hx hm
   rcases h x hx with ⟨z,e,hz⟩ | ⟨y,e,hy,hlt⟩
   ·exact ⟨z,kcK e,hz⟩
   ·rw [kgM e]; exact ih y hy (by omega)
 obtain ⟨z,e,hz⟩:=this 18446744073709551616 x hx hm
 exact ⟨z,kfq e (Nat.le_refl _),hz⟩
def ua (U:List (List Int)) (k j:Nat):Int:=(U.getD k []).getD j 0
def la (L:List Int) (j:Nat):Int:=L.getD j 0
def sa (s:List Bool) (j:Nat):Bool:=s.getD j false
def upd (U:List (List Int)) (k j:Nat) (x:Int):List (List Int):=U.set k ((U.getD k []).set j x)
structure Shp (n m:Nat) (U:List (List Int)) (L:List Int):Prop where
 u:U.length=n
 r:∀ k,k<n→(U.getD k []).length=m
 l:L.length=m
theorem gi_D {α:Type} {l:List α} {i:Nat} (d:α) (h:i<l.length):gi l (i:Int)=some (l.getD i d):=by rw [kao h,List.getD_eq_getElem?_getD,List.getElem?_eq_getElem h]; rfl
section
variable {n m:Nat} {U:List (List Int)} {L:List Int} {k j:Nat} {x:Int}
theorem Shp.gu (h:Shp n m U L) (hk:k<n):gi U (k:Int)=some (U.getD k []):=gi_D [] (by rw [h.u]; exact hk)
theorem Shp.guj (h:Shp n m U L) (hk:k<n) (hj:j<m):gi (U.getD k []) (j:Int)=some (ua U k j):=gi_D 0 (by rw [h.r k hk]; exact hj)
theorem Shp.gl (h:Shp n m U L) (hj:j<m):gi L (j:Int)=some (la L j):=gi_D 0 (by rw [h.l]; exact hj)
theorem gs {s:List Bool} (hs:s.length=m) (hj:j<m):gi s (j:Int)=some (sa s j):=gi_D false (by omega)
theorem koH:lset U (k:Int) (lset (U.getD k []) (j:Int) x)=upd U k j x:=rfl
theorem getD_set {α:Type} {l:List α} {i j:Nat} {x d:α} (h:i<l.length):(l.set i x).getD j d=if j=i then x else l.getD j d:=by
 rw [List.getD_eq_getElem?_getD,List.getD_eq_getElem?_getD,List.getElem?_set]
 by_cases e:j=i
 ·subst e; simp [h]
 ·rw [if_neg (fun h=>e h.symm),if_neg e]
theorem Shp.upd (h:Shp n m U L) (hk:k<n) (hj:j<m):Shp n m (upd U k j x) L:=by
 refine ⟨by simp [Fl.upd,h.u],fun k' hk'=>?_,h.l⟩
 unfold Fl.upd
 rw [getD_set (by rw [h.u]; exact hk)]
 split
 ·rw [List.length_set]; exact h.r k hk
 ·exact h.r k' hk'
theorem Shp.ua_upd (h:Shp n m U L) (hk:k<n) (hj:j<m) (k' j':Nat):ua (Fl.upd U k j x) k' j'=if k'=k∧j'=j then x else ua U k' j':=by
 unfold ua Fl.upd
 rw [getD_set (by rw [h.u]; exact hk)]
 by_cases e:k'=k
 ·subst e
  rw [if_pos rfl,getD_set (by rw [h.r _ hk]; exact hj)]
  simp
 ·rw [if_neg e,if_neg (fun h=>e h.1)]
theorem Shp.setL (h:Shp n m U L):Shp n m U (L.set j x):=⟨h.u,h.r,by simp [h.l]⟩
theorem kfb (hj:j<L.length) (j':Nat):la (L.set j x) j'=if j'=j then x else la L j':=getD_set hj
theorem kdn {s:List Bool} (hj:j<s.length) (j':Nat):sa (s.set j true) j'=if j'=j then true else sa s j':=getD_set hj
end
def uns (s:List Bool):Nat:=s.countP (fun b=>!b)
theorem kii:∀ {s:List Bool} {j:Nat},j<s.length→sa s j=false→uns (s.set j true)+1=uns s
 | [],j,h,_=>by simp at h
 | b::s,0,_,h=>by
  have:b=false:=by simpa [sa] using h
  subst this
  simp [uns,List.countP_cons]
 | b::s,j+1,h,h2=>by
  have:=kii (s:=s) (j:=j) (by simpa using h) (by simpa [sa] using h2)
  simp only [uns,List.set_cons_succ,List.countP_cons] at this ⊢
  omega
theorem keL:∀ {s s':List Bool},s'.length=s.length→(∀ j,sa s j=true→sa s' j=true)→uns s'≤uns s
 | [],[],_,_=>Nat.le_refl _
 | [],_::_,h,_=>by simp at h
 | _::_,[],h,_=>by simp at h
 | b::s,b'::s',h,hm=>by
  have:=keL (s:=s) (s':=s') (by simpa using h) fun j hj=>by simpa [sa] using hm (j+1) (by simpa [sa] using hj)
  have h0:=hm 0
  simp only [sa,List.getD_cons_zero] at h0
  simp only [uns,List.countP_cons] at this ⊢
  cases b <;> cases b' <;> simp at h0 ⊢ <;> omega
section
variable (n m:Nat) (cap:Nat→Int) (may:Nat→Nat→Prop)
def Cl (U:List (List Int)) (L:List Int) (s s':List Bool):Prop:=
 ∀ j,j<m→sa s' j=true→sa s j=false→la L j=0∧∀ k,k<n→0<ua U k j→∀ j',j'<m→may k j'→sa s' j'=true
structure Post (i:Nat) (most:Int) (U:List (List Int)) (L:List Int) (s:List Bool) (r:Int) (U':List (List Int)) (L':List Int) (s':List Bool):Prop where
 sh:Shp n m U' L'
 sl:s'.length=m
 mono:∀ j,sa s j=true→sa s' j=true
 v:Val n m cap may (ua U') (la L')
 fr:∀ j,j<m→sa s j=true→la L' j=la L j∧∀ k,k<n→ua U' k j=ua U k j
 r0:0≤r
 r1:r≤most
 ri:row m (ua U') i=row m (ua U) i+r
 ro:∀ k,k<n→k≠i→row m (ua U') k=row m (ua U) k
 z:r=0→U'=U∧L'=L∧(∀ j,j<m→may i j→sa s' j=true)∧Cl n m may U L s s'
end
variable {n m:Nat} {cap:Nat→Int} {may:Nat→Nat→Prop} {U U':List (List Int)} {L L':List Int} {s s' s1 s2:List Bool} {i j k:Nat} {most r:Int}
theorem Cl.mono (h:Cl n m may U L s s1) (h2:∀ j,sa s1 j=true→sa s2 j=true):∀ j,j<m→sa s1 j=true→sa s j=false→la L j=0∧∀ k,k<n→0<ua U k j→∀ j',j'<m→may k j'→sa s2 j'=true:=
 fun j hj h1 h0=>⟨(h j hj h1 h0).1,fun k hk hp j' hj' hm=>h2 _ ((h j hj h1 h0).2 k hk hp j' hj' hm)⟩
theorem Cl.trans (h:Cl n m may U L s s1) (h':Cl n m may U L s1 s2) (h2:∀ j,sa s1 j=true→sa s2 j=true):Cl n m may U L s s2:=fun j hj h1 h0=>by
 cases e:sa s1 j with
 | true=>exact h.mono h2 j hj e h0
 | false=>exact h' j hj h1 e
theorem Val.le (v:Val n m cap may (ua U) (la L)) (hk:k<n) (hj:j<m):0≤ua U k j∧ua U k j≤cap j:=by
 have h1:=v.bal j hj
 have h2:=v.ln j hj
 have h3:=koy (f:=fun k=>ua U k j) (fun k hk=>v.nn k hk j hj) hk
 have h4:=v.nn k hk j hj
 omega
theorem Val.lle (v:Val n m cap may (ua U) (la L)) (hj:j<m):0≤la L j∧la L j≤cap j:=by
 have h1:=v.bal j hj
 have h2:=v.ln j hj
 have h3:=kds (f:=fun k=>ua U k j) (n:=n) (fun k hk=>v.nn k hk j hj)
 omega
theorem knk (sh:Shp n m U L) (v:Val n m cap may (ua U) (la L)) (hl:s1.length=m) (hs:∀ j,sa s j=true→sa s1 j=true) (hi:i<n) (hj:j<m) (hn:sa s1 j=false) (hm:may i j) {d:Int} (h0:0<d) (h1:d≤la L j) (h2:d≤most) :
  Post n m cap may i most U L s d (upd U i j (ua U i j+d)) (L.set j (la L j-d)) (s1.set j true):=by
 have hjs:sa s j=false:=by
  cases e:sa s j with
  | false=>rfl
  | true=>rw [hs j e] at hn; cases hn
 have hjl:j<L.length:=by rw [sh.l]; exact hj
 obtain ⟨a,b,c⟩:=v.take (u':=ua (upd U i j (ua U i j+d))) (l':=la (L.set j (la L j-d))) hi hj hm (by omega:(0:Int)≤d) h1 (by rw [kfb hjl,if_pos rfl]) (by rw [sh.ua_upd hi hj,if_pos ⟨rfl,rfl⟩])
  (fun j' _ hne=>by rw [kfb hjl,if_neg hne]) (fun k _ j' _ hne=>by rw [sh.ua_upd hi hj,if_neg hne])
 refine ⟨(sh.upd hi hj).setL,by simp [hl],fun j' hj'=>?_,a,fun j' hj' h=>?_,by omega,h2,b,c,fun e=>by omega⟩
 ·rw [kdn (by omega)]; split
  ·rfl
  ·exact hs j' hj'
 ·have hne:j'≠j:=by rintro rfl; rw [hjs] at h; cases h
  refine ⟨by rw [kfb hjl,if_neg hne],fun k hk=>by rw [sh.ua_upd hi hj,if_neg (fun h=>hne h.2)]⟩
theorem kln (hp:Post n m cap may k most U L s2 r U' L' s') (hi:i<n) (hk:k<n) (hj:j<m) (hjs:sa s j=false) (hj2:sa s2 j=true) (hs:∀ j,sa s j=true→sa s2 j=true) (hm:may i j) (h0:0<r) (h1:most≤ua U k j) {most':Int} (h2:most≤most') :
  Post n m cap may i most' U L s r (upd (upd U' k j (ua U' k j-r)) i j (ua (upd U' k j (ua U' k j-r)) i j+r)) L' s':=by
 have sh1:=hp.sh.upd hk hj (x:=ua U' k j-r)
 have hfr:∀ j',j'<m→sa s j'=true→la L' j'=la L j'∧∀ k',k'<n→ua (upd (upd U' k j (ua U' k j-r)) i j (ua (upd U' k j (ua U' k j-r)) i j+r)) k' j'=ua U k' j':=fun j' hj' h=>by
  have hne:j'≠j:=by rintro rfl; rw [hjs] at h; cases h
  obtain ⟨a,b⟩:=hp.fr j' hj' (hs j' h)
  exact ⟨a,fun k' hk'=>by rw [sh1.ua_upd hi hj,if_neg (fun h=>hne h.2),hp.sh.ua_upd hk hj,if_neg (fun h=>hne h.2)]; exact b k' hk'⟩
 have hcol:=(hp.fr j hj hj2).2 k hk
 have hr:=hp.r1
 by_cases e:k=i
 ·subst e
  have hu:∀ k' j',ua (upd (upd U' k j (ua U' k j-r)) k j (ua (upd U' k j (ua U' k j-r)) k j+r)) k' j'=ua U' k' j':=fun k' j'=>by
   rw [sh1.ua_upd hi hj,hp.sh.ua_upd hk hj,hp.sh.ua_upd hk hj]
   by_cases h:k'=k∧j'=j
   ·obtain ⟨rfl,rfl⟩:=h; simp
   ·rw [if_neg h,if_neg h]
  have hv:Val n m cap may (ua (upd (upd U' k j (ua U' k j-r)) k j (ua (upd U' k j (ua U' k j-r)) k j+r))) (la L'):=by
   rw [show ua (upd (upd U' k j (ua U' k j-r)) k j (ua (upd U' k j (ua U' k j-r)) k j+r))=ua U' from funext fun k'=>funext fun j'=>hu k' j']
   exact hp.v
  have hrow:∀ k',row m (ua (upd (upd U' k j (ua U' k j-r)) k j (ua (upd U' k j (ua U' k j-r)) k j+r))) k'=row m (ua U') k':=fun k'=>kaE fun j' _=>hu k' j'
  exact ⟨sh1.upd hi hj,hp.sl,fun j' h=>hp.mono j' (hs j' h),hv,hfr,by omega,by omega,by rw [hrow]; exact hp.ri,fun k' hk' hne=>by rw [hrow]; exact hp.ro k' hk' hne,fun e=>by omega⟩
 ·have hne:¬ (i=k∧j=j):=fun h=>e h.1.symm
  obtain ⟨a,b,c,d⟩:=hp.v.swap (u':=ua (upd (upd U' k j (ua U' k j-r)) i j (ua (upd U' k j (ua U' k j-r)) i j+r))) (i:=i) (k:=k) (j:=j) (d:=r) hi hk hj hm (by omega) (by omega) e
   (by rw [sh1.ua_upd hi hj,if_neg (fun h=>e h.1),hp.sh.ua_upd hk hj,if_pos ⟨rfl,rfl⟩]) (by rw [sh1.ua_upd hi hj,if_pos ⟨rfl,rfl⟩,hp.sh.ua_upd hk hj,if_neg hne])
   (fun k' hk' j' hj' g1 g2=>by rw [sh1.ua_upd hi hj,if_neg g1,hp.sh.ua_upd hk hj,if_neg g2])
  refine ⟨sh1.upd hi hj,hp.sl,fun j' h=>hp.mono j' (hs j' h),a,hfr,by omega,by omega,?_,fun k' hk' hne'=>?_,fun e=>by omega⟩
  ·rw [b,hp.ro i hi (fun h=>e h.symm)]
  ·by_cases e2:k'=k
   ·subst e2; rw [c,hp.ri]; omega
   ·rw [d k' hk' hne' e2,hp.ro k' hk' e2]
end Go.Abs.Fl
namespace Go.Abs.Fl
open Go Go.Abs
structure MayL (n m:Nat) (may:Nat→Nat→Prop) (M:List (List Int)):Prop where
 l:M.length=n
 s:∀ k,k<n→(M.getD k []).length≤1000
 a:∀ k,k<n→∀ x∈M.getD k [],∃ j,j<m∧x=(j:Int)∧may k j
 b:∀ k,k<n→∀ j,j<m→may k j→(j:Int)∈M.getD k []
theorem klL {a b:Int} (ha:0<a):imin a b≤a∧imin a b≤b∧(0<imin a b↔0<b):=by
 unfold imin; split <;> omega
variable {n m:Nat} {cap:Nat→Int} {may:Nat→Nat→Prop} {M:List (List Int)} {N:List (Int×Int×Int)}
theorem krB (hM:MayL n m may M) (hn:n≤1000) (hc:∀ j,j<m→cap j≤1000):∀ (fuel i:Nat) (most:Int) (U:List (List Int)) (L:List Int) (s:List Bool),i<n→0<most→Shp n m U L→s.length=m→Val n m cap may (ua U) (la L)→uns s<fuel→
  ∃ r U' L' s',kaM fuel (i:Int) most N M U L s=some (r,N,M,U',L',s')∧Post n m cap may i most U L s r U' L' s':=by
 intro fuel
 induction fuel with
 | zero=>intro i most U L s _ _ _ _ _ h; omega
 | succ fuel ih=>
  intro i most U L s hi hm0 sh hs v hf
  unfold kaM keQ
  have gM:gi M (i:Int)=some (M.getD i []):=gi_D [] (by rw [hM.l]; exact hi)
  generalize hJ:M.getD i []=J at gM
  have hJ1:∀ x∈J,∃ j,j<m∧x=(j:Int)∧may i j:=by rw [←hJ]; exact hM.a i hi
  have hJ2:∀ j,j<m→may i j→(j:Int)∈J:=by rw [←hJ]; exact hM.b i hi
  have hJl:J.length≤1000:=by rw [←hJ]; exact hM.s i hi
  simp only [gM,Option.bind_some]
  let Q:Nat→List Bool→Prop:=fun t s1=>s1.length=m∧(∀ j,sa s j=true→sa s1 j=true)∧(∀ (t':Nat) (x:Int),t'<t→J[t']?=some x→∀ j:Nat,x=(j:Int)→sa s1 j=true)∧Cl n m may U L s s1
  have key:=iter_inv (F:=kaI (kaM fuel) (i:Int) most J)
   (fun x=>∃ t s1,t≤J.length∧x=((t:Int),s1,N,M,U,L)∧Q t s1) (fun x=>J.length-x.1.toNat)
   (fun z=>(∃ r U' L' s',z = .inl (r,N,M,U',L',s')∧Post n m cap may i most U L s r U' L' s')∨∃ s1,z = .inr (s1,L,U,N,M)∧Q J.length s1)
   (fun x hx=>by
    obtain ⟨t,s1,ht,rfl,q1,q2,q3,q4⟩:=hx
    by_cases hlt:t<J.length
    ·obtain ⟨j,hj,hxj,hmj⟩:=hJ1 J[t] (List.getElem_mem hlt)
     have g1:gi J (t:Int)=some (j:Int):=by rw [kao hlt,hxj]
     have g2:gi s1 (j:Int)=some (sa s1 j):=gs q1 hj
     have g3:=sh.gl hj
     have g4:=sh.gu hi
     have g5:=sh.guj hi hj
     have hw:w64 ((t:Int)+1)=((t+1:Nat):Int):=kal (by omega)
     have hlen:decide ((t:Int)<lenI J)=true:=lenI_lt.2 hlt
     cases hsj:sa s1 j with
     | true=>
      refine .inr ⟨((t+1:Nat),s1,N,M,U,L),?_,⟨t+1,s1,by omega,rfl,q1,q2,fun t' x ht' hx' j' hj'=>?_,q4⟩,by simp only [Int.toNat_natCast]; omega⟩
      ·unfold kaI
       simp only [hlen,if_true,g1,g2,Option.bind_some,hsj,hw]
      ·by_cases e:t'=t
       ·subst e
        rw [List.getElem?_eq_getElem hlt,hxj] at hx'
        cases hx'
        have:j=j':=by omega
        subst this; exact hsj
       ·exact q3 t' x (by omega) hx' j' hj'
     | false=>
      obtain ⟨d1,d2,d3⟩:=klL (b:=la L j) hm0
      obtain ⟨b1,b2⟩:=v.le hi hj
      obtain ⟨b3,b4⟩:=v.lle hj
      have b5:=hc j hj
      by_cases hd:0<imin most (la L j)
      ·
       have e1:w64 (ua U i j+imin most (la L j))=ua U i j+imin most (la L j):=kaN (by omega) (by omega)
       have e2:w64 (la L j-imin most (la L j))=la L j-imin most (la L j):=kaN (by omega) (by omega)
       refine .inl ⟨.inl (imin most (la L j),N,M,upd U i j (ua U i j+imin most (la L j)),L.set j (la L j-imin most (la L j)),s1.set j true),?_,.inl ⟨_,_,_,_,rfl,knk sh v q1 q2 hi hj hsj hmj hd d2 d1⟩⟩
       unfold kaI
       simp only [hlen,if_true,g1,g2,g3,g4,g5,Option.bind_some,hsj,Bool.false_eq_true,if_false,decide_eq_true hd,e1,e2]
       rfl
      ·
       have hl0:la L j=0:=by
        have:¬ 0<la L j:=fun h=>hd (d3.2 h)
        omega
       have hs2:(s1.set j true).length=m:=by simp [q1]
       have hju:uns (s1.set j true)<fuel:=by
        have:=kii (s:=s1) (j:=j) (by omega) hsj
        have:=keL (s:=s) (s':=s1) (by rw [q1,hs]) q2
        omega
       have hjs:sa s j=false:=by
        cases e:sa s j with
        | false=>rfl
        | true=>rw [q2 j e] at hsj; cases hsj
       let Q2:Nat→List Bool→Prop:=fun k s3=>s3.length=m∧(∀ j',sa (s1.set j true) j'=true→sa s3 j'=true)∧(∀ k',k'<k→0<ua U k' j→∀ j',j'<m→may k' j'→sa s3 j'=true)∧Cl n m may U L (s1.set j true) s3
       have hjt:∀ s3,(∀ j',sa (s1.set j true) j'=true→sa s3 j'=true)→sa s3 j=true:=fun s3 h=>h j (by rw [kdn (by omega)]; simp)
       have hmon:∀ s3,(∀ j',sa (s1.set j true) j'=true→sa s3 j'=true)→∀ j',sa s j'=true→sa s3 j'=true:=fun s3 h j' hj'=>h j' (by rw [kdn (by omega)]; split; rfl; exact q2 j' hj')
       obtain ⟨z,hz,hR⟩:=iter_inv (F:=kaQ (kaM fuel) (i:Int) most ((t:Int),s1,N,M,U,L) (j:Int))
        (fun x=>∃ k s3,k≤n∧x=((k:Int),N,M,U,L,s3)∧Q2 k s3) (fun x=>n-x.1.toNat)
        (fun z=>(∃ r U' L' s',z = .inl (r,N,M,U',L',s')∧Post n m cap may i most U L s r U' L' s')∨∃ s3,z = .inr (N,M,U,L,s3)∧Q2 n s3)
        (fun x hx=>by
         obtain ⟨k,s3,hk,rfl,p1,p2,p3,p4⟩:=hx
         have hlU:lenI U=(n:Int):=by rw [kag,sh.u]
         by_cases hkn:k<n
         ·have hw:w64 ((k:Int)+1)=((k+1:Nat):Int):=kal (by omega)
          have hk1:decide ((k:Int)<lenI U)=true:=by rw [hlU]; simp; omega
          have f1:=sh.gu hkn
          have f2:=sh.guj hkn hj
          by_cases hz0:ua U k j=0
          ·refine .inr ⟨((k+1:Nat),N,M,U,L,s3),?_,⟨k+1,s3,by omega,rfl,p1,p2,fun k' hk' hp=>?_,p4⟩,by simp only [Int.toNat_natCast]; omega⟩
           ·unfold kaQ
            simp only [hk1,if_true,f1,f2,Option.bind_some,hz0,hw]
            rfl
           ·by_cases e:k'=k
            ·subst e; omega
            ·exact p3 k' (by omega) hp
          ·have hpos:0<ua U k j:=by have:=(v.le hkn hj).1; omega
           obtain ⟨c1,c2,c3⟩:=klL (b:=ua U k j) hm0
           obtain ⟨r,U',L',s',hrec,hp⟩:=ih k (imin most (ua U k j)) U L s3 hkn (c3.2 hpos) sh p1 v (by
            have:=keL (s:=s1.set j true) (s':=s3) (by rw [p1,hs2]) p2
            omega)
           have hne:(ua U k j==0)=false:=by simp [hz0]
           by_cases hr:0<r
           ·have F1:=hp.sh.gu hkn
            have F2:=hp.sh.guj hkn hj
            have sh1:=hp.sh.upd hkn hj (x:=ua U' k j-r)
            have F3:=sh1.gu hi
            have F4:=sh1.guj hi hj
            have B1:=hp.v.le hkn hj
            have B2:=hp.v.le hi hj
            have B3:=hp.r1
            have B4:=v.le hkn hj
            have E1:w64 (ua U' k j-r)=ua U' k j-r:=kaN (by omega) (by omega)
            have hb:-10000≤ua (upd U' k j (ua U' k j-r)) i j∧ua (upd U' k j (ua U' k j-r)) i j≤10000:=by
             rw [hp.sh.ua_upd hkn hj]; split <;> omega
            have E2:w64 (ua (upd U' k j (ua U' k j-r)) i j+r)=ua (upd U' k j (ua U' k j-r)) i j+r:=kaN (by omega) (by omega)
            refine .inl ⟨.inl (r,N,M,upd (upd U' k j (ua U' k j-r)) i j (ua (upd U' k j (ua U' k j-r)) i j+r),L',s'),?_,.inl ⟨_,_,_,_,rfl,kln hp hi hkn hj hjs (hjt s3 p2) (hmon s3 p2) hmj hr c2 c1⟩⟩
            unfold kaQ
            simp only [hk1,if_true,f1,f2,Option.bind_some,hne,Bool.false_eq_true,if_false,hrec,decide_eq_true hr,F1,F2,E1,koH,F3,F4,E2]
           ·have hr0:r=0:=by have:=hp.r0; omega
            obtain ⟨z1,z2,z3,z4⟩:=hp.z hr0
            subst z1 z2
            refine .inr ⟨((k+1:Nat),N,M,U',L',s'),?_,⟨k+1,s',by omega,rfl,hp.sl,fun j' h=>hp.mono j' (p2 j' h),fun k' hk' hp' j' hj' hm'=>?_,p4.trans z4 hp.mono⟩,by simp only [Int.toNat_natCast]; omega⟩
            ·unfold kaQ
             simp only [hk1,if_true,f1,f2,Option.bind_some,hne,Bool.false_eq_true,if_false,hrec,decide_eq_false hr,hw]
            ·by_cases e:k'=k
             ·subst e; exact z3 j' hj' hm'
             ·exact hp.mono j' (p3 k' (by omega) hp' j' hj' hm')
         ·have hk2:¬ decide ((k:Int)<lenI U)=true:=by rw [hlU]; simp; omega
          have:k=n:=by omega
          subst this
          refine .inl ⟨.inr (N,M,U,L,s3),?_,.inr ⟨s3,rfl,p1,p2,p3,p4⟩⟩
          unfold kaQ
          simp only [hk2,if_false]
          rfl)
        (0,N,M,U,L,s1.set j true) ⟨0,s1.set j true,by omega,rfl,hs2,fun _ h=>h,fun k' h=>by omega,fun j' _ h1 h2=>by rw [h1] at h2; cases h2⟩ (by simp only; omega)
       have hd':decide (0<imin most (la L j))=false:=decide_eq_false hd
       have hset:lset s1 (j:Int) true=s1.set j true:=rfl
       rcases hR with ⟨r,U',L',s',rfl,hp⟩ | ⟨s3,rfl,p1,p2,p3,p4⟩
       ·refine .inl ⟨.inl (r,N,M,U',L',s'),?_,.inl ⟨_,_,_,_,rfl,hp⟩⟩
        unfold kaI
        simp only [hlen,if_true,g1,g2,g3,Option.bind_some,hsj,Bool.false_eq_true,if_false,hd',hset,hz]
       ·have hm3:∀ j',sa s1 j'=true→sa s3 j'=true:=fun j' h=>p2 j' (by rw [kdn (by omega)]; split; rfl; exact h)
        refine .inr ⟨((t+1:Nat),s3,N,M,U,L),?_,⟨t+1,s3,by omega,rfl,p1,hmon s3 p2,fun t' x ht' hx' j' hj'=>?_,fun j' hj' h1 h2=>?_⟩,by simp only [Int.toNat_natCast]; omega⟩
        ·unfold kaI
         simp only [hlen,if_true,g1,g2,g3,Option.bind_some,hsj,Bool.false_eq_true,if_false,hd',hset,hz,hw]
        ·by_cases e:t'=t
         ·subst e
          rw [List.getElem?_eq_getElem hlt,hxj] at hx'
          cases hx'
          have:j=j':=by omega
          subst this; exact hjt s3 p2
         ·exact hm3 j' (q3 t' x (by omega) hx' j' hj')
        ·cases e:sa s1 j' with
         | true=>exact q4.mono hm3 j' hj' e h2
         | false=>
          by_cases e2:j'=j
          ·subst e2
           exact ⟨hl0,fun k hk hp=>p3 k hk hp⟩
          ·exact p4 j' hj' h1 (by rw [kdn (by omega),if_neg e2]; exact e)
    ·have:t=J.length:=by omega
     subst this
     refine .inl ⟨.inr (s1,L,U,N,M),?_,.inr ⟨s1,rfl,q1,q2,q3,q4⟩⟩
     unfold kaI
     rw [if_neg kaH])
   (0,s,N,M,U,L) ⟨0,s,by omega,rfl,hs,fun _ h=>h,fun t' x h=>by omega,fun j' _ h1 h2=>by rw [h1] at h2; cases h2⟩ (by simp only; omega)
  obtain ⟨z,hz,hR⟩:=key
  rw [hz]
  rcases hR with ⟨r,U',L',s',rfl,hp⟩ | ⟨s1,rfl,q1,q2,q3,q4⟩
  ·exact ⟨r,U',L',s',rfl,hp⟩
  ·refine ⟨0,U,L,s1,rfl,sh,q1,q2,v,fun _ _ _=>⟨rfl,fun _ _=>rfl⟩,by omega,by omega,by omega,fun _ _ _=>rfl,fun _=>⟨rfl,rfl,fun j hj hmj=>?_,q4⟩⟩
   obtain ⟨t',ht',e⟩:=List.mem_iff_getElem.1 (hJ2 j hj hmj)
   exact q3 t' (j:Int) ht' (by rw [List.getElem?_eq_getElem ht',e]) j rfl
end Go.Abs.Fl
namespace Go.Abs.Fl
open Go Go.Abs
structure MayB (n m:Nat) (may:Nat→Nat→Prop) (B:List (List Bool)):Prop where
 l:B.length=n
 r:∀ k,k<n→(B.getD k []).length=m
 a:∀ k,k<n→∀ j,j<m→(sa (B.getD k []) j=true↔may k j)
variable {n m:Nat} {cap:Nat→Int} {may:Nat→Nat→Prop} {B:List (List Bool)}
theorem ksd (hB:MayB n m may B) (hn:n≤1000) (hmm:m≤1000) (hc:∀ j,j<m→cap j≤1000):∀ (fuel i:Nat) (U:List (List Int)) (L:List Int) (s:List Bool),i<n→Shp n m U L→s.length=m→Val n m cap may (ua U) (la L)→uns s<fuel→
  ∃ (b:Bool) (U':List (List Int)) (L':List Int) (s':List Bool),kbw fuel (i:Int) B U L s=some (b,s',B,U',L')∧Post n m cap may i 1 U L s (if b=true then 1 else 0) U' L' s':=by
 intro fuel
 induction fuel with
 | zero=>intro i U L s _ _ _ _ h; omega
 | succ fuel ih=>
  intro i U L s hi sh hs v hf
  unfold kbw khp
  have gB:gi B (i:Int)=some (B.getD i []):=gi_D [] (by rw [hB.l]; exact hi)
  have hlL:lenI L=(m:Int):=by rw [kag,sh.l]
  let Q:Nat→List Bool→Prop:=fun t s1=>s1.length=m∧(∀ j,sa s j=true→sa s1 j=true)∧(∀ j,j<t→may i j→sa s1 j=true)∧Cl n m may U L s s1
  have key:=iter_inv (F:=kaX (kbw fuel) (i:Int))
   (fun x=>∃ t s1,t≤m∧x=((t:Int),B,U,L,s1)∧Q t s1) (fun x=>m-x.1.toNat)
   (fun z=>(∃ U' L' s',z = .inl (true,s',B,U',L')∧Post n m cap may i 1 U L s 1 U' L' s')∨∃ s1,z = .inr (s1,L,B,U)∧Q m s1)
   (fun x hx=>by
    obtain ⟨t,s1,ht,rfl,q1,q2,q3,q4⟩:=hx
    by_cases hj:t<m
    ·have g1:gi (B.getD i []) (t:Int)=some (sa (B.getD i []) t):=gi_D false (by rw [hB.r i hi]; exact hj)
     have g2:gi s1 (t:Int)=some (sa s1 t):=gs q1 hj
     have g3:=sh.gl hj
     have g4:=sh.gu hi
     have g5:=sh.guj hi hj
     have hw:w64 ((t:Int)+1)=((t+1:Nat):Int):=kal (by omega)
     have hlen:decide ((t:Int)<lenI L)=true:=by rw [hlL]; simp; omega
     cases hmt:sa (B.getD i []) t with
     | false=>
      refine .inr ⟨((t+1:Nat),B,U,L,s1),?_,⟨t+1,s1,by omega,rfl,q1,q2,fun j' hj' hm'=>?_,q4⟩,by simp only [Int.toNat_natCast]; omega⟩
      ·unfold kaX
       simp only [hlen,if_true,gB,g1,Option.bind_some,hmt,Bool.not_false,hw]
      ·by_cases e:j'=t
       ·subst e; rw [(hB.a i hi _ hj).2 hm'] at hmt; cases hmt
       ·exact q3 j' (by omega) hm'
     | true=>
     have hmj:=(hB.a i hi t hj).1 hmt
     cases hsj:sa s1 t with
     | true=>
      refine .inr ⟨((t+1:Nat),B,U,L,s1),?_,⟨t+1,s1,by omega,rfl,q1,q2,fun j' hj' hm'=>?_,q4⟩,by simp only [Int.toNat_natCast]; omega⟩
      ·unfold kaX
       simp only [hlen,if_true,gB,g1,g2,Option.bind_some,hmt,hsj,Bool.not_true,Bool.false_eq_true,if_false,hw]
      ·by_cases e:j'=t
       ·subst e; exact hsj
       ·exact q3 j' (by omega) hm'
     | false=>
      obtain ⟨b1,b2⟩:=v.le hi hj
      obtain ⟨b3,b4⟩:=v.lle hj
      have b5:=hc t hj
      by_cases hd:0<la L t
      ·
       have e1:w64 (ua U i t+1)=ua U i t+1:=kaN (by omega) (by omega)
       have e2:w64 (la L t-1)=la L t-1:=kaN (by omega) (by omega)
       refine .inl ⟨.inl (true,s1.set t true,B,upd U i t (ua U i t+1),L.set t (la L t-1)),?_,.inl ⟨_,_,_,rfl,knk sh v q1 q2 hi hj hsj hmj (by omega) (by omega) (by omega)⟩⟩
       unfold kaX
       simp only [hlen,if_true,gB,g1,g2,g3,g4,g5,Option.bind_some,hmt,hsj,Bool.not_true,Bool.false_eq_true,if_false,decide_eq_true hd,e1,e2]
       rfl
      ·
       have hl0:la L t=0:=by omega
       have hs2:(s1.set t true).length=m:=by simp [q1]
       have hju:uns (s1.set t true)<fuel:=by
        have:=kii (s:=s1) (j:=t) (by omega) hsj
        have:=keL (s:=s) (s':=s1) (by rw [q1,hs]) q2
        omega
       have hjs:sa s t=false:=by
        cases e:sa s t with
        | false=>rfl
        | true=>rw [q2 t e] at hsj; cases hsj
       let Q2:Nat→List Bool→Prop:=fun k s3=>s3.length=m∧(∀ j',sa (s1.set t true) j'=true→sa s3 j'=true)∧(∀ k',k'<k→0<ua U k' t→∀ j',j'<m→may k' j'→sa s3 j'=true)∧Cl n m may U L (s1.set t true) s3
       have hjt:∀ s3,(∀ j',sa (s1.set t true) j'=true→sa s3 j'=true)→sa s3 t=true:=fun s3 h=>h t (by rw [kdn (by omega)]; simp)
       have hmon:∀ s3,(∀ j',sa (s1.set t true) j'=true→sa s3 j'=true)→∀ j',sa s j'=true→sa s3 j'=true:=fun s3 h j' hj'=>h j' (by rw [kdn (by omega)]; split; rfl; exact q2 j' hj')
       obtain ⟨z,hz,hR⟩:=iter_inv (F:=kbL (kbw fuel) (i:Int) ((t:Int),B,U,L,s1))
        (fun x=>∃ k s3,k≤n∧x=((k:Int),B,U,L,s3)∧Q2 k s3) (fun x=>n-x.1.toNat)
        (fun z=>(∃ U' L' s',z = .inl (true,s',B,U',L')∧Post n m cap may i 1 U L s 1 U' L' s')∨∃ s3,z = .inr (B,U,L,s3)∧Q2 n s3)
        (fun x hx=>by
         obtain ⟨k,s3,hk,rfl,p1,p2,p3,p4⟩:=hx
         have hlU:lenI U=(n:Int):=by rw [kag,sh.u]
         by_cases hkn:k<n
         ·have hw:w64 ((k:Int)+1)=((k+1:Nat):Int):=kal (by omega)
          have hk1:decide ((k:Int)<lenI U)=true:=by rw [hlU]; simp; omega
          have f1:=sh.gu hkn
          have f2:=sh.guj hkn hj
          by_cases hpos:0<ua U k t
          ·obtain ⟨b,U',L',s',hrec,hp⟩:=ih k U L s3 hkn sh p1 v (by
            have:=keL (s:=s1.set t true) (s':=s3) (by rw [p1,hs2]) p2
            omega)
           cases b with
           | true=>
            simp only [if_true] at hp
            have F1:=hp.sh.gu hkn
            have F2:=hp.sh.guj hkn hj
            have sh1:=hp.sh.upd hkn hj (x:=ua U' k t-1)
            have F3:=sh1.gu hi
            have F4:=sh1.guj hi hj
            have B1:=hp.v.le hkn hj
            have B2:=hp.v.le hi hj
            have E1:w64 (ua U' k t-1)=ua U' k t-1:=kaN (by omega) (by omega)
            have hb:-10000≤ua (upd U' k t (ua U' k t-1)) i t∧ua (upd U' k t (ua U' k t-1)) i t≤10000:=by
             rw [hp.sh.ua_upd hkn hj]; split <;> omega
            have E2:w64 (ua (upd U' k t (ua U' k t-1)) i t+1)=ua (upd U' k t (ua U' k t-1)) i t+1:=kaN (by omega) (by omega)
            refine .inl ⟨.inl (true,s',B,upd (upd U' k t (ua U' k t-1)) i t (ua (upd U' k t (ua U' k t-1)) i t+1),L'),?_,.inl ⟨_,_,_,rfl,kln hp hi hkn hj hjs (hjt s3 p2) (hmon s3 p2) hmj (by omega) (by omega) (Int.le_refl _)⟩⟩
            unfold kbL
            simp only [hk1,if_true,f1,f2,Option.bind_some,decide_eq_true hpos,hrec,F1,F2,E1,koH,F3,F4,E2]
           | false=>
            simp only [Bool.false_eq_true,if_false] at hp
            obtain ⟨z1,z2,z3,z4⟩:=hp.z rfl
            subst z1 z2
            refine .inr ⟨((k+1:Nat),B,U',L',s'),?_,⟨k+1,s',by omega,rfl,hp.sl,fun j' h=>hp.mono j' (p2 j' h),fun k' hk' hp' j' hj' hm'=>?_,p4.trans z4 hp.mono⟩,by simp only [Int.toNat_natCast]; omega⟩
            ·unfold kbL
             simp only [hk1,if_true,f1,f2,Option.bind_some,decide_eq_true hpos,hrec,Bool.false_eq_true,if_false,hw]
            ·by_cases e:k'=k
             ·subst e; exact z3 j' hj' hm'
             ·exact hp.mono j' (p3 k' (by omega) hp' j' hj' hm')
          ·refine .inr ⟨((k+1:Nat),B,U,L,s3),?_,⟨k+1,s3,by omega,rfl,p1,p2,fun k' hk' hp=>?_,p4⟩,by simp only [Int.toNat_natCast]; omega⟩
           ·unfold kbL
            simp only [hk1,if_true,f1,f2,Option.bind_some,decide_eq_false hpos,Bool.false_eq_true,if_false,hw]
           ·by_cases e:k'=k
            ·subst e; exact absurd hp hpos
            ·exact p3 k' (by omega) hp
         ·have hk2:¬ decide ((k:Int)<lenI U)=true:=by rw [hlU]; simp; omega
          have:k=n:=by omega
          subst this
          refine .inl ⟨.inr (B,U,L,s3),?_,.inr ⟨s3,rfl,p1,p2,p3,p4⟩⟩
          unfold kbL
          simp only [hk2,if_false]
          rfl)
        (0,B,U,L,s1.set t true) ⟨0,s1.set t true,by omega,rfl,hs2,fun _ h=>h,fun k' h=>by omega,fun j' _ h1 h2=>by rw [h1] at h2; cases h2⟩ (by simp only; omega)
       have hd':decide (0<la L t)=false:=decide_eq_false hd
       have hset:lset s1 (t:Int) true=s1.set t true:=rfl
       rcases hR with ⟨U',L',s',rfl,hp⟩ | ⟨s3,rfl,p1,p2,p3,p4⟩
       ·refine .inl ⟨.inl (true,s',B,U',L'),?_,.inl ⟨_,_,_,rfl,hp⟩⟩
        unfold kaX
        simp only [hlen,if_true,gB,g1,g2,g3,Option.bind_some,hmt,hsj,Bool.not_true,Bool.false_eq_true,if_false,hd',hset,hz]
       ·have hm3:∀ j',sa s1 j'=true→sa s3 j'=true:=fun j' h=>p2 j' (by rw [kdn (by omega)]; split; rfl; exact h)
        refine .inr ⟨((t+1:Nat),B,U,L,s3),?_,⟨t+1,s3,by omega,rfl,p1,hmon s3 p2,fun j' hj' hm'=>?_,fun j' hj' h1 h2=>?_⟩,by simp only [Int.toNat_natCast]; omega⟩
        ·unfold kaX
         simp only [hlen,if_true,gB,g1,g2,g3,Option.bind_some,hmt,hsj,Bool.not_true,Bool.false_eq_true,if_false,hd',hset,hz,hw]
        ·by_cases e:j'=t
         ·subst e; exact hjt s3 p2
         ·exact hm3 j' (q3 j' (by omega) hm')
        ·cases e:sa s1 j' with
         | true=>exact q4.mono hm3 j' hj' e h2
         | false=>
          by_cases e2:j'=t
          ·subst e2
           exact ⟨hl0,fun k hk hp=>p3 k hk hp⟩
          ·exact p4 j' hj' h1 (by rw [kdn (by omega),if_neg e2]; exact e)
    ·have:t=m:=by omega
     subst this
     refine .inl ⟨.inr (s1,L,B,U),?_,.inr ⟨s1,rfl,q1,q2,q3,q4⟩⟩
     unfold kaX
     have:¬ decide ((t:Int)<lenI L)=true:=by rw [hlL]; simp
     rw [if_neg this])
   (0,B,U,L,s) ⟨0,s,by omega,rfl,hs,fun _ h=>h,fun j' h=>by omega,fun j' _ h1 h2=>by rw [h1] at h2; cases h2⟩ (by simp only; omega)
  obtain ⟨z,hz,hR⟩:=key
  rw [hz]
  rcases hR with ⟨U',L',s',rfl,hp⟩ | ⟨s1,rfl,q1,q2,q3,q4⟩
  ·exact ⟨true,U',L',s',rfl,by rw [if_pos rfl]; exact hp⟩
  ·refine ⟨false,U,L,s1,rfl,?_⟩
   rw [if_neg (by simp)]
   exact ⟨sh,q1,q2,v,fun _ _ _=>⟨rfl,fun _ _=>rfl⟩,by omega,by omega,by omega,fun _ _ _=>rfl,fun _=>⟨rfl,rfl,fun j hj hmj=>q3 j hj hmj,q4⟩⟩
end Go.Abs.Fl
namespace Go.Abs.Fl
open Go Go.Abs
variable {n m:Nat} {cap:Nat→Int} {may:Nat→Nat→Prop}
structure Gave (n m:Nat) (cap:Nat→Int) (may:Nat→Nat→Prop) (i:Nat) (most:Int) (U:List (List Int)) (g:Int) (U':List (List Int)) (L':List Int):Prop where
 sh:Shp n m U' L'
 v:Val n m cap may (ua U') (la L')
 g0:0≤g
 g1:g≤most
 ri:row m (ua U') i=row m (ua U) i+g
 ro:∀ k,k<n→k≠i→row m (ua U') k=row m (ua U) k
 st:g<most→∃ S,S i=true∧Sat n m may (ua U') (la L') S
theorem kpp {i:Nat} {most:Int} {U U':List (List Int)} {L L':List Int} {s':List Bool} (hi:i<n) (h:Post n m cap may i most U L (List.replicate m false) 0 U' L' s'):∃ S,S i=true∧Sat n m may (ua U') (la L') S:=by
 classical
 obtain ⟨e1,e2,h1,h2⟩:=h.z rfl
 subst e1 e2
 have h0:∀ j,sa (List.replicate m false) j=false:=fun j=>by
  unfold sa
  rw [List.getD_eq_getElem?_getD,List.getElem?_replicate]
  split <;> rfl
 obtain ⟨S,hS⟩:∃ S:Nat→Bool,∀ k,S k=true↔∀ j,j<m→may k j→sa s' j=true:=⟨fun k=>decide (∀ j,j<m→may k j→sa s' j=true),fun k=>by simp⟩
 exact ⟨S,(hS i).2 h1,fun k _ hk j hj hm=>(h2 j hj ((hS k).1 hk j hj hm) (h0 j)).1,fun k _ hk j hj hm k' hk' hp=>(hS k').2 ((h2 j hj ((hS k).1 hk j hj hm) (h0 j)).2 k' hk' hp)⟩
theorem ktM {U:List (List Int)} {L:List Int} (v:Val n m cap may (ua U) (la L)) {k:Nat} (hk:k<n):0≤row m (ua U) k:=kds fun j hj=>v.nn k hk j hj
theorem krS {M:List (List Int)} {N:List (Int×Int×Int)} (hM:MayL n m may M) (hn:n≤1000) (hm:m≤1000) (hc:∀ j,j<m→cap j≤1000) {i:Nat} {most:Int} {U:List (List Int)} {L:List Int} (hi:i<n) (h0:0≤most) (h1:most≤1000) (sh:Shp n m U L) (v:Val n m cap may (ua U) (la L)) :
  ∃ g U' L',kdk (i:Int) most N M U L=some (g,N,M,U',L')∧Gave n m cap may i most U g U' L':=by
 unfold kdk
 obtain ⟨z,hz,g,U',L',rfl,hg⟩:=iter_inv (F:=kbG (i:Int) most)
  (fun x=>∃ g U' L' s,x=(g,N,M,U',L',s)∧0≤g∧g≤most∧Shp n m U' L'∧Val n m cap may (ua U') (la L')∧row m (ua U') i=row m (ua U) i+g∧∀ k,k<n→k≠i→row m (ua U') k=row m (ua U) k) (fun x=>(most-x.1).toNat)
  (fun z=>∃ g U' L',z=(g,N,M,U',L')∧Gave n m cap may i most U g U' L')
  (fun x hx=>by
   obtain ⟨g,U',L',s,rfl,g0,g1,sh',v',ri,ro⟩:=hx
   by_cases hlt:g<most
   ·have hgm:gmk (lenI L') false=some (List.replicate m false):=by
     unfold gmk
     rw [kag,sh'.l,if_pos (by omega),Int.toNat_natCast]
    have hw:w64 (most-g)=most-g:=kaN (by omega) (by omega)
    obtain ⟨r,U2,L2,s2,hr,hp⟩:=krB (N:=N) hM hn hc 1000000 i (most-g) U' L' (List.replicate m false) hi (by omega) sh' (by simp) v' (by
     have:uns (List.replicate m false)≤m:=by
      unfold uns
      have:=List.countP_le_length (p:=fun b=>!b) (l:=List.replicate m false)
      simpa using this
     omega)
    have hr':kdw (i:Int) (most-g) N M U' L' (List.replicate m false)=some (r,N,M,U2,L2,s2):=hr
    by_cases hz:r=0
    ·subst hz
     refine .inl ⟨(g,N,M,U2,L2),?_,g,U2,L2,rfl,hp.sh,hp.v,g0,g1,by rw [hp.ri,ri]; omega,fun k hk hne=>by rw [hp.ro k hk hne,ro k hk hne],fun _=>kpp hi hp⟩
     unfold kbG
     simp only [decide_eq_true hlt,if_true,hgm,hw,hr',Option.bind_some]
     rfl
    ·have a0:=hp.r0
     have a1:=hp.r1
     have hw2:w64 (g+r)=g+r:=kaN (by omega) (by omega)
     refine .inr ⟨(g+r,N,M,U2,L2,s2),?_,⟨g+r,U2,L2,s2,rfl,by omega,by omega,hp.sh,hp.v,by rw [hp.ri,ri]; omega,fun k hk hne=>by rw [hp.ro k hk hne,ro k hk hne]⟩,by simp only; omega⟩
     unfold kbG
     have hb:(r==0)=false:=by simp [hz]
     simp only [decide_eq_true hlt,if_true,hgm,hw,hr',Option.bind_some,hb,Bool.false_eq_true,if_false,hw2]
   ·refine .inl ⟨(g,N,M,U',L'),?_,g,U',L',rfl,sh',v',g0,g1,ri,ro,fun h=>absurd h hlt⟩
    unfold kbG
    simp only [decide_eq_false hlt,Bool.false_eq_true,if_false])
  (0,N,M,U,L,[]) ⟨0,U,L,[],rfl,by omega,h0,sh,v,by omega,fun _ _ _=>rfl⟩ (by simp only; omega)
 exact ⟨g,U',L',by rw [hz]; rfl,hg⟩
theorem ksF {B:List (List Bool)} (hB:MayB n m may B) (hn:n≤1000) (hm:m≤1000) (hc:∀ j,j<m→cap j≤1000) {i:Nat} {most:Int} {U:List (List Int)} {L:List Int} (hi:i<n) (h0:0≤most) (h1:most≤1000) (sh:Shp n m U L) (v:Val n m cap may (ua U) (la L)) :
  ∃ g U' L',kfe (i:Int) most B U L=some (g,B,U',L')∧Gave n m cap may i most U g U' L':=by
 unfold kfe
 obtain ⟨z,hz,g,U',L',rfl,hg⟩:=iter_inv (F:=kcE (i:Int) most)
  (fun x=>∃ g U' L',x=(g,B,U',L')∧0≤g∧g≤most∧Shp n m U' L'∧Val n m cap may (ua U') (la L')∧row m (ua U') i=row m (ua U) i+g∧∀ k,k<n→k≠i→row m (ua U') k=row m (ua U) k) (fun x=>(most-x.1).toNat)
  (fun z=>∃ g U' L',z=(g,U',B,L')∧Gave n m cap may i most U g U' L')
  (fun x hx=>by
   obtain ⟨g,U',L',rfl,g0,g1,sh',v',ri,ro⟩:=hx
   by_cases hlt:g<most
   ·have hgm:gmk (lenI L') false=some (List.replicate m false):=by
     unfold gmk
     rw [kag,sh'.l,if_pos (by omega),Int.toNat_natCast]
    obtain ⟨b,U2,L2,s2,hr,hp⟩:=ksd hB hn hm hc 1000000 i U' L' (List.replicate m false) hi sh' (by simp) v' (by
     have:uns (List.replicate m false)≤m:=by
      unfold uns
      have:=List.countP_le_length (p:=fun b=>!b) (l:=List.replicate m false)
      simpa using this
     omega)
    have hr':kgb (i:Int) B U' L' (List.replicate m false)=some (b,s2,B,U2,L2):=hr
    cases b with
    | false=>
     simp only [Bool.false_eq_true,if_false] at hp
     have hp0:=hp
     refine .inl ⟨(g,U2,B,L2),?_,g,U2,L2,rfl,hp.sh,hp.v,g0,g1,by rw [hp.ri,ri]; omega,fun k hk hne=>by rw [hp.ro k hk hne,ro k hk hne],fun _=>kpp hi hp⟩
     unfold kcE
     simp only [decide_eq_true hlt,if_true,hgm,hr',Option.bind_some,Bool.false_eq_true,if_false]
    | true=>
     simp only [if_true] at hp
     have hw2:w64 (g+1)=g+1:=kaN (by omega) (by omega)
     refine .inr ⟨(g+1,B,U2,L2),?_,⟨g+1,U2,L2,rfl,by omega,by omega,hp.sh,hp.v,by rw [hp.ri,ri]; omega,fun k hk hne=>by rw [hp.ro k hk hne,ro k hk hne]⟩,by simp only; omega⟩
     unfold kcE
     simp only [decide_eq_true hlt,if_true,hgm,hr',Option.bind_some,hw2]
   ·refine .inl ⟨(g,U',B,L'),?_,g,U',L',rfl,sh',v',g0,g1,ri,ro,fun h=>absurd h hlt⟩
    unfold kcE
    simp only [decide_eq_false hlt,Bool.false_eq_true,if_false])
  (0,B,U,L) ⟨0,U,L,rfl,by omega,h0,sh,v,by omega,fun _ _ _=>rfl⟩ (by simp only; omega)
 exact ⟨g,U',L',by rw [hz]; rfl,hg⟩
def Canon (n m:Nat) (cap:Nat→Int) (may:Nat→Nat→Prop) (N:Nat→Int) (i:Nat) (r:Nat→Int):Prop:=
 ∀ k,k<i→(∃ u l,Val n m cap may u l∧(∀ k',k'≤k→row m u k'=r k')∧(∀ k',k<k'→k'<n→row m u k'=0)∧r k≤N k)∧
  ∀ u l,Val n m cap may u l→(∀ k',k'<k→row m u k'=r k')→(∀ k',k<k'→k'<n→row m u k'=0)→row m u k≤N k→row m u k≤r k
theorem Canon.uniq {N:Nat→Int} {i:Nat} {r r':Nat→Int} (h:Canon n m cap may N i r) (h':Canon n m cap may N i r'):∀ k,k<i→r k=r' k:=by
 intro k
 induction k using Nat.strongRecOn with
 | _ k ih=>
  intro hk
  obtain ⟨⟨u,l,v,a,b,c⟩,d⟩:=h k hk
  obtain ⟨⟨u',l',v',a',b',c'⟩,d'⟩:=h' k hk
  have e1:=d' u l v (fun k' hk'=>by rw [a k' (by omega),ih k' hk' (by omega)]) b (by rw [a k (Nat.le_refl _)]; exact c)
  have e2:=d u' l' v' (fun k' hk'=>by rw [a' k' (by omega),ih k' hk' (by omega)]) b' (by rw [a' k (Nat.le_refl _)]; exact c')
  rw [a k (Nat.le_refl _)] at e1
  rw [a' k (Nat.le_refl _)] at e2
  omega
structure At (n m:Nat) (cap:Nat→Int) (may:Nat→Nat→Prop) (N:Nat→Int) (i:Nat) (U:List (List Int)) (L:List Int) (K:List Bool) (t:Int):Prop where
 sh:Shp n m U L
 v:Val n m cap may (ua U) (la L)
 z:∀ k,i≤k→k<n→row m (ua U) k=0
 c:Canon n m cap may N i (row m (ua U))
 le:∀ k,k<i→row m (ua U) k≤N k
 st:∀ k,k<i→row m (ua U) k<N k→∃ S,S k=true∧Sat n m may (ua U) (la L) S
 kl:K.length=n
 k1:∀ k,k<i→sa K k=decide (row m (ua U) k<N k)
 k0:∀ k,i≤k→sa K k=false
 t:t=sumN (row m (ua U)) i
theorem At.step {N:Nat→Int} {i:Nat} {U U':List (List Int)} {L L':List Int} {K:List Bool} {t g:Int} (h:At n m cap may N i U L K t) (hi:i<n) (hg:Gave n m cap may i (N i) U g U' L') :
  At n m cap may N (i+1) U' L' (K.set i (decide (g<N i))) (t+g):=by
 have r0:row m (ua U) i=0:=h.z i (Nat.le_refl _) hi
 have ri:row m (ua U') i=g:=by rw [hg.ri,r0]; omega
 have mono:∀ k,k<n→row m (ua U) k≤row m (ua U') k:=fun k hk=>by
  by_cases e:k=i
  ·subst e; have:=hg.g0; omega
  ·rw [hg.ro k hk e]; omega
 refine ⟨hg.sh,hg.v,fun k hk hkn=>by rw [hg.ro k hkn (by omega)]; exact h.z k (by omega) hkn,fun k hk=>?_,fun k hk=>?_,fun k hk hlt=>?_,by simp [h.kl],fun k hk=>?_,fun k hk=>?_,?_⟩
 ·by_cases e:k=i
  ·subst e
   refine ⟨⟨_,_,hg.v,fun _ _=>rfl,fun k' h1 h2=>by rw [hg.ro k' h2 (by omega)]; exact h.z k' (by omega) h2,by rw [ri]; exact hg.g1⟩,fun u l v a b c=>?_⟩
   by_cases hl:g<N k
   ·obtain ⟨S,s1,s2⟩:=hg.st hl
    exact ktg hg.v v s2 hi s1 fun k' hk' hne=>by
     by_cases hlt:k'<k
     ·rw [a k' hlt]; omega
     ·rw [b k' (by omega) hk',hg.ro k' hk' hne,h.z k' (by omega) hk']; omega
   ·have:=hg.g1; omega
  ·have hk':k<i:=by omega
   have same:∀ k',k'≤k→row m (ua U') k'=row m (ua U) k':=fun k' h'=>hg.ro k' (by omega) (by omega)
   obtain ⟨⟨u,l,v,a,b,c⟩,d⟩:=h.c k hk'
   refine ⟨⟨u,l,v,fun k' h'=>by rw [same k' h']; exact a k' h',b,by rw [same k (Nat.le_refl _)]; exact c⟩,fun u l v a b c=>?_⟩
   rw [same k (Nat.le_refl _)]
   exact d u l v (fun k' h'=>by rw [a k' h',same k' (by omega)]) b c
 ·by_cases e:k=i
  ·subst e; rw [ri]; exact hg.g1
  ·rw [hg.ro k (by omega) e]; exact h.le k (by omega)
 ·by_cases e:k=i
  ·subst e; rw [ri] at hlt; exact hg.st hlt
  ·rw [hg.ro k (by omega) e] at hlt
   obtain ⟨S,s1,s2⟩:=h.st k (by omega) hlt
   exact ⟨S,s1,(kkF h.v hg.v s2 fun k' hk' _=>mono k' hk').1⟩
 ·rw [show sa (K.set i (decide (g<N i))) k=if k=i then decide (g<N i) else sa K k from getD_set (by rw [h.kl]; exact hi)]
  by_cases e:k=i
  ·subst e; rw [if_pos rfl,ri]
  ·rw [if_neg e,hg.ro k (by omega) e]; exact h.k1 k (by omega)
 ·rw [show sa (K.set i (decide (g<N i))) k=if k=i then decide (g<N i) else sa K k from getD_set (by rw [h.kl]; exact hi),if_neg (by omega)]
  exact h.k0 k (by omega)
 ·simp only [sumN]
  rw [ri,h.t,kaE (f:=row m (ua U')) (g:=row m (ua U)) fun k hk=>hg.ro k (by omega) (by omega)]
end Go.Abs.Fl
namespace Go.Abs.Fl
open Go Go.Abs
variable {n m:Nat} {cap:Nat→Int} {may:Nat→Nat→Prop}
abbrev It3:=Int×Int×Int
def needN (N:List It3) (k:Nat):Int:=((N[k]?).getD (0,0,0)).2.2
theorem kgR {N:List It3} {k:Nat} (h:k<N.length):needN N k=N[k].2.2:=by unfold needN; rw [List.getElem?_eq_getElem h]; rfl
theorem At.zero {U:List (List Int)} {L:List Int} {K:List Bool} (sh:Shp n m U L) (hu:∀ k,k<n→∀ j,j<m→ua U k j=0) (hl:∀ j,j<m→la L j=cap j) (hc:∀ j,j<m→0≤cap j) (N:Nat→Int) (hK:K=List.replicate n false):At n m cap may N 0 U L K 0:=by
 have hz:∀ k,k<n→row m (ua U) k=0:=fun k hk=>by
  unfold row
  rw [kaE (g:=fun _=>0) fun j hj=>hu k hk j hj,khX]
 refine ⟨sh,⟨fun k hk j hj=>by rw [hu k hk j hj]; exact Int.le_refl _,fun k hk j hj h=>by rw [hu k hk j hj] at h; omega,fun j hj=>by rw [hl j hj]; exact hc j hj,fun j hj=>?_⟩,fun k _ hk=>hz k hk,fun k hk=>by omega,fun k hk=>by omega,fun k hk=>by omega,by simp [hK],fun k hk=>by omega,fun k _=>?_,rfl⟩
 ·rw [hl j hj,kaE (g:=fun _=>0) fun k hk=>hu k hk j hj,khX]; omega
 ·subst hK
  unfold sa
  rw [List.getD_eq_getElem?_getD,List.getElem?_replicate]
  split <;> rfl
theorem krs {U:List (List Int)} {L:List Int} {K:List Bool} {N:Nat→Int} {i:Nat} {t:Int} (h:At n m cap may N i U L K t) (hi:i≤n) (hN:∀ k,k<n→N k≤1000):0≤t∧t≤1000*i:=by
 rw [h.t]
 have h1:∀ k,k<i→0≤row m (ua U) k∧row m (ua U) k≤1000:=fun k hk=>⟨ktM h.v (by omega),Int.le_trans (h.le k hk) (hN k (by omega))⟩
 generalize row m (ua U)=r at h1
 clear h
 induction i with
 | zero=>simp [sumN]
 | succ i ih=>
  obtain ⟨a,b⟩:=ih (by omega) fun k hk=>h1 k (by omega)
  obtain ⟨c,d⟩:=h1 i (by omega)
  simp only [sumN]
  push_cast
  omega
theorem ktZ {M:List (List Int)} {N:List It3} {X:List It3} (hM:MayL n m may M) (hX:X.length=n) (hn:n≤1000) (hm:m≤1000) (hc:∀ j,j<m→cap j≤1000) (hN:∀ k,k<n→0≤needN X k∧needN X k≤1000) {U:List (List Int)} {L:List Int} {K:List Bool} (h:At n m cap may (needN X) 0 U L K 0) :
  ∃ t U' L' K',iter (kej X) (0,0,N,M,U,L,K)=some (t,N,M,U',L',K')∧At n m cap may (needN X) n U' L' K' t:=by
 obtain ⟨z,hz,t,U',L',K',rfl,hA⟩:=iter_inv (F:=kej X)
  (fun x=>∃ (i:Nat) (t:Int) (U:List (List Int)) (L:List Int) (K:List Bool),i≤n∧x=((i:Int),t,N,M,U,L,K)∧At n m cap may (needN X) i U L K t) (fun x=>n-x.1.toNat)
  (fun z=>∃ t U L K,z=(t,N,M,U,L,K)∧At n m cap may (needN X) n U L K t)
  (fun x hx=>by
   obtain ⟨i,t,U,L,K,hi,rfl,hA⟩:=hx
   by_cases hlt:i<n
   ·obtain ⟨g,U',L',hg,hG⟩:=krS (N:=N) hM hn hm hc hlt (hN i hlt).1 (hN i hlt).2 hA.sh hA.v
    have g1:gi X (i:Int)=some X[i]:=kao (by omega)
    have g2:=kgR (N:=X) (k:=i) (by omega)
    have g3:gi K (i:Int)=some (sa K i):=gs hA.kl hlt
    have hb:=krs hA (by omega) fun k hk=>(hN k hk).2
    have hb2:=hG.g0
    have hb3:=hG.g1
    have hb4:=(hN i hlt).2
    have hw:w64 ((i:Int)+1)=((i+1:Nat):Int):=kal (by omega)
    have hw2:w64 (t+g)=t+g:=kaN (by omega) (by omega)
    have hlen:decide ((i:Int)<lenI X)=true:=lenI_lt.2 (by omega)
    refine .inr ⟨((i+1:Nat),t+g,N,M,U',L',K.set i (decide (g<needN X i))),?_,⟨i+1,t+g,U',L',_,by omega,rfl,hA.step hlt hG⟩,by simp only [Int.toNat_natCast]; omega⟩
    unfold kej
    rw [g2] at hg
    simp only [hlen,if_true,g1,hg,g3,Option.bind_some,hw,hw2,g2]
    rfl
   ·have:i=n:=by omega
    subst this
    refine .inl ⟨(t,N,M,U,L,K),?_,t,U,L,K,rfl,hA⟩
    unfold kej
    rw [if_neg (by rw [←hX]; exact kaH)])
  (0,0,N,M,U,L,K) ⟨0,0,U,L,K,by omega,rfl,h⟩ (by simp only; omega)
 exact ⟨t,U',L',K',hz,hA⟩
theorem kuh {B:List (List Bool)} {X:List It3} (hB:MayB n m may B) (hX:X.length=n) (hn:n≤1000) (hm:m≤1000) (hc:∀ j,j<m→cap j≤1000) (hN:∀ k,k<n→0≤needN X k∧needN X k≤1000) {U:List (List Int)} {L:List Int} {K:List Bool} (h:At n m cap may (needN X) 0 U L K 0) :
  ∃ t U' L' K',iter (kdq X) (0,0,B,U,L,K)=some (t,B,U',L',K')∧At n m cap may (needN X) n U' L' K' t:=by
 obtain ⟨z,hz,t,U',L',K',rfl,hA⟩:=iter_inv (F:=kdq X)
  (fun x=>∃ (i:Nat) (t:Int) (U:List (List Int)) (L:List Int) (K:List Bool),i≤n∧x=((i:Int),t,B,U,L,K)∧At n m cap may (needN X) i U L K t) (fun x=>n-x.1.toNat)
  (fun z=>∃ t U L K,z=(t,B,U,L,K)∧At n m cap may (needN X) n U L K t)
  (fun x hx=>by
   obtain ⟨i,t,U,L,K,hi,rfl,hA⟩:=hx
   by_cases hlt:i<n
   ·obtain ⟨g,U',L',hg,hG⟩:=ksF hB hn hm hc hlt (hN i hlt).1 (hN i hlt).2 hA.sh hA.v
    have g1:gi X (i:Int)=some X[i]:=kao (by omega)
    have g2:=kgR (N:=X) (k:=i) (by omega)
    have g3:gi K (i:Int)=some (sa K i):=gs hA.kl hlt
    have hb:=krs hA (by omega) fun k hk=>(hN k hk).2
    have hb2:=hG.g0
    have hb3:=hG.g1
    have hb4:=(hN i hlt).2
    have hw:w64 ((i:Int)+1)=((i+1:Nat):Int):=kal (by omega)
    have hw2:w64 (t+g)=t+g:=kaN (by omega) (by omega)
    have hlen:decide ((i:Int)<lenI X)=true:=lenI_lt.2 (by omega)
    refine .inr ⟨((i+1:Nat),t+g,B,U',L',K.set i (decide (g<needN X i))),?_,⟨i+1,t+g,U',L',_,by omega,rfl,hA.step hlt hG⟩,by simp only [Int.toNat_natCast]; omega⟩
    unfold kdq
    rw [g2] at hg
    simp only [hlen,if_true,g1,hg,g3,Option.bind_some,hw,hw2,g2]
    rfl
   ·have:i=n:=by omega
    subst this
    refine .inl ⟨(t,B,U,L,K),?_,t,U,L,K,rfl,hA⟩
    unfold kdq
    rw [if_neg (by rw [←hX]; exact kaH)])
  (0,0,B,U,L,K) ⟨0,0,U,L,K,by omega,rfl,h⟩ (by simp only; omega)
 exact ⟨t,U',L',K',hz,hA⟩
theorem alike {U U':List (List Int)} {L L':List Int} {K K':List Bool} {N:Nat→Int} {t t':Int} (h:At n m cap may N n U L K t) (h':At n m cap may N n U' L' K' t') :
  t=t'∧K=K'∧∀ i,Rch n m may (ua U) (fun k=>sa K k=true) i↔Rch n m may (ua U') (fun k=>sa K' k=true) i:=by
 have hr:∀ k,k<n→row m (ua U) k=row m (ua U') k:=h.c.uniq h'.c
 have hK:K=K':=by
  apply List.ext_getElem (by rw [h.kl,h'.kl])
  intro k h1 h2
  have a:=h.k1 k (by rw [←h.kl]; exact h1)
  have b:=h'.k1 k (by rw [←h'.kl]; exact h2)
  rw [hr k (by rw [←h.kl]; exact h1),←b] at a
  simpa [sa,List.getD_eq_getElem?_getD,List.getElem?_eq_getElem h1,List.getElem?_eq_getElem h2] using a
 refine ⟨by rw [h.t,h'.t]; exact kaE hr,hK,fun i=>⟨fun r=>?_,fun r=>?_⟩⟩
 ·refine kmW h'.v h.v (fun k hk=>(hr k hk).symm) (fun k hk hl=>h'.st k hk ?_) (hK ▸ r)
  rw [h'.k1 k hk] at hl; simpa using hl
 ·refine kmW h.v h'.v hr (fun k hk hl=>h.st k hk ?_) (hK ▸ r)
  rw [h.k1 k hk] at hl; simpa using hl
end Go.Abs.Fl
namespace Go.Abs.Fl
open Go Go.Abs
variable {n m:Nat} {cap:Nat→Int} {may:Nat→Nat→Prop}
def Edg (m:Nat) (may:Nat→Nat→Prop) (U:List (List Int)) (i k:Nat):Prop:=∃ j,j<m∧may i j∧0<ua U k j
structure Vis (n m:Nat) (may:Nat→Nat→Prop) (U:List (List Int)) (i:Nat) (s s':List Bool):Prop where
 l:s'.length=n
 mono:∀ k,sa s k=true→sa s' k=true
 at0:sa s' i=true
 r:∀ P:Nat→Prop,(∀ a b,b<n→P a→Edg m may U a b→P b)→P i→∀ k,sa s' k=true→sa s k=false→P k
 c:∀ k,sa s' k=true→sa s k=false→∀ k',k'<n→Edg m may U k k'→sa s' k'=true
theorem sa_lt {s:List Bool} {k:Nat} (h:sa s k=true):k<s.length:=by
 by_cases e:k<s.length
 ·exact e
 ·unfold sa at h
  rw [List.getD_eq_getElem?_getD,List.getElem?_eq_none (by omega)] at h
  cases h
theorem kqU {M:List (List Int)} {N:List It3} {U:List (List Int)} {L:List Int} (hM:MayL n m may M) (hn:n≤1000) (sh:Shp n m U L):∀ (fuel i:Nat) (s:List Bool),i<n→s.length=n→uns s<fuel→
  ∃ s',kaJ fuel (i:Int) s (some (N,M,U,L))=some (s',some (N,M,U,L))∧Vis n m may U i s s':=by
 intro fuel
 induction fuel with
 | zero=>intro i s _ _ h; omega
 | succ fuel ih=>
  intro i s hi hs hf
  unfold kaJ kev
  have g0:gi s (i:Int)=some (sa s i):=gs hs hi
  cases hsi:sa s i with
  | true=>
   refine ⟨s,by simp only [g0,hsi,Option.bind_some,if_true],hs,fun _ h=>h,hsi,fun P _ _ k h1 h2=>?_,fun k h1 h2=>?_⟩
   ·rw [h1] at h2; cases h2
   ·rw [h1] at h2; cases h2
  | false=>
  have gM:gi M (i:Int)=some (M.getD i []):=gi_D [] (by rw [hM.l]; exact hi)
  generalize hJ:M.getD i []=J at gM
  have hJ1:∀ x∈J,∃ j,j<m∧x=(j:Int)∧may i j:=by rw [←hJ]; exact hM.a i hi
  have hJ2:∀ j,j<m→may i j→(j:Int)∈J:=by rw [←hJ]; exact hM.b i hi
  have hJl:J.length≤1000:=by rw [←hJ]; exact hM.s i hi
  have hset:lset s (i:Int) true=s.set i true:=rfl
  have hs0:(s.set i true).length=n:=by simp [hs]
  have hu0:uns (s.set i true)<fuel:=by have:=kii (s:=s) (j:=i) (by omega) hsi; omega
  have sis:∀ k,sa (s.set i true) k=if k=i then true else sa s k:=kdn (by omega)
  let Q:List Bool→Prop:=fun s1=>s1.length=n∧(∀ k,sa (s.set i true) k=true→sa s1 k=true)∧
   (∀ P:Nat→Prop,(∀ a b,b<n→P a→Edg m may U a b→P b)→P i→∀ k,sa s1 k=true→sa s k=false→P k)∧
   (∀ k,sa s1 k=true→sa (s.set i true) k=false→∀ k',k'<n→Edg m may U k k'→sa s1 k'=true)
  have hQu:∀ s1,Q s1→uns s1<fuel:=fun s1 q=>by
   have:=keL (s:=s.set i true) (s':=s1) (by rw [q.1,hs0]) q.2.1
   omega
  have hlU:lenI U=(n:Int):=by rw [kag,sh.u]
  obtain ⟨z,hz,s',rfl,q1,q2⟩:=iter_inv (F:=kbE (kaJ fuel) J)
   (fun x=>∃ t s1,t≤J.length∧x=((t:Int),some (N,M,U,L),s1)∧Q s1∧∀ (t':Nat) (j:Nat),t'<t→J[t']?=some (j:Int)→∀ k',k'<n→0<ua U k' j→sa s1 k'=true) (fun x=>J.length-x.1.toNat)
   (fun z=>∃ s1,z=(some (N,M,U,L),s1)∧Q s1∧∀ (t':Nat) (j:Nat),t'<J.length→J[t']?=some (j:Int)→∀ k',k'<n→0<ua U k' j→sa s1 k'=true)
   (fun x hx=>by
    obtain ⟨t,s1,ht,rfl,q,qt⟩:=hx
    by_cases hlt:t<J.length
    ·obtain ⟨j,hj,hxj,hmj⟩:=hJ1 J[t] (List.getElem_mem hlt)
     have g1:gi J (t:Int)=some (j:Int):=by rw [kao hlt,hxj]
     have hw:w64 ((t:Int)+1)=((t+1:Nat):Int):=kal (by omega)
     have hlen:decide ((t:Int)<lenI J)=true:=lenI_lt.2 hlt
     obtain ⟨z,hz,s3,rfl,p1,p2,p3⟩:=iter_inv (F:=kbd (kaJ fuel) (j:Int) (N,M,U,L))
      (fun x=>∃ k s3,k≤n∧x=((k:Int),some (N,M,U,L),s3)∧Q s3∧(∀ k',sa s1 k'=true→sa s3 k'=true)∧∀ k',k'<k→0<ua U k' j→sa s3 k'=true) (fun x=>n-x.1.toNat)
      (fun z=>∃ s3,z=(some (N,M,U,L),s3)∧Q s3∧(∀ k',sa s1 k'=true→sa s3 k'=true)∧∀ k',k'<n→0<ua U k' j→sa s3 k'=true)
      (fun x hx=>by
       obtain ⟨k,s3,hk,rfl,p1,p2,p3⟩:=hx
       by_cases hkn:k<n
       ·have hw:w64 ((k:Int)+1)=((k+1:Nat):Int):=kal (by omega)
        have hk1:decide ((k:Int)<lenI U)=true:=by rw [hlU]; simp; omega
        have f1:=sh.gu hkn
        have f2:=sh.guj hkn hj
        by_cases hp:0<ua U k j
        ·obtain ⟨s4,hr,v⟩:=ih k s3 hkn p1.1 (hQu s3 p1)
         refine .inr ⟨((k+1:Nat),some (N,M,U,L),s4),?_,⟨k+1,s4,by omega,rfl,⟨v.l,fun k' h=>v.mono k' (p1.2.1 k' h),fun P hP hPi k' h1 h2=>?_,fun k' h1 h2 k2 hk2 he=>?_⟩,fun k' h=>v.mono k' (p2 k' h),fun k' hk' hp'=>?_⟩,by simp only [Int.toNat_natCast]; omega⟩
         ·unfold kbd
          simp only [hk1,if_true,f1,f2,Option.bind_some,decide_eq_true hp,hr,hw]
         ·cases h3:sa s3 k' with
          | true=>exact p1.2.2.1 P hP hPi k' h3 h2
          | false=>exact v.r P hP (hP i k hkn hPi ⟨j,hj,hmj,hp⟩) k' h1 h3
         ·cases h3:sa s3 k' with
          | true=>exact v.mono _ (p1.2.2.2 k' h3 h2 k2 hk2 he)
          | false=>exact v.c k' h1 h3 k2 hk2 he
         ·by_cases e:k'=k
          ·subst e; exact v.at0
          ·exact v.mono _ (p3 k' (by omega) hp')
        ·refine .inr ⟨((k+1:Nat),some (N,M,U,L),s3),?_,⟨k+1,s3,by omega,rfl,p1,p2,fun k' hk' hp'=>?_⟩,by simp only [Int.toNat_natCast]; omega⟩
         ·unfold kbd
          simp only [hk1,if_true,f1,f2,Option.bind_some,decide_eq_false hp,Bool.false_eq_true,if_false,hw]
         ·by_cases e:k'=k
          ·subst e; exact absurd hp' hp
          ·exact p3 k' (by omega) hp'
       ·have hk2:¬ decide ((k:Int)<lenI U)=true:=by rw [hlU]; simp; omega
        have:k=n:=by omega
        subst this
        refine .inl ⟨(some (N,M,U,L),s3),?_,s3,rfl,p1,p2,p3⟩
        unfold kbd
        simp only [hk2,if_false]
        rfl)
      (0,some (N,M,U,L),s1) ⟨0,s1,by omega,rfl,q,fun _ h=>h,fun k' h=>by omega⟩ (by simp only; omega)
     refine .inr ⟨((t+1:Nat),some (N,M,U,L),s3),?_,⟨t+1,s3,by omega,rfl,p1,fun t' j' ht' hx' k' hk' hp'=>?_⟩,by simp only [Int.toNat_natCast]; omega⟩
     ·unfold kbE
      simp only [hlen,if_true,g1,Option.bind_some,hz,hw]
     ·by_cases e:t'=t
      ·subst e
       rw [List.getElem?_eq_getElem hlt,hxj] at hx'
       have:j=j':=by injection hx' with h; omega
       subst this; exact p3 k' hk' hp'
      ·exact p2 _ (qt t' j' (by omega) hx' k' hk' hp')
    ·have:t=J.length:=by omega
     subst this
     refine .inl ⟨(some (N,M,U,L),s1),?_,s1,rfl,q,qt⟩
     unfold kbE
     rw [if_neg kaH])
   (0,some (N,M,U,L),s.set i true) ⟨0,s.set i true,by omega,rfl,⟨hs0,fun _ h=>h,fun P hP hPi k h1 h2=>(by
    rw [sis] at h1
    by_cases e:k=i
    ·rw [e]; exact hPi
    ·rw [if_neg e,h2] at h1; cases h1),fun k h1 h2=>(by rw [h1] at h2; cases h2)⟩,fun t' j h=>by omega⟩ (by simp only; omega)
  refine ⟨s',by simp only [g0,hsi,Option.bind_some,Bool.false_eq_true,if_false,gM,hset,hz],q1.1,fun k h=>q1.2.1 k (by rw [sis]; split; rfl; exact h),q1.2.1 i (by rw [sis,if_pos rfl]),q1.2.2.1,fun k h1 h2 k' hk' he=>?_⟩
  by_cases e:k=i
  ·subst e
   obtain ⟨j,hj,hm,hp⟩:=he
   obtain ⟨t',ht',e⟩:=List.mem_iff_getElem.1 (hJ2 j hj hm)
   exact q2 t' j ht' (by rw [List.getElem?_eq_getElem ht',e]) k' hk' hp
  ·exact q1.2.2.2 k h1 (by rw [sis,if_neg e]; exact h2) k' hk' he
def idx (s:List Bool) (n:Nat):List Int:=((List.range n).filter fun k=>sa s k).map fun (k:Nat)=>(k:Int)
theorem ksO (s:List Bool) (n:Nat):idx s (n+1)=if sa s n=true then idx s n++[(n:Int)] else idx s n:=by
 unfold idx
 rw [List.range_succ,List.filter_append,List.map_append]
 cases h:sa s n <;> simp [h]
theorem kmr (s:List Bool) (n:Nat):(idx s n).length≤n:=by
 unfold idx
 rw [List.length_map]
 exact Nat.le_trans (List.length_filter_le _ _) (by simp)
theorem collect {F:Int×List Int→Option ((Int×List Int)⊕List Int)} {s:List Bool} (hs:s.length≤1000)
  (h1:∀ (i:Nat) (l:List Int),i<s.length→l.length≤1000→F ((i:Int),l)=some (.inl (((i+1:Nat):Int),if sa s i=true then l++[(i:Int)] else l))) (h2:∀ l,F ((s.length:Int),l)=some (.inr l)):iter F (0,[])=some (idx s s.length):=by
 obtain ⟨z,hz,rfl⟩:=iter_inv (F:=F) (fun x=>∃ i:Nat,i≤s.length∧x=((i:Int),idx s i)) (fun x=>s.length-x.1.toNat) (fun z=>z=idx s s.length)
  (fun x hx=>by
   obtain ⟨i,hi,rfl⟩:=hx
   by_cases hlt:i<s.length
   ·exact .inr ⟨_,h1 i _ hlt (by have:=kmr s i; omega),⟨i+1,by omega,by rw [ksO]⟩,by simp only [Int.toNat_natCast]; omega⟩
   ·have:i=s.length:=by omega
    subst this
    exact .inl ⟨_,h2 _,rfl⟩)
  (0,[]) ⟨0,by omega,rfl⟩ (by simp only; omega)
 exact hz
theorem krL {s s':List Bool} (h:∀ k,k<n→sa s k=sa s' k):idx s n=idx s' n:=by
 unfold idx
 congr 1
 exact List.filter_congr fun k hk=>h k (List.mem_range.1 hk)
theorem ktC {M:List (List Int)} {N:List It3} {U:List (List Int)} {L:List Int} {K:List Bool} (hM:MayL n m may M) (hn:n≤1000) (hmm:m≤1000) (sh:Shp n m U L) (hK:K.length=n) :
  ∃ s,s.length=n∧kbS (some (N,M,U,L)) K=some (idx s n)∧∀ k,k<n→(sa s k=true↔Rch n m may (ua U) (fun k=>sa K k=true) k):=by
 unfold kbS
 have hg:gmk (lenI K) false=some (List.replicate n false):=by
  unfold gmk
  rw [kag,hK,if_pos (by omega),Int.toNat_natCast]
 have h0:∀ j,sa (List.replicate n false) j=false:=fun j=>by
  unfold sa
  rw [List.getD_eq_getElem?_getD,List.getElem?_replicate]
  split <;> rfl
 obtain ⟨z,hz,q1,q2,q3,q4⟩:=iter_inv (F:=kby K)
  (fun x=>∃ (i:Nat) (s:List Bool),i≤n∧x=((i:Int),s,some (N,M,U,L))∧s.length=n∧(∀ k,k<i→sa K k=true→sa s k=true)∧(∀ k,sa s k=true→Rch n m may (ua U) (fun k=>sa K k=true) k)∧(∀ k,sa s k=true→∀ k',k'<n→Edg m may U k k'→sa s k'=true)) (fun x=>n-x.1.toNat)
  (fun s=>s.length=n∧(∀ k,k<n→sa K k=true→sa s k=true)∧(∀ k,sa s k=true→Rch n m may (ua U) (fun k=>sa K k=true) k)∧(∀ k,sa s k=true→∀ k',k'<n→Edg m may U k k'→sa s k'=true))
  (fun x hx=>by
   obtain ⟨i,s,hi,rfl,q1,q2,q3,q4⟩:=hx
   by_cases hlt:i<n
   ·have g1:gi K (i:Int)=some (sa K i):=gs hK hlt
    have hw:w64 ((i:Int)+1)=((i+1:Nat):Int):=kal (by omega)
    have hlen:decide ((i:Int)<lenI K)=true:=lenI_lt.2 (by omega)
    cases hk:sa K i with
    | true=>
     obtain ⟨s',hv,v⟩:=kqU (N:=N) hM hn sh 1000000 i s hlt q1 (by
      have:uns s≤n:=by
       unfold uns
       have:=List.countP_le_length (p:=fun b=>!b) (l:=s)
       omega
      omega)
     have hv':kce (i:Int) s (some (N,M,U,L))=some (s',some (N,M,U,L)):=hv
     refine .inr ⟨((i+1:Nat),s',some (N,M,U,L)),?_,⟨i+1,s',by omega,rfl,v.l,fun k hk' hK'=>?_,fun k h=>?_,fun k h k' hk' he=>?_⟩,by simp only [Int.toNat_natCast]; omega⟩
     ·unfold kby
      simp only [hlen,if_true,g1,hk,hv',Option.bind_some,hw]
     ·by_cases e:k=i
      ·subst e; exact v.at0
      ·exact v.mono _ (q2 k (by omega) hK')
     ·cases h3:sa s k with
      | true=>exact q3 k h3
      | false=>exact v.r (fun k=>Rch n m may (ua U) (fun k=>sa K k=true) k) (fun a b hb hP he=>by
        obtain ⟨j,hj,hm,hp⟩:=he
        exact .step hP hj hm hb hp) (.base hlt hk) k h h3
     ·cases h3:sa s k with
      | true=>exact v.mono _ (q4 k h3 k' hk' he)
      | false=>exact v.c k h h3 k' hk' he
    | false=>
     refine .inr ⟨((i+1:Nat),s,some (N,M,U,L)),?_,⟨i+1,s,by omega,rfl,q1,fun k hk' hK'=>?_,q3,q4⟩,by simp only [Int.toNat_natCast]; omega⟩
     ·unfold kby
      simp only [hlen,if_true,g1,hk,Option.bind_some,Bool.false_eq_true,if_false,hw]
     ·by_cases e:k=i
      ·subst e; rw [hk] at hK'; cases hK'
      ·exact q2 k (by omega) hK'
   ·have:i=n:=by omega
    subst this
    refine .inl ⟨s,?_,q1,q2,q3,q4⟩
    unfold kby
    rw [if_neg (by rw [←hK]; exact kaH)])
  (0,List.replicate n false,some (N,M,U,L)) ⟨0,_,by omega,rfl,by simp,fun k h=>by omega,fun k h=>(by rw [h0] at h; cases h),fun k h=>(by rw [h0] at h; cases h)⟩ (by simp only; omega)
 refine ⟨z,q1,?_,fun k hk=>⟨q3 k,fun h=>?_⟩⟩
 ·rw [hg]
  simp only [Option.bind_some,hz]
  rw [collect (s:=z) (F:=kcd z) (by omega) (fun i l hi hl=>by
   have g:gi z (i:Int)=some (sa z i):=gs rfl hi
   have hw:w64 ((i:Int)+1)=((i+1:Nat):Int):=kal (by omega)
   unfold kcd
   simp only [lenI_lt.2 hi,if_true,g,Option.bind_some,hw]
   cases sa z i with
   | true=>simp only [if_true]; rw [kcg (by simp; omega)]; rfl
   | false=>rfl) (fun l=>by unfold kcd; rw [if_neg kaH])]
  rw [q1]; rfl
 ·induction h with
  | base a b=>exact q2 _ a b
  | step a b c d e ih=>exact q4 _ (ih a.lt) _ d ⟨_,b,c,e⟩
theorem ktt {B:List (List Bool)} {U:List (List Int)} {L:List Int} {K:List Bool} (hB:MayB n m may B) (hn:n≤1000) (hmm:m≤1000) (sh:Shp n m U L) (hK:K.length=n) :
  ∃ s,s.length=n∧kec (B,U,L) K=some (idx s n)∧∀ k,k<n→(sa s k=true↔Rch n m may (ua U) (fun k=>sa K k=true) k):=by
 unfold kec
 have hg:gapp [] K=some K:=by rw [kcg (by simp; omega)]; rfl
 let R:Nat→Prop:=fun k=>Rch n m may (ua U) (fun k=>sa K k=true) k
 let Pr:List Bool→Bool×List Bool→Prop:=fun s0 x=>x.2.length=n∧(∀ k,sa s0 k=true→sa x.2 k=true)∧(∀ k,sa x.2 k=true→R k)∧(x.1=false→x.2=s0)∧(x.1=true→uns x.2<uns s0)
 have hlL:lenI L=(m:Int):=by rw [kag,sh.l]
 have l3:∀ (s0:List Bool) (i j:Nat) (x2 x3:Bool×List Bool),i<n→j<m→s0.length=n→R i→Pr s0 x3→∃ y,iter (kaR (B,U,L) ((i:Int),x2) ((j:Int),x3)) (0,x3)=some y∧Pr s0 y∧(x3.1=true→y.1=true)∧(y.1=false→∀ k',k'<n→may i j→0<ua U k' j→sa s0 k'=true):=by
  intro s0 i j x2 x3 hi hj hs0 hRi hP
  have gB:gi B (i:Int)=some (B.getD i []):=gi_D [] (by rw [hB.l]; exact hi)
  have gBj:gi (B.getD i []) (j:Int)=some (sa (B.getD i []) j):=gi_D false (by rw [hB.r i hi]; exact hj)
  cases hm:sa (B.getD i []) j with
  | false=>
   refine ⟨x3,kfq (n:=1) (kcK ?_) (by omega),hP,fun h=>h,fun h k' _ hm'=>?_⟩
   ·unfold kaR
    simp only [gB,gBj,hm,Option.bind_some,Bool.false_eq_true,if_false]
   ·rw [(hB.a i hi j hj).2 hm'] at hm; cases hm
  | true=>
  have hmay:=(hB.a i hi j hj).1 hm
  obtain ⟨z,hz,h1,h2,h3⟩:=iter_inv (F:=kaR (B,U,L) ((i:Int),x2) ((j:Int),x3))
   (fun x=>∃ (k:Nat) (y:Bool×List Bool),k≤n∧x=((k:Int),y)∧Pr s0 y∧(x3.1=true→y.1=true)∧(y.1=false→∀ k',k'<k→0<ua U k' j→sa s0 k'=true)) (fun x=>n-x.1.toNat)
   (fun y=>Pr s0 y∧(x3.1=true→y.1=true)∧(y.1=false→∀ k',k'<n→0<ua U k' j→sa s0 k'=true))
   (fun x hx=>by
    obtain ⟨k,⟨ch,s1⟩,hk,rfl,h1,h2,h3⟩:=hx
    obtain ⟨p1,p2,p3,p4,p5⟩:=h1
    simp only at p1 p2 p3 p4 p5 h2 h3
    by_cases hkn:k<n
    ·have hw:w64 ((k:Int)+1)=((k+1:Nat):Int):=kal (by omega)
     have hlen:decide ((k:Int)<lenI s1)=true:=lenI_lt.2 (by omega)
     have f1:=sh.gu hkn
     have f2:=sh.guj hkn hj
     have f3:gi s1 (k:Int)=some (sa s1 k):=gs p1 hkn
     by_cases hp:0<ua U k j
     ·cases hsk:sa s1 k with
      | true=>
       refine .inr ⟨((k+1:Nat),ch,s1),?_,⟨k+1,(ch,s1),by omega,rfl,⟨p1,p2,p3,p4,p5⟩,h2,fun hc k' hk' hp'=>?_⟩,by simp only [Int.toNat_natCast]; omega⟩
       ·unfold kaR
        simp only [gB,gBj,hm,Option.bind_some,if_true,hlen,f1,f2,f3,decide_eq_true hp,hsk,Bool.not_true,Bool.false_eq_true,if_false,hw]
       ·by_cases e:k'=k
        ·subst e; rw [←p4 hc]; exact hsk
        ·exact h3 hc k' (by omega) hp'
      | false=>
       refine .inr ⟨((k+1:Nat),true,s1.set k true),?_,⟨k+1,(true,s1.set k true),by omega,rfl,⟨by simp [p1],fun k' h=>?_,fun k' h=>?_,fun h=>(by cases h),fun _=>?_⟩,fun _=>rfl,fun h=>(by cases h)⟩,by simp only [Int.toNat_natCast]; omega⟩
       ·unfold kaR
        simp only [gB,gBj,hm,Option.bind_some,if_true,hlen,f1,f2,f3,decide_eq_true hp,hsk,Bool.not_false,hw]
        rfl
       ·simp only
        rw [kdn (by omega)]; split
        ·rfl
        ·exact p2 k' h
       ·simp only at h
        rw [kdn (by omega)] at h
        by_cases e:k'=k
        ·subst e; exact .step hRi hj hmay hkn hp
        ·rw [if_neg e] at h; exact p3 k' h
       ·have e1:=kii (s:=s1) (j:=k) (by omega) hsk
        have e2:=keL (s:=s0) (s':=s1) (by rw [p1,hs0]) p2
        simp only
        omega
     ·refine .inr ⟨((k+1:Nat),ch,s1),?_,⟨k+1,(ch,s1),by omega,rfl,⟨p1,p2,p3,p4,p5⟩,h2,fun hc k' hk' hp'=>?_⟩,by simp only [Int.toNat_natCast]; omega⟩
      ·unfold kaR
       simp only [gB,gBj,hm,Option.bind_some,if_true,hlen,f1,f2,decide_eq_false hp,Bool.false_eq_true,if_false,hw]
      ·by_cases e:k'=k
       ·subst e; exact absurd hp' hp
       ·exact h3 hc k' (by omega) hp'
    ·have:k=n:=by omega
     subst this
     have hlen:¬ decide ((k:Int)<lenI s1)=true:=by rw [←p1]; exact kaH
     refine .inl ⟨(ch,s1),?_,⟨p1,p2,p3,p4,p5⟩,h2,h3⟩
     unfold kaR
     simp only [gB,gBj,hm,Option.bind_some,if_true,hlen,Bool.false_eq_true,if_false])
   (0,x3) ⟨0,x3,by omega,rfl,hP,fun h=>h,fun _ k' h=>by omega⟩ (by simp only; omega)
  exact ⟨z,hz,h1,h2,fun hc k' hk' _ hp=>h3 hc k' hk' hp⟩
 have l2:∀ (s0:List Bool) (i:Nat) (x2:Bool×List Bool),i<n→s0.length=n→Pr s0 x2→∃ y,iter (kbB (B,U,L) ((i:Int),x2)) (0,x2)=some y∧Pr s0 y∧(x2.1=true→y.1=true)∧(y.1=false→sa s0 i=true→∀ k',k'<n→Edg m may U i k'→sa s0 k'=true):=by
  intro s0 i x2 hi hs0 hP
  obtain ⟨z,hz,h1,h2,h3⟩:=iter_inv (F:=kbB (B,U,L) ((i:Int),x2))
   (fun x=>∃ (j:Nat) (y:Bool×List Bool),j≤m∧x=((j:Int),y)∧Pr s0 y∧(x2.1=true→y.1=true)∧(y.1=false→∀ j',j'<j→∀ k',k'<n→may i j'→0<ua U k' j'→sa s0 k'=true)) (fun x=>m-x.1.toNat)
   (fun y=>Pr s0 y∧(x2.1=true→y.1=true)∧(y.1=false→sa s0 i=true→∀ k',k'<n→Edg m may U i k'→sa s0 k'=true))
   (fun x hx=>by
    obtain ⟨j,⟨ch,s1⟩,hj,rfl,h1,h2,h3⟩:=hx
    have p1:s1.length=n:=h1.1
    have f3:gi s1 (i:Int)=some (sa s1 i):=gs p1 hi
    cases hsi:sa s1 i with
    | false=>
     refine .inl ⟨(ch,s1),?_,h1,h2,fun hc hs=>?_⟩
     ·unfold kbB
      simp only [f3,hsi,Option.bind_some,Bool.false_eq_true,if_false]
     ·have:s1=s0:=h1.2.2.2.1 hc
      rw [←this,hsi] at hs; cases hs
    | true=>
    by_cases hjm:j<m
    ·have hw:w64 ((j:Int)+1)=((j+1:Nat):Int):=kal (by omega)
     have hlen:decide ((j:Int)<lenI L)=true:=by rw [hlL]; simp; omega
     obtain ⟨y,hy,a,b,c⟩:=l3 s0 i j x2 (ch,s1) hi hjm hs0 (h1.2.2.1 i hsi) h1
     refine .inr ⟨((j+1:Nat),y),?_,⟨j+1,y,by omega,rfl,a,fun h=>b (h2 h),fun hc j' hj' k' hk' hm hp=>?_⟩,by simp only [Int.toNat_natCast]; omega⟩
     ·unfold kbB
      simp only [f3,hsi,Option.bind_some,if_true,hlen,hy,hw]
     ·by_cases e:j'=j
      ·subst e; exact c hc k' hk' hm hp
      ·have hch:ch=false:=by
        cases hch:ch with
        | false=>rfl
        | true=>rw [b hch] at hc; cases hc
       exact h3 hch j' (by omega) k' hk' hm hp
    ·have:j=m:=by omega
     subst this
     have hlen:¬ decide ((j:Int)<lenI L)=true:=by rw [hlL]; simp
     refine .inl ⟨(ch,s1),?_,h1,h2,fun hc _ k' hk' he=>?_⟩
     ·unfold kbB
      simp only [f3,hsi,Option.bind_some,if_true,hlen,Bool.false_eq_true,if_false]
     ·obtain ⟨j',hj',hm,hp⟩:=he
      exact h3 hc j' hj' k' hk' hm hp)
   (0,x2) ⟨0,x2,by omega,rfl,hP,fun h=>h,fun _ j' h=>by omega⟩ (by simp only; omega)
  exact ⟨z,hz,h1,h2,h3⟩
 have l1:∀ (s0:List Bool),s0.length=n→(∀ k,sa s0 k=true→R k)→∃ y,iter (kbU (B,U,L)) (0,false,s0)=some y∧Pr s0 y∧(y.1=false→∀ i,i<n→sa s0 i=true→∀ k',k'<n→Edg m may U i k'→sa s0 k'=true):=by
  intro s0 hs0 hR
  obtain ⟨z,hz,h1,h3⟩:=iter_inv (F:=kbU (B,U,L))
   (fun x=>∃ (i:Nat) (y:Bool×List Bool),i≤n∧x=((i:Int),y)∧Pr s0 y∧(y.1=false→∀ i',i'<i→sa s0 i'=true→∀ k',k'<n→Edg m may U i' k'→sa s0 k'=true)) (fun x=>n-x.1.toNat)
   (fun y=>Pr s0 y∧(y.1=false→∀ i,i<n→sa s0 i=true→∀ k',k'<n→Edg m may U i k'→sa s0 k'=true))
   (fun x hx=>by
    obtain ⟨i,⟨ch,s1⟩,hi,rfl,h1,h3⟩:=hx
    have p1:s1.length=n:=h1.1
    by_cases hin:i<n
    ·have hw:w64 ((i:Int)+1)=((i+1:Nat):Int):=kal (by omega)
     have hlen:decide ((i:Int)<lenI s1)=true:=lenI_lt.2 (by omega)
     obtain ⟨y,hy,a,b,c⟩:=l2 s0 i (ch,s1) hin hs0 h1
     refine .inr ⟨((i+1:Nat),y),?_,⟨i+1,y,by omega,rfl,a,fun hc i' hi' hs'=>?_⟩,by simp only [Int.toNat_natCast]; omega⟩
     ·unfold kbU
      simp only [hlen,if_true,hy,Option.bind_some,hw]
     ·by_cases e:i'=i
      ·subst e; exact c hc hs'
      ·have hch:ch=false:=by
        cases hch:ch with
        | false=>rfl
        | true=>rw [b hch] at hc; cases hc
       exact h3 hch i' (by omega) hs'
    ·have:i=n:=by omega
     subst this
     refine .inl ⟨(ch,s1),?_,h1,h3⟩
     unfold kbU
     simp only
     rw [if_neg (by rw [←p1]; exact kaH)])
   (0,false,s0) ⟨0,(false,s0),by omega,rfl,⟨hs0,fun _ h=>h,hR,fun _=>rfl,fun h=>(by cases h)⟩,fun _ i' h=>by omega⟩ (by simp only; omega)
  exact ⟨z,hz,h1,h3⟩
 obtain ⟨z,hz,q1,q2,q3,q4⟩:=iter_inv (F:=kcO (B,U,L))
  (fun x=>x.2.length=n∧(∀ k,sa K k=true→sa x.2 k=true)∧(∀ k,sa x.2 k=true→R k)∧(x.1=false→∀ i,i<n→sa x.2 i=true→∀ k',k'<n→Edg m may U i k'→sa x.2 k'=true)) (fun x=>if x.1=true then uns x.2+1 else 0)
  (fun s=>s.length=n∧(∀ k,sa K k=true→sa s k=true)∧(∀ k,sa s k=true→R k)∧(∀ i,i<n→sa s i=true→∀ k',k'<n→Edg m may U i k'→sa s k'=true))
  (fun x hx=>by
   obtain ⟨ch,s0⟩:=x
   obtain ⟨q1,q2,q3,q4⟩:=hx
   simp only at q1 q2 q3 q4
   cases ch with
   | true=>
    obtain ⟨⟨ch',s1⟩,hy,a,b⟩:=l1 s0 q1 q3
    refine .inr ⟨(ch',s1),?_,⟨a.1,fun k h=>a.2.1 k (q2 k h),a.2.2.1,fun hc=>?_⟩,?_⟩
    ·unfold kcO
     simp only [if_true,hy,Option.bind_some]
    ·have e:s1=s0:=a.2.2.2.1 hc
     rw [e]; exact b hc
    ·simp only [if_true]
     cases hch:ch' with
     | true=>have:uns s1<uns s0:=a.2.2.2.2 hch; simp only [if_true]; omega
     | false=>simp
   | false=>
    refine .inl ⟨s0,?_,q1,q2,q3,q4 rfl⟩
    unfold kcO
    simp only [Bool.false_eq_true,if_false])
  (true,K) ⟨hK,fun _ h=>h,fun k h=>.base (by rw [←hK]; exact sa_lt h) h,fun h=>(by cases h)⟩ (by
   have:uns K≤n:=by
    unfold uns
    have:=List.countP_le_length (p:=fun b=>!b) (l:=K)
    omega
   simp only [if_true]; omega)
 refine ⟨z,q1,?_,fun k hk=>⟨q3 k,fun h=>?_⟩⟩
 ·rw [hg]
  simp only [Option.bind_some,hz]
  rw [collect (s:=z) (F:=kcQ z) (by omega) (fun i l hi hl=>by
   have g:gi z (i:Int)=some (sa z i):=gs rfl hi
   have hw:w64 ((i:Int)+1)=((i+1:Nat):Int):=kal (by omega)
   unfold kcQ
   simp only [lenI_lt.2 hi,if_true,g,Option.bind_some,hw]
   cases sa z i with
   | true=>simp only [if_true]; rw [kcg (by simp; omega)]; rfl
   | false=>rfl) (fun l=>by unfold kcQ; rw [if_neg kaH])]
  rw [q1]; rfl
 ·induction h with
  | base a b=>exact q2 _ b
  | step a b c d e ih=>exact q4 _ a.lt (ih a.lt) _ d ⟨_,b,c,e⟩
end Go.Abs.Fl
namespace Go.Abs
open Go Go.Abs.Fl
theorem klm {a b:List It} (ha:a.length≤1000) (hb:b.length≤1000):kdt [a,b]=some (if stk a=true∧stk b=true then 0 else 8):=by
 unfold kdt
 rw [kcD (F:=keb [a,b]) [a,b] (by simp) (fun i x=>if stk x then none else some 8) (fun i hi=>by
  have h2:i<2:=by simpa using hi
  unfold keb
  rw [if_pos (by rw [kag]; simp; omega),kao hi,kal (by omega)]
  have hl:[a,b][i].length≤1000:=by
   have:[a,b][i]∈[a,b]:=List.getElem_mem _
   simp only [List.mem_cons,List.not_mem_nil,or_false] at this
   rcases this with e | e <;> rw [e] <;> assumption
  simp only [Option.bind_some,knY _ hl]
  by_cases h:stk [a,b][i]=true <;> simp [h,nextL]) (by unfold keb; rw [if_neg (by simp [kag])])]
 simp only [List.zipIdx_cons,List.zipIdx_nil,List.findSome?_cons,List.findSome?_nil]
 by_cases h1:stk a=true <;> by_cases h2:stk b=true <;> simp [h1,h2,endL]
theorem lots1 (l:List It):∃ b,keU l=some b∧(b=false→l.length≤40):=by
 unfold keU
 rw [kag]
 by_cases hl:(40:Int)<l.length
 ·exact ⟨true,by rw [if_pos (by simpa using hl)],fun h=>by cases h⟩
 ·rw [if_neg (by simpa using hl)]
  have:∀ (k i:Nat) (v:Int),i+k=l.length→∃ r,itN (kdm l) (k+1) ((i:Int),v)=some r:=by
   intro k
   induction k with
   | zero=>
    intro i v h
    refine ⟨v,kcK ?_⟩
    unfold kdm
    rw [if_neg (by rw [kag]; simp; omega)]
   | succ k ih=>
    intro i v h
    have hi:i<l.length:=by omega
    by_cases hw:(decide (0≤l[i].2.2)&&decide (l[i].2.2≤1000))=true
    ·obtain ⟨r,hr⟩:=ih (i+1) (w64 (v+l[i].2.2)) (by omega)
     refine ⟨r,?_⟩
     rw [←hr]
     refine kgM ?_
     unfold kdm
     rw [if_pos (by rw [kag]; simpa using hi),kao hi,kal (by omega)]
     simp only [Option.bind_some,kdx,hw,if_true]
    ·obtain ⟨r,hr⟩:=ih (i+1) v (by omega)
     refine ⟨r,?_⟩
     rw [←hr]
     refine kgM ?_
     unfold kdm
     rw [if_pos (by rw [kag]; simpa using hi),kao hi,kal (by omega)]
     simp only [Option.bind_some,kdx,hw,if_false]
     rw [if_neg (by simp)]
  obtain ⟨r,hr⟩:=this l.length 0 0 (by omega)
  refine ⟨decide (8000<r),?_,fun _=>by omega⟩
  rw [show ((0:Int),(0:Int))=(((0:Nat):Int),0) from rfl,kfq hr (by omega)]; rfl
theorem ktj (a b:List It):∃ c,kgn [a,b]=some c∧(c=false→a.length≤40∧b.length≤40):=by
 obtain ⟨u,hu,hu2⟩:=lots1 a
 obtain ⟨v,hv,hv2⟩:=lots1 b
 refine ⟨u||v,?_,fun h=>?_⟩
 ·unfold kgn
  rw [kcD (F:=keA [a,b]) [a,b] (by simp) (fun i x=>if keU x=some true then some true else none) (fun i hi=>by
   have h2:i<2:=by simpa using hi
   unfold keA
   rw [if_pos (by rw [kag]; simp; omega),kao hi,kal (by omega)]
   have hm:[a,b][i]∈[a,b]:=List.getElem_mem _
   simp only [List.mem_cons,List.not_mem_nil,or_false] at hm
   simp only [Option.bind_some]
   rcases hm with e | e
   ·rw [e,hu]; cases u <;> simp [nextL]
   ·rw [e,hv]; cases v <;> simp [nextL]) (by unfold keA; rw [if_neg (by simp [kag])])]
  simp only [List.zipIdx_cons,List.zipIdx_nil,List.findSome?_cons,List.findSome?_nil,hu,hv]
  cases u <;> cases v <;> simp [endL]
 ·rw [Bool.or_eq_false_iff] at h
  exact ⟨hu2 h.1,hv2 h.2⟩
def pOk (k c:Int):Bool:=decide (0≤k)&&decide (k≤15)&&decide (c≤15)
theorem ktl (x:Int×Int):kbK x=some (pOk x.1 x.2):=kgi (x.1,x.2,0)
theorem krR (k c:Int):kcn k c=some (pOk k c):=khn (k,c,0)
def swBad (x:Swap):Bool:=!pOk x.1 x.2.1||!pOk x.2.2.1 x.2.2.2||(x.1==x.2.2.1&&x.2.1==x.2.2.2)
def swE (l:List Swap):Int:=if l.length≤30∧l.any swBad=false then 0 else 2
theorem kjb {α:Type} {f:α→α→Bool} (h:∀ x,f x x=true):∀ l:List α,lbeq f l l=true
 | []=>rfl
 | x::l=>by simp [lbeq,h x,kjb h l]
theorem kdQ {t:Ty} {x:t.den} (h:teq t x x=true):bthO t (some x) (some x)=some x:=by
 unfold bthO
 simp only [h,if_true]
theorem kry (x:Swap):bthO tSwap (some x) (some x)=some x:=kdQ (by simp [teq])
theorem c1_eq (x:Swap):kbT x=some (swBad x):=by
 unfold kbT swBad
 rw [kry]
 simp only [Option.bind_some,ktl]
 cases pOk x.1 x.2.1 <;> cases pOk x.2.2.1 x.2.2.2 <;> simp
theorem kge (l:List Swap) (hl:l.length≤1000):kbq l=some (swE l):=by
 unfold kbq swE
 rw [kag]
 by_cases h30:(30:Int)<l.length
 ·rw [if_pos (by simpa using h30),if_neg (by omega)]
 ·rw [if_neg (by simpa using h30)]
  unfold kaP kaW
  have e:(fun u0:Swap=>(kbT u0).bind fun u1=>some u1)=fun u=>some (swBad u):=by funext u; rw [c1_eq]; rfl
  rw [e,kcD (F:=kaz l _) l (by omega) (fun i x=>if swBad x then some (i:Int) else none) (fun i hi=>by
   unfold kaz
   rw [if_pos (by rw [kag]; simpa using hi),kao hi,kal (by omega)]
   simp only [Option.bind_some]
   by_cases h:swBad l[i]=true <;> simp [h,nextL]) (by unfold kaz; rw [if_neg (by simp [kag])])]
  have:∀ (l:List Swap) (k:Nat),(endL ((l.zipIdx k).findSome? fun x=>if swBad x.1 then some (x.2:Int) else none) = .inr ()∧l.any swBad=false)∨∃ p:Int,0≤p∧endL ((l.zipIdx k).findSome? fun x=>if swBad x.1 then some (x.2:Int) else none) = .inl p∧l.any swBad=true:=by
   intro l
   induction l with
   | nil=>intro k; exact .inl ⟨rfl,rfl⟩
   | cons x l ih=>
    intro k
    rw [List.zipIdx_cons,List.findSome?_cons,List.any_cons]
    cases hp:swBad x with
    | true=>exact .inr ⟨k,by omega,by simp [endL],by simp⟩
    | false=>
     simp only [Bool.false_eq_true,if_false,Bool.false_or]
     exact ih (k+1)
  rcases this l 0 with ⟨h1,h2⟩ | ⟨p,hp,h1,h2⟩
  ·rw [h1,h2]
   have h30':l.length≤30:=by omega
   simp [h30']
  ·rw [h1,h2]
   simp only [Option.bind_some,decide_eq_true hp,if_true]
   rw [if_neg (by simp)]
theorem kfm (l:List Swap):kcr l=some (swE l):=by
 unfold kcr khC swE
 rw [kag]
 by_cases h30:(30:Int)<l.length
 ·rw [if_pos (by simpa using h30),if_neg (by omega)]; rfl
 ·rw [if_neg (by simpa using h30),kfO (F:=kea l) false l (by omega) (fun _ x=>swBad x) (fun i hi=>by
   unfold kea
   rw [if_pos (by rw [kag]; simpa using hi),kao hi,kal (by omega)]
   simp only [Option.bind_some,krR]
   unfold swBad
   cases pOk l[i].1 l[i].2.1 <;> cases pOk l[i].2.2.1 l[i].2.2.2 <;> cases (l[i].1==l[i].2.2.1) <;> cases (l[i].2.1==l[i].2.2.2) <;> simp) (by unfold kea; rw [if_neg (by simp [kag])])]
  rw [kmC swBad l 0]
  cases h:l.any swBad with
  | true=>simp
  | false=>simp; omega
def mayB (sw:List Swap) (a b:Int×Int):Bool:=(a.1==b.1&&a.2==b.2)||sw.any fun v=>a.1==v.1&&(a.2==v.2.1&&(b.1==v.2.2.1&&b.2==v.2.2.2))
theorem krg (sw:List Swap) (hl:sw.length≤1000) (a b:Int×Int):kfr sw a b=some (mayB sw a b):=by
 unfold kfr mayB
 cases hc:(a.1==b.1&&a.2==b.2) with
 | true=>simp
 | false=>
  simp only [Bool.false_eq_true,if_false,Bool.false_or]
  unfold kba kbm
  let q:Swap→Bool:=fun v=>a.1==v.1&&(a.2==v.2.1&&(b.1==v.2.2.1&&b.2==v.2.2.2))
  rw [kcD (F:=kaK sw _) sw (by omega) (fun i x=>if q x then some (i:Int) else none) (fun i hi=>by
   unfold kaK
   rw [if_pos (by rw [kag]; simpa using hi),kao hi,kal (by omega)]
   simp only [Option.bind_some]
   by_cases h:q sw[i]=true
   ·have h':=h
    simp only [q] at h'
    rw [if_pos h',if_pos h]; rfl
   ·have h':=h
    simp only [q] at h'
    rw [if_neg h',if_neg h]; rfl) (by unfold kaK; rw [if_neg (by simp [kag])])]
  have:∀ (l:List Swap) (k:Nat),(endL ((l.zipIdx k).findSome? fun x=>if q x.1 then some (x.2:Int) else none) = .inr ()∧l.any q=false)∨∃ p:Int,0≤p∧endL ((l.zipIdx k).findSome? fun x=>if q x.1 then some (x.2:Int) else none) = .inl p∧l.any q=true:=by
   intro l
   induction l with
   | nil=>intro k; exact .inl ⟨rfl,rfl⟩
   | cons x l ih=>
    intro k
    rw [List.zipIdx_cons,List.findSome?_cons,List.any_cons]
    cases hp:q x with
    | true=>exact .inr ⟨k,by omega,by simp [endL],by simp⟩
    | false=>
     simp only [Bool.false_eq_true,if_false,Bool.false_or]
     exact ih (k+1)
  rcases this sw 0 with ⟨h1,h2⟩ | ⟨p,hp,h1,h2⟩
  ·rw [h1,h2]; rfl
  ·rw [h1,h2]
   simp only [Option.bind_some,decide_eq_true hp]
theorem kjE (sw:List Swap) (hl:sw.length≤1000) (a b:Int×Int):kdb sw a.1 a.2 b.1 b.2=some (mayB sw a b):=by
 unfold kdb mayB
 have h0:(if (a.1==b.1)=true then some (a.2==b.2) else some false)=some (a.1==b.1&&a.2==b.2):=by cases (a.1==b.1) <;> simp
 rw [h0]
 simp only [Option.bind_some]
 cases hc:(a.1==b.1&&a.2==b.2) with
 | true=>simp
 | false=>
  simp only [Bool.false_eq_true,if_false,Bool.false_or]
  rw [kfO (F:=keW sw a.1 a.2 b.1 b.2) true sw (by omega) (fun _ v=>a.1==v.1&&(a.2==v.2.1&&(b.1==v.2.2.1&&b.2==v.2.2.2))) (fun i hi=>by
   unfold keW
   rw [if_pos (by rw [kag]; simpa using hi),kao hi,kal (by omega)]
   have e:(sw[i].1==a.1&&(sw[i].2.1==a.2&&(sw[i].2.2.1==b.1&&sw[i].2.2.2==b.2)))=(a.1==sw[i].1&&(a.2==sw[i].2.1&&(b.1==sw[i].2.2.1&&b.2==sw[i].2.2.2))):=by
    rw [Bool.beq_comm (a:=sw[i].1),Bool.beq_comm (a:=sw[i].2.1),Bool.beq_comm (a:=sw[i].2.2.1),Bool.beq_comm (a:=sw[i].2.2.2)]
   simp only [Option.bind_some,e]
   split <;> rfl) (by unfold keW; rw [if_neg (by simp [kag])])]
  rw [kmC (fun v:Swap=>a.1==v.1&&(a.2==v.2.1&&(b.1==v.2.2.1&&b.2==v.2.2.2))) sw 0]
  cases sw.any fun v=>a.1==v.1&&(a.2==v.2.1&&(b.1==v.2.2.1&&b.2==v.2.2.2)) <;> rfl
end Go.Abs
