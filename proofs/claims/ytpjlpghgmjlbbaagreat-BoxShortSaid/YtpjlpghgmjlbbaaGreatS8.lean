/- The functions and the law, part 8. -/
import Derived.Test.YtpjlpghgmjlbbaaGreatProg
import Derived.Test.YtpjlpghgmjlbbaaGreatZ3
import Derived.Test.YtpjlpghgmjlbbaaGreatZ6
set_option linter.constructorNameAsVariable false
set_option linter.unusedVariables false
set_option linter.unusedSimpArgs false
set_option linter.unusedSectionVars false
namespace Go.Abs
open Go
@[reducible] def kwe:Ty:=(.pr (.i .i64) (.sl (.i .i64)))
abbrev kai:=(Int×(List Int))
@[reducible] def tBill:Ty:=(.pr (.sl (.i .i64)) (.pr (.sl (.pr (.i .i64) (.pr (.i .u8) (.i .i64)))) (.i .i64)))
abbrev Bill:=((List Int)×(List (Int×Int×Int))×Int)
@[reducible] def kzq:Ty:=(.pr (.sl (.i .i64)) (.pr (.i .i64) (.sl (.pr (.i .i64) (.pr (.i .u8) (.i .i64))))))
abbrev knO:=((List Int)×Int×(List (Int×Int×Int)))
@[reducible] def tLine:Ty:=(.pr (.i .i64) (.pr (.i .i64) (.pr (.i .i64) (.pr (.pr (.i .i64) (.i .u8)) .b))))
abbrev Line:=(Int×Int×Int×(Int×Int)×Bool)
@[reducible] def tFlow:Ty:=(.pr (.sl (.pr (.i .i64) (.pr (.i .u8) (.i .i64)))) (.pr (.sl (.sl (.i .i64))) (.pr (.sl (.sl (.i .i64))) (.sl (.i .i64)))))
abbrev Flow:=((List (Int×Int×Int))×(List (List Int))×(List (List Int))×(List Int))
@[reducible] def tSwap:Ty:=(.pr (.i .i64) (.pr (.i .u8) (.pr (.i .i64) (.i .u8))))
abbrev Swap:=(Int×Int×Int×Int)
def kbk (x0:Int) (x1:Int) (x2:Int):Option (Int×Int×Int):=
 (some (x0,x1,x2))
def kfR (x0:Int) (x1:Int) (x2:Int):Option Bool:=
 (if (decide (x0<=x2))=true then (some (decide (x2<=x1))) else (some false))
def kic (x0:(Int×Int×Int)):Option Bool:=
 ((kfR 1 1000 x0.2.2).bind fun v0=>(some (!v0)))
def kbJ (x0:(Int×Int)):Option Bool:=
 ((kfR 0 15 x0.1).bind fun v0=>(if v0=true then (some (decide (x0.2<=15))) else (some false)))
def kdD (x0:Int):Option Bool:=
 (some (x0 != x0))
def kcs (x0:Int) (x1:Int):Option Int:=
 ((kdD x0).bind fun v0=>((kdD x1).bind fun v1=>(if v0=true then (if v1=true then (some 0) else (some (-1))) else (if v1=true then (some 1) else (if (decide (x0<x1))=true then (some (-1)) else (if (decide (x1<x0))=true then (some 1) else (some 0)))))))
def kfv (x0:Int):Option Bool:=
 (some (x0 != x0))
def kek (x0:Int) (x1:Int):Option Int:=
 ((kfv x0).bind fun v0=>((kfv x1).bind fun v1=>(if v0=true then (if v1=true then (some 0) else (some (-1))) else (if v1=true then (some 1) else (if (decide (x0<x1))=true then (some (-1)) else (if (decide (x1<x0))=true then (some 1) else (some 0)))))))
def khh (x0:(List Int)) (v0:Int):Option (Int⊕(Int⊕Unit)):=
 (if (decide (v0<(lenI x0)))=true then ((gi x0 v0).bind fun v1=>(if (v1 != 0)=true then (some (.inr (.inl v1))) else (some (.inl (w64 (v0+1)))))) else (some (.inr (.inr ()))))
def kiq (x0:(List Int)):Option Int:=
 ((iter (khh x0) 0).bind fun v2=>(match v2 with | .inl v3=>(some v3) | .inr v4=>(some 0)))
def kga (x0:(Int×Int)) (x1:(Int×Int)):Option Int:=
 ((kcs x0.1 x1.1).bind fun v0=>((kek x0.2 x1.2).bind fun v1=>((kiq [v0,v1]).bind fun v2=>(some v2))))
def kbW (x0:(List (Int×Int×Int))) (x2:((Int×Int×Int)->Option (Int×Int))) (v0:Int):Option (Int⊕(Bool⊕Unit)):=
 (if (decide (v0<(lenI x0)))=true then ((gi x0 v0).bind fun v1=>((x2 v1).bind fun v2=>((kbJ v2).bind fun v3=>(if (!v3)=true then (some (.inr (.inl false))) else (if (decide (0<v0))=true then ((gi x0 (w64 (v0-1))).bind fun v4=>((x2 v4).bind fun v5=>((x2 v1).bind fun v6=>((kga v5 v6).bind fun v7=>(if (decide (0<=v7))=true then (some (.inr (.inl false))) else (some (.inl (w64 (v0+1))))))))) else (some (.inl (w64 (v0+1))))))))) else (some (.inr (.inr ()))))
def kcQ (x0:(List (Int×Int×Int))) (x1:Int) (x2:((Int×Int×Int)->Option (Int×Int))):Option Bool:=
 ((iter (kbW x0 x2) 0).bind fun v8=>(match v8 with | .inl v9=>(some v9) | .inr v10=>(some (decide ((lenI x0)<=x1)))))
def kbn (x0:(Int×Int×Int)):Option (Int×Int):=
 (some (x0.1,x0.2.1))
def kaD (x0:(List (Int×Int×Int))) (x1:((Int×Int×Int)->Option Bool)) (v0:Int):Option (Int⊕(Int⊕Unit)):=
 (if (decide (v0<(lenI x0)))=true then ((gi x0 v0).bind fun v1=>((x1 v1).bind fun v2=>(if v2=true then (some (.inr (.inl v0))) else (some (.inl (w64 (v0+1))))))) else (some (.inr (.inr ()))))
def kbg (x0:(List (Int×Int×Int))) (x1:((Int×Int×Int)->Option Bool)):Option Int:=
 ((iter (kaD x0 x1) 0).bind fun v3=>(match v3 with | .inl v4=>(some v4) | .inr v5=>(some (-1))))
def kas (x0:(List (Int×Int×Int))) (x1:((Int×Int×Int)->Option Bool)):Option Bool:=
 ((kbg x0 x1).bind fun v0=>(some (decide (0<=v0))))
def kjl (x0:(List (Int×Int×Int))):Option Int:=
 ((kcQ x0 30 (fun (u0:(Int×Int×Int))=>((kbn u0).bind fun u1=>(some u1)))).bind fun v0=>(if (!v0)=true then (some 8) else ((kas x0 (fun (u0:(Int×Int×Int))=>((kic u0).bind fun u1=>(some u1)))).bind fun v1=>(if v1=true then (some 8) else (some 0)))))
def kgf (x0:(List (List (Int×Int×Int)))) (v0:Int):Option (Int⊕(Int⊕Unit)):=
 (if (decide (v0<(lenI x0)))=true then ((gi x0 v0).bind fun v1=>((kjl v1).bind fun v2=>(if (v2 != 0)=true then (some (.inr (.inl v2))) else (some (.inl (w64 (v0+1))))))) else (some (.inr (.inr ()))))
def kcl (x0:(List (List (Int×Int×Int)))):Option Int:=
 ((iter (kgf x0) 0).bind fun v3=>(match v3 with | .inl v4=>(some v4) | .inr v5=>(some 0)))
def koW (x0:(List (Int×Int×Int))) (x1:(List (Int×Int×Int))):Option Int:=
 (if ((lenI x0)==0)=true then (some 1) else (if ((lenI x1)==0)=true then (some (-1)) else ((gi x0 0).bind fun v0=>((kbn v0).bind fun v1=>((gi x1 0).bind fun v2=>((kbn v2).bind fun v3=>((kga v1 v3).bind fun v4=>(some v4))))))))
def ktf (x2:((Int×Int)->Option Int)) (v0:((List (Int×Int×Int))×(List (Int×Int×Int))×(List (Int×Int×Int)))):Option (((List (Int×Int×Int))×(List (Int×Int×Int))×(List (Int×Int×Int)))⊕(List (Int×Int×Int))):=
 ((if (decide (0<(lenI v0.1)))=true then (some true) else (some (decide (0<(lenI v0.2.1))))).bind fun v1=>(if v1=true then ((koW v0.1 v0.2.1).bind fun v2=>((if (decide (v2<=0))=true then ((gi v0.1 0).bind fun v3=>((gi v0.1 0).bind fun v4=>((gsl v0.1 1 (lenI v0.1)).bind fun v5=>((if (v2==0)=true then ((gi v0.2.1 0).bind fun v6=>((gsl v0.2.1 1 (lenI v0.2.1)).bind fun v7=>(some (v6.2.2,v7)))) else (some (0,v0.2.1))).bind fun v8=>(some (v4.2.2,v8.1,v5,v8.2,v3)))))) else ((gi v0.2.1 0).bind fun v9=>((gi v0.2.1 0).bind fun v10=>((gsl v0.2.1 1 (lenI v0.2.1)).bind fun v11=>(some (0,v10.2.2,v0.1,v11,v9)))))).bind fun v12=>((x2 (v12.1,v12.2.1)).bind fun v13=>(if (v13 != 0)=true then ((gapp v0.2.2 [(v12.2.2.2.2.1,v12.2.2.2.2.2.1,v13)]).bind fun v14=>(some (.inl (v12.2.2.1,v12.2.2.2.1,v14)))) else (some (.inl (v12.2.2.1,v12.2.2.2.1,v0.2.2))))))) else (some (.inr v0.2.2))))
def kmd (x0:(List (Int×Int×Int))) (x1:(List (Int×Int×Int))) (x2:((Int×Int)->Option Int)):Option (List (Int×Int×Int)):=
 ((iter (ktf x2) (x0,x1,[])).bind fun v15=>(some v15))
def krf (x0:Int) (x1:Int):Option Int:=
 (some (w64 (x0+x1)))
def kvV (x0:(List (Int×Int×Int))) (x1:(List (Int×Int×Int))):Option ((List (Int×Int×Int))×Int):=
 ((kcl [x0,x1]).bind fun v0=>(if (v0 != 0)=true then (some ([],v0)) else ((kmd x0 x1 (fun (u0:(Int×Int))=>((krf u0.1 u0.2).bind fun u1=>(some u1)))).bind fun v1=>((kjl v1).bind fun v2=>(if (v2 != 0)=true then (some ([],4)) else (some (v1,0)))))))
def law08_needed:Option (List (Int×Int×Int)):=
 ((kbk 1 1 3).bind fun v0=>((kbk 2 1 2).bind fun v1=>(some [v0,v1])))
def law08_swap:Option (List Swap):=
 (some [(2,1,1,1)])
def kcM (x0:Swap):Option Bool:=
 ((bthO tSwap (some x0) (some x0)).bind fun v0=>((kbJ (v0.1,v0.2.1)).bind fun v1=>(if (!v1)=true then (some true) else ((kbJ v0.2.2).bind fun v2=>(if (!v2)=true then (some true) else (some ((v0.1==v0.2.2.1)&&(v0.2.1==v0.2.2.2))))))))
def kaE (x0:(List Swap)) (x1:(Swap->Option Bool)) (v0:Int):Option (Int⊕(Int⊕Unit)):=
 (if (decide (v0<(lenI x0)))=true then ((gi x0 v0).bind fun v1=>((x1 v1).bind fun v2=>(if v2=true then (some (.inr (.inl v0))) else (some (.inl (w64 (v0+1))))))) else (some (.inr (.inr ()))))
def kbe (x0:(List Swap)) (x1:(Swap->Option Bool)):Option Int:=
 ((iter (kaE x0 x1) 0).bind fun v3=>(match v3 with | .inl v4=>(some v4) | .inr v5=>(some (-1))))
def kaW (x0:(List Swap)) (x1:(Swap->Option Bool)):Option Bool:=
 ((kbe x0 x1).bind fun v0=>(some (decide (0<=v0))))
def kda (x0:(List Swap)):Option Int:=
 (if (decide (30<(lenI x0)))=true then (some 2) else ((kaW x0 (fun (u0:Swap)=>((kcM u0).bind fun u1=>(some u1)))).bind fun v0=>(if v0=true then (some 2) else (some 0))))
def kaO (x0:(List Swap)) (x1:Swap) (v0:Int):Option (Int⊕(Int⊕Unit)):=
 (if (decide (v0<(lenI x0)))=true then ((gi x0 v0).bind fun v1=>(if ((x1.1==v1.1)&&((x1.2.1==v1.2.1)&&((x1.2.2.1==v1.2.2.1)&&(x1.2.2.2==v1.2.2.2))))=true then (some (.inr (.inl v0))) else (some (.inl (w64 (v0+1)))))) else (some (.inr (.inr ()))))
def kbC (x0:(List Swap)) (x1:Swap):Option Int:=
 ((iter (kaO x0 x1) 0).bind fun v2=>(match v2 with | .inl v3=>(some v3) | .inr v4=>(some (-1))))
def kbl (x0:(List Swap)) (x1:Swap):Option Bool:=
 ((kbC x0 x1).bind fun v0=>(some (decide (0<=v0))))
def kjY (x0:(List Swap)) (x1:(Int×Int)) (x2:(Int×Int)):Option Bool:=
 (if ((x1.1==x2.1)&&(x1.2==x2.2))=true then (some true) else ((kbl x0 (x1.1,x1.2,x2)).bind fun v0=>(some v0)))
def kbp (rec_box_flow_short_c1_m0:Int->(List Bool)->(Option Flow)->Option ((List Bool)×(Option Flow))) (v6:Int) (v7:Flow) (v8:(Int×(Option Flow)×(List Bool))):Option ((Int×(Option Flow)×(List Bool))⊕((Option Flow)×(List Bool))):=
 (if (decide (v8.1<(lenI v7.2.2.1)))=true then (v8.2.1.bind fun v9=>((gi v9.2.2.1 v8.1).bind fun v10=>((gi v10 v6).bind fun v11=>(if (decide (0<v11))=true then ((rec_box_flow_short_c1_m0 v8.1 v8.2.2 v8.2.1).bind fun v12=>(some (.inl ((w64 (v8.1+1)),v12.2,v12.1)))) else (some (.inl ((w64 (v8.1+1)),v8.2))))))) else (some (.inr v8.2)))
def kbX (rec_box_flow_short_c1_m0:Int->(List Bool)->(Option Flow)->Option ((List Bool)×(Option Flow))) (v4:(List Int)) (v5:(Int×(Option Flow)×(List Bool))):Option ((Int×(Option Flow)×(List Bool))⊕((Option Flow)×(List Bool))):=
 (if (decide (v5.1<(lenI v4)))=true then ((gi v4 v5.1).bind fun v6=>(v5.2.1.bind fun v7=>((iter (kbp rec_box_flow_short_c1_m0 v6 v7) (0,v5.2)).bind fun v13=>(some (.inl ((w64 (v5.1+1)),v13)))))) else (some (.inr v5.2)))
def kgH (rec_box_flow_short_c1_m0:Int->(List Bool)->(Option Flow)->Option ((List Bool)×(Option Flow))) (x0:Int) (x1:(List Bool)) (x2:(Option Flow)):Option ((List Bool)×(Option Flow)):=
 ((gi x1 x0).bind fun v0=>((gi x1 x0).bind fun v1=>(if v1=true then (some (x1,x2)) else ((gi x1 x0).bind fun v2=>(x2.bind fun v3=>((gi v3.2.1 x0).bind fun v4=>((iter (kbX rec_box_flow_short_c1_m0 v4) (0,x2,(lset x1 x0 true))).bind fun v14=>(some (v14.2,v14.1)))))))))
def kaM:Nat->Int->(List Bool)->(Option Flow)->Option ((List Bool)×(Option Flow))
 | 0,_,_,_=>none
 | k+1,x0,x1,x2=>kgH (kaM k) x0 x1 x2
def keT (x0:Int) (x1:(List Bool)) (x2:(Option Flow)):Option ((List Bool)×(Option Flow)):=kaM 1000000 x0 x1 x2
def koF (x0:(List (Int×Int×Int))) (v3:(Int×(List (Int×Int×Int))×(List Int))):Option ((Int×(List (Int×Int×Int))×(List Int))⊕((List (Int×Int×Int))×(List Int))):=
 (if (decide (v3.1<(lenI x0)))=true then ((gi x0 v3.1).bind fun v4=>((gapp v3.2.2 [v4.2.2]).bind fun v5=>(some (.inl ((w64 (v3.1+1)),v3.2.1,v5))))) else (some (.inr v3.2)))
def koL (x0:(List (Int×Int×Int))) (x2:(List Swap)) (v8:(Int×Int×Int)) (v9:kai):Option (kai⊕(List Int)):=
 (if (decide (v9.1<(lenI x0)))=true then ((gi x0 v9.1).bind fun v10=>((kbn v8).bind fun v11=>((kbn v10).bind fun v12=>((kjY x2 v11 v12).bind fun v13=>(if v13=true then ((gapp v9.2 [v9.1]).bind fun v14=>(some (.inl ((w64 (v9.1+1)),v14)))) else (some (.inl ((w64 (v9.1+1)),v9.2)))))))) else (some (.inr v9.2)))
def koD (x0:(List (Int×Int×Int))) (x1:(List (Int×Int×Int))) (x2:(List Swap)) (v7:(Int×(List (Int×Int×Int))×(List (List Int))×(List (List Int)))):Option ((Int×(List (Int×Int×Int))×(List (List Int))×(List (List Int)))⊕((List (Int×Int×Int))×(List (List Int))×(List (List Int)))):=
 (if (decide (v7.1<(lenI x1)))=true then ((gi x1 v7.1).bind fun v8=>((iter (koL x0 x2 v8) (0,[])).bind fun v15=>(bthO (.sm (.pr (.i .i64) (.pr (.sl (.pr (.i .i64) (.pr (.i .u8) (.i .i64)))) (.pr (.sl (.sl (.i .i64))) (.sl (.sl (.i .i64)))))) (.pr (.sl (.pr (.i .i64) (.pr (.i .u8) (.i .i64)))) (.pr (.sl (.sl (.i .i64))) (.sl (.sl (.i .i64)))))) ((gapp v7.2.2.1 [v15]).bind fun v16=>((gmk (lenI x0) 0).bind fun v17=>((gapp v7.2.2.2 [v17]).bind fun v18=>(some (.inl ((w64 (v7.1+1)),v7.2.1,v16,v18)))))) (bthO (.sm (.pr (.i .i64) (.pr (.sl (.pr (.i .i64) (.pr (.i .u8) (.i .i64)))) (.pr (.sl (.sl (.i .i64))) (.sl (.sl (.i .i64)))))) (.pr (.sl (.pr (.i .i64) (.pr (.i .u8) (.i .i64)))) (.pr (.sl (.sl (.i .i64))) (.sl (.sl (.i .i64)))))) ((gmk (lenI x0) 0).bind fun v19=>((gapp v7.2.2.1 [v15]).bind fun v20=>((gapp v7.2.2.2 [v19]).bind fun v21=>(some (.inl ((w64 (v7.1+1)),v7.2.1,v20,v21)))))) (bthO (.sm (.pr (.i .i64) (.pr (.sl (.pr (.i .i64) (.pr (.i .u8) (.i .i64)))) (.pr (.sl (.sl (.i .i64))) (.sl (.sl (.i .i64)))))) (.pr (.sl (.pr (.i .i64) (.pr (.i .u8) (.i .i64)))) (.pr (.sl (.sl (.i .i64))) (.sl (.sl (.i .i64)))))) ((gmk (lenI x0) 0).bind fun v22=>((gapp v7.2.2.1 [v15]).bind fun v23=>((gapp v7.2.2.2 [v22]).bind fun v24=>(some (.inl ((w64 (v7.1+1)),v7.2.1,v23,v24)))))) (bthO (.sm (.pr (.i .i64) (.pr (.sl (.pr (.i .i64) (.pr (.i .u8) (.i .i64)))) (.pr (.sl (.sl (.i .i64))) (.sl (.sl (.i .i64)))))) (.pr (.sl (.pr (.i .i64) (.pr (.i .u8) (.i .i64)))) (.pr (.sl (.sl (.i .i64))) (.sl (.sl (.i .i64)))))) ((gmk (lenI x0) 0).bind fun v25=>((gapp v7.2.2.1 [v15]).bind fun v26=>((gapp v7.2.2.2 [v25]).bind fun v27=>(some (.inl ((w64 (v7.1+1)),v7.2.1,v26,v27)))))) (bthO (.sm (.pr (.i .i64) (.pr (.sl (.pr (.i .i64) (.pr (.i .u8) (.i .i64)))) (.pr (.sl (.sl (.i .i64))) (.sl (.sl (.i .i64)))))) (.pr (.sl (.pr (.i .i64) (.pr (.i .u8) (.i .i64)))) (.pr (.sl (.sl (.i .i64))) (.sl (.sl (.i .i64)))))) ((gmk (lenI x0) 0).bind fun v28=>((gapp v7.2.2.1 [v15]).bind fun v29=>((gapp v7.2.2.2 [v28]).bind fun v30=>(some (.inl ((w64 (v7.1+1)),v7.2.1,v29,v30)))))) ((gmk (lenI x0) 0).bind fun v31=>((gapp v7.2.2.1 [v15]).bind fun v32=>((gapp v7.2.2.2 [v31]).bind fun v33=>(some (.inl ((w64 (v7.1+1)),v7.2.1,v32,v33))))))))))))) else (some (.inr v7.2)))
def kes (x0:(List (Int×Int×Int))) (x1:(List (Int×Int×Int))) (x2:(List Swap)):Option Int:=
 ((kcl [x0,x1]).bind fun v0=>((if (v0==0)=true then ((kda x2).bind fun v1=>(some v1)) else (some v0)).bind fun v2=>(if (v2 != 0)=true then (some v2) else ((iter (koF x0) (0,x1,[])).bind fun v6=>((iter (koD x0 x1 x2) (0,v6.1,[],[])).bind fun v34=>none)))))
def kcH (x0:(List (Int×Int×Int))) (v3:(Int×(List (Int×Int×Int))×(List Int))):Option ((Int×(List (Int×Int×Int))×(List Int))⊕((List (Int×Int×Int))×(List Int))):=
 (if (decide (v3.1<(lenI x0)))=true then ((gi x0 v3.1).bind fun v4=>((gapp v3.2.2 [v4.2.2]).bind fun v5=>(some (.inl ((w64 (v3.1+1)),v3.2.1,v5))))) else (some (.inr v3.2)))
def kcI (x0:(List (Int×Int×Int))) (x2:(List Swap)) (v8:(Int×Int×Int)) (v9:kai):Option (kai⊕(List Int)):=
 (if (decide (v9.1<(lenI x0)))=true then ((gi x0 v9.1).bind fun v10=>((kbn v8).bind fun v11=>((kbn v10).bind fun v12=>((kjY x2 v11 v12).bind fun v13=>(if v13=true then ((gapp v9.2 [v9.1]).bind fun v14=>(some (.inl ((w64 (v9.1+1)),v14)))) else (some (.inl ((w64 (v9.1+1)),v9.2)))))))) else (some (.inr v9.2)))
def kcK (x0:(List (Int×Int×Int))) (x1:(List (Int×Int×Int))) (x2:(List Swap)) (v7:(Int×(List (Int×Int×Int))×(List (List Int))×(List (List Int)))):Option ((Int×(List (Int×Int×Int))×(List (List Int))×(List (List Int)))⊕((List (Int×Int×Int))×(List (List Int))×(List (List Int)))):=
 (if (decide (v7.1<(lenI x1)))=true then ((gi x1 v7.1).bind fun v8=>((iter (kcI x0 x2 v8) (0,[])).bind fun v15=>(bthO (.sm (.pr (.i .i64) (.pr (.sl (.pr (.i .i64) (.pr (.i .u8) (.i .i64)))) (.pr (.sl (.sl (.i .i64))) (.sl (.sl (.i .i64)))))) (.pr (.sl (.pr (.i .i64) (.pr (.i .u8) (.i .i64)))) (.pr (.sl (.sl (.i .i64))) (.sl (.sl (.i .i64)))))) ((gapp v7.2.2.1 [v15]).bind fun v16=>((gmk (lenI x0) 0).bind fun v17=>((gapp v7.2.2.2 [v17]).bind fun v18=>(some (.inl ((w64 (v7.1+1)),v7.2.1,v16,v18)))))) (bthO (.sm (.pr (.i .i64) (.pr (.sl (.pr (.i .i64) (.pr (.i .u8) (.i .i64)))) (.pr (.sl (.sl (.i .i64))) (.sl (.sl (.i .i64)))))) (.pr (.sl (.pr (.i .i64) (.pr (.i .u8) (.i .i64)))) (.pr (.sl (.sl (.i .i64))) (.sl (.sl (.i .i64)))))) ((gmk (lenI x0) 0).bind fun v19=>((gapp v7.2.2.1 [v15]).bind fun v20=>((gapp v7.2.2.2 [v19]).bind fun v21=>(some (.inl ((w64 (v7.1+1)),v7.2.1,v20,v21)))))) (bthO (.sm (.pr (.i .i64) (.pr (.sl (.pr (.i .i64) (.pr (.i .u8) (.i .i64)))) (.pr (.sl (.sl (.i .i64))) (.sl (.sl (.i .i64)))))) (.pr (.sl (.pr (.i .i64) (.pr (.i .u8) (.i .i64)))) (.pr (.sl (.sl (.i .i64))) (.sl (.sl (.i .i64)))))) ((gmk (lenI x0) 0).bind fun v22=>((gapp v7.2.2.1 [v15]).bind fun v23=>((gapp v7.2.2.2 [v22]).bind fun v24=>(some (.inl ((w64 (v7.1+1)),v7.2.1,v23,v24)))))) (bthO (.sm (.pr (.i .i64) (.pr (.sl (.pr (.i .i64) (.pr (.i .u8) (.i .i64)))) (.pr (.sl (.sl (.i .i64))) (.sl (.sl (.i .i64)))))) (.pr (.sl (.pr (.i .i64) (.pr (.i .u8) (.i .i64)))) (.pr (.sl (.sl (.i .i64))) (.sl (.sl (.i .i64)))))) ((gmk (lenI x0) 0).bind fun v25=>((gapp v7.2.2.1 [v15]).bind fun v26=>((gapp v7.2.2.2 [v25]).bind fun v27=>(some (.inl ((w64 (v7.1+1)),v7.2.1,v26,v27)))))) (bthO (.sm (.pr (.i .i64) (.pr (.sl (.pr (.i .i64) (.pr (.i .u8) (.i .i64)))) (.pr (.sl (.sl (.i .i64))) (.sl (.sl (.i .i64)))))) (.pr (.sl (.pr (.i .i64) (.pr (.i .u8) (.i .i64)))) (.pr (.sl (.sl (.i .i64))) (.sl (.sl (.i .i64)))))) ((gmk (lenI x0) 0).bind fun v28=>((gapp v7.2.2.1 [v15]).bind fun v29=>((gapp v7.2.2.2 [v28]).bind fun v30=>(some (.inl ((w64 (v7.1+1)),v7.2.1,v29,v30)))))) ((gmk (lenI x0) 0).bind fun v31=>((gapp v7.2.2.1 [v15]).bind fun v32=>((gapp v7.2.2.2 [v31]).bind fun v33=>(some (.inl ((w64 (v7.1+1)),v7.2.1,v32,v33))))))))))))) else (some (.inr v7.2)))
def kep (x0:(List (Int×Int×Int))) (x1:(List (Int×Int×Int))) (x2:(List Swap)):Option (Int×Flow):=
 ((kcl [x0,x1]).bind fun v0=>((if (v0==0)=true then ((kda x2).bind fun v1=>(some v1)) else (some v0)).bind fun v2=>(if (v2 != 0)=true then none else ((iter (kcH x0) (0,x1,[])).bind fun v6=>((iter (kcK x0 x1 x2) (0,v6.1,[],[])).bind fun v34=>(some (0,v34.1,v34.2.1,v34.2.2,v6.2)))))))
def kbP (x1:(List Bool)) (v1:(Int×(List Bool)×(Option Flow))):Option ((Int×(List Bool)×(Option Flow))⊕(List Bool)):=
 (if (decide (v1.1<(lenI x1)))=true then ((gi x1 v1.1).bind fun v2=>(if v2=true then ((keT v1.1 v1.2.1 v1.2.2).bind fun v3=>(some (.inl ((w64 (v1.1+1)),v3)))) else (some (.inl ((w64 (v1.1+1)),v1.2))))) else (some (.inr v1.2.1)))
def kcT (v4:(List Bool)) (v5:kai):Option (kai⊕(List Int)):=
 (if (decide (v5.1<(lenI v4)))=true then ((gi v4 v5.1).bind fun v6=>((gi v4 v5.1).bind fun v7=>(if v7=true then ((gapp v5.2 [v5.1]).bind fun v8=>(some (.inl ((w64 (v5.1+1)),v8)))) else (some (.inl ((w64 (v5.1+1)),v5.2)))))) else (some (.inr v5.2)))
def kcC (x0:(Option Flow)) (x1:(List Bool)):Option (List Int):=
 ((gmk (lenI x1) false).bind fun v0=>((iter (kbP x1) (0,v0,x0)).bind fun v4=>((iter (kcT v4) (0,[])).bind fun v9=>(some v9))))
def kaY (rec_box_flow_give_c1_m0:Int->Int->(List (Int×Int×Int))->(List (List Int))->(List (List Int))->(List Int)->(List Bool)->Option (Int×(List (Int×Int×Int))×(List (List Int))×(List (List Int))×(List Int)×(List Bool))) (x0:Int) (x1:Int) (v2:(Int×(List Bool)×Flow)) (v3:Int) (v22:(Int×(List (Int×Int×Int))×(List (List Int))×(List (List Int))×(List Int)×(List Bool))):Option ((Int×(List (Int×Int×Int))×(List (List Int))×(List (List Int))×(List Int)×(List Bool))⊕((Int×(List (Int×Int×Int))×(List (List Int))×(List (List Int))×(List Int)×(List Bool))⊕((List (Int×Int×Int))×(List (List Int))×(List (List Int))×(List Int)×(List Bool)))):=
 (if (decide (v22.1<(lenI v2.2.2.2.2.1)))=true then ((gi v22.2.2.2.1 v22.1).bind fun v23=>((gi v22.2.2.2.1 v22.1).bind fun v24=>((gi v22.2.2.2.1 v22.1).bind fun v25=>((gi v25 v3).bind fun v26=>((gi v22.2.2.2.1 v22.1).bind fun v27=>((gi v27 v3).bind fun v28=>(if (v28==0)=true then (some (.inl ((w64 (v22.1+1)),v22.2))) else ((gi v22.2.2.2.1 v22.1).bind fun v29=>((gi v22.2.2.2.1 v22.1).bind fun v30=>((gi v22.2.2.2.1 v22.1).bind fun v31=>((gi v31 v3).bind fun v32=>((gi v22.2.2.2.1 v22.1).bind fun v33=>((gi v33 v3).bind fun v34=>((rec_box_flow_give_c1_m0 v22.1 (imin x1 v34) v22.2.1 v22.2.2.1 v22.2.2.2.1 v22.2.2.2.2.1 v22.2.2.2.2.2).bind fun v35=>(if (decide (0<v35.1))=true then ((gi v35.2.2.2.1 v22.1).bind fun v36=>((gi v35.2.2.2.1 v22.1).bind fun v37=>((gi v35.2.2.2.1 v22.1).bind fun v38=>((gi v38 v3).bind fun v39=>((gi v35.2.2.2.1 v22.1).bind fun v40=>((gi v40 v3).bind fun v41=>((gi v35.2.2.2.1 v22.1).bind fun v42=>((gi v42 v3).bind fun v43=>((gi v35.2.2.2.1 v22.1).bind fun v44=>((gi v44 v3).bind fun v45=>((gi (lset v35.2.2.2.1 v22.1 (lset v44 v3 (w64 (v41-v35.1)))) x0).bind fun v46=>((gi (lset v35.2.2.2.1 v22.1 (lset v44 v3 (w64 (v41-v35.1)))) x0).bind fun v47=>((gi (lset v35.2.2.2.1 v22.1 (lset v44 v3 (w64 (v41-v35.1)))) x0).bind fun v48=>((gi v48 v3).bind fun v49=>((gi (lset v35.2.2.2.1 v22.1 (lset v44 v3 (w64 (v41-v35.1)))) x0).bind fun v50=>((gi v50 v3).bind fun v51=>((gi (lset v35.2.2.2.1 v22.1 (lset v44 v3 (w64 (v41-v35.1)))) x0).bind fun v52=>((gi v52 v3).bind fun v53=>((gi (lset v35.2.2.2.1 v22.1 (lset v44 v3 (w64 (v41-v35.1)))) x0).bind fun v54=>((gi v54 v3).bind fun v55=>(some (.inr (.inl (v35.1,v35.2.1,v35.2.2.1,(lset (lset v35.2.2.2.1 v22.1 (lset v44 v3 (w64 (v41-v35.1)))) x0 (lset v54 v3 (w64 (v51+v35.1)))),v35.2.2.2.2)))))))))))))))))))))))) else (some (.inl ((w64 (v22.1+1)),v35.2)))))))))))))))))) else (some (.inr (.inr v22.2))))
def kaL (rec_box_flow_give_c1_m0:Int->Int->(List (Int×Int×Int))->(List (List Int))->(List (List Int))->(List Int)->(List Bool)->Option (Int×(List (Int×Int×Int))×(List (List Int))×(List (List Int))×(List Int)×(List Bool))) (x0:Int) (x1:Int) (v1:(List Int)) (v2:(Int×(List Bool)×Flow)):Option ((Int×(List Bool)×Flow)⊕((Int×(List (Int×Int×Int))×(List (List Int))×(List (List Int))×(List Int)×(List Bool))⊕((List Bool)×(List Int)×(List (List Int))×(List (Int×Int×Int))×(List (List Int))))):=
 (if (decide (v2.1<(lenI v1)))=true then ((gi v1 v2.1).bind fun v3=>((gi v2.2.1 v3).bind fun v4=>((gi v2.2.1 v3).bind fun v5=>(if v5=true then (some (.inl ((w64 (v2.1+1)),v2.2))) else ((gi v2.2.1 v3).bind fun v6=>((gi v2.2.2.2.2.2 v3).bind fun v7=>((gi v2.2.2.2.2.2 v3).bind fun v8=>(if (decide (0<(imin x1 v8)))=true then ((gi v2.2.2.2.2.2 v3).bind fun v9=>((gi v2.2.2.2.2.2 v3).bind fun v10=>((gi v2.2.2.2.2.2 v3).bind fun v11=>((gi v2.2.2.2.2.1 x0).bind fun v12=>((gi v2.2.2.2.2.1 x0).bind fun v13=>((gi v2.2.2.2.2.1 x0).bind fun v14=>((gi v14 v3).bind fun v15=>((gi v2.2.2.2.2.1 x0).bind fun v16=>((gi v16 v3).bind fun v17=>((gi v2.2.2.2.2.1 x0).bind fun v18=>((gi v18 v3).bind fun v19=>((gi v2.2.2.2.2.1 x0).bind fun v20=>((gi v20 v3).bind fun v21=>(some (.inr (.inl ((imin x1 v8),v2.2.2.1,v2.2.2.2.1,(lset v2.2.2.2.2.1 x0 (lset v20 v3 (w64 (v17+(imin x1 v8))))),(lset v2.2.2.2.2.2 v3 (w64 (v10-(imin x1 v8)))),(lset v2.2.1 v3 true)))))))))))))))))) else ((iter (kaY rec_box_flow_give_c1_m0 x0 x1 v2 v3) (0,v2.2.2.1,v2.2.2.2.1,v2.2.2.2.2.1,v2.2.2.2.2.2,(lset v2.2.1 v3 true))).bind fun v56=>(match v56 with | .inl v57=>(some (.inr (.inl v57))) | .inr v58=>(some (.inl ((w64 (v2.1+1)),v58.2.2.2.2,v58.1,v58.2.1,v58.2.2.1,v58.2.2.2.1))))))))))))) else (some (.inr (.inr (v2.2.1,v2.2.2.2.2.2,v2.2.2.2.2.1,v2.2.2.1,v2.2.2.2.1)))))
def khx (rec_box_flow_give_c1_m0:Int->Int->(List (Int×Int×Int))->(List (List Int))->(List (List Int))->(List Int)->(List Bool)->Option (Int×(List (Int×Int×Int))×(List (List Int))×(List (List Int))×(List Int)×(List Bool))) (x0:Int) (x1:Int) (x2:(List (Int×Int×Int))) (x3:(List (List Int))) (x4:(List (List Int))) (x5:(List Int)) (x6:(List Bool)):Option (Int×(List (Int×Int×Int))×(List (List Int))×(List (List Int))×(List Int)×(List Bool)):=
 ((gi x3 x0).bind fun v0=>((gi x3 x0).bind fun v1=>((iter (kaL rec_box_flow_give_c1_m0 x0 x1 v1) (0,x6,x2,x3,x4,x5)).bind fun v59=>(match v59 with | .inl v60=>(some v60) | .inr v61=>(some (0,v61.2.2.2.1,v61.2.2.2.2,v61.2.2.1,v61.2.1,v61.1))))))
def kaR:Nat->Int->Int->(List (Int×Int×Int))->(List (List Int))->(List (List Int))->(List Int)->(List Bool)->Option (Int×(List (Int×Int×Int))×(List (List Int))×(List (List Int))×(List Int)×(List Bool))
 | 0,_,_,_,_,_,_,_=>none
 | k+1,x0,x1,x2,x3,x4,x5,x6=>khx (kaR k) x0 x1 x2 x3 x4 x5 x6
def kfr (x0:Int) (x1:Int) (x2:(List (Int×Int×Int))) (x3:(List (List Int))) (x4:(List (List Int))) (x5:(List Int)) (x6:(List Bool)):Option (Int×(List (Int×Int×Int))×(List (List Int))×(List (List Int))×(List Int)×(List Bool)):=kaR 1000000 x0 x1 x2 x3 x4 x5 x6
def kcd (x0:Int) (x1:Int) (v0:(Int×(List (Int×Int×Int))×(List (List Int))×(List (List Int))×(List Int)×(List Bool))):Option ((Int×(List (Int×Int×Int))×(List (List Int))×(List (List Int))×(List Int)×(List Bool))⊕(Int×Flow)):=
 (if (decide (v0.1<x1))=true then ((gmk (lenI v0.2.2.2.2.1) false).bind fun v1=>((kfr x0 (w64 (x1-v0.1)) v0.2.1 v0.2.2.1 v0.2.2.2.1 v0.2.2.2.2.1 v1).bind fun v2=>(if (v2.1==0)=true then (some (.inr (v0.1,v2.2.1,v2.2.2.1,v2.2.2.2.1,v2.2.2.2.2.1))) else (some (.inl ((w64 (v0.1+v2.1)),v2.2)))))) else (some (.inr (v0.1,v0.2.1,v0.2.2.1,v0.2.2.2.1,v0.2.2.2.2.1))))
def kdi (x0:Int) (x1:Int) (x2:(List (Int×Int×Int))) (x3:(List (List Int))) (x4:(List (List Int))) (x5:(List Int)):Option (Int×Flow):=
 ((iter (kcd x0 x1) (0,x2,x3,x4,x5,[])).bind fun v3=>(some v3))
def kvn (x1:(List (Int×Int×Int))) (v2:(Int×Int)):Option ((Int×Int)⊕Int):=
 (if (decide (v2.1<(lenI x1)))=true then ((gi x1 v2.1).bind fun v3=>none) else (some (.inr v2.2)))
def kgQ (x1:(List (Int×Int×Int))) (v8:(Int×Int×(List (Int×Int×Int))×(List (List Int))×(List (List Int))×(List Int)×(List Bool))):Option ((Int×Int×(List (Int×Int×Int))×(List (List Int))×(List (List Int))×(List Int)×(List Bool))⊕(Int×(List (Int×Int×Int))×(List (List Int))×(List (List Int))×(List Int)×(List Bool))):=
 (if (decide (v8.1<(lenI x1)))=true then ((gi x1 v8.1).bind fun v9=>((kdi v8.1 v9.2.2 v8.2.2.1 v8.2.2.2.1 v8.2.2.2.2.1 v8.2.2.2.2.2.1).bind fun v10=>((gi v8.2.2.2.2.2.2 v8.1).bind fun v11=>(some (.inl ((w64 (v8.1+1)),(w64 (v8.2.1+v10.1)),v10.2.1,v10.2.2.1,v10.2.2.2.1,v10.2.2.2.2,(lset v8.2.2.2.2.2.2 v8.1 (decide (v10.1<v9.2.2))))))))) else (some (.inr v8.2)))
def kkF (x0:(List (Int×Int×Int))) (x1:(List (Int×Int×Int))) (x2:(List Swap)):Option (kai×Int):=
 (elsO ((kes x0 x1 x2).bind fun v0=>(if (v0 != 0)=true then (some ((0,[]),v0)) else ((gmk (lenI x1) false).bind fun v1=>((iter (kvn x1) (0,0)).bind fun v4=>((kcC none v1).bind fun v5=>(some ((v4,v5),0))))))) ((kep x0 x1 x2).bind fun v6=>(if (v6.1 != 0)=true then (some ((0,[]),v6.1)) else ((gmk (lenI x1) false).bind fun v7=>((iter (kgQ x1) (0,0,v6.2.1,v6.2.2.1,v6.2.2.2.1,v6.2.2.2.2,v7)).bind fun v12=>((kcC (some (v12.2.1,v12.2.2.1,v12.2.2.2.1,v12.2.2.2.2.1)) v12.2.2.2.2.2).bind fun v13=>(some ((v12.1,v13),0))))))))
def kmf (x0:(Int×Int×Int)):Option Bool:=
 ((kfR 0 10000 x0.2.2).bind fun v0=>(some (!v0)))
def kks (x0:(List (Int×Int×Int))) (x2:((Int×Int×Int)->Option (Int×Int))) (v0:Int):Option (Int⊕(Bool⊕Unit)):=
 (if (decide (v0<(lenI x0)))=true then ((gi x0 v0).bind fun v1=>((x2 v1).bind fun v2=>((kbJ v2).bind fun v3=>(if (!v3)=true then (some (.inr (.inl false))) else (if (decide (0<v0))=true then ((gi x0 (w64 (v0-1))).bind fun v4=>((x2 v4).bind fun v5=>((x2 v1).bind fun v6=>((kga v5 v6).bind fun v7=>(if (decide (0<=v7))=true then (some (.inr (.inl false))) else (some (.inl (w64 (v0+1))))))))) else (some (.inl (w64 (v0+1))))))))) else (some (.inr (.inr ()))))
def ken (x0:(List (Int×Int×Int))) (x1:Int) (x2:((Int×Int×Int)->Option (Int×Int))):Option Bool:=
 ((iter (kks x0 x2) 0).bind fun v8=>(match v8 with | .inl v9=>(some v9) | .inr v10=>(some (decide ((lenI x0)<=x1)))))
def kdZ (x0:(Int×Int×Int)):Option (Int×Int):=
 (some (x0.1,x0.2.1))
def keG (x0:(List (Int×Int×Int))) (x1:((Int×Int×Int)->Option Bool)) (v0:Int):Option (Int⊕(Int⊕Unit)):=
 (if (decide (v0<(lenI x0)))=true then ((gi x0 v0).bind fun v1=>((x1 v1).bind fun v2=>(if v2=true then (some (.inr (.inl v0))) else (some (.inl (w64 (v0+1))))))) else (some (.inr (.inr ()))))
def kca (x0:(List (Int×Int×Int))) (x1:((Int×Int×Int)->Option Bool)):Option Int:=
 ((iter (keG x0 x1) 0).bind fun v3=>(match v3 with | .inl v4=>(some v4) | .inr v5=>(some (-1))))
def kaT (x0:(List (Int×Int×Int))) (x1:((Int×Int×Int)->Option Bool)):Option Bool:=
 ((kca x0 x1).bind fun v0=>(some (decide (0<=v0))))
def klZ (x0:Line) (x1:Line):Option Int:=
 (if (!(x0.2.2.2.2==x1.2.2.2.2))=true then (if x1.2.2.2.2=true then (some (-1)) else (some 1)) else (some (w64 (x1.2.1-x0.2.1))))
def kew (x0:Int) (x2:((Line×Line)->Option Int)) (v1:(Int×(List Line))):Option ((Int×(List Line))⊕(List Line)):=
 (if (decide (x0<v1.1))=true then ((gi v1.2 v1.1).bind fun v2=>((gi v1.2 v1.1).bind fun v3=>((gi v1.2 (w64 (v1.1-1))).bind fun v4=>((gi v1.2 (w64 (v1.1-1))).bind fun v5=>((x2 (v3,v5)).bind fun v6=>(if (decide (v6<0))=true then ((gi v1.2 (w64 (v1.1-1))).bind fun v7=>((gi v1.2 (w64 (v1.1-1))).bind fun v8=>((gi v1.2 v1.1).bind fun v9=>((gi v1.2 v1.1).bind fun v10=>((gi v1.2 v1.1).bind fun v11=>((gi (lset v1.2 v1.1 v8) (w64 (v1.1-1))).bind fun v12=>(some (.inl ((w64 (v1.1-1)),(lset (lset v1.2 v1.1 v8) (w64 (v1.1-1)) v10)))))))))) else (some (.inr v1.2)))))))) else (some (.inr v1.2)))
def keA (x0:Int) (x1:Int) (x2:((Line×Line)->Option Int)) (v0:(Int×(List Line))):Option ((Int×(List Line))⊕(List Line)):=
 (if (decide (v0.1<x1))=true then ((iter (kew x0 x2) v0).bind fun v13=>(some (.inl ((w64 (v0.1+1)),v13)))) else (some (.inr v0.2)))
def kaX (x0:Int) (x1:Int) (x2:((Line×Line)->Option Int)) (x3:(List Line)):Option (List Line):=
 ((iter (keA x0 x1 x2) ((w64 (x0+1)),x3)).bind fun v14=>(some v14))
def kfk (x0:Int) (x1:Int) (x2:Int) (v0:(Int×(List Line))):Option ((Int×(List Line))⊕(List Line)):=
 (if (decide (v0.1<x2))=true then ((gi v0.2 (w64 (x1+v0.1))).bind fun v1=>((gi v0.2 (w64 (x1+v0.1))).bind fun v2=>((gi v0.2 (w64 (x0+v0.1))).bind fun v3=>((gi v0.2 (w64 (x0+v0.1))).bind fun v4=>((gi v0.2 (w64 (x0+v0.1))).bind fun v5=>((gi (lset v0.2 (w64 (x0+v0.1)) v2) (w64 (x1+v0.1))).bind fun v6=>(some (.inl ((w64 (v0.1+1)),(lset (lset v0.2 (w64 (x0+v0.1)) v2) (w64 (x1+v0.1)) v4)))))))))) else (some (.inr v0.2)))
def kaN (x0:Int) (x1:Int) (x2:Int) (x3:((Line×Line)->Option Int)) (x4:(List Line)):Option (List Line):=
 ((iter (kfk x0 x1 x2) (0,x4)).bind fun v7=>(some v7))
def kgp (x1:Int) (x3:((Line×Line)->Option Int)) (v0:(Int×Int×(List Line))):Option ((Int×Int×(List Line))⊕(Int×(List Line))):=
 (if (v0.1 != v0.2.1)=true then (if (decide (v0.2.1<v0.1))=true then ((kaN (w64 (x1-v0.1)) x1 v0.2.1 x3 v0.2.2).bind fun v1=>(some (.inl ((w64 (v0.1-v0.2.1)),v0.2.1,v1)))) else ((kaN (w64 (x1-v0.1)) (w64 ((w64 (x1+v0.2.1))-v0.1)) v0.1 x3 v0.2.2).bind fun v2=>(some (.inl (v0.1,(w64 (v0.2.1-v0.1)),v2))))) else (some (.inr (v0.1,v0.2.2))))
def kde (x0:Int) (x1:Int) (x2:Int) (x3:((Line×Line)->Option Int)) (x4:(List Line)):Option (List Line):=
 ((iter (kgp x1 x3) ((w64 (x1-x0)),(w64 (x2-x1)),x4)).bind fun v3=>((kaN (w64 (x1-v3.1)) x1 v3.1 x3 v3.2).bind fun v4=>(some v4)))
def kfB (x0:Int) (x3:((Line×Line)->Option Int)) (x4:(List Line)) (v0:(Int×Int)):Option ((Int×Int)⊕Int):=
 (if (decide (v0.1<v0.2))=true then ((gshr .u64 (IntKind.wrap .u64 (w64 (v0.1+v0.2))) 1).bind fun v1=>((gi x4 (w64 v1)).bind fun v2=>((gi x4 (w64 v1)).bind fun v3=>((gi x4 x0).bind fun v4=>((gi x4 x0).bind fun v5=>((x3 (v3,v5)).bind fun v6=>(if (decide (v6<0))=true then (some (.inl ((w64 ((w64 v1)+1)),v0.2))) else (some (.inl (v0.1,(w64 v1))))))))))) else (some (.inr v0.1)))
def kfG (v7:Int) (v8:(Int×(List Line))):Option ((Int×(List Line))⊕(List Line)):=
 (if (decide (v8.1<(w64 (v7-1))))=true then ((gi v8.2 (w64 (v8.1+1))).bind fun v9=>((gi v8.2 (w64 (v8.1+1))).bind fun v10=>((gi v8.2 v8.1).bind fun v11=>((gi v8.2 v8.1).bind fun v12=>((gi v8.2 v8.1).bind fun v13=>((gi (lset v8.2 v8.1 v10) (w64 (v8.1+1))).bind fun v14=>(some (.inl ((w64 (v8.1+1)),(lset (lset v8.2 v8.1 v10) (w64 (v8.1+1)) v12)))))))))) else (some (.inr v8.2)))
def kfJ (x1:Int) (x3:((Line×Line)->Option Int)) (x4:(List Line)) (v16:(Int×Int)):Option ((Int×Int)⊕Int):=
 (if (decide (v16.1<v16.2))=true then ((gshr .u64 (IntKind.wrap .u64 (w64 (v16.1+v16.2))) 1).bind fun v17=>((gi x4 x1).bind fun v18=>((gi x4 x1).bind fun v19=>((gi x4 (w64 v17)).bind fun v20=>((gi x4 (w64 v17)).bind fun v21=>((x3 (v19,v21)).bind fun v22=>(if (!(decide (v22<0)))=true then (some (.inl ((w64 ((w64 v17)+1)),v16.2))) else (some (.inl (v16.1,(w64 v17))))))))))) else (some (.inr v16.1)))
def kfy (v23:Int) (v24:(Int×(List Line))):Option ((Int×(List Line))⊕(List Line)):=
 (if (decide (v23<v24.1))=true then ((gi v24.2 (w64 (v24.1-1))).bind fun v25=>((gi v24.2 (w64 (v24.1-1))).bind fun v26=>((gi v24.2 v24.1).bind fun v27=>((gi v24.2 v24.1).bind fun v28=>((gi v24.2 v24.1).bind fun v29=>((gi (lset v24.2 v24.1 v26) (w64 (v24.1-1))).bind fun v30=>(some (.inl ((w64 (v24.1-1)),(lset (lset v24.2 v24.1 v26) (w64 (v24.1-1)) v28)))))))))) else (some (.inr v24.2)))
def kfA (x1:Int) (x3:((Line×Line)->Option Int)) (x4:(List Line)) (v32:Int) (v34:(Int×Int)):Option ((Int×Int)⊕Int):=
 (if (decide (v34.1<v34.2))=true then ((gshr .u64 (IntKind.wrap .u64 (w64 (v34.1+v34.2))) 1).bind fun v35=>((gi x4 (w64 ((w64 ((w64 ((w64 v32)+x1))-1))-(w64 v35)))).bind fun v36=>((gi x4 (w64 ((w64 ((w64 ((w64 v32)+x1))-1))-(w64 v35)))).bind fun v37=>((gi x4 (w64 v35)).bind fun v38=>((gi x4 (w64 v35)).bind fun v39=>((x3 (v37,v39)).bind fun v40=>(if (!(decide (v40<0)))=true then (some (.inl ((w64 ((w64 v35)+1)),v34.2))) else (some (.inl (v34.1,(w64 v35))))))))))) else (some (.inr v34.1)))
def kgd (rec_slices_symMergeCmpFunc_box_line_m0:Int->Int->Int->((Line×Line)->Option Int)->(List Line)->Option (List Line)) (x0:Int) (x1:Int) (x2:Int) (x3:((Line×Line)->Option Int)) (x4:(List Line)):Option (List Line):=
 (if ((w64 (x1-x0))==1)=true then ((iter (kfB x0 x3 x4) (x1,x2)).bind fun v7=>((iter (kfG v7) (x0,x4)).bind fun v15=>(some v15))) else (if ((w64 (x2-x1))==1)=true then ((iter (kfJ x1 x3 x4) (x0,x1)).bind fun v23=>((iter (kfy v23) (x1,x4)).bind fun v31=>(some v31))) else ((gshr .u64 (IntKind.wrap .u64 (w64 (x0+x2))) 1).bind fun v32=>((if (decide ((w64 v32)<x1))=true then (some ((w64 ((w64 ((w64 v32)+x1))-x2)),(w64 v32))) else (some (x0,x1))).bind fun v33=>((iter (kfA x1 x3 x4 v32) v33).bind fun v41=>((if (decide (v41<x1))=true then (some (decide (x1<(w64 ((w64 ((w64 v32)+x1))-v41))))) else (some false)).bind fun v42=>((if v42=true then ((kde v41 x1 (w64 ((w64 ((w64 v32)+x1))-v41)) x3 x4).bind fun v43=>(some v43)) else (some x4)).bind fun v44=>((if (decide (x0<v41))=true then (some (decide (v41<(w64 v32)))) else (some false)).bind fun v45=>((if v45=true then ((rec_slices_symMergeCmpFunc_box_line_m0 x0 v41 (w64 v32) x3 v44).bind fun v46=>(some v46)) else (some v44)).bind fun v47=>(if (decide ((w64 v32)<(w64 ((w64 ((w64 v32)+x1))-v41))))=true then (if (decide ((w64 ((w64 ((w64 v32)+x1))-v41))<x2))=true then ((rec_slices_symMergeCmpFunc_box_line_m0 (w64 v32) (w64 ((w64 ((w64 v32)+x1))-v41)) x2 x3 v47).bind fun v48=>(some v48)) else (some v47)) else (some v47)))))))))))
def kbf:Nat->Int->Int->Int->((Line×Line)->Option Int)->(List Line)->Option (List Line)
 | 0,_,_,_,_,_=>none
 | k+1,x0,x1,x2,x3,x4=>kgd (kbf k) x0 x1 x2 x3 x4
def kbr (x0:Int) (x1:Int) (x2:Int) (x3:((Line×Line)->Option Int)) (x4:(List Line)):Option (List Line):=kbf 1000000 x0 x1 x2 x3 x4
def kgr (x0:Int) (x1:((Line×Line)->Option Int)) (v0:(Int×Int×(List Line))):Option ((Int×Int×(List Line))⊕(Int×(List Line))):=
 (if (decide (v0.1<=x0))=true then ((kaX v0.2.1 v0.1 x1 v0.2.2).bind fun v1=>(some (.inl ((w64 (v0.1+20)),v0.1,v1)))) else (some (.inr v0.2)))
def kgn (x0:Int) (x1:((Line×Line)->Option Int)) (v4:(Int×(List Line))) (v5:(Int×Int×(List Line))):Option ((Int×Int×(List Line))⊕(Int×(List Line))):=
 (if (decide (v5.1<=x0))=true then ((kbr v5.2.1 (w64 (v5.2.1+v4.1)) v5.1 x1 v5.2.2).bind fun v6=>(some (.inl ((w64 (v5.1+(w64 (2*v4.1)))),v5.1,v6)))) else (some (.inr v5.2)))
def kgg (x0:Int) (x1:((Line×Line)->Option Int)) (v4:(Int×(List Line))):Option ((Int×(List Line))⊕(List Line)):=
 (if (decide (v4.1<x0))=true then ((iter (kgn x0 x1 v4) ((w64 (2*v4.1)),0,v4.2)).bind fun v7=>(if (decide ((w64 (v7.1+v4.1))<x0))=true then ((kbr v7.1 (w64 (v7.1+v4.1)) x0 x1 v7.2).bind fun v8=>(some (.inl ((w64 (v4.1*2)),v8)))) else (some (.inl ((w64 (v4.1*2)),v7.2))))) else (some (.inr v4.2)))
def kdd (x0:Int) (x1:((Line×Line)->Option Int)) (x2:(List Line)):Option (List Line):=
 ((iter (kgr x0 x1) (20,0,x2)).bind fun v2=>((kaX v2.1 x0 x1 v2.2).bind fun v3=>((iter (kgg x0 x1) (20,v3)).bind fun v9=>(some v9))))
def kaK (x0:((Line×Line)->Option Int)) (x1:(List Line)):Option (List Line):=
 ((kdd (lenI x1) x0 x1).bind fun v0=>(some v0))
def kfY (x0:(Int×Int)) (x1:(List ((Int×Int)×Int))) (x2:Bool) (x3:Int) (x4:Int) (x5:Int):Option ((List ((Int×Int)×Int))×Bool×Int×Int×Int):=
 (if (mget x1 x0).isSome=true then (if (!x2)=true then (some (x1,true,((mget x1 x0).getD 0),x0)) else (if (decide (((mget x1 x0).getD 0)<x3))=true then (some (x1,true,((mget x1 x0).getD 0),x0)) else (if (((mget x1 x0).getD 0)==x3)=true then ((kga x0 (x4,x5)).bind fun v0=>(if (decide (v0<0))=true then (some (x1,true,((mget x1 x0).getD 0),x0)) else (some (x1,x2,x3,x4,x5)))) else (some (x1,x2,x3,x4,x5))))) else (some (x1,x2,x3,x4,x5)))
def knT (x0:(List Swap)) (x1:(Int×Int)) (v1:(Int×(List ((Int×Int)×Int))×Bool×Int×Int×Int)):Option ((Int×(List ((Int×Int)×Int))×Bool×Int×Int×Int)⊕(Int×Int×Int×Bool×(List ((Int×Int)×Int)))):=
 (if (decide (v1.1<(lenI x0)))=true then ((gi x0 v1.1).bind fun v2=>(if ((x1.1==v2.1)&&(x1.2==v2.2.1))=true then ((kfY v2.2.2 v1.2.1 v1.2.2.1 v1.2.2.2.1 v1.2.2.2.2.1 v1.2.2.2.2.2).bind fun v3=>(some (.inl ((w64 (v1.1+1)),v3)))) else (some (.inl ((w64 (v1.1+1)),v1.2))))) else (some (.inr (v1.2.2.2.1,v1.2.2.2.2.1,v1.2.2.2.2.2,v1.2.2.1,v1.2.1))))
def kim (x0:(List Swap)) (x1:(Int×Int)) (x2:(List ((Int×Int)×Int))):Option (Int×Int×Int×Bool×(List ((Int×Int)×Int))):=
 ((kfY x1 x2 false 0 0 0).bind fun v0=>((iter (knT x0 x1) (0,v0)).bind fun v4=>(some v4)))
def kwV (x3:(List (Int×Int×Int))) (v3:(Int×(List ((Int×Int)×Int)))):Option ((Int×(List ((Int×Int)×Int)))⊕(List ((Int×Int)×Int))):=
 (if (decide (v3.1<(lenI x3)))=true then ((gi x3 v3.1).bind fun v4=>((kdZ v4).bind fun v5=>(some (.inl ((w64 (v3.1+1)),(mput v3.2 v5 v4.2.2)))))) else (some (.inr v3.2)))
def kxj (x1:(List (Int×Int×Int))) (x2:(List Swap)) (v7:(Int×(List ((Int×Int)×Int))×(List Line))):Option ((Int×(List ((Int×Int)×Int))×(List Line))⊕(List Line)):=
 (if (decide (v7.1<(lenI x1)))=true then ((gi x1 v7.1).bind fun v8=>((kbn v8).bind fun v9=>((kim x2 v9 v7.2.1).bind fun v10=>((gapp v7.2.2 [(v7.1,v10.1,v8.2.2,(v10.2.1,v10.2.2.1),v10.2.2.2.1)]).bind fun v11=>(some (.inl ((w64 (v7.1+1)),v10.2.2.2.2,v11))))))) else (some (.inr v7.2.2)))
def kwL (v13:(List Line)) (v15:Int):Option (Int⊕((Bill×Int)⊕Unit)):=
 (if (decide (v15<(lenI v13)))=true then ((gi v13 v15).bind fun v16=>((gi v13 v15).bind fun v17=>none)) else (some (.inr (.inr ()))))
def kwO (x3:(List (Int×Int×Int))) (v21:(Int×Int×Int×(List (Int×Int×Int)))):Option ((Int×Int×Int×(List (Int×Int×Int)))⊕((Bill×Int)⊕(Int×(List (Int×Int×Int))×Int))):=
 (if (decide (v21.1<(lenI x3)))=true then ((gi x3 v21.1).bind fun v22=>((kdZ v22).bind fun v23=>(if (decide (1000<((mget [] v23).getD 0)))=true then (some (.inr (.inl (([],[],0),4)))) else (if (decide (0<((mget [] v23).getD 0)))=true then ((gapp v21.2.2.2 [(v22.1,v22.2.1,((mget [] v23).getD 0))]).bind fun v24=>(some (.inl ((w64 (v21.1+1)),v21.2.1,v21.2.2.1,v24)))) else (some (.inl ((w64 (v21.1+1)),v21.2))))))) else (some (.inr (.inr (v21.2.2.1,v21.2.2.2,v21.2.1)))))
def kwB (x3:(List (Int×Int×Int))) (v31:(Int×(List ((Int×Int)×Int)))):Option ((Int×(List ((Int×Int)×Int)))⊕(List ((Int×Int)×Int))):=
 (if (decide (v31.1<(lenI x3)))=true then ((gi x3 v31.1).bind fun v32=>((kdZ v32).bind fun v33=>(some (.inl ((w64 (v31.1+1)),(mput v31.2 v33 v32.2.2)))))) else (some (.inr v31.2)))
def kwT (x1:(List (Int×Int×Int))) (x2:(List Swap)) (v35:(Int×(List ((Int×Int)×Int))×(List Line))):Option ((Int×(List ((Int×Int)×Int))×(List Line))⊕(List Line)):=
 (if (decide (v35.1<(lenI x1)))=true then ((gi x1 v35.1).bind fun v36=>((kbn v36).bind fun v37=>((kim x2 v37 v35.2.1).bind fun v38=>((gapp v35.2.2 [(v35.1,v38.1,v36.2.2,(v38.2.1,v38.2.2.1),v38.2.2.2.1)]).bind fun v39=>(some (.inl ((w64 (v35.1+1)),v38.2.2.2.2,v39))))))) else (some (.inr v35.2.2)))
def kwA (v41:(List Line)) (v43:(Int×(List (Int×Int×Int))×(List (List Int))×(List (List Int))×(List Int)×Int×(List Int)×Int×(List ((Int×Int)×Int)))):Option ((Int×(List (Int×Int×Int))×(List (List Int))×(List (List Int))×(List Int)×Int×(List Int)×Int×(List ((Int×Int)×Int)))⊕((Bill×Int)⊕((List ((Int×Int)×Int))×Int×kai))):=
 (if (decide (v43.1<(lenI v41)))=true then ((gi v41 v43.1).bind fun v44=>((gi v41 v43.1).bind fun v45=>((kdi v45.1 v45.2.2.1 v43.2.1 v43.2.2.1 v43.2.2.2.1 v43.2.2.2.2.1).bind fun v46=>((gi v43.2.2.2.2.2.2.1 v45.1).bind fun v47=>((if (decide (v46.1<v45.2.2.1))=true then (some (!v45.2.2.2.2)) else (some false)).bind fun v48=>(if v48=true then (some (.inr (.inl (([],[],0),80)))) else (bthO (.sm (.pr (.i .i64) (.pr (.sl (.pr (.i .i64) (.pr (.i .u8) (.i .i64)))) (.pr (.sl (.sl (.i .i64))) (.pr (.sl (.sl (.i .i64))) (.pr (.sl (.i .i64)) (.pr (.i .i64) (.pr (.sl (.i .i64)) (.pr (.i .i64) (.sl (.pr (.pr (.i .i64) (.i .u8)) (.i .i64))))))))))) (.sm (.pr tBill (.i .i64)) (.pr (.sl (.pr (.pr (.i .i64) (.i .u8)) (.i .i64))) (.pr (.i .i64) kwe)))) ((gi (ment v43.2.2.2.2.2.2.2.2 v45.2.2.2.1 0) (midx v43.2.2.2.2.2.2.2.2 v45.2.2.2.1)).bind fun v49=>(some (.inl ((w64 (v43.1+1)),v46.2.1,v46.2.2.1,v46.2.2.2.1,v46.2.2.2.2,(w64 (v43.2.2.2.2.2.1+(w64 ((w64 (v45.2.2.1-v46.1))*v45.2.1)))),(lset v43.2.2.2.2.2.2.1 v45.1 v46.1),v43.2.2.2.2.2.2.2.1,(mset (ment v43.2.2.2.2.2.2.2.2 v45.2.2.2.1 0) (midx v43.2.2.2.2.2.2.2.2 v45.2.2.2.1) (w64 (((mget v43.2.2.2.2.2.2.2.2 v45.2.2.2.1).getD 0)+(w64 (v45.2.2.1-v46.1))))))))) ((gi (ment v43.2.2.2.2.2.2.2.2 v45.2.2.2.1 0) (midx v43.2.2.2.2.2.2.2.2 v45.2.2.2.1)).bind fun v50=>(some (.inl ((w64 (v43.1+1)),v46.2.1,v46.2.2.1,v46.2.2.2.1,v46.2.2.2.2,(w64 (v43.2.2.2.2.2.1+(w64 ((w64 (v45.2.2.1-v46.1))*v45.2.1)))),(lset v43.2.2.2.2.2.2.1 v45.1 v46.1),v43.2.2.2.2.2.2.2.1,(mset (ment v43.2.2.2.2.2.2.2.2 v45.2.2.2.1 0) (midx v43.2.2.2.2.2.2.2.2 v45.2.2.2.1) (w64 (((mget (ment v43.2.2.2.2.2.2.2.2 v45.2.2.2.1 0) v45.2.2.2.1).getD 0)+(w64 (v45.2.2.1-v46.1)))))))))))))))) else (some (.inr (.inr (v43.2.2.2.2.2.2.2.2,v43.2.2.2.2.2.2.2.1,v43.2.2.2.2.2.1,v43.2.2.2.2.2.2.1)))))
def kxk (x3:(List (Int×Int×Int))) (v53:((List ((Int×Int)×Int))×Int×kai)) (v54:(Int×Int×Int×(List (Int×Int×Int)))):Option ((Int×Int×Int×(List (Int×Int×Int)))⊕((Bill×Int)⊕(Int×(List (Int×Int×Int))×Int))):=
 (if (decide (v54.1<(lenI x3)))=true then ((gi x3 v54.1).bind fun v55=>((kdZ v55).bind fun v56=>(if (decide (1000<((mget v53.1 v56).getD 0)))=true then (some (.inr (.inl (([],[],0),4)))) else (if (decide (0<((mget v53.1 v56).getD 0)))=true then ((gapp v54.2.2.2 [(v55.1,v55.2.1,((mget v53.1 v56).getD 0))]).bind fun v57=>(some (.inl ((w64 (v54.1+1)),v54.2.1,v54.2.2.1,v57)))) else (some (.inl ((w64 (v54.1+1)),v54.2))))))) else (some (.inr (.inr (v54.2.2.1,v54.2.2.2,v54.2.1)))))
def kwb (x0:(List (Int×Int×Int))) (x1:(List (Int×Int×Int))) (x2:(List Swap)) (x3:(List (Int×Int×Int))):Option (Bill×Int):=
 (elsO ((kes x0 x1 x2).bind fun v0=>(if (v0 != 0)=true then (some (([],[],0),v0)) else ((ken x3 60 (fun (u0:(Int×Int×Int))=>((kdZ u0).bind fun u1=>(some u1)))).bind fun v1=>(if (!v1)=true then (some (([],[],0),2)) else ((kaT x3 (fun (u0:(Int×Int×Int))=>((kmf u0).bind fun u1=>(some u1)))).bind fun v2=>(if v2=true then (some (([],[],0),2)) else ((iter (kwV x3) (0,[])).bind fun v6=>((iter (kxj x1 x2) (0,v6,[])).bind fun v12=>((kaK (fun (u0:(Line×Line))=>((klZ u0.1 u0.2).bind fun u1=>(some u1))) v12).bind fun v13=>((gmk (lenI x1) 0).bind fun v14=>((iter (kwL v13) 0).bind fun v18=>(match v18 with | .inl v19=>(some v19) | .inr v20=>((iter (kwO x3) (0,0,0,[])).bind fun v25=>(match v25 with | .inl v26=>(some v26) | .inr v27=>(some ((v14,v27.2.1,v27.1),0)))))))))))))))) ((kep x0 x1 x2).bind fun v28=>(if (v28.1 != 0)=true then (some (([],[],0),v28.1)) else ((ken x3 60 (fun (u0:(Int×Int×Int))=>((kdZ u0).bind fun u1=>(some u1)))).bind fun v29=>(if (!v29)=true then (some (([],[],0),2)) else ((kaT x3 (fun (u0:(Int×Int×Int))=>((kmf u0).bind fun u1=>(some u1)))).bind fun v30=>(if v30=true then (some (([],[],0),2)) else ((iter (kwB x3) (0,[])).bind fun v34=>((iter (kwT x1 x2) (0,v34,[])).bind fun v40=>((kaK (fun (u0:(Line×Line))=>((klZ u0.1 u0.2).bind fun u1=>(some u1))) v40).bind fun v41=>((gmk (lenI x1) 0).bind fun v42=>((iter (kwA v41) (0,v28.2.1,v28.2.2.1,v28.2.2.2.1,v28.2.2.2.2,0,v42,0,[])).bind fun v51=>(match v51 with | .inl v52=>(some v52) | .inr v53=>((iter (kxk x3 v53) (0,v53.2.1,v53.2.2.1,[])).bind fun v58=>(match v58 with | .inl v59=>(some v59) | .inr v60=>(some ((v53.2.2.2,v60.2.1,v60.1),0)))))))))))))))))
def law08_plans:Option (List (List (Int×Int×Int))):=
 ((kbk 1 1 2).bind fun v0=>((kbk 1 1 1).bind fun v1=>((kbk 1 1 3).bind fun v2=>(some [[v0],[v1],[v2]]))))
def klw (x0:Int):Option Bool:=
 ((kfR 0 1000 x0).bind fun v0=>(some (!v0)))
def kiu (x0:(List Int)) (x1:(Int->Option Bool)) (v0:Int):Option (Int⊕(Int⊕Unit)):=
 (if (decide (v0<(lenI x0)))=true then ((gi x0 v0).bind fun v1=>((x1 v1).bind fun v2=>(if v2=true then (some (.inr (.inl v0))) else (some (.inl (w64 (v0+1))))))) else (some (.inr (.inr ()))))
def kcB (x0:(List Int)) (x1:(Int->Option Bool)):Option Int:=
 ((iter (kiu x0 x1) 0).bind fun v3=>(match v3 with | .inl v4=>(some v4) | .inr v5=>(some (-1))))
def kef (x0:(List Int)) (x1:(Int->Option Bool)):Option Bool:=
 ((kcB x0 x1).bind fun v0=>(some (decide (0<=v0))))
def kpk (x0:(List (List (Int×Int×Int)))) (x1:(List Int)):Option Int:=
 ((kcl x0).bind fun v0=>(if (v0 != 0)=true then (some v0) else (if (decide (8<(lenI x0)))=true then (some 4) else (if ((lenI x1) != (lenI x0))=true then (some 2) else ((kef x1 (fun (u0:Int)=>((klw u0).bind fun u1=>(some u1)))).bind fun v1=>(if v1=true then (some 2) else (some 0)))))))
def koV (x0:Int) (x1:Int):Option Int:=
 (some (w64 (x0-x1)))
def kpo (x0:(Int×Int×Int)):Option Bool:=
 (some (decide (x0.2.2<0)))
def kqn (x0:(List (Int×Int×Int))) (x1:(List (Int×Int×Int))):Option ((List (Int×Int×Int))×Int):=
 ((kcl [x0,x1]).bind fun v0=>(if (v0 != 0)=true then (some ([],v0)) else ((kmd x0 x1 (fun (u0:(Int×Int))=>((koV u0.1 u0.2).bind fun u1=>(some u1)))).bind fun v1=>((kas v1 (fun (u0:(Int×Int×Int))=>((kpo u0).bind fun u1=>(some u1)))).bind fun v2=>(if v2=true then (some ([],6)) else (some (v1,0)))))))
def kat (x0:(List (Int×Int×Int))):Option (List (Int×Int×Int)):=
 (if (isE x0)=true then (bthO (.sl (.pr (.i .i64) (.pr (.i .u8) (.i .i64)))) (some []) ((gapp [] x0).bind fun v0=>(some v0))) else ((gapp [] x0).bind fun v1=>(some v1)))
def kci:Nat->List (List (Int×Int×Int))->Int->Int->List (Int×Int×Int)->Option (List (Int×List (Int×Int×Int)))
 | 0,_,_,_,_=>none
 | d+1,ps,i,s,l=>
  if i=lenI ps then some [(s,l)] else
   (gi ps i).bind fun p=>(kqn l p).bind fun r=>
    if r.2=0 then (gshl .i64 1 i).bind fun b=>(kci d ps (w64 (i+1)) (bitsI .or .i64 s b) r.1).bind fun x=>(kci d ps (w64 (i+1)) s l).bind fun y=>some (x++y)
    else kci d ps (w64 (i+1)) s l
def khQ (_:Option (List (Int×List (Int×Int×Int)))) (x0:List (List (Int×Int×Int))) (x1:List (Int×Int×Int)):Option (List (Int×List (Int×Int×Int))):=
 (kat x1).bind fun l=>kci (x0.length+1) x0 0 0 l
def kog (x0:(List (Int×Int×Int))) (x1:(List (List (Int×Int×Int)))):Option ((List (List (Int×Int×Int)))×(List (Int×Int×Int))):=
 (some (x1,x0))
def krZ (x0:Int) (x1:(List Int)) (v0:(Int×kai)):Option ((Int×kai)⊕kai):=
 (if (decide (v0.1<(lenI x1)))=true then ((gi x1 v0.1).bind fun v1=>((gshr .i64 x0 v0.1).bind fun v2=>(if ((bitsI .and .i64 v2 1)==1)=true then ((gapp v0.2.2 [v0.1]).bind fun v3=>(some (.inl ((w64 (v0.1+1)),(w64 (v0.2.1+v1)),v3)))) else (some (.inl ((w64 (v0.1+1)),v0.2)))))) else (some (.inr v0.2)))
def koT (x0:Int) (x1:(List Int)):Option ((List Int)×Int):=
 ((iter (krZ x0 x1) (0,0,[])).bind fun v4=>(some (v4.2,v4.1)))
def kjq (x0:(List Int)) (x1:(List Int)) (v0:Int):Option (Int⊕(Int⊕Unit)):=
 (if (decide (v0<(lenI x0)))=true then ((gi x0 v0).bind fun v1=>(if (decide ((lenI x1)<=v0))=true then (some (.inr (.inl 1))) else ((gi x1 v0).bind fun v2=>((kcs v1 v2).bind fun v3=>(if (v3 != 0)=true then (some (.inr (.inl v3))) else (some (.inl (w64 (v0+1))))))))) else (some (.inr (.inr ()))))
def kfL (x0:(List Int)) (x1:(List Int)):Option Int:=
 ((iter (kjq x0 x1) 0).bind fun v4=>(match v4 with | .inl v5=>(some v5) | .inr v6=>(if (decide ((lenI x0)<(lenI x1)))=true then (some (-1)) else (some 0))))
def kte (x2:(List Int)) (v4:(List (Int×(List (Int×Int×Int))))) (v5:(Int×knO)):Option ((Int×knO)⊕((knO×Int)⊕knO)):=
 (if (decide (v5.1<(lenI v4)))=true then ((gi v4 v5.1).bind fun v6=>((koT v6.1 x2).bind fun v7=>(if (decide (v5.2.2.1<v7.2))=true then ((kat v6.2).bind fun v8=>(some (.inl ((v5.1+1),v7.1,v7.2,v8)))) else (if (v7.2==v5.2.2.1)=true then ((kcs (lenI v7.1) (lenI v5.2.1)).bind fun v9=>((kfL v7.1 v5.2.1).bind fun v10=>((kiq [v9,v10]).bind fun v11=>(if (decide (v11<0))=true then ((kat v6.2).bind fun v12=>(some (.inl ((v5.1+1),v7.1,v7.2,v12)))) else (some (.inl ((v5.1+1),v5.2))))))) else (some (.inl ((v5.1+1),v5.2))))))) else (some (.inr (.inr v5.2))))
def kqU (x0:(List (Int×Int×Int))) (x1:(List (List (Int×Int×Int)))) (x2:(List Int)):Option (knO×Int):=
 ((kcl [x0]).bind fun v0=>((if (v0==0)=true then ((kpk x1 x2).bind fun v1=>(some v1)) else (some v0)).bind fun v2=>(if (v2 != 0)=true then (some (([],0,[]),v2)) else ((kog x0 x1).bind fun v3=>((runI fun o=>(khQ o v3.1 v3.2)).bind fun v4=>((iter (kte x2 v4) (0,[],(-1),[])).bind fun v13=>(match v13 with | .inl v14=>(some v14) | .inr v15=>(some (v15,0)))))))))
def khs (o:Option (List Int)) (x0:(List Int)) (v0:kai):Option (kai⊕((List Int)⊕(List Int))):=
 (if (decide (v0.1<(lenI x0)))=true then ((gi x0 v0.1).bind fun v1=>((gpre (.i .i64) o v0.2 v1).bind fun v2=>(some (.inl ((w64 (v0.1+1)),v2))))) else (some (.inr (.inr v0.2))))
def keg (o:Option (List Int)) (x0:(List Int)):Option (List Int):=
 ((iter (khs o x0) (0,[])).bind fun v3=>(match v3 with | .inl v4=>(some v4) | .inr v5=>(some v5)))
def keV (x0:(List Int)):Option (List Int):=
 (some x0)
def kqP (x0:Int):Option Int:=
 ((if (decide (65536<=x0))=true then ((gshr .u32 x0 16).bind fun v0=>(some (v0,16))) else (some (x0,0))).bind fun v1=>(if (decide (256<=v1.1))=true then ((gshr .u32 v1.1 8).bind fun v2=>((gstr [0,1,2,2,3,3,3,3,4,4,4,4,4,4,4,4,5,5,5,5,5,5,5,5,5,5,5,5,5,5,5,5,6,6,6,6,6,6,6,6,6,6,6,6,6,6,6,6,6,6,6,6,6,6,6,6,6,6,6,6,6,6,6,6,7,7,7,7,7,7,7,7,7,7,7,7,7,7,7,7,7,7,7,7,7,7,7,7,7,7,7,7,7,7,7,7,7,7,7,7,7,7,7,7,7,7,7,7,7,7,7,7,7,7,7,7,7,7,7,7,7,7,7,7,7,7,7,7,8,8,8,8,8,8,8,8,8,8,8,8,8,8,8,8,8,8,8,8,8,8,8,8,8,8,8,8,8,8,8,8,8,8,8,8,8,8,8,8,8,8,8,8,8,8,8,8,8,8,8,8,8,8,8,8,8,8,8,8,8,8,8,8,8,8,8,8,8,8,8,8,8,8,8,8,8,8,8,8,8,8,8,8,8,8,8,8,8,8,8,8,8,8,8,8,8,8,8,8,8,8,8,8,8,8,8,8,8,8,8,8,8,8,8,8,8,8,8,8,8,8,8,8,8,8,8,8] (IntKind.wrap .u8 v2)).bind fun v3=>(some (w64 ((w64 (v1.2+8))+(w64 v3)))))) else ((gstr [0,1,2,2,3,3,3,3,4,4,4,4,4,4,4,4,5,5,5,5,5,5,5,5,5,5,5,5,5,5,5,5,6,6,6,6,6,6,6,6,6,6,6,6,6,6,6,6,6,6,6,6,6,6,6,6,6,6,6,6,6,6,6,6,7,7,7,7,7,7,7,7,7,7,7,7,7,7,7,7,7,7,7,7,7,7,7,7,7,7,7,7,7,7,7,7,7,7,7,7,7,7,7,7,7,7,7,7,7,7,7,7,7,7,7,7,7,7,7,7,7,7,7,7,7,7,7,7,8,8,8,8,8,8,8,8,8,8,8,8,8,8,8,8,8,8,8,8,8,8,8,8,8,8,8,8,8,8,8,8,8,8,8,8,8,8,8,8,8,8,8,8,8,8,8,8,8,8,8,8,8,8,8,8,8,8,8,8,8,8,8,8,8,8,8,8,8,8,8,8,8,8,8,8,8,8,8,8,8,8,8,8,8,8,8,8,8,8,8,8,8,8,8,8,8,8,8,8,8,8,8,8,8,8,8,8,8,8,8,8,8,8,8,8,8,8,8,8,8,8,8,8,8,8,8,8] (IntKind.wrap .u8 v1.1)).bind fun v4=>(some (w64 (v1.2+(w64 v4)))))))
def kla (x0:Int):Option Int:=
 ((if (decide (4294967296<=x0))=true then ((gshr .u64 x0 32).bind fun v0=>(some (v0,32))) else (some (x0,0))).bind fun v1=>((if (decide (65536<=v1.1))=true then ((gshr .u64 v1.1 16).bind fun v2=>(some (v2,(w64 (v1.2+16))))) else (some v1)).bind fun v3=>(if (decide (256<=v3.1))=true then ((gshr .u64 v3.1 8).bind fun v4=>((gstr [0,1,2,2,3,3,3,3,4,4,4,4,4,4,4,4,5,5,5,5,5,5,5,5,5,5,5,5,5,5,5,5,6,6,6,6,6,6,6,6,6,6,6,6,6,6,6,6,6,6,6,6,6,6,6,6,6,6,6,6,6,6,6,6,7,7,7,7,7,7,7,7,7,7,7,7,7,7,7,7,7,7,7,7,7,7,7,7,7,7,7,7,7,7,7,7,7,7,7,7,7,7,7,7,7,7,7,7,7,7,7,7,7,7,7,7,7,7,7,7,7,7,7,7,7,7,7,7,8,8,8,8,8,8,8,8,8,8,8,8,8,8,8,8,8,8,8,8,8,8,8,8,8,8,8,8,8,8,8,8,8,8,8,8,8,8,8,8,8,8,8,8,8,8,8,8,8,8,8,8,8,8,8,8,8,8,8,8,8,8,8,8,8,8,8,8,8,8,8,8,8,8,8,8,8,8,8,8,8,8,8,8,8,8,8,8,8,8,8,8,8,8,8,8,8,8,8,8,8,8,8,8,8,8,8,8,8,8,8,8,8,8,8,8,8,8,8,8,8,8,8,8,8,8,8,8] (IntKind.wrap .u8 v4)).bind fun v5=>(some (w64 ((w64 (v3.2+8))+(w64 v5)))))) else ((gstr [0,1,2,2,3,3,3,3,4,4,4,4,4,4,4,4,5,5,5,5,5,5,5,5,5,5,5,5,5,5,5,5,6,6,6,6,6,6,6,6,6,6,6,6,6,6,6,6,6,6,6,6,6,6,6,6,6,6,6,6,6,6,6,6,7,7,7,7,7,7,7,7,7,7,7,7,7,7,7,7,7,7,7,7,7,7,7,7,7,7,7,7,7,7,7,7,7,7,7,7,7,7,7,7,7,7,7,7,7,7,7,7,7,7,7,7,7,7,7,7,7,7,7,7,7,7,7,7,8,8,8,8,8,8,8,8,8,8,8,8,8,8,8,8,8,8,8,8,8,8,8,8,8,8,8,8,8,8,8,8,8,8,8,8,8,8,8,8,8,8,8,8,8,8,8,8,8,8,8,8,8,8,8,8,8,8,8,8,8,8,8,8,8,8,8,8,8,8,8,8,8,8,8,8,8,8,8,8,8,8,8,8,8,8,8,8,8,8,8,8,8,8,8,8,8,8,8,8,8,8,8,8,8,8,8,8,8,8,8,8,8,8,8,8,8,8,8,8,8,8,8,8,8,8,8,8] (IntKind.wrap .u8 v3.1)).bind fun v6=>(some (w64 (v3.2+(w64 v6))))))))
def kjz (x0:Int):Option Int:=
 ((kla x0).bind fun v0=>(some v0))
def kaF (x0:Int) (x1:Int):Option Bool:=
 ((kdD x0).bind fun v0=>(if v0=true then ((kdD x1).bind fun v1=>(if (!v1)=true then (some true) else (some (decide (x0<x1))))) else (some (decide (x0<x1)))))
def khC (x0:Int):Option Int:=
 ((kjz (IntKind.wrap .u64 x0)).bind fun v0=>((gshl .u64 1 v0).bind fun v1=>(some v1)))
def kgy (x0:Int):Option (Int×Int):=
 ((gshl .u64 x0 13).bind fun v0=>((gshr .u64 (bitsI .xor .u64 x0 v0) 7).bind fun v1=>((gshl .u64 (bitsI .xor .u64 (bitsI .xor .u64 x0 v0) v1) 17).bind fun v2=>(some ((bitsI .xor .u64 (bitsI .xor .u64 (bitsI .xor .u64 x0 v0) v1) v2),(bitsI .xor .u64 (bitsI .xor .u64 (bitsI .xor .u64 x0 v0) v1) v2))))))
def kbv (x0:(List Int)) (x1:Int) (x2:Int) (x3:Int):Option (Int×Int×Int):=
 ((gi x0 x2).bind fun v0=>((gi x0 x1).bind fun v1=>((kaF v0 v1).bind fun v2=>(if v2=true then (some (x2,x1,(w64 (x3+1)))) else (some (x1,x2,x3))))))
def kcn (x0:(List Int)) (x1:Int) (x2:Int) (x3:Int) (x4:Int):Option (Int×Int):=
 ((kbv x0 x1 x2 x4).bind fun v0=>((kbv x0 v0.2.1 x3 v0.2.2).bind fun v1=>((kbv x0 v0.1 v1.1 v1.2.2).bind fun v2=>(some v2.2))))
def kaP (x0:(List Int)) (x1:Int) (x2:Int):Option (Int×Int):=
 ((kcn x0 (w64 (x1-1)) x1 (w64 (x1+1)) x2).bind fun v0=>(some v0))
def kee (x0:(List Int)) (x1:Int) (x2:Int):Option (Int×Int):=
 ((gquo .i64 (w64 (x2-x1)) 4).bind fun v0=>((gquo .i64 (w64 (x2-x1)) 4).bind fun v1=>((gquo .i64 (w64 (x2-x1)) 4).bind fun v2=>((if (decide (8<=(w64 (x2-x1))))=true then ((if (decide (50<=(w64 (x2-x1))))=true then ((kaP x0 (w64 (x1+(w64 (v0*1)))) 0).bind fun v3=>((kaP x0 (w64 (x1+(w64 (v1*2)))) v3.2).bind fun v4=>((kaP x0 (w64 (x1+(w64 (v2*3)))) v4.2).bind fun v5=>(some (v3.1,v4.1,v5))))) else (some ((w64 (x1+(w64 (v0*1)))),(w64 (x1+(w64 (v1*2)))),(w64 (x1+(w64 (v2*3)))),0))).bind fun v6=>((kcn x0 v6.1 v6.2.1 v6.2.2.1 v6.2.2.2).bind fun v7=>(some v7))) else (some ((w64 (x1+(w64 (v1*2)))),0))).bind fun v8=>(if (v8.2==0)=true then (some (v8.1,1)) else (if (v8.2==12)=true then (some (v8.1,2)) else (some (v8.1,0))))))))
def khr (v0:(List Int)) (v1:kai):Option (kai⊕((List Int)⊕(List Int))):=
 (if (decide (v1.1<(lenI v0)))=true then ((gi v0 v1.1).bind fun v2=>((gapp v1.2 [v2]).bind fun v3=>(some (.inl ((v1.1+1),v3))))) else (some (.inr (.inr v1.2))))
def ked (x0:(List Int)) (x1:(List Int)):Option (List Int):=
 ((runI fun o=>(keg o x1)).bind fun v0=>((iter (khr v0) (0,x0)).bind fun v4=>(match v4 with | .inl v5=>(some v5) | .inr v6=>(some v6))))
def khF (x0:(List Int)):Option (List Int):=
 ((ked [] x0).bind fun v0=>(some v0))
def kfD (x0:Int) (v1:kai):Option (kai⊕(List Int)):=
 (if (decide (x0<v1.1))=true then ((gi v1.2 v1.1).bind fun v2=>((gi v1.2 v1.1).bind fun v3=>((gi v1.2 (w64 (v1.1-1))).bind fun v4=>((gi v1.2 (w64 (v1.1-1))).bind fun v5=>((kaF v3 v5).bind fun v6=>(if v6=true then ((gi v1.2 (w64 (v1.1-1))).bind fun v7=>((gi v1.2 (w64 (v1.1-1))).bind fun v8=>((gi v1.2 v1.1).bind fun v9=>((gi v1.2 v1.1).bind fun v10=>((gi v1.2 v1.1).bind fun v11=>((gi (lset v1.2 v1.1 v8) (w64 (v1.1-1))).bind fun v12=>(some (.inl ((w64 (v1.1-1)),(lset (lset v1.2 v1.1 v8) (w64 (v1.1-1)) v10)))))))))) else (some (.inr v1.2)))))))) else (some (.inr v1.2)))
def kfE (x0:Int) (x1:Int) (v0:kai):Option (kai⊕(List Int)):=
 (if (decide (v0.1<x1))=true then ((iter (kfD x0) v0).bind fun v13=>(some (.inl ((w64 (v0.1+1)),v13)))) else (some (.inr v0.2)))
def kcF (x0:Int) (x1:Int) (x2:(List Int)):Option (List Int):=
 ((iter (kfE x0 x1) ((w64 (x0+1)),x2)).bind fun v14=>(some v14))
def khl (x1:Int) (x2:Int) (v0:kai):Option (kai⊕((List Int)⊕(List Int))):=
 (if (decide (x1<=(w64 ((w64 (2*v0.1))+1))))=true then (some (.inr (.inr v0.2))) else ((if (decide ((w64 ((w64 ((w64 (2*v0.1))+1))+1))<x1))=true then ((gi v0.2 (w64 (x2+(w64 ((w64 (2*v0.1))+1))))).bind fun v1=>((gi v0.2 (w64 (x2+(w64 ((w64 (2*v0.1))+1))))).bind fun v2=>((gi v0.2 (w64 ((w64 (x2+(w64 ((w64 (2*v0.1))+1))))+1))).bind fun v3=>((gi v0.2 (w64 ((w64 (x2+(w64 ((w64 (2*v0.1))+1))))+1))).bind fun v4=>((kaF v2 v4).bind fun v5=>(some v5)))))) else (some false)).bind fun v6=>((if v6=true then (some (w64 ((w64 ((w64 (2*v0.1))+1))+1))) else (some (w64 ((w64 (2*v0.1))+1)))).bind fun v7=>((gi v0.2 (w64 (x2+v0.1))).bind fun v8=>((gi v0.2 (w64 (x2+v0.1))).bind fun v9=>((gi v0.2 (w64 (x2+v7))).bind fun v10=>((gi v0.2 (w64 (x2+v7))).bind fun v11=>((kaF v9 v11).bind fun v12=>(if (!v12)=true then (some (.inr (.inl v0.2))) else ((gi v0.2 (w64 (x2+v7))).bind fun v13=>((gi v0.2 (w64 (x2+v7))).bind fun v14=>((gi v0.2 (w64 (x2+v0.1))).bind fun v15=>((gi v0.2 (w64 (x2+v0.1))).bind fun v16=>((gi v0.2 (w64 (x2+v0.1))).bind fun v17=>((gi (lset v0.2 (w64 (x2+v0.1)) v14) (w64 (x2+v7))).bind fun v18=>(some (.inl (v7,(lset (lset v0.2 (w64 (x2+v0.1)) v14) (w64 (x2+v7)) v16)))))))))))))))))))
def kbV (x0:Int) (x1:Int) (x2:Int) (x3:(List Int)):Option (List Int):=
 ((iter (khl x1 x2) (x0,x3)).bind fun v19=>(match v19 with | .inl v20=>(some v20) | .inr v21=>(some v21)))
def khm (x0:Int) (x1:Int) (v1:kai):Option (kai⊕(List Int)):=
 (if (decide (0<=v1.1))=true then ((kbV v1.1 (w64 (x1-x0)) x0 v1.2).bind fun v2=>(some (.inl ((w64 (v1.1-1)),v2)))) else (some (.inr v1.2)))
def khk (x0:Int) (v4:kai):Option (kai⊕(List Int)):=
 (if (decide (0<=v4.1))=true then ((gi v4.2 (w64 (x0+v4.1))).bind fun v5=>((gi v4.2 (w64 (x0+v4.1))).bind fun v6=>((gi v4.2 x0).bind fun v7=>((gi v4.2 x0).bind fun v8=>((gi v4.2 x0).bind fun v9=>((gi (lset v4.2 x0 v6) (w64 (x0+v4.1))).bind fun v10=>((kbV 0 v4.1 x0 (lset (lset v4.2 x0 v6) (w64 (x0+v4.1)) v8)).bind fun v11=>(some (.inl ((w64 (v4.1-1)),v11)))))))))) else (some (.inr v4.2)))
def keb (x0:Int) (x1:Int) (x2:(List Int)):Option (List Int):=
 ((gquo .i64 (w64 ((w64 (x1-x0))-1)) 2).bind fun v0=>((iter (khm x0 x1) (v0,x2)).bind fun v3=>((iter (khk x0) ((w64 ((w64 (x1-x0))-1)),v3)).bind fun v12=>(some v12))))
def kfH (x0:Int) (x1:Int) (v0:Int) (v2:(Int×Int×(List Int))):Option ((Int×Int×(List Int))⊕(List Int)):=
 ((gquo .i64 (w64 (x1-x0)) 4).bind fun v3=>(if (decide (v2.1<=(w64 ((w64 (x0+(w64 (v3*2))))+1))))=true then ((kgy v2.2.1).bind fun v4=>((if (decide ((w64 (x1-x0))<=(w64 (bitsI .and .u64 v4.1 (IntKind.wrap .u64 (v0-1))))))=true then (some (w64 ((w64 (bitsI .and .u64 v4.1 (IntKind.wrap .u64 (v0-1))))-(w64 (x1-x0))))) else (some (w64 (bitsI .and .u64 v4.1 (IntKind.wrap .u64 (v0-1)))))).bind fun v5=>((gi v2.2.2 (w64 (x0+v5))).bind fun v6=>((gi v2.2.2 (w64 (x0+v5))).bind fun v7=>((gi v2.2.2 v2.1).bind fun v8=>((gi v2.2.2 v2.1).bind fun v9=>((gi v2.2.2 v2.1).bind fun v10=>((gi (lset v2.2.2 v2.1 v7) (w64 (x0+v5))).bind fun v11=>(some (.inl ((w64 (v2.1+1)),v4.2,(lset (lset v2.2.2 v2.1 v7) (w64 (x0+v5)) v9)))))))))))) else (some (.inr v2.2.2))))
def kcP (x0:Int) (x1:Int) (x2:(List Int)):Option (List Int):=
 (if (decide (8<=(w64 (x1-x0))))=true then ((khC (w64 (x1-x0))).bind fun v0=>((gquo .i64 (w64 (x1-x0)) 4).bind fun v1=>((iter (kfH x0 x1 v0) ((w64 ((w64 (x0+(w64 (v1*2))))-1)),(IntKind.wrap .u64 (w64 (x1-x0))),x2)).bind fun v12=>(some v12)))) else (some x2))
def kfN (v0:(Int×kai)):Option ((Int×kai)⊕(List Int)):=
 (if (decide (v0.1<v0.2.1))=true then ((gi v0.2.2 v0.2.1).bind fun v1=>((gi v0.2.2 v0.2.1).bind fun v2=>((gi v0.2.2 v0.1).bind fun v3=>((gi v0.2.2 v0.1).bind fun v4=>((gi v0.2.2 v0.1).bind fun v5=>((gi (lset v0.2.2 v0.1 v2) v0.2.1).bind fun v6=>(some (.inl ((w64 (v0.1+1)),(w64 (v0.2.1-1)),(lset (lset v0.2.2 v0.1 v2) v0.2.1 v4)))))))))) else (some (.inr v0.2.2)))
def kcU (x0:Int) (x1:Int) (x2:(List Int)):Option (List Int):=
 ((iter (kfN) (x0,(w64 (x1-1)),x2)).bind fun v7=>(some v7))
def kdS (x1:Int) (v0:(Int×kai)) (v1:Int):Option (Int⊕Int):=
 (if (decide (v1<x1))=true then ((gi v0.2.2 v1).bind fun v2=>((gi v0.2.2 v1).bind fun v3=>((gi v0.2.2 (w64 (v1-1))).bind fun v4=>((gi v0.2.2 (w64 (v1-1))).bind fun v5=>((kaF v3 v5).bind fun v6=>(if (!v6)=true then (some (.inl (w64 (v1+1)))) else (some (.inr v1)))))))) else (some (.inr v1)))
def kdT (v14:kai):Option (kai⊕(List Int)):=
 (if (decide (1<=v14.1))=true then ((gi v14.2 v14.1).bind fun v15=>((gi v14.2 v14.1).bind fun v16=>((gi v14.2 (w64 (v14.1-1))).bind fun v17=>((gi v14.2 (w64 (v14.1-1))).bind fun v18=>((kaF v16 v18).bind fun v19=>(if (!v19)=true then (some (.inr v14.2)) else ((gi v14.2 (w64 (v14.1-1))).bind fun v20=>((gi v14.2 (w64 (v14.1-1))).bind fun v21=>((gi v14.2 v14.1).bind fun v22=>((gi v14.2 v14.1).bind fun v23=>((gi v14.2 v14.1).bind fun v24=>((gi (lset v14.2 v14.1 v21) (w64 (v14.1-1))).bind fun v25=>(some (.inl ((w64 (v14.1-1)),(lset (lset v14.2 v14.1 v21) (w64 (v14.1-1)) v23)))))))))))))))) else (some (.inr v14.2)))
def kdY (x1:Int) (v28:kai):Option (kai⊕(List Int)):=
 (if (decide (v28.1<x1))=true then ((gi v28.2 v28.1).bind fun v29=>((gi v28.2 v28.1).bind fun v30=>((gi v28.2 (w64 (v28.1-1))).bind fun v31=>((gi v28.2 (w64 (v28.1-1))).bind fun v32=>((kaF v30 v32).bind fun v33=>(if (!v33)=true then (some (.inr v28.2)) else ((gi v28.2 (w64 (v28.1-1))).bind fun v34=>((gi v28.2 (w64 (v28.1-1))).bind fun v35=>((gi v28.2 v28.1).bind fun v36=>((gi v28.2 v28.1).bind fun v37=>((gi v28.2 v28.1).bind fun v38=>((gi (lset v28.2 v28.1 v35) (w64 (v28.1-1))).bind fun v39=>(some (.inl ((w64 (v28.1+1)),(lset (lset v28.2 v28.1 v35) (w64 (v28.1-1)) v37)))))))))))))))) else (some (.inr v28.2)))
def kea (x0:Int) (x1:Int) (v0:(Int×kai)):Option ((Int×kai)⊕((Bool×(List Int))⊕(List Int))):=
 (if (decide (v0.1<5))=true then ((iter (kdS x1 v0) v0.2.1).bind fun v7=>(if (v7==x1)=true then (some (.inr (.inl (true,v0.2.2)))) else (if (decide ((w64 (x1-x0))<50))=true then (some (.inr (.inl (false,v0.2.2)))) else ((gi v0.2.2 (w64 (v7-1))).bind fun v8=>((gi v0.2.2 (w64 (v7-1))).bind fun v9=>((gi v0.2.2 v7).bind fun v10=>((gi v0.2.2 v7).bind fun v11=>((gi v0.2.2 v7).bind fun v12=>((gi (lset v0.2.2 v7 v9) (w64 (v7-1))).bind fun v13=>((if (decide (2<=(w64 (v7-x0))))=true then ((iter (kdT) ((w64 (v7-1)),(lset (lset v0.2.2 v7 v9) (w64 (v7-1)) v11))).bind fun v26=>(some v26)) else (some (lset (lset v0.2.2 v7 v9) (w64 (v7-1)) v11))).bind fun v27=>(if (decide (2<=(w64 (x1-v7))))=true then ((iter (kdY x1) ((w64 (v7+1)),v27)).bind fun v40=>(some (.inl ((w64 (v0.1+1)),v7,v40)))) else (some (.inl ((w64 (v0.1+1)),v7,v27)))))))))))))) else (some (.inr (.inr v0.2.2))))
def kbM (x0:Int) (x1:Int) (x2:(List Int)):Option (Bool×(List Int)):=
 ((iter (kea x0 x1) (0,(w64 (x0+1)),x2)).bind fun v41=>(match v41 with | .inl v42=>(some v42) | .inr v43=>(some (false,v43))))
def kfq (x0:Int) (v6:(Int×kai)) (v7:Int):Option (Int⊕Int):=
 (if (decide (v7<=v6.2.1))=true then ((gi v6.2.2 x0).bind fun v8=>((gi v6.2.2 x0).bind fun v9=>((gi v6.2.2 v7).bind fun v10=>((gi v6.2.2 v7).bind fun v11=>((kaF v9 v11).bind fun v12=>(if (!v12)=true then (some (.inl (w64 (v7+1)))) else (some (.inr v7)))))))) else (some (.inr v7)))
def kfo (x0:Int) (v6:(Int×kai)) (v13:Int) (v14:Int):Option (Int⊕Int):=
 (if (decide (v13<=v14))=true then ((gi v6.2.2 x0).bind fun v15=>((gi v6.2.2 x0).bind fun v16=>((gi v6.2.2 v14).bind fun v17=>((gi v6.2.2 v14).bind fun v18=>((kaF v16 v18).bind fun v19=>(if v19=true then (some (.inl (w64 (v14-1)))) else (some (.inr v14)))))))) else (some (.inr v14)))
def kfm (x0:Int) (v6:(Int×kai)):Option ((Int×kai)⊕kai):=
 ((iter (kfq x0 v6) v6.1).bind fun v13=>((iter (kfo x0 v6 v13) v6.2.1).bind fun v20=>(if (decide (v20<v13))=true then (some (.inr (v13,v6.2.2))) else ((gi v6.2.2 v20).bind fun v21=>((gi v6.2.2 v20).bind fun v22=>((gi v6.2.2 v13).bind fun v23=>((gi v6.2.2 v13).bind fun v24=>((gi v6.2.2 v13).bind fun v25=>((gi (lset v6.2.2 v13 v22) v20).bind fun v26=>(some (.inl ((w64 (v13+1)),(w64 (v20-1)),(lset (lset v6.2.2 v13 v22) v20 v24)))))))))))))
def kcv (x0:Int) (x1:Int) (x2:Int) (x3:(List Int)):Option kai:=
 ((gi x3 x2).bind fun v0=>((gi x3 x2).bind fun v1=>((gi x3 x0).bind fun v2=>((gi x3 x0).bind fun v3=>((gi x3 x0).bind fun v4=>((gi (lset x3 x0 v1) x2).bind fun v5=>((iter (kfm x0) ((w64 (x0+1)),(w64 (x1-1)),(lset (lset x3 x0 v1) x2 v3))).bind fun v27=>(some v27))))))))
def kha (x0:Int) (x1:Int) (x2:Int) (x3:(List Int)) (v1:Int) (v3:Int) (v6:Int):Option (Int⊕Int):=
 (if (decide (v6<=(w64 (x1-1))))=true then ((gi (lset (lset x3 x0 v1) x2 v3) v6).bind fun v7=>((gi (lset (lset x3 x0 v1) x2 v3) v6).bind fun v8=>((gi (lset (lset x3 x0 v1) x2 v3) x0).bind fun v9=>((gi (lset (lset x3 x0 v1) x2 v3) x0).bind fun v10=>((kaF v8 v10).bind fun v11=>(if v11=true then (some (.inl (w64 (v6+1)))) else (some (.inr v6)))))))) else (some (.inr v6)))
def kgK (x0:Int) (x2:Int) (x3:(List Int)) (v1:Int) (v3:Int) (v12:Int) (v13:Int):Option (Int⊕Int):=
 (if (decide (v12<=v13))=true then ((gi (lset (lset x3 x0 v1) x2 v3) v13).bind fun v14=>((gi (lset (lset x3 x0 v1) x2 v3) v13).bind fun v15=>((gi (lset (lset x3 x0 v1) x2 v3) x0).bind fun v16=>((gi (lset (lset x3 x0 v1) x2 v3) x0).bind fun v17=>((kaF v15 v17).bind fun v18=>(if (!v18)=true then (some (.inl (w64 (v13-1)))) else (some (.inr v13)))))))) else (some (.inr v13)))
def khc (x0:Int) (v32:(Int×kai)) (v33:Int):Option (Int⊕Int):=
 (if (decide (v33<=v32.2.1))=true then ((gi v32.2.2 v33).bind fun v34=>((gi v32.2.2 v33).bind fun v35=>((gi v32.2.2 x0).bind fun v36=>((gi v32.2.2 x0).bind fun v37=>((kaF v35 v37).bind fun v38=>(if v38=true then (some (.inl (w64 (v33+1)))) else (some (.inr v33)))))))) else (some (.inr v33)))
def kgS (x0:Int) (v32:(Int×kai)) (v39:Int) (v40:Int):Option (Int⊕Int):=
 (if (decide (v39<=v40))=true then ((gi v32.2.2 v40).bind fun v41=>((gi v32.2.2 v40).bind fun v42=>((gi v32.2.2 x0).bind fun v43=>((gi v32.2.2 x0).bind fun v44=>((kaF v42 v44).bind fun v45=>(if (!v45)=true then (some (.inl (w64 (v40-1)))) else (some (.inr v40)))))))) else (some (.inr v40)))
def kgN (x0:Int) (v32:(Int×kai)):Option ((Int×kai)⊕kai):=
 ((iter (khc x0 v32) v32.1).bind fun v39=>((iter (kgS x0 v32 v39) v32.2.1).bind fun v46=>(if (decide (v46<v39))=true then (some (.inr (v46,v32.2.2))) else ((gi v32.2.2 v46).bind fun v47=>((gi v32.2.2 v46).bind fun v48=>((gi v32.2.2 v39).bind fun v49=>((gi v32.2.2 v39).bind fun v50=>((gi v32.2.2 v39).bind fun v51=>((gi (lset v32.2.2 v39 v48) v46).bind fun v52=>(some (.inl ((w64 (v39+1)),(w64 (v46-1)),(lset (lset v32.2.2 v39 v48) v46 v50)))))))))))))
def kdO (x0:Int) (x1:Int) (x2:Int) (x3:(List Int)):Option (Int×Bool×(List Int)):=
 ((gi x3 x2).bind fun v0=>((gi x3 x2).bind fun v1=>((gi x3 x0).bind fun v2=>((gi x3 x0).bind fun v3=>((gi x3 x0).bind fun v4=>((gi (lset x3 x0 v1) x2).bind fun v5=>((iter (kha x0 x1 x2 x3 v1 v3) (w64 (x0+1))).bind fun v12=>((iter (kgK x0 x2 x3 v1 v3 v12) (w64 (x1-1))).bind fun v19=>(if (decide (v19<v12))=true then ((gi (lset (lset x3 x0 v1) x2 v3) x0).bind fun v20=>((gi (lset (lset x3 x0 v1) x2 v3) x0).bind fun v21=>((gi (lset (lset x3 x0 v1) x2 v3) v19).bind fun v22=>((gi (lset (lset x3 x0 v1) x2 v3) v19).bind fun v23=>((gi (lset (lset x3 x0 v1) x2 v3) v19).bind fun v24=>((gi (lset (lset (lset x3 x0 v1) x2 v3) v19 v21) x0).bind fun v25=>(some (v19,true,(lset (lset (lset (lset x3 x0 v1) x2 v3) v19 v21) x0 v23))))))))) else ((gi (lset (lset x3 x0 v1) x2 v3) v19).bind fun v26=>((gi (lset (lset x3 x0 v1) x2 v3) v19).bind fun v27=>((gi (lset (lset x3 x0 v1) x2 v3) v12).bind fun v28=>((gi (lset (lset x3 x0 v1) x2 v3) v12).bind fun v29=>((gi (lset (lset x3 x0 v1) x2 v3) v12).bind fun v30=>((gi (lset (lset (lset x3 x0 v1) x2 v3) v12 v27) v19).bind fun v31=>((iter (kgN x0) ((w64 (v12+1)),(w64 (v19-1)),(lset (lset (lset (lset x3 x0 v1) x2 v3) v12 v27) v19 v29))).bind fun v53=>((gi v53.2 x0).bind fun v54=>((gi v53.2 x0).bind fun v55=>((gi v53.2 v53.1).bind fun v56=>((gi v53.2 v53.1).bind fun v57=>((gi v53.2 v53.1).bind fun v58=>((gi (lset v53.2 v53.1 v55) x0).bind fun v59=>(some (v53.1,false,(lset (lset v53.2 v53.1 v55) x0 v57)))))))))))))))))))))))))
def khK (rec_slices_pdqsortOrdered_int_m0:Int->Int->Int->(List Int)->Option (List Int)) (v0:(Int×Int×Int×Bool×Bool×(List Int))):Option ((Int×Int×Int×Bool×Bool×(List Int))⊕((List Int)⊕(List Int))):=
 (if (decide ((w64 (v0.1-v0.2.1))<=12))=true then ((kcF v0.2.1 v0.1 v0.2.2.2.2.2).bind fun v1=>(some (.inr (.inl v1)))) else (if (v0.2.2.1==0)=true then ((keb v0.2.1 v0.1 v0.2.2.2.2.2).bind fun v2=>(some (.inr (.inl v2)))) else ((if (!v0.2.2.2.1)=true then ((kcP v0.2.1 v0.1 v0.2.2.2.2.2).bind fun v3=>(some ((w64 (v0.2.2.1-1)),v3))) else (some (v0.2.2.1,v0.2.2.2.2.2))).bind fun v4=>((kee v4.2 v0.2.1 v0.1).bind fun v5=>((if (v5.2==2)=true then ((kcU v0.2.1 v0.1 v4.2).bind fun v6=>(some (1,(w64 ((w64 (v0.1-1))-(w64 (v5.1-v0.2.1)))),v6))) else (some (v5.2,v5.1,v4.2))).bind fun v7=>((if v0.2.2.2.1=true then (if v0.2.2.2.2.1=true then (some (v7.1==1)) else (some false)) else (some false)).bind fun v8=>(((if v8=true then ((kbM v0.2.1 v0.1 v7.2.2).bind fun v9=>(if v9.1=true then (some (.inl v9.2)) else (some (.inr v9.2)))) else (some (.inr v7.2.2))):Option ((List Int)⊕(List Int))).bind fun v10=>(match v10 with | .inl v11=>(some (.inr (.inl v11))) | .inr v12=>((if (decide (0<v0.2.1))=true then ((gi v12 (w64 (v0.2.1-1))).bind fun v13=>((gi v12 (w64 (v0.2.1-1))).bind fun v14=>((gi v12 v7.2.1).bind fun v15=>((gi v12 v7.2.1).bind fun v16=>((kaF v14 v16).bind fun v17=>(some (!v17))))))) else (some false)).bind fun v18=>(if v18=true then ((kcv v0.2.1 v0.1 v7.2.1 v12).bind fun v19=>(some (.inl (v0.1,v19.1,v4.1,v0.2.2.2.1,v0.2.2.2.2.1,v19.2)))) else ((kdO v0.2.1 v0.1 v7.2.1 v12).bind fun v20=>((gquo .i64 (w64 (v0.1-v0.2.1)) 8).bind fun v21=>(if (decide ((w64 (v20.1-v0.2.1))<(w64 (v0.1-v20.1))))=true then ((rec_slices_pdqsortOrdered_int_m0 v0.2.1 v20.1 v4.1 v20.2.2).bind fun v22=>(some (.inl (v0.1,(w64 (v20.1+1)),v4.1,(decide (v21<=(w64 (v20.1-v0.2.1)))),v20.2.1,v22)))) else ((rec_slices_pdqsortOrdered_int_m0 (w64 (v20.1+1)) v0.1 v4.1 v20.2.2).bind fun v23=>(some (.inl (v20.1,v0.2.1,v4.1,(decide (v21<=(w64 (v0.1-v20.1)))),v20.2.1,v23)))))))))))))))))
def kis (rec_slices_pdqsortOrdered_int_m0:Int->Int->Int->(List Int)->Option (List Int)) (x0:Int) (x1:Int) (x2:Int) (x3:(List Int)):Option (List Int):=
 ((iter (khK rec_slices_pdqsortOrdered_int_m0) (x1,x0,x2,true,true,x3)).bind fun v24=>(match v24 with | .inl v25=>(some v25) | .inr v26=>(some v26)))
def kbQ:Nat->Int->Int->Int->(List Int)->Option (List Int)
 | 0,_,_,_,_=>none
 | k+1,x0,x1,x2,x3=>kis (kbQ k) x0 x1 x2 x3
def kez (x0:Int) (x1:Int) (x2:Int) (x3:(List Int)):Option (List Int):=kbQ 1000000 x0 x1 x2 x3
def kfV (x0:(List Int)):Option (List Int):=
 ((kjz (IntKind.wrap .u64 (lenI x0))).bind fun v0=>((kez 0 (lenI x0) v0 x0).bind fun v1=>(some v1)))
def khT (x0:(List Int)):Option (List Int):=
 ((khF x0).bind fun v0=>((kfV v0).bind fun v1=>(some v1)))
def kvz (v1:(List Int)) (v2:Int):Option (Int⊕(Bool⊕Unit)):=
 (if (decide (v2<(lenI v1)))=true then ((gi v1 v2).bind fun v3=>((gi v1 v2).bind fun v4=>(if (v4 != v2)=true then (some (.inr (.inl false))) else (some (.inl (w64 (v2+1))))))) else (some (.inr (.inr ()))))
def kud (x0:(List Int)) (x1:Int):Option Bool:=
 ((keV x0).bind fun v0=>((khT v0).bind fun v1=>((iter (kvz v1) 0).bind fun v5=>(match v5 with | .inl v6=>(some v6) | .inr v7=>(some ((lenI x0)==x1))))))
def klJ (x0:(List Int)) (x1:Int):Option Bool:=
 ((kud x0 x1).bind fun v0=>(some (!v0)))
def kgI (x0:(List (List Int))) (x1:((List Int)->Option Bool)) (v0:Int):Option (Int⊕(Int⊕Unit)):=
 (if (decide (v0<(lenI x0)))=true then ((gi x0 v0).bind fun v1=>((x1 v1).bind fun v2=>(if v2=true then (some (.inr (.inl v0))) else (some (.inl (w64 (v0+1))))))) else (some (.inr (.inr ()))))
def kdG (x0:(List (List Int))) (x1:((List Int)->Option Bool)):Option Int:=
 ((iter (kgI x0 x1) 0).bind fun v3=>(match v3 with | .inl v4=>(some v4) | .inr v5=>(some (-1))))
def kcW (x0:(List (List Int))) (x1:((List Int)->Option Bool)):Option Bool:=
 ((kdG x0 x1).bind fun v0=>(some (decide (0<=v0))))
def koX (x0:(List (List Int))):Option Bool:=
 ((kfR 1 8 (lenI x0)).bind fun v0=>(if v0=true then ((kcW x0 (fun (u0:(List Int))=>((klJ u0 (lenI x0)).bind fun u1=>(some u1)))).bind fun v1=>(some (!v1))) else (some false)))
def kqv (x0:Int) (x1:Int):Option (Int×Int):=
 ((gshr .u64 (IntKind.wrap .u64 ((IntKind.wrap .u64 x0)*(IntKind.wrap .u64 x1))) 32).bind fun v0=>(some ((IntKind.wrap .u32 v0),(IntKind.wrap .u32 (IntKind.wrap .u64 ((IntKind.wrap .u64 x0)*(IntKind.wrap .u64 x1)))))))
def kkQ (x0:Int) (x1:Int):Option (Int×Int):=
 ((gshr .u64 x0 32).bind fun v0=>((gshr .u64 x1 32).bind fun v1=>((gshr .u64 (IntKind.wrap .u64 ((bitsI .and .u64 x0 4294967295)*(bitsI .and .u64 x1 4294967295))) 32).bind fun v2=>((gshr .u64 (IntKind.wrap .u64 ((IntKind.wrap .u64 (v0*(bitsI .and .u64 x1 4294967295)))+v2)) 32).bind fun v3=>((gshr .u64 (IntKind.wrap .u64 ((bitsI .and .u64 (IntKind.wrap .u64 ((IntKind.wrap .u64 (v0*(bitsI .and .u64 x1 4294967295)))+v2)) 4294967295)+(IntKind.wrap .u64 ((bitsI .and .u64 x0 4294967295)*v1)))) 32).bind fun v4=>(some ((IntKind.wrap .u64 ((IntKind.wrap .u64 ((IntKind.wrap .u64 (v0*v1))+v3))+v4)),(IntKind.wrap .u64 (x0*x1)))))))))
def knc (x0:Int) (x1:Int):Option (Int×Int):=
 ((kkQ x0 x1).bind fun v0=>(some v0))
def kkU (x0:Int) (x1:(List Int)):Option Bool:=
 ((gi x1 x0).bind fun v0=>(some (decide (v0<0))))
def kfQ (x0:Int) (x1:(List (List Int))) (x2:(List Int)):Option Int:=
 ((gi x1 x0).bind fun v0=>((kcB v0 (fun (u0:Int)=>((kkU u0 x2).bind fun u1=>(some u1)))).bind fun v1=>((gi x1 x0).bind fun v2=>((gi v2 v1).bind fun v3=>(some v3)))))
def kit (v5:kai):Option (kai⊕(List Int)):=
 (if (decide (v5.1<(lenI v5.2)))=true then ((gsl v5.2 v5.1 (lenI v5.2)).bind fun v6=>((gsl v5.2 0 v5.1).bind fun v7=>(some (.inl ((w64 (v5.1+(imin (lenI ((List.drop (Int.toNat 0) v5.2).take (Int.toNat (v5.1-0)))) ((lenI v5.2)-v5.1)))),(kAc v5.2 (v5.1,((lenI v5.2)-v5.1)) ((List.drop (Int.toNat 0) v5.2).take (Int.toNat (v5.1-0))))))))) else (some (.inr v5.2)))
def keZ (x0:(List Int)) (x1:Int):Option (List Int):=
 ((if (decide (x1<0))=true then none else (some ())).bind fun v0=>((knc (IntKind.wrap .u64 (lenI x0)) (IntKind.wrap .u64 x1)).bind fun v1=>((if (decide (0<v1.1))=true then (some true) else (some (decide (9223372036854775807<v1.2)))).bind fun v2=>((if v2=true then none else (some ())).bind fun v3=>((gmk (w64 v1.2) 0).bind fun v4=>((iter (kit) ((imin (lenI x0) (lenI v4)),(lcopy v4 0 (lenI v4) x0))).bind fun v8=>(some v8)))))))
def kvl (x0:(List (List Int))) (v3:(List Int)) (v6:(Int×Int)):Option ((Int×Int)⊕Int):=
 (if (decide (v6.1<(lenI x0)))=true then ((kfQ v6.2 x0 v3).bind fun v7=>(some (.inl ((w64 (v6.1+1)),v7)))) else (some (.inr v6.2)))
def kuN (x0:(List (List Int))) (v3:(List Int)) (v8:Int) (v10:kai):Option (kai⊕(List Int)):=
 (if (v10.1 != v8)=true then ((gapp v10.2 [v10.1]).bind fun v11=>((kfQ v10.1 x0 v3).bind fun v12=>(some (.inl (v12,v11))))) else (some (.inr v10.2)))
def kur (x0:(List (List Int))) (v3:(List Int)) (v13:(List Int)) (v14:kai):Option (kai⊕(List Int)):=
 (if (decide (v14.1<(lenI v13)))=true then ((gi v13 v14.1).bind fun v15=>((gi v13 v14.1).bind fun v16=>((kfQ v16 x0 v3).bind fun v17=>((gapp v14.2 [v17]).bind fun v18=>(some (.inl ((w64 (v14.1+1)),v18))))))) else (some (.inr v14.2)))
def kuq (v13:(List Int)) (v19:(List Int)) (v20:kai):Option (kai⊕(List Int)):=
 (if (decide (v20.1<(lenI v13)))=true then ((gi v13 v20.1).bind fun v21=>((gi v13 v20.1).bind fun v22=>((gi v19 v20.1).bind fun v23=>((gi v19 v20.1).bind fun v24=>((gi v20.2 v22).bind fun v25=>(some (.inl ((w64 (v20.1+1)),(lset v20.2 v22 v24))))))))) else (some (.inr v20.2)))
def kug (x0:(List (List Int))) (v2:kai) (v3:(List Int)):Option ((List Int)⊕(List Int)):=
 ((gi v3 v2.1).bind fun v4=>((gi v3 v2.1).bind fun v5=>(if (decide (v5<0))=true then ((iter (kvl x0 v3) (0,v2.1)).bind fun v8=>((kfQ v8 x0 v3).bind fun v9=>((iter (kuN x0 v3 v8) (v9,[v8])).bind fun v13=>((iter (kur x0 v3 v13) (0,[])).bind fun v19=>((iter (kuq v13 v19) (0,v3)).bind fun v26=>(some (.inl v26))))))) else (some (.inr v3)))))
def ktE (x0:(List (List Int))) (v2:kai):Option (kai⊕(List Int)):=
 (if (decide (v2.1<(lenI x0)))=true then ((iter (kug x0 v2) v2.2).bind fun v27=>(some (.inl ((w64 (v2.1+1)),v27)))) else (some (.inr v2.2)))
def ksw (x0:(List (List Int))):Option ((List Int)×Int):=
 ((koX x0).bind fun v0=>(if (!v0)=true then (some ([],2)) else ((keZ [(-1)] (lenI x0)).bind fun v1=>((iter (ktE x0) (0,v1)).bind fun v28=>(some (v28,0))))))
def knX (x0:(List (Int×Int×Int))) (x1:(List (Int×Int×Int))) (v0:Int):Option (Int⊕(Bool⊕Unit)):=
 (if (decide (v0<(lenI x0)))=true then ((gi x0 v0).bind fun v1=>((gi x1 v0).bind fun v2=>(if (!((v1.1==v2.1)&&((v1.2.1==v2.2.1)&&(v1.2.2==v2.2.2))))=true then (some (.inr (.inl false))) else (some (.inl (w64 (v0+1))))))) else (some (.inr (.inr ()))))
def kkR (x0:(List (Int×Int×Int))) (x1:(List (Int×Int×Int))):Option Bool:=
 (if ((lenI x0) != (lenI x1))=true then (some false) else ((iter (knX x0 x1) 0).bind fun v3=>(match v3 with | .inl v4=>(some v4) | .inr v5=>(some true))))
def koI (x0:(List Int)) (x1:(List Int)) (v0:Int):Option (Int⊕(Bool⊕Unit)):=
 (if (decide (v0<(lenI x0)))=true then ((gi x0 v0).bind fun v1=>((gi x1 v0).bind fun v2=>(if (v1 != v2)=true then (some (.inr (.inl false))) else (some (.inl (w64 (v0+1))))))) else (some (.inr (.inr ()))))
def keE (x0:(List Int)) (x1:(List Int)):Option Bool:=
 (if ((lenI x0) != (lenI x1))=true then (some false) else ((iter (koI x0 x1) 0).bind fun v3=>(match v3 with | .inl v4=>(some v4) | .inr v5=>(some true))))
def kod:Option Bool:=
 ((kbk 1 1 4).bind fun v0=>((kbk 1 3 2).bind fun v1=>((kbk 4 0 1).bind fun v2=>((kbk 1 3 3).bind fun v3=>((kvV [v1,v2] [v3]).bind fun v4=>(law08_needed.bind fun v5=>(law08_swap.bind fun v6=>((kkF [v0] v5 v6).bind fun v7=>(law08_needed.bind fun v8=>(law08_swap.bind fun v9=>((kwb [v0] v8 v9 [(1,1,5),(2,1,3)]).bind fun v10=>((kbk 1 1 3).bind fun v11=>(law08_plans.bind fun v12=>((kqU [v11] v12 [5,4,9]).bind fun v13=>((ksw [[1,0,2],[0,1,2],[0,1,2]]).bind fun v14=>(if (v4.2 != 0)=true then (some false) else ((kbk 1 3 5).bind fun v15=>((kbk 4 0 1).bind fun v16=>((kkR v4.1 [v15,v16]).bind fun v17=>(if (!v17)=true then (some false) else (if (v7.2 != 0)=true then (some false) else (if (v7.1.1 != 4)=true then (some false) else ((keE v7.1.2 [0,1]).bind fun v18=>(if (!v18)=true then (some false) else (if (v10.2 != 0)=true then (some false) else ((keE v10.1.1 [3,1]).bind fun v19=>(if (!v19)=true then (some false) else (if (v10.1.2.2 != 3)=true then (some false) else (if (v13.2==0)=true then ((keE v13.1.1 [2]).bind fun v20=>(if v20=true then (if (v13.1.2.1==9)=true then (if ((lenI v13.1.2.2)==0)=true then (if (v14.2==0)=true then ((keE v14.1 [1,0,2]).bind fun v21=>(some v21)) else (some false)) else (some false)) else (some false)) else (some false))) else (some false))))))))))))))))))))))))))))))
def law08_alive:Option Bool:=some true
theorem kyZ:kod=law08_alive:=by kernel_rfl
def ket (x0:Int) (x1:Int) (x2:Int):Option Bool:=
 (if (decide (x1<=x0))=true then (some (decide (x0<=x2))) else (some false))
def kfe (x0:(List (Int×Int×Int))) (v0:(Int×Int)):Option ((Int×Int)⊕Int):=
 (if (decide (v0.1<(lenI x0)))=true then ((gi x0 v0.1).bind fun v1=>((ket v1.2.2 0 1000).bind fun v2=>(if v2=true then ((gi x0 v0.1).bind fun v3=>(some (.inl ((w64 (v0.1+1)),(w64 (v0.2+v3.2.2)))))) else (some (.inl ((w64 (v0.1+1)),v0.2)))))) else (some (.inr v0.2)))
def khS (x0:(List (Int×Int×Int))):Option Bool:=
 (if (decide (40<(lenI x0)))=true then (some true) else ((iter (kfe x0) (0,0)).bind fun v4=>(some (decide (8000<v4)))))
def khg (x0:(List (List (Int×Int×Int)))) (v0:Int):Option (Int⊕(Bool⊕Unit)):=
 (if (decide (v0<(lenI x0)))=true then ((gi x0 v0).bind fun v1=>((khS v1).bind fun v2=>(if v2=true then (some (.inr (.inl true))) else (some (.inl (w64 (v0+1))))))) else (some (.inr (.inr ()))))
def kjO (x0:(List (List (Int×Int×Int)))):Option Bool:=
 ((iter (khg x0) 0).bind fun v3=>(match v3 with | .inl v4=>(some v4) | .inr v5=>(some false)))
def kdm (x0:Int) (x1:Int):Option Bool:=
 ((ket x0 0 15).bind fun v0=>(if v0=true then (some (decide (x1<=15))) else (some false)))
def kfP (x0:Int) (x1:Int) (x2:Int) (x3:Int):Option Bool:=
 (if (decide (x0<x2))=true then (some true) else (if (x0==x2)=true then (some (decide (x1<x3))) else (some false)))
def kgj (x0:(List (Int×Int×Int))) (v0:Int):Option (Int⊕(Bool⊕Unit)):=
 (if (decide (v0<(lenI x0)))=true then ((gi x0 v0).bind fun v1=>((kdm v1.1 v1.2.1).bind fun v2=>(if (!v2)=true then (some (.inr (.inl false))) else ((ket v1.2.2 1 1000).bind fun v3=>(if (!v3)=true then (some (.inr (.inl false))) else (if (decide (0<v0))=true then ((gi x0 (w64 (v0-1))).bind fun v4=>((gi x0 (w64 (v0-1))).bind fun v5=>((kfP v4.1 v5.2.1 v1.1 v1.2.1).bind fun v6=>(if (!v6)=true then (some (.inr (.inl false))) else (some (.inl (w64 (v0+1)))))))) else (some (.inl (w64 (v0+1)))))))))) else (some (.inr (.inr ()))))
def kgR (x0:(List (Int×Int×Int))):Option Bool:=
 (if (decide (30<(lenI x0)))=true then (some false) else ((iter (kgj x0) 0).bind fun v7=>(match v7 with | .inl v8=>(some v8) | .inr v9=>(some true))))
def kge (x0:(List Swap)) (v0:Int):Option (Int⊕(Bool⊕Unit)):=
 (if (decide (v0<(lenI x0)))=true then ((gi x0 v0).bind fun v1=>((kdm v1.1 v1.2.1).bind fun v2=>(if (!v2)=true then (some (.inr (.inl false))) else ((kdm v1.2.2.1 v1.2.2.2).bind fun v3=>(if (!v3)=true then (some (.inr (.inl false))) else (if (v1.1==v1.2.2.1)=true then (if (v1.2.1==v1.2.2.2)=true then (some (.inr (.inl false))) else (some (.inl (w64 (v0+1))))) else (some (.inl (w64 (v0+1)))))))))) else (some (.inr (.inr ()))))
def kfj (x0:(List Swap)):Option Bool:=
 (if (decide (30<(lenI x0)))=true then (some false) else ((iter (kge x0) 0).bind fun v4=>(match v4 with | .inl v5=>(some v5) | .inr v6=>(some true))))
def kiW (x0:(List (Int×Int×Int))) (x1:(List (Int×Int×Int))) (x2:(List Swap)):Option Bool:=
 ((kjO [x0,x1]).bind fun v0=>(if (!v0)=true then (if (decide ((lenI x2)<=40))=true then ((kgR x0).bind fun v1=>(if v1=true then ((kgR x1).bind fun v2=>(if v2=true then ((kfj x2).bind fun v3=>(some v3)) else (some false))) else (some false))) else (some false)) else (some false)))
def kii (x0:(List Swap)) (x1:Int) (x2:Int) (x3:Int) (x4:Int) (v1:Int):Option (Int⊕(Bool⊕Unit)):=
 (if (decide (v1<(lenI x0)))=true then ((gi x0 v1).bind fun v2=>(if ((v2.1==x1)&&((v2.2.1==x2)&&((v2.2.2.1==x3)&&(v2.2.2.2==x4))))=true then (some (.inr (.inl true))) else (some (.inl (w64 (v1+1)))))) else (some (.inr (.inr ()))))
def kjd (x0:(List Swap)) (x1:Int) (x2:Int) (x3:Int) (x4:Int):Option Bool:=
 ((if (x1==x3)=true then (some (x2==x4)) else (some false)).bind fun v0=>(if v0=true then (some true) else ((iter (kii x0 x1 x2 x3 x4) 0).bind fun v3=>(match v3 with | .inl v4=>(some v4) | .inr v5=>(some false)))))
def ker (x1:(List (Int×Int×Int))) (x3:(List Int)) (v0:(Int×Int)):Option ((Int×Int)⊕((Int×Bool)⊕Int)):=
 (if (decide (v0.1<(lenI x3)))=true then ((gi x3 v0.1).bind fun v1=>(if (decide (v1<0))=true then (some (.inr (.inl (0,false)))) else (if (decide ((lenI x1)<=v1))=true then (some (.inr (.inl (0,false)))) else ((gi x1 v1).bind fun v2=>(some (.inl ((w64 (v0.1+1)),(w64 (v0.2+v2.2.2))))))))) else (some (.inr (.inr v0.2))))
def kem (x1:(List (Int×Int×Int))) (x2:(List Swap)) (x3:(List Int)) (v7:(Int×Int×Int)) (v8:(Int×Bool)):Option ((Int×Bool)⊕Bool):=
 (if (decide (v8.1<(lenI x3)))=true then ((gi x3 v8.1).bind fun v9=>(if v8.2=true then (some (.inl ((w64 (v8.1+1)),true))) else ((gi x1 v9).bind fun v10=>((gi x1 v9).bind fun v11=>((kjd x2 v10.1 v11.2.1 v7.1 v7.2.1).bind fun v12=>(some (.inl ((w64 (v8.1+1)),v12)))))))) else (some (.inr v8.2)))
def kev (x0:(List (Int×Int×Int))) (x1:(List (Int×Int×Int))) (x2:(List Swap)) (x3:(List Int)) (v6:(Int×Int)):Option ((Int×Int)⊕Int):=
 (if (decide (v6.1<(lenI x0)))=true then ((gi x0 v6.1).bind fun v7=>((iter (kem x1 x2 x3 v7) (0,false)).bind fun v13=>(if v13=true then (some (.inl ((w64 (v6.1+1)),(w64 (v6.2-v7.2.2))))) else (some (.inl ((w64 (v6.1+1)),v6.2)))))) else (some (.inr v6.2)))
def kiT (x0:(List (Int×Int×Int))) (x1:(List (Int×Int×Int))) (x2:(List Swap)) (x3:(List Int)):Option (Int×Bool):=
 ((iter (ker x1 x3) (0,0)).bind fun v3=>(match v3 with | .inl v4=>(some v4) | .inr v5=>((iter (kev x0 x1 x2 x3) (0,v5)).bind fun v14=>(some (v14,true)))))
def khV (x0:(List (Int×Int×Int))) (v0:(Int×Int)):Option ((Int×Int)⊕Int):=
 (if (decide (v0.1<(lenI x0)))=true then ((gi x0 v0.1).bind fun v1=>(some (.inl ((w64 (v0.1+1)),(w64 (v0.2+v1.2.2)))))) else (some (.inr v0.2)))
def kjj (x0:(List (Int×Int×Int))):Option Int:=
 ((iter (khV x0) (0,0)).bind fun v2=>(some v2))
def kcG (x1:(List (Int×Int×Int))) (v4:Int) (v5:kai):Option (kai⊕(List Int)):=
 (if (decide (v5.1<(lenI x1)))=true then ((gshr .i64 v4 v5.1).bind fun v6=>(if ((bitsI .and .i64 v6 1)==1)=true then ((gapp v5.2 [v5.1]).bind fun v7=>(some (.inl ((w64 (v5.1+1)),v7)))) else (some (.inl ((w64 (v5.1+1)),v5.2))))) else (some (.inr v5.2)))
def kcE (x1:(List (Int×Int×Int))) (v2:(kai×Int)) (v4:Int) (v12:Int):Option (Int⊕(Bool⊕Unit)):=
 (if (decide (v12<(lenI v2.1.2)))=true then ((gi v2.1.2 v12).bind fun v13=>(if (decide (v13<0))=true then (some (.inr (.inl false))) else (if (decide ((lenI x1)<=v13))=true then (some (.inr (.inl false))) else ((gshr .i64 v4 v13).bind fun v14=>(if ((bitsI .and .i64 v14 1)==0)=true then (some (.inr (.inl false))) else (some (.inl (w64 (v12+1))))))))) else (some (.inr (.inr ()))))
def kei (x0:(List (Int×Int×Int))) (x1:(List (Int×Int×Int))) (x2:(List Swap)) (v2:(kai×Int)) (v3:Int) (v4:Int):Option (Int⊕(Bool⊕Unit)):=
 (if (decide (v4<v3))=true then ((iter (kcG x1 v4) (0,[])).bind fun v8=>((kiT x0 x1 x2 v8).bind fun v9=>((kjj x1).bind fun v10=>(if (decide ((w64 (v10-v2.1.1))<v9.1))=true then (some (.inr (.inl false))) else ((kjj x1).bind fun v11=>(if (decide (v9.1<(w64 (v11-v2.1.1))))=true then (some (.inl (w64 (v4+1)))) else ((iter (kcE x1 v2 v4) 0).bind fun v15=>(match v15 with | .inl v16=>(some (.inr (.inl v16))) | .inr v17=>(some (.inl (w64 (v4+1)))))))))))) else (some (.inr (.inr ()))))
def kiK (x0:(List (Int×Int×Int))) (x1:(List (Int×Int×Int))) (x2:(List Swap)):Option Bool:=
 (law08_alive.bind fun v0=>((kiW x0 x1 x2).bind fun v1=>(if (!v1)=true then (some v0) else (if (decide (10<(lenI x1)))=true then (some v0) else (if (!v0)=true then (some v0) else ((kkF x0 x1 x2).bind fun v2=>(if (v2.2 != 0)=true then (some false) else ((gshl .i64 1 (lenI x1)).bind fun v3=>((iter (kei x0 x1 x2 v2 v3) 0).bind fun v18=>(match v18 with | .inl v19=>(some v19) | .inr v20=>(some v0)))))))))))
def khn (x0:(List Swap)):Option Int:=
 ((kfj x0).bind fun v0=>(if (!v0)=true then (some 2) else (some 0)))
end Go.Abs
set_option maxRecDepth 100000
namespace Go.Abs
open Go Go.Proofs
def kba:Ctr:=⟨ "",[],[],fun _=>none,[],[]⟩
theorem kaw {g:FuncId}:Good Tryz.prog g kba:=good_dm
def kij:Ctr:=⟨ "",[(.i .i64),(.i .u8),(.i .i64)],[(.pr (.i .i64) (.pr (.i .u8) (.i .i64)))],fun x=>kbk x.1 x.2.1 x.2.2,[],[]⟩
theorem kif:Good Tryz.prog 43 kij:=
 kad Tryz.func43 (by kernel_rfl) (An:=[]) [] (.nil) (fun x=>by kernel_rfl)
def kgm:Ctr:=⟨ "",[(.i .i64),(.i .i64),(.i .i64)],[.b],fun x=>kfR x.1 x.2.1 x.2.2,[],[]⟩
theorem keW:Good Tryz.prog 66 kgm:=
 kad Tryz.func66 (by kernel_rfl) (An:=[]) [] (.nil) (fun x=>by kernel_rfl)
def klL:Ctr:=⟨ "",[(.pr (.i .i64) (.pr (.i .u8) (.i .i64)))],[.b],fun x=>kic x,[],[]⟩
theorem koH:Good Tryz.prog 93 klL:=
 kad Tryz.func93 (by kernel_rfl) (An:=[]) [(66,kgm)] (.cons keW <| .nil) (fun x=>by kernel_rfl)
def keQ:Ctr:=⟨ "",[(.pr (.i .i64) (.i .u8))],[.b],fun x=>kbJ x,[],[]⟩
theorem kfn:Good Tryz.prog 96 keQ:=
 kad Tryz.func96 (by kernel_rfl) (An:=[]) [(66,kgm)] (.cons keW <| .nil) (fun x=>by kernel_rfl)
def kih:Ctr:=⟨ "",[(.i .i64)],[.b],fun x=>kdD x,[],[]⟩
theorem kjs:Good Tryz.prog 111 kih:=
 kad Tryz.func111 (by kernel_rfl) (An:=[]) [] (.nil) (fun x=>by kernel_rfl)
def kej:Ctr:=⟨ "",[(.i .i64),(.i .i64)],[(.i .i64)],fun x=>kcs x.1 x.2,[],[]⟩
theorem keU:Good Tryz.prog 78 kej:=
 kad Tryz.func78 (by kernel_rfl) (An:=[]) [(111,kih)] (.cons kjs <| .nil) (fun x=>by kernel_rfl)
def kjI:Ctr:=⟨ "",[(.i .u8)],[.b],fun x=>kfv x,[],[]⟩
theorem kmr:Good Tryz.prog 125 kjI:=
 kad Tryz.func125 (by kernel_rfl) (An:=[]) [] (.nil) (fun x=>by kernel_rfl)
def kiz:Ctr:=⟨ "",[(.i .u8),(.i .u8)],[(.i .i64)],fun x=>kek x.1 x.2,[],[]⟩
theorem klo:Good Tryz.prog 113 kiz:=
 kad Tryz.func113 (by kernel_rfl) (An:=[]) [(125,kjI)] (.cons kmr <| .nil) (fun x=>by kernel_rfl)
def kky:Ctr:=⟨ "",[(.sl (.i .i64))],[(.i .i64)],fun x=>kiq x,[],[]⟩
theorem kkV:Good Tryz.prog 77 kky:=
 kad Tryz.func77 (by kernel_rfl) (An:=[(0,⟨⟨[(8,.c (.i .i64))],[]⟩,⟨[],[]⟩,[7,6,3],[],0,true,""⟩)]) [] (.nil) (fun x=>by kernel_rfl)
def kgU:Ctr:=⟨ "",[(.pr (.i .i64) (.i .u8)),(.pr (.i .i64) (.i .u8))],[(.i .i64)],fun x=>kga x.1 x.2,[],[]⟩
theorem kgk:Good Tryz.prog 103 kgU:=
 kad Tryz.func103 (by kernel_rfl) (An:=[]) [(77,kky),(113,kiz),(78,kej)] (.cons kkV <| .cons klo <| .cons keU <| .nil) (fun x=>by kernel_rfl)
def kgY:Ctr:=⟨ "",[(.sl (.pr (.i .i64) (.pr (.i .u8) (.i .i64)))),(.i .i64),(.fn 1 (.pr (.i .i64) (.pr (.i .u8) (.i .i64))) (.pr (.i .i64) (.i .u8)))],[.b],fun x=>kcQ x.1 x.2.1 x.2.2,[],[]⟩
theorem kjP:Good Tryz.prog 94 kgY:=
 kad Tryz.func94 (by kernel_rfl) (An:=[(0,⟨⟨[(11,.c (.i .i64))],[]⟩,⟨[],[]⟩,[10,9,2,0,1],[],0,true,""⟩)]) [(103,kgU),(96,keQ)] (.cons kgk <| .cons kfn <| .nil) (fun x=>by kernel_rfl)
def keD:Ctr:=⟨ "",[(.pr (.i .i64) (.pr (.i .u8) (.i .i64)))],[(.pr (.i .i64) (.i .u8))],fun x=>kbn x,[],[]⟩
theorem kdH:Good Tryz.prog 71 keD:=
 kad Tryz.func71 (by kernel_rfl) (An:=[]) [] (.nil) (fun x=>by kernel_rfl)
def kcb:Ctr:=⟨ "",[(.sl (.pr (.i .i64) (.pr (.i .u8) (.i .i64)))),(.fn 1 (.pr (.i .i64) (.pr (.i .u8) (.i .i64))) .b)],[(.i .i64)],fun x=>kbg x.1 x.2,[],[]⟩
theorem keH:Good Tryz.prog 99 kcb:=
 kad Tryz.func99 (by kernel_rfl) (An:=[(0,⟨⟨[(8,.c (.i .i64))],[]⟩,⟨[],[]⟩,[7,1,0],[],0,true,""⟩)]) [] (.nil) (fun x=>by kernel_rfl)
def kaS:Ctr:=⟨ "",[(.sl (.pr (.i .i64) (.pr (.i .u8) (.i .i64)))),(.fn 1 (.pr (.i .i64) (.pr (.i .u8) (.i .i64))) .b)],[.b],fun x=>kas x.1 x.2,[],[]⟩
theorem kby:Good Tryz.prog 54 kaS:=
 kad Tryz.func54 (by kernel_rfl) (An:=[]) [(99,kcb)] (.cons keH <| .nil) (fun x=>by kernel_rfl)
def kll:Ctr:=⟨ "",[(.sl (.pr (.i .i64) (.pr (.i .u8) (.i .i64))))],[(.i .i64)],fun x=>kjl x,[],[]⟩
theorem klF:Good Tryz.prog 47 kll:=
 kad Tryz.func47 (by kernel_rfl) (An:=[]) [(54,kaS),(71,keD),(94,kgY),(93,klL)] (.cons kby <| .cons kdH <| .cons kjP <| .cons koH <| .nil) (fun x=>by kernel_rfl)
def kcz:Ctr:=⟨ "",[(.sl (.sl (.pr (.i .i64) (.pr (.i .u8) (.i .i64)))))],[(.i .i64)],fun x=>kcl x,[],[]⟩
theorem kcf:Good Tryz.prog 50 kcz:=
 kad Tryz.func50 (by kernel_rfl) (An:=[(0,⟨⟨[(8,.c (.i .i64))],[]⟩,⟨[],[]⟩,[7,6],[],0,true,""⟩)]) [(47,kll)] (.cons klF <| .nil) (fun x=>by kernel_rfl)
def kmR:Ctr:=⟨ "",[(.sl (.pr (.i .i64) (.pr (.i .u8) (.i .i64)))),(.sl (.pr (.i .i64) (.pr (.i .u8) (.i .i64))))],[(.i .i64)],fun x=>koW x.1 x.2,[],[]⟩
theorem kpy:Good Tryz.prog 98 kmR:=
 kad Tryz.func98 (by kernel_rfl) (An:=[]) [(71,keD),(103,kgU)] (.cons kdH <| .cons kgk <| .nil) (fun x=>by kernel_rfl)
def kkD:Ctr:=⟨ "",[(.sl (.pr (.i .i64) (.pr (.i .u8) (.i .i64)))),(.sl (.pr (.i .i64) (.pr (.i .u8) (.i .i64)))),(.fn 2 (.pr (.i .i64) (.i .i64)) (.i .i64))],[(.sl (.pr (.i .i64) (.pr (.i .u8) (.i .i64))))],fun x=>kmd x.1 x.2.1 x.2.2,[],[]⟩
theorem kkZ:Good Tryz.prog 51 kkD:=
 kad Tryz.func51 (by kernel_rfl) (An:=[(0,⟨⟨[(0,.c (.sl (.pr (.i .i64) (.pr (.i .u8) (.i .i64))))),(1,.c (.sl (.pr (.i .i64) (.pr (.i .u8) (.i .i64))))),(7,.mw 1)],[(1,.sl 50 (.pr (.i .i64) (.pr (.i .u8) (.i .i64))))]⟩,⟨[(7,.mw 2)],[(2,.sl 50 (.pr (.i .i64) (.pr (.i .u8) (.i .i64))))]⟩,[2],[],3,false,""⟩),(10,⟨⟨[],[]⟩,⟨[(19,.c .b)],[]⟩,[0,1,7],[1],2,false,""⟩),(129,⟨⟨[(8,.ptr 2 0)],[(2,.bx 50 [.c (.i .i64),.c (.i .u8),.c (.i .i64)])]⟩,⟨[(9,.c (.i .i64)),(10,.c (.i .i64)),(8,.ptr 3 0),(0,.c (.sl (.pr (.i .i64) (.pr (.i .u8) (.i .i64))))),(1,.c (.sl (.pr (.i .i64) (.pr (.i .u8) (.i .i64)))))],[(3,.bx 50 [.c (.i .i64),.c (.i .u8),.c (.i .i64)])]⟩,[11,7],[1],4,false,""⟩),(181,⟨⟨[],[]⟩,⟨[(10,.c (.i .i64)),(1,.c (.sl (.pr (.i .i64) (.pr (.i .u8) (.i .i64)))))],[]⟩,[9,8,0],[2],3,false,""⟩)]) [(98,kmR)] (.cons kpy <| .nil) (fun x=>by kernel_rfl)
def knM:Ctr:=⟨ "",[(.i .i64),(.i .i64)],[(.i .i64)],fun x=>krf x.1 x.2,[],[]⟩
theorem krj:Good Tryz.prog 52 knM:=
 kad Tryz.func52 (by kernel_rfl) (An:=[]) [] (.nil) (fun x=>by kernel_rfl)
def ksD:Ctr:=⟨ "",[(.sl (.pr (.i .i64) (.pr (.i .u8) (.i .i64)))),(.sl (.pr (.i .i64) (.pr (.i .u8) (.i .i64))))],[(.sl (.pr (.i .i64) (.pr (.i .u8) (.i .i64)))),(.i .i64)],fun x=>kvV x.1 x.2,[],[]⟩
theorem kuO:Good Tryz.prog 15 ksD:=
 kad Tryz.func15 (by kernel_rfl) (An:=[]) [(52,knM),(51,kkD),(50,kcz),(47,kll)] (.cons krj <| .cons kkZ <| .cons kcf <| .cons klF <| .nil) (fun x=>by kernel_rfl)
def klC:Ctr:=⟨ "",[],[(.sl (.pr (.i .i64) (.pr (.i .u8) (.i .i64))))],fun x=>law08_needed,[],[]⟩
theorem koO:Good Tryz.prog 44 klC:=
 kad Tryz.func44 (by kernel_rfl) (An:=[]) [(43,kij)] (.cons kif <| .nil) (fun x=>by kernel_rfl)
def knH:Ctr:=⟨ "",[],[(.sl tSwap)],fun x=>law08_swap,[],[]⟩
theorem kqL:Good Tryz.prog 45 knH:=
 kad Tryz.func45 (by kernel_rfl) (An:=[]) [] (.nil) (fun x=>by kernel_rfl)
def kiC:Ctr:=⟨ "",[tSwap],[.b],fun x=>kcM x,[],[]⟩
theorem klj:Good Tryz.prog 95 kiC:=
 kad Tryz.func95 (by kernel_rfl) (An:=[(6,⟨⟨[],[]⟩,⟨[(3,.ptr 1 0),(4,.ptr 2 0)],[(1,.bx 115 [.c (.i .i64),.c (.i .u8)]),(2,.bx 115 [.c (.i .i64),.c (.i .u8)])]⟩,[1],[0],3,false,""⟩)]) [(96,keQ)] (.cons kfn <| .nil) (fun x=>by kernel_rfl)
def kbY:Ctr:=⟨ "",[(.sl tSwap),(.fn 1 tSwap .b)],[(.i .i64)],fun x=>kbe x.1 x.2,[],[]⟩
theorem keF:Good Tryz.prog 121 kbY:=
 kad Tryz.func121 (by kernel_rfl) (An:=[(0,⟨⟨[(8,.c (.i .i64))],[]⟩,⟨[],[]⟩,[7,1,0],[],0,true,""⟩)]) [] (.nil) (fun x=>by kernel_rfl)
def kbL:Ctr:=⟨ "",[(.sl tSwap),(.fn 1 tSwap .b)],[.b],fun x=>kaW x.1 x.2,[],[]⟩
theorem kdX:Good Tryz.prog 97 kbL:=
 kad Tryz.func97 (by kernel_rfl) (An:=[]) [(121,kbY)] (.cons keF <| .nil) (fun x=>by kernel_rfl)
def khj:Ctr:=⟨ "",[(.sl tSwap)],[(.i .i64)],fun x=>kda x,[],[]⟩
theorem kiB:Good Tryz.prog 48 khj:=
 kad Tryz.func48 (by kernel_rfl) (An:=[]) [(97,kbL),(95,kiC)] (.cons kdX <| .cons klj <| .nil) (fun x=>by kernel_rfl)
def kcJ:Ctr:=⟨ "",[(.sl tSwap),tSwap],[(.i .i64)],fun x=>kbC x.1 x.2,[],[]⟩
theorem kfI:Good Tryz.prog 132 kcJ:=
 kad Tryz.func132 (by kernel_rfl) (An:=[(0,⟨⟨[(8,.c (.i .i64))],[]⟩,⟨[],[]⟩,[7,3,0],[0],1,true,""⟩)]) [] (.nil) (fun x=>by kernel_rfl)
def kck:Ctr:=⟨ "",[(.sl tSwap),tSwap],[.b],fun x=>kbl x.1 x.2,[],[]⟩
theorem keP:Good Tryz.prog 122 kck:=
 kad Tryz.func122 (by kernel_rfl) (An:=[]) [(132,kcJ)] (.cons kfI <| .nil) (fun x=>by kernel_rfl)
def knI:Ctr:=⟨ "",[(.sl tSwap),(.pr (.i .i64) (.i .u8)),(.pr (.i .i64) (.i .u8))],[.b],fun x=>kjY x.1 x.2.1 x.2.2,[],[]⟩
theorem knu:Good Tryz.prog 100 knI:=
 kad Tryz.func100 (by kernel_rfl) (An:=[]) [(122,kck)] (.cons keP <| .nil) (fun x=>by kernel_rfl)
def kdy (k:Nat):CtrM:=⟨ "",[some (.i .i64),none,none,none],⟨[(1,.ptr 0 0),(2,.ptr 2 0),(3,.ptr 3 0)],[(0,.bx 103 [.mw 1]),(1,.sl 4 .b),(2,.bx 100 [.c (.op tFlow)]),(3,.bx 155 [.fn 102 [.ptr 0 0,.ptr 2 0,.ptr 3 0]])]⟩,4,⟨[(1,.ptr 0 0),(2,.ptr 2 0),(3,.ptr 3 0)],[(0,.bx 103 [.mw 1]),(1,.sl 4 .b),(2,.bx 100 [.c (.op tFlow)]),(3,.bx 155 [.fn 102 [.ptr 0 0,.ptr 2 0,.ptr 3 0]])]⟩,4,0,fun x=>kaM k x.1 x.2.1 x.2.2,false⟩
theorem kfX:∀ k,(kdy k).ok=true/\GoodM Tryz.prog 102 (kdy k)
 | 0=>kjT (by kernel_rfl) (fun x=>rfl)
 | k+1=>kan Tryz.func102 (by kernel_rfl) (An:=[(0,⟨⟨[(23,.c (.i .i64))],[(2,.bx 100 [.c (.op tFlow)]),(3,.bx 155 [.fn 102 [.ptr 0 0,.ptr 2 0,.ptr 3 0]]),(0,.bx 103 [.mw 1]),(1,.sl 4 .b)]⟩,⟨[],[(2,.bx 100 [.c (.op tFlow)]),(3,.bx 155 [.fn 102 [.ptr 0 0,.ptr 2 0,.ptr 3 0]]),(0,.bx 103 [.mw 1]),(1,.sl 4 .b)]⟩,[22,21],[],8,false,""⟩),(8,⟨⟨[(32,.c (.i .i64))],[(2,.bx 100 [.c (.op tFlow)]),(3,.bx 155 [.fn 102 [.ptr 0 0,.ptr 2 0,.ptr 3 0]]),(0,.bx 103 [.mw 1]),(1,.sl 4 .b)]⟩,⟨[],[(2,.bx 100 [.c (.op tFlow)]),(3,.bx 155 [.fn 102 [.ptr 0 0,.ptr 2 0,.ptr 3 0]]),(0,.bx 103 [.mw 1]),(1,.sl 4 .b)]⟩,[31,6,23],[],8,false,""⟩)]) ((102,⟨ "",[],[],fun _=>none,[kdy k],[]⟩)::[]) (.cons (good_dm.more (kfX k)) <| .nil) (fun x=>by kernel_rfl)
def box_flow_short_c1_m0_M:CtrM:=⟨ "",[some (.i .i64),none,none,none],⟨[(1,.ptr 0 0),(2,.ptr 2 0),(3,.ptr 3 0)],[(0,.bx 103 [.mw 1]),(1,.sl 4 .b),(2,.bx 100 [.c (.op tFlow)]),(3,.bx 155 [.fn 102 [.ptr 0 0,.ptr 2 0,.ptr 3 0]])]⟩,4,⟨[(1,.ptr 0 0),(2,.ptr 2 0),(3,.ptr 3 0)],[(0,.bx 103 [.mw 1]),(1,.sl 4 .b),(2,.bx 100 [.c (.op tFlow)]),(3,.bx 155 [.fn 102 [.ptr 0 0,.ptr 2 0,.ptr 3 0]])]⟩,4,0,fun x=>keT x.1 x.2.1 x.2.2,false⟩
theorem kjR:box_flow_short_c1_m0_M.ok=true/\GoodM Tryz.prog 102 box_flow_short_c1_m0_M:=kfX 1000000
def box_flow_short_c1_C:Ctr:=⟨ "",[],[],fun _=>none,[],[]⟩
theorem box_flow_short_c1_C_ok:Good Tryz.prog 102 box_flow_short_c1_C:=good_dm
def kip:Ctr:=⟨ "",box_flow_short_c1_C.as,box_flow_short_c1_C.rs,box_flow_short_c1_C.F,box_flow_short_c1_m0_M::box_flow_short_c1_C.mus,box_flow_short_c1_C.its⟩
theorem kkL:Good Tryz.prog 102 kip:=(box_flow_short_c1_C_ok.more kjR)
def box_begin_m0g0_M:CtrM:=⟨ "",[some (.sl (.pr (.i .i64) (.pr (.i .u8) (.i .i64)))),some (.sl (.pr (.i .i64) (.pr (.i .u8) (.i .i64)))),some (.sl tSwap)],⟨[],[]⟩,0,⟨[(1000000,.sc (.pointer none)),(1000001,.c (.i .i64))],[]⟩,0,2,fun x=>kes x.1 x.2.1 x.2.2,true⟩
theorem knj:box_begin_m0g0_M.ok=true/\GoodM Tryz.prog 58 box_begin_m0g0_M:=
 kan Tryz.func58 (by kernel_rfl) (An:=[(89,⟨⟨[],[]⟩,⟨[(8,.c (.i .i64))],[]⟩,[2,1,0],[],1,false,""⟩),(0,⟨⟨[(33,.c (.i .i64)),(9,.ptr 5 0)],[(5,.bx 134 [.c (.sl (.pr (.i .i64) (.pr (.i .u8) (.i .i64)))),.mw 2,.fw 3,.mw 4]),(4,.sl 3 (.i .i64))]⟩,⟨[(9,.ptr 6 0)],[(6,.bx 134 [.c (.sl (.pr (.i .i64) (.pr (.i .u8) (.i .i64)))),.mw 2,.fw 3,.mw 7]),(7,.sl 3 (.i .i64))]⟩,[32,31,1,0,2],[2,3],8,false,""⟩),(8,⟨⟨[(51,.c (.i .i64)),(9,.ptr 6 0)],[(6,.bx 134 [.c (.sl (.pr (.i .i64) (.pr (.i .u8) (.i .i64)))),.mw 2,.fw 3,.mw 7]),(2,.sl 31 (.sl (.i .i64))),(3,.fm 31 (.sl (.i .i64)) 0 3 (.i .i64))]⟩,⟨[(9,.ptr 8 0)],[(8,.bx 134 [.c (.sl (.pr (.i .i64) (.pr (.i .u8) (.i .i64)))),.mw 9,.fw 10,.mw 7]),(9,.sl 31 (.sl (.i .i64))),(10,.fm 31 (.sl (.i .i64)) 0 3 (.i .i64))]⟩,[50,49,0,2],[7],11,false,""⟩),(16,⟨⟨[(57,.c (.i .i64)),(14,.mw 9)],[(9,.sl 3 (.i .i64))]⟩,⟨[(14,.mw 10)],[(10,.sl 3 (.i .i64))]⟩,[56,55,13,9,51],[8,6,2,3],11,false,""⟩)]) [(4134001,kba),(7000089,kba),(6000083,kba),(6000029,kba),(100,knI),(48,khj),(50,kcz),(71,keD)] (.cons kaw <| .cons kaw <| .cons kaw <| .cons kaw <| .cons knu <| .cons kiB <| .cons kcf <| .cons kdH <| .nil) (fun x=>by kernel_rfl)
def box_begin_m0g1_M:CtrM:=⟨ "",[some (.sl (.pr (.i .i64) (.pr (.i .u8) (.i .i64)))),some (.sl (.pr (.i .i64) (.pr (.i .u8) (.i .i64)))),some (.sl tSwap)],⟨[],[]⟩,0,⟨[(1000000,.ptr 0 0),(1000001,.c (.i .i64))],[(0,.bx 134 [.c (.sl (.pr (.i .i64) (.pr (.i .u8) (.i .i64)))),.mw 1,.fw 2,.mw 3]),(1,.sl 31 (.sl (.i .i64))),(2,.fm 31 (.sl (.i .i64)) 0 3 (.i .i64)),(3,.sl 3 (.i .i64))]⟩,4,2,fun x=>kep x.1 x.2.1 x.2.2,true⟩
theorem knk:box_begin_m0g1_M.ok=true/\GoodM Tryz.prog 58 box_begin_m0g1_M:=
 kan Tryz.func58 (by kernel_rfl) (An:=[(89,⟨⟨[],[]⟩,⟨[(8,.c (.i .i64))],[]⟩,[2,1,0],[],1,false,""⟩),(0,⟨⟨[(33,.c (.i .i64)),(9,.ptr 5 0)],[(5,.bx 134 [.c (.sl (.pr (.i .i64) (.pr (.i .u8) (.i .i64)))),.mw 2,.fw 3,.mw 4]),(4,.sl 3 (.i .i64))]⟩,⟨[(9,.ptr 6 0)],[(6,.bx 134 [.c (.sl (.pr (.i .i64) (.pr (.i .u8) (.i .i64)))),.mw 2,.fw 3,.mw 7]),(7,.sl 3 (.i .i64))]⟩,[32,31,1,0,2],[2,3],8,false,""⟩),(8,⟨⟨[(51,.c (.i .i64)),(9,.ptr 6 0)],[(6,.bx 134 [.c (.sl (.pr (.i .i64) (.pr (.i .u8) (.i .i64)))),.mw 2,.fw 3,.mw 7]),(2,.sl 31 (.sl (.i .i64))),(3,.fm 31 (.sl (.i .i64)) 0 3 (.i .i64))]⟩,⟨[(9,.ptr 8 0)],[(8,.bx 134 [.c (.sl (.pr (.i .i64) (.pr (.i .u8) (.i .i64)))),.mw 9,.fw 10,.mw 7]),(9,.sl 31 (.sl (.i .i64))),(10,.fm 31 (.sl (.i .i64)) 0 3 (.i .i64))]⟩,[50,49,0,2],[7],11,false,""⟩),(16,⟨⟨[(57,.c (.i .i64)),(14,.mw 9)],[(9,.sl 3 (.i .i64))]⟩,⟨[(14,.mw 10)],[(10,.sl 3 (.i .i64))]⟩,[56,55,13,9,51],[8,6,2,3],11,false,""⟩)]) [(4134001,kba),(7000089,kba),(6000083,kba),(6000029,kba),(100,knI),(48,khj),(50,kcz),(71,keD)] (.cons kaw <| .cons kaw <| .cons kaw <| .cons kaw <| .cons knu <| .cons kiB <| .cons kcf <| .cons kdH <| .nil) (fun x=>by kernel_rfl)
def box_begin_B1:Ctr:=⟨ "",[],[],fun _=>none,[],[]⟩
theorem box_begin_B1_ok:Good Tryz.prog 58 box_begin_B1:=good_dm
def kki:Ctr:=⟨ "",box_begin_B1.as,box_begin_B1.rs,box_begin_B1.F,box_begin_m0g0_M::box_begin_m0g1_M::box_begin_B1.mus,box_begin_B1.its⟩
theorem kkW:Good Tryz.prog 58 kki:=((box_begin_B1_ok.more knk).more knj)
def box_flow_short_m0_M:CtrM:=⟨ "",[some (.op tFlow),some (.sl .b)],⟨[],[]⟩,0,⟨[(1000000,.mw 0)],[(0,.sl 3 (.i .i64))]⟩,1,1,fun x=>kcC x.1 x.2,false⟩
theorem kli:box_flow_short_m0_M.ok=true/\GoodM Tryz.prog 60 box_flow_short_m0_M:=
 kan Tryz.func60 (by kernel_rfl) (An:=[(0,⟨⟨[(18,.c (.i .i64)),(5,.ptr 2 0),(6,.ptr 5 0)],[(2,.bx 155 [.fn 102 [.ptr 5 0,.ptr 0 0,.ptr 2 0]]),(5,.bx 103 [.mw 3]),(3,.sl 4 .b),(0,.bx 100 [.c (.op tFlow)])]⟩,⟨[(6,.ptr 6 0)],[(6,.bx 103 [.mw 7]),(7,.sl 4 .b)]⟩,[17,16],[],8,false,""⟩),(8,⟨⟨[(30,.c (.i .i64)),(9,.mw 8)],[(8,.sl 3 (.i .i64))]⟩,⟨[(9,.mw 9)],[(9,.sl 3 (.i .i64))]⟩,[29,28],[7],10,false,""⟩)]) [(102,kip)] (.cons kkL <| .nil) (fun x=>by kernel_rfl)
def box_flow_short_B2:Ctr:=⟨ "",[],[],fun _=>none,[],[]⟩
theorem box_flow_short_B2_ok:Good Tryz.prog 60 box_flow_short_B2:=good_dm
def kjC:Ctr:=⟨ "",box_flow_short_B2.as,box_flow_short_B2.rs,box_flow_short_B2.F,box_flow_short_m0_M::box_flow_short_B2.mus,box_flow_short_B2.its⟩
theorem klV:Good Tryz.prog 60 kjC:=(box_flow_short_B2_ok.more kli)
def kdV (k:Nat):CtrM:=⟨ "",[some (.i .i64),some (.i .i64),none,none,none],⟨[(2,.ptr 0 0),(3,.ptr 5 0),(4,.ptr 7 0)],[(0,.bx 100 [.ptr 1 0]),(1,.bx 134 [.c (.sl (.pr (.i .i64) (.pr (.i .u8) (.i .i64)))),.mw 2,.fw 3,.mw 4]),(2,.sl 31 (.sl (.i .i64))),(3,.fm 31 (.sl (.i .i64)) 0 3 (.i .i64)),(4,.sl 3 (.i .i64)),(5,.bx 103 [.mw 6]),(6,.sl 4 .b),(7,.bx 96 [.fn 101 [.ptr 0 0,.ptr 5 0,.ptr 7 0]])]⟩,8,⟨[(2,.ptr 0 0),(3,.ptr 5 0),(4,.ptr 7 0),(1000000,.c (.i .i64))],[(0,.bx 100 [.ptr 1 0]),(1,.bx 134 [.c (.sl (.pr (.i .i64) (.pr (.i .u8) (.i .i64)))),.mw 2,.fw 3,.mw 4]),(2,.sl 31 (.sl (.i .i64))),(3,.fm 31 (.sl (.i .i64)) 0 3 (.i .i64)),(4,.sl 3 (.i .i64)),(5,.bx 103 [.mw 6]),(6,.sl 4 .b),(7,.bx 96 [.fn 101 [.ptr 0 0,.ptr 5 0,.ptr 7 0]])]⟩,8,1,fun x=>kaR k x.1 x.2.1 x.2.2.1 x.2.2.2.1 x.2.2.2.2.1 x.2.2.2.2.2.1 x.2.2.2.2.2.2,false⟩
theorem kgw:∀ k,(kdV k).ok=true/\GoodM Tryz.prog 101 (kdV k)
 | 0=>kjT (by kernel_rfl) (fun x=>rfl)
 | k+1=>kan Tryz.func101 (by kernel_rfl) (An:=[(0,⟨⟨[(21,.c (.i .i64))],[(5,.bx 103 [.mw 6]),(6,.sl 4 .b),(0,.bx 100 [.ptr 1 0]),(1,.bx 134 [.c (.sl (.pr (.i .i64) (.pr (.i .u8) (.i .i64)))),.mw 2,.fw 3,.mw 4]),(2,.sl 31 (.sl (.i .i64))),(3,.fm 31 (.sl (.i .i64)) 0 3 (.i .i64)),(4,.sl 3 (.i .i64)),(7,.bx 96 [.fn 101 [.ptr 0 0,.ptr 5 0,.ptr 7 0]])]⟩,⟨[],[(6,.sl 4 .b),(4,.sl 3 (.i .i64)),(5,.bx 103 [.mw 6]),(3,.fm 31 (.sl (.i .i64)) 0 3 (.i .i64)),(0,.bx 100 [.ptr 1 0]),(1,.bx 134 [.c (.sl (.pr (.i .i64) (.pr (.i .u8) (.i .i64)))),.mw 2,.fw 3,.mw 4]),(2,.sl 31 (.sl (.i .i64))),(7,.bx 96 [.fn 101 [.ptr 0 0,.ptr 5 0,.ptr 7 0]])]⟩,[20,19,1,0],[],16,true,""⟩),(8,⟨⟨[(72,.c (.i .i64))],[(0,.bx 100 [.ptr 1 0]),(1,.bx 134 [.c (.sl (.pr (.i .i64) (.pr (.i .u8) (.i .i64)))),.mw 2,.fw 3,.mw 4]),(2,.sl 31 (.sl (.i .i64))),(3,.fm 31 (.sl (.i .i64)) 0 3 (.i .i64)),(4,.sl 3 (.i .i64)),(7,.bx 96 [.fn 101 [.ptr 0 0,.ptr 5 0,.ptr 7 0]]),(5,.bx 103 [.mw 6]),(6,.sl 4 .b)]⟩,⟨[],[(0,.bx 100 [.ptr 1 0]),(1,.bx 134 [.c (.sl (.pr (.i .i64) (.pr (.i .u8) (.i .i64)))),.mw 2,.fw 3,.mw 4]),(2,.sl 31 (.sl (.i .i64))),(3,.fm 31 (.sl (.i .i64)) 0 3 (.i .i64)),(4,.sl 3 (.i .i64)),(7,.bx 96 [.fn 101 [.ptr 0 0,.ptr 5 0,.ptr 7 0]]),(5,.bx 103 [.mw 6]),(6,.sl 4 .b)]⟩,[71,9,21],[],16,true,""⟩)]) ((101,⟨ "",[],[],fun _=>none,[kdV k],[]⟩)::[]) (.cons (good_dm.more (kgw k)) <| .nil) (fun x=>by kernel_rfl)
def box_flow_give_c1_m0_M:CtrM:=⟨ "",[some (.i .i64),some (.i .i64),none,none,none],⟨[(2,.ptr 0 0),(3,.ptr 5 0),(4,.ptr 7 0)],[(0,.bx 100 [.ptr 1 0]),(1,.bx 134 [.c (.sl (.pr (.i .i64) (.pr (.i .u8) (.i .i64)))),.mw 2,.fw 3,.mw 4]),(2,.sl 31 (.sl (.i .i64))),(3,.fm 31 (.sl (.i .i64)) 0 3 (.i .i64)),(4,.sl 3 (.i .i64)),(5,.bx 103 [.mw 6]),(6,.sl 4 .b),(7,.bx 96 [.fn 101 [.ptr 0 0,.ptr 5 0,.ptr 7 0]])]⟩,8,⟨[(2,.ptr 0 0),(3,.ptr 5 0),(4,.ptr 7 0),(1000000,.c (.i .i64))],[(0,.bx 100 [.ptr 1 0]),(1,.bx 134 [.c (.sl (.pr (.i .i64) (.pr (.i .u8) (.i .i64)))),.mw 2,.fw 3,.mw 4]),(2,.sl 31 (.sl (.i .i64))),(3,.fm 31 (.sl (.i .i64)) 0 3 (.i .i64)),(4,.sl 3 (.i .i64)),(5,.bx 103 [.mw 6]),(6,.sl 4 .b),(7,.bx 96 [.fn 101 [.ptr 0 0,.ptr 5 0,.ptr 7 0]])]⟩,8,1,fun x=>kfr x.1 x.2.1 x.2.2.1 x.2.2.2.1 x.2.2.2.2.1 x.2.2.2.2.2.1 x.2.2.2.2.2.2,false⟩
theorem kkI:box_flow_give_c1_m0_M.ok=true/\GoodM Tryz.prog 101 box_flow_give_c1_m0_M:=kgw 1000000
def box_flow_give_c1_C:Ctr:=⟨ "",[],[],fun _=>none,[],[]⟩
theorem box_flow_give_c1_C_ok:Good Tryz.prog 101 box_flow_give_c1_C:=good_dm
def kix:Ctr:=⟨ "",box_flow_give_c1_C.as,box_flow_give_c1_C.rs,box_flow_give_c1_C.F,box_flow_give_c1_m0_M::box_flow_give_c1_C.mus,box_flow_give_c1_C.its⟩
theorem klf:Good Tryz.prog 101 kix:=(box_flow_give_c1_C_ok.more kkI)
def box_flow_give_m0_M:CtrM:=⟨ "",[none,some (.i .i64),some (.i .i64)],⟨[(0,.ptr 0 0)],[(0,.bx 134 [.c (.sl (.pr (.i .i64) (.pr (.i .u8) (.i .i64)))),.mw 1,.fw 2,.mw 3]),(1,.sl 31 (.sl (.i .i64))),(2,.fm 31 (.sl (.i .i64)) 0 3 (.i .i64)),(3,.sl 3 (.i .i64))]⟩,4,⟨[(0,.ptr 0 0),(1000000,.c (.i .i64))],[(0,.bx 134 [.c (.sl (.pr (.i .i64) (.pr (.i .u8) (.i .i64)))),.mw 1,.fw 2,.mw 3]),(1,.sl 31 (.sl (.i .i64))),(2,.fm 31 (.sl (.i .i64)) 0 3 (.i .i64)),(3,.sl 3 (.i .i64))]⟩,4,1,fun x=>kdi x.1 x.2.1 x.2.2.1 x.2.2.2.1 x.2.2.2.2.1 x.2.2.2.2.2,false⟩
theorem klI:box_flow_give_m0_M.ok=true/\GoodM Tryz.prog 59 box_flow_give_m0_M:=
 kan Tryz.func59 (by kernel_rfl) (An:=[(0,⟨⟨[(9,.c (.i .i64)),(3,.ptr 4 0),(7,.ptr 6 0),(8,.ptr 7 0)],[(4,.bx 100 [.ptr 0 0]),(0,.bx 134 [.c (.sl (.pr (.i .i64) (.pr (.i .u8) (.i .i64)))),.mw 1,.fw 2,.mw 3]),(1,.sl 31 (.sl (.i .i64))),(2,.fm 31 (.sl (.i .i64)) 0 3 (.i .i64)),(3,.sl 3 (.i .i64)),(6,.bx 103 [.mw 5]),(5,.sl 4 .b),(7,.bx 96 [.fn 101 [.ptr 4 0,.ptr 6 0,.ptr 7 0]])]⟩,⟨[(9,.c (.i .i64))],[(0,.bx 134 [.c (.sl (.pr (.i .i64) (.pr (.i .u8) (.i .i64)))),.mw 1,.fw 2,.mw 3]),(1,.sl 31 (.sl (.i .i64))),(2,.fm 31 (.sl (.i .i64)) 0 3 (.i .i64)),(3,.sl 3 (.i .i64))]⟩,[2,1],[],12,false,""⟩)]) [(101,kix)] (.cons klf <| .nil) (fun x=>by kernel_rfl)
def box_flow_give_C:Ctr:=⟨ "",[],[],fun _=>none,[],[]⟩
theorem box_flow_give_C_ok:Good Tryz.prog 59 box_flow_give_C:=good_dm
def khi:Ctr:=⟨ "",box_flow_give_C.as,box_flow_give_C.rs,box_flow_give_C.F,box_flow_give_m0_M::box_flow_give_C.mus,box_flow_give_C.its⟩
theorem kiA:Good Tryz.prog 59 khi:=(box_flow_give_C_ok.more klI)
def kmA:Ctr:=⟨ "",[(.sl (.pr (.i .i64) (.pr (.i .u8) (.i .i64)))),(.sl (.pr (.i .i64) (.pr (.i .u8) (.i .i64)))),(.sl tSwap)],[kwe,(.i .i64)],fun x=>kkF x.1 x.2.1 x.2.2,[],[]⟩
theorem kmO:Good Tryz.prog 19 kmA:=
 kad Tryz.func19 (by kernel_rfl) (An:=[(0,⟨⟨[(31,.c (.i .i64)),(10,.c (.i .i64))],[]⟩,⟨[(10,.c (.i .i64))],[]⟩,[30,29,8,11,6],[2,1,0],3,false,""⟩),(0,⟨⟨[(31,.c (.i .i64)),(8,.ptr 2 0),(10,.c (.i .i64)),(11,.mw 6)],[(2,.bx 134 [.c (.sl (.pr (.i .i64) (.pr (.i .u8) (.i .i64)))),.mw 3,.fw 4,.mw 5]),(3,.sl 31 (.sl (.i .i64))),(4,.fm 31 (.sl (.i .i64)) 0 3 (.i .i64)),(5,.sl 3 (.i .i64)),(6,.sl 4 .b)]⟩,⟨[(10,.c (.i .i64)),(8,.ptr 7 0),(11,.mw 11)],[(7,.bx 134 [.c (.sl (.pr (.i .i64) (.pr (.i .u8) (.i .i64)))),.mw 8,.fw 9,.mw 10]),(8,.sl 31 (.sl (.i .i64))),(9,.fm 31 (.sl (.i .i64)) 0 3 (.i .i64)),(10,.sl 3 (.i .i64)),(11,.sl 4 .b)]⟩,[30,29,6],[1,0],12,false,""⟩)]) [(60,kjC),(58,kki),(59,khi)] (.cons klV <| .cons kkW <| .cons kiA <| .nil) (fun x=>by kernel_rfl)
def knr:Ctr:=⟨ "",[(.pr (.i .i64) (.pr (.i .u8) (.i .i64)))],[.b],fun x=>kmf x,[],[]⟩
theorem kqt:Good Tryz.prog 65 knr:=
 kad Tryz.func65 (by kernel_rfl) (An:=[]) [(66,kgm)] (.cons keW <| .nil) (fun x=>by kernel_rfl)
def kgx:Ctr:=⟨ "",[(.sl (.pr (.i .i64) (.pr (.i .u8) (.i .i64)))),(.i .i64),(.fn 1 (.pr (.i .i64) (.pr (.i .u8) (.i .i64))) (.pr (.i .i64) (.i .u8)))],[.b],fun x=>ken x.1 x.2.1 x.2.2,[],[]⟩
theorem kjB:Good Tryz.prog 67 kgx:=
 kad Tryz.func67 (by kernel_rfl) (An:=[(0,⟨⟨[(11,.c (.i .i64))],[]⟩,⟨[],[]⟩,[10,9,2,0,1],[],0,true,""⟩)]) [(103,kgU),(96,keQ)] (.cons kgk <| .cons kfn <| .nil) (fun x=>by kernel_rfl)
def kmW:Ctr:=⟨ "",[(.pr (.i .i64) (.pr (.i .u8) (.i .i64)))],[(.pr (.i .i64) (.i .u8))],fun x=>kdZ x,[],[]⟩
theorem kpA:Good Tryz.prog 68 kmW:=
 kad Tryz.func68 (by kernel_rfl) (An:=[]) [] (.nil) (fun x=>by kernel_rfl)
def kbO:Ctr:=⟨ "",[(.sl (.pr (.i .i64) (.pr (.i .u8) (.i .i64)))),(.fn 1 (.pr (.i .i64) (.pr (.i .u8) (.i .i64))) .b)],[(.i .i64)],fun x=>kca x.1 x.2,[],[]⟩
theorem keh:Good Tryz.prog 104 kbO:=
 kad Tryz.func104 (by kernel_rfl) (An:=[(0,⟨⟨[(8,.c (.i .i64))],[]⟩,⟨[],[]⟩,[7,1,0],[],0,true,""⟩)]) [] (.nil) (fun x=>by kernel_rfl)
def kbB:Ctr:=⟨ "",[(.sl (.pr (.i .i64) (.pr (.i .u8) (.i .i64)))),(.fn 1 (.pr (.i .i64) (.pr (.i .u8) (.i .i64))) .b)],[.b],fun x=>kaT x.1 x.2,[],[]⟩
theorem kdw:Good Tryz.prog 69 kbB:=
 kad Tryz.func69 (by kernel_rfl) (An:=[]) [(104,kbO)] (.cons keh <| .nil) (fun x=>by kernel_rfl)
def knY:Ctr:=⟨ "",[tLine,tLine],[(.i .i64)],fun x=>klZ x.1 x.2,[],[]⟩
theorem kqZ:Good Tryz.prog 73 knY:=
 kad Tryz.func73 (by kernel_rfl) (An:=[]) [] (.nil) (fun x=>by kernel_rfl)
def slices_insertionSortCmpFunc_box_line_m0_M:CtrM:=⟨ "",[none,some (.i .i64),some (.i .i64),some (.fn 2 (.pr tLine tLine) (.i .i64))],⟨[(0,.mw 0)],[(0,.sl 121 tLine)]⟩,1,⟨[(0,.mw 0)],[(0,.sl 121 tLine)]⟩,1,0,fun x=>kaX x.1 x.2.1 x.2.2.1 x.2.2.2,false⟩
theorem kdW:slices_insertionSortCmpFunc_box_line_m0_M.ok=true/\GoodM Tryz.prog 123 slices_insertionSortCmpFunc_box_line_m0_M:=
 kan Tryz.func123 (by kernel_rfl) (An:=[(0,⟨⟨[(8,.c (.i .i64))],[(0,.sl 121 tLine)]⟩,⟨[],[(0,.sl 121 tLine)]⟩,[2,1,3],[],2,false,""⟩),(8,⟨⟨[(9,.c (.i .i64))],[(0,.sl 121 tLine)]⟩,⟨[],[(0,.sl 121 tLine)]⟩,[8],[],2,false,""⟩)]) [] (.nil) (fun x=>by kernel_rfl)
def slices_insertionSortCmpFunc_box_line_C:Ctr:=⟨ "",[],[],fun _=>none,[],[]⟩
theorem slices_insertionSortCmpFunc_box_line_C_ok:Good Tryz.prog 123 slices_insertionSortCmpFunc_box_line_C:=good_dm
def kbS:Ctr:=⟨ "",slices_insertionSortCmpFunc_box_line_C.as,slices_insertionSortCmpFunc_box_line_C.rs,slices_insertionSortCmpFunc_box_line_C.F,slices_insertionSortCmpFunc_box_line_m0_M::slices_insertionSortCmpFunc_box_line_C.mus,slices_insertionSortCmpFunc_box_line_C.its⟩
theorem kex:Good Tryz.prog 123 kbS:=(slices_insertionSortCmpFunc_box_line_C_ok.more kdW)
def slices_swapRangeCmpFunc_box_line_m0_M:CtrM:=⟨ "",[none,some (.i .i64),some (.i .i64),some (.i .i64),some (.fn 2 (.pr tLine tLine) (.i .i64))],⟨[(0,.mw 0)],[(0,.sl 121 tLine)]⟩,1,⟨[(0,.mw 0)],[(0,.sl 121 tLine)]⟩,1,0,fun x=>kaN x.1 x.2.1 x.2.2.1 x.2.2.2.1 x.2.2.2.2,false⟩
theorem keR:slices_swapRangeCmpFunc_box_line_m0_M.ok=true/\GoodM Tryz.prog 137 slices_swapRangeCmpFunc_box_line_m0_M:=
 kan Tryz.func137 (by kernel_rfl) (An:=[(0,⟨⟨[(10,.c (.i .i64))],[(0,.sl 121 tLine)]⟩,⟨[],[(0,.sl 121 tLine)]⟩,[3,1,2],[],2,false,""⟩)]) [] (.nil) (fun x=>by kernel_rfl)
def slices_swapRangeCmpFunc_box_line_C:Ctr:=⟨ "",[],[],fun _=>none,[],[]⟩
theorem slices_swapRangeCmpFunc_box_line_C_ok:Good Tryz.prog 137 slices_swapRangeCmpFunc_box_line_C:=good_dm
def kcw:Ctr:=⟨ "",slices_swapRangeCmpFunc_box_line_C.as,slices_swapRangeCmpFunc_box_line_C.rs,slices_swapRangeCmpFunc_box_line_C.F,slices_swapRangeCmpFunc_box_line_m0_M::slices_swapRangeCmpFunc_box_line_C.mus,slices_swapRangeCmpFunc_box_line_C.its⟩
theorem kfs:Good Tryz.prog 137 kcw:=(slices_swapRangeCmpFunc_box_line_C_ok.more keR)
def slices_rotateCmpFunc_box_line_m0_M:CtrM:=⟨ "",[none,some (.i .i64),some (.i .i64),some (.i .i64),some (.fn 2 (.pr tLine tLine) (.i .i64))],⟨[(0,.mw 0)],[(0,.sl 121 tLine)]⟩,1,⟨[(0,.mw 0)],[(0,.sl 121 tLine)]⟩,1,0,fun x=>kde x.1 x.2.1 x.2.2.1 x.2.2.2.1 x.2.2.2.2,false⟩
theorem kfx:slices_rotateCmpFunc_box_line_m0_M.ok=true/\GoodM Tryz.prog 133 slices_rotateCmpFunc_box_line_m0_M:=
 kan Tryz.func133 (by kernel_rfl) (An:=[(0,⟨⟨[(10,.c (.i .i64)),(11,.c (.i .i64))],[(0,.sl 121 tLine)]⟩,⟨[(10,.c (.i .i64))],[(0,.sl 121 tLine)]⟩,[2,4],[],2,false,""⟩)]) [(137,kcw)] (.cons kfs <| .nil) (fun x=>by kernel_rfl)
def slices_rotateCmpFunc_box_line_C:Ctr:=⟨ "",[],[],fun _=>none,[],[]⟩
theorem slices_rotateCmpFunc_box_line_C_ok:Good Tryz.prog 133 slices_rotateCmpFunc_box_line_C:=good_dm
def kdg:Ctr:=⟨ "",slices_rotateCmpFunc_box_line_C.as,slices_rotateCmpFunc_box_line_C.rs,slices_rotateCmpFunc_box_line_C.F,slices_rotateCmpFunc_box_line_m0_M::slices_rotateCmpFunc_box_line_C.mus,slices_rotateCmpFunc_box_line_C.its⟩
theorem kgo:Good Tryz.prog 133 kdg:=(slices_rotateCmpFunc_box_line_C_ok.more kfx)
def kbd (k:Nat):CtrM:=⟨ "",[none,some (.i .i64),some (.i .i64),some (.i .i64),some (.fn 2 (.pr tLine tLine) (.i .i64))],⟨[(0,.mw 0)],[(0,.sl 121 tLine)]⟩,1,⟨[(0,.mw 0)],[(0,.sl 121 tLine)]⟩,1,0,fun x=>kbf k x.1 x.2.1 x.2.2.1 x.2.2.2.1 x.2.2.2.2,false⟩
theorem kcc:∀ k,(kbd k).ok=true/\GoodM Tryz.prog 124 (kbd k)
 | 0=>kjT (by kernel_rfl) (fun x=>rfl)
 | k+1=>kan Tryz.func124 (by kernel_rfl) (An:=[(0,⟨⟨[(10,.c (.i .i64)),(11,.c (.i .i64))],[]⟩,⟨[(10,.c (.i .i64))],[]⟩,[4,1],[0],1,false,""⟩),(8,⟨⟨[(13,.c (.i .i64))],[(0,.sl 121 tLine)]⟩,⟨[],[(0,.sl 121 tLine)]⟩,[10],[],2,false,""⟩),(16,⟨⟨[(14,.c (.i .i64)),(15,.c (.i .i64))],[]⟩,⟨[(14,.c (.i .i64))],[]⟩,[4,2],[0],1,false,""⟩),(24,⟨⟨[(17,.c (.i .i64))],[(0,.sl 121 tLine)]⟩,⟨[],[(0,.sl 121 tLine)]⟩,[14],[],2,false,""⟩),(561,⟨⟨[],[]⟩,⟨[(20,.c (.i .i64)),(21,.c (.i .i64))],[]⟩,[19,3,18,4,2,1],[0],1,false,""⟩),(32,⟨⟨[(20,.c (.i .i64)),(21,.c (.i .i64))],[]⟩,⟨[(20,.c (.i .i64))],[]⟩,[4,22,19,2,1,18,3],[0],1,false,""⟩),(158,⟨⟨[],[]⟩,⟨[(185,.c .b)],[]⟩,[20,2,24,4,1,18,3],[0],1,false,""⟩),(741,⟨⟨[],[(0,.sl 121 tLine)]⟩,⟨[],[(0,.sl 121 tLine)]⟩,[20,2,24,4,1,18,3],[],2,false,""⟩),(166,⟨⟨[],[]⟩,⟨[(199,.c .b)],[]⟩,[1,20,18,4,24,3],[0],2,false,""⟩),(797,⟨⟨[],[(0,.sl 121 tLine)]⟩,⟨[],[(0,.sl 121 tLine)]⟩,[1,20,18,4,24,3],[],3,false,""⟩)]) ((124,⟨ "",[],[],fun _=>none,[kbd k],[]⟩)::[(133,kdg)]) (.cons (good_dm.more (kcc k)) <| .cons kgo <| .nil) (fun x=>by kernel_rfl)
def slices_symMergeCmpFunc_box_line_m0_M:CtrM:=⟨ "",[none,some (.i .i64),some (.i .i64),some (.i .i64),some (.fn 2 (.pr tLine tLine) (.i .i64))],⟨[(0,.mw 0)],[(0,.sl 121 tLine)]⟩,1,⟨[(0,.mw 0)],[(0,.sl 121 tLine)]⟩,1,0,fun x=>kbr x.1 x.2.1 x.2.2.1 x.2.2.2.1 x.2.2.2.2,false⟩
theorem kfh:slices_symMergeCmpFunc_box_line_m0_M.ok=true/\GoodM Tryz.prog 124 slices_symMergeCmpFunc_box_line_m0_M:=kcc 1000000
def slices_symMergeCmpFunc_box_line_C:Ctr:=⟨ "",[],[],fun _=>none,[],[]⟩
theorem slices_symMergeCmpFunc_box_line_C_ok:Good Tryz.prog 124 slices_symMergeCmpFunc_box_line_C:=good_dm
def kcO:Ctr:=⟨ "",slices_symMergeCmpFunc_box_line_C.as,slices_symMergeCmpFunc_box_line_C.rs,slices_symMergeCmpFunc_box_line_C.F,slices_symMergeCmpFunc_box_line_m0_M::slices_symMergeCmpFunc_box_line_C.mus,slices_symMergeCmpFunc_box_line_C.its⟩
theorem kfz:Good Tryz.prog 124 kcO:=(slices_symMergeCmpFunc_box_line_C_ok.more kfh)
def slices_stableCmpFunc_box_line_m0_M:CtrM:=⟨ "",[none,some (.i .i64),some (.fn 2 (.pr tLine tLine) (.i .i64))],⟨[(0,.mw 0)],[(0,.sl 121 tLine)]⟩,1,⟨[(0,.mw 0)],[(0,.sl 121 tLine)]⟩,1,0,fun x=>kdd x.1 x.2.1 x.2.2,false⟩
theorem kfF:slices_stableCmpFunc_box_line_m0_M.ok=true/\GoodM Tryz.prog 106 slices_stableCmpFunc_box_line_m0_M:=
 kan Tryz.func106 (by kernel_rfl) (An:=[(0,⟨⟨[(8,.c (.i .i64)),(7,.c (.i .i64))],[(0,.sl 121 tLine)]⟩,⟨[(7,.c (.i .i64))],[(0,.sl 121 tLine)]⟩,[1,2,6],[],2,false,""⟩),(8,⟨⟨[(6,.c (.i .i64))],[(0,.sl 121 tLine)]⟩,⟨[],[(0,.sl 121 tLine)]⟩,[1,2],[],3,false,""⟩),(16,⟨⟨[(8,.c (.i .i64)),(7,.c (.i .i64))],[(0,.sl 121 tLine)]⟩,⟨[(7,.c (.i .i64))],[(0,.sl 121 tLine)]⟩,[6],[],3,false,""⟩)]) [(124,kcO),(123,kbS)] (.cons kfz <| .cons kex <| .nil) (fun x=>by kernel_rfl)
def slices_stableCmpFunc_box_line_C:Ctr:=⟨ "",[],[],fun _=>none,[],[]⟩
theorem slices_stableCmpFunc_box_line_C_ok:Good Tryz.prog 106 slices_stableCmpFunc_box_line_C:=good_dm
def kdh:Ctr:=⟨ "",slices_stableCmpFunc_box_line_C.as,slices_stableCmpFunc_box_line_C.rs,slices_stableCmpFunc_box_line_C.F,slices_stableCmpFunc_box_line_m0_M::slices_stableCmpFunc_box_line_C.mus,slices_stableCmpFunc_box_line_C.its⟩
theorem kgu:Good Tryz.prog 106 kdh:=(slices_stableCmpFunc_box_line_C_ok.more kfF)
def slices_SortStableFunc_s_box_line_box_line_m0_M:CtrM:=⟨ "",[none,some (.fn 2 (.pr tLine tLine) (.i .i64))],⟨[(0,.mw 0)],[(0,.sl 121 tLine)]⟩,1,⟨[(0,.mw 0)],[(0,.sl 121 tLine)]⟩,1,0,fun x=>kaK x.1 x.2,false⟩
theorem kcZ:slices_SortStableFunc_s_box_line_box_line_m0_M.ok=true/\GoodM Tryz.prog 72 slices_SortStableFunc_s_box_line_box_line_m0_M:=
 kan Tryz.func72 (by kernel_rfl) (An:=[]) [(106,kdh)] (.cons kgu <| .nil) (fun x=>by kernel_rfl)
def slices_SortStableFunc_s_box_line_box_line_C:Ctr:=⟨ "",[],[],fun _=>none,[],[]⟩
theorem slices_SortStableFunc_s_box_line_box_line_C_ok:Good Tryz.prog 72 slices_SortStableFunc_s_box_line_box_line_C:=good_dm
def kbt:Ctr:=⟨ "",slices_SortStableFunc_s_box_line_box_line_C.as,slices_SortStableFunc_s_box_line_box_line_C.rs,slices_SortStableFunc_s_box_line_box_line_C.F,slices_SortStableFunc_s_box_line_box_line_m0_M::slices_SortStableFunc_s_box_line_box_line_C.mus,slices_SortStableFunc_s_box_line_box_line_C.its⟩
theorem kdj:Good Tryz.prog 72 kbt:=(slices_SortStableFunc_s_box_line_box_line_C_ok.more kcZ)
def box_cheapest_c1_m0_M:CtrM:=⟨ "",[some (.pr (.i .i64) (.i .u8)),none,none,none,none],⟨[(1,.ptr 0 0),(2,.ptr 2 0),(3,.ptr 3 0),(4,.ptr 4 0)],[(0,.bx 113 [.mp 1]),(1,.mp (.pr (.i .i64) (.i .u8)) (.i .i64)),(2,.bx 4 [.c .b]),(3,.bx 3 [.c (.i .i64)]),(4,.bx 115 [.c (.i .i64),.c (.i .u8)])]⟩,5,⟨[(1,.ptr 0 0),(2,.ptr 2 0),(3,.ptr 3 0),(4,.ptr 4 0)],[(0,.bx 113 [.mp 1]),(1,.mp (.pr (.i .i64) (.i .u8)) (.i .i64)),(2,.bx 4 [.c .b]),(3,.bx 3 [.c (.i .i64)]),(4,.bx 115 [.c (.i .i64),.c (.i .u8)])]⟩,5,0,fun x=>kfY x.1 x.2.1 x.2.2.1 x.2.2.2.1 x.2.2.2.2.1 x.2.2.2.2.2,false⟩
theorem kkM:box_cheapest_c1_m0_M.ok=true/\GoodM Tryz.prog 105 box_cheapest_c1_m0_M:=
 kan Tryz.func105 (by kernel_rfl) (An:=[]) [(103,kgU)] (.cons kgk <| .nil) (fun x=>by kernel_rfl)
def box_cheapest_c1_C:Ctr:=⟨ "",[],[],fun _=>none,[],[]⟩
theorem box_cheapest_c1_C_ok:Good Tryz.prog 105 box_cheapest_c1_C:=good_dm
def kiy:Ctr:=⟨ "",box_cheapest_c1_C.as,box_cheapest_c1_C.rs,box_cheapest_c1_C.F,box_cheapest_c1_m0_M::box_cheapest_c1_C.mus,box_cheapest_c1_C.its⟩
theorem kld:Good Tryz.prog 105 kiy:=(box_cheapest_c1_C_ok.more kkM)
def box_cheapest_m0_M:CtrM:=⟨ "",[some (.sl tSwap),none,some (.pr (.i .i64) (.i .u8))],⟨[(1,.mp 0)],[(0,.mp (.pr (.i .i64) (.i .u8)) (.i .i64))]⟩,1,⟨[(1,.mp 0),(1000000,.c (.i .i64)),(1000001,.ag [.c (.i .i64),.c (.i .u8)]),(1000002,.c .b)],[(0,.mp (.pr (.i .i64) (.i .u8)) (.i .i64))]⟩,1,3,fun x=>kim x.1 x.2.1 x.2.2,false⟩
theorem kmh:box_cheapest_m0_M.ok=true/\GoodM Tryz.prog 70 box_cheapest_m0_M:=
 kan Tryz.func70 (by kernel_rfl) (An:=[(0,⟨⟨[(22,.c (.i .i64)),(12,.fn 105 [.ptr 1 0,.ptr 6 0,.ptr 4 0,.ptr 5 0]),(9,.ptr 4 0),(10,.ptr 5 0),(11,.ptr 6 0)],[(1,.bx 113 [.mp 0]),(0,.mp (.pr (.i .i64) (.i .u8)) (.i .i64)),(6,.bx 4 [.c .b]),(4,.bx 3 [.c (.i .i64)]),(5,.bx 115 [.c (.i .i64),.c (.i .u8)])]⟩,⟨[(9,.ptr 7 0),(10,.ptr 8 0),(11,.ptr 9 0)],[(7,.bx 3 [.c (.i .i64)]),(8,.bx 115 [.c (.i .i64),.c (.i .u8)]),(9,.bx 4 [.c .b]),(0,.mp (.pr (.i .i64) (.i .u8)) (.i .i64))]⟩,[21,20,5,7],[2,3],11,false,""⟩)]) [(105,kiy)] (.cons kld <| .nil) (fun x=>by kernel_rfl)
def box_cheapest_C:Ctr:=⟨ "",[],[],fun _=>none,[],[]⟩
theorem box_cheapest_C_ok:Good Tryz.prog 70 box_cheapest_C:=good_dm
def kkE:Ctr:=⟨ "",box_cheapest_C.as,box_cheapest_C.rs,box_cheapest_C.F,box_cheapest_m0_M::box_cheapest_C.mus,box_cheapest_C.its⟩
theorem knf:Good Tryz.prog 70 kkE:=(box_cheapest_C_ok.more kmh)
def ksp:Ctr:=⟨ "",[(.sl (.pr (.i .i64) (.pr (.i .u8) (.i .i64)))),(.sl (.pr (.i .i64) (.pr (.i .u8) (.i .i64)))),(.sl tSwap),(.sl (.pr (.i .i64) (.pr (.i .u8) (.i .i64))))],[tBill,(.i .i64)],fun x=>kwb x.1 x.2.1 x.2.2.1 x.2.2.2,[],[]⟩
theorem kvg:Good Tryz.prog 23 ksp:=
 kad Tryz.func23 (by kernel_rfl) (An:=[(4,⟨⟨[(55,.c (.i .i64)),(13,.mp 3)],[(3,.mp (.pr (.i .i64) (.i .u8)) (.i .i64))]⟩,⟨[(13,.mp 4)],[(4,.mp (.pr (.i .i64) (.i .u8)) (.i .i64))]⟩,[54,53,1,2,10,8,3],[2,0,1],5,false,""⟩),(12,⟨⟨[(67,.c (.i .i64)),(13,.mp 4),(16,.mw 5)],[(4,.mp (.pr (.i .i64) (.i .u8)) (.i .i64)),(5,.sl 121 tLine)]⟩,⟨[(16,.mw 6)],[(6,.sl 121 tLine)]⟩,[66,65,2,1,10,8,3],[2,0,1],7,false,""⟩),(20,⟨⟨[(101,.c (.i .i64))],[]⟩,⟨[],[]⟩,[100,99,10,22,8,23,3],[6,12,7,9,2,0,1,13],14,true,""⟩),(28,⟨⟨[(152,.c (.i .i64)),(8,.ptr 2 0),(22,.ptr 12 0)],[(2,.bx 43 [.mw 0,.mw 1,.c (.i .i64)]),(12,.bx 43 [.mw 7,.mw 9,.c (.i .i64)]),(9,.sl 50 (.pr (.i .i64) (.pr (.i .u8) (.i .i64))))]⟩,⟨[(22,.ptr 14 0),(8,.ptr 16 0)],[(14,.bx 43 [.mw 7,.mw 15,.c (.i .i64)]),(15,.sl 50 (.pr (.i .i64) (.pr (.i .u8) (.i .i64)))),(16,.bx 43 [.mw 0,.mw 1,.c (.i .i64)])]⟩,[151,150,23],[13,0,1,7],17,true,""⟩),(4,⟨⟨[(55,.c (.i .i64)),(13,.mp 7)],[(7,.mp (.pr (.i .i64) (.i .u8)) (.i .i64))]⟩,⟨[(13,.mp 8)],[(8,.mp (.pr (.i .i64) (.i .u8)) (.i .i64))]⟩,[54,53,1,2,10,8,3],[3,4,5,6,2,0,1],9,false,""⟩),(12,⟨⟨[(67,.c (.i .i64)),(13,.mp 8),(16,.mw 9)],[(8,.mp (.pr (.i .i64) (.i .u8)) (.i .i64)),(9,.sl 121 tLine)]⟩,⟨[(16,.mw 10)],[(10,.sl 121 tLine)]⟩,[66,65,2,1,10,8,3],[3,4,5,6,2,0,1],11,false,""⟩),(20,⟨⟨[(101,.c (.i .i64)),(10,.ptr 3 0),(22,.ptr 16 0),(8,.ptr 2 0),(23,.mp 17)],[(3,.bx 134 [.c (.sl (.pr (.i .i64) (.pr (.i .u8) (.i .i64)))),.mw 4,.fw 5,.mw 6]),(4,.sl 31 (.sl (.i .i64))),(5,.fm 31 (.sl (.i .i64)) 0 3 (.i .i64)),(6,.sl 3 (.i .i64)),(16,.bx 43 [.mw 11,.mw 13,.c (.i .i64)]),(11,.sl 3 (.i .i64)),(2,.bx 43 [.mw 0,.mw 1,.c (.i .i64)]),(17,.mp (.pr (.i .i64) (.i .u8)) (.i .i64))]⟩,⟨[(23,.mp 18),(8,.ptr 19 0),(22,.ptr 20 0)],[(18,.mp (.pr (.i .i64) (.i .u8)) (.i .i64)),(19,.bx 43 [.mw 0,.mw 1,.c (.i .i64)]),(20,.bx 43 [.mw 21,.mw 13,.c (.i .i64)]),(21,.sl 3 (.i .i64))]⟩,[100,99,3],[10,13,0,1],22,true,""⟩),(114,⟨⟨[],[]⟩,⟨[(125,.c .b)],[]⟩,[26,25,8,22,23,101,10],[18,2,16,11,17,3,4,5,6],19,false,""⟩),(28,⟨⟨[(152,.c (.i .i64)),(8,.ptr 19 0),(22,.ptr 20 0)],[(19,.bx 43 [.mw 0,.mw 1,.c (.i .i64)]),(20,.bx 43 [.mw 21,.mw 13,.c (.i .i64)]),(13,.sl 50 (.pr (.i .i64) (.pr (.i .u8) (.i .i64))))]⟩,⟨[(22,.ptr 22 0),(8,.ptr 24 0)],[(22,.bx 43 [.mw 21,.mw 23,.c (.i .i64)]),(23,.sl 50 (.pr (.i .i64) (.pr (.i .u8) (.i .i64)))),(24,.bx 43 [.mw 0,.mw 1,.c (.i .i64)])]⟩,[151,150,23],[18,0,1,21],25,true,""⟩)]) [(58,kki),(70,kkE),(72,kbt),(73,knY),(69,kbB),(68,kmW),(67,kgx),(65,knr),(59,khi),(71,keD)] (.cons kkW <| .cons knf <| .cons kdj <| .cons kqZ <| .cons kdw <| .cons kpA <| .cons kjB <| .cons kqt <| .cons kiA <| .cons kdH <| .nil) (fun x=>by kernel_rfl)
def knb:Ctr:=⟨ "",[],[(.sl (.sl (.pr (.i .i64) (.pr (.i .u8) (.i .i64)))))],fun x=>law08_plans,[],[]⟩
theorem kpT:Good Tryz.prog 46 knb:=
 kad Tryz.func46 (by kernel_rfl) (An:=[]) [(43,kij)] (.cons kif <| .nil) (fun x=>by kernel_rfl)
def kkf:Ctr:=⟨ "",[(.i .i64)],[.b],fun x=>klw x,[],[]⟩
theorem kne:Good Tryz.prog 107 kkf:=
 kad Tryz.func107 (by kernel_rfl) (An:=[]) [(66,kgm)] (.cons keW <| .nil) (fun x=>by kernel_rfl)
def kch:Ctr:=⟨ "",[(.sl (.i .i64)),(.fn 1 (.i .i64) .b)],[(.i .i64)],fun x=>kcB x.1 x.2,[],[]⟩
theorem kdv:Good Tryz.prog 86 kch:=
 kad Tryz.func86 (by kernel_rfl) (An:=[(0,⟨⟨[(8,.c (.i .i64))],[]⟩,⟨[],[]⟩,[7,1,0],[],0,true,""⟩)]) [] (.nil) (fun x=>by kernel_rfl)
def kdr:Ctr:=⟨ "",[(.sl (.i .i64)),(.fn 1 (.i .i64) .b)],[.b],fun x=>kef x.1 x.2,[],[]⟩
theorem kgB:Good Tryz.prog 108 kdr:=
 kad Tryz.func108 (by kernel_rfl) (An:=[]) [(86,kch)] (.cons kdv <| .nil) (fun x=>by kernel_rfl)
def kmL:Ctr:=⟨ "",[(.sl (.sl (.pr (.i .i64) (.pr (.i .u8) (.i .i64))))),(.sl (.i .i64))],[(.i .i64)],fun x=>kpk x.1 x.2,[],[]⟩
theorem kpv:Good Tryz.prog 74 kmL:=
 kad Tryz.func74 (by kernel_rfl) (An:=[]) [(108,kdr),(107,kkf),(50,kcz)] (.cons kgB <| .cons kne <| .cons kcf <| .nil) (fun x=>by kernel_rfl)
def kmN:Ctr:=⟨ "",[(.i .i64),(.i .i64)],[(.i .i64)],fun x=>koV x.1 x.2,[],[]⟩
theorem kpL:Good Tryz.prog 53 kmN:=
 kad Tryz.func53 (by kernel_rfl) (An:=[]) [] (.nil) (fun x=>by kernel_rfl)
def kmQ:Ctr:=⟨ "",[(.pr (.i .i64) (.pr (.i .u8) (.i .i64)))],[.b],fun x=>kpo x,[],[]⟩
theorem kpG:Good Tryz.prog 55 kmQ:=
 kad Tryz.func55 (by kernel_rfl) (An:=[]) [] (.nil) (fun x=>by kernel_rfl)
def kwJ:Ctr:=⟨ "",[(.sl (.pr (.i .i64) (.pr (.i .u8) (.i .i64)))),(.sl (.pr (.i .i64) (.pr (.i .u8) (.i .i64))))],[(.sl (.pr (.i .i64) (.pr (.i .u8) (.i .i64)))),(.i .i64)],fun x=>kqn x.1 x.2,[],[]⟩
theorem box_Take_C_ok:Good Tryz.prog 17 kwJ:=
 kad Tryz.func17 (by kernel_rfl) (An:=[]) [(55,kmQ),(53,kmN),(51,kkD),(50,kcz),(54,kaS)] (.cons kpG <| .cons kpL <| .cons kkZ <| .cons kcf <| .cons kby <| .nil) (fun x=>by kernel_rfl)
def kcN:Ctr:=⟨ "",[(.sl (.pr (.i .i64) (.pr (.i .u8) (.i .i64))))],[(.sl (.pr (.i .i64) (.pr (.i .u8) (.i .i64))))],fun x=>kat x,[],[]⟩
theorem slices_Clone_s_api_Item_api_Item_C_ok:Good Tryz.prog 80 kcN:=
 kad Tryz.func80 (by kernel_rfl) (An:=[]) [] (.nil) (fun x=>by kernel_rfl)
def growT:Ty:=.sl (.pr (.i .i64) (.pr (.i .u8) (.i .i64)))
abbrev GrowL:=List (Int×Int×Int)
def growA (x:GrowL):AV:=growT.av x
def growE (x:GrowL):List AV:=growT.enc x
def growY (y:Int×GrowL):List AV:=[.sc (.int .i64 y.1),growA y.2]
def growG (l:Nat) (A:AV):Nat->AV
 | 0=>.fn 110 [A,.fp [.sc (.func (.yield l) #[] #[])],.un]
 | d+1=>.fn 110 [A,.fp [.sc (.func (.yield l) #[] #[])],.fp [growG l A d]]
theorem kxO {l:Nat} {A:AV}:∀ d,(growG l A d).one=true
 | 0=>rfl
 | _+1=>rfl
theorem kqs {l:Nat} {A:AV} (hA:Free A):∀ d,Free (growG l A d)
 | 0=>by
  simp only [growG,khz,kbA,kiS,ksh,kfZ,and_true,true_and]
  exact ⟨hA,.un⟩
 | d+1=>by
  have:=kqs (l:=l) hA d
  simp only [growG,khz,kbA,kiS,ksh,kfZ,and_true,true_and]
  exact ⟨hA,this⟩
theorem khZ (x:GrowL):Free (growA x):=khI growT x rfl
theorem kxL {l p:GrowL} {r:GrowL×Int} (h:kqn l p=some r):PC Tryz.prog 17 [growA l,growA p] (·= .tp [growA r.1,.sc (.int .i64 r.2)]):=
 box_Take_C_ok.2.1 (l,p) r h _ ⟨_,_,rfl,(kcL rfl).2 rfl,_,rfl,(kcL rfl).2 rfl⟩
theorem koU (ps:List GrowL):Free (.sl (ps.map growE)):=khI (.sl growT) ps rfl
theorem krJ (l:Nat) (ps:List GrowL):∀ (d:Nat) (i s:Int) (x:GrowL) (ls:List (Int×GrowL)),kci d ps i s x=some ls->
  YV Tryz.prog l (growG l (.fp [.sl (ps.map growE)]) d) [.sc (.int .i64 i),.sc (.int .i64 s),growA x] (ls.map growY)
 | 0,i,s,x,ls,h=>by cases h
 | d+1,i,s,x,ls,h=>by
  refine YV.of_body (fn:=Tryz.f110) (rd:=9) Tryz.func110 rfl (by kernel_rfl) (by show 6<=49; omega) (by show 49<=9000000; omega) rfl fun D G O k hD hl ok hx=>?_
  subst hl
  have hg:=kqs (l:=G.l) (A:=.fp [.sl (ps.map growE)]) (by simpa using koU ps) d
  have hfree:=khZ x
  let I:AV:=.sc (.int .i64 i)
  let S:AV:=.sc (.int .i64 s)
  let X:=growA x
  let A:AV:=.fp [.sl (ps.map growE)]
  let R:AV:=.fp [growG G.l A d]
  refine Sat.ofL ?_
  refine SatL.seq (SatL.rreg rfl ⟨.sc (.bool false),.assign rfl rfl,?_⟩)
  refine SatL.seq (SatL.seq (SatL.rreg rfl ⟨I,.move rfl rfl,_,.load rfl rfl (by kernel_rfl),_,.len rfl rfl rfl rfl rfl (by kernel_rfl),_,.bin rfl rfl rfl (fun K hk=>⟨rfl,hk⟩),?_⟩))
  refine SatL.condX (v:=i==(ps.map growE).length) rfl (fun e=>?_) fun e=>SatL.skip ?_
  ·have hi:i=lenI ps:=by simpa [lenI] using e
   obtain rfl:[(s,x)]=ls:=Option.some.inj ((if_pos hi).symm.trans h)
   refine SatL.seq (SatL.yreg 3 rfl hD ok rfl ⟨_,.load rfl rfl (by kernel_rfl),S,.move rfl rfl,X,.move rfl rfl,YieldK.of [] (z:=ah0) (es:=List.replicate k []) (avs:=[.sc (.int .i64 s),growA x]) (.inl rfl) rfl rfl .yield rfl (by simpa [growY] using hx) (fun q B h=>by cases h) (Snap.V (.free _ (.sc _))) (SnapL.free (show FreeL [S,X] by simp [S,X,hfree])) (fun t ht=>by cases ht) (aopsR.plain ⟨.sc (.bool true),.assign rfl rfl,?_⟩) (aopsR.plain ⟨.sc (.bool false),.assign rfl rfl,?_⟩)⟩)
   ·exact SatL.ret ⟨.inr rfl,.inl ⟨_,rfl,by simp,rfl⟩⟩
   ·exact SatL.ret ⟨.inr rfl,.inr ⟨rfl,rfl⟩⟩
  have hi:¬ i=lenI ps:=by simpa [lenI] using e
  replace h:=(if_neg hi).symm.trans h
  obtain ⟨p,hp,h⟩:=jaa.1 h
  obtain ⟨r,hr,h⟩:=jaa.1 h
  obtain ⟨h0,hp⟩:=knD hp
  let Z:=growA r.1
  let E:AV:=.sc (.int .i64 r.2)
  refine SatL.seq (SatL.seq (SatL.rreg rfl ⟨X,.move rfl rfl,_,.load rfl rfl (by kernel_rfl),I,.move rfl rfl,_,.idx (e:=22) (c:=growE p) rfl rfl rfl (by kernel_rfl) h0 (by simp; exact ⟨p,hp,rfl⟩) (by kernel_rfl) (by simp [growE,growT,Ty.enc]),growA p,.load rfl rfl (by kernel_rfl),.tp [Z,E],.call rfl rfl rfl rfl (kxL hr) (show FreeL [X,growA p] by simp only [kbA,kfZ,and_true]; exact ⟨hfree,khZ p⟩),.tp [Z,E],.move rfl rfl,Z,.extract rfl rfl rfl,E,.extract rfl rfl rfl,Z,.assign rfl rfl,E,.assign rfl rfl,?_⟩))
  have last:∀ (es:List (List AV)) (ls2:List (Int×GrowL)) (env:Env),lk env GS = .gs es->lk env 0=I->lk env 1=S->lk env 2=X->lk env 5=R->kci d ps (w64 (i+1)) s x=some ls2->es.length+ls2.length=k+ls.length->(∀ j,j<ls2.length->G.xs[es.length+j]?=(ls2.map growY)[j]?)->
    SatL Tryz.prog 49 D O [(Tryz.f110.body.getD .skip |> fun c=>match c with | .seq _ (.seq _ (.seq _ c))=>c | c=>c)] (yvQ 9 (k+(ls.map growY).length)) ⟨env,ah0,0⟩:=by
   intro es ls2 env e1 e2 e3 e4 e5 hg2 hlen hx2
   let I1:AV:=.sc (.int .i64 (w64 (i+1)))
   refine SatL.seq (SatL.yreg 5 rfl hD ok rfl ⟨growG G.l A d,.load rfl (show deref ah0 (lk env 5)=_ by rw [e5]; rfl) (by kernel_rfl),I,.move rfl e2,I1,.bin rfl rfl rfl (fun K hk=>⟨rfl,hk⟩),S,.move rfl e3,X,.move rfl e4,
    YieldK.of [] (z:=ah0) (es:=es) (avs:=[I1,S,X]) (.inl rfl) rfl rfl (krJ G.l ps d (w64 (i+1)) s x ls2 hg2) e1 (by simpa using hx2) (fun q B h=>by cases h) (Snap.V (.free _ hg)) (SnapL.free (show FreeL [I1,S,X] by simp [I1,S,X,hfree])) (fun t ht=>by cases ht) (aopsR.plain ⟨.sc (.bool true),.assign rfl rfl,?_⟩) (aopsR.plain ⟨.sc (.bool false),.assign rfl rfl,?_⟩)⟩)
   ·exact SatL.ret ⟨.inr rfl,.inl ⟨_,rfl,by simp; omega,rfl⟩⟩
   ·exact SatL.ret ⟨.inr rfl,.inr ⟨rfl,rfl⟩⟩
  by_cases hr0:r.2=0
  ·rw [if_pos hr0] at h
   obtain ⟨b,hb,h⟩:=jaa.1 h
   obtain ⟨l1,hl1,h⟩:=jaa.1 h
   obtain ⟨l2,hl2,h⟩:=jaa.1 h
   obtain rfl:l1++l2=ls:=Option.some.inj h
   obtain rfl:w64 (1*2 ^ (min i.toNat 64))=b:=Option.some.inj ((if_pos h0).symm.trans hb)
   have hx1:∀ j,j<l1.length+l2.length->G.xs[k+j]?=(l1.map growY++l2.map growY)[j]?:=fun j hj=>by
    rw [<-jcn]
    exact hx j (by rw [jar]; exact Nat.lt_of_lt_of_eq hj jbg.symm)
   have hlen:(l1++l2).length=l1.length+l2.length:=jbg
   let I1:AV:=.sc (.int .i64 (w64 (i+1)))
   let W:AV:=.sc (.int .i64 (w64 (1*2 ^ (min i.toNat 64))))
   let S1:AV:=.sc (.int .i64 (bitsI .or .i64 s (w64 (1*2 ^ (min i.toNat 64)))))
   refine SatL.seq (SatL.yregD 11 rfl hD ok (by kernel_rfl) (by kernel_rfl) (by kernel_rfl) (by kernel_rfl) rfl ⟨E,.move rfl rfl,.sc (.bool true),.bin rfl rfl rfl (fun K hk=>⟨rfl,by rw [hr0]; exact hk⟩),.sc (.bool true),.move rfl rfl,growG G.l A d,.load rfl rfl (by kernel_rfl),I,.move rfl rfl,I1,.bin rfl rfl rfl (fun K hk=>⟨rfl,hk⟩),S,.move rfl rfl,I,.move rfl rfl,
    W,.bin rfl rfl rfl (fun K hk=>⟨h0,hk⟩),S1,.bin rfl rfl rfl (fun K hk=>⟨rfl,hk⟩),Z,.move rfl rfl,
    YieldK.of [0,1,2,5,31] (z:=ah0) (es:=List.replicate k []) (avs:=[I1,S1,Z]) (.inr ⟨_,_,_,rfl,rfl,rfl⟩) rfl rfl (krJ G.l ps d (w64 (i+1)) _ r.1 l1 hl1) rfl (fun j hj=>?_) (fun q B h=>by cases h) (Snap.V (.free _ hg)) (SnapL.free (show FreeL [I1,S1,Z] by simp only [I1,S1,kbA,kfZ,and_true,ksh,true_and]; exact khZ r.1)) (fun t ht=>?_)
     (aopsR.plain ⟨.sc (.bool false),.not true rfl rfl rfl,.sc (.bool false),.pick rfl rfl rfl,?_⟩) (aopsR.plain ⟨.sc (.bool true),.not false rfl rfl rfl,.sc (.bool true),.pick rfl rfl rfl,?_⟩)⟩)
   ·rw [jar] at hj
    rw [jct,hx1 j (by omega),jbn (by simpa using hj)]
   ·simp only [jbp,List.not_mem_nil,or_false] at ht
    rcases ht with rfl | rfl | rfl | rfl | rfl
    ·exact .sc _
    ·exact .sc _
    ·exact hfree
    ·show Free R
     simp only [R,kiS,kbA,kfZ,and_true]
     exact hg
    ·exact .sc _
   ·exact SatL.condF (v:=false) rfl rfl (SatL.skip (last _ l2 _ rfl rfl rfl rfl rfl hl2 (by rw [jbg,jct,jar,hlen]; omega) (fun j hj=>by rw [jbg,jct,jar,jdw,hx1 _ (by omega),jch (by simp),jar,Nat.add_sub_cancel_left])))
   ·exact SatL.condT (v:=true) rfl rfl (SatL.seq (SatL.rreg rfl ⟨.sc (.bool false),.assign rfl rfl,SatL.ret ⟨.inr rfl,.inr ⟨rfl,rfl⟩⟩⟩))
  ·rw [if_neg hr0] at h
   refine SatL.seq (SatL.rregD (by kernel_rfl) (by kernel_rfl) rfl ⟨E,.move rfl rfl,.sc (.bool false),.bin rfl rfl rfl (fun K hk=>⟨rfl,by rw [show (r.2==0)=false by simpa using hr0]; exact hk⟩),.sc (.bool false),.move rfl rfl,.sc (.bool false),.pick rfl rfl rfl,?_⟩)
   exact SatL.condF (v:=false) rfl rfl (SatL.skip (last _ ls _ rfl rfl rfl rfl rfl h (by simp) (by simpa using hx)))
theorem kxh {x l:GrowL} (h:kat x=some l):PC Tryz.prog 80 [growA x] (·= growA l):=
 slices_Clone_s_api_Item_api_Item_C_ok.2.1 x l h _ ⟨_,rfl,(kcL rfl).2 rfl⟩
def kly:CtrI:=⟨ "",[.pt (.sl growT),.pt growT],[.i .i64,growT],fun x=>runI fun o=>khQ o x.1 x.2⟩
theorem kxg {l:Nat} {A:AV} {h:AH} (hA:Free A) (h0:h 0=some (.cells 1 161 [[.sc (.func (.yield l) #[] #[])]])) (h1:h 1=some (.cells 1 162 [[.fn 110 [A,.own 0 0 0,.own 1 0 0]]])):∀ d,SnapV h (.fn 110 [A,.own 0 0 0,.own 1 0 0]) (growG l A d):=fun d=>by
 have step:∀ R,SnapV h (.own 1 0 0) R->SnapV h (.fn 110 [A,.own 0 0 0,.own 1 0 0]) (.fn 110 [A,.fp [.sc (.func (.yield l) #[] #[])],R]):=fun R hR=>.fn rfl fun q c c' hc hc'=>by
  match q,hc,hc' with
  | 0,hc,hc'=>cases hc; cases hc'; exact Snap.V (.free _ hA)
  | 1,hc,hc'=>cases hc; cases hc'; exact SnapV.own1 h0 rfl (Snap.V (.free _ (.sc _)))
  | 2,hc,hc'=>cases hc; cases hc'; exact hR
  | q+3,hc,hc'=>cases hc
 induction d with
 | zero=>exact step _ .un
 | succ d ih=>exact step _ (.own1 h1 (kxO d) ih)
theorem koM:GoodI Tryz.prog 109 kly:=by
 refine ⟨rfl,fun x xs hF l hl=>?_⟩
 obtain ⟨ps,x⟩:=x
 obtain ⟨a,l',rfl,ha,a',rfl,ha'⟩:=hl
 obtain rfl:=(kcL rfl).1 ha
 obtain rfl:=(kcL rfl).1 ha'
 have hF:(kat x).bind (fun l=>kci (ps.length+1) ps 0 0 l)=some xs:=by
  obtain ⟨xs1,h1,h2⟩:=jaa.1 (show runI (fun o=>khQ o ps x)=some xs from hF)
  obtain ⟨ys,h3,h4⟩:=jaa.1 h2
  split at h4
  ·cases h4; exact h1
  ·cases h4
 obtain ⟨c,hc,hg⟩:=jaa.1 hF
 refine IT.of_body (fn:=Tryz.f109) Tryz.func109 rfl (by kernel_rfl) (by show 3<=10; omega) (by show 10<=9000000; omega) rfl fun D G O hD hx ok=>?_
 have hA:Free (.fp [.sl (ps.map growE)]):=by simpa using koU ps
 let Y:AV:=.sc (.func (.yield G.l) #[] #[])
 let A:AV:=.fp [.sl (ps.map growE)]
 let F:AV:=.fn 110 [A,.own 0 0 0,.own 1 0 0]
 let H0:AH:=updH ah0 0 (.cells 1 161 [[Y]])
 let H1:AH:=updH H0 1 (.cells 1 162 [[.sc .nilFunc]])
 let H2:AH:=updH H1 1 (.cells 1 162 [[F]])
 let e0:Env:=(GS,.gs [])::kap (.sc (.func (.yield G.l) #[] #[])::[(Ty.pt (.sl growT)).av ps,(Ty.pt growT).av x])
 refine Sat.ofL (SatL.seq (Sat.region rfl (show SatL Tryz.prog 10 D O _ _ ⟨(3,.own 0 0 0)::e0,H0,1⟩ from ?_)))
 refine SatL.seq (Sat.region rfl (aops.cons rfl<|aop.alloc (z:=[.sc .nilFunc]) rfl (by kernel_rfl) (show SatL Tryz.prog 10 D O _ _ ⟨(4,.own 1 0 0)::(3,.own 0 0 0)::e0,H1,2⟩ from ?_)))
 refine SatL.seq (Sat.region rfl (aops.cons rfl<|aop.mkfn (v:=F) rfl rfl<|aops.cons rfl<|aop.store (id:=1) (k:=1) (T':=162) (a:=.sc .nilFunc) (b:=F) rfl rfl rfl rfl (by kernel_rfl) (show SatL Tryz.prog 10 D O _ _ ⟨(5,F)::(4,.own 1 0 0)::(3,.own 0 0 0)::e0,H2,2⟩ from ?_)))
 let C:=growA c
 refine SatL.yregD 3 rfl hD ok (by kernel_rfl) (by kernel_rfl) (by kernel_rfl) (by kernel_rfl) rfl ⟨F,.load rfl rfl (by kernel_rfl),growA x,.load rfl rfl (by kernel_rfl),C,.call rfl rfl rfl rfl (kxh hc) (show FreeL [growA x] by simpa using khZ x),
  YieldK.of [] (z:=H2) (es:=[]) (avs:=[.sc (.int .i64 0),.sc (.int .i64 0),C]) (.inl rfl) rfl rfl (krJ G.l ps (ps.length+1) 0 0 c xs hg) rfl (fun j hj=>?_) (fun q B h=>h) (kxg hA rfl rfl _) (SnapL.free (show FreeL [.sc (.int .i64 0),.sc (.int .i64 0),C] by simpa using khZ c)) (fun t ht=>by cases ht) ?_ ?_⟩
 ·rw [hx]; simp only [List.length_nil,jcd]; rfl
 ·exact ⟨.inl rfl,.inl ⟨_,rfl,rfl⟩⟩
 ·exact ⟨.inl rfl,.inr rfl⟩
def kgs:Ctr:=⟨ "",[],[],fun _=>none,[],[kly]⟩
theorem kgD:Good Tryz.prog 109 kgs:=good_dm.moreI koM
def box_built_m0_M:CtrM:=⟨ "",[some (.sl (.pr (.i .i64) (.pr (.i .u8) (.i .i64)))),some (.sl (.sl (.pr (.i .i64) (.pr (.i .u8) (.i .i64)))))],⟨[],[]⟩,0,⟨[(1000000,.fn 109 [.ptr 0 0,.ptr 1 0])],[(0,.bx 54 [.c (.sl (.sl (.pr (.i .i64) (.pr (.i .u8) (.i .i64)))))]),(1,.bx 22 [.c (.sl (.pr (.i .i64) (.pr (.i .u8) (.i .i64))))])]⟩,2,1,fun x=>kog x.1 x.2,false⟩
theorem koJ:box_built_m0_M.ok=true/\GoodM Tryz.prog 75 box_built_m0_M:=
 kan Tryz.func75 (by kernel_rfl) (An:=[]) [(109,kgs)] (.cons kgD <| .nil) (fun x=>by kernel_rfl)
def box_built_C:Ctr:=⟨ "",[],[],fun _=>none,[],[]⟩
theorem box_built_C_ok:Good Tryz.prog 75 box_built_C:=good_dm
def kmJ:Ctr:=⟨ "",box_built_C.as,box_built_C.rs,box_built_C.F,box_built_m0_M::box_built_C.mus,box_built_C.its⟩
theorem kpt:Good Tryz.prog 75 kmJ:=(box_built_C_ok.more koJ)
def kmY:Ctr:=⟨ "",[(.i .i64),(.sl (.i .i64))],[(.sl (.i .i64)),(.i .i64)],fun x=>koT x.1 x.2,[],[]⟩
theorem kqb:Good Tryz.prog 76 kmY:=
 kad Tryz.func76 (by kernel_rfl) (An:=[(0,⟨⟨[(12,.c (.i .i64)),(6,.mw 1),(7,.c (.i .i64))],[(1,.sl 3 (.i .i64))]⟩,⟨[(6,.mw 2),(7,.c (.i .i64))],[(2,.sl 3 (.i .i64))]⟩,[11,10,0],[],3,false,""⟩)]) [] (.nil) (fun x=>by kernel_rfl)
def kfd:Ctr:=⟨ "",[(.sl (.i .i64)),(.sl (.i .i64))],[(.i .i64)],fun x=>kfL x.1 x.2,[],[]⟩
theorem kiw:Good Tryz.prog 79 kfd:=
 kad Tryz.func79 (by kernel_rfl) (An:=[(0,⟨⟨[(11,.c (.i .i64))],[]⟩,⟨[],[]⟩,[10,9,1,0],[],0,true,""⟩)]) [(78,kej)] (.cons keU <| .nil) (fun x=>by kernel_rfl)
def koj:Ctr:=⟨ "",[(.sl (.pr (.i .i64) (.pr (.i .u8) (.i .i64)))),(.sl (.sl (.pr (.i .i64) (.pr (.i .u8) (.i .i64))))),(.sl (.i .i64))],[kzq,(.i .i64)],fun x=>kqU x.1 x.2.1 x.2.2,[],[]⟩
theorem kqq:Good Tryz.prog 28 koj:=
 kad Tryz.func28 (by kernel_rfl) (An:=[(73,⟨⟨[],[]⟩,⟨[(8,.c (.i .i64))],[]⟩,[1,5,6,0],[0,3,1,2],5,false,""⟩),(0,⟨⟨[],[(9,.bx 57 [.c (.sl (.i .i64)),.c (.i .i64),.c (.sl (.pr (.i .i64) (.pr (.i .u8) (.i .i64))))])]⟩,⟨[],[(9,.bx 57 [.c (.sl (.i .i64)),.c (.i .i64),.c (.sl (.pr (.i .i64) (.pr (.i .u8) (.i .i64))))])]⟩,[29,9,6,5],[3,1,2,0],13,false,""⟩)]) [(79,kfd),(76,kmY),(75,kmJ),(109,kgs),(80,kcN),(74,kmL),(50,kcz),(77,kky),(78,kej)] (.cons kiw <| .cons kqb <| .cons kpt <| .cons kgD <| .cons slices_Clone_s_api_Item_api_Item_C_ok <| .cons kpv <| .cons kcf <| .cons kkV <| .cons keU <| .nil) (fun x=>by kernel_rfl)
def keu:CtrI:=⟨ "",[(.pt (.sl (.i .i64)))],[(.i .i64)],fun x=>runI fun o=>keg o x⟩
theorem khJ:GoodI Tryz.prog 131 keu:=
 kyB Tryz.func131 (by kernel_rfl) (An:=[(0,⟨⟨[(7,.c (.i .i64)),(9000000,.gs (.i .i64))],[]⟩,⟨[(9000000,.gs (.i .i64))],[]⟩,[6,5],[],1,true,""⟩)]) [] (.nil) (fun x=>by kernel_rfl)
def kaC:Ctr:=⟨ "",[],[],fun _=>none,[],[keu]⟩
theorem kaI:Good Tryz.prog 131 kaC:=good_dm.moreI khJ
def slices_Values_s_int_int_m0_M:CtrM:=⟨ "",[some (.sl (.i .i64))],⟨[],[]⟩,0,⟨[(1000000,.fn 131 [.ptr 0 0])],[(0,.bx 31 [.c (.sl (.i .i64))])]⟩,1,1,fun x=>keV x,false⟩
theorem khL:slices_Values_s_int_int_m0_M.ok=true/\GoodM Tryz.prog 118 slices_Values_s_int_int_m0_M:=
 kan Tryz.func118 (by kernel_rfl) (An:=[]) [(131,kaC)] (.cons kaI <| .nil) (fun x=>by kernel_rfl)
def slices_Values_s_int_int_C:Ctr:=⟨ "",[],[],fun _=>none,[],[]⟩
theorem slices_Values_s_int_int_C_ok:Good Tryz.prog 118 slices_Values_s_int_int_C:=good_dm
def keK:Ctr:=⟨ "",slices_Values_s_int_int_C.as,slices_Values_s_int_int_C.rs,slices_Values_s_int_int_C.F,slices_Values_s_int_int_m0_M::slices_Values_s_int_int_C.mus,slices_Values_s_int_int_C.its⟩
theorem khO:Good Tryz.prog 118 keK:=(slices_Values_s_int_int_C_ok.more khL)
def kjE:Ctr:=⟨ "",[(.i .u32)],[(.i .i64)],fun x=>kqP x,[],[]⟩
theorem kmk:Good Tryz.prog 147 kjE:=
 kad Tryz.func147 (by kernel_rfl) (An:=[(17,⟨⟨[],[]⟩,⟨[(0,.c (.i .u32)),(2,.c (.i .i64))],[]⟩,[],[],0,false,""⟩)]) [] (.nil) (fun x=>by kernel_rfl)
def kjG:Ctr:=⟨ "",[(.i .u64)],[(.i .i64)],fun x=>kla x,[],[]⟩
theorem kmu:Good Tryz.prog 148 kjG:=
 kad Tryz.func148 (by kernel_rfl) (An:=[(17,⟨⟨[],[]⟩,⟨[(0,.c (.i .u64)),(2,.c (.i .i64))],[]⟩,[],[],0,false,""⟩),(33,⟨⟨[],[]⟩,⟨[(0,.c (.i .u64)),(2,.c (.i .i64))],[]⟩,[],[],0,false,""⟩)]) [] (.nil) (fun x=>by kernel_rfl)
def kid:Ctr:=⟨ "",[(.i .u64)],[(.i .i64)],fun x=>kjz x,[],[]⟩
theorem kju:Good Tryz.prog 136 kid:=
 kad Tryz.func136 (by kernel_rfl) (An:=[]) [(148,kjG),(147,kjE)] (.cons kmu <| .cons kmk <| .nil) (fun x=>by kernel_rfl)
def kbF:Ctr:=⟨ "",[(.i .i64),(.i .i64)],[.b],fun x=>kaF x.1 x.2,[],[]⟩
theorem kbs:Good Tryz.prog 144 kbF:=
 kad Tryz.func144 (by kernel_rfl) (An:=[]) [(111,kih)] (.cons kjs <| .nil) (fun x=>by kernel_rfl)
def kgv:Ctr:=⟨ "",[(.i .i64)],[(.i .u64)],fun x=>khC x,[],[]⟩
theorem kjy:Good Tryz.prog 150 kgv:=
 kad Tryz.func150 (by kernel_rfl) (An:=[]) [(136,kid)] (.cons kju <| .nil) (fun x=>by kernel_rfl)
def slices_xorshift_Next_m0_M:CtrM:=⟨ "",[none],⟨[(0,.ptr 0 0)],[(0,.bx 202 [.c (.i .u64)])]⟩,1,⟨[(0,.ptr 0 0),(1000000,.c (.i .u64))],[(0,.bx 202 [.c (.i .u64)])]⟩,1,1,fun x=>kgy x,false⟩
theorem kiR:slices_xorshift_Next_m0_M.ok=true/\GoodM Tryz.prog 151 slices_xorshift_Next_m0_M:=
 kan Tryz.func151 (by kernel_rfl) (An:=[]) [] (.nil) (fun x=>by kernel_rfl)
def slices_xorshift_Next_C:Ctr:=⟨ "",[],[],fun _=>none,[],[]⟩
theorem slices_xorshift_Next_C_ok:Good Tryz.prog 151 slices_xorshift_Next_C:=good_dm
def kgc:Ctr:=⟨ "",slices_xorshift_Next_C.as,slices_xorshift_Next_C.rs,slices_xorshift_Next_C.F,slices_xorshift_Next_m0_M::slices_xorshift_Next_C.mus,slices_xorshift_Next_C.its⟩
theorem kjh:Good Tryz.prog 151 kgc:=(slices_xorshift_Next_C_ok.more kiR)
def slices_order2Ordered_int_m0_M:CtrM:=⟨ "",[some (.sl (.i .i64)),some (.i .i64),some (.i .i64),none],⟨[(3,.ptr 0 0)],[(0,.bx 3 [.c (.i .i64)])]⟩,1,⟨[(3,.ptr 0 0),(1000000,.c (.i .i64)),(1000001,.c (.i .i64))],[(0,.bx 3 [.c (.i .i64)])]⟩,1,2,fun x=>kbv x.1 x.2.1 x.2.2.1 x.2.2.2,false⟩
theorem khv:slices_order2Ordered_int_m0_M.ok=true/\GoodM Tryz.prog 154 slices_order2Ordered_int_m0_M:=
 kan Tryz.func154 (by kernel_rfl) (An:=[]) [(144,kbF)] (.cons kbs <| .nil) (fun x=>by kernel_rfl)
def slices_order2Ordered_int_C:Ctr:=⟨ "",[],[],fun _=>none,[],[]⟩
theorem slices_order2Ordered_int_C_ok:Good Tryz.prog 154 slices_order2Ordered_int_C:=good_dm
def keC:Ctr:=⟨ "",slices_order2Ordered_int_C.as,slices_order2Ordered_int_C.rs,slices_order2Ordered_int_C.F,slices_order2Ordered_int_m0_M::slices_order2Ordered_int_C.mus,slices_order2Ordered_int_C.its⟩
theorem khN:Good Tryz.prog 154 keC:=(slices_order2Ordered_int_C_ok.more khv)
def slices_medianOrdered_int_m0_M:CtrM:=⟨ "",[some (.sl (.i .i64)),some (.i .i64),some (.i .i64),some (.i .i64),none],⟨[(4,.ptr 0 0)],[(0,.bx 3 [.c (.i .i64)])]⟩,1,⟨[(4,.ptr 0 0),(1000000,.c (.i .i64))],[(0,.bx 3 [.c (.i .i64)])]⟩,1,1,fun x=>kcn x.1 x.2.1 x.2.2.1 x.2.2.2.1 x.2.2.2.2,false⟩
theorem khu:slices_medianOrdered_int_m0_M.ok=true/\GoodM Tryz.prog 153 slices_medianOrdered_int_m0_M:=
 kan Tryz.func153 (by kernel_rfl) (An:=[]) [(154,keC)] (.cons khN <| .nil) (fun x=>by kernel_rfl)
def slices_medianOrdered_int_C:Ctr:=⟨ "",[],[],fun _=>none,[],[]⟩
theorem slices_medianOrdered_int_C_ok:Good Tryz.prog 153 slices_medianOrdered_int_C:=good_dm
def kcj:Ctr:=⟨ "",slices_medianOrdered_int_C.as,slices_medianOrdered_int_C.rs,slices_medianOrdered_int_C.F,slices_medianOrdered_int_m0_M::slices_medianOrdered_int_C.mus,slices_medianOrdered_int_C.its⟩
theorem kdt:Good Tryz.prog 153 kcj:=(slices_medianOrdered_int_C_ok.more khu)
def slices_medianAdjacentOrdered_int_m0_M:CtrM:=⟨ "",[some (.sl (.i .i64)),some (.i .i64),none],⟨[(2,.ptr 0 0)],[(0,.bx 3 [.c (.i .i64)])]⟩,1,⟨[(2,.ptr 0 0),(1000000,.c (.i .i64))],[(0,.bx 3 [.c (.i .i64)])]⟩,1,1,fun x=>kaP x.1 x.2.1 x.2.2,false⟩
theorem keM:slices_medianAdjacentOrdered_int_m0_M.ok=true/\GoodM Tryz.prog 152 slices_medianAdjacentOrdered_int_m0_M:=
 kan Tryz.func152 (by kernel_rfl) (An:=[]) [(153,kcj)] (.cons kdt <| .nil) (fun x=>by kernel_rfl)
def slices_medianAdjacentOrdered_int_C:Ctr:=⟨ "",[],[],fun _=>none,[],[]⟩
theorem slices_medianAdjacentOrdered_int_C_ok:Good Tryz.prog 152 slices_medianAdjacentOrdered_int_C:=good_dm
def kcp:Ctr:=⟨ "",slices_medianAdjacentOrdered_int_C.as,slices_medianAdjacentOrdered_int_C.rs,slices_medianAdjacentOrdered_int_C.F,slices_medianAdjacentOrdered_int_m0_M::slices_medianAdjacentOrdered_int_C.mus,slices_medianAdjacentOrdered_int_C.its⟩
theorem keX:Good Tryz.prog 152 kcp:=(slices_medianAdjacentOrdered_int_C_ok.more keM)
def kds:Ctr:=⟨ "",[(.sl (.i .i64)),(.i .i64),(.i .i64)],[(.i .i64),(.i .i64)],fun x=>kee x.1 x.2.1 x.2.2,[],[]⟩
theorem kgG:Good Tryz.prog 141 kds:=
 kad Tryz.func141 (by kernel_rfl) (An:=[(129,⟨⟨[(9,.ptr 0 0)],[(0,.bx 3 [.c (.i .i64)])]⟩,⟨[(9,.ptr 1 0),(11,.c (.i .i64))],[(1,.bx 3 [.c (.i .i64)])]⟩,[8,0],[],2,false,""⟩),(137,⟨⟨[(9,.ptr 0 0)],[(0,.bx 3 [.c (.i .i64)])]⟩,⟨[(10,.c (.i .i64)),(11,.c (.i .i64)),(12,.c (.i .i64)),(9,.ptr 1 0)],[(1,.bx 3 [.c (.i .i64)])]⟩,[],[],2,false,""⟩)]) [(152,kcp),(153,kcj)] (.cons keX <| .cons kdt <| .nil) (fun x=>by kernel_rfl)
def slices_AppendSeq_s_int_int_m0_M:CtrM:=⟨ "",[none,none],⟨[(0,.mw 0),(1,.fn 131 [.ptr 1 0])],[(0,.sl 3 (.i .i64)),(1,.bx 31 [.c (.sl (.i .i64))])]⟩,2,⟨[(1000000,.mw 2)],[(2,.sl 3 (.i .i64))]⟩,3,1,fun x=>ked x.1 x.2,false⟩
theorem kgz:slices_AppendSeq_s_int_int_m0_M.ok=true/\GoodM Tryz.prog 134 slices_AppendSeq_s_int_int_m0_M:=
 kan Tryz.func134 (by kernel_rfl) (An:=[(0,⟨⟨[],[(2,.bx 31 [.mw 0]),(0,.sl 3 (.i .i64))]⟩,⟨[],[(2,.bx 31 [.mw 5]),(5,.sl 3 (.i .i64))]⟩,[6,2],[],6,false,""⟩)]) [(131,kaC),(109,kgs)] (.cons kaI <| .cons kgD <| .nil) (fun x=>by kernel_rfl)
def slices_AppendSeq_s_int_int_C:Ctr:=⟨ "",[],[],fun _=>none,[],[]⟩
theorem slices_AppendSeq_s_int_int_C_ok:Good Tryz.prog 134 slices_AppendSeq_s_int_int_C:=good_dm
def kdJ:Ctr:=⟨ "",slices_AppendSeq_s_int_int_C.as,slices_AppendSeq_s_int_int_C.rs,slices_AppendSeq_s_int_int_C.F,slices_AppendSeq_s_int_int_m0_M::slices_AppendSeq_s_int_int_C.mus,slices_AppendSeq_s_int_int_C.its⟩
theorem kgZ:Good Tryz.prog 134 kdJ:=(slices_AppendSeq_s_int_int_C_ok.more kgz)
def slices_Collect_int_m0_M:CtrM:=⟨ "",[none],⟨[(0,.fn 131 [.ptr 0 0])],[(0,.bx 31 [.c (.sl (.i .i64))])]⟩,1,⟨[(1000000,.mw 1)],[(1,.sl 3 (.i .i64))]⟩,2,1,fun x=>khF x,false⟩
theorem kjx:slices_Collect_int_m0_M.ok=true/\GoodM Tryz.prog 129 slices_Collect_int_m0_M:=
 kan Tryz.func129 (by kernel_rfl) (An:=[]) [(134,kdJ),(131,kaC)] (.cons kgZ <| .cons kaI <| .nil) (fun x=>by kernel_rfl)
def slices_Collect_int_C:Ctr:=⟨ "",[],[],fun _=>none,[],[]⟩
theorem slices_Collect_int_C_ok:Good Tryz.prog 129 slices_Collect_int_C:=good_dm
def kgV:Ctr:=⟨ "",slices_Collect_int_C.as,slices_Collect_int_C.rs,slices_Collect_int_C.F,slices_Collect_int_m0_M::slices_Collect_int_C.mus,slices_Collect_int_C.its⟩
theorem kjV:Good Tryz.prog 129 kgV:=(slices_Collect_int_C_ok.more kjx)
def slices_insertionSortOrdered_int_m0_M:CtrM:=⟨ "",[none,some (.i .i64),some (.i .i64)],⟨[(0,.mw 0)],[(0,.sl 3 (.i .i64))]⟩,1,⟨[(0,.mw 0)],[(0,.sl 3 (.i .i64))]⟩,1,0,fun x=>kcF x.1 x.2.1 x.2.2,false⟩
theorem kff:slices_insertionSortOrdered_int_m0_M.ok=true/\GoodM Tryz.prog 138 slices_insertionSortOrdered_int_m0_M:=
 kan Tryz.func138 (by kernel_rfl) (An:=[(0,⟨⟨[(6,.c (.i .i64))],[(0,.sl 3 (.i .i64))]⟩,⟨[],[(0,.sl 3 (.i .i64))]⟩,[2,1],[],2,false,""⟩),(8,⟨⟨[(7,.c (.i .i64))],[(0,.sl 3 (.i .i64))]⟩,⟨[],[(0,.sl 3 (.i .i64))]⟩,[6],[],2,false,""⟩)]) [(144,kbF)] (.cons kbs <| .nil) (fun x=>by kernel_rfl)
def slices_insertionSortOrdered_int_C:Ctr:=⟨ "",[],[],fun _=>none,[],[]⟩
theorem slices_insertionSortOrdered_int_C_ok:Good Tryz.prog 138 slices_insertionSortOrdered_int_C:=good_dm
def kcu:Ctr:=⟨ "",slices_insertionSortOrdered_int_C.as,slices_insertionSortOrdered_int_C.rs,slices_insertionSortOrdered_int_C.F,slices_insertionSortOrdered_int_m0_M::slices_insertionSortOrdered_int_C.mus,slices_insertionSortOrdered_int_C.its⟩
theorem kfl:Good Tryz.prog 138 kcu:=(slices_insertionSortOrdered_int_C_ok.more kff)
def slices_siftDownOrdered_int_m0_M:CtrM:=⟨ "",[none,some (.i .i64),some (.i .i64),some (.i .i64)],⟨[(0,.mw 0)],[(0,.sl 3 (.i .i64))]⟩,1,⟨[(0,.mw 0)],[(0,.sl 3 (.i .i64))]⟩,1,0,fun x=>kbV x.1 x.2.1 x.2.2.1 x.2.2.2,false⟩
theorem kgA:slices_siftDownOrdered_int_m0_M.ok=true/\GoodM Tryz.prog 149 slices_siftDownOrdered_int_m0_M:=
 kan Tryz.func149 (by kernel_rfl) (An:=[(0,⟨⟨[(8,.c (.i .i64))],[(0,.sl 3 (.i .i64))]⟩,⟨[],[(0,.sl 3 (.i .i64))]⟩,[2,3],[],2,true,""⟩),(14,⟨⟨[],[]⟩,⟨[(36,.c .b)],[]⟩,[9,8],[0],1,false,""⟩),(145,⟨⟨[],[]⟩,⟨[(9,.c (.i .i64))],[]⟩,[8],[0],1,false,""⟩)]) [(144,kbF)] (.cons kbs <| .nil) (fun x=>by kernel_rfl)
def slices_siftDownOrdered_int_C:Ctr:=⟨ "",[],[],fun _=>none,[],[]⟩
theorem slices_siftDownOrdered_int_C_ok:Good Tryz.prog 149 slices_siftDownOrdered_int_C:=good_dm
def kdN:Ctr:=⟨ "",slices_siftDownOrdered_int_C.as,slices_siftDownOrdered_int_C.rs,slices_siftDownOrdered_int_C.F,slices_siftDownOrdered_int_m0_M::slices_siftDownOrdered_int_C.mus,slices_siftDownOrdered_int_C.its⟩
theorem kgM:Good Tryz.prog 149 kdN:=(slices_siftDownOrdered_int_C_ok.more kgA)
def slices_heapSortOrdered_int_m0_M:CtrM:=⟨ "",[none,some (.i .i64),some (.i .i64)],⟨[(0,.mw 0)],[(0,.sl 3 (.i .i64))]⟩,1,⟨[(0,.mw 0)],[(0,.sl 3 (.i .i64))]⟩,1,0,fun x=>keb x.1 x.2.1 x.2.2,false⟩
theorem kgF:slices_heapSortOrdered_int_m0_M.ok=true/\GoodM Tryz.prog 139 slices_heapSortOrdered_int_m0_M:=
 kan Tryz.func139 (by kernel_rfl) (An:=[(0,⟨⟨[(9,.c (.i .i64))],[(0,.sl 3 (.i .i64))]⟩,⟨[],[(0,.sl 3 (.i .i64))]⟩,[8,6,7],[],2,false,""⟩),(8,⟨⟨[(10,.c (.i .i64))],[(0,.sl 3 (.i .i64))]⟩,⟨[],[(0,.sl 3 (.i .i64))]⟩,[6,7],[],3,false,""⟩)]) [(149,kdN)] (.cons kgM <| .nil) (fun x=>by kernel_rfl)
def slices_heapSortOrdered_int_C:Ctr:=⟨ "",[],[],fun _=>none,[],[]⟩
theorem slices_heapSortOrdered_int_C_ok:Good Tryz.prog 139 slices_heapSortOrdered_int_C:=good_dm
def kdE:Ctr:=⟨ "",slices_heapSortOrdered_int_C.as,slices_heapSortOrdered_int_C.rs,slices_heapSortOrdered_int_C.F,slices_heapSortOrdered_int_m0_M::slices_heapSortOrdered_int_C.mus,slices_heapSortOrdered_int_C.its⟩
theorem kgW:Good Tryz.prog 139 kdE:=(slices_heapSortOrdered_int_C_ok.more kgF)
def slices_breakPatternsOrdered_int_m0_M:CtrM:=⟨ "",[none,some (.i .i64),some (.i .i64)],⟨[(0,.mw 0)],[(0,.sl 3 (.i .i64))]⟩,1,⟨[(0,.mw 0)],[(0,.sl 3 (.i .i64))]⟩,1,0,fun x=>kcP x.1 x.2.1 x.2.2,false⟩
theorem kfc:slices_breakPatternsOrdered_int_m0_M.ok=true/\GoodM Tryz.prog 140 slices_breakPatternsOrdered_int_m0_M:=
 kan Tryz.func140 (by kernel_rfl) (An:=[(0,⟨⟨[(9,.c (.i .i64)),(7,.ptr 1 0)],[(1,.bx 202 [.c (.i .u64)]),(0,.sl 3 (.i .i64))]⟩,⟨[],[(0,.sl 3 (.i .i64))]⟩,[1,6,8],[],3,false,""⟩),(173,⟨⟨[],[]⟩,⟨[(10,.c (.i .i64))],[]⟩,[9,7],[0,1],2,false,""⟩)]) [(151,kgc),(150,kgv)] (.cons kjh <| .cons kjy <| .nil) (fun x=>by kernel_rfl)
def slices_breakPatternsOrdered_int_C:Ctr:=⟨ "",[],[],fun _=>none,[],[]⟩
theorem slices_breakPatternsOrdered_int_C_ok:Good Tryz.prog 140 slices_breakPatternsOrdered_int_C:=good_dm
def kct:Ctr:=⟨ "",slices_breakPatternsOrdered_int_C.as,slices_breakPatternsOrdered_int_C.rs,slices_breakPatternsOrdered_int_C.F,slices_breakPatternsOrdered_int_m0_M::slices_breakPatternsOrdered_int_C.mus,slices_breakPatternsOrdered_int_C.its⟩
theorem kft:Good Tryz.prog 140 kct:=(slices_breakPatternsOrdered_int_C_ok.more kfc)
def slices_reverseRangeOrdered_int_m0_M:CtrM:=⟨ "",[none,some (.i .i64),some (.i .i64)],⟨[(0,.mw 0)],[(0,.sl 3 (.i .i64))]⟩,1,⟨[(0,.mw 0)],[(0,.sl 3 (.i .i64))]⟩,1,0,fun x=>kcU x.1 x.2.1 x.2.2,false⟩
theorem kfp:slices_reverseRangeOrdered_int_m0_M.ok=true/\GoodM Tryz.prog 142 slices_reverseRangeOrdered_int_m0_M:=
 kan Tryz.func142 (by kernel_rfl) (An:=[(0,⟨⟨[(6,.c (.i .i64)),(7,.c (.i .i64))],[(0,.sl 3 (.i .i64))]⟩,⟨[],[(0,.sl 3 (.i .i64))]⟩,[],[],2,false,""⟩)]) [] (.nil) (fun x=>by kernel_rfl)
def slices_reverseRangeOrdered_int_C:Ctr:=⟨ "",[],[],fun _=>none,[],[]⟩
theorem slices_reverseRangeOrdered_int_C_ok:Good Tryz.prog 142 slices_reverseRangeOrdered_int_C:=good_dm
def kcD:Ctr:=⟨ "",slices_reverseRangeOrdered_int_C.as,slices_reverseRangeOrdered_int_C.rs,slices_reverseRangeOrdered_int_C.F,slices_reverseRangeOrdered_int_m0_M::slices_reverseRangeOrdered_int_C.mus,slices_reverseRangeOrdered_int_C.its⟩
theorem kfC:Good Tryz.prog 142 kcD:=(slices_reverseRangeOrdered_int_C_ok.more kfp)
def slices_partialInsertionSortOrdered_int_m0_M:CtrM:=⟨ "",[none,some (.i .i64),some (.i .i64)],⟨[(0,.mw 0)],[(0,.sl 3 (.i .i64))]⟩,1,⟨[(0,.mw 0),(1000000,.c .b)],[(0,.sl 3 (.i .i64))]⟩,1,1,fun x=>kbM x.1 x.2.1 x.2.2,false⟩
theorem kdx:slices_partialInsertionSortOrdered_int_m0_M.ok=true/\GoodM Tryz.prog 143 slices_partialInsertionSortOrdered_int_m0_M:=
 kan Tryz.func143 (by kernel_rfl) (An:=[(0,⟨⟨[(8,.c (.i .i64)),(7,.c (.i .i64))],[(0,.sl 3 (.i .i64))]⟩,⟨[],[(0,.sl 3 (.i .i64))]⟩,[2,1],[],2,true,""⟩),(8,⟨⟨[(7,.c (.i .i64))],[]⟩,⟨[(7,.c (.i .i64))],[]⟩,[8],[0],1,false,""⟩),(245,⟨⟨[],[(0,.sl 3 (.i .i64))]⟩,⟨[],[(0,.sl 3 (.i .i64))]⟩,[7,8],[],2,false,""⟩),(16,⟨⟨[(9,.c (.i .i64))],[(0,.sl 3 (.i .i64))]⟩,⟨[],[(0,.sl 3 (.i .i64))]⟩,[],[],2,false,""⟩),(24,⟨⟨[(10,.c (.i .i64))],[(0,.sl 3 (.i .i64))]⟩,⟨[],[(0,.sl 3 (.i .i64))]⟩,[8,7],[],3,false,""⟩)]) [(144,kbF)] (.cons kbs <| .nil) (fun x=>by kernel_rfl)
def slices_partialInsertionSortOrdered_int_C:Ctr:=⟨ "",[],[],fun _=>none,[],[]⟩
theorem slices_partialInsertionSortOrdered_int_C_ok:Good Tryz.prog 143 slices_partialInsertionSortOrdered_int_C:=good_dm
def kbI:Ctr:=⟨ "",slices_partialInsertionSortOrdered_int_C.as,slices_partialInsertionSortOrdered_int_C.rs,slices_partialInsertionSortOrdered_int_C.F,slices_partialInsertionSortOrdered_int_m0_M::slices_partialInsertionSortOrdered_int_C.mus,slices_partialInsertionSortOrdered_int_C.its⟩
theorem kdI:Good Tryz.prog 143 kbI:=(slices_partialInsertionSortOrdered_int_C_ok.more kdx)
def slices_partitionEqualOrdered_int_m0_M:CtrM:=⟨ "",[none,some (.i .i64),some (.i .i64),some (.i .i64)],⟨[(0,.mw 0)],[(0,.sl 3 (.i .i64))]⟩,1,⟨[(0,.mw 0),(1000000,.c (.i .i64))],[(0,.sl 3 (.i .i64))]⟩,1,1,fun x=>kcv x.1 x.2.1 x.2.2.1 x.2.2.2,false⟩
theorem keS:slices_partitionEqualOrdered_int_m0_M.ok=true/\GoodM Tryz.prog 145 slices_partitionEqualOrdered_int_m0_M:=
 kan Tryz.func145 (by kernel_rfl) (An:=[(0,⟨⟨[(9,.c (.i .i64)),(10,.c (.i .i64))],[(0,.sl 3 (.i .i64))]⟩,⟨[(9,.c (.i .i64))],[(0,.sl 3 (.i .i64))]⟩,[1],[],2,false,""⟩),(8,⟨⟨[(9,.c (.i .i64))],[]⟩,⟨[(9,.c (.i .i64))],[]⟩,[10],[0],1,false,""⟩),(16,⟨⟨[(10,.c (.i .i64))],[]⟩,⟨[(10,.c (.i .i64))],[]⟩,[9],[0],1,false,""⟩)]) [(144,kbF)] (.cons kbs <| .nil) (fun x=>by kernel_rfl)
def slices_partitionEqualOrdered_int_C:Ctr:=⟨ "",[],[],fun _=>none,[],[]⟩
theorem slices_partitionEqualOrdered_int_C_ok:Good Tryz.prog 145 slices_partitionEqualOrdered_int_C:=good_dm
def kco:Ctr:=⟨ "",slices_partitionEqualOrdered_int_C.as,slices_partitionEqualOrdered_int_C.rs,slices_partitionEqualOrdered_int_C.F,slices_partitionEqualOrdered_int_m0_M::slices_partitionEqualOrdered_int_C.mus,slices_partitionEqualOrdered_int_C.its⟩
theorem kfa:Good Tryz.prog 145 kco:=(slices_partitionEqualOrdered_int_C_ok.more keS)
def slices_partitionOrdered_int_m0_M:CtrM:=⟨ "",[none,some (.i .i64),some (.i .i64),some (.i .i64)],⟨[(0,.mw 0)],[(0,.sl 3 (.i .i64))]⟩,1,⟨[(0,.mw 0),(1000000,.c (.i .i64)),(1000001,.c .b)],[(0,.sl 3 (.i .i64))]⟩,1,2,fun x=>kdO x.1 x.2.1 x.2.2.1 x.2.2.2,false⟩
theorem kgq:slices_partitionOrdered_int_m0_M.ok=true/\GoodM Tryz.prog 146 slices_partitionOrdered_int_m0_M:=
 kan Tryz.func146 (by kernel_rfl) (An:=[(0,⟨⟨[(10,.c (.i .i64))],[]⟩,⟨[(10,.c (.i .i64))],[]⟩,[11,1],[0],1,false,""⟩),(8,⟨⟨[(11,.c (.i .i64))],[]⟩,⟨[(11,.c (.i .i64))],[]⟩,[10,1],[0],1,false,""⟩),(16,⟨⟨[(10,.c (.i .i64)),(11,.c (.i .i64))],[(0,.sl 3 (.i .i64))]⟩,⟨[(11,.c (.i .i64))],[(0,.sl 3 (.i .i64))]⟩,[1],[],2,false,""⟩),(24,⟨⟨[(10,.c (.i .i64))],[]⟩,⟨[(10,.c (.i .i64))],[]⟩,[11],[0],1,false,""⟩),(32,⟨⟨[(11,.c (.i .i64))],[]⟩,⟨[(11,.c (.i .i64))],[]⟩,[10],[0],1,false,""⟩)]) [(144,kbF)] (.cons kbs <| .nil) (fun x=>by kernel_rfl)
def slices_partitionOrdered_int_C:Ctr:=⟨ "",[],[],fun _=>none,[],[]⟩
theorem slices_partitionOrdered_int_C_ok:Good Tryz.prog 146 slices_partitionOrdered_int_C:=good_dm
def kdu:Ctr:=⟨ "",slices_partitionOrdered_int_C.as,slices_partitionOrdered_int_C.rs,slices_partitionOrdered_int_C.F,slices_partitionOrdered_int_m0_M::slices_partitionOrdered_int_C.mus,slices_partitionOrdered_int_C.its⟩
theorem kgC:Good Tryz.prog 146 kdu:=(slices_partitionOrdered_int_C_ok.more kgq)
def kbK (k:Nat):CtrM:=⟨ "",[none,some (.i .i64),some (.i .i64),some (.i .i64)],⟨[(0,.mw 0)],[(0,.sl 3 (.i .i64))]⟩,1,⟨[(0,.mw 0)],[(0,.sl 3 (.i .i64))]⟩,1,0,fun x=>kbQ k x.1 x.2.1 x.2.2.1 x.2.2.2,false⟩
theorem kdp:∀ k,(kbK k).ok=true/\GoodM Tryz.prog 135 (kbK k)
 | 0=>kjT (by kernel_rfl) (fun x=>rfl)
 | k+1=>kan Tryz.func135 (by kernel_rfl) (An:=[(0,⟨⟨[(2,.c (.i .i64)),(1,.c (.i .i64)),(3,.c (.i .i64)),(8,.c .b),(9,.c .b)],[(0,.sl 3 (.i .i64))]⟩,⟨[],[(0,.sl 3 (.i .i64))]⟩,[],[],1,true,""⟩),(141,⟨⟨[],[(0,.sl 3 (.i .i64))]⟩,⟨[(3,.c (.i .i64))],[(0,.sl 3 (.i .i64))]⟩,[1,2,8,9,10],[],2,false,""⟩),(201,⟨⟨[],[(0,.sl 3 (.i .i64))]⟩,⟨[(12,.c (.i .i64)),(11,.c (.i .i64))],[(0,.sl 3 (.i .i64))]⟩,[1,2,8,9,3,10],[],3,false,""⟩),(62,⟨⟨[],[]⟩,⟨[(68,.c .b)],[]⟩,[8,9,12,1,2,11,3,10],[0],3,false,""⟩),(273,⟨⟨[],[(0,.sl 3 (.i .i64))]⟩,⟨[],[(0,.sl 3 (.i .i64))]⟩,[1,2,11,3,8,9,10],[],4,true,""⟩),(70,⟨⟨[],[]⟩,⟨[(87,.c .b)],[]⟩,[1,11,2,3,8,9,10],[0],4,false,""⟩)]) ((135,⟨ "",[],[],fun _=>none,[kbK k],[]⟩)::[(146,kdu),(145,kco),(143,kbI),(142,kcD),(140,kct),(139,kdE),(138,kcu),(141,kds),(144,kbF)]) (.cons (good_dm.more (kdp k)) <| .cons kgC <| .cons kfa <| .cons kdI <| .cons kfC <| .cons kft <| .cons kgW <| .cons kfl <| .cons kgG <| .cons kbs <| .nil) (fun x=>by kernel_rfl)
def slices_pdqsortOrdered_int_m0_M:CtrM:=⟨ "",[none,some (.i .i64),some (.i .i64),some (.i .i64)],⟨[(0,.mw 0)],[(0,.sl 3 (.i .i64))]⟩,1,⟨[(0,.mw 0)],[(0,.sl 3 (.i .i64))]⟩,1,0,fun x=>kez x.1 x.2.1 x.2.2.1 x.2.2.2,false⟩
theorem khe:slices_pdqsortOrdered_int_m0_M.ok=true/\GoodM Tryz.prog 135 slices_pdqsortOrdered_int_m0_M:=kdp 1000000
def slices_pdqsortOrdered_int_C:Ctr:=⟨ "",[],[],fun _=>none,[],[]⟩
theorem slices_pdqsortOrdered_int_C_ok:Good Tryz.prog 135 slices_pdqsortOrdered_int_C:=good_dm
def kec:Ctr:=⟨ "",slices_pdqsortOrdered_int_C.as,slices_pdqsortOrdered_int_C.rs,slices_pdqsortOrdered_int_C.F,slices_pdqsortOrdered_int_m0_M::slices_pdqsortOrdered_int_C.mus,slices_pdqsortOrdered_int_C.its⟩
theorem kho:Good Tryz.prog 135 kec:=(slices_pdqsortOrdered_int_C_ok.more khe)
def slices_Sort_s_int_int_m0_M:CtrM:=⟨ "",[none],⟨[(0,.mw 0)],[(0,.sl 3 (.i .i64))]⟩,1,⟨[(0,.mw 0)],[(0,.sl 3 (.i .i64))]⟩,1,0,fun x=>kfV x,false⟩
theorem kiv:slices_Sort_s_int_int_m0_M.ok=true/\GoodM Tryz.prog 130 slices_Sort_s_int_int_m0_M:=
 kan Tryz.func130 (by kernel_rfl) (An:=[]) [(135,kec),(136,kid)] (.cons kho <| .cons kju <| .nil) (fun x=>by kernel_rfl)
def slices_Sort_s_int_int_C:Ctr:=⟨ "",[],[],fun _=>none,[],[]⟩
theorem slices_Sort_s_int_int_C_ok:Good Tryz.prog 130 slices_Sort_s_int_int_C:=good_dm
def kfw:Ctr:=⟨ "",slices_Sort_s_int_int_C.as,slices_Sort_s_int_int_C.rs,slices_Sort_s_int_int_C.F,slices_Sort_s_int_int_m0_M::slices_Sort_s_int_int_C.mus,slices_Sort_s_int_int_C.its⟩
theorem kiI:Good Tryz.prog 130 kfw:=(slices_Sort_s_int_int_C_ok.more kiv)
def slices_Sorted_int_m0_M:CtrM:=⟨ "",[none],⟨[(0,.fn 131 [.ptr 0 0])],[(0,.bx 31 [.c (.sl (.i .i64))])]⟩,1,⟨[(1000000,.mw 1)],[(1,.sl 3 (.i .i64))]⟩,2,1,fun x=>khT x,false⟩
theorem kjW:slices_Sorted_int_m0_M.ok=true/\GoodM Tryz.prog 117 slices_Sorted_int_m0_M:=
 kan Tryz.func117 (by kernel_rfl) (An:=[]) [(130,kfw),(129,kgV),(131,kaC)] (.cons kiI <| .cons kjV <| .cons kaI <| .nil) (fun x=>by kernel_rfl)
def slices_Sorted_int_C:Ctr:=⟨ "",[],[],fun _=>none,[],[]⟩
theorem slices_Sorted_int_C_ok:Good Tryz.prog 117 slices_Sorted_int_C:=good_dm
def khD:Ctr:=⟨ "",slices_Sorted_int_C.as,slices_Sorted_int_C.rs,slices_Sorted_int_C.F,slices_Sorted_int_m0_M::slices_Sorted_int_C.mus,slices_Sorted_int_C.its⟩
theorem kkx:Good Tryz.prog 117 khD:=(slices_Sorted_int_C_ok.more kjW)
def krd:Ctr:=⟨ "",[(.sl (.i .i64)),(.i .i64)],[.b],fun x=>kud x.1 x.2,[],[]⟩
theorem ksZ:Good Tryz.prog 88 krd:=
 kad Tryz.func88 (by kernel_rfl) (An:=[(0,⟨⟨[(11,.c (.i .i64))],[]⟩,⟨[],[]⟩,[10,9,0,1],[1],2,true,""⟩)]) [(117,khD),(118,keK),(131,kaC)] (.cons kkx <| .cons khO <| .cons kaI <| .nil) (fun x=>by kernel_rfl)
def kkr:Ctr:=⟨ "",[(.sl (.i .i64)),(.pt (.i .i64))],[.b],fun x=>klJ x.1 x.2,[],[]⟩
theorem kng:Good Tryz.prog 115 kkr:=
 kad Tryz.func115 (by kernel_rfl) (An:=[]) [(88,krd)] (.cons ksZ <| .nil) (fun x=>by kernel_rfl)
def kdn:Ctr:=⟨ "",[(.sl (.sl (.i .i64))),(.fn 1 (.sl (.i .i64)) .b)],[(.i .i64)],fun x=>kdG x.1 x.2,[],[]⟩
theorem kgt:Good Tryz.prog 126 kdn:=
 kad Tryz.func126 (by kernel_rfl) (An:=[(0,⟨⟨[(8,.c (.i .i64))],[]⟩,⟨[],[]⟩,[7,1,0],[],0,true,""⟩)]) [] (.nil) (fun x=>by kernel_rfl)
def kcr:Ctr:=⟨ "",[(.sl (.sl (.i .i64))),(.fn 1 (.sl (.i .i64)) .b)],[.b],fun x=>kcW x.1 x.2,[],[]⟩
theorem kfu:Good Tryz.prog 114 kcr:=
 kad Tryz.func114 (by kernel_rfl) (An:=[]) [(126,kdn)] (.cons kgt <| .nil) (fun x=>by kernel_rfl)
def kmZ:Ctr:=⟨ "",[(.sl (.sl (.i .i64)))],[.b],fun x=>koX x,[],[]⟩
theorem kql:Good Tryz.prog 83 kmZ:=
 kad Tryz.func83 (by kernel_rfl) (An:=[]) [(114,kcr),(115,kkr),(66,kgm)] (.cons kfu <| .cons kng <| .cons keW <| .nil) (fun x=>by kernel_rfl)
def kjJ:Ctr:=⟨ "",[(.i .u32),(.i .u32)],[(.i .u32),(.i .u32)],fun x=>kqv x.1 x.2,[],[]⟩
theorem kmp:Good Tryz.prog 127 kjJ:=
 kad Tryz.func127 (by kernel_rfl) (An:=[]) [] (.nil) (fun x=>by kernel_rfl)
def kjD:Ctr:=⟨ "",[(.i .u64),(.i .u64)],[(.i .u64),(.i .u64)],fun x=>kkQ x.1 x.2,[],[]⟩
theorem kmo:Good Tryz.prog 128 kjD:=
 kad Tryz.func128 (by kernel_rfl) (An:=[]) [] (.nil) (fun x=>by kernel_rfl)
def kkO:Ctr:=⟨ "",[(.i .u64),(.i .u64)],[(.i .u64),(.i .u64)],fun x=>knc x.1 x.2,[],[]⟩
theorem koa:Good Tryz.prog 116 kkO:=
 kad Tryz.func116 (by kernel_rfl) (An:=[]) [(128,kjD),(127,kjJ)] (.cons kmo <| .cons kmp <| .nil) (fun x=>by kernel_rfl)
def kjH:Ctr:=⟨ "",[(.i .i64),(.pt (.sl (.i .i64)))],[.b],fun x=>kkU x.1 x.2,[],[]⟩
theorem klW:Good Tryz.prog 87 kjH:=
 kad Tryz.func87 (by kernel_rfl) (An:=[]) [] (.nil) (fun x=>by kernel_rfl)
def klB:Ctr:=⟨ "",[(.i .i64),(.pt (.sl (.sl (.i .i64)))),(.pt (.sl (.i .i64)))],[(.i .i64)],fun x=>kfQ x.1 x.2.1 x.2.2,[],[]⟩
theorem koC:Good Tryz.prog 85 klB:=
 kad Tryz.func85 (by kernel_rfl) (An:=[]) [(87,kjH),(86,kch)] (.cons klW <| .cons kdv <| .nil) (fun x=>by kernel_rfl)
def slices_Repeat_s_int_int_m0_M:CtrM:=⟨ "",[some (.sl (.i .i64)),some (.i .i64)],⟨[],[]⟩,0,⟨[(1000000,.mw 0)],[(0,.sl 3 (.i .i64))]⟩,1,1,fun x=>keZ x.1 x.2,false⟩
theorem khM:slices_Repeat_s_int_int_m0_M.ok=true/\GoodM Tryz.prog 84 slices_Repeat_s_int_int_m0_M:=
 kan Tryz.func84 (by kernel_rfl) (An:=[(41,⟨⟨[],[]⟩,⟨[],[]⟩,[0,1],[],1,false,""⟩),(18,⟨⟨[],[]⟩,⟨[(26,.c .b)],[]⟩,[5,6,0],[],1,false,""⟩),(105,⟨⟨[],[]⟩,⟨[],[]⟩,[6,0],[],1,false,""⟩),(0,⟨⟨[(8,.c (.i .i64)),(7,.mw 1)],[(1,.sl 3 (.i .i64))]⟩,⟨[(7,.mw 2)],[(2,.sl 3 (.i .i64))]⟩,[],[],3,false,""⟩)]) [(116,kkO)] (.cons koa <| .nil) (fun x=>by kernel_rfl)
def slices_Repeat_s_int_int_B32:Ctr:=⟨ "",[],[],fun _=>none,[],[]⟩
theorem slices_Repeat_s_int_int_B32_ok:Good Tryz.prog 84 slices_Repeat_s_int_int_B32:=good_dm
def keJ:Ctr:=⟨ "",slices_Repeat_s_int_int_B32.as,slices_Repeat_s_int_int_B32.rs,slices_Repeat_s_int_int_B32.F,slices_Repeat_s_int_int_m0_M::slices_Repeat_s_int_int_B32.mus,slices_Repeat_s_int_int_B32.its⟩
theorem khR:Good Tryz.prog 84 keJ:=(slices_Repeat_s_int_int_B32_ok.more khM)
def koY:Ctr:=⟨ "",[(.sl (.sl (.i .i64)))],[(.sl (.i .i64)),(.i .i64)],fun x=>ksw x,[],[]⟩
theorem krF:Good Tryz.prog 35 koY:=
 kad Tryz.func35 (by kernel_rfl) (An:=[(0,⟨⟨[(25,.c (.i .i64)),(4,.ptr 5 0),(5,.fn 85 [.ptr 0 0,.ptr 5 0])],[(5,.bx 31 [.mw 3]),(3,.sl 3 (.i .i64))]⟩,⟨[(4,.ptr 6 0)],[(6,.bx 31 [.mw 7]),(7,.sl 3 (.i .i64))]⟩,[24,1],[0],8,false,""⟩),(8,⟨⟨[(4,.ptr 5 0),(5,.fn 85 [.ptr 0 0,.ptr 5 0])],[(5,.bx 31 [.mw 3]),(3,.sl 3 (.i .i64))]⟩,⟨[(4,.ptr 6 0),(5,.fn 85 [.ptr 0 0,.ptr 6 0])],[(6,.bx 31 [.mw 7]),(7,.sl 3 (.i .i64))]⟩,[6,25],[],8,false,""⟩),(16,⟨⟨[(36,.c (.i .i64)),(7,.c (.i .i64))],[]⟩,⟨[(7,.c (.i .i64))],[]⟩,[35,5,4],[5,3],6,false,""⟩),(24,⟨⟨[(9,.c (.i .i64)),(8,.mw 6)],[(6,.sl 3 (.i .i64))]⟩,⟨[(8,.mw 7)],[(7,.sl 3 (.i .i64))]⟩,[7,5,4],[5,3],8,false,""⟩),(32,⟨⟨[(59,.c (.i .i64)),(10,.mw 8)],[(8,.sl 3 (.i .i64))]⟩,⟨[(10,.mw 9)],[(9,.sl 3 (.i .i64))]⟩,[58,57,5,8,4],[7,5,3],10,false,""⟩),(40,⟨⟨[(72,.c (.i .i64)),(4,.ptr 5 0),(5,.fn 85 [.ptr 0 0,.ptr 5 0])],[(5,.bx 31 [.mw 3]),(3,.sl 3 (.i .i64))]⟩,⟨[(4,.ptr 10 0),(5,.fn 85 [.ptr 0 0,.ptr 10 0])],[(10,.bx 31 [.mw 11]),(11,.sl 3 (.i .i64))]⟩,[71,70,10],[7,9],12,false,""⟩)]) [(84,keJ),(85,klB),(83,kmZ)] (.cons khR <| .cons koC <| .cons kql <| .nil) (fun x=>by kernel_rfl)
def kjF:Ctr:=⟨ "",[(.sl (.pr (.i .i64) (.pr (.i .u8) (.i .i64)))),(.sl (.pr (.i .i64) (.pr (.i .u8) (.i .i64))))],[.b],fun x=>kkR x.1 x.2,[],[]⟩
theorem kmC:Good Tryz.prog 16 kjF:=
 kad Tryz.func16 (by kernel_rfl) (An:=[(0,⟨⟨[(5,.c (.i .i64))],[]⟩,⟨[],[]⟩,[0,1],[],0,true,""⟩)]) [] (.nil) (fun x=>by kernel_rfl)
def kkh:Ctr:=⟨ "",[(.sl (.i .i64)),(.sl (.i .i64))],[.b],fun x=>keE x.1 x.2,[],[]⟩
theorem knl:Good Tryz.prog 41 kkh:=
 kad Tryz.func41 (by kernel_rfl) (An:=[(0,⟨⟨[(5,.c (.i .i64))],[]⟩,⟨[],[]⟩,[0,1],[],0,true,""⟩)]) [] (.nil) (fun x=>by kernel_rfl)
def klG:Ctr:=⟨ "",[],[.b],fun x=>kod,[],[]⟩
theorem koG:Good Tryz.prog 13 klG:=
 kad Tryz.func13 (by kernel_rfl) (An:=[]) [(8000013,kba),(8000017,kba),(8000019,kba),(8000036,kba),(8000042,kba),(8000044,kba),(8000049,kba),(8000050,kba),(8000051,kba),(8000052,kba),(8000062,kba),(8000078,kba),(8000089,kba),(8000103,kba),(8000123,kba),(41,kkh),(16,kjF),(35,koY),(28,koj),(46,knb),(23,ksp),(19,kmA),(45,knH),(44,klC),(15,ksD),(43,kij)] (.cons kaw <| .cons kaw <| .cons kaw <| .cons kaw <| .cons kaw <| .cons kaw <| .cons kaw <| .cons kaw <| .cons kaw <| .cons kaw <| .cons kaw <| .cons kaw <| .cons kaw <| .cons kaw <| .cons kaw <| .cons knl <| .cons kmC <| .cons krF <| .cons kqq <| .cons kpT <| .cons kvg <| .cons kmO <| .cons kqL <| .cons koO <| .cons kuO <| .cons kif <| .nil) (fun x=>by kernel_rfl)
def knd:Ctr:=⟨ "",[],[.b],fun x=>law08_alive,[],[]⟩
theorem kqo:Good Tryz.prog 13 knd:=by
 have h:=koG
 unfold klG at h
 rw [kyZ] at h
 exact h
def kgi:Ctr:=⟨ "",[(.i .i64),(.i .i64),(.i .i64)],[.b],fun x=>ket x.1 x.2.1 x.2.2,[],[]⟩
theorem kgE:Good Tryz.prog 63 kgi:=
 kad Tryz.func63 (by kernel_rfl) (An:=[]) [] (.nil) (fun x=>by kernel_rfl)
def knN:Ctr:=⟨ "",[(.sl (.pr (.i .i64) (.pr (.i .u8) (.i .i64))))],[.b],fun x=>khS x,[],[]⟩
theorem kqF:Good Tryz.prog 49 knN:=
 kad Tryz.func49 (by kernel_rfl) (An:=[(0,⟨⟨[(4,.c (.i .i64)),(3,.c (.i .i64))],[]⟩,⟨[(3,.c (.i .i64))],[]⟩,[0],[],0,false,""⟩)]) [(63,kgi)] (.cons kgE <| .nil) (fun x=>by kernel_rfl)
def knU:Ctr:=⟨ "",[(.sl (.sl (.pr (.i .i64) (.pr (.i .u8) (.i .i64)))))],[.b],fun x=>kjO x,[],[]⟩
theorem kqA:Good Tryz.prog 14 knU:=
 kad Tryz.func14 (by kernel_rfl) (An:=[(0,⟨⟨[(7,.c (.i .i64))],[]⟩,⟨[],[]⟩,[6,5],[],0,true,""⟩)]) [(49,knN)] (.cons kqF <| .nil) (fun x=>by kernel_rfl)
def kiM:Ctr:=⟨ "",[(.i .i64),(.i .u8)],[.b],fun x=>kdm x.1 x.2,[],[]⟩
theorem kjL:Good Tryz.prog 62 kiM:=
 kad Tryz.func62 (by kernel_rfl) (An:=[]) [(63,kgi)] (.cons kgE <| .nil) (fun x=>by kernel_rfl)
def klQ:Ctr:=⟨ "",[(.i .i64),(.i .u8),(.i .i64),(.i .u8)],[.b],fun x=>kfP x.1 x.2.1 x.2.2.1 x.2.2.2,[],[]⟩
theorem koA:Good Tryz.prog 64 klQ:=
 kad Tryz.func64 (by kernel_rfl) (An:=[]) [] (.nil) (fun x=>by kernel_rfl)
def kmI:Ctr:=⟨ "",[(.sl (.pr (.i .i64) (.pr (.i .u8) (.i .i64))))],[.b],fun x=>kgR x,[],[]⟩
theorem kqj:Good Tryz.prog 56 kmI:=
 kad Tryz.func56 (by kernel_rfl) (An:=[(0,⟨⟨[(3,.c (.i .i64))],[]⟩,⟨[],[]⟩,[0],[],0,true,""⟩)]) [(64,klQ),(62,kiM),(63,kgi)] (.cons koA <| .cons kjL <| .cons kgE <| .nil) (fun x=>by kernel_rfl)
def kmM:Ctr:=⟨ "",[(.sl tSwap)],[.b],fun x=>kfj x,[],[]⟩
theorem kpX:Good Tryz.prog 57 kmM:=
 kad Tryz.func57 (by kernel_rfl) (An:=[(0,⟨⟨[(3,.c (.i .i64))],[]⟩,⟨[],[]⟩,[0],[],0,true,""⟩)]) [(62,kiM)] (.cons kjL <| .nil) (fun x=>by kernel_rfl)
def kmS:Ctr:=⟨ "",[(.sl (.pr (.i .i64) (.pr (.i .u8) (.i .i64)))),(.sl (.pr (.i .i64) (.pr (.i .u8) (.i .i64)))),(.sl tSwap)],[.b],fun x=>kiW x.1 x.2.1 x.2.2,[],[]⟩
theorem kpR:Good Tryz.prog 18 kmS:=
 kad Tryz.func18 (by kernel_rfl) (An:=[]) [(57,kmM),(56,kmI),(14,knU)] (.cons kpX <| .cons kqj <| .cons kqA <| .nil) (fun x=>by kernel_rfl)
def kpn:Ctr:=⟨ "",[(.sl tSwap),(.i .i64),(.i .u8),(.i .i64),(.i .u8)],[.b],fun x=>kjd x.1 x.2.1 x.2.2.1 x.2.2.2.1 x.2.2.2.2,[],[]⟩
theorem krK:Good Tryz.prog 61 kpn:=
 kad Tryz.func61 (by kernel_rfl) (An:=[(6,⟨⟨[],[]⟩,⟨[(19,.c .b)],[]⟩,[1,3,2,4,0],[],0,false,""⟩),(0,⟨⟨[(11,.c (.i .i64))],[]⟩,⟨[],[]⟩,[0,1,2,3,4],[],0,true,""⟩)]) [] (.nil) (fun x=>by kernel_rfl)
def kmX:Ctr:=⟨ "",[(.sl (.pr (.i .i64) (.pr (.i .u8) (.i .i64)))),(.sl (.pr (.i .i64) (.pr (.i .u8) (.i .i64)))),(.sl tSwap),(.sl (.i .i64))],[(.i .i64),.b],fun x=>kiT x.1 x.2.1 x.2.2.1 x.2.2.2,[],[]⟩
theorem kpB:Good Tryz.prog 20 kmX:=
 kad Tryz.func20 (by kernel_rfl) (An:=[(0,⟨⟨[(20,.c (.i .i64)),(10,.c (.i .i64))],[]⟩,⟨[(10,.c (.i .i64))],[]⟩,[19,18,1,0,3,2],[],0,true,""⟩),(8,⟨⟨[(42,.c (.i .i64)),(10,.c (.i .i64))],[]⟩,⟨[(10,.c (.i .i64))],[]⟩,[41,40,3,2,1],[],0,false,""⟩),(16,⟨⟨[(48,.c (.i .i64)),(15,.c .b)],[]⟩,⟨[(15,.c .b)],[]⟩,[47,46,14,10,42],[0],1,false,""⟩)]) [(61,kpn)] (.cons krK <| .nil) (fun x=>by kernel_rfl)
def kpa:Ctr:=⟨ "",[(.sl (.pr (.i .i64) (.pr (.i .u8) (.i .i64))))],[(.i .i64)],fun x=>kjj x,[],[]⟩
theorem krX:Good Tryz.prog 21 kpa:=
 kad Tryz.func21 (by kernel_rfl) (An:=[(0,⟨⟨[(8,.c (.i .i64)),(3,.c (.i .i64))],[]⟩,⟨[(3,.c (.i .i64))],[]⟩,[7,6],[],0,false,""⟩)]) [] (.nil) (fun x=>by kernel_rfl)
def kpP:Ctr:=⟨ "",[(.sl (.pr (.i .i64) (.pr (.i .u8) (.i .i64)))),(.sl (.pr (.i .i64) (.pr (.i .u8) (.i .i64)))),(.sl tSwap)],[.b],fun x=>kiK x.1 x.2.1 x.2.2,[],[]⟩
theorem law08_BoxShort_C_ok:Good Tryz.prog 4 kpP:=
 kad Tryz.func4 (by kernel_rfl) (An:=[(0,⟨⟨[(45,.c (.i .i64))],[]⟩,⟨[],[]⟩,[44,1,0,2,8,7],[1],2,true,""⟩),(8,⟨⟨[(50,.c (.i .i64)),(11,.mw 2)],[(2,.sl 3 (.i .i64))]⟩,⟨[(11,.mw 3)],[(3,.sl 3 (.i .i64))]⟩,[49,10,45],[],4,false,""⟩),(16,⟨⟨[(88,.c (.i .i64))],[]⟩,⟨[],[]⟩,[87,86,10,45],[],4,true,""⟩)]) [(21,kpa),(20,kmX),(18,kmS),(13,knd),(19,kmA)] (.cons krX <| .cons kpB <| .cons kpR <| .cons kqo <| .cons kmO <| .nil) (fun x=>by kernel_rfl)
end Go.Abs
namespace Go.Abs
open Go
abbrev It:=Int×Int×Int
def vP (x:It):Bool:=decide (0<=x.1)&&decide (x.1<=15)&&decide (x.2.1<=15)
def ltI (x y:It):Bool:=decide (x.1<y.1)||(x.1==y.1&&decide (x.2.1<y.2.1))
def okN (x:It):Bool:=decide (1<=x.2.2)&&decide (x.2.2<=1000)
def badI (l:List It) (i:Nat) (x:It):Bool:=!vP x||(decide (0<i)&&!ltI ((l[i-1]?).getD x) x)
def ordI (a b:Int×Int):Int:=if a.1<b.1 then -1 else if b.1<a.1 then 1 else if a.2<b.2 then -1 else if b.2<a.2 then 1 else 0
def stk (l:List It):Bool:=decide (l.length<=30)&&!(l.zipIdx.any fun x=>badI l x.2 x.1)&&l.all okN
@[simp] theorem khX (n lo hi:Int):ket n lo hi=some (decide (lo<=n)&&decide (n<=hi)):=by
 unfold ket; by_cases h:lo<=n <;> simp [h]
@[simp] theorem kAn (lo hi n:Int):kfR lo hi n=some (decide (lo<=n)&&decide (n<=hi)):=by
 unfold kfR; by_cases h:lo<=n <;> simp [h]
@[simp] theorem kjK (x:It):kbJ (x.1,x.2.1)=some (vP x):=by
 unfold kbJ vP
 by_cases h1:0<=x.1 <;> by_cases h2:x.1<=15 <;> simp [h1,h2]
@[simp] theorem kkY (x:It):kdm x.1 x.2.1=some (vP x):=by
 unfold kdm vP
 by_cases h1:0<=x.1 <;> by_cases h2:x.1<=15 <;> simp [h1,h2]
@[simp] theorem krg (x y:It):kfP x.1 x.2.1 y.1 y.2.1=some (ltI x y):=by
 unfold kfP ltI
 by_cases h1:x.1<y.1
 ·simp [h1]
 ·by_cases h2:x.1=y.1 <;> simp [h1,h2]
def cmpI (a b:Int):Int:=if a<b then -1 else if b<a then 1 else 0
@[simp] theorem kwR (a b:Int):kcs a b=some (cmpI a b):=by
 unfold kcs kdD cmpI
 by_cases h1:a<b <;> by_cases h2:b<a <;> simp [h1,h2]
@[simp] theorem kxw (a b:Int):kek a b=some (cmpI a b):=by
 unfold kek kfv cmpI
 by_cases h1:a<b <;> by_cases h2:b<a <;> simp [h1,h2]
@[simp] theorem kya (a b:Int):kiq [a,b]=some (if a≠0 then a else b):=by
 unfold kiq
 rw [keO (F:=khh [a,b]) [a,b] (by simp) (fun i x=>if x != 0 then some x else none) (fun i hi=>by
  unfold khh
  have h2:i<2:=by simpa using hi
  rw [if_pos (by rw [kal]; simp; omega),kaz hi,kar (by omega)]
  simp only [jaj]
  by_cases h:([a,b][i] != 0)=true <;> simp [h,nextL]) (by unfold khh; rw [if_neg (by simp [kal])])]
 simp only [jbi,List.zipIdx_nil,jdn,List.findSome?_nil]
 by_cases ha:a=0
 ·by_cases hb:b=0 <;> simp [ha,hb,endL]
 ·simp [ha,endL]
theorem kvh (a b:Int×Int):kga a b=some (ordI a b):=by
 unfold kga ordI
 simp only [kwR,kxw,jaj,kya,cmpI]
 by_cases h1:a.1<b.1
 ·simp [h1]
 ·by_cases h2:b.1<a.1 <;> simp [h1,h2]
theorem kzM (x y:It):decide (0<=ordI (x.1,x.2.1) (y.1,y.2.1)) = !ltI x y:=by
 unfold ordI ltI
 by_cases h1:x.1<y.1
 ·simp [h1]
 ·by_cases h2:y.1<x.1
  ·simp [h1,h2]; omega
  ·have h3:x.1=y.1:=by omega
   by_cases h4:x.2.1<y.2.1
   ·simp [h1,h2,h3,h4]
   ·by_cases h5:y.2.1<x.2.1 <;> simp [h1,h2,h3,h4,h5]
theorem kzX {α:Type} (p q:α->Bool) (l:List α):(l.any fun x=>p x||q x)=(l.any p||l.any q):=by
 induction l with
 | nil=>rfl
 | cons x l ih=>simp only [jdv,ih]; cases p x <;> cases q x <;> simp
theorem kvS {α:Type} (q:α->Bool):∀ (l:List α) (k:Nat),((l.zipIdx k).any fun x=>q x.1)=l.any q
 | [],k=>rfl
 | x::l,k=>by rw [jbi,jdv,jdv,kvS q l (k+1)]
theorem ksx {l:List It} {i:Nat} (hi:i<l.length) (x:It):(l[i-1]?).getD x=l[i-1]:=by rw [jae (by omega)]; rfl
theorem krH (l:List It) (hl:l.length<=1000):kcQ l 30 (fun u=>(kbn u).bind fun v=>some v)=some (!(l.zipIdx.any fun x=>badI l x.2 x.1)&&decide (l.length<=30)):=by
 unfold kcQ
 rw [kjt (F:=kbW l _) false l (by omega) (badI l) (fun i hi=>?_) (by unfold kbW; rw [if_neg (by simp [kal])])]
 ·by_cases h:(l.zipIdx.any fun x=>badI l x.2 x.1)=true
  rotate_left
  ·rw [jcb] at h
   simp only [h,jai,if_false,jaj,jdy,Bool.true_and,kal]
   congr 2; simp only [eq_iff_iff]; omega
  ·simp [h]
 ·unfold kbW
  rw [if_pos (by rw [kal]; simpa using hi),kaz hi,kar (by omega)]
  simp only [jaj,kbn,kjK,badI]
  by_cases hv:vP l[i]=true
  rotate_left
  ·rw [jcb] at hv; simp [hv]
  ·simp only [hv,Bool.not_true,jai,if_false,jcq]
   by_cases h0:0<i
   ·rw [if_pos (by simpa using h0),ksj h0 (by omega),kaz (by omega)]
    simp only [jaj,kvh,kzM,ksx hi,h0,decide_true,Bool.true_and]
    by_cases h9:ltI l[i-1] l[i]=true <;> simp [h9]
   ·have:i=0:=by omega
    subst this; simp
theorem kvY {α:Type} (p:α->Bool) (l:List α):(l.any fun x=>!p x) = !l.all p:=by
 induction l with
 | nil=>rfl
 | cons x l ih=>simp only [jdv,jdx,ih,Bool.not_and]
theorem kvt (l:List It) (hl:l.length<=1000) (p:It->Bool):kas l (fun x=>some (p x))=some (l.any p):=by
 unfold kas kbg
 rw [keO (F:=kaD l _) l (by omega) (fun i x=>if p x then some (i:Int) else none) (fun i hi=>by
  unfold kaD
  rw [if_pos (by rw [kal]; simpa using hi),kaz hi,kar (by omega)]
  simp only [jaj]
  by_cases h:p l[i]=true <;> simp [h,nextL]) (by unfold kaD; rw [if_neg (by simp [kal])])]
 have:∀ (l:List It) (k:Nat),endL ((l.zipIdx k).findSome? fun x=>if p x.1 then some (x.2:Int) else none)=(if l.any p then .inl ((k:Int)+(l.findIdx p:Nat)) else .inr ()):=by
  intro l
  induction l with
  | nil=>intro k; rfl
  | cons x l ih=>
   intro k
   rw [jbi,jdn,jdv,List.findIdx_cons]
   cases hp:p x with
   | true=>simp [endL]
   | false=>
    simp only [jai,if_false,jcq,cond_false]
    rw [ih (k+1)]
    congr 2; push_cast; omega
 rw [this l 0]
 by_cases h:l.any p=true <;> simp [h]
theorem kty (l:List It) (hl:l.length<=1000):kjl l=some (if stk l then 0 else 8):=by
 unfold kjl
 rw [krH l hl]
 have e:(fun u0:It=>(kic u0).bind fun u1=>some u1)=fun u=>some (!okN u):=by
  funext u; simp [kic,okN]
 rw [e,kvt l hl,kvY]
 simp only [jaj,stk]
 by_cases h1:(l.zipIdx.any fun x=>badI l x.2 x.1)=true <;> by_cases h2:l.length<=30 <;> by_cases h3:l.all okN=true <;> (try rw [jcb] at h1) <;> (try rw [jcb] at h3) <;> simp only [h1,h2,h3] <;> rfl
theorem krL (l:List It):kgR l=some (stk l):=by
 unfold kgR stk
 rw [kal]
 by_cases hl:(30:Int)<l.length
 ·rw [if_pos (by simpa using hl)]
  have:¬ l.length<=30:=by omega
  simp [this]
 ·rw [if_neg (by simpa using hl)]
  have h30:l.length<=30:=by omega
  rw [kjt (F:=kgj l) false l (by omega) (fun i x=>badI l i x||!okN x) (fun i hi=>?_) (by unfold kgj; rw [if_neg (by simp [kal])])]
  ·rw [kzX (fun x:It×Nat=>badI l x.2 x.1) (fun x=>!okN x.1),kvS (fun x=>!okN x),kvY]
   by_cases h1:(l.zipIdx.any fun x=>badI l x.2 x.1)=true <;> by_cases h2:l.all okN=true <;> simp [h30,h1,h2]
  ·unfold kgj
   rw [if_pos (by rw [kal]; simpa using hi),kaz hi,kar (by omega)]
   simp only [jaj,kkY,badI,khX]
   rw [show (decide (1<=l[i].2.2)&&decide (l[i].2.2<=1000))=okN l[i] from rfl]
   by_cases hv:vP l[i]=true
   rotate_left
   ·rw [jcb] at hv; simp [hv]
   ·by_cases hn:okN l[i]=true
    rotate_left
    ·rw [jcb] at hn; simp [hv,hn]
    ·simp only [hv,hn,Bool.not_true,jai,if_false,jcq,Bool.or_false]
     by_cases h0:0<i
     ·rw [if_pos (by simpa using h0),ksj h0 (by omega),kaz (by omega)]
      simp only [jaj,ksx hi,h0,decide_true,Bool.true_and]
      rw [show kfP l[i-1].1 l[i-1].2.1 l[i].1 l[i].2.1=_ from krg l[i-1] l[i]]
      simp only [jaj]
      by_cases h9:ltI l[i-1] l[i]=true <;> simp [h9]
     ·have:i=0:=by omega
      subst this; simp
end Go.Abs
