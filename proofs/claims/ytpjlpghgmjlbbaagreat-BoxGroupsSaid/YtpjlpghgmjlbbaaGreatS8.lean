/- The functions and the law, part 8. -/
import Derived.Test.YtpjlpghgmjlbbaaGreatProg
import Derived.Test.YtpjlpghgmjlbbaaGreatZ3
import Derived.Test.YtpjlpghgmjlbbaaGreatZ6
set_option linter.constructorNameAsVariable false
set_option linter.unusedVariables false
set_option linter.unusedSimpArgs false
set_option linter.unusedSectionVars false
namespace Go.Abs
open Go
@[reducible] def kvG:Ty:=(.pr (.i .i64) (.sl (.i .i64)))
abbrev kaj:=(Int×(List Int))
@[reducible] def tBill:Ty:=(.pr (.sl (.i .i64)) (.pr (.sl (.pr (.i .i64) (.pr (.i .u8) (.i .i64)))) (.i .i64)))
abbrev Bill:=((List Int)×(List (Int×Int×Int))×Int)
@[reducible] def kyq:Ty:=(.pr (.sl (.i .i64)) (.pr (.i .i64) (.sl (.pr (.i .i64) (.pr (.i .u8) (.i .i64))))))
abbrev knJ:=((List Int)×Int×(List (Int×Int×Int)))
@[reducible] def tLine:Ty:=(.pr (.i .i64) (.pr (.i .i64) (.pr (.i .i64) (.pr (.pr (.i .i64) (.i .u8)) .b))))
abbrev Line:=(Int×Int×Int×(Int×Int)×Bool)
@[reducible] def tFlow:Ty:=(.pr (.sl (.pr (.i .i64) (.pr (.i .u8) (.i .i64)))) (.pr (.sl (.sl (.i .i64))) (.pr (.sl (.sl (.i .i64))) (.sl (.i .i64)))))
abbrev Flow:=((List (Int×Int×Int))×(List (List Int))×(List (List Int))×(List Int))
@[reducible] def tSwap:Ty:=(.pr (.i .i64) (.pr (.i .u8) (.pr (.i .i64) (.i .u8))))
abbrev Swap:=(Int×Int×Int×Int)
def kbh (x0:Int) (x1:Int) (x2:Int):Option (Int×Int×Int):=
 (some (x0,x1,x2))
def kfB (x0:Int) (x1:Int) (x2:Int):Option Bool:=
 (if (decide (x0<=x2))=true then (some (decide (x2<=x1))) else (some false))
def knK (x0:(Int×Int×Int)):Option Bool:=
 ((kfB 1 1000 x0.2.2).bind fun v0=>(some (!v0)))
def keb (x0:(Int×Int)):Option Bool:=
 ((kfB 0 15 x0.1).bind fun v0=>(if v0=true then (some (decide (x0.2<=15))) else (some false)))
def kdq (x0:Int):Option Bool:=
 (some (x0 != x0))
def keZ (x0:Int) (x1:Int):Option Int:=
 ((kdq x0).bind fun v0=>((kdq x1).bind fun v1=>(if v0=true then (if v1=true then (some 0) else (some (-1))) else (if v1=true then (some 1) else (if (decide (x0<x1))=true then (some (-1)) else (if (decide (x1<x0))=true then (some 1) else (some 0)))))))
def khr (x0:Int):Option Bool:=
 (some (x0 != x0))
def kiV (x0:Int) (x1:Int):Option Int:=
 ((khr x0).bind fun v0=>((khr x1).bind fun v1=>(if v0=true then (if v1=true then (some 0) else (some (-1))) else (if v1=true then (some 1) else (if (decide (x0<x1))=true then (some (-1)) else (if (decide (x1<x0))=true then (some 1) else (some 0)))))))
def ksp (x0:(List Int)) (v0:Int):Option (Int⊕(Int⊕Unit)):=
 (if (decide (v0<(lenI x0)))=true then ((gi x0 v0).bind fun v1=>(if (v1 != 0)=true then (some (.inr (.inl v1))) else (some (.inl (w64 (v0+1)))))) else (some (.inr (.inr ()))))
def klP (x0:(List Int)):Option Int:=
 ((iter (ksp x0) 0).bind fun v2=>(match v2 with | .inl v3=>(some v3) | .inr v4=>(some 0)))
def kiA (x0:(Int×Int)) (x1:(Int×Int)):Option Int:=
 ((keZ x0.1 x1.1).bind fun v0=>((kiV x0.2 x1.2).bind fun v1=>((klP [v0,v1]).bind fun v2=>(some v2))))
def kkh (x0:(List (Int×Int×Int))) (x2:((Int×Int×Int)->Option (Int×Int))) (v0:Int):Option (Int⊕(Bool⊕Unit)):=
 (if (decide (v0<(lenI x0)))=true then ((gi x0 v0).bind fun v1=>((x2 v1).bind fun v2=>((keb v2).bind fun v3=>(if (!v3)=true then (some (.inr (.inl false))) else (if (decide (0<v0))=true then ((gi x0 (w64 (v0-1))).bind fun v4=>((x2 v4).bind fun v5=>((x2 v1).bind fun v6=>((kiA v5 v6).bind fun v7=>(if (decide (0<=v7))=true then (some (.inr (.inl false))) else (some (.inl (w64 (v0+1))))))))) else (some (.inl (w64 (v0+1))))))))) else (some (.inr (.inr ()))))
def khq (x0:(List (Int×Int×Int))) (x1:Int) (x2:((Int×Int×Int)->Option (Int×Int))):Option Bool:=
 ((iter (kkh x0 x2) 0).bind fun v8=>(match v8 with | .inl v9=>(some v9) | .inr v10=>(some (decide ((lenI x0)<=x1)))))
def kbZ (x0:(Int×Int×Int)):Option (Int×Int):=
 (some (x0.1,x0.2.1))
def keK (x0:(List (Int×Int×Int))) (x1:((Int×Int×Int)->Option Bool)) (v0:Int):Option (Int⊕(Int⊕Unit)):=
 (if (decide (v0<(lenI x0)))=true then ((gi x0 v0).bind fun v1=>((x1 v1).bind fun v2=>(if v2=true then (some (.inr (.inl v0))) else (some (.inl (w64 (v0+1))))))) else (some (.inr (.inr ()))))
def kce (x0:(List (Int×Int×Int))) (x1:((Int×Int×Int)->Option Bool)):Option Int:=
 ((iter (keK x0 x1) 0).bind fun v3=>(match v3 with | .inl v4=>(some v4) | .inr v5=>(some (-1))))
def kaV (x0:(List (Int×Int×Int))) (x1:((Int×Int×Int)->Option Bool)):Option Bool:=
 ((kce x0 x1).bind fun v0=>(some (decide (0<=v0))))
def knz (x0:(List (Int×Int×Int))):Option Int:=
 ((khq x0 30 (fun (u0:(Int×Int×Int))=>((kbZ u0).bind fun u1=>(some u1)))).bind fun v0=>(if (!v0)=true then (some 8) else ((kaV x0 (fun (u0:(Int×Int×Int))=>((knK u0).bind fun u1=>(some u1)))).bind fun v1=>(if v1=true then (some 8) else (some 0)))))
def krr (x0:(List (List (Int×Int×Int)))) (v0:Int):Option (Int⊕(Int⊕Unit)):=
 (if (decide (v0<(lenI x0)))=true then ((gi x0 v0).bind fun v1=>((knz v1).bind fun v2=>(if (v2 != 0)=true then (some (.inr (.inl v2))) else (some (.inl (w64 (v0+1))))))) else (some (.inr (.inr ()))))
def kdJ (x0:(List (List (Int×Int×Int)))):Option Int:=
 ((iter (krr x0) 0).bind fun v3=>(match v3 with | .inl v4=>(some v4) | .inr v5=>(some 0)))
def koE (x0:(List (Int×Int×Int))) (x1:(List (Int×Int×Int))):Option Int:=
 (if ((lenI x0)==0)=true then (some 1) else (if ((lenI x1)==0)=true then (some (-1)) else ((gi x0 0).bind fun v0=>((kbZ v0).bind fun v1=>((gi x1 0).bind fun v2=>((kbZ v2).bind fun v3=>((kiA v1 v3).bind fun v4=>(some v4))))))))
def ksi (x2:((Int×Int)->Option Int)) (v0:((List (Int×Int×Int))×(List (Int×Int×Int))×(List (Int×Int×Int)))):Option (((List (Int×Int×Int))×(List (Int×Int×Int))×(List (Int×Int×Int)))⊕(List (Int×Int×Int))):=
 ((if (decide (0<(lenI v0.1)))=true then (some true) else (some (decide (0<(lenI v0.2.1))))).bind fun v1=>(if v1=true then ((koE v0.1 v0.2.1).bind fun v2=>((if (decide (v2<=0))=true then ((gi v0.1 0).bind fun v3=>((gi v0.1 0).bind fun v4=>((gsl v0.1 1 (lenI v0.1)).bind fun v5=>((if (v2==0)=true then ((gi v0.2.1 0).bind fun v6=>((gsl v0.2.1 1 (lenI v0.2.1)).bind fun v7=>(some (v6.2.2,v7)))) else (some (0,v0.2.1))).bind fun v8=>(some (v4.2.2,v8.1,v5,v8.2,v3)))))) else ((gi v0.2.1 0).bind fun v9=>((gi v0.2.1 0).bind fun v10=>((gsl v0.2.1 1 (lenI v0.2.1)).bind fun v11=>(some (0,v10.2.2,v0.1,v11,v9)))))).bind fun v12=>((x2 (v12.1,v12.2.1)).bind fun v13=>(if (v13 != 0)=true then ((gapp v0.2.2 [(v12.2.2.2.2.1,v12.2.2.2.2.2.1,v13)]).bind fun v14=>(some (.inl (v12.2.2.1,v12.2.2.2.1,v14)))) else (some (.inl (v12.2.2.1,v12.2.2.2.1,v0.2.2))))))) else (some (.inr v0.2.2))))
def klI (x0:(List (Int×Int×Int))) (x1:(List (Int×Int×Int))) (x2:((Int×Int)->Option Int)):Option (List (Int×Int×Int)):=
 ((iter (ksi x2) (x0,x1,[])).bind fun v15=>(some v15))
def kqg (x0:Int) (x1:Int):Option Int:=
 (some (w64 (x0+x1)))
def kvv (x0:(List (Int×Int×Int))) (x1:(List (Int×Int×Int))):Option ((List (Int×Int×Int))×Int):=
 ((kdJ [x0,x1]).bind fun v0=>(if (v0 != 0)=true then (some ([],v0)) else ((klI x0 x1 (fun (u0:(Int×Int))=>((kqg u0.1 u0.2).bind fun u1=>(some u1)))).bind fun v1=>((knz v1).bind fun v2=>(if (v2 != 0)=true then (some ([],4)) else (some (v1,0)))))))
def law08_needed:Option (List (Int×Int×Int)):=
 ((kbh 1 1 3).bind fun v0=>((kbh 2 1 2).bind fun v1=>(some [v0,v1])))
def law08_swap:Option (List Swap):=
 (some [(2,1,1,1)])
def kjf (x0:Swap):Option Bool:=
 ((bthO tSwap (some x0) (some x0)).bind fun v0=>((keb (v0.1,v0.2.1)).bind fun v1=>(if (!v1)=true then (some true) else ((keb v0.2.2).bind fun v2=>(if (!v2)=true then (some true) else (some ((v0.1==v0.2.2.1)&&(v0.2.1==v0.2.2.2))))))))
def keJ (x0:(List Swap)) (x1:(Swap->Option Bool)) (v0:Int):Option (Int⊕(Int⊕Unit)):=
 (if (decide (v0<(lenI x0)))=true then ((gi x0 v0).bind fun v1=>((x1 v1).bind fun v2=>(if v2=true then (some (.inr (.inl v0))) else (some (.inl (w64 (v0+1))))))) else (some (.inr (.inr ()))))
def kcf (x0:(List Swap)) (x1:(Swap->Option Bool)):Option Int:=
 ((iter (keJ x0 x1) 0).bind fun v3=>(match v3 with | .inl v4=>(some v4) | .inr v5=>(some (-1))))
def kbJ (x0:(List Swap)) (x1:(Swap->Option Bool)):Option Bool:=
 ((kcf x0 x1).bind fun v0=>(some (decide (0<=v0))))
def kih (x0:(List Swap)):Option Int:=
 (if (decide (30<(lenI x0)))=true then (some 2) else ((kbJ x0 (fun (u0:Swap)=>((kjf u0).bind fun u1=>(some u1)))).bind fun v0=>(if v0=true then (some 2) else (some 0))))
def kfK (x0:(List Swap)) (x1:Swap) (v0:Int):Option (Int⊕(Int⊕Unit)):=
 (if (decide (v0<(lenI x0)))=true then ((gi x0 v0).bind fun v1=>(if ((x1.1==v1.1)&&((x1.2.1==v1.2.1)&&((x1.2.2.1==v1.2.2.1)&&(x1.2.2.2==v1.2.2.2))))=true then (some (.inr (.inl v0))) else (some (.inl (w64 (v0+1)))))) else (some (.inr (.inr ()))))
def kdc (x0:(List Swap)) (x1:Swap):Option Int:=
 ((iter (kfK x0 x1) 0).bind fun v2=>(match v2 with | .inl v3=>(some v3) | .inr v4=>(some (-1))))
def kcp (x0:(List Swap)) (x1:Swap):Option Bool:=
 ((kdc x0 x1).bind fun v0=>(some (decide (0<=v0))))
def kqN (x0:(List Swap)) (x1:(Int×Int)) (x2:(Int×Int)):Option Bool:=
 (if ((x1.1==x2.1)&&(x1.2==x2.2))=true then (some true) else ((kcp x0 (x1.1,x1.2,x2)).bind fun v0=>(some v0)))
def kkg (rec_box_flow_short_c1_m0:Int->(List Bool)->(Option Flow)->Option ((List Bool)×(Option Flow))) (v6:Int) (v7:Flow) (v8:(Int×(Option Flow)×(List Bool))):Option ((Int×(Option Flow)×(List Bool))⊕((Option Flow)×(List Bool))):=
 (if (decide (v8.1<(lenI v7.2.2.1)))=true then (v8.2.1.bind fun v9=>((gi v9.2.2.1 v8.1).bind fun v10=>((gi v10 v6).bind fun v11=>(if (decide (0<v11))=true then ((rec_box_flow_short_c1_m0 v8.1 v8.2.2 v8.2.1).bind fun v12=>(some (.inl ((w64 (v8.1+1)),v12.2,v12.1)))) else (some (.inl ((w64 (v8.1+1)),v8.2))))))) else (some (.inr v8.2)))
def kkj (rec_box_flow_short_c1_m0:Int->(List Bool)->(Option Flow)->Option ((List Bool)×(Option Flow))) (v4:(List Int)) (v5:(Int×(Option Flow)×(List Bool))):Option ((Int×(Option Flow)×(List Bool))⊕((Option Flow)×(List Bool))):=
 (if (decide (v5.1<(lenI v4)))=true then ((gi v4 v5.1).bind fun v6=>(v5.2.1.bind fun v7=>((iter (kkg rec_box_flow_short_c1_m0 v6 v7) (0,v5.2)).bind fun v13=>(some (.inl ((w64 (v5.1+1)),v13)))))) else (some (.inr v5.2)))
def kkC (rec_box_flow_short_c1_m0:Int->(List Bool)->(Option Flow)->Option ((List Bool)×(Option Flow))) (x0:Int) (x1:(List Bool)) (x2:(Option Flow)):Option ((List Bool)×(Option Flow)):=
 ((gi x1 x0).bind fun v0=>((gi x1 x0).bind fun v1=>(if v1=true then (some (x1,x2)) else ((gi x1 x0).bind fun v2=>(x2.bind fun v3=>((gi v3.2.1 x0).bind fun v4=>((iter (kkj rec_box_flow_short_c1_m0 v4) (0,x2,(lset x1 x0 true))).bind fun v14=>(some (v14.2,v14.1)))))))))
def kdP:Nat->Int->(List Bool)->(Option Flow)->Option ((List Bool)×(Option Flow))
 | 0,_,_,_=>none
 | k+1,x0,x1,x2=>kkC (kdP k) x0 x1 x2
def khi (x0:Int) (x1:(List Bool)) (x2:(Option Flow)):Option ((List Bool)×(Option Flow)):=kdP 1000000 x0 x1 x2
def koc (x0:(List (Int×Int×Int))) (v3:(Int×(List (Int×Int×Int))×(List Int))):Option ((Int×(List (Int×Int×Int))×(List Int))⊕((List (Int×Int×Int))×(List Int))):=
 (if (decide (v3.1<(lenI x0)))=true then ((gi x0 v3.1).bind fun v4=>((gapp v3.2.2 [v4.2.2]).bind fun v5=>(some (.inl ((w64 (v3.1+1)),v3.2.1,v5))))) else (some (.inr v3.2)))
def kok (x0:(List (Int×Int×Int))) (x2:(List Swap)) (v8:(Int×Int×Int)) (v9:kaj):Option (kaj⊕(List Int)):=
 (if (decide (v9.1<(lenI x0)))=true then ((gi x0 v9.1).bind fun v10=>((kbZ v8).bind fun v11=>((kbZ v10).bind fun v12=>((kqN x2 v11 v12).bind fun v13=>(if v13=true then ((gapp v9.2 [v9.1]).bind fun v14=>(some (.inl ((w64 (v9.1+1)),v14)))) else (some (.inl ((w64 (v9.1+1)),v9.2)))))))) else (some (.inr v9.2)))
def kop (x0:(List (Int×Int×Int))) (x1:(List (Int×Int×Int))) (x2:(List Swap)) (v7:(Int×(List (Int×Int×Int))×(List (List Int))×(List (List Int)))):Option ((Int×(List (Int×Int×Int))×(List (List Int))×(List (List Int)))⊕((List (Int×Int×Int))×(List (List Int))×(List (List Int)))):=
 (if (decide (v7.1<(lenI x1)))=true then ((gi x1 v7.1).bind fun v8=>((iter (kok x0 x2 v8) (0,[])).bind fun v15=>(bthO (.sm (.pr (.i .i64) (.pr (.sl (.pr (.i .i64) (.pr (.i .u8) (.i .i64)))) (.pr (.sl (.sl (.i .i64))) (.sl (.sl (.i .i64)))))) (.pr (.sl (.pr (.i .i64) (.pr (.i .u8) (.i .i64)))) (.pr (.sl (.sl (.i .i64))) (.sl (.sl (.i .i64)))))) ((gapp v7.2.2.1 [v15]).bind fun v16=>((gmk (lenI x0) 0).bind fun v17=>((gapp v7.2.2.2 [v17]).bind fun v18=>(some (.inl ((w64 (v7.1+1)),v7.2.1,v16,v18)))))) (bthO (.sm (.pr (.i .i64) (.pr (.sl (.pr (.i .i64) (.pr (.i .u8) (.i .i64)))) (.pr (.sl (.sl (.i .i64))) (.sl (.sl (.i .i64)))))) (.pr (.sl (.pr (.i .i64) (.pr (.i .u8) (.i .i64)))) (.pr (.sl (.sl (.i .i64))) (.sl (.sl (.i .i64)))))) ((gmk (lenI x0) 0).bind fun v19=>((gapp v7.2.2.1 [v15]).bind fun v20=>((gapp v7.2.2.2 [v19]).bind fun v21=>(some (.inl ((w64 (v7.1+1)),v7.2.1,v20,v21)))))) (bthO (.sm (.pr (.i .i64) (.pr (.sl (.pr (.i .i64) (.pr (.i .u8) (.i .i64)))) (.pr (.sl (.sl (.i .i64))) (.sl (.sl (.i .i64)))))) (.pr (.sl (.pr (.i .i64) (.pr (.i .u8) (.i .i64)))) (.pr (.sl (.sl (.i .i64))) (.sl (.sl (.i .i64)))))) ((gmk (lenI x0) 0).bind fun v22=>((gapp v7.2.2.1 [v15]).bind fun v23=>((gapp v7.2.2.2 [v22]).bind fun v24=>(some (.inl ((w64 (v7.1+1)),v7.2.1,v23,v24)))))) (bthO (.sm (.pr (.i .i64) (.pr (.sl (.pr (.i .i64) (.pr (.i .u8) (.i .i64)))) (.pr (.sl (.sl (.i .i64))) (.sl (.sl (.i .i64)))))) (.pr (.sl (.pr (.i .i64) (.pr (.i .u8) (.i .i64)))) (.pr (.sl (.sl (.i .i64))) (.sl (.sl (.i .i64)))))) ((gmk (lenI x0) 0).bind fun v25=>((gapp v7.2.2.1 [v15]).bind fun v26=>((gapp v7.2.2.2 [v25]).bind fun v27=>(some (.inl ((w64 (v7.1+1)),v7.2.1,v26,v27)))))) (bthO (.sm (.pr (.i .i64) (.pr (.sl (.pr (.i .i64) (.pr (.i .u8) (.i .i64)))) (.pr (.sl (.sl (.i .i64))) (.sl (.sl (.i .i64)))))) (.pr (.sl (.pr (.i .i64) (.pr (.i .u8) (.i .i64)))) (.pr (.sl (.sl (.i .i64))) (.sl (.sl (.i .i64)))))) ((gmk (lenI x0) 0).bind fun v28=>((gapp v7.2.2.1 [v15]).bind fun v29=>((gapp v7.2.2.2 [v28]).bind fun v30=>(some (.inl ((w64 (v7.1+1)),v7.2.1,v29,v30)))))) ((gmk (lenI x0) 0).bind fun v31=>((gapp v7.2.2.1 [v15]).bind fun v32=>((gapp v7.2.2.2 [v31]).bind fun v33=>(some (.inl ((w64 (v7.1+1)),v7.2.1,v32,v33))))))))))))) else (some (.inr v7.2)))
def kid (x0:(List (Int×Int×Int))) (x1:(List (Int×Int×Int))) (x2:(List Swap)):Option Int:=
 ((kdJ [x0,x1]).bind fun v0=>((if (v0==0)=true then ((kih x2).bind fun v1=>(some v1)) else (some v0)).bind fun v2=>(if (v2 != 0)=true then (some v2) else ((iter (koc x0) (0,x1,[])).bind fun v6=>((iter (kop x0 x1 x2) (0,v6.1,[],[])).bind fun v34=>none)))))
def knY (x0:(List (Int×Int×Int))) (v3:(Int×(List (Int×Int×Int))×(List Int))):Option ((Int×(List (Int×Int×Int))×(List Int))⊕((List (Int×Int×Int))×(List Int))):=
 (if (decide (v3.1<(lenI x0)))=true then ((gi x0 v3.1).bind fun v4=>((gapp v3.2.2 [v4.2.2]).bind fun v5=>(some (.inl ((w64 (v3.1+1)),v3.2.1,v5))))) else (some (.inr v3.2)))
def knX (x0:(List (Int×Int×Int))) (x2:(List Swap)) (v8:(Int×Int×Int)) (v9:kaj):Option (kaj⊕(List Int)):=
 (if (decide (v9.1<(lenI x0)))=true then ((gi x0 v9.1).bind fun v10=>((kbZ v8).bind fun v11=>((kbZ v10).bind fun v12=>((kqN x2 v11 v12).bind fun v13=>(if v13=true then ((gapp v9.2 [v9.1]).bind fun v14=>(some (.inl ((w64 (v9.1+1)),v14)))) else (some (.inl ((w64 (v9.1+1)),v9.2)))))))) else (some (.inr v9.2)))
def koq (x0:(List (Int×Int×Int))) (x1:(List (Int×Int×Int))) (x2:(List Swap)) (v7:(Int×(List (Int×Int×Int))×(List (List Int))×(List (List Int)))):Option ((Int×(List (Int×Int×Int))×(List (List Int))×(List (List Int)))⊕((List (Int×Int×Int))×(List (List Int))×(List (List Int)))):=
 (if (decide (v7.1<(lenI x1)))=true then ((gi x1 v7.1).bind fun v8=>((iter (knX x0 x2 v8) (0,[])).bind fun v15=>(bthO (.sm (.pr (.i .i64) (.pr (.sl (.pr (.i .i64) (.pr (.i .u8) (.i .i64)))) (.pr (.sl (.sl (.i .i64))) (.sl (.sl (.i .i64)))))) (.pr (.sl (.pr (.i .i64) (.pr (.i .u8) (.i .i64)))) (.pr (.sl (.sl (.i .i64))) (.sl (.sl (.i .i64)))))) ((gapp v7.2.2.1 [v15]).bind fun v16=>((gmk (lenI x0) 0).bind fun v17=>((gapp v7.2.2.2 [v17]).bind fun v18=>(some (.inl ((w64 (v7.1+1)),v7.2.1,v16,v18)))))) (bthO (.sm (.pr (.i .i64) (.pr (.sl (.pr (.i .i64) (.pr (.i .u8) (.i .i64)))) (.pr (.sl (.sl (.i .i64))) (.sl (.sl (.i .i64)))))) (.pr (.sl (.pr (.i .i64) (.pr (.i .u8) (.i .i64)))) (.pr (.sl (.sl (.i .i64))) (.sl (.sl (.i .i64)))))) ((gmk (lenI x0) 0).bind fun v19=>((gapp v7.2.2.1 [v15]).bind fun v20=>((gapp v7.2.2.2 [v19]).bind fun v21=>(some (.inl ((w64 (v7.1+1)),v7.2.1,v20,v21)))))) (bthO (.sm (.pr (.i .i64) (.pr (.sl (.pr (.i .i64) (.pr (.i .u8) (.i .i64)))) (.pr (.sl (.sl (.i .i64))) (.sl (.sl (.i .i64)))))) (.pr (.sl (.pr (.i .i64) (.pr (.i .u8) (.i .i64)))) (.pr (.sl (.sl (.i .i64))) (.sl (.sl (.i .i64)))))) ((gmk (lenI x0) 0).bind fun v22=>((gapp v7.2.2.1 [v15]).bind fun v23=>((gapp v7.2.2.2 [v22]).bind fun v24=>(some (.inl ((w64 (v7.1+1)),v7.2.1,v23,v24)))))) (bthO (.sm (.pr (.i .i64) (.pr (.sl (.pr (.i .i64) (.pr (.i .u8) (.i .i64)))) (.pr (.sl (.sl (.i .i64))) (.sl (.sl (.i .i64)))))) (.pr (.sl (.pr (.i .i64) (.pr (.i .u8) (.i .i64)))) (.pr (.sl (.sl (.i .i64))) (.sl (.sl (.i .i64)))))) ((gmk (lenI x0) 0).bind fun v25=>((gapp v7.2.2.1 [v15]).bind fun v26=>((gapp v7.2.2.2 [v25]).bind fun v27=>(some (.inl ((w64 (v7.1+1)),v7.2.1,v26,v27)))))) (bthO (.sm (.pr (.i .i64) (.pr (.sl (.pr (.i .i64) (.pr (.i .u8) (.i .i64)))) (.pr (.sl (.sl (.i .i64))) (.sl (.sl (.i .i64)))))) (.pr (.sl (.pr (.i .i64) (.pr (.i .u8) (.i .i64)))) (.pr (.sl (.sl (.i .i64))) (.sl (.sl (.i .i64)))))) ((gmk (lenI x0) 0).bind fun v28=>((gapp v7.2.2.1 [v15]).bind fun v29=>((gapp v7.2.2.2 [v28]).bind fun v30=>(some (.inl ((w64 (v7.1+1)),v7.2.1,v29,v30)))))) ((gmk (lenI x0) 0).bind fun v31=>((gapp v7.2.2.1 [v15]).bind fun v32=>((gapp v7.2.2.2 [v31]).bind fun v33=>(some (.inl ((w64 (v7.1+1)),v7.2.1,v32,v33))))))))))))) else (some (.inr v7.2)))
def kil (x0:(List (Int×Int×Int))) (x1:(List (Int×Int×Int))) (x2:(List Swap)):Option (Int×Flow):=
 ((kdJ [x0,x1]).bind fun v0=>((if (v0==0)=true then ((kih x2).bind fun v1=>(some v1)) else (some v0)).bind fun v2=>(if (v2 != 0)=true then none else ((iter (knY x0) (0,x1,[])).bind fun v6=>((iter (koq x0 x1 x2) (0,v6.1,[],[])).bind fun v34=>(some (0,v34.1,v34.2.1,v34.2.2,v6.2)))))))
def klF (x1:(List Bool)) (v1:(Int×(List Bool)×(Option Flow))):Option ((Int×(List Bool)×(Option Flow))⊕(List Bool)):=
 (if (decide (v1.1<(lenI x1)))=true then ((gi x1 v1.1).bind fun v2=>(if v2=true then ((khi v1.1 v1.2.1 v1.2.2).bind fun v3=>(some (.inl ((w64 (v1.1+1)),v3)))) else (some (.inl ((w64 (v1.1+1)),v1.2))))) else (some (.inr v1.2.1)))
def klT (v4:(List Bool)) (v5:kaj):Option (kaj⊕(List Int)):=
 (if (decide (v5.1<(lenI v4)))=true then ((gi v4 v5.1).bind fun v6=>((gi v4 v5.1).bind fun v7=>(if v7=true then ((gapp v5.2 [v5.1]).bind fun v8=>(some (.inl ((w64 (v5.1+1)),v8)))) else (some (.inl ((w64 (v5.1+1)),v5.2)))))) else (some (.inr v5.2)))
def kge (x0:(Option Flow)) (x1:(List Bool)):Option (List Int):=
 ((gmk (lenI x1) false).bind fun v0=>((iter (klF x1) (0,v0,x0)).bind fun v4=>((iter (klT v4) (0,[])).bind fun v9=>(some v9))))
def kkz (rec_box_flow_give_c1_m0:Int->Int->(List (Int×Int×Int))->(List (List Int))->(List (List Int))->(List Int)->(List Bool)->Option (Int×(List (Int×Int×Int))×(List (List Int))×(List (List Int))×(List Int)×(List Bool))) (x0:Int) (x1:Int) (v2:(Int×(List Bool)×Flow)) (v3:Int) (v22:(Int×(List (Int×Int×Int))×(List (List Int))×(List (List Int))×(List Int)×(List Bool))):Option ((Int×(List (Int×Int×Int))×(List (List Int))×(List (List Int))×(List Int)×(List Bool))⊕((Int×(List (Int×Int×Int))×(List (List Int))×(List (List Int))×(List Int)×(List Bool))⊕((List (Int×Int×Int))×(List (List Int))×(List (List Int))×(List Int)×(List Bool)))):=
 (if (decide (v22.1<(lenI v2.2.2.2.2.1)))=true then ((gi v22.2.2.2.1 v22.1).bind fun v23=>((gi v22.2.2.2.1 v22.1).bind fun v24=>((gi v22.2.2.2.1 v22.1).bind fun v25=>((gi v25 v3).bind fun v26=>((gi v22.2.2.2.1 v22.1).bind fun v27=>((gi v27 v3).bind fun v28=>(if (v28==0)=true then (some (.inl ((w64 (v22.1+1)),v22.2))) else ((gi v22.2.2.2.1 v22.1).bind fun v29=>((gi v22.2.2.2.1 v22.1).bind fun v30=>((gi v22.2.2.2.1 v22.1).bind fun v31=>((gi v31 v3).bind fun v32=>((gi v22.2.2.2.1 v22.1).bind fun v33=>((gi v33 v3).bind fun v34=>((rec_box_flow_give_c1_m0 v22.1 (imin x1 v34) v22.2.1 v22.2.2.1 v22.2.2.2.1 v22.2.2.2.2.1 v22.2.2.2.2.2).bind fun v35=>(if (decide (0<v35.1))=true then ((gi v35.2.2.2.1 v22.1).bind fun v36=>((gi v35.2.2.2.1 v22.1).bind fun v37=>((gi v35.2.2.2.1 v22.1).bind fun v38=>((gi v38 v3).bind fun v39=>((gi v35.2.2.2.1 v22.1).bind fun v40=>((gi v40 v3).bind fun v41=>((gi v35.2.2.2.1 v22.1).bind fun v42=>((gi v42 v3).bind fun v43=>((gi v35.2.2.2.1 v22.1).bind fun v44=>((gi v44 v3).bind fun v45=>((gi (lset v35.2.2.2.1 v22.1 (lset v44 v3 (w64 (v41-v35.1)))) x0).bind fun v46=>((gi (lset v35.2.2.2.1 v22.1 (lset v44 v3 (w64 (v41-v35.1)))) x0).bind fun v47=>((gi (lset v35.2.2.2.1 v22.1 (lset v44 v3 (w64 (v41-v35.1)))) x0).bind fun v48=>((gi v48 v3).bind fun v49=>((gi (lset v35.2.2.2.1 v22.1 (lset v44 v3 (w64 (v41-v35.1)))) x0).bind fun v50=>((gi v50 v3).bind fun v51=>((gi (lset v35.2.2.2.1 v22.1 (lset v44 v3 (w64 (v41-v35.1)))) x0).bind fun v52=>((gi v52 v3).bind fun v53=>((gi (lset v35.2.2.2.1 v22.1 (lset v44 v3 (w64 (v41-v35.1)))) x0).bind fun v54=>((gi v54 v3).bind fun v55=>(some (.inr (.inl (v35.1,v35.2.1,v35.2.2.1,(lset (lset v35.2.2.2.1 v22.1 (lset v44 v3 (w64 (v41-v35.1)))) x0 (lset v54 v3 (w64 (v51+v35.1)))),v35.2.2.2.2)))))))))))))))))))))))) else (some (.inl ((w64 (v22.1+1)),v35.2)))))))))))))))))) else (some (.inr (.inr v22.2))))
def kky (rec_box_flow_give_c1_m0:Int->Int->(List (Int×Int×Int))->(List (List Int))->(List (List Int))->(List Int)->(List Bool)->Option (Int×(List (Int×Int×Int))×(List (List Int))×(List (List Int))×(List Int)×(List Bool))) (x0:Int) (x1:Int) (v1:(List Int)) (v2:(Int×(List Bool)×Flow)):Option ((Int×(List Bool)×Flow)⊕((Int×(List (Int×Int×Int))×(List (List Int))×(List (List Int))×(List Int)×(List Bool))⊕((List Bool)×(List Int)×(List (List Int))×(List (Int×Int×Int))×(List (List Int))))):=
 (if (decide (v2.1<(lenI v1)))=true then ((gi v1 v2.1).bind fun v3=>((gi v2.2.1 v3).bind fun v4=>((gi v2.2.1 v3).bind fun v5=>(if v5=true then (some (.inl ((w64 (v2.1+1)),v2.2))) else ((gi v2.2.1 v3).bind fun v6=>((gi v2.2.2.2.2.2 v3).bind fun v7=>((gi v2.2.2.2.2.2 v3).bind fun v8=>(if (decide (0<(imin x1 v8)))=true then ((gi v2.2.2.2.2.2 v3).bind fun v9=>((gi v2.2.2.2.2.2 v3).bind fun v10=>((gi v2.2.2.2.2.2 v3).bind fun v11=>((gi v2.2.2.2.2.1 x0).bind fun v12=>((gi v2.2.2.2.2.1 x0).bind fun v13=>((gi v2.2.2.2.2.1 x0).bind fun v14=>((gi v14 v3).bind fun v15=>((gi v2.2.2.2.2.1 x0).bind fun v16=>((gi v16 v3).bind fun v17=>((gi v2.2.2.2.2.1 x0).bind fun v18=>((gi v18 v3).bind fun v19=>((gi v2.2.2.2.2.1 x0).bind fun v20=>((gi v20 v3).bind fun v21=>(some (.inr (.inl ((imin x1 v8),v2.2.2.1,v2.2.2.2.1,(lset v2.2.2.2.2.1 x0 (lset v20 v3 (w64 (v17+(imin x1 v8))))),(lset v2.2.2.2.2.2 v3 (w64 (v10-(imin x1 v8)))),(lset v2.2.1 v3 true)))))))))))))))))) else ((iter (kkz rec_box_flow_give_c1_m0 x0 x1 v2 v3) (0,v2.2.2.1,v2.2.2.2.1,v2.2.2.2.2.1,v2.2.2.2.2.2,(lset v2.2.1 v3 true))).bind fun v56=>(match v56 with | .inl v57=>(some (.inr (.inl v57))) | .inr v58=>(some (.inl ((w64 (v2.1+1)),v58.2.2.2.2,v58.1,v58.2.1,v58.2.2.1,v58.2.2.2.1))))))))))))) else (some (.inr (.inr (v2.2.1,v2.2.2.2.2.2,v2.2.2.2.2.1,v2.2.2.1,v2.2.2.2.1)))))
def klk (rec_box_flow_give_c1_m0:Int->Int->(List (Int×Int×Int))->(List (List Int))->(List (List Int))->(List Int)->(List Bool)->Option (Int×(List (Int×Int×Int))×(List (List Int))×(List (List Int))×(List Int)×(List Bool))) (x0:Int) (x1:Int) (x2:(List (Int×Int×Int))) (x3:(List (List Int))) (x4:(List (List Int))) (x5:(List Int)) (x6:(List Bool)):Option (Int×(List (Int×Int×Int))×(List (List Int))×(List (List Int))×(List Int)×(List Bool)):=
 ((gi x3 x0).bind fun v0=>((gi x3 x0).bind fun v1=>((iter (kky rec_box_flow_give_c1_m0 x0 x1 v1) (0,x6,x2,x3,x4,x5)).bind fun v59=>(match v59 with | .inl v60=>(some v60) | .inr v61=>(some (0,v61.2.2.2.1,v61.2.2.2.2,v61.2.2.1,v61.2.1,v61.1))))))
def kdZ:Nat->Int->Int->(List (Int×Int×Int))->(List (List Int))->(List (List Int))->(List Int)->(List Bool)->Option (Int×(List (Int×Int×Int))×(List (List Int))×(List (List Int))×(List Int)×(List Bool))
 | 0,_,_,_,_,_,_,_=>none
 | k+1,x0,x1,x2,x3,x4,x5,x6=>klk (kdZ k) x0 x1 x2 x3 x4 x5 x6
def khU (x0:Int) (x1:Int) (x2:(List (Int×Int×Int))) (x3:(List (List Int))) (x4:(List (List Int))) (x5:(List Int)) (x6:(List Bool)):Option (Int×(List (Int×Int×Int))×(List (List Int))×(List (List Int))×(List Int)×(List Bool)):=kdZ 1000000 x0 x1 x2 x3 x4 x5 x6
def kmF (x0:Int) (x1:Int) (v0:(Int×(List (Int×Int×Int))×(List (List Int))×(List (List Int))×(List Int)×(List Bool))):Option ((Int×(List (Int×Int×Int))×(List (List Int))×(List (List Int))×(List Int)×(List Bool))⊕(Int×Flow)):=
 (if (decide (v0.1<x1))=true then ((gmk (lenI v0.2.2.2.2.1) false).bind fun v1=>((khU x0 (w64 (x1-v0.1)) v0.2.1 v0.2.2.1 v0.2.2.2.1 v0.2.2.2.2.1 v1).bind fun v2=>(if (v2.1==0)=true then (some (.inr (v0.1,v2.2.1,v2.2.2.1,v2.2.2.2.1,v2.2.2.2.2.1))) else (some (.inl ((w64 (v0.1+v2.1)),v2.2)))))) else (some (.inr (v0.1,v0.2.1,v0.2.2.1,v0.2.2.2.1,v0.2.2.2.2.1))))
def kgQ (x0:Int) (x1:Int) (x2:(List (Int×Int×Int))) (x3:(List (List Int))) (x4:(List (List Int))) (x5:(List Int)):Option (Int×Flow):=
 ((iter (kmF x0 x1) (0,x2,x3,x4,x5,[])).bind fun v3=>(some v3))
def kuV (x1:(List (Int×Int×Int))) (v2:(Int×Int)):Option ((Int×Int)⊕Int):=
 (if (decide (v2.1<(lenI x1)))=true then ((gi x1 v2.1).bind fun v3=>none) else (some (.inr v2.2)))
def kuX (x1:(List (Int×Int×Int))) (v8:(Int×Int×(List (Int×Int×Int))×(List (List Int))×(List (List Int))×(List Int)×(List Bool))):Option ((Int×Int×(List (Int×Int×Int))×(List (List Int))×(List (List Int))×(List Int)×(List Bool))⊕(Int×(List (Int×Int×Int))×(List (List Int))×(List (List Int))×(List Int)×(List Bool))):=
 (if (decide (v8.1<(lenI x1)))=true then ((gi x1 v8.1).bind fun v9=>((kgQ v8.1 v9.2.2 v8.2.2.1 v8.2.2.2.1 v8.2.2.2.2.1 v8.2.2.2.2.2.1).bind fun v10=>((gi v8.2.2.2.2.2.2 v8.1).bind fun v11=>(some (.inl ((w64 (v8.1+1)),(w64 (v8.2.1+v10.1)),v10.2.1,v10.2.2.1,v10.2.2.2.1,v10.2.2.2.2,(lset v8.2.2.2.2.2.2 v8.1 (decide (v10.1<v9.2.2))))))))) else (some (.inr v8.2)))
def kum (x0:(List (Int×Int×Int))) (x1:(List (Int×Int×Int))) (x2:(List Swap)):Option (kaj×Int):=
 (elsO ((kid x0 x1 x2).bind fun v0=>(if (v0 != 0)=true then (some ((0,[]),v0)) else ((gmk (lenI x1) false).bind fun v1=>((iter (kuV x1) (0,0)).bind fun v4=>((kge none v1).bind fun v5=>(some ((v4,v5),0))))))) ((kil x0 x1 x2).bind fun v6=>(if (v6.1 != 0)=true then (some ((0,[]),v6.1)) else ((gmk (lenI x1) false).bind fun v7=>((iter (kuX x1) (0,0,v6.2.1,v6.2.2.1,v6.2.2.2.1,v6.2.2.2.2,v7)).bind fun v12=>((kge (some (v12.2.1,v12.2.2.1,v12.2.2.2.1,v12.2.2.2.2.1)) v12.2.2.2.2.2).bind fun v13=>(some ((v12.1,v13),0))))))))
def klQ (x0:(Int×Int×Int)):Option Bool:=
 ((kfB 0 10000 x0.2.2).bind fun v0=>(some (!v0)))
def kjG (x0:(List (Int×Int×Int))) (x2:((Int×Int×Int)->Option (Int×Int))) (v0:Int):Option (Int⊕(Bool⊕Unit)):=
 (if (decide (v0<(lenI x0)))=true then ((gi x0 v0).bind fun v1=>((x2 v1).bind fun v2=>((keb v2).bind fun v3=>(if (!v3)=true then (some (.inr (.inl false))) else (if (decide (0<v0))=true then ((gi x0 (w64 (v0-1))).bind fun v4=>((x2 v4).bind fun v5=>((x2 v1).bind fun v6=>((kiA v5 v6).bind fun v7=>(if (decide (0<=v7))=true then (some (.inr (.inl false))) else (some (.inl (w64 (v0+1))))))))) else (some (.inl (w64 (v0+1))))))))) else (some (.inr (.inr ()))))
def kei (x0:(List (Int×Int×Int))) (x1:Int) (x2:((Int×Int×Int)->Option (Int×Int))):Option Bool:=
 ((iter (kjG x0 x2) 0).bind fun v8=>(match v8 with | .inl v9=>(some v9) | .inr v10=>(some (decide ((lenI x0)<=x1)))))
def kdR (x0:(Int×Int×Int)):Option (Int×Int):=
 (some (x0.1,x0.2.1))
def ken (x0:(List (Int×Int×Int))) (x1:((Int×Int×Int)->Option Bool)) (v0:Int):Option (Int⊕(Int⊕Unit)):=
 (if (decide (v0<(lenI x0)))=true then ((gi x0 v0).bind fun v1=>((x1 v1).bind fun v2=>(if v2=true then (some (.inr (.inl v0))) else (some (.inl (w64 (v0+1))))))) else (some (.inr (.inr ()))))
def kbO (x0:(List (Int×Int×Int))) (x1:((Int×Int×Int)->Option Bool)):Option Int:=
 ((iter (ken x0 x1) 0).bind fun v3=>(match v3 with | .inl v4=>(some v4) | .inr v5=>(some (-1))))
def kaO (x0:(List (Int×Int×Int))) (x1:((Int×Int×Int)->Option Bool)):Option Bool:=
 ((kbO x0 x1).bind fun v0=>(some (decide (0<=v0))))
def klV (x0:Line) (x1:Line):Option Int:=
 (if (!(x0.2.2.2.2==x1.2.2.2.2))=true then (if x1.2.2.2.2=true then (some (-1)) else (some 1)) else (some (w64 (x1.2.1-x0.2.1))))
def kek (x0:Int) (x2:((Line×Line)->Option Int)) (v1:(Int×(List Line))):Option ((Int×(List Line))⊕(List Line)):=
 (if (decide (x0<v1.1))=true then ((gi v1.2 v1.1).bind fun v2=>((gi v1.2 v1.1).bind fun v3=>((gi v1.2 (w64 (v1.1-1))).bind fun v4=>((gi v1.2 (w64 (v1.1-1))).bind fun v5=>((x2 (v3,v5)).bind fun v6=>(if (decide (v6<0))=true then ((gi v1.2 (w64 (v1.1-1))).bind fun v7=>((gi v1.2 (w64 (v1.1-1))).bind fun v8=>((gi v1.2 v1.1).bind fun v9=>((gi v1.2 v1.1).bind fun v10=>((gi v1.2 v1.1).bind fun v11=>((gi (lset v1.2 v1.1 v8) (w64 (v1.1-1))).bind fun v12=>(some (.inl ((w64 (v1.1-1)),(lset (lset v1.2 v1.1 v8) (w64 (v1.1-1)) v10)))))))))) else (some (.inr v1.2)))))))) else (some (.inr v1.2)))
def keh (x0:Int) (x1:Int) (x2:((Line×Line)->Option Int)) (v0:(Int×(List Line))):Option ((Int×(List Line))⊕(List Line)):=
 (if (decide (v0.1<x1))=true then ((iter (kek x0 x2) v0).bind fun v13=>(some (.inl ((w64 (v0.1+1)),v13)))) else (some (.inr v0.2)))
def kaU (x0:Int) (x1:Int) (x2:((Line×Line)->Option Int)) (x3:(List Line)):Option (List Line):=
 ((iter (keh x0 x1 x2) ((w64 (x0+1)),x3)).bind fun v14=>(some v14))
def keX (x0:Int) (x1:Int) (x2:Int) (v0:(Int×(List Line))):Option ((Int×(List Line))⊕(List Line)):=
 (if (decide (v0.1<x2))=true then ((gi v0.2 (w64 (x1+v0.1))).bind fun v1=>((gi v0.2 (w64 (x1+v0.1))).bind fun v2=>((gi v0.2 (w64 (x0+v0.1))).bind fun v3=>((gi v0.2 (w64 (x0+v0.1))).bind fun v4=>((gi v0.2 (w64 (x0+v0.1))).bind fun v5=>((gi (lset v0.2 (w64 (x0+v0.1)) v2) (w64 (x1+v0.1))).bind fun v6=>(some (.inl ((w64 (v0.1+1)),(lset (lset v0.2 (w64 (x0+v0.1)) v2) (w64 (x1+v0.1)) v4)))))))))) else (some (.inr v0.2)))
def kaH (x0:Int) (x1:Int) (x2:Int) (x3:((Line×Line)->Option Int)) (x4:(List Line)):Option (List Line):=
 ((iter (keX x0 x1 x2) (0,x4)).bind fun v7=>(some v7))
def kfR (x1:Int) (x3:((Line×Line)->Option Int)) (v0:(Int×Int×(List Line))):Option ((Int×Int×(List Line))⊕(Int×(List Line))):=
 (if (v0.1 != v0.2.1)=true then (if (decide (v0.2.1<v0.1))=true then ((kaH (w64 (x1-v0.1)) x1 v0.2.1 x3 v0.2.2).bind fun v1=>(some (.inl ((w64 (v0.1-v0.2.1)),v0.2.1,v1)))) else ((kaH (w64 (x1-v0.1)) (w64 ((w64 (x1+v0.2.1))-v0.1)) v0.1 x3 v0.2.2).bind fun v2=>(some (.inl (v0.1,(w64 (v0.2.1-v0.1)),v2))))) else (some (.inr (v0.1,v0.2.2))))
def kcO (x0:Int) (x1:Int) (x2:Int) (x3:((Line×Line)->Option Int)) (x4:(List Line)):Option (List Line):=
 ((iter (kfR x1 x3) ((w64 (x1-x0)),(w64 (x2-x1)),x4)).bind fun v3=>((kaH (w64 (x1-v3.1)) x1 v3.1 x3 v3.2).bind fun v4=>(some v4)))
def kfc (x0:Int) (x3:((Line×Line)->Option Int)) (x4:(List Line)) (v0:(Int×Int)):Option ((Int×Int)⊕Int):=
 (if (decide (v0.1<v0.2))=true then ((gshr .u64 (IntKind.wrap .u64 (w64 (v0.1+v0.2))) 1).bind fun v1=>((gi x4 (w64 v1)).bind fun v2=>((gi x4 (w64 v1)).bind fun v3=>((gi x4 x0).bind fun v4=>((gi x4 x0).bind fun v5=>((x3 (v3,v5)).bind fun v6=>(if (decide (v6<0))=true then (some (.inl ((w64 ((w64 v1)+1)),v0.2))) else (some (.inl (v0.1,(w64 v1))))))))))) else (some (.inr v0.1)))
def kfi (v7:Int) (v8:(Int×(List Line))):Option ((Int×(List Line))⊕(List Line)):=
 (if (decide (v8.1<(w64 (v7-1))))=true then ((gi v8.2 (w64 (v8.1+1))).bind fun v9=>((gi v8.2 (w64 (v8.1+1))).bind fun v10=>((gi v8.2 v8.1).bind fun v11=>((gi v8.2 v8.1).bind fun v12=>((gi v8.2 v8.1).bind fun v13=>((gi (lset v8.2 v8.1 v10) (w64 (v8.1+1))).bind fun v14=>(some (.inl ((w64 (v8.1+1)),(lset (lset v8.2 v8.1 v10) (w64 (v8.1+1)) v12)))))))))) else (some (.inr v8.2)))
def kff (x1:Int) (x3:((Line×Line)->Option Int)) (x4:(List Line)) (v16:(Int×Int)):Option ((Int×Int)⊕Int):=
 (if (decide (v16.1<v16.2))=true then ((gshr .u64 (IntKind.wrap .u64 (w64 (v16.1+v16.2))) 1).bind fun v17=>((gi x4 x1).bind fun v18=>((gi x4 x1).bind fun v19=>((gi x4 (w64 v17)).bind fun v20=>((gi x4 (w64 v17)).bind fun v21=>((x3 (v19,v21)).bind fun v22=>(if (!(decide (v22<0)))=true then (some (.inl ((w64 ((w64 v17)+1)),v16.2))) else (some (.inl (v16.1,(w64 v17))))))))))) else (some (.inr v16.1)))
def kfm (v23:Int) (v24:(Int×(List Line))):Option ((Int×(List Line))⊕(List Line)):=
 (if (decide (v23<v24.1))=true then ((gi v24.2 (w64 (v24.1-1))).bind fun v25=>((gi v24.2 (w64 (v24.1-1))).bind fun v26=>((gi v24.2 v24.1).bind fun v27=>((gi v24.2 v24.1).bind fun v28=>((gi v24.2 v24.1).bind fun v29=>((gi (lset v24.2 v24.1 v26) (w64 (v24.1-1))).bind fun v30=>(some (.inl ((w64 (v24.1-1)),(lset (lset v24.2 v24.1 v26) (w64 (v24.1-1)) v28)))))))))) else (some (.inr v24.2)))
def kfl (x1:Int) (x3:((Line×Line)->Option Int)) (x4:(List Line)) (v32:Int) (v34:(Int×Int)):Option ((Int×Int)⊕Int):=
 (if (decide (v34.1<v34.2))=true then ((gshr .u64 (IntKind.wrap .u64 (w64 (v34.1+v34.2))) 1).bind fun v35=>((gi x4 (w64 ((w64 ((w64 ((w64 v32)+x1))-1))-(w64 v35)))).bind fun v36=>((gi x4 (w64 ((w64 ((w64 ((w64 v32)+x1))-1))-(w64 v35)))).bind fun v37=>((gi x4 (w64 v35)).bind fun v38=>((gi x4 (w64 v35)).bind fun v39=>((x3 (v37,v39)).bind fun v40=>(if (!(decide (v40<0)))=true then (some (.inl ((w64 ((w64 v35)+1)),v34.2))) else (some (.inl (v34.1,(w64 v35))))))))))) else (some (.inr v34.1)))
def kfz (rec_slices_symMergeCmpFunc_box_line_m0:Int->Int->Int->((Line×Line)->Option Int)->(List Line)->Option (List Line)) (x0:Int) (x1:Int) (x2:Int) (x3:((Line×Line)->Option Int)) (x4:(List Line)):Option (List Line):=
 (if ((w64 (x1-x0))==1)=true then ((iter (kfc x0 x3 x4) (x1,x2)).bind fun v7=>((iter (kfi v7) (x0,x4)).bind fun v15=>(some v15))) else (if ((w64 (x2-x1))==1)=true then ((iter (kff x1 x3 x4) (x0,x1)).bind fun v23=>((iter (kfm v23) (x1,x4)).bind fun v31=>(some v31))) else ((gshr .u64 (IntKind.wrap .u64 (w64 (x0+x2))) 1).bind fun v32=>((if (decide ((w64 v32)<x1))=true then (some ((w64 ((w64 ((w64 v32)+x1))-x2)),(w64 v32))) else (some (x0,x1))).bind fun v33=>((iter (kfl x1 x3 x4 v32) v33).bind fun v41=>((if (decide (v41<x1))=true then (some (decide (x1<(w64 ((w64 ((w64 v32)+x1))-v41))))) else (some false)).bind fun v42=>((if v42=true then ((kcO v41 x1 (w64 ((w64 ((w64 v32)+x1))-v41)) x3 x4).bind fun v43=>(some v43)) else (some x4)).bind fun v44=>((if (decide (x0<v41))=true then (some (decide (v41<(w64 v32)))) else (some false)).bind fun v45=>((if v45=true then ((rec_slices_symMergeCmpFunc_box_line_m0 x0 v41 (w64 v32) x3 v44).bind fun v46=>(some v46)) else (some v44)).bind fun v47=>(if (decide ((w64 v32)<(w64 ((w64 ((w64 v32)+x1))-v41))))=true then (if (decide ((w64 ((w64 ((w64 v32)+x1))-v41))<x2))=true then ((rec_slices_symMergeCmpFunc_box_line_m0 (w64 v32) (w64 ((w64 ((w64 v32)+x1))-v41)) x2 x3 v47).bind fun v48=>(some v48)) else (some v47)) else (some v47)))))))))))
def kbc:Nat->Int->Int->Int->((Line×Line)->Option Int)->(List Line)->Option (List Line)
 | 0,_,_,_,_,_=>none
 | k+1,x0,x1,x2,x3,x4=>kfz (kbc k) x0 x1 x2 x3 x4
def kbm (x0:Int) (x1:Int) (x2:Int) (x3:((Line×Line)->Option Int)) (x4:(List Line)):Option (List Line):=kbc 1000000 x0 x1 x2 x3 x4
def kfP (x0:Int) (x1:((Line×Line)->Option Int)) (v0:(Int×Int×(List Line))):Option ((Int×Int×(List Line))⊕(Int×(List Line))):=
 (if (decide (v0.1<=x0))=true then ((kaU v0.2.1 v0.1 x1 v0.2.2).bind fun v1=>(some (.inl ((w64 (v0.1+20)),v0.1,v1)))) else (some (.inr v0.2)))
def kfF (x0:Int) (x1:((Line×Line)->Option Int)) (v4:(Int×(List Line))) (v5:(Int×Int×(List Line))):Option ((Int×Int×(List Line))⊕(Int×(List Line))):=
 (if (decide (v5.1<=x0))=true then ((kbm v5.2.1 (w64 (v5.2.1+v4.1)) v5.1 x1 v5.2.2).bind fun v6=>(some (.inl ((w64 (v5.1+(w64 (2*v4.1)))),v5.1,v6)))) else (some (.inr v5.2)))
def kfS (x0:Int) (x1:((Line×Line)->Option Int)) (v4:(Int×(List Line))):Option ((Int×(List Line))⊕(List Line)):=
 (if (decide (v4.1<x0))=true then ((iter (kfF x0 x1 v4) ((w64 (2*v4.1)),0,v4.2)).bind fun v7=>(if (decide ((w64 (v7.1+v4.1))<x0))=true then ((kbm v7.1 (w64 (v7.1+v4.1)) x0 x1 v7.2).bind fun v8=>(some (.inl ((w64 (v4.1*2)),v8)))) else (some (.inl ((w64 (v4.1*2)),v7.2))))) else (some (.inr v4.2)))
def kcU (x0:Int) (x1:((Line×Line)->Option Int)) (x2:(List Line)):Option (List Line):=
 ((iter (kfP x0 x1) (20,0,x2)).bind fun v2=>((kaU v2.1 x0 x1 v2.2).bind fun v3=>((iter (kfS x0 x1) (20,v3)).bind fun v9=>(some v9))))
def kaG (x0:((Line×Line)->Option Int)) (x1:(List Line)):Option (List Line):=
 ((kcU (lenI x1) x0 x1).bind fun v0=>(some v0))
def kfD (x0:(Int×Int)) (x1:(List ((Int×Int)×Int))) (x2:Bool) (x3:Int) (x4:Int) (x5:Int):Option ((List ((Int×Int)×Int))×Bool×Int×Int×Int):=
 (if (mget x1 x0).isSome=true then (if (!x2)=true then (some (x1,true,((mget x1 x0).getD 0),x0)) else (if (decide (((mget x1 x0).getD 0)<x3))=true then (some (x1,true,((mget x1 x0).getD 0),x0)) else (if (((mget x1 x0).getD 0)==x3)=true then ((kiA x0 (x4,x5)).bind fun v0=>(if (decide (v0<0))=true then (some (x1,true,((mget x1 x0).getD 0),x0)) else (some (x1,x2,x3,x4,x5)))) else (some (x1,x2,x3,x4,x5))))) else (some (x1,x2,x3,x4,x5)))
def kmW (x0:(List Swap)) (x1:(Int×Int)) (v1:(Int×(List ((Int×Int)×Int))×Bool×Int×Int×Int)):Option ((Int×(List ((Int×Int)×Int))×Bool×Int×Int×Int)⊕(Int×Int×Int×Bool×(List ((Int×Int)×Int)))):=
 (if (decide (v1.1<(lenI x0)))=true then ((gi x0 v1.1).bind fun v2=>(if ((x1.1==v2.1)&&(x1.2==v2.2.1))=true then ((kfD v2.2.2 v1.2.1 v1.2.2.1 v1.2.2.2.1 v1.2.2.2.2.1 v1.2.2.2.2.2).bind fun v3=>(some (.inl ((w64 (v1.1+1)),v3)))) else (some (.inl ((w64 (v1.1+1)),v1.2))))) else (some (.inr (v1.2.2.2.1,v1.2.2.2.2.1,v1.2.2.2.2.2,v1.2.2.1,v1.2.1))))
def khj (x0:(List Swap)) (x1:(Int×Int)) (x2:(List ((Int×Int)×Int))):Option (Int×Int×Int×Bool×(List ((Int×Int)×Int))):=
 ((kfD x1 x2 false 0 0 0).bind fun v0=>((iter (kmW x0 x1) (0,v0)).bind fun v4=>(some v4)))
def kwe (x3:(List (Int×Int×Int))) (v3:(Int×(List ((Int×Int)×Int)))):Option ((Int×(List ((Int×Int)×Int)))⊕(List ((Int×Int)×Int))):=
 (if (decide (v3.1<(lenI x3)))=true then ((gi x3 v3.1).bind fun v4=>((kdR v4).bind fun v5=>(some (.inl ((w64 (v3.1+1)),(mput v3.2 v5 v4.2.2)))))) else (some (.inr v3.2)))
def kvR (x1:(List (Int×Int×Int))) (x2:(List Swap)) (v7:(Int×(List ((Int×Int)×Int))×(List Line))):Option ((Int×(List ((Int×Int)×Int))×(List Line))⊕(List Line)):=
 (if (decide (v7.1<(lenI x1)))=true then ((gi x1 v7.1).bind fun v8=>((kbZ v8).bind fun v9=>((khj x2 v9 v7.2.1).bind fun v10=>((gapp v7.2.2 [(v7.1,v10.1,v8.2.2,(v10.2.1,v10.2.2.1),v10.2.2.2.1)]).bind fun v11=>(some (.inl ((w64 (v7.1+1)),v10.2.2.2.2,v11))))))) else (some (.inr v7.2.2)))
def kwr (v13:(List Line)) (v15:Int):Option (Int⊕((Bill×Int)⊕Unit)):=
 (if (decide (v15<(lenI v13)))=true then ((gi v13 v15).bind fun v16=>((gi v13 v15).bind fun v17=>none)) else (some (.inr (.inr ()))))
def kwh (x3:(List (Int×Int×Int))) (v21:(Int×Int×Int×(List (Int×Int×Int)))):Option ((Int×Int×Int×(List (Int×Int×Int)))⊕((Bill×Int)⊕(Int×(List (Int×Int×Int))×Int))):=
 (if (decide (v21.1<(lenI x3)))=true then ((gi x3 v21.1).bind fun v22=>((kdR v22).bind fun v23=>(if (decide (1000<((mget [] v23).getD 0)))=true then (some (.inr (.inl (([],[],0),4)))) else (if (decide (0<((mget [] v23).getD 0)))=true then ((gapp v21.2.2.2 [(v22.1,v22.2.1,((mget [] v23).getD 0))]).bind fun v24=>(some (.inl ((w64 (v21.1+1)),v21.2.1,v21.2.2.1,v24)))) else (some (.inl ((w64 (v21.1+1)),v21.2))))))) else (some (.inr (.inr (v21.2.2.1,v21.2.2.2,v21.2.1)))))
def kwg (x3:(List (Int×Int×Int))) (v31:(Int×(List ((Int×Int)×Int)))):Option ((Int×(List ((Int×Int)×Int)))⊕(List ((Int×Int)×Int))):=
 (if (decide (v31.1<(lenI x3)))=true then ((gi x3 v31.1).bind fun v32=>((kdR v32).bind fun v33=>(some (.inl ((w64 (v31.1+1)),(mput v31.2 v33 v32.2.2)))))) else (some (.inr v31.2)))
def kws (x1:(List (Int×Int×Int))) (x2:(List Swap)) (v35:(Int×(List ((Int×Int)×Int))×(List Line))):Option ((Int×(List ((Int×Int)×Int))×(List Line))⊕(List Line)):=
 (if (decide (v35.1<(lenI x1)))=true then ((gi x1 v35.1).bind fun v36=>((kbZ v36).bind fun v37=>((khj x2 v37 v35.2.1).bind fun v38=>((gapp v35.2.2 [(v35.1,v38.1,v36.2.2,(v38.2.1,v38.2.2.1),v38.2.2.2.1)]).bind fun v39=>(some (.inl ((w64 (v35.1+1)),v38.2.2.2.2,v39))))))) else (some (.inr v35.2.2)))
def kwj (v41:(List Line)) (v43:(Int×(List (Int×Int×Int))×(List (List Int))×(List (List Int))×(List Int)×Int×(List Int)×Int×(List ((Int×Int)×Int)))):Option ((Int×(List (Int×Int×Int))×(List (List Int))×(List (List Int))×(List Int)×Int×(List Int)×Int×(List ((Int×Int)×Int)))⊕((Bill×Int)⊕((List ((Int×Int)×Int))×Int×kaj))):=
 (if (decide (v43.1<(lenI v41)))=true then ((gi v41 v43.1).bind fun v44=>((gi v41 v43.1).bind fun v45=>((kgQ v45.1 v45.2.2.1 v43.2.1 v43.2.2.1 v43.2.2.2.1 v43.2.2.2.2.1).bind fun v46=>((gi v43.2.2.2.2.2.2.1 v45.1).bind fun v47=>((if (decide (v46.1<v45.2.2.1))=true then (some (!v45.2.2.2.2)) else (some false)).bind fun v48=>(if v48=true then (some (.inr (.inl (([],[],0),80)))) else (bthO (.sm (.pr (.i .i64) (.pr (.sl (.pr (.i .i64) (.pr (.i .u8) (.i .i64)))) (.pr (.sl (.sl (.i .i64))) (.pr (.sl (.sl (.i .i64))) (.pr (.sl (.i .i64)) (.pr (.i .i64) (.pr (.sl (.i .i64)) (.pr (.i .i64) (.sl (.pr (.pr (.i .i64) (.i .u8)) (.i .i64))))))))))) (.sm (.pr tBill (.i .i64)) (.pr (.sl (.pr (.pr (.i .i64) (.i .u8)) (.i .i64))) (.pr (.i .i64) kvG)))) ((gi (ment v43.2.2.2.2.2.2.2.2 v45.2.2.2.1 0) (midx v43.2.2.2.2.2.2.2.2 v45.2.2.2.1)).bind fun v49=>(some (.inl ((w64 (v43.1+1)),v46.2.1,v46.2.2.1,v46.2.2.2.1,v46.2.2.2.2,(w64 (v43.2.2.2.2.2.1+(w64 ((w64 (v45.2.2.1-v46.1))*v45.2.1)))),(lset v43.2.2.2.2.2.2.1 v45.1 v46.1),v43.2.2.2.2.2.2.2.1,(mset (ment v43.2.2.2.2.2.2.2.2 v45.2.2.2.1 0) (midx v43.2.2.2.2.2.2.2.2 v45.2.2.2.1) (w64 (((mget v43.2.2.2.2.2.2.2.2 v45.2.2.2.1).getD 0)+(w64 (v45.2.2.1-v46.1))))))))) ((gi (ment v43.2.2.2.2.2.2.2.2 v45.2.2.2.1 0) (midx v43.2.2.2.2.2.2.2.2 v45.2.2.2.1)).bind fun v50=>(some (.inl ((w64 (v43.1+1)),v46.2.1,v46.2.2.1,v46.2.2.2.1,v46.2.2.2.2,(w64 (v43.2.2.2.2.2.1+(w64 ((w64 (v45.2.2.1-v46.1))*v45.2.1)))),(lset v43.2.2.2.2.2.2.1 v45.1 v46.1),v43.2.2.2.2.2.2.2.1,(mset (ment v43.2.2.2.2.2.2.2.2 v45.2.2.2.1 0) (midx v43.2.2.2.2.2.2.2.2 v45.2.2.2.1) (w64 (((mget (ment v43.2.2.2.2.2.2.2.2 v45.2.2.2.1 0) v45.2.2.2.1).getD 0)+(w64 (v45.2.2.1-v46.1)))))))))))))))) else (some (.inr (.inr (v43.2.2.2.2.2.2.2.2,v43.2.2.2.2.2.2.2.1,v43.2.2.2.2.2.1,v43.2.2.2.2.2.2.1)))))
def kwl (x3:(List (Int×Int×Int))) (v53:((List ((Int×Int)×Int))×Int×kaj)) (v54:(Int×Int×Int×(List (Int×Int×Int)))):Option ((Int×Int×Int×(List (Int×Int×Int)))⊕((Bill×Int)⊕(Int×(List (Int×Int×Int))×Int))):=
 (if (decide (v54.1<(lenI x3)))=true then ((gi x3 v54.1).bind fun v55=>((kdR v55).bind fun v56=>(if (decide (1000<((mget v53.1 v56).getD 0)))=true then (some (.inr (.inl (([],[],0),4)))) else (if (decide (0<((mget v53.1 v56).getD 0)))=true then ((gapp v54.2.2.2 [(v55.1,v55.2.1,((mget v53.1 v56).getD 0))]).bind fun v57=>(some (.inl ((w64 (v54.1+1)),v54.2.1,v54.2.2.1,v57)))) else (some (.inl ((w64 (v54.1+1)),v54.2))))))) else (some (.inr (.inr (v54.2.2.1,v54.2.2.2,v54.2.1)))))
def kvr (x0:(List (Int×Int×Int))) (x1:(List (Int×Int×Int))) (x2:(List Swap)) (x3:(List (Int×Int×Int))):Option (Bill×Int):=
 (elsO ((kid x0 x1 x2).bind fun v0=>(if (v0 != 0)=true then (some (([],[],0),v0)) else ((kei x3 60 (fun (u0:(Int×Int×Int))=>((kdR u0).bind fun u1=>(some u1)))).bind fun v1=>(if (!v1)=true then (some (([],[],0),2)) else ((kaO x3 (fun (u0:(Int×Int×Int))=>((klQ u0).bind fun u1=>(some u1)))).bind fun v2=>(if v2=true then (some (([],[],0),2)) else ((iter (kwe x3) (0,[])).bind fun v6=>((iter (kvR x1 x2) (0,v6,[])).bind fun v12=>((kaG (fun (u0:(Line×Line))=>((klV u0.1 u0.2).bind fun u1=>(some u1))) v12).bind fun v13=>((gmk (lenI x1) 0).bind fun v14=>((iter (kwr v13) 0).bind fun v18=>(match v18 with | .inl v19=>(some v19) | .inr v20=>((iter (kwh x3) (0,0,0,[])).bind fun v25=>(match v25 with | .inl v26=>(some v26) | .inr v27=>(some ((v14,v27.2.1,v27.1),0)))))))))))))))) ((kil x0 x1 x2).bind fun v28=>(if (v28.1 != 0)=true then (some (([],[],0),v28.1)) else ((kei x3 60 (fun (u0:(Int×Int×Int))=>((kdR u0).bind fun u1=>(some u1)))).bind fun v29=>(if (!v29)=true then (some (([],[],0),2)) else ((kaO x3 (fun (u0:(Int×Int×Int))=>((klQ u0).bind fun u1=>(some u1)))).bind fun v30=>(if v30=true then (some (([],[],0),2)) else ((iter (kwg x3) (0,[])).bind fun v34=>((iter (kws x1 x2) (0,v34,[])).bind fun v40=>((kaG (fun (u0:(Line×Line))=>((klV u0.1 u0.2).bind fun u1=>(some u1))) v40).bind fun v41=>((gmk (lenI x1) 0).bind fun v42=>((iter (kwj v41) (0,v28.2.1,v28.2.2.1,v28.2.2.2.1,v28.2.2.2.2,0,v42,0,[])).bind fun v51=>(match v51 with | .inl v52=>(some v52) | .inr v53=>((iter (kwl x3 v53) (0,v53.2.1,v53.2.2.1,[])).bind fun v58=>(match v58 with | .inl v59=>(some v59) | .inr v60=>(some ((v53.2.2.2,v60.2.1,v60.1),0)))))))))))))))))
def law08_plans:Option (List (List (Int×Int×Int))):=
 ((kbh 1 1 2).bind fun v0=>((kbh 1 1 1).bind fun v1=>((kbh 1 1 3).bind fun v2=>(some [[v0],[v1],[v2]]))))
def kln (x0:Int):Option Bool:=
 ((kfB 0 1000 x0).bind fun v0=>(some (!v0)))
def khL (x0:(List Int)) (x1:(Int->Option Bool)) (v0:Int):Option (Int⊕(Int⊕Unit)):=
 (if (decide (v0<(lenI x0)))=true then ((gi x0 v0).bind fun v1=>((x1 v1).bind fun v2=>(if v2=true then (some (.inr (.inl v0))) else (some (.inl (w64 (v0+1))))))) else (some (.inr (.inr ()))))
def kcu (x0:(List Int)) (x1:(Int->Option Bool)):Option Int:=
 ((iter (khL x0 x1) 0).bind fun v3=>(match v3 with | .inl v4=>(some v4) | .inr v5=>(some (-1))))
def kdU (x0:(List Int)) (x1:(Int->Option Bool)):Option Bool:=
 ((kcu x0 x1).bind fun v0=>(some (decide (0<=v0))))
def koN (x0:(List (List (Int×Int×Int)))) (x1:(List Int)):Option Int:=
 ((kdJ x0).bind fun v0=>(if (v0 != 0)=true then (some v0) else (if (decide (8<(lenI x0)))=true then (some 4) else (if ((lenI x1) != (lenI x0))=true then (some 2) else ((kdU x1 (fun (u0:Int)=>((kln u0).bind fun u1=>(some u1)))).bind fun v1=>(if v1=true then (some 2) else (some 0)))))))
def kow (x0:Int) (x1:Int):Option Int:=
 (some (w64 (x0-x1)))
def kot (x0:(Int×Int×Int)):Option Bool:=
 (some (decide (x0.2.2<0)))
def kpz (x0:(List (Int×Int×Int))) (x1:(List (Int×Int×Int))):Option ((List (Int×Int×Int))×Int):=
 ((kdJ [x0,x1]).bind fun v0=>(if (v0 != 0)=true then (some ([],v0)) else ((klI x0 x1 (fun (u0:(Int×Int))=>((kow u0.1 u0.2).bind fun u1=>(some u1)))).bind fun v1=>((kaV v1 (fun (u0:(Int×Int×Int))=>((kot u0).bind fun u1=>(some u1)))).bind fun v2=>(if v2=true then (some ([],6)) else (some (v1,0)))))))
def kaq (x0:(List (Int×Int×Int))):Option (List (Int×Int×Int)):=
 (if (isE x0)=true then (bthO (.sl (.pr (.i .i64) (.pr (.i .u8) (.i .i64)))) (some []) ((gapp [] x0).bind fun v0=>(some v0))) else ((gapp [] x0).bind fun v1=>(some v1)))
def kbW:Nat->List (List (Int×Int×Int))->Int->Int->List (Int×Int×Int)->Option (List (Int×List (Int×Int×Int)))
 | 0,_,_,_,_=>none
 | d+1,ps,i,s,l=>
  if i=lenI ps then some [(s,l)] else
   (gi ps i).bind fun p=>(kpz l p).bind fun r=>
    if r.2=0 then (gshl .i64 1 i).bind fun b=>(kbW d ps (w64 (i+1)) (bitsI .or .i64 s b) r.1).bind fun x=>(kbW d ps (w64 (i+1)) s l).bind fun y=>some (x++y)
    else kbW d ps (w64 (i+1)) s l
def khm (_:Option (List (Int×List (Int×Int×Int)))) (x0:List (List (Int×Int×Int))) (x1:List (Int×Int×Int)):Option (List (Int×List (Int×Int×Int))):=
 (kaq x1).bind fun l=>kbW (x0.length+1) x0 0 0 l
def knu (x0:(List (Int×Int×Int))) (x1:(List (List (Int×Int×Int)))):Option ((List (List (Int×Int×Int)))×(List (Int×Int×Int))):=
 (some (x1,x0))
def krd (x0:Int) (x1:(List Int)) (v0:(Int×kaj)):Option ((Int×kaj)⊕kaj):=
 (if (decide (v0.1<(lenI x1)))=true then ((gi x1 v0.1).bind fun v1=>((gshr .i64 x0 v0.1).bind fun v2=>(if ((bitsI .and .i64 v2 1)==1)=true then ((gapp v0.2.2 [v0.1]).bind fun v3=>(some (.inl ((w64 (v0.1+1)),(w64 (v0.2.1+v1)),v3)))) else (some (.inl ((w64 (v0.1+1)),v0.2)))))) else (some (.inr v0.2)))
def koM (x0:Int) (x1:(List Int)):Option ((List Int)×Int):=
 ((iter (krd x0 x1) (0,0,[])).bind fun v4=>(some (v4.2,v4.1)))
def kiD (x0:(List Int)) (x1:(List Int)) (v0:Int):Option (Int⊕(Int⊕Unit)):=
 (if (decide (v0<(lenI x0)))=true then ((gi x0 v0).bind fun v1=>(if (decide ((lenI x1)<=v0))=true then (some (.inr (.inl 1))) else ((gi x1 v0).bind fun v2=>((keZ v1 v2).bind fun v3=>(if (v3 != 0)=true then (some (.inr (.inl v3))) else (some (.inl (w64 (v0+1))))))))) else (some (.inr (.inr ()))))
def kfA (x0:(List Int)) (x1:(List Int)):Option Int:=
 ((iter (kiD x0 x1) 0).bind fun v4=>(match v4 with | .inl v5=>(some v5) | .inr v6=>(if (decide ((lenI x0)<(lenI x1)))=true then (some (-1)) else (some 0))))
def ksq (x2:(List Int)) (v4:(List (Int×(List (Int×Int×Int))))) (v5:(Int×knJ)):Option ((Int×knJ)⊕((knJ×Int)⊕knJ)):=
 (if (decide (v5.1<(lenI v4)))=true then ((gi v4 v5.1).bind fun v6=>((koM v6.1 x2).bind fun v7=>(if (decide (v5.2.2.1<v7.2))=true then ((kaq v6.2).bind fun v8=>(some (.inl ((v5.1+1),v7.1,v7.2,v8)))) else (if (v7.2==v5.2.2.1)=true then ((keZ (lenI v7.1) (lenI v5.2.1)).bind fun v9=>((kfA v7.1 v5.2.1).bind fun v10=>((klP [v9,v10]).bind fun v11=>(if (decide (v11<0))=true then ((kaq v6.2).bind fun v12=>(some (.inl ((v5.1+1),v7.1,v7.2,v12)))) else (some (.inl ((v5.1+1),v5.2))))))) else (some (.inl ((v5.1+1),v5.2))))))) else (some (.inr (.inr v5.2))))
def kpP (x0:(List (Int×Int×Int))) (x1:(List (List (Int×Int×Int)))) (x2:(List Int)):Option (knJ×Int):=
 ((kdJ [x0]).bind fun v0=>((if (v0==0)=true then ((koN x1 x2).bind fun v1=>(some v1)) else (some v0)).bind fun v2=>(if (v2 != 0)=true then (some (([],0,[]),v2)) else ((knu x0 x1).bind fun v3=>((runI fun o=>(khm o v3.1 v3.2)).bind fun v4=>((iter (ksq x2 v4) (0,[],(-1),[])).bind fun v13=>(match v13 with | .inl v14=>(some v14) | .inr v15=>(some (v15,0)))))))))
def kaS (o:Option (List Int)) (x0:(List Int)) (v0:kaj):Option (kaj⊕((List Int)⊕(List Int))):=
 (if (decide (v0.1<(lenI x0)))=true then ((gi x0 v0.1).bind fun v1=>((gpre (.i .i64) o v0.2 v1).bind fun v2=>(some (.inl ((w64 (v0.1+1)),v2))))) else (some (.inr (.inr v0.2))))
def kaJ (o:Option (List Int)) (x0:(List Int)):Option (List Int):=
 ((iter (kaS o x0) (0,[])).bind fun v3=>(match v3 with | .inl v4=>(some v4) | .inr v5=>(some v5)))
def kcs (x0:(List Int)):Option (List Int):=
 (some x0)
def kpO (x0:Int):Option Int:=
 ((if (decide (65536<=x0))=true then ((gshr .u32 x0 16).bind fun v0=>(some (v0,16))) else (some (x0,0))).bind fun v1=>(if (decide (256<=v1.1))=true then ((gshr .u32 v1.1 8).bind fun v2=>((gstr [0,1,2,2,3,3,3,3,4,4,4,4,4,4,4,4,5,5,5,5,5,5,5,5,5,5,5,5,5,5,5,5,6,6,6,6,6,6,6,6,6,6,6,6,6,6,6,6,6,6,6,6,6,6,6,6,6,6,6,6,6,6,6,6,7,7,7,7,7,7,7,7,7,7,7,7,7,7,7,7,7,7,7,7,7,7,7,7,7,7,7,7,7,7,7,7,7,7,7,7,7,7,7,7,7,7,7,7,7,7,7,7,7,7,7,7,7,7,7,7,7,7,7,7,7,7,7,7,8,8,8,8,8,8,8,8,8,8,8,8,8,8,8,8,8,8,8,8,8,8,8,8,8,8,8,8,8,8,8,8,8,8,8,8,8,8,8,8,8,8,8,8,8,8,8,8,8,8,8,8,8,8,8,8,8,8,8,8,8,8,8,8,8,8,8,8,8,8,8,8,8,8,8,8,8,8,8,8,8,8,8,8,8,8,8,8,8,8,8,8,8,8,8,8,8,8,8,8,8,8,8,8,8,8,8,8,8,8,8,8,8,8,8,8,8,8,8,8,8,8,8,8,8,8,8,8] (IntKind.wrap .u8 v2)).bind fun v3=>(some (w64 ((w64 (v1.2+8))+(w64 v3)))))) else ((gstr [0,1,2,2,3,3,3,3,4,4,4,4,4,4,4,4,5,5,5,5,5,5,5,5,5,5,5,5,5,5,5,5,6,6,6,6,6,6,6,6,6,6,6,6,6,6,6,6,6,6,6,6,6,6,6,6,6,6,6,6,6,6,6,6,7,7,7,7,7,7,7,7,7,7,7,7,7,7,7,7,7,7,7,7,7,7,7,7,7,7,7,7,7,7,7,7,7,7,7,7,7,7,7,7,7,7,7,7,7,7,7,7,7,7,7,7,7,7,7,7,7,7,7,7,7,7,7,7,8,8,8,8,8,8,8,8,8,8,8,8,8,8,8,8,8,8,8,8,8,8,8,8,8,8,8,8,8,8,8,8,8,8,8,8,8,8,8,8,8,8,8,8,8,8,8,8,8,8,8,8,8,8,8,8,8,8,8,8,8,8,8,8,8,8,8,8,8,8,8,8,8,8,8,8,8,8,8,8,8,8,8,8,8,8,8,8,8,8,8,8,8,8,8,8,8,8,8,8,8,8,8,8,8,8,8,8,8,8,8,8,8,8,8,8,8,8,8,8,8,8,8,8,8,8,8,8] (IntKind.wrap .u8 v1.1)).bind fun v4=>(some (w64 (v1.2+(w64 v4)))))))
def kkk (x0:Int):Option Int:=
 ((if (decide (4294967296<=x0))=true then ((gshr .u64 x0 32).bind fun v0=>(some (v0,32))) else (some (x0,0))).bind fun v1=>((if (decide (65536<=v1.1))=true then ((gshr .u64 v1.1 16).bind fun v2=>(some (v2,(w64 (v1.2+16))))) else (some v1)).bind fun v3=>(if (decide (256<=v3.1))=true then ((gshr .u64 v3.1 8).bind fun v4=>((gstr [0,1,2,2,3,3,3,3,4,4,4,4,4,4,4,4,5,5,5,5,5,5,5,5,5,5,5,5,5,5,5,5,6,6,6,6,6,6,6,6,6,6,6,6,6,6,6,6,6,6,6,6,6,6,6,6,6,6,6,6,6,6,6,6,7,7,7,7,7,7,7,7,7,7,7,7,7,7,7,7,7,7,7,7,7,7,7,7,7,7,7,7,7,7,7,7,7,7,7,7,7,7,7,7,7,7,7,7,7,7,7,7,7,7,7,7,7,7,7,7,7,7,7,7,7,7,7,7,8,8,8,8,8,8,8,8,8,8,8,8,8,8,8,8,8,8,8,8,8,8,8,8,8,8,8,8,8,8,8,8,8,8,8,8,8,8,8,8,8,8,8,8,8,8,8,8,8,8,8,8,8,8,8,8,8,8,8,8,8,8,8,8,8,8,8,8,8,8,8,8,8,8,8,8,8,8,8,8,8,8,8,8,8,8,8,8,8,8,8,8,8,8,8,8,8,8,8,8,8,8,8,8,8,8,8,8,8,8,8,8,8,8,8,8,8,8,8,8,8,8,8,8,8,8,8,8] (IntKind.wrap .u8 v4)).bind fun v5=>(some (w64 ((w64 (v3.2+8))+(w64 v5)))))) else ((gstr [0,1,2,2,3,3,3,3,4,4,4,4,4,4,4,4,5,5,5,5,5,5,5,5,5,5,5,5,5,5,5,5,6,6,6,6,6,6,6,6,6,6,6,6,6,6,6,6,6,6,6,6,6,6,6,6,6,6,6,6,6,6,6,6,7,7,7,7,7,7,7,7,7,7,7,7,7,7,7,7,7,7,7,7,7,7,7,7,7,7,7,7,7,7,7,7,7,7,7,7,7,7,7,7,7,7,7,7,7,7,7,7,7,7,7,7,7,7,7,7,7,7,7,7,7,7,7,7,8,8,8,8,8,8,8,8,8,8,8,8,8,8,8,8,8,8,8,8,8,8,8,8,8,8,8,8,8,8,8,8,8,8,8,8,8,8,8,8,8,8,8,8,8,8,8,8,8,8,8,8,8,8,8,8,8,8,8,8,8,8,8,8,8,8,8,8,8,8,8,8,8,8,8,8,8,8,8,8,8,8,8,8,8,8,8,8,8,8,8,8,8,8,8,8,8,8,8,8,8,8,8,8,8,8,8,8,8,8,8,8,8,8,8,8,8,8,8,8,8,8,8,8,8,8,8,8] (IntKind.wrap .u8 v3.1)).bind fun v6=>(some (w64 (v3.2+(w64 v6))))))))
def kgC (x0:Int):Option Int:=
 ((kkk x0).bind fun v0=>(some v0))
def kaw (x0:Int) (x1:Int):Option Bool:=
 ((kdq x0).bind fun v0=>(if v0=true then ((kdq x1).bind fun v1=>(if (!v1)=true then (some true) else (some (decide (x0<x1))))) else (some (decide (x0<x1)))))
def kgY (x0:Int):Option Int:=
 ((kgC (IntKind.wrap .u64 x0)).bind fun v0=>((gshl .u64 1 v0).bind fun v1=>(some v1)))
def kfX (x0:Int):Option (Int×Int):=
 ((gshl .u64 x0 13).bind fun v0=>((gshr .u64 (bitsI .xor .u64 x0 v0) 7).bind fun v1=>((gshl .u64 (bitsI .xor .u64 (bitsI .xor .u64 x0 v0) v1) 17).bind fun v2=>(some ((bitsI .xor .u64 (bitsI .xor .u64 (bitsI .xor .u64 x0 v0) v1) v2),(bitsI .xor .u64 (bitsI .xor .u64 (bitsI .xor .u64 x0 v0) v1) v2))))))
def kbp (x0:(List Int)) (x1:Int) (x2:Int) (x3:Int):Option (Int×Int×Int):=
 ((gi x0 x2).bind fun v0=>((gi x0 x1).bind fun v1=>((kaw v0 v1).bind fun v2=>(if v2=true then (some (x2,x1,(w64 (x3+1)))) else (some (x1,x2,x3))))))
def kcg (x0:(List Int)) (x1:Int) (x2:Int) (x3:Int) (x4:Int):Option (Int×Int):=
 ((kbp x0 x1 x2 x4).bind fun v0=>((kbp x0 v0.2.1 x3 v0.2.2).bind fun v1=>((kbp x0 v0.1 v1.1 v1.2.2).bind fun v2=>(some v2.2))))
def kaI (x0:(List Int)) (x1:Int) (x2:Int):Option (Int×Int):=
 ((kcg x0 (w64 (x1-1)) x1 (w64 (x1+1)) x2).bind fun v0=>(some v0))
def kdV (x0:(List Int)) (x1:Int) (x2:Int):Option (Int×Int):=
 ((gquo .i64 (w64 (x2-x1)) 4).bind fun v0=>((gquo .i64 (w64 (x2-x1)) 4).bind fun v1=>((gquo .i64 (w64 (x2-x1)) 4).bind fun v2=>((if (decide (8<=(w64 (x2-x1))))=true then ((if (decide (50<=(w64 (x2-x1))))=true then ((kaI x0 (w64 (x1+(w64 (v0*1)))) 0).bind fun v3=>((kaI x0 (w64 (x1+(w64 (v1*2)))) v3.2).bind fun v4=>((kaI x0 (w64 (x1+(w64 (v2*3)))) v4.2).bind fun v5=>(some (v3.1,v4.1,v5))))) else (some ((w64 (x1+(w64 (v0*1)))),(w64 (x1+(w64 (v1*2)))),(w64 (x1+(w64 (v2*3)))),0))).bind fun v6=>((kcg x0 v6.1 v6.2.1 v6.2.2.1 v6.2.2.2).bind fun v7=>(some v7))) else (some ((w64 (x1+(w64 (v1*2)))),0))).bind fun v8=>(if (v8.2==0)=true then (some (v8.1,1)) else (if (v8.2==12)=true then (some (v8.1,2)) else (some (v8.1,0))))))))
def kaR (v0:(List Int)) (v1:kaj):Option (kaj⊕((List Int)⊕(List Int))):=
 (if (decide (v1.1<(lenI v0)))=true then ((gi v0 v1.1).bind fun v2=>((gapp v1.2 [v2]).bind fun v3=>(some (.inl ((v1.1+1),v3))))) else (some (.inr (.inr v1.2))))
def kbN (x0:(List Int)) (x1:(List Int)):Option (List Int):=
 ((runI fun o=>(kaJ o x1)).bind fun v0=>((iter (kaR v0) (0,x0)).bind fun v4=>(match v4 with | .inl v5=>(some v5) | .inr v6=>(some v6))))
def kck (x0:(List Int)):Option (List Int):=
 ((kbN [] x0).bind fun v0=>(some v0))
def kas (x0:Int) (v1:kaj):Option (kaj⊕(List Int)):=
 (if (decide (x0<v1.1))=true then ((gi v1.2 v1.1).bind fun v2=>((gi v1.2 v1.1).bind fun v3=>((gi v1.2 (w64 (v1.1-1))).bind fun v4=>((gi v1.2 (w64 (v1.1-1))).bind fun v5=>((kaw v3 v5).bind fun v6=>(if v6=true then ((gi v1.2 (w64 (v1.1-1))).bind fun v7=>((gi v1.2 (w64 (v1.1-1))).bind fun v8=>((gi v1.2 v1.1).bind fun v9=>((gi v1.2 v1.1).bind fun v10=>((gi v1.2 v1.1).bind fun v11=>((gi (lset v1.2 v1.1 v8) (w64 (v1.1-1))).bind fun v12=>(some (.inl ((w64 (v1.1-1)),(lset (lset v1.2 v1.1 v8) (w64 (v1.1-1)) v10)))))))))) else (some (.inr v1.2)))))))) else (some (.inr v1.2)))
def kar (x0:Int) (x1:Int) (v0:kaj):Option (kaj⊕(List Int)):=
 (if (decide (v0.1<x1))=true then ((iter (kas x0) v0).bind fun v13=>(some (.inl ((w64 (v0.1+1)),v13)))) else (some (.inr v0.2)))
def kaL (x0:Int) (x1:Int) (x2:(List Int)):Option (List Int):=
 ((iter (kar x0 x1) ((w64 (x0+1)),x2)).bind fun v14=>(some v14))
def kgK (x1:Int) (x2:Int) (v0:kaj):Option (kaj⊕((List Int)⊕(List Int))):=
 (if (decide (x1<=(w64 ((w64 (2*v0.1))+1))))=true then (some (.inr (.inr v0.2))) else ((if (decide ((w64 ((w64 ((w64 (2*v0.1))+1))+1))<x1))=true then ((gi v0.2 (w64 (x2+(w64 ((w64 (2*v0.1))+1))))).bind fun v1=>((gi v0.2 (w64 (x2+(w64 ((w64 (2*v0.1))+1))))).bind fun v2=>((gi v0.2 (w64 ((w64 (x2+(w64 ((w64 (2*v0.1))+1))))+1))).bind fun v3=>((gi v0.2 (w64 ((w64 (x2+(w64 ((w64 (2*v0.1))+1))))+1))).bind fun v4=>((kaw v2 v4).bind fun v5=>(some v5)))))) else (some false)).bind fun v6=>((if v6=true then (some (w64 ((w64 ((w64 (2*v0.1))+1))+1))) else (some (w64 ((w64 (2*v0.1))+1)))).bind fun v7=>((gi v0.2 (w64 (x2+v0.1))).bind fun v8=>((gi v0.2 (w64 (x2+v0.1))).bind fun v9=>((gi v0.2 (w64 (x2+v7))).bind fun v10=>((gi v0.2 (w64 (x2+v7))).bind fun v11=>((kaw v9 v11).bind fun v12=>(if (!v12)=true then (some (.inr (.inl v0.2))) else ((gi v0.2 (w64 (x2+v7))).bind fun v13=>((gi v0.2 (w64 (x2+v7))).bind fun v14=>((gi v0.2 (w64 (x2+v0.1))).bind fun v15=>((gi v0.2 (w64 (x2+v0.1))).bind fun v16=>((gi v0.2 (w64 (x2+v0.1))).bind fun v17=>((gi (lset v0.2 (w64 (x2+v0.1)) v14) (w64 (x2+v7))).bind fun v18=>(some (.inl (v7,(lset (lset v0.2 (w64 (x2+v0.1)) v14) (w64 (x2+v7)) v16)))))))))))))))))))
def kbM (x0:Int) (x1:Int) (x2:Int) (x3:(List Int)):Option (List Int):=
 ((iter (kgK x1 x2) (x0,x3)).bind fun v19=>(match v19 with | .inl v20=>(some v20) | .inr v21=>(some v21)))
def kgO (x0:Int) (x1:Int) (v1:kaj):Option (kaj⊕(List Int)):=
 (if (decide (0<=v1.1))=true then ((kbM v1.1 (w64 (x1-x0)) x0 v1.2).bind fun v2=>(some (.inl ((w64 (v1.1-1)),v2)))) else (some (.inr v1.2)))
def kgG (x0:Int) (v4:kaj):Option (kaj⊕(List Int)):=
 (if (decide (0<=v4.1))=true then ((gi v4.2 (w64 (x0+v4.1))).bind fun v5=>((gi v4.2 (w64 (x0+v4.1))).bind fun v6=>((gi v4.2 x0).bind fun v7=>((gi v4.2 x0).bind fun v8=>((gi v4.2 x0).bind fun v9=>((gi (lset v4.2 x0 v6) (w64 (x0+v4.1))).bind fun v10=>((kbM 0 v4.1 x0 (lset (lset v4.2 x0 v6) (w64 (x0+v4.1)) v8)).bind fun v11=>(some (.inl ((w64 (v4.1-1)),v11)))))))))) else (some (.inr v4.2)))
def kdT (x0:Int) (x1:Int) (x2:(List Int)):Option (List Int):=
 ((gquo .i64 (w64 ((w64 (x1-x0))-1)) 2).bind fun v0=>((iter (kgO x0 x1) (v0,x2)).bind fun v3=>((iter (kgG x0) ((w64 ((w64 (x1-x0))-1)),v3)).bind fun v12=>(some v12))))
def kfk (x0:Int) (x1:Int) (v0:Int) (v2:(Int×Int×(List Int))):Option ((Int×Int×(List Int))⊕(List Int)):=
 ((gquo .i64 (w64 (x1-x0)) 4).bind fun v3=>(if (decide (v2.1<=(w64 ((w64 (x0+(w64 (v3*2))))+1))))=true then ((kfX v2.2.1).bind fun v4=>((if (decide ((w64 (x1-x0))<=(w64 (bitsI .and .u64 v4.1 (IntKind.wrap .u64 (v0-1))))))=true then (some (w64 ((w64 (bitsI .and .u64 v4.1 (IntKind.wrap .u64 (v0-1))))-(w64 (x1-x0))))) else (some (w64 (bitsI .and .u64 v4.1 (IntKind.wrap .u64 (v0-1)))))).bind fun v5=>((gi v2.2.2 (w64 (x0+v5))).bind fun v6=>((gi v2.2.2 (w64 (x0+v5))).bind fun v7=>((gi v2.2.2 v2.1).bind fun v8=>((gi v2.2.2 v2.1).bind fun v9=>((gi v2.2.2 v2.1).bind fun v10=>((gi (lset v2.2.2 v2.1 v7) (w64 (x0+v5))).bind fun v11=>(some (.inl ((w64 (v2.1+1)),v4.2,(lset (lset v2.2.2 v2.1 v7) (w64 (x0+v5)) v9)))))))))))) else (some (.inr v2.2.2))))
def kcA (x0:Int) (x1:Int) (x2:(List Int)):Option (List Int):=
 (if (decide (8<=(w64 (x1-x0))))=true then ((kgY (w64 (x1-x0))).bind fun v0=>((gquo .i64 (w64 (x1-x0)) 4).bind fun v1=>((iter (kfk x0 x1 v0) ((w64 ((w64 (x0+(w64 (v1*2))))-1)),(IntKind.wrap .u64 (w64 (x1-x0))),x2)).bind fun v12=>(some v12)))) else (some x2))
def kfp (v0:(Int×kaj)):Option ((Int×kaj)⊕(List Int)):=
 (if (decide (v0.1<v0.2.1))=true then ((gi v0.2.2 v0.2.1).bind fun v1=>((gi v0.2.2 v0.2.1).bind fun v2=>((gi v0.2.2 v0.1).bind fun v3=>((gi v0.2.2 v0.1).bind fun v4=>((gi v0.2.2 v0.1).bind fun v5=>((gi (lset v0.2.2 v0.1 v2) v0.2.1).bind fun v6=>(some (.inl ((w64 (v0.1+1)),(w64 (v0.2.1-1)),(lset (lset v0.2.2 v0.1 v2) v0.2.1 v4)))))))))) else (some (.inr v0.2.2)))
def kcF (x0:Int) (x1:Int) (x2:(List Int)):Option (List Int):=
 ((iter (kfp) (x0,(w64 (x1-1)),x2)).bind fun v7=>(some v7))
def kdI (x1:Int) (v0:(Int×kaj)) (v1:Int):Option (Int⊕Int):=
 (if (decide (v1<x1))=true then ((gi v0.2.2 v1).bind fun v2=>((gi v0.2.2 v1).bind fun v3=>((gi v0.2.2 (w64 (v1-1))).bind fun v4=>((gi v0.2.2 (w64 (v1-1))).bind fun v5=>((kaw v3 v5).bind fun v6=>(if (!v6)=true then (some (.inl (w64 (v1+1)))) else (some (.inr v1)))))))) else (some (.inr v1)))
def kdM (v14:kaj):Option (kaj⊕(List Int)):=
 (if (decide (1<=v14.1))=true then ((gi v14.2 v14.1).bind fun v15=>((gi v14.2 v14.1).bind fun v16=>((gi v14.2 (w64 (v14.1-1))).bind fun v17=>((gi v14.2 (w64 (v14.1-1))).bind fun v18=>((kaw v16 v18).bind fun v19=>(if (!v19)=true then (some (.inr v14.2)) else ((gi v14.2 (w64 (v14.1-1))).bind fun v20=>((gi v14.2 (w64 (v14.1-1))).bind fun v21=>((gi v14.2 v14.1).bind fun v22=>((gi v14.2 v14.1).bind fun v23=>((gi v14.2 v14.1).bind fun v24=>((gi (lset v14.2 v14.1 v21) (w64 (v14.1-1))).bind fun v25=>(some (.inl ((w64 (v14.1-1)),(lset (lset v14.2 v14.1 v21) (w64 (v14.1-1)) v23)))))))))))))))) else (some (.inr v14.2)))
def kdL (x1:Int) (v28:kaj):Option (kaj⊕(List Int)):=
 (if (decide (v28.1<x1))=true then ((gi v28.2 v28.1).bind fun v29=>((gi v28.2 v28.1).bind fun v30=>((gi v28.2 (w64 (v28.1-1))).bind fun v31=>((gi v28.2 (w64 (v28.1-1))).bind fun v32=>((kaw v30 v32).bind fun v33=>(if (!v33)=true then (some (.inr v28.2)) else ((gi v28.2 (w64 (v28.1-1))).bind fun v34=>((gi v28.2 (w64 (v28.1-1))).bind fun v35=>((gi v28.2 v28.1).bind fun v36=>((gi v28.2 v28.1).bind fun v37=>((gi v28.2 v28.1).bind fun v38=>((gi (lset v28.2 v28.1 v35) (w64 (v28.1-1))).bind fun v39=>(some (.inl ((w64 (v28.1+1)),(lset (lset v28.2 v28.1 v35) (w64 (v28.1-1)) v37)))))))))))))))) else (some (.inr v28.2)))
def kdQ (x0:Int) (x1:Int) (v0:(Int×kaj)):Option ((Int×kaj)⊕((Bool×(List Int))⊕(List Int))):=
 (if (decide (v0.1<5))=true then ((iter (kdI x1 v0) v0.2.1).bind fun v7=>(if (v7==x1)=true then (some (.inr (.inl (true,v0.2.2)))) else (if (decide ((w64 (x1-x0))<50))=true then (some (.inr (.inl (false,v0.2.2)))) else ((gi v0.2.2 (w64 (v7-1))).bind fun v8=>((gi v0.2.2 (w64 (v7-1))).bind fun v9=>((gi v0.2.2 v7).bind fun v10=>((gi v0.2.2 v7).bind fun v11=>((gi v0.2.2 v7).bind fun v12=>((gi (lset v0.2.2 v7 v9) (w64 (v7-1))).bind fun v13=>((if (decide (2<=(w64 (v7-x0))))=true then ((iter (kdM) ((w64 (v7-1)),(lset (lset v0.2.2 v7 v9) (w64 (v7-1)) v11))).bind fun v26=>(some v26)) else (some (lset (lset v0.2.2 v7 v9) (w64 (v7-1)) v11))).bind fun v27=>(if (decide (2<=(w64 (x1-v7))))=true then ((iter (kdL x1) ((w64 (v7+1)),v27)).bind fun v40=>(some (.inl ((w64 (v0.1+1)),v7,v40)))) else (some (.inl ((w64 (v0.1+1)),v7,v27)))))))))))))) else (some (.inr (.inr v0.2.2))))
def kbF (x0:Int) (x1:Int) (x2:(List Int)):Option (Bool×(List Int)):=
 ((iter (kdQ x0 x1) (0,(w64 (x0+1)),x2)).bind fun v41=>(match v41 with | .inl v42=>(some v42) | .inr v43=>(some (false,v43))))
def keR (x0:Int) (v6:(Int×kaj)) (v7:Int):Option (Int⊕Int):=
 (if (decide (v7<=v6.2.1))=true then ((gi v6.2.2 x0).bind fun v8=>((gi v6.2.2 x0).bind fun v9=>((gi v6.2.2 v7).bind fun v10=>((gi v6.2.2 v7).bind fun v11=>((kaw v9 v11).bind fun v12=>(if (!v12)=true then (some (.inl (w64 (v7+1)))) else (some (.inr v7)))))))) else (some (.inr v7)))
def keS (x0:Int) (v6:(Int×kaj)) (v13:Int) (v14:Int):Option (Int⊕Int):=
 (if (decide (v13<=v14))=true then ((gi v6.2.2 x0).bind fun v15=>((gi v6.2.2 x0).bind fun v16=>((gi v6.2.2 v14).bind fun v17=>((gi v6.2.2 v14).bind fun v18=>((kaw v16 v18).bind fun v19=>(if v19=true then (some (.inl (w64 (v14-1)))) else (some (.inr v14)))))))) else (some (.inr v14)))
def keT (x0:Int) (v6:(Int×kaj)):Option ((Int×kaj)⊕kaj):=
 ((iter (keR x0 v6) v6.1).bind fun v13=>((iter (keS x0 v6 v13) v6.2.1).bind fun v20=>(if (decide (v20<v13))=true then (some (.inr (v13,v6.2.2))) else ((gi v6.2.2 v20).bind fun v21=>((gi v6.2.2 v20).bind fun v22=>((gi v6.2.2 v13).bind fun v23=>((gi v6.2.2 v13).bind fun v24=>((gi v6.2.2 v13).bind fun v25=>((gi (lset v6.2.2 v13 v22) v20).bind fun v26=>(some (.inl ((w64 (v13+1)),(w64 (v20-1)),(lset (lset v6.2.2 v13 v22) v20 v24)))))))))))))
def kcl (x0:Int) (x1:Int) (x2:Int) (x3:(List Int)):Option kaj:=
 ((gi x3 x2).bind fun v0=>((gi x3 x2).bind fun v1=>((gi x3 x0).bind fun v2=>((gi x3 x0).bind fun v3=>((gi x3 x0).bind fun v4=>((gi (lset x3 x0 v1) x2).bind fun v5=>((iter (keT x0) ((w64 (x0+1)),(w64 (x1-1)),(lset (lset x3 x0 v1) x2 v3))).bind fun v27=>(some v27))))))))
def kgp (x0:Int) (x1:Int) (x2:Int) (x3:(List Int)) (v1:Int) (v3:Int) (v6:Int):Option (Int⊕Int):=
 (if (decide (v6<=(w64 (x1-1))))=true then ((gi (lset (lset x3 x0 v1) x2 v3) v6).bind fun v7=>((gi (lset (lset x3 x0 v1) x2 v3) v6).bind fun v8=>((gi (lset (lset x3 x0 v1) x2 v3) x0).bind fun v9=>((gi (lset (lset x3 x0 v1) x2 v3) x0).bind fun v10=>((kaw v8 v10).bind fun v11=>(if v11=true then (some (.inl (w64 (v6+1)))) else (some (.inr v6)))))))) else (some (.inr v6)))
def kgl (x0:Int) (x2:Int) (x3:(List Int)) (v1:Int) (v3:Int) (v12:Int) (v13:Int):Option (Int⊕Int):=
 (if (decide (v12<=v13))=true then ((gi (lset (lset x3 x0 v1) x2 v3) v13).bind fun v14=>((gi (lset (lset x3 x0 v1) x2 v3) v13).bind fun v15=>((gi (lset (lset x3 x0 v1) x2 v3) x0).bind fun v16=>((gi (lset (lset x3 x0 v1) x2 v3) x0).bind fun v17=>((kaw v15 v17).bind fun v18=>(if (!v18)=true then (some (.inl (w64 (v13-1)))) else (some (.inr v13)))))))) else (some (.inr v13)))
def kgn (x0:Int) (v32:(Int×kaj)) (v33:Int):Option (Int⊕Int):=
 (if (decide (v33<=v32.2.1))=true then ((gi v32.2.2 v33).bind fun v34=>((gi v32.2.2 v33).bind fun v35=>((gi v32.2.2 x0).bind fun v36=>((gi v32.2.2 x0).bind fun v37=>((kaw v35 v37).bind fun v38=>(if v38=true then (some (.inl (w64 (v33+1)))) else (some (.inr v33)))))))) else (some (.inr v33)))
def kgm (x0:Int) (v32:(Int×kaj)) (v39:Int) (v40:Int):Option (Int⊕Int):=
 (if (decide (v39<=v40))=true then ((gi v32.2.2 v40).bind fun v41=>((gi v32.2.2 v40).bind fun v42=>((gi v32.2.2 x0).bind fun v43=>((gi v32.2.2 x0).bind fun v44=>((kaw v42 v44).bind fun v45=>(if (!v45)=true then (some (.inl (w64 (v40-1)))) else (some (.inr v40)))))))) else (some (.inr v40)))
def kgw (x0:Int) (v32:(Int×kaj)):Option ((Int×kaj)⊕kaj):=
 ((iter (kgn x0 v32) v32.1).bind fun v39=>((iter (kgm x0 v32 v39) v32.2.1).bind fun v46=>(if (decide (v46<v39))=true then (some (.inr (v46,v32.2.2))) else ((gi v32.2.2 v46).bind fun v47=>((gi v32.2.2 v46).bind fun v48=>((gi v32.2.2 v39).bind fun v49=>((gi v32.2.2 v39).bind fun v50=>((gi v32.2.2 v39).bind fun v51=>((gi (lset v32.2.2 v39 v48) v46).bind fun v52=>(some (.inl ((w64 (v39+1)),(w64 (v46-1)),(lset (lset v32.2.2 v39 v48) v46 v50)))))))))))))
def kdu (x0:Int) (x1:Int) (x2:Int) (x3:(List Int)):Option (Int×Bool×(List Int)):=
 ((gi x3 x2).bind fun v0=>((gi x3 x2).bind fun v1=>((gi x3 x0).bind fun v2=>((gi x3 x0).bind fun v3=>((gi x3 x0).bind fun v4=>((gi (lset x3 x0 v1) x2).bind fun v5=>((iter (kgp x0 x1 x2 x3 v1 v3) (w64 (x0+1))).bind fun v12=>((iter (kgl x0 x2 x3 v1 v3 v12) (w64 (x1-1))).bind fun v19=>(if (decide (v19<v12))=true then ((gi (lset (lset x3 x0 v1) x2 v3) x0).bind fun v20=>((gi (lset (lset x3 x0 v1) x2 v3) x0).bind fun v21=>((gi (lset (lset x3 x0 v1) x2 v3) v19).bind fun v22=>((gi (lset (lset x3 x0 v1) x2 v3) v19).bind fun v23=>((gi (lset (lset x3 x0 v1) x2 v3) v19).bind fun v24=>((gi (lset (lset (lset x3 x0 v1) x2 v3) v19 v21) x0).bind fun v25=>(some (v19,true,(lset (lset (lset (lset x3 x0 v1) x2 v3) v19 v21) x0 v23))))))))) else ((gi (lset (lset x3 x0 v1) x2 v3) v19).bind fun v26=>((gi (lset (lset x3 x0 v1) x2 v3) v19).bind fun v27=>((gi (lset (lset x3 x0 v1) x2 v3) v12).bind fun v28=>((gi (lset (lset x3 x0 v1) x2 v3) v12).bind fun v29=>((gi (lset (lset x3 x0 v1) x2 v3) v12).bind fun v30=>((gi (lset (lset (lset x3 x0 v1) x2 v3) v12 v27) v19).bind fun v31=>((iter (kgw x0) ((w64 (v12+1)),(w64 (v19-1)),(lset (lset (lset (lset x3 x0 v1) x2 v3) v12 v27) v19 v29))).bind fun v53=>((gi v53.2 x0).bind fun v54=>((gi v53.2 x0).bind fun v55=>((gi v53.2 v53.1).bind fun v56=>((gi v53.2 v53.1).bind fun v57=>((gi v53.2 v53.1).bind fun v58=>((gi (lset v53.2 v53.1 v55) x0).bind fun v59=>(some (v53.1,false,(lset (lset v53.2 v53.1 v55) x0 v57)))))))))))))))))))))))))
def kdf (rec_slices_pdqsortOrdered_int_m0:Int->Int->Int->(List Int)->Option (List Int)) (v0:(Int×Int×Int×Bool×Bool×(List Int))):Option ((Int×Int×Int×Bool×Bool×(List Int))⊕((List Int)⊕(List Int))):=
 (if (decide ((w64 (v0.1-v0.2.1))<=12))=true then ((kaL v0.2.1 v0.1 v0.2.2.2.2.2).bind fun v1=>(some (.inr (.inl v1)))) else (if (v0.2.2.1==0)=true then ((kdT v0.2.1 v0.1 v0.2.2.2.2.2).bind fun v2=>(some (.inr (.inl v2)))) else ((if (!v0.2.2.2.1)=true then ((kcA v0.2.1 v0.1 v0.2.2.2.2.2).bind fun v3=>(some ((w64 (v0.2.2.1-1)),v3))) else (some (v0.2.2.1,v0.2.2.2.2.2))).bind fun v4=>((kdV v4.2 v0.2.1 v0.1).bind fun v5=>((if (v5.2==2)=true then ((kcF v0.2.1 v0.1 v4.2).bind fun v6=>(some (1,(w64 ((w64 (v0.1-1))-(w64 (v5.1-v0.2.1)))),v6))) else (some (v5.2,v5.1,v4.2))).bind fun v7=>((if v0.2.2.2.1=true then (if v0.2.2.2.2.1=true then (some (v7.1==1)) else (some false)) else (some false)).bind fun v8=>(((if v8=true then ((kbF v0.2.1 v0.1 v7.2.2).bind fun v9=>(if v9.1=true then (some (.inl v9.2)) else (some (.inr v9.2)))) else (some (.inr v7.2.2))):Option ((List Int)⊕(List Int))).bind fun v10=>(match v10 with | .inl v11=>(some (.inr (.inl v11))) | .inr v12=>((if (decide (0<v0.2.1))=true then ((gi v12 (w64 (v0.2.1-1))).bind fun v13=>((gi v12 (w64 (v0.2.1-1))).bind fun v14=>((gi v12 v7.2.1).bind fun v15=>((gi v12 v7.2.1).bind fun v16=>((kaw v14 v16).bind fun v17=>(some (!v17))))))) else (some false)).bind fun v18=>(if v18=true then ((kcl v0.2.1 v0.1 v7.2.1 v12).bind fun v19=>(some (.inl (v0.1,v19.1,v4.1,v0.2.2.2.1,v0.2.2.2.2.1,v19.2)))) else ((kdu v0.2.1 v0.1 v7.2.1 v12).bind fun v20=>((gquo .i64 (w64 (v0.1-v0.2.1)) 8).bind fun v21=>(if (decide ((w64 (v20.1-v0.2.1))<(w64 (v0.1-v20.1))))=true then ((rec_slices_pdqsortOrdered_int_m0 v0.2.1 v20.1 v4.1 v20.2.2).bind fun v22=>(some (.inl (v0.1,(w64 (v20.1+1)),v4.1,(decide (v21<=(w64 (v20.1-v0.2.1)))),v20.2.1,v22)))) else ((rec_slices_pdqsortOrdered_int_m0 (w64 (v20.1+1)) v0.1 v4.1 v20.2.2).bind fun v23=>(some (.inl (v20.1,v0.2.1,v4.1,(decide (v21<=(w64 (v0.1-v20.1)))),v20.2.1,v23)))))))))))))))))
def kdz (rec_slices_pdqsortOrdered_int_m0:Int->Int->Int->(List Int)->Option (List Int)) (x0:Int) (x1:Int) (x2:Int) (x3:(List Int)):Option (List Int):=
 ((iter (kdf rec_slices_pdqsortOrdered_int_m0) (x1,x0,x2,true,true,x3)).bind fun v24=>(match v24 with | .inl v25=>(some v25) | .inr v26=>(some v26)))
def kaY:Nat->Int->Int->Int->(List Int)->Option (List Int)
 | 0,_,_,_,_=>none
 | k+1,x0,x1,x2,x3=>kdz (kaY k) x0 x1 x2 x3
def kbi (x0:Int) (x1:Int) (x2:Int) (x3:(List Int)):Option (List Int):=kaY 1000000 x0 x1 x2 x3
def kcX (x0:(List Int)):Option (List Int):=
 ((kgC (IntKind.wrap .u64 (lenI x0))).bind fun v0=>((kbi 0 (lenI x0) v0 x0).bind fun v1=>(some v1)))
def kcC (x0:(List Int)):Option (List Int):=
 ((kck x0).bind fun v0=>((kcX v0).bind fun v1=>(some v1)))
def kit (v1:(List Int)) (v2:Int):Option (Int⊕(Bool⊕Unit)):=
 (if (decide (v2<(lenI v1)))=true then ((gi v1 v2).bind fun v3=>((gi v1 v2).bind fun v4=>(if (v4 != v2)=true then (some (.inr (.inl false))) else (some (.inl (w64 (v2+1))))))) else (some (.inr (.inr ()))))
def khV (x0:(List Int)) (x1:Int):Option Bool:=
 ((kcs x0).bind fun v0=>((kcC v0).bind fun v1=>((iter (kit v1) 0).bind fun v5=>(match v5 with | .inl v6=>(some v6) | .inr v7=>(some ((lenI x0)==x1))))))
def kfT (x0:(List Int)) (x1:Int):Option Bool:=
 ((khV x0 x1).bind fun v0=>(some (!v0)))
def kaN (x0:(List (List Int))) (x1:((List Int)->Option Bool)) (v0:Int):Option (Int⊕(Int⊕Unit)):=
 (if (decide (v0<(lenI x0)))=true then ((gi x0 v0).bind fun v1=>((x1 v1).bind fun v2=>(if v2=true then (some (.inr (.inl v0))) else (some (.inl (w64 (v0+1))))))) else (some (.inr (.inr ()))))
def kbH (x0:(List (List Int))) (x1:((List Int)->Option Bool)):Option Int:=
 ((iter (kaN x0 x1) 0).bind fun v3=>(match v3 with | .inl v4=>(some v4) | .inr v5=>(some (-1))))
def kbs (x0:(List (List Int))) (x1:((List Int)->Option Bool)):Option Bool:=
 ((kbH x0 x1).bind fun v0=>(some (decide (0<=v0))))
def kgx (x0:(List (List Int))):Option Bool:=
 ((kfB 1 8 (lenI x0)).bind fun v0=>(if v0=true then ((kbs x0 (fun (u0:(List Int))=>((kfT u0 (lenI x0)).bind fun u1=>(some u1)))).bind fun v1=>(some (!v1))) else (some false)))
def kqr (x0:Int) (x1:Int):Option (Int×Int):=
 ((gshr .u64 (IntKind.wrap .u64 ((IntKind.wrap .u64 x0)*(IntKind.wrap .u64 x1))) 32).bind fun v0=>(some ((IntKind.wrap .u32 v0),(IntKind.wrap .u32 (IntKind.wrap .u64 ((IntKind.wrap .u64 x0)*(IntKind.wrap .u64 x1)))))))
def kkx (x0:Int) (x1:Int):Option (Int×Int):=
 ((gshr .u64 x0 32).bind fun v0=>((gshr .u64 x1 32).bind fun v1=>((gshr .u64 (IntKind.wrap .u64 ((bitsI .and .u64 x0 4294967295)*(bitsI .and .u64 x1 4294967295))) 32).bind fun v2=>((gshr .u64 (IntKind.wrap .u64 ((IntKind.wrap .u64 (v0*(bitsI .and .u64 x1 4294967295)))+v2)) 32).bind fun v3=>((gshr .u64 (IntKind.wrap .u64 ((bitsI .and .u64 (IntKind.wrap .u64 ((IntKind.wrap .u64 (v0*(bitsI .and .u64 x1 4294967295)))+v2)) 4294967295)+(IntKind.wrap .u64 ((bitsI .and .u64 x0 4294967295)*v1)))) 32).bind fun v4=>(some ((IntKind.wrap .u64 ((IntKind.wrap .u64 ((IntKind.wrap .u64 (v0*v1))+v3))+v4)),(IntKind.wrap .u64 (x0*x1)))))))))
def kmv (x0:Int) (x1:Int):Option (Int×Int):=
 ((kkx x0 x1).bind fun v0=>(some v0))
def kkn (x0:Int) (x1:(List Int)):Option Bool:=
 ((gi x1 x0).bind fun v0=>(some (decide (v0<0))))
def kfn (x0:Int) (x1:(List (List Int))) (x2:(List Int)):Option Int:=
 ((gi x1 x0).bind fun v0=>((kcu v0 (fun (u0:Int)=>((kkn u0 x2).bind fun u1=>(some u1)))).bind fun v1=>((gi x1 x0).bind fun v2=>((gi v2 v1).bind fun v3=>(some v3)))))
def khK (v5:kaj):Option (kaj⊕(List Int)):=
 (if (decide (v5.1<(lenI v5.2)))=true then ((gsl v5.2 v5.1 (lenI v5.2)).bind fun v6=>((gsl v5.2 0 v5.1).bind fun v7=>(some (.inl ((w64 (v5.1+(imin (lenI ((List.drop (Int.toNat 0) v5.2).take (Int.toNat (v5.1-0)))) ((lenI v5.2)-v5.1)))),(kyT v5.2 (v5.1,((lenI v5.2)-v5.1)) ((List.drop (Int.toNat 0) v5.2).take (Int.toNat (v5.1-0))))))))) else (some (.inr v5.2)))
def keG (x0:(List Int)) (x1:Int):Option (List Int):=
 ((if (decide (x1<0))=true then none else (some ())).bind fun v0=>((kmv (IntKind.wrap .u64 (lenI x0)) (IntKind.wrap .u64 x1)).bind fun v1=>((if (decide (0<v1.1))=true then (some true) else (some (decide (9223372036854775807<v1.2)))).bind fun v2=>((if v2=true then none else (some ())).bind fun v3=>((gmk (w64 v1.2) 0).bind fun v4=>((iter (khK) ((imin (lenI x0) (lenI v4)),(lcopy v4 0 (lenI v4) x0))).bind fun v8=>(some v8)))))))
def kuh (x0:(List (List Int))) (v3:(List Int)) (v6:(Int×Int)):Option ((Int×Int)⊕Int):=
 (if (decide (v6.1<(lenI x0)))=true then ((kfn v6.2 x0 v3).bind fun v7=>(some (.inl ((w64 (v6.1+1)),v7)))) else (some (.inr v6.2)))
def kth (x0:(List (List Int))) (v3:(List Int)) (v8:Int) (v10:kaj):Option (kaj⊕(List Int)):=
 (if (v10.1 != v8)=true then ((gapp v10.2 [v10.1]).bind fun v11=>((kfn v10.1 x0 v3).bind fun v12=>(some (.inl (v12,v11))))) else (some (.inr v10.2)))
def kuq (x0:(List (List Int))) (v3:(List Int)) (v13:(List Int)) (v14:kaj):Option (kaj⊕(List Int)):=
 (if (decide (v14.1<(lenI v13)))=true then ((gi v13 v14.1).bind fun v15=>((gi v13 v14.1).bind fun v16=>((kfn v16 x0 v3).bind fun v17=>((gapp v14.2 [v17]).bind fun v18=>(some (.inl ((w64 (v14.1+1)),v18))))))) else (some (.inr v14.2)))
def kuy (v13:(List Int)) (v19:(List Int)) (v20:kaj):Option (kaj⊕(List Int)):=
 (if (decide (v20.1<(lenI v13)))=true then ((gi v13 v20.1).bind fun v21=>((gi v13 v20.1).bind fun v22=>((gi v19 v20.1).bind fun v23=>((gi v19 v20.1).bind fun v24=>((gi v20.2 v22).bind fun v25=>(some (.inl ((w64 (v20.1+1)),(lset v20.2 v22 v24))))))))) else (some (.inr v20.2)))
def ktM (x0:(List (List Int))) (v2:kaj) (v3:(List Int)):Option ((List Int)⊕(List Int)):=
 ((gi v3 v2.1).bind fun v4=>((gi v3 v2.1).bind fun v5=>(if (decide (v5<0))=true then ((iter (kuh x0 v3) (0,v2.1)).bind fun v8=>((kfn v8 x0 v3).bind fun v9=>((iter (kth x0 v3 v8) (v9,[v8])).bind fun v13=>((iter (kuq x0 v3 v13) (0,[])).bind fun v19=>((iter (kuy v13 v19) (0,v3)).bind fun v26=>(some (.inl v26))))))) else (some (.inr v3)))))
def ktr (x0:(List (List Int))) (v2:kaj):Option (kaj⊕(List Int)):=
 (if (decide (v2.1<(lenI x0)))=true then ((iter (ktM x0 v2) v2.2).bind fun v27=>(some (.inl ((w64 (v2.1+1)),v27)))) else (some (.inr v2.2)))
def krV (x0:(List (List Int))):Option ((List Int)×Int):=
 ((kgx x0).bind fun v0=>(if (!v0)=true then (some ([],2)) else ((keG [(-1)] (lenI x0)).bind fun v1=>((iter (ktr x0) (0,v1)).bind fun v28=>(some (v28,0))))))
def knk (x0:(List (Int×Int×Int))) (x1:(List (Int×Int×Int))) (v0:Int):Option (Int⊕(Bool⊕Unit)):=
 (if (decide (v0<(lenI x0)))=true then ((gi x0 v0).bind fun v1=>((gi x1 v0).bind fun v2=>(if (!((v1.1==v2.1)&&((v1.2.1==v2.2.1)&&(v1.2.2==v2.2.2))))=true then (some (.inr (.inl false))) else (some (.inl (w64 (v0+1))))))) else (some (.inr (.inr ()))))
def kkw (x0:(List (Int×Int×Int))) (x1:(List (Int×Int×Int))):Option Bool:=
 (if ((lenI x0) != (lenI x1))=true then (some false) else ((iter (knk x0 x1) 0).bind fun v3=>(match v3 with | .inl v4=>(some v4) | .inr v5=>(some true))))
def koa (x0:(List Int)) (x1:(List Int)) (v0:Int):Option (Int⊕(Bool⊕Unit)):=
 (if (decide (v0<(lenI x0)))=true then ((gi x0 v0).bind fun v1=>((gi x1 v0).bind fun v2=>(if (v1 != v2)=true then (some (.inr (.inl false))) else (some (.inl (w64 (v0+1))))))) else (some (.inr (.inr ()))))
def keg (x0:(List Int)) (x1:(List Int)):Option Bool:=
 (if ((lenI x0) != (lenI x1))=true then (some false) else ((iter (koa x0 x1) 0).bind fun v3=>(match v3 with | .inl v4=>(some v4) | .inr v5=>(some true))))
def kmK:Option Bool:=
 ((kbh 1 1 4).bind fun v0=>((kbh 1 3 2).bind fun v1=>((kbh 4 0 1).bind fun v2=>((kbh 1 3 3).bind fun v3=>((kvv [v1,v2] [v3]).bind fun v4=>(law08_needed.bind fun v5=>(law08_swap.bind fun v6=>((kum [v0] v5 v6).bind fun v7=>(law08_needed.bind fun v8=>(law08_swap.bind fun v9=>((kvr [v0] v8 v9 [(1,1,5),(2,1,3)]).bind fun v10=>((kbh 1 1 3).bind fun v11=>(law08_plans.bind fun v12=>((kpP [v11] v12 [5,4,9]).bind fun v13=>((krV [[1,0,2],[0,1,2],[0,1,2]]).bind fun v14=>(if (v4.2 != 0)=true then (some false) else ((kbh 1 3 5).bind fun v15=>((kbh 4 0 1).bind fun v16=>((kkw v4.1 [v15,v16]).bind fun v17=>(if (!v17)=true then (some false) else (if (v7.2 != 0)=true then (some false) else (if (v7.1.1 != 4)=true then (some false) else ((keg v7.1.2 [0,1]).bind fun v18=>(if (!v18)=true then (some false) else (if (v10.2 != 0)=true then (some false) else ((keg v10.1.1 [3,1]).bind fun v19=>(if (!v19)=true then (some false) else (if (v10.1.2.2 != 3)=true then (some false) else (if (v13.2==0)=true then ((keg v13.1.1 [2]).bind fun v20=>(if v20=true then (if (v13.1.2.1==9)=true then (if ((lenI v13.1.2.2)==0)=true then (if (v14.2==0)=true then ((keg v14.1 [1,0,2]).bind fun v21=>(some v21)) else (some false)) else (some false)) else (some false)) else (some false))) else (some false))))))))))))))))))))))))))))))
def law08_alive:Option Bool:=some true
theorem kxM:kmK=law08_alive:=by kernel_rfl
def khn (x0:Int) (x1:Int) (x2:Int):Option Bool:=
 (if (decide (x1<=x0))=true then (some (decide (x0<=x2))) else (some false))
def kgB (x0:(List (List Int))) (v0:Int):Option (Int⊕(Bool⊕Unit)):=
 (if (decide (v0<(lenI x0)))=true then ((gi x0 v0).bind fun v1=>(if (decide (12<(lenI v1)))=true then (some (.inr (.inl true))) else (some (.inl (w64 (v0+1)))))) else (some (.inr (.inr ()))))
def kjg (x0:(List (List Int))):Option Bool:=
 ((iter (kgB x0) 0).bind fun v2=>(match v2 with | .inl v3=>(some v3) | .inr v4=>(some (decide (12<(lenI x0))))))
def kcJ (x0:(List Int)) (x1:Int) (v1:(Int×(List Bool))):Option ((Int×(List Bool))⊕(Bool⊕Unit)):=
 (if (decide (v1.1<x1))=true then ((gi x0 v1.1).bind fun v2=>((khn v2 0 (w64 (x1-1))).bind fun v3=>(if (!v3)=true then (some (.inr (.inl false))) else ((gi x0 v1.1).bind fun v4=>((gi v1.2 v4).bind fun v5=>((gi v1.2 v4).bind fun v6=>(if v6=true then (some (.inr (.inl false))) else ((gi x0 v1.1).bind fun v7=>((gi v1.2 v7).bind fun v8=>(some (.inl ((w64 (v1.1+1)),(lset v1.2 v7 true))))))))))))) else (some (.inr (.inr ()))))
def kcb (x0:(List Int)) (x1:Int):Option Bool:=
 (if ((lenI x0) != x1)=true then (some false) else ((gmk x1 false).bind fun v0=>((iter (kcJ x0 x1) (0,v0)).bind fun v9=>(match v9 with | .inl v10=>(some v10) | .inr v11=>(some true)))))
def kfb (x0:(List (List Int))) (v0:Int):Option (Int⊕(Bool⊕Unit)):=
 (if (decide (v0<(lenI x0)))=true then ((gi x0 v0).bind fun v1=>((kcb v1 (lenI x0)).bind fun v2=>(if (!v2)=true then (some (.inr (.inl false))) else (some (.inl (w64 (v0+1))))))) else (some (.inr (.inr ()))))
def khs (x0:(List (List Int))):Option Bool:=
 (if (decide ((lenI x0)<1))=true then (some false) else (if (decide (8<(lenI x0)))=true then (some false) else ((iter (kfb x0) 0).bind fun v3=>(match v3 with | .inl v4=>(some v4) | .inr v5=>(some true)))))
def kdA (x0:(List Int)) (x1:Int) (v0:Int):Option (Int⊕(Int⊕Unit)):=
 (if (decide (v0<(lenI x0)))=true then ((gi x0 v0).bind fun v1=>(if (v1==x1)=true then (some (.inr (.inl v0))) else (some (.inl (w64 (v0+1)))))) else (some (.inr (.inr ()))))
def kcV (x0:(List Int)) (x1:Int):Option Int:=
 ((iter (kdA x0 x1) 0).bind fun v2=>(match v2 with | .inl v3=>(some v3) | .inr v4=>(some (lenI x0))))
def kde (rec_box_Better_c1_m0:Int->Int->Bool->Int->Int->(List (List Int))->(List Int)->Option (Bool×Int×Int×(List (List Int))×(List Int))) (x0:Int) (x1:Int) (x2:Bool) (v2:(List Int)) (v3:(Int×(List Int)×Int×Int×(List (List Int)))):Option ((Int×(List Int)×Int×Int×(List (List Int)))⊕((Bool×Int×Int×(List (List Int))×(List Int))⊕((List Int)×Int×Int×(List (List Int))))):=
 (if (decide (v3.1<(lenI v2)))=true then ((gi v2 v3.1).bind fun v4=>((gi v3.2.1 x0).bind fun v5=>((gshr .u8 x1 v4).bind fun v6=>(if ((bitsI .and .u8 v6 1)==1)=true then ((gshl .u8 1 v4).bind fun v7=>(if x2=true then ((rec_box_Better_c1_m0 (w64 (x0+1)) (bitsI .andNot .u8 x1 v7) true v3.2.2.1 v3.2.2.2.1 v3.2.2.2.2 v3.2.1).bind fun v8=>(if v8.1=true then (some (.inr (.inl (true,v8.2)))) else (if (v4==v5)=true then (some (.inr (.inl (false,v8.2)))) else (some (.inl ((w64 (v3.1+1)),v8.2.2.2.2,v8.2.1,v8.2.2.1,v8.2.2.2.1)))))) else ((rec_box_Better_c1_m0 (w64 (x0+1)) (bitsI .andNot .u8 x1 v7) (!(v4==v5)) v3.2.2.1 v3.2.2.2.1 v3.2.2.2.2 v3.2.1).bind fun v9=>(if v9.1=true then (some (.inr (.inl (true,v9.2)))) else (if (v4==v5)=true then (some (.inr (.inl (false,v9.2)))) else (some (.inl ((w64 (v3.1+1)),v9.2.2.2.2,v9.2.1,v9.2.2.1,v9.2.2.2.1)))))))) else (if (v4==v5)=true then (some (.inr (.inl (false,v3.2.2.1,v3.2.2.2.1,v3.2.2.2.2,v3.2.1)))) else (some (.inl ((w64 (v3.1+1)),v3.2)))))))) else (some (.inr (.inr v3.2))))
def kfy (rec_box_Better_c1_m0:Int->Int->Bool->Int->Int->(List (List Int))->(List Int)->Option (Bool×Int×Int×(List (List Int))×(List Int))) (x0:Int) (x1:Int) (x2:Bool) (x3:Int) (x4:Int) (x5:(List (List Int))) (x6:(List Int)):Option (Bool×Int×Int×(List (List Int))×(List Int)):=
 (if (x0==x3)=true then (some (x2,x3,x4,x5,x6)) else ((gshr .u8 x4 x0).bind fun v0=>(if ((bitsI .and .u8 v0 1)==0)=true then ((rec_box_Better_c1_m0 (w64 (x0+1)) x1 x2 x3 x4 x5 x6).bind fun v1=>(some v1)) else ((gi x5 x0).bind fun v2=>((iter (kde rec_box_Better_c1_m0 x0 x1 x2 v2) (0,x6,x3,x4,x5)).bind fun v10=>(match v10 with | .inl v11=>(some v11) | .inr v12=>(some (false,v12.2.1,v12.2.2.1,v12.2.2.2,v12.1))))))))
def kaF:Nat->Int->Int->Bool->Int->Int->(List (List Int))->(List Int)->Option (Bool×Int×Int×(List (List Int))×(List Int))
 | 0,_,_,_,_,_,_,_=>none
 | k+1,x0,x1,x2,x3,x4,x5,x6=>kfy (kaF k) x0 x1 x2 x3 x4 x5 x6
def kgI (x0:Int) (x1:Int) (x2:Bool) (x3:Int) (x4:Int) (x5:(List (List Int))) (x6:(List Int)):Option (Bool×Int×Int×(List (List Int))×(List Int)):=kaF 1000000 x0 x1 x2 x3 x4 x5 x6
def khE (x0:(List (List Int))) (x1:(List Int)) (x2:Int):Option (Bool×Int):=
 ((kgx x0).bind fun v0=>(if (!v0)=true then (some (false,2)) else ((khV x1 (lenI x0)).bind fun v1=>(if (!v1)=true then (some (false,8)) else (if (x2==0)=true then (some (false,2)) else ((gshl .i64 1 (lenI x0)).bind fun v2=>(if (decide (v2<=(w64 x2)))=true then (some (false,2)) else ((kgI 0 x2 false (lenI x0) x2 x0 x1).bind fun v3=>(some (v3.1,0))))))))))
def kcc (x0:(List (List Int))) (x1:(List Int)) (x2:(List Int)) (v13:(Int×Bool×Bool)):Option ((Int×Bool×Bool)⊕(Bool×Bool)):=
 (if (decide (v13.1<(lenI x0)))=true then ((gi x0 v13.1).bind fun v14=>((gi x2 v13.1).bind fun v15=>((kcV v14 v15).bind fun v16=>((gi x1 v13.1).bind fun v17=>((kcV v14 v17).bind fun v18=>(if v13.2.1=true then (if v13.2.2=true then (some (.inl ((w64 (v13.1+1)),true,true))) else (some (.inl ((w64 (v13.1+1)),true,(decide (v16<v18)))))) else (if v13.2.2=true then (some (.inl ((w64 (v13.1+1)),(decide (v18<v16)),true))) else (some (.inl ((w64 (v13.1+1)),(decide (v18<v16)),(decide (v16<v18)))))))))))) else (some (.inr v13.2)))
def khw (x0:(List (List Int))) (x1:(List Int)) (x2:(List Int)) (x3:Int):Option Bool:=
 (law08_alive.bind fun v0=>((kjg x0).bind fun v1=>(if v1=true then (some v0) else ((khs x0).bind fun v2=>(if (!v2)=true then (some v0) else ((kcb x1 (lenI x0)).bind fun v3=>(if (!v3)=true then (some v0) else ((kcb x2 (lenI x0)).bind fun v4=>(if (!v4)=true then (some v0) else (if (!v0)=true then (some v0) else ((grem (w64 x3) (lenI x0)).bind fun v5=>((gshl .u8 1 v5).bind fun v6=>((khE x0 x1 v6).bind fun v7=>(if (v7.2 != 0)=true then (some false) else ((gi x0 v5).bind fun v8=>((kcV v8 v5).bind fun v9=>((gi x0 v5).bind fun v10=>((gi x1 v5).bind fun v11=>((kcV v10 v11).bind fun v12=>(if (!(v7.1==(decide (v9<v12))))=true then (some false) else ((iter (kcc x0 x1 x2) (0,false,false)).bind fun v19=>((gshl .u8 1 (lenI x0)).bind fun v20=>((khE x0 x1 (IntKind.wrap .u8 (v20-1))).bind fun v21=>(if v0=true then (if (v21.2==0)=true then (if v19.1=true then (some true) else (if (!v19.2)=true then (some true) else (some v21.1))) else (some false)) else (some false)))))))))))))))))))))))))
end Go.Abs
set_option maxRecDepth 100000
namespace Go.Abs
open Go Go.Proofs
def kaX:Ctr:=⟨ "",[],[],fun _=>none,[],[]⟩
theorem kav {g:FuncId}:Good Tryz.prog g kaX:=good_dm
def khp:Ctr:=⟨ "",[(.i .i64),(.i .u8),(.i .i64)],[(.pr (.i .i64) (.pr (.i .u8) (.i .i64)))],fun x=>kbh x.1 x.2.1 x.2.2,[],[]⟩
theorem khH:Good Tryz.prog 43 khp:=
 kae Tryz.func43 (by kernel_rfl) (An:=[]) [] (.nil) (fun x=>by kernel_rfl)
def kfH:Ctr:=⟨ "",[(.i .i64),(.i .i64),(.i .i64)],[.b],fun x=>kfB x.1 x.2.1 x.2.2,[],[]⟩
theorem keL:Good Tryz.prog 66 kfH:=
 kae Tryz.func66 (by kernel_rfl) (An:=[]) [] (.nil) (fun x=>by kernel_rfl)
def kkY:Ctr:=⟨ "",[(.pr (.i .i64) (.pr (.i .u8) (.i .i64)))],[.b],fun x=>knK x,[],[]⟩
theorem kon:Good Tryz.prog 93 kkY:=
 kae Tryz.func93 (by kernel_rfl) (An:=[]) [(66,kfH)] (.cons keL <| .nil) (fun x=>by kernel_rfl)
def kez:Ctr:=⟨ "",[(.pr (.i .i64) (.i .u8))],[.b],fun x=>keb x,[],[]⟩
theorem keY:Good Tryz.prog 96 kez:=
 kae Tryz.func96 (by kernel_rfl) (An:=[]) [(66,kfH)] (.cons keL <| .nil) (fun x=>by kernel_rfl)
def khf:Ctr:=⟨ "",[(.i .i64)],[.b],fun x=>kdq x,[],[]⟩
theorem kiy:Good Tryz.prog 111 khf:=
 kae Tryz.func111 (by kernel_rfl) (An:=[]) [] (.nil) (fun x=>by kernel_rfl)
def kdX:Ctr:=⟨ "",[(.i .i64),(.i .i64)],[(.i .i64)],fun x=>keZ x.1 x.2,[],[]⟩
theorem ker:Good Tryz.prog 78 kdX:=
 kae Tryz.func78 (by kernel_rfl) (An:=[]) [(111,khf)] (.cons kiy <| .nil) (fun x=>by kernel_rfl)
def kjc:Ctr:=⟨ "",[(.i .u8)],[.b],fun x=>khr x,[],[]⟩
theorem klD:Good Tryz.prog 125 kjc:=
 kae Tryz.func125 (by kernel_rfl) (An:=[]) [] (.nil) (fun x=>by kernel_rfl)
def khS:Ctr:=⟨ "",[(.i .u8),(.i .u8)],[(.i .i64)],fun x=>kiV x.1 x.2,[],[]⟩
theorem kkA:Good Tryz.prog 113 khS:=
 kae Tryz.func113 (by kernel_rfl) (An:=[]) [(125,kjc)] (.cons klD <| .nil) (fun x=>by kernel_rfl)
def kjF:Ctr:=⟨ "",[(.sl (.i .i64))],[(.i .i64)],fun x=>klP x,[],[]⟩
theorem kkv:Good Tryz.prog 77 kjF:=
 kae Tryz.func77 (by kernel_rfl) (An:=[(0,⟨⟨[(8,.c (.i .i64))],[]⟩,⟨[],[]⟩,[7,6,3],[],0,true,""⟩)]) [] (.nil) (fun x=>by kernel_rfl)
def kgr:Ctr:=⟨ "",[(.pr (.i .i64) (.i .u8)),(.pr (.i .i64) (.i .u8))],[(.i .i64)],fun x=>kiA x.1 x.2,[],[]⟩
theorem kfJ:Good Tryz.prog 103 kgr:=
 kae Tryz.func103 (by kernel_rfl) (An:=[]) [(77,kjF),(113,khS),(78,kdX)] (.cons kkv <| .cons kkA <| .cons ker <| .nil) (fun x=>by kernel_rfl)
def kgy:Ctr:=⟨ "",[(.sl (.pr (.i .i64) (.pr (.i .u8) (.i .i64)))),(.i .i64),(.fn 1 (.pr (.i .i64) (.pr (.i .u8) (.i .i64))) (.pr (.i .i64) (.i .u8)))],[.b],fun x=>khq x.1 x.2.1 x.2.2,[],[]⟩
theorem kjl:Good Tryz.prog 94 kgy:=
 kae Tryz.func94 (by kernel_rfl) (An:=[(0,⟨⟨[(11,.c (.i .i64))],[]⟩,⟨[],[]⟩,[10,9,2,0,1],[],0,true,""⟩)]) [(103,kgr),(96,kez)] (.cons kfJ <| .cons keY <| .nil) (fun x=>by kernel_rfl)
def kdY:Ctr:=⟨ "",[(.pr (.i .i64) (.pr (.i .u8) (.i .i64)))],[(.pr (.i .i64) (.i .u8))],fun x=>kbZ x,[],[]⟩
theorem kdH:Good Tryz.prog 71 kdY:=
 kae Tryz.func71 (by kernel_rfl) (An:=[]) [] (.nil) (fun x=>by kernel_rfl)
def kbP:Ctr:=⟨ "",[(.sl (.pr (.i .i64) (.pr (.i .u8) (.i .i64)))),(.fn 1 (.pr (.i .i64) (.pr (.i .u8) (.i .i64))) .b)],[(.i .i64)],fun x=>kce x.1 x.2,[],[]⟩
theorem kem:Good Tryz.prog 99 kbP:=
 kae Tryz.func99 (by kernel_rfl) (An:=[(0,⟨⟨[(8,.c (.i .i64))],[]⟩,⟨[],[]⟩,[7,1,0],[],0,true,""⟩)]) [] (.nil) (fun x=>by kernel_rfl)
def kaP:Ctr:=⟨ "",[(.sl (.pr (.i .i64) (.pr (.i .u8) (.i .i64)))),(.fn 1 (.pr (.i .i64) (.pr (.i .u8) (.i .i64))) .b)],[.b],fun x=>kaV x.1 x.2,[],[]⟩
theorem kbu:Good Tryz.prog 54 kaP:=
 kae Tryz.func54 (by kernel_rfl) (An:=[]) [(99,kbP)] (.cons kem <| .nil) (fun x=>by kernel_rfl)
def kkG:Ctr:=⟨ "",[(.sl (.pr (.i .i64) (.pr (.i .u8) (.i .i64))))],[(.i .i64)],fun x=>knz x,[],[]⟩
theorem klb:Good Tryz.prog 47 kkG:=
 kae Tryz.func47 (by kernel_rfl) (An:=[]) [(54,kaP),(71,kdY),(94,kgy),(93,kkY)] (.cons kbu <| .cons kdH <| .cons kjl <| .cons kon <| .nil) (fun x=>by kernel_rfl)
def kcq:Ctr:=⟨ "",[(.sl (.sl (.pr (.i .i64) (.pr (.i .u8) (.i .i64)))))],[(.i .i64)],fun x=>kdJ x,[],[]⟩
theorem kbX:Good Tryz.prog 50 kcq:=
 kae Tryz.func50 (by kernel_rfl) (An:=[(0,⟨⟨[(8,.c (.i .i64))],[]⟩,⟨[],[]⟩,[7,6],[],0,true,""⟩)]) [(47,kkG)] (.cons klb <| .nil) (fun x=>by kernel_rfl)
def kmk:Ctr:=⟨ "",[(.sl (.pr (.i .i64) (.pr (.i .u8) (.i .i64)))),(.sl (.pr (.i .i64) (.pr (.i .u8) (.i .i64))))],[(.i .i64)],fun x=>koE x.1 x.2,[],[]⟩
theorem kpv:Good Tryz.prog 98 kmk:=
 kae Tryz.func98 (by kernel_rfl) (An:=[]) [(71,kdY),(103,kgr)] (.cons kdH <| .cons kfJ <| .nil) (fun x=>by kernel_rfl)
def kjz:Ctr:=⟨ "",[(.sl (.pr (.i .i64) (.pr (.i .u8) (.i .i64)))),(.sl (.pr (.i .i64) (.pr (.i .u8) (.i .i64)))),(.fn 2 (.pr (.i .i64) (.i .i64)) (.i .i64))],[(.sl (.pr (.i .i64) (.pr (.i .u8) (.i .i64))))],fun x=>klI x.1 x.2.1 x.2.2,[],[]⟩
theorem kkl:Good Tryz.prog 51 kjz:=
 kae Tryz.func51 (by kernel_rfl) (An:=[(0,⟨⟨[(0,.c (.sl (.pr (.i .i64) (.pr (.i .u8) (.i .i64))))),(1,.c (.sl (.pr (.i .i64) (.pr (.i .u8) (.i .i64))))),(7,.mw 1)],[(1,.sl 50 (.pr (.i .i64) (.pr (.i .u8) (.i .i64))))]⟩,⟨[(7,.mw 2)],[(2,.sl 50 (.pr (.i .i64) (.pr (.i .u8) (.i .i64))))]⟩,[2],[],3,false,""⟩),(10,⟨⟨[],[]⟩,⟨[(19,.c .b)],[]⟩,[0,1,7],[1],2,false,""⟩),(129,⟨⟨[(8,.ptr 2 0)],[(2,.bx 50 [.c (.i .i64),.c (.i .u8),.c (.i .i64)])]⟩,⟨[(9,.c (.i .i64)),(10,.c (.i .i64)),(8,.ptr 3 0),(0,.c (.sl (.pr (.i .i64) (.pr (.i .u8) (.i .i64))))),(1,.c (.sl (.pr (.i .i64) (.pr (.i .u8) (.i .i64)))))],[(3,.bx 50 [.c (.i .i64),.c (.i .u8),.c (.i .i64)])]⟩,[11,7],[1],4,false,""⟩),(181,⟨⟨[],[]⟩,⟨[(10,.c (.i .i64)),(1,.c (.sl (.pr (.i .i64) (.pr (.i .u8) (.i .i64)))))],[]⟩,[9,8,0],[2],3,false,""⟩)]) [(98,kmk)] (.cons kpv <| .nil) (fun x=>by kernel_rfl)
def kmU:Ctr:=⟨ "",[(.i .i64),(.i .i64)],[(.i .i64)],fun x=>kqg x.1 x.2,[],[]⟩
theorem kqk:Good Tryz.prog 52 kmU:=
 kae Tryz.func52 (by kernel_rfl) (An:=[]) [] (.nil) (fun x=>by kernel_rfl)
def krQ:Ctr:=⟨ "",[(.sl (.pr (.i .i64) (.pr (.i .u8) (.i .i64)))),(.sl (.pr (.i .i64) (.pr (.i .u8) (.i .i64))))],[(.sl (.pr (.i .i64) (.pr (.i .u8) (.i .i64)))),(.i .i64)],fun x=>kvv x.1 x.2,[],[]⟩
theorem ksw:Good Tryz.prog 15 krQ:=
 kae Tryz.func15 (by kernel_rfl) (An:=[]) [(52,kmU),(51,kjz),(50,kcq),(47,kkG)] (.cons kqk <| .cons kkl <| .cons kbX <| .cons klb <| .nil) (fun x=>by kernel_rfl)
def klw:Ctr:=⟨ "",[],[(.sl (.pr (.i .i64) (.pr (.i .u8) (.i .i64))))],fun x=>law08_needed,[],[]⟩
theorem kof:Good Tryz.prog 44 klw:=
 kae Tryz.func44 (by kernel_rfl) (An:=[]) [(43,khp)] (.cons khH <| .nil) (fun x=>by kernel_rfl)
def knC:Ctr:=⟨ "",[],[(.sl tSwap)],fun x=>law08_swap,[],[]⟩
theorem kpM:Good Tryz.prog 45 knC:=
 kae Tryz.func45 (by kernel_rfl) (An:=[]) [] (.nil) (fun x=>by kernel_rfl)
def khO:Ctr:=⟨ "",[tSwap],[.b],fun x=>kjf x,[],[]⟩
theorem kkL:Good Tryz.prog 95 khO:=
 kae Tryz.func95 (by kernel_rfl) (An:=[(6,⟨⟨[],[]⟩,⟨[(3,.ptr 1 0),(4,.ptr 2 0)],[(1,.bx 115 [.c (.i .i64),.c (.i .u8)]),(2,.bx 115 [.c (.i .i64),.c (.i .u8)])]⟩,[1],[0],3,false,""⟩)]) [(96,kez)] (.cons keY <| .nil) (fun x=>by kernel_rfl)
def kbQ:Ctr:=⟨ "",[(.sl tSwap),(.fn 1 tSwap .b)],[(.i .i64)],fun x=>kcf x.1 x.2,[],[]⟩
theorem kel:Good Tryz.prog 121 kbQ:=
 kae Tryz.func121 (by kernel_rfl) (An:=[(0,⟨⟨[(8,.c (.i .i64))],[]⟩,⟨[],[]⟩,[7,1,0],[],0,true,""⟩)]) [] (.nil) (fun x=>by kernel_rfl)
def kbE:Ctr:=⟨ "",[(.sl tSwap),(.fn 1 tSwap .b)],[.b],fun x=>kbJ x.1 x.2,[],[]⟩
theorem kdK:Good Tryz.prog 97 kbE:=
 kae Tryz.func97 (by kernel_rfl) (An:=[]) [(121,kbQ)] (.cons kel <| .nil) (fun x=>by kernel_rfl)
def kgE:Ctr:=⟨ "",[(.sl tSwap)],[(.i .i64)],fun x=>kih x,[],[]⟩
theorem khT:Good Tryz.prog 48 kgE:=
 kae Tryz.func48 (by kernel_rfl) (An:=[]) [(97,kbE),(95,khO)] (.cons kdK <| .cons kkL <| .nil) (fun x=>by kernel_rfl)
def kcx:Ctr:=⟨ "",[(.sl tSwap),tSwap],[(.i .i64)],fun x=>kdc x.1 x.2,[],[]⟩
theorem kfd:Good Tryz.prog 132 kcx:=
 kae Tryz.func132 (by kernel_rfl) (An:=[(0,⟨⟨[(8,.c (.i .i64))],[]⟩,⟨[],[]⟩,[7,3,0],[0],1,true,""⟩)]) [] (.nil) (fun x=>by kernel_rfl)
def kbY:Ctr:=⟨ "",[(.sl tSwap),tSwap],[.b],fun x=>kcp x.1 x.2,[],[]⟩
theorem kex:Good Tryz.prog 122 kbY:=
 kae Tryz.func122 (by kernel_rfl) (An:=[]) [(132,kcx)] (.cons kfd <| .nil) (fun x=>by kernel_rfl)
def kmL:Ctr:=⟨ "",[(.sl tSwap),(.pr (.i .i64) (.i .u8)),(.pr (.i .i64) (.i .u8))],[.b],fun x=>kqN x.1 x.2.1 x.2.2,[],[]⟩
theorem knl:Good Tryz.prog 100 kmL:=
 kae Tryz.func100 (by kernel_rfl) (An:=[]) [(122,kbY)] (.cons kex <| .nil) (fun x=>by kernel_rfl)
def kdn (k:Nat):CtrM:=⟨ "",[some (.i .i64),none,none,none],⟨[(1,.ptr 0 0),(2,.ptr 2 0),(3,.ptr 3 0)],[(0,.bx 103 [.mw 1]),(1,.sl 4 .b),(2,.bx 100 [.c (.op tFlow)]),(3,.bx 155 [.fn 102 [.ptr 0 0,.ptr 2 0,.ptr 3 0]])]⟩,4,⟨[(1,.ptr 0 0),(2,.ptr 2 0),(3,.ptr 3 0)],[(0,.bx 103 [.mw 1]),(1,.sl 4 .b),(2,.bx 100 [.c (.op tFlow)]),(3,.bx 155 [.fn 102 [.ptr 0 0,.ptr 2 0,.ptr 3 0]])]⟩,4,0,fun x=>kdP k x.1 x.2.1 x.2.2,false⟩
theorem kfw:∀ k,(kdn k).ok=true/\GoodM Tryz.prog 102 (kdn k)
 | 0=>khA (by kernel_rfl) (fun x=>rfl)
 | k+1=>kal Tryz.func102 (by kernel_rfl) (An:=[(0,⟨⟨[(23,.c (.i .i64))],[(2,.bx 100 [.c (.op tFlow)]),(3,.bx 155 [.fn 102 [.ptr 0 0,.ptr 2 0,.ptr 3 0]]),(0,.bx 103 [.mw 1]),(1,.sl 4 .b)]⟩,⟨[],[(2,.bx 100 [.c (.op tFlow)]),(3,.bx 155 [.fn 102 [.ptr 0 0,.ptr 2 0,.ptr 3 0]]),(0,.bx 103 [.mw 1]),(1,.sl 4 .b)]⟩,[22,21],[],8,false,""⟩),(8,⟨⟨[(32,.c (.i .i64))],[(2,.bx 100 [.c (.op tFlow)]),(3,.bx 155 [.fn 102 [.ptr 0 0,.ptr 2 0,.ptr 3 0]]),(0,.bx 103 [.mw 1]),(1,.sl 4 .b)]⟩,⟨[],[(2,.bx 100 [.c (.op tFlow)]),(3,.bx 155 [.fn 102 [.ptr 0 0,.ptr 2 0,.ptr 3 0]]),(0,.bx 103 [.mw 1]),(1,.sl 4 .b)]⟩,[31,6,23],[],8,false,""⟩)]) ((102,⟨ "",[],[],fun _=>none,[kdn k],[]⟩)::[]) (.cons (good_dm.more (kfw k)) <| .nil) (fun x=>by kernel_rfl)
def box_flow_short_c1_m0_M:CtrM:=⟨ "",[some (.i .i64),none,none,none],⟨[(1,.ptr 0 0),(2,.ptr 2 0),(3,.ptr 3 0)],[(0,.bx 103 [.mw 1]),(1,.sl 4 .b),(2,.bx 100 [.c (.op tFlow)]),(3,.bx 155 [.fn 102 [.ptr 0 0,.ptr 2 0,.ptr 3 0]])]⟩,4,⟨[(1,.ptr 0 0),(2,.ptr 2 0),(3,.ptr 3 0)],[(0,.bx 103 [.mw 1]),(1,.sl 4 .b),(2,.bx 100 [.c (.op tFlow)]),(3,.bx 155 [.fn 102 [.ptr 0 0,.ptr 2 0,.ptr 3 0]])]⟩,4,0,fun x=>khi x.1 x.2.1 x.2.2,false⟩
theorem kjm:box_flow_short_c1_m0_M.ok=true/\GoodM Tryz.prog 102 box_flow_short_c1_m0_M:=kfw 1000000
def box_flow_short_c1_C:Ctr:=⟨ "",[],[],fun _=>none,[],[]⟩
theorem box_flow_short_c1_C_ok:Good Tryz.prog 102 box_flow_short_c1_C:=good_dm
def khC:Ctr:=⟨ "",box_flow_short_c1_C.as,box_flow_short_c1_C.rs,box_flow_short_c1_C.F,box_flow_short_c1_m0_M::box_flow_short_c1_C.mus,box_flow_short_c1_C.its⟩
theorem kki:Good Tryz.prog 102 khC:=(box_flow_short_c1_C_ok.more kjm)
def box_begin_m0g0_M:CtrM:=⟨ "",[some (.sl (.pr (.i .i64) (.pr (.i .u8) (.i .i64)))),some (.sl (.pr (.i .i64) (.pr (.i .u8) (.i .i64)))),some (.sl tSwap)],⟨[],[]⟩,0,⟨[(1000000,.sc (.pointer none)),(1000001,.c (.i .i64))],[]⟩,0,2,fun x=>kid x.1 x.2.1 x.2.2,true⟩
theorem kmE:box_begin_m0g0_M.ok=true/\GoodM Tryz.prog 58 box_begin_m0g0_M:=
 kal Tryz.func58 (by kernel_rfl) (An:=[(89,⟨⟨[],[]⟩,⟨[(8,.c (.i .i64))],[]⟩,[2,1,0],[],1,false,""⟩),(0,⟨⟨[(33,.c (.i .i64)),(9,.ptr 5 0)],[(5,.bx 134 [.c (.sl (.pr (.i .i64) (.pr (.i .u8) (.i .i64)))),.mw 2,.fw 3,.mw 4]),(4,.sl 3 (.i .i64))]⟩,⟨[(9,.ptr 6 0)],[(6,.bx 134 [.c (.sl (.pr (.i .i64) (.pr (.i .u8) (.i .i64)))),.mw 2,.fw 3,.mw 7]),(7,.sl 3 (.i .i64))]⟩,[32,31,1,0,2],[2,3],8,false,""⟩),(8,⟨⟨[(51,.c (.i .i64)),(9,.ptr 6 0)],[(6,.bx 134 [.c (.sl (.pr (.i .i64) (.pr (.i .u8) (.i .i64)))),.mw 2,.fw 3,.mw 7]),(2,.sl 31 (.sl (.i .i64))),(3,.fm 31 (.sl (.i .i64)) 0 3 (.i .i64))]⟩,⟨[(9,.ptr 8 0)],[(8,.bx 134 [.c (.sl (.pr (.i .i64) (.pr (.i .u8) (.i .i64)))),.mw 9,.fw 10,.mw 7]),(9,.sl 31 (.sl (.i .i64))),(10,.fm 31 (.sl (.i .i64)) 0 3 (.i .i64))]⟩,[50,49,0,2],[7],11,false,""⟩),(16,⟨⟨[(57,.c (.i .i64)),(14,.mw 9)],[(9,.sl 3 (.i .i64))]⟩,⟨[(14,.mw 10)],[(10,.sl 3 (.i .i64))]⟩,[56,55,13,9,51],[8,6,2,3],11,false,""⟩)]) [(4134001,kaX),(7000089,kaX),(6000083,kaX),(6000029,kaX),(100,kmL),(48,kgE),(50,kcq),(71,kdY)] (.cons kav <| .cons kav <| .cons kav <| .cons kav <| .cons knl <| .cons khT <| .cons kbX <| .cons kdH <| .nil) (fun x=>by kernel_rfl)
def box_begin_m0g1_M:CtrM:=⟨ "",[some (.sl (.pr (.i .i64) (.pr (.i .u8) (.i .i64)))),some (.sl (.pr (.i .i64) (.pr (.i .u8) (.i .i64)))),some (.sl tSwap)],⟨[],[]⟩,0,⟨[(1000000,.ptr 0 0),(1000001,.c (.i .i64))],[(0,.bx 134 [.c (.sl (.pr (.i .i64) (.pr (.i .u8) (.i .i64)))),.mw 1,.fw 2,.mw 3]),(1,.sl 31 (.sl (.i .i64))),(2,.fm 31 (.sl (.i .i64)) 0 3 (.i .i64)),(3,.sl 3 (.i .i64))]⟩,4,2,fun x=>kil x.1 x.2.1 x.2.2,true⟩
theorem kmG:box_begin_m0g1_M.ok=true/\GoodM Tryz.prog 58 box_begin_m0g1_M:=
 kal Tryz.func58 (by kernel_rfl) (An:=[(89,⟨⟨[],[]⟩,⟨[(8,.c (.i .i64))],[]⟩,[2,1,0],[],1,false,""⟩),(0,⟨⟨[(33,.c (.i .i64)),(9,.ptr 5 0)],[(5,.bx 134 [.c (.sl (.pr (.i .i64) (.pr (.i .u8) (.i .i64)))),.mw 2,.fw 3,.mw 4]),(4,.sl 3 (.i .i64))]⟩,⟨[(9,.ptr 6 0)],[(6,.bx 134 [.c (.sl (.pr (.i .i64) (.pr (.i .u8) (.i .i64)))),.mw 2,.fw 3,.mw 7]),(7,.sl 3 (.i .i64))]⟩,[32,31,1,0,2],[2,3],8,false,""⟩),(8,⟨⟨[(51,.c (.i .i64)),(9,.ptr 6 0)],[(6,.bx 134 [.c (.sl (.pr (.i .i64) (.pr (.i .u8) (.i .i64)))),.mw 2,.fw 3,.mw 7]),(2,.sl 31 (.sl (.i .i64))),(3,.fm 31 (.sl (.i .i64)) 0 3 (.i .i64))]⟩,⟨[(9,.ptr 8 0)],[(8,.bx 134 [.c (.sl (.pr (.i .i64) (.pr (.i .u8) (.i .i64)))),.mw 9,.fw 10,.mw 7]),(9,.sl 31 (.sl (.i .i64))),(10,.fm 31 (.sl (.i .i64)) 0 3 (.i .i64))]⟩,[50,49,0,2],[7],11,false,""⟩),(16,⟨⟨[(57,.c (.i .i64)),(14,.mw 9)],[(9,.sl 3 (.i .i64))]⟩,⟨[(14,.mw 10)],[(10,.sl 3 (.i .i64))]⟩,[56,55,13,9,51],[8,6,2,3],11,false,""⟩)]) [(4134001,kaX),(7000089,kaX),(6000083,kaX),(6000029,kaX),(100,kmL),(48,kgE),(50,kcq),(71,kdY)] (.cons kav <| .cons kav <| .cons kav <| .cons kav <| .cons knl <| .cons khT <| .cons kbX <| .cons kdH <| .nil) (fun x=>by kernel_rfl)
def box_begin_B1:Ctr:=⟨ "",[],[],fun _=>none,[],[]⟩
theorem box_begin_B1_ok:Good Tryz.prog 58 box_begin_B1:=good_dm
def kjx:Ctr:=⟨ "",box_begin_B1.as,box_begin_B1.rs,box_begin_B1.F,box_begin_m0g0_M::box_begin_m0g1_M::box_begin_B1.mus,box_begin_B1.its⟩
theorem kkp:Good Tryz.prog 58 kjx:=((box_begin_B1_ok.more kmG).more kmE)
def box_flow_short_m0_M:CtrM:=⟨ "",[some (.op tFlow),some (.sl .b)],⟨[],[]⟩,0,⟨[(1000000,.mw 0)],[(0,.sl 3 (.i .i64))]⟩,1,1,fun x=>kge x.1 x.2,false⟩
theorem kkI:box_flow_short_m0_M.ok=true/\GoodM Tryz.prog 60 box_flow_short_m0_M:=
 kal Tryz.func60 (by kernel_rfl) (An:=[(0,⟨⟨[(18,.c (.i .i64)),(5,.ptr 2 0),(6,.ptr 5 0)],[(2,.bx 155 [.fn 102 [.ptr 5 0,.ptr 0 0,.ptr 2 0]]),(5,.bx 103 [.mw 3]),(3,.sl 4 .b),(0,.bx 100 [.c (.op tFlow)])]⟩,⟨[(6,.ptr 6 0)],[(6,.bx 103 [.mw 7]),(7,.sl 4 .b)]⟩,[17,16],[],8,false,""⟩),(8,⟨⟨[(30,.c (.i .i64)),(9,.mw 8)],[(8,.sl 3 (.i .i64))]⟩,⟨[(9,.mw 9)],[(9,.sl 3 (.i .i64))]⟩,[29,28],[7],10,false,""⟩)]) [(102,khC)] (.cons kki <| .nil) (fun x=>by kernel_rfl)
def box_flow_short_B2:Ctr:=⟨ "",[],[],fun _=>none,[],[]⟩
theorem box_flow_short_B2_ok:Good Tryz.prog 60 box_flow_short_B2:=good_dm
def kiY:Ctr:=⟨ "",box_flow_short_B2.as,box_flow_short_B2.rs,box_flow_short_B2.F,box_flow_short_m0_M::box_flow_short_B2.mus,box_flow_short_B2.its⟩
theorem klJ:Good Tryz.prog 60 kiY:=(box_flow_short_B2_ok.more kkI)
def kdO (k:Nat):CtrM:=⟨ "",[some (.i .i64),some (.i .i64),none,none,none],⟨[(2,.ptr 0 0),(3,.ptr 5 0),(4,.ptr 7 0)],[(0,.bx 100 [.ptr 1 0]),(1,.bx 134 [.c (.sl (.pr (.i .i64) (.pr (.i .u8) (.i .i64)))),.mw 2,.fw 3,.mw 4]),(2,.sl 31 (.sl (.i .i64))),(3,.fm 31 (.sl (.i .i64)) 0 3 (.i .i64)),(4,.sl 3 (.i .i64)),(5,.bx 103 [.mw 6]),(6,.sl 4 .b),(7,.bx 96 [.fn 101 [.ptr 0 0,.ptr 5 0,.ptr 7 0]])]⟩,8,⟨[(2,.ptr 0 0),(3,.ptr 5 0),(4,.ptr 7 0),(1000000,.c (.i .i64))],[(0,.bx 100 [.ptr 1 0]),(1,.bx 134 [.c (.sl (.pr (.i .i64) (.pr (.i .u8) (.i .i64)))),.mw 2,.fw 3,.mw 4]),(2,.sl 31 (.sl (.i .i64))),(3,.fm 31 (.sl (.i .i64)) 0 3 (.i .i64)),(4,.sl 3 (.i .i64)),(5,.bx 103 [.mw 6]),(6,.sl 4 .b),(7,.bx 96 [.fn 101 [.ptr 0 0,.ptr 5 0,.ptr 7 0]])]⟩,8,1,fun x=>kdZ k x.1 x.2.1 x.2.2.1 x.2.2.2.1 x.2.2.2.2.1 x.2.2.2.2.2.1 x.2.2.2.2.2.2,false⟩
theorem kfV:∀ k,(kdO k).ok=true/\GoodM Tryz.prog 101 (kdO k)
 | 0=>khA (by kernel_rfl) (fun x=>rfl)
 | k+1=>kal Tryz.func101 (by kernel_rfl) (An:=[(0,⟨⟨[(21,.c (.i .i64))],[(5,.bx 103 [.mw 6]),(6,.sl 4 .b),(0,.bx 100 [.ptr 1 0]),(1,.bx 134 [.c (.sl (.pr (.i .i64) (.pr (.i .u8) (.i .i64)))),.mw 2,.fw 3,.mw 4]),(2,.sl 31 (.sl (.i .i64))),(3,.fm 31 (.sl (.i .i64)) 0 3 (.i .i64)),(4,.sl 3 (.i .i64)),(7,.bx 96 [.fn 101 [.ptr 0 0,.ptr 5 0,.ptr 7 0]])]⟩,⟨[],[(6,.sl 4 .b),(4,.sl 3 (.i .i64)),(5,.bx 103 [.mw 6]),(3,.fm 31 (.sl (.i .i64)) 0 3 (.i .i64)),(0,.bx 100 [.ptr 1 0]),(1,.bx 134 [.c (.sl (.pr (.i .i64) (.pr (.i .u8) (.i .i64)))),.mw 2,.fw 3,.mw 4]),(2,.sl 31 (.sl (.i .i64))),(7,.bx 96 [.fn 101 [.ptr 0 0,.ptr 5 0,.ptr 7 0]])]⟩,[20,19,1,0],[],16,true,""⟩),(8,⟨⟨[(72,.c (.i .i64))],[(0,.bx 100 [.ptr 1 0]),(1,.bx 134 [.c (.sl (.pr (.i .i64) (.pr (.i .u8) (.i .i64)))),.mw 2,.fw 3,.mw 4]),(2,.sl 31 (.sl (.i .i64))),(3,.fm 31 (.sl (.i .i64)) 0 3 (.i .i64)),(4,.sl 3 (.i .i64)),(7,.bx 96 [.fn 101 [.ptr 0 0,.ptr 5 0,.ptr 7 0]]),(5,.bx 103 [.mw 6]),(6,.sl 4 .b)]⟩,⟨[],[(0,.bx 100 [.ptr 1 0]),(1,.bx 134 [.c (.sl (.pr (.i .i64) (.pr (.i .u8) (.i .i64)))),.mw 2,.fw 3,.mw 4]),(2,.sl 31 (.sl (.i .i64))),(3,.fm 31 (.sl (.i .i64)) 0 3 (.i .i64)),(4,.sl 3 (.i .i64)),(7,.bx 96 [.fn 101 [.ptr 0 0,.ptr 5 0,.ptr 7 0]]),(5,.bx 103 [.mw 6]),(6,.sl 4 .b)]⟩,[71,9,21],[],16,true,""⟩)]) ((101,⟨ "",[],[],fun _=>none,[kdO k],[]⟩)::[]) (.cons (good_dm.more (kfV k)) <| .nil) (fun x=>by kernel_rfl)
def box_flow_give_c1_m0_M:CtrM:=⟨ "",[some (.i .i64),some (.i .i64),none,none,none],⟨[(2,.ptr 0 0),(3,.ptr 5 0),(4,.ptr 7 0)],[(0,.bx 100 [.ptr 1 0]),(1,.bx 134 [.c (.sl (.pr (.i .i64) (.pr (.i .u8) (.i .i64)))),.mw 2,.fw 3,.mw 4]),(2,.sl 31 (.sl (.i .i64))),(3,.fm 31 (.sl (.i .i64)) 0 3 (.i .i64)),(4,.sl 3 (.i .i64)),(5,.bx 103 [.mw 6]),(6,.sl 4 .b),(7,.bx 96 [.fn 101 [.ptr 0 0,.ptr 5 0,.ptr 7 0]])]⟩,8,⟨[(2,.ptr 0 0),(3,.ptr 5 0),(4,.ptr 7 0),(1000000,.c (.i .i64))],[(0,.bx 100 [.ptr 1 0]),(1,.bx 134 [.c (.sl (.pr (.i .i64) (.pr (.i .u8) (.i .i64)))),.mw 2,.fw 3,.mw 4]),(2,.sl 31 (.sl (.i .i64))),(3,.fm 31 (.sl (.i .i64)) 0 3 (.i .i64)),(4,.sl 3 (.i .i64)),(5,.bx 103 [.mw 6]),(6,.sl 4 .b),(7,.bx 96 [.fn 101 [.ptr 0 0,.ptr 5 0,.ptr 7 0]])]⟩,8,1,fun x=>khU x.1 x.2.1 x.2.2.1 x.2.2.2.1 x.2.2.2.2.1 x.2.2.2.2.2.1 x.2.2.2.2.2.2,false⟩
theorem kjT:box_flow_give_c1_m0_M.ok=true/\GoodM Tryz.prog 101 box_flow_give_c1_m0_M:=kfV 1000000
def box_flow_give_c1_C:Ctr:=⟨ "",[],[],fun _=>none,[],[]⟩
theorem box_flow_give_c1_C_ok:Good Tryz.prog 101 box_flow_give_c1_C:=good_dm
def khP:Ctr:=⟨ "",box_flow_give_c1_C.as,box_flow_give_c1_C.rs,box_flow_give_c1_C.F,box_flow_give_c1_m0_M::box_flow_give_c1_C.mus,box_flow_give_c1_C.its⟩
theorem kkO:Good Tryz.prog 101 khP:=(box_flow_give_c1_C_ok.more kjT)
def box_flow_give_m0_M:CtrM:=⟨ "",[none,some (.i .i64),some (.i .i64)],⟨[(0,.ptr 0 0)],[(0,.bx 134 [.c (.sl (.pr (.i .i64) (.pr (.i .u8) (.i .i64)))),.mw 1,.fw 2,.mw 3]),(1,.sl 31 (.sl (.i .i64))),(2,.fm 31 (.sl (.i .i64)) 0 3 (.i .i64)),(3,.sl 3 (.i .i64))]⟩,4,⟨[(0,.ptr 0 0),(1000000,.c (.i .i64))],[(0,.bx 134 [.c (.sl (.pr (.i .i64) (.pr (.i .u8) (.i .i64)))),.mw 1,.fw 2,.mw 3]),(1,.sl 31 (.sl (.i .i64))),(2,.fm 31 (.sl (.i .i64)) 0 3 (.i .i64)),(3,.sl 3 (.i .i64))]⟩,4,1,fun x=>kgQ x.1 x.2.1 x.2.2.1 x.2.2.2.1 x.2.2.2.2.1 x.2.2.2.2.2,false⟩
theorem kkW:box_flow_give_m0_M.ok=true/\GoodM Tryz.prog 59 box_flow_give_m0_M:=
 kal Tryz.func59 (by kernel_rfl) (An:=[(0,⟨⟨[(9,.c (.i .i64)),(3,.ptr 4 0),(7,.ptr 6 0),(8,.ptr 7 0)],[(4,.bx 100 [.ptr 0 0]),(0,.bx 134 [.c (.sl (.pr (.i .i64) (.pr (.i .u8) (.i .i64)))),.mw 1,.fw 2,.mw 3]),(1,.sl 31 (.sl (.i .i64))),(2,.fm 31 (.sl (.i .i64)) 0 3 (.i .i64)),(3,.sl 3 (.i .i64)),(6,.bx 103 [.mw 5]),(5,.sl 4 .b),(7,.bx 96 [.fn 101 [.ptr 4 0,.ptr 6 0,.ptr 7 0]])]⟩,⟨[(9,.c (.i .i64))],[(0,.bx 134 [.c (.sl (.pr (.i .i64) (.pr (.i .u8) (.i .i64)))),.mw 1,.fw 2,.mw 3]),(1,.sl 31 (.sl (.i .i64))),(2,.fm 31 (.sl (.i .i64)) 0 3 (.i .i64)),(3,.sl 3 (.i .i64))]⟩,[2,1],[],12,false,""⟩)]) [(101,khP)] (.cons kkO <| .nil) (fun x=>by kernel_rfl)
def box_flow_give_C:Ctr:=⟨ "",[],[],fun _=>none,[],[]⟩
theorem box_flow_give_C_ok:Good Tryz.prog 59 box_flow_give_C:=good_dm
def kgM:Ctr:=⟨ "",box_flow_give_C.as,box_flow_give_C.rs,box_flow_give_C.F,box_flow_give_m0_M::box_flow_give_C.mus,box_flow_give_C.its⟩
theorem khR:Good Tryz.prog 59 kgM:=(box_flow_give_C_ok.more kkW)
def kpL:Ctr:=⟨ "",[(.sl (.pr (.i .i64) (.pr (.i .u8) (.i .i64)))),(.sl (.pr (.i .i64) (.pr (.i .u8) (.i .i64)))),(.sl tSwap)],[kvG,(.i .i64)],fun x=>kum x.1 x.2.1 x.2.2,[],[]⟩
theorem ksg:Good Tryz.prog 19 kpL:=
 kae Tryz.func19 (by kernel_rfl) (An:=[(0,⟨⟨[(31,.c (.i .i64)),(10,.c (.i .i64))],[]⟩,⟨[(10,.c (.i .i64))],[]⟩,[30,29,8,11,6],[2,1,0],3,false,""⟩),(0,⟨⟨[(31,.c (.i .i64)),(8,.ptr 2 0),(10,.c (.i .i64)),(11,.mw 6)],[(2,.bx 134 [.c (.sl (.pr (.i .i64) (.pr (.i .u8) (.i .i64)))),.mw 3,.fw 4,.mw 5]),(3,.sl 31 (.sl (.i .i64))),(4,.fm 31 (.sl (.i .i64)) 0 3 (.i .i64)),(5,.sl 3 (.i .i64)),(6,.sl 4 .b)]⟩,⟨[(10,.c (.i .i64)),(8,.ptr 7 0),(11,.mw 11)],[(7,.bx 134 [.c (.sl (.pr (.i .i64) (.pr (.i .u8) (.i .i64)))),.mw 8,.fw 9,.mw 10]),(8,.sl 31 (.sl (.i .i64))),(9,.fm 31 (.sl (.i .i64)) 0 3 (.i .i64)),(10,.sl 3 (.i .i64)),(11,.sl 4 .b)]⟩,[30,29,6],[1,0],12,false,""⟩)]) [(60,kiY),(58,kjx),(59,kgM)] (.cons klJ <| .cons kkp <| .cons khR <| .nil) (fun x=>by kernel_rfl)
def kmM:Ctr:=⟨ "",[(.pr (.i .i64) (.pr (.i .u8) (.i .i64)))],[.b],fun x=>klQ x,[],[]⟩
theorem kqi:Good Tryz.prog 65 kmM:=
 kae Tryz.func65 (by kernel_rfl) (An:=[]) [(66,kfH)] (.cons keL <| .nil) (fun x=>by kernel_rfl)
def kfU:Ctr:=⟨ "",[(.sl (.pr (.i .i64) (.pr (.i .u8) (.i .i64)))),(.i .i64),(.fn 1 (.pr (.i .i64) (.pr (.i .u8) (.i .i64))) (.pr (.i .i64) (.i .u8)))],[.b],fun x=>kei x.1 x.2.1 x.2.2,[],[]⟩
theorem kiQ:Good Tryz.prog 67 kfU:=
 kae Tryz.func67 (by kernel_rfl) (An:=[(0,⟨⟨[(11,.c (.i .i64))],[]⟩,⟨[],[]⟩,[10,9,2,0,1],[],0,true,""⟩)]) [(103,kgr),(96,kez)] (.cons kfJ <| .cons keY <| .nil) (fun x=>by kernel_rfl)
def kmj:Ctr:=⟨ "",[(.pr (.i .i64) (.pr (.i .u8) (.i .i64)))],[(.pr (.i .i64) (.i .u8))],fun x=>kdR x,[],[]⟩
theorem koZ:Good Tryz.prog 68 kmj:=
 kae Tryz.func68 (by kernel_rfl) (An:=[]) [] (.nil) (fun x=>by kernel_rfl)
def kbI:Ctr:=⟨ "",[(.sl (.pr (.i .i64) (.pr (.i .u8) (.i .i64)))),(.fn 1 (.pr (.i .i64) (.pr (.i .u8) (.i .i64))) .b)],[(.i .i64)],fun x=>kbO x.1 x.2,[],[]⟩
theorem kdW:Good Tryz.prog 104 kbI:=
 kae Tryz.func104 (by kernel_rfl) (An:=[(0,⟨⟨[(8,.c (.i .i64))],[]⟩,⟨[],[]⟩,[7,1,0],[],0,true,""⟩)]) [] (.nil) (fun x=>by kernel_rfl)
def kbw:Ctr:=⟨ "",[(.sl (.pr (.i .i64) (.pr (.i .u8) (.i .i64)))),(.fn 1 (.pr (.i .i64) (.pr (.i .u8) (.i .i64))) .b)],[.b],fun x=>kaO x.1 x.2,[],[]⟩
theorem kdm:Good Tryz.prog 69 kbw:=
 kae Tryz.func69 (by kernel_rfl) (An:=[]) [(104,kbI)] (.cons kdW <| .nil) (fun x=>by kernel_rfl)
def knM:Ctr:=⟨ "",[tLine,tLine],[(.i .i64)],fun x=>klV x.1 x.2,[],[]⟩
theorem kqA:Good Tryz.prog 73 knM:=
 kae Tryz.func73 (by kernel_rfl) (An:=[]) [] (.nil) (fun x=>by kernel_rfl)
def slices_insertionSortCmpFunc_box_line_m0_M:CtrM:=⟨ "",[none,some (.i .i64),some (.i .i64),some (.fn 2 (.pr tLine tLine) (.i .i64))],⟨[(0,.mw 0)],[(0,.sl 121 tLine)]⟩,1,⟨[(0,.mw 0)],[(0,.sl 121 tLine)]⟩,1,0,fun x=>kaU x.1 x.2.1 x.2.2.1 x.2.2.2,false⟩
theorem kdN:slices_insertionSortCmpFunc_box_line_m0_M.ok=true/\GoodM Tryz.prog 123 slices_insertionSortCmpFunc_box_line_m0_M:=
 kal Tryz.func123 (by kernel_rfl) (An:=[(0,⟨⟨[(8,.c (.i .i64))],[(0,.sl 121 tLine)]⟩,⟨[],[(0,.sl 121 tLine)]⟩,[2,1,3],[],2,false,""⟩),(8,⟨⟨[(9,.c (.i .i64))],[(0,.sl 121 tLine)]⟩,⟨[],[(0,.sl 121 tLine)]⟩,[8],[],2,false,""⟩)]) [] (.nil) (fun x=>by kernel_rfl)
def slices_insertionSortCmpFunc_box_line_C:Ctr:=⟨ "",[],[],fun _=>none,[],[]⟩
theorem slices_insertionSortCmpFunc_box_line_C_ok:Good Tryz.prog 123 slices_insertionSortCmpFunc_box_line_C:=good_dm
def kbK:Ctr:=⟨ "",slices_insertionSortCmpFunc_box_line_C.as,slices_insertionSortCmpFunc_box_line_C.rs,slices_insertionSortCmpFunc_box_line_C.F,slices_insertionSortCmpFunc_box_line_m0_M::slices_insertionSortCmpFunc_box_line_C.mus,slices_insertionSortCmpFunc_box_line_C.its⟩
theorem kee:Good Tryz.prog 123 kbK:=(slices_insertionSortCmpFunc_box_line_C_ok.more kdN)
def slices_swapRangeCmpFunc_box_line_m0_M:CtrM:=⟨ "",[none,some (.i .i64),some (.i .i64),some (.i .i64),some (.fn 2 (.pr tLine tLine) (.i .i64))],⟨[(0,.mw 0)],[(0,.sl 121 tLine)]⟩,1,⟨[(0,.mw 0)],[(0,.sl 121 tLine)]⟩,1,0,fun x=>kaH x.1 x.2.1 x.2.2.1 x.2.2.2.1 x.2.2.2.2,false⟩
theorem keu:slices_swapRangeCmpFunc_box_line_m0_M.ok=true/\GoodM Tryz.prog 137 slices_swapRangeCmpFunc_box_line_m0_M:=
 kal Tryz.func137 (by kernel_rfl) (An:=[(0,⟨⟨[(10,.c (.i .i64))],[(0,.sl 121 tLine)]⟩,⟨[],[(0,.sl 121 tLine)]⟩,[3,1,2],[],2,false,""⟩)]) [] (.nil) (fun x=>by kernel_rfl)
def slices_swapRangeCmpFunc_box_line_C:Ctr:=⟨ "",[],[],fun _=>none,[],[]⟩
theorem slices_swapRangeCmpFunc_box_line_C_ok:Good Tryz.prog 137 slices_swapRangeCmpFunc_box_line_C:=good_dm
def kcn:Ctr:=⟨ "",slices_swapRangeCmpFunc_box_line_C.as,slices_swapRangeCmpFunc_box_line_C.rs,slices_swapRangeCmpFunc_box_line_C.F,slices_swapRangeCmpFunc_box_line_m0_M::slices_swapRangeCmpFunc_box_line_C.mus,slices_swapRangeCmpFunc_box_line_C.its⟩
theorem keO:Good Tryz.prog 137 kcn:=(slices_swapRangeCmpFunc_box_line_C_ok.more keu)
def slices_rotateCmpFunc_box_line_m0_M:CtrM:=⟨ "",[none,some (.i .i64),some (.i .i64),some (.i .i64),some (.fn 2 (.pr tLine tLine) (.i .i64))],⟨[(0,.mw 0)],[(0,.sl 121 tLine)]⟩,1,⟨[(0,.mw 0)],[(0,.sl 121 tLine)]⟩,1,0,fun x=>kcO x.1 x.2.1 x.2.2.1 x.2.2.2.1 x.2.2.2.2,false⟩
theorem kfe:slices_rotateCmpFunc_box_line_m0_M.ok=true/\GoodM Tryz.prog 133 slices_rotateCmpFunc_box_line_m0_M:=
 kal Tryz.func133 (by kernel_rfl) (An:=[(0,⟨⟨[(10,.c (.i .i64)),(11,.c (.i .i64))],[(0,.sl 121 tLine)]⟩,⟨[(10,.c (.i .i64))],[(0,.sl 121 tLine)]⟩,[2,4],[],2,false,""⟩)]) [(137,kcn)] (.cons keO <| .nil) (fun x=>by kernel_rfl)
def slices_rotateCmpFunc_box_line_C:Ctr:=⟨ "",[],[],fun _=>none,[],[]⟩
theorem slices_rotateCmpFunc_box_line_C_ok:Good Tryz.prog 133 slices_rotateCmpFunc_box_line_C:=good_dm
def kcW:Ctr:=⟨ "",slices_rotateCmpFunc_box_line_C.as,slices_rotateCmpFunc_box_line_C.rs,slices_rotateCmpFunc_box_line_C.F,slices_rotateCmpFunc_box_line_m0_M::slices_rotateCmpFunc_box_line_C.mus,slices_rotateCmpFunc_box_line_C.its⟩
theorem kfO:Good Tryz.prog 133 kcW:=(slices_rotateCmpFunc_box_line_C_ok.more kfe)
def kbb (k:Nat):CtrM:=⟨ "",[none,some (.i .i64),some (.i .i64),some (.i .i64),some (.fn 2 (.pr tLine tLine) (.i .i64))],⟨[(0,.mw 0)],[(0,.sl 121 tLine)]⟩,1,⟨[(0,.mw 0)],[(0,.sl 121 tLine)]⟩,1,0,fun x=>kbc k x.1 x.2.1 x.2.2.1 x.2.2.2.1 x.2.2.2.2,false⟩
theorem kbR:∀ k,(kbb k).ok=true/\GoodM Tryz.prog 124 (kbb k)
 | 0=>khA (by kernel_rfl) (fun x=>rfl)
 | k+1=>kal Tryz.func124 (by kernel_rfl) (An:=[(0,⟨⟨[(10,.c (.i .i64)),(11,.c (.i .i64))],[]⟩,⟨[(10,.c (.i .i64))],[]⟩,[4,1],[0],1,false,""⟩),(8,⟨⟨[(13,.c (.i .i64))],[(0,.sl 121 tLine)]⟩,⟨[],[(0,.sl 121 tLine)]⟩,[10],[],2,false,""⟩),(16,⟨⟨[(14,.c (.i .i64)),(15,.c (.i .i64))],[]⟩,⟨[(14,.c (.i .i64))],[]⟩,[4,2],[0],1,false,""⟩),(24,⟨⟨[(17,.c (.i .i64))],[(0,.sl 121 tLine)]⟩,⟨[],[(0,.sl 121 tLine)]⟩,[14],[],2,false,""⟩),(561,⟨⟨[],[]⟩,⟨[(20,.c (.i .i64)),(21,.c (.i .i64))],[]⟩,[19,3,18,4,2,1],[0],1,false,""⟩),(32,⟨⟨[(20,.c (.i .i64)),(21,.c (.i .i64))],[]⟩,⟨[(20,.c (.i .i64))],[]⟩,[4,22,19,2,1,18,3],[0],1,false,""⟩),(158,⟨⟨[],[]⟩,⟨[(185,.c .b)],[]⟩,[20,2,24,4,1,18,3],[0],1,false,""⟩),(741,⟨⟨[],[(0,.sl 121 tLine)]⟩,⟨[],[(0,.sl 121 tLine)]⟩,[20,2,24,4,1,18,3],[],2,false,""⟩),(166,⟨⟨[],[]⟩,⟨[(199,.c .b)],[]⟩,[1,20,18,4,24,3],[0],2,false,""⟩),(797,⟨⟨[],[(0,.sl 121 tLine)]⟩,⟨[],[(0,.sl 121 tLine)]⟩,[1,20,18,4,24,3],[],3,false,""⟩)]) ((124,⟨ "",[],[],fun _=>none,[kbb k],[]⟩)::[(133,kcW)]) (.cons (good_dm.more (kbR k)) <| .cons kfO <| .nil) (fun x=>by kernel_rfl)
def slices_symMergeCmpFunc_box_line_m0_M:CtrM:=⟨ "",[none,some (.i .i64),some (.i .i64),some (.i .i64),some (.fn 2 (.pr tLine tLine) (.i .i64))],⟨[(0,.mw 0)],[(0,.sl 121 tLine)]⟩,1,⟨[(0,.mw 0)],[(0,.sl 121 tLine)]⟩,1,0,fun x=>kbm x.1 x.2.1 x.2.2.1 x.2.2.2.1 x.2.2.2.2,false⟩
theorem keH:slices_symMergeCmpFunc_box_line_m0_M.ok=true/\GoodM Tryz.prog 124 slices_symMergeCmpFunc_box_line_m0_M:=kbR 1000000
def slices_symMergeCmpFunc_box_line_C:Ctr:=⟨ "",[],[],fun _=>none,[],[]⟩
theorem slices_symMergeCmpFunc_box_line_C_ok:Good Tryz.prog 124 slices_symMergeCmpFunc_box_line_C:=good_dm
def kcB:Ctr:=⟨ "",slices_symMergeCmpFunc_box_line_C.as,slices_symMergeCmpFunc_box_line_C.rs,slices_symMergeCmpFunc_box_line_C.F,slices_symMergeCmpFunc_box_line_m0_M::slices_symMergeCmpFunc_box_line_C.mus,slices_symMergeCmpFunc_box_line_C.its⟩
theorem kfj:Good Tryz.prog 124 kcB:=(slices_symMergeCmpFunc_box_line_C_ok.more keH)
def slices_stableCmpFunc_box_line_m0_M:CtrM:=⟨ "",[none,some (.i .i64),some (.fn 2 (.pr tLine tLine) (.i .i64))],⟨[(0,.mw 0)],[(0,.sl 121 tLine)]⟩,1,⟨[(0,.mw 0)],[(0,.sl 121 tLine)]⟩,1,0,fun x=>kcU x.1 x.2.1 x.2.2,false⟩
theorem kfh:slices_stableCmpFunc_box_line_m0_M.ok=true/\GoodM Tryz.prog 106 slices_stableCmpFunc_box_line_m0_M:=
 kal Tryz.func106 (by kernel_rfl) (An:=[(0,⟨⟨[(8,.c (.i .i64)),(7,.c (.i .i64))],[(0,.sl 121 tLine)]⟩,⟨[(7,.c (.i .i64))],[(0,.sl 121 tLine)]⟩,[1,2,6],[],2,false,""⟩),(8,⟨⟨[(6,.c (.i .i64))],[(0,.sl 121 tLine)]⟩,⟨[],[(0,.sl 121 tLine)]⟩,[1,2],[],3,false,""⟩),(16,⟨⟨[(8,.c (.i .i64)),(7,.c (.i .i64))],[(0,.sl 121 tLine)]⟩,⟨[(7,.c (.i .i64))],[(0,.sl 121 tLine)]⟩,[6],[],3,false,""⟩)]) [(124,kcB),(123,kbK)] (.cons kfj <| .cons kee <| .nil) (fun x=>by kernel_rfl)
def slices_stableCmpFunc_box_line_C:Ctr:=⟨ "",[],[],fun _=>none,[],[]⟩
theorem slices_stableCmpFunc_box_line_C_ok:Good Tryz.prog 106 slices_stableCmpFunc_box_line_C:=good_dm
def kcY:Ctr:=⟨ "",slices_stableCmpFunc_box_line_C.as,slices_stableCmpFunc_box_line_C.rs,slices_stableCmpFunc_box_line_C.F,slices_stableCmpFunc_box_line_m0_M::slices_stableCmpFunc_box_line_C.mus,slices_stableCmpFunc_box_line_C.its⟩
theorem kfI:Good Tryz.prog 106 kcY:=(slices_stableCmpFunc_box_line_C_ok.more kfh)
def slices_SortStableFunc_s_box_line_box_line_m0_M:CtrM:=⟨ "",[none,some (.fn 2 (.pr tLine tLine) (.i .i64))],⟨[(0,.mw 0)],[(0,.sl 121 tLine)]⟩,1,⟨[(0,.mw 0)],[(0,.sl 121 tLine)]⟩,1,0,fun x=>kaG x.1 x.2,false⟩
theorem kcI:slices_SortStableFunc_s_box_line_box_line_m0_M.ok=true/\GoodM Tryz.prog 72 slices_SortStableFunc_s_box_line_box_line_m0_M:=
 kal Tryz.func72 (by kernel_rfl) (An:=[]) [(106,kcY)] (.cons kfI <| .nil) (fun x=>by kernel_rfl)
def slices_SortStableFunc_s_box_line_box_line_C:Ctr:=⟨ "",[],[],fun _=>none,[],[]⟩
theorem slices_SortStableFunc_s_box_line_box_line_C_ok:Good Tryz.prog 72 slices_SortStableFunc_s_box_line_box_line_C:=good_dm
def kbo:Ctr:=⟨ "",slices_SortStableFunc_s_box_line_box_line_C.as,slices_SortStableFunc_s_box_line_box_line_C.rs,slices_SortStableFunc_s_box_line_box_line_C.F,slices_SortStableFunc_s_box_line_box_line_m0_M::slices_SortStableFunc_s_box_line_box_line_C.mus,slices_SortStableFunc_s_box_line_box_line_C.its⟩
theorem kcQ:Good Tryz.prog 72 kbo:=(slices_SortStableFunc_s_box_line_box_line_C_ok.more kcI)
def box_cheapest_c1_m0_M:CtrM:=⟨ "",[some (.pr (.i .i64) (.i .u8)),none,none,none,none],⟨[(1,.ptr 0 0),(2,.ptr 2 0),(3,.ptr 3 0),(4,.ptr 4 0)],[(0,.bx 113 [.mp 1]),(1,.mp (.pr (.i .i64) (.i .u8)) (.i .i64)),(2,.bx 4 [.c .b]),(3,.bx 3 [.c (.i .i64)]),(4,.bx 115 [.c (.i .i64),.c (.i .u8)])]⟩,5,⟨[(1,.ptr 0 0),(2,.ptr 2 0),(3,.ptr 3 0),(4,.ptr 4 0)],[(0,.bx 113 [.mp 1]),(1,.mp (.pr (.i .i64) (.i .u8)) (.i .i64)),(2,.bx 4 [.c .b]),(3,.bx 3 [.c (.i .i64)]),(4,.bx 115 [.c (.i .i64),.c (.i .u8)])]⟩,5,0,fun x=>kfD x.1 x.2.1 x.2.2.1 x.2.2.2.1 x.2.2.2.2.1 x.2.2.2.2.2,false⟩
theorem kkf:box_cheapest_c1_m0_M.ok=true/\GoodM Tryz.prog 105 box_cheapest_c1_m0_M:=
 kal Tryz.func105 (by kernel_rfl) (An:=[]) [(103,kgr)] (.cons kfJ <| .nil) (fun x=>by kernel_rfl)
def box_cheapest_c1_C:Ctr:=⟨ "",[],[],fun _=>none,[],[]⟩
theorem box_cheapest_c1_C_ok:Good Tryz.prog 105 box_cheapest_c1_C:=good_dm
def khQ:Ctr:=⟨ "",box_cheapest_c1_C.as,box_cheapest_c1_C.rs,box_cheapest_c1_C.F,box_cheapest_c1_m0_M::box_cheapest_c1_C.mus,box_cheapest_c1_C.its⟩
theorem kkF:Good Tryz.prog 105 khQ:=(box_cheapest_c1_C_ok.more kkf)
def box_cheapest_m0_M:CtrM:=⟨ "",[some (.sl tSwap),none,some (.pr (.i .i64) (.i .u8))],⟨[(1,.mp 0)],[(0,.mp (.pr (.i .i64) (.i .u8)) (.i .i64))]⟩,1,⟨[(1,.mp 0),(1000000,.c (.i .i64)),(1000001,.ag [.c (.i .i64),.c (.i .u8)]),(1000002,.c .b)],[(0,.mp (.pr (.i .i64) (.i .u8)) (.i .i64))]⟩,1,3,fun x=>khj x.1 x.2.1 x.2.2,false⟩
theorem klM:box_cheapest_m0_M.ok=true/\GoodM Tryz.prog 70 box_cheapest_m0_M:=
 kal Tryz.func70 (by kernel_rfl) (An:=[(0,⟨⟨[(22,.c (.i .i64)),(12,.fn 105 [.ptr 1 0,.ptr 6 0,.ptr 4 0,.ptr 5 0]),(9,.ptr 4 0),(10,.ptr 5 0),(11,.ptr 6 0)],[(1,.bx 113 [.mp 0]),(0,.mp (.pr (.i .i64) (.i .u8)) (.i .i64)),(6,.bx 4 [.c .b]),(4,.bx 3 [.c (.i .i64)]),(5,.bx 115 [.c (.i .i64),.c (.i .u8)])]⟩,⟨[(9,.ptr 7 0),(10,.ptr 8 0),(11,.ptr 9 0)],[(7,.bx 3 [.c (.i .i64)]),(8,.bx 115 [.c (.i .i64),.c (.i .u8)]),(9,.bx 4 [.c .b]),(0,.mp (.pr (.i .i64) (.i .u8)) (.i .i64))]⟩,[21,20,5,7],[2,3],11,false,""⟩)]) [(105,khQ)] (.cons kkF <| .nil) (fun x=>by kernel_rfl)
def box_cheapest_C:Ctr:=⟨ "",[],[],fun _=>none,[],[]⟩
theorem box_cheapest_C_ok:Good Tryz.prog 70 box_cheapest_C:=good_dm
def kjW:Ctr:=⟨ "",box_cheapest_C.as,box_cheapest_C.rs,box_cheapest_C.F,box_cheapest_m0_M::box_cheapest_C.mus,box_cheapest_C.its⟩
theorem kmC:Good Tryz.prog 70 kjW:=(box_cheapest_C_ok.more klM)
def krC:Ctr:=⟨ "",[(.sl (.pr (.i .i64) (.pr (.i .u8) (.i .i64)))),(.sl (.pr (.i .i64) (.pr (.i .u8) (.i .i64)))),(.sl tSwap),(.sl (.pr (.i .i64) (.pr (.i .u8) (.i .i64))))],[tBill,(.i .i64)],fun x=>kvr x.1 x.2.1 x.2.2.1 x.2.2.2,[],[]⟩
theorem ktQ:Good Tryz.prog 23 krC:=
 kae Tryz.func23 (by kernel_rfl) (An:=[(4,⟨⟨[(55,.c (.i .i64)),(13,.mp 3)],[(3,.mp (.pr (.i .i64) (.i .u8)) (.i .i64))]⟩,⟨[(13,.mp 4)],[(4,.mp (.pr (.i .i64) (.i .u8)) (.i .i64))]⟩,[54,53,1,2,10,8,3],[2,0,1],5,false,""⟩),(12,⟨⟨[(67,.c (.i .i64)),(13,.mp 4),(16,.mw 5)],[(4,.mp (.pr (.i .i64) (.i .u8)) (.i .i64)),(5,.sl 121 tLine)]⟩,⟨[(16,.mw 6)],[(6,.sl 121 tLine)]⟩,[66,65,2,1,10,8,3],[2,0,1],7,false,""⟩),(20,⟨⟨[(101,.c (.i .i64))],[]⟩,⟨[],[]⟩,[100,99,10,22,8,23,3],[6,12,7,9,2,0,1,13],14,true,""⟩),(28,⟨⟨[(152,.c (.i .i64)),(8,.ptr 2 0),(22,.ptr 12 0)],[(2,.bx 43 [.mw 0,.mw 1,.c (.i .i64)]),(12,.bx 43 [.mw 7,.mw 9,.c (.i .i64)]),(9,.sl 50 (.pr (.i .i64) (.pr (.i .u8) (.i .i64))))]⟩,⟨[(22,.ptr 14 0),(8,.ptr 16 0)],[(14,.bx 43 [.mw 7,.mw 15,.c (.i .i64)]),(15,.sl 50 (.pr (.i .i64) (.pr (.i .u8) (.i .i64)))),(16,.bx 43 [.mw 0,.mw 1,.c (.i .i64)])]⟩,[151,150,23],[13,0,1,7],17,true,""⟩),(4,⟨⟨[(55,.c (.i .i64)),(13,.mp 7)],[(7,.mp (.pr (.i .i64) (.i .u8)) (.i .i64))]⟩,⟨[(13,.mp 8)],[(8,.mp (.pr (.i .i64) (.i .u8)) (.i .i64))]⟩,[54,53,1,2,10,8,3],[3,4,5,6,2,0,1],9,false,""⟩),(12,⟨⟨[(67,.c (.i .i64)),(13,.mp 8),(16,.mw 9)],[(8,.mp (.pr (.i .i64) (.i .u8)) (.i .i64)),(9,.sl 121 tLine)]⟩,⟨[(16,.mw 10)],[(10,.sl 121 tLine)]⟩,[66,65,2,1,10,8,3],[3,4,5,6,2,0,1],11,false,""⟩),(20,⟨⟨[(101,.c (.i .i64)),(10,.ptr 3 0),(22,.ptr 16 0),(8,.ptr 2 0),(23,.mp 17)],[(3,.bx 134 [.c (.sl (.pr (.i .i64) (.pr (.i .u8) (.i .i64)))),.mw 4,.fw 5,.mw 6]),(4,.sl 31 (.sl (.i .i64))),(5,.fm 31 (.sl (.i .i64)) 0 3 (.i .i64)),(6,.sl 3 (.i .i64)),(16,.bx 43 [.mw 11,.mw 13,.c (.i .i64)]),(11,.sl 3 (.i .i64)),(2,.bx 43 [.mw 0,.mw 1,.c (.i .i64)]),(17,.mp (.pr (.i .i64) (.i .u8)) (.i .i64))]⟩,⟨[(23,.mp 18),(8,.ptr 19 0),(22,.ptr 20 0)],[(18,.mp (.pr (.i .i64) (.i .u8)) (.i .i64)),(19,.bx 43 [.mw 0,.mw 1,.c (.i .i64)]),(20,.bx 43 [.mw 21,.mw 13,.c (.i .i64)]),(21,.sl 3 (.i .i64))]⟩,[100,99,3],[10,13,0,1],22,true,""⟩),(114,⟨⟨[],[]⟩,⟨[(125,.c .b)],[]⟩,[26,25,8,22,23,101,10],[18,2,16,11,17,3,4,5,6],19,false,""⟩),(28,⟨⟨[(152,.c (.i .i64)),(8,.ptr 19 0),(22,.ptr 20 0)],[(19,.bx 43 [.mw 0,.mw 1,.c (.i .i64)]),(20,.bx 43 [.mw 21,.mw 13,.c (.i .i64)]),(13,.sl 50 (.pr (.i .i64) (.pr (.i .u8) (.i .i64))))]⟩,⟨[(22,.ptr 22 0),(8,.ptr 24 0)],[(22,.bx 43 [.mw 21,.mw 23,.c (.i .i64)]),(23,.sl 50 (.pr (.i .i64) (.pr (.i .u8) (.i .i64)))),(24,.bx 43 [.mw 0,.mw 1,.c (.i .i64)])]⟩,[151,150,23],[18,0,1,21],25,true,""⟩)]) [(58,kjx),(70,kjW),(72,kbo),(73,knM),(69,kbw),(68,kmj),(67,kfU),(65,kmM),(59,kgM),(71,kdY)] (.cons kkp <| .cons kmC <| .cons kcQ <| .cons kqA <| .cons kdm <| .cons koZ <| .cons kiQ <| .cons kqi <| .cons khR <| .cons kdH <| .nil) (fun x=>by kernel_rfl)
def kmt:Ctr:=⟨ "",[],[(.sl (.sl (.pr (.i .i64) (.pr (.i .u8) (.i .i64)))))],fun x=>law08_plans,[],[]⟩
theorem kpc:Good Tryz.prog 46 kmt:=
 kae Tryz.func46 (by kernel_rfl) (An:=[]) [(43,khp)] (.cons khH <| .nil) (fun x=>by kernel_rfl)
def kjw:Ctr:=⟨ "",[(.i .i64)],[.b],fun x=>kln x,[],[]⟩
theorem kmD:Good Tryz.prog 107 kjw:=
 kae Tryz.func107 (by kernel_rfl) (An:=[]) [(66,kfH)] (.cons keL <| .nil) (fun x=>by kernel_rfl)
def kbT:Ctr:=⟨ "",[(.sl (.i .i64)),(.fn 1 (.i .i64) .b)],[(.i .i64)],fun x=>kcu x.1 x.2,[],[]⟩
theorem kdj:Good Tryz.prog 86 kbT:=
 kae Tryz.func86 (by kernel_rfl) (An:=[(0,⟨⟨[(8,.c (.i .i64))],[]⟩,⟨[],[]⟩,[7,1,0],[],0,true,""⟩)]) [] (.nil) (fun x=>by kernel_rfl)
def kdk:Ctr:=⟨ "",[(.sl (.i .i64)),(.fn 1 (.i .i64) .b)],[.b],fun x=>kdU x.1 x.2,[],[]⟩
theorem kfZ:Good Tryz.prog 108 kdk:=
 kae Tryz.func108 (by kernel_rfl) (An:=[]) [(86,kbT)] (.cons kdj <| .nil) (fun x=>by kernel_rfl)
def kmx:Ctr:=⟨ "",[(.sl (.sl (.pr (.i .i64) (.pr (.i .u8) (.i .i64))))),(.sl (.i .i64))],[(.i .i64)],fun x=>koN x.1 x.2,[],[]⟩
theorem kpr:Good Tryz.prog 74 kmx:=
 kae Tryz.func74 (by kernel_rfl) (An:=[]) [(108,kdk),(107,kjw),(50,kcq)] (.cons kfZ <| .cons kmD <| .cons kbX <| .nil) (fun x=>by kernel_rfl)
def kmp:Ctr:=⟨ "",[(.i .i64),(.i .i64)],[(.i .i64)],fun x=>kow x.1 x.2,[],[]⟩
theorem kpj:Good Tryz.prog 53 kmp:=
 kae Tryz.func53 (by kernel_rfl) (An:=[]) [] (.nil) (fun x=>by kernel_rfl)
def kmu:Ctr:=⟨ "",[(.pr (.i .i64) (.pr (.i .u8) (.i .i64)))],[.b],fun x=>kot x,[],[]⟩
theorem kph:Good Tryz.prog 55 kmu:=
 kae Tryz.func55 (by kernel_rfl) (An:=[]) [] (.nil) (fun x=>by kernel_rfl)
def kvU:Ctr:=⟨ "",[(.sl (.pr (.i .i64) (.pr (.i .u8) (.i .i64)))),(.sl (.pr (.i .i64) (.pr (.i .u8) (.i .i64))))],[(.sl (.pr (.i .i64) (.pr (.i .u8) (.i .i64)))),(.i .i64)],fun x=>kpz x.1 x.2,[],[]⟩
theorem box_Take_C_ok:Good Tryz.prog 17 kvU:=
 kae Tryz.func17 (by kernel_rfl) (An:=[]) [(55,kmu),(53,kmp),(51,kjz),(50,kcq),(54,kaP)] (.cons kph <| .cons kpj <| .cons kkl <| .cons kbX <| .cons kbu <| .nil) (fun x=>by kernel_rfl)
def kcy:Ctr:=⟨ "",[(.sl (.pr (.i .i64) (.pr (.i .u8) (.i .i64))))],[(.sl (.pr (.i .i64) (.pr (.i .u8) (.i .i64))))],fun x=>kaq x,[],[]⟩
theorem slices_Clone_s_api_Item_api_Item_C_ok:Good Tryz.prog 80 kcy:=
 kae Tryz.func80 (by kernel_rfl) (An:=[]) [] (.nil) (fun x=>by kernel_rfl)
def growT:Ty:=.sl (.pr (.i .i64) (.pr (.i .u8) (.i .i64)))
abbrev GrowL:=List (Int×Int×Int)
def growA (x:GrowL):AV:=growT.av x
def growE (x:GrowL):List AV:=growT.enc x
def growY (y:Int×GrowL):List AV:=[.sc (.int .i64 y.1),growA y.2]
def growG (l:Nat) (A:AV):Nat->AV
 | 0=>.fn 110 [A,.fp [.sc (.func (.yield l) #[] #[])],.un]
 | d+1=>.fn 110 [A,.fp [.sc (.func (.yield l) #[] #[])],.fp [growG l A d]]
theorem kwC {l:Nat} {A:AV}:∀ d,(growG l A d).one=true
 | 0=>rfl
 | _+1=>rfl
theorem kqn {l:Nat} {A:AV} (hA:Free A):∀ d,Free (growG l A d)
 | 0=>by
  simp only [growG,kgX,kbv,kif,krj,kfo,and_true,true_and]
  exact ⟨hA,.un⟩
 | d+1=>by
  have:=kqn (l:=l) hA d
  simp only [growG,kgX,kbv,kif,krj,kfo,and_true,true_and]
  exact ⟨hA,this⟩
theorem khx (x:GrowL):Free (growA x):=kgR growT x rfl
theorem kwz {l p:GrowL} {r:GrowL×Int} (h:kpz l p=some r):PC Tryz.prog 17 [growA l,growA p] (·= .tp [growA r.1,.sc (.int .i64 r.2)]):=
 box_Take_C_ok.2.1 (l,p) r h _ ⟨_,_,rfl,(kcz rfl).2 rfl,_,rfl,(kcz rfl).2 rfl⟩
theorem kos (ps:List GrowL):Free (.sl (ps.map growE)):=kgR (.sl growT) ps rfl
theorem kqJ (l:Nat) (ps:List GrowL):∀ (d:Nat) (i s:Int) (x:GrowL) (ls:List (Int×GrowL)),kbW d ps i s x=some ls->
  YV Tryz.prog l (growG l (.fp [.sl (ps.map growE)]) d) [.sc (.int .i64 i),.sc (.int .i64 s),growA x] (ls.map growY)
 | 0,i,s,x,ls,h=>by cases h
 | d+1,i,s,x,ls,h=>by
  refine YV.of_body (fn:=Tryz.f110) (rd:=9) Tryz.func110 rfl (by kernel_rfl) (by show 6<=49; omega) (by show 49<=9000000; omega) rfl fun D G O k hD hl ok hx=>?_
  subst hl
  have hg:=kqn (l:=G.l) (A:=.fp [.sl (ps.map growE)]) (by simpa using kos ps) d
  have hfree:=khx x
  let I:AV:=.sc (.int .i64 i)
  let S:AV:=.sc (.int .i64 s)
  let X:=growA x
  let A:AV:=.fp [.sl (ps.map growE)]
  let R:AV:=.fp [growG G.l A d]
  refine Sat.ofL ?_
  refine SatL.seq (SatL.rreg rfl ⟨.sc (.bool false),.assign rfl rfl,?_⟩)
  refine SatL.seq (SatL.seq (SatL.rreg rfl ⟨I,.move rfl rfl,_,.load rfl rfl (by kernel_rfl),_,.len rfl rfl rfl rfl rfl (by kernel_rfl),_,.bin rfl rfl rfl (fun K hk=>⟨rfl,hk⟩),?_⟩))
  refine SatL.condX (v:=i==(ps.map growE).length) rfl (fun e=>?_) fun e=>SatL.skip ?_
  ·have hi:i=lenI ps:=by simpa [lenI] using e
   obtain rfl:[(s,x)]=ls:=Option.some.inj ((if_pos hi).symm.trans h)
   refine SatL.seq (SatL.yreg 3 rfl hD ok rfl ⟨_,.load rfl rfl (by kernel_rfl),S,.move rfl rfl,X,.move rfl rfl,YieldK.of [] (z:=ah0) (es:=List.replicate k []) (avs:=[.sc (.int .i64 s),growA x]) (.inl rfl) rfl rfl .yield rfl (by simpa [growY] using hx) (fun q B h=>by cases h) (Snap.V (.free _ (.sc _))) (SnapL.free (show FreeL [S,X] by simp [S,X,hfree])) (fun t ht=>by cases ht) (aopsR.plain ⟨.sc (.bool true),.assign rfl rfl,?_⟩) (aopsR.plain ⟨.sc (.bool false),.assign rfl rfl,?_⟩)⟩)
   ·exact SatL.ret ⟨.inr rfl,.inl ⟨_,rfl,by simp,rfl⟩⟩
   ·exact SatL.ret ⟨.inr rfl,.inr ⟨rfl,rfl⟩⟩
  have hi:¬ i=lenI ps:=by simpa [lenI] using e
  replace h:=(if_neg hi).symm.trans h
  obtain ⟨p,hp,h⟩:=jaa.1 h
  obtain ⟨r,hr,h⟩:=jaa.1 h
  obtain ⟨h0,hp⟩:=kmS hp
  let Z:=growA r.1
  let E:AV:=.sc (.int .i64 r.2)
  refine SatL.seq (SatL.seq (SatL.rreg rfl ⟨X,.move rfl rfl,_,.load rfl rfl (by kernel_rfl),I,.move rfl rfl,_,.idx (e:=22) (c:=growE p) rfl rfl rfl (by kernel_rfl) h0 (by simp; exact ⟨p,hp,rfl⟩) (by kernel_rfl) (by simp [growE,growT,Ty.enc]),growA p,.load rfl rfl (by kernel_rfl),.tp [Z,E],.call rfl rfl rfl rfl (kwz hr) (show FreeL [X,growA p] by simp only [kbv,kfo,and_true]; exact ⟨hfree,khx p⟩),.tp [Z,E],.move rfl rfl,Z,.extract rfl rfl rfl,E,.extract rfl rfl rfl,Z,.assign rfl rfl,E,.assign rfl rfl,?_⟩))
  have last:∀ (es:List (List AV)) (ls2:List (Int×GrowL)) (env:Env),lk env GS = .gs es->lk env 0=I->lk env 1=S->lk env 2=X->lk env 5=R->kbW d ps (w64 (i+1)) s x=some ls2->es.length+ls2.length=k+ls.length->(∀ j,j<ls2.length->G.xs[es.length+j]?=(ls2.map growY)[j]?)->
    SatL Tryz.prog 49 D O [(Tryz.f110.body.getD .skip |> fun c=>match c with | .seq _ (.seq _ (.seq _ c))=>c | c=>c)] (yvQ 9 (k+(ls.map growY).length)) ⟨env,ah0,0⟩:=by
   intro es ls2 env e1 e2 e3 e4 e5 hg2 hlen hx2
   let I1:AV:=.sc (.int .i64 (w64 (i+1)))
   refine SatL.seq (SatL.yreg 5 rfl hD ok rfl ⟨growG G.l A d,.load rfl (show deref ah0 (lk env 5)=_ by rw [e5]; rfl) (by kernel_rfl),I,.move rfl e2,I1,.bin rfl rfl rfl (fun K hk=>⟨rfl,hk⟩),S,.move rfl e3,X,.move rfl e4,
    YieldK.of [] (z:=ah0) (es:=es) (avs:=[I1,S,X]) (.inl rfl) rfl rfl (kqJ G.l ps d (w64 (i+1)) s x ls2 hg2) e1 (by simpa using hx2) (fun q B h=>by cases h) (Snap.V (.free _ hg)) (SnapL.free (show FreeL [I1,S,X] by simp [I1,S,X,hfree])) (fun t ht=>by cases ht) (aopsR.plain ⟨.sc (.bool true),.assign rfl rfl,?_⟩) (aopsR.plain ⟨.sc (.bool false),.assign rfl rfl,?_⟩)⟩)
   ·exact SatL.ret ⟨.inr rfl,.inl ⟨_,rfl,by simp; omega,rfl⟩⟩
   ·exact SatL.ret ⟨.inr rfl,.inr ⟨rfl,rfl⟩⟩
  by_cases hr0:r.2=0
  ·rw [if_pos hr0] at h
   obtain ⟨b,hb,h⟩:=jaa.1 h
   obtain ⟨l1,hl1,h⟩:=jaa.1 h
   obtain ⟨l2,hl2,h⟩:=jaa.1 h
   obtain rfl:l1++l2=ls:=Option.some.inj h
   obtain rfl:w64 (1*2 ^ (min i.toNat 64))=b:=Option.some.inj ((if_pos h0).symm.trans hb)
   have hx1:∀ j,j<l1.length+l2.length->G.xs[k+j]?=(l1.map growY++l2.map growY)[j]?:=fun j hj=>by
    rw [<-jcx]
    exact hx j (by rw [jar]; exact Nat.lt_of_lt_of_eq hj jbg.symm)
   have hlen:(l1++l2).length=l1.length+l2.length:=jbg
   let I1:AV:=.sc (.int .i64 (w64 (i+1)))
   let W:AV:=.sc (.int .i64 (w64 (1*2 ^ (min i.toNat 64))))
   let S1:AV:=.sc (.int .i64 (bitsI .or .i64 s (w64 (1*2 ^ (min i.toNat 64)))))
   refine SatL.seq (SatL.yregD 11 rfl hD ok (by kernel_rfl) (by kernel_rfl) (by kernel_rfl) (by kernel_rfl) rfl ⟨E,.move rfl rfl,.sc (.bool true),.bin rfl rfl rfl (fun K hk=>⟨rfl,by rw [hr0]; exact hk⟩),.sc (.bool true),.move rfl rfl,growG G.l A d,.load rfl rfl (by kernel_rfl),I,.move rfl rfl,I1,.bin rfl rfl rfl (fun K hk=>⟨rfl,hk⟩),S,.move rfl rfl,I,.move rfl rfl,
    W,.bin rfl rfl rfl (fun K hk=>⟨h0,hk⟩),S1,.bin rfl rfl rfl (fun K hk=>⟨rfl,hk⟩),Z,.move rfl rfl,
    YieldK.of [0,1,2,5,31] (z:=ah0) (es:=List.replicate k []) (avs:=[I1,S1,Z]) (.inr ⟨_,_,_,rfl,rfl,rfl⟩) rfl rfl (kqJ G.l ps d (w64 (i+1)) _ r.1 l1 hl1) rfl (fun j hj=>?_) (fun q B h=>by cases h) (Snap.V (.free _ hg)) (SnapL.free (show FreeL [I1,S1,Z] by simp only [I1,S1,kbv,kfo,and_true,krj,true_and]; exact khx r.1)) (fun t ht=>?_)
     (aopsR.plain ⟨.sc (.bool false),.not true rfl rfl rfl,.sc (.bool false),.pick rfl rfl rfl,?_⟩) (aopsR.plain ⟨.sc (.bool true),.not false rfl rfl rfl,.sc (.bool true),.pick rfl rfl rfl,?_⟩)⟩)
   ·rw [jar] at hj
    rw [jcr,hx1 j (by omega),jbl (by simpa using hj)]
   ·simp only [jbu,List.not_mem_nil,or_false] at ht
    rcases ht with rfl | rfl | rfl | rfl | rfl
    ·exact .sc _
    ·exact .sc _
    ·exact hfree
    ·show Free R
     simp only [R,kif,kbv,kfo,and_true]
     exact hg
    ·exact .sc _
   ·exact SatL.condF (v:=false) rfl rfl (SatL.skip (last _ l2 _ rfl rfl rfl rfl rfl hl2 (by rw [jbg,jcr,jar,hlen]; omega) (fun j hj=>by rw [jbg,jcr,jar,jdx,hx1 _ (by omega),jcf (by simp),jar,Nat.add_sub_cancel_left])))
   ·exact SatL.condT (v:=true) rfl rfl (SatL.seq (SatL.rreg rfl ⟨.sc (.bool false),.assign rfl rfl,SatL.ret ⟨.inr rfl,.inr ⟨rfl,rfl⟩⟩⟩))
  ·rw [if_neg hr0] at h
   refine SatL.seq (SatL.rregD (by kernel_rfl) (by kernel_rfl) rfl ⟨E,.move rfl rfl,.sc (.bool false),.bin rfl rfl rfl (fun K hk=>⟨rfl,by rw [show (r.2==0)=false by simpa using hr0]; exact hk⟩),.sc (.bool false),.move rfl rfl,.sc (.bool false),.pick rfl rfl rfl,?_⟩)
   exact SatL.condF (v:=false) rfl rfl (SatL.skip (last _ ls _ rfl rfl rfl rfl rfl h (by simp) (by simpa using hx)))
theorem kvO {x l:GrowL} (h:kaq x=some l):PC Tryz.prog 80 [growA x] (·= growA l):=
 slices_Clone_s_api_Item_api_Item_C_ok.2.1 x l h _ ⟨_,rfl,(kcz rfl).2 rfl⟩
def kla:CtrI:=⟨ "",[.pt (.sl growT),.pt growT],[.i .i64,growT],fun x=>runI fun o=>khm o x.1 x.2⟩
theorem kvM {l:Nat} {A:AV} {h:AH} (hA:Free A) (h0:h 0=some (.cells 1 161 [[.sc (.func (.yield l) #[] #[])]])) (h1:h 1=some (.cells 1 162 [[.fn 110 [A,.own 0 0 0,.own 1 0 0]]])):∀ d,SnapV h (.fn 110 [A,.own 0 0 0,.own 1 0 0]) (growG l A d):=fun d=>by
 have step:∀ R,SnapV h (.own 1 0 0) R->SnapV h (.fn 110 [A,.own 0 0 0,.own 1 0 0]) (.fn 110 [A,.fp [.sc (.func (.yield l) #[] #[])],R]):=fun R hR=>.fn rfl fun q c c' hc hc'=>by
  match q,hc,hc' with
  | 0,hc,hc'=>cases hc; cases hc'; exact Snap.V (.free _ hA)
  | 1,hc,hc'=>cases hc; cases hc'; exact SnapV.own1 h0 rfl (Snap.V (.free _ (.sc _)))
  | 2,hc,hc'=>cases hc; cases hc'; exact hR
  | q+3,hc,hc'=>cases hc
 induction d with
 | zero=>exact step _ .un
 | succ d ih=>exact step _ (.own1 h1 (kwC d) ih)
theorem kob:GoodI Tryz.prog 109 kla:=by
 refine ⟨rfl,fun x xs hF l hl=>?_⟩
 obtain ⟨ps,x⟩:=x
 obtain ⟨a,l',rfl,ha,a',rfl,ha'⟩:=hl
 obtain rfl:=(kcz rfl).1 ha
 obtain rfl:=(kcz rfl).1 ha'
 have hF:(kaq x).bind (fun l=>kbW (ps.length+1) ps 0 0 l)=some xs:=by
  obtain ⟨xs1,h1,h2⟩:=jaa.1 (show runI (fun o=>khm o ps x)=some xs from hF)
  obtain ⟨ys,h3,h4⟩:=jaa.1 h2
  split at h4
  ·cases h4; exact h1
  ·cases h4
 obtain ⟨c,hc,hg⟩:=jaa.1 hF
 refine IT.of_body (fn:=Tryz.f109) Tryz.func109 rfl (by kernel_rfl) (by show 3<=10; omega) (by show 10<=9000000; omega) rfl fun D G O hD hx ok=>?_
 have hA:Free (.fp [.sl (ps.map growE)]):=by simpa using kos ps
 let Y:AV:=.sc (.func (.yield G.l) #[] #[])
 let A:AV:=.fp [.sl (ps.map growE)]
 let F:AV:=.fn 110 [A,.own 0 0 0,.own 1 0 0]
 let H0:AH:=updH ah0 0 (.cells 1 161 [[Y]])
 let H1:AH:=updH H0 1 (.cells 1 162 [[.sc .nilFunc]])
 let H2:AH:=updH H1 1 (.cells 1 162 [[F]])
 let e0:Env:=(GS,.gs [])::kao (.sc (.func (.yield G.l) #[] #[])::[(Ty.pt (.sl growT)).av ps,(Ty.pt growT).av x])
 refine Sat.ofL (SatL.seq (Sat.region rfl (show SatL Tryz.prog 10 D O _ _ ⟨(3,.own 0 0 0)::e0,H0,1⟩ from ?_)))
 refine SatL.seq (Sat.region rfl (aops.cons rfl<|aop.alloc (z:=[.sc .nilFunc]) rfl (by kernel_rfl) (show SatL Tryz.prog 10 D O _ _ ⟨(4,.own 1 0 0)::(3,.own 0 0 0)::e0,H1,2⟩ from ?_)))
 refine SatL.seq (Sat.region rfl (aops.cons rfl<|aop.mkfn (v:=F) rfl rfl<|aops.cons rfl<|aop.store (id:=1) (k:=1) (T':=162) (a:=.sc .nilFunc) (b:=F) rfl rfl rfl rfl (by kernel_rfl) (show SatL Tryz.prog 10 D O _ _ ⟨(5,F)::(4,.own 1 0 0)::(3,.own 0 0 0)::e0,H2,2⟩ from ?_)))
 let C:=growA c
 refine SatL.yregD 3 rfl hD ok (by kernel_rfl) (by kernel_rfl) (by kernel_rfl) (by kernel_rfl) rfl ⟨F,.load rfl rfl (by kernel_rfl),growA x,.load rfl rfl (by kernel_rfl),C,.call rfl rfl rfl rfl (kvO hc) (show FreeL [growA x] by simpa using khx x),
  YieldK.of [] (z:=H2) (es:=[]) (avs:=[.sc (.int .i64 0),.sc (.int .i64 0),C]) (.inl rfl) rfl rfl (kqJ G.l ps (ps.length+1) 0 0 c xs hg) rfl (fun j hj=>?_) (fun q B h=>h) (kvM hA rfl rfl _) (SnapL.free (show FreeL [.sc (.int .i64 0),.sc (.int .i64 0),C] by simpa using khx c)) (fun t ht=>by cases ht) ?_ ?_⟩
 ·rw [hx]; simp only [List.length_nil,jcb]; rfl
 ·exact ⟨.inl rfl,.inl ⟨_,rfl,rfl⟩⟩
 ·exact ⟨.inl rfl,.inr rfl⟩
def kfM:Ctr:=⟨ "",[],[],fun _=>none,[],[kla]⟩
theorem kga:Good Tryz.prog 109 kfM:=good_dm.moreI kob
def box_built_m0_M:CtrM:=⟨ "",[some (.sl (.pr (.i .i64) (.pr (.i .u8) (.i .i64)))),some (.sl (.sl (.pr (.i .i64) (.pr (.i .u8) (.i .i64)))))],⟨[],[]⟩,0,⟨[(1000000,.fn 109 [.ptr 0 0,.ptr 1 0])],[(0,.bx 54 [.c (.sl (.sl (.pr (.i .i64) (.pr (.i .u8) (.i .i64)))))]),(1,.bx 22 [.c (.sl (.pr (.i .i64) (.pr (.i .u8) (.i .i64))))])]⟩,2,1,fun x=>knu x.1 x.2,false⟩
theorem kod:box_built_m0_M.ok=true/\GoodM Tryz.prog 75 box_built_m0_M:=
 kal Tryz.func75 (by kernel_rfl) (An:=[]) [(109,kfM)] (.cons kga <| .nil) (fun x=>by kernel_rfl)
def box_built_C:Ctr:=⟨ "",[],[],fun _=>none,[],[]⟩
theorem box_built_C_ok:Good Tryz.prog 75 box_built_C:=good_dm
def kml:Ctr:=⟨ "",box_built_C.as,box_built_C.rs,box_built_C.F,box_built_m0_M::box_built_C.mus,box_built_C.its⟩
theorem koQ:Good Tryz.prog 75 kml:=(box_built_C_ok.more kod)
def kms:Ctr:=⟨ "",[(.i .i64),(.sl (.i .i64))],[(.sl (.i .i64)),(.i .i64)],fun x=>koM x.1 x.2,[],[]⟩
theorem kpx:Good Tryz.prog 76 kms:=
 kae Tryz.func76 (by kernel_rfl) (An:=[(0,⟨⟨[(12,.c (.i .i64)),(6,.mw 1),(7,.c (.i .i64))],[(1,.sl 3 (.i .i64))]⟩,⟨[(6,.mw 2),(7,.c (.i .i64))],[(2,.sl 3 (.i .i64))]⟩,[11,10,0],[],3,false,""⟩)]) [] (.nil) (fun x=>by kernel_rfl)
def keE:Ctr:=⟨ "",[(.sl (.i .i64)),(.sl (.i .i64))],[(.i .i64)],fun x=>kfA x.1 x.2,[],[]⟩
theorem khN:Good Tryz.prog 79 keE:=
 kae Tryz.func79 (by kernel_rfl) (An:=[(0,⟨⟨[(11,.c (.i .i64))],[]⟩,⟨[],[]⟩,[10,9,1,0],[],0,true,""⟩)]) [(78,kdX)] (.cons ker <| .nil) (fun x=>by kernel_rfl)
def kmV:Ctr:=⟨ "",[(.sl (.pr (.i .i64) (.pr (.i .u8) (.i .i64)))),(.sl (.sl (.pr (.i .i64) (.pr (.i .u8) (.i .i64))))),(.sl (.i .i64))],[kyq,(.i .i64)],fun x=>kpP x.1 x.2.1 x.2.2,[],[]⟩
theorem kqm:Good Tryz.prog 28 kmV:=
 kae Tryz.func28 (by kernel_rfl) (An:=[(73,⟨⟨[],[]⟩,⟨[(8,.c (.i .i64))],[]⟩,[1,5,6,0],[0,3,1,2],5,false,""⟩),(0,⟨⟨[],[(9,.bx 57 [.c (.sl (.i .i64)),.c (.i .i64),.c (.sl (.pr (.i .i64) (.pr (.i .u8) (.i .i64))))])]⟩,⟨[],[(9,.bx 57 [.c (.sl (.i .i64)),.c (.i .i64),.c (.sl (.pr (.i .i64) (.pr (.i .u8) (.i .i64))))])]⟩,[29,9,6,5],[3,1,2,0],13,false,""⟩)]) [(79,keE),(76,kms),(75,kml),(109,kfM),(80,kcy),(74,kmx),(50,kcq),(77,kjF),(78,kdX)] (.cons khN <| .cons kpx <| .cons koQ <| .cons kga <| .cons slices_Clone_s_api_Item_api_Item_C_ok <| .cons kpr <| .cons kbX <| .cons kkv <| .cons ker <| .nil) (fun x=>by kernel_rfl)
def kec:CtrI:=⟨ "",[(.pt (.sl (.i .i64)))],[(.i .i64)],fun x=>runI fun o=>kaJ o x⟩
theorem khb:GoodI Tryz.prog 131 kec:=
 kxI Tryz.func131 (by kernel_rfl) (An:=[(0,⟨⟨[(7,.c (.i .i64)),(9000000,.gs (.i .i64))],[]⟩,⟨[(9000000,.gs (.i .i64))],[]⟩,[6,5],[],1,true,""⟩)]) [] (.nil) (fun x=>by kernel_rfl)
def kaA:Ctr:=⟨ "",[],[],fun _=>none,[],[kec]⟩
theorem kaD:Good Tryz.prog 131 kaA:=good_dm.moreI khb
def slices_Values_s_int_int_m0_M:CtrM:=⟨ "",[some (.sl (.i .i64))],⟨[],[]⟩,0,⟨[(1000000,.fn 131 [.ptr 0 0])],[(0,.bx 31 [.c (.sl (.i .i64))])]⟩,1,1,fun x=>kcs x,false⟩
theorem khd:slices_Values_s_int_int_m0_M.ok=true/\GoodM Tryz.prog 118 slices_Values_s_int_int_m0_M:=
 kal Tryz.func118 (by kernel_rfl) (An:=[]) [(131,kaA)] (.cons kaD <| .nil) (fun x=>by kernel_rfl)
def slices_Values_s_int_int_C:Ctr:=⟨ "",[],[],fun _=>none,[],[]⟩
theorem slices_Values_s_int_int_C_ok:Good Tryz.prog 118 slices_Values_s_int_int_C:=good_dm
def keq:Ctr:=⟨ "",slices_Values_s_int_int_C.as,slices_Values_s_int_int_C.rs,slices_Values_s_int_int_C.F,slices_Values_s_int_int_m0_M::slices_Values_s_int_int_C.mus,slices_Values_s_int_int_C.its⟩
theorem kho:Good Tryz.prog 118 keq:=(slices_Values_s_int_int_C_ok.more khd)
def kiX:Ctr:=⟨ "",[(.i .u32)],[(.i .i64)],fun x=>kpO x,[],[]⟩
theorem klZ:Good Tryz.prog 147 kiX:=
 kae Tryz.func147 (by kernel_rfl) (An:=[(17,⟨⟨[],[]⟩,⟨[(0,.c (.i .u32)),(2,.c (.i .i64))],[]⟩,[],[],0,false,""⟩)]) [] (.nil) (fun x=>by kernel_rfl)
def kja:Ctr:=⟨ "",[(.i .u64)],[(.i .i64)],fun x=>kkk x,[],[]⟩
theorem klL:Good Tryz.prog 148 kja:=
 kae Tryz.func148 (by kernel_rfl) (An:=[(17,⟨⟨[],[]⟩,⟨[(0,.c (.i .u64)),(2,.c (.i .i64))],[]⟩,[],[],0,false,""⟩),(33,⟨⟨[],[]⟩,⟨[(0,.c (.i .u64)),(2,.c (.i .i64))],[]⟩,[],[],0,false,""⟩)]) [] (.nil) (fun x=>by kernel_rfl)
def khg:Ctr:=⟨ "",[(.i .u64)],[(.i .i64)],fun x=>kgC x,[],[]⟩
theorem kiN:Good Tryz.prog 136 khg:=
 kae Tryz.func136 (by kernel_rfl) (An:=[]) [(148,kja),(147,kiX)] (.cons klL <| .cons klZ <| .nil) (fun x=>by kernel_rfl)
def kbB:Ctr:=⟨ "",[(.i .i64),(.i .i64)],[.b],fun x=>kaw x.1 x.2,[],[]⟩
theorem kbk:Good Tryz.prog 144 kbB:=
 kae Tryz.func144 (by kernel_rfl) (An:=[]) [(111,khf)] (.cons kiy <| .nil) (fun x=>by kernel_rfl)
def kfW:Ctr:=⟨ "",[(.i .i64)],[(.i .u64)],fun x=>kgY x,[],[]⟩
theorem kiO:Good Tryz.prog 150 kfW:=
 kae Tryz.func150 (by kernel_rfl) (An:=[]) [(136,khg)] (.cons kiN <| .nil) (fun x=>by kernel_rfl)
def slices_xorshift_Next_m0_M:CtrM:=⟨ "",[none],⟨[(0,.ptr 0 0)],[(0,.bx 202 [.c (.i .u64)])]⟩,1,⟨[(0,.ptr 0 0),(1000000,.c (.i .u64))],[(0,.bx 202 [.c (.i .u64)])]⟩,1,1,fun x=>kfX x,false⟩
theorem kin:slices_xorshift_Next_m0_M.ok=true/\GoodM Tryz.prog 151 slices_xorshift_Next_m0_M:=
 kal Tryz.func151 (by kernel_rfl) (An:=[]) [] (.nil) (fun x=>by kernel_rfl)
def slices_xorshift_Next_C:Ctr:=⟨ "",[],[],fun _=>none,[],[]⟩
theorem slices_xorshift_Next_C_ok:Good Tryz.prog 151 slices_xorshift_Next_C:=good_dm
def kfq:Ctr:=⟨ "",slices_xorshift_Next_C.as,slices_xorshift_Next_C.rs,slices_xorshift_Next_C.F,slices_xorshift_Next_m0_M::slices_xorshift_Next_C.mus,slices_xorshift_Next_C.its⟩
theorem kiJ:Good Tryz.prog 151 kfq:=(slices_xorshift_Next_C_ok.more kin)
def slices_order2Ordered_int_m0_M:CtrM:=⟨ "",[some (.sl (.i .i64)),some (.i .i64),some (.i .i64),none],⟨[(3,.ptr 0 0)],[(0,.bx 3 [.c (.i .i64)])]⟩,1,⟨[(3,.ptr 0 0),(1000000,.c (.i .i64)),(1000001,.c (.i .i64))],[(0,.bx 3 [.c (.i .i64)])]⟩,1,2,fun x=>kbp x.1 x.2.1 x.2.2.1 x.2.2.2,false⟩
theorem kgN:slices_order2Ordered_int_m0_M.ok=true/\GoodM Tryz.prog 154 slices_order2Ordered_int_m0_M:=
 kal Tryz.func154 (by kernel_rfl) (An:=[]) [(144,kbB)] (.cons kbk <| .nil) (fun x=>by kernel_rfl)
def slices_order2Ordered_int_C:Ctr:=⟨ "",[],[],fun _=>none,[],[]⟩
theorem slices_order2Ordered_int_C_ok:Good Tryz.prog 154 slices_order2Ordered_int_C:=good_dm
def kej:Ctr:=⟨ "",slices_order2Ordered_int_C.as,slices_order2Ordered_int_C.rs,slices_order2Ordered_int_C.F,slices_order2Ordered_int_m0_M::slices_order2Ordered_int_C.mus,slices_order2Ordered_int_C.its⟩
theorem kha:Good Tryz.prog 154 kej:=(slices_order2Ordered_int_C_ok.more kgN)
def slices_medianOrdered_int_m0_M:CtrM:=⟨ "",[some (.sl (.i .i64)),some (.i .i64),some (.i .i64),some (.i .i64),none],⟨[(4,.ptr 0 0)],[(0,.bx 3 [.c (.i .i64)])]⟩,1,⟨[(4,.ptr 0 0),(1000000,.c (.i .i64))],[(0,.bx 3 [.c (.i .i64)])]⟩,1,1,fun x=>kcg x.1 x.2.1 x.2.2.1 x.2.2.2.1 x.2.2.2.2,false⟩
theorem kgF:slices_medianOrdered_int_m0_M.ok=true/\GoodM Tryz.prog 153 slices_medianOrdered_int_m0_M:=
 kal Tryz.func153 (by kernel_rfl) (An:=[]) [(154,kej)] (.cons kha <| .nil) (fun x=>by kernel_rfl)
def slices_medianOrdered_int_C:Ctr:=⟨ "",[],[],fun _=>none,[],[]⟩
theorem slices_medianOrdered_int_C_ok:Good Tryz.prog 153 slices_medianOrdered_int_C:=good_dm
def kbV:Ctr:=⟨ "",slices_medianOrdered_int_C.as,slices_medianOrdered_int_C.rs,slices_medianOrdered_int_C.F,slices_medianOrdered_int_m0_M::slices_medianOrdered_int_C.mus,slices_medianOrdered_int_C.its⟩
theorem kdi:Good Tryz.prog 153 kbV:=(slices_medianOrdered_int_C_ok.more kgF)
def slices_medianAdjacentOrdered_int_m0_M:CtrM:=⟨ "",[some (.sl (.i .i64)),some (.i .i64),none],⟨[(2,.ptr 0 0)],[(0,.bx 3 [.c (.i .i64)])]⟩,1,⟨[(2,.ptr 0 0),(1000000,.c (.i .i64))],[(0,.bx 3 [.c (.i .i64)])]⟩,1,1,fun x=>kaI x.1 x.2.1 x.2.2,false⟩
theorem kew:slices_medianAdjacentOrdered_int_m0_M.ok=true/\GoodM Tryz.prog 152 slices_medianAdjacentOrdered_int_m0_M:=
 kal Tryz.func152 (by kernel_rfl) (An:=[]) [(153,kbV)] (.cons kdi <| .nil) (fun x=>by kernel_rfl)
def slices_medianAdjacentOrdered_int_C:Ctr:=⟨ "",[],[],fun _=>none,[],[]⟩
theorem slices_medianAdjacentOrdered_int_C_ok:Good Tryz.prog 152 slices_medianAdjacentOrdered_int_C:=good_dm
def kci:Ctr:=⟨ "",slices_medianAdjacentOrdered_int_C.as,slices_medianAdjacentOrdered_int_C.rs,slices_medianAdjacentOrdered_int_C.F,slices_medianAdjacentOrdered_int_m0_M::slices_medianAdjacentOrdered_int_C.mus,slices_medianAdjacentOrdered_int_C.its⟩
theorem keI:Good Tryz.prog 152 kci:=(slices_medianAdjacentOrdered_int_C_ok.more kew)
def kdh:Ctr:=⟨ "",[(.sl (.i .i64)),(.i .i64),(.i .i64)],[(.i .i64),(.i .i64)],fun x=>kdV x.1 x.2.1 x.2.2,[],[]⟩
theorem kgf:Good Tryz.prog 141 kdh:=
 kae Tryz.func141 (by kernel_rfl) (An:=[(129,⟨⟨[(9,.ptr 0 0)],[(0,.bx 3 [.c (.i .i64)])]⟩,⟨[(9,.ptr 1 0),(11,.c (.i .i64))],[(1,.bx 3 [.c (.i .i64)])]⟩,[8,0],[],2,false,""⟩),(137,⟨⟨[(9,.ptr 0 0)],[(0,.bx 3 [.c (.i .i64)])]⟩,⟨[(10,.c (.i .i64)),(11,.c (.i .i64)),(12,.c (.i .i64)),(9,.ptr 1 0)],[(1,.bx 3 [.c (.i .i64)])]⟩,[],[],2,false,""⟩)]) [(152,kci),(153,kbV)] (.cons keI <| .cons kdi <| .nil) (fun x=>by kernel_rfl)
def slices_AppendSeq_s_int_int_m0_M:CtrM:=⟨ "",[none,none],⟨[(0,.mw 0),(1,.fn 131 [.ptr 1 0])],[(0,.sl 3 (.i .i64)),(1,.bx 31 [.c (.sl (.i .i64))])]⟩,2,⟨[(1000000,.mw 2)],[(2,.sl 3 (.i .i64))]⟩,3,1,fun x=>kbN x.1 x.2,false⟩
theorem kgd:slices_AppendSeq_s_int_int_m0_M.ok=true/\GoodM Tryz.prog 134 slices_AppendSeq_s_int_int_m0_M:=
 kal Tryz.func134 (by kernel_rfl) (An:=[(0,⟨⟨[],[(2,.bx 31 [.mw 0]),(0,.sl 3 (.i .i64))]⟩,⟨[],[(2,.bx 31 [.mw 5]),(5,.sl 3 (.i .i64))]⟩,[6,2],[],6,false,""⟩)]) [(131,kaA),(109,kfM)] (.cons kaD <| .cons kga <| .nil) (fun x=>by kernel_rfl)
def slices_AppendSeq_s_int_int_C:Ctr:=⟨ "",[],[],fun _=>none,[],[]⟩
theorem slices_AppendSeq_s_int_int_C_ok:Good Tryz.prog 134 slices_AppendSeq_s_int_int_C:=good_dm
def kdt:Ctr:=⟨ "",slices_AppendSeq_s_int_int_C.as,slices_AppendSeq_s_int_int_C.rs,slices_AppendSeq_s_int_int_C.F,slices_AppendSeq_s_int_int_m0_M::slices_AppendSeq_s_int_int_C.mus,slices_AppendSeq_s_int_int_C.its⟩
theorem kgo:Good Tryz.prog 134 kdt:=(slices_AppendSeq_s_int_int_C_ok.more kgd)
def slices_Collect_int_m0_M:CtrM:=⟨ "",[none],⟨[(0,.fn 131 [.ptr 0 0])],[(0,.bx 31 [.c (.sl (.i .i64))])]⟩,1,⟨[(1000000,.mw 1)],[(1,.sl 3 (.i .i64))]⟩,2,1,fun x=>kck x,false⟩
theorem kiT:slices_Collect_int_m0_M.ok=true/\GoodM Tryz.prog 129 slices_Collect_int_m0_M:=
 kal Tryz.func129 (by kernel_rfl) (An:=[]) [(134,kdt),(131,kaA)] (.cons kgo <| .cons kaD <| .nil) (fun x=>by kernel_rfl)
def slices_Collect_int_C:Ctr:=⟨ "",[],[],fun _=>none,[],[]⟩
theorem slices_Collect_int_C_ok:Good Tryz.prog 129 slices_Collect_int_C:=good_dm
def kgu:Ctr:=⟨ "",slices_Collect_int_C.as,slices_Collect_int_C.rs,slices_Collect_int_C.F,slices_Collect_int_m0_M::slices_Collect_int_C.mus,slices_Collect_int_C.its⟩
theorem kji:Good Tryz.prog 129 kgu:=(slices_Collect_int_C_ok.more kiT)
def slices_insertionSortOrdered_int_m0_M:CtrM:=⟨ "",[none,some (.i .i64),some (.i .i64)],⟨[(0,.mw 0)],[(0,.sl 3 (.i .i64))]⟩,1,⟨[(0,.mw 0)],[(0,.sl 3 (.i .i64))]⟩,1,0,fun x=>kaL x.1 x.2.1 x.2.2,false⟩
theorem keB:slices_insertionSortOrdered_int_m0_M.ok=true/\GoodM Tryz.prog 138 slices_insertionSortOrdered_int_m0_M:=
 kal Tryz.func138 (by kernel_rfl) (An:=[(0,⟨⟨[(6,.c (.i .i64))],[(0,.sl 3 (.i .i64))]⟩,⟨[],[(0,.sl 3 (.i .i64))]⟩,[2,1],[],2,false,""⟩),(8,⟨⟨[(7,.c (.i .i64))],[(0,.sl 3 (.i .i64))]⟩,⟨[],[(0,.sl 3 (.i .i64))]⟩,[6],[],2,false,""⟩)]) [(144,kbB)] (.cons kbk <| .nil) (fun x=>by kernel_rfl)
def slices_insertionSortOrdered_int_C:Ctr:=⟨ "",[],[],fun _=>none,[],[]⟩
theorem slices_insertionSortOrdered_int_C_ok:Good Tryz.prog 138 slices_insertionSortOrdered_int_C:=good_dm
def kco:Ctr:=⟨ "",slices_insertionSortOrdered_int_C.as,slices_insertionSortOrdered_int_C.rs,slices_insertionSortOrdered_int_C.F,slices_insertionSortOrdered_int_m0_M::slices_insertionSortOrdered_int_C.mus,slices_insertionSortOrdered_int_C.its⟩
theorem keW:Good Tryz.prog 138 kco:=(slices_insertionSortOrdered_int_C_ok.more keB)
def slices_siftDownOrdered_int_m0_M:CtrM:=⟨ "",[none,some (.i .i64),some (.i .i64),some (.i .i64)],⟨[(0,.mw 0)],[(0,.sl 3 (.i .i64))]⟩,1,⟨[(0,.mw 0)],[(0,.sl 3 (.i .i64))]⟩,1,0,fun x=>kbM x.1 x.2.1 x.2.2.1 x.2.2.2,false⟩
theorem kgc:slices_siftDownOrdered_int_m0_M.ok=true/\GoodM Tryz.prog 149 slices_siftDownOrdered_int_m0_M:=
 kal Tryz.func149 (by kernel_rfl) (An:=[(0,⟨⟨[(8,.c (.i .i64))],[(0,.sl 3 (.i .i64))]⟩,⟨[],[(0,.sl 3 (.i .i64))]⟩,[2,3],[],2,true,""⟩),(14,⟨⟨[],[]⟩,⟨[(36,.c .b)],[]⟩,[9,8],[0],1,false,""⟩),(145,⟨⟨[],[]⟩,⟨[(9,.c (.i .i64))],[]⟩,[8],[0],1,false,""⟩)]) [(144,kbB)] (.cons kbk <| .nil) (fun x=>by kernel_rfl)
def slices_siftDownOrdered_int_C:Ctr:=⟨ "",[],[],fun _=>none,[],[]⟩
theorem slices_siftDownOrdered_int_C_ok:Good Tryz.prog 149 slices_siftDownOrdered_int_C:=good_dm
def kdF:Ctr:=⟨ "",slices_siftDownOrdered_int_C.as,slices_siftDownOrdered_int_C.rs,slices_siftDownOrdered_int_C.F,slices_siftDownOrdered_int_m0_M::slices_siftDownOrdered_int_C.mus,slices_siftDownOrdered_int_C.its⟩
theorem kgg:Good Tryz.prog 149 kdF:=(slices_siftDownOrdered_int_C_ok.more kgc)
def slices_heapSortOrdered_int_m0_M:CtrM:=⟨ "",[none,some (.i .i64),some (.i .i64)],⟨[(0,.mw 0)],[(0,.sl 3 (.i .i64))]⟩,1,⟨[(0,.mw 0)],[(0,.sl 3 (.i .i64))]⟩,1,0,fun x=>kdT x.1 x.2.1 x.2.2,false⟩
theorem kfY:slices_heapSortOrdered_int_m0_M.ok=true/\GoodM Tryz.prog 139 slices_heapSortOrdered_int_m0_M:=
 kal Tryz.func139 (by kernel_rfl) (An:=[(0,⟨⟨[(9,.c (.i .i64))],[(0,.sl 3 (.i .i64))]⟩,⟨[],[(0,.sl 3 (.i .i64))]⟩,[8,6,7],[],2,false,""⟩),(8,⟨⟨[(10,.c (.i .i64))],[(0,.sl 3 (.i .i64))]⟩,⟨[],[(0,.sl 3 (.i .i64))]⟩,[6,7],[],3,false,""⟩)]) [(149,kdF)] (.cons kgg <| .nil) (fun x=>by kernel_rfl)
def slices_heapSortOrdered_int_C:Ctr:=⟨ "",[],[],fun _=>none,[],[]⟩
theorem slices_heapSortOrdered_int_C_ok:Good Tryz.prog 139 slices_heapSortOrdered_int_C:=good_dm
def kdw:Ctr:=⟨ "",slices_heapSortOrdered_int_C.as,slices_heapSortOrdered_int_C.rs,slices_heapSortOrdered_int_C.F,slices_heapSortOrdered_int_m0_M::slices_heapSortOrdered_int_C.mus,slices_heapSortOrdered_int_C.its⟩
theorem kgh:Good Tryz.prog 139 kdw:=(slices_heapSortOrdered_int_C_ok.more kfY)
def slices_breakPatternsOrdered_int_m0_M:CtrM:=⟨ "",[none,some (.i .i64),some (.i .i64)],⟨[(0,.mw 0)],[(0,.sl 3 (.i .i64))]⟩,1,⟨[(0,.mw 0)],[(0,.sl 3 (.i .i64))]⟩,1,0,fun x=>kcA x.1 x.2.1 x.2.2,false⟩
theorem keD:slices_breakPatternsOrdered_int_m0_M.ok=true/\GoodM Tryz.prog 140 slices_breakPatternsOrdered_int_m0_M:=
 kal Tryz.func140 (by kernel_rfl) (An:=[(0,⟨⟨[(9,.c (.i .i64)),(7,.ptr 1 0)],[(1,.bx 202 [.c (.i .u64)]),(0,.sl 3 (.i .i64))]⟩,⟨[],[(0,.sl 3 (.i .i64))]⟩,[1,6,8],[],3,false,""⟩),(173,⟨⟨[],[]⟩,⟨[(10,.c (.i .i64))],[]⟩,[9,7],[0,1],2,false,""⟩)]) [(151,kfq),(150,kfW)] (.cons kiJ <| .cons kiO <| .nil) (fun x=>by kernel_rfl)
def slices_breakPatternsOrdered_int_C:Ctr:=⟨ "",[],[],fun _=>none,[],[]⟩
theorem slices_breakPatternsOrdered_int_C_ok:Good Tryz.prog 140 slices_breakPatternsOrdered_int_C:=good_dm
def kcm:Ctr:=⟨ "",slices_breakPatternsOrdered_int_C.as,slices_breakPatternsOrdered_int_C.rs,slices_breakPatternsOrdered_int_C.F,slices_breakPatternsOrdered_int_m0_M::slices_breakPatternsOrdered_int_C.mus,slices_breakPatternsOrdered_int_C.its⟩
theorem keQ:Good Tryz.prog 140 kcm:=(slices_breakPatternsOrdered_int_C_ok.more keD)
def slices_reverseRangeOrdered_int_m0_M:CtrM:=⟨ "",[none,some (.i .i64),some (.i .i64)],⟨[(0,.mw 0)],[(0,.sl 3 (.i .i64))]⟩,1,⟨[(0,.mw 0)],[(0,.sl 3 (.i .i64))]⟩,1,0,fun x=>kcF x.1 x.2.1 x.2.2,false⟩
theorem keP:slices_reverseRangeOrdered_int_m0_M.ok=true/\GoodM Tryz.prog 142 slices_reverseRangeOrdered_int_m0_M:=
 kal Tryz.func142 (by kernel_rfl) (An:=[(0,⟨⟨[(6,.c (.i .i64)),(7,.c (.i .i64))],[(0,.sl 3 (.i .i64))]⟩,⟨[],[(0,.sl 3 (.i .i64))]⟩,[],[],2,false,""⟩)]) [] (.nil) (fun x=>by kernel_rfl)
def slices_reverseRangeOrdered_int_C:Ctr:=⟨ "",[],[],fun _=>none,[],[]⟩
theorem slices_reverseRangeOrdered_int_C_ok:Good Tryz.prog 142 slices_reverseRangeOrdered_int_C:=good_dm
def kcw:Ctr:=⟨ "",slices_reverseRangeOrdered_int_C.as,slices_reverseRangeOrdered_int_C.rs,slices_reverseRangeOrdered_int_C.F,slices_reverseRangeOrdered_int_m0_M::slices_reverseRangeOrdered_int_C.mus,slices_reverseRangeOrdered_int_C.its⟩
theorem kfg:Good Tryz.prog 142 kcw:=(slices_reverseRangeOrdered_int_C_ok.more keP)
def slices_partialInsertionSortOrdered_int_m0_M:CtrM:=⟨ "",[none,some (.i .i64),some (.i .i64)],⟨[(0,.mw 0)],[(0,.sl 3 (.i .i64))]⟩,1,⟨[(0,.mw 0),(1000000,.c .b)],[(0,.sl 3 (.i .i64))]⟩,1,1,fun x=>kbF x.1 x.2.1 x.2.2,false⟩
theorem kdl:slices_partialInsertionSortOrdered_int_m0_M.ok=true/\GoodM Tryz.prog 143 slices_partialInsertionSortOrdered_int_m0_M:=
 kal Tryz.func143 (by kernel_rfl) (An:=[(0,⟨⟨[(8,.c (.i .i64)),(7,.c (.i .i64))],[(0,.sl 3 (.i .i64))]⟩,⟨[],[(0,.sl 3 (.i .i64))]⟩,[2,1],[],2,true,""⟩),(8,⟨⟨[(7,.c (.i .i64))],[]⟩,⟨[(7,.c (.i .i64))],[]⟩,[8],[0],1,false,""⟩),(245,⟨⟨[],[(0,.sl 3 (.i .i64))]⟩,⟨[],[(0,.sl 3 (.i .i64))]⟩,[7,8],[],2,false,""⟩),(16,⟨⟨[(9,.c (.i .i64))],[(0,.sl 3 (.i .i64))]⟩,⟨[],[(0,.sl 3 (.i .i64))]⟩,[],[],2,false,""⟩),(24,⟨⟨[(10,.c (.i .i64))],[(0,.sl 3 (.i .i64))]⟩,⟨[],[(0,.sl 3 (.i .i64))]⟩,[8,7],[],3,false,""⟩)]) [(144,kbB)] (.cons kbk <| .nil) (fun x=>by kernel_rfl)
def slices_partialInsertionSortOrdered_int_C:Ctr:=⟨ "",[],[],fun _=>none,[],[]⟩
theorem slices_partialInsertionSortOrdered_int_C_ok:Good Tryz.prog 143 slices_partialInsertionSortOrdered_int_C:=good_dm
def kbA:Ctr:=⟨ "",slices_partialInsertionSortOrdered_int_C.as,slices_partialInsertionSortOrdered_int_C.rs,slices_partialInsertionSortOrdered_int_C.F,slices_partialInsertionSortOrdered_int_m0_M::slices_partialInsertionSortOrdered_int_C.mus,slices_partialInsertionSortOrdered_int_C.its⟩
theorem kdE:Good Tryz.prog 143 kbA:=(slices_partialInsertionSortOrdered_int_C_ok.more kdl)
def slices_partitionEqualOrdered_int_m0_M:CtrM:=⟨ "",[none,some (.i .i64),some (.i .i64),some (.i .i64)],⟨[(0,.mw 0)],[(0,.sl 3 (.i .i64))]⟩,1,⟨[(0,.mw 0),(1000000,.c (.i .i64))],[(0,.sl 3 (.i .i64))]⟩,1,1,fun x=>kcl x.1 x.2.1 x.2.2.1 x.2.2.2,false⟩
theorem kev:slices_partitionEqualOrdered_int_m0_M.ok=true/\GoodM Tryz.prog 145 slices_partitionEqualOrdered_int_m0_M:=
 kal Tryz.func145 (by kernel_rfl) (An:=[(0,⟨⟨[(9,.c (.i .i64)),(10,.c (.i .i64))],[(0,.sl 3 (.i .i64))]⟩,⟨[(9,.c (.i .i64))],[(0,.sl 3 (.i .i64))]⟩,[1],[],2,false,""⟩),(8,⟨⟨[(9,.c (.i .i64))],[]⟩,⟨[(9,.c (.i .i64))],[]⟩,[10],[0],1,false,""⟩),(16,⟨⟨[(10,.c (.i .i64))],[]⟩,⟨[(10,.c (.i .i64))],[]⟩,[9],[0],1,false,""⟩)]) [(144,kbB)] (.cons kbk <| .nil) (fun x=>by kernel_rfl)
def slices_partitionEqualOrdered_int_C:Ctr:=⟨ "",[],[],fun _=>none,[],[]⟩
theorem slices_partitionEqualOrdered_int_C_ok:Good Tryz.prog 145 slices_partitionEqualOrdered_int_C:=good_dm
def kcd:Ctr:=⟨ "",slices_partitionEqualOrdered_int_C.as,slices_partitionEqualOrdered_int_C.rs,slices_partitionEqualOrdered_int_C.F,slices_partitionEqualOrdered_int_m0_M::slices_partitionEqualOrdered_int_C.mus,slices_partitionEqualOrdered_int_C.its⟩
theorem keF:Good Tryz.prog 145 kcd:=(slices_partitionEqualOrdered_int_C_ok.more kev)
def slices_partitionOrdered_int_m0_M:CtrM:=⟨ "",[none,some (.i .i64),some (.i .i64),some (.i .i64)],⟨[(0,.mw 0)],[(0,.sl 3 (.i .i64))]⟩,1,⟨[(0,.mw 0),(1000000,.c (.i .i64)),(1000001,.c .b)],[(0,.sl 3 (.i .i64))]⟩,1,2,fun x=>kdu x.1 x.2.1 x.2.2.1 x.2.2.2,false⟩
theorem kfG:slices_partitionOrdered_int_m0_M.ok=true/\GoodM Tryz.prog 146 slices_partitionOrdered_int_m0_M:=
 kal Tryz.func146 (by kernel_rfl) (An:=[(0,⟨⟨[(10,.c (.i .i64))],[]⟩,⟨[(10,.c (.i .i64))],[]⟩,[11,1],[0],1,false,""⟩),(8,⟨⟨[(11,.c (.i .i64))],[]⟩,⟨[(11,.c (.i .i64))],[]⟩,[10,1],[0],1,false,""⟩),(16,⟨⟨[(10,.c (.i .i64)),(11,.c (.i .i64))],[(0,.sl 3 (.i .i64))]⟩,⟨[(11,.c (.i .i64))],[(0,.sl 3 (.i .i64))]⟩,[1],[],2,false,""⟩),(24,⟨⟨[(10,.c (.i .i64))],[]⟩,⟨[(10,.c (.i .i64))],[]⟩,[11],[0],1,false,""⟩),(32,⟨⟨[(11,.c (.i .i64))],[]⟩,⟨[(11,.c (.i .i64))],[]⟩,[10],[0],1,false,""⟩)]) [(144,kbB)] (.cons kbk <| .nil) (fun x=>by kernel_rfl)
def slices_partitionOrdered_int_C:Ctr:=⟨ "",[],[],fun _=>none,[],[]⟩
theorem slices_partitionOrdered_int_C_ok:Good Tryz.prog 146 slices_partitionOrdered_int_C:=good_dm
def kdg:Ctr:=⟨ "",slices_partitionOrdered_int_C.as,slices_partitionOrdered_int_C.rs,slices_partitionOrdered_int_C.F,slices_partitionOrdered_int_m0_M::slices_partitionOrdered_int_C.mus,slices_partitionOrdered_int_C.its⟩
theorem kgb:Good Tryz.prog 146 kdg:=(slices_partitionOrdered_int_C_ok.more kfG)
def kbD (k:Nat):CtrM:=⟨ "",[none,some (.i .i64),some (.i .i64),some (.i .i64)],⟨[(0,.mw 0)],[(0,.sl 3 (.i .i64))]⟩,1,⟨[(0,.mw 0)],[(0,.sl 3 (.i .i64))]⟩,1,0,fun x=>kaY k x.1 x.2.1 x.2.2.1 x.2.2.2,false⟩
theorem kcS:∀ k,(kbD k).ok=true/\GoodM Tryz.prog 135 (kbD k)
 | 0=>khA (by kernel_rfl) (fun x=>rfl)
 | k+1=>kal Tryz.func135 (by kernel_rfl) (An:=[(0,⟨⟨[(2,.c (.i .i64)),(1,.c (.i .i64)),(3,.c (.i .i64)),(8,.c .b),(9,.c .b)],[(0,.sl 3 (.i .i64))]⟩,⟨[],[(0,.sl 3 (.i .i64))]⟩,[],[],1,true,""⟩),(141,⟨⟨[],[(0,.sl 3 (.i .i64))]⟩,⟨[(3,.c (.i .i64))],[(0,.sl 3 (.i .i64))]⟩,[1,2,8,9,10],[],2,false,""⟩),(201,⟨⟨[],[(0,.sl 3 (.i .i64))]⟩,⟨[(12,.c (.i .i64)),(11,.c (.i .i64))],[(0,.sl 3 (.i .i64))]⟩,[1,2,8,9,3,10],[],3,false,""⟩),(62,⟨⟨[],[]⟩,⟨[(68,.c .b)],[]⟩,[8,9,12,1,2,11,3,10],[0],3,false,""⟩),(273,⟨⟨[],[(0,.sl 3 (.i .i64))]⟩,⟨[],[(0,.sl 3 (.i .i64))]⟩,[1,2,11,3,8,9,10],[],4,true,""⟩),(70,⟨⟨[],[]⟩,⟨[(87,.c .b)],[]⟩,[1,11,2,3,8,9,10],[0],4,false,""⟩)]) ((135,⟨ "",[],[],fun _=>none,[kbD k],[]⟩)::[(146,kdg),(145,kcd),(143,kbA),(142,kcw),(140,kcm),(139,kdw),(138,kco),(141,kdh),(144,kbB)]) (.cons (good_dm.more (kcS k)) <| .cons kgb <| .cons keF <| .cons kdE <| .cons kfg <| .cons keQ <| .cons kgh <| .cons keW <| .cons kgf <| .cons kbk <| .nil) (fun x=>by kernel_rfl)
def slices_pdqsortOrdered_int_m0_M:CtrM:=⟨ "",[none,some (.i .i64),some (.i .i64),some (.i .i64)],⟨[(0,.mw 0)],[(0,.sl 3 (.i .i64))]⟩,1,⟨[(0,.mw 0)],[(0,.sl 3 (.i .i64))]⟩,1,0,fun x=>kbi x.1 x.2.1 x.2.2.1 x.2.2.2,false⟩
theorem kgi:slices_pdqsortOrdered_int_m0_M.ok=true/\GoodM Tryz.prog 135 slices_pdqsortOrdered_int_m0_M:=kcS 1000000
def slices_pdqsortOrdered_int_C:Ctr:=⟨ "",[],[],fun _=>none,[],[]⟩
theorem slices_pdqsortOrdered_int_C_ok:Good Tryz.prog 135 slices_pdqsortOrdered_int_C:=good_dm
def kdS:Ctr:=⟨ "",slices_pdqsortOrdered_int_C.as,slices_pdqsortOrdered_int_C.rs,slices_pdqsortOrdered_int_C.F,slices_pdqsortOrdered_int_m0_M::slices_pdqsortOrdered_int_C.mus,slices_pdqsortOrdered_int_C.its⟩
theorem kgJ:Good Tryz.prog 135 kdS:=(slices_pdqsortOrdered_int_C_ok.more kgi)
def slices_Sort_s_int_int_m0_M:CtrM:=⟨ "",[none],⟨[(0,.mw 0)],[(0,.sl 3 (.i .i64))]⟩,1,⟨[(0,.mw 0)],[(0,.sl 3 (.i .i64))]⟩,1,0,fun x=>kcX x,false⟩
theorem khM:slices_Sort_s_int_int_m0_M.ok=true/\GoodM Tryz.prog 130 slices_Sort_s_int_int_m0_M:=
 kal Tryz.func130 (by kernel_rfl) (An:=[]) [(135,kdS),(136,khg)] (.cons kgJ <| .cons kiN <| .nil) (fun x=>by kernel_rfl)
def slices_Sort_s_int_int_C:Ctr:=⟨ "",[],[],fun _=>none,[],[]⟩
theorem slices_Sort_s_int_int_C_ok:Good Tryz.prog 130 slices_Sort_s_int_int_C:=good_dm
def kfa:Ctr:=⟨ "",slices_Sort_s_int_int_C.as,slices_Sort_s_int_int_C.rs,slices_Sort_s_int_int_C.F,slices_Sort_s_int_int_m0_M::slices_Sort_s_int_int_C.mus,slices_Sort_s_int_int_C.its⟩
theorem kig:Good Tryz.prog 130 kfa:=(slices_Sort_s_int_int_C_ok.more khM)
def slices_Sorted_int_m0_M:CtrM:=⟨ "",[none],⟨[(0,.fn 131 [.ptr 0 0])],[(0,.bx 31 [.c (.sl (.i .i64))])]⟩,1,⟨[(1000000,.mw 1)],[(1,.sl 3 (.i .i64))]⟩,2,1,fun x=>kcC x,false⟩
theorem kjp:slices_Sorted_int_m0_M.ok=true/\GoodM Tryz.prog 117 slices_Sorted_int_m0_M:=
 kal Tryz.func117 (by kernel_rfl) (An:=[]) [(130,kfa),(129,kgu),(131,kaA)] (.cons kig <| .cons kji <| .cons kaD <| .nil) (fun x=>by kernel_rfl)
def slices_Sorted_int_C:Ctr:=⟨ "",[],[],fun _=>none,[],[]⟩
theorem slices_Sorted_int_C_ok:Good Tryz.prog 117 slices_Sorted_int_C:=good_dm
def kgS:Ctr:=⟨ "",slices_Sorted_int_C.as,slices_Sorted_int_C.rs,slices_Sorted_int_C.F,slices_Sorted_int_m0_M::slices_Sorted_int_C.mus,slices_Sorted_int_C.its⟩
theorem kjM:Good Tryz.prog 117 kgS:=(slices_Sorted_int_C_ok.more kjp)
def klB:Ctr:=⟨ "",[(.sl (.i .i64)),(.i .i64)],[.b],fun x=>khV x.1 x.2,[],[]⟩
theorem kmy:Good Tryz.prog 88 klB:=
 kae Tryz.func88 (by kernel_rfl) (An:=[(0,⟨⟨[(11,.c (.i .i64))],[]⟩,⟨[],[]⟩,[10,9,0,1],[1],2,true,""⟩)]) [(117,kgS),(118,keq),(131,kaA)] (.cons kjM <| .cons kho <| .cons kaD <| .nil) (fun x=>by kernel_rfl)
def kjX:Ctr:=⟨ "",[(.sl (.i .i64)),(.pt (.i .i64))],[.b],fun x=>kfT x.1 x.2,[],[]⟩
theorem kmI:Good Tryz.prog 115 kjX:=
 kae Tryz.func115 (by kernel_rfl) (An:=[]) [(88,klB)] (.cons kmy <| .nil) (fun x=>by kernel_rfl)
def kcT:Ctr:=⟨ "",[(.sl (.sl (.i .i64))),(.fn 1 (.sl (.i .i64)) .b)],[(.i .i64)],fun x=>kbH x.1 x.2,[],[]⟩
theorem kfL:Good Tryz.prog 126 kcT:=
 kae Tryz.func126 (by kernel_rfl) (An:=[(0,⟨⟨[(8,.c (.i .i64))],[]⟩,⟨[],[]⟩,[7,1,0],[],0,true,""⟩)]) [] (.nil) (fun x=>by kernel_rfl)
def kcj:Ctr:=⟨ "",[(.sl (.sl (.i .i64))),(.fn 1 (.sl (.i .i64)) .b)],[.b],fun x=>kbs x.1 x.2,[],[]⟩
theorem keU:Good Tryz.prog 114 kcj:=
 kae Tryz.func114 (by kernel_rfl) (An:=[]) [(126,kcT)] (.cons kfL <| .nil) (fun x=>by kernel_rfl)
def kiU:Ctr:=⟨ "",[(.sl (.sl (.i .i64)))],[.b],fun x=>kgx x,[],[]⟩
theorem kjQ:Good Tryz.prog 83 kiU:=
 kae Tryz.func83 (by kernel_rfl) (An:=[]) [(114,kcj),(115,kjX),(66,kfH)] (.cons keU <| .cons kmI <| .cons keL <| .nil) (fun x=>by kernel_rfl)
def kjb:Ctr:=⟨ "",[(.i .u32),(.i .u32)],[(.i .u32),(.i .u32)],fun x=>kqr x.1 x.2,[],[]⟩
theorem kmi:Good Tryz.prog 127 kjb:=
 kae Tryz.func127 (by kernel_rfl) (An:=[]) [] (.nil) (fun x=>by kernel_rfl)
def kje:Ctr:=⟨ "",[(.i .u64),(.i .u64)],[(.i .u64),(.i .u64)],fun x=>kkx x.1 x.2,[],[]⟩
theorem klC:Good Tryz.prog 128 kje:=
 kae Tryz.func128 (by kernel_rfl) (An:=[]) [] (.nil) (fun x=>by kernel_rfl)
def kkq:Ctr:=⟨ "",[(.i .u64),(.i .u64)],[(.i .u64),(.i .u64)],fun x=>kmv x.1 x.2,[],[]⟩
theorem knn:Good Tryz.prog 116 kkq:=
 kae Tryz.func116 (by kernel_rfl) (An:=[]) [(128,kje),(127,kjb)] (.cons klC <| .cons kmi <| .nil) (fun x=>by kernel_rfl)
def kjd:Ctr:=⟨ "",[(.i .i64),(.pt (.sl (.i .i64)))],[.b],fun x=>kkn x.1 x.2,[],[]⟩
theorem kmc:Good Tryz.prog 87 kjd:=
 kae Tryz.func87 (by kernel_rfl) (An:=[]) [] (.nil) (fun x=>by kernel_rfl)
def kkR:Ctr:=⟨ "",[(.i .i64),(.pt (.sl (.sl (.i .i64)))),(.pt (.sl (.i .i64)))],[(.i .i64)],fun x=>kfn x.1 x.2.1 x.2.2,[],[]⟩
theorem kog:Good Tryz.prog 85 kkR:=
 kae Tryz.func85 (by kernel_rfl) (An:=[]) [(87,kjd),(86,kbT)] (.cons kmc <| .cons kdj <| .nil) (fun x=>by kernel_rfl)
def slices_Repeat_s_int_int_m0_M:CtrM:=⟨ "",[some (.sl (.i .i64)),some (.i .i64)],⟨[],[]⟩,0,⟨[(1000000,.mw 0)],[(0,.sl 3 (.i .i64))]⟩,1,1,fun x=>keG x.1 x.2,false⟩
theorem khc:slices_Repeat_s_int_int_m0_M.ok=true/\GoodM Tryz.prog 84 slices_Repeat_s_int_int_m0_M:=
 kal Tryz.func84 (by kernel_rfl) (An:=[(41,⟨⟨[],[]⟩,⟨[],[]⟩,[0,1],[],1,false,""⟩),(18,⟨⟨[],[]⟩,⟨[(26,.c .b)],[]⟩,[5,6,0],[],1,false,""⟩),(105,⟨⟨[],[]⟩,⟨[],[]⟩,[6,0],[],1,false,""⟩),(0,⟨⟨[(8,.c (.i .i64)),(7,.mw 1)],[(1,.sl 3 (.i .i64))]⟩,⟨[(7,.mw 2)],[(2,.sl 3 (.i .i64))]⟩,[],[],3,false,""⟩)]) [(116,kkq)] (.cons knn <| .nil) (fun x=>by kernel_rfl)
def slices_Repeat_s_int_int_B32:Ctr:=⟨ "",[],[],fun _=>none,[],[]⟩
theorem slices_Repeat_s_int_int_B32_ok:Good Tryz.prog 84 slices_Repeat_s_int_int_B32:=good_dm
def kep:Ctr:=⟨ "",slices_Repeat_s_int_int_B32.as,slices_Repeat_s_int_int_B32.rs,slices_Repeat_s_int_int_B32.F,slices_Repeat_s_int_int_m0_M::slices_Repeat_s_int_int_B32.mus,slices_Repeat_s_int_int_B32.its⟩
theorem khu:Good Tryz.prog 84 kep:=(slices_Repeat_s_int_int_B32_ok.more khc)
def kou:Ctr:=⟨ "",[(.sl (.sl (.i .i64)))],[(.sl (.i .i64)),(.i .i64)],fun x=>krV x,[],[]⟩
theorem kqY:Good Tryz.prog 35 kou:=
 kae Tryz.func35 (by kernel_rfl) (An:=[(0,⟨⟨[(25,.c (.i .i64)),(4,.ptr 5 0),(5,.fn 85 [.ptr 0 0,.ptr 5 0])],[(5,.bx 31 [.mw 3]),(3,.sl 3 (.i .i64))]⟩,⟨[(4,.ptr 6 0)],[(6,.bx 31 [.mw 7]),(7,.sl 3 (.i .i64))]⟩,[24,1],[0],8,false,""⟩),(8,⟨⟨[(4,.ptr 5 0),(5,.fn 85 [.ptr 0 0,.ptr 5 0])],[(5,.bx 31 [.mw 3]),(3,.sl 3 (.i .i64))]⟩,⟨[(4,.ptr 6 0),(5,.fn 85 [.ptr 0 0,.ptr 6 0])],[(6,.bx 31 [.mw 7]),(7,.sl 3 (.i .i64))]⟩,[6,25],[],8,false,""⟩),(16,⟨⟨[(36,.c (.i .i64)),(7,.c (.i .i64))],[]⟩,⟨[(7,.c (.i .i64))],[]⟩,[35,5,4],[5,3],6,false,""⟩),(24,⟨⟨[(9,.c (.i .i64)),(8,.mw 6)],[(6,.sl 3 (.i .i64))]⟩,⟨[(8,.mw 7)],[(7,.sl 3 (.i .i64))]⟩,[7,5,4],[5,3],8,false,""⟩),(32,⟨⟨[(59,.c (.i .i64)),(10,.mw 8)],[(8,.sl 3 (.i .i64))]⟩,⟨[(10,.mw 9)],[(9,.sl 3 (.i .i64))]⟩,[58,57,5,8,4],[7,5,3],10,false,""⟩),(40,⟨⟨[(72,.c (.i .i64)),(4,.ptr 5 0),(5,.fn 85 [.ptr 0 0,.ptr 5 0])],[(5,.bx 31 [.mw 3]),(3,.sl 3 (.i .i64))]⟩,⟨[(4,.ptr 10 0),(5,.fn 85 [.ptr 0 0,.ptr 10 0])],[(10,.bx 31 [.mw 11]),(11,.sl 3 (.i .i64))]⟩,[71,70,10],[7,9],12,false,""⟩)]) [(84,kep),(85,kkR),(83,kiU)] (.cons khu <| .cons kog <| .cons kjQ <| .nil) (fun x=>by kernel_rfl)
def kiW:Ctr:=⟨ "",[(.sl (.pr (.i .i64) (.pr (.i .u8) (.i .i64)))),(.sl (.pr (.i .i64) (.pr (.i .u8) (.i .i64))))],[.b],fun x=>kkw x.1 x.2,[],[]⟩
theorem klK:Good Tryz.prog 16 kiW:=
 kae Tryz.func16 (by kernel_rfl) (An:=[(0,⟨⟨[(5,.c (.i .i64))],[]⟩,⟨[],[]⟩,[0,1],[],0,true,""⟩)]) [] (.nil) (fun x=>by kernel_rfl)
def kjK:Ctr:=⟨ "",[(.sl (.i .i64)),(.sl (.i .i64))],[.b],fun x=>keg x.1 x.2,[],[]⟩
theorem kmB:Good Tryz.prog 41 kjK:=
 kae Tryz.func41 (by kernel_rfl) (An:=[(0,⟨⟨[(5,.c (.i .i64))],[]⟩,⟨[],[]⟩,[0,1],[],0,true,""⟩)]) [] (.nil) (fun x=>by kernel_rfl)
def kkZ:Ctr:=⟨ "",[],[.b],fun x=>kmK,[],[]⟩
theorem kom:Good Tryz.prog 13 kkZ:=
 kae Tryz.func13 (by kernel_rfl) (An:=[]) [(8000013,kaX),(8000017,kaX),(8000019,kaX),(8000036,kaX),(8000042,kaX),(8000044,kaX),(8000049,kaX),(8000050,kaX),(8000051,kaX),(8000052,kaX),(8000062,kaX),(8000078,kaX),(8000089,kaX),(8000103,kaX),(8000123,kaX),(41,kjK),(16,kiW),(35,kou),(28,kmV),(46,kmt),(23,krC),(19,kpL),(45,knC),(44,klw),(15,krQ),(43,khp)] (.cons kav <| .cons kav <| .cons kav <| .cons kav <| .cons kav <| .cons kav <| .cons kav <| .cons kav <| .cons kav <| .cons kav <| .cons kav <| .cons kav <| .cons kav <| .cons kav <| .cons kav <| .cons kmB <| .cons klK <| .cons kqY <| .cons kqm <| .cons kpc <| .cons ktQ <| .cons ksg <| .cons kpM <| .cons kof <| .cons ksw <| .cons khH <| .nil) (fun x=>by kernel_rfl)
def kmm:Ctr:=⟨ "",[],[.b],fun x=>law08_alive,[],[]⟩
theorem koW:Good Tryz.prog 13 kmm:=by
 have h:=kom
 unfold kkZ at h
 rw [kxM] at h
 exact h
def klp:Ctr:=⟨ "",[(.i .i64),(.i .i64),(.i .i64)],[.b],fun x=>khn x.1 x.2.1 x.2.2,[],[]⟩
theorem koi:Good Tryz.prog 63 klp:=
 kae Tryz.func63 (by kernel_rfl) (An:=[]) [] (.nil) (fun x=>by kernel_rfl)
def kng:Ctr:=⟨ "",[(.sl (.sl (.i .i64)))],[.b],fun x=>kjg x,[],[]⟩
theorem kpK:Good Tryz.prog 34 kng:=
 kae Tryz.func34 (by kernel_rfl) (An:=[(0,⟨⟨[(7,.c (.i .i64))],[]⟩,⟨[],[]⟩,[6,5,0],[],0,true,""⟩)]) [] (.nil) (fun x=>by kernel_rfl)
def kiP:Ctr:=⟨ "",[(.sl (.i .i64)),(.i .i64)],[.b],fun x=>kcb x.1 x.2,[],[]⟩
theorem kjO:Good Tryz.prog 37 kiP:=
 kae Tryz.func37 (by kernel_rfl) (An:=[(0,⟨⟨[(6,.c (.i .i64)),(5,.mw 0)],[(0,.sl 4 .b)]⟩,⟨[],[]⟩,[1,0],[],1,true,""⟩)]) [(63,klp)] (.cons koi <| .nil) (fun x=>by kernel_rfl)
def kkQ:Ctr:=⟨ "",[(.sl (.sl (.i .i64)))],[.b],fun x=>khs x,[],[]⟩
theorem knZ:Good Tryz.prog 36 kkQ:=
 kae Tryz.func36 (by kernel_rfl) (An:=[(0,⟨⟨[(3,.c (.i .i64))],[]⟩,⟨[],[]⟩,[0],[],0,true,""⟩)]) [(37,kiP)] (.cons kjO <| .nil) (fun x=>by kernel_rfl)
def klo:Ctr:=⟨ "",[(.sl (.i .i64)),(.i .i64)],[(.i .i64)],fun x=>kcV x.1 x.2,[],[]⟩
theorem koj:Good Tryz.prog 38 klo:=
 kae Tryz.func38 (by kernel_rfl) (An:=[(0,⟨⟨[(5,.c (.i .i64))],[]⟩,⟨[],[]⟩,[0,1],[],0,true,""⟩)]) [] (.nil) (fun x=>by kernel_rfl)
def keV (k:Nat):CtrM:=⟨ "",[some (.i .i64),some (.i .u8),some .b,none,none,none,none,none],⟨[(3,.ptr 0 0),(4,.ptr 1 0),(5,.ptr 2 0),(6,.ptr 3 0),(7,.ptr 4 0)],[(0,.bx 3 [.c (.i .i64)]),(1,.bx 5 [.c (.i .u8)]),(2,.bx 140 [.fn 89 [.ptr 0 0,.ptr 1 0,.ptr 2 0,.ptr 3 0,.ptr 4 0]]),(3,.bx 70 [.c (.sl (.sl (.i .i64)))]),(4,.bx 31 [.c (.sl (.i .i64))])]⟩,5,⟨[(3,.ptr 0 0),(4,.ptr 1 0),(5,.ptr 2 0),(6,.ptr 3 0),(7,.ptr 4 0),(1000000,.c .b)],[(0,.bx 3 [.c (.i .i64)]),(1,.bx 5 [.c (.i .u8)]),(2,.bx 140 [.fn 89 [.ptr 0 0,.ptr 1 0,.ptr 2 0,.ptr 3 0,.ptr 4 0]]),(3,.bx 70 [.c (.sl (.sl (.i .i64)))]),(4,.bx 31 [.c (.sl (.i .i64))])]⟩,5,1,fun x=>kaF k x.1 x.2.1 x.2.2.1 x.2.2.2.1 x.2.2.2.2.1 x.2.2.2.2.2.1 x.2.2.2.2.2.2,false⟩
theorem khG:∀ k,(keV k).ok=true/\GoodM Tryz.prog 89 (keV k)
 | 0=>khA (by kernel_rfl) (fun x=>rfl)
 | k+1=>kal Tryz.func89 (by kernel_rfl) (An:=[(0,⟨⟨[(35,.c (.i .i64))],[(4,.bx 31 [.c (.sl (.i .i64))]),(2,.bx 140 [.fn 89 [.ptr 0 0,.ptr 1 0,.ptr 2 0,.ptr 3 0,.ptr 4 0]]),(0,.bx 3 [.c (.i .i64)]),(1,.bx 5 [.c (.i .u8)]),(3,.bx 70 [.c (.sl (.sl (.i .i64)))])]⟩,⟨[],[(4,.bx 31 [.c (.sl (.i .i64))]),(2,.bx 140 [.fn 89 [.ptr 0 0,.ptr 1 0,.ptr 2 0,.ptr 3 0,.ptr 4 0]]),(0,.bx 3 [.c (.i .i64)]),(1,.bx 5 [.c (.i .u8)]),(3,.bx 70 [.c (.sl (.sl (.i .i64)))])]⟩,[34,33,0,1,2],[],10,true,""⟩)]) ((89,⟨ "",[],[],fun _=>none,[keV k],[]⟩)::[]) (.cons (good_dm.more (khG k)) <| .nil) (fun x=>by kernel_rfl)
def box_Better_c1_m0_M:CtrM:=⟨ "",[some (.i .i64),some (.i .u8),some .b,none,none,none,none,none],⟨[(3,.ptr 0 0),(4,.ptr 1 0),(5,.ptr 2 0),(6,.ptr 3 0),(7,.ptr 4 0)],[(0,.bx 3 [.c (.i .i64)]),(1,.bx 5 [.c (.i .u8)]),(2,.bx 140 [.fn 89 [.ptr 0 0,.ptr 1 0,.ptr 2 0,.ptr 3 0,.ptr 4 0]]),(3,.bx 70 [.c (.sl (.sl (.i .i64)))]),(4,.bx 31 [.c (.sl (.i .i64))])]⟩,5,⟨[(3,.ptr 0 0),(4,.ptr 1 0),(5,.ptr 2 0),(6,.ptr 3 0),(7,.ptr 4 0),(1000000,.c .b)],[(0,.bx 3 [.c (.i .i64)]),(1,.bx 5 [.c (.i .u8)]),(2,.bx 140 [.fn 89 [.ptr 0 0,.ptr 1 0,.ptr 2 0,.ptr 3 0,.ptr 4 0]]),(3,.bx 70 [.c (.sl (.sl (.i .i64)))]),(4,.bx 31 [.c (.sl (.i .i64))])]⟩,5,1,fun x=>kgI x.1 x.2.1 x.2.2.1 x.2.2.2.1 x.2.2.2.2.1 x.2.2.2.2.2.1 x.2.2.2.2.2.2,false⟩
theorem klq:box_Better_c1_m0_M.ok=true/\GoodM Tryz.prog 89 box_Better_c1_m0_M:=khG 1000000
def box_Better_c1_C:Ctr:=⟨ "",[],[],fun _=>none,[],[]⟩
theorem box_Better_c1_C_ok:Good Tryz.prog 89 box_Better_c1_C:=good_dm
def kiZ:Ctr:=⟨ "",box_Better_c1_C.as,box_Better_c1_C.rs,box_Better_c1_C.F,box_Better_c1_m0_M::box_Better_c1_C.mus,box_Better_c1_C.its⟩
theorem klY:Good Tryz.prog 89 kiZ:=(box_Better_c1_C_ok.more klq)
def kny:Ctr:=⟨ "",[(.sl (.sl (.i .i64))),(.sl (.i .i64)),(.i .u8)],[.b,(.i .i64)],fun x=>khE x.1 x.2.1 x.2.2,[],[]⟩
theorem kpQ:Good Tryz.prog 39 kny:=
 kae Tryz.func39 (by kernel_rfl) (An:=[]) [(89,kiZ),(83,kiU),(88,klB)] (.cons klY <| .cons kjQ <| .cons kmy <| .nil) (fun x=>by kernel_rfl)
def koo:Ctr:=⟨ "",[(.sl (.sl (.i .i64))),(.sl (.i .i64)),(.sl (.i .i64)),(.i .u8)],[.b],fun x=>khw x.1 x.2.1 x.2.2.1 x.2.2.2,[],[]⟩
theorem law08_BoxGroups_C_ok:Good Tryz.prog 10 koo:=
 kae Tryz.func10 (by kernel_rfl) (An:=[(0,⟨⟨[(83,.c (.i .i64)),(13,.c .b),(14,.c .b)],[]⟩,⟨[(13,.c .b),(14,.c .b)],[]⟩,[82,81,2,1,0,9],[],0,false,""⟩)]) [(39,kny),(38,klo),(36,kkQ),(37,kiP),(34,kng),(13,kmm)] (.cons kpQ <| .cons koj <| .cons knZ <| .cons kjO <| .cons kpK <| .cons koW <| .nil) (fun x=>by kernel_rfl)
end Go.Abs
namespace Go.Abs.Fl
open Go Go.Abs
def sumN (f:Nat->Int):Nat->Int
 | 0=>0
 | n+1=>sumN f n+f n
theorem kjq {f g:Nat->Int}:∀ {n:Nat},(∀ i,i<n->f i=g i)->sumN f n=sumN g n
 | 0,_=>rfl
 | n+1,h=>by simp only [sumN]; rw [kjq fun i hi=>h i (by omega),h n (by omega)]
theorem krp {f:Nat->Int}:∀ {n:Nat},(∀ i,i<n->0<=f i)->0<=sumN f n
 | 0,_=>jec 0
 | n+1,h=>by
  have:=krp (f:=f) (n:=n) fun i hi=>h i (by omega)
  have:=h n (by omega)
  simp only [sumN]; omega
theorem kyR {f:Nat->Int}:∀ {n:Nat},(∀ i,i<n->0<=f i)->sumN f n<=0->∀ i,i<n->f i=0
 | 0,_,_,i,hi=>by omega
 | n+1,h,e,i,hi=>by
  have h1:=krp (f:=f) (n:=n) fun i hi=>h i (by omega)
  have h2:=h n (by omega)
  simp only [sumN] at e
  by_cases hn:i=n
  ·subst hn; show f i=0; omega
  ·exact kyR (f:=f) (n:=n) (fun i hi=>h i (by omega)) (by omega) i (by omega)
theorem kpa {f g:Nat->Int} {i:Nat} {d:Int} (h:g i=f i+d):∀ {n:Nat},i<n->(∀ j,j<n->j≠i->g j=f j)->sumN g n=sumN f n+d
 | 0,hi,_=>by omega
 | n+1,hi,ho=>by
  simp only [sumN]
  by_cases e:i=n
  ·subst e
   rw [kjq (f:=g) (g:=f) fun j hj=>ho j (by omega) (by omega),h]; omega
  ·rw [kpa h (n:=n) (by omega) fun j hj hn=>ho j (by omega) hn,ho n (by omega) (by omega)]; omega
theorem ksL {f:Nat->Int}:∀ {n:Nat},(∀ i,i<n->0<=f i)->∀ {i:Nat},i<n->f i<=sumN f n
 | 0,_,i,hi=>by omega
 | n+1,h,i,hi=>by
  have h1:=krp (f:=f) (n:=n) fun i hi=>h i (by omega)
  have h2:=h n (by omega)
  simp only [sumN]
  by_cases hn:i=n
  ·subst hn; omega
  ·have:=ksL (fun i hi=>h i (by omega)) (n:=n) (i:=i) (by omega); omega
section
variable (n m:Nat) (cap:Nat->Int) (may:Nat->Nat->Prop)
structure Val (u:Nat->Nat->Int) (l:Nat->Int):Prop where
 nn:∀ k,k<n->∀ j,j<m->0<=u k j
 ok:∀ k,k<n->∀ j,j<m->0<u k j->may k j
 ln:∀ j,j<m->0<=l j
 bal:∀ j,j<m->l j+sumN (fun k=>u k j) n=cap j
structure Sat (u:Nat->Nat->Int) (l:Nat->Int) (S:Nat->Bool):Prop where
 z:∀ k,k<n->S k=true->∀ j,j<m->may k j->l j=0
 c:∀ k,k<n->S k=true->∀ j,j<m->may k j->∀ k',k'<n->0<u k' j->S k'=true
end
def row (m:Nat) (u:Nat->Nat->Int) (k:Nat):Int:=sumN (u k) m
variable {n m:Nat} {cap:Nat->Int} {may:Nat->Nat->Prop} {u u':Nat->Nat->Int} {l l':Nat->Int} {S T:Nat->Bool}
theorem Val.take (v:Val n m cap may u l) {i j:Nat} {d:Int} (hi:i<n) (hj:j<m) (hm:may i j) (hd:0<=d) (hl:d<=l j)
  (h1:l' j=l j-d) (h2:u' i j=u i j+d) (h3:∀ j',j'<m->j'≠j->l' j'=l j') (h4:∀ k,k<n->∀ j',j'<m->¬ (k=i/\j'=j)->u' k j'=u k j') :
  Val n m cap may u' l'/\row m u' i=row m u i+d/\∀ k,k<n->k≠i->row m u' k=row m u k:=by
 refine ⟨⟨?_,?_,?_,?_⟩,?_,?_⟩
 ·intro k hk j' hj'
  by_cases e:k=i/\j'=j
  ·obtain ⟨rfl,rfl⟩:=e; rw [h2]; have:=v.nn k hk j' hj'; omega
  ·rw [h4 k hk j' hj' e]; exact v.nn k hk j' hj'
 ·intro k hk j' hj' hp
  by_cases e:k=i/\j'=j
  ·obtain ⟨rfl,rfl⟩:=e; exact hm
  ·rw [h4 k hk j' hj' e] at hp; exact v.ok k hk j' hj' hp
 ·intro j' hj'
  by_cases e:j'=j
  ·subst e; omega
  ·rw [h3 j' hj' e]; exact v.ln j' hj'
 ·intro j' hj'
  by_cases e:j'=j
  ·subst e
   rw [<-v.bal j' hj',h1,kpa (f:=fun k=>u k j') (g:=fun k=>u' k j') (i:=i) (d:=d) h2 hi fun k hk hn=>h4 k hk j' hj' (by omega)]; omega
  ·rw [<-v.bal j' hj',h3 j' hj' e,kjq fun k hk=>h4 k hk j' hj' (by omega)]
 ·exact kpa h2 hj fun j' hj' hn=>h4 i hi j' hj' (by omega)
 ·intro k hk hn
  exact kjq fun j' hj'=>h4 k hk j' hj' (by omega)
inductive Rch (n m:Nat) (may:Nat->Nat->Prop) (u:Nat->Nat->Int) (L:Nat->Prop):Nat->Prop
 | base {i:Nat}:i<n->L i->Rch n m may u L i
 | step {i j k:Nat}:Rch n m may u L i->j<m->may i j->k<n->0<u k j->Rch n m may u L k
theorem Rch.lt {L:Nat->Prop} {i:Nat} (h:Rch n m may u L i):i<n:=by cases h <;> assumption
theorem iter_inv {α β:Type} {F:α->Option (α⊕β)} (I:α->Prop) (m:α->Nat) (R:β->Prop)
  (h:∀ x,I x->(∃ z,F x=some (.inr z)/\R z)\/∃ y,F x=some (.inl y)/\I y/\m y<m x) (x:α) (hx:I x) (hm:m x<18446744073709551616):∃ z,iter F x=some z/\R z:=by
 have:∀ n x,I x->m x<n->∃ z,itN F n x=some z/\R z:=by
  intro n
  induction n with
  | zero=>intro x _ h0; omega
  | succ n ih=>
   intro x hx hm
   rcases h x hx with ⟨z,e,hz⟩ | ⟨y,e,hy,hlt⟩
   ·exact ⟨z,kgL e,hz⟩
   ·rw [kuu e]; exact ih y hy (by omega)
 obtain ⟨z,e,hz⟩:=this 18446744073709551616 x hx hm
 exact ⟨z,kli e (jah _),hz⟩
def ua (U:List (List Int)) (k j:Nat):Int:=(U.getD k []).getD j 0
def la (L:List Int) (j:Nat):Int:=L.getD j 0
def sa (s:List Bool) (j:Nat):Bool:=s.getD j false
def upd (U:List (List Int)) (k j:Nat) (x:Int):List (List Int):=U.set k ((U.getD k []).set j x)
structure Shp (n m:Nat) (U:List (List Int)) (L:List Int):Prop where
 u:U.length=n
 r:∀ k,k<n->(U.getD k []).length=m
 l:L.length=m
theorem gi_D {α:Type} {l:List α} {i:Nat} (d:α) (h:i<l.length):gi l (i:Int)=some (l.getD i d):=by rw [kcL h,jat,jae h]; rfl
section
variable {n m:Nat} {U:List (List Int)} {L:List Int} {k j:Nat} {x:Int}
theorem Shp.gu (h:Shp n m U L) (hk:k<n):gi U (k:Int)=some (U.getD k []):=gi_D [] (by rw [h.u]; exact hk)
theorem Shp.gl (h:Shp n m U L) (hj:j<m):gi L (j:Int)=some (la L j):=gi_D 0 (by rw [h.l]; exact hj)
theorem gs {s:List Bool} (hs:s.length=m) (hj:j<m):gi s (j:Int)=some (sa s j):=gi_D false (by omega)
theorem kic {α:Type} {l:List α} {i j:Nat} {x d:α} (h:i<l.length):(l.set i x).getD j d=if j=i then x else l.getD j d:=by
 rw [jat,jat,List.getElem?_set]
 by_cases e:j=i
 ·subst e; simp [h]
 ·rw [if_neg (fun h=>e h.symm),if_neg e]
theorem Shp.upd (h:Shp n m U L) (hk:k<n) (hj:j<m):Shp n m (upd U k j x) L:=by
 refine ⟨by simp [Fl.upd,h.u],fun k' hk'=>?_,h.l⟩
 unfold Fl.upd
 rw [kic (by rw [h.u]; exact hk)]
 split
 ·rw [jcd]; exact h.r k hk
 ·exact h.r k' hk'
theorem kxk (hj:j<L.length) (j':Nat):la (L.set j x) j'=if j'=j then x else la L j':=kic hj
theorem kzd {s:List Bool} (hj:j<s.length) (j':Nat):sa (s.set j true) j'=if j'=j then true else sa s j':=kic hj
end
section
variable (n m:Nat) (cap:Nat->Int) (may:Nat->Nat->Prop)
def Cl (U:List (List Int)) (L:List Int) (s s':List Bool):Prop:=
 ∀ j,j<m->sa s' j=true->sa s j=false->la L j=0/\∀ k,k<n->0<ua U k j->∀ j',j'<m->may k j'->sa s' j'=true
structure Post (i:Nat) (most:Int) (U:List (List Int)) (L:List Int) (s:List Bool) (r:Int) (U':List (List Int)) (L':List Int) (s':List Bool):Prop where
 sh:Shp n m U' L'
 sl:s'.length=m
 mono:∀ j,sa s j=true->sa s' j=true
 v:Val n m cap may (ua U') (la L')
 fr:∀ j,j<m->sa s j=true->la L' j=la L j/\∀ k,k<n->ua U' k j=ua U k j
 r0:0<=r
 r1:r<=most
 ri:row m (ua U') i=row m (ua U) i+r
 ro:∀ k,k<n->k≠i->row m (ua U') k=row m (ua U) k
 z:r=0->U'=U/\L'=L/\(∀ j,j<m->may i j->sa s' j=true)/\Cl n m may U L s s'
end
variable {n m:Nat} {cap:Nat->Int} {may:Nat->Nat->Prop} {U U':List (List Int)} {L L':List Int} {s s' s1 s2:List Bool} {i j k:Nat} {most r:Int}
theorem Cl.mono (h:Cl n m may U L s s1) (h2:∀ j,sa s1 j=true->sa s2 j=true):∀ j,j<m->sa s1 j=true->sa s j=false->la L j=0/\∀ k,k<n->0<ua U k j->∀ j',j'<m->may k j'->sa s2 j'=true:=
 fun j hj h1 h0=>⟨(h j hj h1 h0).1,fun k hk hp j' hj' hm=>h2 _ ((h j hj h1 h0).2 k hk hp j' hj' hm)⟩
theorem Cl.trans (h:Cl n m may U L s s1) (h':Cl n m may U L s1 s2) (h2:∀ j,sa s1 j=true->sa s2 j=true):Cl n m may U L s s2:=fun j hj h1 h0=>by
 cases e:sa s1 j with
 | true=>exact h.mono h2 j hj e h0
 | false=>exact h' j hj h1 e
theorem Val.le (v:Val n m cap may (ua U) (la L)) (hk:k<n) (hj:j<m):0<=ua U k j/\ua U k j<=cap j:=by
 have h1:=v.bal j hj
 have h2:=v.ln j hj
 have h3:=ksL (f:=fun k=>ua U k j) (fun k hk=>v.nn k hk j hj) hk
 have h4:=v.nn k hk j hj
 omega
end Go.Abs.Fl
namespace Go.Abs
open Go Go.Abs.Fl
theorem kty (a b:Int):kaw a b=some (decide (a<b)):=by unfold kaw kdq; simp
def UpTo (l:List Int) (i j:Nat):Prop:=∀ p q,p<q->q<=i->q≠j->la l p<=la l q
theorem kyP {n:Nat} (hn:n<=1000):∀ (j i:Nat) (l:List Int),l.length=n->j<=i->i<n->UpTo l i j->∃ l',itN (kas 0) (j+1) ((j:Int),l)=some l'/\l'.Perm l/\∀ p q,p<q->q<=i->la l' p<=la l' q:=by
 intro j
 induction j with
 | zero=>
  intro i l hl hj hi h
  refine ⟨l,kgL ?_,.refl _,fun p q hpq hq=>h p q hpq hq (by omega)⟩
  unfold kas
  rw [if_neg (by simp)]
 | succ j ih=>
  intro i l hl hj hi h
  have g1:gi l ((j+1:Nat):Int)=some (la l (j+1)):=gi_D 0 (by omega)
  have hw:w64 (((j+1:Nat):Int)-1)=(j:Int):=by rw [kiI (by omega) (by omega)]; omega
  have g2:gi l (j:Int)=some (la l j):=gi_D 0 (by omega)
  have h0:decide ((0:Int)<((j+1:Nat):Int))=true:=decide_eq_true (by omega)
  by_cases hlt:la l (j+1)<la l j
  ·have hp:((l.set (j+1) l[j]).set j l[j+1]).Perm l:=List.set_set_perm (by omega) (by omega)
   have e1:la l j=l[j]:=by unfold la; rw [jat,jae (by omega)]; rfl
   have e2:la l (j+1)=l[j+1]:=by unfold la; rw [jat,jae (by omega)]; rfl
   rw [<-e1,<-e2] at hp
   have hs:∀ k,la ((l.set (j+1) (la l j)).set j (la l (j+1))) k=if k=j then la l (j+1) else if k=j+1 then la l j else la l k:=fun k=>by
    rw [kxk (by simp; omega),kxk (by omega)]
   obtain ⟨l',h1,h2,h3⟩:=ih i ((l.set (j+1) (la l j)).set j (la l (j+1))) (by simp [hl]) (by omega) hi (fun p q hpq hq hne=>by
    rw [hs,hs,if_neg hne]
    by_cases a:q=j+1
    ·rw [if_pos a]
     by_cases b:p=j
     ·rw [if_pos b]; omega
     ·rw [if_neg b,if_neg (by omega)]; exact h p j (by omega) (by omega) (by omega)
    ·rw [if_neg a]
     by_cases b:p=j
     ·rw [if_pos b]; exact h (j+1) q (by omega) hq a
     ·rw [if_neg b]
      by_cases c:p=j+1
      ·rw [if_pos c]; exact h j q (by omega) hq a
      ·rw [if_neg c]; exact h p q hpq hq a)
   refine ⟨l',?_,h2.trans hp,h3⟩
   rw [<-h1]
   refine kuu ?_
   have g3:gi (lset l ((j+1:Nat):Int) (la l j)) (j:Int)=some (la (l.set (j+1) (la l j)) j):=gi_D 0 (by simp [lset]; omega)
   unfold kas
   simp only [h0,if_true,g1,hw,g2,jal,kty,decide_eq_true hlt,g3]
   rfl
  ·refine ⟨l,kgL ?_,.refl _,fun p q hpq hq=>?_⟩
   ·unfold kas
    simp only [h0,if_true,g1,hw,g2,jal,kty,decide_eq_false hlt,jaj,if_false]
   ·by_cases a:q=j+1
    ·subst a
     by_cases b:p=j
     ·subst b; omega
     ·have:=h p j (by omega) (by omega) (by omega); omega
    ·exact h p q hpq hq a
theorem kyU {l:List Int} (hl:l.length<=1000):∃ s,kaL 0 (lenI l) l=some s/\s.Perm l/\∀ p q,p<q->q<l.length->la s p<=la s q:=by
 unfold kaL
 by_cases h0:l.length=0
 ·refine ⟨l,?_,.refl _,fun p q _ h=>by omega⟩
  rw [kli (n:=1) (kgL (z:=l) ?_) (by omega)]; rfl
  unfold kar
  have e:w64 ((0:Int)+1)=1:=by rw [kiI (by omega) (by omega)]; rfl
  rw [if_neg (by rw [e,kaM,h0]; simp)]
 ·obtain ⟨z,hz,h1,h2⟩:=Fl.iter_inv (F:=kar 0 (lenI l))
   (fun x=>∃ (i:Nat) (s:List Int),1<=i/\i<=l.length/\x=((i:Int),s)/\s.Perm l/\∀ p q,p<q->q<i->la s p<=la s q) (fun x=>l.length-x.1.toNat) (fun s=>s.Perm l/\∀ p q,p<q->q<l.length->la s p<=la s q)
   (fun x hx=>by
    obtain ⟨i,s,hi1,hi,rfl,hp,hs⟩:=hx
    by_cases hlt:i<l.length
    ·obtain ⟨s',a,b,c⟩:=kyP (n:=l.length) hl i i s hp.length_eq (jah _) hlt (fun p q hpq hq hne=>hs p q hpq (by omega))
     have a':=kli a (by omega)
     refine .inr ⟨((i+1:Nat),s'),?_,⟨i+1,s',by omega,by omega,rfl,b.trans hp,fun p q hpq hq=>c p q hpq (by omega)⟩,by simp only [jbj]; omega⟩
     unfold kar
     simp only [lenI_lt.2 hlt,if_true,a',jal,kcZ (show i<9223372036854775807 by omega)]
    ·have:i=l.length:=by omega
     subst this
     refine .inl ⟨s,?_,hp,hs⟩
     unfold kar
     rw [if_neg kdx])
   (1,l) ⟨1,l,by omega,by omega,rfl,.refl _,fun p q h1 h2=>by omega⟩ (by simp only; omega)
  refine ⟨z,?_,h1,h2⟩
  rw [show w64 ((0:Int)+1)=1 from by rw [kiI (by omega) (by omega)]; rfl,hz]; rfl
def ordB (l:List Int) (n:Nat):Prop:=l.length=n/\(∀ x∈l,0<=x/\x<n)/\l.Nodup
theorem ktF {l:List Int} {k:Nat} (h:k<l.length):la l k∈l:=by
 unfold la
 rw [jat,jae h]
 exact List.getElem_mem h
theorem kxT {l:List Int} (h:l.Nodup) {p q:Nat} (hp:p<l.length) (hq:q<l.length) (e:la l p=la l q):p=q:=by
 unfold la at e
 rw [jat,jat,jae hp,jae hq] at e
 exact (List.getElem_inj h).1 e
theorem kvP {s l:List Int} (hp:s.Perm l) (hs:∀ p q,p<q->q<l.length->la s p<=la s q):(∀ k,k<s.length->la s k=(k:Int))↔ordB l l.length:=by
 have hl:=hp.length_eq
 constructor
 ·intro h
  refine ⟨rfl,fun x hx=>?_,?_⟩
  ·obtain ⟨k,hk,e⟩:=jdf.1 (hp.mem_iff.2 hx)
   have:=h k hk
   unfold la at this
   rw [jat,jae hk] at this
   simp at this
   omega
  ·refine hp.nodup_iff.1 ?_
   rw [jde,List.pairwise_iff_getElem]
   intro i j hi hj hij e
   have a:=h i hi
   have b:=h j hj
   unfold la at a b
   rw [jat,jae hi] at a
   rw [jat,jae hj] at b
   simp at a b
   omega
 ·rintro ⟨_,hw,hn⟩ k hk
  have hn':=hp.nodup_iff.2 hn
  have lt:∀ p q,p<q->q<s.length->la s p<la s q:=fun p q hpq hq=>by
   have:=hs p q hpq (by omega)
   rcases Int.lt_or_eq_of_le this with h | h
   ·exact h
   ·have:=kxT hn' (by omega) hq h; omega
  have lo:∀ k,k<s.length->(k:Int)<=la s k:=by
   intro k
   induction k with
   | zero=>intro h; have:=(hw _ (hp.mem_iff.1 (ktF h))).1; simpa using this
   | succ k ih=>intro h; have:=ih (by omega); have:=lt k (k+1) (by omega) h; omega
  have up:∀ d k,k+d+1=s.length->la s k<=(k:Int):=by
   intro d
   induction d with
   | zero=>intro k h; have:=(hw _ (hp.mem_iff.1 (ktF (l:=s) (k:=k) (by omega)))).2; omega
   | succ d ih=>intro k h; have:=ih (k+1) (by omega); have:=lt k (k+1) (by omega) (by omega); omega
  have:=lo k hk
  have:=up (s.length-k-1) k (by omega)
  omega
end Go.Abs
