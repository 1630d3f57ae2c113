/- The functions and the law, part 8. -/
import Derived.Test.YtpjlpghgmjlbbaaGreatProg
import Derived.Test.YtpjlpghgmjlbbaaGreatZ3
import Derived.Test.YtpjlpghgmjlbbaaGreatZ6
set_option linter.constructorNameAsVariable false
set_option linter.unusedVariables false
set_option linter.unusedSimpArgs false
set_option linter.unusedSectionVars false
namespace Go.Abs
open Go
@[reducible] def kuY:Ty:=(.pr (.i .i64) (.sl (.i .i64)))
abbrev kaj:=(Int×(List Int))
@[reducible] def tBill:Ty:=(.pr (.sl (.i .i64)) (.pr (.sl (.pr (.i .i64) (.pr (.i .u8) (.i .i64)))) (.i .i64)))
abbrev Bill:=((List Int)×(List (Int×Int×Int))×Int)
@[reducible] def kxI:Ty:=(.pr (.sl (.i .i64)) (.pr (.i .i64) (.sl (.pr (.i .i64) (.pr (.i .u8) (.i .i64))))))
abbrev kng:=((List Int)×Int×(List (Int×Int×Int)))
@[reducible] def tLine:Ty:=(.pr (.i .i64) (.pr (.i .i64) (.pr (.i .i64) (.pr (.pr (.i .i64) (.i .u8)) .b))))
abbrev Line:=(Int×Int×Int×(Int×Int)×Bool)
@[reducible] def tFlow:Ty:=(.pr (.sl (.pr (.i .i64) (.pr (.i .u8) (.i .i64)))) (.pr (.sl (.sl (.i .i64))) (.pr (.sl (.sl (.i .i64))) (.sl (.i .i64)))))
abbrev Flow:=((List (Int×Int×Int))×(List (List Int))×(List (List Int))×(List Int))
@[reducible] def tSwap:Ty:=(.pr (.i .i64) (.pr (.i .u8) (.pr (.i .i64) (.i .u8))))
abbrev Swap:=(Int×Int×Int×Int)
def kbb (x0:Int) (x1:Int) (x2:Int):Option (Int×Int×Int):=
 (some (x0,x1,x2))
def kfy (x0:Int) (x1:Int) (x2:Int):Option Bool:=
 (if (decide (x0<=x2))=true then (some (decide (x2<=x1))) else (some false))
def khp (x0:(Int×Int×Int)):Option Bool:=
 ((kfy 1 1000 x0.2.2).bind fun v0=>(some (!v0)))
def kbO (x0:(Int×Int)):Option Bool:=
 ((kfy 0 15 x0.1).bind fun v0=>(if v0=true then (some (decide (x0.2<=15))) else (some false)))
def kdf (x0:Int):Option Bool:=
 (some (x0 != x0))
def kcf (x0:Int) (x1:Int):Option Int:=
 ((kdf x0).bind fun v0=>((kdf x1).bind fun v1=>(if v0=true then (if v1=true then (some 0) else (some (-1))) else (if v1=true then (some 1) else (if (decide (x0<x1))=true then (some (-1)) else (if (decide (x1<x0))=true then (some 1) else (some 0)))))))
def keW (x0:Int):Option Bool:=
 (some (x0 != x0))
def kdN (x0:Int) (x1:Int):Option Int:=
 ((keW x0).bind fun v0=>((keW x1).bind fun v1=>(if v0=true then (if v1=true then (some 0) else (some (-1))) else (if v1=true then (some 1) else (if (decide (x0<x1))=true then (some (-1)) else (if (decide (x1<x0))=true then (some 1) else (some 0)))))))
def kgC (x0:(List Int)) (v0:Int):Option (Int⊕(Int⊕Unit)):=
 (if (decide (v0<(lenI x0)))=true then ((gi x0 v0).bind fun v1=>(if (v1 != 0)=true then (some (.inr (.inl v1))) else (some (.inl (w64 (v0+1)))))) else (some (.inr (.inr ()))))
def khF (x0:(List Int)):Option Int:=
 ((iter (kgC x0) 0).bind fun v2=>(match v2 with | .inl v3=>(some v3) | .inr v4=>(some 0)))
def kfo (x0:(Int×Int)) (x1:(Int×Int)):Option Int:=
 ((kcf x0.1 x1.1).bind fun v0=>((kdN x0.2 x1.2).bind fun v1=>((khF [v0,v1]).bind fun v2=>(some v2))))
def kbH (x0:(List (Int×Int×Int))) (x2:((Int×Int×Int)->Option (Int×Int))) (v0:Int):Option (Int⊕(Bool⊕Unit)):=
 (if (decide (v0<(lenI x0)))=true then ((gi x0 v0).bind fun v1=>((x2 v1).bind fun v2=>((kbO v2).bind fun v3=>(if (!v3)=true then (some (.inr (.inl false))) else (if (decide (0<v0))=true then ((gi x0 (w64 (v0-1))).bind fun v4=>((x2 v4).bind fun v5=>((x2 v1).bind fun v6=>((kfo v5 v6).bind fun v7=>(if (decide (0<=v7))=true then (some (.inr (.inl false))) else (some (.inl (w64 (v0+1))))))))) else (some (.inl (w64 (v0+1))))))))) else (some (.inr (.inr ()))))
def kcx (x0:(List (Int×Int×Int))) (x1:Int) (x2:((Int×Int×Int)->Option (Int×Int))):Option Bool:=
 ((iter (kbH x0 x2) 0).bind fun v8=>(match v8 with | .inl v9=>(some v9) | .inr v10=>(some (decide ((lenI x0)<=x1)))))
def kaZ (x0:(Int×Int×Int)):Option (Int×Int):=
 (some (x0.1,x0.2.1))
def kaA (x0:(List (Int×Int×Int))) (x1:((Int×Int×Int)->Option Bool)) (v0:Int):Option (Int⊕(Int⊕Unit)):=
 (if (decide (v0<(lenI x0)))=true then ((gi x0 v0).bind fun v1=>((x1 v1).bind fun v2=>(if v2=true then (some (.inr (.inl v0))) else (some (.inl (w64 (v0+1))))))) else (some (.inr (.inr ()))))
def kaX (x0:(List (Int×Int×Int))) (x1:((Int×Int×Int)->Option Bool)):Option Int:=
 ((iter (kaA x0 x1) 0).bind fun v3=>(match v3 with | .inl v4=>(some v4) | .inr v5=>(some (-1))))
def kaq (x0:(List (Int×Int×Int))) (x1:((Int×Int×Int)->Option Bool)):Option Bool:=
 ((kaX x0 x1).bind fun v0=>(some (decide (0<=v0))))
def kiA (x0:(List (Int×Int×Int))):Option Int:=
 ((kcx x0 30 (fun (u0:(Int×Int×Int))=>((kaZ u0).bind fun u1=>(some u1)))).bind fun v0=>(if (!v0)=true then (some 8) else ((kaq x0 (fun (u0:(Int×Int×Int))=>((khp u0).bind fun u1=>(some u1)))).bind fun v1=>(if v1=true then (some 8) else (some 0)))))
def kfR (x0:(List (List (Int×Int×Int)))) (v0:Int):Option (Int⊕(Int⊕Unit)):=
 (if (decide (v0<(lenI x0)))=true then ((gi x0 v0).bind fun v1=>((kiA v1).bind fun v2=>(if (v2 != 0)=true then (some (.inr (.inl v2))) else (some (.inl (w64 (v0+1))))))) else (some (.inr (.inr ()))))
def kbX (x0:(List (List (Int×Int×Int)))):Option Int:=
 ((iter (kfR x0) 0).bind fun v3=>(match v3 with | .inl v4=>(some v4) | .inr v5=>(some 0)))
def kcz (x0:(List (Int×Int×Int))) (x1:(List (Int×Int×Int))):Option Int:=
 (if ((lenI x0)==0)=true then (some 1) else (if ((lenI x1)==0)=true then (some (-1)) else ((gi x0 0).bind fun v0=>((kaZ v0).bind fun v1=>((gi x1 0).bind fun v2=>((kaZ v2).bind fun v3=>((kfo v1 v3).bind fun v4=>(some v4))))))))
def kbp (x2:((Int×Int)->Option Int)) (v0:((List (Int×Int×Int))×(List (Int×Int×Int))×(List (Int×Int×Int)))):Option (((List (Int×Int×Int))×(List (Int×Int×Int))×(List (Int×Int×Int)))⊕(List (Int×Int×Int))):=
 ((if (decide (0<(lenI v0.1)))=true then (some true) else (some (decide (0<(lenI v0.2.1))))).bind fun v1=>(if v1=true then ((kcz v0.1 v0.2.1).bind fun v2=>((if (decide (v2<=0))=true then ((gi v0.1 0).bind fun v3=>((gi v0.1 0).bind fun v4=>((gsl v0.1 1 (lenI v0.1)).bind fun v5=>((if (v2==0)=true then ((gi v0.2.1 0).bind fun v6=>((gsl v0.2.1 1 (lenI v0.2.1)).bind fun v7=>(some (v6.2.2,v7)))) else (some (0,v0.2.1))).bind fun v8=>(some (v4.2.2,v8.1,v5,v8.2,v3)))))) else ((gi v0.2.1 0).bind fun v9=>((gi v0.2.1 0).bind fun v10=>((gsl v0.2.1 1 (lenI v0.2.1)).bind fun v11=>(some (0,v10.2.2,v0.1,v11,v9)))))).bind fun v12=>((x2 (v12.1,v12.2.1)).bind fun v13=>(if (v13 != 0)=true then ((gapp v0.2.2 [(v12.2.2.2.2.1,v12.2.2.2.2.2.1,v13)]).bind fun v14=>(some (.inl (v12.2.2.1,v12.2.2.2.1,v14)))) else (some (.inl (v12.2.2.1,v12.2.2.2.1,v0.2.2))))))) else (some (.inr v0.2.2))))
def kes (x0:(List (Int×Int×Int))) (x1:(List (Int×Int×Int))) (x2:((Int×Int)->Option Int)):Option (List (Int×Int×Int)):=
 ((iter (kbp x2) (x0,x1,[])).bind fun v15=>(some v15))
def kji (x0:Int) (x1:Int):Option Int:=
 (some (w64 (x0+x1)))
def kbP (x0:(List (Int×Int×Int))) (x1:(List (Int×Int×Int))):Option ((List (Int×Int×Int))×Int):=
 ((kbX [x0,x1]).bind fun v0=>(if (v0 != 0)=true then (some ([],v0)) else ((kes x0 x1 (fun (u0:(Int×Int))=>((kji u0.1 u0.2).bind fun u1=>(some u1)))).bind fun v1=>((kiA v1).bind fun v2=>(if (v2 != 0)=true then (some ([],4)) else (some (v1,0)))))))
def law08_needed:Option (List (Int×Int×Int)):=
 ((kbb 1 1 3).bind fun v0=>((kbb 2 1 2).bind fun v1=>(some [v0,v1])))
def law08_swap:Option (List Swap):=
 (some [(2,1,1,1)])
def kiV (x0:Swap):Option Bool:=
 ((bthO tSwap (some x0) (some x0)).bind fun v0=>((kbO (v0.1,v0.2.1)).bind fun v1=>(if (!v1)=true then (some true) else ((kbO v0.2.2).bind fun v2=>(if (!v2)=true then (some true) else (some ((v0.1==v0.2.2.1)&&(v0.2.1==v0.2.2.2))))))))
def keG (x0:(List Swap)) (x1:(Swap->Option Bool)) (v0:Int):Option (Int⊕(Int⊕Unit)):=
 (if (decide (v0<(lenI x0)))=true then ((gi x0 v0).bind fun v1=>((x1 v1).bind fun v2=>(if v2=true then (some (.inr (.inl v0))) else (some (.inl (w64 (v0+1))))))) else (some (.inr (.inr ()))))
def kbZ (x0:(List Swap)) (x1:(Swap->Option Bool)):Option Int:=
 ((iter (keG x0 x1) 0).bind fun v3=>(match v3 with | .inl v4=>(some v4) | .inr v5=>(some (-1))))
def kbD (x0:(List Swap)) (x1:(Swap->Option Bool)):Option Bool:=
 ((kbZ x0 x1).bind fun v0=>(some (decide (0<=v0))))
def kil (x0:(List Swap)):Option Int:=
 (if (decide (30<(lenI x0)))=true then (some 2) else ((kbD x0 (fun (u0:Swap)=>((kiV u0).bind fun u1=>(some u1)))).bind fun v0=>(if v0=true then (some 2) else (some 0))))
def kfM (x0:(List Swap)) (x1:Swap) (v0:Int):Option (Int⊕(Int⊕Unit)):=
 (if (decide (v0<(lenI x0)))=true then ((gi x0 v0).bind fun v1=>(if ((x1.1==v1.1)&&((x1.2.1==v1.2.1)&&((x1.2.2.1==v1.2.2.1)&&(x1.2.2.2==v1.2.2.2))))=true then (some (.inr (.inl v0))) else (some (.inl (w64 (v0+1)))))) else (some (.inr (.inr ()))))
def kcR (x0:(List Swap)) (x1:Swap):Option Int:=
 ((iter (kfM x0 x1) 0).bind fun v2=>(match v2 with | .inl v3=>(some v3) | .inr v4=>(some (-1))))
def kch (x0:(List Swap)) (x1:Swap):Option Bool:=
 ((kcR x0 x1).bind fun v0=>(some (decide (0<=v0))))
def kqQ (x0:(List Swap)) (x1:(Int×Int)) (x2:(Int×Int)):Option Bool:=
 (if ((x1.1==x2.1)&&(x1.2==x2.2))=true then (some true) else ((kch x0 (x1.1,x1.2,x2)).bind fun v0=>(some v0)))
def kkh (rec_box_flow_short_c1_m0:Int->(List Bool)->(Option Flow)->Option ((List Bool)×(Option Flow))) (v6:Int) (v7:Flow) (v8:(Int×(Option Flow)×(List Bool))):Option ((Int×(Option Flow)×(List Bool))⊕((Option Flow)×(List Bool))):=
 (if (decide (v8.1<(lenI v7.2.2.1)))=true then (v8.2.1.bind fun v9=>((gi v9.2.2.1 v8.1).bind fun v10=>((gi v10 v6).bind fun v11=>(if (decide (0<v11))=true then ((rec_box_flow_short_c1_m0 v8.1 v8.2.2 v8.2.1).bind fun v12=>(some (.inl ((w64 (v8.1+1)),v12.2,v12.1)))) else (some (.inl ((w64 (v8.1+1)),v8.2))))))) else (some (.inr v8.2)))
def kkg (rec_box_flow_short_c1_m0:Int->(List Bool)->(Option Flow)->Option ((List Bool)×(Option Flow))) (v4:(List Int)) (v5:(Int×(Option Flow)×(List Bool))):Option ((Int×(Option Flow)×(List Bool))⊕((Option Flow)×(List Bool))):=
 (if (decide (v5.1<(lenI v4)))=true then ((gi v4 v5.1).bind fun v6=>(v5.2.1.bind fun v7=>((iter (kkh rec_box_flow_short_c1_m0 v6 v7) (0,v5.2)).bind fun v13=>(some (.inl ((w64 (v5.1+1)),v13)))))) else (some (.inr v5.2)))
def kkI (rec_box_flow_short_c1_m0:Int->(List Bool)->(Option Flow)->Option ((List Bool)×(Option Flow))) (x0:Int) (x1:(List Bool)) (x2:(Option Flow)):Option ((List Bool)×(Option Flow)):=
 ((gi x1 x0).bind fun v0=>((gi x1 x0).bind fun v1=>(if v1=true then (some (x1,x2)) else ((gi x1 x0).bind fun v2=>(x2.bind fun v3=>((gi v3.2.1 x0).bind fun v4=>((iter (kkg rec_box_flow_short_c1_m0 v4) (0,x2,(lset x1 x0 true))).bind fun v14=>(some (v14.2,v14.1)))))))))
def kdA:Nat->Int->(List Bool)->(Option Flow)->Option ((List Bool)×(Option Flow))
 | 0,_,_,_=>none
 | k+1,x0,x1,x2=>kkI (kdA k) x0 x1 x2
def khy (x0:Int) (x1:(List Bool)) (x2:(Option Flow)):Option ((List Bool)×(Option Flow)):=kdA 1000000 x0 x1 x2
def knY (x0:(List (Int×Int×Int))) (v3:(Int×(List (Int×Int×Int))×(List Int))):Option ((Int×(List (Int×Int×Int))×(List Int))⊕((List (Int×Int×Int))×(List Int))):=
 (if (decide (v3.1<(lenI x0)))=true then ((gi x0 v3.1).bind fun v4=>((gapp v3.2.2 [v4.2.2]).bind fun v5=>(some (.inl ((w64 (v3.1+1)),v3.2.1,v5))))) else (some (.inr v3.2)))
def knZ (x0:(List (Int×Int×Int))) (x2:(List Swap)) (v8:(Int×Int×Int)) (v9:kaj):Option (kaj⊕(List Int)):=
 (if (decide (v9.1<(lenI x0)))=true then ((gi x0 v9.1).bind fun v10=>((kaZ v8).bind fun v11=>((kaZ v10).bind fun v12=>((kqQ x2 v11 v12).bind fun v13=>(if v13=true then ((gapp v9.2 [v9.1]).bind fun v14=>(some (.inl ((w64 (v9.1+1)),v14)))) else (some (.inl ((w64 (v9.1+1)),v9.2)))))))) else (some (.inr v9.2)))
def kof (x0:(List (Int×Int×Int))) (x1:(List (Int×Int×Int))) (x2:(List Swap)) (v7:(Int×(List (Int×Int×Int))×(List (List Int))×(List (List Int)))):Option ((Int×(List (Int×Int×Int))×(List (List Int))×(List (List Int)))⊕((List (Int×Int×Int))×(List (List Int))×(List (List Int)))):=
 (if (decide (v7.1<(lenI x1)))=true then ((gi x1 v7.1).bind fun v8=>((iter (knZ x0 x2 v8) (0,[])).bind fun v15=>(bthO (.sm (.pr (.i .i64) (.pr (.sl (.pr (.i .i64) (.pr (.i .u8) (.i .i64)))) (.pr (.sl (.sl (.i .i64))) (.sl (.sl (.i .i64)))))) (.pr (.sl (.pr (.i .i64) (.pr (.i .u8) (.i .i64)))) (.pr (.sl (.sl (.i .i64))) (.sl (.sl (.i .i64)))))) ((gapp v7.2.2.1 [v15]).bind fun v16=>((gmk (lenI x0) 0).bind fun v17=>((gapp v7.2.2.2 [v17]).bind fun v18=>(some (.inl ((w64 (v7.1+1)),v7.2.1,v16,v18)))))) (bthO (.sm (.pr (.i .i64) (.pr (.sl (.pr (.i .i64) (.pr (.i .u8) (.i .i64)))) (.pr (.sl (.sl (.i .i64))) (.sl (.sl (.i .i64)))))) (.pr (.sl (.pr (.i .i64) (.pr (.i .u8) (.i .i64)))) (.pr (.sl (.sl (.i .i64))) (.sl (.sl (.i .i64)))))) ((gmk (lenI x0) 0).bind fun v19=>((gapp v7.2.2.1 [v15]).bind fun v20=>((gapp v7.2.2.2 [v19]).bind fun v21=>(some (.inl ((w64 (v7.1+1)),v7.2.1,v20,v21)))))) (bthO (.sm (.pr (.i .i64) (.pr (.sl (.pr (.i .i64) (.pr (.i .u8) (.i .i64)))) (.pr (.sl (.sl (.i .i64))) (.sl (.sl (.i .i64)))))) (.pr (.sl (.pr (.i .i64) (.pr (.i .u8) (.i .i64)))) (.pr (.sl (.sl (.i .i64))) (.sl (.sl (.i .i64)))))) ((gmk (lenI x0) 0).bind fun v22=>((gapp v7.2.2.1 [v15]).bind fun v23=>((gapp v7.2.2.2 [v22]).bind fun v24=>(some (.inl ((w64 (v7.1+1)),v7.2.1,v23,v24)))))) (bthO (.sm (.pr (.i .i64) (.pr (.sl (.pr (.i .i64) (.pr (.i .u8) (.i .i64)))) (.pr (.sl (.sl (.i .i64))) (.sl (.sl (.i .i64)))))) (.pr (.sl (.pr (.i .i64) (.pr (.i .u8) (.i .i64)))) (.pr (.sl (.sl (.i .i64))) (.sl (.sl (.i .i64)))))) ((gmk (lenI x0) 0).bind fun v25=>((gapp v7.2.2.1 [v15]).bind fun v26=>((gapp v7.2.2.2 [v25]).bind fun v27=>(some (.inl ((w64 (v7.1+1)),v7.2.1,v26,v27)))))) (bthO (.sm (.pr (.i .i64) (.pr (.sl (.pr (.i .i64) (.pr (.i .u8) (.i .i64)))) (.pr (.sl (.sl (.i .i64))) (.sl (.sl (.i .i64)))))) (.pr (.sl (.pr (.i .i64) (.pr (.i .u8) (.i .i64)))) (.pr (.sl (.sl (.i .i64))) (.sl (.sl (.i .i64)))))) ((gmk (lenI x0) 0).bind fun v28=>((gapp v7.2.2.1 [v15]).bind fun v29=>((gapp v7.2.2.2 [v28]).bind fun v30=>(some (.inl ((w64 (v7.1+1)),v7.2.1,v29,v30)))))) ((gmk (lenI x0) 0).bind fun v31=>((gapp v7.2.2.1 [v15]).bind fun v32=>((gapp v7.2.2.2 [v31]).bind fun v33=>(some (.inl ((w64 (v7.1+1)),v7.2.1,v32,v33))))))))))))) else (some (.inr v7.2)))
def kig (x0:(List (Int×Int×Int))) (x1:(List (Int×Int×Int))) (x2:(List Swap)):Option Int:=
 ((kbX [x0,x1]).bind fun v0=>((if (v0==0)=true then ((kil x2).bind fun v1=>(some v1)) else (some v0)).bind fun v2=>(if (v2 != 0)=true then (some v2) else ((iter (knY x0) (0,x1,[])).bind fun v6=>((iter (kof x0 x1 x2) (0,v6.1,[],[])).bind fun v34=>none)))))
def knW (x0:(List (Int×Int×Int))) (v3:(Int×(List (Int×Int×Int))×(List Int))):Option ((Int×(List (Int×Int×Int))×(List Int))⊕((List (Int×Int×Int))×(List Int))):=
 (if (decide (v3.1<(lenI x0)))=true then ((gi x0 v3.1).bind fun v4=>((gapp v3.2.2 [v4.2.2]).bind fun v5=>(some (.inl ((w64 (v3.1+1)),v3.2.1,v5))))) else (some (.inr v3.2)))
def koe (x0:(List (Int×Int×Int))) (x2:(List Swap)) (v8:(Int×Int×Int)) (v9:kaj):Option (kaj⊕(List Int)):=
 (if (decide (v9.1<(lenI x0)))=true then ((gi x0 v9.1).bind fun v10=>((kaZ v8).bind fun v11=>((kaZ v10).bind fun v12=>((kqQ x2 v11 v12).bind fun v13=>(if v13=true then ((gapp v9.2 [v9.1]).bind fun v14=>(some (.inl ((w64 (v9.1+1)),v14)))) else (some (.inl ((w64 (v9.1+1)),v9.2)))))))) else (some (.inr v9.2)))
def knR (x0:(List (Int×Int×Int))) (x1:(List (Int×Int×Int))) (x2:(List Swap)) (v7:(Int×(List (Int×Int×Int))×(List (List Int))×(List (List Int)))):Option ((Int×(List (Int×Int×Int))×(List (List Int))×(List (List Int)))⊕((List (Int×Int×Int))×(List (List Int))×(List (List Int)))):=
 (if (decide (v7.1<(lenI x1)))=true then ((gi x1 v7.1).bind fun v8=>((iter (koe x0 x2 v8) (0,[])).bind fun v15=>(bthO (.sm (.pr (.i .i64) (.pr (.sl (.pr (.i .i64) (.pr (.i .u8) (.i .i64)))) (.pr (.sl (.sl (.i .i64))) (.sl (.sl (.i .i64)))))) (.pr (.sl (.pr (.i .i64) (.pr (.i .u8) (.i .i64)))) (.pr (.sl (.sl (.i .i64))) (.sl (.sl (.i .i64)))))) ((gapp v7.2.2.1 [v15]).bind fun v16=>((gmk (lenI x0) 0).bind fun v17=>((gapp v7.2.2.2 [v17]).bind fun v18=>(some (.inl ((w64 (v7.1+1)),v7.2.1,v16,v18)))))) (bthO (.sm (.pr (.i .i64) (.pr (.sl (.pr (.i .i64) (.pr (.i .u8) (.i .i64)))) (.pr (.sl (.sl (.i .i64))) (.sl (.sl (.i .i64)))))) (.pr (.sl (.pr (.i .i64) (.pr (.i .u8) (.i .i64)))) (.pr (.sl (.sl (.i .i64))) (.sl (.sl (.i .i64)))))) ((gmk (lenI x0) 0).bind fun v19=>((gapp v7.2.2.1 [v15]).bind fun v20=>((gapp v7.2.2.2 [v19]).bind fun v21=>(some (.inl ((w64 (v7.1+1)),v7.2.1,v20,v21)))))) (bthO (.sm (.pr (.i .i64) (.pr (.sl (.pr (.i .i64) (.pr (.i .u8) (.i .i64)))) (.pr (.sl (.sl (.i .i64))) (.sl (.sl (.i .i64)))))) (.pr (.sl (.pr (.i .i64) (.pr (.i .u8) (.i .i64)))) (.pr (.sl (.sl (.i .i64))) (.sl (.sl (.i .i64)))))) ((gmk (lenI x0) 0).bind fun v22=>((gapp v7.2.2.1 [v15]).bind fun v23=>((gapp v7.2.2.2 [v22]).bind fun v24=>(some (.inl ((w64 (v7.1+1)),v7.2.1,v23,v24)))))) (bthO (.sm (.pr (.i .i64) (.pr (.sl (.pr (.i .i64) (.pr (.i .u8) (.i .i64)))) (.pr (.sl (.sl (.i .i64))) (.sl (.sl (.i .i64)))))) (.pr (.sl (.pr (.i .i64) (.pr (.i .u8) (.i .i64)))) (.pr (.sl (.sl (.i .i64))) (.sl (.sl (.i .i64)))))) ((gmk (lenI x0) 0).bind fun v25=>((gapp v7.2.2.1 [v15]).bind fun v26=>((gapp v7.2.2.2 [v25]).bind fun v27=>(some (.inl ((w64 (v7.1+1)),v7.2.1,v26,v27)))))) (bthO (.sm (.pr (.i .i64) (.pr (.sl (.pr (.i .i64) (.pr (.i .u8) (.i .i64)))) (.pr (.sl (.sl (.i .i64))) (.sl (.sl (.i .i64)))))) (.pr (.sl (.pr (.i .i64) (.pr (.i .u8) (.i .i64)))) (.pr (.sl (.sl (.i .i64))) (.sl (.sl (.i .i64)))))) ((gmk (lenI x0) 0).bind fun v28=>((gapp v7.2.2.1 [v15]).bind fun v29=>((gapp v7.2.2.2 [v28]).bind fun v30=>(some (.inl ((w64 (v7.1+1)),v7.2.1,v29,v30)))))) ((gmk (lenI x0) 0).bind fun v31=>((gapp v7.2.2.1 [v15]).bind fun v32=>((gapp v7.2.2.2 [v31]).bind fun v33=>(some (.inl ((w64 (v7.1+1)),v7.2.1,v32,v33))))))))))))) else (some (.inr v7.2)))
def kie (x0:(List (Int×Int×Int))) (x1:(List (Int×Int×Int))) (x2:(List Swap)):Option (Int×Flow):=
 ((kbX [x0,x1]).bind fun v0=>((if (v0==0)=true then ((kil x2).bind fun v1=>(some v1)) else (some v0)).bind fun v2=>(if (v2 != 0)=true then none else ((iter (knW x0) (0,x1,[])).bind fun v6=>((iter (knR x0 x1 x2) (0,v6.1,[],[])).bind fun v34=>(some (0,v34.1,v34.2.1,v34.2.2,v6.2)))))))
def klN (x1:(List Bool)) (v1:(Int×(List Bool)×(Option Flow))):Option ((Int×(List Bool)×(Option Flow))⊕(List Bool)):=
 (if (decide (v1.1<(lenI x1)))=true then ((gi x1 v1.1).bind fun v2=>(if v2=true then ((khy v1.1 v1.2.1 v1.2.2).bind fun v3=>(some (.inl ((w64 (v1.1+1)),v3)))) else (some (.inl ((w64 (v1.1+1)),v1.2))))) else (some (.inr v1.2.1)))
def klD (v4:(List Bool)) (v5:kaj):Option (kaj⊕(List Int)):=
 (if (decide (v5.1<(lenI v4)))=true then ((gi v4 v5.1).bind fun v6=>((gi v4 v5.1).bind fun v7=>(if v7=true then ((gapp v5.2 [v5.1]).bind fun v8=>(some (.inl ((w64 (v5.1+1)),v8)))) else (some (.inl ((w64 (v5.1+1)),v5.2)))))) else (some (.inr v5.2)))
def kgc (x0:(Option Flow)) (x1:(List Bool)):Option (List Int):=
 ((gmk (lenI x1) false).bind fun v0=>((iter (klN x1) (0,v0,x0)).bind fun v4=>((iter (klD v4) (0,[])).bind fun v9=>(some v9))))
def kky (rec_box_flow_give_c1_m0:Int->Int->(List (Int×Int×Int))->(List (List Int))->(List (List Int))->(List Int)->(List Bool)->Option (Int×(List (Int×Int×Int))×(List (List Int))×(List (List Int))×(List Int)×(List Bool))) (x0:Int) (x1:Int) (v2:(Int×(List Bool)×Flow)) (v3:Int) (v22:(Int×(List (Int×Int×Int))×(List (List Int))×(List (List Int))×(List Int)×(List Bool))):Option ((Int×(List (Int×Int×Int))×(List (List Int))×(List (List Int))×(List Int)×(List Bool))⊕((Int×(List (Int×Int×Int))×(List (List Int))×(List (List Int))×(List Int)×(List Bool))⊕((List (Int×Int×Int))×(List (List Int))×(List (List Int))×(List Int)×(List Bool)))):=
 (if (decide (v22.1<(lenI v2.2.2.2.2.1)))=true then ((gi v22.2.2.2.1 v22.1).bind fun v23=>((gi v22.2.2.2.1 v22.1).bind fun v24=>((gi v22.2.2.2.1 v22.1).bind fun v25=>((gi v25 v3).bind fun v26=>((gi v22.2.2.2.1 v22.1).bind fun v27=>((gi v27 v3).bind fun v28=>(if (v28==0)=true then (some (.inl ((w64 (v22.1+1)),v22.2))) else ((gi v22.2.2.2.1 v22.1).bind fun v29=>((gi v22.2.2.2.1 v22.1).bind fun v30=>((gi v22.2.2.2.1 v22.1).bind fun v31=>((gi v31 v3).bind fun v32=>((gi v22.2.2.2.1 v22.1).bind fun v33=>((gi v33 v3).bind fun v34=>((rec_box_flow_give_c1_m0 v22.1 (imin x1 v34) v22.2.1 v22.2.2.1 v22.2.2.2.1 v22.2.2.2.2.1 v22.2.2.2.2.2).bind fun v35=>(if (decide (0<v35.1))=true then ((gi v35.2.2.2.1 v22.1).bind fun v36=>((gi v35.2.2.2.1 v22.1).bind fun v37=>((gi v35.2.2.2.1 v22.1).bind fun v38=>((gi v38 v3).bind fun v39=>((gi v35.2.2.2.1 v22.1).bind fun v40=>((gi v40 v3).bind fun v41=>((gi v35.2.2.2.1 v22.1).bind fun v42=>((gi v42 v3).bind fun v43=>((gi v35.2.2.2.1 v22.1).bind fun v44=>((gi v44 v3).bind fun v45=>((gi (lset v35.2.2.2.1 v22.1 (lset v44 v3 (w64 (v41-v35.1)))) x0).bind fun v46=>((gi (lset v35.2.2.2.1 v22.1 (lset v44 v3 (w64 (v41-v35.1)))) x0).bind fun v47=>((gi (lset v35.2.2.2.1 v22.1 (lset v44 v3 (w64 (v41-v35.1)))) x0).bind fun v48=>((gi v48 v3).bind fun v49=>((gi (lset v35.2.2.2.1 v22.1 (lset v44 v3 (w64 (v41-v35.1)))) x0).bind fun v50=>((gi v50 v3).bind fun v51=>((gi (lset v35.2.2.2.1 v22.1 (lset v44 v3 (w64 (v41-v35.1)))) x0).bind fun v52=>((gi v52 v3).bind fun v53=>((gi (lset v35.2.2.2.1 v22.1 (lset v44 v3 (w64 (v41-v35.1)))) x0).bind fun v54=>((gi v54 v3).bind fun v55=>(some (.inr (.inl (v35.1,v35.2.1,v35.2.2.1,(lset (lset v35.2.2.2.1 v22.1 (lset v44 v3 (w64 (v41-v35.1)))) x0 (lset v54 v3 (w64 (v51+v35.1)))),v35.2.2.2.2)))))))))))))))))))))))) else (some (.inl ((w64 (v22.1+1)),v35.2)))))))))))))))))) else (some (.inr (.inr v22.2))))
def kkG (rec_box_flow_give_c1_m0:Int->Int->(List (Int×Int×Int))->(List (List Int))->(List (List Int))->(List Int)->(List Bool)->Option (Int×(List (Int×Int×Int))×(List (List Int))×(List (List Int))×(List Int)×(List Bool))) (x0:Int) (x1:Int) (v1:(List Int)) (v2:(Int×(List Bool)×Flow)):Option ((Int×(List Bool)×Flow)⊕((Int×(List (Int×Int×Int))×(List (List Int))×(List (List Int))×(List Int)×(List Bool))⊕((List Bool)×(List Int)×(List (List Int))×(List (Int×Int×Int))×(List (List Int))))):=
 (if (decide (v2.1<(lenI v1)))=true then ((gi v1 v2.1).bind fun v3=>((gi v2.2.1 v3).bind fun v4=>((gi v2.2.1 v3).bind fun v5=>(if v5=true then (some (.inl ((w64 (v2.1+1)),v2.2))) else ((gi v2.2.1 v3).bind fun v6=>((gi v2.2.2.2.2.2 v3).bind fun v7=>((gi v2.2.2.2.2.2 v3).bind fun v8=>(if (decide (0<(imin x1 v8)))=true then ((gi v2.2.2.2.2.2 v3).bind fun v9=>((gi v2.2.2.2.2.2 v3).bind fun v10=>((gi v2.2.2.2.2.2 v3).bind fun v11=>((gi v2.2.2.2.2.1 x0).bind fun v12=>((gi v2.2.2.2.2.1 x0).bind fun v13=>((gi v2.2.2.2.2.1 x0).bind fun v14=>((gi v14 v3).bind fun v15=>((gi v2.2.2.2.2.1 x0).bind fun v16=>((gi v16 v3).bind fun v17=>((gi v2.2.2.2.2.1 x0).bind fun v18=>((gi v18 v3).bind fun v19=>((gi v2.2.2.2.2.1 x0).bind fun v20=>((gi v20 v3).bind fun v21=>(some (.inr (.inl ((imin x1 v8),v2.2.2.1,v2.2.2.2.1,(lset v2.2.2.2.2.1 x0 (lset v20 v3 (w64 (v17+(imin x1 v8))))),(lset v2.2.2.2.2.2 v3 (w64 (v10-(imin x1 v8)))),(lset v2.2.1 v3 true)))))))))))))))))) else ((iter (kky rec_box_flow_give_c1_m0 x0 x1 v2 v3) (0,v2.2.2.1,v2.2.2.2.1,v2.2.2.2.2.1,v2.2.2.2.2.2,(lset v2.2.1 v3 true))).bind fun v56=>(match v56 with | .inl v57=>(some (.inr (.inl v57))) | .inr v58=>(some (.inl ((w64 (v2.1+1)),v58.2.2.2.2,v58.1,v58.2.1,v58.2.2.1,v58.2.2.2.1))))))))))))) else (some (.inr (.inr (v2.2.1,v2.2.2.2.2.2,v2.2.2.2.2.1,v2.2.2.1,v2.2.2.2.1)))))
def klo (rec_box_flow_give_c1_m0:Int->Int->(List (Int×Int×Int))->(List (List Int))->(List (List Int))->(List Int)->(List Bool)->Option (Int×(List (Int×Int×Int))×(List (List Int))×(List (List Int))×(List Int)×(List Bool))) (x0:Int) (x1:Int) (x2:(List (Int×Int×Int))) (x3:(List (List Int))) (x4:(List (List Int))) (x5:(List Int)) (x6:(List Bool)):Option (Int×(List (Int×Int×Int))×(List (List Int))×(List (List Int))×(List Int)×(List Bool)):=
 ((gi x3 x0).bind fun v0=>((gi x3 x0).bind fun v1=>((iter (kkG rec_box_flow_give_c1_m0 x0 x1 v1) (0,x6,x2,x3,x4,x5)).bind fun v59=>(match v59 with | .inl v60=>(some v60) | .inr v61=>(some (0,v61.2.2.2.1,v61.2.2.2.2,v61.2.2.1,v61.2.1,v61.1))))))
def kdV:Nat->Int->Int->(List (Int×Int×Int))->(List (List Int))->(List (List Int))->(List Int)->(List Bool)->Option (Int×(List (Int×Int×Int))×(List (List Int))×(List (List Int))×(List Int)×(List Bool))
 | 0,_,_,_,_,_,_,_=>none
 | k+1,x0,x1,x2,x3,x4,x5,x6=>klo (kdV k) x0 x1 x2 x3 x4 x5 x6
def khP (x0:Int) (x1:Int) (x2:(List (Int×Int×Int))) (x3:(List (List Int))) (x4:(List (List Int))) (x5:(List Int)) (x6:(List Bool)):Option (Int×(List (Int×Int×Int))×(List (List Int))×(List (List Int))×(List Int)×(List Bool)):=kdV 1000000 x0 x1 x2 x3 x4 x5 x6
def kmx (x0:Int) (x1:Int) (v0:(Int×(List (Int×Int×Int))×(List (List Int))×(List (List Int))×(List Int)×(List Bool))):Option ((Int×(List (Int×Int×Int))×(List (List Int))×(List (List Int))×(List Int)×(List Bool))⊕(Int×Flow)):=
 (if (decide (v0.1<x1))=true then ((gmk (lenI v0.2.2.2.2.1) false).bind fun v1=>((khP x0 (w64 (x1-v0.1)) v0.2.1 v0.2.2.1 v0.2.2.2.1 v0.2.2.2.2.1 v1).bind fun v2=>(if (v2.1==0)=true then (some (.inr (v0.1,v2.2.1,v2.2.2.1,v2.2.2.2.1,v2.2.2.2.2.1))) else (some (.inl ((w64 (v0.1+v2.1)),v2.2)))))) else (some (.inr (v0.1,v0.2.1,v0.2.2.1,v0.2.2.2.1,v0.2.2.2.2.1))))
def kgP (x0:Int) (x1:Int) (x2:(List (Int×Int×Int))) (x3:(List (List Int))) (x4:(List (List Int))) (x5:(List Int)):Option (Int×Flow):=
 ((iter (kmx x0 x1) (0,x2,x3,x4,x5,[])).bind fun v3=>(some v3))
def kuF (x1:(List (Int×Int×Int))) (v2:(Int×Int)):Option ((Int×Int)⊕Int):=
 (if (decide (v2.1<(lenI x1)))=true then ((gi x1 v2.1).bind fun v3=>none) else (some (.inr v2.2)))
def kun (x1:(List (Int×Int×Int))) (v8:(Int×Int×(List (Int×Int×Int))×(List (List Int))×(List (List Int))×(List Int)×(List Bool))):Option ((Int×Int×(List (Int×Int×Int))×(List (List Int))×(List (List Int))×(List Int)×(List Bool))⊕(Int×(List (Int×Int×Int))×(List (List Int))×(List (List Int))×(List Int)×(List Bool))):=
 (if (decide (v8.1<(lenI x1)))=true then ((gi x1 v8.1).bind fun v9=>((kgP v8.1 v9.2.2 v8.2.2.1 v8.2.2.2.1 v8.2.2.2.2.1 v8.2.2.2.2.2.1).bind fun v10=>((gi v8.2.2.2.2.2.2 v8.1).bind fun v11=>(some (.inl ((w64 (v8.1+1)),(w64 (v8.2.1+v10.1)),v10.2.1,v10.2.2.1,v10.2.2.2.1,v10.2.2.2.2,(lset v8.2.2.2.2.2.2 v8.1 (decide (v10.1<v9.2.2))))))))) else (some (.inr v8.2)))
def ktQ (x0:(List (Int×Int×Int))) (x1:(List (Int×Int×Int))) (x2:(List Swap)):Option (kaj×Int):=
 (elsO ((kig x0 x1 x2).bind fun v0=>(if (v0 != 0)=true then (some ((0,[]),v0)) else ((gmk (lenI x1) false).bind fun v1=>((iter (kuF x1) (0,0)).bind fun v4=>((kgc none v1).bind fun v5=>(some ((v4,v5),0))))))) ((kie x0 x1 x2).bind fun v6=>(if (v6.1 != 0)=true then (some ((0,[]),v6.1)) else ((gmk (lenI x1) false).bind fun v7=>((iter (kun x1) (0,0,v6.2.1,v6.2.2.1,v6.2.2.2.1,v6.2.2.2.2,v7)).bind fun v12=>((kgc (some (v12.2.1,v12.2.2.1,v12.2.2.2.1,v12.2.2.2.2.1)) v12.2.2.2.2.2).bind fun v13=>(some ((v12.1,v13),0))))))))
def klP (x0:(Int×Int×Int)):Option Bool:=
 ((kfy 0 10000 x0.2.2).bind fun v0=>(some (!v0)))
def kjx (x0:(List (Int×Int×Int))) (x2:((Int×Int×Int)->Option (Int×Int))) (v0:Int):Option (Int⊕(Bool⊕Unit)):=
 (if (decide (v0<(lenI x0)))=true then ((gi x0 v0).bind fun v1=>((x2 v1).bind fun v2=>((kbO v2).bind fun v3=>(if (!v3)=true then (some (.inr (.inl false))) else (if (decide (0<v0))=true then ((gi x0 (w64 (v0-1))).bind fun v4=>((x2 v4).bind fun v5=>((x2 v1).bind fun v6=>((kfo v5 v6).bind fun v7=>(if (decide (0<=v7))=true then (some (.inr (.inl false))) else (some (.inl (w64 (v0+1))))))))) else (some (.inl (w64 (v0+1))))))))) else (some (.inr (.inr ()))))
def ked (x0:(List (Int×Int×Int))) (x1:Int) (x2:((Int×Int×Int)->Option (Int×Int))):Option Bool:=
 ((iter (kjx x0 x2) 0).bind fun v8=>(match v8 with | .inl v9=>(some v9) | .inr v10=>(some (decide ((lenI x0)<=x1)))))
def kdx (x0:(Int×Int×Int)):Option (Int×Int):=
 (some (x0.1,x0.2.1))
def keg (x0:(List (Int×Int×Int))) (x1:((Int×Int×Int)->Option Bool)) (v0:Int):Option (Int⊕(Int⊕Unit)):=
 (if (decide (v0<(lenI x0)))=true then ((gi x0 v0).bind fun v1=>((x1 v1).bind fun v2=>(if v2=true then (some (.inr (.inl v0))) else (some (.inl (w64 (v0+1))))))) else (some (.inr (.inr ()))))
def kbI (x0:(List (Int×Int×Int))) (x1:((Int×Int×Int)->Option Bool)):Option Int:=
 ((iter (keg x0 x1) 0).bind fun v3=>(match v3 with | .inl v4=>(some v4) | .inr v5=>(some (-1))))
def kaL (x0:(List (Int×Int×Int))) (x1:((Int×Int×Int)->Option Bool)):Option Bool:=
 ((kbI x0 x1).bind fun v0=>(some (decide (0<=v0))))
def klB (x0:Line) (x1:Line):Option Int:=
 (if (!(x0.2.2.2.2==x1.2.2.2.2))=true then (if x1.2.2.2.2=true then (some (-1)) else (some 1)) else (some (w64 (x1.2.1-x0.2.1))))
def kdZ (x0:Int) (x2:((Line×Line)->Option Int)) (v1:(Int×(List Line))):Option ((Int×(List Line))⊕(List Line)):=
 (if (decide (x0<v1.1))=true then ((gi v1.2 v1.1).bind fun v2=>((gi v1.2 v1.1).bind fun v3=>((gi v1.2 (w64 (v1.1-1))).bind fun v4=>((gi v1.2 (w64 (v1.1-1))).bind fun v5=>((x2 (v3,v5)).bind fun v6=>(if (decide (v6<0))=true then ((gi v1.2 (w64 (v1.1-1))).bind fun v7=>((gi v1.2 (w64 (v1.1-1))).bind fun v8=>((gi v1.2 v1.1).bind fun v9=>((gi v1.2 v1.1).bind fun v10=>((gi v1.2 v1.1).bind fun v11=>((gi (lset v1.2 v1.1 v8) (w64 (v1.1-1))).bind fun v12=>(some (.inl ((w64 (v1.1-1)),(lset (lset v1.2 v1.1 v8) (w64 (v1.1-1)) v10)))))))))) else (some (.inr v1.2)))))))) else (some (.inr v1.2)))
def kdY (x0:Int) (x1:Int) (x2:((Line×Line)->Option Int)) (v0:(Int×(List Line))):Option ((Int×(List Line))⊕(List Line)):=
 (if (decide (v0.1<x1))=true then ((iter (kdZ x0 x2) v0).bind fun v13=>(some (.inl ((w64 (v0.1+1)),v13)))) else (some (.inr v0.2)))
def kaO (x0:Int) (x1:Int) (x2:((Line×Line)->Option Int)) (x3:(List Line)):Option (List Line):=
 ((iter (kdY x0 x1 x2) ((w64 (x0+1)),x3)).bind fun v14=>(some v14))
def keS (x0:Int) (x1:Int) (x2:Int) (v0:(Int×(List Line))):Option ((Int×(List Line))⊕(List Line)):=
 (if (decide (v0.1<x2))=true then ((gi v0.2 (w64 (x1+v0.1))).bind fun v1=>((gi v0.2 (w64 (x1+v0.1))).bind fun v2=>((gi v0.2 (w64 (x0+v0.1))).bind fun v3=>((gi v0.2 (w64 (x0+v0.1))).bind fun v4=>((gi v0.2 (w64 (x0+v0.1))).bind fun v5=>((gi (lset v0.2 (w64 (x0+v0.1)) v2) (w64 (x1+v0.1))).bind fun v6=>(some (.inl ((w64 (v0.1+1)),(lset (lset v0.2 (w64 (x0+v0.1)) v2) (w64 (x1+v0.1)) v4)))))))))) else (some (.inr v0.2)))
def kaH (x0:Int) (x1:Int) (x2:Int) (x3:((Line×Line)->Option Int)) (x4:(List Line)):Option (List Line):=
 ((iter (keS x0 x1 x2) (0,x4)).bind fun v7=>(some v7))
def kfS (x1:Int) (x3:((Line×Line)->Option Int)) (v0:(Int×Int×(List Line))):Option ((Int×Int×(List Line))⊕(Int×(List Line))):=
 (if (v0.1 != v0.2.1)=true then (if (decide (v0.2.1<v0.1))=true then ((kaH (w64 (x1-v0.1)) x1 v0.2.1 x3 v0.2.2).bind fun v1=>(some (.inl ((w64 (v0.1-v0.2.1)),v0.2.1,v1)))) else ((kaH (w64 (x1-v0.1)) (w64 ((w64 (x1+v0.2.1))-v0.1)) v0.1 x3 v0.2.2).bind fun v2=>(some (.inl (v0.1,(w64 (v0.2.1-v0.1)),v2))))) else (some (.inr (v0.1,v0.2.2))))
def kcS (x0:Int) (x1:Int) (x2:Int) (x3:((Line×Line)->Option Int)) (x4:(List Line)):Option (List Line):=
 ((iter (kfS x1 x3) ((w64 (x1-x0)),(w64 (x2-x1)),x4)).bind fun v3=>((kaH (w64 (x1-v3.1)) x1 v3.1 x3 v3.2).bind fun v4=>(some v4)))
def kfh (x0:Int) (x3:((Line×Line)->Option Int)) (x4:(List Line)) (v0:(Int×Int)):Option ((Int×Int)⊕Int):=
 (if (decide (v0.1<v0.2))=true then ((gshr .u64 (IntKind.wrap .u64 (w64 (v0.1+v0.2))) 1).bind fun v1=>((gi x4 (w64 v1)).bind fun v2=>((gi x4 (w64 v1)).bind fun v3=>((gi x4 x0).bind fun v4=>((gi x4 x0).bind fun v5=>((x3 (v3,v5)).bind fun v6=>(if (decide (v6<0))=true then (some (.inl ((w64 ((w64 v1)+1)),v0.2))) else (some (.inl (v0.1,(w64 v1))))))))))) else (some (.inr v0.1)))
def kfd (v7:Int) (v8:(Int×(List Line))):Option ((Int×(List Line))⊕(List Line)):=
 (if (decide (v8.1<(w64 (v7-1))))=true then ((gi v8.2 (w64 (v8.1+1))).bind fun v9=>((gi v8.2 (w64 (v8.1+1))).bind fun v10=>((gi v8.2 v8.1).bind fun v11=>((gi v8.2 v8.1).bind fun v12=>((gi v8.2 v8.1).bind fun v13=>((gi (lset v8.2 v8.1 v10) (w64 (v8.1+1))).bind fun v14=>(some (.inl ((w64 (v8.1+1)),(lset (lset v8.2 v8.1 v10) (w64 (v8.1+1)) v12)))))))))) else (some (.inr v8.2)))
def kfc (x1:Int) (x3:((Line×Line)->Option Int)) (x4:(List Line)) (v16:(Int×Int)):Option ((Int×Int)⊕Int):=
 (if (decide (v16.1<v16.2))=true then ((gshr .u64 (IntKind.wrap .u64 (w64 (v16.1+v16.2))) 1).bind fun v17=>((gi x4 x1).bind fun v18=>((gi x4 x1).bind fun v19=>((gi x4 (w64 v17)).bind fun v20=>((gi x4 (w64 v17)).bind fun v21=>((x3 (v19,v21)).bind fun v22=>(if (!(decide (v22<0)))=true then (some (.inl ((w64 ((w64 v17)+1)),v16.2))) else (some (.inl (v16.1,(w64 v17))))))))))) else (some (.inr v16.1)))
def kfa (v23:Int) (v24:(Int×(List Line))):Option ((Int×(List Line))⊕(List Line)):=
 (if (decide (v23<v24.1))=true then ((gi v24.2 (w64 (v24.1-1))).bind fun v25=>((gi v24.2 (w64 (v24.1-1))).bind fun v26=>((gi v24.2 v24.1).bind fun v27=>((gi v24.2 v24.1).bind fun v28=>((gi v24.2 v24.1).bind fun v29=>((gi (lset v24.2 v24.1 v26) (w64 (v24.1-1))).bind fun v30=>(some (.inl ((w64 (v24.1-1)),(lset (lset v24.2 v24.1 v26) (w64 (v24.1-1)) v28)))))))))) else (some (.inr v24.2)))
def keY (x1:Int) (x3:((Line×Line)->Option Int)) (x4:(List Line)) (v32:Int) (v34:(Int×Int)):Option ((Int×Int)⊕Int):=
 (if (decide (v34.1<v34.2))=true then ((gshr .u64 (IntKind.wrap .u64 (w64 (v34.1+v34.2))) 1).bind fun v35=>((gi x4 (w64 ((w64 ((w64 ((w64 v32)+x1))-1))-(w64 v35)))).bind fun v36=>((gi x4 (w64 ((w64 ((w64 ((w64 v32)+x1))-1))-(w64 v35)))).bind fun v37=>((gi x4 (w64 v35)).bind fun v38=>((gi x4 (w64 v35)).bind fun v39=>((x3 (v37,v39)).bind fun v40=>(if (!(decide (v40<0)))=true then (some (.inl ((w64 ((w64 v35)+1)),v34.2))) else (some (.inl (v34.1,(w64 v35))))))))))) else (some (.inr v34.1)))
def kfk (rec_slices_symMergeCmpFunc_box_line_m0:Int->Int->Int->((Line×Line)->Option Int)->(List Line)->Option (List Line)) (x0:Int) (x1:Int) (x2:Int) (x3:((Line×Line)->Option Int)) (x4:(List Line)):Option (List Line):=
 (if ((w64 (x1-x0))==1)=true then ((iter (kfh x0 x3 x4) (x1,x2)).bind fun v7=>((iter (kfd v7) (x0,x4)).bind fun v15=>(some v15))) else (if ((w64 (x2-x1))==1)=true then ((iter (kfc x1 x3 x4) (x0,x1)).bind fun v23=>((iter (kfa v23) (x1,x4)).bind fun v31=>(some v31))) else ((gshr .u64 (IntKind.wrap .u64 (w64 (x0+x2))) 1).bind fun v32=>((if (decide ((w64 v32)<x1))=true then (some ((w64 ((w64 ((w64 v32)+x1))-x2)),(w64 v32))) else (some (x0,x1))).bind fun v33=>((iter (keY x1 x3 x4 v32) v33).bind fun v41=>((if (decide (v41<x1))=true then (some (decide (x1<(w64 ((w64 ((w64 v32)+x1))-v41))))) else (some false)).bind fun v42=>((if v42=true then ((kcS v41 x1 (w64 ((w64 ((w64 v32)+x1))-v41)) x3 x4).bind fun v43=>(some v43)) else (some x4)).bind fun v44=>((if (decide (x0<v41))=true then (some (decide (v41<(w64 v32)))) else (some false)).bind fun v45=>((if v45=true then ((rec_slices_symMergeCmpFunc_box_line_m0 x0 v41 (w64 v32) x3 v44).bind fun v46=>(some v46)) else (some v44)).bind fun v47=>(if (decide ((w64 v32)<(w64 ((w64 ((w64 v32)+x1))-v41))))=true then (if (decide ((w64 ((w64 ((w64 v32)+x1))-v41))<x2))=true then ((rec_slices_symMergeCmpFunc_box_line_m0 (w64 v32) (w64 ((w64 ((w64 v32)+x1))-v41)) x2 x3 v47).bind fun v48=>(some v48)) else (some v47)) else (some v47)))))))))))
def kaW:Nat->Int->Int->Int->((Line×Line)->Option Int)->(List Line)->Option (List Line)
 | 0,_,_,_,_,_=>none
 | k+1,x0,x1,x2,x3,x4=>kfk (kaW k) x0 x1 x2 x3 x4
def kbd (x0:Int) (x1:Int) (x2:Int) (x3:((Line×Line)->Option Int)) (x4:(List Line)):Option (List Line):=kaW 1000000 x0 x1 x2 x3 x4
def kfH (x0:Int) (x1:((Line×Line)->Option Int)) (v0:(Int×Int×(List Line))):Option ((Int×Int×(List Line))⊕(Int×(List Line))):=
 (if (decide (v0.1<=x0))=true then ((kaO v0.2.1 v0.1 x1 v0.2.2).bind fun v1=>(some (.inl ((w64 (v0.1+20)),v0.1,v1)))) else (some (.inr v0.2)))
def kfO (x0:Int) (x1:((Line×Line)->Option Int)) (v4:(Int×(List Line))) (v5:(Int×Int×(List Line))):Option ((Int×Int×(List Line))⊕(Int×(List Line))):=
 (if (decide (v5.1<=x0))=true then ((kbd v5.2.1 (w64 (v5.2.1+v4.1)) v5.1 x1 v5.2.2).bind fun v6=>(some (.inl ((w64 (v5.1+(w64 (2*v4.1)))),v5.1,v6)))) else (some (.inr v5.2)))
def kfF (x0:Int) (x1:((Line×Line)->Option Int)) (v4:(Int×(List Line))):Option ((Int×(List Line))⊕(List Line)):=
 (if (decide (v4.1<x0))=true then ((iter (kfO x0 x1 v4) ((w64 (2*v4.1)),0,v4.2)).bind fun v7=>(if (decide ((w64 (v7.1+v4.1))<x0))=true then ((kbd v7.1 (w64 (v7.1+v4.1)) x0 x1 v7.2).bind fun v8=>(some (.inl ((w64 (v4.1*2)),v8)))) else (some (.inl ((w64 (v4.1*2)),v7.2))))) else (some (.inr v4.2)))
def kcQ (x0:Int) (x1:((Line×Line)->Option Int)) (x2:(List Line)):Option (List Line):=
 ((iter (kfH x0 x1) (20,0,x2)).bind fun v2=>((kaO v2.1 x0 x1 v2.2).bind fun v3=>((iter (kfF x0 x1) (20,v3)).bind fun v9=>(some v9))))
def kaG (x0:((Line×Line)->Option Int)) (x1:(List Line)):Option (List Line):=
 ((kcQ (lenI x1) x0 x1).bind fun v0=>(some v0))
def kfD (x0:(Int×Int)) (x1:(List ((Int×Int)×Int))) (x2:Bool) (x3:Int) (x4:Int) (x5:Int):Option ((List ((Int×Int)×Int))×Bool×Int×Int×Int):=
 (if (mget x1 x0).isSome=true then (if (!x2)=true then (some (x1,true,((mget x1 x0).getD 0),x0)) else (if (decide (((mget x1 x0).getD 0)<x3))=true then (some (x1,true,((mget x1 x0).getD 0),x0)) else (if (((mget x1 x0).getD 0)==x3)=true then ((kfo x0 (x4,x5)).bind fun v0=>(if (decide (v0<0))=true then (some (x1,true,((mget x1 x0).getD 0),x0)) else (some (x1,x2,x3,x4,x5)))) else (some (x1,x2,x3,x4,x5))))) else (some (x1,x2,x3,x4,x5)))
def knu (x0:(List Swap)) (x1:(Int×Int)) (v1:(Int×(List ((Int×Int)×Int))×Bool×Int×Int×Int)):Option ((Int×(List ((Int×Int)×Int))×Bool×Int×Int×Int)⊕(Int×Int×Int×Bool×(List ((Int×Int)×Int)))):=
 (if (decide (v1.1<(lenI x0)))=true then ((gi x0 v1.1).bind fun v2=>(if ((x1.1==v2.1)&&(x1.2==v2.2.1))=true then ((kfD v2.2.2 v1.2.1 v1.2.2.1 v1.2.2.2.1 v1.2.2.2.2.1 v1.2.2.2.2.2).bind fun v3=>(some (.inl ((w64 (v1.1+1)),v3)))) else (some (.inl ((w64 (v1.1+1)),v1.2))))) else (some (.inr (v1.2.2.2.1,v1.2.2.2.2.1,v1.2.2.2.2.2,v1.2.2.1,v1.2.1))))
def khh (x0:(List Swap)) (x1:(Int×Int)) (x2:(List ((Int×Int)×Int))):Option (Int×Int×Int×Bool×(List ((Int×Int)×Int))):=
 ((kfD x1 x2 false 0 0 0).bind fun v0=>((iter (knu x0 x1) (0,v0)).bind fun v4=>(some v4)))
def kvx (x3:(List (Int×Int×Int))) (v3:(Int×(List ((Int×Int)×Int)))):Option ((Int×(List ((Int×Int)×Int)))⊕(List ((Int×Int)×Int))):=
 (if (decide (v3.1<(lenI x3)))=true then ((gi x3 v3.1).bind fun v4=>((kdx v4).bind fun v5=>(some (.inl ((w64 (v3.1+1)),(mput v3.2 v5 v4.2.2)))))) else (some (.inr v3.2)))
def kvK (x1:(List (Int×Int×Int))) (x2:(List Swap)) (v7:(Int×(List ((Int×Int)×Int))×(List Line))):Option ((Int×(List ((Int×Int)×Int))×(List Line))⊕(List Line)):=
 (if (decide (v7.1<(lenI x1)))=true then ((gi x1 v7.1).bind fun v8=>((kaZ v8).bind fun v9=>((khh x2 v9 v7.2.1).bind fun v10=>((gapp v7.2.2 [(v7.1,v10.1,v8.2.2,(v10.2.1,v10.2.2.1),v10.2.2.2.1)]).bind fun v11=>(some (.inl ((w64 (v7.1+1)),v10.2.2.2.2,v11))))))) else (some (.inr v7.2.2)))
def kvS (v13:(List Line)) (v15:Int):Option (Int⊕((Bill×Int)⊕Unit)):=
 (if (decide (v15<(lenI v13)))=true then ((gi v13 v15).bind fun v16=>((gi v13 v15).bind fun v17=>none)) else (some (.inr (.inr ()))))
def kvD (x3:(List (Int×Int×Int))) (v21:(Int×Int×Int×(List (Int×Int×Int)))):Option ((Int×Int×Int×(List (Int×Int×Int)))⊕((Bill×Int)⊕(Int×(List (Int×Int×Int))×Int))):=
 (if (decide (v21.1<(lenI x3)))=true then ((gi x3 v21.1).bind fun v22=>((kdx v22).bind fun v23=>(if (decide (1000<((mget [] v23).getD 0)))=true then (some (.inr (.inl (([],[],0),4)))) else (if (decide (0<((mget [] v23).getD 0)))=true then ((gapp v21.2.2.2 [(v22.1,v22.2.1,((mget [] v23).getD 0))]).bind fun v24=>(some (.inl ((w64 (v21.1+1)),v21.2.1,v21.2.2.1,v24)))) else (some (.inl ((w64 (v21.1+1)),v21.2))))))) else (some (.inr (.inr (v21.2.2.1,v21.2.2.2,v21.2.1)))))
def kvM (x3:(List (Int×Int×Int))) (v31:(Int×(List ((Int×Int)×Int)))):Option ((Int×(List ((Int×Int)×Int)))⊕(List ((Int×Int)×Int))):=
 (if (decide (v31.1<(lenI x3)))=true then ((gi x3 v31.1).bind fun v32=>((kdx v32).bind fun v33=>(some (.inl ((w64 (v31.1+1)),(mput v31.2 v33 v32.2.2)))))) else (some (.inr v31.2)))
def kvA (x1:(List (Int×Int×Int))) (x2:(List Swap)) (v35:(Int×(List ((Int×Int)×Int))×(List Line))):Option ((Int×(List ((Int×Int)×Int))×(List Line))⊕(List Line)):=
 (if (decide (v35.1<(lenI x1)))=true then ((gi x1 v35.1).bind fun v36=>((kaZ v36).bind fun v37=>((khh x2 v37 v35.2.1).bind fun v38=>((gapp v35.2.2 [(v35.1,v38.1,v36.2.2,(v38.2.1,v38.2.2.1),v38.2.2.2.1)]).bind fun v39=>(some (.inl ((w64 (v35.1+1)),v38.2.2.2.2,v39))))))) else (some (.inr v35.2.2)))
def kvY (v41:(List Line)) (v43:(Int×(List (Int×Int×Int))×(List (List Int))×(List (List Int))×(List Int)×Int×(List Int)×Int×(List ((Int×Int)×Int)))):Option ((Int×(List (Int×Int×Int))×(List (List Int))×(List (List Int))×(List Int)×Int×(List Int)×Int×(List ((Int×Int)×Int)))⊕((Bill×Int)⊕((List ((Int×Int)×Int))×Int×kaj))):=
 (if (decide (v43.1<(lenI v41)))=true then ((gi v41 v43.1).bind fun v44=>((gi v41 v43.1).bind fun v45=>((kgP v45.1 v45.2.2.1 v43.2.1 v43.2.2.1 v43.2.2.2.1 v43.2.2.2.2.1).bind fun v46=>((gi v43.2.2.2.2.2.2.1 v45.1).bind fun v47=>((if (decide (v46.1<v45.2.2.1))=true then (some (!v45.2.2.2.2)) else (some false)).bind fun v48=>(if v48=true then (some (.inr (.inl (([],[],0),80)))) else (bthO (.sm (.pr (.i .i64) (.pr (.sl (.pr (.i .i64) (.pr (.i .u8) (.i .i64)))) (.pr (.sl (.sl (.i .i64))) (.pr (.sl (.sl (.i .i64))) (.pr (.sl (.i .i64)) (.pr (.i .i64) (.pr (.sl (.i .i64)) (.pr (.i .i64) (.sl (.pr (.pr (.i .i64) (.i .u8)) (.i .i64))))))))))) (.sm (.pr tBill (.i .i64)) (.pr (.sl (.pr (.pr (.i .i64) (.i .u8)) (.i .i64))) (.pr (.i .i64) kuY)))) ((gi (ment v43.2.2.2.2.2.2.2.2 v45.2.2.2.1 0) (midx v43.2.2.2.2.2.2.2.2 v45.2.2.2.1)).bind fun v49=>(some (.inl ((w64 (v43.1+1)),v46.2.1,v46.2.2.1,v46.2.2.2.1,v46.2.2.2.2,(w64 (v43.2.2.2.2.2.1+(w64 ((w64 (v45.2.2.1-v46.1))*v45.2.1)))),(lset v43.2.2.2.2.2.2.1 v45.1 v46.1),v43.2.2.2.2.2.2.2.1,(mset (ment v43.2.2.2.2.2.2.2.2 v45.2.2.2.1 0) (midx v43.2.2.2.2.2.2.2.2 v45.2.2.2.1) (w64 (((mget v43.2.2.2.2.2.2.2.2 v45.2.2.2.1).getD 0)+(w64 (v45.2.2.1-v46.1))))))))) ((gi (ment v43.2.2.2.2.2.2.2.2 v45.2.2.2.1 0) (midx v43.2.2.2.2.2.2.2.2 v45.2.2.2.1)).bind fun v50=>(some (.inl ((w64 (v43.1+1)),v46.2.1,v46.2.2.1,v46.2.2.2.1,v46.2.2.2.2,(w64 (v43.2.2.2.2.2.1+(w64 ((w64 (v45.2.2.1-v46.1))*v45.2.1)))),(lset v43.2.2.2.2.2.2.1 v45.1 v46.1),v43.2.2.2.2.2.2.2.1,(mset (ment v43.2.2.2.2.2.2.2.2 v45.2.2.2.1 0) (midx v43.2.2.2.2.2.2.2.2 v45.2.2.2.1) (w64 (((mget (ment v43.2.2.2.2.2.2.2.2 v45.2.2.2.1 0) v45.2.2.2.1).getD 0)+(w64 (v45.2.2.1-v46.1)))))))))))))))) else (some (.inr (.inr (v43.2.2.2.2.2.2.2.2,v43.2.2.2.2.2.2.2.1,v43.2.2.2.2.2.1,v43.2.2.2.2.2.2.1)))))
def kvF (x3:(List (Int×Int×Int))) (v53:((List ((Int×Int)×Int))×Int×kaj)) (v54:(Int×Int×Int×(List (Int×Int×Int)))):Option ((Int×Int×Int×(List (Int×Int×Int)))⊕((Bill×Int)⊕(Int×(List (Int×Int×Int))×Int))):=
 (if (decide (v54.1<(lenI x3)))=true then ((gi x3 v54.1).bind fun v55=>((kdx v55).bind fun v56=>(if (decide (1000<((mget v53.1 v56).getD 0)))=true then (some (.inr (.inl (([],[],0),4)))) else (if (decide (0<((mget v53.1 v56).getD 0)))=true then ((gapp v54.2.2.2 [(v55.1,v55.2.1,((mget v53.1 v56).getD 0))]).bind fun v57=>(some (.inl ((w64 (v54.1+1)),v54.2.1,v54.2.2.1,v57)))) else (some (.inl ((w64 (v54.1+1)),v54.2))))))) else (some (.inr (.inr (v54.2.2.1,v54.2.2.2,v54.2.1)))))
def kuP (x0:(List (Int×Int×Int))) (x1:(List (Int×Int×Int))) (x2:(List Swap)) (x3:(List (Int×Int×Int))):Option (Bill×Int):=
 (elsO ((kig x0 x1 x2).bind fun v0=>(if (v0 != 0)=true then (some (([],[],0),v0)) else ((ked x3 60 (fun (u0:(Int×Int×Int))=>((kdx u0).bind fun u1=>(some u1)))).bind fun v1=>(if (!v1)=true then (some (([],[],0),2)) else ((kaL x3 (fun (u0:(Int×Int×Int))=>((klP u0).bind fun u1=>(some u1)))).bind fun v2=>(if v2=true then (some (([],[],0),2)) else ((iter (kvx x3) (0,[])).bind fun v6=>((iter (kvK x1 x2) (0,v6,[])).bind fun v12=>((kaG (fun (u0:(Line×Line))=>((klB u0.1 u0.2).bind fun u1=>(some u1))) v12).bind fun v13=>((gmk (lenI x1) 0).bind fun v14=>((iter (kvS v13) 0).bind fun v18=>(match v18 with | .inl v19=>(some v19) | .inr v20=>((iter (kvD x3) (0,0,0,[])).bind fun v25=>(match v25 with | .inl v26=>(some v26) | .inr v27=>(some ((v14,v27.2.1,v27.1),0)))))))))))))))) ((kie x0 x1 x2).bind fun v28=>(if (v28.1 != 0)=true then (some (([],[],0),v28.1)) else ((ked x3 60 (fun (u0:(Int×Int×Int))=>((kdx u0).bind fun u1=>(some u1)))).bind fun v29=>(if (!v29)=true then (some (([],[],0),2)) else ((kaL x3 (fun (u0:(Int×Int×Int))=>((klP u0).bind fun u1=>(some u1)))).bind fun v30=>(if v30=true then (some (([],[],0),2)) else ((iter (kvM x3) (0,[])).bind fun v34=>((iter (kvA x1 x2) (0,v34,[])).bind fun v40=>((kaG (fun (u0:(Line×Line))=>((klB u0.1 u0.2).bind fun u1=>(some u1))) v40).bind fun v41=>((gmk (lenI x1) 0).bind fun v42=>((iter (kvY v41) (0,v28.2.1,v28.2.2.1,v28.2.2.2.1,v28.2.2.2.2,0,v42,0,[])).bind fun v51=>(match v51 with | .inl v52=>(some v52) | .inr v53=>((iter (kvF x3 v53) (0,v53.2.1,v53.2.2.1,[])).bind fun v58=>(match v58 with | .inl v59=>(some v59) | .inr v60=>(some ((v53.2.2.2,v60.2.1,v60.1),0)))))))))))))))))
def law08_plans:Option (List (List (Int×Int×Int))):=
 ((kbb 1 1 2).bind fun v0=>((kbb 1 1 1).bind fun v1=>((kbb 1 1 3).bind fun v2=>(some [[v0],[v1],[v2]]))))
def kkW (x0:Int):Option Bool:=
 ((kfy 0 1000 x0).bind fun v0=>(some (!v0)))
def khN (x0:(List Int)) (x1:(Int->Option Bool)) (v0:Int):Option (Int⊕(Int⊕Unit)):=
 (if (decide (v0<(lenI x0)))=true then ((gi x0 v0).bind fun v1=>((x1 v1).bind fun v2=>(if v2=true then (some (.inr (.inl v0))) else (some (.inl (w64 (v0+1))))))) else (some (.inr (.inr ()))))
def kcn (x0:(List Int)) (x1:(Int->Option Bool)):Option Int:=
 ((iter (khN x0 x1) 0).bind fun v3=>(match v3 with | .inl v4=>(some v4) | .inr v5=>(some (-1))))
def kdJ (x0:(List Int)) (x1:(Int->Option Bool)):Option Bool:=
 ((kcn x0 x1).bind fun v0=>(some (decide (0<=v0))))
def koC (x0:(List (List (Int×Int×Int)))) (x1:(List Int)):Option Int:=
 ((kbX x0).bind fun v0=>(if (v0 != 0)=true then (some v0) else (if (decide (8<(lenI x0)))=true then (some 4) else (if ((lenI x1) != (lenI x0))=true then (some 2) else ((kdJ x1 (fun (u0:Int)=>((kkW u0).bind fun u1=>(some u1)))).bind fun v1=>(if v1=true then (some 2) else (some 0)))))))
def kir (x0:Int) (x1:Int):Option Int:=
 (some (w64 (x0-x1)))
def kkH (x0:(Int×Int×Int)):Option Bool:=
 (some (decide (x0.2.2<0)))
def kbT (x0:(List (Int×Int×Int))) (x1:(List (Int×Int×Int))):Option ((List (Int×Int×Int))×Int):=
 ((kbX [x0,x1]).bind fun v0=>(if (v0 != 0)=true then (some ([],v0)) else ((kes x0 x1 (fun (u0:(Int×Int))=>((kir u0.1 u0.2).bind fun u1=>(some u1)))).bind fun v1=>((kaq v1 (fun (u0:(Int×Int×Int))=>((kkH u0).bind fun u1=>(some u1)))).bind fun v2=>(if v2=true then (some ([],6)) else (some (v1,0)))))))
def kar (x0:(List (Int×Int×Int))):Option (List (Int×Int×Int)):=
 (if (isE x0)=true then (bthO (.sl (.pr (.i .i64) (.pr (.i .u8) (.i .i64)))) (some []) ((gapp [] x0).bind fun v0=>(some v0))) else ((gapp [] x0).bind fun v1=>(some v1)))
def kbS:Nat->List (List (Int×Int×Int))->Int->Int->List (Int×Int×Int)->Option (List (Int×List (Int×Int×Int)))
 | 0,_,_,_,_=>none
 | d+1,ps,i,s,l=>
  if i=lenI ps then some [(s,l)] else
   (gi ps i).bind fun p=>(kbT l p).bind fun r=>
    if r.2=0 then (gshl .i64 1 i).bind fun b=>(kbS d ps (w64 (i+1)) (bitsI .or .i64 s b) r.1).bind fun x=>(kbS d ps (w64 (i+1)) s l).bind fun y=>some (x++y)
    else kbS d ps (w64 (i+1)) s l
def khz (_:Option (List (Int×List (Int×Int×Int)))) (x0:List (List (Int×Int×Int))) (x1:List (Int×Int×Int)):Option (List (Int×List (Int×Int×Int))):=
 (kar x1).bind fun l=>kbS (x0.length+1) x0 0 0 l
def kmZ (x0:(List (Int×Int×Int))) (x1:(List (List (Int×Int×Int)))):Option ((List (List (Int×Int×Int)))×(List (Int×Int×Int))):=
 (some (x1,x0))
def krc (x0:Int) (x1:(List Int)) (v0:(Int×kaj)):Option ((Int×kaj)⊕kaj):=
 (if (decide (v0.1<(lenI x1)))=true then ((gi x1 v0.1).bind fun v1=>((gshr .i64 x0 v0.1).bind fun v2=>(if ((bitsI .and .i64 v2 1)==1)=true then ((gapp v0.2.2 [v0.1]).bind fun v3=>(some (.inl ((w64 (v0.1+1)),(w64 (v0.2.1+v1)),v3)))) else (some (.inl ((w64 (v0.1+1)),v0.2)))))) else (some (.inr v0.2)))
def kon (x0:Int) (x1:(List Int)):Option ((List Int)×Int):=
 ((iter (krc x0 x1) (0,0,[])).bind fun v4=>(some (v4.2,v4.1)))
def kiE (x0:(List Int)) (x1:(List Int)) (v0:Int):Option (Int⊕(Int⊕Unit)):=
 (if (decide (v0<(lenI x0)))=true then ((gi x0 v0).bind fun v1=>(if (decide ((lenI x1)<=v0))=true then (some (.inr (.inl 1))) else ((gi x1 v0).bind fun v2=>((kcf v1 v2).bind fun v3=>(if (v3 != 0)=true then (some (.inr (.inl v3))) else (some (.inl (w64 (v0+1))))))))) else (some (.inr (.inr ()))))
def kfz (x0:(List Int)) (x1:(List Int)):Option Int:=
 ((iter (kiE x0 x1) 0).bind fun v4=>(match v4 with | .inl v5=>(some v5) | .inr v6=>(if (decide ((lenI x0)<(lenI x1)))=true then (some (-1)) else (some 0))))
def ksa (x2:(List Int)) (v4:(List (Int×(List (Int×Int×Int))))) (v5:(Int×kng)):Option ((Int×kng)⊕((kng×Int)⊕kng)):=
 (if (decide (v5.1<(lenI v4)))=true then ((gi v4 v5.1).bind fun v6=>((kon v6.1 x2).bind fun v7=>(if (decide (v5.2.2.1<v7.2))=true then ((kar v6.2).bind fun v8=>(some (.inl ((v5.1+1),v7.1,v7.2,v8)))) else (if (v7.2==v5.2.2.1)=true then ((kcf (lenI v7.1) (lenI v5.2.1)).bind fun v9=>((kfz v7.1 v5.2.1).bind fun v10=>((khF [v9,v10]).bind fun v11=>(if (decide (v11<0))=true then ((kar v6.2).bind fun v12=>(some (.inl ((v5.1+1),v7.1,v7.2,v12)))) else (some (.inl ((v5.1+1),v5.2))))))) else (some (.inl ((v5.1+1),v5.2))))))) else (some (.inr (.inr v5.2))))
def kpJ (x0:(List (Int×Int×Int))) (x1:(List (List (Int×Int×Int)))) (x2:(List Int)):Option (kng×Int):=
 ((kbX [x0]).bind fun v0=>((if (v0==0)=true then ((koC x1 x2).bind fun v1=>(some v1)) else (some v0)).bind fun v2=>(if (v2 != 0)=true then (some (([],0,[]),v2)) else ((kmZ x0 x1).bind fun v3=>((runI fun o=>(khz o v3.1 v3.2)).bind fun v4=>((iter (ksa x2 v4) (0,[],(-1),[])).bind fun v13=>(match v13 with | .inl v14=>(some v14) | .inr v15=>(some (v15,0)))))))))
def kgL (o:Option (List Int)) (x0:(List Int)) (v0:kaj):Option (kaj⊕((List Int)⊕(List Int))):=
 (if (decide (v0.1<(lenI x0)))=true then ((gi x0 v0.1).bind fun v1=>((gpre (.i .i64) o v0.2 v1).bind fun v2=>(some (.inl ((w64 (v0.1+1)),v2))))) else (some (.inr (.inr v0.2))))
def kdL (o:Option (List Int)) (x0:(List Int)):Option (List Int):=
 ((iter (kgL o x0) (0,[])).bind fun v3=>(match v3 with | .inl v4=>(some v4) | .inr v5=>(some v5)))
def keD (x0:(List Int)):Option (List Int):=
 (some x0)
def kqf (x0:Int):Option Int:=
 ((if (decide (65536<=x0))=true then ((gshr .u32 x0 16).bind fun v0=>(some (v0,16))) else (some (x0,0))).bind fun v1=>(if (decide (256<=v1.1))=true then ((gshr .u32 v1.1 8).bind fun v2=>((gstr [0,1,2,2,3,3,3,3,4,4,4,4,4,4,4,4,5,5,5,5,5,5,5,5,5,5,5,5,5,5,5,5,6,6,6,6,6,6,6,6,6,6,6,6,6,6,6,6,6,6,6,6,6,6,6,6,6,6,6,6,6,6,6,6,7,7,7,7,7,7,7,7,7,7,7,7,7,7,7,7,7,7,7,7,7,7,7,7,7,7,7,7,7,7,7,7,7,7,7,7,7,7,7,7,7,7,7,7,7,7,7,7,7,7,7,7,7,7,7,7,7,7,7,7,7,7,7,7,8,8,8,8,8,8,8,8,8,8,8,8,8,8,8,8,8,8,8,8,8,8,8,8,8,8,8,8,8,8,8,8,8,8,8,8,8,8,8,8,8,8,8,8,8,8,8,8,8,8,8,8,8,8,8,8,8,8,8,8,8,8,8,8,8,8,8,8,8,8,8,8,8,8,8,8,8,8,8,8,8,8,8,8,8,8,8,8,8,8,8,8,8,8,8,8,8,8,8,8,8,8,8,8,8,8,8,8,8,8,8,8,8,8,8,8,8,8,8,8,8,8,8,8,8,8,8,8] (IntKind.wrap .u8 v2)).bind fun v3=>(some (w64 ((w64 (v1.2+8))+(w64 v3)))))) else ((gstr [0,1,2,2,3,3,3,3,4,4,4,4,4,4,4,4,5,5,5,5,5,5,5,5,5,5,5,5,5,5,5,5,6,6,6,6,6,6,6,6,6,6,6,6,6,6,6,6,6,6,6,6,6,6,6,6,6,6,6,6,6,6,6,6,7,7,7,7,7,7,7,7,7,7,7,7,7,7,7,7,7,7,7,7,7,7,7,7,7,7,7,7,7,7,7,7,7,7,7,7,7,7,7,7,7,7,7,7,7,7,7,7,7,7,7,7,7,7,7,7,7,7,7,7,7,7,7,7,8,8,8,8,8,8,8,8,8,8,8,8,8,8,8,8,8,8,8,8,8,8,8,8,8,8,8,8,8,8,8,8,8,8,8,8,8,8,8,8,8,8,8,8,8,8,8,8,8,8,8,8,8,8,8,8,8,8,8,8,8,8,8,8,8,8,8,8,8,8,8,8,8,8,8,8,8,8,8,8,8,8,8,8,8,8,8,8,8,8,8,8,8,8,8,8,8,8,8,8,8,8,8,8,8,8,8,8,8,8,8,8,8,8,8,8,8,8,8,8,8,8,8,8,8,8,8,8] (IntKind.wrap .u8 v1.1)).bind fun v4=>(some (w64 (v1.2+(w64 v4)))))))
def kko (x0:Int):Option Int:=
 ((if (decide (4294967296<=x0))=true then ((gshr .u64 x0 32).bind fun v0=>(some (v0,32))) else (some (x0,0))).bind fun v1=>((if (decide (65536<=v1.1))=true then ((gshr .u64 v1.1 16).bind fun v2=>(some (v2,(w64 (v1.2+16))))) else (some v1)).bind fun v3=>(if (decide (256<=v3.1))=true then ((gshr .u64 v3.1 8).bind fun v4=>((gstr [0,1,2,2,3,3,3,3,4,4,4,4,4,4,4,4,5,5,5,5,5,5,5,5,5,5,5,5,5,5,5,5,6,6,6,6,6,6,6,6,6,6,6,6,6,6,6,6,6,6,6,6,6,6,6,6,6,6,6,6,6,6,6,6,7,7,7,7,7,7,7,7,7,7,7,7,7,7,7,7,7,7,7,7,7,7,7,7,7,7,7,7,7,7,7,7,7,7,7,7,7,7,7,7,7,7,7,7,7,7,7,7,7,7,7,7,7,7,7,7,7,7,7,7,7,7,7,7,8,8,8,8,8,8,8,8,8,8,8,8,8,8,8,8,8,8,8,8,8,8,8,8,8,8,8,8,8,8,8,8,8,8,8,8,8,8,8,8,8,8,8,8,8,8,8,8,8,8,8,8,8,8,8,8,8,8,8,8,8,8,8,8,8,8,8,8,8,8,8,8,8,8,8,8,8,8,8,8,8,8,8,8,8,8,8,8,8,8,8,8,8,8,8,8,8,8,8,8,8,8,8,8,8,8,8,8,8,8,8,8,8,8,8,8,8,8,8,8,8,8,8,8,8,8,8,8] (IntKind.wrap .u8 v4)).bind fun v5=>(some (w64 ((w64 (v3.2+8))+(w64 v5)))))) else ((gstr [0,1,2,2,3,3,3,3,4,4,4,4,4,4,4,4,5,5,5,5,5,5,5,5,5,5,5,5,5,5,5,5,6,6,6,6,6,6,6,6,6,6,6,6,6,6,6,6,6,6,6,6,6,6,6,6,6,6,6,6,6,6,6,6,7,7,7,7,7,7,7,7,7,7,7,7,7,7,7,7,7,7,7,7,7,7,7,7,7,7,7,7,7,7,7,7,7,7,7,7,7,7,7,7,7,7,7,7,7,7,7,7,7,7,7,7,7,7,7,7,7,7,7,7,7,7,7,7,8,8,8,8,8,8,8,8,8,8,8,8,8,8,8,8,8,8,8,8,8,8,8,8,8,8,8,8,8,8,8,8,8,8,8,8,8,8,8,8,8,8,8,8,8,8,8,8,8,8,8,8,8,8,8,8,8,8,8,8,8,8,8,8,8,8,8,8,8,8,8,8,8,8,8,8,8,8,8,8,8,8,8,8,8,8,8,8,8,8,8,8,8,8,8,8,8,8,8,8,8,8,8,8,8,8,8,8,8,8,8,8,8,8,8,8,8,8,8,8,8,8,8,8,8,8,8,8] (IntKind.wrap .u8 v3.1)).bind fun v6=>(some (w64 (v3.2+(w64 v6))))))))
def kiT (x0:Int):Option Int:=
 ((kko x0).bind fun v0=>(some v0))
def kaC (x0:Int) (x1:Int):Option Bool:=
 ((kdf x0).bind fun v0=>(if v0=true then ((kdf x1).bind fun v1=>(if (!v1)=true then (some true) else (some (decide (x0<x1))))) else (some (decide (x0<x1)))))
def kgY (x0:Int):Option Int:=
 ((kiT (IntKind.wrap .u64 x0)).bind fun v0=>((gshl .u64 1 v0).bind fun v1=>(some v1)))
def kfV (x0:Int):Option (Int×Int):=
 ((gshl .u64 x0 13).bind fun v0=>((gshr .u64 (bitsI .xor .u64 x0 v0) 7).bind fun v1=>((gshl .u64 (bitsI .xor .u64 (bitsI .xor .u64 x0 v0) v1) 17).bind fun v2=>(some ((bitsI .xor .u64 (bitsI .xor .u64 (bitsI .xor .u64 x0 v0) v1) v2),(bitsI .xor .u64 (bitsI .xor .u64 (bitsI .xor .u64 x0 v0) v1) v2))))))
def kbj (x0:(List Int)) (x1:Int) (x2:Int) (x3:Int):Option (Int×Int×Int):=
 ((gi x0 x2).bind fun v0=>((gi x0 x1).bind fun v1=>((kaC v0 v1).bind fun v2=>(if v2=true then (some (x2,x1,(w64 (x3+1)))) else (some (x1,x2,x3))))))
def kcb (x0:(List Int)) (x1:Int) (x2:Int) (x3:Int) (x4:Int):Option (Int×Int):=
 ((kbj x0 x1 x2 x4).bind fun v0=>((kbj x0 v0.2.1 x3 v0.2.2).bind fun v1=>((kbj x0 v0.1 v1.1 v1.2.2).bind fun v2=>(some v2.2))))
def kaI (x0:(List Int)) (x1:Int) (x2:Int):Option (Int×Int):=
 ((kcb x0 (w64 (x1-1)) x1 (w64 (x1+1)) x2).bind fun v0=>(some v0))
def kdK (x0:(List Int)) (x1:Int) (x2:Int):Option (Int×Int):=
 ((gquo .i64 (w64 (x2-x1)) 4).bind fun v0=>((gquo .i64 (w64 (x2-x1)) 4).bind fun v1=>((gquo .i64 (w64 (x2-x1)) 4).bind fun v2=>((if (decide (8<=(w64 (x2-x1))))=true then ((if (decide (50<=(w64 (x2-x1))))=true then ((kaI x0 (w64 (x1+(w64 (v0*1)))) 0).bind fun v3=>((kaI x0 (w64 (x1+(w64 (v1*2)))) v3.2).bind fun v4=>((kaI x0 (w64 (x1+(w64 (v2*3)))) v4.2).bind fun v5=>(some (v3.1,v4.1,v5))))) else (some ((w64 (x1+(w64 (v0*1)))),(w64 (x1+(w64 (v1*2)))),(w64 (x1+(w64 (v2*3)))),0))).bind fun v6=>((kcb x0 v6.1 v6.2.1 v6.2.2.1 v6.2.2.2).bind fun v7=>(some v7))) else (some ((w64 (x1+(w64 (v1*2)))),0))).bind fun v8=>(if (v8.2==0)=true then (some (v8.1,1)) else (if (v8.2==12)=true then (some (v8.1,2)) else (some (v8.1,0))))))))
def kgF (v0:(List Int)) (v1:kaj):Option (kaj⊕((List Int)⊕(List Int))):=
 (if (decide (v1.1<(lenI v0)))=true then ((gi v0 v1.1).bind fun v2=>((gapp v1.2 [v2]).bind fun v3=>(some (.inl ((v1.1+1),v3))))) else (some (.inr (.inr v1.2))))
def kdG (x0:(List Int)) (x1:(List Int)):Option (List Int):=
 ((runI fun o=>(kdL o x1)).bind fun v0=>((iter (kgF v0) (0,x0)).bind fun v4=>(match v4 with | .inl v5=>(some v5) | .inr v6=>(some v6))))
def kha (x0:(List Int)):Option (List Int):=
 ((kdG [] x0).bind fun v0=>(some v0))
def kfb (x0:Int) (v1:kaj):Option (kaj⊕(List Int)):=
 (if (decide (x0<v1.1))=true then ((gi v1.2 v1.1).bind fun v2=>((gi v1.2 v1.1).bind fun v3=>((gi v1.2 (w64 (v1.1-1))).bind fun v4=>((gi v1.2 (w64 (v1.1-1))).bind fun v5=>((kaC v3 v5).bind fun v6=>(if v6=true then ((gi v1.2 (w64 (v1.1-1))).bind fun v7=>((gi v1.2 (w64 (v1.1-1))).bind fun v8=>((gi v1.2 v1.1).bind fun v9=>((gi v1.2 v1.1).bind fun v10=>((gi v1.2 v1.1).bind fun v11=>((gi (lset v1.2 v1.1 v8) (w64 (v1.1-1))).bind fun v12=>(some (.inl ((w64 (v1.1-1)),(lset (lset v1.2 v1.1 v8) (w64 (v1.1-1)) v10)))))))))) else (some (.inr v1.2)))))))) else (some (.inr v1.2)))
def kff (x0:Int) (x1:Int) (v0:kaj):Option (kaj⊕(List Int)):=
 (if (decide (v0.1<x1))=true then ((iter (kfb x0) v0).bind fun v13=>(some (.inl ((w64 (v0.1+1)),v13)))) else (some (.inr v0.2)))
def kct (x0:Int) (x1:Int) (x2:(List Int)):Option (List Int):=
 ((iter (kff x0 x1) ((w64 (x0+1)),x2)).bind fun v14=>(some v14))
def kgI (x1:Int) (x2:Int) (v0:kaj):Option (kaj⊕((List Int)⊕(List Int))):=
 (if (decide (x1<=(w64 ((w64 (2*v0.1))+1))))=true then (some (.inr (.inr v0.2))) else ((if (decide ((w64 ((w64 ((w64 (2*v0.1))+1))+1))<x1))=true then ((gi v0.2 (w64 (x2+(w64 ((w64 (2*v0.1))+1))))).bind fun v1=>((gi v0.2 (w64 (x2+(w64 ((w64 (2*v0.1))+1))))).bind fun v2=>((gi v0.2 (w64 ((w64 (x2+(w64 ((w64 (2*v0.1))+1))))+1))).bind fun v3=>((gi v0.2 (w64 ((w64 (x2+(w64 ((w64 (2*v0.1))+1))))+1))).bind fun v4=>((kaC v2 v4).bind fun v5=>(some v5)))))) else (some false)).bind fun v6=>((if v6=true then (some (w64 ((w64 ((w64 (2*v0.1))+1))+1))) else (some (w64 ((w64 (2*v0.1))+1)))).bind fun v7=>((gi v0.2 (w64 (x2+v0.1))).bind fun v8=>((gi v0.2 (w64 (x2+v0.1))).bind fun v9=>((gi v0.2 (w64 (x2+v7))).bind fun v10=>((gi v0.2 (w64 (x2+v7))).bind fun v11=>((kaC v9 v11).bind fun v12=>(if (!v12)=true then (some (.inr (.inl v0.2))) else ((gi v0.2 (w64 (x2+v7))).bind fun v13=>((gi v0.2 (w64 (x2+v7))).bind fun v14=>((gi v0.2 (w64 (x2+v0.1))).bind fun v15=>((gi v0.2 (w64 (x2+v0.1))).bind fun v16=>((gi v0.2 (w64 (x2+v0.1))).bind fun v17=>((gi (lset v0.2 (w64 (x2+v0.1)) v14) (w64 (x2+v7))).bind fun v18=>(some (.inl (v7,(lset (lset v0.2 (w64 (x2+v0.1)) v14) (w64 (x2+v7)) v16)))))))))))))))))))
def kbG (x0:Int) (x1:Int) (x2:Int) (x3:(List Int)):Option (List Int):=
 ((iter (kgI x1 x2) (x0,x3)).bind fun v19=>(match v19 with | .inl v20=>(some v20) | .inr v21=>(some v21)))
def kgG (x0:Int) (x1:Int) (v1:kaj):Option (kaj⊕(List Int)):=
 (if (decide (0<=v1.1))=true then ((kbG v1.1 (w64 (x1-x0)) x0 v1.2).bind fun v2=>(some (.inl ((w64 (v1.1-1)),v2)))) else (some (.inr v1.2)))
def kgR (x0:Int) (v4:kaj):Option (kaj⊕(List Int)):=
 (if (decide (0<=v4.1))=true then ((gi v4.2 (w64 (x0+v4.1))).bind fun v5=>((gi v4.2 (w64 (x0+v4.1))).bind fun v6=>((gi v4.2 x0).bind fun v7=>((gi v4.2 x0).bind fun v8=>((gi v4.2 x0).bind fun v9=>((gi (lset v4.2 x0 v6) (w64 (x0+v4.1))).bind fun v10=>((kbG 0 v4.1 x0 (lset (lset v4.2 x0 v6) (w64 (x0+v4.1)) v8)).bind fun v11=>(some (.inl ((w64 (v4.1-1)),v11)))))))))) else (some (.inr v4.2)))
def kdH (x0:Int) (x1:Int) (x2:(List Int)):Option (List Int):=
 ((gquo .i64 (w64 ((w64 (x1-x0))-1)) 2).bind fun v0=>((iter (kgG x0 x1) (v0,x2)).bind fun v3=>((iter (kgR x0) ((w64 ((w64 (x1-x0))-1)),v3)).bind fun v12=>(some v12))))
def kfj (x0:Int) (x1:Int) (v0:Int) (v2:(Int×Int×(List Int))):Option ((Int×Int×(List Int))⊕(List Int)):=
 ((gquo .i64 (w64 (x1-x0)) 4).bind fun v3=>(if (decide (v2.1<=(w64 ((w64 (x0+(w64 (v3*2))))+1))))=true then ((kfV v2.2.1).bind fun v4=>((if (decide ((w64 (x1-x0))<=(w64 (bitsI .and .u64 v4.1 (IntKind.wrap .u64 (v0-1))))))=true then (some (w64 ((w64 (bitsI .and .u64 v4.1 (IntKind.wrap .u64 (v0-1))))-(w64 (x1-x0))))) else (some (w64 (bitsI .and .u64 v4.1 (IntKind.wrap .u64 (v0-1)))))).bind fun v5=>((gi v2.2.2 (w64 (x0+v5))).bind fun v6=>((gi v2.2.2 (w64 (x0+v5))).bind fun v7=>((gi v2.2.2 v2.1).bind fun v8=>((gi v2.2.2 v2.1).bind fun v9=>((gi v2.2.2 v2.1).bind fun v10=>((gi (lset v2.2.2 v2.1 v7) (w64 (x0+v5))).bind fun v11=>(some (.inl ((w64 (v2.1+1)),v4.2,(lset (lset v2.2.2 v2.1 v7) (w64 (x0+v5)) v9)))))))))))) else (some (.inr v2.2.2))))
def kcu (x0:Int) (x1:Int) (x2:(List Int)):Option (List Int):=
 (if (decide (8<=(w64 (x1-x0))))=true then ((kgY (w64 (x1-x0))).bind fun v0=>((gquo .i64 (w64 (x1-x0)) 4).bind fun v1=>((iter (kfj x0 x1 v0) ((w64 ((w64 (x0+(w64 (v1*2))))-1)),(IntKind.wrap .u64 (w64 (x1-x0))),x2)).bind fun v12=>(some v12)))) else (some x2))
def kfn (v0:(Int×kaj)):Option ((Int×kaj)⊕(List Int)):=
 (if (decide (v0.1<v0.2.1))=true then ((gi v0.2.2 v0.2.1).bind fun v1=>((gi v0.2.2 v0.2.1).bind fun v2=>((gi v0.2.2 v0.1).bind fun v3=>((gi v0.2.2 v0.1).bind fun v4=>((gi v0.2.2 v0.1).bind fun v5=>((gi (lset v0.2.2 v0.1 v2) v0.2.1).bind fun v6=>(some (.inl ((w64 (v0.1+1)),(w64 (v0.2.1-1)),(lset (lset v0.2.2 v0.1 v2) v0.2.1 v4)))))))))) else (some (.inr v0.2.2)))
def kcC (x0:Int) (x1:Int) (x2:(List Int)):Option (List Int):=
 ((iter (kfn) (x0,(w64 (x1-1)),x2)).bind fun v7=>(some v7))
def kdD (x1:Int) (v0:(Int×kaj)) (v1:Int):Option (Int⊕Int):=
 (if (decide (v1<x1))=true then ((gi v0.2.2 v1).bind fun v2=>((gi v0.2.2 v1).bind fun v3=>((gi v0.2.2 (w64 (v1-1))).bind fun v4=>((gi v0.2.2 (w64 (v1-1))).bind fun v5=>((kaC v3 v5).bind fun v6=>(if (!v6)=true then (some (.inl (w64 (v1+1)))) else (some (.inr v1)))))))) else (some (.inr v1)))
def kdz (v14:kaj):Option (kaj⊕(List Int)):=
 (if (decide (1<=v14.1))=true then ((gi v14.2 v14.1).bind fun v15=>((gi v14.2 v14.1).bind fun v16=>((gi v14.2 (w64 (v14.1-1))).bind fun v17=>((gi v14.2 (w64 (v14.1-1))).bind fun v18=>((kaC v16 v18).bind fun v19=>(if (!v19)=true then (some (.inr v14.2)) else ((gi v14.2 (w64 (v14.1-1))).bind fun v20=>((gi v14.2 (w64 (v14.1-1))).bind fun v21=>((gi v14.2 v14.1).bind fun v22=>((gi v14.2 v14.1).bind fun v23=>((gi v14.2 v14.1).bind fun v24=>((gi (lset v14.2 v14.1 v21) (w64 (v14.1-1))).bind fun v25=>(some (.inl ((w64 (v14.1-1)),(lset (lset v14.2 v14.1 v21) (w64 (v14.1-1)) v23)))))))))))))))) else (some (.inr v14.2)))
def kdF (x1:Int) (v28:kaj):Option (kaj⊕(List Int)):=
 (if (decide (v28.1<x1))=true then ((gi v28.2 v28.1).bind fun v29=>((gi v28.2 v28.1).bind fun v30=>((gi v28.2 (w64 (v28.1-1))).bind fun v31=>((gi v28.2 (w64 (v28.1-1))).bind fun v32=>((kaC v30 v32).bind fun v33=>(if (!v33)=true then (some (.inr v28.2)) else ((gi v28.2 (w64 (v28.1-1))).bind fun v34=>((gi v28.2 (w64 (v28.1-1))).bind fun v35=>((gi v28.2 v28.1).bind fun v36=>((gi v28.2 v28.1).bind fun v37=>((gi v28.2 v28.1).bind fun v38=>((gi (lset v28.2 v28.1 v35) (w64 (v28.1-1))).bind fun v39=>(some (.inl ((w64 (v28.1+1)),(lset (lset v28.2 v28.1 v35) (w64 (v28.1-1)) v37)))))))))))))))) else (some (.inr v28.2)))
def kdE (x0:Int) (x1:Int) (v0:(Int×kaj)):Option ((Int×kaj)⊕((Bool×(List Int))⊕(List Int))):=
 (if (decide (v0.1<5))=true then ((iter (kdD x1 v0) v0.2.1).bind fun v7=>(if (v7==x1)=true then (some (.inr (.inl (true,v0.2.2)))) else (if (decide ((w64 (x1-x0))<50))=true then (some (.inr (.inl (false,v0.2.2)))) else ((gi v0.2.2 (w64 (v7-1))).bind fun v8=>((gi v0.2.2 (w64 (v7-1))).bind fun v9=>((gi v0.2.2 v7).bind fun v10=>((gi v0.2.2 v7).bind fun v11=>((gi v0.2.2 v7).bind fun v12=>((gi (lset v0.2.2 v7 v9) (w64 (v7-1))).bind fun v13=>((if (decide (2<=(w64 (v7-x0))))=true then ((iter (kdz) ((w64 (v7-1)),(lset (lset v0.2.2 v7 v9) (w64 (v7-1)) v11))).bind fun v26=>(some v26)) else (some (lset (lset v0.2.2 v7 v9) (w64 (v7-1)) v11))).bind fun v27=>(if (decide (2<=(w64 (x1-v7))))=true then ((iter (kdF x1) ((w64 (v7+1)),v27)).bind fun v40=>(some (.inl ((w64 (v0.1+1)),v7,v40)))) else (some (.inl ((w64 (v0.1+1)),v7,v27)))))))))))))) else (some (.inr (.inr v0.2.2))))
def kbz (x0:Int) (x1:Int) (x2:(List Int)):Option (Bool×(List Int)):=
 ((iter (kdE x0 x1) (0,(w64 (x0+1)),x2)).bind fun v41=>(match v41 with | .inl v42=>(some v42) | .inr v43=>(some (false,v43))))
def keU (x0:Int) (v6:(Int×kaj)) (v7:Int):Option (Int⊕Int):=
 (if (decide (v7<=v6.2.1))=true then ((gi v6.2.2 x0).bind fun v8=>((gi v6.2.2 x0).bind fun v9=>((gi v6.2.2 v7).bind fun v10=>((gi v6.2.2 v7).bind fun v11=>((kaC v9 v11).bind fun v12=>(if (!v12)=true then (some (.inl (w64 (v7+1)))) else (some (.inr v7)))))))) else (some (.inr v7)))
def keR (x0:Int) (v6:(Int×kaj)) (v13:Int) (v14:Int):Option (Int⊕Int):=
 (if (decide (v13<=v14))=true then ((gi v6.2.2 x0).bind fun v15=>((gi v6.2.2 x0).bind fun v16=>((gi v6.2.2 v14).bind fun v17=>((gi v6.2.2 v14).bind fun v18=>((kaC v16 v18).bind fun v19=>(if v19=true then (some (.inl (w64 (v14-1)))) else (some (.inr v14)))))))) else (some (.inr v14)))
def keP (x0:Int) (v6:(Int×kaj)):Option ((Int×kaj)⊕kaj):=
 ((iter (keU x0 v6) v6.1).bind fun v13=>((iter (keR x0 v6 v13) v6.2.1).bind fun v20=>(if (decide (v20<v13))=true then (some (.inr (v13,v6.2.2))) else ((gi v6.2.2 v20).bind fun v21=>((gi v6.2.2 v20).bind fun v22=>((gi v6.2.2 v13).bind fun v23=>((gi v6.2.2 v13).bind fun v24=>((gi v6.2.2 v13).bind fun v25=>((gi (lset v6.2.2 v13 v22) v20).bind fun v26=>(some (.inl ((w64 (v13+1)),(w64 (v20-1)),(lset (lset v6.2.2 v13 v22) v20 v24)))))))))))))
def kcj (x0:Int) (x1:Int) (x2:Int) (x3:(List Int)):Option kaj:=
 ((gi x3 x2).bind fun v0=>((gi x3 x2).bind fun v1=>((gi x3 x0).bind fun v2=>((gi x3 x0).bind fun v3=>((gi x3 x0).bind fun v4=>((gi (lset x3 x0 v1) x2).bind fun v5=>((iter (keP x0) ((w64 (x0+1)),(w64 (x1-1)),(lset (lset x3 x0 v1) x2 v3))).bind fun v27=>(some v27))))))))
def kgv (x0:Int) (x1:Int) (x2:Int) (x3:(List Int)) (v1:Int) (v3:Int) (v6:Int):Option (Int⊕Int):=
 (if (decide (v6<=(w64 (x1-1))))=true then ((gi (lset (lset x3 x0 v1) x2 v3) v6).bind fun v7=>((gi (lset (lset x3 x0 v1) x2 v3) v6).bind fun v8=>((gi (lset (lset x3 x0 v1) x2 v3) x0).bind fun v9=>((gi (lset (lset x3 x0 v1) x2 v3) x0).bind fun v10=>((kaC v8 v10).bind fun v11=>(if v11=true then (some (.inl (w64 (v6+1)))) else (some (.inr v6)))))))) else (some (.inr v6)))
def kgr (x0:Int) (x2:Int) (x3:(List Int)) (v1:Int) (v3:Int) (v12:Int) (v13:Int):Option (Int⊕Int):=
 (if (decide (v12<=v13))=true then ((gi (lset (lset x3 x0 v1) x2 v3) v13).bind fun v14=>((gi (lset (lset x3 x0 v1) x2 v3) v13).bind fun v15=>((gi (lset (lset x3 x0 v1) x2 v3) x0).bind fun v16=>((gi (lset (lset x3 x0 v1) x2 v3) x0).bind fun v17=>((kaC v15 v17).bind fun v18=>(if (!v18)=true then (some (.inl (w64 (v13-1)))) else (some (.inr v13)))))))) else (some (.inr v13)))
def kgp (x0:Int) (v32:(Int×kaj)) (v33:Int):Option (Int⊕Int):=
 (if (decide (v33<=v32.2.1))=true then ((gi v32.2.2 v33).bind fun v34=>((gi v32.2.2 v33).bind fun v35=>((gi v32.2.2 x0).bind fun v36=>((gi v32.2.2 x0).bind fun v37=>((kaC v35 v37).bind fun v38=>(if v38=true then (some (.inl (w64 (v33+1)))) else (some (.inr v33)))))))) else (some (.inr v33)))
def kgh (x0:Int) (v32:(Int×kaj)) (v39:Int) (v40:Int):Option (Int⊕Int):=
 (if (decide (v39<=v40))=true then ((gi v32.2.2 v40).bind fun v41=>((gi v32.2.2 v40).bind fun v42=>((gi v32.2.2 x0).bind fun v43=>((gi v32.2.2 x0).bind fun v44=>((kaC v42 v44).bind fun v45=>(if (!v45)=true then (some (.inl (w64 (v40-1)))) else (some (.inr v40)))))))) else (some (.inr v40)))
def kgw (x0:Int) (v32:(Int×kaj)):Option ((Int×kaj)⊕kaj):=
 ((iter (kgp x0 v32) v32.1).bind fun v39=>((iter (kgh x0 v32 v39) v32.2.1).bind fun v46=>(if (decide (v46<v39))=true then (some (.inr (v46,v32.2.2))) else ((gi v32.2.2 v46).bind fun v47=>((gi v32.2.2 v46).bind fun v48=>((gi v32.2.2 v39).bind fun v49=>((gi v32.2.2 v39).bind fun v50=>((gi v32.2.2 v39).bind fun v51=>((gi (lset v32.2.2 v39 v48) v46).bind fun v52=>(some (.inl ((w64 (v39+1)),(w64 (v46-1)),(lset (lset v32.2.2 v39 v48) v46 v50)))))))))))))
def kdu (x0:Int) (x1:Int) (x2:Int) (x3:(List Int)):Option (Int×Bool×(List Int)):=
 ((gi x3 x2).bind fun v0=>((gi x3 x2).bind fun v1=>((gi x3 x0).bind fun v2=>((gi x3 x0).bind fun v3=>((gi x3 x0).bind fun v4=>((gi (lset x3 x0 v1) x2).bind fun v5=>((iter (kgv x0 x1 x2 x3 v1 v3) (w64 (x0+1))).bind fun v12=>((iter (kgr x0 x2 x3 v1 v3 v12) (w64 (x1-1))).bind fun v19=>(if (decide (v19<v12))=true then ((gi (lset (lset x3 x0 v1) x2 v3) x0).bind fun v20=>((gi (lset (lset x3 x0 v1) x2 v3) x0).bind fun v21=>((gi (lset (lset x3 x0 v1) x2 v3) v19).bind fun v22=>((gi (lset (lset x3 x0 v1) x2 v3) v19).bind fun v23=>((gi (lset (lset x3 x0 v1) x2 v3) v19).bind fun v24=>((gi (lset (lset (lset x3 x0 v1) x2 v3) v19 v21) x0).bind fun v25=>(some (v19,true,(lset (lset (lset (lset x3 x0 v1) x2 v3) v19 v21) x0 v23))))))))) else ((gi (lset (lset x3 x0 v1) x2 v3) v19).bind fun v26=>((gi (lset (lset x3 x0 v1) x2 v3) v19).bind fun v27=>((gi (lset (lset x3 x0 v1) x2 v3) v12).bind fun v28=>((gi (lset (lset x3 x0 v1) x2 v3) v12).bind fun v29=>((gi (lset (lset x3 x0 v1) x2 v3) v12).bind fun v30=>((gi (lset (lset (lset x3 x0 v1) x2 v3) v12 v27) v19).bind fun v31=>((iter (kgw x0) ((w64 (v12+1)),(w64 (v19-1)),(lset (lset (lset (lset x3 x0 v1) x2 v3) v12 v27) v19 v29))).bind fun v53=>((gi v53.2 x0).bind fun v54=>((gi v53.2 x0).bind fun v55=>((gi v53.2 v53.1).bind fun v56=>((gi v53.2 v53.1).bind fun v57=>((gi v53.2 v53.1).bind fun v58=>((gi (lset v53.2 v53.1 v55) x0).bind fun v59=>(some (v53.1,false,(lset (lset v53.2 v53.1 v55) x0 v57)))))))))))))))))))))))))
def khc (rec_slices_pdqsortOrdered_int_m0:Int->Int->Int->(List Int)->Option (List Int)) (v0:(Int×Int×Int×Bool×Bool×(List Int))):Option ((Int×Int×Int×Bool×Bool×(List Int))⊕((List Int)⊕(List Int))):=
 (if (decide ((w64 (v0.1-v0.2.1))<=12))=true then ((kct v0.2.1 v0.1 v0.2.2.2.2.2).bind fun v1=>(some (.inr (.inl v1)))) else (if (v0.2.2.1==0)=true then ((kdH v0.2.1 v0.1 v0.2.2.2.2.2).bind fun v2=>(some (.inr (.inl v2)))) else ((if (!v0.2.2.2.1)=true then ((kcu v0.2.1 v0.1 v0.2.2.2.2.2).bind fun v3=>(some ((w64 (v0.2.2.1-1)),v3))) else (some (v0.2.2.1,v0.2.2.2.2.2))).bind fun v4=>((kdK v4.2 v0.2.1 v0.1).bind fun v5=>((if (v5.2==2)=true then ((kcC v0.2.1 v0.1 v4.2).bind fun v6=>(some (1,(w64 ((w64 (v0.1-1))-(w64 (v5.1-v0.2.1)))),v6))) else (some (v5.2,v5.1,v4.2))).bind fun v7=>((if v0.2.2.2.1=true then (if v0.2.2.2.2.1=true then (some (v7.1==1)) else (some false)) else (some false)).bind fun v8=>(((if v8=true then ((kbz v0.2.1 v0.1 v7.2.2).bind fun v9=>(if v9.1=true then (some (.inl v9.2)) else (some (.inr v9.2)))) else (some (.inr v7.2.2))):Option ((List Int)⊕(List Int))).bind fun v10=>(match v10 with | .inl v11=>(some (.inr (.inl v11))) | .inr v12=>((if (decide (0<v0.2.1))=true then ((gi v12 (w64 (v0.2.1-1))).bind fun v13=>((gi v12 (w64 (v0.2.1-1))).bind fun v14=>((gi v12 v7.2.1).bind fun v15=>((gi v12 v7.2.1).bind fun v16=>((kaC v14 v16).bind fun v17=>(some (!v17))))))) else (some false)).bind fun v18=>(if v18=true then ((kcj v0.2.1 v0.1 v7.2.1 v12).bind fun v19=>(some (.inl (v0.1,v19.1,v4.1,v0.2.2.2.1,v0.2.2.2.2.1,v19.2)))) else ((kdu v0.2.1 v0.1 v7.2.1 v12).bind fun v20=>((gquo .i64 (w64 (v0.1-v0.2.1)) 8).bind fun v21=>(if (decide ((w64 (v20.1-v0.2.1))<(w64 (v0.1-v20.1))))=true then ((rec_slices_pdqsortOrdered_int_m0 v0.2.1 v20.1 v4.1 v20.2.2).bind fun v22=>(some (.inl (v0.1,(w64 (v20.1+1)),v4.1,(decide (v21<=(w64 (v20.1-v0.2.1)))),v20.2.1,v22)))) else ((rec_slices_pdqsortOrdered_int_m0 (w64 (v20.1+1)) v0.1 v4.1 v20.2.2).bind fun v23=>(some (.inl (v20.1,v0.2.1,v4.1,(decide (v21<=(w64 (v0.1-v20.1)))),v20.2.1,v23)))))))))))))))))
def khH (rec_slices_pdqsortOrdered_int_m0:Int->Int->Int->(List Int)->Option (List Int)) (x0:Int) (x1:Int) (x2:Int) (x3:(List Int)):Option (List Int):=
 ((iter (khc rec_slices_pdqsortOrdered_int_m0) (x1,x0,x2,true,true,x3)).bind fun v24=>(match v24 with | .inl v25=>(some v25) | .inr v26=>(some v26)))
def kbB:Nat->Int->Int->Int->(List Int)->Option (List Int)
 | 0,_,_,_,_=>none
 | k+1,x0,x1,x2,x3=>khH (kbB k) x0 x1 x2 x3
def kdW (x0:Int) (x1:Int) (x2:Int) (x3:(List Int)):Option (List Int):=kbB 1000000 x0 x1 x2 x3
def kfv (x0:(List Int)):Option (List Int):=
 ((kiT (IntKind.wrap .u64 (lenI x0))).bind fun v0=>((kdW 0 (lenI x0) v0 x0).bind fun v1=>(some v1)))
def khK (x0:(List Int)):Option (List Int):=
 ((kha x0).bind fun v0=>((kfv v0).bind fun v1=>(some v1)))
def kuJ (v1:(List Int)) (v2:Int):Option (Int⊕(Bool⊕Unit)):=
 (if (decide (v2<(lenI v1)))=true then ((gi v1 v2).bind fun v3=>((gi v1 v2).bind fun v4=>(if (v4 != v2)=true then (some (.inr (.inl false))) else (some (.inl (w64 (v2+1))))))) else (some (.inr (.inr ()))))
def ktj (x0:(List Int)) (x1:Int):Option Bool:=
 ((keD x0).bind fun v0=>((khK v0).bind fun v1=>((iter (kuJ v1) 0).bind fun v5=>(match v5 with | .inl v6=>(some v6) | .inr v7=>(some ((lenI x0)==x1))))))
def kkY (x0:(List Int)) (x1:Int):Option Bool:=
 ((ktj x0 x1).bind fun v0=>(some (!v0)))
def kgk (x0:(List (List Int))) (x1:((List Int)->Option Bool)) (v0:Int):Option (Int⊕(Int⊕Unit)):=
 (if (decide (v0<(lenI x0)))=true then ((gi x0 v0).bind fun v1=>((x1 v1).bind fun v2=>(if v2=true then (some (.inr (.inl v0))) else (some (.inl (w64 (v0+1))))))) else (some (.inr (.inr ()))))
def kdp (x0:(List (List Int))) (x1:((List Int)->Option Bool)):Option Int:=
 ((iter (kgk x0 x1) 0).bind fun v3=>(match v3 with | .inl v4=>(some v4) | .inr v5=>(some (-1))))
def kcD (x0:(List (List Int))) (x1:((List Int)->Option Bool)):Option Bool:=
 ((kdp x0 x1).bind fun v0=>(some (decide (0<=v0))))
def kow (x0:(List (List Int))):Option Bool:=
 ((kfy 1 8 (lenI x0)).bind fun v0=>(if v0=true then ((kcD x0 (fun (u0:(List Int))=>((kkY u0 (lenI x0)).bind fun u1=>(some u1)))).bind fun v1=>(some (!v1))) else (some false)))
def kpQ (x0:Int) (x1:Int):Option (Int×Int):=
 ((gshr .u64 (IntKind.wrap .u64 ((IntKind.wrap .u64 x0)*(IntKind.wrap .u64 x1))) 32).bind fun v0=>(some ((IntKind.wrap .u32 v0),(IntKind.wrap .u32 (IntKind.wrap .u64 ((IntKind.wrap .u64 x0)*(IntKind.wrap .u64 x1)))))))
def kkp (x0:Int) (x1:Int):Option (Int×Int):=
 ((gshr .u64 x0 32).bind fun v0=>((gshr .u64 x1 32).bind fun v1=>((gshr .u64 (IntKind.wrap .u64 ((bitsI .and .u64 x0 4294967295)*(bitsI .and .u64 x1 4294967295))) 32).bind fun v2=>((gshr .u64 (IntKind.wrap .u64 ((IntKind.wrap .u64 (v0*(bitsI .and .u64 x1 4294967295)))+v2)) 32).bind fun v3=>((gshr .u64 (IntKind.wrap .u64 ((bitsI .and .u64 (IntKind.wrap .u64 ((IntKind.wrap .u64 (v0*(bitsI .and .u64 x1 4294967295)))+v2)) 4294967295)+(IntKind.wrap .u64 ((bitsI .and .u64 x0 4294967295)*v1)))) 32).bind fun v4=>(some ((IntKind.wrap .u64 ((IntKind.wrap .u64 ((IntKind.wrap .u64 (v0*v1))+v3))+v4)),(IntKind.wrap .u64 (x0*x1)))))))))
def kmq (x0:Int) (x1:Int):Option (Int×Int):=
 ((kkp x0 x1).bind fun v0=>(some v0))
def kkt (x0:Int) (x1:(List Int)):Option Bool:=
 ((gi x1 x0).bind fun v0=>(some (decide (v0<0))))
def kfC (x0:Int) (x1:(List (List Int))) (x2:(List Int)):Option Int:=
 ((gi x1 x0).bind fun v0=>((kcn v0 (fun (u0:Int)=>((kkt u0 x2).bind fun u1=>(some u1)))).bind fun v1=>((gi x1 x0).bind fun v2=>((gi v2 v1).bind fun v3=>(some v3)))))
def khM (v5:kaj):Option (kaj⊕(List Int)):=
 (if (decide (v5.1<(lenI v5.2)))=true then ((gsl v5.2 v5.1 (lenI v5.2)).bind fun v6=>((gsl v5.2 0 v5.1).bind fun v7=>(some (.inl ((w64 (v5.1+(imin (lenI ((List.drop (Int.toNat 0) v5.2).take (Int.toNat (v5.1-0)))) ((lenI v5.2)-v5.1)))),(kys v5.2 (v5.1,((lenI v5.2)-v5.1)) ((List.drop (Int.toNat 0) v5.2).take (Int.toNat (v5.1-0))))))))) else (some (.inr v5.2)))
def keC (x0:(List Int)) (x1:Int):Option (List Int):=
 ((if (decide (x1<0))=true then none else (some ())).bind fun v0=>((kmq (IntKind.wrap .u64 (lenI x0)) (IntKind.wrap .u64 x1)).bind fun v1=>((if (decide (0<v1.1))=true then (some true) else (some (decide (9223372036854775807<v1.2)))).bind fun v2=>((if v2=true then none else (some ())).bind fun v3=>((gmk (w64 v1.2) 0).bind fun v4=>((iter (khM) ((imin (lenI x0) (lenI v4)),(lcopy v4 0 (lenI v4) x0))).bind fun v8=>(some v8)))))))
def kud (x0:(List (List Int))) (v3:(List Int)) (v6:(Int×Int)):Option ((Int×Int)⊕Int):=
 (if (decide (v6.1<(lenI x0)))=true then ((kfC v6.2 x0 v3).bind fun v7=>(some (.inl ((w64 (v6.1+1)),v7)))) else (some (.inr v6.2)))
def ktH (x0:(List (List Int))) (v3:(List Int)) (v8:Int) (v10:kaj):Option (kaj⊕(List Int)):=
 (if (v10.1 != v8)=true then ((gapp v10.2 [v10.1]).bind fun v11=>((kfC v10.1 x0 v3).bind fun v12=>(some (.inl (v12,v11))))) else (some (.inr v10.2)))
def ksM (x0:(List (List Int))) (v3:(List Int)) (v13:(List Int)) (v14:kaj):Option (kaj⊕(List Int)):=
 (if (decide (v14.1<(lenI v13)))=true then ((gi v13 v14.1).bind fun v15=>((gi v13 v14.1).bind fun v16=>((kfC v16 x0 v3).bind fun v17=>((gapp v14.2 [v17]).bind fun v18=>(some (.inl ((w64 (v14.1+1)),v18))))))) else (some (.inr v14.2)))
def ksF (v13:(List Int)) (v19:(List Int)) (v20:kaj):Option (kaj⊕(List Int)):=
 (if (decide (v20.1<(lenI v13)))=true then ((gi v13 v20.1).bind fun v21=>((gi v13 v20.1).bind fun v22=>((gi v19 v20.1).bind fun v23=>((gi v19 v20.1).bind fun v24=>((gi v20.2 v22).bind fun v25=>(some (.inl ((w64 (v20.1+1)),(lset v20.2 v22 v24))))))))) else (some (.inr v20.2)))
def ksB (x0:(List (List Int))) (v2:kaj) (v3:(List Int)):Option ((List Int)⊕(List Int)):=
 ((gi v3 v2.1).bind fun v4=>((gi v3 v2.1).bind fun v5=>(if (decide (v5<0))=true then ((iter (kud x0 v3) (0,v2.1)).bind fun v8=>((kfC v8 x0 v3).bind fun v9=>((iter (ktH x0 v3 v8) (v9,[v8])).bind fun v13=>((iter (ksM x0 v3 v13) (0,[])).bind fun v19=>((iter (ksF v13 v19) (0,v3)).bind fun v26=>(some (.inl v26))))))) else (some (.inr v3)))))
def ktz (x0:(List (List Int))) (v2:kaj):Option (kaj⊕(List Int)):=
 (if (decide (v2.1<(lenI x0)))=true then ((iter (ksB x0 v2) v2.2).bind fun v27=>(some (.inl ((w64 (v2.1+1)),v27)))) else (some (.inr v2.2)))
def krM (x0:(List (List Int))):Option ((List Int)×Int):=
 ((kow x0).bind fun v0=>(if (!v0)=true then (some ([],2)) else ((keC [(-1)] (lenI x0)).bind fun v1=>((iter (ktz x0) (0,v1)).bind fun v28=>(some (v28,0))))))
def kdn (x0:(List (Int×Int×Int))) (x1:(List (Int×Int×Int))) (v0:Int):Option (Int⊕(Bool⊕Unit)):=
 (if (decide (v0<(lenI x0)))=true then ((gi x0 v0).bind fun v1=>((gi x1 v0).bind fun v2=>(if (!((v1.1==v2.1)&&((v1.2.1==v2.2.1)&&(v1.2.2==v2.2.2))))=true then (some (.inr (.inl false))) else (some (.inl (w64 (v0+1))))))) else (some (.inr (.inr ()))))
def kbg (x0:(List (Int×Int×Int))) (x1:(List (Int×Int×Int))):Option Bool:=
 (if ((lenI x0) != (lenI x1))=true then (some false) else ((iter (kdn x0 x1) 0).bind fun v3=>(match v3 with | .inl v4=>(some v4) | .inr v5=>(some true))))
def koi (x0:(List Int)) (x1:(List Int)) (v0:Int):Option (Int⊕(Bool⊕Unit)):=
 (if (decide (v0<(lenI x0)))=true then ((gi x0 v0).bind fun v1=>((gi x1 v0).bind fun v2=>(if (v1 != v2)=true then (some (.inr (.inl false))) else (some (.inl (w64 (v0+1))))))) else (some (.inr (.inr ()))))
def kec (x0:(List Int)) (x1:(List Int)):Option Bool:=
 (if ((lenI x0) != (lenI x1))=true then (some false) else ((iter (koi x0 x1) 0).bind fun v3=>(match v3 with | .inl v4=>(some v4) | .inr v5=>(some true))))
def knw:Option Bool:=
 ((kbb 1 1 4).bind fun v0=>((kbb 1 3 2).bind fun v1=>((kbb 4 0 1).bind fun v2=>((kbb 1 3 3).bind fun v3=>((kbP [v1,v2] [v3]).bind fun v4=>(law08_needed.bind fun v5=>(law08_swap.bind fun v6=>((ktQ [v0] v5 v6).bind fun v7=>(law08_needed.bind fun v8=>(law08_swap.bind fun v9=>((kuP [v0] v8 v9 [(1,1,5),(2,1,3)]).bind fun v10=>((kbb 1 1 3).bind fun v11=>(law08_plans.bind fun v12=>((kpJ [v11] v12 [5,4,9]).bind fun v13=>((krM [[1,0,2],[0,1,2],[0,1,2]]).bind fun v14=>(if (v4.2 != 0)=true then (some false) else ((kbb 1 3 5).bind fun v15=>((kbb 4 0 1).bind fun v16=>((kbg v4.1 [v15,v16]).bind fun v17=>(if (!v17)=true then (some false) else (if (v7.2 != 0)=true then (some false) else (if (v7.1.1 != 4)=true then (some false) else ((kec v7.1.2 [0,1]).bind fun v18=>(if (!v18)=true then (some false) else (if (v10.2 != 0)=true then (some false) else ((kec v10.1.1 [3,1]).bind fun v19=>(if (!v19)=true then (some false) else (if (v10.1.2.2 != 3)=true then (some false) else (if (v13.2==0)=true then ((kec v13.1.1 [2]).bind fun v20=>(if v20=true then (if (v13.1.2.1==9)=true then (if ((lenI v13.1.2.2)==0)=true then (if (v14.2==0)=true then ((kec v14.1 [1,0,2]).bind fun v21=>(some v21)) else (some false)) else (some false)) else (some false)) else (some false))) else (some false))))))))))))))))))))))))))))))
def law08_alive:Option Bool:=some true
theorem kxv:knw=law08_alive:=by kernel_rfl
def khm (x0:Int) (x1:Int) (x2:Int):Option Bool:=
 (if (decide (x1<=x0))=true then (some (decide (x0<=x2))) else (some false))
def kex (x0:(List (Int×Int×Int))) (v0:(Int×Int)):Option ((Int×Int)⊕Int):=
 (if (decide (v0.1<(lenI x0)))=true then ((gi x0 v0.1).bind fun v1=>((khm v1.2.2 0 1000).bind fun v2=>(if v2=true then ((gi x0 v0.1).bind fun v3=>(some (.inl ((w64 (v0.1+1)),(w64 (v0.2+v3.2.2)))))) else (some (.inl ((w64 (v0.1+1)),v0.2)))))) else (some (.inr v0.2)))
def ken (x0:(List (Int×Int×Int))):Option Bool:=
 (if (decide (40<(lenI x0)))=true then (some true) else ((iter (kex x0) (0,0)).bind fun v4=>(some (decide (8000<v4)))))
def kgE (x0:(List (List (Int×Int×Int)))) (v0:Int):Option (Int⊕(Bool⊕Unit)):=
 (if (decide (v0<(lenI x0)))=true then ((gi x0 v0).bind fun v1=>((ken v1).bind fun v2=>(if v2=true then (some (.inr (.inl true))) else (some (.inl (w64 (v0+1))))))) else (some (.inr (.inr ()))))
def kjj (x0:(List (List (Int×Int×Int)))):Option Bool:=
 ((iter (kgE x0) 0).bind fun v3=>(match v3 with | .inl v4=>(some v4) | .inr v5=>(some false)))
def kiS (x0:(List (Int×Int×Int))) (x1:(List (Int×Int×Int))):Option Bool:=
 (law08_alive.bind fun v0=>((kjj [x0,x1]).bind fun v1=>(if v1=true then (some v0) else (if (!v0)=true then (some v0) else ((kbP x0 x1).bind fun v2=>((kbP x1 x0).bind fun v3=>(if (v2.2 != v3.2)=true then (some false) else ((kbg v2.1 v3.1).bind fun v4=>(if (!v4)=true then (some false) else (((if (v2.2==0)=true then ((kbT v2.1 x1).bind fun v5=>(if (v5.2 != 0)=true then (some (.inl false)) else ((kbg v5.1 x0).bind fun v6=>(if (!v6)=true then (some (.inl false)) else (some (.inr ())))))) else (some (.inr ()))):Option (Bool⊕Unit)).bind fun v7=>(match v7 with | .inl v8=>(some v8) | .inr v9=>((kbT x0 x1).bind fun v10=>(if (v10.2 != 0)=true then (some v0) else ((kbP v10.1 x1).bind fun v11=>(if v0=true then (if (v11.2==0)=true then ((kbg v11.1 x0).bind fun v12=>(some v12)) else (some false)) else (some false))))))))))))))))
end Go.Abs
set_option maxRecDepth 100000
namespace Go.Abs
open Go Go.Proofs
def kaQ:Ctr:=⟨ "",[],[],fun _=>none,[],[]⟩
theorem kau {g:FuncId}:Good Tryz.prog g kaQ:=good_dm
def khG:Ctr:=⟨ "",[(.i .i64),(.i .u8),(.i .i64)],[(.pr (.i .i64) (.pr (.i .u8) (.i .i64)))],fun x=>kbb x.1 x.2.1 x.2.2,[],[]⟩
theorem khk:Good Tryz.prog 43 khG:=
 kae Tryz.func43 (by kernel_rfl) (An:=[]) [] (.nil) (fun x=>by kernel_rfl)
def kfN:Ctr:=⟨ "",[(.i .i64),(.i .i64),(.i .i64)],[.b],fun x=>kfy x.1 x.2.1 x.2.2,[],[]⟩
theorem keE:Good Tryz.prog 66 kfN:=
 kae Tryz.func66 (by kernel_rfl) (An:=[]) [] (.nil) (fun x=>by kernel_rfl)
def klp:Ctr:=⟨ "",[(.pr (.i .i64) (.pr (.i .u8) (.i .i64)))],[.b],fun x=>khp x,[],[]⟩
theorem knX:Good Tryz.prog 93 klp:=
 kae Tryz.func93 (by kernel_rfl) (An:=[]) [(66,kfN)] (.cons keE <| .nil) (fun x=>by kernel_rfl)
def ker:Ctr:=⟨ "",[(.pr (.i .i64) (.i .u8))],[.b],fun x=>kbO x,[],[]⟩
theorem keT:Good Tryz.prog 96 ker:=
 kae Tryz.func96 (by kernel_rfl) (An:=[]) [(66,kfN)] (.cons keE <| .nil) (fun x=>by kernel_rfl)
def khl:Ctr:=⟨ "",[(.i .i64)],[.b],fun x=>kdf x,[],[]⟩
theorem kiJ:Good Tryz.prog 111 khl:=
 kae Tryz.func111 (by kernel_rfl) (An:=[]) [] (.nil) (fun x=>by kernel_rfl)
def kdO:Ctr:=⟨ "",[(.i .i64),(.i .i64)],[(.i .i64)],fun x=>kcf x.1 x.2,[],[]⟩
theorem ket:Good Tryz.prog 78 kdO:=
 kae Tryz.func78 (by kernel_rfl) (An:=[]) [(111,khl)] (.cons kiJ <| .nil) (fun x=>by kernel_rfl)
def kjc:Ctr:=⟨ "",[(.i .u8)],[.b],fun x=>keW x,[],[]⟩
theorem klM:Good Tryz.prog 125 kjc:=
 kae Tryz.func125 (by kernel_rfl) (An:=[]) [] (.nil) (fun x=>by kernel_rfl)
def khS:Ctr:=⟨ "",[(.i .u8),(.i .u8)],[(.i .i64)],fun x=>kdN x.1 x.2,[],[]⟩
theorem kkO:Good Tryz.prog 113 khS:=
 kae Tryz.func113 (by kernel_rfl) (An:=[]) [(125,kjc)] (.cons klM <| .nil) (fun x=>by kernel_rfl)
def kjz:Ctr:=⟨ "",[(.sl (.i .i64))],[(.i .i64)],fun x=>khF x,[],[]⟩
theorem kku:Good Tryz.prog 77 kjz:=
 kae Tryz.func77 (by kernel_rfl) (An:=[(0,⟨⟨[(8,.c (.i .i64))],[]⟩,⟨[],[]⟩,[7,6,3],[],0,true,""⟩)]) [] (.nil) (fun x=>by kernel_rfl)
def kgy:Ctr:=⟨ "",[(.pr (.i .i64) (.i .u8)),(.pr (.i .i64) (.i .u8))],[(.i .i64)],fun x=>kfo x.1 x.2,[],[]⟩
theorem kfT:Good Tryz.prog 103 kgy:=
 kae Tryz.func103 (by kernel_rfl) (An:=[]) [(77,kjz),(113,khS),(78,kdO)] (.cons kku <| .cons kkO <| .cons ket <| .nil) (fun x=>by kernel_rfl)
def kgj:Ctr:=⟨ "",[(.sl (.pr (.i .i64) (.pr (.i .u8) (.i .i64)))),(.i .i64),(.fn 1 (.pr (.i .i64) (.pr (.i .u8) (.i .i64))) (.pr (.i .i64) (.i .u8)))],[.b],fun x=>kcx x.1 x.2.1 x.2.2,[],[]⟩
theorem kjm:Good Tryz.prog 94 kgj:=
 kae Tryz.func94 (by kernel_rfl) (An:=[(0,⟨⟨[(11,.c (.i .i64))],[]⟩,⟨[],[]⟩,[10,9,2,0,1],[],0,true,""⟩)]) [(103,kgy),(96,ker)] (.cons kfT <| .cons keT <| .nil) (fun x=>by kernel_rfl)
def kea:Ctr:=⟨ "",[(.pr (.i .i64) (.pr (.i .u8) (.i .i64)))],[(.pr (.i .i64) (.i .u8))],fun x=>kaZ x,[],[]⟩
theorem kdv:Good Tryz.prog 71 kea:=
 kae Tryz.func71 (by kernel_rfl) (An:=[]) [] (.nil) (fun x=>by kernel_rfl)
def kbK:Ctr:=⟨ "",[(.sl (.pr (.i .i64) (.pr (.i .u8) (.i .i64)))),(.fn 1 (.pr (.i .i64) (.pr (.i .u8) (.i .i64))) .b)],[(.i .i64)],fun x=>kaX x.1 x.2,[],[]⟩
theorem kef:Good Tryz.prog 99 kbK:=
 kae Tryz.func99 (by kernel_rfl) (An:=[(0,⟨⟨[(8,.c (.i .i64))],[]⟩,⟨[],[]⟩,[7,1,0],[],0,true,""⟩)]) [] (.nil) (fun x=>by kernel_rfl)
def kaK:Ctr:=⟨ "",[(.sl (.pr (.i .i64) (.pr (.i .u8) (.i .i64)))),(.fn 1 (.pr (.i .i64) (.pr (.i .u8) (.i .i64))) .b)],[.b],fun x=>kaq x.1 x.2,[],[]⟩
theorem kbm:Good Tryz.prog 54 kaK:=
 kae Tryz.func54 (by kernel_rfl) (An:=[]) [(99,kbK)] (.cons kef <| .nil) (fun x=>by kernel_rfl)
def kkL:Ctr:=⟨ "",[(.sl (.pr (.i .i64) (.pr (.i .u8) (.i .i64))))],[(.i .i64)],fun x=>kiA x,[],[]⟩
theorem klj:Good Tryz.prog 47 kkL:=
 kae Tryz.func47 (by kernel_rfl) (An:=[]) [(54,kaK),(71,kea),(94,kgj),(93,klp)] (.cons kbm <| .cons kdv <| .cons kjm <| .cons knX <| .nil) (fun x=>by kernel_rfl)
def kcm:Ctr:=⟨ "",[(.sl (.sl (.pr (.i .i64) (.pr (.i .u8) (.i .i64)))))],[(.i .i64)],fun x=>kbX x,[],[]⟩
theorem kbR:Good Tryz.prog 50 kcm:=
 kae Tryz.func50 (by kernel_rfl) (An:=[(0,⟨⟨[(8,.c (.i .i64))],[]⟩,⟨[],[]⟩,[7,6],[],0,true,""⟩)]) [(47,kkL)] (.cons klj <| .nil) (fun x=>by kernel_rfl)
def kme:Ctr:=⟨ "",[(.sl (.pr (.i .i64) (.pr (.i .u8) (.i .i64)))),(.sl (.pr (.i .i64) (.pr (.i .u8) (.i .i64))))],[(.i .i64)],fun x=>kcz x.1 x.2,[],[]⟩
theorem koQ:Good Tryz.prog 98 kme:=
 kae Tryz.func98 (by kernel_rfl) (An:=[]) [(71,kea),(103,kgy)] (.cons kdv <| .cons kfT <| .nil) (fun x=>by kernel_rfl)
def kjR:Ctr:=⟨ "",[(.sl (.pr (.i .i64) (.pr (.i .u8) (.i .i64)))),(.sl (.pr (.i .i64) (.pr (.i .u8) (.i .i64)))),(.fn 2 (.pr (.i .i64) (.i .i64)) (.i .i64))],[(.sl (.pr (.i .i64) (.pr (.i .u8) (.i .i64))))],fun x=>kes x.1 x.2.1 x.2.2,[],[]⟩
theorem kkx:Good Tryz.prog 51 kjR:=
 kae Tryz.func51 (by kernel_rfl) (An:=[(0,⟨⟨[(0,.c (.sl (.pr (.i .i64) (.pr (.i .u8) (.i .i64))))),(1,.c (.sl (.pr (.i .i64) (.pr (.i .u8) (.i .i64))))),(7,.mw 1)],[(1,.sl 50 (.pr (.i .i64) (.pr (.i .u8) (.i .i64))))]⟩,⟨[(7,.mw 2)],[(2,.sl 50 (.pr (.i .i64) (.pr (.i .u8) (.i .i64))))]⟩,[2],[],3,false,""⟩),(10,⟨⟨[],[]⟩,⟨[(19,.c .b)],[]⟩,[0,1,7],[1],2,false,""⟩),(129,⟨⟨[(8,.ptr 2 0)],[(2,.bx 50 [.c (.i .i64),.c (.i .u8),.c (.i .i64)])]⟩,⟨[(9,.c (.i .i64)),(10,.c (.i .i64)),(8,.ptr 3 0),(0,.c (.sl (.pr (.i .i64) (.pr (.i .u8) (.i .i64))))),(1,.c (.sl (.pr (.i .i64) (.pr (.i .u8) (.i .i64)))))],[(3,.bx 50 [.c (.i .i64),.c (.i .u8),.c (.i .i64)])]⟩,[11,7],[1],4,false,""⟩),(181,⟨⟨[],[]⟩,⟨[(10,.c (.i .i64)),(1,.c (.sl (.pr (.i .i64) (.pr (.i .u8) (.i .i64)))))],[]⟩,[9,8,0],[2],3,false,""⟩)]) [(98,kme)] (.cons koQ <| .nil) (fun x=>by kernel_rfl)
def kmO:Ctr:=⟨ "",[(.i .i64),(.i .i64)],[(.i .i64)],fun x=>kji x.1 x.2,[],[]⟩
theorem kqi:Good Tryz.prog 52 kmO:=
 kae Tryz.func52 (by kernel_rfl) (An:=[]) [] (.nil) (fun x=>by kernel_rfl)
def kny:Ctr:=⟨ "",[(.sl (.pr (.i .i64) (.pr (.i .u8) (.i .i64)))),(.sl (.pr (.i .i64) (.pr (.i .u8) (.i .i64))))],[(.sl (.pr (.i .i64) (.pr (.i .u8) (.i .i64)))),(.i .i64)],fun x=>kbP x.1 x.2,[],[]⟩
theorem knq:Good Tryz.prog 15 kny:=
 kae Tryz.func15 (by kernel_rfl) (An:=[]) [(52,kmO),(51,kjR),(50,kcm),(47,kkL)] (.cons kqi <| .cons kkx <| .cons kbR <| .cons klj <| .nil) (fun x=>by kernel_rfl)
def klf:Ctr:=⟨ "",[],[(.sl (.pr (.i .i64) (.pr (.i .u8) (.i .i64))))],fun x=>law08_needed,[],[]⟩
theorem knS:Good Tryz.prog 44 klf:=
 kae Tryz.func44 (by kernel_rfl) (An:=[]) [(43,khG)] (.cons khk <| .nil) (fun x=>by kernel_rfl)
def kmY:Ctr:=⟨ "",[],[(.sl tSwap)],fun x=>law08_swap,[],[]⟩
theorem kqm:Good Tryz.prog 45 kmY:=
 kae Tryz.func45 (by kernel_rfl) (An:=[]) [] (.nil) (fun x=>by kernel_rfl)
def khR:Ctr:=⟨ "",[tSwap],[.b],fun x=>kiV x,[],[]⟩
theorem kkB:Good Tryz.prog 95 khR:=
 kae Tryz.func95 (by kernel_rfl) (An:=[(6,⟨⟨[],[]⟩,⟨[(3,.ptr 1 0),(4,.ptr 2 0)],[(1,.bx 115 [.c (.i .i64),.c (.i .u8)]),(2,.bx 115 [.c (.i .i64),.c (.i .u8)])]⟩,[1],[0],3,false,""⟩)]) [(96,ker)] (.cons keT <| .nil) (fun x=>by kernel_rfl)
def kbJ:Ctr:=⟨ "",[(.sl tSwap),(.fn 1 tSwap .b)],[(.i .i64)],fun x=>kbZ x.1 x.2,[],[]⟩
theorem kee:Good Tryz.prog 121 kbJ:=
 kae Tryz.func121 (by kernel_rfl) (An:=[(0,⟨⟨[(8,.c (.i .i64))],[]⟩,⟨[],[]⟩,[7,1,0],[],0,true,""⟩)]) [] (.nil) (fun x=>by kernel_rfl)
def kby:Ctr:=⟨ "",[(.sl tSwap),(.fn 1 tSwap .b)],[.b],fun x=>kbD x.1 x.2,[],[]⟩
theorem kdC:Good Tryz.prog 97 kby:=
 kae Tryz.func97 (by kernel_rfl) (An:=[]) [(121,kbJ)] (.cons kee <| .nil) (fun x=>by kernel_rfl)
def kgK:Ctr:=⟨ "",[(.sl tSwap)],[(.i .i64)],fun x=>kil x,[],[]⟩
theorem khT:Good Tryz.prog 48 kgK:=
 kae Tryz.func48 (by kernel_rfl) (An:=[]) [(97,kby),(95,khR)] (.cons kdC <| .cons kkB <| .nil) (fun x=>by kernel_rfl)
def kcr:Ctr:=⟨ "",[(.sl tSwap),tSwap],[(.i .i64)],fun x=>kcR x.1 x.2,[],[]⟩
theorem kfg:Good Tryz.prog 132 kcr:=
 kae Tryz.func132 (by kernel_rfl) (An:=[(0,⟨⟨[(8,.c (.i .i64))],[]⟩,⟨[],[]⟩,[7,3,0],[0],1,true,""⟩)]) [] (.nil) (fun x=>by kernel_rfl)
def kbV:Ctr:=⟨ "",[(.sl tSwap),tSwap],[.b],fun x=>kch x.1 x.2,[],[]⟩
theorem kem:Good Tryz.prog 122 kbV:=
 kae Tryz.func122 (by kernel_rfl) (An:=[]) [(132,kcr)] (.cons kfg <| .nil) (fun x=>by kernel_rfl)
def kno:Ctr:=⟨ "",[(.sl tSwap),(.pr (.i .i64) (.i .u8)),(.pr (.i .i64) (.i .u8))],[.b],fun x=>kqQ x.1 x.2.1 x.2.2,[],[]⟩
theorem kns:Good Tryz.prog 100 kno:=
 kae Tryz.func100 (by kernel_rfl) (An:=[]) [(122,kbV)] (.cons kem <| .nil) (fun x=>by kernel_rfl)
def kdb (k:Nat):CtrM:=⟨ "",[some (.i .i64),none,none,none],⟨[(1,.ptr 0 0),(2,.ptr 2 0),(3,.ptr 3 0)],[(0,.bx 103 [.mw 1]),(1,.sl 4 .b),(2,.bx 100 [.c (.op tFlow)]),(3,.bx 155 [.fn 102 [.ptr 0 0,.ptr 2 0,.ptr 3 0]])]⟩,4,⟨[(1,.ptr 0 0),(2,.ptr 2 0),(3,.ptr 3 0)],[(0,.bx 103 [.mw 1]),(1,.sl 4 .b),(2,.bx 100 [.c (.op tFlow)]),(3,.bx 155 [.fn 102 [.ptr 0 0,.ptr 2 0,.ptr 3 0]])]⟩,4,0,fun x=>kdA k x.1 x.2.1 x.2.2,false⟩
theorem kfl:∀ k,(kdb k).ok=true/\GoodM Tryz.prog 102 (kdb k)
 | 0=>kjk (by kernel_rfl) (fun x=>rfl)
 | k+1=>kal Tryz.func102 (by kernel_rfl) (An:=[(0,⟨⟨[(23,.c (.i .i64))],[(2,.bx 100 [.c (.op tFlow)]),(3,.bx 155 [.fn 102 [.ptr 0 0,.ptr 2 0,.ptr 3 0]]),(0,.bx 103 [.mw 1]),(1,.sl 4 .b)]⟩,⟨[],[(2,.bx 100 [.c (.op tFlow)]),(3,.bx 155 [.fn 102 [.ptr 0 0,.ptr 2 0,.ptr 3 0]]),(0,.bx 103 [.mw 1]),(1,.sl 4 .b)]⟩,[22,21],[],8,false,""⟩),(8,⟨⟨[(32,.c (.i .i64))],[(2,.bx 100 [.c (.op tFlow)]),(3,.bx 155 [.fn 102 [.ptr 0 0,.ptr 2 0,.ptr 3 0]]),(0,.bx 103 [.mw 1]),(1,.sl 4 .b)]⟩,⟨[],[(2,.bx 100 [.c (.op tFlow)]),(3,.bx 155 [.fn 102 [.ptr 0 0,.ptr 2 0,.ptr 3 0]]),(0,.bx 103 [.mw 1]),(1,.sl 4 .b)]⟩,[31,6,23],[],8,false,""⟩)]) ((102,⟨ "",[],[],fun _=>none,[kdb k],[]⟩)::[]) (.cons (good_dm.more (kfl k)) <| .nil) (fun x=>by kernel_rfl)
def box_flow_short_c1_m0_M:CtrM:=⟨ "",[some (.i .i64),none,none,none],⟨[(1,.ptr 0 0),(2,.ptr 2 0),(3,.ptr 3 0)],[(0,.bx 103 [.mw 1]),(1,.sl 4 .b),(2,.bx 100 [.c (.op tFlow)]),(3,.bx 155 [.fn 102 [.ptr 0 0,.ptr 2 0,.ptr 3 0]])]⟩,4,⟨[(1,.ptr 0 0),(2,.ptr 2 0),(3,.ptr 3 0)],[(0,.bx 103 [.mw 1]),(1,.sl 4 .b),(2,.bx 100 [.c (.op tFlow)]),(3,.bx 155 [.fn 102 [.ptr 0 0,.ptr 2 0,.ptr 3 0]])]⟩,4,0,fun x=>khy x.1 x.2.1 x.2.2,false⟩
theorem kjl:box_flow_short_c1_m0_M.ok=true/\GoodM Tryz.prog 102 box_flow_short_c1_m0_M:=kfl 1000000
def box_flow_short_c1_C:Ctr:=⟨ "",[],[],fun _=>none,[],[]⟩
theorem box_flow_short_c1_C_ok:Good Tryz.prog 102 box_flow_short_c1_C:=good_dm
def khw:Ctr:=⟨ "",box_flow_short_c1_C.as,box_flow_short_c1_C.rs,box_flow_short_c1_C.F,box_flow_short_c1_m0_M::box_flow_short_c1_C.mus,box_flow_short_c1_C.its⟩
theorem kki:Good Tryz.prog 102 khw:=(box_flow_short_c1_C_ok.more kjl)
def box_begin_m0g0_M:CtrM:=⟨ "",[some (.sl (.pr (.i .i64) (.pr (.i .u8) (.i .i64)))),some (.sl (.pr (.i .i64) (.pr (.i .u8) (.i .i64)))),some (.sl tSwap)],⟨[],[]⟩,0,⟨[(1000000,.sc (.pointer none)),(1000001,.c (.i .i64))],[]⟩,0,2,fun x=>kig x.1 x.2.1 x.2.2,true⟩
theorem kmy:box_begin_m0g0_M.ok=true/\GoodM Tryz.prog 58 box_begin_m0g0_M:=
 kal Tryz.func58 (by kernel_rfl) (An:=[(89,⟨⟨[],[]⟩,⟨[(8,.c (.i .i64))],[]⟩,[2,1,0],[],1,false,""⟩),(0,⟨⟨[(33,.c (.i .i64)),(9,.ptr 5 0)],[(5,.bx 134 [.c (.sl (.pr (.i .i64) (.pr (.i .u8) (.i .i64)))),.mw 2,.fw 3,.mw 4]),(4,.sl 3 (.i .i64))]⟩,⟨[(9,.ptr 6 0)],[(6,.bx 134 [.c (.sl (.pr (.i .i64) (.pr (.i .u8) (.i .i64)))),.mw 2,.fw 3,.mw 7]),(7,.sl 3 (.i .i64))]⟩,[32,31,1,0,2],[2,3],8,false,""⟩),(8,⟨⟨[(51,.c (.i .i64)),(9,.ptr 6 0)],[(6,.bx 134 [.c (.sl (.pr (.i .i64) (.pr (.i .u8) (.i .i64)))),.mw 2,.fw 3,.mw 7]),(2,.sl 31 (.sl (.i .i64))),(3,.fm 31 (.sl (.i .i64)) 0 3 (.i .i64))]⟩,⟨[(9,.ptr 8 0)],[(8,.bx 134 [.c (.sl (.pr (.i .i64) (.pr (.i .u8) (.i .i64)))),.mw 9,.fw 10,.mw 7]),(9,.sl 31 (.sl (.i .i64))),(10,.fm 31 (.sl (.i .i64)) 0 3 (.i .i64))]⟩,[50,49,0,2],[7],11,false,""⟩),(16,⟨⟨[(57,.c (.i .i64)),(14,.mw 9)],[(9,.sl 3 (.i .i64))]⟩,⟨[(14,.mw 10)],[(10,.sl 3 (.i .i64))]⟩,[56,55,13,9,51],[8,6,2,3],11,false,""⟩)]) [(4134001,kaQ),(7000089,kaQ),(6000083,kaQ),(6000029,kaQ),(100,kno),(48,kgK),(50,kcm),(71,kea)] (.cons kau <| .cons kau <| .cons kau <| .cons kau <| .cons kns <| .cons khT <| .cons kbR <| .cons kdv <| .nil) (fun x=>by kernel_rfl)
def box_begin_m0g1_M:CtrM:=⟨ "",[some (.sl (.pr (.i .i64) (.pr (.i .u8) (.i .i64)))),some (.sl (.pr (.i .i64) (.pr (.i .u8) (.i .i64)))),some (.sl tSwap)],⟨[],[]⟩,0,⟨[(1000000,.ptr 0 0),(1000001,.c (.i .i64))],[(0,.bx 134 [.c (.sl (.pr (.i .i64) (.pr (.i .u8) (.i .i64)))),.mw 1,.fw 2,.mw 3]),(1,.sl 31 (.sl (.i .i64))),(2,.fm 31 (.sl (.i .i64)) 0 3 (.i .i64)),(3,.sl 3 (.i .i64))]⟩,4,2,fun x=>kie x.1 x.2.1 x.2.2,true⟩
theorem kmw:box_begin_m0g1_M.ok=true/\GoodM Tryz.prog 58 box_begin_m0g1_M:=
 kal Tryz.func58 (by kernel_rfl) (An:=[(89,⟨⟨[],[]⟩,⟨[(8,.c (.i .i64))],[]⟩,[2,1,0],[],1,false,""⟩),(0,⟨⟨[(33,.c (.i .i64)),(9,.ptr 5 0)],[(5,.bx 134 [.c (.sl (.pr (.i .i64) (.pr (.i .u8) (.i .i64)))),.mw 2,.fw 3,.mw 4]),(4,.sl 3 (.i .i64))]⟩,⟨[(9,.ptr 6 0)],[(6,.bx 134 [.c (.sl (.pr (.i .i64) (.pr (.i .u8) (.i .i64)))),.mw 2,.fw 3,.mw 7]),(7,.sl 3 (.i .i64))]⟩,[32,31,1,0,2],[2,3],8,false,""⟩),(8,⟨⟨[(51,.c (.i .i64)),(9,.ptr 6 0)],[(6,.bx 134 [.c (.sl (.pr (.i .i64) (.pr (.i .u8) (.i .i64)))),.mw 2,.fw 3,.mw 7]),(2,.sl 31 (.sl (.i .i64))),(3,.fm 31 (.sl (.i .i64)) 0 3 (.i .i64))]⟩,⟨[(9,.ptr 8 0)],[(8,.bx 134 [.c (.sl (.pr (.i .i64) (.pr (.i .u8) (.i .i64)))),.mw 9,.fw 10,.mw 7]),(9,.sl 31 (.sl (.i .i64))),(10,.fm 31 (.sl (.i .i64)) 0 3 (.i .i64))]⟩,[50,49,0,2],[7],11,false,""⟩),(16,⟨⟨[(57,.c (.i .i64)),(14,.mw 9)],[(9,.sl 3 (.i .i64))]⟩,⟨[(14,.mw 10)],[(10,.sl 3 (.i .i64))]⟩,[56,55,13,9,51],[8,6,2,3],11,false,""⟩)]) [(4134001,kaQ),(7000089,kaQ),(6000083,kaQ),(6000029,kaQ),(100,kno),(48,kgK),(50,kcm),(71,kea)] (.cons kau <| .cons kau <| .cons kau <| .cons kau <| .cons kns <| .cons khT <| .cons kbR <| .cons kdv <| .nil) (fun x=>by kernel_rfl)
def box_begin_B1:Ctr:=⟨ "",[],[],fun _=>none,[],[]⟩
theorem box_begin_B1_ok:Good Tryz.prog 58 box_begin_B1:=good_dm
def kjS:Ctr:=⟨ "",box_begin_B1.as,box_begin_B1.rs,box_begin_B1.F,box_begin_m0g0_M::box_begin_m0g1_M::box_begin_B1.mus,box_begin_B1.its⟩
theorem kkk:Good Tryz.prog 58 kjS:=((box_begin_B1_ok.more kmw).more kmy)
def box_flow_short_m0_M:CtrM:=⟨ "",[some (.op tFlow),some (.sl .b)],⟨[],[]⟩,0,⟨[(1000000,.mw 0)],[(0,.sl 3 (.i .i64))]⟩,1,1,fun x=>kgc x.1 x.2,false⟩
theorem kkK:box_flow_short_m0_M.ok=true/\GoodM Tryz.prog 60 box_flow_short_m0_M:=
 kal Tryz.func60 (by kernel_rfl) (An:=[(0,⟨⟨[(18,.c (.i .i64)),(5,.ptr 2 0),(6,.ptr 5 0)],[(2,.bx 155 [.fn 102 [.ptr 5 0,.ptr 0 0,.ptr 2 0]]),(5,.bx 103 [.mw 3]),(3,.sl 4 .b),(0,.bx 100 [.c (.op tFlow)])]⟩,⟨[(6,.ptr 6 0)],[(6,.bx 103 [.mw 7]),(7,.sl 4 .b)]⟩,[17,16],[],8,false,""⟩),(8,⟨⟨[(30,.c (.i .i64)),(9,.mw 8)],[(8,.sl 3 (.i .i64))]⟩,⟨[(9,.mw 9)],[(9,.sl 3 (.i .i64))]⟩,[29,28],[7],10,false,""⟩)]) [(102,khw)] (.cons kki <| .nil) (fun x=>by kernel_rfl)
def box_flow_short_B2:Ctr:=⟨ "",[],[],fun _=>none,[],[]⟩
theorem box_flow_short_B2_ok:Good Tryz.prog 60 box_flow_short_B2:=good_dm
def kiY:Ctr:=⟨ "",box_flow_short_B2.as,box_flow_short_B2.rs,box_flow_short_B2.F,box_flow_short_m0_M::box_flow_short_B2.mus,box_flow_short_B2.its⟩
theorem klG:Good Tryz.prog 60 kiY:=(box_flow_short_B2_ok.more kkK)
def kdy (k:Nat):CtrM:=⟨ "",[some (.i .i64),some (.i .i64),none,none,none],⟨[(2,.ptr 0 0),(3,.ptr 5 0),(4,.ptr 7 0)],[(0,.bx 100 [.ptr 1 0]),(1,.bx 134 [.c (.sl (.pr (.i .i64) (.pr (.i .u8) (.i .i64)))),.mw 2,.fw 3,.mw 4]),(2,.sl 31 (.sl (.i .i64))),(3,.fm 31 (.sl (.i .i64)) 0 3 (.i .i64)),(4,.sl 3 (.i .i64)),(5,.bx 103 [.mw 6]),(6,.sl 4 .b),(7,.bx 96 [.fn 101 [.ptr 0 0,.ptr 5 0,.ptr 7 0]])]⟩,8,⟨[(2,.ptr 0 0),(3,.ptr 5 0),(4,.ptr 7 0),(1000000,.c (.i .i64))],[(0,.bx 100 [.ptr 1 0]),(1,.bx 134 [.c (.sl (.pr (.i .i64) (.pr (.i .u8) (.i .i64)))),.mw 2,.fw 3,.mw 4]),(2,.sl 31 (.sl (.i .i64))),(3,.fm 31 (.sl (.i .i64)) 0 3 (.i .i64)),(4,.sl 3 (.i .i64)),(5,.bx 103 [.mw 6]),(6,.sl 4 .b),(7,.bx 96 [.fn 101 [.ptr 0 0,.ptr 5 0,.ptr 7 0]])]⟩,8,1,fun x=>kdV k x.1 x.2.1 x.2.2.1 x.2.2.2.1 x.2.2.2.2.1 x.2.2.2.2.2.1 x.2.2.2.2.2.2,false⟩
theorem kfX:∀ k,(kdy k).ok=true/\GoodM Tryz.prog 101 (kdy k)
 | 0=>kjk (by kernel_rfl) (fun x=>rfl)
 | k+1=>kal Tryz.func101 (by kernel_rfl) (An:=[(0,⟨⟨[(21,.c (.i .i64))],[(5,.bx 103 [.mw 6]),(6,.sl 4 .b),(0,.bx 100 [.ptr 1 0]),(1,.bx 134 [.c (.sl (.pr (.i .i64) (.pr (.i .u8) (.i .i64)))),.mw 2,.fw 3,.mw 4]),(2,.sl 31 (.sl (.i .i64))),(3,.fm 31 (.sl (.i .i64)) 0 3 (.i .i64)),(4,.sl 3 (.i .i64)),(7,.bx 96 [.fn 101 [.ptr 0 0,.ptr 5 0,.ptr 7 0]])]⟩,⟨[],[(6,.sl 4 .b),(4,.sl 3 (.i .i64)),(5,.bx 103 [.mw 6]),(3,.fm 31 (.sl (.i .i64)) 0 3 (.i .i64)),(0,.bx 100 [.ptr 1 0]),(1,.bx 134 [.c (.sl (.pr (.i .i64) (.pr (.i .u8) (.i .i64)))),.mw 2,.fw 3,.mw 4]),(2,.sl 31 (.sl (.i .i64))),(7,.bx 96 [.fn 101 [.ptr 0 0,.ptr 5 0,.ptr 7 0]])]⟩,[20,19,1,0],[],16,true,""⟩),(8,⟨⟨[(72,.c (.i .i64))],[(0,.bx 100 [.ptr 1 0]),(1,.bx 134 [.c (.sl (.pr (.i .i64) (.pr (.i .u8) (.i .i64)))),.mw 2,.fw 3,.mw 4]),(2,.sl 31 (.sl (.i .i64))),(3,.fm 31 (.sl (.i .i64)) 0 3 (.i .i64)),(4,.sl 3 (.i .i64)),(7,.bx 96 [.fn 101 [.ptr 0 0,.ptr 5 0,.ptr 7 0]]),(5,.bx 103 [.mw 6]),(6,.sl 4 .b)]⟩,⟨[],[(0,.bx 100 [.ptr 1 0]),(1,.bx 134 [.c (.sl (.pr (.i .i64) (.pr (.i .u8) (.i .i64)))),.mw 2,.fw 3,.mw 4]),(2,.sl 31 (.sl (.i .i64))),(3,.fm 31 (.sl (.i .i64)) 0 3 (.i .i64)),(4,.sl 3 (.i .i64)),(7,.bx 96 [.fn 101 [.ptr 0 0,.ptr 5 0,.ptr 7 0]]),(5,.bx 103 [.mw 6]),(6,.sl 4 .b)]⟩,[71,9,21],[],16,true,""⟩)]) ((101,⟨ "",[],[],fun _=>none,[kdy k],[]⟩)::[]) (.cons (good_dm.more (kfX k)) <| .nil) (fun x=>by kernel_rfl)
def box_flow_give_c1_m0_M:CtrM:=⟨ "",[some (.i .i64),some (.i .i64),none,none,none],⟨[(2,.ptr 0 0),(3,.ptr 5 0),(4,.ptr 7 0)],[(0,.bx 100 [.ptr 1 0]),(1,.bx 134 [.c (.sl (.pr (.i .i64) (.pr (.i .u8) (.i .i64)))),.mw 2,.fw 3,.mw 4]),(2,.sl 31 (.sl (.i .i64))),(3,.fm 31 (.sl (.i .i64)) 0 3 (.i .i64)),(4,.sl 3 (.i .i64)),(5,.bx 103 [.mw 6]),(6,.sl 4 .b),(7,.bx 96 [.fn 101 [.ptr 0 0,.ptr 5 0,.ptr 7 0]])]⟩,8,⟨[(2,.ptr 0 0),(3,.ptr 5 0),(4,.ptr 7 0),(1000000,.c (.i .i64))],[(0,.bx 100 [.ptr 1 0]),(1,.bx 134 [.c (.sl (.pr (.i .i64) (.pr (.i .u8) (.i .i64)))),.mw 2,.fw 3,.mw 4]),(2,.sl 31 (.sl (.i .i64))),(3,.fm 31 (.sl (.i .i64)) 0 3 (.i .i64)),(4,.sl 3 (.i .i64)),(5,.bx 103 [.mw 6]),(6,.sl 4 .b),(7,.bx 96 [.fn 101 [.ptr 0 0,.ptr 5 0,.ptr 7 0]])]⟩,8,1,fun x=>khP x.1 x.2.1 x.2.2.1 x.2.2.2.1 x.2.2.2.2.1 x.2.2.2.2.2.1 x.2.2.2.2.2.2,false⟩
theorem kjM:box_flow_give_c1_m0_M.ok=true/\GoodM Tryz.prog 101 box_flow_give_c1_m0_M:=kfX 1000000
def box_flow_give_c1_C:Ctr:=⟨ "",[],[],fun _=>none,[],[]⟩
theorem box_flow_give_c1_C_ok:Good Tryz.prog 101 box_flow_give_c1_C:=good_dm
def khQ:Ctr:=⟨ "",box_flow_give_c1_C.as,box_flow_give_c1_C.rs,box_flow_give_c1_C.F,box_flow_give_c1_m0_M::box_flow_give_c1_C.mus,box_flow_give_c1_C.its⟩
theorem kkJ:Good Tryz.prog 101 khQ:=(box_flow_give_c1_C_ok.more kjM)
def box_flow_give_m0_M:CtrM:=⟨ "",[none,some (.i .i64),some (.i .i64)],⟨[(0,.ptr 0 0)],[(0,.bx 134 [.c (.sl (.pr (.i .i64) (.pr (.i .u8) (.i .i64)))),.mw 1,.fw 2,.mw 3]),(1,.sl 31 (.sl (.i .i64))),(2,.fm 31 (.sl (.i .i64)) 0 3 (.i .i64)),(3,.sl 3 (.i .i64))]⟩,4,⟨[(0,.ptr 0 0),(1000000,.c (.i .i64))],[(0,.bx 134 [.c (.sl (.pr (.i .i64) (.pr (.i .u8) (.i .i64)))),.mw 1,.fw 2,.mw 3]),(1,.sl 31 (.sl (.i .i64))),(2,.fm 31 (.sl (.i .i64)) 0 3 (.i .i64)),(3,.sl 3 (.i .i64))]⟩,4,1,fun x=>kgP x.1 x.2.1 x.2.2.1 x.2.2.2.1 x.2.2.2.2.1 x.2.2.2.2.2,false⟩
theorem kli:box_flow_give_m0_M.ok=true/\GoodM Tryz.prog 59 box_flow_give_m0_M:=
 kal Tryz.func59 (by kernel_rfl) (An:=[(0,⟨⟨[(9,.c (.i .i64)),(3,.ptr 4 0),(7,.ptr 6 0),(8,.ptr 7 0)],[(4,.bx 100 [.ptr 0 0]),(0,.bx 134 [.c (.sl (.pr (.i .i64) (.pr (.i .u8) (.i .i64)))),.mw 1,.fw 2,.mw 3]),(1,.sl 31 (.sl (.i .i64))),(2,.fm 31 (.sl (.i .i64)) 0 3 (.i .i64)),(3,.sl 3 (.i .i64)),(6,.bx 103 [.mw 5]),(5,.sl 4 .b),(7,.bx 96 [.fn 101 [.ptr 4 0,.ptr 6 0,.ptr 7 0]])]⟩,⟨[(9,.c (.i .i64))],[(0,.bx 134 [.c (.sl (.pr (.i .i64) (.pr (.i .u8) (.i .i64)))),.mw 1,.fw 2,.mw 3]),(1,.sl 31 (.sl (.i .i64))),(2,.fm 31 (.sl (.i .i64)) 0 3 (.i .i64)),(3,.sl 3 (.i .i64))]⟩,[2,1],[],12,false,""⟩)]) [(101,khQ)] (.cons kkJ <| .nil) (fun x=>by kernel_rfl)
def box_flow_give_C:Ctr:=⟨ "",[],[],fun _=>none,[],[]⟩
theorem box_flow_give_C_ok:Good Tryz.prog 59 box_flow_give_C:=good_dm
def kgJ:Ctr:=⟨ "",box_flow_give_C.as,box_flow_give_C.rs,box_flow_give_C.F,box_flow_give_m0_M::box_flow_give_C.mus,box_flow_give_C.its⟩
theorem khU:Good Tryz.prog 59 kgJ:=(box_flow_give_C_ok.more kli)
def kpG:Ctr:=⟨ "",[(.sl (.pr (.i .i64) (.pr (.i .u8) (.i .i64)))),(.sl (.pr (.i .i64) (.pr (.i .u8) (.i .i64)))),(.sl tSwap)],[kuY,(.i .i64)],fun x=>ktQ x.1 x.2.1 x.2.2,[],[]⟩
theorem ksh:Good Tryz.prog 19 kpG:=
 kae Tryz.func19 (by kernel_rfl) (An:=[(0,⟨⟨[(31,.c (.i .i64)),(10,.c (.i .i64))],[]⟩,⟨[(10,.c (.i .i64))],[]⟩,[30,29,8,11,6],[2,1,0],3,false,""⟩),(0,⟨⟨[(31,.c (.i .i64)),(8,.ptr 2 0),(10,.c (.i .i64)),(11,.mw 6)],[(2,.bx 134 [.c (.sl (.pr (.i .i64) (.pr (.i .u8) (.i .i64)))),.mw 3,.fw 4,.mw 5]),(3,.sl 31 (.sl (.i .i64))),(4,.fm 31 (.sl (.i .i64)) 0 3 (.i .i64)),(5,.sl 3 (.i .i64)),(6,.sl 4 .b)]⟩,⟨[(10,.c (.i .i64)),(8,.ptr 7 0),(11,.mw 11)],[(7,.bx 134 [.c (.sl (.pr (.i .i64) (.pr (.i .u8) (.i .i64)))),.mw 8,.fw 9,.mw 10]),(8,.sl 31 (.sl (.i .i64))),(9,.fm 31 (.sl (.i .i64)) 0 3 (.i .i64)),(10,.sl 3 (.i .i64)),(11,.sl 4 .b)]⟩,[30,29,6],[1,0],12,false,""⟩)]) [(60,kiY),(58,kjS),(59,kgJ)] (.cons klG <| .cons kkk <| .cons khU <| .nil) (fun x=>by kernel_rfl)
def knd:Ctr:=⟨ "",[(.pr (.i .i64) (.pr (.i .u8) (.i .i64)))],[.b],fun x=>klP x,[],[]⟩
theorem kqc:Good Tryz.prog 65 knd:=
 kae Tryz.func65 (by kernel_rfl) (An:=[]) [(66,kfN)] (.cons keE <| .nil) (fun x=>by kernel_rfl)
def kfW:Ctr:=⟨ "",[(.sl (.pr (.i .i64) (.pr (.i .u8) (.i .i64)))),(.i .i64),(.fn 1 (.pr (.i .i64) (.pr (.i .u8) (.i .i64))) (.pr (.i .i64) (.i .u8)))],[.b],fun x=>ked x.1 x.2.1 x.2.2,[],[]⟩
theorem kiP:Good Tryz.prog 67 kfW:=
 kae Tryz.func67 (by kernel_rfl) (An:=[(0,⟨⟨[(11,.c (.i .i64))],[]⟩,⟨[],[]⟩,[10,9,2,0,1],[],0,true,""⟩)]) [(103,kgy),(96,ker)] (.cons kfT <| .cons keT <| .nil) (fun x=>by kernel_rfl)
def kmb:Ctr:=⟨ "",[(.pr (.i .i64) (.pr (.i .u8) (.i .i64)))],[(.pr (.i .i64) (.i .u8))],fun x=>kdx x,[],[]⟩
theorem kpj:Good Tryz.prog 68 kmb:=
 kae Tryz.func68 (by kernel_rfl) (An:=[]) [] (.nil) (fun x=>by kernel_rfl)
def kbC:Ctr:=⟨ "",[(.sl (.pr (.i .i64) (.pr (.i .u8) (.i .i64)))),(.fn 1 (.pr (.i .i64) (.pr (.i .u8) (.i .i64))) .b)],[(.i .i64)],fun x=>kbI x.1 x.2,[],[]⟩
theorem kdM:Good Tryz.prog 104 kbC:=
 kae Tryz.func104 (by kernel_rfl) (An:=[(0,⟨⟨[(8,.c (.i .i64))],[]⟩,⟨[],[]⟩,[7,1,0],[],0,true,""⟩)]) [] (.nil) (fun x=>by kernel_rfl)
def kbq:Ctr:=⟨ "",[(.sl (.pr (.i .i64) (.pr (.i .u8) (.i .i64)))),(.fn 1 (.pr (.i .i64) (.pr (.i .u8) (.i .i64))) .b)],[.b],fun x=>kaL x.1 x.2,[],[]⟩
theorem kda:Good Tryz.prog 69 kbq:=
 kae Tryz.func69 (by kernel_rfl) (An:=[]) [(104,kbC)] (.cons kdM <| .nil) (fun x=>by kernel_rfl)
def knm:Ctr:=⟨ "",[tLine,tLine],[(.i .i64)],fun x=>klB x.1 x.2,[],[]⟩
theorem kqq:Good Tryz.prog 73 knm:=
 kae Tryz.func73 (by kernel_rfl) (An:=[]) [] (.nil) (fun x=>by kernel_rfl)
def slices_insertionSortCmpFunc_box_line_m0_M:CtrM:=⟨ "",[none,some (.i .i64),some (.i .i64),some (.fn 2 (.pr tLine tLine) (.i .i64))],⟨[(0,.mw 0)],[(0,.sl 121 tLine)]⟩,1,⟨[(0,.mw 0)],[(0,.sl 121 tLine)]⟩,1,0,fun x=>kaO x.1 x.2.1 x.2.2.1 x.2.2.2,false⟩
theorem kdB:slices_insertionSortCmpFunc_box_line_m0_M.ok=true/\GoodM Tryz.prog 123 slices_insertionSortCmpFunc_box_line_m0_M:=
 kal Tryz.func123 (by kernel_rfl) (An:=[(0,⟨⟨[(8,.c (.i .i64))],[(0,.sl 121 tLine)]⟩,⟨[],[(0,.sl 121 tLine)]⟩,[2,1,3],[],2,false,""⟩),(8,⟨⟨[(9,.c (.i .i64))],[(0,.sl 121 tLine)]⟩,⟨[],[(0,.sl 121 tLine)]⟩,[8],[],2,false,""⟩)]) [] (.nil) (fun x=>by kernel_rfl)
def slices_insertionSortCmpFunc_box_line_C:Ctr:=⟨ "",[],[],fun _=>none,[],[]⟩
theorem slices_insertionSortCmpFunc_box_line_C_ok:Good Tryz.prog 123 slices_insertionSortCmpFunc_box_line_C:=good_dm
def kbE:Ctr:=⟨ "",slices_insertionSortCmpFunc_box_line_C.as,slices_insertionSortCmpFunc_box_line_C.rs,slices_insertionSortCmpFunc_box_line_C.F,slices_insertionSortCmpFunc_box_line_m0_M::slices_insertionSortCmpFunc_box_line_C.mus,slices_insertionSortCmpFunc_box_line_C.its⟩
theorem kdX:Good Tryz.prog 123 kbE:=(slices_insertionSortCmpFunc_box_line_C_ok.more kdB)
def slices_swapRangeCmpFunc_box_line_m0_M:CtrM:=⟨ "",[none,some (.i .i64),some (.i .i64),some (.i .i64),some (.fn 2 (.pr tLine tLine) (.i .i64))],⟨[(0,.mw 0)],[(0,.sl 121 tLine)]⟩,1,⟨[(0,.mw 0)],[(0,.sl 121 tLine)]⟩,1,0,fun x=>kaH x.1 x.2.1 x.2.2.1 x.2.2.2.1 x.2.2.2.2,false⟩
theorem kek:slices_swapRangeCmpFunc_box_line_m0_M.ok=true/\GoodM Tryz.prog 137 slices_swapRangeCmpFunc_box_line_m0_M:=
 kal Tryz.func137 (by kernel_rfl) (An:=[(0,⟨⟨[(10,.c (.i .i64))],[(0,.sl 121 tLine)]⟩,⟨[],[(0,.sl 121 tLine)]⟩,[3,1,2],[],2,false,""⟩)]) [] (.nil) (fun x=>by kernel_rfl)
def slices_swapRangeCmpFunc_box_line_C:Ctr:=⟨ "",[],[],fun _=>none,[],[]⟩
theorem slices_swapRangeCmpFunc_box_line_C_ok:Good Tryz.prog 137 slices_swapRangeCmpFunc_box_line_C:=good_dm
def kci:Ctr:=⟨ "",slices_swapRangeCmpFunc_box_line_C.as,slices_swapRangeCmpFunc_box_line_C.rs,slices_swapRangeCmpFunc_box_line_C.F,slices_swapRangeCmpFunc_box_line_m0_M::slices_swapRangeCmpFunc_box_line_C.mus,slices_swapRangeCmpFunc_box_line_C.its⟩
theorem keN:Good Tryz.prog 137 kci:=(slices_swapRangeCmpFunc_box_line_C_ok.more kek)
def slices_rotateCmpFunc_box_line_m0_M:CtrM:=⟨ "",[none,some (.i .i64),some (.i .i64),some (.i .i64),some (.fn 2 (.pr tLine tLine) (.i .i64))],⟨[(0,.mw 0)],[(0,.sl 121 tLine)]⟩,1,⟨[(0,.mw 0)],[(0,.sl 121 tLine)]⟩,1,0,fun x=>kcS x.1 x.2.1 x.2.2.1 x.2.2.2.1 x.2.2.2.2,false⟩
theorem keZ:slices_rotateCmpFunc_box_line_m0_M.ok=true/\GoodM Tryz.prog 133 slices_rotateCmpFunc_box_line_m0_M:=
 kal Tryz.func133 (by kernel_rfl) (An:=[(0,⟨⟨[(10,.c (.i .i64)),(11,.c (.i .i64))],[(0,.sl 121 tLine)]⟩,⟨[(10,.c (.i .i64))],[(0,.sl 121 tLine)]⟩,[2,4],[],2,false,""⟩)]) [(137,kci)] (.cons keN <| .nil) (fun x=>by kernel_rfl)
def slices_rotateCmpFunc_box_line_C:Ctr:=⟨ "",[],[],fun _=>none,[],[]⟩
theorem slices_rotateCmpFunc_box_line_C_ok:Good Tryz.prog 133 slices_rotateCmpFunc_box_line_C:=good_dm
def kcT:Ctr:=⟨ "",slices_rotateCmpFunc_box_line_C.as,slices_rotateCmpFunc_box_line_C.rs,slices_rotateCmpFunc_box_line_C.F,slices_rotateCmpFunc_box_line_m0_M::slices_rotateCmpFunc_box_line_C.mus,slices_rotateCmpFunc_box_line_C.its⟩
theorem kfJ:Good Tryz.prog 133 kcT:=(slices_rotateCmpFunc_box_line_C_ok.more keZ)
def kaT (k:Nat):CtrM:=⟨ "",[none,some (.i .i64),some (.i .i64),some (.i .i64),some (.fn 2 (.pr tLine tLine) (.i .i64))],⟨[(0,.mw 0)],[(0,.sl 121 tLine)]⟩,1,⟨[(0,.mw 0)],[(0,.sl 121 tLine)]⟩,1,0,fun x=>kaW k x.1 x.2.1 x.2.2.1 x.2.2.2.1 x.2.2.2.2,false⟩
theorem kbL:∀ k,(kaT k).ok=true/\GoodM Tryz.prog 124 (kaT k)
 | 0=>kjk (by kernel_rfl) (fun x=>rfl)
 | k+1=>kal Tryz.func124 (by kernel_rfl) (An:=[(0,⟨⟨[(10,.c (.i .i64)),(11,.c (.i .i64))],[]⟩,⟨[(10,.c (.i .i64))],[]⟩,[4,1],[0],1,false,""⟩),(8,⟨⟨[(13,.c (.i .i64))],[(0,.sl 121 tLine)]⟩,⟨[],[(0,.sl 121 tLine)]⟩,[10],[],2,false,""⟩),(16,⟨⟨[(14,.c (.i .i64)),(15,.c (.i .i64))],[]⟩,⟨[(14,.c (.i .i64))],[]⟩,[4,2],[0],1,false,""⟩),(24,⟨⟨[(17,.c (.i .i64))],[(0,.sl 121 tLine)]⟩,⟨[],[(0,.sl 121 tLine)]⟩,[14],[],2,false,""⟩),(561,⟨⟨[],[]⟩,⟨[(20,.c (.i .i64)),(21,.c (.i .i64))],[]⟩,[19,3,18,4,2,1],[0],1,false,""⟩),(32,⟨⟨[(20,.c (.i .i64)),(21,.c (.i .i64))],[]⟩,⟨[(20,.c (.i .i64))],[]⟩,[4,22,19,2,1,18,3],[0],1,false,""⟩),(158,⟨⟨[],[]⟩,⟨[(185,.c .b)],[]⟩,[20,2,24,4,1,18,3],[0],1,false,""⟩),(741,⟨⟨[],[(0,.sl 121 tLine)]⟩,⟨[],[(0,.sl 121 tLine)]⟩,[20,2,24,4,1,18,3],[],2,false,""⟩),(166,⟨⟨[],[]⟩,⟨[(199,.c .b)],[]⟩,[1,20,18,4,24,3],[0],2,false,""⟩),(797,⟨⟨[],[(0,.sl 121 tLine)]⟩,⟨[],[(0,.sl 121 tLine)]⟩,[1,20,18,4,24,3],[],3,false,""⟩)]) ((124,⟨ "",[],[],fun _=>none,[kaT k],[]⟩)::[(133,kcT)]) (.cons (good_dm.more (kbL k)) <| .cons kfJ <| .nil) (fun x=>by kernel_rfl)
def slices_symMergeCmpFunc_box_line_m0_M:CtrM:=⟨ "",[none,some (.i .i64),some (.i .i64),some (.i .i64),some (.fn 2 (.pr tLine tLine) (.i .i64))],⟨[(0,.mw 0)],[(0,.sl 121 tLine)]⟩,1,⟨[(0,.mw 0)],[(0,.sl 121 tLine)]⟩,1,0,fun x=>kbd x.1 x.2.1 x.2.2.1 x.2.2.2.1 x.2.2.2.2,false⟩
theorem keu:slices_symMergeCmpFunc_box_line_m0_M.ok=true/\GoodM Tryz.prog 124 slices_symMergeCmpFunc_box_line_m0_M:=kbL 1000000
def slices_symMergeCmpFunc_box_line_C:Ctr:=⟨ "",[],[],fun _=>none,[],[]⟩
theorem slices_symMergeCmpFunc_box_line_C_ok:Good Tryz.prog 124 slices_symMergeCmpFunc_box_line_C:=good_dm
def kcp:Ctr:=⟨ "",slices_symMergeCmpFunc_box_line_C.as,slices_symMergeCmpFunc_box_line_C.rs,slices_symMergeCmpFunc_box_line_C.F,slices_symMergeCmpFunc_box_line_m0_M::slices_symMergeCmpFunc_box_line_C.mus,slices_symMergeCmpFunc_box_line_C.its⟩
theorem kfe:Good Tryz.prog 124 kcp:=(slices_symMergeCmpFunc_box_line_C_ok.more keu)
def slices_stableCmpFunc_box_line_m0_M:CtrM:=⟨ "",[none,some (.i .i64),some (.fn 2 (.pr tLine tLine) (.i .i64))],⟨[(0,.mw 0)],[(0,.sl 121 tLine)]⟩,1,⟨[(0,.mw 0)],[(0,.sl 121 tLine)]⟩,1,0,fun x=>kcQ x.1 x.2.1 x.2.2,false⟩
theorem kfi:slices_stableCmpFunc_box_line_m0_M.ok=true/\GoodM Tryz.prog 106 slices_stableCmpFunc_box_line_m0_M:=
 kal Tryz.func106 (by kernel_rfl) (An:=[(0,⟨⟨[(8,.c (.i .i64)),(7,.c (.i .i64))],[(0,.sl 121 tLine)]⟩,⟨[(7,.c (.i .i64))],[(0,.sl 121 tLine)]⟩,[1,2,6],[],2,false,""⟩),(8,⟨⟨[(6,.c (.i .i64))],[(0,.sl 121 tLine)]⟩,⟨[],[(0,.sl 121 tLine)]⟩,[1,2],[],3,false,""⟩),(16,⟨⟨[(8,.c (.i .i64)),(7,.c (.i .i64))],[(0,.sl 121 tLine)]⟩,⟨[(7,.c (.i .i64))],[(0,.sl 121 tLine)]⟩,[6],[],3,false,""⟩)]) [(124,kcp),(123,kbE)] (.cons kfe <| .cons kdX <| .nil) (fun x=>by kernel_rfl)
def slices_stableCmpFunc_box_line_C:Ctr:=⟨ "",[],[],fun _=>none,[],[]⟩
theorem slices_stableCmpFunc_box_line_C_ok:Good Tryz.prog 106 slices_stableCmpFunc_box_line_C:=good_dm
def kcK:Ctr:=⟨ "",slices_stableCmpFunc_box_line_C.as,slices_stableCmpFunc_box_line_C.rs,slices_stableCmpFunc_box_line_C.F,slices_stableCmpFunc_box_line_m0_M::slices_stableCmpFunc_box_line_C.mus,slices_stableCmpFunc_box_line_C.its⟩
theorem kfI:Good Tryz.prog 106 kcK:=(slices_stableCmpFunc_box_line_C_ok.more kfi)
def slices_SortStableFunc_s_box_line_box_line_m0_M:CtrM:=⟨ "",[none,some (.fn 2 (.pr tLine tLine) (.i .i64))],⟨[(0,.mw 0)],[(0,.sl 121 tLine)]⟩,1,⟨[(0,.mw 0)],[(0,.sl 121 tLine)]⟩,1,0,fun x=>kaG x.1 x.2,false⟩
theorem kcF:slices_SortStableFunc_s_box_line_box_line_m0_M.ok=true/\GoodM Tryz.prog 72 slices_SortStableFunc_s_box_line_box_line_m0_M:=
 kal Tryz.func72 (by kernel_rfl) (An:=[]) [(106,kcK)] (.cons kfI <| .nil) (fun x=>by kernel_rfl)
def slices_SortStableFunc_s_box_line_box_line_C:Ctr:=⟨ "",[],[],fun _=>none,[],[]⟩
theorem slices_SortStableFunc_s_box_line_box_line_C_ok:Good Tryz.prog 72 slices_SortStableFunc_s_box_line_box_line_C:=good_dm
def kbi:Ctr:=⟨ "",slices_SortStableFunc_s_box_line_box_line_C.as,slices_SortStableFunc_s_box_line_box_line_C.rs,slices_SortStableFunc_s_box_line_box_line_C.F,slices_SortStableFunc_s_box_line_box_line_m0_M::slices_SortStableFunc_s_box_line_box_line_C.mus,slices_SortStableFunc_s_box_line_box_line_C.its⟩
theorem kcO:Good Tryz.prog 72 kbi:=(slices_SortStableFunc_s_box_line_box_line_C_ok.more kcF)
def box_cheapest_c1_m0_M:CtrM:=⟨ "",[some (.pr (.i .i64) (.i .u8)),none,none,none,none],⟨[(1,.ptr 0 0),(2,.ptr 2 0),(3,.ptr 3 0),(4,.ptr 4 0)],[(0,.bx 113 [.mp 1]),(1,.mp (.pr (.i .i64) (.i .u8)) (.i .i64)),(2,.bx 4 [.c .b]),(3,.bx 3 [.c (.i .i64)]),(4,.bx 115 [.c (.i .i64),.c (.i .u8)])]⟩,5,⟨[(1,.ptr 0 0),(2,.ptr 2 0),(3,.ptr 3 0),(4,.ptr 4 0)],[(0,.bx 113 [.mp 1]),(1,.mp (.pr (.i .i64) (.i .u8)) (.i .i64)),(2,.bx 4 [.c .b]),(3,.bx 3 [.c (.i .i64)]),(4,.bx 115 [.c (.i .i64),.c (.i .u8)])]⟩,5,0,fun x=>kfD x.1 x.2.1 x.2.2.1 x.2.2.2.1 x.2.2.2.2.1 x.2.2.2.2.2,false⟩
theorem kkj:box_cheapest_c1_m0_M.ok=true/\GoodM Tryz.prog 105 box_cheapest_c1_m0_M:=
 kal Tryz.func105 (by kernel_rfl) (An:=[]) [(103,kgy)] (.cons kfT <| .nil) (fun x=>by kernel_rfl)
def box_cheapest_c1_C:Ctr:=⟨ "",[],[],fun _=>none,[],[]⟩
theorem box_cheapest_c1_C_ok:Good Tryz.prog 105 box_cheapest_c1_C:=good_dm
def khV:Ctr:=⟨ "",box_cheapest_c1_C.as,box_cheapest_c1_C.rs,box_cheapest_c1_C.F,box_cheapest_c1_m0_M::box_cheapest_c1_C.mus,box_cheapest_c1_C.its⟩
theorem kkP:Good Tryz.prog 105 khV:=(box_cheapest_c1_C_ok.more kkj)
def box_cheapest_m0_M:CtrM:=⟨ "",[some (.sl tSwap),none,some (.pr (.i .i64) (.i .u8))],⟨[(1,.mp 0)],[(0,.mp (.pr (.i .i64) (.i .u8)) (.i .i64))]⟩,1,⟨[(1,.mp 0),(1000000,.c (.i .i64)),(1000001,.ag [.c (.i .i64),.c (.i .u8)]),(1000002,.c .b)],[(0,.mp (.pr (.i .i64) (.i .u8)) (.i .i64))]⟩,1,3,fun x=>khh x.1 x.2.1 x.2.2,false⟩
theorem klv:box_cheapest_m0_M.ok=true/\GoodM Tryz.prog 70 box_cheapest_m0_M:=
 kal Tryz.func70 (by kernel_rfl) (An:=[(0,⟨⟨[(22,.c (.i .i64)),(12,.fn 105 [.ptr 1 0,.ptr 6 0,.ptr 4 0,.ptr 5 0]),(9,.ptr 4 0),(10,.ptr 5 0),(11,.ptr 6 0)],[(1,.bx 113 [.mp 0]),(0,.mp (.pr (.i .i64) (.i .u8)) (.i .i64)),(6,.bx 4 [.c .b]),(4,.bx 3 [.c (.i .i64)]),(5,.bx 115 [.c (.i .i64),.c (.i .u8)])]⟩,⟨[(9,.ptr 7 0),(10,.ptr 8 0),(11,.ptr 9 0)],[(7,.bx 3 [.c (.i .i64)]),(8,.bx 115 [.c (.i .i64),.c (.i .u8)]),(9,.bx 4 [.c .b]),(0,.mp (.pr (.i .i64) (.i .u8)) (.i .i64))]⟩,[21,20,5,7],[2,3],11,false,""⟩)]) [(105,khV)] (.cons kkP <| .nil) (fun x=>by kernel_rfl)
def box_cheapest_C:Ctr:=⟨ "",[],[],fun _=>none,[],[]⟩
theorem box_cheapest_C_ok:Good Tryz.prog 70 box_cheapest_C:=good_dm
def kka:Ctr:=⟨ "",box_cheapest_C.as,box_cheapest_C.rs,box_cheapest_C.F,box_cheapest_m0_M::box_cheapest_C.mus,box_cheapest_C.its⟩
theorem kmB:Good Tryz.prog 70 kka:=(box_cheapest_C_ok.more klv)
def krB:Ctr:=⟨ "",[(.sl (.pr (.i .i64) (.pr (.i .u8) (.i .i64)))),(.sl (.pr (.i .i64) (.pr (.i .u8) (.i .i64)))),(.sl tSwap),(.sl (.pr (.i .i64) (.pr (.i .u8) (.i .i64))))],[tBill,(.i .i64)],fun x=>kuP x.1 x.2.1 x.2.2.1 x.2.2.2,[],[]⟩
theorem ksk:Good Tryz.prog 23 krB:=
 kae Tryz.func23 (by kernel_rfl) (An:=[(4,⟨⟨[(55,.c (.i .i64)),(13,.mp 3)],[(3,.mp (.pr (.i .i64) (.i .u8)) (.i .i64))]⟩,⟨[(13,.mp 4)],[(4,.mp (.pr (.i .i64) (.i .u8)) (.i .i64))]⟩,[54,53,1,2,10,8,3],[2,0,1],5,false,""⟩),(12,⟨⟨[(67,.c (.i .i64)),(13,.mp 4),(16,.mw 5)],[(4,.mp (.pr (.i .i64) (.i .u8)) (.i .i64)),(5,.sl 121 tLine)]⟩,⟨[(16,.mw 6)],[(6,.sl 121 tLine)]⟩,[66,65,2,1,10,8,3],[2,0,1],7,false,""⟩),(20,⟨⟨[(101,.c (.i .i64))],[]⟩,⟨[],[]⟩,[100,99,10,22,8,23,3],[6,12,7,9,2,0,1,13],14,true,""⟩),(28,⟨⟨[(152,.c (.i .i64)),(8,.ptr 2 0),(22,.ptr 12 0)],[(2,.bx 43 [.mw 0,.mw 1,.c (.i .i64)]),(12,.bx 43 [.mw 7,.mw 9,.c (.i .i64)]),(9,.sl 50 (.pr (.i .i64) (.pr (.i .u8) (.i .i64))))]⟩,⟨[(22,.ptr 14 0),(8,.ptr 16 0)],[(14,.bx 43 [.mw 7,.mw 15,.c (.i .i64)]),(15,.sl 50 (.pr (.i .i64) (.pr (.i .u8) (.i .i64)))),(16,.bx 43 [.mw 0,.mw 1,.c (.i .i64)])]⟩,[151,150,23],[13,0,1,7],17,true,""⟩),(4,⟨⟨[(55,.c (.i .i64)),(13,.mp 7)],[(7,.mp (.pr (.i .i64) (.i .u8)) (.i .i64))]⟩,⟨[(13,.mp 8)],[(8,.mp (.pr (.i .i64) (.i .u8)) (.i .i64))]⟩,[54,53,1,2,10,8,3],[3,4,5,6,2,0,1],9,false,""⟩),(12,⟨⟨[(67,.c (.i .i64)),(13,.mp 8),(16,.mw 9)],[(8,.mp (.pr (.i .i64) (.i .u8)) (.i .i64)),(9,.sl 121 tLine)]⟩,⟨[(16,.mw 10)],[(10,.sl 121 tLine)]⟩,[66,65,2,1,10,8,3],[3,4,5,6,2,0,1],11,false,""⟩),(20,⟨⟨[(101,.c (.i .i64)),(10,.ptr 3 0),(22,.ptr 16 0),(8,.ptr 2 0),(23,.mp 17)],[(3,.bx 134 [.c (.sl (.pr (.i .i64) (.pr (.i .u8) (.i .i64)))),.mw 4,.fw 5,.mw 6]),(4,.sl 31 (.sl (.i .i64))),(5,.fm 31 (.sl (.i .i64)) 0 3 (.i .i64)),(6,.sl 3 (.i .i64)),(16,.bx 43 [.mw 11,.mw 13,.c (.i .i64)]),(11,.sl 3 (.i .i64)),(2,.bx 43 [.mw 0,.mw 1,.c (.i .i64)]),(17,.mp (.pr (.i .i64) (.i .u8)) (.i .i64))]⟩,⟨[(23,.mp 18),(8,.ptr 19 0),(22,.ptr 20 0)],[(18,.mp (.pr (.i .i64) (.i .u8)) (.i .i64)),(19,.bx 43 [.mw 0,.mw 1,.c (.i .i64)]),(20,.bx 43 [.mw 21,.mw 13,.c (.i .i64)]),(21,.sl 3 (.i .i64))]⟩,[100,99,3],[10,13,0,1],22,true,""⟩),(114,⟨⟨[],[]⟩,⟨[(125,.c .b)],[]⟩,[26,25,8,22,23,101,10],[18,2,16,11,17,3,4,5,6],19,false,""⟩),(28,⟨⟨[(152,.c (.i .i64)),(8,.ptr 19 0),(22,.ptr 20 0)],[(19,.bx 43 [.mw 0,.mw 1,.c (.i .i64)]),(20,.bx 43 [.mw 21,.mw 13,.c (.i .i64)]),(13,.sl 50 (.pr (.i .i64) (.pr (.i .u8) (.i .i64))))]⟩,⟨[(22,.ptr 22 0),(8,.ptr 24 0)],[(22,.bx 43 [.mw 21,.mw 23,.c (.i .i64)]),(23,.sl 50 (.pr (.i .i64) (.pr (.i .u8) (.i .i64)))),(24,.bx 43 [.mw 0,.mw 1,.c (.i .i64)])]⟩,[151,150,23],[18,0,1,21],25,true,""⟩)]) [(58,kjS),(70,kka),(72,kbi),(73,knm),(69,kbq),(68,kmb),(67,kfW),(65,knd),(59,kgJ),(71,kea)] (.cons kkk <| .cons kmB <| .cons kcO <| .cons kqq <| .cons kda <| .cons kpj <| .cons kiP <| .cons kqc <| .cons khU <| .cons kdv <| .nil) (fun x=>by kernel_rfl)
def kmc:Ctr:=⟨ "",[],[(.sl (.sl (.pr (.i .i64) (.pr (.i .u8) (.i .i64)))))],fun x=>law08_plans,[],[]⟩
theorem kpg:Good Tryz.prog 46 kmc:=
 kae Tryz.func46 (by kernel_rfl) (An:=[]) [(43,khG)] (.cons khk <| .nil) (fun x=>by kernel_rfl)
def kkb:Ctr:=⟨ "",[(.i .i64)],[.b],fun x=>kkW x,[],[]⟩
theorem kmA:Good Tryz.prog 107 kkb:=
 kae Tryz.func107 (by kernel_rfl) (An:=[]) [(66,kfN)] (.cons keE <| .nil) (fun x=>by kernel_rfl)
def kbQ:Ctr:=⟨ "",[(.sl (.i .i64)),(.fn 1 (.i .i64) .b)],[(.i .i64)],fun x=>kcn x.1 x.2,[],[]⟩
theorem kcX:Good Tryz.prog 86 kbQ:=
 kae Tryz.func86 (by kernel_rfl) (An:=[(0,⟨⟨[(8,.c (.i .i64))],[]⟩,⟨[],[]⟩,[7,1,0],[],0,true,""⟩)]) [] (.nil) (fun x=>by kernel_rfl)
def kcY:Ctr:=⟨ "",[(.sl (.i .i64)),(.fn 1 (.i .i64) .b)],[.b],fun x=>kdJ x.1 x.2,[],[]⟩
theorem kfY:Good Tryz.prog 108 kcY:=
 kae Tryz.func108 (by kernel_rfl) (An:=[]) [(86,kbQ)] (.cons kcX <| .nil) (fun x=>by kernel_rfl)
def kmr:Ctr:=⟨ "",[(.sl (.sl (.pr (.i .i64) (.pr (.i .u8) (.i .i64))))),(.sl (.i .i64))],[(.i .i64)],fun x=>koC x.1 x.2,[],[]⟩
theorem kpb:Good Tryz.prog 74 kmr:=
 kae Tryz.func74 (by kernel_rfl) (An:=[]) [(108,kcY),(107,kkb),(50,kcm)] (.cons kfY <| .cons kmA <| .cons kbR <| .nil) (fun x=>by kernel_rfl)
def kmn:Ctr:=⟨ "",[(.i .i64),(.i .i64)],[(.i .i64)],fun x=>kir x.1 x.2,[],[]⟩
theorem kpn:Good Tryz.prog 53 kmn:=
 kae Tryz.func53 (by kernel_rfl) (An:=[]) [] (.nil) (fun x=>by kernel_rfl)
def kmi:Ctr:=⟨ "",[(.pr (.i .i64) (.pr (.i .u8) (.i .i64)))],[.b],fun x=>kkH x,[],[]⟩
theorem kpr:Good Tryz.prog 55 kmi:=
 kae Tryz.func55 (by kernel_rfl) (An:=[]) [] (.nil) (fun x=>by kernel_rfl)
def kpK:Ctr:=⟨ "",[(.sl (.pr (.i .i64) (.pr (.i .u8) (.i .i64)))),(.sl (.pr (.i .i64) (.pr (.i .u8) (.i .i64))))],[(.sl (.pr (.i .i64) (.pr (.i .u8) (.i .i64)))),(.i .i64)],fun x=>kbT x.1 x.2,[],[]⟩
theorem box_Take_C_ok:Good Tryz.prog 17 kpK:=
 kae Tryz.func17 (by kernel_rfl) (An:=[]) [(55,kmi),(53,kmn),(51,kjR),(50,kcm),(54,kaK)] (.cons kpr <| .cons kpn <| .cons kkx <| .cons kbR <| .cons kbm <| .nil) (fun x=>by kernel_rfl)
def kcq:Ctr:=⟨ "",[(.sl (.pr (.i .i64) (.pr (.i .u8) (.i .i64))))],[(.sl (.pr (.i .i64) (.pr (.i .u8) (.i .i64))))],fun x=>kar x,[],[]⟩
theorem slices_Clone_s_api_Item_api_Item_C_ok:Good Tryz.prog 80 kcq:=
 kae Tryz.func80 (by kernel_rfl) (An:=[]) [] (.nil) (fun x=>by kernel_rfl)
def growT:Ty:=.sl (.pr (.i .i64) (.pr (.i .u8) (.i .i64)))
abbrev GrowL:=List (Int×Int×Int)
def growA (x:GrowL):AV:=growT.av x
def growE (x:GrowL):List AV:=growT.enc x
def growY (y:Int×GrowL):List AV:=[.sc (.int .i64 y.1),growA y.2]
def growG (l:Nat) (A:AV):Nat->AV
 | 0=>.fn 110 [A,.fp [.sc (.func (.yield l) #[] #[])],.un]
 | d+1=>.fn 110 [A,.fp [.sc (.func (.yield l) #[] #[])],.fp [growG l A d]]
theorem kwy {l:Nat} {A:AV}:∀ d,(growG l A d).one=true
 | 0=>rfl
 | _+1=>rfl
theorem kpz {l:Nat} {A:AV} (hA:Free A):∀ d,Free (growG l A d)
 | 0=>by
  simp only [growG,kgW,kbo,kii,kqC,kfr,and_true,true_and]
  exact ⟨hA,.un⟩
 | d+1=>by
  have:=kpz (l:=l) hA d
  simp only [growG,kgW,kbo,kii,kqC,kfr,and_true,true_and]
  exact ⟨hA,this⟩
theorem khu (x:GrowL):Free (growA x):=kgX growT x rfl
theorem kwT {l p:GrowL} {r:GrowL×Int} (h:kbT l p=some r):PC Tryz.prog 17 [growA l,growA p] (·= .tp [growA r.1,.sc (.int .i64 r.2)]):=
 box_Take_C_ok.2.1 (l,p) r h _ ⟨_,_,rfl,(kcs rfl).2 rfl,_,rfl,(kcs rfl).2 rfl⟩
theorem kou (ps:List GrowL):Free (.sl (ps.map growE)):=kgX (.sl growT) ps rfl
theorem kqF (l:Nat) (ps:List GrowL):∀ (d:Nat) (i s:Int) (x:GrowL) (ls:List (Int×GrowL)),kbS d ps i s x=some ls->
  YV Tryz.prog l (growG l (.fp [.sl (ps.map growE)]) d) [.sc (.int .i64 i),.sc (.int .i64 s),growA x] (ls.map growY)
 | 0,i,s,x,ls,h=>by cases h
 | d+1,i,s,x,ls,h=>by
  refine YV.of_body (fn:=Tryz.f110) (rd:=9) Tryz.func110 rfl (by kernel_rfl) (by show 6<=49; omega) (by show 49<=9000000; omega) rfl fun D G O k hD hl ok hx=>?_
  subst hl
  have hg:=kpz (l:=G.l) (A:=.fp [.sl (ps.map growE)]) (by simpa using kou ps) d
  have hfree:=khu x
  let I:AV:=.sc (.int .i64 i)
  let S:AV:=.sc (.int .i64 s)
  let X:=growA x
  let A:AV:=.fp [.sl (ps.map growE)]
  let R:AV:=.fp [growG G.l A d]
  refine Sat.ofL ?_
  refine SatL.seq (SatL.rreg rfl ⟨.sc (.bool false),.assign rfl rfl,?_⟩)
  refine SatL.seq (SatL.seq (SatL.rreg rfl ⟨I,.move rfl rfl,_,.load rfl rfl (by kernel_rfl),_,.len rfl rfl rfl rfl rfl (by kernel_rfl),_,.bin rfl rfl rfl (fun K hk=>⟨rfl,hk⟩),?_⟩))
  refine SatL.condX (v:=i==(ps.map growE).length) rfl (fun e=>?_) fun e=>SatL.skip ?_
  ·have hi:i=lenI ps:=by simpa [lenI] using e
   obtain rfl:[(s,x)]=ls:=Option.some.inj ((if_pos hi).symm.trans h)
   refine SatL.seq (SatL.yreg 3 rfl hD ok rfl ⟨_,.load rfl rfl (by kernel_rfl),S,.move rfl rfl,X,.move rfl rfl,YieldK.of [] (z:=ah0) (es:=List.replicate k []) (avs:=[.sc (.int .i64 s),growA x]) (.inl rfl) rfl rfl .yield rfl (by simpa [growY] using hx) (fun q B h=>by cases h) (Snap.V (.free _ (.sc _))) (SnapL.free (show FreeL [S,X] by simp [S,X,hfree])) (fun t ht=>by cases ht) (aopsR.plain ⟨.sc (.bool true),.assign rfl rfl,?_⟩) (aopsR.plain ⟨.sc (.bool false),.assign rfl rfl,?_⟩)⟩)
   ·exact SatL.ret ⟨.inr rfl,.inl ⟨_,rfl,by simp,rfl⟩⟩
   ·exact SatL.ret ⟨.inr rfl,.inr ⟨rfl,rfl⟩⟩
  have hi:¬ i=lenI ps:=by simpa [lenI] using e
  replace h:=(if_neg hi).symm.trans h
  obtain ⟨p,hp,h⟩:=jaa.1 h
  obtain ⟨r,hr,h⟩:=jaa.1 h
  obtain ⟨h0,hp⟩:=knt hp
  let Z:=growA r.1
  let E:AV:=.sc (.int .i64 r.2)
  refine SatL.seq (SatL.seq (SatL.rreg rfl ⟨X,.move rfl rfl,_,.load rfl rfl (by kernel_rfl),I,.move rfl rfl,_,.idx (e:=22) (c:=growE p) rfl rfl rfl (by kernel_rfl) h0 (by simp; exact ⟨p,hp,rfl⟩) (by kernel_rfl) (by simp [growE,growT,Ty.enc]),growA p,.load rfl rfl (by kernel_rfl),.tp [Z,E],.call rfl rfl rfl rfl (kwT hr) (show FreeL [X,growA p] by simp only [kbo,kfr,and_true]; exact ⟨hfree,khu p⟩),.tp [Z,E],.move rfl rfl,Z,.extract rfl rfl rfl,E,.extract rfl rfl rfl,Z,.assign rfl rfl,E,.assign rfl rfl,?_⟩))
  have last:∀ (es:List (List AV)) (ls2:List (Int×GrowL)) (env:Env),lk env GS = .gs es->lk env 0=I->lk env 1=S->lk env 2=X->lk env 5=R->kbS d ps (w64 (i+1)) s x=some ls2->es.length+ls2.length=k+ls.length->(∀ j,j<ls2.length->G.xs[es.length+j]?=(ls2.map growY)[j]?)->
    SatL Tryz.prog 49 D O [(Tryz.f110.body.getD .skip |> fun c=>match c with | .seq _ (.seq _ (.seq _ c))=>c | c=>c)] (yvQ 9 (k+(ls.map growY).length)) ⟨env,ah0,0⟩:=by
   intro es ls2 env e1 e2 e3 e4 e5 hg2 hlen hx2
   let I1:AV:=.sc (.int .i64 (w64 (i+1)))
   refine SatL.seq (SatL.yreg 5 rfl hD ok rfl ⟨growG G.l A d,.load rfl (show deref ah0 (lk env 5)=_ by rw [e5]; rfl) (by kernel_rfl),I,.move rfl e2,I1,.bin rfl rfl rfl (fun K hk=>⟨rfl,hk⟩),S,.move rfl e3,X,.move rfl e4,
    YieldK.of [] (z:=ah0) (es:=es) (avs:=[I1,S,X]) (.inl rfl) rfl rfl (kqF G.l ps d (w64 (i+1)) s x ls2 hg2) e1 (by simpa using hx2) (fun q B h=>by cases h) (Snap.V (.free _ hg)) (SnapL.free (show FreeL [I1,S,X] by simp [I1,S,X,hfree])) (fun t ht=>by cases ht) (aopsR.plain ⟨.sc (.bool true),.assign rfl rfl,?_⟩) (aopsR.plain ⟨.sc (.bool false),.assign rfl rfl,?_⟩)⟩)
   ·exact SatL.ret ⟨.inr rfl,.inl ⟨_,rfl,by simp; omega,rfl⟩⟩
   ·exact SatL.ret ⟨.inr rfl,.inr ⟨rfl,rfl⟩⟩
  by_cases hr0:r.2=0
  ·rw [if_pos hr0] at h
   obtain ⟨b,hb,h⟩:=jaa.1 h
   obtain ⟨l1,hl1,h⟩:=jaa.1 h
   obtain ⟨l2,hl2,h⟩:=jaa.1 h
   obtain rfl:l1++l2=ls:=Option.some.inj h
   obtain rfl:w64 (1*2 ^ (min i.toNat 64))=b:=Option.some.inj ((if_pos h0).symm.trans hb)
   have hx1:∀ j,j<l1.length+l2.length->G.xs[k+j]?=(l1.map growY++l2.map growY)[j]?:=fun j hj=>by
    rw [<-jcw]
    exact hx j (by rw [jar]; exact Nat.lt_of_lt_of_eq hj jbc.symm)
   have hlen:(l1++l2).length=l1.length+l2.length:=jbc
   let I1:AV:=.sc (.int .i64 (w64 (i+1)))
   let W:AV:=.sc (.int .i64 (w64 (1*2 ^ (min i.toNat 64))))
   let S1:AV:=.sc (.int .i64 (bitsI .or .i64 s (w64 (1*2 ^ (min i.toNat 64)))))
   refine SatL.seq (SatL.yregD 11 rfl hD ok (by kernel_rfl) (by kernel_rfl) (by kernel_rfl) (by kernel_rfl) rfl ⟨E,.move rfl rfl,.sc (.bool true),.bin rfl rfl rfl (fun K hk=>⟨rfl,by rw [hr0]; exact hk⟩),.sc (.bool true),.move rfl rfl,growG G.l A d,.load rfl rfl (by kernel_rfl),I,.move rfl rfl,I1,.bin rfl rfl rfl (fun K hk=>⟨rfl,hk⟩),S,.move rfl rfl,I,.move rfl rfl,
    W,.bin rfl rfl rfl (fun K hk=>⟨h0,hk⟩),S1,.bin rfl rfl rfl (fun K hk=>⟨rfl,hk⟩),Z,.move rfl rfl,
    YieldK.of [0,1,2,5,31] (z:=ah0) (es:=List.replicate k []) (avs:=[I1,S1,Z]) (.inr ⟨_,_,_,rfl,rfl,rfl⟩) rfl rfl (kqF G.l ps d (w64 (i+1)) _ r.1 l1 hl1) rfl (fun j hj=>?_) (fun q B h=>by cases h) (Snap.V (.free _ hg)) (SnapL.free (show FreeL [I1,S1,Z] by simp only [I1,S1,kbo,kfr,and_true,kqC,true_and]; exact khu r.1)) (fun t ht=>?_)
     (aopsR.plain ⟨.sc (.bool false),.not true rfl rfl rfl,.sc (.bool false),.pick rfl rfl rfl,?_⟩) (aopsR.plain ⟨.sc (.bool true),.not false rfl rfl rfl,.sc (.bool true),.pick rfl rfl rfl,?_⟩)⟩)
   ·rw [jar] at hj
    rw [jcp,hx1 j (by omega),jbl (by simpa using hj)]
   ·simp only [jax,List.not_mem_nil,or_false] at ht
    rcases ht with rfl | rfl | rfl | rfl | rfl
    ·exact .sc _
    ·exact .sc _
    ·exact hfree
    ·show Free R
     simp only [R,kii,kbo,kfr,and_true]
     exact hg
    ·exact .sc _
   ·exact SatL.condF (v:=false) rfl rfl (SatL.skip (last _ l2 _ rfl rfl rfl rfl rfl hl2 (by rw [jbc,jcp,jar,hlen]; omega) (fun j hj=>by rw [jbc,jcp,jar,jdu,hx1 _ (by omega),jce (by simp),jar,Nat.add_sub_cancel_left])))
   ·exact SatL.condT (v:=true) rfl rfl (SatL.seq (SatL.rreg rfl ⟨.sc (.bool false),.assign rfl rfl,SatL.ret ⟨.inr rfl,.inr ⟨rfl,rfl⟩⟩⟩))
  ·rw [if_neg hr0] at h
   refine SatL.seq (SatL.rregD (by kernel_rfl) (by kernel_rfl) rfl ⟨E,.move rfl rfl,.sc (.bool false),.bin rfl rfl rfl (fun K hk=>⟨rfl,by rw [show (r.2==0)=false by simpa using hr0]; exact hk⟩),.sc (.bool false),.move rfl rfl,.sc (.bool false),.pick rfl rfl rfl,?_⟩)
   exact SatL.condF (v:=false) rfl rfl (SatL.skip (last _ ls _ rfl rfl rfl rfl rfl h (by simp) (by simpa using hx)))
theorem kvt {x l:GrowL} (h:kar x=some l):PC Tryz.prog 80 [growA x] (·= growA l):=
 slices_Clone_s_api_Item_api_Item_C_ok.2.1 x l h _ ⟨_,rfl,(kcs rfl).2 rfl⟩
def kld:CtrI:=⟨ "",[.pt (.sl growT),.pt growT],[.i .i64,growT],fun x=>runI fun o=>khz o x.1 x.2⟩
theorem kvL {l:Nat} {A:AV} {h:AH} (hA:Free A) (h0:h 0=some (.cells 1 161 [[.sc (.func (.yield l) #[] #[])]])) (h1:h 1=some (.cells 1 162 [[.fn 110 [A,.own 0 0 0,.own 1 0 0]]])):∀ d,SnapV h (.fn 110 [A,.own 0 0 0,.own 1 0 0]) (growG l A d):=fun d=>by
 have step:∀ R,SnapV h (.own 1 0 0) R->SnapV h (.fn 110 [A,.own 0 0 0,.own 1 0 0]) (.fn 110 [A,.fp [.sc (.func (.yield l) #[] #[])],R]):=fun R hR=>.fn rfl fun q c c' hc hc'=>by
  match q,hc,hc' with
  | 0,hc,hc'=>cases hc; cases hc'; exact Snap.V (.free _ hA)
  | 1,hc,hc'=>cases hc; cases hc'; exact SnapV.own1 h0 rfl (Snap.V (.free _ (.sc _)))
  | 2,hc,hc'=>cases hc; cases hc'; exact hR
  | q+3,hc,hc'=>cases hc
 induction d with
 | zero=>exact step _ .un
 | succ d ih=>exact step _ (.own1 h1 (kwy d) ih)
theorem koa:GoodI Tryz.prog 109 kld:=by
 refine ⟨rfl,fun x xs hF l hl=>?_⟩
 obtain ⟨ps,x⟩:=x
 obtain ⟨a,l',rfl,ha,a',rfl,ha'⟩:=hl
 obtain rfl:=(kcs rfl).1 ha
 obtain rfl:=(kcs rfl).1 ha'
 have hF:(kar x).bind (fun l=>kbS (ps.length+1) ps 0 0 l)=some xs:=by
  obtain ⟨xs1,h1,h2⟩:=jaa.1 (show runI (fun o=>khz o ps x)=some xs from hF)
  obtain ⟨ys,h3,h4⟩:=jaa.1 h2
  split at h4
  ·cases h4; exact h1
  ·cases h4
 obtain ⟨c,hc,hg⟩:=jaa.1 hF
 refine IT.of_body (fn:=Tryz.f109) Tryz.func109 rfl (by kernel_rfl) (by show 3<=10; omega) (by show 10<=9000000; omega) rfl fun D G O hD hx ok=>?_
 have hA:Free (.fp [.sl (ps.map growE)]):=by simpa using kou ps
 let Y:AV:=.sc (.func (.yield G.l) #[] #[])
 let A:AV:=.fp [.sl (ps.map growE)]
 let F:AV:=.fn 110 [A,.own 0 0 0,.own 1 0 0]
 let H0:AH:=updH ah0 0 (.cells 1 161 [[Y]])
 let H1:AH:=updH H0 1 (.cells 1 162 [[.sc .nilFunc]])
 let H2:AH:=updH H1 1 (.cells 1 162 [[F]])
 let e0:Env:=(GS,.gs [])::kao (.sc (.func (.yield G.l) #[] #[])::[(Ty.pt (.sl growT)).av ps,(Ty.pt growT).av x])
 refine Sat.ofL (SatL.seq (Sat.region rfl (show SatL Tryz.prog 10 D O _ _ ⟨(3,.own 0 0 0)::e0,H0,1⟩ from ?_)))
 refine SatL.seq (Sat.region rfl (aops.cons rfl<|aop.alloc (z:=[.sc .nilFunc]) rfl (by kernel_rfl) (show SatL Tryz.prog 10 D O _ _ ⟨(4,.own 1 0 0)::(3,.own 0 0 0)::e0,H1,2⟩ from ?_)))
 refine SatL.seq (Sat.region rfl (aops.cons rfl<|aop.mkfn (v:=F) rfl rfl<|aops.cons rfl<|aop.store (id:=1) (k:=1) (T':=162) (a:=.sc .nilFunc) (b:=F) rfl rfl rfl rfl (by kernel_rfl) (show SatL Tryz.prog 10 D O _ _ ⟨(5,F)::(4,.own 1 0 0)::(3,.own 0 0 0)::e0,H2,2⟩ from ?_)))
 let C:=growA c
 refine SatL.yregD 3 rfl hD ok (by kernel_rfl) (by kernel_rfl) (by kernel_rfl) (by kernel_rfl) rfl ⟨F,.load rfl rfl (by kernel_rfl),growA x,.load rfl rfl (by kernel_rfl),C,.call rfl rfl rfl rfl (kvt hc) (show FreeL [growA x] by simpa using khu x),
  YieldK.of [] (z:=H2) (es:=[]) (avs:=[.sc (.int .i64 0),.sc (.int .i64 0),C]) (.inl rfl) rfl rfl (kqF G.l ps (ps.length+1) 0 0 c xs hg) rfl (fun j hj=>?_) (fun q B h=>h) (kvL hA rfl rfl _) (SnapL.free (show FreeL [.sc (.int .i64 0),.sc (.int .i64 0),C] by simpa using khu c)) (fun t ht=>by cases ht) ?_ ?_⟩
 ·rw [hx]; simp only [List.length_nil,jcb]; rfl
 ·exact ⟨.inl rfl,.inl ⟨_,rfl,rfl⟩⟩
 ·exact ⟨.inl rfl,.inr rfl⟩
def kfP:Ctr:=⟨ "",[],[],fun _=>none,[],[kld]⟩
theorem kgb:Good Tryz.prog 109 kfP:=good_dm.moreI koa
def box_built_m0_M:CtrM:=⟨ "",[some (.sl (.pr (.i .i64) (.pr (.i .u8) (.i .i64)))),some (.sl (.sl (.pr (.i .i64) (.pr (.i .u8) (.i .i64)))))],⟨[],[]⟩,0,⟨[(1000000,.fn 109 [.ptr 0 0,.ptr 1 0])],[(0,.bx 54 [.c (.sl (.sl (.pr (.i .i64) (.pr (.i .u8) (.i .i64)))))]),(1,.bx 22 [.c (.sl (.pr (.i .i64) (.pr (.i .u8) (.i .i64))))])]⟩,2,1,fun x=>kmZ x.1 x.2,false⟩
theorem kod:box_built_m0_M.ok=true/\GoodM Tryz.prog 75 box_built_m0_M:=
 kal Tryz.func75 (by kernel_rfl) (An:=[]) [(109,kfP)] (.cons kgb <| .nil) (fun x=>by kernel_rfl)
def box_built_C:Ctr:=⟨ "",[],[],fun _=>none,[],[]⟩
theorem box_built_C_ok:Good Tryz.prog 75 box_built_C:=good_dm
def kmk:Ctr:=⟨ "",box_built_C.as,box_built_C.rs,box_built_C.F,box_built_m0_M::box_built_C.mus,box_built_C.its⟩
theorem koP:Good Tryz.prog 75 kmk:=(box_built_C_ok.more kod)
def kmj:Ctr:=⟨ "",[(.i .i64),(.sl (.i .i64))],[(.sl (.i .i64)),(.i .i64)],fun x=>kon x.1 x.2,[],[]⟩
theorem kpl:Good Tryz.prog 76 kmj:=
 kae Tryz.func76 (by kernel_rfl) (An:=[(0,⟨⟨[(12,.c (.i .i64)),(6,.mw 1),(7,.c (.i .i64))],[(1,.sl 3 (.i .i64))]⟩,⟨[(6,.mw 2),(7,.c (.i .i64))],[(2,.sl 3 (.i .i64))]⟩,[11,10,0],[],3,false,""⟩)]) [] (.nil) (fun x=>by kernel_rfl)
def kev:Ctr:=⟨ "",[(.sl (.i .i64)),(.sl (.i .i64))],[(.i .i64)],fun x=>kfz x.1 x.2,[],[]⟩
theorem khO:Good Tryz.prog 79 kev:=
 kae Tryz.func79 (by kernel_rfl) (An:=[(0,⟨⟨[(11,.c (.i .i64))],[]⟩,⟨[],[]⟩,[10,9,1,0],[],0,true,""⟩)]) [(78,kdO)] (.cons ket <| .nil) (fun x=>by kernel_rfl)
def kne:Ctr:=⟨ "",[(.sl (.pr (.i .i64) (.pr (.i .u8) (.i .i64)))),(.sl (.sl (.pr (.i .i64) (.pr (.i .u8) (.i .i64))))),(.sl (.i .i64))],[kxI,(.i .i64)],fun x=>kpJ x.1 x.2.1 x.2.2,[],[]⟩
theorem kqk:Good Tryz.prog 28 kne:=
 kae Tryz.func28 (by kernel_rfl) (An:=[(73,⟨⟨[],[]⟩,⟨[(8,.c (.i .i64))],[]⟩,[1,5,6,0],[0,3,1,2],5,false,""⟩),(0,⟨⟨[],[(9,.bx 57 [.c (.sl (.i .i64)),.c (.i .i64),.c (.sl (.pr (.i .i64) (.pr (.i .u8) (.i .i64))))])]⟩,⟨[],[(9,.bx 57 [.c (.sl (.i .i64)),.c (.i .i64),.c (.sl (.pr (.i .i64) (.pr (.i .u8) (.i .i64))))])]⟩,[29,9,6,5],[3,1,2,0],13,false,""⟩)]) [(79,kev),(76,kmj),(75,kmk),(109,kfP),(80,kcq),(74,kmr),(50,kcm),(77,kjz),(78,kdO)] (.cons khO <| .cons kpl <| .cons koP <| .cons kgb <| .cons slices_Clone_s_api_Item_api_Item_C_ok <| .cons kpb <| .cons kbR <| .cons kku <| .cons ket <| .nil) (fun x=>by kernel_rfl)
def kdS:CtrI:=⟨ "",[(.pt (.sl (.i .i64)))],[(.i .i64)],fun x=>runI fun o=>kdL o x⟩
theorem khd:GoodI Tryz.prog 131 kdS:=
 kxi Tryz.func131 (by kernel_rfl) (An:=[(0,⟨⟨[(7,.c (.i .i64)),(9000000,.gs (.i .i64))],[]⟩,⟨[(9000000,.gs (.i .i64))],[]⟩,[6,5],[],1,true,""⟩)]) [] (.nil) (fun x=>by kernel_rfl)
def kaz:Ctr:=⟨ "",[],[],fun _=>none,[],[kdS]⟩
theorem kaE:Good Tryz.prog 131 kaz:=good_dm.moreI khd
def slices_Values_s_int_int_m0_M:CtrM:=⟨ "",[some (.sl (.i .i64))],⟨[],[]⟩,0,⟨[(1000000,.fn 131 [.ptr 0 0])],[(0,.bx 31 [.c (.sl (.i .i64))])]⟩,1,1,fun x=>keD x,false⟩
theorem khf:slices_Values_s_int_int_m0_M.ok=true/\GoodM Tryz.prog 118 slices_Values_s_int_int_m0_M:=
 kal Tryz.func118 (by kernel_rfl) (An:=[]) [(131,kaz)] (.cons kaE <| .nil) (fun x=>by kernel_rfl)
def slices_Values_s_int_int_C:Ctr:=⟨ "",[],[],fun _=>none,[],[]⟩
theorem slices_Values_s_int_int_C_ok:Good Tryz.prog 118 slices_Values_s_int_int_C:=good_dm
def kej:Ctr:=⟨ "",slices_Values_s_int_int_C.as,slices_Values_s_int_int_C.rs,slices_Values_s_int_int_C.F,slices_Values_s_int_int_m0_M::slices_Values_s_int_int_C.mus,slices_Values_s_int_int_C.its⟩
theorem khj:Good Tryz.prog 118 kej:=(slices_Values_s_int_int_C_ok.more khf)
def kiZ:Ctr:=⟨ "",[(.i .u32)],[(.i .i64)],fun x=>kqf x,[],[]⟩
theorem klE:Good Tryz.prog 147 kiZ:=
 kae Tryz.func147 (by kernel_rfl) (An:=[(17,⟨⟨[],[]⟩,⟨[(0,.c (.i .u32)),(2,.c (.i .i64))],[]⟩,[],[],0,false,""⟩)]) [] (.nil) (fun x=>by kernel_rfl)
def kja:Ctr:=⟨ "",[(.i .u64)],[(.i .i64)],fun x=>kko x,[],[]⟩
theorem kly:Good Tryz.prog 148 kja:=
 kae Tryz.func148 (by kernel_rfl) (An:=[(17,⟨⟨[],[]⟩,⟨[(0,.c (.i .u64)),(2,.c (.i .i64))],[]⟩,[],[],0,false,""⟩),(33,⟨⟨[],[]⟩,⟨[(0,.c (.i .u64)),(2,.c (.i .i64))],[]⟩,[],[],0,false,""⟩)]) [] (.nil) (fun x=>by kernel_rfl)
def khs:Ctr:=⟨ "",[(.i .u64)],[(.i .i64)],fun x=>kiT x,[],[]⟩
theorem kiN:Good Tryz.prog 136 khs:=
 kae Tryz.func136 (by kernel_rfl) (An:=[]) [(148,kja),(147,kiZ)] (.cons kly <| .cons klE <| .nil) (fun x=>by kernel_rfl)
def kbu:Ctr:=⟨ "",[(.i .i64),(.i .i64)],[.b],fun x=>kaC x.1 x.2,[],[]⟩
theorem kbf:Good Tryz.prog 144 kbu:=
 kae Tryz.func144 (by kernel_rfl) (An:=[]) [(111,khl)] (.cons kiJ <| .nil) (fun x=>by kernel_rfl)
def kfU:Ctr:=⟨ "",[(.i .i64)],[(.i .u64)],fun x=>kgY x,[],[]⟩
theorem kiU:Good Tryz.prog 150 kfU:=
 kae Tryz.func150 (by kernel_rfl) (An:=[]) [(136,khs)] (.cons kiN <| .nil) (fun x=>by kernel_rfl)
def slices_xorshift_Next_m0_M:CtrM:=⟨ "",[none],⟨[(0,.ptr 0 0)],[(0,.bx 202 [.c (.i .u64)])]⟩,1,⟨[(0,.ptr 0 0),(1000000,.c (.i .u64))],[(0,.bx 202 [.c (.i .u64)])]⟩,1,1,fun x=>kfV x,false⟩
theorem khW:slices_xorshift_Next_m0_M.ok=true/\GoodM Tryz.prog 151 slices_xorshift_Next_m0_M:=
 kal Tryz.func151 (by kernel_rfl) (An:=[]) [] (.nil) (fun x=>by kernel_rfl)
def slices_xorshift_Next_C:Ctr:=⟨ "",[],[],fun _=>none,[],[]⟩
theorem slices_xorshift_Next_C_ok:Good Tryz.prog 151 slices_xorshift_Next_C:=good_dm
def kfs:Ctr:=⟨ "",slices_xorshift_Next_C.as,slices_xorshift_Next_C.rs,slices_xorshift_Next_C.F,slices_xorshift_Next_m0_M::slices_xorshift_Next_C.mus,slices_xorshift_Next_C.its⟩
theorem kiM:Good Tryz.prog 151 kfs:=(slices_xorshift_Next_C_ok.more khW)
def slices_order2Ordered_int_m0_M:CtrM:=⟨ "",[some (.sl (.i .i64)),some (.i .i64),some (.i .i64),none],⟨[(3,.ptr 0 0)],[(0,.bx 3 [.c (.i .i64)])]⟩,1,⟨[(3,.ptr 0 0),(1000000,.c (.i .i64)),(1000001,.c (.i .i64))],[(0,.bx 3 [.c (.i .i64)])]⟩,1,2,fun x=>kbj x.1 x.2.1 x.2.2.1 x.2.2.2,false⟩
theorem kgQ:slices_order2Ordered_int_m0_M.ok=true/\GoodM Tryz.prog 154 slices_order2Ordered_int_m0_M:=
 kal Tryz.func154 (by kernel_rfl) (An:=[]) [(144,kbu)] (.cons kbf <| .nil) (fun x=>by kernel_rfl)
def slices_order2Ordered_int_C:Ctr:=⟨ "",[],[],fun _=>none,[],[]⟩
theorem slices_order2Ordered_int_C_ok:Good Tryz.prog 154 slices_order2Ordered_int_C:=good_dm
def kdQ:Ctr:=⟨ "",slices_order2Ordered_int_C.as,slices_order2Ordered_int_C.rs,slices_order2Ordered_int_C.F,slices_order2Ordered_int_m0_M::slices_order2Ordered_int_C.mus,slices_order2Ordered_int_C.its⟩
theorem khe:Good Tryz.prog 154 kdQ:=(slices_order2Ordered_int_C_ok.more kgQ)
def slices_medianOrdered_int_m0_M:CtrM:=⟨ "",[some (.sl (.i .i64)),some (.i .i64),some (.i .i64),some (.i .i64),none],⟨[(4,.ptr 0 0)],[(0,.bx 3 [.c (.i .i64)])]⟩,1,⟨[(4,.ptr 0 0),(1000000,.c (.i .i64))],[(0,.bx 3 [.c (.i .i64)])]⟩,1,1,fun x=>kcb x.1 x.2.1 x.2.2.1 x.2.2.2.1 x.2.2.2.2,false⟩
theorem kgN:slices_medianOrdered_int_m0_M.ok=true/\GoodM Tryz.prog 153 slices_medianOrdered_int_m0_M:=
 kal Tryz.func153 (by kernel_rfl) (An:=[]) [(154,kdQ)] (.cons khe <| .nil) (fun x=>by kernel_rfl)
def slices_medianOrdered_int_C:Ctr:=⟨ "",[],[],fun _=>none,[],[]⟩
theorem slices_medianOrdered_int_C_ok:Good Tryz.prog 153 slices_medianOrdered_int_C:=good_dm
def kbN:Ctr:=⟨ "",slices_medianOrdered_int_C.as,slices_medianOrdered_int_C.rs,slices_medianOrdered_int_C.F,slices_medianOrdered_int_m0_M::slices_medianOrdered_int_C.mus,slices_medianOrdered_int_C.its⟩
theorem kcW:Good Tryz.prog 153 kbN:=(slices_medianOrdered_int_C_ok.more kgN)
def slices_medianAdjacentOrdered_int_m0_M:CtrM:=⟨ "",[some (.sl (.i .i64)),some (.i .i64),none],⟨[(2,.ptr 0 0)],[(0,.bx 3 [.c (.i .i64)])]⟩,1,⟨[(2,.ptr 0 0),(1000000,.c (.i .i64))],[(0,.bx 3 [.c (.i .i64)])]⟩,1,1,fun x=>kaI x.1 x.2.1 x.2.2,false⟩
theorem kep:slices_medianAdjacentOrdered_int_m0_M.ok=true/\GoodM Tryz.prog 152 slices_medianAdjacentOrdered_int_m0_M:=
 kal Tryz.func152 (by kernel_rfl) (An:=[]) [(153,kbN)] (.cons kcW <| .nil) (fun x=>by kernel_rfl)
def slices_medianAdjacentOrdered_int_C:Ctr:=⟨ "",[],[],fun _=>none,[],[]⟩
theorem slices_medianAdjacentOrdered_int_C_ok:Good Tryz.prog 152 slices_medianAdjacentOrdered_int_C:=good_dm
def kbY:Ctr:=⟨ "",slices_medianAdjacentOrdered_int_C.as,slices_medianAdjacentOrdered_int_C.rs,slices_medianAdjacentOrdered_int_C.F,slices_medianAdjacentOrdered_int_m0_M::slices_medianAdjacentOrdered_int_C.mus,slices_medianAdjacentOrdered_int_C.its⟩
theorem keI:Good Tryz.prog 152 kbY:=(slices_medianAdjacentOrdered_int_C_ok.more kep)
def kcZ:Ctr:=⟨ "",[(.sl (.i .i64)),(.i .i64),(.i .i64)],[(.i .i64),(.i .i64)],fun x=>kdK x.1 x.2.1 x.2.2,[],[]⟩
theorem kfZ:Good Tryz.prog 141 kcZ:=
 kae Tryz.func141 (by kernel_rfl) (An:=[(129,⟨⟨[(9,.ptr 0 0)],[(0,.bx 3 [.c (.i .i64)])]⟩,⟨[(9,.ptr 1 0),(11,.c (.i .i64))],[(1,.bx 3 [.c (.i .i64)])]⟩,[8,0],[],2,false,""⟩),(137,⟨⟨[(9,.ptr 0 0)],[(0,.bx 3 [.c (.i .i64)])]⟩,⟨[(10,.c (.i .i64)),(11,.c (.i .i64)),(12,.c (.i .i64)),(9,.ptr 1 0)],[(1,.bx 3 [.c (.i .i64)])]⟩,[],[],2,false,""⟩)]) [(152,kbY),(153,kbN)] (.cons keI <| .cons kcW <| .nil) (fun x=>by kernel_rfl)
def slices_AppendSeq_s_int_int_m0_M:CtrM:=⟨ "",[none,none],⟨[(0,.mw 0),(1,.fn 131 [.ptr 1 0])],[(0,.sl 3 (.i .i64)),(1,.bx 31 [.c (.sl (.i .i64))])]⟩,2,⟨[(1000000,.mw 2)],[(2,.sl 3 (.i .i64))]⟩,3,1,fun x=>kdG x.1 x.2,false⟩
theorem kgg:slices_AppendSeq_s_int_int_m0_M.ok=true/\GoodM Tryz.prog 134 slices_AppendSeq_s_int_int_m0_M:=
 kal Tryz.func134 (by kernel_rfl) (An:=[(0,⟨⟨[],[(2,.bx 31 [.mw 0]),(0,.sl 3 (.i .i64))]⟩,⟨[],[(2,.bx 31 [.mw 5]),(5,.sl 3 (.i .i64))]⟩,[6,2],[],6,false,""⟩)]) [(131,kaz),(109,kfP)] (.cons kaE <| .cons kgb <| .nil) (fun x=>by kernel_rfl)
def slices_AppendSeq_s_int_int_C:Ctr:=⟨ "",[],[],fun _=>none,[],[]⟩
theorem slices_AppendSeq_s_int_int_C_ok:Good Tryz.prog 134 slices_AppendSeq_s_int_int_C:=good_dm
def kdm:Ctr:=⟨ "",slices_AppendSeq_s_int_int_C.as,slices_AppendSeq_s_int_int_C.rs,slices_AppendSeq_s_int_int_C.F,slices_AppendSeq_s_int_int_m0_M::slices_AppendSeq_s_int_int_C.mus,slices_AppendSeq_s_int_int_C.its⟩
theorem kgx:Good Tryz.prog 134 kdm:=(slices_AppendSeq_s_int_int_C_ok.more kgg)
def slices_Collect_int_m0_M:CtrM:=⟨ "",[none],⟨[(0,.fn 131 [.ptr 0 0])],[(0,.bx 31 [.c (.sl (.i .i64))])]⟩,1,⟨[(1000000,.mw 1)],[(1,.sl 3 (.i .i64))]⟩,2,1,fun x=>kha x,false⟩
theorem kiR:slices_Collect_int_m0_M.ok=true/\GoodM Tryz.prog 129 slices_Collect_int_m0_M:=
 kal Tryz.func129 (by kernel_rfl) (An:=[]) [(134,kdm),(131,kaz)] (.cons kgx <| .cons kaE <| .nil) (fun x=>by kernel_rfl)
def slices_Collect_int_C:Ctr:=⟨ "",[],[],fun _=>none,[],[]⟩
theorem slices_Collect_int_C_ok:Good Tryz.prog 129 slices_Collect_int_C:=good_dm
def kgm:Ctr:=⟨ "",slices_Collect_int_C.as,slices_Collect_int_C.rs,slices_Collect_int_C.F,slices_Collect_int_m0_M::slices_Collect_int_C.mus,slices_Collect_int_C.its⟩
theorem kjn:Good Tryz.prog 129 kgm:=(slices_Collect_int_C_ok.more kiR)
def slices_insertionSortOrdered_int_m0_M:CtrM:=⟨ "",[none,some (.i .i64),some (.i .i64)],⟨[(0,.mw 0)],[(0,.sl 3 (.i .i64))]⟩,1,⟨[(0,.mw 0)],[(0,.sl 3 (.i .i64))]⟩,1,0,fun x=>kct x.1 x.2.1 x.2.2,false⟩
theorem keF:slices_insertionSortOrdered_int_m0_M.ok=true/\GoodM Tryz.prog 138 slices_insertionSortOrdered_int_m0_M:=
 kal Tryz.func138 (by kernel_rfl) (An:=[(0,⟨⟨[(6,.c (.i .i64))],[(0,.sl 3 (.i .i64))]⟩,⟨[],[(0,.sl 3 (.i .i64))]⟩,[2,1],[],2,false,""⟩),(8,⟨⟨[(7,.c (.i .i64))],[(0,.sl 3 (.i .i64))]⟩,⟨[],[(0,.sl 3 (.i .i64))]⟩,[6],[],2,false,""⟩)]) [(144,kbu)] (.cons kbf <| .nil) (fun x=>by kernel_rfl)
def slices_insertionSortOrdered_int_C:Ctr:=⟨ "",[],[],fun _=>none,[],[]⟩
theorem slices_insertionSortOrdered_int_C_ok:Good Tryz.prog 138 slices_insertionSortOrdered_int_C:=good_dm
def kce:Ctr:=⟨ "",slices_insertionSortOrdered_int_C.as,slices_insertionSortOrdered_int_C.rs,slices_insertionSortOrdered_int_C.F,slices_insertionSortOrdered_int_m0_M::slices_insertionSortOrdered_int_C.mus,slices_insertionSortOrdered_int_C.its⟩
theorem keO:Good Tryz.prog 138 kce:=(slices_insertionSortOrdered_int_C_ok.more keF)
def slices_siftDownOrdered_int_m0_M:CtrM:=⟨ "",[none,some (.i .i64),some (.i .i64),some (.i .i64)],⟨[(0,.mw 0)],[(0,.sl 3 (.i .i64))]⟩,1,⟨[(0,.mw 0)],[(0,.sl 3 (.i .i64))]⟩,1,0,fun x=>kbG x.1 x.2.1 x.2.2.1 x.2.2.2,false⟩
theorem kgd:slices_siftDownOrdered_int_m0_M.ok=true/\GoodM Tryz.prog 149 slices_siftDownOrdered_int_m0_M:=
 kal Tryz.func149 (by kernel_rfl) (An:=[(0,⟨⟨[(8,.c (.i .i64))],[(0,.sl 3 (.i .i64))]⟩,⟨[],[(0,.sl 3 (.i .i64))]⟩,[2,3],[],2,true,""⟩),(14,⟨⟨[],[]⟩,⟨[(36,.c .b)],[]⟩,[9,8],[0],1,false,""⟩),(145,⟨⟨[],[]⟩,⟨[(9,.c (.i .i64))],[]⟩,[8],[0],1,false,""⟩)]) [(144,kbu)] (.cons kbf <| .nil) (fun x=>by kernel_rfl)
def slices_siftDownOrdered_int_C:Ctr:=⟨ "",[],[],fun _=>none,[],[]⟩
theorem slices_siftDownOrdered_int_C_ok:Good Tryz.prog 149 slices_siftDownOrdered_int_C:=good_dm
def kdi:Ctr:=⟨ "",slices_siftDownOrdered_int_C.as,slices_siftDownOrdered_int_C.rs,slices_siftDownOrdered_int_C.F,slices_siftDownOrdered_int_m0_M::slices_siftDownOrdered_int_C.mus,slices_siftDownOrdered_int_C.its⟩
theorem kgl:Good Tryz.prog 149 kdi:=(slices_siftDownOrdered_int_C_ok.more kgd)
def slices_heapSortOrdered_int_m0_M:CtrM:=⟨ "",[none,some (.i .i64),some (.i .i64)],⟨[(0,.mw 0)],[(0,.sl 3 (.i .i64))]⟩,1,⟨[(0,.mw 0)],[(0,.sl 3 (.i .i64))]⟩,1,0,fun x=>kdH x.1 x.2.1 x.2.2,false⟩
theorem kgf:slices_heapSortOrdered_int_m0_M.ok=true/\GoodM Tryz.prog 139 slices_heapSortOrdered_int_m0_M:=
 kal Tryz.func139 (by kernel_rfl) (An:=[(0,⟨⟨[(9,.c (.i .i64))],[(0,.sl 3 (.i .i64))]⟩,⟨[],[(0,.sl 3 (.i .i64))]⟩,[8,6,7],[],2,false,""⟩),(8,⟨⟨[(10,.c (.i .i64))],[(0,.sl 3 (.i .i64))]⟩,⟨[],[(0,.sl 3 (.i .i64))]⟩,[6,7],[],3,false,""⟩)]) [(149,kdi)] (.cons kgl <| .nil) (fun x=>by kernel_rfl)
def slices_heapSortOrdered_int_C:Ctr:=⟨ "",[],[],fun _=>none,[],[]⟩
theorem slices_heapSortOrdered_int_C_ok:Good Tryz.prog 139 slices_heapSortOrdered_int_C:=good_dm
def kdh:Ctr:=⟨ "",slices_heapSortOrdered_int_C.as,slices_heapSortOrdered_int_C.rs,slices_heapSortOrdered_int_C.F,slices_heapSortOrdered_int_m0_M::slices_heapSortOrdered_int_C.mus,slices_heapSortOrdered_int_C.its⟩
theorem kgB:Good Tryz.prog 139 kdh:=(slices_heapSortOrdered_int_C_ok.more kgf)
def slices_breakPatternsOrdered_int_m0_M:CtrM:=⟨ "",[none,some (.i .i64),some (.i .i64)],⟨[(0,.mw 0)],[(0,.sl 3 (.i .i64))]⟩,1,⟨[(0,.mw 0)],[(0,.sl 3 (.i .i64))]⟩,1,0,fun x=>kcu x.1 x.2.1 x.2.2,false⟩
theorem keB:slices_breakPatternsOrdered_int_m0_M.ok=true/\GoodM Tryz.prog 140 slices_breakPatternsOrdered_int_m0_M:=
 kal Tryz.func140 (by kernel_rfl) (An:=[(0,⟨⟨[(9,.c (.i .i64)),(7,.ptr 1 0)],[(1,.bx 202 [.c (.i .u64)]),(0,.sl 3 (.i .i64))]⟩,⟨[],[(0,.sl 3 (.i .i64))]⟩,[1,6,8],[],3,false,""⟩),(173,⟨⟨[],[]⟩,⟨[(10,.c (.i .i64))],[]⟩,[9,7],[0,1],2,false,""⟩)]) [(151,kfs),(150,kfU)] (.cons kiM <| .cons kiU <| .nil) (fun x=>by kernel_rfl)
def slices_breakPatternsOrdered_int_C:Ctr:=⟨ "",[],[],fun _=>none,[],[]⟩
theorem slices_breakPatternsOrdered_int_C_ok:Good Tryz.prog 140 slices_breakPatternsOrdered_int_C:=good_dm
def kcg:Ctr:=⟨ "",slices_breakPatternsOrdered_int_C.as,slices_breakPatternsOrdered_int_C.rs,slices_breakPatternsOrdered_int_C.F,slices_breakPatternsOrdered_int_m0_M::slices_breakPatternsOrdered_int_C.mus,slices_breakPatternsOrdered_int_C.its⟩
theorem keM:Good Tryz.prog 140 kcg:=(slices_breakPatternsOrdered_int_C_ok.more keB)
def slices_reverseRangeOrdered_int_m0_M:CtrM:=⟨ "",[none,some (.i .i64),some (.i .i64)],⟨[(0,.mw 0)],[(0,.sl 3 (.i .i64))]⟩,1,⟨[(0,.mw 0)],[(0,.sl 3 (.i .i64))]⟩,1,0,fun x=>kcC x.1 x.2.1 x.2.2,false⟩
theorem keL:slices_reverseRangeOrdered_int_m0_M.ok=true/\GoodM Tryz.prog 142 slices_reverseRangeOrdered_int_m0_M:=
 kal Tryz.func142 (by kernel_rfl) (An:=[(0,⟨⟨[(6,.c (.i .i64)),(7,.c (.i .i64))],[(0,.sl 3 (.i .i64))]⟩,⟨[],[(0,.sl 3 (.i .i64))]⟩,[],[],2,false,""⟩)]) [] (.nil) (fun x=>by kernel_rfl)
def slices_reverseRangeOrdered_int_C:Ctr:=⟨ "",[],[],fun _=>none,[],[]⟩
theorem slices_reverseRangeOrdered_int_C_ok:Good Tryz.prog 142 slices_reverseRangeOrdered_int_C:=good_dm
def kcv:Ctr:=⟨ "",slices_reverseRangeOrdered_int_C.as,slices_reverseRangeOrdered_int_C.rs,slices_reverseRangeOrdered_int_C.F,slices_reverseRangeOrdered_int_m0_M::slices_reverseRangeOrdered_int_C.mus,slices_reverseRangeOrdered_int_C.its⟩
theorem keX:Good Tryz.prog 142 kcv:=(slices_reverseRangeOrdered_int_C_ok.more keL)
def slices_partialInsertionSortOrdered_int_m0_M:CtrM:=⟨ "",[none,some (.i .i64),some (.i .i64)],⟨[(0,.mw 0)],[(0,.sl 3 (.i .i64))]⟩,1,⟨[(0,.mw 0),(1000000,.c .b)],[(0,.sl 3 (.i .i64))]⟩,1,1,fun x=>kbz x.1 x.2.1 x.2.2,false⟩
theorem kdc:slices_partialInsertionSortOrdered_int_m0_M.ok=true/\GoodM Tryz.prog 143 slices_partialInsertionSortOrdered_int_m0_M:=
 kal Tryz.func143 (by kernel_rfl) (An:=[(0,⟨⟨[(8,.c (.i .i64)),(7,.c (.i .i64))],[(0,.sl 3 (.i .i64))]⟩,⟨[],[(0,.sl 3 (.i .i64))]⟩,[2,1],[],2,true,""⟩),(8,⟨⟨[(7,.c (.i .i64))],[]⟩,⟨[(7,.c (.i .i64))],[]⟩,[8],[0],1,false,""⟩),(245,⟨⟨[],[(0,.sl 3 (.i .i64))]⟩,⟨[],[(0,.sl 3 (.i .i64))]⟩,[7,8],[],2,false,""⟩),(16,⟨⟨[(9,.c (.i .i64))],[(0,.sl 3 (.i .i64))]⟩,⟨[],[(0,.sl 3 (.i .i64))]⟩,[],[],2,false,""⟩),(24,⟨⟨[(10,.c (.i .i64))],[(0,.sl 3 (.i .i64))]⟩,⟨[],[(0,.sl 3 (.i .i64))]⟩,[8,7],[],3,false,""⟩)]) [(144,kbu)] (.cons kbf <| .nil) (fun x=>by kernel_rfl)
def slices_partialInsertionSortOrdered_int_C:Ctr:=⟨ "",[],[],fun _=>none,[],[]⟩
theorem slices_partialInsertionSortOrdered_int_C_ok:Good Tryz.prog 143 slices_partialInsertionSortOrdered_int_C:=good_dm
def kbt:Ctr:=⟨ "",slices_partialInsertionSortOrdered_int_C.as,slices_partialInsertionSortOrdered_int_C.rs,slices_partialInsertionSortOrdered_int_C.F,slices_partialInsertionSortOrdered_int_m0_M::slices_partialInsertionSortOrdered_int_C.mus,slices_partialInsertionSortOrdered_int_C.its⟩
theorem kdj:Good Tryz.prog 143 kbt:=(slices_partialInsertionSortOrdered_int_C_ok.more kdc)
def slices_partitionEqualOrdered_int_m0_M:CtrM:=⟨ "",[none,some (.i .i64),some (.i .i64),some (.i .i64)],⟨[(0,.mw 0)],[(0,.sl 3 (.i .i64))]⟩,1,⟨[(0,.mw 0),(1000000,.c (.i .i64))],[(0,.sl 3 (.i .i64))]⟩,1,1,fun x=>kcj x.1 x.2.1 x.2.2.1 x.2.2.2,false⟩
theorem kel:slices_partitionEqualOrdered_int_m0_M.ok=true/\GoodM Tryz.prog 145 slices_partitionEqualOrdered_int_m0_M:=
 kal Tryz.func145 (by kernel_rfl) (An:=[(0,⟨⟨[(9,.c (.i .i64)),(10,.c (.i .i64))],[(0,.sl 3 (.i .i64))]⟩,⟨[(9,.c (.i .i64))],[(0,.sl 3 (.i .i64))]⟩,[1],[],2,false,""⟩),(8,⟨⟨[(9,.c (.i .i64))],[]⟩,⟨[(9,.c (.i .i64))],[]⟩,[10],[0],1,false,""⟩),(16,⟨⟨[(10,.c (.i .i64))],[]⟩,⟨[(10,.c (.i .i64))],[]⟩,[9],[0],1,false,""⟩)]) [(144,kbu)] (.cons kbf <| .nil) (fun x=>by kernel_rfl)
def slices_partitionEqualOrdered_int_C:Ctr:=⟨ "",[],[],fun _=>none,[],[]⟩
theorem slices_partitionEqualOrdered_int_C_ok:Good Tryz.prog 145 slices_partitionEqualOrdered_int_C:=good_dm
def kca:Ctr:=⟨ "",slices_partitionEqualOrdered_int_C.as,slices_partitionEqualOrdered_int_C.rs,slices_partitionEqualOrdered_int_C.F,slices_partitionEqualOrdered_int_m0_M::slices_partitionEqualOrdered_int_C.mus,slices_partitionEqualOrdered_int_C.its⟩
theorem keH:Good Tryz.prog 145 kca:=(slices_partitionEqualOrdered_int_C_ok.more kel)
def slices_partitionOrdered_int_m0_M:CtrM:=⟨ "",[none,some (.i .i64),some (.i .i64),some (.i .i64)],⟨[(0,.mw 0)],[(0,.sl 3 (.i .i64))]⟩,1,⟨[(0,.mw 0),(1000000,.c (.i .i64)),(1000001,.c .b)],[(0,.sl 3 (.i .i64))]⟩,1,2,fun x=>kdu x.1 x.2.1 x.2.2.1 x.2.2.2,false⟩
theorem kfG:slices_partitionOrdered_int_m0_M.ok=true/\GoodM Tryz.prog 146 slices_partitionOrdered_int_m0_M:=
 kal Tryz.func146 (by kernel_rfl) (An:=[(0,⟨⟨[(10,.c (.i .i64))],[]⟩,⟨[(10,.c (.i .i64))],[]⟩,[11,1],[0],1,false,""⟩),(8,⟨⟨[(11,.c (.i .i64))],[]⟩,⟨[(11,.c (.i .i64))],[]⟩,[10,1],[0],1,false,""⟩),(16,⟨⟨[(10,.c (.i .i64)),(11,.c (.i .i64))],[(0,.sl 3 (.i .i64))]⟩,⟨[(11,.c (.i .i64))],[(0,.sl 3 (.i .i64))]⟩,[1],[],2,false,""⟩),(24,⟨⟨[(10,.c (.i .i64))],[]⟩,⟨[(10,.c (.i .i64))],[]⟩,[11],[0],1,false,""⟩),(32,⟨⟨[(11,.c (.i .i64))],[]⟩,⟨[(11,.c (.i .i64))],[]⟩,[10],[0],1,false,""⟩)]) [(144,kbu)] (.cons kbf <| .nil) (fun x=>by kernel_rfl)
def slices_partitionOrdered_int_C:Ctr:=⟨ "",[],[],fun _=>none,[],[]⟩
theorem slices_partitionOrdered_int_C_ok:Good Tryz.prog 146 slices_partitionOrdered_int_C:=good_dm
def kcV:Ctr:=⟨ "",slices_partitionOrdered_int_C.as,slices_partitionOrdered_int_C.rs,slices_partitionOrdered_int_C.F,slices_partitionOrdered_int_m0_M::slices_partitionOrdered_int_C.mus,slices_partitionOrdered_int_C.its⟩
theorem kga:Good Tryz.prog 146 kcV:=(slices_partitionOrdered_int_C_ok.more kfG)
def kbx (k:Nat):CtrM:=⟨ "",[none,some (.i .i64),some (.i .i64),some (.i .i64)],⟨[(0,.mw 0)],[(0,.sl 3 (.i .i64))]⟩,1,⟨[(0,.mw 0)],[(0,.sl 3 (.i .i64))]⟩,1,0,fun x=>kbB k x.1 x.2.1 x.2.2.1 x.2.2.2,false⟩
theorem kcM:∀ k,(kbx k).ok=true/\GoodM Tryz.prog 135 (kbx k)
 | 0=>kjk (by kernel_rfl) (fun x=>rfl)
 | k+1=>kal Tryz.func135 (by kernel_rfl) (An:=[(0,⟨⟨[(2,.c (.i .i64)),(1,.c (.i .i64)),(3,.c (.i .i64)),(8,.c .b),(9,.c .b)],[(0,.sl 3 (.i .i64))]⟩,⟨[],[(0,.sl 3 (.i .i64))]⟩,[],[],1,true,""⟩),(141,⟨⟨[],[(0,.sl 3 (.i .i64))]⟩,⟨[(3,.c (.i .i64))],[(0,.sl 3 (.i .i64))]⟩,[1,2,8,9,10],[],2,false,""⟩),(201,⟨⟨[],[(0,.sl 3 (.i .i64))]⟩,⟨[(12,.c (.i .i64)),(11,.c (.i .i64))],[(0,.sl 3 (.i .i64))]⟩,[1,2,8,9,3,10],[],3,false,""⟩),(62,⟨⟨[],[]⟩,⟨[(68,.c .b)],[]⟩,[8,9,12,1,2,11,3,10],[0],3,false,""⟩),(273,⟨⟨[],[(0,.sl 3 (.i .i64))]⟩,⟨[],[(0,.sl 3 (.i .i64))]⟩,[1,2,11,3,8,9,10],[],4,true,""⟩),(70,⟨⟨[],[]⟩,⟨[(87,.c .b)],[]⟩,[1,11,2,3,8,9,10],[0],4,false,""⟩)]) ((135,⟨ "",[],[],fun _=>none,[kbx k],[]⟩)::[(146,kcV),(145,kca),(143,kbt),(142,kcv),(140,kcg),(139,kdh),(138,kce),(141,kcZ),(144,kbu)]) (.cons (good_dm.more (kcM k)) <| .cons kga <| .cons keH <| .cons kdj <| .cons keX <| .cons keM <| .cons kgB <| .cons keO <| .cons kfZ <| .cons kbf <| .nil) (fun x=>by kernel_rfl)
def slices_pdqsortOrdered_int_m0_M:CtrM:=⟨ "",[none,some (.i .i64),some (.i .i64),some (.i .i64)],⟨[(0,.mw 0)],[(0,.sl 3 (.i .i64))]⟩,1,⟨[(0,.mw 0)],[(0,.sl 3 (.i .i64))]⟩,1,0,fun x=>kdW x.1 x.2.1 x.2.2.1 x.2.2.2,false⟩
theorem kgq:slices_pdqsortOrdered_int_m0_M.ok=true/\GoodM Tryz.prog 135 slices_pdqsortOrdered_int_m0_M:=kcM 1000000
def slices_pdqsortOrdered_int_C:Ctr:=⟨ "",[],[],fun _=>none,[],[]⟩
theorem slices_pdqsortOrdered_int_C_ok:Good Tryz.prog 135 slices_pdqsortOrdered_int_C:=good_dm
def kdI:Ctr:=⟨ "",slices_pdqsortOrdered_int_C.as,slices_pdqsortOrdered_int_C.rs,slices_pdqsortOrdered_int_C.F,slices_pdqsortOrdered_int_m0_M::slices_pdqsortOrdered_int_C.mus,slices_pdqsortOrdered_int_C.its⟩
theorem kgH:Good Tryz.prog 135 kdI:=(slices_pdqsortOrdered_int_C_ok.more kgq)
def slices_Sort_s_int_int_m0_M:CtrM:=⟨ "",[none],⟨[(0,.mw 0)],[(0,.sl 3 (.i .i64))]⟩,1,⟨[(0,.mw 0)],[(0,.sl 3 (.i .i64))]⟩,1,0,fun x=>kfv x,false⟩
theorem khL:slices_Sort_s_int_int_m0_M.ok=true/\GoodM Tryz.prog 130 slices_Sort_s_int_int_m0_M:=
 kal Tryz.func130 (by kernel_rfl) (An:=[]) [(135,kdI),(136,khs)] (.cons kgH <| .cons kiN <| .nil) (fun x=>by kernel_rfl)
def slices_Sort_s_int_int_C:Ctr:=⟨ "",[],[],fun _=>none,[],[]⟩
theorem slices_Sort_s_int_int_C_ok:Good Tryz.prog 130 slices_Sort_s_int_int_C:=good_dm
def keV:Ctr:=⟨ "",slices_Sort_s_int_int_C.as,slices_Sort_s_int_int_C.rs,slices_Sort_s_int_int_C.F,slices_Sort_s_int_int_m0_M::slices_Sort_s_int_int_C.mus,slices_Sort_s_int_int_C.its⟩
theorem kid:Good Tryz.prog 130 keV:=(slices_Sort_s_int_int_C_ok.more khL)
def slices_Sorted_int_m0_M:CtrM:=⟨ "",[none],⟨[(0,.fn 131 [.ptr 0 0])],[(0,.bx 31 [.c (.sl (.i .i64))])]⟩,1,⟨[(1000000,.mw 1)],[(1,.sl 3 (.i .i64))]⟩,2,1,fun x=>khK x,false⟩
theorem kjo:slices_Sorted_int_m0_M.ok=true/\GoodM Tryz.prog 117 slices_Sorted_int_m0_M:=
 kal Tryz.func117 (by kernel_rfl) (An:=[]) [(130,keV),(129,kgm),(131,kaz)] (.cons kid <| .cons kjn <| .cons kaE <| .nil) (fun x=>by kernel_rfl)
def slices_Sorted_int_C:Ctr:=⟨ "",[],[],fun _=>none,[],[]⟩
theorem slices_Sorted_int_C_ok:Good Tryz.prog 117 slices_Sorted_int_C:=good_dm
def kgZ:Ctr:=⟨ "",slices_Sorted_int_C.as,slices_Sorted_int_C.rs,slices_Sorted_int_C.F,slices_Sorted_int_m0_M::slices_Sorted_int_C.mus,slices_Sorted_int_C.its⟩
theorem kjL:Good Tryz.prog 117 kgZ:=(slices_Sorted_int_C_ok.more kjo)
def kqa:Ctr:=⟨ "",[(.sl (.i .i64)),(.i .i64)],[.b],fun x=>ktj x.1 x.2,[],[]⟩
theorem kse:Good Tryz.prog 88 kqa:=
 kae Tryz.func88 (by kernel_rfl) (An:=[(0,⟨⟨[(11,.c (.i .i64))],[]⟩,⟨[],[]⟩,[10,9,0,1],[1],2,true,""⟩)]) [(117,kgZ),(118,kej),(131,kaz)] (.cons kjL <| .cons khj <| .cons kaE <| .nil) (fun x=>by kernel_rfl)
def kkd:Ctr:=⟨ "",[(.sl (.i .i64)),(.pt (.i .i64))],[.b],fun x=>kkY x.1 x.2,[],[]⟩
theorem kmv:Good Tryz.prog 115 kkd:=
 kae Tryz.func115 (by kernel_rfl) (An:=[]) [(88,kqa)] (.cons kse <| .nil) (fun x=>by kernel_rfl)
def kcL:Ctr:=⟨ "",[(.sl (.sl (.i .i64))),(.fn 1 (.sl (.i .i64)) .b)],[(.i .i64)],fun x=>kdp x.1 x.2,[],[]⟩
theorem kfL:Good Tryz.prog 126 kcL:=
 kae Tryz.func126 (by kernel_rfl) (An:=[(0,⟨⟨[(8,.c (.i .i64))],[]⟩,⟨[],[]⟩,[7,1,0],[],0,true,""⟩)]) [] (.nil) (fun x=>by kernel_rfl)
def kcd:Ctr:=⟨ "",[(.sl (.sl (.i .i64))),(.fn 1 (.sl (.i .i64)) .b)],[.b],fun x=>kcD x.1 x.2,[],[]⟩
theorem keQ:Good Tryz.prog 114 kcd:=
 kae Tryz.func114 (by kernel_rfl) (An:=[]) [(126,kcL)] (.cons kfL <| .nil) (fun x=>by kernel_rfl)
def kml:Ctr:=⟨ "",[(.sl (.sl (.i .i64)))],[.b],fun x=>kow x,[],[]⟩
theorem koR:Good Tryz.prog 83 kml:=
 kae Tryz.func83 (by kernel_rfl) (An:=[]) [(114,kcd),(115,kkd),(66,kfN)] (.cons keQ <| .cons kmv <| .cons keE <| .nil) (fun x=>by kernel_rfl)
def kiX:Ctr:=⟨ "",[(.i .u32),(.i .u32)],[(.i .u32),(.i .u32)],fun x=>kpQ x.1 x.2,[],[]⟩
theorem klW:Good Tryz.prog 127 kiX:=
 kae Tryz.func127 (by kernel_rfl) (An:=[]) [] (.nil) (fun x=>by kernel_rfl)
def kiW:Ctr:=⟨ "",[(.i .u64),(.i .u64)],[(.i .u64),(.i .u64)],fun x=>kkp x.1 x.2,[],[]⟩
theorem kma:Good Tryz.prog 128 kiW:=
 kae Tryz.func128 (by kernel_rfl) (An:=[]) [] (.nil) (fun x=>by kernel_rfl)
def kkr:Ctr:=⟨ "",[(.i .u64),(.i .u64)],[(.i .u64),(.i .u64)],fun x=>kmq x.1 x.2,[],[]⟩
theorem kmE:Good Tryz.prog 116 kkr:=
 kae Tryz.func116 (by kernel_rfl) (An:=[]) [(128,kiW),(127,kiX)] (.cons kma <| .cons klW <| .nil) (fun x=>by kernel_rfl)
def kjb:Ctr:=⟨ "",[(.i .i64),(.pt (.sl (.i .i64)))],[.b],fun x=>kkt x.1 x.2,[],[]⟩
theorem klI:Good Tryz.prog 87 kjb:=
 kae Tryz.func87 (by kernel_rfl) (An:=[]) [] (.nil) (fun x=>by kernel_rfl)
def klr:Ctr:=⟨ "",[(.i .i64),(.pt (.sl (.sl (.i .i64)))),(.pt (.sl (.i .i64)))],[(.i .i64)],fun x=>kfC x.1 x.2.1 x.2.2,[],[]⟩
theorem kog:Good Tryz.prog 85 klr:=
 kae Tryz.func85 (by kernel_rfl) (An:=[]) [(87,kjb),(86,kbQ)] (.cons klI <| .cons kcX <| .nil) (fun x=>by kernel_rfl)
def slices_Repeat_s_int_int_m0_M:CtrM:=⟨ "",[some (.sl (.i .i64)),some (.i .i64)],⟨[],[]⟩,0,⟨[(1000000,.mw 0)],[(0,.sl 3 (.i .i64))]⟩,1,1,fun x=>keC x.1 x.2,false⟩
theorem khg:slices_Repeat_s_int_int_m0_M.ok=true/\GoodM Tryz.prog 84 slices_Repeat_s_int_int_m0_M:=
 kal Tryz.func84 (by kernel_rfl) (An:=[(41,⟨⟨[],[]⟩,⟨[],[]⟩,[0,1],[],1,false,""⟩),(18,⟨⟨[],[]⟩,⟨[(26,.c .b)],[]⟩,[5,6,0],[],1,false,""⟩),(105,⟨⟨[],[]⟩,⟨[],[]⟩,[6,0],[],1,false,""⟩),(0,⟨⟨[(8,.c (.i .i64)),(7,.mw 1)],[(1,.sl 3 (.i .i64))]⟩,⟨[(7,.mw 2)],[(2,.sl 3 (.i .i64))]⟩,[],[],3,false,""⟩)]) [(116,kkr)] (.cons kmE <| .nil) (fun x=>by kernel_rfl)
def slices_Repeat_s_int_int_B32:Ctr:=⟨ "",[],[],fun _=>none,[],[]⟩
theorem slices_Repeat_s_int_int_B32_ok:Good Tryz.prog 84 slices_Repeat_s_int_int_B32:=good_dm
def kei:Ctr:=⟨ "",slices_Repeat_s_int_int_B32.as,slices_Repeat_s_int_int_B32.rs,slices_Repeat_s_int_int_B32.F,slices_Repeat_s_int_int_m0_M::slices_Repeat_s_int_int_B32.mus,slices_Repeat_s_int_int_B32.its⟩
theorem kht:Good Tryz.prog 84 kei:=(slices_Repeat_s_int_int_B32_ok.more khg)
def koA:Ctr:=⟨ "",[(.sl (.sl (.i .i64)))],[(.sl (.i .i64)),(.i .i64)],fun x=>krM x,[],[]⟩
theorem kqE:Good Tryz.prog 35 koA:=
 kae Tryz.func35 (by kernel_rfl) (An:=[(0,⟨⟨[(25,.c (.i .i64)),(4,.ptr 5 0),(5,.fn 85 [.ptr 0 0,.ptr 5 0])],[(5,.bx 31 [.mw 3]),(3,.sl 3 (.i .i64))]⟩,⟨[(4,.ptr 6 0)],[(6,.bx 31 [.mw 7]),(7,.sl 3 (.i .i64))]⟩,[24,1],[0],8,false,""⟩),(8,⟨⟨[(4,.ptr 5 0),(5,.fn 85 [.ptr 0 0,.ptr 5 0])],[(5,.bx 31 [.mw 3]),(3,.sl 3 (.i .i64))]⟩,⟨[(4,.ptr 6 0),(5,.fn 85 [.ptr 0 0,.ptr 6 0])],[(6,.bx 31 [.mw 7]),(7,.sl 3 (.i .i64))]⟩,[6,25],[],8,false,""⟩),(16,⟨⟨[(36,.c (.i .i64)),(7,.c (.i .i64))],[]⟩,⟨[(7,.c (.i .i64))],[]⟩,[35,5,4],[5,3],6,false,""⟩),(24,⟨⟨[(9,.c (.i .i64)),(8,.mw 6)],[(6,.sl 3 (.i .i64))]⟩,⟨[(8,.mw 7)],[(7,.sl 3 (.i .i64))]⟩,[7,5,4],[5,3],8,false,""⟩),(32,⟨⟨[(59,.c (.i .i64)),(10,.mw 8)],[(8,.sl 3 (.i .i64))]⟩,⟨[(10,.mw 9)],[(9,.sl 3 (.i .i64))]⟩,[58,57,5,8,4],[7,5,3],10,false,""⟩),(40,⟨⟨[(72,.c (.i .i64)),(4,.ptr 5 0),(5,.fn 85 [.ptr 0 0,.ptr 5 0])],[(5,.bx 31 [.mw 3]),(3,.sl 3 (.i .i64))]⟩,⟨[(4,.ptr 10 0),(5,.fn 85 [.ptr 0 0,.ptr 10 0])],[(10,.bx 31 [.mw 11]),(11,.sl 3 (.i .i64))]⟩,[71,70,10],[7,9],12,false,""⟩)]) [(84,kei),(85,klr),(83,kml)] (.cons kht <| .cons kog <| .cons koR <| .nil) (fun x=>by kernel_rfl)
def kge:Ctr:=⟨ "",[(.sl (.pr (.i .i64) (.pr (.i .u8) (.i .i64)))),(.sl (.pr (.i .i64) (.pr (.i .u8) (.i .i64))))],[.b],fun x=>kbg x.1 x.2,[],[]⟩
theorem kho:Good Tryz.prog 16 kge:=
 kae Tryz.func16 (by kernel_rfl) (An:=[(0,⟨⟨[(5,.c (.i .i64))],[]⟩,⟨[],[]⟩,[0,1],[],0,true,""⟩)]) [] (.nil) (fun x=>by kernel_rfl)
def kjK:Ctr:=⟨ "",[(.sl (.i .i64)),(.sl (.i .i64))],[.b],fun x=>kec x.1 x.2,[],[]⟩
theorem kmu:Good Tryz.prog 41 kjK:=
 kae Tryz.func41 (by kernel_rfl) (An:=[(0,⟨⟨[(5,.c (.i .i64))],[]⟩,⟨[],[]⟩,[0,1],[],0,true,""⟩)]) [] (.nil) (fun x=>by kernel_rfl)
def klk:Ctr:=⟨ "",[],[.b],fun x=>knw,[],[]⟩
theorem knT:Good Tryz.prog 13 klk:=
 kae Tryz.func13 (by kernel_rfl) (An:=[]) [(8000013,kaQ),(8000017,kaQ),(8000019,kaQ),(8000036,kaQ),(8000042,kaQ),(8000044,kaQ),(8000049,kaQ),(8000050,kaQ),(8000051,kaQ),(8000052,kaQ),(8000062,kaQ),(8000078,kaQ),(8000089,kaQ),(8000103,kaQ),(8000123,kaQ),(41,kjK),(16,kge),(35,koA),(28,kne),(46,kmc),(23,krB),(19,kpG),(45,kmY),(44,klf),(15,kny),(43,khG)] (.cons kau <| .cons kau <| .cons kau <| .cons kau <| .cons kau <| .cons kau <| .cons kau <| .cons kau <| .cons kau <| .cons kau <| .cons kau <| .cons kau <| .cons kau <| .cons kau <| .cons kau <| .cons kmu <| .cons kho <| .cons kqE <| .cons kqk <| .cons kpg <| .cons ksk <| .cons ksh <| .cons kqm <| .cons knS <| .cons knq <| .cons khk <| .nil) (fun x=>by kernel_rfl)
def kmo:Ctr:=⟨ "",[],[.b],fun x=>law08_alive,[],[]⟩
theorem kpx:Good Tryz.prog 13 kmo:=by
 have h:=knT
 unfold klk at h
 rw [kxv] at h
 exact h
def klc:Ctr:=⟨ "",[(.i .i64),(.i .i64),(.i .i64)],[.b],fun x=>khm x.1 x.2.1 x.2.2,[],[]⟩
theorem koh:Good Tryz.prog 63 klc:=
 kae Tryz.func63 (by kernel_rfl) (An:=[]) [] (.nil) (fun x=>by kernel_rfl)
def kmC:Ctr:=⟨ "",[(.sl (.pr (.i .i64) (.pr (.i .u8) (.i .i64))))],[.b],fun x=>ken x,[],[]⟩
theorem kqg:Good Tryz.prog 49 kmC:=
 kae Tryz.func49 (by kernel_rfl) (An:=[(0,⟨⟨[(4,.c (.i .i64)),(3,.c (.i .i64))],[]⟩,⟨[(3,.c (.i .i64))],[]⟩,[0],[],0,false,""⟩)]) [(63,klc)] (.cons koh <| .nil) (fun x=>by kernel_rfl)
def knh:Ctr:=⟨ "",[(.sl (.sl (.pr (.i .i64) (.pr (.i .u8) (.i .i64)))))],[.b],fun x=>kjj x,[],[]⟩
theorem kpV:Good Tryz.prog 14 knh:=
 kae Tryz.func14 (by kernel_rfl) (An:=[(0,⟨⟨[(7,.c (.i .i64))],[]⟩,⟨[],[]⟩,[6,5],[],0,true,""⟩)]) [(49,kmC)] (.cons kqg <| .nil) (fun x=>by kernel_rfl)
def kpM:Ctr:=⟨ "",[(.sl (.pr (.i .i64) (.pr (.i .u8) (.i .i64)))),(.sl (.pr (.i .i64) (.pr (.i .u8) (.i .i64))))],[.b],fun x=>kiS x.1 x.2,[],[]⟩
theorem law08_BoxSums_C_ok:Good Tryz.prog 3 kpM:=
 kae Tryz.func3 (by kernel_rfl) (An:=[(193,⟨⟨[],[]⟩,⟨[],[]⟩,[6,1,0,5],[],1,true,""⟩)]) [(14,knh),(13,kmo),(16,kge),(17,kpK),(15,kny)] (.cons kpV <| .cons kpx <| .cons kho <| .cons box_Take_C_ok <| .cons knq <| .nil) (fun x=>by kernel_rfl)
end Go.Abs
namespace Go.Abs
open Go
abbrev It:=Int×Int×Int
def vP (x:It):Bool:=decide (0<=x.1)&&decide (x.1<=15)&&decide (x.2.1<=15)
def ltI (x y:It):Bool:=decide (x.1<y.1)||(x.1==y.1&&decide (x.2.1<y.2.1))
def okN (x:It):Bool:=decide (1<=x.2.2)&&decide (x.2.2<=1000)
def badI (l:List It) (i:Nat) (x:It):Bool:=!vP x||(decide (0<i)&&!ltI ((l[i-1]?).getD x) x)
def ordI (a b:Int×Int):Int:=if a.1<b.1 then -1 else if b.1<a.1 then 1 else if a.2<b.2 then -1 else if b.2<a.2 then 1 else 0
def stk (l:List It):Bool:=decide (l.length<=30)&&!(l.zipIdx.any fun x=>badI l x.2 x.1)&&l.all okN
@[simp] theorem kkq (n lo hi:Int):khm n lo hi=some (decide (lo<=n)&&decide (n<=hi)):=by
 unfold khm; by_cases h:lo<=n <;> simp [h]
@[simp] theorem kyC (lo hi n:Int):kfy lo hi n=some (decide (lo<=n)&&decide (n<=hi)):=by
 unfold kfy; by_cases h:lo<=n <;> simp [h]
@[simp] theorem knU (x:It):kbO (x.1,x.2.1)=some (vP x):=by
 unfold kbO vP
 by_cases h1:0<=x.1 <;> by_cases h2:x.1<=15 <;> simp [h1,h2]
def cmpI (a b:Int):Int:=if a<b then -1 else if b<a then 1 else 0
@[simp] theorem kvv (a b:Int):kcf a b=some (cmpI a b):=by
 unfold kcf kdf cmpI
 by_cases h1:a<b <;> by_cases h2:b<a <;> simp [h1,h2]
@[simp] theorem kww (a b:Int):kdN a b=some (cmpI a b):=by
 unfold kdN keW cmpI
 by_cases h1:a<b <;> by_cases h2:b<a <;> simp [h1,h2]
@[simp] theorem kwL (a b:Int):khF [a,b]=some (if a≠0 then a else b):=by
 unfold khF
 rw [kjh (F:=kgC [a,b]) [a,b] (by simp) (fun i x=>if x != 0 then some x else none) (fun i hi=>by
  unfold kgC
  have h2:i<2:=by simpa using hi
  rw [if_pos (by rw [kay]; simp; omega),keK hi,kfA (by omega)]
  simp only [jao]
  by_cases h:([a,b][i] != 0)=true <;> simp [h,nextL]) (by unfold kgC; rw [if_neg (by simp [kay])])]
 simp only [jbs,List.zipIdx_nil,List.findSome?_cons,List.findSome?_nil]
 by_cases ha:a=0
 ·by_cases hb:b=0 <;> simp [ha,hb,endL]
 ·simp [ha,endL]
theorem kmI (a b:Int×Int):kfo a b=some (ordI a b):=by
 unfold kfo ordI
 simp only [kvv,kww,jao,kwL,cmpI]
 by_cases h1:a.1<b.1
 ·simp [h1]
 ·by_cases h2:b.1<a.1 <;> simp [h1,h2]
theorem kxN (x y:It):decide (0<=ordI (x.1,x.2.1) (y.1,y.2.1)) = !ltI x y:=by
 unfold ordI ltI
 by_cases h1:x.1<y.1
 ·simp [h1]
 ·by_cases h2:y.1<x.1
  ·simp [h1,h2]; omega
  ·have h3:x.1=y.1:=by omega
   by_cases h4:x.2.1<y.2.1
   ·simp [h1,h2,h3,h4]
   ·by_cases h5:y.2.1<x.2.1 <;> simp [h1,h2,h3,h4,h5]
theorem kwI {l:List It} {i:Nat} (hi:i<l.length) (x:It):(l[i-1]?).getD x=l[i-1]:=by rw [jaf (by omega)]; rfl
theorem kqO (l:List It) (hl:l.length<=1000):kcx l 30 (fun u=>(kaZ u).bind fun v=>some v)=some (!(l.zipIdx.any fun x=>badI l x.2 x.1)&&decide (l.length<=30)):=by
 unfold kcx
 rw [knr (F:=kbH l _) false l (by omega) (badI l) (fun i hi=>?_) (by unfold kbH; rw [if_neg (by simp [kay])])]
 ·by_cases h:(l.zipIdx.any fun x=>badI l x.2 x.1)=true
  rotate_left
  ·rw [jbz] at h
   simp only [h,jak,if_false,jao,Bool.not_false,Bool.true_and,kay]
   congr 2; simp only [eq_iff_iff]; omega
  ·simp [h]
 ·unfold kbH
  rw [if_pos (by rw [kay]; simpa using hi),keK hi,kfA (by omega)]
  simp only [jao,kaZ,knU,badI]
  by_cases hv:vP l[i]=true
  rotate_left
  ·rw [jbz] at hv; simp [hv]
  ·simp only [hv,Bool.not_true,jak,if_false,jdk]
   by_cases h0:0<i
   ·rw [if_pos (by simpa using h0),kwu h0 (by omega),keK (by omega)]
    simp only [jao,kmI,kxN,kwI hi,h0,decide_true,Bool.true_and]
    by_cases h9:ltI l[i-1] l[i]=true <;> simp [h9]
   ·have:i=0:=by omega
    subst this; simp
theorem kxF {α:Type} (p:α->Bool) (l:List α):(l.any fun x=>!p x) = !l.all p:=by
 induction l with
 | nil=>rfl
 | cons x l ih=>simp only [List.any_cons,jdr,ih,Bool.not_and]
theorem kos (l:List It) (hl:l.length<=1000) (p:It->Bool):kaq l (fun x=>some (p x))=some (l.any p):=by
 unfold kaq kaX
 rw [kjh (F:=kaA l _) l (by omega) (fun i x=>if p x then some (i:Int) else none) (fun i hi=>by
  unfold kaA
  rw [if_pos (by rw [kay]; simpa using hi),keK hi,kfA (by omega)]
  simp only [jao]
  by_cases h:p l[i]=true <;> simp [h,nextL]) (by unfold kaA; rw [if_neg (by simp [kay])])]
 have:∀ (l:List It) (k:Nat),endL ((l.zipIdx k).findSome? fun x=>if p x.1 then some (x.2:Int) else none)=(if l.any p then .inl ((k:Int)+(l.findIdx p:Nat)) else .inr ()):=by
  intro l
  induction l with
  | nil=>intro k; rfl
  | cons x l ih=>
   intro k
   rw [jbs,List.findSome?_cons,List.any_cons,List.findIdx_cons]
   cases hp:p x with
   | true=>simp [endL]
   | false=>
    simp only [jak,if_false,jdk,cond_false]
    rw [ih (k+1)]
    congr 2; push_cast; omega
 rw [this l 0]
 by_cases h:l.any p=true <;> simp [h]
theorem kmP (l:List It) (hl:l.length<=1000):kiA l=some (if stk l then 0 else 8):=by
 unfold kiA
 rw [kqO l hl]
 have e:(fun u0:It=>(khp u0).bind fun u1=>some u1)=fun u=>some (!okN u):=by
  funext u; simp [khp,okN]
 rw [e,kos l hl,kxF]
 simp only [jao,stk]
 by_cases h1:(l.zipIdx.any fun x=>badI l x.2 x.1)=true <;> by_cases h2:l.length<=30 <;> by_cases h3:l.all okN=true <;> (try rw [jbz] at h1) <;> (try rw [jbz] at h3) <;> simp only [h1,h2,h3] <;> rfl
def key (x:It):Int:=16*x.1+x.2.1
def look:List It->Int->Int
 | [],_=>0
 | x::l,q=>if key x=q then x.2.2 else look l q
def srt (l:List It):Prop:=l.Pairwise fun x y=>key x<key y
def Vld (l:List It):Prop:=∀ x∈l,0<=x.1/\x.1<=15/\0<=x.2.1/\x.2.1<=15
theorem kdt:∀ {l:List It} {q:Int},(∀ x∈l,key x≠q)->look l q=0
 | [],q,_=>rfl
 | x::l,q,h=>by
  simp only [look]
  rw [if_neg (h x (by simp)),kdt fun y hy=>h y (by simp [hy])]
theorem kjy:∀ {l:List It} {x:It},srt l->x∈l->look l (key x)=x.2.2
 | [],x,_,h=>by cases h
 | y::l,x,hs,h=>by
  simp only [srt,jdl] at hs
  simp only [look]
  rcases jax.1 h with rfl | h
  ·simp
  ·have:=hs.1 x h
   rw [if_neg (by omega)]
   exact kjy hs.2 h
theorem kxS {x y:It} (hx:0<=x.2.1/\x.2.1<=15) (hy:0<=y.2.1/\y.2.1<=15) (h:key x=key y):x.1=y.1/\x.2.1=y.2.1:=by
 unfold key at h
 omega
theorem uniq:∀ {l l':List It},srt l->srt l'->Vld l->Vld l'->(∀ x∈l,x.2.2≠0)->(∀ x∈l',x.2.2≠0)->(∀ q,look l q=look l' q)->l=l'
 | [],[],_,_,_,_,_,_,_=>rfl
 | [],y::l',_,_,_,_,_,hn,h=>by
  have:=h (key y)
  simp only [look,if_true] at this
  exact absurd this.symm (hn y (by simp))
 | x::l,[],_,_,_,_,hn,_,h=>by
  have:=h (key x)
  simp only [look,if_true] at this
  exact absurd this (hn x (by simp))
 | x::l,y::l',hs,hs',hv,hv',hn,hn',h=>by
  have s1:=hs
  have s2:=hs'
  simp only [srt,jdl] at s1 s2
  have hk:key x=key y:=by
   rcases Int.lt_trichotomy (key x) (key y) with h1 | h1 | h1
   ·have e:=h (key x)
    simp only [look,if_true] at e
    rw [if_neg (by omega),kdt (fun z hz=>by have:=s2.1 z hz; omega)] at e
    exact absurd e (hn x (by simp))
   ·exact h1
   ·have e:=h (key y)
    simp only [look,if_true] at e
    rw [if_neg (by omega),kdt (fun z hz=>by have:=s1.1 z hz; omega)] at e
    exact absurd e.symm (hn' y (by simp))
  have hN:x.2.2=y.2.2:=by
   have e:=h (key x)
   simp only [look,if_true] at e
   rw [if_pos hk.symm] at e
   exact e
  have vx:=hv x (by simp)
  have vy:=hv' y (by simp)
  obtain ⟨e1,e2⟩:=kxS ⟨vx.2.2.1,vx.2.2.2⟩ ⟨vy.2.2.1,vy.2.2.2⟩ hk
  have hxy:x=y:=by
   obtain ⟨a,b,c⟩:=x
   obtain ⟨a',b',c'⟩:=y
   simp only at e1 e2 hN
   subst e1; subst e2; subst hN; rfl
  subst hxy
  rw [uniq s1.2 s2.2 (fun z hz=>hv z (by simp [hz])) (fun z hz=>hv' z (by simp [hz])) (fun z hz=>hn z (by simp [hz])) (fun z hz=>hn' z (by simp [hz])) fun q=>by
   have e:=h q
   simp only [look] at e
   by_cases hq:key x=q
   ·rw [kdt (fun z hz=>by have:=s1.1 z hz; omega),kdt (fun z hz=>by have:=s2.1 z hz; omega)]
   ·rw [if_neg hq,if_neg hq] at e; exact e]
structure Stk (l:List It):Prop where
 v:Vld l
 s:srt l
 n:∀ x∈l,1<=x.2.2/\x.2.2<=1000
 len:l.length<=30
theorem kuS {x y:It} (hx:0<=x.2.1/\x.2.1<=15) (hy:0<=y.2.1/\y.2.1<=15):ltI x y=decide (key x<key y):=by
 unfold ltI key
 rw [Bool.eq_iff_iff]
 simp only [jau,jai,jac,beq_iff_eq]
 omega
theorem kmt {l:List It} {p:Nat->It->Bool} (h:(l.zipIdx.any fun x=>p x.2 x.1)=false) (i:Nat) (hi:i<l.length):p i l[i]=false:=by
 rw [List.any_eq_false] at h
 have:=h (l[i],i) (by rw [jda]; simp [hi])
 simpa using this
theorem ktb {l:List It} (h:stk l=true) (hc:∀ x∈l,0<=x.2.1):Stk l:=by
 unfold stk at h
 simp only [jac,jbh,jai] at h
 obtain ⟨⟨h1,h2⟩,h3⟩:=h
 have hv:∀ x∈l,vP x=true:=fun x hx=>by
  obtain ⟨i,hi,rfl⟩:=jdm.1 hx
  have:=kmt h2 i hi
  unfold badI at this
  simp only [jcm,Bool.not_eq_false'] at this
  exact this.1
 have hV:Vld l:=fun x hx=>by
  have:=hv x hx
  unfold vP at this
  simp only [jac,jai] at this
  exact ⟨this.1.1,this.1.2,hc x hx,this.2⟩
 refine ⟨hV,?_,fun x hx=>?_,h1⟩
 ·have adj:∀ i,(hi:i+1<l.length)->key l[i]<key l[i+1]:=fun i hi=>by
   have:=kmt h2 (i+1) hi
   unfold badI at this
   simp only [jcm,Bool.and_eq_false_iff,Nat.succ_pos,decide_true,Bool.true_eq_false,false_or,Nat.add_sub_cancel,Bool.not_eq_false'] at this
   have h5:=this.2
   rw [jaf (by omega),jbw] at h5
   have v1:=hV l[i] (List.getElem_mem _)
   have v2:=hV l[i+1] (List.getElem_mem _)
   rw [kuS ⟨v1.2.2.1,v1.2.2.2⟩ ⟨v2.2.2.1,v2.2.2.2⟩] at h5
   simpa using h5
  refine List.pairwise_iff_getElem.2 fun i j hi hj hij=>?_
  have:∀ d,(hd:i+d+1<l.length)->key l[i]<key l[i+d+1]:=by
   intro d
   induction d with
   | zero=>intro hd; exact adj i hd
   | succ d ih=>
    intro hd
    have h6:=ih (by omega)
    have h7:=adj (i+d+1) hd
    exact Int.lt_trans h6 h7
  have h8:=this (j-i-1) (by omega)
  have e:i+(j-i-1)+1=j:=by omega
  simpa only [e] using h8
 ·have:=jal.1 h3 x hx
  unfold okN at this
  simpa using this
theorem kym {l:List It} (hv:Vld l) (hs:srt l):stk l=(decide (l.length<=30)&&l.all okN):=by
 unfold stk
 have:(l.zipIdx.any fun x=>badI l x.2 x.1)=false:=by
  rw [List.any_eq_false]
  intro x hx
  rw [jda] at hx
  obtain ⟨hi,e⟩:=jad.1 hx
  obtain ⟨y,i⟩:=x
  simp only at hi e
  subst e
  have v1:=hv l[i] (List.getElem_mem _)
  unfold badI vP
  simp only [jbz,jcm,Bool.not_eq_false',jac,jai,Bool.and_eq_false_iff]
  refine ⟨⟨⟨v1.1,v1.2.1⟩,v1.2.2.2⟩,?_⟩
  by_cases h0:0<i
  ·right
   rw [jaf (by omega),jbw]
   have v2:=hv l[i-1] (List.getElem_mem _)
   rw [kuS ⟨v2.2.2.1,v2.2.2.2⟩ ⟨v1.2.2.1,v1.2.2.2⟩]
   simpa using List.pairwise_iff_getElem.1 hs (i-1) i (by omega) hi (by omega)
  ·left; simpa using h0
 rw [this]; simp
theorem kft {l:List It} (h:Stk l) (q:Int):0<=look l q/\look l q<=1000:=by
 have hn:=h.n
 clear h
 induction l with
 | nil=>simp [look]
 | cons x l ih=>
  simp only [look]
  split
  ·have:=hn x (by simp); omega
  ·exact ih fun y hy=>hn y (by simp [hy])
theorem kxe {x y:It} (hx:0<=x.2.1/\x.2.1<=15) (hy:0<=y.2.1/\y.2.1<=15):(ordI (x.1,x.2.1) (y.1,y.2.1)<0↔key x<key y)/\(ordI (x.1,x.2.1) (y.1,y.2.1)=0↔key x=key y):=by
 unfold ordI key
 simp only
 constructor <;> (repeat' split) <;> omega
theorem kuo (b:List It):kcz [] b=some 1:=by unfold kcz; rw [if_pos (by rfl)]
theorem ktc (x:It) (a:List It):kcz (x::a) []=some (-1):=by
 unfold kcz
 rw [if_neg (by rw [kay]; simp; omega),if_pos (by rfl)]
theorem kjJ (x y:It) (a b:List It):kcz (x::a) (y::b)=some (ordI (x.1,x.2.1) (y.1,y.2.1)):=by
 unfold kcz
 rw [if_neg (by rw [kay]; simp; omega),if_neg (by rw [kay]; simp; omega),kic,kic]
 simp only [jao,kaZ,kmI]
structure Mrg (h:Int->Int->Int) (a b r:List It):Prop where
 s:srt r
 v:Vld r
 n:∀ x∈r,x.2.2≠0
 lo:∀ p,(∀ x∈a,p<key x)->(∀ x∈b,p<key x)->∀ x∈r,p<key x
 l:∀ q,look r q=h (look a q) (look b q)
 len:r.length<=a.length+b.length
theorem Mrg.cons {h:Int->Int->Int} {a b a2 b2 r:List It} (hm:Mrg h a2 b2 r) {k c:Int} (hv:0<=k/\k<=15/\0<=c/\c<=15) (ha2:∀ x∈a2,16*k+c<key x) (hb2:∀ x∈b2,16*k+c<key x) (h0:h 0 0=0)
  (hla:∀ q,q≠16*k+c->look a q=look a2 q) (hlb:∀ q,q≠16*k+c->look b q=look b2 q) (hlen:a2.length+b2.length<a.length+b.length) (hlo:∀ p,(∀ x∈a,p<key x)->(∀ x∈b,p<key x)->p<16*k+c/\(∀ x∈a2,p<key x)/\∀ x∈b2,p<key x) :
  Mrg h a b (if h (look a (16*k+c)) (look b (16*k+c))≠0 then (k,c,h (look a (16*k+c)) (look b (16*k+c)))::r else r):=by
 have hr:=hm.lo _ ha2 hb2
 generalize hn:h (look a (16*k+c)) (look b (16*k+c))=n
 have hkey:key (k,c,n)=16*k+c:=rfl
 by_cases hz:n≠0
 ·rw [if_pos hz]
  refine ⟨jdl.2 ⟨fun y hy=>by rw [hkey]; exact hr y hy,hm.s⟩,fun x hx=>?_,fun x hx=>?_,fun p h1 h2 x hx=>?_,fun q=>?_,by have:=hm.len; simp only [jcu]; omega⟩
  ·rcases jax.1 hx with rfl | hx
   ·exact hv
   ·exact hm.v x hx
  ·rcases jax.1 hx with rfl | hx
   ·exact hz
   ·exact hm.n x hx
  ·obtain ⟨g1,g2,g3⟩:=hlo p h1 h2
   rcases jax.1 hx with rfl | hx
   ·rw [hkey]; exact g1
   ·exact hm.lo p g2 g3 x hx
  ·simp only [look]
   rw [hkey]
   by_cases hq:16*k+c=q
   ·rw [if_pos hq,<-hq,hn]
   ·rw [if_neg hq,hm.l q,hla q (fun e=>hq e.symm),hlb q (fun e=>hq e.symm)]
 ·rw [if_neg hz]
  have hz:n=0:=by omega
  subst hz
  refine ⟨hm.s,hm.v,hm.n,fun p h1 h2 x hx=>?_,fun q=>?_,by have:=hm.len; omega⟩
  ·obtain ⟨g1,g2,g3⟩:=hlo p h1 h2
   exact hm.lo p g2 g3 x hx
  ·by_cases hq:q=16*k+c
   ·subst hq
    rw [hn]
    exact kdt fun x hx=>by have:=hr x hx; omega
   ·rw [hm.l q,hla q hq,hlb q hq]
theorem kdP {x:It} {l:List It} {q:Int} (h:key x≠q):look (x::l) q=look l q:=by simp only [look]; rw [if_neg h]
theorem kdU {x:It} {l:List It}:look (x::l) (key x)=x.2.2:=by simp [look]
theorem krP (how:Int×Int->Option Int) (h:Int->Int->Int) (hh:∀ n m,how (n,m)=some (h n m)) (h0:h 0 0=0):∀ (n:Nat) (a b out:List It),a.length+b.length<=n->srt a->srt b->Vld a->Vld b->out.length+n<=1000->
  ∃ r,itN (kbp how) (n+1) (a,b,out)=some (out++r)/\Mrg h a b r:=by
 intro n
 induction n with
 | zero=>
  intro a b out hn sa sb va vb ho
  have ea:a=[]:=jbg (by omega)
  have eb:b=[]:=jbg (by omega)
  subst ea; subst eb
  refine ⟨[],?_,⟨List.Pairwise.nil,fun x hx=>(by cases hx),fun x hx=>(by cases hx),fun p _ _ x hx=>(by cases hx),fun q=>by simp [look,h0],by simp⟩⟩
  rw [jaz]
  exact kjB rfl
 | succ n ih=>
  intro a b out hn sa sb va vb ho
  have fin:∀ (a2 b2:List It) (k c:Int) (N:Int) (o:List It),kbp how (a,b,out)=some (.inl (a2,b2,if N≠0 then out++[(k,c,N)] else out))->N=h (look a (16*k+c)) (look b (16*k+c))->(0<=k/\k<=15/\0<=c/\c<=15)->
    (∀ x∈a2,16*k+c<key x)->(∀ x∈b2,16*k+c<key x)->(∀ q,q≠16*k+c->look a q=look a2 q)->(∀ q,q≠16*k+c->look b q=look b2 q)->a2.length+b2.length<a.length+b.length->srt a2->srt b2->Vld a2->Vld b2->
    (∀ p,(∀ x∈a,p<key x)->(∀ x∈b,p<key x)->p<16*k+c/\(∀ x∈a2,p<key x)/\∀ x∈b2,p<key x)->∃ r,itN (kbp how) (n+1+1) (a,b,out)=some (out++r)/\Mrg h a b r:=by
   intro a2 b2 k c N o hgo hN hv ha2 hb2 hla hlb hlen s2 t2 v2 w2 hlo
   obtain ⟨r,g1,g2⟩:=ih a2 b2 (if N≠0 then out++[(k,c,N)] else out) (by omega) s2 t2 v2 w2 (by split <;> (try simp only [jbc,jcq]) <;> omega)
   refine ⟨_,?_,g2.cons hv ha2 hb2 h0 hla hlb hlen hlo⟩
   rw [kpP hgo,g1,<-hN]
   by_cases hz:N≠0
   ·rw [if_pos hz,if_pos hz,jas]; rfl
   ·rw [if_neg hz,if_neg hz]
  cases a with
  | nil=>
   cases b with
   | nil=>
    refine ⟨[],?_,⟨List.Pairwise.nil,fun x hx=>(by cases hx),fun x hx=>(by cases hx),fun p _ _ x hx=>(by cases hx),fun q=>by simp [look,h0],by simp⟩⟩
    rw [jaz]
    exact kjB rfl
   | cons y b=>
    have sb':=sb
    simp only [srt,jdl] at sb'
    have vy:=vb y (by simp)
    refine fin [] b y.1 y.2.1 (h 0 y.2.2) out ?_ ?_ vy (fun x hx=>by cases hx) (fun x hx=>sb'.1 x hx) (fun q _=>rfl) (fun q hq=>kdP (fun e=>hq e.symm)) (by simp) List.Pairwise.nil sb'.2 va (fun x hx=>vb x (by simp [hx])) (fun p _ h2=>⟨h2 y (by simp),fun x hx=>(by cases hx),fun x hx=>h2 x (by simp [hx])⟩)
    ·unfold kbp
     simp only [kuo,kic,kjF,jao,hh]
     rw [if_neg (by simp [kay]),show decide (0<lenI (y::b))=true by (simp [kay] <;> omega)]
     simp only [jao,if_true]
     rw [if_neg (by decide)]
     simp only [jao]
     by_cases hz:h 0 y.2.2=0
     ·simp [hz]
     ·rw [kiB (by simp only [jcq]; omega)]; simp [hz]
    ·show _=h (look [] (key y)) (look (y::b) (key y))
     rw [kdU]; rfl
  | cons x a=>
   have sa':=sa
   simp only [srt,jdl] at sa'
   have vx:=va x (by simp)
   cases b with
   | nil=>
    refine fin a [] x.1 x.2.1 (h x.2.2 0) out ?_ ?_ vx (fun z hz=>sa'.1 z hz) (fun z hz=>by cases hz) (fun q hq=>kdP (fun e=>hq e.symm)) (fun q _=>rfl) (by simp) sa'.2 List.Pairwise.nil (fun z hz=>va z (by simp [hz])) vb (fun p h1 _=>⟨h1 x (by simp),fun z hz=>h1 z (by simp [hz]),fun z hz=>(by cases hz)⟩)
    ·unfold kbp
     simp only [ktc,kic,kjF,jao,hh]
     rw [if_pos (by simp [kay] <;> omega)]
     simp only [jao,if_true]
     rw [if_pos (by decide),if_neg (by decide)]
     simp only [jao]
     by_cases hz:h x.2.2 0=0
     ·simp [hz]
     ·rw [kiB (by simp only [jcq]; omega)]; simp [hz]
    ·show _=h (look (x::a) (key x)) (look [] (key x))
     rw [kdU]; rfl
   | cons y b=>
    have sb':=sb
    simp only [srt,jdl] at sb'
    have vy:=vb y (by simp)
    obtain ⟨o1,o2⟩:=kxe (x:=x) (y:=y) ⟨vx.2.2.1,vx.2.2.2⟩ ⟨vy.2.2.1,vy.2.2.2⟩
    rcases Int.lt_trichotomy (key x) (key y) with hxy | hxy | hxy
    ·have e1:=o1.2 hxy
     refine fin a (y::b) x.1 x.2.1 (h x.2.2 0) out ?_ ?_ vx (fun z hz=>sa'.1 z hz) (fun z hz=>?_) (fun q hq=>kdP (fun e=>hq e.symm)) (fun q _=>rfl) (by simp) sa'.2 sb (fun z hz=>va z (by simp [hz])) vb (fun p h1 h2=>⟨h1 x (by simp),fun z hz=>h1 z (by simp [hz]),h2⟩)
     ·unfold kbp
      simp only [kjJ,kic,kjF,jao,hh]
      rw [if_pos (by simp [kay] <;> omega)]
      simp only [jao,if_true]
      rw [if_pos (by simpa using Int.le_of_lt e1),if_neg (by simp; omega)]
      simp only [jao]
      by_cases hz:h x.2.2 0=0
      ·simp [hz]
      ·rw [kiB (by simp only [jcq]; omega)]; simp [hz]
     ·show _=h (look (x::a) (key x)) (look (y::b) (key x))
      rw [kdU,kdt (l:=y::b) (fun z hz=>by
       rcases jax.1 hz with rfl | hz
       ·omega
       ·have:=sb'.1 z hz; omega)]
     ·show key x<key z
      rcases jax.1 hz with rfl | hz
      ·exact hxy
      ·exact Int.lt_trans hxy (sb'.1 z hz)
    ·have e1:=o2.2 hxy
     refine fin a b x.1 x.2.1 (h x.2.2 y.2.2) out ?_ ?_ vx (fun z hz=>sa'.1 z hz) (fun z hz=>?_) (fun q hq=>kdP (fun e=>hq e.symm)) (fun q hq=>kdP (fun e=>hq (by rw [<-e,<-hxy]; rfl))) (by simp; omega) sa'.2 sb'.2 (fun z hz=>va z (by simp [hz])) (fun z hz=>vb z (by simp [hz])) (fun p h1 h2=>⟨h1 x (by simp),fun z hz=>h1 z (by simp [hz]),fun z hz=>h2 z (by simp [hz])⟩)
     ·unfold kbp
      simp only [kjJ,kic,kjF,jao,hh,e1]
      rw [if_pos (by simp [kay] <;> omega)]
      simp only [jao,if_true]
      rw [if_pos (by decide),if_pos (by decide)]
      simp only [jao]
      by_cases hz:h x.2.2 y.2.2=0
      ·simp [hz]
      ·rw [kiB (by simp only [jcq]; omega)]; simp [hz]
     ·show _=h (look (x::a) (key x)) (look (y::b) (key x))
      rw [kdU,hxy,kdU]
     ·show key x<key z
      have:=sb'.1 z hz; omega
    ·have e1:0<ordI (x.1,x.2.1) (y.1,y.2.1):=by
      have n1:¬ ordI (x.1,x.2.1) (y.1,y.2.1)<0:=fun e=>by have:=o1.1 e; omega
      have n2:¬ ordI (x.1,x.2.1) (y.1,y.2.1)=0:=fun e=>by have:=o2.1 e; omega
      omega
     refine fin (x::a) b y.1 y.2.1 (h 0 y.2.2) out ?_ ?_ vy (fun z hz=>?_) (fun z hz=>sb'.1 z hz) (fun q _=>rfl) (fun q hq=>kdP (fun e=>hq e.symm)) (by simp) sa sb'.2 va (fun z hz=>vb z (by simp [hz])) (fun p h1 h2=>⟨h2 y (by simp),h1,fun z hz=>h2 z (by simp [hz])⟩)
     ·unfold kbp
      simp only [kjJ,kic,kjF,jao,hh]
      rw [if_pos (by simp [kay] <;> omega)]
      simp only [jao,if_true]
      rw [if_neg (by simp; omega)]
      simp only [jao]
      by_cases hz:h 0 y.2.2=0
      ·simp [hz]
      ·rw [kiB (by simp only [jcq]; omega)]; simp [hz]
     ·show _=h (look (x::a) (key y)) (look (y::b) (key y))
      rw [kdU,kdt (l:=x::a) (fun z hz=>by
       rcases jax.1 hz with rfl | hz
       ·omega
       ·have:=sa'.1 z hz; omega)]
     ·show key y<key z
      rcases jax.1 hz with rfl | hz
      ·exact hxy
      ·exact Int.lt_trans hxy (sa'.1 z hz)
end Go.Abs
