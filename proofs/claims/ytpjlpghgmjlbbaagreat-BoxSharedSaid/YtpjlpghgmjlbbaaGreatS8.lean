/- The functions and the law, part 8. -/
import Derived.Test.YtpjlpghgmjlbbaaGreatProg
import Derived.Test.YtpjlpghgmjlbbaaGreatZ3
import Derived.Test.YtpjlpghgmjlbbaaGreatZ6
set_option linter.constructorNameAsVariable false
set_option linter.unusedVariables false
set_option linter.unusedSimpArgs false
set_option linter.unusedSectionVars false
namespace Go.Abs
open Go
@[reducible] def kvU:Ty:=(.pr (.i .i64) (.sl (.i .i64)))
abbrev kaj:=(Int×(List Int))
@[reducible] def tBill:Ty:=(.pr (.sl (.i .i64)) (.pr (.sl (.pr (.i .i64) (.pr (.i .u8) (.i .i64)))) (.i .i64)))
abbrev Bill:=((List Int)×(List (Int×Int×Int))×Int)
@[reducible] def kze:Ty:=(.pr (.sl (.i .i64)) (.pr (.i .i64) (.sl (.pr (.i .i64) (.pr (.i .u8) (.i .i64))))))
abbrev keZ:=((List Int)×Int×(List (Int×Int×Int)))
@[reducible] def tLine:Ty:=(.pr (.i .i64) (.pr (.i .i64) (.pr (.i .i64) (.pr (.pr (.i .i64) (.i .u8)) .b))))
abbrev Line:=(Int×Int×Int×(Int×Int)×Bool)
@[reducible] def tFlow:Ty:=(.pr (.sl (.pr (.i .i64) (.pr (.i .u8) (.i .i64)))) (.pr (.sl (.sl (.i .i64))) (.pr (.sl (.sl (.i .i64))) (.sl (.i .i64)))))
abbrev Flow:=((List (Int×Int×Int))×(List (List Int))×(List (List Int))×(List Int))
@[reducible] def tSwap:Ty:=(.pr (.i .i64) (.pr (.i .u8) (.pr (.i .i64) (.i .u8))))
abbrev Swap:=(Int×Int×Int×Int)
def kbk (x0:Int) (x1:Int) (x2:Int):Option (Int×Int×Int):=
 (some (x0,x1,x2))
def kfQ (x0:Int) (x1:Int) (x2:Int):Option Bool:=
 (if (decide (x0<=x2))=true then (some (decide (x2<=x1))) else (some false))
def khL (x0:(Int×Int×Int)):Option Bool:=
 ((kfQ 1 1000 x0.2.2).bind fun v0=>(some (!v0)))
def kcc (x0:(Int×Int)):Option Bool:=
 ((kfQ 0 15 x0.1).bind fun v0=>(if v0=true then (some (decide (x0.2<=15))) else (some false)))
def kdu (x0:Int):Option Bool:=
 (some (x0 != x0))
def kcs (x0:Int) (x1:Int):Option Int:=
 ((kdu x0).bind fun v0=>((kdu x1).bind fun v1=>(if v0=true then (if v1=true then (some 0) else (some (-1))) else (if v1=true then (some 1) else (if (decide (x0<x1))=true then (some (-1)) else (if (decide (x1<x0))=true then (some 1) else (some 0)))))))
def kfq (x0:Int):Option Bool:=
 (some (x0 != x0))
def kcF (x0:Int) (x1:Int):Option Int:=
 ((kfq x0).bind fun v0=>((kfq x1).bind fun v1=>(if v0=true then (if v1=true then (some 0) else (some (-1))) else (if v1=true then (some 1) else (if (decide (x0<x1))=true then (some (-1)) else (if (decide (x1<x0))=true then (some 1) else (some 0)))))))
def khf (x0:(List Int)) (v0:Int):Option (Int⊕(Int⊕Unit)):=
 (if (decide (v0<(lenI x0)))=true then ((gi x0 v0).bind fun v1=>(if (v1 != 0)=true then (some (.inr (.inl v1))) else (some (.inl (w64 (v0+1)))))) else (some (.inr (.inr ()))))
def kia (x0:(List Int)):Option Int:=
 ((iter (khf x0) 0).bind fun v2=>(match v2 with | .inl v3=>(some v3) | .inr v4=>(some 0)))
def kfJ (x0:(Int×Int)) (x1:(Int×Int)):Option Int:=
 ((kcs x0.1 x1.1).bind fun v0=>((kcF x0.2 x1.2).bind fun v1=>((kia [v0,v1]).bind fun v2=>(some v2))))
def kbW (x0:(List (Int×Int×Int))) (x2:((Int×Int×Int)->Option (Int×Int))) (v0:Int):Option (Int⊕(Bool⊕Unit)):=
 (if (decide (v0<(lenI x0)))=true then ((gi x0 v0).bind fun v1=>((x2 v1).bind fun v2=>((kcc v2).bind fun v3=>(if (!v3)=true then (some (.inr (.inl false))) else (if (decide (0<v0))=true then ((gi x0 (w64 (v0-1))).bind fun v4=>((x2 v4).bind fun v5=>((x2 v1).bind fun v6=>((kfJ v5 v6).bind fun v7=>(if (decide (0<=v7))=true then (some (.inr (.inl false))) else (some (.inl (w64 (v0+1))))))))) else (some (.inl (w64 (v0+1))))))))) else (some (.inr (.inr ()))))
def kcI (x0:(List (Int×Int×Int))) (x1:Int) (x2:((Int×Int×Int)->Option (Int×Int))):Option Bool:=
 ((iter (kbW x0 x2) 0).bind fun v8=>(match v8 with | .inl v9=>(some v9) | .inr v10=>(some (decide ((lenI x0)<=x1)))))
def kbm (x0:(Int×Int×Int)):Option (Int×Int):=
 (some (x0.1,x0.2.1))
def kaC (x0:(List (Int×Int×Int))) (x1:((Int×Int×Int)->Option Bool)) (v0:Int):Option (Int⊕(Int⊕Unit)):=
 (if (decide (v0<(lenI x0)))=true then ((gi x0 v0).bind fun v1=>((x1 v1).bind fun v2=>(if v2=true then (some (.inr (.inl v0))) else (some (.inl (w64 (v0+1))))))) else (some (.inr (.inr ()))))
def kbh (x0:(List (Int×Int×Int))) (x1:((Int×Int×Int)->Option Bool)):Option Int:=
 ((iter (kaC x0 x1) 0).bind fun v3=>(match v3 with | .inl v4=>(some v4) | .inr v5=>(some (-1))))
def kas (x0:(List (Int×Int×Int))) (x1:((Int×Int×Int)->Option Bool)):Option Bool:=
 ((kbh x0 x1).bind fun v0=>(some (decide (0<=v0))))
def kjh (x0:(List (Int×Int×Int))):Option Int:=
 ((kcI x0 30 (fun (u0:(Int×Int×Int))=>((kbm u0).bind fun u1=>(some u1)))).bind fun v0=>(if (!v0)=true then (some 8) else ((kas x0 (fun (u0:(Int×Int×Int))=>((khL u0).bind fun u1=>(some u1)))).bind fun v1=>(if v1=true then (some 8) else (some 0)))))
def kgk (x0:(List (List (Int×Int×Int)))) (v0:Int):Option (Int⊕(Int⊕Unit)):=
 (if (decide (v0<(lenI x0)))=true then ((gi x0 v0).bind fun v1=>((kjh v1).bind fun v2=>(if (v2 != 0)=true then (some (.inr (.inl v2))) else (some (.inl (w64 (v0+1))))))) else (some (.inr (.inr ()))))
def kbM (x0:(List (List (Int×Int×Int)))):Option Int:=
 ((iter (kgk x0) 0).bind fun v3=>(match v3 with | .inl v4=>(some v4) | .inr v5=>(some 0)))
def kcM (x0:(List (Int×Int×Int))) (x1:(List (Int×Int×Int))):Option Int:=
 (if ((lenI x0)==0)=true then (some 1) else (if ((lenI x1)==0)=true then (some (-1)) else ((gi x0 0).bind fun v0=>((kbm v0).bind fun v1=>((gi x1 0).bind fun v2=>((kbm v2).bind fun v3=>((kfJ v1 v3).bind fun v4=>(some v4))))))))
def kbz (x2:((Int×Int)->Option Int)) (v0:((List (Int×Int×Int))×(List (Int×Int×Int))×(List (Int×Int×Int)))):Option (((List (Int×Int×Int))×(List (Int×Int×Int))×(List (Int×Int×Int)))⊕(List (Int×Int×Int))):=
 ((if (decide (0<(lenI v0.1)))=true then (some true) else (some (decide (0<(lenI v0.2.1))))).bind fun v1=>(if v1=true then ((kcM v0.1 v0.2.1).bind fun v2=>((if (decide (v2<=0))=true then ((gi v0.1 0).bind fun v3=>((gi v0.1 0).bind fun v4=>((gsl v0.1 1 (lenI v0.1)).bind fun v5=>((if (v2==0)=true then ((gi v0.2.1 0).bind fun v6=>((gsl v0.2.1 1 (lenI v0.2.1)).bind fun v7=>(some (v6.2.2,v7)))) else (some (0,v0.2.1))).bind fun v8=>(some (v4.2.2,v8.1,v5,v8.2,v3)))))) else ((gi v0.2.1 0).bind fun v9=>((gi v0.2.1 0).bind fun v10=>((gsl v0.2.1 1 (lenI v0.2.1)).bind fun v11=>(some (0,v10.2.2,v0.1,v11,v9)))))).bind fun v12=>((x2 (v12.1,v12.2.1)).bind fun v13=>(if (v13 != 0)=true then ((gapp v0.2.2 [(v12.2.2.2.2.1,v12.2.2.2.2.2.1,v13)]).bind fun v14=>(some (.inl (v12.2.2.1,v12.2.2.2.1,v14)))) else (some (.inl (v12.2.2.1,v12.2.2.2.1,v0.2.2))))))) else (some (.inr v0.2.2))))
def keM (x0:(List (Int×Int×Int))) (x1:(List (Int×Int×Int))) (x2:((Int×Int)->Option Int)):Option (List (Int×Int×Int)):=
 ((iter (kbz x2) (x0,x1,[])).bind fun v15=>(some v15))
def kjU (x0:Int) (x1:Int):Option Int:=
 (some (w64 (x0+x1)))
def kiD (x0:(List (Int×Int×Int))) (x1:(List (Int×Int×Int))):Option ((List (Int×Int×Int))×Int):=
 ((kbM [x0,x1]).bind fun v0=>(if (v0 != 0)=true then (some ([],v0)) else ((keM x0 x1 (fun (u0:(Int×Int))=>((kjU u0.1 u0.2).bind fun u1=>(some u1)))).bind fun v1=>((kjh v1).bind fun v2=>(if (v2 != 0)=true then (some ([],4)) else (some (v1,0)))))))
def law08_needed:Option (List (Int×Int×Int)):=
 ((kbk 1 1 3).bind fun v0=>((kbk 2 1 2).bind fun v1=>(some [v0,v1])))
def law08_swap:Option (List Swap):=
 (some [(2,1,1,1)])
def kjC (x0:Swap):Option Bool:=
 ((bthO tSwap (some x0) (some x0)).bind fun v0=>((kcc (v0.1,v0.2.1)).bind fun v1=>(if (!v1)=true then (some true) else ((kcc v0.2.2).bind fun v2=>(if (!v2)=true then (some true) else (some ((v0.1==v0.2.2.1)&&(v0.2.1==v0.2.2.2))))))))
def keX (x0:(List Swap)) (x1:(Swap->Option Bool)) (v0:Int):Option (Int⊕(Int⊕Unit)):=
 (if (decide (v0<(lenI x0)))=true then ((gi x0 v0).bind fun v1=>((x1 v1).bind fun v2=>(if v2=true then (some (.inr (.inl v0))) else (some (.inl (w64 (v0+1))))))) else (some (.inr (.inr ()))))
def kcj (x0:(List Swap)) (x1:(Swap->Option Bool)):Option Int:=
 ((iter (keX x0 x1) 0).bind fun v3=>(match v3 with | .inl v4=>(some v4) | .inr v5=>(some (-1))))
def kbU (x0:(List Swap)) (x1:(Swap->Option Bool)):Option Bool:=
 ((kcj x0 x1).bind fun v0=>(some (decide (0<=v0))))
def kiQ (x0:(List Swap)):Option Int:=
 (if (decide (30<(lenI x0)))=true then (some 2) else ((kbU x0 (fun (u0:Swap)=>((kjC u0).bind fun u1=>(some u1)))).bind fun v0=>(if v0=true then (some 2) else (some 0))))
def kgp (x0:(List Swap)) (x1:Swap) (v0:Int):Option (Int⊕(Int⊕Unit)):=
 (if (decide (v0<(lenI x0)))=true then ((gi x0 v0).bind fun v1=>(if ((x1.1==v1.1)&&((x1.2.1==v1.2.1)&&((x1.2.2.1==v1.2.2.1)&&(x1.2.2.2==v1.2.2.2))))=true then (some (.inr (.inl v0))) else (some (.inl (w64 (v0+1)))))) else (some (.inr (.inr ()))))
def kcV (x0:(List Swap)) (x1:Swap):Option Int:=
 ((iter (kgp x0 x1) 0).bind fun v2=>(match v2 with | .inl v3=>(some v3) | .inr v4=>(some (-1))))
def kcr (x0:(List Swap)) (x1:Swap):Option Bool:=
 ((kcV x0 x1).bind fun v0=>(some (decide (0<=v0))))
def krN (x0:(List Swap)) (x1:(Int×Int)) (x2:(Int×Int)):Option Bool:=
 (if ((x1.1==x2.1)&&(x1.2==x2.2))=true then (some true) else ((kcr x0 (x1.1,x1.2,x2)).bind fun v0=>(some v0)))
def kkR (rec_box_flow_short_c1_m0:Int->(List Bool)->(Option Flow)->Option ((List Bool)×(Option Flow))) (v6:Int) (v7:Flow) (v8:(Int×(Option Flow)×(List Bool))):Option ((Int×(Option Flow)×(List Bool))⊕((Option Flow)×(List Bool))):=
 (if (decide (v8.1<(lenI v7.2.2.1)))=true then (v8.2.1.bind fun v9=>((gi v9.2.2.1 v8.1).bind fun v10=>((gi v10 v6).bind fun v11=>(if (decide (0<v11))=true then ((rec_box_flow_short_c1_m0 v8.1 v8.2.2 v8.2.1).bind fun v12=>(some (.inl ((w64 (v8.1+1)),v12.2,v12.1)))) else (some (.inl ((w64 (v8.1+1)),v8.2))))))) else (some (.inr v8.2)))
def kkT (rec_box_flow_short_c1_m0:Int->(List Bool)->(Option Flow)->Option ((List Bool)×(Option Flow))) (v4:(List Int)) (v5:(Int×(Option Flow)×(List Bool))):Option ((Int×(Option Flow)×(List Bool))⊕((Option Flow)×(List Bool))):=
 (if (decide (v5.1<(lenI v4)))=true then ((gi v4 v5.1).bind fun v6=>(v5.2.1.bind fun v7=>((iter (kkR rec_box_flow_short_c1_m0 v6 v7) (0,v5.2)).bind fun v13=>(some (.inl ((w64 (v5.1+1)),v13)))))) else (some (.inr v5.2)))
def kls (rec_box_flow_short_c1_m0:Int->(List Bool)->(Option Flow)->Option ((List Bool)×(Option Flow))) (x0:Int) (x1:(List Bool)) (x2:(Option Flow)):Option ((List Bool)×(Option Flow)):=
 ((gi x1 x0).bind fun v0=>((gi x1 x0).bind fun v1=>(if v1=true then (some (x1,x2)) else ((gi x1 x0).bind fun v2=>(x2.bind fun v3=>((gi v3.2.1 x0).bind fun v4=>((iter (kkT rec_box_flow_short_c1_m0 v4) (0,x2,(lset x1 x0 true))).bind fun v14=>(some (v14.2,v14.1)))))))))
def kdT:Nat->Int->(List Bool)->(Option Flow)->Option ((List Bool)×(Option Flow))
 | 0,_,_,_=>none
 | k+1,x0,x1,x2=>kls (kdT k) x0 x1 x2
def kif (x0:Int) (x1:(List Bool)) (x2:(Option Flow)):Option ((List Bool)×(Option Flow)):=kdT 1000000 x0 x1 x2
def koT (x0:(List (Int×Int×Int))) (v3:(Int×(List (Int×Int×Int))×(List Int))):Option ((Int×(List (Int×Int×Int))×(List Int))⊕((List (Int×Int×Int))×(List Int))):=
 (if (decide (v3.1<(lenI x0)))=true then ((gi x0 v3.1).bind fun v4=>((gapp v3.2.2 [v4.2.2]).bind fun v5=>(some (.inl ((w64 (v3.1+1)),v3.2.1,v5))))) else (some (.inr v3.2)))
def koU (x0:(List (Int×Int×Int))) (x2:(List Swap)) (v8:(Int×Int×Int)) (v9:kaj):Option (kaj⊕(List Int)):=
 (if (decide (v9.1<(lenI x0)))=true then ((gi x0 v9.1).bind fun v10=>((kbm v8).bind fun v11=>((kbm v10).bind fun v12=>((krN x2 v11 v12).bind fun v13=>(if v13=true then ((gapp v9.2 [v9.1]).bind fun v14=>(some (.inl ((w64 (v9.1+1)),v14)))) else (some (.inl ((w64 (v9.1+1)),v9.2)))))))) else (some (.inr v9.2)))
def kpc (x0:(List (Int×Int×Int))) (x1:(List (Int×Int×Int))) (x2:(List Swap)) (v7:(Int×(List (Int×Int×Int))×(List (List Int))×(List (List Int)))):Option ((Int×(List (Int×Int×Int))×(List (List Int))×(List (List Int)))⊕((List (Int×Int×Int))×(List (List Int))×(List (List Int)))):=
 (if (decide (v7.1<(lenI x1)))=true then ((gi x1 v7.1).bind fun v8=>((iter (koU x0 x2 v8) (0,[])).bind fun v15=>(bthO (.sm (.pr (.i .i64) (.pr (.sl (.pr (.i .i64) (.pr (.i .u8) (.i .i64)))) (.pr (.sl (.sl (.i .i64))) (.sl (.sl (.i .i64)))))) (.pr (.sl (.pr (.i .i64) (.pr (.i .u8) (.i .i64)))) (.pr (.sl (.sl (.i .i64))) (.sl (.sl (.i .i64)))))) ((gapp v7.2.2.1 [v15]).bind fun v16=>((gmk (lenI x0) 0).bind fun v17=>((gapp v7.2.2.2 [v17]).bind fun v18=>(some (.inl ((w64 (v7.1+1)),v7.2.1,v16,v18)))))) (bthO (.sm (.pr (.i .i64) (.pr (.sl (.pr (.i .i64) (.pr (.i .u8) (.i .i64)))) (.pr (.sl (.sl (.i .i64))) (.sl (.sl (.i .i64)))))) (.pr (.sl (.pr (.i .i64) (.pr (.i .u8) (.i .i64)))) (.pr (.sl (.sl (.i .i64))) (.sl (.sl (.i .i64)))))) ((gmk (lenI x0) 0).bind fun v19=>((gapp v7.2.2.1 [v15]).bind fun v20=>((gapp v7.2.2.2 [v19]).bind fun v21=>(some (.inl ((w64 (v7.1+1)),v7.2.1,v20,v21)))))) (bthO (.sm (.pr (.i .i64) (.pr (.sl (.pr (.i .i64) (.pr (.i .u8) (.i .i64)))) (.pr (.sl (.sl (.i .i64))) (.sl (.sl (.i .i64)))))) (.pr (.sl (.pr (.i .i64) (.pr (.i .u8) (.i .i64)))) (.pr (.sl (.sl (.i .i64))) (.sl (.sl (.i .i64)))))) ((gmk (lenI x0) 0).bind fun v22=>((gapp v7.2.2.1 [v15]).bind fun v23=>((gapp v7.2.2.2 [v22]).bind fun v24=>(some (.inl ((w64 (v7.1+1)),v7.2.1,v23,v24)))))) (bthO (.sm (.pr (.i .i64) (.pr (.sl (.pr (.i .i64) (.pr (.i .u8) (.i .i64)))) (.pr (.sl (.sl (.i .i64))) (.sl (.sl (.i .i64)))))) (.pr (.sl (.pr (.i .i64) (.pr (.i .u8) (.i .i64)))) (.pr (.sl (.sl (.i .i64))) (.sl (.sl (.i .i64)))))) ((gmk (lenI x0) 0).bind fun v25=>((gapp v7.2.2.1 [v15]).bind fun v26=>((gapp v7.2.2.2 [v25]).bind fun v27=>(some (.inl ((w64 (v7.1+1)),v7.2.1,v26,v27)))))) (bthO (.sm (.pr (.i .i64) (.pr (.sl (.pr (.i .i64) (.pr (.i .u8) (.i .i64)))) (.pr (.sl (.sl (.i .i64))) (.sl (.sl (.i .i64)))))) (.pr (.sl (.pr (.i .i64) (.pr (.i .u8) (.i .i64)))) (.pr (.sl (.sl (.i .i64))) (.sl (.sl (.i .i64)))))) ((gmk (lenI x0) 0).bind fun v28=>((gapp v7.2.2.1 [v15]).bind fun v29=>((gapp v7.2.2.2 [v28]).bind fun v30=>(some (.inl ((w64 (v7.1+1)),v7.2.1,v29,v30)))))) ((gmk (lenI x0) 0).bind fun v31=>((gapp v7.2.2.1 [v15]).bind fun v32=>((gapp v7.2.2.2 [v31]).bind fun v33=>(some (.inl ((w64 (v7.1+1)),v7.2.1,v32,v33))))))))))))) else (some (.inr v7.2)))
def kiN (x0:(List (Int×Int×Int))) (x1:(List (Int×Int×Int))) (x2:(List Swap)):Option Int:=
 ((kbM [x0,x1]).bind fun v0=>((if (v0==0)=true then ((kiQ x2).bind fun v1=>(some v1)) else (some v0)).bind fun v2=>(if (v2 != 0)=true then (some v2) else ((iter (koT x0) (0,x1,[])).bind fun v6=>((iter (kpc x0 x1 x2) (0,v6.1,[],[])).bind fun v34=>none)))))
def kpa (x0:(List (Int×Int×Int))) (v3:(Int×(List (Int×Int×Int))×(List Int))):Option ((Int×(List (Int×Int×Int))×(List Int))⊕((List (Int×Int×Int))×(List Int))):=
 (if (decide (v3.1<(lenI x0)))=true then ((gi x0 v3.1).bind fun v4=>((gapp v3.2.2 [v4.2.2]).bind fun v5=>(some (.inl ((w64 (v3.1+1)),v3.2.1,v5))))) else (some (.inr v3.2)))
def koR (x0:(List (Int×Int×Int))) (x2:(List Swap)) (v8:(Int×Int×Int)) (v9:kaj):Option (kaj⊕(List Int)):=
 (if (decide (v9.1<(lenI x0)))=true then ((gi x0 v9.1).bind fun v10=>((kbm v8).bind fun v11=>((kbm v10).bind fun v12=>((krN x2 v11 v12).bind fun v13=>(if v13=true then ((gapp v9.2 [v9.1]).bind fun v14=>(some (.inl ((w64 (v9.1+1)),v14)))) else (some (.inl ((w64 (v9.1+1)),v9.2)))))))) else (some (.inr v9.2)))
def koQ (x0:(List (Int×Int×Int))) (x1:(List (Int×Int×Int))) (x2:(List Swap)) (v7:(Int×(List (Int×Int×Int))×(List (List Int))×(List (List Int)))):Option ((Int×(List (Int×Int×Int))×(List (List Int))×(List (List Int)))⊕((List (Int×Int×Int))×(List (List Int))×(List (List Int)))):=
 (if (decide (v7.1<(lenI x1)))=true then ((gi x1 v7.1).bind fun v8=>((iter (koR x0 x2 v8) (0,[])).bind fun v15=>(bthO (.sm (.pr (.i .i64) (.pr (.sl (.pr (.i .i64) (.pr (.i .u8) (.i .i64)))) (.pr (.sl (.sl (.i .i64))) (.sl (.sl (.i .i64)))))) (.pr (.sl (.pr (.i .i64) (.pr (.i .u8) (.i .i64)))) (.pr (.sl (.sl (.i .i64))) (.sl (.sl (.i .i64)))))) ((gapp v7.2.2.1 [v15]).bind fun v16=>((gmk (lenI x0) 0).bind fun v17=>((gapp v7.2.2.2 [v17]).bind fun v18=>(some (.inl ((w64 (v7.1+1)),v7.2.1,v16,v18)))))) (bthO (.sm (.pr (.i .i64) (.pr (.sl (.pr (.i .i64) (.pr (.i .u8) (.i .i64)))) (.pr (.sl (.sl (.i .i64))) (.sl (.sl (.i .i64)))))) (.pr (.sl (.pr (.i .i64) (.pr (.i .u8) (.i .i64)))) (.pr (.sl (.sl (.i .i64))) (.sl (.sl (.i .i64)))))) ((gmk (lenI x0) 0).bind fun v19=>((gapp v7.2.2.1 [v15]).bind fun v20=>((gapp v7.2.2.2 [v19]).bind fun v21=>(some (.inl ((w64 (v7.1+1)),v7.2.1,v20,v21)))))) (bthO (.sm (.pr (.i .i64) (.pr (.sl (.pr (.i .i64) (.pr (.i .u8) (.i .i64)))) (.pr (.sl (.sl (.i .i64))) (.sl (.sl (.i .i64)))))) (.pr (.sl (.pr (.i .i64) (.pr (.i .u8) (.i .i64)))) (.pr (.sl (.sl (.i .i64))) (.sl (.sl (.i .i64)))))) ((gmk (lenI x0) 0).bind fun v22=>((gapp v7.2.2.1 [v15]).bind fun v23=>((gapp v7.2.2.2 [v22]).bind fun v24=>(some (.inl ((w64 (v7.1+1)),v7.2.1,v23,v24)))))) (bthO (.sm (.pr (.i .i64) (.pr (.sl (.pr (.i .i64) (.pr (.i .u8) (.i .i64)))) (.pr (.sl (.sl (.i .i64))) (.sl (.sl (.i .i64)))))) (.pr (.sl (.pr (.i .i64) (.pr (.i .u8) (.i .i64)))) (.pr (.sl (.sl (.i .i64))) (.sl (.sl (.i .i64)))))) ((gmk (lenI x0) 0).bind fun v25=>((gapp v7.2.2.1 [v15]).bind fun v26=>((gapp v7.2.2.2 [v25]).bind fun v27=>(some (.inl ((w64 (v7.1+1)),v7.2.1,v26,v27)))))) (bthO (.sm (.pr (.i .i64) (.pr (.sl (.pr (.i .i64) (.pr (.i .u8) (.i .i64)))) (.pr (.sl (.sl (.i .i64))) (.sl (.sl (.i .i64)))))) (.pr (.sl (.pr (.i .i64) (.pr (.i .u8) (.i .i64)))) (.pr (.sl (.sl (.i .i64))) (.sl (.sl (.i .i64)))))) ((gmk (lenI x0) 0).bind fun v28=>((gapp v7.2.2.1 [v15]).bind fun v29=>((gapp v7.2.2.2 [v28]).bind fun v30=>(some (.inl ((w64 (v7.1+1)),v7.2.1,v29,v30)))))) ((gmk (lenI x0) 0).bind fun v31=>((gapp v7.2.2.1 [v15]).bind fun v32=>((gapp v7.2.2.2 [v31]).bind fun v33=>(some (.inl ((w64 (v7.1+1)),v7.2.1,v32,v33))))))))))))) else (some (.inr v7.2)))
def kiz (x0:(List (Int×Int×Int))) (x1:(List (Int×Int×Int))) (x2:(List Swap)):Option (Int×Flow):=
 ((kbM [x0,x1]).bind fun v0=>((if (v0==0)=true then ((kiQ x2).bind fun v1=>(some v1)) else (some v0)).bind fun v2=>(if (v2 != 0)=true then none else ((iter (kpa x0) (0,x1,[])).bind fun v6=>((iter (koQ x0 x1 x2) (0,v6.1,[],[])).bind fun v34=>(some (0,v34.1,v34.2.1,v34.2.2,v6.2)))))))
def kmJ (x1:(List Bool)) (v1:(Int×(List Bool)×(Option Flow))):Option ((Int×(List Bool)×(Option Flow))⊕(List Bool)):=
 (if (decide (v1.1<(lenI x1)))=true then ((gi x1 v1.1).bind fun v2=>(if v2=true then ((kif v1.1 v1.2.1 v1.2.2).bind fun v3=>(some (.inl ((w64 (v1.1+1)),v3)))) else (some (.inl ((w64 (v1.1+1)),v1.2))))) else (some (.inr v1.2.1)))
def kmt (v4:(List Bool)) (v5:kaj):Option (kaj⊕(List Int)):=
 (if (decide (v5.1<(lenI v4)))=true then ((gi v4 v5.1).bind fun v6=>((gi v4 v5.1).bind fun v7=>(if v7=true then ((gapp v5.2 [v5.1]).bind fun v8=>(some (.inl ((w64 (v5.1+1)),v8)))) else (some (.inl ((w64 (v5.1+1)),v5.2)))))) else (some (.inr v5.2)))
def kgB (x0:(Option Flow)) (x1:(List Bool)):Option (List Int):=
 ((gmk (lenI x1) false).bind fun v0=>((iter (kmJ x1) (0,v0,x0)).bind fun v4=>((iter (kmt v4) (0,[])).bind fun v9=>(some v9))))
def klp (rec_box_flow_give_c1_m0:Int->Int->(List (Int×Int×Int))->(List (List Int))->(List (List Int))->(List Int)->(List Bool)->Option (Int×(List (Int×Int×Int))×(List (List Int))×(List (List Int))×(List Int)×(List Bool))) (x0:Int) (x1:Int) (v2:(Int×(List Bool)×Flow)) (v3:Int) (v22:(Int×(List (Int×Int×Int))×(List (List Int))×(List (List Int))×(List Int)×(List Bool))):Option ((Int×(List (Int×Int×Int))×(List (List Int))×(List (List Int))×(List Int)×(List Bool))⊕((Int×(List (Int×Int×Int))×(List (List Int))×(List (List Int))×(List Int)×(List Bool))⊕((List (Int×Int×Int))×(List (List Int))×(List (List Int))×(List Int)×(List Bool)))):=
 (if (decide (v22.1<(lenI v2.2.2.2.2.1)))=true then ((gi v22.2.2.2.1 v22.1).bind fun v23=>((gi v22.2.2.2.1 v22.1).bind fun v24=>((gi v22.2.2.2.1 v22.1).bind fun v25=>((gi v25 v3).bind fun v26=>((gi v22.2.2.2.1 v22.1).bind fun v27=>((gi v27 v3).bind fun v28=>(if (v28==0)=true then (some (.inl ((w64 (v22.1+1)),v22.2))) else ((gi v22.2.2.2.1 v22.1).bind fun v29=>((gi v22.2.2.2.1 v22.1).bind fun v30=>((gi v22.2.2.2.1 v22.1).bind fun v31=>((gi v31 v3).bind fun v32=>((gi v22.2.2.2.1 v22.1).bind fun v33=>((gi v33 v3).bind fun v34=>((rec_box_flow_give_c1_m0 v22.1 (imin x1 v34) v22.2.1 v22.2.2.1 v22.2.2.2.1 v22.2.2.2.2.1 v22.2.2.2.2.2).bind fun v35=>(if (decide (0<v35.1))=true then ((gi v35.2.2.2.1 v22.1).bind fun v36=>((gi v35.2.2.2.1 v22.1).bind fun v37=>((gi v35.2.2.2.1 v22.1).bind fun v38=>((gi v38 v3).bind fun v39=>((gi v35.2.2.2.1 v22.1).bind fun v40=>((gi v40 v3).bind fun v41=>((gi v35.2.2.2.1 v22.1).bind fun v42=>((gi v42 v3).bind fun v43=>((gi v35.2.2.2.1 v22.1).bind fun v44=>((gi v44 v3).bind fun v45=>((gi (lset v35.2.2.2.1 v22.1 (lset v44 v3 (w64 (v41-v35.1)))) x0).bind fun v46=>((gi (lset v35.2.2.2.1 v22.1 (lset v44 v3 (w64 (v41-v35.1)))) x0).bind fun v47=>((gi (lset v35.2.2.2.1 v22.1 (lset v44 v3 (w64 (v41-v35.1)))) x0).bind fun v48=>((gi v48 v3).bind fun v49=>((gi (lset v35.2.2.2.1 v22.1 (lset v44 v3 (w64 (v41-v35.1)))) x0).bind fun v50=>((gi v50 v3).bind fun v51=>((gi (lset v35.2.2.2.1 v22.1 (lset v44 v3 (w64 (v41-v35.1)))) x0).bind fun v52=>((gi v52 v3).bind fun v53=>((gi (lset v35.2.2.2.1 v22.1 (lset v44 v3 (w64 (v41-v35.1)))) x0).bind fun v54=>((gi v54 v3).bind fun v55=>(some (.inr (.inl (v35.1,v35.2.1,v35.2.2.1,(lset (lset v35.2.2.2.1 v22.1 (lset v44 v3 (w64 (v41-v35.1)))) x0 (lset v54 v3 (w64 (v51+v35.1)))),v35.2.2.2.2)))))))))))))))))))))))) else (some (.inl ((w64 (v22.1+1)),v35.2)))))))))))))))))) else (some (.inr (.inr v22.2))))
def klA (rec_box_flow_give_c1_m0:Int->Int->(List (Int×Int×Int))->(List (List Int))->(List (List Int))->(List Int)->(List Bool)->Option (Int×(List (Int×Int×Int))×(List (List Int))×(List (List Int))×(List Int)×(List Bool))) (x0:Int) (x1:Int) (v1:(List Int)) (v2:(Int×(List Bool)×Flow)):Option ((Int×(List Bool)×Flow)⊕((Int×(List (Int×Int×Int))×(List (List Int))×(List (List Int))×(List Int)×(List Bool))⊕((List Bool)×(List Int)×(List (List Int))×(List (Int×Int×Int))×(List (List Int))))):=
 (if (decide (v2.1<(lenI v1)))=true then ((gi v1 v2.1).bind fun v3=>((gi v2.2.1 v3).bind fun v4=>((gi v2.2.1 v3).bind fun v5=>(if v5=true then (some (.inl ((w64 (v2.1+1)),v2.2))) else ((gi v2.2.1 v3).bind fun v6=>((gi v2.2.2.2.2.2 v3).bind fun v7=>((gi v2.2.2.2.2.2 v3).bind fun v8=>(if (decide (0<(imin x1 v8)))=true then ((gi v2.2.2.2.2.2 v3).bind fun v9=>((gi v2.2.2.2.2.2 v3).bind fun v10=>((gi v2.2.2.2.2.2 v3).bind fun v11=>((gi v2.2.2.2.2.1 x0).bind fun v12=>((gi v2.2.2.2.2.1 x0).bind fun v13=>((gi v2.2.2.2.2.1 x0).bind fun v14=>((gi v14 v3).bind fun v15=>((gi v2.2.2.2.2.1 x0).bind fun v16=>((gi v16 v3).bind fun v17=>((gi v2.2.2.2.2.1 x0).bind fun v18=>((gi v18 v3).bind fun v19=>((gi v2.2.2.2.2.1 x0).bind fun v20=>((gi v20 v3).bind fun v21=>(some (.inr (.inl ((imin x1 v8),v2.2.2.1,v2.2.2.2.1,(lset v2.2.2.2.2.1 x0 (lset v20 v3 (w64 (v17+(imin x1 v8))))),(lset v2.2.2.2.2.2 v3 (w64 (v10-(imin x1 v8)))),(lset v2.2.1 v3 true)))))))))))))))))) else ((iter (klp rec_box_flow_give_c1_m0 x0 x1 v2 v3) (0,v2.2.2.1,v2.2.2.2.1,v2.2.2.2.2.1,v2.2.2.2.2.2,(lset v2.2.1 v3 true))).bind fun v56=>(match v56 with | .inl v57=>(some (.inr (.inl v57))) | .inr v58=>(some (.inl ((w64 (v2.1+1)),v58.2.2.2.2,v58.1,v58.2.1,v58.2.2.1,v58.2.2.2.1))))))))))))) else (some (.inr (.inr (v2.2.1,v2.2.2.2.2.2,v2.2.2.2.2.1,v2.2.2.1,v2.2.2.2.1)))))
def klQ (rec_box_flow_give_c1_m0:Int->Int->(List (Int×Int×Int))->(List (List Int))->(List (List Int))->(List Int)->(List Bool)->Option (Int×(List (Int×Int×Int))×(List (List Int))×(List (List Int))×(List Int)×(List Bool))) (x0:Int) (x1:Int) (x2:(List (Int×Int×Int))) (x3:(List (List Int))) (x4:(List (List Int))) (x5:(List Int)) (x6:(List Bool)):Option (Int×(List (Int×Int×Int))×(List (List Int))×(List (List Int))×(List Int)×(List Bool)):=
 ((gi x3 x0).bind fun v0=>((gi x3 x0).bind fun v1=>((iter (klA rec_box_flow_give_c1_m0 x0 x1 v1) (0,x6,x2,x3,x4,x5)).bind fun v59=>(match v59 with | .inl v60=>(some v60) | .inr v61=>(some (0,v61.2.2.2.1,v61.2.2.2.2,v61.2.2.1,v61.2.1,v61.1))))))
def kef:Nat->Int->Int->(List (Int×Int×Int))->(List (List Int))->(List (List Int))->(List Int)->(List Bool)->Option (Int×(List (Int×Int×Int))×(List (List Int))×(List (List Int))×(List Int)×(List Bool))
 | 0,_,_,_,_,_,_,_=>none
 | k+1,x0,x1,x2,x3,x4,x5,x6=>klQ (kef k) x0 x1 x2 x3 x4 x5 x6
def kiw (x0:Int) (x1:Int) (x2:(List (Int×Int×Int))) (x3:(List (List Int))) (x4:(List (List Int))) (x5:(List Int)) (x6:(List Bool)):Option (Int×(List (Int×Int×Int))×(List (List Int))×(List (List Int))×(List Int)×(List Bool)):=kef 1000000 x0 x1 x2 x3 x4 x5 x6
def kno (x0:Int) (x1:Int) (v0:(Int×(List (Int×Int×Int))×(List (List Int))×(List (List Int))×(List Int)×(List Bool))):Option ((Int×(List (Int×Int×Int))×(List (List Int))×(List (List Int))×(List Int)×(List Bool))⊕(Int×Flow)):=
 (if (decide (v0.1<x1))=true then ((gmk (lenI v0.2.2.2.2.1) false).bind fun v1=>((kiw x0 (w64 (x1-v0.1)) v0.2.1 v0.2.2.1 v0.2.2.2.1 v0.2.2.2.2.1 v1).bind fun v2=>(if (v2.1==0)=true then (some (.inr (v0.1,v2.2.1,v2.2.2.1,v2.2.2.2.1,v2.2.2.2.2.1))) else (some (.inl ((w64 (v0.1+v2.1)),v2.2)))))) else (some (.inr (v0.1,v0.2.1,v0.2.2.1,v0.2.2.2.1,v0.2.2.2.2.1))))
def khq (x0:Int) (x1:Int) (x2:(List (Int×Int×Int))) (x3:(List (List Int))) (x4:(List (List Int))) (x5:(List Int)):Option (Int×Flow):=
 ((iter (kno x0 x1) (0,x2,x3,x4,x5,[])).bind fun v3=>(some v3))
def kvo (x1:(List (Int×Int×Int))) (v2:(Int×Int)):Option ((Int×Int)⊕Int):=
 (if (decide (v2.1<(lenI x1)))=true then ((gi x1 v2.1).bind fun v3=>none) else (some (.inr v2.2)))
def kvJ (x1:(List (Int×Int×Int))) (v8:(Int×Int×(List (Int×Int×Int))×(List (List Int))×(List (List Int))×(List Int)×(List Bool))):Option ((Int×Int×(List (Int×Int×Int))×(List (List Int))×(List (List Int))×(List Int)×(List Bool))⊕(Int×(List (Int×Int×Int))×(List (List Int))×(List (List Int))×(List Int)×(List Bool))):=
 (if (decide (v8.1<(lenI x1)))=true then ((gi x1 v8.1).bind fun v9=>((khq v8.1 v9.2.2 v8.2.2.1 v8.2.2.2.1 v8.2.2.2.2.1 v8.2.2.2.2.2.1).bind fun v10=>((gi v8.2.2.2.2.2.2 v8.1).bind fun v11=>(some (.inl ((w64 (v8.1+1)),(w64 (v8.2.1+v10.1)),v10.2.1,v10.2.2.1,v10.2.2.2.1,v10.2.2.2.2,(lset v8.2.2.2.2.2.2 v8.1 (decide (v10.1<v9.2.2))))))))) else (some (.inr v8.2)))
def kvd (x0:(List (Int×Int×Int))) (x1:(List (Int×Int×Int))) (x2:(List Swap)):Option (kaj×Int):=
 (elsO ((kiN x0 x1 x2).bind fun v0=>(if (v0 != 0)=true then (some ((0,[]),v0)) else ((gmk (lenI x1) false).bind fun v1=>((iter (kvo x1) (0,0)).bind fun v4=>((kgB none v1).bind fun v5=>(some ((v4,v5),0))))))) ((kiz x0 x1 x2).bind fun v6=>(if (v6.1 != 0)=true then (some ((0,[]),v6.1)) else ((gmk (lenI x1) false).bind fun v7=>((iter (kvJ x1) (0,0,v6.2.1,v6.2.2.1,v6.2.2.2.1,v6.2.2.2.2,v7)).bind fun v12=>((kgB (some (v12.2.1,v12.2.2.1,v12.2.2.2.1,v12.2.2.2.2.1)) v12.2.2.2.2.2).bind fun v13=>(some ((v12.1,v13),0))))))))
def kmF (x0:(Int×Int×Int)):Option Bool:=
 ((kfQ 0 10000 x0.2.2).bind fun v0=>(some (!v0)))
def kkC (x0:(List (Int×Int×Int))) (x2:((Int×Int×Int)->Option (Int×Int))) (v0:Int):Option (Int⊕(Bool⊕Unit)):=
 (if (decide (v0<(lenI x0)))=true then ((gi x0 v0).bind fun v1=>((x2 v1).bind fun v2=>((kcc v2).bind fun v3=>(if (!v3)=true then (some (.inr (.inl false))) else (if (decide (0<v0))=true then ((gi x0 (w64 (v0-1))).bind fun v4=>((x2 v4).bind fun v5=>((x2 v1).bind fun v6=>((kfJ v5 v6).bind fun v7=>(if (decide (0<=v7))=true then (some (.inr (.inl false))) else (some (.inl (w64 (v0+1))))))))) else (some (.inl (w64 (v0+1))))))))) else (some (.inr (.inr ()))))
def keo (x0:(List (Int×Int×Int))) (x1:Int) (x2:((Int×Int×Int)->Option (Int×Int))):Option Bool:=
 ((iter (kkC x0 x2) 0).bind fun v8=>(match v8 with | .inl v9=>(some v9) | .inr v10=>(some (decide ((lenI x0)<=x1)))))
def kdR (x0:(Int×Int×Int)):Option (Int×Int):=
 (some (x0.1,x0.2.1))
def kez (x0:(List (Int×Int×Int))) (x1:((Int×Int×Int)->Option Bool)) (v0:Int):Option (Int⊕(Int⊕Unit)):=
 (if (decide (v0<(lenI x0)))=true then ((gi x0 v0).bind fun v1=>((x1 v1).bind fun v2=>(if v2=true then (some (.inr (.inl v0))) else (some (.inl (w64 (v0+1))))))) else (some (.inr (.inr ()))))
def kbZ (x0:(List (Int×Int×Int))) (x1:((Int×Int×Int)->Option Bool)):Option Int:=
 ((iter (kez x0 x1) 0).bind fun v3=>(match v3 with | .inl v4=>(some v4) | .inr v5=>(some (-1))))
def kaO (x0:(List (Int×Int×Int))) (x1:((Int×Int×Int)->Option Bool)):Option Bool:=
 ((kbZ x0 x1).bind fun v0=>(some (decide (0<=v0))))
def kmD (x0:Line) (x1:Line):Option Int:=
 (if (!(x0.2.2.2.2==x1.2.2.2.2))=true then (if x1.2.2.2.2=true then (some (-1)) else (some 1)) else (some (w64 (x1.2.1-x0.2.1))))
def kee (x0:Int) (x2:((Line×Line)->Option Int)) (v1:(Int×(List Line))):Option ((Int×(List Line))⊕(List Line)):=
 (if (decide (x0<v1.1))=true then ((gi v1.2 v1.1).bind fun v2=>((gi v1.2 v1.1).bind fun v3=>((gi v1.2 (w64 (v1.1-1))).bind fun v4=>((gi v1.2 (w64 (v1.1-1))).bind fun v5=>((x2 (v3,v5)).bind fun v6=>(if (decide (v6<0))=true then ((gi v1.2 (w64 (v1.1-1))).bind fun v7=>((gi v1.2 (w64 (v1.1-1))).bind fun v8=>((gi v1.2 v1.1).bind fun v9=>((gi v1.2 v1.1).bind fun v10=>((gi v1.2 v1.1).bind fun v11=>((gi (lset v1.2 v1.1 v8) (w64 (v1.1-1))).bind fun v12=>(some (.inl ((w64 (v1.1-1)),(lset (lset v1.2 v1.1 v8) (w64 (v1.1-1)) v10)))))))))) else (some (.inr v1.2)))))))) else (some (.inr v1.2)))
def kev (x0:Int) (x1:Int) (x2:((Line×Line)->Option Int)) (v0:(Int×(List Line))):Option ((Int×(List Line))⊕(List Line)):=
 (if (decide (v0.1<x1))=true then ((iter (kee x0 x2) v0).bind fun v13=>(some (.inl ((w64 (v0.1+1)),v13)))) else (some (.inr v0.2)))
def kaT (x0:Int) (x1:Int) (x2:((Line×Line)->Option Int)) (x3:(List Line)):Option (List Line):=
 ((iter (kev x0 x1 x2) ((w64 (x0+1)),x3)).bind fun v14=>(some v14))
def kfm (x0:Int) (x1:Int) (x2:Int) (v0:(Int×(List Line))):Option ((Int×(List Line))⊕(List Line)):=
 (if (decide (v0.1<x2))=true then ((gi v0.2 (w64 (x1+v0.1))).bind fun v1=>((gi v0.2 (w64 (x1+v0.1))).bind fun v2=>((gi v0.2 (w64 (x0+v0.1))).bind fun v3=>((gi v0.2 (w64 (x0+v0.1))).bind fun v4=>((gi v0.2 (w64 (x0+v0.1))).bind fun v5=>((gi (lset v0.2 (w64 (x0+v0.1)) v2) (w64 (x1+v0.1))).bind fun v6=>(some (.inl ((w64 (v0.1+1)),(lset (lset v0.2 (w64 (x0+v0.1)) v2) (w64 (x1+v0.1)) v4)))))))))) else (some (.inr v0.2)))
def kaL (x0:Int) (x1:Int) (x2:Int) (x3:((Line×Line)->Option Int)) (x4:(List Line)):Option (List Line):=
 ((iter (kfm x0 x1 x2) (0,x4)).bind fun v7=>(some v7))
def kgd (x1:Int) (x3:((Line×Line)->Option Int)) (v0:(Int×Int×(List Line))):Option ((Int×Int×(List Line))⊕(Int×(List Line))):=
 (if (v0.1 != v0.2.1)=true then (if (decide (v0.2.1<v0.1))=true then ((kaL (w64 (x1-v0.1)) x1 v0.2.1 x3 v0.2.2).bind fun v1=>(some (.inl ((w64 (v0.1-v0.2.1)),v0.2.1,v1)))) else ((kaL (w64 (x1-v0.1)) (w64 ((w64 (x1+v0.2.1))-v0.1)) v0.1 x3 v0.2.2).bind fun v2=>(some (.inl (v0.1,(w64 (v0.2.1-v0.1)),v2))))) else (some (.inr (v0.1,v0.2.2))))
def kcZ (x0:Int) (x1:Int) (x2:Int) (x3:((Line×Line)->Option Int)) (x4:(List Line)):Option (List Line):=
 ((iter (kgd x1 x3) ((w64 (x1-x0)),(w64 (x2-x1)),x4)).bind fun v3=>((kaL (w64 (x1-v3.1)) x1 v3.1 x3 v3.2).bind fun v4=>(some v4)))
def kfw (x0:Int) (x3:((Line×Line)->Option Int)) (x4:(List Line)) (v0:(Int×Int)):Option ((Int×Int)⊕Int):=
 (if (decide (v0.1<v0.2))=true then ((gshr .u64 (IntKind.wrap .u64 (w64 (v0.1+v0.2))) 1).bind fun v1=>((gi x4 (w64 v1)).bind fun v2=>((gi x4 (w64 v1)).bind fun v3=>((gi x4 x0).bind fun v4=>((gi x4 x0).bind fun v5=>((x3 (v3,v5)).bind fun v6=>(if (decide (v6<0))=true then (some (.inl ((w64 ((w64 v1)+1)),v0.2))) else (some (.inl (v0.1,(w64 v1))))))))))) else (some (.inr v0.1)))
def kfB (v7:Int) (v8:(Int×(List Line))):Option ((Int×(List Line))⊕(List Line)):=
 (if (decide (v8.1<(w64 (v7-1))))=true then ((gi v8.2 (w64 (v8.1+1))).bind fun v9=>((gi v8.2 (w64 (v8.1+1))).bind fun v10=>((gi v8.2 v8.1).bind fun v11=>((gi v8.2 v8.1).bind fun v12=>((gi v8.2 v8.1).bind fun v13=>((gi (lset v8.2 v8.1 v10) (w64 (v8.1+1))).bind fun v14=>(some (.inl ((w64 (v8.1+1)),(lset (lset v8.2 v8.1 v10) (w64 (v8.1+1)) v12)))))))))) else (some (.inr v8.2)))
def kfC (x1:Int) (x3:((Line×Line)->Option Int)) (x4:(List Line)) (v16:(Int×Int)):Option ((Int×Int)⊕Int):=
 (if (decide (v16.1<v16.2))=true then ((gshr .u64 (IntKind.wrap .u64 (w64 (v16.1+v16.2))) 1).bind fun v17=>((gi x4 x1).bind fun v18=>((gi x4 x1).bind fun v19=>((gi x4 (w64 v17)).bind fun v20=>((gi x4 (w64 v17)).bind fun v21=>((x3 (v19,v21)).bind fun v22=>(if (!(decide (v22<0)))=true then (some (.inl ((w64 ((w64 v17)+1)),v16.2))) else (some (.inl (v16.1,(w64 v17))))))))))) else (some (.inr v16.1)))
def kfA (v23:Int) (v24:(Int×(List Line))):Option ((Int×(List Line))⊕(List Line)):=
 (if (decide (v23<v24.1))=true then ((gi v24.2 (w64 (v24.1-1))).bind fun v25=>((gi v24.2 (w64 (v24.1-1))).bind fun v26=>((gi v24.2 v24.1).bind fun v27=>((gi v24.2 v24.1).bind fun v28=>((gi v24.2 v24.1).bind fun v29=>((gi (lset v24.2 v24.1 v26) (w64 (v24.1-1))).bind fun v30=>(some (.inl ((w64 (v24.1-1)),(lset (lset v24.2 v24.1 v26) (w64 (v24.1-1)) v28)))))))))) else (some (.inr v24.2)))
def kfv (x1:Int) (x3:((Line×Line)->Option Int)) (x4:(List Line)) (v32:Int) (v34:(Int×Int)):Option ((Int×Int)⊕Int):=
 (if (decide (v34.1<v34.2))=true then ((gshr .u64 (IntKind.wrap .u64 (w64 (v34.1+v34.2))) 1).bind fun v35=>((gi x4 (w64 ((w64 ((w64 ((w64 v32)+x1))-1))-(w64 v35)))).bind fun v36=>((gi x4 (w64 ((w64 ((w64 ((w64 v32)+x1))-1))-(w64 v35)))).bind fun v37=>((gi x4 (w64 v35)).bind fun v38=>((gi x4 (w64 v35)).bind fun v39=>((x3 (v37,v39)).bind fun v40=>(if (!(decide (v40<0)))=true then (some (.inl ((w64 ((w64 v35)+1)),v34.2))) else (some (.inl (v34.1,(w64 v35))))))))))) else (some (.inr v34.1)))
def kfG (rec_slices_symMergeCmpFunc_box_line_m0:Int->Int->Int->((Line×Line)->Option Int)->(List Line)->Option (List Line)) (x0:Int) (x1:Int) (x2:Int) (x3:((Line×Line)->Option Int)) (x4:(List Line)):Option (List Line):=
 (if ((w64 (x1-x0))==1)=true then ((iter (kfw x0 x3 x4) (x1,x2)).bind fun v7=>((iter (kfB v7) (x0,x4)).bind fun v15=>(some v15))) else (if ((w64 (x2-x1))==1)=true then ((iter (kfC x1 x3 x4) (x0,x1)).bind fun v23=>((iter (kfA v23) (x1,x4)).bind fun v31=>(some v31))) else ((gshr .u64 (IntKind.wrap .u64 (w64 (x0+x2))) 1).bind fun v32=>((if (decide ((w64 v32)<x1))=true then (some ((w64 ((w64 ((w64 v32)+x1))-x2)),(w64 v32))) else (some (x0,x1))).bind fun v33=>((iter (kfv x1 x3 x4 v32) v33).bind fun v41=>((if (decide (v41<x1))=true then (some (decide (x1<(w64 ((w64 ((w64 v32)+x1))-v41))))) else (some false)).bind fun v42=>((if v42=true then ((kcZ v41 x1 (w64 ((w64 ((w64 v32)+x1))-v41)) x3 x4).bind fun v43=>(some v43)) else (some x4)).bind fun v44=>((if (decide (x0<v41))=true then (some (decide (v41<(w64 v32)))) else (some false)).bind fun v45=>((if v45=true then ((rec_slices_symMergeCmpFunc_box_line_m0 x0 v41 (w64 v32) x3 v44).bind fun v46=>(some v46)) else (some v44)).bind fun v47=>(if (decide ((w64 v32)<(w64 ((w64 ((w64 v32)+x1))-v41))))=true then (if (decide ((w64 ((w64 ((w64 v32)+x1))-v41))<x2))=true then ((rec_slices_symMergeCmpFunc_box_line_m0 (w64 v32) (w64 ((w64 ((w64 v32)+x1))-v41)) x2 x3 v47).bind fun v48=>(some v48)) else (some v47)) else (some v47)))))))))))
def kbg:Nat->Int->Int->Int->((Line×Line)->Option Int)->(List Line)->Option (List Line)
 | 0,_,_,_,_,_=>none
 | k+1,x0,x1,x2,x3,x4=>kfG (kbg k) x0 x1 x2 x3 x4
def kbp (x0:Int) (x1:Int) (x2:Int) (x3:((Line×Line)->Option Int)) (x4:(List Line)):Option (List Line):=kbg 1000000 x0 x1 x2 x3 x4
def kgq (x0:Int) (x1:((Line×Line)->Option Int)) (v0:(Int×Int×(List Line))):Option ((Int×Int×(List Line))⊕(Int×(List Line))):=
 (if (decide (v0.1<=x0))=true then ((kaT v0.2.1 v0.1 x1 v0.2.2).bind fun v1=>(some (.inl ((w64 (v0.1+20)),v0.1,v1)))) else (some (.inr v0.2)))
def kgj (x0:Int) (x1:((Line×Line)->Option Int)) (v4:(Int×(List Line))) (v5:(Int×Int×(List Line))):Option ((Int×Int×(List Line))⊕(Int×(List Line))):=
 (if (decide (v5.1<=x0))=true then ((kbp v5.2.1 (w64 (v5.2.1+v4.1)) v5.1 x1 v5.2.2).bind fun v6=>(some (.inl ((w64 (v5.1+(w64 (2*v4.1)))),v5.1,v6)))) else (some (.inr v5.2)))
def kgl (x0:Int) (x1:((Line×Line)->Option Int)) (v4:(Int×(List Line))):Option ((Int×(List Line))⊕(List Line)):=
 (if (decide (v4.1<x0))=true then ((iter (kgj x0 x1 v4) ((w64 (2*v4.1)),0,v4.2)).bind fun v7=>(if (decide ((w64 (v7.1+v4.1))<x0))=true then ((kbp v7.1 (w64 (v7.1+v4.1)) x0 x1 v7.2).bind fun v8=>(some (.inl ((w64 (v4.1*2)),v8)))) else (some (.inl ((w64 (v4.1*2)),v7.2))))) else (some (.inr v4.2)))
def kcY (x0:Int) (x1:((Line×Line)->Option Int)) (x2:(List Line)):Option (List Line):=
 ((iter (kgq x0 x1) (20,0,x2)).bind fun v2=>((kaT v2.1 x0 x1 v2.2).bind fun v3=>((iter (kgl x0 x1) (20,v3)).bind fun v9=>(some v9))))
def kaJ (x0:((Line×Line)->Option Int)) (x1:(List Line)):Option (List Line):=
 ((kcY (lenI x1) x0 x1).bind fun v0=>(some v0))
def kfY (x0:(Int×Int)) (x1:(List ((Int×Int)×Int))) (x2:Bool) (x3:Int) (x4:Int) (x5:Int):Option ((List ((Int×Int)×Int))×Bool×Int×Int×Int):=
 (if (mget x1 x0).isSome=true then (if (!x2)=true then (some (x1,true,((mget x1 x0).getD 0),x0)) else (if (decide (((mget x1 x0).getD 0)<x3))=true then (some (x1,true,((mget x1 x0).getD 0),x0)) else (if (((mget x1 x0).getD 0)==x3)=true then ((kfJ x0 (x4,x5)).bind fun v0=>(if (decide (v0<0))=true then (some (x1,true,((mget x1 x0).getD 0),x0)) else (some (x1,x2,x3,x4,x5)))) else (some (x1,x2,x3,x4,x5))))) else (some (x1,x2,x3,x4,x5)))
def kog (x0:(List Swap)) (x1:(Int×Int)) (v1:(Int×(List ((Int×Int)×Int))×Bool×Int×Int×Int)):Option ((Int×(List ((Int×Int)×Int))×Bool×Int×Int×Int)⊕(Int×Int×Int×Bool×(List ((Int×Int)×Int)))):=
 (if (decide (v1.1<(lenI x0)))=true then ((gi x0 v1.1).bind fun v2=>(if ((x1.1==v2.1)&&(x1.2==v2.2.1))=true then ((kfY v2.2.2 v1.2.1 v1.2.2.1 v1.2.2.2.1 v1.2.2.2.2.1 v1.2.2.2.2.2).bind fun v3=>(some (.inl ((w64 (v1.1+1)),v3)))) else (some (.inl ((w64 (v1.1+1)),v1.2))))) else (some (.inr (v1.2.2.2.1,v1.2.2.2.2.1,v1.2.2.2.2.2,v1.2.2.1,v1.2.1))))
def kie (x0:(List Swap)) (x1:(Int×Int)) (x2:(List ((Int×Int)×Int))):Option (Int×Int×Int×Bool×(List ((Int×Int)×Int))):=
 ((kfY x1 x2 false 0 0 0).bind fun v0=>((iter (kog x0 x1) (0,v0)).bind fun v4=>(some v4)))
def kwI (x3:(List (Int×Int×Int))) (v3:(Int×(List ((Int×Int)×Int)))):Option ((Int×(List ((Int×Int)×Int)))⊕(List ((Int×Int)×Int))):=
 (if (decide (v3.1<(lenI x3)))=true then ((gi x3 v3.1).bind fun v4=>((kdR v4).bind fun v5=>(some (.inl ((w64 (v3.1+1)),(mput v3.2 v5 v4.2.2)))))) else (some (.inr v3.2)))
def kwS (x1:(List (Int×Int×Int))) (x2:(List Swap)) (v7:(Int×(List ((Int×Int)×Int))×(List Line))):Option ((Int×(List ((Int×Int)×Int))×(List Line))⊕(List Line)):=
 (if (decide (v7.1<(lenI x1)))=true then ((gi x1 v7.1).bind fun v8=>((kbm v8).bind fun v9=>((kie x2 v9 v7.2.1).bind fun v10=>((gapp v7.2.2 [(v7.1,v10.1,v8.2.2,(v10.2.1,v10.2.2.1),v10.2.2.2.1)]).bind fun v11=>(some (.inl ((w64 (v7.1+1)),v10.2.2.2.2,v11))))))) else (some (.inr v7.2.2)))
def kwP (v13:(List Line)) (v15:Int):Option (Int⊕((Bill×Int)⊕Unit)):=
 (if (decide (v15<(lenI v13)))=true then ((gi v13 v15).bind fun v16=>((gi v13 v15).bind fun v17=>none)) else (some (.inr (.inr ()))))
def kww (x3:(List (Int×Int×Int))) (v21:(Int×Int×Int×(List (Int×Int×Int)))):Option ((Int×Int×Int×(List (Int×Int×Int)))⊕((Bill×Int)⊕(Int×(List (Int×Int×Int))×Int))):=
 (if (decide (v21.1<(lenI x3)))=true then ((gi x3 v21.1).bind fun v22=>((kdR v22).bind fun v23=>(if (decide (1000<((mget [] v23).getD 0)))=true then (some (.inr (.inl (([],[],0),4)))) else (if (decide (0<((mget [] v23).getD 0)))=true then ((gapp v21.2.2.2 [(v22.1,v22.2.1,((mget [] v23).getD 0))]).bind fun v24=>(some (.inl ((w64 (v21.1+1)),v21.2.1,v21.2.2.1,v24)))) else (some (.inl ((w64 (v21.1+1)),v21.2))))))) else (some (.inr (.inr (v21.2.2.1,v21.2.2.2,v21.2.1)))))
def kwt (x3:(List (Int×Int×Int))) (v31:(Int×(List ((Int×Int)×Int)))):Option ((Int×(List ((Int×Int)×Int)))⊕(List ((Int×Int)×Int))):=
 (if (decide (v31.1<(lenI x3)))=true then ((gi x3 v31.1).bind fun v32=>((kdR v32).bind fun v33=>(some (.inl ((w64 (v31.1+1)),(mput v31.2 v33 v32.2.2)))))) else (some (.inr v31.2)))
def kwT (x1:(List (Int×Int×Int))) (x2:(List Swap)) (v35:(Int×(List ((Int×Int)×Int))×(List Line))):Option ((Int×(List ((Int×Int)×Int))×(List Line))⊕(List Line)):=
 (if (decide (v35.1<(lenI x1)))=true then ((gi x1 v35.1).bind fun v36=>((kbm v36).bind fun v37=>((kie x2 v37 v35.2.1).bind fun v38=>((gapp v35.2.2 [(v35.1,v38.1,v36.2.2,(v38.2.1,v38.2.2.1),v38.2.2.2.1)]).bind fun v39=>(some (.inl ((w64 (v35.1+1)),v38.2.2.2.2,v39))))))) else (some (.inr v35.2.2)))
def kwZ (v41:(List Line)) (v43:(Int×(List (Int×Int×Int))×(List (List Int))×(List (List Int))×(List Int)×Int×(List Int)×Int×(List ((Int×Int)×Int)))):Option ((Int×(List (Int×Int×Int))×(List (List Int))×(List (List Int))×(List Int)×Int×(List Int)×Int×(List ((Int×Int)×Int)))⊕((Bill×Int)⊕((List ((Int×Int)×Int))×Int×kaj))):=
 (if (decide (v43.1<(lenI v41)))=true then ((gi v41 v43.1).bind fun v44=>((gi v41 v43.1).bind fun v45=>((khq v45.1 v45.2.2.1 v43.2.1 v43.2.2.1 v43.2.2.2.1 v43.2.2.2.2.1).bind fun v46=>((gi v43.2.2.2.2.2.2.1 v45.1).bind fun v47=>((if (decide (v46.1<v45.2.2.1))=true then (some (!v45.2.2.2.2)) else (some false)).bind fun v48=>(if v48=true then (some (.inr (.inl (([],[],0),80)))) else (bthO (.sm (.pr (.i .i64) (.pr (.sl (.pr (.i .i64) (.pr (.i .u8) (.i .i64)))) (.pr (.sl (.sl (.i .i64))) (.pr (.sl (.sl (.i .i64))) (.pr (.sl (.i .i64)) (.pr (.i .i64) (.pr (.sl (.i .i64)) (.pr (.i .i64) (.sl (.pr (.pr (.i .i64) (.i .u8)) (.i .i64))))))))))) (.sm (.pr tBill (.i .i64)) (.pr (.sl (.pr (.pr (.i .i64) (.i .u8)) (.i .i64))) (.pr (.i .i64) kvU)))) ((gi (ment v43.2.2.2.2.2.2.2.2 v45.2.2.2.1 0) (midx v43.2.2.2.2.2.2.2.2 v45.2.2.2.1)).bind fun v49=>(some (.inl ((w64 (v43.1+1)),v46.2.1,v46.2.2.1,v46.2.2.2.1,v46.2.2.2.2,(w64 (v43.2.2.2.2.2.1+(w64 ((w64 (v45.2.2.1-v46.1))*v45.2.1)))),(lset v43.2.2.2.2.2.2.1 v45.1 v46.1),v43.2.2.2.2.2.2.2.1,(mset (ment v43.2.2.2.2.2.2.2.2 v45.2.2.2.1 0) (midx v43.2.2.2.2.2.2.2.2 v45.2.2.2.1) (w64 (((mget v43.2.2.2.2.2.2.2.2 v45.2.2.2.1).getD 0)+(w64 (v45.2.2.1-v46.1))))))))) ((gi (ment v43.2.2.2.2.2.2.2.2 v45.2.2.2.1 0) (midx v43.2.2.2.2.2.2.2.2 v45.2.2.2.1)).bind fun v50=>(some (.inl ((w64 (v43.1+1)),v46.2.1,v46.2.2.1,v46.2.2.2.1,v46.2.2.2.2,(w64 (v43.2.2.2.2.2.1+(w64 ((w64 (v45.2.2.1-v46.1))*v45.2.1)))),(lset v43.2.2.2.2.2.2.1 v45.1 v46.1),v43.2.2.2.2.2.2.2.1,(mset (ment v43.2.2.2.2.2.2.2.2 v45.2.2.2.1 0) (midx v43.2.2.2.2.2.2.2.2 v45.2.2.2.1) (w64 (((mget (ment v43.2.2.2.2.2.2.2.2 v45.2.2.2.1 0) v45.2.2.2.1).getD 0)+(w64 (v45.2.2.1-v46.1)))))))))))))))) else (some (.inr (.inr (v43.2.2.2.2.2.2.2.2,v43.2.2.2.2.2.2.2.1,v43.2.2.2.2.2.1,v43.2.2.2.2.2.2.1)))))
def kwK (x3:(List (Int×Int×Int))) (v53:((List ((Int×Int)×Int))×Int×kaj)) (v54:(Int×Int×Int×(List (Int×Int×Int)))):Option ((Int×Int×Int×(List (Int×Int×Int)))⊕((Bill×Int)⊕(Int×(List (Int×Int×Int))×Int))):=
 (if (decide (v54.1<(lenI x3)))=true then ((gi x3 v54.1).bind fun v55=>((kdR v55).bind fun v56=>(if (decide (1000<((mget v53.1 v56).getD 0)))=true then (some (.inr (.inl (([],[],0),4)))) else (if (decide (0<((mget v53.1 v56).getD 0)))=true then ((gapp v54.2.2.2 [(v55.1,v55.2.1,((mget v53.1 v56).getD 0))]).bind fun v57=>(some (.inl ((w64 (v54.1+1)),v54.2.1,v54.2.2.1,v57)))) else (some (.inl ((w64 (v54.1+1)),v54.2))))))) else (some (.inr (.inr (v54.2.2.1,v54.2.2.2,v54.2.1)))))
def kwl (x0:(List (Int×Int×Int))) (x1:(List (Int×Int×Int))) (x2:(List Swap)) (x3:(List (Int×Int×Int))):Option (Bill×Int):=
 (elsO ((kiN x0 x1 x2).bind fun v0=>(if (v0 != 0)=true then (some (([],[],0),v0)) else ((keo x3 60 (fun (u0:(Int×Int×Int))=>((kdR u0).bind fun u1=>(some u1)))).bind fun v1=>(if (!v1)=true then (some (([],[],0),2)) else ((kaO x3 (fun (u0:(Int×Int×Int))=>((kmF u0).bind fun u1=>(some u1)))).bind fun v2=>(if v2=true then (some (([],[],0),2)) else ((iter (kwI x3) (0,[])).bind fun v6=>((iter (kwS x1 x2) (0,v6,[])).bind fun v12=>((kaJ (fun (u0:(Line×Line))=>((kmD u0.1 u0.2).bind fun u1=>(some u1))) v12).bind fun v13=>((gmk (lenI x1) 0).bind fun v14=>((iter (kwP v13) 0).bind fun v18=>(match v18 with | .inl v19=>(some v19) | .inr v20=>((iter (kww x3) (0,0,0,[])).bind fun v25=>(match v25 with | .inl v26=>(some v26) | .inr v27=>(some ((v14,v27.2.1,v27.1),0)))))))))))))))) ((kiz x0 x1 x2).bind fun v28=>(if (v28.1 != 0)=true then (some (([],[],0),v28.1)) else ((keo x3 60 (fun (u0:(Int×Int×Int))=>((kdR u0).bind fun u1=>(some u1)))).bind fun v29=>(if (!v29)=true then (some (([],[],0),2)) else ((kaO x3 (fun (u0:(Int×Int×Int))=>((kmF u0).bind fun u1=>(some u1)))).bind fun v30=>(if v30=true then (some (([],[],0),2)) else ((iter (kwt x3) (0,[])).bind fun v34=>((iter (kwT x1 x2) (0,v34,[])).bind fun v40=>((kaJ (fun (u0:(Line×Line))=>((kmD u0.1 u0.2).bind fun u1=>(some u1))) v40).bind fun v41=>((gmk (lenI x1) 0).bind fun v42=>((iter (kwZ v41) (0,v28.2.1,v28.2.2.1,v28.2.2.2.1,v28.2.2.2.2,0,v42,0,[])).bind fun v51=>(match v51 with | .inl v52=>(some v52) | .inr v53=>((iter (kwK x3 v53) (0,v53.2.1,v53.2.2.1,[])).bind fun v58=>(match v58 with | .inl v59=>(some v59) | .inr v60=>(some ((v53.2.2.2,v60.2.1,v60.1),0)))))))))))))))))
def law08_plans:Option (List (List (Int×Int×Int))):=
 ((kbk 1 1 2).bind fun v0=>((kbk 1 1 1).bind fun v1=>((kbk 1 1 3).bind fun v2=>(some [[v0],[v1],[v2]]))))
def kgo (x0:Int):Option Bool:=
 ((kfQ 0 1000 x0).bind fun v0=>(some (!v0)))
def kbb (x0:(List Int)) (x1:(Int->Option Bool)) (v0:Int):Option (Int⊕(Int⊕Unit)):=
 (if (decide (v0<(lenI x0)))=true then ((gi x0 v0).bind fun v1=>((x1 v1).bind fun v2=>(if v2=true then (some (.inr (.inl v0))) else (some (.inl (w64 (v0+1))))))) else (some (.inr (.inr ()))))
def kaU (x0:(List Int)) (x1:(Int->Option Bool)):Option Int:=
 ((iter (kbb x0 x1) 0).bind fun v3=>(match v3 with | .inl v4=>(some v4) | .inr v5=>(some (-1))))
def kbc (x0:(List Int)) (x1:(Int->Option Bool)):Option Bool:=
 ((kaU x0 x1).bind fun v0=>(some (decide (0<=v0))))
def kgN (x0:(List (List (Int×Int×Int)))) (x1:(List Int)):Option Int:=
 ((kbM x0).bind fun v0=>(if (v0 != 0)=true then (some v0) else (if (decide (8<(lenI x0)))=true then (some 4) else (if ((lenI x1) != (lenI x0))=true then (some 2) else ((kbc x1 (fun (u0:Int)=>((kgo u0).bind fun u1=>(some u1)))).bind fun v1=>(if v1=true then (some 2) else (some 0)))))))
def kiU (x0:Int) (x1:Int):Option Int:=
 (some (w64 (x0-x1)))
def klo (x0:(Int×Int×Int)):Option Bool:=
 (some (decide (x0.2.2<0)))
def kfM (x0:(List (Int×Int×Int))) (x1:(List (Int×Int×Int))):Option ((List (Int×Int×Int))×Int):=
 ((kbM [x0,x1]).bind fun v0=>(if (v0 != 0)=true then (some ([],v0)) else ((keM x0 x1 (fun (u0:(Int×Int))=>((kiU u0.1 u0.2).bind fun u1=>(some u1)))).bind fun v1=>((kas v1 (fun (u0:(Int×Int×Int))=>((klo u0).bind fun u1=>(some u1)))).bind fun v2=>(if v2=true then (some ([],6)) else (some (v1,0)))))))
def kam (x0:(List (Int×Int×Int))):Option (List (Int×Int×Int)):=
 (if (isE x0)=true then (bthO (.sl (.pr (.i .i64) (.pr (.i .u8) (.i .i64)))) (some []) ((gapp [] x0).bind fun v0=>(some v0))) else ((gapp [] x0).bind fun v1=>(some v1)))
def kaI:Nat->List (List (Int×Int×Int))->Int->Int->List (Int×Int×Int)->Option (List (Int×List (Int×Int×Int)))
 | 0,_,_,_,_=>none
 | d+1,ps,i,s,l=>
  if i=lenI ps then some [(s,l)] else
   (gi ps i).bind fun p=>(kfM l p).bind fun r=>
    if r.2=0 then (gshl .i64 1 i).bind fun b=>(kaI d ps (w64 (i+1)) (bitsI .or .i64 s b) r.1).bind fun x=>(kaI d ps (w64 (i+1)) s l).bind fun y=>some (x++y)
    else kaI d ps (w64 (i+1)) s l
def kbs (_:Option (List (Int×List (Int×Int×Int)))) (x0:List (List (Int×Int×Int))) (x1:List (Int×Int×Int)):Option (List (Int×List (Int×Int×Int))):=
 (kam x1).bind fun l=>kaI (x0.length+1) x0 0 0 l
def keh (x0:(List (Int×Int×Int))) (x1:(List (List (Int×Int×Int)))):Option ((List (List (Int×Int×Int)))×(List (Int×Int×Int))):=
 (some (x1,x0))
def kcR (x0:Int) (x1:(List Int)) (v0:(Int×kaj)):Option ((Int×kaj)⊕kaj):=
 (if (decide (v0.1<(lenI x1)))=true then ((gi x1 v0.1).bind fun v1=>((gshr .i64 x0 v0.1).bind fun v2=>(if ((bitsI .and .i64 v2 1)==1)=true then ((gapp v0.2.2 [v0.1]).bind fun v3=>(some (.inl ((w64 (v0.1+1)),(w64 (v0.2.1+v1)),v3)))) else (some (.inl ((w64 (v0.1+1)),v0.2)))))) else (some (.inr v0.2)))
def kgS (x0:Int) (x1:(List Int)):Option ((List Int)×Int):=
 ((iter (kcR x0 x1) (0,0,[])).bind fun v4=>(some (v4.2,v4.1)))
def kaP (x0:(List Int)) (x1:(List Int)) (v0:Int):Option (Int⊕(Int⊕Unit)):=
 (if (decide (v0<(lenI x0)))=true then ((gi x0 v0).bind fun v1=>(if (decide ((lenI x1)<=v0))=true then (some (.inr (.inl 1))) else ((gi x1 v0).bind fun v2=>((kcs v1 v2).bind fun v3=>(if (v3 != 0)=true then (some (.inr (.inl v3))) else (some (.inl (w64 (v0+1))))))))) else (some (.inr (.inr ()))))
def kbO (x0:(List Int)) (x1:(List Int)):Option Int:=
 ((iter (kaP x0 x1) 0).bind fun v4=>(match v4 with | .inl v5=>(some v5) | .inr v6=>(if (decide ((lenI x0)<(lenI x1)))=true then (some (-1)) else (some 0))))
def kdt (x2:(List Int)) (v4:(List (Int×(List (Int×Int×Int))))) (v5:(Int×keZ)):Option ((Int×keZ)⊕((keZ×Int)⊕keZ)):=
 (if (decide (v5.1<(lenI v4)))=true then ((gi v4 v5.1).bind fun v6=>((kgS v6.1 x2).bind fun v7=>(if (decide (v5.2.2.1<v7.2))=true then ((kam v6.2).bind fun v8=>(some (.inl ((v5.1+1),v7.1,v7.2,v8)))) else (if (v7.2==v5.2.2.1)=true then ((kcs (lenI v7.1) (lenI v5.2.1)).bind fun v9=>((kbO v7.1 v5.2.1).bind fun v10=>((kia [v9,v10]).bind fun v11=>(if (decide (v11<0))=true then ((kam v6.2).bind fun v12=>(some (.inl ((v5.1+1),v7.1,v7.2,v12)))) else (some (.inl ((v5.1+1),v5.2))))))) else (some (.inl ((v5.1+1),v5.2))))))) else (some (.inr (.inr v5.2))))
def kdF (x0:(List (Int×Int×Int))) (x1:(List (List (Int×Int×Int)))) (x2:(List Int)):Option (keZ×Int):=
 ((kbM [x0]).bind fun v0=>((if (v0==0)=true then ((kgN x1 x2).bind fun v1=>(some v1)) else (some v0)).bind fun v2=>(if (v2 != 0)=true then (some (([],0,[]),v2)) else ((keh x0 x1).bind fun v3=>((runI fun o=>(kbs o v3.1 v3.2)).bind fun v4=>((iter (kdt x2 v4) (0,[],(-1),[])).bind fun v13=>(match v13 with | .inl v14=>(some v14) | .inr v15=>(some (v15,0)))))))))
def khi (o:Option (List Int)) (x0:(List Int)) (v0:kaj):Option (kaj⊕((List Int)⊕(List Int))):=
 (if (decide (v0.1<(lenI x0)))=true then ((gi x0 v0.1).bind fun v1=>((gpre (.i .i64) o v0.2 v1).bind fun v2=>(some (.inl ((w64 (v0.1+1)),v2))))) else (some (.inr (.inr v0.2))))
def kea (o:Option (List Int)) (x0:(List Int)):Option (List Int):=
 ((iter (khi o x0) (0,[])).bind fun v3=>(match v3 with | .inl v4=>(some v4) | .inr v5=>(some v5)))
def keU (x0:(List Int)):Option (List Int):=
 (some x0)
def kqv (x0:Int):Option Int:=
 ((if (decide (65536<=x0))=true then ((gshr .u32 x0 16).bind fun v0=>(some (v0,16))) else (some (x0,0))).bind fun v1=>(if (decide (256<=v1.1))=true then ((gshr .u32 v1.1 8).bind fun v2=>((gstr [0,1,2,2,3,3,3,3,4,4,4,4,4,4,4,4,5,5,5,5,5,5,5,5,5,5,5,5,5,5,5,5,6,6,6,6,6,6,6,6,6,6,6,6,6,6,6,6,6,6,6,6,6,6,6,6,6,6,6,6,6,6,6,6,7,7,7,7,7,7,7,7,7,7,7,7,7,7,7,7,7,7,7,7,7,7,7,7,7,7,7,7,7,7,7,7,7,7,7,7,7,7,7,7,7,7,7,7,7,7,7,7,7,7,7,7,7,7,7,7,7,7,7,7,7,7,7,7,8,8,8,8,8,8,8,8,8,8,8,8,8,8,8,8,8,8,8,8,8,8,8,8,8,8,8,8,8,8,8,8,8,8,8,8,8,8,8,8,8,8,8,8,8,8,8,8,8,8,8,8,8,8,8,8,8,8,8,8,8,8,8,8,8,8,8,8,8,8,8,8,8,8,8,8,8,8,8,8,8,8,8,8,8,8,8,8,8,8,8,8,8,8,8,8,8,8,8,8,8,8,8,8,8,8,8,8,8,8,8,8,8,8,8,8,8,8,8,8,8,8,8,8,8,8,8,8] (IntKind.wrap .u8 v2)).bind fun v3=>(some (w64 ((w64 (v1.2+8))+(w64 v3)))))) else ((gstr [0,1,2,2,3,3,3,3,4,4,4,4,4,4,4,4,5,5,5,5,5,5,5,5,5,5,5,5,5,5,5,5,6,6,6,6,6,6,6,6,6,6,6,6,6,6,6,6,6,6,6,6,6,6,6,6,6,6,6,6,6,6,6,6,7,7,7,7,7,7,7,7,7,7,7,7,7,7,7,7,7,7,7,7,7,7,7,7,7,7,7,7,7,7,7,7,7,7,7,7,7,7,7,7,7,7,7,7,7,7,7,7,7,7,7,7,7,7,7,7,7,7,7,7,7,7,7,7,8,8,8,8,8,8,8,8,8,8,8,8,8,8,8,8,8,8,8,8,8,8,8,8,8,8,8,8,8,8,8,8,8,8,8,8,8,8,8,8,8,8,8,8,8,8,8,8,8,8,8,8,8,8,8,8,8,8,8,8,8,8,8,8,8,8,8,8,8,8,8,8,8,8,8,8,8,8,8,8,8,8,8,8,8,8,8,8,8,8,8,8,8,8,8,8,8,8,8,8,8,8,8,8,8,8,8,8,8,8,8,8,8,8,8,8,8,8,8,8,8,8,8,8,8,8,8,8] (IntKind.wrap .u8 v1.1)).bind fun v4=>(some (w64 (v1.2+(w64 v4)))))))
def klb (x0:Int):Option Int:=
 ((if (decide (4294967296<=x0))=true then ((gshr .u64 x0 32).bind fun v0=>(some (v0,32))) else (some (x0,0))).bind fun v1=>((if (decide (65536<=v1.1))=true then ((gshr .u64 v1.1 16).bind fun v2=>(some (v2,(w64 (v1.2+16))))) else (some v1)).bind fun v3=>(if (decide (256<=v3.1))=true then ((gshr .u64 v3.1 8).bind fun v4=>((gstr [0,1,2,2,3,3,3,3,4,4,4,4,4,4,4,4,5,5,5,5,5,5,5,5,5,5,5,5,5,5,5,5,6,6,6,6,6,6,6,6,6,6,6,6,6,6,6,6,6,6,6,6,6,6,6,6,6,6,6,6,6,6,6,6,7,7,7,7,7,7,7,7,7,7,7,7,7,7,7,7,7,7,7,7,7,7,7,7,7,7,7,7,7,7,7,7,7,7,7,7,7,7,7,7,7,7,7,7,7,7,7,7,7,7,7,7,7,7,7,7,7,7,7,7,7,7,7,7,8,8,8,8,8,8,8,8,8,8,8,8,8,8,8,8,8,8,8,8,8,8,8,8,8,8,8,8,8,8,8,8,8,8,8,8,8,8,8,8,8,8,8,8,8,8,8,8,8,8,8,8,8,8,8,8,8,8,8,8,8,8,8,8,8,8,8,8,8,8,8,8,8,8,8,8,8,8,8,8,8,8,8,8,8,8,8,8,8,8,8,8,8,8,8,8,8,8,8,8,8,8,8,8,8,8,8,8,8,8,8,8,8,8,8,8,8,8,8,8,8,8,8,8,8,8,8,8] (IntKind.wrap .u8 v4)).bind fun v5=>(some (w64 ((w64 (v3.2+8))+(w64 v5)))))) else ((gstr [0,1,2,2,3,3,3,3,4,4,4,4,4,4,4,4,5,5,5,5,5,5,5,5,5,5,5,5,5,5,5,5,6,6,6,6,6,6,6,6,6,6,6,6,6,6,6,6,6,6,6,6,6,6,6,6,6,6,6,6,6,6,6,6,7,7,7,7,7,7,7,7,7,7,7,7,7,7,7,7,7,7,7,7,7,7,7,7,7,7,7,7,7,7,7,7,7,7,7,7,7,7,7,7,7,7,7,7,7,7,7,7,7,7,7,7,7,7,7,7,7,7,7,7,7,7,7,7,8,8,8,8,8,8,8,8,8,8,8,8,8,8,8,8,8,8,8,8,8,8,8,8,8,8,8,8,8,8,8,8,8,8,8,8,8,8,8,8,8,8,8,8,8,8,8,8,8,8,8,8,8,8,8,8,8,8,8,8,8,8,8,8,8,8,8,8,8,8,8,8,8,8,8,8,8,8,8,8,8,8,8,8,8,8,8,8,8,8,8,8,8,8,8,8,8,8,8,8,8,8,8,8,8,8,8,8,8,8,8,8,8,8,8,8,8,8,8,8,8,8,8,8,8,8,8,8] (IntKind.wrap .u8 v3.1)).bind fun v6=>(some (w64 (v3.2+(w64 v6))))))))
def kju (x0:Int):Option Int:=
 ((klb x0).bind fun v0=>(some v0))
def kaE (x0:Int) (x1:Int):Option Bool:=
 ((kdu x0).bind fun v0=>(if v0=true then ((kdu x1).bind fun v1=>(if (!v1)=true then (some true) else (some (decide (x0<x1))))) else (some (decide (x0<x1)))))
def khz (x0:Int):Option Int:=
 ((kju (IntKind.wrap .u64 x0)).bind fun v0=>((gshl .u64 1 v0).bind fun v1=>(some v1)))
def kgs (x0:Int):Option (Int×Int):=
 ((gshl .u64 x0 13).bind fun v0=>((gshr .u64 (bitsI .xor .u64 x0 v0) 7).bind fun v1=>((gshl .u64 (bitsI .xor .u64 (bitsI .xor .u64 x0 v0) v1) 17).bind fun v2=>(some ((bitsI .xor .u64 (bitsI .xor .u64 (bitsI .xor .u64 x0 v0) v1) v2),(bitsI .xor .u64 (bitsI .xor .u64 (bitsI .xor .u64 x0 v0) v1) v2))))))
def kbr (x0:(List Int)) (x1:Int) (x2:Int) (x3:Int):Option (Int×Int×Int):=
 ((gi x0 x2).bind fun v0=>((gi x0 x1).bind fun v1=>((kaE v0 v1).bind fun v2=>(if v2=true then (some (x2,x1,(w64 (x3+1)))) else (some (x1,x2,x3))))))
def kck (x0:(List Int)) (x1:Int) (x2:Int) (x3:Int) (x4:Int):Option (Int×Int):=
 ((kbr x0 x1 x2 x4).bind fun v0=>((kbr x0 v0.2.1 x3 v0.2.2).bind fun v1=>((kbr x0 v0.1 v1.1 v1.2.2).bind fun v2=>(some v2.2))))
def kaK (x0:(List Int)) (x1:Int) (x2:Int):Option (Int×Int):=
 ((kck x0 (w64 (x1-1)) x1 (w64 (x1+1)) x2).bind fun v0=>(some v0))
def kdZ (x0:(List Int)) (x1:Int) (x2:Int):Option (Int×Int):=
 ((gquo .i64 (w64 (x2-x1)) 4).bind fun v0=>((gquo .i64 (w64 (x2-x1)) 4).bind fun v1=>((gquo .i64 (w64 (x2-x1)) 4).bind fun v2=>((if (decide (8<=(w64 (x2-x1))))=true then ((if (decide (50<=(w64 (x2-x1))))=true then ((kaK x0 (w64 (x1+(w64 (v0*1)))) 0).bind fun v3=>((kaK x0 (w64 (x1+(w64 (v1*2)))) v3.2).bind fun v4=>((kaK x0 (w64 (x1+(w64 (v2*3)))) v4.2).bind fun v5=>(some (v3.1,v4.1,v5))))) else (some ((w64 (x1+(w64 (v0*1)))),(w64 (x1+(w64 (v1*2)))),(w64 (x1+(w64 (v2*3)))),0))).bind fun v6=>((kck x0 v6.1 v6.2.1 v6.2.2.1 v6.2.2.2).bind fun v7=>(some v7))) else (some ((w64 (x1+(w64 (v1*2)))),0))).bind fun v8=>(if (v8.2==0)=true then (some (v8.1,1)) else (if (v8.2==12)=true then (some (v8.1,2)) else (some (v8.1,0))))))))
def khs (v0:(List Int)) (v1:kaj):Option (kaj⊕((List Int)⊕(List Int))):=
 (if (decide (v1.1<(lenI v0)))=true then ((gi v0 v1.1).bind fun v2=>((gapp v1.2 [v2]).bind fun v3=>(some (.inl ((v1.1+1),v3))))) else (some (.inr (.inr v1.2))))
def kdY (x0:(List Int)) (x1:(List Int)):Option (List Int):=
 ((runI fun o=>(kea o x1)).bind fun v0=>((iter (khs v0) (0,x0)).bind fun v4=>(match v4 with | .inl v5=>(some v5) | .inr v6=>(some v6))))
def khA (x0:(List Int)):Option (List Int):=
 ((kdY [] x0).bind fun v0=>(some v0))
def kfx (x0:Int) (v1:kaj):Option (kaj⊕(List Int)):=
 (if (decide (x0<v1.1))=true then ((gi v1.2 v1.1).bind fun v2=>((gi v1.2 v1.1).bind fun v3=>((gi v1.2 (w64 (v1.1-1))).bind fun v4=>((gi v1.2 (w64 (v1.1-1))).bind fun v5=>((kaE v3 v5).bind fun v6=>(if v6=true then ((gi v1.2 (w64 (v1.1-1))).bind fun v7=>((gi v1.2 (w64 (v1.1-1))).bind fun v8=>((gi v1.2 v1.1).bind fun v9=>((gi v1.2 v1.1).bind fun v10=>((gi v1.2 v1.1).bind fun v11=>((gi (lset v1.2 v1.1 v8) (w64 (v1.1-1))).bind fun v12=>(some (.inl ((w64 (v1.1-1)),(lset (lset v1.2 v1.1 v8) (w64 (v1.1-1)) v10)))))))))) else (some (.inr v1.2)))))))) else (some (.inr v1.2)))
def kfu (x0:Int) (x1:Int) (v0:kaj):Option (kaj⊕(List Int)):=
 (if (decide (v0.1<x1))=true then ((iter (kfx x0) v0).bind fun v13=>(some (.inl ((w64 (v0.1+1)),v13)))) else (some (.inr v0.2)))
def kcy (x0:Int) (x1:Int) (x2:(List Int)):Option (List Int):=
 ((iter (kfu x0 x1) ((w64 (x0+1)),x2)).bind fun v14=>(some v14))
def kho (x1:Int) (x2:Int) (v0:kaj):Option (kaj⊕((List Int)⊕(List Int))):=
 (if (decide (x1<=(w64 ((w64 (2*v0.1))+1))))=true then (some (.inr (.inr v0.2))) else ((if (decide ((w64 ((w64 ((w64 (2*v0.1))+1))+1))<x1))=true then ((gi v0.2 (w64 (x2+(w64 ((w64 (2*v0.1))+1))))).bind fun v1=>((gi v0.2 (w64 (x2+(w64 ((w64 (2*v0.1))+1))))).bind fun v2=>((gi v0.2 (w64 ((w64 (x2+(w64 ((w64 (2*v0.1))+1))))+1))).bind fun v3=>((gi v0.2 (w64 ((w64 (x2+(w64 ((w64 (2*v0.1))+1))))+1))).bind fun v4=>((kaE v2 v4).bind fun v5=>(some v5)))))) else (some false)).bind fun v6=>((if v6=true then (some (w64 ((w64 ((w64 (2*v0.1))+1))+1))) else (some (w64 ((w64 (2*v0.1))+1)))).bind fun v7=>((gi v0.2 (w64 (x2+v0.1))).bind fun v8=>((gi v0.2 (w64 (x2+v0.1))).bind fun v9=>((gi v0.2 (w64 (x2+v7))).bind fun v10=>((gi v0.2 (w64 (x2+v7))).bind fun v11=>((kaE v9 v11).bind fun v12=>(if (!v12)=true then (some (.inr (.inl v0.2))) else ((gi v0.2 (w64 (x2+v7))).bind fun v13=>((gi v0.2 (w64 (x2+v7))).bind fun v14=>((gi v0.2 (w64 (x2+v0.1))).bind fun v15=>((gi v0.2 (w64 (x2+v0.1))).bind fun v16=>((gi v0.2 (w64 (x2+v0.1))).bind fun v17=>((gi (lset v0.2 (w64 (x2+v0.1)) v14) (w64 (x2+v7))).bind fun v18=>(some (.inl (v7,(lset (lset v0.2 (w64 (x2+v0.1)) v14) (w64 (x2+v7)) v16)))))))))))))))))))
def kbV (x0:Int) (x1:Int) (x2:Int) (x3:(List Int)):Option (List Int):=
 ((iter (kho x1 x2) (x0,x3)).bind fun v19=>(match v19 with | .inl v20=>(some v20) | .inr v21=>(some v21)))
def khr (x0:Int) (x1:Int) (v1:kaj):Option (kaj⊕(List Int)):=
 (if (decide (0<=v1.1))=true then ((kbV v1.1 (w64 (x1-x0)) x0 v1.2).bind fun v2=>(some (.inl ((w64 (v1.1-1)),v2)))) else (some (.inr v1.2)))
def khh (x0:Int) (v4:kaj):Option (kaj⊕(List Int)):=
 (if (decide (0<=v4.1))=true then ((gi v4.2 (w64 (x0+v4.1))).bind fun v5=>((gi v4.2 (w64 (x0+v4.1))).bind fun v6=>((gi v4.2 x0).bind fun v7=>((gi v4.2 x0).bind fun v8=>((gi v4.2 x0).bind fun v9=>((gi (lset v4.2 x0 v6) (w64 (x0+v4.1))).bind fun v10=>((kbV 0 v4.1 x0 (lset (lset v4.2 x0 v6) (w64 (x0+v4.1)) v8)).bind fun v11=>(some (.inl ((w64 (v4.1-1)),v11)))))))))) else (some (.inr v4.2)))
def kdX (x0:Int) (x1:Int) (x2:(List Int)):Option (List Int):=
 ((gquo .i64 (w64 ((w64 (x1-x0))-1)) 2).bind fun v0=>((iter (khr x0 x1) (v0,x2)).bind fun v3=>((iter (khh x0) ((w64 ((w64 (x1-x0))-1)),v3)).bind fun v12=>(some v12))))
def kfs (x0:Int) (x1:Int) (v0:Int) (v2:(Int×Int×(List Int))):Option ((Int×Int×(List Int))⊕(List Int)):=
 ((gquo .i64 (w64 (x1-x0)) 4).bind fun v3=>(if (decide (v2.1<=(w64 ((w64 (x0+(w64 (v3*2))))+1))))=true then ((kgs v2.2.1).bind fun v4=>((if (decide ((w64 (x1-x0))<=(w64 (bitsI .and .u64 v4.1 (IntKind.wrap .u64 (v0-1))))))=true then (some (w64 ((w64 (bitsI .and .u64 v4.1 (IntKind.wrap .u64 (v0-1))))-(w64 (x1-x0))))) else (some (w64 (bitsI .and .u64 v4.1 (IntKind.wrap .u64 (v0-1)))))).bind fun v5=>((gi v2.2.2 (w64 (x0+v5))).bind fun v6=>((gi v2.2.2 (w64 (x0+v5))).bind fun v7=>((gi v2.2.2 v2.1).bind fun v8=>((gi v2.2.2 v2.1).bind fun v9=>((gi v2.2.2 v2.1).bind fun v10=>((gi (lset v2.2.2 v2.1 v7) (w64 (x0+v5))).bind fun v11=>(some (.inl ((w64 (v2.1+1)),v4.2,(lset (lset v2.2.2 v2.1 v7) (w64 (x0+v5)) v9)))))))))))) else (some (.inr v2.2.2))))
def kcz (x0:Int) (x1:Int) (x2:(List Int)):Option (List Int):=
 (if (decide (8<=(w64 (x1-x0))))=true then ((khz (w64 (x1-x0))).bind fun v0=>((gquo .i64 (w64 (x1-x0)) 4).bind fun v1=>((iter (kfs x0 x1 v0) ((w64 ((w64 (x0+(w64 (v1*2))))-1)),(IntKind.wrap .u64 (w64 (x1-x0))),x2)).bind fun v12=>(some v12)))) else (some x2))
def kfH (v0:(Int×kaj)):Option ((Int×kaj)⊕(List Int)):=
 (if (decide (v0.1<v0.2.1))=true then ((gi v0.2.2 v0.2.1).bind fun v1=>((gi v0.2.2 v0.2.1).bind fun v2=>((gi v0.2.2 v0.1).bind fun v3=>((gi v0.2.2 v0.1).bind fun v4=>((gi v0.2.2 v0.1).bind fun v5=>((gi (lset v0.2.2 v0.1 v2) v0.2.1).bind fun v6=>(some (.inl ((w64 (v0.1+1)),(w64 (v0.2.1-1)),(lset (lset v0.2.2 v0.1 v2) v0.2.1 v4)))))))))) else (some (.inr v0.2.2)))
def kcJ (x0:Int) (x1:Int) (x2:(List Int)):Option (List Int):=
 ((iter (kfH) (x0,(w64 (x1-1)),x2)).bind fun v7=>(some v7))
def kdO (x1:Int) (v0:(Int×kaj)) (v1:Int):Option (Int⊕Int):=
 (if (decide (v1<x1))=true then ((gi v0.2.2 v1).bind fun v2=>((gi v0.2.2 v1).bind fun v3=>((gi v0.2.2 (w64 (v1-1))).bind fun v4=>((gi v0.2.2 (w64 (v1-1))).bind fun v5=>((kaE v3 v5).bind fun v6=>(if (!v6)=true then (some (.inl (w64 (v1+1)))) else (some (.inr v1)))))))) else (some (.inr v1)))
def kdU (v14:kaj):Option (kaj⊕(List Int)):=
 (if (decide (1<=v14.1))=true then ((gi v14.2 v14.1).bind fun v15=>((gi v14.2 v14.1).bind fun v16=>((gi v14.2 (w64 (v14.1-1))).bind fun v17=>((gi v14.2 (w64 (v14.1-1))).bind fun v18=>((kaE v16 v18).bind fun v19=>(if (!v19)=true then (some (.inr v14.2)) else ((gi v14.2 (w64 (v14.1-1))).bind fun v20=>((gi v14.2 (w64 (v14.1-1))).bind fun v21=>((gi v14.2 v14.1).bind fun v22=>((gi v14.2 v14.1).bind fun v23=>((gi v14.2 v14.1).bind fun v24=>((gi (lset v14.2 v14.1 v21) (w64 (v14.1-1))).bind fun v25=>(some (.inl ((w64 (v14.1-1)),(lset (lset v14.2 v14.1 v21) (w64 (v14.1-1)) v23)))))))))))))))) else (some (.inr v14.2)))
def kdP (x1:Int) (v28:kaj):Option (kaj⊕(List Int)):=
 (if (decide (v28.1<x1))=true then ((gi v28.2 v28.1).bind fun v29=>((gi v28.2 v28.1).bind fun v30=>((gi v28.2 (w64 (v28.1-1))).bind fun v31=>((gi v28.2 (w64 (v28.1-1))).bind fun v32=>((kaE v30 v32).bind fun v33=>(if (!v33)=true then (some (.inr v28.2)) else ((gi v28.2 (w64 (v28.1-1))).bind fun v34=>((gi v28.2 (w64 (v28.1-1))).bind fun v35=>((gi v28.2 v28.1).bind fun v36=>((gi v28.2 v28.1).bind fun v37=>((gi v28.2 v28.1).bind fun v38=>((gi (lset v28.2 v28.1 v35) (w64 (v28.1-1))).bind fun v39=>(some (.inl ((w64 (v28.1+1)),(lset (lset v28.2 v28.1 v35) (w64 (v28.1-1)) v37)))))))))))))))) else (some (.inr v28.2)))
def kdQ (x0:Int) (x1:Int) (v0:(Int×kaj)):Option ((Int×kaj)⊕((Bool×(List Int))⊕(List Int))):=
 (if (decide (v0.1<5))=true then ((iter (kdO x1 v0) v0.2.1).bind fun v7=>(if (v7==x1)=true then (some (.inr (.inl (true,v0.2.2)))) else (if (decide ((w64 (x1-x0))<50))=true then (some (.inr (.inl (false,v0.2.2)))) else ((gi v0.2.2 (w64 (v7-1))).bind fun v8=>((gi v0.2.2 (w64 (v7-1))).bind fun v9=>((gi v0.2.2 v7).bind fun v10=>((gi v0.2.2 v7).bind fun v11=>((gi v0.2.2 v7).bind fun v12=>((gi (lset v0.2.2 v7 v9) (w64 (v7-1))).bind fun v13=>((if (decide (2<=(w64 (v7-x0))))=true then ((iter (kdU) ((w64 (v7-1)),(lset (lset v0.2.2 v7 v9) (w64 (v7-1)) v11))).bind fun v26=>(some v26)) else (some (lset (lset v0.2.2 v7 v9) (w64 (v7-1)) v11))).bind fun v27=>(if (decide (2<=(w64 (x1-v7))))=true then ((iter (kdP x1) ((w64 (v7+1)),v27)).bind fun v40=>(some (.inl ((w64 (v0.1+1)),v7,v40)))) else (some (.inl ((w64 (v0.1+1)),v7,v27)))))))))))))) else (some (.inr (.inr v0.2.2))))
def kbK (x0:Int) (x1:Int) (x2:(List Int)):Option (Bool×(List Int)):=
 ((iter (kdQ x0 x1) (0,(w64 (x0+1)),x2)).bind fun v41=>(match v41 with | .inl v42=>(some v42) | .inr v43=>(some (false,v43))))
def kfn (x0:Int) (v6:(Int×kaj)) (v7:Int):Option (Int⊕Int):=
 (if (decide (v7<=v6.2.1))=true then ((gi v6.2.2 x0).bind fun v8=>((gi v6.2.2 x0).bind fun v9=>((gi v6.2.2 v7).bind fun v10=>((gi v6.2.2 v7).bind fun v11=>((kaE v9 v11).bind fun v12=>(if (!v12)=true then (some (.inl (w64 (v7+1)))) else (some (.inr v7)))))))) else (some (.inr v7)))
def kff (x0:Int) (v6:(Int×kaj)) (v13:Int) (v14:Int):Option (Int⊕Int):=
 (if (decide (v13<=v14))=true then ((gi v6.2.2 x0).bind fun v15=>((gi v6.2.2 x0).bind fun v16=>((gi v6.2.2 v14).bind fun v17=>((gi v6.2.2 v14).bind fun v18=>((kaE v16 v18).bind fun v19=>(if v19=true then (some (.inl (w64 (v14-1)))) else (some (.inr v14)))))))) else (some (.inr v14)))
def kfk (x0:Int) (v6:(Int×kaj)):Option ((Int×kaj)⊕kaj):=
 ((iter (kfn x0 v6) v6.1).bind fun v13=>((iter (kff x0 v6 v13) v6.2.1).bind fun v20=>(if (decide (v20<v13))=true then (some (.inr (v13,v6.2.2))) else ((gi v6.2.2 v20).bind fun v21=>((gi v6.2.2 v20).bind fun v22=>((gi v6.2.2 v13).bind fun v23=>((gi v6.2.2 v13).bind fun v24=>((gi v6.2.2 v13).bind fun v25=>((gi (lset v6.2.2 v13 v22) v20).bind fun v26=>(some (.inl ((w64 (v13+1)),(w64 (v20-1)),(lset (lset v6.2.2 v13 v22) v20 v24)))))))))))))
def kcp (x0:Int) (x1:Int) (x2:Int) (x3:(List Int)):Option kaj:=
 ((gi x3 x2).bind fun v0=>((gi x3 x2).bind fun v1=>((gi x3 x0).bind fun v2=>((gi x3 x0).bind fun v3=>((gi x3 x0).bind fun v4=>((gi (lset x3 x0 v1) x2).bind fun v5=>((iter (kfk x0) ((w64 (x0+1)),(w64 (x1-1)),(lset (lset x3 x0 v1) x2 v3))).bind fun v27=>(some v27))))))))
def kgW (x0:Int) (x1:Int) (x2:Int) (x3:(List Int)) (v1:Int) (v3:Int) (v6:Int):Option (Int⊕Int):=
 (if (decide (v6<=(w64 (x1-1))))=true then ((gi (lset (lset x3 x0 v1) x2 v3) v6).bind fun v7=>((gi (lset (lset x3 x0 v1) x2 v3) v6).bind fun v8=>((gi (lset (lset x3 x0 v1) x2 v3) x0).bind fun v9=>((gi (lset (lset x3 x0 v1) x2 v3) x0).bind fun v10=>((kaE v8 v10).bind fun v11=>(if v11=true then (some (.inl (w64 (v6+1)))) else (some (.inr v6)))))))) else (some (.inr v6)))
def kgJ (x0:Int) (x2:Int) (x3:(List Int)) (v1:Int) (v3:Int) (v12:Int) (v13:Int):Option (Int⊕Int):=
 (if (decide (v12<=v13))=true then ((gi (lset (lset x3 x0 v1) x2 v3) v13).bind fun v14=>((gi (lset (lset x3 x0 v1) x2 v3) v13).bind fun v15=>((gi (lset (lset x3 x0 v1) x2 v3) x0).bind fun v16=>((gi (lset (lset x3 x0 v1) x2 v3) x0).bind fun v17=>((kaE v15 v17).bind fun v18=>(if (!v18)=true then (some (.inl (w64 (v13-1)))) else (some (.inr v13)))))))) else (some (.inr v13)))
def kgZ (x0:Int) (v32:(Int×kaj)) (v33:Int):Option (Int⊕Int):=
 (if (decide (v33<=v32.2.1))=true then ((gi v32.2.2 v33).bind fun v34=>((gi v32.2.2 v33).bind fun v35=>((gi v32.2.2 x0).bind fun v36=>((gi v32.2.2 x0).bind fun v37=>((kaE v35 v37).bind fun v38=>(if v38=true then (some (.inl (w64 (v33+1)))) else (some (.inr v33)))))))) else (some (.inr v33)))
def kgK (x0:Int) (v32:(Int×kaj)) (v39:Int) (v40:Int):Option (Int⊕Int):=
 (if (decide (v39<=v40))=true then ((gi v32.2.2 v40).bind fun v41=>((gi v32.2.2 v40).bind fun v42=>((gi v32.2.2 x0).bind fun v43=>((gi v32.2.2 x0).bind fun v44=>((kaE v42 v44).bind fun v45=>(if (!v45)=true then (some (.inl (w64 (v40-1)))) else (some (.inr v40)))))))) else (some (.inr v40)))
def kgL (x0:Int) (v32:(Int×kaj)):Option ((Int×kaj)⊕kaj):=
 ((iter (kgZ x0 v32) v32.1).bind fun v39=>((iter (kgK x0 v32 v39) v32.2.1).bind fun v46=>(if (decide (v46<v39))=true then (some (.inr (v46,v32.2.2))) else ((gi v32.2.2 v46).bind fun v47=>((gi v32.2.2 v46).bind fun v48=>((gi v32.2.2 v39).bind fun v49=>((gi v32.2.2 v39).bind fun v50=>((gi v32.2.2 v39).bind fun v51=>((gi (lset v32.2.2 v39 v48) v46).bind fun v52=>(some (.inl ((w64 (v39+1)),(w64 (v46-1)),(lset (lset v32.2.2 v39 v48) v46 v50)))))))))))))
def kdE (x0:Int) (x1:Int) (x2:Int) (x3:(List Int)):Option (Int×Bool×(List Int)):=
 ((gi x3 x2).bind fun v0=>((gi x3 x2).bind fun v1=>((gi x3 x0).bind fun v2=>((gi x3 x0).bind fun v3=>((gi x3 x0).bind fun v4=>((gi (lset x3 x0 v1) x2).bind fun v5=>((iter (kgW x0 x1 x2 x3 v1 v3) (w64 (x0+1))).bind fun v12=>((iter (kgJ x0 x2 x3 v1 v3 v12) (w64 (x1-1))).bind fun v19=>(if (decide (v19<v12))=true then ((gi (lset (lset x3 x0 v1) x2 v3) x0).bind fun v20=>((gi (lset (lset x3 x0 v1) x2 v3) x0).bind fun v21=>((gi (lset (lset x3 x0 v1) x2 v3) v19).bind fun v22=>((gi (lset (lset x3 x0 v1) x2 v3) v19).bind fun v23=>((gi (lset (lset x3 x0 v1) x2 v3) v19).bind fun v24=>((gi (lset (lset (lset x3 x0 v1) x2 v3) v19 v21) x0).bind fun v25=>(some (v19,true,(lset (lset (lset (lset x3 x0 v1) x2 v3) v19 v21) x0 v23))))))))) else ((gi (lset (lset x3 x0 v1) x2 v3) v19).bind fun v26=>((gi (lset (lset x3 x0 v1) x2 v3) v19).bind fun v27=>((gi (lset (lset x3 x0 v1) x2 v3) v12).bind fun v28=>((gi (lset (lset x3 x0 v1) x2 v3) v12).bind fun v29=>((gi (lset (lset x3 x0 v1) x2 v3) v12).bind fun v30=>((gi (lset (lset (lset x3 x0 v1) x2 v3) v12 v27) v19).bind fun v31=>((iter (kgL x0) ((w64 (v12+1)),(w64 (v19-1)),(lset (lset (lset (lset x3 x0 v1) x2 v3) v12 v27) v19 v29))).bind fun v53=>((gi v53.2 x0).bind fun v54=>((gi v53.2 x0).bind fun v55=>((gi v53.2 v53.1).bind fun v56=>((gi v53.2 v53.1).bind fun v57=>((gi v53.2 v53.1).bind fun v58=>((gi (lset v53.2 v53.1 v55) x0).bind fun v59=>(some (v53.1,false,(lset (lset v53.2 v53.1 v55) x0 v57)))))))))))))))))))))))))
def khI (rec_slices_pdqsortOrdered_int_m0:Int->Int->Int->(List Int)->Option (List Int)) (v0:(Int×Int×Int×Bool×Bool×(List Int))):Option ((Int×Int×Int×Bool×Bool×(List Int))⊕((List Int)⊕(List Int))):=
 (if (decide ((w64 (v0.1-v0.2.1))<=12))=true then ((kcy v0.2.1 v0.1 v0.2.2.2.2.2).bind fun v1=>(some (.inr (.inl v1)))) else (if (v0.2.2.1==0)=true then ((kdX v0.2.1 v0.1 v0.2.2.2.2.2).bind fun v2=>(some (.inr (.inl v2)))) else ((if (!v0.2.2.2.1)=true then ((kcz v0.2.1 v0.1 v0.2.2.2.2.2).bind fun v3=>(some ((w64 (v0.2.2.1-1)),v3))) else (some (v0.2.2.1,v0.2.2.2.2.2))).bind fun v4=>((kdZ v4.2 v0.2.1 v0.1).bind fun v5=>((if (v5.2==2)=true then ((kcJ v0.2.1 v0.1 v4.2).bind fun v6=>(some (1,(w64 ((w64 (v0.1-1))-(w64 (v5.1-v0.2.1)))),v6))) else (some (v5.2,v5.1,v4.2))).bind fun v7=>((if v0.2.2.2.1=true then (if v0.2.2.2.2.1=true then (some (v7.1==1)) else (some false)) else (some false)).bind fun v8=>(((if v8=true then ((kbK v0.2.1 v0.1 v7.2.2).bind fun v9=>(if v9.1=true then (some (.inl v9.2)) else (some (.inr v9.2)))) else (some (.inr v7.2.2))):Option ((List Int)⊕(List Int))).bind fun v10=>(match v10 with | .inl v11=>(some (.inr (.inl v11))) | .inr v12=>((if (decide (0<v0.2.1))=true then ((gi v12 (w64 (v0.2.1-1))).bind fun v13=>((gi v12 (w64 (v0.2.1-1))).bind fun v14=>((gi v12 v7.2.1).bind fun v15=>((gi v12 v7.2.1).bind fun v16=>((kaE v14 v16).bind fun v17=>(some (!v17))))))) else (some false)).bind fun v18=>(if v18=true then ((kcp v0.2.1 v0.1 v7.2.1 v12).bind fun v19=>(some (.inl (v0.1,v19.1,v4.1,v0.2.2.2.1,v0.2.2.2.2.1,v19.2)))) else ((kdE v0.2.1 v0.1 v7.2.1 v12).bind fun v20=>((gquo .i64 (w64 (v0.1-v0.2.1)) 8).bind fun v21=>(if (decide ((w64 (v20.1-v0.2.1))<(w64 (v0.1-v20.1))))=true then ((rec_slices_pdqsortOrdered_int_m0 v0.2.1 v20.1 v4.1 v20.2.2).bind fun v22=>(some (.inl (v0.1,(w64 (v20.1+1)),v4.1,(decide (v21<=(w64 (v20.1-v0.2.1)))),v20.2.1,v22)))) else ((rec_slices_pdqsortOrdered_int_m0 (w64 (v20.1+1)) v0.1 v4.1 v20.2.2).bind fun v23=>(some (.inl (v20.1,v0.2.1,v4.1,(decide (v21<=(w64 (v0.1-v20.1)))),v20.2.1,v23)))))))))))))))))
def kii (rec_slices_pdqsortOrdered_int_m0:Int->Int->Int->(List Int)->Option (List Int)) (x0:Int) (x1:Int) (x2:Int) (x3:(List Int)):Option (List Int):=
 ((iter (khI rec_slices_pdqsortOrdered_int_m0) (x1,x0,x2,true,true,x3)).bind fun v24=>(match v24 with | .inl v25=>(some v25) | .inr v26=>(some v26)))
def kbQ:Nat->Int->Int->Int->(List Int)->Option (List Int)
 | 0,_,_,_,_=>none
 | k+1,x0,x1,x2,x3=>kii (kbQ k) x0 x1 x2 x3
def ker (x0:Int) (x1:Int) (x2:Int) (x3:(List Int)):Option (List Int):=kbQ 1000000 x0 x1 x2 x3
def kfF (x0:(List Int)):Option (List Int):=
 ((kju (IntKind.wrap .u64 (lenI x0))).bind fun v0=>((ker 0 (lenI x0) v0 x0).bind fun v1=>(some v1)))
def khQ (x0:(List Int)):Option (List Int):=
 ((khA x0).bind fun v0=>((kfF v0).bind fun v1=>(some v1)))
def kvC (v1:(List Int)) (v2:Int):Option (Int⊕(Bool⊕Unit)):=
 (if (decide (v2<(lenI v1)))=true then ((gi v1 v2).bind fun v3=>((gi v1 v2).bind fun v4=>(if (v4 != v2)=true then (some (.inr (.inl false))) else (some (.inl (w64 (v2+1))))))) else (some (.inr (.inr ()))))
def kuH (x0:(List Int)) (x1:Int):Option Bool:=
 ((keU x0).bind fun v0=>((khQ v0).bind fun v1=>((iter (kvC v1) 0).bind fun v5=>(match v5 with | .inl v6=>(some v6) | .inr v7=>(some ((lenI x0)==x1))))))
def kmc (x0:(List Int)) (x1:Int):Option Bool:=
 ((kuH x0 x1).bind fun v0=>(some (!v0)))
def khc (x0:(List (List Int))) (x1:((List Int)->Option Bool)) (v0:Int):Option (Int⊕(Int⊕Unit)):=
 (if (decide (v0<(lenI x0)))=true then ((gi x0 v0).bind fun v1=>((x1 v1).bind fun v2=>(if v2=true then (some (.inr (.inl v0))) else (some (.inl (w64 (v0+1))))))) else (some (.inr (.inr ()))))
def kdH (x0:(List (List Int))) (x1:((List Int)->Option Bool)):Option Int:=
 ((iter (khc x0 x1) 0).bind fun v3=>(match v3 with | .inl v4=>(some v4) | .inr v5=>(some (-1))))
def kcL (x0:(List (List Int))) (x1:((List Int)->Option Bool)):Option Bool:=
 ((kdH x0 x1).bind fun v0=>(some (decide (0<=v0))))
def kph (x0:(List (List Int))):Option Bool:=
 ((kfQ 1 8 (lenI x0)).bind fun v0=>(if v0=true then ((kcL x0 (fun (u0:(List Int))=>((kmc u0 (lenI x0)).bind fun u1=>(some u1)))).bind fun v1=>(some (!v1))) else (some false)))
def kqT (x0:Int) (x1:Int):Option (Int×Int):=
 ((gshr .u64 (IntKind.wrap .u64 ((IntKind.wrap .u64 x0)*(IntKind.wrap .u64 x1))) 32).bind fun v0=>(some ((IntKind.wrap .u32 v0),(IntKind.wrap .u32 (IntKind.wrap .u64 ((IntKind.wrap .u64 x0)*(IntKind.wrap .u64 x1)))))))
def kkW (x0:Int) (x1:Int):Option (Int×Int):=
 ((gshr .u64 x0 32).bind fun v0=>((gshr .u64 x1 32).bind fun v1=>((gshr .u64 (IntKind.wrap .u64 ((bitsI .and .u64 x0 4294967295)*(bitsI .and .u64 x1 4294967295))) 32).bind fun v2=>((gshr .u64 (IntKind.wrap .u64 ((IntKind.wrap .u64 (v0*(bitsI .and .u64 x1 4294967295)))+v2)) 32).bind fun v3=>((gshr .u64 (IntKind.wrap .u64 ((bitsI .and .u64 (IntKind.wrap .u64 ((IntKind.wrap .u64 (v0*(bitsI .and .u64 x1 4294967295)))+v2)) 4294967295)+(IntKind.wrap .u64 ((bitsI .and .u64 x0 4294967295)*v1)))) 32).bind fun v4=>(some ((IntKind.wrap .u64 ((IntKind.wrap .u64 ((IntKind.wrap .u64 (v0*v1))+v3))+v4)),(IntKind.wrap .u64 (x0*x1)))))))))
def knb (x0:Int) (x1:Int):Option (Int×Int):=
 ((kkW x0 x1).bind fun v0=>(some v0))
def klf (x0:Int) (x1:(List Int)):Option Bool:=
 ((gi x1 x0).bind fun v0=>(some (decide (v0<0))))
def kfZ (x0:Int) (x1:(List (List Int))) (x2:(List Int)):Option Int:=
 ((gi x1 x0).bind fun v0=>((kaU v0 (fun (u0:Int)=>((klf u0 x2).bind fun u1=>(some u1)))).bind fun v1=>((gi x1 x0).bind fun v2=>((gi v2 v1).bind fun v3=>(some v3)))))
def kir (v5:kaj):Option (kaj⊕(List Int)):=
 (if (decide (v5.1<(lenI v5.2)))=true then ((gsl v5.2 v5.1 (lenI v5.2)).bind fun v6=>((gsl v5.2 0 v5.1).bind fun v7=>(some (.inl ((w64 (v5.1+(imin (lenI ((List.drop (Int.toNat 0) v5.2).take (Int.toNat (v5.1-0)))) ((lenI v5.2)-v5.1)))),(kzZ v5.2 (v5.1,((lenI v5.2)-v5.1)) ((List.drop (Int.toNat 0) v5.2).take (Int.toNat (v5.1-0))))))))) else (some (.inr v5.2)))
def kfb (x0:(List Int)) (x1:Int):Option (List Int):=
 ((if (decide (x1<0))=true then none else (some ())).bind fun v0=>((knb (IntKind.wrap .u64 (lenI x0)) (IntKind.wrap .u64 x1)).bind fun v1=>((if (decide (0<v1.1))=true then (some true) else (some (decide (9223372036854775807<v1.2)))).bind fun v2=>((if v2=true then none else (some ())).bind fun v3=>((gmk (w64 v1.2) 0).bind fun v4=>((iter (kir) ((imin (lenI x0) (lenI v4)),(lcopy v4 0 (lenI v4) x0))).bind fun v8=>(some v8)))))))
def kuy (x0:(List (List Int))) (v3:(List Int)) (v6:(Int×Int)):Option ((Int×Int)⊕Int):=
 (if (decide (v6.1<(lenI x0)))=true then ((kfZ v6.2 x0 v3).bind fun v7=>(some (.inl ((w64 (v6.1+1)),v7)))) else (some (.inr v6.2)))
def ktj (x0:(List (List Int))) (v3:(List Int)) (v8:Int) (v10:kaj):Option (kaj⊕(List Int)):=
 (if (v10.1 != v8)=true then ((gapp v10.2 [v10.1]).bind fun v11=>((kfZ v10.1 x0 v3).bind fun v12=>(some (.inl (v12,v11))))) else (some (.inr v10.2)))
def kuN (x0:(List (List Int))) (v3:(List Int)) (v13:(List Int)) (v14:kaj):Option (kaj⊕(List Int)):=
 (if (decide (v14.1<(lenI v13)))=true then ((gi v13 v14.1).bind fun v15=>((gi v13 v14.1).bind fun v16=>((kfZ v16 x0 v3).bind fun v17=>((gapp v14.2 [v17]).bind fun v18=>(some (.inl ((w64 (v14.1+1)),v18))))))) else (some (.inr v14.2)))
def kuJ (v13:(List Int)) (v19:(List Int)) (v20:kaj):Option (kaj⊕(List Int)):=
 (if (decide (v20.1<(lenI v13)))=true then ((gi v13 v20.1).bind fun v21=>((gi v13 v20.1).bind fun v22=>((gi v19 v20.1).bind fun v23=>((gi v19 v20.1).bind fun v24=>((gi v20.2 v22).bind fun v25=>(some (.inl ((w64 (v20.1+1)),(lset v20.2 v22 v24))))))))) else (some (.inr v20.2)))
def ktD (x0:(List (List Int))) (v2:kaj) (v3:(List Int)):Option ((List Int)⊕(List Int)):=
 ((gi v3 v2.1).bind fun v4=>((gi v3 v2.1).bind fun v5=>(if (decide (v5<0))=true then ((iter (kuy x0 v3) (0,v2.1)).bind fun v8=>((kfZ v8 x0 v3).bind fun v9=>((iter (ktj x0 v3 v8) (v9,[v8])).bind fun v13=>((iter (kuN x0 v3 v13) (0,[])).bind fun v19=>((iter (kuJ v13 v19) (0,v3)).bind fun v26=>(some (.inl v26))))))) else (some (.inr v3)))))
def ktr (x0:(List (List Int))) (v2:kaj):Option (kaj⊕(List Int)):=
 (if (decide (v2.1<(lenI x0)))=true then ((iter (ktD x0 v2) v2.2).bind fun v27=>(some (.inl ((w64 (v2.1+1)),v27)))) else (some (.inr v2.2)))
def ksv (x0:(List (List Int))):Option ((List Int)×Int):=
 ((kph x0).bind fun v0=>(if (!v0)=true then (some ([],2)) else ((kfb [(-1)] (lenI x0)).bind fun v1=>((iter (ktr x0) (0,v1)).bind fun v28=>(some (v28,0))))))
def knW (x0:(List (Int×Int×Int))) (x1:(List (Int×Int×Int))) (v0:Int):Option (Int⊕(Bool⊕Unit)):=
 (if (decide (v0<(lenI x0)))=true then ((gi x0 v0).bind fun v1=>((gi x1 v0).bind fun v2=>(if (!((v1.1==v2.1)&&((v1.2.1==v2.2.1)&&(v1.2.2==v2.2.2))))=true then (some (.inr (.inl false))) else (some (.inl (w64 (v0+1))))))) else (some (.inr (.inr ()))))
def klc (x0:(List (Int×Int×Int))) (x1:(List (Int×Int×Int))):Option Bool:=
 (if ((lenI x0) != (lenI x1))=true then (some false) else ((iter (knW x0 x1) 0).bind fun v3=>(match v3 with | .inl v4=>(some v4) | .inr v5=>(some true))))
def kpb (x0:(List Int)) (x1:(List Int)) (v0:Int):Option (Int⊕(Bool⊕Unit)):=
 (if (decide (v0<(lenI x0)))=true then ((gi x0 v0).bind fun v1=>((gi x1 v0).bind fun v2=>(if (v1 != v2)=true then (some (.inr (.inl false))) else (some (.inl (w64 (v0+1))))))) else (some (.inr (.inr ()))))
def kei (x0:(List Int)) (x1:(List Int)):Option Bool:=
 (if ((lenI x0) != (lenI x1))=true then (some false) else ((iter (kpb x0 x1) 0).bind fun v3=>(match v3 with | .inl v4=>(some v4) | .inr v5=>(some true))))
def kor:Option Bool:=
 ((kbk 1 1 4).bind fun v0=>((kbk 1 3 2).bind fun v1=>((kbk 4 0 1).bind fun v2=>((kbk 1 3 3).bind fun v3=>((kiD [v1,v2] [v3]).bind fun v4=>(law08_needed.bind fun v5=>(law08_swap.bind fun v6=>((kvd [v0] v5 v6).bind fun v7=>(law08_needed.bind fun v8=>(law08_swap.bind fun v9=>((kwl [v0] v8 v9 [(1,1,5),(2,1,3)]).bind fun v10=>((kbk 1 1 3).bind fun v11=>(law08_plans.bind fun v12=>((kdF [v11] v12 [5,4,9]).bind fun v13=>((ksv [[1,0,2],[0,1,2],[0,1,2]]).bind fun v14=>(if (v4.2 != 0)=true then (some false) else ((kbk 1 3 5).bind fun v15=>((kbk 4 0 1).bind fun v16=>((klc v4.1 [v15,v16]).bind fun v17=>(if (!v17)=true then (some false) else (if (v7.2 != 0)=true then (some false) else (if (v7.1.1 != 4)=true then (some false) else ((kei v7.1.2 [0,1]).bind fun v18=>(if (!v18)=true then (some false) else (if (v10.2 != 0)=true then (some false) else ((kei v10.1.1 [3,1]).bind fun v19=>(if (!v19)=true then (some false) else (if (v10.1.2.2 != 3)=true then (some false) else (if (v13.2==0)=true then ((kei v13.1.1 [2]).bind fun v20=>(if v20=true then (if (v13.1.2.1==9)=true then (if ((lenI v13.1.2.2)==0)=true then (if (v14.2==0)=true then ((kei v14.1 [1,0,2]).bind fun v21=>(some v21)) else (some false)) else (some false)) else (some false)) else (some false))) else (some false))))))))))))))))))))))))))))))
def law08_alive:Option Bool:=some true
theorem kyg:kor=law08_alive:=by kernel_rfl
def kin (x0:Int) (x1:Int) (x2:Int):Option Bool:=
 (if (decide (x1<=x0))=true then (some (decide (x0<=x2))) else (some false))
def keQ (x0:(List (Int×Int×Int))) (v0:(Int×Int)):Option ((Int×Int)⊕Int):=
 (if (decide (v0.1<(lenI x0)))=true then ((gi x0 v0.1).bind fun v1=>((kin v1.2.2 0 1000).bind fun v2=>(if v2=true then ((gi x0 v0.1).bind fun v3=>(some (.inl ((w64 (v0.1+1)),(w64 (v0.2+v3.2.2)))))) else (some (.inl ((w64 (v0.1+1)),v0.2)))))) else (some (.inr v0.2)))
def keL (x0:(List (Int×Int×Int))):Option Bool:=
 (if (decide (40<(lenI x0)))=true then (some true) else ((iter (keQ x0) (0,0)).bind fun v4=>(some (decide (8000<v4)))))
def khg (x0:(List (List (Int×Int×Int)))) (v0:Int):Option (Int⊕(Bool⊕Unit)):=
 (if (decide (v0<(lenI x0)))=true then ((gi x0 v0).bind fun v1=>((keL v1).bind fun v2=>(if v2=true then (some (.inr (.inl true))) else (some (.inl (w64 (v0+1))))))) else (some (.inr (.inr ()))))
def khS (x0:(List (List (Int×Int×Int)))):Option Bool:=
 ((iter (khg x0) 0).bind fun v3=>(match v3 with | .inl v4=>(some v4) | .inr v5=>(some false)))
def kiZ (x0:(List (List (Int×Int×Int)))) (x1:(List Int)):Option Bool:=
 (if (decide ((lenI x0)<=6))=true then ((khS x0).bind fun v0=>(if (!v0)=true then (some (decide ((lenI x1)<=20))) else (some false))) else (some false))
def kid (x0:(List (Int×Int×Int))) (x1:Int) (x2:Int) (v0:Int):Option (Int⊕(Int⊕Unit)):=
 (if (decide (v0<(lenI x0)))=true then (((gi x0 v0).bind fun v1=>(if (v1.1==x1)=true then ((gi x0 v0).bind fun v2=>(some (v2.2.1==x2))) else (some false))).bind fun v3=>(if v3=true then ((gi x0 v0).bind fun v4=>(some (.inr (.inl v4.2.2)))) else (some (.inl (w64 (v0+1)))))) else (some (.inr (.inr ()))))
def kjc (x0:(List (Int×Int×Int))) (x1:Int) (x2:Int):Option Int:=
 ((iter (kid x0 x1 x2) 0).bind fun v5=>(match v5 with | .inl v6=>(some v6) | .inr v7=>(some 0)))
def ket (x0:(List (List (Int×Int×Int)))) (x1:(List Int)) (x2:Int) (x3:(Int×Int×Int)) (v0:(Int×Int)):Option ((Int×Int)⊕Int):=
 (if (decide (v0.1<(lenI x0)))=true then ((gi x0 v0.1).bind fun v1=>((gi x1 v0.1).bind fun v2=>(if (v2==x2)=true then ((kjc v1 x3.1 x3.2.1).bind fun v3=>(some (.inl ((w64 (v0.1+1)),(w64 (v0.2+v3)))))) else (some (.inl ((w64 (v0.1+1)),v0.2)))))) else (some (.inr v0.2)))
def kll (x0:(List (List (Int×Int×Int)))) (x1:(List Int)) (x2:Int) (x3:(Int×Int×Int)):Option Int:=
 ((iter (ket x0 x1 x2 x3) (0,0)).bind fun v4=>(some v4))
def kcP (x0:(List (Int×Int×Int))) (x1:(List (List (Int×Int×Int)))) (x2:(List Int)) (x3:Int) (v0:Int) (v1:(List (Int×Int×Int))) (v2:Int):Option (Int⊕(Bool⊕Unit)):=
 (if (decide (v2<(lenI v1)))=true then ((gi v1 v2).bind fun v3=>((gi x2 v0).bind fun v4=>(if (v4==x3)=true then ((kll x1 x2 x3 v3).bind fun v5=>((kjc x0 v3.1 v3.2.1).bind fun v6=>(if (decide (v6<v5))=true then (some (.inr (.inl false))) else (some (.inl (w64 (v2+1))))))) else (some (.inl (w64 (v2+1))))))) else (some (.inr (.inr ()))))
def kcf (x0:(List (Int×Int×Int))) (x1:(List (List (Int×Int×Int)))) (x2:(List Int)) (x3:Int) (v0:Int):Option (Int⊕(Bool⊕Unit)):=
 (if (decide (v0<(lenI x1)))=true then ((gi x1 v0).bind fun v1=>((iter (kcP x0 x1 x2 x3 v0 v1) 0).bind fun v7=>(match v7 with | .inl v8=>(some (.inr (.inl v8))) | .inr v9=>(some (.inl (w64 (v0+1))))))) else (some (.inr (.inr ()))))
def kgM (x0:(List (Int×Int×Int))) (x1:(List (List (Int×Int×Int)))) (x2:(List Int)) (x3:Int):Option Bool:=
 ((iter (kcf x0 x1 x2 x3) 0).bind fun v10=>(match v10 with | .inl v11=>(some v11) | .inr v12=>(some true)))
def kaG (x0:(List Int)) (x1:(List Int)) (v0:Int):Option (Int⊕(Int⊕Unit)):=
 (if (decide (v0<(lenI x0)))=true then ((gi x0 v0).bind fun v1=>(if (decide ((lenI x1)<=v0))=true then (some (.inr (.inl 1))) else ((gi x1 v0).bind fun v2=>((kcF v1 v2).bind fun v3=>(if (v3 != 0)=true then (some (.inr (.inl v3))) else (some (.inl (w64 (v0+1))))))))) else (some (.inr (.inr ()))))
def kbl (x0:(List Int)) (x1:(List Int)):Option Int:=
 ((iter (kaG x0 x1) 0).bind fun v4=>(match v4 with | .inl v5=>(some v5) | .inr v6=>(if (decide ((lenI x0)<(lenI x1)))=true then (some (-1)) else (some 0))))
def kfX (v4:(List (Int×(List (Int×Int×Int))))) (v5:kaj):Option (kaj⊕(((List Int)×Int×Int)⊕(List Int))):=
 (if (decide (v5.1<(lenI v4)))=true then ((gi v4 v5.1).bind fun v6=>((gapp v5.2 [v6.1]).bind fun v7=>(some (.inl ((v5.1+1),v7))))) else (some (.inr (.inr v5.2))))
def kdh (v14:(Int×(List (Int×Int×Int)))) (v17:Int) (v18:(List Int)) (v19:(Int×(List Int))):Option ((Int×(List Int))⊕(List Int)):=
 (if (decide (v19.1<(lenI v18)))=true then ((gshr .i64 v14.1 v19.1).bind fun v20=>((gshr .i64 v17 v19.1).bind fun v21=>((gi v19.2 v19.1).bind fun v22=>(some (.inl ((w64 (v19.1+1)),(lset v19.2 v19.1 (IntKind.wrap .u8 (w64 ((bitsI .and .i64 v20 1)+(w64 (2*(bitsI .and .i64 v21 1))))))))))))) else (some (.inr v19.2)))
def kej (x2:(List (List (Int×Int×Int)))) (x3:(List Int)) (v10:(List Int)) (v14:(Int×(List (Int×Int×Int)))) (v15:(Int×Int×(List Int))):Option ((Int×Int×(List Int))⊕((List Int)×Int)):=
 (if (decide (v15.1<(lenI v10)))=true then ((gi v10 v15.1).bind fun v16=>((gi v10 v15.1).bind fun v17=>(if ((bitsI .and .i64 v17 v14.1) != 0)=true then (some (.inl ((w64 (v15.1+1)),v15.2))) else ((gmk (lenI x2) 0).bind fun v18=>((iter (kdh v14 v17 v18) (0,v18)).bind fun v23=>((kgS (bitsI .or .i64 v14.1 v17) x3).bind fun v24=>(if (decide (v15.2.1<v24.2))=true then (some (.inl ((w64 (v15.1+1)),v24.2,v23))) else (if (v24.2==v15.2.1)=true then ((kbl v23 v15.2.2).bind fun v25=>(if (decide (v25<0))=true then (some (.inl ((w64 (v15.1+1)),v24.2,v23))) else (some (.inl ((w64 (v15.1+1)),v15.2))))) else (some (.inl ((w64 (v15.1+1)),v15.2))))))))))) else (some (.inr (v15.2.2,v15.2.1))))
def kfK (x2:(List (List (Int×Int×Int)))) (x3:(List Int)) (v10:(List Int)) (v12:(List (Int×(List (Int×Int×Int))))) (v13:(Int×(List Int)×Int)):Option ((Int×(List Int)×Int)⊕(((List Int)×Int×Int)⊕((List Int)×Int))):=
 (if (decide (v13.1<(lenI v12)))=true then ((gi v12 v13.1).bind fun v14=>((iter (kej x2 x3 v10 v14) (0,v13.2.2,v13.2.1)).bind fun v26=>(some (.inl ((v13.1+1),v26))))) else (some (.inr (.inr v13.2))))
def kjs (x0:(List (Int×Int×Int))) (x1:(List (Int×Int×Int))) (x2:(List (List (Int×Int×Int)))) (x3:(List Int)):Option ((List Int)×Int×Int):=
 ((kbM [x0,x1]).bind fun v0=>((if (v0==0)=true then ((kgN x2 x3).bind fun v1=>(some v1)) else (some v0)).bind fun v2=>(if (v2 != 0)=true then (some ([],0,v2)) else ((keh x1 x2).bind fun v3=>((runI fun o=>(kbs o v3.1 v3.2)).bind fun v4=>((iter (kfX v4) (0,[])).bind fun v8=>(match v8 with | .inl v9=>(some v9) | .inr v10=>((keh x0 x2).bind fun v11=>((runI fun o=>(kbs o v11.1 v11.2)).bind fun v12=>((iter (kfK x2 x3 v10 v12) (0,[],(-1))).bind fun v27=>(match v27 with | .inl v28=>(some v28) | .inr v29=>(some (v29.1,v29.2,0)))))))))))))
def kbf (x3:(List Int)) (v3:((List Int)×Int×Int)) (v7:(Int×Int)):Option ((Int×Int)⊕(Bool⊕Int)):=
 (if (decide (v7.1<(lenI v3.1)))=true then ((gi v3.1 v7.1).bind fun v8=>(if (decide (2<v8))=true then (some (.inr (.inl false))) else (if (decide (0<v8))=true then ((gi x3 v7.1).bind fun v9=>(some (.inl ((w64 (v7.1+1)),(w64 (v7.2+v9)))))) else (some (.inl ((w64 (v7.1+1)),v7.2)))))) else (some (.inr (.inr v7.2))))
def kib (x0:(List (Int×Int×Int))) (x1:(List (Int×Int×Int))) (x2:(List (List (Int×Int×Int)))) (x3:(List Int)):Option Bool:=
 (law08_alive.bind fun v0=>((khS [x0,x1]).bind fun v1=>(if v1=true then (some v0) else ((kiZ x2 x3).bind fun v2=>(if (!v2)=true then (some v0) else (if (!v0)=true then (some v0) else ((kjs x0 x1 x2 x3).bind fun v3=>(if (v3.2.2 != 0)=true then ((if v0=true then (if ((lenI v3.1)==0)=true then (some (v3.2.1==0)) else (some false)) else (some false)).bind fun v4=>(some v4)) else (if ((lenI v3.1) != (lenI x2))=true then (some false) else (if ((lenI x3) != (lenI x2))=true then (some false) else ((kgM x0 x2 v3.1 1).bind fun v5=>(if (!v5)=true then (some false) else ((kgM x1 x2 v3.1 2).bind fun v6=>(if (!v6)=true then (some false) else ((iter (kbf x3 v3) (0,0)).bind fun v10=>(match v10 with | .inl v11=>(some v11) | .inr v12=>((kdF x0 x2 x3).bind fun v13=>((kdF x1 x2 x3).bind fun v14=>((kiD x0 x1).bind fun v15=>(if (v13.2 != 0)=true then (some false) else (if (v14.2 != 0)=true then (some false) else (if (v12 != v3.2.1)=true then (some false) else (if (decide (v3.2.1<v13.1.2.1))=true then (some false) else (if (decide (v3.2.1<v14.1.2.1))=true then (some false) else (if (v15.2 != 0)=true then (some v0) else ((kdF v15.1 x2 x3).bind fun v16=>(if v0=true then (if (v16.2==0)=true then (some (decide (v3.2.1<=v16.1.2.1))) else (some false)) else (some false))))))))))))))))))))))))))))
end Go.Abs
set_option maxRecDepth 100000
namespace Go.Abs
open Go Go.Proofs
def kaX:Ctr:=⟨ "",[],[],fun _=>none,[],[]⟩
theorem kay {g:FuncId}:Good Tryz.prog g kaX:=good_dm
def kio:Ctr:=⟨ "",[(.i .i64),(.i .u8),(.i .i64)],[(.pr (.i .i64) (.pr (.i .u8) (.i .i64)))],fun x=>kbk x.1 x.2.1 x.2.2,[],[]⟩
theorem khO:Good Tryz.prog 43 kio:=
 kad Tryz.func43 (by kernel_rfl) (An:=[]) [] (.nil) (fun x=>by kernel_rfl)
def kga:Ctr:=⟨ "",[(.i .i64),(.i .i64),(.i .i64)],[.b],fun x=>kfQ x.1 x.2.1 x.2.2,[],[]⟩
theorem keT:Good Tryz.prog 66 kga:=
 kad Tryz.func66 (by kernel_rfl) (An:=[]) [] (.nil) (fun x=>by kernel_rfl)
def klN:Ctr:=⟨ "",[(.pr (.i .i64) (.pr (.i .u8) (.i .i64)))],[.b],fun x=>khL x,[],[]⟩
theorem koV:Good Tryz.prog 93 klN:=
 kad Tryz.func93 (by kernel_rfl) (An:=[]) [(66,kga)] (.cons keT <| .nil) (fun x=>by kernel_rfl)
def keF:Ctr:=⟨ "",[(.pr (.i .i64) (.i .u8))],[.b],fun x=>kcc x,[],[]⟩
theorem kfp:Good Tryz.prog 96 keF:=
 kad Tryz.func96 (by kernel_rfl) (An:=[]) [(66,kga)] (.cons keT <| .nil) (fun x=>by kernel_rfl)
def khK:Ctr:=⟨ "",[(.i .i64)],[.b],fun x=>kdu x,[],[]⟩
theorem kjb:Good Tryz.prog 111 khK:=
 kad Tryz.func111 (by kernel_rfl) (An:=[]) [] (.nil) (fun x=>by kernel_rfl)
def ked:Ctr:=⟨ "",[(.i .i64),(.i .i64)],[(.i .i64)],fun x=>kcs x.1 x.2,[],[]⟩
theorem keN:Good Tryz.prog 78 ked:=
 kad Tryz.func78 (by kernel_rfl) (An:=[]) [(111,khK)] (.cons kjb <| .nil) (fun x=>by kernel_rfl)
def kjD:Ctr:=⟨ "",[(.i .u8)],[.b],fun x=>kfq x,[],[]⟩
theorem kmK:Good Tryz.prog 125 kjD:=
 kad Tryz.func125 (by kernel_rfl) (An:=[]) [] (.nil) (fun x=>by kernel_rfl)
def kfj:Ctr:=⟨ "",[(.i .u8),(.i .u8)],[(.i .i64)],fun x=>kcF x.1 x.2,[],[]⟩
theorem kgE:Good Tryz.prog 113 kfj:=
 kad Tryz.func113 (by kernel_rfl) (An:=[]) [(125,kjD)] (.cons kmK <| .nil) (fun x=>by kernel_rfl)
def kkk:Ctr:=⟨ "",[(.sl (.i .i64))],[(.i .i64)],fun x=>kia x,[],[]⟩
theorem kli:Good Tryz.prog 77 kkk:=
 kad Tryz.func77 (by kernel_rfl) (An:=[(0,⟨⟨[(8,.c (.i .i64))],[]⟩,⟨[],[]⟩,[7,6,3],[],0,true,""⟩)]) [] (.nil) (fun x=>by kernel_rfl)
def kgO:Ctr:=⟨ "",[(.pr (.i .i64) (.i .u8)),(.pr (.i .i64) (.i .u8))],[(.i .i64)],fun x=>kfJ x.1 x.2,[],[]⟩
theorem kgg:Good Tryz.prog 103 kgO:=
 kad Tryz.func103 (by kernel_rfl) (An:=[]) [(77,kkk),(113,kfj),(78,ked)] (.cons kli <| .cons kgE <| .cons keN <| .nil) (fun x=>by kernel_rfl)
def kgQ:Ctr:=⟨ "",[(.sl (.pr (.i .i64) (.pr (.i .u8) (.i .i64)))),(.i .i64),(.fn 1 (.pr (.i .i64) (.pr (.i .u8) (.i .i64))) (.pr (.i .i64) (.i .u8)))],[.b],fun x=>kcI x.1 x.2.1 x.2.2,[],[]⟩
theorem kjS:Good Tryz.prog 94 kgQ:=
 kad Tryz.func94 (by kernel_rfl) (An:=[(0,⟨⟨[(11,.c (.i .i64))],[]⟩,⟨[],[]⟩,[10,9,2,0,1],[],0,true,""⟩)]) [(103,kgO),(96,keF)] (.cons kgg <| .cons kfp <| .nil) (fun x=>by kernel_rfl)
def kes:Ctr:=⟨ "",[(.pr (.i .i64) (.pr (.i .u8) (.i .i64)))],[(.pr (.i .i64) (.i .u8))],fun x=>kbm x,[],[]⟩
theorem kdG:Good Tryz.prog 71 kes:=
 kad Tryz.func71 (by kernel_rfl) (An:=[]) [] (.nil) (fun x=>by kernel_rfl)
def kbY:Ctr:=⟨ "",[(.sl (.pr (.i .i64) (.pr (.i .u8) (.i .i64)))),(.fn 1 (.pr (.i .i64) (.pr (.i .u8) (.i .i64))) .b)],[(.i .i64)],fun x=>kbh x.1 x.2,[],[]⟩
theorem keA:Good Tryz.prog 99 kbY:=
 kad Tryz.func99 (by kernel_rfl) (An:=[(0,⟨⟨[(8,.c (.i .i64))],[]⟩,⟨[],[]⟩,[7,1,0],[],0,true,""⟩)]) [] (.nil) (fun x=>by kernel_rfl)
def kaN:Ctr:=⟨ "",[(.sl (.pr (.i .i64) (.pr (.i .u8) (.i .i64)))),(.fn 1 (.pr (.i .i64) (.pr (.i .u8) (.i .i64))) .b)],[.b],fun x=>kas x.1 x.2,[],[]⟩
theorem kbw:Good Tryz.prog 54 kaN:=
 kad Tryz.func54 (by kernel_rfl) (An:=[]) [(99,kbY)] (.cons keA <| .nil) (fun x=>by kernel_rfl)
def klx:Ctr:=⟨ "",[(.sl (.pr (.i .i64) (.pr (.i .u8) (.i .i64))))],[(.i .i64)],fun x=>kjh x,[],[]⟩
theorem kmd:Good Tryz.prog 47 klx:=
 kad Tryz.func47 (by kernel_rfl) (An:=[]) [(54,kaN),(71,kes),(94,kgQ),(93,klN)] (.cons kbw <| .cons kdG <| .cons kjS <| .cons koV <| .nil) (fun x=>by kernel_rfl)
def kbR:Ctr:=⟨ "",[(.sl (.sl (.pr (.i .i64) (.pr (.i .u8) (.i .i64)))))],[(.i .i64)],fun x=>kbM x,[],[]⟩
theorem kbD:Good Tryz.prog 50 kbR:=
 kad Tryz.func50 (by kernel_rfl) (An:=[(0,⟨⟨[(8,.c (.i .i64))],[]⟩,⟨[],[]⟩,[7,6],[],0,true,""⟩)]) [(47,klx)] (.cons kmd <| .nil) (fun x=>by kernel_rfl)
def kmZ:Ctr:=⟨ "",[(.sl (.pr (.i .i64) (.pr (.i .u8) (.i .i64)))),(.sl (.pr (.i .i64) (.pr (.i .u8) (.i .i64))))],[(.i .i64)],fun x=>kcM x.1 x.2,[],[]⟩
theorem kpD:Good Tryz.prog 98 kmZ:=
 kad Tryz.func98 (by kernel_rfl) (An:=[]) [(71,kes),(103,kgO)] (.cons kdG <| .cons kgg <| .nil) (fun x=>by kernel_rfl)
def kki:Ctr:=⟨ "",[(.sl (.pr (.i .i64) (.pr (.i .u8) (.i .i64)))),(.sl (.pr (.i .i64) (.pr (.i .u8) (.i .i64)))),(.fn 2 (.pr (.i .i64) (.i .i64)) (.i .i64))],[(.sl (.pr (.i .i64) (.pr (.i .u8) (.i .i64))))],fun x=>keM x.1 x.2.1 x.2.2,[],[]⟩
theorem kkU:Good Tryz.prog 51 kki:=
 kad Tryz.func51 (by kernel_rfl) (An:=[(0,⟨⟨[(0,.c (.sl (.pr (.i .i64) (.pr (.i .u8) (.i .i64))))),(1,.c (.sl (.pr (.i .i64) (.pr (.i .u8) (.i .i64))))),(7,.mw 1)],[(1,.sl 50 (.pr (.i .i64) (.pr (.i .u8) (.i .i64))))]⟩,⟨[(7,.mw 2)],[(2,.sl 50 (.pr (.i .i64) (.pr (.i .u8) (.i .i64))))]⟩,[2],[],3,false,""⟩),(10,⟨⟨[],[]⟩,⟨[(19,.c .b)],[]⟩,[0,1,7],[1],2,false,""⟩),(129,⟨⟨[(8,.ptr 2 0)],[(2,.bx 50 [.c (.i .i64),.c (.i .u8),.c (.i .i64)])]⟩,⟨[(9,.c (.i .i64)),(10,.c (.i .i64)),(8,.ptr 3 0),(0,.c (.sl (.pr (.i .i64) (.pr (.i .u8) (.i .i64))))),(1,.c (.sl (.pr (.i .i64) (.pr (.i .u8) (.i .i64)))))],[(3,.bx 50 [.c (.i .i64),.c (.i .u8),.c (.i .i64)])]⟩,[11,7],[1],4,false,""⟩),(181,⟨⟨[],[]⟩,⟨[(10,.c (.i .i64)),(1,.c (.sl (.pr (.i .i64) (.pr (.i .u8) (.i .i64)))))],[]⟩,[9,8,0],[2],3,false,""⟩)]) [(98,kmZ)] (.cons kpD <| .nil) (fun x=>by kernel_rfl)
def knz:Ctr:=⟨ "",[(.i .i64),(.i .i64)],[(.i .i64)],fun x=>kjU x.1 x.2,[],[]⟩
theorem krc:Good Tryz.prog 52 knz:=
 kad Tryz.func52 (by kernel_rfl) (An:=[]) [] (.nil) (fun x=>by kernel_rfl)
def koc:Ctr:=⟨ "",[(.sl (.pr (.i .i64) (.pr (.i .u8) (.i .i64)))),(.sl (.pr (.i .i64) (.pr (.i .u8) (.i .i64))))],[(.sl (.pr (.i .i64) (.pr (.i .u8) (.i .i64)))),(.i .i64)],fun x=>kiD x.1 x.2,[],[]⟩
theorem kok:Good Tryz.prog 15 koc:=
 kad Tryz.func15 (by kernel_rfl) (An:=[]) [(52,knz),(51,kki),(50,kbR),(47,klx)] (.cons krc <| .cons kkU <| .cons kbD <| .cons kmd <| .nil) (fun x=>by kernel_rfl)
def klX:Ctr:=⟨ "",[],[(.sl (.pr (.i .i64) (.pr (.i .u8) (.i .i64))))],fun x=>law08_needed,[],[]⟩
theorem koX:Good Tryz.prog 44 klX:=
 kad Tryz.func44 (by kernel_rfl) (An:=[]) [(43,kio)] (.cons khO <| .nil) (fun x=>by kernel_rfl)
def knA:Ctr:=⟨ "",[],[(.sl tSwap)],fun x=>law08_swap,[],[]⟩
theorem kqW:Good Tryz.prog 45 knA:=
 kad Tryz.func45 (by kernel_rfl) (An:=[]) [] (.nil) (fun x=>by kernel_rfl)
def kiu:Ctr:=⟨ "",[tSwap],[.b],fun x=>kjC x,[],[]⟩
theorem klD:Good Tryz.prog 95 kiu:=
 kad Tryz.func95 (by kernel_rfl) (An:=[(6,⟨⟨[],[]⟩,⟨[(3,.ptr 1 0),(4,.ptr 2 0)],[(1,.bx 115 [.c (.i .i64),.c (.i .u8)]),(2,.bx 115 [.c (.i .i64),.c (.i .u8)])]⟩,[1],[0],3,false,""⟩)]) [(96,keF)] (.cons kfp <| .nil) (fun x=>by kernel_rfl)
def kcb:Ctr:=⟨ "",[(.sl tSwap),(.fn 1 tSwap .b)],[(.i .i64)],fun x=>kcj x.1 x.2,[],[]⟩
theorem kex:Good Tryz.prog 121 kcb:=
 kad Tryz.func121 (by kernel_rfl) (An:=[(0,⟨⟨[(8,.c (.i .i64))],[]⟩,⟨[],[]⟩,[7,1,0],[],0,true,""⟩)]) [] (.nil) (fun x=>by kernel_rfl)
def kbL:Ctr:=⟨ "",[(.sl tSwap),(.fn 1 tSwap .b)],[.b],fun x=>kbU x.1 x.2,[],[]⟩
theorem kdS:Good Tryz.prog 97 kbL:=
 kad Tryz.func97 (by kernel_rfl) (An:=[]) [(121,kcb)] (.cons kex <| .nil) (fun x=>by kernel_rfl)
def khp:Ctr:=⟨ "",[(.sl tSwap)],[(.i .i64)],fun x=>kiQ x,[],[]⟩
theorem kix:Good Tryz.prog 48 khp:=
 kad Tryz.func48 (by kernel_rfl) (An:=[]) [(97,kbL),(95,kiu)] (.cons kdS <| .cons klD <| .nil) (fun x=>by kernel_rfl)
def kcB:Ctr:=⟨ "",[(.sl tSwap),tSwap],[(.i .i64)],fun x=>kcV x.1 x.2,[],[]⟩
theorem kfE:Good Tryz.prog 132 kcB:=
 kad Tryz.func132 (by kernel_rfl) (An:=[(0,⟨⟨[(8,.c (.i .i64))],[]⟩,⟨[],[]⟩,[7,3,0],[0],1,true,""⟩)]) [] (.nil) (fun x=>by kernel_rfl)
def kch:Ctr:=⟨ "",[(.sl tSwap),tSwap],[.b],fun x=>kcr x.1 x.2,[],[]⟩
theorem keJ:Good Tryz.prog 122 kch:=
 kad Tryz.func122 (by kernel_rfl) (An:=[]) [(132,kcB)] (.cons kfE <| .nil) (fun x=>by kernel_rfl)
def kos:Ctr:=⟨ "",[(.sl tSwap),(.pr (.i .i64) (.i .u8)),(.pr (.i .i64) (.i .u8))],[.b],fun x=>krN x.1 x.2.1 x.2.2,[],[]⟩
theorem kom:Good Tryz.prog 100 kos:=
 kad Tryz.func100 (by kernel_rfl) (An:=[]) [(122,kch)] (.cons keJ <| .nil) (fun x=>by kernel_rfl)
def kdp (k:Nat):CtrM:=⟨ "",[some (.i .i64),none,none,none],⟨[(1,.ptr 0 0),(2,.ptr 2 0),(3,.ptr 3 0)],[(0,.bx 103 [.mw 1]),(1,.sl 4 .b),(2,.bx 100 [.c (.op tFlow)]),(3,.bx 155 [.fn 102 [.ptr 0 0,.ptr 2 0,.ptr 3 0]])]⟩,4,⟨[(1,.ptr 0 0),(2,.ptr 2 0),(3,.ptr 3 0)],[(0,.bx 103 [.mw 1]),(1,.sl 4 .b),(2,.bx 100 [.c (.op tFlow)]),(3,.bx 155 [.fn 102 [.ptr 0 0,.ptr 2 0,.ptr 3 0]])]⟩,4,0,fun x=>kdT k x.1 x.2.1 x.2.2,false⟩
theorem kfT:∀ k,(kdp k).ok=true/\GoodM Tryz.prog 102 (kdp k)
 | 0=>kjV (by kernel_rfl) (fun x=>rfl)
 | k+1=>kan Tryz.func102 (by kernel_rfl) (An:=[(0,⟨⟨[(23,.c (.i .i64))],[(2,.bx 100 [.c (.op tFlow)]),(3,.bx 155 [.fn 102 [.ptr 0 0,.ptr 2 0,.ptr 3 0]]),(0,.bx 103 [.mw 1]),(1,.sl 4 .b)]⟩,⟨[],[(2,.bx 100 [.c (.op tFlow)]),(3,.bx 155 [.fn 102 [.ptr 0 0,.ptr 2 0,.ptr 3 0]]),(0,.bx 103 [.mw 1]),(1,.sl 4 .b)]⟩,[22,21],[],8,false,""⟩),(8,⟨⟨[(32,.c (.i .i64))],[(2,.bx 100 [.c (.op tFlow)]),(3,.bx 155 [.fn 102 [.ptr 0 0,.ptr 2 0,.ptr 3 0]]),(0,.bx 103 [.mw 1]),(1,.sl 4 .b)]⟩,⟨[],[(2,.bx 100 [.c (.op tFlow)]),(3,.bx 155 [.fn 102 [.ptr 0 0,.ptr 2 0,.ptr 3 0]]),(0,.bx 103 [.mw 1]),(1,.sl 4 .b)]⟩,[31,6,23],[],8,false,""⟩)]) ((102,⟨ "",[],[],fun _=>none,[kdp k],[]⟩)::[]) (.cons (good_dm.more (kfT k)) <| .nil) (fun x=>by kernel_rfl)
def box_flow_short_c1_m0_M:CtrM:=⟨ "",[some (.i .i64),none,none,none],⟨[(1,.ptr 0 0),(2,.ptr 2 0),(3,.ptr 3 0)],[(0,.bx 103 [.mw 1]),(1,.sl 4 .b),(2,.bx 100 [.c (.op tFlow)]),(3,.bx 155 [.fn 102 [.ptr 0 0,.ptr 2 0,.ptr 3 0]])]⟩,4,⟨[(1,.ptr 0 0),(2,.ptr 2 0),(3,.ptr 3 0)],[(0,.bx 103 [.mw 1]),(1,.sl 4 .b),(2,.bx 100 [.c (.op tFlow)]),(3,.bx 155 [.fn 102 [.ptr 0 0,.ptr 2 0,.ptr 3 0]])]⟩,4,0,fun x=>kif x.1 x.2.1 x.2.2,false⟩
theorem kjM:box_flow_short_c1_m0_M.ok=true/\GoodM Tryz.prog 102 box_flow_short_c1_m0_M:=kfT 1000000
def box_flow_short_c1_C:Ctr:=⟨ "",[],[],fun _=>none,[],[]⟩
theorem box_flow_short_c1_C_ok:Good Tryz.prog 102 box_flow_short_c1_C:=good_dm
def khR:Ctr:=⟨ "",box_flow_short_c1_C.as,box_flow_short_c1_C.rs,box_flow_short_c1_C.F,box_flow_short_c1_m0_M::box_flow_short_c1_C.mus,box_flow_short_c1_C.its⟩
theorem kkQ:Good Tryz.prog 102 khR:=(box_flow_short_c1_C_ok.more kjM)
def box_begin_m0g0_M:CtrM:=⟨ "",[some (.sl (.pr (.i .i64) (.pr (.i .u8) (.i .i64)))),some (.sl (.pr (.i .i64) (.pr (.i .u8) (.i .i64)))),some (.sl tSwap)],⟨[],[]⟩,0,⟨[(1000000,.sc (.pointer none)),(1000001,.c (.i .i64))],[]⟩,0,2,fun x=>kiN x.1 x.2.1 x.2.2,true⟩
theorem knp:box_begin_m0g0_M.ok=true/\GoodM Tryz.prog 58 box_begin_m0g0_M:=
 kan Tryz.func58 (by kernel_rfl) (An:=[(89,⟨⟨[],[]⟩,⟨[(8,.c (.i .i64))],[]⟩,[2,1,0],[],1,false,""⟩),(0,⟨⟨[(33,.c (.i .i64)),(9,.ptr 5 0)],[(5,.bx 134 [.c (.sl (.pr (.i .i64) (.pr (.i .u8) (.i .i64)))),.mw 2,.fw 3,.mw 4]),(4,.sl 3 (.i .i64))]⟩,⟨[(9,.ptr 6 0)],[(6,.bx 134 [.c (.sl (.pr (.i .i64) (.pr (.i .u8) (.i .i64)))),.mw 2,.fw 3,.mw 7]),(7,.sl 3 (.i .i64))]⟩,[32,31,1,0,2],[2,3],8,false,""⟩),(8,⟨⟨[(51,.c (.i .i64)),(9,.ptr 6 0)],[(6,.bx 134 [.c (.sl (.pr (.i .i64) (.pr (.i .u8) (.i .i64)))),.mw 2,.fw 3,.mw 7]),(2,.sl 31 (.sl (.i .i64))),(3,.fm 31 (.sl (.i .i64)) 0 3 (.i .i64))]⟩,⟨[(9,.ptr 8 0)],[(8,.bx 134 [.c (.sl (.pr (.i .i64) (.pr (.i .u8) (.i .i64)))),.mw 9,.fw 10,.mw 7]),(9,.sl 31 (.sl (.i .i64))),(10,.fm 31 (.sl (.i .i64)) 0 3 (.i .i64))]⟩,[50,49,0,2],[7],11,false,""⟩),(16,⟨⟨[(57,.c (.i .i64)),(14,.mw 9)],[(9,.sl 3 (.i .i64))]⟩,⟨[(14,.mw 10)],[(10,.sl 3 (.i .i64))]⟩,[56,55,13,9,51],[8,6,2,3],11,false,""⟩)]) [(4134001,kaX),(7000089,kaX),(6000083,kaX),(6000029,kaX),(100,kos),(48,khp),(50,kbR),(71,kes)] (.cons kay <| .cons kay <| .cons kay <| .cons kay <| .cons kom <| .cons kix <| .cons kbD <| .cons kdG <| .nil) (fun x=>by kernel_rfl)
def box_begin_m0g1_M:CtrM:=⟨ "",[some (.sl (.pr (.i .i64) (.pr (.i .u8) (.i .i64)))),some (.sl (.pr (.i .i64) (.pr (.i .u8) (.i .i64)))),some (.sl tSwap)],⟨[],[]⟩,0,⟨[(1000000,.ptr 0 0),(1000001,.c (.i .i64))],[(0,.bx 134 [.c (.sl (.pr (.i .i64) (.pr (.i .u8) (.i .i64)))),.mw 1,.fw 2,.mw 3]),(1,.sl 31 (.sl (.i .i64))),(2,.fm 31 (.sl (.i .i64)) 0 3 (.i .i64)),(3,.sl 3 (.i .i64))]⟩,4,2,fun x=>kiz x.1 x.2.1 x.2.2,true⟩
theorem knt:box_begin_m0g1_M.ok=true/\GoodM Tryz.prog 58 box_begin_m0g1_M:=
 kan Tryz.func58 (by kernel_rfl) (An:=[(89,⟨⟨[],[]⟩,⟨[(8,.c (.i .i64))],[]⟩,[2,1,0],[],1,false,""⟩),(0,⟨⟨[(33,.c (.i .i64)),(9,.ptr 5 0)],[(5,.bx 134 [.c (.sl (.pr (.i .i64) (.pr (.i .u8) (.i .i64)))),.mw 2,.fw 3,.mw 4]),(4,.sl 3 (.i .i64))]⟩,⟨[(9,.ptr 6 0)],[(6,.bx 134 [.c (.sl (.pr (.i .i64) (.pr (.i .u8) (.i .i64)))),.mw 2,.fw 3,.mw 7]),(7,.sl 3 (.i .i64))]⟩,[32,31,1,0,2],[2,3],8,false,""⟩),(8,⟨⟨[(51,.c (.i .i64)),(9,.ptr 6 0)],[(6,.bx 134 [.c (.sl (.pr (.i .i64) (.pr (.i .u8) (.i .i64)))),.mw 2,.fw 3,.mw 7]),(2,.sl 31 (.sl (.i .i64))),(3,.fm 31 (.sl (.i .i64)) 0 3 (.i .i64))]⟩,⟨[(9,.ptr 8 0)],[(8,.bx 134 [.c (.sl (.pr (.i .i64) (.pr (.i .u8) (.i .i64)))),.mw 9,.fw 10,.mw 7]),(9,.sl 31 (.sl (.i .i64))),(10,.fm 31 (.sl (.i .i64)) 0 3 (.i .i64))]⟩,[50,49,0,2],[7],11,false,""⟩),(16,⟨⟨[(57,.c (.i .i64)),(14,.mw 9)],[(9,.sl 3 (.i .i64))]⟩,⟨[(14,.mw 10)],[(10,.sl 3 (.i .i64))]⟩,[56,55,13,9,51],[8,6,2,3],11,false,""⟩)]) [(4134001,kaX),(7000089,kaX),(6000083,kaX),(6000029,kaX),(100,kos),(48,khp),(50,kbR),(71,kes)] (.cons kay <| .cons kay <| .cons kay <| .cons kay <| .cons kom <| .cons kix <| .cons kbD <| .cons kdG <| .nil) (fun x=>by kernel_rfl)
def box_begin_B1:Ctr:=⟨ "",[],[],fun _=>none,[],[]⟩
theorem box_begin_B1_ok:Good Tryz.prog 58 box_begin_B1:=good_dm
def kkz:Ctr:=⟨ "",box_begin_B1.as,box_begin_B1.rs,box_begin_B1.F,box_begin_m0g0_M::box_begin_m0g1_M::box_begin_B1.mus,box_begin_B1.its⟩
theorem kkX:Good Tryz.prog 58 kkz:=((box_begin_B1_ok.more knt).more knp)
def box_flow_short_m0_M:CtrM:=⟨ "",[some (.op tFlow),some (.sl .b)],⟨[],[]⟩,0,⟨[(1000000,.mw 0)],[(0,.sl 3 (.i .i64))]⟩,1,1,fun x=>kgB x.1 x.2,false⟩
theorem kln:box_flow_short_m0_M.ok=true/\GoodM Tryz.prog 60 box_flow_short_m0_M:=
 kan Tryz.func60 (by kernel_rfl) (An:=[(0,⟨⟨[(18,.c (.i .i64)),(5,.ptr 2 0),(6,.ptr 5 0)],[(2,.bx 155 [.fn 102 [.ptr 5 0,.ptr 0 0,.ptr 2 0]]),(5,.bx 103 [.mw 3]),(3,.sl 4 .b),(0,.bx 100 [.c (.op tFlow)])]⟩,⟨[(6,.ptr 6 0)],[(6,.bx 103 [.mw 7]),(7,.sl 4 .b)]⟩,[17,16],[],8,false,""⟩),(8,⟨⟨[(30,.c (.i .i64)),(9,.mw 8)],[(8,.sl 3 (.i .i64))]⟩,⟨[(9,.mw 9)],[(9,.sl 3 (.i .i64))]⟩,[29,28],[7],10,false,""⟩)]) [(102,khR)] (.cons kkQ <| .nil) (fun x=>by kernel_rfl)
def box_flow_short_B2:Ctr:=⟨ "",[],[],fun _=>none,[],[]⟩
theorem box_flow_short_B2_ok:Good Tryz.prog 60 box_flow_short_B2:=good_dm
def kjG:Ctr:=⟨ "",box_flow_short_B2.as,box_flow_short_B2.rs,box_flow_short_B2.F,box_flow_short_m0_M::box_flow_short_B2.mus,box_flow_short_B2.its⟩
theorem kmj:Good Tryz.prog 60 kjG:=(box_flow_short_B2_ok.more kln)
def kdM (k:Nat):CtrM:=⟨ "",[some (.i .i64),some (.i .i64),none,none,none],⟨[(2,.ptr 0 0),(3,.ptr 5 0),(4,.ptr 7 0)],[(0,.bx 100 [.ptr 1 0]),(1,.bx 134 [.c (.sl (.pr (.i .i64) (.pr (.i .u8) (.i .i64)))),.mw 2,.fw 3,.mw 4]),(2,.sl 31 (.sl (.i .i64))),(3,.fm 31 (.sl (.i .i64)) 0 3 (.i .i64)),(4,.sl 3 (.i .i64)),(5,.bx 103 [.mw 6]),(6,.sl 4 .b),(7,.bx 96 [.fn 101 [.ptr 0 0,.ptr 5 0,.ptr 7 0]])]⟩,8,⟨[(2,.ptr 0 0),(3,.ptr 5 0),(4,.ptr 7 0),(1000000,.c (.i .i64))],[(0,.bx 100 [.ptr 1 0]),(1,.bx 134 [.c (.sl (.pr (.i .i64) (.pr (.i .u8) (.i .i64)))),.mw 2,.fw 3,.mw 4]),(2,.sl 31 (.sl (.i .i64))),(3,.fm 31 (.sl (.i .i64)) 0 3 (.i .i64)),(4,.sl 3 (.i .i64)),(5,.bx 103 [.mw 6]),(6,.sl 4 .b),(7,.bx 96 [.fn 101 [.ptr 0 0,.ptr 5 0,.ptr 7 0]])]⟩,8,1,fun x=>kef k x.1 x.2.1 x.2.2.1 x.2.2.2.1 x.2.2.2.2.1 x.2.2.2.2.2.1 x.2.2.2.2.2.2,false⟩
theorem kgr:∀ k,(kdM k).ok=true/\GoodM Tryz.prog 101 (kdM k)
 | 0=>kjV (by kernel_rfl) (fun x=>rfl)
 | k+1=>kan Tryz.func101 (by kernel_rfl) (An:=[(0,⟨⟨[(21,.c (.i .i64))],[(5,.bx 103 [.mw 6]),(6,.sl 4 .b),(0,.bx 100 [.ptr 1 0]),(1,.bx 134 [.c (.sl (.pr (.i .i64) (.pr (.i .u8) (.i .i64)))),.mw 2,.fw 3,.mw 4]),(2,.sl 31 (.sl (.i .i64))),(3,.fm 31 (.sl (.i .i64)) 0 3 (.i .i64)),(4,.sl 3 (.i .i64)),(7,.bx 96 [.fn 101 [.ptr 0 0,.ptr 5 0,.ptr 7 0]])]⟩,⟨[],[(6,.sl 4 .b),(4,.sl 3 (.i .i64)),(5,.bx 103 [.mw 6]),(3,.fm 31 (.sl (.i .i64)) 0 3 (.i .i64)),(0,.bx 100 [.ptr 1 0]),(1,.bx 134 [.c (.sl (.pr (.i .i64) (.pr (.i .u8) (.i .i64)))),.mw 2,.fw 3,.mw 4]),(2,.sl 31 (.sl (.i .i64))),(7,.bx 96 [.fn 101 [.ptr 0 0,.ptr 5 0,.ptr 7 0]])]⟩,[20,19,1,0],[],16,true,""⟩),(8,⟨⟨[(72,.c (.i .i64))],[(0,.bx 100 [.ptr 1 0]),(1,.bx 134 [.c (.sl (.pr (.i .i64) (.pr (.i .u8) (.i .i64)))),.mw 2,.fw 3,.mw 4]),(2,.sl 31 (.sl (.i .i64))),(3,.fm 31 (.sl (.i .i64)) 0 3 (.i .i64)),(4,.sl 3 (.i .i64)),(7,.bx 96 [.fn 101 [.ptr 0 0,.ptr 5 0,.ptr 7 0]]),(5,.bx 103 [.mw 6]),(6,.sl 4 .b)]⟩,⟨[],[(0,.bx 100 [.ptr 1 0]),(1,.bx 134 [.c (.sl (.pr (.i .i64) (.pr (.i .u8) (.i .i64)))),.mw 2,.fw 3,.mw 4]),(2,.sl 31 (.sl (.i .i64))),(3,.fm 31 (.sl (.i .i64)) 0 3 (.i .i64)),(4,.sl 3 (.i .i64)),(7,.bx 96 [.fn 101 [.ptr 0 0,.ptr 5 0,.ptr 7 0]]),(5,.bx 103 [.mw 6]),(6,.sl 4 .b)]⟩,[71,9,21],[],16,true,""⟩)]) ((101,⟨ "",[],[],fun _=>none,[kdM k],[]⟩)::[]) (.cons (good_dm.more (kgr k)) <| .nil) (fun x=>by kernel_rfl)
def box_flow_give_c1_m0_M:CtrM:=⟨ "",[some (.i .i64),some (.i .i64),none,none,none],⟨[(2,.ptr 0 0),(3,.ptr 5 0),(4,.ptr 7 0)],[(0,.bx 100 [.ptr 1 0]),(1,.bx 134 [.c (.sl (.pr (.i .i64) (.pr (.i .u8) (.i .i64)))),.mw 2,.fw 3,.mw 4]),(2,.sl 31 (.sl (.i .i64))),(3,.fm 31 (.sl (.i .i64)) 0 3 (.i .i64)),(4,.sl 3 (.i .i64)),(5,.bx 103 [.mw 6]),(6,.sl 4 .b),(7,.bx 96 [.fn 101 [.ptr 0 0,.ptr 5 0,.ptr 7 0]])]⟩,8,⟨[(2,.ptr 0 0),(3,.ptr 5 0),(4,.ptr 7 0),(1000000,.c (.i .i64))],[(0,.bx 100 [.ptr 1 0]),(1,.bx 134 [.c (.sl (.pr (.i .i64) (.pr (.i .u8) (.i .i64)))),.mw 2,.fw 3,.mw 4]),(2,.sl 31 (.sl (.i .i64))),(3,.fm 31 (.sl (.i .i64)) 0 3 (.i .i64)),(4,.sl 3 (.i .i64)),(5,.bx 103 [.mw 6]),(6,.sl 4 .b),(7,.bx 96 [.fn 101 [.ptr 0 0,.ptr 5 0,.ptr 7 0]])]⟩,8,1,fun x=>kiw x.1 x.2.1 x.2.2.1 x.2.2.2.1 x.2.2.2.2.1 x.2.2.2.2.2.1 x.2.2.2.2.2.2,false⟩
theorem kkm:box_flow_give_c1_m0_M.ok=true/\GoodM Tryz.prog 101 box_flow_give_c1_m0_M:=kgr 1000000
def box_flow_give_c1_C:Ctr:=⟨ "",[],[],fun _=>none,[],[]⟩
theorem box_flow_give_c1_C_ok:Good Tryz.prog 101 box_flow_give_c1_C:=good_dm
def kit:Ctr:=⟨ "",box_flow_give_c1_C.as,box_flow_give_c1_C.rs,box_flow_give_c1_C.F,box_flow_give_c1_m0_M::box_flow_give_c1_C.mus,box_flow_give_c1_C.its⟩
theorem klu:Good Tryz.prog 101 kit:=(box_flow_give_c1_C_ok.more kkm)
def box_flow_give_m0_M:CtrM:=⟨ "",[none,some (.i .i64),some (.i .i64)],⟨[(0,.ptr 0 0)],[(0,.bx 134 [.c (.sl (.pr (.i .i64) (.pr (.i .u8) (.i .i64)))),.mw 1,.fw 2,.mw 3]),(1,.sl 31 (.sl (.i .i64))),(2,.fm 31 (.sl (.i .i64)) 0 3 (.i .i64)),(3,.sl 3 (.i .i64))]⟩,4,⟨[(0,.ptr 0 0),(1000000,.c (.i .i64))],[(0,.bx 134 [.c (.sl (.pr (.i .i64) (.pr (.i .u8) (.i .i64)))),.mw 1,.fw 2,.mw 3]),(1,.sl 31 (.sl (.i .i64))),(2,.fm 31 (.sl (.i .i64)) 0 3 (.i .i64)),(3,.sl 3 (.i .i64))]⟩,4,1,fun x=>khq x.1 x.2.1 x.2.2.1 x.2.2.2.1 x.2.2.2.2.1 x.2.2.2.2.2,false⟩
theorem kme:box_flow_give_m0_M.ok=true/\GoodM Tryz.prog 59 box_flow_give_m0_M:=
 kan Tryz.func59 (by kernel_rfl) (An:=[(0,⟨⟨[(9,.c (.i .i64)),(3,.ptr 4 0),(7,.ptr 6 0),(8,.ptr 7 0)],[(4,.bx 100 [.ptr 0 0]),(0,.bx 134 [.c (.sl (.pr (.i .i64) (.pr (.i .u8) (.i .i64)))),.mw 1,.fw 2,.mw 3]),(1,.sl 31 (.sl (.i .i64))),(2,.fm 31 (.sl (.i .i64)) 0 3 (.i .i64)),(3,.sl 3 (.i .i64)),(6,.bx 103 [.mw 5]),(5,.sl 4 .b),(7,.bx 96 [.fn 101 [.ptr 4 0,.ptr 6 0,.ptr 7 0]])]⟩,⟨[(9,.c (.i .i64))],[(0,.bx 134 [.c (.sl (.pr (.i .i64) (.pr (.i .u8) (.i .i64)))),.mw 1,.fw 2,.mw 3]),(1,.sl 31 (.sl (.i .i64))),(2,.fm 31 (.sl (.i .i64)) 0 3 (.i .i64)),(3,.sl 3 (.i .i64))]⟩,[2,1],[],12,false,""⟩)]) [(101,kit)] (.cons klu <| .nil) (fun x=>by kernel_rfl)
def box_flow_give_C:Ctr:=⟨ "",[],[],fun _=>none,[],[]⟩
theorem box_flow_give_C_ok:Good Tryz.prog 59 box_flow_give_C:=good_dm
def kht:Ctr:=⟨ "",box_flow_give_C.as,box_flow_give_C.rs,box_flow_give_C.F,box_flow_give_m0_M::box_flow_give_C.mus,box_flow_give_C.its⟩
theorem kiv:Good Tryz.prog 59 kht:=(box_flow_give_C_ok.more kme)
def kqY:Ctr:=⟨ "",[(.sl (.pr (.i .i64) (.pr (.i .u8) (.i .i64)))),(.sl (.pr (.i .i64) (.pr (.i .u8) (.i .i64)))),(.sl tSwap)],[kvU,(.i .i64)],fun x=>kvd x.1 x.2.1 x.2.2,[],[]⟩
theorem kta:Good Tryz.prog 19 kqY:=
 kad Tryz.func19 (by kernel_rfl) (An:=[(0,⟨⟨[(31,.c (.i .i64)),(10,.c (.i .i64))],[]⟩,⟨[(10,.c (.i .i64))],[]⟩,[30,29,8,11,6],[2,1,0],3,false,""⟩),(0,⟨⟨[(31,.c (.i .i64)),(8,.ptr 2 0),(10,.c (.i .i64)),(11,.mw 6)],[(2,.bx 134 [.c (.sl (.pr (.i .i64) (.pr (.i .u8) (.i .i64)))),.mw 3,.fw 4,.mw 5]),(3,.sl 31 (.sl (.i .i64))),(4,.fm 31 (.sl (.i .i64)) 0 3 (.i .i64)),(5,.sl 3 (.i .i64)),(6,.sl 4 .b)]⟩,⟨[(10,.c (.i .i64)),(8,.ptr 7 0),(11,.mw 11)],[(7,.bx 134 [.c (.sl (.pr (.i .i64) (.pr (.i .u8) (.i .i64)))),.mw 8,.fw 9,.mw 10]),(8,.sl 31 (.sl (.i .i64))),(9,.fm 31 (.sl (.i .i64)) 0 3 (.i .i64)),(10,.sl 3 (.i .i64)),(11,.sl 4 .b)]⟩,[30,29,6],[1,0],12,false,""⟩)]) [(60,kjG),(58,kkz),(59,kht)] (.cons kmj <| .cons kkX <| .cons kiv <| .nil) (fun x=>by kernel_rfl)
def knR:Ctr:=⟨ "",[(.pr (.i .i64) (.pr (.i .u8) (.i .i64)))],[.b],fun x=>kmF x,[],[]⟩
theorem kqG:Good Tryz.prog 65 knR:=
 kad Tryz.func65 (by kernel_rfl) (An:=[]) [(66,kga)] (.cons keT <| .nil) (fun x=>by kernel_rfl)
def kgt:Ctr:=⟨ "",[(.sl (.pr (.i .i64) (.pr (.i .u8) (.i .i64)))),(.i .i64),(.fn 1 (.pr (.i .i64) (.pr (.i .u8) (.i .i64))) (.pr (.i .i64) (.i .u8)))],[.b],fun x=>keo x.1 x.2.1 x.2.2,[],[]⟩
theorem kjz:Good Tryz.prog 67 kgt:=
 kad Tryz.func67 (by kernel_rfl) (An:=[(0,⟨⟨[(11,.c (.i .i64))],[]⟩,⟨[],[]⟩,[10,9,2,0,1],[],0,true,""⟩)]) [(103,kgO),(96,keF)] (.cons kgg <| .cons kfp <| .nil) (fun x=>by kernel_rfl)
def knh:Ctr:=⟨ "",[(.pr (.i .i64) (.pr (.i .u8) (.i .i64)))],[(.pr (.i .i64) (.i .u8))],fun x=>kdR x,[],[]⟩
theorem kqs:Good Tryz.prog 68 knh:=
 kad Tryz.func68 (by kernel_rfl) (An:=[]) [] (.nil) (fun x=>by kernel_rfl)
def kbP:Ctr:=⟨ "",[(.sl (.pr (.i .i64) (.pr (.i .u8) (.i .i64)))),(.fn 1 (.pr (.i .i64) (.pr (.i .u8) (.i .i64))) .b)],[(.i .i64)],fun x=>kbZ x.1 x.2,[],[]⟩
theorem keb:Good Tryz.prog 104 kbP:=
 kad Tryz.func104 (by kernel_rfl) (An:=[(0,⟨⟨[(8,.c (.i .i64))],[]⟩,⟨[],[]⟩,[7,1,0],[],0,true,""⟩)]) [] (.nil) (fun x=>by kernel_rfl)
def kbB:Ctr:=⟨ "",[(.sl (.pr (.i .i64) (.pr (.i .u8) (.i .i64)))),(.fn 1 (.pr (.i .i64) (.pr (.i .u8) (.i .i64))) .b)],[.b],fun x=>kaO x.1 x.2,[],[]⟩
theorem kdo:Good Tryz.prog 69 kbB:=
 kad Tryz.func69 (by kernel_rfl) (An:=[]) [(104,kbP)] (.cons keb <| .nil) (fun x=>by kernel_rfl)
def knU:Ctr:=⟨ "",[tLine,tLine],[(.i .i64)],fun x=>kmD x.1 x.2,[],[]⟩
theorem krb:Good Tryz.prog 73 knU:=
 kad Tryz.func73 (by kernel_rfl) (An:=[]) [] (.nil) (fun x=>by kernel_rfl)
def slices_insertionSortCmpFunc_box_line_m0_M:CtrM:=⟨ "",[none,some (.i .i64),some (.i .i64),some (.fn 2 (.pr tLine tLine) (.i .i64))],⟨[(0,.mw 0)],[(0,.sl 121 tLine)]⟩,1,⟨[(0,.mw 0)],[(0,.sl 121 tLine)]⟩,1,0,fun x=>kaT x.1 x.2.1 x.2.2.1 x.2.2.2,false⟩
theorem kdV:slices_insertionSortCmpFunc_box_line_m0_M.ok=true/\GoodM Tryz.prog 123 slices_insertionSortCmpFunc_box_line_m0_M:=
 kan Tryz.func123 (by kernel_rfl) (An:=[(0,⟨⟨[(8,.c (.i .i64))],[(0,.sl 121 tLine)]⟩,⟨[],[(0,.sl 121 tLine)]⟩,[2,1,3],[],2,false,""⟩),(8,⟨⟨[(9,.c (.i .i64))],[(0,.sl 121 tLine)]⟩,⟨[],[(0,.sl 121 tLine)]⟩,[8],[],2,false,""⟩)]) [] (.nil) (fun x=>by kernel_rfl)
def slices_insertionSortCmpFunc_box_line_C:Ctr:=⟨ "",[],[],fun _=>none,[],[]⟩
theorem slices_insertionSortCmpFunc_box_line_C_ok:Good Tryz.prog 123 slices_insertionSortCmpFunc_box_line_C:=good_dm
def kbT:Ctr:=⟨ "",slices_insertionSortCmpFunc_box_line_C.as,slices_insertionSortCmpFunc_box_line_C.rs,slices_insertionSortCmpFunc_box_line_C.F,slices_insertionSortCmpFunc_box_line_m0_M::slices_insertionSortCmpFunc_box_line_C.mus,slices_insertionSortCmpFunc_box_line_C.its⟩
theorem kek:Good Tryz.prog 123 kbT:=(slices_insertionSortCmpFunc_box_line_C_ok.more kdV)
def slices_swapRangeCmpFunc_box_line_m0_M:CtrM:=⟨ "",[none,some (.i .i64),some (.i .i64),some (.i .i64),some (.fn 2 (.pr tLine tLine) (.i .i64))],⟨[(0,.mw 0)],[(0,.sl 121 tLine)]⟩,1,⟨[(0,.mw 0)],[(0,.sl 121 tLine)]⟩,1,0,fun x=>kaL x.1 x.2.1 x.2.2.1 x.2.2.2.1 x.2.2.2.2,false⟩
theorem keK:slices_swapRangeCmpFunc_box_line_m0_M.ok=true/\GoodM Tryz.prog 137 slices_swapRangeCmpFunc_box_line_m0_M:=
 kan Tryz.func137 (by kernel_rfl) (An:=[(0,⟨⟨[(10,.c (.i .i64))],[(0,.sl 121 tLine)]⟩,⟨[],[(0,.sl 121 tLine)]⟩,[3,1,2],[],2,false,""⟩)]) [] (.nil) (fun x=>by kernel_rfl)
def slices_swapRangeCmpFunc_box_line_C:Ctr:=⟨ "",[],[],fun _=>none,[],[]⟩
theorem slices_swapRangeCmpFunc_box_line_C_ok:Good Tryz.prog 137 slices_swapRangeCmpFunc_box_line_C:=good_dm
def kcq:Ctr:=⟨ "",slices_swapRangeCmpFunc_box_line_C.as,slices_swapRangeCmpFunc_box_line_C.rs,slices_swapRangeCmpFunc_box_line_C.F,slices_swapRangeCmpFunc_box_line_m0_M::slices_swapRangeCmpFunc_box_line_C.mus,slices_swapRangeCmpFunc_box_line_C.its⟩
theorem kfg:Good Tryz.prog 137 kcq:=(slices_swapRangeCmpFunc_box_line_C_ok.more keK)
def slices_rotateCmpFunc_box_line_m0_M:CtrM:=⟨ "",[none,some (.i .i64),some (.i .i64),some (.i .i64),some (.fn 2 (.pr tLine tLine) (.i .i64))],⟨[(0,.mw 0)],[(0,.sl 121 tLine)]⟩,1,⟨[(0,.mw 0)],[(0,.sl 121 tLine)]⟩,1,0,fun x=>kcZ x.1 x.2.1 x.2.2.1 x.2.2.2.1 x.2.2.2.2,false⟩
theorem kft:slices_rotateCmpFunc_box_line_m0_M.ok=true/\GoodM Tryz.prog 133 slices_rotateCmpFunc_box_line_m0_M:=
 kan Tryz.func133 (by kernel_rfl) (An:=[(0,⟨⟨[(10,.c (.i .i64)),(11,.c (.i .i64))],[(0,.sl 121 tLine)]⟩,⟨[(10,.c (.i .i64))],[(0,.sl 121 tLine)]⟩,[2,4],[],2,false,""⟩)]) [(137,kcq)] (.cons kfg <| .nil) (fun x=>by kernel_rfl)
def slices_rotateCmpFunc_box_line_C:Ctr:=⟨ "",[],[],fun _=>none,[],[]⟩
theorem slices_rotateCmpFunc_box_line_C_ok:Good Tryz.prog 133 slices_rotateCmpFunc_box_line_C:=good_dm
def kcW:Ctr:=⟨ "",slices_rotateCmpFunc_box_line_C.as,slices_rotateCmpFunc_box_line_C.rs,slices_rotateCmpFunc_box_line_C.F,slices_rotateCmpFunc_box_line_m0_M::slices_rotateCmpFunc_box_line_C.mus,slices_rotateCmpFunc_box_line_C.its⟩
theorem kgh:Good Tryz.prog 133 kcW:=(slices_rotateCmpFunc_box_line_C_ok.more kft)
def kba (k:Nat):CtrM:=⟨ "",[none,some (.i .i64),some (.i .i64),some (.i .i64),some (.fn 2 (.pr tLine tLine) (.i .i64))],⟨[(0,.mw 0)],[(0,.sl 121 tLine)]⟩,1,⟨[(0,.mw 0)],[(0,.sl 121 tLine)]⟩,1,0,fun x=>kbg k x.1 x.2.1 x.2.2.1 x.2.2.2.1 x.2.2.2.2,false⟩
theorem kbX:∀ k,(kba k).ok=true/\GoodM Tryz.prog 124 (kba k)
 | 0=>kjV (by kernel_rfl) (fun x=>rfl)
 | k+1=>kan Tryz.func124 (by kernel_rfl) (An:=[(0,⟨⟨[(10,.c (.i .i64)),(11,.c (.i .i64))],[]⟩,⟨[(10,.c (.i .i64))],[]⟩,[4,1],[0],1,false,""⟩),(8,⟨⟨[(13,.c (.i .i64))],[(0,.sl 121 tLine)]⟩,⟨[],[(0,.sl 121 tLine)]⟩,[10],[],2,false,""⟩),(16,⟨⟨[(14,.c (.i .i64)),(15,.c (.i .i64))],[]⟩,⟨[(14,.c (.i .i64))],[]⟩,[4,2],[0],1,false,""⟩),(24,⟨⟨[(17,.c (.i .i64))],[(0,.sl 121 tLine)]⟩,⟨[],[(0,.sl 121 tLine)]⟩,[14],[],2,false,""⟩),(561,⟨⟨[],[]⟩,⟨[(20,.c (.i .i64)),(21,.c (.i .i64))],[]⟩,[19,3,18,4,2,1],[0],1,false,""⟩),(32,⟨⟨[(20,.c (.i .i64)),(21,.c (.i .i64))],[]⟩,⟨[(20,.c (.i .i64))],[]⟩,[4,22,19,2,1,18,3],[0],1,false,""⟩),(158,⟨⟨[],[]⟩,⟨[(185,.c .b)],[]⟩,[20,2,24,4,1,18,3],[0],1,false,""⟩),(741,⟨⟨[],[(0,.sl 121 tLine)]⟩,⟨[],[(0,.sl 121 tLine)]⟩,[20,2,24,4,1,18,3],[],2,false,""⟩),(166,⟨⟨[],[]⟩,⟨[(199,.c .b)],[]⟩,[1,20,18,4,24,3],[0],2,false,""⟩),(797,⟨⟨[],[(0,.sl 121 tLine)]⟩,⟨[],[(0,.sl 121 tLine)]⟩,[1,20,18,4,24,3],[],3,false,""⟩)]) ((124,⟨ "",[],[],fun _=>none,[kba k],[]⟩)::[(133,kcW)]) (.cons (good_dm.more (kbX k)) <| .cons kgh <| .nil) (fun x=>by kernel_rfl)
def slices_symMergeCmpFunc_box_line_m0_M:CtrM:=⟨ "",[none,some (.i .i64),some (.i .i64),some (.i .i64),some (.fn 2 (.pr tLine tLine) (.i .i64))],⟨[(0,.mw 0)],[(0,.sl 121 tLine)]⟩,1,⟨[(0,.mw 0)],[(0,.sl 121 tLine)]⟩,1,0,fun x=>kbp x.1 x.2.1 x.2.2.1 x.2.2.2.1 x.2.2.2.2,false⟩
theorem keS:slices_symMergeCmpFunc_box_line_m0_M.ok=true/\GoodM Tryz.prog 124 slices_symMergeCmpFunc_box_line_m0_M:=kbX 1000000
def slices_symMergeCmpFunc_box_line_C:Ctr:=⟨ "",[],[],fun _=>none,[],[]⟩
theorem slices_symMergeCmpFunc_box_line_C_ok:Good Tryz.prog 124 slices_symMergeCmpFunc_box_line_C:=good_dm
def kcA:Ctr:=⟨ "",slices_symMergeCmpFunc_box_line_C.as,slices_symMergeCmpFunc_box_line_C.rs,slices_symMergeCmpFunc_box_line_C.F,slices_symMergeCmpFunc_box_line_m0_M::slices_symMergeCmpFunc_box_line_C.mus,slices_symMergeCmpFunc_box_line_C.its⟩
theorem kfD:Good Tryz.prog 124 kcA:=(slices_symMergeCmpFunc_box_line_C_ok.more keS)
def slices_stableCmpFunc_box_line_m0_M:CtrM:=⟨ "",[none,some (.i .i64),some (.fn 2 (.pr tLine tLine) (.i .i64))],⟨[(0,.mw 0)],[(0,.sl 121 tLine)]⟩,1,⟨[(0,.mw 0)],[(0,.sl 121 tLine)]⟩,1,0,fun x=>kcY x.1 x.2.1 x.2.2,false⟩
theorem kfz:slices_stableCmpFunc_box_line_m0_M.ok=true/\GoodM Tryz.prog 106 slices_stableCmpFunc_box_line_m0_M:=
 kan Tryz.func106 (by kernel_rfl) (An:=[(0,⟨⟨[(8,.c (.i .i64)),(7,.c (.i .i64))],[(0,.sl 121 tLine)]⟩,⟨[(7,.c (.i .i64))],[(0,.sl 121 tLine)]⟩,[1,2,6],[],2,false,""⟩),(8,⟨⟨[(6,.c (.i .i64))],[(0,.sl 121 tLine)]⟩,⟨[],[(0,.sl 121 tLine)]⟩,[1,2],[],3,false,""⟩),(16,⟨⟨[(8,.c (.i .i64)),(7,.c (.i .i64))],[(0,.sl 121 tLine)]⟩,⟨[(7,.c (.i .i64))],[(0,.sl 121 tLine)]⟩,[6],[],3,false,""⟩)]) [(124,kcA),(123,kbT)] (.cons kfD <| .cons kek <| .nil) (fun x=>by kernel_rfl)
def slices_stableCmpFunc_box_line_C:Ctr:=⟨ "",[],[],fun _=>none,[],[]⟩
theorem slices_stableCmpFunc_box_line_C_ok:Good Tryz.prog 106 slices_stableCmpFunc_box_line_C:=good_dm
def kdd:Ctr:=⟨ "",slices_stableCmpFunc_box_line_C.as,slices_stableCmpFunc_box_line_C.rs,slices_stableCmpFunc_box_line_C.F,slices_stableCmpFunc_box_line_m0_M::slices_stableCmpFunc_box_line_C.mus,slices_stableCmpFunc_box_line_C.its⟩
theorem kgf:Good Tryz.prog 106 kdd:=(slices_stableCmpFunc_box_line_C_ok.more kfz)
def slices_SortStableFunc_s_box_line_box_line_m0_M:CtrM:=⟨ "",[none,some (.fn 2 (.pr tLine tLine) (.i .i64))],⟨[(0,.mw 0)],[(0,.sl 121 tLine)]⟩,1,⟨[(0,.mw 0)],[(0,.sl 121 tLine)]⟩,1,0,fun x=>kaJ x.1 x.2,false⟩
theorem kcO:slices_SortStableFunc_s_box_line_box_line_m0_M.ok=true/\GoodM Tryz.prog 72 slices_SortStableFunc_s_box_line_box_line_m0_M:=
 kan Tryz.func72 (by kernel_rfl) (An:=[]) [(106,kdd)] (.cons kgf <| .nil) (fun x=>by kernel_rfl)
def slices_SortStableFunc_s_box_line_box_line_C:Ctr:=⟨ "",[],[],fun _=>none,[],[]⟩
theorem slices_SortStableFunc_s_box_line_box_line_C_ok:Good Tryz.prog 72 slices_SortStableFunc_s_box_line_box_line_C:=good_dm
def kbu:Ctr:=⟨ "",slices_SortStableFunc_s_box_line_box_line_C.as,slices_SortStableFunc_s_box_line_box_line_C.rs,slices_SortStableFunc_s_box_line_box_line_C.F,slices_SortStableFunc_s_box_line_box_line_m0_M::slices_SortStableFunc_s_box_line_box_line_C.mus,slices_SortStableFunc_s_box_line_box_line_C.its⟩
theorem kcX:Good Tryz.prog 72 kbu:=(slices_SortStableFunc_s_box_line_box_line_C_ok.more kcO)
def box_cheapest_c1_m0_M:CtrM:=⟨ "",[some (.pr (.i .i64) (.i .u8)),none,none,none,none],⟨[(1,.ptr 0 0),(2,.ptr 2 0),(3,.ptr 3 0),(4,.ptr 4 0)],[(0,.bx 113 [.mp 1]),(1,.mp (.pr (.i .i64) (.i .u8)) (.i .i64)),(2,.bx 4 [.c .b]),(3,.bx 3 [.c (.i .i64)]),(4,.bx 115 [.c (.i .i64),.c (.i .u8)])]⟩,5,⟨[(1,.ptr 0 0),(2,.ptr 2 0),(3,.ptr 3 0),(4,.ptr 4 0)],[(0,.bx 113 [.mp 1]),(1,.mp (.pr (.i .i64) (.i .u8)) (.i .i64)),(2,.bx 4 [.c .b]),(3,.bx 3 [.c (.i .i64)]),(4,.bx 115 [.c (.i .i64),.c (.i .u8)])]⟩,5,0,fun x=>kfY x.1 x.2.1 x.2.2.1 x.2.2.2.1 x.2.2.2.2.1 x.2.2.2.2.2,false⟩
theorem kkS:box_cheapest_c1_m0_M.ok=true/\GoodM Tryz.prog 105 box_cheapest_c1_m0_M:=
 kan Tryz.func105 (by kernel_rfl) (An:=[]) [(103,kgO)] (.cons kgg <| .nil) (fun x=>by kernel_rfl)
def box_cheapest_c1_C:Ctr:=⟨ "",[],[],fun _=>none,[],[]⟩
theorem box_cheapest_c1_C_ok:Good Tryz.prog 105 box_cheapest_c1_C:=good_dm
def kis:Ctr:=⟨ "",box_cheapest_c1_C.as,box_cheapest_c1_C.rs,box_cheapest_c1_C.F,box_cheapest_c1_m0_M::box_cheapest_c1_C.mus,box_cheapest_c1_C.its⟩
theorem klq:Good Tryz.prog 105 kis:=(box_cheapest_c1_C_ok.more kkS)
def box_cheapest_m0_M:CtrM:=⟨ "",[some (.sl tSwap),none,some (.pr (.i .i64) (.i .u8))],⟨[(1,.mp 0)],[(0,.mp (.pr (.i .i64) (.i .u8)) (.i .i64))]⟩,1,⟨[(1,.mp 0),(1000000,.c (.i .i64)),(1000001,.ag [.c (.i .i64),.c (.i .u8)]),(1000002,.c .b)],[(0,.mp (.pr (.i .i64) (.i .u8)) (.i .i64))]⟩,1,3,fun x=>kie x.1 x.2.1 x.2.2,false⟩
theorem kmr:box_cheapest_m0_M.ok=true/\GoodM Tryz.prog 70 box_cheapest_m0_M:=
 kan Tryz.func70 (by kernel_rfl) (An:=[(0,⟨⟨[(22,.c (.i .i64)),(12,.fn 105 [.ptr 1 0,.ptr 6 0,.ptr 4 0,.ptr 5 0]),(9,.ptr 4 0),(10,.ptr 5 0),(11,.ptr 6 0)],[(1,.bx 113 [.mp 0]),(0,.mp (.pr (.i .i64) (.i .u8)) (.i .i64)),(6,.bx 4 [.c .b]),(4,.bx 3 [.c (.i .i64)]),(5,.bx 115 [.c (.i .i64),.c (.i .u8)])]⟩,⟨[(9,.ptr 7 0),(10,.ptr 8 0),(11,.ptr 9 0)],[(7,.bx 3 [.c (.i .i64)]),(8,.bx 115 [.c (.i .i64),.c (.i .u8)]),(9,.bx 4 [.c .b]),(0,.mp (.pr (.i .i64) (.i .u8)) (.i .i64))]⟩,[21,20,5,7],[2,3],11,false,""⟩)]) [(105,kis)] (.cons klq <| .nil) (fun x=>by kernel_rfl)
def box_cheapest_C:Ctr:=⟨ "",[],[],fun _=>none,[],[]⟩
theorem box_cheapest_C_ok:Good Tryz.prog 70 box_cheapest_C:=good_dm
def kkM:Ctr:=⟨ "",box_cheapest_C.as,box_cheapest_C.rs,box_cheapest_C.F,box_cheapest_m0_M::box_cheapest_C.mus,box_cheapest_C.its⟩
theorem knq:Good Tryz.prog 70 kkM:=(box_cheapest_C_ok.more kmr)
def ksE:Ctr:=⟨ "",[(.sl (.pr (.i .i64) (.pr (.i .u8) (.i .i64)))),(.sl (.pr (.i .i64) (.pr (.i .u8) (.i .i64)))),(.sl tSwap),(.sl (.pr (.i .i64) (.pr (.i .u8) (.i .i64))))],[tBill,(.i .i64)],fun x=>kwl x.1 x.2.1 x.2.2.1 x.2.2.2,[],[]⟩
theorem ktk:Good Tryz.prog 23 ksE:=
 kad Tryz.func23 (by kernel_rfl) (An:=[(4,⟨⟨[(55,.c (.i .i64)),(13,.mp 3)],[(3,.mp (.pr (.i .i64) (.i .u8)) (.i .i64))]⟩,⟨[(13,.mp 4)],[(4,.mp (.pr (.i .i64) (.i .u8)) (.i .i64))]⟩,[54,53,1,2,10,8,3],[2,0,1],5,false,""⟩),(12,⟨⟨[(67,.c (.i .i64)),(13,.mp 4),(16,.mw 5)],[(4,.mp (.pr (.i .i64) (.i .u8)) (.i .i64)),(5,.sl 121 tLine)]⟩,⟨[(16,.mw 6)],[(6,.sl 121 tLine)]⟩,[66,65,2,1,10,8,3],[2,0,1],7,false,""⟩),(20,⟨⟨[(101,.c (.i .i64))],[]⟩,⟨[],[]⟩,[100,99,10,22,8,23,3],[6,12,7,9,2,0,1,13],14,true,""⟩),(28,⟨⟨[(152,.c (.i .i64)),(8,.ptr 2 0),(22,.ptr 12 0)],[(2,.bx 43 [.mw 0,.mw 1,.c (.i .i64)]),(12,.bx 43 [.mw 7,.mw 9,.c (.i .i64)]),(9,.sl 50 (.pr (.i .i64) (.pr (.i .u8) (.i .i64))))]⟩,⟨[(22,.ptr 14 0),(8,.ptr 16 0)],[(14,.bx 43 [.mw 7,.mw 15,.c (.i .i64)]),(15,.sl 50 (.pr (.i .i64) (.pr (.i .u8) (.i .i64)))),(16,.bx 43 [.mw 0,.mw 1,.c (.i .i64)])]⟩,[151,150,23],[13,0,1,7],17,true,""⟩),(4,⟨⟨[(55,.c (.i .i64)),(13,.mp 7)],[(7,.mp (.pr (.i .i64) (.i .u8)) (.i .i64))]⟩,⟨[(13,.mp 8)],[(8,.mp (.pr (.i .i64) (.i .u8)) (.i .i64))]⟩,[54,53,1,2,10,8,3],[3,4,5,6,2,0,1],9,false,""⟩),(12,⟨⟨[(67,.c (.i .i64)),(13,.mp 8),(16,.mw 9)],[(8,.mp (.pr (.i .i64) (.i .u8)) (.i .i64)),(9,.sl 121 tLine)]⟩,⟨[(16,.mw 10)],[(10,.sl 121 tLine)]⟩,[66,65,2,1,10,8,3],[3,4,5,6,2,0,1],11,false,""⟩),(20,⟨⟨[(101,.c (.i .i64)),(10,.ptr 3 0),(22,.ptr 16 0),(8,.ptr 2 0),(23,.mp 17)],[(3,.bx 134 [.c (.sl (.pr (.i .i64) (.pr (.i .u8) (.i .i64)))),.mw 4,.fw 5,.mw 6]),(4,.sl 31 (.sl (.i .i64))),(5,.fm 31 (.sl (.i .i64)) 0 3 (.i .i64)),(6,.sl 3 (.i .i64)),(16,.bx 43 [.mw 11,.mw 13,.c (.i .i64)]),(11,.sl 3 (.i .i64)),(2,.bx 43 [.mw 0,.mw 1,.c (.i .i64)]),(17,.mp (.pr (.i .i64) (.i .u8)) (.i .i64))]⟩,⟨[(23,.mp 18),(8,.ptr 19 0),(22,.ptr 20 0)],[(18,.mp (.pr (.i .i64) (.i .u8)) (.i .i64)),(19,.bx 43 [.mw 0,.mw 1,.c (.i .i64)]),(20,.bx 43 [.mw 21,.mw 13,.c (.i .i64)]),(21,.sl 3 (.i .i64))]⟩,[100,99,3],[10,13,0,1],22,true,""⟩),(114,⟨⟨[],[]⟩,⟨[(125,.c .b)],[]⟩,[26,25,8,22,23,101,10],[18,2,16,11,17,3,4,5,6],19,false,""⟩),(28,⟨⟨[(152,.c (.i .i64)),(8,.ptr 19 0),(22,.ptr 20 0)],[(19,.bx 43 [.mw 0,.mw 1,.c (.i .i64)]),(20,.bx 43 [.mw 21,.mw 13,.c (.i .i64)]),(13,.sl 50 (.pr (.i .i64) (.pr (.i .u8) (.i .i64))))]⟩,⟨[(22,.ptr 22 0),(8,.ptr 24 0)],[(22,.bx 43 [.mw 21,.mw 23,.c (.i .i64)]),(23,.sl 50 (.pr (.i .i64) (.pr (.i .u8) (.i .i64)))),(24,.bx 43 [.mw 0,.mw 1,.c (.i .i64)])]⟩,[151,150,23],[18,0,1,21],25,true,""⟩)]) [(58,kkz),(70,kkM),(72,kbu),(73,knU),(69,kbB),(68,knh),(67,kgt),(65,knR),(59,kht),(71,kes)] (.cons kkX <| .cons knq <| .cons kcX <| .cons krb <| .cons kdo <| .cons kqs <| .cons kjz <| .cons kqG <| .cons kiv <| .cons kdG <| .nil) (fun x=>by kernel_rfl)
def kmU:Ctr:=⟨ "",[],[(.sl (.sl (.pr (.i .i64) (.pr (.i .u8) (.i .i64)))))],fun x=>law08_plans,[],[]⟩
theorem kqc:Good Tryz.prog 46 kmU:=
 kad Tryz.func46 (by kernel_rfl) (An:=[]) [(43,kio)] (.cons khO <| .nil) (fun x=>by kernel_rfl)
def kkD:Ctr:=⟨ "",[(.i .i64)],[.b],fun x=>kgo x,[],[]⟩
theorem kns:Good Tryz.prog 107 kkD:=
 kad Tryz.func107 (by kernel_rfl) (An:=[]) [(66,kga)] (.cons keT <| .nil) (fun x=>by kernel_rfl)
def kce:Ctr:=⟨ "",[(.sl (.i .i64)),(.fn 1 (.i .i64) .b)],[(.i .i64)],fun x=>kaU x.1 x.2,[],[]⟩
theorem kdk:Good Tryz.prog 86 kce:=
 kad Tryz.func86 (by kernel_rfl) (An:=[(0,⟨⟨[(8,.c (.i .i64))],[]⟩,⟨[],[]⟩,[7,1,0],[],0,true,""⟩)]) [] (.nil) (fun x=>by kernel_rfl)
def kdm:Ctr:=⟨ "",[(.sl (.i .i64)),(.fn 1 (.i .i64) .b)],[.b],fun x=>kbc x.1 x.2,[],[]⟩
theorem kgv:Good Tryz.prog 108 kdm:=
 kad Tryz.func108 (by kernel_rfl) (An:=[]) [(86,kce)] (.cons kdk <| .nil) (fun x=>by kernel_rfl)
def kjA:Ctr:=⟨ "",[(.sl (.sl (.pr (.i .i64) (.pr (.i .u8) (.i .i64))))),(.sl (.i .i64))],[(.i .i64)],fun x=>kgN x.1 x.2,[],[]⟩
theorem kkA:Good Tryz.prog 74 kjA:=
 kad Tryz.func74 (by kernel_rfl) (An:=[]) [(108,kdm),(107,kkD),(50,kbR)] (.cons kgv <| .cons kns <| .cons kbD <| .nil) (fun x=>by kernel_rfl)
def kmV:Ctr:=⟨ "",[(.i .i64),(.i .i64)],[(.i .i64)],fun x=>kiU x.1 x.2,[],[]⟩
theorem kpU:Good Tryz.prog 53 kmV:=
 kad Tryz.func53 (by kernel_rfl) (An:=[]) [] (.nil) (fun x=>by kernel_rfl)
def kne:Ctr:=⟨ "",[(.pr (.i .i64) (.pr (.i .u8) (.i .i64)))],[.b],fun x=>klo x,[],[]⟩
theorem kqn:Good Tryz.prog 55 kne:=
 kad Tryz.func55 (by kernel_rfl) (An:=[]) [] (.nil) (fun x=>by kernel_rfl)
def kwL:Ctr:=⟨ "",[(.sl (.pr (.i .i64) (.pr (.i .u8) (.i .i64)))),(.sl (.pr (.i .i64) (.pr (.i .u8) (.i .i64))))],[(.sl (.pr (.i .i64) (.pr (.i .u8) (.i .i64)))),(.i .i64)],fun x=>kfM x.1 x.2,[],[]⟩
theorem box_Take_C_ok:Good Tryz.prog 17 kwL:=
 kad Tryz.func17 (by kernel_rfl) (An:=[]) [(55,kne),(53,kmV),(51,kki),(50,kbR),(54,kaN)] (.cons kqn <| .cons kpU <| .cons kkU <| .cons kbD <| .cons kbw <| .nil) (fun x=>by kernel_rfl)
def kcE:Ctr:=⟨ "",[(.sl (.pr (.i .i64) (.pr (.i .u8) (.i .i64))))],[(.sl (.pr (.i .i64) (.pr (.i .u8) (.i .i64))))],fun x=>kam x,[],[]⟩
theorem slices_Clone_s_api_Item_api_Item_C_ok:Good Tryz.prog 80 kcE:=
 kad Tryz.func80 (by kernel_rfl) (An:=[]) [] (.nil) (fun x=>by kernel_rfl)
def growT:Ty:=.sl (.pr (.i .i64) (.pr (.i .u8) (.i .i64)))
abbrev GrowL:=List (Int×Int×Int)
def growA (x:GrowL):AV:=growT.av x
def growE (x:GrowL):List AV:=growT.enc x
def growY (y:Int×GrowL):List AV:=[.sc (.int .i64 y.1),growA y.2]
def growG (l:Nat) (A:AV):Nat->AV
 | 0=>.fn 110 [A,.fp [.sc (.func (.yield l) #[] #[])],.un]
 | d+1=>.fn 110 [A,.fp [.sc (.func (.yield l) #[] #[])],.fp [growG l A d]]
theorem kxu {l:Nat} {A:AV}:∀ d,(growG l A d).one=true
 | 0=>rfl
 | _+1=>rfl
theorem kqw {l:Nat} {A:AV} (hA:Free A):∀ d,Free (growG l A d)
 | 0=>by
  simp only [growG,khu,kbA,kiC,ksb,kfR,and_true,true_and]
  exact ⟨hA,.un⟩
 | d+1=>by
  have:=kqw (l:=l) hA d
  simp only [growG,khu,kbA,kiC,ksb,kfR,and_true,true_and]
  exact ⟨hA,this⟩
theorem khZ (x:GrowL):Free (growA x):=khv growT x rfl
theorem kxW {l p:GrowL} {r:GrowL×Int} (h:kfM l p=some r):PC Tryz.prog 17 [growA l,growA p] (·= .tp [growA r.1,.sc (.int .i64 r.2)]):=
 box_Take_C_ok.2.1 (l,p) r h _ ⟨_,_,rfl,(kcC rfl).2 rfl,_,rfl,(kcC rfl).2 rfl⟩
theorem kpw (ps:List GrowL):Free (.sl (ps.map growE)):=khv (.sl growT) ps rfl
theorem krB (l:Nat) (ps:List GrowL):∀ (d:Nat) (i s:Int) (x:GrowL) (ls:List (Int×GrowL)),kaI d ps i s x=some ls->
  YV Tryz.prog l (growG l (.fp [.sl (ps.map growE)]) d) [.sc (.int .i64 i),.sc (.int .i64 s),growA x] (ls.map growY)
 | 0,i,s,x,ls,h=>by cases h
 | d+1,i,s,x,ls,h=>by
  refine YV.of_body (fn:=Tryz.f110) (rd:=9) Tryz.func110 rfl (by kernel_rfl) (by show 6<=49; omega) (by show 49<=9000000; omega) rfl fun D G O k hD hl ok hx=>?_
  subst hl
  have hg:=kqw (l:=G.l) (A:=.fp [.sl (ps.map growE)]) (by simpa using kpw ps) d
  have hfree:=khZ x
  let I:AV:=.sc (.int .i64 i)
  let S:AV:=.sc (.int .i64 s)
  let X:=growA x
  let A:AV:=.fp [.sl (ps.map growE)]
  let R:AV:=.fp [growG G.l A d]
  refine Sat.ofL ?_
  refine SatL.seq (SatL.rreg rfl ⟨.sc (.bool false),.assign rfl rfl,?_⟩)
  refine SatL.seq (SatL.seq (SatL.rreg rfl ⟨I,.move rfl rfl,_,.load rfl rfl (by kernel_rfl),_,.len rfl rfl rfl rfl rfl (by kernel_rfl),_,.bin rfl rfl rfl (fun K hk=>⟨rfl,hk⟩),?_⟩))
  refine SatL.condX (v:=i==(ps.map growE).length) rfl (fun e=>?_) fun e=>SatL.skip ?_
  ·have hi:i=lenI ps:=by simpa [lenI] using e
   obtain rfl:[(s,x)]=ls:=Option.some.inj ((if_pos hi).symm.trans h)
   refine SatL.seq (SatL.yreg 3 rfl hD ok rfl ⟨_,.load rfl rfl (by kernel_rfl),S,.move rfl rfl,X,.move rfl rfl,YieldK.of [] (z:=ah0) (es:=List.replicate k []) (avs:=[.sc (.int .i64 s),growA x]) (.inl rfl) rfl rfl .yield rfl (by simpa [growY] using hx) (fun q B h=>by cases h) (Snap.V (.free _ (.sc _))) (SnapL.free (show FreeL [S,X] by simp [S,X,hfree])) (fun t ht=>by cases ht) (aopsR.plain ⟨.sc (.bool true),.assign rfl rfl,?_⟩) (aopsR.plain ⟨.sc (.bool false),.assign rfl rfl,?_⟩)⟩)
   ·exact SatL.ret ⟨.inr rfl,.inl ⟨_,rfl,by simp,rfl⟩⟩
   ·exact SatL.ret ⟨.inr rfl,.inr ⟨rfl,rfl⟩⟩
  have hi:¬ i=lenI ps:=by simpa [lenI] using e
  replace h:=(if_neg hi).symm.trans h
  obtain ⟨p,hp,h⟩:=jaa.1 h
  obtain ⟨r,hr,h⟩:=jaa.1 h
  obtain ⟨h0,hp⟩:=koe hp
  let Z:=growA r.1
  let E:AV:=.sc (.int .i64 r.2)
  refine SatL.seq (SatL.seq (SatL.rreg rfl ⟨X,.move rfl rfl,_,.load rfl rfl (by kernel_rfl),I,.move rfl rfl,_,.idx (e:=22) (c:=growE p) rfl rfl rfl (by kernel_rfl) h0 (by simp; exact ⟨p,hp,rfl⟩) (by kernel_rfl) (by simp [growE,growT,Ty.enc]),growA p,.load rfl rfl (by kernel_rfl),.tp [Z,E],.call rfl rfl rfl rfl (kxW hr) (show FreeL [X,growA p] by simp only [kbA,kfR,and_true]; exact ⟨hfree,khZ p⟩),.tp [Z,E],.move rfl rfl,Z,.extract rfl rfl rfl,E,.extract rfl rfl rfl,Z,.assign rfl rfl,E,.assign rfl rfl,?_⟩))
  have last:∀ (es:List (List AV)) (ls2:List (Int×GrowL)) (env:Env),lk env GS = .gs es->lk env 0=I->lk env 1=S->lk env 2=X->lk env 5=R->kaI d ps (w64 (i+1)) s x=some ls2->es.length+ls2.length=k+ls.length->(∀ j,j<ls2.length->G.xs[es.length+j]?=(ls2.map growY)[j]?)->
    SatL Tryz.prog 49 D O [(Tryz.f110.body.getD .skip |> fun c=>match c with | .seq _ (.seq _ (.seq _ c))=>c | c=>c)] (yvQ 9 (k+(ls.map growY).length)) ⟨env,ah0,0⟩:=by
   intro es ls2 env e1 e2 e3 e4 e5 hg2 hlen hx2
   let I1:AV:=.sc (.int .i64 (w64 (i+1)))
   refine SatL.seq (SatL.yreg 5 rfl hD ok rfl ⟨growG G.l A d,.load rfl (show deref ah0 (lk env 5)=_ by rw [e5]; rfl) (by kernel_rfl),I,.move rfl e2,I1,.bin rfl rfl rfl (fun K hk=>⟨rfl,hk⟩),S,.move rfl e3,X,.move rfl e4,
    YieldK.of [] (z:=ah0) (es:=es) (avs:=[I1,S,X]) (.inl rfl) rfl rfl (krB G.l ps d (w64 (i+1)) s x ls2 hg2) e1 (by simpa using hx2) (fun q B h=>by cases h) (Snap.V (.free _ hg)) (SnapL.free (show FreeL [I1,S,X] by simp [I1,S,X,hfree])) (fun t ht=>by cases ht) (aopsR.plain ⟨.sc (.bool true),.assign rfl rfl,?_⟩) (aopsR.plain ⟨.sc (.bool false),.assign rfl rfl,?_⟩)⟩)
   ·exact SatL.ret ⟨.inr rfl,.inl ⟨_,rfl,by simp; omega,rfl⟩⟩
   ·exact SatL.ret ⟨.inr rfl,.inr ⟨rfl,rfl⟩⟩
  by_cases hr0:r.2=0
  ·rw [if_pos hr0] at h
   obtain ⟨b,hb,h⟩:=jaa.1 h
   obtain ⟨l1,hl1,h⟩:=jaa.1 h
   obtain ⟨l2,hl2,h⟩:=jaa.1 h
   obtain rfl:l1++l2=ls:=Option.some.inj h
   obtain rfl:w64 (1*2 ^ (min i.toNat 64))=b:=Option.some.inj ((if_pos h0).symm.trans hb)
   have hx1:∀ j,j<l1.length+l2.length->G.xs[k+j]?=(l1.map growY++l2.map growY)[j]?:=fun j hj=>by
    rw [<-jcv]
    exact hx j (by rw [jas]; exact Nat.lt_of_lt_of_eq hj jbe.symm)
   have hlen:(l1++l2).length=l1.length+l2.length:=jbe
   let I1:AV:=.sc (.int .i64 (w64 (i+1)))
   let W:AV:=.sc (.int .i64 (w64 (1*2 ^ (min i.toNat 64))))
   let S1:AV:=.sc (.int .i64 (bitsI .or .i64 s (w64 (1*2 ^ (min i.toNat 64)))))
   refine SatL.seq (SatL.yregD 11 rfl hD ok (by kernel_rfl) (by kernel_rfl) (by kernel_rfl) (by kernel_rfl) rfl ⟨E,.move rfl rfl,.sc (.bool true),.bin rfl rfl rfl (fun K hk=>⟨rfl,by rw [hr0]; exact hk⟩),.sc (.bool true),.move rfl rfl,growG G.l A d,.load rfl rfl (by kernel_rfl),I,.move rfl rfl,I1,.bin rfl rfl rfl (fun K hk=>⟨rfl,hk⟩),S,.move rfl rfl,I,.move rfl rfl,
    W,.bin rfl rfl rfl (fun K hk=>⟨h0,hk⟩),S1,.bin rfl rfl rfl (fun K hk=>⟨rfl,hk⟩),Z,.move rfl rfl,
    YieldK.of [0,1,2,5,31] (z:=ah0) (es:=List.replicate k []) (avs:=[I1,S1,Z]) (.inr ⟨_,_,_,rfl,rfl,rfl⟩) rfl rfl (krB G.l ps d (w64 (i+1)) _ r.1 l1 hl1) rfl (fun j hj=>?_) (fun q B h=>by cases h) (Snap.V (.free _ hg)) (SnapL.free (show FreeL [I1,S1,Z] by simp only [I1,S1,kbA,kfR,and_true,ksb,true_and]; exact khZ r.1)) (fun t ht=>?_)
     (aopsR.plain ⟨.sc (.bool false),.not true rfl rfl rfl,.sc (.bool false),.pick rfl rfl rfl,?_⟩) (aopsR.plain ⟨.sc (.bool true),.not false rfl rfl rfl,.sc (.bool true),.pick rfl rfl rfl,?_⟩)⟩)
   ·rw [jas] at hj
    rw [jcw,hx1 j (by omega),jbp (by simpa using hj)]
   ·simp only [jaw,List.not_mem_nil,or_false] at ht
    rcases ht with rfl | rfl | rfl | rfl | rfl
    ·exact .sc _
    ·exact .sc _
    ·exact hfree
    ·show Free R
     simp only [R,kiC,kbA,kfR,and_true]
     exact hg
    ·exact .sc _
   ·exact SatL.condF (v:=false) rfl rfl (SatL.skip (last _ l2 _ rfl rfl rfl rfl rfl hl2 (by rw [jbe,jcw,jas,hlen]; omega) (fun j hj=>by rw [jbe,jcw,jas,jea,hx1 _ (by omega),jci (by simp),jas,Nat.add_sub_cancel_left])))
   ·exact SatL.condT (v:=true) rfl rfl (SatL.seq (SatL.rreg rfl ⟨.sc (.bool false),.assign rfl rfl,SatL.ret ⟨.inr rfl,.inr ⟨rfl,rfl⟩⟩⟩))
  ·rw [if_neg hr0] at h
   refine SatL.seq (SatL.rregD (by kernel_rfl) (by kernel_rfl) rfl ⟨E,.move rfl rfl,.sc (.bool false),.bin rfl rfl rfl (fun K hk=>⟨rfl,by rw [show (r.2==0)=false by simpa using hr0]; exact hk⟩),.sc (.bool false),.move rfl rfl,.sc (.bool false),.pick rfl rfl rfl,?_⟩)
   exact SatL.condF (v:=false) rfl rfl (SatL.skip (last _ ls _ rfl rfl rfl rfl rfl h (by simp) (by simpa using hx)))
theorem kwU {x l:GrowL} (h:kam x=some l):PC Tryz.prog 80 [growA x] (·= growA l):=
 slices_Clone_s_api_Item_api_Item_C_ok.2.1 x l h _ ⟨_,rfl,(kcC rfl).2 rfl⟩
def klM:CtrI:=⟨ "",[.pt (.sl growT),.pt growT],[.i .i64,growT],fun x=>runI fun o=>kbs o x.1 x.2⟩
theorem kwO {l:Nat} {A:AV} {h:AH} (hA:Free A) (h0:h 0=some (.cells 1 161 [[.sc (.func (.yield l) #[] #[])]])) (h1:h 1=some (.cells 1 162 [[.fn 110 [A,.own 0 0 0,.own 1 0 0]]])):∀ d,SnapV h (.fn 110 [A,.own 0 0 0,.own 1 0 0]) (growG l A d):=fun d=>by
 have step:∀ R,SnapV h (.own 1 0 0) R->SnapV h (.fn 110 [A,.own 0 0 0,.own 1 0 0]) (.fn 110 [A,.fp [.sc (.func (.yield l) #[] #[])],R]):=fun R hR=>.fn rfl fun q c c' hc hc'=>by
  match q,hc,hc' with
  | 0,hc,hc'=>cases hc; cases hc'; exact Snap.V (.free _ hA)
  | 1,hc,hc'=>cases hc; cases hc'; exact SnapV.own1 h0 rfl (Snap.V (.free _ (.sc _)))
  | 2,hc,hc'=>cases hc; cases hc'; exact hR
  | q+3,hc,hc'=>cases hc
 induction d with
 | zero=>exact step _ .un
 | succ d ih=>exact step _ (.own1 h1 (kxu d) ih)
theorem kpd:GoodI Tryz.prog 109 klM:=by
 refine ⟨rfl,fun x xs hF l hl=>?_⟩
 obtain ⟨ps,x⟩:=x
 obtain ⟨a,l',rfl,ha,a',rfl,ha'⟩:=hl
 obtain rfl:=(kcC rfl).1 ha
 obtain rfl:=(kcC rfl).1 ha'
 have hF:(kam x).bind (fun l=>kaI (ps.length+1) ps 0 0 l)=some xs:=by
  obtain ⟨xs1,h1,h2⟩:=jaa.1 (show runI (fun o=>kbs o ps x)=some xs from hF)
  obtain ⟨ys,h3,h4⟩:=jaa.1 h2
  split at h4
  ·cases h4; exact h1
  ·cases h4
 obtain ⟨c,hc,hg⟩:=jaa.1 hF
 refine IT.of_body (fn:=Tryz.f109) Tryz.func109 rfl (by kernel_rfl) (by show 3<=10; omega) (by show 10<=9000000; omega) rfl fun D G O hD hx ok=>?_
 have hA:Free (.fp [.sl (ps.map growE)]):=by simpa using kpw ps
 let Y:AV:=.sc (.func (.yield G.l) #[] #[])
 let A:AV:=.fp [.sl (ps.map growE)]
 let F:AV:=.fn 110 [A,.own 0 0 0,.own 1 0 0]
 let H0:AH:=updH ah0 0 (.cells 1 161 [[Y]])
 let H1:AH:=updH H0 1 (.cells 1 162 [[.sc .nilFunc]])
 let H2:AH:=updH H1 1 (.cells 1 162 [[F]])
 let e0:Env:=(GS,.gs [])::kaq (.sc (.func (.yield G.l) #[] #[])::[(Ty.pt (.sl growT)).av ps,(Ty.pt growT).av x])
 refine Sat.ofL (SatL.seq (Sat.region rfl (show SatL Tryz.prog 10 D O _ _ ⟨(3,.own 0 0 0)::e0,H0,1⟩ from ?_)))
 refine SatL.seq (Sat.region rfl (aops.cons rfl<|aop.alloc (z:=[.sc .nilFunc]) rfl (by kernel_rfl) (show SatL Tryz.prog 10 D O _ _ ⟨(4,.own 1 0 0)::(3,.own 0 0 0)::e0,H1,2⟩ from ?_)))
 refine SatL.seq (Sat.region rfl (aops.cons rfl<|aop.mkfn (v:=F) rfl rfl<|aops.cons rfl<|aop.store (id:=1) (k:=1) (T':=162) (a:=.sc .nilFunc) (b:=F) rfl rfl rfl rfl (by kernel_rfl) (show SatL Tryz.prog 10 D O _ _ ⟨(5,F)::(4,.own 1 0 0)::(3,.own 0 0 0)::e0,H2,2⟩ from ?_)))
 let C:=growA c
 refine SatL.yregD 3 rfl hD ok (by kernel_rfl) (by kernel_rfl) (by kernel_rfl) (by kernel_rfl) rfl ⟨F,.load rfl rfl (by kernel_rfl),growA x,.load rfl rfl (by kernel_rfl),C,.call rfl rfl rfl rfl (kwU hc) (show FreeL [growA x] by simpa using khZ x),
  YieldK.of [] (z:=H2) (es:=[]) (avs:=[.sc (.int .i64 0),.sc (.int .i64 0),C]) (.inl rfl) rfl rfl (krB G.l ps (ps.length+1) 0 0 c xs hg) rfl (fun j hj=>?_) (fun q B h=>h) (kwO hA rfl rfl _) (SnapL.free (show FreeL [.sc (.int .i64 0),.sc (.int .i64 0),C] by simpa using khZ c)) (fun t ht=>by cases ht) ?_ ?_⟩
 ·rw [hx]; simp only [List.length_nil,jce]; rfl
 ·exact ⟨.inl rfl,.inl ⟨_,rfl,rfl⟩⟩
 ·exact ⟨.inl rfl,.inr rfl⟩
def keq:Ctr:=⟨ "",[],[],fun _=>none,[],[klM]⟩
theorem kec:Good Tryz.prog 109 keq:=good_dm.moreI kpd
def box_built_m0_M:CtrM:=⟨ "",[some (.sl (.pr (.i .i64) (.pr (.i .u8) (.i .i64)))),some (.sl (.sl (.pr (.i .i64) (.pr (.i .u8) (.i .i64)))))],⟨[],[]⟩,0,⟨[(1000000,.fn 109 [.ptr 0 0,.ptr 1 0])],[(0,.bx 54 [.c (.sl (.sl (.pr (.i .i64) (.pr (.i .u8) (.i .i64)))))]),(1,.bx 22 [.c (.sl (.pr (.i .i64) (.pr (.i .u8) (.i .i64))))])]⟩,2,1,fun x=>keh x.1 x.2,false⟩
theorem koN:box_built_m0_M.ok=true/\GoodM Tryz.prog 75 box_built_m0_M:=
 kan Tryz.func75 (by kernel_rfl) (An:=[]) [(109,keq)] (.cons kec <| .nil) (fun x=>by kernel_rfl)
def box_built_C:Ctr:=⟨ "",[],[],fun _=>none,[],[]⟩
theorem box_built_C_ok:Good Tryz.prog 75 box_built_C:=good_dm
def kjt:Ctr:=⟨ "",box_built_C.as,box_built_C.rs,box_built_C.F,box_built_m0_M::box_built_C.mus,box_built_C.its⟩
theorem kkt:Good Tryz.prog 75 kjt:=(box_built_C_ok.more koN)
def kjx:Ctr:=⟨ "",[(.i .i64),(.sl (.i .i64))],[(.sl (.i .i64)),(.i .i64)],fun x=>kgS x.1 x.2,[],[]⟩
theorem kkF:Good Tryz.prog 76 kjx:=
 kad Tryz.func76 (by kernel_rfl) (An:=[(0,⟨⟨[(12,.c (.i .i64)),(6,.mw 1),(7,.c (.i .i64))],[(1,.sl 3 (.i .i64))]⟩,⟨[(6,.mw 2),(7,.c (.i .i64))],[(2,.sl 3 (.i .i64))]⟩,[11,10,0],[],3,false,""⟩)]) [] (.nil) (fun x=>by kernel_rfl)
def keR:Ctr:=⟨ "",[(.sl (.i .i64)),(.sl (.i .i64))],[(.i .i64)],fun x=>kbO x.1 x.2,[],[]⟩
theorem kip:Good Tryz.prog 79 keR:=
 kad Tryz.func79 (by kernel_rfl) (An:=[(0,⟨⟨[(11,.c (.i .i64))],[]⟩,⟨[],[]⟩,[10,9,1,0],[],0,true,""⟩)]) [(78,ked)] (.cons keN <| .nil) (fun x=>by kernel_rfl)
def kkH:Ctr:=⟨ "",[(.sl (.pr (.i .i64) (.pr (.i .u8) (.i .i64)))),(.sl (.sl (.pr (.i .i64) (.pr (.i .u8) (.i .i64))))),(.sl (.i .i64))],[kze,(.i .i64)],fun x=>kdF x.1 x.2.1 x.2.2,[],[]⟩
theorem klj:Good Tryz.prog 28 kkH:=
 kad Tryz.func28 (by kernel_rfl) (An:=[(73,⟨⟨[],[]⟩,⟨[(8,.c (.i .i64))],[]⟩,[1,5,6,0],[0,3,1,2],5,false,""⟩),(0,⟨⟨[],[(9,.bx 57 [.c (.sl (.i .i64)),.c (.i .i64),.c (.sl (.pr (.i .i64) (.pr (.i .u8) (.i .i64))))])]⟩,⟨[],[(9,.bx 57 [.c (.sl (.i .i64)),.c (.i .i64),.c (.sl (.pr (.i .i64) (.pr (.i .u8) (.i .i64))))])]⟩,[29,9,6,5],[3,1,2,0],13,false,""⟩)]) [(79,keR),(76,kjx),(75,kjt),(109,keq),(80,kcE),(74,kjA),(50,kbR),(77,kkk),(78,ked)] (.cons kip <| .cons kkF <| .cons kkt <| .cons kec <| .cons slices_Clone_s_api_Item_api_Item_C_ok <| .cons kkA <| .cons kbD <| .cons kli <| .cons keN <| .nil) (fun x=>by kernel_rfl)
def kep:CtrI:=⟨ "",[(.pt (.sl (.i .i64)))],[(.i .i64)],fun x=>runI fun o=>kea o x⟩
theorem khF:GoodI Tryz.prog 131 kep:=
 kyt Tryz.func131 (by kernel_rfl) (An:=[(0,⟨⟨[(7,.c (.i .i64)),(9000000,.gs (.i .i64))],[]⟩,⟨[(9000000,.gs (.i .i64))],[]⟩,[6,5],[],1,true,""⟩)]) [] (.nil) (fun x=>by kernel_rfl)
def kau:Ctr:=⟨ "",[],[],fun _=>none,[],[kep]⟩
theorem kaw:Good Tryz.prog 131 kau:=good_dm.moreI khF
def slices_Values_s_int_int_m0_M:CtrM:=⟨ "",[some (.sl (.i .i64))],⟨[],[]⟩,0,⟨[(1000000,.fn 131 [.ptr 0 0])],[(0,.bx 31 [.c (.sl (.i .i64))])]⟩,1,1,fun x=>keU x,false⟩
theorem khH:slices_Values_s_int_int_m0_M.ok=true/\GoodM Tryz.prog 118 slices_Values_s_int_int_m0_M:=
 kan Tryz.func118 (by kernel_rfl) (An:=[]) [(131,kau)] (.cons kaw <| .nil) (fun x=>by kernel_rfl)
def slices_Values_s_int_int_C:Ctr:=⟨ "",[],[],fun _=>none,[],[]⟩
theorem slices_Values_s_int_int_C_ok:Good Tryz.prog 118 slices_Values_s_int_int_C:=good_dm
def keB:Ctr:=⟨ "",slices_Values_s_int_int_C.as,slices_Values_s_int_int_C.rs,slices_Values_s_int_int_C.F,slices_Values_s_int_int_m0_M::slices_Values_s_int_int_C.mus,slices_Values_s_int_int_C.its⟩
theorem khY:Good Tryz.prog 118 keB:=(slices_Values_s_int_int_C_ok.more khH)
def kjI:Ctr:=⟨ "",[(.i .u32)],[(.i .i64)],fun x=>kqv x,[],[]⟩
theorem kmB:Good Tryz.prog 147 kjI:=
 kad Tryz.func147 (by kernel_rfl) (An:=[(17,⟨⟨[],[]⟩,⟨[(0,.c (.i .u32)),(2,.c (.i .i64))],[]⟩,[],[],0,false,""⟩)]) [] (.nil) (fun x=>by kernel_rfl)
def kjH:Ctr:=⟨ "",[(.i .u64)],[(.i .i64)],fun x=>klb x,[],[]⟩
theorem kmG:Good Tryz.prog 148 kjH:=
 kad Tryz.func148 (by kernel_rfl) (An:=[(17,⟨⟨[],[]⟩,⟨[(0,.c (.i .u64)),(2,.c (.i .i64))],[]⟩,[],[],0,false,""⟩),(33,⟨⟨[],[]⟩,⟨[(0,.c (.i .u64)),(2,.c (.i .i64))],[]⟩,[],[],0,false,""⟩)]) [] (.nil) (fun x=>by kernel_rfl)
def khP:Ctr:=⟨ "",[(.i .u64)],[(.i .i64)],fun x=>kju x,[],[]⟩
theorem kjm:Good Tryz.prog 136 khP:=
 kad Tryz.func136 (by kernel_rfl) (An:=[]) [(148,kjH),(147,kjI)] (.cons kmG <| .cons kmB <| .nil) (fun x=>by kernel_rfl)
def kbF:Ctr:=⟨ "",[(.i .i64),(.i .i64)],[.b],fun x=>kaE x.1 x.2,[],[]⟩
theorem kbo:Good Tryz.prog 144 kbF:=
 kad Tryz.func144 (by kernel_rfl) (An:=[]) [(111,khK)] (.cons kjb <| .nil) (fun x=>by kernel_rfl)
def kgu:Ctr:=⟨ "",[(.i .i64)],[(.i .u64)],fun x=>khz x,[],[]⟩
theorem kjB:Good Tryz.prog 150 kgu:=
 kad Tryz.func150 (by kernel_rfl) (An:=[]) [(136,khP)] (.cons kjm <| .nil) (fun x=>by kernel_rfl)
def slices_xorshift_Next_m0_M:CtrM:=⟨ "",[none],⟨[(0,.ptr 0 0)],[(0,.bx 202 [.c (.i .u64)])]⟩,1,⟨[(0,.ptr 0 0),(1000000,.c (.i .u64))],[(0,.bx 202 [.c (.i .u64)])]⟩,1,1,fun x=>kgs x,false⟩
theorem kiA:slices_xorshift_Next_m0_M.ok=true/\GoodM Tryz.prog 151 slices_xorshift_Next_m0_M:=
 kan Tryz.func151 (by kernel_rfl) (An:=[]) [] (.nil) (fun x=>by kernel_rfl)
def slices_xorshift_Next_C:Ctr:=⟨ "",[],[],fun _=>none,[],[]⟩
theorem slices_xorshift_Next_C_ok:Good Tryz.prog 151 slices_xorshift_Next_C:=good_dm
def kfV:Ctr:=⟨ "",slices_xorshift_Next_C.as,slices_xorshift_Next_C.rs,slices_xorshift_Next_C.F,slices_xorshift_Next_m0_M::slices_xorshift_Next_C.mus,slices_xorshift_Next_C.its⟩
theorem kjd:Good Tryz.prog 151 kfV:=(slices_xorshift_Next_C_ok.more kiA)
def slices_order2Ordered_int_m0_M:CtrM:=⟨ "",[some (.sl (.i .i64)),some (.i .i64),some (.i .i64),none],⟨[(3,.ptr 0 0)],[(0,.bx 3 [.c (.i .i64)])]⟩,1,⟨[(3,.ptr 0 0),(1000000,.c (.i .i64)),(1000001,.c (.i .i64))],[(0,.bx 3 [.c (.i .i64)])]⟩,1,2,fun x=>kbr x.1 x.2.1 x.2.2.1 x.2.2.2,false⟩
theorem khk:slices_order2Ordered_int_m0_M.ok=true/\GoodM Tryz.prog 154 slices_order2Ordered_int_m0_M:=
 kan Tryz.func154 (by kernel_rfl) (An:=[]) [(144,kbF)] (.cons kbo <| .nil) (fun x=>by kernel_rfl)
def slices_order2Ordered_int_C:Ctr:=⟨ "",[],[],fun _=>none,[],[]⟩
theorem slices_order2Ordered_int_C_ok:Good Tryz.prog 154 slices_order2Ordered_int_C:=good_dm
def kew:Ctr:=⟨ "",slices_order2Ordered_int_C.as,slices_order2Ordered_int_C.rs,slices_order2Ordered_int_C.F,slices_order2Ordered_int_m0_M::slices_order2Ordered_int_C.mus,slices_order2Ordered_int_C.its⟩
theorem khE:Good Tryz.prog 154 kew:=(slices_order2Ordered_int_C_ok.more khk)
def slices_medianOrdered_int_m0_M:CtrM:=⟨ "",[some (.sl (.i .i64)),some (.i .i64),some (.i .i64),some (.i .i64),none],⟨[(4,.ptr 0 0)],[(0,.bx 3 [.c (.i .i64)])]⟩,1,⟨[(4,.ptr 0 0),(1000000,.c (.i .i64))],[(0,.bx 3 [.c (.i .i64)])]⟩,1,1,fun x=>kck x.1 x.2.1 x.2.2.1 x.2.2.2.1 x.2.2.2.2,false⟩
theorem khm:slices_medianOrdered_int_m0_M.ok=true/\GoodM Tryz.prog 153 slices_medianOrdered_int_m0_M:=
 kan Tryz.func153 (by kernel_rfl) (An:=[]) [(154,kew)] (.cons khE <| .nil) (fun x=>by kernel_rfl)
def slices_medianOrdered_int_C:Ctr:=⟨ "",[],[],fun _=>none,[],[]⟩
theorem slices_medianOrdered_int_C_ok:Good Tryz.prog 153 slices_medianOrdered_int_C:=good_dm
def kcg:Ctr:=⟨ "",slices_medianOrdered_int_C.as,slices_medianOrdered_int_C.rs,slices_medianOrdered_int_C.F,slices_medianOrdered_int_m0_M::slices_medianOrdered_int_C.mus,slices_medianOrdered_int_C.its⟩
theorem kdj:Good Tryz.prog 153 kcg:=(slices_medianOrdered_int_C_ok.more khm)
def slices_medianAdjacentOrdered_int_m0_M:CtrM:=⟨ "",[some (.sl (.i .i64)),some (.i .i64),none],⟨[(2,.ptr 0 0)],[(0,.bx 3 [.c (.i .i64)])]⟩,1,⟨[(2,.ptr 0 0),(1000000,.c (.i .i64))],[(0,.bx 3 [.c (.i .i64)])]⟩,1,1,fun x=>kaK x.1 x.2.1 x.2.2,false⟩
theorem keH:slices_medianAdjacentOrdered_int_m0_M.ok=true/\GoodM Tryz.prog 152 slices_medianAdjacentOrdered_int_m0_M:=
 kan Tryz.func152 (by kernel_rfl) (An:=[]) [(153,kcg)] (.cons kdj <| .nil) (fun x=>by kernel_rfl)
def slices_medianAdjacentOrdered_int_C:Ctr:=⟨ "",[],[],fun _=>none,[],[]⟩
theorem slices_medianAdjacentOrdered_int_C_ok:Good Tryz.prog 152 slices_medianAdjacentOrdered_int_C:=good_dm
def kcm:Ctr:=⟨ "",slices_medianAdjacentOrdered_int_C.as,slices_medianAdjacentOrdered_int_C.rs,slices_medianAdjacentOrdered_int_C.F,slices_medianAdjacentOrdered_int_m0_M::slices_medianAdjacentOrdered_int_C.mus,slices_medianAdjacentOrdered_int_C.its⟩
theorem kfa:Good Tryz.prog 152 kcm:=(slices_medianAdjacentOrdered_int_C_ok.more keH)
def kdi:Ctr:=⟨ "",[(.sl (.i .i64)),(.i .i64),(.i .i64)],[(.i .i64),(.i .i64)],fun x=>kdZ x.1 x.2.1 x.2.2,[],[]⟩
theorem kgw:Good Tryz.prog 141 kdi:=
 kad Tryz.func141 (by kernel_rfl) (An:=[(129,⟨⟨[(9,.ptr 0 0)],[(0,.bx 3 [.c (.i .i64)])]⟩,⟨[(9,.ptr 1 0),(11,.c (.i .i64))],[(1,.bx 3 [.c (.i .i64)])]⟩,[8,0],[],2,false,""⟩),(137,⟨⟨[(9,.ptr 0 0)],[(0,.bx 3 [.c (.i .i64)])]⟩,⟨[(10,.c (.i .i64)),(11,.c (.i .i64)),(12,.c (.i .i64)),(9,.ptr 1 0)],[(1,.bx 3 [.c (.i .i64)])]⟩,[],[],2,false,""⟩)]) [(152,kcm),(153,kcg)] (.cons kfa <| .cons kdj <| .nil) (fun x=>by kernel_rfl)
def slices_AppendSeq_s_int_int_m0_M:CtrM:=⟨ "",[none,none],⟨[(0,.mw 0),(1,.fn 131 [.ptr 1 0])],[(0,.sl 3 (.i .i64)),(1,.bx 31 [.c (.sl (.i .i64))])]⟩,2,⟨[(1000000,.mw 2)],[(2,.sl 3 (.i .i64))]⟩,3,1,fun x=>kdY x.1 x.2,false⟩
theorem kgA:slices_AppendSeq_s_int_int_m0_M.ok=true/\GoodM Tryz.prog 134 slices_AppendSeq_s_int_int_m0_M:=
 kan Tryz.func134 (by kernel_rfl) (An:=[(0,⟨⟨[],[(2,.bx 31 [.mw 0]),(0,.sl 3 (.i .i64))]⟩,⟨[],[(2,.bx 31 [.mw 5]),(5,.sl 3 (.i .i64))]⟩,[6,2],[],6,false,""⟩)]) [(131,kau),(109,keq)] (.cons kaw <| .cons kec <| .nil) (fun x=>by kernel_rfl)
def slices_AppendSeq_s_int_int_C:Ctr:=⟨ "",[],[],fun _=>none,[],[]⟩
theorem slices_AppendSeq_s_int_int_C_ok:Good Tryz.prog 134 slices_AppendSeq_s_int_int_C:=good_dm
def kdB:Ctr:=⟨ "",slices_AppendSeq_s_int_int_C.as,slices_AppendSeq_s_int_int_C.rs,slices_AppendSeq_s_int_int_C.F,slices_AppendSeq_s_int_int_m0_M::slices_AppendSeq_s_int_int_C.mus,slices_AppendSeq_s_int_int_C.its⟩
theorem kgT:Good Tryz.prog 134 kdB:=(slices_AppendSeq_s_int_int_C_ok.more kgA)
def slices_Collect_int_m0_M:CtrM:=⟨ "",[none],⟨[(0,.fn 131 [.ptr 0 0])],[(0,.bx 31 [.c (.sl (.i .i64))])]⟩,1,⟨[(1000000,.mw 1)],[(1,.sl 3 (.i .i64))]⟩,2,1,fun x=>khA x,false⟩
theorem kjy:slices_Collect_int_m0_M.ok=true/\GoodM Tryz.prog 129 slices_Collect_int_m0_M:=
 kan Tryz.func129 (by kernel_rfl) (An:=[]) [(134,kdB),(131,kau)] (.cons kgT <| .cons kaw <| .nil) (fun x=>by kernel_rfl)
def slices_Collect_int_C:Ctr:=⟨ "",[],[],fun _=>none,[],[]⟩
theorem slices_Collect_int_C_ok:Good Tryz.prog 129 slices_Collect_int_C:=good_dm
def kgV:Ctr:=⟨ "",slices_Collect_int_C.as,slices_Collect_int_C.rs,slices_Collect_int_C.F,slices_Collect_int_m0_M::slices_Collect_int_C.mus,slices_Collect_int_C.its⟩
theorem kjW:Good Tryz.prog 129 kgV:=(slices_Collect_int_C_ok.more kjy)
def slices_insertionSortOrdered_int_m0_M:CtrM:=⟨ "",[none,some (.i .i64),some (.i .i64)],⟨[(0,.mw 0)],[(0,.sl 3 (.i .i64))]⟩,1,⟨[(0,.mw 0)],[(0,.sl 3 (.i .i64))]⟩,1,0,fun x=>kcy x.1 x.2.1 x.2.2,false⟩
theorem keY:slices_insertionSortOrdered_int_m0_M.ok=true/\GoodM Tryz.prog 138 slices_insertionSortOrdered_int_m0_M:=
 kan Tryz.func138 (by kernel_rfl) (An:=[(0,⟨⟨[(6,.c (.i .i64))],[(0,.sl 3 (.i .i64))]⟩,⟨[],[(0,.sl 3 (.i .i64))]⟩,[2,1],[],2,false,""⟩),(8,⟨⟨[(7,.c (.i .i64))],[(0,.sl 3 (.i .i64))]⟩,⟨[],[(0,.sl 3 (.i .i64))]⟩,[6],[],2,false,""⟩)]) [(144,kbF)] (.cons kbo <| .nil) (fun x=>by kernel_rfl)
def slices_insertionSortOrdered_int_C:Ctr:=⟨ "",[],[],fun _=>none,[],[]⟩
theorem slices_insertionSortOrdered_int_C_ok:Good Tryz.prog 138 slices_insertionSortOrdered_int_C:=good_dm
def kco:Ctr:=⟨ "",slices_insertionSortOrdered_int_C.as,slices_insertionSortOrdered_int_C.rs,slices_insertionSortOrdered_int_C.F,slices_insertionSortOrdered_int_m0_M::slices_insertionSortOrdered_int_C.mus,slices_insertionSortOrdered_int_C.its⟩
theorem kfl:Good Tryz.prog 138 kco:=(slices_insertionSortOrdered_int_C_ok.more keY)
def slices_siftDownOrdered_int_m0_M:CtrM:=⟨ "",[none,some (.i .i64),some (.i .i64),some (.i .i64)],⟨[(0,.mw 0)],[(0,.sl 3 (.i .i64))]⟩,1,⟨[(0,.mw 0)],[(0,.sl 3 (.i .i64))]⟩,1,0,fun x=>kbV x.1 x.2.1 x.2.2.1 x.2.2.2,false⟩
theorem kgx:slices_siftDownOrdered_int_m0_M.ok=true/\GoodM Tryz.prog 149 slices_siftDownOrdered_int_m0_M:=
 kan Tryz.func149 (by kernel_rfl) (An:=[(0,⟨⟨[(8,.c (.i .i64))],[(0,.sl 3 (.i .i64))]⟩,⟨[],[(0,.sl 3 (.i .i64))]⟩,[2,3],[],2,true,""⟩),(14,⟨⟨[],[]⟩,⟨[(36,.c .b)],[]⟩,[9,8],[0],1,false,""⟩),(145,⟨⟨[],[]⟩,⟨[(9,.c (.i .i64))],[]⟩,[8],[0],1,false,""⟩)]) [(144,kbF)] (.cons kbo <| .nil) (fun x=>by kernel_rfl)
def slices_siftDownOrdered_int_C:Ctr:=⟨ "",[],[],fun _=>none,[],[]⟩
theorem slices_siftDownOrdered_int_C_ok:Good Tryz.prog 149 slices_siftDownOrdered_int_C:=good_dm
def kdC:Ctr:=⟨ "",slices_siftDownOrdered_int_C.as,slices_siftDownOrdered_int_C.rs,slices_siftDownOrdered_int_C.F,slices_siftDownOrdered_int_m0_M::slices_siftDownOrdered_int_C.mus,slices_siftDownOrdered_int_C.its⟩
theorem kha:Good Tryz.prog 149 kdC:=(slices_siftDownOrdered_int_C_ok.more kgx)
def slices_heapSortOrdered_int_m0_M:CtrM:=⟨ "",[none,some (.i .i64),some (.i .i64)],⟨[(0,.mw 0)],[(0,.sl 3 (.i .i64))]⟩,1,⟨[(0,.mw 0)],[(0,.sl 3 (.i .i64))]⟩,1,0,fun x=>kdX x.1 x.2.1 x.2.2,false⟩
theorem kgy:slices_heapSortOrdered_int_m0_M.ok=true/\GoodM Tryz.prog 139 slices_heapSortOrdered_int_m0_M:=
 kan Tryz.func139 (by kernel_rfl) (An:=[(0,⟨⟨[(9,.c (.i .i64))],[(0,.sl 3 (.i .i64))]⟩,⟨[],[(0,.sl 3 (.i .i64))]⟩,[8,6,7],[],2,false,""⟩),(8,⟨⟨[(10,.c (.i .i64))],[(0,.sl 3 (.i .i64))]⟩,⟨[],[(0,.sl 3 (.i .i64))]⟩,[6,7],[],3,false,""⟩)]) [(149,kdC)] (.cons kha <| .nil) (fun x=>by kernel_rfl)
def slices_heapSortOrdered_int_C:Ctr:=⟨ "",[],[],fun _=>none,[],[]⟩
theorem slices_heapSortOrdered_int_C_ok:Good Tryz.prog 139 slices_heapSortOrdered_int_C:=good_dm
def kdw:Ctr:=⟨ "",slices_heapSortOrdered_int_C.as,slices_heapSortOrdered_int_C.rs,slices_heapSortOrdered_int_C.F,slices_heapSortOrdered_int_m0_M::slices_heapSortOrdered_int_C.mus,slices_heapSortOrdered_int_C.its⟩
theorem kgG:Good Tryz.prog 139 kdw:=(slices_heapSortOrdered_int_C_ok.more kgy)
def slices_breakPatternsOrdered_int_m0_M:CtrM:=⟨ "",[none,some (.i .i64),some (.i .i64)],⟨[(0,.mw 0)],[(0,.sl 3 (.i .i64))]⟩,1,⟨[(0,.mw 0)],[(0,.sl 3 (.i .i64))]⟩,1,0,fun x=>kcz x.1 x.2.1 x.2.2,false⟩
theorem keW:slices_breakPatternsOrdered_int_m0_M.ok=true/\GoodM Tryz.prog 140 slices_breakPatternsOrdered_int_m0_M:=
 kan Tryz.func140 (by kernel_rfl) (An:=[(0,⟨⟨[(9,.c (.i .i64)),(7,.ptr 1 0)],[(1,.bx 202 [.c (.i .u64)]),(0,.sl 3 (.i .i64))]⟩,⟨[],[(0,.sl 3 (.i .i64))]⟩,[1,6,8],[],3,false,""⟩),(173,⟨⟨[],[]⟩,⟨[(10,.c (.i .i64))],[]⟩,[9,7],[0,1],2,false,""⟩)]) [(151,kfV),(150,kgu)] (.cons kjd <| .cons kjB <| .nil) (fun x=>by kernel_rfl)
def slices_breakPatternsOrdered_int_C:Ctr:=⟨ "",[],[],fun _=>none,[],[]⟩
theorem slices_breakPatternsOrdered_int_C_ok:Good Tryz.prog 140 slices_breakPatternsOrdered_int_C:=good_dm
def kcu:Ctr:=⟨ "",slices_breakPatternsOrdered_int_C.as,slices_breakPatternsOrdered_int_C.rs,slices_breakPatternsOrdered_int_C.F,slices_breakPatternsOrdered_int_m0_M::slices_breakPatternsOrdered_int_C.mus,slices_breakPatternsOrdered_int_C.its⟩
theorem kfi:Good Tryz.prog 140 kcu:=(slices_breakPatternsOrdered_int_C_ok.more keW)
def slices_reverseRangeOrdered_int_m0_M:CtrM:=⟨ "",[none,some (.i .i64),some (.i .i64)],⟨[(0,.mw 0)],[(0,.sl 3 (.i .i64))]⟩,1,⟨[(0,.mw 0)],[(0,.sl 3 (.i .i64))]⟩,1,0,fun x=>kcJ x.1 x.2.1 x.2.2,false⟩
theorem kfo:slices_reverseRangeOrdered_int_m0_M.ok=true/\GoodM Tryz.prog 142 slices_reverseRangeOrdered_int_m0_M:=
 kan Tryz.func142 (by kernel_rfl) (An:=[(0,⟨⟨[(6,.c (.i .i64)),(7,.c (.i .i64))],[(0,.sl 3 (.i .i64))]⟩,⟨[],[(0,.sl 3 (.i .i64))]⟩,[],[],2,false,""⟩)]) [] (.nil) (fun x=>by kernel_rfl)
def slices_reverseRangeOrdered_int_C:Ctr:=⟨ "",[],[],fun _=>none,[],[]⟩
theorem slices_reverseRangeOrdered_int_C_ok:Good Tryz.prog 142 slices_reverseRangeOrdered_int_C:=good_dm
def kcD:Ctr:=⟨ "",slices_reverseRangeOrdered_int_C.as,slices_reverseRangeOrdered_int_C.rs,slices_reverseRangeOrdered_int_C.F,slices_reverseRangeOrdered_int_m0_M::slices_reverseRangeOrdered_int_C.mus,slices_reverseRangeOrdered_int_C.its⟩
theorem kfy:Good Tryz.prog 142 kcD:=(slices_reverseRangeOrdered_int_C_ok.more kfo)
def slices_partialInsertionSortOrdered_int_m0_M:CtrM:=⟨ "",[none,some (.i .i64),some (.i .i64)],⟨[(0,.mw 0)],[(0,.sl 3 (.i .i64))]⟩,1,⟨[(0,.mw 0),(1000000,.c .b)],[(0,.sl 3 (.i .i64))]⟩,1,1,fun x=>kbK x.1 x.2.1 x.2.2,false⟩
theorem kdn:slices_partialInsertionSortOrdered_int_m0_M.ok=true/\GoodM Tryz.prog 143 slices_partialInsertionSortOrdered_int_m0_M:=
 kan Tryz.func143 (by kernel_rfl) (An:=[(0,⟨⟨[(8,.c (.i .i64)),(7,.c (.i .i64))],[(0,.sl 3 (.i .i64))]⟩,⟨[],[(0,.sl 3 (.i .i64))]⟩,[2,1],[],2,true,""⟩),(8,⟨⟨[(7,.c (.i .i64))],[]⟩,⟨[(7,.c (.i .i64))],[]⟩,[8],[0],1,false,""⟩),(245,⟨⟨[],[(0,.sl 3 (.i .i64))]⟩,⟨[],[(0,.sl 3 (.i .i64))]⟩,[7,8],[],2,false,""⟩),(16,⟨⟨[(9,.c (.i .i64))],[(0,.sl 3 (.i .i64))]⟩,⟨[],[(0,.sl 3 (.i .i64))]⟩,[],[],2,false,""⟩),(24,⟨⟨[(10,.c (.i .i64))],[(0,.sl 3 (.i .i64))]⟩,⟨[],[(0,.sl 3 (.i .i64))]⟩,[8,7],[],3,false,""⟩)]) [(144,kbF)] (.cons kbo <| .nil) (fun x=>by kernel_rfl)
def slices_partialInsertionSortOrdered_int_C:Ctr:=⟨ "",[],[],fun _=>none,[],[]⟩
theorem slices_partialInsertionSortOrdered_int_C_ok:Good Tryz.prog 143 slices_partialInsertionSortOrdered_int_C:=good_dm
def kbE:Ctr:=⟨ "",slices_partialInsertionSortOrdered_int_C.as,slices_partialInsertionSortOrdered_int_C.rs,slices_partialInsertionSortOrdered_int_C.F,slices_partialInsertionSortOrdered_int_m0_M::slices_partialInsertionSortOrdered_int_C.mus,slices_partialInsertionSortOrdered_int_C.its⟩
theorem kdx:Good Tryz.prog 143 kbE:=(slices_partialInsertionSortOrdered_int_C_ok.more kdn)
def slices_partitionEqualOrdered_int_m0_M:CtrM:=⟨ "",[none,some (.i .i64),some (.i .i64),some (.i .i64)],⟨[(0,.mw 0)],[(0,.sl 3 (.i .i64))]⟩,1,⟨[(0,.mw 0),(1000000,.c (.i .i64))],[(0,.sl 3 (.i .i64))]⟩,1,1,fun x=>kcp x.1 x.2.1 x.2.2.1 x.2.2.2,false⟩
theorem keO:slices_partitionEqualOrdered_int_m0_M.ok=true/\GoodM Tryz.prog 145 slices_partitionEqualOrdered_int_m0_M:=
 kan Tryz.func145 (by kernel_rfl) (An:=[(0,⟨⟨[(9,.c (.i .i64)),(10,.c (.i .i64))],[(0,.sl 3 (.i .i64))]⟩,⟨[(9,.c (.i .i64))],[(0,.sl 3 (.i .i64))]⟩,[1],[],2,false,""⟩),(8,⟨⟨[(9,.c (.i .i64))],[]⟩,⟨[(9,.c (.i .i64))],[]⟩,[10],[0],1,false,""⟩),(16,⟨⟨[(10,.c (.i .i64))],[]⟩,⟨[(10,.c (.i .i64))],[]⟩,[9],[0],1,false,""⟩)]) [(144,kbF)] (.cons kbo <| .nil) (fun x=>by kernel_rfl)
def slices_partitionEqualOrdered_int_C:Ctr:=⟨ "",[],[],fun _=>none,[],[]⟩
theorem slices_partitionEqualOrdered_int_C_ok:Good Tryz.prog 145 slices_partitionEqualOrdered_int_C:=good_dm
def kcn:Ctr:=⟨ "",slices_partitionEqualOrdered_int_C.as,slices_partitionEqualOrdered_int_C.rs,slices_partitionEqualOrdered_int_C.F,slices_partitionEqualOrdered_int_m0_M::slices_partitionEqualOrdered_int_C.mus,slices_partitionEqualOrdered_int_C.its⟩
theorem kfd:Good Tryz.prog 145 kcn:=(slices_partitionEqualOrdered_int_C_ok.more keO)
def slices_partitionOrdered_int_m0_M:CtrM:=⟨ "",[none,some (.i .i64),some (.i .i64),some (.i .i64)],⟨[(0,.mw 0)],[(0,.sl 3 (.i .i64))]⟩,1,⟨[(0,.mw 0),(1000000,.c (.i .i64)),(1000001,.c .b)],[(0,.sl 3 (.i .i64))]⟩,1,2,fun x=>kdE x.1 x.2.1 x.2.2.1 x.2.2.2,false⟩
theorem kgn:slices_partitionOrdered_int_m0_M.ok=true/\GoodM Tryz.prog 146 slices_partitionOrdered_int_m0_M:=
 kan Tryz.func146 (by kernel_rfl) (An:=[(0,⟨⟨[(10,.c (.i .i64))],[]⟩,⟨[(10,.c (.i .i64))],[]⟩,[11,1],[0],1,false,""⟩),(8,⟨⟨[(11,.c (.i .i64))],[]⟩,⟨[(11,.c (.i .i64))],[]⟩,[10,1],[0],1,false,""⟩),(16,⟨⟨[(10,.c (.i .i64)),(11,.c (.i .i64))],[(0,.sl 3 (.i .i64))]⟩,⟨[(11,.c (.i .i64))],[(0,.sl 3 (.i .i64))]⟩,[1],[],2,false,""⟩),(24,⟨⟨[(10,.c (.i .i64))],[]⟩,⟨[(10,.c (.i .i64))],[]⟩,[11],[0],1,false,""⟩),(32,⟨⟨[(11,.c (.i .i64))],[]⟩,⟨[(11,.c (.i .i64))],[]⟩,[10],[0],1,false,""⟩)]) [(144,kbF)] (.cons kbo <| .nil) (fun x=>by kernel_rfl)
def slices_partitionOrdered_int_C:Ctr:=⟨ "",[],[],fun _=>none,[],[]⟩
theorem slices_partitionOrdered_int_C_ok:Good Tryz.prog 146 slices_partitionOrdered_int_C:=good_dm
def kdl:Ctr:=⟨ "",slices_partitionOrdered_int_C.as,slices_partitionOrdered_int_C.rs,slices_partitionOrdered_int_C.F,slices_partitionOrdered_int_m0_M::slices_partitionOrdered_int_C.mus,slices_partitionOrdered_int_C.its⟩
theorem kgz:Good Tryz.prog 146 kdl:=(slices_partitionOrdered_int_C_ok.more kgn)
def kbJ (k:Nat):CtrM:=⟨ "",[none,some (.i .i64),some (.i .i64),some (.i .i64)],⟨[(0,.mw 0)],[(0,.sl 3 (.i .i64))]⟩,1,⟨[(0,.mw 0)],[(0,.sl 3 (.i .i64))]⟩,1,0,fun x=>kbQ k x.1 x.2.1 x.2.2.1 x.2.2.2,false⟩
theorem kdg:∀ k,(kbJ k).ok=true/\GoodM Tryz.prog 135 (kbJ k)
 | 0=>kjV (by kernel_rfl) (fun x=>rfl)
 | k+1=>kan Tryz.func135 (by kernel_rfl) (An:=[(0,⟨⟨[(2,.c (.i .i64)),(1,.c (.i .i64)),(3,.c (.i .i64)),(8,.c .b),(9,.c .b)],[(0,.sl 3 (.i .i64))]⟩,⟨[],[(0,.sl 3 (.i .i64))]⟩,[],[],1,true,""⟩),(141,⟨⟨[],[(0,.sl 3 (.i .i64))]⟩,⟨[(3,.c (.i .i64))],[(0,.sl 3 (.i .i64))]⟩,[1,2,8,9,10],[],2,false,""⟩),(201,⟨⟨[],[(0,.sl 3 (.i .i64))]⟩,⟨[(12,.c (.i .i64)),(11,.c (.i .i64))],[(0,.sl 3 (.i .i64))]⟩,[1,2,8,9,3,10],[],3,false,""⟩),(62,⟨⟨[],[]⟩,⟨[(68,.c .b)],[]⟩,[8,9,12,1,2,11,3,10],[0],3,false,""⟩),(273,⟨⟨[],[(0,.sl 3 (.i .i64))]⟩,⟨[],[(0,.sl 3 (.i .i64))]⟩,[1,2,11,3,8,9,10],[],4,true,""⟩),(70,⟨⟨[],[]⟩,⟨[(87,.c .b)],[]⟩,[1,11,2,3,8,9,10],[0],4,false,""⟩)]) ((135,⟨ "",[],[],fun _=>none,[kbJ k],[]⟩)::[(146,kdl),(145,kcn),(143,kbE),(142,kcD),(140,kcu),(139,kdw),(138,kco),(141,kdi),(144,kbF)]) (.cons (good_dm.more (kdg k)) <| .cons kgz <| .cons kfd <| .cons kdx <| .cons kfy <| .cons kfi <| .cons kgG <| .cons kfl <| .cons kgw <| .cons kbo <| .nil) (fun x=>by kernel_rfl)
def slices_pdqsortOrdered_int_m0_M:CtrM:=⟨ "",[none,some (.i .i64),some (.i .i64),some (.i .i64)],⟨[(0,.mw 0)],[(0,.sl 3 (.i .i64))]⟩,1,⟨[(0,.mw 0)],[(0,.sl 3 (.i .i64))]⟩,1,0,fun x=>ker x.1 x.2.1 x.2.2.1 x.2.2.2,false⟩
theorem kgD:slices_pdqsortOrdered_int_m0_M.ok=true/\GoodM Tryz.prog 135 slices_pdqsortOrdered_int_m0_M:=kdg 1000000
def slices_pdqsortOrdered_int_C:Ctr:=⟨ "",[],[],fun _=>none,[],[]⟩
theorem slices_pdqsortOrdered_int_C_ok:Good Tryz.prog 135 slices_pdqsortOrdered_int_C:=good_dm
def kdW:Ctr:=⟨ "",slices_pdqsortOrdered_int_C.as,slices_pdqsortOrdered_int_C.rs,slices_pdqsortOrdered_int_C.F,slices_pdqsortOrdered_int_m0_M::slices_pdqsortOrdered_int_C.mus,slices_pdqsortOrdered_int_C.its⟩
theorem khj:Good Tryz.prog 135 kdW:=(slices_pdqsortOrdered_int_C_ok.more kgD)
def slices_Sort_s_int_int_m0_M:CtrM:=⟨ "",[none],⟨[(0,.mw 0)],[(0,.sl 3 (.i .i64))]⟩,1,⟨[(0,.mw 0)],[(0,.sl 3 (.i .i64))]⟩,1,0,fun x=>kfF x,false⟩
theorem kiq:slices_Sort_s_int_int_m0_M.ok=true/\GoodM Tryz.prog 130 slices_Sort_s_int_int_m0_M:=
 kan Tryz.func130 (by kernel_rfl) (An:=[]) [(135,kdW),(136,khP)] (.cons khj <| .cons kjm <| .nil) (fun x=>by kernel_rfl)
def slices_Sort_s_int_int_C:Ctr:=⟨ "",[],[],fun _=>none,[],[]⟩
theorem slices_Sort_s_int_int_C_ok:Good Tryz.prog 130 slices_Sort_s_int_int_C:=good_dm
def kfr:Ctr:=⟨ "",slices_Sort_s_int_int_C.as,slices_Sort_s_int_int_C.rs,slices_Sort_s_int_int_C.F,slices_Sort_s_int_int_m0_M::slices_Sort_s_int_int_C.mus,slices_Sort_s_int_int_C.its⟩
theorem kiH:Good Tryz.prog 130 kfr:=(slices_Sort_s_int_int_C_ok.more kiq)
def slices_Sorted_int_m0_M:CtrM:=⟨ "",[none],⟨[(0,.fn 131 [.ptr 0 0])],[(0,.bx 31 [.c (.sl (.i .i64))])]⟩,1,⟨[(1000000,.mw 1)],[(1,.sl 3 (.i .i64))]⟩,2,1,fun x=>khQ x,false⟩
theorem kjQ:slices_Sorted_int_m0_M.ok=true/\GoodM Tryz.prog 117 slices_Sorted_int_m0_M:=
 kan Tryz.func117 (by kernel_rfl) (An:=[]) [(130,kfr),(129,kgV),(131,kau)] (.cons kiH <| .cons kjW <| .cons kaw <| .nil) (fun x=>by kernel_rfl)
def slices_Sorted_int_C:Ctr:=⟨ "",[],[],fun _=>none,[],[]⟩
theorem slices_Sorted_int_C_ok:Good Tryz.prog 117 slices_Sorted_int_C:=good_dm
def khy:Ctr:=⟨ "",slices_Sorted_int_C.as,slices_Sorted_int_C.rs,slices_Sorted_int_C.F,slices_Sorted_int_m0_M::slices_Sorted_int_C.mus,slices_Sorted_int_C.its⟩
theorem kkn:Good Tryz.prog 117 khy:=(slices_Sorted_int_C_ok.more kjQ)
def kre:Ctr:=⟨ "",[(.sl (.i .i64)),(.i .i64)],[.b],fun x=>kuH x.1 x.2,[],[]⟩
theorem ksR:Good Tryz.prog 88 kre:=
 kad Tryz.func88 (by kernel_rfl) (An:=[(0,⟨⟨[(11,.c (.i .i64))],[]⟩,⟨[],[]⟩,[10,9,0,1],[1],2,true,""⟩)]) [(117,khy),(118,keB),(131,kau)] (.cons kkn <| .cons khY <| .cons kaw <| .nil) (fun x=>by kernel_rfl)
def kkI:Ctr:=⟨ "",[(.sl (.i .i64)),(.pt (.i .i64))],[.b],fun x=>kmc x.1 x.2,[],[]⟩
theorem knr:Good Tryz.prog 115 kkI:=
 kad Tryz.func115 (by kernel_rfl) (An:=[]) [(88,kre)] (.cons ksR <| .nil) (fun x=>by kernel_rfl)
def kdc:Ctr:=⟨ "",[(.sl (.sl (.i .i64))),(.fn 1 (.sl (.i .i64)) .b)],[(.i .i64)],fun x=>kdH x.1 x.2,[],[]⟩
theorem kgi:Good Tryz.prog 126 kdc:=
 kad Tryz.func126 (by kernel_rfl) (An:=[(0,⟨⟨[(8,.c (.i .i64))],[]⟩,⟨[],[]⟩,[7,1,0],[],0,true,""⟩)]) [] (.nil) (fun x=>by kernel_rfl)
def kct:Ctr:=⟨ "",[(.sl (.sl (.i .i64))),(.fn 1 (.sl (.i .i64)) .b)],[.b],fun x=>kcL x.1 x.2,[],[]⟩
theorem kfh:Good Tryz.prog 114 kct:=
 kad Tryz.func114 (by kernel_rfl) (An:=[]) [(126,kdc)] (.cons kgi <| .nil) (fun x=>by kernel_rfl)
def knj:Ctr:=⟨ "",[(.sl (.sl (.i .i64)))],[.b],fun x=>kph x,[],[]⟩
theorem kpK:Good Tryz.prog 83 knj:=
 kad Tryz.func83 (by kernel_rfl) (An:=[]) [(114,kct),(115,kkI),(66,kga)] (.cons kfh <| .cons knr <| .cons keT <| .nil) (fun x=>by kernel_rfl)
def kjE:Ctr:=⟨ "",[(.i .u32),(.i .u32)],[(.i .u32),(.i .u32)],fun x=>kqT x.1 x.2,[],[]⟩
theorem kmN:Good Tryz.prog 127 kjE:=
 kad Tryz.func127 (by kernel_rfl) (An:=[]) [] (.nil) (fun x=>by kernel_rfl)
def kjJ:Ctr:=⟨ "",[(.i .u64),(.i .u64)],[(.i .u64),(.i .u64)],fun x=>kkW x.1 x.2,[],[]⟩
theorem kmR:Good Tryz.prog 128 kjJ:=
 kad Tryz.func128 (by kernel_rfl) (An:=[]) [] (.nil) (fun x=>by kernel_rfl)
def kkZ:Ctr:=⟨ "",[(.i .u64),(.i .u64)],[(.i .u64),(.i .u64)],fun x=>knb x.1 x.2,[],[]⟩
theorem knL:Good Tryz.prog 116 kkZ:=
 kad Tryz.func116 (by kernel_rfl) (An:=[]) [(128,kjJ),(127,kjE)] (.cons kmR <| .cons kmN <| .nil) (fun x=>by kernel_rfl)
def kjF:Ctr:=⟨ "",[(.i .i64),(.pt (.sl (.i .i64)))],[.b],fun x=>klf x.1 x.2,[],[]⟩
theorem kmE:Good Tryz.prog 87 kjF:=
 kad Tryz.func87 (by kernel_rfl) (An:=[]) [] (.nil) (fun x=>by kernel_rfl)
def klL:Ctr:=⟨ "",[(.i .i64),(.pt (.sl (.sl (.i .i64)))),(.pt (.sl (.i .i64)))],[(.i .i64)],fun x=>kfZ x.1 x.2.1 x.2.2,[],[]⟩
theorem koL:Good Tryz.prog 85 klL:=
 kad Tryz.func85 (by kernel_rfl) (An:=[]) [(87,kjF),(86,kce)] (.cons kmE <| .cons kdk <| .nil) (fun x=>by kernel_rfl)
def slices_Repeat_s_int_int_m0_M:CtrM:=⟨ "",[some (.sl (.i .i64)),some (.i .i64)],⟨[],[]⟩,0,⟨[(1000000,.mw 0)],[(0,.sl 3 (.i .i64))]⟩,1,1,fun x=>kfb x.1 x.2,false⟩
theorem khG:slices_Repeat_s_int_int_m0_M.ok=true/\GoodM Tryz.prog 84 slices_Repeat_s_int_int_m0_M:=
 kan Tryz.func84 (by kernel_rfl) (An:=[(41,⟨⟨[],[]⟩,⟨[],[]⟩,[0,1],[],1,false,""⟩),(18,⟨⟨[],[]⟩,⟨[(26,.c .b)],[]⟩,[5,6,0],[],1,false,""⟩),(105,⟨⟨[],[]⟩,⟨[],[]⟩,[6,0],[],1,false,""⟩),(0,⟨⟨[(8,.c (.i .i64)),(7,.mw 1)],[(1,.sl 3 (.i .i64))]⟩,⟨[(7,.mw 2)],[(2,.sl 3 (.i .i64))]⟩,[],[],3,false,""⟩)]) [(116,kkZ)] (.cons knL <| .nil) (fun x=>by kernel_rfl)
def slices_Repeat_s_int_int_B32:Ctr:=⟨ "",[],[],fun _=>none,[],[]⟩
theorem slices_Repeat_s_int_int_B32_ok:Good Tryz.prog 84 slices_Repeat_s_int_int_B32:=good_dm
def keD:Ctr:=⟨ "",slices_Repeat_s_int_int_B32.as,slices_Repeat_s_int_int_B32.rs,slices_Repeat_s_int_int_B32.F,slices_Repeat_s_int_int_m0_M::slices_Repeat_s_int_int_B32.mus,slices_Repeat_s_int_int_B32.its⟩
theorem khJ:Good Tryz.prog 84 keD:=(slices_Repeat_s_int_int_B32_ok.more khG)
def kpy:Ctr:=⟨ "",[(.sl (.sl (.i .i64)))],[(.sl (.i .i64)),(.i .i64)],fun x=>ksv x,[],[]⟩
theorem krl:Good Tryz.prog 35 kpy:=
 kad Tryz.func35 (by kernel_rfl) (An:=[(0,⟨⟨[(25,.c (.i .i64)),(4,.ptr 5 0),(5,.fn 85 [.ptr 0 0,.ptr 5 0])],[(5,.bx 31 [.mw 3]),(3,.sl 3 (.i .i64))]⟩,⟨[(4,.ptr 6 0)],[(6,.bx 31 [.mw 7]),(7,.sl 3 (.i .i64))]⟩,[24,1],[0],8,false,""⟩),(8,⟨⟨[(4,.ptr 5 0),(5,.fn 85 [.ptr 0 0,.ptr 5 0])],[(5,.bx 31 [.mw 3]),(3,.sl 3 (.i .i64))]⟩,⟨[(4,.ptr 6 0),(5,.fn 85 [.ptr 0 0,.ptr 6 0])],[(6,.bx 31 [.mw 7]),(7,.sl 3 (.i .i64))]⟩,[6,25],[],8,false,""⟩),(16,⟨⟨[(36,.c (.i .i64)),(7,.c (.i .i64))],[]⟩,⟨[(7,.c (.i .i64))],[]⟩,[35,5,4],[5,3],6,false,""⟩),(24,⟨⟨[(9,.c (.i .i64)),(8,.mw 6)],[(6,.sl 3 (.i .i64))]⟩,⟨[(8,.mw 7)],[(7,.sl 3 (.i .i64))]⟩,[7,5,4],[5,3],8,false,""⟩),(32,⟨⟨[(59,.c (.i .i64)),(10,.mw 8)],[(8,.sl 3 (.i .i64))]⟩,⟨[(10,.mw 9)],[(9,.sl 3 (.i .i64))]⟩,[58,57,5,8,4],[7,5,3],10,false,""⟩),(40,⟨⟨[(72,.c (.i .i64)),(4,.ptr 5 0),(5,.fn 85 [.ptr 0 0,.ptr 5 0])],[(5,.bx 31 [.mw 3]),(3,.sl 3 (.i .i64))]⟩,⟨[(4,.ptr 10 0),(5,.fn 85 [.ptr 0 0,.ptr 10 0])],[(10,.bx 31 [.mw 11]),(11,.sl 3 (.i .i64))]⟩,[71,70,10],[7,9],12,false,""⟩)]) [(84,keD),(85,klL),(83,knj)] (.cons khJ <| .cons koL <| .cons kpK <| .nil) (fun x=>by kernel_rfl)
def kjK:Ctr:=⟨ "",[(.sl (.pr (.i .i64) (.pr (.i .u8) (.i .i64)))),(.sl (.pr (.i .i64) (.pr (.i .u8) (.i .i64))))],[.b],fun x=>klc x.1 x.2,[],[]⟩
theorem kmi:Good Tryz.prog 16 kjK:=
 kad Tryz.func16 (by kernel_rfl) (An:=[(0,⟨⟨[(5,.c (.i .i64))],[]⟩,⟨[],[]⟩,[0,1],[],0,true,""⟩)]) [] (.nil) (fun x=>by kernel_rfl)
def kkP:Ctr:=⟨ "",[(.sl (.i .i64)),(.sl (.i .i64))],[.b],fun x=>kei x.1 x.2,[],[]⟩
theorem knn:Good Tryz.prog 41 kkP:=
 kad Tryz.func41 (by kernel_rfl) (An:=[(0,⟨⟨[(5,.c (.i .i64))],[]⟩,⟨[],[]⟩,[0,1],[],0,true,""⟩)]) [] (.nil) (fun x=>by kernel_rfl)
def klZ:Ctr:=⟨ "",[],[.b],fun x=>kor,[],[]⟩
theorem koM:Good Tryz.prog 13 klZ:=
 kad Tryz.func13 (by kernel_rfl) (An:=[]) [(8000013,kaX),(8000017,kaX),(8000019,kaX),(8000036,kaX),(8000042,kaX),(8000044,kaX),(8000049,kaX),(8000050,kaX),(8000051,kaX),(8000052,kaX),(8000062,kaX),(8000078,kaX),(8000089,kaX),(8000103,kaX),(8000123,kaX),(41,kkP),(16,kjK),(35,kpy),(28,kkH),(46,kmU),(23,ksE),(19,kqY),(45,knA),(44,klX),(15,koc),(43,kio)] (.cons kay <| .cons kay <| .cons kay <| .cons kay <| .cons kay <| .cons kay <| .cons kay <| .cons kay <| .cons kay <| .cons kay <| .cons kay <| .cons kay <| .cons kay <| .cons kay <| .cons kay <| .cons knn <| .cons kmi <| .cons krl <| .cons klj <| .cons kqc <| .cons ktk <| .cons kta <| .cons kqW <| .cons koX <| .cons kok <| .cons khO <| .nil) (fun x=>by kernel_rfl)
def knl:Ctr:=⟨ "",[],[.b],fun x=>law08_alive,[],[]⟩
theorem kpG:Good Tryz.prog 13 knl:=by
 have h:=koM
 unfold klZ at h
 rw [kyg] at h
 exact h
def klP:Ctr:=⟨ "",[(.i .i64),(.i .i64),(.i .i64)],[.b],fun x=>kin x.1 x.2.1 x.2.2,[],[]⟩
theorem koS:Good Tryz.prog 63 klP:=
 kad Tryz.func63 (by kernel_rfl) (An:=[]) [] (.nil) (fun x=>by kernel_rfl)
def knF:Ctr:=⟨ "",[(.sl (.pr (.i .i64) (.pr (.i .u8) (.i .i64))))],[.b],fun x=>keL x,[],[]⟩
theorem kqu:Good Tryz.prog 49 knF:=
 kad Tryz.func49 (by kernel_rfl) (An:=[(0,⟨⟨[(4,.c (.i .i64)),(3,.c (.i .i64))],[]⟩,⟨[(3,.c (.i .i64))],[]⟩,[0],[],0,false,""⟩)]) [(63,klP)] (.cons koS <| .nil) (fun x=>by kernel_rfl)
def kkG:Ctr:=⟨ "",[(.sl (.sl (.pr (.i .i64) (.pr (.i .u8) (.i .i64)))))],[.b],fun x=>khS x,[],[]⟩
theorem kkY:Good Tryz.prog 14 kkG:=
 kad Tryz.func14 (by kernel_rfl) (An:=[(0,⟨⟨[(7,.c (.i .i64))],[]⟩,⟨[],[]⟩,[6,5],[],0,true,""⟩)]) [(49,knF)] (.cons kqu <| .nil) (fun x=>by kernel_rfl)
def knd:Ctr:=⟨ "",[(.sl (.sl (.pr (.i .i64) (.pr (.i .u8) (.i .i64))))),(.sl (.i .i64))],[.b],fun x=>kiZ x.1 x.2,[],[]⟩
theorem kpR:Good Tryz.prog 27 knd:=
 kad Tryz.func27 (by kernel_rfl) (An:=[]) [(14,kkG)] (.cons kkY <| .nil) (fun x=>by kernel_rfl)
def klt:Ctr:=⟨ "",[(.sl (.pr (.i .i64) (.pr (.i .u8) (.i .i64)))),(.i .i64),(.i .u8)],[(.i .i64)],fun x=>kjc x.1 x.2.1 x.2.2,[],[]⟩
theorem klK:Good Tryz.prog 30 klt:=
 kad Tryz.func30 (by kernel_rfl) (An:=[(0,⟨⟨[(7,.c (.i .i64))],[]⟩,⟨[],[]⟩,[0,1,2],[],0,true,""⟩),(18,⟨⟨[],[]⟩,⟨[(29,.c .b)],[]⟩,[7],[],0,false,""⟩)]) [] (.nil) (fun x=>by kernel_rfl)
def kpq:Ctr:=⟨ "",[(.sl (.sl (.pr (.i .i64) (.pr (.i .u8) (.i .i64))))),(.sl (.i .u8)),(.i .u8),(.pr (.i .i64) (.pr (.i .u8) (.i .i64)))],[(.i .i64)],fun x=>kll x.1 x.2.1 x.2.2.1 x.2.2.2,[],[]⟩
theorem krt:Good Tryz.prog 31 kpq:=
 kad Tryz.func31 (by kernel_rfl) (An:=[(0,⟨⟨[(14,.c (.i .i64)),(9,.c (.i .i64))],[]⟩,⟨[(9,.c (.i .i64))],[]⟩,[13,12,1,2,7],[0],1,false,""⟩)]) [(30,klt)] (.cons klK <| .nil) (fun x=>by kernel_rfl)
def knk:Ctr:=⟨ "",[(.sl (.pr (.i .i64) (.pr (.i .u8) (.i .i64)))),(.sl (.sl (.pr (.i .i64) (.pr (.i .u8) (.i .i64))))),(.sl (.i .u8)),(.i .u8)],[.b],fun x=>kgM x.1 x.2.1 x.2.2.1 x.2.2.2,[],[]⟩
theorem kpM:Good Tryz.prog 29 knk:=
 kad Tryz.func29 (by kernel_rfl) (An:=[(0,⟨⟨[(15,.c (.i .i64))],[]⟩,⟨[],[]⟩,[14,13,2,3,1,0],[],0,true,""⟩),(8,⟨⟨[(22,.c (.i .i64))],[]⟩,⟨[],[]⟩,[21,20,9,15],[],0,true,""⟩)]) [(31,kpq),(30,klt)] (.cons krt <| .cons klK <| .nil) (fun x=>by kernel_rfl)
def kdD:Ctr:=⟨ "",[(.sl (.i .u8)),(.sl (.i .u8))],[(.i .i64)],fun x=>kbl x.1 x.2,[],[]⟩
theorem khd:Good Tryz.prog 82 kdD:=
 kad Tryz.func82 (by kernel_rfl) (An:=[(0,⟨⟨[(11,.c (.i .i64))],[]⟩,⟨[],[]⟩,[10,9,1,0],[],0,true,""⟩)]) [(113,kfj)] (.cons kgE <| .nil) (fun x=>by kernel_rfl)
def kps:Ctr:=⟨ "",[(.sl (.pr (.i .i64) (.pr (.i .u8) (.i .i64)))),(.sl (.pr (.i .i64) (.pr (.i .u8) (.i .i64)))),(.sl (.sl (.pr (.i .i64) (.pr (.i .u8) (.i .i64))))),(.sl (.i .i64))],[(.sl (.i .u8)),(.i .i64),(.i .i64)],fun x=>kjs x.1 x.2.1 x.2.2.1 x.2.2.2,[],[]⟩
theorem krO:Good Tryz.prog 33 kps:=
 kad Tryz.func33 (by kernel_rfl) (An:=[(113,⟨⟨[],[]⟩,⟨[(11,.c (.i .i64))],[]⟩,[6,7,1,0],[0,1],4,false,""⟩),(0,⟨⟨[],[(5,.bx 31 [.mw 4]),(4,.sl 3 (.i .i64))]⟩,⟨[],[(5,.bx 31 [.mw 9]),(9,.sl 3 (.i .i64))]⟩,[37,0,6,12,7],[0,1],10,false,""⟩),(8,⟨⟨[],[(11,.bx 60 [.c (.sl (.i .u8))]),(12,.bx 3 [.c (.i .i64)])]⟩,⟨[],[(11,.bx 60 [.c (.sl (.i .u8))]),(12,.bx 3 [.c (.i .i64)])]⟩,[46,14,15,12,6,7],[5,9,0,1],17,false,""⟩),(16,⟨⟨[(51,.c (.i .i64))],[(12,.bx 3 [.c (.i .i64)]),(11,.bx 60 [.c (.sl (.i .u8))])]⟩,⟨[],[(11,.bx 60 [.c (.sl (.i .u8))]),(12,.bx 3 [.c (.i .i64)])]⟩,[50,49,16],[],17,false,""⟩),(24,⟨⟨[(64,.c (.i .i64)),(19,.mw 15)],[(15,.sl 5 (.i .u8))]⟩,⟨[(19,.mw 16)],[(16,.sl 5 (.i .u8))]⟩,[63,18,51],[12,11],17,false,""⟩)]) [(82,kdD),(131,kau),(76,kjx),(75,kjt),(109,keq),(74,kjA),(50,kbR)] (.cons khd <| .cons kaw <| .cons kkF <| .cons kkt <| .cons kec <| .cons kkA <| .cons kbD <| .nil) (fun x=>by kernel_rfl)
def koY:Ctr:=⟨ "",[(.sl (.pr (.i .i64) (.pr (.i .u8) (.i .i64)))),(.sl (.pr (.i .i64) (.pr (.i .u8) (.i .i64)))),(.sl (.sl (.pr (.i .i64) (.pr (.i .u8) (.i .i64))))),(.sl (.i .i64))],[.b],fun x=>kib x.1 x.2.1 x.2.2.1 x.2.2.2,[],[]⟩
theorem law08_BoxShared_C_ok:Good Tryz.prog 8 koY:=
 kad Tryz.func8 (by kernel_rfl) (An:=[(26,⟨⟨[],[]⟩,⟨[(8,.c .b)],[]⟩,[9,10,11],[],1,false,""⟩),(0,⟨⟨[(89,.c (.i .i64)),(13,.c (.i .i64))],[]⟩,⟨[(13,.c (.i .i64))],[]⟩,[88,87,3,0,2,1,11,9],[],1,true,""⟩)]) [(33,kps),(29,knk),(27,knd),(14,kkG),(13,knl),(28,kkH),(15,koc)] (.cons krO <| .cons kpM <| .cons kpR <| .cons kkY <| .cons kpG <| .cons klj <| .cons kok <| .nil) (fun x=>by kernel_rfl)
end Go.Abs
namespace Go.Abs
open Go
abbrev It:=Int×Int×Int
def vP (x:It):Bool:=decide (0<=x.1)&&decide (x.1<=15)&&decide (x.2.1<=15)
def ltI (x y:It):Bool:=decide (x.1<y.1)||(x.1==y.1&&decide (x.2.1<y.2.1))
def okN (x:It):Bool:=decide (1<=x.2.2)&&decide (x.2.2<=1000)
def badI (l:List It) (i:Nat) (x:It):Bool:=!vP x||(decide (0<i)&&!ltI ((l[i-1]?).getD x) x)
def ordI (a b:Int×Int):Int:=if a.1<b.1 then -1 else if b.1<a.1 then 1 else if a.2<b.2 then -1 else if b.2<a.2 then 1 else 0
def stk (l:List It):Bool:=decide (l.length<=30)&&!(l.zipIdx.any fun x=>badI l x.2 x.1)&&l.all okN
@[simp] theorem kla (n lo hi:Int):kin n lo hi=some (decide (lo<=n)&&decide (n<=hi)):=by
 unfold kin; by_cases h:lo<=n <;> simp [h]
@[simp] theorem kAa (lo hi n:Int):kfQ lo hi n=some (decide (lo<=n)&&decide (n<=hi)):=by
 unfold kfQ; by_cases h:lo<=n <;> simp [h]
@[simp] theorem koO (x:It):kcc (x.1,x.2.1)=some (vP x):=by
 unfold kcc vP
 by_cases h1:0<=x.1 <;> by_cases h2:x.1<=15 <;> simp [h1,h2]
def cmpI (a b:Int):Int:=if a<b then -1 else if b<a then 1 else 0
@[simp] theorem kmH (a b:Int):kcs a b=some (cmpI a b):=by
 unfold kcs kdu cmpI
 by_cases h1:a<b <;> by_cases h2:b<a <;> simp [h1,h2]
@[simp] theorem ksz (a b:Int):kcF a b=some (cmpI a b):=by
 unfold kcF kfq cmpI
 by_cases h1:a<b <;> by_cases h2:b<a <;> simp [h1,h2]
@[simp] theorem ksu (a b:Int):kia [a,b]=some (if a≠0 then a else b):=by
 unfold kia
 rw [kgc (F:=khf [a,b]) [a,b] (by simp) (fun i x=>if x != 0 then some x else none) (fun i hi=>by
  unfold khf
  have h2:i<2:=by simpa using hi
  rw [if_pos (by rw [kah]; simp; omega),kat hi,kaR (by omega)]
  simp only [jag]
  by_cases h:([a,b][i] != 0)=true <;> simp [h,nextL]) (by unfold khf; rw [if_neg (by simp [kah])])]
 simp only [jbs,List.zipIdx_nil,jdv,List.findSome?_nil]
 by_cases ha:a=0
 ·by_cases hb:b=0 <;> simp [ha,hb,endL]
 ·simp [ha,endL]
theorem knB (a b:Int×Int):kfJ a b=some (ordI a b):=by
 unfold kfJ ordI
 simp only [kmH,ksz,jag,ksu,cmpI]
 by_cases h1:a.1<b.1
 ·simp [h1]
 ·by_cases h2:b.1<a.1 <;> simp [h1,h2]
theorem kzu (x y:It):decide (0<=ordI (x.1,x.2.1) (y.1,y.2.1)) = !ltI x y:=by
 unfold ordI ltI
 by_cases h1:x.1<y.1
 ·simp [h1]
 ·by_cases h2:y.1<x.1
  ·simp [h1,h2]; omega
  ·have h3:x.1=y.1:=by omega
   by_cases h4:x.2.1<y.2.1
   ·simp [h1,h2,h3,h4]
   ·by_cases h5:y.2.1<x.2.1 <;> simp [h1,h2,h3,h4,h5]
theorem kxf {l:List It} {i:Nat} (hi:i<l.length) (x:It):(l[i-1]?).getD x=l[i-1]:=by rw [jaf (by omega)]; rfl
theorem ksc (l:List It) (hl:l.length<=1000):kcI l 30 (fun u=>(kbm u).bind fun v=>some v)=some (!(l.zipIdx.any fun x=>badI l x.2 x.1)&&decide (l.length<=30)):=by
 unfold kcI
 rw [ksl (F:=kbW l _) false l (by omega) (badI l) (fun i hi=>?_) (by unfold kbW; rw [if_neg (by simp [kah])])]
 ·by_cases h:(l.zipIdx.any fun x=>badI l x.2 x.1)=true
  rotate_left
  ·rw [jbt] at h
   simp only [h,jal,if_false,jag,Bool.not_false,Bool.true_and,kah]
   congr 2; simp only [eq_iff_iff]; omega
  ·simp [h]
 ·unfold kbW
  rw [if_pos (by rw [kah]; simpa using hi),kat hi,kaR (by omega)]
  simp only [jag,kbm,koO,badI]
  by_cases hv:vP l[i]=true
  rotate_left
  ·rw [jbt] at hv; simp [hv]
  ·simp only [hv,Bool.not_true,jal,if_false,jdl]
   by_cases h0:0<i
   ·rw [if_pos (by simpa using h0),kxO h0 (by omega),kat (by omega)]
    simp only [jag,knB,kzu,kxf hi,h0,decide_true,Bool.true_and]
    by_cases h9:ltI l[i-1] l[i]=true <;> simp [h9]
   ·have:i=0:=by omega
    subst this; simp
theorem kyV {α:Type} (p:α->Bool) (l:List α):(l.any fun x=>!p x) = !l.all p:=by
 induction l with
 | nil=>rfl
 | cons x l ih=>simp only [List.any_cons,jdw,ih,Bool.not_and]
theorem kpg (l:List It) (hl:l.length<=1000) (p:It->Bool):kas l (fun x=>some (p x))=some (l.any p):=by
 unfold kas kbh
 rw [kgc (F:=kaC l _) l (by omega) (fun i x=>if p x then some (i:Int) else none) (fun i hi=>by
  unfold kaC
  rw [if_pos (by rw [kah]; simpa using hi),kat hi,kaR (by omega)]
  simp only [jag]
  by_cases h:p l[i]=true <;> simp [h,nextL]) (by unfold kaC; rw [if_neg (by simp [kah])])]
 have:∀ (l:List It) (k:Nat),endL ((l.zipIdx k).findSome? fun x=>if p x.1 then some (x.2:Int) else none)=(if l.any p then .inl ((k:Int)+(l.findIdx p:Nat)) else .inr ()):=by
  intro l
  induction l with
  | nil=>intro k; rfl
  | cons x l ih=>
   intro k
   rw [jbs,jdv,List.any_cons,List.findIdx_cons]
   cases hp:p x with
   | true=>simp [endL]
   | false=>
    simp only [jal,if_false,jdl,cond_false]
    rw [ih (k+1)]
    congr 2; push_cast; omega
 rw [this l 0]
 by_cases h:l.any p=true <;> simp [h]
theorem knV (l:List It) (hl:l.length<=1000):kjh l=some (if stk l then 0 else 8):=by
 unfold kjh
 rw [ksc l hl]
 have e:(fun u0:It=>(khL u0).bind fun u1=>some u1)=fun u=>some (!okN u):=by
  funext u; simp [khL,okN]
 rw [e,kpg l hl,kyV]
 simp only [jag,stk]
 by_cases h1:(l.zipIdx.any fun x=>badI l x.2 x.1)=true <;> by_cases h2:l.length<=30 <;> by_cases h3:l.all okN=true <;> (try rw [jbt] at h1) <;> (try rw [jbt] at h3) <;> simp only [h1,h2,h3] <;> rfl
def key (x:It):Int:=16*x.1+x.2.1
def look:List It->Int->Int
 | [],_=>0
 | x::l,q=>if key x=q then x.2.2 else look l q
def srt (l:List It):Prop:=l.Pairwise fun x y=>key x<key y
def Vld (l:List It):Prop:=∀ x∈l,0<=x.1/\x.1<=15/\0<=x.2.1/\x.2.1<=15
theorem kdI:∀ {l:List It} {q:Int},(∀ x∈l,key x≠q)->look l q=0
 | [],q,_=>rfl
 | x::l,q,h=>by
  simp only [look]
  rw [if_neg (h x (by simp)),kdI fun y hy=>h y (by simp [hy])]
theorem kkc:∀ {l:List It} {x:It},srt l->x∈l->look l (key x)=x.2.2
 | [],x,_,h=>by cases h
 | y::l,x,hs,h=>by
  simp only [srt,jdq] at hs
  simp only [look]
  rcases jaw.1 h with rfl | h
  ·simp
  ·have:=hs.1 x h
   rw [if_neg (by omega)]
   exact kkc hs.2 h
theorem kyX {x y:It} (hx:0<=x.2.1/\x.2.1<=15) (hy:0<=y.2.1/\y.2.1<=15) (h:key x=key y):x.1=y.1/\x.2.1=y.2.1:=by
 unfold key at h
 omega
theorem uniq:∀ {l l':List It},srt l->srt l'->Vld l->Vld l'->(∀ x∈l,x.2.2≠0)->(∀ x∈l',x.2.2≠0)->(∀ q,look l q=look l' q)->l=l'
 | [],[],_,_,_,_,_,_,_=>rfl
 | [],y::l',_,_,_,_,_,hn,h=>by
  have:=h (key y)
  simp only [look,if_true] at this
  exact absurd this.symm (hn y (by simp))
 | x::l,[],_,_,_,_,hn,_,h=>by
  have:=h (key x)
  simp only [look,if_true] at this
  exact absurd this (hn x (by simp))
 | x::l,y::l',hs,hs',hv,hv',hn,hn',h=>by
  have s1:=hs
  have s2:=hs'
  simp only [srt,jdq] at s1 s2
  have hk:key x=key y:=by
   rcases Int.lt_trichotomy (key x) (key y) with h1 | h1 | h1
   ·have e:=h (key x)
    simp only [look,if_true] at e
    rw [if_neg (by omega),kdI (fun z hz=>by have:=s2.1 z hz; omega)] at e
    exact absurd e (hn x (by simp))
   ·exact h1
   ·have e:=h (key y)
    simp only [look,if_true] at e
    rw [if_neg (by omega),kdI (fun z hz=>by have:=s1.1 z hz; omega)] at e
    exact absurd e.symm (hn' y (by simp))
  have hN:x.2.2=y.2.2:=by
   have e:=h (key x)
   simp only [look,if_true] at e
   rw [if_pos hk.symm] at e
   exact e
  have vx:=hv x (by simp)
  have vy:=hv' y (by simp)
  obtain ⟨e1,e2⟩:=kyX ⟨vx.2.2.1,vx.2.2.2⟩ ⟨vy.2.2.1,vy.2.2.2⟩ hk
  have hxy:x=y:=by
   obtain ⟨a,b,c⟩:=x
   obtain ⟨a',b',c'⟩:=y
   simp only at e1 e2 hN
   subst e1; subst e2; subst hN; rfl
  subst hxy
  rw [uniq s1.2 s2.2 (fun z hz=>hv z (by simp [hz])) (fun z hz=>hv' z (by simp [hz])) (fun z hz=>hn z (by simp [hz])) (fun z hz=>hn' z (by simp [hz])) fun q=>by
   have e:=h q
   simp only [look] at e
   by_cases hq:key x=q
   ·rw [kdI (fun z hz=>by have:=s1.1 z hz; omega),kdI (fun z hz=>by have:=s2.1 z hz; omega)]
   ·rw [if_neg hq,if_neg hq] at e; exact e]
structure Stk (l:List It):Prop where
 v:Vld l
 s:srt l
 n:∀ x∈l,1<=x.2.2/\x.2.2<=1000
 len:l.length<=30
theorem kvQ {x y:It} (hx:0<=x.2.1/\x.2.1<=15) (hy:0<=y.2.1/\y.2.1<=15):ltI x y=decide (key x<key y):=by
 unfold ltI key
 rw [Bool.eq_iff_iff]
 simp only [jat,jaj,jac,beq_iff_eq]
 omega
theorem kmY {l:List It} {p:Nat->It->Bool} (h:(l.zipIdx.any fun x=>p x.2 x.1)=false) (i:Nat) (hi:i<l.length):p i l[i]=false:=by
 rw [List.any_eq_false] at h
 have:=h (l[i],i) (by rw [jde]; simp [hi])
 simpa using this
theorem klI {l:List It} (h:stk l=true) (hc:∀ x∈l,0<=x.2.1):Stk l:=by
 unfold stk at h
 simp only [jac,jbk,jaj] at h
 obtain ⟨⟨h1,h2⟩,h3⟩:=h
 have hv:∀ x∈l,vP x=true:=fun x hx=>by
  obtain ⟨i,hi,rfl⟩:=jdh.1 hx
  have:=kmY h2 i hi
  unfold badI at this
  simp only [jbn,Bool.not_eq_false'] at this
  exact this.1
 have hV:Vld l:=fun x hx=>by
  have:=hv x hx
  unfold vP at this
  simp only [jac,jaj] at this
  exact ⟨this.1.1,this.1.2,hc x hx,this.2⟩
 refine ⟨hV,?_,fun x hx=>?_,h1⟩
 ·have adj:∀ i,(hi:i+1<l.length)->key l[i]<key l[i+1]:=fun i hi=>by
   have:=kmY h2 (i+1) hi
   unfold badI at this
   simp only [jbn,jdz,Nat.succ_pos,decide_true,Bool.true_eq_false,false_or,Nat.add_sub_cancel,Bool.not_eq_false'] at this
   have h5:=this.2
   rw [jaf (by omega),jca] at h5
   have v1:=hV l[i] (jcf _)
   have v2:=hV l[i+1] (jcf _)
   rw [kvQ ⟨v1.2.2.1,v1.2.2.2⟩ ⟨v2.2.2.1,v2.2.2.2⟩] at h5
   simpa using h5
  refine List.pairwise_iff_getElem.2 fun i j hi hj hij=>?_
  have:∀ d,(hd:i+d+1<l.length)->key l[i]<key l[i+d+1]:=by
   intro d
   induction d with
   | zero=>intro hd; exact adj i hd
   | succ d ih=>
    intro hd
    have h6:=ih (by omega)
    have h7:=adj (i+d+1) hd
    exact Int.lt_trans h6 h7
  have h8:=this (j-i-1) (by omega)
  have e:i+(j-i-1)+1=j:=by omega
  simpa only [e] using h8
 ·have:=jam.1 h3 x hx
  unfold okN at this
  simpa using this
theorem kzI {l:List It} (hv:Vld l) (hs:srt l):stk l=(decide (l.length<=30)&&l.all okN):=by
 unfold stk
 have:(l.zipIdx.any fun x=>badI l x.2 x.1)=false:=by
  rw [List.any_eq_false]
  intro x hx
  rw [jde] at hx
  obtain ⟨hi,e⟩:=jad.1 hx
  obtain ⟨y,i⟩:=x
  simp only at hi e
  subst e
  have v1:=hv l[i] (jcf _)
  unfold badI vP
  simp only [jbt,jbn,Bool.not_eq_false',jac,jaj,jdz]
  refine ⟨⟨⟨v1.1,v1.2.1⟩,v1.2.2.2⟩,?_⟩
  by_cases h0:0<i
  ·right
   rw [jaf (by omega),jca]
   have v2:=hv l[i-1] (jcf _)
   rw [kvQ ⟨v2.2.2.1,v2.2.2.2⟩ ⟨v1.2.2.1,v1.2.2.2⟩]
   simpa using List.pairwise_iff_getElem.1 hs (i-1) i (by omega) hi (by omega)
  ·left; simpa using h0
 rw [this]; simp
theorem kaW {l:List It} (h:Stk l) (q:Int):0<=look l q/\look l q<=1000:=by
 have hn:=h.n
 clear h
 induction l with
 | nil=>simp [look]
 | cons x l ih=>
  simp only [look]
  split
  ·have:=hn x (by simp); omega
  ·exact ih fun y hy=>hn y (by simp [hy])
theorem kop {l:List It} (hv:Vld l) (hl:l.length<=1000) {k c:Int} (hc:0<=c/\c<=15):kjc l k c=some (look l (16*k+c)):=by
 unfold kjc
 rw [kgc (F:=kid l k c) l (by omega) (fun i x=>if x.1=k/\x.2.1=c then some x.2.2 else none) (fun i hi=>by
  unfold kid
  rw [if_pos (by rw [kah]; simpa using hi),kat hi,kaR (by omega)]
  simp only [jag]
  by_cases h1:l[i].1=k <;> by_cases h2:l[i].2.1=c <;> simp [h1,h2,nextL]) (by unfold kid; rw [if_neg (by simp [kah])])]
 have:∀ (l:List It) (i:Nat),Vld l->((l.zipIdx i).findSome? fun x=>if x.1.1=k/\x.1.2.1=c then some x.1.2.2 else none).getD 0=look l (16*k+c):=by
  intro l
  induction l with
  | nil=>intro i _; rfl
  | cons x l ih=>
   intro i hv
   have vx:=hv x (by simp)
   have hk:(key x=16*k+c)↔(x.1=k/\x.2.1=c):=by unfold key; omega
   rw [jbs,jdv]
   simp only [look]
   by_cases h:x.1=k/\x.2.1=c
   ·rw [if_pos (hk.2 h),if_pos h]; rfl
   ·rw [if_neg (fun e=>h (hk.1 e)),if_neg h]
    exact ih (i+1) fun y hy=>hv y (by simp [hy])
 have e:=this l 0 hv
 simp only [jag]
 generalize (l.zipIdx.findSome? fun x=>if x.1.1=k/\x.1.2.1=c then some x.1.2.2 else none)=o at e ⊢
 cases o with
 | none=>rw [<-e]; rfl
 | some v=>rw [<-e]; rfl
end Go.Abs
