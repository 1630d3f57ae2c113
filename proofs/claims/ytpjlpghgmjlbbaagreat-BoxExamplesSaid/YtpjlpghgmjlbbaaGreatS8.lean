/- The functions and the law, part 8. -/
import Derived.Test.YtpjlpghgmjlbbaaGreatProg
import Derived.Test.YtpjlpghgmjlbbaaGreatZ3
import Derived.Test.YtpjlpghgmjlbbaaGreatZ6
set_option linter.constructorNameAsVariable false
set_option linter.unusedVariables false
set_option linter.unusedSimpArgs false
set_option linter.unusedSectionVars false
namespace Go.Abs
open Go
@[reducible] def kvb:Ty:=(.pr (.i .i64) (.sl (.i .i64)))
abbrev kai:=(Int×(List Int))
@[reducible] def tBill:Ty:=(.pr (.sl (.i .i64)) (.pr (.sl (.pr (.i .i64) (.pr (.i .u8) (.i .i64)))) (.i .i64)))
abbrev Bill:=((List Int)×(List (Int×Int×Int))×Int)
@[reducible] def kxJ:Ty:=(.pr (.sl (.i .i64)) (.pr (.i .i64) (.sl (.pr (.i .i64) (.pr (.i .u8) (.i .i64))))))
abbrev knH:=((List Int)×Int×(List (Int×Int×Int)))
@[reducible] def tLine:Ty:=(.pr (.i .i64) (.pr (.i .i64) (.pr (.i .i64) (.pr (.pr (.i .i64) (.i .u8)) .b))))
abbrev Line:=(Int×Int×Int×(Int×Int)×Bool)
@[reducible] def tFlow:Ty:=(.pr (.sl (.pr (.i .i64) (.pr (.i .u8) (.i .i64)))) (.pr (.sl (.sl (.i .i64))) (.pr (.sl (.sl (.i .i64))) (.sl (.i .i64)))))
abbrev Flow:=((List (Int×Int×Int))×(List (List Int))×(List (List Int))×(List Int))
@[reducible] def tSwap:Ty:=(.pr (.i .i64) (.pr (.i .u8) (.pr (.i .i64) (.i .u8))))
abbrev Swap:=(Int×Int×Int×Int)
def kam (x0:Int) (x1:Int) (x2:Int):Option (Int×Int×Int):=
 (some (x0,x1,x2))
def kbJ (x0:Int) (x1:Int) (x2:Int):Option Bool:=
 (if (decide (x0<=x2))=true then (some (decide (x2<=x1))) else (some false))
def kmY (x0:(Int×Int×Int)):Option Bool:=
 ((kbJ 1 1000 x0.2.2).bind fun v0=>(some (!v0)))
def kdW (x0:(Int×Int)):Option Bool:=
 ((kbJ 0 15 x0.1).bind fun v0=>(if v0=true then (some (decide (x0.2<=15))) else (some false)))
def kez (x0:Int):Option Bool:=
 (some (x0 != x0))
def kca (x0:Int) (x1:Int):Option Int:=
 ((kez x0).bind fun v0=>((kez x1).bind fun v1=>(if v0=true then (if v1=true then (some 0) else (some (-1))) else (if v1=true then (some 1) else (if (decide (x0<x1))=true then (some (-1)) else (if (decide (x1<x0))=true then (some 1) else (some 0)))))))
def khp (x0:Int):Option Bool:=
 (some (x0 != x0))
def kge (x0:Int) (x1:Int):Option Int:=
 ((khp x0).bind fun v0=>((khp x1).bind fun v1=>(if v0=true then (if v1=true then (some 0) else (some (-1))) else (if v1=true then (some 1) else (if (decide (x0<x1))=true then (some (-1)) else (if (decide (x1<x0))=true then (some 1) else (some 0)))))))
def krR (x0:(List Int)) (v0:Int):Option (Int⊕(Int⊕Unit)):=
 (if (decide (v0<(lenI x0)))=true then ((gi x0 v0).bind fun v1=>(if (v1 != 0)=true then (some (.inr (.inl v1))) else (some (.inl (w64 (v0+1)))))) else (some (.inr (.inr ()))))
def kjt (x0:(List Int)):Option Int:=
 ((iter (krR x0) 0).bind fun v2=>(match v2 with | .inl v3=>(some v3) | .inr v4=>(some 0)))
def kix (x0:(Int×Int)) (x1:(Int×Int)):Option Int:=
 ((kca x0.1 x1.1).bind fun v0=>((kge x0.2 x1.2).bind fun v1=>((kjt [v0,v1]).bind fun v2=>(some v2))))
def kko (x0:(List (Int×Int×Int))) (x2:((Int×Int×Int)->Option (Int×Int))) (v0:Int):Option (Int⊕(Bool⊕Unit)):=
 (if (decide (v0<(lenI x0)))=true then ((gi x0 v0).bind fun v1=>((x2 v1).bind fun v2=>((kdW v2).bind fun v3=>(if (!v3)=true then (some (.inr (.inl false))) else (if (decide (0<v0))=true then ((gi x0 (w64 (v0-1))).bind fun v4=>((x2 v4).bind fun v5=>((x2 v1).bind fun v6=>((kix v5 v6).bind fun v7=>(if (decide (0<=v7))=true then (some (.inr (.inl false))) else (some (.inl (w64 (v0+1))))))))) else (some (.inl (w64 (v0+1))))))))) else (some (.inr (.inr ()))))
def khK (x0:(List (Int×Int×Int))) (x1:Int) (x2:((Int×Int×Int)->Option (Int×Int))):Option Bool:=
 ((iter (kko x0 x2) 0).bind fun v8=>(match v8 with | .inl v9=>(some v9) | .inr v10=>(some (decide ((lenI x0)<=x1)))))
def kbP (x0:(Int×Int×Int)):Option (Int×Int):=
 (some (x0.1,x0.2.1))
def keA (x0:(List (Int×Int×Int))) (x1:((Int×Int×Int)->Option Bool)) (v0:Int):Option (Int⊕(Int⊕Unit)):=
 (if (decide (v0<(lenI x0)))=true then ((gi x0 v0).bind fun v1=>((x1 v1).bind fun v2=>(if v2=true then (some (.inr (.inl v0))) else (some (.inl (w64 (v0+1))))))) else (some (.inr (.inr ()))))
def kbR (x0:(List (Int×Int×Int))) (x1:((Int×Int×Int)->Option Bool)):Option Int:=
 ((iter (keA x0 x1) 0).bind fun v3=>(match v3 with | .inl v4=>(some v4) | .inr v5=>(some (-1))))
def kaN (x0:(List (Int×Int×Int))) (x1:((Int×Int×Int)->Option Bool)):Option Bool:=
 ((kbR x0 x1).bind fun v0=>(some (decide (0<=v0))))
def kkA (x0:(List (Int×Int×Int))):Option Int:=
 ((khK x0 30 (fun (u0:(Int×Int×Int))=>((kbP u0).bind fun u1=>(some u1)))).bind fun v0=>(if (!v0)=true then (some 8) else ((kaN x0 (fun (u0:(Int×Int×Int))=>((kmY u0).bind fun u1=>(some u1)))).bind fun v1=>(if v1=true then (some 8) else (some 0)))))
def kqE (x0:(List (List (Int×Int×Int)))) (v0:Int):Option (Int⊕(Int⊕Unit)):=
 (if (decide (v0<(lenI x0)))=true then ((gi x0 v0).bind fun v1=>((kkA v1).bind fun v2=>(if (v2 != 0)=true then (some (.inr (.inl v2))) else (some (.inl (w64 (v0+1))))))) else (some (.inr (.inr ()))))
def kcv (x0:(List (List (Int×Int×Int)))):Option Int:=
 ((iter (kqE x0) 0).bind fun v3=>(match v3 with | .inl v4=>(some v4) | .inr v5=>(some 0)))
def kop (x0:(List (Int×Int×Int))) (x1:(List (Int×Int×Int))):Option Int:=
 (if ((lenI x0)==0)=true then (some 1) else (if ((lenI x1)==0)=true then (some (-1)) else ((gi x0 0).bind fun v0=>((kbP v0).bind fun v1=>((gi x1 0).bind fun v2=>((kbP v2).bind fun v3=>((kix v1 v3).bind fun v4=>(some v4))))))))
def ksd (x2:((Int×Int)->Option Int)) (v0:((List (Int×Int×Int))×(List (Int×Int×Int))×(List (Int×Int×Int)))):Option (((List (Int×Int×Int))×(List (Int×Int×Int))×(List (Int×Int×Int)))⊕(List (Int×Int×Int))):=
 ((if (decide (0<(lenI v0.1)))=true then (some true) else (some (decide (0<(lenI v0.2.1))))).bind fun v1=>(if v1=true then ((kop v0.1 v0.2.1).bind fun v2=>((if (decide (v2<=0))=true then ((gi v0.1 0).bind fun v3=>((gi v0.1 0).bind fun v4=>((gsl v0.1 1 (lenI v0.1)).bind fun v5=>((if (v2==0)=true then ((gi v0.2.1 0).bind fun v6=>((gsl v0.2.1 1 (lenI v0.2.1)).bind fun v7=>(some (v6.2.2,v7)))) else (some (0,v0.2.1))).bind fun v8=>(some (v4.2.2,v8.1,v5,v8.2,v3)))))) else ((gi v0.2.1 0).bind fun v9=>((gi v0.2.1 0).bind fun v10=>((gsl v0.2.1 1 (lenI v0.2.1)).bind fun v11=>(some (0,v10.2.2,v0.1,v11,v9)))))).bind fun v12=>((x2 (v12.1,v12.2.1)).bind fun v13=>(if (v13 != 0)=true then ((gapp v0.2.2 [(v12.2.2.2.2.1,v12.2.2.2.2.2.1,v13)]).bind fun v14=>(some (.inl (v12.2.2.1,v12.2.2.2.1,v14)))) else (some (.inl (v12.2.2.1,v12.2.2.2.1,v0.2.2))))))) else (some (.inr v0.2.2))))
def klG (x0:(List (Int×Int×Int))) (x1:(List (Int×Int×Int))) (x2:((Int×Int)->Option Int)):Option (List (Int×Int×Int)):=
 ((iter (ksd x2) (x0,x1,[])).bind fun v15=>(some v15))
def kpY (x0:Int) (x1:Int):Option Int:=
 (some (w64 (x0+x1)))
def kqY (x0:(List (Int×Int×Int))) (x1:(List (Int×Int×Int))):Option ((List (Int×Int×Int))×Int):=
 ((kcv [x0,x1]).bind fun v0=>(if (v0 != 0)=true then (some ([],v0)) else ((klG x0 x1 (fun (u0:(Int×Int))=>((kpY u0.1 u0.2).bind fun u1=>(some u1)))).bind fun v1=>((kkA v1).bind fun v2=>(if (v2 != 0)=true then (some ([],4)) else (some (v1,0)))))))
def law08_needed:Option (List (Int×Int×Int)):=
 ((kam 1 1 3).bind fun v0=>((kam 2 1 2).bind fun v1=>(some [v0,v1])))
def law08_swap:Option (List Swap):=
 (some [(2,1,1,1)])
def kje (x0:Swap):Option Bool:=
 ((bthO tSwap (some x0) (some x0)).bind fun v0=>((kdW (v0.1,v0.2.1)).bind fun v1=>(if (!v1)=true then (some true) else ((kdW v0.2.2).bind fun v2=>(if (!v2)=true then (some true) else (some ((v0.1==v0.2.2.1)&&(v0.2.1==v0.2.2.2))))))))
def keD (x0:(List Swap)) (x1:(Swap->Option Bool)) (v0:Int):Option (Int⊕(Int⊕Unit)):=
 (if (decide (v0<(lenI x0)))=true then ((gi x0 v0).bind fun v1=>((x1 v1).bind fun v2=>(if v2=true then (some (.inr (.inl v0))) else (some (.inl (w64 (v0+1))))))) else (some (.inr (.inr ()))))
def kbV (x0:(List Swap)) (x1:(Swap->Option Bool)):Option Int:=
 ((iter (keD x0 x1) 0).bind fun v3=>(match v3 with | .inl v4=>(some v4) | .inr v5=>(some (-1))))
def kbB (x0:(List Swap)) (x1:(Swap->Option Bool)):Option Bool:=
 ((kbV x0 x1).bind fun v0=>(some (decide (0<=v0))))
def kfH (x0:(List Swap)):Option Int:=
 (if (decide (30<(lenI x0)))=true then (some 2) else ((kbB x0 (fun (u0:Swap)=>((kje u0).bind fun u1=>(some u1)))).bind fun v0=>(if v0=true then (some 2) else (some 0))))
def kfQ (x0:(List Swap)) (x1:Swap) (v0:Int):Option (Int⊕(Int⊕Unit)):=
 (if (decide (v0<(lenI x0)))=true then ((gi x0 v0).bind fun v1=>(if ((x1.1==v1.1)&&((x1.2.1==v1.2.1)&&((x1.2.2.1==v1.2.2.1)&&(x1.2.2.2==v1.2.2.2))))=true then (some (.inr (.inl v0))) else (some (.inl (w64 (v0+1)))))) else (some (.inr (.inr ()))))
def kcG (x0:(List Swap)) (x1:Swap):Option Int:=
 ((iter (kfQ x0 x1) 0).bind fun v2=>(match v2 with | .inl v3=>(some v3) | .inr v4=>(some (-1))))
def kcb (x0:(List Swap)) (x1:Swap):Option Bool:=
 ((kcG x0 x1).bind fun v0=>(some (decide (0<=v0))))
def kqw (x0:(List Swap)) (x1:(Int×Int)) (x2:(Int×Int)):Option Bool:=
 (if ((x1.1==x2.1)&&(x1.2==x2.2))=true then (some true) else ((kcb x0 (x1.1,x1.2,x2)).bind fun v0=>(some v0)))
def kkl (rec_box_flow_short_c1_m0:Int->(List Bool)->(Option Flow)->Option ((List Bool)×(Option Flow))) (v6:Int) (v7:Flow) (v8:(Int×(Option Flow)×(List Bool))):Option ((Int×(Option Flow)×(List Bool))⊕((Option Flow)×(List Bool))):=
 (if (decide (v8.1<(lenI v7.2.2.1)))=true then (v8.2.1.bind fun v9=>((gi v9.2.2.1 v8.1).bind fun v10=>((gi v10 v6).bind fun v11=>(if (decide (0<v11))=true then ((rec_box_flow_short_c1_m0 v8.1 v8.2.2 v8.2.1).bind fun v12=>(some (.inl ((w64 (v8.1+1)),v12.2,v12.1)))) else (some (.inl ((w64 (v8.1+1)),v8.2))))))) else (some (.inr v8.2)))
def kkn (rec_box_flow_short_c1_m0:Int->(List Bool)->(Option Flow)->Option ((List Bool)×(Option Flow))) (v4:(List Int)) (v5:(Int×(Option Flow)×(List Bool))):Option ((Int×(Option Flow)×(List Bool))⊕((Option Flow)×(List Bool))):=
 (if (decide (v5.1<(lenI v4)))=true then ((gi v4 v5.1).bind fun v6=>(v5.2.1.bind fun v7=>((iter (kkl rec_box_flow_short_c1_m0 v6 v7) (0,v5.2)).bind fun v13=>(some (.inl ((w64 (v5.1+1)),v13)))))) else (some (.inr v5.2)))
def kkM (rec_box_flow_short_c1_m0:Int->(List Bool)->(Option Flow)->Option ((List Bool)×(Option Flow))) (x0:Int) (x1:(List Bool)) (x2:(Option Flow)):Option ((List Bool)×(Option Flow)):=
 ((gi x1 x0).bind fun v0=>((gi x1 x0).bind fun v1=>(if v1=true then (some (x1,x2)) else ((gi x1 x0).bind fun v2=>(x2.bind fun v3=>((gi v3.2.1 x0).bind fun v4=>((iter (kkn rec_box_flow_short_c1_m0 v4) (0,x2,(lset x1 x0 true))).bind fun v14=>(some (v14.2,v14.1)))))))))
def kdw:Nat->Int->(List Bool)->(Option Flow)->Option ((List Bool)×(Option Flow))
 | 0,_,_,_=>none
 | k+1,x0,x1,x2=>kkM (kdw k) x0 x1 x2
def khi (x0:Int) (x1:(List Bool)) (x2:(Option Flow)):Option ((List Bool)×(Option Flow)):=kdw 1000000 x0 x1 x2
def koa (x0:(List (Int×Int×Int))) (v3:(Int×(List (Int×Int×Int))×(List Int))):Option ((Int×(List (Int×Int×Int))×(List Int))⊕((List (Int×Int×Int))×(List Int))):=
 (if (decide (v3.1<(lenI x0)))=true then ((gi x0 v3.1).bind fun v4=>((gapp v3.2.2 [v4.2.2]).bind fun v5=>(some (.inl ((w64 (v3.1+1)),v3.2.1,v5))))) else (some (.inr v3.2)))
def kok (x0:(List (Int×Int×Int))) (x2:(List Swap)) (v8:(Int×Int×Int)) (v9:kai):Option (kai⊕(List Int)):=
 (if (decide (v9.1<(lenI x0)))=true then ((gi x0 v9.1).bind fun v10=>((kbP v8).bind fun v11=>((kbP v10).bind fun v12=>((kqw x2 v11 v12).bind fun v13=>(if v13=true then ((gapp v9.2 [v9.1]).bind fun v14=>(some (.inl ((w64 (v9.1+1)),v14)))) else (some (.inl ((w64 (v9.1+1)),v9.2)))))))) else (some (.inr v9.2)))
def koh (x0:(List (Int×Int×Int))) (x1:(List (Int×Int×Int))) (x2:(List Swap)) (v7:(Int×(List (Int×Int×Int))×(List (List Int))×(List (List Int)))):Option ((Int×(List (Int×Int×Int))×(List (List Int))×(List (List Int)))⊕((List (Int×Int×Int))×(List (List Int))×(List (List Int)))):=
 (if (decide (v7.1<(lenI x1)))=true then ((gi x1 v7.1).bind fun v8=>((iter (kok x0 x2 v8) (0,[])).bind fun v15=>(bthO (.sm (.pr (.i .i64) (.pr (.sl (.pr (.i .i64) (.pr (.i .u8) (.i .i64)))) (.pr (.sl (.sl (.i .i64))) (.sl (.sl (.i .i64)))))) (.pr (.sl (.pr (.i .i64) (.pr (.i .u8) (.i .i64)))) (.pr (.sl (.sl (.i .i64))) (.sl (.sl (.i .i64)))))) ((gapp v7.2.2.1 [v15]).bind fun v16=>((gmk (lenI x0) 0).bind fun v17=>((gapp v7.2.2.2 [v17]).bind fun v18=>(some (.inl ((w64 (v7.1+1)),v7.2.1,v16,v18)))))) (bthO (.sm (.pr (.i .i64) (.pr (.sl (.pr (.i .i64) (.pr (.i .u8) (.i .i64)))) (.pr (.sl (.sl (.i .i64))) (.sl (.sl (.i .i64)))))) (.pr (.sl (.pr (.i .i64) (.pr (.i .u8) (.i .i64)))) (.pr (.sl (.sl (.i .i64))) (.sl (.sl (.i .i64)))))) ((gmk (lenI x0) 0).bind fun v19=>((gapp v7.2.2.1 [v15]).bind fun v20=>((gapp v7.2.2.2 [v19]).bind fun v21=>(some (.inl ((w64 (v7.1+1)),v7.2.1,v20,v21)))))) (bthO (.sm (.pr (.i .i64) (.pr (.sl (.pr (.i .i64) (.pr (.i .u8) (.i .i64)))) (.pr (.sl (.sl (.i .i64))) (.sl (.sl (.i .i64)))))) (.pr (.sl (.pr (.i .i64) (.pr (.i .u8) (.i .i64)))) (.pr (.sl (.sl (.i .i64))) (.sl (.sl (.i .i64)))))) ((gmk (lenI x0) 0).bind fun v22=>((gapp v7.2.2.1 [v15]).bind fun v23=>((gapp v7.2.2.2 [v22]).bind fun v24=>(some (.inl ((w64 (v7.1+1)),v7.2.1,v23,v24)))))) (bthO (.sm (.pr (.i .i64) (.pr (.sl (.pr (.i .i64) (.pr (.i .u8) (.i .i64)))) (.pr (.sl (.sl (.i .i64))) (.sl (.sl (.i .i64)))))) (.pr (.sl (.pr (.i .i64) (.pr (.i .u8) (.i .i64)))) (.pr (.sl (.sl (.i .i64))) (.sl (.sl (.i .i64)))))) ((gmk (lenI x0) 0).bind fun v25=>((gapp v7.2.2.1 [v15]).bind fun v26=>((gapp v7.2.2.2 [v25]).bind fun v27=>(some (.inl ((w64 (v7.1+1)),v7.2.1,v26,v27)))))) (bthO (.sm (.pr (.i .i64) (.pr (.sl (.pr (.i .i64) (.pr (.i .u8) (.i .i64)))) (.pr (.sl (.sl (.i .i64))) (.sl (.sl (.i .i64)))))) (.pr (.sl (.pr (.i .i64) (.pr (.i .u8) (.i .i64)))) (.pr (.sl (.sl (.i .i64))) (.sl (.sl (.i .i64)))))) ((gmk (lenI x0) 0).bind fun v28=>((gapp v7.2.2.1 [v15]).bind fun v29=>((gapp v7.2.2.2 [v28]).bind fun v30=>(some (.inl ((w64 (v7.1+1)),v7.2.1,v29,v30)))))) ((gmk (lenI x0) 0).bind fun v31=>((gapp v7.2.2.1 [v15]).bind fun v32=>((gapp v7.2.2.2 [v31]).bind fun v33=>(some (.inl ((w64 (v7.1+1)),v7.2.1,v32,v33))))))))))))) else (some (.inr v7.2)))
def kdV (x0:(List (Int×Int×Int))) (x1:(List (Int×Int×Int))) (x2:(List Swap)):Option Int:=
 ((kcv [x0,x1]).bind fun v0=>((if (v0==0)=true then ((kfH x2).bind fun v1=>(some v1)) else (some v0)).bind fun v2=>(if (v2 != 0)=true then (some v2) else ((iter (koa x0) (0,x1,[])).bind fun v6=>((iter (koh x0 x1 x2) (0,v6.1,[],[])).bind fun v34=>none)))))
def knY (x0:(List (Int×Int×Int))) (v3:(Int×(List (Int×Int×Int))×(List Int))):Option ((Int×(List (Int×Int×Int))×(List Int))⊕((List (Int×Int×Int))×(List Int))):=
 (if (decide (v3.1<(lenI x0)))=true then ((gi x0 v3.1).bind fun v4=>((gapp v3.2.2 [v4.2.2]).bind fun v5=>(some (.inl ((w64 (v3.1+1)),v3.2.1,v5))))) else (some (.inr v3.2)))
def kob (x0:(List (Int×Int×Int))) (x2:(List Swap)) (v8:(Int×Int×Int)) (v9:kai):Option (kai⊕(List Int)):=
 (if (decide (v9.1<(lenI x0)))=true then ((gi x0 v9.1).bind fun v10=>((kbP v8).bind fun v11=>((kbP v10).bind fun v12=>((kqw x2 v11 v12).bind fun v13=>(if v13=true then ((gapp v9.2 [v9.1]).bind fun v14=>(some (.inl ((w64 (v9.1+1)),v14)))) else (some (.inl ((w64 (v9.1+1)),v9.2)))))))) else (some (.inr v9.2)))
def koj (x0:(List (Int×Int×Int))) (x1:(List (Int×Int×Int))) (x2:(List Swap)) (v7:(Int×(List (Int×Int×Int))×(List (List Int))×(List (List Int)))):Option ((Int×(List (Int×Int×Int))×(List (List Int))×(List (List Int)))⊕((List (Int×Int×Int))×(List (List Int))×(List (List Int)))):=
 (if (decide (v7.1<(lenI x1)))=true then ((gi x1 v7.1).bind fun v8=>((iter (kob x0 x2 v8) (0,[])).bind fun v15=>(bthO (.sm (.pr (.i .i64) (.pr (.sl (.pr (.i .i64) (.pr (.i .u8) (.i .i64)))) (.pr (.sl (.sl (.i .i64))) (.sl (.sl (.i .i64)))))) (.pr (.sl (.pr (.i .i64) (.pr (.i .u8) (.i .i64)))) (.pr (.sl (.sl (.i .i64))) (.sl (.sl (.i .i64)))))) ((gapp v7.2.2.1 [v15]).bind fun v16=>((gmk (lenI x0) 0).bind fun v17=>((gapp v7.2.2.2 [v17]).bind fun v18=>(some (.inl ((w64 (v7.1+1)),v7.2.1,v16,v18)))))) (bthO (.sm (.pr (.i .i64) (.pr (.sl (.pr (.i .i64) (.pr (.i .u8) (.i .i64)))) (.pr (.sl (.sl (.i .i64))) (.sl (.sl (.i .i64)))))) (.pr (.sl (.pr (.i .i64) (.pr (.i .u8) (.i .i64)))) (.pr (.sl (.sl (.i .i64))) (.sl (.sl (.i .i64)))))) ((gmk (lenI x0) 0).bind fun v19=>((gapp v7.2.2.1 [v15]).bind fun v20=>((gapp v7.2.2.2 [v19]).bind fun v21=>(some (.inl ((w64 (v7.1+1)),v7.2.1,v20,v21)))))) (bthO (.sm (.pr (.i .i64) (.pr (.sl (.pr (.i .i64) (.pr (.i .u8) (.i .i64)))) (.pr (.sl (.sl (.i .i64))) (.sl (.sl (.i .i64)))))) (.pr (.sl (.pr (.i .i64) (.pr (.i .u8) (.i .i64)))) (.pr (.sl (.sl (.i .i64))) (.sl (.sl (.i .i64)))))) ((gmk (lenI x0) 0).bind fun v22=>((gapp v7.2.2.1 [v15]).bind fun v23=>((gapp v7.2.2.2 [v22]).bind fun v24=>(some (.inl ((w64 (v7.1+1)),v7.2.1,v23,v24)))))) (bthO (.sm (.pr (.i .i64) (.pr (.sl (.pr (.i .i64) (.pr (.i .u8) (.i .i64)))) (.pr (.sl (.sl (.i .i64))) (.sl (.sl (.i .i64)))))) (.pr (.sl (.pr (.i .i64) (.pr (.i .u8) (.i .i64)))) (.pr (.sl (.sl (.i .i64))) (.sl (.sl (.i .i64)))))) ((gmk (lenI x0) 0).bind fun v25=>((gapp v7.2.2.1 [v15]).bind fun v26=>((gapp v7.2.2.2 [v25]).bind fun v27=>(some (.inl ((w64 (v7.1+1)),v7.2.1,v26,v27)))))) (bthO (.sm (.pr (.i .i64) (.pr (.sl (.pr (.i .i64) (.pr (.i .u8) (.i .i64)))) (.pr (.sl (.sl (.i .i64))) (.sl (.sl (.i .i64)))))) (.pr (.sl (.pr (.i .i64) (.pr (.i .u8) (.i .i64)))) (.pr (.sl (.sl (.i .i64))) (.sl (.sl (.i .i64)))))) ((gmk (lenI x0) 0).bind fun v28=>((gapp v7.2.2.1 [v15]).bind fun v29=>((gapp v7.2.2.2 [v28]).bind fun v30=>(some (.inl ((w64 (v7.1+1)),v7.2.1,v29,v30)))))) ((gmk (lenI x0) 0).bind fun v31=>((gapp v7.2.2.1 [v15]).bind fun v32=>((gapp v7.2.2.2 [v31]).bind fun v33=>(some (.inl ((w64 (v7.1+1)),v7.2.1,v32,v33))))))))))))) else (some (.inr v7.2)))
def kdL (x0:(List (Int×Int×Int))) (x1:(List (Int×Int×Int))) (x2:(List Swap)):Option (Int×Flow):=
 ((kcv [x0,x1]).bind fun v0=>((if (v0==0)=true then ((kfH x2).bind fun v1=>(some v1)) else (some v0)).bind fun v2=>(if (v2 != 0)=true then none else ((iter (knY x0) (0,x1,[])).bind fun v6=>((iter (koj x0 x1 x2) (0,v6.1,[],[])).bind fun v34=>(some (0,v34.1,v34.2.1,v34.2.2,v6.2)))))))
def klP (x1:(List Bool)) (v1:(Int×(List Bool)×(Option Flow))):Option ((Int×(List Bool)×(Option Flow))⊕(List Bool)):=
 (if (decide (v1.1<(lenI x1)))=true then ((gi x1 v1.1).bind fun v2=>(if v2=true then ((khi v1.1 v1.2.1 v1.2.2).bind fun v3=>(some (.inl ((w64 (v1.1+1)),v3)))) else (some (.inl ((w64 (v1.1+1)),v1.2))))) else (some (.inr v1.2.1)))
def klS (v4:(List Bool)) (v5:kai):Option (kai⊕(List Int)):=
 (if (decide (v5.1<(lenI v4)))=true then ((gi v4 v5.1).bind fun v6=>((gi v4 v5.1).bind fun v7=>(if v7=true then ((gapp v5.2 [v5.1]).bind fun v8=>(some (.inl ((w64 (v5.1+1)),v8)))) else (some (.inl ((w64 (v5.1+1)),v5.2)))))) else (some (.inr v5.2)))
def kgd (x0:(Option Flow)) (x1:(List Bool)):Option (List Int):=
 ((gmk (lenI x1) false).bind fun v0=>((iter (klP x1) (0,v0,x0)).bind fun v4=>((iter (klS v4) (0,[])).bind fun v9=>(some v9))))
def kkJ (rec_box_flow_give_c1_m0:Int->Int->(List (Int×Int×Int))->(List (List Int))->(List (List Int))->(List Int)->(List Bool)->Option (Int×(List (Int×Int×Int))×(List (List Int))×(List (List Int))×(List Int)×(List Bool))) (x0:Int) (x1:Int) (v2:(Int×(List Bool)×Flow)) (v3:Int) (v22:(Int×(List (Int×Int×Int))×(List (List Int))×(List (List Int))×(List Int)×(List Bool))):Option ((Int×(List (Int×Int×Int))×(List (List Int))×(List (List Int))×(List Int)×(List Bool))⊕((Int×(List (Int×Int×Int))×(List (List Int))×(List (List Int))×(List Int)×(List Bool))⊕((List (Int×Int×Int))×(List (List Int))×(List (List Int))×(List Int)×(List Bool)))):=
 (if (decide (v22.1<(lenI v2.2.2.2.2.1)))=true then ((gi v22.2.2.2.1 v22.1).bind fun v23=>((gi v22.2.2.2.1 v22.1).bind fun v24=>((gi v22.2.2.2.1 v22.1).bind fun v25=>((gi v25 v3).bind fun v26=>((gi v22.2.2.2.1 v22.1).bind fun v27=>((gi v27 v3).bind fun v28=>(if (v28==0)=true then (some (.inl ((w64 (v22.1+1)),v22.2))) else ((gi v22.2.2.2.1 v22.1).bind fun v29=>((gi v22.2.2.2.1 v22.1).bind fun v30=>((gi v22.2.2.2.1 v22.1).bind fun v31=>((gi v31 v3).bind fun v32=>((gi v22.2.2.2.1 v22.1).bind fun v33=>((gi v33 v3).bind fun v34=>((rec_box_flow_give_c1_m0 v22.1 (imin x1 v34) v22.2.1 v22.2.2.1 v22.2.2.2.1 v22.2.2.2.2.1 v22.2.2.2.2.2).bind fun v35=>(if (decide (0<v35.1))=true then ((gi v35.2.2.2.1 v22.1).bind fun v36=>((gi v35.2.2.2.1 v22.1).bind fun v37=>((gi v35.2.2.2.1 v22.1).bind fun v38=>((gi v38 v3).bind fun v39=>((gi v35.2.2.2.1 v22.1).bind fun v40=>((gi v40 v3).bind fun v41=>((gi v35.2.2.2.1 v22.1).bind fun v42=>((gi v42 v3).bind fun v43=>((gi v35.2.2.2.1 v22.1).bind fun v44=>((gi v44 v3).bind fun v45=>((gi (lset v35.2.2.2.1 v22.1 (lset v44 v3 (w64 (v41-v35.1)))) x0).bind fun v46=>((gi (lset v35.2.2.2.1 v22.1 (lset v44 v3 (w64 (v41-v35.1)))) x0).bind fun v47=>((gi (lset v35.2.2.2.1 v22.1 (lset v44 v3 (w64 (v41-v35.1)))) x0).bind fun v48=>((gi v48 v3).bind fun v49=>((gi (lset v35.2.2.2.1 v22.1 (lset v44 v3 (w64 (v41-v35.1)))) x0).bind fun v50=>((gi v50 v3).bind fun v51=>((gi (lset v35.2.2.2.1 v22.1 (lset v44 v3 (w64 (v41-v35.1)))) x0).bind fun v52=>((gi v52 v3).bind fun v53=>((gi (lset v35.2.2.2.1 v22.1 (lset v44 v3 (w64 (v41-v35.1)))) x0).bind fun v54=>((gi v54 v3).bind fun v55=>(some (.inr (.inl (v35.1,v35.2.1,v35.2.2.1,(lset (lset v35.2.2.2.1 v22.1 (lset v44 v3 (w64 (v41-v35.1)))) x0 (lset v54 v3 (w64 (v51+v35.1)))),v35.2.2.2.2)))))))))))))))))))))))) else (some (.inl ((w64 (v22.1+1)),v35.2)))))))))))))))))) else (some (.inr (.inr v22.2))))
def kkR (rec_box_flow_give_c1_m0:Int->Int->(List (Int×Int×Int))->(List (List Int))->(List (List Int))->(List Int)->(List Bool)->Option (Int×(List (Int×Int×Int))×(List (List Int))×(List (List Int))×(List Int)×(List Bool))) (x0:Int) (x1:Int) (v1:(List Int)) (v2:(Int×(List Bool)×Flow)):Option ((Int×(List Bool)×Flow)⊕((Int×(List (Int×Int×Int))×(List (List Int))×(List (List Int))×(List Int)×(List Bool))⊕((List Bool)×(List Int)×(List (List Int))×(List (Int×Int×Int))×(List (List Int))))):=
 (if (decide (v2.1<(lenI v1)))=true then ((gi v1 v2.1).bind fun v3=>((gi v2.2.1 v3).bind fun v4=>((gi v2.2.1 v3).bind fun v5=>(if v5=true then (some (.inl ((w64 (v2.1+1)),v2.2))) else ((gi v2.2.1 v3).bind fun v6=>((gi v2.2.2.2.2.2 v3).bind fun v7=>((gi v2.2.2.2.2.2 v3).bind fun v8=>(if (decide (0<(imin x1 v8)))=true then ((gi v2.2.2.2.2.2 v3).bind fun v9=>((gi v2.2.2.2.2.2 v3).bind fun v10=>((gi v2.2.2.2.2.2 v3).bind fun v11=>((gi v2.2.2.2.2.1 x0).bind fun v12=>((gi v2.2.2.2.2.1 x0).bind fun v13=>((gi v2.2.2.2.2.1 x0).bind fun v14=>((gi v14 v3).bind fun v15=>((gi v2.2.2.2.2.1 x0).bind fun v16=>((gi v16 v3).bind fun v17=>((gi v2.2.2.2.2.1 x0).bind fun v18=>((gi v18 v3).bind fun v19=>((gi v2.2.2.2.2.1 x0).bind fun v20=>((gi v20 v3).bind fun v21=>(some (.inr (.inl ((imin x1 v8),v2.2.2.1,v2.2.2.2.1,(lset v2.2.2.2.2.1 x0 (lset v20 v3 (w64 (v17+(imin x1 v8))))),(lset v2.2.2.2.2.2 v3 (w64 (v10-(imin x1 v8)))),(lset v2.2.1 v3 true)))))))))))))))))) else ((iter (kkJ rec_box_flow_give_c1_m0 x0 x1 v2 v3) (0,v2.2.2.1,v2.2.2.2.1,v2.2.2.2.2.1,v2.2.2.2.2.2,(lset v2.2.1 v3 true))).bind fun v56=>(match v56 with | .inl v57=>(some (.inr (.inl v57))) | .inr v58=>(some (.inl ((w64 (v2.1+1)),v58.2.2.2.2,v58.1,v58.2.1,v58.2.2.1,v58.2.2.2.1))))))))))))) else (some (.inr (.inr (v2.2.1,v2.2.2.2.2.2,v2.2.2.2.2.1,v2.2.2.1,v2.2.2.2.1)))))
def klm (rec_box_flow_give_c1_m0:Int->Int->(List (Int×Int×Int))->(List (List Int))->(List (List Int))->(List Int)->(List Bool)->Option (Int×(List (Int×Int×Int))×(List (List Int))×(List (List Int))×(List Int)×(List Bool))) (x0:Int) (x1:Int) (x2:(List (Int×Int×Int))) (x3:(List (List Int))) (x4:(List (List Int))) (x5:(List Int)) (x6:(List Bool)):Option (Int×(List (Int×Int×Int))×(List (List Int))×(List (List Int))×(List Int)×(List Bool)):=
 ((gi x3 x0).bind fun v0=>((gi x3 x0).bind fun v1=>((iter (kkR rec_box_flow_give_c1_m0 x0 x1 v1) (0,x6,x2,x3,x4,x5)).bind fun v59=>(match v59 with | .inl v60=>(some v60) | .inr v61=>(some (0,v61.2.2.2.1,v61.2.2.2.2,v61.2.2.1,v61.2.1,v61.1))))))
def kdX:Nat->Int->Int->(List (Int×Int×Int))->(List (List Int))->(List (List Int))->(List Int)->(List Bool)->Option (Int×(List (Int×Int×Int))×(List (List Int))×(List (List Int))×(List Int)×(List Bool))
 | 0,_,_,_,_,_,_,_=>none
 | k+1,x0,x1,x2,x3,x4,x5,x6=>klm (kdX k) x0 x1 x2 x3 x4 x5 x6
def khT (x0:Int) (x1:Int) (x2:(List (Int×Int×Int))) (x3:(List (List Int))) (x4:(List (List Int))) (x5:(List Int)) (x6:(List Bool)):Option (Int×(List (Int×Int×Int))×(List (List Int))×(List (List Int))×(List Int)×(List Bool)):=kdX 1000000 x0 x1 x2 x3 x4 x5 x6
def kmF (x0:Int) (x1:Int) (v0:(Int×(List (Int×Int×Int))×(List (List Int))×(List (List Int))×(List Int)×(List Bool))):Option ((Int×(List (Int×Int×Int))×(List (List Int))×(List (List Int))×(List Int)×(List Bool))⊕(Int×Flow)):=
 (if (decide (v0.1<x1))=true then ((gmk (lenI v0.2.2.2.2.1) false).bind fun v1=>((khT x0 (w64 (x1-v0.1)) v0.2.1 v0.2.2.1 v0.2.2.2.1 v0.2.2.2.2.1 v1).bind fun v2=>(if (v2.1==0)=true then (some (.inr (v0.1,v2.2.1,v2.2.2.1,v2.2.2.2.1,v2.2.2.2.2.1))) else (some (.inl ((w64 (v0.1+v2.1)),v2.2)))))) else (some (.inr (v0.1,v0.2.1,v0.2.2.1,v0.2.2.2.1,v0.2.2.2.2.1))))
def ken (x0:Int) (x1:Int) (x2:(List (Int×Int×Int))) (x3:(List (List Int))) (x4:(List (List Int))) (x5:(List Int)):Option (Int×Flow):=
 ((iter (kmF x0 x1) (0,x2,x3,x4,x5,[])).bind fun v3=>(some v3))
def kug (x1:(List (Int×Int×Int))) (v2:(Int×Int)):Option ((Int×Int)⊕Int):=
 (if (decide (v2.1<(lenI x1)))=true then ((gi x1 v2.1).bind fun v3=>none) else (some (.inr v2.2)))
def kup (x1:(List (Int×Int×Int))) (v8:(Int×Int×(List (Int×Int×Int))×(List (List Int))×(List (List Int))×(List Int)×(List Bool))):Option ((Int×Int×(List (Int×Int×Int))×(List (List Int))×(List (List Int))×(List Int)×(List Bool))⊕(Int×(List (Int×Int×Int))×(List (List Int))×(List (List Int))×(List Int)×(List Bool))):=
 (if (decide (v8.1<(lenI x1)))=true then ((gi x1 v8.1).bind fun v9=>((ken v8.1 v9.2.2 v8.2.2.1 v8.2.2.2.1 v8.2.2.2.2.1 v8.2.2.2.2.2.1).bind fun v10=>((gi v8.2.2.2.2.2.2 v8.1).bind fun v11=>(some (.inl ((w64 (v8.1+1)),(w64 (v8.2.1+v10.1)),v10.2.1,v10.2.2.1,v10.2.2.2.1,v10.2.2.2.2,(lset v8.2.2.2.2.2.2 v8.1 (decide (v10.1<v9.2.2))))))))) else (some (.inr v8.2)))
def koW (x0:(List (Int×Int×Int))) (x1:(List (Int×Int×Int))) (x2:(List Swap)):Option (kai×Int):=
 (elsO ((kdV x0 x1 x2).bind fun v0=>(if (v0 != 0)=true then (some ((0,[]),v0)) else ((gmk (lenI x1) false).bind fun v1=>((iter (kug x1) (0,0)).bind fun v4=>((kgd none v1).bind fun v5=>(some ((v4,v5),0))))))) ((kdL x0 x1 x2).bind fun v6=>(if (v6.1 != 0)=true then (some ((0,[]),v6.1)) else ((gmk (lenI x1) false).bind fun v7=>((iter (kup x1) (0,0,v6.2.1,v6.2.2.1,v6.2.2.2.1,v6.2.2.2.2,v7)).bind fun v12=>((kgd (some (v12.2.1,v12.2.2.1,v12.2.2.2.1,v12.2.2.2.2.1)) v12.2.2.2.2.2).bind fun v13=>(some ((v12.1,v13),0))))))))
def kmb (x0:(Int×Int×Int)):Option Bool:=
 ((kbJ 0 10000 x0.2.2).bind fun v0=>(some (!v0)))
def kjU (x0:(List (Int×Int×Int))) (x2:((Int×Int×Int)->Option (Int×Int))) (v0:Int):Option (Int⊕(Bool⊕Unit)):=
 (if (decide (v0<(lenI x0)))=true then ((gi x0 v0).bind fun v1=>((x2 v1).bind fun v2=>((kdW v2).bind fun v3=>(if (!v3)=true then (some (.inr (.inl false))) else (if (decide (0<v0))=true then ((gi x0 (w64 (v0-1))).bind fun v4=>((x2 v4).bind fun v5=>((x2 v1).bind fun v6=>((kix v5 v6).bind fun v7=>(if (decide (0<=v7))=true then (some (.inr (.inl false))) else (some (.inl (w64 (v0+1))))))))) else (some (.inl (w64 (v0+1))))))))) else (some (.inr (.inr ()))))
def kdT (x0:(List (Int×Int×Int))) (x1:Int) (x2:((Int×Int×Int)->Option (Int×Int))):Option Bool:=
 ((iter (kjU x0 x2) 0).bind fun v8=>(match v8 with | .inl v9=>(some v9) | .inr v10=>(some (decide ((lenI x0)<=x1)))))
def kdu (x0:(Int×Int×Int)):Option (Int×Int):=
 (some (x0.1,x0.2.1))
def kec (x0:(List (Int×Int×Int))) (x1:((Int×Int×Int)->Option Bool)) (v0:Int):Option (Int⊕(Int⊕Unit)):=
 (if (decide (v0<(lenI x0)))=true then ((gi x0 v0).bind fun v1=>((x1 v1).bind fun v2=>(if v2=true then (some (.inr (.inl v0))) else (some (.inl (w64 (v0+1))))))) else (some (.inr (.inr ()))))
def kbF (x0:(List (Int×Int×Int))) (x1:((Int×Int×Int)->Option Bool)):Option Int:=
 ((iter (kec x0 x1) 0).bind fun v3=>(match v3 with | .inl v4=>(some v4) | .inr v5=>(some (-1))))
def kaJ (x0:(List (Int×Int×Int))) (x1:((Int×Int×Int)->Option Bool)):Option Bool:=
 ((kbF x0 x1).bind fun v0=>(some (decide (0<=v0))))
def kmf (x0:Line) (x1:Line):Option Int:=
 (if (!(x0.2.2.2.2==x1.2.2.2.2))=true then (if x1.2.2.2.2=true then (some (-1)) else (some 1)) else (some (w64 (x1.2.1-x0.2.1))))
def kdS (x0:Int) (x2:((Line×Line)->Option Int)) (v1:(Int×(List Line))):Option ((Int×(List Line))⊕(List Line)):=
 (if (decide (x0<v1.1))=true then ((gi v1.2 v1.1).bind fun v2=>((gi v1.2 v1.1).bind fun v3=>((gi v1.2 (w64 (v1.1-1))).bind fun v4=>((gi v1.2 (w64 (v1.1-1))).bind fun v5=>((x2 (v3,v5)).bind fun v6=>(if (decide (v6<0))=true then ((gi v1.2 (w64 (v1.1-1))).bind fun v7=>((gi v1.2 (w64 (v1.1-1))).bind fun v8=>((gi v1.2 v1.1).bind fun v9=>((gi v1.2 v1.1).bind fun v10=>((gi v1.2 v1.1).bind fun v11=>((gi (lset v1.2 v1.1 v8) (w64 (v1.1-1))).bind fun v12=>(some (.inl ((w64 (v1.1-1)),(lset (lset v1.2 v1.1 v8) (w64 (v1.1-1)) v10)))))))))) else (some (.inr v1.2)))))))) else (some (.inr v1.2)))
def kdZ (x0:Int) (x1:Int) (x2:((Line×Line)->Option Int)) (v0:(Int×(List Line))):Option ((Int×(List Line))⊕(List Line)):=
 (if (decide (v0.1<x1))=true then ((iter (kdS x0 x2) v0).bind fun v13=>(some (.inl ((w64 (v0.1+1)),v13)))) else (some (.inr v0.2)))
def kaO (x0:Int) (x1:Int) (x2:((Line×Line)->Option Int)) (x3:(List Line)):Option (List Line):=
 ((iter (kdZ x0 x1 x2) ((w64 (x0+1)),x3)).bind fun v14=>(some v14))
def keS (x0:Int) (x1:Int) (x2:Int) (v0:(Int×(List Line))):Option ((Int×(List Line))⊕(List Line)):=
 (if (decide (v0.1<x2))=true then ((gi v0.2 (w64 (x1+v0.1))).bind fun v1=>((gi v0.2 (w64 (x1+v0.1))).bind fun v2=>((gi v0.2 (w64 (x0+v0.1))).bind fun v3=>((gi v0.2 (w64 (x0+v0.1))).bind fun v4=>((gi v0.2 (w64 (x0+v0.1))).bind fun v5=>((gi (lset v0.2 (w64 (x0+v0.1)) v2) (w64 (x1+v0.1))).bind fun v6=>(some (.inl ((w64 (v0.1+1)),(lset (lset v0.2 (w64 (x0+v0.1)) v2) (w64 (x1+v0.1)) v4)))))))))) else (some (.inr v0.2)))
def kaH (x0:Int) (x1:Int) (x2:Int) (x3:((Line×Line)->Option Int)) (x4:(List Line)):Option (List Line):=
 ((iter (keS x0 x1 x2) (0,x4)).bind fun v7=>(some v7))
def kfS (x1:Int) (x3:((Line×Line)->Option Int)) (v0:(Int×Int×(List Line))):Option ((Int×Int×(List Line))⊕(Int×(List Line))):=
 (if (v0.1 != v0.2.1)=true then (if (decide (v0.2.1<v0.1))=true then ((kaH (w64 (x1-v0.1)) x1 v0.2.1 x3 v0.2.2).bind fun v1=>(some (.inl ((w64 (v0.1-v0.2.1)),v0.2.1,v1)))) else ((kaH (w64 (x1-v0.1)) (w64 ((w64 (x1+v0.2.1))-v0.1)) v0.1 x3 v0.2.2).bind fun v2=>(some (.inl (v0.1,(w64 (v0.2.1-v0.1)),v2))))) else (some (.inr (v0.1,v0.2.2))))
def kcP (x0:Int) (x1:Int) (x2:Int) (x3:((Line×Line)->Option Int)) (x4:(List Line)):Option (List Line):=
 ((iter (kfS x1 x3) ((w64 (x1-x0)),(w64 (x2-x1)),x4)).bind fun v3=>((kaH (w64 (x1-v3.1)) x1 v3.1 x3 v3.2).bind fun v4=>(some v4)))
def kfa (x0:Int) (x3:((Line×Line)->Option Int)) (x4:(List Line)) (v0:(Int×Int)):Option ((Int×Int)⊕Int):=
 (if (decide (v0.1<v0.2))=true then ((gshr .u64 (IntKind.wrap .u64 (w64 (v0.1+v0.2))) 1).bind fun v1=>((gi x4 (w64 v1)).bind fun v2=>((gi x4 (w64 v1)).bind fun v3=>((gi x4 x0).bind fun v4=>((gi x4 x0).bind fun v5=>((x3 (v3,v5)).bind fun v6=>(if (decide (v6<0))=true then (some (.inl ((w64 ((w64 v1)+1)),v0.2))) else (some (.inl (v0.1,(w64 v1))))))))))) else (some (.inr v0.1)))
def kfg (v7:Int) (v8:(Int×(List Line))):Option ((Int×(List Line))⊕(List Line)):=
 (if (decide (v8.1<(w64 (v7-1))))=true then ((gi v8.2 (w64 (v8.1+1))).bind fun v9=>((gi v8.2 (w64 (v8.1+1))).bind fun v10=>((gi v8.2 v8.1).bind fun v11=>((gi v8.2 v8.1).bind fun v12=>((gi v8.2 v8.1).bind fun v13=>((gi (lset v8.2 v8.1 v10) (w64 (v8.1+1))).bind fun v14=>(some (.inl ((w64 (v8.1+1)),(lset (lset v8.2 v8.1 v10) (w64 (v8.1+1)) v12)))))))))) else (some (.inr v8.2)))
def kfh (x1:Int) (x3:((Line×Line)->Option Int)) (x4:(List Line)) (v16:(Int×Int)):Option ((Int×Int)⊕Int):=
 (if (decide (v16.1<v16.2))=true then ((gshr .u64 (IntKind.wrap .u64 (w64 (v16.1+v16.2))) 1).bind fun v17=>((gi x4 x1).bind fun v18=>((gi x4 x1).bind fun v19=>((gi x4 (w64 v17)).bind fun v20=>((gi x4 (w64 v17)).bind fun v21=>((x3 (v19,v21)).bind fun v22=>(if (!(decide (v22<0)))=true then (some (.inl ((w64 ((w64 v17)+1)),v16.2))) else (some (.inl (v16.1,(w64 v17))))))))))) else (some (.inr v16.1)))
def kfe (v23:Int) (v24:(Int×(List Line))):Option ((Int×(List Line))⊕(List Line)):=
 (if (decide (v23<v24.1))=true then ((gi v24.2 (w64 (v24.1-1))).bind fun v25=>((gi v24.2 (w64 (v24.1-1))).bind fun v26=>((gi v24.2 v24.1).bind fun v27=>((gi v24.2 v24.1).bind fun v28=>((gi v24.2 v24.1).bind fun v29=>((gi (lset v24.2 v24.1 v26) (w64 (v24.1-1))).bind fun v30=>(some (.inl ((w64 (v24.1-1)),(lset (lset v24.2 v24.1 v26) (w64 (v24.1-1)) v28)))))))))) else (some (.inr v24.2)))
def keZ (x1:Int) (x3:((Line×Line)->Option Int)) (x4:(List Line)) (v32:Int) (v34:(Int×Int)):Option ((Int×Int)⊕Int):=
 (if (decide (v34.1<v34.2))=true then ((gshr .u64 (IntKind.wrap .u64 (w64 (v34.1+v34.2))) 1).bind fun v35=>((gi x4 (w64 ((w64 ((w64 ((w64 v32)+x1))-1))-(w64 v35)))).bind fun v36=>((gi x4 (w64 ((w64 ((w64 ((w64 v32)+x1))-1))-(w64 v35)))).bind fun v37=>((gi x4 (w64 v35)).bind fun v38=>((gi x4 (w64 v35)).bind fun v39=>((x3 (v37,v39)).bind fun v40=>(if (!(decide (v40<0)))=true then (some (.inl ((w64 ((w64 v35)+1)),v34.2))) else (some (.inl (v34.1,(w64 v35))))))))))) else (some (.inr v34.1)))
def kfo (rec_slices_symMergeCmpFunc_box_line_m0:Int->Int->Int->((Line×Line)->Option Int)->(List Line)->Option (List Line)) (x0:Int) (x1:Int) (x2:Int) (x3:((Line×Line)->Option Int)) (x4:(List Line)):Option (List Line):=
 (if ((w64 (x1-x0))==1)=true then ((iter (kfa x0 x3 x4) (x1,x2)).bind fun v7=>((iter (kfg v7) (x0,x4)).bind fun v15=>(some v15))) else (if ((w64 (x2-x1))==1)=true then ((iter (kfh x1 x3 x4) (x0,x1)).bind fun v23=>((iter (kfe v23) (x1,x4)).bind fun v31=>(some v31))) else ((gshr .u64 (IntKind.wrap .u64 (w64 (x0+x2))) 1).bind fun v32=>((if (decide ((w64 v32)<x1))=true then (some ((w64 ((w64 ((w64 v32)+x1))-x2)),(w64 v32))) else (some (x0,x1))).bind fun v33=>((iter (keZ x1 x3 x4 v32) v33).bind fun v41=>((if (decide (v41<x1))=true then (some (decide (x1<(w64 ((w64 ((w64 v32)+x1))-v41))))) else (some false)).bind fun v42=>((if v42=true then ((kcP v41 x1 (w64 ((w64 ((w64 v32)+x1))-v41)) x3 x4).bind fun v43=>(some v43)) else (some x4)).bind fun v44=>((if (decide (x0<v41))=true then (some (decide (v41<(w64 v32)))) else (some false)).bind fun v45=>((if v45=true then ((rec_slices_symMergeCmpFunc_box_line_m0 x0 v41 (w64 v32) x3 v44).bind fun v46=>(some v46)) else (some v44)).bind fun v47=>(if (decide ((w64 v32)<(w64 ((w64 ((w64 v32)+x1))-v41))))=true then (if (decide ((w64 ((w64 ((w64 v32)+x1))-v41))<x2))=true then ((rec_slices_symMergeCmpFunc_box_line_m0 (w64 v32) (w64 ((w64 ((w64 v32)+x1))-v41)) x2 x3 v47).bind fun v48=>(some v48)) else (some v47)) else (some v47)))))))))))
def kaU:Nat->Int->Int->Int->((Line×Line)->Option Int)->(List Line)->Option (List Line)
 | 0,_,_,_,_,_=>none
 | k+1,x0,x1,x2,x3,x4=>kfo (kaU k) x0 x1 x2 x3 x4
def kba (x0:Int) (x1:Int) (x2:Int) (x3:((Line×Line)->Option Int)) (x4:(List Line)):Option (List Line):=kaU 1000000 x0 x1 x2 x3 x4
def kfJ (x0:Int) (x1:((Line×Line)->Option Int)) (v0:(Int×Int×(List Line))):Option ((Int×Int×(List Line))⊕(Int×(List Line))):=
 (if (decide (v0.1<=x0))=true then ((kaO v0.2.1 v0.1 x1 v0.2.2).bind fun v1=>(some (.inl ((w64 (v0.1+20)),v0.1,v1)))) else (some (.inr v0.2)))
def kfL (x0:Int) (x1:((Line×Line)->Option Int)) (v4:(Int×(List Line))) (v5:(Int×Int×(List Line))):Option ((Int×Int×(List Line))⊕(Int×(List Line))):=
 (if (decide (v5.1<=x0))=true then ((kba v5.2.1 (w64 (v5.2.1+v4.1)) v5.1 x1 v5.2.2).bind fun v6=>(some (.inl ((w64 (v5.1+(w64 (2*v4.1)))),v5.1,v6)))) else (some (.inr v5.2)))
def kfM (x0:Int) (x1:((Line×Line)->Option Int)) (v4:(Int×(List Line))):Option ((Int×(List Line))⊕(List Line)):=
 (if (decide (v4.1<x0))=true then ((iter (kfL x0 x1 v4) ((w64 (2*v4.1)),0,v4.2)).bind fun v7=>(if (decide ((w64 (v7.1+v4.1))<x0))=true then ((kba v7.1 (w64 (v7.1+v4.1)) x0 x1 v7.2).bind fun v8=>(some (.inl ((w64 (v4.1*2)),v8)))) else (some (.inl ((w64 (v4.1*2)),v7.2))))) else (some (.inr v4.2)))
def kcN (x0:Int) (x1:((Line×Line)->Option Int)) (x2:(List Line)):Option (List Line):=
 ((iter (kfJ x0 x1) (20,0,x2)).bind fun v2=>((kaO v2.1 x0 x1 v2.2).bind fun v3=>((iter (kfM x0 x1) (20,v3)).bind fun v9=>(some v9))))
def kaF (x0:((Line×Line)->Option Int)) (x1:(List Line)):Option (List Line):=
 ((kcN (lenI x1) x0 x1).bind fun v0=>(some v0))
def kfq (x0:(Int×Int)) (x1:(List ((Int×Int)×Int))) (x2:Bool) (x3:Int) (x4:Int) (x5:Int):Option ((List ((Int×Int)×Int))×Bool×Int×Int×Int):=
 (if (mget x1 x0).isSome=true then (if (!x2)=true then (some (x1,true,((mget x1 x0).getD 0),x0)) else (if (decide (((mget x1 x0).getD 0)<x3))=true then (some (x1,true,((mget x1 x0).getD 0),x0)) else (if (((mget x1 x0).getD 0)==x3)=true then ((kix x0 (x4,x5)).bind fun v0=>(if (decide (v0<0))=true then (some (x1,true,((mget x1 x0).getD 0),x0)) else (some (x1,x2,x3,x4,x5)))) else (some (x1,x2,x3,x4,x5))))) else (some (x1,x2,x3,x4,x5)))
def kmW (x0:(List Swap)) (x1:(Int×Int)) (v1:(Int×(List ((Int×Int)×Int))×Bool×Int×Int×Int)):Option ((Int×(List ((Int×Int)×Int))×Bool×Int×Int×Int)⊕(Int×Int×Int×Bool×(List ((Int×Int)×Int)))):=
 (if (decide (v1.1<(lenI x0)))=true then ((gi x0 v1.1).bind fun v2=>(if ((x1.1==v2.1)&&(x1.2==v2.2.1))=true then ((kfq v2.2.2 v1.2.1 v1.2.2.1 v1.2.2.2.1 v1.2.2.2.2.1 v1.2.2.2.2.2).bind fun v3=>(some (.inl ((w64 (v1.1+1)),v3)))) else (some (.inl ((w64 (v1.1+1)),v1.2))))) else (some (.inr (v1.2.2.2.1,v1.2.2.2.2.1,v1.2.2.2.2.2,v1.2.2.1,v1.2.1))))
def khC (x0:(List Swap)) (x1:(Int×Int)) (x2:(List ((Int×Int)×Int))):Option (Int×Int×Int×Bool×(List ((Int×Int)×Int))):=
 ((kfq x1 x2 false 0 0 0).bind fun v0=>((iter (kmW x0 x1) (0,v0)).bind fun v4=>(some v4)))
def kvM (x3:(List (Int×Int×Int))) (v3:(Int×(List ((Int×Int)×Int)))):Option ((Int×(List ((Int×Int)×Int)))⊕(List ((Int×Int)×Int))):=
 (if (decide (v3.1<(lenI x3)))=true then ((gi x3 v3.1).bind fun v4=>((kdu v4).bind fun v5=>(some (.inl ((w64 (v3.1+1)),(mput v3.2 v5 v4.2.2)))))) else (some (.inr v3.2)))
def kvu (x1:(List (Int×Int×Int))) (x2:(List Swap)) (v7:(Int×(List ((Int×Int)×Int))×(List Line))):Option ((Int×(List ((Int×Int)×Int))×(List Line))⊕(List Line)):=
 (if (decide (v7.1<(lenI x1)))=true then ((gi x1 v7.1).bind fun v8=>((kbP v8).bind fun v9=>((khC x2 v9 v7.2.1).bind fun v10=>((gapp v7.2.2 [(v7.1,v10.1,v8.2.2,(v10.2.1,v10.2.2.1),v10.2.2.2.1)]).bind fun v11=>(some (.inl ((w64 (v7.1+1)),v10.2.2.2.2,v11))))))) else (some (.inr v7.2.2)))
def kvy (v13:(List Line)) (v15:Int):Option (Int⊕((Bill×Int)⊕Unit)):=
 (if (decide (v15<(lenI v13)))=true then ((gi v13 v15).bind fun v16=>((gi v13 v15).bind fun v17=>none)) else (some (.inr (.inr ()))))
def kvR (x3:(List (Int×Int×Int))) (v21:(Int×Int×Int×(List (Int×Int×Int)))):Option ((Int×Int×Int×(List (Int×Int×Int)))⊕((Bill×Int)⊕(Int×(List (Int×Int×Int))×Int))):=
 (if (decide (v21.1<(lenI x3)))=true then ((gi x3 v21.1).bind fun v22=>((kdu v22).bind fun v23=>(if (decide (1000<((mget [] v23).getD 0)))=true then (some (.inr (.inl (([],[],0),4)))) else (if (decide (0<((mget [] v23).getD 0)))=true then ((gapp v21.2.2.2 [(v22.1,v22.2.1,((mget [] v23).getD 0))]).bind fun v24=>(some (.inl ((w64 (v21.1+1)),v21.2.1,v21.2.2.1,v24)))) else (some (.inl ((w64 (v21.1+1)),v21.2))))))) else (some (.inr (.inr (v21.2.2.1,v21.2.2.2,v21.2.1)))))
def kvN (x3:(List (Int×Int×Int))) (v31:(Int×(List ((Int×Int)×Int)))):Option ((Int×(List ((Int×Int)×Int)))⊕(List ((Int×Int)×Int))):=
 (if (decide (v31.1<(lenI x3)))=true then ((gi x3 v31.1).bind fun v32=>((kdu v32).bind fun v33=>(some (.inl ((w64 (v31.1+1)),(mput v31.2 v33 v32.2.2)))))) else (some (.inr v31.2)))
def kvC (x1:(List (Int×Int×Int))) (x2:(List Swap)) (v35:(Int×(List ((Int×Int)×Int))×(List Line))):Option ((Int×(List ((Int×Int)×Int))×(List Line))⊕(List Line)):=
 (if (decide (v35.1<(lenI x1)))=true then ((gi x1 v35.1).bind fun v36=>((kbP v36).bind fun v37=>((khC x2 v37 v35.2.1).bind fun v38=>((gapp v35.2.2 [(v35.1,v38.1,v36.2.2,(v38.2.1,v38.2.2.1),v38.2.2.2.1)]).bind fun v39=>(some (.inl ((w64 (v35.1+1)),v38.2.2.2.2,v39))))))) else (some (.inr v35.2.2)))
def kvn (v41:(List Line)) (v43:(Int×(List (Int×Int×Int))×(List (List Int))×(List (List Int))×(List Int)×Int×(List Int)×Int×(List ((Int×Int)×Int)))):Option ((Int×(List (Int×Int×Int))×(List (List Int))×(List (List Int))×(List Int)×Int×(List Int)×Int×(List ((Int×Int)×Int)))⊕((Bill×Int)⊕((List ((Int×Int)×Int))×Int×kai))):=
 (if (decide (v43.1<(lenI v41)))=true then ((gi v41 v43.1).bind fun v44=>((gi v41 v43.1).bind fun v45=>((ken v45.1 v45.2.2.1 v43.2.1 v43.2.2.1 v43.2.2.2.1 v43.2.2.2.2.1).bind fun v46=>((gi v43.2.2.2.2.2.2.1 v45.1).bind fun v47=>((if (decide (v46.1<v45.2.2.1))=true then (some (!v45.2.2.2.2)) else (some false)).bind fun v48=>(if v48=true then (some (.inr (.inl (([],[],0),80)))) else (bthO (.sm (.pr (.i .i64) (.pr (.sl (.pr (.i .i64) (.pr (.i .u8) (.i .i64)))) (.pr (.sl (.sl (.i .i64))) (.pr (.sl (.sl (.i .i64))) (.pr (.sl (.i .i64)) (.pr (.i .i64) (.pr (.sl (.i .i64)) (.pr (.i .i64) (.sl (.pr (.pr (.i .i64) (.i .u8)) (.i .i64))))))))))) (.sm (.pr tBill (.i .i64)) (.pr (.sl (.pr (.pr (.i .i64) (.i .u8)) (.i .i64))) (.pr (.i .i64) kvb)))) ((gi (ment v43.2.2.2.2.2.2.2.2 v45.2.2.2.1 0) (midx v43.2.2.2.2.2.2.2.2 v45.2.2.2.1)).bind fun v49=>(some (.inl ((w64 (v43.1+1)),v46.2.1,v46.2.2.1,v46.2.2.2.1,v46.2.2.2.2,(w64 (v43.2.2.2.2.2.1+(w64 ((w64 (v45.2.2.1-v46.1))*v45.2.1)))),(lset v43.2.2.2.2.2.2.1 v45.1 v46.1),v43.2.2.2.2.2.2.2.1,(mset (ment v43.2.2.2.2.2.2.2.2 v45.2.2.2.1 0) (midx v43.2.2.2.2.2.2.2.2 v45.2.2.2.1) (w64 (((mget v43.2.2.2.2.2.2.2.2 v45.2.2.2.1).getD 0)+(w64 (v45.2.2.1-v46.1))))))))) ((gi (ment v43.2.2.2.2.2.2.2.2 v45.2.2.2.1 0) (midx v43.2.2.2.2.2.2.2.2 v45.2.2.2.1)).bind fun v50=>(some (.inl ((w64 (v43.1+1)),v46.2.1,v46.2.2.1,v46.2.2.2.1,v46.2.2.2.2,(w64 (v43.2.2.2.2.2.1+(w64 ((w64 (v45.2.2.1-v46.1))*v45.2.1)))),(lset v43.2.2.2.2.2.2.1 v45.1 v46.1),v43.2.2.2.2.2.2.2.1,(mset (ment v43.2.2.2.2.2.2.2.2 v45.2.2.2.1 0) (midx v43.2.2.2.2.2.2.2.2 v45.2.2.2.1) (w64 (((mget (ment v43.2.2.2.2.2.2.2.2 v45.2.2.2.1 0) v45.2.2.2.1).getD 0)+(w64 (v45.2.2.1-v46.1)))))))))))))))) else (some (.inr (.inr (v43.2.2.2.2.2.2.2.2,v43.2.2.2.2.2.2.2.1,v43.2.2.2.2.2.1,v43.2.2.2.2.2.2.1)))))
def kvK (x3:(List (Int×Int×Int))) (v53:((List ((Int×Int)×Int))×Int×kai)) (v54:(Int×Int×Int×(List (Int×Int×Int)))):Option ((Int×Int×Int×(List (Int×Int×Int)))⊕((Bill×Int)⊕(Int×(List (Int×Int×Int))×Int))):=
 (if (decide (v54.1<(lenI x3)))=true then ((gi x3 v54.1).bind fun v55=>((kdu v55).bind fun v56=>(if (decide (1000<((mget v53.1 v56).getD 0)))=true then (some (.inr (.inl (([],[],0),4)))) else (if (decide (0<((mget v53.1 v56).getD 0)))=true then ((gapp v54.2.2.2 [(v55.1,v55.2.1,((mget v53.1 v56).getD 0))]).bind fun v57=>(some (.inl ((w64 (v54.1+1)),v54.2.1,v54.2.2.1,v57)))) else (some (.inl ((w64 (v54.1+1)),v54.2))))))) else (some (.inr (.inr (v54.2.2.1,v54.2.2.2,v54.2.1)))))
def kqq (x0:(List (Int×Int×Int))) (x1:(List (Int×Int×Int))) (x2:(List Swap)) (x3:(List (Int×Int×Int))):Option (Bill×Int):=
 (elsO ((kdV x0 x1 x2).bind fun v0=>(if (v0 != 0)=true then (some (([],[],0),v0)) else ((kdT x3 60 (fun (u0:(Int×Int×Int))=>((kdu u0).bind fun u1=>(some u1)))).bind fun v1=>(if (!v1)=true then (some (([],[],0),2)) else ((kaJ x3 (fun (u0:(Int×Int×Int))=>((kmb u0).bind fun u1=>(some u1)))).bind fun v2=>(if v2=true then (some (([],[],0),2)) else ((iter (kvM x3) (0,[])).bind fun v6=>((iter (kvu x1 x2) (0,v6,[])).bind fun v12=>((kaF (fun (u0:(Line×Line))=>((kmf u0.1 u0.2).bind fun u1=>(some u1))) v12).bind fun v13=>((gmk (lenI x1) 0).bind fun v14=>((iter (kvy v13) 0).bind fun v18=>(match v18 with | .inl v19=>(some v19) | .inr v20=>((iter (kvR x3) (0,0,0,[])).bind fun v25=>(match v25 with | .inl v26=>(some v26) | .inr v27=>(some ((v14,v27.2.1,v27.1),0)))))))))))))))) ((kdL x0 x1 x2).bind fun v28=>(if (v28.1 != 0)=true then (some (([],[],0),v28.1)) else ((kdT x3 60 (fun (u0:(Int×Int×Int))=>((kdu u0).bind fun u1=>(some u1)))).bind fun v29=>(if (!v29)=true then (some (([],[],0),2)) else ((kaJ x3 (fun (u0:(Int×Int×Int))=>((kmb u0).bind fun u1=>(some u1)))).bind fun v30=>(if v30=true then (some (([],[],0),2)) else ((iter (kvN x3) (0,[])).bind fun v34=>((iter (kvC x1 x2) (0,v34,[])).bind fun v40=>((kaF (fun (u0:(Line×Line))=>((kmf u0.1 u0.2).bind fun u1=>(some u1))) v40).bind fun v41=>((gmk (lenI x1) 0).bind fun v42=>((iter (kvn v41) (0,v28.2.1,v28.2.2.1,v28.2.2.2.1,v28.2.2.2.2,0,v42,0,[])).bind fun v51=>(match v51 with | .inl v52=>(some v52) | .inr v53=>((iter (kvK x3 v53) (0,v53.2.1,v53.2.2.1,[])).bind fun v58=>(match v58 with | .inl v59=>(some v59) | .inr v60=>(some ((v53.2.2.2,v60.2.1,v60.1),0)))))))))))))))))
def law08_plans:Option (List (List (Int×Int×Int))):=
 ((kam 1 1 2).bind fun v0=>((kam 1 1 1).bind fun v1=>((kam 1 1 3).bind fun v2=>(some [[v0],[v1],[v2]]))))
def klu (x0:Int):Option Bool:=
 ((kbJ 0 1000 x0).bind fun v0=>(some (!v0)))
def khS (x0:(List Int)) (x1:(Int->Option Bool)) (v0:Int):Option (Int⊕(Int⊕Unit)):=
 (if (decide (v0<(lenI x0)))=true then ((gi x0 v0).bind fun v1=>((x1 v1).bind fun v2=>(if v2=true then (some (.inr (.inl v0))) else (some (.inl (w64 (v0+1))))))) else (some (.inr (.inr ()))))
def kcd (x0:(List Int)) (x1:(Int->Option Bool)):Option Int:=
 ((iter (khS x0 x1) 0).bind fun v3=>(match v3 with | .inl v4=>(some v4) | .inr v5=>(some (-1))))
def kdF (x0:(List Int)) (x1:(Int->Option Bool)):Option Bool:=
 ((kcd x0 x1).bind fun v0=>(some (decide (0<=v0))))
def kkI (x0:(List (List (Int×Int×Int)))) (x1:(List Int)):Option Int:=
 ((kcv x0).bind fun v0=>(if (v0 != 0)=true then (some v0) else (if (decide (8<(lenI x0)))=true then (some 4) else (if ((lenI x1) != (lenI x0))=true then (some 2) else ((kdF x1 (fun (u0:Int)=>((klu u0).bind fun u1=>(some u1)))).bind fun v1=>(if v1=true then (some 2) else (some 0)))))))
def koq (x0:Int) (x1:Int):Option Int:=
 (some (w64 (x0-x1)))
def koE (x0:(Int×Int×Int)):Option Bool:=
 (some (decide (x0.2.2<0)))
def kkb (x0:(List (Int×Int×Int))) (x1:(List (Int×Int×Int))):Option ((List (Int×Int×Int))×Int):=
 ((kcv [x0,x1]).bind fun v0=>(if (v0 != 0)=true then (some ([],v0)) else ((klG x0 x1 (fun (u0:(Int×Int))=>((koq u0.1 u0.2).bind fun u1=>(some u1)))).bind fun v1=>((kaN v1 (fun (u0:(Int×Int×Int))=>((koE u0).bind fun u1=>(some u1)))).bind fun v2=>(if v2=true then (some ([],6)) else (some (v1,0)))))))
def kat (x0:(List (Int×Int×Int))):Option (List (Int×Int×Int)):=
 (if (isE x0)=true then (bthO (.sl (.pr (.i .i64) (.pr (.i .u8) (.i .i64)))) (some []) ((gapp [] x0).bind fun v0=>(some v0))) else ((gapp [] x0).bind fun v1=>(some v1)))
def kbM:Nat->List (List (Int×Int×Int))->Int->Int->List (Int×Int×Int)->Option (List (Int×List (Int×Int×Int)))
 | 0,_,_,_,_=>none
 | d+1,ps,i,s,l=>
  if i=lenI ps then some [(s,l)] else
   (gi ps i).bind fun p=>(kkb l p).bind fun r=>
    if r.2=0 then (gshl .i64 1 i).bind fun b=>(kbM d ps (w64 (i+1)) (bitsI .or .i64 s b) r.1).bind fun x=>(kbM d ps (w64 (i+1)) s l).bind fun y=>some (x++y)
    else kbM d ps (w64 (i+1)) s l
def kdf (_:Option (List (Int×List (Int×Int×Int)))) (x0:List (List (Int×Int×Int))) (x1:List (Int×Int×Int)):Option (List (Int×List (Int×Int×Int))):=
 (kat x1).bind fun l=>kbM (x0.length+1) x0 0 0 l
def khn (x0:(List (Int×Int×Int))) (x1:(List (List (Int×Int×Int)))):Option ((List (List (Int×Int×Int)))×(List (Int×Int×Int))):=
 (some (x1,x0))
def kqL (x0:Int) (x1:(List Int)) (v0:(Int×kai)):Option ((Int×kai)⊕kai):=
 (if (decide (v0.1<(lenI x1)))=true then ((gi x1 v0.1).bind fun v1=>((gshr .i64 x0 v0.1).bind fun v2=>(if ((bitsI .and .i64 v2 1)==1)=true then ((gapp v0.2.2 [v0.1]).bind fun v3=>(some (.inl ((w64 (v0.1+1)),(w64 (v0.2.1+v1)),v3)))) else (some (.inl ((w64 (v0.1+1)),v0.2)))))) else (some (.inr v0.2)))
def kkO (x0:Int) (x1:(List Int)):Option ((List Int)×Int):=
 ((iter (kqL x0 x1) (0,0,[])).bind fun v4=>(some (v4.2,v4.1)))
def kiK (x0:(List Int)) (x1:(List Int)) (v0:Int):Option (Int⊕(Int⊕Unit)):=
 (if (decide (v0<(lenI x0)))=true then ((gi x0 v0).bind fun v1=>(if (decide ((lenI x1)<=v0))=true then (some (.inr (.inl 1))) else ((gi x1 v0).bind fun v2=>((kca v1 v2).bind fun v3=>(if (v3 != 0)=true then (some (.inr (.inl v3))) else (some (.inl (w64 (v0+1))))))))) else (some (.inr (.inr ()))))
def kfE (x0:(List Int)) (x1:(List Int)):Option Int:=
 ((iter (kiK x0 x1) 0).bind fun v4=>(match v4 with | .inl v5=>(some v5) | .inr v6=>(if (decide ((lenI x0)<(lenI x1)))=true then (some (-1)) else (some 0))))
def krW (x2:(List Int)) (v4:(List (Int×(List (Int×Int×Int))))) (v5:(Int×knH)):Option ((Int×knH)⊕((knH×Int)⊕knH)):=
 (if (decide (v5.1<(lenI v4)))=true then ((gi v4 v5.1).bind fun v6=>((kkO v6.1 x2).bind fun v7=>(if (decide (v5.2.2.1<v7.2))=true then ((kat v6.2).bind fun v8=>(some (.inl ((v5.1+1),v7.1,v7.2,v8)))) else (if (v7.2==v5.2.2.1)=true then ((kca (lenI v7.1) (lenI v5.2.1)).bind fun v9=>((kfE v7.1 v5.2.1).bind fun v10=>((kjt [v9,v10]).bind fun v11=>(if (decide (v11<0))=true then ((kat v6.2).bind fun v12=>(some (.inl ((v5.1+1),v7.1,v7.2,v12)))) else (some (.inl ((v5.1+1),v5.2))))))) else (some (.inl ((v5.1+1),v5.2))))))) else (some (.inr (.inr v5.2))))
def kqp (x0:(List (Int×Int×Int))) (x1:(List (List (Int×Int×Int)))) (x2:(List Int)):Option (knH×Int):=
 ((kcv [x0]).bind fun v0=>((if (v0==0)=true then ((kkI x1 x2).bind fun v1=>(some v1)) else (some v0)).bind fun v2=>(if (v2 != 0)=true then (some (([],0,[]),v2)) else ((khn x0 x1).bind fun v3=>((runI fun o=>(kdf o v3.1 v3.2)).bind fun v4=>((iter (krW x2 v4) (0,[],(-1),[])).bind fun v13=>(match v13 with | .inl v14=>(some v14) | .inr v15=>(some (v15,0)))))))))
def kgN (o:Option (List Int)) (x0:(List Int)) (v0:kai):Option (kai⊕((List Int)⊕(List Int))):=
 (if (decide (v0.1<(lenI x0)))=true then ((gi x0 v0.1).bind fun v1=>((gpre (.i .i64) o v0.2 v1).bind fun v2=>(some (.inl ((w64 (v0.1+1)),v2))))) else (some (.inr (.inr v0.2))))
def kdB (o:Option (List Int)) (x0:(List Int)):Option (List Int):=
 ((iter (kgN o x0) (0,[])).bind fun v3=>(match v3 with | .inl v4=>(some v4) | .inr v5=>(some v5)))
def keB (x0:(List Int)):Option (List Int):=
 (some x0)
def kpR (x0:Int):Option Int:=
 ((if (decide (65536<=x0))=true then ((gshr .u32 x0 16).bind fun v0=>(some (v0,16))) else (some (x0,0))).bind fun v1=>(if (decide (256<=v1.1))=true then ((gshr .u32 v1.1 8).bind fun v2=>((gstr [0,1,2,2,3,3,3,3,4,4,4,4,4,4,4,4,5,5,5,5,5,5,5,5,5,5,5,5,5,5,5,5,6,6,6,6,6,6,6,6,6,6,6,6,6,6,6,6,6,6,6,6,6,6,6,6,6,6,6,6,6,6,6,6,7,7,7,7,7,7,7,7,7,7,7,7,7,7,7,7,7,7,7,7,7,7,7,7,7,7,7,7,7,7,7,7,7,7,7,7,7,7,7,7,7,7,7,7,7,7,7,7,7,7,7,7,7,7,7,7,7,7,7,7,7,7,7,7,8,8,8,8,8,8,8,8,8,8,8,8,8,8,8,8,8,8,8,8,8,8,8,8,8,8,8,8,8,8,8,8,8,8,8,8,8,8,8,8,8,8,8,8,8,8,8,8,8,8,8,8,8,8,8,8,8,8,8,8,8,8,8,8,8,8,8,8,8,8,8,8,8,8,8,8,8,8,8,8,8,8,8,8,8,8,8,8,8,8,8,8,8,8,8,8,8,8,8,8,8,8,8,8,8,8,8,8,8,8,8,8,8,8,8,8,8,8,8,8,8,8,8,8,8,8,8,8] (IntKind.wrap .u8 v2)).bind fun v3=>(some (w64 ((w64 (v1.2+8))+(w64 v3)))))) else ((gstr [0,1,2,2,3,3,3,3,4,4,4,4,4,4,4,4,5,5,5,5,5,5,5,5,5,5,5,5,5,5,5,5,6,6,6,6,6,6,6,6,6,6,6,6,6,6,6,6,6,6,6,6,6,6,6,6,6,6,6,6,6,6,6,6,7,7,7,7,7,7,7,7,7,7,7,7,7,7,7,7,7,7,7,7,7,7,7,7,7,7,7,7,7,7,7,7,7,7,7,7,7,7,7,7,7,7,7,7,7,7,7,7,7,7,7,7,7,7,7,7,7,7,7,7,7,7,7,7,8,8,8,8,8,8,8,8,8,8,8,8,8,8,8,8,8,8,8,8,8,8,8,8,8,8,8,8,8,8,8,8,8,8,8,8,8,8,8,8,8,8,8,8,8,8,8,8,8,8,8,8,8,8,8,8,8,8,8,8,8,8,8,8,8,8,8,8,8,8,8,8,8,8,8,8,8,8,8,8,8,8,8,8,8,8,8,8,8,8,8,8,8,8,8,8,8,8,8,8,8,8,8,8,8,8,8,8,8,8,8,8,8,8,8,8,8,8,8,8,8,8,8,8,8,8,8,8] (IntKind.wrap .u8 v1.1)).bind fun v4=>(some (w64 (v1.2+(w64 v4)))))))
def kks (x0:Int):Option Int:=
 ((if (decide (4294967296<=x0))=true then ((gshr .u64 x0 32).bind fun v0=>(some (v0,32))) else (some (x0,0))).bind fun v1=>((if (decide (65536<=v1.1))=true then ((gshr .u64 v1.1 16).bind fun v2=>(some (v2,(w64 (v1.2+16))))) else (some v1)).bind fun v3=>(if (decide (256<=v3.1))=true then ((gshr .u64 v3.1 8).bind fun v4=>((gstr [0,1,2,2,3,3,3,3,4,4,4,4,4,4,4,4,5,5,5,5,5,5,5,5,5,5,5,5,5,5,5,5,6,6,6,6,6,6,6,6,6,6,6,6,6,6,6,6,6,6,6,6,6,6,6,6,6,6,6,6,6,6,6,6,7,7,7,7,7,7,7,7,7,7,7,7,7,7,7,7,7,7,7,7,7,7,7,7,7,7,7,7,7,7,7,7,7,7,7,7,7,7,7,7,7,7,7,7,7,7,7,7,7,7,7,7,7,7,7,7,7,7,7,7,7,7,7,7,8,8,8,8,8,8,8,8,8,8,8,8,8,8,8,8,8,8,8,8,8,8,8,8,8,8,8,8,8,8,8,8,8,8,8,8,8,8,8,8,8,8,8,8,8,8,8,8,8,8,8,8,8,8,8,8,8,8,8,8,8,8,8,8,8,8,8,8,8,8,8,8,8,8,8,8,8,8,8,8,8,8,8,8,8,8,8,8,8,8,8,8,8,8,8,8,8,8,8,8,8,8,8,8,8,8,8,8,8,8,8,8,8,8,8,8,8,8,8,8,8,8,8,8,8,8,8,8] (IntKind.wrap .u8 v4)).bind fun v5=>(some (w64 ((w64 (v3.2+8))+(w64 v5)))))) else ((gstr [0,1,2,2,3,3,3,3,4,4,4,4,4,4,4,4,5,5,5,5,5,5,5,5,5,5,5,5,5,5,5,5,6,6,6,6,6,6,6,6,6,6,6,6,6,6,6,6,6,6,6,6,6,6,6,6,6,6,6,6,6,6,6,6,7,7,7,7,7,7,7,7,7,7,7,7,7,7,7,7,7,7,7,7,7,7,7,7,7,7,7,7,7,7,7,7,7,7,7,7,7,7,7,7,7,7,7,7,7,7,7,7,7,7,7,7,7,7,7,7,7,7,7,7,7,7,7,7,8,8,8,8,8,8,8,8,8,8,8,8,8,8,8,8,8,8,8,8,8,8,8,8,8,8,8,8,8,8,8,8,8,8,8,8,8,8,8,8,8,8,8,8,8,8,8,8,8,8,8,8,8,8,8,8,8,8,8,8,8,8,8,8,8,8,8,8,8,8,8,8,8,8,8,8,8,8,8,8,8,8,8,8,8,8,8,8,8,8,8,8,8,8,8,8,8,8,8,8,8,8,8,8,8,8,8,8,8,8,8,8,8,8,8,8,8,8,8,8,8,8,8,8,8,8,8,8] (IntKind.wrap .u8 v3.1)).bind fun v6=>(some (w64 (v3.2+(w64 v6))))))))
def kiS (x0:Int):Option Int:=
 ((kks x0).bind fun v0=>(some v0))
def kaC (x0:Int) (x1:Int):Option Bool:=
 ((kez x0).bind fun v0=>(if v0=true then ((kez x1).bind fun v1=>(if (!v1)=true then (some true) else (some (decide (x0<x1))))) else (some (decide (x0<x1)))))
def kgU (x0:Int):Option Int:=
 ((kiS (IntKind.wrap .u64 x0)).bind fun v0=>((gshl .u64 1 v0).bind fun v1=>(some v1)))
def kfU (x0:Int):Option (Int×Int):=
 ((gshl .u64 x0 13).bind fun v0=>((gshr .u64 (bitsI .xor .u64 x0 v0) 7).bind fun v1=>((gshl .u64 (bitsI .xor .u64 (bitsI .xor .u64 x0 v0) v1) 17).bind fun v2=>(some ((bitsI .xor .u64 (bitsI .xor .u64 (bitsI .xor .u64 x0 v0) v1) v2),(bitsI .xor .u64 (bitsI .xor .u64 (bitsI .xor .u64 x0 v0) v1) v2))))))
def kbd (x0:(List Int)) (x1:Int) (x2:Int) (x3:Int):Option (Int×Int×Int):=
 ((gi x0 x2).bind fun v0=>((gi x0 x1).bind fun v1=>((kaC v0 v1).bind fun v2=>(if v2=true then (some (x2,x1,(w64 (x3+1)))) else (some (x1,x2,x3))))))
def kbS (x0:(List Int)) (x1:Int) (x2:Int) (x3:Int) (x4:Int):Option (Int×Int):=
 ((kbd x0 x1 x2 x4).bind fun v0=>((kbd x0 v0.2.1 x3 v0.2.2).bind fun v1=>((kbd x0 v0.1 v1.1 v1.2.2).bind fun v2=>(some v2.2))))
def kaG (x0:(List Int)) (x1:Int) (x2:Int):Option (Int×Int):=
 ((kbS x0 (w64 (x1-1)) x1 (w64 (x1+1)) x2).bind fun v0=>(some v0))
def kdD (x0:(List Int)) (x1:Int) (x2:Int):Option (Int×Int):=
 ((gquo .i64 (w64 (x2-x1)) 4).bind fun v0=>((gquo .i64 (w64 (x2-x1)) 4).bind fun v1=>((gquo .i64 (w64 (x2-x1)) 4).bind fun v2=>((if (decide (8<=(w64 (x2-x1))))=true then ((if (decide (50<=(w64 (x2-x1))))=true then ((kaG x0 (w64 (x1+(w64 (v0*1)))) 0).bind fun v3=>((kaG x0 (w64 (x1+(w64 (v1*2)))) v3.2).bind fun v4=>((kaG x0 (w64 (x1+(w64 (v2*3)))) v4.2).bind fun v5=>(some (v3.1,v4.1,v5))))) else (some ((w64 (x1+(w64 (v0*1)))),(w64 (x1+(w64 (v1*2)))),(w64 (x1+(w64 (v2*3)))),0))).bind fun v6=>((kbS x0 v6.1 v6.2.1 v6.2.2.1 v6.2.2.2).bind fun v7=>(some v7))) else (some ((w64 (x1+(w64 (v1*2)))),0))).bind fun v8=>(if (v8.2==0)=true then (some (v8.1,1)) else (if (v8.2==12)=true then (some (v8.1,2)) else (some (v8.1,0))))))))
def kgK (v0:(List Int)) (v1:kai):Option (kai⊕((List Int)⊕(List Int))):=
 (if (decide (v1.1<(lenI v0)))=true then ((gi v0 v1.1).bind fun v2=>((gapp v1.2 [v2]).bind fun v3=>(some (.inl ((v1.1+1),v3))))) else (some (.inr (.inr v1.2))))
def kdE (x0:(List Int)) (x1:(List Int)):Option (List Int):=
 ((runI fun o=>(kdB o x1)).bind fun v0=>((iter (kgK v0) (0,x0)).bind fun v4=>(match v4 with | .inl v5=>(some v5) | .inr v6=>(some v6))))
def kha (x0:(List Int)):Option (List Int):=
 ((kdE [] x0).bind fun v0=>(some v0))
def kfj (x0:Int) (v1:kai):Option (kai⊕(List Int)):=
 (if (decide (x0<v1.1))=true then ((gi v1.2 v1.1).bind fun v2=>((gi v1.2 v1.1).bind fun v3=>((gi v1.2 (w64 (v1.1-1))).bind fun v4=>((gi v1.2 (w64 (v1.1-1))).bind fun v5=>((kaC v3 v5).bind fun v6=>(if v6=true then ((gi v1.2 (w64 (v1.1-1))).bind fun v7=>((gi v1.2 (w64 (v1.1-1))).bind fun v8=>((gi v1.2 v1.1).bind fun v9=>((gi v1.2 v1.1).bind fun v10=>((gi v1.2 v1.1).bind fun v11=>((gi (lset v1.2 v1.1 v8) (w64 (v1.1-1))).bind fun v12=>(some (.inl ((w64 (v1.1-1)),(lset (lset v1.2 v1.1 v8) (w64 (v1.1-1)) v10)))))))))) else (some (.inr v1.2)))))))) else (some (.inr v1.2)))
def kfi (x0:Int) (x1:Int) (v0:kai):Option (kai⊕(List Int)):=
 (if (decide (v0.1<x1))=true then ((iter (kfj x0) v0).bind fun v13=>(some (.inl ((w64 (v0.1+1)),v13)))) else (some (.inr v0.2)))
def kcl (x0:Int) (x1:Int) (x2:(List Int)):Option (List Int):=
 ((iter (kfi x0 x1) ((w64 (x0+1)),x2)).bind fun v14=>(some v14))
def kgH (x1:Int) (x2:Int) (v0:kai):Option (kai⊕((List Int)⊕(List Int))):=
 (if (decide (x1<=(w64 ((w64 (2*v0.1))+1))))=true then (some (.inr (.inr v0.2))) else ((if (decide ((w64 ((w64 ((w64 (2*v0.1))+1))+1))<x1))=true then ((gi v0.2 (w64 (x2+(w64 ((w64 (2*v0.1))+1))))).bind fun v1=>((gi v0.2 (w64 (x2+(w64 ((w64 (2*v0.1))+1))))).bind fun v2=>((gi v0.2 (w64 ((w64 (x2+(w64 ((w64 (2*v0.1))+1))))+1))).bind fun v3=>((gi v0.2 (w64 ((w64 (x2+(w64 ((w64 (2*v0.1))+1))))+1))).bind fun v4=>((kaC v2 v4).bind fun v5=>(some v5)))))) else (some false)).bind fun v6=>((if v6=true then (some (w64 ((w64 ((w64 (2*v0.1))+1))+1))) else (some (w64 ((w64 (2*v0.1))+1)))).bind fun v7=>((gi v0.2 (w64 (x2+v0.1))).bind fun v8=>((gi v0.2 (w64 (x2+v0.1))).bind fun v9=>((gi v0.2 (w64 (x2+v7))).bind fun v10=>((gi v0.2 (w64 (x2+v7))).bind fun v11=>((kaC v9 v11).bind fun v12=>(if (!v12)=true then (some (.inr (.inl v0.2))) else ((gi v0.2 (w64 (x2+v7))).bind fun v13=>((gi v0.2 (w64 (x2+v7))).bind fun v14=>((gi v0.2 (w64 (x2+v0.1))).bind fun v15=>((gi v0.2 (w64 (x2+v0.1))).bind fun v16=>((gi v0.2 (w64 (x2+v0.1))).bind fun v17=>((gi (lset v0.2 (w64 (x2+v0.1)) v14) (w64 (x2+v7))).bind fun v18=>(some (.inl (v7,(lset (lset v0.2 (w64 (x2+v0.1)) v14) (w64 (x2+v7)) v16)))))))))))))))))))
def kbC (x0:Int) (x1:Int) (x2:Int) (x3:(List Int)):Option (List Int):=
 ((iter (kgH x1 x2) (x0,x3)).bind fun v19=>(match v19 with | .inl v20=>(some v20) | .inr v21=>(some v21)))
def kgM (x0:Int) (x1:Int) (v1:kai):Option (kai⊕(List Int)):=
 (if (decide (0<=v1.1))=true then ((kbC v1.1 (w64 (x1-x0)) x0 v1.2).bind fun v2=>(some (.inl ((w64 (v1.1-1)),v2)))) else (some (.inr v1.2)))
def kgP (x0:Int) (v4:kai):Option (kai⊕(List Int)):=
 (if (decide (0<=v4.1))=true then ((gi v4.2 (w64 (x0+v4.1))).bind fun v5=>((gi v4.2 (w64 (x0+v4.1))).bind fun v6=>((gi v4.2 x0).bind fun v7=>((gi v4.2 x0).bind fun v8=>((gi v4.2 x0).bind fun v9=>((gi (lset v4.2 x0 v6) (w64 (x0+v4.1))).bind fun v10=>((kbC 0 v4.1 x0 (lset (lset v4.2 x0 v6) (w64 (x0+v4.1)) v8)).bind fun v11=>(some (.inl ((w64 (v4.1-1)),v11)))))))))) else (some (.inr v4.2)))
def kdG (x0:Int) (x1:Int) (x2:(List Int)):Option (List Int):=
 ((gquo .i64 (w64 ((w64 (x1-x0))-1)) 2).bind fun v0=>((iter (kgM x0 x1) (v0,x2)).bind fun v3=>((iter (kgP x0) ((w64 ((w64 (x1-x0))-1)),v3)).bind fun v12=>(some v12))))
def kff (x0:Int) (x1:Int) (v0:Int) (v2:(Int×Int×(List Int))):Option ((Int×Int×(List Int))⊕(List Int)):=
 ((gquo .i64 (w64 (x1-x0)) 4).bind fun v3=>(if (decide (v2.1<=(w64 ((w64 (x0+(w64 (v3*2))))+1))))=true then ((kfU v2.2.1).bind fun v4=>((if (decide ((w64 (x1-x0))<=(w64 (bitsI .and .u64 v4.1 (IntKind.wrap .u64 (v0-1))))))=true then (some (w64 ((w64 (bitsI .and .u64 v4.1 (IntKind.wrap .u64 (v0-1))))-(w64 (x1-x0))))) else (some (w64 (bitsI .and .u64 v4.1 (IntKind.wrap .u64 (v0-1)))))).bind fun v5=>((gi v2.2.2 (w64 (x0+v5))).bind fun v6=>((gi v2.2.2 (w64 (x0+v5))).bind fun v7=>((gi v2.2.2 v2.1).bind fun v8=>((gi v2.2.2 v2.1).bind fun v9=>((gi v2.2.2 v2.1).bind fun v10=>((gi (lset v2.2.2 v2.1 v7) (w64 (x0+v5))).bind fun v11=>(some (.inl ((w64 (v2.1+1)),v4.2,(lset (lset v2.2.2 v2.1 v7) (w64 (x0+v5)) v9)))))))))))) else (some (.inr v2.2.2))))
def kcj (x0:Int) (x1:Int) (x2:(List Int)):Option (List Int):=
 (if (decide (8<=(w64 (x1-x0))))=true then ((kgU (w64 (x1-x0))).bind fun v0=>((gquo .i64 (w64 (x1-x0)) 4).bind fun v1=>((iter (kff x0 x1 v0) ((w64 ((w64 (x0+(w64 (v1*2))))-1)),(IntKind.wrap .u64 (w64 (x1-x0))),x2)).bind fun v12=>(some v12)))) else (some x2))
def kfp (v0:(Int×kai)):Option ((Int×kai)⊕(List Int)):=
 (if (decide (v0.1<v0.2.1))=true then ((gi v0.2.2 v0.2.1).bind fun v1=>((gi v0.2.2 v0.2.1).bind fun v2=>((gi v0.2.2 v0.1).bind fun v3=>((gi v0.2.2 v0.1).bind fun v4=>((gi v0.2.2 v0.1).bind fun v5=>((gi (lset v0.2.2 v0.1 v2) v0.2.1).bind fun v6=>(some (.inl ((w64 (v0.1+1)),(w64 (v0.2.1-1)),(lset (lset v0.2.2 v0.1 v2) v0.2.1 v4)))))))))) else (some (.inr v0.2.2)))
def kct (x0:Int) (x1:Int) (x2:(List Int)):Option (List Int):=
 ((iter (kfp) (x0,(w64 (x1-1)),x2)).bind fun v7=>(some v7))
def kdA (x1:Int) (v0:(Int×kai)) (v1:Int):Option (Int⊕Int):=
 (if (decide (v1<x1))=true then ((gi v0.2.2 v1).bind fun v2=>((gi v0.2.2 v1).bind fun v3=>((gi v0.2.2 (w64 (v1-1))).bind fun v4=>((gi v0.2.2 (w64 (v1-1))).bind fun v5=>((kaC v3 v5).bind fun v6=>(if (!v6)=true then (some (.inl (w64 (v1+1)))) else (some (.inr v1)))))))) else (some (.inr v1)))
def kdv (v14:kai):Option (kai⊕(List Int)):=
 (if (decide (1<=v14.1))=true then ((gi v14.2 v14.1).bind fun v15=>((gi v14.2 v14.1).bind fun v16=>((gi v14.2 (w64 (v14.1-1))).bind fun v17=>((gi v14.2 (w64 (v14.1-1))).bind fun v18=>((kaC v16 v18).bind fun v19=>(if (!v19)=true then (some (.inr v14.2)) else ((gi v14.2 (w64 (v14.1-1))).bind fun v20=>((gi v14.2 (w64 (v14.1-1))).bind fun v21=>((gi v14.2 v14.1).bind fun v22=>((gi v14.2 v14.1).bind fun v23=>((gi v14.2 v14.1).bind fun v24=>((gi (lset v14.2 v14.1 v21) (w64 (v14.1-1))).bind fun v25=>(some (.inl ((w64 (v14.1-1)),(lset (lset v14.2 v14.1 v21) (w64 (v14.1-1)) v23)))))))))))))))) else (some (.inr v14.2)))
def kdx (x1:Int) (v28:kai):Option (kai⊕(List Int)):=
 (if (decide (v28.1<x1))=true then ((gi v28.2 v28.1).bind fun v29=>((gi v28.2 v28.1).bind fun v30=>((gi v28.2 (w64 (v28.1-1))).bind fun v31=>((gi v28.2 (w64 (v28.1-1))).bind fun v32=>((kaC v30 v32).bind fun v33=>(if (!v33)=true then (some (.inr v28.2)) else ((gi v28.2 (w64 (v28.1-1))).bind fun v34=>((gi v28.2 (w64 (v28.1-1))).bind fun v35=>((gi v28.2 v28.1).bind fun v36=>((gi v28.2 v28.1).bind fun v37=>((gi v28.2 v28.1).bind fun v38=>((gi (lset v28.2 v28.1 v35) (w64 (v28.1-1))).bind fun v39=>(some (.inl ((w64 (v28.1+1)),(lset (lset v28.2 v28.1 v35) (w64 (v28.1-1)) v37)))))))))))))))) else (some (.inr v28.2)))
def kdt (x0:Int) (x1:Int) (v0:(Int×kai)):Option ((Int×kai)⊕((Bool×(List Int))⊕(List Int))):=
 (if (decide (v0.1<5))=true then ((iter (kdA x1 v0) v0.2.1).bind fun v7=>(if (v7==x1)=true then (some (.inr (.inl (true,v0.2.2)))) else (if (decide ((w64 (x1-x0))<50))=true then (some (.inr (.inl (false,v0.2.2)))) else ((gi v0.2.2 (w64 (v7-1))).bind fun v8=>((gi v0.2.2 (w64 (v7-1))).bind fun v9=>((gi v0.2.2 v7).bind fun v10=>((gi v0.2.2 v7).bind fun v11=>((gi v0.2.2 v7).bind fun v12=>((gi (lset v0.2.2 v7 v9) (w64 (v7-1))).bind fun v13=>((if (decide (2<=(w64 (v7-x0))))=true then ((iter (kdv) ((w64 (v7-1)),(lset (lset v0.2.2 v7 v9) (w64 (v7-1)) v11))).bind fun v26=>(some v26)) else (some (lset (lset v0.2.2 v7 v9) (w64 (v7-1)) v11))).bind fun v27=>(if (decide (2<=(w64 (x1-v7))))=true then ((iter (kdx x1) ((w64 (v7+1)),v27)).bind fun v40=>(some (.inl ((w64 (v0.1+1)),v7,v40)))) else (some (.inl ((w64 (v0.1+1)),v7,v27)))))))))))))) else (some (.inr (.inr v0.2.2))))
def kbu (x0:Int) (x1:Int) (x2:(List Int)):Option (Bool×(List Int)):=
 ((iter (kdt x0 x1) (0,(w64 (x0+1)),x2)).bind fun v41=>(match v41 with | .inl v42=>(some v42) | .inr v43=>(some (false,v43))))
def keI (x0:Int) (v6:(Int×kai)) (v7:Int):Option (Int⊕Int):=
 (if (decide (v7<=v6.2.1))=true then ((gi v6.2.2 x0).bind fun v8=>((gi v6.2.2 x0).bind fun v9=>((gi v6.2.2 v7).bind fun v10=>((gi v6.2.2 v7).bind fun v11=>((kaC v9 v11).bind fun v12=>(if (!v12)=true then (some (.inl (w64 (v7+1)))) else (some (.inr v7)))))))) else (some (.inr v7)))
def keO (x0:Int) (v6:(Int×kai)) (v13:Int) (v14:Int):Option (Int⊕Int):=
 (if (decide (v13<=v14))=true then ((gi v6.2.2 x0).bind fun v15=>((gi v6.2.2 x0).bind fun v16=>((gi v6.2.2 v14).bind fun v17=>((gi v6.2.2 v14).bind fun v18=>((kaC v16 v18).bind fun v19=>(if v19=true then (some (.inl (w64 (v14-1)))) else (some (.inr v14)))))))) else (some (.inr v14)))
def keL (x0:Int) (v6:(Int×kai)):Option ((Int×kai)⊕kai):=
 ((iter (keI x0 v6) v6.1).bind fun v13=>((iter (keO x0 v6 v13) v6.2.1).bind fun v20=>(if (decide (v20<v13))=true then (some (.inr (v13,v6.2.2))) else ((gi v6.2.2 v20).bind fun v21=>((gi v6.2.2 v20).bind fun v22=>((gi v6.2.2 v13).bind fun v23=>((gi v6.2.2 v13).bind fun v24=>((gi v6.2.2 v13).bind fun v25=>((gi (lset v6.2.2 v13 v22) v20).bind fun v26=>(some (.inl ((w64 (v13+1)),(w64 (v20-1)),(lset (lset v6.2.2 v13 v22) v20 v24)))))))))))))
def kbX (x0:Int) (x1:Int) (x2:Int) (x3:(List Int)):Option kai:=
 ((gi x3 x2).bind fun v0=>((gi x3 x2).bind fun v1=>((gi x3 x0).bind fun v2=>((gi x3 x0).bind fun v3=>((gi x3 x0).bind fun v4=>((gi (lset x3 x0 v1) x2).bind fun v5=>((iter (keL x0) ((w64 (x0+1)),(w64 (x1-1)),(lset (lset x3 x0 v1) x2 v3))).bind fun v27=>(some v27))))))))
def kgn (x0:Int) (x1:Int) (x2:Int) (x3:(List Int)) (v1:Int) (v3:Int) (v6:Int):Option (Int⊕Int):=
 (if (decide (v6<=(w64 (x1-1))))=true then ((gi (lset (lset x3 x0 v1) x2 v3) v6).bind fun v7=>((gi (lset (lset x3 x0 v1) x2 v3) v6).bind fun v8=>((gi (lset (lset x3 x0 v1) x2 v3) x0).bind fun v9=>((gi (lset (lset x3 x0 v1) x2 v3) x0).bind fun v10=>((kaC v8 v10).bind fun v11=>(if v11=true then (some (.inl (w64 (v6+1)))) else (some (.inr v6)))))))) else (some (.inr v6)))
def kgB (x0:Int) (x2:Int) (x3:(List Int)) (v1:Int) (v3:Int) (v12:Int) (v13:Int):Option (Int⊕Int):=
 (if (decide (v12<=v13))=true then ((gi (lset (lset x3 x0 v1) x2 v3) v13).bind fun v14=>((gi (lset (lset x3 x0 v1) x2 v3) v13).bind fun v15=>((gi (lset (lset x3 x0 v1) x2 v3) x0).bind fun v16=>((gi (lset (lset x3 x0 v1) x2 v3) x0).bind fun v17=>((kaC v15 v17).bind fun v18=>(if (!v18)=true then (some (.inl (w64 (v13-1)))) else (some (.inr v13)))))))) else (some (.inr v13)))
def kgq (x0:Int) (v32:(Int×kai)) (v33:Int):Option (Int⊕Int):=
 (if (decide (v33<=v32.2.1))=true then ((gi v32.2.2 v33).bind fun v34=>((gi v32.2.2 v33).bind fun v35=>((gi v32.2.2 x0).bind fun v36=>((gi v32.2.2 x0).bind fun v37=>((kaC v35 v37).bind fun v38=>(if v38=true then (some (.inl (w64 (v33+1)))) else (some (.inr v33)))))))) else (some (.inr v33)))
def kgi (x0:Int) (v32:(Int×kai)) (v39:Int) (v40:Int):Option (Int⊕Int):=
 (if (decide (v39<=v40))=true then ((gi v32.2.2 v40).bind fun v41=>((gi v32.2.2 v40).bind fun v42=>((gi v32.2.2 x0).bind fun v43=>((gi v32.2.2 x0).bind fun v44=>((kaC v42 v44).bind fun v45=>(if (!v45)=true then (some (.inl (w64 (v40-1)))) else (some (.inr v40)))))))) else (some (.inr v40)))
def kgu (x0:Int) (v32:(Int×kai)):Option ((Int×kai)⊕kai):=
 ((iter (kgq x0 v32) v32.1).bind fun v39=>((iter (kgi x0 v32 v39) v32.2.1).bind fun v46=>(if (decide (v46<v39))=true then (some (.inr (v46,v32.2.2))) else ((gi v32.2.2 v46).bind fun v47=>((gi v32.2.2 v46).bind fun v48=>((gi v32.2.2 v39).bind fun v49=>((gi v32.2.2 v39).bind fun v50=>((gi v32.2.2 v39).bind fun v51=>((gi (lset v32.2.2 v39 v48) v46).bind fun v52=>(some (.inl ((w64 (v39+1)),(w64 (v46-1)),(lset (lset v32.2.2 v39 v48) v46 v50)))))))))))))
def kdi (x0:Int) (x1:Int) (x2:Int) (x3:(List Int)):Option (Int×Bool×(List Int)):=
 ((gi x3 x2).bind fun v0=>((gi x3 x2).bind fun v1=>((gi x3 x0).bind fun v2=>((gi x3 x0).bind fun v3=>((gi x3 x0).bind fun v4=>((gi (lset x3 x0 v1) x2).bind fun v5=>((iter (kgn x0 x1 x2 x3 v1 v3) (w64 (x0+1))).bind fun v12=>((iter (kgB x0 x2 x3 v1 v3 v12) (w64 (x1-1))).bind fun v19=>(if (decide (v19<v12))=true then ((gi (lset (lset x3 x0 v1) x2 v3) x0).bind fun v20=>((gi (lset (lset x3 x0 v1) x2 v3) x0).bind fun v21=>((gi (lset (lset x3 x0 v1) x2 v3) v19).bind fun v22=>((gi (lset (lset x3 x0 v1) x2 v3) v19).bind fun v23=>((gi (lset (lset x3 x0 v1) x2 v3) v19).bind fun v24=>((gi (lset (lset (lset x3 x0 v1) x2 v3) v19 v21) x0).bind fun v25=>(some (v19,true,(lset (lset (lset (lset x3 x0 v1) x2 v3) v19 v21) x0 v23))))))))) else ((gi (lset (lset x3 x0 v1) x2 v3) v19).bind fun v26=>((gi (lset (lset x3 x0 v1) x2 v3) v19).bind fun v27=>((gi (lset (lset x3 x0 v1) x2 v3) v12).bind fun v28=>((gi (lset (lset x3 x0 v1) x2 v3) v12).bind fun v29=>((gi (lset (lset x3 x0 v1) x2 v3) v12).bind fun v30=>((gi (lset (lset (lset x3 x0 v1) x2 v3) v12 v27) v19).bind fun v31=>((iter (kgu x0) ((w64 (v12+1)),(w64 (v19-1)),(lset (lset (lset (lset x3 x0 v1) x2 v3) v12 v27) v19 v29))).bind fun v53=>((gi v53.2 x0).bind fun v54=>((gi v53.2 x0).bind fun v55=>((gi v53.2 v53.1).bind fun v56=>((gi v53.2 v53.1).bind fun v57=>((gi v53.2 v53.1).bind fun v58=>((gi (lset v53.2 v53.1 v55) x0).bind fun v59=>(some (v53.1,false,(lset (lset v53.2 v53.1 v55) x0 v57)))))))))))))))))))))))))
def khc (rec_slices_pdqsortOrdered_int_m0:Int->Int->Int->(List Int)->Option (List Int)) (v0:(Int×Int×Int×Bool×Bool×(List Int))):Option ((Int×Int×Int×Bool×Bool×(List Int))⊕((List Int)⊕(List Int))):=
 (if (decide ((w64 (v0.1-v0.2.1))<=12))=true then ((kcl v0.2.1 v0.1 v0.2.2.2.2.2).bind fun v1=>(some (.inr (.inl v1)))) else (if (v0.2.2.1==0)=true then ((kdG v0.2.1 v0.1 v0.2.2.2.2.2).bind fun v2=>(some (.inr (.inl v2)))) else ((if (!v0.2.2.2.1)=true then ((kcj v0.2.1 v0.1 v0.2.2.2.2.2).bind fun v3=>(some ((w64 (v0.2.2.1-1)),v3))) else (some (v0.2.2.1,v0.2.2.2.2.2))).bind fun v4=>((kdD v4.2 v0.2.1 v0.1).bind fun v5=>((if (v5.2==2)=true then ((kct v0.2.1 v0.1 v4.2).bind fun v6=>(some (1,(w64 ((w64 (v0.1-1))-(w64 (v5.1-v0.2.1)))),v6))) else (some (v5.2,v5.1,v4.2))).bind fun v7=>((if v0.2.2.2.1=true then (if v0.2.2.2.2.1=true then (some (v7.1==1)) else (some false)) else (some false)).bind fun v8=>(((if v8=true then ((kbu v0.2.1 v0.1 v7.2.2).bind fun v9=>(if v9.1=true then (some (.inl v9.2)) else (some (.inr v9.2)))) else (some (.inr v7.2.2))):Option ((List Int)⊕(List Int))).bind fun v10=>(match v10 with | .inl v11=>(some (.inr (.inl v11))) | .inr v12=>((if (decide (0<v0.2.1))=true then ((gi v12 (w64 (v0.2.1-1))).bind fun v13=>((gi v12 (w64 (v0.2.1-1))).bind fun v14=>((gi v12 v7.2.1).bind fun v15=>((gi v12 v7.2.1).bind fun v16=>((kaC v14 v16).bind fun v17=>(some (!v17))))))) else (some false)).bind fun v18=>(if v18=true then ((kbX v0.2.1 v0.1 v7.2.1 v12).bind fun v19=>(some (.inl (v0.1,v19.1,v4.1,v0.2.2.2.1,v0.2.2.2.2.1,v19.2)))) else ((kdi v0.2.1 v0.1 v7.2.1 v12).bind fun v20=>((gquo .i64 (w64 (v0.1-v0.2.1)) 8).bind fun v21=>(if (decide ((w64 (v20.1-v0.2.1))<(w64 (v0.1-v20.1))))=true then ((rec_slices_pdqsortOrdered_int_m0 v0.2.1 v20.1 v4.1 v20.2.2).bind fun v22=>(some (.inl (v0.1,(w64 (v20.1+1)),v4.1,(decide (v21<=(w64 (v20.1-v0.2.1)))),v20.2.1,v22)))) else ((rec_slices_pdqsortOrdered_int_m0 (w64 (v20.1+1)) v0.1 v4.1 v20.2.2).bind fun v23=>(some (.inl (v20.1,v0.2.1,v4.1,(decide (v21<=(w64 (v0.1-v20.1)))),v20.2.1,v23)))))))))))))))))
def khG (rec_slices_pdqsortOrdered_int_m0:Int->Int->Int->(List Int)->Option (List Int)) (x0:Int) (x1:Int) (x2:Int) (x3:(List Int)):Option (List Int):=
 ((iter (khc rec_slices_pdqsortOrdered_int_m0) (x1,x0,x2,true,true,x3)).bind fun v24=>(match v24 with | .inl v25=>(some v25) | .inr v26=>(some v26)))
def kbw:Nat->Int->Int->Int->(List Int)->Option (List Int)
 | 0,_,_,_,_=>none
 | k+1,x0,x1,x2,x3=>khG (kbw k) x0 x1 x2 x3
def kdY (x0:Int) (x1:Int) (x2:Int) (x3:(List Int)):Option (List Int):=kbw 1000000 x0 x1 x2 x3
def kfm (x0:(List Int)):Option (List Int):=
 ((kiS (IntKind.wrap .u64 (lenI x0))).bind fun v0=>((kdY 0 (lenI x0) v0 x0).bind fun v1=>(some v1)))
def khm (x0:(List Int)):Option (List Int):=
 ((kha x0).bind fun v0=>((kfm v0).bind fun v1=>(some v1)))
def kue (v1:(List Int)) (v2:Int):Option (Int⊕(Bool⊕Unit)):=
 (if (decide (v2<(lenI v1)))=true then ((gi v1 v2).bind fun v3=>((gi v1 v2).bind fun v4=>(if (v4 != v2)=true then (some (.inr (.inl false))) else (some (.inl (w64 (v2+1))))))) else (some (.inr (.inr ()))))
def kpy (x0:(List Int)) (x1:Int):Option Bool:=
 ((keB x0).bind fun v0=>((khm v0).bind fun v1=>((iter (kue v1) 0).bind fun v5=>(match v5 with | .inl v6=>(some v6) | .inr v7=>(some ((lenI x0)==x1))))))
def klx (x0:(List Int)) (x1:Int):Option Bool:=
 ((kpy x0 x1).bind fun v0=>(some (!v0)))
def kgA (x0:(List (List Int))) (x1:((List Int)->Option Bool)) (v0:Int):Option (Int⊕(Int⊕Unit)):=
 (if (decide (v0<(lenI x0)))=true then ((gi x0 v0).bind fun v1=>((x1 v1).bind fun v2=>(if v2=true then (some (.inr (.inl v0))) else (some (.inl (w64 (v0+1))))))) else (some (.inr (.inr ()))))
def kdc (x0:(List (List Int))) (x1:((List Int)->Option Bool)):Option Int:=
 ((iter (kgA x0 x1) 0).bind fun v3=>(match v3 with | .inl v4=>(some v4) | .inr v5=>(some (-1))))
def kcw (x0:(List (List Int))) (x1:((List Int)->Option Bool)):Option Bool:=
 ((kdc x0 x1).bind fun v0=>(some (decide (0<=v0))))
def kkS (x0:(List (List Int))):Option Bool:=
 ((kbJ 1 8 (lenI x0)).bind fun v0=>(if v0=true then ((kcw x0 (fun (u0:(List Int))=>((klx u0 (lenI x0)).bind fun u1=>(some u1)))).bind fun v1=>(some (!v1))) else (some false)))
def kqh (x0:Int) (x1:Int):Option (Int×Int):=
 ((gshr .u64 (IntKind.wrap .u64 ((IntKind.wrap .u64 x0)*(IntKind.wrap .u64 x1))) 32).bind fun v0=>(some ((IntKind.wrap .u32 v0),(IntKind.wrap .u32 (IntKind.wrap .u64 ((IntKind.wrap .u64 x0)*(IntKind.wrap .u64 x1)))))))
def kkv (x0:Int) (x1:Int):Option (Int×Int):=
 ((gshr .u64 x0 32).bind fun v0=>((gshr .u64 x1 32).bind fun v1=>((gshr .u64 (IntKind.wrap .u64 ((bitsI .and .u64 x0 4294967295)*(bitsI .and .u64 x1 4294967295))) 32).bind fun v2=>((gshr .u64 (IntKind.wrap .u64 ((IntKind.wrap .u64 (v0*(bitsI .and .u64 x1 4294967295)))+v2)) 32).bind fun v3=>((gshr .u64 (IntKind.wrap .u64 ((bitsI .and .u64 (IntKind.wrap .u64 ((IntKind.wrap .u64 (v0*(bitsI .and .u64 x1 4294967295)))+v2)) 4294967295)+(IntKind.wrap .u64 ((bitsI .and .u64 x0 4294967295)*v1)))) 32).bind fun v4=>(some ((IntKind.wrap .u64 ((IntKind.wrap .u64 ((IntKind.wrap .u64 (v0*v1))+v3))+v4)),(IntKind.wrap .u64 (x0*x1)))))))))
def kmv (x0:Int) (x1:Int):Option (Int×Int):=
 ((kkv x0 x1).bind fun v0=>(some v0))
def kkw (x0:Int) (x1:(List Int)):Option Bool:=
 ((gi x1 x0).bind fun v0=>(some (decide (v0<0))))
def kfw (x0:Int) (x1:(List (List Int))) (x2:(List Int)):Option Int:=
 ((gi x1 x0).bind fun v0=>((kcd v0 (fun (u0:Int)=>((kkw u0 x2).bind fun u1=>(some u1)))).bind fun v1=>((gi x1 x0).bind fun v2=>((gi v2 v1).bind fun v3=>(some v3)))))
def khQ (v5:kai):Option (kai⊕(List Int)):=
 (if (decide (v5.1<(lenI v5.2)))=true then ((gsl v5.2 v5.1 (lenI v5.2)).bind fun v6=>((gsl v5.2 0 v5.1).bind fun v7=>(some (.inl ((w64 (v5.1+(imin (lenI ((List.drop (Int.toNat 0) v5.2).take (Int.toNat (v5.1-0)))) ((lenI v5.2)-v5.1)))),(kyb v5.2 (v5.1,((lenI v5.2)-v5.1)) ((List.drop (Int.toNat 0) v5.2).take (Int.toNat (v5.1-0))))))))) else (some (.inr v5.2)))
def ker (x0:(List Int)) (x1:Int):Option (List Int):=
 ((if (decide (x1<0))=true then none else (some ())).bind fun v0=>((kmv (IntKind.wrap .u64 (lenI x0)) (IntKind.wrap .u64 x1)).bind fun v1=>((if (decide (0<v1.1))=true then (some true) else (some (decide (9223372036854775807<v1.2)))).bind fun v2=>((if v2=true then none else (some ())).bind fun v3=>((gmk (w64 v1.2) 0).bind fun v4=>((iter (khQ) ((imin (lenI x0) (lenI v4)),(lcopy v4 0 (lenI v4) x0))).bind fun v8=>(some v8)))))))
def ksF (x0:(List (List Int))) (v3:(List Int)) (v6:(Int×Int)):Option ((Int×Int)⊕Int):=
 (if (decide (v6.1<(lenI x0)))=true then ((kfw v6.2 x0 v3).bind fun v7=>(some (.inl ((w64 (v6.1+1)),v7)))) else (some (.inr v6.2)))
def ktH (x0:(List (List Int))) (v3:(List Int)) (v8:Int) (v10:kai):Option (kai⊕(List Int)):=
 (if (v10.1 != v8)=true then ((gapp v10.2 [v10.1]).bind fun v11=>((kfw v10.1 x0 v3).bind fun v12=>(some (.inl (v12,v11))))) else (some (.inr v10.2)))
def kto (x0:(List (List Int))) (v3:(List Int)) (v13:(List Int)) (v14:kai):Option (kai⊕(List Int)):=
 (if (decide (v14.1<(lenI v13)))=true then ((gi v13 v14.1).bind fun v15=>((gi v13 v14.1).bind fun v16=>((kfw v16 x0 v3).bind fun v17=>((gapp v14.2 [v17]).bind fun v18=>(some (.inl ((w64 (v14.1+1)),v18))))))) else (some (.inr v14.2)))
def ktP (v13:(List Int)) (v19:(List Int)) (v20:kai):Option (kai⊕(List Int)):=
 (if (decide (v20.1<(lenI v13)))=true then ((gi v13 v20.1).bind fun v21=>((gi v13 v20.1).bind fun v22=>((gi v19 v20.1).bind fun v23=>((gi v19 v20.1).bind fun v24=>((gi v20.2 v22).bind fun v25=>(some (.inl ((w64 (v20.1+1)),(lset v20.2 v22 v24))))))))) else (some (.inr v20.2)))
def ktO (x0:(List (List Int))) (v2:kai) (v3:(List Int)):Option ((List Int)⊕(List Int)):=
 ((gi v3 v2.1).bind fun v4=>((gi v3 v2.1).bind fun v5=>(if (decide (v5<0))=true then ((iter (ksF x0 v3) (0,v2.1)).bind fun v8=>((kfw v8 x0 v3).bind fun v9=>((iter (ktH x0 v3 v8) (v9,[v8])).bind fun v13=>((iter (kto x0 v3 v13) (0,[])).bind fun v19=>((iter (ktP v13 v19) (0,v3)).bind fun v26=>(some (.inl v26))))))) else (some (.inr v3)))))
def ksK (x0:(List (List Int))) (v2:kai):Option (kai⊕(List Int)):=
 (if (decide (v2.1<(lenI x0)))=true then ((iter (ktO x0 v2) v2.2).bind fun v27=>(some (.inl ((w64 (v2.1+1)),v27)))) else (some (.inr v2.2)))
def knn (x0:(List (List Int))):Option ((List Int)×Int):=
 ((kkS x0).bind fun v0=>(if (!v0)=true then (some ([],2)) else ((ker [(-1)] (lenI x0)).bind fun v1=>((iter (ksK x0) (0,v1)).bind fun v28=>(some (v28,0))))))
def knc (x0:(List (Int×Int×Int))) (x1:(List (Int×Int×Int))) (v0:Int):Option (Int⊕(Bool⊕Unit)):=
 (if (decide (v0<(lenI x0)))=true then ((gi x0 v0).bind fun v1=>((gi x1 v0).bind fun v2=>(if (!((v1.1==v2.1)&&((v1.2.1==v2.2.1)&&(v1.2.2==v2.2.2))))=true then (some (.inr (.inl false))) else (some (.inl (w64 (v0+1))))))) else (some (.inr (.inr ()))))
def khu (x0:(List (Int×Int×Int))) (x1:(List (Int×Int×Int))):Option Bool:=
 (if ((lenI x0) != (lenI x1))=true then (some false) else ((iter (knc x0 x1) 0).bind fun v3=>(match v3 with | .inl v4=>(some v4) | .inr v5=>(some true))))
def knX (x0:(List Int)) (x1:(List Int)) (v0:Int):Option (Int⊕(Bool⊕Unit)):=
 (if (decide (v0<(lenI x0)))=true then ((gi x0 v0).bind fun v1=>((gi x1 v0).bind fun v2=>(if (v1 != v2)=true then (some (.inr (.inl false))) else (some (.inl (w64 (v0+1))))))) else (some (.inr (.inr ()))))
def kcA (x0:(List Int)) (x1:(List Int)):Option Bool:=
 (if ((lenI x0) != (lenI x1))=true then (some false) else ((iter (knX x0 x1) 0).bind fun v3=>(match v3 with | .inl v4=>(some v4) | .inr v5=>(some true))))
def knf:Option Bool:=
 ((kam 1 1 4).bind fun v0=>((kam 1 3 2).bind fun v1=>((kam 4 0 1).bind fun v2=>((kam 1 3 3).bind fun v3=>((kqY [v1,v2] [v3]).bind fun v4=>(law08_needed.bind fun v5=>(law08_swap.bind fun v6=>((koW [v0] v5 v6).bind fun v7=>(law08_needed.bind fun v8=>(law08_swap.bind fun v9=>((kqq [v0] v8 v9 [(1,1,5),(2,1,3)]).bind fun v10=>((kam 1 1 3).bind fun v11=>(law08_plans.bind fun v12=>((kqp [v11] v12 [5,4,9]).bind fun v13=>((knn [[1,0,2],[0,1,2],[0,1,2]]).bind fun v14=>(if (v4.2 != 0)=true then (some false) else ((kam 1 3 5).bind fun v15=>((kam 4 0 1).bind fun v16=>((khu v4.1 [v15,v16]).bind fun v17=>(if (!v17)=true then (some false) else (if (v7.2 != 0)=true then (some false) else (if (v7.1.1 != 4)=true then (some false) else ((kcA v7.1.2 [0,1]).bind fun v18=>(if (!v18)=true then (some false) else (if (v10.2 != 0)=true then (some false) else ((kcA v10.1.1 [3,1]).bind fun v19=>(if (!v19)=true then (some false) else (if (v10.1.2.2 != 3)=true then (some false) else (if (v13.2==0)=true then ((kcA v13.1.1 [2]).bind fun v20=>(if v20=true then (if (v13.1.2.1==9)=true then (if ((lenI v13.1.2.2)==0)=true then (if (v14.2==0)=true then ((kcA v14.1 [1,0,2]).bind fun v21=>(some v21)) else (some false)) else (some false)) else (some false)) else (some false))) else (some false))))))))))))))))))))))))))))))
def law08_alive:Option Bool:=some true
theorem kxd:knf=law08_alive:=by kernel_rfl
def kju (x0:(List Int)) (x1:Int) (v0:Int):Option (Int⊕(Int⊕Unit)):=
 (if (decide (v0<(lenI x0)))=true then ((gi x0 v0).bind fun v1=>(if (x1==v1)=true then (some (.inr (.inl v0))) else (some (.inl (w64 (v0+1)))))) else (some (.inr (.inr ()))))
def kgx (x0:(List Int)) (x1:Int):Option Int:=
 ((iter (kju x0 x1) 0).bind fun v2=>(match v2 with | .inl v3=>(some v3) | .inr v4=>(some (-1))))
def keX (x0:(List Int)) (x1:Int):Option Bool:=
 ((kgx x0 x1).bind fun v0=>(some (decide (0<=v0))))
def kph (x1:(List (Int×Int×Int))) (v2:kai):Option (kai⊕(List Int)):=
 (if (decide (v2.1<(lenI x1)))=true then ((gi x1 v2.1).bind fun v3=>((gi v2.2 v2.1).bind fun v4=>(some (.inl ((w64 (v2.1+1)),(lset v2.2 v2.1 v3.2.2)))))) else (some (.inr v2.2)))
def kpu (x0:(List (Int×Int×Int))) (x1:(List (Int×Int×Int))) (x3:(List (Int×Int×Int))) (v6:(Int×Int)):Option ((Int×Int)⊕((Int×Int)⊕Int)):=
 (if (decide (v6.1<(lenI x3)))=true then ((gi x3 v6.1).bind fun v7=>((kbJ 0 (w64 ((lenI x1)-1)) v7.1).bind fun v8=>(if (!v8)=true then (some (.inr (.inl (0,8)))) else ((kbJ 0 (w64 ((lenI x0)-1)) v7.2.1).bind fun v9=>(if (!v9)=true then (some (.inr (.inl (0,8)))) else none))))) else (some (.inr (.inr v6.2))))
def kpc (x1:(List (Int×Int×Int))) (v15:kai):Option (kai⊕(List Int)):=
 (if (decide (v15.1<(lenI x1)))=true then ((gi x1 v15.1).bind fun v16=>((gi v15.2 v15.1).bind fun v17=>(some (.inl ((w64 (v15.1+1)),(lset v15.2 v15.1 v16.2.2)))))) else (some (.inr v15.2)))
def koM (x0:(List (Int×Int×Int))) (x1:(List (Int×Int×Int))) (x3:(List (Int×Int×Int))) (v13:(Int×Flow)) (v19:(Int×Int×(List (Int×Int×Int))×(List Int)×(List Int))):Option ((Int×Int×(List (Int×Int×Int))×(List Int)×(List Int))⊕((Int×Int)⊕Int)):=
 (if (decide (v19.1<(lenI x3)))=true then ((gi x3 v19.1).bind fun v20=>((kbJ 0 (w64 ((lenI x1)-1)) v20.1).bind fun v21=>(if (!v21)=true then (some (.inr (.inl (0,8)))) else ((kbJ 0 (w64 ((lenI x0)-1)) v20.2.1).bind fun v22=>(if (!v22)=true then (some (.inr (.inl (0,8)))) else ((gi v13.2.2.1 v20.1).bind fun v23=>((gi v13.2.2.1 v20.1).bind fun v24=>((keX v24 v20.2.1).bind fun v25=>(if (!v25)=true then (some (.inr (.inl (0,8)))) else ((gi v19.2.2.2.2 v20.1).bind fun v26=>((gi v19.2.2.2.2 v20.1).bind fun v27=>((gi v19.2.2.2.1 v20.2.1).bind fun v28=>((gi v19.2.2.2.1 v20.2.1).bind fun v29=>((kbJ 1 (imin v27 v29) v20.2.2).bind fun v30=>(if (!v30)=true then (some (.inr (.inl (0,8)))) else ((if (decide (0<v19.1))=true then ((gi x3 (w64 (v19.1-1))).bind fun v31=>((kca v31.1 v20.1).bind fun v32=>((gi x3 (w64 (v19.1-1))).bind fun v33=>((kca v33.2.1 v20.2.1).bind fun v34=>((kjt [v32,v34]).bind fun v35=>(some (decide (0<=v35)))))))) else (some false)).bind fun v36=>(if v36=true then (some (.inr (.inl (0,8)))) else ((gi v19.2.2.2.2 v20.1).bind fun v37=>((gi v19.2.2.2.2 v20.1).bind fun v38=>((gi v19.2.2.2.2 v20.1).bind fun v39=>((gi v19.2.2.2.1 v20.2.1).bind fun v40=>((gi v19.2.2.2.1 v20.2.1).bind fun v41=>((gi v19.2.2.2.1 v20.2.1).bind fun v42=>(some (.inl ((w64 (v19.1+1)),(w64 (v19.2.1+v20.2.2)),v19.2.2.1,(lset v19.2.2.2.1 v20.2.1 (w64 (v41-v20.2.2))),(lset v19.2.2.2.2 v20.1 (w64 (v38-v20.2.2))))))))))))))))))))))))))))) else (some (.inr (.inr v19.2.1))))
def kiU (x0:(List (Int×Int×Int))) (x1:(List (Int×Int×Int))) (x2:(List Swap)) (x3:(List (Int×Int×Int))):Option (Int×Int):=
 (elsO ((kdV x0 x1 x2).bind fun v0=>(if (v0 != 0)=true then (some (0,v0)) else ((gmk (lenI x1) 0).bind fun v1=>((iter (kph x1) (0,v1)).bind fun v5=>((iter (kpu x0 x1 x3) (0,0)).bind fun v10=>(match v10 with | .inl v11=>(some v11) | .inr v12=>(some (v12,0)))))))) ((kdL x0 x1 x2).bind fun v13=>(if (v13.1 != 0)=true then (some (0,v13.1)) else ((gmk (lenI x1) 0).bind fun v14=>((iter (kpc x1) (0,v14)).bind fun v18=>((iter (koM x0 x1 x3 v13) (0,0,v13.2.1,v13.2.2.2.2,v18)).bind fun v43=>(match v43 with | .inl v44=>(some v44) | .inr v45=>(some (v45,0)))))))))
def khf (x0:(List Int)) (x1:(List Int)) (v0:Int):Option (Int⊕(Int⊕Unit)):=
 (if (decide (v0<(lenI x0)))=true then ((gi x0 v0).bind fun v1=>(if (decide ((lenI x1)<=v0))=true then (some (.inr (.inl 1))) else ((gi x1 v0).bind fun v2=>((kge v1 v2).bind fun v3=>(if (v3 != 0)=true then (some (.inr (.inl v3))) else (some (.inl (w64 (v0+1))))))))) else (some (.inr (.inr ()))))
def kdP (x0:(List Int)) (x1:(List Int)):Option Int:=
 ((iter (khf x0 x1) 0).bind fun v4=>(match v4 with | .inl v5=>(some v5) | .inr v6=>(if (decide ((lenI x0)<(lenI x1)))=true then (some (-1)) else (some 0))))
def kti (v4:(List (Int×(List (Int×Int×Int))))) (v5:kai):Option (kai⊕(((List Int)×Int×Int)⊕(List Int))):=
 (if (decide (v5.1<(lenI v4)))=true then ((gi v4 v5.1).bind fun v6=>((gapp v5.2 [v6.1]).bind fun v7=>(some (.inl ((v5.1+1),v7))))) else (some (.inr (.inr v5.2))))
def ktB (v14:(Int×(List (Int×Int×Int)))) (v17:Int) (v18:(List Int)) (v19:(Int×(List Int))):Option ((Int×(List Int))⊕(List Int)):=
 (if (decide (v19.1<(lenI v18)))=true then ((gshr .i64 v14.1 v19.1).bind fun v20=>((gshr .i64 v17 v19.1).bind fun v21=>((gi v19.2 v19.1).bind fun v22=>(some (.inl ((w64 (v19.1+1)),(lset v19.2 v19.1 (IntKind.wrap .u8 (w64 ((bitsI .and .i64 v20 1)+(w64 (2*(bitsI .and .i64 v21 1))))))))))))) else (some (.inr v19.2)))
def ksD (x2:(List (List (Int×Int×Int)))) (x3:(List Int)) (v10:(List Int)) (v14:(Int×(List (Int×Int×Int)))) (v15:(Int×Int×(List Int))):Option ((Int×Int×(List Int))⊕((List Int)×Int)):=
 (if (decide (v15.1<(lenI v10)))=true then ((gi v10 v15.1).bind fun v16=>((gi v10 v15.1).bind fun v17=>(if ((bitsI .and .i64 v17 v14.1) != 0)=true then (some (.inl ((w64 (v15.1+1)),v15.2))) else ((gmk (lenI x2) 0).bind fun v18=>((iter (ktB v14 v17 v18) (0,v18)).bind fun v23=>((kkO (bitsI .or .i64 v14.1 v17) x3).bind fun v24=>(if (decide (v15.2.1<v24.2))=true then (some (.inl ((w64 (v15.1+1)),v24.2,v23))) else (if (v24.2==v15.2.1)=true then ((kdP v23 v15.2.2).bind fun v25=>(if (decide (v25<0))=true then (some (.inl ((w64 (v15.1+1)),v24.2,v23))) else (some (.inl ((w64 (v15.1+1)),v15.2))))) else (some (.inl ((w64 (v15.1+1)),v15.2))))))))))) else (some (.inr (v15.2.2,v15.2.1))))
def ktU (x2:(List (List (Int×Int×Int)))) (x3:(List Int)) (v10:(List Int)) (v12:(List (Int×(List (Int×Int×Int))))) (v13:(Int×(List Int)×Int)):Option ((Int×(List Int)×Int)⊕(((List Int)×Int×Int)⊕((List Int)×Int))):=
 (if (decide (v13.1<(lenI v12)))=true then ((gi v12 v13.1).bind fun v14=>((iter (ksD x2 x3 v10 v14) (0,v13.2.2,v13.2.1)).bind fun v26=>(some (.inl ((v13.1+1),v26))))) else (some (.inr (.inr v13.2))))
def krI (x0:(List (Int×Int×Int))) (x1:(List (Int×Int×Int))) (x2:(List (List (Int×Int×Int)))) (x3:(List Int)):Option ((List Int)×Int×Int):=
 ((kcv [x0,x1]).bind fun v0=>((if (v0==0)=true then ((kkI x2 x3).bind fun v1=>(some v1)) else (some v0)).bind fun v2=>(if (v2 != 0)=true then (some ([],0,v2)) else ((khn x1 x2).bind fun v3=>((runI fun o=>(kdf o v3.1 v3.2)).bind fun v4=>((iter (kti v4) (0,[])).bind fun v8=>(match v8 with | .inl v9=>(some v9) | .inr v10=>((khn x0 x2).bind fun v11=>((runI fun o=>(kdf o v11.1 v11.2)).bind fun v12=>((iter (ktU x2 x3 v10 v12) (0,[],(-1))).bind fun v27=>(match v27 with | .inl v28=>(some v28) | .inr v29=>(some (v29.1,v29.2,0)))))))))))))
def kmy (rec_box_Better_c1_m0:Int->Int->Bool->Int->Int->(List (List Int))->(List Int)->Option (Bool×Int×Int×(List (List Int))×(List Int))) (x0:Int) (x1:Int) (x2:Bool) (v2:(List Int)) (v3:(Int×(List Int)×Int×Int×(List (List Int)))):Option ((Int×(List Int)×Int×Int×(List (List Int)))⊕((Bool×Int×Int×(List (List Int))×(List Int))⊕((List Int)×Int×Int×(List (List Int))))):=
 (if (decide (v3.1<(lenI v2)))=true then ((gi v2 v3.1).bind fun v4=>((gi v3.2.1 x0).bind fun v5=>((gshr .u8 x1 v4).bind fun v6=>(if ((bitsI .and .u8 v6 1)==1)=true then ((gshl .u8 1 v4).bind fun v7=>(if x2=true then ((rec_box_Better_c1_m0 (w64 (x0+1)) (bitsI .andNot .u8 x1 v7) true v3.2.2.1 v3.2.2.2.1 v3.2.2.2.2 v3.2.1).bind fun v8=>(if v8.1=true then (some (.inr (.inl (true,v8.2)))) else (if (v4==v5)=true then (some (.inr (.inl (false,v8.2)))) else (some (.inl ((w64 (v3.1+1)),v8.2.2.2.2,v8.2.1,v8.2.2.1,v8.2.2.2.1)))))) else ((rec_box_Better_c1_m0 (w64 (x0+1)) (bitsI .andNot .u8 x1 v7) (!(v4==v5)) v3.2.2.1 v3.2.2.2.1 v3.2.2.2.2 v3.2.1).bind fun v9=>(if v9.1=true then (some (.inr (.inl (true,v9.2)))) else (if (v4==v5)=true then (some (.inr (.inl (false,v9.2)))) else (some (.inl ((w64 (v3.1+1)),v9.2.2.2.2,v9.2.1,v9.2.2.1,v9.2.2.2.1)))))))) else (if (v4==v5)=true then (some (.inr (.inl (false,v3.2.2.1,v3.2.2.2.1,v3.2.2.2.2,v3.2.1)))) else (some (.inl ((w64 (v3.1+1)),v3.2)))))))) else (some (.inr (.inr v3.2))))
def kmX (rec_box_Better_c1_m0:Int->Int->Bool->Int->Int->(List (List Int))->(List Int)->Option (Bool×Int×Int×(List (List Int))×(List Int))) (x0:Int) (x1:Int) (x2:Bool) (x3:Int) (x4:Int) (x5:(List (List Int))) (x6:(List Int)):Option (Bool×Int×Int×(List (List Int))×(List Int)):=
 (if (x0==x3)=true then (some (x2,x3,x4,x5,x6)) else ((gshr .u8 x4 x0).bind fun v0=>(if ((bitsI .and .u8 v0 1)==0)=true then ((rec_box_Better_c1_m0 (w64 (x0+1)) x1 x2 x3 x4 x5 x6).bind fun v1=>(some v1)) else ((gi x5 x0).bind fun v2=>((iter (kmy rec_box_Better_c1_m0 x0 x1 x2 v2) (0,x6,x3,x4,x5)).bind fun v10=>(match v10 with | .inl v11=>(some v11) | .inr v12=>(some (false,v12.2.1,v12.2.2.1,v12.2.2.2,v12.1))))))))
def kft:Nat->Int->Int->Bool->Int->Int->(List (List Int))->(List Int)->Option (Bool×Int×Int×(List (List Int))×(List Int))
 | 0,_,_,_,_,_,_,_=>none
 | k+1,x0,x1,x2,x3,x4,x5,x6=>kmX (kft k) x0 x1 x2 x3 x4 x5 x6
def kjC (x0:Int) (x1:Int) (x2:Bool) (x3:Int) (x4:Int) (x5:(List (List Int))) (x6:(List Int)):Option (Bool×Int×Int×(List (List Int))×(List Int)):=kft 1000000 x0 x1 x2 x3 x4 x5 x6
def kjj (x0:(List (List Int))) (x1:(List Int)) (x2:Int):Option (Bool×Int):=
 ((kkS x0).bind fun v0=>(if (!v0)=true then (some (false,2)) else ((kpy x1 (lenI x0)).bind fun v1=>(if (!v1)=true then (some (false,8)) else (if (x2==0)=true then (some (false,2)) else ((gshl .i64 1 (lenI x0)).bind fun v2=>(if (decide (v2<=(w64 x2)))=true then (some (false,2)) else ((kjC 0 x2 false (lenI x0) x2 x0 x1).bind fun v3=>(some (v3.1,0))))))))))
def kuj (x1:(List (Int×Int×Int))) (x3:(List Int)) (v1:Int):Option (Int⊕(((List (Int×Int×Int))×Int)⊕Unit)):=
 (if (decide (v1<(lenI x3)))=true then ((gi x3 v1).bind fun v2=>((gi x1 v1).bind fun v3=>((kbJ 0 v3.2.2 v2).bind fun v4=>(if (!v4)=true then (some (.inr (.inl ([],2)))) else (some (.inl (w64 (v1+1)))))))) else (some (.inr (.inr ()))))
def kuF (x3:(List Int)) (v8:Int):Option (Int⊕(((List (Int×Int×Int))×Int)⊕Unit)):=
 (if (decide (v8<(lenI x3)))=true then ((gi x3 v8).bind fun v9=>none) else (some (.inr (.inr ()))))
def kus (x1:(List (Int×Int×Int))) (x3:(List Int)) (v14:Int):Option (Int⊕(((List (Int×Int×Int))×Int)⊕Unit)):=
 (if (decide (v14<(lenI x3)))=true then ((gi x3 v14).bind fun v15=>((gi x1 v14).bind fun v16=>((kbJ 0 v16.2.2 v15).bind fun v17=>(if (!v17)=true then (some (.inr (.inl ([],2)))) else (some (.inl (w64 (v14+1)))))))) else (some (.inr (.inr ()))))
def kuv (x3:(List Int)) (v21:(Int×Flow)):Option ((Int×Flow)⊕(((List (Int×Int×Int))×Int)⊕Flow)):=
 (if (decide (v21.1<(lenI x3)))=true then ((gi x3 v21.1).bind fun v22=>((ken v21.1 v22 v21.2.1 v21.2.2.1 v21.2.2.2.1 v21.2.2.2.2).bind fun v23=>(if (decide (v23.1<v22))=true then (some (.inr (.inl ([],6)))) else (some (.inl ((w64 (v21.1+1)),v23.2)))))) else (some (.inr (.inr v21.2))))
def kuf (v26:Flow) (v27:(Int×(List (Int×Int×Int)))) (v30:(List Int)) (v31:(Int×(List (Int×Int×Int)))):Option ((Int×(List (Int×Int×Int)))⊕(List (Int×Int×Int))):=
 (if (decide (v31.1<(lenI v30)))=true then ((gi v26.2.2.1 v27.1).bind fun v32=>((gi v32 v31.1).bind fun v33=>((gi v26.2.2.1 v27.1).bind fun v34=>((gi v34 v31.1).bind fun v35=>(if (decide (0<v35))=true then ((gapp v31.2 [(v27.1,v31.1,v35)]).bind fun v36=>(some (.inl ((w64 (v31.1+1)),v36)))) else (some (.inl ((w64 (v31.1+1)),v31.2)))))))) else (some (.inr v31.2)))
def kun (v26:Flow) (v27:(Int×(List (Int×Int×Int)))):Option ((Int×(List (Int×Int×Int)))⊕(List (Int×Int×Int))):=
 (if (decide (v27.1<(lenI v26.2.2.1)))=true then ((gi v26.2.2.1 v27.1).bind fun v28=>((gi v26.2.2.1 v27.1).bind fun v29=>((gi v26.2.2.1 v27.1).bind fun v30=>((iter (kuf v26 v27 v30) (0,v27.2)).bind fun v37=>(some (.inl ((w64 (v27.1+1)),v37))))))) else (some (.inr v27.2)))
def koO (x0:(List (Int×Int×Int))) (x1:(List (Int×Int×Int))) (x2:(List Swap)) (x3:(List Int)):Option ((List (Int×Int×Int))×Int):=
 (elsO ((kdV x0 x1 x2).bind fun v0=>(if (v0 != 0)=true then (some ([],v0)) else (if ((lenI x3) != (lenI x1))=true then (some ([],2)) else ((iter (kuj x1 x3) 0).bind fun v5=>(match v5 with | .inl v6=>(some v6) | .inr v7=>((iter (kuF x3) 0).bind fun v10=>(match v10 with | .inl v11=>(some v11) | .inr v12=>none))))))) ((kdL x0 x1 x2).bind fun v13=>(if (v13.1 != 0)=true then (some ([],v13.1)) else (if ((lenI x3) != (lenI x1))=true then (some ([],2)) else ((iter (kus x1 x3) 0).bind fun v18=>(match v18 with | .inl v19=>(some v19) | .inr v20=>((iter (kuv x3) (0,v13.2)).bind fun v24=>(match v24 with | .inl v25=>(some v25) | .inr v26=>((iter (kun v26) (0,[])).bind fun v38=>(some (v38,0)))))))))))
def kjc:Option Bool:=
 ((kam 1 3 2).bind fun v0=>((kam 4 0 1).bind fun v1=>((kam 1 3 2).bind fun v2=>((kkb [v0,v1] [v2]).bind fun v3=>((kam 1 3 2).bind fun v4=>((kam 1 3 2).bind fun v5=>((kam 4 0 1).bind fun v6=>((kkb [v4] [v5,v6]).bind fun v7=>((kam 1 1 2).bind fun v8=>((kam 2 1 9).bind fun v9=>(law08_needed.bind fun v10=>(law08_swap.bind fun v11=>((koW [v8,v9] v10 v11).bind fun v12=>((kam 1 1 2).bind fun v13=>((kam 1 1 1).bind fun v14=>(law08_plans.bind fun v15=>((krI [v13] [v14] v15 [5,4,9]).bind fun v16=>(law08_needed.bind fun v17=>((kqq [] v17 [] []).bind fun v18=>((kam 1 1 600).bind fun v19=>((kam 1 1 401).bind fun v20=>((kqY [v19] [v20]).bind fun v21=>(law08_alive.bind fun v22=>(if (!v22)=true then (some false) else (if (v3.2 != 0)=true then (some false) else ((kam 4 0 1).bind fun v23=>((khu v3.1 [v23]).bind fun v24=>(if (!v24)=true then (some false) else (if (v7.2 != 6)=true then (some false) else (if (v12.2 != 0)=true then (some false) else (if (v12.1.1 != 4)=true then (some false) else ((kcA v12.1.2 [0]).bind fun v25=>(if (!v25)=true then (some false) else (if (v16.2.2 != 0)=true then (some false) else (if (!((khI v16.1)==[1,2,0]))=true then (some false) else (if (v16.2.1 != 9)=true then (some false) else (if (v18.2 != 80)=true then (some false) else (if (v21.2 != 4)=true then (some false) else ((kam 1 1 4).bind fun v26=>(law08_needed.bind fun v27=>(law08_swap.bind fun v28=>((kiU [v26] v27 v28 [(0,0,3),(1,0,1)]).bind fun v29=>((kam 1 1 4).bind fun v30=>(law08_needed.bind fun v31=>((kiU [v30] v31 [] [(1,0,1)]).bind fun v32=>((kam 1 1 4).bind fun v33=>(law08_needed.bind fun v34=>(law08_swap.bind fun v35=>((koO [v33] v34 v35 [3,2]).bind fun v36=>((kam 1 1 4).bind fun v37=>(law08_needed.bind fun v38=>(law08_swap.bind fun v39=>((koO [v37] v38 v39 [3,3]).bind fun v40=>((kjj [[1,0],[0,1]] [0,1] 3).bind fun v41=>((kjj [[1,0],[0,1]] [1,0] 3).bind fun v42=>((kjj [[1,0],[0,1]] [1,1] 3).bind fun v43=>((knn [[1,1],[0,1]]).bind fun v44=>(if (v29.2==0)=true then (if (v29.1==4)=true then (if (v32.2==8)=true then (if (v36.2==6)=true then (if (v40.2==2)=true then (if (v41.2==0)=true then (if v41.1=true then (if (v42.2==0)=true then (if (!v42.1)=true then (if (v43.2==8)=true then (if (v44.2==2)=true then ((kam 16 0 1).bind fun v45=>((kkA [v45]).bind fun v46=>(if (v46==8)=true then ((gmk 1 (0,0,0,0)).bind fun v47=>((kfH v47).bind fun v48=>(some (v48==2)))) else (some false)))) else (some false)) else (some false)) else (some false)) else (some false)) else (some false)) else (some false)) else (some false)) else (some false)) else (some false)) else (some false)) else (some false)))))))))))))))))))))))))))))))))))))))))))))))))))))))))))
end Go.Abs
set_option maxRecDepth 100000
namespace Go.Abs
open Go Go.Proofs
def kak:Ctr:=⟨ "",[],[],fun _=>none,[],[]⟩
theorem kae {g:FuncId}:Good Tryz.prog g kak:=good_dm
def kfB:Ctr:=⟨ "",[(.i .i64),(.i .u8),(.i .i64)],[(.pr (.i .i64) (.pr (.i .u8) (.i .i64)))],fun x=>kam x.1 x.2.1 x.2.2,[],[]⟩
theorem keW:Good Tryz.prog 43 kfB:=
 kad Tryz.func43 (by kernel_rfl) (An:=[]) [] (.nil) (fun x=>by kernel_rfl)
def kdd:Ctr:=⟨ "",[(.i .i64),(.i .i64),(.i .i64)],[.b],fun x=>kbJ x.1 x.2.1 x.2.2,[],[]⟩
theorem kcg:Good Tryz.prog 66 kdd:=
 kad Tryz.func66 (by kernel_rfl) (An:=[]) [] (.nil) (fun x=>by kernel_rfl)
def kli:Ctr:=⟨ "",[(.pr (.i .i64) (.pr (.i .u8) (.i .i64)))],[.b],fun x=>kmY x,[],[]⟩
theorem kog:Good Tryz.prog 93 kli:=
 kad Tryz.func93 (by kernel_rfl) (An:=[]) [(66,kdd)] (.cons kcg <| .nil) (fun x=>by kernel_rfl)
def kel:Ctr:=⟨ "",[(.pr (.i .i64) (.i .u8))],[.b],fun x=>kdW x,[],[]⟩
theorem keM:Good Tryz.prog 96 kel:=
 kad Tryz.func96 (by kernel_rfl) (An:=[]) [(66,kdd)] (.cons kcg <| .nil) (fun x=>by kernel_rfl)
def kho:Ctr:=⟨ "",[(.i .i64)],[.b],fun x=>kez x,[],[]⟩
theorem kiE:Good Tryz.prog 111 kho:=
 kad Tryz.func111 (by kernel_rfl) (An:=[]) [] (.nil) (fun x=>by kernel_rfl)
def kck:Ctr:=⟨ "",[(.i .i64),(.i .i64)],[(.i .i64)],fun x=>kca x.1 x.2,[],[]⟩
theorem kcq:Good Tryz.prog 78 kck:=
 kad Tryz.func78 (by kernel_rfl) (An:=[]) [(111,kho)] (.cons kiE <| .nil) (fun x=>by kernel_rfl)
def kja:Ctr:=⟨ "",[(.i .u8)],[.b],fun x=>khp x,[],[]⟩
theorem klE:Good Tryz.prog 125 kja:=
 kad Tryz.func125 (by kernel_rfl) (An:=[]) [] (.nil) (fun x=>by kernel_rfl)
def keP:Ctr:=⟨ "",[(.i .u8),(.i .u8)],[(.i .i64)],fun x=>kge x.1 x.2,[],[]⟩
theorem kgm:Good Tryz.prog 113 keP:=
 kad Tryz.func113 (by kernel_rfl) (An:=[]) [(125,kja)] (.cons klE <| .nil) (fun x=>by kernel_rfl)
def khA:Ctr:=⟨ "",[(.sl (.i .i64))],[(.i .i64)],fun x=>kjt x,[],[]⟩
theorem khh:Good Tryz.prog 77 khA:=
 kad Tryz.func77 (by kernel_rfl) (An:=[(0,⟨⟨[(8,.c (.i .i64))],[]⟩,⟨[],[]⟩,[7,6,3],[],0,true,""⟩)]) [] (.nil) (fun x=>by kernel_rfl)
def kgw:Ctr:=⟨ "",[(.pr (.i .i64) (.i .u8)),(.pr (.i .i64) (.i .u8))],[(.i .i64)],fun x=>kix x.1 x.2,[],[]⟩
theorem kfR:Good Tryz.prog 103 kgw:=
 kad Tryz.func103 (by kernel_rfl) (An:=[]) [(77,khA),(113,keP),(78,kck)] (.cons khh <| .cons kgm <| .cons kcq <| .nil) (fun x=>by kernel_rfl)
def kgh:Ctr:=⟨ "",[(.sl (.pr (.i .i64) (.pr (.i .u8) (.i .i64)))),(.i .i64),(.fn 1 (.pr (.i .i64) (.pr (.i .u8) (.i .i64))) (.pr (.i .i64) (.i .u8)))],[.b],fun x=>khK x.1 x.2.1 x.2.2,[],[]⟩
theorem kjk:Good Tryz.prog 94 kgh:=
 kad Tryz.func94 (by kernel_rfl) (An:=[(0,⟨⟨[(11,.c (.i .i64))],[]⟩,⟨[],[]⟩,[10,9,2,0,1],[],0,true,""⟩)]) [(103,kgw),(96,kel)] (.cons kfR <| .cons keM <| .nil) (fun x=>by kernel_rfl)
def kdU:Ctr:=⟨ "",[(.pr (.i .i64) (.pr (.i .u8) (.i .i64)))],[(.pr (.i .i64) (.i .u8))],fun x=>kbP x,[],[]⟩
theorem kdl:Good Tryz.prog 71 kdU:=
 kad Tryz.func71 (by kernel_rfl) (An:=[]) [] (.nil) (fun x=>by kernel_rfl)
def kbE:Ctr:=⟨ "",[(.sl (.pr (.i .i64) (.pr (.i .u8) (.i .i64)))),(.fn 1 (.pr (.i .i64) (.pr (.i .u8) (.i .i64))) .b)],[(.i .i64)],fun x=>kbR x.1 x.2,[],[]⟩
theorem kea:Good Tryz.prog 99 kbE:=
 kad Tryz.func99 (by kernel_rfl) (An:=[(0,⟨⟨[(8,.c (.i .i64))],[]⟩,⟨[],[]⟩,[7,1,0],[],0,true,""⟩)]) [] (.nil) (fun x=>by kernel_rfl)
def kaK:Ctr:=⟨ "",[(.sl (.pr (.i .i64) (.pr (.i .u8) (.i .i64)))),(.fn 1 (.pr (.i .i64) (.pr (.i .u8) (.i .i64))) .b)],[.b],fun x=>kaN x.1 x.2,[],[]⟩
theorem kbg:Good Tryz.prog 54 kaK:=
 kad Tryz.func54 (by kernel_rfl) (An:=[]) [(99,kbE)] (.cons kea <| .nil) (fun x=>by kernel_rfl)
def kiq:Ctr:=⟨ "",[(.sl (.pr (.i .i64) (.pr (.i .u8) (.i .i64))))],[(.i .i64)],fun x=>kkA x,[],[]⟩
theorem kig:Good Tryz.prog 47 kiq:=
 kad Tryz.func47 (by kernel_rfl) (An:=[]) [(54,kaK),(71,kdU),(94,kgh),(93,kli)] (.cons kbg <| .cons kdl <| .cons kjk <| .cons kog <| .nil) (fun x=>by kernel_rfl)
def kby:Ctr:=⟨ "",[(.sl (.sl (.pr (.i .i64) (.pr (.i .u8) (.i .i64)))))],[(.i .i64)],fun x=>kcv x,[],[]⟩
theorem kbl:Good Tryz.prog 50 kby:=
 kad Tryz.func50 (by kernel_rfl) (An:=[(0,⟨⟨[(8,.c (.i .i64))],[]⟩,⟨[],[]⟩,[7,6],[],0,true,""⟩)]) [(47,kiq)] (.cons kig <| .nil) (fun x=>by kernel_rfl)
def kmj:Ctr:=⟨ "",[(.sl (.pr (.i .i64) (.pr (.i .u8) (.i .i64)))),(.sl (.pr (.i .i64) (.pr (.i .u8) (.i .i64))))],[(.i .i64)],fun x=>kop x.1 x.2,[],[]⟩
theorem kpg:Good Tryz.prog 98 kmj:=
 kad Tryz.func98 (by kernel_rfl) (An:=[]) [(71,kdU),(103,kgw)] (.cons kdl <| .cons kfR <| .nil) (fun x=>by kernel_rfl)
def kkf:Ctr:=⟨ "",[(.sl (.pr (.i .i64) (.pr (.i .u8) (.i .i64)))),(.sl (.pr (.i .i64) (.pr (.i .u8) (.i .i64)))),(.fn 2 (.pr (.i .i64) (.i .i64)) (.i .i64))],[(.sl (.pr (.i .i64) (.pr (.i .u8) (.i .i64))))],fun x=>klG x.1 x.2.1 x.2.2,[],[]⟩
theorem kkB:Good Tryz.prog 51 kkf:=
 kad Tryz.func51 (by kernel_rfl) (An:=[(0,⟨⟨[(0,.c (.sl (.pr (.i .i64) (.pr (.i .u8) (.i .i64))))),(1,.c (.sl (.pr (.i .i64) (.pr (.i .u8) (.i .i64))))),(7,.mw 1)],[(1,.sl 50 (.pr (.i .i64) (.pr (.i .u8) (.i .i64))))]⟩,⟨[(7,.mw 2)],[(2,.sl 50 (.pr (.i .i64) (.pr (.i .u8) (.i .i64))))]⟩,[2],[],3,false,""⟩),(10,⟨⟨[],[]⟩,⟨[(19,.c .b)],[]⟩,[0,1,7],[1],2,false,""⟩),(129,⟨⟨[(8,.ptr 2 0)],[(2,.bx 50 [.c (.i .i64),.c (.i .u8),.c (.i .i64)])]⟩,⟨[(9,.c (.i .i64)),(10,.c (.i .i64)),(8,.ptr 3 0),(0,.c (.sl (.pr (.i .i64) (.pr (.i .u8) (.i .i64))))),(1,.c (.sl (.pr (.i .i64) (.pr (.i .u8) (.i .i64)))))],[(3,.bx 50 [.c (.i .i64),.c (.i .u8),.c (.i .i64)])]⟩,[11,7],[1],4,false,""⟩),(181,⟨⟨[],[]⟩,⟨[(10,.c (.i .i64)),(1,.c (.sl (.pr (.i .i64) (.pr (.i .u8) (.i .i64)))))],[]⟩,[9,8,0],[2],3,false,""⟩)]) [(98,kmj)] (.cons kpg <| .nil) (fun x=>by kernel_rfl)
def knd:Ctr:=⟨ "",[(.i .i64),(.i .i64)],[(.i .i64)],fun x=>kpY x.1 x.2,[],[]⟩
theorem kql:Good Tryz.prog 52 knd:=
 kad Tryz.func52 (by kernel_rfl) (An:=[]) [] (.nil) (fun x=>by kernel_rfl)
def knA:Ctr:=⟨ "",[(.sl (.pr (.i .i64) (.pr (.i .u8) (.i .i64)))),(.sl (.pr (.i .i64) (.pr (.i .u8) (.i .i64))))],[(.sl (.pr (.i .i64) (.pr (.i .u8) (.i .i64)))),(.i .i64)],fun x=>kqY x.1 x.2,[],[]⟩
theorem kmO:Good Tryz.prog 15 knA:=
 kad Tryz.func15 (by kernel_rfl) (An:=[]) [(52,knd),(51,kkf),(50,kby),(47,kiq)] (.cons kql <| .cons kkB <| .cons kbl <| .cons kig <| .nil) (fun x=>by kernel_rfl)
def kin:Ctr:=⟨ "",[],[(.sl (.pr (.i .i64) (.pr (.i .u8) (.i .i64))))],fun x=>law08_needed,[],[]⟩
theorem kjb:Good Tryz.prog 44 kin:=
 kad Tryz.func44 (by kernel_rfl) (An:=[]) [(43,kfB)] (.cons keW <| .nil) (fun x=>by kernel_rfl)
def kjJ:Ctr:=⟨ "",[],[(.sl tSwap)],fun x=>law08_swap,[],[]⟩
theorem kkC:Good Tryz.prog 45 kjJ:=
 kad Tryz.func45 (by kernel_rfl) (An:=[]) [] (.nil) (fun x=>by kernel_rfl)
def khW:Ctr:=⟨ "",[tSwap],[.b],fun x=>kje x,[],[]⟩
theorem kkT:Good Tryz.prog 95 khW:=
 kad Tryz.func95 (by kernel_rfl) (An:=[(6,⟨⟨[],[]⟩,⟨[(3,.ptr 1 0),(4,.ptr 2 0)],[(1,.bx 115 [.c (.i .i64),.c (.i .u8)]),(2,.bx 115 [.c (.i .i64),.c (.i .u8)])]⟩,[1],[0],3,false,""⟩)]) [(96,kel)] (.cons keM <| .nil) (fun x=>by kernel_rfl)
def kbH:Ctr:=⟨ "",[(.sl tSwap),(.fn 1 tSwap .b)],[(.i .i64)],fun x=>kbV x.1 x.2,[],[]⟩
theorem keb:Good Tryz.prog 121 kbH:=
 kad Tryz.func121 (by kernel_rfl) (An:=[(0,⟨⟨[(8,.c (.i .i64))],[]⟩,⟨[],[]⟩,[7,1,0],[],0,true,""⟩)]) [] (.nil) (fun x=>by kernel_rfl)
def kbt:Ctr:=⟨ "",[(.sl tSwap),(.fn 1 tSwap .b)],[.b],fun x=>kbB x.1 x.2,[],[]⟩
theorem kds:Good Tryz.prog 97 kbt:=
 kad Tryz.func97 (by kernel_rfl) (An:=[]) [(121,kbH)] (.cons keb <| .nil) (fun x=>by kernel_rfl)
def kej:Ctr:=⟨ "",[(.sl tSwap)],[(.i .i64)],fun x=>kfH x,[],[]⟩
theorem keJ:Good Tryz.prog 48 kej:=
 kad Tryz.func48 (by kernel_rfl) (An:=[]) [(97,kbt),(95,khW)] (.cons kds <| .cons kkT <| .nil) (fun x=>by kernel_rfl)
def kcm:Ctr:=⟨ "",[(.sl tSwap),tSwap],[(.i .i64)],fun x=>kcG x.1 x.2,[],[]⟩
theorem kfc:Good Tryz.prog 132 kcm:=
 kad Tryz.func132 (by kernel_rfl) (An:=[(0,⟨⟨[(8,.c (.i .i64))],[]⟩,⟨[],[]⟩,[7,3,0],[0],1,true,""⟩)]) [] (.nil) (fun x=>by kernel_rfl)
def kbN:Ctr:=⟨ "",[(.sl tSwap),tSwap],[.b],fun x=>kcb x.1 x.2,[],[]⟩
theorem keh:Good Tryz.prog 122 kbN:=
 kad Tryz.func122 (by kernel_rfl) (An:=[]) [(132,kcm)] (.cons kfc <| .nil) (fun x=>by kernel_rfl)
def kmV:Ctr:=⟨ "",[(.sl tSwap),(.pr (.i .i64) (.i .u8)),(.pr (.i .i64) (.i .u8))],[.b],fun x=>kqw x.1 x.2.1 x.2.2,[],[]⟩
theorem kmH:Good Tryz.prog 100 kmV:=
 kad Tryz.func100 (by kernel_rfl) (An:=[]) [(122,kbN)] (.cons keh <| .nil) (fun x=>by kernel_rfl)
def kcV (k:Nat):CtrM:=⟨ "",[some (.i .i64),none,none,none],⟨[(1,.ptr 0 0),(2,.ptr 2 0),(3,.ptr 3 0)],[(0,.bx 103 [.mw 1]),(1,.sl 4 .b),(2,.bx 100 [.c (.op tFlow)]),(3,.bx 155 [.fn 102 [.ptr 0 0,.ptr 2 0,.ptr 3 0]])]⟩,4,⟨[(1,.ptr 0 0),(2,.ptr 2 0),(3,.ptr 3 0)],[(0,.bx 103 [.mw 1]),(1,.sl 4 .b),(2,.bx 100 [.c (.op tFlow)]),(3,.bx 155 [.fn 102 [.ptr 0 0,.ptr 2 0,.ptr 3 0]])]⟩,4,0,fun x=>kdw k x.1 x.2.1 x.2.2,false⟩
theorem kfz:∀ k,(kcV k).ok=true/\GoodM Tryz.prog 102 (kcV k)
 | 0=>khv (by kernel_rfl) (fun x=>rfl)
 | k+1=>kao Tryz.func102 (by kernel_rfl) (An:=[(0,⟨⟨[(23,.c (.i .i64))],[(2,.bx 100 [.c (.op tFlow)]),(3,.bx 155 [.fn 102 [.ptr 0 0,.ptr 2 0,.ptr 3 0]]),(0,.bx 103 [.mw 1]),(1,.sl 4 .b)]⟩,⟨[],[(2,.bx 100 [.c (.op tFlow)]),(3,.bx 155 [.fn 102 [.ptr 0 0,.ptr 2 0,.ptr 3 0]]),(0,.bx 103 [.mw 1]),(1,.sl 4 .b)]⟩,[22,21],[],8,false,""⟩),(8,⟨⟨[(32,.c (.i .i64))],[(2,.bx 100 [.c (.op tFlow)]),(3,.bx 155 [.fn 102 [.ptr 0 0,.ptr 2 0,.ptr 3 0]]),(0,.bx 103 [.mw 1]),(1,.sl 4 .b)]⟩,⟨[],[(2,.bx 100 [.c (.op tFlow)]),(3,.bx 155 [.fn 102 [.ptr 0 0,.ptr 2 0,.ptr 3 0]]),(0,.bx 103 [.mw 1]),(1,.sl 4 .b)]⟩,[31,6,23],[],8,false,""⟩)]) ((102,⟨ "",[],[],fun _=>none,[kcV k],[]⟩)::[]) (.cons (good_dm.more (kfz k)) <| .nil) (fun x=>by kernel_rfl)
def box_flow_short_c1_m0_M:CtrM:=⟨ "",[some (.i .i64),none,none,none],⟨[(1,.ptr 0 0),(2,.ptr 2 0),(3,.ptr 3 0)],[(0,.bx 103 [.mw 1]),(1,.sl 4 .b),(2,.bx 100 [.c (.op tFlow)]),(3,.bx 155 [.fn 102 [.ptr 0 0,.ptr 2 0,.ptr 3 0]])]⟩,4,⟨[(1,.ptr 0 0),(2,.ptr 2 0),(3,.ptr 3 0)],[(0,.bx 103 [.mw 1]),(1,.sl 4 .b),(2,.bx 100 [.c (.op tFlow)]),(3,.bx 155 [.fn 102 [.ptr 0 0,.ptr 2 0,.ptr 3 0]])]⟩,4,0,fun x=>khi x.1 x.2.1 x.2.2,false⟩
theorem kjr:box_flow_short_c1_m0_M.ok=true/\GoodM Tryz.prog 102 box_flow_short_c1_m0_M:=kfz 1000000
def box_flow_short_c1_C:Ctr:=⟨ "",[],[],fun _=>none,[],[]⟩
theorem box_flow_short_c1_C_ok:Good Tryz.prog 102 box_flow_short_c1_C:=good_dm
def khM:Ctr:=⟨ "",box_flow_short_c1_C.as,box_flow_short_c1_C.rs,box_flow_short_c1_C.F,box_flow_short_c1_m0_M::box_flow_short_c1_C.mus,box_flow_short_c1_C.its⟩
theorem kkm:Good Tryz.prog 102 khM:=(box_flow_short_c1_C_ok.more kjr)
def box_begin_m0g0_M:CtrM:=⟨ "",[some (.sl (.pr (.i .i64) (.pr (.i .u8) (.i .i64)))),some (.sl (.pr (.i .i64) (.pr (.i .u8) (.i .i64)))),some (.sl tSwap)],⟨[],[]⟩,0,⟨[(1000000,.sc (.pointer none)),(1000001,.c (.i .i64))],[]⟩,0,2,fun x=>kdV x.1 x.2.1 x.2.2,true⟩
theorem kmA:box_begin_m0g0_M.ok=true/\GoodM Tryz.prog 58 box_begin_m0g0_M:=
 kao Tryz.func58 (by kernel_rfl) (An:=[(89,⟨⟨[],[]⟩,⟨[(8,.c (.i .i64))],[]⟩,[2,1,0],[],1,false,""⟩),(0,⟨⟨[(33,.c (.i .i64)),(9,.ptr 5 0)],[(5,.bx 134 [.c (.sl (.pr (.i .i64) (.pr (.i .u8) (.i .i64)))),.mw 2,.fw 3,.mw 4]),(4,.sl 3 (.i .i64))]⟩,⟨[(9,.ptr 6 0)],[(6,.bx 134 [.c (.sl (.pr (.i .i64) (.pr (.i .u8) (.i .i64)))),.mw 2,.fw 3,.mw 7]),(7,.sl 3 (.i .i64))]⟩,[32,31,1,0,2],[2,3],8,false,""⟩),(8,⟨⟨[(51,.c (.i .i64)),(9,.ptr 6 0)],[(6,.bx 134 [.c (.sl (.pr (.i .i64) (.pr (.i .u8) (.i .i64)))),.mw 2,.fw 3,.mw 7]),(2,.sl 31 (.sl (.i .i64))),(3,.fm 31 (.sl (.i .i64)) 0 3 (.i .i64))]⟩,⟨[(9,.ptr 8 0)],[(8,.bx 134 [.c (.sl (.pr (.i .i64) (.pr (.i .u8) (.i .i64)))),.mw 9,.fw 10,.mw 7]),(9,.sl 31 (.sl (.i .i64))),(10,.fm 31 (.sl (.i .i64)) 0 3 (.i .i64))]⟩,[50,49,0,2],[7],11,false,""⟩),(16,⟨⟨[(57,.c (.i .i64)),(14,.mw 9)],[(9,.sl 3 (.i .i64))]⟩,⟨[(14,.mw 10)],[(10,.sl 3 (.i .i64))]⟩,[56,55,13,9,51],[8,6,2,3],11,false,""⟩)]) [(4134001,kak),(7000089,kak),(6000083,kak),(6000029,kak),(100,kmV),(48,kej),(50,kby),(71,kdU)] (.cons kae <| .cons kae <| .cons kae <| .cons kae <| .cons kmH <| .cons keJ <| .cons kbl <| .cons kdl <| .nil) (fun x=>by kernel_rfl)
def box_begin_m0g1_M:CtrM:=⟨ "",[some (.sl (.pr (.i .i64) (.pr (.i .u8) (.i .i64)))),some (.sl (.pr (.i .i64) (.pr (.i .u8) (.i .i64)))),some (.sl tSwap)],⟨[],[]⟩,0,⟨[(1000000,.ptr 0 0),(1000001,.c (.i .i64))],[(0,.bx 134 [.c (.sl (.pr (.i .i64) (.pr (.i .u8) (.i .i64)))),.mw 1,.fw 2,.mw 3]),(1,.sl 31 (.sl (.i .i64))),(2,.fm 31 (.sl (.i .i64)) 0 3 (.i .i64)),(3,.sl 3 (.i .i64))]⟩,4,2,fun x=>kdL x.1 x.2.1 x.2.2,true⟩
theorem kmC:box_begin_m0g1_M.ok=true/\GoodM Tryz.prog 58 box_begin_m0g1_M:=
 kao Tryz.func58 (by kernel_rfl) (An:=[(89,⟨⟨[],[]⟩,⟨[(8,.c (.i .i64))],[]⟩,[2,1,0],[],1,false,""⟩),(0,⟨⟨[(33,.c (.i .i64)),(9,.ptr 5 0)],[(5,.bx 134 [.c (.sl (.pr (.i .i64) (.pr (.i .u8) (.i .i64)))),.mw 2,.fw 3,.mw 4]),(4,.sl 3 (.i .i64))]⟩,⟨[(9,.ptr 6 0)],[(6,.bx 134 [.c (.sl (.pr (.i .i64) (.pr (.i .u8) (.i .i64)))),.mw 2,.fw 3,.mw 7]),(7,.sl 3 (.i .i64))]⟩,[32,31,1,0,2],[2,3],8,false,""⟩),(8,⟨⟨[(51,.c (.i .i64)),(9,.ptr 6 0)],[(6,.bx 134 [.c (.sl (.pr (.i .i64) (.pr (.i .u8) (.i .i64)))),.mw 2,.fw 3,.mw 7]),(2,.sl 31 (.sl (.i .i64))),(3,.fm 31 (.sl (.i .i64)) 0 3 (.i .i64))]⟩,⟨[(9,.ptr 8 0)],[(8,.bx 134 [.c (.sl (.pr (.i .i64) (.pr (.i .u8) (.i .i64)))),.mw 9,.fw 10,.mw 7]),(9,.sl 31 (.sl (.i .i64))),(10,.fm 31 (.sl (.i .i64)) 0 3 (.i .i64))]⟩,[50,49,0,2],[7],11,false,""⟩),(16,⟨⟨[(57,.c (.i .i64)),(14,.mw 9)],[(9,.sl 3 (.i .i64))]⟩,⟨[(14,.mw 10)],[(10,.sl 3 (.i .i64))]⟩,[56,55,13,9,51],[8,6,2,3],11,false,""⟩)]) [(4134001,kak),(7000089,kak),(6000083,kak),(6000029,kak),(100,kmV),(48,kej),(50,kby),(71,kdU)] (.cons kae <| .cons kae <| .cons kae <| .cons kae <| .cons kmH <| .cons keJ <| .cons kbl <| .cons kdl <| .nil) (fun x=>by kernel_rfl)
def box_begin_B1:Ctr:=⟨ "",[],[],fun _=>none,[],[]⟩
theorem box_begin_B1_ok:Good Tryz.prog 58 box_begin_B1:=good_dm
def kfs:Ctr:=⟨ "",box_begin_B1.as,box_begin_B1.rs,box_begin_B1.F,box_begin_m0g0_M::box_begin_m0g1_M::box_begin_B1.mus,box_begin_B1.its⟩
theorem keV:Good Tryz.prog 58 kfs:=((box_begin_B1_ok.more kmC).more kmA)
def box_flow_short_m0_M:CtrM:=⟨ "",[some (.op tFlow),some (.sl .b)],⟨[],[]⟩,0,⟨[(1000000,.mw 0)],[(0,.sl 3 (.i .i64))]⟩,1,1,fun x=>kgd x.1 x.2,false⟩
theorem kkP:box_flow_short_m0_M.ok=true/\GoodM Tryz.prog 60 box_flow_short_m0_M:=
 kao Tryz.func60 (by kernel_rfl) (An:=[(0,⟨⟨[(18,.c (.i .i64)),(5,.ptr 2 0),(6,.ptr 5 0)],[(2,.bx 155 [.fn 102 [.ptr 5 0,.ptr 0 0,.ptr 2 0]]),(5,.bx 103 [.mw 3]),(3,.sl 4 .b),(0,.bx 100 [.c (.op tFlow)])]⟩,⟨[(6,.ptr 6 0)],[(6,.bx 103 [.mw 7]),(7,.sl 4 .b)]⟩,[17,16],[],8,false,""⟩),(8,⟨⟨[(30,.c (.i .i64)),(9,.mw 8)],[(8,.sl 3 (.i .i64))]⟩,⟨[(9,.mw 9)],[(9,.sl 3 (.i .i64))]⟩,[29,28],[7],10,false,""⟩)]) [(102,khM)] (.cons kkm <| .nil) (fun x=>by kernel_rfl)
def box_flow_short_B2:Ctr:=⟨ "",[],[],fun _=>none,[],[]⟩
theorem box_flow_short_B2_ok:Good Tryz.prog 60 box_flow_short_B2:=good_dm
def kiZ:Ctr:=⟨ "",box_flow_short_B2.as,box_flow_short_B2.rs,box_flow_short_B2.F,box_flow_short_m0_M::box_flow_short_B2.mus,box_flow_short_B2.its⟩
theorem klI:Good Tryz.prog 60 kiZ:=(box_flow_short_B2_ok.more kkP)
def kdy (k:Nat):CtrM:=⟨ "",[some (.i .i64),some (.i .i64),none,none,none],⟨[(2,.ptr 0 0),(3,.ptr 5 0),(4,.ptr 7 0)],[(0,.bx 100 [.ptr 1 0]),(1,.bx 134 [.c (.sl (.pr (.i .i64) (.pr (.i .u8) (.i .i64)))),.mw 2,.fw 3,.mw 4]),(2,.sl 31 (.sl (.i .i64))),(3,.fm 31 (.sl (.i .i64)) 0 3 (.i .i64)),(4,.sl 3 (.i .i64)),(5,.bx 103 [.mw 6]),(6,.sl 4 .b),(7,.bx 96 [.fn 101 [.ptr 0 0,.ptr 5 0,.ptr 7 0]])]⟩,8,⟨[(2,.ptr 0 0),(3,.ptr 5 0),(4,.ptr 7 0),(1000000,.c (.i .i64))],[(0,.bx 100 [.ptr 1 0]),(1,.bx 134 [.c (.sl (.pr (.i .i64) (.pr (.i .u8) (.i .i64)))),.mw 2,.fw 3,.mw 4]),(2,.sl 31 (.sl (.i .i64))),(3,.fm 31 (.sl (.i .i64)) 0 3 (.i .i64)),(4,.sl 3 (.i .i64)),(5,.bx 103 [.mw 6]),(6,.sl 4 .b),(7,.bx 96 [.fn 101 [.ptr 0 0,.ptr 5 0,.ptr 7 0]])]⟩,8,1,fun x=>kdX k x.1 x.2.1 x.2.2.1 x.2.2.2.1 x.2.2.2.2.1 x.2.2.2.2.2.1 x.2.2.2.2.2.2,false⟩
theorem kfW:∀ k,(kdy k).ok=true/\GoodM Tryz.prog 101 (kdy k)
 | 0=>khv (by kernel_rfl) (fun x=>rfl)
 | k+1=>kao Tryz.func101 (by kernel_rfl) (An:=[(0,⟨⟨[(21,.c (.i .i64))],[(5,.bx 103 [.mw 6]),(6,.sl 4 .b),(0,.bx 100 [.ptr 1 0]),(1,.bx 134 [.c (.sl (.pr (.i .i64) (.pr (.i .u8) (.i .i64)))),.mw 2,.fw 3,.mw 4]),(2,.sl 31 (.sl (.i .i64))),(3,.fm 31 (.sl (.i .i64)) 0 3 (.i .i64)),(4,.sl 3 (.i .i64)),(7,.bx 96 [.fn 101 [.ptr 0 0,.ptr 5 0,.ptr 7 0]])]⟩,⟨[],[(6,.sl 4 .b),(4,.sl 3 (.i .i64)),(5,.bx 103 [.mw 6]),(3,.fm 31 (.sl (.i .i64)) 0 3 (.i .i64)),(0,.bx 100 [.ptr 1 0]),(1,.bx 134 [.c (.sl (.pr (.i .i64) (.pr (.i .u8) (.i .i64)))),.mw 2,.fw 3,.mw 4]),(2,.sl 31 (.sl (.i .i64))),(7,.bx 96 [.fn 101 [.ptr 0 0,.ptr 5 0,.ptr 7 0]])]⟩,[20,19,1,0],[],16,true,""⟩),(8,⟨⟨[(72,.c (.i .i64))],[(0,.bx 100 [.ptr 1 0]),(1,.bx 134 [.c (.sl (.pr (.i .i64) (.pr (.i .u8) (.i .i64)))),.mw 2,.fw 3,.mw 4]),(2,.sl 31 (.sl (.i .i64))),(3,.fm 31 (.sl (.i .i64)) 0 3 (.i .i64)),(4,.sl 3 (.i .i64)),(7,.bx 96 [.fn 101 [.ptr 0 0,.ptr 5 0,.ptr 7 0]]),(5,.bx 103 [.mw 6]),(6,.sl 4 .b)]⟩,⟨[],[(0,.bx 100 [.ptr 1 0]),(1,.bx 134 [.c (.sl (.pr (.i .i64) (.pr (.i .u8) (.i .i64)))),.mw 2,.fw 3,.mw 4]),(2,.sl 31 (.sl (.i .i64))),(3,.fm 31 (.sl (.i .i64)) 0 3 (.i .i64)),(4,.sl 3 (.i .i64)),(7,.bx 96 [.fn 101 [.ptr 0 0,.ptr 5 0,.ptr 7 0]]),(5,.bx 103 [.mw 6]),(6,.sl 4 .b)]⟩,[71,9,21],[],16,true,""⟩)]) ((101,⟨ "",[],[],fun _=>none,[kdy k],[]⟩)::[]) (.cons (good_dm.more (kfW k)) <| .nil) (fun x=>by kernel_rfl)
def box_flow_give_c1_m0_M:CtrM:=⟨ "",[some (.i .i64),some (.i .i64),none,none,none],⟨[(2,.ptr 0 0),(3,.ptr 5 0),(4,.ptr 7 0)],[(0,.bx 100 [.ptr 1 0]),(1,.bx 134 [.c (.sl (.pr (.i .i64) (.pr (.i .u8) (.i .i64)))),.mw 2,.fw 3,.mw 4]),(2,.sl 31 (.sl (.i .i64))),(3,.fm 31 (.sl (.i .i64)) 0 3 (.i .i64)),(4,.sl 3 (.i .i64)),(5,.bx 103 [.mw 6]),(6,.sl 4 .b),(7,.bx 96 [.fn 101 [.ptr 0 0,.ptr 5 0,.ptr 7 0]])]⟩,8,⟨[(2,.ptr 0 0),(3,.ptr 5 0),(4,.ptr 7 0),(1000000,.c (.i .i64))],[(0,.bx 100 [.ptr 1 0]),(1,.bx 134 [.c (.sl (.pr (.i .i64) (.pr (.i .u8) (.i .i64)))),.mw 2,.fw 3,.mw 4]),(2,.sl 31 (.sl (.i .i64))),(3,.fm 31 (.sl (.i .i64)) 0 3 (.i .i64)),(4,.sl 3 (.i .i64)),(5,.bx 103 [.mw 6]),(6,.sl 4 .b),(7,.bx 96 [.fn 101 [.ptr 0 0,.ptr 5 0,.ptr 7 0]])]⟩,8,1,fun x=>khT x.1 x.2.1 x.2.2.1 x.2.2.2.1 x.2.2.2.2.1 x.2.2.2.2.2.1 x.2.2.2.2.2.2,false⟩
theorem kjK:box_flow_give_c1_m0_M.ok=true/\GoodM Tryz.prog 101 box_flow_give_c1_m0_M:=kfW 1000000
def box_flow_give_c1_C:Ctr:=⟨ "",[],[],fun _=>none,[],[]⟩
theorem box_flow_give_c1_C_ok:Good Tryz.prog 101 box_flow_give_c1_C:=good_dm
def khX:Ctr:=⟨ "",box_flow_give_c1_C.as,box_flow_give_c1_C.rs,box_flow_give_c1_C.F,box_flow_give_c1_m0_M::box_flow_give_c1_C.mus,box_flow_give_c1_C.its⟩
theorem kkH:Good Tryz.prog 101 khX:=(box_flow_give_c1_C_ok.more kjK)
def box_flow_give_m0_M:CtrM:=⟨ "",[none,some (.i .i64),some (.i .i64)],⟨[(0,.ptr 0 0)],[(0,.bx 134 [.c (.sl (.pr (.i .i64) (.pr (.i .u8) (.i .i64)))),.mw 1,.fw 2,.mw 3]),(1,.sl 31 (.sl (.i .i64))),(2,.fm 31 (.sl (.i .i64)) 0 3 (.i .i64)),(3,.sl 3 (.i .i64))]⟩,4,⟨[(0,.ptr 0 0),(1000000,.c (.i .i64))],[(0,.bx 134 [.c (.sl (.pr (.i .i64) (.pr (.i .u8) (.i .i64)))),.mw 1,.fw 2,.mw 3]),(1,.sl 31 (.sl (.i .i64))),(2,.fm 31 (.sl (.i .i64)) 0 3 (.i .i64)),(3,.sl 3 (.i .i64))]⟩,4,1,fun x=>ken x.1 x.2.1 x.2.2.1 x.2.2.2.1 x.2.2.2.2.1 x.2.2.2.2.2,false⟩
theorem klf:box_flow_give_m0_M.ok=true/\GoodM Tryz.prog 59 box_flow_give_m0_M:=
 kao Tryz.func59 (by kernel_rfl) (An:=[(0,⟨⟨[(9,.c (.i .i64)),(3,.ptr 4 0),(7,.ptr 6 0),(8,.ptr 7 0)],[(4,.bx 100 [.ptr 0 0]),(0,.bx 134 [.c (.sl (.pr (.i .i64) (.pr (.i .u8) (.i .i64)))),.mw 1,.fw 2,.mw 3]),(1,.sl 31 (.sl (.i .i64))),(2,.fm 31 (.sl (.i .i64)) 0 3 (.i .i64)),(3,.sl 3 (.i .i64)),(6,.bx 103 [.mw 5]),(5,.sl 4 .b),(7,.bx 96 [.fn 101 [.ptr 4 0,.ptr 6 0,.ptr 7 0]])]⟩,⟨[(9,.c (.i .i64))],[(0,.bx 134 [.c (.sl (.pr (.i .i64) (.pr (.i .u8) (.i .i64)))),.mw 1,.fw 2,.mw 3]),(1,.sl 31 (.sl (.i .i64))),(2,.fm 31 (.sl (.i .i64)) 0 3 (.i .i64)),(3,.sl 3 (.i .i64))]⟩,[2,1],[],12,false,""⟩)]) [(101,khX)] (.cons kkH <| .nil) (fun x=>by kernel_rfl)
def box_flow_give_C:Ctr:=⟨ "",[],[],fun _=>none,[],[]⟩
theorem box_flow_give_C_ok:Good Tryz.prog 59 box_flow_give_C:=good_dm
def kek:Ctr:=⟨ "",box_flow_give_C.as,box_flow_give_C.rs,box_flow_give_C.F,box_flow_give_m0_M::box_flow_give_C.mus,box_flow_give_C.its⟩
theorem keT:Good Tryz.prog 59 kek:=(box_flow_give_C_ok.more klf)
def kmg:Ctr:=⟨ "",[(.sl (.pr (.i .i64) (.pr (.i .u8) (.i .i64)))),(.sl (.pr (.i .i64) (.pr (.i .u8) (.i .i64)))),(.sl tSwap)],[kvb,(.i .i64)],fun x=>koW x.1 x.2.1 x.2.2,[],[]⟩
theorem kmn:Good Tryz.prog 19 kmg:=
 kad Tryz.func19 (by kernel_rfl) (An:=[(0,⟨⟨[(31,.c (.i .i64)),(10,.c (.i .i64))],[]⟩,⟨[(10,.c (.i .i64))],[]⟩,[30,29,8,11,6],[2,1,0],3,false,""⟩),(0,⟨⟨[(31,.c (.i .i64)),(8,.ptr 2 0),(10,.c (.i .i64)),(11,.mw 6)],[(2,.bx 134 [.c (.sl (.pr (.i .i64) (.pr (.i .u8) (.i .i64)))),.mw 3,.fw 4,.mw 5]),(3,.sl 31 (.sl (.i .i64))),(4,.fm 31 (.sl (.i .i64)) 0 3 (.i .i64)),(5,.sl 3 (.i .i64)),(6,.sl 4 .b)]⟩,⟨[(10,.c (.i .i64)),(8,.ptr 7 0),(11,.mw 11)],[(7,.bx 134 [.c (.sl (.pr (.i .i64) (.pr (.i .u8) (.i .i64)))),.mw 8,.fw 9,.mw 10]),(8,.sl 31 (.sl (.i .i64))),(9,.fm 31 (.sl (.i .i64)) 0 3 (.i .i64)),(10,.sl 3 (.i .i64)),(11,.sl 4 .b)]⟩,[30,29,6],[1,0],12,false,""⟩)]) [(60,kiZ),(58,kfs),(59,kek)] (.cons klI <| .cons keV <| .cons keT <| .nil) (fun x=>by kernel_rfl)
def knt:Ctr:=⟨ "",[(.pr (.i .i64) (.pr (.i .u8) (.i .i64)))],[.b],fun x=>kmb x,[],[]⟩
theorem kpT:Good Tryz.prog 65 knt:=
 kad Tryz.func65 (by kernel_rfl) (An:=[]) [(66,kdd)] (.cons kcg <| .nil) (fun x=>by kernel_rfl)
def kfX:Ctr:=⟨ "",[(.sl (.pr (.i .i64) (.pr (.i .u8) (.i .i64)))),(.i .i64),(.fn 1 (.pr (.i .i64) (.pr (.i .u8) (.i .i64))) (.pr (.i .i64) (.i .u8)))],[.b],fun x=>kdT x.1 x.2.1 x.2.2,[],[]⟩
theorem kiO:Good Tryz.prog 67 kfX:=
 kad Tryz.func67 (by kernel_rfl) (An:=[(0,⟨⟨[(11,.c (.i .i64))],[]⟩,⟨[],[]⟩,[10,9,2,0,1],[],0,true,""⟩)]) [(103,kgw),(96,kel)] (.cons kfR <| .cons keM <| .nil) (fun x=>by kernel_rfl)
def kmu:Ctr:=⟨ "",[(.pr (.i .i64) (.pr (.i .u8) (.i .i64)))],[(.pr (.i .i64) (.i .u8))],fun x=>kdu x,[],[]⟩
theorem kpm:Good Tryz.prog 68 kmu:=
 kad Tryz.func68 (by kernel_rfl) (An:=[]) [] (.nil) (fun x=>by kernel_rfl)
def kbx:Ctr:=⟨ "",[(.sl (.pr (.i .i64) (.pr (.i .u8) (.i .i64)))),(.fn 1 (.pr (.i .i64) (.pr (.i .u8) (.i .i64))) .b)],[(.i .i64)],fun x=>kbF x.1 x.2,[],[]⟩
theorem kdH:Good Tryz.prog 104 kbx:=
 kad Tryz.func104 (by kernel_rfl) (An:=[(0,⟨⟨[(8,.c (.i .i64))],[]⟩,⟨[],[]⟩,[7,1,0],[],0,true,""⟩)]) [] (.nil) (fun x=>by kernel_rfl)
def kbk:Ctr:=⟨ "",[(.sl (.pr (.i .i64) (.pr (.i .u8) (.i .i64)))),(.fn 1 (.pr (.i .i64) (.pr (.i .u8) (.i .i64))) .b)],[.b],fun x=>kaJ x.1 x.2,[],[]⟩
theorem kcW:Good Tryz.prog 69 kbk:=
 kad Tryz.func69 (by kernel_rfl) (An:=[]) [(104,kbx)] (.cons kdH <| .nil) (fun x=>by kernel_rfl)
def kns:Ctr:=⟨ "",[tLine,tLine],[(.i .i64)],fun x=>kmf x.1 x.2,[],[]⟩
theorem kqg:Good Tryz.prog 73 kns:=
 kad Tryz.func73 (by kernel_rfl) (An:=[]) [] (.nil) (fun x=>by kernel_rfl)
def slices_insertionSortCmpFunc_box_line_m0_M:CtrM:=⟨ "",[none,some (.i .i64),some (.i .i64),some (.fn 2 (.pr tLine tLine) (.i .i64))],⟨[(0,.mw 0)],[(0,.sl 121 tLine)]⟩,1,⟨[(0,.mw 0)],[(0,.sl 121 tLine)]⟩,1,0,fun x=>kaO x.1 x.2.1 x.2.2.1 x.2.2.2,false⟩
theorem kdz:slices_insertionSortCmpFunc_box_line_m0_M.ok=true/\GoodM Tryz.prog 123 slices_insertionSortCmpFunc_box_line_m0_M:=
 kao Tryz.func123 (by kernel_rfl) (An:=[(0,⟨⟨[(8,.c (.i .i64))],[(0,.sl 121 tLine)]⟩,⟨[],[(0,.sl 121 tLine)]⟩,[2,1,3],[],2,false,""⟩),(8,⟨⟨[(9,.c (.i .i64))],[(0,.sl 121 tLine)]⟩,⟨[],[(0,.sl 121 tLine)]⟩,[8],[],2,false,""⟩)]) [] (.nil) (fun x=>by kernel_rfl)
def slices_insertionSortCmpFunc_box_line_C:Ctr:=⟨ "",[],[],fun _=>none,[],[]⟩
theorem slices_insertionSortCmpFunc_box_line_C_ok:Good Tryz.prog 123 slices_insertionSortCmpFunc_box_line_C:=good_dm
def kbA:Ctr:=⟨ "",slices_insertionSortCmpFunc_box_line_C.as,slices_insertionSortCmpFunc_box_line_C.rs,slices_insertionSortCmpFunc_box_line_C.F,slices_insertionSortCmpFunc_box_line_m0_M::slices_insertionSortCmpFunc_box_line_C.mus,slices_insertionSortCmpFunc_box_line_C.its⟩
theorem kdK:Good Tryz.prog 123 kbA:=(slices_insertionSortCmpFunc_box_line_C_ok.more kdz)
def slices_swapRangeCmpFunc_box_line_m0_M:CtrM:=⟨ "",[none,some (.i .i64),some (.i .i64),some (.i .i64),some (.fn 2 (.pr tLine tLine) (.i .i64))],⟨[(0,.mw 0)],[(0,.sl 121 tLine)]⟩,1,⟨[(0,.mw 0)],[(0,.sl 121 tLine)]⟩,1,0,fun x=>kaH x.1 x.2.1 x.2.2.1 x.2.2.2.1 x.2.2.2.2,false⟩
theorem keo:slices_swapRangeCmpFunc_box_line_m0_M.ok=true/\GoodM Tryz.prog 137 slices_swapRangeCmpFunc_box_line_m0_M:=
 kao Tryz.func137 (by kernel_rfl) (An:=[(0,⟨⟨[(10,.c (.i .i64))],[(0,.sl 121 tLine)]⟩,⟨[],[(0,.sl 121 tLine)]⟩,[3,1,2],[],2,false,""⟩)]) [] (.nil) (fun x=>by kernel_rfl)
def slices_swapRangeCmpFunc_box_line_C:Ctr:=⟨ "",[],[],fun _=>none,[],[]⟩
theorem slices_swapRangeCmpFunc_box_line_C_ok:Good Tryz.prog 137 slices_swapRangeCmpFunc_box_line_C:=good_dm
def kbY:Ctr:=⟨ "",slices_swapRangeCmpFunc_box_line_C.as,slices_swapRangeCmpFunc_box_line_C.rs,slices_swapRangeCmpFunc_box_line_C.F,slices_swapRangeCmpFunc_box_line_m0_M::slices_swapRangeCmpFunc_box_line_C.mus,slices_swapRangeCmpFunc_box_line_C.its⟩
theorem keK:Good Tryz.prog 137 kbY:=(slices_swapRangeCmpFunc_box_line_C_ok.more keo)
def slices_rotateCmpFunc_box_line_m0_M:CtrM:=⟨ "",[none,some (.i .i64),some (.i .i64),some (.i .i64),some (.fn 2 (.pr tLine tLine) (.i .i64))],⟨[(0,.mw 0)],[(0,.sl 121 tLine)]⟩,1,⟨[(0,.mw 0)],[(0,.sl 121 tLine)]⟩,1,0,fun x=>kcP x.1 x.2.1 x.2.2.1 x.2.2.2.1 x.2.2.2.2,false⟩
theorem kfl:slices_rotateCmpFunc_box_line_m0_M.ok=true/\GoodM Tryz.prog 133 slices_rotateCmpFunc_box_line_m0_M:=
 kao Tryz.func133 (by kernel_rfl) (An:=[(0,⟨⟨[(10,.c (.i .i64)),(11,.c (.i .i64))],[(0,.sl 121 tLine)]⟩,⟨[(10,.c (.i .i64))],[(0,.sl 121 tLine)]⟩,[2,4],[],2,false,""⟩)]) [(137,kbY)] (.cons keK <| .nil) (fun x=>by kernel_rfl)
def slices_rotateCmpFunc_box_line_C:Ctr:=⟨ "",[],[],fun _=>none,[],[]⟩
theorem slices_rotateCmpFunc_box_line_C_ok:Good Tryz.prog 133 slices_rotateCmpFunc_box_line_C:=good_dm
def kcE:Ctr:=⟨ "",slices_rotateCmpFunc_box_line_C.as,slices_rotateCmpFunc_box_line_C.rs,slices_rotateCmpFunc_box_line_C.F,slices_rotateCmpFunc_box_line_m0_M::slices_rotateCmpFunc_box_line_C.mus,slices_rotateCmpFunc_box_line_C.its⟩
theorem kfI:Good Tryz.prog 133 kcE:=(slices_rotateCmpFunc_box_line_C_ok.more kfl)
def kaS (k:Nat):CtrM:=⟨ "",[none,some (.i .i64),some (.i .i64),some (.i .i64),some (.fn 2 (.pr tLine tLine) (.i .i64))],⟨[(0,.mw 0)],[(0,.sl 121 tLine)]⟩,1,⟨[(0,.mw 0)],[(0,.sl 121 tLine)]⟩,1,0,fun x=>kaU k x.1 x.2.1 x.2.2.1 x.2.2.2.1 x.2.2.2.2,false⟩
theorem kbG:∀ k,(kaS k).ok=true/\GoodM Tryz.prog 124 (kaS k)
 | 0=>khv (by kernel_rfl) (fun x=>rfl)
 | k+1=>kao Tryz.func124 (by kernel_rfl) (An:=[(0,⟨⟨[(10,.c (.i .i64)),(11,.c (.i .i64))],[]⟩,⟨[(10,.c (.i .i64))],[]⟩,[4,1],[0],1,false,""⟩),(8,⟨⟨[(13,.c (.i .i64))],[(0,.sl 121 tLine)]⟩,⟨[],[(0,.sl 121 tLine)]⟩,[10],[],2,false,""⟩),(16,⟨⟨[(14,.c (.i .i64)),(15,.c (.i .i64))],[]⟩,⟨[(14,.c (.i .i64))],[]⟩,[4,2],[0],1,false,""⟩),(24,⟨⟨[(17,.c (.i .i64))],[(0,.sl 121 tLine)]⟩,⟨[],[(0,.sl 121 tLine)]⟩,[14],[],2,false,""⟩),(561,⟨⟨[],[]⟩,⟨[(20,.c (.i .i64)),(21,.c (.i .i64))],[]⟩,[19,3,18,4,2,1],[0],1,false,""⟩),(32,⟨⟨[(20,.c (.i .i64)),(21,.c (.i .i64))],[]⟩,⟨[(20,.c (.i .i64))],[]⟩,[4,22,19,2,1,18,3],[0],1,false,""⟩),(158,⟨⟨[],[]⟩,⟨[(185,.c .b)],[]⟩,[20,2,24,4,1,18,3],[0],1,false,""⟩),(741,⟨⟨[],[(0,.sl 121 tLine)]⟩,⟨[],[(0,.sl 121 tLine)]⟩,[20,2,24,4,1,18,3],[],2,false,""⟩),(166,⟨⟨[],[]⟩,⟨[(199,.c .b)],[]⟩,[1,20,18,4,24,3],[0],2,false,""⟩),(797,⟨⟨[],[(0,.sl 121 tLine)]⟩,⟨[],[(0,.sl 121 tLine)]⟩,[1,20,18,4,24,3],[],3,false,""⟩)]) ((124,⟨ "",[],[],fun _=>none,[kaS k],[]⟩)::[(133,kcE)]) (.cons (good_dm.more (kbG k)) <| .cons kfI <| .nil) (fun x=>by kernel_rfl)
def slices_symMergeCmpFunc_box_line_m0_M:CtrM:=⟨ "",[none,some (.i .i64),some (.i .i64),some (.i .i64),some (.fn 2 (.pr tLine tLine) (.i .i64))],⟨[(0,.mw 0)],[(0,.sl 121 tLine)]⟩,1,⟨[(0,.mw 0)],[(0,.sl 121 tLine)]⟩,1,0,fun x=>kba x.1 x.2.1 x.2.2.1 x.2.2.2.1 x.2.2.2.2,false⟩
theorem kev:slices_symMergeCmpFunc_box_line_m0_M.ok=true/\GoodM Tryz.prog 124 slices_symMergeCmpFunc_box_line_m0_M:=kbG 1000000
def slices_symMergeCmpFunc_box_line_C:Ctr:=⟨ "",[],[],fun _=>none,[],[]⟩
theorem slices_symMergeCmpFunc_box_line_C_ok:Good Tryz.prog 124 slices_symMergeCmpFunc_box_line_C:=good_dm
def kcn:Ctr:=⟨ "",slices_symMergeCmpFunc_box_line_C.as,slices_symMergeCmpFunc_box_line_C.rs,slices_symMergeCmpFunc_box_line_C.F,slices_symMergeCmpFunc_box_line_m0_M::slices_symMergeCmpFunc_box_line_C.mus,slices_symMergeCmpFunc_box_line_C.its⟩
theorem kfb:Good Tryz.prog 124 kcn:=(slices_symMergeCmpFunc_box_line_C_ok.more kev)
def slices_stableCmpFunc_box_line_m0_M:CtrM:=⟨ "",[none,some (.i .i64),some (.fn 2 (.pr tLine tLine) (.i .i64))],⟨[(0,.mw 0)],[(0,.sl 121 tLine)]⟩,1,⟨[(0,.mw 0)],[(0,.sl 121 tLine)]⟩,1,0,fun x=>kcN x.1 x.2.1 x.2.2,false⟩
theorem kfd:slices_stableCmpFunc_box_line_m0_M.ok=true/\GoodM Tryz.prog 106 slices_stableCmpFunc_box_line_m0_M:=
 kao Tryz.func106 (by kernel_rfl) (An:=[(0,⟨⟨[(8,.c (.i .i64)),(7,.c (.i .i64))],[(0,.sl 121 tLine)]⟩,⟨[(7,.c (.i .i64))],[(0,.sl 121 tLine)]⟩,[1,2,6],[],2,false,""⟩),(8,⟨⟨[(6,.c (.i .i64))],[(0,.sl 121 tLine)]⟩,⟨[],[(0,.sl 121 tLine)]⟩,[1,2],[],3,false,""⟩),(16,⟨⟨[(8,.c (.i .i64)),(7,.c (.i .i64))],[(0,.sl 121 tLine)]⟩,⟨[(7,.c (.i .i64))],[(0,.sl 121 tLine)]⟩,[6],[],3,false,""⟩)]) [(124,kcn),(123,kbA)] (.cons kfb <| .cons kdK <| .nil) (fun x=>by kernel_rfl)
def slices_stableCmpFunc_box_line_C:Ctr:=⟨ "",[],[],fun _=>none,[],[]⟩
theorem slices_stableCmpFunc_box_line_C_ok:Good Tryz.prog 106 slices_stableCmpFunc_box_line_C:=good_dm
def kcO:Ctr:=⟨ "",slices_stableCmpFunc_box_line_C.as,slices_stableCmpFunc_box_line_C.rs,slices_stableCmpFunc_box_line_C.F,slices_stableCmpFunc_box_line_m0_M::slices_stableCmpFunc_box_line_C.mus,slices_stableCmpFunc_box_line_C.its⟩
theorem kfP:Good Tryz.prog 106 kcO:=(slices_stableCmpFunc_box_line_C_ok.more kfd)
def slices_SortStableFunc_s_box_line_box_line_m0_M:CtrM:=⟨ "",[none,some (.fn 2 (.pr tLine tLine) (.i .i64))],⟨[(0,.mw 0)],[(0,.sl 121 tLine)]⟩,1,⟨[(0,.mw 0)],[(0,.sl 121 tLine)]⟩,1,0,fun x=>kaF x.1 x.2,false⟩
theorem kcy:slices_SortStableFunc_s_box_line_box_line_m0_M.ok=true/\GoodM Tryz.prog 72 slices_SortStableFunc_s_box_line_box_line_m0_M:=
 kao Tryz.func72 (by kernel_rfl) (An:=[]) [(106,kcO)] (.cons kfP <| .nil) (fun x=>by kernel_rfl)
def slices_SortStableFunc_s_box_line_box_line_C:Ctr:=⟨ "",[],[],fun _=>none,[],[]⟩
theorem slices_SortStableFunc_s_box_line_box_line_C_ok:Good Tryz.prog 72 slices_SortStableFunc_s_box_line_box_line_C:=good_dm
def kbe:Ctr:=⟨ "",slices_SortStableFunc_s_box_line_box_line_C.as,slices_SortStableFunc_s_box_line_box_line_C.rs,slices_SortStableFunc_s_box_line_box_line_C.F,slices_SortStableFunc_s_box_line_box_line_m0_M::slices_SortStableFunc_s_box_line_box_line_C.mus,slices_SortStableFunc_s_box_line_box_line_C.its⟩
theorem kcD:Good Tryz.prog 72 kbe:=(slices_SortStableFunc_s_box_line_box_line_C_ok.more kcy)
def box_cheapest_c1_m0_M:CtrM:=⟨ "",[some (.pr (.i .i64) (.i .u8)),none,none,none,none],⟨[(1,.ptr 0 0),(2,.ptr 2 0),(3,.ptr 3 0),(4,.ptr 4 0)],[(0,.bx 113 [.mp 1]),(1,.mp (.pr (.i .i64) (.i .u8)) (.i .i64)),(2,.bx 4 [.c .b]),(3,.bx 3 [.c (.i .i64)]),(4,.bx 115 [.c (.i .i64),.c (.i .u8)])]⟩,5,⟨[(1,.ptr 0 0),(2,.ptr 2 0),(3,.ptr 3 0),(4,.ptr 4 0)],[(0,.bx 113 [.mp 1]),(1,.mp (.pr (.i .i64) (.i .u8)) (.i .i64)),(2,.bx 4 [.c .b]),(3,.bx 3 [.c (.i .i64)]),(4,.bx 115 [.c (.i .i64),.c (.i .u8)])]⟩,5,0,fun x=>kfq x.1 x.2.1 x.2.2.1 x.2.2.2.1 x.2.2.2.2.1 x.2.2.2.2.2,false⟩
theorem kkp:box_cheapest_c1_m0_M.ok=true/\GoodM Tryz.prog 105 box_cheapest_c1_m0_M:=
 kao Tryz.func105 (by kernel_rfl) (An:=[]) [(103,kgw)] (.cons kfR <| .nil) (fun x=>by kernel_rfl)
def box_cheapest_c1_C:Ctr:=⟨ "",[],[],fun _=>none,[],[]⟩
theorem box_cheapest_c1_C_ok:Good Tryz.prog 105 box_cheapest_c1_C:=good_dm
def khV:Ctr:=⟨ "",box_cheapest_c1_C.as,box_cheapest_c1_C.rs,box_cheapest_c1_C.F,box_cheapest_c1_m0_M::box_cheapest_c1_C.mus,box_cheapest_c1_C.its⟩
theorem kkW:Good Tryz.prog 105 khV:=(box_cheapest_c1_C_ok.more kkp)
def box_cheapest_m0_M:CtrM:=⟨ "",[some (.sl tSwap),none,some (.pr (.i .i64) (.i .u8))],⟨[(1,.mp 0)],[(0,.mp (.pr (.i .i64) (.i .u8)) (.i .i64))]⟩,1,⟨[(1,.mp 0),(1000000,.c (.i .i64)),(1000001,.ag [.c (.i .i64),.c (.i .u8)]),(1000002,.c .b)],[(0,.mp (.pr (.i .i64) (.i .u8)) (.i .i64))]⟩,1,3,fun x=>khC x.1 x.2.1 x.2.2,false⟩
theorem klT:box_cheapest_m0_M.ok=true/\GoodM Tryz.prog 70 box_cheapest_m0_M:=
 kao Tryz.func70 (by kernel_rfl) (An:=[(0,⟨⟨[(22,.c (.i .i64)),(12,.fn 105 [.ptr 1 0,.ptr 6 0,.ptr 4 0,.ptr 5 0]),(9,.ptr 4 0),(10,.ptr 5 0),(11,.ptr 6 0)],[(1,.bx 113 [.mp 0]),(0,.mp (.pr (.i .i64) (.i .u8)) (.i .i64)),(6,.bx 4 [.c .b]),(4,.bx 3 [.c (.i .i64)]),(5,.bx 115 [.c (.i .i64),.c (.i .u8)])]⟩,⟨[(9,.ptr 7 0),(10,.ptr 8 0),(11,.ptr 9 0)],[(7,.bx 3 [.c (.i .i64)]),(8,.bx 115 [.c (.i .i64),.c (.i .u8)]),(9,.bx 4 [.c .b]),(0,.mp (.pr (.i .i64) (.i .u8)) (.i .i64))]⟩,[21,20,5,7],[2,3],11,false,""⟩)]) [(105,khV)] (.cons kkW <| .nil) (fun x=>by kernel_rfl)
def box_cheapest_C:Ctr:=⟨ "",[],[],fun _=>none,[],[]⟩
theorem box_cheapest_C_ok:Good Tryz.prog 70 box_cheapest_C:=good_dm
def kjS:Ctr:=⟨ "",box_cheapest_C.as,box_cheapest_C.rs,box_cheapest_C.F,box_cheapest_m0_M::box_cheapest_C.mus,box_cheapest_C.its⟩
theorem kmz:Good Tryz.prog 70 kjS:=(box_cheapest_C_ok.more klT)
def kmK:Ctr:=⟨ "",[(.sl (.pr (.i .i64) (.pr (.i .u8) (.i .i64)))),(.sl (.pr (.i .i64) (.pr (.i .u8) (.i .i64)))),(.sl tSwap),(.sl (.pr (.i .i64) (.pr (.i .u8) (.i .i64))))],[tBill,(.i .i64)],fun x=>kqq x.1 x.2.1 x.2.2.1 x.2.2.2,[],[]⟩
theorem knk:Good Tryz.prog 23 kmK:=
 kad Tryz.func23 (by kernel_rfl) (An:=[(4,⟨⟨[(55,.c (.i .i64)),(13,.mp 3)],[(3,.mp (.pr (.i .i64) (.i .u8)) (.i .i64))]⟩,⟨[(13,.mp 4)],[(4,.mp (.pr (.i .i64) (.i .u8)) (.i .i64))]⟩,[54,53,1,2,10,8,3],[2,0,1],5,false,""⟩),(12,⟨⟨[(67,.c (.i .i64)),(13,.mp 4),(16,.mw 5)],[(4,.mp (.pr (.i .i64) (.i .u8)) (.i .i64)),(5,.sl 121 tLine)]⟩,⟨[(16,.mw 6)],[(6,.sl 121 tLine)]⟩,[66,65,2,1,10,8,3],[2,0,1],7,false,""⟩),(20,⟨⟨[(101,.c (.i .i64))],[]⟩,⟨[],[]⟩,[100,99,10,22,8,23,3],[6,12,7,9,2,0,1,13],14,true,""⟩),(28,⟨⟨[(152,.c (.i .i64)),(8,.ptr 2 0),(22,.ptr 12 0)],[(2,.bx 43 [.mw 0,.mw 1,.c (.i .i64)]),(12,.bx 43 [.mw 7,.mw 9,.c (.i .i64)]),(9,.sl 50 (.pr (.i .i64) (.pr (.i .u8) (.i .i64))))]⟩,⟨[(22,.ptr 14 0),(8,.ptr 16 0)],[(14,.bx 43 [.mw 7,.mw 15,.c (.i .i64)]),(15,.sl 50 (.pr (.i .i64) (.pr (.i .u8) (.i .i64)))),(16,.bx 43 [.mw 0,.mw 1,.c (.i .i64)])]⟩,[151,150,23],[13,0,1,7],17,true,""⟩),(4,⟨⟨[(55,.c (.i .i64)),(13,.mp 7)],[(7,.mp (.pr (.i .i64) (.i .u8)) (.i .i64))]⟩,⟨[(13,.mp 8)],[(8,.mp (.pr (.i .i64) (.i .u8)) (.i .i64))]⟩,[54,53,1,2,10,8,3],[3,4,5,6,2,0,1],9,false,""⟩),(12,⟨⟨[(67,.c (.i .i64)),(13,.mp 8),(16,.mw 9)],[(8,.mp (.pr (.i .i64) (.i .u8)) (.i .i64)),(9,.sl 121 tLine)]⟩,⟨[(16,.mw 10)],[(10,.sl 121 tLine)]⟩,[66,65,2,1,10,8,3],[3,4,5,6,2,0,1],11,false,""⟩),(20,⟨⟨[(101,.c (.i .i64)),(10,.ptr 3 0),(22,.ptr 16 0),(8,.ptr 2 0),(23,.mp 17)],[(3,.bx 134 [.c (.sl (.pr (.i .i64) (.pr (.i .u8) (.i .i64)))),.mw 4,.fw 5,.mw 6]),(4,.sl 31 (.sl (.i .i64))),(5,.fm 31 (.sl (.i .i64)) 0 3 (.i .i64)),(6,.sl 3 (.i .i64)),(16,.bx 43 [.mw 11,.mw 13,.c (.i .i64)]),(11,.sl 3 (.i .i64)),(2,.bx 43 [.mw 0,.mw 1,.c (.i .i64)]),(17,.mp (.pr (.i .i64) (.i .u8)) (.i .i64))]⟩,⟨[(23,.mp 18),(8,.ptr 19 0),(22,.ptr 20 0)],[(18,.mp (.pr (.i .i64) (.i .u8)) (.i .i64)),(19,.bx 43 [.mw 0,.mw 1,.c (.i .i64)]),(20,.bx 43 [.mw 21,.mw 13,.c (.i .i64)]),(21,.sl 3 (.i .i64))]⟩,[100,99,3],[10,13,0,1],22,true,""⟩),(114,⟨⟨[],[]⟩,⟨[(125,.c .b)],[]⟩,[26,25,8,22,23,101,10],[18,2,16,11,17,3,4,5,6],19,false,""⟩),(28,⟨⟨[(152,.c (.i .i64)),(8,.ptr 19 0),(22,.ptr 20 0)],[(19,.bx 43 [.mw 0,.mw 1,.c (.i .i64)]),(20,.bx 43 [.mw 21,.mw 13,.c (.i .i64)]),(13,.sl 50 (.pr (.i .i64) (.pr (.i .u8) (.i .i64))))]⟩,⟨[(22,.ptr 22 0),(8,.ptr 24 0)],[(22,.bx 43 [.mw 21,.mw 23,.c (.i .i64)]),(23,.sl 50 (.pr (.i .i64) (.pr (.i .u8) (.i .i64)))),(24,.bx 43 [.mw 0,.mw 1,.c (.i .i64)])]⟩,[151,150,23],[18,0,1,21],25,true,""⟩)]) [(58,kfs),(70,kjS),(72,kbe),(73,kns),(69,kbk),(68,kmu),(67,kfX),(65,knt),(59,kek),(71,kdU)] (.cons keV <| .cons kmz <| .cons kcD <| .cons kqg <| .cons kcW <| .cons kpm <| .cons kiO <| .cons kpT <| .cons keT <| .cons kdl <| .nil) (fun x=>by kernel_rfl)
def kiM:Ctr:=⟨ "",[],[(.sl (.sl (.pr (.i .i64) (.pr (.i .u8) (.i .i64)))))],fun x=>law08_plans,[],[]⟩
theorem kjY:Good Tryz.prog 46 kiM:=
 kad Tryz.func46 (by kernel_rfl) (An:=[]) [(43,kfB)] (.cons keW <| .nil) (fun x=>by kernel_rfl)
def kkj:Ctr:=⟨ "",[(.i .i64)],[.b],fun x=>klu x,[],[]⟩
theorem kmB:Good Tryz.prog 107 kkj:=
 kad Tryz.func107 (by kernel_rfl) (An:=[]) [(66,kdd)] (.cons kcg <| .nil) (fun x=>by kernel_rfl)
def kbL:Ctr:=⟨ "",[(.sl (.i .i64)),(.fn 1 (.i .i64) .b)],[(.i .i64)],fun x=>kcd x.1 x.2,[],[]⟩
theorem kcU:Good Tryz.prog 86 kbL:=
 kad Tryz.func86 (by kernel_rfl) (An:=[(0,⟨⟨[(8,.c (.i .i64))],[]⟩,⟨[],[]⟩,[7,1,0],[],0,true,""⟩)]) [] (.nil) (fun x=>by kernel_rfl)
def kcT:Ctr:=⟨ "",[(.sl (.i .i64)),(.fn 1 (.i .i64) .b)],[.b],fun x=>kdF x.1 x.2,[],[]⟩
theorem kgc:Good Tryz.prog 108 kcT:=
 kad Tryz.func108 (by kernel_rfl) (An:=[]) [(86,kbL)] (.cons kcU <| .nil) (fun x=>by kernel_rfl)
def kiR:Ctr:=⟨ "",[(.sl (.sl (.pr (.i .i64) (.pr (.i .u8) (.i .i64))))),(.sl (.i .i64))],[(.i .i64)],fun x=>kkI x.1 x.2,[],[]⟩
theorem kjR:Good Tryz.prog 74 kiR:=
 kad Tryz.func74 (by kernel_rfl) (An:=[]) [(108,kcT),(107,kkj),(50,kby)] (.cons kgc <| .cons kmB <| .cons kbl <| .nil) (fun x=>by kernel_rfl)
def kmk:Ctr:=⟨ "",[(.i .i64),(.i .i64)],[(.i .i64)],fun x=>koq x.1 x.2,[],[]⟩
theorem kpo:Good Tryz.prog 53 kmk:=
 kad Tryz.func53 (by kernel_rfl) (An:=[]) [] (.nil) (fun x=>by kernel_rfl)
def kmp:Ctr:=⟨ "",[(.pr (.i .i64) (.pr (.i .u8) (.i .i64)))],[.b],fun x=>koE x,[],[]⟩
theorem koN:Good Tryz.prog 55 kmp:=
 kad Tryz.func55 (by kernel_rfl) (An:=[]) [] (.nil) (fun x=>by kernel_rfl)
def kpI:Ctr:=⟨ "",[(.sl (.pr (.i .i64) (.pr (.i .u8) (.i .i64)))),(.sl (.pr (.i .i64) (.pr (.i .u8) (.i .i64))))],[(.sl (.pr (.i .i64) (.pr (.i .u8) (.i .i64)))),(.i .i64)],fun x=>kkb x.1 x.2,[],[]⟩
theorem box_Take_C_ok:Good Tryz.prog 17 kpI:=
 kad Tryz.func17 (by kernel_rfl) (An:=[]) [(55,kmp),(53,kmk),(51,kkf),(50,kby),(54,kaK)] (.cons koN <| .cons kpo <| .cons kkB <| .cons kbl <| .cons kbg <| .nil) (fun x=>by kernel_rfl)
def kco:Ctr:=⟨ "",[(.sl (.pr (.i .i64) (.pr (.i .u8) (.i .i64))))],[(.sl (.pr (.i .i64) (.pr (.i .u8) (.i .i64))))],fun x=>kat x,[],[]⟩
theorem slices_Clone_s_api_Item_api_Item_C_ok:Good Tryz.prog 80 kco:=
 kad Tryz.func80 (by kernel_rfl) (An:=[]) [] (.nil) (fun x=>by kernel_rfl)
def growT:Ty:=.sl (.pr (.i .i64) (.pr (.i .u8) (.i .i64)))
abbrev GrowL:=List (Int×Int×Int)
def growA (x:GrowL):AV:=growT.av x
def growE (x:GrowL):List AV:=growT.enc x
def growY (y:Int×GrowL):List AV:=[.sc (.int .i64 y.1),growA y.2]
def growG (l:Nat) (A:AV):Nat->AV
 | 0=>.fn 110 [A,.fp [.sc (.func (.yield l) #[] #[])],.un]
 | d+1=>.fn 110 [A,.fp [.sc (.func (.yield l) #[] #[])],.fp [growG l A d]]
theorem kwE {l:Nat} {A:AV}:∀ d,(growG l A d).one=true
 | 0=>rfl
 | _+1=>rfl
theorem kpV {l:Nat} {A:AV} (hA:Free A):∀ d,Free (growG l A d)
 | 0=>by
  simp only [growG,kgW,kbj,kil,kqP,kfr,and_true,true_and]
  exact ⟨hA,.un⟩
 | d+1=>by
  have:=kpV (l:=l) hA d
  simp only [growG,kgW,kbj,kil,kqP,kfr,and_true,true_and]
  exact ⟨hA,this⟩
theorem khj (x:GrowL):Free (growA x):=kgS growT x rfl
theorem kwe {l p:GrowL} {r:GrowL×Int} (h:kkb l p=some r):PC Tryz.prog 17 [growA l,growA p] (·= .tp [growA r.1,.sc (.int .i64 r.2)]):=
 box_Take_C_ok.2.1 (l,p) r h _ ⟨_,_,rfl,(kci rfl).2 rfl,_,rfl,(kci rfl).2 rfl⟩
theorem kow (ps:List GrowL):Free (.sl (ps.map growE)):=kgS (.sl growT) ps rfl
theorem kqu (l:Nat) (ps:List GrowL):∀ (d:Nat) (i s:Int) (x:GrowL) (ls:List (Int×GrowL)),kbM d ps i s x=some ls->
  YV Tryz.prog l (growG l (.fp [.sl (ps.map growE)]) d) [.sc (.int .i64 i),.sc (.int .i64 s),growA x] (ls.map growY)
 | 0,i,s,x,ls,h=>by cases h
 | d+1,i,s,x,ls,h=>by
  refine YV.of_body (fn:=Tryz.f110) (rd:=9) Tryz.func110 rfl (by kernel_rfl) (by show 6<=49; omega) (by show 49<=9000000; omega) rfl fun D G O k hD hl ok hx=>?_
  subst hl
  have hg:=kpV (l:=G.l) (A:=.fp [.sl (ps.map growE)]) (by simpa using kow ps) d
  have hfree:=khj x
  let I:AV:=.sc (.int .i64 i)
  let S:AV:=.sc (.int .i64 s)
  let X:=growA x
  let A:AV:=.fp [.sl (ps.map growE)]
  let R:AV:=.fp [growG G.l A d]
  refine Sat.ofL ?_
  refine SatL.seq (SatL.rreg rfl ⟨.sc (.bool false),.assign rfl rfl,?_⟩)
  refine SatL.seq (SatL.seq (SatL.rreg rfl ⟨I,.move rfl rfl,_,.load rfl rfl (by kernel_rfl),_,.len rfl rfl rfl rfl rfl (by kernel_rfl),_,.bin rfl rfl rfl (fun K hk=>⟨rfl,hk⟩),?_⟩))
  refine SatL.condX (v:=i==(ps.map growE).length) rfl (fun e=>?_) fun e=>SatL.skip ?_
  ·have hi:i=lenI ps:=by simpa [lenI] using e
   obtain rfl:[(s,x)]=ls:=Option.some.inj ((if_pos hi).symm.trans h)
   refine SatL.seq (SatL.yreg 3 rfl hD ok rfl ⟨_,.load rfl rfl (by kernel_rfl),S,.move rfl rfl,X,.move rfl rfl,YieldK.of [] (z:=ah0) (es:=List.replicate k []) (avs:=[.sc (.int .i64 s),growA x]) (.inl rfl) rfl rfl .yield rfl (by simpa [growY] using hx) (fun q B h=>by cases h) (Snap.V (.free _ (.sc _))) (SnapL.free (show FreeL [S,X] by simp [S,X,hfree])) (fun t ht=>by cases ht) (aopsR.plain ⟨.sc (.bool true),.assign rfl rfl,?_⟩) (aopsR.plain ⟨.sc (.bool false),.assign rfl rfl,?_⟩)⟩)
   ·exact SatL.ret ⟨.inr rfl,.inl ⟨_,rfl,by simp,rfl⟩⟩
   ·exact SatL.ret ⟨.inr rfl,.inr ⟨rfl,rfl⟩⟩
  have hi:¬ i=lenI ps:=by simpa [lenI] using e
  replace h:=(if_neg hi).symm.trans h
  obtain ⟨p,hp,h⟩:=jaa.1 h
  obtain ⟨r,hr,h⟩:=jaa.1 h
  obtain ⟨h0,hp⟩:=knE hp
  let Z:=growA r.1
  let E:AV:=.sc (.int .i64 r.2)
  refine SatL.seq (SatL.seq (SatL.rreg rfl ⟨X,.move rfl rfl,_,.load rfl rfl (by kernel_rfl),I,.move rfl rfl,_,.idx (e:=22) (c:=growE p) rfl rfl rfl (by kernel_rfl) h0 (by simp; exact ⟨p,hp,rfl⟩) (by kernel_rfl) (by simp [growE,growT,Ty.enc]),growA p,.load rfl rfl (by kernel_rfl),.tp [Z,E],.call rfl rfl rfl rfl (kwe hr) (show FreeL [X,growA p] by simp only [kbj,kfr,and_true]; exact ⟨hfree,khj p⟩),.tp [Z,E],.move rfl rfl,Z,.extract rfl rfl rfl,E,.extract rfl rfl rfl,Z,.assign rfl rfl,E,.assign rfl rfl,?_⟩))
  have last:∀ (es:List (List AV)) (ls2:List (Int×GrowL)) (env:Env),lk env GS = .gs es->lk env 0=I->lk env 1=S->lk env 2=X->lk env 5=R->kbM d ps (w64 (i+1)) s x=some ls2->es.length+ls2.length=k+ls.length->(∀ j,j<ls2.length->G.xs[es.length+j]?=(ls2.map growY)[j]?)->
    SatL Tryz.prog 49 D O [(Tryz.f110.body.getD .skip |> fun c=>match c with | .seq _ (.seq _ (.seq _ c))=>c | c=>c)] (yvQ 9 (k+(ls.map growY).length)) ⟨env,ah0,0⟩:=by
   intro es ls2 env e1 e2 e3 e4 e5 hg2 hlen hx2
   let I1:AV:=.sc (.int .i64 (w64 (i+1)))
   refine SatL.seq (SatL.yreg 5 rfl hD ok rfl ⟨growG G.l A d,.load rfl (show deref ah0 (lk env 5)=_ by rw [e5]; rfl) (by kernel_rfl),I,.move rfl e2,I1,.bin rfl rfl rfl (fun K hk=>⟨rfl,hk⟩),S,.move rfl e3,X,.move rfl e4,
    YieldK.of [] (z:=ah0) (es:=es) (avs:=[I1,S,X]) (.inl rfl) rfl rfl (kqu G.l ps d (w64 (i+1)) s x ls2 hg2) e1 (by simpa using hx2) (fun q B h=>by cases h) (Snap.V (.free _ hg)) (SnapL.free (show FreeL [I1,S,X] by simp [I1,S,X,hfree])) (fun t ht=>by cases ht) (aopsR.plain ⟨.sc (.bool true),.assign rfl rfl,?_⟩) (aopsR.plain ⟨.sc (.bool false),.assign rfl rfl,?_⟩)⟩)
   ·exact SatL.ret ⟨.inr rfl,.inl ⟨_,rfl,by simp; omega,rfl⟩⟩
   ·exact SatL.ret ⟨.inr rfl,.inr ⟨rfl,rfl⟩⟩
  by_cases hr0:r.2=0
  ·rw [if_pos hr0] at h
   obtain ⟨b,hb,h⟩:=jaa.1 h
   obtain ⟨l1,hl1,h⟩:=jaa.1 h
   obtain ⟨l2,hl2,h⟩:=jaa.1 h
   obtain rfl:l1++l2=ls:=Option.some.inj h
   obtain rfl:w64 (1*2 ^ (min i.toNat 64))=b:=Option.some.inj ((if_pos h0).symm.trans hb)
   have hx1:∀ j,j<l1.length+l2.length->G.xs[k+j]?=(l1.map growY++l2.map growY)[j]?:=fun j hj=>by
    rw [<-jcr]
    exact hx j (by rw [jaq]; exact Nat.lt_of_lt_of_eq hj jbd.symm)
   have hlen:(l1++l2).length=l1.length+l2.length:=jbd
   let I1:AV:=.sc (.int .i64 (w64 (i+1)))
   let W:AV:=.sc (.int .i64 (w64 (1*2 ^ (min i.toNat 64))))
   let S1:AV:=.sc (.int .i64 (bitsI .or .i64 s (w64 (1*2 ^ (min i.toNat 64)))))
   refine SatL.seq (SatL.yregD 11 rfl hD ok (by kernel_rfl) (by kernel_rfl) (by kernel_rfl) (by kernel_rfl) rfl ⟨E,.move rfl rfl,.sc (.bool true),.bin rfl rfl rfl (fun K hk=>⟨rfl,by rw [hr0]; exact hk⟩),.sc (.bool true),.move rfl rfl,growG G.l A d,.load rfl rfl (by kernel_rfl),I,.move rfl rfl,I1,.bin rfl rfl rfl (fun K hk=>⟨rfl,hk⟩),S,.move rfl rfl,I,.move rfl rfl,
    W,.bin rfl rfl rfl (fun K hk=>⟨h0,hk⟩),S1,.bin rfl rfl rfl (fun K hk=>⟨rfl,hk⟩),Z,.move rfl rfl,
    YieldK.of [0,1,2,5,31] (z:=ah0) (es:=List.replicate k []) (avs:=[I1,S1,Z]) (.inr ⟨_,_,_,rfl,rfl,rfl⟩) rfl rfl (kqu G.l ps d (w64 (i+1)) _ r.1 l1 hl1) rfl (fun j hj=>?_) (fun q B h=>by cases h) (Snap.V (.free _ hg)) (SnapL.free (show FreeL [I1,S1,Z] by simp only [I1,S1,kbj,kfr,and_true,kqP,true_and]; exact khj r.1)) (fun t ht=>?_)
     (aopsR.plain ⟨.sc (.bool false),.not true rfl rfl rfl,.sc (.bool false),.pick rfl rfl rfl,?_⟩) (aopsR.plain ⟨.sc (.bool true),.not false rfl rfl rfl,.sc (.bool true),.pick rfl rfl rfl,?_⟩)⟩)
   ·rw [jaq] at hj
    rw [jcm,hx1 j (by omega),jbh (by simpa using hj)]
   ·simp only [jbr,List.not_mem_nil,or_false] at ht
    rcases ht with rfl | rfl | rfl | rfl | rfl
    ·exact .sc _
    ·exact .sc _
    ·exact hfree
    ·show Free R
     simp only [R,kil,kbj,kfr,and_true]
     exact hg
    ·exact .sc _
   ·exact SatL.condF (v:=false) rfl rfl (SatL.skip (last _ l2 _ rfl rfl rfl rfl rfl hl2 (by rw [jbd,jcm,jaq,hlen]; omega) (fun j hj=>by rw [jbd,jcm,jaq,jdn,hx1 _ (by omega),jcb (by simp),jaq,Nat.add_sub_cancel_left])))
   ·exact SatL.condT (v:=true) rfl rfl (SatL.seq (SatL.rreg rfl ⟨.sc (.bool false),.assign rfl rfl,SatL.ret ⟨.inr rfl,.inr ⟨rfl,rfl⟩⟩⟩))
  ·rw [if_neg hr0] at h
   refine SatL.seq (SatL.rregD (by kernel_rfl) (by kernel_rfl) rfl ⟨E,.move rfl rfl,.sc (.bool false),.bin rfl rfl rfl (fun K hk=>⟨rfl,by rw [show (r.2==0)=false by simpa using hr0]; exact hk⟩),.sc (.bool false),.move rfl rfl,.sc (.bool false),.pick rfl rfl rfl,?_⟩)
   exact SatL.condF (v:=false) rfl rfl (SatL.skip (last _ ls _ rfl rfl rfl rfl rfl h (by simp) (by simpa using hx)))
theorem kvG {x l:GrowL} (h:kat x=some l):PC Tryz.prog 80 [growA x] (·= growA l):=
 slices_Clone_s_api_Item_api_Item_C_ok.2.1 x l h _ ⟨_,rfl,(kci rfl).2 rfl⟩
def klp:CtrI:=⟨ "",[.pt (.sl growT),.pt growT],[.i .i64,growT],fun x=>runI fun o=>kdf o x.1 x.2⟩
theorem kvH {l:Nat} {A:AV} {h:AH} (hA:Free A) (h0:h 0=some (.cells 1 161 [[.sc (.func (.yield l) #[] #[])]])) (h1:h 1=some (.cells 1 162 [[.fn 110 [A,.own 0 0 0,.own 1 0 0]]])):∀ d,SnapV h (.fn 110 [A,.own 0 0 0,.own 1 0 0]) (growG l A d):=fun d=>by
 have step:∀ R,SnapV h (.own 1 0 0) R->SnapV h (.fn 110 [A,.own 0 0 0,.own 1 0 0]) (.fn 110 [A,.fp [.sc (.func (.yield l) #[] #[])],R]):=fun R hR=>.fn rfl fun q c c' hc hc'=>by
  match q,hc,hc' with
  | 0,hc,hc'=>cases hc; cases hc'; exact Snap.V (.free _ hA)
  | 1,hc,hc'=>cases hc; cases hc'; exact SnapV.own1 h0 rfl (Snap.V (.free _ (.sc _)))
  | 2,hc,hc'=>cases hc; cases hc'; exact hR
  | q+3,hc,hc'=>cases hc
 induction d with
 | zero=>exact step _ .un
 | succ d ih=>exact step _ (.own1 h1 (kwE d) ih)
theorem knW:GoodI Tryz.prog 109 klp:=by
 refine ⟨rfl,fun x xs hF l hl=>?_⟩
 obtain ⟨ps,x⟩:=x
 obtain ⟨a,l',rfl,ha,a',rfl,ha'⟩:=hl
 obtain rfl:=(kci rfl).1 ha
 obtain rfl:=(kci rfl).1 ha'
 have hF:(kat x).bind (fun l=>kbM (ps.length+1) ps 0 0 l)=some xs:=by
  obtain ⟨xs1,h1,h2⟩:=jaa.1 (show runI (fun o=>kdf o ps x)=some xs from hF)
  obtain ⟨ys,h3,h4⟩:=jaa.1 h2
  split at h4
  ·cases h4; exact h1
  ·cases h4
 obtain ⟨c,hc,hg⟩:=jaa.1 hF
 refine IT.of_body (fn:=Tryz.f109) Tryz.func109 rfl (by kernel_rfl) (by show 3<=10; omega) (by show 10<=9000000; omega) rfl fun D G O hD hx ok=>?_
 have hA:Free (.fp [.sl (ps.map growE)]):=by simpa using kow ps
 let Y:AV:=.sc (.func (.yield G.l) #[] #[])
 let A:AV:=.fp [.sl (ps.map growE)]
 let F:AV:=.fn 110 [A,.own 0 0 0,.own 1 0 0]
 let H0:AH:=updH ah0 0 (.cells 1 161 [[Y]])
 let H1:AH:=updH H0 1 (.cells 1 162 [[.sc .nilFunc]])
 let H2:AH:=updH H1 1 (.cells 1 162 [[F]])
 let e0:Env:=(GS,.gs [])::kar (.sc (.func (.yield G.l) #[] #[])::[(Ty.pt (.sl growT)).av ps,(Ty.pt growT).av x])
 refine Sat.ofL (SatL.seq (Sat.region rfl (show SatL Tryz.prog 10 D O _ _ ⟨(3,.own 0 0 0)::e0,H0,1⟩ from ?_)))
 refine SatL.seq (Sat.region rfl (aops.cons rfl<|aop.alloc (z:=[.sc .nilFunc]) rfl (by kernel_rfl) (show SatL Tryz.prog 10 D O _ _ ⟨(4,.own 1 0 0)::(3,.own 0 0 0)::e0,H1,2⟩ from ?_)))
 refine SatL.seq (Sat.region rfl (aops.cons rfl<|aop.mkfn (v:=F) rfl rfl<|aops.cons rfl<|aop.store (id:=1) (k:=1) (T':=162) (a:=.sc .nilFunc) (b:=F) rfl rfl rfl rfl (by kernel_rfl) (show SatL Tryz.prog 10 D O _ _ ⟨(5,F)::(4,.own 1 0 0)::(3,.own 0 0 0)::e0,H2,2⟩ from ?_)))
 let C:=growA c
 refine SatL.yregD 3 rfl hD ok (by kernel_rfl) (by kernel_rfl) (by kernel_rfl) (by kernel_rfl) rfl ⟨F,.load rfl rfl (by kernel_rfl),growA x,.load rfl rfl (by kernel_rfl),C,.call rfl rfl rfl rfl (kvG hc) (show FreeL [growA x] by simpa using khj x),
  YieldK.of [] (z:=H2) (es:=[]) (avs:=[.sc (.int .i64 0),.sc (.int .i64 0),C]) (.inl rfl) rfl rfl (kqu G.l ps (ps.length+1) 0 0 c xs hg) rfl (fun j hj=>?_) (fun q B h=>h) (kvH hA rfl rfl _) (SnapL.free (show FreeL [.sc (.int .i64 0),.sc (.int .i64 0),C] by simpa using khj c)) (fun t ht=>by cases ht) ?_ ?_⟩
 ·rw [hx]; simp only [List.length_nil,jby]; rfl
 ·exact ⟨.inl rfl,.inl ⟨_,rfl,rfl⟩⟩
 ·exact ⟨.inl rfl,.inr rfl⟩
def kdN:Ctr:=⟨ "",[],[],fun _=>none,[],[klp]⟩
theorem kdI:Good Tryz.prog 109 kdN:=good_dm.moreI knW
def box_built_m0_M:CtrM:=⟨ "",[some (.sl (.pr (.i .i64) (.pr (.i .u8) (.i .i64)))),some (.sl (.sl (.pr (.i .i64) (.pr (.i .u8) (.i .i64)))))],⟨[],[]⟩,0,⟨[(1000000,.fn 109 [.ptr 0 0,.ptr 1 0])],[(0,.bx 54 [.c (.sl (.sl (.pr (.i .i64) (.pr (.i .u8) (.i .i64)))))]),(1,.bx 22 [.c (.sl (.pr (.i .i64) (.pr (.i .u8) (.i .i64))))])]⟩,2,1,fun x=>khn x.1 x.2,false⟩
theorem koi:box_built_m0_M.ok=true/\GoodM Tryz.prog 75 box_built_m0_M:=
 kao Tryz.func75 (by kernel_rfl) (An:=[]) [(109,kdN)] (.cons kdI <| .nil) (fun x=>by kernel_rfl)
def box_built_C:Ctr:=⟨ "",[],[],fun _=>none,[],[]⟩
theorem box_built_C_ok:Good Tryz.prog 75 box_built_C:=good_dm
def kiW:Ctr:=⟨ "",box_built_C.as,box_built_C.rs,box_built_C.F,box_built_m0_M::box_built_C.mus,box_built_C.its⟩
theorem kkg:Good Tryz.prog 75 kiW:=(box_built_C_ok.more koi)
def kiN:Ctr:=⟨ "",[(.i .i64),(.sl (.i .i64))],[(.sl (.i .i64)),(.i .i64)],fun x=>kkO x.1 x.2,[],[]⟩
theorem kjO:Good Tryz.prog 76 kiN:=
 kad Tryz.func76 (by kernel_rfl) (An:=[(0,⟨⟨[(12,.c (.i .i64)),(6,.mw 1),(7,.c (.i .i64))],[(1,.sl 3 (.i .i64))]⟩,⟨[(6,.mw 2),(7,.c (.i .i64))],[(2,.sl 3 (.i .i64))]⟩,[11,10,0],[],3,false,""⟩)]) [] (.nil) (fun x=>by kernel_rfl)
def keu:Ctr:=⟨ "",[(.sl (.i .i64)),(.sl (.i .i64))],[(.i .i64)],fun x=>kfE x.1 x.2,[],[]⟩
theorem khR:Good Tryz.prog 79 keu:=
 kad Tryz.func79 (by kernel_rfl) (An:=[(0,⟨⟨[(11,.c (.i .i64))],[]⟩,⟨[],[]⟩,[10,9,1,0],[],0,true,""⟩)]) [(78,kck)] (.cons kcq <| .nil) (fun x=>by kernel_rfl)
def knp:Ctr:=⟨ "",[(.sl (.pr (.i .i64) (.pr (.i .u8) (.i .i64)))),(.sl (.sl (.pr (.i .i64) (.pr (.i .u8) (.i .i64))))),(.sl (.i .i64))],[kxJ,(.i .i64)],fun x=>kqp x.1 x.2.1 x.2.2,[],[]⟩
theorem kpQ:Good Tryz.prog 28 knp:=
 kad Tryz.func28 (by kernel_rfl) (An:=[(73,⟨⟨[],[]⟩,⟨[(8,.c (.i .i64))],[]⟩,[1,5,6,0],[0,3,1,2],5,false,""⟩),(0,⟨⟨[],[(9,.bx 57 [.c (.sl (.i .i64)),.c (.i .i64),.c (.sl (.pr (.i .i64) (.pr (.i .u8) (.i .i64))))])]⟩,⟨[],[(9,.bx 57 [.c (.sl (.i .i64)),.c (.i .i64),.c (.sl (.pr (.i .i64) (.pr (.i .u8) (.i .i64))))])]⟩,[29,9,6,5],[3,1,2,0],13,false,""⟩)]) [(79,keu),(76,kiN),(75,kiW),(109,kdN),(80,kco),(74,kiR),(50,kby),(77,khA),(78,kck)] (.cons khR <| .cons kjO <| .cons kkg <| .cons kdI <| .cons slices_Clone_s_api_Item_api_Item_C_ok <| .cons kjR <| .cons kbl <| .cons khh <| .cons kcq <| .nil) (fun x=>by kernel_rfl)
def kdR:CtrI:=⟨ "",[(.pt (.sl (.i .i64)))],[(.i .i64)],fun x=>runI fun o=>kdB o x⟩
theorem khe:GoodI Tryz.prog 131 kdR:=
 kwO Tryz.func131 (by kernel_rfl) (An:=[(0,⟨⟨[(7,.c (.i .i64)),(9000000,.gs (.i .i64))],[]⟩,⟨[(9000000,.gs (.i .i64))],[]⟩,[6,5],[],1,true,""⟩)]) [] (.nil) (fun x=>by kernel_rfl)
def kau:Ctr:=⟨ "",[],[],fun _=>none,[],[kdR]⟩
theorem kax:Good Tryz.prog 131 kau:=good_dm.moreI khe
def slices_Values_s_int_int_m0_M:CtrM:=⟨ "",[some (.sl (.i .i64))],⟨[],[]⟩,0,⟨[(1000000,.fn 131 [.ptr 0 0])],[(0,.bx 31 [.c (.sl (.i .i64))])]⟩,1,1,fun x=>keB x,false⟩
theorem khg:slices_Values_s_int_int_m0_M.ok=true/\GoodM Tryz.prog 118 slices_Values_s_int_int_m0_M:=
 kao Tryz.func118 (by kernel_rfl) (An:=[]) [(131,kau)] (.cons kax <| .nil) (fun x=>by kernel_rfl)
def slices_Values_s_int_int_C:Ctr:=⟨ "",[],[],fun _=>none,[],[]⟩
theorem slices_Values_s_int_int_C_ok:Good Tryz.prog 118 slices_Values_s_int_int_C:=good_dm
def kef:Ctr:=⟨ "",slices_Values_s_int_int_C.as,slices_Values_s_int_int_C.rs,slices_Values_s_int_int_C.F,slices_Values_s_int_int_m0_M::slices_Values_s_int_int_C.mus,slices_Values_s_int_int_C.its⟩
theorem khs:Good Tryz.prog 118 kef:=(slices_Values_s_int_int_C_ok.more khg)
def kjf:Ctr:=⟨ "",[(.i .u32)],[(.i .i64)],fun x=>kpR x,[],[]⟩
theorem klJ:Good Tryz.prog 147 kjf:=
 kad Tryz.func147 (by kernel_rfl) (An:=[(17,⟨⟨[],[]⟩,⟨[(0,.c (.i .u32)),(2,.c (.i .i64))],[]⟩,[],[],0,false,""⟩)]) [] (.nil) (fun x=>by kernel_rfl)
def kjd:Ctr:=⟨ "",[(.i .u64)],[(.i .i64)],fun x=>kks x,[],[]⟩
theorem klR:Good Tryz.prog 148 kjd:=
 kad Tryz.func148 (by kernel_rfl) (An:=[(17,⟨⟨[],[]⟩,⟨[(0,.c (.i .u64)),(2,.c (.i .i64))],[]⟩,[],[],0,false,""⟩),(33,⟨⟨[],[]⟩,⟨[(0,.c (.i .u64)),(2,.c (.i .i64))],[]⟩,[],[],0,false,""⟩)]) [] (.nil) (fun x=>by kernel_rfl)
def khN:Ctr:=⟨ "",[(.i .u64)],[(.i .i64)],fun x=>kiS x,[],[]⟩
theorem kiD:Good Tryz.prog 136 khN:=
 kad Tryz.func136 (by kernel_rfl) (An:=[]) [(148,kjd),(147,kjf)] (.cons klR <| .cons klJ <| .nil) (fun x=>by kernel_rfl)
def kbq:Ctr:=⟨ "",[(.i .i64),(.i .i64)],[.b],fun x=>kaC x.1 x.2,[],[]⟩
theorem kbb:Good Tryz.prog 144 kbq:=
 kad Tryz.func144 (by kernel_rfl) (An:=[]) [(111,kho)] (.cons kiE <| .nil) (fun x=>by kernel_rfl)
def kfV:Ctr:=⟨ "",[(.i .i64)],[(.i .u64)],fun x=>kgU x,[],[]⟩
theorem kiQ:Good Tryz.prog 150 kfV:=
 kad Tryz.func150 (by kernel_rfl) (An:=[]) [(136,khN)] (.cons kiD <| .nil) (fun x=>by kernel_rfl)
def slices_xorshift_Next_m0_M:CtrM:=⟨ "",[none],⟨[(0,.ptr 0 0)],[(0,.bx 202 [.c (.i .u64)])]⟩,1,⟨[(0,.ptr 0 0),(1000000,.c (.i .u64))],[(0,.bx 202 [.c (.i .u64)])]⟩,1,1,fun x=>kfU x,false⟩
theorem kia:slices_xorshift_Next_m0_M.ok=true/\GoodM Tryz.prog 151 slices_xorshift_Next_m0_M:=
 kao Tryz.func151 (by kernel_rfl) (An:=[]) [] (.nil) (fun x=>by kernel_rfl)
def slices_xorshift_Next_C:Ctr:=⟨ "",[],[],fun _=>none,[],[]⟩
theorem slices_xorshift_Next_C_ok:Good Tryz.prog 151 slices_xorshift_Next_C:=good_dm
def kfD:Ctr:=⟨ "",slices_xorshift_Next_C.as,slices_xorshift_Next_C.rs,slices_xorshift_Next_C.F,slices_xorshift_Next_m0_M::slices_xorshift_Next_C.mus,slices_xorshift_Next_C.its⟩
theorem kiw:Good Tryz.prog 151 kfD:=(slices_xorshift_Next_C_ok.more kia)
def slices_order2Ordered_int_m0_M:CtrM:=⟨ "",[some (.sl (.i .i64)),some (.i .i64),some (.i .i64),none],⟨[(3,.ptr 0 0)],[(0,.bx 3 [.c (.i .i64)])]⟩,1,⟨[(3,.ptr 0 0),(1000000,.c (.i .i64)),(1000001,.c (.i .i64))],[(0,.bx 3 [.c (.i .i64)])]⟩,1,2,fun x=>kbd x.1 x.2.1 x.2.2.1 x.2.2.2,false⟩
theorem kgL:slices_order2Ordered_int_m0_M.ok=true/\GoodM Tryz.prog 154 slices_order2Ordered_int_m0_M:=
 kao Tryz.func154 (by kernel_rfl) (An:=[]) [(144,kbq)] (.cons kbb <| .nil) (fun x=>by kernel_rfl)
def slices_order2Ordered_int_C:Ctr:=⟨ "",[],[],fun _=>none,[],[]⟩
theorem slices_order2Ordered_int_C_ok:Good Tryz.prog 154 slices_order2Ordered_int_C:=good_dm
def kdQ:Ctr:=⟨ "",slices_order2Ordered_int_C.as,slices_order2Ordered_int_C.rs,slices_order2Ordered_int_C.F,slices_order2Ordered_int_m0_M::slices_order2Ordered_int_C.mus,slices_order2Ordered_int_C.its⟩
theorem khb:Good Tryz.prog 154 kdQ:=(slices_order2Ordered_int_C_ok.more kgL)
def slices_medianOrdered_int_m0_M:CtrM:=⟨ "",[some (.sl (.i .i64)),some (.i .i64),some (.i .i64),some (.i .i64),none],⟨[(4,.ptr 0 0)],[(0,.bx 3 [.c (.i .i64)])]⟩,1,⟨[(4,.ptr 0 0),(1000000,.c (.i .i64))],[(0,.bx 3 [.c (.i .i64)])]⟩,1,1,fun x=>kbS x.1 x.2.1 x.2.2.1 x.2.2.2.1 x.2.2.2.2,false⟩
theorem kgI:slices_medianOrdered_int_m0_M.ok=true/\GoodM Tryz.prog 153 slices_medianOrdered_int_m0_M:=
 kao Tryz.func153 (by kernel_rfl) (An:=[]) [(154,kdQ)] (.cons khb <| .nil) (fun x=>by kernel_rfl)
def slices_medianOrdered_int_C:Ctr:=⟨ "",[],[],fun _=>none,[],[]⟩
theorem slices_medianOrdered_int_C_ok:Good Tryz.prog 153 slices_medianOrdered_int_C:=good_dm
def kbI:Ctr:=⟨ "",slices_medianOrdered_int_C.as,slices_medianOrdered_int_C.rs,slices_medianOrdered_int_C.F,slices_medianOrdered_int_m0_M::slices_medianOrdered_int_C.mus,slices_medianOrdered_int_C.its⟩
theorem kcR:Good Tryz.prog 153 kbI:=(slices_medianOrdered_int_C_ok.more kgI)
def slices_medianAdjacentOrdered_int_m0_M:CtrM:=⟨ "",[some (.sl (.i .i64)),some (.i .i64),none],⟨[(2,.ptr 0 0)],[(0,.bx 3 [.c (.i .i64)])]⟩,1,⟨[(2,.ptr 0 0),(1000000,.c (.i .i64))],[(0,.bx 3 [.c (.i .i64)])]⟩,1,1,fun x=>kaG x.1 x.2.1 x.2.2,false⟩
theorem kem:slices_medianAdjacentOrdered_int_m0_M.ok=true/\GoodM Tryz.prog 152 slices_medianAdjacentOrdered_int_m0_M:=
 kao Tryz.func152 (by kernel_rfl) (An:=[]) [(153,kbI)] (.cons kcR <| .nil) (fun x=>by kernel_rfl)
def slices_medianAdjacentOrdered_int_C:Ctr:=⟨ "",[],[],fun _=>none,[],[]⟩
theorem slices_medianAdjacentOrdered_int_C_ok:Good Tryz.prog 152 slices_medianAdjacentOrdered_int_C:=good_dm
def kbT:Ctr:=⟨ "",slices_medianAdjacentOrdered_int_C.as,slices_medianAdjacentOrdered_int_C.rs,slices_medianAdjacentOrdered_int_C.F,slices_medianAdjacentOrdered_int_m0_M::slices_medianAdjacentOrdered_int_C.mus,slices_medianAdjacentOrdered_int_C.its⟩
theorem keC:Good Tryz.prog 152 kbT:=(slices_medianAdjacentOrdered_int_C_ok.more kem)
def kcS:Ctr:=⟨ "",[(.sl (.i .i64)),(.i .i64),(.i .i64)],[(.i .i64),(.i .i64)],fun x=>kdD x.1 x.2.1 x.2.2,[],[]⟩
theorem kga:Good Tryz.prog 141 kcS:=
 kad Tryz.func141 (by kernel_rfl) (An:=[(129,⟨⟨[(9,.ptr 0 0)],[(0,.bx 3 [.c (.i .i64)])]⟩,⟨[(9,.ptr 1 0),(11,.c (.i .i64))],[(1,.bx 3 [.c (.i .i64)])]⟩,[8,0],[],2,false,""⟩),(137,⟨⟨[(9,.ptr 0 0)],[(0,.bx 3 [.c (.i .i64)])]⟩,⟨[(10,.c (.i .i64)),(11,.c (.i .i64)),(12,.c (.i .i64)),(9,.ptr 1 0)],[(1,.bx 3 [.c (.i .i64)])]⟩,[],[],2,false,""⟩)]) [(152,kbT),(153,kbI)] (.cons keC <| .cons kcR <| .nil) (fun x=>by kernel_rfl)
def slices_AppendSeq_s_int_int_m0_M:CtrM:=⟨ "",[none,none],⟨[(0,.mw 0),(1,.fn 131 [.ptr 1 0])],[(0,.sl 3 (.i .i64)),(1,.bx 31 [.c (.sl (.i .i64))])]⟩,2,⟨[(1000000,.mw 2)],[(2,.sl 3 (.i .i64))]⟩,3,1,fun x=>kdE x.1 x.2,false⟩
theorem kgf:slices_AppendSeq_s_int_int_m0_M.ok=true/\GoodM Tryz.prog 134 slices_AppendSeq_s_int_int_m0_M:=
 kao Tryz.func134 (by kernel_rfl) (An:=[(0,⟨⟨[],[(2,.bx 31 [.mw 0]),(0,.sl 3 (.i .i64))]⟩,⟨[],[(2,.bx 31 [.mw 5]),(5,.sl 3 (.i .i64))]⟩,[6,2],[],6,false,""⟩)]) [(131,kau),(109,kdN)] (.cons kax <| .cons kdI <| .nil) (fun x=>by kernel_rfl)
def slices_AppendSeq_s_int_int_C:Ctr:=⟨ "",[],[],fun _=>none,[],[]⟩
theorem slices_AppendSeq_s_int_int_C_ok:Good Tryz.prog 134 slices_AppendSeq_s_int_int_C:=good_dm
def kdh:Ctr:=⟨ "",slices_AppendSeq_s_int_int_C.as,slices_AppendSeq_s_int_int_C.rs,slices_AppendSeq_s_int_int_C.F,slices_AppendSeq_s_int_int_m0_M::slices_AppendSeq_s_int_int_C.mus,slices_AppendSeq_s_int_int_C.its⟩
theorem kgr:Good Tryz.prog 134 kdh:=(slices_AppendSeq_s_int_int_C_ok.more kgf)
def slices_Collect_int_m0_M:CtrM:=⟨ "",[none],⟨[(0,.fn 131 [.ptr 0 0])],[(0,.bx 31 [.c (.sl (.i .i64))])]⟩,1,⟨[(1000000,.mw 1)],[(1,.sl 3 (.i .i64))]⟩,2,1,fun x=>kha x,false⟩
theorem kiP:slices_Collect_int_m0_M.ok=true/\GoodM Tryz.prog 129 slices_Collect_int_m0_M:=
 kao Tryz.func129 (by kernel_rfl) (An:=[]) [(134,kdh),(131,kau)] (.cons kgr <| .cons kax <| .nil) (fun x=>by kernel_rfl)
def slices_Collect_int_C:Ctr:=⟨ "",[],[],fun _=>none,[],[]⟩
theorem slices_Collect_int_C_ok:Good Tryz.prog 129 slices_Collect_int_C:=good_dm
def kgp:Ctr:=⟨ "",slices_Collect_int_C.as,slices_Collect_int_C.rs,slices_Collect_int_C.F,slices_Collect_int_m0_M::slices_Collect_int_C.mus,slices_Collect_int_C.its⟩
theorem kjo:Good Tryz.prog 129 kgp:=(slices_Collect_int_C_ok.more kiP)
def slices_insertionSortOrdered_int_m0_M:CtrM:=⟨ "",[none,some (.i .i64),some (.i .i64)],⟨[(0,.mw 0)],[(0,.sl 3 (.i .i64))]⟩,1,⟨[(0,.mw 0)],[(0,.sl 3 (.i .i64))]⟩,1,0,fun x=>kcl x.1 x.2.1 x.2.2,false⟩
theorem kes:slices_insertionSortOrdered_int_m0_M.ok=true/\GoodM Tryz.prog 138 slices_insertionSortOrdered_int_m0_M:=
 kao Tryz.func138 (by kernel_rfl) (An:=[(0,⟨⟨[(6,.c (.i .i64))],[(0,.sl 3 (.i .i64))]⟩,⟨[],[(0,.sl 3 (.i .i64))]⟩,[2,1],[],2,false,""⟩),(8,⟨⟨[(7,.c (.i .i64))],[(0,.sl 3 (.i .i64))]⟩,⟨[],[(0,.sl 3 (.i .i64))]⟩,[6],[],2,false,""⟩)]) [(144,kbq)] (.cons kbb <| .nil) (fun x=>by kernel_rfl)
def slices_insertionSortOrdered_int_C:Ctr:=⟨ "",[],[],fun _=>none,[],[]⟩
theorem slices_insertionSortOrdered_int_C_ok:Good Tryz.prog 138 slices_insertionSortOrdered_int_C:=good_dm
def kcc:Ctr:=⟨ "",slices_insertionSortOrdered_int_C.as,slices_insertionSortOrdered_int_C.rs,slices_insertionSortOrdered_int_C.F,slices_insertionSortOrdered_int_m0_M::slices_insertionSortOrdered_int_C.mus,slices_insertionSortOrdered_int_C.its⟩
theorem keH:Good Tryz.prog 138 kcc:=(slices_insertionSortOrdered_int_C_ok.more kes)
def slices_siftDownOrdered_int_m0_M:CtrM:=⟨ "",[none,some (.i .i64),some (.i .i64),some (.i .i64)],⟨[(0,.mw 0)],[(0,.sl 3 (.i .i64))]⟩,1,⟨[(0,.mw 0)],[(0,.sl 3 (.i .i64))]⟩,1,0,fun x=>kbC x.1 x.2.1 x.2.2.1 x.2.2.2,false⟩
theorem kfY:slices_siftDownOrdered_int_m0_M.ok=true/\GoodM Tryz.prog 149 slices_siftDownOrdered_int_m0_M:=
 kao Tryz.func149 (by kernel_rfl) (An:=[(0,⟨⟨[(8,.c (.i .i64))],[(0,.sl 3 (.i .i64))]⟩,⟨[],[(0,.sl 3 (.i .i64))]⟩,[2,3],[],2,true,""⟩),(14,⟨⟨[],[]⟩,⟨[(36,.c .b)],[]⟩,[9,8],[0],1,false,""⟩),(145,⟨⟨[],[]⟩,⟨[(9,.c (.i .i64))],[]⟩,[8],[0],1,false,""⟩)]) [(144,kbq)] (.cons kbb <| .nil) (fun x=>by kernel_rfl)
def slices_siftDownOrdered_int_C:Ctr:=⟨ "",[],[],fun _=>none,[],[]⟩
theorem slices_siftDownOrdered_int_C_ok:Good Tryz.prog 149 slices_siftDownOrdered_int_C:=good_dm
def kde:Ctr:=⟨ "",slices_siftDownOrdered_int_C.as,slices_siftDownOrdered_int_C.rs,slices_siftDownOrdered_int_C.F,slices_siftDownOrdered_int_m0_M::slices_siftDownOrdered_int_C.mus,slices_siftDownOrdered_int_C.its⟩
theorem kgy:Good Tryz.prog 149 kde:=(slices_siftDownOrdered_int_C_ok.more kfY)
def slices_heapSortOrdered_int_m0_M:CtrM:=⟨ "",[none,some (.i .i64),some (.i .i64)],⟨[(0,.mw 0)],[(0,.sl 3 (.i .i64))]⟩,1,⟨[(0,.mw 0)],[(0,.sl 3 (.i .i64))]⟩,1,0,fun x=>kdG x.1 x.2.1 x.2.2,false⟩
theorem kgg:slices_heapSortOrdered_int_m0_M.ok=true/\GoodM Tryz.prog 139 slices_heapSortOrdered_int_m0_M:=
 kao Tryz.func139 (by kernel_rfl) (An:=[(0,⟨⟨[(9,.c (.i .i64))],[(0,.sl 3 (.i .i64))]⟩,⟨[],[(0,.sl 3 (.i .i64))]⟩,[8,6,7],[],2,false,""⟩),(8,⟨⟨[(10,.c (.i .i64))],[(0,.sl 3 (.i .i64))]⟩,⟨[],[(0,.sl 3 (.i .i64))]⟩,[6,7],[],3,false,""⟩)]) [(149,kde)] (.cons kgy <| .nil) (fun x=>by kernel_rfl)
def slices_heapSortOrdered_int_C:Ctr:=⟨ "",[],[],fun _=>none,[],[]⟩
theorem slices_heapSortOrdered_int_C_ok:Good Tryz.prog 139 slices_heapSortOrdered_int_C:=good_dm
def kdk:Ctr:=⟨ "",slices_heapSortOrdered_int_C.as,slices_heapSortOrdered_int_C.rs,slices_heapSortOrdered_int_C.F,slices_heapSortOrdered_int_m0_M::slices_heapSortOrdered_int_C.mus,slices_heapSortOrdered_int_C.its⟩
theorem kgj:Good Tryz.prog 139 kdk:=(slices_heapSortOrdered_int_C_ok.more kgg)
def slices_breakPatternsOrdered_int_m0_M:CtrM:=⟨ "",[none,some (.i .i64),some (.i .i64)],⟨[(0,.mw 0)],[(0,.sl 3 (.i .i64))]⟩,1,⟨[(0,.mw 0)],[(0,.sl 3 (.i .i64))]⟩,1,0,fun x=>kcj x.1 x.2.1 x.2.2,false⟩
theorem ket:slices_breakPatternsOrdered_int_m0_M.ok=true/\GoodM Tryz.prog 140 slices_breakPatternsOrdered_int_m0_M:=
 kao Tryz.func140 (by kernel_rfl) (An:=[(0,⟨⟨[(9,.c (.i .i64)),(7,.ptr 1 0)],[(1,.bx 202 [.c (.i .u64)]),(0,.sl 3 (.i .i64))]⟩,⟨[],[(0,.sl 3 (.i .i64))]⟩,[1,6,8],[],3,false,""⟩),(173,⟨⟨[],[]⟩,⟨[(10,.c (.i .i64))],[]⟩,[9,7],[0,1],2,false,""⟩)]) [(151,kfD),(150,kfV)] (.cons kiw <| .cons kiQ <| .nil) (fun x=>by kernel_rfl)
def slices_breakPatternsOrdered_int_C:Ctr:=⟨ "",[],[],fun _=>none,[],[]⟩
theorem slices_breakPatternsOrdered_int_C_ok:Good Tryz.prog 140 slices_breakPatternsOrdered_int_C:=good_dm
def kbW:Ctr:=⟨ "",slices_breakPatternsOrdered_int_C.as,slices_breakPatternsOrdered_int_C.rs,slices_breakPatternsOrdered_int_C.F,slices_breakPatternsOrdered_int_m0_M::slices_breakPatternsOrdered_int_C.mus,slices_breakPatternsOrdered_int_C.its⟩
theorem keN:Good Tryz.prog 140 kbW:=(slices_breakPatternsOrdered_int_C_ok.more ket)
def slices_reverseRangeOrdered_int_m0_M:CtrM:=⟨ "",[none,some (.i .i64),some (.i .i64)],⟨[(0,.mw 0)],[(0,.sl 3 (.i .i64))]⟩,1,⟨[(0,.mw 0)],[(0,.sl 3 (.i .i64))]⟩,1,0,fun x=>kct x.1 x.2.1 x.2.2,false⟩
theorem keR:slices_reverseRangeOrdered_int_m0_M.ok=true/\GoodM Tryz.prog 142 slices_reverseRangeOrdered_int_m0_M:=
 kao Tryz.func142 (by kernel_rfl) (An:=[(0,⟨⟨[(6,.c (.i .i64)),(7,.c (.i .i64))],[(0,.sl 3 (.i .i64))]⟩,⟨[],[(0,.sl 3 (.i .i64))]⟩,[],[],2,false,""⟩)]) [] (.nil) (fun x=>by kernel_rfl)
def slices_reverseRangeOrdered_int_C:Ctr:=⟨ "",[],[],fun _=>none,[],[]⟩
theorem slices_reverseRangeOrdered_int_C_ok:Good Tryz.prog 142 slices_reverseRangeOrdered_int_C:=good_dm
def kcp:Ctr:=⟨ "",slices_reverseRangeOrdered_int_C.as,slices_reverseRangeOrdered_int_C.rs,slices_reverseRangeOrdered_int_C.F,slices_reverseRangeOrdered_int_m0_M::slices_reverseRangeOrdered_int_C.mus,slices_reverseRangeOrdered_int_C.its⟩
theorem kfk:Good Tryz.prog 142 kcp:=(slices_reverseRangeOrdered_int_C_ok.more keR)
def slices_partialInsertionSortOrdered_int_m0_M:CtrM:=⟨ "",[none,some (.i .i64),some (.i .i64)],⟨[(0,.mw 0)],[(0,.sl 3 (.i .i64))]⟩,1,⟨[(0,.mw 0),(1000000,.c .b)],[(0,.sl 3 (.i .i64))]⟩,1,1,fun x=>kbu x.1 x.2.1 x.2.2,false⟩
theorem kcX:slices_partialInsertionSortOrdered_int_m0_M.ok=true/\GoodM Tryz.prog 143 slices_partialInsertionSortOrdered_int_m0_M:=
 kao Tryz.func143 (by kernel_rfl) (An:=[(0,⟨⟨[(8,.c (.i .i64)),(7,.c (.i .i64))],[(0,.sl 3 (.i .i64))]⟩,⟨[],[(0,.sl 3 (.i .i64))]⟩,[2,1],[],2,true,""⟩),(8,⟨⟨[(7,.c (.i .i64))],[]⟩,⟨[(7,.c (.i .i64))],[]⟩,[8],[0],1,false,""⟩),(245,⟨⟨[],[(0,.sl 3 (.i .i64))]⟩,⟨[],[(0,.sl 3 (.i .i64))]⟩,[7,8],[],2,false,""⟩),(16,⟨⟨[(9,.c (.i .i64))],[(0,.sl 3 (.i .i64))]⟩,⟨[],[(0,.sl 3 (.i .i64))]⟩,[],[],2,false,""⟩),(24,⟨⟨[(10,.c (.i .i64))],[(0,.sl 3 (.i .i64))]⟩,⟨[],[(0,.sl 3 (.i .i64))]⟩,[8,7],[],3,false,""⟩)]) [(144,kbq)] (.cons kbb <| .nil) (fun x=>by kernel_rfl)
def slices_partialInsertionSortOrdered_int_C:Ctr:=⟨ "",[],[],fun _=>none,[],[]⟩
theorem slices_partialInsertionSortOrdered_int_C_ok:Good Tryz.prog 143 slices_partialInsertionSortOrdered_int_C:=good_dm
def kbo:Ctr:=⟨ "",slices_partialInsertionSortOrdered_int_C.as,slices_partialInsertionSortOrdered_int_C.rs,slices_partialInsertionSortOrdered_int_C.F,slices_partialInsertionSortOrdered_int_m0_M::slices_partialInsertionSortOrdered_int_C.mus,slices_partialInsertionSortOrdered_int_C.its⟩
theorem kdq:Good Tryz.prog 143 kbo:=(slices_partialInsertionSortOrdered_int_C_ok.more kcX)
def slices_partitionEqualOrdered_int_m0_M:CtrM:=⟨ "",[none,some (.i .i64),some (.i .i64),some (.i .i64)],⟨[(0,.mw 0)],[(0,.sl 3 (.i .i64))]⟩,1,⟨[(0,.mw 0),(1000000,.c (.i .i64))],[(0,.sl 3 (.i .i64))]⟩,1,1,fun x=>kbX x.1 x.2.1 x.2.2.1 x.2.2.2,false⟩
theorem keq:slices_partitionEqualOrdered_int_m0_M.ok=true/\GoodM Tryz.prog 145 slices_partitionEqualOrdered_int_m0_M:=
 kao Tryz.func145 (by kernel_rfl) (An:=[(0,⟨⟨[(9,.c (.i .i64)),(10,.c (.i .i64))],[(0,.sl 3 (.i .i64))]⟩,⟨[(9,.c (.i .i64))],[(0,.sl 3 (.i .i64))]⟩,[1],[],2,false,""⟩),(8,⟨⟨[(9,.c (.i .i64))],[]⟩,⟨[(9,.c (.i .i64))],[]⟩,[10],[0],1,false,""⟩),(16,⟨⟨[(10,.c (.i .i64))],[]⟩,⟨[(10,.c (.i .i64))],[]⟩,[9],[0],1,false,""⟩)]) [(144,kbq)] (.cons kbb <| .nil) (fun x=>by kernel_rfl)
def slices_partitionEqualOrdered_int_C:Ctr:=⟨ "",[],[],fun _=>none,[],[]⟩
theorem slices_partitionEqualOrdered_int_C_ok:Good Tryz.prog 145 slices_partitionEqualOrdered_int_C:=good_dm
def kbU:Ctr:=⟨ "",slices_partitionEqualOrdered_int_C.as,slices_partitionEqualOrdered_int_C.rs,slices_partitionEqualOrdered_int_C.F,slices_partitionEqualOrdered_int_m0_M::slices_partitionEqualOrdered_int_C.mus,slices_partitionEqualOrdered_int_C.its⟩
theorem kew:Good Tryz.prog 145 kbU:=(slices_partitionEqualOrdered_int_C_ok.more keq)
def slices_partitionOrdered_int_m0_M:CtrM:=⟨ "",[none,some (.i .i64),some (.i .i64),some (.i .i64)],⟨[(0,.mw 0)],[(0,.sl 3 (.i .i64))]⟩,1,⟨[(0,.mw 0),(1000000,.c (.i .i64)),(1000001,.c .b)],[(0,.sl 3 (.i .i64))]⟩,1,2,fun x=>kdi x.1 x.2.1 x.2.2.1 x.2.2.2,false⟩
theorem kfT:slices_partitionOrdered_int_m0_M.ok=true/\GoodM Tryz.prog 146 slices_partitionOrdered_int_m0_M:=
 kao Tryz.func146 (by kernel_rfl) (An:=[(0,⟨⟨[(10,.c (.i .i64))],[]⟩,⟨[(10,.c (.i .i64))],[]⟩,[11,1],[0],1,false,""⟩),(8,⟨⟨[(11,.c (.i .i64))],[]⟩,⟨[(11,.c (.i .i64))],[]⟩,[10,1],[0],1,false,""⟩),(16,⟨⟨[(10,.c (.i .i64)),(11,.c (.i .i64))],[(0,.sl 3 (.i .i64))]⟩,⟨[(11,.c (.i .i64))],[(0,.sl 3 (.i .i64))]⟩,[1],[],2,false,""⟩),(24,⟨⟨[(10,.c (.i .i64))],[]⟩,⟨[(10,.c (.i .i64))],[]⟩,[11],[0],1,false,""⟩),(32,⟨⟨[(11,.c (.i .i64))],[]⟩,⟨[(11,.c (.i .i64))],[]⟩,[10],[0],1,false,""⟩)]) [(144,kbq)] (.cons kbb <| .nil) (fun x=>by kernel_rfl)
def slices_partitionOrdered_int_C:Ctr:=⟨ "",[],[],fun _=>none,[],[]⟩
theorem slices_partitionOrdered_int_C_ok:Good Tryz.prog 146 slices_partitionOrdered_int_C:=good_dm
def kcQ:Ctr:=⟨ "",slices_partitionOrdered_int_C.as,slices_partitionOrdered_int_C.rs,slices_partitionOrdered_int_C.F,slices_partitionOrdered_int_m0_M::slices_partitionOrdered_int_C.mus,slices_partitionOrdered_int_C.its⟩
theorem kgb:Good Tryz.prog 146 kcQ:=(slices_partitionOrdered_int_C_ok.more kfT)
def kbs (k:Nat):CtrM:=⟨ "",[none,some (.i .i64),some (.i .i64),some (.i .i64)],⟨[(0,.mw 0)],[(0,.sl 3 (.i .i64))]⟩,1,⟨[(0,.mw 0)],[(0,.sl 3 (.i .i64))]⟩,1,0,fun x=>kbw k x.1 x.2.1 x.2.2.1 x.2.2.2,false⟩
theorem kcJ:∀ k,(kbs k).ok=true/\GoodM Tryz.prog 135 (kbs k)
 | 0=>khv (by kernel_rfl) (fun x=>rfl)
 | k+1=>kao Tryz.func135 (by kernel_rfl) (An:=[(0,⟨⟨[(2,.c (.i .i64)),(1,.c (.i .i64)),(3,.c (.i .i64)),(8,.c .b),(9,.c .b)],[(0,.sl 3 (.i .i64))]⟩,⟨[],[(0,.sl 3 (.i .i64))]⟩,[],[],1,true,""⟩),(141,⟨⟨[],[(0,.sl 3 (.i .i64))]⟩,⟨[(3,.c (.i .i64))],[(0,.sl 3 (.i .i64))]⟩,[1,2,8,9,10],[],2,false,""⟩),(201,⟨⟨[],[(0,.sl 3 (.i .i64))]⟩,⟨[(12,.c (.i .i64)),(11,.c (.i .i64))],[(0,.sl 3 (.i .i64))]⟩,[1,2,8,9,3,10],[],3,false,""⟩),(62,⟨⟨[],[]⟩,⟨[(68,.c .b)],[]⟩,[8,9,12,1,2,11,3,10],[0],3,false,""⟩),(273,⟨⟨[],[(0,.sl 3 (.i .i64))]⟩,⟨[],[(0,.sl 3 (.i .i64))]⟩,[1,2,11,3,8,9,10],[],4,true,""⟩),(70,⟨⟨[],[]⟩,⟨[(87,.c .b)],[]⟩,[1,11,2,3,8,9,10],[0],4,false,""⟩)]) ((135,⟨ "",[],[],fun _=>none,[kbs k],[]⟩)::[(146,kcQ),(145,kbU),(143,kbo),(142,kcp),(140,kbW),(139,kdk),(138,kcc),(141,kcS),(144,kbq)]) (.cons (good_dm.more (kcJ k)) <| .cons kgb <| .cons kew <| .cons kdq <| .cons kfk <| .cons keN <| .cons kgj <| .cons keH <| .cons kga <| .cons kbb <| .nil) (fun x=>by kernel_rfl)
def slices_pdqsortOrdered_int_m0_M:CtrM:=⟨ "",[none,some (.i .i64),some (.i .i64),some (.i .i64)],⟨[(0,.mw 0)],[(0,.sl 3 (.i .i64))]⟩,1,⟨[(0,.mw 0)],[(0,.sl 3 (.i .i64))]⟩,1,0,fun x=>kdY x.1 x.2.1 x.2.2.1 x.2.2.2,false⟩
theorem kgt:slices_pdqsortOrdered_int_m0_M.ok=true/\GoodM Tryz.prog 135 slices_pdqsortOrdered_int_m0_M:=kcJ 1000000
def slices_pdqsortOrdered_int_C:Ctr:=⟨ "",[],[],fun _=>none,[],[]⟩
theorem slices_pdqsortOrdered_int_C_ok:Good Tryz.prog 135 slices_pdqsortOrdered_int_C:=good_dm
def kdC:Ctr:=⟨ "",slices_pdqsortOrdered_int_C.as,slices_pdqsortOrdered_int_C.rs,slices_pdqsortOrdered_int_C.F,slices_pdqsortOrdered_int_m0_M::slices_pdqsortOrdered_int_C.mus,slices_pdqsortOrdered_int_C.its⟩
theorem kgJ:Good Tryz.prog 135 kdC:=(slices_pdqsortOrdered_int_C_ok.more kgt)
def slices_Sort_s_int_int_m0_M:CtrM:=⟨ "",[none],⟨[(0,.mw 0)],[(0,.sl 3 (.i .i64))]⟩,1,⟨[(0,.mw 0)],[(0,.sl 3 (.i .i64))]⟩,1,0,fun x=>kfm x,false⟩
theorem khP:slices_Sort_s_int_int_m0_M.ok=true/\GoodM Tryz.prog 130 slices_Sort_s_int_int_m0_M:=
 kao Tryz.func130 (by kernel_rfl) (An:=[]) [(135,kdC),(136,khN)] (.cons kgJ <| .cons kiD <| .nil) (fun x=>by kernel_rfl)
def slices_Sort_s_int_int_C:Ctr:=⟨ "",[],[],fun _=>none,[],[]⟩
theorem slices_Sort_s_int_int_C_ok:Good Tryz.prog 130 slices_Sort_s_int_int_C:=good_dm
def keY:Ctr:=⟨ "",slices_Sort_s_int_int_C.as,slices_Sort_s_int_int_C.rs,slices_Sort_s_int_int_C.F,slices_Sort_s_int_int_m0_M::slices_Sort_s_int_int_C.mus,slices_Sort_s_int_int_C.its⟩
theorem kij:Good Tryz.prog 130 keY:=(slices_Sort_s_int_int_C_ok.more khP)
def slices_Sorted_int_m0_M:CtrM:=⟨ "",[none],⟨[(0,.fn 131 [.ptr 0 0])],[(0,.bx 31 [.c (.sl (.i .i64))])]⟩,1,⟨[(1000000,.mw 1)],[(1,.sl 3 (.i .i64))]⟩,2,1,fun x=>khm x,false⟩
theorem kjn:slices_Sorted_int_m0_M.ok=true/\GoodM Tryz.prog 117 slices_Sorted_int_m0_M:=
 kao Tryz.func117 (by kernel_rfl) (An:=[]) [(130,keY),(129,kgp),(131,kau)] (.cons kij <| .cons kjo <| .cons kax <| .nil) (fun x=>by kernel_rfl)
def slices_Sorted_int_C:Ctr:=⟨ "",[],[],fun _=>none,[],[]⟩
theorem slices_Sorted_int_C_ok:Good Tryz.prog 117 slices_Sorted_int_C:=good_dm
def kgZ:Ctr:=⟨ "",slices_Sorted_int_C.as,slices_Sorted_int_C.rs,slices_Sorted_int_C.F,slices_Sorted_int_m0_M::slices_Sorted_int_C.mus,slices_Sorted_int_C.its⟩
theorem kkk:Good Tryz.prog 117 kgZ:=(slices_Sorted_int_C_ok.more kjn)
def kmc:Ctr:=⟨ "",[(.sl (.i .i64)),(.i .i64)],[.b],fun x=>kpy x.1 x.2,[],[]⟩
theorem kms:Good Tryz.prog 88 kmc:=
 kad Tryz.func88 (by kernel_rfl) (An:=[(0,⟨⟨[(11,.c (.i .i64))],[]⟩,⟨[],[]⟩,[10,9,0,1],[1],2,true,""⟩)]) [(117,kgZ),(118,kef),(131,kau)] (.cons kkk <| .cons khs <| .cons kax <| .nil) (fun x=>by kernel_rfl)
def kka:Ctr:=⟨ "",[(.sl (.i .i64)),(.pt (.i .i64))],[.b],fun x=>klx x.1 x.2,[],[]⟩
theorem kmD:Good Tryz.prog 115 kka:=
 kad Tryz.func115 (by kernel_rfl) (An:=[]) [(88,kmc)] (.cons kms <| .nil) (fun x=>by kernel_rfl)
def kcF:Ctr:=⟨ "",[(.sl (.sl (.i .i64))),(.fn 1 (.sl (.i .i64)) .b)],[(.i .i64)],fun x=>kdc x.1 x.2,[],[]⟩
theorem kfO:Good Tryz.prog 126 kcF:=
 kad Tryz.func126 (by kernel_rfl) (An:=[(0,⟨⟨[(8,.c (.i .i64))],[]⟩,⟨[],[]⟩,[7,1,0],[],0,true,""⟩)]) [] (.nil) (fun x=>by kernel_rfl)
def kbZ:Ctr:=⟨ "",[(.sl (.sl (.i .i64))),(.fn 1 (.sl (.i .i64)) .b)],[.b],fun x=>kcw x.1 x.2,[],[]⟩
theorem keQ:Good Tryz.prog 114 kbZ:=
 kad Tryz.func114 (by kernel_rfl) (An:=[]) [(126,kcF)] (.cons kfO <| .nil) (fun x=>by kernel_rfl)
def kiV:Ctr:=⟨ "",[(.sl (.sl (.i .i64)))],[.b],fun x=>kkS x,[],[]⟩
theorem kjM:Good Tryz.prog 83 kiV:=
 kad Tryz.func83 (by kernel_rfl) (An:=[]) [(114,kbZ),(115,kka),(66,kdd)] (.cons keQ <| .cons kmD <| .cons kcg <| .nil) (fun x=>by kernel_rfl)
def kiY:Ctr:=⟨ "",[(.i .u32),(.i .u32)],[(.i .u32),(.i .u32)],fun x=>kqh x.1 x.2,[],[]⟩
theorem klB:Good Tryz.prog 127 kiY:=
 kad Tryz.func127 (by kernel_rfl) (An:=[]) [] (.nil) (fun x=>by kernel_rfl)
def kji:Ctr:=⟨ "",[(.i .u64),(.i .u64)],[(.i .u64),(.i .u64)],fun x=>kkv x.1 x.2,[],[]⟩
theorem klX:Good Tryz.prog 128 kji:=
 kad Tryz.func128 (by kernel_rfl) (An:=[]) [] (.nil) (fun x=>by kernel_rfl)
def kkr:Ctr:=⟨ "",[(.i .u64),(.i .u64)],[(.i .u64),(.i .u64)],fun x=>kmv x.1 x.2,[],[]⟩
theorem kng:Good Tryz.prog 116 kkr:=
 kad Tryz.func116 (by kernel_rfl) (An:=[]) [(128,kji),(127,kiY)] (.cons klX <| .cons klB <| .nil) (fun x=>by kernel_rfl)
def kjh:Ctr:=⟨ "",[(.i .i64),(.pt (.sl (.i .i64)))],[.b],fun x=>kkw x.1 x.2,[],[]⟩
theorem kmd:Good Tryz.prog 87 kjh:=
 kad Tryz.func87 (by kernel_rfl) (An:=[]) [] (.nil) (fun x=>by kernel_rfl)
def kle:Ctr:=⟨ "",[(.i .i64),(.pt (.sl (.sl (.i .i64)))),(.pt (.sl (.i .i64)))],[(.i .i64)],fun x=>kfw x.1 x.2.1 x.2.2,[],[]⟩
theorem koc:Good Tryz.prog 85 kle:=
 kad Tryz.func85 (by kernel_rfl) (An:=[]) [(87,kjh),(86,kbL)] (.cons kmd <| .cons kcU <| .nil) (fun x=>by kernel_rfl)
def slices_Repeat_s_int_int_m0_M:CtrM:=⟨ "",[some (.sl (.i .i64)),some (.i .i64)],⟨[],[]⟩,0,⟨[(1000000,.mw 0)],[(0,.sl 3 (.i .i64))]⟩,1,1,fun x=>ker x.1 x.2,false⟩
theorem khd:slices_Repeat_s_int_int_m0_M.ok=true/\GoodM Tryz.prog 84 slices_Repeat_s_int_int_m0_M:=
 kao Tryz.func84 (by kernel_rfl) (An:=[(41,⟨⟨[],[]⟩,⟨[],[]⟩,[0,1],[],1,false,""⟩),(18,⟨⟨[],[]⟩,⟨[(26,.c .b)],[]⟩,[5,6,0],[],1,false,""⟩),(105,⟨⟨[],[]⟩,⟨[],[]⟩,[6,0],[],1,false,""⟩),(0,⟨⟨[(8,.c (.i .i64)),(7,.mw 1)],[(1,.sl 3 (.i .i64))]⟩,⟨[(7,.mw 2)],[(2,.sl 3 (.i .i64))]⟩,[],[],3,false,""⟩)]) [(116,kkr)] (.cons kng <| .nil) (fun x=>by kernel_rfl)
def slices_Repeat_s_int_int_B32:Ctr:=⟨ "",[],[],fun _=>none,[],[]⟩
theorem slices_Repeat_s_int_int_B32_ok:Good Tryz.prog 84 slices_Repeat_s_int_int_B32:=good_dm
def kee:Ctr:=⟨ "",slices_Repeat_s_int_int_B32.as,slices_Repeat_s_int_int_B32.rs,slices_Repeat_s_int_int_B32.F,slices_Repeat_s_int_int_m0_M::slices_Repeat_s_int_int_B32.mus,slices_Repeat_s_int_int_B32.its⟩
theorem khq:Good Tryz.prog 84 kee:=(slices_Repeat_s_int_int_B32_ok.more khd)
def kkN:Ctr:=⟨ "",[(.sl (.sl (.i .i64)))],[(.sl (.i .i64)),(.i .i64)],fun x=>knn x,[],[]⟩
theorem klq:Good Tryz.prog 35 kkN:=
 kad Tryz.func35 (by kernel_rfl) (An:=[(0,⟨⟨[(25,.c (.i .i64)),(4,.ptr 5 0),(5,.fn 85 [.ptr 0 0,.ptr 5 0])],[(5,.bx 31 [.mw 3]),(3,.sl 3 (.i .i64))]⟩,⟨[(4,.ptr 6 0)],[(6,.bx 31 [.mw 7]),(7,.sl 3 (.i .i64))]⟩,[24,1],[0],8,false,""⟩),(8,⟨⟨[(4,.ptr 5 0),(5,.fn 85 [.ptr 0 0,.ptr 5 0])],[(5,.bx 31 [.mw 3]),(3,.sl 3 (.i .i64))]⟩,⟨[(4,.ptr 6 0),(5,.fn 85 [.ptr 0 0,.ptr 6 0])],[(6,.bx 31 [.mw 7]),(7,.sl 3 (.i .i64))]⟩,[6,25],[],8,false,""⟩),(16,⟨⟨[(36,.c (.i .i64)),(7,.c (.i .i64))],[]⟩,⟨[(7,.c (.i .i64))],[]⟩,[35,5,4],[5,3],6,false,""⟩),(24,⟨⟨[(9,.c (.i .i64)),(8,.mw 6)],[(6,.sl 3 (.i .i64))]⟩,⟨[(8,.mw 7)],[(7,.sl 3 (.i .i64))]⟩,[7,5,4],[5,3],8,false,""⟩),(32,⟨⟨[(59,.c (.i .i64)),(10,.mw 8)],[(8,.sl 3 (.i .i64))]⟩,⟨[(10,.mw 9)],[(9,.sl 3 (.i .i64))]⟩,[58,57,5,8,4],[7,5,3],10,false,""⟩),(40,⟨⟨[(72,.c (.i .i64)),(4,.ptr 5 0),(5,.fn 85 [.ptr 0 0,.ptr 5 0])],[(5,.bx 31 [.mw 3]),(3,.sl 3 (.i .i64))]⟩,⟨[(4,.ptr 10 0),(5,.fn 85 [.ptr 0 0,.ptr 10 0])],[(10,.bx 31 [.mw 11]),(11,.sl 3 (.i .i64))]⟩,[71,70,10],[7,9],12,false,""⟩)]) [(84,kee),(85,kle),(83,kiV)] (.cons khq <| .cons koc <| .cons kjM <| .nil) (fun x=>by kernel_rfl)
def kfZ:Ctr:=⟨ "",[(.sl (.pr (.i .i64) (.pr (.i .u8) (.i .i64)))),(.sl (.pr (.i .i64) (.pr (.i .u8) (.i .i64))))],[.b],fun x=>khu x.1 x.2,[],[]⟩
theorem khz:Good Tryz.prog 16 kfZ:=
 kad Tryz.func16 (by kernel_rfl) (An:=[(0,⟨⟨[(5,.c (.i .i64))],[]⟩,⟨[],[]⟩,[0,1],[],0,true,""⟩)]) [] (.nil) (fun x=>by kernel_rfl)
def kgQ:Ctr:=⟨ "",[(.sl (.i .i64)),(.sl (.i .i64))],[.b],fun x=>kcA x.1 x.2,[],[]⟩
theorem khU:Good Tryz.prog 41 kgQ:=
 kad Tryz.func41 (by kernel_rfl) (An:=[(0,⟨⟨[(5,.c (.i .i64))],[]⟩,⟨[],[]⟩,[0,1],[],0,true,""⟩)]) [] (.nil) (fun x=>by kernel_rfl)
def klr:Ctr:=⟨ "",[],[.b],fun x=>knf,[],[]⟩
theorem kof:Good Tryz.prog 13 klr:=
 kad Tryz.func13 (by kernel_rfl) (An:=[]) [(8000013,kak),(8000017,kak),(8000019,kak),(8000036,kak),(8000042,kak),(8000044,kak),(8000049,kak),(8000050,kak),(8000051,kak),(8000052,kak),(8000062,kak),(8000078,kak),(8000089,kak),(8000103,kak),(8000123,kak),(41,kgQ),(16,kfZ),(35,kkN),(28,knp),(46,kiM),(23,kmK),(19,kmg),(45,kjJ),(44,kin),(15,knA),(43,kfB)] (.cons kae <| .cons kae <| .cons kae <| .cons kae <| .cons kae <| .cons kae <| .cons kae <| .cons kae <| .cons kae <| .cons kae <| .cons kae <| .cons kae <| .cons kae <| .cons kae <| .cons kae <| .cons khU <| .cons khz <| .cons klq <| .cons kpQ <| .cons kjY <| .cons knk <| .cons kmn <| .cons kkC <| .cons kjb <| .cons kmO <| .cons keW <| .nil) (fun x=>by kernel_rfl)
def kml:Ctr:=⟨ "",[],[.b],fun x=>law08_alive,[],[]⟩
theorem kpz:Good Tryz.prog 13 kml:=by
 have h:=kof
 unfold klr at h
 rw [kxd] at h
 exact h
def kfC:Ctr:=⟨ "",[(.sl (.i .i64)),(.i .i64)],[(.i .i64)],fun x=>kgx x.1 x.2,[],[]⟩
theorem kiG:Good Tryz.prog 112 kfC:=
 kad Tryz.func112 (by kernel_rfl) (An:=[(0,⟨⟨[(8,.c (.i .i64))],[]⟩,⟨[],[]⟩,[7,1,0],[],0,true,""⟩)]) [] (.nil) (fun x=>by kernel_rfl)
def ked:Ctr:=⟨ "",[(.sl (.i .i64)),(.i .i64)],[.b],fun x=>keX x.1 x.2,[],[]⟩
theorem khl:Good Tryz.prog 81 ked:=
 kad Tryz.func81 (by kernel_rfl) (An:=[]) [(112,kfC)] (.cons kiG <| .nil) (fun x=>by kernel_rfl)
def kkx:Ctr:=⟨ "",[(.sl (.pr (.i .i64) (.pr (.i .u8) (.i .i64)))),(.sl (.pr (.i .i64) (.pr (.i .u8) (.i .i64)))),(.sl tSwap),(.sl (.pr (.i .i64) (.pr (.i .i64) (.i .i64))))],[(.i .i64),(.i .i64)],fun x=>kiU x.1 x.2.1 x.2.2.1 x.2.2.2,[],[]⟩
theorem knG:Good Tryz.prog 32 kkx:=
 kad Tryz.func32 (by kernel_rfl) (An:=[(0,⟨⟨[(33,.c (.i .i64)),(13,.mw 0)],[(0,.sl 3 (.i .i64))]⟩,⟨[(13,.mw 1)],[(1,.sl 3 (.i .i64))]⟩,[32,31,3,1,0,10,12],[],2,false,""⟩),(8,⟨⟨[(46,.c (.i .i64)),(12,.c (.i .i64))],[]⟩,⟨[(12,.c (.i .i64))],[]⟩,[45,44,1,0,10,13,3],[1],2,true,""⟩),(0,⟨⟨[(33,.c (.i .i64)),(13,.mw 4)],[(4,.sl 3 (.i .i64))]⟩,⟨[(13,.mw 5)],[(5,.sl 3 (.i .i64))]⟩,[32,31,3,1,0,10,12],[0,1,2,3],6,false,""⟩),(8,⟨⟨[(46,.c (.i .i64)),(10,.ptr 0 0),(13,.mw 5),(12,.c (.i .i64))],[(0,.bx 134 [.c (.sl (.pr (.i .i64) (.pr (.i .u8) (.i .i64)))),.mw 1,.fw 2,.mw 3]),(3,.sl 3 (.i .i64)),(5,.sl 3 (.i .i64))]⟩,⟨[(12,.c (.i .i64))],[]⟩,[45,44,1,0,3],[1,2],6,true,""⟩),(62,⟨⟨[],[]⟩,⟨[(125,.c .b)],[]⟩,[16,17,13,10,12,46],[6,5,0,3],7,false,""⟩)]) [(58,kfs),(81,ked),(77,khA),(78,kck),(66,kdd)] (.cons keV <| .cons khl <| .cons khh <| .cons kcq <| .cons kcg <| .nil) (fun x=>by kernel_rfl)
def kdg:Ctr:=⟨ "",[(.sl (.i .u8)),(.sl (.i .u8))],[(.i .i64)],fun x=>kdP x.1 x.2,[],[]⟩
theorem kgl:Good Tryz.prog 82 kdg:=
 kad Tryz.func82 (by kernel_rfl) (An:=[(0,⟨⟨[(11,.c (.i .i64))],[]⟩,⟨[],[]⟩,[10,9,1,0],[],0,true,""⟩)]) [(113,keP)] (.cons kgm <| .nil) (fun x=>by kernel_rfl)
def koB:Ctr:=⟨ "",[(.sl (.pr (.i .i64) (.pr (.i .u8) (.i .i64)))),(.sl (.pr (.i .i64) (.pr (.i .u8) (.i .i64)))),(.sl (.sl (.pr (.i .i64) (.pr (.i .u8) (.i .i64))))),(.sl (.i .i64))],[(.sl (.i .u8)),(.i .i64),(.i .i64)],fun x=>krI x.1 x.2.1 x.2.2.1 x.2.2.2,[],[]⟩
theorem kqT:Good Tryz.prog 33 koB:=
 kad Tryz.func33 (by kernel_rfl) (An:=[(113,⟨⟨[],[]⟩,⟨[(11,.c (.i .i64))],[]⟩,[6,7,1,0],[0,1],4,false,""⟩),(0,⟨⟨[],[(5,.bx 31 [.mw 4]),(4,.sl 3 (.i .i64))]⟩,⟨[],[(5,.bx 31 [.mw 9]),(9,.sl 3 (.i .i64))]⟩,[37,0,6,12,7],[0,1],10,false,""⟩),(8,⟨⟨[],[(11,.bx 60 [.c (.sl (.i .u8))]),(12,.bx 3 [.c (.i .i64)])]⟩,⟨[],[(11,.bx 60 [.c (.sl (.i .u8))]),(12,.bx 3 [.c (.i .i64)])]⟩,[46,14,15,12,6,7],[5,9,0,1],17,false,""⟩),(16,⟨⟨[(51,.c (.i .i64))],[(12,.bx 3 [.c (.i .i64)]),(11,.bx 60 [.c (.sl (.i .u8))])]⟩,⟨[],[(11,.bx 60 [.c (.sl (.i .u8))]),(12,.bx 3 [.c (.i .i64)])]⟩,[50,49,16],[],17,false,""⟩),(24,⟨⟨[(64,.c (.i .i64)),(19,.mw 15)],[(15,.sl 5 (.i .u8))]⟩,⟨[(19,.mw 16)],[(16,.sl 5 (.i .u8))]⟩,[63,18,51],[12,11],17,false,""⟩)]) [(82,kdg),(131,kau),(76,kiN),(75,kiW),(109,kdN),(74,kiR),(50,kby)] (.cons kgl <| .cons kax <| .cons kjO <| .cons kkg <| .cons kdI <| .cons kjR <| .cons kbl <| .nil) (fun x=>by kernel_rfl)
def keU (k:Nat):CtrM:=⟨ "",[some (.i .i64),some (.i .u8),some .b,none,none,none,none,none],⟨[(3,.ptr 0 0),(4,.ptr 1 0),(5,.ptr 2 0),(6,.ptr 3 0),(7,.ptr 4 0)],[(0,.bx 3 [.c (.i .i64)]),(1,.bx 5 [.c (.i .u8)]),(2,.bx 140 [.fn 89 [.ptr 0 0,.ptr 1 0,.ptr 2 0,.ptr 3 0,.ptr 4 0]]),(3,.bx 70 [.c (.sl (.sl (.i .i64)))]),(4,.bx 31 [.c (.sl (.i .i64))])]⟩,5,⟨[(3,.ptr 0 0),(4,.ptr 1 0),(5,.ptr 2 0),(6,.ptr 3 0),(7,.ptr 4 0),(1000000,.c .b)],[(0,.bx 3 [.c (.i .i64)]),(1,.bx 5 [.c (.i .u8)]),(2,.bx 140 [.fn 89 [.ptr 0 0,.ptr 1 0,.ptr 2 0,.ptr 3 0,.ptr 4 0]]),(3,.bx 70 [.c (.sl (.sl (.i .i64)))]),(4,.bx 31 [.c (.sl (.i .i64))])]⟩,5,1,fun x=>kft k x.1 x.2.1 x.2.2.1 x.2.2.2.1 x.2.2.2.2.1 x.2.2.2.2.2.1 x.2.2.2.2.2.2,false⟩
theorem khB:∀ k,(keU k).ok=true/\GoodM Tryz.prog 89 (keU k)
 | 0=>khv (by kernel_rfl) (fun x=>rfl)
 | k+1=>kao Tryz.func89 (by kernel_rfl) (An:=[(0,⟨⟨[(35,.c (.i .i64))],[(4,.bx 31 [.c (.sl (.i .i64))]),(2,.bx 140 [.fn 89 [.ptr 0 0,.ptr 1 0,.ptr 2 0,.ptr 3 0,.ptr 4 0]]),(0,.bx 3 [.c (.i .i64)]),(1,.bx 5 [.c (.i .u8)]),(3,.bx 70 [.c (.sl (.sl (.i .i64)))])]⟩,⟨[],[(4,.bx 31 [.c (.sl (.i .i64))]),(2,.bx 140 [.fn 89 [.ptr 0 0,.ptr 1 0,.ptr 2 0,.ptr 3 0,.ptr 4 0]]),(0,.bx 3 [.c (.i .i64)]),(1,.bx 5 [.c (.i .u8)]),(3,.bx 70 [.c (.sl (.sl (.i .i64)))])]⟩,[34,33,0,1,2],[],10,true,""⟩)]) ((89,⟨ "",[],[],fun _=>none,[keU k],[]⟩)::[]) (.cons (good_dm.more (khB k)) <| .nil) (fun x=>by kernel_rfl)
def box_Better_c1_m0_M:CtrM:=⟨ "",[some (.i .i64),some (.i .u8),some .b,none,none,none,none,none],⟨[(3,.ptr 0 0),(4,.ptr 1 0),(5,.ptr 2 0),(6,.ptr 3 0),(7,.ptr 4 0)],[(0,.bx 3 [.c (.i .i64)]),(1,.bx 5 [.c (.i .u8)]),(2,.bx 140 [.fn 89 [.ptr 0 0,.ptr 1 0,.ptr 2 0,.ptr 3 0,.ptr 4 0]]),(3,.bx 70 [.c (.sl (.sl (.i .i64)))]),(4,.bx 31 [.c (.sl (.i .i64))])]⟩,5,⟨[(3,.ptr 0 0),(4,.ptr 1 0),(5,.ptr 2 0),(6,.ptr 3 0),(7,.ptr 4 0),(1000000,.c .b)],[(0,.bx 3 [.c (.i .i64)]),(1,.bx 5 [.c (.i .u8)]),(2,.bx 140 [.fn 89 [.ptr 0 0,.ptr 1 0,.ptr 2 0,.ptr 3 0,.ptr 4 0]]),(3,.bx 70 [.c (.sl (.sl (.i .i64)))]),(4,.bx 31 [.c (.sl (.i .i64))])]⟩,5,1,fun x=>kjC x.1 x.2.1 x.2.2.1 x.2.2.2.1 x.2.2.2.2.1 x.2.2.2.2.2.1 x.2.2.2.2.2.2,false⟩
theorem kls:box_Better_c1_m0_M.ok=true/\GoodM Tryz.prog 89 box_Better_c1_m0_M:=khB 1000000
def box_Better_c1_C:Ctr:=⟨ "",[],[],fun _=>none,[],[]⟩
theorem box_Better_c1_C_ok:Good Tryz.prog 89 box_Better_c1_C:=good_dm
def kjg:Ctr:=⟨ "",box_Better_c1_C.as,box_Better_c1_C.rs,box_Better_c1_C.F,box_Better_c1_m0_M::box_Better_c1_C.mus,box_Better_c1_C.its⟩
theorem klU:Good Tryz.prog 89 kjg:=(box_Better_c1_C_ok.more kls)
def kmU:Ctr:=⟨ "",[(.sl (.sl (.i .i64))),(.sl (.i .i64)),(.i .u8)],[.b,(.i .i64)],fun x=>kjj x.1 x.2.1 x.2.2,[],[]⟩
theorem kpU:Good Tryz.prog 39 kmU:=
 kad Tryz.func39 (by kernel_rfl) (An:=[]) [(89,kjg),(83,kiV),(88,kmc)] (.cons klU <| .cons kjM <| .cons kms <| .nil) (fun x=>by kernel_rfl)
def kpP:Ctr:=⟨ "",[(.sl (.pr (.i .i64) (.pr (.i .u8) (.i .i64)))),(.sl (.pr (.i .i64) (.pr (.i .u8) (.i .i64)))),(.sl tSwap),(.sl (.i .i64))],[(.sl (.pr (.i .i64) (.pr (.i .i64) (.i .i64)))),(.i .i64)],fun x=>koO x.1 x.2.1 x.2.2.1 x.2.2.2,[],[]⟩
theorem krY:Good Tryz.prog 40 kpP:=
 kad Tryz.func40 (by kernel_rfl) (An:=[(0,⟨⟨[(38,.c (.i .i64))],[]⟩,⟨[],[]⟩,[37,36,1,3,10],[],1,true,""⟩),(8,⟨⟨[(54,.c (.i .i64))],[]⟩,⟨[],[]⟩,[53,52,10],[],1,true,""⟩),(0,⟨⟨[(38,.c (.i .i64))],[]⟩,⟨[],[]⟩,[37,36,1,3,10],[1,2,3,4],5,true,""⟩),(8,⟨⟨[(54,.c (.i .i64)),(10,.ptr 1 0)],[(1,.bx 134 [.c (.sl (.pr (.i .i64) (.pr (.i .u8) (.i .i64)))),.mw 2,.fw 3,.mw 4]),(2,.sl 31 (.sl (.i .i64))),(3,.fm 31 (.sl (.i .i64)) 0 3 (.i .i64)),(4,.sl 3 (.i .i64))]⟩,⟨[(10,.ptr 5 0)],[(5,.bx 134 [.c (.sl (.pr (.i .i64) (.pr (.i .u8) (.i .i64)))),.mw 6,.fw 7,.mw 8]),(6,.sl 31 (.sl (.i .i64))),(7,.fm 31 (.sl (.i .i64)) 0 3 (.i .i64)),(8,.sl 3 (.i .i64))]⟩,[53,52],[],9,true,""⟩),(16,⟨⟨[(71,.c (.i .i64)),(16,.mw 9)],[(9,.sl 90 (.pr (.i .i64) (.pr (.i .i64) (.i .i64))))]⟩,⟨[(16,.mw 10)],[(10,.sl 90 (.pr (.i .i64) (.pr (.i .i64) (.i .i64))))]⟩,[70,69],[7],11,false,""⟩),(24,⟨⟨[(78,.c (.i .i64)),(16,.mw 9)],[(9,.sl 90 (.pr (.i .i64) (.pr (.i .i64) (.i .i64))))]⟩,⟨[(16,.mw 10)],[(10,.sl 90 (.pr (.i .i64) (.pr (.i .i64) (.i .i64))))]⟩,[77,76,17,71],[],11,false,""⟩)]) [(58,kfs),(59,kek),(66,kdd)] (.cons keV <| .cons keT <| .cons kcg <| .nil) (fun x=>by kernel_rfl)
def kmE:Ctr:=⟨ "",[],[.b],fun x=>kjc,[],[]⟩
theorem law08_BoxExamples_C_ok:Good Tryz.prog 12 kmE:=
 kad Tryz.func12 (by kernel_rfl) (An:=[]) [(8000024,kak),(8000026,kak),(8000032,kak),(8000035,kak),(8000042,kak),(8000050,kak),(8000052,kak),(8000054,kak),(8000066,kak),(8000068,kak),(8000083,kak),(8000103,kak),(8000130,kak),(8000135,kak),(8000141,kak),(8000144,kak),(8000150,kak),(8000153,kak),(8000159,kak),(8000162,kak),(8000167,kak),(8000168,kak),(8000169,kak),(8000170,kak),(8000175,kak),(8000176,kak),(8000177,kak),(8000178,kak),(8000183,kak),(8000184,kak),(8000185,kak),(8000186,kak),(8000191,kak),(8000192,kak),(8000193,kak),(8000240,kak),(40,kpP),(39,kmU),(33,koB),(32,kkx),(13,kml),(41,kgQ),(16,kfZ),(35,kkN),(17,kpI),(46,kiM),(23,kmK),(19,kmg),(48,kej),(45,kjJ),(44,kin),(15,knA),(47,kiq),(43,kfB)] (.cons kae <| .cons kae <| .cons kae <| .cons kae <| .cons kae <| .cons kae <| .cons kae <| .cons kae <| .cons kae <| .cons kae <| .cons kae <| .cons kae <| .cons kae <| .cons kae <| .cons kae <| .cons kae <| .cons kae <| .cons kae <| .cons kae <| .cons kae <| .cons kae <| .cons kae <| .cons kae <| .cons kae <| .cons kae <| .cons kae <| .cons kae <| .cons kae <| .cons kae <| .cons kae <| .cons kae <| .cons kae <| .cons kae <| .cons kae <| .cons kae <| .cons kae <| .cons krY <| .cons kpU <| .cons kqT <| .cons knG <| .cons kpz <| .cons khU <| .cons khz <| .cons klq <| .cons box_Take_C_ok <| .cons kjY <| .cons knk <| .cons kmn <| .cons keJ <| .cons kkC <| .cons kjb <| .cons kmO <| .cons kig <| .cons keW <| .nil) (fun x=>by kernel_rfl)
end Go.Abs
namespace Go.Abs
open Go
theorem law08_BoxExamples_eq:kjc=some true:=by kernel_rfl
end Go.Abs
