/- The functions and the law, part 7. -/
import Derived.Test.YtcpnbpelcdjpdaaProg
import Derived.Laws.RangeAny
import Derived.Test.YtcpnbpelcdjpdaaZ3
import Derived.Test.YtcpnbpelcdjpdaaZ6
set_option linter.constructorNameAsVariable false
set_option linter.unusedVariables false
set_option linter.unusedSimpArgs false
set_option linter.unusedSectionVars false
namespace Go.Abs
open Go
@[reducible] def tSub:Ty:=(.pr .s (.sl (.pr (.i .i64) (.pr (.i .i64) (.pr (.pr (.i .i64) (.pr (.i .i64) (.i .i64))) (.pr (.i .u8) (.i .u8)))))))
abbrev Sub:=(List UInt8×(List (Int×Int×(Int×Int×Int)×Int×Int)))
@[reducible] def kry:Ty:=(.pr (.i .i64) (.pr (.pr (.i .i64) (.pr (.i .i64) (.i .i64))) (.pr (.i .u8) (.i .u8))))
abbrev Brick:=(Int×(Int×Int×Int)×Int×Int)
@[reducible] def tLine:Ty:=(.pr (.i .i64) kry)
abbrev Line:=(Int×Brick)
def kcY (x0:(List Sub)) (v0:Int):Option (Int⊕(Bool⊕Unit)):=
 (if (decide (v0<(lenI x0)))=true then ((gi x0 v0).bind fun v1=>(if (decide (30<(lenI v1.2)))=true then (some (.inr (.inl true))) else ((gi x0 v0).bind fun v2=>(if (decide (100<(lenI v2.1)))=true then (some (.inr (.inl true))) else (some (.inl (w64 (v0+1)))))))) else (some (.inr (.inr ()))))
def kek (x0:(List Sub)):Option Bool:=
 (if (decide (12<(lenI x0)))=true then (some true) else ((iter (kcY x0) 0).bind fun v3=>(match v3 with | .inl v4=>(some v4) | .inr v5=>(some false))))
def klA (x0:(List Sub)) (v0:(Int×(List Sub))):Option ((Int×(List Sub))⊕(List Sub)):=
 (if (decide (v0.1<(lenI x0)))=true then ((gi x0 v0.1).bind fun v1=>((gi x0 v0.1).bind fun v2=>((gapp [] v2.2).bind fun v3=>((gapp v0.2 [(v1.1,v3)]).bind fun v4=>(some (.inl ((w64 (v0.1+1)),v4))))))) else (some (.inr v0.2)))
def koU (x0:(List Sub)):Option (List Sub):=
 ((iter (klA x0) (0,[])).bind fun v5=>(some v5))
def kdJ (x0:Int) (x1:Int) (x2:Int):Option Bool:=
 (if (decide (x0<x1))=true then (some true) else (some (decide (x2<x0))))
def kaH (x0:(List Int)) (x1:(Int→Option Bool)) (v0:Int):Option (Int⊕(Int⊕Unit)):=
 (if (decide (v0<(lenI x0)))=true then ((gi x0 v0).bind fun v1=>((x1 v1).bind fun v2=>(if v2=true then (some (.inr (.inl v0))) else (some (.inl (w64 (v0+1))))))) else (some (.inr (.inr ()))))
def kbp (x0:(List Int)) (x1:(Int→Option Bool)):Option Int:=
 ((iter (kaH x0 x1) 0).bind fun v3=>(match v3 with | .inl v4=>(some v4) | .inr v5=>(some (-1))))
def kaI (x0:(List Int)) (x1:(Int→Option Bool)):Option Bool:=
 ((kbp x0 x1).bind fun v0=>(some (decide (0≤v0))))
def kbm (x0:Int) (x1:Int) (x2:(List Int)):Option Bool:=
 ((kaI x2 (fun (u0:Int)=>((kdJ u0 x0 x1).bind fun u1=>(some u1)))).bind fun v0=>(some (!v0)))
def kby (v0:(List UInt8×Int)):Option ((List UInt8×Int)⊕(Bool⊕Unit)):=
 (if (decide (v0.2<(lenI v0.1)))=true then ((if (decide (97≤(runeV v0)))=true then (some (decide ((runeV v0)≤122))) else (some false)).bind fun v1=>(if v1=true then (some (.inl (runeN v0))) else (if (v0.2==0)=true then (some (.inr (.inl false))) else (if ((runeV v0) != 45)=true then (if (decide ((runeV v0)<48))=true then (some (.inr (.inl false))) else (if (decide (57<(runeV v0)))=true then (some (.inr (.inl false))) else (some (.inl (runeN v0))))) else (some (.inl (runeN v0))))))) else (some (.inr (.inr ()))))
def kel (x0:List UInt8):Option Bool:=
 ((iter (kby) (x0,0)).bind fun v2=>(match v2 with | .inl v3=>(some v3) | .inr v4=>((kbm 1 12 [(lenI x0)]).bind fun v5=>(some v5))))
def kfH (x0:(Int×Int×Int)):Option Bool:=
 ((kbm (-1000) 1000 [x0.1,x0.2.1,x0.2.2]).bind fun v0=>(some v0))
def kbM (x0:(List Sub)) (v1:(Int×(List (List UInt8×Bool)))) (v2:Sub) (v4:Int):Option (Int⊕(Int⊕Unit)):=
 (if (decide (v4<(lenI v2.2)))=true then ((gi v2.2 v4).bind fun v5=>((if (v5.1==(-1))=true then ((kbm 0 15 [v5.2.1]).bind fun v6=>(if v6=true then (some true) else ((kbm (w64 (v1.1+1)) (w64 ((lenI x0)-1)) [v5.1]).bind fun v7=>(if v7=true then (some (v5.2.1==0)) else (some false))))) else ((kbm (w64 (v1.1+1)) (w64 ((lenI x0)-1)) [v5.1]).bind fun v8=>(if v8=true then (some (v5.2.1==0)) else (some false)))).bind fun v9=>(if (!v9)=true then (some (.inr (.inl 8))) else ((kfH v5.2.2.1).bind fun v10=>(if (!v10)=true then (some (.inr (.inl 8))) else (if (decide (24≤v5.2.2.2.1))=true then (some (.inr (.inl 8))) else (if (decide (15<v5.2.2.2.2))=true then (some (.inr (.inl 8))) else (some (.inl (w64 (v4+1))))))))))) else (some (.inr (.inr ()))))
def kdr (x0:(List Sub)) (v1:(Int×(List (List UInt8×Bool)))):Option ((Int×(List (List UInt8×Bool)))⊕(Int⊕Unit)):=
 (if (decide (v1.1<(lenI x0)))=true then ((gi x0 v1.1).bind fun v2=>((kel v2.1).bind fun v3=>(if (!v3)=true then (some (.inr (.inl 8))) else (if ((mget v1.2 v2.1).getD false)=true then (some (.inr (.inl 8))) else (if (decide (20<(lenI v2.2)))=true then (some (.inr (.inl 8))) else ((iter (kbM x0 v1 v2) 0).bind fun v11=>(match v11 with | .inl v12=>(some (.inr (.inl v12))) | .inr v13=>(some (.inl ((w64 (v1.1+1)),(mput v1.2 v2.1 true))))))))))) else (some (.inr (.inr ()))))
def kci (x0:(List Sub)):Option Int:=
 ((kbm 1 8 [(lenI x0)]).bind fun v0=>(if (!v0)=true then (some 8) else ((iter (kdr x0) (0,[])).bind fun v14=>(match v14 with | .inl v15=>(some v15) | .inr v16=>(some 0)))))
def kcs (x0:Int) (x1:(List Bool)):Option Bool:=
 ((gi x1 x0).bind fun v0=>(some v0))
def kdx (x0:(List Line)):Option (List Line):=
 (if (isE x0)=true then (bthO (.sl tLine) (some []) ((gapp [] x0).bind fun v0=>(some v0))) else ((gapp [] x0).bind fun v1=>(some v1)))
def kbI (rec_text_Prune_c1_m0:Int→(List Bool)→(List Sub)→Option ((List Bool)×(List Sub))) (v3:Sub) (v4:(Int×(List Bool)×(List Sub))):Option ((Int×(List Bool)×(List Sub))⊕((List Bool)×(List Sub))):=
 (if (decide (v4.1<(lenI v3.2)))=true then ((gi v3.2 v4.1).bind fun v5=>(if (decide (0≤v5.1))=true then ((rec_text_Prune_c1_m0 v5.1 v4.2.1 v4.2.2).bind fun v6=>(some (.inl ((w64 (v4.1+1)),v6)))) else (some (.inl ((w64 (v4.1+1)),v4.2))))) else (some (.inr v4.2)))
def ket (rec_text_Prune_c1_m0:Int→(List Bool)→(List Sub)→Option ((List Bool)×(List Sub))) (x0:Int) (x1:(List Bool)) (x2:(List Sub)):Option ((List Bool)×(List Sub)):=
 ((gi x1 x0).bind fun v0=>((gi x1 x0).bind fun v1=>(if v1=true then (some (x1,x2)) else ((gi x1 x0).bind fun v2=>((gi x2 x0).bind fun v3=>((iter (kbI rec_text_Prune_c1_m0 v3) (0,(lset x1 x0 true),x2)).bind fun v7=>(some v7)))))))
def kaW:Nat→Int→(List Bool)→(List Sub)→Option ((List Bool)×(List Sub))
 | 0,_,_,_=>none
 | k+1,x0,x1,x2=>ket (kaW k) x0 x1 x2
def kco (x0:Int) (x1:(List Bool)) (x2:(List Sub)):Option ((List Bool)×(List Sub)):=kaW 1000000 x0 x1 x2
def kap (x0:(List Line)):Option (List Line):=
 (if (isE x0)=true then (bthO (.sl tLine) (some []) ((gapp [] x0).bind fun v0=>(some v0))) else ((gapp [] x0).bind fun v1=>(some v1)))
def kjz (x0:(List Sub)) (x1:(List Bool)) (v0:(Int×(List (Int×Int))×(List Sub))):Option ((Int×(List (Int×Int))×(List Sub))⊕((List Sub)×(List (Int×Int)))):=
 (if (decide (v0.1<(lenI x0)))=true then ((gi x0 v0.1).bind fun v1=>((kcs v0.1 x1).bind fun v2=>(if v2=true then ((kap v1.2).bind fun v3=>((gapp v0.2.2 [(v1.1,v3)]).bind fun v4=>(some (.inl ((w64 (v0.1+1)),(mput v0.2.1 v0.1 (lenI v0.2.2)),v4))))) else (some (.inl ((w64 (v0.1+1)),v0.2)))))) else (some (.inr (v0.2.2,v0.2.1))))
def kjN (v5:((List Sub)×(List (Int×Int)))) (v6:(Int×(List Sub))) (v9:Sub) (v10:(Int×(List Sub))):Option ((Int×(List Sub))⊕(List Sub)):=
 (if (decide (v10.1<(lenI v9.2)))=true then ((gi v10.2 v6.1).bind fun v11=>((gi v11.2 v10.1).bind fun v12=>((gi v10.2 v6.1).bind fun v13=>((gi v13.2 v10.1).bind fun v14=>(if (decide (0≤v14.1))=true then ((gi v10.2 v6.1).bind fun v15=>((gi v15.2 v10.1).bind fun v16=>((gi v10.2 v6.1).bind fun v17=>((gi v17.2 v10.1).bind fun v18=>(some (.inl ((w64 (v10.1+1)),(lset v10.2 v6.1 (v17.1,(lset v17.2 v10.1 (((mget v5.2 v14.1).getD 0),v18.2))))))))))) else (some (.inl ((w64 (v10.1+1)),v10.2)))))))) else (some (.inr v10.2)))
def kjR (v5:((List Sub)×(List (Int×Int)))) (v6:(Int×(List Sub))):Option ((Int×(List Sub))⊕(List Sub)):=
 (if (decide (v6.1<(lenI v5.1)))=true then ((gi v6.2 v6.1).bind fun v7=>((gi v6.2 v6.1).bind fun v8=>((gi v6.2 v6.1).bind fun v9=>((iter (kjN v5 v6 v9) (0,v6.2)).bind fun v19=>(some (.inl ((w64 (v6.1+1)),v19))))))) else (some (.inr v6.2)))
def kic (x0:(List Sub)) (x1:(List Bool)):Option (List Sub):=
 ((iter (kjz x0 x1) (0,[],[])).bind fun v5=>((iter (kjR v5) (0,v5.1)).bind fun v20=>(some v20)))
def koD (x0:(List Sub)):Option ((List Sub)×Int):=
 ((kci x0).bind fun v0=>(if (v0 != 0)=true then (some ([],v0)) else ((gmk (lenI x0) false).bind fun v1=>((kco 0 v1 x0).bind fun v2=>((kic v2.2 v2.1).bind fun v3=>(some (v3,0)))))))
def kbL (x0:List UInt8) (v0:Int):Option (Int⊕(Bool⊕Unit)):=
 (if (decide (v0<(lenI x0)))=true then (((gstr x0 v0).bind fun v1=>(if (decide (97≤v1))=true then ((gstr x0 v0).bind fun v2=>(some (decide (v2≤122)))) else (some false))).bind fun v3=>(if (!v3)=true then (if (v0==0)=true then (some (.inr (.inl false))) else ((gstr x0 v0).bind fun v4=>(if (v4 != 45)=true then ((gstr x0 v0).bind fun v5=>(if (decide (v5<48))=true then (some (.inr (.inl false))) else ((gstr x0 v0).bind fun v6=>(if (decide (57<v6))=true then (some (.inr (.inl false))) else (some (.inl (w64 (v0+1)))))))) else (some (.inl (w64 (v0+1))))))) else (some (.inl (w64 (v0+1)))))) else (some (.inr (.inr ()))))
def kdI (x0:List UInt8):Option Bool:=
 ((iter (kbL x0) 0).bind fun v7=>(match v7 with | .inl v8=>(some v8) | .inr v9=>(if (decide (1≤(lenI x0)))=true then (some (decide ((lenI x0)≤12))) else (some false))))
def kdn (x0:(List Sub)) (x1:List UInt8) (v0:Int):Option (Int⊕(Int⊕Unit)):=
 (if (decide (v0<(lenI x0)))=true then ((gi x0 v0).bind fun v1=>(if (v1.1==x1)=true then (some (.inr (.inl v0))) else (some (.inl (w64 (v0+1)))))) else (some (.inr (.inr ()))))
def kdT (x0:(List Sub)) (x1:List UInt8):Option Int:=
 ((iter (kdn x0 x1) 0).bind fun v2=>(match v2 with | .inl v3=>(some v3) | .inr v4=>(some (-1))))
def kaY (x0:Int) (x1:Int) (x2:Int):Option Bool:=
 (if (decide (x1≤x0))=true then (some (decide (x0≤x2))) else (some false))
def keG (x0:(Int×Int×Int)):Option Bool:=
 ((kaY x0.1 (-1000) 1000).bind fun v0=>(if v0=true then ((kaY x0.2.1 (-1000) 1000).bind fun v1=>(if v1=true then ((kaY x0.2.2 (-1000) 1000).bind fun v2=>(some v2)) else (some false))) else (some false)))
def keL (x0:(List Sub)) (x1:Int) (x2:Line):Option Bool:=
 ((keG x2.2.2.1).bind fun v0=>(if (!v0)=true then (some false) else (if (decide (23<x2.2.2.2.1))=true then (some false) else (if (decide (15<x2.2.2.2.2))=true then (some false) else (if (x2.1==(-1))=true then ((kaY x2.2.1 0 15).bind fun v1=>(some v1)) else ((kaY x2.1 (w64 (x1+1)) (w64 ((lenI x0)-1))).bind fun v2=>(if v2=true then (some (x2.2.1==0)) else (some false))))))))
def kca (x0:(List Sub)) (v0:Int) (v1:Sub) (v4:Int):Option (Int⊕(Bool⊕Unit)):=
 (if (decide (v4<(lenI v1.2)))=true then ((gi v1.2 v4).bind fun v5=>((keL x0 v0 v5).bind fun v6=>(if (!v6)=true then (some (.inr (.inl false))) else (some (.inl (w64 (v4+1))))))) else (some (.inr (.inr ()))))
def kcT (x0:(List Sub)) (v0:Int):Option (Int⊕(Bool⊕Unit)):=
 (if (decide (v0<(lenI x0)))=true then ((gi x0 v0).bind fun v1=>((kdI v1.1).bind fun v2=>(if (!v2)=true then (some (.inr (.inl false))) else (if (decide (20<(lenI v1.2)))=true then (some (.inr (.inl false))) else ((kdT x0 v1.1).bind fun v3=>(if (v3 != v0)=true then (some (.inr (.inl false))) else ((iter (kca x0 v0 v1) 0).bind fun v7=>(match v7 with | .inl v8=>(some (.inr (.inl v8))) | .inr v9=>(some (.inl (w64 (v0+1)))))))))))) else (some (.inr (.inr ()))))
def kcw (x0:(List Sub)):Option Bool:=
 (if (decide ((lenI x0)<1))=true then (some false) else (if (decide (8<(lenI x0)))=true then (some false) else ((iter (kcT x0) 0).bind fun v10=>(match v10 with | .inl v11=>(some v11) | .inr v12=>(some true)))))
def kcn (x0:(List Sub)) (v0:(Int×(List Sub))):Option ((Int×(List Sub))⊕(List Sub)):=
 (if (decide (v0.1<(lenI x0)))=true then ((gi x0 v0.1).bind fun v1=>((gi x0 v0.1).bind fun v2=>((gapp [] v2.2).bind fun v3=>((gapp v0.2 [(v1.1,v3)]).bind fun v4=>(some (.inl ((w64 (v0.1+1)),v4))))))) else (some (.inr v0.2)))
def kbq (x0:(List Sub)):Option (List Sub):=
 ((iter (kcn x0) (0,[])).bind fun v5=>(some v5))
def khb (x0:(List Sub)) (x1:(List Bool)) (v1:(Int×(List Int)×(List Sub))):Option ((Int×(List Int)×(List Sub))⊕((List Sub)×(List Int))):=
 (if (decide (v1.1<(lenI x0)))=true then ((gi v1.2.1 v1.1).bind fun v2=>((gi x1 v1.1).bind fun v3=>((gi x1 v1.1).bind fun v4=>(if (!v4)=true then ((gi x0 v1.1).bind fun v5=>((gapp v1.2.2 [v5]).bind fun v6=>(some (.inl ((w64 (v1.1+1)),(lset v1.2.1 v1.1 (lenI v1.2.2)),v6))))) else (some (.inl ((w64 (v1.1+1)),(lset v1.2.1 v1.1 (lenI v1.2.2)),v1.2.2))))))) else (some (.inr (v1.2.2,v1.2.1))))
def khi (v7:((List Sub)×(List Int))) (v9:(Int×(List Sub))) (v10:(Int×(List Sub))):Option ((Int×(List Sub))⊕(List Sub)):=
 ((gi v10.2 v9.1).bind fun v11=>((gi v10.2 v9.1).bind fun v12=>((gi v10.2 v9.1).bind fun v13=>(if (decide (v10.1<(lenI v13.2)))=true then ((gi v10.2 v9.1).bind fun v14=>((gi v10.2 v9.1).bind fun v15=>((gi v10.2 v9.1).bind fun v16=>((gi v16.2 v10.1).bind fun v17=>((gi v10.2 v9.1).bind fun v18=>((gi v18.2 v10.1).bind fun v19=>(if (decide (0≤v19.1))=true then ((gi v7.2 v19.1).bind fun v20=>((gi v7.2 v19.1).bind fun v21=>((gi v10.2 v9.1).bind fun v22=>((gi v10.2 v9.1).bind fun v23=>((gi v10.2 v9.1).bind fun v24=>((gi v24.2 v10.1).bind fun v25=>((gi v10.2 v9.1).bind fun v26=>((gi v26.2 v10.1).bind fun v27=>(some (.inl ((w64 (v10.1+1)),(lset v10.2 v9.1 (v26.1,(lset v26.2 v10.1 (v21,v19.2))))))))))))))) else (some (.inl ((w64 (v10.1+1)),v10.2)))))))))) else (some (.inr v10.2))))))
def khk (v7:((List Sub)×(List Int))) (v9:(Int×(List Sub))):Option ((Int×(List Sub))⊕(List Sub)):=
 (if (decide (v9.1<(lenI v9.2)))=true then ((iter (khi v7 v9) (0,v9.2)).bind fun v28=>(some (.inl ((w64 (v9.1+1)),v28)))) else (some (.inr v9.2)))
def kfi (x0:(List Sub)) (x1:(List Bool)):Option ((List Bool)×(List Sub)):=
 ((gmk (lenI x0) 0).bind fun v0=>((iter (khb x0 x1) (0,v0,[])).bind fun v7=>((kbq v7.1).bind fun v8=>((iter (khk v7) (0,v8)).bind fun v29=>(some (x1,v29))))))
def kky (v2:(Int×(List Bool))):Option ((Int×(List Bool))⊕(List Bool)):=
 (if (decide (v2.1<(lenI v2.2)))=true then ((gi v2.2 v2.1).bind fun v3=>(some (.inl ((w64 (v2.1+1)),(lset v2.2 v2.1 true))))) else (some (.inr v2.2)))
def kkc (x0:(List Sub)) (v5:(Int×(List Bool))) (v6:(Int×(List Bool))):Option ((Int×(List Bool))⊕(List Bool)):=
 ((gi v6.2 v5.1).bind fun v7=>((gi v6.2 v5.1).bind fun v8=>(if (!v8)=true then ((gi x0 v5.1).bind fun v9=>(if (decide (v6.1<(lenI v9.2)))=true then ((gi x0 v5.1).bind fun v10=>((gi v10.2 v6.1).bind fun v11=>(if (decide (0≤v11.1))=true then ((gi x0 v5.1).bind fun v12=>((gi v12.2 v6.1).bind fun v13=>((gi v6.2 v13.1).bind fun v14=>(some (.inl ((w64 (v6.1+1)),(lset v6.2 v13.1 false))))))) else (some (.inl ((w64 (v6.1+1)),v6.2)))))) else (some (.inr v6.2)))) else (some (.inr v6.2)))))
def kko (x0:(List Sub)) (v5:(Int×(List Bool))):Option ((Int×(List Bool))⊕(List Bool)):=
 (if (decide (v5.1<(lenI x0)))=true then ((iter (kkc x0 v5) (0,v5.2)).bind fun v15=>(some (.inl ((w64 (v5.1+1)),v15)))) else (some (.inr v5.2)))
def knZ (x0:(List Sub)):Option ((List Sub)×Int):=
 ((kcw x0).bind fun v0=>(if (!v0)=true then (some ([],8)) else ((gmk (lenI x0) false).bind fun v1=>((iter (kky) (1,v1)).bind fun v4=>((iter (kko x0) (0,v4)).bind fun v16=>((kfi x0 v16).bind fun v17=>(some (v17.2,0))))))))
def keg (x0:Int):Option Bool:=
 (some true)
def kdm (v5:(List UInt8×(List Line)×Sub)) (v6:Int):Option (Int⊕(Bool⊕Unit)):=
 (if (decide (v6<(lenI v5.2.1)))=true then ((gi v5.2.1 v6).bind fun v7=>((gi v5.2.2.2 v6).bind fun v8=>(if (!((v7.1==v8.1)&&((v7.2.1==v8.2.1)&&(((v7.2.2.1.1==v8.2.2.1.1)&&((v7.2.2.1.2.1==v8.2.2.1.2.1)&&(v7.2.2.1.2.2==v8.2.2.1.2.2)))&&((v7.2.2.2.1==v8.2.2.2.1)&&(v7.2.2.2.2==v8.2.2.2.2))))))=true then (some (.inr (.inl false))) else (some (.inl (w64 (v6+1))))))) else (some (.inr (.inr ()))))
def kdq (x0:(List Sub)) (x1:(List Sub)) (v0:Int):Option (Int⊕(Bool⊕Unit)):=
 (if (decide (v0<(lenI x0)))=true then ((bthO (.pr .s (.pr (.sl tLine) tSub)) ((gi x0 v0).bind fun v1=>((gi x1 v0).bind fun v2=>(some (v1.1,v1.2,v2)))) ((gi x0 v0).bind fun v3=>((gi x1 v0).bind fun v4=>(some (v3.1,v3.2,v4))))).bind fun v5=>(if (!(v5.1==v5.2.2.1))=true then (some (.inr (.inl false))) else (if ((lenI v5.2.1) != (lenI v5.2.2.2))=true then (some (.inr (.inl false))) else ((iter (kdm v5) 0).bind fun v9=>(match v9 with | .inl v10=>(some (.inr (.inl v10))) | .inr v11=>(some (.inl (w64 (v0+1))))))))) else (some (.inr (.inr ()))))
def kcQ (x0:(List Sub)) (x1:(List Sub)):Option Bool:=
 (if ((lenI x0) != (lenI x1))=true then (some false) else ((iter (kdq x0 x1) 0).bind fun v12=>(match v12 with | .inl v13=>(some v13) | .inr v14=>(some true))))
def kcz (x0:(List Sub)) (x1:(Int→Option Bool)) (v0:(Int×(List (Int×Int))×(List Sub))):Option ((Int×(List (Int×Int))×(List Sub))⊕((List Sub)×(List (Int×Int)))):=
 (if (decide (v0.1<(lenI x0)))=true then ((gi x0 v0.1).bind fun v1=>((x1 v0.1).bind fun v2=>(if v2=true then ((kap v1.2).bind fun v3=>((gapp v0.2.2 [(v1.1,v3)]).bind fun v4=>(some (.inl ((w64 (v0.1+1)),(mput v0.2.1 v0.1 (lenI v0.2.2)),v4))))) else (some (.inl ((w64 (v0.1+1)),v0.2)))))) else (some (.inr (v0.2.2,v0.2.1))))
def kbW (v5:((List Sub)×(List (Int×Int)))) (v6:(Int×(List Sub))) (v9:Sub) (v10:(Int×(List Sub))):Option ((Int×(List Sub))⊕(List Sub)):=
 (if (decide (v10.1<(lenI v9.2)))=true then ((gi v10.2 v6.1).bind fun v11=>((gi v11.2 v10.1).bind fun v12=>((gi v10.2 v6.1).bind fun v13=>((gi v13.2 v10.1).bind fun v14=>(if (decide (0≤v14.1))=true then ((gi v10.2 v6.1).bind fun v15=>((gi v15.2 v10.1).bind fun v16=>((gi v10.2 v6.1).bind fun v17=>((gi v17.2 v10.1).bind fun v18=>(some (.inl ((w64 (v10.1+1)),(lset v10.2 v6.1 (v17.1,(lset v17.2 v10.1 (((mget v5.2 v14.1).getD 0),v18.2))))))))))) else (some (.inl ((w64 (v10.1+1)),v10.2)))))))) else (some (.inr v10.2)))
def kcy (v5:((List Sub)×(List (Int×Int)))) (v6:(Int×(List Sub))):Option ((Int×(List Sub))⊕(List Sub)):=
 (if (decide (v6.1<(lenI v5.1)))=true then ((gi v6.2 v6.1).bind fun v7=>((gi v6.2 v6.1).bind fun v8=>((gi v6.2 v6.1).bind fun v9=>((iter (kbW v5 v6 v9) (0,v6.2)).bind fun v19=>(some (.inl ((w64 (v6.1+1)),v19))))))) else (some (.inr v6.2)))
def kcb (x0:(List Sub)) (x1:(Int→Option Bool)):Option (List Sub):=
 ((iter (kcz x0 x1) (0,[],[])).bind fun v5=>((iter (kcy v5) (0,v5.1)).bind fun v20=>(some v20)))
def kds (x0:(List Sub)):Option (Int×(List Sub)):=
 ((kci x0).bind fun v0=>(if (v0 != 0)=true then (some (v0,[])) else ((gmk (lenI x0) false).bind fun v1=>((kco 0 v1 x0).bind fun v2=>((kcb v2.2 (fun (u0:Int)=>((kcs u0 v2.1).bind fun u1=>(some u1)))).bind fun v3=>(some (0,v3)))))))
def kbH (x0:(List Sub)) (x1:(List Bool)) (v1:(Int×(List Int)×(List Sub))):Option ((Int×(List Int)×(List Sub))⊕((List Sub)×(List Int))):=
 (if (decide (v1.1<(lenI x0)))=true then ((gi v1.2.1 v1.1).bind fun v2=>((gi x1 v1.1).bind fun v3=>(if (!v3)=true then ((gi x0 v1.1).bind fun v4=>((gapp v1.2.2 [v4]).bind fun v5=>(some (.inl ((w64 (v1.1+1)),(lset v1.2.1 v1.1 (lenI v1.2.2)),v5))))) else (some (.inl ((w64 (v1.1+1)),(lset v1.2.1 v1.1 (lenI v1.2.2)),v1.2.2)))))) else (some (.inr (v1.2.2,v1.2.1))))
def kbc (v6:((List Sub)×(List Int))) (v8:(Int×(List Sub))) (v9:(Int×(List Sub))):Option ((Int×(List Sub))⊕(List Sub)):=
 ((gi v9.2 v8.1).bind fun v10=>((gi v9.2 v8.1).bind fun v11=>((gi v9.2 v8.1).bind fun v12=>(if (decide (v9.1<(lenI v12.2)))=true then ((gi v9.2 v8.1).bind fun v13=>((gi v9.2 v8.1).bind fun v14=>((gi v9.2 v8.1).bind fun v15=>((gi v15.2 v9.1).bind fun v16=>((gi v9.2 v8.1).bind fun v17=>((gi v17.2 v9.1).bind fun v18=>(if (decide (0≤v18.1))=true then ((gi v6.2 v18.1).bind fun v19=>((gi v6.2 v18.1).bind fun v20=>((gi v9.2 v8.1).bind fun v21=>((gi v9.2 v8.1).bind fun v22=>((gi v9.2 v8.1).bind fun v23=>((gi v23.2 v9.1).bind fun v24=>((gi v9.2 v8.1).bind fun v25=>((gi v25.2 v9.1).bind fun v26=>(some (.inl ((w64 (v9.1+1)),(lset v9.2 v8.1 (v25.1,(lset v25.2 v9.1 (v20,v18.2))))))))))))))) else (some (.inl ((w64 (v9.1+1)),v9.2)))))))))) else (some (.inr v9.2))))))
def kbG (v6:((List Sub)×(List Int))) (v8:(Int×(List Sub))):Option ((Int×(List Sub))⊕(List Sub)):=
 (if (decide (v8.1<(lenI v8.2)))=true then ((iter (kbc v6 v8) (0,v8.2)).bind fun v27=>(some (.inl ((w64 (v8.1+1)),v27)))) else (some (.inr v8.2)))
def kcl (x0:(List Sub)) (x1:(List Bool)):Option (List Sub):=
 ((gmk (lenI x0) 0).bind fun v0=>((iter (kbH x0 x1) (0,v0,[])).bind fun v6=>((kbq v6.1).bind fun v7=>((iter (kbG v6) (0,v7)).bind fun v28=>(some v28)))))
def kbs (v2:(Int×(List Bool))):Option ((Int×(List Bool))⊕(List Bool)):=
 (if (decide (v2.1<(lenI v2.2)))=true then ((gi v2.2 v2.1).bind fun v3=>(some (.inl ((w64 (v2.1+1)),(lset v2.2 v2.1 true))))) else (some (.inr v2.2)))
def kba (x0:(List Sub)) (v5:(Int×(List Bool))) (v6:(Int×(List Bool))):Option ((Int×(List Bool))⊕(List Bool)):=
 ((gi v6.2 v5.1).bind fun v7=>((gi v6.2 v5.1).bind fun v8=>(if (!v8)=true then ((gi x0 v5.1).bind fun v9=>(if (decide (v6.1<(lenI v9.2)))=true then ((gi x0 v5.1).bind fun v10=>((gi v10.2 v6.1).bind fun v11=>(if (decide (0≤v11.1))=true then ((gi x0 v5.1).bind fun v12=>((gi v12.2 v6.1).bind fun v13=>((gi v6.2 v13.1).bind fun v14=>(some (.inl ((w64 (v6.1+1)),(lset v6.2 v13.1 false))))))) else (some (.inl ((w64 (v6.1+1)),v6.2)))))) else (some (.inr v6.2)))) else (some (.inr v6.2)))))
def kbr (x0:(List Sub)) (v5:(Int×(List Bool))):Option ((Int×(List Bool))⊕(List Bool)):=
 (if (decide (v5.1<(lenI x0)))=true then ((iter (kba x0 v5) (0,v5.2)).bind fun v15=>(some (.inl ((w64 (v5.1+1)),v15)))) else (some (.inr v5.2)))
def kcX (x0:(List Sub)):Option (Int×(List Sub)):=
 ((kcw x0).bind fun v0=>(if (!v0)=true then (some (8,[])) else ((gmk (lenI x0) false).bind fun v1=>((iter (kbs) (1,v1)).bind fun v4=>((iter (kbr x0) (0,v4)).bind fun v16=>((kcl x0 v16).bind fun v17=>(some (0,v17))))))))
def kcR (x0:(List Sub)) (x1:Int) (x2:List UInt8):Option (Int×(List Sub)):=
 ((kci x0).bind fun v0=>(if (v0 != 0)=true then (some (v0,[])) else ((kbm 0 (w64 ((lenI x0)-1)) [x1]).bind fun v1=>(if (!v1)=true then (some (2,[])) else ((kcb x0 (fun (u0:Int)=>((keg u0).bind fun u1=>(some u1)))).bind fun v2=>((gi v2 x1).bind fun v3=>((gi v2 x1).bind fun v4=>((kci (lset v2 x1 (x2,v4.2))).bind fun v5=>(if (v5 != 0)=true then (some (21,[])) else (some (0,(lset v2 x1 (x2,v4.2)))))))))))))
def kcj (x0:(List Sub)) (x1:Int) (x2:List UInt8):Option (Int×(List Sub)):=
 ((kcw x0).bind fun v0=>(if (!v0)=true then (some (8,[])) else ((kaY x1 0 (w64 ((lenI x0)-1))).bind fun v1=>(if (!v1)=true then (some (2,[])) else ((kdT x0 x2).bind fun v2=>(((kdI x2).bind fun v3=>(if (!v3)=true then (some true) else (if (decide (0≤v2))=true then (some (v2 != x1)) else (some false)))).bind fun v4=>(if v4=true then (some (21,[])) else ((kbq x0).bind fun v5=>((gi v5 x1).bind fun v6=>((gi v5 x1).bind fun v7=>((gi v5 x1).bind fun v8=>((gi v5 x1).bind fun v9=>((gsame x1 x1).bind fun v10=>(some (0,(lset v5 x1 (x2,v9.2)))))))))))))))))
def kbP (v0:(Int×(List Sub))) (v3:Sub) (v4:(Int×(List Sub))):Option ((Int×(List Sub))⊕(List Sub)):=
 (if (decide (v4.1<(lenI v3.2)))=true then ((gi v4.2 v0.1).bind fun v5=>((gi v4.2 v0.1).bind fun v6=>((gi v4.2 v0.1).bind fun v7=>((gi v7.2 v4.1).bind fun v8=>((gi v4.2 v0.1).bind fun v9=>((gi v9.2 v4.1).bind fun v10=>(some (.inl ((w64 (v4.1+1)),(lset v4.2 v0.1 (v9.1,(lset v9.2 v4.1 ((-7),v10.2))))))))))))) else (some (.inr v4.2)))
def kbU (x0:(List Sub)) (v0:(Int×(List Sub))):Option ((Int×(List Sub))⊕Unit):=
 (if (decide (v0.1<(lenI x0)))=true then ((gi v0.2 v0.1).bind fun v1=>((gi v0.2 v0.1).bind fun v2=>((gi v0.2 v0.1).bind fun v3=>((iter (kbP v0 v3) (0,v0.2)).bind fun v11=>((gi v11 v0.1).bind fun v12=>((gi v11 v0.1).bind fun v13=>(some (.inl ((w64 (v0.1+1)),(lset v11 v0.1 ([63],v13.2))))))))))) else (some (.inr ())))
def kbX (x0:(List Sub)):Option Unit:=
 ((iter (kbU x0) (0,x0)).bind fun v14=>(some ()))
def kda (x0:(List Sub)) (x1:Int) (x2:List UInt8):Option Bool:=
 ((kek x0).bind fun v0=>(if v0=true then (some true) else (if (decide (100<(lenI x2)))=true then (some true) else ((kbq x0).bind fun v1=>((kds v1).bind fun v2=>((kcX x0).bind fun v3=>((kcR v1 x1 x2).bind fun v4=>((kcj x0 x1 x2).bind fun v5=>(((kcQ v2.2 v3.2).bind fun v6=>(if v6=true then (if (v2.1==v3.1)=true then ((kcQ v4.2 v5.2).bind fun v7=>(if v7=true then (some (v4.1==v5.1)) else (some false))) else (some false)) else (some false))).bind fun v8=>((kbX v2.2).bind fun v9=>((kbX v4.2).bind fun v10=>(if v8=true then ((kcQ v1 x0).bind fun v11=>(some v11)) else (some false)))))))))))))
end Go.Abs
set_option maxRecDepth 100000
namespace Go.Abs
open Go Go.Proofs
def kbD:Ctr:=⟨ "",[],[],fun _=>none,[],[]⟩
theorem kaO {g:FuncId}:Good Try.prog g kbD:=good_dm
def kha:Ctr:=⟨ "",[(.w (.sl tSub))],[.b],fun x=>kek x,[],[]⟩
theorem kiR:Good Try.prog 5 kha:=
 kaD Try.func5 (by kernel_rfl) (An:=[(0,⟨⟨[(3,.c (.i .i64))],[]⟩,⟨[],[]⟩,[1],[0],1,true,""⟩)]) [] (.nil) (fun x=>by kernel_rfl)
def ref02_Twin_C:Ctr:=⟨ "",[(.w (.sl tSub))],[(.w (.sl tSub))],fun x=>koU x,[],[]⟩
theorem ref02_Twin_C_ok:Good Try.prog 6 ref02_Twin_C:=
 kaD Try.func6 (by kernel_rfl) (An:=[(0,⟨⟨[(4,.c (.i .i64)),(3,.ptr 4 0)],[(4,.bx 24 [.mw 3]),(3,.sl 42 tSub)]⟩,⟨[(3,.ptr 5 0)],[(5,.bx 24 [.mw 6]),(6,.sl 42 tSub)]⟩,[1,2],[0,2,1],7,false,""⟩)]) [] (.nil) (fun x=>by kernel_rfl)
def kgi:Ctr:=⟨ "",[(.i .i64),(.pt (.i .i64)),(.pt (.i .i64))],[.b],fun x=>kdJ x.1 x.2.1 x.2.2,[],[]⟩
theorem kin:Good Try.prog 36 kgi:=
 kaD Try.func36 (by kernel_rfl) (An:=[]) [] (.nil) (fun x=>by kernel_rfl)
def kce:Ctr:=⟨ "",[(.sl (.i .i64)),(.fn 1 (.i .i64) .b)],[(.i .i64)],fun x=>kbp x.1 x.2,[],[]⟩
theorem kdC:Good Try.prog 42 kce:=
 kaD Try.func42 (by kernel_rfl) (An:=[(0,⟨⟨[(8,.c (.i .i64))],[]⟩,⟨[],[]⟩,[7,1,0],[],0,true,""⟩)]) [] (.nil) (fun x=>by kernel_rfl)
def kbJ:Ctr:=⟨ "",[(.sl (.i .i64)),(.fn 1 (.i .i64) .b)],[.b],fun x=>kaI x.1 x.2,[],[]⟩
theorem kcZ:Good Try.prog 35 kbJ:=
 kaD Try.func35 (by kernel_rfl) (An:=[]) [(42,kce)] (.cons kdC <| .nil) (fun x=>by kernel_rfl)
def kdl:Ctr:=⟨ "",[(.i .i64),(.i .i64),(.sl (.i .i64))],[.b],fun x=>kbm x.1 x.2.1 x.2.2,[],[]⟩
theorem kcV:Good Try.prog 21 kdl:=
 kaD Try.func21 (by kernel_rfl) (An:=[]) [(35,kbJ),(36,kgi)] (.cons kcZ <| .cons kin <| .nil) (fun x=>by kernel_rfl)
def kgX:Ctr:=⟨ "",[.s],[.b],fun x=>kel x,[],[]⟩
theorem kiL:Good Try.prog 32 kgX:=
 kaD Try.func32 (by kernel_rfl) (An:=[(0,⟨⟨[(6,.ptr 0 0)],[(0,.si)]⟩,⟨[],[]⟩,[0],[],1,true,""⟩),(18,⟨⟨[],[]⟩,⟨[(11,.c .b)],[]⟩,[4,6,3],[0],1,false,""⟩)]) [(21,kdl)] (.cons kcV <| .nil) (fun x=>by kernel_rfl)
def kis:Ctr:=⟨ "",[(.pr (.i .i64) (.pr (.i .i64) (.i .i64)))],[.b],fun x=>kfH x,[],[]⟩
theorem kkz:Good Try.prog 28 kis:=
 kaD Try.func28 (by kernel_rfl) (An:=[]) [(21,kdl)] (.cons kcV <| .nil) (fun x=>by kernel_rfl)
def kdL:Ctr:=⟨ "",[(.w (.sl tSub))],[(.i .i64)],fun x=>kci x,[],[]⟩
theorem kdP:Good Try.prog 15 kdL:=
 kaD Try.func15 (by kernel_rfl) (An:=[(0,⟨⟨[(20,.c (.i .i64)),(3,.mp 2)],[(2,.mp .s .b)]⟩,⟨[],[]⟩,[19,18,1],[0],3,true,""⟩),(8,⟨⟨[(47,.c (.i .i64))],[]⟩,⟨[],[]⟩,[46,45,4,20,3],[2],5,true,""⟩),(58,⟨⟨[],[]⟩,⟨[(9,.c .b)],[]⟩,[7,8,47],[5,6],7,false,""⟩)]) [(28,kis),(32,kgX),(21,kdl)] (.cons kkz <| .cons kiL <| .cons kcV <| .nil) (fun x=>by kernel_rfl)
def kcA:Ctr:=⟨ "",[(.i .i64),(.pt (.sl .b))],[.b],fun x=>kcs x.1 x.2,[],[]⟩
theorem kcL:Good Try.prog 18 kcA:=
 kaD Try.func18 (by kernel_rfl) (An:=[]) [] (.nil) (fun x=>by kernel_rfl)
def slices_Clone_s_api_Line_api_Line_C:Ctr:=⟨ "",[(.sl tLine)],[(.sl tLine)],fun x=>kdx x,[],[]⟩
theorem slices_Clone_s_api_Line_api_Line_C_ok:Good Try.prog 33 slices_Clone_s_api_Line_api_Line_C:=
 kaD Try.func33 (by kernel_rfl) (An:=[]) [] (.nil) (fun x=>by kernel_rfl)
def kcx (k:Nat):CtrM:=⟨ "",[some (.i .i64),none,none,none],⟨[(1,.ptr 0 0),(2,.ptr 2 0),(3,.ptr 3 0)],[(0,.bx 44 [.mw 1]),(1,.sl 4 .b),(2,.bx 24 [.c (.sl tSub)]),(3,.bx 45 [.fn 16 [.ptr 0 0,.ptr 2 0,.ptr 3 0]])]⟩,4,⟨[(1,.ptr 0 0),(2,.ptr 2 0),(3,.ptr 3 0)],[(0,.bx 44 [.mw 4]),(4,.sl 4 .b),(2,.bx 24 [.c (.sl tSub)]),(3,.bx 45 [.fn 16 [.ptr 0 0,.ptr 2 0,.ptr 3 0]])]⟩,5,0,fun x=>kaW k x.1 x.2.1 x.2.2⟩
theorem kdD:∀ k,(kcx k).ok=true∧GoodM Try.prog 16 (kcx k)
 | 0=>koZ (by kernel_rfl) (fun x=>rfl)
 | k+1=>kbo Try.func16 (by kernel_rfl) (An:=[(0,⟨⟨[(21,.c (.i .i64))],[(3,.bx 45 [.fn 16 [.ptr 0 0,.ptr 2 0,.ptr 3 0]]),(0,.bx 44 [.mw 1]),(1,.sl 4 .b),(2,.bx 24 [.c (.sl tSub)])]⟩,⟨[],[(3,.bx 45 [.fn 16 [.ptr 0 0,.ptr 2 0,.ptr 3 0]]),(0,.bx 44 [.mw 6]),(6,.sl 4 .b),(2,.bx 24 [.c (.sl tSub)])]⟩,[20,19],[],8,false,""⟩)]) ((16,⟨ "",[],[],fun _=>none,[kcx k],[]⟩)::[]) (.cons (good_dm.more (kdD k)) <| .nil) (fun x=>by kernel_rfl)
def text_Prune_c1_m0_M:CtrM:=⟨ "",[some (.i .i64),none,none,none],⟨[(1,.ptr 0 0),(2,.ptr 2 0),(3,.ptr 3 0)],[(0,.bx 44 [.mw 1]),(1,.sl 4 .b),(2,.bx 24 [.c (.sl tSub)]),(3,.bx 45 [.fn 16 [.ptr 0 0,.ptr 2 0,.ptr 3 0]])]⟩,4,⟨[(1,.ptr 0 0),(2,.ptr 2 0),(3,.ptr 3 0)],[(0,.bx 44 [.mw 4]),(4,.sl 4 .b),(2,.bx 24 [.c (.sl tSub)]),(3,.bx 45 [.fn 16 [.ptr 0 0,.ptr 2 0,.ptr 3 0]])]⟩,5,0,fun x=>kco x.1 x.2.1 x.2.2⟩
theorem kgg:text_Prune_c1_m0_M.ok=true∧GoodM Try.prog 16 text_Prune_c1_m0_M:=kdD 1000000
def text_Prune_c1_C:Ctr:=⟨ "",[],[],fun _=>none,[],[]⟩
theorem text_Prune_c1_C_ok:Good Try.prog 16 text_Prune_c1_C:=good_dm
def kdz:Ctr:=⟨ "",text_Prune_c1_C.as,text_Prune_c1_C.rs,text_Prune_c1_C.F,text_Prune_c1_m0_M::text_Prune_c1_C.mus,text_Prune_c1_C.its⟩
theorem kdU:Good Try.prog 16 kdz:=text_Prune_c1_C_ok.more kgg
def slices_Clone_s_api_Line_api_Line_m1_M:CtrM:=⟨ "",[some (.sl tLine)],⟨[],[]⟩,0,⟨[(1000000,.mw 0)],[(0,.sl 51 tLine)]⟩,1,1,fun x=>kap x⟩
theorem kcp:slices_Clone_s_api_Line_api_Line_m1_M.ok=true∧GoodM Try.prog 33 slices_Clone_s_api_Line_api_Line_m1_M:=
 kbo Try.func33 (by kernel_rfl) (An:=[]) [] (.nil) (fun x=>by kernel_rfl)
def kaK:Ctr:=⟨ "",slices_Clone_s_api_Line_api_Line_C.as,slices_Clone_s_api_Line_api_Line_C.rs,slices_Clone_s_api_Line_api_Line_C.F,slices_Clone_s_api_Line_api_Line_m1_M::slices_Clone_s_api_Line_api_Line_C.mus,slices_Clone_s_api_Line_api_Line_C.its⟩
theorem kbf:Good Try.prog 33 kaK:=slices_Clone_s_api_Line_api_Line_C_ok.more kcp
def text_kept_m2_M:CtrM:=⟨ "",[some (.w (.sl tSub)),none],⟨[(1,.fn 18 [.ptr 0 0])],[(0,.bx 44 [.mw 1]),(1,.sl 4 .b)]⟩,2,⟨[(1000000,.ag [.fw 2])],[(2,.fm 42 tSub 1 51 tLine)]⟩,3,1,fun x=>kic x.1 x.2⟩
theorem kil:text_kept_m2_M.ok=true∧GoodM Try.prog 17 text_kept_m2_M:=
 kbo Try.func17 (by kernel_rfl) (An:=[(0,⟨⟨[(17,.c (.i .i64)),(6,.mp 7),(5,.ptr 6 0)],[(7,.mp (.i .i64) (.i .i64)),(6,.bx 24 [.fw 5]),(5,.fm 42 tSub 1 51 tLine)]⟩,⟨[(5,.ptr 8 0),(6,.mp 10)],[(8,.bx 24 [.fw 9]),(9,.fm 42 tSub 1 51 tLine),(10,.mp (.i .i64) (.i .i64))]⟩,[16,15,1,4],[0,1,4,3],11,false,""⟩),(8,⟨⟨[(45,.c (.i .i64)),(43,.fw 9)],[(9,.fm 42 tSub 1 51 tLine)]⟩,⟨[],[(9,.fm 42 tSub 1 51 tLine)]⟩,[44,6,5,4],[10,8,4,3],12,false,""⟩),(16,⟨⟨[(52,.c (.i .i64)),(43,.fw 9)],[(9,.fm 42 tSub 1 51 tLine)]⟩,⟨[(43,.fw 9)],[(9,.fm 42 tSub 1 51 tLine)]⟩,[51,50,10,45],[12],14,false,""⟩)]) [(7000038,kbD),(6000005,kbD),(33,kaK),(18,kcA)] (.cons kaO <| .cons kaO <| .cons kbf <| .cons kcL <| .nil) (fun x=>by kernel_rfl)
def text_kept_C:Ctr:=⟨ "",[],[],fun _=>none,[],[]⟩
theorem text_kept_C_ok:Good Try.prog 17 text_kept_C:=good_dm
def text_kept_C2:Ctr:=⟨ "",text_kept_C.as,text_kept_C.rs,text_kept_C.F,text_kept_m2_M::text_kept_C.mus,text_kept_C.its⟩
theorem text_kept_C2_ok:Good Try.prog 17 text_kept_C2:=text_kept_C_ok.more kil
def text_Prune_C:Ctr:=⟨ "",[(.w (.sl tSub))],[(.w (.sl tSub)),(.i .i64)],fun x=>koD x,[],[]⟩
theorem text_Prune_C_ok:Good Try.prog 7 text_Prune_C:=
 kaD Try.func7 (by kernel_rfl) (An:=[]) [(17,text_kept_C2),(16,kdz),(18,kcA),(15,kdL)] (.cons text_kept_C2_ok <| .cons kdU <| .cons kcL <| .cons kdP <| .nil) (fun x=>by kernel_rfl)
def kfA:Ctr:=⟨ "",[.s],[.b],fun x=>kdI x,[],[]⟩
theorem kfM:Good Try.prog 25 kfA:=
 kaD Try.func25 (by kernel_rfl) (An:=[(0,⟨⟨[(3,.c (.i .i64))],[]⟩,⟨[],[]⟩,[0],[],0,true,""⟩),(18,⟨⟨[],[]⟩,⟨[(4,.c .b)],[]⟩,[3],[],0,false,""⟩)]) [] (.nil) (fun x=>by kernel_rfl)
def kff:Ctr:=⟨ "",[(.w (.sl tSub)),.s],[(.i .i64)],fun x=>kdT x.1 x.2,[],[]⟩
theorem kfI:Good Try.prog 24 kff:=
 kaD Try.func24 (by kernel_rfl) (An:=[(0,⟨⟨[(5,.c (.i .i64))],[]⟩,⟨[],[]⟩,[2,1],[0],1,true,""⟩)]) [] (.nil) (fun x=>by kernel_rfl)
def kcW:Ctr:=⟨ "",[(.i .i64),(.i .i64),(.i .i64)],[.b],fun x=>kaY x.1 x.2.1 x.2.2,[],[]⟩
theorem kdb:Good Try.prog 23 kcW:=
 kaD Try.func23 (by kernel_rfl) (An:=[]) [] (.nil) (fun x=>by kernel_rfl)
def kfJ:Ctr:=⟨ "",[(.pr (.i .i64) (.pr (.i .i64) (.i .i64)))],[.b],fun x=>keG x,[],[]⟩
theorem khu:Good Try.prog 31 kfJ:=
 kaD Try.func31 (by kernel_rfl) (An:=[]) [(23,kcW)] (.cons kdb <| .nil) (fun x=>by kernel_rfl)
def khH:Ctr:=⟨ "",[(.w (.sl tSub)),(.i .i64),tLine],[.b],fun x=>keL x.1 x.2.1 x.2.2,[],[]⟩
theorem kjA:Good Try.prog 34 khH:=
 kaD Try.func34 (by kernel_rfl) (An:=[]) [(31,kfJ),(23,kcW)] (.cons khu <| .cons kdb <| .nil) (fun x=>by kernel_rfl)
def kdp:Ctr:=⟨ "",[(.w (.sl tSub))],[.b],fun x=>kcw x,[],[]⟩
theorem kdy:Good Try.prog 19 kdp:=
 kaD Try.func19 (by kernel_rfl) (An:=[(0,⟨⟨[(3,.c (.i .i64))],[]⟩,⟨[],[]⟩,[1],[0],1,true,""⟩),(8,⟨⟨[(5,.c (.i .i64))],[]⟩,⟨[],[]⟩,[4,3],[2],3,true,""⟩)]) [(34,khH),(24,kff),(25,kfA)] (.cons kjA <| .cons kfI <| .cons kfM <| .nil) (fun x=>by kernel_rfl)
def ref02_Twin_m3_M:CtrM:=⟨ "",[some (.w (.sl tSub))],⟨[],[]⟩,0,⟨[(1000000,.ag [.fw 0])],[(0,.fm 42 tSub 1 51 tLine)]⟩,1,1,fun x=>kbq x⟩
theorem khC:ref02_Twin_m3_M.ok=true∧GoodM Try.prog 6 ref02_Twin_m3_M:=
 kbo Try.func6 (by kernel_rfl) (An:=[(0,⟨⟨[(4,.c (.i .i64)),(3,.ptr 4 0)],[(4,.bx 24 [.fw 3]),(3,.fm 42 tSub 1 51 tLine)]⟩,⟨[(3,.ptr 5 0)],[(5,.bx 24 [.fw 6]),(6,.fm 42 tSub 1 51 tLine)]⟩,[1,2],[0,2,1],7,false,""⟩)]) [(7000029,kbD),(6000003,kbD)] (.cons kaO <| .cons kaO <| .nil) (fun x=>by kernel_rfl)
def kcr:Ctr:=⟨ "",ref02_Twin_C.as,ref02_Twin_C.rs,ref02_Twin_C.F,ref02_Twin_m3_M::ref02_Twin_C.mus,ref02_Twin_C.its⟩
theorem kch:Good Try.prog 6 kcr:=ref02_Twin_C_ok.more khC
def ref02_without_m4_M:CtrM:=⟨ "",[some (.w (.sl tSub)),none],⟨[(1,.mw 0)],[(0,.sl 4 .b)]⟩,1,⟨[(1,.mw 0),(1000000,.ag [.fw 1])],[(0,.sl 4 .b),(1,.fm 42 tSub 1 51 tLine)]⟩,2,1,fun x=>kfi x.1 x.2⟩
theorem kgf:ref02_without_m4_M.ok=true∧GoodM Try.prog 20 ref02_without_m4_M:=
 kbo Try.func20 (by kernel_rfl) (An:=[(0,⟨⟨[(7,.c (.i .i64)),(6,.mw 6),(5,.ptr 5 0)],[(6,.sl 3 (.i .i64)),(5,.bx 24 [.mw 4]),(4,.sl 42 tSub)]⟩,⟨[(5,.ptr 7 0),(6,.mw 9)],[(7,.bx 24 [.mw 8]),(8,.sl 42 tSub),(9,.sl 3 (.i .i64))]⟩,[2,4],[1,0,3,2],10,false,""⟩),(8,⟨⟨[(8,.c (.i .i64)),(5,.ptr 7 0)],[(7,.bx 24 [.fw 10]),(10,.fm 42 tSub 1 51 tLine)]⟩,⟨[(5,.ptr 11 0)],[(11,.bx 24 [.fw 12]),(12,.fm 42 tSub 1 51 tLine)]⟩,[6,4],[9,3,2,0],13,false,""⟩),(16,⟨⟨[(9,.c (.i .i64)),(5,.ptr 7 0)],[(7,.bx 24 [.fw 10]),(10,.fm 42 tSub 1 51 tLine)]⟩,⟨[(5,.ptr 11 0)],[(11,.bx 24 [.fw 12]),(12,.fm 42 tSub 1 51 tLine)]⟩,[8],[],13,false,""⟩)]) [(6,kcr)] (.cons kch <| .nil) (fun x=>by kernel_rfl)
def ref02_without_C:Ctr:=⟨ "",[],[],fun _=>none,[],[]⟩
theorem ref02_without_C_ok:Good Try.prog 20 ref02_without_C:=good_dm
def ref02_without_C4:Ctr:=⟨ "",ref02_without_C.as,ref02_without_C.rs,ref02_without_C.F,ref02_without_m4_M::ref02_without_C.mus,ref02_without_C.its⟩
theorem ref02_without_C4_ok:Good Try.prog 20 ref02_without_C4:=ref02_without_C_ok.more kgf
def ref02_Prune_C:Ctr:=⟨ "",[(.w (.sl tSub))],[(.w (.sl tSub)),(.i .i64)],fun x=>knZ x,[],[]⟩
theorem ref02_Prune_C_ok:Good Try.prog 8 ref02_Prune_C:=
 kaD Try.func8 (by kernel_rfl) (An:=[(0,⟨⟨[(5,.c (.i .i64)),(4,.mw 3)],[(3,.sl 4 .b)]⟩,⟨[(4,.mw 4)],[(4,.sl 4 .b)]⟩,[1,2],[0,2,1],5,false,""⟩),(8,⟨⟨[(6,.c (.i .i64)),(4,.mw 4)],[(4,.sl 4 .b)]⟩,⟨[(4,.mw 5)],[(5,.sl 4 .b)]⟩,[1,2],[0,2,1],6,false,""⟩),(16,⟨⟨[(4,.mw 4),(7,.c (.i .i64))],[(4,.sl 4 .b)]⟩,⟨[(4,.mw 5)],[(5,.sl 4 .b)]⟩,[6],[],6,false,""⟩)]) [(20,ref02_without_C4),(19,kdp)] (.cons ref02_without_C4_ok <| .cons kdy <| .nil) (fun x=>by kernel_rfl)
def keZ:Ctr:=⟨ "",[(.i .i64)],[.b],fun x=>keg x,[],[]⟩
theorem khc:Good Try.prog 22 keZ:=
 kaD Try.func22 (by kernel_rfl) (An:=[]) [] (.nil) (fun x=>by kernel_rfl)
def kho:Ctr:=⟨ "",[(.w (.sl tSub)),(.w (.sl tSub))],[.b],fun x=>kcQ x.1 x.2,[],[]⟩
theorem kjB:Good Try.prog 11 kho:=
 kaD Try.func11 (by kernel_rfl) (An:=[(0,⟨⟨[(5,.c (.i .i64))],[]⟩,⟨[],[]⟩,[2,3],[0,1],2,true,""⟩),(26,⟨⟨[],[]⟩,⟨[(6,.ptr 2 0),(7,.ptr 3 0)],[(2,.bx 42 [.c .s,.c (.sl tLine)]),(3,.bx 42 [.c .s,.c (.sl tLine)])]⟩,[5],[],4,false,""⟩),(8,⟨⟨[(8,.c (.i .i64))],[]⟩,⟨[],[]⟩,[6,7,5],[2,3],4,true,""⟩)]) [] (.nil) (fun x=>by kernel_rfl)
def text_kept_m5_M:CtrM:=⟨ "",[some (.w (.sl tSub)),some (.fn 1 (.i .i64) .b)],⟨[],[]⟩,0,⟨[(1000000,.ag [.fw 0])],[(0,.fm 42 tSub 1 51 tLine)]⟩,1,1,fun x=>kcb x.1 x.2⟩
theorem kik:text_kept_m5_M.ok=true∧GoodM Try.prog 17 text_kept_m5_M:=
 kbo Try.func17 (by kernel_rfl) (An:=[(0,⟨⟨[(17,.c (.i .i64)),(6,.mp 5),(5,.ptr 4 0)],[(5,.mp (.i .i64) (.i .i64)),(4,.bx 24 [.fw 3]),(3,.fm 42 tSub 1 51 tLine)]⟩,⟨[(5,.ptr 6 0),(6,.mp 8)],[(6,.bx 24 [.fw 7]),(7,.fm 42 tSub 1 51 tLine),(8,.mp (.i .i64) (.i .i64))]⟩,[16,15,1,4],[2,1],9,false,""⟩),(8,⟨⟨[(45,.c (.i .i64)),(43,.fw 7)],[(7,.fm 42 tSub 1 51 tLine)]⟩,⟨[],[(7,.fm 42 tSub 1 51 tLine)]⟩,[44,6,5,4],[8,6,2,1],10,false,""⟩),(16,⟨⟨[(52,.c (.i .i64)),(43,.fw 7)],[(7,.fm 42 tSub 1 51 tLine)]⟩,⟨[(43,.fw 7)],[(7,.fm 42 tSub 1 51 tLine)]⟩,[51,50,10,45],[10],12,false,""⟩)]) [(7000038,kbD),(6000005,kbD),(33,kaK)] (.cons kaO <| .cons kaO <| .cons kbf <| .nil) (fun x=>by kernel_rfl)
def kfv:Ctr:=⟨ "",text_kept_C2.as,text_kept_C2.rs,text_kept_C2.F,text_kept_m5_M::text_kept_C2.mus,text_kept_C2.its⟩
theorem kfE:Good Try.prog 17 kfv:=text_kept_C2_ok.more kik
def text_Prune_m6_M:CtrM:=⟨ "",[some (.w (.sl tSub))],⟨[],[]⟩,0,⟨[(1000000,.ag [.fw 0]),(1000001,.c (.i .i64))],[(0,.fm 42 tSub 1 51 tLine)]⟩,1,2,fun x=>kds x⟩
theorem khD:text_Prune_m6_M.ok=true∧GoodM Try.prog 7 text_Prune_m6_M:=
 kbo Try.func7 (by kernel_rfl) (An:=[]) [(6000011,kbD),(17,kfv),(16,kdz),(18,kcA),(15,kdL)] (.cons kaO <| .cons kfE <| .cons kdU <| .cons kcL <| .cons kdP <| .nil) (fun x=>by kernel_rfl)
def kgU:Ctr:=⟨ "",text_Prune_C.as,text_Prune_C.rs,text_Prune_C.F,text_Prune_m6_M::text_Prune_C.mus,text_Prune_C.its⟩
theorem kiJ:Good Try.prog 7 kgU:=text_Prune_C_ok.more khD
def ref02_without_m7_M:CtrM:=⟨ "",[some (.w (.sl tSub)),some (.sl .b)],⟨[],[]⟩,0,⟨[(1000000,.ag [.fw 0])],[(0,.fm 42 tSub 1 51 tLine)]⟩,1,1,fun x=>kcl x.1 x.2⟩
theorem kgr:ref02_without_m7_M.ok=true∧GoodM Try.prog 20 ref02_without_m7_M:=
 kbo Try.func20 (by kernel_rfl) (An:=[(0,⟨⟨[(7,.c (.i .i64)),(6,.mw 5),(5,.ptr 4 0)],[(5,.sl 3 (.i .i64)),(4,.bx 24 [.mw 3]),(3,.sl 42 tSub)]⟩,⟨[(5,.ptr 6 0),(6,.mw 8)],[(6,.bx 24 [.mw 7]),(7,.sl 42 tSub),(8,.sl 3 (.i .i64))]⟩,[2,1,4],[0,2,1],9,false,""⟩),(8,⟨⟨[(8,.c (.i .i64)),(5,.ptr 6 0)],[(6,.bx 24 [.fw 9]),(9,.fm 42 tSub 1 51 tLine)]⟩,⟨[(5,.ptr 10 0)],[(10,.bx 24 [.fw 11]),(11,.fm 42 tSub 1 51 tLine)]⟩,[6,4],[8,2,1],12,false,""⟩),(16,⟨⟨[(9,.c (.i .i64)),(5,.ptr 6 0)],[(6,.bx 24 [.fw 9]),(9,.fm 42 tSub 1 51 tLine)]⟩,⟨[(5,.ptr 10 0)],[(10,.bx 24 [.fw 11]),(11,.fm 42 tSub 1 51 tLine)]⟩,[8],[],12,false,""⟩)]) [(6,kcr)] (.cons kch <| .nil) (fun x=>by kernel_rfl)
def keY:Ctr:=⟨ "",ref02_without_C4.as,ref02_without_C4.rs,ref02_without_C4.F,ref02_without_m7_M::ref02_without_C4.mus,ref02_without_C4.its⟩
theorem khg:Good Try.prog 20 keY:=ref02_without_C4_ok.more kgr
def ref02_Prune_m8_M:CtrM:=⟨ "",[some (.w (.sl tSub))],⟨[],[]⟩,0,⟨[(1000000,.ag [.fw 0]),(1000001,.c (.i .i64))],[(0,.fm 42 tSub 1 51 tLine)]⟩,1,2,fun x=>kcX x⟩
theorem khf:ref02_Prune_m8_M.ok=true∧GoodM Try.prog 8 ref02_Prune_m8_M:=
 kbo Try.func8 (by kernel_rfl) (An:=[(0,⟨⟨[(5,.c (.i .i64)),(4,.mw 3)],[(3,.sl 4 .b)]⟩,⟨[(4,.mw 4)],[(4,.sl 4 .b)]⟩,[1,2],[0,2,1],5,false,""⟩),(8,⟨⟨[(6,.c (.i .i64)),(4,.mw 4)],[(4,.sl 4 .b)]⟩,⟨[(4,.mw 5)],[(5,.sl 4 .b)]⟩,[1,2],[0,2,1],6,false,""⟩),(16,⟨⟨[(4,.mw 4),(7,.c (.i .i64))],[(4,.sl 4 .b)]⟩,⟨[(4,.mw 5)],[(5,.sl 4 .b)]⟩,[6],[],6,false,""⟩)]) [(6000011,kbD),(20,keY),(19,kdp)] (.cons kaO <| .cons khg <| .cons kdy <| .nil) (fun x=>by kernel_rfl)
def kgn:Ctr:=⟨ "",ref02_Prune_C.as,ref02_Prune_C.rs,ref02_Prune_C.F,ref02_Prune_m8_M::ref02_Prune_C.mus,ref02_Prune_C.its⟩
theorem kim:Good Try.prog 8 kgn:=ref02_Prune_C_ok.more khf
def text_Rename_m9_M:CtrM:=⟨ "",[some (.w (.sl tSub)),some (.i .i64),some .s],⟨[],[]⟩,0,⟨[(1000000,.ag [.fw 0]),(1000001,.c (.i .i64))],[(0,.fm 42 tSub 1 51 tLine)]⟩,1,2,fun x=>kcR x.1 x.2.1 x.2.2⟩
theorem khh:text_Rename_m9_M.ok=true∧GoodM Try.prog 9 text_Rename_m9_M:=
 kbo Try.func9 (by kernel_rfl) (An:=[]) [(6000014,kbD),(6000024,kbD),(6000036,kbD),(17,kfv),(22,keZ),(15,kdL),(21,kdl)] (.cons kaO <| .cons kaO <| .cons kaO <| .cons kfE <| .cons khc <| .cons kdP <| .cons kcV <| .nil) (fun x=>by kernel_rfl)
def text_Rename_C:Ctr:=⟨ "",[],[],fun _=>none,[],[]⟩
theorem text_Rename_C_ok:Good Try.prog 9 text_Rename_C:=good_dm
def kgh:Ctr:=⟨ "",text_Rename_C.as,text_Rename_C.rs,text_Rename_C.F,text_Rename_m9_M::text_Rename_C.mus,text_Rename_C.its⟩
theorem kio:Good Try.prog 9 kgh:=text_Rename_C_ok.more khh
def ref02_Rename_m10_M:CtrM:=⟨ "",[some (.w (.sl tSub)),some (.i .i64),some .s],⟨[],[]⟩,0,⟨[(1000000,.ag [.fw 0]),(1000001,.c (.i .i64))],[(0,.fm 42 tSub 1 51 tLine)]⟩,1,2,fun x=>kcj x.1 x.2.1 x.2.2⟩
theorem kgt:ref02_Rename_m10_M.ok=true∧GoodM Try.prog 10 ref02_Rename_m10_M:=
 kbo Try.func10 (by kernel_rfl) (An:=[(26,⟨⟨[],[]⟩,⟨[(36,.c .b)],[]⟩,[2,8,1,6,3],[2,1,0],3,false,""⟩)]) [(6000013,kbD),(6000021,kbD),(6000037,kbD),(6,kcr),(19,kdp),(23,kcW),(24,kff),(25,kfA)] (.cons kaO <| .cons kaO <| .cons kaO <| .cons kch <| .cons kdy <| .cons kdb <| .cons kfI <| .cons kfM <| .nil) (fun x=>by kernel_rfl)
def ref02_Rename_C:Ctr:=⟨ "",[],[],fun _=>none,[],[]⟩
theorem ref02_Rename_C_ok:Good Try.prog 10 ref02_Rename_C:=good_dm
def kfn:Ctr:=⟨ "",ref02_Rename_C.as,ref02_Rename_C.rs,ref02_Rename_C.F,ref02_Rename_m10_M::ref02_Rename_C.mus,ref02_Rename_C.its⟩
theorem khj:Good Try.prog 10 kfn:=ref02_Rename_C_ok.more kgt
def law02_spoil_m11_M:CtrM:=⟨ "",[none],⟨[(0,.ag [.fw 0])],[(0,.fm 42 tSub 1 51 tLine)]⟩,1,⟨[],[]⟩,1,0,fun x=>kbX x⟩
theorem kgy:law02_spoil_m11_M.ok=true∧GoodM Try.prog 12 law02_spoil_m11_M:=
 kbo Try.func12 (by kernel_rfl) (An:=[(0,⟨⟨[(7,.c (.i .i64)),(1,.ptr 1 0)],[(1,.bx 24 [.fw 0]),(0,.fm 42 tSub 1 51 tLine)]⟩,⟨[],[]⟩,[6],[],2,false,""⟩),(8,⟨⟨[(17,.c (.i .i64)),(1,.ptr 1 0)],[(1,.bx 24 [.fw 0]),(0,.fm 42 tSub 1 51 tLine)]⟩,⟨[(1,.ptr 2 0)],[(2,.bx 24 [.fw 3]),(3,.fm 42 tSub 1 51 tLine)]⟩,[16,2,7],[],4,false,""⟩)]) [] (.nil) (fun x=>by kernel_rfl)
def law02_spoil_C:Ctr:=⟨ "",[],[],fun _=>none,[],[]⟩
theorem law02_spoil_C_ok:Good Try.prog 12 law02_spoil_C:=good_dm
def kfO:Ctr:=⟨ "",law02_spoil_C.as,law02_spoil_C.rs,law02_spoil_C.F,law02_spoil_m11_M::law02_spoil_C.mus,law02_spoil_C.its⟩
theorem khz:Good Try.prog 12 kfO:=law02_spoil_C_ok.more kgy
def khd:Ctr:=⟨ "",[(.w (.sl tSub)),(.i .i64),.s],[.b],fun x=>kda x.1 x.2.1 x.2.2,[],[]⟩
theorem law02_TextChanges_C_ok:Good Try.prog 3 khd:=
 kaD Try.func3 (by kernel_rfl) (An:=[(34,⟨⟨[],[]⟩,⟨[(16,.c .b)],[]⟩,[8,10,9,11,12,14,13,15,7,3],[6,4,9,7,12,10,15,13,3,1,0],16,false,""⟩)]) [(10,kfn),(9,kgh),(8,kgn),(7,kgU),(6,kcr),(12,kfO),(11,kho),(5,kha)] (.cons khj <| .cons kio <| .cons kim <| .cons kiJ <| .cons kch <| .cons khz <| .cons kjB <| .cons kiR <| .nil) (fun x=>by kernel_rfl)
end Go.Abs
namespace Go.Abs
open Go
theorem kja {σ τ:Type} {F:σ→Option (σ⊕(τ⊕Unit))} (b:τ) (e:Nat→σ) (m:Nat) (hm:m<18446744073709551616) (p:Nat→Bool)
  (h1:∀ i,i<m→F (e i)=some (if p i=true then .inr (.inl b) else .inl (e (i+1)))) (h2:F (e m)=some (.inr (.inr ()))) :
  iter F (e 0)=some (if ((List.range m).any p)=true then .inl b else .inr ()):=by
 have:∀ k i:Nat,i+k=m→itN F (k+1) (e i)=some (if ((List.range' i k).any p)=true then .inl b else .inr ()):=by
  intro k
  induction k with
  | zero=>
   intro i h
   have:i=m:=by omega
   subst this
   rw [kdv h2]; rfl
  | succ k ih=>
   intro i h
   rw [List.range'_succ,List.any_cons]
   have e1:=h1 i (by omega)
   cases hp:p i with
   | true=>rw [hp] at e1; rw [kdv e1]; simp
   | false=>rw [hp] at e1; rw [kjW e1,ih (i+1) (by omega),Bool.false_or]
 have:=kgb (this m 0 (by omega)) (by omega)
 rw [this,List.range_eq_range']
theorem kgV {m:Nat} {p:Nat→Bool}:(List.range m).all p=true↔∀ i,i<m→p i=true:=by simp
theorem keF {m:Nat} {p:Nat→Bool}:((List.range m).any fun i=>!p i) = !(List.range m).all p:=koz p _
theorem klK (l:List Int) (hl:l.length≤1000) (p:Int→Bool):kaI l (fun x=>some (p x))=some (l.any p):=by
 unfold kaI kbp
 rw [kjs (F:=kaH l _) l (by omega) (fun i x=>if p x then some (i:Int) else none) (fun i hi=>by
  unfold kaH
  rw [if_pos (by rw [kaG]; simpa using hi),kal hi,kaq (by omega)]
  simp only [Option.bind_some]
  by_cases h:p l[i]=true <;> simp [h,nextL]) (by unfold kaH; rw [if_neg (by simp [kaG])])]
 have:∀ (l:List Int) (k:Nat),endL ((l.zipIdx k).findSome? fun x=>if p x.1 then some (x.2:Int) else none)=(if l.any p then .inl ((k:Int)+(l.findIdx p:Nat)) else .inr ()):=by
  intro l
  induction l with
  | nil=>intro k; rfl
  | cons x l ih=>
   intro k
   rw [List.zipIdx_cons,List.findSome?_cons,List.any_cons,List.findIdx_cons]
   cases hp:p x with
   | true=>simp [endL]
   | false=>
    simp only [Bool.false_eq_true,if_false,Bool.false_or,cond_false]
    rw [ih (k+1)]
    congr 2; push_cast; omega
 rw [this l 0]
 by_cases h:l.any p=true <;> simp [h]
theorem kkn (lo hi:Int) (l:List Int) (hl:l.length≤1000):kbm lo hi l=some (l.all (wi lo hi)):=by
 unfold kbm
 have e:(fun u0:Int=>(kdJ u0 lo hi).bind fun u1=>some u1)=fun u=>some (!wi lo hi u):=by
  funext u
  unfold kdJ wi
  by_cases h1:u<lo
  ·simp [h1]
   try omega
  ·by_cases h2:hi<u <;> simp [h1,h2] <;> omega
 rw [e,klK l hl,koz]
 simp
theorem kkR (n lo hi:Int):kaY n lo hi=some (wi lo hi n):=by
 unfold kaY wi
 by_cases h:lo≤n <;> simp [h]
def chOk (i:Nat) (c:Int):Bool:=wi 97 122 c||(decide (i≠0)&&(c==45||wi 48 57 c))
def kbB (s:List UInt8):Bool:=((List.range s.length).all fun i=>chOk i (((s[i]?).getD 0).toNat:Int))&&wi 1 12 (s.length:Int)
theorem kqP {s:List UInt8} {i:Nat} (h:i<s.length):gstr s (i:Int)=some (s[i].toNat:Int):=by
 unfold gstr; rw [kal h]; rfl
theorem kpv (s:List UInt8) (hs:s.length≤1000) (i:Nat) (hi:i<s.length):kbL s (i:Int)=some (if (!chOk i (((s[i]?).getD 0).toNat:Int))=true then .inr (.inl false) else .inl ((i+1:Nat):Int)):=by
 unfold kbL
 obtain ⟨c,hc⟩:∃ c:Int,c=(s[i].toNat:Int):=⟨_,rfl⟩
 have hg:gstr s (i:Int)=some c:=by rw [hc]; exact kqP hi
 have hr:(((s[i]?).getD 0).toNat:Int)=c:=by rw [hc,List.getElem?_eq_getElem hi]; rfl
 rw [if_pos (lenI_lt.2 hi),hg,hr]
 simp only [Option.bind_some]
 clear hc hg hr
 unfold chOk wi
 rw [kaq (by omega)]
 by_cases h1:(97:Int)≤c <;> by_cases h2:c≤122 <;> by_cases h3:i=0 <;> by_cases h4:c=45 <;> by_cases h5:c<48 <;> by_cases h6:(57:Int)<c <;> simp [h1,h2,h3,h4,h5,h6] <;> omega
theorem kqw (s:List UInt8):kbL s (s.length:Int)=some (.inr (.inr ())):=by
 unfold kbL
 rw [if_neg kaz]
theorem kot (s:List UInt8) (hs:s.length≤1000):kdI s=some (kbB s):=by
 unfold kdI
 rw [show (0:Int)=((0:Nat):Int) from rfl,kja (F:=kbL s) false (fun i=>(i:Int)) s.length (by omega) (fun i=>!chOk i (((s[i]?).getD 0).toNat:Int)) (kpv s hs) (kqw s)]
 rw [keF]
 unfold kbB
 by_cases h:((List.range s.length).all fun i=>chOk i (((s[i]?).getD 0).toNat:Int))=true
 ·simp only [h,Bool.not_true,Bool.false_eq_true,if_false,Option.bind_some,Bool.true_and]
  unfold wi
  rw [kaG]
  by_cases h1:(1:Int)≤(s.length:Int) <;> simp [h1]
 ·rw [Bool.not_eq_true] at h
  simp [h]
theorem knD (s:List UInt8) (hs:s.length≤1000) (i:Nat) (hi:i<s.length):kby (s,(i:Int))=some (if (!chOk i (((s[i]?).getD 0).toNat:Int))=true then .inr (.inl false) else .inl (s,((i+1:Nat):Int))):=by
 unfold kby
 simp only
 obtain ⟨c,hc⟩:∃ c:Int,c=(s[i].toNat:Int):=⟨_,rfl⟩
 have hr:(((s[i]?).getD 0).toNat:Int)=c:=by rw [hc,List.getElem?_eq_getElem hi]; rfl
 rw [if_pos (lenI_lt.2 hi),hr]
 have hsz:i<(⟨s.toArray⟩:ByteArray).size:=by simpa [ByteArray.size] using hi
 have hb:(⟨s.toArray⟩:ByteArray)[i]'hsz=s[i]:=by simp [ByteArray.getElem_eq_getElem_data]
 by_cases ha:s[i].toNat<128
 ·have hd:=Go.decode_ascii ⟨s.toArray⟩ i hsz (by rw [hb]; exact ha)
  have e1:runeV (s,(i:Int))=c:=by rw [hc]; unfold runeV; simp only [Int.toNat_natCast]; rw [hd,hb]
  have e2:runeN (s,(i:Int))=(s,((i+1:Nat):Int)):=by unfold runeN; simp only [Int.toNat_natCast]; rw [hd]
  rw [e1,e2]
  clear e1 e2 hd hc hr
  unfold chOk wi
  by_cases h1:(97:Int)≤c <;> by_cases h2:c≤122 <;> by_cases h3:i=0 <;> by_cases h4:c=45 <;> by_cases h5:c<48 <;> by_cases h6:(57:Int)<c <;> simp [h1,h2,h3,h4,h5,h6] <;> omega
 ·have hd:=Go.decode_high ⟨s.toArray⟩ i hsz (by rw [hb]; omega)
  have e1:(128:Int)≤runeV (s,(i:Int)):=by unfold runeV; simp only [Int.toNat_natCast]; omega
  obtain ⟨v,hv⟩:∃ v:Int,v=runeV (s,(i:Int)):=⟨_,rfl⟩
  rw [←hv] at e1 ⊢
  have e3:(128:Int)≤c:=by omega
  unfold chOk wi
  have g1:(97:Int)≤v:=by omega
  have g2:¬ v≤122:=by omega
  have g3:¬ v=45:=by omega
  have g4:¬ v<48:=by omega
  have g5:(57:Int)<v:=by omega
  have k1:(97:Int)≤c:=by omega
  have k2:¬ c≤122:=by omega
  have k3:¬ c=45:=by omega
  have k5:¬ c≤57:=by omega
  by_cases h3:i=0 <;> simp [g1,g2,g3,g4,g5,k1,k2,k3,k5,h3]
theorem koW (s:List UInt8):kby (s,(s.length:Int))=some (.inr (.inr ())):=by
 unfold kby
 simp only
 rw [if_neg kaz]
theorem kpn (s:List UInt8) (hs:s.length≤1000):kel s=some (kbB s):=by
 unfold kel
 rw [show ((s,0):List UInt8×Int)=(fun i:Nat=>(s,(i:Int))) 0 from rfl,kja (F:=kby) false (fun i:Nat=>(s,(i:Int))) s.length (by omega) (fun i=>!chOk i (((s[i]?).getD 0).toNat:Int)) (knD s hs) (koW s)]
 rw [keF]
 unfold kbB
 by_cases h:((List.range s.length).all fun i=>chOk i (((s[i]?).getD 0).toNat:Int))=true
 ·simp only [h,Bool.not_true,Bool.false_eq_true,if_false,Option.bind_some,Bool.true_and]
  rw [kkn _ _ _ (by simp),kaG]
  simp
 ·rw [Bool.not_eq_true] at h
  simp [h]
end Go.Abs
namespace Go.Abs
open Go
theorem iter_any' {σ τ:Type} {F:σ→Option (σ⊕(τ⊕Unit))} (b:τ) (e:Nat→σ) (m:Nat) (hm:m<18446744073709551616) (p:Nat→Bool)
  (h1:∀ i,i<m→F (e i)=some (if p i=true then .inl (e (i+1)) else .inr (.inl b))) (h2:F (e m)=some (.inr (.inr ()))) :
  iter F (e 0)=some (if ((List.range m).all p)=true then .inr () else .inl b):=by
 rw [kja b e m hm (fun i=>!p i) (fun i hi=>by rw [h1 i hi]; cases p i <;> rfl) h2,keF]
 cases (List.range m).all p <;> rfl
theorem kee {α:Type} (q:α→Bool) (l:List α):((List.range l.length).all fun i=>(l[i]?).all q)=l.all q:=by
 rw [Bool.eq_iff_iff,kgV,List.all_eq_true]
 constructor
 ·intro h x hx
  obtain ⟨i,hi,rfl⟩:=List.mem_iff_getElem.1 hx
  have:=h i hi
  rw [List.getElem?_eq_getElem hi] at this
  simpa using this
 ·intro h i hi
  rw [List.getElem?_eq_getElem hi]
  simpa using h _ (List.getElem_mem hi)
def okRow (n i:Nat) (x:Line):Bool:=
 (if x.1 = -1 then wi 0 15 x.2.1 else wi ((i:Int)+1) ((n:Int)-1) x.1&&x.2.1==0)&&[x.2.2.1.1,x.2.2.1.2.1,x.2.2.1.2.2].all (wi (-1000) 1000)&&decide (x.2.2.2.1≤23)&&decide (x.2.2.2.2≤15)
theorem kqU (d:List Sub) (hd:d.length≤100) (i:Nat) (hi:i≤100) (x:Line):keL d (i:Int) x=some (okRow d.length i x):=by
 unfold keL keG
 simp only [kkR,Option.bind_some,kaG]
 rw [kaq (by omega),kjS (by omega) (by omega),show (((i+1:Nat):Int))=(i:Int)+1 by omega]
 unfold okRow
 simp only [List.all_cons,List.all_nil,Bool.and_true]
 cases wi (-1000) 1000 x.2.2.1.1
 ·simp
 cases wi (-1000) 1000 x.2.2.1.2.1
 ·simp
 cases wi (-1000) 1000 x.2.2.1.2.2
 ·simp
 by_cases h1:(23:Int)<x.2.2.2.1
 ·have:¬ x.2.2.2.1≤23:=by omega
  simp [h1,this]
 by_cases h2:(15:Int)<x.2.2.2.2
 ·have:¬ x.2.2.2.2≤15:=by omega
  simp [h1,h2,this]
 have h1':x.2.2.2.1≤23:=by omega
 have h2':x.2.2.2.2≤15:=by omega
 by_cases h3:x.1 = -1
 ·simp [h1,h2,h1',h2',h3]
 ·cases hw:wi ((i:Int)+1) ((d.length:Int)-1) x.1 <;> simp [h1,h2,h1',h2',h3,hw]
theorem kqK (c:Int×Int×Int):kfH c=some ([c.1,c.2.1,c.2.2].all (wi (-1000) 1000)):=by
 unfold kfH
 rw [kkn _ _ _ (by simp)]; rfl
theorem from1 (lo hi n:Int):kbm lo hi [n]=some (wi lo hi n):=by rw [kkn lo hi [n] (by simp)]; simp
theorem klG (d:List Sub) (hd:d.length≤100) (i:Nat) (hi:i≤100) (m:List (List UInt8×Bool)) (s:Sub) (hs:s.2.length≤100) (k:Nat) (hk:k<s.2.length) :
  kbM d ((i:Int),m) s (k:Int)=some (if okRow d.length i s.2[k]=true then .inl ((k+1:Nat):Int) else .inr (.inl 8)):=by
 unfold kbM
 rw [if_pos (lenI_lt.2 hk),kal hk]
 simp only [Option.bind_some,from1,kqK,kaG]
 rw [kaq (show i<_ by omega),kaq (show k<_ by omega),kjS (by omega) (by omega),show (((i+1:Nat):Int))=(i:Int)+1 by omega]
 obtain ⟨x,hx⟩:∃ x,x=s.2[k]:=⟨_,rfl⟩
 rw [←hx]
 clear hx
 unfold okRow
 by_cases h3:x.1 = -1
 ·have hw:wi ((i:Int)+1) ((d.length:Int)-1) x.1=false:=by rw [h3]; unfold wi; simp; omega
  rw [h3] at hw
  cases h4:wi 0 15 x.2.1
  ·simp [hw,h3]
  cases h5:([x.2.2.1.1,x.2.2.1.2.1,x.2.2.1.2.2].all (wi (-1000) 1000))
  ·simp [h3]
  by_cases h1:(24:Int)≤x.2.2.2.1
  ·have:¬ x.2.2.2.1≤23:=by omega
   simp [h1,this,h3]
  by_cases h2:(15:Int)<x.2.2.2.2
  ·have:¬ x.2.2.2.2≤15:=by omega
   simp [h1,h2,this,h3]
  have h1':x.2.2.2.1≤23:=by omega
  have h2':x.2.2.2.2≤15:=by omega
  simp [h1,h2,h1',h2',h3]
 ·cases h4:wi ((i:Int)+1) ((d.length:Int)-1) x.1
  ·simp [h3]
  cases h6:(x.2.1==0)
  ·simp [h3]
  cases h5:([x.2.2.1.1,x.2.2.1.2.1,x.2.2.1.2.2].all (wi (-1000) 1000))
  ·simp [h3]
  by_cases h1:(24:Int)≤x.2.2.2.1
  ·have:¬ x.2.2.2.1≤23:=by omega
   simp [h1,this,h3]
  by_cases h2:(15:Int)<x.2.2.2.2
  ·have:¬ x.2.2.2.2≤15:=by omega
   simp [h1,h2,this,h3]
  have h1':x.2.2.2.1≤23:=by omega
  have h2':x.2.2.2.2≤15:=by omega
  simp [h1,h2,h1',h2',h3]
theorem knW (d:List Sub) (hd:d.length≤100) (i:Nat) (hi:i≤100) (m:List (List UInt8×Bool)) (s:Sub) (hs:s.2.length≤100) :
  iter (kbM d ((i:Int),m) s) 0=some (if s.2.all (okRow d.length i)=true then .inr () else .inl 8):=by
 rw [show (0:Int)=((0:Nat):Int) from rfl,iter_any' (F:=kbM d ((i:Int),m) s) 8 (fun k=>(k:Int)) s.2.length (by omega) (fun k=>(s.2[k]?).all (okRow d.length i)) (fun k hk=>by rw [klG d hd i hi m s hs k hk,List.getElem?_eq_getElem hk]; rfl) (by unfold kbM; rw [if_neg kaz]),kee]
theorem khv {κ β:Type} [DecidableEq κ] (k k':κ) (v:β):∀ m:List (κ×β),mget (mput m k v) k'=if k'=k then some v else mget m k'
 | []=>by simp [mput,mget]
 | p::r=>by
  unfold mput
  by_cases h:k=p.1
  ·rw [if_pos h]
   unfold mget
   simp only
   by_cases h2:k'=k
   ·simp [h2]
   ·rw [if_neg h2,if_neg h2,if_neg (by rw [←h]; exact h2)]
  ·rw [if_neg h]
   unfold mget
   rw [khv k k' v r]
   by_cases h2:k'=p.1
   ·have:¬ k'=k:=fun e=>h (by rw [←e,h2])
    rw [if_pos h2,if_pos h2,if_neg this]
   ·rw [if_neg h2,if_neg h2]
def nmap (d:List Sub):Nat→List (List UInt8×Bool)
 | 0=>[]
 | i+1=>match d[i]? with | some s=>mput (nmap d i) s.1 true | none=>nmap d i
theorem kln (d:List Sub) (nm:List UInt8):∀ i,i≤d.length→(mget (nmap d i) nm).getD false=(d.take i).any fun s=>s.1==nm
 | 0,_=>rfl
 | i+1,h=>by
  unfold nmap
  rw [List.getElem?_eq_getElem (by omega),List.take_succ_eq_append_getElem (by omega),List.any_append]
  simp only
  rw [khv]
  by_cases e:nm=d[i].1
  ·simp [e]
  ·rw [if_neg e,kln d nm i (by omega)]
   have:¬ d[i].1=nm:=fun h=>e h.symm
   simp [this]
def rowOk (d:List Sub) (i:Nat):Bool:=(d[i]?).all fun s=>kbB s.1&&!((d.take i).any fun t=>t.1==s.1)&&decide (s.2.length≤20)&&s.2.all (okRow d.length i)
def valid (d:List Sub):Bool:=wi 1 8 d.length&&(List.range d.length).all (rowOk d)
def Small (d:List Sub):Prop:=d.length≤12∧∀ s∈d,s.1.length≤100∧s.2.length≤30
theorem kjf (d:List Sub) (hd:Small d):kci d=some (if valid d=true then 0 else 8):=by
 have hl:=hd.1
 unfold kci valid
 rw [from1,kaG]
 cases h:wi 1 8 (d.length:Int)
 ·simp
 simp only [Option.bind_some,Bool.not_true,Bool.false_eq_true,if_false,Bool.true_and]
 rw [show ((0,[]):Int×List (List UInt8×Bool))=(fun i:Nat=>((i:Int),nmap d i)) 0 from rfl,iter_any' (F:=kdr d) 8 (fun i:Nat=>((i:Int),nmap d i)) d.length (by omega) (rowOk d) (fun i hi=>?_) (by unfold kdr; simp only; rw [if_neg kaz])]
 ·cases (List.range d.length).all (rowOk d) <;> rfl
 ·obtain ⟨k1,k2⟩:=hd.2 _ (List.getElem_mem hi)
  unfold kdr
  simp only
  rw [if_pos (lenI_lt.2 hi),kal hi]
  simp only [Option.bind_some]
  rw [kpn _ (by omega),kln d _ i (by omega)]
  simp only [Option.bind_some,kaG]
  have hr:rowOk d i=(kbB d[i].1&&!((d.take i).any fun t=>t.1==d[i].1)&&decide (d[i].2.length≤20)&&d[i].2.all (okRow d.length i)):=by unfold rowOk; rw [List.getElem?_eq_getElem hi]; rfl
  have hn:nmap d (i+1)=mput (nmap d i) d[i].1 true:=by
   rw [nmap]; rw [List.getElem?_eq_getElem hi]
  rw [hr,hn]
  cases kbB d[i].1
  ·simp
  cases ((d.take i).any fun s=>s.1==d[i].1)
  ·by_cases h20:(20:Int)<((d[i].2.length:Nat):Int)
   ·have:¬ d[i].2.length≤20:=by omega
    simp [h20,this]
   ·have h20':d[i].2.length≤20:=by omega
    rw [knW d (by omega) i (by omega) _ _ (by omega)]
    rw [kaq (by omega)]
    simp only [h20,h20',decide_false,decide_true,Bool.not_true,Bool.false_eq_true,if_false,Bool.not_false,Bool.true_and,Bool.and_true,Option.bind_some]
    cases d[i].2.all (okRow d.length i) <;> rfl
  ·simp
end Go.Abs
namespace Go.Abs
open Go
def findN (d:List Sub) (nm:List UInt8):Int:=if d.any (fun s=>s.1==nm)=true then ((d.findIdx fun s=>s.1==nm:Nat):Int) else -1
theorem kod (d:List Sub) (hd:d.length≤100) (nm:List UInt8):kdT d nm=some (findN d nm):=by
 unfold kdT
 rw [kjs (F:=kdn d nm) d (by omega) (fun i x=>if (x.1==nm)=true then some (i:Int) else none) (fun i hi=>by
  unfold kdn
  rw [if_pos (lenI_lt.2 hi),kal hi,kaq (by omega)]
  simp only [Option.bind_some]
  by_cases h:(d[i].1==nm)=true <;> simp [h,nextL]) (by unfold kdn; rw [if_neg kaz])]
 have:∀ (l:List Sub) (k:Nat),endL ((l.zipIdx k).findSome? fun x=>if (x.1.1==nm)=true then some (x.2:Int) else none)=(if l.any (fun s=>s.1==nm)=true then .inl ((k:Int)+(l.findIdx (fun s=>s.1==nm):Nat)) else .inr ()):=by
  intro l
  induction l with
  | nil=>intro k; rfl
  | cons x l ih=>
   intro k
   rw [List.zipIdx_cons,List.findSome?_cons,List.any_cons,List.findIdx_cons]
   cases hp:(x.1==nm) with
   | true=>simp [endL]
   | false=>
    simp only [Bool.false_eq_true,if_false,Bool.false_or,cond_false]
    rw [ih (k+1)]
    congr 2; push_cast; omega
 rw [this d 0]
 unfold findN
 by_cases h:d.any (fun s=>s.1==nm)=true <;> simp [h]
theorem koJ (d:List Sub) (i:Nat) (hi:i<d.length):(findN d d[i].1=(i:Int))↔((d.take i).any fun t=>t.1==d[i].1)=false:=by
 have ha:d.any (fun s=>s.1==d[i].1)=true:=List.any_eq_true.2 ⟨d[i],List.getElem_mem hi,by simp⟩
 unfold findN
 rw [if_pos ha]
 constructor
 ·intro h
  have h':d.findIdx (fun s=>s.1==d[i].1)=i:=by omega
  rw [List.any_eq_false]
  intro t ht
  obtain ⟨k,hk,rfl⟩:=List.mem_iff_getElem.1 ht
  rw [List.length_take] at hk
  rw [List.getElem_take]
  have:=List.not_of_lt_findIdx (p:=fun s:Sub=>s.1==d[i].1) (xs:=d) (i:=k) (by omega)
  simpa using this
 ·intro h
  have hle:d.findIdx (fun s=>s.1==d[i].1)≤i:=Nat.le_of_not_lt fun hlt=>by
   have:=List.not_of_lt_findIdx (p:=fun s:Sub=>s.1==d[i].1) (xs:=d) (i:=i) hlt
   simp at this
  have hlt:d.findIdx (fun s=>s.1==d[i].1)<d.length:=by omega
  have hp:=List.findIdx_getElem (p:=fun s:Sub=>s.1==d[i].1) (xs:=d) (w:=hlt)
  rcases Nat.lt_or_eq_of_le hle with hl | he
  ·rw [List.any_eq_false] at h
   exact absurd hp (h _ (List.mem_iff_getElem.2 ⟨d.findIdx (fun s=>s.1==d[i].1),by rw [List.length_take]; omega,by rw [List.getElem_take]⟩))
  ·omega
theorem knR (d:List Sub) (hd:d.length≤100) (i:Nat) (hi:i≤100) (s:Sub) (hs:s.2.length≤100) :
  iter (kca d (i:Int) s) 0=some (if s.2.all (okRow d.length i)=true then .inr () else .inl false):=by
 rw [show (0:Int)=((0:Nat):Int) from rfl,iter_any' (F:=kca d (i:Int) s) false (fun k=>(k:Int)) s.2.length (by omega) (fun k=>(s.2[k]?).all (okRow d.length i)) (fun k hk=>by
  unfold kca
  rw [if_pos (lenI_lt.2 hk),kal hk,List.getElem?_eq_getElem hk]
  simp only [Option.bind_some]
  rw [kqU d hd i hi,kaq (by omega)]
  show _=some (if okRow d.length i s.2[k]=true then _ else _)
  simp only [Option.bind_some]
  cases okRow d.length i s.2[k] <;> rfl) (by unfold kca; rw [if_neg kaz]),kee]
theorem klI (d:List Sub) (hd:Small d):kcw d=some (valid d):=by
 have hl:=hd.1
 unfold kcw valid
 rw [kaG]
 by_cases h1:((d.length:Nat):Int)<1
 ·have:wi 1 8 (d.length:Int)=false:=by unfold wi; simp; omega
  simp [h1,this]
 by_cases h2:(8:Int)<((d.length:Nat):Int)
 ·have:wi 1 8 (d.length:Int)=false:=by unfold wi; simp; omega
  simp [h1,h2,this]
 have hw:wi 1 8 (d.length:Int)=true:=by rw [kjQ]; omega
 simp only [h1,h2,decide_false,Bool.false_eq_true,if_false,hw,Bool.true_and]
 rw [show (0:Int)=((0:Nat):Int) from rfl,iter_any' (F:=kcT d) false (fun i:Nat=>(i:Int)) d.length (by omega) (rowOk d) (fun i hi=>?_) (by unfold kcT; rw [if_neg kaz])]
 ·cases (List.range d.length).all (rowOk d) <;> rfl
 ·obtain ⟨k1,k2⟩:=hd.2 _ (List.getElem_mem hi)
  unfold kcT
  rw [if_pos (lenI_lt.2 hi),kal hi]
  simp only [Option.bind_some]
  rw [kot _ (by omega),kod d (by omega),knR d (by omega) i (by omega) _ (by omega),kaq (by omega)]
  have hr:rowOk d i=(kbB d[i].1&&!((d.take i).any fun t=>t.1==d[i].1)&&decide (d[i].2.length≤20)&&d[i].2.all (okRow d.length i)):=by unfold rowOk; rw [List.getElem?_eq_getElem hi]; rfl
  rw [hr]
  simp only [Option.bind_some,kaG]
  have hf:=koJ d i hi
  cases kbB d[i].1
  ·simp
  by_cases h20:(20:Int)<((d[i].2.length:Nat):Int)
  ·have:¬ d[i].2.length≤20:=by omega
   simp [h20,this]
  ·have h20':d[i].2.length≤20:=by omega
   cases ha:((d.take i).any fun t=>t.1==d[i].1)
   ·have hf:=hf.2 ha
    simp only [h20,h20',hf,bne_self_eq_false,decide_false,decide_true,Bool.not_true,Bool.false_eq_true,if_false,Bool.not_false,Bool.true_and,Bool.and_true,Option.bind_some]
    cases d[i].2.all (okRow d.length i) <;> rfl
   ·have hf:¬ findN d d[i].1=(i:Int):=fun e=>by rw [hf.1 e] at ha; cases ha
    have:(findN d d[i].1 != (i:Int))=true:=by simpa using hf
    simp [h20,this]
theorem kqz (d:List Sub):∃ b,kek d=some b∧(b=false→Small d):=by
 unfold kek
 rw [kaG]
 by_cases h1:(12:Int)<((d.length:Nat):Int)
 ·exact ⟨true,by simp [h1],fun e=>by cases e⟩
 simp only [h1,decide_false,Bool.false_eq_true,if_false]
 rw [show (0:Int)=((0:Nat):Int) from rfl,iter_any' (F:=kcY d) true (fun i:Nat=>(i:Int)) d.length (by omega) (fun i=>(d[i]?).all fun s=>decide (s.2.length≤30)&&decide (s.1.length≤100)) (fun i hi=>?_) (by unfold kcY; rw [if_neg kaz]),kee]
 ·cases h:(d.all fun s=>decide (s.2.length≤30)&&decide (s.1.length≤100))
  ·exact ⟨true,rfl,fun e=>by cases e⟩
  ·refine ⟨false,rfl,fun _=>⟨by omega,fun s hs=>?_⟩⟩
   have:=List.all_eq_true.1 h s hs
   simp only [Bool.and_eq_true,decide_eq_true_eq] at this
   exact ⟨this.2,this.1⟩
 ·unfold kcY
  rw [if_pos (lenI_lt.2 hi),kal hi,List.getElem?_eq_getElem hi]
  simp only [Option.bind_some,kaG]
  show _=some (if (decide (d[i].2.length≤30)&&decide (d[i].1.length≤100))=true then _ else _)
  rw [kaq (by omega)]
  by_cases h30:(30:Int)<((d[i].2.length:Nat):Int)
  ·have:¬ d[i].2.length≤30:=by omega
   simp [h30,this]
  have h30':d[i].2.length≤30:=by omega
  by_cases h100:(100:Int)<((d[i].1.length:Nat):Int)
  ·have:¬ d[i].1.length≤100:=by omega
   simp [h30,h30',h100,this]
  have h100':d[i].1.length≤100:=by omega
  simp [h30,h30',h100,h100']
theorem kbZ {σ τ:Type} {F:σ→Option (σ⊕τ)} (e:Nat→σ) (m:Nat) (hm:m<18446744073709551616) (z:τ) (h1:∀ i,i<m→F (e i)=some (.inl (e (i+1)))) (h2:F (e m)=some (.inr z)):iter F (e 0)=some z:=by
 have:∀ k i:Nat,i+k=m→itN F (k+1) (e i)=some z:=by
  intro k
  induction k with
  | zero=>
   intro i h
   have:i=m:=by omega
   subst this
   rw [kdv h2]
  | succ k ih=>intro i h; rw [kjW (h1 i (by omega)),ih (i+1) (by omega)]
 exact kgb (this m 0 (by omega)) (by omega)
theorem kku (d:List Sub) (hl:d.length≤100) (hr:∀ s∈d,s.2.length≤1000):kbq d=some d:=by
 unfold kbq
 rw [show ((0,[]):Int×List Sub)=(fun i:Nat=>((i:Int),d.take i)) 0 from rfl,kbZ (F:=kcn d) (fun i:Nat=>((i:Int),d.take i)) d.length (by omega) d (fun i hi=>?_) (by unfold kcn; simp only; rw [if_neg kaz,List.take_length])]
 ·rfl
 ·have hs:=hr _ (List.getElem_mem hi)
  unfold kcn
  simp only
  rw [if_pos (lenI_lt.2 hi),kal hi]
  simp only [Option.bind_some]
  rw [keA (by simp; omega)]
  simp only [Option.bind_some,List.nil_append]
  rw [keA (by simp; omega),kaq (by omega)]
  simp only [Option.bind_some]
  rw [List.take_succ_eq_append_getElem hi]
theorem khB {α:Type} {f:α→α→Bool} (h:∀ x,f x x=true):∀ l:List α,lbeq f l l=true
 | []=>rfl
 | x::l=>by simp [lbeq,h x,khB h l]
theorem kkW {t:Ty} {x:t.den} (h:teq t x x=true):bthO t (some x) (some x)=some x:=by
 unfold bthO
 simp only [h,if_true]
theorem kmG (x:Line):teq tLine x x=true:=by simp [teq]
theorem krj (x:Sub):teq tSub x x=true:=by
 simp only [teq,Bool.and_eq_true,decide_true,true_and]
 exact khB kmG x.2
theorem kkj (d:List Sub) (hl:d.length≤100) (hr:∀ s∈d,s.2.length≤1000):kcQ d d=some true:=by
 unfold kcQ
 rw [kaG]
 simp only [bne_self_eq_false,Bool.false_eq_true,if_false]
 rw [show (0:Int)=((0:Nat):Int) from rfl,kbZ (F:=kdq d d) (fun i:Nat=>(i:Int)) d.length (by omega) (.inr ()) (fun i hi=>?_) (by unfold kdq; rw [if_neg kaz])]
 ·rfl
 ·have hs:=hr _ (List.getElem_mem hi)
  unfold kdq
  rw [if_pos (lenI_lt.2 hi),kal hi]
  simp only [Option.bind_some]
  rw [kkW (t:=.pr .s (.pr (.sl tLine) tSub)) (by
   have h1:=krj d[i]
   have h2:=khB kmG d[i].2
   simp only [teq,Bool.and_eq_true,decide_true,true_and] at h1 ⊢
   exact ⟨h2,h2⟩)]
  simp only [Option.bind_some,kaG,bne_self_eq_false,beq_self_eq_true,Bool.not_true,Bool.false_eq_true,if_false]
  rw [show (0:Int)=((0:Nat):Int) from rfl,kbZ (F:=kdm (d[i].1,d[i].2,d[i])) (fun k:Nat=>(k:Int)) d[i].2.length (by omega) (.inr ()) (fun k hk=>by
   unfold kdm
   simp only
   rw [if_pos (lenI_lt.2 hk),kal hk]
   simp only [Option.bind_some,beq_self_eq_true,Bool.and_self,Bool.not_true,Bool.false_eq_true,if_false]
   rw [kaq (by omega)]) (by unfold kdm; simp only; rw [if_neg kaz])]
  simp only [Option.bind_some]
  rw [kaq (by omega)]
end Go.Abs
namespace Go.Abs
open Go
theorem kfB {σ τ:Type} {F:Int×σ→Option ((Int×σ)⊕τ)} (m:Nat) (hm:m<18446744073709551616) (I:Nat→σ→Prop) (fin:σ→τ)
  (h1:∀ i s,i<m→I i s→∃ s',F ((i:Int),s)=some (.inl (((i+1:Nat):Int),s'))∧I (i+1) s') (h2:∀ s,I m s→F ((m:Int),s)=some (.inr (fin s))) (s:σ) (h0:I 0 s) :
  ∃ s',I m s'∧iter F (0,s)=some (fin s'):=by
 have:∀ k i s,i+k=m→I i s→∃ s',I m s'∧itN F (k+1) ((i:Int),s)=some (fin s'):=by
  intro k
  induction k with
  | zero=>
   intro i s h hs
   have:i=m:=by omega
   subst this
   exact ⟨s,hs,kdv (h2 s hs)⟩
  | succ k ih=>
   intro i s h hs
   obtain ⟨s',e,hs'⟩:=h1 i s (by omega) hs
   rw [kjW e]
   exact ih (i+1) s' (by omega) hs'
 obtain ⟨s',h,e⟩:=this m 0 s (by omega) h0
 exact ⟨s',h,kgb e (by omega)⟩
def shp2 (d:List Sub):List Nat:=d.map fun s=>s.2.length
theorem kks {d e:List Sub} (h:shp2 e=shp2 d) {i:Nat} (hi:i<d.length):∃ h':i<e.length,e[i].2.length=d[i].2.length:=by
 have hl:e.length=d.length:=by have:=congrArg List.length h; simpa [shp2] using this
 refine ⟨by omega,?_⟩
 have:=congrArg (fun l=>l[i]?) h
 simp only [shp2,List.getElem?_map,List.getElem?_eq_getElem hi,List.getElem?_eq_getElem (show i<e.length by omega),Option.map_some,Option.some.injEq] at this
 exact this
theorem kmd {e:List Sub} {i:Nat} (hi:i<e.length) {s:Sub} (hs:s.2.length=e[i].2.length):shp2 (e.set i s)=shp2 e:=by
 unfold shp2
 rw [List.map_set]
 refine List.ext_getElem? fun k=>?_
 by_cases hk:i=k
 ·subst hk
  rw [List.getElem?_set_self (by simpa using hi)]
  simp [List.getElem?_eq_getElem hi,hs]
 ·rw [List.getElem?_set_ne hk]
theorem knp (d:List Sub) (hl:d.length≤100) (hr:∀ s∈d,s.2.length≤1000):kbX d=some ():=by
 unfold kbX
 obtain ⟨s',h,e⟩:=kfB (F:=kbU d) d.length (by omega) (fun i e=>shp2 e=shp2 d) (fun _=>()) (fun i e hi he=>by
  obtain ⟨hie,hei⟩:=kks he hi
  have hrow:=hr _ (List.getElem_mem hi)
  unfold kbU
  simp only
  rw [if_pos (lenI_lt.2 hi),kal hie]
  simp only [Option.bind_some]
  obtain ⟨e2,h2,h3⟩:=kfB (F:=kbP ((i:Int),e) e[i]) e[i].2.length (by omega) (fun k e2=>shp2 e2=shp2 d) (fun e=>e) (fun k e2 hk h2=>by
   obtain ⟨hi2,hei2⟩:=kks h2 hi
   have hk2:k<e2[i].2.length:=by omega
   unfold kbP
   simp only
   rw [if_pos (lenI_lt.2 hk),kal hi2]
   simp only [Option.bind_some]
   rw [kal hk2]
   simp only [Option.bind_some]
   rw [kaq (by omega)]
   refine ⟨_,rfl,?_⟩
   unfold lset
   rw [Int.toNat_natCast,kmd hi2 (by simp),h2]) (fun e2 h2=>by unfold kbP; simp only; rw [if_neg kaz]) e he
  rw [h3]
  obtain ⟨hi2,hei2⟩:=kks h2 hi
  simp only [Option.bind_some]
  rw [kal hi2]
  simp only [Option.bind_some]
  rw [kaq (by omega)]
  refine ⟨_,rfl,?_⟩
  unfold lset
  rw [Int.toNat_natCast,kmd hi2 (by simp),h2]) (fun e he=>by unfold kbU; simp only; rw [if_neg kaz]) d rfl
 rw [e]; rfl
def sel (keep:Nat→Bool) (d:List Sub):Nat→List Sub
 | 0=>[]
 | i+1=>match keep i,d[i]? with | true,some s=>sel keep d i++[s] | _,_=>sel keep d i
def numM (keep:Nat→Bool) (d:List Sub):Nat→List (Int×Int)
 | 0=>[]
 | i+1=>match keep i with | true=>mput (numM keep d i) (i:Int) ((sel keep d i).length:Int) | false=>numM keep d i
theorem kfe {keep:Nat→Bool} {d:List Sub} {i:Nat} (hi:i<d.length):sel keep d (i+1)=if keep i=true then sel keep d i++[d[i]] else sel keep d i:=by
 rw [sel,List.getElem?_eq_getElem hi]
 cases keep i <;> rfl
theorem keW {keep:Nat→Bool} {d:List Sub}:∀ i,i≤d.length→(sel keep d i).length≤i
 | 0,_=>by simp [sel]
 | i+1,h=>by
  have:=keW (keep:=keep) (d:=d) i (by omega)
  rw [kfe (by omega)]
  split
  ·simp; omega
  ·omega
theorem keU {keep:Nat→Bool} {d:List Sub}:∀ i,i≤d.length→∀ s∈sel keep d i,∃ k,∃ h:k<d.length,keep k=true∧s=d[k]
 | 0,_,s,hs=>by simp [sel] at hs
 | i+1,h,s,hs=>by
  rw [kfe (by omega)] at hs
  split at hs
  ·rename_i hk
   rcases List.mem_append.1 hs with hs | hs
   ·exact keU i (by omega) s hs
   ·exact ⟨i,by omega,hk,by simpa using hs⟩
  ·exact keU i (by omega) s hs
theorem kgC {keep:Nat→Bool} {d:List Sub} (j:Nat):∀ i,i≤d.length→mget (numM keep d i) (j:Int)=if j<i∧keep j=true then some ((sel keep d j).length:Int) else none
 | 0,_=>by simp [numM,mget]
 | i+1,h=>by
  rw [numM]
  cases hk:keep i with
  | false=>
   simp only
   rw [kgC j i (by omega)]
   by_cases hj:j=i
   ·subst hj; simp [hk]
   ·have:(j<i+1)↔(j<i):=by omega
    simp [this]
  | true=>
   simp only
   rw [khv,kgC j i (by omega)]
   by_cases hj:j=i
   ·subst hj; simp [hk]
   ·have h1:¬ (j:Int)=(i:Int):=by omega
    have:(j<i+1)↔(j<i):=by omega
    simp [this,h1,hj]
theorem kqy (l:List Line) (hl:l.length≤1000):kap l=some l:=by
 unfold kap
 rw [keA (by simp; omega)]
 simp only [Option.bind_some,List.nil_append]
 cases l with
 | nil=>simp only [isE,List.isEmpty_nil,if_true]; exact kkW (t:=.sl tLine) rfl
 | cons x l=>rfl
def reL (ρ:Int→Int) (l:Line):Line:=if 0≤l.1 then (ρ l.1,l.2) else l
def reS (ρ:Int→Int) (s:Sub):Sub:=(s.1,s.2.map (reL ρ))
def kao {α:Type} (g:α→α) (l:List α) (i:Nat):List α:=(l.take i).map g++l.drop i
theorem keq {α:Type} {g:α→α} {l:List α}:kao g l 0=l:=by simp [kao]
theorem keO {α:Type} {g:α→α} {l:List α}:kao g l l.length=l.map g:=by simp [kao]
theorem kbh {α:Type} {g:α→α} {l:List α} {i:Nat}:(kao g l i).length=l.length:=by simp [kao]; omega
theorem kbY {α:Type} {g:α→α} {l:List α} {i:Nat} (hi:i<l.length):(kao g l i)[i]'(by rw [kbh]; exact hi)=l[i]:=by
 have:(kao g l i)[i]?=some l[i]:=by
  unfold kao
  rw [List.getElem?_append_right (by simp; omega),List.getElem?_drop]
  simp only [List.length_map,List.length_take]
  rw [show i+(i-min i l.length)=i by omega,List.getElem?_eq_getElem hi]
 rw [List.getElem?_eq_getElem (by rw [kbh]; exact hi)] at this
 exact Option.some.inj this
theorem keJ {α:Type} {g:α→α} {l:List α} {i:Nat} (hi:i<l.length):(kao g l i).set i (g l[i])=kao g l (i+1):=by
 unfold kao
 rw [List.set_append,if_neg (by simp; omega)]
 simp only [List.length_map,List.length_take]
 rw [show i-min i l.length=0 by omega,List.drop_eq_getElem_cons hi,List.set_cons_zero,List.take_succ_eq_append_getElem hi,List.map_append,List.append_assoc]
 rfl
theorem kgI {α:Type} {l:List α} {i:Nat} {x:α} (hi:i<l.length):(l.set i x)[i]'(by simpa using hi)=x:=by simp
theorem koK (N:List (Int×Int)) (O:List Sub) (hO:O.length≤100) (e:List Sub) (i:Nat) (he:e.length≤100) (hi:i<e.length) (hs:e[i].2.length≤1000) :
  iter (kbW (O,N) ((i:Int),e) e[i]) (0,e)=some (e.set i (reS (fun x=>(mget N x).getD 0) e[i])):=by
 obtain ⟨s,hse⟩:∃ s,s=e[i]:=⟨_,rfl⟩
 rw [←hse] at hs ⊢
 have e0:e=e.set i (s.1,kao (reL fun x=>(mget N x).getD 0) s.2 0):=by rw [keq,hse]; exact (List.set_getElem_self hi).symm
 have e1:e.set i (reS (fun x=>(mget N x).getD 0) s)=e.set i (s.1,kao (reL fun x=>(mget N x).getD 0) s.2 s.2.length):=by rw [keO]; rfl
 rw [e1]
 have key:=kbZ (F:=kbW (O,N) ((i:Int),e) s) (fun k:Nat=>((k:Int),e.set i (s.1,kao (reL fun x=>(mget N x).getD 0) s.2 k))) s.2.length (by omega) (e.set i (s.1,kao (reL fun x=>(mget N x).getD 0) s.2 s.2.length)) (fun k hk=>by
  have hi':i<(e.set i (s.1,kao (reL fun x=>(mget N x).getD 0) s.2 k)).length:=by simpa using hi
  have hkk:k<(kao (reL fun x=>(mget N x).getD 0) s.2 k).length:=by rw [kbh]; exact hk
  unfold kbW
  simp only
  rw [if_pos (lenI_lt.2 hk),kal hi',kgI hi]
  simp only [Option.bind_some]
  rw [kal hkk,kbY hk]
  simp only [Option.bind_some]
  rw [kaq (by omega)]
  have hset:=keJ (g:=reL fun x=>(mget N x).getD 0) hk
  unfold lset
  simp only [Int.toNat_natCast,List.set_set]
  by_cases h0:0≤s.2[k].1
  ·have hr:reL (fun x=>(mget N x).getD 0) s.2[k]=((mget N s.2[k].1).getD 0,s.2[k].2):=by unfold reL; rw [if_pos h0]
   rw [hr] at hset
   simp only [h0,decide_true,if_true]
   rw [hset]
  ·have hr:reL (fun x=>(mget N x).getD 0) s.2[k]=s.2[k]:=by unfold reL; rw [if_neg h0]
   rw [hr] at hset
   have hself:(kao (reL fun x=>(mget N x).getD 0) s.2 k).set k s.2[k]=kao (reL fun x=>(mget N x).getD 0) s.2 k:=by
    conv=>lhs; rw [←kbY (g:=reL fun x=>(mget N x).getD 0) hk]
    exact List.set_getElem_self _
   rw [hself] at hset
   simp only [h0,decide_false,Bool.false_eq_true,if_false]
   rw [←hset]) (by unfold kbW; simp only; rw [if_neg kaz])
 replace key:iter _ (((0:Nat):Int),_)=some _:=key
 rw [←e0] at key
 exact key
theorem kou (d:List Sub) (hl:d.length≤100) (hr:∀ s∈d,s.2.length≤1000) (keep:Nat→Bool) (f:Int→Option Bool) (hf:∀ i,i<d.length→f (i:Int)=some (keep i)) :
  kcb d f=some ((sel keep d d.length).map (reS fun x=>(mget (numM keep d d.length) x).getD 0)):=by
 unfold kcb
 have h0:=kbZ (F:=kcz d f) (fun i:Nat=>((i:Int),numM keep d i,sel keep d i)) d.length (by omega) (sel keep d d.length,numM keep d d.length) (fun i hi=>by
  have hrow:=hr _ (List.getElem_mem hi)
  have hsl:=keW (keep:=keep) (d:=d) i (by omega)
  unfold kcz
  simp only
  rw [if_pos (lenI_lt.2 hi),kal hi,hf i hi]
  simp only [Option.bind_some]
  rw [kfe hi,kaq (by omega)]
  have hn:numM keep d (i+1)=if keep i=true then mput (numM keep d i) (i:Int) ((sel keep d i).length:Int) else numM keep d i:=by
   rw [numM]; cases keep i <;> rfl
  rw [hn]
  cases keep i with
  | false=>simp
  | true=>
   simp only [if_true]
   rw [kqy _ (by omega)]
   simp only [Option.bind_some]
   rw [keA (by simp; omega)]
   rfl) (by unfold kcz; simp only; rw [if_neg kaz])
 rw [show ((0,[],[]):Int×List (Int×Int)×List Sub)=(((0:Nat):Int),numM keep d 0,sel keep d 0) from rfl,h0]
 simp only [Option.bind_some]
 have hsl:=keW (keep:=keep) (d:=d) d.length (by omega)
 have hrs:∀ s∈sel keep d d.length,s.2.length≤1000:=fun s hs=>by
  obtain ⟨k,hk,_,rfl⟩:=keU _ (Nat.le_refl _) s hs
  exact hr _ (List.getElem_mem hk)
 generalize sel keep d d.length=O at *
 generalize numM keep d d.length=N
 have h1:=kbZ (F:=kcy (O,N)) (fun i:Nat=>((i:Int),kao (reS fun x=>(mget N x).getD 0) O i)) O.length (by omega) (O.map (reS fun x=>(mget N x).getD 0)) (fun i hi=>by
  have hi':i<(kao (reS fun x=>(mget N x).getD 0) O i).length:=by rw [kbh]; exact hi
  unfold kcy
  simp only
  rw [if_pos (lenI_lt.2 hi),kal hi']
  simp only [Option.bind_some]
  rw [koK N O (by omega) _ i (by rw [kbh]; omega) hi' (by rw [kbY hi]; exact hrs _ (List.getElem_mem hi))]
  simp only [Option.bind_some]
  rw [kaq (by omega),kbY hi,keJ hi]) (by unfold kcy; simp only; rw [if_neg kaz,keO])
 rw [show (((0:Nat):Int),kao (reS fun x=>(mget N x).getD 0) O 0)=(((0:Nat):Int),O) by rw [keq]] at h1
 rw [show ((0,O):Int×List Sub)=(((0:Nat):Int),O) from rfl,h1]
 rfl
end Go.Abs
namespace Go.Abs
open Go
def numL (keep:Nat→Bool) (d:List Sub) (i:Nat):List Int:=(List.range d.length).map fun k=>if k<i then ((sel keep d k).length:Int) else 0
theorem kjc {keep:Nat→Bool} {d:List Sub} {i:Nat}:(numL keep d i).length=d.length:=by simp [numL]
theorem kqk {keep:Nat→Bool} {d:List Sub} {i:Nat} (hi:i<d.length):(numL keep d i).set i ((sel keep d i).length:Int)=numL keep d (i+1):=by
 refine List.ext_getElem? fun k=>?_
 by_cases hk:i=k
 ·subst hk
  rw [List.getElem?_set_self (by rw [kjc]; exact hi)]
  simp [numL,hi]
 ·rw [List.getElem?_set_ne hk]
  unfold numL
  rw [List.getElem?_map,List.getElem?_map]
  rcases Nat.lt_or_ge k d.length with hkd | hkd
  ·rw [List.getElem?_range hkd]
   simp only [Option.map_some]
   have:(k<i+1)↔(k<i):=by omega
   simp only [this]
  ·rw [List.getElem?_eq_none (by simpa using hkd)]; rfl
def Lead (n:Nat) (s:Sub):Prop:=∀ l∈s.2,0≤l.1→l.1<(n:Int)
def rhoL (N:List Int) (x:Int):Int:=(gi N x).getD 0
theorem klw (N:List Int) (O:List Sub) (e:List Sub) (i:Nat) (he:e.length≤100) (hi:i<e.length) (hs:e[i].2.length≤1000) (hld:Lead N.length e[i]) :
  iter (kbc (O,N) ((i:Int),e)) (0,e)=some (e.set i (reS (rhoL N) e[i])):=by
 obtain ⟨s,hse⟩:∃ s,s=e[i]:=⟨_,rfl⟩
 rw [←hse] at hs hld ⊢
 have e0:e=e.set i (s.1,kao (reL (rhoL N)) s.2 0):=by rw [keq,hse]; exact (List.set_getElem_self hi).symm
 have e1:e.set i (reS (rhoL N) s)=e.set i (s.1,kao (reL (rhoL N)) s.2 s.2.length):=by rw [keO]; rfl
 rw [e1]
 have key:=kbZ (F:=kbc (O,N) ((i:Int),e)) (fun k:Nat=>((k:Int),e.set i (s.1,kao (reL (rhoL N)) s.2 k))) s.2.length (by omega) (e.set i (s.1,kao (reL (rhoL N)) s.2 s.2.length)) (fun k hk=>by
  have hi':i<(e.set i (s.1,kao (reL (rhoL N)) s.2 k)).length:=by simpa using hi
  have hkk:k<(kao (reL (rhoL N)) s.2 k).length:=by rw [kbh]; exact hk
  unfold kbc
  simp only
  rw [kal hi',kgI hi]
  simp only [Option.bind_some]
  rw [if_pos (lenI_lt.2 hkk)]
  rw [kal hkk,kbY hk]
  simp only [Option.bind_some]
  rw [kaq (by omega)]
  have hset:=keJ (g:=reL (rhoL N)) hk
  unfold lset
  simp only [Int.toNat_natCast,List.set_set]
  by_cases h0:0≤s.2[k].1
  ·have hr:reL (rhoL N) s.2[k]=(rhoL N s.2[k].1,s.2[k].2):=by unfold reL; rw [if_pos h0]
   rw [hr] at hset
   have hlt:=hld _ (List.getElem_mem hk) h0
   have hg:gi N s.2[k].1=some (rhoL N s.2[k].1):=by
    unfold rhoL
    rw [kri h0 (by omega)]; rfl
   rw [hg]
   simp only [h0,decide_true,if_true,Option.bind_some]
   rw [hset]
  ·have hr:reL (rhoL N) s.2[k]=s.2[k]:=by unfold reL; rw [if_neg h0]
   rw [hr] at hset
   have hself:(kao (reL (rhoL N)) s.2 k).set k s.2[k]=kao (reL (rhoL N)) s.2 k:=by
    conv=>lhs; rw [←kbY (g:=reL (rhoL N)) hk]
    exact List.set_getElem_self _
   rw [hself] at hset
   simp only [h0,decide_false,Bool.false_eq_true,if_false]
   rw [←hset]) (by
  have hi':i<(e.set i (s.1,kao (reL (rhoL N)) s.2 s.2.length)).length:=by simpa using hi
  unfold kbc
  simp only
  rw [kal hi',kgI hi]
  simp only [Option.bind_some]
  rw [if_neg (by rw [lenI_lt,kbh]; omega)])
 replace key:iter _ (((0:Nat):Int),_)=some _:=key
 rw [←e0] at key
 exact key
theorem koF (d:List Sub) (hl:d.length≤100) (hr:∀ s∈d,s.2.length≤1000) (hld:∀ s∈d,Lead d.length s) (keep:Nat→Bool) (g:List Bool) (hg:∀ i,i<d.length→g[i]?=some (!keep i)) :
  kcl d g=some ((sel keep d d.length).map (reS (rhoL (numL keep d d.length)))):=by
 unfold kcl
 have hgm:gmk (lenI d) (0:Int)=some (numL keep d 0):=by
  unfold gmk
  rw [kaG,if_pos ⟨by omega,by omega⟩,Int.toNat_natCast]
  congr 1
  refine List.ext_getElem? fun k=>?_
  unfold numL
  rw [List.getElem?_map]
  rcases Nat.lt_or_ge k d.length with hkd | hkd
  ·rw [List.getElem?_range hkd]; simp [hkd]
  ·rw [List.getElem?_eq_none (by simpa using hkd),List.getElem?_eq_none (by simpa using hkd)]; rfl
 rw [hgm]
 simp only [Option.bind_some]
 have h0:=kbZ (F:=kbH d g) (fun i:Nat=>((i:Int),numL keep d i,sel keep d i)) d.length (by omega) (sel keep d d.length,numL keep d d.length) (fun i hi=>by
  have hsl:=keW (keep:=keep) (d:=d) i (by omega)
  have hgi:gi g (i:Int)=some (!keep i):=by rw [kfw]; exact hg i hi
  unfold kbH
  simp only
  rw [if_pos (lenI_lt.2 hi),kal (show i<(numL keep d i).length by rw [kjc]; exact hi),hgi,kal hi]
  simp only [Option.bind_some]
  rw [kfe hi,kaq (by omega)]
  unfold lset
  rw [Int.toNat_natCast,kaG,kqk hi]
  cases keep i with
  | false=>simp
  | true=>
   simp only [Bool.not_true,Bool.not_false,if_true]
   rw [keA (by simp; omega)]
   rfl) (by unfold kbH; simp only; rw [if_neg kaz])
 rw [show ((0,numL keep d 0,[]):Int×List Int×List Sub)=(((0:Nat):Int),numL keep d 0,sel keep d 0) from rfl,h0]
 simp only [Option.bind_some]
 have hsl:=keW (keep:=keep) (d:=d) d.length (by omega)
 have hrs:∀ s∈sel keep d d.length,s.2.length≤1000∧Lead d.length s:=fun s hs=>by
  obtain ⟨k,hk,_,rfl⟩:=keU _ (Nat.le_refl _) s hs
  exact ⟨hr _ (List.getElem_mem hk),hld _ (List.getElem_mem hk)⟩
 have hnl:(numL keep d d.length).length=d.length:=kjc
 generalize sel keep d d.length=O at *
 generalize numL keep d d.length=N at *
 rw [kku O (by omega) (fun s hs=>(hrs s hs).1)]
 simp only [Option.bind_some]
 have h1:=kbZ (F:=kbG (O,N)) (fun i:Nat=>((i:Int),kao (reS (rhoL N)) O i)) O.length (by omega) (O.map (reS (rhoL N))) (fun i hi=>by
  have hi':i<(kao (reS (rhoL N)) O i).length:=by rw [kbh]; exact hi
  unfold kbG
  simp only
  rw [if_pos (lenI_lt.2 hi')]
  rw [klw N O _ i (by rw [kbh]; omega) hi' (by rw [kbY hi]; exact (hrs _ (List.getElem_mem hi)).1) (by rw [kbY hi,hnl]; exact (hrs _ (List.getElem_mem hi)).2)]
  simp only [Option.bind_some]
  rw [kaq (by omega),kbY hi,keJ hi]) (by unfold kbG; simp only; rw [if_neg (by rw [lenI_lt,kbh]; omega),keO])
 rw [show (((0:Nat):Int),kao (reS (rhoL N)) O 0)=(((0:Nat):Int),O) by rw [keq]] at h1
 rw [show ((0,O):Int×List Sub)=(((0:Nat):Int),O) from rfl,h1]
 rfl
def Shut2 (keep:Nat→Bool) (d:List Sub):Prop:=∀ i (hi:i<d.length),keep i=true→∀ l∈d[i].2,0≤l.1→∃ j:Nat,l.1=(j:Int)∧j<d.length∧keep j=true
theorem klX (keep:Nat→Bool) (d:List Sub) (hs:Shut2 keep d) :
  (sel keep d d.length).map (reS fun x=>(mget (numM keep d d.length) x).getD 0)=(sel keep d d.length).map (reS (rhoL (numL keep d d.length))):=by
 refine List.map_congr_left fun s hsm=>?_
 obtain ⟨k,hk,hkk,rfl⟩:=keU _ (Nat.le_refl _) s hsm
 unfold reS
 congr 1
 refine List.map_congr_left fun l hlm=>?_
 unfold reL
 by_cases h0:0≤l.1
 ·rw [if_pos h0,if_pos h0]
  obtain ⟨j,e,hj,hkj⟩:=hs k hk hkk l hlm h0
  rw [e]
  show ((mget (numM keep d d.length) (j:Int)).getD 0,l.2)=_
  rw [kgC j _ (Nat.le_refl _),if_pos ⟨hj,hkj⟩]
  unfold rhoL
  rw [kfw]
  simp [numL,hj]
 ·rw [if_neg h0,if_neg h0]
end Go.Abs
namespace Go.Abs
open Go
def child (d:List Sub) (i j:Nat):Prop:=∃ s,d[i]?=some s∧∃ l∈s.2,l.1=(j:Int)
def dag (d:List Sub):Prop:=∀ (i:Nat) (s:Sub),d[i]?=some s→∀ l∈s.2,0≤l.1→(i:Int)<l.1∧l.1<(d.length:Int)
theorem dag.lt {d:List Sub} (h:dag d) {i j:Nat} (hc:child d i j):i<j∧j<d.length:=by
 obtain ⟨s,hs,l,hl,e⟩:=hc
 have:=h i s hs l hl (by omega)
 omega
inductive RF (d:List Sub) (i:Nat):Nat→Prop
 | refl:RF d i i
 | step {j k:Nat} (h:RF d i j) (hc:child d j k):RF d i k
theorem RF.le {d:List Sub} (h:dag d) {i j:Nat} (hr:RF d i j):i≤j:=by
 induction hr with
 | refl=>exact Nat.le_refl _
 | step _ hc ih=>have:=h.lt hc; omega
theorem RF.head {d:List Sub} {i c j:Nat} (hc:child d i c) (hr:RF d c j):RF d i j:=by
 induction hr with
 | refl=>exact .step .refl hc
 | step _ hc' ih=>exact .step ih hc'
def isT (g:List Bool) (j:Nat):Prop:=g[j]?=some true
theorem isT_set {g:List Bool} {i j:Nat}:isT (g.set i true) j↔isT g j∨(j=i∧i<g.length):=by
 unfold isT
 rw [List.getElem?_set]
 by_cases h:i=j
 ·subst h
  rw [if_pos rfl]
  by_cases hl:i<g.length
  ·rw [if_pos hl]; simp [hl]
  ·rw [if_neg hl,List.getElem?_eq_none (by omega)]; simp [hl]
 ·rw [if_neg h]
  constructor
  ·exact .inl
  ·rintro (h' | ⟨rfl,_⟩)
   ·exact h'
   ·exact absurd rfl h
structure Vis (d:List Sub) (i:Nat) (g g':List Bool):Prop where
 len:g'.length=d.length
 mono:∀ j,isT g j→isT g' j
 here:isT g' i
 shut:∀ j,i≤j→isT g' j→∀ c,child d j c→isT g' c
 only:∀ j,isT g' j→isT g j∨RF d i j
theorem kmN (d:List Sub) (hl:d.length≤100) (hr:∀ s∈d,s.2.length≤1000) (hd:dag d):∀ (f i:Nat) (g:List Bool),i<d.length→d.length-i<f→g.length=d.length→(∀ j,i≤j→isT g j→∀ c,child d j c→isT g c)→
  ∃ g',kaW f (i:Int) g d=some (g',d)∧Vis d i g g'
 | 0,i,g,hi,hf,hg,hs=>by omega
 | f+1,i,g,hi,hf,hg,hs=>by
  simp only [kaW]
  unfold ket
  rw [kal (show i<g.length by omega)]
  simp only [Option.bind_some]
  cases hgi:g[i]'(by omega) with
  | true=>
   have hT:isT g i:=by unfold isT; rw [List.getElem?_eq_getElem (by omega),hgi]
   exact ⟨g,by simp,hg,fun j h=>h,hT,hs,fun j h=>.inl h⟩
  | false=>
   simp only [Bool.false_eq_true,if_false]
   rw [kal hi]
   simp only [Option.bind_some]
   have hrow:=hr _ (List.getElem_mem hi)
   have hgl:(g.set i true).length=d.length:=by simpa using hg
   obtain ⟨_,⟨g',rfl,k1,k2,k3,k4,k5⟩,e⟩:=kfB (F:=kbI (kaW f) d[i]) d[i].2.length (by omega)
    (fun k x=>∃ y,x=(y,d)∧y.length=d.length∧(∀ j,isT (g.set i true) j→isT y j)∧(∀ j,i+1≤j→isT y j→∀ c,child d j c→isT y c)∧(∀ q,q<k→∀ l,d[i].2[q]?=some l→∀ c:Nat,l.1=(c:Int)→isT y c)∧(∀ j,isT y j→isT g j∨RF d i j)) (fun x=>x)
    (fun k x hk hx=>by
     obtain ⟨y,rfl,k1,k2,k3,k4,k5⟩:=hx
     unfold kbI
     simp only
     rw [if_pos (lenI_lt.2 hk),kal hk]
     simp only [Option.bind_some]
     rw [kaq (by omega)]
     have old:∀ q,q<k+1→q<k∨q=k:=fun q hq=>by omega
     by_cases h0:0≤d[i].2[k].1
     ·have hdd:=hd i d[i] (List.getElem?_eq_getElem hi) _ (List.getElem_mem hk) h0
      obtain ⟨c,hc⟩:∃ c:Nat,d[i].2[k].1=(c:Int):=⟨d[i].2[k].1.toNat,by omega⟩
      have hch:child d i c:=⟨_,List.getElem?_eq_getElem hi,_,List.getElem_mem hk,hc⟩
      rw [hc] at hdd
      obtain ⟨g2,e2,v⟩:=kmN d hl hr hd f c y (by omega) (by omega) k1 (fun j hj=>k3 j (by omega))
      rw [hc,e2]
      simp only [Option.bind_some,show (0:Int)≤(c:Int) by omega,decide_true,if_true]
      refine ⟨_,rfl,_,rfl,v.len,fun j hj=>v.mono j (k2 j hj),fun j hj hT c' hc'=>?_,fun q hq l hq' c' hc'=>?_,fun j hT=>?_⟩
      ·rcases v.only j hT with h | h
       ·exact v.mono _ (k3 j hj h c' hc')
       ·exact v.shut j (h.le hd) hT c' hc'
      ·rcases old q hq with h | rfl
       ·exact v.mono _ (k4 q h l hq' c' hc')
       ·rw [List.getElem?_eq_getElem hk] at hq'
        cases hq'
        have:c'=c:=by omega
        subst this
        exact v.here
      ·rcases v.only j hT with h | h
       ·exact k5 j h
       ·exact .inr (h.head hch)
     ·simp only [h0,decide_false,Bool.false_eq_true,if_false]
      refine ⟨_,rfl,_,rfl,k1,k2,k3,fun q hq l hq' c' hc'=>?_,k5⟩
      rcases old q hq with h | rfl
      ·exact k4 q h l hq' c' hc'
      ·rw [List.getElem?_eq_getElem hk] at hq'
       cases hq'
       omega)
    (fun x _=>by unfold kbI; simp only; rw [if_neg kaz]) (g.set i true,d)
    ⟨_,rfl,hgl,fun j h=>h,fun j hj hT c hc=>by
     rw [isT_set] at hT ⊢
     rcases hT with h | ⟨h,_⟩
     ·exact .inl (hs j (by omega) h c hc)
     ·omega,fun q hq=>by omega,fun j hT=>by
     rw [isT_set] at hT
     rcases hT with h | ⟨rfl,_⟩
     ·exact .inl h
     ·exact .inr .refl⟩
   have hlset:lset g (i:Int) true=g.set i true:=by unfold lset; rw [Int.toNat_natCast]
   rw [hlset,e]
   simp only [Option.bind_some]
   refine ⟨g',rfl,k1,fun j h=>k2 j (isT_set.2 (.inl h)),k2 i (isT_set.2 (.inr ⟨rfl,by omega⟩)),fun j hj hT c hc=>?_,k5⟩
   rcases Nat.lt_or_eq_of_le hj with h | rfl
   ·exact k3 j h hT c hc
   ·obtain ⟨s,hs',l,hlm,hlc⟩:=hc
    rw [List.getElem?_eq_getElem hi] at hs'
    cases hs'
    obtain ⟨q,hq,rfl⟩:=List.mem_iff_getElem.1 hlm
    exact k4 q hq _ (List.getElem?_eq_getElem hq) c hlc
open Classical in
noncomputable def rch (d:List Sub) (j:Nat):Bool:=decide (RF d 0 j)
theorem kka {d:List Sub} {j:Nat}:rch d j=true↔RF d 0 j:=by unfold rch; simp
theorem kpO (d:List Sub) (h1:0<d.length) (hl:d.length≤100) (hr:∀ s∈d,s.2.length≤1000) (hd:dag d) :
  ∃ g,kco 0 (List.replicate d.length false) d=some (g,d)∧∀ j,j<d.length→g[j]?=some (rch d j):=by
 have hno:∀ j,¬ isT (List.replicate d.length false) j:=fun j h=>by
  unfold isT at h
  rw [List.getElem?_replicate] at h
  split at h <;> simp at h
 obtain ⟨g,e,v⟩:=kmN d hl hr hd 1000000 0 (List.replicate d.length false) h1 (by omega) (by simp) (fun j _ h=>absurd h (hno j))
 refine ⟨g,e,fun j hj=>?_⟩
 have hgj:g[j]?=some (g[j]'(by rw [v.len]; exact hj)):=List.getElem?_eq_getElem _
 have:isT g j↔RF d 0 j:=by
  constructor
  ·intro h
   rcases v.only j h with h | h
   ·exact absurd h (hno j)
   ·exact h
  ·intro h
   have:∀ k,RF d 0 k→isT g k:=fun k hk=>by
    induction hk with
    | refl=>exact v.here
    | step h hc ih=>exact v.shut _ (Nat.zero_le _) ih _ hc
   exact this j h
 rw [hgj]
 congr 1
 rw [Bool.eq_iff_iff,kka,←this]
 unfold isT
 rw [hgj]
 simp
end Go.Abs
namespace Go.Abs
open Go
theorem kdA (d:List Sub):valid d=true↔(1≤d.length∧d.length≤8)∧(∀ (j:Nat) (hj:j<d.length),kbB d[j].1=true∧d[j].2.length≤20∧∀ l∈d[j].2,okRow d.length j l=true)∧∀ (a b:Nat) (hab:a<b) (hb:b<d.length),d[a].1≠d[b].1:=by
 unfold valid
 rw [Bool.and_eq_true,kjQ,kgV]
 have row:∀ j (hj:j<d.length),rowOk d j=true↔(kbB d[j].1=true∧d[j].2.length≤20∧∀ l∈d[j].2,okRow d.length j l=true)∧∀ a (ha:a<j),d[a].1≠d[j].1:=fun j hj=>by
  have hr:rowOk d j=(kbB d[j].1&&!((d.take j).any fun t=>t.1==d[j].1)&&decide (d[j].2.length≤20)&&d[j].2.all (okRow d.length j)):=by unfold rowOk; rw [List.getElem?_eq_getElem hj]; rfl
  rw [hr]
  simp only [Bool.and_eq_true,Bool.not_eq_true',decide_eq_true_eq,List.all_eq_true]
  have hn:((d.take j).any fun t=>t.1==d[j].1)=false↔∀ a (ha:a<j),d[a].1≠d[j].1:=by
   rw [List.any_eq_false]
   constructor
   ·intro h a ha e
    exact h _ (List.mem_iff_getElem.2 ⟨a,by rw [List.length_take]; omega,by rw [List.getElem_take]⟩) (by rw [e]; simp)
   ·intro h t ht
    obtain ⟨a,ha,rfl⟩:=List.mem_iff_getElem.1 ht
    rw [List.length_take] at ha
    rw [List.getElem_take]
    simpa using h a (by omega)
  rw [hn]
  constructor
  ·rintro ⟨⟨⟨h1,h2⟩,h3⟩,h4⟩; exact ⟨⟨h1,h3,h4⟩,h2⟩
  ·rintro ⟨⟨h1,h3,h4⟩,h2⟩; exact ⟨⟨⟨h1,h2⟩,h3⟩,h4⟩
 constructor
 ·rintro ⟨h1,h2⟩
  exact ⟨by omega,fun j hj=>((row j hj).1 (h2 j hj)).1,fun a b hab hb=>((row b hb).1 (h2 b hb)).2 a hab⟩
 ·rintro ⟨h1,h2,h3⟩
  exact ⟨by omega,fun j hj=>(row j hj).2 ⟨h2 j hj,fun a ha=>h3 a j ha hj⟩⟩
theorem kpl {n i:Nat} {l:Line} (h:okRow n i l=true) (h0:0≤l.1):(i:Int)<l.1∧l.1<(n:Int):=by
 unfold okRow at h
 simp only [Bool.and_eq_true] at h
 have h1:=h.1.1.1
 rw [if_neg (by omega)] at h1
 simp only [Bool.and_eq_true,kjQ] at h1
 omega
theorem klg {d:List Sub} (h:valid d=true):dag d:=fun i s hs l hl h0=>by
 obtain ⟨_,h2,_⟩:=(kdA d).1 h
 obtain ⟨hi,rfl⟩:=List.getElem?_eq_some_iff.1 hs
 exact kpl ((h2 i hi).2.2 l hl) h0
def isF (g:List Bool) (j:Nat):Prop:=g[j]?=some false
theorem kie {g:List Bool} {c j:Nat} (hc:c<g.length):isF (g.set c false) j↔isF g j∨j=c:=by
 unfold isF
 rw [List.getElem?_set]
 by_cases h:c=j
 ·subst h; simp [hc]
 ·rw [if_neg h]
  constructor
  ·exact .inl
  ·rintro (h' | rfl)
   ·exact h'
   ·exact absurd rfl h
theorem kqZ (d:List Sub) (hl:d.length≤100) (hr:∀ s∈d,s.2.length≤1000) (hd:dag d) (i:Nat) (hi:i<d.length) (g:List Bool) (hg:g.length=d.length) :
  ∃ g',iter (kba d ((i:Int),g)) (0,g)=some g'∧g'.length=d.length∧(∀ j,isF g j→isF g' j)∧(isF g i→∀ c,child d i c→isF g' c)∧(∀ j,isF g' j→isF g j∨(isF g i∧child d i j)):=by
 have hgi:g[i]?=some (g[i]'(by omega)):=List.getElem?_eq_getElem _
 cases hb:g[i]'(by omega) with
 | true=>
  rw [hb] at hgi
  refine ⟨g,kgb (n:=1) (kdv ?_) (by omega),hg,fun j h=>h,fun h=>?_,fun j h=>.inl h⟩
  ·unfold kba
   simp only
   rw [kfw,hgi]
   rfl
  ·unfold isF at h; rw [hgi] at h; cases h
 | false=>
  rw [hb] at hgi
  have hrow:=hr _ (List.getElem_mem hi)
  obtain ⟨g',⟨k1,k2,k3,k4⟩,e⟩:=kfB (F:=kba d ((i:Int),g)) d[i].2.length (by omega)
   (fun k y=>y.length=d.length∧(∀ j,isF g j→isF y j)∧(∀ q,q<k→∀ l,d[i].2[q]?=some l→∀ c:Nat,l.1=(c:Int)→isF y c)∧(∀ j,isF y j→isF g j∨child d i j)) (fun y=>y)
   (fun k y hk hy=>by
    obtain ⟨k1,k2,k3,k4⟩:=hy
    have hyi:gi y (i:Int)=some false:=by rw [kfw]; exact k2 i hgi
    unfold kba
    simp only
    rw [hyi]
    simp only [Option.bind_some,Bool.not_false,if_true]
    rw [kal hi]
    simp only [Option.bind_some]
    rw [if_pos (lenI_lt.2 hk),kal hk]
    simp only [Option.bind_some]
    rw [kaq (by omega)]
    have old:∀ q,q<k+1→q<k∨q=k:=fun q hq=>by omega
    by_cases h0:0≤d[i].2[k].1
    ·have hdd:=hd i d[i] (List.getElem?_eq_getElem hi) _ (List.getElem_mem hk) h0
     obtain ⟨c,hc⟩:∃ c:Nat,d[i].2[k].1=(c:Int):=⟨d[i].2[k].1.toNat,by omega⟩
     have hch:child d i c:=⟨_,List.getElem?_eq_getElem hi,_,List.getElem_mem hk,hc⟩
     rw [hc] at hdd
     have hcy:c<y.length:=by omega
     rw [hc,kal hcy]
     simp only [Option.bind_some,show (0:Int)≤(c:Int) by omega,decide_true,if_true]
     unfold lset
     rw [Int.toNat_natCast]
     refine ⟨_,rfl,by simpa using k1,fun j hj=>(kie hcy).2 (.inl (k2 j hj)),fun q hq l hq' c' hc'=>?_,fun j hj=>?_⟩
     ·rcases old q hq with h | rfl
      ·exact (kie hcy).2 (.inl (k3 q h l hq' c' hc'))
      ·rw [List.getElem?_eq_getElem hk] at hq'
       cases hq'
       exact (kie hcy).2 (.inr (by omega))
     ·rcases (kie hcy).1 hj with h | rfl
      ·exact k4 j h
      ·exact .inr hch
    ·simp only [h0,decide_false,Bool.false_eq_true,if_false]
     refine ⟨_,rfl,k1,k2,fun q hq l hq' c' hc'=>?_,k4⟩
     rcases old q hq with h | rfl
     ·exact k3 q h l hq' c' hc'
     ·rw [List.getElem?_eq_getElem hk] at hq'
      cases hq'
      omega)
   (fun y hy=>by
    obtain ⟨k1,k2,k3,k4⟩:=hy
    have hyi:gi y (i:Int)=some false:=by rw [kfw]; exact k2 i hgi
    unfold kba
    simp only
    rw [hyi]
    simp only [Option.bind_some,Bool.not_false,if_true]
    rw [kal hi]
    simp only [Option.bind_some]
    rw [if_neg kaz]) g ⟨hg,fun j h=>h,fun q hq=>by omega,fun j h=>.inl h⟩
  refine ⟨g',e,k1,k2,fun _ c hc=>?_,fun j hj=>(k4 j hj).imp id fun h=>⟨hgi,h⟩⟩
  obtain ⟨s,hs',l,hlm,hlc⟩:=hc
  rw [List.getElem?_eq_getElem hi] at hs'
  cases hs'
  obtain ⟨q,hq,rfl⟩:=List.mem_iff_getElem.1 hlm
  exact k3 q hq _ (List.getElem?_eq_getElem hq) c hlc
def gone0 (n i:Nat):List Bool:=(List.range n).map fun k=>decide (1≤k∧k<i+1)
theorem kpU (d:List Sub) (h1:0<d.length) (hl:d.length≤100) (hr:∀ s∈d,s.2.length≤1000) (hd:dag d) :
  ∃ g,((iter kbs (1,List.replicate d.length false)).bind fun v4=>iter (kbr d) (0,v4))=some g∧∀ j,j<d.length→g[j]?=some (!rch d j):=by
 have e0:List.replicate d.length false=gone0 d.length 0:=by
  refine List.ext_getElem? fun k=>?_
  unfold gone0
  rw [List.getElem?_map]
  rcases Nat.lt_or_ge k d.length with hk | hk
  ·rw [List.getElem?_range hk,List.getElem?_replicate,if_pos hk]
   simp only [Option.map_some,Option.some.injEq]
   symm; simp; omega
  ·rw [List.getElem?_eq_none (by simpa using hk),List.getElem?_eq_none (by simpa using hk)]; rfl
 have hlen:∀ i,(gone0 d.length i).length=d.length:=fun i=>by simp [gone0]
 have i0:=kbZ (F:=kbs) (fun i:Nat=>(((i+1:Nat):Int),gone0 d.length i)) (d.length-1) (by omega) (gone0 d.length (d.length-1)) (fun i hi=>by
  unfold kbs
  simp only
  rw [if_pos (lenI_lt.2 (by rw [hlen]; omega)),kal (show i+1<(gone0 d.length i).length by rw [hlen]; omega)]
  simp only [Option.bind_some]
  rw [kaq (by omega)]
  unfold lset
  rw [Int.toNat_natCast]
  have:(gone0 d.length i).set (i+1) true=gone0 d.length (i+1):=by
   refine List.ext_getElem? fun k=>?_
   by_cases hk:i+1=k
   ·subst hk
    rw [List.getElem?_set_self (by rw [hlen]; omega)]
    unfold gone0
    rw [List.getElem?_map,List.getElem?_range (by omega)]
    simp
   ·rw [List.getElem?_set_ne hk]
    unfold gone0
    rw [List.getElem?_map,List.getElem?_map]
    rcases Nat.lt_or_ge k d.length with hkd | hkd
    ·rw [List.getElem?_range hkd]
     simp only [Option.map_some]
     have:(1≤k∧k<i+1+1)↔(1≤k∧k<i+1):=by omega
     simp only [this]
    ·rw [List.getElem?_eq_none (by simpa using hkd)]; rfl
  rw [this]) (by
  unfold kbs
  simp only
  rw [if_neg (by rw [lenI_lt,hlen]; omega)])
 rw [e0,show ((1,gone0 d.length 0):Int×List Bool)=(((0+1:Nat):Int),gone0 d.length 0) from rfl,i0]
 simp only [Option.bind_some]
 have hg0:∀ j,isF (gone0 d.length (d.length-1)) j↔j=0:=fun j=>by
  unfold isF gone0
  rw [List.getElem?_map]
  rcases Nat.lt_or_ge j d.length with hk | hk
  ·rw [List.getElem?_range hk]
   simp only [Option.map_some,Option.some.injEq,decide_eq_false_iff_not]
   omega
  ·rw [List.getElem?_eq_none (by simpa using hk)]
   simp
   omega
 obtain ⟨g,⟨k1,k2,k3,k4⟩,e⟩:=kfB (F:=kbr d) d.length (by omega)
  (fun i g=>g.length=d.length∧(∀ j,isF g j→RF d 0 j)∧isF g 0∧(∀ j,j<i→isF g j→∀ c,child d j c→isF g c)) (fun g=>g)
  (fun i g hi hg=>by
   obtain ⟨k1,k2,k3,k4⟩:=hg
   obtain ⟨g',e,v1,v2,v3,v4⟩:=kqZ d hl hr hd i hi g k1
   unfold kbr
   simp only
   rw [if_pos (lenI_lt.2 hi),e]
   simp only [Option.bind_some]
   rw [kaq (by omega)]
   refine ⟨_,rfl,v1,fun j hj=>?_,v2 0 k3,fun j hj hF c hc=>?_⟩
   ·rcases v4 j hj with h | ⟨h,hc⟩
    ·exact k2 j h
    ·exact .step (k2 i h) hc
   ·have back:isF g j:=by
     rcases v4 j hF with h | ⟨_,h⟩
     ·exact h
     ·have:=hd.lt h; omega
    rcases Nat.lt_or_eq_of_le (Nat.le_of_lt_succ hj) with h | rfl
    ·exact v2 c (k4 j h back c hc)
    ·exact v3 back c hc)
  (fun g _=>by unfold kbr; simp only; rw [if_neg kaz]) (gone0 d.length (d.length-1)) ⟨hlen _,fun j hj=>by rw [(hg0 j).1 hj]; exact .refl,(hg0 0).2 rfl,fun j hj=>by omega⟩
 refine ⟨g,e,fun j hj=>?_⟩
 have hgj:g[j]?=some (g[j]'(by rw [k1]; exact hj)):=List.getElem?_eq_getElem _
 have:isF g j↔RF d 0 j:=by
  constructor
  ·exact k2 j
  ·intro h
   have:∀ k,RF d 0 k→isF g k:=fun k hk=>by
    induction hk with
    | refl=>exact k3
    | step h hc ih=>
     rename_i j k
     exact k4 _ (by have:=isF_lt ih; omega) ih _ hc
   exact this j h
 rw [hgj]
 congr 1
 have h2:g[j]'(by rw [k1]; exact hj)=false↔rch d j=true:=by
  rw [kka,←this]
  unfold isF
  rw [hgj]
  simp
 cases hx:g[j]'(by rw [k1]; exact hj) <;> cases hy:rch d j <;> simp_all
where isF_lt {g:List Bool} {j:Nat} (h:isF g j):j<g.length:=(List.getElem?_eq_some_iff.1 h).1
end Go.Abs
namespace Go.Abs
open Go
theorem Small.rows {d:List Sub} (h:Small d):∀ s∈d,s.2.length≤1000:=fun s hs=>by have:=(h.2 s hs).2; omega
theorem kkL {ρ:Int→Int} {keep:Nat→Bool} {d:List Sub} (h:Small d):((sel keep d d.length).map (reS ρ)).length≤100∧∀ s∈(sel keep d d.length).map (reS ρ),s.2.length≤1000:=by
 have h1:=keW (keep:=keep) (d:=d) d.length (Nat.le_refl _)
 have h2:=h.1
 refine ⟨by rw [List.length_map]; omega,fun s hs=>?_⟩
 obtain ⟨t,ht,rfl⟩:=List.mem_map.1 hs
 obtain ⟨k,hk,_,rfl⟩:=keU _ (Nat.le_refl _) t ht
 have:=h.rows _ (List.getElem_mem hk)
 simpa [reS] using this
theorem kpW (d:List Sub) (hs:Small d):∃ e u:Int,∃ x:List Sub,kds d=some (e,x)∧kcX d=some (e,x)∧x.length≤100∧∀ s∈x,s.2.length≤1000:=by
 unfold kds kcX
 rw [kjf d hs,klI d hs]
 simp only [Option.bind_some]
 cases hv:valid d with
 | false=>exact ⟨8,0,[],by simp,by simp,by simp,by simp⟩
 | true=>
  obtain ⟨⟨h1,h8⟩,hrow,_⟩:=(kdA d).1 hv
  have hd:=klg hv
  have hl:d.length≤100:=by omega
  have hr:=hs.rows
  obtain ⟨g,e1,hg⟩:=kpO d (by omega) hl hr hd
  obtain ⟨g2,e2,hg2⟩:=kpU d (by omega) hl hr hd
  have hgm:gmk (lenI d) false=some (List.replicate d.length false):=by
   unfold gmk
   rw [kaG,if_pos ⟨by omega,by omega⟩,Int.toNat_natCast]
  have hf:∀ i,i<d.length→(fun u0:Int=>(kcs u0 g).bind fun u1=>some u1) (i:Int)=some (rch d i):=fun i hi=>by
   simp only [kcs]
   rw [kfw,hg i hi]; rfl
  have hshut:Shut2 (rch d) d:=fun i hi hk l hlm h0=>by
   have:=hd i _ (List.getElem?_eq_getElem hi) l hlm h0
   refine ⟨l.1.toNat,by omega,by omega,?_⟩
   rw [kka] at hk ⊢
   exact .step hk ⟨_,List.getElem?_eq_getElem hi,l,hlm,by omega⟩
  have hld:∀ s∈d,Lead d.length s:=fun s hsm l hlm h0=>by
   obtain ⟨i,hi,rfl⟩:=List.mem_iff_getElem.1 hsm
   exact (hd i _ (List.getElem?_eq_getElem hi) l hlm h0).2
  obtain ⟨v4,i1,i2⟩:=Option.bind_eq_some_iff.1 e2
  refine ⟨0,0,(sel (rch d) d d.length).map (reS fun x=>(mget (numM (rch d) d d.length) x).getD 0),?_,?_,(kkL hs).1,(kkL hs).2⟩
  ·simp only [if_true,bne_self_eq_false,Bool.false_eq_true,if_false]
   rw [hgm]
   simp only [Option.bind_some]
   rw [e1]
   simp only [Option.bind_some]
   rw [kou d hl hr (rch d) _ hf]
   rfl
  ·simp only [Bool.not_true,Bool.false_eq_true,if_false]
   rw [hgm]
   simp only [Option.bind_some]
   rw [i1]
   simp only [Option.bind_some]
   rw [i2]
   simp only [Option.bind_some]
   rw [koF d hl hr hld (rch d) g2 hg2,klX _ _ hshut]
   rfl
theorem kkt (d:List Sub):∀ i,i≤d.length→sel (fun _=>true) d i=d.take i
 | 0,_=>by simp [sel]
 | i+1,h=>by rw [kfe (by omega),if_pos rfl,kkt d i (by omega),List.take_succ_eq_append_getElem (by omega)]
theorem kqp (d:List Sub) (hs:Small d) (hd:dag d):kcb d (fun u0=>(keg u0).bind fun u1=>some u1)=some d:=by
 have hl:=hs.1
 rw [kou d (by omega) hs.rows (fun _=>true) _ (fun i hi=>rfl),kkt d _ (Nat.le_refl _),List.take_length]
 congr 1
 refine List.ext_getElem (by simp) fun i h1 h2=>?_
 rw [List.getElem_map]
 have hrow:d[i].2.map (reL fun x=>(mget (numM (fun _=>true) d d.length) x).getD 0)=d[i].2:=by
  refine List.ext_getElem (by simp) fun k k1 k2=>?_
  rw [List.getElem_map]
  unfold reL
  by_cases h0:0≤d[i].2[k].1
  ·rw [if_pos h0]
   have hdd:=hd i _ (List.getElem?_eq_getElem h2) _ (List.getElem_mem k2) h0
   obtain ⟨c,hc⟩:∃ c:Nat,d[i].2[k].1=(c:Int):=⟨d[i].2[k].1.toNat,by omega⟩
   rw [hc] at hdd
   have hg:(mget (numM (fun _=>true) d d.length) d[i].2[k].1).getD 0=d[i].2[k].1:=by
    rw [hc,kgC c _ (Nat.le_refl _),if_pos ⟨by omega,rfl⟩,kkt d c (by omega),List.length_take]
    simp only [Option.getD_some]
    omega
   show ((mget (numM (fun _=>true) d d.length) d[i].2[k].1).getD 0,d[i].2[k].2)=d[i].2[k]
   rw [hg]
  ·rw [if_neg h0]
 unfold reS
 rw [hrow]
theorem knc (d:List Sub) (hv:valid d=true) (i:Nat) (hi:i<d.length) (nm:List UInt8) :
  valid (d.set i (nm,d[i].2))=true↔kbB nm=true∧∀ (j:Nat) (hj:j<d.length),j≠i→d[j].1≠nm:=by
 obtain ⟨h1,h2,h3⟩:=(kdA d).1 hv
 rw [kdA]
 have hl:(d.set i (nm,d[i].2)).length=d.length:=by simp
 have hat:∀ j (hj:j<(d.set i (nm,d[i].2)).length),(d.set i (nm,d[i].2))[j]=if j=i then (nm,d[i].2) else d[j]'(by rw [hl] at hj; exact hj):=fun j hj=>by
  rw [List.getElem_set]
  by_cases h:i=j
  ·subst h; simp
  ·rw [if_neg h,if_neg (fun e=>h e.symm)]
 constructor
 ·rintro ⟨_,k2,k3⟩
  have hi':=(k2 i (by rw [hl]; exact hi)).1
  rw [hat,if_pos rfl] at hi'
  refine ⟨hi',fun j hj hne=>?_⟩
  rcases Nat.lt_or_gt_of_ne hne with h | h
  ·have:=k3 j i h (by rw [hl]; exact hi)
   rw [hat,hat,if_neg hne,if_pos rfl] at this
   exact this
  ·have:=k3 i j h (by rw [hl]; exact hj)
   rw [hat,hat,if_neg hne,if_pos rfl] at this
   exact fun e=>this e.symm
 ·rintro ⟨k1,k2⟩
  refine ⟨by rw [hl]; exact h1,fun j hj=>?_,fun a b hab hb=>?_⟩
  ·have hj':j<d.length:=by rw [hl] at hj; exact hj
   rw [hat]
   by_cases h:j=i
   ·rw [if_pos h]
    subst h
    exact ⟨k1,(h2 j hi).2.1,fun l hlm=>by rw [hl]; exact (h2 j hi).2.2 l hlm⟩
   ·rw [if_neg h]
    exact ⟨(h2 j hj').1,(h2 j hj').2.1,fun l hlm=>by rw [hl]; exact (h2 j hj').2.2 l hlm⟩
  ·rw [hl] at hb
   rw [hat,hat]
   by_cases ha:a=i
   ·have hbi:b≠i:=by omega
    rw [if_pos ha,if_neg hbi]
    exact fun e=>k2 b hb hbi e.symm
   ·rw [if_neg ha]
    by_cases hbi:b=i
    ·rw [if_pos hbi]
     exact k2 a (by omega) ha
    ·rw [if_neg hbi]
     exact h3 a b hab hb
theorem koL (d:List Sub) (hv:valid d=true) (i:Nat) (hi:i<d.length) (nm:List UInt8) :
  (findN d nm<0∨findN d nm=(i:Int))↔∀ (j:Nat) (hj:j<d.length),j≠i→d[j].1≠nm:=by
 obtain ⟨_,_,h3⟩:=(kdA d).1 hv
 unfold findN
 by_cases ha:d.any (fun s=>s.1==nm)=true
 ·rw [if_pos ha]
  obtain ⟨s,hs,hn⟩:=List.any_eq_true.1 ha
  have hlt:d.findIdx (fun s=>s.1==nm)<d.length:=List.findIdx_lt_length_of_exists ⟨s,hs,hn⟩
  have hp:(d[d.findIdx (fun s=>s.1==nm)]).1=nm:=by simpa using List.findIdx_getElem (p:=fun s:Sub=>s.1==nm) (xs:=d) (w:=hlt)
  constructor
  ·rintro (h | h) j hj hne e
   ·omega
   ·have hf:d.findIdx (fun s=>s.1==nm)=i:=by omega
    have hp':d[i].1=nm:=by simpa [hf] using hp
    rcases Nat.lt_or_gt_of_ne hne with h | h
    ·exact h3 j i h hi (e.trans hp'.symm)
    ·exact h3 i j h hj (hp'.trans e.symm)
  ·intro h
   right
   by_cases hf:d.findIdx (fun s=>s.1==nm)=i
   ·omega
   ·exact absurd hp (h _ hlt hf)
 ·rw [if_neg ha]
  refine ⟨fun _ j hj _ e=>ha (List.any_eq_true.2 ⟨_,List.getElem_mem hj,by simp [e]⟩),fun _=>.inl (by omega)⟩
theorem kpk (d:List Sub) (hs:Small d) (x:Int) (nm:List UInt8) (hn:nm.length≤100):∃ e:Int,∃ y:List Sub,kcR d x nm=some (e,y)∧kcj d x nm=some (e,y)∧y.length≤100∧∀ s∈y,s.2.length≤1000:=by
 have hl12:=hs.1
 unfold kcR kcj
 rw [kjf d hs,klI d hs]
 simp only [Option.bind_some]
 cases hv:valid d with
 | false=>exact ⟨8,[],by simp,by simp,by simp,by simp⟩
 | true=>
  obtain ⟨⟨h1,h8⟩,hrow,_⟩:=(kdA d).1 hv
  have hd:=klg hv
  simp only [if_true,bne_self_eq_false,Bool.false_eq_true,if_false,Bool.not_true]
  rw [from1,kkR,kaG,kjS (by omega) (by omega)]
  simp only [Option.bind_some]
  cases hw:wi 0 ((d.length:Int)-1) x with
  | false=>exact ⟨2,[],by simp,by simp,by simp,by simp⟩
  | true=>
   rw [kjQ] at hw
   obtain ⟨i,rfl⟩:∃ i:Nat,x=(i:Int):=⟨x.toNat,by omega⟩
   have hi:i<d.length:=by omega
   simp only [Bool.not_true,Bool.false_eq_true,if_false]
   rw [kqp d hs hd,kod d (by omega),kot nm (by omega),kku d (by omega) hs.rows]
   simp only [Option.bind_some]
   rw [kal hi]
   simp only [Option.bind_some]
   have hset:lset d (i:Int) (nm,d[i].2)=d.set i (nm,d[i].2):=by unfold lset; rw [Int.toNat_natCast]
   rw [hset]
   have hsm:Small (d.set i (nm,d[i].2)):=by
    refine ⟨by simpa using hl12,fun s hsm=>?_⟩
    rcases List.mem_or_eq_of_mem_set hsm with h | rfl
    ·exact hs.2 s h
    ·exact ⟨hn,(hs.2 _ (List.getElem_mem hi)).2⟩
   rw [kjf _ hsm]
   have hgs:gsame (i:Int) (i:Int)=some ():=by unfold gsame; rw [if_pos rfl]
   rw [hgs]
   simp only [Option.bind_some]
   have key:=knc d hv i hi nm
   have hfo:=koL d hv i hi nm
   rw [←hfo] at key
   have hres:(d.set i (nm,d[i].2)).length≤100∧∀ s∈d.set i (nm,d[i].2),s.2.length≤1000:=⟨by have:=hsm.1; omega,hsm.rows⟩
   cases hv2:valid (d.set i (nm,d[i].2)) with
   | true=>
    obtain ⟨k1,k2⟩:=key.1 hv2
    refine ⟨0,_,by simp,?_,hres.1,hres.2⟩
    rw [k1]
    simp only [Bool.not_true,Bool.false_eq_true,if_false]
    rcases k2 with k2 | k2
    ·have:¬ (0:Int)≤findN d nm:=by omega
     simp [this]
    ·simp [k2]
   | false=>
    have hno:¬ (kbB nm=true∧(findN d nm<0∨findN d nm=(i:Int))):=fun h=>by rw [key.2 h] at hv2; cases hv2
    refine ⟨21,[],by simp,?_,by simp,by simp⟩
    cases k1:kbB nm with
    | false=>simp
    | true=>
     have h2:¬ (findN d nm<0∨findN d nm=(i:Int)):=fun h=>hno ⟨k1,h⟩
     have h3:(0:Int)≤findN d nm:=by omega
     have h4:¬ findN d nm=(i:Int):=fun h=>h2 (.inr h)
     simp [h3,h4]
theorem law02_TextChanges_eq (d:List Sub) (x:Int) (nm:List UInt8):kda d x nm=some true:=by
 unfold kda
 obtain ⟨b,hb,hs⟩:=kqz d
 rw [hb]
 simp only [Option.bind_some]
 cases b with
 | true=>rfl
 | false=>
  replace hs:=hs rfl
  have hl:=hs.1
  simp only [Bool.false_eq_true,if_false]
  by_cases hn:(100:Int)<lenI nm
  ·simp [hn]
  ·simp only [hn,decide_false,Bool.false_eq_true,if_false]
   rw [kaG] at hn
   obtain ⟨e1,_,y1,p1,p2,p3,p4⟩:=kpW d hs
   obtain ⟨e2,y2,q1,q2,q3,q4⟩:=kpk d hs x nm (by omega)
   rw [kku d (by omega) hs.rows]
   simp only [Option.bind_some]
   rw [p1,p2]
   simp only [Option.bind_some]
   rw [q1,q2]
   simp only [Option.bind_some]
   rw [kkj y1 p3 p4,kkj y2 q3 q4,kkj d (by omega) hs.rows,knp y1 p3 p4,knp y2 q3 q4]
   simp
end Go.Abs
