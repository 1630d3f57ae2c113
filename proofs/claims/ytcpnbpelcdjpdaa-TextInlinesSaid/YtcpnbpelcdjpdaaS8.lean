/- The functions and the law, part 8. -/
import Derived.Test.YtcpnbpelcdjpdaaProg
import Derived.Laws.RangeAny
import Derived.Test.YtcpnbpelcdjpdaaZ3
import Derived.Test.YtcpnbpelcdjpdaaZ6
set_option linter.constructorNameAsVariable false
set_option linter.unusedVariables false
set_option linter.unusedSimpArgs false
set_option linter.unusedSectionVars false
namespace Go.Abs
open Go
@[reducible] def tSub:Ty:=(.pr .s (.sl (.pr (.i .i64) (.pr (.i .i64) (.pr (.pr (.i .i64) (.pr (.i .i64) (.i .i64))) (.pr (.i .u8) (.i .u8)))))))
abbrev Sub:=(List UInt8×(List (Int×Int×(Int×Int×Int)×Int×Int)))
@[reducible] def kgm:Ty:=(.pr (.i .i64) (.pr (.pr (.i .i64) (.pr (.i .i64) (.i .i64))) (.pr (.i .u8) (.i .u8))))
abbrev Brick:=(Int×(Int×Int×Int)×Int×Int)
@[reducible] def tLine:Ty:=(.pr (.i .i64) kgm)
abbrev Line:=(Int×Brick)
def kdz (x0:(List Sub)) (v0:Int):Option (Int⊕(Bool⊕Unit)):=
 (if (decide (v0<(lenI x0)))=true then ((gi x0 v0).bind fun v1=>(if (decide (30<(lenI v1.2)))=true then (some (.inr (.inl true))) else ((gi x0 v0).bind fun v2=>(if (decide (100<(lenI v2.1)))=true then (some (.inr (.inl true))) else (some (.inl (w64 (v0+1)))))))) else (some (.inr (.inr ()))))
def kfc (x0:(List Sub)):Option Bool:=
 (if (decide (12<(lenI x0)))=true then (some true) else ((iter (kdz x0) 0).bind fun v3=>(match v3 with | .inl v4=>(some v4) | .inr v5=>(some false))))
def kmX (x0:(List Sub)) (v0:(Int×(List Sub))):Option ((Int×(List Sub))⊕(List Sub)):=
 (if (decide (v0.1<(lenI x0)))=true then ((gi x0 v0.1).bind fun v1=>((gi x0 v0.1).bind fun v2=>((gapp [] v2.2).bind fun v3=>((gapp v0.2 [(v1.1,v3)]).bind fun v4=>(some (.inl ((w64 (v0.1+1)),v4))))))) else (some (.inr v0.2)))
def kqx (x0:(List Sub)):Option (List Sub):=
 ((iter (kmX x0) (0,[])).bind fun v5=>(some v5))
def keA (x0:Int) (x1:Int) (x2:Int):Option Bool:=
 (if (decide (x0<x1))=true then (some true) else (some (decide (x2<x0))))
def kaK (x0:(List Int)) (x1:(Int→Option Bool)) (v0:Int):Option (Int⊕(Int⊕Unit)):=
 (if (decide (v0<(lenI x0)))=true then ((gi x0 v0).bind fun v1=>((x1 v1).bind fun v2=>(if v2=true then (some (.inr (.inl v0))) else (some (.inl (w64 (v0+1))))))) else (some (.inr (.inr ()))))
def kbz (x0:(List Int)) (x1:(Int→Option Bool)):Option Int:=
 ((iter (kaK x0 x1) 0).bind fun v3=>(match v3 with | .inl v4=>(some v4) | .inr v5=>(some (-1))))
def kaL (x0:(List Int)) (x1:(Int→Option Bool)):Option Bool:=
 ((kbz x0 x1).bind fun v0=>(some (decide (0≤v0))))
def kbp (x0:Int) (x1:Int) (x2:(List Int)):Option Bool:=
 ((kaL x2 (fun (u0:Int)=>((keA u0 x0 x1).bind fun u1=>(some u1)))).bind fun v0=>(some (!v0)))
def kbJ (v0:(List UInt8×Int)):Option ((List UInt8×Int)⊕(Bool⊕Unit)):=
 (if (decide (v0.2<(lenI v0.1)))=true then ((if (decide (97≤(runeV v0)))=true then (some (decide ((runeV v0)≤122))) else (some false)).bind fun v1=>(if v1=true then (some (.inl (runeN v0))) else (if (v0.2==0)=true then (some (.inr (.inl false))) else (if ((runeV v0) != 45)=true then (if (decide ((runeV v0)<48))=true then (some (.inr (.inl false))) else (if (decide (57<(runeV v0)))=true then (some (.inr (.inl false))) else (some (.inl (runeN v0))))) else (some (.inl (runeN v0))))))) else (some (.inr (.inr ()))))
def kfe (x0:List UInt8):Option Bool:=
 ((iter (kbJ) (x0,0)).bind fun v2=>(match v2 with | .inl v3=>(some v3) | .inr v4=>((kbp 1 12 [(lenI x0)]).bind fun v5=>(some v5))))
def kfk (x0:(Int×Int×Int)):Option Bool:=
 ((kbp (-1000) 1000 [x0.1,x0.2.1,x0.2.2]).bind fun v0=>(some v0))
def kbT (x0:(List Sub)) (v1:(Int×(List (List UInt8×Bool)))) (v2:Sub) (v4:Int):Option (Int⊕(Int⊕Unit)):=
 (if (decide (v4<(lenI v2.2)))=true then ((gi v2.2 v4).bind fun v5=>((if (v5.1==(-1))=true then ((kbp 0 15 [v5.2.1]).bind fun v6=>(if v6=true then (some true) else ((kbp (w64 (v1.1+1)) (w64 ((lenI x0)-1)) [v5.1]).bind fun v7=>(if v7=true then (some (v5.2.1==0)) else (some false))))) else ((kbp (w64 (v1.1+1)) (w64 ((lenI x0)-1)) [v5.1]).bind fun v8=>(if v8=true then (some (v5.2.1==0)) else (some false)))).bind fun v9=>(if (!v9)=true then (some (.inr (.inl 8))) else ((kfk v5.2.2.1).bind fun v10=>(if (!v10)=true then (some (.inr (.inl 8))) else (if (decide (24≤v5.2.2.2.1))=true then (some (.inr (.inl 8))) else (if (decide (15<v5.2.2.2.2))=true then (some (.inr (.inl 8))) else (some (.inl (w64 (v4+1))))))))))) else (some (.inr (.inr ()))))
def keb (x0:(List Sub)) (v1:(Int×(List (List UInt8×Bool)))):Option ((Int×(List (List UInt8×Bool)))⊕(Int⊕Unit)):=
 (if (decide (v1.1<(lenI x0)))=true then ((gi x0 v1.1).bind fun v2=>((kfe v2.1).bind fun v3=>(if (!v3)=true then (some (.inr (.inl 8))) else (if ((mget v1.2 v2.1).getD false)=true then (some (.inr (.inl 8))) else (if (decide (20<(lenI v2.2)))=true then (some (.inr (.inl 8))) else ((iter (kbT x0 v1 v2) 0).bind fun v11=>(match v11 with | .inl v12=>(some (.inr (.inl v12))) | .inr v13=>(some (.inl ((w64 (v1.1+1)),(mput v1.2 v2.1 true))))))))))) else (some (.inr (.inr ()))))
def kfE (x0:(List Sub)):Option Int:=
 ((kbp 1 8 [(lenI x0)]).bind fun v0=>(if (!v0)=true then (some 8) else ((iter (keb x0) (0,[])).bind fun v14=>(match v14 with | .inl v15=>(some v15) | .inr v16=>(some 0)))))
def keg (x0:(List Line)):Option (List Line):=
 (if (isE x0)=true then (bthO (.sl tLine) (some []) ((gapp [] x0).bind fun v0=>(some v0))) else ((gapp [] x0).bind fun v1=>(some v1)))
def keH (x0:Int):Option Bool:=
 (some true)
def kcx (x0:(Int×Int×Int)) (x1:Int) (x2:Int):Option Bool:=
 (if (decide (x1≤(imin (imin x0.1 x0.2.1) x0.2.2)))=true then (some (decide ((imax (imax x0.1 x0.2.1) x0.2.2)≤x2))) else (some false))
def kcn (x0:(List Int)) (v0:Int):Option (Int⊕(Bool⊕Unit)):=
 (if (decide (v0<(lenI x0)))=true then ((gi x0 v0).bind fun v1=>(if (decide (v1<0))=true then (some (.inr (.inl false))) else (if (decide (24≤v1))=true then (some (.inr (.inl false))) else (some (.inl (w64 (v0+1))))))) else (some (.inr (.inr ()))))
def kcw (x0:(List Int)):Option Bool:=
 ((iter (kcn x0) 0).bind fun v2=>(match v2 with | .inl v3=>(some v3) | .inr v4=>(some true)))
def kaC (x0:(Int×Int×Int)):Option (Int×Int×Int):=
 (some (x0.1,(w64 (0-x0.2.2)),x0.2.1))
def kfh (x0:(Int×Int×Int)):Option (Int×Int×Int):=
 (some x0)
def kdj (x0:(Int×Int×Int)):Option (Int×Int×Int):=
 (some (x0.2.2,x0.1,x0.2.1))
def kbZ (x0:(Int×Int×Int)):Option (Int×Int×Int):=
 (some ((w64 (0-x0.2.2)),(w64 (0-x0.1)),x0.2.1))
def lattice_turners_m0:Option Unit:=
 (some ())
def kcv (x0:(Int×Int×Int)):Option (Int×Int×Int):=
 ((kaC x0).bind fun v0=>((kaC v0).bind fun v1=>((kaC v1).bind fun v2=>(some v2))))
def kcu (x0:(Int×Int×Int)):Option (Int×Int×Int):=
 ((kaC x0).bind fun v0=>((kaC v0).bind fun v1=>(some v1)))
def kci (v0:Int) (v1:(Int×Int×Int×Int)):Option ((Int×Int×Int×Int)⊕(Int×Int×Int)):=
 (if (decide (v1.1<v0))=true then (some (.inl ((w64 (v1.1+1)),(w64 (0-v1.2.2.1)),v1.2.1,v1.2.2.2))) else (some (.inr v1.2)))
def kbL (x0:(Int×Int×Int)) (x1:Int):Option (Int×Int×Int):=
 ((grem x1 4).bind fun v0=>((iter (kci v0) (0,x0)).bind fun v2=>((gquo .i64 x1 4).bind fun v3=>(lattice_turners_m0.bind fun v4=>(if (decide (v3=0))=true then ((kfh v2).bind fun v5=>(some v5)) else (if (decide (v3=1))=true then ((kaC v2).bind fun v6=>(some v6)) else (if (decide (v3=2))=true then ((kcu v2).bind fun v7=>(some v7)) else (if (decide (v3=3))=true then ((kcv v2).bind fun v8=>(some v8)) else (if (decide (v3=4))=true then ((kdj v2).bind fun v9=>(some v9)) else (if (decide (v3=5))=true then ((kbZ v2).bind fun v10=>(some v10)) else none))))))))))
def kct (x0:(Int×Int×Int)) (x1:Int):Option ((Int×Int×Int)×Int):=
 ((kcx x0 (-2000) 2000).bind fun v0=>(if (!v0)=true then (some ((0,0,0),2)) else ((kcw [x1]).bind fun v1=>(if (!v1)=true then (some ((0,0,0),2)) else ((kbL x0 x1).bind fun v2=>(some (v2,0)))))))
def keW (x0:(Int×Int×Int)) (x1:Int):Option (Int×Int×Int):=
 ((kct (1,0,0) x1).bind fun v0=>((kct (0,1,0) x1).bind fun v1=>((kct (0,0,1) x1).bind fun v2=>(some ((w64 ((w64 ((w64 (x0.1*v0.1.1))+(w64 (x0.2.1*v1.1.1))))+(w64 (x0.2.2*v2.1.1)))),(w64 ((w64 ((w64 (x0.1*v0.1.2.1))+(w64 (x0.2.1*v1.1.2.1))))+(w64 (x0.2.2*v2.1.2.1)))),(w64 ((w64 ((w64 (x0.1*v0.1.2.2))+(w64 (x0.2.1*v1.1.2.2))))+(w64 (x0.2.2*v2.1.2.2)))))))))
def kgM (o:Option (List (Int×Int×Int×Int))) (v0:(Int×(List (Int×Int×Int×Int)))):Option ((Int×(List (Int×Int×Int×Int)))⊕((List (Int×Int×Int×Int))⊕(List (Int×Int×Int×Int)))):=
 (if (decide (v0.1<24))=true then ((kbL (1,2,3) v0.1).bind fun v1=>((gpre (.pr (.i .i64) (.pr (.i .i64) (.pr (.i .i64) (.i .i64)))) o v0.2 (v0.1,v1)).bind fun v2=>(some (.inl ((w64 (v0.1+1)),v2))))) else (some (.inr (.inr v0.2))))
def kcU (o:Option (List (Int×Int×Int×Int))):Option (List (Int×Int×Int×Int)):=
 ((iter (kgM o) (0,[])).bind fun v3=>(match v3 with | .inl v4=>(some v4) | .inr v5=>(some v5)))
def lattice_which_m3:Option Unit:=
 (some ())
def kcf (v1:(Int×Int×Int)) (v3:(List (Int×Int×Int×Int))) (v4:(Int×Int)):Option ((Int×Int)⊕(Int⊕Int)):=
 (if (decide (v4.1<(lenI v3)))=true then ((gi v3 v4.1).bind fun v5=>(if ((v5.2.1==v1.1)&&((v5.2.2.1==v1.2.1)&&(v5.2.2.2==v1.2.2)))=true then (some (.inr (.inl v5.1))) else (some (.inl ((v4.1+1),v4.2))))) else (some (.inr (.inr v4.2))))
def kcZ (x0:Int) (x1:Int):Option Int:=
 ((kbL (1,2,3) x0).bind fun v0=>((kbL v0 x1).bind fun v1=>(lattice_which_m3.bind fun v2=>((runI fun o=>(kcU o)).bind fun v3=>((iter (kcf v1 v3) (0,0)).bind fun v6=>(match v6 with | .inl v7=>(some v7) | .inr v8=>(some (-1))))))))
def kem (x0:Int) (x1:Int):Option (Int×Int):=
 ((kcw [x0,x1]).bind fun v0=>(if (!v0)=true then (some (0,2)) else ((kcZ x0 x1).bind fun v1=>(some (v1,0)))))
def kcY (x0:(List Int)) (v0:Int):Option (Int⊕(Int⊕Unit)):=
 (if (decide (v0<(lenI x0)))=true then ((gi x0 v0).bind fun v1=>(if (v1 != 0)=true then (some (.inr (.inl v1))) else (some (.inl (w64 (v0+1)))))) else (some (.inr (.inr ()))))
def keB (x0:(List Int)):Option Int:=
 ((iter (kcY x0) 0).bind fun v2=>(match v2 with | .inl v3=>(some v3) | .inr v4=>(some 0)))
def kff (x0:Brick) (x1:Brick):Option Brick:=
 ((keW x0.2.1 (w64 x1.2.2.1)).bind fun v0=>((kem (w64 x0.2.2.1) (w64 x1.2.2.1)).bind fun v1=>((keB [x0.2.2.2,x1.2.2.2]).bind fun v2=>(some (x0.1,((w64 (v0.1+x1.2.1.1)),(w64 (v0.2.1+x1.2.1.2.1)),(w64 (v0.2.2+x1.2.1.2.2))),(IntKind.wrap .u8 v1.1),v2)))))
def keL (x0:Int) (x1:Int):Option Bool:=
 (some (x0 != x1))
def kbV (x0:List UInt8) (v0:Int):Option (Int⊕(Bool⊕Unit)):=
 (if (decide (v0<(lenI x0)))=true then (((gstr x0 v0).bind fun v1=>(if (decide (97≤v1))=true then ((gstr x0 v0).bind fun v2=>(some (decide (v2≤122)))) else (some false))).bind fun v3=>(if (!v3)=true then (if (v0==0)=true then (some (.inr (.inl false))) else ((gstr x0 v0).bind fun v4=>(if (v4 != 45)=true then ((gstr x0 v0).bind fun v5=>(if (decide (v5<48))=true then (some (.inr (.inl false))) else ((gstr x0 v0).bind fun v6=>(if (decide (57<v6))=true then (some (.inr (.inl false))) else (some (.inl (w64 (v0+1)))))))) else (some (.inl (w64 (v0+1))))))) else (some (.inl (w64 (v0+1)))))) else (some (.inr (.inr ()))))
def kfG (x0:List UInt8):Option Bool:=
 ((iter (kbV x0) 0).bind fun v7=>(match v7 with | .inl v8=>(some v8) | .inr v9=>(if (decide (1≤(lenI x0)))=true then (some (decide ((lenI x0)≤12))) else (some false))))
def kdX (x0:(List Sub)) (x1:List UInt8) (v0:Int):Option (Int⊕(Int⊕Unit)):=
 (if (decide (v0<(lenI x0)))=true then ((gi x0 v0).bind fun v1=>(if (v1.1==x1)=true then (some (.inr (.inl v0))) else (some (.inl (w64 (v0+1)))))) else (some (.inr (.inr ()))))
def kfH (x0:(List Sub)) (x1:List UInt8):Option Int:=
 ((iter (kdX x0 x1) 0).bind fun v2=>(match v2 with | .inl v3=>(some v3) | .inr v4=>(some (-1))))
def kbe (x0:Int) (x1:Int) (x2:Int):Option Bool:=
 (if (decide (x1≤x0))=true then (some (decide (x0≤x2))) else (some false))
def kbU (x0:(Int×Int×Int)):Option Bool:=
 ((kbe x0.1 (-1000) 1000).bind fun v0=>(if v0=true then ((kbe x0.2.1 (-1000) 1000).bind fun v1=>(if v1=true then ((kbe x0.2.2 (-1000) 1000).bind fun v2=>(some v2)) else (some false))) else (some false)))
def kfI (x0:(List Sub)) (x1:Int) (x2:Line):Option Bool:=
 ((kbU x2.2.2.1).bind fun v0=>(if (!v0)=true then (some false) else (if (decide (23<x2.2.2.2.1))=true then (some false) else (if (decide (15<x2.2.2.2.2))=true then (some false) else (if (x2.1==(-1))=true then ((kbe x2.2.1 0 15).bind fun v1=>(some v1)) else ((kbe x2.1 (w64 (x1+1)) (w64 ((lenI x0)-1))).bind fun v2=>(if v2=true then (some (x2.2.1==0)) else (some false))))))))
def kcz (x0:(List Sub)) (v0:Int) (v1:Sub) (v4:Int):Option (Int⊕(Bool⊕Unit)):=
 (if (decide (v4<(lenI v1.2)))=true then ((gi v1.2 v4).bind fun v5=>((kfI x0 v0 v5).bind fun v6=>(if (!v6)=true then (some (.inr (.inl false))) else (some (.inl (w64 (v4+1))))))) else (some (.inr (.inr ()))))
def kdC (x0:(List Sub)) (v0:Int):Option (Int⊕(Bool⊕Unit)):=
 (if (decide (v0<(lenI x0)))=true then ((gi x0 v0).bind fun v1=>((kfG v1.1).bind fun v2=>(if (!v2)=true then (some (.inr (.inl false))) else (if (decide (20<(lenI v1.2)))=true then (some (.inr (.inl false))) else ((kfH x0 v1.1).bind fun v3=>(if (v3 != v0)=true then (some (.inr (.inl false))) else ((iter (kcz x0 v0 v1) 0).bind fun v7=>(match v7 with | .inl v8=>(some (.inr (.inl v8))) | .inr v9=>(some (.inl (w64 (v0+1)))))))))))) else (some (.inr (.inr ()))))
def kfb (x0:(List Sub)):Option Bool:=
 (if (decide ((lenI x0)<1))=true then (some false) else (if (decide (8<(lenI x0)))=true then (some false) else ((iter (kdC x0) 0).bind fun v10=>(match v10 with | .inl v11=>(some v11) | .inr v12=>(some true)))))
def kbY (x1:Int) (v0:(Int×Int×Int×Int)):Option ((Int×Int×Int×Int)⊕(Int×Int×Int)):=
 (if (decide (v0.1<x1))=true then (some (.inl ((w64 (v0.1+1)),(w64 (0-v0.2.2.1)),v0.2.1,v0.2.2.2))) else (some (.inr v0.2)))
def kbt (x0:(Int×Int×Int)) (x1:Int):Option (Int×Int×Int):=
 ((iter (kbY x1) (0,x0)).bind fun v1=>(some v1))
def kce (x1:Int) (v0:(Int×Int×Int×Int)):Option ((Int×Int×Int×Int)⊕(Int×Int×Int)):=
 (if (decide (v0.1<x1))=true then (some (.inl ((w64 (v0.1+1)),v0.2.1,(w64 (0-v0.2.2.2)),v0.2.2.1))) else (some (.inr v0.2)))
def kcq (x0:(Int×Int×Int)) (x1:Int):Option (Int×Int×Int):=
 ((iter (kce x1) (0,x0)).bind fun v1=>(some v1))
def kaT (x0:(Int×Int×Int)) (x1:Int):Option (Int×Int×Int):=
 ((grem x1 4).bind fun v0=>((kbt x0 v0).bind fun v1=>((gquo .i64 x1 4).bind fun v2=>(if (decide (v2<4))=true then ((gquo .i64 x1 4).bind fun v3=>((kcq v1 v3).bind fun v4=>(some v4))) else ((kcq v1 1).bind fun v5=>((gquo .i64 x1 4).bind fun v6=>(if (v6==4)=true then ((kbt v5 1).bind fun v7=>(some v7)) else ((kbt v5 3).bind fun v8=>(some v8)))))))))
def kcm (x0:Int) (x1:Int) (v0:Int):Option (Int⊕(Int⊕Unit)):=
 (if (decide (v0<24))=true then ((kaT (1,0,0) v0).bind fun v1=>((kaT (1,0,0) x0).bind fun v2=>((kaT v2 x1).bind fun v3=>(if ((v1.1==v3.1)&&((v1.2.1==v3.2.1)&&(v1.2.2==v3.2.2)))=true then ((kaT (0,1,0) v0).bind fun v4=>((kaT (0,1,0) x0).bind fun v5=>((kaT v5 x1).bind fun v6=>(if ((v4.1==v6.1)&&((v4.2.1==v6.2.1)&&(v4.2.2==v6.2.2)))=true then (some (.inr (.inl v0))) else (some (.inl (w64 (v0+1)))))))) else (some (.inl (w64 (v0+1)))))))) else (some (.inr (.inr ()))))
def kdB (x0:Int) (x1:Int):Option Int:=
 ((iter (kcm x0 x1) 0).bind fun v7=>(match v7 with | .inl v8=>(some v8) | .inr v9=>(some 0)))
def keE (x0:Brick) (x1:Brick):Option Brick:=
 ((kaT x0.2.1 (w64 x1.2.2.1)).bind fun v0=>((kdB (w64 x0.2.2.1) (w64 x1.2.2.1)).bind fun v1=>(if (x0.2.2.2==0)=true then (some (x0.1,((w64 (v0.1+x1.2.1.1)),(w64 (v0.2.1+x1.2.1.2.1)),(w64 (v0.2.2+x1.2.1.2.2))),(IntKind.wrap .u8 v1),x1.2.2.2)) else (some (x0.1,((w64 (v0.1+x1.2.1.1)),(w64 (v0.2.1+x1.2.1.2.1)),(w64 (v0.2.2+x1.2.1.2.2))),(IntKind.wrap .u8 v1),x0.2.2.2)))))
def kcH (x0:(List Sub)) (v0:(Int×(List Sub))):Option ((Int×(List Sub))⊕(List Sub)):=
 (if (decide (v0.1<(lenI x0)))=true then ((gi x0 v0.1).bind fun v1=>((gi x0 v0.1).bind fun v2=>((gapp [] v2.2).bind fun v3=>((gapp v0.2 [(v1.1,v3)]).bind fun v4=>(some (.inl ((w64 (v0.1+1)),v4))))))) else (some (.inr v0.2)))
def kby (x0:(List Sub)):Option (List Sub):=
 ((iter (kcH x0) (0,[])).bind fun v5=>(some v5))
def kio (x0:(List Sub)) (x1:(List Bool)) (v1:(Int×(List Int)×(List Sub))):Option ((Int×(List Int)×(List Sub))⊕((List Sub)×(List Int))):=
 (if (decide (v1.1<(lenI x0)))=true then ((gi v1.2.1 v1.1).bind fun v2=>((gi x1 v1.1).bind fun v3=>((gi x1 v1.1).bind fun v4=>(if (!v4)=true then ((gi x0 v1.1).bind fun v5=>((gapp v1.2.2 [v5]).bind fun v6=>(some (.inl ((w64 (v1.1+1)),(lset v1.2.1 v1.1 (lenI v1.2.2)),v6))))) else (some (.inl ((w64 (v1.1+1)),(lset v1.2.1 v1.1 (lenI v1.2.2)),v1.2.2))))))) else (some (.inr (v1.2.2,v1.2.1))))
def kir (v7:((List Sub)×(List Int))) (v9:(Int×(List Sub))) (v10:(Int×(List Sub))):Option ((Int×(List Sub))⊕(List Sub)):=
 ((gi v10.2 v9.1).bind fun v11=>((gi v10.2 v9.1).bind fun v12=>((gi v10.2 v9.1).bind fun v13=>(if (decide (v10.1<(lenI v13.2)))=true then ((gi v10.2 v9.1).bind fun v14=>((gi v10.2 v9.1).bind fun v15=>((gi v10.2 v9.1).bind fun v16=>((gi v16.2 v10.1).bind fun v17=>((gi v10.2 v9.1).bind fun v18=>((gi v18.2 v10.1).bind fun v19=>(if (decide (0≤v19.1))=true then ((gi v7.2 v19.1).bind fun v20=>((gi v7.2 v19.1).bind fun v21=>((gi v10.2 v9.1).bind fun v22=>((gi v10.2 v9.1).bind fun v23=>((gi v10.2 v9.1).bind fun v24=>((gi v24.2 v10.1).bind fun v25=>((gi v10.2 v9.1).bind fun v26=>((gi v26.2 v10.1).bind fun v27=>(some (.inl ((w64 (v10.1+1)),(lset v10.2 v9.1 (v26.1,(lset v26.2 v10.1 (v21,v19.2))))))))))))))) else (some (.inl ((w64 (v10.1+1)),v10.2)))))))))) else (some (.inr v10.2))))))
def kis (v7:((List Sub)×(List Int))) (v9:(Int×(List Sub))):Option ((Int×(List Sub))⊕(List Sub)):=
 (if (decide (v9.1<(lenI v9.2)))=true then ((iter (kir v7 v9) (0,v9.2)).bind fun v28=>(some (.inl ((w64 (v9.1+1)),v28)))) else (some (.inr v9.2)))
def kkq (x0:(List Sub)) (x1:(List Bool)):Option ((List Bool)×(List Sub)):=
 ((gmk (lenI x0) 0).bind fun v0=>((iter (kio x0 x1) (0,v0,[])).bind fun v7=>((kby v7.1).bind fun v8=>((iter (kis v7) (0,v8)).bind fun v29=>(some (x1,v29))))))
def kec (v5:(List UInt8×(List Line)×Sub)) (v6:Int):Option (Int⊕(Bool⊕Unit)):=
 (if (decide (v6<(lenI v5.2.1)))=true then ((gi v5.2.1 v6).bind fun v7=>((gi v5.2.2.2 v6).bind fun v8=>(if (!((v7.1==v8.1)&&((v7.2.1==v8.2.1)&&(((v7.2.2.1.1==v8.2.2.1.1)&&((v7.2.2.1.2.1==v8.2.2.1.2.1)&&(v7.2.2.1.2.2==v8.2.2.1.2.2)))&&((v7.2.2.2.1==v8.2.2.2.1)&&(v7.2.2.2.2==v8.2.2.2.2))))))=true then (some (.inr (.inl false))) else (some (.inl (w64 (v6+1))))))) else (some (.inr (.inr ()))))
def kea (x0:(List Sub)) (x1:(List Sub)) (v0:Int):Option (Int⊕(Bool⊕Unit)):=
 (if (decide (v0<(lenI x0)))=true then ((bthO (.pr .s (.pr (.sl tLine) tSub)) ((gi x0 v0).bind fun v1=>((gi x1 v0).bind fun v2=>(some (v1.1,v1.2,v2)))) ((gi x0 v0).bind fun v3=>((gi x1 v0).bind fun v4=>(some (v3.1,v3.2,v4))))).bind fun v5=>(if (!(v5.1==v5.2.2.1))=true then (some (.inr (.inl false))) else (if ((lenI v5.2.1) != (lenI v5.2.2.2))=true then (some (.inr (.inl false))) else ((iter (kec v5) 0).bind fun v9=>(match v9 with | .inl v10=>(some (.inr (.inl v10))) | .inr v11=>(some (.inl (w64 (v0+1))))))))) else (some (.inr (.inr ()))))
def kez (x0:(List Sub)) (x1:(List Sub)):Option Bool:=
 (if ((lenI x0) != (lenI x1))=true then (some false) else ((iter (kea x0 x1) 0).bind fun v12=>(match v12 with | .inl v13=>(some v13) | .inr v14=>(some true))))
def kaD (x0:(List Line)):Option (List Line):=
 (if (isE x0)=true then (bthO (.sl tLine) (some []) ((gapp [] x0).bind fun v0=>(some v0))) else ((gapp [] x0).bind fun v1=>(some v1)))
def kcW (x0:(List Sub)) (x1:(Int→Option Bool)) (v0:(Int×(List (Int×Int))×(List Sub))):Option ((Int×(List (Int×Int))×(List Sub))⊕((List Sub)×(List (Int×Int)))):=
 (if (decide (v0.1<(lenI x0)))=true then ((gi x0 v0.1).bind fun v1=>((x1 v0.1).bind fun v2=>(if v2=true then ((kaD v1.2).bind fun v3=>((gapp v0.2.2 [(v1.1,v3)]).bind fun v4=>(some (.inl ((w64 (v0.1+1)),(mput v0.2.1 v0.1 (lenI v0.2.2)),v4))))) else (some (.inl ((w64 (v0.1+1)),v0.2)))))) else (some (.inr (v0.2.2,v0.2.1))))
def kca (v5:((List Sub)×(List (Int×Int)))) (v6:(Int×(List Sub))) (v9:Sub) (v10:(Int×(List Sub))):Option ((Int×(List Sub))⊕(List Sub)):=
 (if (decide (v10.1<(lenI v9.2)))=true then ((gi v10.2 v6.1).bind fun v11=>((gi v11.2 v10.1).bind fun v12=>((gi v10.2 v6.1).bind fun v13=>((gi v13.2 v10.1).bind fun v14=>(if (decide (0≤v14.1))=true then ((gi v10.2 v6.1).bind fun v15=>((gi v15.2 v10.1).bind fun v16=>((gi v10.2 v6.1).bind fun v17=>((gi v17.2 v10.1).bind fun v18=>(some (.inl ((w64 (v10.1+1)),(lset v10.2 v6.1 (v17.1,(lset v17.2 v10.1 (((mget v5.2 v14.1).getD 0),v18.2))))))))))) else (some (.inl ((w64 (v10.1+1)),v10.2)))))))) else (some (.inr v10.2)))
def kcX (v5:((List Sub)×(List (Int×Int)))) (v6:(Int×(List Sub))):Option ((Int×(List Sub))⊕(List Sub)):=
 (if (decide (v6.1<(lenI v5.1)))=true then ((gi v6.2 v6.1).bind fun v7=>((gi v6.2 v6.1).bind fun v8=>((gi v6.2 v6.1).bind fun v9=>((iter (kca v5 v6 v9) (0,v6.2)).bind fun v19=>(some (.inl ((w64 (v6.1+1)),v19))))))) else (some (.inr v6.2)))
def kcp (x0:(List Sub)) (x1:(Int→Option Bool)):Option (List Sub):=
 ((iter (kcW x0 x1) (0,[],[])).bind fun v5=>((iter (kcX v5) (0,v5.1)).bind fun v20=>(some v20)))
def kbC (v6:Line) (v8:Sub) (v9:(Int×Int×(List Line))):Option ((Int×Int×(List Line))⊕(Int×(List Line))):=
 (if (decide (v9.1<(lenI v8.2)))=true then ((gi v8.2 v9.1).bind fun v10=>((kff v10.2 v6.2).bind fun v11=>(((kfk v11.2.1).bind fun v12=>(if (!v12)=true then (some (v9.2.1==0)) else (some false))).bind fun v13=>(if v13=true then ((gapp v9.2.2 [(v10.1,v11)]).bind fun v14=>(some (.inl ((w64 (v9.1+1)),11,v14)))) else ((gapp v9.2.2 [(v10.1,v11)]).bind fun v15=>(some (.inl ((w64 (v9.1+1)),v9.2.1,v15)))))))) else (some (.inr v9.2)))
def kbB (x0:(List Sub)) (x1:Int) (v4:Sub) (v5:(Int×Int×(List Line))):Option ((Int×Int×(List Line))⊕(Int×(List Line))):=
 (if (decide (v5.1<(lenI v4.2)))=true then ((gi v4.2 v5.1).bind fun v6=>(if (v6.1 != x1)=true then ((gapp v5.2.2 [v6]).bind fun v7=>(some (.inl ((w64 (v5.1+1)),v5.2.1,v7)))) else ((gi x0 x1).bind fun v8=>((iter (kbC v6 v8) (0,v5.2)).bind fun v16=>(some (.inl ((w64 (v5.1+1)),v16))))))) else (some (.inr v5.2)))
def kbA (x0:(List Sub)) (x1:Int) (v3:(Int×Int×(List Sub))):Option ((Int×Int×(List Sub))⊕(Int×(List Sub))):=
 (if (decide (v3.1<(lenI x0)))=true then ((gi x0 v3.1).bind fun v4=>((iter (kbB x0 x1 v4) (0,v3.2.1,[])).bind fun v17=>((if (decide (20<(lenI v17.2)))=true then (some 4) else (some v17.1)).bind fun v18=>((gi v3.2.2 v3.1).bind fun v19=>((gi v3.2.2 v3.1).bind fun v20=>(some (.inl ((w64 (v3.1+1)),v18,(lset v3.2.2 v3.1 (v20.1,v17.2)))))))))) else (some (.inr v3.2)))
def kdy (x0:(List Sub)) (x1:Int):Option (Int×(List Sub)):=
 ((kfE x0).bind fun v0=>(if (v0 != 0)=true then (some (v0,[])) else ((kbp 1 (w64 ((lenI x0)-1)) [x1]).bind fun v1=>(if (!v1)=true then (some (2,[])) else ((kcp x0 (fun (u0:Int)=>((keH u0).bind fun u1=>(some u1)))).bind fun v2=>((iter (kbA x0 x1) (0,0,v2)).bind fun v21=>(if (v21.1 != 0)=true then (some (v21.1,[])) else ((kcp v21.2 (fun (u0:Int)=>((keL u0 x1).bind fun u1=>(some u1)))).bind fun v22=>(some (0,v22))))))))))
def kbR (x0:(List Sub)) (x1:(List Bool)) (v1:(Int×(List Int)×(List Sub))):Option ((Int×(List Int)×(List Sub))⊕((List Sub)×(List Int))):=
 (if (decide (v1.1<(lenI x0)))=true then ((gi v1.2.1 v1.1).bind fun v2=>((gi x1 v1.1).bind fun v3=>(if (!v3)=true then ((gi x0 v1.1).bind fun v4=>((gapp v1.2.2 [v4]).bind fun v5=>(some (.inl ((w64 (v1.1+1)),(lset v1.2.1 v1.1 (lenI v1.2.2)),v5))))) else (some (.inl ((w64 (v1.1+1)),(lset v1.2.1 v1.1 (lenI v1.2.2)),v1.2.2)))))) else (some (.inr (v1.2.2,v1.2.1))))
def kbk (v6:((List Sub)×(List Int))) (v8:(Int×(List Sub))) (v9:(Int×(List Sub))):Option ((Int×(List Sub))⊕(List Sub)):=
 ((gi v9.2 v8.1).bind fun v10=>((gi v9.2 v8.1).bind fun v11=>((gi v9.2 v8.1).bind fun v12=>(if (decide (v9.1<(lenI v12.2)))=true then ((gi v9.2 v8.1).bind fun v13=>((gi v9.2 v8.1).bind fun v14=>((gi v9.2 v8.1).bind fun v15=>((gi v15.2 v9.1).bind fun v16=>((gi v9.2 v8.1).bind fun v17=>((gi v17.2 v9.1).bind fun v18=>(if (decide (0≤v18.1))=true then ((gi v6.2 v18.1).bind fun v19=>((gi v6.2 v18.1).bind fun v20=>((gi v9.2 v8.1).bind fun v21=>((gi v9.2 v8.1).bind fun v22=>((gi v9.2 v8.1).bind fun v23=>((gi v23.2 v9.1).bind fun v24=>((gi v9.2 v8.1).bind fun v25=>((gi v25.2 v9.1).bind fun v26=>(some (.inl ((w64 (v9.1+1)),(lset v9.2 v8.1 (v25.1,(lset v25.2 v9.1 (v20,v18.2))))))))))))))) else (some (.inl ((w64 (v9.1+1)),v9.2)))))))))) else (some (.inr v9.2))))))
def kbQ (v6:((List Sub)×(List Int))) (v8:(Int×(List Sub))):Option ((Int×(List Sub))⊕(List Sub)):=
 (if (decide (v8.1<(lenI v8.2)))=true then ((iter (kbk v6 v8) (0,v8.2)).bind fun v27=>(some (.inl ((w64 (v8.1+1)),v27)))) else (some (.inr v8.2)))
def kcJ (x0:(List Sub)) (x1:(List Bool)):Option (List Sub):=
 ((gmk (lenI x0) 0).bind fun v0=>((iter (kbR x0 x1) (0,v0,[])).bind fun v6=>((kby v6.1).bind fun v7=>((iter (kbQ v6) (0,v7)).bind fun v28=>(some v28)))))
def kbi (x1:Int) (v3:(Int×Bool×Bool×(List Sub))) (v13:Line) (v15:(Int×Bool×(List Line))):Option ((Int×Bool×(List Line))⊕(Bool×(List Line))):=
 ((gi v3.2.2.2 x1).bind fun v16=>((gi v3.2.2.2 x1).bind fun v17=>((gi v3.2.2.2 x1).bind fun v18=>(if (decide (v15.1<(lenI v18.2)))=true then ((gi v3.2.2.2 x1).bind fun v19=>((gi v3.2.2.2 x1).bind fun v20=>((gi v3.2.2.2 x1).bind fun v21=>((gi v21.2 v15.1).bind fun v22=>((gi v3.2.2.2 x1).bind fun v23=>((gi v23.2 v15.1).bind fun v24=>((keE v24.2 v13.2).bind fun v25=>(if v15.2.1=true then ((gapp v15.2.2 [(v24.1,v25)]).bind fun v26=>(some (.inl ((w64 (v15.1+1)),true,v26)))) else ((kbU v25.2.1).bind fun v27=>((gapp v15.2.2 [(v24.1,v25)]).bind fun v28=>(some (.inl ((w64 (v15.1+1)),(!v27),v28))))))))))))) else (some (.inr v15.2))))))
def kbn (x1:Int) (v3:(Int×Bool×Bool×(List Sub))) (v4:(Int×Bool×(List Line))):Option ((Int×Bool×(List Line))⊕(Bool×(List Line))):=
 ((gi v3.2.2.2 v3.1).bind fun v5=>((gi v3.2.2.2 v3.1).bind fun v6=>((gi v3.2.2.2 v3.1).bind fun v7=>(if (decide (v4.1<(lenI v7.2)))=true then ((gi v3.2.2.2 v3.1).bind fun v8=>((gi v3.2.2.2 v3.1).bind fun v9=>((gi v3.2.2.2 v3.1).bind fun v10=>((gi v10.2 v4.1).bind fun v11=>((gi v3.2.2.2 v3.1).bind fun v12=>((gi v12.2 v4.1).bind fun v13=>(if (v13.1 != x1)=true then ((gapp v4.2.2 [v13]).bind fun v14=>(some (.inl ((w64 (v4.1+1)),v4.2.1,v14)))) else ((iter (kbi x1 v3 v13) (0,v4.2)).bind fun v29=>(some (.inl ((w64 (v4.1+1)),v29))))))))))) else (some (.inr v4.2))))))
def kbm (x1:Int) (v3:(Int×Bool×Bool×(List Sub))):Option ((Int×Bool×Bool×(List Sub))⊕(Bool×Bool×(List Sub))):=
 (if (decide (v3.1<(lenI v3.2.2.2)))=true then ((iter (kbn x1 v3) (0,v3.2.1,[])).bind fun v30=>((if v3.2.2.1=true then (some true) else (some (decide (20<(lenI v30.2))))).bind fun v31=>((gi v3.2.2.2 v3.1).bind fun v32=>((gi v3.2.2.2 v3.1).bind fun v33=>((gi v3.2.2.2 v3.1).bind fun v34=>((gi v3.2.2.2 v3.1).bind fun v35=>(some (.inl ((w64 (v3.1+1)),v30.1,v31,(lset v3.2.2.2 v3.1 (v33.1,v30.2))))))))))) else (some (.inr (v3.2.2.1,v3.2.1,v3.2.2.2))))
def kcM (x0:(List Sub)) (x1:Int):Option (Int×(List Sub)):=
 ((kfb x0).bind fun v0=>(if (!v0)=true then (some (8,[])) else ((kbe x1 1 (w64 ((lenI x0)-1))).bind fun v1=>(if (!v1)=true then (some (2,[])) else ((kby x0).bind fun v2=>((iter (kbm x1) (0,false,false,v2)).bind fun v36=>(if v36.1=true then (some (4,[])) else (if v36.2.1=true then (some (11,[])) else ((gmk (lenI v36.2.2) false).bind fun v37=>((gi v37 x1).bind fun v38=>((kcJ v36.2.2 (lset v37 x1 true)).bind fun v39=>(some (0,v39)))))))))))))
def kck (v0:(Int×(List Sub))) (v3:Sub) (v4:(Int×(List Sub))):Option ((Int×(List Sub))⊕(List Sub)):=
 (if (decide (v4.1<(lenI v3.2)))=true then ((gi v4.2 v0.1).bind fun v5=>((gi v4.2 v0.1).bind fun v6=>((gi v4.2 v0.1).bind fun v7=>((gi v7.2 v4.1).bind fun v8=>((gi v4.2 v0.1).bind fun v9=>((gi v9.2 v4.1).bind fun v10=>(some (.inl ((w64 (v4.1+1)),(lset v4.2 v0.1 (v9.1,(lset v9.2 v4.1 ((-7),v10.2))))))))))))) else (some (.inr v4.2)))
def kcc (x0:(List Sub)) (v0:(Int×(List Sub))):Option ((Int×(List Sub))⊕Unit):=
 (if (decide (v0.1<(lenI x0)))=true then ((gi v0.2 v0.1).bind fun v1=>((gi v0.2 v0.1).bind fun v2=>((gi v0.2 v0.1).bind fun v3=>((iter (kck v0 v3) (0,v0.2)).bind fun v11=>((gi v11 v0.1).bind fun v12=>((gi v11 v0.1).bind fun v13=>(some (.inl ((w64 (v0.1+1)),(lset v11 v0.1 ([63],v13.2))))))))))) else (some (.inr ())))
def kda (x0:(List Sub)):Option Unit:=
 ((iter (kcc x0) (0,x0)).bind fun v14=>(some ()))
def kdK (x0:(List Sub)) (x1:Int):Option Bool:=
 ((kfc x0).bind fun v0=>(if v0=true then (some true) else ((kby x0).bind fun v1=>((kdy v1 x1).bind fun v2=>((kcM x0 x1).bind fun v3=>(((kez v2.2 v3.2).bind fun v4=>(if v4=true then (some (v2.1==v3.1)) else (some false))).bind fun v5=>((kda v2.2).bind fun v6=>(if v5=true then ((kez v1 x0).bind fun v7=>(some v7)) else (some false)))))))))
end Go.Abs
set_option maxRecDepth 100000
namespace Go.Abs
open Go Go.Proofs
def kcN:Ctr:=⟨ "",[],[],fun _=>none,[],[]⟩
theorem kbu {g:FuncId}:Good Try.prog g kcN:=good_dm
def kic:Ctr:=⟨ "",[(.w (.sl tSub))],[.b],fun x=>kfc x,[],[]⟩
theorem kkA:Good Try.prog 5 kic:=
 kal Try.func5 (by kernel_rfl) (An:=[(0,⟨⟨[(3,.c (.i .i64))],[]⟩,⟨[],[]⟩,[1],[0],1,true,""⟩)]) [] (.nil) (fun x=>by kernel_rfl)
def ref02_Twin_C:Ctr:=⟨ "",[(.w (.sl tSub))],[(.w (.sl tSub))],fun x=>kqx x,[],[]⟩
theorem ref02_Twin_C_ok:Good Try.prog 6 ref02_Twin_C:=
 kal Try.func6 (by kernel_rfl) (An:=[(0,⟨⟨[(4,.c (.i .i64)),(3,.ptr 4 0)],[(4,.bx 24 [.mw 3]),(3,.sl 42 tSub)]⟩,⟨[(3,.ptr 5 0)],[(5,.bx 24 [.mw 6]),(6,.sl 42 tSub)]⟩,[1,2],[0,2,1],7,false,""⟩)]) [] (.nil) (fun x=>by kernel_rfl)
def khg:Ctr:=⟨ "",[(.i .i64),(.pt (.i .i64)),(.pt (.i .i64))],[.b],fun x=>keA x.1 x.2.1 x.2.2,[],[]⟩
theorem kjD:Good Try.prog 36 khg:=
 kal Try.func36 (by kernel_rfl) (An:=[]) [] (.nil) (fun x=>by kernel_rfl)
def kcr:Ctr:=⟨ "",[(.sl (.i .i64)),(.fn 1 (.i .i64) .b)],[(.i .i64)],fun x=>kbz x.1 x.2,[],[]⟩
theorem kel:Good Try.prog 42 kcr:=
 kal Try.func42 (by kernel_rfl) (An:=[(0,⟨⟨[(8,.c (.i .i64))],[]⟩,⟨[],[]⟩,[7,1,0],[],0,true,""⟩)]) [] (.nil) (fun x=>by kernel_rfl)
def kbS:Ctr:=⟨ "",[(.sl (.i .i64)),(.fn 1 (.i .i64) .b)],[.b],fun x=>kaL x.1 x.2,[],[]⟩
theorem kdL:Good Try.prog 35 kbS:=
 kal Try.func35 (by kernel_rfl) (An:=[]) [(42,kcr)] (.cons kel <| .nil) (fun x=>by kernel_rfl)
def kdN:Ctr:=⟨ "",[(.i .i64),(.i .i64),(.sl (.i .i64))],[.b],fun x=>kbp x.1 x.2.1 x.2.2,[],[]⟩
theorem kdu:Good Try.prog 21 kdN:=
 kal Try.func21 (by kernel_rfl) (An:=[]) [(35,kbS),(36,khg)] (.cons kdL <| .cons kjD <| .nil) (fun x=>by kernel_rfl)
def kie:Ctr:=⟨ "",[.s],[.b],fun x=>kfe x,[],[]⟩
theorem kkt:Good Try.prog 32 kie:=
 kal Try.func32 (by kernel_rfl) (An:=[(0,⟨⟨[(6,.ptr 0 0)],[(0,.si)]⟩,⟨[],[]⟩,[0],[],1,true,""⟩),(18,⟨⟨[],[]⟩,⟨[(11,.c .b)],[]⟩,[4,6,3],[0],1,false,""⟩)]) [(21,kdN)] (.cons kdu <| .nil) (fun x=>by kernel_rfl)
def kgV:Ctr:=⟨ "",[(.pr (.i .i64) (.pr (.i .i64) (.i .i64)))],[.b],fun x=>kfk x,[],[]⟩
theorem kgY:Good Try.prog 28 kgV:=
 kal Try.func28 (by kernel_rfl) (An:=[]) [(21,kdN)] (.cons kdu <| .nil) (fun x=>by kernel_rfl)
def kiM:Ctr:=⟨ "",[(.w (.sl tSub))],[(.i .i64)],fun x=>kfE x,[],[]⟩
theorem kkZ:Good Try.prog 15 kiM:=
 kal Try.func15 (by kernel_rfl) (An:=[(0,⟨⟨[(20,.c (.i .i64)),(3,.mp 2)],[(2,.mp .s .b)]⟩,⟨[],[]⟩,[19,18,1],[0],3,true,""⟩),(8,⟨⟨[(47,.c (.i .i64))],[]⟩,⟨[],[]⟩,[46,45,4,20,3],[2],5,true,""⟩),(58,⟨⟨[],[]⟩,⟨[(9,.c .b)],[]⟩,[7,8,47],[5,6],7,false,""⟩)]) [(28,kgV),(32,kie),(21,kdN)] (.cons kgY <| .cons kkt <| .cons kdu <| .nil) (fun x=>by kernel_rfl)
def slices_Clone_s_api_Line_api_Line_C:Ctr:=⟨ "",[(.sl tLine)],[(.sl tLine)],fun x=>keg x,[],[]⟩
theorem slices_Clone_s_api_Line_api_Line_C_ok:Good Try.prog 33 slices_Clone_s_api_Line_api_Line_C:=
 kal Try.func33 (by kernel_rfl) (An:=[]) [] (.nil) (fun x=>by kernel_rfl)
def kgy:Ctr:=⟨ "",[(.i .i64)],[.b],fun x=>keH x,[],[]⟩
theorem kip:Good Try.prog 26 kgy:=
 kal Try.func26 (by kernel_rfl) (An:=[]) [] (.nil) (fun x=>by kernel_rfl)
def kha:Ctr:=⟨ "",[(.pr (.i .i64) (.pr (.i .i64) (.i .i64))),(.i .i64),(.i .i64)],[.b],fun x=>kcx x.1 x.2.1 x.2.2,[],[]⟩
theorem kjH:Good Try.prog 48 kha:=
 kal Try.func48 (by kernel_rfl) (An:=[]) [] (.nil) (fun x=>by kernel_rfl)
def kee:Ctr:=⟨ "",[(.sl (.i .i64))],[.b],fun x=>kcw x,[],[]⟩
theorem keF:Good Try.prog 44 kee:=
 kal Try.func44 (by kernel_rfl) (An:=[(0,⟨⟨[(7,.c (.i .i64))],[]⟩,⟨[],[]⟩,[6,5],[],0,true,""⟩)]) [] (.nil) (fun x=>by kernel_rfl)
def kbd:Ctr:=⟨ "",[(.pr (.i .i64) (.pr (.i .i64) (.i .i64)))],[(.pr (.i .i64) (.pr (.i .i64) (.i .i64)))],fun x=>kaC x,[],[]⟩
theorem kbh:Good Try.prog 53 kbd:=
 kal Try.func53 (by kernel_rfl) (An:=[]) [] (.nil) (fun x=>by kernel_rfl)
def kcF:Ctr:=⟨ "",[(.pr (.i .i64) (.pr (.i .i64) (.i .i64)))],[(.pr (.i .i64) (.pr (.i .i64) (.i .i64)))],fun x=>kfh x,[],[]⟩
theorem kdF:Good Try.prog 54 kcF:=
 kal Try.func54 (by kernel_rfl) (An:=[]) [] (.nil) (fun x=>by kernel_rfl)
def kcC:Ctr:=⟨ "",[(.pr (.i .i64) (.pr (.i .i64) (.i .i64)))],[(.pr (.i .i64) (.pr (.i .i64) (.i .i64)))],fun x=>kdj x,[],[]⟩
theorem kdH:Good Try.prog 57 kcC:=
 kal Try.func57 (by kernel_rfl) (An:=[]) [] (.nil) (fun x=>by kernel_rfl)
def kcK:Ctr:=⟨ "",[(.pr (.i .i64) (.pr (.i .i64) (.i .i64)))],[(.pr (.i .i64) (.pr (.i .i64) (.i .i64)))],fun x=>kbZ x,[],[]⟩
theorem kdG:Good Try.prog 58 kcK:=
 kal Try.func58 (by kernel_rfl) (An:=[]) [] (.nil) (fun x=>by kernel_rfl)
def lattice_turners_m0_M:CtrM:=⟨ "",[],⟨[],[]⟩,0,⟨[(1000000,.ag [.fn 54 [],.fn 53 [],.fn 55 [.ptr 0 0],.fn 56 [.ptr 0 0],.fn 57 [],.fn 58 []])],[(0,.bx 81 [.fn 53 []])]⟩,1,1,fun x=>lattice_turners_m0⟩
theorem kgC:lattice_turners_m0_M.ok=true∧GoodM Try.prog 51 lattice_turners_m0_M:=
 kbx Try.func51 (by kernel_rfl) (An:=[]) [(58,kcK),(57,kcC),(54,kcF),(53,kbd)] (.cons kdG <| .cons kdH <| .cons kdF <| .cons kbh <| .nil) (fun x=>by kernel_rfl)
def lattice_turners_C:Ctr:=⟨ "",[],[],fun _=>none,[],[]⟩
theorem lattice_turners_C_ok:Good Try.prog 51 lattice_turners_C:=good_dm
def kfo:Ctr:=⟨ "",lattice_turners_C.as,lattice_turners_C.rs,lattice_turners_C.F,lattice_turners_m0_M::lattice_turners_C.mus,lattice_turners_C.its⟩
theorem kgZ:Good Try.prog 51 kfo:=lattice_turners_C_ok.more kgC
def lattice_turners_c4_m1_M:CtrM:=⟨ "",[some (.pr (.i .i64) (.pr (.i .i64) (.i .i64))),none],⟨[(1,.ptr 0 0)],[(0,.bx 81 [.fn 53 []])]⟩,1,⟨[(1,.ptr 0 0),(1000000,.ag [.c (.i .i64),.c (.i .i64),.c (.i .i64)])],[(0,.bx 81 [.fn 53 []])]⟩,1,1,fun x=>kcv x⟩
theorem kfv:lattice_turners_c4_m1_M.ok=true∧GoodM Try.prog 56 lattice_turners_c4_m1_M:=
 kbx Try.func56 (by kernel_rfl) (An:=[]) [(53,kbd)] (.cons kbh <| .nil) (fun x=>by kernel_rfl)
def lattice_turners_c4_C:Ctr:=⟨ "",[],[],fun _=>none,[],[]⟩
theorem lattice_turners_c4_C_ok:Good Try.prog 56 lattice_turners_c4_C:=good_dm
def kek:Ctr:=⟨ "",lattice_turners_c4_C.as,lattice_turners_c4_C.rs,lattice_turners_c4_C.F,lattice_turners_c4_m1_M::lattice_turners_c4_C.mus,lattice_turners_c4_C.its⟩
theorem kfZ:Good Try.prog 56 kek:=lattice_turners_c4_C_ok.more kfv
def lattice_turners_c3_m2_M:CtrM:=⟨ "",[some (.pr (.i .i64) (.pr (.i .i64) (.i .i64))),none],⟨[(1,.ptr 0 0)],[(0,.bx 81 [.fn 53 []])]⟩,1,⟨[(1,.ptr 0 0),(1000000,.ag [.c (.i .i64),.c (.i .i64),.c (.i .i64)])],[(0,.bx 81 [.fn 53 []])]⟩,1,1,fun x=>kcu x⟩
theorem kfw:lattice_turners_c3_m2_M.ok=true∧GoodM Try.prog 55 lattice_turners_c3_m2_M:=
 kbx Try.func55 (by kernel_rfl) (An:=[]) [(53,kbd)] (.cons kbh <| .nil) (fun x=>by kernel_rfl)
def lattice_turners_c3_C:Ctr:=⟨ "",[],[],fun _=>none,[],[]⟩
theorem lattice_turners_c3_C_ok:Good Try.prog 55 lattice_turners_c3_C:=good_dm
def keh:Ctr:=⟨ "",lattice_turners_c3_C.as,lattice_turners_c3_C.rs,lattice_turners_c3_C.F,lattice_turners_c3_m2_M::lattice_turners_c3_C.mus,lattice_turners_c3_C.its⟩
theorem kgB:Good Try.prog 55 keh:=lattice_turners_c3_C_ok.more kfw
def kdv:Ctr:=⟨ "",[(.pr (.i .i64) (.pr (.i .i64) (.i .i64))),(.i .i64)],[(.pr (.i .i64) (.pr (.i .i64) (.i .i64)))],fun x=>kbL x.1 x.2,[],[]⟩
theorem kdI:Good Try.prog 49 kdv:=
 kal Try.func49 (by kernel_rfl) (An:=[(0,⟨⟨[(7,.c (.i .i64)),(2,.ptr 0 0)],[(0,.bx 47 [.c (.i .i64),.c (.i .i64),.c (.i .i64)])]⟩,⟨[(2,.ptr 2 0)],[(2,.bx 47 [.c (.i .i64),.c (.i .i64),.c (.i .i64)])]⟩,[6,1,4],[1],3,false,""⟩)]) [(55,keh),(56,kek),(51,kfo),(58,kcK),(57,kcC),(54,kcF),(53,kbd)] (.cons kgB <| .cons kfZ <| .cons kgZ <| .cons kdG <| .cons kdH <| .cons kdF <| .cons kbh <| .nil) (fun x=>by kernel_rfl)
def khn:Ctr:=⟨ "",[(.pr (.i .i64) (.pr (.i .i64) (.i .i64))),(.i .i64)],[(.pr (.i .i64) (.pr (.i .i64) (.i .i64))),(.i .i64)],fun x=>kct x.1 x.2,[],[]⟩
theorem kjJ:Good Try.prog 43 khn:=
 kal Try.func43 (by kernel_rfl) (An:=[]) [(49,kdv),(44,kee),(48,kha)] (.cons kdI <| .cons keF <| .cons kjH <| .nil) (fun x=>by kernel_rfl)
def kig:Ctr:=⟨ "",[(.pr (.i .i64) (.pr (.i .i64) (.i .i64))),(.i .i64)],[(.pr (.i .i64) (.pr (.i .i64) (.i .i64)))],fun x=>keW x.1 x.2,[],[]⟩
theorem kkl:Good Try.prog 37 kig:=
 kal Try.func37 (by kernel_rfl) (An:=[]) [(43,khn)] (.cons kjJ <| .nil) (fun x=>by kernel_rfl)
def kfn:CtrI:=⟨ "",[],[(.i .i64),(.pr (.i .i64) (.pr (.i .i64) (.i .i64)))],fun x=>runI fun o=>kcU o⟩
theorem khd:GoodI Try.prog 52 kfn:=
 ksh Try.func52 (by kernel_rfl) (An:=[(0,⟨⟨[(3,.c (.i .i64)),(9000000,.gs (.pr (.i .i64) (.pr (.i .i64) (.pr (.i .i64) (.i .i64)))))],[]⟩,⟨[(9000000,.gs (.pr (.i .i64) (.pr (.i .i64) (.pr (.i .i64) (.i .i64)))))],[]⟩,[],[],1,true,""⟩)]) [(49,kdv)] (.cons kdI <| .nil) (fun x=>by kernel_rfl)
def kdk:Ctr:=⟨ "",[],[],fun _=>none,[],[kfn]⟩
theorem kei:Good Try.prog 52 kdk:=good_dm.moreI khd
def lattice_which_m3_M:CtrM:=⟨ "",[],⟨[],[]⟩,0,⟨[(1000000,.fn 52 [])],[]⟩,0,1,fun x=>lattice_which_m3⟩
theorem khC:lattice_which_m3_M.ok=true∧GoodM Try.prog 50 lattice_which_m3_M:=
 kbx Try.func50 (by kernel_rfl) (An:=[]) [(52,kdk)] (.cons kei <| .nil) (fun x=>by kernel_rfl)
def lattice_which_C:Ctr:=⟨ "",[],[],fun _=>none,[],[]⟩
theorem lattice_which_C_ok:Good Try.prog 50 lattice_which_C:=good_dm
def kgh:Ctr:=⟨ "",lattice_which_C.as,lattice_which_C.rs,lattice_which_C.F,lattice_which_m3_M::lattice_which_C.mus,lattice_which_C.its⟩
theorem kin:Good Try.prog 50 kgh:=lattice_which_C_ok.more khC
def kfA:Ctr:=⟨ "",[(.i .i64),(.i .i64)],[(.i .i64)],fun x=>kcZ x.1 x.2,[],[]⟩
theorem khU:Good Try.prog 45 kfA:=
 kal Try.func45 (by kernel_rfl) (An:=[(0,⟨⟨[],[(0,.bx 3 [.c (.i .i64)])]⟩,⟨[],[(0,.bx 3 [.c (.i .i64)])]⟩,[13,4,5],[1],3,true,""⟩)]) [(50,kgh),(52,kdk),(49,kdv)] (.cons kin <| .cons kei <| .cons kdI <| .nil) (fun x=>by kernel_rfl)
def kfz:Ctr:=⟨ "",[(.i .i64),(.i .i64)],[(.i .i64),(.i .i64)],fun x=>kem x.1 x.2,[],[]⟩
theorem khM:Good Try.prog 38 kfz:=
 kal Try.func38 (by kernel_rfl) (An:=[]) [(45,kfA),(44,kee)] (.cons khU <| .cons keF <| .nil) (fun x=>by kernel_rfl)
def khx:Ctr:=⟨ "",[(.sl (.i .u8))],[(.i .u8)],fun x=>keB x,[],[]⟩
theorem kjI:Good Try.prog 39 khx:=
 kal Try.func39 (by kernel_rfl) (An:=[(0,⟨⟨[(8,.c (.i .i64))],[]⟩,⟨[],[]⟩,[7,6,3],[],0,true,""⟩)]) [] (.nil) (fun x=>by kernel_rfl)
def kif:Ctr:=⟨ "",[kgm,kgm],[kgm],fun x=>kff x.1 x.2,[],[]⟩
theorem kkF:Good Try.prog 27 kif:=
 kal Try.func27 (by kernel_rfl) (An:=[]) [(39,khx),(38,kfz),(37,kig)] (.cons kjI <| .cons khM <| .cons kkl <| .nil) (fun x=>by kernel_rfl)
def kgv:Ctr:=⟨ "",[(.i .i64),(.pt (.i .i64))],[.b],fun x=>keL x.1 x.2,[],[]⟩
theorem kiq:Good Try.prog 29 kgv:=
 kal Try.func29 (by kernel_rfl) (An:=[]) [] (.nil) (fun x=>by kernel_rfl)
def kje:Ctr:=⟨ "",[.s],[.b],fun x=>kfG x,[],[]⟩
theorem kkM:Good Try.prog 25 kje:=
 kal Try.func25 (by kernel_rfl) (An:=[(0,⟨⟨[(3,.c (.i .i64))],[]⟩,⟨[],[]⟩,[0],[],0,true,""⟩),(18,⟨⟨[],[]⟩,⟨[(4,.c .b)],[]⟩,[3],[],0,false,""⟩)]) [] (.nil) (fun x=>by kernel_rfl)
def kiE:Ctr:=⟨ "",[(.w (.sl tSub)),.s],[(.i .i64)],fun x=>kfH x.1 x.2,[],[]⟩
theorem kkQ:Good Try.prog 24 kiE:=
 kal Try.func24 (by kernel_rfl) (An:=[(0,⟨⟨[(5,.c (.i .i64))],[]⟩,⟨[],[]⟩,[2,1],[0],1,true,""⟩)]) [] (.nil) (fun x=>by kernel_rfl)
def kdw:Ctr:=⟨ "",[(.i .i64),(.i .i64),(.i .i64)],[.b],fun x=>kbe x.1 x.2.1 x.2.2,[],[]⟩
theorem kdJ:Good Try.prog 23 kdw:=
 kal Try.func23 (by kernel_rfl) (An:=[]) [] (.nil) (fun x=>by kernel_rfl)
def keq:Ctr:=⟨ "",[(.pr (.i .i64) (.pr (.i .i64) (.i .i64)))],[.b],fun x=>kbU x,[],[]⟩
theorem kfq:Good Try.prog 31 keq:=
 kal Try.func31 (by kernel_rfl) (An:=[]) [(23,kdw)] (.cons kdJ <| .nil) (fun x=>by kernel_rfl)
def kjp:Ctr:=⟨ "",[(.w (.sl tSub)),(.i .i64),tLine],[.b],fun x=>kfI x.1 x.2.1 x.2.2,[],[]⟩
theorem kkN:Good Try.prog 34 kjp:=
 kal Try.func34 (by kernel_rfl) (An:=[]) [(31,keq),(23,kdw)] (.cons kfq <| .cons kdJ <| .nil) (fun x=>by kernel_rfl)
def kid:Ctr:=⟨ "",[(.w (.sl tSub))],[.b],fun x=>kfb x,[],[]⟩
theorem kkH:Good Try.prog 19 kid:=
 kal Try.func19 (by kernel_rfl) (An:=[(0,⟨⟨[(3,.c (.i .i64))],[]⟩,⟨[],[]⟩,[1],[0],1,true,""⟩),(8,⟨⟨[(5,.c (.i .i64))],[]⟩,⟨[],[]⟩,[4,3],[2],3,true,""⟩)]) [(34,kjp),(24,kiE),(25,kje)] (.cons kkN <| .cons kkQ <| .cons kkM <| .nil) (fun x=>by kernel_rfl)
def khA:Ctr:=⟨ "",[(.pr (.i .i64) (.pr (.i .i64) (.i .i64))),(.i .i64)],[(.pr (.i .i64) (.pr (.i .i64) (.i .i64)))],fun x=>kbt x.1 x.2,[],[]⟩
theorem kjM:Good Try.prog 46 khA:=
 kal Try.func46 (by kernel_rfl) (An:=[(0,⟨⟨[(5,.c (.i .i64)),(2,.ptr 0 0)],[(0,.bx 47 [.c (.i .i64),.c (.i .i64),.c (.i .i64)])]⟩,⟨[(2,.ptr 2 0)],[(2,.bx 47 [.c (.i .i64),.c (.i .i64),.c (.i .i64)])]⟩,[1,4],[1],3,false,""⟩)]) [] (.nil) (fun x=>by kernel_rfl)
def khw:Ctr:=⟨ "",[(.pr (.i .i64) (.pr (.i .i64) (.i .i64))),(.i .i64)],[(.pr (.i .i64) (.pr (.i .i64) (.i .i64)))],fun x=>kcq x.1 x.2,[],[]⟩
theorem kjK:Good Try.prog 47 khw:=
 kal Try.func47 (by kernel_rfl) (An:=[(0,⟨⟨[(5,.c (.i .i64)),(2,.ptr 0 0)],[(0,.bx 47 [.c (.i .i64),.c (.i .i64),.c (.i .i64)])]⟩,⟨[(2,.ptr 2 0)],[(2,.bx 47 [.c (.i .i64),.c (.i .i64),.c (.i .i64)])]⟩,[1,4],[1],3,false,""⟩)]) [] (.nil) (fun x=>by kernel_rfl)
def keS:Ctr:=⟨ "",[(.pr (.i .i64) (.pr (.i .i64) (.i .i64))),(.i .i64)],[(.pr (.i .i64) (.pr (.i .i64) (.i .i64)))],fun x=>kaT x.1 x.2,[],[]⟩
theorem kfB:Good Try.prog 40 keS:=
 kal Try.func40 (by kernel_rfl) (An:=[]) [(47,khw),(46,khA)] (.cons kjK <| .cons kjM <| .nil) (fun x=>by kernel_rfl)
def kfV:Ctr:=⟨ "",[(.i .i64),(.i .i64)],[(.i .i64)],fun x=>kdB x.1 x.2,[],[]⟩
theorem kiu:Good Try.prog 41 kfV:=
 kal Try.func41 (by kernel_rfl) (An:=[(0,⟨⟨[(7,.c (.i .i64))],[]⟩,⟨[],[]⟩,[5,0,1,6],[0,1],2,true,""⟩)]) [(40,keS)] (.cons kfB <| .nil) (fun x=>by kernel_rfl)
def khe:Ctr:=⟨ "",[kgm,kgm],[kgm],fun x=>keE x.1 x.2,[],[]⟩
theorem kjL:Good Try.prog 30 khe:=
 kal Try.func30 (by kernel_rfl) (An:=[]) [(41,kfV),(40,keS)] (.cons kiu <| .cons kfB <| .nil) (fun x=>by kernel_rfl)
def ref02_Twin_m4_M:CtrM:=⟨ "",[some (.w (.sl tSub))],⟨[],[]⟩,0,⟨[(1000000,.ag [.fw 0])],[(0,.fm 42 tSub 1 51 tLine)]⟩,1,1,fun x=>kby x⟩
theorem kjr:ref02_Twin_m4_M.ok=true∧GoodM Try.prog 6 ref02_Twin_m4_M:=
 kbx Try.func6 (by kernel_rfl) (An:=[(0,⟨⟨[(4,.c (.i .i64)),(3,.ptr 4 0)],[(4,.bx 24 [.fw 3]),(3,.fm 42 tSub 1 51 tLine)]⟩,⟨[(3,.ptr 5 0)],[(5,.bx 24 [.fw 6]),(6,.fm 42 tSub 1 51 tLine)]⟩,[1,2],[0,2,1],7,false,""⟩)]) [(7000029,kcN),(6000003,kcN)] (.cons kbu <| .cons kbu <| .nil) (fun x=>by kernel_rfl)
def kcQ:Ctr:=⟨ "",ref02_Twin_C.as,ref02_Twin_C.rs,ref02_Twin_C.F,ref02_Twin_m4_M::ref02_Twin_C.mus,ref02_Twin_C.its⟩
theorem kcG:Good Try.prog 6 kcQ:=ref02_Twin_C_ok.more kjr
def ref02_without_m5_M:CtrM:=⟨ "",[some (.w (.sl tSub)),none],⟨[(1,.mw 0)],[(0,.sl 4 .b)]⟩,1,⟨[(1,.mw 0),(1000000,.ag [.fw 1])],[(0,.sl 4 .b),(1,.fm 42 tSub 1 51 tLine)]⟩,2,1,fun x=>kkq x.1 x.2⟩
theorem khr:ref02_without_m5_M.ok=true∧GoodM Try.prog 20 ref02_without_m5_M:=
 kbx Try.func20 (by kernel_rfl) (An:=[(0,⟨⟨[(7,.c (.i .i64)),(6,.mw 6),(5,.ptr 5 0)],[(6,.sl 3 (.i .i64)),(5,.bx 24 [.mw 4]),(4,.sl 42 tSub)]⟩,⟨[(5,.ptr 7 0),(6,.mw 9)],[(7,.bx 24 [.mw 8]),(8,.sl 42 tSub),(9,.sl 3 (.i .i64))]⟩,[2,4],[1,0,3,2],10,false,""⟩),(8,⟨⟨[(8,.c (.i .i64)),(5,.ptr 7 0)],[(7,.bx 24 [.fw 10]),(10,.fm 42 tSub 1 51 tLine)]⟩,⟨[(5,.ptr 11 0)],[(11,.bx 24 [.fw 12]),(12,.fm 42 tSub 1 51 tLine)]⟩,[6,4],[9,3,2,0],13,false,""⟩),(16,⟨⟨[(9,.c (.i .i64)),(5,.ptr 7 0)],[(7,.bx 24 [.fw 10]),(10,.fm 42 tSub 1 51 tLine)]⟩,⟨[(5,.ptr 11 0)],[(11,.bx 24 [.fw 12]),(12,.fm 42 tSub 1 51 tLine)]⟩,[8],[],13,false,""⟩)]) [(6,kcQ)] (.cons kcG <| .nil) (fun x=>by kernel_rfl)
def ref02_without_C:Ctr:=⟨ "",[],[],fun _=>none,[],[]⟩
theorem ref02_without_C_ok:Good Try.prog 20 ref02_without_C:=good_dm
def ref02_without_C5:Ctr:=⟨ "",ref02_without_C.as,ref02_without_C.rs,ref02_without_C.F,ref02_without_m5_M::ref02_without_C.mus,ref02_without_C.its⟩
theorem ref02_without_C5_ok:Good Try.prog 20 ref02_without_C5:=ref02_without_C_ok.more khr
def kiY:Ctr:=⟨ "",[(.w (.sl tSub)),(.w (.sl tSub))],[.b],fun x=>kez x.1 x.2,[],[]⟩
theorem kls:Good Try.prog 11 kiY:=
 kal Try.func11 (by kernel_rfl) (An:=[(0,⟨⟨[(5,.c (.i .i64))],[]⟩,⟨[],[]⟩,[2,3],[0,1],2,true,""⟩),(26,⟨⟨[],[]⟩,⟨[(6,.ptr 2 0),(7,.ptr 3 0)],[(2,.bx 42 [.c .s,.c (.sl tLine)]),(3,.bx 42 [.c .s,.c (.sl tLine)])]⟩,[5],[],4,false,""⟩),(8,⟨⟨[(8,.c (.i .i64))],[]⟩,⟨[],[]⟩,[6,7,5],[2,3],4,true,""⟩)]) [] (.nil) (fun x=>by kernel_rfl)
def slices_Clone_s_api_Line_api_Line_m6_M:CtrM:=⟨ "",[some (.sl tLine)],⟨[],[]⟩,0,⟨[(1000000,.mw 0)],[(0,.sl 51 tLine)]⟩,1,1,fun x=>kaD x⟩
theorem kcD:slices_Clone_s_api_Line_api_Line_m6_M.ok=true∧GoodM Try.prog 33 slices_Clone_s_api_Line_api_Line_m6_M:=
 kbx Try.func33 (by kernel_rfl) (An:=[]) [] (.nil) (fun x=>by kernel_rfl)
def kbw:Ctr:=⟨ "",slices_Clone_s_api_Line_api_Line_C.as,slices_Clone_s_api_Line_api_Line_C.rs,slices_Clone_s_api_Line_api_Line_C.F,slices_Clone_s_api_Line_api_Line_m6_M::slices_Clone_s_api_Line_api_Line_C.mus,slices_Clone_s_api_Line_api_Line_C.its⟩
theorem kcV:Good Try.prog 33 kbw:=slices_Clone_s_api_Line_api_Line_C_ok.more kcD
def text_kept_m7_M:CtrM:=⟨ "",[some (.w (.sl tSub)),some (.fn 1 (.i .i64) .b)],⟨[],[]⟩,0,⟨[(1000000,.ag [.fw 0])],[(0,.fm 42 tSub 1 51 tLine)]⟩,1,1,fun x=>kcp x.1 x.2⟩
theorem kjE:text_kept_m7_M.ok=true∧GoodM Try.prog 17 text_kept_m7_M:=
 kbx Try.func17 (by kernel_rfl) (An:=[(0,⟨⟨[(17,.c (.i .i64)),(6,.mp 5),(5,.ptr 4 0)],[(5,.mp (.i .i64) (.i .i64)),(4,.bx 24 [.fw 3]),(3,.fm 42 tSub 1 51 tLine)]⟩,⟨[(5,.ptr 6 0),(6,.mp 8)],[(6,.bx 24 [.fw 7]),(7,.fm 42 tSub 1 51 tLine),(8,.mp (.i .i64) (.i .i64))]⟩,[16,15,1,4],[2,1],9,false,""⟩),(8,⟨⟨[(45,.c (.i .i64)),(43,.fw 7)],[(7,.fm 42 tSub 1 51 tLine)]⟩,⟨[],[(7,.fm 42 tSub 1 51 tLine)]⟩,[44,6,5,4],[8,6,2,1],10,false,""⟩),(16,⟨⟨[(52,.c (.i .i64)),(43,.fw 7)],[(7,.fm 42 tSub 1 51 tLine)]⟩,⟨[(43,.fw 7)],[(7,.fm 42 tSub 1 51 tLine)]⟩,[51,50,10,45],[10],12,false,""⟩)]) [(7000038,kcN),(6000005,kcN),(33,kbw)] (.cons kbu <| .cons kbu <| .cons kcV <| .nil) (fun x=>by kernel_rfl)
def text_kept_C:Ctr:=⟨ "",[],[],fun _=>none,[],[]⟩
theorem text_kept_C_ok:Good Try.prog 17 text_kept_C:=good_dm
def kjf:Ctr:=⟨ "",text_kept_C.as,text_kept_C.rs,text_kept_C.F,text_kept_m7_M::text_kept_C.mus,text_kept_C.its⟩
theorem klx:Good Try.prog 17 kjf:=text_kept_C_ok.more kjE
def text_Inline_m8_M:CtrM:=⟨ "",[some (.w (.sl tSub)),some (.i .i64)],⟨[],[]⟩,0,⟨[(1000000,.ag [.fw 0]),(1000001,.c (.i .i64))],[(0,.fm 42 tSub 1 51 tLine)]⟩,1,2,fun x=>kdy x.1 x.2⟩
theorem kiw:text_Inline_m8_M.ok=true∧GoodM Try.prog 13 text_Inline_m8_M:=
 kbx Try.func13 (by kernel_rfl) (An:=[(0,⟨⟨[(36,.c (.i .i64)),(8,.c (.i .i64)),(7,.ptr 7 0)],[(7,.bx 24 [.fw 5]),(5,.fm 42 tSub 1 51 tLine)]⟩,⟨[(8,.c (.i .i64)),(7,.ptr 8 0)],[(8,.bx 24 [.fw 9]),(9,.fm 42 tSub 1 51 tLine)]⟩,[35,34,3,2,4],[1,0,3,2],10,false,""⟩),(8,⟨⟨[(44,.c (.i .i64)),(11,.mw 10),(8,.c (.i .i64))],[(10,.sl 51 tLine)]⟩,⟨[(11,.mw 11),(8,.c (.i .i64))],[(11,.sl 51 tLine)]⟩,[43,42,7,9,36],[7,5],12,false,""⟩),(16,⟨⟨[(63,.c (.i .i64)),(8,.c (.i .i64)),(11,.mw 10)],[(10,.sl 51 tLine)]⟩,⟨[(11,.mw 12),(8,.c (.i .i64))],[(12,.sl 51 tLine)]⟩,[62,61,13,44],[11],13,false,""⟩),(86,⟨⟨[],[]⟩,⟨[(81,.c .b)],[]⟩,[15,8,11,63],[12,10],13,false,""⟩),(361,⟨⟨[],[]⟩,⟨[(8,.c (.i .i64))],[]⟩,[7,9,11,36],[7,5,11],12,false,""⟩)]) [(6000020,kcN),(6000030,kcN),(6000100,kcN),(17,kjf),(29,kgv),(27,kif),(26,kgy),(15,kiM),(28,kgV),(21,kdN)] (.cons kbu <| .cons kbu <| .cons kbu <| .cons klx <| .cons kiq <| .cons kkF <| .cons kip <| .cons kkZ <| .cons kgY <| .cons kdu <| .nil) (fun x=>by kernel_rfl)
def text_Inline_C:Ctr:=⟨ "",[],[],fun _=>none,[],[]⟩
theorem text_Inline_C_ok:Good Try.prog 13 text_Inline_C:=good_dm
def khc:Ctr:=⟨ "",text_Inline_C.as,text_Inline_C.rs,text_Inline_C.F,text_Inline_m8_M::text_Inline_C.mus,text_Inline_C.its⟩
theorem kjG:Good Try.prog 13 khc:=text_Inline_C_ok.more kiw
def ref02_without_m9_M:CtrM:=⟨ "",[some (.w (.sl tSub)),some (.sl .b)],⟨[],[]⟩,0,⟨[(1000000,.ag [.fw 0])],[(0,.fm 42 tSub 1 51 tLine)]⟩,1,1,fun x=>kcJ x.1 x.2⟩
theorem kho:ref02_without_m9_M.ok=true∧GoodM Try.prog 20 ref02_without_m9_M:=
 kbx Try.func20 (by kernel_rfl) (An:=[(0,⟨⟨[(7,.c (.i .i64)),(6,.mw 5),(5,.ptr 4 0)],[(5,.sl 3 (.i .i64)),(4,.bx 24 [.mw 3]),(3,.sl 42 tSub)]⟩,⟨[(5,.ptr 6 0),(6,.mw 8)],[(6,.bx 24 [.mw 7]),(7,.sl 42 tSub),(8,.sl 3 (.i .i64))]⟩,[2,1,4],[0,2,1],9,false,""⟩),(8,⟨⟨[(8,.c (.i .i64)),(5,.ptr 6 0)],[(6,.bx 24 [.fw 9]),(9,.fm 42 tSub 1 51 tLine)]⟩,⟨[(5,.ptr 10 0)],[(10,.bx 24 [.fw 11]),(11,.fm 42 tSub 1 51 tLine)]⟩,[6,4],[8,2,1],12,false,""⟩),(16,⟨⟨[(9,.c (.i .i64)),(5,.ptr 6 0)],[(6,.bx 24 [.fw 9]),(9,.fm 42 tSub 1 51 tLine)]⟩,⟨[(5,.ptr 10 0)],[(10,.bx 24 [.fw 11]),(11,.fm 42 tSub 1 51 tLine)]⟩,[8],[],12,false,""⟩)]) [(6,kcQ)] (.cons kcG <| .nil) (fun x=>by kernel_rfl)
def kgc:Ctr:=⟨ "",ref02_without_C5.as,ref02_without_C5.rs,ref02_without_C5.F,ref02_without_m9_M::ref02_without_C5.mus,ref02_without_C5.its⟩
theorem kim:Good Try.prog 20 kgc:=ref02_without_C5_ok.more kho
def ref02_Inline_m10_M:CtrM:=⟨ "",[some (.w (.sl tSub)),some (.i .i64)],⟨[],[]⟩,0,⟨[(1000000,.ag [.fw 0]),(1000001,.c (.i .i64))],[(0,.fm 42 tSub 1 51 tLine)]⟩,1,2,fun x=>kcM x.1 x.2⟩
theorem khp:ref02_Inline_m10_M.ok=true∧GoodM Try.prog 14 ref02_Inline_m10_M:=
 kbx Try.func14 (by kernel_rfl) (An:=[(0,⟨⟨[(8,.c (.i .i64)),(2,.ptr 0 0),(7,.c .b),(6,.c .b)],[(0,.bx 24 [.fw 3]),(3,.fm 42 tSub 1 51 tLine)]⟩,⟨[(6,.c .b),(7,.c .b),(2,.ptr 4 0)],[(4,.bx 24 [.fw 5]),(5,.fm 42 tSub 1 51 tLine)]⟩,[1,4],[2,1],6,false,""⟩),(8,⟨⟨[(10,.c (.i .i64)),(9,.mw 4),(7,.c .b)],[(4,.sl 51 tLine)]⟩,⟨[(9,.mw 5),(7,.c .b)],[(5,.sl 51 tLine)]⟩,[2,8,6],[0,3],6,false,""⟩),(16,⟨⟨[(12,.c (.i .i64)),(7,.c .b),(9,.mw 4)],[(4,.sl 51 tLine)]⟩,⟨[(9,.mw 6),(7,.c .b)],[(6,.sl 51 tLine)]⟩,[11,10],[5],7,false,""⟩),(98,⟨⟨[],[]⟩,⟨[(6,.c .b)],[]⟩,[9,2,8,7],[5,0,3],6,false,""⟩)]) [(6000019,kcN),(6000027,kcN),(6000122,kcN),(6000124,kcN),(20,kgc),(6,kcQ),(30,khe),(19,kid),(31,keq),(23,kdw)] (.cons kbu <| .cons kbu <| .cons kbu <| .cons kbu <| .cons kim <| .cons kcG <| .cons kjL <| .cons kkH <| .cons kfq <| .cons kdJ <| .nil) (fun x=>by kernel_rfl)
def ref02_Inline_C:Ctr:=⟨ "",[],[],fun _=>none,[],[]⟩
theorem ref02_Inline_C_ok:Good Try.prog 14 ref02_Inline_C:=good_dm
def kgz:Ctr:=⟨ "",ref02_Inline_C.as,ref02_Inline_C.rs,ref02_Inline_C.F,ref02_Inline_m10_M::ref02_Inline_C.mus,ref02_Inline_C.its⟩
theorem kiv:Good Try.prog 14 kgz:=ref02_Inline_C_ok.more khp
def law02_spoil_m11_M:CtrM:=⟨ "",[none],⟨[(0,.ag [.fw 0])],[(0,.fm 42 tSub 1 51 tLine)]⟩,1,⟨[],[]⟩,1,0,fun x=>kda x⟩
theorem khZ:law02_spoil_m11_M.ok=true∧GoodM Try.prog 12 law02_spoil_m11_M:=
 kbx Try.func12 (by kernel_rfl) (An:=[(0,⟨⟨[(7,.c (.i .i64)),(1,.ptr 1 0)],[(1,.bx 24 [.fw 0]),(0,.fm 42 tSub 1 51 tLine)]⟩,⟨[],[]⟩,[6],[],2,false,""⟩),(8,⟨⟨[(17,.c (.i .i64)),(1,.ptr 1 0)],[(1,.bx 24 [.fw 0]),(0,.fm 42 tSub 1 51 tLine)]⟩,⟨[(1,.ptr 2 0)],[(2,.bx 24 [.fw 3]),(3,.fm 42 tSub 1 51 tLine)]⟩,[16,2,7],[],4,false,""⟩)]) [] (.nil) (fun x=>by kernel_rfl)
def law02_spoil_C:Ctr:=⟨ "",[],[],fun _=>none,[],[]⟩
theorem law02_spoil_C_ok:Good Try.prog 12 law02_spoil_C:=good_dm
def kgH:Ctr:=⟨ "",law02_spoil_C.as,law02_spoil_C.rs,law02_spoil_C.F,law02_spoil_m11_M::law02_spoil_C.mus,law02_spoil_C.its⟩
theorem kiJ:Good Try.prog 12 kgH:=law02_spoil_C_ok.more khZ
def kix:Ctr:=⟨ "",[(.w (.sl tSub)),(.i .i64)],[.b],fun x=>kdK x.1 x.2,[],[]⟩
theorem law02_TextInlines_C_ok:Good Try.prog 4 kix:=
 kal Try.func4 (by kernel_rfl) (An:=[(26,⟨⟨[],[]⟩,⟨[(10,.c .b)],[]⟩,[6,8,7,9,5,2],[6,4,9,7,3,1,0],10,false,""⟩)]) [(14,kgz),(13,khc),(6,kcQ),(12,kgH),(11,kiY),(5,kic)] (.cons kiv <| .cons kjG <| .cons kcG <| .cons kiJ <| .cons kls <| .cons kkA <| .nil) (fun x=>by kernel_rfl)
end Go.Abs
namespace Go.Abs
open Go
theorem kki {σ τ:Type} {F:σ→Option (σ⊕(τ⊕Unit))} (b:τ) (e:Nat→σ) (m:Nat) (hm:m<18446744073709551616) (p:Nat→Bool)
  (h1:∀ i,i<m→F (e i)=some (if p i=true then .inr (.inl b) else .inl (e (i+1)))) (h2:F (e m)=some (.inr (.inr ()))) :
  iter F (e 0)=some (if ((List.range m).any p)=true then .inl b else .inr ()):=by
 have:∀ k i:Nat,i+k=m→itN F (k+1) (e i)=some (if ((List.range' i k).any p)=true then .inl b else .inr ()):=by
  intro k
  induction k with
  | zero=>
   intro i h
   have:i=m:=by omega
   subst this
   rw [kdm h2]; rfl
  | succ k ih=>
   intro i h
   rw [List.range'_succ,List.any_cons]
   have e1:=h1 i (by omega)
   cases hp:p i with
   | true=>rw [hp] at e1; rw [kdm e1]; simp
   | false=>rw [hp] at e1; rw [kiQ e1,ih (i+1) (by omega),Bool.false_or]
 have:=khz (this m 0 (by omega)) (by omega)
 rw [this,List.range_eq_range']
theorem kil {m:Nat} {p:Nat→Bool}:(List.range m).all p=true↔∀ i,i<m→p i=true:=by simp
theorem kfx {m:Nat} {p:Nat→Bool}:((List.range m).any fun i=>!p i) = !(List.range m).all p:=kpM p _
theorem knC (l:List Int) (hl:l.length≤1000) (p:Int→Bool):kaL l (fun x=>some (p x))=some (l.any p):=by
 unfold kaL kbz
 rw [kfK (F:=kaK l _) l (by omega) (fun i x=>if p x then some (i:Int) else none) (fun i hi=>by
  unfold kaK
  rw [if_pos (by rw [kaI]; simpa using hi),kan hi,kam (by omega)]
  simp only [Option.bind_some]
  by_cases h:p l[i]=true <;> simp [h,nextL]) (by unfold kaK; rw [if_neg (by simp [kaI])])]
 have:∀ (l:List Int) (k:Nat),endL ((l.zipIdx k).findSome? fun x=>if p x.1 then some (x.2:Int) else none)=(if l.any p then .inl ((k:Int)+(l.findIdx p:Nat)) else .inr ()):=by
  intro l
  induction l with
  | nil=>intro k; rfl
  | cons x l ih=>
   intro k
   rw [List.zipIdx_cons,List.findSome?_cons,List.any_cons,List.findIdx_cons]
   cases hp:p x with
   | true=>simp [endL]
   | false=>
    simp only [Bool.false_eq_true,if_false,Bool.false_or,cond_false]
    rw [ih (k+1)]
    congr 2; push_cast; omega
 rw [this l 0]
 by_cases h:l.any p=true <;> simp [h]
theorem klR (lo hi:Int) (l:List Int) (hl:l.length≤1000):kbp lo hi l=some (l.all (wi lo hi)):=by
 unfold kbp
 have e:(fun u0:Int=>(keA u0 lo hi).bind fun u1=>some u1)=fun u=>some (!wi lo hi u):=by
  funext u
  unfold keA wi
  by_cases h1:u<lo
  ·simp [h1]
   try omega
  ·by_cases h2:hi<u <;> simp [h1,h2] <;> omega
 rw [e,knC l hl,kpM]
 simp
theorem kjs (n lo hi:Int):kbe n lo hi=some (wi lo hi n):=by
 unfold kbe wi
 by_cases h:lo≤n <;> simp [h]
def chOk (i:Nat) (c:Int):Bool:=wi 97 122 c||(decide (i≠0)&&(c==45||wi 48 57 c))
def kcO (s:List UInt8):Bool:=((List.range s.length).all fun i=>chOk i (((s[i]?).getD 0).toNat:Int))&&wi 1 12 (s.length:Int)
theorem kst {s:List UInt8} {i:Nat} (h:i<s.length):gstr s (i:Int)=some (s[i].toNat:Int):=by
 unfold gstr; rw [kan h]; rfl
theorem krb (s:List UInt8) (hs:s.length≤1000) (i:Nat) (hi:i<s.length):kbV s (i:Int)=some (if (!chOk i (((s[i]?).getD 0).toNat:Int))=true then .inr (.inl false) else .inl ((i+1:Nat):Int)):=by
 unfold kbV
 obtain ⟨c,hc⟩:∃ c:Int,c=(s[i].toNat:Int):=⟨_,rfl⟩
 have hg:gstr s (i:Int)=some c:=by rw [hc]; exact kst hi
 have hr:(((s[i]?).getD 0).toNat:Int)=c:=by rw [hc,List.getElem?_eq_getElem hi]; rfl
 rw [if_pos (lenI_lt.2 hi),hg,hr]
 simp only [Option.bind_some]
 clear hc hg hr
 unfold chOk wi
 rw [kam (by omega)]
 by_cases h1:(97:Int)≤c <;> by_cases h2:c≤122 <;> by_cases h3:i=0 <;> by_cases h4:c=45 <;> by_cases h5:c<48 <;> by_cases h6:(57:Int)<c <;> simp [h1,h2,h3,h4,h5,h6] <;> omega
theorem krK (s:List UInt8):kbV s (s.length:Int)=some (.inr (.inr ())):=by
 unfold kbV
 rw [if_neg kaq]
theorem ksX (s:List UInt8) (hs:s.length≤1000):kfG s=some (kcO s):=by
 unfold kfG
 rw [show (0:Int)=((0:Nat):Int) from rfl,kki (F:=kbV s) false (fun i=>(i:Int)) s.length (by omega) (fun i=>!chOk i (((s[i]?).getD 0).toNat:Int)) (krb s hs) (krK s)]
 rw [kfx]
 unfold kcO
 by_cases h:((List.range s.length).all fun i=>chOk i (((s[i]?).getD 0).toNat:Int))=true
 ·simp only [h,Bool.not_true,Bool.false_eq_true,if_false,Option.bind_some,Bool.true_and]
  unfold wi
  rw [kaI]
  by_cases h1:(1:Int)≤(s.length:Int) <;> simp [h1]
 ·rw [Bool.not_eq_true] at h
  simp [h]
theorem kpm (s:List UInt8) (hs:s.length≤1000) (i:Nat) (hi:i<s.length):kbJ (s,(i:Int))=some (if (!chOk i (((s[i]?).getD 0).toNat:Int))=true then .inr (.inl false) else .inl (s,((i+1:Nat):Int))):=by
 unfold kbJ
 simp only
 obtain ⟨c,hc⟩:∃ c:Int,c=(s[i].toNat:Int):=⟨_,rfl⟩
 have hr:(((s[i]?).getD 0).toNat:Int)=c:=by rw [hc,List.getElem?_eq_getElem hi]; rfl
 rw [if_pos (lenI_lt.2 hi),hr]
 have hsz:i<(⟨s.toArray⟩:ByteArray).size:=by simpa [ByteArray.size] using hi
 have hb:(⟨s.toArray⟩:ByteArray)[i]'hsz=s[i]:=by simp [ByteArray.getElem_eq_getElem_data]
 by_cases ha:s[i].toNat<128
 ·have hd:=Go.decode_ascii ⟨s.toArray⟩ i hsz (by rw [hb]; exact ha)
  have e1:runeV (s,(i:Int))=c:=by rw [hc]; unfold runeV; simp only [Int.toNat_natCast]; rw [hd,hb]
  have e2:runeN (s,(i:Int))=(s,((i+1:Nat):Int)):=by unfold runeN; simp only [Int.toNat_natCast]; rw [hd]
  rw [e1,e2]
  clear e1 e2 hd hc hr
  unfold chOk wi
  by_cases h1:(97:Int)≤c <;> by_cases h2:c≤122 <;> by_cases h3:i=0 <;> by_cases h4:c=45 <;> by_cases h5:c<48 <;> by_cases h6:(57:Int)<c <;> simp [h1,h2,h3,h4,h5,h6] <;> omega
 ·have hd:=Go.decode_high ⟨s.toArray⟩ i hsz (by rw [hb]; omega)
  have e1:(128:Int)≤runeV (s,(i:Int)):=by unfold runeV; simp only [Int.toNat_natCast]; omega
  obtain ⟨v,hv⟩:∃ v:Int,v=runeV (s,(i:Int)):=⟨_,rfl⟩
  rw [←hv] at e1 ⊢
  have e3:(128:Int)≤c:=by omega
  unfold chOk wi
  have g1:(97:Int)≤v:=by omega
  have g2:¬ v≤122:=by omega
  have g3:¬ v=45:=by omega
  have g4:¬ v<48:=by omega
  have g5:(57:Int)<v:=by omega
  have k1:(97:Int)≤c:=by omega
  have k2:¬ c≤122:=by omega
  have k3:¬ c=45:=by omega
  have k5:¬ c≤57:=by omega
  by_cases h3:i=0 <;> simp [g1,g2,g3,g4,g5,k1,k2,k3,k5,h3]
theorem kqv (s:List UInt8):kbJ (s,(s.length:Int))=some (.inr (.inr ())):=by
 unfold kbJ
 simp only
 rw [if_neg kaq]
theorem krh (s:List UInt8) (hs:s.length≤1000):kfe s=some (kcO s):=by
 unfold kfe
 rw [show ((s,0):List UInt8×Int)=(fun i:Nat=>(s,(i:Int))) 0 from rfl,kki (F:=kbJ) false (fun i:Nat=>(s,(i:Int))) s.length (by omega) (fun i=>!chOk i (((s[i]?).getD 0).toNat:Int)) (kpm s hs) (kqv s)]
 rw [kfx]
 unfold kcO
 by_cases h:((List.range s.length).all fun i=>chOk i (((s[i]?).getD 0).toNat:Int))=true
 ·simp only [h,Bool.not_true,Bool.false_eq_true,if_false,Option.bind_some,Bool.true_and]
  rw [klR _ _ _ (by simp),kaI]
  simp
 ·rw [Bool.not_eq_true] at h
  simp [h]
end Go.Abs
namespace Go.Abs
open Go
theorem iter_any' {σ τ:Type} {F:σ→Option (σ⊕(τ⊕Unit))} (b:τ) (e:Nat→σ) (m:Nat) (hm:m<18446744073709551616) (p:Nat→Bool)
  (h1:∀ i,i<m→F (e i)=some (if p i=true then .inl (e (i+1)) else .inr (.inl b))) (h2:F (e m)=some (.inr (.inr ()))) :
  iter F (e 0)=some (if ((List.range m).all p)=true then .inr () else .inl b):=by
 rw [kki b e m hm (fun i=>!p i) (fun i hi=>by rw [h1 i hi]; cases p i <;> rfl) h2,kfx]
 cases (List.range m).all p <;> rfl
theorem keP {α:Type} (q:α→Bool) (l:List α):((List.range l.length).all fun i=>(l[i]?).all q)=l.all q:=by
 rw [Bool.eq_iff_iff,kil,List.all_eq_true]
 constructor
 ·intro h x hx
  obtain ⟨i,hi,rfl⟩:=List.mem_iff_getElem.1 hx
  have:=h i hi
  rw [List.getElem?_eq_getElem hi] at this
  simpa using this
 ·intro h i hi
  rw [List.getElem?_eq_getElem hi]
  simpa using h _ (List.getElem_mem hi)
def okRow (n i:Nat) (x:Line):Bool:=
 (if x.1 = -1 then wi 0 15 x.2.1 else wi ((i:Int)+1) ((n:Int)-1) x.1&&x.2.1==0)&&[x.2.2.1.1,x.2.2.1.2.1,x.2.2.1.2.2].all (wi (-1000) 1000)&&decide (x.2.2.2.1≤23)&&decide (x.2.2.2.2≤15)
theorem ksW (d:List Sub) (hd:d.length≤100) (i:Nat) (hi:i≤100) (x:Line):kfI d (i:Int) x=some (okRow d.length i x):=by
 unfold kfI kbU
 simp only [kjs,Option.bind_some,kaI]
 rw [kam (by omega),kcs (by omega) (by omega),show (((i+1:Nat):Int))=(i:Int)+1 by omega]
 unfold okRow
 simp only [List.all_cons,List.all_nil,Bool.and_true]
 cases wi (-1000) 1000 x.2.2.1.1
 ·simp
 cases wi (-1000) 1000 x.2.2.1.2.1
 ·simp
 cases wi (-1000) 1000 x.2.2.1.2.2
 ·simp
 by_cases h1:(23:Int)<x.2.2.2.1
 ·have:¬ x.2.2.2.1≤23:=by omega
  simp [h1,this]
 by_cases h2:(15:Int)<x.2.2.2.2
 ·have:¬ x.2.2.2.2≤15:=by omega
  simp [h1,h2,this]
 have h1':x.2.2.2.1≤23:=by omega
 have h2':x.2.2.2.2≤15:=by omega
 by_cases h3:x.1 = -1
 ·simp [h1,h2,h1',h2',h3]
 ·cases hw:wi ((i:Int)+1) ((d.length:Int)-1) x.1 <;> simp [h1,h2,h1',h2',h3,hw]
theorem kpL (c:Int×Int×Int):kfk c=some ([c.1,c.2.1,c.2.2].all (wi (-1000) 1000)):=by
 unfold kfk
 rw [klR _ _ _ (by simp)]; rfl
theorem from1 (lo hi n:Int):kbp lo hi [n]=some (wi lo hi n):=by rw [klR lo hi [n] (by simp)]; simp
theorem kmY (d:List Sub) (hd:d.length≤100) (i:Nat) (hi:i≤100) (m:List (List UInt8×Bool)) (s:Sub) (hs:s.2.length≤100) (k:Nat) (hk:k<s.2.length) :
  kbT d ((i:Int),m) s (k:Int)=some (if okRow d.length i s.2[k]=true then .inl ((k+1:Nat):Int) else .inr (.inl 8)):=by
 unfold kbT
 rw [if_pos (lenI_lt.2 hk),kan hk]
 simp only [Option.bind_some,from1,kpL,kaI]
 rw [kam (show i<_ by omega),kam (show k<_ by omega),kcs (by omega) (by omega),show (((i+1:Nat):Int))=(i:Int)+1 by omega]
 obtain ⟨x,hx⟩:∃ x,x=s.2[k]:=⟨_,rfl⟩
 rw [←hx]
 clear hx
 unfold okRow
 by_cases h3:x.1 = -1
 ·have hw:wi ((i:Int)+1) ((d.length:Int)-1) x.1=false:=by rw [h3]; unfold wi; simp; omega
  rw [h3] at hw
  cases h4:wi 0 15 x.2.1
  ·simp [hw,h3]
  cases h5:([x.2.2.1.1,x.2.2.1.2.1,x.2.2.1.2.2].all (wi (-1000) 1000))
  ·simp [h3]
  by_cases h1:(24:Int)≤x.2.2.2.1
  ·have:¬ x.2.2.2.1≤23:=by omega
   simp [h1,this,h3]
  by_cases h2:(15:Int)<x.2.2.2.2
  ·have:¬ x.2.2.2.2≤15:=by omega
   simp [h1,h2,this,h3]
  have h1':x.2.2.2.1≤23:=by omega
  have h2':x.2.2.2.2≤15:=by omega
  simp [h1,h2,h1',h2',h3]
 ·cases h4:wi ((i:Int)+1) ((d.length:Int)-1) x.1
  ·simp [h3]
  cases h6:(x.2.1==0)
  ·simp [h3]
  cases h5:([x.2.2.1.1,x.2.2.1.2.1,x.2.2.1.2.2].all (wi (-1000) 1000))
  ·simp [h3]
  by_cases h1:(24:Int)≤x.2.2.2.1
  ·have:¬ x.2.2.2.1≤23:=by omega
   simp [h1,this,h3]
  by_cases h2:(15:Int)<x.2.2.2.2
  ·have:¬ x.2.2.2.2≤15:=by omega
   simp [h1,h2,this,h3]
  have h1':x.2.2.2.1≤23:=by omega
  have h2':x.2.2.2.2≤15:=by omega
  simp [h1,h2,h1',h2',h3]
theorem kpw (d:List Sub) (hd:d.length≤100) (i:Nat) (hi:i≤100) (m:List (List UInt8×Bool)) (s:Sub) (hs:s.2.length≤100) :
  iter (kbT d ((i:Int),m) s) 0=some (if s.2.all (okRow d.length i)=true then .inr () else .inl 8):=by
 rw [show (0:Int)=((0:Nat):Int) from rfl,iter_any' (F:=kbT d ((i:Int),m) s) 8 (fun k=>(k:Int)) s.2.length (by omega) (fun k=>(s.2[k]?).all (okRow d.length i)) (fun k hk=>by rw [kmY d hd i hi m s hs k hk,List.getElem?_eq_getElem hk]; rfl) (by unfold kbT; rw [if_neg kaq]),keP]
theorem kiO {κ β:Type} [DecidableEq κ] (k k':κ) (v:β):∀ m:List (κ×β),mget (mput m k v) k'=if k'=k then some v else mget m k'
 | []=>by simp [mput,mget]
 | p::r=>by
  unfold mput
  by_cases h:k=p.1
  ·rw [if_pos h]
   unfold mget
   simp only
   by_cases h2:k'=k
   ·simp [h2]
   ·rw [if_neg h2,if_neg h2,if_neg (by rw [←h]; exact h2)]
  ·rw [if_neg h]
   unfold mget
   rw [kiO k k' v r]
   by_cases h2:k'=p.1
   ·have:¬ k'=k:=fun e=>h (by rw [←e,h2])
    rw [if_pos h2,if_pos h2,if_neg this]
   ·rw [if_neg h2,if_neg h2]
def nmap (d:List Sub):Nat→List (List UInt8×Bool)
 | 0=>[]
 | i+1=>match d[i]? with | some s=>mput (nmap d i) s.1 true | none=>nmap d i
theorem kmm (d:List Sub) (nm:List UInt8):∀ i,i≤d.length→(mget (nmap d i) nm).getD false=(d.take i).any fun s=>s.1==nm
 | 0,_=>rfl
 | i+1,h=>by
  unfold nmap
  rw [List.getElem?_eq_getElem (by omega),List.take_succ_eq_append_getElem (by omega),List.any_append]
  simp only
  rw [kiO]
  by_cases e:nm=d[i].1
  ·simp [e]
  ·rw [if_neg e,kmm d nm i (by omega)]
   have:¬ d[i].1=nm:=fun h=>e h.symm
   simp [this]
def rowOk (d:List Sub) (i:Nat):Bool:=(d[i]?).all fun s=>kcO s.1&&!((d.take i).any fun t=>t.1==s.1)&&decide (s.2.length≤20)&&s.2.all (okRow d.length i)
def valid (d:List Sub):Bool:=wi 1 8 d.length&&(List.range d.length).all (rowOk d)
def Small (d:List Sub):Prop:=d.length≤12∧∀ s∈d,s.1.length≤100∧s.2.length≤30
theorem krS (d:List Sub) (hd:Small d):kfE d=some (if valid d=true then 0 else 8):=by
 have hl:=hd.1
 unfold kfE valid
 rw [from1,kaI]
 cases h:wi 1 8 (d.length:Int)
 ·simp
 simp only [Option.bind_some,Bool.not_true,Bool.false_eq_true,if_false,Bool.true_and]
 rw [show ((0,[]):Int×List (List UInt8×Bool))=(fun i:Nat=>((i:Int),nmap d i)) 0 from rfl,iter_any' (F:=keb d) 8 (fun i:Nat=>((i:Int),nmap d i)) d.length (by omega) (rowOk d) (fun i hi=>?_) (by unfold keb; simp only; rw [if_neg kaq])]
 ·cases (List.range d.length).all (rowOk d) <;> rfl
 ·obtain ⟨k1,k2⟩:=hd.2 _ (List.getElem_mem hi)
  unfold keb
  simp only
  rw [if_pos (lenI_lt.2 hi),kan hi]
  simp only [Option.bind_some]
  rw [krh _ (by omega),kmm d _ i (by omega)]
  simp only [Option.bind_some,kaI]
  have hr:rowOk d i=(kcO d[i].1&&!((d.take i).any fun t=>t.1==d[i].1)&&decide (d[i].2.length≤20)&&d[i].2.all (okRow d.length i)):=by unfold rowOk; rw [List.getElem?_eq_getElem hi]; rfl
  have hn:nmap d (i+1)=mput (nmap d i) d[i].1 true:=by
   rw [nmap]; rw [List.getElem?_eq_getElem hi]
  rw [hr,hn]
  cases kcO d[i].1
  ·simp
  cases ((d.take i).any fun s=>s.1==d[i].1)
  ·by_cases h20:(20:Int)<((d[i].2.length:Nat):Int)
   ·have:¬ d[i].2.length≤20:=by omega
    simp [h20,this]
   ·have h20':d[i].2.length≤20:=by omega
    rw [kpw d (by omega) i (by omega) _ _ (by omega)]
    rw [kam (by omega)]
    simp only [h20,h20',decide_false,decide_true,Bool.not_true,Bool.false_eq_true,if_false,Bool.not_false,Bool.true_and,Bool.and_true,Option.bind_some]
    cases d[i].2.all (okRow d.length i) <;> rfl
  ·simp
end Go.Abs
namespace Go.Abs
open Go
def findN (d:List Sub) (nm:List UInt8):Int:=if d.any (fun s=>s.1==nm)=true then ((d.findIdx fun s=>s.1==nm:Nat):Int) else -1
theorem ksx (d:List Sub) (hd:d.length≤100) (nm:List UInt8):kfH d nm=some (findN d nm):=by
 unfold kfH
 rw [kfK (F:=kdX d nm) d (by omega) (fun i x=>if (x.1==nm)=true then some (i:Int) else none) (fun i hi=>by
  unfold kdX
  rw [if_pos (lenI_lt.2 hi),kan hi,kam (by omega)]
  simp only [Option.bind_some]
  by_cases h:(d[i].1==nm)=true <;> simp [h,nextL]) (by unfold kdX; rw [if_neg kaq])]
 have:∀ (l:List Sub) (k:Nat),endL ((l.zipIdx k).findSome? fun x=>if (x.1.1==nm)=true then some (x.2:Int) else none)=(if l.any (fun s=>s.1==nm)=true then .inl ((k:Int)+(l.findIdx (fun s=>s.1==nm):Nat)) else .inr ()):=by
  intro l
  induction l with
  | nil=>intro k; rfl
  | cons x l ih=>
   intro k
   rw [List.zipIdx_cons,List.findSome?_cons,List.any_cons,List.findIdx_cons]
   cases hp:(x.1==nm) with
   | true=>simp [endL]
   | false=>
    simp only [Bool.false_eq_true,if_false,Bool.false_or,cond_false]
    rw [ih (k+1)]
    congr 2; push_cast; omega
 rw [this d 0]
 unfold findN
 by_cases h:d.any (fun s=>s.1==nm)=true <;> simp [h]
theorem kqm (d:List Sub) (i:Nat) (hi:i<d.length):(findN d d[i].1=(i:Int))↔((d.take i).any fun t=>t.1==d[i].1)=false:=by
 have ha:d.any (fun s=>s.1==d[i].1)=true:=List.any_eq_true.2 ⟨d[i],List.getElem_mem hi,by simp⟩
 unfold findN
 rw [if_pos ha]
 constructor
 ·intro h
  have h':d.findIdx (fun s=>s.1==d[i].1)=i:=by omega
  rw [List.any_eq_false]
  intro t ht
  obtain ⟨k,hk,rfl⟩:=List.mem_iff_getElem.1 ht
  rw [List.length_take] at hk
  rw [List.getElem_take]
  have:=List.not_of_lt_findIdx (p:=fun s:Sub=>s.1==d[i].1) (xs:=d) (i:=k) (by omega)
  simpa using this
 ·intro h
  have hle:d.findIdx (fun s=>s.1==d[i].1)≤i:=Nat.le_of_not_lt fun hlt=>by
   have:=List.not_of_lt_findIdx (p:=fun s:Sub=>s.1==d[i].1) (xs:=d) (i:=i) hlt
   simp at this
  have hlt:d.findIdx (fun s=>s.1==d[i].1)<d.length:=by omega
  have hp:=List.findIdx_getElem (p:=fun s:Sub=>s.1==d[i].1) (xs:=d) (w:=hlt)
  rcases Nat.lt_or_eq_of_le hle with hl | he
  ·rw [List.any_eq_false] at h
   exact absurd hp (h _ (List.mem_iff_getElem.2 ⟨d.findIdx (fun s=>s.1==d[i].1),by rw [List.length_take]; omega,by rw [List.getElem_take]⟩))
  ·omega
theorem kpB (d:List Sub) (hd:d.length≤100) (i:Nat) (hi:i≤100) (s:Sub) (hs:s.2.length≤100) :
  iter (kcz d (i:Int) s) 0=some (if s.2.all (okRow d.length i)=true then .inr () else .inl false):=by
 rw [show (0:Int)=((0:Nat):Int) from rfl,iter_any' (F:=kcz d (i:Int) s) false (fun k=>(k:Int)) s.2.length (by omega) (fun k=>(s.2[k]?).all (okRow d.length i)) (fun k hk=>by
  unfold kcz
  rw [if_pos (lenI_lt.2 hk),kan hk,List.getElem?_eq_getElem hk]
  simp only [Option.bind_some]
  rw [ksW d hd i hi,kam (by omega)]
  show _=some (if okRow d.length i s.2[k]=true then _ else _)
  simp only [Option.bind_some]
  cases okRow d.length i s.2[k] <;> rfl) (by unfold kcz; rw [if_neg kaq]),keP]
theorem krL (d:List Sub) (hd:Small d):kfb d=some (valid d):=by
 have hl:=hd.1
 unfold kfb valid
 rw [kaI]
 by_cases h1:((d.length:Nat):Int)<1
 ·have:wi 1 8 (d.length:Int)=false:=by unfold wi; simp; omega
  simp [h1,this]
 by_cases h2:(8:Int)<((d.length:Nat):Int)
 ·have:wi 1 8 (d.length:Int)=false:=by unfold wi; simp; omega
  simp [h1,h2,this]
 have hw:wi 1 8 (d.length:Int)=true:=by rw [kdg]; omega
 simp only [h1,h2,decide_false,Bool.false_eq_true,if_false,hw,Bool.true_and]
 rw [show (0:Int)=((0:Nat):Int) from rfl,iter_any' (F:=kdC d) false (fun i:Nat=>(i:Int)) d.length (by omega) (rowOk d) (fun i hi=>?_) (by unfold kdC; rw [if_neg kaq])]
 ·cases (List.range d.length).all (rowOk d) <;> rfl
 ·obtain ⟨k1,k2⟩:=hd.2 _ (List.getElem_mem hi)
  unfold kdC
  rw [if_pos (lenI_lt.2 hi),kan hi]
  simp only [Option.bind_some]
  rw [ksX _ (by omega),ksx d (by omega),kpB d (by omega) i (by omega) _ (by omega),kam (by omega)]
  have hr:rowOk d i=(kcO d[i].1&&!((d.take i).any fun t=>t.1==d[i].1)&&decide (d[i].2.length≤20)&&d[i].2.all (okRow d.length i)):=by unfold rowOk; rw [List.getElem?_eq_getElem hi]; rfl
  rw [hr]
  simp only [Option.bind_some,kaI]
  have hf:=kqm d i hi
  cases kcO d[i].1
  ·simp
  by_cases h20:(20:Int)<((d[i].2.length:Nat):Int)
  ·have:¬ d[i].2.length≤20:=by omega
   simp [h20,this]
  ·have h20':d[i].2.length≤20:=by omega
   cases ha:((d.take i).any fun t=>t.1==d[i].1)
   ·have hf:=hf.2 ha
    simp only [h20,h20',hf,bne_self_eq_false,decide_false,decide_true,Bool.not_true,Bool.false_eq_true,if_false,Bool.not_false,Bool.true_and,Bool.and_true,Option.bind_some]
    cases d[i].2.all (okRow d.length i) <;> rfl
   ·have hf:¬ findN d d[i].1=(i:Int):=fun e=>by rw [hf.1 e] at ha; cases ha
    have:(findN d d[i].1 != (i:Int))=true:=by simpa using hf
    simp [h20,this]
theorem krE (d:List Sub):∃ b,kfc d=some b∧(b=false→Small d):=by
 unfold kfc
 rw [kaI]
 by_cases h1:(12:Int)<((d.length:Nat):Int)
 ·exact ⟨true,by simp [h1],fun e=>by cases e⟩
 simp only [h1,decide_false,Bool.false_eq_true,if_false]
 rw [show (0:Int)=((0:Nat):Int) from rfl,iter_any' (F:=kdz d) true (fun i:Nat=>(i:Int)) d.length (by omega) (fun i=>(d[i]?).all fun s=>decide (s.2.length≤30)&&decide (s.1.length≤100)) (fun i hi=>?_) (by unfold kdz; rw [if_neg kaq]),keP]
 ·cases h:(d.all fun s=>decide (s.2.length≤30)&&decide (s.1.length≤100))
  ·exact ⟨true,rfl,fun e=>by cases e⟩
  ·refine ⟨false,rfl,fun _=>⟨by omega,fun s hs=>?_⟩⟩
   have:=List.all_eq_true.1 h s hs
   simp only [Bool.and_eq_true,decide_eq_true_eq] at this
   exact ⟨this.2,this.1⟩
 ·unfold kdz
  rw [if_pos (lenI_lt.2 hi),kan hi,List.getElem?_eq_getElem hi]
  simp only [Option.bind_some,kaI]
  show _=some (if (decide (d[i].2.length≤30)&&decide (d[i].1.length≤100))=true then _ else _)
  rw [kam (by omega)]
  by_cases h30:(30:Int)<((d[i].2.length:Nat):Int)
  ·have:¬ d[i].2.length≤30:=by omega
   simp [h30,this]
  have h30':d[i].2.length≤30:=by omega
  by_cases h100:(100:Int)<((d[i].1.length:Nat):Int)
  ·have:¬ d[i].1.length≤100:=by omega
   simp [h30,h30',h100,this]
  have h100':d[i].1.length≤100:=by omega
  simp [h30,h30',h100,h100']
theorem kaH {σ τ:Type} {F:σ→Option (σ⊕τ)} (e:Nat→σ) (m:Nat) (hm:m<18446744073709551616) (z:τ) (h1:∀ i,i<m→F (e i)=some (.inl (e (i+1)))) (h2:F (e m)=some (.inr z)):iter F (e 0)=some z:=by
 have:∀ k i:Nat,i+k=m→itN F (k+1) (e i)=some z:=by
  intro k
  induction k with
  | zero=>
   intro i h
   have:i=m:=by omega
   subst this
   rw [kdm h2]
  | succ k ih=>intro i h; rw [kiQ (h1 i (by omega)),ih (i+1) (by omega)]
 exact khz (this m 0 (by omega)) (by omega)
theorem klz (d:List Sub) (hl:d.length≤100) (hr:∀ s∈d,s.2.length≤1000):kby d=some d:=by
 unfold kby
 rw [show ((0,[]):Int×List Sub)=(fun i:Nat=>((i:Int),d.take i)) 0 from rfl,kaH (F:=kcH d) (fun i:Nat=>((i:Int),d.take i)) d.length (by omega) d (fun i hi=>?_) (by unfold kcH; simp only; rw [if_neg kaq,List.take_length])]
 ·rfl
 ·have hs:=hr _ (List.getElem_mem hi)
  unfold kcH
  simp only
  rw [if_pos (lenI_lt.2 hi),kan hi]
  simp only [Option.bind_some]
  rw [kcb (by simp; omega)]
  simp only [Option.bind_some,List.nil_append]
  rw [kcb (by simp; omega),kam (by omega)]
  simp only [Option.bind_some]
  rw [List.take_succ_eq_append_getElem hi]
theorem kiP {α:Type} {f:α→α→Bool} (h:∀ x,f x x=true):∀ l:List α,lbeq f l l=true
 | []=>rfl
 | x::l=>by simp [lbeq,h x,kiP h l]
theorem kmQ {t:Ty} {x:t.den} (h:teq t x x=true):bthO t (some x) (some x)=some x:=by
 unfold bthO
 simp only [h,if_true]
theorem koj (x:Line):teq tLine x x=true:=by simp [teq]
theorem ksq (x:Sub):teq tSub x x=true:=by
 simp only [teq,Bool.and_eq_true,decide_true,true_and]
 exact kiP koj x.2
theorem kpO (d:List Sub) (hl:d.length≤100) (hr:∀ s∈d,s.2.length≤1000):kez d d=some true:=by
 unfold kez
 rw [kaI]
 simp only [bne_self_eq_false,Bool.false_eq_true,if_false]
 rw [show (0:Int)=((0:Nat):Int) from rfl,kaH (F:=kea d d) (fun i:Nat=>(i:Int)) d.length (by omega) (.inr ()) (fun i hi=>?_) (by unfold kea; rw [if_neg kaq])]
 ·rfl
 ·have hs:=hr _ (List.getElem_mem hi)
  unfold kea
  rw [if_pos (lenI_lt.2 hi),kan hi]
  simp only [Option.bind_some]
  rw [kmQ (t:=.pr .s (.pr (.sl tLine) tSub)) (by
   have h1:=ksq d[i]
   have h2:=kiP koj d[i].2
   simp only [teq,Bool.and_eq_true,decide_true,true_and] at h1 ⊢
   exact ⟨h2,h2⟩)]
  simp only [Option.bind_some,kaI,bne_self_eq_false,beq_self_eq_true,Bool.not_true,Bool.false_eq_true,if_false]
  rw [show (0:Int)=((0:Nat):Int) from rfl,kaH (F:=kec (d[i].1,d[i].2,d[i])) (fun k:Nat=>(k:Int)) d[i].2.length (by omega) (.inr ()) (fun k hk=>by
   unfold kec
   simp only
   rw [if_pos (lenI_lt.2 hk),kan hk]
   simp only [Option.bind_some,beq_self_eq_true,Bool.and_self,Bool.not_true,Bool.false_eq_true,if_false]
   rw [kam (by omega)]) (by unfold kec; simp only; rw [if_neg kaq])]
  simp only [Option.bind_some]
  rw [kam (by omega)]
end Go.Abs
namespace Go.Abs
open Go
theorem knn {σ τ:Type} {F:Int×σ→Option ((Int×σ)⊕τ)} (m:Nat) (hm:m<18446744073709551616) (I:Nat→σ→Prop) (fin:σ→τ)
  (h1:∀ i s,i<m→I i s→∃ s',F ((i:Int),s)=some (.inl (((i+1:Nat):Int),s'))∧I (i+1) s') (h2:∀ s,I m s→F ((m:Int),s)=some (.inr (fin s))) (s:σ) (h0:I 0 s) :
  ∃ s',I m s'∧iter F (0,s)=some (fin s'):=by
 have:∀ k i s,i+k=m→I i s→∃ s',I m s'∧itN F (k+1) ((i:Int),s)=some (fin s'):=by
  intro k
  induction k with
  | zero=>
   intro i s h hs
   have:i=m:=by omega
   subst this
   exact ⟨s,hs,kdm (h2 s hs)⟩
  | succ k ih=>
   intro i s h hs
   obtain ⟨s',e,hs'⟩:=h1 i s (by omega) hs
   rw [kiQ e]
   exact ih (i+1) s' (by omega) hs'
 obtain ⟨s',h,e⟩:=this m 0 s (by omega) h0
 exact ⟨s',h,khz e (by omega)⟩
def shp2 (d:List Sub):List Nat:=d.map fun s=>s.2.length
theorem klV {d e:List Sub} (h:shp2 e=shp2 d) {i:Nat} (hi:i<d.length):∃ h':i<e.length,e[i].2.length=d[i].2.length:=by
 have hl:e.length=d.length:=by have:=congrArg List.length h; simpa [shp2] using this
 refine ⟨by omega,?_⟩
 have:=congrArg (fun l=>l[i]?) h
 simp only [shp2,List.getElem?_map,List.getElem?_eq_getElem hi,List.getElem?_eq_getElem (show i<e.length by omega),Option.map_some,Option.some.injEq] at this
 exact this
theorem knM {e:List Sub} {i:Nat} (hi:i<e.length) {s:Sub} (hs:s.2.length=e[i].2.length):shp2 (e.set i s)=shp2 e:=by
 unfold shp2
 rw [List.map_set]
 refine List.ext_getElem? fun k=>?_
 by_cases hk:i=k
 ·subst hk
  rw [List.getElem?_set_self (by simpa using hi)]
  simp [List.getElem?_eq_getElem hi,hs]
 ·rw [List.getElem?_set_ne hk]
theorem krU (d:List Sub) (hl:d.length≤100) (hr:∀ s∈d,s.2.length≤1000):kda d=some ():=by
 unfold kda
 obtain ⟨s',h,e⟩:=knn (F:=kcc d) d.length (by omega) (fun i e=>shp2 e=shp2 d) (fun _=>()) (fun i e hi he=>by
  obtain ⟨hie,hei⟩:=klV he hi
  have hrow:=hr _ (List.getElem_mem hi)
  unfold kcc
  simp only
  rw [if_pos (lenI_lt.2 hi),kan hie]
  simp only [Option.bind_some]
  obtain ⟨e2,h2,h3⟩:=knn (F:=kck ((i:Int),e) e[i]) e[i].2.length (by omega) (fun k e2=>shp2 e2=shp2 d) (fun e=>e) (fun k e2 hk h2=>by
   obtain ⟨hi2,hei2⟩:=klV h2 hi
   have hk2:k<e2[i].2.length:=by omega
   unfold kck
   simp only
   rw [if_pos (lenI_lt.2 hk),kan hi2]
   simp only [Option.bind_some]
   rw [kan hk2]
   simp only [Option.bind_some]
   rw [kam (by omega)]
   refine ⟨_,rfl,?_⟩
   unfold lset
   rw [Int.toNat_natCast,knM hi2 (by simp),h2]) (fun e2 h2=>by unfold kck; simp only; rw [if_neg kaq]) e he
  rw [h3]
  obtain ⟨hi2,hei2⟩:=klV h2 hi
  simp only [Option.bind_some]
  rw [kan hi2]
  simp only [Option.bind_some]
  rw [kam (by omega)]
  refine ⟨_,rfl,?_⟩
  unfold lset
  rw [Int.toNat_natCast,knM hi2 (by simp),h2]) (fun e he=>by unfold kcc; simp only; rw [if_neg kaq]) d rfl
 rw [e]; rfl
def sel (keep:Nat→Bool) (d:List Sub):Nat→List Sub
 | 0=>[]
 | i+1=>match keep i,d[i]? with | true,some s=>sel keep d i++[s] | _,_=>sel keep d i
def numM (keep:Nat→Bool) (d:List Sub):Nat→List (Int×Int)
 | 0=>[]
 | i+1=>match keep i with | true=>mput (numM keep d i) (i:Int) ((sel keep d i).length:Int) | false=>numM keep d i
theorem kgA {keep:Nat→Bool} {d:List Sub} {i:Nat} (hi:i<d.length):sel keep d (i+1)=if keep i=true then sel keep d i++[d[i]] else sel keep d i:=by
 rw [sel,List.getElem?_eq_getElem hi]
 cases keep i <;> rfl
theorem kfL {keep:Nat→Bool} {d:List Sub}:∀ i,i≤d.length→(sel keep d i).length≤i
 | 0,_=>by simp [sel]
 | i+1,h=>by
  have:=kfL (keep:=keep) (d:=d) i (by omega)
  rw [kgA (by omega)]
  split
  ·simp; omega
  ·omega
theorem kfP {keep:Nat→Bool} {d:List Sub}:∀ i,i≤d.length→∀ s∈sel keep d i,∃ k,∃ h:k<d.length,keep k=true∧s=d[k]
 | 0,_,s,hs=>by simp [sel] at hs
 | i+1,h,s,hs=>by
  rw [kgA (by omega)] at hs
  split at hs
  ·rename_i hk
   rcases List.mem_append.1 hs with hs | hs
   ·exact kfP i (by omega) s hs
   ·exact ⟨i,by omega,hk,by simpa using hs⟩
  ·exact kfP i (by omega) s hs
theorem khL {keep:Nat→Bool} {d:List Sub} (j:Nat):∀ i,i≤d.length→mget (numM keep d i) (j:Int)=if j<i∧keep j=true then some ((sel keep d j).length:Int) else none
 | 0,_=>by simp [numM,mget]
 | i+1,h=>by
  rw [numM]
  cases hk:keep i with
  | false=>
   simp only
   rw [khL j i (by omega)]
   by_cases hj:j=i
   ·subst hj; simp [hk]
   ·have:(j<i+1)↔(j<i):=by omega
    simp [this]
  | true=>
   simp only
   rw [kiO,khL j i (by omega)]
   by_cases hj:j=i
   ·subst hj; simp [hk]
   ·have h1:¬ (j:Int)=(i:Int):=by omega
    have:(j<i+1)↔(j<i):=by omega
    simp [this,h1,hj]
theorem ksk (l:List Line) (hl:l.length≤1000):kaD l=some l:=by
 unfold kaD
 rw [kcb (by simp; omega)]
 simp only [Option.bind_some,List.nil_append]
 cases l with
 | nil=>simp only [isE,List.isEmpty_nil,if_true]; exact kmQ (t:=.sl tLine) rfl
 | cons x l=>rfl
def reL (ρ:Int→Int) (l:Line):Line:=if 0≤l.1 then (ρ l.1,l.2) else l
def reS (ρ:Int→Int) (s:Sub):Sub:=(s.1,s.2.map (reL ρ))
def kaj {α:Type} (g:α→α) (l:List α) (i:Nat):List α:=(l.take i).map g++l.drop i
theorem kcT {α:Type} {g:α→α} {l:List α}:kaj g l 0=l:=by simp [kaj]
theorem kdt {α:Type} {g:α→α} {l:List α}:kaj g l l.length=l.map g:=by simp [kaj]
theorem kaO {α:Type} {g:α→α} {l:List α} {i:Nat}:(kaj g l i).length=l.length:=by simp [kaj]; omega
theorem kbv {α:Type} {g:α→α} {l:List α} {i:Nat} (hi:i<l.length):(kaj g l i)[i]'(by rw [kaO]; exact hi)=l[i]:=by
 have:(kaj g l i)[i]?=some l[i]:=by
  unfold kaj
  rw [List.getElem?_append_right (by simp; omega),List.getElem?_drop]
  simp only [List.length_map,List.length_take]
  rw [show i+(i-min i l.length)=i by omega,List.getElem?_eq_getElem hi]
 rw [List.getElem?_eq_getElem (by rw [kaO]; exact hi)] at this
 exact Option.some.inj this
theorem kdE {α:Type} {g:α→α} {l:List α} {i:Nat} (hi:i<l.length):(kaj g l i).set i (g l[i])=kaj g l (i+1):=by
 unfold kaj
 rw [List.set_append,if_neg (by simp; omega)]
 simp only [List.length_map,List.length_take]
 rw [show i-min i l.length=0 by omega,List.drop_eq_getElem_cons hi,List.set_cons_zero,List.take_succ_eq_append_getElem hi,List.map_append,List.append_assoc]
 rfl
theorem khW {α:Type} {l:List α} {i:Nat} {x:α} (hi:i<l.length):(l.set i x)[i]'(by simpa using hi)=x:=by simp
theorem kqp (N:List (Int×Int)) (O:List Sub) (hO:O.length≤100) (e:List Sub) (i:Nat) (he:e.length≤100) (hi:i<e.length) (hs:e[i].2.length≤1000) :
  iter (kca (O,N) ((i:Int),e) e[i]) (0,e)=some (e.set i (reS (fun x=>(mget N x).getD 0) e[i])):=by
 obtain ⟨s,hse⟩:∃ s,s=e[i]:=⟨_,rfl⟩
 rw [←hse] at hs ⊢
 have e0:e=e.set i (s.1,kaj (reL fun x=>(mget N x).getD 0) s.2 0):=by rw [kcT,hse]; exact (List.set_getElem_self hi).symm
 have e1:e.set i (reS (fun x=>(mget N x).getD 0) s)=e.set i (s.1,kaj (reL fun x=>(mget N x).getD 0) s.2 s.2.length):=by rw [kdt]; rfl
 rw [e1]
 have key:=kaH (F:=kca (O,N) ((i:Int),e) s) (fun k:Nat=>((k:Int),e.set i (s.1,kaj (reL fun x=>(mget N x).getD 0) s.2 k))) s.2.length (by omega) (e.set i (s.1,kaj (reL fun x=>(mget N x).getD 0) s.2 s.2.length)) (fun k hk=>by
  have hi':i<(e.set i (s.1,kaj (reL fun x=>(mget N x).getD 0) s.2 k)).length:=by simpa using hi
  have hkk:k<(kaj (reL fun x=>(mget N x).getD 0) s.2 k).length:=by rw [kaO]; exact hk
  unfold kca
  simp only
  rw [if_pos (lenI_lt.2 hk),kan hi',khW hi]
  simp only [Option.bind_some]
  rw [kan hkk,kbv hk]
  simp only [Option.bind_some]
  rw [kam (by omega)]
  have hset:=kdE (g:=reL fun x=>(mget N x).getD 0) hk
  unfold lset
  simp only [Int.toNat_natCast,List.set_set]
  by_cases h0:0≤s.2[k].1
  ·have hr:reL (fun x=>(mget N x).getD 0) s.2[k]=((mget N s.2[k].1).getD 0,s.2[k].2):=by unfold reL; rw [if_pos h0]
   rw [hr] at hset
   simp only [h0,decide_true,if_true]
   rw [hset]
  ·have hr:reL (fun x=>(mget N x).getD 0) s.2[k]=s.2[k]:=by unfold reL; rw [if_neg h0]
   rw [hr] at hset
   have hself:(kaj (reL fun x=>(mget N x).getD 0) s.2 k).set k s.2[k]=kaj (reL fun x=>(mget N x).getD 0) s.2 k:=by
    conv=>lhs; rw [←kbv (g:=reL fun x=>(mget N x).getD 0) hk]
    exact List.set_getElem_self _
   rw [hself] at hset
   simp only [h0,decide_false,Bool.false_eq_true,if_false]
   rw [←hset]) (by unfold kca; simp only; rw [if_neg kaq])
 replace key:iter _ (((0:Nat):Int),_)=some _:=key
 rw [←e0] at key
 exact key
theorem kpX (d:List Sub) (hl:d.length≤100) (hr:∀ s∈d,s.2.length≤1000) (keep:Nat→Bool) (f:Int→Option Bool) (hf:∀ i,i<d.length→f (i:Int)=some (keep i)) :
  kcp d f=some ((sel keep d d.length).map (reS fun x=>(mget (numM keep d d.length) x).getD 0)):=by
 unfold kcp
 have h0:=kaH (F:=kcW d f) (fun i:Nat=>((i:Int),numM keep d i,sel keep d i)) d.length (by omega) (sel keep d d.length,numM keep d d.length) (fun i hi=>by
  have hrow:=hr _ (List.getElem_mem hi)
  have hsl:=kfL (keep:=keep) (d:=d) i (by omega)
  unfold kcW
  simp only
  rw [if_pos (lenI_lt.2 hi),kan hi,hf i hi]
  simp only [Option.bind_some]
  rw [kgA hi,kam (by omega)]
  have hn:numM keep d (i+1)=if keep i=true then mput (numM keep d i) (i:Int) ((sel keep d i).length:Int) else numM keep d i:=by
   rw [numM]; cases keep i <;> rfl
  rw [hn]
  cases keep i with
  | false=>simp
  | true=>
   simp only [if_true]
   rw [ksk _ (by omega)]
   simp only [Option.bind_some]
   rw [kcb (by simp; omega)]
   rfl) (by unfold kcW; simp only; rw [if_neg kaq])
 rw [show ((0,[],[]):Int×List (Int×Int)×List Sub)=(((0:Nat):Int),numM keep d 0,sel keep d 0) from rfl,h0]
 simp only [Option.bind_some]
 have hsl:=kfL (keep:=keep) (d:=d) d.length (by omega)
 have hrs:∀ s∈sel keep d d.length,s.2.length≤1000:=fun s hs=>by
  obtain ⟨k,hk,_,rfl⟩:=kfP _ (Nat.le_refl _) s hs
  exact hr _ (List.getElem_mem hk)
 generalize sel keep d d.length=O at *
 generalize numM keep d d.length=N
 have h1:=kaH (F:=kcX (O,N)) (fun i:Nat=>((i:Int),kaj (reS fun x=>(mget N x).getD 0) O i)) O.length (by omega) (O.map (reS fun x=>(mget N x).getD 0)) (fun i hi=>by
  have hi':i<(kaj (reS fun x=>(mget N x).getD 0) O i).length:=by rw [kaO]; exact hi
  unfold kcX
  simp only
  rw [if_pos (lenI_lt.2 hi),kan hi']
  simp only [Option.bind_some]
  rw [kqp N O (by omega) _ i (by rw [kaO]; omega) hi' (by rw [kbv hi]; exact hrs _ (List.getElem_mem hi))]
  simp only [Option.bind_some]
  rw [kam (by omega),kbv hi,kdE hi]) (by unfold kcX; simp only; rw [if_neg kaq,kdt])
 rw [show (((0:Nat):Int),kaj (reS fun x=>(mget N x).getD 0) O 0)=(((0:Nat):Int),O) by rw [kcT]] at h1
 rw [show ((0,O):Int×List Sub)=(((0:Nat):Int),O) from rfl,h1]
 rfl
end Go.Abs
namespace Go.Abs
open Go
def numL (keep:Nat→Bool) (d:List Sub) (i:Nat):List Int:=(List.range d.length).map fun k=>if k<i then ((sel keep d k).length:Int) else 0
theorem kke {keep:Nat→Bool} {d:List Sub} {i:Nat}:(numL keep d i).length=d.length:=by simp [numL]
theorem krI {keep:Nat→Bool} {d:List Sub} {i:Nat} (hi:i<d.length):(numL keep d i).set i ((sel keep d i).length:Int)=numL keep d (i+1):=by
 refine List.ext_getElem? fun k=>?_
 by_cases hk:i=k
 ·subst hk
  rw [List.getElem?_set_self (by rw [kke]; exact hi)]
  simp [numL,hi]
 ·rw [List.getElem?_set_ne hk]
  unfold numL
  rw [List.getElem?_map,List.getElem?_map]
  rcases Nat.lt_or_ge k d.length with hkd | hkd
  ·rw [List.getElem?_range hkd]
   simp only [Option.map_some]
   have:(k<i+1)↔(k<i):=by omega
   simp only [this]
  ·rw [List.getElem?_eq_none (by simpa using hkd)]; rfl
def Lead (n:Nat) (s:Sub):Prop:=∀ l∈s.2,0≤l.1→l.1<(n:Int)
def rhoL (N:List Int) (x:Int):Int:=(gi N x).getD 0
theorem knd (N:List Int) (O:List Sub) (e:List Sub) (i:Nat) (he:e.length≤100) (hi:i<e.length) (hs:e[i].2.length≤1000) (hld:Lead N.length e[i]) :
  iter (kbk (O,N) ((i:Int),e)) (0,e)=some (e.set i (reS (rhoL N) e[i])):=by
 obtain ⟨s,hse⟩:∃ s,s=e[i]:=⟨_,rfl⟩
 rw [←hse] at hs hld ⊢
 have e0:e=e.set i (s.1,kaj (reL (rhoL N)) s.2 0):=by rw [kcT,hse]; exact (List.set_getElem_self hi).symm
 have e1:e.set i (reS (rhoL N) s)=e.set i (s.1,kaj (reL (rhoL N)) s.2 s.2.length):=by rw [kdt]; rfl
 rw [e1]
 have key:=kaH (F:=kbk (O,N) ((i:Int),e)) (fun k:Nat=>((k:Int),e.set i (s.1,kaj (reL (rhoL N)) s.2 k))) s.2.length (by omega) (e.set i (s.1,kaj (reL (rhoL N)) s.2 s.2.length)) (fun k hk=>by
  have hi':i<(e.set i (s.1,kaj (reL (rhoL N)) s.2 k)).length:=by simpa using hi
  have hkk:k<(kaj (reL (rhoL N)) s.2 k).length:=by rw [kaO]; exact hk
  unfold kbk
  simp only
  rw [kan hi',khW hi]
  simp only [Option.bind_some]
  rw [if_pos (lenI_lt.2 hkk)]
  rw [kan hkk,kbv hk]
  simp only [Option.bind_some]
  rw [kam (by omega)]
  have hset:=kdE (g:=reL (rhoL N)) hk
  unfold lset
  simp only [Int.toNat_natCast,List.set_set]
  by_cases h0:0≤s.2[k].1
  ·have hr:reL (rhoL N) s.2[k]=(rhoL N s.2[k].1,s.2[k].2):=by unfold reL; rw [if_pos h0]
   rw [hr] at hset
   have hlt:=hld _ (List.getElem_mem hk) h0
   have hg:gi N s.2[k].1=some (rhoL N s.2[k].1):=by
    unfold rhoL
    rw [ksK h0 (by omega)]; rfl
   rw [hg]
   simp only [h0,decide_true,if_true,Option.bind_some]
   rw [hset]
  ·have hr:reL (rhoL N) s.2[k]=s.2[k]:=by unfold reL; rw [if_neg h0]
   rw [hr] at hset
   have hself:(kaj (reL (rhoL N)) s.2 k).set k s.2[k]=kaj (reL (rhoL N)) s.2 k:=by
    conv=>lhs; rw [←kbv (g:=reL (rhoL N)) hk]
    exact List.set_getElem_self _
   rw [hself] at hset
   simp only [h0,decide_false,Bool.false_eq_true,if_false]
   rw [←hset]) (by
  have hi':i<(e.set i (s.1,kaj (reL (rhoL N)) s.2 s.2.length)).length:=by simpa using hi
  unfold kbk
  simp only
  rw [kan hi',khW hi]
  simp only [Option.bind_some]
  rw [if_neg (by rw [lenI_lt,kaO]; omega)])
 replace key:iter _ (((0:Nat):Int),_)=some _:=key
 rw [←e0] at key
 exact key
theorem kqy (d:List Sub) (hl:d.length≤100) (hr:∀ s∈d,s.2.length≤1000) (hld:∀ s∈d,Lead d.length s) (keep:Nat→Bool) (g:List Bool) (hg:∀ i,i<d.length→g[i]?=some (!keep i)) :
  kcJ d g=some ((sel keep d d.length).map (reS (rhoL (numL keep d d.length)))):=by
 unfold kcJ
 have hgm:gmk (lenI d) (0:Int)=some (numL keep d 0):=by
  unfold gmk
  rw [kaI,if_pos ⟨by omega,by omega⟩,Int.toNat_natCast]
  congr 1
  refine List.ext_getElem? fun k=>?_
  unfold numL
  rw [List.getElem?_map]
  rcases Nat.lt_or_ge k d.length with hkd | hkd
  ·rw [List.getElem?_range hkd]; simp [hkd]
  ·rw [List.getElem?_eq_none (by simpa using hkd),List.getElem?_eq_none (by simpa using hkd)]; rfl
 rw [hgm]
 simp only [Option.bind_some]
 have h0:=kaH (F:=kbR d g) (fun i:Nat=>((i:Int),numL keep d i,sel keep d i)) d.length (by omega) (sel keep d d.length,numL keep d d.length) (fun i hi=>by
  have hsl:=kfL (keep:=keep) (d:=d) i (by omega)
  have hgi:gi g (i:Int)=some (!keep i):=by rw [kln]; exact hg i hi
  unfold kbR
  simp only
  rw [if_pos (lenI_lt.2 hi),kan (show i<(numL keep d i).length by rw [kke]; exact hi),hgi,kan hi]
  simp only [Option.bind_some]
  rw [kgA hi,kam (by omega)]
  unfold lset
  rw [Int.toNat_natCast,kaI,krI hi]
  cases keep i with
  | false=>simp
  | true=>
   simp only [Bool.not_true,Bool.not_false,if_true]
   rw [kcb (by simp; omega)]
   rfl) (by unfold kbR; simp only; rw [if_neg kaq])
 rw [show ((0,numL keep d 0,[]):Int×List Int×List Sub)=(((0:Nat):Int),numL keep d 0,sel keep d 0) from rfl,h0]
 simp only [Option.bind_some]
 have hsl:=kfL (keep:=keep) (d:=d) d.length (by omega)
 have hrs:∀ s∈sel keep d d.length,s.2.length≤1000∧Lead d.length s:=fun s hs=>by
  obtain ⟨k,hk,_,rfl⟩:=kfP _ (Nat.le_refl _) s hs
  exact ⟨hr _ (List.getElem_mem hk),hld _ (List.getElem_mem hk)⟩
 have hnl:(numL keep d d.length).length=d.length:=kke
 generalize sel keep d d.length=O at *
 generalize numL keep d d.length=N at *
 rw [klz O (by omega) (fun s hs=>(hrs s hs).1)]
 simp only [Option.bind_some]
 have h1:=kaH (F:=kbQ (O,N)) (fun i:Nat=>((i:Int),kaj (reS (rhoL N)) O i)) O.length (by omega) (O.map (reS (rhoL N))) (fun i hi=>by
  have hi':i<(kaj (reS (rhoL N)) O i).length:=by rw [kaO]; exact hi
  unfold kbQ
  simp only
  rw [if_pos (lenI_lt.2 hi')]
  rw [knd N O _ i (by rw [kaO]; omega) hi' (by rw [kbv hi]; exact (hrs _ (List.getElem_mem hi)).1) (by rw [kbv hi,hnl]; exact (hrs _ (List.getElem_mem hi)).2)]
  simp only [Option.bind_some]
  rw [kam (by omega),kbv hi,kdE hi]) (by unfold kbQ; simp only; rw [if_neg (by rw [lenI_lt,kaO]; omega),kdt])
 rw [show (((0:Nat):Int),kaj (reS (rhoL N)) O 0)=(((0:Nat):Int),O) by rw [kcT]] at h1
 rw [show ((0,O):Int×List Sub)=(((0:Nat):Int),O) from rfl,h1]
 rfl
def Shut2 (keep:Nat→Bool) (d:List Sub):Prop:=∀ i (hi:i<d.length),keep i=true→∀ l∈d[i].2,0≤l.1→∃ j:Nat,l.1=(j:Int)∧j<d.length∧keep j=true
theorem knP (keep:Nat→Bool) (d:List Sub) (hs:Shut2 keep d) :
  (sel keep d d.length).map (reS fun x=>(mget (numM keep d d.length) x).getD 0)=(sel keep d d.length).map (reS (rhoL (numL keep d d.length))):=by
 refine List.map_congr_left fun s hsm=>?_
 obtain ⟨k,hk,hkk,rfl⟩:=kfP _ (Nat.le_refl _) s hsm
 unfold reS
 congr 1
 refine List.map_congr_left fun l hlm=>?_
 unfold reL
 by_cases h0:0≤l.1
 ·rw [if_pos h0,if_pos h0]
  obtain ⟨j,e,hj,hkj⟩:=hs k hk hkk l hlm h0
  rw [e]
  show ((mget (numM keep d d.length) (j:Int)).getD 0,l.2)=_
  rw [khL j _ (Nat.le_refl _),if_pos ⟨hj,hkj⟩]
  unfold rhoL
  rw [kln]
  simp [numL,hj]
 ·rw [if_neg h0,if_neg h0]
end Go.Abs
namespace Go.Abs
open Go
def dag (d:List Sub):Prop:=∀ (i:Nat) (s:Sub),d[i]?=some s→∀ l∈s.2,0≤l.1→(i:Int)<l.1∧l.1<(d.length:Int)
theorem kja (d:List Sub):valid d=true↔(1≤d.length∧d.length≤8)∧(∀ (j:Nat) (hj:j<d.length),kcO d[j].1=true∧d[j].2.length≤20∧∀ l∈d[j].2,okRow d.length j l=true)∧∀ (a b:Nat) (hab:a<b) (hb:b<d.length),d[a].1≠d[b].1:=by
 unfold valid
 rw [Bool.and_eq_true,kdg,kil]
 have row:∀ j (hj:j<d.length),rowOk d j=true↔(kcO d[j].1=true∧d[j].2.length≤20∧∀ l∈d[j].2,okRow d.length j l=true)∧∀ a (ha:a<j),d[a].1≠d[j].1:=fun j hj=>by
  have hr:rowOk d j=(kcO d[j].1&&!((d.take j).any fun t=>t.1==d[j].1)&&decide (d[j].2.length≤20)&&d[j].2.all (okRow d.length j)):=by unfold rowOk; rw [List.getElem?_eq_getElem hj]; rfl
  rw [hr]
  simp only [Bool.and_eq_true,Bool.not_eq_true',decide_eq_true_eq,List.all_eq_true]
  have hn:((d.take j).any fun t=>t.1==d[j].1)=false↔∀ a (ha:a<j),d[a].1≠d[j].1:=by
   rw [List.any_eq_false]
   constructor
   ·intro h a ha e
    exact h _ (List.mem_iff_getElem.2 ⟨a,by rw [List.length_take]; omega,by rw [List.getElem_take]⟩) (by rw [e]; simp)
   ·intro h t ht
    obtain ⟨a,ha,rfl⟩:=List.mem_iff_getElem.1 ht
    rw [List.length_take] at ha
    rw [List.getElem_take]
    simpa using h a (by omega)
  rw [hn]
  constructor
  ·rintro ⟨⟨⟨h1,h2⟩,h3⟩,h4⟩; exact ⟨⟨h1,h3,h4⟩,h2⟩
  ·rintro ⟨⟨h1,h3,h4⟩,h2⟩; exact ⟨⟨⟨h1,h2⟩,h3⟩,h4⟩
 constructor
 ·rintro ⟨h1,h2⟩
  exact ⟨by omega,fun j hj=>((row j hj).1 (h2 j hj)).1,fun a b hab hb=>((row b hb).1 (h2 b hb)).2 a hab⟩
 ·rintro ⟨h1,h2,h3⟩
  exact ⟨by omega,fun j hj=>(row j hj).2 ⟨h2 j hj,fun a ha=>h3 a j ha hj⟩⟩
theorem krd {n i:Nat} {l:Line} (h:okRow n i l=true) (h0:0≤l.1):(i:Int)<l.1∧l.1<(n:Int):=by
 unfold okRow at h
 simp only [Bool.and_eq_true] at h
 have h1:=h.1.1.1
 rw [if_neg (by omega)] at h1
 simp only [Bool.and_eq_true,kdg] at h1
 omega
theorem kqP {d:List Sub} (h:valid d=true):dag d:=fun i s hs l hl h0=>by
 obtain ⟨_,h2,_⟩:=(kja d).1 h
 obtain ⟨hi,rfl⟩:=List.getElem?_eq_some_iff.1 hs
 exact krd ((h2 i hi).2.2 l hl) h0
theorem Small.rows {d:List Sub} (h:Small d):∀ s∈d,s.2.length≤1000:=fun s hs=>by have:=(h.2 s hs).2; omega
theorem kmc (d:List Sub):∀ i,i≤d.length→sel (fun _=>true) d i=d.take i
 | 0,_=>by simp [sel]
 | i+1,h=>by rw [kgA (by omega),if_pos rfl,kmc d i (by omega),List.take_succ_eq_append_getElem (by omega)]
theorem ksc (d:List Sub) (hs:Small d) (hd:dag d):kcp d (fun u0=>(keH u0).bind fun u1=>some u1)=some d:=by
 have hl:=hs.1
 rw [kpX d (by omega) hs.rows (fun _=>true) _ (fun i hi=>rfl),kmc d _ (Nat.le_refl _),List.take_length]
 congr 1
 refine List.ext_getElem (by simp) fun i h1 h2=>?_
 rw [List.getElem_map]
 have hrow:d[i].2.map (reL fun x=>(mget (numM (fun _=>true) d d.length) x).getD 0)=d[i].2:=by
  refine List.ext_getElem (by simp) fun k k1 k2=>?_
  rw [List.getElem_map]
  unfold reL
  by_cases h0:0≤d[i].2[k].1
  ·rw [if_pos h0]
   have hdd:=hd i _ (List.getElem?_eq_getElem h2) _ (List.getElem_mem k2) h0
   obtain ⟨c,hc⟩:∃ c:Nat,d[i].2[k].1=(c:Int):=⟨d[i].2[k].1.toNat,by omega⟩
   rw [hc] at hdd
   have hg:(mget (numM (fun _=>true) d d.length) d[i].2[k].1).getD 0=d[i].2[k].1:=by
    rw [hc,khL c _ (Nat.le_refl _),if_pos ⟨by omega,rfl⟩,kmc d c (by omega),List.length_take]
    simp only [Option.getD_some]
    omega
   show ((mget (numM (fun _=>true) d d.length) d[i].2[k].1).getD 0,d[i].2[k].2)=d[i].2[k]
   rw [hg]
  ·rw [if_neg h0]
 unfold reS
 rw [hrow]
end Go.Abs
namespace Go.Abs
open Go
abbrev Cel:=Int×Int×Int
def rz (c:Cel):Cel:=(-c.2.1,c.1,c.2.2)
def rx (c:Cel):Cel:=(c.1,-c.2.2,c.2.1)
def rzN (c:Cel):Nat→Cel
 | 0=>c
 | k+1=>rz (rzN c k)
def rxN (c:Cel):Nat→Cel
 | 0=>c
 | k+1=>rx (rxN c k)
def turnF (t:Nat) (c:Cel):Cel:=
 match t / 4 with
 | 0=>rzN c (t % 4)
 | 1=>rx (rzN c (t % 4))
 | 2=>rx (rx (rzN c (t % 4)))
 | 3=>rx (rx (rx (rzN c (t % 4))))
 | 4=>rz (rx (rzN c (t % 4)))
 | _=>rz (rz (rz (rx (rzN c (t % 4)))))
def Nr (b:Int) (c:Cel):Prop:=(-b≤c.1∧c.1≤b)∧(-b≤c.2.1∧c.2.1≤b)∧(-b≤c.2.2∧c.2.2≤b)
theorem Nr.rz {b:Int} {c:Cel} (h:Nr b c):Nr b (rz c):=by unfold Nr Abs.rz at *; simp only; omega
theorem Nr.rx {b:Int} {c:Cel} (h:Nr b c):Nr b (rx c):=by unfold Nr Abs.rx at *; simp only; omega
theorem Nr.rzN {b:Int} {c:Cel} (h:Nr b c):∀ k,Nr b (rzN c k)
 | 0=>h
 | k+1=>(Nr.rzN h k).rz
theorem Nr.rxN {b:Int} {c:Cel} (h:Nr b c):∀ k,Nr b (rxN c k)
 | 0=>h
 | k+1=>(Nr.rxN h k).rx
theorem Nr.turn {b:Int} {c:Cel} (h:Nr b c) (t:Nat):Nr b (turnF t c):=by
 have h0:=h.rzN (t % 4)
 unfold turnF
 split
 ·exact h0
 ·exact h0.rx
 ·exact h0.rx.rx
 ·exact h0.rx.rx.rx
 ·exact h0.rx.rz
 ·exact h0.rx.rz.rz.rz
theorem kfN {x:Int} (h:-4000≤x∧x≤4000):w64 (0-x) = -x:=by rw [kcs (by omega) (by omega)]; omega
theorem quo4 {t:Nat} (ht:t<24):gquo .i64 (t:Int) 4=some ((t / 4:Nat):Int):=by
 unfold gquo
 rw [if_neg (by omega)]
 congr 1
 have:((t:Int)).tdiv 4=((t / 4:Nat):Int):=by rw [Int.tdiv_eq_ediv_of_nonneg (by omega)]; omega
 rw [this]
 exact kcs (by omega) (by omega)
theorem rem4 (t:Nat):grem (t:Int) 4=some ((t % 4:Nat):Int):=by
 unfold grem
 rw [if_neg (by omega)]
 rfl
theorem krr (c:Cel) (hc:Nr 4000 c) (k:Nat) (hk:k≤1000):iter (kci (k:Int)) (0,c)=some (rzN c k):=by
 have:=kaH (F:=kci (k:Int)) (fun i:Nat=>((i:Int),rzN c i)) k (by omega) (rzN c k) (fun i hi=>by
  have:=hc.rzN i
  unfold Nr at this
  unfold kci
  simp only
  rw [if_pos (by simpa using hi),kam (by omega),kfN (by omega)]
  rfl) (by
  unfold kci
  simp only
  rw [if_neg (by simp)])
 exact this
theorem c1_eq (c:Cel) (hc:Nr 4000 c):kaC c=some (rx c):=by
 unfold Nr at hc
 unfold kaC
 rw [kfN (by omega)]; rfl
theorem kme (c:Cel) (hc:Nr 4000 c) (t:Nat) (ht:t<24):kbL c (t:Int)=some (turnF t c):=by
 unfold kbL turnF
 rw [rem4,quo4 ht]
 simp only [Option.bind_some]
 rw [krr c hc _ (by omega)]
 simp only [Option.bind_some,lattice_turners_m0]
 have hv:=hc.rzN (t % 4)
 generalize rzN c (t % 4)=v at *
 have h6:t / 4<6:=by omega
 generalize t / 4=q at *
 have hx:=hv.rx
 have hxx:=hx.rx
 match q,h6 with
 | 0,_=>rfl
 | 1,_=>simp [c1_eq v hv]
 | 2,_=>simp [kcu,c1_eq v hv,c1_eq _ hx]
 | 3,_=>simp [kcv,c1_eq v hv,c1_eq _ hx,c1_eq _ hxx]
 | 4,_=>simp [kdj,rz,rx]
 | 5,_=>
  unfold Nr at hv
  have e6:kbZ v=some (rz (rz (rz (rx v)))):=by
   unfold kbZ
   rw [kfN (x:=v.2.2) (by omega),kfN (x:=v.1) (by omega)]
   simp [rz,rx]
  simp [e6]
theorem kjl (c:Cel) (hc:Nr 4000 c) (k:Nat) (hk:k≤1000):kbt c (k:Int)=some (rzN c k):=by
 unfold kbt
 have:=kaH (F:=kbY (k:Int)) (fun i:Nat=>((i:Int),rzN c i)) k (by omega) (rzN c k) (fun i hi=>by
  have:=hc.rzN i
  unfold Nr at this
  unfold kbY
  simp only
  rw [if_pos (by simpa using hi),kam (by omega),kfN (by omega)]
  rfl) (by
  unfold kbY
  simp only
  rw [if_neg (by simp)])
 replace this:iter (kbY (k:Int)) (0,c)=_:=this
 rw [this]; rfl
theorem kmK (c:Cel) (hc:Nr 4000 c) (k:Nat) (hk:k≤1000):kcq c (k:Int)=some (rxN c k):=by
 unfold kcq
 have:=kaH (F:=kce (k:Int)) (fun i:Nat=>((i:Int),rxN c i)) k (by omega) (rxN c k) (fun i hi=>by
  have:=hc.rxN i
  unfold Nr at this
  unfold kce
  simp only
  rw [if_pos (by simpa using hi),kam (by omega),kfN (by omega)]
  rfl) (by
  unfold kce
  simp only
  rw [if_neg (by simp)])
 replace this:iter (kce (k:Int)) (0,c)=_:=this
 rw [this]; rfl
theorem kdl (c:Cel) (hc:Nr 4000 c) (t:Nat) (ht:t<24):kaT c (t:Int)=some (turnF t c):=by
 unfold kaT turnF
 rw [rem4,quo4 ht]
 simp only [Option.bind_some]
 rw [kjl c hc _ (by omega)]
 simp only [Option.bind_some]
 have hv:=hc.rzN (t % 4)
 generalize rzN c (t % 4)=v at *
 have h6:t / 4<6:=by omega
 generalize t / 4=q at *
 have hX:kcq v 1=some (rx v):=kmK v hv 1 (by omega)
 have hZ1:kbt (rx v) 1=some (rz (rx v)):=kjl _ hv.rx 1 (by omega)
 have hZ3:kbt (rx v) 3=some (rz (rz (rz (rx v)))):=kjl _ hv.rx 3 (by omega)
 rw [kmK v hv q (by omega),hX]
 simp only [Option.bind_some]
 rw [hZ1,hZ3]
 match q,h6 with
 | 0,_=>rfl
 | 1,_=>rfl
 | 2,_=>rfl
 | 3,_=>rfl
 | 4,_=>rfl
 | 5,_=>rfl
def lin (a b c:Cel) (p:Cel):Cel:=(p.1*a.1+p.2.1*b.1+p.2.2*c.1,p.1*a.2.1+p.2.1*b.2.1+p.2.2*c.2.1,p.1*a.2.2+p.2.1*b.2.2+p.2.2*c.2.2)
theorem krq (a b c p:Cel):rz (lin a b c p)=lin (rz a) (rz b) (rz c) p:=by
 simp only [rz,lin,Int.mul_neg,Int.neg_add]
theorem ktr (a b c p:Cel):rx (lin a b c p)=lin (rx a) (rx b) (rx c) p:=by
 simp only [rx,lin,Int.mul_neg,Int.neg_add]
theorem kpP (a b c p:Cel):∀ k,rzN (lin a b c p) k=lin (rzN a k) (rzN b k) (rzN c k) p
 | 0=>rfl
 | k+1=>by rw [rzN,kpP a b c p k,krq]; rfl
theorem ksg (a b c p:Cel) (t:Nat):turnF t (lin a b c p)=lin (turnF t a) (turnF t b) (turnF t c) p:=by
 unfold turnF
 rw [kpP]
 split <;> simp only [ktr,krq]
theorem krF (p:Cel):lin (1,0,0) (0,1,0) (0,0,1) p=p:=by
 simp [lin]
theorem mul_u {x a b:Int} (hx:-b≤x∧x≤b) (ha:-1≤a∧a≤1):-b≤x*a∧x*a≤b:=by
 have:a = -1∨a=0∨a=1:=by omega
 rcases this with rfl | rfl | rfl <;> omega
theorem klM {x y z a b c:Int} (hx:-1000≤x∧x≤1000) (hy:-1000≤y∧y≤1000) (hz:-1000≤z∧z≤1000) (ha:-1≤a∧a≤1) (hb:-1≤b∧b≤1) (hc:-1≤c∧c≤1) :
  w64 (w64 (w64 (x*a)+w64 (y*b))+w64 (z*c))=x*a+y*b+z*c:=by
 have h1:=mul_u hx ha
 have h2:=mul_u hy hb
 have h3:=mul_u hz hc
 rw [kcs (x:=x*a) (by omega) (by omega),kcs (x:=y*b) (by omega) (by omega),kcs (x:=z*c) (by omega) (by omega),kcs (x:=x*a+y*b) (by omega) (by omega),kcs (by omega) (by omega)]
theorem kmA (l:List Int) (hl:l.length≤1000):kcw l=some (l.all (wi 0 23)):=by
 unfold kcw
 rw [kfK (F:=kcn l) l (by omega) (fun i x=>if wi 0 23 x=true then none else some false) (fun i hi=>by
  unfold kcn
  rw [if_pos (lenI_lt.2 hi),kan hi,kam (by omega)]
  simp only [Option.bind_some]
  by_cases h:wi 0 23 l[i]=true
  ·rw [kdg] at h
   have h1:¬ l[i]<0:=by omega
   have h2:¬ 24≤l[i]:=by omega
   have h3:wi 0 23 l[i]=true:=by rw [kdg]; omega
   simp [h1,h2,h3,nextL]
  ·have h':=h
   rw [kdg] at h
   by_cases h1:l[i]<0
   ·simp [h1,h',nextL]
   ·have h2:24≤l[i]:=by omega
    simp [h1,h2,h',nextL]) (by unfold kcn; rw [if_neg kaq])]
 have:∀ (l:List Int) (k:Nat),endL ((l.zipIdx k).findSome? fun x=>if wi 0 23 x.1=true then none else some false)=(if l.all (wi 0 23)=true then .inr () else .inl false):=by
  intro l
  induction l with
  | nil=>intro k; rfl
  | cons x l ih=>
   intro k
   rw [List.zipIdx_cons,List.findSome?_cons,List.all_cons]
   cases hp:wi 0 23 x with
   | true=>simp only [if_true,Bool.true_and]; exact ih (k+1)
   | false=>simp [endL]
 rw [this l 0]
 cases l.all (wi 0 23) <;> rfl
theorem near1:kcx (1,0,0) (-2000) 2000=some true∧kcx (0,1,0) (-2000) 2000=some true∧kcx (0,0,1) (-2000) 2000=some true:=by
 refine ⟨?_,?_,?_⟩ <;> decide
theorem kiW (c:Cel) (hn:kcx c (-2000) 2000=some true) (hc:Nr 4000 c) (t:Nat) (ht:t<24):kct c (t:Int)=some (turnF t c,0):=by
 unfold kct
 rw [hn,kmA _ (by simp),kme c hc t ht]
 have:wi 0 23 (t:Int)=true:=by rw [kdg]; omega
 simp [this]
theorem kqJ (p:Cel) (hp:Nr 1000 p) (t:Nat) (ht:t<24):keW p (t:Int)=some (turnF t p):=by
 unfold keW
 have n4:∀ c:Cel,Nr 1 c→Nr 4000 c:=fun c h=>by unfold Nr at *; omega
 have u1:Nr 1 (1,0,0):=by unfold Nr; simp
 have u2:Nr 1 (0,1,0):=by unfold Nr; simp
 have u3:Nr 1 (0,0,1):=by unfold Nr; simp
 rw [kiW _ near1.1 (n4 _ u1) t ht,kiW _ near1.2.1 (n4 _ u2) t ht,kiW _ near1.2.2 (n4 _ u3) t ht]
 simp only [Option.bind_some]
 have e:=ksg (1,0,0) (0,1,0) (0,0,1) p t
 rw [krF] at e
 rw [e]
 have v1:=u1.turn t
 have v2:=u2.turn t
 have v3:=u3.turn t
 generalize turnF t (1,0,0)=a at *
 generalize turnF t (0,1,0)=b at *
 generalize turnF t (0,0,1)=c at *
 obtain ⟨h1,h2,h3⟩:=hp
 obtain ⟨a1,a2,a3⟩:=v1
 obtain ⟨b1,b2,b3⟩:=v2
 obtain ⟨c1,c2,c3⟩:=v3
 rw [klM h1 h2 h3 a1 b1 c1,klM h1 h2 h3 a2 b2 c2,klM h1 h2 h3 a3 b3 c3]
 rfl
end Go.Abs
set_option maxRecDepth 100000
namespace Go.Abs
open Go
theorem kmC {σ β γ:Type} {F:σ→Option (σ⊕(β⊕γ))} (e:Nat→σ) (m:Nat) (hm:m<18446744073709551616) (f:Nat→Option β) (z:γ)
  (h1:∀ i,i<m→F (e i)=some (match f i with | some b=>.inr (.inl b) | none=>.inl (e (i+1)))) (h2:F (e m)=some (.inr (.inr z))) :
  iter F (e 0)=some (match (List.range m).findSome? f with | some b=>.inl b | none=>.inr z):=by
 have:∀ k i,i+k=m→itN F (k+1) (e i)=some (match (List.range' i k).findSome? f with | some b=>.inl b | none=>.inr z):=by
  intro k
  induction k with
  | zero=>
   intro i h
   have:i=m:=by omega
   subst this
   exact kdm h2
  | succ k ih=>
   intro i h
   have h1:=h1 i (by omega)
   rw [List.range'_succ,List.findSome?_cons]
   cases hf:f i with
   | some b=>
    rw [hf] at h1
    exact kdm h1
   | none=>
    rw [hf] at h1
    rw [kiQ h1]
    exact ih (i+1) (by omega)
 rw [List.range_eq_range']
 exact khz (this m 0 (by omega)) (by omega)
def c123:Cel:=(1,2,3)
def fT (a b n:Nat):Option Int:=
 let c:=turnF n c123; let w:=turnF b (turnF a c123)
 if (c.1==w.1&&(c.2.1==w.2.1&&c.2.2==w.2.2))=true then some (n:Int) else none
def fR (a b n:Nat):Option Int:=
 let c:=turnF n (1,0,0); let w:=turnF b (turnF a (1,0,0)); let c':=turnF n (0,1,0); let w':=turnF b (turnF a (0,1,0))
 if (c.1==w.1&&(c.2.1==w.2.1&&c.2.2==w.2.2))=true then (if (c'.1==w'.1&&(c'.2.1==w'.2.1&&c'.2.2==w'.2.2))=true then some (n:Int) else none) else none
def compF (a b:Nat):Int:=((List.range 24).findSome? (fT a b)).getD 0
def kqL (a b:Nat):Bool:=match (List.range 24).findSome? (fT a b),(List.range 24).findSome? (fR a b) with | some x,some y=>x==y&&decide (0≤x)&&decide (x<24) | _,_=>false
theorem krT:((List.range 24).all fun a=>(List.range 24).all fun b=>kqL a b)=true:=by kernel_rfl
theorem ksd:(runI fun o=>kcU o)=some ((List.range 24).map fun n:Nat=>((n:Int),turnF n c123)):=by kernel_rfl
theorem kqb {a b:Nat} (ha:a<24) (hb:b<24):(List.range 24).findSome? (fT a b)=some (compF a b)∧(List.range 24).findSome? (fR a b)=some (compF a b)∧0≤compF a b∧compF a b<24:=by
 have h:=List.all_eq_true.1 (List.all_eq_true.1 krT a (by simpa using ha)) b (by simpa using hb)
 unfold kqL at h
 unfold compF
 split at h
 ·rename_i x y hx hy
  simp only [Bool.and_eq_true,beq_iff_eq,decide_eq_true_eq] at h
  obtain ⟨⟨rfl,h1⟩,h2⟩:=h
  rw [hx,hy]
  exact ⟨rfl,rfl,h1,h2⟩
 ·cases h
theorem nr123:Nr 4000 c123:=by unfold Nr c123; simp
theorem kqC (a b:Nat) (ha:a<24) (hb:b<24):kcZ a b=some (compF a b):=by
 unfold kcZ
 have h1:=kme c123 nr123 a ha
 unfold c123 at h1
 rw [h1]
 simp only [Option.bind_some]
 rw [kme _ (by have:=nr123.turn a; unfold c123 at this; exact this) b hb,ksd]
 simp only [Option.bind_some,lattice_which_m3]
 have hf:=kmC (F:=kcf (turnF b (turnF a (1,2,3))) ((List.range 24).map fun n:Nat=>((n:Int),turnF n c123))) (fun i=>((i:Int),(0:Int))) 24 (by omega) (fT a b) (0:Int) (fun i hi=>by
  unfold kcf
  simp only
  have hlen:i<((List.range 24).map fun n:Nat=>((n:Int),turnF n c123)).length:=by simpa using hi
  rw [if_pos (lenI_lt.2 hlen),kan hlen]
  simp only [Option.bind_some,List.getElem_map,List.getElem_range]
  unfold fT
  simp only
  rw [show ((1,2,3):Cel)=c123 from rfl]
  split
  ·rfl
  ·simp) (by
  unfold kcf
  simp only
  rw [if_neg (by simp [kaI])])
 rw [(kqb ha hb).1] at hf
 replace hf:iter _ ((0:Int),(0:Int))=_:=hf
 rw [hf]
 rfl
theorem kpi (a b:Nat) (ha:a<24) (hb:b<24):kdB a b=some (compF a b):=by
 unfold kdB
 have u1:Nr 4000 (1,0,0):=by unfold Nr; simp
 have u2:Nr 4000 (0,1,0):=by unfold Nr; simp
 have hf:=kmC (F:=kcm a b) (fun i=>(i:Int)) 24 (by omega) (fR a b) () (fun i hi=>by
  unfold kcm
  rw [if_pos (by simp; omega),kdl _ u1 i hi,kdl _ u1 a ha,kdl _ u2 i hi,kdl _ u2 a ha,kam (by omega)]
  simp only [Option.bind_some]
  rw [kdl _ (u1.turn a) b hb,kdl _ (u2.turn a) b hb]
  simp only [Option.bind_some]
  unfold fR
  simp only
  split
  ·split <;> rfl
  ·rfl) (by
  unfold kcm
  rw [if_neg (by simp)])
 rw [(kqb ha hb).2.1] at hf
 replace hf:iter _ (0:Int)=_:=hf
 rw [hf]
 rfl
def kaJ (b u:Brick):Brick:=
 let v:=turnF u.2.2.1.toNat b.2.1
 (b.1,(w64 (v.1+u.2.1.1),w64 (v.2.1+u.2.1.2.1),w64 (v.2.2+u.2.1.2.2)),IntKind.wrap .u8 (compF b.2.2.1.toNat u.2.2.1.toNat),if b.2.2.2=0 then u.2.2.2 else b.2.2.2)
def BOk (b:Brick):Prop:=Nr 1000 b.2.1∧0≤b.2.2.1∧b.2.2.1<24
theorem Or_eq (x y:Int):keB [x,y]=some (if x=0 then y else x):=by
 unfold keB
 rw [kfK (F:=kcY [x,y]) [x,y] (by simp) (fun i x=>if x=0 then none else some x) (fun i hi=>by
  unfold kcY
  rw [if_pos (lenI_lt.2 hi),kan hi,kam (by simp at hi; omega)]
  simp only [Option.bind_some]
  by_cases h:[x,y][i]=0 <;> simp [h,nextL]) (by unfold kcY; rw [if_neg kaq])]
 by_cases hx:x=0 <;> by_cases hy:y=0 <;> simp [hx,hy,endL]
theorem kmn (b u:Brick) (hb:BOk b) (hu:BOk u):kff b u=some (kaJ b u)∧keE b u=some (kaJ b u):=by
 obtain ⟨hn,hb0,hb1⟩:=hb
 obtain ⟨_,hu0,hu1⟩:=hu
 have hn4:Nr 4000 b.2.1:=by unfold Nr at *; omega
 obtain ⟨t,ht⟩:∃ t:Nat,b.2.2.1=(t:Int):=⟨b.2.2.1.toNat,by omega⟩
 obtain ⟨s,hs⟩:∃ s:Nat,u.2.2.1=(s:Int):=⟨u.2.2.1.toNat,by omega⟩
 have hs24:s<24:=by omega
 have ht24:t<24:=by omega
 have e1:w64 u.2.2.1=(s:Int):=by rw [kcs (by omega) (by omega),hs]
 have e2:w64 b.2.2.1=(t:Int):=by rw [kcs (by omega) (by omega),ht]
 constructor
 ·unfold kff kem
  rw [e1,e2,kqJ _ hn s hs24,kqC t s ht24 hs24,Or_eq,kmA _ (by simp)]
  have w1:wi 0 23 (t:Int)=true:=by rw [kdg]; omega
  have w2:wi 0 23 (s:Int)=true:=by rw [kdg]; omega
  simp only [List.all_cons,w1,w2,List.all_nil,Bool.and_true,Bool.not_true,Bool.false_eq_true,if_false,Option.bind_some]
  unfold kaJ
  rw [hs,ht]
  rfl
 ·unfold keE
  rw [e1,e2,kdl _ hn4 s hs24,kpi t s ht24 hs24]
  simp only [Option.bind_some]
  unfold kaJ
  rw [hs,ht]
  by_cases h:b.2.2.2=0 <;> simp [h]
end Go.Abs
namespace Go.Abs
open Go
def outB (b:Brick):Bool:=!([b.2.1.1,b.2.1.2.1,b.2.1.2.2].all (wi (-1000) 1000))
def farOf (l m:Line):Bool:=outB (kaJ m.2 l.2)
def putL (l m:Line):Line:=(m.1,kaJ m.2 l.2)
def inl1 (D:List Line) (sub:Int) (l:Line):List Line:=if l.1=sub then D.map (putL l) else [l]
def far1 (D:List Line) (sub:Int) (l:Line):Bool:=if l.1=sub then D.any (farOf l) else false
def inlR (D:List Line) (sub:Int) (ls:List Line):List Line:=ls.flatMap (inl1 D sub)
def farR (D:List Line) (sub:Int) (ls:List Line):Bool:=ls.any (far1 D sub)
def errOf (m f:Bool):Int:=if m=true then 4 else if f=true then 11 else 0
def BsOk (ls:List Line):Prop:=∀ l∈ls,BOk l.2
theorem kqi (c:Int×Int×Int):kbU c=some ([c.1,c.2.1,c.2.2].all (wi (-1000) 1000)):=by
 unfold kbU
 simp only [kjs,Option.bind_some,List.all_cons,List.all_nil,Bool.and_true]
 cases wi (-1000) 1000 c.1 <;> simp
 cases wi (-1000) 1000 c.2.1 <;> simp
theorem kdp {α:Type} {l:List α} {p:α→Bool} {j:Nat} (hj:j<l.length):(l.take (j+1)).any p=((l.take j).any p||p l[j]):=by
 rw [List.take_succ_eq_append_getElem hj,List.any_append]; simp
theorem knR {α β:Type} {l:List α} {f:α→β} {j:Nat} (hj:j<l.length):(l.take (j+1)).map f=(l.take j).map f++[f l[j]]:=by
 rw [List.take_succ_eq_append_getElem hj,List.map_append]; rfl
theorem T2 (l:Line) (nm:List UInt8) (D:List Line) (hl:BOk l.2) (hD:BsOk D) (hd:D.length≤100) (mn f:Bool) (ls:List Line) (hls:ls.length≤100000) :
  iter (kbC l (nm,D)) (0,errOf mn f,ls)=some (errOf mn (f||D.any (farOf l)),ls++D.map (putL l)):=by
 have:=kaH (F:=kbC l (nm,D)) (fun j:Nat=>((j:Int),errOf mn (f||(D.take j).any (farOf l)),ls++(D.take j).map (putL l))) D.length (by omega) (errOf mn (f||D.any (farOf l)),ls++D.map (putL l)) (fun j hj=>by
  unfold kbC
  simp only
  rw [if_pos (lenI_lt.2 hj),kan hj]
  simp only [Option.bind_some]
  rw [(kmn _ _ (hD _ (List.getElem_mem hj)) hl).1]
  simp only [Option.bind_some]
  rw [kpL,kdp hj,knR hj,kam (by omega),kcb (by simp; omega)]
  simp only [Option.bind_some]
  have ho:farOf l D[j] = !([(kaJ D[j].2 l.2).2.1.1,(kaJ D[j].2 l.2).2.1.2.1,(kaJ D[j].2 l.2).2.1.2.2].all (wi (-1000) 1000)):=rfl
  have hp:putL l D[j]=(D[j].1,kaJ D[j].2 l.2):=rfl
  rw [ho,←hp,←List.append_assoc]
  generalize [(kaJ D[j].2 l.2).2.1.1,(kaJ D[j].2 l.2).2.1.2.1,(kaJ D[j].2 l.2).2.1.2.2].all (wi (-1000) 1000)=r
  generalize (D.take j).any (farOf l)=q
  cases r <;> cases q <;> cases f <;> cases mn <;> rfl) (by
  unfold kbC
  simp only
  rw [if_neg kaq,List.take_length])
 simp only [List.take_zero,List.any_nil,Bool.or_false,List.map_nil,List.append_nil] at this
 exact this
theorem R2 (l:Line) (nm:List UInt8) (D:List Line) (hl:BOk l.2) (hD:BsOk D) (hd:D.length≤100) (sub i:Int) (f0 mn f:Bool) (doc:List Sub) (hs:gi doc sub=some (nm,D)) (ls:List Line) (hls:ls.length≤100000) :
  iter (kbi sub (i,f0,mn,doc) l) (0,f,ls)=some (f||D.any (farOf l),ls++D.map (putL l)):=by
 have:=kaH (F:=kbi sub (i,f0,mn,doc) l) (fun j:Nat=>((j:Int),(f||(D.take j).any (farOf l)),ls++(D.take j).map (putL l))) D.length (by omega) ((f||D.any (farOf l)),ls++D.map (putL l)) (fun j hj=>by
  unfold kbi
  simp only [hs,Option.bind_some]
  rw [if_pos (lenI_lt.2 hj),kan hj]
  simp only [Option.bind_some]
  rw [(kmn _ _ (hD _ (List.getElem_mem hj)) hl).2]
  simp only [Option.bind_some]
  rw [kqi,kdp hj,knR hj,kam (by omega),kcb (by simp; omega)]
  simp only [Option.bind_some]
  have ho:farOf l D[j] = !([(kaJ D[j].2 l.2).2.1.1,(kaJ D[j].2 l.2).2.1.2.1,(kaJ D[j].2 l.2).2.1.2.2].all (wi (-1000) 1000)):=rfl
  have hp:putL l D[j]=(D[j].1,kaJ D[j].2 l.2):=rfl
  rw [ho,←hp,←List.append_assoc]
  generalize [(kaJ D[j].2 l.2).2.1.1,(kaJ D[j].2 l.2).2.1.2.1,(kaJ D[j].2 l.2).2.1.2.2].all (wi (-1000) 1000)=r
  generalize (D.take j).any (farOf l)=q
  cases r <;> cases q <;> cases f <;> rfl) (by
  unfold kbi
  simp only [hs,Option.bind_some]
  rw [if_neg kaq,List.take_length])
 simp only [List.take_zero,List.any_nil,Bool.or_false,List.map_nil,List.append_nil] at this
 exact this
theorem khO {D:List Line} {sub:Int} (hd:D.length≤30):∀ ls:List Line,(inlR D sub ls).length≤30*ls.length
 | []=>by simp [inlR]
 | l::ls=>by
  have ih:=khO (sub:=sub) hd ls
  unfold inlR at *
  rw [List.flatMap_cons,List.length_append,List.length_cons]
  have:(inl1 D sub l).length≤30:=by unfold inl1; split <;> simp; omega
  omega
theorem knY {D:List Line} {sub:Int} {rows:List Line} {j:Nat} (hj:j<rows.length):inlR D sub (rows.take (j+1))=inlR D sub (rows.take j)++inl1 D sub rows[j]:=by
 unfold inlR
 rw [List.take_succ_eq_append_getElem hj,List.flatMap_append]; simp
theorem T1 (d:List Sub) (sub:Int) (nm nm':List UInt8) (D rows:List Line) (hs:gi d sub=some (nm,D)) (hD:BsOk D) (hr:BsOk rows) (hd:D.length≤30) (hl:rows.length≤30) (mn f:Bool) :
  iter (kbB d sub (nm',rows)) (0,errOf mn f,[])=some (errOf mn (f||farR D sub rows),inlR D sub rows):=by
 have:=kaH (F:=kbB d sub (nm',rows)) (fun j:Nat=>((j:Int),errOf mn (f||farR D sub (rows.take j)),inlR D sub (rows.take j))) rows.length (by omega) (errOf mn (f||farR D sub rows),inlR D sub rows) (fun j hj=>by
  have hlen:=khO (sub:=sub) hd (rows.take j)
  rw [List.length_take] at hlen
  unfold kbB
  simp only
  rw [if_pos (lenI_lt.2 hj),kan hj]
  simp only [Option.bind_some]
  rw [knY hj,kam (by omega)]
  have hf:farR D sub (rows.take (j+1))=(farR D sub (rows.take j)||far1 D sub rows[j]):=kdp hj
  rw [hf,←Bool.or_assoc]
  by_cases h:rows[j].1=sub
  ·have hb:(rows[j].1 != sub)=false:=by simp [h]
   rw [hb,hs]
   simp only [Bool.false_eq_true,if_false,Option.bind_some]
   rw [T2 rows[j] nm D (hr _ (List.getElem_mem hj)) hD (by omega) mn _ _ (by omega)]
   unfold inl1 far1
   rw [if_pos h,if_pos h]
   rfl
  ·have hb:(rows[j].1 != sub)=true:=by simp [h]
   rw [hb]
   simp only [if_true]
   rw [kcb (by simp; omega)]
   unfold inl1 far1
   rw [if_neg h,if_neg h,Bool.or_false]
   rfl) (by
  unfold kbB
  simp only
  rw [if_neg kaq,List.take_length])
 simp only [List.take_zero] at this
 rw [show farR D sub []=false from rfl,Bool.or_false,show inlR D sub []=[] from rfl] at this
 exact this
theorem R1 (sub i:Int) (nm nm':List UInt8) (D rows:List Line) (doc:List Sub) (hi:gi doc i=some (nm',rows)) (hs:∀ l∈rows,l.1=sub→gi doc sub=some (nm,D)) (hD:BsOk D) (hr:BsOk rows) (hd:D.length≤30) (hl:rows.length≤30) (f0 mn f:Bool) :
  iter (kbn sub (i,f0,mn,doc)) (0,f,[])=some (f||farR D sub rows,inlR D sub rows):=by
 have:=kaH (F:=kbn sub (i,f0,mn,doc)) (fun j:Nat=>((j:Int),(f||farR D sub (rows.take j)),inlR D sub (rows.take j))) rows.length (by omega) ((f||farR D sub rows),inlR D sub rows) (fun j hj=>by
  have hlen:=khO (sub:=sub) hd (rows.take j)
  rw [List.length_take] at hlen
  unfold kbn
  simp only [hi,Option.bind_some]
  rw [if_pos (lenI_lt.2 hj),kan hj]
  simp only [Option.bind_some]
  rw [knY hj,kam (by omega)]
  have hf:farR D sub (rows.take (j+1))=(farR D sub (rows.take j)||far1 D sub rows[j]):=kdp hj
  rw [hf,←Bool.or_assoc]
  by_cases h:rows[j].1=sub
  ·have hb:(rows[j].1 != sub)=false:=by simp [h]
   rw [hb]
   simp only [Bool.false_eq_true,if_false,Option.bind_some]
   rw [R2 rows[j] nm D (hr _ (List.getElem_mem hj)) hD (by omega) sub i f0 mn _ doc (hs _ (List.getElem_mem hj) h) _ (by omega)]
   unfold inl1 far1
   rw [if_pos h,if_pos h]
   rfl
  ·have hb:(rows[j].1 != sub)=true:=by simp [h]
   rw [hb]
   simp only [if_true]
   rw [kcb (by simp; omega)]
   unfold inl1 far1
   rw [if_neg h,if_neg h,Bool.or_false]
   rfl) (by
  unfold kbn
  simp only [hi,Option.bind_some]
  rw [if_neg kaq,List.take_length])
 simp only [List.take_zero] at this
 rw [show farR D sub []=false from rfl,Bool.or_false,show inlR D sub []=[] from rfl] at this
 exact this
end Go.Abs
namespace Go.Abs
open Go
def Gi (D:List Line) (sub:Int) (s:Sub):Sub:=(s.1,inlR D sub s.2)
def farD (D:List Line) (sub:Int) (d:List Sub):Bool:=d.any fun s=>farR D sub s.2
def manyD (D:List Line) (sub:Int) (d:List Sub):Bool:=d.any fun s=>decide (20<lenI (inlR D sub s.2))
theorem kqQ {α:Type} {g:α→α} {l:List α} {i k:Nat} (hi:i≤k):(kaj g l i)[k]?=l[k]?:=by
 unfold kaj
 rcases Nat.lt_or_ge k l.length with hk | hk
 ·rw [List.getElem?_append_right (by simp; omega),List.getElem?_drop]
  simp only [List.length_map,List.length_take]
  rw [show i+(k-min i l.length)=k by omega]
 ·rw [List.getElem?_eq_none (by simp; omega),List.getElem?_eq_none hk]
theorem ktb (d:List Sub) (k:Nat) (hk:k<d.length) (hs:Small d) (hB:∀ s∈d,BsOk s.2) :
  iter (kbA d (k:Int)) (0,0,d)=some (errOf (manyD d[k].2 k d) (farD d[k].2 k d),d.map (Gi d[k].2 k)):=by
 have hl:=hs.1
 have hD:=hB _ (List.getElem_mem hk)
 have hDl:=(hs.2 _ (List.getElem_mem hk)).2
 have hg:gi d (k:Int)=some (d[k].1,d[k].2):=kan hk
 generalize d[k].1=nm at hg
 generalize d[k].2=D at *
 have:=kaH (F:=kbA d (k:Int)) (fun i:Nat=>((i:Int),errOf (manyD D k (d.take i)) (farD D k (d.take i)),kaj (Gi D k) d i)) d.length (by omega) (errOf (manyD D k d) (farD D k d),d.map (Gi D k)) (fun i hi=>by
  have hrow:=(hs.2 _ (List.getElem_mem hi)).2
  have hi':i<(kaj (Gi D k) d i).length:=by rw [kaO]; exact hi
  unfold kbA
  simp only
  rw [if_pos (lenI_lt.2 hi),kan hi]
  simp only [Option.bind_some]
  rw [show d[i]=(d[i].1,d[i].2) from rfl,T1 d k nm d[i].1 D d[i].2 hg hD (hB _ (List.getElem_mem hi)) hDl hrow]
  simp only [Option.bind_some]
  rw [kan hi',kbv hi]
  simp only [Option.bind_some]
  unfold lset
  have hset:(kaj (Gi D k) d i).set i (d[i].1,inlR D k d[i].2)=kaj (Gi D k) d (i+1):=kdE hi
  rw [Int.toNat_natCast,kam (by omega),hset]
  have hf:farD D k (d.take (i+1))=(farD D k (d.take i)||farR D k d[i].2):=kdp hi
  have hm:manyD D k (d.take (i+1))=(manyD D k (d.take i)||decide (20<lenI (inlR D k d[i].2))):=kdp hi
  rw [hf,hm]
  generalize farD D k (d.take i)=a
  generalize manyD D k (d.take i)=b
  generalize farR D k d[i].2=c
  generalize decide (20<lenI (inlR D k d[i].2))=e
  cases a <;> cases b <;> cases c <;> cases e <;> rfl) (by
  unfold kbA
  simp only
  rw [if_neg kaq,List.take_length,kdt])
 simp only [List.take_zero] at this
 rw [kcT] at this
 exact this
theorem ktd (d:List Sub) (k:Nat) (hk:k<d.length) (hs:Small d) (hB:∀ s∈d,BsOk s.2) (hd:dag d) :
  iter (kbm (k:Int)) (0,false,false,d)=some (manyD d[k].2 k d,farD d[k].2 k d,d.map (Gi d[k].2 k)):=by
 have hl:=hs.1
 have hD:=hB _ (List.getElem_mem hk)
 have hDl:=(hs.2 _ (List.getElem_mem hk)).2
 have hg:d[k]?=some (d[k].1,d[k].2):=List.getElem?_eq_getElem hk
 generalize d[k].1=nm at hg
 generalize d[k].2=D at *
 have:=kaH (F:=kbm (k:Int)) (fun i:Nat=>((i:Int),farD D k (d.take i),manyD D k (d.take i),kaj (Gi D k) d i)) d.length (by omega) (manyD D k d,farD D k d,d.map (Gi D k)) (fun i hi=>by
  have hrow:=(hs.2 _ (List.getElem_mem hi)).2
  have hi':i<(kaj (Gi D k) d i).length:=by rw [kaO]; exact hi
  have hgi:gi (kaj (Gi D k) d i) (i:Int)=some (d[i].1,d[i].2):=by rw [kan hi',kbv hi]
  unfold kbm
  simp only
  rw [if_pos (lenI_lt.2 hi')]
  rw [R1 k i nm d[i].1 D d[i].2 _ hgi (fun l hlm hlk=>by
   have:=hd i _ (List.getElem?_eq_getElem hi) l hlm (by omega)
   rw [kln,kqQ (by omega)]
   exact hg) hD (hB _ (List.getElem_mem hi)) hDl hrow]
  simp only [Option.bind_some]
  rw [hgi]
  simp only [Option.bind_some]
  unfold lset
  have hset:(kaj (Gi D k) d i).set i (d[i].1,inlR D k d[i].2)=kaj (Gi D k) d (i+1):=kdE hi
  rw [Int.toNat_natCast,kam (by omega),hset]
  have hf:farD D k (d.take (i+1))=(farD D k (d.take i)||farR D k d[i].2):=kdp hi
  have hm:manyD D k (d.take (i+1))=(manyD D k (d.take i)||decide (20<lenI (inlR D k d[i].2))):=kdp hi
  rw [hf,hm]
  generalize manyD D k (d.take i)=b
  generalize decide (20<lenI (inlR D k d[i].2))=e
  cases b <;> cases e <;> rfl) (by
  unfold kbm
  simp only
  rw [if_neg (by rw [lenI_lt,kaO]; omega),List.take_length,kdt])
 simp only [List.take_zero] at this
 rw [kcT] at this
 exact this
theorem ksr {D:List Line} {sub:Int} {rows:List Line} {l:Line} (h:l∈inlR D sub rows):(l∈rows∧l.1≠sub)∨∃ m∈D,l.1=m.1:=by
 unfold inlR at h
 obtain ⟨x,hx,hl⟩:=List.mem_flatMap.1 h
 unfold inl1 at hl
 split at hl
 ·obtain ⟨m,hm,rfl⟩:=List.mem_map.1 hl
  exact .inr ⟨m,hm,rfl⟩
 ·rename_i hne
  rw [List.mem_singleton] at hl
  subst hl
  exact .inl ⟨hx,hne⟩
theorem ktn {d:List Sub} (hv:valid d=true) (h0:∀ s∈d,∀ l∈s.2,0≤l.2.2.2.1):∀ s∈d,BsOk s.2:=fun s hs l hl=>by
 obtain ⟨_,h2,_⟩:=(kja d).1 hv
 obtain ⟨i,hi,rfl⟩:=List.mem_iff_getElem.1 hs
 have h:=(h2 i hi).2.2 l hl
 unfold okRow at h
 simp only [Bool.and_eq_true,List.all_cons,List.all_nil,kdg,decide_eq_true_eq] at h
 have:=h0 _ hs l hl
 unfold BOk Nr
 omega
theorem kqX (d:List Sub) (hs:Small d) (h0:∀ s∈d,∀ l∈s.2,0≤l.2.2.2.1) (x:Int):∃ e:Int,∃ y:List Sub,kdy d x=some (e,y)∧kcM d x=some (e,y)∧y.length≤100∧∀ s∈y,s.2.length≤1000:=by
 unfold kdy kcM
 have hl12:=hs.1
 rw [krS d hs,krL d hs]
 simp only [Option.bind_some]
 cases hv:valid d with
 | false=>exact ⟨8,[],by simp,by simp,by simp,by simp⟩
 | true=>
  obtain ⟨⟨h1,h8⟩,hrow,_⟩:=(kja d).1 hv
  have hd:=kqP hv
  have hB:=ktn hv h0
  simp only [if_true,bne_self_eq_false,Bool.false_eq_true,if_false,Bool.not_true]
  rw [from1,kjs,kaI,kcs (by omega) (by omega)]
  simp only [Option.bind_some]
  cases hw:wi 1 ((d.length:Int)-1) x with
  | false=>exact ⟨2,[],by simp,by simp,by simp,by simp⟩
  | true=>
   rw [kdg] at hw
   obtain ⟨k,rfl⟩:∃ k:Nat,x=(k:Int):=⟨x.toNat,by omega⟩
   have hk:k<d.length:=by omega
   simp only [Bool.not_true,Bool.false_eq_true,if_false]
   rw [ksc d hs hd,klz d (by omega) hs.rows]
   simp only [Option.bind_some]
   rw [ktb d k hk hs hB,ktd d k hk hs hB hd]
   simp only [Option.bind_some]
   have hDl:=(hs.2 _ (List.getElem_mem hk)).2
   have hDlead:∀ m∈d[k].2,0≤m.1→(k:Int)<m.1∧m.1<(d.length:Int):=hd k _ (List.getElem?_eq_getElem hk)
   have hlen:∀ s∈d.map (Gi d[k].2 k),s.2.length≤1000:=fun s hsm=>by
    obtain ⟨t,ht,rfl⟩:=List.mem_map.1 hsm
    have h3:=(hs.2 t ht).2
    have:=khO (sub:=(k:Int)) hDl t.2
    show (inlR _ _ t.2).length≤1000
    omega
   have hmem:∀ i (hi:i<(d.map (Gi d[k].2 k)).length),∀ l∈(d.map (Gi d[k].2 k))[i].2,0≤l.1→l.1<(d.length:Int)∧l.1≠(k:Int):=fun i hi l hlm hl0=>by
    rw [List.getElem_map] at hlm
    rcases ksr hlm with ⟨q1,q2⟩ | ⟨m,q1,q2⟩
    ·have:=hd i _ (List.getElem?_eq_getElem (by simpa using hi)) l q1 hl0
     exact ⟨this.2,q2⟩
    ·have:=hDlead m q1 (by omega)
     omega
   cases hm:manyD d[k].2 k d with
   | true=>exact ⟨4,[],by simp [errOf],by simp,by simp,by simp⟩
   | false=>
    cases hf:farD d[k].2 k d with
    | true=>exact ⟨11,[],by simp [errOf],by simp,by simp,by simp⟩
    | false=>
     have hgl:(d.map (Gi d[k].2 k)).length=d.length:=by simp
     generalize d.map (Gi d[k].2 k)=y at *
     simp only [errOf,Bool.false_eq_true,if_false,bne_self_eq_false]
     have hgm:gmk (lenI y) false=some (List.replicate d.length false):=by
      unfold gmk
      rw [kaI,if_pos ⟨by omega,by omega⟩,Int.toNat_natCast,hgl]
     rw [hgm]
     simp only [Option.bind_some]
     rw [kan (show k<(List.replicate d.length false).length by simpa using hk)]
     simp only [Option.bind_some]
     have hset:lset (List.replicate d.length false) (k:Int) true=(List.replicate d.length false).set k true:=by unfold lset; rw [Int.toNat_natCast]
     rw [hset]
     have hshut:Shut2 (fun i=>i != k) y:=fun i hi hki l hlm hl0=>by
      obtain ⟨q1,q2⟩:=hmem i hi l hlm hl0
      obtain ⟨j,hj⟩:∃ j:Nat,l.1=(j:Int):=⟨l.1.toNat,by omega⟩
      refine ⟨j,hj,by omega,?_⟩
      have:j≠k:=by rintro rfl; exact q2 hj
      simpa using this
     rw [kpX y (by omega) hlen (fun i=>i != k) _ (fun i hi=>by
      unfold keL
      simp only [Option.bind_some]
      congr 1
      by_cases h:i=k
      ·subst h; simp
      ·have:¬ (i:Int)=(k:Int):=by omega
       have h1:((i:Int) != (k:Int))=true:=by simp [this]
       have h2:(i != k)=true:=by simp [h]
       rw [h1,h2])]
     rw [kqy y (by omega) hlen (fun s hsm l hlm hl0=>by
      obtain ⟨i,hi,rfl⟩:=List.mem_iff_getElem.1 hsm
      have:=(hmem i hi l hlm hl0).1
      omega) (fun i=>i != k) _ (fun i hi=>by
      rw [List.getElem?_set]
      by_cases h:k=i
      ·subst h; simp [hk]
      ·have:(i != k)=true:=by simp; omega
       rw [if_neg h,this,List.getElem?_replicate,if_pos (by omega)]
       rfl),knP _ _ hshut]
     have hsl:=kfL (keep:=fun i=>i != k) (d:=y) y.length (Nat.le_refl _)
     refine ⟨0,_,rfl,rfl,by rw [List.length_map]; omega,fun s hsm=>?_⟩
     obtain ⟨t,ht,rfl⟩:=List.mem_map.1 hsm
     obtain ⟨i,hi,_,rfl⟩:=kfP _ (Nat.le_refl _) t ht
     have:=hlen _ (List.getElem_mem hi)
     simpa [reS] using this
theorem law02_TextInlines_eq (d:List Sub) (x:Int) (h0:∀ s∈d,∀ l∈s.2,0≤l.2.2.2.1):kdK d x=some true:=by
 unfold kdK
 obtain ⟨b,hb,hs⟩:=krE d
 rw [hb]
 simp only [Option.bind_some]
 cases b with
 | true=>rfl
 | false=>
  replace hs:=hs rfl
  have hl:=hs.1
  simp only [Bool.false_eq_true,if_false]
  obtain ⟨e,y,p1,p2,p3,p4⟩:=kqX d hs h0 x
  rw [klz d (by omega) hs.rows]
  simp only [Option.bind_some]
  rw [p1,p2]
  simp only [Option.bind_some]
  rw [kpO y p3 p4,kpO d (by omega) hs.rows,krU y p3 p4]
  simp
end Go.Abs
