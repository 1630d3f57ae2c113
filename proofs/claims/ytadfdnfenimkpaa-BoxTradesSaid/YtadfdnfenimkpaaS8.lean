/- The functions and the law, part 8. -/
import Derived.Test.YtadfdnfenimkpaaProg
import Derived.Test.YtadfdnfenimkpaaZ3
import Derived.Test.YtadfdnfenimkpaaZ6
import Derived.Test.YtadfdnfenimkpaaZ7
set_option linter.constructorNameAsVariable false
set_option linter.unusedVariables false
set_option linter.unusedSimpArgs false
set_option linter.unusedSectionVars false
namespace Go.Abs
open Go
abbrev kai:=(Int×(List Int))
def keK (x0:(List (List Int))) (v0:Int):Option (Int⊕(Bool⊕Unit)):=
 (if (decide (v0<(lenI x0)))=true then ((gi x0 v0).bind fun v1=>(if (decide (12<(lenI v1)))=true then (some (.inr (.inl true))) else (some (.inl (w64 (v0+1)))))) else (some (.inr (.inr ()))))
def kgL (x0:(List (List Int))):Option Bool:=
 ((iter (keK x0) 0).bind fun v2=>(match v2 with | .inl v3=>(some v3) | .inr v4=>(some (decide (12<(lenI x0))))))
def kiH (x0:Int) (x1:Int) (x2:Int):Option Bool:=
 (if (decide (x0≤x2))=true then (some (decide (x2≤x1))) else (some false))
def kaP (o:Option (List Int)) (x0:(List Int)) (v0:kai):Option (kai⊕((List Int)⊕(List Int))):=
 (if (decide (v0.1<(lenI x0)))=true then ((gi x0 v0.1).bind fun v1=>((gpre (.i .i64) o v0.2 v1).bind fun v2=>(some (.inl ((w64 (v0.1+1)),v2))))) else (some (.inr (.inr v0.2))))
def kaI (o:Option (List Int)) (x0:(List Int)):Option (List Int):=
 ((iter (kaP o x0) (0,[])).bind fun v3=>(match v3 with | .inl v4=>(some v4) | .inr v5=>(some v5)))
def kbS (x0:(List Int)):Option (List Int):=
 (some x0)
def klD (x0:Int):Option Int:=
 ((if (decide (65536≤x0))=true then ((gshr .u32 x0 16).bind fun v0=>(some (v0,16))) else (some (x0,0))).bind fun v1=>(if (decide (256≤v1.1))=true then ((gshr .u32 v1.1 8).bind fun v2=>((gstr [0,1,2,2,3,3,3,3,4,4,4,4,4,4,4,4,5,5,5,5,5,5,5,5,5,5,5,5,5,5,5,5,6,6,6,6,6,6,6,6,6,6,6,6,6,6,6,6,6,6,6,6,6,6,6,6,6,6,6,6,6,6,6,6,7,7,7,7,7,7,7,7,7,7,7,7,7,7,7,7,7,7,7,7,7,7,7,7,7,7,7,7,7,7,7,7,7,7,7,7,7,7,7,7,7,7,7,7,7,7,7,7,7,7,7,7,7,7,7,7,7,7,7,7,7,7,7,7,8,8,8,8,8,8,8,8,8,8,8,8,8,8,8,8,8,8,8,8,8,8,8,8,8,8,8,8,8,8,8,8,8,8,8,8,8,8,8,8,8,8,8,8,8,8,8,8,8,8,8,8,8,8,8,8,8,8,8,8,8,8,8,8,8,8,8,8,8,8,8,8,8,8,8,8,8,8,8,8,8,8,8,8,8,8,8,8,8,8,8,8,8,8,8,8,8,8,8,8,8,8,8,8,8,8,8,8,8,8,8,8,8,8,8,8,8,8,8,8,8,8,8,8,8,8,8,8] (IntKind.wrap .u8 v2)).bind fun v3=>(some (w64 ((w64 (v1.2+8))+(w64 v3)))))) else ((gstr [0,1,2,2,3,3,3,3,4,4,4,4,4,4,4,4,5,5,5,5,5,5,5,5,5,5,5,5,5,5,5,5,6,6,6,6,6,6,6,6,6,6,6,6,6,6,6,6,6,6,6,6,6,6,6,6,6,6,6,6,6,6,6,6,7,7,7,7,7,7,7,7,7,7,7,7,7,7,7,7,7,7,7,7,7,7,7,7,7,7,7,7,7,7,7,7,7,7,7,7,7,7,7,7,7,7,7,7,7,7,7,7,7,7,7,7,7,7,7,7,7,7,7,7,7,7,7,7,8,8,8,8,8,8,8,8,8,8,8,8,8,8,8,8,8,8,8,8,8,8,8,8,8,8,8,8,8,8,8,8,8,8,8,8,8,8,8,8,8,8,8,8,8,8,8,8,8,8,8,8,8,8,8,8,8,8,8,8,8,8,8,8,8,8,8,8,8,8,8,8,8,8,8,8,8,8,8,8,8,8,8,8,8,8,8,8,8,8,8,8,8,8,8,8,8,8,8,8,8,8,8,8,8,8,8,8,8,8,8,8,8,8,8,8,8,8,8,8,8,8,8,8,8,8,8,8] (IntKind.wrap .u8 v1.1)).bind fun v4=>(some (w64 (v1.2+(w64 v4)))))))
def khF (x0:Int):Option Int:=
 ((if (decide (4294967296≤x0))=true then ((gshr .u64 x0 32).bind fun v0=>(some (v0,32))) else (some (x0,0))).bind fun v1=>((if (decide (65536≤v1.1))=true then ((gshr .u64 v1.1 16).bind fun v2=>(some (v2,(w64 (v1.2+16))))) else (some v1)).bind fun v3=>(if (decide (256≤v3.1))=true then ((gshr .u64 v3.1 8).bind fun v4=>((gstr [0,1,2,2,3,3,3,3,4,4,4,4,4,4,4,4,5,5,5,5,5,5,5,5,5,5,5,5,5,5,5,5,6,6,6,6,6,6,6,6,6,6,6,6,6,6,6,6,6,6,6,6,6,6,6,6,6,6,6,6,6,6,6,6,7,7,7,7,7,7,7,7,7,7,7,7,7,7,7,7,7,7,7,7,7,7,7,7,7,7,7,7,7,7,7,7,7,7,7,7,7,7,7,7,7,7,7,7,7,7,7,7,7,7,7,7,7,7,7,7,7,7,7,7,7,7,7,7,8,8,8,8,8,8,8,8,8,8,8,8,8,8,8,8,8,8,8,8,8,8,8,8,8,8,8,8,8,8,8,8,8,8,8,8,8,8,8,8,8,8,8,8,8,8,8,8,8,8,8,8,8,8,8,8,8,8,8,8,8,8,8,8,8,8,8,8,8,8,8,8,8,8,8,8,8,8,8,8,8,8,8,8,8,8,8,8,8,8,8,8,8,8,8,8,8,8,8,8,8,8,8,8,8,8,8,8,8,8,8,8,8,8,8,8,8,8,8,8,8,8,8,8,8,8,8,8] (IntKind.wrap .u8 v4)).bind fun v5=>(some (w64 ((w64 (v3.2+8))+(w64 v5)))))) else ((gstr [0,1,2,2,3,3,3,3,4,4,4,4,4,4,4,4,5,5,5,5,5,5,5,5,5,5,5,5,5,5,5,5,6,6,6,6,6,6,6,6,6,6,6,6,6,6,6,6,6,6,6,6,6,6,6,6,6,6,6,6,6,6,6,6,7,7,7,7,7,7,7,7,7,7,7,7,7,7,7,7,7,7,7,7,7,7,7,7,7,7,7,7,7,7,7,7,7,7,7,7,7,7,7,7,7,7,7,7,7,7,7,7,7,7,7,7,7,7,7,7,7,7,7,7,7,7,7,7,8,8,8,8,8,8,8,8,8,8,8,8,8,8,8,8,8,8,8,8,8,8,8,8,8,8,8,8,8,8,8,8,8,8,8,8,8,8,8,8,8,8,8,8,8,8,8,8,8,8,8,8,8,8,8,8,8,8,8,8,8,8,8,8,8,8,8,8,8,8,8,8,8,8,8,8,8,8,8,8,8,8,8,8,8,8,8,8,8,8,8,8,8,8,8,8,8,8,8,8,8,8,8,8,8,8,8,8,8,8,8,8,8,8,8,8,8,8,8,8,8,8,8,8,8,8,8,8] (IntKind.wrap .u8 v3.1)).bind fun v6=>(some (w64 (v3.2+(w64 v6))))))))
def keN (x0:Int):Option Int:=
 ((khF x0).bind fun v0=>(some v0))
def keO (x0:Int):Option Bool:=
 (some (x0 != x0))
def kau (x0:Int) (x1:Int):Option Bool:=
 ((keO x0).bind fun v0=>(if v0=true then ((keO x1).bind fun v1=>(if (!v1)=true then (some true) else (some (decide (x0<x1))))) else (some (decide (x0<x1)))))
def kfh (x0:Int):Option Int:=
 ((keN (IntKind.wrap .u64 x0)).bind fun v0=>((gshl .u64 1 v0).bind fun v1=>(some v1)))
def kej (x0:Int):Option (Int×Int):=
 ((gshl .u64 x0 13).bind fun v0=>((gshr .u64 (bitsI .xor .u64 x0 v0) 7).bind fun v1=>((gshl .u64 (bitsI .xor .u64 (bitsI .xor .u64 x0 v0) v1) 17).bind fun v2=>(some ((bitsI .xor .u64 (bitsI .xor .u64 (bitsI .xor .u64 x0 v0) v1) v2),(bitsI .xor .u64 (bitsI .xor .u64 (bitsI .xor .u64 x0 v0) v1) v2))))))
def kbd (x0:(List Int)) (x1:Int) (x2:Int) (x3:Int):Option (Int×Int×Int):=
 ((gi x0 x2).bind fun v0=>((gi x0 x1).bind fun v1=>((kau v0 v1).bind fun v2=>(if v2=true then (some (x2,x1,(w64 (x3+1)))) else (some (x1,x2,x3))))))
def kbD (x0:(List Int)) (x1:Int) (x2:Int) (x3:Int) (x4:Int):Option (Int×Int):=
 ((kbd x0 x1 x2 x4).bind fun v0=>((kbd x0 v0.2.1 x3 v0.2.2).bind fun v1=>((kbd x0 v0.1 v1.1 v1.2.2).bind fun v2=>(some v2.2))))
def kaH (x0:(List Int)) (x1:Int) (x2:Int):Option (Int×Int):=
 ((kbD x0 (w64 (x1-1)) x1 (w64 (x1+1)) x2).bind fun v0=>(some v0))
def kcM (x0:(List Int)) (x1:Int) (x2:Int):Option (Int×Int):=
 ((gquo .i64 (w64 (x2-x1)) 4).bind fun v0=>((gquo .i64 (w64 (x2-x1)) 4).bind fun v1=>((gquo .i64 (w64 (x2-x1)) 4).bind fun v2=>((if (decide (8≤(w64 (x2-x1))))=true then ((if (decide (50≤(w64 (x2-x1))))=true then ((kaH x0 (w64 (x1+(w64 (v0*1)))) 0).bind fun v3=>((kaH x0 (w64 (x1+(w64 (v1*2)))) v3.2).bind fun v4=>((kaH x0 (w64 (x1+(w64 (v2*3)))) v4.2).bind fun v5=>(some (v3.1,v4.1,v5))))) else (some ((w64 (x1+(w64 (v0*1)))),(w64 (x1+(w64 (v1*2)))),(w64 (x1+(w64 (v2*3)))),0))).bind fun v6=>((kbD x0 v6.1 v6.2.1 v6.2.2.1 v6.2.2.2).bind fun v7=>(some v7))) else (some ((w64 (x1+(w64 (v1*2)))),0))).bind fun v8=>(if (v8.2==0)=true then (some (v8.1,1)) else (if (v8.2==12)=true then (some (v8.1,2)) else (some (v8.1,0))))))))
def kaO (v0:(List Int)) (v1:kai):Option (kai⊕((List Int)⊕(List Int))):=
 (if (decide (v1.1<(lenI v0)))=true then ((gi v0 v1.1).bind fun v2=>((gapp v1.2 [v2]).bind fun v3=>(some (.inl ((v1.1+1),v3))))) else (some (.inr (.inr v1.2))))
def kbx (x0:(List Int)) (x1:(List Int)):Option (List Int):=
 ((runI fun o=>(kaI o x1)).bind fun v0=>((iter (kaO v0) (0,x0)).bind fun v4=>(match v4 with | .inl v5=>(some v5) | .inr v6=>(some v6))))
def kbP (x0:(List Int)):Option (List Int):=
 ((kbx [] x0).bind fun v0=>(some v0))
def kar (x0:Int) (v1:kai):Option (kai⊕(List Int)):=
 (if (decide (x0<v1.1))=true then ((gi v1.2 v1.1).bind fun v2=>((gi v1.2 v1.1).bind fun v3=>((gi v1.2 (w64 (v1.1-1))).bind fun v4=>((gi v1.2 (w64 (v1.1-1))).bind fun v5=>((kau v3 v5).bind fun v6=>(if v6=true then ((gi v1.2 (w64 (v1.1-1))).bind fun v7=>((gi v1.2 (w64 (v1.1-1))).bind fun v8=>((gi v1.2 v1.1).bind fun v9=>((gi v1.2 v1.1).bind fun v10=>((gi v1.2 v1.1).bind fun v11=>((gi (lset v1.2 v1.1 v8) (w64 (v1.1-1))).bind fun v12=>(some (.inl ((w64 (v1.1-1)),(lset (lset v1.2 v1.1 v8) (w64 (v1.1-1)) v10)))))))))) else (some (.inr v1.2)))))))) else (some (.inr v1.2)))
def kaq (x0:Int) (x1:Int) (v0:kai):Option (kai⊕(List Int)):=
 (if (decide (v0.1<x1))=true then ((iter (kar x0) v0).bind fun v13=>(some (.inl ((w64 (v0.1+1)),v13)))) else (some (.inr v0.2)))
def kaK (x0:Int) (x1:Int) (x2:(List Int)):Option (List Int):=
 ((iter (kaq x0 x1) ((w64 (x0+1)),x2)).bind fun v14=>(some v14))
def keY (x1:Int) (x2:Int) (v0:kai):Option (kai⊕((List Int)⊕(List Int))):=
 (if (decide (x1≤(w64 ((w64 (2*v0.1))+1))))=true then (some (.inr (.inr v0.2))) else ((if (decide ((w64 ((w64 ((w64 (2*v0.1))+1))+1))<x1))=true then ((gi v0.2 (w64 (x2+(w64 ((w64 (2*v0.1))+1))))).bind fun v1=>((gi v0.2 (w64 (x2+(w64 ((w64 (2*v0.1))+1))))).bind fun v2=>((gi v0.2 (w64 ((w64 (x2+(w64 ((w64 (2*v0.1))+1))))+1))).bind fun v3=>((gi v0.2 (w64 ((w64 (x2+(w64 ((w64 (2*v0.1))+1))))+1))).bind fun v4=>((kau v2 v4).bind fun v5=>(some v5)))))) else (some false)).bind fun v6=>((if v6=true then (some (w64 ((w64 ((w64 (2*v0.1))+1))+1))) else (some (w64 ((w64 (2*v0.1))+1)))).bind fun v7=>((gi v0.2 (w64 (x2+v0.1))).bind fun v8=>((gi v0.2 (w64 (x2+v0.1))).bind fun v9=>((gi v0.2 (w64 (x2+v7))).bind fun v10=>((gi v0.2 (w64 (x2+v7))).bind fun v11=>((kau v9 v11).bind fun v12=>(if (!v12)=true then (some (.inr (.inl v0.2))) else ((gi v0.2 (w64 (x2+v7))).bind fun v13=>((gi v0.2 (w64 (x2+v7))).bind fun v14=>((gi v0.2 (w64 (x2+v0.1))).bind fun v15=>((gi v0.2 (w64 (x2+v0.1))).bind fun v16=>((gi v0.2 (w64 (x2+v0.1))).bind fun v17=>((gi (lset v0.2 (w64 (x2+v0.1)) v14) (w64 (x2+v7))).bind fun v18=>(some (.inl (v7,(lset (lset v0.2 (w64 (x2+v0.1)) v14) (w64 (x2+v7)) v16)))))))))))))))))))
def kbw (x0:Int) (x1:Int) (x2:Int) (x3:(List Int)):Option (List Int):=
 ((iter (keY x1 x2) (x0,x3)).bind fun v19=>(match v19 with | .inl v20=>(some v20) | .inr v21=>(some v21)))
def keW (x0:Int) (x1:Int) (v1:kai):Option (kai⊕(List Int)):=
 (if (decide (0≤v1.1))=true then ((kbw v1.1 (w64 (x1-x0)) x0 v1.2).bind fun v2=>(some (.inl ((w64 (v1.1-1)),v2)))) else (some (.inr v1.2)))
def keQ (x0:Int) (v4:kai):Option (kai⊕(List Int)):=
 (if (decide (0≤v4.1))=true then ((gi v4.2 (w64 (x0+v4.1))).bind fun v5=>((gi v4.2 (w64 (x0+v4.1))).bind fun v6=>((gi v4.2 x0).bind fun v7=>((gi v4.2 x0).bind fun v8=>((gi v4.2 x0).bind fun v9=>((gi (lset v4.2 x0 v6) (w64 (x0+v4.1))).bind fun v10=>((kbw 0 v4.1 x0 (lset (lset v4.2 x0 v6) (w64 (x0+v4.1)) v8)).bind fun v11=>(some (.inl ((w64 (v4.1-1)),v11)))))))))) else (some (.inr v4.2)))
def kcO (x0:Int) (x1:Int) (x2:(List Int)):Option (List Int):=
 ((gquo .i64 (w64 ((w64 (x1-x0))-1)) 2).bind fun v0=>((iter (keW x0 x1) (v0,x2)).bind fun v3=>((iter (keQ x0) ((w64 ((w64 (x1-x0))-1)),v3)).bind fun v12=>(some v12))))
def kdB (x0:Int) (x1:Int) (v0:Int) (v2:(Int×Int×(List Int))):Option ((Int×Int×(List Int))⊕(List Int)):=
 ((gquo .i64 (w64 (x1-x0)) 4).bind fun v3=>(if (decide (v2.1≤(w64 ((w64 (x0+(w64 (v3*2))))+1))))=true then ((kej v2.2.1).bind fun v4=>((if (decide ((w64 (x1-x0))≤(w64 (bitsI .and .u64 v4.1 (IntKind.wrap .u64 (v0-1))))))=true then (some (w64 ((w64 (bitsI .and .u64 v4.1 (IntKind.wrap .u64 (v0-1))))-(w64 (x1-x0))))) else (some (w64 (bitsI .and .u64 v4.1 (IntKind.wrap .u64 (v0-1)))))).bind fun v5=>((gi v2.2.2 (w64 (x0+v5))).bind fun v6=>((gi v2.2.2 (w64 (x0+v5))).bind fun v7=>((gi v2.2.2 v2.1).bind fun v8=>((gi v2.2.2 v2.1).bind fun v9=>((gi v2.2.2 v2.1).bind fun v10=>((gi (lset v2.2.2 v2.1 v7) (w64 (x0+v5))).bind fun v11=>(some (.inl ((w64 (v2.1+1)),v4.2,(lset (lset v2.2.2 v2.1 v7) (w64 (x0+v5)) v9)))))))))))) else (some (.inr v2.2.2))))
def kbM (x0:Int) (x1:Int) (x2:(List Int)):Option (List Int):=
 (if (decide (8≤(w64 (x1-x0))))=true then ((kfh (w64 (x1-x0))).bind fun v0=>((gquo .i64 (w64 (x1-x0)) 4).bind fun v1=>((iter (kdB x0 x1 v0) ((w64 ((w64 (x0+(w64 (v1*2))))-1)),(IntKind.wrap .u64 (w64 (x1-x0))),x2)).bind fun v12=>(some v12)))) else (some x2))
def kdF (v0:(Int×kai)):Option ((Int×kai)⊕(List Int)):=
 (if (decide (v0.1<v0.2.1))=true then ((gi v0.2.2 v0.2.1).bind fun v1=>((gi v0.2.2 v0.2.1).bind fun v2=>((gi v0.2.2 v0.1).bind fun v3=>((gi v0.2.2 v0.1).bind fun v4=>((gi v0.2.2 v0.1).bind fun v5=>((gi (lset v0.2.2 v0.1 v2) v0.2.1).bind fun v6=>(some (.inl ((w64 (v0.1+1)),(w64 (v0.2.1-1)),(lset (lset v0.2.2 v0.1 v2) v0.2.1 v4)))))))))) else (some (.inr v0.2.2)))
def kbV (x0:Int) (x1:Int) (x2:(List Int)):Option (List Int):=
 ((iter (kdF) (x0,(w64 (x1-1)),x2)).bind fun v7=>(some v7))
def kcE (x1:Int) (v0:(Int×kai)) (v1:Int):Option (Int⊕Int):=
 (if (decide (v1<x1))=true then ((gi v0.2.2 v1).bind fun v2=>((gi v0.2.2 v1).bind fun v3=>((gi v0.2.2 (w64 (v1-1))).bind fun v4=>((gi v0.2.2 (w64 (v1-1))).bind fun v5=>((kau v3 v5).bind fun v6=>(if (!v6)=true then (some (.inl (w64 (v1+1)))) else (some (.inr v1)))))))) else (some (.inr v1)))
def kcD (v14:kai):Option (kai⊕(List Int)):=
 (if (decide (1≤v14.1))=true then ((gi v14.2 v14.1).bind fun v15=>((gi v14.2 v14.1).bind fun v16=>((gi v14.2 (w64 (v14.1-1))).bind fun v17=>((gi v14.2 (w64 (v14.1-1))).bind fun v18=>((kau v16 v18).bind fun v19=>(if (!v19)=true then (some (.inr v14.2)) else ((gi v14.2 (w64 (v14.1-1))).bind fun v20=>((gi v14.2 (w64 (v14.1-1))).bind fun v21=>((gi v14.2 v14.1).bind fun v22=>((gi v14.2 v14.1).bind fun v23=>((gi v14.2 v14.1).bind fun v24=>((gi (lset v14.2 v14.1 v21) (w64 (v14.1-1))).bind fun v25=>(some (.inl ((w64 (v14.1-1)),(lset (lset v14.2 v14.1 v21) (w64 (v14.1-1)) v23)))))))))))))))) else (some (.inr v14.2)))
def kcH (x1:Int) (v28:kai):Option (kai⊕(List Int)):=
 (if (decide (v28.1<x1))=true then ((gi v28.2 v28.1).bind fun v29=>((gi v28.2 v28.1).bind fun v30=>((gi v28.2 (w64 (v28.1-1))).bind fun v31=>((gi v28.2 (w64 (v28.1-1))).bind fun v32=>((kau v30 v32).bind fun v33=>(if (!v33)=true then (some (.inr v28.2)) else ((gi v28.2 (w64 (v28.1-1))).bind fun v34=>((gi v28.2 (w64 (v28.1-1))).bind fun v35=>((gi v28.2 v28.1).bind fun v36=>((gi v28.2 v28.1).bind fun v37=>((gi v28.2 v28.1).bind fun v38=>((gi (lset v28.2 v28.1 v35) (w64 (v28.1-1))).bind fun v39=>(some (.inl ((w64 (v28.1+1)),(lset (lset v28.2 v28.1 v35) (w64 (v28.1-1)) v37)))))))))))))))) else (some (.inr v28.2)))
def kcF (x0:Int) (x1:Int) (v0:(Int×kai)):Option ((Int×kai)⊕((Bool×(List Int))⊕(List Int))):=
 (if (decide (v0.1<5))=true then ((iter (kcE x1 v0) v0.2.1).bind fun v7=>(if (v7==x1)=true then (some (.inr (.inl (true,v0.2.2)))) else (if (decide ((w64 (x1-x0))<50))=true then (some (.inr (.inl (false,v0.2.2)))) else ((gi v0.2.2 (w64 (v7-1))).bind fun v8=>((gi v0.2.2 (w64 (v7-1))).bind fun v9=>((gi v0.2.2 v7).bind fun v10=>((gi v0.2.2 v7).bind fun v11=>((gi v0.2.2 v7).bind fun v12=>((gi (lset v0.2.2 v7 v9) (w64 (v7-1))).bind fun v13=>((if (decide (2≤(w64 (v7-x0))))=true then ((iter (kcD) ((w64 (v7-1)),(lset (lset v0.2.2 v7 v9) (w64 (v7-1)) v11))).bind fun v26=>(some v26)) else (some (lset (lset v0.2.2 v7 v9) (w64 (v7-1)) v11))).bind fun v27=>(if (decide (2≤(w64 (x1-v7))))=true then ((iter (kcH x1) ((w64 (v7+1)),v27)).bind fun v40=>(some (.inl ((w64 (v0.1+1)),v7,v40)))) else (some (.inl ((w64 (v0.1+1)),v7,v27)))))))))))))) else (some (.inr (.inr v0.2.2))))
def kbk (x0:Int) (x1:Int) (x2:(List Int)):Option (Bool×(List Int)):=
 ((iter (kcF x0 x1) (0,(w64 (x0+1)),x2)).bind fun v41=>(match v41 with | .inl v42=>(some v42) | .inr v43=>(some (false,v43))))
def kdn (x0:Int) (v6:(Int×kai)) (v7:Int):Option (Int⊕Int):=
 (if (decide (v7≤v6.2.1))=true then ((gi v6.2.2 x0).bind fun v8=>((gi v6.2.2 x0).bind fun v9=>((gi v6.2.2 v7).bind fun v10=>((gi v6.2.2 v7).bind fun v11=>((kau v9 v11).bind fun v12=>(if (!v12)=true then (some (.inl (w64 (v7+1)))) else (some (.inr v7)))))))) else (some (.inr v7)))
def kdu (x0:Int) (v6:(Int×kai)) (v13:Int) (v14:Int):Option (Int⊕Int):=
 (if (decide (v13≤v14))=true then ((gi v6.2.2 x0).bind fun v15=>((gi v6.2.2 x0).bind fun v16=>((gi v6.2.2 v14).bind fun v17=>((gi v6.2.2 v14).bind fun v18=>((kau v16 v18).bind fun v19=>(if v19=true then (some (.inl (w64 (v14-1)))) else (some (.inr v14)))))))) else (some (.inr v14)))
def kds (x0:Int) (v6:(Int×kai)):Option ((Int×kai)⊕kai):=
 ((iter (kdn x0 v6) v6.1).bind fun v13=>((iter (kdu x0 v6 v13) v6.2.1).bind fun v20=>(if (decide (v20<v13))=true then (some (.inr (v13,v6.2.2))) else ((gi v6.2.2 v20).bind fun v21=>((gi v6.2.2 v20).bind fun v22=>((gi v6.2.2 v13).bind fun v23=>((gi v6.2.2 v13).bind fun v24=>((gi v6.2.2 v13).bind fun v25=>((gi (lset v6.2.2 v13 v22) v20).bind fun v26=>(some (.inl ((w64 (v13+1)),(w64 (v20-1)),(lset (lset v6.2.2 v13 v22) v20 v24)))))))))))))
def kbF (x0:Int) (x1:Int) (x2:Int) (x3:(List Int)):Option kai:=
 ((gi x3 x2).bind fun v0=>((gi x3 x2).bind fun v1=>((gi x3 x0).bind fun v2=>((gi x3 x0).bind fun v3=>((gi x3 x0).bind fun v4=>((gi (lset x3 x0 v1) x2).bind fun v5=>((iter (kds x0) ((w64 (x0+1)),(w64 (x1-1)),(lset (lset x3 x0 v1) x2 v3))).bind fun v27=>(some v27))))))))
def kev (x0:Int) (x1:Int) (x2:Int) (x3:(List Int)) (v1:Int) (v3:Int) (v6:Int):Option (Int⊕Int):=
 (if (decide (v6≤(w64 (x1-1))))=true then ((gi (lset (lset x3 x0 v1) x2 v3) v6).bind fun v7=>((gi (lset (lset x3 x0 v1) x2 v3) v6).bind fun v8=>((gi (lset (lset x3 x0 v1) x2 v3) x0).bind fun v9=>((gi (lset (lset x3 x0 v1) x2 v3) x0).bind fun v10=>((kau v8 v10).bind fun v11=>(if v11=true then (some (.inl (w64 (v6+1)))) else (some (.inr v6)))))))) else (some (.inr v6)))
def kep (x0:Int) (x2:Int) (x3:(List Int)) (v1:Int) (v3:Int) (v12:Int) (v13:Int):Option (Int⊕Int):=
 (if (decide (v12≤v13))=true then ((gi (lset (lset x3 x0 v1) x2 v3) v13).bind fun v14=>((gi (lset (lset x3 x0 v1) x2 v3) v13).bind fun v15=>((gi (lset (lset x3 x0 v1) x2 v3) x0).bind fun v16=>((gi (lset (lset x3 x0 v1) x2 v3) x0).bind fun v17=>((kau v15 v17).bind fun v18=>(if (!v18)=true then (some (.inl (w64 (v13-1)))) else (some (.inr v13)))))))) else (some (.inr v13)))
def kes (x0:Int) (v32:(Int×kai)) (v33:Int):Option (Int⊕Int):=
 (if (decide (v33≤v32.2.1))=true then ((gi v32.2.2 v33).bind fun v34=>((gi v32.2.2 v33).bind fun v35=>((gi v32.2.2 x0).bind fun v36=>((gi v32.2.2 x0).bind fun v37=>((kau v35 v37).bind fun v38=>(if v38=true then (some (.inl (w64 (v33+1)))) else (some (.inr v33)))))))) else (some (.inr v33)))
def kem (x0:Int) (v32:(Int×kai)) (v39:Int) (v40:Int):Option (Int⊕Int):=
 (if (decide (v39≤v40))=true then ((gi v32.2.2 v40).bind fun v41=>((gi v32.2.2 v40).bind fun v42=>((gi v32.2.2 x0).bind fun v43=>((gi v32.2.2 x0).bind fun v44=>((kau v42 v44).bind fun v45=>(if (!v45)=true then (some (.inl (w64 (v40-1)))) else (some (.inr v40)))))))) else (some (.inr v40)))
def keo (x0:Int) (v32:(Int×kai)):Option ((Int×kai)⊕kai):=
 ((iter (kes x0 v32) v32.1).bind fun v39=>((iter (kem x0 v32 v39) v32.2.1).bind fun v46=>(if (decide (v46<v39))=true then (some (.inr (v46,v32.2.2))) else ((gi v32.2.2 v46).bind fun v47=>((gi v32.2.2 v46).bind fun v48=>((gi v32.2.2 v39).bind fun v49=>((gi v32.2.2 v39).bind fun v50=>((gi v32.2.2 v39).bind fun v51=>((gi (lset v32.2.2 v39 v48) v46).bind fun v52=>(some (.inl ((w64 (v39+1)),(w64 (v46-1)),(lset (lset v32.2.2 v39 v48) v46 v50)))))))))))))
def kct (x0:Int) (x1:Int) (x2:Int) (x3:(List Int)):Option (Int×Bool×(List Int)):=
 ((gi x3 x2).bind fun v0=>((gi x3 x2).bind fun v1=>((gi x3 x0).bind fun v2=>((gi x3 x0).bind fun v3=>((gi x3 x0).bind fun v4=>((gi (lset x3 x0 v1) x2).bind fun v5=>((iter (kev x0 x1 x2 x3 v1 v3) (w64 (x0+1))).bind fun v12=>((iter (kep x0 x2 x3 v1 v3 v12) (w64 (x1-1))).bind fun v19=>(if (decide (v19<v12))=true then ((gi (lset (lset x3 x0 v1) x2 v3) x0).bind fun v20=>((gi (lset (lset x3 x0 v1) x2 v3) x0).bind fun v21=>((gi (lset (lset x3 x0 v1) x2 v3) v19).bind fun v22=>((gi (lset (lset x3 x0 v1) x2 v3) v19).bind fun v23=>((gi (lset (lset x3 x0 v1) x2 v3) v19).bind fun v24=>((gi (lset (lset (lset x3 x0 v1) x2 v3) v19 v21) x0).bind fun v25=>(some (v19,true,(lset (lset (lset (lset x3 x0 v1) x2 v3) v19 v21) x0 v23))))))))) else ((gi (lset (lset x3 x0 v1) x2 v3) v19).bind fun v26=>((gi (lset (lset x3 x0 v1) x2 v3) v19).bind fun v27=>((gi (lset (lset x3 x0 v1) x2 v3) v12).bind fun v28=>((gi (lset (lset x3 x0 v1) x2 v3) v12).bind fun v29=>((gi (lset (lset x3 x0 v1) x2 v3) v12).bind fun v30=>((gi (lset (lset (lset x3 x0 v1) x2 v3) v12 v27) v19).bind fun v31=>((iter (keo x0) ((w64 (v12+1)),(w64 (v19-1)),(lset (lset (lset (lset x3 x0 v1) x2 v3) v12 v27) v19 v29))).bind fun v53=>((gi v53.2 x0).bind fun v54=>((gi v53.2 x0).bind fun v55=>((gi v53.2 v53.1).bind fun v56=>((gi v53.2 v53.1).bind fun v57=>((gi v53.2 v53.1).bind fun v58=>((gi (lset v53.2 v53.1 v55) x0).bind fun v59=>(some (v53.1,false,(lset (lset v53.2 v53.1 v55) x0 v57)))))))))))))))))))))))))
def kcj (rec_slices_pdqsortOrdered_int_m15:Int→Int→Int→(List Int)→Option (List Int)) (v0:(Int×Int×Int×Bool×Bool×(List Int))):Option ((Int×Int×Int×Bool×Bool×(List Int))⊕((List Int)⊕(List Int))):=
 (if (decide ((w64 (v0.1-v0.2.1))≤12))=true then ((kaK v0.2.1 v0.1 v0.2.2.2.2.2).bind fun v1=>(some (.inr (.inl v1)))) else (if (v0.2.2.1==0)=true then ((kcO v0.2.1 v0.1 v0.2.2.2.2.2).bind fun v2=>(some (.inr (.inl v2)))) else ((if (!v0.2.2.2.1)=true then ((kbM v0.2.1 v0.1 v0.2.2.2.2.2).bind fun v3=>(some ((w64 (v0.2.2.1-1)),v3))) else (some (v0.2.2.1,v0.2.2.2.2.2))).bind fun v4=>((kcM v4.2 v0.2.1 v0.1).bind fun v5=>((if (v5.2==2)=true then ((kbV v0.2.1 v0.1 v4.2).bind fun v6=>(some (1,(w64 ((w64 (v0.1-1))-(w64 (v5.1-v0.2.1)))),v6))) else (some (v5.2,v5.1,v4.2))).bind fun v7=>((if v0.2.2.2.1=true then (if v0.2.2.2.2.1=true then (some (v7.1==1)) else (some false)) else (some false)).bind fun v8=>(((if v8=true then ((kbk v0.2.1 v0.1 v7.2.2).bind fun v9=>(if v9.1=true then (some (.inl v9.2)) else (some (.inr v9.2)))) else (some (.inr v7.2.2))):Option ((List Int)⊕(List Int))).bind fun v10=>(match v10 with | .inl v11=>(some (.inr (.inl v11))) | .inr v12=>((if (decide (0<v0.2.1))=true then ((gi v12 (w64 (v0.2.1-1))).bind fun v13=>((gi v12 (w64 (v0.2.1-1))).bind fun v14=>((gi v12 v7.2.1).bind fun v15=>((gi v12 v7.2.1).bind fun v16=>((kau v14 v16).bind fun v17=>(some (!v17))))))) else (some false)).bind fun v18=>(if v18=true then ((kbF v0.2.1 v0.1 v7.2.1 v12).bind fun v19=>(some (.inl (v0.1,v19.1,v4.1,v0.2.2.2.1,v0.2.2.2.2.1,v19.2)))) else ((kct v0.2.1 v0.1 v7.2.1 v12).bind fun v20=>((gquo .i64 (w64 (v0.1-v0.2.1)) 8).bind fun v21=>(if (decide ((w64 (v20.1-v0.2.1))<(w64 (v0.1-v20.1))))=true then ((rec_slices_pdqsortOrdered_int_m15 v0.2.1 v20.1 v4.1 v20.2.2).bind fun v22=>(some (.inl (v0.1,(w64 (v20.1+1)),v4.1,(decide (v21≤(w64 (v20.1-v0.2.1)))),v20.2.1,v22)))) else ((rec_slices_pdqsortOrdered_int_m15 (w64 (v20.1+1)) v0.1 v4.1 v20.2.2).bind fun v23=>(some (.inl (v20.1,v0.2.1,v4.1,(decide (v21≤(w64 (v0.1-v20.1)))),v20.2.1,v23)))))))))))))))))
def kcr (rec_slices_pdqsortOrdered_int_m15:Int→Int→Int→(List Int)→Option (List Int)) (x0:Int) (x1:Int) (x2:Int) (x3:(List Int)):Option (List Int):=
 ((iter (kcj rec_slices_pdqsortOrdered_int_m15) (x1,x0,x2,true,true,x3)).bind fun v24=>(match v24 with | .inl v25=>(some v25) | .inr v26=>(some v26)))
def kaR:Nat→Int→Int→Int→(List Int)→Option (List Int)
 | 0,_,_,_,_=>none
 | k+1,x0,x1,x2,x3=>kcr (kaR k) x0 x1 x2 x3
def kaW (x0:Int) (x1:Int) (x2:Int) (x3:(List Int)):Option (List Int):=kaR 1000000 x0 x1 x2 x3
def kbY (x0:(List Int)):Option (List Int):=
 ((keN (IntKind.wrap .u64 (lenI x0))).bind fun v0=>((kaW 0 (lenI x0) v0 x0).bind fun v1=>(some v1)))
def kbN (x0:(List Int)):Option (List Int):=
 ((kbP x0).bind fun v0=>((kbY v0).bind fun v1=>(some v1)))
def kgc (v1:(List Int)) (v2:Int):Option (Int⊕(Bool⊕Unit)):=
 (if (decide (v2<(lenI v1)))=true then ((gi v1 v2).bind fun v3=>((gi v1 v2).bind fun v4=>(if (v4 != v2)=true then (some (.inr (.inl false))) else (some (.inl (w64 (v2+1))))))) else (some (.inr (.inr ()))))
def kfY (x0:(List Int)) (x1:Int):Option Bool:=
 ((kbS x0).bind fun v0=>((kbN v0).bind fun v1=>((iter (kgc v1) 0).bind fun v5=>(match v5 with | .inl v6=>(some v6) | .inr v7=>(some ((lenI x0)==x1))))))
def kef (x0:(List Int)) (x1:Int):Option Bool:=
 ((kfY x0 x1).bind fun v0=>(some (!v0)))
def kaM (x0:(List (List Int))) (x1:((List Int)→Option Bool)) (v0:Int):Option (Int⊕(Int⊕Unit)):=
 (if (decide (v0<(lenI x0)))=true then ((gi x0 v0).bind fun v1=>((x1 v1).bind fun v2=>(if v2=true then (some (.inr (.inl v0))) else (some (.inl (w64 (v0+1))))))) else (some (.inr (.inr ()))))
def kbt (x0:(List (List Int))) (x1:((List Int)→Option Bool)):Option Int:=
 ((iter (kaM x0 x1) 0).bind fun v3=>(match v3 with | .inl v4=>(some v4) | .inr v5=>(some (-1))))
def kbg (x0:(List (List Int))) (x1:((List Int)→Option Bool)):Option Bool:=
 ((kbt x0 x1).bind fun v0=>(some (decide (0≤v0))))
def keG (x0:(List (List Int))):Option Bool:=
 ((kiH 1 8 (lenI x0)).bind fun v0=>(if v0=true then ((kbg x0 (fun (u0:(List Int))=>((kef u0 (lenI x0)).bind fun u1=>(some u1)))).bind fun v1=>(some (!v1))) else (some false)))
def klH (x0:Int) (x1:Int):Option (Int×Int):=
 ((gshr .u64 (IntKind.wrap .u64 ((IntKind.wrap .u64 x0)*(IntKind.wrap .u64 x1))) 32).bind fun v0=>(some ((IntKind.wrap .u32 v0),(IntKind.wrap .u32 (IntKind.wrap .u64 ((IntKind.wrap .u64 x0)*(IntKind.wrap .u64 x1)))))))
def khE (x0:Int) (x1:Int):Option (Int×Int):=
 ((gshr .u64 x0 32).bind fun v0=>((gshr .u64 x1 32).bind fun v1=>((gshr .u64 (IntKind.wrap .u64 ((bitsI .and .u64 x0 4294967295)*(bitsI .and .u64 x1 4294967295))) 32).bind fun v2=>((gshr .u64 (IntKind.wrap .u64 ((IntKind.wrap .u64 (v0*(bitsI .and .u64 x1 4294967295)))+v2)) 32).bind fun v3=>((gshr .u64 (IntKind.wrap .u64 ((bitsI .and .u64 (IntKind.wrap .u64 ((IntKind.wrap .u64 (v0*(bitsI .and .u64 x1 4294967295)))+v2)) 4294967295)+(IntKind.wrap .u64 ((bitsI .and .u64 x0 4294967295)*v1)))) 32).bind fun v4=>(some ((IntKind.wrap .u64 ((IntKind.wrap .u64 ((IntKind.wrap .u64 (v0*v1))+v3))+v4)),(IntKind.wrap .u64 (x0*x1)))))))))
def kgs (x0:Int) (x1:Int):Option (Int×Int):=
 ((khE x0 x1).bind fun v0=>(some v0))
def kgz (v5:kai):Option (kai⊕(List Int)):=
 (if (decide (v5.1<(lenI v5.2)))=true then ((gsl v5.2 v5.1 (lenI v5.2)).bind fun v6=>((gsl v5.2 0 v5.1).bind fun v7=>(some (.inl ((w64 (v5.1+(imin (lenI ((List.drop (Int.toNat 0) v5.2).take (Int.toNat (v5.1-0)))) ((lenI v5.2)-v5.1)))),(krw v5.2 (v5.1,((lenI v5.2)-v5.1)) ((List.drop (Int.toNat 0) v5.2).take (Int.toNat (v5.1-0))))))))) else (some (.inr v5.2)))
def khC (x0:(List Int)) (x1:Int):Option (List Int):=
 ((if (decide (x1<0))=true then none else (some ())).bind fun v0=>((kgs (IntKind.wrap .u64 (lenI x0)) (IntKind.wrap .u64 x1)).bind fun v1=>((if (decide (0<v1.1))=true then (some true) else (some (decide (9223372036854775807<v1.2)))).bind fun v2=>((if v2=true then none else (some ())).bind fun v3=>((gmk (w64 v1.2) 0).bind fun v4=>((iter (kgz) ((imin (lenI x0) (lenI v4)),(lcopy v4 0 (lenI v4) x0))).bind fun v8=>(some v8)))))))
def kcy (x0:Int) (x1:(List Int)):Option Bool:=
 ((gi x1 x0).bind fun v0=>(some (decide (v0<0))))
def kaV (x0:(List Int)) (x1:(Int→Option Bool)) (v0:Int):Option (Int⊕(Int⊕Unit)):=
 (if (decide (v0<(lenI x0)))=true then ((gi x0 v0).bind fun v1=>((x1 v1).bind fun v2=>(if v2=true then (some (.inr (.inl v0))) else (some (.inl (w64 (v0+1))))))) else (some (.inr (.inr ()))))
def kbR (x0:(List Int)) (x1:(Int→Option Bool)):Option Int:=
 ((iter (kaV x0 x1) 0).bind fun v3=>(match v3 with | .inl v4=>(some v4) | .inr v5=>(some (-1))))
def kaQ (x0:Int) (x1:(List (List Int))) (x2:(List Int)):Option Int:=
 ((gi x1 x0).bind fun v0=>((kbR v0 (fun (u0:Int)=>((kcy u0 x2).bind fun u1=>(some u1)))).bind fun v1=>((gi x1 x0).bind fun v2=>((gi v2 v1).bind fun v3=>(some v3)))))
def kfu (v5:kai):Option (kai⊕(List Int)):=
 (if (decide (v5.1<(lenI v5.2)))=true then ((gsl v5.2 v5.1 (lenI v5.2)).bind fun v6=>((gsl v5.2 0 v5.1).bind fun v7=>(some (.inl ((w64 (v5.1+(imin (lenI ((List.drop (Int.toNat 0) v5.2).take (Int.toNat (v5.1-0)))) ((lenI v5.2)-v5.1)))),(krw v5.2 (v5.1,((lenI v5.2)-v5.1)) ((List.drop (Int.toNat 0) v5.2).take (Int.toNat (v5.1-0))))))))) else (some (.inr v5.2)))
def kbG (x0:(List Int)) (x1:Int):Option (List Int):=
 ((if (decide (x1<0))=true then none else (some ())).bind fun v0=>((kgs (IntKind.wrap .u64 (lenI x0)) (IntKind.wrap .u64 x1)).bind fun v1=>((if (decide (0<v1.1))=true then (some true) else (some (decide (9223372036854775807<v1.2)))).bind fun v2=>((if v2=true then none else (some ())).bind fun v3=>((gmk (w64 v1.2) 0).bind fun v4=>((iter (kfu) ((imin (lenI x0) (lenI v4)),(lcopy v4 0 (lenI v4) x0))).bind fun v8=>(some v8)))))))
def kdV (x0:(List (List Int))) (v3:(List Int)) (v6:(Int×Int)):Option ((Int×Int)⊕Int):=
 (if (decide (v6.1<(lenI x0)))=true then ((kaQ v6.2 x0 v3).bind fun v7=>(some (.inl ((w64 (v6.1+1)),v7)))) else (some (.inr v6.2)))
def keb (x0:(List (List Int))) (v3:(List Int)) (v8:Int) (v10:kai):Option (kai⊕(List Int)):=
 (if (v10.1 != v8)=true then ((gapp v10.2 [v10.1]).bind fun v11=>((kaQ v10.1 x0 v3).bind fun v12=>(some (.inl (v12,v11))))) else (some (.inr v10.2)))
def kdX (x0:(List (List Int))) (v3:(List Int)) (v13:(List Int)) (v14:kai):Option (kai⊕(List Int)):=
 (if (decide (v14.1<(lenI v13)))=true then ((gi v13 v14.1).bind fun v15=>((gi v13 v14.1).bind fun v16=>((kaQ v16 x0 v3).bind fun v17=>((gapp v14.2 [v17]).bind fun v18=>(some (.inl ((w64 (v14.1+1)),v18))))))) else (some (.inr v14.2)))
def kdK (v13:(List Int)) (v19:(List Int)) (v20:kai):Option (kai⊕(List Int)):=
 (if (decide (v20.1<(lenI v13)))=true then ((gi v13 v20.1).bind fun v21=>((gi v13 v20.1).bind fun v22=>((gi v19 v20.1).bind fun v23=>((gi v19 v20.1).bind fun v24=>((gi v20.2 v22).bind fun v25=>(some (.inl ((w64 (v20.1+1)),(lset v20.2 v22 v24))))))))) else (some (.inr v20.2)))
def kcX (x0:(List (List Int))) (v2:kai) (v3:(List Int)):Option ((List Int)⊕(List Int)):=
 ((gi v3 v2.1).bind fun v4=>((gi v3 v2.1).bind fun v5=>(if (decide (v5<0))=true then ((iter (kdV x0 v3) (0,v2.1)).bind fun v8=>((kaQ v8 x0 v3).bind fun v9=>((iter (keb x0 v3 v8) (v9,[v8])).bind fun v13=>((iter (kdX x0 v3 v13) (0,[])).bind fun v19=>((iter (kdK v13 v19) (0,v3)).bind fun v26=>(some (.inl v26))))))) else (some (.inr v3)))))
def kfw (x0:(List (List Int))) (v2:kai):Option (kai⊕(List Int)):=
 (if (decide (v2.1<(lenI x0)))=true then ((iter (kcX x0 v2) v2.2).bind fun v27=>(some (.inl ((w64 (v2.1+1)),v27)))) else (some (.inr v2.2)))
def kfd (x0:(List (List Int))):Option ((List Int)×Int):=
 ((keG x0).bind fun v0=>(if (!v0)=true then (some ([],2)) else ((kbG [(-1)] (lenI x0)).bind fun v1=>((iter (kfw x0) (0,v1)).bind fun v28=>(some (v28,0))))))
def kfs (x0:Int) (x1:Int) (x2:Int):Option Bool:=
 (if (decide (x1≤x0))=true then (some (decide (x0≤x2))) else (some false))
def kcc (x0:(List Int)) (x1:Int) (v1:(Int×(List Bool))):Option ((Int×(List Bool))⊕(Bool⊕Unit)):=
 (if (decide (v1.1<x1))=true then ((gi x0 v1.1).bind fun v2=>((kfs v2 0 (w64 (x1-1))).bind fun v3=>(if (!v3)=true then (some (.inr (.inl false))) else ((gi x0 v1.1).bind fun v4=>((gi v1.2 v4).bind fun v5=>((gi v1.2 v4).bind fun v6=>(if v6=true then (some (.inr (.inl false))) else ((gi x0 v1.1).bind fun v7=>((gi v1.2 v7).bind fun v8=>(some (.inl ((w64 (v1.1+1)),(lset v1.2 v7 true))))))))))))) else (some (.inr (.inr ()))))
def kcK (x0:(List Int)) (x1:Int):Option Bool:=
 (if ((lenI x0) != x1)=true then (some false) else ((gmk x1 false).bind fun v0=>((iter (kcc x0 x1) (0,v0)).bind fun v9=>(match v9 with | .inl v10=>(some v10) | .inr v11=>(some true)))))
def kdD (x0:(List (List Int))) (v0:Int):Option (Int⊕(Bool⊕Unit)):=
 (if (decide (v0<(lenI x0)))=true then ((gi x0 v0).bind fun v1=>((kcK v1 (lenI x0)).bind fun v2=>(if (!v2)=true then (some (.inr (.inl false))) else (some (.inl (w64 (v0+1))))))) else (some (.inr (.inr ()))))
def kdL (x0:(List (List Int))):Option Bool:=
 (if (decide ((lenI x0)<1))=true then (some false) else (if (decide (8<(lenI x0)))=true then (some false) else ((iter (kdD x0) 0).bind fun v3=>(match v3 with | .inl v4=>(some v4) | .inr v5=>(some true)))))
def kcY (x0:(List (List Int))) (v3:(Int×(List Bool)×(List Int))) (v5:kai) (v6:Int):Option (Int⊕Int):=
 ((gi x0 v5.1).bind fun v7=>((gi v7 v6).bind fun v8=>((gi v3.2.1 v8).bind fun v9=>((gi v3.2.1 v8).bind fun v10=>(if v10=true then (if (decide (v6<(w64 ((lenI x0)-1))))=true then (some (.inl (w64 (v6+1)))) else (some (.inr v6))) else (some (.inr v6)))))))
def kcV (x0:(List (List Int))) (v3:(Int×(List Bool)×(List Int))) (v5:kai):Option (kai⊕(List Int)):=
 (if (decide (v5.1<(lenI x0)))=true then ((iter (kcY x0 v3 v5) 0).bind fun v11=>((gi x0 v5.1).bind fun v12=>((gi v12 v11).bind fun v13=>((gi v5.2 v5.1).bind fun v14=>(some (.inl ((w64 (v5.1+1)),(lset v5.2 v5.1 v13)))))))) else (some (.inr v5.2)))
def kbA (x0:(List (List Int))) (v3:(Int×(List Bool)×(List Int))) (v15:(List Int)) (v17:(Int×(List Bool))) (v18:(Int×Int×(List Bool))):Option ((Int×Int×(List Bool))⊕(List Bool)):=
 (if (decide (v18.1<(lenI x0)))=true then ((gi v3.2.1 v17.1).bind fun v19=>((gi v3.2.1 v17.1).bind fun v20=>(if (!v20)=true then ((gi v15 v18.2.1).bind fun v21=>((gi v15 v18.2.1).bind fun v22=>((gi v18.2.2 v17.1).bind fun v23=>((gi v18.2.2 v17.1).bind fun v24=>(if v24=true then ((gi v18.2.2 v17.1).bind fun v25=>(some (.inl ((w64 (v18.1+1)),v22,(lset v18.2.2 v17.1 true))))) else ((gi v18.2.2 v17.1).bind fun v26=>(some (.inl ((w64 (v18.1+1)),v22,(lset v18.2.2 v17.1 (v22==v17.1))))))))))) else (some (.inr v18.2.2))))) else (some (.inr v18.2.2)))
def kda (x0:(List (List Int))) (v3:(Int×(List Bool)×(List Int))) (v15:(List Int)) (v17:(Int×(List Bool))):Option ((Int×(List Bool))⊕(List Bool)):=
 (if (decide (v17.1<(lenI x0)))=true then ((iter (kbA x0 v3 v15 v17) (0,v17)).bind fun v27=>(some (.inl ((w64 (v17.1+1)),v27)))) else (some (.inr v17.2)))
def kce (x0:(List (List Int))) (v15:(List Int)) (v28:(List Bool)) (v29:(Int×Int×(List Int)×(List Bool))):Option ((Int×Int×(List Int)×(List Bool))⊕(Int×(List Bool)×(List Int))):=
 (if (decide (v29.1<(lenI x0)))=true then ((gi v28 v29.1).bind fun v30=>((gi v28 v29.1).bind fun v31=>(if v31=true then ((gi v15 v29.1).bind fun v32=>((gi v15 v29.1).bind fun v33=>((gi v29.2.2.1 v29.1).bind fun v34=>((gi v29.2.2.2 v29.1).bind fun v35=>(some (.inl ((w64 (v29.1+1)),(w64 (v29.2.1-1)),(lset v29.2.2.1 v29.1 v33),(lset v29.2.2.2 v29.1 true)))))))) else (some (.inl ((w64 (v29.1+1)),v29.2)))))) else (some (.inr (v29.2.1,v29.2.2.2,v29.2.2.1))))
def kcW (x0:(List (List Int))) (v3:(Int×(List Bool)×(List Int))):Option ((Int×(List Bool)×(List Int))⊕(List Int)):=
 (if (decide (0<v3.1))=true then ((gmk (lenI x0) 0).bind fun v4=>((iter (kcV x0 v3) (0,v4)).bind fun v15=>((gmk (lenI x0) false).bind fun v16=>((iter (kda x0 v3 v15) (0,v16)).bind fun v28=>((iter (kce x0 v15 v28) (0,v3.1,v3.2.2,v3.2.1)).bind fun v36=>(some (.inl v36))))))) else (some (.inr v3.2.2)))
def kdx (x0:(List (List Int))):Option ((List Int)×Int):=
 ((kdL x0).bind fun v0=>(if (!v0)=true then (some ([],2)) else ((gmk (lenI x0) 0).bind fun v1=>((gmk (lenI x0) false).bind fun v2=>((iter (kcW x0) ((lenI x0),v2,v1)).bind fun v37=>(some (v37,0)))))))
def kbX (rec_box_Better_c1_m19:Int→Int→Bool→Int→Int→(List (List Int))→(List Int)→Option (Bool×Int×Int×(List (List Int))×(List Int))) (x0:Int) (x1:Int) (x2:Bool) (v2:(List Int)) (v3:(Int×(List Int)×Int×Int×(List (List Int)))):Option ((Int×(List Int)×Int×Int×(List (List Int)))⊕((Bool×Int×Int×(List (List Int))×(List Int))⊕((List Int)×Int×Int×(List (List Int))))):=
 (if (decide (v3.1<(lenI v2)))=true then ((gi v2 v3.1).bind fun v4=>((gi v3.2.1 x0).bind fun v5=>((gshr .u8 x1 v4).bind fun v6=>(if ((bitsI .and .u8 v6 1)==1)=true then ((gshl .u8 1 v4).bind fun v7=>(if x2=true then ((rec_box_Better_c1_m19 (w64 (x0+1)) (bitsI .andNot .u8 x1 v7) true v3.2.2.1 v3.2.2.2.1 v3.2.2.2.2 v3.2.1).bind fun v8=>(if v8.1=true then (some (.inr (.inl (true,v8.2)))) else (if (v4==v5)=true then (some (.inr (.inl (false,v8.2)))) else (some (.inl ((w64 (v3.1+1)),v8.2.2.2.2,v8.2.1,v8.2.2.1,v8.2.2.2.1)))))) else ((rec_box_Better_c1_m19 (w64 (x0+1)) (bitsI .andNot .u8 x1 v7) (!(v4==v5)) v3.2.2.1 v3.2.2.2.1 v3.2.2.2.2 v3.2.1).bind fun v9=>(if v9.1=true then (some (.inr (.inl (true,v9.2)))) else (if (v4==v5)=true then (some (.inr (.inl (false,v9.2)))) else (some (.inl ((w64 (v3.1+1)),v9.2.2.2.2,v9.2.1,v9.2.2.1,v9.2.2.2.1)))))))) else (if (v4==v5)=true then (some (.inr (.inl (false,v3.2.2.1,v3.2.2.2.1,v3.2.2.2.2,v3.2.1)))) else (some (.inl ((w64 (v3.1+1)),v3.2)))))))) else (some (.inr (.inr v3.2))))
def kdC (rec_box_Better_c1_m19:Int→Int→Bool→Int→Int→(List (List Int))→(List Int)→Option (Bool×Int×Int×(List (List Int))×(List Int))) (x0:Int) (x1:Int) (x2:Bool) (x3:Int) (x4:Int) (x5:(List (List Int))) (x6:(List Int)):Option (Bool×Int×Int×(List (List Int))×(List Int)):=
 (if (x0==x3)=true then (some (x2,x3,x4,x5,x6)) else ((gshr .u8 x4 x0).bind fun v0=>(if ((bitsI .and .u8 v0 1)==0)=true then ((rec_box_Better_c1_m19 (w64 (x0+1)) x1 x2 x3 x4 x5 x6).bind fun v1=>(some v1)) else ((gi x5 x0).bind fun v2=>((iter (kbX rec_box_Better_c1_m19 x0 x1 x2 v2) (0,x6,x3,x4,x5)).bind fun v10=>(match v10 with | .inl v11=>(some v11) | .inr v12=>(some (false,v12.2.1,v12.2.2.1,v12.2.2.2,v12.1))))))))
def kaD:Nat→Int→Int→Bool→Int→Int→(List (List Int))→(List Int)→Option (Bool×Int×Int×(List (List Int))×(List Int))
 | 0,_,_,_,_,_,_,_=>none
 | k+1,x0,x1,x2,x3,x4,x5,x6=>kdC (kaD k) x0 x1 x2 x3 x4 x5 x6
def keu (x0:Int) (x1:Int) (x2:Bool) (x3:Int) (x4:Int) (x5:(List (List Int))) (x6:(List Int)):Option (Bool×Int×Int×(List (List Int))×(List Int)):=kaD 1000000 x0 x1 x2 x3 x4 x5 x6
def kgI (x0:(List (List Int))) (x1:(List Int)) (x2:Int):Option (Bool×Int):=
 ((keG x0).bind fun v0=>(if (!v0)=true then (some (false,2)) else ((kfY x1 (lenI x0)).bind fun v1=>(if (!v1)=true then (some (false,8)) else (if (x2==0)=true then (some (false,2)) else ((gshl .i64 1 (lenI x0)).bind fun v2=>(if (decide (v2≤(w64 x2)))=true then (some (false,2)) else ((keu 0 x2 false (lenI x0) x2 x0 x1).bind fun v3=>(some (v3.1,0))))))))))
def kcz (x0:(List Int)) (x1:Int) (v0:Int):Option (Int⊕(Int⊕Unit)):=
 (if (decide (v0<(lenI x0)))=true then ((gi x0 v0).bind fun v1=>(if (v1==x1)=true then (some (.inr (.inl v0))) else (some (.inl (w64 (v0+1)))))) else (some (.inr (.inr ()))))
def kcl (x0:(List Int)) (x1:Int):Option Int:=
 ((iter (kcz x0 x1) 0).bind fun v2=>(match v2 with | .inl v3=>(some v3) | .inr v4=>(some (lenI x0))))
def kcg (x0:(List (List Int))) (x2:Int) (v0:Int):Option (Int⊕Int):=
 (if (decide (v0<(lenI x0)))=true then ((gshr .u8 x2 (IntKind.wrap .u64 v0)).bind fun v1=>((grem v1 2).bind fun v2=>(if (v2==0)=true then (some (.inl (w64 (v0+1)))) else (some (.inr v0))))) else (some (.inr v0)))
def kcT (rec_ref08_deals:(List (List Int))→(List Int)→Int→Int→Int→Bool→Option Bool) (x0:(List (List Int))) (x1:(List Int)) (x2:Int) (x4:Int) (x5:Bool) (v3:Int) (v4:Int):Option (Int⊕(Bool⊕Unit)):=
 (if (decide (v4<(lenI x0)))=true then ((gi x0 v3).bind fun v5=>((kcl v5 v4).bind fun v6=>((gi x0 v3).bind fun v7=>((gi x1 v3).bind fun v8=>((kcl v7 v8).bind fun v9=>((gshr .u8 x4 (IntKind.wrap .u64 v4)).bind fun v10=>((grem v10 2).bind fun v11=>(if (v11==1)=true then (if (decide (v6≤v9))=true then ((gshl .u8 1 (IntKind.wrap .u64 v4)).bind fun v12=>(if x5=true then ((rec_ref08_deals x0 x1 x2 (w64 (v3+1)) (bitsI .andNot .u8 x4 v12) true).bind fun v13=>(if v13=true then (some (.inr (.inl true))) else (some (.inl (w64 (v4+1)))))) else ((rec_ref08_deals x0 x1 x2 (w64 (v3+1)) (bitsI .andNot .u8 x4 v12) (decide (v6<v9))).bind fun v14=>(if v14=true then (some (.inr (.inl true))) else (some (.inl (w64 (v4+1)))))))) else (some (.inl (w64 (v4+1))))) else (some (.inl (w64 (v4+1)))))))))))) else (some (.inr (.inr ()))))
def kjb (rec_ref08_deals:(List (List Int))→(List Int)→Int→Int→Int→Bool→Option Bool) (x0:(List (List Int))) (x1:(List Int)) (x2:Int) (x3:Int) (x4:Int) (x5:Bool):Option Bool:=
 ((iter (kcg x0 x2) x3).bind fun v3=>(if (v3==(lenI x0))=true then (some x5) else ((iter (kcT rec_ref08_deals x0 x1 x2 x4 x5 v3) 0).bind fun v15=>(match v15 with | .inl v16=>(some v16) | .inr v17=>(some false)))))
def kbQ:Nat→(List (List Int))→(List Int)→Int→Int→Int→Bool→Option Bool
 | 0,_,_,_,_,_,_=>none
 | k+1,x0,x1,x2,x3,x4,x5=>kjb (kbQ k) x0 x1 x2 x3 x4 x5
def khO (x0:(List (List Int))) (x1:(List Int)) (x2:Int) (x3:Int) (x4:Int) (x5:Bool):Option Bool:=kbQ 1000000 x0 x1 x2 x3 x4 x5
def kfC (x0:(List (List Int))) (x1:(List Int)) (x2:Int):Option (Bool×Int):=
 ((kdL x0).bind fun v0=>(if (!v0)=true then (some (false,2)) else ((kcK x1 (lenI x0)).bind fun v1=>(if (!v1)=true then (some (false,8)) else (if (x2==0)=true then (some (false,2)) else ((gshl .i64 1 (lenI x0)).bind fun v2=>(if (decide (v2≤(w64 x2)))=true then (some (false,2)) else ((khO x0 x1 x2 0 x2 false).bind fun v3=>(some (v3,0))))))))))
def kcR (x0:(List Int)) (x1:(List Int)) (v0:Int):Option (Int⊕(Bool⊕Unit)):=
 (if (decide (v0<(lenI x0)))=true then ((gi x0 v0).bind fun v1=>((gi x1 v0).bind fun v2=>(if (v1 != v2)=true then (some (.inr (.inl false))) else (some (.inl (w64 (v0+1))))))) else (some (.inr (.inr ()))))
def ked (x0:(List Int)) (x1:(List Int)):Option Bool:=
 (if ((lenI x0) != (lenI x1))=true then (some false) else ((iter (kcR x0 x1) 0).bind fun v3=>(match v3 with | .inl v4=>(some v4) | .inr v5=>(some true))))
def kfo (x0:(List (List Int))) (x1:(List Int)) (x2:Int):Option Bool:=
 ((kgL x0).bind fun v0=>(if v0=true then (some true) else (if (decide (12<(lenI x1)))=true then (some true) else ((kfd x0).bind fun v1=>((kdx x0).bind fun v2=>((kgI x0 x1 x2).bind fun v3=>((kfC x0 x1 x2).bind fun v4=>((ked v1.1 v2.1).bind fun v5=>(if v5=true then (if (v1.2==v2.2)=true then (if (v3.1==v4.1)=true then (some (v3.2==v4.2)) else (some false)) else (some false)) else (some false))))))))))
end Go.Abs
set_option maxRecDepth 100000
namespace Go.Abs
open Go Go.Proofs
def kji:Ctr:=⟨ "",[(.sl (.sl (.i .i64)))],[.b],fun x=>kgL x,[],[]⟩
theorem klQ:Good Try.prog 23 kji:=
 kap Try.func23 (by kernel_rfl) (An:=[(0,⟨⟨[(7,.c (.i .i64))],[]⟩,⟨[],[]⟩,[6,5,0],[],0,true,""⟩)]) [] (.nil) (fun x=>by kernel_rfl)
def klT:Ctr:=⟨ "",[(.i .i64),(.i .i64),(.i .i64)],[.b],fun x=>kiH x.1 x.2.1 x.2.2,[],[]⟩
theorem knq:Good Try.prog 36 klT:=
 kap Try.func36 (by kernel_rfl) (An:=[]) [] (.nil) (fun x=>by kernel_rfl)
def kcU:CtrI:=⟨ "",[(.pt (.sl (.i .i64)))],[(.i .i64)],fun x=>runI fun o=>kaI o x⟩
theorem kfi:GoodI Try.prog 124 kcU:=
 krW Try.func124 (by kernel_rfl) (An:=[(0,⟨⟨[(7,.c (.i .i64)),(9000000,.gs (.i .i64))],[]⟩,⟨[(9000000,.gs (.i .i64))],[]⟩,[6,5],[],1,true,""⟩)]) [] (.nil) (fun x=>by kernel_rfl)
def kaA:Ctr:=⟨ "",[],[],fun _=>none,[],[kcU]⟩
theorem kaE:Good Try.prog 124 kaA:=good_dm.moreI kfi
def slices_Values_s_int_int_m0_M:CtrM:=⟨ "",[some (.sl (.i .i64))],⟨[],[]⟩,0,⟨[(1000000,.fn 124 [.ptr 0 0])],[(0,.bx 26 [.c (.sl (.i .i64))])]⟩,1,1,fun x=>kbS x,false⟩
theorem kfj:slices_Values_s_int_int_m0_M.ok=true∧GoodM Try.prog 107 slices_Values_s_int_int_m0_M:=
 kaL Try.func107 (by kernel_rfl) (An:=[]) [(124,kaA)] (.cons kaE <| .nil) (fun x=>by kernel_rfl)
def slices_Values_s_int_int_C:Ctr:=⟨ "",[],[],fun _=>none,[],[]⟩
theorem slices_Values_s_int_int_C_ok:Good Try.prog 107 slices_Values_s_int_int_C:=good_dm
def kdp:Ctr:=⟨ "",slices_Values_s_int_int_C.as,slices_Values_s_int_int_C.rs,slices_Values_s_int_int_C.F,slices_Values_s_int_int_m0_M::slices_Values_s_int_int_C.mus,slices_Values_s_int_int_C.its⟩
theorem kfJ:Good Try.prog 107 kdp:=(slices_Values_s_int_int_C_ok.more kfj)
def kgF:Ctr:=⟨ "",[(.i .u32)],[(.i .i64)],fun x=>klD x,[],[]⟩
theorem kiE:Good Try.prog 142 kgF:=
 kap Try.func142 (by kernel_rfl) (An:=[(17,⟨⟨[],[]⟩,⟨[(0,.c (.i .u32)),(2,.c (.i .i64))],[]⟩,[],[],0,false,""⟩)]) [] (.nil) (fun x=>by kernel_rfl)
def kgB:Ctr:=⟨ "",[(.i .u64)],[(.i .i64)],fun x=>khF x,[],[]⟩
theorem kiw:Good Try.prog 143 kgB:=
 kap Try.func143 (by kernel_rfl) (An:=[(17,⟨⟨[],[]⟩,⟨[(0,.c (.i .u64)),(2,.c (.i .i64))],[]⟩,[],[],0,false,""⟩),(33,⟨⟨[],[]⟩,⟨[(0,.c (.i .u64)),(2,.c (.i .i64))],[]⟩,[],[],0,false,""⟩)]) [] (.nil) (fun x=>by kernel_rfl)
def kfD:Ctr:=⟨ "",[(.i .u64)],[(.i .i64)],fun x=>keN x,[],[]⟩
theorem kgm:Good Try.prog 131 kfD:=
 kap Try.func131 (by kernel_rfl) (An:=[]) [(143,kgB),(142,kgF)] (.cons kiw <| .cons kiE <| .nil) (fun x=>by kernel_rfl)
def khL:Ctr:=⟨ "",[(.i .i64)],[.b],fun x=>keO x,[],[]⟩
theorem kjI:Good Try.prog 85 khL:=
 kap Try.func85 (by kernel_rfl) (An:=[]) [] (.nil) (fun x=>by kernel_rfl)
def kbp:Ctr:=⟨ "",[(.i .i64),(.i .i64)],[.b],fun x=>kau x.1 x.2,[],[]⟩
theorem kbc:Good Try.prog 139 kbp:=
 kap Try.func139 (by kernel_rfl) (An:=[]) [(85,khL)] (.cons kjI <| .nil) (fun x=>by kernel_rfl)
def kek:Ctr:=⟨ "",[(.i .i64)],[(.i .u64)],fun x=>kfh x,[],[]⟩
theorem kgq:Good Try.prog 145 kek:=
 kap Try.func145 (by kernel_rfl) (An:=[]) [(131,kfD)] (.cons kgm <| .nil) (fun x=>by kernel_rfl)
def slices_xorshift_Next_m1_M:CtrM:=⟨ "",[none],⟨[(0,.ptr 0 0)],[(0,.bx 208 [.c (.i .u64)])]⟩,1,⟨[(0,.ptr 0 0),(1000000,.c (.i .u64))],[(0,.bx 208 [.c (.i .u64)])]⟩,1,1,fun x=>kej x,false⟩
theorem kfU:slices_xorshift_Next_m1_M.ok=true∧GoodM Try.prog 146 slices_xorshift_Next_m1_M:=
 kaL Try.func146 (by kernel_rfl) (An:=[]) [] (.nil) (fun x=>by kernel_rfl)
def slices_xorshift_Next_C:Ctr:=⟨ "",[],[],fun _=>none,[],[]⟩
theorem slices_xorshift_Next_C_ok:Good Try.prog 146 slices_xorshift_Next_C:=good_dm
def kei:Ctr:=⟨ "",slices_xorshift_Next_C.as,slices_xorshift_Next_C.rs,slices_xorshift_Next_C.F,slices_xorshift_Next_m1_M::slices_xorshift_Next_C.mus,slices_xorshift_Next_C.its⟩
theorem kgx:Good Try.prog 146 kei:=(slices_xorshift_Next_C_ok.more kfU)
def slices_order2Ordered_int_m2_M:CtrM:=⟨ "",[some (.sl (.i .i64)),some (.i .i64),some (.i .i64),none],⟨[(3,.ptr 0 0)],[(0,.bx 3 [.c (.i .i64)])]⟩,1,⟨[(3,.ptr 0 0),(1000000,.c (.i .i64)),(1000001,.c (.i .i64))],[(0,.bx 3 [.c (.i .i64)])]⟩,1,2,fun x=>kbd x.1 x.2.1 x.2.2.1 x.2.2.2,false⟩
theorem keV:slices_order2Ordered_int_m2_M.ok=true∧GoodM Try.prog 149 slices_order2Ordered_int_m2_M:=
 kaL Try.func149 (by kernel_rfl) (An:=[]) [(139,kbp)] (.cons kbc <| .nil) (fun x=>by kernel_rfl)
def slices_order2Ordered_int_C:Ctr:=⟨ "",[],[],fun _=>none,[],[]⟩
theorem slices_order2Ordered_int_C_ok:Good Try.prog 149 slices_order2Ordered_int_C:=good_dm
def kdg:Ctr:=⟨ "",slices_order2Ordered_int_C.as,slices_order2Ordered_int_C.rs,slices_order2Ordered_int_C.F,slices_order2Ordered_int_m2_M::slices_order2Ordered_int_C.mus,slices_order2Ordered_int_C.its⟩
theorem kfm:Good Try.prog 149 kdg:=(slices_order2Ordered_int_C_ok.more keV)
def slices_medianOrdered_int_m3_M:CtrM:=⟨ "",[some (.sl (.i .i64)),some (.i .i64),some (.i .i64),some (.i .i64),none],⟨[(4,.ptr 0 0)],[(0,.bx 3 [.c (.i .i64)])]⟩,1,⟨[(4,.ptr 0 0),(1000000,.c (.i .i64))],[(0,.bx 3 [.c (.i .i64)])]⟩,1,1,fun x=>kbD x.1 x.2.1 x.2.2.1 x.2.2.2.1 x.2.2.2.2,false⟩
theorem keX:slices_medianOrdered_int_m3_M.ok=true∧GoodM Try.prog 148 slices_medianOrdered_int_m3_M:=
 kaL Try.func148 (by kernel_rfl) (An:=[]) [(149,kdg)] (.cons kfm <| .nil) (fun x=>by kernel_rfl)
def slices_medianOrdered_int_C:Ctr:=⟨ "",[],[],fun _=>none,[],[]⟩
theorem slices_medianOrdered_int_C_ok:Good Try.prog 148 slices_medianOrdered_int_C:=good_dm
def kbH:Ctr:=⟨ "",slices_medianOrdered_int_C.as,slices_medianOrdered_int_C.rs,slices_medianOrdered_int_C.F,slices_medianOrdered_int_m3_M::slices_medianOrdered_int_C.mus,slices_medianOrdered_int_C.its⟩
theorem kcI:Good Try.prog 148 kbH:=(slices_medianOrdered_int_C_ok.more keX)
def slices_medianAdjacentOrdered_int_m4_M:CtrM:=⟨ "",[some (.sl (.i .i64)),some (.i .i64),none],⟨[(2,.ptr 0 0)],[(0,.bx 3 [.c (.i .i64)])]⟩,1,⟨[(2,.ptr 0 0),(1000000,.c (.i .i64))],[(0,.bx 3 [.c (.i .i64)])]⟩,1,1,fun x=>kaH x.1 x.2.1 x.2.2,false⟩
theorem kdi:slices_medianAdjacentOrdered_int_m4_M.ok=true∧GoodM Try.prog 147 slices_medianAdjacentOrdered_int_m4_M:=
 kaL Try.func147 (by kernel_rfl) (An:=[]) [(148,kbH)] (.cons kcI <| .nil) (fun x=>by kernel_rfl)
def slices_medianAdjacentOrdered_int_C:Ctr:=⟨ "",[],[],fun _=>none,[],[]⟩
theorem slices_medianAdjacentOrdered_int_C_ok:Good Try.prog 147 slices_medianAdjacentOrdered_int_C:=good_dm
def kbK:Ctr:=⟨ "",slices_medianAdjacentOrdered_int_C.as,slices_medianAdjacentOrdered_int_C.rs,slices_medianAdjacentOrdered_int_C.F,slices_medianAdjacentOrdered_int_m4_M::slices_medianAdjacentOrdered_int_C.mus,slices_medianAdjacentOrdered_int_C.its⟩
theorem kdz:Good Try.prog 147 kbK:=(slices_medianAdjacentOrdered_int_C_ok.more kdi)
def kcs:Ctr:=⟨ "",[(.sl (.i .i64)),(.i .i64),(.i .i64)],[(.i .i64),(.i .i64)],fun x=>kcM x.1 x.2.1 x.2.2,[],[]⟩
theorem kew:Good Try.prog 136 kcs:=
 kap Try.func136 (by kernel_rfl) (An:=[(129,⟨⟨[(9,.ptr 0 0)],[(0,.bx 3 [.c (.i .i64)])]⟩,⟨[(9,.ptr 1 0),(11,.c (.i .i64))],[(1,.bx 3 [.c (.i .i64)])]⟩,[8,0],[],2,false,""⟩),(137,⟨⟨[(9,.ptr 0 0)],[(0,.bx 3 [.c (.i .i64)])]⟩,⟨[(10,.c (.i .i64)),(11,.c (.i .i64)),(12,.c (.i .i64)),(9,.ptr 1 0)],[(1,.bx 3 [.c (.i .i64)])]⟩,[],[],2,false,""⟩)]) [(147,kbK),(148,kbH)] (.cons kdz <| .cons kcI <| .nil) (fun x=>by kernel_rfl)
def slices_AppendSeq_s_int_int_m5_M:CtrM:=⟨ "",[none,none],⟨[(0,.mw 0),(1,.fn 124 [.ptr 1 0])],[(0,.sl 3 (.i .i64)),(1,.bx 26 [.c (.sl (.i .i64))])]⟩,2,⟨[(1000000,.mw 2)],[(2,.sl 3 (.i .i64))]⟩,3,1,fun x=>kbx x.1 x.2,false⟩
theorem ken:slices_AppendSeq_s_int_int_m5_M.ok=true∧GoodM Try.prog 129 slices_AppendSeq_s_int_int_m5_M:=
 kaL Try.func129 (by kernel_rfl) (An:=[(0,⟨⟨[],[(2,.bx 26 [.mw 0]),(0,.sl 3 (.i .i64))]⟩,⟨[],[(2,.bx 26 [.mw 5]),(5,.sl 3 (.i .i64))]⟩,[6,2],[],6,false,""⟩)]) [(124,kaA)] (.cons kaE <| .nil) (fun x=>by kernel_rfl)
def slices_AppendSeq_s_int_int_C:Ctr:=⟨ "",[],[],fun _=>none,[],[]⟩
theorem slices_AppendSeq_s_int_int_C_ok:Good Try.prog 129 slices_AppendSeq_s_int_int_C:=good_dm
def kcL:Ctr:=⟨ "",slices_AppendSeq_s_int_int_C.as,slices_AppendSeq_s_int_int_C.rs,slices_AppendSeq_s_int_int_C.F,slices_AppendSeq_s_int_int_m5_M::slices_AppendSeq_s_int_int_C.mus,slices_AppendSeq_s_int_int_C.its⟩
theorem kfa:Good Try.prog 129 kcL:=(slices_AppendSeq_s_int_int_C_ok.more ken)
def slices_Collect_int_m6_M:CtrM:=⟨ "",[none],⟨[(0,.fn 124 [.ptr 0 0])],[(0,.bx 26 [.c (.sl (.i .i64))])]⟩,1,⟨[(1000000,.mw 1)],[(1,.sl 3 (.i .i64))]⟩,2,1,fun x=>kbP x,false⟩
theorem kgu:slices_Collect_int_m6_M.ok=true∧GoodM Try.prog 122 slices_Collect_int_m6_M:=
 kaL Try.func122 (by kernel_rfl) (An:=[]) [(129,kcL),(124,kaA)] (.cons kfa <| .cons kaE <| .nil) (fun x=>by kernel_rfl)
def slices_Collect_int_C:Ctr:=⟨ "",[],[],fun _=>none,[],[]⟩
theorem slices_Collect_int_C_ok:Good Try.prog 122 slices_Collect_int_C:=good_dm
def kfb:Ctr:=⟨ "",slices_Collect_int_C.as,slices_Collect_int_C.rs,slices_Collect_int_C.F,slices_Collect_int_m6_M::slices_Collect_int_C.mus,slices_Collect_int_C.its⟩
theorem khi:Good Try.prog 122 kfb:=(slices_Collect_int_C_ok.more kgu)
def slices_insertionSortOrdered_int_m7_M:CtrM:=⟨ "",[none,some (.i .i64),some (.i .i64)],⟨[(0,.mw 0)],[(0,.sl 3 (.i .i64))]⟩,1,⟨[(0,.mw 0)],[(0,.sl 3 (.i .i64))]⟩,1,0,fun x=>kaK x.1 x.2.1 x.2.2,false⟩
theorem kdq:slices_insertionSortOrdered_int_m7_M.ok=true∧GoodM Try.prog 133 slices_insertionSortOrdered_int_m7_M:=
 kaL Try.func133 (by kernel_rfl) (An:=[(0,⟨⟨[(6,.c (.i .i64))],[(0,.sl 3 (.i .i64))]⟩,⟨[],[(0,.sl 3 (.i .i64))]⟩,[2,1],[],2,false,""⟩),(8,⟨⟨[(7,.c (.i .i64))],[(0,.sl 3 (.i .i64))]⟩,⟨[],[(0,.sl 3 (.i .i64))]⟩,[6],[],2,false,""⟩)]) [(139,kbp)] (.cons kbc <| .nil) (fun x=>by kernel_rfl)
def slices_insertionSortOrdered_int_C:Ctr:=⟨ "",[],[],fun _=>none,[],[]⟩
theorem slices_insertionSortOrdered_int_C_ok:Good Try.prog 133 slices_insertionSortOrdered_int_C:=good_dm
def kbT:Ctr:=⟨ "",slices_insertionSortOrdered_int_C.as,slices_insertionSortOrdered_int_C.rs,slices_insertionSortOrdered_int_C.F,slices_insertionSortOrdered_int_m7_M::slices_insertionSortOrdered_int_C.mus,slices_insertionSortOrdered_int_C.its⟩
theorem kdH:Good Try.prog 133 kbT:=(slices_insertionSortOrdered_int_C_ok.more kdq)
def slices_siftDownOrdered_int_m8_M:CtrM:=⟨ "",[none,some (.i .i64),some (.i .i64),some (.i .i64)],⟨[(0,.mw 0)],[(0,.sl 3 (.i .i64))]⟩,1,⟨[(0,.mw 0)],[(0,.sl 3 (.i .i64))]⟩,1,0,fun x=>kbw x.1 x.2.1 x.2.2.1 x.2.2.2,false⟩
theorem ket:slices_siftDownOrdered_int_m8_M.ok=true∧GoodM Try.prog 144 slices_siftDownOrdered_int_m8_M:=
 kaL Try.func144 (by kernel_rfl) (An:=[(0,⟨⟨[(8,.c (.i .i64))],[(0,.sl 3 (.i .i64))]⟩,⟨[],[(0,.sl 3 (.i .i64))]⟩,[2,3],[],2,true,""⟩),(14,⟨⟨[],[]⟩,⟨[(36,.c .b)],[]⟩,[9,8],[0],1,false,""⟩),(145,⟨⟨[],[]⟩,⟨[(9,.c (.i .i64))],[]⟩,[8],[0],1,false,""⟩)]) [(139,kbp)] (.cons kbc <| .nil) (fun x=>by kernel_rfl)
def slices_siftDownOrdered_int_C:Ctr:=⟨ "",[],[],fun _=>none,[],[]⟩
theorem slices_siftDownOrdered_int_C_ok:Good Try.prog 144 slices_siftDownOrdered_int_C:=good_dm
def kcP:Ctr:=⟨ "",slices_siftDownOrdered_int_C.as,slices_siftDownOrdered_int_C.rs,slices_siftDownOrdered_int_C.F,slices_siftDownOrdered_int_m8_M::slices_siftDownOrdered_int_C.mus,slices_siftDownOrdered_int_C.its⟩
theorem keS:Good Try.prog 144 kcP:=(slices_siftDownOrdered_int_C_ok.more ket)
def slices_heapSortOrdered_int_m9_M:CtrM:=⟨ "",[none,some (.i .i64),some (.i .i64)],⟨[(0,.mw 0)],[(0,.sl 3 (.i .i64))]⟩,1,⟨[(0,.mw 0)],[(0,.sl 3 (.i .i64))]⟩,1,0,fun x=>kcO x.1 x.2.1 x.2.2,false⟩
theorem kel:slices_heapSortOrdered_int_m9_M.ok=true∧GoodM Try.prog 134 slices_heapSortOrdered_int_m9_M:=
 kaL Try.func134 (by kernel_rfl) (An:=[(0,⟨⟨[(9,.c (.i .i64))],[(0,.sl 3 (.i .i64))]⟩,⟨[],[(0,.sl 3 (.i .i64))]⟩,[8,6,7],[],2,false,""⟩),(8,⟨⟨[(10,.c (.i .i64))],[(0,.sl 3 (.i .i64))]⟩,⟨[],[(0,.sl 3 (.i .i64))]⟩,[6,7],[],3,false,""⟩)]) [(144,kcP)] (.cons keS <| .nil) (fun x=>by kernel_rfl)
def slices_heapSortOrdered_int_C:Ctr:=⟨ "",[],[],fun _=>none,[],[]⟩
theorem slices_heapSortOrdered_int_C_ok:Good Try.prog 134 slices_heapSortOrdered_int_C:=good_dm
def kcQ:Ctr:=⟨ "",slices_heapSortOrdered_int_C.as,slices_heapSortOrdered_int_C.rs,slices_heapSortOrdered_int_C.F,slices_heapSortOrdered_int_m9_M::slices_heapSortOrdered_int_C.mus,slices_heapSortOrdered_int_C.its⟩
theorem keT:Good Try.prog 134 kcQ:=(slices_heapSortOrdered_int_C_ok.more kel)
def slices_breakPatternsOrdered_int_m10_M:CtrM:=⟨ "",[none,some (.i .i64),some (.i .i64)],⟨[(0,.mw 0)],[(0,.sl 3 (.i .i64))]⟩,1,⟨[(0,.mw 0)],[(0,.sl 3 (.i .i64))]⟩,1,0,fun x=>kbM x.1 x.2.1 x.2.2,false⟩
theorem kdl:slices_breakPatternsOrdered_int_m10_M.ok=true∧GoodM Try.prog 135 slices_breakPatternsOrdered_int_m10_M:=
 kaL Try.func135 (by kernel_rfl) (An:=[(0,⟨⟨[(9,.c (.i .i64)),(7,.ptr 1 0)],[(1,.bx 208 [.c (.i .u64)]),(0,.sl 3 (.i .i64))]⟩,⟨[],[(0,.sl 3 (.i .i64))]⟩,[1,6,8],[],3,false,""⟩),(173,⟨⟨[],[]⟩,⟨[(10,.c (.i .i64))],[]⟩,[9,7],[0,1],2,false,""⟩)]) [(146,kei),(145,kek)] (.cons kgx <| .cons kgq <| .nil) (fun x=>by kernel_rfl)
def slices_breakPatternsOrdered_int_C:Ctr:=⟨ "",[],[],fun _=>none,[],[]⟩
theorem slices_breakPatternsOrdered_int_C_ok:Good Try.prog 135 slices_breakPatternsOrdered_int_C:=good_dm
def kbL:Ctr:=⟨ "",slices_breakPatternsOrdered_int_C.as,slices_breakPatternsOrdered_int_C.rs,slices_breakPatternsOrdered_int_C.F,slices_breakPatternsOrdered_int_m10_M::slices_breakPatternsOrdered_int_C.mus,slices_breakPatternsOrdered_int_C.its⟩
theorem kdA:Good Try.prog 135 kbL:=(slices_breakPatternsOrdered_int_C_ok.more kdl)
def slices_reverseRangeOrdered_int_m11_M:CtrM:=⟨ "",[none,some (.i .i64),some (.i .i64)],⟨[(0,.mw 0)],[(0,.sl 3 (.i .i64))]⟩,1,⟨[(0,.mw 0)],[(0,.sl 3 (.i .i64))]⟩,1,0,fun x=>kbV x.1 x.2.1 x.2.2,false⟩
theorem kdr:slices_reverseRangeOrdered_int_m11_M.ok=true∧GoodM Try.prog 137 slices_reverseRangeOrdered_int_m11_M:=
 kaL Try.func137 (by kernel_rfl) (An:=[(0,⟨⟨[(6,.c (.i .i64)),(7,.c (.i .i64))],[(0,.sl 3 (.i .i64))]⟩,⟨[],[(0,.sl 3 (.i .i64))]⟩,[],[],2,false,""⟩)]) [] (.nil) (fun x=>by kernel_rfl)
def slices_reverseRangeOrdered_int_C:Ctr:=⟨ "",[],[],fun _=>none,[],[]⟩
theorem slices_reverseRangeOrdered_int_C_ok:Good Try.prog 137 slices_reverseRangeOrdered_int_C:=good_dm
def kbU:Ctr:=⟨ "",slices_reverseRangeOrdered_int_C.as,slices_reverseRangeOrdered_int_C.rs,slices_reverseRangeOrdered_int_C.F,slices_reverseRangeOrdered_int_m11_M::slices_reverseRangeOrdered_int_C.mus,slices_reverseRangeOrdered_int_C.its⟩
theorem kdG:Good Try.prog 137 kbU:=(slices_reverseRangeOrdered_int_C_ok.more kdr)
def slices_partialInsertionSortOrdered_int_m12_M:CtrM:=⟨ "",[none,some (.i .i64),some (.i .i64)],⟨[(0,.mw 0)],[(0,.sl 3 (.i .i64))]⟩,1,⟨[(0,.mw 0),(1000000,.c .b)],[(0,.sl 3 (.i .i64))]⟩,1,1,fun x=>kbk x.1 x.2.1 x.2.2,false⟩
theorem kcq:slices_partialInsertionSortOrdered_int_m12_M.ok=true∧GoodM Try.prog 138 slices_partialInsertionSortOrdered_int_m12_M:=
 kaL Try.func138 (by kernel_rfl) (An:=[(0,⟨⟨[(8,.c (.i .i64)),(7,.c (.i .i64))],[(0,.sl 3 (.i .i64))]⟩,⟨[],[(0,.sl 3 (.i .i64))]⟩,[2,1],[],2,true,""⟩),(8,⟨⟨[(7,.c (.i .i64))],[]⟩,⟨[(7,.c (.i .i64))],[]⟩,[8],[0],1,false,""⟩),(245,⟨⟨[],[(0,.sl 3 (.i .i64))]⟩,⟨[],[(0,.sl 3 (.i .i64))]⟩,[7,8],[],2,false,""⟩),(16,⟨⟨[(9,.c (.i .i64))],[(0,.sl 3 (.i .i64))]⟩,⟨[],[(0,.sl 3 (.i .i64))]⟩,[],[],2,false,""⟩),(24,⟨⟨[(10,.c (.i .i64))],[(0,.sl 3 (.i .i64))]⟩,⟨[],[(0,.sl 3 (.i .i64))]⟩,[8,7],[],3,false,""⟩)]) [(139,kbp)] (.cons kbc <| .nil) (fun x=>by kernel_rfl)
def slices_partialInsertionSortOrdered_int_C:Ctr:=⟨ "",[],[],fun _=>none,[],[]⟩
theorem slices_partialInsertionSortOrdered_int_C_ok:Good Try.prog 138 slices_partialInsertionSortOrdered_int_C:=good_dm
def kbq:Ctr:=⟨ "",slices_partialInsertionSortOrdered_int_C.as,slices_partialInsertionSortOrdered_int_C.rs,slices_partialInsertionSortOrdered_int_C.F,slices_partialInsertionSortOrdered_int_m12_M::slices_partialInsertionSortOrdered_int_C.mus,slices_partialInsertionSortOrdered_int_C.its⟩
theorem kcB:Good Try.prog 138 kbq:=(slices_partialInsertionSortOrdered_int_C_ok.more kcq)
def slices_partitionEqualOrdered_int_m13_M:CtrM:=⟨ "",[none,some (.i .i64),some (.i .i64),some (.i .i64)],⟨[(0,.mw 0)],[(0,.sl 3 (.i .i64))]⟩,1,⟨[(0,.mw 0),(1000000,.c (.i .i64))],[(0,.sl 3 (.i .i64))]⟩,1,1,fun x=>kbF x.1 x.2.1 x.2.2.1 x.2.2.2,false⟩
theorem kdc:slices_partitionEqualOrdered_int_m13_M.ok=true∧GoodM Try.prog 140 slices_partitionEqualOrdered_int_m13_M:=
 kaL Try.func140 (by kernel_rfl) (An:=[(0,⟨⟨[(9,.c (.i .i64)),(10,.c (.i .i64))],[(0,.sl 3 (.i .i64))]⟩,⟨[(9,.c (.i .i64))],[(0,.sl 3 (.i .i64))]⟩,[1],[],2,false,""⟩),(8,⟨⟨[(9,.c (.i .i64))],[]⟩,⟨[(9,.c (.i .i64))],[]⟩,[10],[0],1,false,""⟩),(16,⟨⟨[(10,.c (.i .i64))],[]⟩,⟨[(10,.c (.i .i64))],[]⟩,[9],[0],1,false,""⟩)]) [(139,kbp)] (.cons kbc <| .nil) (fun x=>by kernel_rfl)
def slices_partitionEqualOrdered_int_C:Ctr:=⟨ "",[],[],fun _=>none,[],[]⟩
theorem slices_partitionEqualOrdered_int_C_ok:Good Try.prog 140 slices_partitionEqualOrdered_int_C:=good_dm
def kbE:Ctr:=⟨ "",slices_partitionEqualOrdered_int_C.as,slices_partitionEqualOrdered_int_C.rs,slices_partitionEqualOrdered_int_C.F,slices_partitionEqualOrdered_int_m13_M::slices_partitionEqualOrdered_int_C.mus,slices_partitionEqualOrdered_int_C.its⟩
theorem kdt:Good Try.prog 140 kbE:=(slices_partitionEqualOrdered_int_C_ok.more kdc)
def slices_partitionOrdered_int_m14_M:CtrM:=⟨ "",[none,some (.i .i64),some (.i .i64),some (.i .i64)],⟨[(0,.mw 0)],[(0,.sl 3 (.i .i64))]⟩,1,⟨[(0,.mw 0),(1000000,.c (.i .i64)),(1000001,.c .b)],[(0,.sl 3 (.i .i64))]⟩,1,2,fun x=>kct x.1 x.2.1 x.2.2.1 x.2.2.2,false⟩
theorem kdW:slices_partitionOrdered_int_m14_M.ok=true∧GoodM Try.prog 141 slices_partitionOrdered_int_m14_M:=
 kaL Try.func141 (by kernel_rfl) (An:=[(0,⟨⟨[(10,.c (.i .i64))],[]⟩,⟨[(10,.c (.i .i64))],[]⟩,[11,1],[0],1,false,""⟩),(8,⟨⟨[(11,.c (.i .i64))],[]⟩,⟨[(11,.c (.i .i64))],[]⟩,[10,1],[0],1,false,""⟩),(16,⟨⟨[(10,.c (.i .i64)),(11,.c (.i .i64))],[(0,.sl 3 (.i .i64))]⟩,⟨[(11,.c (.i .i64))],[(0,.sl 3 (.i .i64))]⟩,[1],[],2,false,""⟩),(24,⟨⟨[(10,.c (.i .i64))],[]⟩,⟨[(10,.c (.i .i64))],[]⟩,[11],[0],1,false,""⟩),(32,⟨⟨[(11,.c (.i .i64))],[]⟩,⟨[(11,.c (.i .i64))],[]⟩,[10],[0],1,false,""⟩)]) [(139,kbp)] (.cons kbc <| .nil) (fun x=>by kernel_rfl)
def slices_partitionOrdered_int_C:Ctr:=⟨ "",[],[],fun _=>none,[],[]⟩
theorem slices_partitionOrdered_int_C_ok:Good Try.prog 141 slices_partitionOrdered_int_C:=good_dm
def kcu:Ctr:=⟨ "",slices_partitionOrdered_int_C.as,slices_partitionOrdered_int_C.rs,slices_partitionOrdered_int_C.F,slices_partitionOrdered_int_m14_M::slices_partitionOrdered_int_C.mus,slices_partitionOrdered_int_C.its⟩
theorem keq:Good Try.prog 141 kcu:=(slices_partitionOrdered_int_C_ok.more kdW)
def kbj (k:Nat):CtrM:=⟨ "",[none,some (.i .i64),some (.i .i64),some (.i .i64)],⟨[(0,.mw 0)],[(0,.sl 3 (.i .i64))]⟩,1,⟨[(0,.mw 0)],[(0,.sl 3 (.i .i64))]⟩,1,0,fun x=>kaR k x.1 x.2.1 x.2.2.1 x.2.2.2,false⟩
theorem kcb:∀ k,(kbj k).ok=true∧GoodM Try.prog 130 (kbj k)
 | 0=>klj (by kernel_rfl) (fun x=>rfl)
 | k+1=>kaL Try.func130 (by kernel_rfl) (An:=[(0,⟨⟨[(2,.c (.i .i64)),(1,.c (.i .i64)),(3,.c (.i .i64)),(8,.c .b),(9,.c .b)],[(0,.sl 3 (.i .i64))]⟩,⟨[],[(0,.sl 3 (.i .i64))]⟩,[],[],1,true,""⟩),(141,⟨⟨[],[(0,.sl 3 (.i .i64))]⟩,⟨[(3,.c (.i .i64))],[(0,.sl 3 (.i .i64))]⟩,[1,2,8,9,10],[],2,false,""⟩),(201,⟨⟨[],[(0,.sl 3 (.i .i64))]⟩,⟨[(12,.c (.i .i64)),(11,.c (.i .i64))],[(0,.sl 3 (.i .i64))]⟩,[1,2,8,9,3,10],[],3,false,""⟩),(62,⟨⟨[],[]⟩,⟨[(68,.c .b)],[]⟩,[8,9,12,1,2,11,3,10],[0],3,false,""⟩),(273,⟨⟨[],[(0,.sl 3 (.i .i64))]⟩,⟨[],[(0,.sl 3 (.i .i64))]⟩,[1,2,11,3,8,9,10],[],4,true,""⟩),(70,⟨⟨[],[]⟩,⟨[(87,.c .b)],[]⟩,[1,11,2,3,8,9,10],[0],4,false,""⟩)]) ((130,⟨ "",[],[],fun _=>none,[kbj k],[]⟩)::[(141,kcu),(140,kbE),(138,kbq),(137,kbU),(135,kbL),(134,kcQ),(133,kbT),(136,kcs),(139,kbp)]) (.cons (good_dm.more (kcb k)) <| .cons keq <| .cons kdt <| .cons kcB <| .cons kdG <| .cons kdA <| .cons keT <| .cons kdH <| .cons kew <| .cons kbc <| .nil) (fun x=>by kernel_rfl)
def slices_pdqsortOrdered_int_m15_M:CtrM:=⟨ "",[none,some (.i .i64),some (.i .i64),some (.i .i64)],⟨[(0,.mw 0)],[(0,.sl 3 (.i .i64))]⟩,1,⟨[(0,.mw 0)],[(0,.sl 3 (.i .i64))]⟩,1,0,fun x=>kaW x.1 x.2.1 x.2.2.1 x.2.2.2,false⟩
theorem ker:slices_pdqsortOrdered_int_m15_M.ok=true∧GoodM Try.prog 130 slices_pdqsortOrdered_int_m15_M:=kcb 1000000
def slices_pdqsortOrdered_int_C:Ctr:=⟨ "",[],[],fun _=>none,[],[]⟩
theorem slices_pdqsortOrdered_int_C_ok:Good Try.prog 130 slices_pdqsortOrdered_int_C:=good_dm
def kcN:Ctr:=⟨ "",slices_pdqsortOrdered_int_C.as,slices_pdqsortOrdered_int_C.rs,slices_pdqsortOrdered_int_C.F,slices_pdqsortOrdered_int_m15_M::slices_pdqsortOrdered_int_C.mus,slices_pdqsortOrdered_int_C.its⟩
theorem keP:Good Try.prog 130 kcN:=(slices_pdqsortOrdered_int_C_ok.more ker)
def slices_Sort_s_int_int_m16_M:CtrM:=⟨ "",[none],⟨[(0,.mw 0)],[(0,.sl 3 (.i .i64))]⟩,1,⟨[(0,.mw 0)],[(0,.sl 3 (.i .i64))]⟩,1,0,fun x=>kbY x,false⟩
theorem kfH:slices_Sort_s_int_int_m16_M.ok=true∧GoodM Try.prog 123 slices_Sort_s_int_int_m16_M:=
 kaL Try.func123 (by kernel_rfl) (An:=[]) [(130,kcN),(131,kfD)] (.cons keP <| .cons kgm <| .nil) (fun x=>by kernel_rfl)
def slices_Sort_s_int_int_C:Ctr:=⟨ "",[],[],fun _=>none,[],[]⟩
theorem slices_Sort_s_int_int_C_ok:Good Try.prog 123 slices_Sort_s_int_int_C:=good_dm
def kdE:Ctr:=⟨ "",slices_Sort_s_int_int_C.as,slices_Sort_s_int_int_C.rs,slices_Sort_s_int_int_C.F,slices_Sort_s_int_int_m16_M::slices_Sort_s_int_int_C.mus,slices_Sort_s_int_int_C.its⟩
theorem kfM:Good Try.prog 123 kdE:=(slices_Sort_s_int_int_C_ok.more kfH)
def slices_Sorted_int_m17_M:CtrM:=⟨ "",[none],⟨[(0,.fn 124 [.ptr 0 0])],[(0,.bx 26 [.c (.sl (.i .i64))])]⟩,1,⟨[(1000000,.mw 1)],[(1,.sl 3 (.i .i64))]⟩,2,1,fun x=>kbN x,false⟩
theorem kgy:slices_Sorted_int_m17_M.ok=true∧GoodM Try.prog 106 slices_Sorted_int_m17_M:=
 kaL Try.func106 (by kernel_rfl) (An:=[]) [(123,kdE),(122,kfb),(124,kaA)] (.cons kfM <| .cons khi <| .cons kaE <| .nil) (fun x=>by kernel_rfl)
def slices_Sorted_int_C:Ctr:=⟨ "",[],[],fun _=>none,[],[]⟩
theorem slices_Sorted_int_C_ok:Good Try.prog 106 slices_Sorted_int_C:=good_dm
def kfg:Ctr:=⟨ "",slices_Sorted_int_C.as,slices_Sorted_int_C.rs,slices_Sorted_int_C.F,slices_Sorted_int_m17_M::slices_Sorted_int_C.mus,slices_Sorted_int_C.its⟩
theorem khn:Good Try.prog 106 kfg:=(slices_Sorted_int_C_ok.more kgy)
def kix:Ctr:=⟨ "",[(.sl (.i .i64)),(.i .i64)],[.b],fun x=>kfY x.1 x.2,[],[]⟩
theorem kjd:Good Try.prog 74 kix:=
 kap Try.func74 (by kernel_rfl) (An:=[(0,⟨⟨[(11,.c (.i .i64))],[]⟩,⟨[],[]⟩,[10,9,0,1],[1],2,true,""⟩)]) [(106,kfg),(107,kdp),(124,kaA)] (.cons khn <| .cons kfJ <| .cons kaE <| .nil) (fun x=>by kernel_rfl)
def khA:Ctr:=⟨ "",[(.sl (.i .i64)),(.pt (.i .i64))],[.b],fun x=>kef x.1 x.2,[],[]⟩
theorem kjh:Good Try.prog 104 khA:=
 kap Try.func104 (by kernel_rfl) (An:=[]) [(74,kix)] (.cons kjd <| .nil) (fun x=>by kernel_rfl)
def kcm:Ctr:=⟨ "",[(.sl (.sl (.i .i64))),(.fn 1 (.sl (.i .i64)) .b)],[(.i .i64)],fun x=>kbt x.1 x.2,[],[]⟩
theorem keg:Good Try.prog 119 kcm:=
 kap Try.func119 (by kernel_rfl) (An:=[(0,⟨⟨[(8,.c (.i .i64))],[]⟩,⟨[],[]⟩,[7,1,0],[],0,true,""⟩)]) [] (.nil) (fun x=>by kernel_rfl)
def kbO:Ctr:=⟨ "",[(.sl (.sl (.i .i64))),(.fn 1 (.sl (.i .i64)) .b)],[.b],fun x=>kbg x.1 x.2,[],[]⟩
theorem kdy:Good Try.prog 103 kbO:=
 kap Try.func103 (by kernel_rfl) (An:=[]) [(119,kcm)] (.cons keg <| .nil) (fun x=>by kernel_rfl)
def kgt:Ctr:=⟨ "",[(.sl (.sl (.i .i64)))],[.b],fun x=>keG x,[],[]⟩
theorem khy:Good Try.prog 68 kgt:=
 kap Try.func68 (by kernel_rfl) (An:=[]) [(103,kbO),(104,khA),(36,klT)] (.cons kdy <| .cons kjh <| .cons knq <| .nil) (fun x=>by kernel_rfl)
def kgD:Ctr:=⟨ "",[(.i .u32),(.i .u32)],[(.i .u32),(.i .u32)],fun x=>klH x.1 x.2,[],[]⟩
theorem kiF:Good Try.prog 120 kgD:=
 kap Try.func120 (by kernel_rfl) (An:=[]) [] (.nil) (fun x=>by kernel_rfl)
def kgG:Ctr:=⟨ "",[(.i .u64),(.i .u64)],[(.i .u64),(.i .u64)],fun x=>khE x.1 x.2,[],[]⟩
theorem kiN:Good Try.prog 121 kgG:=
 kap Try.func121 (by kernel_rfl) (An:=[]) [] (.nil) (fun x=>by kernel_rfl)
def kft:Ctr:=⟨ "",[(.i .u64),(.i .u64)],[(.i .u64),(.i .u64)],fun x=>kgs x.1 x.2,[],[]⟩
theorem kgg:Good Try.prog 105 kft:=
 kap Try.func105 (by kernel_rfl) (An:=[]) [(121,kgG),(120,kgD)] (.cons kiN <| .cons kiF <| .nil) (fun x=>by kernel_rfl)
def slices_Repeat_s_int_int_C:Ctr:=⟨ "",[(.sl (.i .i64)),(.i .i64)],[(.sl (.i .i64))],fun x=>khC x.1 x.2,[],[]⟩
theorem slices_Repeat_s_int_int_C_ok:Good Try.prog 69 slices_Repeat_s_int_int_C:=
 kap Try.func69 (by kernel_rfl) (An:=[(41,⟨⟨[],[]⟩,⟨[],[]⟩,[0,1],[],1,false,""⟩),(18,⟨⟨[],[]⟩,⟨[(26,.c .b)],[]⟩,[5,6,0],[],1,false,""⟩),(105,⟨⟨[],[]⟩,⟨[],[]⟩,[6,0],[],1,false,""⟩),(0,⟨⟨[(8,.c (.i .i64)),(7,.mw 1)],[(1,.sl 3 (.i .i64))]⟩,⟨[(7,.mw 2)],[(2,.sl 3 (.i .i64))]⟩,[],[],3,false,""⟩)]) [(105,kft)] (.cons kgg <| .nil) (fun x=>by kernel_rfl)
def kgE:Ctr:=⟨ "",[(.i .i64),(.pt (.sl (.i .i64)))],[.b],fun x=>kcy x.1 x.2,[],[]⟩
theorem kiG:Good Try.prog 72 kgE:=
 kap Try.func72 (by kernel_rfl) (An:=[]) [] (.nil) (fun x=>by kernel_rfl)
def kcS:Ctr:=⟨ "",[(.sl (.i .i64)),(.fn 1 (.i .i64) .b)],[(.i .i64)],fun x=>kbR x.1 x.2,[],[]⟩
theorem kfk:Good Try.prog 71 kcS:=
 kap Try.func71 (by kernel_rfl) (An:=[(0,⟨⟨[(8,.c (.i .i64))],[]⟩,⟨[],[]⟩,[7,1,0],[],0,true,""⟩)]) [] (.nil) (fun x=>by kernel_rfl)
def kia:Ctr:=⟨ "",[(.i .i64),(.pt (.sl (.sl (.i .i64)))),(.pt (.sl (.i .i64)))],[(.i .i64)],fun x=>kaQ x.1 x.2.1 x.2.2,[],[]⟩
theorem kkh:Good Try.prog 70 kia:=
 kap Try.func70 (by kernel_rfl) (An:=[]) [(71,kcS),(72,kgE)] (.cons kfk <| .cons kiG <| .nil) (fun x=>by kernel_rfl)
def slices_Repeat_s_int_int_m18_M:CtrM:=⟨ "",[some (.sl (.i .i64)),some (.i .i64)],⟨[],[]⟩,0,⟨[(1000000,.mw 0)],[(0,.sl 3 (.i .i64))]⟩,1,1,fun x=>kbG x.1 x.2,false⟩
theorem keU:slices_Repeat_s_int_int_m18_M.ok=true∧GoodM Try.prog 69 slices_Repeat_s_int_int_m18_M:=
 kaL Try.func69 (by kernel_rfl) (An:=[(41,⟨⟨[],[]⟩,⟨[],[]⟩,[0,1],[],1,false,""⟩),(18,⟨⟨[],[]⟩,⟨[(26,.c .b)],[]⟩,[5,6,0],[],1,false,""⟩),(105,⟨⟨[],[]⟩,⟨[],[]⟩,[6,0],[],1,false,""⟩),(0,⟨⟨[(8,.c (.i .i64)),(7,.mw 1)],[(1,.sl 3 (.i .i64))]⟩,⟨[(7,.mw 2)],[(2,.sl 3 (.i .i64))]⟩,[],[],3,false,""⟩)]) [(105,kft)] (.cons kgg <| .nil) (fun x=>by kernel_rfl)
def kde:Ctr:=⟨ "",slices_Repeat_s_int_int_C.as,slices_Repeat_s_int_int_C.rs,slices_Repeat_s_int_int_C.F,slices_Repeat_s_int_int_m18_M::slices_Repeat_s_int_int_C.mus,slices_Repeat_s_int_int_C.its⟩
theorem kfA:Good Try.prog 69 kde:=(slices_Repeat_s_int_int_C_ok.more keU)
def kkC:Ctr:=⟨ "",[(.sl (.sl (.i .i64)))],[(.sl (.i .i64)),(.i .i64)],fun x=>kfd x,[],[]⟩
theorem kmC:Good Try.prog 24 kkC:=
 kap Try.func24 (by kernel_rfl) (An:=[(0,⟨⟨[(25,.c (.i .i64)),(4,.ptr 5 0),(5,.fn 70 [.ptr 0 0,.ptr 5 0])],[(5,.bx 26 [.mw 3]),(3,.sl 3 (.i .i64))]⟩,⟨[(4,.ptr 6 0)],[(6,.bx 26 [.mw 7]),(7,.sl 3 (.i .i64))]⟩,[24,1],[0],8,false,""⟩),(8,⟨⟨[(4,.ptr 5 0),(5,.fn 70 [.ptr 0 0,.ptr 5 0])],[(5,.bx 26 [.mw 3]),(3,.sl 3 (.i .i64))]⟩,⟨[(4,.ptr 6 0),(5,.fn 70 [.ptr 0 0,.ptr 6 0])],[(6,.bx 26 [.mw 7]),(7,.sl 3 (.i .i64))]⟩,[6,25],[],8,false,""⟩),(16,⟨⟨[(36,.c (.i .i64)),(7,.c (.i .i64))],[]⟩,⟨[(7,.c (.i .i64))],[]⟩,[35,5,4],[5,3],6,false,""⟩),(24,⟨⟨[(9,.c (.i .i64)),(8,.mw 6)],[(6,.sl 3 (.i .i64))]⟩,⟨[(8,.mw 7)],[(7,.sl 3 (.i .i64))]⟩,[7,5,4],[5,3],8,false,""⟩),(32,⟨⟨[(59,.c (.i .i64)),(10,.mw 8)],[(8,.sl 3 (.i .i64))]⟩,⟨[(10,.mw 9)],[(9,.sl 3 (.i .i64))]⟩,[58,57,5,8,4],[7,5,3],10,false,""⟩),(40,⟨⟨[(72,.c (.i .i64)),(4,.ptr 5 0),(5,.fn 70 [.ptr 0 0,.ptr 5 0])],[(5,.bx 26 [.mw 3]),(3,.sl 3 (.i .i64))]⟩,⟨[(4,.ptr 10 0),(5,.fn 70 [.ptr 0 0,.ptr 10 0])],[(10,.bx 26 [.mw 11]),(11,.sl 3 (.i .i64))]⟩,[71,70,10],[7,9],12,false,""⟩)]) [(69,kde),(70,kia),(68,kgt)] (.cons kfA <| .cons kkh <| .cons khy <| .nil) (fun x=>by kernel_rfl)
def kie:Ctr:=⟨ "",[(.i .i64),(.i .i64),(.i .i64)],[.b],fun x=>kfs x.1 x.2.1 x.2.2,[],[]⟩
theorem kkk:Good Try.prog 78 kie:=
 kap Try.func78 (by kernel_rfl) (An:=[]) [] (.nil) (fun x=>by kernel_rfl)
def kgv:Ctr:=⟨ "",[(.sl (.i .i64)),(.i .i64)],[.b],fun x=>kcK x.1 x.2,[],[]⟩
theorem kgW:Good Try.prog 76 kgv:=
 kap Try.func76 (by kernel_rfl) (An:=[(0,⟨⟨[(6,.c (.i .i64)),(5,.mw 0)],[(0,.sl 4 .b)]⟩,⟨[],[]⟩,[1,0],[],1,true,""⟩)]) [(78,kie)] (.cons kkk <| .nil) (fun x=>by kernel_rfl)
def kfO:Ctr:=⟨ "",[(.sl (.sl (.i .i64)))],[.b],fun x=>kdL x,[],[]⟩
theorem kgC:Good Try.prog 73 kfO:=
 kap Try.func73 (by kernel_rfl) (An:=[(0,⟨⟨[(3,.c (.i .i64))],[]⟩,⟨[],[]⟩,[0],[],0,true,""⟩)]) [(76,kgv)] (.cons kgW <| .nil) (fun x=>by kernel_rfl)
def kja:Ctr:=⟨ "",[(.sl (.sl (.i .i64)))],[(.sl (.i .i64)),(.i .i64)],fun x=>kdx x,[],[]⟩
theorem kld:Good Try.prog 25 kja:=
 kap Try.func25 (by kernel_rfl) (An:=[(0,⟨⟨[(7,.c (.i .i64)),(6,.mw 2),(5,.mw 1)],[(2,.sl 4 .b),(1,.sl 3 (.i .i64))]⟩,⟨[(5,.mw 3)],[(3,.sl 3 (.i .i64))]⟩,[4,0],[],4,false,""⟩),(8,⟨⟨[(9,.c (.i .i64)),(8,.mw 3)],[(3,.sl 3 (.i .i64))]⟩,⟨[(8,.mw 4)],[(4,.sl 3 (.i .i64))]⟩,[6,5,7],[2,1],5,false,""⟩),(16,⟨⟨[(10,.c (.i .i64))],[]⟩,⟨[(10,.c (.i .i64))],[]⟩,[9,8],[3],4,false,""⟩),(24,⟨⟨[(12,.c (.i .i64)),(11,.mw 5)],[(5,.sl 4 .b)]⟩,⟨[(11,.mw 6)],[(6,.sl 4 .b)]⟩,[6,8,5,7],[2,4,1],7,false,""⟩),(32,⟨⟨[(14,.c (.i .i64)),(13,.c (.i .i64)),(11,.mw 5)],[(5,.sl 4 .b)]⟩,⟨[(11,.mw 6)],[(6,.sl 4 .b)]⟩,[12],[],7,false,""⟩),(40,⟨⟨[(15,.c (.i .i64)),(5,.mw 1),(6,.mw 2),(7,.c (.i .i64))],[(1,.sl 3 (.i .i64)),(2,.sl 4 .b)]⟩,⟨[(7,.c (.i .i64)),(6,.mw 7),(5,.mw 8)],[(7,.sl 4 .b),(8,.sl 3 (.i .i64))]⟩,[11,8],[6,4],9,false,""⟩)]) [(73,kfO)] (.cons kgC <| .nil) (fun x=>by kernel_rfl)
def kdj (k:Nat):CtrM:=⟨ "",[some (.i .i64),some (.i .u8),some .b,none,none,none,none,none],⟨[(3,.ptr 0 0),(4,.ptr 1 0),(5,.ptr 2 0),(6,.ptr 3 0),(7,.ptr 4 0)],[(0,.bx 3 [.c (.i .i64)]),(1,.bx 5 [.c (.i .u8)]),(2,.bx 142 [.fn 75 [.ptr 0 0,.ptr 1 0,.ptr 2 0,.ptr 3 0,.ptr 4 0]]),(3,.bx 65 [.c (.sl (.sl (.i .i64)))]),(4,.bx 26 [.c (.sl (.i .i64))])]⟩,5,⟨[(3,.ptr 0 0),(4,.ptr 1 0),(5,.ptr 2 0),(6,.ptr 3 0),(7,.ptr 4 0),(1000000,.c .b)],[(0,.bx 3 [.c (.i .i64)]),(1,.bx 5 [.c (.i .u8)]),(2,.bx 142 [.fn 75 [.ptr 0 0,.ptr 1 0,.ptr 2 0,.ptr 3 0,.ptr 4 0]]),(3,.bx 65 [.c (.sl (.sl (.i .i64)))]),(4,.bx 26 [.c (.sl (.i .i64))])]⟩,5,1,fun x=>kaD k x.1 x.2.1 x.2.2.1 x.2.2.2.1 x.2.2.2.2.1 x.2.2.2.2.2.1 x.2.2.2.2.2.2,false⟩
theorem kff:∀ k,(kdj k).ok=true∧GoodM Try.prog 75 (kdj k)
 | 0=>klj (by kernel_rfl) (fun x=>rfl)
 | k+1=>kaL Try.func75 (by kernel_rfl) (An:=[(0,⟨⟨[(35,.c (.i .i64))],[(4,.bx 26 [.c (.sl (.i .i64))]),(2,.bx 142 [.fn 75 [.ptr 0 0,.ptr 1 0,.ptr 2 0,.ptr 3 0,.ptr 4 0]]),(0,.bx 3 [.c (.i .i64)]),(1,.bx 5 [.c (.i .u8)]),(3,.bx 65 [.c (.sl (.sl (.i .i64)))])]⟩,⟨[],[(4,.bx 26 [.c (.sl (.i .i64))]),(2,.bx 142 [.fn 75 [.ptr 0 0,.ptr 1 0,.ptr 2 0,.ptr 3 0,.ptr 4 0]]),(0,.bx 3 [.c (.i .i64)]),(1,.bx 5 [.c (.i .u8)]),(3,.bx 65 [.c (.sl (.sl (.i .i64)))])]⟩,[34,33,0,1,2],[],10,true,""⟩)]) ((75,⟨ "",[],[],fun _=>none,[kdj k],[]⟩)::[]) (.cons (good_dm.more (kff k)) <| .nil) (fun x=>by kernel_rfl)
def box_Better_c1_m19_M:CtrM:=⟨ "",[some (.i .i64),some (.i .u8),some .b,none,none,none,none,none],⟨[(3,.ptr 0 0),(4,.ptr 1 0),(5,.ptr 2 0),(6,.ptr 3 0),(7,.ptr 4 0)],[(0,.bx 3 [.c (.i .i64)]),(1,.bx 5 [.c (.i .u8)]),(2,.bx 142 [.fn 75 [.ptr 0 0,.ptr 1 0,.ptr 2 0,.ptr 3 0,.ptr 4 0]]),(3,.bx 65 [.c (.sl (.sl (.i .i64)))]),(4,.bx 26 [.c (.sl (.i .i64))])]⟩,5,⟨[(3,.ptr 0 0),(4,.ptr 1 0),(5,.ptr 2 0),(6,.ptr 3 0),(7,.ptr 4 0),(1000000,.c .b)],[(0,.bx 3 [.c (.i .i64)]),(1,.bx 5 [.c (.i .u8)]),(2,.bx 142 [.fn 75 [.ptr 0 0,.ptr 1 0,.ptr 2 0,.ptr 3 0,.ptr 4 0]]),(3,.bx 65 [.c (.sl (.sl (.i .i64)))]),(4,.bx 26 [.c (.sl (.i .i64))])]⟩,5,1,fun x=>keu x.1 x.2.1 x.2.2.1 x.2.2.2.1 x.2.2.2.2.1 x.2.2.2.2.2.1 x.2.2.2.2.2.2,false⟩
theorem khU:box_Better_c1_m19_M.ok=true∧GoodM Try.prog 75 box_Better_c1_m19_M:=kff 1000000
def box_Better_c1_C:Ctr:=⟨ "",[],[],fun _=>none,[],[]⟩
theorem box_Better_c1_C_ok:Good Try.prog 75 box_Better_c1_C:=good_dm
def kgH:Ctr:=⟨ "",box_Better_c1_C.as,box_Better_c1_C.rs,box_Better_c1_C.F,box_Better_c1_m19_M::box_Better_c1_C.mus,box_Better_c1_C.its⟩
theorem kiC:Good Try.prog 75 kgH:=(box_Better_c1_C_ok.more khU)
def kjQ:Ctr:=⟨ "",[(.sl (.sl (.i .i64))),(.sl (.i .i64)),(.i .u8)],[.b,(.i .i64)],fun x=>kgI x.1 x.2.1 x.2.2,[],[]⟩
theorem kls:Good Try.prog 26 kjQ:=
 kap Try.func26 (by kernel_rfl) (An:=[]) [(75,kgH),(68,kgt),(74,kix)] (.cons kiC <| .cons khy <| .cons kjd <| .nil) (fun x=>by kernel_rfl)
def kil:Ctr:=⟨ "",[(.sl (.i .i64)),(.i .i64)],[(.i .i64)],fun x=>kcl x.1 x.2,[],[]⟩
theorem kki:Good Try.prog 108 kil:=
 kap Try.func108 (by kernel_rfl) (An:=[(0,⟨⟨[(5,.c (.i .i64))],[]⟩,⟨[],[]⟩,[0,1],[],0,true,""⟩)]) [] (.nil) (fun x=>by kernel_rfl)
def kib (k:Nat):Ctr:=⟨ "",[(.sl (.sl (.i .i64))),(.sl (.i .i64)),(.i .u8),(.i .i64),(.i .u8),.b],[.b],fun x=>kbQ k x.1 x.2.1 x.2.2.1 x.2.2.2.1 x.2.2.2.2.1 x.2.2.2.2.2,[],[]⟩
theorem khM:∀ k,Good Try.prog 77 (kib k)
 | 0=>kqT (by kernel_rfl) (fun x=>rfl) rfl rfl
 | k+1=>kap Try.func77 (by kernel_rfl) (An:=[(0,⟨⟨[(3,.c (.i .i64))],[]⟩,⟨[(3,.c (.i .i64))],[]⟩,[0,2,5,1,4],[],0,false,""⟩),(8,⟨⟨[(13,.c (.i .i64))],[]⟩,⟨[],[]⟩,[0,3,1,4,2,5],[],0,true,""⟩)]) ((77,kib k)::[(108,kil)]) (.cons (khM k) <| .cons kki <| .nil) (fun x=>by kernel_rfl)
def kiX:Ctr:=⟨ "",[(.sl (.sl (.i .i64))),(.sl (.i .i64)),(.i .u8),(.i .i64),(.i .u8),.b],[.b],fun x=>khO x.1 x.2.1 x.2.2.1 x.2.2.2.1 x.2.2.2.2.1 x.2.2.2.2.2,[],[]⟩
theorem kkJ:Good Try.prog 77 kiX:=khM 1000000
def kih:Ctr:=⟨ "",[(.sl (.sl (.i .i64))),(.sl (.i .i64)),(.i .u8)],[.b,(.i .i64)],fun x=>kfC x.1 x.2.1 x.2.2,[],[]⟩
theorem kkg:Good Try.prog 27 kih:=
 kap Try.func27 (by kernel_rfl) (An:=[]) [(77,kiX),(73,kfO),(76,kgv)] (.cons kkJ <| .cons kgC <| .cons kgW <| .nil) (fun x=>by kernel_rfl)
def khg:Ctr:=⟨ "",[(.sl (.i .i64)),(.sl (.i .i64))],[.b],fun x=>ked x.1 x.2,[],[]⟩
theorem kjf:Good Try.prog 14 khg:=
 kap Try.func14 (by kernel_rfl) (An:=[(0,⟨⟨[(5,.c (.i .i64))],[]⟩,⟨[],[]⟩,[0,1],[],0,true,""⟩)]) [] (.nil) (fun x=>by kernel_rfl)
def kkl:Ctr:=⟨ "",[(.sl (.sl (.i .i64))),(.sl (.i .i64)),(.i .u8)],[.b],fun x=>kfo x.1 x.2.1 x.2.2,[],[]⟩
theorem law08_BoxTrades_C_ok:Good Try.prog 6 kkl:=
 kap Try.func6 (by kernel_rfl) (An:=[]) [(14,khg),(27,kih),(26,kjQ),(25,kja),(24,kkC),(23,kji)] (.cons kjf <| .cons kkg <| .cons kls <| .cons kld <| .cons kmC <| .cons klQ <| .nil) (fun x=>by kernel_rfl)
end Go.Abs
namespace Go.Abs.Fl
open Go Go.Abs
def sumN (f:Nat→Int):Nat→Int
 | 0=>0
 | n+1=>sumN f n+f n
theorem kiv {f g:Nat→Int}:∀ {n:Nat},(∀ i,i<n→f i=g i)→sumN f n=sumN g n
 | 0,_=>rfl
 | n+1,h=>by simp only [sumN]; rw [kiv fun i hi=>h i (by omega),h n (by omega)]
theorem kjZ {f:Nat→Int}:∀ {n:Nat},(∀ i,i<n→0≤f i)→0≤sumN f n
 | 0,_=>Int.le_refl 0
 | n+1,h=>by
  have:=kjZ (f:=f) (n:=n) fun i hi=>h i (by omega)
  have:=h n (by omega)
  simp only [sumN]; omega
theorem kqY {f:Nat→Int}:∀ {n:Nat},(∀ i,i<n→0≤f i)→sumN f n≤0→∀ i,i<n→f i=0
 | 0,_,_,i,hi=>by omega
 | n+1,h,e,i,hi=>by
  have h1:=kjZ (f:=f) (n:=n) fun i hi=>h i (by omega)
  have h2:=h n (by omega)
  simp only [sumN] at e
  by_cases hn:i=n
  ·subst hn; show f i=0; omega
  ·exact kqY (f:=f) (n:=n) (fun i hi=>h i (by omega)) (by omega) i (by omega)
theorem krQ (f g:Nat→Int):∀ n:Nat,sumN (fun i=>f i+g i) n=sumN f n+sumN g n
 | 0=>rfl
 | n+1=>by simp only [sumN]; rw [krQ f g n]; omega
theorem kiR (f g:Nat→Int):∀ n:Nat,sumN (fun i=>f i-g i) n=sumN f n-sumN g n
 | 0=>rfl
 | n+1=>by simp only [sumN]; rw [kiR f g n]; omega
theorem krr:∀ n:Nat,sumN (fun _=>0) n=0
 | 0=>rfl
 | n+1=>by simp only [sumN]; rw [krr n]; rfl
theorem kkE {f:Nat→Int}:∀ {n:Nat},(∀ i,i<n→0≤f i)→∀ {i:Nat},i<n→f i≤sumN f n
 | 0,_,i,hi=>by omega
 | n+1,h,i,hi=>by
  have h1:=kjZ (f:=f) (n:=n) fun i hi=>h i (by omega)
  have h2:=h n (by omega)
  simp only [sumN]
  by_cases hn:i=n
  ·subst hn; omega
  ·have:=kkE (fun i hi=>h i (by omega)) (n:=n) (i:=i) (by omega); omega
section
variable (n m:Nat) (cap:Nat→Int) (may:Nat→Nat→Prop)
end
variable {n m:Nat} {cap:Nat→Int} {may:Nat→Nat→Prop} {u u':Nat→Nat→Int} {l l':Nat→Int} {S T:Nat→Bool}
end Go.Abs.Fl
namespace Go.Abs.Fl
open Go Go.Abs
theorem iter_inv {α β:Type} {F:α→Option (α⊕β)} (I:α→Prop) (m:α→Nat) (R:β→Prop)
  (h:∀ x,I x→(∃ z,F x=some (.inr z)∧R z)∨∃ y,F x=some (.inl y)∧I y∧m y<m x) (x:α) (hx:I x) (hm:m x<18446744073709551616):∃ z,iter F x=some z∧R z:=by
 have:∀ n x,I x→m x<n→∃ z,itN F n x=some z∧R z:=by
  intro n
  induction n with
  | zero=>intro x _ h0; omega
  | succ n ih=>
   intro x hx hm
   rcases h x hx with ⟨z,e,hz⟩ | ⟨y,e,hy,hlt⟩
   ·exact ⟨z,kdU e,hz⟩
   ·rw [koc e]; exact ih y hy (by omega)
 obtain ⟨z,e,hz⟩:=this 18446744073709551616 x hx hm
 exact ⟨z,kgS e (Nat.le_refl _),hz⟩
def la (L:List Int) (j:Nat):Int:=L.getD j 0
def sa (s:List Bool) (j:Nat):Bool:=s.getD j false
theorem gi_D {α:Type} {l:List α} {i:Nat} (d:α) (h:i<l.length):gi l (i:Int)=some (l.getD i d):=by rw [kaS h,List.getD_eq_getElem?_getD,List.getElem?_eq_getElem h]; rfl
section
variable {n m:Nat} {U:List (List Int)} {L:List Int} {k j:Nat} {x:Int}
theorem gs {s:List Bool} (hs:s.length=m) (hj:j<m):gi s (j:Int)=some (sa s j):=gi_D false (by omega)
theorem getD_set {α:Type} {l:List α} {i j:Nat} {x d:α} (h:i<l.length):(l.set i x).getD j d=if j=i then x else l.getD j d:=by
 rw [List.getD_eq_getElem?_getD,List.getD_eq_getElem?_getD,List.getElem?_set]
 by_cases e:j=i
 ·subst e; simp [h]
 ·rw [if_neg (fun h=>e h.symm),if_neg e]
theorem khp (hj:j<L.length) (j':Nat):la (L.set j x) j'=if j'=j then x else la L j':=getD_set hj
theorem kjM {s:List Bool} (hj:j<s.length) (j':Nat):sa (s.set j true) j'=if j'=j then true else sa s j':=getD_set hj
end
section
variable (n m:Nat) (cap:Nat→Int) (may:Nat→Nat→Prop)
end
variable {n m:Nat} {cap:Nat→Int} {may:Nat→Nat→Prop} {U U':List (List Int)} {L L':List Int} {s s' s1 s2:List Bool} {i j k:Nat} {most r:Int}
end Go.Abs.Fl
namespace Go.Abs
open Go Go.Abs.Fl
theorem koo (a b:Int):kau a b=some (decide (a<b)):=by unfold kau keO; simp
def UpTo (l:List Int) (i j:Nat):Prop:=∀ p q,p<q→q≤i→q≠j→la l p≤la l q
theorem ktA {n:Nat} (hn:n≤1000):∀ (j i:Nat) (l:List Int),l.length=n→j≤i→i<n→UpTo l i j→∃ l',itN (kar 0) (j+1) ((j:Int),l)=some l'∧l'.Perm l∧∀ p q,p<q→q≤i→la l' p≤la l' q:=by
 intro j
 induction j with
 | zero=>
  intro i l hl hj hi h
  refine ⟨l,kdU ?_,.refl _,fun p q hpq hq=>h p q hpq hq (by omega)⟩
  unfold kar
  rw [if_neg (by simp)]
 | succ j ih=>
  intro i l hl hj hi h
  have g1:gi l ((j+1:Nat):Int)=some (la l (j+1)):=gi_D 0 (by omega)
  have hw:w64 (((j+1:Nat):Int)-1)=(j:Int):=by rw [kfq (by omega) (by omega)]; omega
  have g2:gi l (j:Int)=some (la l j):=gi_D 0 (by omega)
  have h0:decide ((0:Int)<((j+1:Nat):Int))=true:=decide_eq_true (by omega)
  by_cases hlt:la l (j+1)<la l j
  ·have hp:((l.set (j+1) l[j]).set j l[j+1]).Perm l:=List.set_set_perm (by omega) (by omega)
   have e1:la l j=l[j]:=by unfold la; rw [List.getD_eq_getElem?_getD,List.getElem?_eq_getElem (by omega)]; rfl
   have e2:la l (j+1)=l[j+1]:=by unfold la; rw [List.getD_eq_getElem?_getD,List.getElem?_eq_getElem (by omega)]; rfl
   rw [←e1,←e2] at hp
   have hs:∀ k,la ((l.set (j+1) (la l j)).set j (la l (j+1))) k=if k=j then la l (j+1) else if k=j+1 then la l j else la l k:=fun k=>by
    rw [khp (by simp; omega),khp (by omega)]
   obtain ⟨l',h1,h2,h3⟩:=ih i ((l.set (j+1) (la l j)).set j (la l (j+1))) (by simp [hl]) (by omega) hi (fun p q hpq hq hne=>by
    rw [hs,hs,if_neg hne]
    by_cases a:q=j+1
    ·rw [if_pos a]
     by_cases b:p=j
     ·rw [if_pos b]; omega
     ·rw [if_neg b,if_neg (by omega)]; exact h p j (by omega) (by omega) (by omega)
    ·rw [if_neg a]
     by_cases b:p=j
     ·rw [if_pos b]; exact h (j+1) q (by omega) hq a
     ·rw [if_neg b]
      by_cases c:p=j+1
      ·rw [if_pos c]; exact h j q (by omega) hq a
      ·rw [if_neg c]; exact h p q hpq hq a)
   refine ⟨l',?_,h2.trans hp,h3⟩
   rw [←h1]
   refine koc ?_
   have g3:gi (lset l ((j+1:Nat):Int) (la l j)) (j:Int)=some (la (l.set (j+1) (la l j)) j):=gi_D 0 (by simp [lset]; omega)
   unfold kar
   simp only [h0,if_true,g1,hw,g2,Option.bind_some,koo,decide_eq_true hlt,g3]
   rfl
  ·refine ⟨l,kdU ?_,.refl _,fun p q hpq hq=>?_⟩
   ·unfold kar
    simp only [h0,if_true,g1,hw,g2,Option.bind_some,koo,decide_eq_false hlt,Bool.false_eq_true,if_false]
   ·by_cases a:q=j+1
    ·subst a
     by_cases b:p=j
     ·subst b; omega
     ·have:=h p j (by omega) (by omega) (by omega); omega
    ·exact h p q hpq hq a
theorem ktw {l:List Int} (hl:l.length≤1000):∃ s,kaK 0 (lenI l) l=some s∧s.Perm l∧∀ p q,p<q→q<l.length→la s p≤la s q:=by
 unfold kaK
 by_cases h0:l.length=0
 ·refine ⟨l,?_,.refl _,fun p q _ h=>by omega⟩
  rw [kgS (n:=1) (kdU (z:=l) ?_) (by omega)]; rfl
  unfold kaq
  have e:w64 ((0:Int)+1)=1:=by rw [kfq (by omega) (by omega)]; rfl
  rw [if_neg (by rw [e,kan,h0]; simp)]
 ·obtain ⟨z,hz,h1,h2⟩:=Fl.iter_inv (F:=kaq 0 (lenI l))
   (fun x=>∃ (i:Nat) (s:List Int),1≤i∧i≤l.length∧x=((i:Int),s)∧s.Perm l∧∀ p q,p<q→q<i→la s p≤la s q) (fun x=>l.length-x.1.toNat) (fun s=>s.Perm l∧∀ p q,p<q→q<l.length→la s p≤la s q)
   (fun x hx=>by
    obtain ⟨i,s,hi1,hi,rfl,hp,hs⟩:=hx
    by_cases hlt:i<l.length
    ·obtain ⟨s',a,b,c⟩:=ktA (n:=l.length) hl i i s hp.length_eq (Nat.le_refl _) hlt (fun p q hpq hq hne=>hs p q hpq (by omega))
     have a':=kgS a (by omega)
     refine .inr ⟨((i+1:Nat),s'),?_,⟨i+1,s',by omega,by omega,rfl,b.trans hp,fun p q hpq hq=>c p q hpq (by omega)⟩,by simp only [Int.toNat_natCast]; omega⟩
     unfold kaq
     simp only [lenI_lt.2 hlt,if_true,a',Option.bind_some,kav (show i<9223372036854775807 by omega)]
    ·have:i=l.length:=by omega
     subst this
     refine .inl ⟨s,?_,hp,hs⟩
     unfold kaq
     rw [if_neg kaT])
   (1,l) ⟨1,l,by omega,by omega,rfl,.refl _,fun p q h1 h2=>by omega⟩ (by simp only; omega)
  refine ⟨z,?_,h1,h2⟩
  rw [show w64 ((0:Int)+1)=1 from by rw [kfq (by omega) (by omega)]; rfl,hz]; rfl
def ordB (l:List Int) (n:Nat):Prop:=l.length=n∧(∀ x∈l,0≤x∧x<n)∧l.Nodup
theorem kod {l:List Int} {k:Nat} (h:k<l.length):la l k∈l:=by
 unfold la
 rw [List.getD_eq_getElem?_getD,List.getElem?_eq_getElem h]
 exact List.getElem_mem h
theorem krJ {l:List Int} (h:l.Nodup) {p q:Nat} (hp:p<l.length) (hq:q<l.length) (e:la l p=la l q):p=q:=by
 unfold la at e
 rw [List.getD_eq_getElem?_getD,List.getD_eq_getElem?_getD,List.getElem?_eq_getElem hp,List.getElem?_eq_getElem hq] at e
 exact (List.getElem_inj h).1 e
theorem kqs {s l:List Int} (hp:s.Perm l) (hs:∀ p q,p<q→q<l.length→la s p≤la s q):(∀ k,k<s.length→la s k=(k:Int))↔ordB l l.length:=by
 have hl:=hp.length_eq
 constructor
 ·intro h
  refine ⟨rfl,fun x hx=>?_,?_⟩
  ·obtain ⟨k,hk,e⟩:=List.mem_iff_getElem.1 (hp.mem_iff.2 hx)
   have:=h k hk
   unfold la at this
   rw [List.getD_eq_getElem?_getD,List.getElem?_eq_getElem hk] at this
   simp at this
   omega
  ·refine hp.nodup_iff.1 ?_
   rw [List.nodup_iff_pairwise_ne,List.pairwise_iff_getElem]
   intro i j hi hj hij e
   have a:=h i hi
   have b:=h j hj
   unfold la at a b
   rw [List.getD_eq_getElem?_getD,List.getElem?_eq_getElem hi] at a
   rw [List.getD_eq_getElem?_getD,List.getElem?_eq_getElem hj] at b
   simp at a b
   omega
 ·rintro ⟨_,hw,hn⟩ k hk
  have hn':=hp.nodup_iff.2 hn
  have lt:∀ p q,p<q→q<s.length→la s p<la s q:=fun p q hpq hq=>by
   have:=hs p q hpq (by omega)
   rcases Int.lt_or_eq_of_le this with h | h
   ·exact h
   ·have:=krJ hn' (by omega) hq h; omega
  have lo:∀ k,k<s.length→(k:Int)≤la s k:=by
   intro k
   induction k with
   | zero=>intro h; have:=(hw _ (hp.mem_iff.1 (kod h))).1; simpa using this
   | succ k ih=>intro h; have:=ih (by omega); have:=lt k (k+1) (by omega) h; omega
  have up:∀ d k,k+d+1=s.length→la s k≤(k:Int):=by
   intro d
   induction d with
   | zero=>intro k h; have:=(hw _ (hp.mem_iff.1 (kod (l:=s) (k:=k) (by omega)))).2; omega
   | succ d ih=>intro k h; have:=ih (k+1) (by omega); have:=lt k (k+1) (by omega) (by omega); omega
  have:=lo k hk
  have:=up (s.length-k-1) k (by omega)
  omega
end Go.Abs
namespace Go.Abs
open Go Go.Abs.Fl
theorem kqn (o:Option (List Int)) {l:List Int} (hl:l.length≤1000) (ho:o=none∨o=some l):kaI o l=some l:=by
 unfold kaI
 obtain ⟨z,hz,rfl⟩:=Fl.iter_inv (F:=kaP o l) (fun x=>∃ i:Nat,i≤l.length∧x=((i:Int),l.take i)) (fun x=>l.length-x.1.toNat) (fun z=>z = .inr l)
  (fun x hx=>by
   obtain ⟨i,hi,rfl⟩:=hx
   by_cases hlt:i<l.length
   ·refine .inr ⟨((i+1:Nat),l.take (i+1)),?_,⟨i+1,by omega,rfl⟩,by simp only [Int.toNat_natCast]; omega⟩
    have hg:gpre (.i .i64) o (l.take i) l[i]=some (l.take (i+1)):=by
     have e:l.take (i+1)=l.take i++[l[i]]:=by rw [List.take_add_one,List.getElem?_eq_getElem hlt]; rfl
     rw [e]
     rcases ho with rfl | rfl
     ·rfl
     ·have:(l.take i).length=i:=by rw [List.length_take]; omega
      simp only [gpre,this,List.getElem?_eq_getElem hlt,Ty.beq]
      simp
    unfold kaP
    simp only [lenI_lt.2 hlt,if_true,kaS hlt,Option.bind_some,hg,kav (show i<9223372036854775807 by omega)]
   ·have:i=l.length:=by omega
    subst this
    refine .inl ⟨.inr l,?_,rfl⟩
    rw [List.take_length]
    unfold kaP
    rw [if_neg kaT])
  (0,[]) ⟨0,by omega,rfl⟩ (by simp only; omega)
 rw [hz]; rfl
theorem kpq {l:List Int} (hl:l.length≤1000):kbP l=some l:=by
 unfold kbP kbx
 have h1:(runI fun o=>kaI o l)=some l:=by
  unfold runI
  simp only [kqn none hl (.inl rfl),kqn (some l) hl (.inr rfl),Option.bind_some,if_true]
 rw [h1]
 simp only [Option.bind_some]
 obtain ⟨z,hz,rfl⟩:=Fl.iter_inv (F:=kaO l) (fun x=>∃ i:Nat,i≤l.length∧x=((i:Int),l.take i)) (fun x=>l.length-x.1.toNat) (fun z=>z = .inr l)
  (fun x hx=>by
   obtain ⟨i,hi,rfl⟩:=hx
   by_cases hlt:i<l.length
   ·refine .inr ⟨((i+1:Nat),l.take (i+1)),?_,⟨i+1,by omega,rfl⟩,by simp only [Int.toNat_natCast]; omega⟩
    have e:l.take (i+1)=l.take i++[l[i]]:=by rw [List.take_add_one,List.getElem?_eq_getElem hlt]; rfl
    have hg:gapp (l.take i) [l[i]]=some (l.take (i+1)):=by rw [e]; exact kjm (by rw [List.length_take]; simp; omega)
    unfold kaO
    simp only [lenI_lt.2 hlt,if_true,kaS hlt,Option.bind_some,hg]
    rfl
   ·have:i=l.length:=by omega
    subst this
    refine .inl ⟨.inr l,?_,rfl⟩
    rw [List.take_length]
    unfold kaO
    rw [if_neg kaT])
  (0,[]) ⟨0,by omega,rfl⟩ (by simp only; omega)
 rw [hz]; rfl
theorem kpI:∀ n:Nat,n≤12→∃ b,keN (IntKind.wrap .u64 (n:Int))=some b
 | 0,_=>⟨_,rfl⟩ | 1,_=>⟨_,rfl⟩ | 2,_=>⟨_,rfl⟩ | 3,_=>⟨_,rfl⟩ | 4,_=>⟨_,rfl⟩ | 5,_=>⟨_,rfl⟩ | 6,_=>⟨_,rfl⟩ | 7,_=>⟨_,rfl⟩ | 8,_=>⟨_,rfl⟩ | 9,_=>⟨_,rfl⟩ | 10,_=>⟨_,rfl⟩ | 11,_=>⟨_,rfl⟩ | 12,_=>⟨_,rfl⟩
 | n+13,h=>by omega
theorem krB {l:List Int} (hl:l.length≤12):∃ s,kbN l=some s∧s.Perm l∧∀ p q,p<q→q<l.length→la s p≤la s q:=by
 obtain ⟨s,h1,h2,h3⟩:=ktw (l:=l) (by omega)
 obtain ⟨b,hb⟩:=kpI l.length hl
 refine ⟨s,?_,h2,h3⟩
 unfold kbN kbY
 rw [kpq (by omega)]
 simp only [Option.bind_some]
 rw [show (IntKind.wrap .u64 (lenI l))=IntKind.wrap .u64 (l.length:Int) from rfl,hb]
 simp only [Option.bind_some]
 have:kaW 0 (lenI l) b l=some s:=by
  unfold kaW
  rw [show (1000000:Nat)=999999+1 from rfl]
  unfold kaR kcr
  rw [kgS (n:=1) (kdU (z:=.inl s) ?_) (by omega)]; rfl
  unfold kcj
  have e:w64 (lenI l-0)=(l.length:Int):=by rw [kan,kfq (by omega) (by omega)]; omega
  have e2:decide ((l.length:Int)≤12)=true:=decide_eq_true (by omega)
  simp only [e,e2,if_true,h1,Option.bind_some]
 rw [this]; rfl
open Classical in
theorem kql {l:List Int} (hl:l.length≤12) (n:Nat):kfY l (n:Int)=some (decide (ordB l n)):=by
 obtain ⟨s,h1,h2,h3⟩:=krB hl
 have hlen:=h2.length_eq
 unfold kfY kbS
 simp only [Option.bind_some,h1]
 rw [kgh (F:=kgc s) false s (by omega) (fun i x=>x != (i:Int)) (fun i hi=>by
  unfold kgc
  simp only [lenI_lt.2 hi,if_true,kaS hi,Option.bind_some,kav (show i<9223372036854775807 by omega)]
  split <;> rfl) (by unfold kgc; rw [if_neg kaT])]
 have key:(s.zipIdx.any fun x=>x.1 != (x.2:Int))=false↔ordB l l.length:=by
  rw [←kqs h2 h3,Bool.eq_false_iff,Ne,List.any_eq_true]
  constructor
  ·intro h k hk
   by_cases e:la s k=(k:Int)
   ·exact e
   ·refine absurd ⟨(s[k],k),List.mem_zipIdx_iff_getElem?.2 (by simp [List.getElem?_eq_getElem hk]),?_⟩ h
    have:la s k=s[k]:=by unfold la; rw [List.getD_eq_getElem?_getD,List.getElem?_eq_getElem hk]; rfl
    rw [this] at e
    simpa using e
  ·rintro h ⟨⟨x,k⟩,hm,hx⟩
   have hk:=List.mem_zipIdx_iff_getElem?.1 hm
   simp only at hk
   obtain ⟨hk1,hk2⟩:=List.getElem?_eq_some_iff.1 hk
   have:=h k hk1
   unfold la at this
   rw [List.getD_eq_getElem?_getD,hk] at this
   simp at this hx
   exact hx this
 cases hc:(s.zipIdx.any fun x=>x.1 != (x.2:Int)) with
 | true=>
  have:¬ ordB l n:=fun h=>by
   have h':ordB l l.length:=by rw [h.1]; exact ⟨h.1,h.2⟩
   rw [key.2 h'] at hc; cases hc
  simp [this]
 | false=>
  have h':=key.1 hc
  simp only [Bool.false_eq_true,if_false,Option.bind_some,kan]
  congr 1
  by_cases e:l.length=n
  ·subst e; simp [h']
  ·have:¬ ordB l n:=fun h=>e h.1
   have e2:¬ ((l.length:Int)=(n:Int)):=by omega
   simp [this,e2]
end Go.Abs
namespace Go.Abs
open Go Go.Abs.Fl
theorem kkT (n lo hi:Int):kfs n lo hi=some (wi lo hi n):=by
 unfold kfs wi; by_cases h:lo≤n <;> simp [h]
open Classical in
theorem koE (l:List Int) {n:Nat} (hn:n≤1000):kcK l (n:Int)=some (decide (ordB l n)):=by
 unfold kcK
 by_cases hl:l.length=n
 ·rw [if_neg (by rw [kan,hl]; simp)]
  have hg:gmk (n:Int) false=some (List.replicate n false):=by
   unfold gmk
   rw [if_pos (by omega),Int.toNat_natCast]
  rw [hg]
  simp only [Option.bind_some]
  have h0:∀ j,sa (List.replicate n false) j=false:=fun j=>by
   unfold sa
   rw [List.getD_eq_getElem?_getD,List.getElem?_replicate]
   split <;> rfl
  obtain ⟨z,hz,hR⟩:=Fl.iter_inv (F:=kcc l (n:Int))
   (fun x=>∃ (i:Nat) (s:List Bool),i≤n∧x=((i:Int),s)∧s.length=n∧(∀ x∈l.take i,0≤x∧x<n)∧(l.take i).Nodup∧∀ v,v<n→(sa s v=true↔(v:Int)∈l.take i)) (fun x=>n-x.1.toNat)
   (fun z=>(z = .inl false∧¬ ordB l n)∨(z = .inr ()∧ordB l n))
   (fun x hx=>by
    obtain ⟨i,s,hi,rfl,hs,a,b,c⟩:=hx
    by_cases hlt:i<n
    ·have hi':i<l.length:=by omega
     have g1:gi l (i:Int)=some l[i]:=kaS hi'
     have hw:w64 ((n:Int)-1)=(n:Int)-1:=kfq (by omega) (by omega)
     have hd:decide ((i:Int)<(n:Int))=true:=decide_eq_true (by omega)
     have htk:l.take (i+1)=l.take i++[l[i]]:=by rw [List.take_add_one,List.getElem?_eq_getElem hi']; rfl
     by_cases h1:wi 0 ((n:Int)-1) l[i]=true
     ·obtain ⟨x0,x1⟩:=wi_iff.1 h1
      obtain ⟨v,hv⟩:∃ v:Nat,l[i]=(v:Int):=⟨l[i].toNat,by omega⟩
      have hvn:v<n:=by omega
      have g2:gi s (v:Int)=some (sa s v):=Fl.gs hs hvn
      cases hsv:sa s v with
      | true=>
       refine .inl ⟨.inl false,?_,.inl ⟨rfl,fun h=>?_⟩⟩
       ·unfold kcc
        simp only [hd,if_true,g1,Option.bind_some,hw,kkT,h1,Bool.not_true,Bool.false_eq_true,if_false]
        simp only [hv,g2,hsv,Option.bind_some,if_true]
       ·have hm:=(c v hvn).1 hsv
        rw [←hv] at hm
        have:=h.2.2
        rw [←List.take_append_drop i l,List.nodup_append] at this
        refine this.2.2 _ hm l[i] ?_ rfl
        rw [List.drop_eq_getElem_cons hi']; exact List.mem_cons_self ..
      | false=>
       refine .inr ⟨((i+1:Nat),s.set v true),?_,⟨i+1,_,by omega,rfl,by simp [hs],fun x hx=>?_,?_,fun v' hv'=>?_⟩,by simp only [Int.toNat_natCast]; omega⟩
       ·unfold kcc
        simp only [hd,if_true,g1,Option.bind_some,hw,kkT,h1,Bool.not_true,Bool.false_eq_true,if_false,kav (show i<9223372036854775807 by omega)]
        simp only [hv,g2,hsv,Option.bind_some,Bool.false_eq_true,if_false]
        rfl
       ·rw [htk,List.mem_append,List.mem_singleton] at hx
        rcases hx with hx | rfl
        ·exact a x hx
        ·omega
       ·rw [htk,List.nodup_append]
        refine ⟨b,by simp,fun x hx y hy e=>?_⟩
        rw [List.mem_singleton] at hy
        subst hy; subst e
        rw [hv] at hx
        rw [(c v hvn).2 hx] at hsv; cases hsv
       ·rw [kjM (by omega),htk,List.mem_append,List.mem_singleton,hv]
        by_cases e:v'=v
        ·subst e; simp
        ·rw [if_neg e,c v' hv']
         constructor
         ·exact .inl
         ·rintro (h | h)
          ·exact h
          ·omega
     ·rw [Bool.not_eq_true] at h1
      refine .inl ⟨.inl false,?_,.inl ⟨rfl,fun h=>?_⟩⟩
      ·unfold kcc
       simp only [hd,if_true,g1,Option.bind_some,hw,kkT,h1,Bool.not_false]
      ·have:=h.2.1 l[i] (List.getElem_mem hi')
       have:wi 0 ((n:Int)-1) l[i]=true:=wi_iff.2 (by omega)
       rw [h1] at this; cases this
    ·have:i=n:=by omega
     subst this
     refine .inl ⟨.inr (),?_,.inr ⟨rfl,hl,?_,?_⟩⟩
     ·unfold kcc
      have:decide ((i:Int)<(i:Int))=false:=decide_eq_false (by omega)
      simp only [this,Bool.false_eq_true,if_false]
     ·rw [←hl,List.take_length] at a; rw [←hl]; exact a
     ·rw [←hl,List.take_length] at b; exact b)
   (0,List.replicate n false) ⟨0,_,by omega,rfl,by simp,by simp,by simp,fun v _=>by rw [h0]; simp⟩ (by simp only; omega)
  rw [hz]
  rcases hR with ⟨rfl,h⟩ | ⟨rfl,h⟩ <;> simp [h]
 ·rw [if_pos (by rw [kan]; simp; omega)]
  have:¬ ordB l n:=fun h=>hl h.1
  simp [this]
def wishB (W:List (List Int)):Prop:=1≤W.length∧W.length≤8∧∀ l∈W,ordB l W.length
open Classical in
theorem kiU {W:List (List Int)} (hW:∀ l∈W,l.length≤12):keG W=some (decide (wishB W)):=by
 unfold keG
 have hf:kiH 1 8 (lenI W)=some (wi 1 8 (lenI W)):=by
  unfold kiH wi; by_cases h:(1:Int)≤lenI W <;> simp [h]
 rw [hf]
 simp only [Option.bind_some]
 by_cases h:wi 1 8 (lenI W)=true
 ·rw [if_pos h]
  have h':=wi_iff.1 h
  rw [kan] at h'
  unfold kbg kbt
  let q:List Int→Bool:=fun l=>!decide (ordB l W.length)
  rw [klr (F:=kaM W _) W (by omega) (fun i x=>if q x then some (i:Int) else none) (fun i hi=>by
   unfold kaM
   have he:kef W[i] (lenI W)=some (q W[i]):=by
    unfold kef
    rw [kan,kql (hW _ (List.getElem_mem hi)) W.length]; rfl
   simp only [lenI_lt.2 hi,if_true,kaS hi,Option.bind_some,he,kav (show i<9223372036854775807 by omega)]
   cases q W[i] <;> rfl) (by unfold kaM; rw [if_neg kaT])]
  have:∀ (l:List (List Int)) (k:Nat),(endL ((l.zipIdx k).findSome? fun x=>if q x.1 then some (x.2:Int) else none) = .inr ()∧l.any q=false)∨∃ p:Int,0≤p∧endL ((l.zipIdx k).findSome? fun x=>if q x.1 then some (x.2:Int) else none) = .inl p∧l.any q=true:=by
   intro l
   induction l with
   | nil=>intro k; exact .inl ⟨rfl,rfl⟩
   | cons x l ih=>
    intro k
    rw [List.zipIdx_cons,List.findSome?_cons,List.any_cons]
    cases hp:q x with
    | true=>exact .inr ⟨k,by omega,by simp [endL],by simp⟩
    | false=>
     simp only [Bool.false_eq_true,if_false,Bool.false_or]
     exact ih (k+1)
  rcases this W 0 with ⟨h1,h2⟩ | ⟨p,hp,h1,h2⟩
  ·rw [h1]
   have:wishB W:=⟨by omega,by omega,fun l hl=>by
    rw [List.any_eq_false] at h2
    have:=h2 l hl
    simpa [q] using this⟩
   simp [this]
  ·rw [h1]
   have:¬ wishB W:=fun hw=>by
    obtain ⟨l,hl,hq⟩:=List.any_eq_true.1 h2
    simp [q,hw.2.2 l hl] at hq
   simp only [Option.bind_some,decide_eq_true hp]
   simp [this]
 ·rw [if_neg h]
  have:¬ wishB W:=fun hw=>h (wi_iff.2 (by rw [kan]; have:=hw.1; have:=hw.2.1; omega))
  simp [this]
open Classical in
theorem kjO {W:List (List Int)}:kdL W=some (decide (wishB W)):=by
 unfold kdL
 by_cases h1:lenI W<1
 ·have:¬ wishB W:=fun hw=>by rw [kan] at h1; have:=hw.1; omega
  simp [h1,this]
 ·by_cases h2:8<lenI W
  ·have:¬ wishB W:=fun hw=>by rw [kan] at h2; have:=hw.2.1; omega
   simp [h1,h2,this]
  ·rw [kan] at h1 h2
   have e1:decide (lenI W<1)=false:=decide_eq_false (by rw [kan]; exact h1)
   have e2:decide ((8:Int)<lenI W)=false:=decide_eq_false (by rw [kan]; exact h2)
   simp only [e1,e2,Bool.false_eq_true,if_false,Option.bind_some]
   rw [kgh (F:=kdD W) false W (by omega) (fun _ l=>!decide (ordB l W.length)) (fun i hi=>by
    unfold kdD
    have ho:kcK W[i] (lenI W)=some (decide (ordB W[i] W.length)):=by rw [kan]; exact koE W[i] (by omega)
    simp only [lenI_lt.2 hi,if_true,kaS hi,Option.bind_some,ho,kav (show i<9223372036854775807 by omega)]
    cases decide (ordB W[i] W.length) <;> rfl) (by unfold kdD; rw [if_neg kaT])]
   rw [kms (fun l=>!decide (ordB l W.length)) W 0,ksR]
   by_cases hw:wishB W
   ·have:(W.all fun l=>decide (ordB l W.length))=true:=List.all_eq_true.2 fun l hl=>decide_eq_true (hw.2.2 l hl)
    simp [this,hw]
   ·have:(W.all fun l=>decide (ordB l W.length))=false:=by
     rw [Bool.eq_false_iff]; intro he
     exact hw ⟨by omega,by omega,fun l hl=>of_decide_eq_true (List.all_eq_true.1 he l hl)⟩
    simp [this,hw]
end Go.Abs
namespace Go.Abs.Td
open Go Go.Abs
theorem klK:∀ {l l':List Nat},l.Nodup→(∀ x∈l,x∈l')→l.length≤l'.length
 | [],l',_,_=>Nat.zero_le _
 | a::l,l',hn,hs=>by
  rw [List.nodup_cons] at hn
  have ha:a∈l':=hs a (List.mem_cons_self ..)
  have:=klK (l:=l) (l':=l'.erase a) hn.2 fun x hx=>(List.mem_erase_of_ne (by rintro rfl; exact hn.1 hx)).2 (hs x (List.mem_cons_of_mem _ hx))
  rw [List.length_erase_of_mem ha] at this
  have:0<l'.length:=List.length_pos_of_mem ha
  simp only [List.length_cons]
  omega
def it (o:Nat→Nat):Nat→Nat→Nat
 | 0,i=>i
 | t+1,i=>o (it o t i)
theorem it_lt {o:Nat→Nat} {n:Nat} (h:∀ i,i<n→o i<n):∀ t i,i<n→it o t i<n
 | 0,i,hi=>hi
 | t+1,i,hi=>h _ (it_lt h t i hi)
theorem kex (o:Nat→Nat):∀ s t i,it o (s+t) i=it o s (it o t i)
 | 0,t,i=>by rw [Nat.zero_add]; rfl
 | s+1,t,i=>by rw [show s+1+t=(s+t)+1 by omega]; simp only [it]; rw [kex o s t i]
theorem kqO {o:Nat→Nat} {n:Nat} (h:∀ i,i<n→o i<n) (hj:∀ i j,i<n→j<n→o i=o j→i=j):∀ t i j,i<n→j<n→it o t i=it o t j→i=j
 | 0,i,j,_,_,e=>e
 | t+1,i,j,hi,hj',e=>kqO h hj t i j hi hj' (hj _ _ (it_lt h t i hi) (it_lt h t j hj') e)
theorem back {o:Nat→Nat} {n:Nat} (h:∀ i,i<n→o i<n) (hj:∀ i j,i<n→j<n→o i=o j→i=j) {i:Nat} (hi:i<n):∃ t,it o (t+1) i=i:=by
 have:∃ p q,p<q∧q≤n∧it o p i=it o q i:=by
  refine Classical.byContradiction fun hc=>?_
  have hn:((List.range (n+1)).map fun t=>it o t i).Nodup:=by
   rw [List.nodup_iff_pairwise_ne,List.pairwise_map,List.pairwise_iff_getElem]
   intro a b ha hb hab e
   simp only [List.getElem_range,List.length_range] at e ha hb
   exact hc ⟨a,b,hab,by omega,e⟩
  have:=klK (l':=List.range n) hn fun x hx=>by
   obtain ⟨t,_,rfl⟩:=List.mem_map.1 hx
   exact List.mem_range.2 (it_lt h t i hi)
  simp at this
  omega
 obtain ⟨p,q,hpq,_,e⟩:=this
 refine ⟨q-p-1,?_⟩
 have e2:it o q i=it o p (it o (q-p) i):=by rw [←kex]; congr 1; omega
 rw [e2] at e
 have:=kqO h hj p i (it o (q-p) i) hi (it_lt h _ i hi) e
 rw [show q-p-1+1=q-p by omega]
 exact this.symm
structure Rds (n:Nat) (P:Nat→Nat→Nat→Prop) (o r:Nat→Nat):Prop where
 lt:∀ i,i<n→o i<n
 inj:∀ i j,i<n→j<n→o i=o j→i=j
 b:∀ i,i<n→∀ j,j<n→P i j (o i)→r j<r i
 c:∀ i,i<n→r (o i)=r i
variable {n:Nat} {P:Nat→Nat→Nat→Prop} {o r o' r':Nat→Nat}
theorem Rds.same (h:Rds n P o r) (h':Rds n P o' r') (tot:∀ i,i<n→∀ a b,a<n→b<n→a=b∨P i a b∨P i b a):∀ i,i<n→o i=o' i:=by
 have main:∀ ρ,(∀ k,k<n→r k < ρ→o k=o' k)→∀ i,i<n→r i = ρ→o i=o' i:=by
  intro ρ ih i hi hρ
  refine Classical.byContradiction fun hne=>?_
  have weak:∀ k,k<n→r k = ρ→¬ P k (o' k) (o k):=fun k hk hr hp=>by
   have h1:=h.b k hk (o' k) (h'.lt k hk) hp
   obtain ⟨t,ht⟩:=back h.lt h.inj (h'.lt k hk)
   have hm:it o t (o' k)<n:=it_lt h.lt t _ (h'.lt k hk)
   have hrt:∀ t,r (it o t (o' k))=r (o' k):=by
    intro t
    induction t with
    | zero=>rfl
    | succ t iht=>simp only [it]; rw [h.c _ (it_lt h.lt t _ (h'.lt k hk)),iht]
   have e1:o (it o t (o' k))=o' k:=ht
   have e2:=ih _ hm (by rw [hrt t]; omega)
   rw [e1] at e2
   have:=h'.inj k (it o t (o' k)) hk hm e2
   have h3:=hrt t
   rw [←this] at h3
   omega
  have step:∀ k,k<n→r k = ρ→r' (o k)≤r' k:=fun k hk hr=>by
   by_cases e:o k=o' k
   ·rw [e,h'.c k hk]; exact Nat.le_refl _
   ·rcases tot k hk (o k) (o' k) (h.lt k hk) (h'.lt k hk) with e2 | e2 | e2
    ·exact absurd e2 e
    ·exact Nat.le_of_lt (h'.b k hk (o k) (h.lt k hk) e2)
    ·exact absurd e2 (weak k hk hr)
  have strict:r' (o i)<r' i:=by
   rcases tot i hi (o i) (o' i) (h.lt i hi) (h'.lt i hi) with e2 | e2 | e2
   ·exact absurd e2 hne
   ·exact h'.b i hi (o i) (h.lt i hi) e2
   ·exact absurd e2 (weak i hi hρ)
  obtain ⟨t,ht⟩:=back h.lt h.inj hi
  have hrt:∀ t,r (it o t i) = ρ:=by
   intro t
   induction t with
   | zero=>exact hρ
   | succ t iht=>simp only [it]; rw [h.c _ (it_lt h.lt t i hi),iht]
  have dec:∀ t,r' (it o (t+1) i)≤r' (o i):=by
   intro t
   induction t with
   | zero=>exact Nat.le_refl _
   | succ t iht=>exact Nat.le_trans (step _ (it_lt h.lt (t+1) i hi) (hrt (t+1))) iht
  have:=dec t
  rw [ht] at this
  omega
 have all:∀ ρ,∀ k,k<n→r k < ρ→o k=o' k:=by
  intro ρ
  induction ρ with
  | zero=>intro k _ h; omega
  | succ ρ ih=>
   intro k hk hr
   by_cases e:r k = ρ
   ·exact main ρ ih k hk e
   ·exact ih k hk (by omega)
 exact fun i hi=>all (r i+1) i hi (by omega)
end Go.Abs.Td
namespace Go.Abs.Td
open Go Go.Abs
theorem circ {f:Nat→Nat} {n:Nat} (h:∀ i,i<n→f i<n) {i:Nat} (hi:i<n):∃ d,1≤d∧d≤n∧it f d (it f n i)=it f n i:=by
 have:∃ p q,p<q∧q≤n∧it f p i=it f q i:=by
  refine Classical.byContradiction fun hc=>?_
  have hn:((List.range (n+1)).map fun t=>it f t i).Nodup:=by
   rw [List.nodup_iff_pairwise_ne,List.pairwise_map,List.pairwise_iff_getElem]
   intro a b ha hb hab e
   simp only [List.getElem_range,List.length_range] at e ha hb
   exact hc ⟨a,b,hab,by omega,e⟩
  have:=klK (l':=List.range n) hn fun x hx=>by
   obtain ⟨t,_,rfl⟩:=List.mem_map.1 hx
   exact List.mem_range.2 (it_lt h t i hi)
  simp at this
  omega
 obtain ⟨p,q,hpq,hq,e⟩:=this
 refine ⟨q-p,by omega,by omega,?_⟩
 have e1:it f n i=it f (n-p) (it f p i):=by rw [←kex]; congr 1; omega
 have e2:it f (q-p) (it f n i)=it f (n-p) (it f q i):=by rw [←kex,←kex]; congr 1; omega
 rw [e2,←e,←e1]
def On (f:Nat→Nat) (n k:Nat):Prop:=∃ d,1≤d∧d≤n∧it f d k=k
theorem ksG (f:Nat→Nat) (t i:Nat):it f t (f i)=f (it f t i):=by
 have a:=kex f t 1 i
 simp only [it] at a
 exact a.symm
theorem On.next {f:Nat→Nat} {n k:Nat} (h:On f n k):On f n (f k):=by
 obtain ⟨d,h1,h2,h3⟩:=h
 exact ⟨d,h1,h2,by rw [ksG,h3]⟩
theorem per {f:Nat→Nat} {d k:Nat} (h:it f d k=k):∀ m,it f (m*d) k=k
 | 0=>by rw [Nat.zero_mul]; rfl
 | m+1=>by rw [Nat.succ_mul,kex,h,per h m]
theorem On.inj {f:Nat→Nat} {n k k':Nat} (h:On f n k) (h':On f n k') (e:f k=f k'):k=k':=by
 obtain ⟨d,h1,_,h3⟩:=h
 obtain ⟨d',h1',_,h3'⟩:=h'
 have a:it f (d'*d) k=k:=per h3 d'
 have b:it f (d*d') k'=k':=per h3' d
 have hd:d'*d=(d'*d-1)+1:=by
  have:0<d'*d:=Nat.mul_pos (by omega) (by omega)
  omega
 have c:∀ x,it f (d'*d) x=it f (d'*d-1) (f x):=fun x=>by
  rw [hd,show d'*d-1+1-1=d'*d-1 by omega,kex]; rfl
 rw [Nat.mul_comm d d'] at b
 rw [←a,←b,c k,c k',e]
structure PS (n:Nat) (P:Nat→Nat→Nat→Prop) (g:Nat→Int) (r:Nat→Nat) (R:Nat):Prop where
 v:∀ k,k<n→0≤g k→g k<n∧0≤g (g k).toNat∧r (g k).toNat=r k∧r k<R
 inj:∀ i j,i<n→j<n→0≤g i→g i=g j→i=j
 b:∀ i,i<n→0≤g i→∀ j,j<n→P i j (g i).toNat→0≤g j∧r j<r i
variable {n:Nat} {P:Nat→Nat→Nat→Prop} {g g':Nat→Int} {r:Nat→Nat} {R:Nat}
theorem PS.none (h:∀ k,k<n→g k<0):PS n P g r R:=⟨fun k hk h0=>by have:=h k hk; omega,fun i j hi _ h0=>by have:=h i hi; omega,fun i hi h0=>by have:=h i hi; omega⟩
theorem PS.rds (h:PS n P g r R) (all:∀ k,k<n→0≤g k):Rds n P (fun k=>(g k).toNat) r:=
 ⟨fun i hi=>by have:=(h.v i hi (all i hi)).1; have:=all i hi; show (g i).toNat<n; omega,fun i j hi hj e=>h.inj i j hi hj (all i hi) (by have:=all i hi; have:=all j hj; have e':(g i).toNat=(g j).toNat:=e; omega),fun i hi j hj hp=>(h.b i hi (all i hi) j hj hp).2,fun i hi=>(h.v i hi (all i hi)).2.2.1⟩
theorem PS.step (h:PS n P g r R) (f:Nat→Nat) (C:Nat→Prop) (hC:∀ k,C k→k<n∧g k<0∧C (f k)) (hf:∀ i j,C i→C j→f i=f j→i=j)
  (hb:∀ k,C k→∀ j,j<n→P k j (f k)→0≤g j) (g1:∀ k,C k→g' k=f k) (g2:∀ k,k<n→¬ C k→g' k=g k):∃ r',PS n P g' r' (R+1):=by
 classical
 have old:∀ k,k<n→0≤g k→¬ C k:=fun k _ h0 hc=>by have:=(hC k hc).2.1; omega
 refine ⟨fun k=>if C k then R else r k,⟨fun k hk h0=>?_,fun i j hi hj h0 e=>?_,fun i hi h0 j hj hp=>?_⟩⟩
 ·by_cases c:C k
  ·have c':=(hC k c).2.2
   rw [g1 k c]
   simp only [Int.toNat_natCast]
   refine ⟨by have:=(hC _ c').1; omega,by rw [g1 _ c']; omega,by rw [if_pos c',if_pos c],by rw [if_pos c]; omega⟩
  ·rw [g2 k hk c] at h0 ⊢
   obtain ⟨a,b,d,e⟩:=h.v k hk h0
   have hlt:(g k).toNat<n:=by omega
   have hn:=old _ hlt b
   exact ⟨a,by rw [g2 _ hlt hn]; exact b,by rw [if_neg hn,if_neg c]; exact d,by rw [if_neg c]; omega⟩
 ·by_cases ci:C i
  ·by_cases cj:C j
   ·rw [g1 i ci,g1 j cj] at e
    exact hf i j ci cj (by omega)
   ·rw [g1 i ci,g2 j hj cj] at e
    have a:=(h.v j hj (by omega)).2.1
    rw [←e,Int.toNat_natCast] at a
    have:=(hC _ (hC i ci).2.2).2.1
    omega
  ·rw [g2 i hi ci] at h0 e
   by_cases cj:C j
   ·rw [g1 j cj] at e
    have a:=(h.v i hi h0).2.1
    rw [e,Int.toNat_natCast] at a
    have:=(hC _ (hC j cj).2.2).2.1
    omega
   ·rw [g2 j hj cj] at e
    exact h.inj i j hi hj h0 e
 ·by_cases ci:C i
  ·rw [g1 i ci,Int.toNat_natCast] at hp
   have a:=hb i ci j hj hp
   have nj:=old j hj a
   rw [g2 j hj nj,if_neg nj,if_pos ci]
   exact ⟨a,(h.v j hj a).2.2.2⟩
  ·rw [g2 i hi ci] at h0 hp
   obtain ⟨a,b⟩:=h.b i hi h0 j hj hp
   have nj:=old j hj a
   rw [g2 j hj nj,if_neg nj,if_neg ci]
   exact ⟨a,b⟩
end Go.Abs.Td
namespace Go.Abs
open Go Go.Abs.Fl Go.Abs.Td
def Lik (W:List (List Int)) (k a b:Nat):Prop:=∃ p q:Nat,p<q∧(W.getD k [])[p]?=some (a:Int)∧(W.getD k [])[q]?=some (b:Int)
theorem ksx {α:Type} {l:List α} {k:Nat} {d:α} (h:k<l.length):l.getD k d=l[k]:=by rw [List.getD_eq_getElem?_getD,List.getElem?_eq_getElem h]; rfl
theorem kfc {W:List (List Int)} (h:wishB W) {k:Nat} (hk:k<W.length):ordB (W.getD k []) W.length:=by
 rw [ksx hk]; exact h.2.2 _ (List.getElem_mem hk)
theorem khZ {l:List Int} {n:Nat} (h:ordB l n) {a:Nat} (ha:a<n):(a:Int)∈l:=by
 refine Classical.byContradiction fun hc=>?_
 have hm:(l.map Int.toNat).Nodup:=by
  rw [List.nodup_iff_pairwise_ne,List.pairwise_map]
  refine List.Pairwise.imp_of_mem ?_ (List.nodup_iff_pairwise_ne.1 h.2.2)
  intro x y hx hy hne e
  have:=h.2.1 x hx
  have:=h.2.1 y hy
  omega
 have:=klK (l:=l.map Int.toNat) (l':=(List.range n).erase a) hm fun x hx=>by
  obtain ⟨y,hy,rfl⟩:=List.mem_map.1 hx
  have:=h.2.1 y hy
  refine (List.mem_erase_of_ne ?_).2 (List.mem_range.2 (by omega))
  intro e
  refine hc ?_
  have:(a:Int)=y:=by omega
  rw [this]; exact hy
 rw [List.length_erase_of_mem (List.mem_range.2 ha)] at this
 simp [h.1] at this
 omega
theorem ksC {W:List (List Int)} (h:wishB W) (k:Nat) (hk:k<W.length) (a b:Nat) (ha:a<W.length) (hb:b<W.length):a=b∨Lik W k a b∨Lik W k b a:=by
 have o:=kfc h hk
 obtain ⟨p,hp,ep⟩:=List.mem_iff_getElem.1 (khZ o ha)
 obtain ⟨q,hq,eq⟩:=List.mem_iff_getElem.1 (khZ o hb)
 rcases Nat.lt_trichotomy p q with c | c | c
 ·exact .inr (.inl ⟨p,q,c,by rw [List.getElem?_eq_getElem hp,ep],by rw [List.getElem?_eq_getElem hq,eq]⟩)
 ·subst c; rw [ep] at eq; left; omega
 ·exact .inr (.inr ⟨q,p,c,by rw [List.getElem?_eq_getElem hq,eq],by rw [List.getElem?_eq_getElem hp,ep]⟩)
structure Best (W:List (List Int)) (g:Nat→Int) (k a:Nat):Prop where
 lt:a<W.length
 free:g a<0
 b:∀ j,j<W.length→Lik W k j a→0≤g j
theorem klI {W:List (List Int)} (h:wishB W) {g:Nat→Int} {k:Nat} (hk:k<W.length) {p:Nat} (hp:p<(W.getD k []).length) (hf:g (W.getD k [])[p].toNat<0) (hb:∀ p' (h':p'<(W.getD k []).length),p'<p→0≤g (W.getD k [])[p'].toNat):Best W g k (W.getD k [])[p].toNat:=by
 have o:=kfc h hk
 have hx:=o.2.1 _ (List.getElem_mem hp)
 refine ⟨by omega,hf,fun j hj hl=>?_⟩
 obtain ⟨p',q,hpq,e1,e2⟩:=hl
 obtain ⟨h1,h1'⟩:=List.getElem?_eq_some_iff.1 e1
 obtain ⟨h2,h2'⟩:=List.getElem?_eq_some_iff.1 e2
 have:q=p:=by
  have hq:(W.getD k [])[q]=(W.getD k [])[p]:=by rw [h2']; omega
  exact (List.getElem_inj o.2.2).1 hq
 subst this
 have:=hb p' h1 hpq
 rw [h1',Int.toNat_natCast] at this
 exact this
theorem kqS {W:List (List Int)} (h:wishB W) {O:List Int} (hO:O.length=W.length) {k:Nat} (hk:k<W.length) (hx:∃ a,a<W.length∧la O a<0):∃ a:Nat,kaQ (k:Int) W O=some (a:Int)∧Best W (la O) k a:=by
 have o:=kfc h hk
 have h8:=h.2.1
 generalize hl:W.getD k []=l at o
 have hlen:=o.1
 obtain ⟨z,hz,p,hp,rfl,hf,hb⟩:=Fl.iter_inv (F:=kaV l (fun u0:Int=>((kcy u0 O).bind fun u1=>(some u1))))
  (fun x=>∃ i:Nat,i≤l.length∧x=(i:Int)∧∀ p' (h':p'<l.length),p'<i→0≤la O l[p'].toNat) (fun x=>l.length-x.toNat)
  (fun z=>∃ (p:Nat) (hp:p<l.length),z = .inl (p:Int)∧la O l[p].toNat<0∧∀ p' (h':p'<l.length),p'<p→0≤la O l[p'].toNat)
  (fun x hx'=>by
   obtain ⟨i,hi,rfl,hb⟩:=hx'
   by_cases hlt:i<l.length
   ·have hw:=o.2.1 _ (List.getElem_mem hlt)
    have hg:gi O l[i]=some (la O l[i].toNat):=by
     have e:l[i]=((l[i].toNat:Nat):Int):=by omega
     conv=>lhs; rw [e]
     exact gi_D 0 (by omega)
    by_cases hn:la O l[i].toNat<0
    ·refine .inl ⟨.inl (i:Int),?_,i,hlt,rfl,hn,hb⟩
     unfold kaV
     simp only [lenI_lt.2 hlt,if_true,kaS hlt,Option.bind_some,kcy,hg,decide_eq_true hn]
    ·refine .inr ⟨((i+1:Nat):Int),?_,⟨i+1,by omega,rfl,fun p' h' hp'=>?_⟩,by simp only [Int.toNat_natCast]; omega⟩
     ·unfold kaV
      simp only [lenI_lt.2 hlt,if_true,kaS hlt,Option.bind_some,kcy,hg,decide_eq_false hn,Bool.false_eq_true,if_false,kav (show i<9223372036854775807 by omega)]
     ·by_cases e:p'=i
      ·subst e; omega
      ·exact hb p' h' (by omega)
   ·exfalso
    obtain ⟨a,ha,hn⟩:=hx
    obtain ⟨p,hp,e⟩:=List.mem_iff_getElem.1 (khZ o ha)
    have:=hb p hp (by omega)
    rw [e,Int.toNat_natCast] at this
    omega)
  0 ⟨0,by omega,rfl,fun p' _ h=>by omega⟩ (by have:=o.1; simp; omega)
 have hw:=o.2.1 _ (List.getElem_mem hp)
 refine ⟨l[p].toNat,?_,?_⟩
 ·unfold kaQ kbR
  have gW:gi W (k:Int)=some l:=by rw [←hl]; exact gi_D [] hk
  simp only [gW,Option.bind_some,hz,kaS hp]
  congr 1; omega
 ·subst hl
  exact klI h hk hp hf hb
end Go.Abs
namespace Go.Abs
open Go Go.Abs.Fl Go.Abs.Td
section
variable {W:List (List Int)} {O:List Int} {f:Nat→Nat}
theorem ktI (hW:W.length≤8) (hf:∀ k,k<W.length→kaQ (k:Int) W O=some (f k:Int)) (hlt:∀ k,k<W.length→f k<W.length) {i:Nat} (hi:i<W.length):iter (kdV W O) (0,(i:Int))=some (it f W.length i:Int):=by
 obtain ⟨z,hz,rfl⟩:=Fl.iter_inv (F:=kdV W O) (fun x=>∃ t:Nat,t≤W.length∧x=((t:Int),(it f t i:Int))) (fun x=>W.length-x.1.toNat) (fun z=>z=(it f W.length i:Int))
  (fun x hx=>by
   obtain ⟨t,ht,rfl⟩:=hx
   by_cases hl:t<W.length
   ·refine .inr ⟨((t+1:Nat),(it f (t+1) i:Int)),?_,⟨t+1,by omega,rfl⟩,by simp only [Int.toNat_natCast]; omega⟩
    unfold kdV
    simp only [lenI_lt.2 hl,if_true,hf _ (it_lt hlt t i hi),Option.bind_some,kav (show t<9223372036854775807 by omega)]
    rfl
   ·have:t=W.length:=by omega
    subst this
    refine .inl ⟨_,?_,rfl⟩
    unfold kdV
    rw [if_neg kaT])
  (0,(i:Int)) ⟨0,by omega,rfl⟩ (by simp only; omega)
 exact hz
def cyc (f:Nat→Nat) (k t:Nat):List Nat:=(List.range t).map fun s=>it f s k
theorem kse (f:Nat→Nat) (k t:Nat):cyc f k (t+1)=cyc f k t++[it f t k]:=by unfold cyc; rw [List.range_succ,List.map_append]; rfl
theorem ksp (hW:W.length≤8) (hf:∀ k,k<W.length→kaQ (k:Int) W O=some (f k:Int)) (hlt:∀ k,k<W.length→f k<W.length) {k:Nat} (hk:k<W.length) (hc:∃ d,1≤d∧d≤W.length∧it f d k=k) :
  ∃ t,1≤t∧t≤W.length∧it f t k=k∧iter (keb W O (k:Int)) ((f k:Int),[(k:Int)])=some ((cyc f k t).map fun x:Nat=>(x:Int)):=by
 obtain ⟨d,d1,d2,d3⟩:=hc
 obtain ⟨z,hz,t,t1,t2,t3,rfl⟩:=Fl.iter_inv (F:=keb W O (k:Int))
  (fun x=>∃ t:Nat,1≤t∧t≤d∧x=((it f t k:Int),(cyc f k t).map fun x:Nat=>(x:Int))∧∀ s,1≤s→s<t→it f s k≠k) (fun x=>d-x.2.length)
  (fun z=>∃ t,1≤t∧t≤W.length∧it f t k=k∧z=(cyc f k t).map fun x:Nat=>(x:Int))
  (fun x hx=>by
   obtain ⟨t,t1,t2,rfl,hs⟩:=hx
   by_cases he:it f t k=k
   ·refine .inl ⟨(cyc f k t).map fun x:Nat=>(x:Int),?_,t,t1,by omega,he,rfl⟩
    unfold keb
    simp only [he]
    rw [if_neg (by simp)]
   ·have htd:t<d:=by
     by_cases e:t=d
     ·subst e; exact absurd d3 he
     ·omega
    have hl:(cyc f k t).length=t:=by simp [cyc]
    refine .inr ⟨((it f (t+1) k:Int),(cyc f k (t+1)).map fun x:Nat=>(x:Int)),?_,⟨t+1,by omega,by omega,rfl,fun s s1 s2=>?_⟩,by simp only [List.length_map,hl,show (cyc f k (t+1)).length=t+1 by simp [cyc]]; omega⟩
    ·have hne:((it f t k:Int) != (k:Int))=true:=by simp; omega
     have hg:gapp ((cyc f k t).map fun x:Nat=>(x:Int)) [(it f t k:Int)]=some ((cyc f k (t+1)).map fun x:Nat=>(x:Int)):=by
      rw [kjm (by simp [hl]; omega),kse,List.map_append]; rfl
     unfold keb
     simp only [hne,if_true,hg,Option.bind_some,hf _ (it_lt hlt t k hk)]
     rfl
    ·by_cases e:s=t
     ·subst e; exact he
     ·exact hs s s1 (by omega))
  ((f k:Int),[(k:Int)]) ⟨1,by omega,d1,rfl,fun s s1 s2=>by omega⟩ (by simp only; omega)
 exact ⟨t,t1,t2,t3,hz⟩
theorem ktn (hf:∀ k,k<W.length→kaQ (k:Int) W O=some (f k:Int)) {C:List Nat} (hC:∀ x∈C,x<W.length) (hl:C.length≤1000):iter (kdX W O (C.map fun x:Nat=>(x:Int))) (0,[])=some (C.map fun x=>(f x:Int)):=by
 obtain ⟨z,hz,rfl⟩:=Fl.iter_inv (F:=kdX W O (C.map fun x:Nat=>(x:Int))) (fun x=>∃ i:Nat,i≤C.length∧x=((i:Int),(C.take i).map fun x=>(f x:Int))) (fun x=>C.length-x.1.toNat) (fun z=>z=C.map fun x=>(f x:Int))
  (fun x hx=>by
   obtain ⟨i,hi,rfl⟩:=hx
   by_cases hlt:i<C.length
   ·have g:gi (C.map fun x:Nat=>(x:Int)) (i:Int)=some (C[i]:Int):=by rw [kaS (by simpa using hlt)]; simp
    have e:C.take (i+1)=C.take i++[C[i]]:=by rw [List.take_add_one,List.getElem?_eq_getElem hlt]; rfl
    have hg:gapp ((C.take i).map fun x=>(f x:Int)) [(f C[i]:Int)]=some ((C.take (i+1)).map fun x=>(f x:Int)):=by
     rw [kjm (by simp; omega),e,List.map_append]; rfl
    refine .inr ⟨((i+1:Nat),(C.take (i+1)).map fun x=>(f x:Int)),?_,⟨i+1,by omega,rfl⟩,by simp only [Int.toNat_natCast]; omega⟩
    have hll:decide ((i:Int)<lenI (C.map fun x:Nat=>(x:Int)))=true:=lenI_lt.2 (by simpa using hlt)
    unfold kdX
    simp only [hll,if_true,g,Option.bind_some,hf _ (hC _ (List.getElem_mem hlt)),hg,kav (show i<9223372036854775807 by omega)]
   ·have:i=C.length:=by omega
    subst this
    refine .inl ⟨C.map fun x=>(f x:Int),?_,rfl⟩
    rw [List.take_length]
    unfold kdX
    rw [if_neg (by rw [kan]; simp)])
  (0,[]) ⟨0,by omega,rfl⟩ (by simp only; omega)
 exact hz
theorem ktt {C:List Nat} (hC:∀ x∈C,x<O.length) (hl:C.length≤1000):∃ O',iter (kdK (C.map fun x:Nat=>(x:Int)) (C.map fun x=>(f x:Int))) (0,O)=some O'∧O'.length=O.length∧(∀ x,x∈C→la O' x=f x)∧∀ x,x∉C→la O' x=la O x:=by
 obtain ⟨z,hz,a,b,c⟩:=Fl.iter_inv (F:=kdK (C.map fun x:Nat=>(x:Int)) (C.map fun x=>(f x:Int)))
  (fun x=>∃ (i:Nat) (O':List Int),i≤C.length∧x=((i:Int),O')∧O'.length=O.length∧(∀ x,x∈C.take i→la O' x=f x)∧∀ x,x∉C.take i→la O' x=la O x) (fun x=>C.length-x.1.toNat)
  (fun O'=>O'.length=O.length∧(∀ x,x∈C→la O' x=f x)∧∀ x,x∉C→la O' x=la O x)
  (fun x hx=>by
   obtain ⟨i,O',hi,rfl,a,b,c⟩:=hx
   by_cases hlt:i<C.length
   ·have g:gi (C.map fun x:Nat=>(x:Int)) (i:Int)=some (C[i]:Int):=by rw [kaS (by simpa using hlt)]; simp
    have g2:gi (C.map fun x=>(f x:Int)) (i:Int)=some (f C[i]:Int):=by rw [kaS (by simpa using hlt)]; simp
    have hx:=hC _ (List.getElem_mem hlt)
    have g3:gi O' (C[i]:Int)=some (la O' C[i]):=gi_D 0 (by omega)
    have e:C.take (i+1)=C.take i++[C[i]]:=by rw [List.take_add_one,List.getElem?_eq_getElem hlt]; rfl
    have hll:decide ((i:Int)<lenI (C.map fun x:Nat=>(x:Int)))=true:=lenI_lt.2 (by simpa using hlt)
    refine .inr ⟨((i+1:Nat),O'.set C[i] (f C[i])),?_,⟨i+1,_,by omega,rfl,by simp [a],fun x hx'=>?_,fun x hx'=>?_⟩,by simp only [Int.toNat_natCast]; omega⟩
    ·unfold kdK
     simp only [hll,if_true,g,g2,g3,Option.bind_some,kav (show i<9223372036854775807 by omega)]
     rfl
    ·rw [khp (by omega)]
     rw [e,List.mem_append,List.mem_singleton] at hx'
     by_cases q:x=C[i]
     ·rw [if_pos q,q]
     ·rw [if_neg q]; exact b x (hx'.resolve_right q)
    ·rw [e,List.mem_append,List.mem_singleton,not_or] at hx'
     rw [khp (by omega),if_neg hx'.2]
     exact c x hx'.1
   ·have:i=C.length:=by omega
    subst this
    rw [List.take_length] at b c
    refine .inl ⟨O',?_,a,b,c⟩
    unfold kdK
    rw [if_neg (by rw [kan]; simp)])
  (0,O) ⟨0,O,by omega,rfl,rfl,fun x h=>by simp at h,fun x _=>rfl⟩ (by simp only; omega)
 exact ⟨z,hz,a,b,c⟩
end
def fre (g:Nat→Int) (n:Nat):Int:=sumN (fun k=>if g k<0 then 1 else 0) n
theorem ksO {W:List (List Int)} (h:wishB W) {O:List Int} (hO:O.length=W.length) {r:Nat→Nat} {R:Nat} (hp:PS W.length (Lik W) (la O) r R) {i:Nat} (hi:i<W.length) (hn:la O i<0) (v2:kai) (h2:v2.1=i) :
  ∃ O' r',kcX W v2 O=some (.inl O')∧O'.length=W.length∧PS W.length (Lik W) (la O') r' (R+1)∧fre (la O') W.length<fre (la O) W.length∧∀ x,0≤la O x→0≤la O' x:=by
 classical
 have h8:=h.2.1
 obtain ⟨f,hf⟩:∃ f:Nat→Nat,∀ k,k<W.length→kaQ (k:Int) W O=some (f k:Int)∧Best W (la O) k (f k):=
  ⟨fun k=>if hk:k<W.length then Classical.choose (kqS h hO hk ⟨i,hi,hn⟩) else 0,fun k hk=>by
   simp only [dif_pos hk]
   exact Classical.choose_spec (kqS h hO hk ⟨i,hi,hn⟩)⟩
 have hf1:∀ k,k<W.length→kaQ (k:Int) W O=some (f k:Int):=fun k hk=>(hf k hk).1
 have hlt:∀ k,k<W.length→f k<W.length:=fun k hk=>(hf k hk).2.lt
 have hfr:∀ k,k<W.length→la O (f k)<0:=fun k hk=>(hf k hk).2.free
 have w1:=ktI (O:=O) h8 hf1 hlt hi
 generalize hkk:it f W.length i=k at w1
 have hk:k<W.length:=by rw [←hkk]; exact it_lt hlt _ _ hi
 have hkf:la O k<0:=by
  rw [←hkk,show W.length=(W.length-1)+1 by have:=h.1; omega]
  exact hfr _ (it_lt hlt _ _ hi)
 obtain ⟨d,d1,d2,d3⟩:=circ hlt hi
 rw [hkk] at d3
 obtain ⟨t,t1,t2,t3,w2⟩:=ksp (O:=O) h8 hf1 hlt hk ⟨d,d1,d2,d3⟩
 have hC:∀ x∈cyc f k t,x<W.length∧la O x<0∧f x∈cyc f k t∧Td.On f W.length x:=fun x hx=>by
  obtain ⟨s,hs,rfl⟩:=List.mem_map.1 hx
  have hs:=List.mem_range.1 hs
  refine ⟨it_lt hlt _ _ hk,?_,?_,t,t1,t2,?_⟩
  ·cases s with
   | zero=>exact hkf
   | succ s=>exact hfr _ (it_lt hlt _ _ hk)
  ·by_cases e:s+1=t
   ·have:f (it f s k)=k:=by rw [show f (it f s k)=it f (s+1) k from rfl,e,t3]
    rw [this]
    exact List.mem_map.2 ⟨0,List.mem_range.2 (by omega),rfl⟩
   ·exact List.mem_map.2 ⟨s+1,List.mem_range.2 (by omega),rfl⟩
  ·rw [←kex,Nat.add_comm,kex,t3]
 have hkC:k∈cyc f k t:=List.mem_map.2 ⟨0,List.mem_range.2 (by omega),rfl⟩
 have hlC:(cyc f k t).length≤1000:=by simp [cyc]; omega
 have w3:=ktn (O:=O) hf1 (C:=cyc f k t) (fun x hx=>(hC x hx).1) hlC
 obtain ⟨O',w4,o1,o2,o3⟩:=ktt (O:=O) (f:=f) (C:=cyc f k t) (fun x hx=>by rw [hO]; exact (hC x hx).1) hlC
 obtain ⟨r',hp'⟩:=hp.step (g':=la O') f (fun x=>x∈cyc f k t) (fun x hx=>⟨(hC x hx).1,(hC x hx).2.1,(hC x hx).2.2.1⟩) (fun a b ha hb e=>(hC a ha).2.2.2.inj (hC b hb).2.2.2 e) (fun x hx j hj hl=>(hf x (hC x hx).1).2.b j hj hl) (fun x hx=>o2 x hx) (fun x _ hx=>o3 x hx)
 refine ⟨O',r',?_,by omega,hp',?_,fun x h0=>by
  by_cases c:x∈cyc f k t
  ·rw [o2 x c]; omega
  ·rw [o3 x c]; exact h0⟩
 ·have g:gi O (i:Int)=some (la O i):=gi_D 0 (by omega)
  unfold kcX
  simp only [h2,g,Option.bind_some,decide_eq_true hn,if_true,w1,hf1 k hk,w2,w3,w4]
 ·unfold fre
  have hge:∀ x,x<W.length→0≤(if la O x<0 then (1:Int) else 0)-(if la O' x<0 then 1 else 0):=fun x hx=>by
   by_cases c:x∈cyc f k t
   ·rw [o2 x c,if_pos (hC x c).2.1,if_neg (by omega)]; decide
   ·rw [o3 x c]; omega
  have h1:=kkE hge hk
  rw [o2 k hkC,if_pos hkf,if_neg (by omega),kiR] at h1
  omega
end Go.Abs
namespace Go.Abs
open Go Go.Abs.Fl Go.Abs.Td
theorem ksb:∀ n:Nat,1≤n→n≤8→kbG [-1] (n:Int)=some (List.replicate n (-1))
 | 0,h,_=>by omega
 | 1,_,_=>by rfl
 | 2,_,_=>by rfl
 | 3,_,_=>by rfl
 | 4,_,_=>by rfl
 | 5,_,_=>by rfl
 | 6,_,_=>by rfl
 | 7,_,_=>by rfl
 | 8,_,_=>by rfl
 | n+9,_,h=>by omega
theorem krk (g:Nat→Int) (n:Nat):0≤fre g n:=kjZ fun k _=>by
 show 0≤(if g k<0 then (1:Int) else 0)
 split <;> decide
theorem kpb (g:Nat→Int):∀ n:Nat,fre g n≤n
 | 0=>by simp [fre,sumN]
 | n+1=>by
  have:=kpb g n
  unfold fre at this ⊢
  simp only [sumN]
  split <;> omega
def Tr (W:List (List Int)) (O:List Int):Prop:=O.length=W.length∧∃ r R,PS W.length (Lik W) (la O) r R
theorem one_p {W:List (List Int)} (h:wishB W) {O:List Int} (hO:Tr W O) {i:Nat} (hi:i<W.length) (v2:kai) (h2:v2.1=i):∃ O',iter (kcX W v2) O=some O'∧Tr W O'∧0≤la O' i∧∀ x,0≤la O x→0≤la O' x:=by
 have h8:=h.2.1
 obtain ⟨z,hz,a,b,c⟩:=Fl.iter_inv (F:=kcX W v2) (fun O'=>Tr W O'∧∀ x,0≤la O x→0≤la O' x) (fun O'=>(fre (la O') W.length).toNat) (fun O'=>Tr W O'∧0≤la O' i∧∀ x,0≤la O x→0≤la O' x)
  (fun O1 hx=>by
   obtain ⟨⟨l,r,R,hp⟩,hm⟩:=hx
   by_cases hn:la O1 i<0
   ·obtain ⟨O',r',e1,e2,e3,e4,e5⟩:=ksO h l hp hi hn v2 h2
    exact .inr ⟨O',e1,⟨⟨e2,r',R+1,e3⟩,fun x hx=>e5 x (hm x hx)⟩,by have:=krk (la O') W.length; omega⟩
   ·refine .inl ⟨O1,?_,⟨l,r,R,hp⟩,by omega,hm⟩
    have g:gi O1 (i:Int)=some (la O1 i):=gi_D 0 (by omega)
    unfold kcX
    simp only [h2,g,Option.bind_some,decide_eq_false hn,Bool.false_eq_true,if_false])
  O ⟨hO,fun _ h=>h⟩ (by have:=kpb (la O) W.length; omega)
 exact ⟨z,hz,a,b,c⟩
theorem ksy {W:List (List Int)} (h:wishB W) (hW:∀ l∈W,l.length≤12):∃ O r,kfd W=some (O,0)∧O.length=W.length∧(∀ k,k<W.length→0≤la O k)∧Rds W.length (Lik W) (fun k=>(la O k).toNat) r:=by
 classical
 have h8:=h.2.1
 have hr:∀ k,k<W.length→la (List.replicate W.length (-1)) k = -1:=fun k hk=>by
  unfold la
  rw [List.getD_eq_getElem?_getD,List.getElem?_replicate,if_pos hk]; rfl
 obtain ⟨z,hz,⟨a,r,R,hp⟩,b⟩:=Fl.iter_inv (F:=kfw W) (fun x=>∃ (i:Nat) (O:List Int),i≤W.length∧x=((i:Int),O)∧Tr W O∧∀ k,k<i→0≤la O k) (fun x=>W.length-x.1.toNat) (fun O=>Tr W O∧∀ k,k<W.length→0≤la O k)
  (fun x hx=>by
   obtain ⟨i,O,hi,rfl,hO,hk⟩:=hx
   by_cases hlt:i<W.length
   ·obtain ⟨O',e1,e2,e3,e4⟩:=one_p h hO hlt ((i:Int),O) rfl
    refine .inr ⟨((i+1:Nat),O'),?_,⟨i+1,O',by omega,rfl,e2,fun k hk'=>?_⟩,by simp only [Int.toNat_natCast]; omega⟩
    ·unfold kfw
     simp only [lenI_lt.2 hlt,if_true,e1,Option.bind_some,kav (show i<9223372036854775807 by omega)]
    ·by_cases e:k=i
     ·subst e; exact e3
     ·exact e4 k (hk k (by omega))
   ·have:i=W.length:=by omega
    subst this
    refine .inl ⟨O,?_,hO,hk⟩
    unfold kfw
    rw [if_neg kaT])
  (0,List.replicate W.length (-1)) ⟨0,_,by omega,rfl,⟨by simp,fun _=>0,0,PS.none fun k hk=>by rw [hr k hk]; decide⟩,fun k h=>by omega⟩ (by simp only; omega)
 refine ⟨z,r,?_,a,b,hp.rds b⟩
 unfold kfd
 rw [kiU hW,decide_eq_true h,kan,ksb W.length h.1 h8]
 simp only [Option.bind_some,Bool.not_true,Bool.false_eq_true,if_false,hz]
end Go.Abs
namespace Go.Abs
open Go Go.Abs.Fl Go.Abs.Td
def gv (G:List Bool) (T:List Int) (k:Nat):Int:=if sa G k=true then la T k else -1
section
variable {W:List (List Int)} {G:List Bool} {T:List Int}
theorem kst (h:wishB W) (hG:G.length=W.length) (hT:∀ k,sa G k=true→0≤la T k) (hx:∃ a,a<W.length∧sa G a=false) {i:Nat} (hi:i<W.length) (v3:Int×List Bool×List Int) (h3:v3.2.1=G) (v5:kai) (h5:v5.1=i) :
  ∃ p a:Nat,iter (kcY W v3 v5) 0=some (p:Int)∧gi (W.getD i []) (p:Int)=some (a:Int)∧Best W (gv G T) i a:=by
 have o:=kfc h hi
 have h8:=h.2.1
 have hfree:∀ a,sa G a=false→gv G T a<0:=fun a ha=>by unfold gv; rw [ha]; simp
 have htake:∀ a,sa G a=true→0≤gv G T a:=fun a ha=>by unfold gv; rw [if_pos ha]; exact hT a ha
 generalize hl:W.getD i []=l at o
 have hlen:=o.1
 have gW:gi W (i:Int)=some l:=by rw [←hl]; exact gi_D [] hi
 have hwn:w64 (lenI W-1)=(W.length:Int)-1:=by rw [kan]; exact kfq (by omega) (by omega)
 obtain ⟨z,hz,p,hp,rfl,hf,hb⟩:=Fl.iter_inv (F:=kcY W v3 v5)
  (fun x=>∃ k:Nat,k<l.length∧x=(k:Int)∧∀ p' (h':p'<l.length),p'<k→sa G l[p'].toNat=true) (fun x=>l.length-x.toNat)
  (fun z=>∃ (p:Nat) (hp:p<l.length),z=(p:Int)∧sa G l[p].toNat=false∧∀ p' (h':p'<l.length),p'<p→sa G l[p'].toNat=true)
  (fun x hx'=>by
   obtain ⟨k,hk,rfl,hb⟩:=hx'
   have hw:=o.2.1 _ (List.getElem_mem hk)
   have hg:gi G l[k]=some (sa G l[k].toNat):=by
    have e:l[k]=((l[k].toNat:Nat):Int):=by omega
    conv=>lhs; rw [e]
    exact Fl.gs hG (by omega)
   cases hn:sa G l[k].toNat with
   | false=>
    refine .inl ⟨(k:Int),?_,k,hk,rfl,hn,hb⟩
    unfold kcY
    simp only [h5,h3,gW,kaS hk,hg,hn,Option.bind_some,Bool.false_eq_true,if_false]
   | true=>
    have hk1:k+1<l.length:=by
     refine Classical.byContradiction fun hc=>?_
     obtain ⟨a,ha,hna⟩:=hx
     obtain ⟨p,hp,e⟩:=List.mem_iff_getElem.1 (khZ o ha)
     have ht:sa G l[p].toNat=true:=by
      by_cases q:p=k
      ·subst q; exact hn
      ·exact hb p hp (by omega)
     rw [e,Int.toNat_natCast,hna] at ht; cases ht
    refine .inr ⟨((k+1:Nat):Int),?_,⟨k+1,hk1,rfl,fun p' h' hp'=>?_⟩,by simp only [Int.toNat_natCast]; omega⟩
    ·have hd:decide ((k:Int)<(W.length:Int)-1)=true:=decide_eq_true (by omega)
     unfold kcY
     simp only [h5,h3,gW,kaS hk,hg,hn,Option.bind_some,if_true,hwn,hd,kav (show k<9223372036854775807 by omega)]
    ·by_cases q:p'=k
     ·subst q; exact hn
     ·exact hb p' h' (by omega))
  0 ⟨0,by omega,rfl,fun p' _ h=>by omega⟩ (by simp; omega)
 have hw:=o.2.1 _ (List.getElem_mem hp)
 refine ⟨p,l[p].toNat,hz,by rw [kaS hp]; congr 1; omega,?_⟩
 subst hl
 exact klI h hi hp (hfree _ hf) fun p' h' hp'=>htake _ (hb p' h' hp')
theorem ktc (h:wishB W) (hG:G.length=W.length) (hT:∀ k,sa G k=true→0≤la T k) (hx:∃ a,a<W.length∧sa G a=false) (v3:Int×List Bool×List Int) (h3:v3.2.1=G) :
  ∃ pt:List Int,iter (kcV W v3) (0,List.replicate W.length 0)=some pt∧pt.length=W.length∧∃ f:Nat→Nat,∀ k,k<W.length→la pt k=f k∧Best W (gv G T) k (f k):=by
 have h8:=h.2.1
 obtain ⟨z,hz,a,b⟩:=Fl.iter_inv (F:=kcV W v3) (fun x=>∃ (i:Nat) (pt:List Int),i≤W.length∧x=((i:Int),pt)∧pt.length=W.length∧∀ k,k<i→0≤la pt k∧Best W (gv G T) k (la pt k).toNat) (fun x=>W.length-x.1.toNat) (fun pt=>pt.length=W.length∧∀ k,k<W.length→0≤la pt k∧Best W (gv G T) k (la pt k).toNat)
  (fun x hx'=>by
   obtain ⟨i,pt,hi,rfl,a,b⟩:=hx'
   by_cases hlt:i<W.length
   ·obtain ⟨p,q,e1,e2,e3⟩:=kst h hG hT hx hlt v3 h3 ((i:Int),pt) rfl
    have gW:gi W (i:Int)=some (W.getD i []):=gi_D [] hlt
    have g:gi pt (i:Int)=some (la pt i):=gi_D 0 (by omega)
    refine .inr ⟨((i+1:Nat),pt.set i q),?_,⟨i+1,_,by omega,rfl,by simp [a],fun k hk=>?_⟩,by simp only [Int.toNat_natCast]; omega⟩
    ·unfold kcV
     simp only [lenI_lt.2 hlt,if_true,e1,gW,e2,g,Option.bind_some,kav (show i<9223372036854775807 by omega)]
     rfl
    ·rw [khp (by omega)]
     by_cases e:k=i
     ·subst e; rw [if_pos rfl,Int.toNat_natCast]; exact ⟨by omega,e3⟩
     ·rw [if_neg e]; exact b k (by omega)
   ·have:i=W.length:=by omega
    subst this
    refine .inl ⟨pt,?_,a,b⟩
    unfold kcV
    rw [if_neg kaT])
  (0,List.replicate W.length 0) ⟨0,_,by omega,rfl,by simp,fun k h=>by omega⟩ (by simp only; omega)
 exact ⟨z,hz,a,fun k=>(la z k).toNat,fun k hk=>⟨by show la z k=((la z k).toNat:Int); have:=(b k hk).1; omega,(b k hk).2⟩⟩
end
end Go.Abs
namespace Go.Abs
open Go Go.Abs.Fl Go.Abs.Td
section
variable {W:List (List Int)} {G:List Bool} {T pt:List Int} {f:Nat→Nat}
open Classical in
theorem ktH (h8:W.length≤8) (hG:G.length=W.length) (hpt:pt.length=W.length) (hf:∀ k,k<W.length→la pt k=f k) (hlt:∀ k,k<W.length→f k<W.length) {i:Nat} (hi:i<W.length) {on:List Bool} (hon:on.length=W.length) (h0:sa on i=false) (v3:Int×List Bool×List Int) (h3:v3.2.1=G) (v17:Int×List Bool) (h17:v17.1=i) :
  ∃ on',iter (kbA W v3 pt v17) (0,(i:Int),on)=some on'∧on'.length=W.length∧(sa on' i=true↔sa G i=false∧Td.On f W.length i)∧∀ k,k≠i→sa on' k=sa on k:=by
 have g0:gi G (i:Int)=some (sa G i):=Fl.gs hG hi
 cases hg:sa G i with
 | true=>
  refine ⟨on,kgS (n:=1) (kdU ?_) (by omega),hon,by rw [h0]; simp,fun k _=>rfl⟩
  unfold kbA
  simp only [h3,h17,g0,hg,Option.bind_some,Bool.not_true,Bool.false_eq_true,if_false]
  split <;> rfl
 | false=>
  obtain ⟨z,hz,a,b,c⟩:=Fl.iter_inv (F:=kbA W v3 pt v17)
   (fun x=>∃ (t:Nat) (o:List Bool),t≤W.length∧x=((t:Int),(it f t i:Int),o)∧o.length=W.length∧(sa o i=true↔∃ d,1≤d∧d≤t∧it f d i=i)∧∀ k,k≠i→sa o k=sa on k) (fun x=>W.length-x.1.toNat)
   (fun o=>o.length=W.length∧(sa o i=true↔∃ d,1≤d∧d≤W.length∧it f d i=i)∧∀ k,k≠i→sa o k=sa on k)
   (fun x hx=>by
    obtain ⟨t,o,ht,rfl,a,b,c⟩:=hx
    by_cases hl:t<W.length
    ·have g1:gi pt (it f t i:Int)=some (f (it f t i):Int):=by rw [gi_D 0 (by rw [hpt]; exact it_lt hlt t i hi)]; exact congrArg some (hf _ (it_lt hlt t i hi))
     have g2:gi o (i:Int)=some (sa o i):=Fl.gs a hi
     cases ho:sa o i with
     | true=>
      refine .inr ⟨((t+1:Nat),(it f (t+1) i:Int),o.set i true),?_,⟨t+1,_,by omega,rfl,by simp [a],?_,fun k hk=>?_⟩,by simp only [Int.toNat_natCast]; omega⟩
      ·unfold kbA
       simp only [lenI_lt.2 hl,if_true,h3,h17,g0,hg,Option.bind_some,Bool.not_false,g1,g2,ho,kav (show t<9223372036854775807 by omega)]
       rfl
      ·rw [kjM (by omega),if_pos rfl]
       obtain ⟨d,d1,d2,d3⟩:=b.1 ho
       exact ⟨fun _=>⟨d,d1,by omega,d3⟩,fun _=>rfl⟩
      ·rw [kjM (by omega),if_neg hk]; exact c k hk
     | false=>
      refine .inr ⟨((t+1:Nat),(it f (t+1) i:Int),o.set i ((f (it f t i):Int)==(i:Int))),?_,⟨t+1,_,by omega,rfl,by simp [a],?_,fun k hk=>?_⟩,by simp only [Int.toNat_natCast]; omega⟩
      ·unfold kbA
       simp only [lenI_lt.2 hl,if_true,h3,h17,g0,hg,Option.bind_some,Bool.not_false,g1,g2,ho,Bool.false_eq_true,if_false,kav (show t<9223372036854775807 by omega)]
       rfl
      ·rw [show sa (o.set i ((f (it f t i):Int)==(i:Int))) i=if i=i then ((f (it f t i):Int)==(i:Int)) else sa o i from Fl.getD_set (by omega),if_pos rfl]
       have hb:¬ ∃ d,1≤d∧d≤t∧it f d i=i:=fun h=>by rw [b.2 h] at ho; cases ho
       constructor
       ·intro e
        have e:(f (it f t i):Int)=(i:Int):=by simpa using e
        exact ⟨t+1,by omega,Nat.le_refl _,by show f (it f t i)=i; omega⟩
       ·rintro ⟨d,d1,d2,d3⟩
        have:d=t+1:=by
         by_cases q:d=t+1
         ·exact q
         ·exact absurd ⟨d,d1,by omega,d3⟩ hb
        subst this
        have:f (it f t i)=i:=d3
        simp [this]
      ·rw [show sa (o.set i ((f (it f t i):Int)==(i:Int))) k=if k=i then ((f (it f t i):Int)==(i:Int)) else sa o k from Fl.getD_set (by omega),if_neg hk]; exact c k hk
    ·have:t=W.length:=by omega
     subst this
     refine .inl ⟨o,?_,a,b,c⟩
     unfold kbA
     rw [if_neg kaT])
   (0,(i:Int),on) ⟨0,on,by omega,rfl,hon,⟨fun h=>(by rw [h0] at h; cases h),fun ⟨d,d1,d2,_⟩=>(by omega)⟩,fun k _=>rfl⟩ (by simp only; omega)
  exact ⟨z,hz,a,by rw [b]; exact ⟨fun h=>⟨rfl,h⟩,fun h=>h.2⟩,c⟩
theorem ksZ (h8:W.length≤8) (hG:G.length=W.length) (hpt:pt.length=W.length) (hf:∀ k,k<W.length→la pt k=f k) (hlt:∀ k,k<W.length→f k<W.length) (v3:Int×List Bool×List Int) (h3:v3.2.1=G) :
  ∃ on,iter (kda W v3 pt) (0,List.replicate W.length false)=some on∧on.length=W.length∧∀ k,k<W.length→(sa on k=true↔sa G k=false∧Td.On f W.length k):=by
 have h0:∀ j,sa (List.replicate W.length false) j=false:=fun j=>by
  unfold sa
  rw [List.getD_eq_getElem?_getD,List.getElem?_replicate]
  split <;> rfl
 obtain ⟨z,hz,a,b⟩:=Fl.iter_inv (F:=kda W v3 pt)
  (fun x=>∃ (i:Nat) (on:List Bool),i≤W.length∧x=((i:Int),on)∧on.length=W.length∧(∀ k,k<i→(sa on k=true↔sa G k=false∧Td.On f W.length k))∧∀ k,i≤k→sa on k=false) (fun x=>W.length-x.1.toNat)
  (fun on=>on.length=W.length∧∀ k,k<W.length→(sa on k=true↔sa G k=false∧Td.On f W.length k))
  (fun x hx=>by
   obtain ⟨i,on,hi,rfl,a,b,c⟩:=hx
   by_cases hl:i<W.length
   ·obtain ⟨on',e1,e2,e3,e4⟩:=ktH h8 hG hpt hf hlt hl a (c i (Nat.le_refl _)) v3 h3 ((i:Int),on) rfl
    refine .inr ⟨((i+1:Nat),on'),?_,⟨i+1,on',by omega,rfl,e2,fun k hk=>?_,fun k hk=>?_⟩,by simp only [Int.toNat_natCast]; omega⟩
    ·unfold kda
     simp only [lenI_lt.2 hl,if_true,e1,Option.bind_some,kav (show i<9223372036854775807 by omega)]
    ·by_cases e:k=i
     ·subst e; exact e3
     ·rw [e4 k e]; exact b k (by omega)
    ·rw [e4 k (by omega)]; exact c k (by omega)
   ·have:i=W.length:=by omega
    subst this
    refine .inl ⟨on,?_,a,b⟩
    unfold kda
    rw [if_neg kaT])
  (0,List.replicate W.length false) ⟨0,_,by omega,rfl,by simp,fun k h=>by omega,fun k _=>h0 k⟩ (by simp only; omega)
 exact ⟨z,hz,a,b⟩
theorem kty (h8:W.length≤8) (hG:G.length=W.length) (hT:T.length=W.length) (hpt:pt.length=W.length) {on:List Bool} (hon:on.length=W.length) {left:Int} (hl:left=fre (gv G T) W.length) (h0:∀ k,sa G k=true→0≤la T k) (h1:∀ k,k<W.length→0≤la pt k) (h2:∀ k,k<W.length→sa on k=true→sa G k=false) :
  ∃ G' T',iter (kce W pt on) (0,left,T,G)=some (fre (gv G' T') W.length,G',T')∧G'.length=W.length∧T'.length=W.length∧(∀ k,k<W.length→sa G' k=(sa G k||sa on k))∧(∀ k,k<W.length→la T' k=if sa on k=true then la pt k else la T k)∧∀ k,W.length≤k→sa G' k=false:=by
 have l0:=kpb (gv G T) W.length
 have l1:=krk (gv G T) W.length
 obtain ⟨z,hz,G',T',rfl,a,b,c⟩:=Fl.iter_inv (F:=kce W pt on)
  (fun x=>∃ (i:Nat) (lf:Int) (T':List Int) (G':List Bool),i≤W.length∧x=((i:Int),lf,T',G')∧G'.length=W.length∧T'.length=W.length∧lf=left-sumN (fun k=>if sa on k=true then 1 else 0) i∧(0≤sumN (fun k=>if sa on k=true then 1 else 0) i∧sumN (fun k=>if sa on k=true then 1 else 0) i≤i)∧(∀ k,k<i→sa G' k=(sa G k||sa on k)∧la T' k=if sa on k=true then la pt k else la T k)∧∀ k,i≤k→sa G' k=sa G k∧la T' k=la T k) (fun x=>W.length-x.1.toNat)
  (fun z=>∃ (G':List Bool) (T':List Int),z=(left-sumN (fun k=>if sa on k=true then 1 else 0) W.length,G',T')∧G'.length=W.length∧T'.length=W.length∧∀ k,k<W.length→sa G' k=(sa G k||sa on k)∧la T' k=if sa on k=true then la pt k else la T k)
  (fun x hx=>by
   obtain ⟨i,lf,T',G',hi,rfl,a,b,c,cc,d,e⟩:=hx
   by_cases hlt:i<W.length
   ·have g1:gi on (i:Int)=some (sa on i):=Fl.gs hon hlt
    have g2:gi pt (i:Int)=some (la pt i):=gi_D 0 (by omega)
    have g3:gi T' (i:Int)=some (la T' i):=gi_D 0 (by omega)
    have g4:gi G' (i:Int)=some (sa G' i):=Fl.gs a hlt
    cases ho:sa on i with
    | true=>
     have hw:w64 (lf-1)=lf-1:=kfq (by omega) (by omega)
     refine .inr ⟨((i+1:Nat),lf-1,T'.set i (la pt i),G'.set i true),?_,⟨i+1,_,_,_,by omega,rfl,by simp [a],by simp [b],by simp only [sumN,ho,if_true]; omega,by simp only [sumN,ho,if_true]; omega,fun k hk=>?_,fun k hk=>?_⟩,by simp only [Int.toNat_natCast]; omega⟩
     ·unfold kce
      simp only [lenI_lt.2 hlt,if_true,g1,g2,g3,g4,ho,Option.bind_some,hw,kav (show i<9223372036854775807 by omega)]
      rfl
     ·rw [kjM (by omega),khp (by omega)]
      by_cases q:k=i
      ·subst q; simp [ho]
      ·rw [if_neg q,if_neg q]; exact d k (by omega)
     ·rw [kjM (by omega),khp (by omega),if_neg (by omega),if_neg (by omega)]; exact e k (by omega)
    | false=>
     refine .inr ⟨((i+1:Nat),lf,T',G'),?_,⟨i+1,_,_,_,by omega,rfl,a,b,by simp only [sumN,ho,Bool.false_eq_true,if_false]; omega,by simp only [sumN,ho,Bool.false_eq_true,if_false]; omega,fun k hk=>?_,fun k hk=>e k (by omega)⟩,by simp only [Int.toNat_natCast]; omega⟩
     ·unfold kce
      simp only [lenI_lt.2 hlt,if_true,g1,ho,Option.bind_some,Bool.false_eq_true,if_false,kav (show i<9223372036854775807 by omega)]
     ·by_cases q:k=i
      ·subst q; rw [(e k (Nat.le_refl _)).1,(e k (Nat.le_refl _)).2]; simp [ho]
      ·exact d k (by omega)
   ·have:i=W.length:=by omega
    subst this
    refine .inl ⟨(lf,G',T'),?_,G',T',by rw [c],a,b,d⟩
    unfold kce
    rw [if_neg kaT])
  (0,left,T,G) ⟨0,left,T,G,by omega,rfl,hG,hT,by simp [sumN],by simp [sumN],fun k h=>by omega,fun k _=>⟨rfl,rfl⟩⟩ (by simp only; omega)
 refine ⟨G',T',?_,a,b,fun k hk=>(c k hk).1,fun k hk=>(c k hk).2,fun k hk=>?_⟩
 ·rw [hz]
  congr 2
  rw [hl]
  unfold fre
  rw [←kiR]
  refine kiv fun k hk=>?_
  unfold gv
  rw [(c k hk).1,(c k hk).2]
  cases hg:sa G k with
  | true=>
   have:=h0 k hg
   cases ho:sa on k with
   | true=>rw [h2 k hk ho] at hg; cases hg
   | false=>simp <;> omega
  | false=>
   cases ho:sa on k with
   | true=>have:=h1 k hk; simp <;> omega
   | false=>simp
 ·unfold sa
  rw [List.getD_eq_getElem?_getD,List.getElem?_eq_none (by omega)]; rfl
end
end Go.Abs
namespace Go.Abs
open Go Go.Abs.Fl Go.Abs.Td
structure Rs (W:List (List Int)) (G:List Bool) (T:List Int):Prop where
 g:G.length=W.length
 t:T.length=W.length
 p:∃ r R,PS W.length (Lik W) (gv G T) r R
 n:∀ k,sa G k=true→0≤la T k
 o:∀ k,W.length≤k→sa G k=false
theorem ksX {g:Nat→Int} {n:Nat} (h:0<fre g n):∃ a,a<n∧g a<0:=by
 refine Classical.byContradiction fun hc=>?_
 have:fre g n=0:=by
  unfold fre
  rw [kiv (g:=fun _=>0) fun k hk=>?_,krr]
  rw [if_neg]
  intro hk'
  exact hc ⟨k,hk,hk'⟩
 omega
theorem krS {g:Nat→Int} {n:Nat} (h:fre g n≤0) {k:Nat} (hk:k<n):0≤g k:=by
 have hz:=kqY (f:=fun k=>if g k<0 then 1 else 0) (fun k _=>by
  show 0≤(if g k<0 then (1:Int) else 0)
  split <;> decide) h k hk
 split at hz
 ·cases hz
 ·omega
theorem ksH {W:List (List Int)} (h:wishB W) {G:List Bool} {T:List Int} (hR:Rs W G T) (hpos:0<fre (gv G T) W.length) :
  ∃ G' T',kcW W (fre (gv G T) W.length,G,T)=some (.inl (fre (gv G' T') W.length,G',T'))∧Rs W G' T'∧fre (gv G' T') W.length<fre (gv G T) W.length:=by
 have h8:=h.2.1
 obtain ⟨a,ha,hga⟩:=ksX hpos
 have hfa:sa G a=false:=by
  cases hc:sa G a with
  | false=>rfl
  | true=>unfold gv at hga; rw [if_pos hc] at hga; have:=hR.n a hc; omega
 obtain ⟨r,R,hp⟩:=hR.p
 obtain ⟨pt,e1,p1,f,hf⟩:=ktc h hR.g hR.n ⟨a,ha,hfa⟩ (fre (gv G T) W.length,G,T) rfl
 have hlt:∀ k,k<W.length→f k<W.length:=fun k hk=>(hf k hk).2.lt
 have hff:∀ k,k<W.length→la pt k=f k:=fun k hk=>(hf k hk).1
 obtain ⟨on,e2,o1,o2⟩:=ksZ h8 hR.g p1 hff hlt (fre (gv G T) W.length,G,T) rfl
 obtain ⟨G',T',e3,g1,t1,g2,t2,g3⟩:=kty h8 hR.g hR.t p1 o1 (left:=fre (gv G T) W.length) rfl hR.n (fun k hk=>by rw [hff k hk]; omega) (fun k hk hon=>((o2 k hk).1 hon).1)
 have hfree:∀ k,k<W.length→gv G T k<0→sa G k=false:=fun k _ hk=>by
  cases hc:sa G k with
  | false=>rfl
  | true=>unfold gv at hk; rw [if_pos hc] at hk; have:=hR.n k hc; omega
 have hgv:∀ k,sa G k=false→gv G T k<0:=fun k hk=>by unfold gv; rw [hk]; simp
 have hgm0:gmk (lenI W) (0:Int)=some (List.replicate W.length 0):=by
  unfold gmk
  rw [kan,if_pos (by omega),Int.toNat_natCast]
 have hgmf:gmk (lenI W) false=some (List.replicate W.length false):=by
  unfold gmk
  rw [kan,if_pos (by omega),Int.toNat_natCast]
 have hC:∀ k,(k<W.length∧sa on k=true)→k<W.length∧gv G T k<0∧(f k<W.length∧sa on (f k)=true):=fun k ⟨hk,hon⟩=>by
  obtain ⟨q1,q2⟩:=(o2 k hk).1 hon
  exact ⟨hk,hgv k q1,hlt k hk,(o2 _ (hlt k hk)).2 ⟨hfree _ (hlt k hk) (hf k hk).2.free,q2.next⟩⟩
 have hg1:∀ k,(k<W.length∧sa on k=true)→gv G' T' k=f k:=fun k ⟨hk,hon⟩=>by
  unfold gv
  rw [g2 k hk,t2 k hk,hon,if_pos (by simp),if_pos rfl]; exact hff k hk
 have hg2:∀ k,k<W.length→¬ (k<W.length∧sa on k=true)→gv G' T' k=gv G T k:=fun k hk hn=>by
  have hon:sa on k=false:=by
   cases hc:sa on k with
   | false=>rfl
   | true=>exact absurd ⟨hk,hc⟩ hn
  unfold gv
  rw [g2 k hk,t2 k hk,hon,Bool.or_false,if_neg (show ¬ false=true by decide)]
 obtain ⟨r',hp'⟩:=hp.step (g':=gv G' T') f (fun k=>k<W.length∧sa on k=true) hC (fun i j hi hj e=>((o2 i hi.1).1 hi.2).2.inj ((o2 j hj.1).1 hj.2).2 e) (fun k hk j hj hl=>(hf k hk.1).2.b j hj hl) hg1 hg2
 obtain ⟨d,d1,d2,d3⟩:=circ hlt ha
 have hc:it f W.length a<W.length:=it_lt hlt _ _ ha
 have hcf:sa G (it f W.length a)=false:=by
  rw [show W.length=(W.length-1)+1 by have:=h.1; omega]
  exact hfree _ (hlt _ (it_lt hlt _ _ ha)) (hf _ (it_lt hlt _ _ ha)).2.free
 have hon:=(o2 _ hc).2 ⟨hcf,d,d1,d2,d3⟩
 refine ⟨G',T',?_,⟨g1,t1,⟨r',R+1,hp'⟩,fun k hk=>?_,g3⟩,?_⟩
 ·unfold kcW
  simp only [decide_eq_true hpos,if_true,hgm0,hgmf,e1,e2,e3,Option.bind_some]
 ·by_cases hkl:k<W.length
  ·rw [t2 k hkl]
   split
   ·rw [hff k hkl]; omega
   ·rename_i hno
    rw [g2 k hkl,Bool.or_eq_true] at hk
    exact hR.n k (hk.resolve_right hno)
  ·rw [g3 k (by omega)] at hk; cases hk
 ·unfold fre
  have hge:∀ x,x<W.length→0≤(if gv G T x<0 then (1:Int) else 0)-(if gv G' T' x<0 then 1 else 0):=fun x hx=>by
   by_cases c:sa on x=true
   ·rw [hg1 x ⟨hx,c⟩,if_pos (hC x ⟨hx,c⟩).2.1,if_neg (by omega)]; decide
   ·rw [hg2 x hx (fun q=>c q.2)]; omega
  have h1:=kkE hge hc
  rw [hg1 _ ⟨hc,hon⟩,if_pos (hC _ ⟨hc,hon⟩).2.1,if_neg (by omega),kiR] at h1
  omega
theorem ksv {W:List (List Int)} (h:wishB W):∃ T r,kdx W=some (T,0)∧T.length=W.length∧(∀ k,k<W.length→0≤la T k)∧Rds W.length (Lik W) (fun k=>(la T k).toNat) r:=by
 classical
 have h8:=h.2.1
 have hs0:∀ j,sa (List.replicate W.length false) j=false:=fun j=>by
  unfold sa
  rw [List.getD_eq_getElem?_getD,List.getElem?_replicate]
  split <;> rfl
 have hgm0:gmk (lenI W) (0:Int)=some (List.replicate W.length 0):=by
  unfold gmk
  rw [kan,if_pos (by omega),Int.toNat_natCast]
 have hgmf:gmk (lenI W) false=some (List.replicate W.length false):=by
  unfold gmk
  rw [kan,if_pos (by omega),Int.toNat_natCast]
 have hneg:∀ k,gv (List.replicate W.length false) (List.replicate W.length 0) k<0:=fun k=>by unfold gv; rw [hs0]; simp
 have hf0:fre (gv (List.replicate W.length false) (List.replicate W.length 0)) W.length=(W.length:Int):=by
  have:∀ n:Nat,fre (gv (List.replicate W.length false) (List.replicate W.length 0)) n=(n:Int):=by
   intro n
   induction n with
   | zero=>rfl
   | succ n ih=>
    unfold fre at ih ⊢
    simp only [sumN]
    rw [ih,if_pos (hneg n)]; push_cast; rfl
  exact this _
 obtain ⟨z,hz,G,hR,hfr⟩:=Fl.iter_inv (F:=kcW W) (fun x=>x.1=fre (gv x.2.1 x.2.2) W.length∧Rs W x.2.1 x.2.2) (fun x=>x.1.toNat) (fun T=>∃ G,Rs W G T∧fre (gv G T) W.length≤0)
  (fun x hx=>by
   obtain ⟨l,G,T⟩:=x
   obtain ⟨e,hR⟩:=hx
   simp only at e hR
   subst e
   by_cases hpos:0<fre (gv G T) W.length
   ·obtain ⟨G',T',e1,e2,e3⟩:=ksH h hR hpos
    exact .inr ⟨_,e1,⟨rfl,e2⟩,by simp only; omega⟩
   ·refine .inl ⟨T,?_,G,hR,by omega⟩
    unfold kcW
    simp only [decide_eq_false hpos,Bool.false_eq_true,if_false])
  ((W.length:Int),List.replicate W.length false,List.replicate W.length 0) ⟨hf0.symm,by simp,by simp,⟨fun _=>0,0,PS.none fun k _=>hneg k⟩,fun k hk=>(by simp only at hk; rw [hs0] at hk; cases hk),fun k _=>hs0 k⟩ (by simp; omega)
 obtain ⟨r,R,hp⟩:=hR.p
 have all:∀ k,k<W.length→0≤gv G z k:=fun k hk=>krS hfr hk
 have hG:∀ k,k<W.length→sa G k=true:=fun k hk=>by
  cases hc:sa G k with
  | true=>rfl
  | false=>have:=all k hk; unfold gv at this; rw [hc] at this; simp at this
 have hgz:∀ k,k<W.length→gv G z k=la z k:=fun k hk=>by unfold gv; rw [if_pos (hG k hk)]
 refine ⟨z,r,?_,hR.t,fun k hk=>by rw [←hgz k hk]; exact all k hk,?_⟩
 ·unfold kdx
  rw [kjO,decide_eq_true h,hgm0,hgmf]
  simp only [Option.bind_some,Bool.not_true,Bool.false_eq_true,if_false,kan,hz]
 ·have hr:=hp.rds all
  refine ⟨fun i hi=>?_,fun i j hi hj e=>?_,fun i hi j hj hl=>?_,fun i hi=>?_⟩
  ·have:=hr.lt i hi; simp only [hgz i hi] at this; exact this
  ·refine hr.inj i j hi hj ?_
   simp only [hgz i hi,hgz j hj]; exact e
  ·refine hr.b i hi j hj ?_
   simp only [hgz i hi]; exact hl
  ·have:=hr.c i hi; simp only [hgz i hi] at this; exact this
theorem ksk {W:List (List Int)} (hW:∀ l∈W,l.length≤12):∃ l e,l.length≤8∧kfd W=some (l,e)∧kdx W=some (l,e):=by
 classical
 by_cases h:wishB W
 ·obtain ⟨O,r,e1,o1,o2,o3⟩:=ksy h hW
  obtain ⟨T,r',e2,t1,t2,t3⟩:=ksv h
  have hs:=o3.same t3 (fun k hk a b ha hb=>ksC h k hk a b ha hb)
  have:O=T:=by
   apply List.ext_getElem (by rw [o1,t1])
   intro k h1 h2
   have hk:k<W.length:=by omega
   have a:=hs k hk
   have b:=o2 k hk
   have c:=t2 k hk
   have d:la O k=la T k:=by omega
   unfold la at d
   rw [List.getD_eq_getElem?_getD,List.getD_eq_getElem?_getD,List.getElem?_eq_getElem h1,List.getElem?_eq_getElem h2] at d
   exact d
  subst this
  exact ⟨O,0,by rw [o1]; exact h.2.1,e1,e2⟩
 ·refine ⟨[],2,by simp,?_,?_⟩
  ·unfold kfd
   rw [kiU hW,decide_eq_false h]; rfl
  ·unfold kdx
   rw [kjO,decide_eq_false h]; rfl
end Go.Abs
namespace Go.Abs
open Go Go.Abs.Fl Go.Abs.Td
def bt (x:Int) (v:Nat):Bool:=x.toNat.testBit v
def clr (x:Int) (v:Nat):Int:=bitsI .andNot .u8 x (2 ^ v)
theorem bits8:∀ x<256,∀ v<8,
  bitsI .and .u8 (Int.fdiv ((x:Nat):Int) (2 ^ v)) 1=(if x.testBit v then 1 else 0)∧Int.tmod (Int.fdiv ((x:Nat):Int) (2 ^ v)) 2=(if x.testBit v then 1 else 0)∧0≤clr x v∧clr x v<256:=by decide +kernel
theorem shr8 {x:Int} (h0:0≤x) (h1:x<256) {v:Nat} (hv:v<8):∃ y,gshr .u8 x (v:Int)=some y∧bitsI .and .u8 y 1=(if bt x v then 1 else 0)∧grem y 2=some (if bt x v then 1 else 0):=by
 obtain ⟨n,rfl⟩:=Int.eq_ofNat_of_zero_le h0
 obtain ⟨a,b,_,_⟩:=bits8 n (by omega) v hv
 refine ⟨Int.fdiv (n:Int) (2 ^ v),?_,a,?_⟩
 ·unfold gshr
  rw [if_pos (by omega),Int.toNat_natCast,Nat.min_eq_left (show v≤IntKind.u8.bits by rw [show IntKind.u8.bits=8 from rfl]; omega)]
 ·unfold grem
  rw [if_neg (by decide),b]
  rfl
theorem shl8:∀ v<8,gshl .u8 1 ((v:Nat):Int)=some (2 ^ v):=by decide +kernel
theorem clr8 {x:Int} (h0:0≤x) (h1:x<256) {v:Nat} (hv:v<8):0≤clr x v∧clr x v<256:=by
 obtain ⟨n,rfl⟩:=Int.eq_ofNat_of_zero_le h0
 obtain ⟨_,_,a,b⟩:=bits8 n (by omega) v hv
 exact ⟨a,b⟩
def plc (W:List (List Int)) (i a:Nat):Nat:=(W.getD i []).idxOf (a:Int)
def dl (W:List (List Int)) (T:List Int) (g:Int):Nat→Nat→Int→Bool→Bool
 | 0,_,_,b=>b
 | m+1,i,f,b=>
  if bt g i=false then dl W T g m (i+1) f b
  else (List.range W.length).any fun a=>bt f a&&(decide (plc W i a≤plc W i (la T i).toNat)&&dl W T g m (i+1) (clr f a) (b||decide (plc W i a<plc W i (la T i).toNat)))
theorem kqQ {W:List (List Int)} (h:wishB W) {i a:Nat} (hi:i<W.length) (ha:a<W.length):plc W i a<(W.getD i []).length:=List.idxOf_lt_length_of_mem (khZ (kfc h hi) ha)
theorem koM {W:List (List Int)} (h:wishB W) {i a:Nat} (hi:i<W.length) (ha:a<W.length):(W.getD i [])[plc W i a]?=some (a:Int):=by
 have:=kqQ h hi ha
 rw [List.getElem?_eq_getElem this]
 exact congrArg some (List.getElem_idxOf this)
theorem ktm {W:List (List Int)} (h:wishB W) {i q v:Nat} (hi:i<W.length) (e:(W.getD i [])[q]?=some (v:Int)):plc W i v=q:=by
 obtain ⟨hq,e'⟩:=List.getElem?_eq_some_iff.1 e
 unfold plc
 rw [←e']
 exact List.Nodup.idxOf_getElem (kfc h hi).2.2 q hq
theorem knI {T:List Int} {n:Nat} (h:ordB T n) {i:Nat} (hi:i<n):∃ t:Nat,t<n∧la T i=(t:Int)∧gi T (i:Int)=some (t:Int):=by
 have:=h.2.1 _ (kod (by rw [h.1]; exact hi))
 refine ⟨(la T i).toNat,by omega,by omega,?_⟩
 rw [show (((la T i).toNat:Nat):Int)=la T i by omega]
 exact gi_D 0 (by rw [h.1]; exact hi)
theorem ksn {W:List (List Int)} (h:wishB W) {T:List Int} (hT:ordB T W.length) {g:Int} (g0:0≤g) (g1:g<256):∀ (m K i:Nat) (f:Int) (b:Bool),0≤f→f<256→i+m=W.length→m<K→
  kaD K (i:Int) f b (W.length:Int) g W T=some (dl W T g m i f b,(W.length:Int),g,W,T):=by
 intro m
 induction m with
 | zero=>
  intro K i f b f0 f1 hi hK
  obtain ⟨K,rfl⟩:∃ k,K=k+1:=⟨K-1,by omega⟩
  unfold kaD kdC
  rw [if_pos (by rw [show i=W.length by omega]; simp)]
  rfl
 | succ m ih=>
  intro K i f b f0 f1 hi hK
  obtain ⟨K,rfl⟩:∃ k,K=k+1:=⟨K-1,by omega⟩
  have h8:=h.2.1
  have hil:i<W.length:=by omega
  obtain ⟨y,y1,y2,_⟩:=shr8 g0 g1 (v:=i) (by omega)
  obtain ⟨t,t0,t1,t2⟩:=knI hT hil
  have gW:gi W (i:Int)=some (W.getD i []):=gi_D [] hil
  have ol:=kfc h hil
  have hw:w64 ((i:Int)+1)=((i+1:Nat):Int):=kav (by omega)
  have hp:=kqQ h hil t0
  have hpa:=koM h hil t0
  unfold kaD kdC
  rw [if_neg (by simp; omega),y1]
  simp only [Option.bind_some,y2]
  by_cases hb:bt g i=true
  ·rw [if_neg (by rw [hb]; simp)]
   simp only [gW,Option.bind_some]
   let C:Nat→Bool:=fun v=>bt f v&&(dl W T g m (i+1) (clr f v) (b||decide (plc W i v<plc W i t)))
   have hd:dl W T g (m+1) i f b=(List.range W.length).any fun a=>decide (plc W i a≤plc W i t)&&C a:=by
    unfold dl
    rw [if_neg (by rw [hb]; decide)]
    congr 1
    funext a
    simp only [C,t1,Int.toNat_natCast]
    cases bt f a <;> cases decide (plc W i a≤plc W i t) <;> rfl
   obtain ⟨z,hz,hR⟩:=Fl.iter_inv (F:=kbX (kaD K) (i:Int) f b (W.getD i []))
    (fun x=>∃ k:Nat,k≤plc W i t∧x=((k:Int),T,(W.length:Int),g,W)∧∀ q v:Nat,q<k→(W.getD i [])[q]?=some (v:Int)→C v=false) (fun x=>plc W i t-x.1.toNat)
    (fun z=>z = .inl (dl W T g (m+1) i f b,(W.length:Int),g,W,T))
    (fun x hx=>by
     obtain ⟨k,hk,rfl,hq⟩:=hx
     have hkl:k<(W.getD i []).length:=by omega
     obtain ⟨v,v0,v1,v2⟩:=knI ol (i:=k) (by rw [←ol.1]; exact hkl)
     have va:(W.getD i [])[k]?=some (v:Int):=by
      rw [kaS hkl] at v2
      rw [List.getElem?_eq_getElem hkl]; exact v2
     have vk:=ktm h hil va
     obtain ⟨y',z1,z2,_⟩:=shr8 f0 f1 (v:=v) (by omega)
     have hvt:((v:Int)==(t:Int))=decide (k=plc W i t):=by
      rw [Bool.eq_iff_iff,beq_iff_eq,decide_eq_true_eq]
      constructor
      ·intro e
       rw [←vk,show v=t by omega]
      ·intro e
       rw [e,hpa] at va
       exact (Option.some.inj va).symm
     have hrec:kaD K ((i+1:Nat):Int) (clr f v) (b||decide (k<plc W i t)) (W.length:Int) g W T=some (dl W T g m (i+1) (clr f v) (b||decide (k<plc W i t)),(W.length:Int),g,W,T):=
      ih K (i+1) (clr f v) _ (clr8 f0 f1 (by omega)).1 (clr8 f0 f1 (by omega)).2 (by omega) (by omega)
     have hC:C v=(bt f v&&dl W T g m (i+1) (clr f v) (b||decide (k<plc W i t))):=by simp only [C,vk]
     have hstep:kbX (kaD K) (i:Int) f b (W.getD i []) ((k:Int),T,(W.length:Int),g,W)=some (if C v=true then .inr (.inl (true,(W.length:Int),g,W,T)) else if k=plc W i t then .inr (.inl (false,(W.length:Int),g,W,T)) else .inl (((k+1:Nat):Int),T,(W.length:Int),g,W)):=by
      have hne:(!decide (k=plc W i t))=decide (k<plc W i t):=by
       rw [Bool.eq_iff_iff,Bool.not_eq_true',decide_eq_false_iff_not,decide_eq_true_eq]; omega
      unfold kbX
      simp only [lenI_lt.2 hkl,if_true,v2,t2,z1,z2,Option.bind_some,shl8 v (by omega),hw,hvt,hne,kav (show k<9223372036854775807 by have:=ol.1; omega)]
      rw [hC]
      cases hbf:bt f v with
      | false=>
       simp only [Bool.false_and,Bool.false_eq_true,if_false]
       rw [if_neg (by decide)]
       by_cases c:k=plc W i t <;> simp [c]
      | true=>
       simp only [Bool.true_and,if_true]
       rw [if_pos (by decide)]
       have hcl:bitsI .andNot .u8 f (2 ^ v)=clr f v:=rfl
       rw [hcl]
       cases b with
       | true=>
        simp only [Bool.true_or] at hrec
        simp only [if_true,hrec,Option.bind_some,Bool.true_or]
        cases dl W T g m (i+1) (clr f v) true <;> by_cases c:k=plc W i t <;> simp [c]
       | false=>
        simp only [Bool.false_or] at hrec
        simp only [Bool.false_eq_true,if_false,hrec,Option.bind_some,Bool.false_or]
        cases dl W T g m (i+1) (clr f v) (decide (k<plc W i t)) <;> by_cases c:k=plc W i t <;> simp [c]
     by_cases hc:C v=true
     ·refine .inl ⟨_,by rw [hstep,if_pos hc],?_⟩
      have:dl W T g (m+1) i f b=true:=by
       rw [hd,List.any_eq_true]
       exact ⟨v,List.mem_range.2 v0,by rw [hc,vk,decide_eq_true hk]; rfl⟩
      rw [this]
     ·by_cases hkt:k=plc W i t
      ·refine .inl ⟨_,by rw [hstep,if_neg hc,if_pos hkt],?_⟩
       have:dl W T g (m+1) i f b=false:=by
        rw [hd,List.any_eq_false]
        intro a ha
        rw [List.mem_range] at ha
        by_cases c:plc W i a≤plc W i t
        ·rw [decide_eq_true c,Bool.true_and]
         by_cases c2:plc W i a=k
         ·have:=koM h hil ha
          rw [c2,va] at this
          rw [show a=v by have:=Option.some.inj this; omega]; exact hc
         ·rw [hq (plc W i a) a (by omega) (koM h hil ha)]; decide
        ·rw [decide_eq_false c]; simp
       rw [this]
      ·refine .inr ⟨_,by rw [hstep,if_neg hc,if_neg hkt],⟨k+1,by omega,rfl,fun q v' hq' e=>?_⟩,by simp only [Int.toNat_natCast]; omega⟩
       by_cases c:q=k
       ·subst c
        rw [va] at e
        rw [show v'=v by have:=Option.some.inj e; omega]
        rw [Bool.not_eq_true] at hc; exact hc
       ·exact hq q v' (by omega) e)
    (0,T,(W.length:Int),g,W) ⟨0,by omega,rfl,fun q v hq=>by omega⟩ (by have:=ol.1; simp only; omega)
   rw [hz,hR]
   rfl
  ·rw [Bool.not_eq_true] at hb
   rw [if_pos (by rw [hb]; simp),hw,ih K (i+1) f b f0 f1 (by omega) (by omega)]
   have hdl:dl W T g (m+1) i f b=dl W T g m (i+1) f b:=by
    conv=>lhs; unfold dl
    rw [if_pos hb]
   rw [hdl]
   rfl
end Go.Abs
namespace Go.Abs
open Go Go.Abs.Fl Go.Abs.Td
theorem kna {l:List Int} (hl:l.length≤1000) (x:Int):kcl l x=some ((l.idxOf x:Nat):Int):=by
 unfold kcl
 obtain ⟨z,hz,hR⟩:=Fl.iter_inv (F:=kcz l x)
  (fun y=>∃ k:Nat,k≤l.length∧y=(k:Int)∧∀ q (h:q<l.length),q<k→l[q]≠x) (fun y=>l.length-y.toNat)
  (fun z=>(z = .inl ((l.idxOf x:Nat):Int))∨(z = .inr ()∧l.idxOf x=l.length))
  (fun y hy=>by
   obtain ⟨k,hk,rfl,hq⟩:=hy
   by_cases hlt:k<l.length
   ·by_cases e:l[k]=x
    ·refine .inl ⟨.inl (k:Int),?_,.inl ?_⟩
     ·unfold kcz
      simp only [lenI_lt.2 hlt,if_true,kaS hlt,Option.bind_some]
      rw [if_pos (by rw [e]; simp)]
     ·have h1:l.idxOf x≤k:=by
       refine Nat.le_of_not_lt fun hc=>?_
       have:=List.not_of_lt_findIdx hc
       rw [e] at this
       simp at this
      have h2:l.idxOf x<l.length:=by omega
      have h3:=List.getElem_idxOf h2
      by_cases c:l.idxOf x=k
      ·rw [c]
      ·exact absurd h3 (hq _ h2 (by omega))
    ·refine .inr ⟨((k+1:Nat):Int),?_,⟨k+1,by omega,rfl,fun q h hq'=>?_⟩,by simp only [Int.toNat_natCast]; omega⟩
     ·unfold kcz
      simp only [lenI_lt.2 hlt,if_true,kaS hlt,Option.bind_some,kav (show k<9223372036854775807 by omega)]
      rw [if_neg (by simpa using e)]
     ·by_cases c:q=k
      ·subst c; exact e
      ·exact hq q h (by omega)
   ·refine .inl ⟨.inr (),?_,.inr ⟨rfl,?_⟩⟩
    ·unfold kcz
     rw [show k=l.length by omega,if_neg kaT]
    ·refine List.idxOf_eq_length fun hm=>?_
     obtain ⟨q,h,e⟩:=List.mem_iff_getElem.1 hm
     exact hq q h (by omega) e)
  0 ⟨0,by omega,rfl,fun q h hq=>by omega⟩ (by simp; omega)
 rw [hz]
 rcases hR with rfl | ⟨rfl,h⟩
 ·rfl
 ·simp only [Option.bind_some,h,kan]
theorem wrapu {v:Nat} (h:v<1000):IntKind.wrap .u64 (v:Int)=(v:Int):=by
 unfold IntKind.wrap
 simp [IntKind.signed,IntKind.bits]
 omega
theorem ktC {W:List (List Int)} (h:wishB W) {T:List Int} {g:Int} (g0:0≤g) (g1:g<256) (f:Int) (b:Bool) {i:Nat} (hi:i≤W.length):∃ j,i≤j∧j≤W.length∧iter (kcg W g) (i:Int)=some (j:Int)∧dl W T g (W.length-i) i f b=dl W T g (W.length-j) j f b∧(j<W.length→bt g j=true):=by
 have h8:=h.2.1
 obtain ⟨z,hz,j,a,b',c,d,e⟩:=Fl.iter_inv (F:=kcg W g)
  (fun y=>∃ k:Nat,i≤k∧k≤W.length∧y=(k:Int)∧dl W T g (W.length-i) i f b=dl W T g (W.length-k) k f b) (fun y=>W.length-y.toNat)
  (fun z=>∃ j:Nat,i≤j∧j≤W.length∧z=(j:Int)∧dl W T g (W.length-i) i f b=dl W T g (W.length-j) j f b∧(j<W.length→bt g j=true))
  (fun y hy=>by
   obtain ⟨k,hik,hk,rfl,hd⟩:=hy
   by_cases hlt:k<W.length
   ·obtain ⟨x,y1,_,y3⟩:=shr8 g0 g1 (v:=k) (by omega)
    cases hb:bt g k with
    | true=>
     refine .inl ⟨(k:Int),?_,k,hik,hk,rfl,hd,fun _=>hb⟩
     unfold kcg
     simp only [lenI_lt.2 hlt,if_true,wrapu (show k<1000 by omega),y1,y3,hb,Option.bind_some]
     rfl
    | false=>
     refine .inr ⟨((k+1:Nat):Int),?_,⟨k+1,by omega,by omega,rfl,?_⟩,by simp only [Int.toNat_natCast]; omega⟩
     ·unfold kcg
      simp only [lenI_lt.2 hlt,if_true,wrapu (show k<1000 by omega),y1,y3,hb,Option.bind_some,kav (show k<9223372036854775807 by omega)]
      rfl
     ·rw [hd,show W.length-k=(W.length-(k+1))+1 by omega]
      conv=>lhs; unfold dl
      rw [if_pos hb]
   ·refine .inl ⟨(k:Int),?_,k,hik,hk,rfl,hd,fun hc=>absurd hc hlt⟩
    unfold kcg
    rw [show k=W.length by omega,if_neg kaT])
  (i:Int) ⟨i,by omega,hi,rfl,rfl⟩ (by simp; omega)
 subst c
 exact ⟨j,a,b',hz,d,e⟩
theorem ktf {W:List (List Int)} (h:wishB W) {T:List Int} (hT:ordB T W.length) {g:Int} (g0:0≤g) (g1:g<256):∀ (m K i:Nat) (f:Int) (b:Bool),0≤f→f<256→i+m=W.length→m<K→
  kbQ K W T g (i:Int) f b=some (dl W T g m i f b):=by
 intro m
 induction m using Nat.strongRecOn with
 | ind m ih=>
 intro K i f b f0 f1 hi hK
 obtain ⟨K,rfl⟩:∃ k,K=k+1:=⟨K-1,by omega⟩
 have h8:=h.2.1
 obtain ⟨j,a1,a2,a3,a4,a5⟩:=ktC h (T:=T) g0 g1 f b (i:=i) (by omega)
 rw [show W.length-i=m by omega] at a4
 rw [a4]
 unfold kbQ kjb
 rw [a3]
 simp only [Option.bind_some]
 by_cases hj:j<W.length
 ·have hb:=a5 hj
  rw [if_neg (by rw [kan]; simp; omega)]
  obtain ⟨t,t0,t1,t2⟩:=knI hT hj
  have gW:gi W (j:Int)=some (W.getD j []):=gi_D [] hj
  have ol:=kfc h hj
  have hw:w64 ((j:Int)+1)=((j+1:Nat):Int):=kav (by omega)
  obtain ⟨m',hm'⟩:∃ m',W.length-j=m'+1:=⟨W.length-j-1,by omega⟩
  let C:Nat→Bool:=fun a=>bt f a&&(decide (plc W j a≤plc W j t)&&dl W T g m' (j+1) (clr f a) (b||decide (plc W j a<plc W j t)))
  have hd:dl W T g (W.length-j) j f b=(List.range W.length).any C:=by
   rw [hm']
   unfold dl
   rw [if_neg (by rw [hb]; decide)]
   simp only [t1,Int.toNat_natCast,C]
  have hstep:∀ a,a<W.length→kcT (kbQ K) W T g f b (j:Int) (a:Int)=some (if C a=true then .inr (.inl true) else .inl ((a+1:Nat):Int)):=by
   intro a ha
   obtain ⟨x,y1,_,y3⟩:=shr8 f0 f1 (v:=a) (by omega)
   have hrec:=ih m' (by omega) K (j+1) (clr f a) (b||decide (plc W j a<plc W j t)) (clr8 f0 f1 (by omega)).1 (clr8 f0 f1 (by omega)).2 (by omega) (by omega)
   have l1:kcl (W.getD j []) (a:Int)=some ((plc W j a:Nat):Int):=kna (by have:=ol.1; omega) _
   have l2:kcl (W.getD j []) (t:Int)=some ((plc W j t:Nat):Int):=kna (by have:=ol.1; omega) _
   have hcl:bitsI .andNot .u8 f (2 ^ a)=clr f a:=rfl
   unfold kcT
   simp only [lenI_lt.2 ha,if_true,gW,l1,t2,l2,Option.bind_some,wrapu (show a<1000 by omega),y1,y3,hw,shl8 a (by omega),kav (show a<9223372036854775807 by omega),hcl,Int.ofNat_le,Int.ofNat_lt]
   by_cases hbf:bt f a=false
   ·simp only [C,hbf,Bool.false_eq_true,if_false,Bool.false_and]
    rw [if_neg (by decide)]
   ·rw [Bool.not_eq_false] at hbf
    simp only [C,hbf,Bool.true_and,if_true]
    rw [if_pos (by decide)]
    by_cases c:plc W j a≤plc W j t
    ·simp only [decide_eq_true c,if_true,Bool.true_and]
     cases b with
     | true=>
      simp only [Bool.true_or] at hrec
      simp only [if_true,hrec,Option.bind_some,Bool.true_or]
      cases dl W T g m' (j+1) (clr f a) true <;> simp
     | false=>
      simp only [Bool.false_or] at hrec
      simp only [Bool.false_eq_true,if_false,hrec,Option.bind_some,Bool.false_or]
      cases dl W T g m' (j+1) (clr f a) (decide (plc W j a<plc W j t)) <;> simp
    ·simp only [decide_eq_false c,Bool.false_eq_true,if_false,Bool.false_and]
  rw [kgh (F:=kcT (kbQ K) W T g f b (j:Int)) true (List.range W.length) (by simp; omega) (fun i _=>C i) (fun i hi=>hstep i (by simpa using hi)) (by
   unfold kcT
   rw [List.length_range,if_neg kaT])]
  have:((List.range W.length).zipIdx.any fun x=>C x.2)=(List.range W.length).any C:=by
   rw [Bool.eq_iff_iff,List.any_eq_true,List.any_eq_true]
   constructor
   ·rintro ⟨⟨x,k⟩,hx,hc⟩
    obtain ⟨e1,e2⟩:=List.mem_zipIdx' hx
    exact ⟨k,List.mem_range.2 (by simpa using e1),hc⟩
   ·rintro ⟨k,hk,hc⟩
    rw [List.mem_range] at hk
    exact ⟨(k,k),by rw [List.mem_zipIdx_iff_getElem?]; simp [hk],hc⟩
  rw [this,←hd]
  cases dl W T g (W.length-j) j f b <;> rfl
 ·rw [if_pos (by rw [kan]; simp; omega),show W.length-j=0 by omega]
  rfl
end Go.Abs
namespace Go.Abs
open Go Go.Abs.Fl Go.Abs.Td
theorem okI_u8b {n:Int} (h:okI .u8 n):n<256:=by
 simp [okI,Lit.wf,IntKind.min,IntKind.max,IntKind.signed,IntKind.bits] at h
 omega
theorem shl64:∀ n<9,gshl .i64 1 ((n:Nat):Int)=some (2 ^ n):=by decide +kernel
theorem kqV {W:List (List Int)} (hW:∀ l∈W,l.length≤12) {T:List Int} (hT:T.length≤12) {x:Int} (x0:0≤x) (x1:x<256):∃ b e,kgI W T x=some (b,e)∧kfC W T x=some (b,e):=by
 classical
 unfold kgI kfC
 rw [kiU hW,kjO]
 by_cases h:wishB W
 ·have h8:=h.2.1
  have e1:kfY T (lenI W)=some (decide (ordB T W.length)):=by rw [kan]; exact kql hT _
  have e2:kcK T (lenI W)=some (decide (ordB T W.length)):=by rw [kan]; exact koE _ (by omega)
  simp only [Option.bind_some,decide_eq_true h,Bool.not_true,Bool.false_eq_true,if_false,e1,e2]
  by_cases ho:ordB T W.length
  ·simp only [decide_eq_true ho,Bool.not_true,Bool.false_eq_true,if_false]
   by_cases hx:x=0
   ·rw [if_pos (by rw [hx]; rfl),if_pos (by rw [hx]; rfl)]
    exact ⟨_,_,rfl,rfl⟩
   ·rw [if_neg (by simpa using hx),if_neg (by simpa using hx)]
    rw [kan,shl64 W.length (by omega)]
    simp only [Option.bind_some,kfq (x:=x) (by omega) (by omega)]
    by_cases hg:(2:Int) ^ W.length≤x
    ·rw [if_pos (decide_eq_true hg),if_pos (decide_eq_true hg)]
     exact ⟨_,_,rfl,rfl⟩
    ·rw [if_neg (by rw [decide_eq_false hg]; decide),if_neg (by rw [decide_eq_false hg]; decide)]
     have p:=ksn h ho x0 x1 W.length 1000000 0 x false x0 x1 (by omega) (by omega)
     have r:=ktf h ho x0 x1 W.length 1000000 0 x false x0 x1 (by omega) (by omega)
     unfold keu khO
     rw [Int.natCast_zero] at p r
     rw [p,r]
     exact ⟨_,_,rfl,rfl⟩
  ·simp only [decide_eq_false ho,Bool.not_false,if_true]
   exact ⟨_,_,rfl,rfl⟩
 ·simp only [Option.bind_some,decide_eq_false h,Bool.not_false,if_true]
  exact ⟨_,_,rfl,rfl⟩
theorem ksT (W:List (List Int)) (hl:W.length≤9223372036854775807):∃ b,kgL W=some b∧(b=false→∀ l∈W,l.length≤12):=by
 unfold kgL
 rw [kgh (F:=keK W) true W hl (fun _ l=>decide ((12:Int)<lenI l)) (fun i hi=>by
  unfold keK
  rw [if_pos (lenI_lt.2 hi),kaS hi,kav (by omega)]
  simp only [Option.bind_some]
  cases decide ((12:Int)<lenI W[i]) <;> rfl) (by unfold keK; rw [if_neg kaT])]
 rw [kms (fun l=>decide ((12:Int)<lenI l)) W 0]
 cases hc:W.any fun l=>decide ((12:Int)<lenI l) with
 | true=>exact ⟨true,rfl,fun h=>by cases h⟩
 | false=>
  refine ⟨_,rfl,fun _ l hl=>?_⟩
  have:=List.any_eq_false.1 hc l hl
  rw [decide_eq_true_eq,kan] at this
  omega
theorem kqD (l:List Int) (hl:l.length≤1000):ked l l=some true:=by
 unfold ked
 rw [if_neg (by simp),kgh (F:=kcR l l) false l (by omega) (fun _ _=>false) (fun i hi=>by
  unfold kcR
  rw [if_pos (by rw [kan]; simpa using hi),kaS hi,kav (by omega)]
  simp) (by unfold kcR; rw [if_neg (by simp [kan])])]
 simp
theorem law08_BoxTrades_eq (W:List (List Int)) (T:List Int) (x:Int) (hl:W.length≤9223372036854775807) (x0:0≤x) (x1:x<256):kfo W T x=some true:=by
 obtain ⟨c,hc,hw⟩:=ksT W hl
 unfold kfo
 rw [hc]
 cases c with
 | true=>rfl
 | false=>
  have hW:=hw rfl
  simp only [Option.bind_some,Bool.false_eq_true,if_false]
  by_cases h1:decide ((12:Int)<lenI T)=true
  ·rw [if_pos h1]
  ·rw [if_neg h1]
   rw [decide_eq_true_eq,kan] at h1
   obtain ⟨l,e,l8,t1,t2⟩:=ksk hW
   obtain ⟨b,e',b1,b2⟩:=kqV hW (T:=T) (by omega) x0 x1
   rw [t1,t2,b1,b2]
   simp [kqD l (by omega)]
end Go.Abs
