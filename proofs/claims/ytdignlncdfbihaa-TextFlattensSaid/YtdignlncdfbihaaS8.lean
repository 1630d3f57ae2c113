/- The functions and the law, part 8. -/
import Derived.Shelf.SlLaysF0
import Derived.Test.YtdignlncdfbihaaProg
import Derived.Laws.RangeAny
import Derived.Test.YtdignlncdfbihaaZ3
import Derived.Test.YtdignlncdfbihaaZ6
import Derived.Test.YtdignlncdfbihaaZ7
set_option linter.constructorNameAsVariable false
set_option linter.unusedVariables false
set_option linter.unusedSimpArgs false
set_option linter.unusedSectionVars false
namespace Go.Abs
open Go
abbrev Ti:Ty:=.i .i64
abbrev Tj:Ty:=.pr Ti (.pr Ti Ti)
abbrev Tk:Ty:=.pr Ti (.pr (.i .u8) Ti)
@[reducible] def tSub:Ty:=(.pr .s (.sl (.pr (.i .i64) (.pr (.i .i64) (.pr (.pr (.i .i64) (.pr (.i .i64) (.i .i64))) (.pr (.i .u8) (.i .u8)))))))
abbrev Sub:=(List UInt8×(List (Int×Int×(Int×Int×Int)×Int×Int)))
@[reducible] def tBrick:Ty:=(.pr (.i .i64) (.pr (.pr (.i .i64) (.pr (.i .i64) (.i .i64))) (.pr (.i .u8) (.i .u8))))
abbrev Brick:=(Int×(Int×Int×Int)×Int×Int)
@[reducible] def tLine:Ty:=(.pr (.i .i64) tBrick)
abbrev Line:=(Int×Brick)
def kdQ (a:Ya Sub) (v0:Int):Yb (Int⊕(Bool⊕Unit)):=
 (if (decide (v0<(lenI a)))=true then ((gi a v0).bind λc=>if (decide (30<(lenI c.2)))=true then (some (.inr (.inl true))) else ((gi a v0).bind λb=>if (decide (100<(lenI b.1)))=true then (some (.inr (.inl true))) else (some (.inl (w64 (v0+1)))))) else (some (.inr (.inr ()))))
def kfI (a:Ya Sub):Yb Bool:=
 (if (decide (12<(lenI a)))=true then (some true) else ((iter (kdQ a) 0).bind λv3=>match v3 with | .inl v4=>(some v4) | .inr v5=>(some false)))
def keL (a:Int) (c:Int) (b:Int):Yb Bool:=
 (if (decide (a<c))=true then (some true) else (some (decide (b<a))))
def kaU (a:Ya Int) (e:(Int->Yb Bool)) (v0:Int):Yb (Int⊕(Int⊕Unit)):=
 (if (decide (v0<(lenI a)))=true then ((gi a v0).bind λc=>(e c).bind λb=>if b=true then (some (.inr (.inl v0))) else (some (.inl (w64 (v0+1))))) else (some (.inr (.inr ()))))
def kbF (a:Ya Int) (b:(Int->Yb Bool)):Yb Int:=
 ((iter (kaU a b) 0).bind λv3=>match v3 with | .inl v4=>(some v4) | .inr v5=>(some (-1)))
def kaT (a:Ya Int) (b:(Int->Yb Bool)):Yb Bool:=
 ((kbF a b).bind λv0=>some (decide (0<=v0)))
def kbN (a:Int) (c:Int) (e:Ya Int):Yb Bool:=
 ((kaT e (λ(b:Int)=>((keL b a c).bind λf=>some f))).bind λv0=>some (!v0))
def kbT (v0:Ya UInt8×Int):Yb ((Ya UInt8×Int)⊕(Bool⊕Unit)):=
 (if (decide (v0.2<(lenI v0.1)))=true then ((if (decide (97<=(runeV v0)))=true then (some (decide ((runeV v0)<=122))) else (some false)).bind λa=>if a=true then (some (.inl (runeN v0))) else (if (v0.2==0)=true then (some (.inr (.inl false))) else (if ((runeV v0) != 45)=true then (if (decide ((runeV v0)<48))=true then (some (.inr (.inl false))) else (if (decide (57<(runeV v0)))=true then (some (.inr (.inl false))) else (some (.inl (runeN v0))))) else (some (.inl (runeN v0)))))) else (some (.inr (.inr ()))))
def kfA (a:Ya UInt8):Yb Bool:=
 ((iter (kbT) (a,0)).bind λb=>match b with | .inl v3=>(some v3) | .inr v4=>((kbN 1 12 [(lenI a)]).bind λv5=>some v5))
def kfW (a:Int×Int×Int):Yb Bool:=
 ((kbN (-1000) 1000 [a.1,a.2.1,a.2.2]).bind λv0=>some v0)
def kci (b:Ya Sub) (e:Int×(Ya (Ya UInt8×Bool))) (c:Sub) (v4:Int):Yb (Int⊕(Int⊕Unit)):=
 (if (decide (v4<(lenI c.2)))=true then ((gi c.2 v4).bind λv5=>(if (v5.1==(-1))=true then ((kbN 0 15 [v5.2.1]).bind λf=>if f=true then (some true) else ((kbN (w64 (e.1+1)) (w64 ((lenI b)-1)) [v5.1]).bind λi=>if i=true then (some (v5.2.1==0)) else (some false))) else ((kbN (w64 (e.1+1)) (w64 ((lenI b)-1)) [v5.1]).bind λg=>if g=true then (some (v5.2.1==0)) else (some false))).bind λv9=>if (!v9)=true then (some (.inr (.inl 8))) else ((kfW v5.2.2.1).bind λa=>if (!a)=true then (some (.inr (.inl 8))) else (if (decide (24<=v5.2.2.2.1))=true then (some (.inr (.inl 8))) else (if (decide (15<v5.2.2.2.2))=true then (some (.inr (.inl 8))) else (some (.inl (w64 (v4+1)))))))) else (some (.inr (.inr ()))))
def kel (c:Ya Sub) (a:Int×(Ya (Ya UInt8×Bool))):Yb ((Int×(Ya (Ya UInt8×Bool)))⊕(Int⊕Unit)):=
 (if (decide (a.1<(lenI c)))=true then ((gi c a.1).bind λb=>(kfA b.1).bind λv3=>if (!v3)=true then (some (.inr (.inl 8))) else (if ((mget a.2 b.1).getD false)=true then (some (.inr (.inl 8))) else (if (decide (20<(lenI b.2)))=true then (some (.inr (.inl 8))) else ((iter (kci c a b) 0).bind λe=>match e with | .inl v12=>(some (.inr (.inl v12))) | .inr v13=>(some (.inl ((w64 (a.1+1)),(mput a.2 b.1 true)))))))) else (some (.inr (.inr ()))))
def kdR (b:Ya Sub):Yb Int:=
 ((kbN 1 8 [(lenI b)]).bind λv0=>if (!v0)=true then (some 8) else ((iter (kel b) (0,[])).bind λa=>match a with | .inl v15=>(some v15) | .inr v16=>(some 0)))
def kat (o:Yb (Ya (Int×Sub))) (a:Ya Sub) (v0:Int×(Ya (Int×Sub))):Yb ((Int×(Ya (Int×Sub)))⊕((Ya (Int×Sub))⊕(Ya (Int×Sub)))):=
 (if (decide (0<=v0.1))=true then ((gi a v0.1).bind λc=>(gpre (.pr (.i .i64) (.pr .s (.sl (.pr (.i .i64) (.pr (.i .i64) (.pr (.pr (.i .i64) (.pr (.i .i64) (.i .i64))) (.pr (.i .u8) (.i .u8)))))))) o v0.2 (v0.1,c)).bind λb=>some (.inl ((w64 (v0.1-1)),b))) else (some (.inr (.inr v0.2))))
def kan (o:Yb (Ya (Int×Sub))) (a:Ya Sub):Yb (Ya (Int×Sub)):=
 ((iter (kat o a) ((w64 ((lenI a)-1)),[])).bind λv3=>match v3 with | .inl v4=>(some v4) | .inr v5=>(some v5))
def kcW (a:Int×Int×Int) (c:Int) (b:Int):Yb Bool:=
 (if (decide (c<=(imin (imin a.1 a.2.1) a.2.2)))=true then (some (decide ((imax (imax a.1 a.2.1) a.2.2)<=b))) else (some false))
def kcE (a:Ya Int) (v0:Int):Yb (Int⊕(Bool⊕Unit)):=
 (if (decide (v0<(lenI a)))=true then ((gi a v0).bind λb=>if (decide (b<0))=true then (some (.inr (.inl false))) else (if (decide (24<=b))=true then (some (.inr (.inl false))) else (some (.inl (w64 (v0+1)))))) else (some (.inr (.inr ()))))
def kcV (b:Ya Int):Yb Bool:=
 ((iter (kcE b) 0).bind λa=>match a with | .inl v3=>(some v3) | .inr v4=>(some true))
def kaE (a:Int×Int×Int):Yb (Int×Int×Int):=
 (some (a.1,(w64 (0-a.2.2)),a.2.1))
def kfL (a:Int×Int×Int):Yb (Int×Int×Int):=
 (some a)
def kdG (a:Int×Int×Int):Yb (Int×Int×Int):=
 (some (a.2.2,a.1,a.2.1))
def kcA (a:Int×Int×Int):Yb (Int×Int×Int):=
 (some ((w64 (0-a.2.2)),(w64 (0-a.1)),a.2.1))
def lattice_turners_m0:Yb Unit:=
 (some ())
def kcK (b:Int×Int×Int):Yb (Int×Int×Int):=
 ((kaE b).bind λv0=>(kaE v0).bind λc=>(kaE c).bind λa=>some a)
def kcH (a:Int×Int×Int):Yb (Int×Int×Int):=
 ((kaE a).bind λv0=>(kaE v0).bind λb=>some b)
def kcm (v0:Int) (a:Int×Int×Int×Int):Yb ((Int×Int×Int×Int)⊕(Int×Int×Int)):=
 (if (decide (a.1<v0))=true then (some (.inl ((w64 (a.1+1)),(w64 (0-a.2.2.1)),a.2.1,a.2.2.2))) else (some (.inr a.2)))
def kca (e:Int×Int×Int) (c:Int):Yb (Int×Int×Int):=
 ((grem c 4).bind λv0=>(iter (kcm v0) (0,e)).bind λa=>(gquo .i64 c 4).bind λv3=>lattice_turners_m0.bind λv4=>if (decide (v3=0))=true then ((kfL a).bind λv5=>some v5) else (if (decide (v3=1))=true then ((kaE a).bind λg=>some g) else (if (decide (v3=2))=true then ((kcH a).bind λi=>some i) else (if (decide (v3=3))=true then ((kcK a).bind λf=>some f) else (if (decide (v3=4))=true then ((kdG a).bind λv9=>some v9) else (if (decide (v3=5))=true then ((kcA a).bind λb=>some b) else none))))))
def kcS (a:Int×Int×Int) (b:Int):Yb ((Int×Int×Int)×Int):=
 ((kcW a (-2000) 2000).bind λv0=>if (!v0)=true then (some ((0,0,0),2)) else ((kcV [b]).bind λe=>if (!e)=true then (some ((0,0,0),2)) else ((kca a b).bind λc=>some (c,0))))
def kfB (a:Int×Int×Int) (e:Int):Yb (Int×Int×Int):=
 ((kcS (1,0,0) e).bind λv0=>(kcS (0,1,0) e).bind λc=>(kcS (0,0,1) e).bind λb=>some ((w64 ((w64 ((w64 (a.1*v0.1.1))+(w64 (a.2.1*c.1.1))))+(w64 (a.2.2*b.1.1)))),(w64 ((w64 ((w64 (a.1*v0.1.2.1))+(w64 (a.2.1*c.1.2.1))))+(w64 (a.2.2*b.1.2.1)))),(w64 ((w64 ((w64 (a.1*v0.1.2.2))+(w64 (a.2.1*c.1.2.2))))+(w64 (a.2.2*b.1.2.2))))))
def khO (o:Yb (Ya (Int×Int×Int×Int))) (v0:Int×(Ya (Int×Int×Int×Int))):Yb ((Int×(Ya (Int×Int×Int×Int)))⊕((Ya (Int×Int×Int×Int))⊕(Ya (Int×Int×Int×Int)))):=
 (if (decide (v0.1<24))=true then ((kca (1,2,3) v0.1).bind λb=>(gpre (.pr (.i .i64) (.pr (.i .i64) (.pr (.i .i64) (.i .i64)))) o v0.2 (v0.1,b)).bind λa=>some (.inl ((w64 (v0.1+1)),a))) else (some (.inr (.inr v0.2))))
def kdr (o:Yb (Ya (Int×Int×Int×Int))):Yb (Ya (Int×Int×Int×Int)):=
 ((iter (khO o) (0,[])).bind λv3=>match v3 with | .inl v4=>(some v4) | .inr v5=>(some v5))
def kcv (a:Int×Int×Int) (v3:Ya (Int×Int×Int×Int)) (v4:Int×Int):Yb ((Int×Int)⊕(Int⊕Int)):=
 (if (decide (v4.1<(lenI v3)))=true then ((gi v3 v4.1).bind λv5=>if ((v5.2.1==a.1)&&((v5.2.2.1==a.2.1)&&(v5.2.2.2==a.2.2)))=true then (some (.inr (.inl v5.1))) else (some (.inl ((v4.1+1),v4.2)))) else (some (.inr (.inr v4.2))))
def kds (a:Int) (e:Int):Yb Int:=
 ((kca (1,2,3) a).bind λv0=>(kca v0 e).bind λc=>lattice_turners_m0.bind λf=>(runI λo=>kdr o).bind λv3=>(iter (kcv c v3) (0,0)).bind λb=>match b with | .inl v7=>(some v7) | .inr v8=>(some (-1)))
def kfa (a:Int) (b:Int):Yb (Int×Int):=
 ((kcV [a,b]).bind λv0=>if (!v0)=true then (some (0,2)) else ((kds a b).bind λc=>some (c,0)))
def kbd (a:Ya Int) (v0:Int):Yb (Int⊕(Int⊕Unit)):=
 (if (decide (v0<(lenI a)))=true then ((gi a v0).bind λb=>if (b != 0)=true then (some (.inr (.inl b))) else (some (.inl (w64 (v0+1))))) else (some (.inr (.inr ()))))
def kbC (b:Ya Int):Yb Int:=
 ((iter (kbd b) 0).bind λa=>match a with | .inl v3=>(some v3) | .inr v4=>(some 0))
def kbP (b:Brick) (a:Brick):Yb Brick:=
 ((kfB b.2.1 (w64 a.2.2.1)).bind λv0=>(kfa (w64 b.2.2.1) (w64 a.2.2.1)).bind λe=>(kbC [b.2.2.2,a.2.2.2]).bind λc=>some (b.1,((w64 (v0.1+a.2.1.1)),(w64 (v0.2.1+a.2.1.2.1)),(w64 (v0.2.2+a.2.1.2.2))),(IntKind.wrap .u8 e.1),c))
def kay (a:Ya Brick) (e:(Brick->Yb Bool)) (v0:Int):Yb (Int⊕(Int⊕Unit)):=
 (if (decide (v0<(lenI a)))=true then ((gi a v0).bind λc=>(e c).bind λb=>if b=true then (some (.inr (.inl v0))) else (some (.inl (w64 (v0+1))))) else (some (.inr (.inr ()))))
def kaN (a:Ya Brick) (b:(Brick->Yb Bool)):Yb Int:=
 ((iter (kay a b) 0).bind λv3=>match v3 with | .inl v4=>(some v4) | .inr v5=>(some (-1)))
def kaj (a:Ya Brick) (b:(Brick->Yb Bool)):Yb Bool:=
 ((kaN a b).bind λv0=>some (decide (0<=v0)))
def kaH (a:Brick):Yb Bool:=
 ((kfW a.2.1).bind λv0=>some (!v0))
abbrev FlT:=List (List Brick×Bool)
def flPut (R:FlT) (i:Int) (r:Ya Brick) (m:Bool):Yb FlT:=if r.length<=1000000 then some (lset R i (r,m)) else none
def kic (i:Int) (R:FlT) (l:Line):Yb FlT:=
 (gi R i).bind λa=>if l.1<0 then flPut R i (a.1++[l.2]) a.2
  else if l.1=i then none else (gi R l.1).bind λy=>(y.1.mapM λb=>kbP b l.2).bind λys=>flPut R i (a.1++ys) (a.2||y.2)
def kdN (i:Int):Ya Line->FlT->Yb FlT
 | [],R=>some R
 | l::ls,R=>(kic i R l).bind (kdN i ls)
def kfg (R:FlT) (x:Int×Sub):Yb FlT:=if x.2.2.length<=1000000 then (kdN x.1 x.2.2 R).bind λb=>(gi b x.1).bind λa=>some (if 40<a.1.length then lset b x.1 ([],true) else b) else none
def kdA:Ya (Int×Sub)->FlT->Yb FlT
 | [],R=>some R
 | x::xs,R=>(kfg R x).bind (kdA xs)
def kdy (S:Ya Sub):Yb (Ya Brick×Int):=
 (kdR S).bind λe=>if e=0 then (if S.length<=1000 then (runI λo=>kan o S).bind λxs=>(kdA xs (List.replicate S.length ([],false))).bind λR=>(gi R 0).bind λa=>
  if a.2=true then some ([],4) else (kaj a.1 kaH).bind λb=>if b=true then some ([],11) else some (a.1,0) else none) else some ([],e)
def kcf (a:Ya UInt8) (v0:Int):Yb (Int⊕(Bool⊕Unit)):=
 (if (decide (v0<(lenI a)))=true then (((gstr a v0).bind λe=>if (decide (97<=e))=true then ((gstr a v0).bind λb=>some (decide (b<=122))) else (some false)).bind λv3=>if (!v3)=true then (if (v0==0)=true then (some (.inr (.inl false))) else ((gstr a v0).bind λv4=>if (v4 != 45)=true then ((gstr a v0).bind λv5=>if (decide (v5<48))=true then (some (.inr (.inl false))) else ((gstr a v0).bind λc=>if (decide (57<c))=true then (some (.inr (.inl false))) else (some (.inl (w64 (v0+1)))))) else (some (.inl (w64 (v0+1)))))) else (some (.inl (w64 (v0+1))))) else (some (.inr (.inr ()))))
def kgz (a:Ya UInt8):Yb Bool:=
 ((iter (kcf a) 0).bind λb=>match b with | .inl v8=>(some v8) | .inr v9=>(if (decide (1<=(lenI a)))=true then (some (decide ((lenI a)<=12))) else (some false)))
def ken (a:Ya Sub) (c:Ya UInt8) (v0:Int):Yb (Int⊕(Int⊕Unit)):=
 (if (decide (v0<(lenI a)))=true then ((gi a v0).bind λb=>if (b.1==c)=true then (some (.inr (.inl v0))) else (some (.inl (w64 (v0+1))))) else (some (.inr (.inr ()))))
def kgD (b:Ya Sub) (c:Ya UInt8):Yb Int:=
 ((iter (ken b c) 0).bind λa=>match a with | .inl v3=>(some v3) | .inr v4=>(some (-1)))
def kbA (a:Int) (c:Int) (b:Int):Yb Bool:=
 (if (decide (c<=a))=true then (some (decide (a<=b))) else (some false))
def kce (a:Int×Int×Int):Yb Bool:=
 ((kbA a.1 (-1000) 1000).bind λv0=>if v0=true then ((kbA a.2.1 (-1000) 1000).bind λc=>if c=true then ((kbA a.2.2 (-1000) 1000).bind λb=>some b) else (some false)) else (some false))
def kgF (b:Ya Sub) (f:Int) (a:Line):Yb Bool:=
 ((kce a.2.2.1).bind λv0=>if (!v0)=true then (some false) else (if (decide (23<a.2.2.2.1))=true then (some false) else (if (decide (15<a.2.2.2.2))=true then (some false) else (if (a.1==(-1))=true then ((kbA a.2.1 0 15).bind λe=>some e) else ((kbA a.1 (w64 (f+1)) (w64 ((lenI b)-1))).bind λc=>if c=true then (some (a.2.1==0)) else (some false))))))
def kcN (b:Ya Sub) (v0:Int) (a:Sub) (v4:Int):Yb (Int⊕(Bool⊕Unit)):=
 (if (decide (v4<(lenI a.2)))=true then ((gi a.2 v4).bind λv5=>(kgF b v0 v5).bind λc=>if (!c)=true then (some (.inr (.inl false))) else (some (.inl (w64 (v4+1))))) else (some (.inr (.inr ()))))
def kdO (a:Ya Sub) (v0:Int):Yb (Int⊕(Bool⊕Unit)):=
 (if (decide (v0<(lenI a)))=true then ((gi a v0).bind λb=>(kgz b.1).bind λc=>if (!c)=true then (some (.inr (.inl false))) else (if (decide (20<(lenI b.2)))=true then (some (.inr (.inl false))) else ((kgD a b.1).bind λv3=>if (v3 != v0)=true then (some (.inr (.inl false))) else ((iter (kcN a v0 b) 0).bind λe=>match e with | .inl v8=>(some (.inr (.inl v8))) | .inr v9=>(some (.inl (w64 (v0+1)))))))) else (some (.inr (.inr ()))))
def kec (b:Ya Sub):Yb Bool:=
 (if (decide ((lenI b)<1))=true then (some false) else (if (decide (8<(lenI b)))=true then (some false) else ((iter (kdO b) 0).bind λa=>match a with | .inl v11=>(some v11) | .inr v12=>(some true))))
def kcG (e:Ya Sub) (b:Int×(Ya Int)) (a:Int×(Ya Int)):Yb ((Int×(Ya Int))⊕(Ya Int)):=
 ((gi e b.1).bind λv3=>if (decide (a.1<(lenI v3.2)))=true then ((gi e b.1).bind λv4=>(gi v4.2 a.1).bind λv5=>(if (decide (0<=v5.1))=true then ((gi a.2 v5.1).bind λj=>(gi a.2 v5.1).bind λi=>some i) else (some 1)).bind λf=>(gi a.2 b.1).bind λv9=>(gi a.2 b.1).bind λc=>(gi a.2 b.1).bind λg=>some (.inl ((w64 (a.1+1)),(lset a.2 b.1 (imin (w64 (c+f)) 41))))) else (some (.inr a.2)))
def kcP (c:Ya Sub) (a:Int×(Ya Int)):Yb ((Int×(Ya Int))⊕(Ya Int)):=
 (if (decide (0<=a.1))=true then ((iter (kcG c a) (0,a.2)).bind λb=>some (.inl ((w64 (a.1-1)),b))) else (some (.inr a.2)))
def kfG (a:Ya Sub):Yb (Ya Int):=
 ((gmk (lenI a) 0).bind λv0=>(iter (kcP a) ((w64 ((lenI a)-1)),v0)).bind λb=>some b)
def kck (a:Int) (v0:Int×Int×Int×Int):Yb ((Int×Int×Int×Int)⊕(Int×Int×Int)):=
 (if (decide (v0.1<a))=true then (some (.inl ((w64 (v0.1+1)),(w64 (0-v0.2.2.1)),v0.2.1,v0.2.2.2))) else (some (.inr v0.2)))
def kbD (a:Int×Int×Int) (c:Int):Yb (Int×Int×Int):=
 ((iter (kck c) (0,a)).bind λb=>some b)
def kcx (a:Int) (v0:Int×Int×Int×Int):Yb ((Int×Int×Int×Int)⊕(Int×Int×Int)):=
 (if (decide (v0.1<a))=true then (some (.inl ((w64 (v0.1+1)),v0.2.1,(w64 (0-v0.2.2.2)),v0.2.2.1))) else (some (.inr v0.2)))
def kcQ (a:Int×Int×Int) (c:Int):Yb (Int×Int×Int):=
 ((iter (kcx c) (0,a)).bind λb=>some b)
def kbi (c:Int×Int×Int) (a:Int):Yb (Int×Int×Int):=
 ((grem a 4).bind λv0=>(kbD c v0).bind λb=>(gquo .i64 a 4).bind λf=>if (decide (f<4))=true then ((gquo .i64 a 4).bind λv3=>(kcQ b v3).bind λv4=>some v4) else ((kcQ b 1).bind λv5=>(gquo .i64 a 4).bind λg=>if (g==4)=true then ((kbD v5 1).bind λi=>some i) else ((kbD v5 3).bind λe=>some e)))
def kcD (c:Int) (e:Int) (v0:Int):Yb (Int⊕(Int⊕Unit)):=
 (if (decide (v0<24))=true then ((kbi (1,0,0) v0).bind λb=>(kbi (1,0,0) c).bind λf=>(kbi f e).bind λv3=>if ((b.1==v3.1)&&((b.2.1==v3.2.1)&&(b.2.2==v3.2.2)))=true then ((kbi (0,1,0) v0).bind λv4=>(kbi (0,1,0) c).bind λv5=>(kbi v5 e).bind λa=>if ((v4.1==a.1)&&((v4.2.1==a.2.1)&&(v4.2.2==a.2.2)))=true then (some (.inr (.inl v0))) else (some (.inl (w64 (v0+1))))) else (some (.inl (w64 (v0+1))))) else (some (.inr (.inr ()))))
def kdJ (b:Int) (c:Int):Yb Int:=
 ((iter (kcD b c) 0).bind λa=>match a with | .inl v8=>(some v8) | .inr v9=>(some 0))
def keM (b:Brick) (a:Brick):Yb Brick:=
 ((kbi b.2.1 (w64 a.2.2.1)).bind λv0=>(kdJ (w64 b.2.2.1) (w64 a.2.2.1)).bind λc=>if (b.2.2.2==0)=true then (some (b.1,((w64 (v0.1+a.2.1.1)),(w64 (v0.2.1+a.2.1.2.1)),(w64 (v0.2.2+a.2.1.2.2))),(IntKind.wrap .u8 c),a.2.2.2)) else (some (b.1,((w64 (v0.1+a.2.1.1)),(w64 (v0.2.1+a.2.1.2.1)),(w64 (v0.2.2+a.2.1.2.2))),(IntKind.wrap .u8 c),b.2.2.2)))
def kcs (v3:Line) (c:Ya Brick) (a:Int×(Ya Brick)):Yb ((Int×(Ya Brick))⊕(Ya Brick)):=
 (if (decide (a.1<(lenI c)))=true then ((gi c a.1).bind λe=>(keM e v3.2).bind λv9=>(gapp a.2 [v9]).bind λb=>some (.inl ((w64 (a.1+1)),b))) else (some (.inr a.2)))
def kdu (a:(Ya Sub)->(Ya Int)->Int->Yb (Ya Brick)) (b:Ya Sub) (e:Ya Int) (f:Int) (v0:Int×(Ya Brick)):Yb ((Int×(Ya Brick))⊕(Ya Brick)):=
 ((gi b f).bind λj=>if (decide (v0.1<(lenI j.2)))=true then ((gi b f).bind λg=>(gi g.2 v0.1).bind λv3=>if (v3.1==(-1))=true then ((gapp v0.2 [v3.2]).bind λv4=>some (.inl ((w64 (v0.1+1)),v4))) else ((gi e v3.1).bind λv5=>if (v5==0)=true then (some (.inl ((w64 (v0.1+1)),v0.2))) else ((a b e v3.1).bind λi=>(iter (kcs v3 i) (0,v0.2)).bind λc=>some (.inl ((w64 (v0.1+1)),c))))) else (some (.inr v0.2)))
def kip (a:(Ya Sub)->(Ya Int)->Int->Yb (Ya Brick)) (c:Ya Sub) (e:Ya Int) (f:Int):Yb (Ya Brick):=
 ((iter (kdu a c e f) (0,[])).bind λb=>some b)
def kbv:Nat->(Ya Sub)->(Ya Int)->Int->Yb (Ya Brick)
 | 0,_,_,_=>none
 | k+1,x0,x1,x2=>kip (kbv k) x0 x1 x2
def khf (a:Ya Sub) (c:Ya Int) (b:Int):Yb (Ya Brick):=kbv 1000000 a c b
def kbX (v3:Ya Brick) (v4:Int):Yb (Int⊕(((Ya Brick)×Int)⊕Unit)):=
 (if (decide (v4<(lenI v3)))=true then ((gi v3 v4).bind λv5=>(kce v5.2.1).bind λa=>if (!a)=true then (some (.inr (.inl ([],11)))) else (some (.inl (w64 (v4+1))))) else (some (.inr (.inr ()))))
def kej (a:Ya Sub):Yb ((Ya Brick)×Int):=
 ((kec a).bind λv0=>if (!v0)=true then (some ([],8)) else ((kfG a).bind λb=>(gi b 0).bind λc=>if (decide (40<c))=true then (some ([],4)) else ((khf a b 0).bind λv3=>(iter (kbX v3) 0).bind λe=>match e with | .inl v8=>(some v8) | .inr v9=>(some (v3,0)))))
def kem (a:Int):Yb Bool:=
 (some (a != a))
def kfb (a:Int) (b:Int):Yb Int:=
 ((kem a).bind λv0=>(kem b).bind λc=>if v0=true then (if c=true then (some 0) else (some (-1))) else (if c=true then (some 1) else (if (decide (a<b))=true then (some (-1)) else (if (decide (b<a))=true then (some 1) else (some 0)))))
def kgl (a:Int×Int×Int) (b:Int×Int×Int):Yb Int:=
 ((kfb a.1 b.1).bind λv0=>(kfb a.2.1 b.2.1).bind λe=>(kbC [v0,e]).bind λc=>some c)
def orC (c d:Int):Int:=if c=0 then d else c
def brk (S:Ya Sub):Nat->Nat->Ya (Int×Int)
 | 0,_=>[]
 | f+1,i=>match S[i]? with
  | none=>[]
  | some s=>s.2.flatMap λl=>if l.1<0 then [(l.2.1,l.2.2.2.2)] else (brk S f l.1.toNat).map λp=>(p.1,orC p.2 l.2.2.2.2)
def kLt (a b:Int×Int):Bool:=decide (a.1<b.1)||(a.1==b.1&&decide (a.2<b.2))
def insK (p:Int×Int):Ya (Int×Int)->Ya (Int×Int)
 | []=>[p]
 | q::r=>if kLt p q=true then p::q::r else if p=q then q::r else q::insK p r
def setK (L:Ya (Int×Int)):Ya (Int×Int):=L.foldr insK []
abbrev ItemT:=Int×Int×Int
abbrev cntK (L:List (Int×Int)) (p:Int×Int):Nat:=@List.count _ instBEqOfDecidableEq p L
def kba (L:Ya (Int×Int)):Ya ItemT:=(setK L).map λp=>(p.1,p.2,(cntK L p:Int))
def itCmp (a b:ItemT):Int:=if a.1<b.1 then -1 else if b.1<a.1 then 1 else if a.2.1<b.2.1 then -1 else if b.2.1<a.2.1 then 1 else 0
def cntOk (S:Ya Sub):Bool:=decide (0<S.length)&&decide (S.length<1000000)&&S.all (λs=>decide (s.2.length<1000000))&&S.zipIdx.all (λx=>x.1.2.all λl=>decide (l.1<0)||(decide ((x.2:Int)<l.1)&&decide (l.1<S.length))) &&
 (List.range S.length).all (λi=>decide ((brk S S.length i).length<4611686018427387904))&&decide ((kba (brk S S.length 0)).length<=1000000)
def keV (S:Ya Sub):Yb (Ya ItemT×Int):=
 (kdR S).bind λe=>if e=0 then (if cntOk S=true then some (kba (brk S S.length 0),0) else none) else some ([],e)
def kdc (a:Ya Sub) (b:Int) (i:Int) (g:Int) (c:Int) (v0:Int×Int):Yb ((Int×Int)⊕Int):=
 ((gi a b).bind λf=>if (decide (v0.1<(lenI f.2)))=true then ((gi a b).bind λe=>(gi e.2 v0.1).bind λv3=>(if (v3.2.2.2.2==0)=true then (some c) else (some v3.2.2.2.2)).bind λv4=>if (v3.1==(-1))=true then (if (v3.2.1==i)=true then (if (v4==g)=true then (some (.inl ((w64 (v0.1+1)),(w64 (v0.2+1))))) else (some (.inl ((w64 (v0.1+1)),v0.2)))) else (some (.inl ((w64 (v0.1+1)),v0.2)))) else (some (.inl ((w64 (v0.1+1)),v0.2)))) else (some (.inr v0.2)))
def kdm (a:Ya Sub) (c:Int) (f:Int) (e:Int) (b:Int):Yb Int:=
 ((iter (kdc a c f e b) (0,0)).bind λv5=>some v5)
def kbk (j:Int×(Ya (Arr 16 Int))) (b:Line) (a:Int×(Ya (Arr 16 Int))):Yb ((Int×(Ya (Arr 16 Int)))⊕(Ya (Arr 16 Int))):=
 (if (decide (0<=b.1))=true then (if (decide (a.1<16))=true then ((if (b.2.2.2.2 != 0)=true then (some (w64 b.2.2.2.2)) else (some a.1)).bind λc=>(gi a.2 b.1).bind λk=>(gi a.2 b.1).bind λe=>(garr e c).bind λp=>(garr e c).bind λf=>(gi a.2 j.1).bind λm=>(gi a.2 j.1).bind λg=>(garr g a.1).bind λo=>(gi a.2 j.1).bind λi=>(garr i a.1).bind λv22=>(garr e c).bind λs=>(gi a.2 b.1).bind λl=>some (.inl ((w64 (a.1+1)),(lset a.2 b.1 (aset e c (w64 (f+v22))))))) else (some (.inr a.2))) else (some (.inr a.2)))
def kcX (f:Ya Sub) (e:Int×(Ya (Arr 16 Int))) (a:Int×(Ya (Arr 16 Int))):Yb ((Int×(Ya (Arr 16 Int)))⊕(Ya (Arr 16 Int))):=
 ((gi f e.1).bind λv9=>if (decide (a.1<(lenI v9.2)))=true then ((gi f e.1).bind λb=>(gi b.2 a.1).bind λc=>(iter (kbk e c) (0,a.2)).bind λv25=>some (.inl ((w64 (a.1+1)),v25))) else (some (.inr a.2)))
def kcI (c:Ya Sub) (a:Int×(Ya (Arr 16 Int))):Yb ((Int×(Ya (Arr 16 Int)))⊕(Ya (Arr 16 Int))):=
 (if (decide (a.1<(lenI c)))=true then ((iter (kcX c a) (0,a.2)).bind λb=>some (.inl ((w64 (a.1+1)),b))) else (some (.inr a.2)))
def kcL (m:Ya Sub) (c:Ya (Arr 16 Int)) (f:Int×(Ya (Int×Int×Int))) (j:Int×(Ya (Int×Int×Int))) (b:Int×Int) (a:Int×Int):Yb ((Int×Int)⊕Int):=
 (if (decide (a.1<16))=true then ((gi c b.1).bind λl=>(gi c b.1).bind λk=>(garr k a.1).bind λo=>(gi c b.1).bind λe=>(garr e a.1).bind λg=>(kdm m b.1 f.1 (IntKind.wrap .u8 j.1) (IntKind.wrap .u8 a.1)).bind λi=>some (.inl ((w64 (a.1+1)),(w64 (a.2+(w64 (g*i))))))) else (some (.inr a.2)))
def kcM (g:Ya Sub) (f:Ya (Arr 16 Int)) (b:Int×(Ya (Int×Int×Int))) (e:Int×(Ya (Int×Int×Int))) (a:Int×Int):Yb ((Int×Int)⊕Int):=
 (if (decide (a.1<(lenI g)))=true then ((iter (kcL g f b e a) (0,a.2)).bind λc=>some (.inl ((w64 (a.1+1)),c))) else (some (.inr a.2)))
def kcR (f:Ya Sub) (c:Ya (Arr 16 Int)) (b:Int×(Ya (Int×Int×Int))) (a:Int×(Ya (Int×Int×Int))):Yb ((Int×(Ya (Int×Int×Int)))⊕(Ya (Int×Int×Int))):=
 (if (decide (a.1<16))=true then ((iter (kcM f c b a) (0,0)).bind λv39=>if (decide (0<v39))=true then ((gapp a.2 [(b.1,(IntKind.wrap .u8 a.1),v39)]).bind λe=>some (.inl ((w64 (a.1+1)),e))) else (some (.inl ((w64 (a.1+1)),a.2)))) else (some (.inr a.2)))
def kcY (e:Ya Sub) (c:Ya (Arr 16 Int)) (a:Int×(Ya (Int×Int×Int))):Yb ((Int×(Ya (Int×Int×Int)))⊕(Ya (Int×Int×Int))):=
 (if (decide (a.1<16))=true then ((iter (kcR e c a) (0,a.2)).bind λb=>some (.inl ((w64 (a.1+1)),b))) else (some (.inr a.2)))
def kfz (a:Ya Sub):Yb ((Ya (Int×Int×Int))×Int):=
 ((kec a).bind λv0=>if (!v0)=true then (some ([],8)) else ((gmk (lenI a) (amk 16 0)).bind λb=>(gi b 0).bind λf=>(gi b 0).bind λv3=>(garr v3 0).bind λv4=>(gi b 0).bind λv5=>(garr v5 0).bind λg=>(iter (kcI a) (0,(lset b 0 (aset v5 0 1)))).bind λe=>(iter (kcY a e) (0,[])).bind λc=>some (c,0)))
def kco (c:Ya Brick) (e:Ya Brick) (v0:Int):Yb (Int⊕(Bool⊕Unit)):=
 (if (decide (v0<(lenI c)))=true then ((gi c v0).bind λb=>(gi e v0).bind λa=>if (!((b.1==a.1)&&(((b.2.1.1==a.2.1.1)&&((b.2.1.2.1==a.2.1.2.1)&&(b.2.1.2.2==a.2.1.2.2)))&&((b.2.2.1==a.2.2.1)&&(b.2.2.2==a.2.2.2)))))=true then (some (.inr (.inl false))) else (some (.inl (w64 (v0+1))))) else (some (.inr (.inr ()))))
def kdw (a:Ya Brick) (b:Ya Brick):Yb Bool:=
 (if ((lenI a) != (lenI b))=true then (some false) else ((iter (kco a b) 0).bind λv3=>match v3 with | .inl v4=>(some v4) | .inr v5=>(some true)))
def kcr (c:Ya (Int×Int×Int)) (e:Ya (Int×Int×Int)) (v0:Int):Yb (Int⊕(Bool⊕Unit)):=
 (if (decide (v0<(lenI c)))=true then ((gi c v0).bind λb=>(gi e v0).bind λa=>if (!((b.1==a.1)&&((b.2.1==a.2.1)&&(b.2.2==a.2.2))))=true then (some (.inr (.inl false))) else (some (.inl (w64 (v0+1))))) else (some (.inr (.inr ()))))
def kdv (a:Ya (Int×Int×Int)) (b:Ya (Int×Int×Int)):Yb Bool:=
 (if ((lenI a) != (lenI b))=true then (some false) else ((iter (kcr a b) 0).bind λv3=>match v3 with | .inl v4=>(some v4) | .inr v5=>(some true)))
def kdD (a:Ya Sub):Yb Bool:=
 ((kfI a).bind λv0=>if v0=true then (some true) else ((kdy a).bind λc=>(kej a).bind λb=>(keV a).bind λv3=>(kfz a).bind λv4=>(kdw c.1 b.1).bind λv5=>if v5=true then (if (c.2==b.2)=true then ((kdv v3.1 v4.1).bind λe=>if e=true then (some (v3.2==v4.2)) else (some false)) else (some false)) else (some false)))
end Go.Abs
namespace Go.Proofs
open Go.Shelf
def Try.sortL_ren:Go.Shelf.Ren:=⟨fun | 6=>23 | 15=>41 | 14=>40 | 28=>59 | 29=>60 | 20=>51 | 21=>52 | 22=>53 | 23=>54 | 24=>55 | 25=>56 | 26=>57 | 27=>58 | 46=>67 | 47=>68 | 48=>69 | 49=>70 | 50=>71 | 57=>74 | n=>n,fun | 22=>34 | 24=>70 | 25=>75 | 3=>3 | 39=>93 | 0=>0 | 53=>109 | 55=>111 | 4=>4 | 46=>102 | 45=>101 | 50=>106 | 5=>5 | 9=>9 | 66=>117 | 70=>121 | 76=>129 | 77=>130 | n=>n,fun | n=>n⟩
theorem Try.sortL:Go.Proofs.SlLaysF0.n6 Try.prog Try.sortL_ren:={
 mixed:=by kernel_rfl
 f6:=⟨Try.f23.name,by decide,Try.func23.trans (congrArg some (by kernel_rfl))⟩
 f14:=⟨Try.f40.name,by decide,Try.func40.trans (congrArg some (by kernel_rfl))⟩
 f15:=Try.func41.trans (congrArg some (by kernel_rfl))
 f20:=⟨Try.f51.name,by decide,Try.func51.trans (congrArg some (by kernel_rfl))⟩
 f21:=⟨Try.f52.name,by decide,Try.func52.trans (congrArg some (by kernel_rfl))⟩
 f22:=⟨Try.f53.name,by decide,Try.func53.trans (congrArg some (by kernel_rfl))⟩
 f23:=⟨Try.f54.name,by decide,Try.func54.trans (congrArg some (by kernel_rfl))⟩
 f24:=⟨Try.f55.name,by decide,Try.func55.trans (congrArg some (by kernel_rfl))⟩
 f25:=⟨Try.f56.name,by decide,Try.func56.trans (congrArg some (by kernel_rfl))⟩
 f26:=⟨Try.f57.name,by decide,Try.func57.trans (congrArg some (by kernel_rfl))⟩
 f27:=⟨Try.f58.name,by decide,Try.func58.trans (congrArg some (by kernel_rfl))⟩
 f28:=Try.func59.trans (congrArg some (by kernel_rfl))
 f29:=Try.func60.trans (congrArg some (by kernel_rfl))
 f46:=⟨Try.f67.name,by decide,Try.func67.trans (congrArg some (by kernel_rfl))⟩
 f47:=Try.func68.trans (congrArg some (by kernel_rfl))
 f48:=Try.func69.trans (congrArg some (by kernel_rfl))
 f49:=⟨Try.f70.name,by decide,Try.func70.trans (congrArg some (by kernel_rfl))⟩
 f50:=⟨Try.f71.name,by decide,Try.func71.trans (congrArg some (by kernel_rfl))⟩
 f57:=⟨Try.f74.name,by decide,Try.func74.trans (congrArg some (by kernel_rfl))⟩
 t0:=Try.underlying0
 a0:=Try.isAgg0
 z0:=Try.sizeOf0
 v0:=Try.zeroValue0
 t3:=Try.underlying3
 a3:=Try.isAgg3
 z3:=Try.sizeOf3
 v3:=Try.zeroValue3
 t4:=Try.underlying4
 a4:=Try.isAgg4
 z4:=Try.sizeOf4
 v4:=Try.zeroValue4
 t5:=Try.underlying5
 a5:=Try.isAgg5
 z5:=Try.sizeOf5
 v5:=Try.zeroValue5
 t9:=Try.underlying9
 a9:=Try.isAgg9
 z9:=Try.sizeOf9
 v9:=Try.zeroValue9
 t22:=Try.underlying34
 a22:=Try.isAgg34
 z22:=Try.sizeOf34
 v22:=Try.zeroValue34
 t25:=Try.underlying75
 a25:=Try.isAgg75
 z25:=Try.sizeOf75
 v25:=Try.zeroValue75
 t39:=Try.underlying93
 a39:=Try.isAgg93
 z39:=Try.sizeOf93
 v39:=Try.zeroValue93
 t45:=Try.underlying101
 a45:=Try.isAgg101
 z45:=Try.sizeOf101
 v45:=Try.zeroValue101
 t46:=Try.underlying102
 a46:=Try.isAgg102
 z46:=Try.sizeOf102
 v46:=Try.zeroValue102
 t50:=Try.underlying106
 a50:=Try.isAgg106
 z50:=Try.sizeOf106
 v50:=Try.zeroValue106
 t53:=Try.underlying109
 a53:=Try.isAgg109
 z53:=Try.sizeOf109
 v53:=Try.zeroValue109
 t55:=Try.underlying111
 a55:=Try.isAgg111
 z55:=Try.sizeOf111
 v55:=Try.zeroValue111
 t66:=Try.underlying117
 a66:=Try.isAgg117
 z66:=Try.sizeOf117
 v66:=Try.zeroValue117
 t70:=Try.underlying121
 a70:=Try.isAgg121
 z70:=Try.sizeOf121
 v70:=Try.zeroValue121
 t76:=Try.underlying129
 a76:=Try.isAgg129
 z76:=Try.sizeOf129
 v76:=Try.zeroValue129
 t77:=Try.underlying130
 a77:=Try.isAgg130
 z77:=Try.sizeOf130
 v77:=Try.zeroValue130 }
end Go.Proofs
set_option maxRecDepth 100000
namespace Go.Abs
open Go Go.Proofs
def kjw:Ctr:=⟨ "",[(.w (.sl tSub))],[.b],λx=>kfI x,[],[]⟩
theorem kma:Good Try.prog 4 kjw:=
 kal Try.func4 (by kernel_rfl) (An:=[(0,⟨⟨[(3,.c Ti)],[]⟩,⟨[],[]⟩,[1],[0],1,true,""⟩)]) [] (.nil) (λx=>by kernel_rfl)
def kiA:Ctr:=⟨ "",[Ti,(.pt Ti),(.pt Ti)],[.b],λx=>keL x.1 x.2.1 x.2.2,[],[]⟩
theorem kkL:Good Try.prog 45 kiA:=
 kal Try.func45 (by kernel_rfl) (An:=[]) [] (.nil) (λx=>by kernel_rfl)
def kcO:Ctr:=⟨ "",[(.sl Ti),(.fn 1 Ti .b)],[Ti],λx=>kbF x.1 x.2,[],[]⟩
theorem keF:Good Try.prog 61 kcO:=
 kal Try.func61 (by kernel_rfl) (An:=[(0,⟨⟨[(8,.c Ti)],[]⟩,⟨[],[]⟩,[7,1,0],[],0,true,""⟩)]) [] (.nil) (λx=>by kernel_rfl)
def kcd:Ctr:=⟨ "",[(.sl Ti),(.fn 1 Ti .b)],[.b],λx=>kaT x.1 x.2,[],[]⟩
theorem kdW:Good Try.prog 44 kcd:=
 kal Try.func44 (by kernel_rfl) (An:=[]) [(61,kcO)] (.cons keF <| .nil) (λx=>by kernel_rfl)
def kfH:Ctr:=⟨ "",[Ti,Ti,(.sl Ti)],[.b],λx=>kbN x.1 x.2.1 x.2.2,[],[]⟩
theorem kfh:Good Try.prog 29 kfH:=
 kal Try.func29 (by kernel_rfl) (An:=[]) [(44,kcd),(45,kiA)] (.cons kdW <| .cons kkL <| .nil) (λx=>by kernel_rfl)
def kjn:Ctr:=⟨ "",[.s],[.b],λx=>kfA x,[],[]⟩
theorem klv:Good Try.prog 30 kjn:=
 kal Try.func30 (by kernel_rfl) (An:=[(0,⟨⟨[(6,.ptr 0 0)],[(0,.si)]⟩,⟨[],[]⟩,[0],[],1,true,""⟩),(18,⟨⟨[],[]⟩,⟨[(11,.c .b)],[]⟩,[4,6,3],[0],1,false,""⟩)]) [(29,kfH)] (.cons kfh <| .nil) (λx=>by kernel_rfl)
def khY:Ctr:=⟨ "",[Tj],[.b],λx=>kfW x,[],[]⟩
theorem kia:Good Try.prog 16 khY:=
 kal Try.func16 (by kernel_rfl) (An:=[]) [(29,kfH)] (.cons kfh <| .nil) (λx=>by kernel_rfl)
def kqr:Ctr:=⟨ "",[(.w (.sl tSub))],[Ti],λx=>kdR x,[],[]⟩
theorem text_Check_C_ok:Good Try.prog 11 kqr:=
 kal Try.func11 (by kernel_rfl) (An:=[(0,⟨⟨[(20,.c Ti),(3,.mp 2)],[(2,.mp .s .b)]⟩,⟨[],[]⟩,[19,18,1],[0],3,true,""⟩),(8,⟨⟨[(47,.c Ti)],[]⟩,⟨[],[]⟩,[46,45,4,20,3],[2],5,true,""⟩),(58,⟨⟨[],[]⟩,⟨[(9,.c .b)],[]⟩,[7,8,47],[5,6],7,false,""⟩)]) [(16,khY),(30,kjn),(29,kfH)] (.cons kia <| .cons klv <| .cons kfh <| .nil) (λx=>by kernel_rfl)
def kbt:CtrI:=⟨ "",[(.pt (.sl tSub))],[Ti,tSub],λx=>runI λo=>kan o x⟩
theorem slices_Backward_s_api_Sub_api_Sub_c1_I_ok:GoodI Try.prog 31 kbt:=
 kqF Try.func31 (by kernel_rfl) (An:=[(0,⟨⟨[(3,.c Ti),(9000000,.gs (.pr Ti tSub))],[]⟩,⟨[(9000000,.gs (.pr Ti tSub))],[]⟩,[1],[],1,true,""⟩)]) [] (.nil) (λx=>by kernel_rfl)
def kbs:Ctr:=⟨ "",[],[],λ_=>none,[],[kbt]⟩
theorem kcZ:Good Try.prog 31 kbs:=good_dm.moreI slices_Backward_s_api_Sub_api_Sub_c1_I_ok
def kiC:Ctr:=⟨ "",[Tj,Ti,Ti],[.b],λx=>kcW x.1 x.2.1 x.2.2,[],[]⟩
theorem kkK:Good Try.prog 62 kiC:=
 kal Try.func62 (by kernel_rfl) (An:=[]) [] (.nil) (λx=>by kernel_rfl)
def kep:Ctr:=⟨ "",[(.sl Ti)],[.b],λx=>kcV x,[],[]⟩
theorem kff:Good Try.prog 47 kep:=
 kal Try.func47 (by kernel_rfl) (An:=[(0,⟨⟨[(7,.c Ti)],[]⟩,⟨[],[]⟩,[6,5],[],0,true,""⟩)]) [] (.nil) (λx=>by kernel_rfl)
def kbo:Ctr:=⟨ "",[Tj],[Tj],λx=>kaE x,[],[]⟩
theorem kbr:Good Try.prog 75 kbo:=
 kal Try.func75 (by kernel_rfl) (An:=[]) [] (.nil) (λx=>by kernel_rfl)
def kdg:Ctr:=⟨ "",[Tj],[Tj],λx=>kfL x,[],[]⟩
theorem kdU:Good Try.prog 76 kdg:=
 kal Try.func76 (by kernel_rfl) (An:=[]) [] (.nil) (λx=>by kernel_rfl)
def kde:Ctr:=⟨ "",[Tj],[Tj],λx=>kdG x,[],[]⟩
theorem kdV:Good Try.prog 79 kde:=
 kal Try.func79 (by kernel_rfl) (An:=[]) [] (.nil) (λx=>by kernel_rfl)
def kdf:Ctr:=⟨ "",[Tj],[Tj],λx=>kcA x,[],[]⟩
theorem kdT:Good Try.prog 80 kdf:=
 kal Try.func80 (by kernel_rfl) (An:=[]) [] (.nil) (λx=>by kernel_rfl)
def lattice_turners_m0_M:CtrM:=⟨ "",[],⟨[],[]⟩,0,⟨[(1000000,.ag [.fn 76 [],.fn 75 [],.fn 77 [.ptr 0 0],.fn 78 [.ptr 0 0],.fn 79 [],.fn 80 []])],[(0,.bx 123 [.fn 75 []])]⟩,1,1,λx=>lattice_turners_m0,false⟩
theorem khy:lattice_turners_m0_M.ok=true/\GoodM Try.prog 72 lattice_turners_m0_M:=
 kjd Try.func72 (by kernel_rfl) (An:=[]) [(80,kdf),(79,kde),(76,kdg),(75,kbo)] (.cons kdT <| .cons kdV <| .cons kdU <| .cons kbr <| .nil) (λx=>by kernel_rfl)
def lattice_turners_C:Ctr:=⟨ "",[],[],λ_=>none,[],[]⟩
theorem lattice_turners_C_ok:Good Try.prog 72 lattice_turners_C:=good_dm
def kfP:Ctr:=⟨ "",lattice_turners_C.asZ,lattice_turners_C.rs,lattice_turners_C.F,lattice_turners_m0_M::lattice_turners_C.mus,lattice_turners_C.its⟩
theorem kis:Good Try.prog 72 kfP:=(lattice_turners_C_ok.more khy)
def lattice_turners_c4_m0_M:CtrM:=⟨ "",[some Tj,none],⟨[(1,.ptr 0 0)],[(0,.bx 123 [.fn 75 []])]⟩,1,⟨[(1,.ptr 0 0),(1000000,.ag [.c Ti,.c Ti,.c Ti])],[(0,.bx 123 [.fn 75 []])]⟩,1,1,λx=>kcK x,false⟩
theorem kgm:lattice_turners_c4_m0_M.ok=true/\GoodM Try.prog 78 lattice_turners_c4_m0_M:=
 kjd Try.func78 (by kernel_rfl) (An:=[]) [(75,kbo)] (.cons kbr <| .nil) (λx=>by kernel_rfl)
theorem lattice_turners_c4_C_ok:Good Try.prog 78 lattice_turners_C:=good_dm
def keD:Ctr:=⟨ "",lattice_turners_C.asZ,lattice_turners_C.rs,lattice_turners_C.F,lattice_turners_c4_m0_M::lattice_turners_C.mus,lattice_turners_C.its⟩
theorem kha:Good Try.prog 78 keD:=(lattice_turners_c4_C_ok.more kgm)
def lattice_turners_c3_m0_M:CtrM:=⟨ "",[some Tj,none],⟨[(1,.ptr 0 0)],[(0,.bx 123 [.fn 75 []])]⟩,1,⟨[(1,.ptr 0 0),(1000000,.ag [.c Ti,.c Ti,.c Ti])],[(0,.bx 123 [.fn 75 []])]⟩,1,1,λx=>kcH x,false⟩
theorem kgg:lattice_turners_c3_m0_M.ok=true/\GoodM Try.prog 77 lattice_turners_c3_m0_M:=
 kjd Try.func77 (by kernel_rfl) (An:=[]) [(75,kbo)] (.cons kbr <| .nil) (λx=>by kernel_rfl)
theorem lattice_turners_c3_C_ok:Good Try.prog 77 lattice_turners_C:=good_dm
def keu:Ctr:=⟨ "",lattice_turners_C.asZ,lattice_turners_C.rs,lattice_turners_C.F,lattice_turners_c3_m0_M::lattice_turners_C.mus,lattice_turners_C.its⟩
theorem khg:Good Try.prog 77 keu:=(lattice_turners_c3_C_ok.more kgg)
def kdM:Ctr:=⟨ "",[Tj,Ti],[Tj],λx=>kca x.1 x.2,[],[]⟩
theorem kdX:Good Try.prog 63 kdM:=
 kal Try.func63 (by kernel_rfl) (An:=[(0,⟨⟨[(7,.c Ti),(2,.ptr 0 0)],[(0,.bx 51 [.c Ti,.c Ti,.c Ti])]⟩,⟨[(2,.ptr 2 0)],[(2,.bx 51 [.c Ti,.c Ti,.c Ti])]⟩,[6,1,4],[1],3,false,""⟩)]) [(77,keu),(78,keD),(72,kfP),(80,kdf),(79,kde),(76,kdg),(75,kbo)] (.cons khg <| .cons kha <| .cons kis <| .cons kdT <| .cons kdV <| .cons kdU <| .cons kbr <| .nil) (λx=>by kernel_rfl)
def kij:Ctr:=⟨ "",[Tj,Ti],[Tj,Ti],λx=>kcS x.1 x.2,[],[]⟩
theorem kkS:Good Try.prog 46 kij:=
 kal Try.func46 (by kernel_rfl) (An:=[]) [(63,kdM),(47,kep),(62,kiC)] (.cons kdX <| .cons kff <| .cons kkK <| .nil) (λx=>by kernel_rfl)
def kjl:Ctr:=⟨ "",[Tj,Ti],[Tj],λx=>kfB x.1 x.2,[],[]⟩
theorem klF:Good Try.prog 32 kjl:=
 kal Try.func32 (by kernel_rfl) (An:=[]) [(46,kij)] (.cons kkS <| .nil) (λx=>by kernel_rfl)
def kfY:CtrI:=⟨ "",[],[Ti,Tj],λx=>runI λo=>kdr o⟩
theorem kik:GoodI Try.prog 73 kfY:=
 kqF Try.func73 (by kernel_rfl) (An:=[(0,⟨⟨[(3,.c Ti),(9000000,.gs (.pr Ti Tj))],[]⟩,⟨[(9000000,.gs (.pr Ti Tj))],[]⟩,[],[],1,true,""⟩)]) [(63,kdM)] (.cons kdX <| .nil) (λx=>by kernel_rfl)
def kdB:Ctr:=⟨ "",[],[],λ_=>none,[],[kfY]⟩
theorem kev:Good Try.prog 73 kdB:=good_dm.moreI kik
def lattice_which_m0_M:CtrM:=⟨ "",[],⟨[],[]⟩,0,⟨[(1000000,.fn 73 [])],[]⟩,0,1,λx=>lattice_turners_m0,false⟩
theorem kih:lattice_which_m0_M.ok=true/\GoodM Try.prog 64 lattice_which_m0_M:=
 kjd Try.func64 (by kernel_rfl) (An:=[]) [(73,kdB)] (.cons kev <| .nil) (λx=>by kernel_rfl)
theorem lattice_which_C_ok:Good Try.prog 64 lattice_turners_C:=good_dm
def kgV:Ctr:=⟨ "",lattice_turners_C.asZ,lattice_turners_C.rs,lattice_turners_C.F,lattice_which_m0_M::lattice_turners_C.mus,lattice_turners_C.its⟩
theorem kjy:Good Try.prog 64 kgV:=(lattice_which_C_ok.more kih)
def kgt:Ctr:=⟨ "",[Ti,Ti],[Ti],λx=>kds x.1 x.2,[],[]⟩
theorem kja:Good Try.prog 48 kgt:=
 kal Try.func48 (by kernel_rfl) (An:=[(0,⟨⟨[],[(0,.bx 3 [.c Ti])]⟩,⟨[],[(0,.bx 3 [.c Ti])]⟩,[13,4,5],[1],3,true,""⟩)]) [(64,kgV),(73,kdB),(63,kdM),(31,kbs)] (.cons kjy <| .cons kev <| .cons kdX <| .cons kcZ <| .nil) (λx=>by kernel_rfl)
def kgw:Ctr:=⟨ "",[Ti,Ti],[Ti,Ti],λx=>kfa x.1 x.2,[],[]⟩
theorem kiI:Good Try.prog 33 kgw:=
 kal Try.func33 (by kernel_rfl) (An:=[]) [(48,kgt),(47,kep)] (.cons kja <| .cons kff <| .nil) (λx=>by kernel_rfl)
def kid:Ctr:=⟨ "",[(.sl (.i .u8))],[(.i .u8)],λx=>kbC x,[],[]⟩
theorem cmp_Or_uint8_C_ok:Good Try.prog 22 kid:=
 kal Try.func22 (by kernel_rfl) (An:=[(0,⟨⟨[(8,.c Ti)],[]⟩,⟨[],[]⟩,[7,6,3],[],0,true,""⟩)]) [] (.nil) (λx=>by kernel_rfl)
def kpa:Ctr:=⟨ "",[tBrick,tBrick],[tBrick],λx=>kbP x.1 x.2,[],[]⟩
theorem text_placed_C_ok:Good Try.prog 13 kpa:=
 kal Try.func13 (by kernel_rfl) (An:=[]) [(22,kid),(33,kgw),(32,kjl)] (.cons cmp_Or_uint8_C_ok <| .cons kiI <| .cons klF <| .nil) (λx=>by kernel_rfl)
def kbp:Ctr:=⟨ "",[(.sl tBrick),(.fn 1 tBrick .b)],[Ti],λx=>kaN x.1 x.2,[],[]⟩
theorem kcC:Good Try.prog 34 kbp:=
 kal Try.func34 (by kernel_rfl) (An:=[(0,⟨⟨[(8,.c Ti)],[]⟩,⟨[],[]⟩,[7,1,0],[],0,true,""⟩)]) [] (.nil) (λx=>by kernel_rfl)
def kcB:Ctr:=⟨ "",[(.sl tBrick),(.fn 1 tBrick .b)],[.b],λx=>kaj x.1 x.2,[],[]⟩
theorem slices_ContainsFunc_s_api_Brick_api_Brick_C_ok:Good Try.prog 14 kcB:=
 kal Try.func14 (by kernel_rfl) (An:=[]) [(34,kbp)] (.cons kcC <| .nil) (λx=>by kernel_rfl)
def kkM:Ctr:=⟨ "",[tBrick],[.b],λx=>kaH x,[],[]⟩
theorem text_Flatten_c1_C_ok:Good Try.prog 15 kkM:=
 kal Try.func15 (by kernel_rfl) (An:=[]) [(16,khY)] (.cons kia <| .nil) (λx=>by kernel_rfl)
section
set_option maxRecDepth 100000
open Go.RowKit Go.Sort
def lnV (l:Line):Ya AV:=tLine.enc l
noncomputable def f5R (id:Nat):Ya Oper:=((Try.f5.body.bind (kiE id)).getD [])
def RowAt (X:Nat->Prop) (h:AH) (v:AV) (l:Ya Brick):Prop:=(l=[]/\v=nilS)\/∃ id,¬ X id/\6<=id/\v = .ms id 0 l.length/\h id=some (.cells 6 53 (l.map tBrick.enc))
structure FlI (N:Nat) (X:Nat->Prop) (rows:List AV) (R:FlT) (h:AH) (n:Nat):Prop where
 len:R.length=N
 rl:rows.length=N
 b2:h 2=some (.cells 1 26 (rows.map λv=>[v]))
 at_:∀ (j:Nat) (v:AV) (x:List Brick×Bool),rows[j]?=some v->R[j]?=some x->RowAt X h v x.1
 inj:∀ (i j a b id:Nat),rows[i]?=some (.ms id 0 a)->rows[j]?=some (.ms id 0 b)->i=j
 many:h 4=some (.cells 1 4 (R.map λx=>[.sc (.bool x.2)]))
 b3:h 3=some (.cells 1 45 [[.ms 2 0 N]])
 b5:h 5=some (.cells 1 46 [[.ms 4 0 N]])
 hn:∀ q,n<=q->h q=none
 xn:∀ q,X q->q<n/\q≠2/\q≠3/\q≠4/\q≠5
 le:6<=n
variable {N:Nat} {X:Nat->Prop} {rows:Ya AV} {R:FlT} {h:AH} {n:Nat}
theorem FlI.lt (F:FlI N X rows R h n) {q:Nat} {B:ABlk} (c:h q=some B):q<n:=by
 rcases jcg q n with b | a
 ·exact b
 ·rw [F.hn q a] at c; cases c
theorem FlI.grow (F:FlI N X rows R h n) (B:ABlk):FlI N (λq=>X q\/q=n) rows R (updH h n B) (n+1):=by
 have k1:∀ {q:Nat} {b:ABlk},h q=some b->updH h n B q=some b:=λ{q b} a=>by
  have:=F.lt a;exact kac (by omega) a
 have:=F.le;refine ⟨F.len,F.rl,k1 F.b2,λj v x g k=>?_,F.inj,k1 F.many,k1 F.b3,k1 F.b5,λq a=>kac (by omega) (F.hn q (by omega)),λq a=>?_,by omega⟩
 ·rcases F.at_ j v x g k with c | ⟨id,c,h2,i,f⟩
  ·exact .inl c
  ·exact .inr ⟨id,λe=>e.elim c (by have:=F.lt f; omega),h2,i,k1 f⟩
 ·rcases a with a | rfl
  ·have:=F.xn q a; omega
  ·omega
theorem FlI.own (F:FlI N X rows R h n) {q:Nat} (hX:X q) (B:ABlk):FlI N X rows R (updH h q B) n:=by
 have g:=F.xn q hX;refine ⟨F.len,F.rl,kac (by omega) F.b2,λj v x b f=>?_,F.inj,kac (by omega) F.many,kac (by omega) F.b3,kac (by omega) F.b5,λp hp=>kac (by omega) (F.hn p hp),F.xn,F.le⟩;rcases F.at_ j v x b f with a | ⟨id,a,h2,e,c⟩
 ·exact .inl a
 ·exact .inr ⟨id,a,h2,e,kac (by rintro rfl; exact a hX) c⟩
theorem FlI.less {a:Nat->Prop} (F:FlI N X rows R h n) (hX:∀ q,a q->X q):FlI N a rows R h n:=
 ⟨F.len,F.rl,F.b2,λj v x c k=>(F.at_ j v x c k).imp id λ⟨id,g,h2,i,f⟩=>⟨id,λe=>g (hX _ e),h2,i,f⟩,F.inj,F.many,F.b3,F.b5,F.hn,λq b=>F.xn q (hX q b),F.le⟩
theorem FlI.mark (F:FlI N X rows R h n) {k:Nat} {x:Ya Brick×Bool} (f:R[k]?=some x) (m:Bool):FlI N X rows (R.set k (x.1,m)) (updH h 4 (.cells 1 4 ((R.map λx=>[.sc (.bool x.2)]).set k [.sc (.bool m)]))) n:=by
 have c:=(jac.1 f).1;have:=F.le;refine ⟨by rw [jby]; exact F.len,F.rl,kac (by decide) F.b2,λj v y t b=>?_,F.inj,?_,kac (by decide) F.b3,kac (by decide) F.b5,λp hp=>kac (by omega) (F.hn p hp),F.xn,F.le⟩
 ·have:∃ a,R[j]?=some a/\a.1=y.1:=by
   by_cases g:k=j
   ·subst g; rw [jam c] at b; cases b; exact ⟨x,f,rfl⟩
   ·rw [jan g] at b; exact ⟨y,b,rfl⟩
  obtain ⟨a,l,h2⟩:=this;rcases F.at_ j v a t l with e | ⟨id,e,i,o,s⟩
  ·exact .inl (by rw [<-h2]; exact e)
  ·exact .inr ⟨id,e,i,by rw [<-h2]; exact o,kac (by omega) (by rw [<-h2]; exact s)⟩
 ·rw [show updH h 4 _ 4=_ from kag ..,jee]
theorem FlI.clear (F:FlI N X rows R h n) {k:Nat} {x:Ya Brick×Bool} (s:R[k]?=some x):FlI N X (rows.set k nilS) (R.set k ([],x.2)) (updH h 2 (.cells 1 26 ((rows.map λv=>[v]).set k [nilS]))) n:=by
 have l:=(jac.1 s).1;have:=F.le;have w:=F.rl;have hl:=F.len;refine ⟨by rw [jby]; exact F.len,by rw [jby]; exact F.rl,?_,λj v y g e=>?_,λi j a b id f c=>?_,?_,kac (by decide) F.b3,kac (by decide) F.b5,λp hp=>kac (by omega) (F.hn p hp),F.xn,F.le⟩
 ·rw [show updH h 2 _ 2=_ from kag ..,jee]
 ·by_cases c:k=j
  ·subst c;rw [jam l] at e;rw [jam (by omega)] at g;cases e; cases g;exact .inl ⟨rfl,rfl⟩
  ·rw [jan c] at e g;rcases F.at_ j v y g e with m | ⟨id,m,t,u,z⟩
   ·exact .inl m
   ·exact .inr ⟨id,m,t,u,kac (by omega) z⟩
 ·by_cases o:k=i
  ·subst o; rw [jam (by omega)] at f; cases f
  ·by_cases h2:k=j
   ·subst h2; rw [jam (by omega)] at c; cases c
   ·rw [jan o] at f; rw [jan h2] at c;exact F.inj i j a b id f c
 ·rw [show updH h 2 _ 4=_ from kac (by decide) F.many,jee];have:(R.map λx=>[AV.sc (.bool x.2)]).set k [.sc (.bool x.2)]=R.map λx=>[AV.sc (.bool x.2)]:=khX (by rw [jaq,s]; rfl);rw [this]
theorem FlI.app (F:FlI N X rows R h n) {k:Nat} {x:Ya Brick×Bool} {v:AV} (H:R[k]?=some x) (hv:rows[k]?=some v) (hl:x.1.length<1000000) (b:Brick):∃ f:AH,(∀ (env:Env) (o:Oper) (c:Call) (s y:Yf),o.op = .call c->c.callee = .builtin .append->c.args = #[s,y]->c.argTypes = #[26,26]->ev env s=v->ev env y = .sl [tBrick.enc b]->∀ K:K3,K (.ms n 0 (x.1.length+1)) f (n+1)->aop Try.prog env h n o K)/\
  FlI N X (rows.set k (.ms n 0 (x.1.length+1))) (R.set k (x.1++[b],x.2)) (updH f 2 (.cells 1 26 ((rows.map λv=>[v]).set k [.ms n 0 (x.1.length+1)]))) (n+1)/\∀ q B,(X q\/q=2\/q=3\/q=4\/q=5)->h q=some B->f q=some B:=by
 have J:=(jac.1 H).1;have aa:=F.le;have ad:=F.rl;have ab:=F.len;have hp:kfS Try.prog 26=true:=by kernel_rfl
 have I:elemO Try.prog 26=some 53:=by kernel_rfl
 have hz:zeroO Try.prog 53=some [.sc (.int .i64 0),.sc (.int .i64 0),.sc (.int .i64 0),.sc (.int .i64 0),.sc (.int .u8 0),.sc (.int .u8 0)]:=by kernel_rfl
 have hb:Try.prog.bytesOf 53<=1024:=of_decide_eq_true (by kernel_rfl);have fin:∀ f:AH,(∀ q B,(∀ a,v≠.ms q 0 a)->q≠n->h q=some B->f q=some B)->(∀ q,n+1<=q->f q=none)->f n=some (.cells 6 53 ((x.1++[b]).map tBrick.enc))->
   FlI N X (rows.set k (.ms n 0 (x.1.length+1))) (R.set k (x.1++[b],x.2)) (updH f 2 (.cells 1 26 ((rows.map λv=>[v]).set k [.ms n 0 (x.1.length+1)]))) (n+1)/\∀ q B,(X q\/q=2\/q=3\/q=4\/q=5)->h q=some B->f q=some B:=by
  intro f t L T;have old:∀ q B,(X q\/q=2\/q=3\/q=4\/q=5)->h q=some B->f q=some B:=λq B g hqB=>by
   have:=F.lt hqB;refine t q B (λa e=>?_) (by omega) hqB;rcases F.at_ k v x hv H with ⟨_,A⟩ | ⟨id,U,g2,z,G⟩
   ·rw [e] at A; cases A
   ·rw [e] at z;cases z;rcases g with g | g
    ·exact U g
    ·omega
  refine ⟨⟨by rw [jby]; exact F.len,by rw [jby]; exact F.rl,?_,λj w y C m=>?_,λi j a c id u l=>?_,?_,kac (by decide) (old 3 _ (by simp) F.b3),kac (by decide) (old 5 _ (by simp) F.b5),λp hp=>kac (by omega) (L p hp),λq g=>by have:=F.xn q g; omega,by omega⟩,old⟩
  ·rw [show updH f 2 _ 2=_ from kag ..,jee]
  ·by_cases l:k=j
   ·subst l;rw [jam J] at m;rw [jam (by omega)] at C;cases m; cases C;refine .inr ⟨n,λe=>by have:=F.xn n e; omega,aa,by simp,kac (by omega) T⟩
   ·rw [jan l] at m C;rcases F.at_ j w y C m with Y | ⟨id,Y,h4,h5,h6⟩
    ·exact .inl Y
    ·have:=F.lt h6;refine .inr ⟨id,Y,h4,h5,kac (by omega) (t id _ (λa e=>l ?_) (by omega) h6)⟩;exact F.inj k j a _ id (by rw [hv,e]) (by rw [C,h5])
  ·have nn:∀ i a,i<rows.length->k≠i->rows[i]?=some (.ms n 0 a)->False:=λi a u ac I=>by
    obtain ⟨y,m⟩:∃ y,R[i]?=some y:=⟨R[i]'(by omega),jab _⟩;rcases F.at_ i _ y I m with ⟨_,A⟩ | ⟨id,U,g2,z,G⟩
    ·cases A
    ·cases z;have:=F.lt G; omega
   by_cases f:k=i
   ·by_cases h2:k=j
    ·omega
    ·subst f;rw [jam (by omega)] at u;rw [jan h2] at l;cases u;exact (nn j c (jac.1 l).1 h2 l).elim
   ·rw [jan f] at u;by_cases h2:k=j
    ·subst h2;rw [jam (by omega)] at l;cases l;exact (nn i a (jac.1 u).1 f u).elim
    ·rw [jan h2] at l;exact F.inj i j a c id u l
  ·rw [show updH f 2 _ 4=_ from kac (by decide) (old 4 _ (by simp) F.many),jee];have:(R.map λx=>[AV.sc (.bool x.2)]).set k [.sc (.bool x.2)]=R.map λx=>[AV.sc (.bool x.2)]:=khX (by rw [jaq,H]; rfl);rw [this]
 rcases F.at_ k v x hv H with ⟨e1,A⟩ | ⟨id,U,g2,z,G⟩
 ·refine ⟨updH h n (.cells 6 53 [tBrick.enc b]),λenv o c s y W hc ha M Z m K t=>?_,fin _ (λq B _ g hB=>kac g hB) (λq g=>kac (by omega) (F.hn q (by omega))) (by rw [e1]; exact kag ..)⟩;unfold aop; rw [W]; simp only; rw [hc,ha,M];show kaL Try.prog h n 26 26 (ev env s) (ev env y) K;rw [Z,m,A];refine ⟨hp,?_⟩;rw [e1] at t;simp only [I,hz];exact ⟨by simp,hb,⟨by simp,(λe=>by cases e),λ_=>t⟩⟩
 ·refine ⟨updH (delH h id) n (.cells 6 53 ((x.1++[b]).map tBrick.enc)),λenv o c s y W hc ha M Z m K t=>?_,fin _ (λq B P g hB=>kac g ?_) (λq g=>kac (by omega) ?_) (kag ..)⟩
  ·unfold aop; rw [W]; simp only; rw [hc,ha,M];show kaL Try.prog h n 26 26 (ev env s) (ev env y) K;rw [Z,m,z];refine ⟨hp,?_⟩;simp only [I,hz];refine ⟨by simp,hb,?_⟩;have E:srcA h 6 (.sl [tBrick.enc b])=some [tBrick.enc b]:=rfl;show (match srcA h 6 (.sl [tBrick.enc b]) with | none=>False | some xs=>_);rw [E];simp only [G];refine ⟨rfl,trivial,by simp,by simp; omega,?_⟩;rw [jcn] at t;exact t
  ·unfold delH;rw [if_neg (λe=>P _ (by rw [z,e]))];exact hB
  ·unfold delH;split
   ·rfl
   ·exact F.hn q (by omega)
section
variable {D:DX} {O:Nat->Prop} {Q:Exit->St->Prop} {cs:Ya Code} {env:Env} {h:AH} {n N:Nat} {X:Nat->Prop} {rows:Ya AV} {R:FlT}
theorem FlI.row (F:FlI N X rows R h n) {k:Nat} {x:Ya Brick×Bool} (c:R[k]?=some x):∃ v,rows[k]?=some v/\k<N/\(rows.map λv=>[v])[k]?=some [v]/\deref h (.own 2 k 0)=some [v]:=by
 have b:=(jac.1 c).1;have e:=F.rl; have h2:=F.len;have a:rows[k]?=some (rows[k]'(by omega)):=jab _;refine ⟨_,a,by omega,by rw [jaq,a]; rfl,?_⟩;simp only [deref,F.b2,jaq,a]; rfl
theorem FlI.flag (F:FlI N X rows R h n) {k:Nat} {x:Ya Brick×Bool} (a:R[k]?=some x):deref h (.own 4 k 0)=some [.sc (.bool x.2)]:=by
 simp only [deref,F.many,jaq,a]; rfl
theorem FlI.d3 (F:FlI N X rows R h n):deref h (.own 3 0 0)=some [.ms 2 0 N]:=by simp only [deref,F.b3]; rfl
theorem FlI.d5 (F:FlI N X rows R h n):deref h (.own 5 0 0)=some [.ms 4 0 N]:=by simp only [deref,F.b5]; rfl
theorem FlI.d3z (F:FlI N X rows R h n) {h':AH} (hz:Sup (keepH [3] h) h'):deref h' (.own 3 0 0)=some [.ms 2 0 N]:=by
 have:h' 3=some (.cells 1 45 [[.ms 2 0 N]]):=hz 3 _ (by rw [keep1]; exact F.b3);simp only [deref,this]; rfl
theorem FlI.d5z (F:FlI N X rows R h n) {h':AH} (hz:Sup (keepH [5] h) h'):deref h' (.own 5 0 0)=some [.ms 4 0 N]:=by
 have:h' 5=some (.cells 1 46 [[.ms 4 0 N]]):=hz 5 _ (by rw [keep1]; exact F.b5);simp only [deref,this]; rfl
set_option maxHeartbeats 2000000 in
theorem kxt (F:FlI N X rows R h n) {k q:Nat} {x:Ya Brick×Bool} {l:Line} (G:R[k]?=some x) (hl:x.1.length<1000000) (i:X q) (y:h q=some (.cells 7 55 [lnV l])) (E:lk env 5 = .own 3 0 0) (C:lk env 7 = .sc (.int .i64 k)) (u:lk env 10 = .own q 0 0)
  (t:∀ f h' g,(∀ s,s<42\/52<s->lk f s=lk env s)->FlI N X g (R.set k (x.1++[l.2],x.2)) h' (n+1)->(∀ q B,X q->h q=some B->h' q=some B)->SatL Try.prog 117 D O cs Q ⟨f,h',n+1⟩) :
  SatL Try.prog 117 D O (.region 13 (f5R 13).toArray true::cs) Q ⟨env,h,n⟩:=by
 obtain ⟨v,J,hkN,p,w⟩:=F.row G;obtain ⟨A,m,I,c⟩:=F.app G J hl l.2;have H:∀ j,deref h (.own q 0 j)=some ((lnV l).drop j):=λj=>by simp only [deref,y]; rfl
 have b2:=c 2 _ (.inr (.inl rfl)) F.b2;have o:Sup (keepH [3] h) A:=sup3 λB hB=>c 3 B (.inr (.inr (.inl rfl))) hB;refine SatL.zregD (keepH [3] h) [9,11] [1,3,8] [0] (by kernel_rfl) (sup3 λB hB=>hB) (by kernel_rfl) ⟨.ms 2 0 N,λh' hz=>.load rfl (show deref h' (lk env 5)=_ by rw [E]; exact F.d3z hz) (by kernel_rfl),.sc (.int .i64 k),pu.move rfl C,.ms 2 0 N,.load rfl (show deref h (lk env 5)=_ by rw [E]; exact F.d3) (by kernel_rfl),.sc (.int .i64 k),pu.move rfl C,
  .own 2 k 0,.idxMs (e:=26) rfl rfl rfl (by kernel_rfl) F.b2 hkN (by kernel_rfl) (by decide),v,.load rfl w (by kernel_rfl),.own q 0 1,.fldOwn (d:=1) (ft:=53) rfl (by kernel_rfl) u y,.ag (tBrick.enc l.2),.loadA (cs:=tBrick.enc l.2) rfl (H 1) (by kernel_rfl) (by kernel_rfl),.sl [tBrick.enc l.2],pu.buildSl (e:=53) (z:=[.sc (.int .i64 0),.sc (.int .i64 0),.sc (.int .i64 0),.sc (.int .i64 0),.sc (.int .u8 0),.sc (.int .u8 0)]) rfl (by kernel_rfl) (by kernel_rfl) (by decide) (by decide) rfl,
  .ms n 0 (x.1.length+1),A,n+1,m _ _ _ _ _ rfl rfl rfl rfl rfl rfl,o,.own 2 k 0,.idxMs (e:=26) rfl rfl rfl (by kernel_rfl) b2 hkN (by kernel_rfl) (by decide),.ud,_,n+1,(λL t=>aop.storeRow (a:=v) (b:=.ms n 0 (x.1.length+1)) rfl rfl b2 p rfl (by kernel_rfl) t),λq B i=>?_,?_⟩
 ·have:=o q B i;refine kac ?_ this;rintro rfl;simp [keepH] at i
 ·refine t _ _ _ (λs K=>?_) I λq B i hB=>?_
  ·show lk ((52,_)::(51,_)::(50,_)::(49,_)::(48,_)::(47,_)::(46,_)::(45,_)::(44,_)::(43,_)::(42,_)::env) s=lk env s;simp only [lk];repeat rw [if_neg (by omega)]
  ·have:=F.xn q i;exact kac (by omega) (c q B (.inl i) hB)
theorem ktV {b a r:Brick} (h:kbP b a=some r):PC Try.prog 13 [.ag (tBrick.enc b),.ag (tBrick.enc a)] (·= .ag (tBrick.enc r)):=
 text_placed_C_ok.2.1 (b,a) r h _ ⟨_,_,rfl,(kaZ rfl).2 rfl,_,rfl,(kaZ rfl).2 rfl⟩
theorem krW (b a:Brick):FreeL [AV.ag (tBrick.enc b),.ag (tBrick.enc a)]:=by simp [Ty.enc]
set_option maxHeartbeats 2000000 in
theorem kxf (F:FlI N X rows R h n) {k q p:Nat} {x:Ya Brick×Bool} {l:Line} {b r:Brick} (K:R[k]?=some x) (hl:x.1.length<1000000) (i:X q) (G:h q=some (.cells 7 55 [lnV l])) (hp:h p=some (.cells 6 53 [tBrick.enc b])) (hr:kbP b l.2=some r) (J:lk env 5 = .own 3 0 0) (I:lk env 7 = .sc (.int .i64 k)) (A:lk env 10 = .own q 0 0) (C:lk env 12 = .own p 0 0)
  (y:∀ g h' c,(∀ s,s<77\/89<s->lk g s=lk env s)->FlI N X c (R.set k (x.1++[r],x.2)) h' (n+1)->(∀ q B,X q->h q=some B->h' q=some B)->(∀ j v,j≠k->rows[j]?=some v->c[j]?=some v)->SatL Try.prog 117 D O cs Q ⟨g,h',n+1⟩) :
  SatL Try.prog 117 D O (.region 18 (f5R 18).toArray true::cs) Q ⟨env,h,n⟩:=by
 obtain ⟨v,T,hkN,t,E⟩:=F.row K;obtain ⟨H,m,M,f⟩:=F.app K T hl r;have L:∀ j,deref h (.own q 0 j)=some ((lnV l).drop j):=λj=>by simp only [deref,G]; rfl
 have u:deref h (.own p 0 0)=some (tBrick.enc b):=by simp only [deref,hp]; rfl
 have b2:=f 2 _ (.inr (.inl rfl)) F.b2;have o:Sup (keepH [3] h) H:=sup3 λB hB=>f 3 B (.inr (.inr (.inl rfl))) hB;refine SatL.zregD (keepH [3] h) [11,13] [1,3,10] [0] (by kernel_rfl) (sup3 λB hB=>hB) (by kernel_rfl) ⟨.ms 2 0 N,λh' hz=>.load rfl (show deref h' (lk env 5)=_ by rw [J]; exact F.d3z hz) (by kernel_rfl),.sc (.int .i64 k),pu.move rfl I,.ms 2 0 N,.load rfl (show deref h (lk env 5)=_ by rw [J]; exact F.d3) (by kernel_rfl),.sc (.int .i64 k),pu.move rfl I,
  .own 2 k 0,.idxMs (e:=26) rfl rfl rfl (by kernel_rfl) F.b2 hkN (by kernel_rfl) (by decide),v,.load rfl E (by kernel_rfl),.ag (tBrick.enc b),.loadA (cs:=tBrick.enc b) rfl (show deref h (lk env 12)=_ by rw [C]; exact u) (by kernel_rfl) (by kernel_rfl),.own q 0 1,.fldOwn (d:=1) (ft:=53) rfl (by kernel_rfl) A G,.ag (tBrick.enc l.2),.loadA (cs:=tBrick.enc l.2) rfl (L 1) (by kernel_rfl) (by kernel_rfl),.ag (tBrick.enc r),.call rfl rfl rfl rfl (ktV hr) (krW _ _),.sl [tBrick.enc r],pu.buildSl (e:=53) (z:=[.sc (.int .i64 0),.sc (.int .i64 0),.sc (.int .i64 0),.sc (.int .i64 0),.sc (.int .u8 0),.sc (.int .u8 0)]) rfl (by kernel_rfl) (by kernel_rfl) (by decide) (by decide) rfl,
  .ms n 0 (x.1.length+1),H,n+1,m _ _ _ _ _ rfl rfl rfl rfl rfl rfl,o,.own 2 k 0,.idxMs (e:=26) rfl rfl rfl (by kernel_rfl) b2 hkN (by kernel_rfl) (by decide),.ud,_,n+1,(λY y=>aop.storeRow (a:=v) (b:=.ms n 0 (x.1.length+1)) rfl rfl b2 t rfl (by kernel_rfl) y),λq B i=>?_,?_⟩
 ·have:=o q B i;refine kac ?_ this;rintro rfl;simp [keepH] at i
 ·refine y _ _ _ (λs W=>?_) M (λq B i hB=>?_) λj w U P=>by rw [jan (Ne.symm U)]; exact P
  ·show lk ((89,_)::(88,_)::(87,_)::(86,_)::(85,_)::(84,_)::(83,_)::(82,_)::(81,_)::(80,_)::(79,_)::(78,_)::(77,_)::env) s=lk env s;simp only [lk];repeat rw [if_neg (by omega)]
  ·have:=F.xn q i;exact kac (by omega) (f q B (.inl i) hB)
set_option maxHeartbeats 2000000 in
theorem kwV (F:FlI N X rows R h n) {k j q:Nat} {x y:Ya Brick×Bool} {l:Line} (i:R[k]?=some x) (z:R[j]?=some y) (u:l.1=j) (w:X q) (v:h q=some (.cells 7 55 [lnV l])) (m:lk env 6 = .own 5 0 0) (o:lk env 7 = .sc (.int .i64 k)) (t:lk env 10 = .own q 0 0)
  (g:∀ c h',(∀ s,s<53\/66<s->lk c s=lk env s)->FlI N X rows (R.set k (x.1,x.2||y.2)) h' n->(∀ q B,X q->h q=some B->h' q=some B)->SatL Try.prog 117 D O cs Q ⟨c,h',n⟩) :
  SatL Try.prog 117 D O (.region 14 (f5R 14).toArray true::cs) Q ⟨env,h,n⟩:=by
 obtain ⟨_,_,hkN,_,_⟩:=F.row i;obtain ⟨_,_,hjN,_,_⟩:=F.row z;have A:∀ j,deref h (.own q 0 j)=some ((lnV l).drop j):=λj=>by simp only [deref,v]; rfl
 have p:(R.map λx=>[AV.sc (.bool x.2)])[k]?=some [.sc (.bool x.2)]:=by rw [jaq,i]; rfl
 have fin:∀ c,(∀ s,s<53\/66<s->lk c s=lk env s)->SatL Try.prog 117 D O cs Q ⟨c,updH h 4 (.cells 1 4 ((R.map λx=>[.sc (.bool x.2)]).set k [.sc (.bool (x.2||y.2))])),n⟩:=λc C=>
  g _ _ C (F.mark i _) λq B w hB=>by have:=F.xn q w; exact kac (by omega) hB
 cases f:x.2 with
 | true=>
  rw [f] at fin;refine SatL.zregD (λ_=>none) [14] [] [] (by kernel_rfl) (λq B h=>by cases h) (by kernel_rfl) ⟨.ms 4 0 N,.load rfl (show deref h (lk env 6)=_ by rw [m]; exact F.d5) (by kernel_rfl),.sc (.int .i64 k),.move rfl o,.ms 4 0 N,.load rfl (show deref h (lk env 6)=_ by rw [m]; exact F.d5) (by kernel_rfl),.sc (.int .i64 k),.move rfl o,.own 4 k 0,.idxMs (e:=4) rfl rfl rfl (by kernel_rfl) F.many hkN (by kernel_rfl) (by decide),.sc (.bool true),.load rfl (by rw [<-f]; exact F.flag i) (by kernel_rfl),.sc (.bool true),.move rfl rfl,
   .sc (.bool true),.pick (b:=true) rfl rfl rfl,.own 4 k 0,.idxMs (e:=4) rfl rfl rfl (by kernel_rfl) F.many hkN (by kernel_rfl) (by decide),.ud,_,n,(λE g=>aop.storeRow (a:=.sc (.bool x.2)) (b:=.sc (.bool true)) rfl rfl F.many p rfl (by kernel_rfl) g),(λq B h=>by cases h),fin _ λs p=>?_⟩
  show lk ((66,_)::(65,_)::(64,_)::(59,_)::(63,_)::(59,_)::(62,_)::(59,_)::(61,_)::(59,_)::(60,_)::(59,_)::(59,_)::(58,_)::(57,_)::(56,_)::(55,_)::(54,_)::(53,_)::env) s=lk env s;simp only [lk];repeat rw [if_neg (by omega)]
 | false=>
  rw [f,jdg] at fin;refine SatL.zregD (λ_=>none) [14] [] [] (by kernel_rfl) (λq B h=>by cases h) (by kernel_rfl) ⟨.ms 4 0 N,.load rfl (show deref h (lk env 6)=_ by rw [m]; exact F.d5) (by kernel_rfl),.sc (.int .i64 k),.move rfl o,.ms 4 0 N,.load rfl (show deref h (lk env 6)=_ by rw [m]; exact F.d5) (by kernel_rfl),.sc (.int .i64 k),.move rfl o,.own 4 k 0,.idxMs (e:=4) rfl rfl rfl (by kernel_rfl) F.many hkN (by kernel_rfl) (by decide),.sc (.bool false),.load rfl (by rw [<-f]; exact F.flag i) (by kernel_rfl),.sc (.bool false),.move rfl rfl,
   .ms 4 0 N,.load rfl (show deref h (lk env 6)=_ by rw [m]; exact F.d5) (by kernel_rfl),.own q 0 0,.fldOwn (d:=0) (ft:=3) rfl (by kernel_rfl) t v,.sc (.int .i64 j),.load rfl (by rw [<-u]; exact A 0) (by kernel_rfl),.own 4 j 0,.idxMs (e:=4) rfl rfl rfl (by kernel_rfl) F.many hjN (by kernel_rfl) (by decide),.sc (.bool y.2),.load rfl (F.flag z) (by kernel_rfl),
   .sc (.bool y.2),.pick (b:=false) rfl rfl rfl,.own 4 k 0,.idxMs (e:=4) rfl rfl rfl (by kernel_rfl) F.many hkN (by kernel_rfl) (by decide),.ud,_,n,(λE g=>aop.storeRow (a:=.sc (.bool x.2)) (b:=.sc (.bool y.2)) rfl rfl F.many p rfl (by kernel_rfl) g),(λq B h=>by cases h),fin _ λs p=>?_⟩
  show lk ((66,_)::(65,_)::(64,_)::(59,_)::(63,_)::(59,_)::(62,_)::(59,_)::(61,_)::(59,_)::(60,_)::(59,_)::(59,_)::(58,_)::(57,_)::(56,_)::(55,_)::(54,_)::(53,_)::env) s=lk env s;simp only [lk];repeat rw [if_neg (by omega)]
set_option maxHeartbeats 2000000 in
theorem kwW (F:FlI N X rows R h n) {k:Nat} {x:Ya Brick×Bool} (s:R[k]?=some x) (w:lk env 5 = .own 3 0 0) (A:lk env 6 = .own 5 0 0) (u:lk env 7 = .sc (.int .i64 k))
  (g:∀ f h' c,FlI N X c (R.set k ([],true)) h' n->(∀ q B,X q->h q=some B->h' q=some B)->SatL Try.prog 117 D O cs Q ⟨f,h',n⟩) :
  SatL Try.prog 117 D O (.region 22 (f5R 22).toArray true::cs) Q ⟨env,h,n⟩:=by
 obtain ⟨v,E,hkN,l,y⟩:=F.row s;have o:=(jac.1 s).1;have p:=F.clear s;have j:(R.set k ([],x.2))[k]?=some ([],x.2):=jam o;have i:Sup (keepH [5] h) (updH h 2 (.cells 1 26 ((rows.map λv=>[v]).set k [nilS]))):=sup3 λB hB=>kac (by decide) hB;have z:((R.set k ([],x.2)).map λx=>[AV.sc (.bool x.2)])[k]?=some [.sc (.bool x.2)]:=by rw [jaq,j]; rfl
 have t:=p.mark j true;rw [List.set_set] at t;refine SatL.zregD (keepH [5] h) [5,7] [1,3] [2] (by kernel_rfl) (sup3 λB hB=>hB) (by kernel_rfl) ⟨.ms 2 0 N,.load rfl (show deref h (lk env 5)=_ by rw [w]; exact F.d3) (by kernel_rfl),.sc (.int .i64 k),pu.move rfl u,.ms 4 0 N,λh' hz=>.load rfl (show deref h' (lk env 6)=_ by rw [A]; exact F.d5z hz) (by kernel_rfl),.sc (.int .i64 k),pu.move rfl u,
  .own 2 k 0,.idxMs (e:=26) rfl rfl rfl (by kernel_rfl) F.b2 hkN (by kernel_rfl) (by decide),.ud,_,n,(λC g=>aop.storeRow (a:=v) (b:=nilS) rfl rfl F.b2 l rfl (by kernel_rfl) g),i,.own 4 k 0,.idxMs (e:=4) rfl rfl rfl (by kernel_rfl) p.many hkN (by kernel_rfl) (by decide),.ud,_,n,(λC g=>aop.storeRow (a:=.sc (.bool x.2)) (b:=.sc (.bool true)) rfl rfl p.many z rfl (by kernel_rfl) g),λq B m=>?_,?_⟩
 ·have:=i q B m;refine kac ?_ this;rintro rfl;simp [keepH] at m
 ·exact g _ _ _ t λq B m hB=>by have:=F.xn q m; exact kac (by omega) (kac (by omega) hB)
end
section
variable {D:DX} {O:Nat->Prop} {Q:Exit->St->Prop} {cs:Ya Code} {env:Env} {h:AH} {n N:Nat} {X:Nat->Prop} {rows:Ya AV} {R:FlT}
abbrev fli:List Nat:=[5,6,7,10,33,34,35,71,72]
structure FlL (N:Nat) (X:Nat->Prop) (rows0:List AV) (R:FlT) (k j:Nat) (x:List Brick×Bool) (ys:List Brick) (env0:Env) (h0:AH) (n0 m:Nat) (st:St):Prop where
 le:m<=ys.length
 env:∀ s∈fli,lk st.env s=lk env0 s
 idx:lk st.env 73 = .sc (.int .i64 m)
 F:∃ rows,FlI N X rows (R.set k (x.1++ys.take m,x.2)) st.h st.n/\rows[j]?=rows0[j]?
 fr:∀ q B,X q->h0 q=some B->st.h q=some B
 n:n0<=st.n
set_option maxHeartbeats 2000000 in
theorem kvr (F:FlI N X rows R h n) {k j q:Nat} {x y:Ya Brick×Bool} {l:Line} {ys:Ya Brick} {v:AV} (C:k≠j) (hx:R[k]?=some x) (hy:R[j]?=some y) (ai:(y.1.mapM λb=>kbP b l.2)=some ys) (o:(x.1++ys).length<=1000000) (A:X q) (hb:h q=some (.cells 7 55 [lnV l]))
  (h5:lk env 5 = .own 3 0 0) (h7:lk env 7 = .sc (.int .i64 k)) (ac:lk env 10 = .own q 0 0) (ae:lk env 71=v) (hv:rows[j]?=some v) (an:lk env 72 = .sc (.int .i64 y.1.length)) (am:lk env 73 = .sc (.int .i64 0))
  (i:∀ st f,(∀ s∈fli,lk st.env s=lk env s)->FlI N X f (R.set k (x.1++ys,x.2)) st.h st.n->(∀ q B,X q->h q=some B->st.h q=some B)->n<=st.n->SatL Try.prog 117 D O cs Q st) :
  SatL Try.prog 117 D O (.block 4 (.loop (.seq (.region 16 (f5R 16).toArray false) (.seq (.cond (.tmp 74) .skip (.exit 4)) (.seq (.block 5 (.seq (.region 17 (f5R 17).toArray false) (.region 18 (f5R 18).toArray true))) (.region 19 (f5R 19).toArray false)))))::cs) Q ⟨env,h,n⟩:=by
 obtain ⟨ao,W⟩:=ksw ai;have J:=(jac.1 hx).1;refine SatL.block (SatL.loop (α:=Nat) (73::fli) (λm st=>FlL N X rows R k j x ys env h n m st) (λm=>ys.length-m) 0 ?_ λm st I=>?_)
 ·refine ⟨jel _,λs u=>kaM (jbb _ u),(kaM (by simp)).trans am,⟨rows,?_,rfl⟩,λq B _ hB=>hB,jai _⟩;rw [jdj,jbg,show (x.1,x.2)=x from rfl,khX hx];exact F
 obtain ⟨a,M,n1⟩:=st;obtain ⟨c,G,H⟩:=I.F;have ad:lk a 72 = .sc (.int .i64 y.1.length):=(I.env 72 (by decide)).trans an;have t:lk a 73 = .sc (.int .i64 m):=I.idx;have hw:m<ys.length->w64 ((m:Int)+1)=((m+1:Nat):Int):=λhm=>by
  rw [jau] at o;rw [khB (by omega) (by omega)]; rfl
 refine SatL.seq (SatL.wreg [] (l:=f5R 16) rfl rfl ⟨.sc (.bool (decide ((m:Int)<y.1.length))),.bin rfl t ad (λK i=>⟨rfl,i⟩),?_⟩);refine SatL.seq (SatL.condX (v:=decide ((m:Int)<y.1.length)) rfl (λe=>SatL.skip ?_) λe=>SatL.exit ?_)
 ·have hm:m<y.1.length:=by
   have:(m:Int)<y.1.length:=by simpa using e
   omega
  obtain ⟨r,hr,Y⟩:=W m y.1[m] (jab hm);have U:(R.set k (x.1++ys.take m,x.2))[j]?=some y:=by rw [jan C]; exact hy
  have ak:(R.set k (x.1++ys.take m,x.2))[k]?=some (x.1++ys.take m,x.2):=jam J;have E:c[j]?=some v:=H.trans hv;rcases G.at_ j v y E U with ⟨e1,_⟩ | ⟨id,g1,g2,g3,g4⟩
  ·rw [e1] at hm; simp at hm
  have aa:lk a 71 = .ms id 0 y.1.length:=((I.env 71 (by decide)).trans ae).trans g3;have ah:deref M (.own id m 0)=some (tBrick.enc y.1[m]):=by
   have af:M id=_:=g4;simp only [deref,af,jaq,jab hm]; rfl
  have L:∀ {q:Nat} {B:ABlk},M q=some B->q<n1:=λ{q B} A=>G.lt A;let h2:AH:=updH (updH M n1 (.cells 6 53 [[.sc (.int .i64 0),.sc (.int .i64 0),.sc (.int .i64 0),.sc (.int .i64 0),.sc (.int .u8 0),.sc (.int .u8 0)]])) n1 (.cells 6 53 [tBrick.enc y.1[m]])
  have F2:FlI N (λq=>X q\/q=n1) c (R.set k (x.1++ys.take m,x.2)) h2 (n1+1):=(G.grow _).own (.inr rfl) _;have k2:∀ {q:Nat} {B:ABlk},M q=some B->h2 q=some B:=λ{q B} A=>by
   have:=L A;exact kac (by omega) (kac (by omega) A)
  have al:(tBrick.enc y.1[m]).length=6:=rfl;refine SatL.seq (SatL.block (SatL.seq (SatL.wreg [2,3] (l:=f5R 17) rfl rfl ⟨.own id m 0,.idxMs (e:=53) rfl aa t (by kernel_rfl) g4 hm (by kernel_rfl) (by decide),.ag (tBrick.enc y.1[m]),.loadA (cs:=tBrick.enc y.1[m]) rfl ah (by kernel_rfl) (by kernel_rfl),
   .own n1 0 0,_,n1+1,(λK' i=>aop.alloc (z:=[.sc (.int .i64 0),.sc (.int .i64 0),.sc (.int .i64 0),.sc (.int .i64 0),.sc (.int .u8 0),.sc (.int .u8 0)]) rfl (by kernel_rfl) i),.ud,h2,n1+1,(λK' i=>aop.storeW (e:=[.sc (.int .i64 0),.sc (.int .i64 0),.sc (.int .i64 0),.sc (.int .i64 0),.sc (.int .u8 0),.sc (.int .u8 0)]) (xs:=tBrick.enc y.1[m]) rfl rfl (kag ..) rfl (by kernel_rfl) rfl (by rw [al]; decide) i),?_⟩)))
  refine kxf (l:=l) (q:=q) (p:=n1) F2 ak (by rw [jau] at o ⊢; have:=List.length_take_le m ys; simp only [jbh]; omega) (.inl A) (k2 (I.fr q _ A hb)) (kag ..) hr ((I.env 5 (by decide)).trans h5) ((I.env 7 (by decide)).trans h7) ((I.env 10 (by decide)).trans ac) rfl λg h' f he F3 aj ab=>?_;have T:lk g 73 = .sc (.int .i64 m):=(he 73 (by omega)).trans t;have Z:=hw (by omega);refine SatL.nil (P:=Try.prog) (N:=117) (D:=D) (O:=O) (SatL.wreg [] (l:=f5R 19) rfl rfl ⟨.sc (.int .i64 (w64 (m+1))),.bin rfl T rfl (λK i=>⟨rfl,i⟩),.sc (.int .i64 (w64 (m+1))),.move rfl rfl,SatL.nil (P:=Try.prog) (N:=117) (D:=D) (O:=O) ⟨m+1,⟨by omega,λs u=>?_,?_,⟨f,?_,?_⟩,λp B hp hB=>aj p B (.inl hp) (k2 (I.fr p B hp hB)),?_⟩,by omega⟩⟩)
  ·have w:=u;simp only [fli,jat,jcj,or_false] at w;refine (kaM (by simp only [fli,jat,jcj,or_false]; omega)).trans (Eq.trans ?_ (I.env s u));refine Eq.trans (b:=lk g s) ?_ ((he s (by omega)).trans ?_)
   ·show lk ((73,_)::(90,_)::g) s=lk g s;simp only [lk];rw [if_neg (by omega),if_neg (by omega)]
   ·show lk ((12,_)::(76,_)::(75,_)::(74,_)::a) s=lk a s;simp only [lk];repeat rw [if_neg (by omega)]
  ·refine (kaM (by simp)).trans ?_;rw [<-Z]; rfl
  ·have:(R.set k (x.1++ys.take m,x.2)).set k ((x.1++ys.take m)++[r],x.2)=R.set k (x.1++ys.take (m+1),x.2):=by
    rw [List.set_set,jax,List.take_add_one,Y]; rfl
   rw [<-this];exact F3.less λp hp=>.inl hp
  ·have:=ab j v (Ne.symm C) E;rw [this,hv]
  ·have:n<=n1:=I.n;show n<=n1+1+1;omega
 ·have hm:m=ys.length:=by
   have:¬ (m:Int)<y.1.length:=by simpa using e
   have:=I.le;omega
  subst hm;rw [List.take_length] at G;refine i _ c (λs u=>?_) G I.fr I.n;have w:=u;simp only [fli,jat,jcj,or_false] at w;refine Eq.trans ?_ (I.env s u);show lk ((74,_)::a) s=lk a s;simp only [lk];rw [if_neg (by omega)]
end
theorem kow {R a:FlT} {k:Nat} {r:Ya Brick} {m:Bool} (h:flPut R k r m=some a):r.length<=1000000/\a=R.set k (r,m):=by
 unfold flPut at h;split at h
 ·cases h; exact ⟨by assumption,by simp [lset]⟩
 ·cases h
theorem ksW {k:Nat} {R e:FlT} {l:Line} (h:kic k R l=some e):∃ x,R[k]?=some x/\((l.1<0/\(x.1++[l.2]).length<=1000000/\e=R.set k (x.1++[l.2],x.2))\/
  (0<=l.1/\∃ (j:Nat) (y:Ya Brick×Bool) (ys:Ya Brick),l.1=j/\k≠j/\R[j]?=some y/\(y.1.mapM λb=>kbP b l.2)=some ys/\(x.1++ys).length<=1000000/\e=R.set k (x.1++ys,x.2||y.2))):=by
 unfold kic at h;obtain ⟨x,f,h⟩:=jaa.1 h;rw [kbe] at f;refine ⟨x,f,?_⟩;split at h
 ·rename_i h0;obtain ⟨a,h2⟩:=kow h;exact .inl ⟨h0,a,h2⟩
 ·rename_i h0;split at h
  ·cases h
  ·rename_i g;obtain ⟨y,o,h⟩:=jaa.1 h;obtain ⟨ys,c,h⟩:=jaa.1 h;obtain ⟨i,m⟩:=kht o;obtain ⟨a,h2⟩:=kow h;exact .inr ⟨i,l.1.toNat,y,ys,by omega,by omega,m,c,a,h2⟩
section
variable {D:DX} {O:Nat->Prop} {Q:Exit->St->Prop} {cs:Ya Code} {env:Env} {h:AH} {n N:Nat} {X:Nat->Prop} {rows:Ya AV} {R:FlT}
abbrev flo:List Nat:=[5,6,7,33,34]
structure FlO (N:Nat) (X:Nat->Prop) (R1:FlT) (k:Nat) (ls:List Line) (env0:Env) (h0:AH) (m:Nat) (st:St):Prop where
 le:m<=ls.length
 env:∀ s∈flo,lk st.env s=lk env0 s
 idx:lk st.env 35 = .sc (.int .i64 m)
 F:∃ rows R,FlI N X rows R st.h st.n/\kdN k (ls.drop m) R=some R1
 fr:∀ q B,X q->h0 q=some B->st.h q=some B
set_option maxHeartbeats 2000000 in
theorem kvw (F:FlI N X rows R h n) {k:Nat} {ls:Ya Line} {W:FlT} (hR:kdN k ls R=some W) (az:ls.length<=1000000) (h5:lk env 5 = .own 3 0 0) (h6:lk env 6 = .own 5 0 0) (h7:lk env 7 = .sc (.int .i64 k))
  (ap:lk env 33 = .sl (ls.map tLine.enc)) (ai:lk env 34 = .sc (.int .i64 ls.length)) (au:lk env 35 = .sc (.int .i64 0))
  (t:∀ st f,(∀ s∈flo,lk st.env s=lk env s)->FlI N X f W st.h st.n->(∀ q B,X q->h q=some B->st.h q=some B)->SatL Try.prog 117 D O cs Q st) :
  SatL Try.prog 117 D O (.block 2 (.loop (.seq (.region 10 (f5R 10).toArray false) (.seq (.cond (.tmp 36) .skip (.exit 2)) (.seq (.block 3 (.seq (.region 11 (f5R 11).toArray false) (.seq (.seq (.region 12 (f5R 12).toArray false) (.cond (.tmp 41) (.seq (.region 13 (f5R 13).toArray true) (.exit 3)) .skip)) (.seq (.region 14 (f5R 14).toArray true) (.seq (.region 15 (f5R 15).toArray false) (.block 4 (.loop (.seq (.region 16 (f5R 16).toArray false) (.seq (.cond (.tmp 74) .skip (.exit 4)) (.seq (.block 5 (.seq (.region 17 (f5R 17).toArray false) (.region 18 (f5R 18).toArray true))) (.region 19 (f5R 19).toArray false))))))))))) (.region 20 (f5R 20).toArray false)))))::cs) Q ⟨env,h,n⟩:=by
 refine SatL.block (SatL.loop (α:=Nat) (35::flo) (λm st=>FlO N X W k ls env h m st) (λm=>ls.length-m) 0 ?_ λm st I=>?_)
 ·exact ⟨jel _,λs o=>kaM (jbb _ o),(kaM (by simp)).trans au,⟨rows,R,F,by rw [jcc]; exact hR⟩,λq B _ hB=>hB⟩
 obtain ⟨a,h1,n1⟩:=st;obtain ⟨p,R',F1,hR'⟩:=I.F;have am:lk a 34 = .sc (.int .i64 ls.length):=(I.env 34 (by decide)).trans ai;have ay:lk a 33 = .sl (ls.map tLine.enc):=(I.env 33 (by decide)).trans ap;have M:lk a 35 = .sc (.int .i64 m):=I.idx;have f5:lk a 5=_:=(I.env 5 (by decide)).trans h5;have f6:lk a 6=_:=(I.env 6 (by decide)).trans h6;have f7:lk a 7=_:=(I.env 7 (by decide)).trans h7;have hw:m<ls.length->w64 ((m:Int)+1)=((m+1:Nat):Int):=λhm=>by
  rw [khB (by omega) (by omega)]; rfl
 refine SatL.seq (SatL.wreg [] (l:=f5R 10) rfl rfl ⟨.sc (.bool (decide ((m:Int)<ls.length))),.bin rfl M am (λK t=>⟨rfl,t⟩),?_⟩);refine SatL.seq (SatL.condX (v:=decide ((m:Int)<ls.length)) rfl (λe=>SatL.skip ?_) λe=>SatL.exit ?_)
 ·have hm:m<ls.length:=by
   have:(m:Int)<ls.length:=by simpa using e
   omega
  have hl:ls[m]?=some ls[m]:=jab hm;generalize ls[m]=l at hl;have ar:ls.drop m=l::ls.drop (m+1):=by
   rw [jds hm];congr 1;rw [jab hm] at hl;exact Option.some.inj hl
  rw [ar] at hR';obtain ⟨R2,hR2,hR3⟩:=jaa.1 (show (kic k R' l).bind (kdN k (ls.drop (m+1)))=some W from hR');let h2:AH:=updH (updH h1 n1 (.cells 7 55 [[.sc (.int .i64 0),.sc (.int .i64 0),.sc (.int .i64 0),.sc (.int .i64 0),.sc (.int .i64 0),.sc (.int .u8 0),.sc (.int .u8 0)]])) n1 (.cells 7 55 [lnV l])
  have w:h2 n1=some (.cells 7 55 [lnV l]):=kag ..;have F2:FlI N (λq=>X q\/q=n1) p R' h2 (n1+1):=(F1.grow _).own (.inr rfl) _;have k2:∀ {q:Nat} {B:ABlk},h1 q=some B->h2 q=some B:=λ{q B} C=>by
   have:q<n1:=F1.lt C;exact kac (by omega) (kac (by omega) C)
  have hd:∀ j,deref h2 (.own n1 0 j)=some ((lnV l).drop j):=λj=>by simp only [deref,w]; rfl
  have ax:(lnV l).length=7:=rfl;have aj:=hw hm;have next:∀ g h' n' f,(∀ s,s=35\/s∈flo->lk g s=lk a s)->FlI N (λq=>X q\/q=n1) f R2 h' n'->(∀ q B,X q\/q=n1->h2 q=some B->h' q=some B)->SatL Try.prog 117 D O [.region 20 (f5R 20).toArray false] (thenQ (λs'=>∃ x',FlO N X W k ls env h x' ⟨keep (35::flo) s'.env,s'.h,s'.n⟩/\ls.length-x'<ls.length-m) (thenQ (SatL Try.prog 117 D O [] (kbI 2 (thenQ (SatL Try.prog 117 D O cs Q) Q))) (kbI 2 (thenQ (SatL Try.prog 117 D O cs Q) Q)))) ⟨g,h',n'⟩:=by
   intro g h' n' f he G H;have ad:lk g 35 = .sc (.int .i64 m):=(he 35 (.inl rfl)).trans M;refine (SatL.wreg [] (l:=f5R 20) rfl rfl ⟨.sc (.int .i64 (w64 (m+1))),.bin rfl ad rfl (λK t=>⟨rfl,t⟩),.sc (.int .i64 (w64 (m+1))),.move rfl rfl,SatL.nil (P:=Try.prog) (N:=117) (D:=D) (O:=O) ⟨m+1,⟨by omega,λs o=>?_,?_,⟨f,R2,G.less λq C=>.inl C,hR3⟩,λq B C hB=>H q B (.inl C) (k2 (I.fr q B C hB))⟩,by omega⟩⟩)
   ·have A:=o;simp only [flo,jat,jcj,or_false] at A;refine (kaM (jbb _ o)).trans (Eq.trans ?_ ((he s (.inr o)).trans (I.env s o)));show lk ((35,_)::(91,_)::g) s=lk g s;simp only [lk];rw [if_neg (by omega),if_neg (by omega)]
   ·refine (kaM (by simp)).trans ?_;rw [<-aj]; rfl
  refine SatL.seq (SatL.block (SatL.seq (SatL.wreg [2,3] (l:=f5R 11) rfl rfl ⟨.fp (tLine.enc l),.idx (e:=55) (c:=tLine.enc l) rfl ay M (by kernel_rfl) (jdr _) (by simp [hl]) (by kernel_rfl) (by rw [show (tLine.enc l).length=7 from rfl]; decide),.ag (tLine.enc l),.loadA (cs:=tLine.enc l) rfl rfl (by kernel_rfl) (by kernel_rfl),
   .own n1 0 0,_,n1+1,(λK' t=>aop.alloc (z:=[.sc (.int .i64 0),.sc (.int .i64 0),.sc (.int .i64 0),.sc (.int .i64 0),.sc (.int .i64 0),.sc (.int .u8 0),.sc (.int .u8 0)]) rfl (by kernel_rfl) t),.ud,h2,n1+1,(λK' t=>aop.storeW (e:=[.sc (.int .i64 0),.sc (.int .i64 0),.sc (.int .i64 0),.sc (.int .i64 0),.sc (.int .i64 0),.sc (.int .u8 0),.sc (.int .u8 0)]) (xs:=lnV l) rfl rfl (kag ..) rfl (by kernel_rfl) rfl (by rw [ax]; decide) t),?_⟩)))
  refine SatL.seq (SatL.seq (SatL.wreg [] (l:=f5R 12) rfl rfl ⟨.own n1 0 0,.fldOwn (d:=0) (ft:=3) rfl (by kernel_rfl) rfl w,.sc (.int .i64 l.1),.load rfl (hd 0) (by kernel_rfl),.sc (.bool (decide (l.1<0))),.bin rfl rfl rfl (λK t=>⟨rfl,t⟩),?_⟩));have H:∀ s,s=35\/s∈flo->s=35\/s=5\/s=6\/s=7\/s=33\/s=34:=λs o=>by
   simp only [flo,jat,jcj,or_false] at o; omega
  obtain ⟨x,hx,T⟩:=ksW hR2;rcases T with ⟨Z,E,rfl⟩ | ⟨aA,j,y,ys,ab,Y,hy,ao,E,rfl⟩
  ·refine SatL.condT (v:=decide (l.1<0)) rfl (by simpa using Z) (SatL.seq (kxt (l:=l) (q:=n1) F2 hx (by rw [jau] at E; simp at E; omega) (.inr rfl) w f5 f7 rfl λg h' f he G ac=>SatL.exit ?_));refine next _ _ _ _ (λs o=>?_) G ac
   have A:=H s o;refine (he s (by omega)).trans ?_;show lk ((41,_)::(40,_)::(39,_)::(10,_)::(38,_)::(37,_)::(36,_)::a) s=lk a s;simp only [lk];repeat rw [if_neg (by omega)]
  ·refine SatL.condF (v:=decide (l.1<0)) rfl (by simp; omega) (SatL.skip (SatL.seq (kwV (l:=l) (q:=n1) F2 hx hy ab (.inr rfl) w f6 f7 rfl λi h3 u G J=>?_)));have L:h3 n1=some (.cells 7 55 [lnV l]):=J n1 _ (.inr rfl) w;have ah:∀ j,deref h3 (.own n1 0 j)=some ((lnV l).drop j):=λj=>by simp only [deref,L]; rfl
   have ae:=(jac.1 hx).1;have ak:(R'.set k (x.1,x.2||y.2))[k]?=some (x.1,x.2||y.2):=jam ae;have U:(R'.set k (x.1,x.2||y.2))[j]?=some y:=by rw [jan Y]; exact hy
   obtain ⟨v,hv,hjN,aC,aq⟩:=G.row U;have e5:lk i 5=_:=(u 5 (by omega)).trans f5;have aw:(v=nilS/\y.1.length=0)\/∃ id k' T' es,v = .ms id 0 y.1.length/\h3 id=some (.cells k' T' es):=by
    rcases G.at_ j v y hv U with ⟨g1,g2⟩ | ⟨id,g1,g2,g3,g4⟩
    ·exact .inl ⟨g2,by rw [g1]; rfl⟩
    ·exact .inr ⟨id,_,_,_,g3,g4⟩
   refine SatL.seq (SatL.wreg [] (l:=f5R 15) rfl rfl ⟨.ms 2 0 N,.load rfl (show deref h3 (lk i 5)=_ by rw [e5]; exact G.d3) (by kernel_rfl),.own n1 0 0,.fldOwn (d:=0) (ft:=3) rfl (by kernel_rfl) (u 10 (by omega)) L,.sc (.int .i64 j),.load rfl (by rw [<-ab]; exact ah 0) (by kernel_rfl),.own 2 j 0,.idxMs (e:=26) rfl rfl rfl (by kernel_rfl) G.b2 hjN (by kernel_rfl) (by decide),v,.load rfl aq (by kernel_rfl),
    .sc (.int .i64 y.1.length),.lenRow rfl rfl rfl rfl rfl (by kernel_rfl) aw,.sc (.int .i64 0),.move rfl rfl,?_⟩)
   refine kvr (l:=l) (q:=n1) G Y ak U ao E (.inr rfl) L e5 ((u 7 (by omega)).trans f7) (u 10 (by omega)) rfl hv rfl rfl λaf al an F4 aa aD=>?_;rw [List.set_set] at F4;refine SatL.nil (P:=Try.prog) (N:=117) (D:=D) (O:=O) ?_;obtain ⟨aB,h4,n4⟩:=af;refine next _ _ _ _ (λs o=>?_) F4 λq B C hB=>aa q B C (J q B C hB)
   have A:=H s o;refine (an s (by simp only [fli,jat,jcj,or_false]; omega)).trans (Eq.trans (b:=lk i s) ?_ ((u s (by omega)).trans ?_))
   ·show lk ((73,_)::(72,_)::(71,_)::(70,_)::(69,_)::(68,_)::(67,_)::i) s=lk i s;simp only [lk];repeat rw [if_neg (by omega)]
   ·show lk ((41,_)::(40,_)::(39,_)::(10,_)::(38,_)::(37,_)::(36,_)::a) s=lk a s;simp only [lk];repeat rw [if_neg (by omega)]
 ·have hm:m=ls.length:=by
   have:¬ (m:Int)<ls.length:=by simpa using e
   have:=I.le;omega
  subst hm;rw [List.drop_length] at hR';obtain rfl:R'=W:=Option.some.inj hR';refine t _ p (λs o=>?_) F1 I.fr;have A:=o;simp only [flo,jat,jcj,or_false] at A;refine Eq.trans ?_ (I.env s o);show lk ((36,_)::a) s=lk a s;simp only [lk];rw [if_neg (by omega)]
end
noncomputable def f12R (id:Nat):Ya Oper:=((Try.f12.body.bind (kiE id)).getD [])
theorem kww {es:Ya (Ya AV)} {h:AH} {n:Nat}:HC Try.prog 12 [.sl es] h n (λv h' n'=>v = .fn 31 [.own n 0 0]/\h'=updH h n (.cells 1 22 [[.sl es]])/\n'=n+1):=by
 refine HC.of_body (c:=.seq (.region 0 (f12R 0).toArray false) (.seq (.region 1 (f12R 1).toArray false) .ret)) Try.func12 (by kernel_rfl) (by kernel_rfl) (by show 1<=4; omega) λD O hD=>Sat.ofL (N:=4) ?_;refine SatL.seq (SatL.wreg [0] (l:=f12R 0) rfl rfl ⟨.own n 0 0,updH h n (.cells 1 22 [[.sl es]]),n+1,(λb a=>by unfold aop; exact a),.sc .nilFunc,.assign rfl rfl,?_⟩);refine SatL.seq (SatL.wreg [0] (l:=f12R 1) rfl rfl ⟨.fn 31 [.own n 0 0],_,_,(λb a=>aop.mkfn rfl rfl a),.fn 31 [.own n 0 0],.assign rfl rfl,?_⟩);exact SatL.ret ⟨_,rfl,rfl,rfl,rfl⟩
section
variable {D:DX} {O:Nat->Prop} {Q:Exit->St->Prop} {cs:Ya Code} {env:Env} {h:AH} {n N:Nat} {X:Nat->Prop} {rows:Ya AV} {R:FlT}
noncomputable abbrev krg:Code:=(.block 1 (.seq (.seq (.region 9 (f5R 9).toArray false) (.block 2 (.loop (.seq (.region 10 (f5R 10).toArray false) (.seq (.cond (.tmp 36) .skip (.exit 2)) (.seq (.block 3 (.seq (.region 11 (f5R 11).toArray false) (.seq (.seq (.region 12 (f5R 12).toArray false) (.cond (.tmp 41) (.seq (.region 13 (f5R 13).toArray true) (.exit 3)) .skip)) (.seq (.region 14 (f5R 14).toArray true) (.seq (.region 15 (f5R 15).toArray false) (.block 4 (.loop (.seq (.region 16 (f5R 16).toArray false) (.seq (.cond (.tmp 74) .skip (.exit 4)) (.seq (.block 5 (.seq (.region 17 (f5R 17).toArray false) (.region 18 (f5R 18).toArray true))) (.region 19 (f5R 19).toArray false))))))))))) (.region 20 (f5R 20).toArray false))))))) (.seq (.region 21 (f5R 21).toArray false) (.cond (.tmp 97) (.region 22 (f5R 22).toArray true) .skip))))
theorem z43:∃ z,zeroO Try.prog 43=some z/\z.length=2:=⟨(zeroO Try.prog 43).getD [],by kernel_rfl,by kernel_rfl⟩
theorem krJ {R c:FlT} {x:Int×Sub} (h:kfg R x=some c):x.2.2.length<=1000000/\∃ b a,kdN x.1 x.2.2 R=some b/\gi b x.1=some a/\c=if 40<a.1.length then lset b x.1 ([],true) else b:=by
 unfold kfg at h;split at h
 ·obtain ⟨b,e,h⟩:=jaa.1 h;obtain ⟨a,h2,h⟩:=jaa.1 h;exact ⟨by assumption,b,a,e,h2,(Option.some.inj h).symm⟩
 ·cases h
set_option maxHeartbeats 2000000 in
theorem kvB (F:FlI N X rows R h n) {i:Int} {s:Sub} {R1:FlT} (hR:kfg R (i,s)=some R1) (W:lk env 5 = .own 3 0 0) (h6:lk env 6 = .own 5 0 0)
  (f:∀ u h' n' m,FlI N X m R1 h' n'->(∀ q B,X q->h q=some B->h' q=some B)->Q .normal ⟨u,h',n'⟩) :
  Sat Try.prog 117 D O (.seq (.region 7 (f5R 7).toArray false) (.region 8 (f5R 8).toArray false)) (thenQ (λst=>Sat Try.prog 117 D O krg Q st) (λ_ _=>False)) ⟨kfZ [30,31] [.sc (.int .i64 i),.ag (tSub.enc s)] env,h,n⟩:=by
 obtain ⟨x,U,a,hR2,p,hR1⟩:=krJ hR;obtain ⟨hi,p⟩:=kht p;obtain ⟨k,rfl⟩:=Int.eq_ofNat_of_zero_le hi;obtain ⟨z,hz,G⟩:=z43;rw [jci] at p;have H:(tSub.enc s).length=2:=rfl;let h2:AH:=updH (updH h n (.cells z.length 43 [z])) n (.cells z.length 43 [tSub.enc s])
 have y:h2 n=some (.cells z.length 43 [tSub.enc s]):=kag ..;have F2:FlI N (λq=>X q\/q=n) rows R h2 (n+1):=(F.grow _).own (.inr rfl) _;have k2:∀ {q:Nat} {B:ABlk},h q=some B->h2 q=some B:=λ{q B} c=>by
  have:=F.lt c;exact kac (by omega) (kac (by omega) c)
 have hd:∀ j,deref h2 (.own n 0 j)=some ((tSub.enc s).drop j):=λj=>by simp only [deref,y]; rfl
 refine Sat.ofL (SatL.seq (SatL.wreg [] (l:=f5R 7) rfl rfl ⟨.sc (.int .i64 k),.assign rfl rfl,?_⟩));refine SatL.wreg [0,1] (l:=f5R 8) rfl rfl ⟨.own n 0 0,_,n+1,(λK' f=>aop.alloc (z:=z) rfl hz f),.ud,h2,n+1,(λK' f=>aop.storeW (e:=z) (xs:=tSub.enc s) rfl rfl (kag ..) rfl (by kernel_rfl) (by rw [G]; rfl) (by rw [H]; decide) f),?_⟩;refine SatL.nil (P:=Try.prog) (N:=117) (D:=D) (O:=O) (Sat.ofL (SatL.block (SatL.seq (SatL.seq (SatL.wreg [] (l:=f5R 9) rfl rfl ⟨.own n 0 1,.fldOwn (d:=1) (ft:=41) rfl (by kernel_rfl) rfl y,.sl (s.2.map tLine.enc),.load rfl (hd 1) (by kernel_rfl),.sc (.int .i64 (s.2.map tLine.enc).length),.len rfl rfl rfl rfl rfl (by kernel_rfl),.sc (.int .i64 0),.move rfl rfl,?_⟩)))));refine kvw (ls:=s.2) F2 hR2 x W h6 rfl rfl (by show AV.sc _=_; rw [jas]) rfl λC I o t g=>?_;obtain ⟨b,h3,n3⟩:=C;have M:lk b 5=_:=(o 5 (by decide)).trans W;have e6:lk b 6=_:=(o 6 (by decide)).trans h6;have e7:lk b 7 = .sc (.int .i64 k):=(o 7 (by decide));obtain ⟨v,hv,hkN,aa,J⟩:=t.row p;have E:(v=nilS/\a.1.length=0)\/∃ id k' T' es,v = .ms id 0 a.1.length/\h3 id=some (.cells k' T' es):=by
  rcases t.at_ k v a hv p with ⟨Y,T⟩ | ⟨id,Y,T,g3,g4⟩
  ·exact .inl ⟨T,by rw [Y]; rfl⟩
  ·exact .inr ⟨id,_,_,_,g3,g4⟩
 refine SatL.seq (SatL.wreg [] (l:=f5R 21) rfl rfl ⟨.ms 2 0 N,.load rfl (show deref h3 (lk b 5)=_ by rw [M]; exact t.d3) (by kernel_rfl),.sc (.int .i64 k),.move rfl e7,.own 2 k 0,.idxMs (e:=26) rfl rfl rfl (by kernel_rfl) t.b2 hkN (by kernel_rfl) (by decide),v,.load rfl J (by kernel_rfl),.sc (.int .i64 a.1.length),.lenRow rfl rfl rfl rfl rfl (by kernel_rfl) E,.sc (.bool (decide ((40:Int)<a.1.length))),.bin rfl rfl rfl (λK f=>⟨rfl,f⟩),?_⟩);have A:∀ (r:Ya Brick×Bool),lset U (k:Int) r=U.set k r:=λr=>by simp [lset]
 refine SatL.condX (v:=decide ((40:Int)<a.1.length)) rfl (λe=>?_) λe=>?_
 ·have:(40:Nat)<a.1.length:=by
   have:(40:Int)<a.1.length:=by simpa using e
   omega
  rw [if_pos this,A] at hR1;subst hR1;refine kwW (n:=n3) t p M e6 e7 λZ h4 L F4 w=>?_;exact f _ _ _ _ (F4.less λq c=>.inl c) λq B c hB=>w q B (.inl c) (g q B (.inl c) (k2 hB))
 ·have:¬ (40:Nat)<a.1.length:=by
   have:¬ (40:Int)<a.1.length:=by simpa using e
   omega
  rw [if_neg this] at hR1;subst hR1;refine SatL.skip ?_;exact f _ _ _ _ (t.less λq c=>.inl c) λq B c hB=>g q B (.inl c) (k2 hB)
end
def kdP:Ctr:=⟨ "",[.w (.sl tSub)],[.w (.sl tBrick),.i .i64],λx=>kdy x,[],[]⟩
theorem kqK {S:Ya Sub} {e:Int} (h:kdR S=some e):PC Try.prog 11 [.ag [.sl (S.map tSub.enc)]] (·= .sc (.int .i64 e)):=
 text_Check_C_ok.2.1 S e h _ ⟨_,rfl,(kaZ rfl).2 rfl⟩
theorem kwa {l:Ya Brick} {b:Bool} (h:kaj l kaH=some b):PC Try.prog 14 [.sl (l.map tBrick.enc),.fn 15 []] (·= .sc (.bool b)):=
 slices_ContainsFunc_s_api_Brick_api_Brick_C_ok.2.1 (l,kaH) b h _ ⟨_,_,rfl,(kaZ rfl).2 rfl,_,rfl,15,[],rfl,by simp,rfl,rfl,rfl,λv r h=>text_Flatten_c1_C_ok.2.1 v r h _ ⟨_,rfl,(kaZ rfl).2 rfl⟩⟩
theorem kwM {S:Ya Sub} {xs:Ya (Int×Sub)} (h:(runI λo=>kan o S)=some xs):IT Try.prog 31 [.fp [.sl (S.map tSub.enc)]] (xs.map λy=>avsL [.i .i64,tSub] y):=
 slices_Backward_s_api_Sub_api_Sub_c1_I_ok.2 S xs h _ ⟨_,rfl,(kaZ rfl).2 rfl⟩
theorem kkt (S:Ya Sub):Free (.sl (S.map tSub.enc)):=kfl (.sl tSub) S rfl
theorem kmp (b:Brick):FreeL (tBrick.enc b):=by simp [Ty.enc]
theorem FlI.bump {N:Nat} {X:Nat->Prop} {rows:Ya AV} {R:FlT} {h:AH} {n:Nat} (F:FlI N X rows R h n):FlI N X rows R h (n+1):=
 ⟨F.len,F.rl,F.b2,F.at_,F.inj,F.many,F.b3,F.b5,λq a=>F.hn q (by omega),λq a=>by have:=F.xn q a; omega,by have:=F.le; omega⟩
structure FlA (S:List Sub) (xs:List (Int×Sub)) (Rf:FlT) (k:Nat) (h:AH) (n:Nat):Prop where
 F:∃ rows R,FlI S.length (λq=>q=0\/q=1) rows R h n/\kdA (xs.drop k) R=some Rf
 b0:h 0=some (.cells 1 24 [[.sl (S.map tSub.enc)]])
 b1:h 1=some (.cells 1 28 [[nilS]])
theorem kuH {N:Nat} {X:Nat->Prop} {rows:Ya AV} {R:FlT} {h:AH} {n:Nat} (F:FlI N X rows R h n) {k:Nat} {v:AV} {a:Ya Brick×Bool} (e:rows[k]?=some v) (f:R[k]?=some a):Snap h v (.sl (a.1.map tBrick.enc)):=by
 rcases F.at_ k v a e f with ⟨c,g⟩ | ⟨id,_,_,i,b⟩
 ·rw [c,g]; exact .nilS
 ·rw [i]; exact Snap.msW b rfl kmp
abbrev flR (r:List Brick×Int):K3:=λv h _=>∃ a,Snap h v a/\a = .tp [.ag [.sl (r.1.map tBrick.enc)],.sc (.int .i64 r.2)]
theorem kmF {l:Ya Brick} {x:Int} {r:Ya Brick×Int} {v:AV} {h:AH} {n:Nat} {env:Env} (hr:(l,x)=r) (c:h 1=some (.cells 1 28 [[v]])) (e:Snap h v (.sl (l.map tBrick.enc))) (h2:lk env 2 = .own 1 0 0) (f:lk env 3 = .sc (.int .i64 x)):fnQ Try.prog Try.f5.results.toList (flR r) .ret ⟨env,h,n⟩:=by
 subst hr;refine ⟨.tp [.ag [v],.sc (.int .i64 x)],?_,_,Snap.tpL (.cons (Snap.agL (.cons e .nil)) (.cons (.free _ (by simp)) .nil)),rfl⟩;have hr:Try.f5.results.toList=[.cell 2 28,.tmp 3]:=by kernel_rfl
 rw [hr];have b:aggO Try.prog 28=some true:=by kernel_rfl
 have a:Try.prog.cellsOf 28=1:=by kernel_rfl
 simp [kaI,kbx,h2,f,deref,c,b,a]
section
variable {D:DX} {O:Nat->Prop} {cs:Ya Code} {env:Env} {h:AH} {n N:Nat} {X:Nat->Prop} {rows:Ya AV} {R:FlT} {r:Ya Brick×Int}
theorem kwT (b:h 1=some (.cells 1 28 [[nilS]])) (h2:lk env 2 = .own 1 0 0) (hr:([],4)=r):SatL Try.prog 117 D O (.seq (.region 24 (f5R 24).toArray false) .ret::cs) (fnQ Try.prog Try.f5.results.toList (flR r)) ⟨env,h,n⟩:=
 SatL.seq (SatL.wreg [1] (l:=f5R 24) rfl rfl ⟨.ag [nilS],λn K a=>pu.build (z:=[nilS]) (pl:=[(0,1)]) rfl (by kernel_rfl) (by kernel_rfl) rfl _ _ _ a,.ud,updH h 1 (.cells 1 28 [[nilS]]),n,(λc a=>aop.storeW (id:=1) (e:=[nilS]) (xs:=[nilS]) rfl h2 b rfl (by kernel_rfl) rfl (by decide) a),.sc (.int .i64 4),.assign rfl rfl,SatL.ret (kmF (h:=updH h 1 (.cells 1 28 [[nilS]])) (v:=nilS) hr (kag ..) .nilS h2 rfl)⟩)
theorem kxj (b:h 1=some (.cells 1 28 [[nilS]])) (h2:lk env 2 = .own 1 0 0) (hr:([],11)=r):SatL Try.prog 117 D O (.seq (.region 26 (f5R 26).toArray false) .ret::cs) (fnQ Try.prog Try.f5.results.toList (flR r)) ⟨env,h,n⟩:=
 SatL.seq (SatL.wreg [1] (l:=f5R 26) rfl rfl ⟨.ag [nilS],λn K a=>pu.build (z:=[nilS]) (pl:=[(0,1)]) rfl (by kernel_rfl) (by kernel_rfl) rfl _ _ _ a,.ud,updH h 1 (.cells 1 28 [[nilS]]),n,(λc a=>aop.storeW (id:=1) (e:=[nilS]) (xs:=[nilS]) rfl h2 b rfl (by kernel_rfl) rfl (by decide) a),.sc (.int .i64 11),.assign rfl rfl,SatL.ret (kmF (h:=updH h 1 (.cells 1 28 [[nilS]])) (v:=nilS) hr (kag ..) .nilS h2 rfl)⟩)
theorem fl_r3 {e:Int} (b:h 1=some (.cells 1 28 [[nilS]])) (h2:lk env 2 = .own 1 0 0) (c:lk env 4 = .sc (.int .i64 e)) (hr:([],e)=r):SatL Try.prog 117 D O (.seq (.region 3 (f5R 3).toArray false) .ret::cs) (fnQ Try.prog Try.f5.results.toList (flR r)) ⟨env,h,n⟩:=
 SatL.seq (SatL.wreg [2] (l:=f5R 3) rfl rfl ⟨.ag [nilS],λn K a=>pu.build (z:=[nilS]) (pl:=[(0,1)]) rfl (by kernel_rfl) (by kernel_rfl) rfl _ _ _ a,.sc (.int .i64 e),.move rfl c,.ud,updH h 1 (.cells 1 28 [[nilS]]),n,(λf a=>aop.storeW (id:=1) (e:=[nilS]) (xs:=[nilS]) rfl h2 b rfl (by kernel_rfl) rfl (by decide) a),.sc (.int .i64 e),.assign rfl rfl,SatL.ret (kmF (h:=updH h 1 (.cells 1 28 [[nilS]])) (v:=nilS) hr (kag ..) .nilS h2 rfl)⟩)
theorem kxl (F:FlI N X rows R h n) (hX:X 1) {a:Ya Brick×Bool} (f:R[0]?=some a) (p:h 1=some (.cells 1 28 [[nilS]])) (h2:lk env 2 = .own 1 0 0) (u:lk env 5 = .own 3 0 0) (hr:(a.1,0)=r):SatL Try.prog 117 D O [.seq (.region 27 (f5R 27).toArray false) .ret] (fnQ Try.prog Try.f5.results.toList (flR r)) ⟨env,h,n⟩:=by
 obtain ⟨v,o,hkN,s,m⟩:=F.row f;have t:kau v=some [v]:=by
  rcases F.at_ 0 v a o f with ⟨_,c⟩ | ⟨id,_,_,b,k⟩
  ·rw [c]; rfl
  ·rw [b]; rfl
 have g:Snap (updH h 1 (.cells 1 28 [[v]])) v (.sl (a.1.map tBrick.enc)):=by
  rcases F.at_ 0 v a o f with ⟨x,c⟩ | ⟨id,w,_,b,k⟩
  ·rw [x,c]; exact .nilS
  ·rw [b]; exact Snap.msW (kac (by rintro rfl; exact w hX) k) rfl kmp
 refine SatL.seq (SatL.wreg [4] (l:=f5R 27) rfl rfl ⟨.ms 2 0 N,.load rfl (show deref h (lk env 5)=_ by rw [u]; exact F.d3) (by kernel_rfl),.own 2 0 0,.idxMs (j:=0) (e:=26) rfl rfl rfl (by kernel_rfl) F.b2 hkN (by kernel_rfl) (by decide),v,.load rfl m (by kernel_rfl),.ag [v],λn K i=>pu.build (z:=[nilS]) (pl:=[(0,1)]) (cs:=[v]) rfl (by kernel_rfl) (by kernel_rfl) ?_ _ _ _ i,
  .ud,updH h 1 (.cells 1 28 [[v]]),n,(λy i=>aop.storeW (id:=1) (e:=[nilS]) (xs:=[v]) rfl h2 p rfl (by kernel_rfl) rfl (by simp) i),.sc (.int .i64 0),.assign rfl rfl,SatL.ret (kmF (h:=updH h 1 (.cells 1 28 [[v]])) (v:=v) hr (kag ..) g h2 rfl)⟩)
 rcases F.at_ 0 v a o f with ⟨_,c⟩ | ⟨id,_,_,b,k⟩
 ·rw [c]; rfl
 ·rw [b]; rfl
noncomputable abbrev kim:Code:=.seq (.seq (.region 23 (f5R 23).toArray false) (.cond (.tmp 106) (.seq (.region 24 (f5R 24).toArray false) .ret) .skip)) (.seq (.seq (.region 25 (f5R 25).toArray false) (.cond (.tmp 111) (.seq (.region 26 (f5R 26).toArray false) .ret) .skip)) (.seq (.region 27 (f5R 27).toArray false) .ret))
theorem kwi (F:FlI N X rows R h n) (hX:X 1) {a:Ya Brick×Bool} (k:R[0]?=some a) (f:h 1=some (.cells 1 28 [[nilS]])) (h2:lk env 2 = .own 1 0 0) (i:lk env 5 = .own 3 0 0) (w:lk env 6 = .own 5 0 0)
  (hF:(if a.2=true then some ([],4) else (kaj a.1 kaH).bind λb=>if b=true then some ([],11) else some (a.1,0))=some r):SatL Try.prog 117 D O [kim] (fnQ Try.prog Try.f5.results.toList (flR r)) ⟨env,h,n⟩:=by
 obtain ⟨v,z,hkN,p,o⟩:=F.row k;have m:=kuH F z k;have rest:∀ env,lk env 2 = .own 1 0 0->lk env 5 = .own 3 0 0->((kaj a.1 kaH).bind λb=>if b=true then some ([],11) else some (a.1,0))=some r->SatL Try.prog 117 D O [.seq (.seq (.region 25 (f5R 25).toArray false) (.cond (.tmp 111) (.seq (.region 26 (f5R 26).toArray false) .ret) .skip)) (.seq (.region 27 (f5R 27).toArray false) .ret)] (fnQ Try.prog Try.f5.results.toList (flR r)) ⟨env,h,n⟩:=by
  intro env h2 i hF;obtain ⟨b,t,hF⟩:=jaa.1 hF;refine SatL.seq (SatL.seq (SatL.wreg [3] (l:=f5R 25) rfl rfl ⟨.ms 2 0 N,.load rfl (show deref h (lk env 5)=_ by rw [i]; exact F.d3) (by kernel_rfl),.own 2 0 0,.idxMs (j:=0) (e:=26) rfl rfl rfl (by kernel_rfl) F.b2 hkN (by kernel_rfl) (by decide),v,.load rfl o (by kernel_rfl),.sc (.bool b),h,n,(λA u=>aop.callF (g:=14) (caps:=[]) (args:=[v,.fn 15 []]) rfl rfl rfl rfl (PC.lend1 (args':=[.sl (a.1.map tBrick.enc),.fn 15 []]) (K:=λs h' n'=>s = .sc (.bool b)/\h'=h/\n'=n) (.cons m (.cons (.free _ (by simp)) .nil)) (kwa t) (.sc _) ⟨rfl,rfl,rfl⟩) (λv h' n' ⟨x,c,y⟩=>by rw [x,c,y]; exact u)),?_⟩));refine SatL.condX (v:=b) rfl (λc=>?_) λc=>SatL.skip ?_
  ·rw [if_pos c] at hF;exact kxj (D:=D) (O:=O) (n:=n) (env:=(111,.sc (.bool b))::(110,v)::(109,.own 2 0 0)::(108,.ms 2 0 N)::env) f h2 (Option.some.inj hF)
  ·rw [if_neg (by rw [c]; decide)] at hF;exact kxl (env:=(111,.sc (.bool b))::(110,v)::(109,.own 2 0 0)::(108,.ms 2 0 N)::env) F hX k f h2 i (Option.some.inj hF)
 refine SatL.seq (SatL.seq (SatL.wreg [] (l:=f5R 23) rfl rfl ⟨.ms 4 0 N,.load rfl (show deref h (lk env 6)=_ by rw [w]; exact F.d5) (by kernel_rfl),.own 4 0 0,.idxMs (j:=0) (e:=4) rfl rfl rfl (by kernel_rfl) F.many hkN (by kernel_rfl) (by decide),.sc (.bool a.2),.load rfl (F.flag k) (by kernel_rfl),?_⟩));refine SatL.condX (v:=a.2) rfl (λc=>?_) λc=>SatL.skip ?_
 ·rw [if_pos c] at hF;exact kwT (D:=D) (O:=O) (n:=n) (env:=(106,.sc (.bool a.2))::(105,.own 4 0 0)::(104,.ms 4 0 N)::env) f h2 (Option.some.inj hF)
 ·rw [if_neg (by rw [c]; decide)] at hF;exact rest ((106,.sc (.bool a.2))::(105,.own 4 0 0)::(104,.ms 4 0 N)::env) h2 i hF
theorem kvO {S:Ya Sub} (hS:S.length<=1000) {cs:Ya Code} {Q:Exit->St->Prop} {env:Env} {h:AH} (u:lk env 1 = .own 0 0 0) (h2:lk env 2 = .own 1 0 0) (g:h 0=some (.cells 1 24 [[.sl (S.map tSub.enc)]])) (J:h 1=some (.cells 1 28 [[nilS]])) (hn:∀ q,2<=q->h q=none)
  (f:∀ c h',lk c 1 = .own 0 0 0->lk c 2 = .own 1 0 0->lk c 5 = .own 3 0 0->lk c 6 = .own 5 0 0->h' 0=some (.cells 1 24 [[.sl (S.map tSub.enc)]])->h' 1=some (.cells 1 28 [[nilS]])->FlI S.length (λq=>q=0\/q=1) (List.replicate S.length nilS) (List.replicate S.length ([],false)) h' 6->SatL Try.prog 117 D O cs Q ⟨c,h',6⟩) :
  SatL Try.prog 117 D O (.region 4 (f5R 4).toArray false :: .region 5 (f5R 5).toArray false::cs) Q ⟨env,h,2⟩:=by
 let p:AV:=.sl (S.map tSub.enc)
 have o:(S.map tSub.enc).length=S.length:=jas ..;have t:((S.map tSub.enc).length:Int)<=1048576:=by rw [o]; omega
 obtain ⟨m,hm⟩:∃ m,(S.map tSub.enc).length=m:=⟨_,rfl⟩;let B:AH:=updH h 2 (.cells 1 26 (List.replicate m [nilS]))
 let I:AH:=updH B 3 (.cells 1 45 [[nilS]])
 let s:AH:=updH I 3 (.cells 1 45 [[.ms 2 0 m]])
 have U:deref h (.own 0 0 0)=some [p]:=by simp only [deref,g]; rfl
 have F:∀ env,lk env 1 = .own 0 0 0->lk env 2 = .own 1 0 0->lk env 5 = .own 3 0 0->SatL Try.prog 117 D O (.region 5 (f5R 5).toArray false::cs) Q ⟨env,s,4⟩:=by
  intro env u h2 T;let A:AH:=updH s 4 (.cells 1 4 (List.replicate m [.sc (.bool false)]))
  let E:AH:=updH A 5 (.cells 1 46 [[nilS]])
  let y:AH:=updH E 5 (.cells 1 46 [[.ms 4 0 m]])
  have L:s 0=some (.cells 1 24 [[p]]):=g;have d3:deref s (.own 0 0 0)=some [p]:=by simp only [deref,L]; rfl
  have M:FlI S.length (λq=>q=0\/q=1) (List.replicate S.length nilS) (List.replicate S.length ([],false)) y 6:=by
   rw [o] at hm;subst hm;refine ⟨by simp,by simp,?_,λj v x C H=>?_,λi j a b id G K=>?_,?_,rfl,rfl,λq P=>?_,λq P=>by omega,jai _⟩
   ·show some (ABlk.cells 1 26 (List.replicate S.length [nilS]))=_;rw [List.map_replicate]
   ·rw [jbq] at C H;split at C
    ·rename_i K;rw [if_pos K] at H;cases C; cases H;exact .inl ⟨rfl,rfl⟩
    ·cases C
   ·rw [jbq] at G;split at G <;> cases G
   ·show some (ABlk.cells 1 4 (List.replicate S.length [AV.sc (.bool false)]))=_;rw [List.map_replicate]
   ·simp only [y,E,A,s,I,B];repeat rw [keX (by omega)]
    exact hn q (by omega)
  refine SatL.wreg [3,4,5] (l:=f5R 5) rfl rfl ⟨.own 0 0 0,.fldOwn (d:=0) (ft:=22) rfl (by kernel_rfl) u L,p,.load rfl d3 (by kernel_rfl),.sc (.int .i64 m),hm ▸ .len rfl rfl rfl rfl rfl (by kernel_rfl),.ms 4 0 m,A,5,(λw f=>aop.mkSl (e:=4) (z:=[.sc (.bool false)]) rfl rfl rfl (hm ▸ t) (by kernel_rfl) (by kernel_rfl) (of_decide_eq_true (by kernel_rfl)) (by simp) f),.own 5 0 0,E,6,(λw f=>aop.alloc (z:=[nilS]) rfl (by kernel_rfl) f),
   .ud,y,6,(λw f=>aop.store (id:=5) (k:=1) (T':=46) (a:=nilS) (b:=.ms 4 0 m) rfl rfl (kag A 5 (.cells 1 46 [[nilS]])) rfl (by kernel_rfl) f),?_⟩
  exact f ((6,.own 5 0 0)::(26,.ms 4 0 m)::(25,.sc (.int .i64 m))::(24,p)::(23,.own 0 0 0)::env) y u h2 T rfl g J M
 refine SatL.wreg [3,4,5] (l:=f5R 4) rfl rfl ⟨.own 0 0 0,.fldOwn (d:=0) (ft:=22) rfl (by kernel_rfl) u g,p,.load rfl U (by kernel_rfl),.sc (.int .i64 m),hm ▸ .len rfl rfl rfl rfl rfl (by kernel_rfl),.ms 2 0 m,B,3,(λw f=>aop.mkSl (e:=26) (z:=[nilS]) rfl rfl rfl (hm ▸ t) (by kernel_rfl) (by kernel_rfl) (of_decide_eq_true (by kernel_rfl)) (by simp) f),.own 3 0 0,I,4,(λw f=>aop.alloc (z:=[nilS]) rfl (by kernel_rfl) f),
  .ud,s,4,(λw f=>aop.store (id:=3) (k:=1) (T':=45) (a:=nilS) (b:=.ms 2 0 m) rfl rfl (kag B 3 (.cells 1 45 [[nilS]])) rfl (by kernel_rfl) f),?_⟩
 exact F ((5,.own 3 0 0)::(22,.ms 2 0 m)::(21,.sc (.int .i64 m))::(20,p)::(19,.own 0 0 0)::env) u h2 rfl
end
section
variable {D:DX} {O:Nat->Prop} {S:Ya Sub} {r:Ya Brick×Int}
noncomputable abbrev kmR:Code:=.seq (.region 6 (f5R 6).toArray false) (.block 0 (.rangeFunc (.tmp 29) #[30,31] (.seq (.region 7 (f5R 7).toArray false) (.region 8 (f5R 8).toArray false)) krg))
theorem kwB (hD:D.it=none) {env:Env} {t:AH} {xs:Ya (Int×Sub)} {Rf:FlT} {a:Ya Brick×Bool} (H:(runI λo=>kan o S)=some xs) (hRf:kdA xs (List.replicate S.length ([],false))=some Rf) (K:gi Rf 0=some a)
  (hF:(if a.2=true then some ([],4) else (kaj a.1 kaH).bind λb=>if b=true then some ([],11) else some (a.1,0))=some r)
  (Y:lk env 1 = .own 0 0 0) (h2:lk env 2 = .own 1 0 0) (A:lk env 5 = .own 3 0 0) (c:lk env 6 = .own 5 0 0) (p:t 0=some (.cells 1 24 [[.sl (S.map tSub.enc)]])) (L:t 1=some (.cells 1 28 [[nilS]])) (P:FlI S.length (λq=>q=0\/q=1) (List.replicate S.length nilS) (List.replicate S.length ([],false)) t 6) :
  SatL Try.prog 117 D O [kmR,kim] (fnQ Try.prog Try.f5.results.toList (flR r)) ⟨env,t,6⟩:=by
 let m:AV:=.sl (S.map tSub.enc)
 have d0:deref t (.own 0 0 0)=some [m]:=by simp only [deref,p]; rfl
 let z:AH:=updH t 6 (.cells 1 22 [[m]])
 have J:delH z 6=t:=kwI (P.hn 6 (jai _));have go:∀ env,lk env 29 = .fn 31 [.own 6 0 0]->lk env 2 = .own 1 0 0->lk env 5 = .own 3 0 0->lk env 6 = .own 5 0 0->SatL Try.prog 117 D O [.block 0 (.rangeFunc (.tmp 29) #[30,31] (.seq (.region 7 (f5R 7).toArray false) (.region 8 (f5R 8).toArray false)) krg),kim] (fnQ Try.prog Try.f5.results.toList (flR r)) ⟨env,z,7⟩:=by
  intro env I h2 A c;refine SatL.block (SatL.ofS (Sat.rangeFunc hD [6] (gf:=31) (caps:=[.own 6 0 0]) (caps':=[.fp [m]]) (xs:=xs.map λy=>avsL [.i .i64,tSub] y) (hE:=keepH [6] z) (h':=delH z 6) I (λi B f=>?_) (λi B f=>?_) (.cons (Snap.ownL (k:=1) (T:=22) (es:=[[m]]) (e:=[m]) rfl rfl (SnapL.free ?_)) .nil) (kwM H) (λx u=>?_) (by decide) (FlA S xs Rf) ?_ (λk x h n u hI=>?_) λh n hI=>?_))
  ·unfold keepH at f;split at f
   ·exact ⟨by assumption,f⟩
   ·cases f
  ·unfold delH at f;split at f
   ·cases f
   ·rename_i E;exact ⟨by simpa using E,f⟩
  ·simp only [jcc,kby,kfK,and_true]; exact kkt S
  ·obtain ⟨y,_,rfl⟩:=jaz.1 u; rfl
  ·rw [J];exact ⟨⟨_,_,P.bump,by rw [jcc]; exact hRf⟩,p,L⟩
  ·replace u:(List.map (λy:Int×Sub=>avsL [.i .i64,tSub] y) xs)[k]?=some x:=u;rw [jaq,jad] at u;obtain ⟨⟨i,s⟩,hy,rfl⟩:=u;obtain ⟨rows,R,F,hR⟩:=hI.F;obtain ⟨G,C⟩:=jac.1 hy;rw [jds G,C] at hR;obtain ⟨R1,hR1,hR2⟩:=jaa.1 (show (kfg R (i,s)).bind (kdA (xs.drop (k+1)))=some Rf from hR);exact kvB F hR1 A c λM h' n' j W w=>⟨⟨j,R1,W,hR2⟩,w 0 _ (.inl rfl) hI.b0,w 1 _ (.inr rfl) hI.b1⟩
  ·obtain ⟨rows,R,F,hR⟩:=hI.F;replace hR:kdA (List.drop (List.map (λy:Int×Sub=>avsL [.i .i64,tSub] y) xs).length xs) R=some Rf:=hR;rw [jas,List.drop_length] at hR;obtain rfl:R=Rf:=Option.some.inj hR;obtain ⟨_,K⟩:=kht K;exact kwi F (.inr rfl) K hI.b1 h2 A c hF
 refine SatL.seq (SatL.wreg [2] (l:=f5R 6) rfl rfl ⟨.own 0 0 0,.fldOwn (d:=0) (ft:=22) rfl (by kernel_rfl) Y p,m,.load rfl d0 (by kernel_rfl),.fn 31 [.own 6 0 0],z,7,(λK' U=>aop.callF (g:=12) (caps:=[]) rfl rfl rfl rfl kww (λv h' n' ⟨e1,Z,e3⟩=>by rw [e1,Z,e3]; exact U)),?_⟩);exact go ((29,.fn 31 [.own 6 0 0])::(28,m)::(27,.own 0 0 0)::env) rfl h2 A c
end
set_option maxHeartbeats 1000000 in
theorem knb {S:Ya Sub} {r:Ya Brick×Int} (hF:kdy S=some r):PC Try.prog 5 [.ag [.sl (S.map tSub.enc)]] (·= .tp [.ag [.sl (r.1.map tBrick.enc)],.sc (.int .i64 r.2)]):=by
 refine PC.of_HC (HC.of_body (R:=flR r) (c:=(.seq (.region 0 (f5R 0).toArray false) (.seq (.seq (.region 1 (f5R 1).toArray false) (.seq (.region 2 (f5R 2).toArray false) (.cond (.tmp 16) (.seq (.region 3 (f5R 3).toArray false) .ret) .skip))) (.seq (.region 4 (f5R 4).toArray false) (.seq (.region 5 (f5R 5).toArray false) (.seq kmR kim)))))) Try.func5 (by kernel_rfl) (by kernel_rfl) (by show 1<=117; omega) λD O hD=>Sat.ofL (N:=117) ?_);obtain ⟨e,J,hF⟩:=jaa.1 hF;let b:AV:=.sl (S.map tSub.enc)
 let h0:AH:=updH (updH ah0 0 (.cells 1 24 [[b]])) 1 (.cells 1 28 [[nilS]])
 have t:h0 0=some (.cells 1 24 [[b]]):=rfl;have i:h0 1=some (.cells 1 28 [[nilS]]):=rfl;have F:deref h0 (.own 0 0 0)=some [b]:=rfl;have I:∀ env,lk env 16 = .sc (.bool (e != 0))->lk env 1 = .own 0 0 0->lk env 2 = .own 1 0 0->lk env 4 = .sc (.int .i64 e)->SatL Try.prog 117 D O (.cond (.tmp 16) (.seq (.region 3 (f5R 3).toArray false) .ret) .skip::[.seq (.region 4 (f5R 4).toArray false) (.seq (.region 5 (f5R 5).toArray false) (.seq kmR kim))]) (fnQ Try.prog Try.f5.results.toList (flR r)) ⟨env,h0,2⟩:=by
  intro env s k h2 E;refine SatL.condX (v:=e != 0) s (λf=>?_) λf=>SatL.skip ?_
  ·have j:e≠0:=by simpa using f
   rw [if_neg j] at hF;exact fl_r3 i h2 E (Option.some.inj hF)
  have o:e=0:=by simpa using f
  rw [if_pos o] at hF;split at hF;case isFalse=>cases hF
  rename_i hS;obtain ⟨xs,p,hF⟩:=jaa.1 hF;obtain ⟨Rf,hRf,hF⟩:=jaa.1 hF;obtain ⟨a,L,hF⟩:=jaa.1 hF;refine SatL.seq (SatL.seqB (kvO hS k h2 t i (λq M=>?_) λw h' G A H x m u B=>SatL.seq (kwB hD p hRf L hF G A H x m u B)));simp only [h0];rw [keX (by omega),keX (by omega)]
 have C:∀ env,lk env 1 = .own 0 0 0->lk env 2 = .own 1 0 0->SatL Try.prog 117 D O [.seq (.region 1 (f5R 1).toArray false) (.seq (.region 2 (f5R 2).toArray false) (.cond (.tmp 16) (.seq (.region 3 (f5R 3).toArray false) .ret) .skip)),.seq (.region 4 (f5R 4).toArray false) (.seq (.region 5 (f5R 5).toArray false) (.seq kmR kim))] (fnQ Try.prog Try.f5.results.toList (flR r)) ⟨env,h0,2⟩:=by
  intro env k h2;refine SatL.seq (SatL.wreg [] (l:=f5R 1) rfl rfl ⟨.ag [b],.loadA (cs:=[b]) rfl (show deref h0 (lk env 1)=_ by rw [k]; exact F) (by kernel_rfl) (by kernel_rfl),.sc (.int .i64 e),.call rfl rfl rfl rfl (kqK J) (show FreeL [AV.ag [b]] by simp only [kby,kfK,kgK,and_true]; exact kkt S),.sc (.int .i64 e),.assign rfl rfl,?_⟩);refine SatL.seq (SatL.wreg [] (l:=f5R 2) rfl rfl ⟨.sc (.int .i64 e),.move rfl rfl,.sc (.bool (e != 0)),.bin rfl rfl rfl (λK g=>⟨rfl,g⟩),?_⟩);exact I ((16,.sc (.bool (e != 0)))::(15,.sc (.int .i64 e))::(4,.sc (.int .i64 e))::(14,.sc (.int .i64 e))::(13,.ag [b])::env) rfl k h2 rfl
 refine SatL.seq (SatL.wreg [0,1] (l:=f5R 0) rfl rfl ⟨.own 0 0 0,updH ah0 0 (.cells 1 24 [[b]]),1,(λy g=>by unfold aop; exact g),.own 1 0 0,h0,2,(λy g=>aop.alloc (z:=[nilS]) rfl (by kernel_rfl) g),.sc (.int .i64 0),.assign rfl rfl,?_⟩);exact SatL.seq (C ((3,.sc (.int .i64 0))::(2,.own 1 0 0)::(1,.own 0 0 0)::kar [.ag [b]]) rfl rfl)
theorem kkP:Good Try.prog 5 kdP:=by
 refine ⟨rfl,λx r h l hl=>?_,by simp [kdP],by simp [kdP]⟩;obtain ⟨a,rfl,b⟩:=hl;obtain rfl:=(kaZ rfl).1 b;exact knb h
end
def kky:Ctr:=⟨ "",[.s],[.b],λx=>kgz x,[],[]⟩
theorem kmS:Good Try.prog 35 kky:=
 kal Try.func35 (by kernel_rfl) (An:=[(0,⟨⟨[(3,.c Ti)],[]⟩,⟨[],[]⟩,[0],[],0,true,""⟩),(18,⟨⟨[],[]⟩,⟨[(4,.c .b)],[]⟩,[3],[],0,false,""⟩)]) [] (.nil) (λx=>by kernel_rfl)
def kjG:Ctr:=⟨ "",[(.w (.sl tSub)),.s],[Ti],λx=>kgD x.1 x.2,[],[]⟩
theorem kmN:Good Try.prog 36 kjG:=
 kal Try.func36 (by kernel_rfl) (An:=[(0,⟨⟨[(5,.c Ti)],[]⟩,⟨[],[]⟩,[2,1],[0],1,true,""⟩)]) [] (.nil) (λx=>by kernel_rfl)
def kfp:Ctr:=⟨ "",[Ti,Ti,Ti],[.b],λx=>kbA x.1 x.2.1 x.2.2,[],[]⟩
theorem kgp:Good Try.prog 39 kfp:=
 kal Try.func39 (by kernel_rfl) (An:=[]) [] (.nil) (λx=>by kernel_rfl)
def keW:Ctr:=⟨ "",[Tj],[.b],λx=>kce x,[],[]⟩
theorem kfX:Good Try.prog 20 keW:=
 kal Try.func20 (by kernel_rfl) (An:=[]) [(39,kfp)] (.cons kgp <| .nil) (λx=>by kernel_rfl)
def kjL:Ctr:=⟨ "",[(.w (.sl tSub)),Ti,tLine],[.b],λx=>kgF x.1 x.2.1 x.2.2,[],[]⟩
theorem kmg:Good Try.prog 37 kjL:=
 kal Try.func37 (by kernel_rfl) (An:=[]) [(20,keW),(39,kfp)] (.cons kfX <| .cons kgp <| .nil) (λx=>by kernel_rfl)
def kgo:Ctr:=⟨ "",[(.w (.sl tSub))],[.b],λx=>kec x,[],[]⟩
theorem kgR:Good Try.prog 17 kgo:=
 kal Try.func17 (by kernel_rfl) (An:=[(0,⟨⟨[(3,.c Ti)],[]⟩,⟨[],[]⟩,[1],[0],1,true,""⟩),(8,⟨⟨[(5,.c Ti)],[]⟩,⟨[],[]⟩,[4,3],[2],3,true,""⟩)]) [(37,kjL),(36,kjG),(35,kky)] (.cons kmg <| .cons kmN <| .cons kmS <| .nil) (λx=>by kernel_rfl)
def kjr:Ctr:=⟨ "",[(.w (.sl tSub))],[(.sl Ti)],λx=>kfG x,[],[]⟩
theorem klJ:Good Try.prog 18 kjr:=
 kal Try.func18 (by kernel_rfl) (An:=[(0,⟨⟨[(4,.c Ti),(3,.mw 2)],[(2,.sl 3 Ti)]⟩,⟨[(3,.mw 3)],[(3,.sl 3 Ti)]⟩,[1],[0],4,false,""⟩),(8,⟨⟨[(5,.c Ti),(3,.mw 2)],[(2,.sl 3 Ti)]⟩,⟨[(3,.mw 3)],[(3,.sl 3 Ti)]⟩,[4],[],4,false,""⟩),(169,⟨⟨[],[]⟩,⟨[(7,.c Ti)],[]⟩,[3,6,5],[2,3],4,false,""⟩)]) [] (.nil) (λx=>by kernel_rfl)
def kig:Ctr:=⟨ "",[Tj,Ti],[Tj],λx=>kbD x.1 x.2,[],[]⟩
theorem kkQ:Good Try.prog 65 kig:=
 kal Try.func65 (by kernel_rfl) (An:=[(0,⟨⟨[(5,.c Ti),(2,.ptr 0 0)],[(0,.bx 51 [.c Ti,.c Ti,.c Ti])]⟩,⟨[(2,.ptr 2 0)],[(2,.bx 51 [.c Ti,.c Ti,.c Ti])]⟩,[1,4],[1],3,false,""⟩)]) [] (.nil) (λx=>by kernel_rfl)
def kit:Ctr:=⟨ "",[Tj,Ti],[Tj],λx=>kcQ x.1 x.2,[],[]⟩
theorem kkO:Good Try.prog 66 kit:=
 kal Try.func66 (by kernel_rfl) (An:=[(0,⟨⟨[(5,.c Ti),(2,.ptr 0 0)],[(0,.bx 51 [.c Ti,.c Ti,.c Ti])]⟩,⟨[(2,.ptr 2 0)],[(2,.bx 51 [.c Ti,.c Ti,.c Ti])]⟩,[1,4],[1],3,false,""⟩)]) [] (.nil) (λx=>by kernel_rfl)
def kfn:Ctr:=⟨ "",[Tj,Ti],[Tj],λx=>kbi x.1 x.2,[],[]⟩
theorem kgq:Good Try.prog 49 kfn:=
 kal Try.func49 (by kernel_rfl) (An:=[]) [(66,kit),(65,kig)] (.cons kkO <| .cons kkQ <| .nil) (λx=>by kernel_rfl)
def kgY:Ctr:=⟨ "",[Ti,Ti],[Ti],λx=>kdJ x.1 x.2,[],[]⟩
theorem kjA:Good Try.prog 50 kgY:=
 kal Try.func50 (by kernel_rfl) (An:=[(0,⟨⟨[(7,.c Ti)],[]⟩,⟨[],[]⟩,[5,0,1,6],[0,1],2,true,""⟩)]) [(49,kfn)] (.cons kgq <| .nil) (λx=>by kernel_rfl)
def kix:Ctr:=⟨ "",[tBrick,tBrick],[tBrick],λx=>keM x.1 x.2,[],[]⟩
theorem kkT:Good Try.prog 38 kix:=
 kal Try.func38 (by kernel_rfl) (An:=[]) [(50,kgY),(49,kfn)] (.cons kjA <| .cons kgq <| .nil) (λx=>by kernel_rfl)
def khD (k:Nat):Ctr:=⟨ "",[(.w (.sl tSub)),(.sl (.i .i64)),(.i .i64)],[(.sl tBrick)],λx=>kbv k x.1 x.2.1 x.2.2,[],[]⟩
theorem kgZ:∀ k,Good Try.prog 19 (khD k)
 | 0=>kuq (by kernel_rfl) (λx=>rfl) rfl rfl
 | k+1=>kal Try.func19 (by kernel_rfl) (An:=[(0,⟨⟨[(8,.c (.i .i64)),(7,.mw 2)],[(2,.sl 53 tBrick)]⟩,⟨[(7,.mw 3)],[(3,.sl 53 tBrick)]⟩,[3,2,1],[0],4,false,""⟩),(8,⟨⟨[(11,.c (.i .i64)),(7,.mw 2)],[(2,.sl 53 tBrick)]⟩,⟨[(7,.mw 4)],[(4,.sl 53 tBrick)]⟩,[10,9,8],[3],5,false,""⟩)]) ((19,khD k)::[(38,kix)]) (.cons (kgZ k) <| .cons kkT <| .nil) (λx=>by kernel_rfl)
def kiv:Ctr:=⟨ "",[(.w (.sl tSub)),(.sl Ti),Ti],[(.sl tBrick)],λx=>khf x.1 x.2.1 x.2.2,[],[]⟩
theorem kkV:Good Try.prog 19 kiv:=kgZ 1000000
def khM:Ctr:=⟨ "",[(.w (.sl tSub))],[(.w (.sl tBrick)),Ti],λx=>kej x,[],[]⟩
theorem kjP:Good Try.prog 6 khM:=
 kal Try.func6 (by kernel_rfl) (An:=[(0,⟨⟨[(6,.c Ti),(2,.ptr 2 0)],[(2,.bx 28 [.mw 1])]⟩,⟨[(2,.ptr 3 0)],[(3,.bx 28 [.mw 1])]⟩,[5],[1],4,true,""⟩)]) [(19,kiv),(18,kjr),(17,kgo),(20,keW)] (.cons kkV <| .cons klJ <| .cons kgR <| .cons kfX <| .nil) (λx=>by kernel_rfl)
def khE:Ctr:=⟨ "",[Ti],[.b],λx=>kem x,[],[]⟩
theorem kke:Good Try.prog 42 khE:=
 kal Try.func42 (by kernel_rfl) (An:=[]) [] (.nil) (λx=>by kernel_rfl)
def kgr:Ctr:=⟨ "",[Ti,Ti],[Ti],λx=>kfb x.1 x.2,[],[]⟩
theorem kiO:Good Try.prog 26 kgr:=
 kal Try.func26 (by kernel_rfl) (An:=[]) [(42,khE)] (.cons kke <| .nil) (λx=>by kernel_rfl)
def kgv:Ctr:=⟨ "",[(.i .u8)],[.b],λx=>kem x,[],[]⟩
theorem kiM:Good Try.prog 43 kgv:=
 kal Try.func43 (by kernel_rfl) (An:=[]) [] (.nil) (λx=>by kernel_rfl)
def kfe:Ctr:=⟨ "",[(.i .u8),(.i .u8)],[Ti],λx=>kfb x.1 x.2,[],[]⟩
theorem khP:Good Try.prog 27 kfe:=
 kal Try.func27 (by kernel_rfl) (An:=[]) [(43,kgv)] (.cons kiM <| .nil) (λx=>by kernel_rfl)
def kjY:Ctr:=⟨ "",[(.sl Ti)],[Ti],λx=>kbC x,[],[]⟩
theorem kmM:Good Try.prog 25 kjY:=
 kal Try.func25 (by kernel_rfl) (An:=[(0,⟨⟨[(8,.c Ti)],[]⟩,⟨[],[]⟩,[7,6,3],[],0,true,""⟩)]) [] (.nil) (λx=>by kernel_rfl)
def kmP:Ctr:=⟨ "",[Tk,Tk],[Ti],λx=>kgl x.1 x.2,[],[]⟩
theorem text_Count_c2_C_ok:Good Try.prog 24 kmP:=
 kal Try.func24 (by kernel_rfl) (An:=[]) [(25,kjY),(27,kfe),(26,kgr)] (.cons kmM <| .cons khP <| .cons kiO <| .nil) (λx=>by kernel_rfl)
section
set_option maxRecDepth 100000
open Go.RowKit Go.Sort
abbrev PTy:Ty:=.pr (.i .i64) (.i .u8)
abbrev pkV (p:Int×Int):Value:=keyV PTy p
theorem pk_ok:KeyOk Try.prog 67 pkV:=⟨λa b=>@kiX PTy rfl a b _,λa=>kgL (k:=PTy) rfl (by kernel_rfl) a⟩
theorem kee:mapO Try.prog 65=some (67,3):=by kernel_rfl
theorem keE:zvO Try.prog 3=some (.int .i64 0):=by kernel_rfl
theorem kge (k c:Int):keyA (.ag [.sc (.int .i64 k),.sc (.int .u8 c)])=some (pkV (k,c)):=rfl
noncomputable def c1R (id:Nat):Ya Oper:=((Try.f21.body.bind (findR id)).getD [])
set_option maxHeartbeats 1000000 in
theorem c1_r8 {D:DX} {O:Nat->Prop} {Q:Exit->St->Prop} {cs:Ya Code} {env:Env} {h:AH} {n g b:Nat} {E:Ya ((Int×Int)×Int)} {l:Line} (t:lk env 6 = .mp g) (k:lk env 8 = .own b 0 0) (c:h b=some (.cells 7 55 [lnV l])) (hg:h g=some (.map (mpL pkV E)))
  (e:∀ a,(∀ s,s<35\/46<s->lk a s=lk env s)->SatL Try.prog 79 D O cs Q ⟨a,updH h g (.map (mpL pkV (mput E (l.2.1,l.2.2.2.2) (w64 ((mget E (l.2.1,l.2.2.2.2)).getD 0+1))))),n⟩) :
  SatL Try.prog 79 D O (.region 8 (c1R 8).toArray true::cs) Q ⟨env,h,n⟩:=by
 let p:Int×Int:=(l.2.1,l.2.2.2.2)
 have u:b≠g:=by rintro rfl; rw [c] at hg; cases hg
 have i:∀ j,deref h (.own b 0 j)=some ((lnV l).drop j):=λj=>by simp only [deref,c]; rfl
 obtain ⟨q,o⟩:=ksh p E;have fin:∀ a,(∀ s,s<35\/46<s->lk a s=lk env s)->SatL Try.prog 79 D O cs Q ⟨a,updH (updH h g (.map (mpL pkV (ment E p 0)))) g (.map (mpL pkV (mset (ment E p 0) (midx E p) (w64 ((mget E p).getD 0+1))))),n⟩:=λa w=>by
  rw [koz,kor];exact e a w
 have f:0<=midx E p:=jdr _;refine SatL.wregD2 8 10 [0,1,2,3,4,5,6,7,8,9,10,11,12] [0,1,2,3,4,5,6,7,10,8,9,11,12] [10,12] [8,12] [0,7,9,11] [0,7,10,11] (by kernel_rfl) (by kernel_rfl) (by decide) (by kernel_rfl) (by kernel_rfl) (by kernel_rfl) (by kernel_rfl) ?_ ?_
 ·refine ⟨.mp g,pu.move rfl t,.own b 0 1,.fldOwn (d:=1) (ft:=53) rfl (by kernel_rfl) k c,.own b 0 1,.fldOwn (d:=0) (ft:=3) rfl (by kernel_rfl) rfl c,.sc (.int .i64 l.2.1),.load rfl (i 1) (by kernel_rfl),.own b 0 1,.fldOwn (d:=1) (ft:=53) rfl (by kernel_rfl) k c,.own b 0 6,.fldOwn (d:=5) (ft:=5) rfl (by kernel_rfl) rfl c,
   .sc (.int .u8 l.2.2.2.2),.load rfl (i 6) (by kernel_rfl),.ag [.sc (.int .i64 l.2.1),.sc (.int .u8 l.2.2.2.2)],pu.build (z:=[.sc (.int .i64 0),.sc (.int .u8 0)]) (pl:=[(0,1),(1,1)]) rfl (by kernel_rfl) (by kernel_rfl) rfl,.sc (.int .i64 ((mget E p).getD 0)),.lookupM (kf:=pkV) (x:=p) rfl rfl (kge _ _) kee pk_ok keE hg,
   .sc (.int .i64 (w64 ((mget E p).getD 0+1))),pu.bin rfl rfl rfl (λK e=>⟨rfl,e⟩),.tp [.sc (.int .i64 ((mget E p).getD 0)),.sc (.int .i64 (midx E p))],updH h g (.map (mpL pkV (ment E p 0))),n,aop.mapEntryM (kf:=pkV) (x:=p) (E:=E) rfl rfl (kge _ _) kee pk_ok keE hg,.sc (.int .i64 (midx E p)),pu.extract rfl rfl rfl,
   .ud,updH (updH h g (.map (mpL pkV (ment E p 0)))) g (.map (mpL pkV (mset (ment E p 0) (midx E p) (w64 ((mget E p).getD 0+1))))),n,aop.entryStoreM (kf:=pkV) (E:=ment E p 0) (p:=q) rfl rfl rfl rfl (kag ..) f o,?_⟩
  exact fin _ (λs v=>by
   show lk ((46,_)::(45,_)::(44,_)::(43,_)::(42,_)::(41,_)::(40,_)::(39,_)::(38,_)::(37,_)::(36,_)::(35,_)::env) s=lk env s;simp only [lk];repeat rw [if_neg (by omega)])
 ·have m:updH h g (.map (mpL pkV (ment E p 0))) g=some (.map (mpL pkV (ment E p 0))):=kag ..;have hz:(mget (ment E p 0) p).getD 0=(mget E p).getD 0:=koo p E;refine ⟨.mp g,pu.move rfl t,.own b 0 1,.fldOwn (d:=1) (ft:=53) rfl (by kernel_rfl) k c,.own b 0 1,.fldOwn (d:=0) (ft:=3) rfl (by kernel_rfl) rfl c,.sc (.int .i64 l.2.1),.load rfl (i 1) (by kernel_rfl),.own b 0 1,.fldOwn (d:=1) (ft:=53) rfl (by kernel_rfl) k c,.own b 0 6,.fldOwn (d:=5) (ft:=5) rfl (by kernel_rfl) rfl c,
   .sc (.int .u8 l.2.2.2.2),.load rfl (i 6) (by kernel_rfl),.ag [.sc (.int .i64 l.2.1),.sc (.int .u8 l.2.2.2.2)],pu.build (z:=[.sc (.int .i64 0),.sc (.int .u8 0)]) (pl:=[(0,1),(1,1)]) rfl (by kernel_rfl) (by kernel_rfl) rfl,
   .tp [.sc (.int .i64 ((mget E p).getD 0)),.sc (.int .i64 (midx E p))],updH h g (.map (mpL pkV (ment E p 0))),n,aop.mapEntryM (kf:=pkV) (x:=p) (E:=E) rfl rfl (kge _ _) kee pk_ok keE hg,
   .sc (.int .i64 ((mget E p).getD 0)),hz ▸ .lookupM (kf:=pkV) (x:=p) (E:=ment E p 0) rfl rfl (kge _ _) kee pk_ok keE m,.sc (.int .i64 (w64 ((mget E p).getD 0+1))),pu.bin rfl rfl rfl (λK e=>⟨rfl,e⟩),.sc (.int .i64 (midx E p)),pu.extract rfl rfl rfl,
   .ud,updH (updH h g (.map (mpL pkV (ment E p 0)))) g (.map (mpL pkV (mset (ment E p 0) (midx E p) (w64 ((mget E p).getD 0+1))))),n,aop.entryStoreM (kf:=pkV) (E:=ment E p 0) (p:=q) rfl rfl rfl rfl (kag ..) f o,?_⟩
  exact fin _ (λs v=>by
   show lk ((46,_)::(44,_)::(43,_)::(45,_)::(42,_)::(41,_)::(40,_)::(39,_)::(38,_)::(37,_)::(36,_)::(35,_)::env) s=lk env s;simp only [lk];repeat rw [if_neg (by omega)])
theorem kud (a b:Int):FreeL [AV.sl [[.sc (.int .u8 a)],[.sc (.int .u8 b)]]]:=by simp
theorem or_PC {a b r:Int} (h:kbC [a,b]=some r):PC Try.prog 22 [.sl [[.sc (.int .u8 a)],[.sc (.int .u8 b)]]] (·= .sc (.int .u8 r)):=
 cmp_Or_uint8_C_ok.2.1 [a,b] r h _ ⟨_,rfl,(kaZ rfl).2 rfl⟩
set_option maxHeartbeats 1000000 in
theorem kxc {D:DX} {O:Nat->Prop} {Q:Exit->St->Prop} {cs:Ya Code} {env:Env} {h:AH} {n g b pb:Nat} {E:Ya ((Int×Int)×Int)} {l:Line} {k c m r:Int} (F:lk env 6 = .mp g) (C:lk env 8 = .own b 0 0) (w:lk env 9 = .own pb 0 0) (t:lk env 10 = .sc (.int .i64 m)) (i:h b=some (.cells 7 55 [lnV l])) (f:h pb=some (.cells 2 67 [[.sc (.int .i64 k),.sc (.int .u8 c)]])) (hg:h g=some (.map (mpL pkV E)))
  (v:kbC [c,l.2.2.2.2]=some r) (o:∀ a,(∀ s,s<57\/72<s->lk a s=lk env s)->SatL Try.prog 79 D O cs Q ⟨a,updH h g (.map (mpL pkV (mput E (k,r) (w64 ((mget E (k,r)).getD 0+m))))),n⟩) :
  SatL Try.prog 79 D O (.region 12 (c1R 12).toArray true::cs) Q ⟨env,h,n⟩:=by
 let p:Int×Int:=(k,r)
 have A:∀ j,deref h (.own b 0 j)=some ((lnV l).drop j):=λj=>by simp only [deref,i]; rfl
 have hp:∀ j,deref h (.own pb 0 j)=some ([AV.sc (.int .i64 k),.sc (.int .u8 c)].drop j):=λj=>by simp only [deref,f]; rfl
 obtain ⟨q,B⟩:=ksh p E;have fin:∀ a,(∀ s,s<57\/72<s->lk a s=lk env s)->SatL Try.prog 79 D O cs Q ⟨a,updH (updH h g (.map (mpL pkV (ment E p 0)))) g (.map (mpL pkV (mset (ment E p 0) (midx E p) (w64 ((mget E p).getD 0+m))))),n⟩:=λa H=>by
  rw [koz,kor];exact o a H
 have u:0<=midx E p:=jdr _;have y:updH h g (.map (mpL pkV (ment E p 0))) g=some (.map (mpL pkV (ment E p 0))):=kag ..;have hz:(mget (ment E p 0) p).getD 0=(mget E p).getD 0:=koo p E;refine SatL.wregD2 11 14 [0,1,2,3,4,5,6,7,8,9,10,11,12,13,14,15,16] [0,1,2,3,4,5,6,7,8,9,10,12,14,11,13,15,16] [14,16] [12,16] [0,8,10,12,13,15] [0,8,10,11,14,15] (by kernel_rfl) (by kernel_rfl) (by decide) (by kernel_rfl) (by kernel_rfl) (by kernel_rfl) (by kernel_rfl) ?_ ?_
 ·refine ⟨.mp g,pu.move rfl F,.own pb 0 0,.fldOwn (d:=0) (ft:=3) rfl (by kernel_rfl) w f,.sc (.int .i64 k),.load rfl (hp 0) (by kernel_rfl),.own pb 0 1,.fldOwn (d:=1) (ft:=5) rfl (by kernel_rfl) w f,.sc (.int .u8 c),.load rfl (hp 1) (by kernel_rfl),
   .own b 0 1,.fldOwn (d:=1) (ft:=53) rfl (by kernel_rfl) C i,.own b 0 6,.fldOwn (d:=5) (ft:=5) rfl (by kernel_rfl) rfl i,.sc (.int .u8 l.2.2.2.2),.load rfl (A 6) (by kernel_rfl),.sl [[.sc (.int .u8 c)],[.sc (.int .u8 l.2.2.2.2)]],pu.buildSl (e:=5) (z:=[.sc (.int .u8 0)]) rfl (by kernel_rfl) (by kernel_rfl) (by decide) (by decide) rfl,
   .sc (.int .u8 r),.call rfl rfl rfl rfl (or_PC v) (kud _ _),.ag [.sc (.int .i64 k),.sc (.int .u8 r)],pu.build (z:=[.sc (.int .i64 0),.sc (.int .u8 0)]) (pl:=[(0,1),(1,1)]) rfl (by kernel_rfl) (by kernel_rfl) rfl,.sc (.int .i64 ((mget E p).getD 0)),.lookupM (kf:=pkV) (x:=p) rfl rfl (kge _ _) kee pk_ok keE hg,.sc (.int .i64 m),pu.move rfl t,.sc (.int .i64 (w64 ((mget E p).getD 0+m))),pu.bin rfl rfl rfl (λK o=>⟨rfl,o⟩),.tp [.sc (.int .i64 ((mget E p).getD 0)),.sc (.int .i64 (midx E p))],updH h g (.map (mpL pkV (ment E p 0))),n,aop.mapEntryM (kf:=pkV) (x:=p) (E:=E) rfl rfl (kge _ _) kee pk_ok keE hg,.sc (.int .i64 (midx E p)),pu.extract rfl rfl rfl,.ud,updH (updH h g (.map (mpL pkV (ment E p 0)))) g (.map (mpL pkV (mset (ment E p 0) (midx E p) (w64 ((mget E p).getD 0+m))))),n,aop.entryStoreM (kf:=pkV) (E:=ment E p 0) (p:=q) rfl rfl rfl rfl (kag ..) u B,?_⟩
  exact fin _ (λs G=>by
   show lk ((72,_)::(71,_)::(70,_)::(69,_)::(68,_)::(67,_)::(66,_)::(65,_)::(64,_)::(63,_)::(62,_)::(61,_)::(60,_)::(59,_)::(58,_)::(57,_)::env) s=lk env s;simp only [lk];repeat rw [if_neg (by omega)])
 ·refine ⟨.mp g,pu.move rfl F,.own pb 0 0,.fldOwn (d:=0) (ft:=3) rfl (by kernel_rfl) w f,.sc (.int .i64 k),.load rfl (hp 0) (by kernel_rfl),.own pb 0 1,.fldOwn (d:=1) (ft:=5) rfl (by kernel_rfl) w f,.sc (.int .u8 c),.load rfl (hp 1) (by kernel_rfl),
   .own b 0 1,.fldOwn (d:=1) (ft:=53) rfl (by kernel_rfl) C i,.own b 0 6,.fldOwn (d:=5) (ft:=5) rfl (by kernel_rfl) rfl i,.sc (.int .u8 l.2.2.2.2),.load rfl (A 6) (by kernel_rfl),.sl [[.sc (.int .u8 c)],[.sc (.int .u8 l.2.2.2.2)]],pu.buildSl (e:=5) (z:=[.sc (.int .u8 0)]) rfl (by kernel_rfl) (by kernel_rfl) (by decide) (by decide) rfl,
   .sc (.int .u8 r),.call rfl rfl rfl rfl (or_PC v) (kud _ _),.ag [.sc (.int .i64 k),.sc (.int .u8 r)],pu.build (z:=[.sc (.int .i64 0),.sc (.int .u8 0)]) (pl:=[(0,1),(1,1)]) rfl (by kernel_rfl) (by kernel_rfl) rfl,.sc (.int .i64 m),pu.move rfl t,.tp [.sc (.int .i64 ((mget E p).getD 0)),.sc (.int .i64 (midx E p))],updH h g (.map (mpL pkV (ment E p 0))),n,aop.mapEntryM (kf:=pkV) (x:=p) (E:=E) rfl rfl (kge _ _) kee pk_ok keE hg,.sc (.int .i64 ((mget E p).getD 0)),hz ▸ .lookupM (kf:=pkV) (x:=p) (E:=ment E p 0) rfl rfl (kge _ _) kee pk_ok keE y,.sc (.int .i64 (w64 ((mget E p).getD 0+m))),pu.bin rfl rfl rfl (λK o=>⟨rfl,o⟩),.sc (.int .i64 (midx E p)),pu.extract rfl rfl rfl,.ud,updH (updH h g (.map (mpL pkV (ment E p 0)))) g (.map (mpL pkV (mset (ment E p 0) (midx E p) (w64 ((mget E p).getD 0+m))))),n,aop.entryStoreM (kf:=pkV) (E:=ment E p 0) (p:=q) rfl rfl rfl rfl (kag ..) u B,?_⟩
  exact fin _ (λs G=>by
   show lk ((72,_)::(70,_)::(68,_)::(71,_)::(69,_)::(67,_)::(66,_)::(65,_)::(64,_)::(63,_)::(62,_)::(61,_)::(60,_)::(59,_)::(58,_)::(57,_)::env) s=lk env s;simp only [lk];repeat rw [if_neg (by omega)])
theorem kmz (k c:Int):cst (pkV (k,c)) = .ag [.sc (.int .i64 k),.sc (.int .u8 c)]:=by
 show cst (.agg #[.int .i64 k,.int .u8 c])=_;simp [cst,Value.oneCell']
noncomputable def c1B (id:Nat):Code:=((Try.f21.body.bind (findB id)).getD .skip)
theorem kwL (c d:Int):kbC [c,d]=some (orC c d):=by
 have key:∀ z:Int⊕Unit,itN (kbd [c,d]) 3 0=some z->iter (kbd [c,d]) 0=some z:=λz h=>kdq h (by decide);unfold kbC orC;by_cases a:c=0
 ·by_cases b:d=0
  ·rw [key (.inr ()) (by subst a; subst b; decide)];simp [a,b]
  ·rw [key (.inl d) (by simp [itN,kbd,gi,lenI,a,b,w64,IntKind.wrap,IntKind.bits,IntKind.signed])];simp [a]
 ·rw [key (.inl c) (by simp [itN,kbd,gi,lenI,a])];simp [a]
abbrev khv:List Nat:=[0,1,2,3,6,8,26,27,28,51]
structure C1I (h0:AH) (n0:Nat) (env0:Env) (g it m:Nat) (E':List ((Int×Int)×Int)) (L:List (Int×Int)) (d:Int) (seen:List Nat) (st:St):Prop where
 nd:seen.Nodup
 lt:∀ i∈seen,i<E'.length
 env:∀ s∈khv,lk st.env s=lk env0 s
 hit:st.h it=some (.mi m E'.length seen)
 hg:∃ E,st.h g=some (.map (mpL pkV E))/\Cnt E (L++met E' (λp=>(p.1,orC p.2 d)) seen)
 fr:∀ q B,q≠g->q≠it->h0 q=some B->st.h q=some B
 hn:∀ q,st.n<=q->st.h q=none
 le:n0<=st.n
set_option maxHeartbeats 2000000 in
theorem kvq {D:DX} {O:Nat->Prop} {Q:Exit->St->Prop} {cs:Ya Code} {env:Env} {h:AH} {n g b it m:Nat} {E E':Ya ((Int×Int)×Int)} {L L':Ya (Int×Int)} {l:Line} (h6:lk env 6 = .mp g) (h8:lk env 8 = .own b 0 0) (ae:lk env 51 = .own it 0 0) (P:h b=some (.cells 7 55 [lnV l])) (hg:h g=some (.map (mpL pkV E))) (hc:Cnt E L)
  (hm:h m=some (.map (mpL pkV E'))) (H:Cnt E' L') (ai:g≠m) (u:h it=some (.mi m E'.length [])) (hn:∀ q,n<=q->h q=none) (al:L.length+L'.length<4611686018427387904)
  (hk:∀ st,(∀ s∈khv,lk st.env s=lk env s)->(∃ E2,st.h g=some (.map (mpL pkV E2))/\Cnt E2 (L++L'.map λp=>(p.1,orC p.2 l.2.2.2.2)))->(∀ q B,q≠g->q≠it->h q=some B->st.h q=some B)->(∀ q,st.n<=q->st.h q=none)->n<=st.n->SatL Try.prog 79 D O cs Q st):SatL Try.prog 79 D O (.block 2 (c1B 2)::cs) Q ⟨env,h,n⟩:=by
 refine SatL.block (SatL.loop (α:=Ya Nat) khv (C1I h n env g it m E' L l.2.2.2.2) (λseen=>E'.length-seen.length) [] ?_ λseen st I=>?_)
 ·refine ⟨List.nodup_nil,(λi u=>by cases u),λs A=>kaM A,u,⟨E,hg,by simpa [met] using hc⟩,λq B _ _ F=>F,hn,jai _⟩
 obtain ⟨f,U,n1⟩:=st;obtain ⟨E1,J,ad⟩:=I.hg;have e6:lk f 6 = .mp g:=(I.env 6 (by decide)).trans h6;have e8:lk f 8 = .own b 0 0:=(I.env 8 (by decide)).trans h8;have W:lk f 51 = .own it 0 0:=(I.env 51 (by decide)).trans ae;have ac:b≠g:=by rintro rfl; rw [P] at hg; cases hg
 have G:b≠it:=by rintro rfl; rw [P] at u; cases u
 have C:m≠it:=by rintro rfl; rw [hm] at u; cases u
 have x:g≠it:=by rintro rfl; rw [hg] at u; cases u
 have b1:=I.fr b _ ac G P;have m1:=I.fr m _ (Ne.symm ai) C hm;have rest:∀ (i:Nat) (p:(Int×Int)×Int),E'[i]?=some p->i∉seen->∀ Qx:Exit->St->Prop,(∀ s',C1I h n env g it m E' L l.2.2.2.2 (seen++[i]) ⟨keep khv s'.env,s'.h,s'.n⟩->Qx .normal s')->SatL Try.prog 79 D O [c1B 3] (kbI 3 Qx)
   ⟨(53,.sc (.bool true))::(52,.tp [.sc (.bool true),cst (pkV p.1),.sc (.int .i64 p.2)])::f,updH U it (.mi m E'.length (seen++[i])),n1⟩:=by
  intro i p hp M Qx hQ;obtain ⟨⟨k,c⟩,v⟩:=p;have t:∀ {q:Nat} {B:ABlk},U q=some B->q<n1:=λ{q B} F=>by
   rcases jcg q n1 with w | aj
   ·exact w
   ·rw [show U q=none from I.hn q aj] at F; cases F
  have am:=t I.hit;have ao:=t b1;have ln3:=t m1;have an:=t J;have af:updH U it (.mi m E'.length (seen++[i])) m=some (.map (mpL pkV E')):=kac C m1;have hv:0<v:=H.pos (jaf hp);rw [show cst (pkV ((k,c),v).1)=_ from kmz k c];show SatL Try.prog 79 D O [.seq (.region 11 (c1R 11).toArray false) (.region 12 (c1R 12).toArray true)] _ _;refine SatL.seq (Sat.region (l:=c1R 11) rfl (aops.cons rfl (aop.entryM2 (kf:=pkV) (E:=E') (id:=m) (p:=((k,c),v)) rfl W (kag ..) af hp ?_)));rw [show cst (pkV ((k,c),v).1)=_ from kmz k c];refine aops.cons rfl (pu.extract rfl rfl rfl _ _ _ (aops.cons rfl (pu.extract rfl rfl rfl _ _ _ (aops.cons rfl (aop.alloc (z:=[.sc (.int .i64 0),.sc (.int .u8 0)]) rfl (by kernel_rfl) ?_)))));refine aops.cons rfl (aop.store2 (a:=.sc (.int .i64 0)) (a':=.sc (.int .u8 0)) (b:=.sc (.int .i64 k)) (b':=.sc (.int .u8 c)) rfl rfl (kag ..) rfl (by kernel_rfl) ?_);refine aops.cons rfl (pu.move' rfl rfl _ _ _ ?_);refine kxc (E:=E1) (l:=l) (k:=k) (c:=c) (m:=v) (r:=orC c l.2.2.2.2) (g:=g) (b:=b) (pb:=n1) e6 e8 rfl rfl (kac (by omega) (kac (by omega) (kac G b1))) (kag ..) (kac (by omega) (kac (by omega) (kac x J))) (kwL c _) λak he=>?_;refine SatL.nil (hQ _ ?_);have ab:(seen++[i]).Nodup:=by
   rw [jek];exact ⟨I.nd,by simp,λa ha b P e=>by simp at P; subst P; subst e; exact M ha⟩
  have w:∀ j∈seen++[i],j<E'.length:=λj T=>by
   rcases jbc.1 T with T | T
   ·exact I.lt j T
   ·simp at T; subst T; exact (jac.1 hp).1
  have y:met E' (λp=>(p.1,orC p.2 l.2.2.2.2)) (seen++[i])=met E' (λp=>(p.1,orC p.2 l.2.2.2.2)) seen++List.replicate v.toNat (k,orC c l.2.2.2.2):=by
   unfold met;rw [jen];simp [pickE,hp]
  have ah:=kwb H (λp=>(p.1,orC p.2 l.2.2.2.2)) ab w;rw [y,jau,jec] at ah;refine ⟨ab,w,λs A=>?_,kac (Ne.symm x) (kac (by omega) (kac (by omega) (kag ..))),⟨_,kag ..,?_⟩,λq B aa Z F=>?_,λq F=>?_,Nat.le_succ_of_le I.le⟩
  ·have o:=A;simp only [khv,jat,jcj,or_false] at o;refine (kaM A).trans ((he s (by omega)).trans (Eq.trans ?_ (I.env s A)));show lk ((10,_)::(9,_)::(56,_)::(55,_)::(54,_)::(53,_)::(52,_)::f) s=lk f s;simp only [lk];repeat rw [if_neg (by omega)]
  ·have:=ad.add (k,orC c l.2.2.2.2) v.toNat (by omega) (by rw [jau]; omega);rw [jem (by omega),jax,<-y] at this;exact this
  ·have K:=I.fr q B aa Z F;have:=t K;exact kac aa (kac (by omega) (kac (by omega) (kac Z K)))
  ·have K:n1+1<=q:=F;exact kac (by omega) (kac (by omega) (kac (by omega) (kac (by omega) (I.hn q (show n1<=q by omega)))))
 refine SatL.seq (Sat.region rfl (aops.cons rfl (aop.nextM (kf:=pkV) (E:=E') (id:=m) rfl W I.hit m1 (λi p hp M=>?_) λY=>?_)))
 ·refine aops.cons rfl (pu.extract rfl rfl rfl _ _ _ ?_);exact SatL.seq (SatL.condT (v:=true) rfl rfl (SatL.skip (SatL.block (rest i p hp M _ λs' o=>⟨_,o,by
   have:=kku o.nd o.lt;rw [jau,jdp] at this ⊢;omega⟩))))
 ·refine aops.cons rfl (pu.extract rfl rfl rfl _ _ _ ?_);refine SatL.seq (SatL.condF (v:=false) rfl rfl (SatL.exit ?_));refine hk _ (λs A=>?_) ⟨E1,J,?_⟩ I.fr I.hn I.le
  ·have o:=A;simp only [khv,jat,jcj,or_false] at o;refine Eq.trans ?_ (I.env s A);show lk ((53,_)::(52,_)::f) s=lk f s;simp only [lk];repeat rw [if_neg (by omega)]
  ·refine ad.perm (List.Perm.append_left _ ?_);have U:(met E' (λp=>(p.1,orC p.2 l.2.2.2.2)) seen).Perm (met E' (λp=>(p.1,orC p.2 l.2.2.2.2)) (List.range E'.length)):=(kmW I.nd I.lt λi u=>Y i u).flatMap_right _;refine U.trans ?_;rw [kog];exact H.ents.map _
def WfS (S:Ya Sub):Prop:=∀ (i:Nat) (s:Sub),S[i]?=some s->∀ l∈s.2,l.1<0\/((i:Int)<l.1/\l.1<S.length)
theorem kqe {S:Ya Sub} (b:WfS S):∀ (f a i:Nat),S.length-i<=f->S.length-i<=a->i<S.length->brk S f i=brk S a i
 | 0,_,i,h,_,hi=>by omega
 | f+1,0,i,_,h,hi=>by omega
 | f+1,a+1,i,h1,h2,hi=>by
  simp only [brk];cases c:S[i]? with
  | none=>rfl
  | some s=>
   simp only;refine keq λl hl=>?_;split
   ·rfl
   ·rename_i h0;rcases b i s c l hl with h | ⟨g,e⟩
    ·exact absurd h h0
    ·rw [kqe b f a l.1.toNat (by omega) (by omega) (by omega)]
def lnB (S:Ya Sub) (l:Line):Ya (Int×Int):=if l.1<0 then [(l.2.1,l.2.2.2.2)] else (brk S S.length l.1.toNat).map λp=>(p.1,orC p.2 l.2.2.2.2)
theorem kpZ {S:Ya Sub} (b:WfS S) {i:Nat} {s:Sub} (a:S[i]?=some s):brk S S.length i=s.2.flatMap (lnB S):=by
 have f:=(jac.1 a).1;obtain ⟨m,hm⟩:∃ m,S.length=m+1:=⟨S.length-1,by omega⟩;have:brk S S.length i=brk S (m+1) i:=by rw [hm]
 rw [this];simp only [brk,a];refine keq λl hl=>?_;unfold lnB;split
 ·rfl
 ·rename_i h0;rcases b i s a l hl with h | ⟨e,c⟩
  ·exact absurd h h0
  ·rw [kqe b m S.length l.1.toNat (by omega) (by omega) (by omega)]
structure Memo (S:List Sub) (Cb Sb Db Fb:Nat) (X:Nat->Prop) (h:AH):Prop where
 c:h Cb=some (.cells 1 63 [[.ms Sb 0 S.length]])
 d:h Db=some (.cells 1 24 [[.sl (S.map tSub.enc)]])
 f:h Fb=some (.cells 1 64 [[.fn 21 [.own Cb 0 0,.own Db 0 0,.own Fb 0 0]]])
 s:∃ rows:List AV,rows.length=S.length/\h Sb=some (.cells 1 65 (rows.map λv=>[v]))/\∀ (j:Nat) (v:AV),rows[j]?=some v->v = .sc (.map none)\/∃ id E,v = .mp id/\¬ X id/\h id=some (.map (mpL pkV E))/\Cnt E (brk S S.length j)
def c1R1 (S:Ya Sub) (Cb Sb Db Fb:Nat) (X:Nat->Prop) (h:AH) (n j:Nat):K3:=λv h' n'=>
 ∃ id E,v = .mp id/\¬ X id/\h' id=some (.map (mpL pkV E))/\Cnt E (brk S S.length j)/\Memo S Cb Sb Db Fb X h'/\n<=n'/\(∀ q,n'<=q->h' q=none)/\∀ q B,q≠Sb->h q=some B->h' q=some B
def c1Ok (S:Ya Sub) (Cb Sb Db Fb j:Nat):Prop:=∀ (X:Nat->Prop) (h:AH) (n:Nat),(¬ X Cb/\¬ X Sb/\¬ X Db/\¬ X Fb)->(∀ id,X id->id<n)->(∀ q,n<=q->h q=none)->Memo S Cb Sb Db Fb X h->HC Try.prog 21 [.sc (.int .i64 j),.own Cb 0 0,.own Db 0 0,.own Fb 0 0] h n (c1R1 S Cb Sb Db Fb X h n j)
theorem Memo.mono {S:Ya Sub} {Cb Sb Db Fb:Nat} {X a:Nat->Prop} {h:AH} (m:Memo S Cb Sb Db Fb a h) (k:∀ id,X id->a id):Memo S Cb Sb Db Fb X h:=by
 obtain ⟨rows,b,h2,i⟩:=m.s;refine ⟨m.c,m.d,m.f,rows,b,h2,λj v p=>?_⟩;rcases i j v p with e | ⟨id,E,l,g,o⟩
 ·exact .inl e
 ·exact .inr ⟨id,E,l,λt=>g (k id t),o⟩
theorem Memo.keep {S:Ya Sub} {Cb Sb Db Fb:Nat} {X:Nat->Prop} {h h':AH} (m:Memo S Cb Sb Db Fb X h) (a:∀ q B,¬ X q->h q=some B->h' q=some B) (hC:¬ X Cb) (hS:¬ X Sb) (hD:¬ X Db) (hF:¬ X Fb):Memo S Cb Sb Db Fb X h':=by
 obtain ⟨rows,g,h2,i⟩:=m.s;refine ⟨a _ _ hC m.c,a _ _ hD m.d,a _ _ hF m.f,rows,g,a _ _ hS h2,λj v o=>?_⟩;rcases i j v o with e | ⟨id,E,k,b,l,p⟩
 ·exact .inl e
 ·exact .inr ⟨id,E,k,b,a _ _ b l,p⟩
abbrev kdZ:List Nat:=[0,1,2,3,6,26,27]
structure LnI (S:List Sub) (Cb Sb Db Fb g:Nat) (X:Nat->Prop) (h0:AH) (n0:Nat) (env0:Env) (k:Int) (A:List (Int×Int)) (st:St):Prop where
 env:∀ s∈kdZ,lk st.env s=lk env0 s
 idx:lk st.env 28 = .sc (.int .i64 k)
 hg:∃ E,st.h g=some (.map (mpL pkV E))/\Cnt E A
 memo:Memo S Cb Sb Db Fb X st.h
 fr:∀ q B,q≠g->q≠Sb->h0 q=some B->st.h q=some B
 hn:∀ q,st.n<=q->st.h q=none
 le:n0<=st.n
set_option maxHeartbeats 2000000 in
theorem kwF {D:DX} {O:Nat->Prop} {Qx:Exit->St->Prop} {S:Ya Sub} {Cb Sb Db Fb g:Nat} {X:Nat->Prop} (hX:¬ X Cb/\¬ X Sb/\¬ X Db/\¬ X Fb) (hXg:X g) {h0:AH} {n0:Nat} {i:Env} (hXn:∀ id,X id->id<n0) (e3:lk i 3 = .own Fb 0 0) (e6:lk i 6 = .mp g) {ls:Ya Line} (ao:lk i 26 = .sl (ls.map tLine.enc)) {k:Nat} {l:Line} (hl:ls[k]?=some l)
  (ih:0<=l.1->c1Ok S Cb Sb Db Fb l.1.toNat) {A:Ya (Int×Int)} {st:St} (I:LnI S Cb Sb Db Fb g X h0 n0 i k A st) (T:A.length+(lnB S l).length<4611686018427387904)
  (hQ:∀ aa,LnI S Cb Sb Db Fb g X h0 n0 i k (A++lnB S l) aa->Qx .normal aa):SatL Try.prog 79 D O [c1B 1] (kbI 1 Qx) st:=by
 obtain ⟨env,h,n⟩:=st;obtain ⟨E,hg,hc⟩:=I.hg;have f3:lk env 3 = .own Fb 0 0:=(I.env 3 (by decide)).trans e3;have f6:lk env 6 = .mp g:=(I.env 6 (by decide)).trans e6;have f26:lk env 26 = .sl (ls.map tLine.enc):=(I.env 26 (by decide)).trans ao;have f28:lk env 28 = .sc (.int .i64 k):=I.idx;have U:∀ {q:Nat} {B:ABlk},h q=some B->q<n:=λ{q B} a=>by
  rcases jcg q n with C | H
  ·exact C
  ·rw [show h q=none from I.hn q H] at a; cases a
 have ar:=U hg;let x:AH:=updH (updH h n (.cells 7 55 [[.sc (.int .i64 0),.sc (.int .i64 0),.sc (.int .i64 0),.sc (.int .i64 0),.sc (.int .i64 0),.sc (.int .u8 0),.sc (.int .u8 0)]])) n (.cells 7 55 [lnV l])
 have u:x n=some (.cells 7 55 [lnV l]):=kag ..;have hd:∀ j,deref x (.own n 0 j)=some ((lnV l).drop j):=λj=>by simp only [deref,u]; rfl
 show SatL Try.prog 79 D O [.seq (.region 6 (c1R 6).toArray false) (.seq (.seq (.region 7 (c1R 7).toArray false) (.cond (.tmp 34) (.seq (.region 8 (c1R 8).toArray true) (.exit 1)) .skip)) (.seq (.region 9 (c1R 9).toArray false) (.block 2 (c1B 2))))] _ _;have an:(lnV l).length=7:=rfl;refine SatL.seq (SatL.wreg [2,3] (l:=c1R 6) rfl rfl ⟨.fp (tLine.enc l),.idx (e:=55) (c:=tLine.enc l) rfl f26 f28 (by kernel_rfl) (jdr _) (by simp [hl]) (by kernel_rfl) (by rw [show (tLine.enc l).length=7 from rfl]; decide),.ag (tLine.enc l),.loadA (cs:=tLine.enc l) rfl rfl (by kernel_rfl) (by kernel_rfl),
  .own n 0 0,updH h n (.cells 7 55 [[.sc (.int .i64 0),.sc (.int .i64 0),.sc (.int .i64 0),.sc (.int .i64 0),.sc (.int .i64 0),.sc (.int .u8 0),.sc (.int .u8 0)]]),n+1,(λK' W=>aop.alloc (z:=[.sc (.int .i64 0),.sc (.int .i64 0),.sc (.int .i64 0),.sc (.int .i64 0),.sc (.int .i64 0),.sc (.int .u8 0),.sc (.int .u8 0)]) rfl (by kernel_rfl) W),.ud,x,n+1,(λK' W=>aop.storeW (e:=[.sc (.int .i64 0),.sc (.int .i64 0),.sc (.int .i64 0),.sc (.int .i64 0),.sc (.int .i64 0),.sc (.int .u8 0),.sc (.int .u8 0)]) (xs:=lnV l) rfl rfl (kag ..) rfl (by kernel_rfl) rfl (by rw [an]; decide) W),?_⟩)
 refine SatL.seq (SatL.seq (SatL.wreg [] (l:=c1R 7) rfl rfl ⟨.own n 0 0,.fldOwn (d:=0) (ft:=3) rfl (by kernel_rfl) rfl u,.sc (.int .i64 l.1),.load rfl (hd 0) (by kernel_rfl),.sc (.bool (decide (l.1<0))),.bin rfl rfl rfl (λK W=>⟨rfl,W⟩),?_⟩));have k1:∀ {q:Nat} {B:ABlk},h q=some B->x q=some B:=λ{q B} a=>by
  have:=U a;exact kac (by omega) (kac (by omega) a)
 have m1:Memo S Cb Sb Db Fb X x:=I.memo.keep (λq B _ a=>k1 a) hX.1 hX.2.1 hX.2.2.1 hX.2.2.2;have n1:∀ q,n+1<=q->x q=none:=λq a=>kac (by omega) (kac (by omega) (I.hn q (show n<=q by omega)));refine SatL.condX (v:=decide (l.1<0)) rfl (λe=>?_) λe=>SatL.skip ?_
 ·have P:l.1<0:=by simpa using e
  have hB:lnB S l=[(l.2.1,l.2.2.2.2)]:=by unfold lnB; rw [if_pos P]
  refine SatL.seq (c1_r8 (E:=E) (l:=l) (g:=g) (b:=n) f6 rfl u (k1 hg) λM he=>SatL.exit ?_);have ad:∀ s,s=28\/s∈kdZ->lk M s=lk env s:=λs G=>by
   simp only [kdZ,jat,jcj,or_false] at G;refine (he s (by omega)).trans ?_;show lk ((34,_)::(33,_)::(32,_)::(8,_)::(31,_)::(30,_)::env) s=lk env s;simp only [lk];repeat rw [if_neg (by omega)]
  refine hQ _ ⟨λs G=>(ad s (.inr G)).trans (I.env s G),(ad 28 (.inl rfl)).trans I.idx,⟨_,kag ..,?_⟩,m1.keep (λq B a hB=>kac (by rintro rfl; exact a hXg) hB) hX.1 hX.2.1 hX.2.2.1 hX.2.2.2,λq B t w a=>kac t (k1 (I.fr q B t w a)),λq a=>kac (by have:n+1<=q:=a; omega) (n1 q a),Nat.le_succ_of_le I.le⟩;have:=hc.add (l.2.1,l.2.2.2.2) 1 (by omega) (by omega);rw [hB];exact this
 ·have y:0<=l.1:=by
   have:¬ l.1<0:=by simpa using e
   omega
  have hB:lnB S l=(brk S S.length l.1.toNat).map λp=>(p.1,orC p.2 l.2.2.2.2):=by unfold lnB; rw [if_neg (by omega)]
  rw [hB,jas] at T;refine SatL.seq (Sat.region (l:=c1R 9) rfl (show aops Try.prog _ ((c1R 9).take 3++(c1R 9).drop 3) _ _ from ?_));rw [kqO];refine aopsR.plain ⟨.fn 21 [.own Cb 0 0,.own Db 0 0,.own Fb 0 0],.load rfl (show deref x (lk env 3)=_ by rw [f3]; simp only [deref,m1.f]; rfl) (by kernel_rfl),.own n 0 0,.fldOwn (d:=0) (ft:=3) rfl (by kernel_rfl) rfl u,.sc (.int .i64 l.1),.load rfl (hd 0) (by kernel_rfl),?_⟩;have aq:n0<=n:=I.le;have ae:=ih y X x (n+1) hX (λid am=>by have:=hXn id am; omega) n1 m1;rw [jem y] at ae;refine thenA.of (l2:=(c1R 9).drop 3) (st:=⟨_,x,n+1⟩) ?_;refine aops.cons rfl ?_;refine (aop.callF (g:=21) (caps:=[.own Cb 0 0,.own Db 0 0,.own Fb 0 0]) (args:=[.sc (.int .i64 l.1),.own Cb 0 0,.own Db 0 0,.own Fb 0 0]) rfl rfl rfl rfl ae ?_);rintro v h2 n2 ⟨m,E',rfl,hXm,hm,Y,m2,aw,ah,F⟩;have o:∀ {q:Nat} {B:ABlk},h2 q=some B->q<n2:=λ{q B} a=>by
   rcases jcg q n2 with C | H
   ·exact C
   ·rw [ah q H] at a; cases a
  have gS:g≠Sb:=by rintro rfl; exact hX.2.1 hXg
  have nS:n≠Sb:=by
   rintro rfl;obtain ⟨rows,_,hr,_⟩:=I.memo.s;have J:h n=some _:=hr;rw [show h n=none from I.hn n (jai _)] at J;cases J
  have af:=F g _ gS (k1 hg);have ab:=F n _ nS u;have:=o af;have:=o ab;have:=o hm;have ap:=Y.ents.length_eq;refine aops.cons rfl ?_;refine (aop.rangeM (kf:=pkV) (id:=m) (E:=E') (kt:=67) (e:=3) rfl rfl kee hm _ ?_);refine kvq (E:=E) (E':=E') (L:=A) (L':=brk S S.length l.1.toNat) (l:=l) (g:=g) (b:=n) (it:=n2) (m:=m) f6 rfl rfl (kac (by omega) ab) (kac (by omega) af) hc (kac (by omega) hm) Y (by rintro rfl; exact hXm hXg) (kag ..) (λq a=>kac (by omega) (ah q (by omega))) T λau Z ⟨E3,ai,ak⟩ ac aj ax=>?_;refine SatL.nil (hQ _ ⟨λs G=>?_,?_,⟨E3,ai,by rw [hB]; exact ak⟩,m2.keep (λq B a hB=>?_) hX.1 hX.2.1 hX.2.2.1 hX.2.2.2,λq B t w a=>?_,aj,by have:n0<=n:=I.le; omega⟩)
  ·have al:=G;simp only [kdZ,jat,jcj,or_false] at al;refine (Z s (by simp only [khv,jat,jcj,or_false]; omega)).trans (Eq.trans ?_ (I.env s G));show lk ((51,_)::(50,_)::(49,_)::(48,_)::(47,_)::(34,_)::(33,_)::(32,_)::(8,_)::(31,_)::(30,_)::env) s=lk env s;simp only [lk];repeat rw [if_neg (by omega)]
  ·exact (Z 28 (by decide)).trans f28
  ·have:=o hB;exact ac q B (by rintro rfl; exact a hXg) (by omega) (kac (by omega) hB)
  ·have h4:=F q B w (k1 (I.fr q B t w a));have:=o h4;exact ac q B t (by omega) (kac (by omega) h4)
theorem LnI.keep {S:Ya Sub} {Cb Sb Db Fb g:Nat} {X:Nat->Prop} {h0:AH} {n0:Nat} {a:Env} {k:Int} {A:Ya (Int×Int)} {st:St} {env:Env} (I:LnI S Cb Sb Db Fb g X h0 n0 a k A st) {c:Int} (e:∀ s∈kdZ,lk env s=lk st.env s) (f:lk env 28 = .sc (.int .i64 c)):LnI S Cb Sb Db Fb g X h0 n0 a c A ⟨Abs.keep (28::kdZ) env,st.h,st.n⟩:=
 ⟨λs b=>(kaM (jbb _ b)).trans ((e s b).trans (I.env s b)),(kaM (by simp)).trans f,I.hg,I.memo,I.fr,I.hn,I.le⟩
set_option maxHeartbeats 2000000 in
theorem kuL {D:DX} {O:Nat->Prop} {Q:Exit->St->Prop} {cs:Ya Code} {S:Ya Sub} {Cb Sb Db Fb g:Nat} {X:Nat->Prop} (hX:¬ X Cb/\¬ X Sb/\¬ X Db/\¬ X Fb) (hXg:X g) {h0:AH} {n0:Nat} {a:Env} (hXn:∀ id,X id->id<n0) (F:lk a 3 = .own Fb 0 0) (C:lk a 6 = .mp g) {ls:Ya Line} (o:lk a 26 = .sl (ls.map tLine.enc)) (t:lk a 27 = .sc (.int .i64 ls.length)) (y:ls.length<1000000)
  (G:∀ l∈ls,0<=l.1->c1Ok S Cb Sb Db Fb l.1.toNat) (z:LnI S Cb Sb Db Fb g X h0 n0 a 0 [] ⟨a,h0,n0⟩) (J:(ls.flatMap (lnB S)).length<4611686018427387904)
  (j:∀ st,LnI S Cb Sb Db Fb g X h0 n0 a ls.length (ls.flatMap (lnB S)) st->SatL Try.prog 79 D O cs Q st):SatL Try.prog 79 D O (.block 0 (c1B 0)::cs) Q ⟨a,h0,n0⟩:=by
 refine SatL.block (show SatL Try.prog 79 D O [.loop (.seq (.region 5 (c1R 5).toArray false) (.seq (.cond (.tmp 29) .skip (.exit 0)) (.seq (.block 1 (c1B 1)) (.region 13 (c1R 13).toArray false))))] _ _ from ?_);refine SatL.loop (α:=Nat) (28::kdZ) (λk st=>k<=ls.length/\LnI S Cb Sb Db Fb g X h0 n0 a k ((ls.take k).flatMap (lnB S)) st) (λk=>ls.length-k) 0 ⟨jel _,z.keep (λs _=>rfl) z.idx⟩ λk st hI=>?_;obtain ⟨A,I⟩:=hI;obtain ⟨env,h,n⟩:=st;have f27:lk env 27 = .sc (.int .i64 ls.length):=(I.env 27 (by decide)).trans t;have f28:lk env 28 = .sc (.int .i64 k):=I.idx;refine SatL.seq (SatL.wreg [] (l:=c1R 5) rfl rfl ⟨.sc (.bool (decide ((k:Int)<ls.length))),.bin rfl f28 f27 (λK j=>⟨rfl,j⟩),?_⟩);refine SatL.seq (SatL.condX (v:=decide ((k:Int)<ls.length)) rfl (λe=>SatL.skip ?_) λe=>SatL.exit ?_)
 ·have f:k<ls.length:=by
   have:(k:Int)<ls.length:=by simpa using e
   omega
  have hl:ls[k]?=some ls[k]:=jab f;have w:(ls.take (k+1)).flatMap (lnB S)=(ls.take k).flatMap (lnB S)++lnB S ls[k]:=by
   rw [List.take_add_one,hl,jen];simp
  have H:((ls.take k).flatMap (lnB S)).length+(lnB S ls[k]).length<=(ls.flatMap (lnB S)).length:=by
   rw [<-jau,<-w]
   conv=>rhs; rw [<-List.take_append_drop (k+1) ls]
   rw [jen,jau];omega
  have B:LnI S Cb Sb Db Fb g X h0 n0 a k ((ls.take k).flatMap (lnB S)) ⟨(29,.sc (.bool (decide ((k:Int)<ls.length))))::env,h,n⟩:=⟨λs i=>by
   have b:=i;simp only [kdZ,jat,jcj,or_false] at b;refine Eq.trans ?_ (I.env s i);show lk ((29,_)::env) s=lk env s;simp only [lk];rw [if_neg (by omega)],f28,I.hg,I.memo,I.fr,I.hn,I.le⟩
  refine SatL.seq (SatL.block (kwF hX hXg hXn F C o hl (G _ (jct f)) B (by omega) λp x=>?_));obtain ⟨c,h',n'⟩:=p;have u:lk c 28 = .sc (.int .i64 k):=x.idx;have E:w64 ((k:Int)+1)=((k+1:Nat):Int):=by rw [khB (by omega) (by omega)]; rfl
  refine (SatL.wreg [] (l:=c1R 13) rfl rfl ⟨.sc (.int .i64 (w64 (k+1))),.bin rfl u rfl (λK j=>⟨rfl,j⟩),.sc (.int .i64 (w64 (k+1))),.move rfl rfl,SatL.nil (P:=Try.prog) (N:=79) (D:=D) (O:=O) ⟨k+1,⟨f,?_⟩,by omega⟩⟩);rw [w];refine x.keep (λs i=>?_) (by rw [<-E]; rfl);have b:=i;simp only [kdZ,jat,jcj,or_false] at b;show lk ((28,_)::(73,_)::c) s=lk c s;simp only [lk];rw [if_neg (by omega),if_neg (by omega)]
 ·have m:k=ls.length:=by
   have:¬ (k:Int)<ls.length:=by simpa using e
   omega
  subst m;rw [List.take_length] at I;refine j _ ⟨λs i=>?_,f28,I.hg,I.memo,I.fr,I.hn,I.le⟩;have b:=i;simp only [kdZ,jat,jcj,or_false] at b;refine Eq.trans ?_ (I.env s i);show lk ((29,_)::env) s=lk env s;simp only [lk];rw [if_neg (by omega)]
theorem und65:∃ k e,Try.prog.underlying 65=some (.map k e):=⟨67,3,by kernel_rfl⟩
set_option maxHeartbeats 2000000 in
theorem c1_ok {S:Ya Sub} (K:WfS S) {Cb Sb Db Fb:Nat} (x:∀ s∈S,s.2.length<1000000) (hS:S.length<1000000) (G:∀ i,(brk S S.length i).length<4611686018427387904):∀ (f j:Nat),S.length-j<=f->j<S.length->c1Ok S Cb Sb Db Fb j
 | 0,j,z,h2=>by omega
 | f+1,j,z,h2=>by
  intro X h n hX hXn hn M;refine HC.of_body (c:=.seq (.region 0 (c1R 0).toArray false) (.seq (.seq (.region 1 (c1R 1).toArray false) (.cond (.tmp 15) (.seq (.region 2 (c1R 2).toArray false) .ret) .skip)) (.seq (.region 3 (c1R 3).toArray false) (.seq (.seq (.region 4 (c1R 4).toArray false) (.block 0 (c1B 0))) (.seq (.region 14 (c1R 14).toArray false) (.seq (.region 15 (c1R 15).toArray false) .ret)))))) Try.func21 (by kernel_rfl) (by kernel_rfl) (by show 4<=79; omega) λD O hD=>Sat.ofL (N:=79) ?_;obtain ⟨rows,W,u,J⟩:=M.s;obtain ⟨v,w⟩:∃ v,rows[j]?=some v:=⟨rows[j]'(by omega),jab _⟩;obtain ⟨_,_,hu⟩:=und65;have hdC:deref h (.own Cb 0 0)=some [.ms Sb 0 S.length]:=by simp only [deref,M.c]; rfl
  have hdS:deref h (.own Sb j 0)=some [v]:=by simp only [deref,u,jaq,w]; rfl
  refine SatL.seq (SatL.wreg [] (l:=c1R 0) rfl rfl ⟨.sc (.map none),.assign rfl rfl,?_⟩);rcases J j v w with rfl | ⟨id,E,rfl,hXi,hE,T⟩
  ·refine SatL.seq (SatL.seq (SatL.wreg [] (l:=c1R 1) rfl rfl ⟨.ms Sb 0 S.length,.load rfl hdC (by kernel_rfl),.sc (.int .i64 j),.move rfl rfl,.own Sb j 0,.idxMs (e:=65) rfl rfl rfl (by kernel_rfl) u h2 (by kernel_rfl) (by decide),.sc (.map none),.load rfl hdS (by kernel_rfl),.sc (.bool false),.cmpM rfl rfl rfl (kve hu) (.inl rfl),?_⟩));refine SatL.condF (v:=false) rfl rfl (SatL.skip ?_);have p:∀ {q:Nat} {B:ABlk},h q=some B->q<n:=λ{q B} o=>by
    rcases jcg q n with aa | ad
    ·exact aa
    ·rw [hn q ad] at o; cases o
   let z:AH:=updH h n (.map (mpL pkV []))
   let C:Nat->Prop:=λq=>X q\/q=n
   have k1:∀ {q:Nat} {B:ABlk},h q=some B->z q=some B:=λ{q B} o=>by
    have:=p o;exact kac (by omega) o
   have hX':¬ C Cb/\¬ C Sb/\¬ C Db/\¬ C Fb:=by
    have:=p M.c; have:=p M.d; have:=p M.f; have:=p u;exact ⟨λe=>e.elim hX.1 (by omega),λe=>e.elim hX.2.1 (by omega),λe=>e.elim hX.2.2.1 (by omega),λe=>e.elim hX.2.2.2 (by omega)⟩
   have M':Memo S Cb Sb Db Fb C z:=⟨k1 M.c,k1 M.d,k1 M.f,rows,W,k1 u,λj v w=>by
    rcases J j v w with e | ⟨id,E,Y,e2,L,e4⟩
    ·exact .inl e
    ·exact .inr ⟨id,E,Y,λe=>e.elim e2 (by have:=p L; omega),k1 L,e4⟩⟩
   obtain ⟨s,A⟩:∃ s,S[j]?=some s:=⟨S[j],jab h2⟩;have U:=jaf A;have hdD:deref z (.own Db 0 0)=some [.sl (S.map tSub.enc)]:=by simp only [deref,k1 M.d]; rfl
   have go:∀ k:Env,lk k 3 = .own Fb 0 0->lk k 6 = .mp n->lk k 26 = .sl (s.2.map tLine.enc)->lk k 27 = .sc (.int .i64 (s.2.map tLine.enc).length)->lk k 28 = .sc (.int .i64 0)->lk k 0 = .sc (.int .i64 j)->lk k 1 = .own Cb 0 0->
     SatL Try.prog 79 D O [.block 0 (c1B 0),.seq (.region 14 (c1R 14).toArray false) (.seq (.region 15 (c1R 15).toArray false) .ret)] (fnQ Try.prog Try.f21.results.toList (c1R1 S Cb Sb Db Fb X h n j)) ⟨k,z,n+1⟩:=by
    intro k g3 g6 ae ab Z g0 g1;refine kuL (S:=S) (Cb:=Cb) (Sb:=Sb) (Db:=Db) (Fb:=Fb) (g:=n) (X:=C) (ls:=s.2) hX' (.inr rfl) (h0:=z) (n0:=n+1) (λid e=>e.elim (λe=>jdu (hXn id e)) (by omega)) g3 g6 ae (by rw [ab,jas]) (x s U) (λl hl h0=>?_) ⟨λ_ _=>rfl,Z,⟨[],kag ..,Cnt.nil⟩,M',λq B _ _ o=>o,λq o=>kac (by have:n+1<=q:=o; omega) (hn q (by have:n+1<=q:=o; omega)),jai _⟩ (by rw [<-kpZ K A]; exact G j) λst I=>?_
    ·rcases K j s A l hl with h | ⟨F,h4⟩
     ·omega
     ·exact c1_ok K x hS G f l.1.toNat (by omega) (by omega)
    obtain ⟨t,F,n3⟩:=st;obtain ⟨E,hg,T⟩:=I.hg;have q0:lk t 0 = .sc (.int .i64 j):=(I.env 0 (by decide)).trans g0;have q1:lk t 1 = .own Cb 0 0:=(I.env 1 (by decide)).trans g1;have q6:lk t 6 = .mp n:=(I.env 6 (by decide)).trans g6;obtain ⟨m,s1,y,s3⟩:=I.memo.s;obtain ⟨v2,ac⟩:∃ v,m[j]?=some v:=⟨m[j]'(by omega),jab _⟩;have af:(m.map λv=>[v])[j]?=some [v2]:=by rw [jaq,ac]; rfl
    have hC3:deref F (.own Cb 0 0)=some [.ms Sb 0 S.length]:=by simp only [deref,show F Cb=_ from I.memo.c]; rfl
    have hXn':¬ X n:=λe=>Nat.lt_irrefl n (hXn n e);have hnS:n≠Sb:=λe=>hX'.2.1 (.inr e.symm);have hCS:Cb≠Sb:=by rintro rfl; have:=I.memo.c.symm.trans y; cases this
    have hDS:Db≠Sb:=by rintro rfl; have:=I.memo.d.symm.trans y; cases this
    have hFS:Fb≠Sb:=by rintro rfl; have:=I.memo.f.symm.trans y; cases this
    refine SatL.seq (SatL.wreg [4] (l:=c1R 14) rfl rfl ⟨.ms Sb 0 S.length,.load rfl (show deref F (lk t 1)=_ by rw [q1]; exact hC3) (by kernel_rfl),.sc (.int .i64 j),.move rfl q0,.mp n,.move rfl q6,.own Sb j 0,.idxMs (e:=65) rfl rfl rfl (by kernel_rfl) y h2 (by kernel_rfl) (by decide),.ud,updH F Sb (.cells 1 65 ((m.map λv=>[v]).set j [.mp n])),n3,(λK' hk=>aop.storeRow (a:=v2) (b:=.mp n) rfl rfl y af rfl (by kernel_rfl) hk),?_⟩);refine SatL.seq (SatL.wreg [] (l:=c1R 15) rfl rfl ⟨.mp n,.move rfl q6,.mp n,.assign rfl rfl,SatL.ret (P:=Try.prog) (N:=79) (D:=D) (O:=O) ⟨.mp n,rfl,n,E,rfl,hXn',kac hnS hg,by rw [kpZ K A]; exact T,⟨kac hCS I.memo.c,kac hDS I.memo.d,kac hFS I.memo.f,m.set j (.mp n),by simpa using s1,?_,λi v w=>?_⟩,jck (jbs n) I.le,λq o=>kac (by rintro rfl; rw [I.hn _ o] at y; cases y) (I.hn q o),λq B o hB=>kac o (I.fr q B (by have:=p hB; omega) o (k1 hB))⟩⟩)
    ·rw [jee]; exact kag ..
    ·by_cases H:i=j
     ·subst H;rw [jam (by omega)] at w;cases w;exact .inr ⟨n,E,rfl,hXn',kac hnS hg,by rw [kpZ K A]; exact T⟩
     ·rw [jan (λe=>H e.symm)] at w;rcases s3 i v w with e | ⟨id,E',Y,e2,L,e4⟩
      ·exact .inl e
      ·exact .inr ⟨id,E',Y,λe=>e2 (.inl e),kac (by rintro rfl; have:=L.symm.trans y; cases this) L,e4⟩
   refine SatL.seq (SatL.wreg [0] (l:=c1R 3) rfl rfl ⟨.mp n,z,n+1,aop.makeMapM rfl,.mp n,.assign rfl rfl,?_⟩);refine SatL.seq (SatL.seq (SatL.wreg [] (l:=c1R 4) rfl rfl ⟨.own Db 0 0,.fldOwn (d:=0) (ft:=22) rfl (by kernel_rfl) rfl (k1 M.d),.sl (S.map tSub.enc),.load rfl hdD (by kernel_rfl),.sc (.int .i64 j),.move rfl rfl,.fp (tSub.enc s),.idx (e:=43) (c:=tSub.enc s) rfl rfl rfl (by kernel_rfl) (jdr _) (by simp [A]) (by kernel_rfl) (by simp [Ty.enc]),.fp ((tSub.enc s).drop 1),.fldFp (d:=1) (ft:=41) rfl (by kernel_rfl) rfl,.sl (s.2.map tLine.enc),.load rfl rfl (by kernel_rfl),.sc (.int .i64 (s.2.map tLine.enc).length),.len rfl rfl rfl rfl rfl (by kernel_rfl),.sc (.int .i64 0),.move rfl rfl,go _ rfl rfl rfl rfl rfl rfl rfl⟩))
  ·refine SatL.seq (SatL.seq (SatL.wreg [] (l:=c1R 1) rfl rfl ⟨.ms Sb 0 S.length,.load rfl hdC (by kernel_rfl),.sc (.int .i64 j),.move rfl rfl,.own Sb j 0,.idxMs (e:=65) rfl rfl rfl (by kernel_rfl) u h2 (by kernel_rfl) (by decide),.mp id,.load rfl hdS (by kernel_rfl),.sc (.bool true),.cmpM rfl rfl rfl (kvN hu hE) (.inr ⟨_,rfl⟩),?_⟩));refine SatL.condT (v:=true) rfl rfl ?_;refine SatL.seq (SatL.wreg [] (l:=c1R 2) rfl rfl ⟨.ms Sb 0 S.length,.load rfl hdC (by kernel_rfl),.sc (.int .i64 j),.move rfl rfl,.own Sb j 0,.idxMs (e:=65) rfl rfl rfl (by kernel_rfl) u h2 (by kernel_rfl) (by decide),.mp id,.load rfl hdS (by kernel_rfl),.mp id,.assign rfl rfl,?_⟩);exact SatL.ret ⟨.mp id,rfl,id,E,rfl,hXi,hE,T,M,jai _,hn,λq B _ o=>o⟩
theorem kfi {a b:Int×Int}:kLt a b=true↔a.1<b.1\/(a.1=b.1/\a.2<b.2):=by simp [kLt]
theorem mem_insK {p x:Int×Int}:∀ {l:Ya (Int×Int)},x∈insK p l↔x=p\/x∈l
 | []=>by simp [insK]
 | q::r=>by
  simp only [insK];split
  ·simp
  ·split
   ·rename_i h; subst h; simp
   ·simp only [jat,mem_insK (l:=r)];constructor
    ·rintro (h | h | h)
     ·exact .inr (.inl h)
     ·exact .inl h
     ·exact .inr (.inr h)
    ·rintro (h | h | h)
     ·exact .inr (.inl h)
     ·exact .inl h
     ·exact .inr (.inr h)
theorem kpE {x:Int×Int}:∀ {L:Ya (Int×Int)},x∈setK L↔x∈L
 | []=>by simp [setK]
 | p::r=>by
  show x∈insK p (setK r)↔_;rw [mem_insK,kpE (L:=r),jat]
theorem kjK {a b c:Int×Int} (e:kLt a b=true) (h2:kLt b c=true):kLt a c=true:=by
 rw [kfi] at *; omega
theorem kro {a b:Int×Int} (h:kLt a b=false) (c:a≠b):kLt b a=true:=by
 have h':¬ (a.1<b.1\/(a.1=b.1/\a.2<b.2)):=by rw [<-kfi]; simp [h]
 rw [kfi];have:a.1≠b.1\/a.2≠b.2:=by
  by_cases e:a.1=b.1
  ·exact .inr λh2=>c (Prod.ext e h2)
  ·exact .inl e
 omega
theorem klh {p:Int×Int}:∀ {l:Ya (Int×Int)},l.Pairwise (λa b=>kLt a b=true)->(insK p l).Pairwise (λa b=>kLt a b=true)
 | [],_=>by simp [insK]
 | q::r,h=>by
  obtain ⟨f,h2⟩:=List.pairwise_cons.1 h;simp only [insK];split
  ·rename_i hp;refine List.pairwise_cons.2 ⟨λx c=>?_,h⟩;rcases jat.1 c with rfl | c
   ·exact hp
   ·exact kjK hp (f x c)
  ·rename_i hp;split
   ·exact h
   ·rename_i e;refine List.pairwise_cons.2 ⟨λx c=>?_,klh h2⟩;rcases mem_insK.1 c with rfl | c
    ·exact kro (by simpa using hp) e
    ·exact f x c
theorem khQ:∀ (L:Ya (Int×Int)),(setK L).Pairwise (λa b=>kLt a b=true)
 | []=>List.Pairwise.nil
 | p::r=>klh (khQ r)
theorem knv (a:Int×Int):kLt a a=false:=by
 cases h:kLt a a with
 | false=>rfl
 | true=>rw [kfi] at h; omega
theorem kto (L:Ya (Int×Int)):(setK L).Nodup:=(khQ L).imp λ{a b} h e=>by subst e; rw [knv] at h; cases h
def kdl (e:(Int×Int)×Int):ItemT:=(e.1.1,e.1.2,e.2)
theorem Cnt.items {E:Ya ((Int×Int)×Int)} {L:Ya (Int×Int)} (h:Cnt E L):(E.map kdl).Perm (kba L):=by
 have b:(E.map (·.1)).Perm (setK L):=(List.perm_ext_iff_of_nodup h.nd (kto L)).2 λp=>by
  rw [kpE];by_cases hp:p∈L
  ·refine ⟨λ_=>hp,λ_=>?_⟩;have:=h.get p;rw [if_neg (show ¬ cntK L p=0 by have:0<cntK L p:=(@List.count_pos_iff _ instBEqOfDecidableEq inferInstance _ _).2 hp; omega)] at this;apply Decidable.byContradiction;intro hn;rw [mget_none.2 hn] at this; cases this
  ·refine ⟨λhm=>?_,λh=>absurd h hp⟩;have:=h.get p;rw [if_pos (show cntK L p=0 from (@List.count_eq_zero _ instBEqOfDecidableEq inferInstance _ _).2 hp)] at this;exact absurd hm (mget_none.1 this)
 have a:E.map kdl=(E.map (·.1)).map λp=>(p.1,p.2,(cntK L p:Int)):=by
  rw [List.map_map];refine List.map_congr_left λe a=>?_;have c:=klS h.nd (show (e.1,e.2)∈E from a);have h2:=h.getD e.1;rw [c] at h2;simp only [jbw] at h2;simp [kdl,h2]
 rw [a];exact b.map _
theorem kkw {a b:ItemT}:itCmp a b<0↔kLt (a.1,a.2.1) (b.1,b.2.1)=true:=by
 rw [kfi]; unfold itCmp;split
 ·simp; omega
 ·split
  ·simp; omega
  ·split
   ·simp; omega
   ·split <;> simp <;> omega
theorem krT {d:Ya ItemT} {L:Ya (Int×Int)} (hp:d.Perm (kba L)) (k:d.Pairwise λa b=>¬ itCmp b a<0):d=kba L:=by
 have j:∀ a∈kba L,∀ b∈kba L,(a.1,a.2.1)=(b.1,b.2.1)->a=b:=λa g b f e=>by
  obtain ⟨p,_,rfl⟩:=jaz.1 g;obtain ⟨q,_,rfl⟩:=jaz.1 f;have:p=q:=e;rw [this]
 refine hp.eq_of_pairwise (le:=λa b=>¬ itCmp b a<0) (λa b g f i h2=>?_) k ?_
 ·apply j a (hp.mem_iff.1 g) b f;rw [kkw] at i h2;apply Decidable.byContradiction;intro c;exact h2 (kro (by simpa using i) (Ne.symm c))
 ·unfold kba;rw [List.pairwise_map];refine (khQ L).imp λ{a b} h=>?_;rw [kkw];intro h';have:=kjK h h';rw [knv] at this; cases this
theorem orI (a b:Int):kbC [a,b]=some (if a=0 then b else a):=by
 have key:∀ z:Int⊕Unit,itN (kbd [a,b]) 3 0=some z->iter (kbd [a,b]) 0=some z:=λz h=>kdq h (by decide);unfold kbC;by_cases c:a=0
 ·by_cases e:b=0
  ·rw [key (.inr ()) (by subst c; subst e; decide)];simp [c,e]
  ·rw [key (.inl b) (by simp [itN,kbd,gi,lenI,c,e,w64,IntKind.wrap,IntKind.bits,IntKind.signed])];simp [c]
 ·rw [key (.inl a) (by simp [itN,kbd,gi,lenI,c])];simp [c]
theorem c2_eq (x y:ItemT):kgl x y=some (itCmp x y):=by
 simp only [kgl,kfb,kfb,kem,kem,jag,bne_self_eq_false,jak,if_false,jaj,orI];unfold itCmp;split
 ·split <;> (try split) <;> simp
 ·split
  ·split <;> (try split) <;> simp
  ·split
   ·simp
   ·split <;> simp
theorem itSWO:SWO (ltOf itCmp):=by
 have e:∀ x y:ItemT,ltOf itCmp x y=kLt (x.1,x.2.1) (y.1,y.2.1):=λx y=>by
  rw [Bool.eq_iff_iff,<-kkw]; simp [ltOf]
 refine ⟨λx=>?_,λx y z a h2=>?_,λx y z a h2=>?_⟩
 ·rw [e]; exact knv _
 ·rw [e] at *; exact kjK a h2
 ·rw [e] at *
  cases h:kLt (x.1,x.2.1) (z.1,z.2.1) with
  | false=>rfl
  | true=>
   rw [<-jcr,kfi] at a h2;rw [kfi] at h;simp only at h a h2;omega
def itE (x:ItemT):Ya Ye:=[.int .i64 x.1,.int .u8 x.2.1,.int .i64 x.2.2]
@[reducible] def tItm:Ty:=.pr (.i .i64) (.pr (.i .u8) (.i .i64))
theorem c2_PC (x y:ItemT):PC Try.prog 24 [.ag ((itE x).map .sc),.ag ((itE y).map .sc)] (·= .sc (.int .i64 (itCmp x y))):=
 text_Count_c2_C_ok.2.1 (x,y) (itCmp x y) (c2_eq x y) _ ⟨_,_,rfl,(kaZ rfl).2 rfl,_,rfl,(kaZ rfl).2 rfl⟩
theorem sortP:∃ fn:Func,Try.prog.funcs[(23:Nat)]?=some fn/\fn.body.isSome=true/\(fn.name== "runtime.NumGoroutine")=false:=⟨_,Try.func23,by kernel_rfl,by kernel_rfl⟩
theorem kwj {d:Ya ItemT} (f:d.length<=1000000) {h:AH} {n id:Nat} (j:h id=some (.cells 3 70 (d.map tItm.enc))) :
  HC Try.prog 23 [.ms id 0 d.length,.fn 24 []] h n (λv h' n'=>v = .tp []/\n'=n/\∃ c:Ya ItemT,c.Perm d/\c.Pairwise (λa b=>¬ itCmp b a<0)/\h'=updH h id (.cells 3 70 (c.map tItm.enc))):=by
 refine (HC.sortFunc Try.sortL (k:=3) (T:=70) (enc:=itE) (λw=>?_) (λw=>?_) (λx=>rfl) (λx v e=>?_) itSWO c2_PC f j rfl sortP).mono ?_
 ·exact Try.isAgg70 w
 ·exact Try.sizeOf70 w
 ·simp [itE] at e;rcases e with rfl | rfl | rfl <;> rfl
 ·rintro v h' n' ⟨l,i,c,m,o,g⟩;refine ⟨l,i,c,m,o.imp λ{a b} h=>?_,g⟩;simpa [ltOf] using h
noncomputable def f7R (id:Nat):Ya Oper:=((Try.f7.body.bind (kiE id)).getD [])
abbrev MapE:=List ((Int×Int)×Int)
def metI (E:MapE) (seen:Ya Nat):Ya ItemT:=seen.flatMap (pickE (λe=>[kdl e]) E)
theorem kva {E:MapE} {seen:Ya Nat} {i:Nat} {p:(Int×Int)×Int} (hp:E[i]?=some p):metI E (seen++[i])=metI E seen++[kdl p]:=by
 unfold metI; rw [jen]; simp [pickE,hp]
theorem kvA {E:MapE} {seen:Ya Nat} (hn:seen.Nodup) (hl:∀ i∈seen,i<E.length) (b:∀ i,i<E.length->i∈seen):(metI E seen).Perm (E.map kdl):=by
 have c:(metI E seen).Perm (metI E (List.range E.length)):=(kmW hn hl b).flatMap_right _;refine c.trans ?_;have:=kgj (λe:(Int×Int)×Int=>[kdl e]) E 0;rw [<-jeg] at this;simp only [Nat.sub_zero] at this;unfold metI;rw [this];have key:∀ E:MapE,E.flatMap (λe=>[kdl e])=E.map kdl:=λE=>by
  induction E with
  | nil=>rfl
  | cons e E a=>rw [jcv,a]; rfl
 rw [key]
theorem kpH {E:MapE}:∀ {seen:Ya Nat},(∀ i∈seen,i<E.length)->(metI E seen).length=seen.length
 | [],_=>rfl
 | i::r,h=>by
  have:=kpH (E:=E) (seen:=r) λj a=>h j (by simp [a]);unfold metI at this ⊢;rw [jcv,jau,this];have b:=h i (by simp);simp [pickE,jab b]; omega
def ItAt (h:AH) (v:AV) (d:Ya ItemT) (m it:Nat):Prop:=(d=[]/\v=nilS)\/∃ id,id≠m/\id≠it/\v = .ms id 0 d.length/\h id=some (.cells 3 70 (d.map tItm.enc))
structure CtI (E:MapE) (it m:Nat) (seen:List Nat) (st:St):Prop where
 nd:seen.Nodup
 lt:∀ i∈seen,i<E.length
 e22:lk st.env 22 = .own it 0 0
 e7:ItAt st.h (lk st.env 7) (metI E seen) m it
 hit:st.h it=some (.mi m E.length seen)
 hm:st.h m=some (.map (mpL pkV E))
 hn:∀ q,st.n<=q->st.h q=none
theorem ItAt.app {h:AH} {n m it:Nat} {v:AV} {d:Ya ItemT} (A:ItAt h v d m it) (hn:∀ q,n<=q->h q=none) (hm:m<n) (hit:it<n) (hl:d.length<1000000) (x:ItemT):∃ a:AH,(∀ (env:Env) (o:Oper) (c:Call) (s y:Yf),o.op = .call c->c.callee = .builtin .append->c.args = #[s,y]->c.argTypes = #[34,34]->ev env s=v->ev env y = .sl [tItm.enc x]->∀ K:K3,K (.ms n 0 (d.length+1)) a (n+1)->aop Try.prog env h n o K)/\
  ItAt a (.ms n 0 (d.length+1)) (d++[x]) m it/\a m=h m/\a it=h it/\∀ q,n+1<=q->a q=none:=by
 have hp:kfS Try.prog 34=true:=by kernel_rfl
 have u:elemO Try.prog 34=some 70:=by kernel_rfl
 have hz:zeroO Try.prog 70=some [.sc (.int .i64 0),.sc (.int .u8 0),.sc (.int .i64 0)]:=by kernel_rfl
 have t:Try.prog.bytesOf 70<=1024:=of_decide_eq_true (by kernel_rfl);rcases A with ⟨rfl,rfl⟩ | ⟨id,C,w,rfl,B⟩
 ·refine ⟨updH h n (.cells 3 70 [tItm.enc x]),λenv o c s y i p l g k j K f=>?_,.inr ⟨n,by omega,by omega,rfl,kag ..⟩,kac (by omega) rfl,kac (by omega) rfl,λq z=>kac (by omega) (hn q (by omega))⟩;unfold aop; rw [i]; simp only; rw [p,l,g];show kaL Try.prog h n 34 34 (ev env s) (ev env y) K;rw [k,j];refine ⟨hp,?_⟩;simp only [u,hz];exact ⟨by simp,t,⟨by simp,(λe=>by cases e),λ_=>f⟩⟩
 ·refine ⟨updH (delH h id) n (.cells 3 70 ((d++[x]).map tItm.enc)),λenv o c s y i p l g k j K f=>?_,.inr ⟨n,by omega,by omega,by simp,kag ..⟩,kac (by omega) (by unfold delH; rw [if_neg (Ne.symm C)]),kac (by omega) (by unfold delH; rw [if_neg (Ne.symm w)]),λq z=>kac (by omega) (by unfold delH; split; exact rfl; exact hn q (by omega))⟩;unfold aop; rw [i]; simp only; rw [p,l,g];show kaL Try.prog h n 34 34 (ev env s) (ev env y) K;rw [k,j];refine ⟨hp,?_⟩;simp only [u,hz];refine ⟨by simp,t,?_⟩;have b:srcA h 3 (.sl [tItm.enc x])=some [tItm.enc x]:=rfl;show (match srcA h 3 (.sl [tItm.enc x]) with | none=>False | some xs=>_);rw [b];simp only [B];refine ⟨rfl,trivial,by simp,by simp; omega,?_⟩;rw [jcn] at f;exact f
set_option maxHeartbeats 2000000 in
theorem kvJ {D:DX} {O:Nat->Prop} {Q:Exit->St->Prop} {cs:Ya Code} {env:Env} {h:AH} {n it m:Nat} {E:MapE} (hE:E.length<=1000000) (u:lk env 22 = .own it 0 0) (W:lk env 7=nilS) (hit:h it=some (.mi m E.length [])) (hm:h m=some (.map (mpL pkV E))) (hn:∀ q,n<=q->h q=none)
  (y:∀ st d,d.Perm (E.map kdl)->ItAt st.h (lk st.env 7) d m it->SatL Try.prog 40 D O cs Q st) :
  SatL Try.prog 40 D O (.block 0 (.loop (.seq (.region 9 (f7R 9).toArray false) (.seq (.cond (.tmp 24) .skip (.exit 0)) (.block 1 (.seq (.region 10 (f7R 10).toArray false) (.region 11 (f7R 11).toArray false))))))::cs) Q ⟨env,h,n⟩:=by
 have o:m≠it:=by rintro rfl; rw [hm] at hit; cases hit
 refine SatL.block (SatL.loop (α:=Ya Nat) [7,22] (CtI E it m) (λseen=>E.length-seen.length) [] ?_ λseen st I=>?_)
 ·exact ⟨List.nodup_nil,(λi M=>by cases M),(kaM (by simp)).trans u,by rw [kaM (by simp),W]; exact .inl ⟨rfl,rfl⟩,hit,hm,hn⟩
 obtain ⟨f,G,n1⟩:=st;have t:∀ {q:Nat} {B:ABlk},G q=some B->q<n1:=λ{q B} U=>by
  rcases jcg q n1 with g | T
  ·exact g
  ·rw [show G q=none from I.hn q T] at U; cases U
 have lm:=t I.hm;have li:=t I.hit;have L:G m=_:=I.hm;have i1:G it=_:=I.hit;refine SatL.seq (Sat.region (l:=f7R 9) rfl (aops.cons rfl (aop.nextM (kf:=pkV) (E:=E) (id:=m) rfl I.e22 i1 L (λi p hp Y=>?_) λA=>?_)))
 ·refine aops.cons rfl (pu.extract rfl rfl rfl _ _ _ ?_);obtain ⟨⟨k,c⟩,v⟩:=p;have aa:=kpH (E:=E) I.lt;have H:(seen++[i]).Nodup:=by
   rw [jek];exact ⟨I.nd,by simp,λa ha b hb e=>by simp at hb; subst hb; subst e; exact Y ha⟩
  have g:∀ j∈seen++[i],j<E.length:=λj w=>by
   rcases jbc.1 w with w | w
   ·exact I.lt j w
   ·simp at w; subst w; exact (jac.1 hp).1
  have x:=kku H g;rw [jau,jdp] at x;rw [show cst (pkV ((k,c),v).1)=_ from kmz k c];let H2:AH:=updH G it (.mi m E.length (seen++[i]))
  let H3:AH:=updH H2 n1 (.cells 2 67 [[.sc (.int .i64 0),.sc (.int .u8 0)]])
  let s:AH:=updH H3 n1 (.cells 2 67 [[.sc (.int .i64 k),.sc (.int .u8 c)]])
  have A4:ItAt s (lk f 7) (metI E seen) m it:=by
   rcases I.e7 with h | ⟨id,g1,g2,g3,g4⟩
   ·exact .inl h
   ·have:=t g4;exact .inr ⟨id,g1,g2,g3,kac (by omega) (kac (by omega) (kac g2 g4))⟩
  have n4:∀ q,n1+1<=q->s q=none:=λq U=>kac (by omega) (kac (by omega) (kac (by omega) (I.hn q (show n1<=q by omega))));have m4:s m=some (.map (mpL pkV E)):=kac (by omega) (kac (by omega) (kac o L));have i4:s it=some (.mi m E.length (seen++[i])):=kac (by omega) (kac (by omega) (kag ..));have Z:s n1=some (.cells 2 67 [[.sc (.int .i64 k),.sc (.int .u8 c)]]):=kag ..;have C:∀ j,deref s (.own n1 0 j)=some ([AV.sc (.int .i64 k),.sc (.int .u8 c)].drop j):=λj=>by simp only [deref,Z]; rfl
  have J:H2 m=some (.map (mpL pkV E)):=kac o L;obtain ⟨h5,F,A5,m5,i5,n5⟩:=A4.app n4 (by omega) (by omega) (by omega) (kdl ((k,c),v));have go:∀ (Qx:Exit->St->Prop) env,(∀ s',CtI E it m (seen++[i]) ⟨keep [7,22] s'.env,s'.h,s'.n⟩->Qx .normal s')->lk env 8 = .own n1 0 0->lk env 9 = .sc (.int .i64 v)->lk env 7=lk f 7->lk env 22 = .own it 0 0->SatL Try.prog 40 D O [.region 11 (f7R 11).toArray false] (kbI 1 Qx) ⟨env,s,n1+1⟩:=by
   intro Qx env hQ h8 h9 W u;refine SatL.wreg [8] (l:=f7R 11) rfl rfl ⟨lk f 7,.move rfl W,.own n1 0 0,.fldOwn (d:=0) (ft:=3) rfl (by kernel_rfl) h8 Z,.sc (.int .i64 k),.load rfl (C 0) (by kernel_rfl),.own n1 0 1,.fldOwn (d:=1) (ft:=5) rfl (by kernel_rfl) h8 Z,.sc (.int .u8 c),.load rfl (C 1) (by kernel_rfl),.sc (.int .i64 v),.move rfl h9,
    .ag [.sc (.int .i64 k),.sc (.int .u8 c),.sc (.int .i64 v)],λn K y=>pu.build (z:=[.sc (.int .i64 0),.sc (.int .u8 0),.sc (.int .i64 0)]) (pl:=[(0,1),(1,1),(2,1)]) rfl (by kernel_rfl) (by kernel_rfl) rfl _ _ _ y,.sl [tItm.enc (kdl ((k,c),v))],λn K y=>pu.buildSl (e:=70) (z:=[.sc (.int .i64 0),.sc (.int .u8 0),.sc (.int .i64 0)]) rfl (by kernel_rfl) (by kernel_rfl) (by decide) (by decide) rfl _ _ _ y,
    .ms (n1+1) 0 ((metI E seen).length+1),h5,n1+2,F _ _ _ _ _ rfl rfl rfl rfl rfl rfl,.ms (n1+1) 0 ((metI E seen).length+1),.assign rfl rfl,SatL.nil (P:=Try.prog) (N:=40) (D:=D) (O:=O) (hQ _ ⟨H,g,(kaM (by simp)).trans u,?_,i5.trans i4,m5.trans m4,n5⟩)⟩
   rw [kva hp];exact A5
  refine SatL.seq (SatL.condT (v:=true) rfl rfl (SatL.skip (SatL.block (SatL.seq (Sat.region (l:=f7R 10) rfl (aops.cons rfl (aop.entryM2 (kf:=pkV) (E:=E) (id:=m) (p:=((k,c),v)) rfl I.e22 (kag ..) J hp ?_)))))));rw [show cst (pkV ((k,c),v).1)=_ from kmz k c];refine aops.cons rfl (pu.extract rfl rfl rfl _ _ _ (aops.cons rfl (pu.extract rfl rfl rfl _ _ _ (aops.cons rfl (aop.alloc (z:=[.sc (.int .i64 0),.sc (.int .u8 0)]) rfl (by kernel_rfl) ?_)))));refine aops.cons rfl (aop.store2 (a:=.sc (.int .i64 0)) (a':=.sc (.int .u8 0)) (b:=.sc (.int .i64 k)) (b':=.sc (.int .u8 c)) rfl rfl (show H3 n1=_ from kag ..) rfl (by kernel_rfl) ?_);refine aops.cons rfl (pu.move' rfl rfl _ _ _ ?_);exact go _ ((9,.sc (.int .i64 v))::(8,.own n1 0 0)::(27,.sc (.int .i64 v))::(26,.ag [.sc (.int .i64 k),.sc (.int .u8 c)])::(25,.tp [.ag [.sc (.int .i64 k),.sc (.int .u8 c)],.sc (.int .i64 v)])::(24,.sc (.bool true))::(23,.tp [.sc (.bool true),.ag [.sc (.int .i64 k),.sc (.int .u8 c)],.sc (.int .i64 v)])::f) (λs' I'=>⟨_,I',by rw [jau,jdp]; omega⟩) rfl rfl rfl I.e22
 ·refine aops.cons rfl (pu.extract rfl rfl rfl _ _ _ ?_);refine SatL.seq (SatL.condF (v:=false) rfl rfl (SatL.exit ?_));exact y _ _ (kvA I.nd I.lt λi M=>A i M) I.e7
structure CntOk (S:List Sub):Prop where
 pos:0<S.length
 len:S.length<1000000
 lines:∀ s∈S,s.2.length<1000000
 wf:WfS S
 brk:∀ i,(brk S S.length i).length<4611686018427387904
 items:(kba (Abs.brk S S.length 0)).length<=1000000
theorem ktj {S:Ya Sub} (h:cntOk S=true):CntOk S:=by
 unfold cntOk at h;simp only [jae,jao,jaj,jba] at h;obtain ⟨⟨⟨⟨⟨e,h2⟩,g⟩,c⟩,f⟩,b⟩:=h;refine ⟨e,h2,g,λi s j l hl=>?_,λi=>?_,b⟩
 ·have:=c (s,i) (jdn.2 (by simpa using j)) l hl;simpa using this
 ·rcases jcg i S.length with a | a
  ·exact f i (jcp.2 a)
  ·obtain ⟨m,hm⟩:∃ m,S.length=m+1:=⟨S.length-1,by omega⟩;have:Abs.brk S (m+1) i=[]:=by
    simp only [Abs.brk];rw [jcd a]
   rw [hm,this]; decide
def keR:Ctr:=⟨ "",[.w (.sl tSub)],[.sl tItm,.i .i64],λx=>keV x,[],[]⟩
abbrev ctR (r:List ItemT×Int):K3:=λv h _=>∃ a,Snap h v a/\a = .tp [.sl (r.1.map tItm.enc),.sc (.int .i64 r.2)]
theorem kuh (x:ItemT):FreeL (tItm.enc x):=by simp [Ty.enc]
theorem ktU {l:Ya ItemT} {x:Int} {r:Ya ItemT×Int} {v:AV} {h:AH} {n:Nat} {env:Env} (hr:(l,x)=r) (b:Snap h v (.sl (l.map tItm.enc))) (h2:lk env 2=v) (a:lk env 3 = .sc (.int .i64 x)):fnQ Try.prog Try.f7.results.toList (ctR r) .ret ⟨env,h,n⟩:=by
 subst hr;refine ⟨.tp [v,.sc (.int .i64 x)],?_,_,Snap.tpL (.cons b (.cons (.free _ (by simp)) .nil)),rfl⟩;have hr:Try.f7.results.toList=[.tmp 2,.tmp 3]:=by kernel_rfl
 rw [hr];simp [kaI,kbx,h2,a]
section
variable {D:DX} {O:Nat->Prop} {cs:Ya Code} {env:Env} {h:AH} {n:Nat} {S:Ya Sub} {r:Ya ItemT×Int}
theorem ct_r3 {e:Int} (a:lk env 4 = .sc (.int .i64 e)) (hr:([],e)=r):SatL Try.prog 40 D O (.seq (.region 3 (f7R 3).toArray false) .ret::cs) (fnQ Try.prog Try.f7.results.toList (ctR r)) ⟨env,h,n⟩:=
 SatL.seq (SatL.wreg [] (l:=f7R 3) rfl rfl ⟨.sc (.int .i64 e),.move rfl a,nilS,.assign rfl rfl,.sc (.int .i64 e),.assign rfl rfl,SatL.ret (ktU (v:=nilS) hr .nilS rfl rfl)⟩)
theorem kuw {d:Ya ItemT} {v:AV} (a:lk env 7=v) (b:Snap h v (.sl (d.map tItm.enc))) (hr:(d,0)=r):SatL Try.prog 40 D O [.seq (.region 13 (f7R 13).toArray false) .ret] (fnQ Try.prog Try.f7.results.toList (ctR r)) ⟨env,h,n⟩:=
 SatL.seq (SatL.wreg [] (l:=f7R 13) rfl rfl ⟨v,.move rfl a,v,.assign rfl rfl,.sc (.int .i64 0),.assign rfl rfl,SatL.ret (ktU (v:=v) hr b rfl rfl)⟩)
theorem kxk {L:Ya (Int×Int)} {d:Ya ItemT} {m it:Nat} (a:d.Perm (kba L)) (hl:(kba L).length<=1000000) (A:ItAt h (lk env 7) d m it) (hr:(kba L,0)=r):SatL Try.prog 40 D O [.seq (.region 12 (f7R 12).toArray false) (.seq (.region 13 (f7R 13).toArray false) .ret)] (fnQ Try.prog Try.f7.results.toList (ctR r)) ⟨env,h,n⟩:=by
 rcases A with ⟨rfl,e⟩ | ⟨id,_,_,e,o⟩
 ·have hn:kba L=[]:=by have:=a.length_eq; exact jbi this.symm
  refine SatL.seq (SatL.wreg [1] (l:=f7R 12) rfl rfl ⟨nilS,.move rfl e,.tp [],h,n,(λs b=>aop.callF (g:=23) (caps:=[]) (args:=[nilS,.fn 24 []]) rfl rfl rfl rfl (HC.sortNil Try.sortL rfl sortP) (λv h' n' ⟨i,c,j⟩=>by rw [i,c,j]; exact b)),?_⟩);exact kuw (env:=(38,.tp [])::(37,nilS)::env) (v:=nilS) (d:=[]) e .nilS (by rw [<-hr,hn])
 ·have f:d.length<=1000000:=by rw [a.length_eq]; exact hl
  refine SatL.seq (SatL.wreg [1] (l:=f7R 12) rfl rfl ⟨.ms id 0 d.length,.move rfl e,.tp [],updH h id (.cells 3 70 ((kba L).map tItm.enc)),n,(λs b=>aop.callF (g:=23) (caps:=[]) (args:=[.ms id 0 d.length,.fn 24 []]) rfl rfl rfl rfl (kwj f o) (λv h' n' ⟨i,c,t,j,p,k⟩=>?_)),?_⟩)
  ·have:=krT (j.trans a) p;rw [i,c,k,this]; exact b
  ·exact kuw (env:=(38,.tp [])::(37,.ms id 0 d.length)::env) (v:=.ms id 0 d.length) (d:=kba L) e (Snap.msW (kag ..) a.length_eq.symm kuh) hr
noncomputable abbrev kil:Code:=.seq (.region 8 (f7R 8).toArray false) (.block 0 (.loop (.seq (.region 9 (f7R 9).toArray false) (.seq (.cond (.tmp 24) .skip (.exit 0)) (.block 1 (.seq (.region 10 (f7R 10).toArray false) (.region 11 (f7R 11).toArray false)))))))
theorem ct_r8 (ok:CntOk S) (hr:(kba (brk S S.length 0),0)=r) (x:lk env 6 = .own 3 0 0) (t:lk env 7=nilS) (M:Memo S 2 1 0 3 (λ_=>False) h) (hn:∀ q,n<=q->h q=none) :
  SatL Try.prog 40 D O [.seq kil (.seq (.region 12 (f7R 12).toArray false) (.seq (.region 13 (f7R 13).toArray false) .ret))] (fnQ Try.prog Try.f7.results.toList (ctR r)) ⟨env,h,n⟩:=by
 have u:=c1_ok ok.wf (Cb:=2) (Sb:=1) (Db:=0) (Fb:=3) ok.lines ok.len ok.brk S.length 0 (by omega) ok.pos (λ_=>False) h n ⟨id,id,id,id⟩ (λ_ h=>h.elim) hn M;have d3:deref h (.own 3 0 0)=some [.fn 21 [.own 2 0 0,.own 0 0 0,.own 3 0 0]]:=by simp only [deref,M.f]; rfl
 refine SatL.seq (SatL.seq (Sat.region (l:=f7R 8) rfl (show aops Try.prog _ ((f7R 8).take 1++(f7R 8).drop 1) _ _ from ?_)));rw [kqO];refine aopsR.plain ⟨.fn 21 [.own 2 0 0,.own 0 0 0,.own 3 0 0],.load rfl (show deref h (lk env 6)=_ by rw [x]; exact d3) (by kernel_rfl),?_⟩;refine thenA.of (l2:=(f7R 8).drop 1) (st:=⟨_,h,n⟩) ?_;refine aops.cons rfl ?_;refine (aop.callF (g:=21) (caps:=[.own 2 0 0,.own 0 0 0,.own 3 0 0]) (args:=[.sc (.int .i64 0),.own 2 0 0,.own 0 0 0,.own 3 0 0]) rfl rfl rfl rfl u ?_);rintro v h2 k ⟨m,E',rfl,hXm,hm,j,y,w,b,s⟩;have hp:=j.items;have a:E'.length<=1000000:=by
  have:=hp.length_eq;rw [jas] at this;rw [this]; exact ok.items
 have F:m<k:=by
  rcases jcg m k with i | c
  ·exact i
  ·rw [b m c] at hm; cases hm
 refine aops.cons rfl ?_;refine (aop.rangeM (kf:=pkV) (id:=m) (E:=E') (kt:=67) (e:=3) rfl rfl kee hm _ ?_);refine kvJ (it:=k) (m:=m) a rfl t (kag ..) (kac (by omega) hm) (λq B=>kac (by omega) (b q (by omega))) λst d p A=>?_;obtain ⟨o,C,z⟩:=st;exact kxk (p.trans hp) ok.items A hr
theorem kwz (ok:CntOk S) (hr:(kba (brk S S.length 0),0)=r) (s:lk env 1 = .own 0 0 0) (g:h 0=some (.cells 1 24 [[.sl (S.map tSub.enc)]])) (hn:∀ q,1<=q->h q=none) :
  SatL Try.prog 40 D O [.seq (.region 4 (f7R 4).toArray false) (.seq (.region 5 (f7R 5).toArray false) (.seq (.region 6 (f7R 6).toArray false) (.seq (.region 7 (f7R 7).toArray false) (.seq kil (.seq (.region 12 (f7R 12).toArray false) (.seq (.region 13 (f7R 13).toArray false) .ret))))))] (fnQ Try.prog Try.f7.results.toList (ctR r)) ⟨env,h,1⟩:=by
 let y:AV:=.sl (S.map tSub.enc)
 have f:(S.map tSub.enc).length=S.length:=jas ..;have w:((S.map tSub.enc).length:Int)<=1048576:=by rw [f]; have:=ok.len; omega
 obtain ⟨m,hm⟩:∃ m,(S.map tSub.enc).length=m:=⟨_,rfl⟩;have F:deref h (.own 0 0 0)=some [y]:=by simp only [deref,g]; rfl
 let t:AH:=updH h 1 (.cells 1 65 (List.replicate m [.sc (.map none)]))
 let B:AH:=updH t 2 (.cells 1 63 [[nilS]])
 let i:AH:=updH B 2 (.cells 1 63 [[.ms 1 0 m]])
 let p:AH:=updH i 3 (.cells 1 64 [[.sc .nilFunc]])
 let x:AH:=updH p 3 (.cells 1 64 [[.fn 21 [.own 2 0 0,.own 0 0 0,.own 3 0 0]]])
 have A:∀ env,lk env 1 = .own 0 0 0->lk env 5 = .own 2 0 0->SatL Try.prog 40 D O [.seq (.region 5 (f7R 5).toArray false) (.seq (.region 6 (f7R 6).toArray false) (.seq (.region 7 (f7R 7).toArray false) (.seq kil (.seq (.region 12 (f7R 12).toArray false) (.seq (.region 13 (f7R 13).toArray false) .ret)))))] (fnQ Try.prog Try.f7.results.toList (ctR r)) ⟨env,i,3⟩:=by
  intro env s E;have M:Memo S 2 1 0 3 (λ_=>False) x:=by
   rw [f] at hm;subst hm;refine ⟨rfl,g,rfl,List.replicate S.length (.sc (.map none)),by simp,?_,λj v u=>?_⟩
   ·show some (ABlk.cells 1 65 (List.replicate S.length [AV.sc (.map none)]))=_;rw [List.map_replicate]
   ·rw [jbq] at u;split at u
    ·cases u; exact .inl rfl
    ·cases u
  refine SatL.seq (SatL.wreg [0] (l:=f7R 5) rfl rfl ⟨.own 3 0 0,p,4,(λo c=>aop.alloc (z:=[.sc .nilFunc]) rfl (by kernel_rfl) c),?_⟩);refine SatL.seq (SatL.wreg [0,1] (l:=f7R 6) rfl rfl ⟨.fn 21 [.own 2 0 0,.own 0 0 0,.own 3 0 0],p,4,(λo c=>aop.mkfn rfl (by show AV.fn 21 [lk ((6,.own 3 0 0)::env) 5,lk ((6,.own 3 0 0)::env) 1,.own 3 0 0]=_; rw [show lk ((6,.own 3 0 0)::env) 5=_ from E,show lk ((6,.own 3 0 0)::env) 1=_ from s]) c),.ud,x,4,(λo c=>aop.store (id:=3) (k:=1) (T':=64) (a:=.sc .nilFunc) (b:=.fn 21 [.own 2 0 0,.own 0 0 0,.own 3 0 0]) rfl rfl (kag i 3 (.cells 1 64 [[.sc .nilFunc]])) rfl (by kernel_rfl) c),?_⟩);refine SatL.seq (SatL.wreg [] (l:=f7R 7) rfl rfl ⟨nilS,.assign rfl rfl,?_⟩);refine ct_r8 (env:=(7,nilS)::(19,.fn 21 [.own 2 0 0,.own 0 0 0,.own 3 0 0])::(6,.own 3 0 0)::env) ok hr rfl rfl M λq C=>?_;replace C:4<=q:=C;simp only [x,p,i,B,t];repeat rw [keX (by omega)]
  exact hn q (by omega)
 refine SatL.seq (SatL.wreg [3,4,5] (l:=f7R 4) rfl rfl ⟨.own 0 0 0,.fldOwn (d:=0) (ft:=22) rfl (by kernel_rfl) s g,y,.load rfl F (by kernel_rfl),.sc (.int .i64 m),hm ▸ .len rfl rfl rfl rfl rfl (by kernel_rfl),.ms 1 0 m,t,2,(λo c=>aop.mkSl (e:=65) (z:=[.sc (.map none)]) rfl rfl rfl (hm ▸ w) (by kernel_rfl) (by kernel_rfl) (of_decide_eq_true (by kernel_rfl)) (by simp) c),.own 2 0 0,B,3,(λo c=>aop.alloc (z:=[nilS]) rfl (by kernel_rfl) c),
  .ud,i,3,(λo c=>aop.store (id:=2) (k:=1) (T':=63) (a:=nilS) (b:=.ms 1 0 m) rfl rfl (kag t 2 (.cells 1 63 [[nilS]])) rfl (by kernel_rfl) c),?_⟩)
 exact A ((5,.own 2 0 0)::(18,.ms 1 0 m)::(17,.sc (.int .i64 m))::(16,y)::(15,.own 0 0 0)::env) s rfl
end
set_option maxHeartbeats 1000000 in
theorem koW {S:Ya Sub} {r:Ya ItemT×Int} (hF:keV S=some r):PC Try.prog 7 [.ag [.sl (S.map tSub.enc)]] (·= .tp [.sl (r.1.map tItm.enc),.sc (.int .i64 r.2)]):=by
 refine PC.of_HC (HC.of_body (R:=ctR r) (c:=(.seq (.region 0 (f7R 0).toArray false) (.seq (.seq (.region 1 (f7R 1).toArray false) (.seq (.region 2 (f7R 2).toArray false) (.cond (.tmp 13) (.seq (.region 3 (f7R 3).toArray false) .ret) .skip))) (.seq (.region 4 (f7R 4).toArray false) (.seq (.region 5 (f7R 5).toArray false) (.seq (.region 6 (f7R 6).toArray false) (.seq (.region 7 (f7R 7).toArray false) (.seq kil (.seq (.region 12 (f7R 12).toArray false) (.seq (.region 13 (f7R 13).toArray false) .ret)))))))))) Try.func7 (by kernel_rfl) (by kernel_rfl) (by show 1<=40; omega) λD O hD=>Sat.ofL (N:=40) ?_);obtain ⟨e,w,hF⟩:=jaa.1 hF;let a:AV:=.sl (S.map tSub.enc)
 let h0:AH:=updH ah0 0 (.cells 1 24 [[a]])
 have m:h0 0=some (.cells 1 24 [[a]]):=rfl;have t:deref h0 (.own 0 0 0)=some [a]:=rfl;have u:∀ env,lk env 13 = .sc (.bool (e != 0))->lk env 1 = .own 0 0 0->lk env 4 = .sc (.int .i64 e)->SatL Try.prog 40 D O (.cond (.tmp 13) (.seq (.region 3 (f7R 3).toArray false) .ret) .skip::[.seq (.region 4 (f7R 4).toArray false) (.seq (.region 5 (f7R 5).toArray false) (.seq (.region 6 (f7R 6).toArray false) (.seq (.region 7 (f7R 7).toArray false) (.seq kil (.seq (.region 12 (f7R 12).toArray false) (.seq (.region 13 (f7R 13).toArray false) .ret))))))]) (fnQ Try.prog Try.f7.results.toList (ctR r)) ⟨env,h0,1⟩:=by
  intro env i g s;refine SatL.condX (v:=e != 0) i (λb=>?_) λb=>SatL.skip ?_
  ·have f:e≠0:=by simpa using b
   rw [if_neg f] at hF;exact ct_r3 s (Option.some.inj hF)
  have j:e=0:=by simpa using b
  rw [if_pos j] at hF;split at hF;case isFalse=>cases hF
  rename_i o;refine kwz (ktj o) (Option.some.inj hF) g m λq y=>?_;simp only [h0];rw [keX (by omega)]
 have p:∀ env,lk env 1 = .own 0 0 0->SatL Try.prog 40 D O [.seq (.region 1 (f7R 1).toArray false) (.seq (.region 2 (f7R 2).toArray false) (.cond (.tmp 13) (.seq (.region 3 (f7R 3).toArray false) .ret) .skip)),.seq (.region 4 (f7R 4).toArray false) (.seq (.region 5 (f7R 5).toArray false) (.seq (.region 6 (f7R 6).toArray false) (.seq (.region 7 (f7R 7).toArray false) (.seq kil (.seq (.region 12 (f7R 12).toArray false) (.seq (.region 13 (f7R 13).toArray false) .ret))))))] (fnQ Try.prog Try.f7.results.toList (ctR r)) ⟨env,h0,1⟩:=by
  intro env g;refine SatL.seq (SatL.wreg [] (l:=f7R 1) rfl rfl ⟨.ag [a],.loadA (cs:=[a]) rfl (show deref h0 (lk env 1)=_ by rw [g]; exact t) (by kernel_rfl) (by kernel_rfl),.sc (.int .i64 e),.call rfl rfl rfl rfl (kqK w) (show FreeL [AV.ag [a]] by simp only [kby,kfK,kgK,and_true]; exact kkt S),.sc (.int .i64 e),.assign rfl rfl,?_⟩);refine SatL.seq (SatL.wreg [] (l:=f7R 2) rfl rfl ⟨.sc (.int .i64 e),.move rfl rfl,.sc (.bool (e != 0)),.bin rfl rfl rfl (λK k=>⟨rfl,k⟩),?_⟩);exact u ((13,.sc (.bool (e != 0)))::(12,.sc (.int .i64 e))::(4,.sc (.int .i64 e))::(11,.sc (.int .i64 e))::(10,.ag [a])::env) rfl g rfl
 refine SatL.seq (SatL.wreg [0] (l:=f7R 0) rfl rfl ⟨.own 0 0 0,h0,1,(λx k=>by unfold aop; exact k),nilS,.assign rfl rfl,.sc (.int .i64 0),.assign rfl rfl,?_⟩);exact SatL.seq (p ((3,.sc (.int .i64 0))::(2,nilS)::(1,.own 0 0 0)::kar [.ag [a]]) rfl)
theorem kna:Good Try.prog 7 keR:=by
 refine ⟨rfl,λx r h l hl=>?_,by simp [keR],by simp [keR]⟩;obtain ⟨a,rfl,b⟩:=hl;obtain rfl:=(kaZ rfl).1 b;exact koW h
end
def khH:Ctr:=⟨ "",[(.w (.sl tSub)),Ti,Ti,(.i .u8),(.i .u8)],[Ti],λx=>kdm x.1 x.2.1 x.2.2.1 x.2.2.2.1 x.2.2.2.2,[],[]⟩
theorem kkc:Good Try.prog 28 khH:=
 kal Try.func28 (by kernel_rfl) (An:=[(0,⟨⟨[(12,.c Ti),(11,.c Ti)],[]⟩,⟨[(11,.c Ti)],[]⟩,[5,1,4,2,3],[0],1,false,""⟩),(157,⟨⟨[],[]⟩,⟨[(14,.c (.i .u8))],[]⟩,[13,11,12],[1],2,false,""⟩)]) [] (.nil) (λx=>by kernel_rfl)
def kjs:Ctr:=⟨ "",[(.w (.sl tSub))],[(.sl Tk),Ti],λx=>kfz x,[],[]⟩
theorem kls:Good Try.prog 8 kjs:=
 kal Try.func8 (by kernel_rfl) (An:=[(0,⟨⟨[(5,.c Ti),(4,.mw 2)],[(2,.sl 77 (.ar 16 Ti))]⟩,⟨[(4,.mw 3)],[(3,.sl 77 (.ar 16 Ti))]⟩,[1],[0],4,false,""⟩),(8,⟨⟨[(6,.c Ti),(4,.mw 2)],[(2,.sl 77 (.ar 16 Ti))]⟩,⟨[(4,.mw 3)],[(3,.sl 77 (.ar 16 Ti))]⟩,[5],[],4,false,""⟩),(16,⟨⟨[(8,.c Ti),(4,.mw 2)],[(2,.sl 77 (.ar 16 Ti))]⟩,⟨[(4,.mw 4)],[(4,.sl 77 (.ar 16 Ti))]⟩,[7,6],[3],5,false,""⟩),(269,⟨⟨[],[]⟩,⟨[(9,.c Ti)],[]⟩,[4,8],[2],4,false,""⟩),(24,⟨⟨[(12,.c Ti),(11,.mw 4)],[(4,.sl 70 Tk)]⟩,⟨[(11,.mw 5)],[(5,.sl 70 Tk)]⟩,[1,4],[0,3],6,false,""⟩),(32,⟨⟨[(13,.c Ti),(11,.mw 4)],[(4,.sl 70 Tk)]⟩,⟨[(11,.mw 5)],[(5,.sl 70 Tk)]⟩,[12],[],6,false,""⟩),(40,⟨⟨[(15,.c Ti),(14,.c Ti)],[]⟩,⟨[(14,.c Ti)],[]⟩,[13,11],[4],5,false,""⟩),(48,⟨⟨[(16,.c Ti),(14,.c Ti)],[]⟩,⟨[(14,.c Ti)],[]⟩,[15],[],5,false,""⟩)]) [(28,khH),(17,kgo)] (.cons kkc <| .cons kgR <| .nil) (λx=>by kernel_rfl)
def kgu:Ctr:=⟨ "",[(.w (.sl tBrick)),(.w (.sl tBrick))],[.b],λx=>kdw x.1 x.2,[],[]⟩
theorem kiG:Good Try.prog 9 kgu:=
 kal Try.func9 (by kernel_rfl) (An:=[(0,⟨⟨[(5,.c Ti)],[]⟩,⟨[],[]⟩,[2,3],[0,1],2,true,""⟩)]) [] (.nil) (λx=>by kernel_rfl)
def kgs:Ctr:=⟨ "",[(.sl Tk),(.sl Tk)],[.b],λx=>kdv x.1 x.2,[],[]⟩
theorem kiR:Good Try.prog 10 kgs:=
 kal Try.func10 (by kernel_rfl) (An:=[(0,⟨⟨[(5,.c Ti)],[]⟩,⟨[],[]⟩,[0,1],[],0,true,""⟩)]) [] (.nil) (λx=>by kernel_rfl)
def kiQ:Ctr:=⟨ "",[(.w (.sl tSub))],[.b],λx=>kdD x,[],[]⟩
theorem law02_TextFlattens_C_ok:Good Try.prog 3 kiQ:=
 kal Try.func3 (by kernel_rfl) (An:=[]) [(10,kgs),(9,kgu),(8,kjs),(7,keR),(6,khM),(5,kdP),(4,kjw)] (.cons kiR <| .cons kiG <| .cons kls <| .cons kna <| .cons kjP <| .cons kkP <| .cons kma <| .nil) (λx=>by kernel_rfl)
end Go.Abs
namespace Go.Abs
open Go
theorem klP {σ τ:Type} {F:σ->Yb (σ⊕(τ⊕Unit))} (b:τ) (e:Nat->σ) (m:Nat) (hm:m<18446744073709551616) (p:Nat->Bool)
  (f:∀ i,i<m->F (e i)=some (if p i=true then .inr (.inl b) else .inl (e (i+1)))) (h2:F (e m)=some (.inr (.inr ()))) :
  iter F (e 0)=some (if ((List.range m).any p)=true then .inl b else .inr ()):=by
 have:∀ k i:Nat,i+k=m->itN F (k+1) (e i)=some (if ((List.range' i k).any p)=true then .inl b else .inr ()):=by
  intro k;induction k with
  | zero=>
   intro i h;have:i=m:=by omega
   subst this;rw [kcb h2]; rfl
  | succ k c=>
   intro i h;rw [List.range'_succ,List.any_cons];have a:=f i (by omega);cases hp:p i with
   | true=>rw [hp] at a; rw [kcb a]; simp
   | false=>rw [hp] at a; rw [khl a,c (i+1) (by omega),jdg]
 have:=kdq (this m 0 (by omega)) (by omega);rw [this,jeg]
theorem kjm {m:Nat} {p:Nat->Bool}:(List.range m).all p=true↔∀ i,i<m->p i=true:=by simp
theorem kgk {m:Nat} {p:Nat->Bool}:((List.range m).any λi=>!p i) = !(List.range m).all p:=ksx p _
theorem kpn (l:Ya Int) (hl:l.length<=1000) (p:Int->Bool):kaT l (λx=>some (p x))=some (l.any p):=by
 unfold kaT kbF;rw [kcz (F:=kaU l _) l (by omega) (λi x=>if p x then some (i:Int) else none) (λi a=>by
  unfold kaU;rw [if_pos (by rw [kaX]; simpa using a),kbw a,kap (by omega)];simp only [jag];by_cases h:p l[i]=true <;> simp [h,nextL]) (by unfold kaU; rw [if_neg (by simp [kaX])])]
 have:∀ (l:Ya Int) (k:Nat),endL ((l.zipIdx k).findSome? λx=>if p x.1 then some (x.2:Int) else none)=(if l.any p then .inl ((k:Int)+(l.findIdx p:Nat)) else .inr ()):=by
  intro l;induction l with
  | nil=>intro k; rfl
  | cons x l b=>
   intro k;rw [jbu,jeb,List.any_cons,List.findIdx_cons];cases hp:p x with
   | true=>simp [endL]
   | false=>
    simp only [jak,if_false,jdg,cond_false];rw [b (k+1)];congr 2; push_cast; omega
 rw [this l 0];by_cases h:l.any p=true <;> simp [h]
theorem knM (a b:Int) (l:Ya Int) (hl:l.length<=1000):kbN a b l=some (l.all (wi a b)):=by
 unfold kbN;have e:(λf:Int=>(keL f a b).bind λg=>some g)=λu=>some (!wi a b u):=by
  funext u;unfold keL wi;by_cases c:u<a
  ·simp [c];try omega
  ·by_cases h2:b<u <;> simp [c,h2] <;> omega
 rw [e,kpn l hl,ksx];simp
theorem koc (n a b:Int):kbA n a b=some (wi a b n):=by
 unfold kbA wi;by_cases h:a<=n <;> simp [h]
def chOk (i:Nat) (c:Int):Bool:=wi 97 122 c||(decide (i≠0)&&(c==45||wi 48 57 c))
def keU (s:Ya UInt8):Bool:=((List.range s.length).all λi=>chOk i (((s[i]?).getD 0).toNat:Int))&&wi 1 12 (s.length:Int)
theorem kwg {s:Ya UInt8} {i:Nat} (h:i<s.length):gstr s (i:Int)=some (s[i].toNat:Int):=by
 unfold gstr; rw [kbw h]; rfl
theorem kuj (s:Ya UInt8) (l:s.length<=1000) (i:Nat) (b:i<s.length):kcf s (i:Int)=some (if (!chOk i (((s[i]?).getD 0).toNat:Int))=true then .inr (.inl false) else .inl ((i+1:Nat):Int)):=by
 unfold kcf;obtain ⟨c,a⟩:∃ c:Int,c=(s[i].toNat:Int):=⟨_,rfl⟩;have hg:gstr s (i:Int)=some c:=by rw [a]; exact kwg b
 have hr:(((s[i]?).getD 0).toNat:Int)=c:=by rw [a,jab b]; rfl
 rw [if_pos (lenI_lt.2 b),hg,hr];simp only [jag];clear a hg hr;unfold chOk wi;rw [kap (by omega)];by_cases g:(97:Int)<=c <;> by_cases h2:c<=122 <;> by_cases k:i=0 <;> by_cases f:c=45 <;> by_cases j:c<48 <;> by_cases e:(57:Int)<c <;> simp [g,h2,k,f,j,e] <;> omega
theorem kuV (s:Ya UInt8):kcf s (s.length:Int)=some (.inr (.inr ())):=by
 unfold kcf;rw [if_neg kaC]
theorem kwy (s:Ya UInt8) (b:s.length<=1000):kgz s=some (keU s):=by
 unfold kgz;rw [show (0:Int)=((0:Nat):Int) from rfl,klP (F:=kcf s) false (λi=>(i:Int)) s.length (by omega) (λi=>!chOk i (((s[i]?).getD 0).toNat:Int)) (kuj s b) (kuV s)];rw [kgk];unfold keU;by_cases h:((List.range s.length).all λi=>chOk i (((s[i]?).getD 0).toNat:Int))=true
 ·simp only [h,jei,jak,if_false,jag,jeh];unfold wi;rw [kaX];by_cases a:(1:Int)<=(s.length:Int) <;> simp [a]
 ·rw [jcr] at h;simp [h]
theorem krG (s:Ya UInt8) (E:s.length<=1000) (i:Nat) (j:i<s.length):kbT (s,(i:Int))=some (if (!chOk i (((s[i]?).getD 0).toNat:Int))=true then .inr (.inl false) else .inl (s,((i+1:Nat):Int))):=by
 unfold kbT;simp only;obtain ⟨c,k⟩:∃ c:Int,c=(s[i].toNat:Int):=⟨_,rfl⟩;have hr:(((s[i]?).getD 0).toNat:Int)=c:=by rw [k,jab j]; rfl
 rw [if_pos (lenI_lt.2 j),hr];have a:i<(⟨s.toArray⟩:ByteArray).size:=by simpa [ByteArray.size] using j
 have f:(⟨s.toArray⟩:ByteArray)[i]'a=s[i]:=by simp [ByteArray.getElem_eq_getElem_data]
 by_cases B:s[i].toNat<128
 ·have b:=Go.decode_ascii ⟨s.toArray⟩ i a (by rw [f]; exact B);have e:runeV (s,(i:Int))=c:=by rw [k]; unfold runeV; simp only [jci]; rw [b,f]
  have l:runeN (s,(i:Int))=(s,((i+1:Nat):Int)):=by unfold runeN; simp only [jci]; rw [b]
  rw [e,l];clear e l b k hr;unfold chOk wi;by_cases p:(97:Int)<=c <;> by_cases h2:c<=122 <;> by_cases g:i=0 <;> by_cases o:c=45 <;> by_cases t:c<48 <;> by_cases y:(57:Int)<c <;> simp [p,h2,g,o,t,y] <;> omega
 ·have b:=Go.decode_high ⟨s.toArray⟩ i a (by rw [f]; omega);have e:(128:Int)<=runeV (s,(i:Int)):=by unfold runeV; simp only [jci]; omega
  obtain ⟨v,A⟩:∃ v:Int,v=runeV (s,(i:Int)):=⟨_,rfl⟩;rw [<-A] at e ⊢;have F:(128:Int)<=c:=by omega
  unfold chOk wi;have x:(97:Int)<=v:=by omega
  have m:¬ v<=122:=by omega
  have C:¬ v=45:=by omega
  have w:¬ v<48:=by omega
  have z:(57:Int)<v:=by omega
  have k1:(97:Int)<=c:=by omega
  have k2:¬ c<=122:=by omega
  have k3:¬ c=45:=by omega
  have u:¬ c<=57:=by omega
  by_cases g:i=0 <;> simp [x,m,C,w,z,k1,k2,k3,u,g]
theorem kti (s:Ya UInt8):kbT (s,(s.length:Int))=some (.inr (.inr ())):=by
 unfold kbT;simp only;rw [if_neg kaC]
theorem ktS (s:Ya UInt8) (a:s.length<=1000):kfA s=some (keU s):=by
 unfold kfA;rw [show ((s,0):Ya UInt8×Int)=(λi:Nat=>(s,(i:Int))) 0 from rfl,klP (F:=kbT) false (λi:Nat=>(s,(i:Int))) s.length (by omega) (λi=>!chOk i (((s[i]?).getD 0).toNat:Int)) (krG s a) (kti s)];rw [kgk];unfold keU;by_cases h:((List.range s.length).all λi=>chOk i (((s[i]?).getD 0).toNat:Int))=true
 ·simp only [h,jei,jak,if_false,jag,jeh];rw [knM _ _ _ (by simp),kaX];simp
 ·rw [jcr] at h;simp [h]
theorem iter_any' {σ τ:Type} {F:σ->Yb (σ⊕(τ⊕Unit))} (b:τ) (e:Nat->σ) (m:Nat) (hm:m<18446744073709551616) (p:Nat->Bool)
  (a:∀ i,i<m->F (e i)=some (if p i=true then .inl (e (i+1)) else .inr (.inl b))) (h2:F (e m)=some (.inr (.inr ()))) :
  iter F (e 0)=some (if ((List.range m).all p)=true then .inr () else .inl b):=by
 rw [klP b e m hm (λi=>!p i) (λi c=>by rw [a i c]; cases p i <;> rfl) h2,kgk];cases (List.range m).all p <;> rfl
theorem kfx {α:Type} (q:α->Bool) (l:Ya α):((List.range l.length).all λi=>(l[i]?).all q)=l.all q:=by
 rw [Bool.eq_iff_iff,kjm,jao];constructor
 ·intro h x b;obtain ⟨i,a,rfl⟩:=jcm.1 b;have:=h i a;rw [jab a] at this;simpa using this
 ·intro h i a;rw [jab a];simpa using h _ (jct a)
def okRow (n i:Nat) (x:Line):Bool:=
 (if x.1 = -1 then wi 0 15 x.2.1 else wi ((i:Int)+1) ((n:Int)-1) x.1&&x.2.1==0)&&[x.2.2.1.1,x.2.2.1.2.1,x.2.2.1.2.2].all (wi (-1000) 1000)&&decide (x.2.2.2.1<=23)&&decide (x.2.2.2.2<=15)
theorem kwG (d:Ya Sub) (g:d.length<=100) (i:Nat) (j:i<=100) (x:Line):kgF d (i:Int) x=some (okRow d.length i x):=by
 unfold kgF kce;simp only [koc,jag,kaX];rw [kap (by omega),kaJ (by omega) (by omega),show (((i+1:Nat):Int))=(i:Int)+1 by omega];unfold okRow;simp only [jdf,List.all_nil,Bool.and_true];cases wi (-1000) 1000 x.2.2.1.1
 ·simp
 cases wi (-1000) 1000 x.2.2.1.2.1
 ·simp
 cases wi (-1000) 1000 x.2.2.1.2.2
 ·simp
 by_cases c:(23:Int)<x.2.2.2.1
 ·have:¬ x.2.2.2.1<=23:=by omega
  simp [c,this]
 by_cases h2:(15:Int)<x.2.2.2.2
 ·have:¬ x.2.2.2.2<=15:=by omega
  simp [c,h2,this]
 have b:x.2.2.2.1<=23:=by omega
 have a:x.2.2.2.2<=15:=by omega
 by_cases e:x.1 = -1
 ·simp [c,h2,b,a,e]
 ·cases f:wi ((i:Int)+1) ((d.length:Int)-1) x.1 <;> simp [c,h2,b,a,e,f]
theorem krY (c:Int×Int×Int):kfW c=some ([c.1,c.2.1,c.2.2].all (wi (-1000) 1000)):=by
 unfold kfW;rw [knM _ _ _ (by simp)]; rfl
theorem from1 (a b n:Int):kbN a b [n]=some (wi a b n):=by rw [knM a b [n] (by simp)]; simp
theorem koY (d:Ya Sub) (p:d.length<=100) (i:Nat) (u:i<=100) (m:Ya (Ya UInt8×Bool)) (s:Sub) (t:s.2.length<=100) (k:Nat) (f:k<s.2.length) :
  kci d ((i:Int),m) s (k:Int)=some (if okRow d.length i s.2[k]=true then .inl ((k+1:Nat):Int) else .inr (.inl 8)):=by
 unfold kci;rw [if_pos (lenI_lt.2 f),kbw f];simp only [jag,from1,krY,kaX];rw [kap (show i<_ by omega),kap (show k<_ by omega),kaJ (by omega) (by omega),show (((i+1:Nat):Int))=(i:Int)+1 by omega];obtain ⟨x,j⟩:∃ x,x=s.2[k]:=⟨_,rfl⟩;rw [<-j];clear j;unfold okRow;by_cases a:x.1 = -1
 ·have g:wi ((i:Int)+1) ((d.length:Int)-1) x.1=false:=by rw [a]; unfold wi; simp; omega
  rw [a] at g;cases l:wi 0 15 x.2.1
  ·simp [g,a]
  cases o:([x.2.2.1.1,x.2.2.1.2.1,x.2.2.1.2.2].all (wi (-1000) 1000))
  ·simp [a]
  by_cases b:(24:Int)<=x.2.2.2.1
  ·have:¬ x.2.2.2.1<=23:=by omega
   simp [b,this,a]
  by_cases h2:(15:Int)<x.2.2.2.2
  ·have:¬ x.2.2.2.2<=15:=by omega
   simp [b,h2,this,a]
  have e:x.2.2.2.1<=23:=by omega
  have c:x.2.2.2.2<=15:=by omega
  simp [b,h2,e,c,a]
 ·cases l:wi ((i:Int)+1) ((d.length:Int)-1) x.1
  ·simp [a]
  cases v:(x.2.1==0)
  ·simp [a]
  cases o:([x.2.2.1.1,x.2.2.1.2.1,x.2.2.1.2.2].all (wi (-1000) 1000))
  ·simp [a]
  by_cases b:(24:Int)<=x.2.2.2.1
  ·have:¬ x.2.2.2.1<=23:=by omega
   simp [b,this,a]
  by_cases h2:(15:Int)<x.2.2.2.2
  ·have:¬ x.2.2.2.2<=15:=by omega
   simp [b,h2,this,a]
  have e:x.2.2.2.1<=23:=by omega
  have c:x.2.2.2.2<=15:=by omega
  simp [b,h2,e,c,a]
theorem krV (d:Ya Sub) (b:d.length<=100) (i:Nat) (e:i<=100) (m:Ya (Ya UInt8×Bool)) (s:Sub) (c:s.2.length<=100) :
  iter (kci d ((i:Int),m) s) 0=some (if s.2.all (okRow d.length i)=true then .inr () else .inl 8):=by
 rw [show (0:Int)=((0:Nat):Int) from rfl,iter_any' (F:=kci d ((i:Int),m) s) 8 (λk=>(k:Int)) s.2.length (by omega) (λk=>(s.2[k]?).all (okRow d.length i)) (λk a=>by rw [koY d b i e m s c k a,jab a]; rfl) (by unfold kci; rw [if_neg kaC]),kfx]
theorem kmO {κ β:Type} [DecidableEq κ] (k a:κ) (v:β):∀ m:Ya (κ×β),mget (mput m k v) a=if a=k then some v else mget m a
 | []=>by simp [mput,mget]
 | p::r=>by
  unfold mput;by_cases h:k=p.1
  ·rw [if_pos h];unfold mget;simp only;by_cases h2:a=k
   ·simp [h2]
   ·rw [if_neg h2,if_neg h2,if_neg (by rw [<-h]; exact h2)]
  ·rw [if_neg h];unfold mget;rw [kmO k a v r];by_cases h2:a=p.1
   ·have:¬ a=k:=λe=>h (by rw [<-e,h2]);rw [if_pos h2,if_pos h2,if_neg this]
   ·rw [if_neg h2,if_neg h2]
def nmap (d:Ya Sub):Nat->Ya (Ya UInt8×Bool)
 | 0=>[]
 | i+1=>match d[i]? with | some s=>mput (nmap d i) s.1 true | none=>nmap d i
theorem kos (d:Ya Sub) (nm:Ya UInt8):∀ i,i<=d.length->(mget (nmap d i) nm).getD false=(d.take i).any λs=>s.1==nm
 | 0,_=>rfl
 | i+1,h=>by
  unfold nmap;rw [jab (by omega),jda (by omega),List.any_append];simp only;rw [kmO];by_cases e:nm=d[i].1
  ·simp [e]
  ·rw [if_neg e,kos d nm i (by omega)];have:¬ d[i].1=nm:=λh=>e h.symm;simp [this]
def rowOk (d:Ya Sub) (i:Nat):Bool:=(d[i]?).all λs=>keU s.1&&!((d.take i).any λt=>t.1==s.1)&&decide (s.2.length<=20)&&s.2.all (okRow d.length i)
def valid (d:Ya Sub):Bool:=wi 1 8 d.length&&(List.range d.length).all (rowOk d)
def Small (d:Ya Sub):Prop:=d.length<=12/\∀ s∈d,s.1.length<=100/\s.2.length<=30
theorem kpu (d:Ya Sub) (e:Small d):kdR d=some (if valid d=true then 0 else 8):=by
 have hl:=e.1;unfold kdR valid;rw [from1,kaX];cases h:wi 1 8 (d.length:Int)
 ·simp
 simp only [jag,jei,jak,if_false,jeh];rw [show ((0,[]):Int×Ya (Ya UInt8×Bool))=(λi:Nat=>((i:Int),nmap d i)) 0 from rfl,iter_any' (F:=kel d) 8 (λi:Nat=>((i:Int),nmap d i)) d.length (by omega) (rowOk d) (λi c=>?_) (by unfold kel; simp only; rw [if_neg kaC])]
 ·cases (List.range d.length).all (rowOk d) <;> rfl
 ·obtain ⟨k1,k2⟩:=e.2 _ (jct c);unfold kel;simp only;rw [if_pos (lenI_lt.2 c),kbw c];simp only [jag];rw [ktS _ (by omega),kos d _ i (by omega)];simp only [jag,kaX];have hr:rowOk d i=(keU d[i].1&&!((d.take i).any λt=>t.1==d[i].1)&&decide (d[i].2.length<=20)&&d[i].2.all (okRow d.length i)):=by unfold rowOk; rw [jab c]; rfl
  have hn:nmap d (i+1)=mput (nmap d i) d[i].1 true:=by
   rw [nmap]; rw [jab c]
  rw [hr,hn];cases keU d[i].1
  ·simp
  cases ((d.take i).any λs=>s.1==d[i].1)
  ·by_cases a:(20:Int)<((d[i].2.length:Nat):Int)
   ·have:¬ d[i].2.length<=20:=by omega
    simp [a,this]
   ·have b:d[i].2.length<=20:=by omega
    rw [krV d (by omega) i (by omega) _ _ (by omega)];rw [kap (by omega)];simp only [a,b,decide_false,decide_true,jei,jak,if_false,Bool.not_false,jeh,Bool.and_true,jag];cases d[i].2.all (okRow d.length i) <;> rfl
  ·simp
end Go.Abs
