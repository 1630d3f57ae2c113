/- The functions and the law, part 8. -/
import Derived.Shelf.Strconv.Itoa3
import Derived.Test.YtnehmnlcliflfaaDoorProg
import Derived.Laws.RangeAny
import Derived.Lib.DecodeN
import Derived.Lib.AtoiTie
import Derived.Test.YtnehmnlcliflfaaDoorZ3
import Derived.Test.YtnehmnlcliflfaaDoorZ6
import Derived.Test.YtnehmnlcliflfaaDoorZ7
set_option linter.constructorNameAsVariable false
set_option linter.unusedVariables false
set_option linter.unusedSimpArgs false
set_option linter.unusedSectionVars false
namespace Go.Abs
open Go
abbrev Ti:Ty:=.i .i64
@[reducible] def tSub:Ty:=(.pr .s (.sl (.pr (.i .i64) (.pr (.i .i64) (.pr (.pr (.i .i64) (.pr (.i .i64) (.i .i64))) (.pr (.i .u8) (.i .u8)))))))
abbrev Sub:=((List UInt8)×(List (Int×Int×(Int×Int×Int)×Int×Int)))
@[reducible] def kjS:Ty:=(.pr (.i .i64) (.pr (.pr (.i .i64) (.pr (.i .i64) (.i .i64))) (.pr (.i .u8) (.i .u8))))
abbrev Brick:=(Int×(Int×Int×Int)×Int×Int)
@[reducible] def tLine:Ty:=(.pr (.i .i64) kjS)
abbrev Line:=(Int×Brick)
@[reducible] def tUse:Ty:=(.pr .s (.pr (.i .i64) (.pr (.i .i64) (.i .i64))))
abbrev Use:=((List UInt8)×Int×Int×Int)
@[reducible] def tRow:Ty:=(.pr (.i .i64) (.pr (.sl .s) kjS))
abbrev Row:=(Int×(List (List UInt8))×Brick)
def kev (a:Int) (c:Int) (b:Int):Yb Bool:=
 (if (decide (a<c))=true then (some true) else (some (decide (b<a))))
def kaV (a:Ya Int) (c:(Int->Yb Bool)) (v0:Int):Yb (Int⊕(Int⊕Unit)):=
 (if (decide (v0<(lenI a)))=true then ((gi a v0).bind λb=>(c b).bind λv2=>if v2=true then (some (.inr (.inl v0))) else (some (.inl (w64 (v0+1))))) else (some (.inr (.inr ()))))
def kbP (a:Ya Int) (b:(Int->Yb Bool)):Yb Int:=
 ((iter (kaV a b) 0).bind λv3=>match v3 with | .inl v4=>(some v4) | .inr v5=>(some (-1)))
def kaU (a:Ya Int) (b:(Int->Yb Bool)):Yb Bool:=
 ((kbP a b).bind λv0=>some (decide (0<=v0)))
def kfm (a:Int) (c:Int) (e:Ya Int):Yb Bool:=
 ((kaU e (λ(b:Int)=>((kev b a c).bind λf=>some f))).bind λv0=>some (!v0))
def kcc (v0:(Ya UInt8)×Int):Yb (((Ya UInt8)×Int)⊕(Bool⊕Unit)):=
 (if (decide (v0.2<(lenI v0.1)))=true then ((if (decide (97<=(runeV v0)))=true then (some (decide ((runeV v0)<=122))) else (some false)).bind λa=>if a=true then (some (.inl (runeN v0))) else (if (v0.2==0)=true then (some (.inr (.inl false))) else (if ((runeV v0) != 45)=true then (if (decide ((runeV v0)<48))=true then (some (.inr (.inl false))) else (if (decide (57<(runeV v0)))=true then (some (.inr (.inl false))) else (some (.inl (runeN v0))))) else (some (.inl (runeN v0)))))) else (some (.inr (.inr ()))))
def kdJ (a:Ya UInt8):Yb Bool:=
 ((iter (kcc) (a,0)).bind λv2=>match v2 with | .inl v3=>(some v3) | .inr v4=>((kfm 1 12 [(lenI a)]).bind λv5=>some v5))
def strconv_Itoa (a:Int):Yb (Ya UInt8):=itoaF a
def kdF (a:Ya UInt8) (c b:Int):Yb (Int×Bool):=khC kfm a c b
def kbQ (a:Ya (Ya UInt8)) (v0:Int×Int×Int×Int×Int×Int×Int×(Arr 5 Int)):Yb ((Int×Int×Int×Int×Int×Int×Int×(Arr 5 Int))⊕((Brick×Bool)⊕((Arr 5 Int)×Int×Int×Int×Int×Int×Int))):=
 (if (decide (v0.1<(lenI a)))=true then ((gi a v0.1).bind λb=>(if (v0.1==3)=true then (some (0,23)) else ((if (v0.1==4)=true then (some (0,15)) else (some ((-1000),1000))).bind λv2=>some v2)).bind λv3=>(kdF b v3.1 v3.2).bind λv4=>if (!v4.2)=true then (some (.inr (.inl ((0,(0,0,0),0,0),false)))) else ((garr v0.2.2.2.2.2.2.2 v0.1).bind λv5=>some (.inl ((w64 (v0.1+1)),v0.2.1,v0.2.2.1,v0.2.2.2.1,v0.2.2.2.2.1,v0.2.2.2.2.2.1,v0.2.2.2.2.2.2.1,(aset v0.2.2.2.2.2.2.2 v0.1 v4.1))))) else (some (.inr (.inr (v0.2.2.2.2.2.2.2,v0.2.1,v0.2.2.1,v0.2.2.2.1,v0.2.2.2.2.1,v0.2.2.2.2.2.1,v0.2.2.2.2.2.2.1)))))
def keG (g:Ya (Ya UInt8)):Yb (Brick×Bool):=
 ((iter (kbQ g) (0,0,0,0,0,0,0,(amk 5 0))).bind λk=>match k with | .inl v7=>(some v7) | .inr v8=>((garr v8.1 0).bind λv9=>(garr v8.1 0).bind λb=>(garr v8.1 1).bind λj=>(garr v8.1 1).bind λe=>(garr v8.1 2).bind λh=>(garr v8.1 2).bind λa=>(garr v8.1 3).bind λl=>(garr v8.1 3).bind λf=>(garr v8.1 4).bind λi=>(garr v8.1 4).bind λc=>some ((0,(b,e,a),(IntKind.wrap .u8 f),(IntKind.wrap .u8 c)),true)))
def kbt (a:Ya UInt8) (b:Ya UInt8):Yb Bool:=
 (if (decide ((lenI b)<=(lenI a)))=true then ((gsl a (w64 ((lenI a)-(lenI b))) (lenI a)).bind λv0=>some (v0==b)) else (some false))
def kbo (a:Ya UInt8) (b:Ya UInt8):Yb (Ya UInt8):=
 ((kbt a b).bind λv0=>if v0=true then ((gsl a 0 (w64 ((lenI a)-(lenI b)))).bind λc=>some c) else (some a))
def kbI (a:Ya UInt8) (b:Ya UInt8):Yb (Ya UInt8):=
 ((kbo a b).bind λv0=>some v0)
def kok (a b:Ya UInt8):Yb Int:=kpo a b
def kaM (_:Yb (Ya (Ya UInt8))) (a c:Ya UInt8) (b:Int):Yb (Ya (Ya UInt8)):=klG a c b
def keK (a:Ya UInt8) (c:Ya UInt8) (b:Int):Yb ((Ya UInt8)×(Ya UInt8)×Int):=
 (some (c,a,b))
def kcZ (a:Ya UInt8) (b:Ya UInt8):Yb ((Ya UInt8)×(Ya UInt8)×Int):=
 ((keK a b 0).bind λv0=>some v0)
def kbn (b:(Int->Yb Bool)) (a:Int×((Ya UInt8)×Int)×(Ya (Int×Int))):Yb ((Int×((Ya UInt8)×Int)×(Ya (Int×Int)))⊕(Int×(Ya (Int×Int)))):=
 (if (decide (a.2.1.2<(lenI a.2.1.1)))=true then ((b (runeV a.2.1)).bind λv2=>if v2=true then (if (decide (0<=a.1))=true then ((gapp a.2.2 [(a.1,a.2.1.2)]).bind λv3=>some (.inl ((bitsI .xor .i64 (-1) a.1),(runeN a.2.1),v3))) else (some (.inl (a.1,(runeN a.2.1),a.2.2)))) else (if (decide (a.1<0))=true then (some (.inl (a.2.1.2,(runeN a.2.1),a.2.2))) else (some (.inl (a.1,(runeN a.2.1),a.2.2))))) else (some (.inr (a.1,a.2.2))))
def kbN (f:Ya UInt8) (e:Ya (Int×Int)) (a:Int×(Ya (Ya UInt8))):Yb ((Int×(Ya (Ya UInt8)))⊕(Ya (Ya UInt8))):=
 (if (decide (a.1<(lenI e)))=true then ((gi e a.1).bind λv9=>(gi e a.1).bind λb=>(gsl f b.1 b.2).bind λc=>(gi a.2 a.1).bind λg=>some (.inl ((w64 (a.1+1)),(lset a.2 a.1 c)))) else (some (.inr a.2)))
def kdi (a:Ya UInt8) (e:(Int->Yb Bool)):Yb (Ya (Ya UInt8)):=
 ((gmk 0 (0,0)).bind λv0=>(iter (kbn e) ((-1),(a,0),v0)).bind λv4=>(if (decide (0<=v4.1))=true then ((gapp v4.2 [(v4.1,(lenI a))]).bind λv5=>some v5) else (some v4.2)).bind λc=>(gmk (lenI c) []).bind λf=>(iter (kbN a c) (0,f)).bind λb=>some b)
def kcS (a:Int):Yb Bool:=
 (if (a==32)=true then (some true) else (some (a==9)))
def ken (a:Ya UInt8):Yb (Ya (Ya UInt8)):=
 ((kbI a [13]).bind λv0=>(kdi v0 (λ(b:Int)=>((kcS b).bind λe=>some e))).bind λc=>some c)
def kcY (a:Sub) (b:Use):Yb Bool:=
 (some (a.1==b.1))
def kaC (a:Ya Sub) (c:(Sub->Yb Bool)) (v0:Int):Yb (Int⊕(Int⊕Unit)):=
 (if (decide (v0<(lenI a)))=true then ((gi a v0).bind λb=>(c b).bind λv2=>if v2=true then (some (.inr (.inl v0))) else (some (.inl (w64 (v0+1))))) else (some (.inr (.inr ()))))
def kaw (a:Ya Sub) (b:(Sub->Yb Bool)):Yb Int:=
 ((iter (kaC a b) 0).bind λv3=>match v3 with | .inl v4=>(some v4) | .inr v5=>(some (-1)))
def kcm (a:Ya Int) (v2:Int×Int):Yb ((Int×Int)⊕Int):=
 (if (decide (v2.1<(lenI a)))=true then ((gi a v2.1).bind λv3=>some (.inl ((w64 (v2.1+1)),(imin v2.2 v3)))) else (some (.inr v2.2)))
def kbW (a:Ya Int):Yb Int:=
 ((if (decide ((lenI a)<1))=true then none else (some ())).bind λv0=>(gi a 0).bind λb=>(iter (kcm a) (1,b)).bind λv4=>some v4)
def kde (a:Sub):Yb Bool:=
 (some (decide (20<(lenI a.2))))
def kat (a:Ya Sub) (b:(Sub->Yb Bool)):Yb Bool:=
 ((kaw a b).bind λv0=>some (decide (0<=v0)))
def kju (f:Ya (Ya UInt8)) (b:Int) (g:Bool) (c:Ya Sub) (a:Ya Use) (e:Ya (Int×Int)):Yb (Bool×Int×Bool×(Ya Sub)×(Ya Use)×(Ya (Int×Int))):=
 (if g=true then (some (((lenI f)==0),b,false,c,a,e)) else (some (false,b,false,c,a,e)))
def kbE (a:Ya Sub) (b:Ya (Int×Int)) (v0:Int×(Ya ((Ya UInt8)×Int))×(Ya Int)):Yb ((Int×(Ya ((Ya UInt8)×Int))×(Ya Int))⊕(Ya Int)):=
 (if (decide (v0.1<(lenI a)))=true then ((gi a v0.1).bind λc=>(gi a v0.1).bind λv2=>if (mget v0.2.1 v2.1).isSome=true then ((gapp v0.2.2 [((mget b v0.1).getD 0)]).bind λv3=>some (.inl ((w64 (v0.1+1)),(mput v0.2.1 v2.1 v0.1),v3))) else (some (.inl ((w64 (v0.1+1)),(mput v0.2.1 v2.1 v0.1),v0.2.2)))) else (some (.inr v0.2.2)))
def kaL (h:Ya Use) (v5:Int×(Ya Int)×(Ya Sub)):Yb ((Int×(Ya Int)×(Ya Sub))⊕((Ya Int)×(Ya Sub))):=
 (if (decide (v5.1<(lenI h)))=true then ((gi h v5.1).bind λn=>(gi h v5.1).bind λa=>(gsl v5.2.2 (w64 (a.2.1+1)) (lenI v5.2.2)).bind λo=>(kaw ((List.drop (Int.toNat (w64 (a.2.1+1))) v5.2.2).take (Int.toNat ((lenI v5.2.2)-(w64 (a.2.1+1))))) (λ(k:Sub)=>((kcY k a).bind λm=>some m))).bind λv9=>(if (decide (v9<0))=true then ((gapp v5.2.1 [a.2.2.2]).bind λf=>some f) else (some v5.2.1)).bind λg=>(gi v5.2.2 a.2.1).bind λj=>(gi v5.2.2 a.2.1).bind λi=>(gi v5.2.2 a.2.1).bind λc=>(gi c.2 a.2.2.1).bind λl=>(gi v5.2.2 a.2.1).bind λb=>(gi b.2 a.2.2.1).bind λe=>some (.inl ((w64 (v5.1+1)),g,(lset v5.2.2 a.2.1 (b.1,(lset b.2 a.2.2.1 ((w64 ((w64 (a.2.1+1))+v9)),e.2))))))) else (some (.inr v5.2)))
def kck (f:Int) (g:Bool) (h:Ya Sub) (e:Ya Use) (c:Ya (Int×Int)):Yb (Int×Int×Bool×(Ya Sub)×(Ya Use)×(Ya (Int×Int))):=
 ((iter (kbE h c) (0,[],[])).bind λv4=>(iter (kaL e) (0,v4,h)).bind λa=>if ((lenI a.1)==0)=true then (some (0,f,g,a.2,e,c)) else ((kbW a.1).bind λb=>some (b,f,g,a.2,e,c)))
def kbG (b:Ya (Ya UInt8)) (e:Int) (c:Bool) (a:Ya Sub) (f:Ya Use) (g:Ya (Int×Int)):Yb (Bool×Int×Bool×(Ya Sub)×(Ya Use)×(Ya (Int×Int))):=
 (if (!c)=true then (some (false,e,c,a,f,g)) else (if ((lenI b) != 6)=true then (some (false,e,c,a,f,g)) else ((gi b 0).bind λv0=>(kdJ v0).bind λn=>if (!n)=true then (some (false,e,c,a,f,g)) else ((gsl b 1 (lenI b)).bind λv2=>(keG v2).bind λv3=>(gi b 0).bind λv4=>(glen a).bind λv5=>(gi a (lenI a-1)).bind λu=>(gi a (lenI a-1)).bind λv=>(gi a (lenI a-1)).bind λt=>(gapp f [(v4,(w64 ((lenI a)-1)),(lenI t.2),e)]).bind λv9=>(glen a).bind λl=>(gi a (lenI a-1)).bind λs=>(glen a).bind λm=>(gi a (lenI a-1)).bind λk=>(gi a (lenI a-1)).bind λo=>(gi a (lenI a-1)).bind λh=>(gapp h.2 [(0,v3.1)]).bind λi=>(gsame (lenI a-1) (lenI a-1)).bind λp=>(gi a (lenI a-1)).bind λj=>some (v3.2,e,c,(lset a (lenI a-1) (j.1,i)),v9,g)))))
def kbq (f:Ya (Ya UInt8)) (i:Int) (e:Bool) (a:Ya Sub) (g:Ya Use) (h:Ya (Int×Int)):Yb (Bool×Int×Bool×(Ya Sub)×(Ya Use)×(Ya (Int×Int))):=
 (if (!e)=true then (some (false,i,e,a,g,h)) else (if ((lenI f) != 6)=true then (some (false,i,e,a,g,h)) else ((gi f 0).bind λv0=>(kdF v0 0 15).bind λj=>(gsl f 1 (lenI f)).bind λv2=>(keG v2).bind λv3=>(glen a).bind λv4=>(gi a (lenI a-1)).bind λv5=>(glen a).bind λl=>(gi a (lenI a-1)).bind λm=>(gi a (lenI a-1)).bind λn=>(gi a (lenI a-1)).bind λv9=>(gapp v9.2 [((-1),j.1,v3.1.2)]).bind λb=>(gsame (lenI a-1) (lenI a-1)).bind λk=>(gi a (lenI a-1)).bind λc=>if j.2=true then (some (v3.2,i,e,(lset a (lenI a-1) (c.1,b)),g,h)) else (some (false,i,e,(lset a (lenI a-1) (c.1,b)),g,h)))))
def kbK (g:Ya (Ya UInt8)) (a:Int) (e:Bool) (b:Ya Sub) (c:Ya Use) (f:Ya (Int×Int)):Yb (Bool×Int×Bool×(Ya Sub)×(Ya Use)×(Ya (Int×Int))):=
 (if e=true then (some (false,a,e,b,c,f)) else (if ((lenI g) != 1)=true then (some (false,a,e,b,c,f)) else ((gi g 0).bind λv0=>(kdJ v0).bind λh=>if (!h)=true then (some (false,a,e,b,c,f)) else ((gi g 0).bind λv2=>(gapp b [(v2,[])]).bind λv3=>some (true,a,true,v3,c,(mput f (lenI b) a))))))
def kdd (v2:Ya (Ya UInt8)) (v3:Int×Int×Bool×(Ya Sub)×(Ya Use)×(Ya (Int×Int))×Int×Int):Yb ((Int×Int×Bool×(Ya Sub)×(Ya Use)×(Ya (Int×Int))×Int×Int)⊕(((Ya Sub)×Int×Int)⊕(Int×Bool×(Ya Sub)×(Ya Use)×(Ya (Int×Int))×Int×Int))):=
 (if (decide (v3.1<(lenI v2)))=true then ((gi v2 v3.1).bind λv4=>(ken v4).bind λv5=>if ((lenI v5)==0)=true then (some (.inl ((v3.1+1),(w64 (v3.2.1+1)),v3.2.2))) else ((gi v5 0).bind λj=>(gstr j 0).bind λk=>if (k==35)=true then (some (.inl ((v3.1+1),(w64 (v3.2.1+1)),v3.2.2))) else ((gi v5 0).bind λf=>if (f==[115,117,98])=true then ((gsl v5 1 (lenI v5)).bind λv9=>(kbK v9 (w64 (v3.2.1+1)) v3.2.2.1 v3.2.2.2.1 v3.2.2.2.2.1 v3.2.2.2.2.2.1).bind λb=>if (!b.1)=true then (some (.inr (.inl ([],b.2.1,20)))) else (some (.inl ((v3.1+1),b.2.1,b.2.2.1,b.2.2.2.1,b.2.2.2.2.1,b.2.2.2.2.2,v3.2.2.2.2.2.2)))) else (if (f==[101,110,100])=true then ((gsl v5 1 (lenI v5)).bind λh=>(kju h (w64 (v3.2.1+1)) v3.2.2.1 v3.2.2.2.1 v3.2.2.2.2.1 v3.2.2.2.2.2.1).bind λc=>if (!c.1)=true then (some (.inr (.inl ([],c.2.1,20)))) else (some (.inl ((v3.1+1),c.2.1,c.2.2.1,c.2.2.2.1,c.2.2.2.2.1,c.2.2.2.2.2,v3.2.2.2.2.2.2)))) else (if (f==[98,114,105,99,107])=true then ((gsl v5 1 (lenI v5)).bind λg=>(kbq g (w64 (v3.2.1+1)) v3.2.2.1 v3.2.2.2.1 v3.2.2.2.2.1 v3.2.2.2.2.2.1).bind λa=>if (!a.1)=true then (some (.inr (.inl ([],a.2.1,20)))) else (some (.inl ((v3.1+1),a.2.1,a.2.2.1,a.2.2.2.1,a.2.2.2.2.1,a.2.2.2.2.2,v3.2.2.2.2.2.2)))) else (if (f==[117,115,101])=true then ((gsl v5 1 (lenI v5)).bind λi=>(kbG i (w64 (v3.2.1+1)) v3.2.2.1 v3.2.2.2.1 v3.2.2.2.2.1 v3.2.2.2.2.2.1).bind λe=>if (!e.1)=true then (some (.inr (.inl ([],e.2.1,20)))) else (some (.inl ((v3.1+1),e.2.1,e.2.2.1,e.2.2.2.1,e.2.2.2.2.1,e.2.2.2.2.2,v3.2.2.2.2.2.2)))) else (some (.inr (.inl ([],(w64 (v3.2.1+1)),20)))))))))) else (some (.inr (.inr v3.2))))
def kfv (c:Ya UInt8):Yb ((Ya Sub)×Int×Int):=
 (if (decide (20000<(lenI c)))=true then (some ([],0,4)) else ((kbI c [10]).bind λv0=>(kcZ v0 [10]).bind λb=>(runI λo=>kaM o b.1 b.2.1 b.2.2).bind λv2=>(iter (kdd v2) (0,0,false,[],[],[],0,0)).bind λa=>match a with | .inl v18=>(some v18) | .inr v19=>(if v19.2.1=true then (some ([],v19.1,20)) else (if ((lenI v19.2.2.1)==0)=true then (some ([],v19.1,20)) else ((kck v19.1 v19.2.1 v19.2.2.1 v19.2.2.2.1 v19.2.2.2.2.1).bind λv20=>if (decide (0<v20.1))=true then (some ([],v20.1,21)) else (if (decide (8<(lenI v20.2.2.2.1)))=true then (some ([],0,4)) else ((kat v20.2.2.2.1 (λ(e:Sub)=>((kde e).bind λf=>some f))).bind λv21=>if v21=true then (some ([],0,4)) else (some (v20.2.2.2.1,0,0)))))))))
def kfz (a:Ya UInt8):Yb (Ya UInt8):=
 ((if (decide (0<(lenI a)))=true then ((gstr a (w64 ((lenI a)-1))).bind λv0=>some (v0==13)) else (some false)).bind λb=>if b=true then ((gsl a 0 (w64 ((lenI a)-1))).bind λv2=>some v2) else (some a))
def kdy (a:Ya UInt8) (v0:Int×(Ya UInt8)×(Ya (Ya UInt8))):Yb ((Int×(Ya UInt8)×(Ya (Ya UInt8)))⊕((Ya UInt8)×(Ya (Ya UInt8)))):=
 (if (decide (v0.1<(lenI a)))=true then ((gstr a v0.1).bind λb=>if (b != 10)=true then ((gsl a v0.1 (w64 (v0.1+1))).bind λv2=>(gcat v0.2.1 v2).bind λv3=>some (.inl ((w64 (v0.1+1)),v3,v0.2.2))) else ((kfz v0.2.1).bind λv4=>(gapp v0.2.2 [v4]).bind λv5=>some (.inl ((w64 (v0.1+1)),[],v5)))) else (some (.inr v0.2)))
def kfi (c:Ya UInt8):Yb (Ya (Ya UInt8)):=
 ((iter (kdy c) (0,[],[])).bind λa=>if (!(a.1==[]))=true then ((kfz a.1).bind λb=>(gapp a.2 [b]).bind λe=>some e) else (some a.2))
def kdr (a:Ya UInt8) (v0:Int×(Ya UInt8)×(Ya (Ya UInt8))):Yb ((Int×(Ya UInt8)×(Ya (Ya UInt8)))⊕((Ya UInt8)×(Ya (Ya UInt8)))):=
 (if (decide (v0.1<(lenI a)))=true then (((gstr a v0.1).bind λc=>if (c != 32)=true then ((gstr a v0.1).bind λv2=>some (v2 != 9)) else (some false)).bind λv3=>if v3=true then ((gsl a v0.1 (w64 (v0.1+1))).bind λv4=>(gcat v0.2.1 v4).bind λv5=>some (.inl ((w64 (v0.1+1)),v5,v0.2.2))) else (if (!(v0.2.1==[]))=true then ((gapp v0.2.2 [v0.2.1]).bind λb=>some (.inl ((w64 (v0.1+1)),[],b))) else (some (.inl ((w64 (v0.1+1)),[],v0.2.2))))) else (some (.inr v0.2)))
def kdO (b:Ya UInt8):Yb (Ya (Ya UInt8)):=
 ((iter (kdr b) (0,[],[])).bind λa=>if (!(a.1==[]))=true then ((gapp a.2 [a.1]).bind λc=>some c) else (some a.2))
def kcn (a:Ya UInt8) (v0:Int):Yb (Int⊕(Bool⊕Unit)):=
 (if (decide (v0<(lenI a)))=true then (((gstr a v0).bind λc=>if (decide (97<=c))=true then ((gstr a v0).bind λv2=>some (decide (v2<=122))) else (some false)).bind λv3=>if (!v3)=true then (if (v0==0)=true then (some (.inr (.inl false))) else ((gstr a v0).bind λv4=>if (v4 != 45)=true then ((gstr a v0).bind λv5=>if (decide (v5<48))=true then (some (.inr (.inl false))) else ((gstr a v0).bind λb=>if (decide (57<b))=true then (some (.inr (.inl false))) else (some (.inl (w64 (v0+1)))))) else (some (.inl (w64 (v0+1)))))) else (some (.inl (w64 (v0+1))))) else (some (.inr (.inr ()))))
def kep (a:Ya UInt8):Yb Bool:=
 ((iter (kcn a) 0).bind λb=>match b with | .inl v8=>(some v8) | .inr v9=>(if (decide (1<=(lenI a)))=true then (some (decide ((lenI a)<=12))) else (some false)))
def keE (a:Int->Yb (Ya UInt8)) (b:Int):Yb (Ya UInt8):=
 (if (decide (b<0))=true then ((a (w64 (0-b))).bind λv0=>(gcat [45] v0).bind λc=>some c) else ((grem b 10).bind λv2=>if (decide (10<=b))=true then ((gquo .i64 b 10).bind λv3=>(a v3).bind λv4=>(gcat v4 (kcV [(IntKind.wrap .u8 (w64 (48+v2)))])).bind λv5=>some v5) else (some (kcV [(IntKind.wrap .u8 (w64 (48+v2)))]))))
def kbO:Nat->Int->Yb (Ya UInt8)
 | 0,_=>none
 | k+1,x0=>keE (kbO k) x0
def kdU (a:Int):Yb (Ya UInt8):=kbO 1000000 a
def ker (a:Int) (c:Int) (b:Int):Yb Bool:=
 (if (decide (c<=a))=true then (some (decide (a<=b))) else (some false))
def kaS (v3:Ya UInt8) (v4:Int×Int):Yb ((Int×Int)⊕((Int×Bool)⊕Int)):=
 (if (decide (v4.1<(lenI v3)))=true then ((gstr v3 v4.1).bind λv5=>if (decide (v5<48))=true then (some (.inr (.inl (0,false)))) else ((gstr v3 v4.1).bind λa=>if (decide (57<a))=true then (some (.inr (.inl (0,false)))) else ((gstr v3 v4.1).bind λb=>some (.inl ((w64 (v4.1+1)),(w64 ((w64 (10*v4.2))+(w64 (IntKind.wrap .u8 (b-48)))))))))) else (some (.inr (.inr v4.2))))
def kbr (b:Ya UInt8) (g:Int) (i:Int):Yb (Int×Bool):=
 (if (decide (5<(lenI b)))=true then (some (0,false)) else ((if (decide (0<(lenI b)))=true then ((gstr b 0).bind λv0=>some (v0==45)) else (some false)).bind λf=>(if f=true then ((gsl b 1 (lenI b)).bind λv2=>some v2) else (some b)).bind λv3=>(iter (kaS v3) (0,0)).bind λh=>match h with | .inl v9=>(some v9) | .inr v10=>((if (!(v3==b))=true then (some (w64 (0-v10))) else (some v10)).bind λa=>if (decide (0<(lenI v3)))=true then ((kdU a).bind λe=>if (e==b)=true then ((ker a g i).bind λc=>some (a,c)) else (some (a,false))) else (some (a,false)))))
def kdE (c:Ya (Ya UInt8)):Yb (Brick×Bool):=
 ((gi c 0).bind λv0=>(kbr v0 (-1000) 1000).bind λa=>(gi c 1).bind λv2=>(kbr v2 (-1000) 1000).bind λv3=>(gi c 2).bind λv4=>(kbr v4 (-1000) 1000).bind λv5=>(gi c 3).bind λf=>(kbr f 0 23).bind λb=>(gi c 4).bind λe=>(kbr e 0 15).bind λv9=>if a.2=true then (if v3.2=true then (if v5.2=true then (if b.2=true then (some ((0,(a.1,v3.1,v5.1),(IntKind.wrap .u8 b.1),(IntKind.wrap .u8 v9.1)),v9.2)) else (some ((0,(a.1,v3.1,v5.1),(IntKind.wrap .u8 b.1),(IntKind.wrap .u8 v9.1)),false))) else (some ((0,(a.1,v3.1,v5.1),(IntKind.wrap .u8 b.1),(IntKind.wrap .u8 v9.1)),false))) else (some ((0,(a.1,v3.1,v5.1),(IntKind.wrap .u8 b.1),(IntKind.wrap .u8 v9.1)),false))) else (some ((0,(a.1,v3.1,v5.1),(IntKind.wrap .u8 b.1),(IntKind.wrap .u8 v9.1)),false)))
def kfV (a:Ya (Ya UInt8)):Yb (Brick×Bool):=
 ((gi a 0).bind λv0=>if (v0==[101,110,100])=true then (some ((0,(0,0,0),0,0),((lenI a)==1))) else (((gi a 0).bind λg=>if (g==[117,115,101])=true then (if ((lenI a)==7)=true then ((gi a 1).bind λv2=>(kep v2).bind λv3=>some v3) else (some false)) else (some false)).bind λv4=>if v4=true then ((gsl a 2 (lenI a)).bind λv5=>(kdE v5).bind λf=>some f) else ((gi a 0).bind λh=>if (!(h==[98,114,105,99,107]))=true then (some ((0,(0,0,0),0,0),false)) else (if ((lenI a) != 7)=true then (some ((0,(0,0,0),0,0),false)) else ((gsl a 2 (lenI a)).bind λe=>(kdE e).bind λv9=>(gi a 1).bind λc=>(kbr c 0 15).bind λb=>if v9.2=true then (some ((b.1,v9.1.2),b.2)) else (some ((b.1,v9.1.2),false)))))))
def kcP (v0:Ya (Ya UInt8)) (a:Int×Bool×Bool×(Ya Row)):Yb ((Int×Bool×Bool×(Ya Row))⊕(((Ya Row)×Int)⊕(Bool×Bool×(Ya Row)))):=
 (if (decide (a.1<(lenI v0)))=true then ((gi v0 a.1).bind λv2=>(kdO v2).bind λv3=>if ((lenI v3)==0)=true then (some (.inl ((w64 (a.1+1)),a.2))) else ((gi v3 0).bind λv4=>(gstr v4 0).bind λv5=>if (v5==35)=true then (some (.inl ((w64 (a.1+1)),a.2))) else (if (!a.2.1)=true then ((gi v3 0).bind λg=>if (!(g==[115,117,98]))=true then (some (.inr (.inl ([],(w64 (a.1+1)))))) else (if ((lenI v3) != 2)=true then (some (.inr (.inl ([],(w64 (a.1+1)))))) else ((gi v3 1).bind λh=>(kep h).bind λf=>if (!f)=true then (some (.inr (.inl ([],(w64 (a.1+1)))))) else ((gapp a.2.2.2 [((w64 (a.1+1)),v3,0,(0,0,0),0,0)]).bind λv9=>some (.inl ((w64 (a.1+1)),true,true,v9)))))) else ((kfV v3).bind λb=>if (!b.2)=true then (some (.inr (.inl ([],(w64 (a.1+1)))))) else ((gi v3 0).bind λc=>(gapp a.2.2.2 [((w64 (a.1+1)),v3,b.1)]).bind λe=>some (.inl ((w64 (a.1+1)),(!(c==[101,110,100])),a.2.2.1,e))))))) else (some (.inr (.inr a.2))))
def kie (b:Ya UInt8):Yb ((Ya Row)×Int):=
 ((kfi b).bind λv0=>(iter (kcP v0) (0,false,false,[])).bind λa=>match a with | .inl v14=>(some v14) | .inr v15=>(if v15.1=true then (some ([],(imax (lenI v0) 1))) else (if (!v15.2.1)=true then (some ([],(imax (lenI v0) 1))) else (some (v15.2.2,0)))))
def kdX (a:Ya Sub) (c:Ya UInt8) (v0:Int):Yb (Int⊕(Int⊕Unit)):=
 (if (decide (v0<(lenI a)))=true then ((gi a v0).bind λb=>if (b.1==c)=true then (some (.inr (.inl v0))) else (some (.inl (w64 (v0+1))))) else (some (.inr (.inr ()))))
def kfS (a:Ya Sub) (b:Ya UInt8):Yb Int:=
 ((iter (kdX a b) 0).bind λv2=>match v2 with | .inl v3=>(some v3) | .inr v4=>(some (-1)))
def kfb (a:Ya Sub) (c:Ya UInt8) (b:Int):Yb Int:=
 ((iter (kdX a c) (w64 (b+1))).bind λv2=>match v2 with | .inl v3=>(some v3) | .inr v4=>(some (-1)))
def kcC (a:Ya Row) (v0:Int×(Ya Sub)):Yb ((Int×(Ya Sub))⊕(Ya Sub)):=
 (if (decide (v0.1<(lenI a)))=true then ((gi a v0.1).bind λb=>(gi b.2.1 0).bind λv2=>if (v2==[115,117,98])=true then ((gi a v0.1).bind λv3=>(gi v3.2.1 1).bind λv4=>(gapp v0.2 [(v4,[])]).bind λv5=>some (.inl ((w64 (v0.1+1)),v5))) else (some (.inl ((w64 (v0.1+1)),v0.2)))) else (some (.inr v0.2)))
def kds (b:Ya Row) (a:Int×Int×(Ya Sub)):Yb ((Int×Int×(Ya Sub))⊕(((Ya Sub)×Int)⊕(Ya Sub))):=
 (if (decide (a.1<(lenI b)))=true then ((gi b a.1).bind λf=>(gi b a.1).bind λv9=>(gi f.2.1 0).bind λc=>((if (c==[115,117,98])=true then ((gi f.2.1 1).bind λt=>(kfS a.2.2 t).bind λi=>if (i != (w64 (a.2.1+1)))=true then ((gi b a.1).bind λh=>some (.inl ([],h.1))) else (some (.inr ((w64 (a.2.1+1)),(-1),v9.2.2.1,v9.2.2.2.1.1,v9.2.2.2.1.2.1,v9.2.2.2.1.2.2,v9.2.2.2.2.1,v9.2.2.2.2.2,a.2.2)))) else (((if (c==[117,115,101])=true then ((gi f.2.1 1).bind λp=>(kfb a.2.2 p a.2.1).bind λe=>if (decide (e<0))=true then ((gi b a.1).bind λn=>some (.inl ([],n.1))) else (some (.inr (e,v9.2.2.1,v9.2.2.2.1.1,v9.2.2.2.1.2.1,v9.2.2.2.1.2.2,v9.2.2.2.2.1,v9.2.2.2.2.2,a.2.2)))) else (some (.inr ((-1),v9.2.2.1,v9.2.2.2.1.1,v9.2.2.2.1.2.1,v9.2.2.2.1.2.2,v9.2.2.2.2.1,v9.2.2.2.2.2,a.2.2)))):Yb (((Ya Sub)×Int)⊕(Int×Int×Int×Int×Int×Int×Int×(Ya Sub)))).bind λs=>match s with | .inl v18=>(some (.inl v18)) | .inr v19=>(some (.inr (a.2.1,v19))))):Yb (((Ya Sub)×Int)⊕(Int×Int×Int×Int×Int×Int×Int×Int×(Ya Sub)))).bind λv20=>match v20 with | .inl v21=>(some (.inr (.inl v21))) | .inr v22=>(((gi f.2.1 0).bind λm=>if (m==[117,115,101])=true then (some true) else ((gi f.2.1 0).bind λk=>some (k==[98,114,105,99,107]))).bind λj=>if j=true then ((gi v22.2.2.2.2.2.2.2.2 v22.1).bind λy=>(gi v22.2.2.2.2.2.2.2.2 v22.1).bind λx=>(gi v22.2.2.2.2.2.2.2.2 v22.1).bind λl=>(gapp l.2 [(v22.2.1,v22.2.2.1,(v22.2.2.2.1,v22.2.2.2.2.1,v22.2.2.2.2.2.1),v22.2.2.2.2.2.2.1,v22.2.2.2.2.2.2.2.1)]).bind λo=>(gi v22.2.2.2.2.2.2.2.2 v22.1).bind λu=>(gsame v22.1 v22.1).bind λv=>(gi v22.2.2.2.2.2.2.2.2 v22.1).bind λg=>some (.inl ((w64 (a.1+1)),v22.1,(lset v22.2.2.2.2.2.2.2.2 v22.1 (g.1,o))))) else (some (.inl ((w64 (a.1+1)),v22.1,v22.2.2.2.2.2.2.2.2))))) else (some (.inr (.inr a.2.2))))
def khi (b:Ya Row):Yb ((Ya Sub)×Int):=
 ((iter (kcC b) (0,[])).bind λc=>(iter (kds b) (0,(-1),c)).bind λa=>match a with | .inl v34=>(some v34) | .inr v35=>(some (v35,0)))
def kcR (a:(Ya Sub)×Int) (v2:Int×Bool):Yb ((Int×Bool)⊕Bool):=
 (if (decide (v2.1<(lenI a.1)))=true then (if v2.2=true then (some (.inl ((w64 (v2.1+1)),true))) else ((gi a.1 v2.1).bind λv3=>some (.inl ((w64 (v2.1+1)),(decide (20<(lenI v3.2))))))) else (some (.inr v2.2)))
def keC (b:Ya UInt8):Yb ((Ya Sub)×Int×Int):=
 (if (decide (20000<(lenI b)))=true then (some ([],0,4)) else ((kie b).bind λv0=>if (decide (0<v0.2))=true then (some ([],v0.2,20)) else ((khi v0.1).bind λa=>if (decide (0<a.2))=true then (some ([],a.2,21)) else ((iter (kcR a) (0,(decide (8<(lenI a.1))))).bind λv4=>if v4=true then (some ([],0,4)) else (some (a.1,0,0))))))
def kdT (v5:(Ya UInt8)×(Ya Line)×Sub) (c:Int):Yb (Int⊕(Bool⊕Unit)):=
 (if (decide (c<(lenI v5.2.1)))=true then ((gi v5.2.1 c).bind λa=>(gi v5.2.2.2 c).bind λb=>if (!((a.1==b.1)&&((a.2.1==b.2.1)&&(((a.2.2.1.1==b.2.2.1.1)&&((a.2.2.1.2.1==b.2.2.1.2.1)&&(a.2.2.1.2.2==b.2.2.1.2.2)))&&((a.2.2.2.1==b.2.2.2.1)&&(a.2.2.2.2==b.2.2.2.2))))))=true then (some (.inr (.inl false))) else (some (.inl (w64 (c+1))))) else (some (.inr (.inr ()))))
def kdW (a:Ya Sub) (c:Ya Sub) (v0:Int):Yb (Int⊕(Bool⊕Unit)):=
 (if (decide (v0<(lenI a)))=true then ((bthO (.pr .s (.pr (.sl tLine) tSub)) ((gi a v0).bind λb=>(gi c v0).bind λv2=>some (b.1,b.2,v2)) ((gi a v0).bind λv3=>(gi c v0).bind λv4=>some (v3.1,v3.2,v4))).bind λv5=>if (!(v5.1==v5.2.2.1))=true then (some (.inr (.inl false))) else (if ((lenI v5.2.1) != (lenI v5.2.2.2))=true then (some (.inr (.inl false))) else ((iter (kdT v5) 0).bind λv9=>match v9 with | .inl v10=>(some (.inr (.inl v10))) | .inr v11=>(some (.inl (w64 (v0+1))))))) else (some (.inr (.inr ()))))
def keu (b:Ya Sub) (c:Ya Sub):Yb Bool:=
 (if ((lenI b) != (lenI c))=true then (some false) else ((iter (kdW b c) 0).bind λa=>match a with | .inl v13=>(some v13) | .inr v14=>(some true)))
def keI (a:Ya UInt8):Yb Bool:=
 ((if (decide (3000<(lenI a)))=true then (if (decide ((lenI a)<=20000))=true then (some true) else (some (decide (21000<(lenI a))))) else (some (decide (21000<(lenI a))))).bind λv0=>if v0=true then (some true) else ((kfv a).bind λb=>(keC a).bind λv2=>(keu b.1 v2.1).bind λv3=>if v3=true then (if (b.2.1==v2.2.1)=true then (some (b.2.2==v2.2.2)) else (some false)) else (some false)))
end Go.Abs
namespace Go.Proofs
open Go.Shelf
def Tryd.itL_ren:Go.Shelf.Ren:=⟨fun | 171=>17 | 243=>40 | 246=>62 | 283=>75 | 284=>76 | 285=>77 | 286=>78 | 129=>84 | 317=>83 | 318=>85 | 319=>86 | 320=>87 | 337=>97 | 338=>98 | n=>n,fun | 3=>3 | 9=>9 | 2=>2 | 4=>4 | 171=>127 | 0=>0 | 53=>128 | 37=>44 | 5=>5 | 173=>131 | 212=>136 | 51=>137 | 20=>20 | 213=>138 | 46=>139 | 232=>160 | 233=>161 | n=>n,fun | 17=>0 | 18=>6 | 19=>7 | n=>n⟩
theorem Tryd.itL:Go.Proofs.LaysM.n171 Tryd.prog Tryd.itL_ren:={
 mixed:=by kernel_rfl
 f129:=Tryd.func84.trans (congrArg some (by kernel_rfl))
 f171:=Tryd.func17.trans (congrArg some (by kernel_rfl))
 f243:=Tryd.func40.trans (congrArg some (by kernel_rfl))
 f246:=Tryd.func62.trans (congrArg some (by kernel_rfl))
 f283:=Tryd.func75.trans (congrArg some (by kernel_rfl))
 f284:=Tryd.func76.trans (congrArg some (by kernel_rfl))
 f285:=Tryd.func77.trans (congrArg some (by kernel_rfl))
 f286:=Tryd.func78.trans (congrArg some (by kernel_rfl))
 f317:=Tryd.func83.trans (congrArg some (by kernel_rfl))
 f318:=Tryd.func85.trans (congrArg some (by kernel_rfl))
 f319:=Tryd.func86.trans (congrArg some (by kernel_rfl))
 f320:=Tryd.func87.trans (congrArg some (by kernel_rfl))
 f337:=Tryd.func97.trans (congrArg some (by kernel_rfl))
 f338:=Tryd.func98.trans (congrArg some (by kernel_rfl))
 t0:=Tryd.underlying0
 a0:=Tryd.isAgg0
 z0:=Tryd.sizeOf0
 v0:=Tryd.zeroValue0
 t2:=Tryd.underlying2
 a2:=Tryd.isAgg2
 z2:=Tryd.sizeOf2
 v2:=Tryd.zeroValue2
 t3:=Tryd.underlying3
 a3:=Tryd.isAgg3
 z3:=Tryd.sizeOf3
 v3:=Tryd.zeroValue3
 t4:=Tryd.underlying4
 a4:=Tryd.isAgg4
 z4:=Tryd.sizeOf4
 v4:=Tryd.zeroValue4
 t5:=Tryd.underlying5
 a5:=Tryd.isAgg5
 z5:=Tryd.sizeOf5
 v5:=Tryd.zeroValue5
 t9:=Tryd.underlying9
 a9:=Tryd.isAgg9
 z9:=Tryd.sizeOf9
 v9:=Tryd.zeroValue9
 t20:=Tryd.underlying20
 a20:=Tryd.isAgg20
 z20:=Tryd.sizeOf20
 v20:=Tryd.zeroValue20
 t37:=Tryd.underlying44
 a37:=Tryd.isAgg44
 z37:=Tryd.sizeOf44
 v37:=Tryd.zeroValue44
 t46:=Tryd.underlying139
 a46:=Tryd.isAgg139
 z46:=Tryd.sizeOf139
 v46:=Tryd.zeroValue139
 t51:=Tryd.underlying137
 a51:=Tryd.isAgg137
 z51:=Tryd.sizeOf137
 v51:=Tryd.zeroValue137
 t53:=Tryd.underlying128
 a53:=Tryd.isAgg128
 z53:=Tryd.sizeOf128
 v53:=Tryd.zeroValue128
 t171:=Tryd.underlying127
 a171:=Tryd.isAgg127
 z171:=Tryd.sizeOf127
 v171:=Tryd.zeroValue127
 t173:=Tryd.underlying131
 a173:=Tryd.isAgg131
 z173:=Tryd.sizeOf131
 v173:=Tryd.zeroValue131
 t212:=Tryd.underlying136
 a212:=Tryd.isAgg136
 z212:=Tryd.sizeOf136
 v212:=Tryd.zeroValue136
 t213:=Tryd.underlying138
 a213:=Tryd.isAgg138
 z213:=Tryd.sizeOf138
 t232:=Tryd.underlying160
 a232:=Tryd.isAgg160
 z232:=Tryd.sizeOf160
 v232:=Tryd.zeroValue160
 t233:=Tryd.underlying161
 a233:=Tryd.isAgg161
 z233:=Tryd.sizeOf161
 v233:=Tryd.zeroValue161
 g17:=by kernel_rfl
 g18:=by kernel_rfl
 g19:=by kernel_rfl
 i0:=by kernel_rfl
 i2:=by kernel_rfl
 i3:=by kernel_rfl
 i4:=by kernel_rfl
 i5:=by kernel_rfl
 i9:=by kernel_rfl
 i20:=by kernel_rfl
 i37:=by kernel_rfl
 i46:=by kernel_rfl
 i51:=by kernel_rfl
 i53:=by kernel_rfl
 i171:=by kernel_rfl
 i173:=by kernel_rfl
 i212:=by kernel_rfl
 i232:=by kernel_rfl
 i233:=by kernel_rfl
 m17:=by kernel_rfl
 m18:=by kernel_rfl
 m19:=by kernel_rfl }
def Tryd.ixL_ren:Go.Shelf.Ren:=⟨fun | 143=>70 | 219=>82 | 217=>93 | 225=>94 | 224=>95 | 267=>96 | 266=>102 | 314=>103 | n=>n,fun | 9=>9 | 3=>3 | 4=>4 | 5=>5 | 46=>139 | 146=>158 | 51=>137 | n=>n,fun | 1=>3 | n=>n⟩
theorem Tryd.ixL:Go.Proofs.Lays.n143 Tryd.prog Tryd.ixL_ren:={
 mixed:=by kernel_rfl
 f143:=Tryd.func70.trans (congrArg some (by kernel_rfl))
 f217:=Tryd.func93.trans (congrArg some (by kernel_rfl))
 f219:=Tryd.func82.trans (congrArg some (by kernel_rfl))
 f224:=Tryd.func95.trans (congrArg some (by kernel_rfl))
 f225:=Tryd.func94.trans (congrArg some (by kernel_rfl))
 f266:=Tryd.func102.trans (congrArg some (by kernel_rfl))
 f267:=Tryd.func96.trans (congrArg some (by kernel_rfl))
 f314:=Tryd.func103.trans (congrArg some (by kernel_rfl))
 t3:=Tryd.underlying3
 a3:=Tryd.isAgg3
 z3:=Tryd.sizeOf3
 v3:=Tryd.zeroValue3
 t4:=Tryd.underlying4
 a4:=Tryd.isAgg4
 z4:=Tryd.sizeOf4
 v4:=Tryd.zeroValue4
 t5:=Tryd.underlying5
 a5:=Tryd.isAgg5
 z5:=Tryd.sizeOf5
 v5:=Tryd.zeroValue5
 t9:=Tryd.underlying9
 a9:=Tryd.isAgg9
 z9:=Tryd.sizeOf9
 v9:=Tryd.zeroValue9
 t46:=Tryd.underlying139
 a46:=Tryd.isAgg139
 z46:=Tryd.sizeOf139
 v46:=Tryd.zeroValue139
 t51:=Tryd.underlying137
 a51:=Tryd.isAgg137
 z51:=Tryd.sizeOf137
 v51:=Tryd.zeroValue137
 t146:=Tryd.underlying158
 a146:=Tryd.isAgg158
 z146:=Tryd.sizeOf158
 v146:=Tryd.zeroValue158
 g1:=by kernel_rfl }
def Tryd.atL_ren:Go.Shelf.Ren:=⟨fun | 172=>67 | 244=>79 | 245=>80 | 247=>88 | 279=>89 | 280=>90 | 281=>91 | 282=>92 | 287=>99 | 316=>100 | 171=>17 | 205=>101 | 321=>104 | 322=>105 | 243=>40 | 246=>62 | 283=>75 | 284=>76 | 285=>77 | 286=>78 | 129=>84 | 317=>83 | 318=>85 | 319=>86 | 320=>87 | 337=>97 | 338=>98 | n=>n,fun | 9=>9 | 3=>3 | 75=>49 | 76=>50 | 4=>4 | 5=>5 | 167=>141 | 37=>44 | 0=>0 | 85=>142 | 2=>2 | 168=>144 | 53=>128 | 175=>153 | 46=>139 | 210=>156 | 127=>90 | 145=>165 | 143=>163 | 21=>21 | 171=>127 | 173=>131 | 212=>136 | 51=>137 | 20=>20 | 213=>138 | 232=>160 | 233=>161 | 80=>60 | n=>n,fun | 15=>4 | 16=>5 | 17=>0 | 18=>6 | 19=>7 | n=>n⟩
theorem Tryd.atL:Go.Proofs.LaysC.n172 Tryd.prog Tryd.atL_ren:={
 mixed:=by kernel_rfl
 f129:=Tryd.func84.trans (congrArg some (by kernel_rfl))
 f171:=Tryd.func17.trans (congrArg some (by kernel_rfl))
 f172:=Tryd.func67.trans (congrArg some (by kernel_rfl))
 f205:=Tryd.func101.trans (congrArg some (by kernel_rfl))
 f243:=Tryd.func40.trans (congrArg some (by kernel_rfl))
 f244:=Tryd.func79.trans (congrArg some (by kernel_rfl))
 f245:=Tryd.func80.trans (congrArg some (by kernel_rfl))
 f246:=Tryd.func62.trans (congrArg some (by kernel_rfl))
 f247:=Tryd.func88.trans (congrArg some (by kernel_rfl))
 f279:=Tryd.func89.trans (congrArg some (by kernel_rfl))
 f280:=Tryd.func90.trans (congrArg some (by kernel_rfl))
 f281:=Tryd.func91.trans (congrArg some (by kernel_rfl))
 f282:=Tryd.func92.trans (congrArg some (by kernel_rfl))
 f283:=Tryd.func75.trans (congrArg some (by kernel_rfl))
 f284:=Tryd.func76.trans (congrArg some (by kernel_rfl))
 f285:=Tryd.func77.trans (congrArg some (by kernel_rfl))
 f286:=Tryd.func78.trans (congrArg some (by kernel_rfl))
 f287:=Tryd.func99.trans (congrArg some (by kernel_rfl))
 f316:=Tryd.func100.trans (congrArg some (by kernel_rfl))
 f317:=Tryd.func83.trans (congrArg some (by kernel_rfl))
 f318:=Tryd.func85.trans (congrArg some (by kernel_rfl))
 f319:=Tryd.func86.trans (congrArg some (by kernel_rfl))
 f320:=Tryd.func87.trans (congrArg some (by kernel_rfl))
 f321:=Tryd.func104.trans (congrArg some (by kernel_rfl))
 f322:=Tryd.func105.trans (congrArg some (by kernel_rfl))
 f337:=Tryd.func97.trans (congrArg some (by kernel_rfl))
 f338:=Tryd.func98.trans (congrArg some (by kernel_rfl))
 t0:=Tryd.underlying0
 a0:=Tryd.isAgg0
 z0:=Tryd.sizeOf0
 v0:=Tryd.zeroValue0
 t2:=Tryd.underlying2
 a2:=Tryd.isAgg2
 z2:=Tryd.sizeOf2
 v2:=Tryd.zeroValue2
 t3:=Tryd.underlying3
 a3:=Tryd.isAgg3
 z3:=Tryd.sizeOf3
 v3:=Tryd.zeroValue3
 t4:=Tryd.underlying4
 a4:=Tryd.isAgg4
 z4:=Tryd.sizeOf4
 v4:=Tryd.zeroValue4
 t5:=Tryd.underlying5
 a5:=Tryd.isAgg5
 z5:=Tryd.sizeOf5
 v5:=Tryd.zeroValue5
 t9:=Tryd.underlying9
 a9:=Tryd.isAgg9
 z9:=Tryd.sizeOf9
 v9:=Tryd.zeroValue9
 t20:=Tryd.underlying20
 a20:=Tryd.isAgg20
 z20:=Tryd.sizeOf20
 v20:=Tryd.zeroValue20
 t21:=Tryd.underlying21
 a21:=Tryd.isAgg21
 z21:=Tryd.sizeOf21
 v21:=Tryd.zeroValue21
 t37:=Tryd.underlying44
 a37:=Tryd.isAgg44
 z37:=Tryd.sizeOf44
 v37:=Tryd.zeroValue44
 t46:=Tryd.underlying139
 a46:=Tryd.isAgg139
 z46:=Tryd.sizeOf139
 v46:=Tryd.zeroValue139
 t51:=Tryd.underlying137
 a51:=Tryd.isAgg137
 z51:=Tryd.sizeOf137
 v51:=Tryd.zeroValue137
 t53:=Tryd.underlying128
 a53:=Tryd.isAgg128
 z53:=Tryd.sizeOf128
 v53:=Tryd.zeroValue128
 t75:=Tryd.underlying49
 a75:=Tryd.isAgg49
 z75:=Tryd.sizeOf49
 v75:=Tryd.zeroValue49
 t76:=Tryd.underlying50
 a76:=Tryd.isAgg50
 z76:=Tryd.sizeOf50
 v76:=Tryd.zeroValue50
 t85:=Tryd.underlying142
 a85:=Tryd.isAgg142
 z85:=Tryd.sizeOf142
 v85:=Tryd.zeroValue142
 t127:=Tryd.underlying90
 a127:=Tryd.isAgg90
 z127:=Tryd.sizeOf90
 v127:=Tryd.zeroValue90
 t143:=Tryd.underlying163
 a143:=Tryd.isAgg163
 z143:=Tryd.sizeOf163
 v143:=Tryd.zeroValue163
 t145:=Tryd.underlying165
 a145:=Tryd.isAgg165
 z145:=Tryd.sizeOf165
 v145:=Tryd.zeroValue165
 t167:=Tryd.underlying141
 a167:=Tryd.isAgg141
 z167:=Tryd.sizeOf141
 v167:=Tryd.zeroValue141
 t168:=Tryd.underlying144
 a168:=Tryd.isAgg144
 z168:=Tryd.sizeOf144
 v168:=Tryd.zeroValue144
 t171:=Tryd.underlying127
 a171:=Tryd.isAgg127
 z171:=Tryd.sizeOf127
 v171:=Tryd.zeroValue127
 t173:=Tryd.underlying131
 a173:=Tryd.isAgg131
 z173:=Tryd.sizeOf131
 v173:=Tryd.zeroValue131
 t175:=Tryd.underlying153
 a175:=Tryd.isAgg153
 z175:=Tryd.sizeOf153
 v175:=Tryd.zeroValue153
 t210:=Tryd.underlying156
 a210:=Tryd.isAgg156
 z210:=Tryd.sizeOf156
 v210:=Tryd.zeroValue156
 t212:=Tryd.underlying136
 a212:=Tryd.isAgg136
 z212:=Tryd.sizeOf136
 v212:=Tryd.zeroValue136
 t213:=Tryd.underlying138
 a213:=Tryd.isAgg138
 z213:=Tryd.sizeOf138
 t232:=Tryd.underlying160
 a232:=Tryd.isAgg160
 z232:=Tryd.sizeOf160
 v232:=Tryd.zeroValue160
 t233:=Tryd.underlying161
 a233:=Tryd.isAgg161
 z233:=Tryd.sizeOf161
 v233:=Tryd.zeroValue161
 g15:=by kernel_rfl
 g16:=by kernel_rfl
 g17:=by kernel_rfl
 g18:=by kernel_rfl
 g19:=by kernel_rfl
 t80:=Tryd.underlying60
 a80:=Tryd.isAgg60
 z80:=Tryd.sizeOf60
 v80:=Tryd.zeroValue60
 i0:=by kernel_rfl
 i2:=by kernel_rfl
 i3:=by kernel_rfl
 i4:=by kernel_rfl
 i5:=by kernel_rfl
 i9:=by kernel_rfl
 i20:=by kernel_rfl
 i21:=by kernel_rfl
 i37:=by kernel_rfl
 i46:=by kernel_rfl
 i51:=by kernel_rfl
 i53:=by kernel_rfl
 i75:=by kernel_rfl
 i76:=by kernel_rfl
 i80:=by kernel_rfl
 i85:=by kernel_rfl
 i127:=by kernel_rfl
 i143:=by kernel_rfl
 i145:=by kernel_rfl
 i167:=by kernel_rfl
 i168:=by kernel_rfl
 i171:=by kernel_rfl
 i173:=by kernel_rfl
 i175:=by kernel_rfl
 i210:=by kernel_rfl
 i212:=by kernel_rfl
 i232:=by kernel_rfl
 i233:=by kernel_rfl
 m15:=by kernel_rfl
 m16:=by kernel_rfl
 m17:=by kernel_rfl
 m18:=by kernel_rfl
 m19:=by kernel_rfl
 c0:=by kernel_rfl
 c2:=by kernel_rfl
 c3:=by kernel_rfl
 c4:=by kernel_rfl
 c5:=by kernel_rfl
 c9:=by kernel_rfl
 c20:=by kernel_rfl
 c21:=by kernel_rfl
 c37:=by kernel_rfl
 c46:=by kernel_rfl
 c51:=by kernel_rfl
 c53:=by kernel_rfl
 c75:=by kernel_rfl
 c76:=by kernel_rfl
 c80:=by kernel_rfl
 c85:=by kernel_rfl
 c127:=by kernel_rfl
 c143:=by kernel_rfl
 c145:=by kernel_rfl
 c167:=by kernel_rfl
 c168:=by kernel_rfl
 c171:=by kernel_rfl
 c173:=by kernel_rfl
 c175:=by kernel_rfl
 c210:=by kernel_rfl
 c212:=by kernel_rfl
 c213:=by kernel_rfl
 c232:=by kernel_rfl
 c233:=by kernel_rfl }
end Go.Proofs
set_option maxRecDepth 100000
namespace Go.Abs
open Go Go.RowKit Go.Proofs
def kcQ:Ctr:=⟨ "",[],[],λ_=>none,[],[]⟩
theorem kbJ {g:FuncId}:Good Tryd.prog g kcQ:=kei
def khP:Ctr:=⟨ "",[Ti,(.pt Ti),(.pt Ti)],[.b],λx=>kev x.1 x.2.1 x.2.2,[],[]⟩
theorem kkg:Good Tryd.prog 46 khP:=
 kaq Tryd.func46 (by kernel_rfl) (An:=[]) [] (.nil) (λx=>by kernel_rfl)
def kcE:Ctr:=⟨ "",[(.sl Ti),(.fn 1 Ti .b)],[Ti],λx=>kbP x.1 x.2,[],[]⟩
theorem kel:Good Tryd.prog 66 kcE:=
 kaq Tryd.func66 (by kernel_rfl) (An:=[(0,⟨⟨[(8,.c Ti)],[]⟩,⟨[],[]⟩,[7,1,0],[],0,true,""⟩)]) [] (.nil) (λx=>by kernel_rfl)
def kcl:Ctr:=⟨ "",[(.sl Ti),(.fn 1 Ti .b)],[.b],λx=>kaU x.1 x.2,[],[]⟩
theorem kdB:Good Tryd.prog 45 kcl:=
 kaq Tryd.func45 (by kernel_rfl) (An:=[]) [(66,kcE)] (.cons kel <| .nil) (λx=>by kernel_rfl)
def kkG:Ctr:=⟨ "",[Ti,Ti,(.sl Ti)],[.b],λx=>kfm x.1 x.2.1 x.2.2,[],[]⟩
theorem khv:Good Tryd.prog 21 kkG:=
 kaq Tryd.func21 (by kernel_rfl) (An:=[]) [(45,kcl),(46,khP)] (.cons kdB <| .cons kkg <| .nil) (λx=>by kernel_rfl)
def kfG:Ctr:=⟨ "",[.s],[.b],λx=>kdJ x,[],[]⟩
theorem kgi:Good Tryd.prog 22 kfG:=
 kaq Tryd.func22 (by kernel_rfl) (An:=[(0,⟨⟨[(6,.ptr 0 0)],[(0,.si)]⟩,⟨[],[]⟩,[0],[],1,true,""⟩),(18,⟨⟨[],[]⟩,⟨[(11,.c .b)],[]⟩,[4,6,3],[0],1,false,""⟩)]) [(21,kkG)] (.cons khv <| .nil) (λx=>by kernel_rfl)
def kmZ:Ctr:=⟨ "",[Ti],[.s],λx=>strconv_Itoa x,[],[]⟩
theorem kkk:Good Tryd.prog 17 kmZ:=ktl (λx w h=>Any.strconv_Itoa Tryd.itL x h.1 h.2 w) (g:=0) (by kernel_rfl) rfl ⟨Tryd.f17,Tryd.func17,by kernel_rfl,by kernel_rfl⟩
set_option maxHeartbeats 4000000 in
theorem kuw (s:ByteArray) (k i v:Int) (w:World) (h:Calls Tryd.prog 67 #[.string s] w λe w'=>(∃ t p,e = .returned (.tuple #[.int .i64 v,.iface t p]))/\Blw w w') :
  Calls Tryd.prog 47 #[.string s,.int .i64 k,.int .i64 i] w λe w'=>e = .returned (.tuple #[.int .i64 v,.bool false])/\Blw w w':=by
 have f:∀ args w,(callFunc 67 args).run Tryd.prog w = .ok (.enter 67 args) w:=enters_of Tryd.func67 (by kernel_rfl) rfl;have t3:=Tryd.underlying3; have a3:=Tryd.isAgg3; have z3:=Tryd.sizeOf3; have v3:=Tryd.zeroValue3;have c:=Tryd.underlying49; have g:=Tryd.isAgg49; have b:=Tryd.sizeOf49; have j:=Tryd.zeroValue49;have t4:=Tryd.underlying4; have a4:=Tryd.isAgg4; have z4:=Tryd.sizeOf4; have v4:=Tryd.zeroValue4;have t9:=Tryd.underlying9; have a9:=Tryd.isAgg9; have z9:=Tryd.sizeOf9; have v9:=Tryd.zeroValue9
 go_enter Tryd.func47,Tryd.ntmps47
 go_wp2_with (go_at_fn 67; refine h.mono ?_)
 rintro e l ⟨⟨t,p,rfl⟩,a⟩
 go_wp2
 go_ret2
 exact ⟨rfl,a⟩
set_option maxHeartbeats 4000000 in
theorem kvc (s:ByteArray) (o l v:Int) (t:ByteArray) (p:¬ t.toList=s.toList) (w:World) (h:Calls Tryd.prog 67 #[.string s] w λe w'=>e = .returned (.tuple #[.int .i64 v,.nilIface])/\Blw w w')
  (b:∀ a,Blw w a->Calls Tryd.prog 17 #[.int .i64 v] a λe w'=>e = .returned (.string t)/\Blw a w') :
  Calls Tryd.prog 47 #[.string s,.int .i64 o,.int .i64 l] w λe w'=>e = .returned (.tuple #[.int .i64 v,.bool false])/\Blw w w':=by
 have j:∀ args w,(callFunc 67 args).run Tryd.prog w = .ok (.enter 67 args) w:=enters_of Tryd.func67 (by kernel_rfl) rfl;have n:∀ args w,(callFunc 17 args).run Tryd.prog w = .ok (.enter 17 args) w:=enters_of Tryd.func17 (by kernel_rfl) rfl;have t3:=Tryd.underlying3; have a3:=Tryd.isAgg3; have z3:=Tryd.sizeOf3; have v3:=Tryd.zeroValue3;have i:=Tryd.underlying49; have k:=Tryd.isAgg49; have g:=Tryd.sizeOf49; have m:=Tryd.zeroValue49;have t4:=Tryd.underlying4; have a4:=Tryd.isAgg4; have z4:=Tryd.sizeOf4; have v4:=Tryd.zeroValue4;have t9:=Tryd.underlying9; have a9:=Tryd.isAgg9; have z9:=Tryd.sizeOf9; have v9:=Tryd.zeroValue9
 go_enter Tryd.func47,Tryd.ntmps47
 go_wp2_with (go_at_fn 67; refine h.mono ?_)
 rintro e a ⟨rfl,f⟩
 go_wp2_with (go_at_fn 17; refine (b a f).mono ?_)
 rintro e u ⟨rfl,c⟩
 go_wp2
 go_ret2
 exact ⟨rfl,f.trans' c⟩
set_option maxHeartbeats 4000000 in
theorem kuN (s:ByteArray) (n l v:Int) (b:Bool) (w:World) (h:Calls Tryd.prog 67 #[.string s] w λe w'=>e = .returned (.tuple #[.int .i64 v,.nilIface])/\Blw w w')
  (g:∀ a,Blw w a->Calls Tryd.prog 17 #[.int .i64 v] a λe w'=>e = .returned (.string s)/\Blw a w')
  (x:∀ (a:World) (k:Nat),Blw w a->w.heap.size<=k->a.heap[k]?=some (.cells #[.int .i64 v] 3 (0,0))->Calls Tryd.prog 21 #[.int .i64 n,.int .i64 l,.slice (some ⟨k,0,none⟩) 1 1] a λe w'=>e = .returned (.bool b)/\Blw a w') :
  Calls Tryd.prog 47 #[.string s,.int .i64 n,.int .i64 l] w λe w'=>e = .returned (.tuple #[.int .i64 v,.bool b])/\Blw w w':=by
 have u:∀ args w,(callFunc 67 args).run Tryd.prog w = .ok (.enter 67 args) w:=enters_of Tryd.func67 (by kernel_rfl) rfl;have C:∀ args w,(callFunc 17 args).run Tryd.prog w = .ok (.enter 17 args) w:=enters_of Tryd.func17 (by kernel_rfl) rfl;have D:∀ args w,(callFunc 21 args).run Tryd.prog w = .ok (.enter 21 args) w:=enters_of Tryd.func21 (by kernel_rfl) rfl;have t3:=Tryd.underlying3; have a3:=Tryd.isAgg3; have z3:=Tryd.sizeOf3; have v3:=Tryd.zeroValue3;have t:=Tryd.underlying49; have y:=Tryd.isAgg49; have p:=Tryd.sizeOf49; have B:=Tryd.zeroValue49;have t4:=Tryd.underlying4; have a4:=Tryd.isAgg4; have z4:=Tryd.sizeOf4; have v4:=Tryd.zeroValue4;have t9:=Tryd.underlying9; have a9:=Tryd.isAgg9; have z9:=Tryd.sizeOf9; have v9:=Tryd.zeroValue9;have A:=Tryd.underlying47; have z:=Tryd.isAgg47; have E:=Tryd.sizeOf47; have o:=Tryd.zeroValue47
 go_enter Tryd.func47,Tryd.ntmps47
 go_wp2_with (go_at_fn 67; refine h.mono ?_)
 rintro e a ⟨rfl,f⟩
 go_wp2_with (go_at_fn 17; refine (g a f).mono ?_)
 rintro e m ⟨rfl,c⟩;have j:=(f.trans' c).trans' (Blw.alloc' m (.cells #[.int .i64 v] 3))
 go_wp2_with (go_at_fn 21; refine (x _ _ j (f.trans' c).1.size (heap_alloc_new m _)).mono ?_)
 rintro e F ⟨rfl,i⟩
 go_wp2
 go_ret2
 exact ⟨rfl,j.trans' i⟩
def kfK:Ctr:=⟨ "",[.s,Ti,Ti],[Ti,.b],λx=>kdF x.1 x.2.1 x.2.2,[],[]⟩
theorem kgB:Good Tryd.prog 47 kfK:=kqE Tryd.atL rfl rfl kkk khv ⟨Tryd.f47,Tryd.func47,by kernel_rfl,by kernel_rfl⟩ (λs a c v w h=>kuw s a c v w h) (λs a c v t f w e h2=>kvc s a c v t f w e h2) (λs a c v b w e h2 g=>kuN s a c v b w e h2 g)
def kgg:Ctr:=⟨ "",[(.sl .s)],[kjS,.b],λx=>keG x,[],[]⟩
theorem kgU:Good Tryd.prog 48 kgg:=
 kaq Tryd.func48 (by kernel_rfl) (An:=[(0,⟨⟨[(13,.c Ti),(2,.ptr 0 0),(4,.ptr 1 0)],[(0,.bx 57 [.c Ti,.c Ti,.c Ti,.c Ti,.c (.i .u8),.c (.i .u8)]),(1,.el 118 (.ar 5 Ti))]⟩,⟨[(4,.ptr 2 0),(2,.ptr 3 0)],[(2,.el 118 (.ar 5 Ti)),(3,.bx 57 [.c Ti,.c Ti,.c Ti,.c Ti,.c (.i .u8),.c (.i .u8)])]⟩,[12,11],[],4,true,""⟩),(77,⟨⟨[],[]⟩,⟨[(7,.c Ti),(8,.c Ti)],[]⟩,[6,2,5,4,13,18],[0,1],2,false,""⟩),(85,⟨⟨[],[]⟩,⟨[(7,.c Ti),(8,.c Ti)],[]⟩,[],[],2,false,""⟩)]) [(47,kfK)] (.cons kgB <| .nil) (λx=>by kernel_rfl)
theorem kjm:NowOk Tryd.prog 49 0 42:=λh n q S p w T cs es b h2 j c o m f l=>by
 obtain ⟨a0,rest,rfl⟩:∃ a0 rest,cs=a0::rest:=by
  cases cs with
  | nil=>cases h2
  | cons a0 rest=>exact ⟨a0,rest,rfl⟩
 obtain rfl:a0 = .ms S 0 es.length:=Option.some.inj h2;have hl:es.length≠0:=λe=>c (List.length_eq_zero_iff.1 e);have g:deref h (.own q 0 0)=some (.ms S 0 es.length::rest):=by simp [deref,b]
 have k:w64 ((es.length:Int)-1)=((es.length-1:Nat):Int):=by rw [kbs (by omega) (by omega)]; omega
 refine HC.of_body (fn:=Tryd.f49) Tryd.func49 rfl (by kernel_rfl) (by show 1<=16; omega) λD O hD=>?_;let a:AV:=.own q 0 0
 let L:AV:=.ms S 0 es.length
 refine Sat.ofL (SatL.seq (SatL.rreg rfl ⟨.sc (.pointer none),.assign rfl rfl,?_⟩));refine SatL.seq (SatL.rregD (by kernel_rfl) (by kernel_rfl) rfl ⟨a,.move rfl rfl,a,.nilc rfl rfl b,a,.fld0 (ft:=24) rfl (by kernel_rfl) rfl b,a,.fld0 (ft:=22) rfl (by kernel_rfl) rfl b,L,.load rfl g (by kernel_rfl),a,.move rfl rfl,a,.nilc rfl rfl b,a,.fld0 (ft:=24) rfl (by kernel_rfl) rfl b,a,.fld0 (ft:=22) rfl (by kernel_rfl) rfl b,L,.load rfl g (by kernel_rfl),
  .sc (.int .i64 es.length),.lenRow rfl rfl rfl rfl rfl (by kernel_rfl) (.inr ⟨S,_,_,_,rfl,j⟩),.sc (.int .i64 ((es.length-1:Nat):Int)),.bin rfl rfl rfl (λK i=>⟨rfl,by rw [<-k] at i; exact i⟩),.own S (es.length-1) 0,.idxMs (e:=42) rfl rfl rfl (by kernel_rfl) j (by omega) m f,.own S (es.length-1) 0,.assign rfl rfl,?_⟩)
 exact SatL.ret ⟨_,rfl,rfl,rfl,rfl⟩
def kdA:Ctr:=⟨ "",[.nt,.ar 0 (.ar 42 .nt)],[],λ_=>none,[],[]⟩
theorem keA:Good Tryd.prog 49 kdA:=⟨rfl,λx r h=>(by cases h),λM h=>(by cases h),kjm⟩
def kch:Ctr:=⟨ "",[.s,.s],[.b],λx=>kbt x.1 x.2,[],[]⟩
theorem kdw:Good Tryd.prog 71 kch:=
 kaq Tryd.func71 (by kernel_rfl) (An:=[]) [] (.nil) (λx=>by kernel_rfl)
def kbY:Ctr:=⟨ "",[.s,.s],[.s],λx=>kbo x.1 x.2,[],[]⟩
theorem kdk:Good Tryd.prog 51 kbY:=
 kaq Tryd.func51 (by kernel_rfl) (An:=[]) [(71,kch)] (.cons kdw <| .nil) (λx=>by kernel_rfl)
def kcM:Ctr:=⟨ "",[.s,.s],[.s],λx=>kbI x.1 x.2,[],[]⟩
theorem kdz:Good Tryd.prog 32 kcM:=
 kaq Tryd.func32 (by kernel_rfl) (An:=[]) [(51,kbY)] (.cons kdk <| .nil) (λx=>by kernel_rfl)
def kmc:Ctr:=⟨ "",[.s,.s],[Ti],λx=>kok x.1 x.2,[],[]⟩
theorem strings_Index_C_ok:Good Tryd.prog 70 kmc:=krX (λx c w=>Any.strings_Index_one Tryd.ixL ⟨x.toArray⟩ c w) ⟨Tryd.f70,Tryd.func70,by kernel_rfl,by kernel_rfl⟩
def kef:CtrI:=⟨ "",[.pt .s,.pt .s,.pt Ti],[.s],λx=>runI λo=>kaM o x.1 x.2.1 x.2.2⟩
def splC (s:Ya UInt8):AV:=.sc (.string ⟨s.toArray⟩)
def SplI (G:IterG) (c:UInt8) (T:Nat->Yc) (xs:Ya (Ya UInt8)) (s:Ya UInt8) (st:St):Prop:=
 st.n=3/\(st.h 0=some (.cells 1 (T 0) [[splC [c]]])/\st.h 1=some (.cells 1 (T 1) [[splC s]])/\st.h 2=some (.cells 1 (T 2) [[.sc (.int .i64 0)]])/\∀ id B,st.h id=some B->id<3)/\s.length<=9223372036854775806/\
 lk st.env 0 = .sc (.func (.yield G.l) #[] #[])/\lk st.env 1 = .own 0 0 0/\lk st.env 2 = .own 1 0 0/\lk st.env 3 = .own 2 0 0/\∃ es a,lk st.env GS = .gs es/\a.length=es.length/\xs=a++kaE c s
theorem ktG (s:Ya UInt8) (c:UInt8):PC Tryd.prog 70 [splC s,splC [c]] (·= .sc (.int .i64 (Lib.indexByte s c))):=
 strings_Index_C_ok.2.1 (s,[c]) _ rfl _ ⟨_,_,rfl,(kaI rfl).2 rfl,_,rfl,(kaI rfl).2 rfl⟩
theorem kgo:GoodI Tryd.prog 68 kef true:=by
 refine ⟨rfl,λx xs hF l hl=>?_⟩;obtain ⟨z,s,k⟩:=x;obtain ⟨a,l',rfl,ha,a',aa,rfl,X,ab,rfl,H⟩:=hl;obtain rfl:=(kaI rfl).1 ha;obtain rfl:=(kaI rfl).1 X;obtain rfl:=(kaI rfl).1 H;replace hF:klG z s k=some xs:=by
  obtain ⟨ac,g,h2⟩:=jaa.1 (show runI (λo=>kaM o z s k)=some xs from hF);obtain ⟨ys,m,N⟩:=jaa.1 h2;split at N
  ·cases N; exact g
  ·cases N
 obtain ⟨c,rfl,rfl,Z,rfl⟩:∃ c:UInt8,z=[c]/\@Eq Int k 0/\@List.length UInt8 s<=9223372036854775806/\kaE c s=xs:=by
  rcases z with _ | ⟨c,_ | ⟨d,t⟩⟩
  ·cases hF
  ·unfold klG at hF;simp only at hF;split at hF
   ·rename_i h; exact ⟨c,rfl,h.1,h.2,Option.some.inj hF⟩
   ·cases hF
  ·cases hF
 refine IT.own (fn:=Tryd.f68) Tryd.func68 rfl (by kernel_rfl) (by show 4<=52; omega) (by show 52<=9000000; omega) rfl λD G O T hD J hn ok=>?_;generalize e:kaE c s=xs at J ⊢;replace J:G.xs=(xs.map λy:Ya UInt8=>[splC y]):=J;let Y:AV:=.sc (.func (.yield G.l) #[] #[])
 have hH:∀ id B,ownH [.fp [splC [c]],.fp [splC s],.fp [.sc (.int .i64 0)]] T id=some B->id<3:=λid B h=>by
  match id,h with
  | 0,_=>omega
  | 1,_=>omega
  | 2,_=>omega
  | id+3,h=>cases h
 suffices main:∀ st,SplI G c T xs s st->Sat Tryd.prog 52 D O (Tryd.f68.body.getD .skip) (itQ (xs.map λy:Ya UInt8=>[splC y])) st from
  main ⟨(GS,.gs [])::kar [Y,.own 0 0 0,.own 1 0 0,.own 2 0 0],_,3⟩ ⟨rfl,⟨rfl,rfl,rfl,hH⟩,Z,rfl,rfl,rfl,rfl,[],[],rfl,rfl,e.symm⟩
 clear e hH Z;intro st hI;have L:∀ (s:Ya UInt8) (st:St),SplI G c T xs s st->Lib.indexByte s c = -1->SatL Tryd.prog 52 D O [(Tryd.f68.body.getD .skip |> λc=>match c with | .seq _ (.seq _ c)=>c | c=>c)] (itQ (xs.map λy:Ya UInt8=>[splC y])) st:=λs st hI hi=>by
  obtain ⟨env,h,n⟩:=st;obtain ⟨rfl,⟨A,g,h2,m⟩,hl,e0,p,j,F,es,f,C,hp,e⟩:=hI;rw [kkn c s hi] at e;refine SatL.yregK 2 rfl hD ok rfl ⟨Y,.move rfl e0,splC s,.load rfl (show deref h (lk env 2)=_ by rw [j]; exact kcI g) (by kernel_rfl),.inl rfl,_,_,es,[.string ⟨s.toArray⟩],rfl,rfl,rfl,C,?_,rfl,?_,λb=>?_⟩
  ·rw [J,e,jas,<-hp,jbj (jah _),Nat.sub_self]; rfl
  ·rw [hn]; exact m
  ·cases b with
   | true=>exact ⟨.inl rfl,.inl ⟨_,rfl,by rw [jbb,e,jax,jax,hp]; rfl⟩⟩
   | false=>exact ⟨.inl rfl,.inr rfl⟩
 obtain ⟨env,h,n⟩:=st;have hI0:=hI;obtain ⟨rfl,⟨A,g,h2,m⟩,hl,e0,p,j,F,es,f,C,hp,e⟩:=hI;refine Sat.ofL (SatL.seq (SatL.seq (SatL.rreg rfl ⟨splC [c],.load rfl (show deref h (lk env 1)=_ by rw [p]; exact kcI A) (by kernel_rfl),_,.lenS rfl rfl rfl rfl rfl (by kernel_rfl),.sc (.bool false),.bin rfl rfl rfl (λK u=>⟨rfl,u⟩),?_⟩)));refine SatL.condF (v:=false) rfl rfl (SatL.skip ?_);refine SatL.seq (SatL.block (SatL.loop (α:=Ya UInt8) [0,1,2,3,GS] (SplI G c T xs) (λs=>s.length) s ⟨rfl,⟨A,g,h2,m⟩,hl,e0,p,j,F,es,f,C,hp,e⟩ λs st hI=>?_));clear hI0 hl e0 p j F C hp e A g h2 m es f env h;obtain ⟨env,h,n⟩:=st;obtain ⟨rfl,⟨A,g,h2,m⟩,hl,e0,p,j,F,es,f,C,hp,e⟩:=hI;have P:=ktG s c;have W:=Lib.indexByte_ge s c;generalize hI:Lib.indexByte s c=I at P W;refine SatL.block (SatL.seq (SatL.rreg rfl ⟨splC s,.load rfl (show deref h (lk env 2)=_ by rw [j]; exact kcI g) (by kernel_rfl),splC [c],.load rfl (show deref h (lk env 1)=_ by rw [p]; exact kcI A) (by kernel_rfl),.sc (.int .i64 I),.call rfl rfl rfl rfl P (by simp only [putE,splC,jat,ev,kvl,Nat.reduceEqDiff,if_false,if_true,jdt,kbV,kuZ,kgS,and_self]),.sc (.int .i64 I),.assign rfl rfl,?_⟩));refine SatL.seq (SatL.seq (SatL.rreg rfl ⟨.sc (.int .i64 I),.move rfl rfl,.sc (.bool (decide (I<0))),.bin rfl rfl rfl (λK u=>⟨rfl,u⟩),?_⟩));refine SatL.condX (v:=decide (I<0)) rfl (λR=>?_) λR=>SatL.skip ?_
 ·have:=of_decide_eq_true R;refine SatL.exit ?_;have thenX:∀ {K:St->Prop} {Q:Exit->St->Prop} {id:Nat} {st:St},Q (.exit id) st->thenQ K Q (.exit id) st:=λh=>h;refine kqD (by decide) (thenX (thenX (thenX (kfl (thenN ?_)))));exact L s _ ⟨rfl,⟨A,g,h2,m⟩,hl,e0,p,j,F,es,f,C,hp,e⟩ (by omega)
 obtain ⟨i,rfl⟩:∃ i:Nat,I=i:=⟨I.toNat,by have:=of_decide_eq_false R; omega⟩;obtain ⟨g1,g2⟩:=kkv c s i hI;rw [g2] at e;have E:(⟨s.toArray⟩:ByteArray).size=s.length:=by simp [ByteArray.size]
 have w0:w64 ((i:Int)+0)=i:=kbs (by omega) (by omega);have w1:w64 ((i:Int)+1)=i+1:=kbs (by omega) (by omega);refine SatL.seq (SatL.rreg rfl ⟨splC s,.load rfl (show deref h (lk env 2)=_ by rw [j]; exact kcI g) (by kernel_rfl),.sc (.int .i64 i),.move rfl rfl,.sc (.int .i64 0),.load rfl (show deref h (lk env 3)=_ by rw [F]; exact kcI h2) (by kernel_rfl),
  .sc (.int .i64 i),.bin rfl rfl rfl (λK u=>⟨rfl,by rw [<-w0] at u; exact u⟩),splC (s.take i),.slS rfl rfl (by kernel_rfl) (λK hK=>⟨jds _,Int.natCast_nonneg _,by rw [E]; omega,hK _ _ (by rw [splC,kjA]; simp)⟩),splC (s.take i),.assign rfl rfl,?_⟩)
 refine SatL.seq (SatL.seq (SatL.yregK 2 rfl hD ok rfl ⟨Y,.move rfl e0,splC (s.take i),.move rfl rfl,.inl rfl,_,_,es,[.string ⟨(s.take i).toArray⟩],rfl,rfl,rfl,C,?_,rfl,?_,λb=>aopsR.plain ⟨.sc (.bool !b),.not b rfl rfl rfl,?_⟩⟩))
 ·rw [J,e,jas,<-hp,jbj (jah _),Nat.sub_self]; rfl
 ·rw [hn]; exact m
 cases b with
 | false=>exact SatL.condT (v:=true) rfl rfl (SatL.ret ⟨.inr rfl,.inr rfl⟩)
 | true=>
  refine SatL.condF (v:=false) rfl rfl (SatL.skip ?_);refine Sat.region rfl (aops.rd rfl (.load rfl (show deref h (lk env 2)=_ by rw [j]; exact kcI g) (by kernel_rfl))<|aops.rd rfl (.move rfl rfl)<|aops.rd rfl (.load rfl (show deref h (lk env 1)=_ by rw [p]; exact kcI A) (by kernel_rfl))<|aops.rd rfl (.lenS rfl rfl rfl rfl rfl (by kernel_rfl)) <|
   aops.rd (v:=.sc (.int .i64 ((i:Int)+1))) rfl (.bin rfl rfl rfl (λK u=>⟨rfl,by rw [<-w1] at u; exact u⟩))<|aops.rd (v:=splC (s.drop (i+1))) rfl (.slS rfl rfl (by kernel_rfl) (λK hK=>⟨by omega,by rw [E]; omega,jds _,hK _ _ (by rw [E,kjA,splC]; simp)⟩))<|aops.cons rfl <|
   aop.store (id:=1) (T':=T 1) (k:=1) (a:=splC s) (b:=splC (s.drop (i+1))) rfl (show lk env 2=_ from j) g rfl (by kernel_rfl) ?_)
  refine ⟨s.drop (i+1),⟨rfl,⟨show updH h 1 (.cells 1 (T 1) [[splC (s.drop (i+1))]]) 0=_ from (if_neg (by decide)).trans A,show updH h 1 (.cells 1 (T 1) [[splC (s.drop (i+1))]]) 1=_ from if_pos rfl,show updH h 1 (.cells 1 (T 1) [[splC (s.drop (i+1))]]) 2=_ from (if_neg (by decide)).trans h2,λid B hB=>?_⟩,by simp; omega,e0,p,j,F,es++[[]],f++[s.take i],rfl,by simp [hp],by rw [e]; simp⟩,by simp; omega⟩;by_cases N:id=1
  ·omega
  ·exact m id B ((show updH h 1 (.cells 1 (T 1) [[splC (s.drop (i+1))]]) id=_ from if_neg N).symm.trans hB)
def kbM:Ctr:=⟨ "",[.nt],[],λ_=>none,[],[kef]⟩
theorem kcf:Good Tryd.prog 68 kbM:=⟨rfl,λx r h=>(by cases h),λM h=>(by cases h),λI h=>by
 obtain rfl:=List.mem_singleton.1 h;exact kgo⟩
def strings_splitSeq_m0_M:CtrM:=⟨ "",[some .s,some .s,some Ti],⟨[],[]⟩,0,⟨[(1000000,.fn 68 [.ptr 0 0,.ptr 1 0,.ptr 2 0])],[(0,.bx 9 [.c .s]),(1,.bx 9 [.c .s]),(2,.bx 3 [.c Ti])]⟩,3,1,λx=>keK x.1 x.2.1 x.2.2,false⟩
theorem kgI:strings_splitSeq_m0_M.ok=true/\GoodM Tryd.prog 50 strings_splitSeq_m0_M:=
 kdl Tryd.func50 (by kernel_rfl) (An:=[]) [(68,kbM)] (.cons kcf <| .nil) (λx=>by kernel_rfl)
theorem strings_splitSeq_C_ok:Good Tryd.prog 50 kcQ:=kei
def keL:Ctr:=⟨ "",kcQ.asZ,kcQ.rs,kcQ.F,strings_splitSeq_m0_M::kcQ.mus,kcQ.its⟩
theorem khn:Good Tryd.prog 50 keL:=(strings_splitSeq_C_ok.more kgI)
def strings_SplitSeq_m0_M:CtrM:=⟨ "",[some .s,some .s],⟨[],[]⟩,0,⟨[(1000000,.fn 68 [.ptr 0 0,.ptr 1 0,.ptr 2 0])],[(0,.bx 9 [.c .s]),(1,.bx 9 [.c .s]),(2,.bx 3 [.c Ti])]⟩,3,1,λx=>kcZ x.1 x.2,false⟩
theorem kgv:strings_SplitSeq_m0_M.ok=true/\GoodM Tryd.prog 31 strings_SplitSeq_m0_M:=
 kdl Tryd.func31 (by kernel_rfl) (An:=[]) [(50,keL),(68,kbM)] (.cons khn <| .cons kcf <| .nil) (λx=>by kernel_rfl)
theorem strings_SplitSeq_C_ok:Good Tryd.prog 31 kcQ:=kei
def keN:Ctr:=⟨ "",kcQ.asZ,kcQ.rs,kcQ.F,strings_SplitSeq_m0_M::kcQ.mus,kcQ.its⟩
theorem khp:Good Tryd.prog 31 keN:=(strings_SplitSeq_C_ok.more kgv)
def kez:Ctr:=⟨ "",[.s,(.fn 1 (.i .i32) .b)],[(.sl .s)],λx=>kdi x.1 x.2,[],[]⟩
theorem kgM:Good Tryd.prog 52 kez:=
 kaq Tryd.func52 (by kernel_rfl) (An:=[(0,⟨⟨[(14,.ptr 2 0),(6,.c Ti),(5,.mw 1)],[(2,.si),(1,.sl 125 (.pr Ti Ti))]⟩,⟨[(6,.c Ti),(5,.mw 3)],[(3,.sl 125 (.pr Ti Ti))]⟩,[1,0],[],4,false,""⟩),(145,⟨⟨[(5,.mw 3)],[(3,.sl 125 (.pr Ti Ti))]⟩,⟨[(5,.mw 4)],[(4,.sl 125 (.pr Ti Ti))]⟩,[6,0],[],5,false,""⟩),(8,⟨⟨[(49,.c Ti),(9,.mw 5)],[(5,.sl 9 .s)]⟩,⟨[(9,.mw 6)],[(6,.sl 9 .s)]⟩,[48,47,0],[4],7,false,""⟩)]) [] (.nil) (λx=>by kernel_rfl)
def khc:Ctr:=⟨ "",[(.i .i32)],[.b],λx=>kcS x,[],[]⟩
theorem kjy:Good Tryd.prog 53 khc:=
 kaq Tryd.func53 (by kernel_rfl) (An:=[]) [] (.nil) (λx=>by kernel_rfl)
def kjp:Ctr:=⟨ "",[.s],[(.sl .s)],λx=>ken x,[],[]⟩
theorem kml:Good Tryd.prog 33 kjp:=
 kaq Tryd.func33 (by kernel_rfl) (An:=[]) [(53,khc),(52,kez),(32,kcM)] (.cons kjy <| .cons kgM <| .cons kdz <| .nil) (λx=>by kernel_rfl)
def kee:Ctr:=⟨ "",[tSub,(.pt tUse)],[.b],λx=>kcY x.1 x.2,[],[]⟩
theorem kgk:Good Tryd.prog 55 kee:=
 kaq Tryd.func55 (by kernel_rfl) (An:=[]) [] (.nil) (λx=>by kernel_rfl)
def kaW:Ctr:=⟨ "",[(.sl tSub),(.fn 1 tSub .b)],[Ti],λx=>kaw x.1 x.2,[],[]⟩
theorem kbx:Good Tryd.prog 54 kaW:=
 kaq Tryd.func54 (by kernel_rfl) (An:=[(0,⟨⟨[(8,.c Ti)],[]⟩,⟨[],[]⟩,[7,1,0],[],0,true,""⟩)]) [] (.nil) (λx=>by kernel_rfl)
def kdL:Ctr:=⟨ "",[(.sl Ti)],[Ti],λx=>kbW x,[],[]⟩
theorem kfU:Good Tryd.prog 56 kdL:=
 kaq Tryd.func56 (by kernel_rfl) (An:=[(29,⟨⟨[],[]⟩,⟨[],[]⟩,[0],[],0,false,""⟩),(0,⟨⟨[(4,.c Ti),(3,.c Ti)],[]⟩,⟨[(3,.c Ti)],[]⟩,[0],[],0,false,""⟩)]) [] (.nil) (λx=>by kernel_rfl)
def khR:Ctr:=⟨ "",[tSub],[.b],λx=>kde x,[],[]⟩
theorem kki:Good Tryd.prog 35 khR:=
 kaq Tryd.func35 (by kernel_rfl) (An:=[]) [] (.nil) (λx=>by kernel_rfl)
def kbv:Ctr:=⟨ "",[(.sl tSub),(.fn 1 tSub .b)],[.b],λx=>kat x.1 x.2,[],[]⟩
theorem kcG:Good Tryd.prog 36 kbv:=
 kaq Tryd.func36 (by kernel_rfl) (An:=[]) [(54,kaW)] (.cons kbx <| .nil) (λx=>by kernel_rfl)
def text_reader_end_m0_M:CtrM:=⟨ "",[none,some (.sl .s)],⟨[(0,.ptr 0 0)],[(0,.bx 72 [.mw 1,.mw 2,.mp 3,.c Ti,.c .b]),(1,.sl 42 tSub),(2,.sl 103 tUse),(3,.mp Ti Ti)]⟩,4,⟨[(0,.ptr 0 0),(1000000,.c .b)],[(0,.bx 72 [.mw 1,.mw 2,.mp 3,.c Ti,.c .b]),(1,.sl 42 tSub),(2,.sl 103 tUse),(3,.mp Ti Ti)]⟩,4,1,λx=>kju x.1 x.2.1 x.2.2.1 x.2.2.2.1 x.2.2.2.2.1 x.2.2.2.2.2,false⟩
theorem kgP:text_reader_end_m0_M.ok=true/\GoodM Tryd.prog 28 text_reader_end_m0_M:=
 kdl Tryd.func28 (by kernel_rfl) (An:=[]) [] (.nil) (λx=>by kernel_rfl)
theorem text_reader_end_C_ok:Good Tryd.prog 28 kcQ:=kei
def text_reader_end_C2:Ctr:=⟨ "",kcQ.asZ,kcQ.rs,kcQ.F,text_reader_end_m0_M::kcQ.mus,kcQ.its⟩
theorem text_reader_end_C2_ok:Good Tryd.prog 28 text_reader_end_C2:=(text_reader_end_C_ok.more kgP)
def text_reader_name_m0_M:CtrM:=⟨ "",[none],⟨[(0,.ptr 0 0)],[(0,.bx 72 [.fw 1,.mw 2,.mp 3,.c Ti,.c .b]),(1,.fm 42 tSub 1 59 tLine),(2,.sl 103 tUse),(3,.mp Ti Ti)]⟩,4,⟨[(0,.ptr 0 0),(1000000,.c Ti)],[(0,.bx 72 [.fw 1,.mw 2,.mp 3,.c Ti,.c .b]),(1,.fm 42 tSub 1 59 tLine),(2,.sl 103 tUse),(3,.mp Ti Ti)]⟩,4,1,λx=>kck x.1 x.2.1 x.2.2.1 x.2.2.2.1 x.2.2.2.2,false⟩
theorem kgm:text_reader_name_m0_M.ok=true/\GoodM Tryd.prog 34 text_reader_name_m0_M:=
 kdl Tryd.func34 (by kernel_rfl) (An:=[(0,⟨⟨[(19,.c Ti),(4,.mp 5),(3,.mw 4)],[(5,.mp .s Ti),(4,.sl 3 Ti)]⟩,⟨[(3,.mw 6)],[(6,.sl 3 Ti)]⟩,[18,17],[1,0,2,3],7,false,""⟩),(8,⟨⟨[(51,.c Ti),(3,.mw 6)],[(6,.sl 3 Ti),(1,.fm 42 tSub 1 59 tLine)]⟩,⟨[(3,.mw 7)],[(7,.sl 3 Ti),(1,.fm 42 tSub 1 59 tLine)]⟩,[50,49],[2,0,3],9,false,""⟩),(269,⟨⟨[(3,.mw 6)],[(6,.sl 3 Ti)]⟩,⟨[(3,.mw 8)],[(8,.sl 3 Ti)]⟩,[10,11,51],[7,1],9,false,""⟩)]) [(56,kdL),(54,kaW),(55,kee)] (.cons kfU <| .cons kbx <| .cons kgk <| .nil) (λx=>by kernel_rfl)
theorem text_reader_name_C_ok:Good Tryd.prog 34 kcQ:=kei
def keM:Ctr:=⟨ "",kcQ.asZ,kcQ.rs,kcQ.F,text_reader_name_m0_M::kcQ.mus,kcQ.its⟩
theorem khl:Good Tryd.prog 34 keM:=(text_reader_name_C_ok.more kgm)
def text_reader_use_m0_M:CtrM:=⟨ "",[none,some (.sl .s)],⟨[(0,.ptr 0 0)],[(0,.bx 72 [.fw 1,.mw 2,.mp 3,.c Ti,.c .b]),(1,.fm 42 tSub 1 59 tLine),(2,.sl 103 tUse),(3,.mp Ti Ti)]⟩,4,⟨[(0,.ptr 0 0),(1000000,.c .b)],[(0,.bx 72 [.fw 4,.mw 5,.mp 6,.c Ti,.c .b]),(4,.fm 42 tSub 1 59 tLine),(5,.sl 103 tUse),(6,.mp Ti Ti)]⟩,7,1,λx=>kbG x.1 x.2.1 x.2.2.1 x.2.2.2.1 x.2.2.2.2.1 x.2.2.2.2.2,false⟩
theorem kgO:text_reader_use_m0_M.ok=true/\GoodM Tryd.prog 30 text_reader_use_m0_M:=
 kdl Tryd.func30 (by kernel_rfl) (An:=[]) [(49,kdA),(48,kgg),(22,kfG)] (.cons keA <| .cons kgU <| .cons kgi <| .nil) (λx=>by kernel_rfl)
theorem text_reader_use_C_ok:Good Tryd.prog 30 kcQ:=kei
def kfp:Ctr:=⟨ "",kcQ.asZ,kcQ.rs,kcQ.F,text_reader_use_m0_M::kcQ.mus,kcQ.its⟩
theorem khI:Good Tryd.prog 30 kfp:=(text_reader_use_C_ok.more kgO)
def text_reader_brick_m0_M:CtrM:=⟨ "",[none,some (.sl .s)],⟨[(0,.ptr 0 0)],[(0,.bx 72 [.fw 1,.mw 2,.mp 3,.c Ti,.c .b]),(1,.fm 42 tSub 1 59 tLine),(2,.sl 103 tUse),(3,.mp Ti Ti)]⟩,4,⟨[(0,.ptr 0 0),(1000000,.c .b)],[(0,.bx 72 [.fw 4,.mw 5,.mp 6,.c Ti,.c .b]),(4,.fm 42 tSub 1 59 tLine),(5,.sl 103 tUse),(6,.mp Ti Ti)]⟩,7,1,λx=>kbq x.1 x.2.1 x.2.2.1 x.2.2.2.1 x.2.2.2.2.1 x.2.2.2.2.2,false⟩
theorem kfT:text_reader_brick_m0_M.ok=true/\GoodM Tryd.prog 29 text_reader_brick_m0_M:=
 kdl Tryd.func29 (by kernel_rfl) (An:=[]) [(49,kdA),(48,kgg),(47,kfK)] (.cons keA <| .cons kgU <| .cons kgB <| .nil) (λx=>by kernel_rfl)
theorem text_reader_brick_C_ok:Good Tryd.prog 29 kcQ:=kei
def keB:Ctr:=⟨ "",kcQ.asZ,kcQ.rs,kcQ.F,text_reader_brick_m0_M::kcQ.mus,kcQ.its⟩
theorem kgN:Good Tryd.prog 29 keB:=(text_reader_brick_C_ok.more kfT)
def text_reader_end_m1_M:CtrM:=⟨ "",[none,some (.sl .s)],⟨[(0,.ptr 0 0)],[(0,.bx 72 [.fw 1,.mw 2,.mp 3,.c Ti,.c .b]),(1,.fm 42 tSub 1 59 tLine),(2,.sl 103 tUse),(3,.mp Ti Ti)]⟩,4,⟨[(0,.ptr 0 0),(1000000,.c .b)],[(0,.bx 72 [.fw 1,.mw 2,.mp 3,.c Ti,.c .b]),(1,.fm 42 tSub 1 59 tLine),(2,.sl 103 tUse),(3,.mp Ti Ti)]⟩,4,1,λx=>kju x.1 x.2.1 x.2.2.1 x.2.2.2.1 x.2.2.2.2.1 x.2.2.2.2.2,false⟩
theorem kgR:text_reader_end_m1_M.ok=true/\GoodM Tryd.prog 28 text_reader_end_m1_M:=
 kdl Tryd.func28 (by kernel_rfl) (An:=[]) [] (.nil) (λx=>by kernel_rfl)
def kfq:Ctr:=⟨ "",text_reader_end_C2.asZ,text_reader_end_C2.rs,text_reader_end_C2.F,text_reader_end_m1_M::text_reader_end_C2.mus,text_reader_end_C2.its⟩
theorem khK:Good Tryd.prog 28 kfq:=(text_reader_end_C2_ok.more kgR)
def text_reader_sub_m0_M:CtrM:=⟨ "",[none,some (.sl .s)],⟨[(0,.ptr 0 0)],[(0,.bx 72 [.fw 1,.mw 2,.mp 3,.c Ti,.c .b]),(1,.fm 42 tSub 1 59 tLine),(2,.sl 103 tUse),(3,.mp Ti Ti)]⟩,4,⟨[(0,.ptr 0 0),(1000000,.c .b)],[(0,.bx 72 [.fw 4,.mw 5,.mp 6,.c Ti,.c .b]),(4,.fm 42 tSub 1 59 tLine),(5,.sl 103 tUse),(6,.mp Ti Ti)]⟩,7,1,λx=>kbK x.1 x.2.1 x.2.2.1 x.2.2.2.1 x.2.2.2.2.1 x.2.2.2.2.2,false⟩
theorem kgQ:text_reader_sub_m0_M.ok=true/\GoodM Tryd.prog 27 text_reader_sub_m0_M:=
 kdl Tryd.func27 (by kernel_rfl) (An:=[]) [(7000045,kcQ),(6000038,kcQ),(22,kfG)] (.cons kbJ <| .cons kbJ <| .cons kgi <| .nil) (λx=>by kernel_rfl)
theorem text_reader_sub_C_ok:Good Tryd.prog 27 kcQ:=kei
def kfB:Ctr:=⟨ "",kcQ.asZ,kcQ.rs,kcQ.F,text_reader_sub_m0_M::kcQ.mus,kcQ.its⟩
theorem khS:Good Tryd.prog 27 kfB:=(text_reader_sub_C_ok.more kgQ)
def kkt:Ctr:=⟨ "",[.s],[(.w (.sl tSub)),Ti,Ti],λx=>kfv x,[],[]⟩
theorem kmR:Good Tryd.prog 13 kkt:=
 kaq Tryd.func13 (by kernel_rfl) (An:=[(0,⟨⟨[],[(7,.bx 72 [.fw 5,.mw 6,.mp 4,.c Ti,.c .b]),(5,.fm 42 tSub 1 59 tLine),(6,.sl 103 tUse),(4,.mp Ti Ti),(1,.bx 24 [.mw 0]),(2,.bx 3 [.c Ti]),(3,.bx 26 [.c Ti])]⟩,⟨[],[(7,.bx 72 [.fw 15,.mw 16,.mp 17,.c Ti,.c .b]),(15,.fm 42 tSub 1 59 tLine),(16,.sl 103 tUse),(17,.mp Ti Ti),(1,.bx 24 [.mw 0]),(2,.bx 3 [.c Ti]),(3,.bx 26 [.c Ti])]⟩,[23,5,2,3,4,6],[8,0,10,9],21,true,""⟩)]) [(6000015,kcQ),(6000017,kcQ),(6000059,kcQ),(6000077,kcQ),(6000086,kcQ),(6000104,kcQ),(27,kfB),(28,kfq),(29,keB),(30,kfp),(34,keM),(36,kbv),(35,khR),(33,kjp),(31,keN),(68,kbM),(32,kcM)] (.cons kbJ <| .cons kbJ <| .cons kbJ <| .cons kbJ <| .cons kbJ <| .cons kbJ <| .cons khS <| .cons khK <| .cons kgN <| .cons khI <| .cons khl <| .cons kcG <| .cons kki <| .cons kml <| .cons khp <| .cons kcf <| .cons kdz <| .nil) (λx=>by kernel_rfl)
def kkD:Ctr:=⟨ "",[.s],[.s],λx=>kfz x,[],[]⟩
theorem kmK:Good Tryd.prog 72 kkD:=
 kaq Tryd.func72 (by kernel_rfl) (An:=[(6,⟨⟨[],[]⟩,⟨[(13,.c .b)],[]⟩,[0],[],0,false,""⟩)]) [] (.nil) (λx=>by kernel_rfl)
def kiO:Ctr:=⟨ "",[.s],[(.sl .s)],λx=>kfi x,[],[]⟩
theorem kkP:Good Tryd.prog 57 kiO:=
 kaq Tryd.func57 (by kernel_rfl) (An:=[(0,⟨⟨[(5,.c Ti),(4,.c .s),(3,.mw 1)],[(1,.sl 9 .s)]⟩,⟨[(4,.c .s),(3,.mw 2)],[(2,.sl 9 .s)]⟩,[0],[],3,false,""⟩)]) [(72,kkD)] (.cons kmK <| .nil) (λx=>by kernel_rfl)
def kiP:Ctr:=⟨ "",[.s],[(.sl .s)],λx=>kdO x,[],[]⟩
theorem kll:Good Tryd.prog 58 kiP:=
 kaq Tryd.func58 (by kernel_rfl) (An:=[(0,⟨⟨[(5,.c Ti),(4,.c .s),(3,.mw 1)],[(1,.sl 9 .s)]⟩,⟨[(4,.c .s),(3,.mw 2)],[(2,.sl 9 .s)]⟩,[0],[],3,false,""⟩),(26,⟨⟨[],[]⟩,⟨[(21,.c .b)],[]⟩,[5,4,3],[1],2,false,""⟩)]) [] (.nil) (λx=>by kernel_rfl)
def kgL:Ctr:=⟨ "",[.s],[.b],λx=>kep x,[],[]⟩
theorem khg:Good Tryd.prog 41 kgL:=
 kaq Tryd.func41 (by kernel_rfl) (An:=[(0,⟨⟨[(3,.c Ti)],[]⟩,⟨[],[]⟩,[0],[],0,true,""⟩),(18,⟨⟨[],[]⟩,⟨[(4,.c .b)],[]⟩,[3],[],0,false,""⟩)]) [] (.nil) (λx=>by kernel_rfl)
def kgA (k:Nat):Ctr:=⟨ "",[(.i .i64)],[.s],λx=>kbO k x,[],[]⟩
theorem kfL:∀ k,Good Tryd.prog 65 (kgA k)
 | 0=>ktx (by kernel_rfl) (λx=>rfl) rfl rfl
 | k+1=>kaq Tryd.func65 (by kernel_rfl) (An:=[]) ((65,kgA k)::[(8000014,kcQ)]) (.cons (kfL k) <| .cons kbJ <| .nil) (λx=>by kernel_rfl)
def kgY:Ctr:=⟨ "",[Ti],[.s],λx=>kdU x,[],[]⟩
theorem kiY:Good Tryd.prog 65 kgY:=kfL 1000000
def khB:Ctr:=⟨ "",[Ti,Ti,Ti],[.b],λx=>ker x.1 x.2.1 x.2.2,[],[]⟩
theorem kkf:Good Tryd.prog 64 khB:=
 kaq Tryd.func64 (by kernel_rfl) (An:=[]) [] (.nil) (λx=>by kernel_rfl)
def keQ:Ctr:=⟨ "",[.s,Ti,Ti],[Ti,.b],λx=>kbr x.1 x.2.1 x.2.2,[],[]⟩
theorem kfM:Good Tryd.prog 74 keQ:=
 kaq Tryd.func74 (by kernel_rfl) (An:=[(22,⟨⟨[],[]⟩,⟨[(22,.c .b)],[]⟩,[0,8,1,2,9],[],0,false,""⟩),(89,⟨⟨[],[]⟩,⟨[(9,.c .s)],[]⟩,[0,8,1,2],[],0,false,""⟩),(0,⟨⟨[(10,.c Ti),(8,.c Ti)],[]⟩,⟨[(8,.c Ti)],[]⟩,[9,0,1,2],[],0,true,""⟩),(205,⟨⟨[],[]⟩,⟨[(8,.c Ti)],[]⟩,[9,0,1,2],[],0,false,""⟩)]) [(64,khB),(65,kgY)] (.cons kkf <| .cons kiY <| .nil) (λx=>by kernel_rfl)
def kiD:Ctr:=⟨ "",[(.sl .s)],[kjS,.b],λx=>kdE x,[],[]⟩
theorem kli:Good Tryd.prog 73 kiD:=
 kaq Tryd.func73 (by kernel_rfl) (An:=[]) [(74,keQ)] (.cons kfM <| .nil) (λx=>by kernel_rfl)
def kjH:Ctr:=⟨ "",[(.sl .s)],[kjS,.b],λx=>kfV x,[],[]⟩
theorem kmf:Good Tryd.prog 59 kjH:=
 kaq Tryd.func59 (by kernel_rfl) (An:=[(14,⟨⟨[],[]⟩,⟨[(30,.c .b)],[]⟩,[0,2],[0],1,false,""⟩)]) [(73,kiD),(74,keQ),(41,kgL)] (.cons kli <| .cons kfM <| .cons khg <| .nil) (λx=>by kernel_rfl)
def kjP:Ctr:=⟨ "",[.s],[(.sl tRow),Ti],λx=>kie x,[],[]⟩
theorem klD:Good Tryd.prog 37 kjP:=
 kaq Tryd.func37 (by kernel_rfl) (An:=[(0,⟨⟨[(8,.c Ti),(6,.c .b),(4,.mw 1),(7,.c .b)],[(1,.sl 111 tRow)]⟩,⟨[(6,.c .b),(7,.c .b),(4,.mw 2)],[(2,.sl 111 tRow)]⟩,[5],[],3,true,""⟩)]) [(59,kjH),(41,kgL),(58,kiP),(57,kiO)] (.cons kmf <| .cons khg <| .cons kll <| .cons kkP <| .nil) (λx=>by kernel_rfl)
def kiZ:Ctr:=⟨ "",[(.w (.sl tSub)),.s],[Ti],λx=>kfS x.1 x.2,[],[]⟩
theorem kmh:Good Tryd.prog 42 kiZ:=
 kaq Tryd.func42 (by kernel_rfl) (An:=[(0,⟨⟨[(5,.c Ti)],[]⟩,⟨[],[]⟩,[2,1],[0],1,true,""⟩)]) [] (.nil) (λx=>by kernel_rfl)
def kiC:Ctr:=⟨ "",[(.w (.sl tSub)),.s,Ti],[Ti],λx=>kfb x.1 x.2.1 x.2.2,[],[]⟩
theorem klr:Good Tryd.prog 60 kiC:=
 kaq Tryd.func60 (by kernel_rfl) (An:=[(0,⟨⟨[(7,.c Ti)],[]⟩,⟨[],[]⟩,[3,1],[0],1,true,""⟩)]) [] (.nil) (λx=>by kernel_rfl)
def kiH:Ctr:=⟨ "",[(.sl tRow)],[(.w (.sl tSub)),Ti],λx=>khi x,[],[]⟩
theorem klu:Good Tryd.prog 38 kiH:=
 kaq Tryd.func38 (by kernel_rfl) (An:=[(0,⟨⟨[(5,.c Ti),(4,.ptr 3 0)],[(3,.bx 24 [.fw 2]),(2,.fm 42 tSub 1 59 tLine)]⟩,⟨[(4,.ptr 4 0)],[(4,.bx 24 [.fw 5]),(5,.fm 42 tSub 1 59 tLine)]⟩,[0,2],[1,0],6,false,""⟩),(8,⟨⟨[(7,.c Ti),(6,.c Ti),(4,.ptr 4 0),(2,.ptr 1 0)],[(4,.bx 24 [.fw 5]),(5,.fm 42 tSub 1 59 tLine),(1,.bx 24 [.mw 0])]⟩,⟨[(4,.ptr 6 0),(2,.ptr 8 0)],[(6,.bx 24 [.fw 7]),(7,.fm 42 tSub 1 59 tLine),(8,.bx 24 [.mw 0])]⟩,[0],[0],9,true,""⟩),(229,⟨⟨[(2,.ptr 1 0),(9,.ptr 6 0)],[(1,.bx 24 [.mw 0]),(6,.bx 59 [.c Ti,.c Ti,.c Ti,.c Ti,.c Ti,.c (.i .u8),.c (.i .u8)])]⟩,⟨[(6,.c Ti),(9,.ptr 7 0),(2,.ptr 8 0)],[(7,.bx 59 [.c Ti,.c Ti,.c Ti,.c Ti,.c Ti,.c (.i .u8),.c (.i .u8)]),(8,.bx 24 [.mw 0]),(5,.fm 42 tSub 1 59 tLine)]⟩,[4,8,7,56],[4],10,true,""⟩),(297,⟨⟨[(9,.ptr 6 0),(2,.ptr 1 0)],[(6,.bx 59 [.c Ti,.c Ti,.c Ti,.c Ti,.c Ti,.c (.i .u8),.c (.i .u8)]),(1,.bx 24 [.mw 0]),(5,.fm 42 tSub 1 59 tLine)]⟩,⟨[(9,.ptr 7 0),(2,.ptr 8 0)],[(7,.bx 59 [.c Ti,.c Ti,.c Ti,.c Ti,.c Ti,.c (.i .u8),.c (.i .u8)]),(8,.bx 24 [.mw 0]),(5,.fm 42 tSub 1 59 tLine)]⟩,[6],[],10,true,""⟩),(90,⟨⟨[],[]⟩,⟨[(101,.c .b)],[]⟩,[8,4,6,9,7,2],[4,5,7,8],10,false,""⟩)]) [(7000034,kcQ),(6000004,kcQ),(60,kiC),(42,kiZ)] (.cons kbJ <| .cons kbJ <| .cons klr <| .cons kmh <| .nil) (λx=>by kernel_rfl)
def kjM:Ctr:=⟨ "",[.s],[(.w (.sl tSub)),Ti,Ti],λx=>keC x,[],[]⟩
theorem klI:Good Tryd.prog 14 kjM:=
 kaq Tryd.func14 (by kernel_rfl) (An:=[(0,⟨⟨[(9,.c Ti),(8,.c .b)],[]⟩,⟨[(8,.c .b)],[]⟩,[7,2],[3,1,0],4,false,""⟩)]) [(38,kiH),(37,kjP)] (.cons klu <| .cons klD <| .nil) (λx=>by kernel_rfl)
def kiU:Ctr:=⟨ "",[(.w (.sl tSub)),(.w (.sl tSub))],[.b],λx=>keu x.1 x.2,[],[]⟩
theorem kmg:Good Tryd.prog 11 kiU:=
 kaq Tryd.func11 (by kernel_rfl) (An:=[(0,⟨⟨[(5,.c Ti)],[]⟩,⟨[],[]⟩,[2,3],[0,1],2,true,""⟩),(26,⟨⟨[],[]⟩,⟨[(6,.ptr 2 0),(7,.ptr 3 0)],[(2,.bx 42 [.c .s,.c (.sl tLine)]),(3,.bx 42 [.c .s,.c (.sl tLine)])]⟩,[5],[],4,false,""⟩),(8,⟨⟨[(8,.c Ti)],[]⟩,⟨[],[]⟩,[6,7,5],[2,3],4,true,""⟩)]) [] (.nil) (λx=>by kernel_rfl)
def kkh:Ctr:=⟨ "",[.s],[.b],λx=>keI x,[],[]⟩
theorem law02_TextReads_C_ok:Good Tryd.prog 4 kkh:=
 kaq Tryd.func4 (by kernel_rfl) (An:=[(6,⟨⟨[],[]⟩,⟨[(21,.c .b)],[]⟩,[0],[],0,false,""⟩)]) [(11,kiU),(14,kjM),(13,kkt)] (.cons kmg <| .cons klI <| .cons kmR <| .nil) (λx=>by kernel_rfl)
end Go.Abs
namespace Go.Abs
open Go
theorem kir {σ τ:Type} {F:σ->Yb (σ⊕(τ⊕Unit))} (b:τ) (e:Nat->σ) (m:Nat) (g:m<18446744073709551616) (p:Nat->Bool)
  (f:∀ i,i<m->F (e i)=some (if p i=true then .inr (.inl b) else .inl (e (i+1)))) (h2:F (e m)=some (.inr (.inr ()))) :
  iter F (e 0)=some (if ((List.range m).any p)=true then .inl b else .inr ()):=by
 have:∀ k i:Nat,i+k=m->itN F (k+1) (e i)=some (if ((List.range' i k).any p)=true then .inl b else .inr ()):=by
  intro k;induction k with
  | zero=>
   intro i h;have:i=m:=by omega
   subst this;rw [kbb h2]; rfl
  | succ k c=>
   intro i h;rw [List.range'_succ,List.any_cons];have a:=f i (by omega);cases hp:p i with
   | true=>rw [hp] at a; rw [kbb a]; simp
   | false=>rw [hp] at a; rw [kbf a,c (i+1) (by omega),jda]
 have:=kek (this m 0 (by omega)) (by omega);rw [this,List.range_eq_range']
theorem kiI {m:Nat} {p:Nat->Bool}:((List.range m).any λi=>!p i) = !(List.range m).all p:=krF p _
theorem koC (l:Ya Int) (hl:l.length<=100000) (p:Int->Bool):kaU l (λx=>some (p x))=some (l.any p):=by
 unfold kaU kbP;rw [kmq (F:=kaV l _) l (by omega) (λi x=>if p x then some (i:Int) else none) (λi a=>by
  unfold kaV;rw [if_pos (by rw [kae]; simpa using a),kaG a,kaA (by omega)];simp only [jab];by_cases h:p l[i]=true <;> simp [h,nextL]) (by unfold kaV; rw [if_neg (by simp [kae])])]
 have:∀ (l:Ya Int) (k:Nat),endL ((l.zipIdx k).findSome? λx=>if p x.1 then some (x.2:Int) else none)=(if l.any p then .inl ((k:Int)+(l.findIdx p:Nat)) else .inr ()):=by
  intro l;induction l with
  | nil=>intro k; rfl
  | cons x l b=>
   intro k;rw [jct,List.findSome?_cons,List.any_cons,List.findIdx_cons];cases hp:p x with
   | true=>simp [endL]
   | false=>
    simp only [jal,if_false,jda,cond_false];rw [b (k+1)];congr 2; push_cast; omega
 rw [this l 0];by_cases h:l.any p=true <;> simp [h]
theorem krP (a b:Int) (l:Ya Int) (hl:l.length<=100000):kfm a b l=some (l.all (wi a b)):=by
 unfold kfm;have e:(λf:Int=>(kev f a b).bind λg=>some g)=λu=>some (!wi a b u):=by
  funext u;unfold kev wi;by_cases c:u<a
  ·simp [c];try omega
  ·by_cases h2:b<u <;> simp [c,h2] <;> omega
 rw [e,koC l hl,krF];simp
theorem kns (n a b:Int):ker n a b=some (wi a b n):=by
 unfold ker wi;by_cases h:a<=n <;> simp [h]
def chOk (i:Nat) (c:Int):Bool:=wi 97 122 c||(decide (i≠0)&&(c==45||wi 48 57 c))
def kdQ (s:Ya UInt8):Bool:=((List.range s.length).all λi=>chOk i (((s[i]?).getD 0).toNat:Int))&&wi 1 12 (s.length:Int)
theorem kfY {s:Ya UInt8} {i:Nat} (h:i<s.length):gstr s (i:Int)=some (s[i].toNat:Int):=by
 unfold gstr; rw [kaG h]; rfl
theorem kts (s:Ya UInt8) (l:s.length<=100000) (i:Nat) (b:i<s.length):kcn s (i:Int)=some (if (!chOk i (((s[i]?).getD 0).toNat:Int))=true then .inr (.inl false) else .inl ((i+1:Nat):Int)):=by
 unfold kcn;obtain ⟨c,a⟩:∃ c:Int,c=(s[i].toNat:Int):=⟨_,rfl⟩;have e:gstr s (i:Int)=some c:=by rw [a]; exact kfY b
 have hr:(((s[i]?).getD 0).toNat:Int)=c:=by rw [a,jaf b]; rfl
 rw [if_pos (lenI_lt.2 b),e,hr];simp only [jab];clear a e hr;unfold chOk wi;rw [kaA (by omega)];by_cases h:(97:Int)<=c <;> by_cases h2:c<=122 <;> by_cases k:i=0 <;> by_cases g:c=45 <;> by_cases j:c<48 <;> by_cases f:(57:Int)<c <;> simp [h,h2,k,g,j,f] <;> omega
theorem kub (s:Ya UInt8):kcn s (s.length:Int)=some (.inr (.inr ())):=by
 unfold kcn;rw [if_neg kaD]
theorem krE (s:Ya UInt8) (b:s.length<=100000):kep s=some (kdQ s):=by
 unfold kep;rw [show (0:Int)=((0:Nat):Int) from rfl,kir (F:=kcn s) false (λi=>(i:Int)) s.length (by omega) (λi=>!chOk i (((s[i]?).getD 0).toNat:Int)) (kts s b) (kub s)];rw [kiI];unfold kdQ;by_cases h:((List.range s.length).all λi=>chOk i (((s[i]?).getD 0).toNat:Int))=true
 ·simp only [h,Bool.not_true,jal,if_false,jab,Bool.true_and];unfold wi;rw [kae];by_cases a:(1:Int)<=(s.length:Int) <;> simp [a]
 ·rw [jcv] at h;simp [h]
theorem kqQ (s:Ya UInt8) (B:s.length<=100000) (i:Nat) (h:i<s.length):kcc (s,(i:Int))=some (if (!chOk i (((s[i]?).getD 0).toNat:Int))=true then .inr (.inl false) else .inl (s,((i+1:Nat):Int))):=by
 unfold kcc;simp only;obtain ⟨c,j⟩:∃ c:Int,c=(s[i].toNat:Int):=⟨_,rfl⟩;have hr:(((s[i]?).getD 0).toNat:Int)=c:=by rw [j,jaf h]; rfl
 rw [if_pos (lenI_lt.2 h),hr];have a:i<(⟨s.toArray⟩:ByteArray).size:=by simpa [ByteArray.size] using h
 have f:(⟨s.toArray⟩:ByteArray)[i]'a=s[i]:=by simp [ByteArray.getElem_eq_getElem_data]
 by_cases z:s[i].toNat<128
 ·have b:=Go.decode_ascii ⟨s.toArray⟩ i a (by rw [f]; exact z);have e:runeV (s,(i:Int))=c:=by rw [j]; unfold runeV; simp only [jam]; rw [b,f]
  have k:runeN (s,(i:Int))=(s,((i+1:Nat):Int)):=by unfold runeN; simp only [jam]; rw [b]
  rw [e,k];clear e k b j hr;unfold chOk wi;by_cases n:(97:Int)<=c <;> by_cases h2:c<=122 <;> by_cases g:i=0 <;> by_cases m:c=45 <;> by_cases o:c<48 <;> by_cases u:(57:Int)<c <;> simp [n,h2,g,m,o,u] <;> omega
 ·have b:=Go.decode_high ⟨s.toArray⟩ i a (by rw [f]; omega);have e:(128:Int)<=runeV (s,(i:Int)):=by unfold runeV; simp only [jam]; omega
  obtain ⟨v,y⟩:∃ v:Int,v=runeV (s,(i:Int)):=⟨_,rfl⟩;rw [<-y] at e ⊢;have C:(128:Int)<=c:=by omega
  unfold chOk wi;have g1:(97:Int)<=v:=by omega
  have l:¬ v<=122:=by omega
  have A:¬ v=45:=by omega
  have t:¬ v<48:=by omega
  have x:(57:Int)<v:=by omega
  have k1:(97:Int)<=c:=by omega
  have k2:¬ c<=122:=by omega
  have k3:¬ c=45:=by omega
  have p:¬ c<=57:=by omega
  by_cases g:i=0 <;> simp [g1,l,A,t,x,k1,k2,k3,p,g]
theorem kss (s:Ya UInt8):kcc (s,(s.length:Int))=some (.inr (.inr ())):=by
 unfold kcc;simp only;rw [if_neg kaD]
theorem knx (s:Ya UInt8) (a:s.length<=100000):kdJ s=some (kdQ s):=by
 unfold kdJ;rw [show ((s,0):Ya UInt8×Int)=(λi:Nat=>(s,(i:Int))) 0 from rfl,kir (F:=kcc) false (λi:Nat=>(s,(i:Int))) s.length (by omega) (λi=>!chOk i (((s[i]?).getD 0).toNat:Int)) (kqQ s a) (kss s)];rw [kiI];unfold kdQ;by_cases h:((List.range s.length).all λi=>chOk i (((s[i]?).getD 0).toNat:Int))=true
 ·simp only [h,Bool.not_true,jal,if_false,jab,Bool.true_and];rw [krP _ _ _ (by simp),kae];simp
 ·rw [jcv] at h;simp [h]
theorem kgT {a b:Ya UInt8} (h:a.length+b.length<=9223372036854775807):gcat a b=some (a++b):=by unfold gcat; rw [if_pos h]
theorem kgc {x:Int} (b:0<=x) (a:x<256):IntKind.wrap .u8 x=x:=by
 unfold IntKind.wrap;simp [IntKind.bits,IntKind.signed];omega
theorem digit {u:Nat}:kcV [IntKind.wrap .u8 (w64 (48+((u % 10:Nat):Int)))]=[UInt8.ofNat (48+u % 10)]:=by
 have h:u % 10<10:=Nat.mod_lt _ (by decide);rw [kbs (by omega) (by omega),kgc (by omega) (by omega)];unfold kcV;simp only [jat,jdt];congr 2
theorem krC {u:Nat} (h:u<18446744073709551616):(Lib.decDigits u).length<=20:=by
 rw [Lib.decDigits_length];rcases Nat.eq_zero_or_pos u with e | e
 ·rw [e]; decide +kernel
 ·have:=Lib.numDigits_eq u e h;split at this <;> omega
theorem khk:∀ (j k u:Nat),j<k->u<10 ^ (j+1)->u<9223372036854775808->kbO k (u:Int)=some (Lib.decDigits u)
 | j,0,u,hj,_,_=>by omega
 | j,k+1,u,hj,h,hu=>by
  rw [kbO];unfold keE;have hr:grem (u:Int) 10=some ((u % 10:Nat):Int):=by unfold grem; rw [if_neg (by decide)]; rfl
  rw [if_neg (by simp),hr];simp only [jab];rw [digit];by_cases a:u<10
  ·rw [if_neg (by simp; omega),Lib.decDigits,dif_pos a,Nat.mod_eq_of_lt a]
  ·have b:gquo .i64 (u:Int) 10=some ((u / 10:Nat):Int):=by
    unfold gquo;rw [if_neg (by decide)];have e:(u:Int).tdiv 10=((u / 10:Nat):Int):=rfl;rw [e];unfold wk;simp only;rw [kbs (by omega) (by omega)]
   rw [if_pos (by simp; omega),b];simp only [jab];cases j with
   | zero=>simp at h; omega
   | succ j=>
    rw [khk j k (u / 10) (by omega) (by rw [Nat.pow_succ] at h; omega) (by omega)];simp only [jab];have hl:=krC (u:=u / 10) (by omega);rw [kgT (by simp; omega)];simp only [jab];rw [Lib.decDigits.eq_1 u,dif_neg a]
theorem klO (x:Int) (f:-9223372036854775807<=x) (c:x<=9223372036854775807):kdU x=some (Lib.itoa x):=by
 unfold kdU Lib.itoa;by_cases a:x<0
 ·rw [if_pos a];rw [show (1000000:Nat)=999999+1 from rfl,kbO];unfold keE;rw [if_pos (by simpa using a),kbs (by omega) (by omega)];obtain ⟨u,rfl⟩:∃ u:Nat,x = -(u:Int):=⟨x.natAbs,by omega⟩;have e:(0:Int) - -(u:Int)=(u:Int):=by omega
  have b:(-(u:Int)).natAbs=u:=by omega
  rw [e,b,khk 18 999999 u (by decide) (by omega) (by omega)];simp only [jab];have hl:=krC (u:=u) (by omega);rw [kgT (by simp; omega)];rfl
 ·rw [if_neg a];obtain ⟨u,rfl⟩:∃ u:Nat,x=(u:Int):=⟨x.toNat,by omega⟩;rw [khk 18 1000000 u (by decide) (by omega) (by omega),jam]
def sepW (b:UInt8):Bool:=b==32||b==9
def wf:Ya UInt8->Ya UInt8->Ya (Ya UInt8)
 | now,[]=>if now=[] then [] else [now]
 | now,b::l=>if sepW b=true then (if now=[] then wf [] l else now::wf [] l) else wf (now++[b]) l
def stepW (s:Ya UInt8×Ya (Ya UInt8)) (b:UInt8):Ya UInt8×Ya (Ya UInt8):=
 if sepW b=true then ([],if s.1=[] then s.2 else s.2++[s.1]) else (s.1++[b],s.2)
def endW (s:Ya UInt8×Ya (Ya UInt8)):Ya (Ya UInt8):=if s.1=[] then s.2 else s.2++[s.1]
theorem kib (now:Ya UInt8) (out:Ya (Ya UInt8)) (b:UInt8):stepW (now,out) b=if sepW b=true then ([],if now=[] then out else out++[now]) else (now++[b],out):=rfl
theorem kjJ:∀ (l now:Ya UInt8) (out:Ya (Ya UInt8)),endW (l.foldl stepW (now,out))=out++wf now l
 | [],now,out=>by rw [List.foldl_nil]; unfold endW wf; by_cases h:now=[] <;> simp [h]
 | b::l,now,out=>by
  rw [jbo,kib];unfold wf;split
  ·rw [kjJ l];split <;> simp
  ·rw [kjJ l]
theorem krS {s:Ya UInt8} {i:Nat} (h:i<s.length) (b:s.length<=100000):gsl s (i:Int) (w64 ((i:Int)+1))=some [s[i]]:=by
 rw [kaA (by omega)];unfold gsl;rw [if_pos (by omega)];congr 1;apply List.ext_getElem
 ·simp; omega
 ·intro j a h2;simp at a h2;simp;congr 1; omega
theorem u8_eq (b:UInt8) (k:Nat) (a:k<256):((b.toNat:Int)==(k:Int))=(b==UInt8.ofNat k):=by
 rw [Bool.eq_iff_iff];simp only [beq_iff_eq];constructor
 ·intro h;apply UInt8.toNat_inj.1;rw [UInt8.toNat_ofNat',Nat.mod_eq_of_lt (by omega)];omega
 ·rintro rfl;rw [UInt8.toNat_ofNat',Nat.mod_eq_of_lt (by omega)]
theorem kmB (b:UInt8):sepW b=(((b.toNat:Int)==32)||((b.toNat:Int)==9)):=by
 rw [show (32:Int)=((32:Nat):Int) from rfl,show (9:Int)=((9:Nat):Int) from rfl,u8_eq b 32 (by decide),u8_eq b 9 (by decide)]; rfl
theorem kqZ (s:Ya UInt8) (n:s.length<=100000):kdO s=some (wf [] s):=by
 unfold kdO;rw [kdI (F:=kdr s) s (by omega) (λi st=>st.1.length<=i/\st.2.length<=i) stepW id (λi st g hI=>?_) (λi st g hI=>?_) (λst hI=>?_) ([],[]) (by simp)]
 ·simp only [jab,id];have e:=kjJ s [] [];rw [jav] at e;obtain ⟨f,a⟩:(s.foldl stepW ([],[])).1.length<=s.length/\(s.foldl stepW ([],[])).2.length<=s.length:=by
   have key:∀ (l now:Ya UInt8) (out:Ya (Ya UInt8)),(l.foldl stepW (now,out)).1.length<=now.length+l.length/\(l.foldl stepW (now,out)).2.length<=out.length+l.length:=by
    intro l;induction l with
    | nil=>intro now out; simp
    | cons b l m=>
     intro now out;rw [jbo,kib];split
     ·have:=m [] (if now=[] then out else out++[now]);have h2:(if now=[] then out else out++[now]).length<=out.length+1:=by split <;> simp
      simp only [jbt,jdn] at this ⊢;omega
     ·have:=m (now++[b]) out;simp at this ⊢; omega
   simpa using key s [] []
  rw [<-e];unfold endW;generalize List.foldl stepW ([],[]) s=st at f a ⊢;obtain ⟨now,out⟩:=st;simp only at f a ⊢;by_cases h:now=[]
  ·simp [h]
  ·rw [if_pos (by simpa using h),if_neg h,kaJ (by simp; omega)]; rfl
 ·unfold kdr;obtain ⟨now,out⟩:=st;simp only at hI ⊢;rw [if_pos (lenI_lt.2 g),kfY g];simp only [jab];rw [kib,kmB];generalize (s[i].toNat:Int)=c;rw [krS g n,kaA (by omega)];simp only [jab];rw [kgT (by simp; omega),kaJ (by simp; omega)];by_cases j:c=32
  ·by_cases k:now=[] <;> simp [j,k]
  ·by_cases h2:c=9
   ·by_cases k:now=[] <;> simp [j,h2,k]
   ·simp [j,h2]
 ·obtain ⟨now,out⟩:=st;rw [kib];simp only at hI;split
  ·simp only [jdn];split <;> simp <;> omega
  ·simp; omega
 ·unfold kdr;simp only;rw [if_neg kaD]; rfl
def trimN (c:UInt8) (s:Ya UInt8):Ya UInt8:=if s.getLast?=some c then s.dropLast else s
theorem kdq {α:Type} (l:Ya α):l=[]\/∃ r x,l=r++[x]:=by
 rcases List.eq_nil_or_concat l with h | ⟨r,x,h⟩
 ·exact .inl h
 ·exact .inr ⟨r,x,by simpa using h⟩
theorem kfu (c:UInt8) (s:Ya UInt8):(trimN c s).length<=s.length:=by unfold trimN; split <;> simp
theorem knn {α:Type} (l:Ya α) (x:α):(l++[x]).getLast?=some x:=by simp
theorem koT {s:Ya UInt8} (x:UInt8) (a:s.length<100000):gsl (s++[x]) 0 (w64 (lenI (s++[x])-1))=some s:=by
 rw [kae,jax,show [x].length=1 from rfl,kbs (by omega) (by omega)];unfold gsl;rw [if_pos (by simp; omega)];simp
theorem kuu {a:Ya UInt8} (x:UInt8) (b:a.length<100000):gsl (a++[x]) (w64 (lenI (a++[x])-1)) (lenI (a++[x]))=some [x]:=by
 rw [kae,jax,show [x].length=1 from rfl,kbs (by omega) (by omega)];unfold gsl;rw [if_pos (by simp; omega),show (((a.length+1:Nat):Int)-1).toNat=a.length by omega,jam,jaz (by simp),List.drop_left]
theorem kru (c:UInt8) (s:Ya UInt8) (a:s.length<=100000):kbI s [c]=some (trimN c s):=by
 unfold kbI kbo kbt trimN;rcases kdq s with rfl | ⟨l,x,rfl⟩
 ·simp [lenI]
 ·simp only [jax,jbt,jdn] at a;rw [show lenI [c]=1 from rfl,if_pos (by rw [kae]; simp; omega),kuu x (by omega),koT x (by omega)];simp only [jab,knn,List.dropLast_concat,Option.some.injEq,beq_iff_eq,List.cons.injEq,and_true];split <;> rfl
theorem ktK (s:Ya UInt8) (b:s.length<=100000):kfz s=some (trimN 13 s):=by
 unfold kfz trimN;rcases kdq s with rfl | ⟨l,x,rfl⟩
 ·simp [lenI]
 ·simp only [jax,jbt,jdn] at b;have a:gstr (l++[x]) (w64 (lenI (l++[x])-1))=some (x.toNat:Int):=by
   have e:w64 (lenI (l++[x])-1)=((l.length:Nat):Int):=by
    rw [kae,jax,show [x].length=1 from rfl,kbs (by omega) (by omega)]; omega
   rw [e,kfY (by simp)];simp
  rw [if_pos (by rw [kae]; simp),a,koT x (by omega)];simp only [jab,knn,List.dropLast_concat,Option.some.injEq];rw [show (13:Int)=((13:Nat):Int) from rfl,u8_eq x 13 (by decide)];by_cases h:x=13 <;> simp [h]
def lf:Ya UInt8->Ya UInt8->Ya (Ya UInt8)
 | now,[]=>if now=[] then [] else [trimN 13 now]
 | now,b::l=>if b==10 then trimN 13 now::lf [] l else lf (now++[b]) l
def stepL (s:Ya UInt8×Ya (Ya UInt8)) (b:UInt8):Ya UInt8×Ya (Ya UInt8):=
 if b==10 then ([],s.2++[trimN 13 s.1]) else (s.1++[b],s.2)
theorem kiv (now:Ya UInt8) (out:Ya (Ya UInt8)) (b:UInt8):stepL (now,out) b=if b==10 then ([],out++[trimN 13 now]) else (now++[b],out):=rfl
theorem kmx:∀ (l now:Ya UInt8) (out:Ya (Ya UInt8)),(if (l.foldl stepL (now,out)).1=[] then (l.foldl stepL (now,out)).2 else (l.foldl stepL (now,out)).2++[trimN 13 (l.foldl stepL (now,out)).1])=out++lf now l
 | [],now,out=>by rw [List.foldl_nil]; unfold lf; by_cases h:now=[] <;> simp [h]
 | b::l,now,out=>by
  rw [jbo,kiv];unfold lf;split
  ·rw [kmx l]; simp
  ·rw [kmx l]
def kdh (s:Ya UInt8):Ya (Ya UInt8):=(kaE 10 (trimN 10 s)).map (trimN 13)
def spf (now l:Ya UInt8):Ya (Ya UInt8):=match kaE 10 l with | x::r=>(now++x)::r | []=>[now]
theorem kiV (c:UInt8) (l:Ya UInt8):kaE c l≠[]:=by
 cases l with
 | nil=>simp [kaE]
 | cons b l=>rw [kdC]; split; simp; split <;> simp
theorem kuq (now:Ya UInt8) (b:UInt8) (l:Ya UInt8):spf now (b::l)=if b==10 then now::spf [] l else spf (now++[b]) l:=by
 unfold spf;rw [kdC];cases hl:kaE 10 l with
 | nil=>exact absurd hl (kiV 10 l)
 | cons x r=>by_cases h:(b==10)=true <;> simp only [h,if_true,if_false,jal,jbf,jav,jaw,jdj]
theorem kti (c b x:UInt8) (l:Ya UInt8):trimN c (b::x::l)=b::trimN c (x::l):=by
 unfold trimN;rw [List.getLast?_cons_cons];split <;> rfl
theorem kqd:∀ (l now:Ya UInt8) (b:UInt8),(spf now (trimN 10 (b::l))).map (trimN 13)=lf now (b::l)
 | [],now,b=>by
  unfold lf;by_cases h:b=10
  ·subst h; simp [trimN,spf,kaE,lf]
  ·simp [trimN,h,spf,kaE,lf]
 | x::l,now,b=>by
  rw [kti,kuq];rw [show lf now (b::x::l)=if b==10 then trimN 13 now::lf [] (x::l) else lf (now++[b]) (x::l) from rfl];split
  ·rw [jat,kqd l [] x]
  ·rw [kqd l _ x]
theorem kuB {s:Ya UInt8} (h:s≠[]):lf [] s=kdh s:=by
 cases s with
 | nil=>exact absurd rfl h
 | cons b l=>
  rw [<-kqd l [] b];unfold kdh spf;cases hl:kaE 10 (trimN 10 (b::l)) with
  | nil=>exact absurd hl (kiV _ _)
  | cons x r=>simp
theorem kra (s:Ya UInt8) (n:s.length<=100000):kfi s=some (if s=[] then [] else kdh s):=by
 have e:lf [] s=if s=[] then [] else kdh s:=by
  split
  ·rename_i h; subst h; rfl
  ·rename_i h; exact kuB h
 rw [<-e];unfold kfi;rw [kdI (F:=kdy s) s (by omega) (λi st=>st.1.length<=i/\st.2.length<=i) stepL id (λi st j hI=>?_) (λi st j hI=>?_) (λst hI=>?_) ([],[]) (by simp)]
 ·simp only [jab,id];have e:=kmx s [] [];rw [jav] at e;obtain ⟨g,a⟩:(s.foldl stepL ([],[])).1.length<=s.length/\(s.foldl stepL ([],[])).2.length<=s.length:=by
   have key:∀ (l now:Ya UInt8) (out:Ya (Ya UInt8)),(l.foldl stepL (now,out)).1.length<=now.length+l.length/\(l.foldl stepL (now,out)).2.length<=out.length+l.length:=by
    intro l;induction l with
    | nil=>intro now out; simp
    | cons b l k=>
     intro now out;rw [jbo,kiv];split
     ·have:=k [] (out++[trimN 13 now]);simp at this ⊢; omega
     ·have:=k (now++[b]) out;simp at this ⊢; omega
   simpa using key s [] []
  rw [<-e];generalize List.foldl stepL ([],[]) s=st at g a ⊢;obtain ⟨now,out⟩:=st;simp only at g a ⊢;by_cases h:now=[]
  ·simp [h]
  ·rw [if_pos (by simpa using h),if_neg h,ktK now (by omega)];simp only [jab];rw [kaJ (by simp; omega)]; rfl
 ·unfold kdy;obtain ⟨now,out⟩:=st;simp only at hI ⊢;rw [if_pos (lenI_lt.2 j),kfY j];simp only [jab];rw [kiv];rw [krS j n,kaA (by omega),ktK now (by omega)];simp only [jab];rw [kgT (by simp; omega),kaJ (by simp; omega)];have f:=u8_eq s[i] 10 (by decide);rw [show UInt8.ofNat 10=10 from rfl] at f;rw [<-f];generalize (s[i].toNat:Int)=c;by_cases m:c=10 <;> simp [m]
 ·obtain ⟨now,out⟩:=st;rw [kiv];simp only at hI ⊢;split
  ·simp; omega
  ·simp; omega
 ·unfold kdy;simp only;rw [if_neg kaD]; rfl
theorem kvY (n b a c e:Nat) (f:128<=b) (hn:1<=n):1<=(Lib.decodeN n b a c e).2/\(Lib.decodeN n b a c e).2<=n/\(Lib.decodeN n b a c e).2<=4/\(2<=(Lib.decodeN n b a c e).2->128<=a)/\(3<=(Lib.decodeN n b a c e).2->128<=c)/\(4<=(Lib.decodeN n b a c e).2->128<=e):=by
 unfold Lib.decodeN;repeat' split
 all_goals (simp only; omega)
theorem get_d (s:Ya UInt8) (i:Nat):(⟨s.toArray⟩:ByteArray).get! i=s.getD i 0:=by
 show (s.toArray[i]!)=_;by_cases h:i<s.length
 ·rw [getElem!_pos _ _ (by simpa using h)]; simp [List.getD,h]
 ·rw [getElem!_neg _ _ (by simpa using h)]; simp [List.getD,h]; rfl
theorem dec_w (s:Ya UInt8) (i:Nat) (n:i<s.length) (b:128<=(s.getD i 0).toNat):1<=(Utf8.decode ⟨s.toArray⟩ i).2/\i+(Utf8.decode ⟨s.toArray⟩ i).2<=s.length/\∀ j,i<=j->j<i+(Utf8.decode ⟨s.toArray⟩ i).2->128<=(s.getD j 0).toNat:=by
 rw [Lib.decode_at,get_d,get_d,get_d,get_d];have a:(⟨s.toArray⟩:ByteArray).size=s.length:=by simp [ByteArray.size]
 rw [a];obtain ⟨g,h2,m,e,h,c⟩:=kvY (s.length-i) (s.getD i 0).toNat (s.getD (i+1) 0).toNat (s.getD (i+2) 0).toNat (s.getD (i+3) 0).toNat b (by omega);refine ⟨g,by omega,λj f l=>?_⟩;obtain ⟨k,rfl⟩:∃ k,j=i+k:=⟨j-i,by omega⟩;match k with
 | 0=>exact b
 | 1=>exact e (by omega)
 | 2=>exact h (by omega)
 | 3=>exact c (by omega)
 | k+4=>omega
def sf (pos:Nat) (st:Yb Nat):Ya UInt8->Ya (Int×Int)
 | []=>match st with | none=>[] | some a=>[((a:Int),(pos:Int))]
 | b::l=>if sepW b=true then (match st with | none=>sf (pos+1) none l | some a=>((a:Int),(pos:Int))::sf (pos+1) none l) else sf (pos+1) (some (st.getD pos)) l
theorem krA (pos:Nat) (st:Yb Nat) (b:UInt8) (l:Ya UInt8):sf pos st (b::l)=if sepW b=true then (match st with | none=>sf (pos+1) none l | some a=>((a:Int),(pos:Int))::sf (pos+1) none l) else sf (pos+1) (some (st.getD pos)) l:=rfl
theorem krc:∀ (w pos:Nat) (st:Yb Nat) (l:Ya UInt8),1<=w->w<=l.length->(∀ j,j<w->sepW (l.getD j 0)=false)->sf pos st l=sf (pos+w) (some (st.getD pos)) (l.drop w)
 | 0,_,_,_,h,_,_=>by omega
 | w+1,pos,st,[],_,h,_=>by simp at h
 | w+1,pos,st,b::l,_,h,hs=>by
  have a:=hs 0 (by omega);rw [List.getD_cons_zero] at a;have e:sf pos st (b::l)=sf (pos+1) (some (st.getD pos)) l:=by rw [krA,if_neg (by rw [a]; decide)]
  rw [e];cases w with
  | zero=>rfl
  | succ w=>
   rw [krc (w+1) (pos+1) _ l (by omega) (by simpa using h) (λj c=>by simpa using hs (j+1) (by omega))];rw [List.drop_succ_cons,show pos+1+(w+1)=pos+(w+1+1) by omega];rfl
theorem kjR:∀ (l:Ya UInt8) (pos:Nat) (st:Yb Nat),(sf pos st l).length<=l.length+(if st.isSome then 1 else 0)
 | [],pos,st=>by cases st <;> simp [sf]
 | b::l,pos,st=>by
  unfold sf;split
  ·cases st with
   | none=>have:=kjR l (pos+1) none; simp at this ⊢; omega
   | some a=>have:=kjR l (pos+1) none; simp at this ⊢; omega
  ·have:=kjR l (pos+1) (some (st.getD pos));cases st <;> simp at this ⊢ <;> omega
theorem kkU (s:Ya UInt8):∀ (l:Ya UInt8) (pos:Nat) (st:Yb Nat),s.drop pos=l->(∀ a,st=some a->a<pos/\pos<=s.length)->
  (∀ x∈sf pos st l,0<=x.1/\x.1<=x.2/\x.2<=s.length)/\(sf pos st l).map (λx=>(s.take x.2.toNat).drop x.1.toNat)=wf (match st with | none=>[] | some a=>(s.take pos).drop a) l
 | [],pos,st,hd,hs=>by
  cases st with
  | none=>exact ⟨by simp [sf],by simp [sf,wf]⟩
  | some a=>
   obtain ⟨j,h2⟩:=hs a rfl;have f:(s.take pos).drop a≠[]:=λe=>by
    have:=congrArg List.length e;simp at this; omega
   refine ⟨by simp [sf]; omega,?_⟩;simp only [sf,jat,jdt,jam,wf];rw [if_neg f]
 | b::l,pos,st,hd,hs=>by
  have c:pos<s.length:=by
   rcases jbz pos s.length with h | h
   ·exact h
   ·rw [jbg h] at hd; cases hd
  have i:s[pos]=b/\s.drop (pos+1)=l:=by
   rw [jbd c] at hd
   injection hd with j h2
   exact ⟨j,h2⟩
  unfold sf wf;cases m:sepW b with
  | true=>
   rw [if_pos rfl,if_pos rfl];obtain ⟨g,i2⟩:=kkU s l (pos+1) none i.2 (λa h=>by cases h);cases st with
   | none=>exact ⟨g,by rw [if_pos rfl]; exact i2⟩
   | some a=>
    obtain ⟨j,h2⟩:=hs a rfl;have f:(s.take pos).drop a≠[]:=λe=>by
     have:=congrArg List.length e;simp at this; omega
    refine ⟨λx k=>?_,?_⟩
    ·rcases jbi.1 k with rfl | k
     ·simp only; omega
     ·exact g x k
    ·simp only [jat,jam];rw [if_neg f,i2]
  | false=>
   rw [if_neg (by decide),if_neg (by decide)];obtain ⟨g,i2⟩:=kkU s l (pos+1) (some (st.getD pos)) i.2 (λa h=>by
    cases h;cases st with
    | none=>simp; omega
    | some a=>have:=hs a rfl; simp; omega)
   refine ⟨g,i2.trans ?_⟩;congr 1;have n:s.take (pos+1)=s.take pos++[b]:=by rw [jck c,i.1]
   simp only [n];cases st with
   | none=>simp [jdm (Nat.le_of_lt c)]
   | some a=>
    have:=(hs a rfl).1;simp only [jcc];rw [jdo (by simp; omega)]
def c1f:Int->Yb Bool:=λa:Int=>(kcS a).bind λb=>some b
theorem c1_eq (x:Int):c1f x=some ((x==32)||(x==9)):=by
 unfold c1f kcS;by_cases h:x=32 <;> simp [h]
theorem kuR (a:Nat) (h:a<1000000):bitsI .xor .i64 (-1) (a:Int)<0:=by
 show IntKind.wrap .i64 ((BitVec.ofInt 64 (-1) ^^^ BitVec.ofInt 64 (a:Int)).toNat:Int)<0;rw [show BitVec.ofInt 64 (-1)=BitVec.allOnes 64 from by decide];have e:(BitVec.allOnes 64 ^^^ BitVec.ofInt 64 (a:Int)).toNat=18446744073709551615-a:=by
  rw [BitVec.allOnes_xor,BitVec.toNat_not];simp;omega
 rw [e];unfold IntKind.wrap;simp [IntKind.bits,IntKind.signed];omega
theorem ksT {α β:Type} {F:α->Yb (α⊕β)} (I:α->Prop) (m:α->Nat) (R:β->Prop)
  (h:∀ x,I x->(∃ y,F x=some (.inr y)/\R y)\/∃ y,F x=some (.inl y)/\I y/\m y<m x) (x:α) (b:I x) (c:m x<18446744073709551616):∃ y,iter F x=some y/\R y:=by
 have:∀ n x,I x->m x<n->∃ y,itN F n x=some y/\R y:=by
  intro n;induction n with
  | zero=>intro x _ i; omega
  | succ n g=>
   intro x b c;rcases h x b with ⟨y,e,a⟩ | ⟨y,e,a,f⟩
   ·exact ⟨y,kbb e,a⟩
   ·rw [kbf e]; exact g y a (by omega)
 obtain ⟨y,e,a⟩:=this 18446744073709551616 x b c;exact ⟨y,kek e (jah _),a⟩
theorem kvF (s:Ya UInt8) (pos:Nat) (hp:pos<s.length):∃ w,1<=w/\pos+w<=s.length/\runeN (s,(pos:Int))=(s,((pos+w:Nat):Int))/\((w=1/\(runeV (s,(pos:Int))==32||runeV (s,(pos:Int))==9)=sepW s[pos])\/((runeV (s,(pos:Int))==32||runeV (s,(pos:Int))==9)=false/\∀ j,j<w->sepW ((s.drop pos).getD j 0)=false)):=by
 have a:pos<(⟨s.toArray⟩:ByteArray).size:=by simpa [ByteArray.size] using hp
 have c:(⟨s.toArray⟩:ByteArray)[pos]'a=s[pos]:=by simp [ByteArray.getElem_eq_getElem_data]
 by_cases f:s[pos].toNat<128
 ·have b:=Go.decode_ascii ⟨s.toArray⟩ pos a (by rw [c]; exact f);refine ⟨1,jah _,hp,by unfold runeN; simp only [jam]; rw [b],.inl ⟨rfl,?_⟩⟩;rw [kmB];unfold runeV; simp only [jam]; rw [b,c]
 ·have b:=Go.decode_high ⟨s.toArray⟩ pos a (by rw [c]; omega);have i:s.getD pos 0=s[pos]:=by simp [List.getD,hp]
  obtain ⟨g,h2,h⟩:=dec_w s pos hp (by rw [i]; omega);refine ⟨_,g,h2,by unfold runeN; simp only [jam],.inr ⟨?_,λj k=>?_⟩⟩
  ·have:(128:Int)<=runeV (s,(pos:Int)):=by unfold runeV; simp only [jam]; omega
   generalize runeV (s,(pos:Int))=v at this;simp; omega
  ·have:=h (pos+j) (by omega) (by omega);have e:(s.drop pos).getD j 0=s.getD (pos+j) 0:=by simp [List.getD,jau]
   rw [e,kmB];generalize (s.getD (pos+j) 0).toNat=v at this;simp; omega
theorem kuz (s:Ya UInt8) (A:s.length<=100000) :
  ((iter (kbn c1f) (-1,(s,0),[])).bind λv4=>if (decide (0<=v4.1))=true then (gapp v4.2 [(v4.1,lenI s)]).bind λv5=>some v5 else some v4.2)=some (sf 0 none s):=by
 have hl:=kjR s 0 none;simp at hl;suffices ∃ y,iter (kbn c1f) (-1,(s,0),[])=some y/\((if (decide (0<=y.1))=true then (gapp y.2 [(y.1,lenI s)]).bind λv5=>some v5 else some y.2)=some (sf 0 none s)) by
  obtain ⟨y,e,u⟩:=this;rw [e]; exact u
 refine ksT (F:=kbn c1f)
  (λx=>∃ (pos:Nat) (st:Yb Nat),x.2.1=(s,(pos:Int))/\pos<=s.length/\(match st with | none=>x.1<0 | some a=>x.1=(a:Int)/\a<pos)/\x.2.2++sf pos st (s.drop pos)=sf 0 none s)
  (λx=>s.length-x.2.1.2.toNat) (λy=>(if (decide (0<=y.1))=true then (gapp y.2 [(y.1,lenI s)]).bind λv5=>some v5 else some y.2)=some (sf 0 none s)) (λx v=>?_) (-1,(s,0),[]) ⟨0,none,rfl,jdq _,by simp,by simp⟩ (by simp; omega)
 obtain ⟨j,p,g⟩:=x;obtain ⟨pos,st,i,n,c,b⟩:=v;simp only at i c b;subst i;have t:g.length<=100000:=by
  have:=congrArg List.length b;simp at this; omega
 unfold kbn;simp only;rcases jbz pos s.length with hp | hp
 ·right;rw [if_pos (lenI_lt.2 hp),c1_eq];simp only [jab];obtain ⟨w,m,l,o,h⟩:=kvF s pos hp;rw [o];have k:=jbd hp;rcases h with ⟨rfl,h⟩ | ⟨h,z⟩
  ·rw [h];rw [k,krA] at b;cases f:sepW s[pos] with
   | true=>
    rw [f,if_pos rfl] at b;rw [if_pos rfl];cases st with
    | none=>
     rw [if_neg (by simp only [jak]; simp only at c; omega)];exact ⟨_,rfl,⟨pos+1,none,rfl,hp,c,b⟩,by simp; omega⟩
    | some a=>
     obtain ⟨rfl,c⟩:=c;rw [if_pos (by simp),kaJ (by simp; omega)];refine ⟨_,rfl,⟨pos+1,none,rfl,hp,kuR a (by omega),?_⟩,by simp; omega⟩;simpa using b
   | false=>
    rw [f,if_neg (by decide)] at b;rw [if_neg (by decide)];cases st with
    | none=>
     rw [if_pos (by simp only [jak]; simp only at c; omega)];exact ⟨_,rfl,⟨pos+1,some pos,rfl,hp,⟨rfl,by omega⟩,b⟩,by simp; omega⟩
    | some a=>
     obtain ⟨rfl,c⟩:=c;rw [if_neg (by simp)];exact ⟨_,rfl,⟨pos+1,some a,rfl,hp,⟨rfl,by omega⟩,b⟩,by simp; omega⟩
  ·rw [h,if_neg (by decide)];rw [krc w pos st _ m (by simp; omega) z,List.drop_drop] at b;cases st with
   | none=>
    rw [if_pos (by simp only [jak]; simp only at c; omega)];exact ⟨_,rfl,⟨pos+w,some pos,rfl,l,⟨rfl,by omega⟩,b⟩,by simp; omega⟩
   | some a=>
    obtain ⟨rfl,c⟩:=c;rw [if_neg (by simp)];exact ⟨_,rfl,⟨pos+w,some a,rfl,l,⟨rfl,by omega⟩,b⟩,by simp; omega⟩
 ·left;obtain rfl:pos=s.length:=by omega
  rw [if_neg kaD];refine ⟨_,rfl,?_⟩;rw [List.drop_length] at b;simp only;cases st with
  | none=>
   rw [if_neg (by simp only [jak]; simp only at c; omega)];simpa [sf] using b
  | some a=>
   obtain ⟨rfl,c⟩:=c;rw [if_pos (by simp),kaJ (by simp; omega)];simpa [sf,kae] using b
theorem kuC (s:Ya UInt8) (a:Ya (Int×Int)) (l:∀ x∈a,0<=x.1/\x.1<=x.2/\x.2<=s.length) (hl:a.length<=100000) :
  ((gmk (lenI a) []).bind λh=>iter (kbN s a) (0,h))=some (a.map λx=>(s.take x.2.toNat).drop x.1.toNat):=by
 have f:gmk (lenI a) ([]:Ya UInt8)=some (List.replicate a.length []):=by unfold gmk; rw [if_pos (by rw [kae]; omega)]; simp [kae]
 rw [f];simp only [jab];refine kdg (F:=kbN s a) (λx=>∃ i:Nat,x.1=(i:Int)/\i<=a.length/\x.2.length=a.length/\x.2.take i=(a.map λx=>(s.take x.2.toNat).drop x.1.toNat).take i) (λx=>a.length-x.1.toNat) (λ_=>a.map λx=>(s.take x.2.toNat).drop x.1.toNat) (λx j=>?_) (0,List.replicate a.length []) ⟨0,rfl,jdq _,by simp,by simp⟩ (by simp; omega);obtain ⟨k,st⟩:=x;obtain ⟨i,c,n,e,h2⟩:=j;simp only at c e h2;subst c;unfold kbN;simp only;rcases jbz i a.length with hp | hp
 ·right;obtain ⟨g1,g,m⟩:=l a[i] (jdh hp);have b:gsl s a[i].1 a[i].2=some ((s.take a[i].2.toNat).drop a[i].1.toNat):=by unfold gsl; rw [if_pos ⟨g1,g,m⟩]
  rw [if_pos (lenI_lt.2 hp),kaG hp];simp only [jab];rw [b,kaG (by omega:i<st.length),kaA (by omega)];simp only [jab];refine ⟨_,rfl,⟨i+1,rfl,hp,by unfold lset; simp [e],?_⟩,by simp; omega,trivial⟩;unfold lset;simp only [jam];rw [jck (by simp; omega),jck (by simpa using hp)];simp only [List.getElem_set_self,List.getElem_map];rw [List.take_set_of_le (jah _),h2]
 ·left;obtain rfl:i=a.length:=by omega
  rw [if_neg kaD];rw [jaz (by omega),jaz (by simp)] at h2;rw [h2]
theorem kuc (s:Ya UInt8) (k:s.length<=100000):ken s=some (wf [] (trimN 13 s)):=by
 unfold ken;rw [kru 13 s k];simp only [jab];have b:=kfu 13 s;generalize trimN 13 s=t at b;unfold kdi;have c:gmk 0 ((0:Int),(0:Int))=some []:=rfl;rw [c];simp only [jab];have e:=kuz t (by omega);have hl:=kjR t 0 none;simp at hl;obtain ⟨f,n⟩:=kkU t t 0 none (by simp) (λa h=>by cases h);have p:=kuC t _ f (by omega);rw [n] at p;obtain ⟨v4,l,i⟩:=jaa.1 e;rw [show (λg:Int=>(kcS g).bind λj=>some j)=c1f from rfl,l];simp only [jab];have m:(if (decide (0<=v4.1))=true then (gapp v4.2 [(v4.1,lenI t)]).bind λv5=>some v5 else some v4.2)=some (sf 0 none t):=i;rw [m];simp only [jab];obtain ⟨o,p1,p2⟩:=jaa.1 p;rw [p1];simp only [jab];rw [p2];rfl
theorem kpc {d:Nat} (h:d<10):Lib.digitVal (UInt8.ofNat (48+d))=some d:=by
 unfold Lib.digitVal;rw [UInt8.toNat_ofNat',Nat.mod_eq_of_lt (by omega),if_pos (by omega)];congr 1; omega
theorem kcA (a:Nat) (b:UInt8) (l:Ya UInt8):Lib.decFrom a (b::l)=match Lib.digitVal b with | some d=>Lib.decFrom (a*10+d) l | none=>none:=rfl
theorem kfC (b:UInt8) (r:Ya UInt8):Lib.atoi (b::r)=if b==45 then (Lib.decNat r).map λ(m:Nat)=>-(m:Int) else if b==43 then (Lib.decNat r).map λ(m:Nat)=>(m:Int) else (Lib.decNat (b::r)).map λ(m:Nat)=>(m:Int):=rfl
theorem kkH:∀ (l r:Ya UInt8) (c:Nat),Lib.decFrom c (l++r)=(Lib.decFrom c l).bind λa=>Lib.decFrom a r
 | [],r,c=>rfl
 | b::l,r,c=>by
  rw [jdj,kcA,kcA];cases h:Lib.digitVal b with
  | none=>rfl
  | some d=>exact kkH l r _
theorem kdt:∀ (k u:Nat),u<k->Lib.decFrom 0 (Lib.decDigits u)=some u
 | 0,u,h=>by omega
 | k+1,u,h=>by
  rw [Lib.decDigits];split
  ·rename_i a;simp only [Lib.decFrom,kpc a]; congr 1; omega
  ·rename_i a;rw [kkH,kdt k (u / 10) (by omega)];simp only [jab,Lib.decFrom,kpc (Nat.mod_lt u (by decide:0<10))];congr 1; omega
theorem knP (u:Nat):Lib.decDigits u≠[]:=by
 rw [Lib.decDigits]; split <;> simp
theorem kqI {u:Nat} {b:UInt8} {r:Ya UInt8} (h:Lib.decDigits u=b::r):48<=b.toNat/\b.toNat<=57:=by
 have e:=kdt (u+1) u (by omega);rw [h,kcA] at e;unfold Lib.digitVal at e;split at e
 ·rename_i d a;split at a
  ·assumption
  ·cases a
 ·cases e
theorem kiM (u:Nat):Lib.decNat (Lib.decDigits u)=some u:=by
 unfold Lib.decNat;rw [if_neg (by simpa using knP u)];exact kdt (u+1) u (by omega)
theorem kfo (v:Int):Lib.atoi (Lib.itoa v)=some v:=by
 unfold Lib.itoa;split
 ·rw [kfC,if_pos (by rfl),kiM];simp; omega
 ·cases h:Lib.decDigits v.toNat with
  | nil=>exact absurd h (knP _)
  | cons b r=>
   have a:=kqI h;rw [kfC,if_neg (by simp; rintro rfl; revert a; decide),if_neg (by simp; rintro rfl; revert a; decide),<-h,kiM];simp; omega
theorem knm {x:Int} (f:-1000<=x) (c:x<=1000):(Lib.itoa x).length<=5:=by
 have key:∀ u:Nat,u<=1000->(Lib.decDigits u).length<=4:=λu e=>by
  rw [Lib.decDigits_length];rcases jbz u 10 with h2 | h2
  ·rw [Lib.nDigits_small h2]; decide
  ·rcases jbz u 100 with b | b
   ·rw [Lib.nDigits_unique 1 u (by omega) (by omega)]; decide
   ·rcases jbz u 1000 with a | a
    ·rw [Lib.nDigits_unique 2 u (by omega) (by omega)]; decide
    ·rw [Lib.nDigits_unique 3 u (by omega) (by omega)]; decide
 unfold Lib.itoa;split
 ·have:=key x.natAbs (by omega);simp only [jbt]; omega
 ·have:=key x.toNat (by omega); omega
def numP (s:Ya UInt8) (a b:Int):Yb Int:=match Lib.atoi s with
 | some v=>if (Lib.itoa v==s&&wi a b v)=true then some v else none
 | none=>none
theorem numP_iff {s:Ya UInt8} {a c v:Int}:numP s a c=some v↔Lib.itoa v=s/\a<=v/\v<=c:=by
 unfold numP;constructor
 ·intro h;split at h
  ·split at h
   ·cases h;rename_i b;simp [wi_iff] at b;exact b
   ·cases h
  ·cases h
 ·rintro ⟨rfl,e,h2⟩;rw [kfo];simp [wi_iff,e,h2]
def NumR {α:Type} (p:Yb α) (r:Yb (α×Bool)):Prop:=∃ x,r=some (x,p.isSome)/\∀ v,p=some v->x=v
theorem NumR.yes {α:Type} {p:Yb α} {x:α} (h:p=some x):NumR p (some (x,true)):=⟨x,by rw [h]; rfl,λv e=>by rw [h] at e; exact Option.some.inj e⟩
theorem NumR.no {α:Type} {p:Yb α} {x:α} (h:p=none):NumR p (some (x,false)):=⟨x,by rw [h]; rfl,λv e=>by rw [h] at e; cases e⟩
theorem kob (s:Ya UInt8) (b a:Int) (t:s.length<=100000) (o:-1000<=b) (p:a<=1000):NumR (numP s b a) (kdF s b a):=by
 have c:∀ v:Int,Lib.atoiAll s≠.ok v->numP s b a≠some v:=λv n hp=>n<|by
  obtain ⟨rfl,h2,k⟩:=numP_iff.1 hp;rw [Lib.atoiAll_short _ (jcl (knm (by omega) (by omega)) (by decide)),kfo];rfl
 unfold kdF khC;rw [if_pos (by omega)];cases m:Lib.atoiAll s;case ok v=>
  simp only;split
  ·rename_i g;have f:Lib.itoa v=s:=by simpa using g
   rw [krP _ _ _ (by simp)];simp only [jab,jdx,List.all_nil,Bool.and_true];cases j:wi b a v with
   | true=>exact .yes (numP_iff.2 ⟨f,wi_iff.1 j⟩)
   | false=>
    refine .no ?_;cases hp:numP s b a with
    | none=>rfl
    | some u=>
     obtain ⟨h2,k⟩:=numP_iff.1 hp;have:u=v:=by
      have l:=kfo u;have i:=kfo v;rw [h2] at l; rw [f] at i;rw [l] at i; exact Option.some.inj i
     subst this;rw [wi_iff.2 k] at j; cases j
  ·rename_i g;refine .no ?_;cases hp:numP s b a with
   | none=>rfl
   | some u=>
    by_cases e:u=v
    ·subst e;exact absurd (by simpa using (numP_iff.1 hp).1) g
    ·exact absurd hp (c u (by rw [m]; intro h; injection h with h; exact e h.symm))
 all_goals (
  refine .no ?_;cases hp:numP s b a with
  | none=>rfl
  | some u=>exact absurd hp (c u (by rw [m]; intro h; cases h)))
theorem kfJ:∀ (l:Ya UInt8) (a n:Nat),Lib.decFrom a l=some n->n+1<=(a+1)*10 ^ l.length
 | [],a,n,h=>by cases h; simp
 | b::l,a,n,h=>by
  rw [kcA] at h;unfold Lib.digitVal at h;split at h
  ·rename_i d c;split at c
   ·cases c;have:=kfJ l _ n h;rw [jbt,Nat.pow_succ];have h2:(a*10+(b.toNat-48)+1)*10 ^ l.length<=((a+1)*10)*10 ^ l.length:=jbv _ (by omega);rw [Nat.mul_comm (10 ^ l.length) 10,<-Nat.mul_assoc];omega
   ·cases c
  ·cases h
theorem knW (l:Ya UInt8) (hl:l.length<=5):iter (kaS l) (0,0)=some (match Lib.decFrom 0 l with | none=>.inl (0,false) | some n=>.inr (n:Int)):=by
 have:∀ (k i a:Nat),i+k=l.length->a+1<=10 ^ i->itN (kaS l) (k+1) ((i:Int),(a:Int))=some (match Lib.decFrom a (l.drop i) with | none=>.inl (0,false) | some n=>.inr (n:Int)):=by
  intro k;induction k with
  | zero=>
   intro i a h g;obtain rfl:i=l.length:=by omega
   have e:kaS l ((l.length:Int),(a:Int))=some (.inr (.inr (a:Int))):=by
    unfold kaS; simp only; rw [if_neg kaD]
   rw [kbb e,List.drop_length]; rfl
  | succ k j=>
   intro i a h g;have b:i<l.length:=by omega
   have o:10 ^ i<=10 ^ 5:=Nat.pow_le_pow_right (by decide) (by omega);rw [jbd b,kcA];unfold Lib.digitVal;by_cases c:48<=l[i].toNat/\l[i].toNat<=57
   ·rw [if_pos c];simp only;have e:kaS l ((i:Int),(a:Int))=some (.inl (((i+1:Nat):Int),((a*10+(l[i].toNat-48):Nat):Int))):=by
     unfold kaS;simp only;rw [if_pos (lenI_lt.2 b),kfY b];simp only [jab];rw [if_neg (by simp; omega),if_neg (by simp; omega),kaA (by omega)];have f:w64 (10*(a:Int))=((10*a:Nat):Int):=by rw [kbs (by omega) (by omega)]; simp
     have m:IntKind.wrap .u8 ((l[i].toNat:Int)-48)=((l[i].toNat-48:Nat):Int):=by rw [kgc (by omega) (by omega)]; omega
     rw [f,m,kbs (x:=((l[i].toNat-48:Nat):Int)) (by omega) (by omega),kbs (by omega) (by omega)];congr 4; omega
    rw [kbf e];exact j (i+1) _ (by omega) (by rw [Nat.pow_succ]; omega)
   ·rw [if_neg c];simp only;have e:kaS l ((i:Int),(a:Int))=some (.inr (.inl (0,false))):=by
     unfold kaS;simp only;rw [if_pos (lenI_lt.2 b),kfY b];simp only [jab];by_cases p:l[i].toNat<48
     ·rw [if_pos (by simp; omega)]
     ·rw [if_neg (by simp; omega),if_pos (by simp; omega)]
    rw [kbb e]
 exact kek (this l.length 0 0 (by omega) (by simp)) (by omega)
theorem kcD (s:Ya UInt8) (g h:Int) (D:s.length<=100000) (A:-1000<=g) (B:h<=1000):NumR (numP s g h) (kbr s g h):=by
 unfold kbr;by_cases v:5<s.length
 ·rw [if_pos (by rw [kae]; simp; omega)];refine .no ?_;cases hp:numP s g h with
  | none=>rfl
  | some u=>
   obtain ⟨rfl,h2,C⟩:=numP_iff.1 hp;have:=knm (x:=u) (by omega) (by omega);omega
 ·rw [if_neg (by rw [kae]; simp; omega)];cases s with
  | nil=>exact .no rfl
  | cons b r=>
   rw [if_pos (by rw [kae]; simp)];have z:gstr (b::r) 0=some (b.toNat:Int):=rfl;rw [z];simp only [jab];have i:=u8_eq b 45 (by decide);rw [show ((45:Nat):Int)=45 from rfl,show UInt8.ofNat 45=45 from rfl] at i;rw [i];by_cases p:b=45
   ·subst p;rw [if_pos (by rfl),kit];simp only [jab];simp only [jbt] at v;rw [knW r (by omega)];have j:=kfJ r 0;cases c:Lib.decFrom 0 r with
    | none=>
     refine .no ?_;cases hp:numP (45::r) g h with
     | none=>rfl
     | some u=>
      have e:=kfo u;rw [(numP_iff.1 hp).1] at e;rw [kfC,if_pos (by rfl)] at e;unfold Lib.decNat at e;split at e
      ·cases e
      ·rw [c] at e; cases e
    | some n=>
     have hn:=j n c;have t:10 ^ r.length<=10 ^ 5:=Nat.pow_le_pow_right (by decide) (by omega);simp only [jab];rw [if_pos (by simp)];simp only [jab];rw [kbs (by omega) (by omega)];by_cases hr:r=[]
     ·subst hr;rw [if_neg (by decide)];refine .no ?_;unfold numP Lib.atoi Lib.decNat;rfl
     ·have y:0<r.length:=List.length_pos_iff.2 hr;rw [if_pos (by rw [kae]; simp; omega),klO _ (by omega) (by omega)];simp only [jab];have m:Lib.atoi (45::r)=some (0-(n:Int)):=by
       rw [kfC,if_pos (by rfl)];unfold Lib.decNat;rw [if_neg (by simpa using hr),c];simp
      by_cases k:Lib.itoa (0-(n:Int))=45::r
      ·rw [if_pos (by rw [k]; simp),kns];simp only [jab];cases l:wi g h (0-(n:Int)) with
       | true=>exact .yes (numP_iff.2 ⟨k,wi_iff.1 l⟩)
       | false=>exact .no (by unfold numP; rw [m]; simp only; rw [l]; simp)
      ·have a:=beq_eq_false_iff_ne.2 k;rw [a,if_neg (by decide)];exact .no (by unfold numP; rw [m]; simp only; rw [a,Bool.false_and,if_neg (by decide)])
   ·rw [if_neg (by simpa using p)];simp only [jab];simp only [jbt] at v;rw [knW (b::r) (by simp; omega)];have j:=kfJ (b::r) 0;cases c:Lib.decFrom 0 (b::r) with
    | none=>
     refine .no ?_;cases hp:numP (b::r) g h with
     | none=>rfl
     | some u=>
      have f:=(numP_iff.1 hp).1;unfold Lib.itoa at f;split at f
      ·injection f with e1 e2; exact absurd e1.symm p
      ·have:=kdt (u.toNat+1) u.toNat (by omega);rw [f,c] at this; cases this
    | some n=>
     have hn:=j n c;have t:10 ^ (b::r).length<=10 ^ 5:=Nat.pow_le_pow_right (by decide) (by simp; omega);simp only [jab];rw [if_neg (by simp)];simp only [jab];rw [if_pos (by rw [kae]; simp),klO _ (by omega) (by omega)];simp only [jab];have o:b≠43:=λe=>by
      subst e;rw [kcA,show Lib.digitVal 43=none from by decide] at c;cases c
     have m:Lib.atoi (b::r)=some (n:Int):=by
      rw [kfC,if_neg (by simpa using p),if_neg (by simpa using o)];unfold Lib.decNat;rw [if_neg (by simp),c];rfl
     by_cases k:Lib.itoa (n:Int)=b::r
     ·rw [if_pos (by rw [k]; simp),kns];simp only [jab];cases l:wi g h (n:Int) with
      | true=>exact .yes (numP_iff.2 ⟨k,wi_iff.1 l⟩)
      | false=>exact .no (by unfold numP; rw [m]; simp only; rw [l]; simp)
     ·have a:=beq_eq_false_iff_ne.2 k;rw [a,if_neg (by decide)];exact .no (by unfold numP; rw [m]; simp only; rw [a,Bool.false_and,if_neg (by decide)])
def kdj:Ya (Ya UInt8)->Yb Brick
 | [a,b,c,d,e]=>(numP a (-1000) 1000).bind λx=>(numP b (-1000) 1000).bind λy=>(numP c (-1000) 1000).bind λz=>(numP d 0 23).bind λt=>(numP e 0 15).bind λk=>some (0,(x,y,z),t,k)
 | _=>none
theorem knM (a b c d e:Ya UInt8):kdj [a,b,c,d,e]=(numP a (-1000) 1000).bind λx=>(numP b (-1000) 1000).bind λy=>(numP c (-1000) 1000).bind λz=>(numP d 0 23).bind λt=>(numP e 0 15).bind λk=>some (0,(x,y,z),t,k):=rfl
theorem krd {α:Type} {l:Ya α} (h:l.length=5):∃ a b c d e,l=[a,b,c,d,e]:=by
 match l,h with
 | [a,b,c,d,e],_=>exact ⟨a,b,c,d,e,rfl⟩
theorem kkw (w:Ya (Ya UInt8)) (p:w.length=5) (f:∀ x∈w,x.length<=100000):NumR (kdj w) (kdE w):=by
 obtain ⟨a,b,c,d,e,rfl⟩:=krd p;obtain ⟨x,D,B⟩:=kcD a (-1000) 1000 (f a (by simp)) (by decide) (by decide);obtain ⟨y,A,s⟩:=kcD b (-1000) 1000 (f b (by simp)) (by decide) (by decide);obtain ⟨z,hz,i⟩:=kcD c (-1000) 1000 (f c (by simp)) (by decide) (by decide);obtain ⟨t,j,C⟩:=kcD d 0 23 (f d (by simp)) (by decide) (by decide);obtain ⟨k,m,l⟩:=kcD e 0 15 (f e (by simp)) (by decide) (by decide);unfold kdE;have o:gi [a,b,c,d,e] 0=some a:=rfl;have g1:gi [a,b,c,d,e] 1=some b:=rfl;have n:gi [a,b,c,d,e] 2=some c:=rfl;have G:gi [a,b,c,d,e] 3=some d:=rfl;have v:gi [a,b,c,d,e] 4=some e:=rfl;rw [o,g1,n,G,v];simp only [jab,D,A,hz,j,m];rw [knM];cases E:numP a (-1000) 1000 with
 | none=>exact .no (by simp only [jab,jdp])
 | some I=>
  cases u:numP b (-1000) 1000 with
  | none=>exact .no (by simp only [jab,jdp])
  | some L=>
   cases F:numP c (-1000) 1000 with
   | none=>exact .no (by simp only [jab,jdp])
   | some N=>
    cases h:numP d 0 23 with
    | none=>exact .no (by simp only [jab,jdp])
    | some O=>
     cases g:numP e 0 15 with
     | none=>exact .no (by simp only [jab,jdp])
     | some J=>
      obtain rfl:=B _ E;obtain rfl:=s _ u;obtain rfl:=i _ F;obtain rfl:=C _ h;obtain rfl:=l _ g;have K:=(numP_iff.1 h).2;have H:=(numP_iff.1 g).2;simp only [Option.isSome_some,if_true];rw [kgc (by omega) (by omega),kgc (by omega) (by omega)];exact .yes (by simp only [jab])
def lim (i:Nat):Int×Int:=if i=3 then (0,23) else if i=4 then (0,15) else (-1000,1000)
theorem ksa (w:Ya (Ya UInt8)) (i:Nat) (a:i<w.length) (n:w.length=5) (j:∀ x∈w,x.length<=100000) (z:Int×Int×Int×Int×Int×Int) (A:Arr 5 Int) :
  kbQ w ((i:Int),z.1,z.2.1,z.2.2.1,z.2.2.2.1,z.2.2.2.2.1,z.2.2.2.2.2,A)=some (match numP w[i] (lim i).1 (lim i).2 with
   | none=>.inr (.inl ((0,(0,0,0),0,0),false))
   | some v=>.inl (((i+1:Nat):Int),z.1,z.2.1,z.2.2.1,z.2.2.2.1,z.2.2.2.2.1,z.2.2.2.2.2,aset A (i:Int) v)):=by
 have b:-1000<=(lim i).1/\(lim i).2<=1000:=by unfold lim; split; simp; split <;> simp
 obtain ⟨x,m,k⟩:=kob w[i] (lim i).1 (lim i).2 (j _ (jdh a)) b.1 b.2;have hl:(if ((i:Int)==3)=true then (some ((0:Int),(23:Int))) else ((if ((i:Int)==4)=true then (some ((0:Int),(15:Int))) else (some ((-1000),1000))).bind λv2=>some v2))=some (lim i):=by
  unfold lim;by_cases f:i=3
  ·subst f; rfl
  ·by_cases c:i=4
   ·subst c; rfl
   ·rw [if_neg (by simp; omega),if_neg (by simp; omega),if_neg f,if_neg c]; rfl
 have g:garr A (i:Int)=some (A.l[i]'(by rw [A.h]; omega)):=by unfold garr; exact kaG _
 unfold kbQ;simp only;rw [if_pos (lenI_lt.2 a),kaG a,hl];simp only [jab];rw [m];simp only [jab];rw [g,kaA (by omega)];cases e:numP w[i] (lim i).1 (lim i).2 with
 | none=>rfl
 | some v=>
  obtain rfl:=k _ e;rfl
theorem kpk (w:Ya (Ya UInt8)) (B:w.length=5) (L:∀ x∈w,x.length<=100000):NumR (kdj w) (keG w):=by
 have st:=λi P A=>ksa w i P B L (0,0,0,0,0,0) A;have O:∀ A,kbQ w (5,0,0,0,0,0,0,A)=some (.inr (.inr (A,0,0,0,0,0,0))):=λA=>by
  unfold kbQ;simp only;rw [if_neg (by rw [kae,B]; simp)]
 obtain ⟨a,b,c,d,e,rfl⟩:=krd B;have s0:=st 0 (by simp) (amk 5 0);simp only [List.getElem_cons_zero] at s0;unfold keG;have fin:∀ {r},itN (kbQ [a,b,c,d,e]) 6 (0,0,0,0,0,0,0,amk 5 0)=some r->iter (kbQ [a,b,c,d,e]) (0,0,0,0,0,0,0,amk 5 0)=some r:=λh=>kek h (by decide);rw [knM];cases E:numP a (-1000) 1000 with
 | none=>
  have u:numP a (lim 0).1 (lim 0).2=none:=E;rw [u] at s0;rw [fin (kbb s0)];exact .no (by simp only [jab,jdp])
 | some f=>
  have u:numP a (lim 0).1 (lim 0).2=some f:=E;rw [u] at s0;have m:=st 1 (by simp) (aset (amk 5 0) 0 f);simp only [List.getElem_cons_succ,List.getElem_cons_zero] at m;cases D:numP b (-1000) 1000 with
  | none=>
   have n:numP b (lim 1).1 (lim 1).2=none:=D;rw [n] at m;rw [fin ((kbf s0).trans (kbb m))];exact .no (by simp only [jab,jdp])
  | some g=>
   have n:numP b (lim 1).1 (lim 1).2=some g:=D;rw [n] at m;have p:=st 2 (by simp) (aset (aset (amk 5 0) 0 f) 1 g);simp only [List.getElem_cons_succ,List.getElem_cons_zero] at p;cases F:numP c (-1000) 1000 with
   | none=>
    have t:numP c (lim 2).1 (lim 2).2=none:=F;rw [t] at p;rw [fin ((kbf s0).trans ((kbf m).trans (kbb p)))];exact .no (by simp only [jab,jdp])
   | some j=>
    have t:numP c (lim 2).1 (lim 2).2=some j:=F;rw [t] at p;have v:=st 3 (by simp) (aset (aset (aset (amk 5 0) 0 f) 1 g) 2 j);simp only [List.getElem_cons_succ,List.getElem_cons_zero] at v;cases C:numP d 0 23 with
    | none=>
     have s:numP d (lim 3).1 (lim 3).2=none:=C;rw [s] at v;rw [fin ((kbf s0).trans ((kbf m).trans ((kbf p).trans (kbb v))))];exact .no (by simp only [jab,jdp])
    | some k=>
     have s:numP d (lim 3).1 (lim 3).2=some k:=C;rw [s] at v;have y:=st 4 (by simp) (aset (aset (aset (aset (amk 5 0) 0 f) 1 g) 2 j) 3 k);simp only [List.getElem_cons_succ,List.getElem_cons_zero] at y;cases z:numP e 0 15 with
     | none=>
      have o:numP e (lim 4).1 (lim 4).2=none:=z;rw [o] at y;rw [fin ((kbf s0).trans ((kbf m).trans ((kbf p).trans ((kbf v).trans (kbb y)))))];exact .no (by simp only [jab,jdp])
     | some l=>
      have o:numP e (lim 4).1 (lim 4).2=some l:=z;rw [o] at y;rw [fin ((kbf s0).trans ((kbf m).trans ((kbf p).trans ((kbf v).trans ((kbf y).trans (kbb (O _)))))))];have T:=(numP_iff.1 C).2;have R:=(numP_iff.1 z).2;simp only [jab];have G:garr (aset (aset (aset (aset (aset (amk 5 (0:Int)) 0 f) 1 g) 2 j) 3 k) ((4:Nat):Int) l) 0=some f:=rfl;have I:garr (aset (aset (aset (aset (aset (amk 5 (0:Int)) 0 f) 1 g) 2 j) 3 k) ((4:Nat):Int) l) 1=some g:=rfl;have Q:garr (aset (aset (aset (aset (aset (amk 5 (0:Int)) 0 f) 1 g) 2 j) 3 k) ((4:Nat):Int) l) 2=some j:=rfl;have J:garr (aset (aset (aset (aset (aset (amk 5 (0:Int)) 0 f) 1 g) 2 j) 3 k) ((4:Nat):Int) l) 3=some k:=rfl;have N:garr (aset (aset (aset (aset (aset (amk 5 (0:Int)) 0 f) 1 g) 2 j) 3 k) ((4:Nat):Int) l) 4=some l:=rfl;have K:=kgc (x:=k) (by omega) (by omega);have H:=kgc (x:=l) (by omega) (by omega);refine (λ{r} (h:r=some _)=>(h ▸ .yes rfl:NumR _ r)) ?_;show ((garr (aset (aset (aset (aset (aset (amk 5 (0:Int)) 0 f) 1 g) 2 j) 3 k) ((4:Nat):Int) l) 0).bind λv9=>_)=_;simp only [G,I,Q,J,N,jab,K,H]
inductive It where
 | sub (n:List UInt8)
 | fin
 | use (n:List UInt8) (b:Brick)
 | brick (b:Brick)
def itIn:It->Bool
 | .fin=>false
 | _=>true
def itB:It->Brick
 | .use _ b=>b
 | .brick b=>b
 | _=>(0,(0,0,0),0,0)
def kSub:Ya UInt8:=[115,117,98]
def kEnd:Ya UInt8:=[101,110,100]
def kdG:Ya UInt8:=[98,114,105,99,107]
def kUse:Ya UInt8:=[117,115,101]
def brI (r:Ya (Ya UInt8)):Yb It:=match r with | []=>none | n::p=>(numP n 0 15).bind λk=>(kdj p).bind λb=>some (.brick (k,b.2))
def usI (r:Ya (Ya UInt8)):Yb It:=match r with | []=>none | n::p=>if kdQ n=true then (kdj p).map (.use n) else none
def suI (r:Ya (Ya UInt8)):Yb It:=match r with | [n]=>if kdQ n=true then some (.sub n) else none | _=>none
def itemP (ins:Bool):Ya (Ya UInt8)->Yb It
 | []=>none
 | k::r=>if k=kSub then (if ins=true then none else suI r) else if ins=false then none else if k=kEnd then (if r=[] then some .fin else none) else if k=kdG then brI r else if k=kUse then usI r else none
theorem kaK (ins:Bool) (k:Ya UInt8) (r:Ya (Ya UInt8)):itemP ins (k::r)=if k=kSub then (if ins=true then none else suI r) else if ins=false then none else if k=kEnd then (if r=[] then some .fin else none) else if k=kdG then brI r else if k=kUse then usI r else none:=rfl
def skipP:Ya (Ya UInt8)->Bool
 | []=>true
 | k::_=>k.head?==some 35
abbrev PIt:=Nat×List (List UInt8)×It
def kap:Ya (Ya (Ya UInt8))->Nat->Bool->Nat⊕(Ya PIt×Bool)
 | [],_,ins=>.inr ([],ins)
 | w::ls,row,ins=>if skipP w=true then kap ls (row+1) ins else match itemP ins w with
  | none=>.inl (row+1)
  | some it=>match kap ls (row+1) (itIn it) with
   | .inl r=>.inl r
   | .inr (its,e)=>.inr ((row+1,w,it)::its,e)
def addL (d:Ya Sub) (x:Line):Ya Sub:=match d.getLast? with | some s=>d.dropLast++[(s.1,s.2++[x])] | none=>[]
theorem kcx (l:Ya Sub) (s:Sub) (x:Line):addL (l++[s]) x=l++[(s.1,s.2++[x])]:=by simp [addL]
abbrev RSt:=List Sub×List Use×List (Int×Int)
def lastN (d:Ya Sub):Int:=match d.getLast? with | some s=>(s.2.length:Int) | none=>0
def stepS (st:RSt) (x:PIt):RSt:=match x.2.2 with
 | .sub n=>(st.1++[(n,[])],st.2.1,mput st.2.2 (st.1.length:Int) (x.1:Int))
 | .fin=>st
 | .use n b=>(addL st.1 (0,b),st.2.1++[(n,(st.1.length:Int)-1,lastN st.1,(x.1:Int))],st.2.2)
 | .brick b=>(addL st.1 (-1,b),st.2.1,st.2.2)
def MetR (p:Yb It) (row:Nat) (w:Ya (Ya UInt8)) (st:RSt) (r:Yb (Bool×Int×Bool×Ya Sub×Ya Use×Ya (Int×Int))):Prop:=match p with
 | some it=>r=some (true,(row:Int),itIn it,stepS st (row,w,it))
 | none=>∃ z,r=some (false,(row:Int),z)
section
variable {r:Ya (Ya UInt8)} {row:Nat} {ins:Bool} {S:Ya Sub} {U:Ya Use} {M:Ya (Int×Int)} {w:Ya (Ya UInt8)}
theorem krp {α:Type} (l:Ya α) (x:α):gi (l++[x]) (lenI (l++[x])-1)=some x:=by
 have e:lenI (l++[x])-1=((l.length:Nat):Int):=by rw [kae]; simp
 rw [e,kaG (by simp)]; simp
theorem knF {α:Type} (l:Ya α) (x y:α):lset (l++[x]) (lenI (l++[x])-1) y=l++[y]:=by
 have e:lenI (l++[x])-1=((l.length:Nat):Int):=by rw [kae]; simp
 rw [e]; unfold lset; simp
theorem klY {α:Type} {l:Ya α} (h:l.length=6):∃ a p,l=a::p/\p.length=5:=by
 cases l with
 | nil=>cases h
 | cons a p=>exact ⟨a,p,rfl,by simpa using h⟩
theorem kfj {p:Ya (Ya UInt8)} (h:p.length≠5):kdj p=none:=by
 unfold kdj;split
 ·exact absurd rfl h
 ·rfl
theorem kvw (hr:∀ x∈r,x.length<=100000) (hS:S.length<=100000):MetR (if ins=true then none else suI r) row w (S,U,M) (kbK r (row:Int) ins S U M):=by
 unfold kbK;cases ins with
 | true=>exact ⟨_,rfl⟩
 | false=>
  rw [if_neg (by decide),if_neg (by decide)];by_cases a:r.length=1
  ·obtain ⟨n,rfl⟩:∃ n,r=[n]:=by
    match r,a with
    | [n],_=>exact ⟨n,rfl⟩
   rw [if_neg (by rw [kae]; simp),kbA];simp only [jab];rw [knx n (hr n (by simp))];simp only [jab,suI];cases hn:kdQ n with
   | true=>
    rw [if_pos rfl,if_neg (by decide),kaJ (by simp; omega)];rfl
   | false=>exact ⟨_,rfl⟩
  ·rw [if_pos (by rw [kae]; simp; omega)];have:suI r=none:=by unfold suI; split; exact absurd rfl a; rfl
   rw [this];exact ⟨_,rfl⟩
theorem kvz:MetR (if ins=false then none else if r=[] then some .fin else none) row w (S,U,M) (kju r (row:Int) ins S U M):=by
 unfold kju;cases ins with
 | false=>exact ⟨_,rfl⟩
 | true=>
  rw [if_neg (by decide),if_pos rfl];cases r with
  | nil=>exact rfl
  | cons a l=>
   refine ⟨(false,S,U,M),?_⟩;rw [kae];congr 2
theorem kto (hr:∀ x∈r,x.length<=100000) (hS:ins=true->S≠[]) (m:S.length<=100000) (hL:∀ s∈S,s.2.length<=100000):MetR (if ins=false then none else brI r) row w (S,U,M) (kbq r (row:Int) ins S U M):=by
 unfold kbq;cases ins with
 | false=>exact ⟨_,rfl⟩
 | true=>
  rw [if_neg (by decide),if_neg (by decide)];by_cases a:r.length=6
  ·obtain ⟨n,p,rfl,hp⟩:=klY a;rw [if_neg (by rw [kae,a]; simp),kbA,kit];simp only [jab];obtain ⟨x,j,i⟩:=kob n 0 15 (hr n (by simp)) (by decide) (by decide);obtain ⟨y,h,f⟩:=kpk p hp (λz hz=>hr z (by simp [hz]));rw [j,h];rcases kdq S with rfl | ⟨l,s,rfl⟩
   ·exact absurd rfl (hS rfl)
   ·have e:=hL s (by simp);have c:glen (l++[s])=some ():=by unfold glen; rw [if_pos (by omega)]
    simp only [jab,krp,c,knF];rw [kaJ (by simp; omega)];simp only [jab,gsame,if_true];unfold brI;simp only;cases k:numP n 0 15 with
    | none=>rw [Option.isSome_none,if_neg (by decide)]; exact ⟨_,rfl⟩
    | some v=>
     obtain rfl:=i _ k;rw [Option.isSome_some,if_pos rfl];simp only [jab];cases g:kdj p with
     | none=>exact ⟨_,rfl⟩
     | some b=>
      obtain rfl:=f _ g;show _=_;simp only [jab,Option.isSome_some];unfold stepS;simp only [kcx];rfl
  ·rw [if_pos (by rw [kae]; simp; omega)];have:brI r=none:=by
    unfold brI;split
    ·rfl
    ·rename_i n p;rw [kfj (by simpa using a)];cases numP n 0 15 <;> rfl
   rw [this];exact ⟨_,rfl⟩
theorem kvx (hr:∀ x∈r,x.length<=100000) (hS:ins=true->S≠[]) (e:S.length<=100000) (hL:∀ s∈S,s.2.length<=100000) (hU:U.length<=100000):MetR (if ins=false then none else usI r) row w (S,U,M) (kbG r (row:Int) ins S U M):=by
 unfold kbG;cases ins with
 | false=>exact ⟨_,rfl⟩
 | true=>
  rw [if_neg (by decide),if_neg (by decide)];by_cases a:r.length=6
  ·obtain ⟨n,p,rfl,hp⟩:=klY a;rw [if_neg (by rw [kae,a]; simp),kbA,kit];simp only [jab];rw [knx n (hr n (by simp))];simp only [jab,usI];cases hn:kdQ n with
   | false=>exact ⟨_,rfl⟩
   | true=>
    rw [if_pos rfl,if_neg (by decide)];obtain ⟨y,j,g⟩:=kpk p hp (λz hz=>hr z (by simp [hz]));rw [j];rcases kdq S with rfl | ⟨l,s,rfl⟩
    ·exact absurd rfl (hS rfl)
    ·have f:=hL s (by simp);have c:glen (l++[s])=some ():=by unfold glen; rw [if_pos (by omega)]
     have i:w64 (lenI (l++[s])-1)=(l.length:Int):=by
      rw [jax,show [s].length=1 from rfl] at e;rw [kae,jax,show [s].length=1 from rfl,kbs (by omega) (by omega)]; omega
     simp only [jab,krp,c,knF,i];rw [kaJ (by simp; omega),kaJ (by simp; omega)];simp only [jab,gsame,if_true];cases h:kdj p with
     | none=>exact ⟨_,rfl⟩
     | some b=>
      obtain rfl:=g _ h;show _=_;simp only [Option.isSome_some];unfold stepS;simp only [kcx];simp [lastN,itIn,kae]
  ·rw [if_pos (by rw [kae]; simp; omega)];have:usI r=none:=by
    unfold usI;split
    ·rfl
    ·rename_i n p;rw [kfj (by simpa using a)];split <;> rfl
   rw [this];exact ⟨_,rfl⟩
end
theorem kji:∀ (l now x:Ya UInt8),x∈wf now l->x≠[]/\x.length<=now.length+l.length
 | [],now,x,h=>by
  unfold wf at h;split at h
  ·cases h
  ·rename_i hn;obtain rfl:x=now:=by simpa using h
   exact ⟨hn,by simp⟩
 | b::l,now,x,h=>by
  unfold wf at h;split at h
  ·split at h
   ·have:=kji l [] x h; simp at this ⊢; exact ⟨this.1,by omega⟩
   ·rename_i hn;rcases jbi.1 h with rfl | h
    ·exact ⟨hn,by omega⟩
    ·have:=kji l [] x h; simp at this ⊢; exact ⟨this.1,by omega⟩
  ·have:=kji l _ x h; simp at this ⊢; exact ⟨this.1,by omega⟩
theorem kiw (c:UInt8):∀ (l:Ya UInt8),(kaE c l).length<=l.length+1/\∀ x∈kaE c l,x.length<=l.length
 | []=>by simp [kaE]
 | b::l=>by
  obtain ⟨f,h2⟩:=kiw c l;rw [kdC];split
  ·refine ⟨by simp; omega,λx e=>?_⟩;rcases jbi.1 e with rfl | e
   ·simp
   ·have:=h2 x e; simp; omega
  ·cases g:kaE c l with
   | nil=>simp
   | cons x r=>
    rw [g] at f h2;simp only [jbt] at f ⊢;refine ⟨by omega,λy a=>?_⟩;rcases jbi.1 a with rfl | a
    ·have:=h2 x (by simp); simp; omega
    ·have:=h2 y (by simp [a]); omega
def lineW (l:Ya UInt8):Ya (Ya UInt8):=wf [] (trimN 13 l)
theorem ksU {l x:Ya UInt8} (h:x∈lineW l):x≠[]/\x.length<=l.length:=by
 have a:=kji _ _ x h;have h2:=kfu 13 l;exact ⟨a.1,by have:=a.2; simp at this; omega⟩
abbrev LSt:=Int×Int×Bool×List Sub×List Use×List (Int×Int)×Int×Int
def contM (i:Int) (z:Int×Int) (v:Bool×Int×Bool×Ya Sub×Ya Use×Ya (Int×Int)):Yb (LSt⊕((Ya Sub×Int×Int)⊕(Int×Bool×Ya Sub×Ya Use×Ya (Int×Int)×Int×Int))):=
 if (!v.1)=true then some (.inr (.inl ([],v.2.1,20))) else some (.inl (i+1,v.2.1,v.2.2.1,v.2.2.2.1,v.2.2.2.2.1,v.2.2.2.2.2,z))
def nxtM (row:Nat) (w:Ya (Ya UInt8)) (st:RSt) (i:Int) (z:Int×Int) (p:Yb It):LSt⊕((Ya Sub×Int×Int)⊕(Int×Bool×Ya Sub×Ya Use×Ya (Int×Int)×Int×Int)):=match p with
 | none=>.inr (.inl ([],(row:Int),20))
 | some it=>.inl (i+1,(row:Int),itIn it,(stepS st (row,w,it)).1,(stepS st (row,w,it)).2.1,(stepS st (row,w,it)).2.2,z)
theorem MetR.cont {p:Yb It} {row:Nat} {w:Ya (Ya UInt8)} {st:RSt} {r:Yb (Bool×Int×Bool×Ya Sub×Ya Use×Ya (Int×Int))} (h:MetR p row w st r) (i:Int) (z:Int×Int) :
  r.bind (contM i z)=some (nxtM row w st i z p):=by
 unfold MetR at h;cases p with
 | none=>
  obtain ⟨y,rfl⟩:=h;rfl
 | some it=>
  simp only at h;subst h;rfl
def endR (n:Nat) (z:Int×Int) (st:RSt) (x:Nat⊕(Ya PIt×Bool)):(Ya Sub×Int×Int)⊕(Int×Bool×Ya Sub×Ya Use×Ya (Int×Int)×Int×Int):=match x with
 | .inl r=>.inl ([],(r:Int),20)
 | .inr (its,e)=>.inr ((n:Int),e,(its.foldl stepS st).1,(its.foldl stepS st).2.1,(its.foldl stepS st).2.2,z)
theorem ktF (st:RSt) (x:PIt) (i:Nat) (e:st.1.length<=i) (h2:st.2.1.length<=i) (c:∀ s∈st.1,s.2.length<=i):(stepS st x).1.length<=i+1/\(stepS st x).2.1.length<=i+1/\∀ s∈(stepS st x).1,s.2.length<=i+1:=by
 have a:∀ y,(addL st.1 y).length<=i+1/\∀ s∈addL st.1 y,s.2.length<=i+1:=λy=>by
  rcases kdq st.1 with h | ⟨l,s,h⟩
  ·rw [h]; simp [addL]
  ·rw [h] at e c ⊢;rw [kcx];refine ⟨by simp at e ⊢; omega,λt b=>?_⟩;simp only [jay,List.mem_singleton] at b;rcases b with b | rfl
   ·have:=c t (by simp [b]); omega
   ·have:=c s (by simp); simp; omega
 unfold stepS;split
 ·refine ⟨by simp; omega,by simp; omega,λt b=>?_⟩;simp only [jay,List.mem_singleton] at b;rcases b with b | rfl
  ·have:=c t b; omega
  ·simp
 ·exact ⟨by omega,by omega,λt b=>by have:=c t b; omega⟩
 ·exact ⟨(a _).1,by simp; omega,(a _).2⟩
 ·exact ⟨(a _).1,by simp; omega,(a _).2⟩
theorem kuG (st:RSt) (x:PIt) (h:itIn x.2.2=true) (a:st.1≠[]\/∃ n,x.2.2 = .sub n):(stepS st x).1≠[]:=by
 unfold stepS;split
 ·simp
 ·rename_i e; rw [e] at h; cases h
 all_goals (
  rename_i e;rcases a with a | ⟨n,a⟩
  ·rcases kdq st.1 with b | ⟨l,s,b⟩
   ·exact absurd b a
   ·simp only; rw [b,kcx]; simp
  ·rw [e] at a; cases a)
theorem knp {w:Ya (Ya UInt8)} {it:It} (h:itemP false w=some it):∃ n,it = .sub n:=by
 unfold itemP at h;split at h
 ·cases h
 ·split at h
  ·rw [if_neg (by decide)] at h;unfold suI at h;split at h
   ·split at h
    ·cases h; exact ⟨_,rfl⟩
    ·cases h
   ·cases h
  ·rw [if_pos rfl] at h; cases h
theorem krj (c:UInt8) (k:Ya UInt8):((c.toNat:Int)==35)=((c::k).head?==some 35):=by
 rw [show (35:Int)=((35:Nat):Int) from rfl,u8_eq c 35 (by decide)]; rfl
theorem ktq (b:Ya (Ya UInt8)) (hn:b.length<=30000) (hl:∀ l∈b,l.length<=30000) :
  iter (kdd b) (0,0,false,[],[],[],0,0)=some (endR b.length (0,0) ([],[],[]) (kap (b.map lineW) 0 false)):=by
 refine kdg (F:=kdd b)
  (λx=>∃ i:Nat,x.1=(i:Int)/\x.2.1=(i:Int)/\i<=b.length/\(x.2.2.1=true->x.2.2.2.1≠[])/\x.2.2.2.1.length<=i/\x.2.2.2.2.1.length<=i/\∀ s∈x.2.2.2.1,s.2.length<=i) (λx=>b.length-x.1.toNat)
  (λx=>endR b.length x.2.2.2.2.2.2 (x.2.2.2.1,x.2.2.2.2.1,x.2.2.2.2.2.1) (kap ((b.map lineW).drop x.1.toNat) x.1.toNat x.2.2.1)) (λx C=>?_) (0,0,false,[],[],[],0,0) ⟨0,rfl,rfl,jdq _,(λh=>by cases h),jah 0,jah 0,λs j=>by cases j⟩ (by simp; omega)
 obtain ⟨a,row,ins,S,U,M,z⟩:=x;obtain ⟨i,Q,h2,X,B,J,K,D⟩:=C;simp only at Q h2 B J K D;subst Q; subst h2;rcases jbz i b.length with hp | hp
 ·have R:=hl b[i] (jdh hp);have O:(b.map lineW).drop i=lineW b[i]::(b.map lineW).drop (i+1):=by rw [jbd (by simpa using hp)]; simp
  have n:∀ x∈lineW b[i],x≠[]/\x.length<=b[i].length:=λx C=>ksU C;have v:ken b[i]=some (lineW b[i]):=kuc _ (by omega);generalize lineW b[i]=w at O n v;simp only [jam,O];unfold kdd;simp only;rw [if_pos (lenI_lt.2 hp),kaG hp];simp only [jab];rw [v];simp only [jab];have f:skipP w=true->∃ y,(some (.inl ((i:Int)+1,w64 ((i:Int)+1),ins,S,U,M,z)):Yb (LSt⊕((Ya Sub×Int×Int)⊕(Int×Bool×Ya Sub×Ya Use×Ya (Int×Int)×Int×Int))))=some (.inl y)/\(∃ i:Nat,y.1=(i:Int)/\y.2.1=(i:Int)/\i<=b.length/\(y.2.2.1=true->y.2.2.2.1≠[])/\y.2.2.2.1.length<=i/\y.2.2.2.2.1.length<=i/\∀ s∈y.2.2.2.1,s.2.length<=i)/\b.length-y.1.toNat<b.length-i/\
    endR b.length y.2.2.2.2.2.2 (y.2.2.2.1,y.2.2.2.2.1,y.2.2.2.2.2.1) (kap ((b.map lineW).drop y.1.toNat) y.1.toNat y.2.2.1)=endR b.length z (S,U,M) (kap (w::(b.map lineW).drop (i+1)) i ins):=λj=>by
   rw [kaA (by omega)];refine ⟨_,rfl,⟨i+1,rfl,rfl,hp,B,jdk J,jdk K,λs j=>by have:=D s j; omega⟩,by simp only; omega,?_⟩;rw [show kap (w::(b.map lineW).drop (i+1)) i ins=kap ((b.map lineW).drop (i+1)) (i+1) ins by rw [kap,if_pos j]];rw [show (((i:Int)+1,((i+1:Nat):Int),ins,S,U,M,z):LSt).1.toNat=i+1 by simp only; omega]
  cases w with
  | nil=>
   rw [if_pos (by rfl)];exact .inr (f rfl)
  | cons k r=>
   rw [if_neg (by rw [kae]; simp; omega),kbA];simp only [jab];obtain ⟨c,A,P⟩:∃ c A,k=c::A:=by
    cases k with
    | nil=>exact absurd rfl (n [] (by simp)).1
    | cons c A=>exact ⟨c,A,rfl⟩
   have T:gstr k 0=some (c.toNat:Int):=by rw [P]; rfl
   rw [T];simp only [jab];have e:skipP (k::r)=((c.toNat:Int)==35):=by rw [P]; exact (krj c A).symm
   cases u:((c.toNat:Int)==35) with
   | true=>
    rw [if_pos rfl];rw [u] at e;exact .inr (f e)
   | false=>
    rw [if_neg (by decide)];rw [u] at e;have m:∀ x∈r,x.length<=100000:=λx C=>by have:=(n x (by simp [C])).2; omega
    have fin:∀ {rr:Yb (Bool×Int×Bool×Ya Sub×Ya Use×Ya (Int×Int))},MetR (itemP ins (k::r)) (i+1) (k::r) (S,U,M) rr->
      rr.bind (contM (i:Int) z)=some (.inr (endR b.length z (S,U,M) (kap ((k::r)::(b.map lineW).drop (i+1)) i ins)))\/∃ y,rr.bind (contM (i:Int) z)=some (.inl y)/\(∃ i:Nat,y.1=(i:Int)/\y.2.1=(i:Int)/\i<=b.length/\(y.2.2.1=true->y.2.2.2.1≠[])/\y.2.2.2.1.length<=i/\y.2.2.2.2.1.length<=i/\∀ s∈y.2.2.2.1,s.2.length<=i)/\b.length-y.1.toNat<b.length-i/\
       endR b.length y.2.2.2.2.2.2 (y.2.2.2.1,y.2.2.2.2.1,y.2.2.2.2.2.1) (kap ((b.map lineW).drop y.1.toNat) y.1.toNat y.2.2.1)=endR b.length z (S,U,M) (kap ((k::r)::(b.map lineW).drop (i+1)) i ins):=λ{rr} W=>by
     have H:=W.cont (i:Int) z;cases p:itemP ins (k::r) with
     | none=>
      rw [p] at H;left;rw [H,kap,if_neg (by rw [e]; decide),p];rfl
     | some it=>
      rw [p] at H;right;refine ⟨_,H,?_⟩;have g:=ktF (S,U,M) (i+1,k::r,it) i J K D;refine ⟨⟨i+1,rfl,rfl,hp,λL=>?_,g.1,g.2.1,g.2.2⟩,by simp only; omega,?_⟩
      ·refine kuG _ (i+1,k::r,it) L ?_;cases ins with
       | true=>exact .inl (B rfl)
       | false=>exact .inr (knp p)
      ·rw [kap,if_neg (by rw [e]; decide),p];simp only;rw [show ((i:Int)+1).toNat=i+1 by omega];cases kap ((b.map lineW).drop (i+1)) (i+1) (itIn it) with
       | inl q=>rfl
       | inr q=>rfl
    have N:=kaA (i:=i) (by omega);have I:gsl (k::r) 1 (lenI (k::r))=some r:=kit;rw [I];simp only [jab];rw [N];by_cases o:k=kSub
    ·rw [if_pos (by rw [o]; rfl)];exact fin (rr:=kbK r ((i+1:Nat):Int) ins S U M) (by rw [kaK,if_pos o]; exact kvw m (by omega))
    ·rw [if_neg (λh=>o (by simpa [kSub] using h))];by_cases t:k=kEnd
     ·rw [if_pos (by rw [t]; rfl)];exact fin (rr:=kju r ((i+1:Nat):Int) ins S U M) (by rw [kaK,if_neg o,if_pos t]; exact kvz)
     ·rw [if_neg (λh=>t (by simpa [kEnd] using h))];by_cases E:k=kdG
      ·rw [if_pos (by rw [E]; rfl)];exact fin (rr:=kbq r ((i+1:Nat):Int) ins S U M) (by rw [kaK,if_neg o,if_neg t,if_pos E]; exact kto m B (by omega) (λs j=>by have:=D s j; omega))
      ·rw [if_neg (λh=>E (by simpa [kdG] using h))];by_cases G:k=kUse
       ·rw [if_pos (by rw [G]; rfl)];exact fin (rr:=kbG r ((i+1:Nat):Int) ins S U M) (by rw [kaK,if_neg o,if_neg t,if_neg E,if_pos G]; exact kvx m B (by omega) (λs j=>by have:=D s j; omega) (by omega))
       ·rw [if_neg (λh=>G (by simpa [kUse] using h))];left;have p:itemP ins (k::r)=none:=by rw [kaK,if_neg o,if_neg t,if_neg E,if_neg G]; split <;> rfl
        rw [kap,if_neg (by rw [e]; decide),p];rfl
 ·left;obtain rfl:i=b.length:=by omega
  unfold kdd;simp only;rw [if_neg kaD];simp only [jam];rw [jbg (by simp)];rfl
theorem koa (l:Ya Sub) (hl:l.length<=100000) (p:Sub->Bool):kaw l (λx=>some (p x))=some (if l.any p=true then ((l.findIdx p:Nat):Int) else -1):=by
 unfold kaw;rw [kmq (F:=kaC l _) l (by omega) (λi x=>if p x then some (i:Int) else none) (λi a=>by
  unfold kaC;rw [if_pos (by rw [kae]; simpa using a),kaG a,kaA (by omega)];simp only [jab];by_cases h:p l[i]=true <;> simp [h,nextL]) (by unfold kaC; rw [if_neg (by simp [kae])])]
 have:∀ (l:Ya Sub) (k:Nat),endL ((l.zipIdx k).findSome? λx=>if p x.1 then some (x.2:Int) else none)=(if l.any p then .inl ((k:Int)+(l.findIdx p:Nat)) else .inr ()):=by
  intro l;induction l with
  | nil=>intro k; rfl
  | cons x l b=>
   intro k;rw [jct,List.findSome?_cons,List.any_cons,List.findIdx_cons];cases hp:p x with
   | true=>simp [endL]
   | false=>
    simp only [jal,if_false,jda,cond_false];rw [b (k+1)];congr 2; push_cast; omega
 rw [this l 0];by_cases h:l.any p=true <;> simp [h]
theorem kqb (l:Ya Sub) (hl:l.length<=100000) (p:Sub->Bool):kat l (λx=>some (p x))=some (l.any p):=by
 unfold kat;rw [koa l hl p];by_cases h:l.any p=true <;> simp [h]
def nmS (d:Ya Sub):Ya (Ya UInt8):=d.map (·.1)
def tgt (names:Ya (Ya UInt8)) (c:Nat) (n:Ya UInt8):Int:=(c:Int)+(if n∈names.drop c then (((names.drop c).idxOf n:Nat):Int) else -1)
def setU (names:Ya (Ya UInt8)) (d:Ya Sub) (u:Use):Ya Sub:=d.modify u.2.1.toNat λs=>(s.1,s.2.modify u.2.2.1.toNat λx=>(tgt names (u.2.1.toNat+1) u.1,x.2))
def badU1 (names:Ya (Ya UInt8)) (u:Use):Bool:=!decide (u.1∈names.drop (u.2.1.toNat+1))
def stepU (names:Ya (Ya UInt8)) (st:Ya Int×Ya Sub) (u:Use):Ya Int×Ya Sub:=(if badU1 names u=true then st.1++[u.2.2.2] else st.1,setU names st.2 u)
def UOk (d:Ya Sub) (u:Use):Prop:=∃ (a b:Nat) (s:Sub),u.2.1=(a:Int)/\u.2.2.1=(b:Int)/\d[a]?=some s/\b<s.2.length
theorem kaN {α:Type} (l:Ya α) (i j:Nat) (f:α->α):(l.modify i f)[j]?=if i=j then l[j]?.map f else l[j]?:=by
 rw [List.getElem?_modify];by_cases h:i=j
 ·simp only [h,if_true]; cases l[j]? <;> rfl
 ·simp only [h,if_false]; cases l[j]? <;> rfl
theorem kmi {α:Type} {l:Ya α} {i:Nat} {s:α} (h:l[i]?=some s) (f:α->α):l.set i (f s)=l.modify i f:=by
 apply jcm;intro j;rw [List.getElem?_set,kaN];by_cases e:i=j
 ·subst e;rw [if_pos rfl,if_pos (jae.1 h).1,if_pos rfl,h]; rfl
 ·rw [if_neg e,if_neg e]
theorem kva (names:Ya (Ya UInt8)) (d:Ya Sub) (u:Use):nmS (setU names d u)=nmS d:=by
 unfold nmS setU;apply jcm;intro i;simp only [jas,kaN];split
 ·cases d[i]? <;> rfl
 ·rfl
theorem kmH {names:Ya (Ya UInt8)} {d:Ya Sub} {u v:Use} (h:UOk d v):UOk (setU names d u) v:=by
 obtain ⟨a,b,s,f,h2,g,c⟩:=h;by_cases e:u.2.1.toNat=a
 ·exact ⟨a,b,_,f,h2,by unfold setU; rw [kaN,if_pos e,g]; rfl,by simpa using c⟩
 ·exact ⟨a,b,s,f,h2,by unfold setU; rw [kaN,if_neg e,g],c⟩
theorem klg (names:Ya (Ya UInt8)) (d:Ya Sub) (u:Use):(setU names d u).length=d.length:=by unfold setU; simp
theorem kmT (l:Ya Sub) (n:Ya UInt8):l.any (λs=>s.1==n)=decide (n∈nmS l)/\l.findIdx (λs=>s.1==n)=(nmS l).idxOf n:=by
 constructor
 ·rw [Bool.eq_iff_iff,jak]; simp [nmS]
 ·unfold nmS List.idxOf;rw [List.findIdx_map]; rfl
theorem ksX {names:Ya (Ya UInt8)} {U:Ya Use} {W:Ya Int} {d:Ya Sub} {k:Nat} (v:k<U.length) (I:U.length<=100000) (J:d.length<=100000) (o:nmS d=names) (H:UOk d U[k]) (hW:W.length<=200000) :
  kaL U ((k:Int),W,d)=some (.inl (((k+1:Nat):Int),stepU names (W,d) U[k])):=by
 obtain ⟨a,b,s,e,h2,g,y⟩:=H;have B:a<d.length:=(jae.1 g).1;generalize C:U[k]=u at e h2 ⊢;obtain ⟨n,K,N,G⟩:=u;simp only at e h2;subst e; subst h2;have h:gi d (a:Int)=some s:=by rw [kaG B]; rw [jaf B] at g; exact g
 have p:gi s.2 (b:Int)=some s.2[b]:=kaG y;have F:w64 ((a:Int)+1)=((a+1:Nat):Int):=kaA (by omega);have j:gsl d ((a+1:Nat):Int) (lenI d)=some (d.drop (a+1)):=by
  unfold gsl; rw [kae,if_pos (by omega)]; simp
 have i:(List.drop (Int.toNat ((a+1:Nat):Int)) d).take (Int.toNat ((lenI d)-((a+1:Nat):Int)))=d.drop (a+1):=by
  rw [jam,kae]; apply jaz; rw [jdb]; omega
 have m:(λ(D:Sub)=>((kcY D (n,(a:Int),(b:Int),G)).bind λE=>some E))=λs:Sub=>some (s.1==n):=by
  funext s; rfl
 obtain ⟨z,i2⟩:=kmT (d.drop (a+1)) n;have f:nmS (d.drop (a+1))=names.drop (a+1):=by rw [<-o]; unfold nmS; rw [List.map_drop]
 rw [f] at z i2;unfold kaL;simp only;rw [if_pos (lenI_lt.2 v),kaG v,C];simp only [jab];rw [F,j];simp only [jab];rw [i,m,koa _ (by rw [jdb]; omega),z,i2];simp only [jab];rw [h];simp only [jab];rw [p,kaJ (by simp; omega),kaA (by omega)];have c:∀ t:Int,lset d (a:Int) (s.1,lset s.2 (b:Int) (t,s.2[b].2))=d.modify a λs=>(s.1,s.2.modify b λx=>(t,x.2)):=λt=>by
  unfold lset;simp only [jam];rw [<-kmi g];congr 2;exact kmi (jaf y) λx=>(t,x.2)
 unfold stepU setU badU1 tgt;simp only [jam];have L:((names.drop (a+1)).idxOf n)<=d.length:=by
  have e:=List.idxOf_le_length (l:=names.drop (a+1)) (a:=n);rw [<-f] at e; unfold nmS at e; rw [jbb,jdb] at e; rw [<-f]; unfold nmS; omega
 by_cases A:n∈names.drop (a+1)
 ·simp only [A,decide_true,if_true,jab,Bool.not_true,jal,if_false];rw [if_neg (by simp)];simp only [jab];rw [kbs (by omega) (by omega),c]
 ·simp only [A,decide_false,if_false,jab,Bool.not_false,jal,if_true];rw [if_pos (by decide)];simp only [jab];rw [kbs (by omega) (by omega),c]
theorem ksM {names:Ya (Ya UInt8)} (U:Ya Use) (W:Ya Int) (d:Ya Sub) (g:U.length<=100000) (n:d.length<=100000) (j:nmS d=names) (m:∀ u∈U,UOk d u) (hW:W.length<=100000) (k:W.length+U.length<=100000) :
  iter (kaL U) (0,W,d)=some (U.foldl (stepU names) (W,d)):=by
 refine kdI (F:=kaL U) U (by omega) (λi st=>st.1.length<=W.length+i/\nmS st.2=names/\st.2.length=d.length/\∀ u∈U,UOk st.2 u) (stepU names) id (λi st h hI=>?_) (λi st h hI=>?_) (λst hI=>?_) (W,d) ⟨by simp,j,rfl,m⟩
 ·obtain ⟨c,l⟩:=st;obtain ⟨e,h2,b,a⟩:=hI;simp only at e h2 b a;exact ksX h g (by omega) h2 (a _ (jdh h)) (by omega)
 ·obtain ⟨c,l⟩:=st;obtain ⟨e,h2,b,a⟩:=hI;simp only at e h2 b a;unfold stepU;have hl:(if badU1 names U[i]=true then c++[U[i].2.2.2] else c).length<=c.length+1:=by split <;> simp
  refine ⟨jcl hl (by omega),(kva _ _ _).trans h2,(klg _ _ _).trans b,λu f=>kmH (a u f)⟩
 ·unfold kaL;simp only;rw [if_neg kaD]; rfl
def bS (M:Ya (Int×Int)):Ya (Ya UInt8)->Ya (Ya UInt8)->Nat->Ya Int
 | _,[],_=>[]
 | pre,n::t,i=>(if n∈pre then [(mget M (i:Int)).getD 0] else [])++bS M (pre++[n]) t (i+1)
theorem kkT {κ β:Type} [DecidableEq κ] (p:κ) (v:β):∀ (E:Ya (κ×β)) (x:κ),mget (mput E p v) x=if x=p then some v else mget E x
 | [],x=>by simp only [mput,mget]
 | (k,w)::E,x=>by
  simp only [mput,mget];by_cases a:p=k
  ·subst a;rw [if_pos rfl];simp only [mget];by_cases h:x=p
   ·simp [h]
   ·simp [h]
  ·rw [if_neg a];simp only [mget];by_cases h:x=k
   ·subst h; rw [if_pos rfl,if_neg (λe=>a e.symm),if_pos rfl]
   ·rw [if_neg h,if_neg h,kkT p v E x]
theorem ksV (M:Ya (Int×Int)):∀ (t a:Ya (Ya UInt8)) (i:Nat),(bS M a t i).length<=t.length
 | [],_,_=>by simp [bS]
 | n::t,a,i=>by
  have:=ksV M t (a++[n]) (i+1);unfold bS;split <;> simp <;> omega
theorem ktd (d:Ya Sub) (M:Ya (Int×Int)) (p:d.length<=100000):iter (kbE d M) (0,[],[])=some (bS M [] (nmS d) 0):=by
 have l:(nmS d).length=d.length:=by simp [nmS]
 have e:=kdg (F:=kbE d M)
  (λx=>∃ i:Nat,x.1=(i:Int)/\i<=d.length/\x.2.2.length<=i/\∀ n,(mget x.2.1 n).isSome=decide (n∈(nmS d).take i)) (λx=>d.length-x.1.toNat)
  (λx=>x.2.2++bS M ((nmS d).take x.1.toNat) ((nmS d).drop x.1.toNat) x.1.toNat) (λx o=>?_) (0,[],[]) ⟨0,rfl,jdq _,jah 0,λn=>by simp [mget]⟩ (by simp; omega)
 ·simpa using e
 ·obtain ⟨a,b,W⟩:=x;obtain ⟨i,k,s,h2,g⟩:=o;simp only at k h2 g;subst k;unfold kbE;simp only;rcases jbz i d.length with hp | hp
  ·right;have h:(nmS d).drop i=d[i].1::(nmS d).drop (i+1):=by rw [jbd (by omega)]; simp [nmS]
   have c:(nmS d).take (i+1)=(nmS d).take i++[d[i].1]:=by rw [jck (by omega)]; simp [nmS]
   rw [if_pos (lenI_lt.2 hp),kaG hp,kaA (by omega),kaJ (by simp; omega)];simp only [jab,g];have j:bS M ((nmS d).take i) ((nmS d).drop i) i=(if d[i].1∈(nmS d).take i then [(mget M (i:Int)).getD 0] else [])++bS M ((nmS d).take (i+1)) ((nmS d).drop (i+1)) (i+1):=by rw [h,bS,<-c]
   have m:∀ n,(mget (mput b d[i].1 (i:Int)) n).isSome=decide (n∈(nmS d).take (i+1)):=λn=>by
    rw [kkT,c];by_cases e:n=d[i].1
    ·subst e; simp
    ·rw [if_neg e,g]; simp [e]
   by_cases f:d[i].1∈(nmS d).take i
   ·rw [if_pos (by simpa using f)];refine ⟨_,rfl,⟨i+1,rfl,hp,by simp; omega,m⟩,by simp only [jam]; omega,?_⟩;simp only [jam];rw [j,if_pos f]; simp
   ·rw [if_neg (by simpa using f)];refine ⟨_,rfl,⟨i+1,rfl,hp,jdk h2,m⟩,by simp only [jam]; omega,?_⟩;simp only [jam];rw [j,if_neg f]; simp
  ·left;obtain rfl:i=d.length:=by omega
   rw [if_neg kaD];simp only [jam];rw [jbg (by omega)];simp [bS]
def minL:Ya Int->Int
 | []=>0
 | x::l=>l.foldl imin x
theorem kvU (x:Int) (l:Ya Int) (hl:l.length<=200000):kbW (x::l)=some (minL (x::l)):=by
 unfold kbW;rw [if_neg (by rw [kae]; simp; omega)];simp only [jab,kbA];have e:=kdg (F:=kcm (x::l)) (λs=>∃ i:Nat,s.1=(i:Int)/\i<=(x::l).length) (λs=>(x::l).length-s.1.toNat) (λs=>((x::l).drop s.1.toNat).foldl imin s.2) (λs c=>?_) (1,x) ⟨1,rfl,by simp⟩ (by simp; omega)
 ·rw [e]; rfl
 ·obtain ⟨a,m⟩:=s;obtain ⟨i,b,g⟩:=c;simp only at b;subst b;unfold kcm;simp only;rcases jbz i (x::l).length with hp | hp
  ·right;have f:i+1<=200001:=by simp at hp; omega
   rw [if_pos (lenI_lt.2 hp),kaG hp,kaA (by omega)];refine ⟨_,rfl,⟨i+1,rfl,hp⟩,by simp only [jam]; omega,?_⟩;simp only [jam];rw [jbd hp]; rfl
  ·left;obtain rfl:i=(x::l).length:=by omega
   rw [if_neg kaD];simp only [jam];rw [List.drop_length]; rfl
theorem kvA (row:Int) (ins:Bool) (d:Ya Sub) (U:Ya Use) (M:Ya (Int×Int)) (f:U.length<=50000) (h:d.length<=50000) (e:∀ u∈U,UOk d u) :
  kck row ins d U M=some (minL (U.foldl (stepU (nmS d)) (bS M [] (nmS d) 0,d)).1,row,ins,(U.foldl (stepU (nmS d)) (bS M [] (nmS d) 0,d)).2,U,M):=by
 have i:=ksV M (nmS d) [] 0;have b:(nmS d).length=d.length:=by simp [nmS]
 have c:∀ (U:Ya Use) (st:Ya Int×Ya Sub),(U.foldl (stepU (nmS d)) st).1.length<=st.1.length+U.length:=by
  intro U;induction U with
  | nil=>intro st; simp
  | cons u U g=>
   intro st;rw [jbo];have:=g (stepU (nmS d) st u);have h2:(stepU (nmS d) st u).1.length<=st.1.length+1:=by unfold stepU; simp only; split <;> simp
   simp only [jbt]; omega
 have a:=c U (bS M [] (nmS d) 0,d);unfold kck;rw [ktd d M (by omega)];simp only [jab];rw [ksM (names:=nmS d) U _ d (by omega) (by omega) rfl e (by omega) (by omega)];simp only [jab];generalize U.foldl (stepU (nmS d)) (bS M [] (nmS d) 0,d)=R at a;obtain ⟨W,j⟩:=R;simp only at a ⊢;cases W with
 | nil=>rw [if_pos (by rfl)]; rfl
 | cons x l=>
  rw [if_neg (by rw [kae]; simp; omega),kvU x l (by simp at a; omega)]; rfl
theorem kvt (a b:Int):imin a b<=a/\imin a b<=b/\(imin a b=a\/imin a b=b):=by unfold imin; split <;> omega
theorem knw:∀ (l:Ya Int) (x:Int),(l.foldl imin x)∈x::l/\∀ y∈x::l,(l.foldl imin x)<=y
 | [],x=>by simp
 | z::l,x=>by
  obtain ⟨b,h2⟩:=knw l (imin x z);obtain ⟨g1,e,c⟩:=kvt x z;rw [jbo];constructor
  ·rcases jbi.1 b with h | h
   ·rw [h]; rcases c with g | g <;> rw [g] <;> simp
   ·simp [h]
  ·intro y a;have f:=h2 (imin x z) (by simp);rcases jbi.1 a with rfl | a
   ·omega
   ·rcases jbi.1 a with rfl | a
    ·omega
    ·exact h2 y (by simp [a])
def kah (l:Ya PIt):Ya (Ya UInt8):=l.filterMap λx=>match x.2.2 with | .sub n=>some n | _=>none
def badP (names:Ya (Ya UInt8)):Nat->Ya PIt->Ya Nat
 | _,[]=>[]
 | c,x::l=>match x.2.2 with
  | .sub n=>(if n∈names.take c then [x.1] else [])++badP names (c+1) l
  | .use n _=>(if n∈names.drop c then [] else [x.1])++badP names c l
  | _=>badP names c l
def stepR (names:Ya (Ya UInt8)) (d:Ya Sub) (x:PIt):Ya Sub:=match x.2.2 with
 | .sub n=>d++[(n,[])]
 | .fin=>d
 | .use n b=>addL d (tgt names d.length n,b)
 | .brick b=>addL d (-1,b)
def readW (a:Ya (Ya (Ya UInt8))):Ya Sub×Int×Int:=match kap a 0 false with
 | .inl r=>([],(r:Int),20)
 | .inr (its,e)=>if e=true\/its=[] then ([],(a.length:Int),20) else match badP (kah its) 0 its with
  | r::_=>([],(r:Int),21)
  | []=>if 8<(its.foldl (stepR (kah its)) []).length\/(its.foldl (stepR (kah its)) []).any (λs=>decide (20<s.2.length))=true then ([],0,4) else (its.foldl (stepR (kah its)) [],0,0)
section
variable {names:Ya (Ya UInt8)}
theorem kgC (S:Ya Sub) (x:Line):addL S x=S.modify (S.length-1) λs=>(s.1,s.2++[x]):=by
 rcases kdq S with rfl | ⟨l,s,rfl⟩
 ·rfl
 ·rw [kcx];apply jcm;intro i;rw [kaN];rcases Nat.lt_trichotomy i l.length with h | h | h
  ·rw [jaq h,jaq h,if_neg (by simp; omega)]
  ·subst h; simp
  ·rw [jcd (by simp; omega),jcd (by simp; omega)]; simp
theorem kgs (S:Ya Sub) (x:Line):(addL S x).length=S.length:=by rw [kgC]; simp
theorem krz (S:Ya Sub) (x:Line):nmS (addL S x)=nmS S:=by
 rw [kgC]; unfold nmS;apply jcm;intro i;simp only [jas,kaN];split
 ·cases S[i]? <;> rfl
 ·rfl
theorem ksS {S:Ya Sub} {u:Use} (x:Line) (h:UOk S u):setU names (addL S x) u=addL (setU names S u) x:=by
 obtain ⟨a,b,s,f,h2,g,k⟩:=h;rw [kgC,kgC,klg];unfold setU;rw [f,h2,jam,jam];apply jcm;intro i;simp only [kaN];by_cases c:a=i <;> by_cases e:S.length-1=i
 ·rw [if_pos c,if_pos e,if_pos e,if_pos c];subst c;rw [g];simp only [jcb,Option.some.injEq,Prod.mk.injEq,true_and];apply jcm;intro j;rw [kaN];rcases jbz j s.2.length with h | h
  ·rw [jaq h,jaq (by simpa using h),kaN]
  ·rw [jbj h,jbj (by simpa using h),if_neg (by omega)]; simp
 ·rw [if_pos c,if_neg e,if_neg e,if_pos c]
 ·rw [if_neg c,if_pos e,if_pos e,if_neg c]
 ·rw [if_neg c,if_neg e,if_neg e,if_neg c]
theorem kuk {S:Ya Sub} {u:Use} (y:Sub) (h:UOk S u):setU names (S++[y]) u=setU names S u++[y]:=by
 obtain ⟨a,b,s,c,h2,e,g⟩:=h;have f:=(jae.1 e).1;unfold setU;rw [c,h2,jam];apply jcm;intro i;rw [kaN];rcases jbz i S.length with h | h
 ·rw [jaq h,jaq (by simpa using h),kaN]
 ·rw [jbj h,jbj (by simpa using h),if_neg (by omega)]; simp
theorem UOk.addL {S:Ya Sub} {u:Use} (x:Line) (h:UOk S u):UOk (addL S x) u:=by
 obtain ⟨a,b,s,c,h2,f,g⟩:=h;rw [kgC];by_cases e:S.length-1=a
 ·exact ⟨a,b,_,c,h2,by rw [kaN,if_pos e,f]; rfl,by simp; omega⟩
 ·exact ⟨a,b,s,c,h2,by rw [kaN,if_neg e,f],g⟩
theorem UOk.app {S:Ya Sub} {u:Use} (y:Sub) (h:UOk S u):UOk (S++[y]) u:=by
 obtain ⟨a,b,s,f,h2,c,e⟩:=h;exact ⟨a,b,s,f,h2,by rw [jaq (jae.1 c).1,c],e⟩
theorem kjq:∀ (U:Ya Use) (S:Ya Sub) (x:Line),(∀ u∈U,UOk S u)->U.foldl (setU names) (addL S x)=addL (U.foldl (setU names) S) x
 | [],_,_,_=>rfl
 | u::U,S,x,h=>by
  rw [jbo,jbo,ksS x (h u (by simp)),kjq U _ x λv a=>kmH (h v (by simp [a]))]
theorem kqc:∀ (U:Ya Use) (S:Ya Sub) (y:Sub),(∀ u∈U,UOk S u)->U.foldl (setU names) (S++[y])=U.foldl (setU names) S++[y]
 | [],_,_,_=>rfl
 | u::U,S,y,h=>by
  rw [jbo,jbo,kuk y (h u (by simp)),kqc U _ y λv a=>kmH (h v (by simp [a]))]
theorem krY (S:Ya Sub) (u:Use) (i:Nat):((setU names S u)[i]?).map (λs=>s.2.length)=(S[i]?).map λs=>s.2.length:=by
 unfold setU;rw [kaN];split
 ·cases S[i]? <;> simp
 ·rfl
theorem klX:∀ (U:Ya Use) (S:Ya Sub) (i:Nat),((U.foldl (setU names) S)[i]?).map (λs=>s.2.length)=(S[i]?).map λs=>s.2.length
 | [],_,_=>rfl
 | u::U,S,i=>by rw [jbo,klX U,krY]
theorem kkZ:∀ (U:Ya Use) (S:Ya Sub),(U.foldl (setU names) S).length=S.length
 | [],_=>rfl
 | u::U,S=>by rw [jbo,kkZ U,klg]
theorem kmd:∀ (U:Ya Use) (W:Ya Int) (S:Ya Sub),U.foldl (stepU names) (W,S)=(W++(U.filter (badU1 names)).map (λu=>u.2.2.2),U.foldl (setU names) S)
 | [],W,S=>by simp
 | u::U,W,S=>by
  rw [jbo,jbo,show stepU names (W,S) u=(if badU1 names u=true then W++[u.2.2.2] else W,setU names S u) from rfl,kmd U];cases h:badU1 names u <;> simp [h]
theorem kmt (l:Ya Sub) (s:Sub):lastN (l++[s])=(s.2.length:Int):=by simp [lastN]
theorem ktQ {d l:Ya Sub} {s:Sub} {n:Ya UInt8} {b:Brick} {row:Int} (a:d=l++[s]):setU names (addL d (0,b)) (n,(d.length:Int)-1,(s.2.length:Int),row)=addL d (tgt names d.length n,b):=by
 subst a;rw [kcx,kcx];unfold setU;have e:(((l++[s]).length:Int)-1).toNat=l.length:=by rw [jax]; simp
 simp only [e,jam];rw [jax,show [s].length=1 from rfl];apply jcm;intro i;rw [kaN];rcases Nat.lt_trichotomy i l.length with h | h | h
 ·rw [jaq h,jaq h,if_neg (by omega)]
 ·subst h;rw [if_pos rfl];simp only [List.getElem?_concat_length,jcb,Option.some.injEq,Prod.mk.injEq,true_and];apply jcm;intro j;rw [kaN];rcases Nat.lt_trichotomy j s.2.length with h | h | h
  ·rw [jaq h,jaq h,if_neg (by omega)]
  ·subst h; simp
  ·rw [jcd (by simp; omega),jcd (by simp; omega)]; simp
 ·rw [jcd (by simp; omega),jcd (by simp; omega)]; simp
structure RInv (names:List (List UInt8)) (R1:List Nat) (st:RSt) (d:List Sub) (W:List Nat):Prop where
 dr:st.2.1.foldl (setU names) st.1=d
 ok:∀ u∈st.2.1,UOk st.1 u
 m:∀ i:Nat,mget st.2.2 (i:Int)=R1[i]?.map λ(r:Nat)=>(r:Int)
 ml:R1.length=st.1.length
 w:(st.2.1.filter (badU1 names)).map (λu=>u.2.2.2)=W.map λ(r:Nat)=>(r:Int)
def rowX (x:PIt):Ya Nat:=match x.2.2 with | .sub _=>[x.1] | _=>[]
def badI (names:Ya (Ya UInt8)) (c:Nat) (x:PIt):Ya Nat:=match x.2.2 with | .use n _=>if n∈names.drop c then [] else [x.1] | _=>[]
theorem RInv.step {R1:Ya Nat} {st:RSt} {d:Ya Sub} {W:Ya Nat} (h:RInv names R1 st d W) (x:PIt) (p:st.1≠[]\/∃ n,x.2.2 = .sub n) :
  RInv names (R1++rowX x) (stepS st x) (stepR names d x) (W++badI names st.1.length x):=by
 obtain ⟨S,U,M⟩:=st;have f:d.length=S.length:=by rw [<-h.dr]; exact kkZ _ _
 obtain ⟨row,w,it⟩:=x;have c:=h.ml;simp only at c;cases it with
 | sub n=>
  refine ⟨?_,λu g=>(h.ok u g).app _,λi=>?_,by simp [rowX,stepS,c],by simpa [badI,stepS] using h.w⟩
  ·show U.foldl (setU names) (S++[(n,[])])=d++[(n,[])];rw [kqc U S _ h.ok]; rw [show U.foldl (setU names) S=d from h.dr]
  ·show mget (mput M (S.length:Int) (row:Int)) (i:Int)=((R1++[row])[i]?).map _;rw [kkT];rcases Nat.lt_trichotomy i R1.length with e | e | e
   ·rw [if_neg (by omega),jaq e]; exact h.m i
   ·rw [if_pos (by omega),e]; simp
   ·rw [if_neg (by omega),jcd (by simp; omega)];have:=h.m i;rw [jcd (by omega)] at this;exact this
 | fin=>exact ⟨h.dr,h.ok,by simpa [rowX,stepS] using h.m,by simpa [rowX,stepS] using c,by simpa [badI,stepS] using h.w⟩
 | brick b=>
  refine ⟨?_,λu g=>(h.ok u g).addL _,by simpa [rowX,stepS] using h.m,by simpa [rowX,stepS,kgs] using c,by simpa [badI,stepS] using h.w⟩;show U.foldl (setU names) (addL S (-1,b))=addL d (-1,b);rw [kjq U S _ h.ok]; rw [show U.foldl (setU names) S=d from h.dr]
 | use n b=>
  have hS:S≠[]:=by
   rcases p with p | ⟨m,v⟩
   ·exact p
   ·cases v
  obtain ⟨l,s,rfl⟩:∃ l s,S=l++[s]:=(kdq S).resolve_left hS;have t:U.foldl (setU names) (l++[s])=d:=h.dr;obtain ⟨l',s',rfl⟩:∃ l s,d=l++[s]:=(kdq d).resolve_left (λe=>by rw [e] at f; simp at f);have j:l'.length=l.length:=by simpa using f
  have o:s'.2.length=s.2.length:=by
   have:=klX (names:=names) U (l++[s]) l.length;rw [t,<-j] at this;simp only [List.getElem?_concat_length,jcb,Option.some.injEq] at this;rw [j] at this; simpa using this
  refine ⟨?_,λu g=>?_,by simpa [rowX,stepS] using h.m,by simpa [rowX,stepS,kgs] using c,?_⟩
  ·show (U++[(n,((l++[s]).length:Int)-1,lastN (l++[s]),(row:Int))]).foldl (setU names) (addL (l++[s]) (0,b))=addL (l'++[s']) (tgt names (l'++[s']).length n,b);rw [List.foldl_append,kjq U _ _ h.ok,t,kmt,<-o,<-f];exact ktQ rfl
  ·have a:u∈U++[(n,((l++[s]).length:Int)-1,lastN (l++[s]),(row:Int))]:=g;rcases jay.1 a with a | a
   ·exact (h.ok u a).addL _
   ·obtain rfl:=List.mem_singleton.1 a;refine ⟨l.length,s.2.length,(s.1,s.2++[(0,b)]),by simp,kmt l s,?_,by simp⟩;show (addL (l++[s]) (0,b))[l.length]?=_;rw [kcx]; simp
  ·show ((U++[(n,((l++[s]).length:Int)-1,lastN (l++[s]),(row:Int))]).filter (badU1 names)).map (λu=>u.2.2.2)=_;rw [List.filter_append,jcr,jcr,h.w];congr 1;have e:badU1 names (n,((l++[s]).length:Int)-1,lastN (l++[s]),(row:Int)) = !decide (n∈names.drop (l++[s]).length):=by
    unfold badU1;simp only [jax,show [s].length=1 from rfl];rw [show (((l.length+1:Nat):Int)-1).toNat+1=l.length+1 by omega]
   unfold badI;simp only [List.filter_cons,List.filter_nil,e];by_cases k:n∈names.drop (l++[s]).length
   ·rw [if_pos k]; simp only [k,decide_true,Bool.not_true,jal,if_false,jdt]
   ·rw [if_neg k]; simp only [k,decide_false,Bool.not_false,if_true,jat,jdt]
def kga:Ya PIt->Ya Nat
 | []=>[]
 | x::l=>rowX x++kga l
def badU (names:Ya (Ya UInt8)):Nat->Ya PIt->Ya Nat
 | _,[]=>[]
 | c,x::l=>badI names c x++badU names (match x.2.2 with | .sub _=>c+1 | _=>c) l
def badS (names:Ya (Ya UInt8)):Nat->Ya PIt->Ya Nat
 | _,[]=>[]
 | c,x::l=>(match x.2.2 with | .sub n=>if n∈names.take c then [x.1] else [] | _=>[])++badS names (match x.2.2 with | .sub _=>c+1 | _=>c) l
theorem stepS_len' (st:RSt) (x:PIt):(stepS st x).1.length=match x.2.2 with | .sub _=>st.1.length+1 | _=>st.1.length:=by
 unfold stepS;split
 ·rename_i h; rw [h]; simp
 ·rename_i h; rw [h]
 ·rename_i h; rw [h]; exact kgs _ _
 ·rename_i h; rw [h]; exact kgs _ _
theorem knC (st:RSt) (x:PIt) (h:st.1≠[]):(stepS st x).1≠[]:=by
 intro e;have:=stepS_len' st x;rw [e] at this;have a:=List.length_pos_iff.2 h;revert this;split <;> simp <;> omega
theorem RInv.fold:∀ (l:Ya PIt) {R1:Ya Nat} {st:RSt} {d:Ya Sub} {W:Ya Nat},RInv names R1 st d W->(st.1≠[]\/∀ x∈l.head?,∃ n,x.2.2 = .sub n)->
  RInv names (R1++kga l) (l.foldl stepS st) (l.foldl (stepR names) d) (W++badU names st.1.length l)
 | [],R1,st,d,W,h,_=>by simpa [kga,badU] using h
 | x::l,R1,st,d,W,h,a=>by
  have e:=h.step x (a.imp id λh=>h x rfl);have b:(stepS st x).1≠[]:=by
   rcases a with a | a
   ·exact knC st x a
   ·obtain ⟨n,hn⟩:=a x rfl;unfold stepS; rw [hn]; simp
  have h2:=RInv.fold l e (.inl b);rw [jbo,jbo];rw [jaw,jaw,stepS_len'] at h2;have c:badU names st.1.length (x::l)=badI names st.1.length x++badU names (match x.2.2 with | .sub _=>st.1.length+1 | _=>st.1.length) l:=rfl;rw [c];exact h2
theorem kug (st:RSt) (x:PIt):nmS (stepS st x).1=nmS st.1++(match x.2.2 with | .sub n=>[n] | _=>[]):=by
 unfold stepS;split
 ·rename_i h; rw [h]; simp [nmS]
 ·rename_i h; rw [h]; simp
 ·rename_i h; rw [h]; simp [krz]
 ·rename_i h; rw [h]; simp [krz]
theorem kry:∀ (l:Ya PIt) (st:RSt),nmS (l.foldl stepS st).1=nmS st.1++kah l
 | [],st=>by simp [kah]
 | x::l,st=>by
  rw [jbo,kry l,kug,jaw];congr 1;unfold kah;rw [jcp];cases x.2.2 <;> rfl
theorem kjw (M:Ya (Int×Int)) (names:Ya (Ya UInt8)):∀ (l:Ya PIt) (c:Nat) (R1:Ya Nat),(∀ i:Nat,mget M (i:Int)=(R1++kga l)[i]?.map λ(r:Nat)=>(r:Int))->R1.length=c->(names.take c++kah l) <+: names->c<=names.length->
  bS M (names.take c) (kah l) c=(badS names c l).map λ(r:Nat)=>(r:Int)
 | [],c,R1,_,_,_,_=>rfl
 | x::l,c,R1,hm,hl,hp,hc=>by
  obtain ⟨row,w,it⟩:=x;cases it with
  | sub n=>
   have f:kah ((row,w,It.sub n)::l)=n::kah l:=rfl;have j:kga ((row,w,It.sub n)::l)=row::kga l:=rfl;rw [f] at hp ⊢;rw [j] at hm;have a:c<names.length:=by
    have:=hp.length_le;simp [jdm hc] at this; omega
   have e:names.take (c+1)=names.take c++[n]:=by
    rw [jck a];congr 2;have:=hp.getElem (i:=c) (by simp [jdm hc]);rw [<-this,List.getElem_append_right (by simp [jdm hc])];simp [jdm hc]
   have g:=kjw M names l (c+1) (R1++[row]) (λi=>by rw [hm i]; simp) (by simp [hl]) (by rw [e]; simpa using hp) a;have h:(mget M (c:Int)).getD 0=(row:Int):=by rw [hm c,jbj (by omega),hl]; simp
   rw [bS,h,<-e,g];show _=((if n∈names.take c then [row] else [])++badS names (c+1) l).map _;rw [jcr];congr 1;split <;> rfl
  | fin=>exact kjw M names l c R1 hm hl hp hc
  | use n b=>exact kjw M names l c R1 hm hl hp hc
  | brick b=>exact kjw M names l c R1 hm hl hp hc
theorem kge (r:Nat):∀ (l:Ya PIt) (c:Nat),r∈badP names c l↔r∈badS names c l\/r∈badU names c l
 | [],c=>by simp [badP,badS,badU]
 | x::l,c=>by
  obtain ⟨row,w,it⟩:=x;cases it with
  | sub n=>
   show r∈(if n∈names.take c then [row] else [])++badP names (c+1) l↔r∈(if n∈names.take c then [row] else [])++badS names (c+1) l\/r∈[]++badU names (c+1) l;rw [jay,jay,kge r l (c+1)];simp [or_assoc]
  | fin=>exact kge r l c
  | use n b=>
   show r∈(if n∈names.drop c then [] else [row])++badP names c l↔r∈[]++badS names c l\/r∈(if n∈names.drop c then [] else [row])++badU names c l;simp only [jay,kge r l c,List.not_mem_nil,false_or];constructor
   ·rintro (h | h | h)
    ·exact .inr (.inl h)
    ·exact .inl h
    ·exact .inr (.inr h)
   ·rintro (h | h | h)
    ·exact .inr (.inl h)
    ·exact .inl h
    ·exact .inr (.inr h)
  | brick b=>exact kge r l c
theorem kii:∀ (l:Ya PIt) (c:Nat),(badP names c l).Sublist (l.map (·.1))
 | [],c=>by simp [badP]
 | x::l,c=>by
  have a:=kii l c;have h2:=kii l (c+1);unfold badP;split
  ·split
   ·exact h2.cons_cons _
   ·exact h2.cons _
  ·split
   ·exact a.cons _
   ·exact a.cons_cons _
  ·exact a.cons _
end
theorem kfP:∀ (j:Ya (Ya (Ya UInt8))) (row:Nat) (ins:Bool) (its:Ya PIt) (e:Bool),kap j row ins = .inr (its,e)->(∀ x∈its,row<x.1)/\its.Pairwise (λa b=>a.1<b.1)
 | [],row,ins,its,e,h=>by cases h; simp
 | w::ls,row,ins,its,e,h=>by
  rw [kap] at h;split at h
  ·obtain ⟨g,h2⟩:=kfP ls (row+1) ins its e h;exact ⟨λx c=>by have:=g x c; omega,h2⟩
  ·split at h
   ·cases h
   ·rename_i it i;split at h
    ·cases h
    ·rename_i f e' hr;cases h;obtain ⟨g,h2⟩:=kfP ls (row+1) _ f e hr;refine ⟨λx c=>?_,List.pairwise_cons.2 ⟨λx c=>g x c,h2⟩⟩;rcases jbi.1 c with rfl | c
     ·simp only; omega
     ·have:=g x c; omega
theorem kij:∀ (b:Ya (Ya (Ya UInt8))) (row:Nat) (its:Ya PIt) (e:Bool),kap b row false = .inr (its,e)->∀ x∈its.head?,∃ n,x.2.2 = .sub n
 | [],row,its,e,h=>by cases h; simp
 | w::ls,row,its,e,h=>by
  rw [kap] at h;split at h
  ·exact kij ls (row+1) its e h
  ·split at h
   ·cases h
   ·rename_i it a;split at h
    ·cases h
    ·cases h;intro x c;cases c;exact knp a
theorem ktE {l:Ya Nat} {r:Nat} {W:Ya Int} (hp:(r::l).Pairwise (·< ·)) (a:∀ x,x∈W↔∃ y∈r::l,x=(y:Int)):minL W=(r:Int):=by
 cases W with
 | nil=>exact absurd ((a r).2 ⟨r,by simp,rfl⟩) (by simp)
 | cons x t=>
  obtain ⟨c,h2⟩:=knw t x;obtain ⟨y,b,e⟩:=(a _).1 c;have f:=h2 (r:Int) ((a _).2 ⟨r,by simp,rfl⟩);show t.foldl imin x=_;rw [e] at f ⊢;rcases jbi.1 b with rfl | b
  ·rfl
  ·have:=(List.pairwise_cons.1 hp).1 y b; omega
def kbu (s:Ya UInt8):Ya (Ya (Ya UInt8)):=(kaE 10 (trimN 10 s)).map lineW
def readP (s:Ya UInt8):Ya Sub×Int×Int:=if 20000<s.length then ([],0,4) else readW (kbu s)
theorem kgW:∀ (a:Ya (Ya (Ya UInt8))) (row:Nat) (ins:Bool) (its:Ya PIt) (e:Bool),kap a row ins = .inr (its,e)->its.length<=a.length
 | [],row,ins,its,e,h=>by cases h; simp
 | w::ls,row,ins,its,e,h=>by
  rw [kap] at h;split at h
  ·have:=kgW ls (row+1) ins its e h; simp; omega
  ·split at h
   ·cases h
   ·split at h
    ·cases h
    ·rename_i hr;cases h;have:=kgW ls (row+1) _ _ _ hr; simp; omega
theorem kjo:∀ (a:Ya (Ya (Ya UInt8))) (row:Nat) (ins:Bool) (r:Nat),kap a row ins = .inl r->row<r/\r<=row+a.length
 | [],row,ins,r,h=>by cases h
 | w::ls,row,ins,r,h=>by
  rw [kap] at h;split at h
  ·have:=kjo ls (row+1) ins r h; simp; omega
  ·split at h
   ·cases h; simp only [jbt]; omega
   ·split at h
    ·rename_i hr;cases h;have:=kjo ls (row+1) _ _ hr; simp; omega
    ·cases h
theorem kpW:∀ (l:Ya PIt) (st:RSt),(l.foldl stepS st).1.length<=st.1.length+l.length/\(l.foldl stepS st).2.1.length<=st.2.1.length+l.length
 | [],st=>by simp
 | x::l,st=>by
  rw [jbo];obtain ⟨b,h2⟩:=kpW l (stepS st x);have a:(stepS st x).1.length<=st.1.length+1:=by rw [stepS_len']; split <;> simp
  have c:(stepS st x).2.1.length<=st.2.1.length+1:=by unfold stepS; split <;> simp
  simp only [jbt];omega
theorem ktf:∀ (l:Ya PIt),(∀ x∈l.head?,∃ n,x.2.2 = .sub n)->((l.foldl stepS ([],[],[])).1=[]↔l=[])
 | [],_=>by simp
 | x::l,h=>by
  obtain ⟨n,hn⟩:=h x rfl;have:∀ (l:Ya PIt) (st:RSt),st.1≠[]->(l.foldl stepS st).1≠[]:=by
   intro l;induction l with
   | nil=>intro st h; exact h
   | cons y l a=>intro st h; rw [jbo]; exact a _ (knC st y h)
  rw [jbo];constructor
  ·intro e;exact absurd e (this l _ (by unfold stepS; rw [hn]; simp))
  ·intro e; cases e
theorem kve (d:Ya Sub) (c:d.length<=100000):kat d (λ(a:Sub)=>((kde a).bind λb=>some b))=some (d.any λs=>decide (20<s.2.length)):=by
 have e:(λ(a:Sub)=>((kde a).bind λb=>some b))=λs:Sub=>some (decide (20<s.2.length)):=by
  funext s;unfold kde;simp only [jab,Option.some.injEq];rw [Bool.eq_iff_iff,jak,jak,kae]; omega
 rw [e,kqb d c]
theorem kvi (s:Ya UInt8) (Y:s.length<=100000):kfv s=some (readP s):=by
 unfold kfv readP;by_cases K:20000<s.length
 ·rw [if_pos (by rw [kae]; simp; omega),if_pos K]
 ·rw [if_neg (by rw [kae]; simp; omega),if_neg K,kru 10 s Y];simp only [jab];have ht:=kfu 10 s;have v:(runI λo=>kaM o [10] (trimN 10 s) 0)=some (kaE 10 (trimN 10 s)):=by
   have g:∀ o,kaM o [10] (trimN 10 s) 0=some (kaE 10 (trimN 10 s)):=λo=>by
    unfold kaM klG;simp only;rw [if_pos ⟨trivial,by omega⟩]
   unfold runI;simp only [g,jab,if_true]
  rw [show kcZ (trimN 10 s) [10]=some ([10],trimN 10 s,0) from rfl];simp only [jab];rw [v];simp only [jab];obtain ⟨m1,N⟩:=kiw 10 (trimN 10 s);rw [ktq _ (by omega) (λl hl=>by have:=N l hl; omega)];simp only [jab];have Q:(kaE 10 (trimN 10 s)).length=(kbu s).length:=by unfold kbu; simp
  have E:(kbu s).length<=30000:=by omega
  rw [Q,show (kaE 10 (trimN 10 s)).map lineW=kbu s from rfl];generalize kbu s=P at E;unfold readW;cases hp:kap P 0 false with
  | inl r=>rfl
  | inr x=>
   obtain ⟨its,e⟩:=x;have L:=kgW _ _ _ _ _ hp;have f:=kij _ _ _ _ hp;obtain ⟨H,D⟩:=kfP _ _ _ _ _ hp;obtain ⟨A,n⟩:=kpW its ([],[],[]);have a:=ktf its f;have j:=kry its ([],[],[]);have b:=RInv.fold (names:=kah its) its (R1:=[]) (st:=([],[],[])) (d:=[]) (W:=[]) ⟨rfl,(λu G=>by cases G),(λi=>by simp [mget]),rfl,rfl⟩ (.inr f);simp only [endR];generalize O:its.foldl stepS ([],[],[])=st at A n a j b;obtain ⟨S,U,M⟩:=st;simp only [jdn,jce] at A n;simp only at a j ⊢;cases e with
   | true=>rfl
   | false=>
    rw [if_neg (by decide)];by_cases B:its=[]
    ·rw [if_pos (by rw [a.2 B]; rfl),if_pos (.inr B)]
    ·have hS:S≠[]:=λe=>B (a.1 e);rw [if_neg (by rw [kae]; simp; exact hS),if_neg (by simp [B])];have z:nmS S=kah its:=by simpa [nmS] using j
     rw [kvA _ _ S U M (by omega) (by omega) (λu G=>b.ok u G)];simp only [jab];rw [z,kmd];have J:U.foldl (setU (kah its)) S=its.foldl (stepR (kah its)) []:=b.dr;simp only [J];have C:bS M [] (kah its) 0=(badS (kah its) 0 its).map λ(r:Nat)=>(r:Int):=kjw M (kah its) its 0 [] (λi=>by have:=b.m i; simpa using this) rfl (by simp) (jdq _);have p:=b.w;simp only [jav] at p;rw [C,p];have I:(its.foldl (stepR (kah its)) []).length=S.length:=by rw [<-J]; exact kkZ _ _
     have c:∀ x,x∈(badS (kah its) 0 its).map (λ(r:Nat)=>(r:Int))++(badU (kah its) 0 its).map (λ(r:Nat)=>(r:Int))↔∃ y∈badP (kah its) 0 its,x=(y:Int):=λx=>by
      simp only [jay,jba,kge];constructor
      ·rintro (⟨y,g,rfl⟩ | ⟨y,g,rfl⟩)
       ·exact ⟨y,.inl g,rfl⟩
       ·exact ⟨y,.inr g,rfl⟩
      ·rintro ⟨y,g | g,rfl⟩
       ·exact .inl ⟨y,g,rfl⟩
       ·exact .inr ⟨y,g,rfl⟩
     have h:=kii (names:=kah its) its 0;have k:(badP (kah its) 0 its).Pairwise (·< ·):=(List.pairwise_map.2 D).sublist h;change (if decide (0<minL ((badS (kah its) 0 its).map (λ(r:Nat)=>(r:Int))++(badU (kah its) 0 its).map (λ(r:Nat)=>(r:Int))))=true then _ else _)=_;generalize (badS (kah its) 0 its).map (λ(r:Nat)=>(r:Int))++(badU (kah its) 0 its).map (λ(r:Nat)=>(r:Int))=W at c;generalize its.foldl (stepR (kah its)) []=d at I;cases F:badP (kah its) 0 its with
     | nil=>
      rw [F] at c;have hW:W=[]:=by
       cases W with
       | nil=>rfl
       | cons x t=>obtain ⟨y,T,_⟩:=(c x).1 (by simp); cases T
      rw [hW,if_neg (by simp [minL])];simp only;by_cases R:8<d.length
      ·rw [if_pos (by rw [kae]; simp; omega),if_pos (.inl R)]
      ·rw [if_neg (by rw [kae]; simp; omega),kve d (by omega)];simp only [jab];cases hl:d.any (λs=>decide (20<s.2.length)) with
       | true=>rw [if_pos rfl,if_pos (.inr rfl)]
       | false=>rw [if_neg (by decide),if_neg (by simp; omega)]
     | cons r t=>
      rw [F] at c k;rw [ktE k c];have X:0<r:=by
       have:r∈its.map (·.1):=h.subset (by rw [F]; simp);obtain ⟨x,Z,rfl⟩:=jba.1 this;exact H x Z
      rw [if_pos (by simp; omega)]
theorem krQ {α:Type} {a b:α} {p:Ya α}:gsl (a::b::p) 2 (lenI (a::b::p))=some p:=by
 unfold gsl;rw [kae,if_pos (by simp; omega),jam,List.take_length];rfl
theorem kui {r:Ya (Ya UInt8)} (h:r.length≠6):brI r=none:=by
 unfold brI;split
 ·rfl
 ·rename_i n p;rw [kfj (by simpa using h)];cases numP n 0 15 <;> rfl
theorem kun {r:Ya (Ya UInt8)} (h:r.length≠6):usI r=none:=by
 unfold usI;split
 ·rfl
 ·rename_i n p;rw [kfj (by simpa using h)];split <;> rfl
theorem kvD (k:Ya UInt8) (r:Ya (Ya UInt8)) (hr:∀ x∈r,x.length<=100000):NumR ((itemP true (k::r)).map itB) (kfV (k::r)):=by
 unfold kfV;rw [kbA];simp only [jab];have D:(lenI (k::r)==7)=decide (r.length=6):=by
  rw [Bool.eq_iff_iff,beq_iff_eq,jak,kae]; simp; omega
 have C:(lenI (k::r) != 7) = !decide (r.length=6):=by rw [<-D]; rfl
 by_cases i:k=kEnd
 ·have j:itemP true (k::r)=if r=[] then some .fin else none:=by rw [kaK,i,if_neg (by decide),if_neg (by decide),if_pos rfl]
  rw [j,if_pos (by rw [i]; rfl) (c:=(k==_)=true)];cases r with
  | nil=>exact .yes rfl
  | cons a l=>
   rw [show (lenI (k::a::l)==1)=false by rw [kae]; simp; omega];exact .no rfl
 ·rw [if_neg (λh=>i (by simpa [kEnd] using h)) (c:=(k==_)=true)];by_cases m:k=kUse
  ·have j:itemP true (k::r)=usI r:=by rw [kaK,m,if_neg (by decide),if_neg (by decide),if_neg (by decide),if_neg (by decide),if_pos rfl]
   rw [j,if_pos (by rw [m]; rfl) (c:=(k==_)=true),D];have o:(!(k==[98,114,105,99,107]))=true:=by rw [m]; rfl
   by_cases f:r.length=6
   ·obtain ⟨n,p,rfl,hp⟩:=klY f;have g:decide ((n::p).length=6)=true:=by rw [jak]; exact f
    rw [g,if_pos rfl];have u:gi (k::n::p) 1=some n:=rfl;rw [u];simp only [jab];rw [krE n (hr n (by simp)),krQ];simp only [jab,usI];cases hn:kdQ n with
    | true=>
     rw [if_pos rfl,if_pos rfl];obtain ⟨y,B,A⟩:=kkw p hp (λz hz=>hr z (by simp [hz]));rw [B];simp only [jab];cases e:kdj p with
     | none=>exact .no rfl
     | some b=>obtain rfl:=A _ e; exact .yes rfl
    | false=>
     rw [if_neg (by decide),if_neg (by decide),if_pos o];exact .no rfl
   ·have g:decide (r.length=6)=false:=by rw [decide_eq_false_iff_not]; exact f
    rw [g,kun f,if_neg (by decide)];simp only [jab];rw [if_neg (by decide),if_pos o];exact .no rfl
  ·rw [if_neg (λh=>m (by simpa [kUse] using h)) (c:=(k==_)=true)];simp only [jab];rw [if_neg (by decide) (c:=false=true)];by_cases t:k=kdG
   ·have j:itemP true (k::r)=brI r:=by rw [kaK,t,if_neg (by decide),if_neg (by decide),if_neg (by decide),if_pos rfl]
    have o:¬ (!(k==[98,114,105,99,107]))=true:=by rw [t]; decide
    rw [j,if_neg o,C];by_cases f:r.length=6
    ·obtain ⟨n,p,rfl,hp⟩:=klY f;have g:decide ((n::p).length=6)=true:=by rw [jak]; exact f
     rw [g,if_neg (by decide),krQ];have u:gi (k::n::p) 1=some n:=rfl;rw [u];simp only [jab];obtain ⟨x,F,E⟩:=kcD n 0 15 (hr n (by simp)) (by decide) (by decide);obtain ⟨y,B,A⟩:=kkw p hp (λz hz=>hr z (by simp [hz]));rw [B,F];simp only [jab,brI];cases s:numP n 0 15 with
     | none=>
      simp only [Option.isSome_none];split <;> exact .no rfl
     | some v=>
      obtain rfl:=E _ s;simp only [Option.isSome_some,jab];cases i:kdj p with
      | none=>exact .no rfl
      | some b=>
       obtain rfl:=A _ i;exact .yes rfl
    ·have g:decide (r.length=6)=false:=by rw [decide_eq_false_iff_not]; exact f
     rw [g,kui f,if_pos (by rfl)];exact .no rfl
   ·rw [if_pos (by simpa [kdG] using t)];refine .no ?_;rw [kaK];by_cases s:k=kSub
    ·rw [if_pos s,if_pos rfl]; rfl
    ·rw [if_neg s,if_neg (by decide),if_neg i,if_neg t,if_neg m]; rfl
def rowOf (x:PIt):Row:=((x.1:Int),x.2.1,itB x.2.2)
def endQ (a:Bool) (out:Ya Row) (x:Nat⊕(Ya PIt×Bool)):(Ya Row×Int)⊕(Bool×Bool×Ya Row):=match x with
 | .inl r=>.inl ([],(r:Int))
 | .inr (its,e)=>.inr (e,a||!its.isEmpty,out++its.map rowOf)
theorem knT (g:Ya (Ya UInt8)) (hn:g.length<=100000) (hl:∀ l∈g,l.length<=100000) :
  iter (kcP g) (0,false,false,[])=some (endQ false [] (kap (g.map (wf [])) 0 false)):=by
 refine kdg (F:=kcP g)
  (λx=>∃ i:Nat,x.1=(i:Int)/\i<=g.length/\(x.2.1=true->x.2.2.1=true)/\x.2.2.2.length<=i) (λx=>g.length-x.1.toNat)
  (λx=>endQ x.2.2.1 x.2.2.2 (kap ((g.map (wf [])).drop x.1.toNat) x.1.toNat x.2.1)) (λx A=>?_) (0,false,false,[]) ⟨0,rfl,jdq _,(λh=>by cases h),jah 0⟩ (by simp; omega)
 obtain ⟨a,ins,C,out⟩:=x;obtain ⟨i,G,Z,N,Q⟩:=A;simp only at G N Q;subst G;rcases jbz i g.length with hp | hp
 ·have K:=hl g[i] (jdh hp);have O:(g.map (wf [])).drop i=wf [] g[i]::(g.map (wf [])).drop (i+1):=by rw [jbd (by simpa using hp)]; simp
  have B:∀ x∈wf [] g[i],x≠[]/\x.length<=100000:=λx A=>by
   have:=kji _ _ x A; exact ⟨this.1,by have:=this.2; simp at this; omega⟩
  have E:kdO g[i]=some (wf [] g[i]):=kqZ _ K;generalize wf [] g[i]=w at O B E;simp only [jam,O];unfold kcP;simp only;rw [if_pos (lenI_lt.2 hp),kaG hp];simp only [jab];rw [E,kaA (by omega)];simp only [jab];have m:skipP w=true->∃ y,(some (.inl (((i+1:Nat):Int),ins,C,out)):Yb ((Int×Bool×Bool×Ya Row)⊕((Ya Row×Int)⊕(Bool×Bool×Ya Row))))=some (.inl y)/\(∃ i:Nat,y.1=(i:Int)/\i<=g.length/\(y.2.1=true->y.2.2.1=true)/\y.2.2.2.length<=i)/\g.length-y.1.toNat<g.length-i/\
    endQ y.2.2.1 y.2.2.2 (kap ((g.map (wf [])).drop y.1.toNat) y.1.toNat y.2.1)=endQ C out (kap (w::(g.map (wf [])).drop (i+1)) i ins):=λX=>by
   refine ⟨_,rfl,⟨i+1,rfl,hp,N,jdk Q⟩,by simp only [jam]; omega,?_⟩;rw [show kap (w::(g.map (wf [])).drop (i+1)) i ins=kap ((g.map (wf [])).drop (i+1)) (i+1) ins by rw [kap,if_pos X]];simp only [jam]
  cases w with
  | nil=>
   rw [if_pos (by rfl)];exact .inr (m rfl)
  | cons k r=>
   rw [if_neg (by rw [kae]; simp; omega),kbA];simp only [jab];obtain ⟨c,H,P⟩:∃ c H,k=c::H:=by
    cases k with
    | nil=>exact absurd rfl (B [] (by simp)).1
    | cons c H=>exact ⟨c,H,rfl⟩
   have W:gstr k 0=some (c.toNat:Int):=by rw [P]; rfl
   rw [W];simp only [jab];have j:skipP (k::r)=((c.toNat:Int)==35):=by rw [P]; exact (krj c H).symm
   cases D:((c.toNat:Int)==35) with
   | true=>
    rw [if_pos rfl];rw [D] at j;exact .inr (m j)
   | false=>
    rw [if_neg (by decide)];rw [D] at j;have I:∀ x∈r,x.length<=100000:=λx A=>(B x (by simp [A])).2;have o:itemP ins (k::r)=none->endQ C out (kap ((k::r)::(g.map (wf [])).drop (i+1)) i ins) = .inl ([],((i+1:Nat):Int)):=λf=>by
     rw [kap,if_neg (by rw [j]; decide),f]; rfl
    have u:∀ it p,itemP ins (k::r)=some it->(itIn it=true->p=true)->(p=(C||true))->∃ y,(some (.inl (((i+1:Nat):Int),itIn it,p,out++[(((i+1:Nat):Int),k::r,itB it)])):Yb ((Int×Bool×Bool×Ya Row)⊕((Ya Row×Int)⊕(Bool×Bool×Ya Row))))=some (.inl y)/\(∃ i:Nat,y.1=(i:Int)/\i<=g.length/\(y.2.1=true->y.2.2.1=true)/\y.2.2.2.length<=i)/\g.length-y.1.toNat<g.length-i/\
      endQ y.2.2.1 y.2.2.2 (kap ((g.map (wf [])).drop y.1.toNat) y.1.toNat y.2.1)=endQ C out (kap ((k::r)::(g.map (wf [])).drop (i+1)) i ins):=λit p f z s=>by
     refine ⟨_,rfl,⟨i+1,rfl,hp,z,by simp; omega⟩,by simp only [jam]; omega,?_⟩;rw [kap,if_neg (by rw [j]; decide),f];simp only [jam];cases kap ((g.map (wf [])).drop (i+1)) (i+1) (itIn it) with
     | inl q=>rfl
     | inr q=>
      obtain ⟨its,e⟩:=q;simp only [endQ,s];simp [rowOf]
    cases ins with
    | false=>
     rw [if_pos (by rfl)];by_cases t:k=kSub
     ·rw [if_neg (by rw [t]; decide)];by_cases G:r.length=1
      ·obtain ⟨n,rfl⟩:∃ n,r=[n]:=by
        match r,G with
        | [n],_=>exact ⟨n,rfl⟩
       rw [if_neg (by rw [kae]; simp)];have L:gi [k,n] 1=some n:=rfl;rw [L];simp only [jab];rw [krE n (I n (by simp))];simp only [jab];cases hn:kdQ n with
       | true=>
        have f:itemP false [k,n]=some (.sub n):=by rw [kaK,if_pos t,if_neg (by decide)]; unfold suI; simp only; rw [if_pos hn]
        rw [if_neg (by decide),kaJ (by simp; omega)];exact .inr (u _ true f (λ_=>rfl) (by simp))
       | false=>
        have f:itemP false [k,n]=none:=by rw [kaK,if_pos t,if_neg (by decide)]; unfold suI; simp only; rw [if_neg (by rw [hn]; decide)]
        rw [if_pos (by rfl)];exact .inl (by rw [o f])
      ·have f:itemP false (k::r)=none:=by rw [kaK,if_pos t,if_neg (by decide)]; unfold suI; split; exact absurd rfl G; rfl
       rw [if_pos (by rw [kae]; simp; omega)];exact .inl (by rw [o f])
     ·have f:itemP false (k::r)=none:=by rw [kaK,if_neg t,if_pos rfl]
      rw [if_pos (by simpa [kSub] using t)];exact .inl (by rw [o f])
    | true=>
     rw [if_neg (by decide)];obtain ⟨x,A,Y⟩:=kvD k r I;rw [A];simp only [jab];cases f:itemP true (k::r) with
     | none=>
      simp only [Option.map_none,Option.isSome_none];rw [if_pos (by rfl)];exact .inl (by rw [o f])
     | some it=>
      obtain rfl:=Y _ (by rw [f]; rfl);simp only [jcb,Option.isSome_some];rw [if_neg (by decide),kaJ (by simp; omega)];simp only [jab];have z:(!(k==[101,110,100]))=itIn it:=by
       rw [kaK] at f;by_cases t:k=kSub
       ·rw [if_pos t,if_pos rfl] at f; cases f
       ·rw [if_neg t,if_neg (by decide)] at f;by_cases J:k=kEnd
        ·rw [if_pos J] at f;split at f
         ·cases f; rw [J]; rfl
         ·cases f
        ·rw [if_neg J] at f;have:(k==[101,110,100])=false:=by simpa [kEnd] using J
         rw [this];by_cases R:k=kdG
         ·rw [if_pos R] at f;unfold brI at f;split at f
          ·cases f
          ·obtain ⟨v,_,f⟩:=jaa.1 f;obtain ⟨b,_,f⟩:=jaa.1 f;cases f; rfl
         ·rw [if_neg R] at f;by_cases T:k=kUse
          ·rw [if_pos T] at f;unfold usI at f;split at f
           ·cases f
           ·split at f
            ·obtain ⟨b,_,f⟩:=jac.1 f;cases f; rfl
            ·cases f
          ·rw [if_neg T] at f; cases f
      rw [z];have s:=N rfl;exact .inr (u it C f (λ_=>s) (by rw [s]; rfl))
 ·left;obtain rfl:i=g.length:=by omega
  unfold kcP;simp only;rw [if_neg kaD];simp only [jam];rw [jbg (by simp)];simp [kap,endQ]
end Go.Abs
