/- The functions and the law, part 8. -/
import Derived.Shelf.Strconv.Itoa3
import Derived.Test.YtnehmnlcliflfaaDoorProg
import Derived.Laws.RangeAny
import Derived.Test.YtnehmnlcliflfaaDoorZ3
import Derived.Test.YtnehmnlcliflfaaDoorZ6
import Derived.Test.YtnehmnlcliflfaaDoorZ7
set_option linter.constructorNameAsVariable false
set_option linter.unusedVariables false
set_option linter.unusedSimpArgs false
set_option linter.unusedSectionVars false
namespace Go.Abs
open Go
abbrev Ti:Ty:=.i .i64
@[reducible] def tSub:Ty:=(.pr .s (.sl (.pr (.i .i64) (.pr (.i .i64) (.pr (.pr (.i .i64) (.pr (.i .i64) (.i .i64))) (.pr (.i .u8) (.i .u8)))))))
abbrev Sub:=((List UInt8)×(List (Int×Int×(Int×Int×Int)×Int×Int)))
@[reducible] def ksD:Ty:=(.pr (.i .i64) (.pr (.pr (.i .i64) (.pr (.i .i64) (.i .i64))) (.pr (.i .u8) (.i .u8))))
abbrev Brick:=(Int×(Int×Int×Int)×Int×Int)
@[reducible] def tLine:Ty:=(.pr (.i .i64) ksD)
abbrev Line:=(Int×Brick)
def kcN (a:Ya Sub) (v0:Int):Yb (Int⊕(Bool⊕Unit)):=
 (if (decide (v0<(lenI a)))=true then ((gi a v0).bind λb=>if (decide (30<(lenI b.2)))=true then (some (.inr (.inl true))) else ((gi a v0).bind λv2=>if (decide (100<(lenI v2.1)))=true then (some (.inr (.inl true))) else (some (.inl (w64 (v0+1)))))) else (some (.inr (.inr ()))))
def kcZ (a:Ya Sub):Yb Bool:=
 (if (decide (12<(lenI a)))=true then (some true) else ((iter (kcN a) 0).bind λv3=>match v3 with | .inl v4=>(some v4) | .inr v5=>(some false)))
def kdy (a:Int) (c:Int) (b:Int):Yb Bool:=
 (if (decide (a<c))=true then (some true) else (some (decide (b<a))))
def kaP (a:Ya Int) (c:(Int->Yb Bool)) (v0:Int):Yb (Int⊕(Int⊕Unit)):=
 (if (decide (v0<(lenI a)))=true then ((gi a v0).bind λb=>(c b).bind λv2=>if v2=true then (some (.inr (.inl v0))) else (some (.inl (w64 (v0+1))))) else (some (.inr (.inr ()))))
def kbq (a:Ya Int) (b:(Int->Yb Bool)):Yb Int:=
 ((iter (kaP a b) 0).bind λv3=>match v3 with | .inl v4=>(some v4) | .inr v5=>(some (-1)))
def kaO (a:Ya Int) (b:(Int->Yb Bool)):Yb Bool:=
 ((kbq a b).bind λv0=>some (decide (0<=v0)))
def kbA (a:Int) (c:Int) (e:Ya Int):Yb Bool:=
 ((kaO e (λ(b:Int)=>((kdy b a c).bind λf=>some f))).bind λv0=>some (!v0))
def kbG (v0:(Ya UInt8)×Int):Yb (((Ya UInt8)×Int)⊕(Bool⊕Unit)):=
 (if (decide (v0.2<(lenI v0.1)))=true then ((if (decide (97<=(runeV v0)))=true then (some (decide ((runeV v0)<=122))) else (some false)).bind λa=>if a=true then (some (.inl (runeN v0))) else (if (v0.2==0)=true then (some (.inr (.inl false))) else (if ((runeV v0) != 45)=true then (if (decide ((runeV v0)<48))=true then (some (.inr (.inl false))) else (if (decide (57<(runeV v0)))=true then (some (.inr (.inl false))) else (some (.inl (runeN v0))))) else (some (.inl (runeN v0)))))) else (some (.inr (.inr ()))))
def ked (a:Ya UInt8):Yb Bool:=
 ((iter (kbG) (a,0)).bind λv2=>match v2 with | .inl v3=>(some v3) | .inr v4=>((kbA 1 12 [(lenI a)]).bind λv5=>some v5))
def kfI (a:Int×Int×Int):Yb Bool:=
 ((kbA (-1000) 1000 [a.1,a.2.1,a.2.2]).bind λv0=>some v0)
def kbQ (b:Ya Sub) (c:Int×(Ya ((Ya UInt8)×Bool))) (v2:Sub) (v4:Int):Yb (Int⊕(Int⊕Unit)):=
 (if (decide (v4<(lenI v2.2)))=true then ((gi v2.2 v4).bind λv5=>(if (v5.1==(-1))=true then ((kbA 0 15 [v5.2.1]).bind λe=>if e=true then (some true) else ((kbA (w64 (c.1+1)) (w64 ((lenI b)-1)) [v5.1]).bind λg=>if g=true then (some (v5.2.1==0)) else (some false))) else ((kbA (w64 (c.1+1)) (w64 ((lenI b)-1)) [v5.1]).bind λf=>if f=true then (some (v5.2.1==0)) else (some false))).bind λv9=>if (!v9)=true then (some (.inr (.inl 8))) else ((kfI v5.2.2.1).bind λa=>if (!a)=true then (some (.inr (.inl 8))) else (if (decide (24<=v5.2.2.2.1))=true then (some (.inr (.inl 8))) else (if (decide (15<v5.2.2.2.2))=true then (some (.inr (.inl 8))) else (some (.inl (w64 (v4+1)))))))) else (some (.inr (.inr ()))))
def kde (b:Ya Sub) (a:Int×(Ya ((Ya UInt8)×Bool))):Yb ((Int×(Ya ((Ya UInt8)×Bool)))⊕(Int⊕Unit)):=
 (if (decide (a.1<(lenI b)))=true then ((gi b a.1).bind λv2=>(ked v2.1).bind λv3=>if (!v3)=true then (some (.inr (.inl 8))) else (if ((mget a.2 v2.1).getD false)=true then (some (.inr (.inl 8))) else (if (decide (20<(lenI v2.2)))=true then (some (.inr (.inl 8))) else ((iter (kbQ b a v2) 0).bind λc=>match c with | .inl v12=>(some (.inr (.inl v12))) | .inr v13=>(some (.inl ((w64 (a.1+1)),(mput a.2 v2.1 true)))))))) else (some (.inr (.inr ()))))
def kdF (b:Ya Sub):Yb Int:=
 ((kbA 1 8 [(lenI b)]).bind λv0=>if (!v0)=true then (some 8) else ((iter (kde b) (0,[])).bind λa=>match a with | .inl v15=>(some v15) | .inr v16=>(some 0)))
def strconv_Itoa (a:Int):Yb (Ya UInt8):=itoaF a
def kby (a:Ya Int):Yb (Ya UInt8):=strOf a
def kbk (a:Ya Int):Yb (Ya Int):=some a
def kak (a:Ya UInt8) (c:Ya Int):Yb (Int×(Ya Int)):=
 ((kbk c).bind λv0=>(gapp v0 (strI a)).bind λb=>some ((lenI a),b))
def kbL (a:Ya Int) (v0:Int×(Ya Int)):Yb ((Int×(Ya Int))⊕(Ya Int)):=
 (if (decide (v0.1<(lenI a)))=true then ((gi a v0.1).bind λb=>(gi a v0.1).bind λv2=>(strconv_Itoa v2).bind λv3=>(gcat [32] v3).bind λv4=>(kak v4 v0.2).bind λv5=>some (.inl ((w64 (v0.1+1)),v5.2))) else (some (.inr v0.2)))
def kcn (a:Ya Int) (e:Ya Int):Yb ((Ya Int)×(Ya Int)):=
 ((iter (kbL a) (0,e)).bind λb=>(kak [10] b).bind λc=>some (a,c.2))
def kdb (j:Ya Sub) (v2:Sub) (b:Int×(Ya Int)):Yb ((Int×(Ya Int))⊕(Ya Int)):=
 (if (decide (b.1<(lenI v2.2)))=true then ((gi v2.2 b.1).bind λa=>(if (decide (a.1<0))=true then ((strconv_Itoa a.2.1).bind λk=>(gcat [98,114,105,99,107,32] k).bind λv9=>(kak v9 b.2).bind λf=>some f.2) else ((gi j a.1).bind λg=>(gcat [117,115,101,32] g.1).bind λh=>(kak h b.2).bind λe=>some e.2)).bind λc=>(kcn [a.2.2.1.1,a.2.2.1.2.1,a.2.2.1.2.2,(w64 a.2.2.2.1),(w64 a.2.2.2.2)] c).bind λi=>some (.inl ((w64 (b.1+1)),i.2))) else (some (.inr b.2)))
def kcu (b:Ya Sub) (a:Int×(Ya Int)):Yb ((Int×(Ya Int))⊕(Ya Int)):=
 (if (decide (a.1<(lenI b)))=true then ((gi b a.1).bind λv2=>(gcat [115,117,98,32] v2.1).bind λv3=>(gcat v3 [10]).bind λv4=>(kak v4 a.2).bind λv5=>(iter (kdb b v2) (0,v5.2)).bind λe=>(kak [101,110,100,10] e).bind λc=>some (.inl ((w64 (a.1+1)),c.2))) else (some (.inr a.2)))
def keR (c:Ya Sub):Yb ((Ya UInt8)×Int):=
 ((kdF c).bind λv0=>if (v0 != 0)=true then (some ([],v0)) else ((iter (kcu c) (0,[])).bind λa=>(kby a).bind λb=>some (b,0)))
def kbN (a:Ya UInt8) (v0:Int):Yb (Int⊕(Bool⊕Unit)):=
 (if (decide (v0<(lenI a)))=true then (((gstr a v0).bind λc=>if (decide (97<=c))=true then ((gstr a v0).bind λv2=>some (decide (v2<=122))) else (some false)).bind λv3=>if (!v3)=true then (if (v0==0)=true then (some (.inr (.inl false))) else ((gstr a v0).bind λv4=>if (v4 != 45)=true then ((gstr a v0).bind λv5=>if (decide (v5<48))=true then (some (.inr (.inl false))) else ((gstr a v0).bind λb=>if (decide (57<b))=true then (some (.inr (.inl false))) else (some (.inl (w64 (v0+1)))))) else (some (.inl (w64 (v0+1)))))) else (some (.inl (w64 (v0+1))))) else (some (.inr (.inr ()))))
def keL (a:Ya UInt8):Yb Bool:=
 ((iter (kbN a) 0).bind λb=>match b with | .inl v8=>(some v8) | .inr v9=>(if (decide (1<=(lenI a)))=true then (some (decide ((lenI a)<=12))) else (some false)))
def kdh (a:Ya Sub) (c:Ya UInt8) (v0:Int):Yb (Int⊕(Int⊕Unit)):=
 (if (decide (v0<(lenI a)))=true then ((gi a v0).bind λb=>if (b.1==c)=true then (some (.inr (.inl v0))) else (some (.inl (w64 (v0+1))))) else (some (.inr (.inr ()))))
def keS (a:Ya Sub) (b:Ya UInt8):Yb Int:=
 ((iter (kdh a b) 0).bind λv2=>match v2 with | .inl v3=>(some v3) | .inr v4=>(some (-1)))
def kbm (a:Int) (c:Int) (b:Int):Yb Bool:=
 (if (decide (c<=a))=true then (some (decide (a<=b))) else (some false))
def keC (a:Int×Int×Int):Yb Bool:=
 ((kbm a.1 (-1000) 1000).bind λv0=>if v0=true then ((kbm a.2.1 (-1000) 1000).bind λb=>if b=true then ((kbm a.2.2 (-1000) 1000).bind λv2=>some v2) else (some false)) else (some false))
def keT (b:Ya Sub) (e:Int) (a:Line):Yb Bool:=
 ((keC a.2.2.1).bind λv0=>if (!v0)=true then (some false) else (if (decide (23<a.2.2.2.1))=true then (some false) else (if (decide (15<a.2.2.2.2))=true then (some false) else (if (a.1==(-1))=true then ((kbm a.2.1 0 15).bind λc=>some c) else ((kbm a.1 (w64 (e+1)) (w64 ((lenI b)-1))).bind λv2=>if v2=true then (some (a.2.1==0)) else (some false))))))
def kcb (b:Ya Sub) (v0:Int) (a:Sub) (v4:Int):Yb (Int⊕(Bool⊕Unit)):=
 (if (decide (v4<(lenI a.2)))=true then ((gi a.2 v4).bind λv5=>(keT b v0 v5).bind λc=>if (!c)=true then (some (.inr (.inl false))) else (some (.inl (w64 (v4+1))))) else (some (.inr (.inr ()))))
def kcL (a:Ya Sub) (v0:Int):Yb (Int⊕(Bool⊕Unit)):=
 (if (decide (v0<(lenI a)))=true then ((gi a v0).bind λb=>(keL b.1).bind λv2=>if (!v2)=true then (some (.inr (.inl false))) else (if (decide (20<(lenI b.2)))=true then (some (.inr (.inl false))) else ((keS a b.1).bind λv3=>if (v3 != v0)=true then (some (.inr (.inl false))) else ((iter (kcb a v0 b) 0).bind λc=>match c with | .inl v8=>(some (.inr (.inl v8))) | .inr v9=>(some (.inl (w64 (v0+1)))))))) else (some (.inr (.inr ()))))
def kcS (b:Ya Sub):Yb Bool:=
 (if (decide ((lenI b)<1))=true then (some false) else (if (decide (8<(lenI b)))=true then (some false) else ((iter (kcL b) 0).bind λa=>match a with | .inl v11=>(some v11) | .inr v12=>(some true))))
def kdG (a:Int->Yb (Ya UInt8)) (b:Int):Yb (Ya UInt8):=
 (if (decide (b<0))=true then ((a (w64 (0-b))).bind λv0=>(gcat [45] v0).bind λc=>some c) else ((grem b 10).bind λv2=>if (decide (10<=b))=true then ((gquo .i64 b 10).bind λv3=>(a v3).bind λv4=>(gcat v4 (kaG [(IntKind.wrap .u8 (w64 (48+v2)))])).bind λv5=>some v5) else (some (kaG [(IntKind.wrap .u8 (w64 (48+v2)))]))))
def kbp:Nat->Int->Yb (Ya UInt8)
 | 0,_=>none
 | k+1,x0=>kdG (kbp k) x0
def kdc (a:Int):Yb (Ya UInt8):=kbp 1000000 a
def kcm (a:Ya Int) (v0:Int×(Ya UInt8)):Yb ((Int×(Ya UInt8))⊕(Ya UInt8)):=
 (if (decide (v0.1<(lenI a)))=true then ((gi a v0.1).bind λb=>(kdc b).bind λv2=>(gcat [32] v2).bind λv3=>(gcat v0.2 v3).bind λv4=>some (.inl ((w64 (v0.1+1)),v4))) else (some (.inr v0.2)))
def kcs (a:Ya Int):Yb (Ya UInt8):=
 ((iter (kcm a) (0,[])).bind λv5=>some v5)
def kcg (c:Ya Sub) (v0:Int×(Ya UInt8)) (v5:Int×(Ya UInt8)):Yb ((Int×(Ya UInt8))⊕(Ya UInt8)):=
 ((gi c v0.1).bind λn=>if (decide (v5.1<(lenI n.2)))=true then ((gi c v0.1).bind λo=>(gi o.2 v5.1).bind λa=>(kcs [a.2.2.1.1,a.2.2.1.2.1,a.2.2.1.2.2,(w64 a.2.2.2.1),(w64 a.2.2.2.2)]).bind λv9=>if (a.1==(-1))=true then ((kcs [a.2.1]).bind λg=>(gcat [98,114,105,99,107] g).bind λh=>(gcat h v9).bind λk=>(gcat k [10]).bind λe=>(gcat v5.2 e).bind λb=>some (.inl ((w64 (v5.1+1)),b))) else ((gi c a.1).bind λl=>(gcat [117,115,101,32] l.1).bind λm=>(gcat m v9).bind λf=>(gcat f [10]).bind λi=>(gcat v5.2 i).bind λj=>some (.inl ((w64 (v5.1+1)),j)))) else (some (.inr v5.2)))
def kcj (a:Ya Sub) (v0:Int×(Ya UInt8)):Yb ((Int×(Ya UInt8))⊕(Ya UInt8)):=
 (if (decide (v0.1<(lenI a)))=true then ((gi a v0.1).bind λc=>(gcat [115,117,98,32] c.1).bind λv2=>(gcat v2 [10]).bind λv3=>(gcat v0.2 v3).bind λv4=>(iter (kcg a v0) (0,v4)).bind λv20=>(gcat v20 [101,110,100,10]).bind λb=>some (.inl ((w64 (v0.1+1)),b))) else (some (.inr v0.2)))
def kdg (b:Ya Sub):Yb (Ya UInt8):=
 ((iter (kcj b) (0,[])).bind λa=>some a)
def kek (a:Ya Sub):Yb ((Ya UInt8)×Int):=
 ((kcS a).bind λv0=>if (!v0)=true then (some ([],8)) else ((kdg a).bind λb=>some (b,0)))
def kec (a:Ya Sub):Yb Int:=
 ((kcS a).bind λv0=>if (!v0)=true then (some 8) else (some 0))
def kan (a:Ya Sub) (c:Ya Sub) (e:((Sub×Sub)->Yb Bool)) (v0:Int):Yb (Int⊕(Bool⊕Unit)):=
 (if (decide (v0<(lenI a)))=true then ((gi a v0).bind λb=>(gi c v0).bind λv2=>(e (b,v2)).bind λv3=>if (!v3)=true then (some (.inr (.inl false))) else (some (.inl (w64 (v0+1))))) else (some (.inr (.inr ()))))
def kat (a:Ya Sub) (b:Ya Sub) (c:((Sub×Sub)->Yb Bool)):Yb Bool:=
 (if ((lenI a) != (lenI b))=true then (some false) else ((iter (kan a b c) 0).bind λv4=>match v4 with | .inl v5=>(some v5) | .inr v6=>(some true)))
def kaD (b:Ya Line) (c:Ya Line) (v0:Int):Yb (Int⊕(Bool⊕Unit)):=
 (if (decide (v0<(lenI b)))=true then ((gi b v0).bind λa=>(gi c v0).bind λv2=>if (!((a.1==v2.1)&&((a.2.1==v2.2.1)&&(((a.2.2.1.1==v2.2.2.1.1)&&((a.2.2.1.2.1==v2.2.2.1.2.1)&&(a.2.2.1.2.2==v2.2.2.1.2.2)))&&((a.2.2.2.1==v2.2.2.2.1)&&(a.2.2.2.2==v2.2.2.2.2))))))=true then (some (.inr (.inl false))) else (some (.inl (w64 (v0+1))))) else (some (.inr (.inr ()))))
def kaI (a:Ya Line) (b:Ya Line):Yb Bool:=
 (if ((lenI a) != (lenI b))=true then (some false) else ((iter (kaD a b) 0).bind λv3=>match v3 with | .inl v4=>(some v4) | .inr v5=>(some true)))
def kdC (a:Sub) (b:Sub):Yb Bool:=
 (if (a.1==b.1)=true then ((kaI a.2 b.2).bind λv0=>some v0) else (some false))
def kel (b:Ya Sub) (c:Ya Sub):Yb Bool:=
 ((kat b c (λ(a:Sub×Sub)=>((kdC a.1 a.2).bind λe=>some e))).bind λv0=>some v0)
def kda (v5:(Ya UInt8)×(Ya Line)×Sub) (c:Int):Yb (Int⊕(Bool⊕Unit)):=
 (if (decide (c<(lenI v5.2.1)))=true then ((gi v5.2.1 c).bind λa=>(gi v5.2.2.2 c).bind λb=>if (!((a.1==b.1)&&((a.2.1==b.2.1)&&(((a.2.2.1.1==b.2.2.1.1)&&((a.2.2.1.2.1==b.2.2.1.2.1)&&(a.2.2.1.2.2==b.2.2.1.2.2)))&&((a.2.2.2.1==b.2.2.2.1)&&(a.2.2.2.2==b.2.2.2.2))))))=true then (some (.inr (.inl false))) else (some (.inl (w64 (c+1))))) else (some (.inr (.inr ()))))
def kdf (a:Ya Sub) (c:Ya Sub) (v0:Int):Yb (Int⊕(Bool⊕Unit)):=
 (if (decide (v0<(lenI a)))=true then ((bthO (.pr .s (.pr (.sl tLine) tSub)) ((gi a v0).bind λb=>(gi c v0).bind λv2=>some (b.1,b.2,v2)) ((gi a v0).bind λv3=>(gi c v0).bind λv4=>some (v3.1,v3.2,v4))).bind λv5=>if (!(v5.1==v5.2.2.1))=true then (some (.inr (.inl false))) else (if ((lenI v5.2.1) != (lenI v5.2.2.2))=true then (some (.inr (.inl false))) else ((iter (kda v5) 0).bind λv9=>match v9 with | .inl v10=>(some (.inr (.inl v10))) | .inr v11=>(some (.inl (w64 (v0+1))))))) else (some (.inr (.inr ()))))
def keM (b:Ya Sub) (c:Ya Sub):Yb Bool:=
 (if ((lenI b) != (lenI c))=true then (some false) else ((iter (kdf b c) 0).bind λa=>match a with | .inl v13=>(some v13) | .inr v14=>(some true)))
def kdi (a:Ya Sub) (v0:Int×(Ya Sub)):Yb ((Int×(Ya Sub))⊕(Ya Sub)):=
 (if (decide (v0.1<(lenI a)))=true then ((gi a v0.1).bind λb=>(gi a v0.1).bind λv2=>(gapp [] v2.2).bind λv3=>(gapp v0.2 [(b.1,v3)]).bind λv4=>some (.inl ((w64 (v0.1+1)),v4))) else (some (.inr v0.2)))
def keO (a:Ya Sub):Yb (Ya Sub):=
 ((iter (kdi a) (0,[])).bind λv5=>some v5)
def kdX (a:Ya Sub) (b:Ya Sub):Yb Bool:=
 ((kcZ a).bind λv0=>if v0=true then (some true) else ((kcZ b).bind λf=>if f=true then (some true) else ((keR a).bind λv2=>(kek a).bind λv3=>(kdF a).bind λv4=>(kec a).bind λv5=>if (v4==v5)=true then ((kel a b).bind λe=>(keM a b).bind λg=>if (e==g)=true then ((keO a).bind λc=>(kel a c).bind λv9=>if v9=true then (if (v2.1==v3.1)=true then (some (v2.2==v3.2)) else (some false)) else (some false)) else (some false)) else (some false))))
end Go.Abs
namespace Go.Proofs
open Go.Shelf
def Tryd.ccL_ren:Go.Shelf.Ren:=⟨fun | 240=>39 | 276=>61 | n=>n,fun | 70=>43 | 0=>0 | 72=>46 | 4=>4 | 164=>113 | 37=>44 | 5=>5 | n=>n,fun | n=>n⟩
theorem Tryd.ccL:Go.Proofs.Lays.n240 Tryd.prog Tryd.ccL_ren:={
 mixed:=by kernel_rfl
 f240:=Tryd.func39.trans (congrArg some (by kernel_rfl))
 f276:=Tryd.func61.trans (congrArg some (by kernel_rfl))
 t0:=Tryd.underlying0
 a0:=Tryd.isAgg0
 z0:=Tryd.sizeOf0
 v0:=Tryd.zeroValue0
 t4:=Tryd.underlying4
 a4:=Tryd.isAgg4
 z4:=Tryd.sizeOf4
 v4:=Tryd.zeroValue4
 t9:=Tryd.underlying9
 a9:=Tryd.isAgg9
 z9:=Tryd.sizeOf9
 v9:=Tryd.zeroValue9
 t20:=Tryd.underlying20
 a20:=Tryd.isAgg20
 z20:=Tryd.sizeOf20
 v20:=Tryd.zeroValue20
 t70:=Tryd.underlying43
 a70:=Tryd.isAgg43
 z70:=Tryd.sizeOf43
 v70:=Tryd.zeroValue43
 t72:=Tryd.underlying46
 a72:=Tryd.isAgg46
 z72:=Tryd.sizeOf46
 v72:=Tryd.zeroValue46
 t164:=Tryd.underlying113
 a164:=Tryd.isAgg113
 z164:=Tryd.sizeOf113
 v164:=Tryd.zeroValue113 }
def Tryd.bsL_ren:Go.Shelf.Ren:=⟨fun | 169=>18 | n=>n,fun | 70=>43 | 9=>9 | 0=>0 | 72=>46 | 37=>44 | 127=>90 | 3=>3 | 5=>5 | n=>n,fun | n=>n⟩
theorem Tryd.bsL:Go.Proofs.Lays.n169 Tryd.prog Tryd.bsL_ren:={
 mixed:=by kernel_rfl
 f169:=Tryd.func18.trans (congrArg some (by kernel_rfl))
 t0:=Tryd.underlying0
 a0:=Tryd.isAgg0
 z0:=Tryd.sizeOf0
 v0:=Tryd.zeroValue0
 t3:=Tryd.underlying3
 a3:=Tryd.isAgg3
 z3:=Tryd.sizeOf3
 v3:=Tryd.zeroValue3
 t9:=Tryd.underlying9
 a9:=Tryd.isAgg9
 z9:=Tryd.sizeOf9
 v9:=Tryd.zeroValue9
 t37:=Tryd.underlying44
 a37:=Tryd.isAgg44
 z37:=Tryd.sizeOf44
 v37:=Tryd.zeroValue44
 t70:=Tryd.underlying43
 a70:=Tryd.isAgg43
 z70:=Tryd.sizeOf43
 v70:=Tryd.zeroValue43
 t72:=Tryd.underlying46
 a72:=Tryd.isAgg46
 z72:=Tryd.sizeOf46
 v72:=Tryd.zeroValue46
 t127:=Tryd.underlying90
 a127:=Tryd.isAgg90
 z127:=Tryd.sizeOf90
 v127:=Tryd.zeroValue90 }
def Tryd.itL_ren:Go.Shelf.Ren:=⟨fun | 171=>17 | 243=>40 | 246=>62 | 283=>75 | 284=>76 | 285=>77 | 286=>78 | 129=>84 | 317=>83 | 318=>85 | 319=>86 | 320=>87 | 337=>97 | 338=>98 | n=>n,fun | 3=>3 | 9=>9 | 2=>2 | 4=>4 | 171=>127 | 0=>0 | 53=>128 | 37=>44 | 5=>5 | 173=>131 | 212=>136 | 51=>137 | 20=>20 | 213=>138 | 46=>139 | 232=>160 | 233=>161 | n=>n,fun | 17=>0 | 18=>6 | 19=>7 | n=>n⟩
theorem Tryd.itL:Go.Proofs.LaysM.n171 Tryd.prog Tryd.itL_ren:={
 mixed:=by kernel_rfl
 f129:=Tryd.func84.trans (congrArg some (by kernel_rfl))
 f171:=Tryd.func17.trans (congrArg some (by kernel_rfl))
 f243:=Tryd.func40.trans (congrArg some (by kernel_rfl))
 f246:=Tryd.func62.trans (congrArg some (by kernel_rfl))
 f283:=Tryd.func75.trans (congrArg some (by kernel_rfl))
 f284:=Tryd.func76.trans (congrArg some (by kernel_rfl))
 f285:=Tryd.func77.trans (congrArg some (by kernel_rfl))
 f286:=Tryd.func78.trans (congrArg some (by kernel_rfl))
 f317:=Tryd.func83.trans (congrArg some (by kernel_rfl))
 f318:=Tryd.func85.trans (congrArg some (by kernel_rfl))
 f319:=Tryd.func86.trans (congrArg some (by kernel_rfl))
 f320:=Tryd.func87.trans (congrArg some (by kernel_rfl))
 f337:=Tryd.func97.trans (congrArg some (by kernel_rfl))
 f338:=Tryd.func98.trans (congrArg some (by kernel_rfl))
 t0:=Tryd.underlying0
 a0:=Tryd.isAgg0
 z0:=Tryd.sizeOf0
 v0:=Tryd.zeroValue0
 t2:=Tryd.underlying2
 a2:=Tryd.isAgg2
 z2:=Tryd.sizeOf2
 v2:=Tryd.zeroValue2
 t3:=Tryd.underlying3
 a3:=Tryd.isAgg3
 z3:=Tryd.sizeOf3
 v3:=Tryd.zeroValue3
 t4:=Tryd.underlying4
 a4:=Tryd.isAgg4
 z4:=Tryd.sizeOf4
 v4:=Tryd.zeroValue4
 t5:=Tryd.underlying5
 a5:=Tryd.isAgg5
 z5:=Tryd.sizeOf5
 v5:=Tryd.zeroValue5
 t9:=Tryd.underlying9
 a9:=Tryd.isAgg9
 z9:=Tryd.sizeOf9
 v9:=Tryd.zeroValue9
 t20:=Tryd.underlying20
 a20:=Tryd.isAgg20
 z20:=Tryd.sizeOf20
 v20:=Tryd.zeroValue20
 t37:=Tryd.underlying44
 a37:=Tryd.isAgg44
 z37:=Tryd.sizeOf44
 v37:=Tryd.zeroValue44
 t46:=Tryd.underlying139
 a46:=Tryd.isAgg139
 z46:=Tryd.sizeOf139
 v46:=Tryd.zeroValue139
 t51:=Tryd.underlying137
 a51:=Tryd.isAgg137
 z51:=Tryd.sizeOf137
 v51:=Tryd.zeroValue137
 t53:=Tryd.underlying128
 a53:=Tryd.isAgg128
 z53:=Tryd.sizeOf128
 v53:=Tryd.zeroValue128
 t171:=Tryd.underlying127
 a171:=Tryd.isAgg127
 z171:=Tryd.sizeOf127
 v171:=Tryd.zeroValue127
 t173:=Tryd.underlying131
 a173:=Tryd.isAgg131
 z173:=Tryd.sizeOf131
 v173:=Tryd.zeroValue131
 t212:=Tryd.underlying136
 a212:=Tryd.isAgg136
 z212:=Tryd.sizeOf136
 v212:=Tryd.zeroValue136
 t213:=Tryd.underlying138
 a213:=Tryd.isAgg138
 z213:=Tryd.sizeOf138
 t232:=Tryd.underlying160
 a232:=Tryd.isAgg160
 z232:=Tryd.sizeOf160
 v232:=Tryd.zeroValue160
 t233:=Tryd.underlying161
 a233:=Tryd.isAgg161
 z233:=Tryd.sizeOf161
 v233:=Tryd.zeroValue161
 g17:=by kernel_rfl
 g18:=by kernel_rfl
 g19:=by kernel_rfl
 i0:=by kernel_rfl
 i2:=by kernel_rfl
 i3:=by kernel_rfl
 i4:=by kernel_rfl
 i5:=by kernel_rfl
 i9:=by kernel_rfl
 i20:=by kernel_rfl
 i37:=by kernel_rfl
 i46:=by kernel_rfl
 i51:=by kernel_rfl
 i53:=by kernel_rfl
 i171:=by kernel_rfl
 i173:=by kernel_rfl
 i212:=by kernel_rfl
 i232:=by kernel_rfl
 i233:=by kernel_rfl
 m17:=by kernel_rfl
 m18:=by kernel_rfl
 m19:=by kernel_rfl }
theorem Tryd.ccX:Builder.X72 Tryd.prog Tryd.ccL_ren:={ sizeBuilder:=by kernel_rfl,liesBuilder:=by kernel_rfl }
theorem Tryd.bsX:Builder.Extra Tryd.prog Tryd.bsL_ren:={
 sizeBuilder:=by kernel_rfl
 liesBuilder:=by kernel_rfl
 t5:=Tryd.underlying5
 a5:=Tryd.isAgg5
 z5:=Tryd.sizeOf5
 v5:=Tryd.zeroValue5
 infoByte:=by kernel_rfl
 cellsByte:=by kernel_rfl
 sizeByte:=by kernel_rfl
 neB5:=by decide }
end Go.Proofs
set_option maxRecDepth 100000
namespace Go.Abs
open Go Go.Proofs
def kmF:Ctr:=⟨ "",[],[],λ_=>none,[],[]⟩
theorem klp {g:FuncId}:Good Tryd.prog g kmF:=good_dm
def khd:Ctr:=⟨ "",[(.w (.sl tSub))],[.b],λx=>kcZ x,[],[]⟩
theorem kjo:Good Tryd.prog 5 khd:=
 kaw Tryd.func5 (by kernel_rfl) (An:=[(0,⟨⟨[(3,.c Ti)],[]⟩,⟨[],[]⟩,[1],[0],1,true,""⟩)]) [] (.nil) (λx=>by kernel_rfl)
def kgt:Ctr:=⟨ "",[Ti,(.pt Ti),(.pt Ti)],[.b],λx=>kdy x.1 x.2.1 x.2.2,[],[]⟩
theorem kin:Good Tryd.prog 46 kgt:=
 kaw Tryd.func46 (by kernel_rfl) (An:=[]) [] (.nil) (λx=>by kernel_rfl)
def kcc:Ctr:=⟨ "",[(.sl Ti),(.fn 1 Ti .b)],[Ti],λx=>kbq x.1 x.2,[],[]⟩
theorem kds:Good Tryd.prog 66 kcc:=
 kaw Tryd.func66 (by kernel_rfl) (An:=[(0,⟨⟨[(8,.c Ti)],[]⟩,⟨[],[]⟩,[7,1,0],[],0,true,""⟩)]) [] (.nil) (λx=>by kernel_rfl)
def kbM:Ctr:=⟨ "",[(.sl Ti),(.fn 1 Ti .b)],[.b],λx=>kaO x.1 x.2,[],[]⟩
theorem kcO:Good Tryd.prog 45 kbM:=
 kaw Tryd.func45 (by kernel_rfl) (An:=[]) [(66,kcc)] (.cons kds <| .nil) (λx=>by kernel_rfl)
def kei:Ctr:=⟨ "",[Ti,Ti,(.sl Ti)],[.b],λx=>kbA x.1 x.2.1 x.2.2,[],[]⟩
theorem kdL:Good Tryd.prog 21 kei:=
 kaw Tryd.func21 (by kernel_rfl) (An:=[]) [(45,kbM),(46,kgt)] (.cons kcO <| .cons kin <| .nil) (λx=>by kernel_rfl)
def kgV:Ctr:=⟨ "",[.s],[.b],λx=>ked x,[],[]⟩
theorem kiM:Good Tryd.prog 22 kgV:=
 kaw Tryd.func22 (by kernel_rfl) (An:=[(0,⟨⟨[(6,.ptr 0 0)],[(0,.si)]⟩,⟨[],[]⟩,[0],[],1,true,""⟩),(18,⟨⟨[],[]⟩,⟨[(11,.c .b)],[]⟩,[4,6,3],[0],1,false,""⟩)]) [(21,kei)] (.cons kdL <| .nil) (λx=>by kernel_rfl)
def kiJ:Ctr:=⟨ "",[(.pr Ti (.pr Ti Ti))],[.b],λx=>kfI x,[],[]⟩
theorem kkp:Good Tryd.prog 23 kiJ:=
 kaw Tryd.func23 (by kernel_rfl) (An:=[]) [(21,kei)] (.cons kdL <| .nil) (λx=>by kernel_rfl)
def kfp:Ctr:=⟨ "",[(.w (.sl tSub))],[Ti],λx=>kdF x,[],[]⟩
theorem kfD:Good Tryd.prog 8 kfp:=
 kaw Tryd.func8 (by kernel_rfl) (An:=[(0,⟨⟨[(20,.c Ti),(3,.mp 2)],[(2,.mp .s .b)]⟩,⟨[],[]⟩,[19,18,1],[0],3,true,""⟩),(8,⟨⟨[(47,.c Ti)],[]⟩,⟨[],[]⟩,[46,45,4,20,3],[2],5,true,""⟩),(58,⟨⟨[],[]⟩,⟨[(9,.c .b)],[]⟩,[7,8,47],[5,6],7,false,""⟩)]) [(23,kiJ),(22,kgV),(21,kei)] (.cons kkp <| .cons kiM <| .cons kdL <| .nil) (λx=>by kernel_rfl)
def kdZ:Ctr:=⟨ "",[Ti],[.s],λx=>strconv_Itoa x,[],[]⟩
theorem keI:Good Tryd.prog 17 kdZ:=kqv (λx w h=>Any.strconv_Itoa Tryd.itL x h.1 h.2 w) (g:=0) (by kernel_rfl) rfl ⟨Tryd.f17,Tryd.func17,by kernel_rfl,by kernel_rfl⟩
def strings_Builder_String_m0_M:CtrM:=⟨ "",[none],⟨[(0,.ptr 0 0)],[(0,.bx 46 [.np 0,.mw 1]),(1,.sl 5 (.i .u8))]⟩,2,⟨[(1000000,.c .s)],[]⟩,2,1,λx=>kby x,false⟩
theorem kdA:strings_Builder_String_m0_M.ok=true/\GoodM Tryd.prog 18 strings_Builder_String_m0_M:=krT Tryd.bsL Tryd.bsX rfl rfl rfl ⟨Tryd.f18,Tryd.func18,by kernel_rfl,by kernel_rfl⟩
def kcE:Ctr:=⟨ "",[],[],λ_=>none,[strings_Builder_String_m0_M],[]⟩
theorem kep:Good Tryd.prog 18 kcE:=good_dm.more kdA
def strings_Builder_copyCheck_m0_M:CtrM:=⟨ "",[none],⟨[(0,.ptr 0 0)],[(0,.bx 46 [.np 0,.mw 1]),(1,.sl 5 (.i .u8))]⟩,2,⟨[(0,.ptr 0 0)],[(0,.bx 46 [.np 0,.mw 1]),(1,.sl 5 (.i .u8))]⟩,2,0,λx=>kbk x,false⟩
theorem kcP:strings_Builder_copyCheck_m0_M.ok=true/\GoodM Tryd.prog 39 strings_Builder_copyCheck_m0_M:=ksf Tryd.ccL Tryd.ccX rfl rfl ⟨Tryd.f39,Tryd.func39,by kernel_rfl,by kernel_rfl⟩
def kce:Ctr:=⟨ "",[],[],λ_=>none,[strings_Builder_copyCheck_m0_M],[]⟩
theorem kdv:Good Tryd.prog 39 kce:=good_dm.more kcP
def strings_Builder_WriteString_m0_M:CtrM:=⟨ "",[none,some .s],⟨[(0,.ptr 0 0)],[(0,.bx 46 [.np 0,.mw 1]),(1,.sl 5 (.i .u8))]⟩,2,⟨[(0,.ptr 0 0),(1000000,.c Ti),(1000001,.sc (.nilIface))],[(0,.bx 46 [.np 0,.mw 2]),(2,.sl 5 (.i .u8))]⟩,3,2,λx=>kak x.1 x.2,false⟩
theorem kcJ:strings_Builder_WriteString_m0_M.ok=true/\GoodM Tryd.prog 16 strings_Builder_WriteString_m0_M:=
 knu Tryd.func16 (by kernel_rfl) (An:=[]) [(39,kce)] (.cons kdv <| .nil) (λx=>by kernel_rfl)
theorem strings_Builder_WriteString_C_ok:Good Tryd.prog 16 kmF:=good_dm
def kbe:Ctr:=⟨ "",kmF.asZ,kmF.rs,kmF.F,strings_Builder_WriteString_m0_M::kmF.mus,kmF.its⟩
theorem kbD:Good Tryd.prog 16 kbe:=(strings_Builder_WriteString_C_ok.more kcJ)
def text_Write_c1_m0_M:CtrM:=⟨ "",[none,none],⟨[(0,.mw 0),(1,.ptr 1 0)],[(0,.sl 3 Ti),(1,.bx 46 [.np 1,.mw 2]),(2,.sl 5 (.i .u8))]⟩,3,⟨[(0,.mw 0),(1,.ptr 1 0)],[(0,.sl 3 Ti),(1,.bx 46 [.np 1,.mw 3]),(3,.sl 5 (.i .u8))]⟩,4,0,λx=>kcn x.1 x.2,false⟩
theorem kgv:text_Write_c1_m0_M.ok=true/\GoodM Tryd.prog 15 text_Write_c1_m0_M:=
 knu Tryd.func15 (by kernel_rfl) (An:=[(0,⟨⟨[(7,.c Ti)],[(1,.bx 46 [.np 1,.mw 2]),(2,.sl 5 (.i .u8))]⟩,⟨[],[(1,.bx 46 [.np 1,.mw 4]),(4,.sl 5 (.i .u8))]⟩,[6,5],[0],5,false,""⟩)]) [(16,kbe),(17,kdZ)] (.cons kbD <| .cons keI <| .nil) (λx=>by kernel_rfl)
theorem text_Write_c1_C_ok:Good Tryd.prog 15 kmF:=good_dm
def kfk:Ctr:=⟨ "",kmF.asZ,kmF.rs,kmF.F,text_Write_c1_m0_M::kmF.mus,kmF.its⟩
theorem khh:Good Tryd.prog 15 kfk:=(text_Write_c1_C_ok.more kgv)
def khi:Ctr:=⟨ "",[(.w (.sl tSub))],[.s,Ti],λx=>keR x,[],[]⟩
theorem kkn:Good Tryd.prog 6 khi:=
 kaw Tryd.func6 (by kernel_rfl) (An:=[(0,⟨⟨[(21,.c Ti),(5,.ptr 2 0),(6,.fn 15 [.ptr 2 0])],[(2,.bx 46 [.np 2,.mw 1]),(1,.sl 5 (.i .u8))]⟩,⟨[(5,.ptr 3 0)],[(3,.bx 46 [.np 3,.mw 4]),(4,.sl 5 (.i .u8))]⟩,[20,19,1],[0],5,false,""⟩),(8,⟨⟨[(33,.c Ti),(5,.ptr 2 0),(6,.fn 15 [.ptr 2 0])],[(2,.bx 46 [.np 2,.mw 5]),(5,.sl 5 (.i .u8))]⟩,⟨[(5,.ptr 6 0),(6,.fn 15 [.ptr 6 0])],[(6,.bx 46 [.np 6,.mw 7]),(7,.sl 5 (.i .u8))]⟩,[32,31,21],[],8,false,""⟩),(165,⟨⟨[(5,.ptr 2 0),(6,.fn 15 [.ptr 2 0])],[(2,.bx 46 [.np 2,.mw 5]),(5,.sl 5 (.i .u8))]⟩,⟨[(6,.fn 15 [.ptr 8 0]),(5,.ptr 8 0)],[(8,.bx 46 [.np 8,.mw 9]),(9,.sl 5 (.i .u8))]⟩,[11,33,10],[7,6],10,false,""⟩)]) [(3000005,kmF),(15,kfk),(16,kbe),(18,kcE),(17,kdZ),(8,kfp)] (.cons klp <| .cons khh <| .cons kbD <| .cons kep <| .cons keI <| .cons kfD <| .nil) (λx=>by kernel_rfl)
def kic:Ctr:=⟨ "",[.s],[.b],λx=>keL x,[],[]⟩
theorem kkd:Good Tryd.prog 41 kic:=
 kaw Tryd.func41 (by kernel_rfl) (An:=[(0,⟨⟨[(3,.c Ti)],[]⟩,⟨[],[]⟩,[0],[],0,true,""⟩),(18,⟨⟨[],[]⟩,⟨[(4,.c .b)],[]⟩,[3],[],0,false,""⟩)]) [] (.nil) (λx=>by kernel_rfl)
def khr:Ctr:=⟨ "",[(.w (.sl tSub)),.s],[Ti],λx=>keS x.1 x.2,[],[]⟩
theorem kka:Good Tryd.prog 42 khr:=
 kaw Tryd.func42 (by kernel_rfl) (An:=[(0,⟨⟨[(5,.c Ti)],[]⟩,⟨[],[]⟩,[2,1],[0],1,true,""⟩)]) [] (.nil) (λx=>by kernel_rfl)
def kdP:Ctr:=⟨ "",[Ti,Ti,Ti],[.b],λx=>kbm x.1 x.2.1 x.2.2,[],[]⟩
theorem keG:Good Tryd.prog 64 kdP:=
 kaw Tryd.func64 (by kernel_rfl) (An:=[]) [] (.nil) (λx=>by kernel_rfl)
def kfL:Ctr:=⟨ "",[(.pr Ti (.pr Ti Ti))],[.b],λx=>keC x,[],[]⟩
theorem khL:Good Tryd.prog 63 kfL:=
 kaw Tryd.func63 (by kernel_rfl) (An:=[]) [(64,kdP)] (.cons keG <| .nil) (λx=>by kernel_rfl)
def khx:Ctr:=⟨ "",[(.w (.sl tSub)),Ti,tLine],[.b],λx=>keT x.1 x.2.1 x.2.2,[],[]⟩
theorem kjv:Good Tryd.prog 43 khx:=
 kaw Tryd.func43 (by kernel_rfl) (An:=[]) [(63,kfL),(64,kdP)] (.cons khL <| .cons keG <| .nil) (λx=>by kernel_rfl)
def keF:Ctr:=⟨ "",[(.w (.sl tSub))],[.b],λx=>kcS x,[],[]⟩
theorem kfe:Good Tryd.prog 19 keF:=
 kaw Tryd.func19 (by kernel_rfl) (An:=[(0,⟨⟨[(3,.c Ti)],[]⟩,⟨[],[]⟩,[1],[0],1,true,""⟩),(8,⟨⟨[(5,.c Ti)],[]⟩,⟨[],[]⟩,[4,3],[2],3,true,""⟩)]) [(43,khx),(42,khr),(41,kic)] (.cons kjv <| .cons kka <| .cons kkd <| .nil) (λx=>by kernel_rfl)
def kfv (k:Nat):Ctr:=⟨ "",[(.i .i64)],[.s],λx=>kbp k x,[],[]⟩
theorem keH:∀ k,Good Tryd.prog 65 (kfv k)
 | 0=>kqD (by kernel_rfl) (λx=>rfl) rfl rfl
 | k+1=>kaw Tryd.func65 (by kernel_rfl) (An:=[]) ((65,kfv k)::[(8000014,kmF)]) (.cons (keH k) <| .cons klp <| .nil) (λx=>by kernel_rfl)
def kfG:Ctr:=⟨ "",[Ti],[.s],λx=>kdc x,[],[]⟩
theorem khq:Good Tryd.prog 65 kfG:=keH 1000000
def kfM:Ctr:=⟨ "",[(.sl Ti)],[.s],λx=>kcs x,[],[]⟩
theorem khK:Good Tryd.prog 44 kfM:=
 kaw Tryd.func44 (by kernel_rfl) (An:=[(0,⟨⟨[(4,.c Ti),(3,.c .s)],[]⟩,⟨[(3,.c .s)],[]⟩,[0],[],0,false,""⟩)]) [(65,kfG)] (.cons khq <| .nil) (λx=>by kernel_rfl)
def kfQ:Ctr:=⟨ "",[(.w (.sl tSub))],[.s],λx=>kdg x,[],[]⟩
theorem khn:Good Tryd.prog 20 kfQ:=
 kaw Tryd.func20 (by kernel_rfl) (An:=[(0,⟨⟨[(4,.c Ti),(3,.c .s)],[]⟩,⟨[(3,.c .s)],[]⟩,[1],[0],1,false,""⟩),(8,⟨⟨[(5,.c Ti),(3,.c .s)],[]⟩,⟨[(3,.c .s)],[]⟩,[4],[],1,false,""⟩)]) [(44,kfM)] (.cons khK <| .nil) (λx=>by kernel_rfl)
def khe:Ctr:=⟨ "",[(.w (.sl tSub))],[.s,Ti],λx=>kek x,[],[]⟩
theorem kiS:Good Tryd.prog 7 khe:=
 kaw Tryd.func7 (by kernel_rfl) (An:=[]) [(20,kfQ),(19,keF)] (.cons khn <| .cons kfe <| .nil) (λx=>by kernel_rfl)
def khb:Ctr:=⟨ "",[(.w (.sl tSub))],[Ti],λx=>kec x,[],[]⟩
theorem kjp:Good Tryd.prog 9 khb:=
 kaw Tryd.func9 (by kernel_rfl) (An:=[]) [(19,keF)] (.cons kfe <| .nil) (λx=>by kernel_rfl)
def kaH:Ctr:=⟨ "",[(.sl tSub),(.sl tSub),(.fn 2 (.pr tSub tSub) .b)],[.b],λx=>kat x.1 x.2.1 x.2.2,[],[]⟩
theorem kbi:Good Tryd.prog 24 kaH:=
 kaw Tryd.func24 (by kernel_rfl) (An:=[(0,⟨⟨[(17,.c Ti)],[]⟩,⟨[],[]⟩,[16,15,1,2],[],0,true,""⟩)]) [] (.nil) (λx=>by kernel_rfl)
def kbv:Ctr:=⟨ "",[(.sl tLine),(.sl tLine)],[.b],λx=>kaI x.1 x.2,[],[]⟩
theorem kcx:Good Tryd.prog 26 kbv:=
 kaw Tryd.func26 (by kernel_rfl) (An:=[(0,⟨⟨[(13,.c Ti)],[]⟩,⟨[],[]⟩,[12,0,1],[],0,true,""⟩)]) [] (.nil) (λx=>by kernel_rfl)
def kgo:Ctr:=⟨ "",[tSub,tSub],[.b],λx=>kdC x.1 x.2,[],[]⟩
theorem kip:Good Tryd.prog 25 kgo:=
 kaw Tryd.func25 (by kernel_rfl) (An:=[]) [(26,kbv)] (.cons kcx <| .nil) (λx=>by kernel_rfl)
def kiy:Ctr:=⟨ "",[(.w (.sl tSub)),(.w (.sl tSub))],[.b],λx=>kel x.1 x.2,[],[]⟩
theorem kkL:Good Tryd.prog 10 kiy:=
 kaw Tryd.func10 (by kernel_rfl) (An:=[]) [(25,kgo),(24,kaH)] (.cons kip <| .cons kbi <| .nil) (λx=>by kernel_rfl)
def khm:Ctr:=⟨ "",[(.w (.sl tSub)),(.w (.sl tSub))],[.b],λx=>keM x.1 x.2,[],[]⟩
theorem kjZ:Good Tryd.prog 11 khm:=
 kaw Tryd.func11 (by kernel_rfl) (An:=[(0,⟨⟨[(5,.c Ti)],[]⟩,⟨[],[]⟩,[2,3],[0,1],2,true,""⟩),(26,⟨⟨[],[]⟩,⟨[(6,.ptr 2 0),(7,.ptr 3 0)],[(2,.bx 42 [.c .s,.c (.sl tLine)]),(3,.bx 42 [.c .s,.c (.sl tLine)])]⟩,[5],[],4,false,""⟩),(8,⟨⟨[(8,.c Ti)],[]⟩,⟨[],[]⟩,[6,7,5],[2,3],4,true,""⟩)]) [] (.nil) (λx=>by kernel_rfl)
def khv:Ctr:=⟨ "",[(.w (.sl tSub))],[(.w (.sl tSub))],λx=>keO x,[],[]⟩
theorem kjC:Good Tryd.prog 12 khv:=
 kaw Tryd.func12 (by kernel_rfl) (An:=[(0,⟨⟨[(4,.c Ti),(3,.ptr 4 0)],[(4,.bx 24 [.mw 3]),(3,.sl 42 tSub)]⟩,⟨[(3,.ptr 5 0)],[(5,.bx 24 [.mw 6]),(6,.sl 42 tSub)]⟩,[1,2],[0,2,1],7,false,""⟩)]) [] (.nil) (λx=>by kernel_rfl)
def kjj:Ctr:=⟨ "",[(.w (.sl tSub)),(.w (.sl tSub))],[.b],λx=>kdX x.1 x.2,[],[]⟩
theorem law02_TextDocs_C_ok:Good Tryd.prog 3 kjj:=
 kaw Tryd.func3 (by kernel_rfl) (An:=[]) [(12,khv),(11,khm),(10,kiy),(9,khb),(7,khe),(6,khi),(8,kfp),(5,khd)] (.cons kjC <| .cons kjZ <| .cons kkL <| .cons kjp <| .cons kiS <| .cons kkn <| .cons kfD <| .cons kjo <| .nil) (λx=>by kernel_rfl)
end Go.Abs
namespace Go.Abs
open Go
theorem kjd {σ τ:Type} {F:σ->Yb (σ⊕(τ⊕Unit))} (b:τ) (e:Nat->σ) (m:Nat) (g:m<18446744073709551616) (p:Nat->Bool)
  (f:∀ i,i<m->F (e i)=some (if p i=true then .inr (.inl b) else .inl (e (i+1)))) (h2:F (e m)=some (.inr (.inr ()))) :
  iter F (e 0)=some (if ((List.range m).any p)=true then .inl b else .inr ()):=by
 have:∀ k i:Nat,i+k=m->itN F (k+1) (e i)=some (if ((List.range' i k).any p)=true then .inl b else .inr ()):=by
  intro k;induction k with
  | zero=>
   intro i h;have:i=m:=by omega
   subst this;rw [kfC h2]; rfl
  | succ k c=>
   intro i h;rw [List.range'_succ,List.any_cons];have a:=f i (by omega);cases hp:p i with
   | true=>rw [hp] at a; rw [kfC a]; simp
   | false=>rw [hp] at a; rw [knD a,c (i+1) (by omega),jdl]
 have:=klb (this m 0 (by omega)) (by omega);rw [this,List.range_eq_range']
theorem keA {m:Nat} {p:Nat->Bool}:(List.range m).all p=true↔∀ i,i<m->p i=true:=by simp
theorem keE {m:Nat} {p:Nat->Bool}:((List.range m).any λi=>!p i) = !(List.range m).all p:=kpa p _
theorem kmi (l:Ya Int) (hl:l.length<=1000) (p:Int->Bool):kaO l (λx=>some (p x))=some (l.any p):=by
 unfold kaO kbq;rw [kkk (F:=kaP l _) l (by omega) (λi x=>if p x then some (i:Int) else none) (λi a=>by
  unfold kaP;rw [if_pos (by rw [kaJ]; simpa using a),kaB a,kay (by omega)];simp only [jaf];by_cases h:p l[i]=true <;> simp [h,nextL]) (by unfold kaP; rw [if_neg (by simp [kaJ])])]
 have:∀ (l:Ya Int) (k:Nat),endL ((l.zipIdx k).findSome? λx=>if p x.1 then some (x.2:Int) else none)=(if l.any p then .inl ((k:Int)+(l.findIdx p:Nat)) else .inr ()):=by
  intro l;induction l with
  | nil=>intro k; rfl
  | cons x l b=>
   intro k;rw [jch,List.findSome?_cons,List.any_cons,List.findIdx_cons];cases hp:p x with
   | true=>simp [endL]
   | false=>
    simp only [jal,if_false,jdl,cond_false];rw [b (k+1)];congr 2; push_cast; omega
 rw [this l 0];by_cases h:l.any p=true <;> simp [h]
theorem kkT (a b:Int) (l:Ya Int) (hl:l.length<=1000):kbA a b l=some (l.all (wi a b)):=by
 unfold kbA;have e:(λf:Int=>(kdy f a b).bind λg=>some g)=λu=>some (!wi a b u):=by
  funext u;unfold kdy wi;by_cases c:u<a
  ·simp [c];try omega
  ·by_cases h2:b<u <;> simp [c,h2] <;> omega
 rw [e,kmi l hl,kpa];simp
theorem kqf (n a b:Int):kbm n a b=some (wi a b n):=by
 unfold kbm wi;by_cases h:a<=n <;> simp [h]
def chOk (i:Nat) (c:Int):Bool:=wi 97 122 c||(decide (i≠0)&&(c==45||wi 48 57 c))
def kcX (s:Ya UInt8):Bool:=((List.range s.length).all λi=>chOk i (((s[i]?).getD 0).toNat:Int))&&wi 1 12 (s.length:Int)
theorem krM {s:Ya UInt8} {i:Nat} (h:i<s.length):gstr s (i:Int)=some (s[i].toNat:Int):=by
 unfold gstr; rw [kaB h]; rfl
theorem kqz (s:Ya UInt8) (l:s.length<=1000) (i:Nat) (b:i<s.length):kbN s (i:Int)=some (if (!chOk i (((s[i]?).getD 0).toNat:Int))=true then .inr (.inl false) else .inl ((i+1:Nat):Int)):=by
 unfold kbN;obtain ⟨c,a⟩:∃ c:Int,c=(s[i].toNat:Int):=⟨_,rfl⟩;have e:gstr s (i:Int)=some c:=by rw [a]; exact krM b
 have hr:(((s[i]?).getD 0).toNat:Int)=c:=by rw [a,jad b]; rfl
 rw [if_pos (lenI_lt.2 b),e,hr];simp only [jaf];clear a e hr;unfold chOk wi;rw [kay (by omega)];by_cases h:(97:Int)<=c <;> by_cases h2:c<=122 <;> by_cases k:i=0 <;> by_cases g:c=45 <;> by_cases j:c<48 <;> by_cases f:(57:Int)<c <;> simp [h,h2,k,g,j,f] <;> omega
theorem krb (s:Ya UInt8):kbN s (s.length:Int)=some (.inr (.inr ())):=by
 unfold kbN;rw [if_neg kaC]
theorem ksd (s:Ya UInt8) (b:s.length<=1000):keL s=some (kcX s):=by
 unfold keL;rw [show (0:Int)=((0:Nat):Int) from rfl,kjd (F:=kbN s) false (λi=>(i:Int)) s.length (by omega) (λi=>!chOk i (((s[i]?).getD 0).toNat:Int)) (kqz s b) (krb s)];rw [keE];unfold kcX;by_cases h:((List.range s.length).all λi=>chOk i (((s[i]?).getD 0).toNat:Int))=true
 ·simp only [h,jdy,jal,if_false,jaf,Bool.true_and];unfold wi;rw [kaJ];by_cases a:(1:Int)<=(s.length:Int) <;> simp [a]
 ·rw [jcl] at h;simp [h]
theorem kot (s:Ya UInt8) (A:s.length<=1000) (i:Nat) (h:i<s.length):kbG (s,(i:Int))=some (if (!chOk i (((s[i]?).getD 0).toNat:Int))=true then .inr (.inl false) else .inl (s,((i+1:Nat):Int))):=by
 unfold kbG;simp only;obtain ⟨c,j⟩:∃ c:Int,c=(s[i].toNat:Int):=⟨_,rfl⟩;have hr:(((s[i]?).getD 0).toNat:Int)=c:=by rw [j,jad h]; rfl
 rw [if_pos (lenI_lt.2 h),hr];have a:i<(⟨s.toArray⟩:ByteArray).size:=by simpa [ByteArray.size] using h
 have f:(⟨s.toArray⟩:ByteArray)[i]'a=s[i]:=by simp [ByteArray.getElem_eq_getElem_data]
 by_cases y:s[i].toNat<128
 ·have b:=Go.decode_ascii ⟨s.toArray⟩ i a (by rw [f]; exact y);have e:runeV (s,(i:Int))=c:=by rw [j]; unfold runeV; simp only [jdv]; rw [b,f]
  have k:runeN (s,(i:Int))=(s,((i+1:Nat):Int)):=by unfold runeN; simp only [jdv]; rw [b]
  rw [e,k];clear e k b j hr;unfold chOk wi;by_cases n:(97:Int)<=c <;> by_cases h2:c<=122 <;> by_cases g:i=0 <;> by_cases m:c=45 <;> by_cases o:c<48 <;> by_cases u:(57:Int)<c <;> simp [n,h2,g,m,o,u] <;> omega
 ·have b:=Go.decode_high ⟨s.toArray⟩ i a (by rw [f]; omega);have e:(128:Int)<=runeV (s,(i:Int)):=by unfold runeV; simp only [jdv]; omega
  obtain ⟨v,x⟩:∃ v:Int,v=runeV (s,(i:Int)):=⟨_,rfl⟩;rw [<-x] at e ⊢;have B:(128:Int)<=c:=by omega
  unfold chOk wi;have t:(97:Int)<=v:=by omega
  have l:¬ v<=122:=by omega
  have z:¬ v=45:=by omega
  have r:¬ v<48:=by omega
  have w:(57:Int)<v:=by omega
  have k1:(97:Int)<=c:=by omega
  have k2:¬ c<=122:=by omega
  have k3:¬ c=45:=by omega
  have p:¬ c<=57:=by omega
  by_cases g:i=0 <;> simp [t,l,z,r,w,k1,k2,k3,p,g]
theorem kpI (s:Ya UInt8):kbG (s,(s.length:Int))=some (.inr (.inr ())):=by
 unfold kbG;simp only;rw [if_neg kaC]
theorem kql (s:Ya UInt8) (a:s.length<=1000):ked s=some (kcX s):=by
 unfold ked;rw [show ((s,0):Ya UInt8×Int)=(λi:Nat=>(s,(i:Int))) 0 from rfl,kjd (F:=kbG) false (λi:Nat=>(s,(i:Int))) s.length (by omega) (λi=>!chOk i (((s[i]?).getD 0).toNat:Int)) (kot s a) (kpI s)];rw [keE];unfold kcX;by_cases h:((List.range s.length).all λi=>chOk i (((s[i]?).getD 0).toNat:Int))=true
 ·simp only [h,jdy,jal,if_false,jaf,Bool.true_and];rw [kkT _ _ _ (by simp),kaJ];simp
 ·rw [jcl] at h;simp [h]
theorem iter_any' {σ τ:Type} {F:σ->Yb (σ⊕(τ⊕Unit))} (b:τ) (e:Nat->σ) (m:Nat) (a:m<18446744073709551616) (p:Nat->Bool)
  (c:∀ i,i<m->F (e i)=some (if p i=true then .inl (e (i+1)) else .inr (.inl b))) (h2:F (e m)=some (.inr (.inr ()))) :
  iter F (e 0)=some (if ((List.range m).all p)=true then .inr () else .inl b):=by
 rw [kjd b e m a (λi=>!p i) (λi f=>by rw [c i f]; cases p i <;> rfl) h2,keE];cases (List.range m).all p <;> rfl
theorem kea {α:Type} (q:α->Bool) (l:Ya α):((List.range l.length).all λi=>(l[i]?).all q)=l.all q:=by
 rw [Bool.eq_iff_iff,keA,jam];constructor
 ·intro h x b;obtain ⟨i,a,rfl⟩:=jce.1 b;have:=h i a;rw [jad a] at this;simpa using this
 ·intro h i a;rw [jad a];simpa using h _ (jbz a)
def okRow (n i:Nat) (x:Line):Bool:=
 (if x.1 = -1 then wi 0 15 x.2.1 else wi ((i:Int)+1) ((n:Int)-1) x.1&&x.2.1==0)&&[x.2.2.1.1,x.2.2.1.2.1,x.2.2.1.2.2].all (wi (-1000) 1000)&&decide (x.2.2.2.1<=23)&&decide (x.2.2.2.2<=15)
theorem ksj (d:Ya Sub) (g:d.length<=100) (i:Nat) (h:i<=100) (x:Line):keT d (i:Int) x=some (okRow d.length i x):=by
 unfold keT keC;simp only [kqf,jaf,kaJ];rw [kay (by omega),keu (by omega) (by omega),show (((i+1:Nat):Int))=(i:Int)+1 by omega];unfold okRow;simp only [jdi,List.all_nil,Bool.and_true];cases wi (-1000) 1000 x.2.2.1.1
 ·simp
 cases wi (-1000) 1000 x.2.2.1.2.1
 ·simp
 cases wi (-1000) 1000 x.2.2.1.2.2
 ·simp
 by_cases c:(23:Int)<x.2.2.2.1
 ·have:¬ x.2.2.2.1<=23:=by omega
  simp [c,this]
 by_cases h2:(15:Int)<x.2.2.2.2
 ·have:¬ x.2.2.2.2<=15:=by omega
  simp [c,h2,this]
 have b:x.2.2.2.1<=23:=by omega
 have a:x.2.2.2.2<=15:=by omega
 by_cases e:x.1 = -1
 ·simp [c,h2,b,a,e]
 ·cases f:wi ((i:Int)+1) ((d.length:Int)-1) x.1 <;> simp [c,h2,b,a,e,f]
theorem kry (c:Int×Int×Int):kfI c=some ([c.1,c.2.1,c.2.2].all (wi (-1000) 1000)):=by
 unfold kfI;rw [kkT _ _ _ (by simp)]; rfl
theorem from1 (a b n:Int):kbA a b [n]=some (wi a b n):=by rw [kkT a b [n] (by simp)]; simp
theorem klV (d:Ya Sub) (n:d.length<=100) (i:Nat) (p:i<=100) (m:Ya (Ya UInt8×Bool)) (s:Sub) (o:s.2.length<=100) (k:Nat) (f:k<s.2.length) :
  kbQ d ((i:Int),m) s (k:Int)=some (if okRow d.length i s.2[k]=true then .inl ((k+1:Nat):Int) else .inr (.inl 8)):=by
 unfold kbQ;rw [if_pos (lenI_lt.2 f),kaB f];simp only [jaf,from1,kry,kaJ];rw [kay (show i<_ by omega),kay (show k<_ by omega),keu (by omega) (by omega),show (((i+1:Nat):Int))=(i:Int)+1 by omega];obtain ⟨x,h⟩:∃ x,x=s.2[k]:=⟨_,rfl⟩;rw [<-h];clear h;unfold okRow;by_cases a:x.1 = -1
 ·have g:wi ((i:Int)+1) ((d.length:Int)-1) x.1=false:=by rw [a]; unfold wi; simp; omega
  rw [a] at g;cases j:wi 0 15 x.2.1
  ·simp [g,a]
  cases l:([x.2.2.1.1,x.2.2.1.2.1,x.2.2.1.2.2].all (wi (-1000) 1000))
  ·simp [a]
  by_cases b:(24:Int)<=x.2.2.2.1
  ·have:¬ x.2.2.2.1<=23:=by omega
   simp [b,this,a]
  by_cases h2:(15:Int)<x.2.2.2.2
  ·have:¬ x.2.2.2.2<=15:=by omega
   simp [b,h2,this,a]
  have e:x.2.2.2.1<=23:=by omega
  have c:x.2.2.2.2<=15:=by omega
  simp [b,h2,e,c,a]
 ·cases j:wi ((i:Int)+1) ((d.length:Int)-1) x.1
  ·simp [a]
  cases r:(x.2.1==0)
  ·simp [a]
  cases l:([x.2.2.1.1,x.2.2.1.2.1,x.2.2.1.2.2].all (wi (-1000) 1000))
  ·simp [a]
  by_cases b:(24:Int)<=x.2.2.2.1
  ·have:¬ x.2.2.2.1<=23:=by omega
   simp [b,this,a]
  by_cases h2:(15:Int)<x.2.2.2.2
  ·have:¬ x.2.2.2.2<=15:=by omega
   simp [b,h2,this,a]
  have e:x.2.2.2.1<=23:=by omega
  have c:x.2.2.2.2<=15:=by omega
  simp [b,h2,e,c,a]
theorem koD (d:Ya Sub) (b:d.length<=100) (i:Nat) (e:i<=100) (m:Ya (Ya UInt8×Bool)) (s:Sub) (c:s.2.length<=100) :
  iter (kbQ d ((i:Int),m) s) 0=some (if s.2.all (okRow d.length i)=true then .inr () else .inl 8):=by
 rw [show (0:Int)=((0:Nat):Int) from rfl,iter_any' (F:=kbQ d ((i:Int),m) s) 8 (λk=>(k:Int)) s.2.length (by omega) (λk=>(s.2[k]?).all (okRow d.length i)) (λk a=>by rw [klV d b i e m s c k a,jad a]; rfl) (by unfold kbQ; rw [if_neg kaC]),kea]
theorem kkb {κ β:Type} [DecidableEq κ] (k a:κ) (v:β):∀ m:Ya (κ×β),mget (mput m k v) a=if a=k then some v else mget m a
 | []=>by simp [mput,mget]
 | p::r=>by
  unfold mput;by_cases h:k=p.1
  ·rw [if_pos h];unfold mget;simp only;by_cases h2:a=k
   ·simp [h2]
   ·rw [if_neg h2,if_neg h2,if_neg (by rw [<-h]; exact h2)]
  ·rw [if_neg h];unfold mget;rw [kkb k a v r];by_cases h2:a=p.1
   ·have:¬ a=k:=λe=>h (by rw [<-e,h2]);rw [if_pos h2,if_pos h2,if_neg this]
   ·rw [if_neg h2,if_neg h2]
def nmap (d:Ya Sub):Nat->Ya (Ya UInt8×Bool)
 | 0=>[]
 | i+1=>match d[i]? with | some s=>mput (nmap d i) s.1 true | none=>nmap d i
theorem klq (d:Ya Sub) (nm:Ya UInt8):∀ i,i<=d.length->(mget (nmap d i) nm).getD false=(d.take i).any λs=>s.1==nm
 | 0,_=>rfl
 | i+1,h=>by
  unfold nmap;rw [jad (by omega),jcz (by omega),List.any_append];simp only;rw [kkb];by_cases e:nm=d[i].1
  ·simp [e]
  ·rw [if_neg e,klq d nm i (by omega)];have:¬ d[i].1=nm:=λh=>e h.symm;simp [this]
def rowOk (d:Ya Sub) (i:Nat):Bool:=(d[i]?).all λs=>kcX s.1&&!((d.take i).any λt=>t.1==s.1)&&decide (s.2.length<=20)&&s.2.all (okRow d.length i)
def valid (d:Ya Sub):Bool:=wi 1 8 d.length&&(List.range d.length).all (rowOk d)
def Small (d:Ya Sub):Prop:=d.length<=12/\∀ s∈d,s.1.length<=100/\s.2.length<=30
theorem kmp (d:Ya Sub) (e:Small d):kdF d=some (if valid d=true then 0 else 8):=by
 have hl:=e.1;unfold kdF valid;rw [from1,kaJ];cases h:wi 1 8 (d.length:Int)
 ·simp
 simp only [jaf,jdy,jal,if_false,Bool.true_and];rw [show ((0,[]):Int×Ya (Ya UInt8×Bool))=(λi:Nat=>((i:Int),nmap d i)) 0 from rfl,iter_any' (F:=kde d) 8 (λi:Nat=>((i:Int),nmap d i)) d.length (by omega) (rowOk d) (λi c=>?_) (by unfold kde; simp only; rw [if_neg kaC])]
 ·cases (List.range d.length).all (rowOk d) <;> rfl
 ·obtain ⟨k1,k2⟩:=e.2 _ (jbz c);unfold kde;simp only;rw [if_pos (lenI_lt.2 c),kaB c];simp only [jaf];rw [kql _ (by omega),klq d _ i (by omega)];simp only [jaf,kaJ];have hr:rowOk d i=(kcX d[i].1&&!((d.take i).any λt=>t.1==d[i].1)&&decide (d[i].2.length<=20)&&d[i].2.all (okRow d.length i)):=by unfold rowOk; rw [jad c]; rfl
  have hn:nmap d (i+1)=mput (nmap d i) d[i].1 true:=by
   rw [nmap]; rw [jad c]
  rw [hr,hn];cases kcX d[i].1
  ·simp
  cases ((d.take i).any λs=>s.1==d[i].1)
  ·by_cases a:(20:Int)<((d[i].2.length:Nat):Int)
   ·have:¬ d[i].2.length<=20:=by omega
    simp [a,this]
   ·have b:d[i].2.length<=20:=by omega
    rw [koD d (by omega) i (by omega) _ _ (by omega)];rw [kay (by omega)];simp only [a,b,decide_false,decide_true,jdy,jal,if_false,Bool.not_false,Bool.true_and,Bool.and_true,jaf];cases d[i].2.all (okRow d.length i) <;> rfl
  ·simp
def findN (d:Ya Sub) (nm:Ya UInt8):Int:=if d.any (λs=>s.1==nm)=true then ((d.findIdx λs=>s.1==nm:Nat):Int) else -1
theorem krR (d:Ya Sub) (c:d.length<=100) (nm:Ya UInt8):keS d nm=some (findN d nm):=by
 unfold keS;rw [kkk (F:=kdh d nm) d (by omega) (λi x=>if (x.1==nm)=true then some (i:Int) else none) (λi a=>by
  unfold kdh;rw [if_pos (lenI_lt.2 a),kaB a,kay (by omega)];simp only [jaf];by_cases h:(d[i].1==nm)=true <;> simp [h,nextL]) (by unfold kdh; rw [if_neg kaC])]
 have:∀ (l:Ya Sub) (k:Nat),endL ((l.zipIdx k).findSome? λx=>if (x.1.1==nm)=true then some (x.2:Int) else none)=(if l.any (λs=>s.1==nm)=true then .inl ((k:Int)+(l.findIdx (λs=>s.1==nm):Nat)) else .inr ()):=by
  intro l;induction l with
  | nil=>intro k; rfl
  | cons x l b=>
   intro k;rw [jch,List.findSome?_cons,List.any_cons,List.findIdx_cons];cases hp:(x.1==nm) with
   | true=>simp [endL]
   | false=>
    simp only [jal,if_false,jdl,cond_false];rw [b (k+1)];congr 2; push_cast; omega
 rw [this d 0];unfold findN;by_cases h:d.any (λs=>s.1==nm)=true <;> simp [h]
theorem kpA (d:Ya Sub) (i:Nat) (g:i<d.length):(findN d d[i].1=(i:Int))↔((d.take i).any λt=>t.1==d[i].1)=false:=by
 have e:d.any (λs=>s.1==d[i].1)=true:=jbi.2 ⟨d[i],jbz g,by simp⟩;unfold findN;rw [if_pos e];constructor
 ·intro h;have h':d.findIdx (λs=>s.1==d[i].1)=i:=by omega
  rw [List.any_eq_false];intro t f;obtain ⟨k,c,rfl⟩:=jce.1 f;rw [jbh] at c;rw [List.getElem_take];have:=List.not_of_lt_findIdx (p:=λs:Sub=>s.1==d[i].1) (xs:=d) (i:=k) (by omega);simpa using this
 ·intro h;have b:d.findIdx (λs=>s.1==d[i].1)<=i:=Nat.le_of_not_lt λa=>by
   have:=List.not_of_lt_findIdx (p:=λs:Sub=>s.1==d[i].1) (xs:=d) (i:=i) a;simp at this
  have a:d.findIdx (λs=>s.1==d[i].1)<d.length:=by omega
  have hp:=List.findIdx_getElem (p:=λs:Sub=>s.1==d[i].1) (xs:=d) (w:=a);rcases Nat.lt_or_eq_of_le b with hl | j
  ·rw [List.any_eq_false] at h;exact absurd hp (h _ (jce.2 ⟨d.findIdx (λs=>s.1==d[i].1),by rw [jbh]; omega,by rw [List.getElem_take]⟩))
  ·omega
theorem kox (d:Ya Sub) (b:d.length<=100) (i:Nat) (c:i<=100) (s:Sub) (e:s.2.length<=100) :
  iter (kcb d (i:Int) s) 0=some (if s.2.all (okRow d.length i)=true then .inr () else .inl false):=by
 rw [show (0:Int)=((0:Nat):Int) from rfl,iter_any' (F:=kcb d (i:Int) s) false (λk=>(k:Int)) s.2.length (by omega) (λk=>(s.2[k]?).all (okRow d.length i)) (λk a=>by
  unfold kcb;rw [if_pos (lenI_lt.2 a),kaB a,jad a];simp only [jaf];rw [ksj d b i c,kay (by omega)];show _=some (if okRow d.length i s.2[k]=true then _ else _);simp only [jaf];cases okRow d.length i s.2[k] <;> rfl) (by unfold kcb; rw [if_neg kaC]),kea]
theorem kmt (d:Ya Sub) (j:Small d):kcS d=some (valid d):=by
 have hl:=j.1;unfold kcS valid;rw [kaJ];by_cases h:((d.length:Nat):Int)<1
 ·have:wi 1 8 (d.length:Int)=false:=by unfold wi; simp; omega
  simp [h,this]
 by_cases h2:(8:Int)<((d.length:Nat):Int)
 ·have:wi 1 8 (d.length:Int)=false:=by unfold wi; simp; omega
  simp [h,h2,this]
 have k:wi 1 8 (d.length:Int)=true:=by rw [kgf]; omega
 simp only [h,h2,decide_false,jal,if_false,k,Bool.true_and];rw [show (0:Int)=((0:Nat):Int) from rfl,iter_any' (F:=kcL d) false (λi:Nat=>(i:Int)) d.length (by omega) (rowOk d) (λi f=>?_) (by unfold kcL; rw [if_neg kaC])]
 ·cases (List.range d.length).all (rowOk d) <;> rfl
 ·obtain ⟨k1,k2⟩:=j.2 _ (jbz f);unfold kcL;rw [if_pos (lenI_lt.2 f),kaB f];simp only [jaf];rw [ksd _ (by omega),krR d (by omega),kox d (by omega) i (by omega) _ (by omega),kay (by omega)];have hr:rowOk d i=(kcX d[i].1&&!((d.take i).any λt=>t.1==d[i].1)&&decide (d[i].2.length<=20)&&d[i].2.all (okRow d.length i)):=by unfold rowOk; rw [jad f]; rfl
  rw [hr];simp only [jaf,kaJ];have b:=kpA d i f;cases kcX d[i].1
  ·simp
  by_cases a:(20:Int)<((d[i].2.length:Nat):Int)
  ·have:¬ d[i].2.length<=20:=by omega
   simp [a,this]
  ·have c:d[i].2.length<=20:=by omega
   cases g:((d.take i).any λt=>t.1==d[i].1)
   ·have b:=b.2 g;simp only [a,c,b,bne_self_eq_false,decide_false,decide_true,jdy,jal,if_false,Bool.not_false,Bool.true_and,Bool.and_true,jaf];cases d[i].2.all (okRow d.length i) <;> rfl
   ·have b:¬ findN d d[i].1=(i:Int):=λe=>by rw [b.1 e] at g; cases g
    have:(findN d d[i].1 != (i:Int))=true:=by simpa using b
    simp [a,this]
theorem kmE (d:Ya Sub):∃ b,kcZ d=some b/\(b=false->Small d):=by
 unfold kcZ;rw [kaJ];by_cases k:(12:Int)<((d.length:Nat):Int)
 ·exact ⟨true,by simp [k],λe=>by cases e⟩
 simp only [k,decide_false,jal,if_false];rw [show (0:Int)=((0:Nat):Int) from rfl,iter_any' (F:=kcN d) true (λi:Nat=>(i:Int)) d.length (by omega) (λi=>(d[i]?).all λs=>decide (s.2.length<=30)&&decide (s.1.length<=100)) (λi j=>?_) (by unfold kcN; rw [if_neg kaC]),kea]
 ·cases h:(d.all λs=>decide (s.2.length<=30)&&decide (s.1.length<=100))
  ·exact ⟨true,rfl,λe=>by cases e⟩
  ·refine ⟨false,rfl,λ_=>⟨by omega,λs l=>?_⟩⟩;have:=jam.1 h s l;simp only [jac,jak] at this;exact ⟨this.2,this.1⟩
 ·unfold kcN;rw [if_pos (lenI_lt.2 j),kaB j,jad j];simp only [jaf,kaJ];show _=some (if (decide (d[i].2.length<=30)&&decide (d[i].1.length<=100))=true then _ else _);rw [kay (by omega)];by_cases g:(30:Int)<((d[i].2.length:Nat):Int)
  ·have:¬ d[i].2.length<=30:=by omega
   simp [g,this]
  have a:d[i].2.length<=30:=by omega
  by_cases c:(100:Int)<((d[i].1.length:Nat):Int)
  ·have:¬ d[i].1.length<=100:=by omega
   simp [g,a,c,this]
  have f:d[i].1.length<=100:=by omega
  simp [g,a,c,f]
theorem kmv {σ τ:Type} {F:σ->Yb (σ⊕τ)} (e:Nat->σ) (m:Nat) (c:m<18446744073709551616) (z:τ) (b:∀ i,i<m->F (e i)=some (.inl (e (i+1)))) (h2:F (e m)=some (.inr z)):iter F (e 0)=some z:=by
 have:∀ k i:Nat,i+k=m->itN F (k+1) (e i)=some z:=by
  intro k;induction k with
  | zero=>
   intro i h;have:i=m:=by omega
   subst this;rw [kfC h2]
  | succ k a=>intro i h; rw [knD (b i (by omega)),a (i+1) (by omega)]
 exact klb (this m 0 (by omega)) (by omega)
theorem kau {a b:Ya UInt8} (h:a.length+b.length<=9223372036854775807):gcat a b=some (a++b):=by unfold gcat; rw [if_pos h]
theorem ksg {x:Int} (b:0<=x) (a:x<256):IntKind.wrap .u8 x=x:=by
 unfold IntKind.wrap;simp [IntKind.bits,IntKind.signed];omega
theorem digit {u:Nat}:kaG [IntKind.wrap .u8 (w64 (48+((u % 10:Nat):Int)))]=[UInt8.ofNat (48+u % 10)]:=by
 have h:u % 10<10:=Nat.mod_lt _ (by decide);rw [keu (by omega) (by omega),ksg (by omega) (by omega)];unfold kaG;simp only [jat,jdx];congr 2
theorem koX {u:Nat} (h:u<18446744073709551616):(Lib.decDigits u).length<=20:=by
 rw [Lib.decDigits_length];rcases Nat.eq_zero_or_pos u with e | e
 ·rw [e]; decide +kernel
 ·have:=Lib.numDigits_eq u e h;split at this <;> omega
theorem kfT:∀ (j k u:Nat),j<k->u<10 ^ (j+1)->u<9223372036854775808->kbp k (u:Int)=some (Lib.decDigits u)
 | j,0,u,hj,_,_=>by omega
 | j,k+1,u,hj,h,hu=>by
  rw [kbp];unfold kdG;have hr:grem (u:Int) 10=some ((u % 10:Nat):Int):=by unfold grem; rw [if_neg (by decide)]; rfl
  rw [if_neg (by simp),hr];simp only [jaf];rw [digit];by_cases a:u<10
  ·rw [if_neg (by simp; omega),Lib.decDigits,dif_pos a,Nat.mod_eq_of_lt a]
  ·have b:gquo .i64 (u:Int) 10=some ((u / 10:Nat):Int):=by
    unfold gquo;rw [if_neg (by decide)];have e:(u:Int).tdiv 10=((u / 10:Nat):Int):=rfl;rw [e];unfold wk;simp only;rw [keu (by omega) (by omega)]
   rw [if_pos (by simp; omega),b];simp only [jaf];cases j with
   | zero=>simp at h; omega
   | succ j=>
    rw [kfT j k (u / 10) (by omega) (by rw [Nat.pow_succ] at h; omega) (by omega)];simp only [jaf];have hl:=koX (u:=u / 10) (by omega);rw [kau (by simp; omega)];simp only [jaf];rw [Lib.decDigits.eq_1 u,dif_neg a]
theorem kps (x:Int) (f:-9223372036854775807<=x) (c:x<=9223372036854775807):kdc x=some (Lib.itoa x):=by
 unfold kdc Lib.itoa;by_cases a:x<0
 ·rw [if_pos a];rw [show (1000000:Nat)=999999+1 from rfl,kbp];unfold kdG;rw [if_pos (by simpa using a),keu (by omega) (by omega)];obtain ⟨u,rfl⟩:∃ u:Nat,x = -(u:Int):=⟨x.natAbs,by omega⟩;have e:(0:Int) - -(u:Int)=(u:Int):=by omega
  have b:(-(u:Int)).natAbs=u:=by omega
  rw [e,b,kfT 18 999999 u (by decide) (by omega) (by omega)];simp only [jaf];have hl:=koX (u:=u) (by omega);rw [kau (by simp; omega)];rfl
 ·rw [if_neg a];obtain ⟨u,rfl⟩:∃ u:Nat,x=(u:Int):=⟨x.toNat,by omega⟩;rw [kfT 18 1000000 u (by decide) (by omega) (by omega),jdv]
theorem kdO {x:Int} (g:-1000<=x) (c:x<=1000):(Lib.itoa x).length<=20:=by
 have key:∀ u:Nat,u<=1000->(Lib.decDigits u).length<=10:=λu f=>by
  rw [Lib.decDigits_length];rcases Nat.eq_zero_or_pos u with e | e
  ·subst e; decide +kernel
  ·have h:=Lib.lt_pow_nDigits u;rcases jcj u 10 with h2 | h2
   ·rw [Lib.nDigits_small h2]; decide
   ·rcases jcj u 100 with b | b
    ·rw [Lib.nDigits_unique 1 u (by omega) (by omega)]; decide
    ·rcases jcj u 1000 with a | a
     ·rw [Lib.nDigits_unique 2 u (by omega) (by omega)]; decide
     ·rw [Lib.nDigits_unique 3 u (by omega) (by omega)]; decide
 unfold Lib.itoa;split
 ·have:=key x.natAbs (by omega);simp only [jbv]; omega
 ·have:=key x.toNat (by omega); omega
theorem keZ {α β:Type} {F:Int×Ya β->Yb ((Int×Ya β)⊕Ya β)} (l:Ya α) (f:α->Ya β) (c B:Nat) (hl:l.length<=1000) (m:∀ x∈l,(f x).length<=c)
  (j:∀ (i:Nat) (e:i<l.length) (a:Ya β),a.length+c<=B->F ((i:Int),a)=some (.inl (((i+1:Nat):Int),a++f l[i]))) (h2:∀ a,F ((l.length:Int),a)=some (.inr a)) (b:Ya β) (hp:b.length+l.length*c<=B) :
  iter F (0,b)=some (b++l.flatMap f):=by
 have g:∀ i,i<=l.length->((l.take i).flatMap f).length<=i*c:=by
  intro i;induction i with
  | zero=>intro _; simp
  | succ i n=>
   intro e;have h:=n (by omega);have p:=m _ (jbz (show i<l.length by omega));rw [jcz (by omega),List.flatMap_append,jap,List.flatMap_singleton,jds];omega
 have:=kmv (F:=F) (λi:Nat=>((i:Int),b++(l.take i).flatMap f)) l.length (by omega) (b++l.flatMap f) (λi e=>?_) (by rw [List.take_length]; exact h2 _)
 ·simpa using this
 ·rw [j i e _ (by
   rw [jap];have o:=g i (by omega);have k:(i+1)*c<=l.length*c:=jbg c e;rw [jds] at k;omega),jcz e,List.flatMap_append,List.flatMap_singleton,jar]
def spT (l:Ya Int):Ya UInt8:=l.flatMap λn=>32::Lib.itoa n
def kcy (b:Brick):Ya Int:=[b.2.1.1,b.2.1.2.1,b.2.1.2.2,b.2.2.1,b.2.2.2]
def khZ (d:Ya Sub) (i:Int):Ya UInt8:=match d[i.toNat]? with | some s=>s.1 | none=>[]
def lineT (d:Ya Sub) (x:Line):Ya UInt8:=
 (if x.1 = -1 then [98,114,105,99,107]++spT [x.2.1] else [117,115,101,32]++khZ d x.1)++spT (kcy x.2)++[10]
def subT (d:Ya Sub) (s:Sub):Ya UInt8:=[115,117,98,32]++s.1++[10]++s.2.flatMap (lineT d)++[101,110,100,10]
def docT (d:Ya Sub):Ya UInt8:=d.flatMap (subT d)
structure LOk (n:Nat) (x:Line):Prop where
 sub:(x.1 = -1/\0<=x.2.1/\x.2.1<=15)\/(0<=x.1/\x.1<n)
 place:∀ v∈kcy x.2,-1000<=v/\v<=1000
structure VOk (d:List Sub):Prop where
 len:1<=d.length/\d.length<=8
 sub:∀ s∈d,s.1.length<=12/\s.2.length<=20/\∀ x∈s.2,LOk d.length x
def U8 (d:Ya Sub):Prop:=∀ s∈d,∀ l∈s.2,0<=l.2.2.2.1/\0<=l.2.2.2.2
theorem VOk.of {d:Ya Sub} (a:valid d=true) (h:U8 d):VOk d:=by
 unfold valid at a;rw [jac,kgf,keA] at a;obtain ⟨k,h2⟩:=a;refine ⟨by omega,λs c=>?_⟩;obtain ⟨i,f,rfl⟩:=jce.1 c;have hr:=h2 i f;unfold rowOk at hr;rw [jad f] at hr;simp only [Option.all_some,jac,jak,jam] at hr;obtain ⟨⟨⟨hn,_⟩,hl⟩,j⟩:=hr;unfold kcX at hn;rw [jac,kgf] at hn;refine ⟨by omega,hl,λx g=>?_⟩;have b:=j x g;have l:=h _ c x g;unfold okRow at b;simp only [jac,jak,jdi,List.all_nil,and_true,kgf] at b;obtain ⟨⟨⟨k1,k2⟩,k3⟩,m⟩:=b;refine ⟨?_,λv a=>?_⟩
 ·split at k1
  ·rename_i e; rw [kgf] at k1; exact .inl ⟨e,k1⟩
  ·simp only [jac,kgf] at k1; right; omega
 ·simp only [kcy,jbu,List.not_mem_nil,or_false] at a;rcases a with rfl | rfl | rfl | rfl | rfl <;> omega
theorem klI {d:Ya Sub} {i:Int} (a:0<=i) (b:i<d.length):gi d i=some (d[i.toNat]'(by omega))/\khZ d i=(d[i.toNat]'(by omega)).1:=by
 have:i.toNat<d.length:=by omega
 unfold gi khZ;rw [if_pos a,jad this];exact ⟨rfl,rfl⟩
theorem kgQ {d:Ya Sub} (a:VOk d) (i:Int):(khZ d i).length<=12:=by
 unfold khZ;split
 ·rename_i s b; exact (a.sub s (jai b)).1
 ·simp
theorem kgh {l:Ya Int} (h:∀ v∈l,-1000<=v/\v<=1000):(spT l).length<=l.length*21:=by
 induction l with
 | nil=>simp [spT]
 | cons x l b=>
  have c:=kdO (h x (by simp)).1 (h x (by simp)).2;have h2:=b λv a=>h v (by simp [a]);unfold spT at h2 ⊢;rw [List.flatMap_cons,jap,jbv,jbv,jds];omega
theorem kcC {d:Ya Sub} (c:VOk d) {x:Line} (b:LOk d.length x):(lineT d x).length<=200:=by
 have g:=kgh b.place;have h2:=kgQ c x.1;have i:(kcy x.2).length=5:=rfl;unfold lineT;rw [jap,jap];split
 ·rename_i e;have f:(spT [x.2.1]).length<=1*21:=kgh (l:=[x.2.1]) λv a=>by
   simp at a; subst a;rcases b.sub with h | h <;> omega
  rw [jap];simp only [jbv,jdm];omega
 ·rw [jap];simp only [jbv,jdm];omega
theorem kjY {α β:Type} {f:α->Ya β} {c:Nat}:∀ {l:Ya α},(∀ x∈l,(f x).length<=c)->(l.flatMap f).length<=l.length*c
 | [],_=>by simp
 | x::l,h=>by
  have b:=h x (by simp);have h2:=kjY (l:=l) λy a=>h y (by simp [a]);rw [List.flatMap_cons,jap,jbv,jds];omega
theorem kmP {d:Ya Sub} (a:VOk d) {s:Sub} (e:s∈d):(subT d s).length<=4100:=by
 obtain ⟨i,h2,b⟩:=a.sub s e;have h:=kjY (f:=lineT d) (c:=200) (l:=s.2) λx g=>kcC a (b x g);have j:s.2.length*200<=20*200:=jbg 200 h2;unfold subT;simp only [jap,jbv,jdm];omega
theorem kjV (l:Ya Int) (hl:l.length<=10) (h:∀ v∈l,-1000<=v/\v<=1000):kcs l=some (spT l):=by
 unfold kcs;rw [keZ (F:=kcm l) l (λn=>32::Lib.itoa n) 21 1000 (by omega) (λx e=>by have:=kdO (h x e).1 (h x e).2; simp; omega) (λi b a f=>?_) (λa=>by unfold kcm; simp only; rw [if_neg kaC]) [] (by simp; omega)]
 ·simp [spT]
 ·have c:=h _ (jbz b);have hn:=kdO c.1 c.2;unfold kcm;simp only;rw [if_pos (lenI_lt.2 b),kaB b];simp only [jaf];rw [kps _ (by omega) (by omega)];simp only [jaf];rw [kau (by simp; omega)];simp only [jaf];rw [kau (by simp; omega),kay (by omega)];rfl
theorem kqK {x:Line} {n:Nat} (a:LOk n x):[x.2.2.1.1,x.2.2.1.2.1,x.2.2.1.2.2,w64 x.2.2.2.1,w64 x.2.2.2.2]=kcy x.2:=by
 have b:=a.place x.2.2.2.1 (by simp [kcy]);have h2:=a.place x.2.2.2.2 (by simp [kcy]);rw [keu (by omega) (by omega),keu (by omega) (by omega)];rfl
theorem klX {d:Ya Sub} (h:VOk d) (i:Nat) (o:i<d.length) (c a:Ya UInt8) (hp:a.length<=100000) :
  iter (kcg d ((i:Int),c)) (0,a)=some (a++d[i].2.flatMap (lineT d)):=by
 obtain ⟨u,h2,r⟩:=h.sub _ (jbz o);refine keZ d[i].2 (lineT d) 200 200000 (by omega) (λx b=>kcC h (r x b)) (λk m n z=>?_) (λn=>by unfold kcg; simp only; rw [kaB o]; simp only [jaf]; rw [if_neg kaC]) a (by omega);have b:=r _ (jbz m);have f:=kcC h b;unfold kcg;simp only;rw [kaB o];simp only [jaf];rw [if_pos (lenI_lt.2 m),kaB m];simp only [jaf];generalize d[i].2[k]=x at b f;rw [kqK b,kjV _ (by simp [kcy]) b.place];simp only [jaf];have y:=kgh b.place;have w:(kcy x.2).length=5:=rfl;rcases b.sub with ⟨e,k0,k1⟩ | ⟨e0,t⟩
 ·rw [if_pos (by simpa using e),kjV [x.2.1] (by simp) (λv g=>by simp at g; subst g; omega)];have j:=kgh (l:=[x.2.1]) (λv g=>by simp at g; subst g; omega);simp only [jbv,jdm] at j;simp only [jaf];rw [kau (by simp; omega)];simp only [jaf];rw [kau (by simp; omega)];simp only [jaf];rw [kau (by simp; omega)];simp only [jaf];rw [kau (by simp; omega),kay (by omega)];simp only [jaf];unfold lineT;rw [if_pos e]
 ·obtain ⟨s,p⟩:=klI e0 t;have hn:=kgQ h x.1;rw [p] at hn;rw [if_neg (by simp; omega),s];simp only [jaf];rw [kau (by simp; omega)];simp only [jaf];rw [kau (by simp; omega)];simp only [jaf];rw [kau (by simp; omega)];simp only [jaf];rw [kau (by simp; omega),kay (by omega)];simp only [jaf];unfold lineT;rw [if_neg (by omega),p]
theorem kpz {d:Ya Sub} (a:VOk d):kdg d=some (docT d):=by
 unfold kdg;have hl:=a.len;rw [keZ (F:=kcj d) d (subT d) 4100 40000 (by omega) (λs h=>kmP a h) (λi b e m=>?_) (λe=>by unfold kcj; simp only; rw [if_neg kaC]) [] (by simp; omega)]
 ·simp [docT]
 ·obtain ⟨n,h2,g⟩:=a.sub _ (jbz b);have k:=kjY (f:=lineT d) (c:=200) (l:=d[i].2) λx j=>kcC a (g x j);have o:d[i].2.length*200<=20*200:=jbg 200 h2;unfold kcj;simp only;rw [if_pos (lenI_lt.2 b),kaB b];simp only [jaf];rw [kau (by simp; omega)];simp only [jaf];rw [kau (by simp; omega)];simp only [jaf];rw [kau (by simp; omega)];simp only [jaf];rw [klX a i b _ _ (by simp; omega)];simp only [jaf];rw [kau (by simp only [jap,jbv,jdm]; omega),kay (by omega)];simp only [jaf];unfold subT;simp
theorem kfl (a b:Ya UInt8):strI (a++b)=strI a++strI b:=by simp [strI]
theorem kck (a:Ya UInt8):(strI a).length=a.length:=by simp [strI]
theorem kkO {α:Type} (f:α->Ya UInt8) (l:Ya α):strI (l.flatMap f)=l.flatMap λx=>strI (f x):=by
 induction l with
 | nil=>rfl
 | cons x l a=>rw [List.flatMap_cons,List.flatMap_cons,kfl,a]
theorem kpm {t:Ya UInt8} (h:t≠[]):strOf (strI t)=some t:=by
 unfold strOf;rw [if_pos]
 ·have:kaG (strI t)=t:=by
   unfold kaG strI;rw [List.map_map]
   conv=>rhs; rw [<-List.map_id t]
   apply List.map_congr_left;intro b _;simp
  rw [this]
 ·refine ⟨by simpa [strI] using h,?_⟩;rw [jam];intro x a;obtain ⟨b,_,rfl⟩:=jaz.1 a;have:=b.toNat_lt;simp only [jac,jak];omega
theorem ws_eq {s:Ya UInt8} {l:Ya Int} (h:l.length+s.length<=1048576):kak s l=some (lenI s,l++strI s):=by
 unfold kak kbk;simp only [jaf];rw [khw (by rw [kck]; exact h)];rfl
theorem koZ {x:Int} (b:-1000<=x) (a:x<=1000):strconv_Itoa x=some (Lib.itoa x):=by
 unfold strconv_Itoa itoaF;rw [if_pos ⟨by omega,by omega⟩]
theorem kqF (l:Ya Int) (hl:l.length<=10) (h:∀ v∈l,-1000<=v/\v<=1000) (a:Ya Int) (hp:a.length<=1000000):kcn l a=some (l,a++strI (spT l++[10])):=by
 unfold kcn;have j:=kgh h;rw [keZ (F:=kbL l) l (λn=>strI (32::Lib.itoa n)) 21 1001000 (by omega) (λx f=>by have:=kdO (h x f).1 (h x f).2; rw [kck]; simp; omega) (λi e c g=>?_) (λc=>by unfold kbL; simp only; rw [if_neg kaC]) a (by omega)]
 ·simp only [jaf];rw [<-kkO];rw [show (l.flatMap λn=>32::Lib.itoa n)=spT l from rfl,ws_eq (by rw [jap,kck]; simp; omega)];simp only [jaf];rw [kfl,jar]
 ·have b:=h _ (jbz e);have hn:=kdO b.1 b.2;unfold kbL;simp only;rw [if_pos (lenI_lt.2 e),kaB e];simp only [jaf];rw [koZ b.1 b.2];simp only [jaf];rw [kau (by simp; omega)];simp only [jaf];rw [ws_eq (by simp; omega)];simp only [jaf];rw [kay (by omega)];rfl
theorem koi {d:Ya Sub} (f:VOk d) (s:Sub) (m:s∈d) (a:Ya Int) (hp:a.length<=100000) :
  iter (kdb d s) (0,a)=some (a++strI (s.2.flatMap (lineT d))):=by
 obtain ⟨o,h2,j⟩:=f.sub s m;rw [kkO];refine keZ s.2 (λx=>strI (lineT d x)) 200 200000 (by omega) (λx b=>by rw [kck]; exact kcC f (j x b)) (λk g h p=>?_) (λh=>by unfold kdb; simp only; rw [if_neg kaC]) a (by omega);have b:=j _ (jbz g);have c:=kcC f b;unfold kdb;simp only;rw [if_pos (lenI_lt.2 g),kaB g];simp only [jaf];generalize s.2[k]=x at b c;rw [kqK b];rcases b.sub with ⟨e,k0,k1⟩ | ⟨e0,n⟩
 ·have hn:=kdO (x:=x.2.1) (by omega) (by omega);rw [if_pos (by simp; omega),koZ (by omega) (by omega)];simp only [jaf];rw [kau (by simp; omega)];simp only [jaf];rw [ws_eq (by simp; omega)];simp only [jaf];rw [kqF _ (by simp [kcy]) b.place _ (by rw [jap,kck]; simp; omega)];simp only [jaf];rw [kay (by omega)];unfold lineT;rw [if_pos e,jar,<-kfl];simp [spT]
 ·obtain ⟨l,i⟩:=klI e0 n;have hn:=kgQ f x.1;rw [i] at hn;rw [if_neg (by simp; omega),l];simp only [jaf];rw [kau (by simp; omega)];simp only [jaf];rw [ws_eq (by simp; omega)];simp only [jaf];rw [kqF _ (by simp [kcy]) b.place _ (by rw [jap,kck]; simp; omega)];simp only [jaf];rw [kay (by omega)];unfold lineT;rw [if_neg (by omega),i,jar,<-kfl];simp
theorem krP {d:Ya Sub} (a:VOk d):iter (kcu d) (0,[])=some (strI (docT d)):=by
 have hl:=a.len;unfold docT;rw [kkO,keZ (F:=kcu d) d (λs=>strI (subT d s)) 4100 40000 (by omega) (λs j=>by rw [kck]; exact kmP a j) (λi e b n=>?_) (λb=>by unfold kcu; simp only; rw [if_neg kaC]) [] (by simp; omega)]
 ·rfl
 ·have g:=jbz e;obtain ⟨o,h2,h⟩:=a.sub _ g;have m:=kjY (f:=lineT d) (c:=200) (l:=d[i].2) λx k=>kcC a (h x k);have p:d[i].2.length*200<=20*200:=jbg 200 h2;unfold kcu;simp only;rw [if_pos (lenI_lt.2 e),kaB e];simp only [jaf];rw [kau (by simp; omega)];simp only [jaf];rw [kau (by simp; omega)];simp only [jaf];rw [ws_eq (by simp; omega)];simp only [jaf];rw [koi a _ g _ (by rw [jap,kck]; simp; omega)];simp only [jaf];rw [ws_eq (by simp only [jap,kck,jbv,jdm]; omega),kay (by omega)];simp only [jaf];unfold subT;simp only [jar,<-kfl]
theorem krX {d:Ya Sub} (a:VOk d):docT d≠[]:=by
 have:=a.len;match d with
 | []=>simp at this
 | s::r=>simp [docT,subT]
def kkg (d:Ya Sub):Ya UInt8×Int:=if valid d=true then (docT d,0) else ([],8)
theorem kpC (d:Ya Sub) (c:Small d) (b:U8 d):keR d=some (kkg d):=by
 unfold keR kkg;rw [kmp d c];simp only [jaf];by_cases a:valid d=true
 ·have v:=VOk.of a b;rw [if_pos a,if_neg (by decide),krP v,if_pos a];simp only [jaf];rw [show kby (strI (docT d))=strOf (strI (docT d)) from rfl,kpm (krX v)];rfl
 ·rw [if_neg a,if_pos (by decide),if_neg a]
theorem kqs (d:Ya Sub) (e:Small d) (c:U8 d):kek d=some (kkg d):=by
 unfold kek kkg;rw [kmt d e];simp only [jaf];by_cases a:valid d=true
 ·have v:=VOk.of a c;rw [if_neg (by rw [a]; decide),if_pos a,kpz v];rfl
 ·have b:valid d=false:=by simpa using a
  rw [b,if_pos (by decide),if_neg (by decide)]
instance decLine:DecidableEq Line:=inferInstance
instance decLines:DecidableEq (List Line):=instDecidableEqList
instance decSub:DecidableEq Sub:=instDecidableEqProd
theorem keN {α:Type} [DecidableEq α] {l r:Ya α} (h:l.length=r.length):((List.range l.length).all λi=>decide (l[i]?=r[i]?))=decide (l=r):=by
 rw [Bool.eq_iff_iff,keA,jak];constructor
 ·intro h2;apply jdq λi=>?_;rcases jcj i l.length with a | a
  ·simpa using h2 i a
  ·rw [jco a,jco (by omega)]
 ·rintro rfl i _; simp
theorem kmG (x y:Line):((x.1==y.1)&&((x.2.1==y.2.1)&&(((x.2.2.1.1==y.2.2.1.1)&&((x.2.2.1.2.1==y.2.2.1.2.1)&&(x.2.2.1.2.2==y.2.2.1.2.2)))&&((x.2.2.2.1==y.2.2.2.1)&&(x.2.2.2.2==y.2.2.2.2)))))=decide (x=y):=by
 obtain ⟨a,b,⟨c,d,e⟩,f,g⟩:=x;obtain ⟨a',b',⟨h,i,e'⟩,j,k⟩:=y;rw [Bool.eq_iff_iff];simp
theorem kjH {α:Type} [DecidableEq α] {l r:Ya α} {i:Nat} (b:i<l.length) (a:i<r.length):decide (l[i]?=r[i]?)=decide (l[i]=r[i]):=by
 rw [jad b,jad a]; simp
theorem krv (l r:Ya Line) (hl:l.length<=1000):kaI l r=some (decide (l=r)):=by
 unfold kaI;rw [kaJ,kaJ];by_cases h:l.length=r.length
 ·rw [if_neg (λq=>bne_iff_ne.1 q (by omega)),show (0:Int)=((0:Nat):Int) from rfl,iter_any' (F:=kaD l r) false (λi:Nat=>(i:Int)) l.length (by omega) (λi=>decide (l[i]?=r[i]?)) (λi a=>?_) (by unfold kaD; rw [if_neg kaC]),keN h]
  ·by_cases e:l=r <;> simp [e]
  ·unfold kaD;rw [if_pos (lenI_lt.2 a),kaB a,kaB (show i<r.length by omega)];simp only [jaf];rw [kmG,kjH a (by omega),kay (by omega)];cases decide (l[i]=r[i]) <;> rfl
 ·rw [if_pos (bne_iff_ne.2 (by omega))];have:l≠r:=λe=>h (by rw [e]);simp [this]
theorem kpl (x y:Sub) (a:x.2.length<=1000):kdC x y=some (decide (x=y)):=by
 unfold kdC;rw [krv _ _ a];by_cases h:x.1=y.1
 ·rw [if_pos (by simpa using h)];simp only [jaf];congr 2;rw [Prod.ext_iff];simp [h]
 ·rw [if_neg (by simpa using h)];have:x≠y:=λe=>h (by rw [e]);simp [this]
theorem klt (a b:Ya Sub) (f:Small a):kel a b=some (decide (a=b)):=by
 unfold kel kat;have hl:=f.1;rw [kaJ,kaJ];by_cases h:a.length=b.length
 ·rw [if_neg (λq=>bne_iff_ne.1 q (by omega)),show (0:Int)=((0:Nat):Int) from rfl,iter_any' (F:=kan a b _) false (λi:Nat=>(i:Int)) a.length (by omega) (λi=>decide (a[i]?=b[i]?)) (λi c=>?_) (by unfold kan; rw [if_neg kaC]),keN h]
  ·by_cases e:a=b <;> simp [e]
  ·have g:=(f.2 _ (jbz c)).2;unfold kan;rw [if_pos (lenI_lt.2 c),kaB c,kaB (show i<b.length by omega)];simp only [jaf];rw [kpl _ _ (by omega),kjH c (by omega),kay (by omega)];simp only [jaf];cases decide (a[i]=b[i]) <;> rfl
 ·rw [if_pos (bne_iff_ne.2 (by omega))];have:a≠b:=λe=>h (by rw [e]);simp [this]
theorem khB {α:Type} {f:α->α->Bool} (h:∀ x,f x x=true):∀ l:Ya α,lbeq f l l=true
 | []=>rfl
 | x::l=>by simp [lbeq,h x,khB h l]
theorem kqj {t:Ty} {x:t.den} (h:teq t x x=true):bthO t (some x) (some x)=some x:=by
 unfold bthO;simp only [h,if_true]
theorem knn (x:Line):teq tLine x x=true:=by simp [teq]
theorem krB (x:Sub):teq tSub x x=true:=by
 simp only [teq,jac,decide_true,true_and];exact khB knn x.2
theorem krf (a b:Ya Sub) (l:Small a):keM a b=some (decide (a=b)):=by
 unfold keM;have hl:=l.1;rw [kaJ,kaJ];by_cases h:a.length=b.length
 ·rw [if_neg (λq=>bne_iff_ne.1 q (by omega)),show (0:Int)=((0:Nat):Int) from rfl,iter_any' (F:=kdf a b) false (λi:Nat=>(i:Int)) a.length (by omega) (λi=>decide (a[i]?=b[i]?)) (λi f=>?_) (by unfold kdf; rw [if_neg kaC]),keN h]
  ·by_cases e:a=b <;> simp [e]
  ·have n:=(l.2 _ (jbz f)).2;have j:i<b.length:=by omega
   unfold kdf;rw [if_pos (lenI_lt.2 f),kaB f,kaB j,kjH f j];simp only [jaf];rw [kqj (t:=.pr .s (.pr (.sl tLine) tSub)) (by
    have h2:=khB knn a[i].2;have m:=krB b[i];simp only [teq,jac,decide_true,true_and] at m ⊢;exact ⟨h2,m⟩)]
   simp only [jaf];by_cases c:a[i].1=b[i].1
   ·rw [if_neg (by simp [c]),kaJ,kaJ];by_cases h2:a[i].2.length=b[i].2.length
    ·rw [if_neg (λq=>bne_iff_ne.1 q (by omega)),show (0:Int)=((0:Nat):Int) from rfl,iter_any' (F:=kda (a[i].1,a[i].2,b[i])) false (λk:Nat=>(k:Int)) a[i].2.length (by omega) (λk=>decide (a[i].2[k]?=b[i].2[k]?)) (λk g=>?_) (by unfold kda; simp only; rw [if_neg kaC]),keN h2,kay (by omega)]
     ·by_cases e:a[i].2=b[i].2
      ·rw [show (decide (a[i]=b[i]))=true by rw [jak,Prod.ext_iff]; exact ⟨c,e⟩]; simp [e]
      ·rw [show (decide (a[i]=b[i]))=false by rw [decide_eq_false_iff_not,Prod.ext_iff]; exact λq=>e q.2]; simp [e]
     ·unfold kda;simp only;rw [if_pos (lenI_lt.2 g),kaB g,kaB (show k<b[i].2.length by omega)];simp only [jaf];rw [kmG,kjH g (by omega),kay (by omega)];cases decide (a[i].2[k]=b[i].2[k]) <;> rfl
    ·rw [if_pos (bne_iff_ne.2 (by omega)),show (decide (a[i]=b[i]))=false by rw [decide_eq_false_iff_not,Prod.ext_iff]; exact λq=>h2 (by rw [q.2])];rfl
   ·rw [if_pos (by simpa using c),show (decide (a[i]=b[i]))=false by rw [decide_eq_false_iff_not,Prod.ext_iff]; exact λq=>c q.1];rfl
 ·rw [if_pos (bne_iff_ne.2 (by omega))];have:a≠b:=λe=>h (by rw [e]);simp [this]
theorem krx (d:Ya Sub) (b:Small d):keO d=some d:=by
 have hl:=b.1;unfold keO;rw [show ((0,[]):Int×Ya Sub)=(λi:Nat=>((i:Int),d.take i)) 0 from rfl,kmv (F:=kdi d) (λi:Nat=>((i:Int),d.take i)) d.length (by omega) d (λi a=>?_) (by unfold kdi; simp only; rw [if_neg kaC,List.take_length])]
 ·rfl
 ·have hr:=(b.2 _ (jbz a)).2;unfold kdi;simp only;rw [if_pos (lenI_lt.2 a),kaB a];simp only [jaf];rw [khw (by simp; omega)];simp only [jaf,jay];rw [khw (by simp; omega),kay (by omega)];simp only [jaf];rw [jcz a]
theorem kqh (d:Ya Sub) (a:Small d):kec d=some (if valid d=true then 0 else 8):=by
 unfold kec;rw [kmt d a];simp only [jaf];cases valid d <;> rfl
theorem law02_TextDocs_eq (a b:Ya Sub) (f:U8 a):kdX a b=some true:=by
 unfold kdX;obtain ⟨p,hp,e⟩:=kmE a;obtain ⟨q,h,g⟩:=kmE b;rw [hp];cases p with
 | true=>rfl
 | false=>
  have c:=e rfl;simp only [jaf,jal,if_false];rw [h];cases q with
  | true=>rfl
  | false=>
   simp only [jaf,jal,if_false];rw [kpC a c f,kqs a c f,kmp a c,kqh a c,klt a b c,krf a b c,krx a c];simp only [jaf,beq_self_eq_true,if_true];rw [klt a a c];simp
end Go.Abs
