/- The functions and the law, part 8. -/
import Derived.Test.YtpjlpghgmjlbbaaGreatZ3
set_option linter.constructorNameAsVariable false
set_option linter.unusedVariables false
set_option linter.unusedSimpArgs false
set_option linter.unusedSectionVars false
namespace Go.Abs
open Go
@[reducible] def kyt:Ty:=(.pr (.i .i64) (.sl (.i .i64)))
abbrev kaj:=(Int×(List Int))
@[reducible] def tBill:Ty:=(.pr (.sl (.i .i64)) (.pr (.sl (.pr (.i .i64) (.pr (.i .u8) (.i .i64)))) (.i .i64)))
abbrev Bill:=((List Int)×(List (Int×Int×Int))×Int)
@[reducible] def kBQ:Ty:=(.pr (.sl (.i .i64)) (.pr (.i .i64) (.sl (.pr (.i .i64) (.pr (.i .u8) (.i .i64))))))
abbrev koJ:=((List Int)×Int×(List (Int×Int×Int)))
@[reducible] def tLine:Ty:=(.pr (.i .i64) (.pr (.i .i64) (.pr (.i .i64) (.pr (.pr (.i .i64) (.i .u8)) .b))))
abbrev Line:=(Int×Int×Int×(Int×Int)×Bool)
@[reducible] def tFlow:Ty:=(.pr (.sl (.pr (.i .i64) (.pr (.i .u8) (.i .i64)))) (.pr (.sl (.sl (.i .i64))) (.pr (.sl (.sl (.i .i64))) (.sl (.i .i64)))))
abbrev Flow:=((List (Int×Int×Int))×(List (List Int))×(List (List Int))×(List Int))
abbrev Flow6:=((List (List Bool))×(List (List Int))×(List Int))
@[reducible] def tSwap:Ty:=(.pr (.i .i64) (.pr (.i .u8) (.pr (.i .i64) (.i .u8))))
abbrev Swap:=(Int×Int×Int×Int)
def kbP (a:Int) (c:Int) (b:Int):Yb (Int×Int×Int):=
 (some (a,c,b))
def kbW (b:Int) (c:Int) (a:Int):Yb Bool:=
 (if (decide (b<=a))=true then (some (decide (a<=c))) else (some false))
def kjb (b:Int×Int×Int):Yb Bool:=
 ((kbW 1 1000 b.2.2).bind λa=>some (!a))
def kcs (a:Int×Int):Yb Bool:=
 ((kbW 0 15 a.1).bind λb=>if b=true then (some (decide (a.2<=15))) else (some false))
def keH (a:Int):Yb Bool:=
 (some (a != a))
def kbo (a:Int) (b:Int):Yb Int:=
 ((keH a).bind λe=>(keH b).bind λc=>if e=true then (if c=true then (some 0) else (some (-1))) else (if c=true then (some 1) else (if (decide (a<b))=true then (some (-1)) else (if (decide (b<a))=true then (some 1) else (some 0)))))
def kif (c:Ya Int) (a:Int):Yb (Int⊕(Int⊕Unit)):=
 (if (decide (a<(lenI c)))=true then ((gi c a).bind λb=>if (b != 0)=true then (some (.inr (.inl b))) else (some (.inl (w64 (a+1))))) else (some (.inr (.inr ()))))
def kfU (b:Ya Int):Yb Int:=
 ((iter (kif b) 0).bind λa=>match a with | .inl v3=>(some v3) | .inr v4=>(some 0))
def kfH (a:Int×Int) (b:Int×Int):Yb Int:=
 ((kbo a.1 b.1).bind λe=>(kbo a.2 b.2).bind λf=>(kfU [e,f]).bind λc=>some c)
def kcI (b:Ya (Int×Int×Int)) (c:((Int×Int×Int)->Yb (Int×Int))) (a:Int):Yb (Int⊕(Bool⊕Unit)):=
 (if (decide (a<(lenI b)))=true then ((gi b a).bind λe=>(c e).bind λg=>(kcs g).bind λj=>if (!j)=true then (some (.inr (.inl false))) else (if (decide (0<a))=true then ((gi b (w64 (a-1))).bind λi=>(c i).bind λf=>(c e).bind λk=>(kfH f k).bind λl=>if (decide (0<=l))=true then (some (.inr (.inl false))) else (some (.inl (w64 (a+1))))) else (some (.inl (w64 (a+1)))))) else (some (.inr (.inr ()))))
def kdS (a:Ya (Int×Int×Int)) (b:Int) (c:((Int×Int×Int)->Yb (Int×Int))):Yb Bool:=
 ((iter (kcI a c) 0).bind λe=>match e with | .inl v9=>(some v9) | .inr v10=>(some (decide ((lenI a)<=b))))
def kbC (a:Int×Int×Int):Yb (Int×Int):=
 (some (a.1,a.2.1))
def kaP (b:Ya (Int×Int×Int)) (c:((Int×Int×Int)->Yb Bool)) (a:Int):Yb (Int⊕(Int⊕Unit)):=
 (if (decide (a<(lenI b)))=true then ((gi b a).bind λf=>(c f).bind λe=>if e=true then (some (.inr (.inl a))) else (some (.inl (w64 (a+1))))) else (some (.inr (.inr ()))))
def kbM (a:Ya (Int×Int×Int)) (b:((Int×Int×Int)->Yb Bool)):Yb Int:=
 ((iter (kaP a b) 0).bind λc=>match c with | .inl v4=>(some v4) | .inr v5=>(some (-1)))
def kaB (b:Ya (Int×Int×Int)) (c:((Int×Int×Int)->Yb Bool)):Yb Bool:=
 ((kbM b c).bind λa=>some (decide (0<=a)))
def kkq (c:Ya (Int×Int×Int)):Yb Int:=
 ((kdS c 30 (λ(a:Int×Int×Int)=>((kbC a).bind λb=>some b))).bind λe=>if (!e)=true then (some 8) else ((kaB c (λ(a:Int×Int×Int)=>((kjb a).bind λb=>some b))).bind λf=>if f=true then (some 8) else (some 0)))
def khk (b:Ya (Ya (Int×Int×Int))) (a:Int):Yb (Int⊕(Int⊕Unit)):=
 (if (decide (a<(lenI b)))=true then ((gi b a).bind λe=>(kkq e).bind λc=>if (c != 0)=true then (some (.inr (.inl c))) else (some (.inl (w64 (a+1))))) else (some (.inr (.inr ()))))
def kda (a:Ya (Ya (Int×Int×Int))):Yb Int:=
 ((iter (khk a) 0).bind λb=>match b with | .inl v4=>(some v4) | .inr v5=>(some 0))
def kqD (a:Ya (Int×Int×Int)) (b:Ya (Int×Int×Int)):Yb Int:=
 (if ((lenI a)==0)=true then (some 1) else (if ((lenI b)==0)=true then (some (-1)) else ((gi a 0).bind λe=>(kbC e).bind λi=>(gi b 0).bind λc=>(kbC c).bind λg=>(kfH i g).bind λf=>some f)))
def kuM (r:((Int×Int)->Yb Int)) (a:(Ya (Int×Int×Int))×(Ya (Int×Int×Int))×(Ya (Int×Int×Int))):Yb (((Ya (Int×Int×Int))×(Ya (Int×Int×Int))×(Ya (Int×Int×Int)))⊕(Ya (Int×Int×Int))):=
 ((if (decide (0<(lenI a.1)))=true then (some true) else (some (decide (0<(lenI a.2.1))))).bind λo=>if o=true then ((kqD a.1 a.2.1).bind λj=>(if (decide (j<=0))=true then ((gi a.1 0).bind λn=>(gi a.1 0).bind λm=>(gsl a.1 1 (lenI a.1)).bind λl=>(if (j==0)=true then ((gi a.2.1 0).bind λp=>(gsl a.2.1 1 (lenI a.2.1)).bind λs=>some (p.2.2,s)) else (some (0,a.2.1))).bind λi=>some (m.2.2,i.1,l,i.2,n)) else ((gi a.2.1 0).bind λk=>(gi a.2.1 0).bind λf=>(gsl a.2.1 1 (lenI a.2.1)).bind λg=>some (0,f.2.2,a.1,g,k))).bind λb=>(r (b.1,b.2.1)).bind λc=>if (c != 0)=true then ((gapp a.2.2 [(b.2.2.2.2.1,b.2.2.2.2.2.1,c)]).bind λe=>some (.inl (b.2.2.1,b.2.2.2.1,e))) else (some (.inl (b.2.2.1,b.2.2.2.1,a.2.2)))) else (some (.inr a.2.2)))
def knP (b:Ya (Int×Int×Int)) (e:Ya (Int×Int×Int)) (c:((Int×Int)->Yb Int)):Yb (Ya (Int×Int×Int)):=
 ((iter (kuM c) (b,e,[])).bind λa=>some a)
def ksS (a:Int) (b:Int):Yb Int:=
 (some (w64 (a+b)))
def kyL (b:Ya (Int×Int×Int)) (c:Ya (Int×Int×Int)):Yb ((Ya (Int×Int×Int))×Int):=
 ((kda [b,c]).bind λe=>if (e != 0)=true then (some ([],e)) else ((knP b c (λ(a:Int×Int)=>((ksS a.1 a.2).bind λi=>some i))).bind λf=>(kkq f).bind λg=>if (g != 0)=true then (some ([],4)) else (some (f,0))))
def law08_needed:Yb (Ya (Int×Int×Int)):=
 ((kbP 1 1 3).bind λb=>(kbP 2 1 2).bind λa=>some [b,a])
def law08_swap:Yb (Ya Swap):=
 (some [(2,1,1,1)])
def kdB (b:Swap):Yb Bool:=
 ((bthO tSwap (some b) (some b)).bind λa=>(kcs (a.1,a.2.1)).bind λc=>if (!c)=true then (some true) else ((kcs a.2.2).bind λe=>if (!e)=true then (some true) else (some ((a.1==a.2.2.1)&&(a.2.1==a.2.2.2)))))
def kaO (b:Ya Swap) (c:(Swap->Yb Bool)) (a:Int):Yb (Int⊕(Int⊕Unit)):=
 (if (decide (a<(lenI b)))=true then ((gi b a).bind λf=>(c f).bind λe=>if e=true then (some (.inr (.inl a))) else (some (.inl (w64 (a+1))))) else (some (.inr (.inr ()))))
def kbI (a:Ya Swap) (b:(Swap->Yb Bool)):Yb Int:=
 ((iter (kaO a b) 0).bind λc=>match c with | .inl v4=>(some v4) | .inr v5=>(some (-1)))
def kbt (b:Ya Swap) (c:(Swap->Yb Bool)):Yb Bool:=
 ((kbI b c).bind λa=>some (decide (0<=a)))
def kef (a:Ya Swap):Yb Int:=
 (if (decide (30<(lenI a)))=true then (some 2) else ((kbt a (λ(b:Swap)=>((kdB b).bind λe=>some e))).bind λc=>if c=true then (some 2) else (some 0)))
def kbj (e:Ya Swap) (b:Swap) (c:Int):Yb (Int⊕(Int⊕Unit)):=
 (if (decide (c<(lenI e)))=true then ((gi e c).bind λa=>if ((b.1==a.1)&&((b.2.1==a.2.1)&&((b.2.2.1==a.2.2.1)&&(b.2.2.2==a.2.2.2))))=true then (some (.inr (.inl c))) else (some (.inl (w64 (c+1))))) else (some (.inr (.inr ()))))
def kcl (b:Ya Swap) (c:Swap):Yb Int:=
 ((iter (kbj b c) 0).bind λa=>match a with | .inl v3=>(some v3) | .inr v4=>(some (-1)))
def kbO (b:Ya Swap) (c:Swap):Yb Bool:=
 ((kcl b c).bind λa=>some (decide (0<=a)))
def klt (e:Ya Swap) (a:Int×Int) (b:Int×Int):Yb Bool:=
 (if ((a.1==b.1)&&(a.2==b.2))=true then (some true) else ((kbO e (a.1,a.2,b)).bind λc=>some c))
def kbT (a:Int->(Ya Bool)->(Yb Flow)->Yb ((Ya Bool)×(Yb Flow))) (i:Int) (j:Flow) (b:Int×(Yb Flow)×(Ya Bool)):Yb ((Int×(Yb Flow)×(Ya Bool))⊕((Yb Flow)×(Ya Bool))):=
 (if (decide (b.1<(lenI j.2.2.1)))=true then (b.2.1.bind λg=>(gi g.2.2.1 b.1).bind λe=>(gi e i).bind λf=>if (decide (0<f))=true then ((a b.1 b.2.2 b.2.1).bind λc=>some (.inl ((w64 (b.1+1)),c.2,c.1))) else (some (.inl ((w64 (b.1+1)),b.2)))) else (some (.inr b.2)))
def kcJ (a:Int->(Ya Bool)->(Yb Flow)->Yb ((Ya Bool)×(Yb Flow))) (e:Ya Int) (b:Int×(Yb Flow)×(Ya Bool)):Yb ((Int×(Yb Flow)×(Ya Bool))⊕((Yb Flow)×(Ya Bool))):=
 (if (decide (b.1<(lenI e)))=true then ((gi e b.1).bind λf=>b.2.1.bind λg=>(iter (kbT a f g) (0,b.2)).bind λc=>some (.inl ((w64 (b.1+1)),c))) else (some (.inr b.2)))
def khD (a:Int->(Ya Bool)->(Yb Flow)->Yb ((Ya Bool)×(Yb Flow))) (b:Int) (c:Ya Bool) (f:Yb Flow):Yb ((Ya Bool)×(Yb Flow)):=
 ((gi c b).bind λl=>(gi c b).bind λj=>if j=true then (some (c,f)) else ((gi c b).bind λk=>f.bind λi=>(gi i.2.1 b).bind λg=>(iter (kcJ a g) (0,f,(lset c b true))).bind λe=>some (e.2,e.1)))
def kbe:Nat->Int->(Ya Bool)->(Yb Flow)->Yb ((Ya Bool)×(Yb Flow))
 | 0,_,_,_=>none
 | k+1,x0,x1,x2=>khD (kbe k) x0 x1 x2
def kfO (a:Int) (c:Ya Bool) (b:Yb Flow):Yb ((Ya Bool)×(Yb Flow)):=kbe 1000000 a c b
def kqB (b:Ya (Int×Int×Int)) (a:Int×(Ya (Int×Int×Int))×(Ya Int)):Yb ((Int×(Ya (Int×Int×Int))×(Ya Int))⊕((Ya (Int×Int×Int))×(Ya Int))):=
 (if (decide (a.1<(lenI b)))=true then ((gi b a.1).bind λe=>(gapp a.2.2 [e.2.2]).bind λc=>some (.inl ((w64 (a.1+1)),a.2.1,c))) else (some (.inr a.2)))
def kqt (i:Ya (Int×Int×Int)) (k:Ya Swap) (j:Int×Int×Int) (a:kaj):Yb (kaj⊕(Ya Int)):=
 (if (decide (a.1<(lenI i)))=true then ((gi i a.1).bind λf=>(kbC j).bind λg=>(kbC f).bind λb=>(klt k g b).bind λc=>if c=true then ((gapp a.2 [a.1]).bind λe=>some (.inl ((w64 (a.1+1)),e))) else (some (.inl ((w64 (a.1+1)),a.2)))) else (some (.inr a.2)))
def kqs (c:Ya (Int×Int×Int)) (z:Ya (Int×Int×Int)) (A:Ya Swap) (a:Int×(Ya (Int×Int×Int))×(Ya (Ya Int))×(Ya (Ya Int))):Yb ((Int×(Ya (Int×Int×Int))×(Ya (Ya Int))×(Ya (Ya Int)))⊕((Ya (Int×Int×Int))×(Ya (Ya Int))×(Ya (Ya Int)))):=
 (if (decide (a.1<(lenI z)))=true then ((gi z a.1).bind λB=>(iter (kqt c A B) (0,[])).bind λb=>bthO (.sm (.pr (.i .i64) (.pr (.sl (.pr (.i .i64) (.pr (.i .u8) (.i .i64)))) (.pr (.sl (.sl (.i .i64))) (.sl (.sl (.i .i64)))))) (.pr (.sl (.pr (.i .i64) (.pr (.i .u8) (.i .i64)))) (.pr (.sl (.sl (.i .i64))) (.sl (.sl (.i .i64)))))) ((gapp a.2.2.1 [b]).bind λy=>(gmk (lenI c) 0).bind λf=>(gapp a.2.2.2 [f]).bind λg=>some (.inl ((w64 (a.1+1)),a.2.1,y,g))) (bthO (.sm (.pr (.i .i64) (.pr (.sl (.pr (.i .i64) (.pr (.i .u8) (.i .i64)))) (.pr (.sl (.sl (.i .i64))) (.sl (.sl (.i .i64)))))) (.pr (.sl (.pr (.i .i64) (.pr (.i .u8) (.i .i64)))) (.pr (.sl (.sl (.i .i64))) (.sl (.sl (.i .i64)))))) ((gmk (lenI c) 0).bind λt=>(gapp a.2.2.1 [b]).bind λs=>(gapp a.2.2.2 [t]).bind λr=>some (.inl ((w64 (a.1+1)),a.2.1,s,r))) (bthO (.sm (.pr (.i .i64) (.pr (.sl (.pr (.i .i64) (.pr (.i .u8) (.i .i64)))) (.pr (.sl (.sl (.i .i64))) (.sl (.sl (.i .i64)))))) (.pr (.sl (.pr (.i .i64) (.pr (.i .u8) (.i .i64)))) (.pr (.sl (.sl (.i .i64))) (.sl (.sl (.i .i64)))))) ((gmk (lenI c) 0).bind λk=>(gapp a.2.2.1 [b]).bind λx=>(gapp a.2.2.2 [k]).bind λe=>some (.inl ((w64 (a.1+1)),a.2.1,x,e))) (bthO (.sm (.pr (.i .i64) (.pr (.sl (.pr (.i .i64) (.pr (.i .u8) (.i .i64)))) (.pr (.sl (.sl (.i .i64))) (.sl (.sl (.i .i64)))))) (.pr (.sl (.pr (.i .i64) (.pr (.i .u8) (.i .i64)))) (.pr (.sl (.sl (.i .i64))) (.sl (.sl (.i .i64)))))) ((gmk (lenI c) 0).bind λv=>(gapp a.2.2.1 [b]).bind λl=>(gapp a.2.2.2 [v]).bind λj=>some (.inl ((w64 (a.1+1)),a.2.1,l,j))) (bthO (.sm (.pr (.i .i64) (.pr (.sl (.pr (.i .i64) (.pr (.i .u8) (.i .i64)))) (.pr (.sl (.sl (.i .i64))) (.sl (.sl (.i .i64)))))) (.pr (.sl (.pr (.i .i64) (.pr (.i .u8) (.i .i64)))) (.pr (.sl (.sl (.i .i64))) (.sl (.sl (.i .i64)))))) ((gmk (lenI c) 0).bind λp=>(gapp a.2.2.1 [b]).bind λm=>(gapp a.2.2.2 [p]).bind λo=>some (.inl ((w64 (a.1+1)),a.2.1,m,o))) ((gmk (lenI c) 0).bind λw=>(gapp a.2.2.1 [b]).bind λu=>(gapp a.2.2.2 [w]).bind λn=>some (.inl ((w64 (a.1+1)),a.2.1,u,n)))))))) else (some (.inr a.2)))
def kcY (a:Ya (Int×Int×Int)) (b:Ya (Int×Int×Int)) (f:Ya Swap):Yb Int:=
 ((kda [a,b]).bind λe=>(if (e==0)=true then ((kef f).bind λi=>some i) else (some e)).bind λc=>if (c != 0)=true then (some c) else ((iter (kqB a) (0,b,[])).bind λj=>(iter (kqs a b f) (0,j.1,[],[])).bind λg=>none))
def kcT (b:Ya (Int×Int×Int)) (c:Ya (Int×Int×Int)) (g:Ya Swap):Yb (Int×Flow):=
 ((kda [b,c]).bind λe=>(if (e==0)=true then ((kef g).bind λj=>some j) else (some e)).bind λi=>if (i != 0)=true then none else ((iter (kqB b) (0,c,[])).bind λf=>(iter (kqs b c g) (0,f.1,[],[])).bind λa=>some (0,a.1,a.2.1,a.2.2,f.2)))
def kcD (b:Ya Bool) (a:Int×(Ya Bool)×(Yb Flow)):Yb ((Int×(Ya Bool)×(Yb Flow))⊕(Ya Bool)):=
 (if (decide (a.1<(lenI b)))=true then ((gi b a.1).bind λc=>if c=true then ((kfO a.1 a.2.1 a.2.2).bind λe=>some (.inl ((w64 (a.1+1)),e))) else (some (.inl ((w64 (a.1+1)),a.2)))) else (some (.inr a.2.1)))
def kdU (b:Ya Bool) (a:kaj):Yb (kaj⊕(Ya Int)):=
 (if (decide (a.1<(lenI b)))=true then ((gi b a.1).bind λf=>(gi b a.1).bind λe=>if e=true then ((gapp a.2 [a.1]).bind λc=>some (.inl ((w64 (a.1+1)),c))) else (some (.inl ((w64 (a.1+1)),a.2)))) else (some (.inr a.2)))
def kdy (b:Yb Flow) (a:Ya Bool):Yb (Ya Int):=
 ((gmk (lenI a) false).bind λe=>(iter (kcD a) (0,e,b)).bind λf=>(iter (kdU f) (0,[])).bind λc=>some c)
def kbv (c:Int->Int->(Ya (Int×Int×Int))->(Ya (Ya Int))->(Ya (Ya Int))->(Ya Int)->(Ya Bool)->Yb (Int×(Ya (Int×Int×Int))×(Ya (Ya Int))×(Ya (Ya Int))×(Ya Int)×(Ya Bool))) (i:Int) (z:Int) (H:Int×(Ya Bool)×Flow) (e:Int) (a:Int×(Ya (Int×Int×Int))×(Ya (Ya Int))×(Ya (Ya Int))×(Ya Int)×(Ya Bool)):Yb ((Int×(Ya (Int×Int×Int))×(Ya (Ya Int))×(Ya (Ya Int))×(Ya Int)×(Ya Bool))⊕((Int×(Ya (Int×Int×Int))×(Ya (Ya Int))×(Ya (Ya Int))×(Ya Int)×(Ya Bool))⊕((Ya (Int×Int×Int))×(Ya (Ya Int))×(Ya (Ya Int))×(Ya Int)×(Ya Bool)))):=
 (if (decide (a.1<(lenI H.2.2.2.2.1)))=true then ((gi a.2.2.2.1 a.1).bind λP=>(gi a.2.2.2.1 a.1).bind λy=>(gi a.2.2.2.1 a.1).bind λv=>(gi v e).bind λB=>(gi a.2.2.2.1 a.1).bind λk=>(gi k e).bind λs=>if (s==0)=true then (some (.inl ((w64 (a.1+1)),a.2))) else ((gi a.2.2.2.1 a.1).bind λD=>(gi a.2.2.2.1 a.1).bind λI=>(gi a.2.2.2.1 a.1).bind λw=>(gi w e).bind λO=>(gi a.2.2.2.1 a.1).bind λn=>(gi n e).bind λu=>(c a.1 (imin z u) a.2.1 a.2.2.1 a.2.2.2.1 a.2.2.2.2.1 a.2.2.2.2.2).bind λb=>if (decide (0<b.1))=true then ((gi b.2.2.2.1 a.1).bind λN=>(gi b.2.2.2.1 a.1).bind λG=>(gi b.2.2.2.1 a.1).bind λo=>(gi o e).bind λK=>(gi b.2.2.2.1 a.1).bind λt=>(gi t e).bind λg=>(gi b.2.2.2.1 a.1).bind λx=>(gi x e).bind λJ=>(gi b.2.2.2.1 a.1).bind λf=>(gi f e).bind λC=>(gi (lset b.2.2.2.1 a.1 (lset f e (w64 (g-b.1)))) i).bind λL=>(gi (lset b.2.2.2.1 a.1 (lset f e (w64 (g-b.1)))) i).bind λM=>(gi (lset b.2.2.2.1 a.1 (lset f e (w64 (g-b.1)))) i).bind λl=>(gi l e).bind λE=>(gi (lset b.2.2.2.1 a.1 (lset f e (w64 (g-b.1)))) i).bind λr=>(gi r e).bind λm=>(gi (lset b.2.2.2.1 a.1 (lset f e (w64 (g-b.1)))) i).bind λp=>(gi p e).bind λA=>(gi (lset b.2.2.2.1 a.1 (lset f e (w64 (g-b.1)))) i).bind λj=>(gi j e).bind λF=>some (.inr (.inl (b.1,b.2.1,b.2.2.1,(lset (lset b.2.2.2.1 a.1 (lset f e (w64 (g-b.1)))) i (lset j e (w64 (m+b.1)))),b.2.2.2.2)))) else (some (.inl ((w64 (a.1+1)),b.2))))) else (some (.inr (.inr a.2))))
def kbf (a:Int->Int->(Ya (Int×Int×Int))->(Ya (Ya Int))->(Ya (Ya Int))->(Ya Int)->(Ya Bool)->Yb (Int×(Ya (Int×Int×Int))×(Ya (Ya Int))×(Ya (Ya Int))×(Ya Int)×(Ya Bool))) (e:Int) (f:Int) (p:Ya Int) (b:Int×(Ya Bool)×Flow):Yb ((Int×(Ya Bool)×Flow)⊕((Int×(Ya (Int×Int×Int))×(Ya (Ya Int))×(Ya (Ya Int))×(Ya Int)×(Ya Bool))⊕((Ya Bool)×(Ya Int)×(Ya (Ya Int))×(Ya (Int×Int×Int))×(Ya (Ya Int))))):=
 (if (decide (b.1<(lenI p)))=true then ((gi p b.1).bind λc=>(gi b.2.1 c).bind λy=>(gi b.2.1 c).bind λs=>if s=true then (some (.inl ((w64 (b.1+1)),b.2))) else ((gi b.2.1 c).bind λB=>(gi b.2.2.2.2.2 c).bind λA=>(gi b.2.2.2.2.2 c).bind λi=>if (decide (0<(imin f i)))=true then ((gi b.2.2.2.2.2 c).bind λz=>(gi b.2.2.2.2.2 c).bind λn=>(gi b.2.2.2.2.2 c).bind λt=>(gi b.2.2.2.2.1 e).bind λr=>(gi b.2.2.2.2.1 e).bind λx=>(gi b.2.2.2.2.1 e).bind λl=>(gi l c).bind λu=>(gi b.2.2.2.2.1 e).bind λo=>(gi o c).bind λj=>(gi b.2.2.2.2.1 e).bind λk=>(gi k c).bind λw=>(gi b.2.2.2.2.1 e).bind λg=>(gi g c).bind λv=>some (.inr (.inl ((imin f i),b.2.2.1,b.2.2.2.1,(lset b.2.2.2.2.1 e (lset g c (w64 (j+(imin f i))))),(lset b.2.2.2.2.2 c (w64 (n-(imin f i)))),(lset b.2.1 c true))))) else ((iter (kbv a e f b c) (0,b.2.2.1,b.2.2.2.1,b.2.2.2.2.1,b.2.2.2.2.2,(lset b.2.1 c true))).bind λm=>match m with | .inl v57=>(some (.inr (.inl v57))) | .inr v58=>(some (.inl ((w64 (b.1+1)),v58.2.2.2.2,v58.1,v58.2.1,v58.2.2.1,v58.2.2.2.1)))))) else (some (.inr (.inr (b.2.1,b.2.2.2.2.2,b.2.2.2.2.1,b.2.2.1,b.2.2.2.1)))))
def kiB (a:Int->Int->(Ya (Int×Int×Int))->(Ya (Ya Int))->(Ya (Ya Int))->(Ya Int)->(Ya Bool)->Yb (Int×(Ya (Int×Int×Int))×(Ya (Ya Int))×(Ya (Ya Int))×(Ya Int)×(Ya Bool))) (b:Int) (g:Int) (k:Ya (Int×Int×Int)) (e:Ya (Ya Int)) (f:Ya (Ya Int)) (l:Ya Int) (i:Ya Bool):Yb (Int×(Ya (Int×Int×Int))×(Ya (Ya Int))×(Ya (Ya Int))×(Ya Int)×(Ya Bool)):=
 ((gi e b).bind λm=>(gi e b).bind λj=>(iter (kbf a b g j) (0,i,k,e,f,l)).bind λc=>match c with | .inl v60=>(some v60) | .inr v61=>(some (0,v61.2.2.2.1,v61.2.2.2.2,v61.2.2.1,v61.2.1,v61.1)))
def kbn:Nat->Int->Int->(Ya (Int×Int×Int))->(Ya (Ya Int))->(Ya (Ya Int))->(Ya Int)->(Ya Bool)->Yb (Int×(Ya (Int×Int×Int))×(Ya (Ya Int))×(Ya (Ya Int))×(Ya Int)×(Ya Bool))
 | 0,_,_,_,_,_,_,_=>none
 | k+1,x0,x1,x2,x3,x4,x5,x6=>kiB (kbn k) x0 x1 x2 x3 x4 x5 x6
def kgw (b:Int) (c:Int) (g:Ya (Int×Int×Int)) (f:Ya (Ya Int)) (a:Ya (Ya Int)) (i:Ya Int) (e:Ya Bool):Yb (Int×(Ya (Int×Int×Int))×(Ya (Ya Int))×(Ya (Ya Int))×(Ya Int)×(Ya Bool)):=kbn 1000000 b c g f a i e
def kcO (e:Int) (c:Int) (a:Int×(Ya (Int×Int×Int))×(Ya (Ya Int))×(Ya (Ya Int))×(Ya Int)×(Ya Bool)):Yb ((Int×(Ya (Int×Int×Int))×(Ya (Ya Int))×(Ya (Ya Int))×(Ya Int)×(Ya Bool))⊕(Int×Flow)):=
 (if (decide (a.1<c))=true then ((gmk (lenI a.2.2.2.2.1) false).bind λf=>(kgw e (w64 (c-a.1)) a.2.1 a.2.2.1 a.2.2.2.1 a.2.2.2.2.1 f).bind λb=>if (b.1==0)=true then (some (.inr (a.1,b.2.1,b.2.2.1,b.2.2.2.1,b.2.2.2.2.1))) else (some (.inl ((w64 (a.1+b.1)),b.2)))) else (some (.inr (a.1,a.2.1,a.2.2.1,a.2.2.2.1,a.2.2.2.2.1))))
def kcS (b:Int) (c:Int) (g:Ya (Int×Int×Int)) (f:Ya (Ya Int)) (a:Ya (Ya Int)) (i:Ya Int):Yb (Int×Flow):=
 ((iter (kcO b c) (0,g,f,a,i,[])).bind λe=>some e)
def kxK (b:Ya (Int×Int×Int)) (a:Int×Int):Yb ((Int×Int)⊕Int):=
 (if (decide (a.1<(lenI b)))=true then ((gi b a.1).bind λc=>none) else (some (.inr a.2)))
def khP (e:Ya (Int×Int×Int)) (a:Int×Int×(Ya (Int×Int×Int))×(Ya (Ya Int))×(Ya (Ya Int))×(Ya Int)×(Ya Bool)):Yb ((Int×Int×(Ya (Int×Int×Int))×(Ya (Ya Int))×(Ya (Ya Int))×(Ya Int)×(Ya Bool))⊕(Int×(Ya (Int×Int×Int))×(Ya (Ya Int))×(Ya (Ya Int))×(Ya Int)×(Ya Bool))):=
 (if (decide (a.1<(lenI e)))=true then ((gi e a.1).bind λc=>(kcS a.1 c.2.2 a.2.2.1 a.2.2.2.1 a.2.2.2.2.1 a.2.2.2.2.2.1).bind λb=>(gi a.2.2.2.2.2.2 a.1).bind λf=>some (.inl ((w64 (a.1+1)),(w64 (a.2.1+b.1)),b.2.1,b.2.2.1,b.2.2.2.1,b.2.2.2.2,(lset a.2.2.2.2.2.2 a.1 (decide (b.1<c.2.2)))))) else (some (.inr a.2)))
def klw (f:Ya (Int×Int×Int)) (b:Ya (Int×Int×Int)) (i:Ya Swap):Yb (kaj×Int):=
 (elsO ((kcY f b i).bind λg=>if (g != 0)=true then (some ((0,[]),g)) else ((gmk (lenI b) false).bind λl=>(iter (kxK b) (0,0)).bind λk=>(kdy none l).bind λj=>some ((k,j),0))) ((kcT f b i).bind λc=>if (c.1 != 0)=true then (some ((0,[]),c.1)) else ((gmk (lenI b) false).bind λm=>(iter (khP b) (0,0,c.2.1,c.2.2.1,c.2.2.2.1,c.2.2.2.2,m)).bind λa=>(kdy (some (a.2.1,a.2.2.1,a.2.2.2.1,a.2.2.2.2.1)) a.2.2.2.2.2).bind λe=>some ((a.1,e),0))))
def kjr (b:Int×Int×Int):Yb Bool:=
 ((kbW 0 10000 b.2.2).bind λa=>some (!a))
def kdT (b:Line) (a:Line):Yb Int:=
 (if (!(b.2.2.2.2==a.2.2.2.2))=true then (if a.2.2.2.2=true then (some (-1)) else (some 1)) else (some (w64 (a.2.1-b.2.1))))
def kaH (e:Int) (k:((Line×Line)->Yb Int)) (a:Int×(Ya Line)):Yb ((Int×(Ya Line))⊕(Ya Line)):=
 (if (decide (e<a.1))=true then ((gi a.2 a.1).bind λn=>(gi a.2 a.1).bind λi=>(gi a.2 (w64 (a.1-1))).bind λo=>(gi a.2 (w64 (a.1-1))).bind λg=>(k (i,g)).bind λj=>if (decide (j<0))=true then ((gi a.2 (w64 (a.1-1))).bind λp=>(gi a.2 (w64 (a.1-1))).bind λc=>(gi a.2 a.1).bind λm=>(gi a.2 a.1).bind λb=>(gi a.2 a.1).bind λl=>(gi (lset a.2 a.1 c) (w64 (a.1-1))).bind λf=>some (.inl ((w64 (a.1-1)),(lset (lset a.2 a.1 c) (w64 (a.1-1)) b)))) else (some (.inr a.2))) else (some (.inr a.2)))
def kaG (c:Int) (e:Int) (f:((Line×Line)->Yb Int)) (a:Int×(Ya Line)):Yb ((Int×(Ya Line))⊕(Ya Line)):=
 (if (decide (a.1<e))=true then ((iter (kaH c f) a).bind λb=>some (.inl ((w64 (a.1+1)),b))) else (some (.inr a.2)))
def kaA (b:Int) (c:Int) (f:((Line×Line)->Yb Int)) (e:Ya Line):Yb (Ya Line):=
 ((iter (kaG b c f) ((w64 (b+1)),e)).bind λa=>some a)
def kby (b:Int) (c:Int) (g:Int) (a:Int×(Ya Line)):Yb ((Int×(Ya Line))⊕(Ya Line)):=
 (if (decide (a.1<g))=true then ((gi a.2 (w64 (c+a.1))).bind λk=>(gi a.2 (w64 (c+a.1))).bind λe=>(gi a.2 (w64 (b+a.1))).bind λj=>(gi a.2 (w64 (b+a.1))).bind λf=>(gi a.2 (w64 (b+a.1))).bind λi=>(gi (lset a.2 (w64 (b+a.1)) e) (w64 (c+a.1))).bind λl=>some (.inl ((w64 (a.1+1)),(lset (lset a.2 (w64 (b+a.1)) e) (w64 (c+a.1)) f)))) else (some (.inr a.2)))
def kax (b:Int) (c:Int) (e:Int) (g:((Line×Line)->Yb Int)) (a:Ya Line):Yb (Ya Line):=
 ((iter (kby b c e) (0,a)).bind λf=>some f)
def kbS (b:Int) (c:((Line×Line)->Yb Int)) (a:Int×Int×(Ya Line)):Yb ((Int×Int×(Ya Line))⊕(Int×(Ya Line))):=
 (if (a.1 != a.2.1)=true then (if (decide (a.2.1<a.1))=true then ((kax (w64 (b-a.1)) b a.2.1 c a.2.2).bind λf=>some (.inl ((w64 (a.1-a.2.1)),a.2.1,f))) else ((kax (w64 (b-a.1)) (w64 ((w64 (b+a.2.1))-a.1)) a.1 c a.2.2).bind λe=>some (.inl (a.1,(w64 (a.2.1-a.1)),e)))) else (some (.inr (a.1,a.2.2))))
def kaQ (f:Int) (a:Int) (i:Int) (c:((Line×Line)->Yb Int)) (e:Ya Line):Yb (Ya Line):=
 ((iter (kbS a c) ((w64 (a-f)),(w64 (i-a)),e)).bind λb=>(kax (w64 (a-b.1)) a b.1 c b.2).bind λg=>some g)
def kba (e:Int) (i:((Line×Line)->Yb Int)) (b:Ya Line) (a:Int×Int):Yb ((Int×Int)⊕Int):=
 (if (decide (a.1<a.2))=true then ((gshr .u64 (IntKind.wrap .u64 (w64 (a.1+a.2))) 1).bind λc=>(gi b (w64 c)).bind λk=>(gi b (w64 c)).bind λg=>(gi b e).bind λl=>(gi b e).bind λf=>(i (g,f)).bind λj=>if (decide (j<0))=true then (some (.inl ((w64 ((w64 c)+1)),a.2))) else (some (.inl (a.1,(w64 c))))) else (some (.inr a.1)))
def kaW (i:Int) (a:Int×(Ya Line)):Yb ((Int×(Ya Line))⊕(Ya Line)):=
 (if (decide (a.1<(w64 (i-1))))=true then ((gi a.2 (w64 (a.1+1))).bind λj=>(gi a.2 (w64 (a.1+1))).bind λb=>(gi a.2 a.1).bind λg=>(gi a.2 a.1).bind λc=>(gi a.2 a.1).bind λe=>(gi (lset a.2 a.1 b) (w64 (a.1+1))).bind λf=>some (.inl ((w64 (a.1+1)),(lset (lset a.2 a.1 b) (w64 (a.1+1)) c)))) else (some (.inr a.2)))
def kaX (i:Int) (l:((Line×Line)->Yb Int)) (c:Ya Line) (a:Int×Int):Yb ((Int×Int)⊕Int):=
 (if (decide (a.1<a.2))=true then ((gshr .u64 (IntKind.wrap .u64 (w64 (a.1+a.2))) 1).bind λb=>(gi c i).bind λj=>(gi c i).bind λg=>(gi c (w64 b)).bind λk=>(gi c (w64 b)).bind λe=>(l (g,e)).bind λf=>if (!(decide (f<0)))=true then (some (.inl ((w64 ((w64 b)+1)),a.2))) else (some (.inl (a.1,(w64 b))))) else (some (.inr a.1)))
def kaY (e:Int) (a:Int×(Ya Line)):Yb ((Int×(Ya Line))⊕(Ya Line)):=
 (if (decide (e<a.1))=true then ((gi a.2 (w64 (a.1-1))).bind λj=>(gi a.2 (w64 (a.1-1))).bind λb=>(gi a.2 a.1).bind λf=>(gi a.2 a.1).bind λc=>(gi a.2 a.1).bind λg=>(gi (lset a.2 a.1 b) (w64 (a.1-1))).bind λi=>some (.inl ((w64 (a.1-1)),(lset (lset a.2 a.1 b) (w64 (a.1-1)) c)))) else (some (.inr a.2)))
def kaZ (j:Int) (m:((Line×Line)->Yb Int)) (e:Ya Line) (c:Int) (a:Int×Int):Yb ((Int×Int)⊕Int):=
 (if (decide (a.1<a.2))=true then ((gshr .u64 (IntKind.wrap .u64 (w64 (a.1+a.2))) 1).bind λb=>(gi e (w64 ((w64 ((w64 ((w64 c)+j))-1))-(w64 b)))).bind λl=>(gi e (w64 ((w64 ((w64 ((w64 c)+j))-1))-(w64 b)))).bind λg=>(gi e (w64 b)).bind λk=>(gi e (w64 b)).bind λi=>(m (g,i)).bind λf=>if (!(decide (f<0)))=true then (some (.inl ((w64 ((w64 b)+1)),a.2))) else (some (.inl (a.1,(w64 b))))) else (some (.inr a.1)))
def kbH (rec_slices_symMergeCmpFunc_box_line_m0:Int->Int->Int->((Line×Line)->Yb Int)->(Ya Line)->Yb (Ya Line)) (e:Int) (c:Int) (j:Int) (i:((Line×Line)->Yb Int)) (f:Ya Line):Yb (Ya Line):=
 (if ((w64 (c-e))==1)=true then ((iter (kba e i f) (c,j)).bind λv=>(iter (kaW v) (e,f)).bind λp=>some p) else (if ((w64 (j-c))==1)=true then ((iter (kaX c i f) (e,c)).bind λt=>(iter (kaY t) (c,f)).bind λs=>some s) else ((gshr .u64 (IntKind.wrap .u64 (w64 (e+j))) 1).bind λa=>(if (decide ((w64 a)<c))=true then (some ((w64 ((w64 ((w64 a)+c))-j)),(w64 a))) else (some (e,c))).bind λn=>(iter (kaZ c i f a) n).bind λb=>(if (decide (b<c))=true then (some (decide (c<(w64 ((w64 ((w64 a)+c))-b))))) else (some false)).bind λu=>(if u=true then ((kaQ b c (w64 ((w64 ((w64 a)+c))-b)) i f).bind λo=>some o) else (some f)).bind λk=>(if (decide (e<b))=true then (some (decide (b<(w64 a)))) else (some false)).bind λm=>(if m=true then ((rec_slices_symMergeCmpFunc_box_line_m0 e b (w64 a) i k).bind λr=>some r) else (some k)).bind λg=>if (decide ((w64 a)<(w64 ((w64 ((w64 a)+c))-b))))=true then (if (decide ((w64 ((w64 ((w64 a)+c))-b))<j))=true then ((rec_slices_symMergeCmpFunc_box_line_m0 (w64 a) (w64 ((w64 ((w64 a)+c))-b)) j i g).bind λl=>some l) else (some g)) else (some g))))
def kaq:Nat->Int->Int->Int->((Line×Line)->Yb Int)->(Ya Line)->Yb (Ya Line)
 | 0,_,_,_,_,_=>none
 | k+1,x0,x1,x2,x3,x4=>kbH (kaq k) x0 x1 x2 x3 x4
def kaJ (b:Int) (c:Int) (f:Int) (e:((Line×Line)->Yb Int)) (a:Ya Line):Yb (Ya Line):=kaq 1000000 b c f e a
def kbg (c:Int) (e:((Line×Line)->Yb Int)) (a:Int×Int×(Ya Line)):Yb ((Int×Int×(Ya Line))⊕(Int×(Ya Line))):=
 (if (decide (a.1<=c))=true then ((kaA a.2.1 a.1 e a.2.2).bind λb=>some (.inl ((w64 (a.1+20)),a.1,b))) else (some (.inr a.2)))
def kbh (c:Int) (e:((Line×Line)->Yb Int)) (b:Int×(Ya Line)) (a:Int×Int×(Ya Line)):Yb ((Int×Int×(Ya Line))⊕(Int×(Ya Line))):=
 (if (decide (a.1<=c))=true then ((kaJ a.2.1 (w64 (a.2.1+b.1)) a.1 e a.2.2).bind λf=>some (.inl ((w64 (a.1+(w64 (2*b.1)))),a.1,f))) else (some (.inr a.2)))
def kbR (c:Int) (e:((Line×Line)->Yb Int)) (a:Int×(Ya Line)):Yb ((Int×(Ya Line))⊕(Ya Line)):=
 (if (decide (a.1<c))=true then ((iter (kbh c e a) ((w64 (2*a.1)),0,a.2)).bind λb=>if (decide ((w64 (b.1+a.1))<c))=true then ((kaJ b.1 (w64 (b.1+a.1)) c e b.2).bind λf=>some (.inl ((w64 (a.1*2)),f))) else (some (.inl ((w64 (a.1*2)),b.2)))) else (some (.inr a.2)))
def kbs (a:Int) (b:((Line×Line)->Yb Int)) (g:Ya Line):Yb (Ya Line):=
 ((iter (kbg a b) (20,0,g)).bind λc=>(kaA c.1 a b c.2).bind λf=>(iter (kbR a b) (20,f)).bind λe=>some e)
def kau (c:((Line×Line)->Yb Int)) (a:Ya Line):Yb (Ya Line):=
 ((kbs (lenI a) c a).bind λb=>some b)
def kbd (b:Int×Int) (a:Ya ((Int×Int)×Int)) (f:Bool) (c:Int) (e:Int) (g:Int):Yb ((Ya ((Int×Int)×Int))×Bool×Int×Int×Int):=
 (if (mget a b).isSome=true then (if (!f)=true then (some (a,true,((mget a b).getD 0),b)) else (if (decide (((mget a b).getD 0)<c))=true then (some (a,true,((mget a b).getD 0),b)) else (if (((mget a b).getD 0)==c)=true then ((kfH b (e,g)).bind λi=>if (decide (i<0))=true then (some (a,true,((mget a b).getD 0),b)) else (some (a,f,c,e,g))) else (some (a,f,c,e,g))))) else (some (a,f,c,e,g)))
def kgT (c:Ya Swap) (e:Int×Int) (a:Int×(Ya ((Int×Int)×Int))×Bool×Int×Int×Int):Yb ((Int×(Ya ((Int×Int)×Int))×Bool×Int×Int×Int)⊕(Int×Int×Int×Bool×(Ya ((Int×Int)×Int)))):=
 (if (decide (a.1<(lenI c)))=true then ((gi c a.1).bind λb=>if ((e.1==b.1)&&(e.2==b.2.1))=true then ((kbd b.2.2 a.2.1 a.2.2.1 a.2.2.2.1 a.2.2.2.2.1 a.2.2.2.2.2).bind λf=>some (.inl ((w64 (a.1+1)),f))) else (some (.inl ((w64 (a.1+1)),a.2)))) else (some (.inr (a.2.2.2.1,a.2.2.2.2.1,a.2.2.2.2.2,a.2.2.1,a.2.1))))
def kdn (b:Ya Swap) (a:Int×Int) (f:Ya ((Int×Int)×Int)):Yb (Int×Int×Int×Bool×(Ya ((Int×Int)×Int))):=
 ((kbd a f false 0 0 0).bind λc=>(iter (kgT b a) (0,c)).bind λe=>some e)
def kzs (b:Ya (Int×Int×Int)) (a:Int×(Ya ((Int×Int)×Int))):Yb ((Int×(Ya ((Int×Int)×Int)))⊕(Ya ((Int×Int)×Int))):=
 (if (decide (a.1<(lenI b)))=true then ((gi b a.1).bind λc=>(kbC c).bind λe=>some (.inl ((w64 (a.1+1)),(mput a.2 e c.2.2)))) else (some (.inr a.2)))
def kzb (e:Ya (Int×Int×Int)) (i:Ya Swap) (b:Int×(Ya ((Int×Int)×Int))×(Ya Line)):Yb ((Int×(Ya ((Int×Int)×Int))×(Ya Line))⊕(Ya Line)):=
 (if (decide (b.1<(lenI e)))=true then ((gi e b.1).bind λf=>(kbC f).bind λg=>(kdn i g b.2.1).bind λa=>(gapp b.2.2 [(b.1,a.1,f.2.2,(a.2.1,a.2.2.1),a.2.2.2.1)]).bind λc=>some (.inl ((w64 (b.1+1)),a.2.2.2.2,c))) else (some (.inr b.2.2)))
def kzq (b:Ya Line) (a:Int):Yb (Int⊕((Bill×Int)⊕Unit)):=
 (if (decide (a<(lenI b)))=true then ((gi b a).bind λc=>(gi b a).bind λe=>none) else (some (.inr (.inr ()))))
def kzt (f:Ya (Int×Int×Int)) (a:Int×Int×Int×(Ya (Int×Int×Int))):Yb ((Int×Int×Int×(Ya (Int×Int×Int)))⊕((Bill×Int)⊕(Int×(Ya (Int×Int×Int))×Int))):=
 (if (decide (a.1<(lenI f)))=true then ((gi f a.1).bind λb=>(kbC b).bind λc=>if (decide (1000<((mget [] c).getD 0)))=true then (some (.inr (.inl (([],[],0),4)))) else (if (decide (0<((mget [] c).getD 0)))=true then ((gapp a.2.2.2 [(b.1,b.2.1,((mget [] c).getD 0))]).bind λe=>some (.inl ((w64 (a.1+1)),a.2.1,a.2.2.1,e))) else (some (.inl ((w64 (a.1+1)),a.2))))) else (some (.inr (.inr (a.2.2.1,a.2.2.2,a.2.1)))))
def klg (e:Ya (Int×Int×Int)) (a:Int×(Ya ((Int×Int)×Int))):Yb ((Int×(Ya ((Int×Int)×Int)))⊕(Ya ((Int×Int)×Int))):=
 (if (decide (a.1<(lenI e)))=true then ((gi e a.1).bind λb=>(kbC b).bind λc=>some (.inl ((w64 (a.1+1)),(mput a.2 c b.2.2)))) else (some (.inr a.2)))
def kln (g:Ya (Int×Int×Int)) (i:Ya Swap) (a:Int×(Ya ((Int×Int)×Int))×(Ya Line)):Yb ((Int×(Ya ((Int×Int)×Int))×(Ya Line))⊕(Ya Line)):=
 (if (decide (a.1<(lenI g)))=true then ((gi g a.1).bind λc=>(kbC c).bind λe=>(kdn i e a.2.1).bind λb=>(gapp a.2.2 [(a.1,b.1,c.2.2,(b.2.1,b.2.2.1),b.2.2.2.1)]).bind λf=>some (.inl ((w64 (a.1+1)),b.2.2.2.2,f))) else (some (.inr a.2.2)))
def klk (e:Ya Line) (a:Int×(Ya (Int×Int×Int))×(Ya (Ya Int))×(Ya (Ya Int))×(Ya Int)×Int×(Ya Int)×Int×(Ya ((Int×Int)×Int))):Yb ((Int×(Ya (Int×Int×Int))×(Ya (Ya Int))×(Ya (Ya Int))×(Ya Int)×Int×(Ya Int)×Int×(Ya ((Int×Int)×Int)))⊕((Bill×Int)⊕((Ya ((Int×Int)×Int))×Int×kaj))):=
 (if (decide (a.1<(lenI e)))=true then ((gi e a.1).bind λg=>(gi e a.1).bind λb=>(kcS b.1 b.2.2.1 a.2.1 a.2.2.1 a.2.2.2.1 a.2.2.2.2.1).bind λc=>(gi a.2.2.2.2.2.2.1 b.1).bind λj=>(if (decide (c.1<b.2.2.1))=true then (some (!b.2.2.2.2)) else (some false)).bind λf=>if f=true then (some (.inr (.inl (([],[],0),80)))) else (bthO (.sm (.pr (.i .i64) (.pr (.sl (.pr (.i .i64) (.pr (.i .u8) (.i .i64)))) (.pr (.sl (.sl (.i .i64))) (.pr (.sl (.sl (.i .i64))) (.pr (.sl (.i .i64)) (.pr (.i .i64) (.pr (.sl (.i .i64)) (.pr (.i .i64) (.sl (.pr (.pr (.i .i64) (.i .u8)) (.i .i64))))))))))) (.sm (.pr tBill (.i .i64)) (.pr (.sl (.pr (.pr (.i .i64) (.i .u8)) (.i .i64))) (.pr (.i .i64) kyt)))) ((gi (ment a.2.2.2.2.2.2.2.2 b.2.2.2.1 0) (midx a.2.2.2.2.2.2.2.2 b.2.2.2.1)).bind λk=>some (.inl ((w64 (a.1+1)),c.2.1,c.2.2.1,c.2.2.2.1,c.2.2.2.2,(w64 (a.2.2.2.2.2.1+(w64 ((w64 (b.2.2.1-c.1))*b.2.1)))),(lset a.2.2.2.2.2.2.1 b.1 c.1),a.2.2.2.2.2.2.2.1,(mset (ment a.2.2.2.2.2.2.2.2 b.2.2.2.1 0) (midx a.2.2.2.2.2.2.2.2 b.2.2.2.1) (w64 (((mget a.2.2.2.2.2.2.2.2 b.2.2.2.1).getD 0)+(w64 (b.2.2.1-c.1)))))))) ((gi (ment a.2.2.2.2.2.2.2.2 b.2.2.2.1 0) (midx a.2.2.2.2.2.2.2.2 b.2.2.2.1)).bind λl=>some (.inl ((w64 (a.1+1)),c.2.1,c.2.2.1,c.2.2.2.1,c.2.2.2.2,(w64 (a.2.2.2.2.2.1+(w64 ((w64 (b.2.2.1-c.1))*b.2.1)))),(lset a.2.2.2.2.2.2.1 b.1 c.1),a.2.2.2.2.2.2.2.1,(mset (ment a.2.2.2.2.2.2.2.2 b.2.2.2.1 0) (midx a.2.2.2.2.2.2.2.2 b.2.2.2.1) (w64 (((mget (ment a.2.2.2.2.2.2.2.2 b.2.2.2.1 0) b.2.2.2.1).getD 0)+(w64 (b.2.2.1-c.1)))))))))) else (some (.inr (.inr (a.2.2.2.2.2.2.2.2,a.2.2.2.2.2.2.2.1,a.2.2.2.2.2.1,a.2.2.2.2.2.2.1)))))
def kli (g:Ya (Int×Int×Int)) (c:(Ya ((Int×Int)×Int))×Int×kaj) (a:Int×Int×Int×(Ya (Int×Int×Int))):Yb ((Int×Int×Int×(Ya (Int×Int×Int)))⊕((Bill×Int)⊕(Int×(Ya (Int×Int×Int))×Int))):=
 (if (decide (a.1<(lenI g)))=true then ((gi g a.1).bind λb=>(kbC b).bind λe=>if (decide (1000<((mget c.1 e).getD 0)))=true then (some (.inr (.inl (([],[],0),4)))) else (if (decide (0<((mget c.1 e).getD 0)))=true then ((gapp a.2.2.2 [(b.1,b.2.1,((mget c.1 e).getD 0))]).bind λf=>some (.inl ((w64 (a.1+1)),a.2.1,a.2.2.1,f))) else (some (.inl ((w64 (a.1+1)),a.2))))) else (some (.inr (.inr (a.2.2.1,a.2.2.2,a.2.1)))))
def kiz (x:Ya (Int×Int×Int)) (f:Ya (Int×Int×Int)) (g:Ya Swap) (e:Ya (Int×Int×Int)):Yb (Bill×Int):=
 (elsO ((kcY x f g).bind λw=>if (w != 0)=true then (some (([],[],0),w)) else ((kdS e 60 (λ(a:Int×Int×Int)=>((kbC a).bind λc=>some c))).bind λz=>if (!z)=true then (some (([],[],0),2)) else ((kaB e (λ(a:Int×Int×Int)=>((kjr a).bind λc=>some c))).bind λy=>if y=true then (some (([],[],0),2)) else ((iter (kzs e) (0,[])).bind λA=>(iter (kzb f g) (0,A,[])).bind λi=>(kau (λ(a:Line×Line)=>((kdT a.1 a.2).bind λc=>some c)) i).bind λt=>(gmk (lenI f) 0).bind λo=>(iter (kzq t) 0).bind λj=>match j with | .inl v19=>(some v19) | .inr v20=>((iter (kzt e) (0,0,0,[])).bind λu=>match u with | .inl v26=>(some v26) | .inr v27=>(some ((o,v27.2.1,v27.1),0))))))) ((kcT x f g).bind λb=>if (b.1 != 0)=true then (some (([],[],0),b.1)) else ((kdS e 60 (λ(a:Int×Int×Int)=>((kbC a).bind λc=>some c))).bind λm=>if (!m)=true then (some (([],[],0),2)) else ((kaB e (λ(a:Int×Int×Int)=>((kjr a).bind λc=>some c))).bind λp=>if p=true then (some (([],[],0),2)) else ((iter (klg e) (0,[])).bind λs=>(iter (kln f g) (0,s,[])).bind λr=>(kau (λ(a:Line×Line)=>((kdT a.1 a.2).bind λc=>some c)) r).bind λk=>(gmk (lenI f) 0).bind λv=>(iter (klk k) (0,b.2.1,b.2.2.1,b.2.2.2.1,b.2.2.2.2,0,v,0,[])).bind λl=>match l with | .inl v52=>(some v52) | .inr v53=>((iter (kli e v53) (0,v53.2.1,v53.2.2.1,[])).bind λn=>match n with | .inl v59=>(some v59) | .inr v60=>(some ((v53.2.2.2,v60.2.1,v60.1),0))))))))
def law08_plans:Yb (Ya (Ya (Int×Int×Int))):=
 ((kbP 1 1 2).bind λb=>(kbP 1 1 1).bind λa=>(kbP 1 1 3).bind λc=>some [[b],[a],[c]])
def knb (b:Int):Yb Bool:=
 ((kbW 0 1000 b).bind λa=>some (!a))
def kjx (b:Ya Int) (c:(Int->Yb Bool)) (a:Int):Yb (Int⊕(Int⊕Unit)):=
 (if (decide (a<(lenI b)))=true then ((gi b a).bind λf=>(c f).bind λe=>if e=true then (some (.inr (.inl a))) else (some (.inl (w64 (a+1))))) else (some (.inr (.inr ()))))
def kdv (a:Ya Int) (b:(Int->Yb Bool)):Yb Int:=
 ((iter (kjx a b) 0).bind λc=>match c with | .inl v4=>(some v4) | .inr v5=>(some (-1)))
def kfo (b:Ya Int) (c:(Int->Yb Bool)):Yb Bool:=
 ((kdv b c).bind λa=>some (decide (0<=a)))
def krc (a:Ya (Ya (Int×Int×Int))) (b:Ya Int):Yb Int:=
 ((kda a).bind λc=>if (c != 0)=true then (some c) else (if (decide (8<(lenI a)))=true then (some 4) else (if ((lenI b) != (lenI a))=true then (some 2) else ((kfo b (λ(e:Int)=>((knb e).bind λf=>some f))).bind λg=>if g=true then (some 2) else (some 0)))))
def kqU (a:Int) (b:Int):Yb Int:=
 (some (w64 (a-b)))
def kqW (a:Int×Int×Int):Yb Bool:=
 (some (decide (a.2.2<0)))
def kre (c:Ya (Int×Int×Int)) (e:Ya (Int×Int×Int)):Yb ((Ya (Int×Int×Int))×Int):=
 ((kda [c,e]).bind λf=>if (f != 0)=true then (some ([],f)) else ((knP c e (λ(a:Int×Int)=>((kqU a.1 a.2).bind λb=>some b))).bind λg=>(kaB g (λ(a:Int×Int×Int)=>((kqW a).bind λb=>some b))).bind λi=>if i=true then (some ([],6)) else (some (g,0))))
def kaC (a:Ya (Int×Int×Int)):Yb (Ya (Int×Int×Int)):=
 (if (isE a)=true then (bthO (.sl (.pr (.i .i64) (.pr (.i .u8) (.i .i64)))) (some []) ((gapp [] a).bind λc=>some c)) else ((gapp [] a).bind λb=>some b))
def kcV:Nat->Ya (Ya (Int×Int×Int))->Int->Int->Ya (Int×Int×Int)->Yb (Ya (Int×Ya (Int×Int×Int)))
 | 0,_,_,_,_=>none
 | d+1,ps,i,s,l=>
  if i=lenI ps then some [(s,l)] else
   (gi ps i).bind λp=>(kre l p).bind λr=>
    if r.2=0 then (gshl .i64 1 i).bind λb=>(kcV d ps (w64 (i+1)) (bitsI .or .i64 s b) r.1).bind λx=>(kcV d ps (w64 (i+1)) s l).bind λy=>some (x++y)
    else kcV d ps (w64 (i+1)) s l
def kiR (_:Yb (Ya (Int×Ya (Int×Int×Int)))) (a:Ya (Ya (Int×Int×Int))) (b:Ya (Int×Int×Int)):Yb (Ya (Int×Ya (Int×Int×Int))):=
 (kaC b).bind λl=>kcV (a.length+1) a 0 0 l
def kpr (a:Ya (Int×Int×Int)) (b:Ya (Ya (Int×Int×Int))):Yb ((Ya (Ya (Int×Int×Int)))×(Ya (Int×Int×Int))):=
 (some (b,a))
def ktZ (c:Int) (b:Ya Int) (a:Int×kaj):Yb ((Int×kaj)⊕kaj):=
 (if (decide (a.1<(lenI b)))=true then ((gi b a.1).bind λg=>(gshr .i64 c a.1).bind λe=>if ((bitsI .and .i64 e 1)==1)=true then ((gapp a.2.2 [a.1]).bind λf=>some (.inl ((w64 (a.1+1)),(w64 (a.2.1+g)),f))) else (some (.inl ((w64 (a.1+1)),a.2)))) else (some (.inr a.2)))
def krb (b:Int) (c:Ya Int):Yb ((Ya Int)×Int):=
 ((iter (ktZ b c) (0,0,[])).bind λa=>some (a.2,a.1))
def kkr (b:Ya Int) (c:Ya Int) (a:Int):Yb (Int⊕(Int⊕Unit)):=
 (if (decide (a<(lenI b)))=true then ((gi b a).bind λg=>if (decide ((lenI c)<=a))=true then (some (.inr (.inl 1))) else ((gi c a).bind λf=>(kbo g f).bind λe=>if (e != 0)=true then (some (.inr (.inl e))) else (some (.inl (w64 (a+1)))))) else (some (.inr (.inr ()))))
def kgR (a:Ya Int) (b:Ya Int):Yb Int:=
 ((iter (kkr a b) 0).bind λc=>match c with | .inl v5=>(some v5) | .inr v6=>(if (decide ((lenI a)<(lenI b)))=true then (some (-1)) else (some 0)))
def kuX (l:Ya Int) (i:Ya (Int×(Ya (Int×Int×Int)))) (a:Int×koJ):Yb ((Int×koJ)⊕((koJ×Int)⊕koJ)):=
 (if (decide (a.1<(lenI i)))=true then ((gi i a.1).bind λf=>(krb f.1 l).bind λb=>if (decide (a.2.2.1<b.2))=true then ((kaC f.2).bind λk=>some (.inl ((a.1+1),b.1,b.2,k))) else (if (b.2==a.2.2.1)=true then ((kbo (lenI b.1) (lenI a.2.1)).bind λj=>(kgR b.1 a.2.1).bind λe=>(kfU [j,e]).bind λg=>if (decide (g<0))=true then ((kaC f.2).bind λc=>some (.inl ((a.1+1),b.1,b.2,c))) else (some (.inl ((a.1+1),a.2)))) else (some (.inl ((a.1+1),a.2))))) else (some (.inr (.inr a.2))))
def ksG (b:Ya (Int×Int×Int)) (c:Ya (Ya (Int×Int×Int))) (i:Ya Int):Yb (koJ×Int):=
 ((kda [b]).bind λf=>(if (f==0)=true then ((krc c i).bind λk=>some k) else (some f)).bind λe=>if (e != 0)=true then (some (([],0,[]),e)) else ((kpr b c).bind λg=>(runI λo=>kiR o g.1 g.2).bind λj=>(iter (kuX i j) (0,[],(-1),[])).bind λa=>match a with | .inl v14=>(some v14) | .inr v15=>(some (v15,0))))
def kit (o:Yb (Ya Int)) (b:Ya Int) (a:kaj):Yb (kaj⊕((Ya Int)⊕(Ya Int))):=
 (if (decide (a.1<(lenI b)))=true then ((gi b a.1).bind λe=>(gpre (.i .i64) o a.2 e).bind λc=>some (.inl ((w64 (a.1+1)),c))) else (some (.inr (.inr a.2))))
def kfl (o:Yb (Ya Int)) (a:Ya Int):Yb (Ya Int):=
 ((iter (kit o a) (0,[])).bind λb=>match b with | .inl v4=>(some v4) | .inr v5=>(some v5))
def kgb (a:Ya Int):Yb (Ya Int):=
 (some a)
def ksI (b:Int):Yb Int:=
 ((if (decide (65536<=b))=true then ((gshr .u32 b 16).bind λe=>some (e,16)) else (some (b,0))).bind λa=>if (decide (256<=a.1))=true then ((gshr .u32 a.1 8).bind λc=>(gstr [0,1,2,2,3,3,3,3,4,4,4,4,4,4,4,4,5,5,5,5,5,5,5,5,5,5,5,5,5,5,5,5,6,6,6,6,6,6,6,6,6,6,6,6,6,6,6,6,6,6,6,6,6,6,6,6,6,6,6,6,6,6,6,6,7,7,7,7,7,7,7,7,7,7,7,7,7,7,7,7,7,7,7,7,7,7,7,7,7,7,7,7,7,7,7,7,7,7,7,7,7,7,7,7,7,7,7,7,7,7,7,7,7,7,7,7,7,7,7,7,7,7,7,7,7,7,7,7,8,8,8,8,8,8,8,8,8,8,8,8,8,8,8,8,8,8,8,8,8,8,8,8,8,8,8,8,8,8,8,8,8,8,8,8,8,8,8,8,8,8,8,8,8,8,8,8,8,8,8,8,8,8,8,8,8,8,8,8,8,8,8,8,8,8,8,8,8,8,8,8,8,8,8,8,8,8,8,8,8,8,8,8,8,8,8,8,8,8,8,8,8,8,8,8,8,8,8,8,8,8,8,8,8,8,8,8,8,8,8,8,8,8,8,8,8,8,8,8,8,8,8,8,8,8,8,8] (IntKind.wrap .u8 c)).bind λg=>some (w64 ((w64 (a.2+8))+(w64 g)))) else ((gstr [0,1,2,2,3,3,3,3,4,4,4,4,4,4,4,4,5,5,5,5,5,5,5,5,5,5,5,5,5,5,5,5,6,6,6,6,6,6,6,6,6,6,6,6,6,6,6,6,6,6,6,6,6,6,6,6,6,6,6,6,6,6,6,6,7,7,7,7,7,7,7,7,7,7,7,7,7,7,7,7,7,7,7,7,7,7,7,7,7,7,7,7,7,7,7,7,7,7,7,7,7,7,7,7,7,7,7,7,7,7,7,7,7,7,7,7,7,7,7,7,7,7,7,7,7,7,7,7,8,8,8,8,8,8,8,8,8,8,8,8,8,8,8,8,8,8,8,8,8,8,8,8,8,8,8,8,8,8,8,8,8,8,8,8,8,8,8,8,8,8,8,8,8,8,8,8,8,8,8,8,8,8,8,8,8,8,8,8,8,8,8,8,8,8,8,8,8,8,8,8,8,8,8,8,8,8,8,8,8,8,8,8,8,8,8,8,8,8,8,8,8,8,8,8,8,8,8,8,8,8,8,8,8,8,8,8,8,8,8,8,8,8,8,8,8,8,8,8,8,8,8,8,8,8,8,8] (IntKind.wrap .u8 a.1)).bind λf=>some (w64 (a.2+(w64 f)))))
def kmn (c:Int):Yb Int:=
 ((if (decide (4294967296<=c))=true then ((gshr .u64 c 32).bind λg=>some (g,32)) else (some (c,0))).bind λb=>(if (decide (65536<=b.1))=true then ((gshr .u64 b.1 16).bind λf=>some (f,(w64 (b.2+16)))) else (some b)).bind λa=>if (decide (256<=a.1))=true then ((gshr .u64 a.1 8).bind λi=>(gstr [0,1,2,2,3,3,3,3,4,4,4,4,4,4,4,4,5,5,5,5,5,5,5,5,5,5,5,5,5,5,5,5,6,6,6,6,6,6,6,6,6,6,6,6,6,6,6,6,6,6,6,6,6,6,6,6,6,6,6,6,6,6,6,6,7,7,7,7,7,7,7,7,7,7,7,7,7,7,7,7,7,7,7,7,7,7,7,7,7,7,7,7,7,7,7,7,7,7,7,7,7,7,7,7,7,7,7,7,7,7,7,7,7,7,7,7,7,7,7,7,7,7,7,7,7,7,7,7,8,8,8,8,8,8,8,8,8,8,8,8,8,8,8,8,8,8,8,8,8,8,8,8,8,8,8,8,8,8,8,8,8,8,8,8,8,8,8,8,8,8,8,8,8,8,8,8,8,8,8,8,8,8,8,8,8,8,8,8,8,8,8,8,8,8,8,8,8,8,8,8,8,8,8,8,8,8,8,8,8,8,8,8,8,8,8,8,8,8,8,8,8,8,8,8,8,8,8,8,8,8,8,8,8,8,8,8,8,8,8,8,8,8,8,8,8,8,8,8,8,8,8,8,8,8,8,8] (IntKind.wrap .u8 i)).bind λe=>some (w64 ((w64 (a.2+8))+(w64 e)))) else ((gstr [0,1,2,2,3,3,3,3,4,4,4,4,4,4,4,4,5,5,5,5,5,5,5,5,5,5,5,5,5,5,5,5,6,6,6,6,6,6,6,6,6,6,6,6,6,6,6,6,6,6,6,6,6,6,6,6,6,6,6,6,6,6,6,6,7,7,7,7,7,7,7,7,7,7,7,7,7,7,7,7,7,7,7,7,7,7,7,7,7,7,7,7,7,7,7,7,7,7,7,7,7,7,7,7,7,7,7,7,7,7,7,7,7,7,7,7,7,7,7,7,7,7,7,7,7,7,7,7,8,8,8,8,8,8,8,8,8,8,8,8,8,8,8,8,8,8,8,8,8,8,8,8,8,8,8,8,8,8,8,8,8,8,8,8,8,8,8,8,8,8,8,8,8,8,8,8,8,8,8,8,8,8,8,8,8,8,8,8,8,8,8,8,8,8,8,8,8,8,8,8,8,8,8,8,8,8,8,8,8,8,8,8,8,8,8,8,8,8,8,8,8,8,8,8,8,8,8,8,8,8,8,8,8,8,8,8,8,8,8,8,8,8,8,8,8,8,8,8,8,8,8,8,8,8,8,8] (IntKind.wrap .u8 a.1)).bind λj=>some (w64 (a.2+(w64 j)))))
def kkM (b:Int):Yb Int:=
 ((kmn b).bind λa=>some a)
def kaS (a:Int) (b:Int):Yb Bool:=
 ((keH a).bind λe=>if e=true then ((keH b).bind λc=>if (!c)=true then (some true) else (some (decide (a<b)))) else (some (decide (a<b))))
def kix (c:Int):Yb Int:=
 ((kkM (IntKind.wrap .u64 c)).bind λb=>(gshl .u64 1 b).bind λa=>some a)
def kht (a:Int):Yb (Int×Int):=
 ((gshl .u64 a 13).bind λb=>(gshr .u64 (bitsI .xor .u64 a b) 7).bind λc=>(gshl .u64 (bitsI .xor .u64 (bitsI .xor .u64 a b) c) 17).bind λe=>some ((bitsI .xor .u64 (bitsI .xor .u64 (bitsI .xor .u64 a b) c) e),(bitsI .xor .u64 (bitsI .xor .u64 (bitsI .xor .u64 a b) c) e)))
def kcb (c:Ya Int) (a:Int) (b:Int) (e:Int):Yb (Int×Int×Int):=
 ((gi c b).bind λg=>(gi c a).bind λi=>(kaS g i).bind λf=>if f=true then (some (b,a,(w64 (e+1)))) else (some (a,b,e)))
def kdc (a:Ya Int) (f:Int) (j:Int) (i:Int) (e:Int):Yb (Int×Int):=
 ((kcb a f j e).bind λb=>(kcb a b.2.1 i b.2.2).bind λc=>(kcb a b.1 c.1 c.2.2).bind λg=>some g.2)
def kbi (e:Ya Int) (a:Int) (b:Int):Yb (Int×Int):=
 ((kdc e (w64 (a-1)) a (w64 (a+1)) b).bind λc=>some c)
def kfp (e:Ya Int) (a:Int) (c:Int):Yb (Int×Int):=
 ((gquo .i64 (w64 (c-a)) 4).bind λj=>(gquo .i64 (w64 (c-a)) 4).bind λg=>(gquo .i64 (w64 (c-a)) 4).bind λi=>(if (decide (8<=(w64 (c-a))))=true then ((if (decide (50<=(w64 (c-a))))=true then ((kbi e (w64 (a+(w64 (j*1)))) 0).bind λl=>(kbi e (w64 (a+(w64 (g*2)))) l.2).bind λk=>(kbi e (w64 (a+(w64 (i*3)))) k.2).bind λm=>some (l.1,k.1,m)) else (some ((w64 (a+(w64 (j*1)))),(w64 (a+(w64 (g*2)))),(w64 (a+(w64 (i*3)))),0))).bind λf=>(kdc e f.1 f.2.1 f.2.2.1 f.2.2.2).bind λn=>some n) else (some ((w64 (a+(w64 (g*2)))),0))).bind λb=>if (b.2==0)=true then (some (b.1,1)) else (if (b.2==12)=true then (some (b.1,2)) else (some (b.1,0))))
def kil (b:Ya Int) (a:kaj):Yb (kaj⊕((Ya Int)⊕(Ya Int))):=
 (if (decide (a.1<(lenI b)))=true then ((gi b a.1).bind λc=>(gapp a.2 [c]).bind λe=>some (.inl ((a.1+1),e))) else (some (.inr (.inr a.2))))
def kfk (a:Ya Int) (b:Ya Int):Yb (Ya Int):=
 ((runI λo=>kfl o b).bind λc=>(iter (kil c) (0,a)).bind λe=>match e with | .inl v5=>(some v5) | .inr v6=>(some v6))
def kiF (b:Ya Int):Yb (Ya Int):=
 ((kfk [] b).bind λa=>some a)
def kgF (e:Int) (a:kaj):Yb (kaj⊕(Ya Int)):=
 (if (decide (e<a.1))=true then ((gi a.2 a.1).bind λm=>(gi a.2 a.1).bind λi=>(gi a.2 (w64 (a.1-1))).bind λn=>(gi a.2 (w64 (a.1-1))).bind λg=>(kaS i g).bind λj=>if j=true then ((gi a.2 (w64 (a.1-1))).bind λo=>(gi a.2 (w64 (a.1-1))).bind λc=>(gi a.2 a.1).bind λl=>(gi a.2 a.1).bind λb=>(gi a.2 a.1).bind λk=>(gi (lset a.2 a.1 c) (w64 (a.1-1))).bind λf=>some (.inl ((w64 (a.1-1)),(lset (lset a.2 a.1 c) (w64 (a.1-1)) b)))) else (some (.inr a.2))) else (some (.inr a.2)))
def kgD (c:Int) (e:Int) (a:kaj):Yb (kaj⊕(Ya Int)):=
 (if (decide (a.1<e))=true then ((iter (kgF c) a).bind λb=>some (.inl ((w64 (a.1+1)),b))) else (some (.inr a.2)))
def kdI (b:Int) (e:Int) (c:Ya Int):Yb (Ya Int):=
 ((iter (kgD b e) ((w64 (b+1)),c)).bind λa=>some a)
def kis (j:Int) (b:Int) (a:kaj):Yb (kaj⊕((Ya Int)⊕(Ya Int))):=
 (if (decide (j<=(w64 ((w64 (2*a.1))+1))))=true then (some (.inr (.inr a.2))) else ((if (decide ((w64 ((w64 ((w64 (2*a.1))+1))+1))<j))=true then ((gi a.2 (w64 (b+(w64 ((w64 (2*a.1))+1))))).bind λw=>(gi a.2 (w64 (b+(w64 ((w64 (2*a.1))+1))))).bind λp=>(gi a.2 (w64 ((w64 (b+(w64 ((w64 (2*a.1))+1))))+1))).bind λv=>(gi a.2 (w64 ((w64 (b+(w64 ((w64 (2*a.1))+1))))+1))).bind λn=>(kaS p n).bind λk=>some k) else (some false)).bind λt=>(if t=true then (some (w64 ((w64 ((w64 (2*a.1))+1))+1))) else (some (w64 ((w64 (2*a.1))+1)))).bind λc=>(gi a.2 (w64 (b+a.1))).bind λx=>(gi a.2 (w64 (b+a.1))).bind λo=>(gi a.2 (w64 (b+c))).bind λu=>(gi a.2 (w64 (b+c))).bind λg=>(kaS o g).bind λf=>if (!f)=true then (some (.inr (.inl a.2))) else ((gi a.2 (w64 (b+c))).bind λs=>(gi a.2 (w64 (b+c))).bind λe=>(gi a.2 (w64 (b+a.1))).bind λr=>(gi a.2 (w64 (b+a.1))).bind λi=>(gi a.2 (w64 (b+a.1))).bind λl=>(gi (lset a.2 (w64 (b+a.1)) e) (w64 (b+c))).bind λm=>some (.inl (c,(lset (lset a.2 (w64 (b+a.1)) e) (w64 (b+c)) i))))))
def kcH (b:Int) (c:Int) (f:Int) (e:Ya Int):Yb (Ya Int):=
 ((iter (kis c f) (b,e)).bind λa=>match a with | .inl v20=>(some v20) | .inr v21=>(some v21))
def kik (b:Int) (e:Int) (a:kaj):Yb (kaj⊕(Ya Int)):=
 (if (decide (0<=a.1))=true then ((kcH a.1 (w64 (e-b)) b a.2).bind λc=>some (.inl ((w64 (a.1-1)),c))) else (some (.inr a.2)))
def kiv (b:Int) (a:kaj):Yb (kaj⊕(Ya Int)):=
 (if (decide (0<=a.1))=true then ((gi a.2 (w64 (b+a.1))).bind λj=>(gi a.2 (w64 (b+a.1))).bind λe=>(gi a.2 b).bind λk=>(gi a.2 b).bind λf=>(gi a.2 b).bind λi=>(gi (lset a.2 b e) (w64 (b+a.1))).bind λg=>(kcH 0 a.1 b (lset (lset a.2 b e) (w64 (b+a.1)) f)).bind λc=>some (.inl ((w64 (a.1-1)),c))) else (some (.inr a.2)))
def kfn (a:Int) (c:Int) (g:Ya Int):Yb (Ya Int):=
 ((gquo .i64 (w64 ((w64 (c-a))-1)) 2).bind λe=>(iter (kik a c) (e,g)).bind λf=>(iter (kiv a) ((w64 ((w64 (c-a))-1)),f)).bind λb=>some b)
def kgE (b:Int) (f:Int) (g:Int) (a:Int×Int×(Ya Int)):Yb ((Int×Int×(Ya Int))⊕(Ya Int)):=
 ((gquo .i64 (w64 (f-b)) 4).bind λk=>if (decide (a.1<=(w64 ((w64 (b+(w64 (k*2))))+1))))=true then ((kht a.2.1).bind λe=>(if (decide ((w64 (f-b))<=(w64 (bitsI .and .u64 e.1 (IntKind.wrap .u64 (g-1))))))=true then (some (w64 ((w64 (bitsI .and .u64 e.1 (IntKind.wrap .u64 (g-1))))-(w64 (f-b))))) else (some (w64 (bitsI .and .u64 e.1 (IntKind.wrap .u64 (g-1)))))).bind λc=>(gi a.2.2 (w64 (b+c))).bind λo=>(gi a.2.2 (w64 (b+c))).bind λi=>(gi a.2.2 a.1).bind λn=>(gi a.2.2 a.1).bind λj=>(gi a.2.2 a.1).bind λl=>(gi (lset a.2.2 a.1 i) (w64 (b+c))).bind λm=>some (.inl ((w64 (a.1+1)),e.2,(lset (lset a.2.2 a.1 i) (w64 (b+c)) j)))) else (some (.inr a.2.2)))
def kdE (a:Int) (b:Int) (e:Ya Int):Yb (Ya Int):=
 (if (decide (8<=(w64 (b-a))))=true then ((kix (w64 (b-a))).bind λf=>(gquo .i64 (w64 (b-a)) 4).bind λg=>(iter (kgE a b f) ((w64 ((w64 (a+(w64 (g*2))))-1)),(IntKind.wrap .u64 (w64 (b-a))),e)).bind λc=>some c) else (some e))
def kgY (a:Int×kaj):Yb ((Int×kaj)⊕(Ya Int)):=
 (if (decide (a.1<a.2.1))=true then ((gi a.2.2 a.2.1).bind λg=>(gi a.2.2 a.2.1).bind λb=>(gi a.2.2 a.1).bind λf=>(gi a.2.2 a.1).bind λc=>(gi a.2.2 a.1).bind λe=>(gi (lset a.2.2 a.1 b) a.2.1).bind λi=>some (.inl ((w64 (a.1+1)),(w64 (a.2.1-1)),(lset (lset a.2.2 a.1 b) a.2.1 c)))) else (some (.inr a.2.2)))
def kdZ (a:Int) (e:Int) (c:Ya Int):Yb (Ya Int):=
 ((iter (kgY) (a,(w64 (e-1)),c)).bind λb=>some b)
def kfj (e:Int) (b:Int×kaj) (a:Int):Yb (Int⊕Int):=
 (if (decide (a<e))=true then ((gi b.2.2 a).bind λi=>(gi b.2.2 a).bind λf=>(gi b.2.2 (w64 (a-1))).bind λj=>(gi b.2.2 (w64 (a-1))).bind λc=>(kaS f c).bind λg=>if (!g)=true then (some (.inl (w64 (a+1)))) else (some (.inr a))) else (some (.inr a)))
def kfi (a:kaj):Yb (kaj⊕(Ya Int)):=
 (if (decide (1<=a.1))=true then ((gi a.2 a.1).bind λn=>(gi a.2 a.1).bind λg=>(gi a.2 (w64 (a.1-1))).bind λj=>(gi a.2 (w64 (a.1-1))).bind λc=>(kaS g c).bind λe=>if (!e)=true then (some (.inr a.2)) else ((gi a.2 (w64 (a.1-1))).bind λk=>(gi a.2 (w64 (a.1-1))).bind λb=>(gi a.2 a.1).bind λl=>(gi a.2 a.1).bind λf=>(gi a.2 a.1).bind λi=>(gi (lset a.2 a.1 b) (w64 (a.1-1))).bind λm=>some (.inl ((w64 (a.1-1)),(lset (lset a.2 a.1 b) (w64 (a.1-1)) f))))) else (some (.inr a.2)))
def kfh (j:Int) (a:kaj):Yb (kaj⊕(Ya Int)):=
 (if (decide (a.1<j))=true then ((gi a.2 a.1).bind λk=>(gi a.2 a.1).bind λe=>(gi a.2 (w64 (a.1-1))).bind λn=>(gi a.2 (w64 (a.1-1))).bind λf=>(kaS e f).bind λg=>if (!g)=true then (some (.inr a.2)) else ((gi a.2 (w64 (a.1-1))).bind λm=>(gi a.2 (w64 (a.1-1))).bind λb=>(gi a.2 a.1).bind λl=>(gi a.2 a.1).bind λc=>(gi a.2 a.1).bind λi=>(gi (lset a.2 a.1 b) (w64 (a.1-1))).bind λo=>some (.inl ((w64 (a.1+1)),(lset (lset a.2 a.1 b) (w64 (a.1-1)) c))))) else (some (.inr a.2)))
def kfg (k:Int) (e:Int) (b:Int×kaj):Yb ((Int×kaj)⊕((Bool×(Ya Int))⊕(Ya Int))):=
 (if (decide (b.1<5))=true then ((iter (kfj e b) b.2.1).bind λa=>if (a==e)=true then (some (.inr (.inl (true,b.2.2)))) else (if (decide ((w64 (e-k))<50))=true then (some (.inr (.inl (false,b.2.2)))) else ((gi b.2.2 (w64 (a-1))).bind λo=>(gi b.2.2 (w64 (a-1))).bind λg=>(gi b.2.2 a).bind λn=>(gi b.2.2 a).bind λf=>(gi b.2.2 a).bind λl=>(gi (lset b.2.2 a g) (w64 (a-1))).bind λm=>(if (decide (2<=(w64 (a-k))))=true then ((iter (kfi) ((w64 (a-1)),(lset (lset b.2.2 a g) (w64 (a-1)) f))).bind λj=>some j) else (some (lset (lset b.2.2 a g) (w64 (a-1)) f))).bind λc=>if (decide (2<=(w64 (e-a))))=true then ((iter (kfh e) ((w64 (a+1)),c)).bind λi=>some (.inl ((w64 (b.1+1)),a,i))) else (some (.inl ((w64 (b.1+1)),a,c)))))) else (some (.inr (.inr b.2.2))))
def kcv (b:Int) (c:Int) (e:Ya Int):Yb (Bool×(Ya Int)):=
 ((iter (kfg b c) (0,(w64 (b+1)),e)).bind λa=>match a with | .inl v42=>(some v42) | .inr v43=>(some (false,v43)))
def kgr (f:Int) (b:Int×kaj) (a:Int):Yb (Int⊕Int):=
 (if (decide (a<=b.2.1))=true then ((gi b.2.2 f).bind λj=>(gi b.2.2 f).bind λg=>(gi b.2.2 a).bind λi=>(gi b.2.2 a).bind λe=>(kaS g e).bind λc=>if (!c)=true then (some (.inl (w64 (a+1)))) else (some (.inr a))) else (some (.inr a)))
def kgm (i:Int) (b:Int×kaj) (f:Int) (a:Int):Yb (Int⊕Int):=
 (if (decide (f<=a))=true then ((gi b.2.2 i).bind λk=>(gi b.2.2 i).bind λg=>(gi b.2.2 a).bind λj=>(gi b.2.2 a).bind λc=>(kaS g c).bind λe=>if e=true then (some (.inl (w64 (a-1)))) else (some (.inr a))) else (some (.inr a)))
def kgs (g:Int) (c:Int×kaj):Yb ((Int×kaj)⊕kaj):=
 ((iter (kgr g c) c.1).bind λa=>(iter (kgm g c a) c.2.1).bind λb=>if (decide (b<a))=true then (some (.inr (a,c.2.2))) else ((gi c.2.2 b).bind λi=>(gi c.2.2 b).bind λe=>(gi c.2.2 a).bind λl=>(gi c.2.2 a).bind λf=>(gi c.2.2 a).bind λk=>(gi (lset c.2.2 a e) b).bind λj=>some (.inl ((w64 (a+1)),(w64 (b-1)),(lset (lset c.2.2 a e) b f)))))
def kdi (a:Int) (g:Int) (c:Int) (b:Ya Int):Yb kaj:=
 ((gi b c).bind λl=>(gi b c).bind λf=>(gi b a).bind λk=>(gi b a).bind λi=>(gi b a).bind λm=>(gi (lset b a f) c).bind λj=>(iter (kgs a) ((w64 (a+1)),(w64 (g-1)),(lset (lset b a f) c i))).bind λe=>some e)
def kia (a:Int) (l:Int) (g:Int) (f:Ya Int) (e:Int) (c:Int) (b:Int):Yb (Int⊕Int):=
 (if (decide (b<=(w64 (l-1))))=true then ((gi (lset (lset f a e) g c) b).bind λn=>(gi (lset (lset f a e) g c) b).bind λk=>(gi (lset (lset f a e) g c) a).bind λm=>(gi (lset (lset f a e) g c) a).bind λi=>(kaS k i).bind λj=>if j=true then (some (.inl (w64 (b+1)))) else (some (.inr b))) else (some (.inr b)))
def khY (b:Int) (g:Int) (f:Ya Int) (e:Int) (c:Int) (i:Int) (a:Int):Yb (Int⊕Int):=
 (if (decide (i<=a))=true then ((gi (lset (lset f b e) g c) a).bind λm=>(gi (lset (lset f b e) g c) a).bind λl=>(gi (lset (lset f b e) g c) b).bind λn=>(gi (lset (lset f b e) g c) b).bind λj=>(kaS l j).bind λk=>if (!k)=true then (some (.inl (w64 (a-1)))) else (some (.inr a))) else (some (.inr a)))
def khW (g:Int) (b:Int×kaj) (a:Int):Yb (Int⊕Int):=
 (if (decide (a<=b.2.1))=true then ((gi b.2.2 a).bind λj=>(gi b.2.2 a).bind λf=>(gi b.2.2 g).bind λi=>(gi b.2.2 g).bind λe=>(kaS f e).bind λc=>if c=true then (some (.inl (w64 (a+1)))) else (some (.inr a))) else (some (.inr a)))
def khS (i:Int) (b:Int×kaj) (f:Int) (a:Int):Yb (Int⊕Int):=
 (if (decide (f<=a))=true then ((gi b.2.2 a).bind λk=>(gi b.2.2 a).bind λe=>(gi b.2.2 i).bind λj=>(gi b.2.2 i).bind λc=>(kaS e c).bind λg=>if (!g)=true then (some (.inl (w64 (a-1)))) else (some (.inr a))) else (some (.inr a)))
def khQ (g:Int) (a:Int×kaj):Yb ((Int×kaj)⊕kaj):=
 ((iter (khW g a) a.1).bind λb=>(iter (khS g a b) a.2.1).bind λc=>if (decide (c<b))=true then (some (.inr (c,a.2.2))) else ((gi a.2.2 c).bind λi=>(gi a.2.2 c).bind λe=>(gi a.2.2 b).bind λj=>(gi a.2.2 b).bind λf=>(gi a.2.2 b).bind λl=>(gi (lset a.2.2 b e) c).bind λk=>some (.inl ((w64 (b+1)),(w64 (c-1)),(lset (lset a.2.2 b e) c f)))))
def keY (a:Int) (r:Int) (f:Int) (e:Ya Int):Yb (Int×Bool×(Ya Int)):=
 ((gi e f).bind λF=>(gi e f).bind λi=>(gi e a).bind λH=>(gi e a).bind λj=>(gi e a).bind λG=>(gi (lset e a i) f).bind λE=>(iter (kia a r f e i j) (w64 (a+1))).bind λg=>(iter (khY a f e i j g) (w64 (r-1))).bind λc=>if (decide (c<g))=true then ((gi (lset (lset e a i) f j) a).bind λA=>(gi (lset (lset e a i) f j) a).bind λm=>(gi (lset (lset e a i) f j) c).bind λt=>(gi (lset (lset e a i) f j) c).bind λp=>(gi (lset (lset e a i) f j) c).bind λs=>(gi (lset (lset (lset e a i) f j) c m) a).bind λC=>some (c,true,(lset (lset (lset (lset e a i) f j) c m) a p))) else ((gi (lset (lset e a i) f j) c).bind λu=>(gi (lset (lset e a i) f j) c).bind λk=>(gi (lset (lset e a i) f j) g).bind λy=>(gi (lset (lset e a i) f j) g).bind λo=>(gi (lset (lset e a i) f j) g).bind λx=>(gi (lset (lset (lset e a i) f j) g k) c).bind λD=>(iter (khQ a) ((w64 (g+1)),(w64 (c-1)),(lset (lset (lset (lset e a i) f j) g k) c o))).bind λb=>(gi b.2 a).bind λz=>(gi b.2 a).bind λl=>(gi b.2 b.1).bind λw=>(gi b.2 b.1).bind λn=>(gi b.2 b.1).bind λv=>(gi (lset b.2 b.1 l) a).bind λB=>some (b.1,false,(lset (lset b.2 b.1 l) a n))))
def kiM (rec_slices_pdqsortOrdered_int_m0:Int->Int->Int->(Ya Int)->Yb (Ya Int)) (a:Int×Int×Int×Bool×Bool×(Ya Int)):Yb ((Int×Int×Int×Bool×Bool×(Ya Int))⊕((Ya Int)⊕(Ya Int))):=
 (if (decide ((w64 (a.1-a.2.1))<=12))=true then ((kdI a.2.1 a.1 a.2.2.2.2.2).bind λu=>some (.inr (.inl u))) else (if (a.2.2.1==0)=true then ((kfn a.2.1 a.1 a.2.2.2.2.2).bind λt=>some (.inr (.inl t))) else ((if (!a.2.2.2.1)=true then ((kdE a.2.1 a.1 a.2.2.2.2.2).bind λs=>some ((w64 (a.2.2.1-1)),s)) else (some (a.2.2.1,a.2.2.2.2.2))).bind λc=>(kfp c.2 a.2.1 a.1).bind λi=>(if (i.2==2)=true then ((kdZ a.2.1 a.1 c.2).bind λy=>some (1,(w64 ((w64 (a.1-1))-(w64 (i.1-a.2.1)))),y)) else (some (i.2,i.1,c.2))).bind λe=>(if a.2.2.2.1=true then (if a.2.2.2.2.1=true then (some (e.1==1)) else (some false)) else (some false)).bind λw=>((if w=true then ((kcv a.2.1 a.1 e.2.2).bind λn=>if n.1=true then (some (.inl n.2)) else (some (.inr n.2))) else (some (.inr e.2.2))):Yb ((Ya Int)⊕(Ya Int))).bind λo=>match o with | .inl v11=>(some (.inr (.inl v11))) | .inr v12=>((if (decide (0<a.2.1))=true then ((gi v12 (w64 (a.2.1-1))).bind λx=>(gi v12 (w64 (a.2.1-1))).bind λm=>(gi v12 e.2.1).bind λv=>(gi v12 e.2.1).bind λr=>(kaS m r).bind λj=>some (!j)) else (some false)).bind λk=>if k=true then ((kdi a.2.1 a.1 e.2.1 v12).bind λg=>some (.inl (a.1,g.1,c.1,a.2.2.2.1,a.2.2.2.2.1,g.2))) else ((keY a.2.1 a.1 e.2.1 v12).bind λb=>(gquo .i64 (w64 (a.1-a.2.1)) 8).bind λf=>if (decide ((w64 (b.1-a.2.1))<(w64 (a.1-b.1))))=true then ((rec_slices_pdqsortOrdered_int_m0 a.2.1 b.1 c.1 b.2.2).bind λl=>some (.inl (a.1,(w64 (b.1+1)),c.1,(decide (f<=(w64 (b.1-a.2.1)))),b.2.1,l))) else ((rec_slices_pdqsortOrdered_int_m0 (w64 (b.1+1)) a.1 c.1 b.2.2).bind λp=>some (.inl (b.1,a.2.1,c.1,(decide (f<=(w64 (a.1-b.1)))),b.2.1,p))))))))
def kiS (rec_slices_pdqsortOrdered_int_m0:Int->Int->Int->(Ya Int)->Yb (Ya Int)) (b:Int) (c:Int) (f:Int) (e:Ya Int):Yb (Ya Int):=
 ((iter (kiM rec_slices_pdqsortOrdered_int_m0) (c,b,f,true,true,e)).bind λa=>match a with | .inl v25=>(some v25) | .inr v26=>(some v26))
def kcy:Nat->Int->Int->Int->(Ya Int)->Yb (Ya Int)
 | 0,_,_,_,_=>none
 | k+1,x0,x1,x2,x3=>kiS (kcy k) x0 x1 x2 x3
def kfz (a:Int) (e:Int) (c:Int) (b:Ya Int):Yb (Ya Int):=kcy 1000000 a e c b
def kgK (a:Ya Int):Yb (Ya Int):=
 ((kkM (IntKind.wrap .u64 (lenI a))).bind λc=>(kfz 0 (lenI a) c a).bind λb=>some b)
def kjv (c:Ya Int):Yb (Ya Int):=
 ((kiF c).bind λb=>(kgK b).bind λa=>some a)
def kxy (b:Ya Int) (a:Int):Yb (Int⊕(Bool⊕Unit)):=
 (if (decide (a<(lenI b)))=true then ((gi b a).bind λe=>(gi b a).bind λc=>if (c != a)=true then (some (.inr (.inl false))) else (some (.inl (w64 (a+1))))) else (some (.inr (.inr ()))))
def kvw (a:Ya Int) (c:Int):Yb Bool:=
 ((kgb a).bind λe=>(kjv e).bind λf=>(iter (kxy f) 0).bind λb=>match b with | .inl v6=>(some v6) | .inr v7=>(some ((lenI a)==c)))
def kns (b:Ya Int) (c:Int):Yb Bool:=
 ((kvw b c).bind λa=>some (!a))
def khN (b:Ya (Ya Int)) (c:((Ya Int)->Yb Bool)) (a:Int):Yb (Int⊕(Int⊕Unit)):=
 (if (decide (a<(lenI b)))=true then ((gi b a).bind λf=>(c f).bind λe=>if e=true then (some (.inr (.inl a))) else (some (.inl (w64 (a+1))))) else (some (.inr (.inr ()))))
def keQ (a:Ya (Ya Int)) (b:((Ya Int)->Yb Bool)):Yb Int:=
 ((iter (khN a b) 0).bind λc=>match c with | .inl v4=>(some v4) | .inr v5=>(some (-1)))
def kdX (b:Ya (Ya Int)) (c:((Ya Int)->Yb Bool)):Yb Bool:=
 ((keQ b c).bind λa=>some (decide (0<=a)))
def kqS (a:Ya (Ya Int)):Yb Bool:=
 ((kbW 1 8 (lenI a)).bind λc=>if c=true then ((kdX a (λ(b:Ya Int)=>((kns b (lenI a)).bind λe=>some e))).bind λf=>some (!f)) else (some false))
def ksg (a:Int) (b:Int):Yb (Int×Int):=
 ((gshr .u64 (IntKind.wrap .u64 ((IntKind.wrap .u64 a)*(IntKind.wrap .u64 b))) 32).bind λc=>some ((IntKind.wrap .u32 c),(IntKind.wrap .u32 (IntKind.wrap .u64 ((IntKind.wrap .u64 a)*(IntKind.wrap .u64 b))))))
def kmt (b:Int) (a:Int):Yb (Int×Int):=
 ((gshr .u64 b 32).bind λc=>(gshr .u64 a 32).bind λf=>(gshr .u64 (IntKind.wrap .u64 ((bitsI .and .u64 b 4294967295)*(bitsI .and .u64 a 4294967295))) 32).bind λe=>(gshr .u64 (IntKind.wrap .u64 ((IntKind.wrap .u64 (c*(bitsI .and .u64 a 4294967295)))+e)) 32).bind λi=>(gshr .u64 (IntKind.wrap .u64 ((bitsI .and .u64 (IntKind.wrap .u64 ((IntKind.wrap .u64 (c*(bitsI .and .u64 a 4294967295)))+e)) 4294967295)+(IntKind.wrap .u64 ((bitsI .and .u64 b 4294967295)*f)))) 32).bind λg=>some ((IntKind.wrap .u64 ((IntKind.wrap .u64 ((IntKind.wrap .u64 (c*f))+i))+g)),(IntKind.wrap .u64 (b*a))))
def koA (b:Int) (c:Int):Yb (Int×Int):=
 ((kmt b c).bind λa=>some a)
def kmu (b:Int) (c:Ya Int):Yb Bool:=
 ((gi c b).bind λa=>some (decide (a<0)))
def kgS (a:Int) (b:Ya (Ya Int)) (k:Ya Int):Yb Int:=
 ((gi b a).bind λf=>(kdv f (λ(c:Int)=>((kmu c k).bind λg=>some g))).bind λj=>(gi b a).bind λe=>(gi e j).bind λi=>some i)
def kjA (a:kaj):Yb (kaj⊕(Ya Int)):=
 (if (decide (a.1<(lenI a.2)))=true then ((gsl a.2 a.1 (lenI a.2)).bind λc=>(gsl a.2 0 a.1).bind λb=>some (.inl ((w64 (a.1+(imin (lenI ((List.drop (Int.toNat 0) a.2).take (Int.toNat (a.1-0)))) ((lenI a.2)-a.1)))),(kCL a.2 (a.1,((lenI a.2)-a.1)) ((List.drop (Int.toNat 0) a.2).take (Int.toNat (a.1-0))))))) else (some (.inr a.2)))
def kgg (a:Ya Int) (e:Int):Yb (Ya Int):=
 ((if (decide (e<0))=true then none else (some ())).bind λi=>(koA (IntKind.wrap .u64 (lenI a)) (IntKind.wrap .u64 e)).bind λc=>(if (decide (0<c.1))=true then (some true) else (some (decide (9223372036854775807<c.2)))).bind λg=>(if g=true then none else (some ())).bind λj=>(gmk (w64 c.2) 0).bind λb=>(iter (kjA) ((imin (lenI a) (lenI b)),(lcopy b 0 (lenI b) a))).bind λf=>some f)
def kxh (b:Ya (Ya Int)) (e:Ya Int) (a:Int×Int):Yb ((Int×Int)⊕Int):=
 (if (decide (a.1<(lenI b)))=true then ((kgS a.2 b e).bind λc=>some (.inl ((w64 (a.1+1)),c))) else (some (.inr a.2)))
def kvC (e:Ya (Ya Int)) (g:Ya Int) (f:Int) (a:kaj):Yb (kaj⊕(Ya Int)):=
 (if (a.1 != f)=true then ((gapp a.2 [a.1]).bind λc=>(kgS a.1 e g).bind λb=>some (.inl (b,c))) else (some (.inr a.2)))
def kwP (g:Ya (Ya Int)) (i:Ya Int) (b:Ya Int) (a:kaj):Yb (kaj⊕(Ya Int)):=
 (if (decide (a.1<(lenI b)))=true then ((gi b a.1).bind λj=>(gi b a.1).bind λf=>(kgS f g i).bind λc=>(gapp a.2 [c]).bind λe=>some (.inl ((w64 (a.1+1)),e))) else (some (.inr a.2)))
def kvD (b:Ya Int) (e:Ya Int) (a:kaj):Yb (kaj⊕(Ya Int)):=
 (if (decide (a.1<(lenI b)))=true then ((gi b a.1).bind λg=>(gi b a.1).bind λc=>(gi e a.1).bind λj=>(gi e a.1).bind λf=>(gi a.2 c).bind λi=>some (.inl ((w64 (a.1+1)),(lset a.2 c f)))) else (some (.inr a.2)))
def kwY (c:Ya (Ya Int)) (f:kaj) (a:Ya Int):Yb ((Ya Int)⊕(Ya Int)):=
 ((gi a f.1).bind λl=>(gi a f.1).bind λk=>if (decide (k<0))=true then ((iter (kxh c a) (0,f.1)).bind λe=>(kgS e c a).bind λj=>(iter (kvC c a e) (j,[e])).bind λb=>(iter (kwP c a b) (0,[])).bind λg=>(iter (kvD b g) (0,a)).bind λi=>some (.inl i)) else (some (.inr a)))
def kvN (c:Ya (Ya Int)) (a:kaj):Yb (kaj⊕(Ya Int)):=
 (if (decide (a.1<(lenI c)))=true then ((iter (kwY c a) a.2).bind λb=>some (.inl ((w64 (a.1+1)),b))) else (some (.inr a.2)))
def kuw (b:Ya (Ya Int)):Yb ((Ya Int)×Int):=
 ((kqS b).bind λe=>if (!e)=true then (some ([],2)) else ((kgg [(-1)] (lenI b)).bind λc=>(iter (kvN b) (0,c)).bind λa=>some (a,0)))
def kpT (e:Ya (Int×Int×Int)) (f:Ya (Int×Int×Int)) (a:Int):Yb (Int⊕(Bool⊕Unit)):=
 (if (decide (a<(lenI e)))=true then ((gi e a).bind λc=>(gi f a).bind λb=>if (!((c.1==b.1)&&((c.2.1==b.2.1)&&(c.2.2==b.2.2))))=true then (some (.inr (.inl false))) else (some (.inl (w64 (a+1))))) else (some (.inr (.inr ()))))
def kmp (a:Ya (Int×Int×Int)) (b:Ya (Int×Int×Int)):Yb Bool:=
 (if ((lenI a) != (lenI b))=true then (some false) else ((iter (kpT a b) 0).bind λc=>match c with | .inl v4=>(some v4) | .inr v5=>(some true)))
def kfr (b:Ya Int) (c:Ya Int) (a:Int):Yb (Int⊕(Bool⊕Unit)):=
 (if (decide (a<(lenI b)))=true then ((gi b a).bind λf=>(gi c a).bind λe=>if (f != e)=true then (some (.inr (.inl false))) else (some (.inl (w64 (a+1))))) else (some (.inr (.inr ()))))
def kbu (a:Ya Int) (b:Ya Int):Yb Bool:=
 (if ((lenI a) != (lenI b))=true then (some false) else ((iter (kfr a b) 0).bind λc=>match c with | .inl v4=>(some v4) | .inr v5=>(some true)))
def kpc:Yb Bool:=
 ((kbP 1 1 4).bind λp=>(kbP 1 3 2).bind λw=>(kbP 4 0 1).bind λv=>(kbP 1 3 3).bind λt=>(kyL [w,v] [t]).bind λr=>law08_needed.bind λs=>law08_swap.bind λy=>(klw [p] s y).bind λk=>law08_needed.bind λx=>law08_swap.bind λu=>(kiz [p] x u [(1,1,5),(2,1,3)]).bind λb=>(kbP 1 1 3).bind λi=>law08_plans.bind λe=>(ksG [i] e [5,4,9]).bind λa=>(kuw [[1,0,2],[0,1,2],[0,1,2]]).bind λc=>if (r.2 != 0)=true then (some false) else ((kbP 1 3 5).bind λj=>(kbP 4 0 1).bind λo=>(kmp r.1 [j,o]).bind λf=>if (!f)=true then (some false) else (if (k.2 != 0)=true then (some false) else (if (k.1.1 != 4)=true then (some false) else ((kbu k.1.2 [0,1]).bind λg=>if (!g)=true then (some false) else (if (b.2 != 0)=true then (some false) else ((kbu b.1.1 [3,1]).bind λn=>if (!n)=true then (some false) else (if (b.1.2.2 != 3)=true then (some false) else (if (a.2==0)=true then ((kbu a.1.1 [2]).bind λm=>if m=true then (if (a.1.2.1==9)=true then (if ((lenI a.1.2.2)==0)=true then (if (c.2==0)=true then ((kbu c.1 [1,0,2]).bind λl=>some l) else (some false)) else (some false)) else (some false)) else (some false)) else (some false))))))))))
def law08_alive:Yb Bool:=some true
theorem kBk:kpc=law08_alive:=by kernel_rfl
def kbL (a:Int) (c:Int) (b:Int):Yb Bool:=
 (if (decide (c<=a))=true then (some (decide (a<=b))) else (some false))
def kfY (b:Ya (Int×Int×Int)) (a:Int×Int):Yb ((Int×Int)⊕Int):=
 (if (decide (a.1<(lenI b)))=true then ((gi b a.1).bind λf=>(kbL f.2.2 0 1000).bind λc=>if c=true then ((gi b a.1).bind λe=>some (.inl ((w64 (a.1+1)),(w64 (a.2+e.2.2))))) else (some (.inl ((w64 (a.1+1)),a.2)))) else (some (.inr a.2)))
def kjs (a:Ya (Int×Int×Int)):Yb Bool:=
 (if (decide (40<(lenI a)))=true then (some true) else ((iter (kfY a) (0,0)).bind λb=>some (decide (8000<b))))
def kii (b:Ya (Ya (Int×Int×Int))) (a:Int):Yb (Int⊕(Bool⊕Unit)):=
 (if (decide (a<(lenI b)))=true then ((gi b a).bind λc=>(kjs c).bind λe=>if e=true then (some (.inr (.inl true))) else (some (.inl (w64 (a+1))))) else (some (.inr (.inr ()))))
def klb (a:Ya (Ya (Int×Int×Int))):Yb Bool:=
 ((iter (kii a) 0).bind λb=>match b with | .inl v4=>(some v4) | .inr v5=>(some false))
def kem (b:Int) (c:Int):Yb Bool:=
 ((kbL b 0 15).bind λa=>if a=true then (some (decide (c<=15))) else (some false))
def kgN (a:Int) (e:Int) (b:Int) (c:Int):Yb Bool:=
 (if (decide (a<b))=true then (some true) else (if (a==b)=true then (some (decide (e<c))) else (some false)))
def khn (c:Ya (Int×Int×Int)) (a:Int):Yb (Int⊕(Bool⊕Unit)):=
 (if (decide (a<(lenI c)))=true then ((gi c a).bind λb=>(kem b.1 b.2.1).bind λf=>if (!f)=true then (some (.inr (.inl false))) else ((kbL b.2.2 1 1000).bind λi=>if (!i)=true then (some (.inr (.inl false))) else (if (decide (0<a))=true then ((gi c (w64 (a-1))).bind λg=>(gi c (w64 (a-1))).bind λe=>(kgN g.1 e.2.1 b.1 b.2.1).bind λj=>if (!j)=true then (some (.inr (.inl false))) else (some (.inl (w64 (a+1))))) else (some (.inl (w64 (a+1))))))) else (some (.inr (.inr ()))))
def kfc (a:Ya (Int×Int×Int)):Yb Bool:=
 (if (decide (30<(lenI a)))=true then (some false) else ((iter (khn a) 0).bind λb=>match b with | .inl v8=>(some v8) | .inr v9=>(some true)))
def khh (c:Ya Swap) (b:Int):Yb (Int⊕(Bool⊕Unit)):=
 (if (decide (b<(lenI c)))=true then ((gi c b).bind λa=>(kem a.1 a.2.1).bind λe=>if (!e)=true then (some (.inr (.inl false))) else ((kem a.2.2.1 a.2.2.2).bind λf=>if (!f)=true then (some (.inr (.inl false))) else (if (a.1==a.2.2.1)=true then (if (a.2.1==a.2.2.2)=true then (some (.inr (.inl false))) else (some (.inl (w64 (b+1))))) else (some (.inl (w64 (b+1))))))) else (some (.inr (.inr ()))))
def kgl (a:Ya Swap):Yb Bool:=
 (if (decide (30<(lenI a)))=true then (some false) else ((iter (khh a) 0).bind λb=>match b with | .inl v5=>(some v5) | .inr v6=>(some true)))
def kke (a:Ya (Int×Int×Int)) (b:Ya (Int×Int×Int)) (c:Ya Swap):Yb Bool:=
 ((klb [a,b]).bind λf=>if (!f)=true then (if (decide ((lenI c)<=40))=true then ((kfc a).bind λi=>if i=true then ((kfc b).bind λe=>if e=true then ((kgl c).bind λg=>some g) else (some false)) else (some false)) else (some false)) else (some false))
def kja (c:Ya Swap) (f:Int) (i:Int) (g:Int) (e:Int) (b:Int):Yb (Int⊕(Bool⊕Unit)):=
 (if (decide (b<(lenI c)))=true then ((gi c b).bind λa=>if ((a.1==f)&&((a.2.1==i)&&((a.2.2.1==g)&&(a.2.2.2==e))))=true then (some (.inr (.inl true))) else (some (.inl (w64 (b+1))))) else (some (.inr (.inr ()))))
def kfa (f:Ya Swap) (b:Int) (e:Int) (c:Int) (a:Int):Yb Bool:=
 ((if (b==c)=true then (some (e==a)) else (some false)).bind λg=>if g=true then (some true) else ((iter (kja f b e c a) 0).bind λi=>match i with | .inl v4=>(some v4) | .inr v5=>(some false)))
def kjq (b:Ya (Int×Int×Int)) (a:Int×Int):Yb ((Int×Int)⊕Int):=
 (if (decide (a.1<(lenI b)))=true then ((gi b a.1).bind λc=>some (.inl ((w64 (a.1+1)),(w64 (a.2+c.2.2))))) else (some (.inr a.2)))
def kkF (b:Ya (Int×Int×Int)):Yb Int:=
 ((iter (kjq b) (0,0)).bind λa=>some a)
def kaD (i:Ya (Int×Int×Int)) (g:Ya (Int×Int×Int)) (B:Ya Swap) (f:Ya (Int×Int×Int)) (b:Int×(Ya Int)×(Ya Int)):Yb ((Int×(Ya Int)×(Ya Int))⊕(Bool⊕Unit)):=
 (if (decide (b.1<(lenI f)))=true then ((gi f b.1).bind λa=>(kbL a.1 0 (w64 ((lenI g)-1))).bind λC=>if (!C)=true then (some (.inr (.inl false))) else ((kbL a.2.1 0 (w64 ((lenI i)-1))).bind λD=>if (!D)=true then (some (.inr (.inl false))) else ((kbL a.2.2 1 1000).bind λz=>if (!z)=true then (some (.inr (.inl false))) else ((if (decide (0<b.1))=true then ((gi f (w64 (b.1-1))).bind λv=>if (decide (a.1<v.1))=true then (some true) else ((gi f (w64 (b.1-1))).bind λo=>if (a.1==o.1)=true then ((gi f (w64 (b.1-1))).bind λk=>some (decide (a.2.1<=k.2.1))) else (some false))) else (some false)).bind λu=>if u=true then (some (.inr (.inl false))) else ((gi b.2.1 a.1).bind λy=>(gi b.2.1 a.1).bind λe=>(gi b.2.1 a.1).bind λG=>(gi b.2.2 a.2.1).bind λx=>(gi b.2.2 a.2.1).bind λc=>(gi b.2.2 a.2.1).bind λE=>(gi g a.1).bind λt=>(gi g a.1).bind λs=>(gi i a.2.1).bind λm=>(gi i a.2.1).bind λw=>(kfa B t.1 s.2.1 m.1 w.2.1).bind λj=>if (!j)=true then (some (.inr (.inl false))) else ((gi (lset b.2.1 a.1 (w64 (e+a.2.2))) a.1).bind λF=>(gi (lset b.2.1 a.1 (w64 (e+a.2.2))) a.1).bind λn=>(gi g a.1).bind λl=>if (decide (l.2.2<n))=true then (some (.inr (.inl false))) else ((gi (lset b.2.2 a.2.1 (w64 (c+a.2.2))) a.2.1).bind λA=>(gi (lset b.2.2 a.2.1 (w64 (c+a.2.2))) a.2.1).bind λp=>(gi i a.2.1).bind λr=>if (decide (r.2.2<p))=true then (some (.inr (.inl false))) else (some (.inl ((w64 (b.1+1)),(lset b.2.1 a.1 (w64 (e+a.2.2))),(lset b.2.2 a.2.1 (w64 (c+a.2.2))))))))))))) else (some (.inr (.inr ()))))
def kdw (a:Ya (Int×Int×Int)) (b:Ya (Int×Int×Int)) (m:Ya Swap) (l:Ya (Int×Int×Int)):Yb Bool:=
 ((bthO (.pr (.sl (.i .i64)) (.sl (.i .i64))) ((gmk (lenI b) 0).bind λf=>(gmk (lenI a) 0).bind λk=>some (f,k)) ((gmk (lenI a) 0).bind λe=>(gmk (lenI b) 0).bind λj=>some (j,e))).bind λg=>(iter (kaD a b m l) (0,g)).bind λc=>match c with | .inl v32=>(some v32) | .inr v33=>(some true))
def kdo (c:Ya (Int×Int×Int)) (a:kaj):Yb (kaj⊕(Ya Int)):=
 (if (decide (a.1<(lenI c)))=true then ((gi c a.1).bind λb=>(gi a.2 b.1).bind λg=>(gi a.2 b.1).bind λe=>(gi a.2 b.1).bind λf=>some (.inl ((w64 (a.1+1)),(lset a.2 b.1 (w64 (e+b.2.2)))))) else (some (.inr a.2)))
def keI (e:Ya (Int×Int×Int)) (b:Ya (Int×Int×Int)):Yb (Ya Int):=
 ((gmk (lenI e) 0).bind λa=>(iter (kdo b) (0,a)).bind λc=>some c)
def khx (c:Ya Swap) (b:Ya (Int×Int×Int)) (l:Int) (k:Int) (a:Int×Int):Yb ((Int×Int)⊕Int):=
 (if (decide (a.1<(lenI b)))=true then ((gi b a.1).bind λj=>(gi b a.1).bind λf=>(kfa c l k j.1 f.2.1).bind λi=>if i=true then (if (decide (a.2<0))=true then (some (.inl ((w64 (a.1+1)),a.1))) else ((gi b a.1).bind λg=>(gi b a.2).bind λe=>if (decide (g.2.2<e.2.2))=true then (some (.inl ((w64 (a.1+1)),a.1))) else (some (.inl ((w64 (a.1+1)),a.2))))) else (some (.inl ((w64 (a.1+1)),a.2)))) else (some (.inr a.2)))
def khp (a:Ya Swap) (b:Ya (Int×Int×Int)) (e:Int) (c:Int):Yb Int:=
 ((iter (khx a b e c) (0,(-1))).bind λf=>some f)
def kct (b:Ya Int) (e:Int) (a:Int):Yb (Int⊕(Int⊕Unit)):=
 (if (decide (a<(lenI b)))=true then ((gi b a).bind λc=>if (e==c)=true then (some (.inr (.inl a))) else (some (.inl (w64 (a+1))))) else (some (.inr (.inr ()))))
def kfd (b:Ya Int) (c:Int):Yb Int:=
 ((iter (kct b c) 0).bind λa=>match a with | .inl v3=>(some v3) | .inr v4=>(some (-1)))
def kbB (b:Ya Int) (c:Int):Yb Bool:=
 ((kfd b c).bind λa=>some (decide (0<=a)))
def krN (b:Ya (Int×Int×Int)) (a:kaj):Yb (kaj⊕(Ya Int)):=
 (if (decide (a.1<(lenI b)))=true then ((gi b a.1).bind λc=>(gi a.2 a.1).bind λe=>some (.inl ((w64 (a.1+1)),(lset a.2 a.1 c.2.2)))) else (some (.inr a.2)))
def krX (e:Ya (Int×Int×Int)) (g:Ya (Int×Int×Int)) (b:Ya (Int×Int×Int)) (a:Int×Int):Yb ((Int×Int)⊕((Int×Int)⊕Int)):=
 (if (decide (a.1<(lenI b)))=true then ((gi b a.1).bind λc=>(kbW 0 (w64 ((lenI g)-1)) c.1).bind λi=>if (!i)=true then (some (.inr (.inl (0,8)))) else ((kbW 0 (w64 ((lenI e)-1)) c.2.1).bind λf=>if (!f)=true then (some (.inr (.inl (0,8)))) else none)) else (some (.inr (.inr a.2))))
def ker (c:Ya (Int×Int×Int)) (a:kaj):Yb (kaj⊕(Ya Int)):=
 (if (decide (a.1<(lenI c)))=true then ((gi c a.1).bind λb=>(gi a.2 a.1).bind λe=>some (.inl ((w64 (a.1+1)),(lset a.2 a.1 b.2.2)))) else (some (.inr a.2)))
def kaT (B:Ya (Int×Int×Int)) (w:Ya (Int×Int×Int)) (e:Ya (Int×Int×Int)) (c:Int×Flow) (b:Int×Int×(Ya (Int×Int×Int))×(Ya Int)×(Ya Int)):Yb ((Int×Int×(Ya (Int×Int×Int))×(Ya Int)×(Ya Int))⊕((Int×Int)⊕Int)):=
 (if (decide (b.1<(lenI e)))=true then ((gi e b.1).bind λa=>(kbW 0 (w64 ((lenI w)-1)) a.1).bind λp=>if (!p)=true then (some (.inr (.inl (0,8)))) else ((kbW 0 (w64 ((lenI B)-1)) a.2.1).bind λi=>if (!i)=true then (some (.inr (.inl (0,8)))) else ((gi c.2.2.1 a.1).bind λD=>(gi c.2.2.1 a.1).bind λf=>(kbB f a.2.1).bind λu=>if (!u)=true then (some (.inr (.inl (0,8)))) else ((gi b.2.2.2.2 a.1).bind λx=>(gi b.2.2.2.2 a.1).bind λg=>(gi b.2.2.2.1 a.2.1).bind λz=>(gi b.2.2.2.1 a.2.1).bind λk=>(kbW 1 (imin g k) a.2.2).bind λn=>if (!n)=true then (some (.inr (.inl (0,8)))) else ((if (decide (0<b.1))=true then ((gi e (w64 (b.1-1))).bind λv=>(kbo v.1 a.1).bind λt=>(gi e (w64 (b.1-1))).bind λl=>(kbo l.2.1 a.2.1).bind λs=>(kfU [t,s]).bind λo=>some (decide (0<=o))) else (some false)).bind λr=>if r=true then (some (.inr (.inl (0,8)))) else ((gi b.2.2.2.2 a.1).bind λy=>(gi b.2.2.2.2 a.1).bind λm=>(gi b.2.2.2.2 a.1).bind λA=>(gi b.2.2.2.1 a.2.1).bind λC=>(gi b.2.2.2.1 a.2.1).bind λj=>(gi b.2.2.2.1 a.2.1).bind λE=>some (.inl ((w64 (b.1+1)),(w64 (b.2.1+a.2.2)),b.2.2.1,(lset b.2.2.2.1 a.2.1 (w64 (j-a.2.2))),(lset b.2.2.2.2 a.1 (w64 (m-a.2.2))))))))))) else (some (.inr (.inr b.2.1))))
def keF (c:Ya (Int×Int×Int)) (b:Ya (Int×Int×Int)) (l:Ya Swap) (k:Ya (Int×Int×Int)):Yb (Int×Int):=
 (elsO ((kcY c b l).bind λj=>if (j != 0)=true then (some (0,j)) else ((gmk (lenI b) 0).bind λm=>(iter (krN b) (0,m)).bind λn=>(iter (krX c b k) (0,0)).bind λi=>match i with | .inl v11=>(some v11) | .inr v12=>(some (v12,0)))) ((kcT c b l).bind λa=>if (a.1 != 0)=true then (some (0,a.1)) else ((gmk (lenI b) 0).bind λg=>(iter (ker b) (0,g)).bind λe=>(iter (kaT c b k a) (0,0,a.2.1,a.2.2.2.2,e)).bind λf=>match f with | .inl v44=>(some v44) | .inr v45=>(some (v45,0)))))
def kxG (c:Ya (Int×Int×Int)) (b:Ya Int) (a:Int):Yb (Int⊕(((Ya (Int×Int×Int))×Int)⊕Unit)):=
 (if (decide (a<(lenI b)))=true then ((gi b a).bind λe=>(gi c a).bind λg=>(kbW 0 g.2.2 e).bind λf=>if (!f)=true then (some (.inr (.inl ([],2)))) else (some (.inl (w64 (a+1))))) else (some (.inr (.inr ()))))
def kxW (a:Ya Int) (b:Int):Yb (Int⊕(((Ya (Int×Int×Int))×Int)⊕Unit)):=
 (if (decide (b<(lenI a)))=true then ((gi a b).bind λc=>none) else (some (.inr (.inr ()))))
def kic (g:Ya (Int×Int×Int)) (f:Ya Int) (a:Int):Yb (Int⊕(((Ya (Int×Int×Int))×Int)⊕Unit)):=
 (if (decide (a<(lenI f)))=true then ((gi f a).bind λc=>(gi g a).bind λe=>(kbW 0 e.2.2 c).bind λb=>if (!b)=true then (some (.inr (.inl ([],2)))) else (some (.inl (w64 (a+1))))) else (some (.inr (.inr ()))))
def kdW (e:Ya Int) (a:Int×Flow):Yb ((Int×Flow)⊕(((Ya (Int×Int×Int))×Int)⊕Flow)):=
 (if (decide (a.1<(lenI e)))=true then ((gi e a.1).bind λc=>(kcS a.1 c a.2.1 a.2.2.1 a.2.2.2.1 a.2.2.2.2).bind λb=>if (decide (b.1<c))=true then (some (.inr (.inl ([],6)))) else (some (.inl ((w64 (a.1+1)),b.2)))) else (some (.inr (.inr a.2))))
def khH (c:Flow) (b:Int×(Ya (Int×Int×Int))) (g:Ya Int) (a:Int×(Ya (Int×Int×Int))):Yb ((Int×(Ya (Int×Int×Int)))⊕(Ya (Int×Int×Int))):=
 (if (decide (a.1<(lenI g)))=true then ((gi c.2.2.1 b.1).bind λj=>(gi j a.1).bind λk=>(gi c.2.2.1 b.1).bind λi=>(gi i a.1).bind λe=>if (decide (0<e))=true then ((gapp a.2 [(b.1,a.1,e)]).bind λf=>some (.inl ((w64 (a.1+1)),f))) else (some (.inl ((w64 (a.1+1)),a.2)))) else (some (.inr a.2)))
def khJ (b:Flow) (a:Int×(Ya (Int×Int×Int))):Yb ((Int×(Ya (Int×Int×Int)))⊕(Ya (Int×Int×Int))):=
 (if (decide (a.1<(lenI b.2.2.1)))=true then ((gi b.2.2.1 a.1).bind λg=>(gi b.2.2.1 a.1).bind λf=>(gi b.2.2.1 a.1).bind λe=>(iter (khH b a e) (0,a.2)).bind λc=>some (.inl ((w64 (a.1+1)),c))) else (some (.inr a.2)))
def kgP (j:Ya (Int×Int×Int)) (b:Ya (Int×Int×Int)) (l:Ya Swap) (c:Ya Int):Yb ((Ya (Int×Int×Int))×Int):=
 (elsO ((kcY j b l).bind λk=>if (k != 0)=true then (some ([],k)) else (if ((lenI c) != (lenI b))=true then (some ([],2)) else ((iter (kxG b c) 0).bind λm=>match m with | .inl v6=>(some v6) | .inr v7=>((iter (kxW c) 0).bind λi=>match i with | .inl v11=>(some v11) | .inr v12=>none)))) ((kcT j b l).bind λa=>if (a.1 != 0)=true then (some ([],a.1)) else (if ((lenI c) != (lenI b))=true then (some ([],2)) else ((iter (kic b c) 0).bind λg=>match g with | .inl v19=>(some v19) | .inr v20=>((iter (kdW c) (0,a.2)).bind λe=>match e with | .inl v25=>(some v25) | .inr v26=>((iter (khJ v26) (0,[])).bind λf=>some (f,0)))))))
def keo (b:Ya Swap):Yb Int:=
 ((kgl b).bind λa=>if (!a)=true then (some 2) else (some 0))
def kkk (a:Ya (Int×Int×Int)) (b:Ya (Int×Int×Int)) (g:Ya Swap):Yb Int:=
 ((kfc a).bind λe=>if (!e)=true then (some 8) else ((kfc b).bind λf=>if (!f)=true then (some 8) else ((keo g).bind λc=>some c)))
def kdH (b:Ya (Int×Int×Int)) (c:Ya (Int×Int×Int)) (k:Ya Swap) (e:Int×(Ya (Ya Bool))×(Ya (Ya Int))) (a:Int×(Ya Bool)):Yb ((Int×(Ya Bool))⊕(Ya Bool)):=
 (if (decide (a.1<(lenI b)))=true then ((gi c e.1).bind λi=>(gi c e.1).bind λg=>(gi b a.1).bind λf=>(gi b a.1).bind λj=>(kfa k i.1 g.2.1 f.1 j.2.1).bind λl=>(gi a.2 a.1).bind λm=>some (.inl ((w64 (a.1+1)),(lset a.2 a.1 l)))) else (some (.inr a.2)))
def kfs (b:Ya (Int×Int×Int)) (g:Ya (Int×Int×Int)) (k:Ya Swap) (a:Int×(Ya (Ya Bool))×(Ya (Ya Int))):Yb ((Int×(Ya (Ya Bool))×(Ya (Ya Int)))⊕((Ya (Ya Bool))×(Ya (Ya Int)))):=
 (if (decide (a.1<(lenI g)))=true then ((gmk (lenI b) false).bind λj=>(iter (kdH b g k a) (0,j)).bind λi=>(gapp a.2.1 [i]).bind λe=>(gmk (lenI b) 0).bind λf=>(gapp a.2.2 [f]).bind λc=>some (.inl ((w64 (a.1+1)),e,c))) else (some (.inr a.2)))
def kdO (e:Ya (Int×Int×Int)) (a:kaj):Yb (kaj⊕(Ya Int)):=
 (if (decide (a.1<(lenI e)))=true then ((gi e a.1).bind λc=>(gapp a.2 [c.2.2]).bind λb=>some (.inl ((w64 (a.1+1)),b))) else (some (.inr a.2)))
def khf (c:Ya (Int×Int×Int)) (e:Ya (Int×Int×Int)) (f:Ya Swap):Yb Flow6:=
 ((iter (kfs c e f) (0,[],[])).bind λa=>(iter (kdO c) (0,[])).bind λb=>some (a.1,a.2,b))
def kcX (c:Int->(Ya (Ya Bool))->(Ya (Ya Int))->(Ya Int)->(Ya Bool)->Yb (Bool×(Ya Bool)×Flow6)) (i:Int) (e:Int×(Ya (Ya Bool))×(Ya (Ya Int))×(Ya Int)×(Ya Bool)) (a:Int×(Ya (Ya Bool))×(Ya (Ya Int))×(Ya Int)×(Ya Bool)):Yb ((Int×(Ya (Ya Bool))×(Ya (Ya Int))×(Ya Int)×(Ya Bool))⊕((Bool×(Ya Bool)×Flow6)⊕((Ya (Ya Bool))×(Ya (Ya Int))×(Ya Int)×(Ya Bool)))):=
 (if (decide (a.1<(lenI a.2.2.1)))=true then ((gi a.2.2.1 a.1).bind λH=>(gi a.2.2.1 a.1).bind λv=>(gi a.2.2.1 a.1).bind λt=>(gi t e.1).bind λw=>(gi a.2.2.1 a.1).bind λk=>(gi k e.1).bind λn=>if (decide (0<n))=true then ((c a.1 a.2.1 a.2.2.1 a.2.2.2.1 a.2.2.2.2).bind λb=>if b.1=true then ((gi b.2.2.2.1 a.1).bind λB=>(gi b.2.2.2.1 a.1).bind λG=>(gi b.2.2.2.1 a.1).bind λs=>(gi s e.1).bind λA=>(gi b.2.2.2.1 a.1).bind λr=>(gi r e.1).bind λg=>(gi b.2.2.2.1 a.1).bind λp=>(gi p e.1).bind λz=>(gi b.2.2.2.1 a.1).bind λf=>(gi f e.1).bind λD=>(gi (lset b.2.2.2.1 a.1 (lset f e.1 (w64 (g-1)))) i).bind λF=>(gi (lset b.2.2.2.1 a.1 (lset f e.1 (w64 (g-1)))) i).bind λx=>(gi (lset b.2.2.2.1 a.1 (lset f e.1 (w64 (g-1)))) i).bind λu=>(gi u e.1).bind λC=>(gi (lset b.2.2.2.1 a.1 (lset f e.1 (w64 (g-1)))) i).bind λm=>(gi m e.1).bind λl=>(gi (lset b.2.2.2.1 a.1 (lset f e.1 (w64 (g-1)))) i).bind λo=>(gi o e.1).bind λE=>(gi (lset b.2.2.2.1 a.1 (lset f e.1 (w64 (g-1)))) i).bind λj=>(gi j e.1).bind λy=>some (.inr (.inl (true,b.2.1,b.2.2.1,(lset (lset b.2.2.2.1 a.1 (lset f e.1 (w64 (g-1)))) i (lset j e.1 (w64 (l+1)))),b.2.2.2.2)))) else (some (.inl ((w64 (a.1+1)),b.2.2.1,b.2.2.2.1,b.2.2.2.2,b.2.1)))) else (some (.inl ((w64 (a.1+1)),a.2)))) else (some (.inr (.inr a.2))))
def kbK (b:Int->(Ya (Ya Bool))->(Ya (Ya Int))->(Ya Int)->(Ya Bool)->Yb (Bool×(Ya Bool)×Flow6)) (c:Int) (a:Int×(Ya (Ya Bool))×(Ya (Ya Int))×(Ya Int)×(Ya Bool)):Yb ((Int×(Ya (Ya Bool))×(Ya (Ya Int))×(Ya Int)×(Ya Bool))⊕((Bool×(Ya Bool)×Flow6)⊕((Ya Bool)×(Ya Int)×(Ya (Ya Bool))×(Ya (Ya Int))))):=
 (if (decide (a.1<(lenI a.2.2.2.1)))=true then ((gi a.2.1 c).bind λz=>(gi a.2.1 c).bind λr=>(gi r a.1).bind λo=>if (!o)=true then (some (.inl ((w64 (a.1+1)),a.2))) else ((gi a.2.2.2.2 a.1).bind λx=>(gi a.2.2.2.2 a.1).bind λn=>if n=true then (some (.inl ((w64 (a.1+1)),a.2))) else ((gi a.2.2.2.2 a.1).bind λB=>(gi a.2.2.2.1 a.1).bind λA=>(gi a.2.2.2.1 a.1).bind λu=>if (decide (0<u))=true then ((gi a.2.2.2.1 a.1).bind λy=>(gi a.2.2.2.1 a.1).bind λk=>(gi a.2.2.2.1 a.1).bind λp=>(gi a.2.2.1 c).bind λm=>(gi a.2.2.1 c).bind λw=>(gi a.2.2.1 c).bind λi=>(gi i a.1).bind λs=>(gi a.2.2.1 c).bind λl=>(gi l a.1).bind λf=>(gi a.2.2.1 c).bind λg=>(gi g a.1).bind λv=>(gi a.2.2.1 c).bind λe=>(gi e a.1).bind λt=>some (.inr (.inl (true,(lset a.2.2.2.2 a.1 true),a.2.1,(lset a.2.2.1 c (lset e a.1 (w64 (f+1)))),(lset a.2.2.2.1 a.1 (w64 (k-1))))))) else ((iter (kcX b c a) (0,a.2.1,a.2.2.1,a.2.2.2.1,(lset a.2.2.2.2 a.1 true))).bind λj=>match j with | .inl v51=>(some (.inr (.inl v51))) | .inr v52=>(some (.inl ((w64 (a.1+1)),v52))))))) else (some (.inr (.inr (a.2.2.2.2,a.2.2.2.1,a.2.1,a.2.2.1)))))
def kmq (a:Int->(Ya (Ya Bool))->(Ya (Ya Int))->(Ya Int)->(Ya Bool)->Yb (Bool×(Ya Bool)×Flow6)) (e:Int) (f:Ya (Ya Bool)) (i:Ya (Ya Int)) (g:Ya Int) (c:Ya Bool):Yb (Bool×(Ya Bool)×Flow6):=
 ((iter (kbK a e) (0,f,i,g,c)).bind λb=>match b with | .inl v54=>(some v54) | .inr v55=>(some (false,v55.1,v55.2.2.1,v55.2.2.2,v55.2.1)))
def kcE:Nat->Int->(Ya (Ya Bool))->(Ya (Ya Int))->(Ya Int)->(Ya Bool)->Yb (Bool×(Ya Bool)×Flow6)
 | 0,_,_,_,_,_=>none
 | k+1,x0,x1,x2,x3,x4=>kmq (kcE k) x0 x1 x2 x3 x4
def kkI (b:Int) (c:Ya (Ya Bool)) (f:Ya (Ya Int)) (e:Ya Int) (a:Ya Bool):Yb (Bool×(Ya Bool)×Flow6):=kcE 1000000 b c f e a
def keS (c:Int) (e:Int) (a:Int×Flow6):Yb ((Int×Flow6)⊕(Int×(Ya (Ya Int))×(Ya (Ya Bool))×(Ya Int))):=
 (if (decide (a.1<e))=true then ((gmk (lenI a.2.2.2) false).bind λf=>(kkI c a.2.1 a.2.2.1 a.2.2.2 f).bind λb=>if b.1=true then (some (.inl ((w64 (a.1+1)),b.2.2))) else (some (.inr (a.1,b.2.2.2.1,b.2.2.1,b.2.2.2.2)))) else (some (.inr (a.1,a.2.2.1,a.2.1,a.2.2.2))))
def kjo (c:Int) (e:Int) (g:Ya (Ya Bool)) (f:Ya (Ya Int)) (b:Ya Int):Yb (Int×Flow6):=
 ((iter (keS c e) (0,g,f,b)).bind λa=>some (a.1,a.2.2.1,a.2.1,a.2.2.2))
def kcz (c:Ya (Int×Int×Int)) (b:Ya Int) (a:Int):Yb (Int⊕(Int⊕Unit)):=
 (if (decide (a<(lenI b)))=true then ((gi b a).bind λe=>(gi c a).bind λg=>(kbL e 0 g.2.2).bind λf=>if (!f)=true then (some (.inr (.inl 2))) else (some (.inl (w64 (a+1))))) else (some (.inr (.inr ()))))
def kbc (c:Ya Int) (a:Int×Flow6):Yb ((Int×Flow6)⊕(Int⊕Unit)):=
 (if (decide (a.1<(lenI c)))=true then ((gi c a.1).bind λe=>(gi c a.1).bind λf=>(kjo a.1 e a.2.1 a.2.2.1 a.2.2.2).bind λb=>if (decide (b.1<f))=true then (some (.inr (.inl 6))) else (some (.inl ((w64 (a.1+1)),b.2)))) else (some (.inr (.inr ()))))
def kdC (e:Ya (Int×Int×Int)) (a:Ya (Int×Int×Int)) (g:Ya Swap) (c:Ya Int):Yb Int:=
 ((kkk e a g).bind λf=>if (f != 0)=true then (some f) else (if ((lenI c) != (lenI a))=true then (some 2) else ((iter (kcz a c) 0).bind λi=>match i with | .inl v6=>(some v6) | .inr v7=>((khf e a g).bind λj=>(iter (kbc c) (0,j)).bind λb=>match b with | .inl v14=>(some v14) | .inr v15=>(some 0)))))
def kep (b:Bill×Int) (a:Int×Int):Yb ((Int×Int)⊕Int):=
 (if (decide (a.1<(lenI b.1.1)))=true then ((gi b.1.1 a.1).bind λc=>some (.inl ((w64 (a.1+1)),(w64 (a.2+c))))) else (some (.inr a.2)))
def kkO (e:Ya (Int×Int×Int)) (a:Ya (Int×Int×Int)) (c:Ya Swap) (s:Ya (Int×Int×Int)) (j:Ya Int):Yb Bool:=
 (law08_alive.bind λf=>(kke e a c).bind λx=>if (!x)=true then (some f) else (if (decide (80<(lenI s)))=true then (some f) else (if (decide (40<(lenI j)))=true then (some f) else (if (!f)=true then (some f) else ((klw e a c).bind λm=>if (m.2 != 0)=true then (some false) else ((kgP e a c j).bind λi=>((if (i.2==0)=true then (if ((lenI j) != (lenI a))=true then (some (.inl false)) else ((kdw e a c i.1).bind λv=>if (!v)=true then (some (.inl false)) else ((keI a i.1).bind λu=>(kbu u j).bind λz=>if (!z)=true then (some (.inl false)) else ((keF e a c i.1).bind λt=>if (t.2 != 0)=true then (some (.inl false)) else (if (decide (m.1.1<t.1))=true then (some (.inl false)) else (some (.inr ()))))))) else ((kdC e a c j).bind λy=>if (i.2 != y)=true then (some (.inl false)) else (if (decide (0<(lenI i.1)))=true then (some (.inl false)) else (some (.inr ()))))):Yb (Bool⊕Unit)).bind λw=>match w with | .inl v10=>(some v10) | .inr v11=>((kiz e a c s).bind λb=>if (b.2 != 0)=true then (some f) else ((kgP e a c b.1.1).bind λg=>if (g.2 != 0)=true then (some false) else ((kdw e a c g.1).bind λl=>if (!l)=true then (some false) else ((keI a g.1).bind λn=>(kbu n b.1.1).bind λr=>if (!r)=true then (some false) else ((iter (kep b) (0,0)).bind λk=>if f=true then (if (k==m.1.1)=true then ((kkF b.1.2.1).bind λp=>(kkF a).bind λo=>some (p==(w64 (o-k)))) else (some false)) else (some false))))))))))))
end Go.Abs
