/- The functions and the law, part 8. -/
import Derived.Test.YtpjlpghgmjlbbaaGreatProg
import Derived.Test.YtpjlpghgmjlbbaaGreatZ3
import Derived.Test.YtpjlpghgmjlbbaaGreatZ6
set_option linter.constructorNameAsVariable false
set_option linter.unusedVariables false
set_option linter.unusedSimpArgs false
set_option linter.unusedSectionVars false
namespace Go.Abs
open Go
def Ctr.w (C:Ctr) (M:CtrM):Ctr:=⟨ "",C.as,C.rs,C.F,M::C.mus,C.its⟩
abbrev Ti:Ty:=.i .i64
abbrev Tj:Ty:=.sl (.pr Ti (.pr (.i .u8) Ti))
abbrev Tk:Ty:=.sl Ti
abbrev Tl:Ty:=.i .u8
abbrev Tm:Ty:=.pr Ti (.pr Tl Ti)
abbrev Tn:Ty:=.pr Ti Tl
@[reducible] def kwK:Ty:=(.pr (.i .i64) (.sl (.i .i64)))
abbrev kaj:=(Int×(List Int))
@[reducible] def tBill:Ty:=(.pr (.sl (.i .i64)) (.pr (.sl (.pr (.i .i64) (.pr (.i .u8) (.i .i64)))) (.i .i64)))
abbrev Bill:=((List Int)×(List (Int×Int×Int))×Int)
@[reducible] def kAq:Ty:=(.pr (.sl (.i .i64)) (.pr (.i .i64) (.sl (.pr (.i .i64) (.pr (.i .u8) (.i .i64))))))
abbrev knM:=((List Int)×Int×(List (Int×Int×Int)))
@[reducible] def tLine:Ty:=(.pr (.i .i64) (.pr (.i .i64) (.pr (.i .i64) (.pr (.pr (.i .i64) (.i .u8)) .b))))
abbrev Line:=(Int×Int×Int×(Int×Int)×Bool)
@[reducible] def tFlow:Ty:=(.pr (.sl (.pr (.i .i64) (.pr (.i .u8) (.i .i64)))) (.pr (.sl (.sl (.i .i64))) (.pr (.sl (.sl (.i .i64))) (.sl (.i .i64)))))
abbrev Flow:=((List (Int×Int×Int))×(List (List Int))×(List (List Int))×(List Int))
@[reducible] def tSwap:Ty:=(.pr (.i .i64) (.pr (.i .u8) (.pr (.i .i64) (.i .u8))))
abbrev Swap:=(Int×Int×Int×Int)
def kbJ (c:Int) (b:Int) (a:Int):Yb (Int×Int×Int):=
 (some (c,b,a))
def kgo (c:Int) (b:Int) (a:Int):Yb Bool:=
 (if (decide (c<=a))=true then (some (decide (a<=b))) else (some false))
def kip (b:Int×Int×Int):Yb Bool:=
 ((kgo 1 1000 b.2.2).bind λa=>some (!a))
def kcc (a:Int×Int):Yb Bool:=
 ((kgo 0 15 a.1).bind λb=>if b=true then (some (decide (a.2<=15))) else (some false))
def kdV (a:Int):Yb Bool:=
 (some (a != a))
def kcQ (b:Int) (a:Int):Yb Int:=
 ((kdV b).bind λe=>(kdV a).bind λc=>if e=true then (if c=true then (some 0) else (some (-1))) else (if c=true then (some 1) else (if (decide (b<a))=true then (some (-1)) else (if (decide (a<b))=true then (some 1) else (some 0)))))
def khs (c:Ya Int) (a:Int):Yb (Int⊕(Int⊕Unit)):=
 (if (decide (a<(lenI c)))=true then ((gi c a).bind λb=>if (b != 0)=true then (some (.inr (.inl b))) else (some (.inl (w64 (a+1))))) else (some (.inr (.inr ()))))
def kie (b:Ya Int):Yb Int:=
 ((iter (khs b) 0).bind λa=>match a with | .inl v3=>(some v3) | .inr v4=>(some 0))
def kfb (b:Int×Int) (a:Int×Int):Yb Int:=
 ((kcQ b.1 a.1).bind λc=>(kcQ b.2 a.2).bind λf=>(kie [c,f]).bind λe=>some e)
def kct (b:Ya (Int×Int×Int)) (c:((Int×Int×Int)->Yb (Int×Int))) (a:Int):Yb (Int⊕(Bool⊕Unit)):=
 (if (decide (a<(lenI b)))=true then ((gi b a).bind λe=>(c e).bind λk=>(kcc k).bind λf=>if (!f)=true then (some (.inr (.inl false))) else (if (decide (0<a))=true then ((gi b (w64 (a-1))).bind λj=>(c j).bind λg=>(c e).bind λl=>(kfb g l).bind λi=>if (decide (0<=i))=true then (some (.inr (.inl false))) else (some (.inl (w64 (a+1))))) else (some (.inl (w64 (a+1)))))) else (some (.inr (.inr ()))))
def kdn (a:Ya (Int×Int×Int)) (c:Int) (b:((Int×Int×Int)->Yb (Int×Int))):Yb Bool:=
 ((iter (kct a b) 0).bind λe=>match e with | .inl v9=>(some v9) | .inr v10=>(some (decide ((lenI a)<=c))))
def kbt (a:Int×Int×Int):Yb (Int×Int):=
 (some (a.1,a.2.1))
def kaN (b:Ya (Int×Int×Int)) (c:((Int×Int×Int)->Yb Bool)) (a:Int):Yb (Int⊕(Int⊕Unit)):=
 (if (decide (a<(lenI b)))=true then ((gi b a).bind λf=>(c f).bind λe=>if e=true then (some (.inr (.inl a))) else (some (.inl (w64 (a+1))))) else (some (.inr (.inr ()))))
def kbD (b:Ya (Int×Int×Int)) (a:((Int×Int×Int)->Yb Bool)):Yb Int:=
 ((iter (kaN b a) 0).bind λc=>match c with | .inl v4=>(some v4) | .inr v5=>(some (-1)))
def kaz (c:Ya (Int×Int×Int)) (a:((Int×Int×Int)->Yb Bool)):Yb Bool:=
 ((kbD c a).bind λb=>some (decide (0<=b)))
def kjz (c:Ya (Int×Int×Int)):Yb Int:=
 ((kdn c 30 (λ(b:Int×Int×Int)=>((kbt b).bind λa=>some a))).bind λe=>if (!e)=true then (some 8) else ((kaz c (λ(b:Int×Int×Int)=>((kip b).bind λa=>some a))).bind λf=>if f=true then (some 8) else (some 0)))
def kgv (c:Ya (Ya (Int×Int×Int))) (a:Int):Yb (Int⊕(Int⊕Unit)):=
 (if (decide (a<(lenI c)))=true then ((gi c a).bind λe=>(kjz e).bind λb=>if (b != 0)=true then (some (.inr (.inl b))) else (some (.inl (w64 (a+1))))) else (some (.inr (.inr ()))))
def kcG (a:Ya (Ya (Int×Int×Int))):Yb Int:=
 ((iter (kgv a) 0).bind λb=>match b with | .inl v4=>(some v4) | .inr v5=>(some 0))
def kpJ (b:Ya (Int×Int×Int)) (a:Ya (Int×Int×Int)):Yb Int:=
 (if ((lenI b)==0)=true then (some 1) else (if ((lenI a)==0)=true then (some (-1)) else ((gi b 0).bind λe=>(kbt e).bind λi=>(gi a 0).bind λg=>(kbt g).bind λc=>(kfb i c).bind λf=>some f)))
def ktM (r:((Int×Int)->Yb Int)) (a:(Ya (Int×Int×Int))×(Ya (Int×Int×Int))×(Ya (Int×Int×Int))):Yb (((Ya (Int×Int×Int))×(Ya (Int×Int×Int))×(Ya (Int×Int×Int)))⊕(Ya (Int×Int×Int))):=
 ((if (decide (0<(lenI a.1)))=true then (some true) else (some (decide (0<(lenI a.2.1))))).bind λs=>if s=true then ((kpJ a.1 a.2.1).bind λi=>(if (decide (i<=0))=true then ((gi a.1 0).bind λk=>(gi a.1 0).bind λo=>(gsl a.1 1 (lenI a.1)).bind λl=>(if (i==0)=true then ((gi a.2.1 0).bind λp=>(gsl a.2.1 1 (lenI a.2.1)).bind λm=>some (p.2.2,m)) else (some (0,a.2.1))).bind λj=>some (o.2.2,j.1,l,j.2,k)) else ((gi a.2.1 0).bind λn=>(gi a.2.1 0).bind λe=>(gsl a.2.1 1 (lenI a.2.1)).bind λf=>some (0,e.2.2,a.1,f,n))).bind λb=>(r (b.1,b.2.1)).bind λc=>if (c != 0)=true then ((gapp a.2.2 [(b.2.2.2.2.1,b.2.2.2.2.2.1,c)]).bind λg=>some (.inl (b.2.2.1,b.2.2.2.1,g))) else (some (.inl (b.2.2.1,b.2.2.2.1,a.2.2)))) else (some (.inr a.2.2)))
def kmE (e:Ya (Int×Int×Int)) (b:Ya (Int×Int×Int)) (c:((Int×Int)->Yb Int)):Yb (Ya (Int×Int×Int)):=
 ((iter (ktM c) (e,b,[])).bind λa=>some a)
def krv (b:Int) (a:Int):Yb Int:=
 (some (w64 (b+a)))
def kxe (e:Ya (Int×Int×Int)) (a:Ya (Int×Int×Int)):Yb ((Ya (Int×Int×Int))×Int):=
 ((kcG [e,a]).bind λb=>if (b != 0)=true then (some ([],b)) else ((kmE e a (λ(c:Int×Int)=>((krv c.1 c.2).bind λg=>some g))).bind λf=>(kjz f).bind λi=>if (i != 0)=true then (some ([],4)) else (some (f,0))))
def law08_needed:Yb (Ya (Int×Int×Int)):=
 ((kbJ 1 1 3).bind λa=>(kbJ 2 1 2).bind λb=>some [a,b])
def law08_swap:Yb (Ya Swap):=
 (some [(2,1,1,1)])
def kdi (b:Swap):Yb Bool:=
 ((bthO tSwap (some b) (some b)).bind λa=>(kcc (a.1,a.2.1)).bind λc=>if (!c)=true then (some true) else ((kcc a.2.2).bind λe=>if (!e)=true then (some true) else (some ((a.1==a.2.2.1)&&(a.2.1==a.2.2.2)))))
def kaO (b:Ya Swap) (c:(Swap->Yb Bool)) (a:Int):Yb (Int⊕(Int⊕Unit)):=
 (if (decide (a<(lenI b)))=true then ((gi b a).bind λf=>(c f).bind λe=>if e=true then (some (.inr (.inl a))) else (some (.inl (w64 (a+1))))) else (some (.inr (.inr ()))))
def kbA (b:Ya Swap) (a:(Swap->Yb Bool)):Yb Int:=
 ((iter (kaO b a) 0).bind λc=>match c with | .inl v4=>(some v4) | .inr v5=>(some (-1)))
def kbn (c:Ya Swap) (a:(Swap->Yb Bool)):Yb Bool:=
 ((kbA c a).bind λb=>some (decide (0<=b)))
def kdx (a:Ya Swap):Yb Int:=
 (if (decide (30<(lenI a)))=true then (some 2) else ((kbn a (λ(e:Swap)=>((kdi e).bind λb=>some b))).bind λc=>if c=true then (some 2) else (some 0)))
def kbg (e:Ya Swap) (a:Swap) (b:Int):Yb (Int⊕(Int⊕Unit)):=
 (if (decide (b<(lenI e)))=true then ((gi e b).bind λc=>if ((a.1==c.1)&&((a.2.1==c.2.1)&&((a.2.2.1==c.2.2.1)&&(a.2.2.2==c.2.2.2))))=true then (some (.inr (.inl b))) else (some (.inl (w64 (b+1))))) else (some (.inr (.inr ()))))
def kbZ (c:Ya Swap) (a:Swap):Yb Int:=
 ((iter (kbg c a) 0).bind λb=>match b with | .inl v3=>(some v3) | .inr v4=>(some (-1)))
def kbH (c:Ya Swap) (a:Swap):Yb Bool:=
 ((kbZ c a).bind λb=>some (decide (0<=b)))
def kkp (e:Ya Swap) (a:Int×Int) (b:Int×Int):Yb Bool:=
 (if ((a.1==b.1)&&(a.2==b.2))=true then (some true) else ((kbH e (a.1,a.2,b)).bind λc=>some c))
def kld (a:Int->(Ya Bool)->(Yb Flow)->Yb ((Ya Bool)×(Yb Flow))) (j:Int) (g:Flow) (b:Int×(Yb Flow)×(Ya Bool)):Yb ((Int×(Yb Flow)×(Ya Bool))⊕((Yb Flow)×(Ya Bool))):=
 (if (decide (b.1<(lenI g.2.2.1)))=true then (b.2.1.bind λi=>(gi i.2.2.1 b.1).bind λe=>(gi e j).bind λf=>if (decide (0<f))=true then ((a b.1 b.2.2 b.2.1).bind λc=>some (.inl ((w64 (b.1+1)),c.2,c.1))) else (some (.inl ((w64 (b.1+1)),b.2)))) else (some (.inr b.2)))
def kle (a:Int->(Ya Bool)->(Yb Flow)->Yb ((Ya Bool)×(Yb Flow))) (e:Ya Int) (b:Int×(Yb Flow)×(Ya Bool)):Yb ((Int×(Yb Flow)×(Ya Bool))⊕((Yb Flow)×(Ya Bool))):=
 (if (decide (b.1<(lenI e)))=true then ((gi e b.1).bind λg=>b.2.1.bind λf=>(iter (kld a g f) (0,b.2)).bind λc=>some (.inl ((w64 (b.1+1)),c))) else (some (.inr b.2)))
def klJ (a:Int->(Ya Bool)->(Yb Flow)->Yb ((Ya Bool)×(Yb Flow))) (e:Int) (b:Ya Bool) (f:Yb Flow):Yb ((Ya Bool)×(Yb Flow)):=
 ((gi b e).bind λk=>(gi b e).bind λj=>if j=true then (some (b,f)) else ((gi b e).bind λl=>f.bind λg=>(gi g.2.1 e).bind λi=>(iter (kle a i) (0,f,(lset b e true))).bind λc=>some (c.2,c.1)))
def keo:Nat->Int->(Ya Bool)->(Yb Flow)->Yb ((Ya Bool)×(Yb Flow))
 | 0,_,_,_=>none
 | k+1,x0,x1,x2=>klJ (keo k) x0 x1 x2
def kiF (c:Int) (b:Ya Bool) (a:Yb Flow):Yb ((Ya Bool)×(Yb Flow)):=keo 1000000 c b a
def kpn (b:Ya (Int×Int×Int)) (a:Int×(Ya (Int×Int×Int))×(Ya Int)):Yb ((Int×(Ya (Int×Int×Int))×(Ya Int))⊕((Ya (Int×Int×Int))×(Ya Int))):=
 (if (decide (a.1<(lenI b)))=true then ((gi b a.1).bind λe=>(gapp a.2.2 [e.2.2]).bind λc=>some (.inl ((w64 (a.1+1)),a.2.1,c))) else (some (.inr a.2)))
def kpt (i:Ya (Int×Int×Int)) (j:Ya Swap) (k:Int×Int×Int) (a:kaj):Yb (kaj⊕(Ya Int)):=
 (if (decide (a.1<(lenI i)))=true then ((gi i a.1).bind λb=>(kbt k).bind λe=>(kbt b).bind λf=>(kkp j e f).bind λc=>if c=true then ((gapp a.2 [a.1]).bind λg=>some (.inl ((w64 (a.1+1)),g))) else (some (.inl ((w64 (a.1+1)),a.2)))) else (some (.inr a.2)))
def kpm (c:Ya (Int×Int×Int)) (z:Ya (Int×Int×Int)) (B:Ya Swap) (a:Int×(Ya (Int×Int×Int))×(Ya (Ya Int))×(Ya (Ya Int))):Yb ((Int×(Ya (Int×Int×Int))×(Ya (Ya Int))×(Ya (Ya Int)))⊕((Ya (Int×Int×Int))×(Ya (Ya Int))×(Ya (Ya Int)))):=
 (if (decide (a.1<(lenI z)))=true then ((gi z a.1).bind λA=>(iter (kpt c B A) (0,[])).bind λb=>bthO (.sm (.pr (.i .i64) (.pr (.sl (.pr (.i .i64) (.pr (.i .u8) (.i .i64)))) (.pr (.sl (.sl (.i .i64))) (.sl (.sl (.i .i64)))))) (.pr (.sl (.pr (.i .i64) (.pr (.i .u8) (.i .i64)))) (.pr (.sl (.sl (.i .i64))) (.sl (.sl (.i .i64)))))) ((gapp a.2.2.1 [b]).bind λg=>(gmk (lenI c) 0).bind λu=>(gapp a.2.2.2 [u]).bind λv=>some (.inl ((w64 (a.1+1)),a.2.1,g,v))) (bthO (.sm (.pr (.i .i64) (.pr (.sl (.pr (.i .i64) (.pr (.i .u8) (.i .i64)))) (.pr (.sl (.sl (.i .i64))) (.sl (.sl (.i .i64)))))) (.pr (.sl (.pr (.i .i64) (.pr (.i .u8) (.i .i64)))) (.pr (.sl (.sl (.i .i64))) (.sl (.sl (.i .i64)))))) ((gmk (lenI c) 0).bind λe=>(gapp a.2.2.1 [b]).bind λm=>(gapp a.2.2.2 [e]).bind λt=>some (.inl ((w64 (a.1+1)),a.2.1,m,t))) (bthO (.sm (.pr (.i .i64) (.pr (.sl (.pr (.i .i64) (.pr (.i .u8) (.i .i64)))) (.pr (.sl (.sl (.i .i64))) (.sl (.sl (.i .i64)))))) (.pr (.sl (.pr (.i .i64) (.pr (.i .u8) (.i .i64)))) (.pr (.sl (.sl (.i .i64))) (.sl (.sl (.i .i64)))))) ((gmk (lenI c) 0).bind λs=>(gapp a.2.2.1 [b]).bind λo=>(gapp a.2.2.2 [s]).bind λj=>some (.inl ((w64 (a.1+1)),a.2.1,o,j))) (bthO (.sm (.pr (.i .i64) (.pr (.sl (.pr (.i .i64) (.pr (.i .u8) (.i .i64)))) (.pr (.sl (.sl (.i .i64))) (.sl (.sl (.i .i64)))))) (.pr (.sl (.pr (.i .i64) (.pr (.i .u8) (.i .i64)))) (.pr (.sl (.sl (.i .i64))) (.sl (.sl (.i .i64)))))) ((gmk (lenI c) 0).bind λr=>(gapp a.2.2.1 [b]).bind λy=>(gapp a.2.2.2 [r]).bind λw=>some (.inl ((w64 (a.1+1)),a.2.1,y,w))) (bthO (.sm (.pr (.i .i64) (.pr (.sl (.pr (.i .i64) (.pr (.i .u8) (.i .i64)))) (.pr (.sl (.sl (.i .i64))) (.sl (.sl (.i .i64)))))) (.pr (.sl (.pr (.i .i64) (.pr (.i .u8) (.i .i64)))) (.pr (.sl (.sl (.i .i64))) (.sl (.sl (.i .i64)))))) ((gmk (lenI c) 0).bind λk=>(gapp a.2.2.1 [b]).bind λn=>(gapp a.2.2.2 [k]).bind λx=>some (.inl ((w64 (a.1+1)),a.2.1,n,x))) ((gmk (lenI c) 0).bind λp=>(gapp a.2.2.1 [b]).bind λl=>(gapp a.2.2.2 [p]).bind λf=>some (.inl ((w64 (a.1+1)),a.2.1,l,f)))))))) else (some (.inr a.2)))
def keN (b:Ya (Int×Int×Int)) (a:Ya (Int×Int×Int)) (e:Ya Swap):Yb Int:=
 ((kcG [b,a]).bind λc=>(if (c==0)=true then ((kdx e).bind λj=>some j) else (some c)).bind λf=>if (f != 0)=true then (some f) else ((iter (kpn b) (0,a,[])).bind λg=>(iter (kpm b a e) (0,g.1,[],[])).bind λi=>none))
def keG (c:Ya (Int×Int×Int)) (b:Ya (Int×Int×Int)) (f:Ya Swap):Yb (Int×Flow):=
 ((kcG [c,b]).bind λe=>(if (e==0)=true then ((kdx f).bind λj=>some j) else (some e)).bind λi=>if (i != 0)=true then none else ((iter (kpn c) (0,b,[])).bind λg=>(iter (kpm c b f) (0,g.1,[],[])).bind λa=>some (0,a.1,a.2.1,a.2.2,g.2)))
def kmB (b:Ya Bool) (a:Int×(Ya Bool)×(Yb Flow)):Yb ((Int×(Ya Bool)×(Yb Flow))⊕(Ya Bool)):=
 (if (decide (a.1<(lenI b)))=true then ((gi b a.1).bind λc=>if c=true then ((kiF a.1 a.2.1 a.2.2).bind λe=>some (.inl ((w64 (a.1+1)),e))) else (some (.inl ((w64 (a.1+1)),a.2)))) else (some (.inr a.2.1)))
def kmv (b:Ya Bool) (a:kaj):Yb (kaj⊕(Ya Int)):=
 (if (decide (a.1<(lenI b)))=true then ((gi b a.1).bind λf=>(gi b a.1).bind λc=>if c=true then ((gapp a.2 [a.1]).bind λe=>some (.inl ((w64 (a.1+1)),e))) else (some (.inl ((w64 (a.1+1)),a.2)))) else (some (.inr a.2)))
def kgK (f:Yb Flow) (a:Ya Bool):Yb (Ya Int):=
 ((gmk (lenI a) false).bind λb=>(iter (kmB a) (0,b,f)).bind λe=>(iter (kmv e) (0,[])).bind λc=>some c)
def kbp (c:Int->Int->(Ya (Int×Int×Int))->(Ya (Ya Int))->(Ya (Ya Int))->(Ya Int)->(Ya Bool)->Yb (Int×(Ya (Int×Int×Int))×(Ya (Ya Int))×(Ya (Ya Int))×(Ya Int)×(Ya Bool))) (i:Int) (z:Int) (G:Int×(Ya Bool)×Flow) (e:Int) (a:Int×(Ya (Int×Int×Int))×(Ya (Ya Int))×(Ya (Ya Int))×(Ya Int)×(Ya Bool)):Yb ((Int×(Ya (Int×Int×Int))×(Ya (Ya Int))×(Ya (Ya Int))×(Ya Int)×(Ya Bool))⊕((Int×(Ya (Int×Int×Int))×(Ya (Ya Int))×(Ya (Ya Int))×(Ya Int)×(Ya Bool))⊕((Ya (Int×Int×Int))×(Ya (Ya Int))×(Ya (Ya Int))×(Ya Int)×(Ya Bool)))):=
 (if (decide (a.1<(lenI G.2.2.2.2.1)))=true then ((gi a.2.2.2.1 a.1).bind λE=>(gi a.2.2.2.1 a.1).bind λB=>(gi a.2.2.2.1 a.1).bind λn=>(gi n e).bind λP=>(gi a.2.2.2.1 a.1).bind λu=>(gi u e).bind λl=>if (l==0)=true then (some (.inl ((w64 (a.1+1)),a.2))) else ((gi a.2.2.2.1 a.1).bind λD=>(gi a.2.2.2.1 a.1).bind λN=>(gi a.2.2.2.1 a.1).bind λm=>(gi m e).bind λC=>(gi a.2.2.2.1 a.1).bind λk=>(gi k e).bind λp=>(c a.1 (imin z p) a.2.1 a.2.2.1 a.2.2.2.1 a.2.2.2.2.1 a.2.2.2.2.2).bind λb=>if (decide (0<b.1))=true then ((gi b.2.2.2.1 a.1).bind λy=>(gi b.2.2.2.1 a.1).bind λA=>(gi b.2.2.2.1 a.1).bind λo=>(gi o e).bind λO=>(gi b.2.2.2.1 a.1).bind λt=>(gi t e).bind λg=>(gi b.2.2.2.1 a.1).bind λx=>(gi x e).bind λF=>(gi b.2.2.2.1 a.1).bind λf=>(gi f e).bind λL=>(gi (lset b.2.2.2.1 a.1 (lset f e (w64 (g-b.1)))) i).bind λI=>(gi (lset b.2.2.2.1 a.1 (lset f e (w64 (g-b.1)))) i).bind λM=>(gi (lset b.2.2.2.1 a.1 (lset f e (w64 (g-b.1)))) i).bind λs=>(gi s e).bind λJ=>(gi (lset b.2.2.2.1 a.1 (lset f e (w64 (g-b.1)))) i).bind λr=>(gi r e).bind λw=>(gi (lset b.2.2.2.1 a.1 (lset f e (w64 (g-b.1)))) i).bind λv=>(gi v e).bind λK=>(gi (lset b.2.2.2.1 a.1 (lset f e (w64 (g-b.1)))) i).bind λj=>(gi j e).bind λH=>some (.inr (.inl (b.1,b.2.1,b.2.2.1,(lset (lset b.2.2.2.1 a.1 (lset f e (w64 (g-b.1)))) i (lset j e (w64 (w+b.1)))),b.2.2.2.2)))) else (some (.inl ((w64 (a.1+1)),b.2))))) else (some (.inr (.inr a.2))))
def kbc (a:Int->Int->(Ya (Int×Int×Int))->(Ya (Ya Int))->(Ya (Ya Int))->(Ya Int)->(Ya Bool)->Yb (Int×(Ya (Int×Int×Int))×(Ya (Ya Int))×(Ya (Ya Int))×(Ya Int)×(Ya Bool))) (e:Int) (f:Int) (p:Ya Int) (b:Int×(Ya Bool)×Flow):Yb ((Int×(Ya Bool)×Flow)⊕((Int×(Ya (Int×Int×Int))×(Ya (Ya Int))×(Ya (Ya Int))×(Ya Int)×(Ya Bool))⊕((Ya Bool)×(Ya Int)×(Ya (Ya Int))×(Ya (Int×Int×Int))×(Ya (Ya Int))))):=
 (if (decide (b.1<(lenI p)))=true then ((gi p b.1).bind λc=>(gi b.2.1 c).bind λA=>(gi b.2.1 c).bind λx=>if x=true then (some (.inl ((w64 (b.1+1)),b.2))) else ((gi b.2.1 c).bind λB=>(gi b.2.2.2.2.2 c).bind λy=>(gi b.2.2.2.2.2 c).bind λi=>if (decide (0<(imin f i)))=true then ((gi b.2.2.2.2.2 c).bind λz=>(gi b.2.2.2.2.2 c).bind λj=>(gi b.2.2.2.2.2 c).bind λs=>(gi b.2.2.2.2.1 e).bind λt=>(gi b.2.2.2.2.1 e).bind λw=>(gi b.2.2.2.2.1 e).bind λm=>(gi m c).bind λu=>(gi b.2.2.2.2.1 e).bind λk=>(gi k c).bind λn=>(gi b.2.2.2.2.1 e).bind λo=>(gi o c).bind λr=>(gi b.2.2.2.2.1 e).bind λg=>(gi g c).bind λv=>some (.inr (.inl ((imin f i),b.2.2.1,b.2.2.2.1,(lset b.2.2.2.2.1 e (lset g c (w64 (n+(imin f i))))),(lset b.2.2.2.2.2 c (w64 (j-(imin f i)))),(lset b.2.1 c true))))) else ((iter (kbp a e f b c) (0,b.2.2.1,b.2.2.2.1,b.2.2.2.2.1,b.2.2.2.2.2,(lset b.2.1 c true))).bind λl=>match l with | .inl v57=>(some (.inr (.inl v57))) | .inr v58=>(some (.inl ((w64 (b.1+1)),v58.2.2.2.2,v58.1,v58.2.1,v58.2.2.1,v58.2.2.2.1)))))) else (some (.inr (.inr (b.2.1,b.2.2.2.2.2,b.2.2.2.2.1,b.2.2.1,b.2.2.2.1)))))
def khQ (a:Int->Int->(Ya (Int×Int×Int))->(Ya (Ya Int))->(Ya (Ya Int))->(Ya Int)->(Ya Bool)->Yb (Int×(Ya (Int×Int×Int))×(Ya (Ya Int))×(Ya (Ya Int))×(Ya Int)×(Ya Bool))) (b:Int) (f:Int) (j:Ya (Int×Int×Int)) (c:Ya (Ya Int)) (l:Ya (Ya Int)) (g:Ya Int) (i:Ya Bool):Yb (Int×(Ya (Int×Int×Int))×(Ya (Ya Int))×(Ya (Ya Int))×(Ya Int)×(Ya Bool)):=
 ((gi c b).bind λm=>(gi c b).bind λk=>(iter (kbc a b f k) (0,i,j,c,l,g)).bind λe=>match e with | .inl v60=>(some v60) | .inr v61=>(some (0,v61.2.2.2.1,v61.2.2.2.2,v61.2.2.1,v61.2.1,v61.1)))
def kbi:Nat->Int->Int->(Ya (Int×Int×Int))->(Ya (Ya Int))->(Ya (Ya Int))->(Ya Int)->(Ya Bool)->Yb (Int×(Ya (Int×Int×Int))×(Ya (Ya Int))×(Ya (Ya Int))×(Ya Int)×(Ya Bool))
 | 0,_,_,_,_,_,_,_=>none
 | k+1,x0,x1,x2,x3,x4,x5,x6=>khQ (kbi k) x0 x1 x2 x3 x4 x5 x6
def kfE (e:Int) (a:Int) (g:Ya (Int×Int×Int)) (f:Ya (Ya Int)) (i:Ya (Ya Int)) (b:Ya Int) (c:Ya Bool):Yb (Int×(Ya (Int×Int×Int))×(Ya (Ya Int))×(Ya (Ya Int))×(Ya Int)×(Ya Bool)):=kbi 1000000 e a g f i b c
def kcy (e:Int) (c:Int) (a:Int×(Ya (Int×Int×Int))×(Ya (Ya Int))×(Ya (Ya Int))×(Ya Int)×(Ya Bool)):Yb ((Int×(Ya (Int×Int×Int))×(Ya (Ya Int))×(Ya (Ya Int))×(Ya Int)×(Ya Bool))⊕(Int×Flow)):=
 (if (decide (a.1<c))=true then ((gmk (lenI a.2.2.2.2.1) false).bind λf=>(kfE e (w64 (c-a.1)) a.2.1 a.2.2.1 a.2.2.2.1 a.2.2.2.2.1 f).bind λb=>if (b.1==0)=true then (some (.inr (a.1,b.2.1,b.2.2.1,b.2.2.2.1,b.2.2.2.2.1))) else (some (.inl ((w64 (a.1+b.1)),b.2)))) else (some (.inr (a.1,a.2.1,a.2.2.1,a.2.2.2.1,a.2.2.2.2.1))))
def kdK (e:Int) (b:Int) (g:Ya (Int×Int×Int)) (f:Ya (Ya Int)) (i:Ya (Ya Int)) (c:Ya Int):Yb (Int×Flow):=
 ((iter (kcy e b) (0,g,f,i,c,[])).bind λa=>some a)
def kwn (b:Ya (Int×Int×Int)) (a:Int×Int):Yb ((Int×Int)⊕Int):=
 (if (decide (a.1<(lenI b)))=true then ((gi b a.1).bind λc=>none) else (some (.inr a.2)))
def kwu (c:Ya (Int×Int×Int)) (a:Int×Int×(Ya (Int×Int×Int))×(Ya (Ya Int))×(Ya (Ya Int))×(Ya Int)×(Ya Bool)):Yb ((Int×Int×(Ya (Int×Int×Int))×(Ya (Ya Int))×(Ya (Ya Int))×(Ya Int)×(Ya Bool))⊕(Int×(Ya (Int×Int×Int))×(Ya (Ya Int))×(Ya (Ya Int))×(Ya Int)×(Ya Bool))):=
 (if (decide (a.1<(lenI c)))=true then ((gi c a.1).bind λe=>(kdK a.1 e.2.2 a.2.2.1 a.2.2.2.1 a.2.2.2.2.1 a.2.2.2.2.2.1).bind λb=>(gi a.2.2.2.2.2.2 a.1).bind λf=>some (.inl ((w64 (a.1+1)),(w64 (a.2.1+b.1)),b.2.1,b.2.2.1,b.2.2.2.1,b.2.2.2.2,(lset a.2.2.2.2.2.2 a.1 (decide (b.1<e.2.2)))))) else (some (.inr a.2)))
def kvl (g:Ya (Int×Int×Int)) (b:Ya (Int×Int×Int)) (i:Ya Swap):Yb (kaj×Int):=
 (elsO ((keN g b i).bind λf=>if (f != 0)=true then (some ((0,[]),f)) else ((gmk (lenI b) false).bind λm=>(iter (kwn b) (0,0)).bind λl=>(kgK none m).bind λj=>some ((l,j),0))) ((keG g b i).bind λc=>if (c.1 != 0)=true then (some ((0,[]),c.1)) else ((gmk (lenI b) false).bind λk=>(iter (kwu b) (0,0,c.2.1,c.2.2.1,c.2.2.2.1,c.2.2.2.2,k)).bind λa=>(kgK (some (a.2.1,a.2.2.1,a.2.2.2.1,a.2.2.2.2.1)) a.2.2.2.2.2).bind λe=>some ((a.1,e),0))))
def kim (b:Int×Int×Int):Yb Bool:=
 ((kgo 0 10000 b.2.2).bind λa=>some (!a))
def kdl (b:Line) (a:Line):Yb Int:=
 (if (!(b.2.2.2.2==a.2.2.2.2))=true then (if a.2.2.2.2=true then (some (-1)) else (some 1)) else (some (w64 (a.2.1-b.2.1))))
def kaF (j:Int) (l:((Line×Line)->Yb Int)) (a:Int×(Ya Line)):Yb ((Int×(Ya Line))⊕(Ya Line)):=
 (if (decide (j<a.1))=true then ((gi a.2 a.1).bind λp=>(gi a.2 a.1).bind λf=>(gi a.2 (w64 (a.1-1))).bind λo=>(gi a.2 (w64 (a.1-1))).bind λg=>(l (f,g)).bind λk=>if (decide (k<0))=true then ((gi a.2 (w64 (a.1-1))).bind λm=>(gi a.2 (w64 (a.1-1))).bind λc=>(gi a.2 a.1).bind λn=>(gi a.2 a.1).bind λb=>(gi a.2 a.1).bind λe=>(gi (lset a.2 a.1 c) (w64 (a.1-1))).bind λi=>some (.inl ((w64 (a.1-1)),(lset (lset a.2 a.1 c) (w64 (a.1-1)) b)))) else (some (.inr a.2))) else (some (.inr a.2)))
def kaG (e:Int) (c:Int) (f:((Line×Line)->Yb Int)) (a:Int×(Ya Line)):Yb ((Int×(Ya Line))⊕(Ya Line)):=
 (if (decide (a.1<c))=true then ((iter (kaF e f) a).bind λb=>some (.inl ((w64 (a.1+1)),b))) else (some (.inr a.2)))
def kay (b:Int) (c:Int) (f:((Line×Line)->Yb Int)) (e:Ya Line):Yb (Ya Line):=
 ((iter (kaG b c f) ((w64 (b+1)),e)).bind λa=>some a)
def kbr (b:Int) (c:Int) (g:Int) (a:Int×(Ya Line)):Yb ((Int×(Ya Line))⊕(Ya Line)):=
 (if (decide (a.1<g))=true then ((gi a.2 (w64 (c+a.1))).bind λl=>(gi a.2 (w64 (c+a.1))).bind λe=>(gi a.2 (w64 (b+a.1))).bind λi=>(gi a.2 (w64 (b+a.1))).bind λf=>(gi a.2 (w64 (b+a.1))).bind λj=>(gi (lset a.2 (w64 (b+a.1)) e) (w64 (c+a.1))).bind λk=>some (.inl ((w64 (a.1+1)),(lset (lset a.2 (w64 (b+a.1)) e) (w64 (c+a.1)) f)))) else (some (.inr a.2)))
def kaw (c:Int) (a:Int) (e:Int) (g:((Line×Line)->Yb Int)) (f:Ya Line):Yb (Ya Line):=
 ((iter (kbr c a e) (0,f)).bind λb=>some b)
def kbI (b:Int) (c:((Line×Line)->Yb Int)) (a:Int×Int×(Ya Line)):Yb ((Int×Int×(Ya Line))⊕(Int×(Ya Line))):=
 (if (a.1 != a.2.1)=true then (if (decide (a.2.1<a.1))=true then ((kaw (w64 (b-a.1)) b a.2.1 c a.2.2).bind λf=>some (.inl ((w64 (a.1-a.2.1)),a.2.1,f))) else ((kaw (w64 (b-a.1)) (w64 ((w64 (b+a.2.1))-a.1)) a.1 c a.2.2).bind λe=>some (.inl (a.1,(w64 (a.2.1-a.1)),e)))) else (some (.inr (a.1,a.2.2))))
def kaP (f:Int) (a:Int) (g:Int) (c:((Line×Line)->Yb Int)) (i:Ya Line):Yb (Ya Line):=
 ((iter (kbI a c) ((w64 (a-f)),(w64 (g-a)),i)).bind λb=>(kaw (w64 (a-b.1)) a b.1 c b.2).bind λe=>some e)
def kaX (e:Int) (j:((Line×Line)->Yb Int)) (c:Ya Line) (a:Int×Int):Yb ((Int×Int)⊕Int):=
 (if (decide (a.1<a.2))=true then ((gshr .u64 (IntKind.wrap .u64 (w64 (a.1+a.2))) 1).bind λb=>(gi c (w64 b)).bind λl=>(gi c (w64 b)).bind λf=>(gi c e).bind λk=>(gi c e).bind λg=>(j (f,g)).bind λi=>if (decide (i<0))=true then (some (.inl ((w64 ((w64 b)+1)),a.2))) else (some (.inl (a.1,(w64 b))))) else (some (.inr a.1)))
def kaV (g:Int) (a:Int×(Ya Line)):Yb ((Int×(Ya Line))⊕(Ya Line)):=
 (if (decide (a.1<(w64 (g-1))))=true then ((gi a.2 (w64 (a.1+1))).bind λj=>(gi a.2 (w64 (a.1+1))).bind λb=>(gi a.2 a.1).bind λf=>(gi a.2 a.1).bind λc=>(gi a.2 a.1).bind λe=>(gi (lset a.2 a.1 b) (w64 (a.1+1))).bind λi=>some (.inl ((w64 (a.1+1)),(lset (lset a.2 a.1 b) (w64 (a.1+1)) c)))) else (some (.inr a.2)))
def kaU (i:Int) (j:((Line×Line)->Yb Int)) (c:Ya Line) (a:Int×Int):Yb ((Int×Int)⊕Int):=
 (if (decide (a.1<a.2))=true then ((gshr .u64 (IntKind.wrap .u64 (w64 (a.1+a.2))) 1).bind λb=>(gi c i).bind λl=>(gi c i).bind λe=>(gi c (w64 b)).bind λk=>(gi c (w64 b)).bind λg=>(j (e,g)).bind λf=>if (!(decide (f<0)))=true then (some (.inl ((w64 ((w64 b)+1)),a.2))) else (some (.inl (a.1,(w64 b))))) else (some (.inr a.1)))
def kaW (c:Int) (a:Int×(Ya Line)):Yb ((Int×(Ya Line))⊕(Ya Line)):=
 (if (decide (c<a.1))=true then ((gi a.2 (w64 (a.1-1))).bind λf=>(gi a.2 (w64 (a.1-1))).bind λb=>(gi a.2 a.1).bind λg=>(gi a.2 a.1).bind λe=>(gi a.2 a.1).bind λj=>(gi (lset a.2 a.1 b) (w64 (a.1-1))).bind λi=>some (.inl ((w64 (a.1-1)),(lset (lset a.2 a.1 b) (w64 (a.1-1)) e)))) else (some (.inr a.2)))
def kaY (j:Int) (m:((Line×Line)->Yb Int)) (e:Ya Line) (c:Int) (a:Int×Int):Yb ((Int×Int)⊕Int):=
 (if (decide (a.1<a.2))=true then ((gshr .u64 (IntKind.wrap .u64 (w64 (a.1+a.2))) 1).bind λb=>(gi e (w64 ((w64 ((w64 ((w64 c)+j))-1))-(w64 b)))).bind λk=>(gi e (w64 ((w64 ((w64 ((w64 c)+j))-1))-(w64 b)))).bind λg=>(gi e (w64 b)).bind λl=>(gi e (w64 b)).bind λi=>(m (g,i)).bind λf=>if (!(decide (f<0)))=true then (some (.inl ((w64 ((w64 b)+1)),a.2))) else (some (.inl (a.1,(w64 b))))) else (some (.inr a.1)))
def kbC (rec_slices_symMergeCmpFunc_box_line_m0:Int->Int->Int->((Line×Line)->Yb Int)->(Ya Line)->Yb (Ya Line)) (e:Int) (c:Int) (j:Int) (i:((Line×Line)->Yb Int)) (f:Ya Line):Yb (Ya Line):=
 (if ((w64 (c-e))==1)=true then ((iter (kaX e i f) (c,j)).bind λv=>(iter (kaV v) (e,f)).bind λr=>some r) else (if ((w64 (j-c))==1)=true then ((iter (kaU c i f) (e,c)).bind λm=>(iter (kaW m) (c,f)).bind λn=>some n) else ((gshr .u64 (IntKind.wrap .u64 (w64 (e+j))) 1).bind λa=>(if (decide ((w64 a)<c))=true then (some ((w64 ((w64 ((w64 a)+c))-j)),(w64 a))) else (some (e,c))).bind λl=>(iter (kaY c i f a) l).bind λb=>(if (decide (b<c))=true then (some (decide (c<(w64 ((w64 ((w64 a)+c))-b))))) else (some false)).bind λu=>(if u=true then ((kaP b c (w64 ((w64 ((w64 a)+c))-b)) i f).bind λo=>some o) else (some f)).bind λk=>(if (decide (e<b))=true then (some (decide (b<(w64 a)))) else (some false)).bind λt=>(if t=true then ((rec_slices_symMergeCmpFunc_box_line_m0 e b (w64 a) i k).bind λp=>some p) else (some k)).bind λg=>if (decide ((w64 a)<(w64 ((w64 ((w64 a)+c))-b))))=true then (if (decide ((w64 ((w64 ((w64 a)+c))-b))<j))=true then ((rec_slices_symMergeCmpFunc_box_line_m0 (w64 a) (w64 ((w64 ((w64 a)+c))-b)) j i g).bind λs=>some s) else (some g)) else (some g))))
def kam:Nat->Int->Int->Int->((Line×Line)->Yb Int)->(Ya Line)->Yb (Ya Line)
 | 0,_,_,_,_,_=>none
 | k+1,x0,x1,x2,x3,x4=>kbC (kam k) x0 x1 x2 x3 x4
def kaJ (b:Int) (a:Int) (e:Int) (c:((Line×Line)->Yb Int)) (f:Ya Line):Yb (Ya Line):=kam 1000000 b a e c f
def kbf (e:Int) (b:((Line×Line)->Yb Int)) (a:Int×Int×(Ya Line)):Yb ((Int×Int×(Ya Line))⊕(Int×(Ya Line))):=
 (if (decide (a.1<=e))=true then ((kay a.2.1 a.1 b a.2.2).bind λc=>some (.inl ((w64 (a.1+20)),a.1,c))) else (some (.inr a.2)))
def kbe (e:Int) (c:((Line×Line)->Yb Int)) (b:Int×(Ya Line)) (a:Int×Int×(Ya Line)):Yb ((Int×Int×(Ya Line))⊕(Int×(Ya Line))):=
 (if (decide (a.1<=e))=true then ((kaJ a.2.1 (w64 (a.2.1+b.1)) a.1 c a.2.2).bind λf=>some (.inl ((w64 (a.1+(w64 (2*b.1)))),a.1,f))) else (some (.inr a.2)))
def kbG (c:Int) (e:((Line×Line)->Yb Int)) (a:Int×(Ya Line)):Yb ((Int×(Ya Line))⊕(Ya Line)):=
 (if (decide (a.1<c))=true then ((iter (kbe c e a) ((w64 (2*a.1)),0,a.2)).bind λb=>if (decide ((w64 (b.1+a.1))<c))=true then ((kaJ b.1 (w64 (b.1+a.1)) c e b.2).bind λf=>some (.inl ((w64 (a.1*2)),f))) else (some (.inl ((w64 (a.1*2)),b.2)))) else (some (.inr a.2)))
def kbl (b:Int) (a:((Line×Line)->Yb Int)) (g:Ya Line):Yb (Ya Line):=
 ((iter (kbf b a) (20,0,g)).bind λc=>(kay c.1 b a c.2).bind λe=>(iter (kbG b a) (20,e)).bind λf=>some f)
def kat (c:((Line×Line)->Yb Int)) (a:Ya Line):Yb (Ya Line):=
 ((kbl (lenI a) c a).bind λb=>some b)
def kba (b:Int×Int) (a:Ya ((Int×Int)×Int)) (f:Bool) (c:Int) (g:Int) (e:Int):Yb ((Ya ((Int×Int)×Int))×Bool×Int×Int×Int):=
 (if (mget a b).isSome=true then (if (!f)=true then (some (a,true,((mget a b).getD 0),b)) else (if (decide (((mget a b).getD 0)<c))=true then (some (a,true,((mget a b).getD 0),b)) else (if (((mget a b).getD 0)==c)=true then ((kfb b (g,e)).bind λi=>if (decide (i<0))=true then (some (a,true,((mget a b).getD 0),b)) else (some (a,f,c,g,e))) else (some (a,f,c,g,e))))) else (some (a,f,c,g,e)))
def kgd (e:Ya Swap) (c:Int×Int) (a:Int×(Ya ((Int×Int)×Int))×Bool×Int×Int×Int):Yb ((Int×(Ya ((Int×Int)×Int))×Bool×Int×Int×Int)⊕(Int×Int×Int×Bool×(Ya ((Int×Int)×Int)))):=
 (if (decide (a.1<(lenI e)))=true then ((gi e a.1).bind λb=>if ((c.1==b.1)&&(c.2==b.2.1))=true then ((kba b.2.2 a.2.1 a.2.2.1 a.2.2.2.1 a.2.2.2.2.1 a.2.2.2.2.2).bind λf=>some (.inl ((w64 (a.1+1)),f))) else (some (.inl ((w64 (a.1+1)),a.2)))) else (some (.inr (a.2.2.2.1,a.2.2.2.2.1,a.2.2.2.2.2,a.2.2.1,a.2.1))))
def kcS (e:Ya Swap) (a:Int×Int) (f:Ya ((Int×Int)×Int)):Yb (Int×Int×Int×Bool×(Ya ((Int×Int)×Int))):=
 ((kba a f false 0 0 0).bind λb=>(iter (kgd e a) (0,b)).bind λc=>some c)
def kxY (b:Ya (Int×Int×Int)) (a:Int×(Ya ((Int×Int)×Int))):Yb ((Int×(Ya ((Int×Int)×Int)))⊕(Ya ((Int×Int)×Int))):=
 (if (decide (a.1<(lenI b)))=true then ((gi b a.1).bind λc=>(kbt c).bind λe=>some (.inl ((w64 (a.1+1)),(mput a.2 e c.2.2)))) else (some (.inr a.2)))
def kxG (e:Ya (Int×Int×Int)) (i:Ya Swap) (b:Int×(Ya ((Int×Int)×Int))×(Ya Line)):Yb ((Int×(Ya ((Int×Int)×Int))×(Ya Line))⊕(Ya Line)):=
 (if (decide (b.1<(lenI e)))=true then ((gi e b.1).bind λf=>(kbt f).bind λg=>(kcS i g b.2.1).bind λa=>(gapp b.2.2 [(b.1,a.1,f.2.2,(a.2.1,a.2.2.1),a.2.2.2.1)]).bind λc=>some (.inl ((w64 (b.1+1)),a.2.2.2.2,c))) else (some (.inr b.2.2)))
def kxB (a:Ya Line) (b:Int):Yb (Int⊕((Bill×Int)⊕Unit)):=
 (if (decide (b<(lenI a)))=true then ((gi a b).bind λc=>(gi a b).bind λe=>none) else (some (.inr (.inr ()))))
def kxR (f:Ya (Int×Int×Int)) (a:Int×Int×Int×(Ya (Int×Int×Int))):Yb ((Int×Int×Int×(Ya (Int×Int×Int)))⊕((Bill×Int)⊕(Int×(Ya (Int×Int×Int))×Int))):=
 (if (decide (a.1<(lenI f)))=true then ((gi f a.1).bind λc=>(kbt c).bind λb=>if (decide (1000<((mget [] b).getD 0)))=true then (some (.inr (.inl (([],[],0),4)))) else (if (decide (0<((mget [] b).getD 0)))=true then ((gapp a.2.2.2 [(c.1,c.2.1,((mget [] b).getD 0))]).bind λe=>some (.inl ((w64 (a.1+1)),a.2.1,a.2.2.1,e))) else (some (.inl ((w64 (a.1+1)),a.2))))) else (some (.inr (.inr (a.2.2.1,a.2.2.2,a.2.1)))))
def kjW (e:Ya (Int×Int×Int)) (a:Int×(Ya ((Int×Int)×Int))):Yb ((Int×(Ya ((Int×Int)×Int)))⊕(Ya ((Int×Int)×Int))):=
 (if (decide (a.1<(lenI e)))=true then ((gi e a.1).bind λb=>(kbt b).bind λc=>some (.inl ((w64 (a.1+1)),(mput a.2 c b.2.2)))) else (some (.inr a.2)))
def kka (g:Ya (Int×Int×Int)) (i:Ya Swap) (a:Int×(Ya ((Int×Int)×Int))×(Ya Line)):Yb ((Int×(Ya ((Int×Int)×Int))×(Ya Line))⊕(Ya Line)):=
 (if (decide (a.1<(lenI g)))=true then ((gi g a.1).bind λc=>(kbt c).bind λe=>(kcS i e a.2.1).bind λb=>(gapp a.2.2 [(a.1,b.1,c.2.2,(b.2.1,b.2.2.1),b.2.2.2.1)]).bind λf=>some (.inl ((w64 (a.1+1)),b.2.2.2.2,f))) else (some (.inr a.2.2)))
def kkf (e:Ya Line) (a:Int×(Ya (Int×Int×Int))×(Ya (Ya Int))×(Ya (Ya Int))×(Ya Int)×Int×(Ya Int)×Int×(Ya ((Int×Int)×Int))):Yb ((Int×(Ya (Int×Int×Int))×(Ya (Ya Int))×(Ya (Ya Int))×(Ya Int)×Int×(Ya Int)×Int×(Ya ((Int×Int)×Int)))⊕((Bill×Int)⊕((Ya ((Int×Int)×Int))×Int×kaj))):=
 (if (decide (a.1<(lenI e)))=true then ((gi e a.1).bind λg=>(gi e a.1).bind λb=>(kdK b.1 b.2.2.1 a.2.1 a.2.2.1 a.2.2.2.1 a.2.2.2.2.1).bind λc=>(gi a.2.2.2.2.2.2.1 b.1).bind λj=>(if (decide (c.1<b.2.2.1))=true then (some (!b.2.2.2.2)) else (some false)).bind λf=>if f=true then (some (.inr (.inl (([],[],0),80)))) else (bthO (.sm (.pr (.i .i64) (.pr (.sl (.pr (.i .i64) (.pr (.i .u8) (.i .i64)))) (.pr (.sl (.sl (.i .i64))) (.pr (.sl (.sl (.i .i64))) (.pr (.sl (.i .i64)) (.pr (.i .i64) (.pr (.sl (.i .i64)) (.pr (.i .i64) (.sl (.pr (.pr (.i .i64) (.i .u8)) (.i .i64))))))))))) (.sm (.pr tBill (.i .i64)) (.pr (.sl (.pr (.pr (.i .i64) (.i .u8)) (.i .i64))) (.pr (.i .i64) kwK)))) ((gi (ment a.2.2.2.2.2.2.2.2 b.2.2.2.1 0) (midx a.2.2.2.2.2.2.2.2 b.2.2.2.1)).bind λl=>some (.inl ((w64 (a.1+1)),c.2.1,c.2.2.1,c.2.2.2.1,c.2.2.2.2,(w64 (a.2.2.2.2.2.1+(w64 ((w64 (b.2.2.1-c.1))*b.2.1)))),(lset a.2.2.2.2.2.2.1 b.1 c.1),a.2.2.2.2.2.2.2.1,(mset (ment a.2.2.2.2.2.2.2.2 b.2.2.2.1 0) (midx a.2.2.2.2.2.2.2.2 b.2.2.2.1) (w64 (((mget a.2.2.2.2.2.2.2.2 b.2.2.2.1).getD 0)+(w64 (b.2.2.1-c.1)))))))) ((gi (ment a.2.2.2.2.2.2.2.2 b.2.2.2.1 0) (midx a.2.2.2.2.2.2.2.2 b.2.2.2.1)).bind λk=>some (.inl ((w64 (a.1+1)),c.2.1,c.2.2.1,c.2.2.2.1,c.2.2.2.2,(w64 (a.2.2.2.2.2.1+(w64 ((w64 (b.2.2.1-c.1))*b.2.1)))),(lset a.2.2.2.2.2.2.1 b.1 c.1),a.2.2.2.2.2.2.2.1,(mset (ment a.2.2.2.2.2.2.2.2 b.2.2.2.1 0) (midx a.2.2.2.2.2.2.2.2 b.2.2.2.1) (w64 (((mget (ment a.2.2.2.2.2.2.2.2 b.2.2.2.1 0) b.2.2.2.1).getD 0)+(w64 (b.2.2.1-c.1)))))))))) else (some (.inr (.inr (a.2.2.2.2.2.2.2.2,a.2.2.2.2.2.2.2.1,a.2.2.2.2.2.1,a.2.2.2.2.2.2.1)))))
def kke (g:Ya (Int×Int×Int)) (b:(Ya ((Int×Int)×Int))×Int×kaj) (a:Int×Int×Int×(Ya (Int×Int×Int))):Yb ((Int×Int×Int×(Ya (Int×Int×Int)))⊕((Bill×Int)⊕(Int×(Ya (Int×Int×Int))×Int))):=
 (if (decide (a.1<(lenI g)))=true then ((gi g a.1).bind λe=>(kbt e).bind λc=>if (decide (1000<((mget b.1 c).getD 0)))=true then (some (.inr (.inl (([],[],0),4)))) else (if (decide (0<((mget b.1 c).getD 0)))=true then ((gapp a.2.2.2 [(e.1,e.2.1,((mget b.1 c).getD 0))]).bind λf=>some (.inl ((w64 (a.1+1)),a.2.1,a.2.2.1,f))) else (some (.inl ((w64 (a.1+1)),a.2))))) else (some (.inr (.inr (a.2.2.1,a.2.2.2,a.2.1)))))
def kgt (w:Ya (Int×Int×Int)) (f:Ya (Int×Int×Int)) (g:Ya Swap) (e:Ya (Int×Int×Int)):Yb (Bill×Int):=
 (elsO ((keN w f g).bind λx=>if (x != 0)=true then (some (([],[],0),x)) else ((kdn e 60 (λ(b:Int×Int×Int)=>((kbt b).bind λc=>some c))).bind λy=>if (!y)=true then (some (([],[],0),2)) else ((kaz e (λ(b:Int×Int×Int)=>((kim b).bind λc=>some c))).bind λz=>if z=true then (some (([],[],0),2)) else ((iter (kxY e) (0,[])).bind λA=>(iter (kxG f g) (0,A,[])).bind λo=>(kat (λ(b:Line×Line)=>((kdl b.1 b.2).bind λc=>some c)) o).bind λs=>(gmk (lenI f) 0).bind λl=>(iter (kxB s) 0).bind λp=>match p with | .inl v19=>(some v19) | .inr v20=>((iter (kxR e) (0,0,0,[])).bind λk=>match k with | .inl v26=>(some v26) | .inr v27=>(some ((l,v27.2.1,v27.1),0))))))) ((keG w f g).bind λa=>if (a.1 != 0)=true then (some (([],[],0),a.1)) else ((kdn e 60 (λ(b:Int×Int×Int)=>((kbt b).bind λc=>some c))).bind λi=>if (!i)=true then (some (([],[],0),2)) else ((kaz e (λ(b:Int×Int×Int)=>((kim b).bind λc=>some c))).bind λt=>if t=true then (some (([],[],0),2)) else ((iter (kjW e) (0,[])).bind λm=>(iter (kka f g) (0,m,[])).bind λr=>(kat (λ(b:Line×Line)=>((kdl b.1 b.2).bind λc=>some c)) r).bind λj=>(gmk (lenI f) 0).bind λv=>(iter (kkf j) (0,a.2.1,a.2.2.1,a.2.2.2.1,a.2.2.2.2,0,v,0,[])).bind λu=>match u with | .inl v52=>(some v52) | .inr v53=>((iter (kke e v53) (0,v53.2.1,v53.2.2.1,[])).bind λn=>match n with | .inl v59=>(some v59) | .inr v60=>(some ((v53.2.2.2,v60.2.1,v60.1),0))))))))
def law08_plans:Yb (Ya (Ya (Int×Int×Int))):=
 ((kbJ 1 1 2).bind λa=>(kbJ 1 1 1).bind λb=>(kbJ 1 1 3).bind λc=>some [[a],[b],[c]])
def kmp (b:Int):Yb Bool:=
 ((kgo 0 1000 b).bind λa=>some (!a))
def kiG (b:Ya Int) (c:(Int->Yb Bool)) (a:Int):Yb (Int⊕(Int⊕Unit)):=
 (if (decide (a<(lenI b)))=true then ((gi b a).bind λf=>(c f).bind λe=>if e=true then (some (.inr (.inl a))) else (some (.inl (w64 (a+1))))) else (some (.inr (.inr ()))))
def kcU (b:Ya Int) (a:(Int->Yb Bool)):Yb Int:=
 ((iter (kiG b a) 0).bind λc=>match c with | .inl v4=>(some v4) | .inr v5=>(some (-1)))
def keC (c:Ya Int) (a:(Int->Yb Bool)):Yb Bool:=
 ((kcU c a).bind λb=>some (decide (0<=b)))
def kpy (a:Ya (Ya (Int×Int×Int))) (b:Ya Int):Yb Int:=
 ((kcG a).bind λc=>if (c != 0)=true then (some c) else (if (decide (8<(lenI a)))=true then (some 4) else (if ((lenI b) != (lenI a))=true then (some 2) else ((keC b (λ(f:Int)=>((kmp f).bind λe=>some e))).bind λg=>if g=true then (some 2) else (some 0)))))
def kpT (b:Int) (a:Int):Yb Int:=
 (some (w64 (b-a)))
def kpA (a:Int×Int×Int):Yb Bool:=
 (some (decide (a.2.2<0)))
def kpV (f:Ya (Int×Int×Int)) (c:Ya (Int×Int×Int)):Yb ((Ya (Int×Int×Int))×Int):=
 ((kcG [f,c]).bind λe=>if (e != 0)=true then (some ([],e)) else ((kmE f c (λ(a:Int×Int)=>((kpT a.1 a.2).bind λb=>some b))).bind λg=>(kaz g (λ(a:Int×Int×Int)=>((kpA a).bind λb=>some b))).bind λi=>if i=true then (some ([],6)) else (some (g,0))))
def kaB (a:Ya (Int×Int×Int)):Yb (Ya (Int×Int×Int)):=
 (if (isE a)=true then (bthO (.sl (.pr (.i .i64) (.pr (.i .u8) (.i .i64)))) (some []) ((gapp [] a).bind λb=>some b)) else ((gapp [] a).bind λc=>some c))
def kcD:Nat->Ya (Ya (Int×Int×Int))->Int->Int->Ya (Int×Int×Int)->Yb (Ya (Int×Ya (Int×Int×Int)))
 | 0,_,_,_,_=>none
 | d+1,ps,i,s,l=>
  if i=lenI ps then some [(s,l)] else
   (gi ps i).bind λp=>(kpV l p).bind λr=>
    if r.2=0 then (gshl .i64 1 i).bind λb=>(kcD d ps (w64 (i+1)) (bitsI .or .i64 s b) r.1).bind λx=>(kcD d ps (w64 (i+1)) s l).bind λy=>some (x++y)
    else kcD d ps (w64 (i+1)) s l
def kiz (_:Yb (Ya (Int×Ya (Int×Int×Int)))) (a:Ya (Ya (Int×Int×Int))) (b:Ya (Int×Int×Int)):Yb (Ya (Int×Ya (Int×Int×Int))):=
 (kaB b).bind λl=>kcD (a.length+1) a 0 0 l
def kox (b:Ya (Int×Int×Int)) (a:Ya (Ya (Int×Int×Int))):Yb ((Ya (Ya (Int×Int×Int)))×(Ya (Int×Int×Int))):=
 (some (a,b))
def ksA (e:Int) (b:Ya Int) (a:Int×kaj):Yb ((Int×kaj)⊕kaj):=
 (if (decide (a.1<(lenI b)))=true then ((gi b a.1).bind λg=>(gshr .i64 e a.1).bind λf=>if ((bitsI .and .i64 f 1)==1)=true then ((gapp a.2.2 [a.1]).bind λc=>some (.inl ((w64 (a.1+1)),(w64 (a.2.1+g)),c))) else (some (.inl ((w64 (a.1+1)),a.2)))) else (some (.inr a.2)))
def kpR (c:Int) (b:Ya Int):Yb ((Ya Int)×Int):=
 ((iter (ksA c b) (0,0,[])).bind λa=>some (a.2,a.1))
def kjC (e:Ya Int) (c:Ya Int) (a:Int):Yb (Int⊕(Int⊕Unit)):=
 (if (decide (a<(lenI e)))=true then ((gi e a).bind λg=>if (decide ((lenI c)<=a))=true then (some (.inr (.inl 1))) else ((gi c a).bind λf=>(kcQ g f).bind λb=>if (b != 0)=true then (some (.inr (.inl b))) else (some (.inl (w64 (a+1)))))) else (some (.inr (.inr ()))))
def kgi (b:Ya Int) (a:Ya Int):Yb Int:=
 ((iter (kjC b a) 0).bind λc=>match c with | .inl v5=>(some v5) | .inr v6=>(if (decide ((lenI b)<(lenI a)))=true then (some (-1)) else (some 0)))
def ktL (k:Ya Int) (i:Ya (Int×(Ya (Int×Int×Int)))) (a:Int×knM):Yb ((Int×knM)⊕((knM×Int)⊕knM)):=
 (if (decide (a.1<(lenI i)))=true then ((gi i a.1).bind λg=>(kpR g.1 k).bind λb=>if (decide (a.2.2.1<b.2))=true then ((kaB g.2).bind λl=>some (.inl ((a.1+1),b.1,b.2,l))) else (if (b.2==a.2.2.1)=true then ((kcQ (lenI b.1) (lenI a.2.1)).bind λj=>(kgi b.1 a.2.1).bind λc=>(kie [j,c]).bind λe=>if (decide (e<0))=true then ((kaB g.2).bind λf=>some (.inl ((a.1+1),b.1,b.2,f))) else (some (.inl ((a.1+1),a.2)))) else (some (.inl ((a.1+1),a.2))))) else (some (.inr (.inr a.2))))
def kru (g:Ya (Int×Int×Int)) (c:Ya (Ya (Int×Int×Int))) (i:Ya Int):Yb (knM×Int):=
 ((kcG [g]).bind λe=>(if (e==0)=true then ((kpy c i).bind λk=>some k) else (some e)).bind λf=>if (f != 0)=true then (some (([],0,[]),f)) else ((kox g c).bind λb=>(runI λo=>kiz o b.1 b.2).bind λj=>(iter (ktL i j) (0,[],(-1),[])).bind λa=>match a with | .inl v14=>(some v14) | .inr v15=>(some (v15,0))))
def khB (o:Yb (Ya Int)) (b:Ya Int) (a:kaj):Yb (kaj⊕((Ya Int)⊕(Ya Int))):=
 (if (decide (a.1<(lenI b)))=true then ((gi b a.1).bind λe=>(gpre (.i .i64) o a.2 e).bind λc=>some (.inl ((w64 (a.1+1)),c))) else (some (.inr (.inr a.2))))
def kez (o:Yb (Ya Int)) (a:Ya Int):Yb (Ya Int):=
 ((iter (khB o a) (0,[])).bind λb=>match b with | .inl v4=>(some v4) | .inr v5=>(some v5))
def kfq (a:Ya Int):Yb (Ya Int):=
 (some a)
def kqY (b:Int):Yb Int:=
 ((if (decide (65536<=b))=true then ((gshr .u32 b 16).bind λe=>some (e,16)) else (some (b,0))).bind λa=>if (decide (256<=a.1))=true then ((gshr .u32 a.1 8).bind λg=>(gstr [0,1,2,2,3,3,3,3,4,4,4,4,4,4,4,4,5,5,5,5,5,5,5,5,5,5,5,5,5,5,5,5,6,6,6,6,6,6,6,6,6,6,6,6,6,6,6,6,6,6,6,6,6,6,6,6,6,6,6,6,6,6,6,6,7,7,7,7,7,7,7,7,7,7,7,7,7,7,7,7,7,7,7,7,7,7,7,7,7,7,7,7,7,7,7,7,7,7,7,7,7,7,7,7,7,7,7,7,7,7,7,7,7,7,7,7,7,7,7,7,7,7,7,7,7,7,7,7,8,8,8,8,8,8,8,8,8,8,8,8,8,8,8,8,8,8,8,8,8,8,8,8,8,8,8,8,8,8,8,8,8,8,8,8,8,8,8,8,8,8,8,8,8,8,8,8,8,8,8,8,8,8,8,8,8,8,8,8,8,8,8,8,8,8,8,8,8,8,8,8,8,8,8,8,8,8,8,8,8,8,8,8,8,8,8,8,8,8,8,8,8,8,8,8,8,8,8,8,8,8,8,8,8,8,8,8,8,8,8,8,8,8,8,8,8,8,8,8,8,8,8,8,8,8,8,8] (IntKind.wrap .u8 g)).bind λc=>some (w64 ((w64 (a.2+8))+(w64 c)))) else ((gstr [0,1,2,2,3,3,3,3,4,4,4,4,4,4,4,4,5,5,5,5,5,5,5,5,5,5,5,5,5,5,5,5,6,6,6,6,6,6,6,6,6,6,6,6,6,6,6,6,6,6,6,6,6,6,6,6,6,6,6,6,6,6,6,6,7,7,7,7,7,7,7,7,7,7,7,7,7,7,7,7,7,7,7,7,7,7,7,7,7,7,7,7,7,7,7,7,7,7,7,7,7,7,7,7,7,7,7,7,7,7,7,7,7,7,7,7,7,7,7,7,7,7,7,7,7,7,7,7,8,8,8,8,8,8,8,8,8,8,8,8,8,8,8,8,8,8,8,8,8,8,8,8,8,8,8,8,8,8,8,8,8,8,8,8,8,8,8,8,8,8,8,8,8,8,8,8,8,8,8,8,8,8,8,8,8,8,8,8,8,8,8,8,8,8,8,8,8,8,8,8,8,8,8,8,8,8,8,8,8,8,8,8,8,8,8,8,8,8,8,8,8,8,8,8,8,8,8,8,8,8,8,8,8,8,8,8,8,8,8,8,8,8,8,8,8,8,8,8,8,8,8,8,8,8,8,8] (IntKind.wrap .u8 a.1)).bind λf=>some (w64 (a.2+(w64 f)))))
def klj (c:Int):Yb Int:=
 ((if (decide (4294967296<=c))=true then ((gshr .u64 c 32).bind λf=>some (f,32)) else (some (c,0))).bind λb=>(if (decide (65536<=b.1))=true then ((gshr .u64 b.1 16).bind λi=>some (i,(w64 (b.2+16)))) else (some b)).bind λa=>if (decide (256<=a.1))=true then ((gshr .u64 a.1 8).bind λg=>(gstr [0,1,2,2,3,3,3,3,4,4,4,4,4,4,4,4,5,5,5,5,5,5,5,5,5,5,5,5,5,5,5,5,6,6,6,6,6,6,6,6,6,6,6,6,6,6,6,6,6,6,6,6,6,6,6,6,6,6,6,6,6,6,6,6,7,7,7,7,7,7,7,7,7,7,7,7,7,7,7,7,7,7,7,7,7,7,7,7,7,7,7,7,7,7,7,7,7,7,7,7,7,7,7,7,7,7,7,7,7,7,7,7,7,7,7,7,7,7,7,7,7,7,7,7,7,7,7,7,8,8,8,8,8,8,8,8,8,8,8,8,8,8,8,8,8,8,8,8,8,8,8,8,8,8,8,8,8,8,8,8,8,8,8,8,8,8,8,8,8,8,8,8,8,8,8,8,8,8,8,8,8,8,8,8,8,8,8,8,8,8,8,8,8,8,8,8,8,8,8,8,8,8,8,8,8,8,8,8,8,8,8,8,8,8,8,8,8,8,8,8,8,8,8,8,8,8,8,8,8,8,8,8,8,8,8,8,8,8,8,8,8,8,8,8,8,8,8,8,8,8,8,8,8,8,8,8] (IntKind.wrap .u8 g)).bind λe=>some (w64 ((w64 (a.2+8))+(w64 e)))) else ((gstr [0,1,2,2,3,3,3,3,4,4,4,4,4,4,4,4,5,5,5,5,5,5,5,5,5,5,5,5,5,5,5,5,6,6,6,6,6,6,6,6,6,6,6,6,6,6,6,6,6,6,6,6,6,6,6,6,6,6,6,6,6,6,6,6,7,7,7,7,7,7,7,7,7,7,7,7,7,7,7,7,7,7,7,7,7,7,7,7,7,7,7,7,7,7,7,7,7,7,7,7,7,7,7,7,7,7,7,7,7,7,7,7,7,7,7,7,7,7,7,7,7,7,7,7,7,7,7,7,8,8,8,8,8,8,8,8,8,8,8,8,8,8,8,8,8,8,8,8,8,8,8,8,8,8,8,8,8,8,8,8,8,8,8,8,8,8,8,8,8,8,8,8,8,8,8,8,8,8,8,8,8,8,8,8,8,8,8,8,8,8,8,8,8,8,8,8,8,8,8,8,8,8,8,8,8,8,8,8,8,8,8,8,8,8,8,8,8,8,8,8,8,8,8,8,8,8,8,8,8,8,8,8,8,8,8,8,8,8,8,8,8,8,8,8,8,8,8,8,8,8,8,8,8,8,8,8] (IntKind.wrap .u8 a.1)).bind λj=>some (w64 (a.2+(w64 j)))))
def kjI (b:Int):Yb Int:=
 ((klj b).bind λa=>some a)
def kaR (b:Int) (a:Int):Yb Bool:=
 ((kdV b).bind λc=>if c=true then ((kdV a).bind λe=>if (!e)=true then (some true) else (some (decide (b<a)))) else (some (decide (b<a))))
def khO (c:Int):Yb Int:=
 ((kjI (IntKind.wrap .u64 c)).bind λa=>(gshl .u64 1 a).bind λb=>some b)
def kgE (a:Int):Yb (Int×Int):=
 ((gshl .u64 a 13).bind λb=>(gshr .u64 (bitsI .xor .u64 a b) 7).bind λc=>(gshl .u64 (bitsI .xor .u64 (bitsI .xor .u64 a b) c) 17).bind λe=>some ((bitsI .xor .u64 (bitsI .xor .u64 (bitsI .xor .u64 a b) c) e),(bitsI .xor .u64 (bitsI .xor .u64 (bitsI .xor .u64 a b) c) e)))
def kbQ (c:Ya Int) (a:Int) (b:Int) (e:Int):Yb (Int×Int×Int):=
 ((gi c b).bind λf=>(gi c a).bind λi=>(kaR f i).bind λg=>if g=true then (some (b,a,(w64 (e+1)))) else (some (a,b,e)))
def kcJ (b:Ya Int) (e:Int) (i:Int) (g:Int) (j:Int):Yb (Int×Int):=
 ((kbQ b e i j).bind λa=>(kbQ b a.2.1 g a.2.2).bind λc=>(kbQ b a.1 c.1 c.2.2).bind λf=>some f.2)
def kbd (e:Ya Int) (a:Int) (b:Int):Yb (Int×Int):=
 ((kcJ e (w64 (a-1)) a (w64 (a+1)) b).bind λc=>some c)
def keA (e:Ya Int) (a:Int) (b:Int):Yb (Int×Int):=
 ((gquo .i64 (w64 (b-a)) 4).bind λj=>(gquo .i64 (w64 (b-a)) 4).bind λg=>(gquo .i64 (w64 (b-a)) 4).bind λl=>(if (decide (8<=(w64 (b-a))))=true then ((if (decide (50<=(w64 (b-a))))=true then ((kbd e (w64 (a+(w64 (j*1)))) 0).bind λi=>(kbd e (w64 (a+(w64 (g*2)))) i.2).bind λk=>(kbd e (w64 (a+(w64 (l*3)))) k.2).bind λm=>some (i.1,k.1,m)) else (some ((w64 (a+(w64 (j*1)))),(w64 (a+(w64 (g*2)))),(w64 (a+(w64 (l*3)))),0))).bind λf=>(kcJ e f.1 f.2.1 f.2.2.1 f.2.2.2).bind λn=>some n) else (some ((w64 (a+(w64 (g*2)))),0))).bind λc=>if (c.2==0)=true then (some (c.1,1)) else (if (c.2==12)=true then (some (c.1,2)) else (some (c.1,0))))
def khv (b:Ya Int) (a:kaj):Yb (kaj⊕((Ya Int)⊕(Ya Int))):=
 (if (decide (a.1<(lenI b)))=true then ((gi b a.1).bind λc=>(gapp a.2 [c]).bind λe=>some (.inl ((a.1+1),e))) else (some (.inr (.inr a.2))))
def keB (e:Ya Int) (a:Ya Int):Yb (Ya Int):=
 ((runI λo=>kez o a).bind λb=>(iter (khv b) (0,e)).bind λc=>match c with | .inl v5=>(some v5) | .inr v6=>(some v6))
def khN (b:Ya Int):Yb (Ya Int):=
 ((keB [] b).bind λa=>some a)
def kfS (j:Int) (a:kaj):Yb (kaj⊕(Ya Int)):=
 (if (decide (j<a.1))=true then ((gi a.2 a.1).bind λo=>(gi a.2 a.1).bind λf=>(gi a.2 (w64 (a.1-1))).bind λn=>(gi a.2 (w64 (a.1-1))).bind λg=>(kaR f g).bind λk=>if k=true then ((gi a.2 (w64 (a.1-1))).bind λl=>(gi a.2 (w64 (a.1-1))).bind λc=>(gi a.2 a.1).bind λm=>(gi a.2 a.1).bind λb=>(gi a.2 a.1).bind λe=>(gi (lset a.2 a.1 c) (w64 (a.1-1))).bind λi=>some (.inl ((w64 (a.1-1)),(lset (lset a.2 a.1 c) (w64 (a.1-1)) b)))) else (some (.inr a.2))) else (some (.inr a.2)))
def kfP (e:Int) (c:Int) (a:kaj):Yb (kaj⊕(Ya Int)):=
 (if (decide (a.1<c))=true then ((iter (kfS e) a).bind λb=>some (.inl ((w64 (a.1+1)),b))) else (some (.inr a.2)))
def kdc (b:Int) (e:Int) (c:Ya Int):Yb (Ya Int):=
 ((iter (kfP b e) ((w64 (b+1)),c)).bind λa=>some a)
def khD (j:Int) (b:Int) (a:kaj):Yb (kaj⊕((Ya Int)⊕(Ya Int))):=
 (if (decide (j<=(w64 ((w64 (2*a.1))+1))))=true then (some (.inr (.inr a.2))) else ((if (decide ((w64 ((w64 ((w64 (2*a.1))+1))+1))<j))=true then ((gi a.2 (w64 (b+(w64 ((w64 (2*a.1))+1))))).bind λw=>(gi a.2 (w64 (b+(w64 ((w64 (2*a.1))+1))))).bind λn=>(gi a.2 (w64 ((w64 (b+(w64 ((w64 (2*a.1))+1))))+1))).bind λv=>(gi a.2 (w64 ((w64 (b+(w64 ((w64 (2*a.1))+1))))+1))).bind λm=>(kaR n m).bind λu=>some u) else (some false)).bind λo=>(if o=true then (some (w64 ((w64 ((w64 (2*a.1))+1))+1))) else (some (w64 ((w64 (2*a.1))+1)))).bind λc=>(gi a.2 (w64 (b+a.1))).bind λx=>(gi a.2 (w64 (b+a.1))).bind λl=>(gi a.2 (w64 (b+c))).bind λk=>(gi a.2 (w64 (b+c))).bind λg=>(kaR l g).bind λi=>if (!i)=true then (some (.inr (.inl a.2))) else ((gi a.2 (w64 (b+c))).bind λt=>(gi a.2 (w64 (b+c))).bind λe=>(gi a.2 (w64 (b+a.1))).bind λp=>(gi a.2 (w64 (b+a.1))).bind λf=>(gi a.2 (w64 (b+a.1))).bind λr=>(gi (lset a.2 (w64 (b+a.1)) e) (w64 (b+c))).bind λs=>some (.inl (c,(lset (lset a.2 (w64 (b+a.1)) e) (w64 (b+c)) f))))))
def kcs (c:Int) (b:Int) (f:Int) (e:Ya Int):Yb (Ya Int):=
 ((iter (khD b f) (c,e)).bind λa=>match a with | .inl v20=>(some v20) | .inr v21=>(some v21))
def khE (b:Int) (c:Int) (a:kaj):Yb (kaj⊕(Ya Int)):=
 (if (decide (0<=a.1))=true then ((kcs a.1 (w64 (c-b)) b a.2).bind λe=>some (.inl ((w64 (a.1-1)),e))) else (some (.inr a.2)))
def khC (b:Int) (a:kaj):Yb (kaj⊕(Ya Int)):=
 (if (decide (0<=a.1))=true then ((gi a.2 (w64 (b+a.1))).bind λi=>(gi a.2 (w64 (b+a.1))).bind λe=>(gi a.2 b).bind λj=>(gi a.2 b).bind λg=>(gi a.2 b).bind λk=>(gi (lset a.2 b e) (w64 (b+a.1))).bind λf=>(kcs 0 a.1 b (lset (lset a.2 b e) (w64 (b+a.1)) g)).bind λc=>some (.inl ((w64 (a.1-1)),c))) else (some (.inr a.2)))
def kew (a:Int) (c:Int) (g:Ya Int):Yb (Ya Int):=
 ((gquo .i64 (w64 ((w64 (c-a))-1)) 2).bind λf=>(iter (khE a c) (f,g)).bind λe=>(iter (khC a) ((w64 ((w64 (c-a))-1)),e)).bind λb=>some b)
def kfU (b:Int) (f:Int) (g:Int) (a:Int×Int×(Ya Int)):Yb ((Int×Int×(Ya Int))⊕(Ya Int)):=
 ((gquo .i64 (w64 (f-b)) 4).bind λl=>if (decide (a.1<=(w64 ((w64 (b+(w64 (l*2))))+1))))=true then ((kgE a.2.1).bind λe=>(if (decide ((w64 (f-b))<=(w64 (bitsI .and .u64 e.1 (IntKind.wrap .u64 (g-1))))))=true then (some (w64 ((w64 (bitsI .and .u64 e.1 (IntKind.wrap .u64 (g-1))))-(w64 (f-b))))) else (some (w64 (bitsI .and .u64 e.1 (IntKind.wrap .u64 (g-1)))))).bind λc=>(gi a.2.2 (w64 (b+c))).bind λn=>(gi a.2.2 (w64 (b+c))).bind λi=>(gi a.2.2 a.1).bind λo=>(gi a.2.2 a.1).bind λm=>(gi a.2.2 a.1).bind λj=>(gi (lset a.2.2 a.1 i) (w64 (b+c))).bind λk=>some (.inl ((w64 (a.1+1)),e.2,(lset (lset a.2.2 a.1 i) (w64 (b+c)) m)))) else (some (.inr a.2.2)))
def kdj (a:Int) (b:Int) (e:Ya Int):Yb (Ya Int):=
 (if (decide (8<=(w64 (b-a))))=true then ((khO (w64 (b-a))).bind λf=>(gquo .i64 (w64 (b-a)) 4).bind λg=>(iter (kfU a b f) ((w64 ((w64 (a+(w64 (g*2))))-1)),(IntKind.wrap .u64 (w64 (b-a))),e)).bind λc=>some c) else (some e))
def kgg (a:Int×kaj):Yb ((Int×kaj)⊕(Ya Int)):=
 (if (decide (a.1<a.2.1))=true then ((gi a.2.2 a.2.1).bind λi=>(gi a.2.2 a.2.1).bind λb=>(gi a.2.2 a.1).bind λe=>(gi a.2.2 a.1).bind λc=>(gi a.2.2 a.1).bind λf=>(gi (lset a.2.2 a.1 b) a.2.1).bind λg=>some (.inl ((w64 (a.1+1)),(w64 (a.2.1-1)),(lset (lset a.2.2 a.1 b) a.2.1 c)))) else (some (.inr a.2.2)))
def kds (e:Int) (a:Int) (c:Ya Int):Yb (Ya Int):=
 ((iter (kgg) (e,(w64 (a-1)),c)).bind λb=>some b)
def ken (f:Int) (b:Int×kaj) (a:Int):Yb (Int⊕Int):=
 (if (decide (a<f))=true then ((gi b.2.2 a).bind λj=>(gi b.2.2 a).bind λc=>(gi b.2.2 (w64 (a-1))).bind λi=>(gi b.2.2 (w64 (a-1))).bind λe=>(kaR c e).bind λg=>if (!g)=true then (some (.inl (w64 (a+1)))) else (some (.inr a))) else (some (.inr a)))
def keu (a:kaj):Yb (kaj⊕(Ya Int)):=
 (if (decide (1<=a.1))=true then ((gi a.2 a.1).bind λl=>(gi a.2 a.1).bind λf=>(gi a.2 (w64 (a.1-1))).bind λn=>(gi a.2 (w64 (a.1-1))).bind λg=>(kaR f g).bind λe=>if (!e)=true then (some (.inr a.2)) else ((gi a.2 (w64 (a.1-1))).bind λm=>(gi a.2 (w64 (a.1-1))).bind λb=>(gi a.2 a.1).bind λj=>(gi a.2 a.1).bind λc=>(gi a.2 a.1).bind λk=>(gi (lset a.2 a.1 b) (w64 (a.1-1))).bind λi=>some (.inl ((w64 (a.1-1)),(lset (lset a.2 a.1 b) (w64 (a.1-1)) c))))) else (some (.inr a.2)))
def kes (l:Int) (a:kaj):Yb (kaj⊕(Ya Int)):=
 (if (decide (a.1<l))=true then ((gi a.2 a.1).bind λo=>(gi a.2 a.1).bind λg=>(gi a.2 (w64 (a.1-1))).bind λi=>(gi a.2 (w64 (a.1-1))).bind λf=>(kaR g f).bind λc=>if (!c)=true then (some (.inr a.2)) else ((gi a.2 (w64 (a.1-1))).bind λn=>(gi a.2 (w64 (a.1-1))).bind λb=>(gi a.2 a.1).bind λk=>(gi a.2 a.1).bind λe=>(gi a.2 a.1).bind λm=>(gi (lset a.2 a.1 b) (w64 (a.1-1))).bind λj=>some (.inl ((w64 (a.1+1)),(lset (lset a.2 a.1 b) (w64 (a.1-1)) e))))) else (some (.inr a.2)))
def kep (k:Int) (e:Int) (b:Int×kaj):Yb ((Int×kaj)⊕((Bool×(Ya Int))⊕(Ya Int))):=
 (if (decide (b.1<5))=true then ((iter (ken e b) b.2.1).bind λa=>if (a==e)=true then (some (.inr (.inl (true,b.2.2)))) else (if (decide ((w64 (e-k))<50))=true then (some (.inr (.inl (false,b.2.2)))) else ((gi b.2.2 (w64 (a-1))).bind λo=>(gi b.2.2 (w64 (a-1))).bind λi=>(gi b.2.2 a).bind λl=>(gi b.2.2 a).bind λc=>(gi b.2.2 a).bind λn=>(gi (lset b.2.2 a i) (w64 (a-1))).bind λm=>(if (decide (2<=(w64 (a-k))))=true then ((iter (keu) ((w64 (a-1)),(lset (lset b.2.2 a i) (w64 (a-1)) c))).bind λj=>some j) else (some (lset (lset b.2.2 a i) (w64 (a-1)) c))).bind λf=>if (decide (2<=(w64 (e-a))))=true then ((iter (kes e) ((w64 (a+1)),f)).bind λg=>some (.inl ((w64 (b.1+1)),a,g))) else (some (.inl ((w64 (b.1+1)),a,f)))))) else (some (.inr (.inr b.2.2))))
def kcj (b:Int) (e:Int) (c:Ya Int):Yb (Bool×(Ya Int)):=
 ((iter (kep b e) (0,(w64 (b+1)),c)).bind λa=>match a with | .inl v42=>(some v42) | .inr v43=>(some (false,v43)))
def kfB (f:Int) (b:Int×kaj) (a:Int):Yb (Int⊕Int):=
 (if (decide (a<=b.2.1))=true then ((gi b.2.2 f).bind λj=>(gi b.2.2 f).bind λi=>(gi b.2.2 a).bind λg=>(gi b.2.2 a).bind λc=>(kaR i c).bind λe=>if (!e)=true then (some (.inl (w64 (a+1)))) else (some (.inr a))) else (some (.inr a)))
def kfH (i:Int) (b:Int×kaj) (c:Int) (a:Int):Yb (Int⊕Int):=
 (if (decide (c<=a))=true then ((gi b.2.2 i).bind λj=>(gi b.2.2 i).bind λf=>(gi b.2.2 a).bind λk=>(gi b.2.2 a).bind λg=>(kaR f g).bind λe=>if e=true then (some (.inl (w64 (a-1)))) else (some (.inr a))) else (some (.inr a)))
def kfJ (g:Int) (c:Int×kaj):Yb ((Int×kaj)⊕kaj):=
 ((iter (kfB g c) c.1).bind λa=>(iter (kfH g c a) c.2.1).bind λb=>if (decide (b<a))=true then (some (.inr (a,c.2.2))) else ((gi c.2.2 b).bind λk=>(gi c.2.2 b).bind λe=>(gi c.2.2 a).bind λi=>(gi c.2.2 a).bind λf=>(gi c.2.2 a).bind λj=>(gi (lset c.2.2 a e) b).bind λl=>some (.inl ((w64 (a+1)),(w64 (b-1)),(lset (lset c.2.2 a e) b f)))))
def kcR (a:Int) (i:Int) (c:Int) (b:Ya Int):Yb kaj:=
 ((gi b c).bind λk=>(gi b c).bind λf=>(gi b a).bind λm=>(gi b a).bind λg=>(gi b a).bind λl=>(gi (lset b a f) c).bind λj=>(iter (kfJ a) ((w64 (a+1)),(w64 (i-1)),(lset (lset b a f) c g))).bind λe=>some e)
def khc (a:Int) (k:Int) (f:Int) (e:Ya Int) (g:Int) (c:Int) (b:Int):Yb (Int⊕Int):=
 (if (decide (b<=(w64 (k-1))))=true then ((gi (lset (lset e a g) f c) b).bind λm=>(gi (lset (lset e a g) f c) b).bind λl=>(gi (lset (lset e a g) f c) a).bind λn=>(gi (lset (lset e a g) f c) a).bind λi=>(kaR l i).bind λj=>if j=true then (some (.inl (w64 (b+1)))) else (some (.inr b))) else (some (.inr b)))
def khm (b:Int) (f:Int) (e:Ya Int) (g:Int) (c:Int) (i:Int) (a:Int):Yb (Int⊕Int):=
 (if (decide (i<=a))=true then ((gi (lset (lset e b g) f c) a).bind λm=>(gi (lset (lset e b g) f c) a).bind λj=>(gi (lset (lset e b g) f c) b).bind λn=>(gi (lset (lset e b g) f c) b).bind λk=>(kaR j k).bind λl=>if (!l)=true then (some (.inl (w64 (a-1)))) else (some (.inr a))) else (some (.inr a)))
def kgY (g:Int) (b:Int×kaj) (a:Int):Yb (Int⊕Int):=
 (if (decide (a<=b.2.1))=true then ((gi b.2.2 a).bind λj=>(gi b.2.2 a).bind λc=>(gi b.2.2 g).bind λi=>(gi b.2.2 g).bind λe=>(kaR c e).bind λf=>if f=true then (some (.inl (w64 (a+1)))) else (some (.inr a))) else (some (.inr a)))
def khn (i:Int) (b:Int×kaj) (f:Int) (a:Int):Yb (Int⊕Int):=
 (if (decide (f<=a))=true then ((gi b.2.2 a).bind λj=>(gi b.2.2 a).bind λg=>(gi b.2.2 i).bind λk=>(gi b.2.2 i).bind λc=>(kaR g c).bind λe=>if (!e)=true then (some (.inl (w64 (a-1)))) else (some (.inr a))) else (some (.inr a)))
def khj (g:Int) (a:Int×kaj):Yb ((Int×kaj)⊕kaj):=
 ((iter (kgY g a) a.1).bind λb=>(iter (khn g a b) a.2.1).bind λc=>if (decide (c<b))=true then (some (.inr (c,a.2.2))) else ((gi a.2.2 c).bind λj=>(gi a.2.2 c).bind λe=>(gi a.2.2 b).bind λl=>(gi a.2.2 b).bind λf=>(gi a.2.2 b).bind λk=>(gi (lset a.2.2 b e) c).bind λi=>some (.inl ((w64 (b+1)),(w64 (c-1)),(lset (lset a.2.2 b e) c f)))))
def keh (a:Int) (r:Int) (f:Int) (e:Ya Int):Yb (Int×Bool×(Ya Int)):=
 ((gi e f).bind λH=>(gi e f).bind λg=>(gi e a).bind λF=>(gi e a).bind λj=>(gi e a).bind λE=>(gi (lset e a g) f).bind λG=>(iter (khc a r f e g j) (w64 (a+1))).bind λi=>(iter (khm a f e g j i) (w64 (r-1))).bind λc=>if (decide (c<i))=true then ((gi (lset (lset e a g) f j) a).bind λu=>(gi (lset (lset e a g) f j) a).bind λl=>(gi (lset (lset e a g) f j) c).bind λy=>(gi (lset (lset e a g) f j) c).bind λo=>(gi (lset (lset e a g) f j) c).bind λs=>(gi (lset (lset (lset e a g) f j) c l) a).bind λx=>some (c,true,(lset (lset (lset (lset e a g) f j) c l) a o))) else ((gi (lset (lset e a g) f j) c).bind λD=>(gi (lset (lset e a g) f j) c).bind λm=>(gi (lset (lset e a g) f j) i).bind λt=>(gi (lset (lset e a g) f j) i).bind λn=>(gi (lset (lset e a g) f j) i).bind λC=>(gi (lset (lset (lset e a g) f j) i m) c).bind λv=>(iter (khj a) ((w64 (i+1)),(w64 (c-1)),(lset (lset (lset (lset e a g) f j) i m) c n))).bind λb=>(gi b.2 a).bind λA=>(gi b.2 a).bind λk=>(gi b.2 b.1).bind λw=>(gi b.2 b.1).bind λp=>(gi b.2 b.1).bind λB=>(gi (lset b.2 b.1 k) a).bind λz=>some (b.1,false,(lset (lset b.2 b.1 k) a p))))
def khV (rec_slices_pdqsortOrdered_int_m0:Int->Int->Int->(Ya Int)->Yb (Ya Int)) (a:Int×Int×Int×Bool×Bool×(Ya Int)):Yb ((Int×Int×Int×Bool×Bool×(Ya Int))⊕((Ya Int)⊕(Ya Int))):=
 (if (decide ((w64 (a.1-a.2.1))<=12))=true then ((kdc a.2.1 a.1 a.2.2.2.2.2).bind λt=>some (.inr (.inl t))) else (if (a.2.2.1==0)=true then ((kew a.2.1 a.1 a.2.2.2.2.2).bind λu=>some (.inr (.inl u))) else ((if (!a.2.2.2.1)=true then ((kdj a.2.1 a.1 a.2.2.2.2.2).bind λs=>some ((w64 (a.2.2.1-1)),s)) else (some (a.2.2.1,a.2.2.2.2.2))).bind λc=>(keA c.2 a.2.1 a.1).bind λi=>(if (i.2==2)=true then ((kds a.2.1 a.1 c.2).bind λv=>some (1,(w64 ((w64 (a.1-1))-(w64 (i.1-a.2.1)))),v)) else (some (i.2,i.1,c.2))).bind λe=>(if a.2.2.2.1=true then (if a.2.2.2.2.1=true then (some (e.1==1)) else (some false)) else (some false)).bind λw=>((if w=true then ((kcj a.2.1 a.1 e.2.2).bind λm=>if m.1=true then (some (.inl m.2)) else (some (.inr m.2))) else (some (.inr e.2.2))):Yb ((Ya Int)⊕(Ya Int))).bind λj=>match j with | .inl v11=>(some (.inr (.inl v11))) | .inr v12=>((if (decide (0<a.2.1))=true then ((gi v12 (w64 (a.2.1-1))).bind λy=>(gi v12 (w64 (a.2.1-1))).bind λn=>(gi v12 e.2.1).bind λx=>(gi v12 e.2.1).bind λk=>(kaR n k).bind λp=>some (!p)) else (some false)).bind λr=>if r=true then ((kcR a.2.1 a.1 e.2.1 v12).bind λf=>some (.inl (a.1,f.1,c.1,a.2.2.2.1,a.2.2.2.2.1,f.2))) else ((keh a.2.1 a.1 e.2.1 v12).bind λb=>(gquo .i64 (w64 (a.1-a.2.1)) 8).bind λg=>if (decide ((w64 (b.1-a.2.1))<(w64 (a.1-b.1))))=true then ((rec_slices_pdqsortOrdered_int_m0 a.2.1 b.1 c.1 b.2.2).bind λo=>some (.inl (a.1,(w64 (b.1+1)),c.1,(decide (g<=(w64 (b.1-a.2.1)))),b.2.1,o))) else ((rec_slices_pdqsortOrdered_int_m0 (w64 (b.1+1)) a.1 c.1 b.2.2).bind λl=>some (.inl (b.1,a.2.1,c.1,(decide (g<=(w64 (a.1-b.1)))),b.2.1,l))))))))
def kiB (rec_slices_pdqsortOrdered_int_m0:Int->Int->Int->(Ya Int)->Yb (Ya Int)) (c:Int) (b:Int) (f:Int) (e:Ya Int):Yb (Ya Int):=
 ((iter (khV rec_slices_pdqsortOrdered_int_m0) (b,c,f,true,true,e)).bind λa=>match a with | .inl v25=>(some v25) | .inr v26=>(some v26))
def kco:Nat->Int->Int->Int->(Ya Int)->Yb (Ya Int)
 | 0,_,_,_,_=>none
 | k+1,x0,x1,x2,x3=>kiB (kco k) x0 x1 x2 x3
def keP (e:Int) (b:Int) (a:Int) (c:Ya Int):Yb (Ya Int):=kco 1000000 e b a c
def kgj (a:Ya Int):Yb (Ya Int):=
 ((kjI (IntKind.wrap .u64 (lenI a))).bind λb=>(keP 0 (lenI a) b a).bind λc=>some c)
def kio (c:Ya Int):Yb (Ya Int):=
 ((khN c).bind λa=>(kgj a).bind λb=>some b)
def kwd (b:Ya Int) (a:Int):Yb (Int⊕(Bool⊕Unit)):=
 (if (decide (a<(lenI b)))=true then ((gi b a).bind λe=>(gi b a).bind λc=>if (c != a)=true then (some (.inr (.inl false))) else (some (.inl (w64 (a+1))))) else (some (.inr (.inr ()))))
def kuU (a:Ya Int) (c:Int):Yb Bool:=
 ((kfq a).bind λe=>(kio e).bind λf=>(iter (kwd f) 0).bind λb=>match b with | .inl v6=>(some v6) | .inr v7=>(some ((lenI a)==c)))
def klY (c:Ya Int) (a:Int):Yb Bool:=
 ((kuU c a).bind λb=>some (!b))
def kgW (b:Ya (Ya Int)) (c:((Ya Int)->Yb Bool)) (a:Int):Yb (Int⊕(Int⊕Unit)):=
 (if (decide (a<(lenI b)))=true then ((gi b a).bind λf=>(c f).bind λe=>if e=true then (some (.inr (.inl a))) else (some (.inl (w64 (a+1))))) else (some (.inr (.inr ()))))
def kea (b:Ya (Ya Int)) (a:((Ya Int)->Yb Bool)):Yb Int:=
 ((iter (kgW b a) 0).bind λc=>match c with | .inl v4=>(some v4) | .inr v5=>(some (-1)))
def kdq (c:Ya (Ya Int)) (a:((Ya Int)->Yb Bool)):Yb Bool:=
 ((kea c a).bind λb=>some (decide (0<=b)))
def kpC (a:Ya (Ya Int)):Yb Bool:=
 ((kgo 1 8 (lenI a)).bind λc=>if c=true then ((kdq a (λ(e:Ya Int)=>((klY e (lenI a)).bind λb=>some b))).bind λf=>some (!f)) else (some false))
def krn (b:Int) (a:Int):Yb (Int×Int):=
 ((gshr .u64 (IntKind.wrap .u64 ((IntKind.wrap .u64 b)*(IntKind.wrap .u64 a))) 32).bind λc=>some ((IntKind.wrap .u32 c),(IntKind.wrap .u32 (IntKind.wrap .u64 ((IntKind.wrap .u64 b)*(IntKind.wrap .u64 a))))))
def klv (b:Int) (a:Int):Yb (Int×Int):=
 ((gshr .u64 b 32).bind λc=>(gshr .u64 a 32).bind λf=>(gshr .u64 (IntKind.wrap .u64 ((bitsI .and .u64 b 4294967295)*(bitsI .and .u64 a 4294967295))) 32).bind λe=>(gshr .u64 (IntKind.wrap .u64 ((IntKind.wrap .u64 (c*(bitsI .and .u64 a 4294967295)))+e)) 32).bind λg=>(gshr .u64 (IntKind.wrap .u64 ((bitsI .and .u64 (IntKind.wrap .u64 ((IntKind.wrap .u64 (c*(bitsI .and .u64 a 4294967295)))+e)) 4294967295)+(IntKind.wrap .u64 ((bitsI .and .u64 b 4294967295)*f)))) 32).bind λi=>some ((IntKind.wrap .u64 ((IntKind.wrap .u64 ((IntKind.wrap .u64 (c*f))+g))+i)),(IntKind.wrap .u64 (b*a))))
def kng (c:Int) (a:Int):Yb (Int×Int):=
 ((klv c a).bind λb=>some b)
def klf (c:Int) (a:Ya Int):Yb Bool:=
 ((gi a c).bind λb=>some (decide (b<0)))
def kgn (b:Int) (a:Ya (Ya Int)) (j:Ya Int):Yb Int:=
 ((gi a b).bind λf=>(kcU f (λ(g:Int)=>((klf g j).bind λc=>some c))).bind λk=>(gi a b).bind λi=>(gi i k).bind λe=>some e)
def kiH (a:kaj):Yb (kaj⊕(Ya Int)):=
 (if (decide (a.1<(lenI a.2)))=true then ((gsl a.2 a.1 (lenI a.2)).bind λb=>(gsl a.2 0 a.1).bind λc=>some (.inl ((w64 (a.1+(imin (lenI ((List.drop (Int.toNat 0) a.2).take (Int.toNat (a.1-0)))) ((lenI a.2)-a.1)))),(kBa a.2 (a.1,((lenI a.2)-a.1)) ((List.drop (Int.toNat 0) a.2).take (Int.toNat (a.1-0))))))) else (some (.inr a.2)))
def kfw (b:Ya Int) (e:Int):Yb (Ya Int):=
 ((if (decide (e<0))=true then none else (some ())).bind λj=>(kng (IntKind.wrap .u64 (lenI b)) (IntKind.wrap .u64 e)).bind λc=>(if (decide (0<c.1))=true then (some true) else (some (decide (9223372036854775807<c.2)))).bind λf=>(if f=true then none else (some ())).bind λi=>(gmk (w64 c.2) 0).bind λa=>(iter (kiH) ((imin (lenI b) (lenI a)),(lcopy a 0 (lenI a) b))).bind λg=>some g)
def kvN (b:Ya (Ya Int)) (e:Ya Int) (a:Int×Int):Yb ((Int×Int)⊕Int):=
 (if (decide (a.1<(lenI b)))=true then ((kgn a.2 b e).bind λc=>some (.inl ((w64 (a.1+1)),c))) else (some (.inr a.2)))
def kvz (f:Ya (Ya Int)) (e:Ya Int) (g:Int) (a:kaj):Yb (kaj⊕(Ya Int)):=
 (if (a.1 != g)=true then ((gapp a.2 [a.1]).bind λb=>(kgn a.1 f e).bind λc=>some (.inl (c,b))) else (some (.inr a.2)))
def kuC (i:Ya (Ya Int)) (g:Ya Int) (b:Ya Int) (a:kaj):Yb (kaj⊕(Ya Int)):=
 (if (decide (a.1<(lenI b)))=true then ((gi b a.1).bind λj=>(gi b a.1).bind λc=>(kgn c i g).bind λe=>(gapp a.2 [e]).bind λf=>some (.inl ((w64 (a.1+1)),f))) else (some (.inr a.2)))
def kuo (b:Ya Int) (c:Ya Int) (a:kaj):Yb (kaj⊕(Ya Int)):=
 (if (decide (a.1<(lenI b)))=true then ((gi b a.1).bind λj=>(gi b a.1).bind λe=>(gi c a.1).bind λg=>(gi c a.1).bind λf=>(gi a.2 e).bind λi=>some (.inl ((w64 (a.1+1)),(lset a.2 e f)))) else (some (.inr a.2)))
def kuL (c:Ya (Ya Int)) (f:kaj) (a:Ya Int):Yb ((Ya Int)⊕(Ya Int)):=
 ((gi a f.1).bind λl=>(gi a f.1).bind λj=>if (decide (j<0))=true then ((iter (kvN c a) (0,f.1)).bind λg=>(kgn g c a).bind λk=>(iter (kvz c a g) (k,[g])).bind λb=>(iter (kuC c a b) (0,[])).bind λe=>(iter (kuo b e) (0,a)).bind λi=>some (.inl i)) else (some (.inr a)))
def kvO (c:Ya (Ya Int)) (a:kaj):Yb (kaj⊕(Ya Int)):=
 (if (decide (a.1<(lenI c)))=true then ((iter (kuL c a) a.2).bind λb=>some (.inl ((w64 (a.1+1)),b))) else (some (.inr a.2)))
def ktg (b:Ya (Ya Int)):Yb ((Ya Int)×Int):=
 ((kpC b).bind λc=>if (!c)=true then (some ([],2)) else ((kfw [(-1)] (lenI b)).bind λe=>(iter (kvO b) (0,e)).bind λa=>some (a,0)))
def koq (e:Ya (Int×Int×Int)) (f:Ya (Int×Int×Int)) (a:Int):Yb (Int⊕(Bool⊕Unit)):=
 (if (decide (a<(lenI e)))=true then ((gi e a).bind λc=>(gi f a).bind λb=>if (!((c.1==b.1)&&((c.2.1==b.2.1)&&(c.2.2==b.2.2))))=true then (some (.inr (.inl false))) else (some (.inl (w64 (a+1))))) else (some (.inr (.inr ()))))
def klm (b:Ya (Int×Int×Int)) (a:Ya (Int×Int×Int)):Yb Bool:=
 (if ((lenI b) != (lenI a))=true then (some false) else ((iter (koq b a) 0).bind λc=>match c with | .inl v4=>(some v4) | .inr v5=>(some true)))
def kpp (b:Ya Int) (c:Ya Int) (a:Int):Yb (Int⊕(Bool⊕Unit)):=
 (if (decide (a<(lenI b)))=true then ((gi b a).bind λf=>(gi c a).bind λe=>if (f != e)=true then (some (.inr (.inl false))) else (some (.inl (w64 (a+1))))) else (some (.inr (.inr ()))))
def keJ (b:Ya Int) (a:Ya Int):Yb Bool:=
 (if ((lenI b) != (lenI a))=true then (some false) else ((iter (kpp b a) 0).bind λc=>match c with | .inl v4=>(some v4) | .inr v5=>(some true)))
def knR:Yb Bool:=
 ((kbJ 1 1 4).bind λr=>(kbJ 1 3 2).bind λt=>(kbJ 4 0 1).bind λv=>(kbJ 1 3 3).bind λs=>(kxe [t,v] [s]).bind λp=>law08_needed.bind λy=>law08_swap.bind λw=>(kvl [r] y w).bind λf=>law08_needed.bind λx=>law08_swap.bind λu=>(kgt [r] x u [(1,1,5),(2,1,3)]).bind λb=>(kbJ 1 1 3).bind λj=>law08_plans.bind λk=>(kru [j] k [5,4,9]).bind λa=>(ktg [[1,0,2],[0,1,2],[0,1,2]]).bind λc=>if (p.2 != 0)=true then (some false) else ((kbJ 1 3 5).bind λl=>(kbJ 4 0 1).bind λg=>(klm p.1 [l,g]).bind λm=>if (!m)=true then (some false) else (if (f.2 != 0)=true then (some false) else (if (f.1.1 != 4)=true then (some false) else ((keJ f.1.2 [0,1]).bind λo=>if (!o)=true then (some false) else (if (b.2 != 0)=true then (some false) else ((keJ b.1.1 [3,1]).bind λe=>if (!e)=true then (some false) else (if (b.1.2.2 != 3)=true then (some false) else (if (a.2==0)=true then ((keJ a.1.1 [2]).bind λi=>if i=true then (if (a.1.2.1==9)=true then (if ((lenI a.1.2.2)==0)=true then (if (c.2==0)=true then ((keJ c.1 [1,0,2]).bind λn=>some n) else (some false)) else (some false)) else (some false)) else (some false)) else (some false))))))))))
def law08_alive:Yb Bool:=some true
theorem kzx:knR=law08_alive:=by kernel_rfl
def kby (a:Int) (c:Int) (b:Int):Yb Bool:=
 (if (decide (c<=a))=true then (some (decide (a<=b))) else (some false))
def kfn (b:Ya (Int×Int×Int)) (a:Int×Int):Yb ((Int×Int)⊕Int):=
 (if (decide (a.1<(lenI b)))=true then ((gi b a.1).bind λf=>(kby f.2.2 0 1000).bind λe=>if e=true then ((gi b a.1).bind λc=>some (.inl ((w64 (a.1+1)),(w64 (a.2+c.2.2))))) else (some (.inl ((w64 (a.1+1)),a.2)))) else (some (.inr a.2)))
def kir (a:Ya (Int×Int×Int)):Yb Bool:=
 (if (decide (40<(lenI a)))=true then (some true) else ((iter (kfn a) (0,0)).bind λb=>some (decide (8000<b))))
def khq (b:Ya (Ya (Int×Int×Int))) (a:Int):Yb (Int⊕(Bool⊕Unit)):=
 (if (decide (a<(lenI b)))=true then ((gi b a).bind λc=>(kir c).bind λe=>if e=true then (some (.inr (.inl true))) else (some (.inl (w64 (a+1))))) else (some (.inr (.inr ()))))
def kkc (a:Ya (Ya (Int×Int×Int))):Yb Bool:=
 ((iter (khq a) 0).bind λb=>match b with | .inl v4=>(some v4) | .inr v5=>(some false))
def kcI (c:Int) (a:Int):Yb Bool:=
 ((kby c 0 15).bind λb=>if b=true then (some (decide (a<=15))) else (some false))
def kdJ (b:Int) (c:Int) (a:Int) (e:Int):Yb Bool:=
 (if (decide (b<a))=true then (some true) else (if (b==a)=true then (some (decide (c<e))) else (some false)))
def kgC (c:Ya (Int×Int×Int)) (a:Int):Yb (Int⊕(Bool⊕Unit)):=
 (if (decide (a<(lenI c)))=true then ((gi c a).bind λb=>(kcI b.1 b.2.1).bind λi=>if (!i)=true then (some (.inr (.inl false))) else ((kby b.2.2 1 1000).bind λe=>if (!e)=true then (some (.inr (.inl false))) else (if (decide (0<a))=true then ((gi c (w64 (a-1))).bind λg=>(gi c (w64 (a-1))).bind λf=>(kdJ g.1 f.2.1 b.1 b.2.1).bind λj=>if (!j)=true then (some (.inr (.inl false))) else (some (.inl (w64 (a+1))))) else (some (.inl (w64 (a+1))))))) else (some (.inr (.inr ()))))
def khl (a:Ya (Int×Int×Int)):Yb Bool:=
 (if (decide (30<(lenI a)))=true then (some false) else ((iter (kgC a) 0).bind λb=>match b with | .inl v8=>(some v8) | .inr v9=>(some true)))
def kgu (c:Ya Swap) (b:Int):Yb (Int⊕(Bool⊕Unit)):=
 (if (decide (b<(lenI c)))=true then ((gi c b).bind λa=>(kcI a.1 a.2.1).bind λf=>if (!f)=true then (some (.inr (.inl false))) else ((kcI a.2.2.1 a.2.2.2).bind λe=>if (!e)=true then (some (.inr (.inl false))) else (if (a.1==a.2.2.1)=true then (if (a.2.1==a.2.2.2)=true then (some (.inr (.inl false))) else (some (.inl (w64 (b+1))))) else (some (.inl (w64 (b+1))))))) else (some (.inr (.inr ()))))
def kfA (a:Ya Swap):Yb Bool:=
 (if (decide (30<(lenI a)))=true then (some false) else ((iter (kgu a) 0).bind λb=>match b with | .inl v5=>(some v5) | .inr v6=>(some true)))
def kji (b:Ya (Int×Int×Int)) (a:Ya (Int×Int×Int)) (c:Ya Swap):Yb Bool:=
 ((kkc [b,a]).bind λf=>if (!f)=true then (if (decide ((lenI c)<=40))=true then ((khl b).bind λi=>if i=true then ((khl a).bind λg=>if g=true then ((kfA c).bind λe=>some e) else (some false)) else (some false)) else (some false)) else (some false))
def kia (c:Ya Swap) (e:Int) (g:Int) (f:Int) (i:Int) (b:Int):Yb (Int⊕(Bool⊕Unit)):=
 (if (decide (b<(lenI c)))=true then ((gi c b).bind λa=>if ((a.1==e)&&((a.2.1==g)&&((a.2.2.1==f)&&(a.2.2.2==i))))=true then (some (.inr (.inl true))) else (some (.inl (w64 (b+1))))) else (some (.inr (.inr ()))))
def kgk (i:Ya Swap) (a:Int) (c:Int) (b:Int) (e:Int):Yb Bool:=
 ((if (a==b)=true then (some (c==e)) else (some false)).bind λg=>if g=true then (some true) else ((iter (kia i a c b e) 0).bind λf=>match f with | .inl v4=>(some v4) | .inr v5=>(some false)))
def kfN (c:Ya (Int×Int×Int)) (a:Int):Yb (Int⊕(Bool⊕Unit)):=
 (if (decide (a<(lenI c)))=true then ((gi c a).bind λb=>(kcI b.1 b.2.1).bind λi=>if (!i)=true then (some (.inr (.inl false))) else ((kby b.2.2 0 10000).bind λe=>if (!e)=true then (some (.inr (.inl false))) else (if (decide (0<a))=true then ((gi c (w64 (a-1))).bind λg=>(gi c (w64 (a-1))).bind λf=>(kdJ g.1 f.2.1 b.1 b.2.1).bind λj=>if (!j)=true then (some (.inr (.inl false))) else (some (.inl (w64 (a+1))))) else (some (.inl (w64 (a+1))))))) else (some (.inr (.inr ()))))
def kiv (a:Ya (Int×Int×Int)):Yb Bool:=
 (if (decide (60<(lenI a)))=true then (some false) else ((iter (kfN a) 0).bind λb=>match b with | .inl v8=>(some v8) | .inr v9=>(some true)))
def kaA (i:Ya (Int×Int×Int)) (g:Ya (Int×Int×Int)) (G:Ya Swap) (f:Ya (Int×Int×Int)) (b:Int×(Ya Int)×(Ya Int)):Yb ((Int×(Ya Int)×(Ya Int))⊕(Bool⊕Unit)):=
 (if (decide (b.1<(lenI f)))=true then ((gi f b.1).bind λa=>(kby a.1 0 (w64 ((lenI g)-1))).bind λy=>if (!y)=true then (some (.inr (.inl false))) else ((kby a.2.1 0 (w64 ((lenI i)-1))).bind λE=>if (!E)=true then (some (.inr (.inl false))) else ((kby a.2.2 1 1000).bind λB=>if (!B)=true then (some (.inr (.inl false))) else ((if (decide (0<b.1))=true then ((gi f (w64 (b.1-1))).bind λj=>if (decide (a.1<j.1))=true then (some true) else ((gi f (w64 (b.1-1))).bind λn=>if (a.1==n.1)=true then ((gi f (w64 (b.1-1))).bind λr=>some (decide (a.2.1<=r.2.1))) else (some false))) else (some false)).bind λt=>if t=true then (some (.inr (.inl false))) else ((gi b.2.1 a.1).bind λD=>(gi b.2.1 a.1).bind λc=>(gi b.2.1 a.1).bind λz=>(gi b.2.2 a.2.1).bind λF=>(gi b.2.2 a.2.1).bind λe=>(gi b.2.2 a.2.1).bind λx=>(gi g a.1).bind λl=>(gi g a.1).bind λs=>(gi i a.2.1).bind λp=>(gi i a.2.1).bind λo=>(kgk G l.1 s.2.1 p.1 o.2.1).bind λk=>if (!k)=true then (some (.inr (.inl false))) else ((gi (lset b.2.1 a.1 (w64 (c+a.2.2))) a.1).bind λC=>(gi (lset b.2.1 a.1 (w64 (c+a.2.2))) a.1).bind λw=>(gi g a.1).bind λu=>if (decide (u.2.2<w))=true then (some (.inr (.inl false))) else ((gi (lset b.2.2 a.2.1 (w64 (e+a.2.2))) a.2.1).bind λA=>(gi (lset b.2.2 a.2.1 (w64 (e+a.2.2))) a.2.1).bind λm=>(gi i a.2.1).bind λv=>if (decide (v.2.2<m))=true then (some (.inr (.inl false))) else (some (.inl ((w64 (b.1+1)),(lset b.2.1 a.1 (w64 (c+a.2.2))),(lset b.2.2 a.2.1 (w64 (e+a.2.2))))))))))))) else (some (.inr (.inr ()))))
def khp (c:Ya (Int×Int×Int)) (b:Ya (Int×Int×Int)) (l:Ya Swap) (k:Ya (Int×Int×Int)):Yb Bool:=
 ((bthO (.pr (.sl (.i .i64)) (.sl (.i .i64))) ((gmk (lenI b) 0).bind λf=>(gmk (lenI c) 0).bind λm=>some (f,m)) ((gmk (lenI c) 0).bind λj=>(gmk (lenI b) 0).bind λe=>some (e,j))).bind λg=>(iter (kaA c b l k) (0,g)).bind λa=>match a with | .inl v32=>(some v32) | .inr v33=>(some true))
def khr (c:Ya (Int×Int×Int)) (a:kaj):Yb (kaj⊕(Ya Int)):=
 (if (decide (a.1<(lenI c)))=true then ((gi c a.1).bind λb=>(gi a.2 b.1).bind λf=>(gi a.2 b.1).bind λe=>(gi a.2 b.1).bind λg=>some (.inl ((w64 (a.1+1)),(lset a.2 b.1 (w64 (e+b.2.2)))))) else (some (.inr a.2)))
def kjX (e:Ya (Int×Int×Int)) (b:Ya (Int×Int×Int)):Yb (Ya Int):=
 ((gmk (lenI e) 0).bind λc=>(iter (khr b) (0,c)).bind λa=>some a)
def kgH (i:Ya Swap) (b:Ya (Int×Int×Int)) (k:Int) (j:Int) (a:Int×Int):Yb ((Int×Int)⊕Int):=
 (if (decide (a.1<(lenI b)))=true then ((gi b a.1).bind λl=>(gi b a.1).bind λg=>(kgk i k j l.1 g.2.1).bind λc=>if c=true then (if (decide (a.2<0))=true then (some (.inl ((w64 (a.1+1)),a.1))) else ((gi b a.1).bind λf=>(gi b a.2).bind λe=>if (decide (f.2.2<e.2.2))=true then (some (.inl ((w64 (a.1+1)),a.1))) else (some (.inl ((w64 (a.1+1)),a.2))))) else (some (.inl ((w64 (a.1+1)),a.2)))) else (some (.inr a.2)))
def kcA (b:Ya Swap) (a:Ya (Int×Int×Int)) (f:Int) (e:Int):Yb Int:=
 ((iter (kgH b a f e) (0,(-1))).bind λc=>some c)
def kcn (f:Ya (Int×Int×Int)) (l:Ya Swap) (j:Ya (Int×Int×Int)) (g:Ya Int) (a:Int×Int×Bool):Yb ((Int×Int×Bool)⊕(Bool×Int)):=
 (if (decide (a.1<(lenI g)))=true then ((gi g a.1).bind λi=>(gi f a.1).bind λm=>(gi f a.1).bind λk=>(kcA l j m.1 k.2.1).bind λb=>(gi f a.1).bind λc=>if (decide (0<=b))=true then ((gi j b).bind λe=>some (.inl ((w64 (a.1+1)),(w64 (a.2.1+(w64 ((w64 (c.2.2-i))*e.2.2)))),a.2.2))) else (if (decide (0<(w64 (c.2.2-i))))=true then (some (.inl ((w64 (a.1+1)),a.2.1,true))) else (some (.inl ((w64 (a.1+1)),a.2))))) else (some (.inr (a.2.2,a.2.1))))
def kgR (i:Ya (Int×Int×Int)) (c:Ya (Int×Int×Int)) (f:Ya Swap) (j:Ya (Int×Int×Int)) (l:Ya (Int×Int×Int)):Yb Bool:=
 (law08_alive.bind λa=>(kji i c f).bind λp=>if (!p)=true then (some a) else ((kiv j).bind λo=>if (!o)=true then (some a) else (if (decide (100<(lenI l)))=true then (some a) else (if (!a)=true then (some a) else ((kgt i c f j).bind λe=>(khp i c f l).bind λn=>if (!n)=true then (some a) else ((kjX c l).bind λm=>(iter (kcn c f j m) (0,0,false)).bind λb=>if (e.2==80)=true then ((if a=true then (some b.1) else (some false)).bind λg=>some g) else (if (e.2 != 0)=true then ((if a=true then (some (e.2==4)) else (some false)).bind λk=>some k) else (if a=true then (if b.1=true then (some true) else (some (decide (e.1.2.2<=b.2)))) else (some false)))))))))
def khG (b:Ya Swap):Yb Int:=
 ((kfA b).bind λa=>if (!a)=true then (some 2) else (some 0))
end Go.Abs
set_option maxRecDepth 100000
namespace Go.Abs
open Go Go.Proofs
def kbv:Ctr:=⟨ "",[],[],λ_=>none,[],[]⟩
theorem kaE {g:FuncId}:Good Tryz.prog g kbv:=good_dm
def kiE:Ctr:=⟨ "",[Ti,Tl,Ti],[Tm],λx=>kbJ x.1 x.2.1 x.2.2,[],[]⟩
theorem kiw:Good Tryz.prog 43 kiE:=
 kac Tryz.func43 (by kernel_rfl) (An:=[]) [] (.nil) (λx=>by kernel_rfl)
def kgy:Ctr:=⟨ "",[Ti,Ti,Ti],[.b],λx=>kgo x.1 x.2.1 x.2.2,[],[]⟩
theorem kfs:Good Tryz.prog 66 kgy:=
 kac Tryz.func66 (by kernel_rfl) (An:=[]) [] (.nil) (λx=>by kernel_rfl)
def klW:Ctr:=⟨ "",[Tm],[.b],λx=>kip x,[],[]⟩
theorem kpr:Good Tryz.prog 93 klW:=
 kac Tryz.func93 (by kernel_rfl) (An:=[]) [(66,kgy)] (.cons kfs <| .nil) (λx=>by kernel_rfl)
def kfe:Ctr:=⟨ "",[Tn],[.b],λx=>kcc x,[],[]⟩
theorem kfG:Good Tryz.prog 96 kfe:=
 kac Tryz.func96 (by kernel_rfl) (An:=[]) [(66,kgy)] (.cons kfs <| .nil) (λx=>by kernel_rfl)
def kiu:Ctr:=⟨ "",[Ti],[.b],λx=>kdV x,[],[]⟩
theorem kjp:Good Tryz.prog 111 kiu:=
 kac Tryz.func111 (by kernel_rfl) (An:=[]) [] (.nil) (λx=>by kernel_rfl)
def keF:Ctr:=⟨ "",[Ti,Ti],[Ti],λx=>kcQ x.1 x.2,[],[]⟩
theorem kff:Good Tryz.prog 78 keF:=
 kac Tryz.func78 (by kernel_rfl) (An:=[]) [(111,kiu)] (.cons kjp <| .nil) (λx=>by kernel_rfl)
def kjP:Ctr:=⟨ "",[Tl],[.b],λx=>kdV x,[],[]⟩
theorem kne:Good Tryz.prog 125 kjP:=
 kac Tryz.func125 (by kernel_rfl) (An:=[]) [] (.nil) (λx=>by kernel_rfl)
def kiN:Ctr:=⟨ "",[Tl,Tl],[Ti],λx=>kcQ x.1 x.2,[],[]⟩
theorem klA:Good Tryz.prog 113 kiN:=
 kac Tryz.func113 (by kernel_rfl) (An:=[]) [(125,kjP)] (.cons kne <| .nil) (λx=>by kernel_rfl)
def kkO:Ctr:=⟨ "",[Tk],[Ti],λx=>kie x,[],[]⟩
theorem kll:Good Tryz.prog 77 kkO:=
 kac Tryz.func77 (by kernel_rfl) (An:=[(0,⟨⟨[(8,.c Ti)],[]⟩,⟨[],[]⟩,[7,6,3],[],0,true,""⟩)]) [] (.nil) (λx=>by kernel_rfl)
def kho:Ctr:=⟨ "",[Tn,Tn],[Ti],λx=>kfb x.1 x.2,[],[]⟩
theorem kgx:Good Tryz.prog 103 kho:=
 kac Tryz.func103 (by kernel_rfl) (An:=[]) [(77,kkO),(113,kiN),(78,keF)] (.cons kll <| .cons klA <| .cons kff <| .nil) (λx=>by kernel_rfl)
def khd:Ctr:=⟨ "",[Tj,Ti,(.fn 1 Tm Tn)],[.b],λx=>kdn x.1 x.2.1 x.2.2,[],[]⟩
theorem kkj:Good Tryz.prog 94 khd:=
 kac Tryz.func94 (by kernel_rfl) (An:=[(0,⟨⟨[(11,.c Ti)],[]⟩,⟨[],[]⟩,[10,9,2,0,1],[],0,true,""⟩)]) [(103,kho),(96,kfe)] (.cons kgx <| .cons kfG <| .nil) (λx=>by kernel_rfl)
def keR:Ctr:=⟨ "",[Tm],[Tn],λx=>kbt x,[],[]⟩
theorem kec:Good Tryz.prog 71 keR:=
 kac Tryz.func71 (by kernel_rfl) (An:=[]) [] (.nil) (λx=>by kernel_rfl)
def kcw:Ctr:=⟨ "",[Tj,(.fn 1 Tm .b)],[Ti],λx=>kbD x.1 x.2,[],[]⟩
theorem keU:Good Tryz.prog 99 kcw:=
 kac Tryz.func99 (by kernel_rfl) (An:=[(0,⟨⟨[(8,.c Ti)],[]⟩,⟨[],[]⟩,[7,1,0],[],0,true,""⟩)]) [] (.nil) (λx=>by kernel_rfl)
def kbj:Ctr:=⟨ "",[Tj,(.fn 1 Tm .b)],[.b],λx=>kaz x.1 x.2,[],[]⟩
theorem kbR:Good Tryz.prog 54 kbj:=
 kac Tryz.func54 (by kernel_rfl) (An:=[]) [(99,kcw)] (.cons keU <| .nil) (λx=>by kernel_rfl)
def klG:Ctr:=⟨ "",[Tj],[Ti],λx=>kjz x,[],[]⟩
theorem kma:Good Tryz.prog 47 klG:=
 kac Tryz.func47 (by kernel_rfl) (An:=[]) [(54,kbj),(71,keR),(94,khd),(93,klW)] (.cons kbR <| .cons kec <| .cons kkj <| .cons kpr <| .nil) (λx=>by kernel_rfl)
def kcX:Ctr:=⟨ "",[(.sl Tj)],[Ti],λx=>kcG x,[],[]⟩
theorem kcz:Good Tryz.prog 50 kcX:=
 kac Tryz.func50 (by kernel_rfl) (An:=[(0,⟨⟨[(8,.c Ti)],[]⟩,⟨[],[]⟩,[7,6],[],0,true,""⟩)]) [(47,klG)] (.cons kma <| .nil) (λx=>by kernel_rfl)
def knv:Ctr:=⟨ "",[Tj,Tj],[Ti],λx=>kpJ x.1 x.2,[],[]⟩
theorem kqK:Good Tryz.prog 98 knv:=
 kac Tryz.func98 (by kernel_rfl) (An:=[]) [(71,keR),(103,kho)] (.cons kec <| .cons kgx <| .nil) (λx=>by kernel_rfl)
def kkz:Ctr:=⟨ "",[Tj,Tj,(.fn 2 (.pr Ti Ti) Ti)],[Tj],λx=>kmE x.1 x.2.1 x.2.2,[],[]⟩
theorem klw:Good Tryz.prog 51 kkz:=
 kac Tryz.func51 (by kernel_rfl) (An:=[(0,⟨⟨[(0,.c Tj),(1,.c Tj),(7,.mw 1)],[(1,.sl 50 Tm)]⟩,⟨[(7,.mw 2)],[(2,.sl 50 Tm)]⟩,[2],[],3,false,""⟩),(10,⟨⟨[],[]⟩,⟨[(19,.c .b)],[]⟩,[0,1,7],[1],2,false,""⟩),(129,⟨⟨[(8,.ptr 2 0)],[(2,.bx 50 [.c Ti,.c Tl,.c Ti])]⟩,⟨[(9,.c Ti),(10,.c Ti),(8,.ptr 3 0),(0,.c Tj),(1,.c Tj)],[(3,.bx 50 [.c Ti,.c Tl,.c Ti])]⟩,[11,7],[1],4,false,""⟩),(181,⟨⟨[],[]⟩,⟨[(10,.c Ti),(1,.c Tj)],[]⟩,[9,8,0],[2],3,false,""⟩)]) [(98,knv)] (.cons kqK <| .nil) (λx=>by kernel_rfl)
def koH:Ctr:=⟨ "",[Ti,Ti],[Ti],λx=>krv x.1 x.2,[],[]⟩
theorem krJ:Good Tryz.prog 52 koH:=
 kac Tryz.func52 (by kernel_rfl) (An:=[]) [] (.nil) (λx=>by kernel_rfl)
def ktt:Ctr:=⟨ "",[Tj,Tj],[Tj,Ti],λx=>kxe x.1 x.2,[],[]⟩
theorem kuV:Good Tryz.prog 15 ktt:=
 kac Tryz.func15 (by kernel_rfl) (An:=[]) [(52,koH),(51,kkz),(50,kcX),(47,klG)] (.cons krJ <| .cons klw <| .cons kcz <| .cons kma <| .nil) (λx=>by kernel_rfl)
def kms:Ctr:=⟨ "",[],[Tj],λx=>law08_needed,[],[]⟩
theorem kpu:Good Tryz.prog 44 kms:=
 kac Tryz.func44 (by kernel_rfl) (An:=[]) [(43,kiE)] (.cons kiw <| .nil) (λx=>by kernel_rfl)
def knP:Ctr:=⟨ "",[],[(.sl tSwap)],λx=>law08_swap,[],[]⟩
theorem krA:Good Tryz.prog 45 knP:=
 kac Tryz.func45 (by kernel_rfl) (An:=[]) [] (.nil) (λx=>by kernel_rfl)
def kiP:Ctr:=⟨ "",[tSwap],[.b],λx=>kdi x,[],[]⟩
theorem klC:Good Tryz.prog 95 kiP:=
 kac Tryz.func95 (by kernel_rfl) (An:=[(6,⟨⟨[],[]⟩,⟨[(3,.ptr 1 0),(4,.ptr 2 0)],[(1,.bx 115 [.c Ti,.c Tl]),(2,.bx 115 [.c Ti,.c Tl])]⟩,[1],[0],3,false,""⟩)]) [(96,kfe)] (.cons kfG <| .nil) (λx=>by kernel_rfl)
def kcu:Ctr:=⟨ "",[(.sl tSwap),(.fn 1 tSwap .b)],[Ti],λx=>kbA x.1 x.2,[],[]⟩
theorem keV:Good Tryz.prog 121 kcu:=
 kac Tryz.func121 (by kernel_rfl) (An:=[(0,⟨⟨[(8,.c Ti)],[]⟩,⟨[],[]⟩,[7,1,0],[],0,true,""⟩)]) [] (.nil) (λx=>by kernel_rfl)
def kck:Ctr:=⟨ "",[(.sl tSwap),(.fn 1 tSwap .b)],[.b],λx=>kbn x.1 x.2,[],[]⟩
theorem ket:Good Tryz.prog 97 kck:=
 kac Tryz.func97 (by kernel_rfl) (An:=[]) [(121,kcu)] (.cons keV <| .nil) (λx=>by kernel_rfl)
def khF:Ctr:=⟨ "",[(.sl tSwap)],[Ti],λx=>kdx x,[],[]⟩
theorem kiO:Good Tryz.prog 48 khF:=
 kac Tryz.func48 (by kernel_rfl) (An:=[]) [(97,kck),(95,kiP)] (.cons ket <| .cons klC <| .nil) (λx=>by kernel_rfl)
def kdb:Ctr:=⟨ "",[(.sl tSwap),tSwap],[Ti],λx=>kbZ x.1 x.2,[],[]⟩
theorem kfQ:Good Tryz.prog 132 kdb:=
 kac Tryz.func132 (by kernel_rfl) (An:=[(0,⟨⟨[(8,.c Ti)],[]⟩,⟨[],[]⟩,[7,3,0],[0],1,true,""⟩)]) [] (.nil) (λx=>by kernel_rfl)
def kcF:Ctr:=⟨ "",[(.sl tSwap),tSwap],[.b],λx=>kbH x.1 x.2,[],[]⟩
theorem kfd:Good Tryz.prog 122 kcF:=
 kac Tryz.func122 (by kernel_rfl) (An:=[]) [(132,kdb)] (.cons kfQ <| .nil) (λx=>by kernel_rfl)
def koQ:Ctr:=⟨ "",[(.sl tSwap),Tn,Tn],[.b],λx=>kkp x.1 x.2.1 x.2.2,[],[]⟩
theorem kon:Good Tryz.prog 100 koQ:=
 kac Tryz.func100 (by kernel_rfl) (An:=[]) [(122,kcF)] (.cons kfd <| .nil) (λx=>by kernel_rfl)
def kdR (k:Nat):CtrM:=⟨ "",[some (.i .i64),none,none,none],⟨[(1,.ptr 0 0),(2,.ptr 2 0),(3,.ptr 3 0)],[(0,.bx 103 [.mw 1]),(1,.sl 4 .b),(2,.bx 100 [.c (.op tFlow)]),(3,.bx 155 [.fn 102 [.ptr 0 0,.ptr 2 0,.ptr 3 0]])]⟩,4,⟨[(1,.ptr 0 0),(2,.ptr 2 0),(3,.ptr 3 0)],[(0,.bx 103 [.mw 1]),(1,.sl 4 .b),(2,.bx 100 [.c (.op tFlow)]),(3,.bx 155 [.fn 102 [.ptr 0 0,.ptr 2 0,.ptr 3 0]])]⟩,4,0,λx=>keo k x.1 x.2.1 x.2.2,false⟩
theorem kfW:∀ k,(kdR k).ok=true/\GoodM Tryz.prog 102 (kdR k)
 | 0=>kjY (by kernel_rfl) (λx=>rfl)
 | k+1=>kan Tryz.func102 (by kernel_rfl) (An:=[(0,⟨⟨[(23,.c (.i .i64))],[(2,.bx 100 [.c (.op tFlow)]),(3,.bx 155 [.fn 102 [.ptr 0 0,.ptr 2 0,.ptr 3 0]]),(0,.bx 103 [.mw 1]),(1,.sl 4 .b)]⟩,⟨[],[(2,.bx 100 [.c (.op tFlow)]),(3,.bx 155 [.fn 102 [.ptr 0 0,.ptr 2 0,.ptr 3 0]]),(0,.bx 103 [.mw 1]),(1,.sl 4 .b)]⟩,[22,21],[],8,false,""⟩),(8,⟨⟨[(32,.c (.i .i64))],[(2,.bx 100 [.c (.op tFlow)]),(3,.bx 155 [.fn 102 [.ptr 0 0,.ptr 2 0,.ptr 3 0]]),(0,.bx 103 [.mw 1]),(1,.sl 4 .b)]⟩,⟨[],[(2,.bx 100 [.c (.op tFlow)]),(3,.bx 155 [.fn 102 [.ptr 0 0,.ptr 2 0,.ptr 3 0]]),(0,.bx 103 [.mw 1]),(1,.sl 4 .b)]⟩,[31,6,23],[],8,false,""⟩)]) ((102,⟨ "",[],[],λ_=>none,[kdR k],[]⟩)::[]) (.cons (good_dm.more (kfW k)) <| .nil) (λx=>by kernel_rfl)
def box_flow_short_c1_m0_M:CtrM:=⟨ "",[some Ti,none,none,none],⟨[(1,.ptr 0 0),(2,.ptr 2 0),(3,.ptr 3 0)],[(0,.bx 103 [.mw 1]),(1,.sl 4 .b),(2,.bx 100 [.c (.op tFlow)]),(3,.bx 155 [.fn 102 [.ptr 0 0,.ptr 2 0,.ptr 3 0]])]⟩,4,⟨[(1,.ptr 0 0),(2,.ptr 2 0),(3,.ptr 3 0)],[(0,.bx 103 [.mw 1]),(1,.sl 4 .b),(2,.bx 100 [.c (.op tFlow)]),(3,.bx 155 [.fn 102 [.ptr 0 0,.ptr 2 0,.ptr 3 0]])]⟩,4,0,λx=>kiF x.1 x.2.1 x.2.2,false⟩
theorem kkb:box_flow_short_c1_m0_M.ok=true/\GoodM Tryz.prog 102 box_flow_short_c1_m0_M:=kfW 1000000
theorem box_flow_short_c1_C_ok:Good Tryz.prog 102 kbv:=good_dm
def kiy:Ctr:=kbv.w box_flow_short_c1_m0_M
theorem klc:Good Tryz.prog 102 kiy:=(box_flow_short_c1_C_ok.more kkb)
def box_begin_m0g0_M:CtrM:=⟨ "",[some Tj,some Tj,some (.sl tSwap)],⟨[],[]⟩,0,⟨[(1000000,.sc (.pointer none)),(1000001,.c Ti)],[]⟩,0,2,λx=>keN x.1 x.2.1 x.2.2,true⟩
theorem knG:box_begin_m0g0_M.ok=true/\GoodM Tryz.prog 58 box_begin_m0g0_M:=
 kan Tryz.func58 (by kernel_rfl) (An:=[(89,⟨⟨[],[]⟩,⟨[(8,.c Ti)],[]⟩,[2,1,0],[],1,false,""⟩),(0,⟨⟨[(33,.c Ti),(9,.ptr 5 0)],[(5,.bx 134 [.c Tj,.mw 2,.fw 3,.mw 4]),(4,.sl 3 Ti)]⟩,⟨[(9,.ptr 6 0)],[(6,.bx 134 [.c Tj,.mw 2,.fw 3,.mw 7]),(7,.sl 3 Ti)]⟩,[32,31,1,0,2],[2,3],8,false,""⟩),(8,⟨⟨[(51,.c Ti),(9,.ptr 6 0)],[(6,.bx 134 [.c Tj,.mw 2,.fw 3,.mw 7]),(2,.sl 31 Tk),(3,.fm 31 Tk 0 3 Ti)]⟩,⟨[(9,.ptr 8 0)],[(8,.bx 134 [.c Tj,.mw 9,.fw 10,.mw 7]),(9,.sl 31 Tk),(10,.fm 31 Tk 0 3 Ti)]⟩,[50,49,0,2],[7],11,false,""⟩),(16,⟨⟨[(57,.c Ti),(14,.mw 9)],[(9,.sl 3 Ti)]⟩,⟨[(14,.mw 10)],[(10,.sl 3 Ti)]⟩,[56,55,13,9,51],[8,6,2,3],11,false,""⟩)]) [(4134001,kbv),(7000089,kbv),(6000083,kbv),(6000029,kbv),(100,koQ),(48,khF),(50,kcX),(71,keR)] (.cons kaE <| .cons kaE <| .cons kaE <| .cons kaE <| .cons kon <| .cons kiO <| .cons kcz <| .cons kec <| .nil) (λx=>by kernel_rfl)
def box_begin_m0g1_M:CtrM:=⟨ "",[some Tj,some Tj,some (.sl tSwap)],⟨[],[]⟩,0,⟨[(1000000,.ptr 0 0),(1000001,.c Ti)],[(0,.bx 134 [.c Tj,.mw 1,.fw 2,.mw 3]),(1,.sl 31 Tk),(2,.fm 31 Tk 0 3 Ti),(3,.sl 3 Ti)]⟩,4,2,λx=>keG x.1 x.2.1 x.2.2,true⟩
theorem knF:box_begin_m0g1_M.ok=true/\GoodM Tryz.prog 58 box_begin_m0g1_M:=
 kan Tryz.func58 (by kernel_rfl) (An:=[(89,⟨⟨[],[]⟩,⟨[(8,.c Ti)],[]⟩,[2,1,0],[],1,false,""⟩),(0,⟨⟨[(33,.c Ti),(9,.ptr 5 0)],[(5,.bx 134 [.c Tj,.mw 2,.fw 3,.mw 4]),(4,.sl 3 Ti)]⟩,⟨[(9,.ptr 6 0)],[(6,.bx 134 [.c Tj,.mw 2,.fw 3,.mw 7]),(7,.sl 3 Ti)]⟩,[32,31,1,0,2],[2,3],8,false,""⟩),(8,⟨⟨[(51,.c Ti),(9,.ptr 6 0)],[(6,.bx 134 [.c Tj,.mw 2,.fw 3,.mw 7]),(2,.sl 31 Tk),(3,.fm 31 Tk 0 3 Ti)]⟩,⟨[(9,.ptr 8 0)],[(8,.bx 134 [.c Tj,.mw 9,.fw 10,.mw 7]),(9,.sl 31 Tk),(10,.fm 31 Tk 0 3 Ti)]⟩,[50,49,0,2],[7],11,false,""⟩),(16,⟨⟨[(57,.c Ti),(14,.mw 9)],[(9,.sl 3 Ti)]⟩,⟨[(14,.mw 10)],[(10,.sl 3 Ti)]⟩,[56,55,13,9,51],[8,6,2,3],11,false,""⟩)]) [(4134001,kbv),(7000089,kbv),(6000083,kbv),(6000029,kbv),(100,koQ),(48,khF),(50,kcX),(71,keR)] (.cons kaE <| .cons kaE <| .cons kaE <| .cons kaE <| .cons kon <| .cons kiO <| .cons kcz <| .cons kec <| .nil) (λx=>by kernel_rfl)
theorem box_begin_B1_ok:Good Tryz.prog 58 kbv:=good_dm
def kkW:Ctr:=⟨ "",kbv.as,kbv.rs,kbv.F,box_begin_m0g0_M::box_begin_m0g1_M::kbv.mus,kbv.its⟩
theorem klq:Good Tryz.prog 58 kkW:=((box_begin_B1_ok.more knF).more knG)
def box_flow_short_m0_M:CtrM:=⟨ "",[some (.op tFlow),some (.sl .b)],⟨[],[]⟩,0,⟨[(1000000,.mw 0)],[(0,.sl 3 Ti)]⟩,1,1,λx=>kgK x.1 x.2,false⟩
theorem klF:box_flow_short_m0_M.ok=true/\GoodM Tryz.prog 60 box_flow_short_m0_M:=
 kan Tryz.func60 (by kernel_rfl) (An:=[(0,⟨⟨[(18,.c Ti),(5,.ptr 2 0),(6,.ptr 5 0)],[(2,.bx 155 [.fn 102 [.ptr 5 0,.ptr 0 0,.ptr 2 0]]),(5,.bx 103 [.mw 3]),(3,.sl 4 .b),(0,.bx 100 [.c (.op tFlow)])]⟩,⟨[(6,.ptr 6 0)],[(6,.bx 103 [.mw 7]),(7,.sl 4 .b)]⟩,[17,16],[],8,false,""⟩),(8,⟨⟨[(30,.c Ti),(9,.mw 8)],[(8,.sl 3 Ti)]⟩,⟨[(9,.mw 9)],[(9,.sl 3 Ti)]⟩,[29,28],[7],10,false,""⟩)]) [(102,kiy)] (.cons klc <| .nil) (λx=>by kernel_rfl)
theorem box_flow_short_B2_ok:Good Tryz.prog 60 kbv:=good_dm
def kjO:Ctr:=kbv.w box_flow_short_m0_M
theorem kmu:Good Tryz.prog 60 kjO:=(box_flow_short_B2_ok.more klF)
def kev (k:Nat):CtrM:=⟨ "",[some (.i .i64),some (.i .i64),none,none,none],⟨[(2,.ptr 0 0),(3,.ptr 5 0),(4,.ptr 7 0)],[(0,.bx 100 [.ptr 1 0]),(1,.bx 134 [.c (.sl (.pr (.i .i64) (.pr (.i .u8) (.i .i64)))),.mw 2,.fw 3,.mw 4]),(2,.sl 31 (.sl (.i .i64))),(3,.fm 31 (.sl (.i .i64)) 0 3 (.i .i64)),(4,.sl 3 (.i .i64)),(5,.bx 103 [.mw 6]),(6,.sl 4 .b),(7,.bx 96 [.fn 101 [.ptr 0 0,.ptr 5 0,.ptr 7 0]])]⟩,8,⟨[(2,.ptr 0 0),(3,.ptr 5 0),(4,.ptr 7 0),(1000000,.c (.i .i64))],[(0,.bx 100 [.ptr 1 0]),(1,.bx 134 [.c (.sl (.pr (.i .i64) (.pr (.i .u8) (.i .i64)))),.mw 2,.fw 3,.mw 4]),(2,.sl 31 (.sl (.i .i64))),(3,.fm 31 (.sl (.i .i64)) 0 3 (.i .i64)),(4,.sl 3 (.i .i64)),(5,.bx 103 [.mw 6]),(6,.sl 4 .b),(7,.bx 96 [.fn 101 [.ptr 0 0,.ptr 5 0,.ptr 7 0]])]⟩,8,1,λx=>kbi k x.1 x.2.1 x.2.2.1 x.2.2.2.1 x.2.2.2.2.1 x.2.2.2.2.2.1 x.2.2.2.2.2.2,false⟩
theorem kgD:∀ k,(kev k).ok=true/\GoodM Tryz.prog 101 (kev k)
 | 0=>kjY (by kernel_rfl) (λx=>rfl)
 | k+1=>kan Tryz.func101 (by kernel_rfl) (An:=[(0,⟨⟨[(21,.c (.i .i64))],[(5,.bx 103 [.mw 6]),(6,.sl 4 .b),(0,.bx 100 [.ptr 1 0]),(1,.bx 134 [.c (.sl (.pr (.i .i64) (.pr (.i .u8) (.i .i64)))),.mw 2,.fw 3,.mw 4]),(2,.sl 31 (.sl (.i .i64))),(3,.fm 31 (.sl (.i .i64)) 0 3 (.i .i64)),(4,.sl 3 (.i .i64)),(7,.bx 96 [.fn 101 [.ptr 0 0,.ptr 5 0,.ptr 7 0]])]⟩,⟨[],[(6,.sl 4 .b),(4,.sl 3 (.i .i64)),(5,.bx 103 [.mw 6]),(3,.fm 31 (.sl (.i .i64)) 0 3 (.i .i64)),(0,.bx 100 [.ptr 1 0]),(1,.bx 134 [.c (.sl (.pr (.i .i64) (.pr (.i .u8) (.i .i64)))),.mw 2,.fw 3,.mw 4]),(2,.sl 31 (.sl (.i .i64))),(7,.bx 96 [.fn 101 [.ptr 0 0,.ptr 5 0,.ptr 7 0]])]⟩,[20,19,1,0],[],16,true,""⟩),(8,⟨⟨[(72,.c (.i .i64))],[(0,.bx 100 [.ptr 1 0]),(1,.bx 134 [.c (.sl (.pr (.i .i64) (.pr (.i .u8) (.i .i64)))),.mw 2,.fw 3,.mw 4]),(2,.sl 31 (.sl (.i .i64))),(3,.fm 31 (.sl (.i .i64)) 0 3 (.i .i64)),(4,.sl 3 (.i .i64)),(7,.bx 96 [.fn 101 [.ptr 0 0,.ptr 5 0,.ptr 7 0]]),(5,.bx 103 [.mw 6]),(6,.sl 4 .b)]⟩,⟨[],[(0,.bx 100 [.ptr 1 0]),(1,.bx 134 [.c (.sl (.pr (.i .i64) (.pr (.i .u8) (.i .i64)))),.mw 2,.fw 3,.mw 4]),(2,.sl 31 (.sl (.i .i64))),(3,.fm 31 (.sl (.i .i64)) 0 3 (.i .i64)),(4,.sl 3 (.i .i64)),(7,.bx 96 [.fn 101 [.ptr 0 0,.ptr 5 0,.ptr 7 0]]),(5,.bx 103 [.mw 6]),(6,.sl 4 .b)]⟩,[71,9,21],[],16,true,""⟩)]) ((101,⟨ "",[],[],λ_=>none,[kev k],[]⟩)::[]) (.cons (good_dm.more (kgD k)) <| .nil) (λx=>by kernel_rfl)
def box_flow_give_c1_m0_M:CtrM:=⟨ "",[some Ti,some Ti,none,none,none],⟨[(2,.ptr 0 0),(3,.ptr 5 0),(4,.ptr 7 0)],[(0,.bx 100 [.ptr 1 0]),(1,.bx 134 [.c Tj,.mw 2,.fw 3,.mw 4]),(2,.sl 31 Tk),(3,.fm 31 Tk 0 3 Ti),(4,.sl 3 Ti),(5,.bx 103 [.mw 6]),(6,.sl 4 .b),(7,.bx 96 [.fn 101 [.ptr 0 0,.ptr 5 0,.ptr 7 0]])]⟩,8,⟨[(2,.ptr 0 0),(3,.ptr 5 0),(4,.ptr 7 0),(1000000,.c Ti)],[(0,.bx 100 [.ptr 1 0]),(1,.bx 134 [.c Tj,.mw 2,.fw 3,.mw 4]),(2,.sl 31 Tk),(3,.fm 31 Tk 0 3 Ti),(4,.sl 3 Ti),(5,.bx 103 [.mw 6]),(6,.sl 4 .b),(7,.bx 96 [.fn 101 [.ptr 0 0,.ptr 5 0,.ptr 7 0]])]⟩,8,1,λx=>kfE x.1 x.2.1 x.2.2.1 x.2.2.2.1 x.2.2.2.2.1 x.2.2.2.2.2.1 x.2.2.2.2.2.2,false⟩
theorem kkF:box_flow_give_c1_m0_M.ok=true/\GoodM Tryz.prog 101 box_flow_give_c1_m0_M:=kgD 1000000
theorem box_flow_give_c1_C_ok:Good Tryz.prog 101 kbv:=good_dm
def kiM:Ctr:=kbv.w box_flow_give_c1_m0_M
theorem klB:Good Tryz.prog 101 kiM:=(box_flow_give_c1_C_ok.more kkF)
def box_flow_give_m0_M:CtrM:=⟨ "",[none,some Ti,some Ti],⟨[(0,.ptr 0 0)],[(0,.bx 134 [.c Tj,.mw 1,.fw 2,.mw 3]),(1,.sl 31 Tk),(2,.fm 31 Tk 0 3 Ti),(3,.sl 3 Ti)]⟩,4,⟨[(0,.ptr 0 0),(1000000,.c Ti)],[(0,.bx 134 [.c Tj,.mw 1,.fw 2,.mw 3]),(1,.sl 31 Tk),(2,.fm 31 Tk 0 3 Ti),(3,.sl 3 Ti)]⟩,4,1,λx=>kdK x.1 x.2.1 x.2.2.1 x.2.2.2.1 x.2.2.2.2.1 x.2.2.2.2.2,false⟩
theorem klS:box_flow_give_m0_M.ok=true/\GoodM Tryz.prog 59 box_flow_give_m0_M:=
 kan Tryz.func59 (by kernel_rfl) (An:=[(0,⟨⟨[(9,.c Ti),(3,.ptr 4 0),(7,.ptr 6 0),(8,.ptr 7 0)],[(4,.bx 100 [.ptr 0 0]),(0,.bx 134 [.c Tj,.mw 1,.fw 2,.mw 3]),(1,.sl 31 Tk),(2,.fm 31 Tk 0 3 Ti),(3,.sl 3 Ti),(6,.bx 103 [.mw 5]),(5,.sl 4 .b),(7,.bx 96 [.fn 101 [.ptr 4 0,.ptr 6 0,.ptr 7 0]])]⟩,⟨[(9,.c Ti)],[(0,.bx 134 [.c Tj,.mw 1,.fw 2,.mw 3]),(1,.sl 31 Tk),(2,.fm 31 Tk 0 3 Ti),(3,.sl 3 Ti)]⟩,[2,1],[],12,false,""⟩)]) [(101,kiM)] (.cons klB <| .nil) (λx=>by kernel_rfl)
theorem box_flow_give_C_ok:Good Tryz.prog 59 kbv:=good_dm
def khx:Ctr:=kbv.w box_flow_give_m0_M
theorem kiL:Good Tryz.prog 59 khx:=(box_flow_give_C_ok.more klS)
def krd:Ctr:=⟨ "",[Tj,Tj,(.sl tSwap)],[kwK,Ti],λx=>kvl x.1 x.2.1 x.2.2,[],[]⟩
theorem ktB:Good Tryz.prog 19 krd:=
 kac Tryz.func19 (by kernel_rfl) (An:=[(0,⟨⟨[(31,.c Ti),(10,.c Ti)],[]⟩,⟨[(10,.c Ti)],[]⟩,[30,29,8,11,6],[2,1,0],3,false,""⟩),(0,⟨⟨[(31,.c Ti),(8,.ptr 2 0),(10,.c Ti),(11,.mw 6)],[(2,.bx 134 [.c Tj,.mw 3,.fw 4,.mw 5]),(3,.sl 31 Tk),(4,.fm 31 Tk 0 3 Ti),(5,.sl 3 Ti),(6,.sl 4 .b)]⟩,⟨[(10,.c Ti),(8,.ptr 7 0),(11,.mw 11)],[(7,.bx 134 [.c Tj,.mw 8,.fw 9,.mw 10]),(8,.sl 31 Tk),(9,.fm 31 Tk 0 3 Ti),(10,.sl 3 Ti),(11,.sl 4 .b)]⟩,[30,29,6],[1,0],12,false,""⟩)]) [(60,kjO),(58,kkW),(59,khx)] (.cons kmu <| .cons klq <| .cons kiL <| .nil) (λx=>by kernel_rfl)
def kos:Ctr:=⟨ "",[Tm],[.b],λx=>kim x,[],[]⟩
theorem kro:Good Tryz.prog 65 kos:=
 kac Tryz.func65 (by kernel_rfl) (An:=[]) [(66,kgy)] (.cons kfs <| .nil) (λx=>by kernel_rfl)
theorem kjG:Good Tryz.prog 67 khd:=
 kac Tryz.func67 (by kernel_rfl) (An:=[(0,⟨⟨[(11,.c Ti)],[]⟩,⟨[],[]⟩,[10,9,2,0,1],[],0,true,""⟩)]) [(103,kho),(96,kfe)] (.cons kgx <| .cons kfG <| .nil) (λx=>by kernel_rfl)
theorem kqy:Good Tryz.prog 68 keR:=
 kac Tryz.func68 (by kernel_rfl) (An:=[]) [] (.nil) (λx=>by kernel_rfl)
theorem keD:Good Tryz.prog 104 kcw:=
 kac Tryz.func104 (by kernel_rfl) (An:=[(0,⟨⟨[(8,.c Ti)],[]⟩,⟨[],[]⟩,[7,1,0],[],0,true,""⟩)]) [] (.nil) (λx=>by kernel_rfl)
theorem kdS:Good Tryz.prog 69 kbj:=
 kac Tryz.func69 (by kernel_rfl) (An:=[]) [(104,kcw)] (.cons keD <| .nil) (λx=>by kernel_rfl)
def knO:Ctr:=⟨ "",[tLine,tLine],[Ti],λx=>kdl x.1 x.2,[],[]⟩
theorem krN:Good Tryz.prog 73 knO:=
 kac Tryz.func73 (by kernel_rfl) (An:=[]) [] (.nil) (λx=>by kernel_rfl)
def slices_insertionSortCmpFunc_box_line_m0_M:CtrM:=⟨ "",[none,some Ti,some Ti,some (.fn 2 (.pr tLine tLine) Ti)],⟨[(0,.mw 0)],[(0,.sl 121 tLine)]⟩,1,⟨[(0,.mw 0)],[(0,.sl 121 tLine)]⟩,1,0,λx=>kay x.1 x.2.1 x.2.2.1 x.2.2.2,false⟩
theorem ker:slices_insertionSortCmpFunc_box_line_m0_M.ok=true/\GoodM Tryz.prog 123 slices_insertionSortCmpFunc_box_line_m0_M:=
 kan Tryz.func123 (by kernel_rfl) (An:=[(0,⟨⟨[(8,.c Ti)],[(0,.sl 121 tLine)]⟩,⟨[],[(0,.sl 121 tLine)]⟩,[2,1,3],[],2,false,""⟩),(8,⟨⟨[(9,.c Ti)],[(0,.sl 121 tLine)]⟩,⟨[],[(0,.sl 121 tLine)]⟩,[8],[],2,false,""⟩)]) [] (.nil) (λx=>by kernel_rfl)
theorem slices_insertionSortCmpFunc_box_line_C_ok:Good Tryz.prog 123 kbv:=good_dm
def kcr:Ctr:=kbv.w slices_insertionSortCmpFunc_box_line_m0_M
theorem keS:Good Tryz.prog 123 kcr:=(slices_insertionSortCmpFunc_box_line_C_ok.more ker)
def slices_swapRangeCmpFunc_box_line_m0_M:CtrM:=⟨ "",[none,some Ti,some Ti,some Ti,some (.fn 2 (.pr tLine tLine) Ti)],⟨[(0,.mw 0)],[(0,.sl 121 tLine)]⟩,1,⟨[(0,.mw 0)],[(0,.sl 121 tLine)]⟩,1,0,λx=>kaw x.1 x.2.1 x.2.2.1 x.2.2.2.1 x.2.2.2.2,false⟩
theorem kfc:slices_swapRangeCmpFunc_box_line_m0_M.ok=true/\GoodM Tryz.prog 137 slices_swapRangeCmpFunc_box_line_m0_M:=
 kan Tryz.func137 (by kernel_rfl) (An:=[(0,⟨⟨[(10,.c Ti)],[(0,.sl 121 tLine)]⟩,⟨[],[(0,.sl 121 tLine)]⟩,[3,1,2],[],2,false,""⟩)]) [] (.nil) (λx=>by kernel_rfl)
theorem slices_swapRangeCmpFunc_box_line_C_ok:Good Tryz.prog 137 kbv:=good_dm
def kcN:Ctr:=kbv.w slices_swapRangeCmpFunc_box_line_m0_M
theorem kfD:Good Tryz.prog 137 kcN:=(slices_swapRangeCmpFunc_box_line_C_ok.more kfc)
def slices_rotateCmpFunc_box_line_m0_M:CtrM:=⟨ "",[none,some Ti,some Ti,some Ti,some (.fn 2 (.pr tLine tLine) Ti)],⟨[(0,.mw 0)],[(0,.sl 121 tLine)]⟩,1,⟨[(0,.mw 0)],[(0,.sl 121 tLine)]⟩,1,0,λx=>kaP x.1 x.2.1 x.2.2.1 x.2.2.2.1 x.2.2.2.2,false⟩
theorem kfT:slices_rotateCmpFunc_box_line_m0_M.ok=true/\GoodM Tryz.prog 133 slices_rotateCmpFunc_box_line_m0_M:=
 kan Tryz.func133 (by kernel_rfl) (An:=[(0,⟨⟨[(10,.c Ti),(11,.c Ti)],[(0,.sl 121 tLine)]⟩,⟨[(10,.c Ti)],[(0,.sl 121 tLine)]⟩,[2,4],[],2,false,""⟩)]) [(137,kcN)] (.cons kfD <| .nil) (λx=>by kernel_rfl)
theorem slices_rotateCmpFunc_box_line_C_ok:Good Tryz.prog 133 kbv:=good_dm
def kdD:Ctr:=kbv.w slices_rotateCmpFunc_box_line_m0_M
theorem kgB:Good Tryz.prog 133 kdD:=(slices_rotateCmpFunc_box_line_C_ok.more kfT)
def kbx (k:Nat):CtrM:=⟨ "",[none,some (.i .i64),some (.i .i64),some (.i .i64),some (.fn 2 (.pr tLine tLine) (.i .i64))],⟨[(0,.mw 0)],[(0,.sl 121 tLine)]⟩,1,⟨[(0,.mw 0)],[(0,.sl 121 tLine)]⟩,1,0,λx=>kam k x.1 x.2.1 x.2.2.1 x.2.2.2.1 x.2.2.2.2,false⟩
theorem kcx:∀ k,(kbx k).ok=true/\GoodM Tryz.prog 124 (kbx k)
 | 0=>kjY (by kernel_rfl) (λx=>rfl)
 | k+1=>kan Tryz.func124 (by kernel_rfl) (An:=[(0,⟨⟨[(10,.c (.i .i64)),(11,.c (.i .i64))],[]⟩,⟨[(10,.c (.i .i64))],[]⟩,[4,1],[0],1,false,""⟩),(8,⟨⟨[(13,.c (.i .i64))],[(0,.sl 121 tLine)]⟩,⟨[],[(0,.sl 121 tLine)]⟩,[10],[],2,false,""⟩),(16,⟨⟨[(14,.c (.i .i64)),(15,.c (.i .i64))],[]⟩,⟨[(14,.c (.i .i64))],[]⟩,[4,2],[0],1,false,""⟩),(24,⟨⟨[(17,.c (.i .i64))],[(0,.sl 121 tLine)]⟩,⟨[],[(0,.sl 121 tLine)]⟩,[14],[],2,false,""⟩),(561,⟨⟨[],[]⟩,⟨[(20,.c (.i .i64)),(21,.c (.i .i64))],[]⟩,[19,3,18,4,2,1],[0],1,false,""⟩),(32,⟨⟨[(20,.c (.i .i64)),(21,.c (.i .i64))],[]⟩,⟨[(20,.c (.i .i64))],[]⟩,[4,22,19,2,1,18,3],[0],1,false,""⟩),(158,⟨⟨[],[]⟩,⟨[(185,.c .b)],[]⟩,[20,2,24,4,1,18,3],[0],1,false,""⟩),(741,⟨⟨[],[(0,.sl 121 tLine)]⟩,⟨[],[(0,.sl 121 tLine)]⟩,[20,2,24,4,1,18,3],[],2,false,""⟩),(166,⟨⟨[],[]⟩,⟨[(199,.c .b)],[]⟩,[1,20,18,4,24,3],[0],2,false,""⟩),(797,⟨⟨[],[(0,.sl 121 tLine)]⟩,⟨[],[(0,.sl 121 tLine)]⟩,[1,20,18,4,24,3],[],3,false,""⟩)]) ((124,⟨ "",[],[],λ_=>none,[kbx k],[]⟩)::[(133,kdD)]) (.cons (good_dm.more (kcx k)) <| .cons kgB <| .nil) (λx=>by kernel_rfl)
def slices_symMergeCmpFunc_box_line_m0_M:CtrM:=⟨ "",[none,some Ti,some Ti,some Ti,some (.fn 2 (.pr tLine tLine) Ti)],⟨[(0,.mw 0)],[(0,.sl 121 tLine)]⟩,1,⟨[(0,.mw 0)],[(0,.sl 121 tLine)]⟩,1,0,λx=>kaJ x.1 x.2.1 x.2.2.1 x.2.2.2.1 x.2.2.2.2,false⟩
theorem kfr:slices_symMergeCmpFunc_box_line_m0_M.ok=true/\GoodM Tryz.prog 124 slices_symMergeCmpFunc_box_line_m0_M:=kcx 1000000
theorem slices_symMergeCmpFunc_box_line_C_ok:Good Tryz.prog 124 kbv:=good_dm
def kcZ:Ctr:=kbv.w slices_symMergeCmpFunc_box_line_m0_M
theorem kfR:Good Tryz.prog 124 kcZ:=(slices_symMergeCmpFunc_box_line_C_ok.more kfr)
def slices_stableCmpFunc_box_line_m0_M:CtrM:=⟨ "",[none,some Ti,some (.fn 2 (.pr tLine tLine) Ti)],⟨[(0,.mw 0)],[(0,.sl 121 tLine)]⟩,1,⟨[(0,.mw 0)],[(0,.sl 121 tLine)]⟩,1,0,λx=>kbl x.1 x.2.1 x.2.2,false⟩
theorem kfO:slices_stableCmpFunc_box_line_m0_M.ok=true/\GoodM Tryz.prog 106 slices_stableCmpFunc_box_line_m0_M:=
 kan Tryz.func106 (by kernel_rfl) (An:=[(0,⟨⟨[(8,.c Ti),(7,.c Ti)],[(0,.sl 121 tLine)]⟩,⟨[(7,.c Ti)],[(0,.sl 121 tLine)]⟩,[1,2,6],[],2,false,""⟩),(8,⟨⟨[(6,.c Ti)],[(0,.sl 121 tLine)]⟩,⟨[],[(0,.sl 121 tLine)]⟩,[1,2],[],3,false,""⟩),(16,⟨⟨[(8,.c Ti),(7,.c Ti)],[(0,.sl 121 tLine)]⟩,⟨[(7,.c Ti)],[(0,.sl 121 tLine)]⟩,[6],[],3,false,""⟩)]) [(124,kcZ),(123,kcr)] (.cons kfR <| .cons keS <| .nil) (λx=>by kernel_rfl)
theorem slices_stableCmpFunc_box_line_C_ok:Good Tryz.prog 106 kbv:=good_dm
def kdA:Ctr:=kbv.w slices_stableCmpFunc_box_line_m0_M
theorem kgq:Good Tryz.prog 106 kdA:=(slices_stableCmpFunc_box_line_C_ok.more kfO)
def slices_SortStableFunc_s_box_line_box_line_m0_M:CtrM:=⟨ "",[none,some (.fn 2 (.pr tLine tLine) Ti)],⟨[(0,.mw 0)],[(0,.sl 121 tLine)]⟩,1,⟨[(0,.mw 0)],[(0,.sl 121 tLine)]⟩,1,0,λx=>kat x.1 x.2,false⟩
theorem kdt:slices_SortStableFunc_s_box_line_box_line_m0_M.ok=true/\GoodM Tryz.prog 72 slices_SortStableFunc_s_box_line_box_line_m0_M:=
 kan Tryz.func72 (by kernel_rfl) (An:=[]) [(106,kdA)] (.cons kgq <| .nil) (λx=>by kernel_rfl)
theorem slices_SortStableFunc_s_box_line_box_line_C_ok:Good Tryz.prog 72 kbv:=good_dm
def kbP:Ctr:=kbv.w slices_SortStableFunc_s_box_line_box_line_m0_M
theorem kdE:Good Tryz.prog 72 kbP:=(slices_SortStableFunc_s_box_line_box_line_C_ok.more kdt)
def box_cheapest_c1_m0_M:CtrM:=⟨ "",[some Tn,none,none,none,none],⟨[(1,.ptr 0 0),(2,.ptr 2 0),(3,.ptr 3 0),(4,.ptr 4 0)],[(0,.bx 113 [.mp 1]),(1,.mp Tn Ti),(2,.bx 4 [.c .b]),(3,.bx 3 [.c Ti]),(4,.bx 115 [.c Ti,.c Tl])]⟩,5,⟨[(1,.ptr 0 0),(2,.ptr 2 0),(3,.ptr 3 0),(4,.ptr 4 0)],[(0,.bx 113 [.mp 1]),(1,.mp Tn Ti),(2,.bx 4 [.c .b]),(3,.bx 3 [.c Ti]),(4,.bx 115 [.c Ti,.c Tl])]⟩,5,0,λx=>kba x.1 x.2.1 x.2.2.1 x.2.2.2.1 x.2.2.2.2.1 x.2.2.2.2.2,false⟩
theorem klb:box_cheapest_c1_m0_M.ok=true/\GoodM Tryz.prog 105 box_cheapest_c1_m0_M:=
 kan Tryz.func105 (by kernel_rfl) (An:=[]) [(103,kho)] (.cons kgx <| .nil) (λx=>by kernel_rfl)
theorem box_cheapest_c1_C_ok:Good Tryz.prog 105 kbv:=good_dm
def kiK:Ctr:=kbv.w box_cheapest_c1_m0_M
theorem klM:Good Tryz.prog 105 kiK:=(box_cheapest_c1_C_ok.more klb)
def box_cheapest_m0_M:CtrM:=⟨ "",[some (.sl tSwap),none,some Tn],⟨[(1,.mp 0)],[(0,.mp Tn Ti)]⟩,1,⟨[(1,.mp 0),(1000000,.c Ti),(1000001,.ag [.c Ti,.c Tl]),(1000002,.c .b)],[(0,.mp Tn Ti)]⟩,1,3,λx=>kcS x.1 x.2.1 x.2.2,false⟩
theorem kmD:box_cheapest_m0_M.ok=true/\GoodM Tryz.prog 70 box_cheapest_m0_M:=
 kan Tryz.func70 (by kernel_rfl) (An:=[(0,⟨⟨[(22,.c Ti),(12,.fn 105 [.ptr 1 0,.ptr 6 0,.ptr 4 0,.ptr 5 0]),(9,.ptr 4 0),(10,.ptr 5 0),(11,.ptr 6 0)],[(1,.bx 113 [.mp 0]),(0,.mp Tn Ti),(6,.bx 4 [.c .b]),(4,.bx 3 [.c Ti]),(5,.bx 115 [.c Ti,.c Tl])]⟩,⟨[(9,.ptr 7 0),(10,.ptr 8 0),(11,.ptr 9 0)],[(7,.bx 3 [.c Ti]),(8,.bx 115 [.c Ti,.c Tl]),(9,.bx 4 [.c .b]),(0,.mp Tn Ti)]⟩,[21,20,5,7],[2,3],11,false,""⟩)]) [(105,kiK)] (.cons klM <| .nil) (λx=>by kernel_rfl)
theorem box_cheapest_C_ok:Good Tryz.prog 70 kbv:=good_dm
def kkB:Ctr:=kbv.w box_cheapest_m0_M
theorem knH:Good Tryz.prog 70 kkB:=(box_cheapest_C_ok.more kmD)
def knK:Ctr:=⟨ "",[Tj,Tj,(.sl tSwap),Tj],[tBill,Ti],λx=>kgt x.1 x.2.1 x.2.2.1 x.2.2.2,[],[]⟩
theorem kol:Good Tryz.prog 23 knK:=
 kac Tryz.func23 (by kernel_rfl) (An:=[(4,⟨⟨[(55,.c Ti),(13,.mp 3)],[(3,.mp Tn Ti)]⟩,⟨[(13,.mp 4)],[(4,.mp Tn Ti)]⟩,[54,53,1,2,10,8,3],[2,0,1],5,false,""⟩),(12,⟨⟨[(67,.c Ti),(13,.mp 4),(16,.mw 5)],[(4,.mp Tn Ti),(5,.sl 121 tLine)]⟩,⟨[(16,.mw 6)],[(6,.sl 121 tLine)]⟩,[66,65,2,1,10,8,3],[2,0,1],7,false,""⟩),(20,⟨⟨[(101,.c Ti)],[]⟩,⟨[],[]⟩,[100,99,10,22,8,23,3],[6,12,7,9,2,0,1,13],14,true,""⟩),(28,⟨⟨[(152,.c Ti),(8,.ptr 2 0),(22,.ptr 12 0)],[(2,.bx 43 [.mw 0,.mw 1,.c Ti]),(12,.bx 43 [.mw 7,.mw 9,.c Ti]),(9,.sl 50 Tm)]⟩,⟨[(22,.ptr 14 0),(8,.ptr 16 0)],[(14,.bx 43 [.mw 7,.mw 15,.c Ti]),(15,.sl 50 Tm),(16,.bx 43 [.mw 0,.mw 1,.c Ti])]⟩,[151,150,23],[13,0,1,7],17,true,""⟩),(4,⟨⟨[(55,.c Ti),(13,.mp 7)],[(7,.mp Tn Ti)]⟩,⟨[(13,.mp 8)],[(8,.mp Tn Ti)]⟩,[54,53,1,2,10,8,3],[3,4,5,6,2,0,1],9,false,""⟩),(12,⟨⟨[(67,.c Ti),(13,.mp 8),(16,.mw 9)],[(8,.mp Tn Ti),(9,.sl 121 tLine)]⟩,⟨[(16,.mw 10)],[(10,.sl 121 tLine)]⟩,[66,65,2,1,10,8,3],[3,4,5,6,2,0,1],11,false,""⟩),(20,⟨⟨[(101,.c Ti),(10,.ptr 3 0),(22,.ptr 16 0),(8,.ptr 2 0),(23,.mp 17)],[(3,.bx 134 [.c Tj,.mw 4,.fw 5,.mw 6]),(4,.sl 31 Tk),(5,.fm 31 Tk 0 3 Ti),(6,.sl 3 Ti),(16,.bx 43 [.mw 11,.mw 13,.c Ti]),(11,.sl 3 Ti),(2,.bx 43 [.mw 0,.mw 1,.c Ti]),(17,.mp Tn Ti)]⟩,⟨[(23,.mp 18),(8,.ptr 19 0),(22,.ptr 20 0)],[(18,.mp Tn Ti),(19,.bx 43 [.mw 0,.mw 1,.c Ti]),(20,.bx 43 [.mw 21,.mw 13,.c Ti]),(21,.sl 3 Ti)]⟩,[100,99,3],[10,13,0,1],22,true,""⟩),(114,⟨⟨[],[]⟩,⟨[(125,.c .b)],[]⟩,[26,25,8,22,23,101,10],[18,2,16,11,17,3,4,5,6],19,false,""⟩),(28,⟨⟨[(152,.c Ti),(8,.ptr 19 0),(22,.ptr 20 0)],[(19,.bx 43 [.mw 0,.mw 1,.c Ti]),(20,.bx 43 [.mw 21,.mw 13,.c Ti]),(13,.sl 50 Tm)]⟩,⟨[(22,.ptr 22 0),(8,.ptr 24 0)],[(22,.bx 43 [.mw 21,.mw 23,.c Ti]),(23,.sl 50 Tm),(24,.bx 43 [.mw 0,.mw 1,.c Ti])]⟩,[151,150,23],[18,0,1,21],25,true,""⟩)]) [(58,kkW),(70,kkB),(72,kbP),(73,knO),(69,kbj),(68,keR),(67,khd),(65,kos),(59,khx),(71,keR)] (.cons klq <| .cons knH <| .cons kdE <| .cons krN <| .cons kdS <| .cons kqy <| .cons kjG <| .cons kro <| .cons kiL <| .cons kec <| .nil) (λx=>by kernel_rfl)
def knr:Ctr:=⟨ "",[],[(.sl Tj)],λx=>law08_plans,[],[]⟩
theorem kqA:Good Tryz.prog 46 knr:=
 kac Tryz.func46 (by kernel_rfl) (An:=[]) [(43,kiE)] (.cons kiw <| .nil) (λx=>by kernel_rfl)
def kkC:Ctr:=⟨ "",[Ti],[.b],λx=>kmp x,[],[]⟩
theorem knB:Good Tryz.prog 107 kkC:=
 kac Tryz.func107 (by kernel_rfl) (An:=[]) [(66,kgy)] (.cons kfs <| .nil) (λx=>by kernel_rfl)
def kcB:Ctr:=⟨ "",[Tk,(.fn 1 Ti .b)],[Ti],λx=>kcU x.1 x.2,[],[]⟩
theorem kdO:Good Tryz.prog 86 kcB:=
 kac Tryz.func86 (by kernel_rfl) (An:=[(0,⟨⟨[(8,.c Ti)],[]⟩,⟨[],[]⟩,[7,1,0],[],0,true,""⟩)]) [] (.nil) (λx=>by kernel_rfl)
def kdN:Ctr:=⟨ "",[Tk,(.fn 1 Ti .b)],[.b],λx=>keC x.1 x.2,[],[]⟩
theorem kgQ:Good Tryz.prog 108 kdN:=
 kac Tryz.func108 (by kernel_rfl) (An:=[]) [(86,kcB)] (.cons kdO <| .nil) (λx=>by kernel_rfl)
def knw:Ctr:=⟨ "",[(.sl Tj),Tk],[Ti],λx=>kpy x.1 x.2,[],[]⟩
theorem kqo:Good Tryz.prog 74 knw:=
 kac Tryz.func74 (by kernel_rfl) (An:=[]) [(108,kdN),(107,kkC),(50,kcX)] (.cons kgQ <| .cons knB <| .cons kcz <| .nil) (λx=>by kernel_rfl)
def kny:Ctr:=⟨ "",[Ti,Ti],[Ti],λx=>kpT x.1 x.2,[],[]⟩
theorem kqP:Good Tryz.prog 53 kny:=
 kac Tryz.func53 (by kernel_rfl) (An:=[]) [] (.nil) (λx=>by kernel_rfl)
def knt:Ctr:=⟨ "",[Tm],[.b],λx=>kpA x,[],[]⟩
theorem kqS:Good Tryz.prog 55 knt:=
 kac Tryz.func55 (by kernel_rfl) (An:=[]) [] (.nil) (λx=>by kernel_rfl)
def kxE:Ctr:=⟨ "",[Tj,Tj],[Tj,Ti],λx=>kpV x.1 x.2,[],[]⟩
theorem box_Take_C_ok:Good Tryz.prog 17 kxE:=
 kac Tryz.func17 (by kernel_rfl) (An:=[]) [(55,knt),(53,kny),(51,kkz),(50,kcX),(54,kbj)] (.cons kqS <| .cons kqP <| .cons klw <| .cons kcz <| .cons kbR <| .nil) (λx=>by kernel_rfl)
def kdd:Ctr:=⟨ "",[Tj],[Tj],λx=>kaB x,[],[]⟩
theorem slices_Clone_s_api_Item_api_Item_C_ok:Good Tryz.prog 80 kdd:=
 kac Tryz.func80 (by kernel_rfl) (An:=[]) [] (.nil) (λx=>by kernel_rfl)
def growT:Ty:=.sl (.pr (.i .i64) (.pr (.i .u8) (.i .i64)))
abbrev GrowL:=List (Int×Int×Int)
def growA (x:GrowL):AV:=growT.av x
def growE (x:GrowL):Ya AV:=growT.enc x
def growY (y:Int×GrowL):Ya AV:=[.sc (.int .i64 y.1),growA y.2]
def growG (l:Nat) (A:AV):Nat->AV
 | 0=>.fn 110 [A,.fp [.sc (.func (.yield l) #[] #[])],.un]
 | d+1=>.fn 110 [A,.fp [.sc (.func (.yield l) #[] #[])],.fp [growG l A d]]
theorem kyd {l:Nat} {A:AV}:∀ d,(growG l A d).one=true
 | 0=>rfl
 | _+1=>rfl
theorem krm {l:Nat} {A:AV} (hA:Free A):∀ d,Free (growG l A d)
 | 0=>by
  simp only [growG,khT,kbW,kiW,ksh,kgm,and_true,true_and];exact ⟨hA,.un⟩
 | d+1=>by
  have:=krm (l:=l) hA d;simp only [growG,khT,kbW,kiW,ksh,kgm,and_true,true_and];exact ⟨hA,this⟩
theorem kib (x:GrowL):Free (growA x):=khL growT x rfl
theorem kyi {l p:GrowL} {r:GrowL×Int} (h:kpV l p=some r):PC Tryz.prog 17 [growA l,growA p] (·= .tp [growA r.1,.sc (.int .i64 r.2)]):=
 box_Take_C_ok.2.1 (l,p) r h _ ⟨_,_,rfl,(kdk rfl).2 rfl,_,rfl,(kdk rfl).2 rfl⟩
theorem kpL (a:Ya GrowL):Free (.sl (a.map growE)):=khL (.sl growT) a rfl
theorem krU (l:Nat) (m:Ya GrowL):∀ (d:Nat) (i s:Int) (x:GrowL) (n:Ya (Int×GrowL)),kcD d m i s x=some n->
  YV Tryz.prog l (growG l (.fp [.sl (m.map growE)]) d) [.sc (.int .i64 i),.sc (.int .i64 s),growA x] (n.map growY)
 | 0,i,s,x,n,h=>by cases h
 | d+1,i,s,x,n,h=>by
  refine YV.of_body (fn:=Tryz.f110) (rd:=9) Tryz.func110 rfl (by kernel_rfl) (by show 6<=49; omega) (by show 49<=9000000; omega) rfl λD G O k hD hl ok M=>?_;subst hl;have Q:=krm (l:=G.l) (A:=.fp [.sl (m.map growE)]) (by simpa using kpL m) d;have a:=kib x;let I:AV:=.sc (.int .i64 i)
  let S:AV:=.sc (.int .i64 s)
  let X:=growA x
  let A:AV:=.fp [.sl (m.map growE)]
  let R:AV:=.fp [growG G.l A d]
  refine Sat.ofL ?_;refine SatL.seq (SatL.rreg rfl ⟨.sc (.bool false),.assign rfl rfl,?_⟩);refine SatL.seq (SatL.seq (SatL.rreg rfl ⟨I,.move rfl rfl,_,.load rfl rfl (by kernel_rfl),_,.len rfl rfl rfl rfl rfl (by kernel_rfl),_,.bin rfl rfl rfl (λK g=>⟨rfl,g⟩),?_⟩));refine SatL.condX (v:=i==(m.map growE).length) rfl (λe=>?_) λe=>SatL.skip ?_
  ·have hi:i=lenI m:=by simpa [lenI] using e
   obtain rfl:[(s,x)]=n:=Option.some.inj ((if_pos hi).symm.trans h);refine SatL.seq (SatL.yreg 3 rfl hD ok rfl ⟨_,.load rfl rfl (by kernel_rfl),S,.move rfl rfl,X,.move rfl rfl,YieldK.of [] (z:=ah0) (es:=List.replicate k []) (avs:=[.sc (.int .i64 s),growA x]) (.inl rfl) rfl rfl .yield rfl (by simpa [growY] using M) (λq B h=>by cases h) (Snap.V (.free _ (.sc _))) (SnapL.free (show FreeL [S,X] by simp [S,X,a])) (λt C=>by cases C) (aopsR.plain ⟨.sc (.bool true),.assign rfl rfl,?_⟩) (aopsR.plain ⟨.sc (.bool false),.assign rfl rfl,?_⟩)⟩)
   ·exact SatL.ret ⟨.inr rfl,.inl ⟨_,rfl,by simp,rfl⟩⟩
   ·exact SatL.ret ⟨.inr rfl,.inr ⟨rfl,rfl⟩⟩
  have hi:¬ i=lenI m:=by simpa [lenI] using e
  replace h:=(if_neg hi).symm.trans h;obtain ⟨p,hp,h⟩:=jaa.1 h;obtain ⟨r,hr,h⟩:=jaa.1 h;obtain ⟨L,hp⟩:=klU hp;let Z:=growA r.1
  let E:AV:=.sc (.int .i64 r.2)
  refine SatL.seq (SatL.seq (SatL.rreg rfl ⟨X,.move rfl rfl,_,.load rfl rfl (by kernel_rfl),I,.move rfl rfl,_,.idx (e:=22) (c:=growE p) rfl rfl rfl (by kernel_rfl) L (by simp; exact ⟨p,hp,rfl⟩) (by kernel_rfl) (by simp [growE,growT,Ty.enc]),growA p,.load rfl rfl (by kernel_rfl),.tp [Z,E],.call rfl rfl rfl rfl (kyi hr) (show FreeL [X,growA p] by simp only [kbW,kgm,and_true]; exact ⟨a,kib p⟩),.tp [Z,E],.move rfl rfl,Z,.extract rfl rfl rfl,E,.extract rfl rfl rfl,Z,.assign rfl rfl,E,.assign rfl rfl,?_⟩));have w:∀ (es:Ya (Ya AV)) (f:Ya (Int×GrowL)) (env:Env),lk env GS = .gs es->lk env 0=I->lk env 1=S->lk env 2=X->lk env 5=R->kcD d m (w64 (i+1)) s x=some f->es.length+f.length=k+n.length->(∀ j,j<f.length->G.xs[es.length+j]?=(f.map growY)[j]?)->
    SatL Tryz.prog 49 D O [(Tryz.f110.body.getD .skip |> λc=>match c with | .seq _ (.seq _ (.seq _ c))=>c | c=>c)] (yvQ 9 (k+(n.map growY).length)) ⟨env,ah0,0⟩:=by
   intro es f env e1 e2 Y e4 e5 U y N;let o:AV:=.sc (.int .i64 (w64 (i+1)))
   refine SatL.seq (SatL.yreg 5 rfl hD ok rfl ⟨growG G.l A d,.load rfl (show deref ah0 (lk env 5)=_ by rw [e5]; rfl) (by kernel_rfl),I,.move rfl e2,o,.bin rfl rfl rfl (λK g=>⟨rfl,g⟩),S,.move rfl Y,X,.move rfl e4,
    YieldK.of [] (z:=ah0) (es:=es) (avs:=[o,S,X]) (.inl rfl) rfl rfl (krU G.l m d (w64 (i+1)) s x f U) e1 (by simpa using N) (λq B h=>by cases h) (Snap.V (.free _ Q)) (SnapL.free (show FreeL [o,S,X] by simp [o,S,X,a])) (λt C=>by cases C) (aopsR.plain ⟨.sc (.bool true),.assign rfl rfl,?_⟩) (aopsR.plain ⟨.sc (.bool false),.assign rfl rfl,?_⟩)⟩)
   ·exact SatL.ret ⟨.inr rfl,.inl ⟨_,rfl,by simp; omega,rfl⟩⟩
   ·exact SatL.ret ⟨.inr rfl,.inr ⟨rfl,rfl⟩⟩
  by_cases u:r.2=0
  ·rw [if_pos u] at h;obtain ⟨b,hb,h⟩:=jaa.1 h;obtain ⟨l1,T,h⟩:=jaa.1 h;obtain ⟨l2,P,h⟩:=jaa.1 h;obtain rfl:l1++l2=n:=Option.some.inj h;obtain rfl:w64 (1*2 ^ (min i.toNat 64))=b:=Option.some.inj ((if_pos L).symm.trans hb);have H:∀ j,j<l1.length+l2.length->G.xs[k+j]?=(l1.map growY++l2.map growY)[j]?:=λj F=>by
    rw [<-jcm];exact M j (by rw [jaq]; exact Nat.lt_of_lt_of_eq F jbh.symm)
   have y:(l1++l2).length=l1.length+l2.length:=jbh;let o:AV:=.sc (.int .i64 (w64 (i+1)))
   let W:AV:=.sc (.int .i64 (w64 (1*2 ^ (min i.toNat 64))))
   let J:AV:=.sc (.int .i64 (bitsI .or .i64 s (w64 (1*2 ^ (min i.toNat 64)))))
   refine SatL.seq (SatL.yregD 11 rfl hD ok (by kernel_rfl) (by kernel_rfl) (by kernel_rfl) (by kernel_rfl) rfl ⟨E,.move rfl rfl,.sc (.bool true),.bin rfl rfl rfl (λK g=>⟨rfl,by rw [u]; exact g⟩),.sc (.bool true),.move rfl rfl,growG G.l A d,.load rfl rfl (by kernel_rfl),I,.move rfl rfl,o,.bin rfl rfl rfl (λK g=>⟨rfl,g⟩),S,.move rfl rfl,I,.move rfl rfl,
    W,.bin rfl rfl rfl (λK g=>⟨L,g⟩),J,.bin rfl rfl rfl (λK g=>⟨rfl,g⟩),Z,.move rfl rfl,
    YieldK.of [0,1,2,5,31] (z:=ah0) (es:=List.replicate k []) (avs:=[o,J,Z]) (.inr ⟨_,_,_,rfl,rfl,rfl⟩) rfl rfl (krU G.l m d (w64 (i+1)) _ r.1 l1 T) rfl (λj F=>?_) (λq B h=>by cases h) (Snap.V (.free _ Q)) (SnapL.free (show FreeL [o,J,Z] by simp only [o,J,kbW,kgm,and_true,ksh,true_and]; exact kib r.1)) (λt C=>?_)
     (aopsR.plain ⟨.sc (.bool false),.not true rfl rfl rfl,.sc (.bool false),.pick rfl rfl rfl,?_⟩) (aopsR.plain ⟨.sc (.bool true),.not false rfl rfl rfl,.sc (.bool true),.pick rfl rfl rfl,?_⟩)⟩)
   ·rw [jaq] at F;rw [jdb,H j (by omega),jbo (by simpa using F)]
   ·simp only [jbq,List.not_mem_nil,or_false] at C;rcases C with rfl | rfl | rfl | rfl | rfl
    ·exact .sc _
    ·exact .sc _
    ·exact a
    ·show Free R;simp only [R,kiW,kbW,kgm,and_true];exact Q
    ·exact .sc _
   ·exact SatL.condF (v:=false) rfl rfl (SatL.skip (w _ l2 _ rfl rfl rfl rfl rfl P (by rw [jbh,jdb,jaq,y]; omega) (λj F=>by rw [jbh,jdb,jaq,jec,H _ (by omega),jcj (by simp),jaq,Nat.add_sub_cancel_left])))
   ·exact SatL.condT (v:=true) rfl rfl (SatL.seq (SatL.rreg rfl ⟨.sc (.bool false),.assign rfl rfl,SatL.ret ⟨.inr rfl,.inr ⟨rfl,rfl⟩⟩⟩))
  ·rw [if_neg u] at h;refine SatL.seq (SatL.rregD (by kernel_rfl) (by kernel_rfl) rfl ⟨E,.move rfl rfl,.sc (.bool false),.bin rfl rfl rfl (λK g=>⟨rfl,by rw [show (r.2==0)=false by simpa using u]; exact g⟩),.sc (.bool false),.move rfl rfl,.sc (.bool false),.pick rfl rfl rfl,?_⟩);exact SatL.condF (v:=false) rfl rfl (SatL.skip (w _ n _ rfl rfl rfl rfl rfl h (by simp) (by simpa using M)))
theorem kxy {x l:GrowL} (h:kaB x=some l):PC Tryz.prog 80 [growA x] (·= growA l):=
 slices_Clone_s_api_Item_api_Item_C_ok.2.1 x l h _ ⟨_,rfl,(kdk rfl).2 rfl⟩
def kme:CtrI:=⟨ "",[.pt (.sl growT),.pt growT],[.i .i64,growT],λx=>runI λo=>kiz o x.1 x.2⟩
theorem kxL {l:Nat} {A:AV} {h:AH} (hA:Free A) (e:h 0=some (.cells 1 161 [[.sc (.func (.yield l) #[] #[])]])) (g:h 1=some (.cells 1 162 [[.fn 110 [A,.own 0 0 0,.own 1 0 0]]])):∀ d,SnapV h (.fn 110 [A,.own 0 0 0,.own 1 0 0]) (growG l A d):=λd=>by
 have step:∀ R,SnapV h (.own 1 0 0) R->SnapV h (.fn 110 [A,.own 0 0 0,.own 1 0 0]) (.fn 110 [A,.fp [.sc (.func (.yield l) #[] #[])],R]):=λR hR=>.fn rfl λq c c' b a=>by
  match q,b,a with
  | 0,b,a=>cases b; cases a; exact Snap.V (.free _ hA)
  | 1,b,a=>cases b; cases a; exact SnapV.own1 e rfl (Snap.V (.free _ (.sc _)))
  | 2,b,a=>cases b; cases a; exact hR
  | q+3,b,a=>cases b
 induction d with
 | zero=>exact step _ .un
 | succ d f=>exact step _ (.own1 g (kyd d) f)
theorem kpk:GoodI Tryz.prog 109 kme:=by
 refine ⟨rfl,λx xs hF l hl=>?_⟩;obtain ⟨e,x⟩:=x;obtain ⟨a,l',rfl,u,a',rfl,f⟩:=hl;obtain rfl:=(kdk rfl).1 u;obtain rfl:=(kdk rfl).1 f;have hF:(kaB x).bind (λl=>kcD (e.length+1) e 0 0 l)=some xs:=by
  obtain ⟨s,E,h2⟩:=jaa.1 (show runI (λo=>kiz o e x)=some xs from hF);obtain ⟨ys,I,g⟩:=jaa.1 h2;split at g
  ·cases g; exact E
  ·cases g
 obtain ⟨c,p,w⟩:=jaa.1 hF;refine IT.of_body (fn:=Tryz.f109) Tryz.func109 rfl (by kernel_rfl) (by show 3<=10; omega) (by show 10<=9000000; omega) rfl λD G O hD r ok=>?_;have hA:Free (.fp [.sl (e.map growE)]):=by simpa using kpL e
 let Y:AV:=.sc (.func (.yield G.l) #[] #[])
 let A:AV:=.fp [.sl (e.map growE)]
 let F:AV:=.fn 110 [A,.own 0 0 0,.own 1 0 0]
 let m:AH:=updH ah0 0 (.cells 1 161 [[Y]])
 let i:AH:=updH m 1 (.cells 1 162 [[.sc .nilFunc]])
 let n:AH:=updH i 1 (.cells 1 162 [[F]])
 let e0:Env:=(GS,.gs [])::kar (.sc (.func (.yield G.l) #[] #[])::[(Ty.pt (.sl growT)).av e,(Ty.pt growT).av x])
 refine Sat.ofL (SatL.seq (Sat.region rfl (show SatL Tryz.prog 10 D O _ _ ⟨(3,.own 0 0 0)::e0,m,1⟩ from ?_)));refine SatL.seq (Sat.region rfl (aops.cons rfl<|aop.alloc (z:=[.sc .nilFunc]) rfl (by kernel_rfl) (show SatL Tryz.prog 10 D O _ _ ⟨(4,.own 1 0 0)::(3,.own 0 0 0)::e0,i,2⟩ from ?_)));refine SatL.seq (Sat.region rfl (aops.cons rfl<|aop.mkfn (v:=F) rfl rfl<|aops.cons rfl<|aop.store (id:=1) (k:=1) (T':=162) (a:=.sc .nilFunc) (b:=F) rfl rfl rfl rfl (by kernel_rfl) (show SatL Tryz.prog 10 D O _ _ ⟨(5,F)::(4,.own 1 0 0)::(3,.own 0 0 0)::e0,n,2⟩ from ?_)));let C:=growA c
 refine SatL.yregD 3 rfl hD ok (by kernel_rfl) (by kernel_rfl) (by kernel_rfl) (by kernel_rfl) rfl ⟨F,.load rfl rfl (by kernel_rfl),growA x,.load rfl rfl (by kernel_rfl),C,.call rfl rfl rfl rfl (kxy p) (show FreeL [growA x] by simpa using kib x),
  YieldK.of [] (z:=n) (es:=[]) (avs:=[.sc (.int .i64 0),.sc (.int .i64 0),C]) (.inl rfl) rfl rfl (krU G.l e (e.length+1) 0 0 c xs w) rfl (λj H=>?_) (λq B h=>h) (kxL hA rfl rfl _) (SnapL.free (show FreeL [.sc (.int .i64 0),.sc (.int .i64 0),C] by simpa using kib c)) (λt y=>by cases y) ?_ ?_⟩
 ·rw [r]; simp only [List.length_nil,jcf]; rfl
 ·exact ⟨.inl rfl,.inl ⟨_,rfl,rfl⟩⟩
 ·exact ⟨.inl rfl,.inr rfl⟩
def kgz:Ctr:=⟨ "",[],[],λ_=>none,[],[kme]⟩
theorem kgO:Good Tryz.prog 109 kgz:=good_dm.moreI kpk
def box_built_m0_M:CtrM:=⟨ "",[some Tj,some (.sl Tj)],⟨[],[]⟩,0,⟨[(1000000,.fn 109 [.ptr 0 0,.ptr 1 0])],[(0,.bx 54 [.c (.sl Tj)]),(1,.bx 22 [.c Tj])]⟩,2,1,λx=>kox x.1 x.2,false⟩
theorem kpi:box_built_m0_M.ok=true/\GoodM Tryz.prog 75 box_built_m0_M:=
 kan Tryz.func75 (by kernel_rfl) (An:=[]) [(109,kgz)] (.cons kgO <| .nil) (λx=>by kernel_rfl)
theorem box_built_C_ok:Good Tryz.prog 75 kbv:=good_dm
def knm:Ctr:=kbv.w box_built_m0_M
theorem kqk:Good Tryz.prog 75 knm:=(box_built_C_ok.more kpi)
def knx:Ctr:=⟨ "",[Ti,Tk],[Tk,Ti],λx=>kpR x.1 x.2,[],[]⟩
theorem kqD:Good Tryz.prog 76 knx:=
 kac Tryz.func76 (by kernel_rfl) (An:=[(0,⟨⟨[(12,.c Ti),(6,.mw 1),(7,.c Ti)],[(1,.sl 3 Ti)]⟩,⟨[(6,.mw 2),(7,.c Ti)],[(2,.sl 3 Ti)]⟩,[11,10,0],[],3,false,""⟩)]) [] (.nil) (λx=>by kernel_rfl)
def kfx:Ctr:=⟨ "",[Tk,Tk],[Ti],λx=>kgi x.1 x.2,[],[]⟩
theorem kiJ:Good Tryz.prog 79 kfx:=
 kac Tryz.func79 (by kernel_rfl) (An:=[(0,⟨⟨[(11,.c Ti)],[]⟩,⟨[],[]⟩,[10,9,1,0],[],0,true,""⟩)]) [(78,keF)] (.cons kff <| .nil) (λx=>by kernel_rfl)
def knY:Ctr:=⟨ "",[Tj,(.sl Tj),Tk],[kAq,Ti],λx=>kru x.1 x.2.1 x.2.2,[],[]⟩
theorem krl:Good Tryz.prog 28 knY:=
 kac Tryz.func28 (by kernel_rfl) (An:=[(73,⟨⟨[],[]⟩,⟨[(8,.c Ti)],[]⟩,[1,5,6,0],[0,3,1,2],5,false,""⟩),(0,⟨⟨[],[(9,.bx 57 [.c Tk,.c Ti,.c Tj])]⟩,⟨[],[(9,.bx 57 [.c Tk,.c Ti,.c Tj])]⟩,[29,9,6,5],[3,1,2,0],13,false,""⟩)]) [(79,kfx),(76,knx),(75,knm),(109,kgz),(80,kdd),(74,knw),(50,kcX),(77,kkO),(78,keF)] (.cons kiJ <| .cons kqD <| .cons kqk <| .cons kgO <| .cons slices_Clone_s_api_Item_api_Item_C_ok <| .cons kqo <| .cons kcz <| .cons kll <| .cons kff <| .nil) (λx=>by kernel_rfl)
def keO:CtrI:=⟨ "",[(.pt Tk)],[Ti],λx=>runI λo=>kez o x⟩
theorem khX:GoodI Tryz.prog 131 keO:=
 kzR Tryz.func131 (by kernel_rfl) (An:=[(0,⟨⟨[(7,.c Ti),(9000000,.gs Ti)],[]⟩,⟨[(9000000,.gs Ti)],[]⟩,[6,5],[],1,true,""⟩)]) [] (.nil) (λx=>by kernel_rfl)
def kaM:Ctr:=⟨ "",[],[],λ_=>none,[],[keO]⟩
theorem kaT:Good Tryz.prog 131 kaM:=good_dm.moreI khX
def slices_Values_s_int_int_m0_M:CtrM:=⟨ "",[some Tk],⟨[],[]⟩,0,⟨[(1000000,.fn 131 [.ptr 0 0])],[(0,.bx 31 [.c Tk])]⟩,1,1,λx=>kfq x,false⟩
theorem khZ:slices_Values_s_int_int_m0_M.ok=true/\GoodM Tryz.prog 118 slices_Values_s_int_int_m0_M:=
 kan Tryz.func118 (by kernel_rfl) (An:=[]) [(131,kaM)] (.cons kaT <| .nil) (λx=>by kernel_rfl)
theorem slices_Values_s_int_int_C_ok:Good Tryz.prog 118 kbv:=good_dm
def keY:Ctr:=kbv.w slices_Values_s_int_int_m0_M
theorem kis:Good Tryz.prog 118 keY:=(slices_Values_s_int_int_C_ok.more khZ)
def kjM:Ctr:=⟨ "",[(.i .u32)],[Ti],λx=>kqY x,[],[]⟩
theorem kmx:Good Tryz.prog 147 kjM:=
 kac Tryz.func147 (by kernel_rfl) (An:=[(17,⟨⟨[],[]⟩,⟨[(0,.c (.i .u32)),(2,.c Ti)],[]⟩,[],[],0,false,""⟩)]) [] (.nil) (λx=>by kernel_rfl)
def kjN:Ctr:=⟨ "",[(.i .u64)],[Ti],λx=>klj x,[],[]⟩
theorem kmU:Good Tryz.prog 148 kjN:=
 kac Tryz.func148 (by kernel_rfl) (An:=[(17,⟨⟨[],[]⟩,⟨[(0,.c (.i .u64)),(2,.c Ti)],[]⟩,[],[],0,false,""⟩),(33,⟨⟨[],[]⟩,⟨[(0,.c (.i .u64)),(2,.c Ti)],[]⟩,[],[],0,false,""⟩)]) [] (.nil) (λx=>by kernel_rfl)
def kiC:Ctr:=⟨ "",[(.i .u64)],[Ti],λx=>kjI x,[],[]⟩
theorem kjE:Good Tryz.prog 136 kiC:=
 kac Tryz.func136 (by kernel_rfl) (An:=[]) [(148,kjN),(147,kjM)] (.cons kmU <| .cons kmx <| .nil) (λx=>by kernel_rfl)
def kca:Ctr:=⟨ "",[Ti,Ti],[.b],λx=>kaR x.1 x.2,[],[]⟩
theorem kbL:Good Tryz.prog 144 kca:=
 kac Tryz.func144 (by kernel_rfl) (An:=[]) [(111,kiu)] (.cons kjp <| .nil) (λx=>by kernel_rfl)
def kgG:Ctr:=⟨ "",[Ti],[(.i .u64)],λx=>khO x,[],[]⟩
theorem kjL:Good Tryz.prog 150 kgG:=
 kac Tryz.func150 (by kernel_rfl) (An:=[]) [(136,kiC)] (.cons kjE <| .nil) (λx=>by kernel_rfl)
def slices_xorshift_Next_m0_M:CtrM:=⟨ "",[none],⟨[(0,.ptr 0 0)],[(0,.bx 202 [.c (.i .u64)])]⟩,1,⟨[(0,.ptr 0 0),(1000000,.c (.i .u64))],[(0,.bx 202 [.c (.i .u64)])]⟩,1,1,λx=>kgE x,false⟩
theorem kiS:slices_xorshift_Next_m0_M.ok=true/\GoodM Tryz.prog 151 slices_xorshift_Next_m0_M:=
 kan Tryz.func151 (by kernel_rfl) (An:=[]) [] (.nil) (λx=>by kernel_rfl)
theorem slices_xorshift_Next_C_ok:Good Tryz.prog 151 kbv:=good_dm
def kga:Ctr:=kbv.w slices_xorshift_Next_m0_M
theorem kjw:Good Tryz.prog 151 kga:=(slices_xorshift_Next_C_ok.more kiS)
def slices_order2Ordered_int_m0_M:CtrM:=⟨ "",[some Tk,some Ti,some Ti,none],⟨[(3,.ptr 0 0)],[(0,.bx 3 [.c Ti])]⟩,1,⟨[(3,.ptr 0 0),(1000000,.c Ti),(1000001,.c Ti)],[(0,.bx 3 [.c Ti])]⟩,1,2,λx=>kbQ x.1 x.2.1 x.2.2.1 x.2.2.2,false⟩
theorem khH:slices_order2Ordered_int_m0_M.ok=true/\GoodM Tryz.prog 154 slices_order2Ordered_int_m0_M:=
 kan Tryz.func154 (by kernel_rfl) (An:=[]) [(144,kca)] (.cons kbL <| .nil) (λx=>by kernel_rfl)
theorem slices_order2Ordered_int_C_ok:Good Tryz.prog 154 kbv:=good_dm
def keK:Ctr:=kbv.w slices_order2Ordered_int_m0_M
theorem khY:Good Tryz.prog 154 keK:=(slices_order2Ordered_int_C_ok.more khH)
def slices_medianOrdered_int_m0_M:CtrM:=⟨ "",[some Tk,some Ti,some Ti,some Ti,none],⟨[(4,.ptr 0 0)],[(0,.bx 3 [.c Ti])]⟩,1,⟨[(4,.ptr 0 0),(1000000,.c Ti)],[(0,.bx 3 [.c Ti])]⟩,1,1,λx=>kcJ x.1 x.2.1 x.2.2.1 x.2.2.2.1 x.2.2.2.2,false⟩
theorem khA:slices_medianOrdered_int_m0_M.ok=true/\GoodM Tryz.prog 153 slices_medianOrdered_int_m0_M:=
 kan Tryz.func153 (by kernel_rfl) (An:=[]) [(154,keK)] (.cons khY <| .nil) (λx=>by kernel_rfl)
theorem slices_medianOrdered_int_C_ok:Good Tryz.prog 153 kbv:=good_dm
def kcC:Ctr:=kbv.w slices_medianOrdered_int_m0_M
theorem kdL:Good Tryz.prog 153 kcC:=(slices_medianOrdered_int_C_ok.more khA)
def slices_medianAdjacentOrdered_int_m0_M:CtrM:=⟨ "",[some Tk,some Ti,none],⟨[(2,.ptr 0 0)],[(0,.bx 3 [.c Ti])]⟩,1,⟨[(2,.ptr 0 0),(1000000,.c Ti)],[(0,.bx 3 [.c Ti])]⟩,1,1,λx=>kbd x.1 x.2.1 x.2.2,false⟩
theorem kfk:slices_medianAdjacentOrdered_int_m0_M.ok=true/\GoodM Tryz.prog 152 slices_medianAdjacentOrdered_int_m0_M:=
 kan Tryz.func152 (by kernel_rfl) (An:=[]) [(153,kcC)] (.cons kdL <| .nil) (λx=>by kernel_rfl)
theorem slices_medianAdjacentOrdered_int_C_ok:Good Tryz.prog 152 kbv:=good_dm
def kcK:Ctr:=kbv.w slices_medianAdjacentOrdered_int_m0_M
theorem kfu:Good Tryz.prog 152 kcK:=(slices_medianAdjacentOrdered_int_C_ok.more kfk)
def kdM:Ctr:=⟨ "",[Tk,Ti,Ti],[Ti,Ti],λx=>keA x.1 x.2.1 x.2.2,[],[]⟩
theorem kgJ:Good Tryz.prog 141 kdM:=
 kac Tryz.func141 (by kernel_rfl) (An:=[(129,⟨⟨[(9,.ptr 0 0)],[(0,.bx 3 [.c Ti])]⟩,⟨[(9,.ptr 1 0),(11,.c Ti)],[(1,.bx 3 [.c Ti])]⟩,[8,0],[],2,false,""⟩),(137,⟨⟨[(9,.ptr 0 0)],[(0,.bx 3 [.c Ti])]⟩,⟨[(10,.c Ti),(11,.c Ti),(12,.c Ti),(9,.ptr 1 0)],[(1,.bx 3 [.c Ti])]⟩,[],[],2,false,""⟩)]) [(152,kcK),(153,kcC)] (.cons kfu <| .cons kdL <| .nil) (λx=>by kernel_rfl)
def slices_AppendSeq_s_int_int_m0_M:CtrM:=⟨ "",[none,none],⟨[(0,.mw 0),(1,.fn 131 [.ptr 1 0])],[(0,.sl 3 Ti),(1,.bx 31 [.c Tk])]⟩,2,⟨[(1000000,.mw 2)],[(2,.sl 3 Ti)]⟩,3,1,λx=>keB x.1 x.2,false⟩
theorem kgL:slices_AppendSeq_s_int_int_m0_M.ok=true/\GoodM Tryz.prog 134 slices_AppendSeq_s_int_int_m0_M:=
 kan Tryz.func134 (by kernel_rfl) (An:=[(0,⟨⟨[],[(2,.bx 31 [.mw 0]),(0,.sl 3 Ti)]⟩,⟨[],[(2,.bx 31 [.mw 5]),(5,.sl 3 Ti)]⟩,[6,2],[],6,false,""⟩)]) [(131,kaM),(109,kgz)] (.cons kaT <| .cons kgO <| .nil) (λx=>by kernel_rfl)
theorem slices_AppendSeq_s_int_int_C_ok:Good Tryz.prog 134 kbv:=good_dm
def kdZ:Ctr:=kbv.w slices_AppendSeq_s_int_int_m0_M
theorem kgU:Good Tryz.prog 134 kdZ:=(slices_AppendSeq_s_int_int_C_ok.more kgL)
def slices_Collect_int_m0_M:CtrM:=⟨ "",[none],⟨[(0,.fn 131 [.ptr 0 0])],[(0,.bx 31 [.c Tk])]⟩,1,⟨[(1000000,.mw 1)],[(1,.sl 3 Ti)]⟩,2,1,λx=>khN x,false⟩
theorem kjK:slices_Collect_int_m0_M.ok=true/\GoodM Tryz.prog 129 slices_Collect_int_m0_M:=
 kan Tryz.func129 (by kernel_rfl) (An:=[]) [(134,kdZ),(131,kaM)] (.cons kgU <| .cons kaT <| .nil) (λx=>by kernel_rfl)
theorem slices_Collect_int_C_ok:Good Tryz.prog 129 kbv:=good_dm
def khe:Ctr:=kbv.w slices_Collect_int_m0_M
theorem kkh:Good Tryz.prog 129 khe:=(slices_Collect_int_C_ok.more kjK)
def slices_insertionSortOrdered_int_m0_M:CtrM:=⟨ "",[none,some Ti,some Ti],⟨[(0,.mw 0)],[(0,.sl 3 Ti)]⟩,1,⟨[(0,.mw 0)],[(0,.sl 3 Ti)]⟩,1,0,λx=>kdc x.1 x.2.1 x.2.2,false⟩
theorem kfm:slices_insertionSortOrdered_int_m0_M.ok=true/\GoodM Tryz.prog 138 slices_insertionSortOrdered_int_m0_M:=
 kan Tryz.func138 (by kernel_rfl) (An:=[(0,⟨⟨[(6,.c Ti)],[(0,.sl 3 Ti)]⟩,⟨[],[(0,.sl 3 Ti)]⟩,[2,1],[],2,false,""⟩),(8,⟨⟨[(7,.c Ti)],[(0,.sl 3 Ti)]⟩,⟨[],[(0,.sl 3 Ti)]⟩,[6],[],2,false,""⟩)]) [(144,kca)] (.cons kbL <| .nil) (λx=>by kernel_rfl)
theorem slices_insertionSortOrdered_int_C_ok:Good Tryz.prog 138 kbv:=good_dm
def kcP:Ctr:=kbv.w slices_insertionSortOrdered_int_m0_M
theorem kfC:Good Tryz.prog 138 kcP:=(slices_insertionSortOrdered_int_C_ok.more kfm)
def slices_siftDownOrdered_int_m0_M:CtrM:=⟨ "",[none,some Ti,some Ti,some Ti],⟨[(0,.mw 0)],[(0,.sl 3 Ti)]⟩,1,⟨[(0,.mw 0)],[(0,.sl 3 Ti)]⟩,1,0,λx=>kcs x.1 x.2.1 x.2.2.1 x.2.2.2,false⟩
theorem kgS:slices_siftDownOrdered_int_m0_M.ok=true/\GoodM Tryz.prog 149 slices_siftDownOrdered_int_m0_M:=
 kan Tryz.func149 (by kernel_rfl) (An:=[(0,⟨⟨[(8,.c Ti)],[(0,.sl 3 Ti)]⟩,⟨[],[(0,.sl 3 Ti)]⟩,[2,3],[],2,true,""⟩),(14,⟨⟨[],[]⟩,⟨[(36,.c .b)],[]⟩,[9,8],[0],1,false,""⟩),(145,⟨⟨[],[]⟩,⟨[(9,.c Ti)],[]⟩,[8],[0],1,false,""⟩)]) [(144,kca)] (.cons kbL <| .nil) (λx=>by kernel_rfl)
theorem slices_siftDownOrdered_int_C_ok:Good Tryz.prog 149 kbv:=good_dm
def keb:Ctr:=kbv.w slices_siftDownOrdered_int_m0_M
theorem khg:Good Tryz.prog 149 keb:=(slices_siftDownOrdered_int_C_ok.more kgS)
def slices_heapSortOrdered_int_m0_M:CtrM:=⟨ "",[none,some Ti,some Ti],⟨[(0,.mw 0)],[(0,.sl 3 Ti)]⟩,1,⟨[(0,.mw 0)],[(0,.sl 3 Ti)]⟩,1,0,λx=>kew x.1 x.2.1 x.2.2,false⟩
theorem kgP:slices_heapSortOrdered_int_m0_M.ok=true/\GoodM Tryz.prog 139 slices_heapSortOrdered_int_m0_M:=
 kan Tryz.func139 (by kernel_rfl) (An:=[(0,⟨⟨[(9,.c Ti)],[(0,.sl 3 Ti)]⟩,⟨[],[(0,.sl 3 Ti)]⟩,[8,6,7],[],2,false,""⟩),(8,⟨⟨[(10,.c Ti)],[(0,.sl 3 Ti)]⟩,⟨[],[(0,.sl 3 Ti)]⟩,[6,7],[],3,false,""⟩)]) [(149,keb)] (.cons khg <| .nil) (λx=>by kernel_rfl)
theorem slices_heapSortOrdered_int_C_ok:Good Tryz.prog 139 kbv:=good_dm
def kee:Ctr:=kbv.w slices_heapSortOrdered_int_m0_M
theorem kgX:Good Tryz.prog 139 kee:=(slices_heapSortOrdered_int_C_ok.more kgP)
def slices_breakPatternsOrdered_int_m0_M:CtrM:=⟨ "",[none,some Ti,some Ti],⟨[(0,.mw 0)],[(0,.sl 3 Ti)]⟩,1,⟨[(0,.mw 0)],[(0,.sl 3 Ti)]⟩,1,0,λx=>kdj x.1 x.2.1 x.2.2,false⟩
theorem kft:slices_breakPatternsOrdered_int_m0_M.ok=true/\GoodM Tryz.prog 140 slices_breakPatternsOrdered_int_m0_M:=
 kan Tryz.func140 (by kernel_rfl) (An:=[(0,⟨⟨[(9,.c Ti),(7,.ptr 1 0)],[(1,.bx 202 [.c (.i .u64)]),(0,.sl 3 Ti)]⟩,⟨[],[(0,.sl 3 Ti)]⟩,[1,6,8],[],3,false,""⟩),(173,⟨⟨[],[]⟩,⟨[(10,.c Ti)],[]⟩,[9,7],[0,1],2,false,""⟩)]) [(151,kga),(150,kgG)] (.cons kjw <| .cons kjL <| .nil) (λx=>by kernel_rfl)
theorem slices_breakPatternsOrdered_int_C_ok:Good Tryz.prog 140 kbv:=good_dm
def kcO:Ctr:=kbv.w slices_breakPatternsOrdered_int_m0_M
theorem kfK:Good Tryz.prog 140 kcO:=(slices_breakPatternsOrdered_int_C_ok.more kft)
def slices_reverseRangeOrdered_int_m0_M:CtrM:=⟨ "",[none,some Ti,some Ti],⟨[(0,.mw 0)],[(0,.sl 3 Ti)]⟩,1,⟨[(0,.mw 0)],[(0,.sl 3 Ti)]⟩,1,0,λx=>kds x.1 x.2.1 x.2.2,false⟩
theorem kfI:slices_reverseRangeOrdered_int_m0_M.ok=true/\GoodM Tryz.prog 142 slices_reverseRangeOrdered_int_m0_M:=
 kan Tryz.func142 (by kernel_rfl) (An:=[(0,⟨⟨[(6,.c Ti),(7,.c Ti)],[(0,.sl 3 Ti)]⟩,⟨[],[(0,.sl 3 Ti)]⟩,[],[],2,false,""⟩)]) [] (.nil) (λx=>by kernel_rfl)
theorem slices_reverseRangeOrdered_int_C_ok:Good Tryz.prog 142 kbv:=good_dm
def kdf:Ctr:=kbv.w slices_reverseRangeOrdered_int_m0_M
theorem kfV:Good Tryz.prog 142 kdf:=(slices_reverseRangeOrdered_int_C_ok.more kfI)
def slices_partialInsertionSortOrdered_int_m0_M:CtrM:=⟨ "",[none,some Ti,some Ti],⟨[(0,.mw 0)],[(0,.sl 3 Ti)]⟩,1,⟨[(0,.mw 0),(1000000,.c .b)],[(0,.sl 3 Ti)]⟩,1,1,λx=>kcj x.1 x.2.1 x.2.2,false⟩
theorem kdQ:slices_partialInsertionSortOrdered_int_m0_M.ok=true/\GoodM Tryz.prog 143 slices_partialInsertionSortOrdered_int_m0_M:=
 kan Tryz.func143 (by kernel_rfl) (An:=[(0,⟨⟨[(8,.c Ti),(7,.c Ti)],[(0,.sl 3 Ti)]⟩,⟨[],[(0,.sl 3 Ti)]⟩,[2,1],[],2,true,""⟩),(8,⟨⟨[(7,.c Ti)],[]⟩,⟨[(7,.c Ti)],[]⟩,[8],[0],1,false,""⟩),(245,⟨⟨[],[(0,.sl 3 Ti)]⟩,⟨[],[(0,.sl 3 Ti)]⟩,[7,8],[],2,false,""⟩),(16,⟨⟨[(9,.c Ti)],[(0,.sl 3 Ti)]⟩,⟨[],[(0,.sl 3 Ti)]⟩,[],[],2,false,""⟩),(24,⟨⟨[(10,.c Ti)],[(0,.sl 3 Ti)]⟩,⟨[],[(0,.sl 3 Ti)]⟩,[8,7],[],3,false,""⟩)]) [(144,kca)] (.cons kbL <| .nil) (λx=>by kernel_rfl)
theorem slices_partialInsertionSortOrdered_int_C_ok:Good Tryz.prog 143 kbv:=good_dm
def kch:Ctr:=kbv.w slices_partialInsertionSortOrdered_int_m0_M
theorem kel:Good Tryz.prog 143 kch:=(slices_partialInsertionSortOrdered_int_C_ok.more kdQ)
def slices_partitionEqualOrdered_int_m0_M:CtrM:=⟨ "",[none,some Ti,some Ti,some Ti],⟨[(0,.mw 0)],[(0,.sl 3 Ti)]⟩,1,⟨[(0,.mw 0),(1000000,.c Ti)],[(0,.sl 3 Ti)]⟩,1,1,λx=>kcR x.1 x.2.1 x.2.2.1 x.2.2.2,false⟩
theorem kfl:slices_partitionEqualOrdered_int_m0_M.ok=true/\GoodM Tryz.prog 145 slices_partitionEqualOrdered_int_m0_M:=
 kan Tryz.func145 (by kernel_rfl) (An:=[(0,⟨⟨[(9,.c Ti),(10,.c Ti)],[(0,.sl 3 Ti)]⟩,⟨[(9,.c Ti)],[(0,.sl 3 Ti)]⟩,[1],[],2,false,""⟩),(8,⟨⟨[(9,.c Ti)],[]⟩,⟨[(9,.c Ti)],[]⟩,[10],[0],1,false,""⟩),(16,⟨⟨[(10,.c Ti)],[]⟩,⟨[(10,.c Ti)],[]⟩,[9],[0],1,false,""⟩)]) [(144,kca)] (.cons kbL <| .nil) (λx=>by kernel_rfl)
theorem slices_partitionEqualOrdered_int_C_ok:Good Tryz.prog 145 kbv:=good_dm
def kcL:Ctr:=kbv.w slices_partitionEqualOrdered_int_m0_M
theorem kfy:Good Tryz.prog 145 kcL:=(slices_partitionEqualOrdered_int_C_ok.more kfl)
def slices_partitionOrdered_int_m0_M:CtrM:=⟨ "",[none,some Ti,some Ti,some Ti],⟨[(0,.mw 0)],[(0,.sl 3 Ti)]⟩,1,⟨[(0,.mw 0),(1000000,.c Ti),(1000001,.c .b)],[(0,.sl 3 Ti)]⟩,1,2,λx=>keh x.1 x.2.1 x.2.2.1 x.2.2.2,false⟩
theorem kgA:slices_partitionOrdered_int_m0_M.ok=true/\GoodM Tryz.prog 146 slices_partitionOrdered_int_m0_M:=
 kan Tryz.func146 (by kernel_rfl) (An:=[(0,⟨⟨[(10,.c Ti)],[]⟩,⟨[(10,.c Ti)],[]⟩,[11,1],[0],1,false,""⟩),(8,⟨⟨[(11,.c Ti)],[]⟩,⟨[(11,.c Ti)],[]⟩,[10,1],[0],1,false,""⟩),(16,⟨⟨[(10,.c Ti),(11,.c Ti)],[(0,.sl 3 Ti)]⟩,⟨[(11,.c Ti)],[(0,.sl 3 Ti)]⟩,[1],[],2,false,""⟩),(24,⟨⟨[(10,.c Ti)],[]⟩,⟨[(10,.c Ti)],[]⟩,[11],[0],1,false,""⟩),(32,⟨⟨[(11,.c Ti)],[]⟩,⟨[(11,.c Ti)],[]⟩,[10],[0],1,false,""⟩)]) [(144,kca)] (.cons kbL <| .nil) (λx=>by kernel_rfl)
theorem slices_partitionOrdered_int_C_ok:Good Tryz.prog 146 kbv:=good_dm
def kdP:Ctr:=kbv.w slices_partitionOrdered_int_m0_M
theorem kgI:Good Tryz.prog 146 kdP:=(slices_partitionOrdered_int_C_ok.more kgA)
def kci (k:Nat):CtrM:=⟨ "",[none,some (.i .i64),some (.i .i64),some (.i .i64)],⟨[(0,.mw 0)],[(0,.sl 3 (.i .i64))]⟩,1,⟨[(0,.mw 0)],[(0,.sl 3 (.i .i64))]⟩,1,0,λx=>kco k x.1 x.2.1 x.2.2.1 x.2.2.2,false⟩
theorem kdF:∀ k,(kci k).ok=true/\GoodM Tryz.prog 135 (kci k)
 | 0=>kjY (by kernel_rfl) (λx=>rfl)
 | k+1=>kan Tryz.func135 (by kernel_rfl) (An:=[(0,⟨⟨[(2,.c (.i .i64)),(1,.c (.i .i64)),(3,.c (.i .i64)),(8,.c .b),(9,.c .b)],[(0,.sl 3 (.i .i64))]⟩,⟨[],[(0,.sl 3 (.i .i64))]⟩,[],[],1,true,""⟩),(141,⟨⟨[],[(0,.sl 3 (.i .i64))]⟩,⟨[(3,.c (.i .i64))],[(0,.sl 3 (.i .i64))]⟩,[1,2,8,9,10],[],2,false,""⟩),(201,⟨⟨[],[(0,.sl 3 (.i .i64))]⟩,⟨[(12,.c (.i .i64)),(11,.c (.i .i64))],[(0,.sl 3 (.i .i64))]⟩,[1,2,8,9,3,10],[],3,false,""⟩),(62,⟨⟨[],[]⟩,⟨[(68,.c .b)],[]⟩,[8,9,12,1,2,11,3,10],[0],3,false,""⟩),(273,⟨⟨[],[(0,.sl 3 (.i .i64))]⟩,⟨[],[(0,.sl 3 (.i .i64))]⟩,[1,2,11,3,8,9,10],[],4,true,""⟩),(70,⟨⟨[],[]⟩,⟨[(87,.c .b)],[]⟩,[1,11,2,3,8,9,10],[0],4,false,""⟩)]) ((135,⟨ "",[],[],λ_=>none,[kci k],[]⟩)::[(146,kdP),(145,kcL),(143,kch),(142,kdf),(140,kcO),(139,kee),(138,kcP),(141,kdM),(144,kca)]) (.cons (good_dm.more (kdF k)) <| .cons kgI <| .cons kfy <| .cons kel <| .cons kfV <| .cons kfK <| .cons kgX <| .cons kfC <| .cons kgJ <| .cons kbL <| .nil) (λx=>by kernel_rfl)
def slices_pdqsortOrdered_int_m0_M:CtrM:=⟨ "",[none,some Ti,some Ti,some Ti],⟨[(0,.mw 0)],[(0,.sl 3 Ti)]⟩,1,⟨[(0,.mw 0)],[(0,.sl 3 Ti)]⟩,1,0,λx=>keP x.1 x.2.1 x.2.2.1 x.2.2.2,false⟩
theorem kgT:slices_pdqsortOrdered_int_m0_M.ok=true/\GoodM Tryz.prog 135 slices_pdqsortOrdered_int_m0_M:=kdF 1000000
theorem slices_pdqsortOrdered_int_C_ok:Good Tryz.prog 135 kbv:=good_dm
def kex:Ctr:=kbv.w slices_pdqsortOrdered_int_m0_M
theorem khz:Good Tryz.prog 135 kex:=(slices_pdqsortOrdered_int_C_ok.more kgT)
def slices_Sort_s_int_int_m0_M:CtrM:=⟨ "",[none],⟨[(0,.mw 0)],[(0,.sl 3 Ti)]⟩,1,⟨[(0,.mw 0)],[(0,.sl 3 Ti)]⟩,1,0,λx=>kgj x,false⟩
theorem kiI:slices_Sort_s_int_int_m0_M.ok=true/\GoodM Tryz.prog 130 slices_Sort_s_int_int_m0_M:=
 kan Tryz.func130 (by kernel_rfl) (An:=[]) [(135,kex),(136,kiC)] (.cons khz <| .cons kjE <| .nil) (λx=>by kernel_rfl)
theorem slices_Sort_s_int_int_C_ok:Good Tryz.prog 130 kbv:=good_dm
def kfL:Ctr:=kbv.w slices_Sort_s_int_int_m0_M
theorem kiT:Good Tryz.prog 130 kfL:=(slices_Sort_s_int_int_C_ok.more kiI)
def slices_Sorted_int_m0_M:CtrM:=⟨ "",[none],⟨[(0,.fn 131 [.ptr 0 0])],[(0,.bx 31 [.c Tk])]⟩,1,⟨[(1000000,.mw 1)],[(1,.sl 3 Ti)]⟩,2,1,λx=>kio x,false⟩
theorem kkg:slices_Sorted_int_m0_M.ok=true/\GoodM Tryz.prog 117 slices_Sorted_int_m0_M:=
 kan Tryz.func117 (by kernel_rfl) (An:=[]) [(130,kfL),(129,khe),(131,kaM)] (.cons kiT <| .cons kkh <| .cons kaT <| .nil) (λx=>by kernel_rfl)
theorem slices_Sorted_int_C_ok:Good Tryz.prog 117 kbv:=good_dm
def khP:Ctr:=kbv.w slices_Sorted_int_m0_M
theorem kkM:Good Tryz.prog 117 khP:=(slices_Sorted_int_C_ok.more kkg)
def kqZ:Ctr:=⟨ "",[Tk,Ti],[.b],λx=>kuU x.1 x.2,[],[]⟩
theorem ktC:Good Tryz.prog 88 kqZ:=
 kac Tryz.func88 (by kernel_rfl) (An:=[(0,⟨⟨[(11,.c Ti)],[]⟩,⟨[],[]⟩,[10,9,0,1],[1],2,true,""⟩)]) [(117,khP),(118,keY),(131,kaM)] (.cons kkM <| .cons kis <| .cons kaT <| .nil) (λx=>by kernel_rfl)
def kkV:Ctr:=⟨ "",[Tk,(.pt Ti)],[.b],λx=>klY x.1 x.2,[],[]⟩
theorem knC:Good Tryz.prog 115 kkV:=
 kac Tryz.func115 (by kernel_rfl) (An:=[]) [(88,kqZ)] (.cons ktC <| .nil) (λx=>by kernel_rfl)
def kdI:Ctr:=⟨ "",[(.sl Tk),(.fn 1 Tk .b)],[Ti],λx=>kea x.1 x.2,[],[]⟩
theorem kgp:Good Tryz.prog 126 kdI:=
 kac Tryz.func126 (by kernel_rfl) (An:=[(0,⟨⟨[(8,.c Ti)],[]⟩,⟨[],[]⟩,[7,1,0],[],0,true,""⟩)]) [] (.nil) (λx=>by kernel_rfl)
def kcT:Ctr:=⟨ "",[(.sl Tk),(.fn 1 Tk .b)],[.b],λx=>kdq x.1 x.2,[],[]⟩
theorem kfF:Good Tryz.prog 114 kcT:=
 kac Tryz.func114 (by kernel_rfl) (An:=[]) [(126,kdI)] (.cons kgp <| .nil) (λx=>by kernel_rfl)
def kni:Ctr:=⟨ "",[(.sl Tk)],[.b],λx=>kpC x,[],[]⟩
theorem kqu:Good Tryz.prog 83 kni:=
 kac Tryz.func83 (by kernel_rfl) (An:=[]) [(114,kcT),(115,kkV),(66,kgy)] (.cons kfF <| .cons knC <| .cons kfs <| .nil) (λx=>by kernel_rfl)
def kjU:Ctr:=⟨ "",[(.i .u32),(.i .u32)],[(.i .u32),(.i .u32)],λx=>krn x.1 x.2,[],[]⟩
theorem kmI:Good Tryz.prog 127 kjU:=
 kac Tryz.func127 (by kernel_rfl) (An:=[]) [] (.nil) (λx=>by kernel_rfl)
def kjR:Ctr:=⟨ "",[(.i .u64),(.i .u64)],[(.i .u64),(.i .u64)],λx=>klv x.1 x.2,[],[]⟩
theorem knb:Good Tryz.prog 128 kjR:=
 kac Tryz.func128 (by kernel_rfl) (An:=[]) [] (.nil) (λx=>by kernel_rfl)
def klo:Ctr:=⟨ "",[(.i .u64),(.i .u64)],[(.i .u64),(.i .u64)],λx=>kng x.1 x.2,[],[]⟩
theorem koM:Good Tryz.prog 116 klo:=
 kac Tryz.func116 (by kernel_rfl) (An:=[]) [(128,kjR),(127,kjU)] (.cons knb <| .cons kmI <| .nil) (λx=>by kernel_rfl)
def kjT:Ctr:=⟨ "",[Ti,(.pt Tk)],[.b],λx=>klf x.1 x.2,[],[]⟩
theorem kmA:Good Tryz.prog 87 kjT:=
 kac Tryz.func87 (by kernel_rfl) (An:=[]) [] (.nil) (λx=>by kernel_rfl)
def kmr:Ctr:=⟨ "",[Ti,(.pt (.sl Tk)),(.pt Tk)],[Ti],λx=>kgn x.1 x.2.1 x.2.2,[],[]⟩
theorem kpq:Good Tryz.prog 85 kmr:=
 kac Tryz.func85 (by kernel_rfl) (An:=[]) [(87,kjT),(86,kcB)] (.cons kmA <| .cons kdO <| .nil) (λx=>by kernel_rfl)
def slices_Repeat_s_int_int_m0_M:CtrM:=⟨ "",[some Tk,some Ti],⟨[],[]⟩,0,⟨[(1000000,.mw 0)],[(0,.sl 3 Ti)]⟩,1,1,λx=>kfw x.1 x.2,false⟩
theorem khW:slices_Repeat_s_int_int_m0_M.ok=true/\GoodM Tryz.prog 84 slices_Repeat_s_int_int_m0_M:=
 kan Tryz.func84 (by kernel_rfl) (An:=[(41,⟨⟨[],[]⟩,⟨[],[]⟩,[0,1],[],1,false,""⟩),(18,⟨⟨[],[]⟩,⟨[(26,.c .b)],[]⟩,[5,6,0],[],1,false,""⟩),(105,⟨⟨[],[]⟩,⟨[],[]⟩,[6,0],[],1,false,""⟩),(0,⟨⟨[(8,.c Ti),(7,.mw 1)],[(1,.sl 3 Ti)]⟩,⟨[(7,.mw 2)],[(2,.sl 3 Ti)]⟩,[],[],3,false,""⟩)]) [(116,klo)] (.cons koM <| .nil) (λx=>by kernel_rfl)
theorem slices_Repeat_s_int_int_B32_ok:Good Tryz.prog 84 kbv:=good_dm
def keX:Ctr:=kbv.w slices_Repeat_s_int_int_m0_M
theorem kid:Good Tryz.prog 84 keX:=(slices_Repeat_s_int_int_B32_ok.more khW)
def kpN:Ctr:=⟨ "",[(.sl Tk)],[Tk,Ti],λx=>ktg x,[],[]⟩
theorem ksj:Good Tryz.prog 35 kpN:=
 kac Tryz.func35 (by kernel_rfl) (An:=[(0,⟨⟨[(25,.c Ti),(4,.ptr 5 0),(5,.fn 85 [.ptr 0 0,.ptr 5 0])],[(5,.bx 31 [.mw 3]),(3,.sl 3 Ti)]⟩,⟨[(4,.ptr 6 0)],[(6,.bx 31 [.mw 7]),(7,.sl 3 Ti)]⟩,[24,1],[0],8,false,""⟩),(8,⟨⟨[(4,.ptr 5 0),(5,.fn 85 [.ptr 0 0,.ptr 5 0])],[(5,.bx 31 [.mw 3]),(3,.sl 3 Ti)]⟩,⟨[(4,.ptr 6 0),(5,.fn 85 [.ptr 0 0,.ptr 6 0])],[(6,.bx 31 [.mw 7]),(7,.sl 3 Ti)]⟩,[6,25],[],8,false,""⟩),(16,⟨⟨[(36,.c Ti),(7,.c Ti)],[]⟩,⟨[(7,.c Ti)],[]⟩,[35,5,4],[5,3],6,false,""⟩),(24,⟨⟨[(9,.c Ti),(8,.mw 6)],[(6,.sl 3 Ti)]⟩,⟨[(8,.mw 7)],[(7,.sl 3 Ti)]⟩,[7,5,4],[5,3],8,false,""⟩),(32,⟨⟨[(59,.c Ti),(10,.mw 8)],[(8,.sl 3 Ti)]⟩,⟨[(10,.mw 9)],[(9,.sl 3 Ti)]⟩,[58,57,5,8,4],[7,5,3],10,false,""⟩),(40,⟨⟨[(72,.c Ti),(4,.ptr 5 0),(5,.fn 85 [.ptr 0 0,.ptr 5 0])],[(5,.bx 31 [.mw 3]),(3,.sl 3 Ti)]⟩,⟨[(4,.ptr 10 0),(5,.fn 85 [.ptr 0 0,.ptr 10 0])],[(10,.bx 31 [.mw 11]),(11,.sl 3 Ti)]⟩,[71,70,10],[7,9],12,false,""⟩)]) [(84,keX),(85,kmr),(83,kni)] (.cons kid <| .cons kpq <| .cons kqu <| .nil) (λx=>by kernel_rfl)
def kjS:Ctr:=⟨ "",[Tj,Tj],[.b],λx=>klm x.1 x.2,[],[]⟩
theorem knc:Good Tryz.prog 16 kjS:=
 kac Tryz.func16 (by kernel_rfl) (An:=[(0,⟨⟨[(5,.c Ti)],[]⟩,⟨[],[]⟩,[0,1],[],0,true,""⟩)]) [] (.nil) (λx=>by kernel_rfl)
def kky:Ctr:=⟨ "",[Tk,Tk],[.b],λx=>keJ x.1 x.2,[],[]⟩
theorem knJ:Good Tryz.prog 41 kky:=
 kac Tryz.func41 (by kernel_rfl) (An:=[(0,⟨⟨[(5,.c Ti)],[]⟩,⟨[],[]⟩,[0,1],[],0,true,""⟩)]) [] (.nil) (λx=>by kernel_rfl)
def kmo:Ctr:=⟨ "",[],[.b],λx=>knR,[],[]⟩
theorem kph:Good Tryz.prog 13 kmo:=
 kac Tryz.func13 (by kernel_rfl) (An:=[]) [(8000013,kbv),(8000017,kbv),(8000019,kbv),(8000036,kbv),(8000042,kbv),(8000044,kbv),(8000049,kbv),(8000050,kbv),(8000051,kbv),(8000052,kbv),(8000062,kbv),(8000078,kbv),(8000089,kbv),(8000103,kbv),(8000123,kbv),(41,kky),(16,kjS),(35,kpN),(28,knY),(46,knr),(23,knK),(19,krd),(45,knP),(44,kms),(15,ktt),(43,kiE)] (.cons kaE <| .cons kaE <| .cons kaE <| .cons kaE <| .cons kaE <| .cons kaE <| .cons kaE <| .cons kaE <| .cons kaE <| .cons kaE <| .cons kaE <| .cons kaE <| .cons kaE <| .cons kaE <| .cons kaE <| .cons knJ <| .cons knc <| .cons ksj <| .cons krl <| .cons kqA <| .cons kol <| .cons ktB <| .cons krA <| .cons kpu <| .cons kuV <| .cons kiw <| .nil) (λx=>by kernel_rfl)
def knh:Ctr:=⟨ "",[],[.b],λx=>law08_alive,[],[]⟩
theorem kqN:Good Tryz.prog 13 knh:=by
 have h:=kph;unfold kmo at h;rw [kzx] at h;exact h
def kdu:Ctr:=⟨ "",[Ti,Ti,Ti],[.b],λx=>kby x.1 x.2.1 x.2.2,[],[]⟩
theorem kde:Good Tryz.prog 63 kdu:=
 kac Tryz.func63 (by kernel_rfl) (An:=[]) [] (.nil) (λx=>by kernel_rfl)
def koj:Ctr:=⟨ "",[Tj],[.b],λx=>kir x,[],[]⟩
theorem krC:Good Tryz.prog 49 koj:=
 kac Tryz.func49 (by kernel_rfl) (An:=[(0,⟨⟨[(4,.c Ti),(3,.c Ti)],[]⟩,⟨[(3,.c Ti)],[]⟩,[0],[],0,false,""⟩)]) [(63,kdu)] (.cons kde <| .nil) (λx=>by kernel_rfl)
def knU:Ctr:=⟨ "",[(.sl Tj)],[.b],λx=>kkc x,[],[]⟩
theorem krr:Good Tryz.prog 14 knU:=
 kac Tryz.func14 (by kernel_rfl) (An:=[(0,⟨⟨[(7,.c Ti)],[]⟩,⟨[],[]⟩,[6,5],[],0,true,""⟩)]) [(49,koj)] (.cons krC <| .nil) (λx=>by kernel_rfl)
def kgr:Ctr:=⟨ "",[Ti,Tl],[.b],λx=>kcI x.1 x.2,[],[]⟩
theorem kgN:Good Tryz.prog 62 kgr:=
 kac Tryz.func62 (by kernel_rfl) (An:=[]) [(63,kdu)] (.cons kde <| .nil) (λx=>by kernel_rfl)
def kiU:Ctr:=⟨ "",[Ti,Tl,Ti,Tl],[.b],λx=>kdJ x.1 x.2.1 x.2.2.1 x.2.2.2,[],[]⟩
theorem kjQ:Good Tryz.prog 64 kiU:=
 kac Tryz.func64 (by kernel_rfl) (An:=[]) [] (.nil) (λx=>by kernel_rfl)
def knl:Ctr:=⟨ "",[Tj],[.b],λx=>khl x,[],[]⟩
theorem kqT:Good Tryz.prog 56 knl:=
 kac Tryz.func56 (by kernel_rfl) (An:=[(0,⟨⟨[(3,.c Ti)],[]⟩,⟨[],[]⟩,[0],[],0,true,""⟩)]) [(64,kiU),(62,kgr),(63,kdu)] (.cons kjQ <| .cons kgN <| .cons kde <| .nil) (λx=>by kernel_rfl)
def knq:Ctr:=⟨ "",[(.sl tSwap)],[.b],λx=>kfA x,[],[]⟩
theorem kpX:Good Tryz.prog 57 knq:=
 kac Tryz.func57 (by kernel_rfl) (An:=[(0,⟨⟨[(3,.c Ti)],[]⟩,⟨[],[]⟩,[0],[],0,true,""⟩)]) [(62,kgr)] (.cons kgN <| .nil) (λx=>by kernel_rfl)
def knk:Ctr:=⟨ "",[Tj,Tj,(.sl tSwap)],[.b],λx=>kji x.1 x.2.1 x.2.2,[],[]⟩
theorem kqe:Good Tryz.prog 18 knk:=
 kac Tryz.func18 (by kernel_rfl) (An:=[]) [(57,knq),(56,knl),(14,knU)] (.cons kpX <| .cons kqT <| .cons krr <| .nil) (λx=>by kernel_rfl)
def kly:Ctr:=⟨ "",[(.sl tSwap),Ti,Tl,Ti,Tl],[.b],λx=>kgk x.1 x.2.1 x.2.2.1 x.2.2.2.1 x.2.2.2.2,[],[]⟩
theorem kml:Good Tryz.prog 61 kly:=
 kac Tryz.func61 (by kernel_rfl) (An:=[(6,⟨⟨[],[]⟩,⟨[(19,.c .b)],[]⟩,[1,3,2,4,0],[],0,false,""⟩),(0,⟨⟨[(11,.c Ti)],[]⟩,⟨[],[]⟩,[0,1,2,3,4],[],0,true,""⟩)]) [] (.nil) (λx=>by kernel_rfl)
def klX:Ctr:=⟨ "",[Tj],[.b],λx=>kiv x,[],[]⟩
theorem kpo:Good Tryz.prog 22 klX:=
 kac Tryz.func22 (by kernel_rfl) (An:=[(0,⟨⟨[(3,.c Ti)],[]⟩,⟨[],[]⟩,[0],[],0,true,""⟩)]) [(64,kiU),(62,kgr),(63,kdu)] (.cons kjQ <| .cons kgN <| .cons kde <| .nil) (λx=>by kernel_rfl)
def klt:Ctr:=⟨ "",[Tj,Tj,(.sl tSwap),(.sl (.pr Ti (.pr Ti Ti)))],[.b],λx=>khp x.1 x.2.1 x.2.2.1 x.2.2.2,[],[]⟩
theorem koA:Good Tryz.prog 24 klt:=
 kac Tryz.func24 (by kernel_rfl) (An:=[(6,⟨⟨[],[]⟩,⟨[(9,.mw 0),(10,.mw 1)],[(0,.sl 3 Ti),(1,.sl 3 Ti)]⟩,[1,0,3,2],[],2,false,""⟩),(0,⟨⟨[(11,.c Ti),(9,.mw 0),(10,.mw 1)],[(0,.sl 3 Ti),(1,.sl 3 Ti)]⟩,⟨[],[]⟩,[3,1,0,2],[],2,true,""⟩),(34,⟨⟨[],[]⟩,⟨[(85,.c .b)],[]⟩,[11,12,9,10],[2,0,1],3,false,""⟩)]) [(61,kly),(63,kdu)] (.cons kml <| .cons kde <| .nil) (λx=>by kernel_rfl)
def knV:Ctr:=⟨ "",[Tj,(.sl (.pr Ti (.pr Ti Ti)))],[Tk],λx=>kjX x.1 x.2,[],[]⟩
theorem krI:Good Tryz.prog 25 knV:=
 kac Tryz.func25 (by kernel_rfl) (An:=[(0,⟨⟨[(13,.c Ti),(5,.mw 1)],[(1,.sl 3 Ti)]⟩,⟨[(5,.mw 2)],[(2,.sl 3 Ti)]⟩,[12,11],[],3,false,""⟩)]) [] (.nil) (λx=>by kernel_rfl)
def kkJ:Ctr:=⟨ "",[(.sl tSwap),Tj,Ti,Tl],[Ti],λx=>kcA x.1 x.2.1 x.2.2.1 x.2.2.2,[],[]⟩
theorem knI:Good Tryz.prog 26 kkJ:=
 kac Tryz.func26 (by kernel_rfl) (An:=[(0,⟨⟨[(10,.c Ti),(9,.c Ti)],[]⟩,⟨[(9,.c Ti)],[]⟩,[1,0,2,3],[],0,false,""⟩)]) [(61,kly)] (.cons kml <| .nil) (λx=>by kernel_rfl)
def knA:Ctr:=⟨ "",[Tj,Tj,(.sl tSwap),Tj,(.sl (.pr Ti (.pr Ti Ti)))],[.b],λx=>kgR x.1 x.2.1 x.2.2.1 x.2.2.2.1 x.2.2.2.2,[],[]⟩
theorem law08_BoxCheapest_C_ok:Good Tryz.prog 5 knA:=
 kac Tryz.func5 (by kernel_rfl) (An:=[(0,⟨⟨[(60,.c Ti),(14,.c Ti),(15,.c .b)],[]⟩,⟨[(15,.c .b),(14,.c Ti)],[]⟩,[59,58,2,3,1,13,11,12],[2],3,false,""⟩),(78,⟨⟨[],[]⟩,⟨[(10,.c .b)],[]⟩,[11,15],[],3,false,""⟩),(86,⟨⟨[],[]⟩,⟨[(10,.c .b)],[]⟩,[11,13],[],3,false,""⟩)]) [(26,kkJ),(25,knV),(24,klt),(22,klX),(18,knk),(13,knh),(23,knK)] (.cons knI <| .cons krI <| .cons koA <| .cons kpo <| .cons kqe <| .cons kqN <| .cons kol <| .nil) (λx=>by kernel_rfl)
end Go.Abs
namespace Go.Abs
open Go
abbrev It:=Int×Int×Int
def vP (x:It):Bool:=decide (0<=x.1)&&decide (x.1<=15)&&decide (x.2.1<=15)
def ltI (x y:It):Bool:=decide (x.1<y.1)||(x.1==y.1&&decide (x.2.1<y.2.1))
def okN (x:It):Bool:=decide (1<=x.2.2)&&decide (x.2.2<=1000)
def badI (l:Ya It) (i:Nat) (x:It):Bool:=!vP x||(decide (0<i)&&!ltI ((l[i-1]?).getD x) x)
def ordI (a b:Int×Int):Int:=if a.1<b.1 then -1 else if b.1<a.1 then 1 else if a.2<b.2 then -1 else if b.2<a.2 then 1 else 0
def stk (l:Ya It):Bool:=decide (l.length<=30)&&!(l.zipIdx.any λx=>badI l x.2 x.1)&&l.all okN
@[simp] theorem kei (n lo hi:Int):kby n lo hi=some (decide (lo<=n)&&decide (n<=hi)):=by
 unfold kby; by_cases h:lo<=n <;> simp [h]
@[simp] theorem kBq (lo hi n:Int):kgo lo hi n=some (decide (lo<=n)&&decide (n<=hi)):=by
 unfold kgo; by_cases h:lo<=n <;> simp [h]
@[simp] theorem kgM (x:It):kcc (x.1,x.2.1)=some (vP x):=by
 unfold kcc vP;by_cases a:0<=x.1 <;> by_cases h2:x.1<=15 <;> simp [a,h2]
@[simp] theorem kiA (x:It):kcI x.1 x.2.1=some (vP x):=by
 unfold kcI vP;by_cases a:0<=x.1 <;> by_cases h2:x.1<=15 <;> simp [a,h2]
@[simp] theorem klk (x y:It):kdJ x.1 x.2.1 y.1 y.2.1=some (ltI x y):=by
 unfold kdJ ltI;by_cases a:x.1<y.1
 ·simp [a]
 ·by_cases h2:x.1=y.1 <;> simp [a,h2]
def cmpI (a b:Int):Int:=if a<b then -1 else if b<a then 1 else 0
@[simp] theorem kxD (a b:Int):kcQ a b=some (cmpI a b):=by
 unfold kcQ kdV cmpI;by_cases c:a<b <;> by_cases h2:b<a <;> simp [c,h2]
@[simp] theorem kyp (a b:Int):kcQ a b=some (cmpI a b):=by
 unfold kcQ kdV cmpI;by_cases c:a<b <;> by_cases h2:b<a <;> simp [c,h2]
@[simp] theorem kyC (a b:Int):kie [a,b]=some (if a≠0 then a else b):=by
 unfold kie;rw [kej (F:=khs [a,b]) [a,b] (by simp) (λi x=>if x != 0 then some x else none) (λi hi=>by
  unfold khs;have h2:i<2:=by simpa using hi
  rw [if_pos (by rw [kaf]; simp; omega),kas hi,kax (by omega)];simp only [jab];by_cases h:([a,b][i] != 0)=true <;> simp [h,nextL]) (by unfold khs; rw [if_neg (by simp [kaf])])]
 simp only [jbj,List.zipIdx_nil,jdk,List.findSome?_nil];by_cases c:a=0
 ·by_cases e:b=0 <;> simp [c,e,endL]
 ·simp [c,endL]
theorem kkx (a b:Int×Int):kfb a b=some (ordI a b):=by
 unfold kfb ordI;simp only [kxD,kyp,jab,kyC,cmpI];by_cases c:a.1<b.1
 ·simp [c]
 ·by_cases h2:b.1<a.1 <;> simp [c,h2]
theorem kwD (x y:It):decide (0<=ordI (x.1,x.2.1) (y.1,y.2.1)) = !ltI x y:=by
 unfold ordI ltI;by_cases a:x.1<y.1
 ·simp [a]
 ·by_cases h2:y.1<x.1
  ·simp [a,h2]; omega
  ·have c:x.1=y.1:=by omega
   by_cases b:x.2.1<y.2.1
   ·simp [a,h2,c,b]
   ·by_cases e:y.2.1<x.2.1 <;> simp [a,h2,c,b,e]
theorem kyU {α:Type} (p q:α->Bool) (l:Ya α):(l.any λx=>p x||q x)=(l.any p||l.any q):=by
 induction l with
 | nil=>rfl
 | cons x l a=>simp only [jdq,a]; cases p x <;> cases q x <;> simp
theorem kss {α:Type} (q:α->Bool):∀ (l:Ya α) (k:Nat),((l.zipIdx k).any λx=>q x.1)=l.any q
 | [],k=>rfl
 | x::l,k=>by rw [jbj,jdq,jdq,kss q l (k+1)]
theorem kls {l:Ya It} {i:Nat} (hi:i<l.length) (x:It):(l[i-1]?).getD x=l[i-1]:=by rw [jae (by omega)]; rfl
theorem ksL (l:Ya It) (hl:l.length<=1000):kdn l 30 (λu=>(kbt u).bind λv=>some v)=some (!(l.zipIdx.any λx=>badI l x.2 x.1)&&decide (l.length<=30)):=by
 unfold kdn;rw [khK (F:=kct l _) false l (by omega) (badI l) (λi hi=>?_) (by unfold kct; rw [if_neg (by simp [kaf])])]
 ·by_cases h:(l.zipIdx.any λx=>badI l x.2 x.1)=true
  rotate_left
  ·rw [jbk] at h;simp only [h,jai,if_false,jab,jcz,jei,kaf];congr 2; simp only [eq_iff_iff]; omega
  ·simp [h]
 ·unfold kct;rw [if_pos (by rw [kaf]; simpa using hi),kas hi,kax (by omega)];simp only [jab,kbt,kgM,badI];by_cases b:vP l[i]=true
  rotate_left
  ·rw [jbk] at b; simp [b]
  ·simp only [b,jcg,jai,if_false,jcn];by_cases a:0<i
   ·rw [if_pos (by simpa using a),klu a (by omega),kas (by omega)];simp only [jab,kkx,kwD,kls hi,a,decide_true,jei];by_cases c:ltI l[i-1] l[i]=true <;> simp [c]
   ·have:i=0:=by omega
    subst this; simp
theorem kmb {α:Type} (p:α->Bool) (l:Ya α):(l.any λx=>!p x) = !l.all p:=by
 induction l with
 | nil=>rfl
 | cons x l a=>simp only [jdq,jed,a,Bool.not_and]
theorem kwe (l:Ya It) (hl:l.length<=1000) (p:It->Bool):kaz l (λx=>some (p x))=some (l.any p):=by
 unfold kaz kbD;rw [kej (F:=kaN l _) l (by omega) (λi x=>if p x then some (i:Int) else none) (λi hi=>by
  unfold kaN;rw [if_pos (by rw [kaf]; simpa using hi),kas hi,kax (by omega)];simp only [jab];by_cases h:p l[i]=true <;> simp [h,nextL]) (by unfold kaN; rw [if_neg (by simp [kaf])])]
 have:∀ (l:Ya It) (k:Nat),endL ((l.zipIdx k).findSome? λx=>if p x.1 then some (x.2:Int) else none)=(if l.any p then .inl ((k:Int)+(l.findIdx p:Nat)) else .inr ()):=by
  intro l;induction l with
  | nil=>intro k; rfl
  | cons x l a=>
   intro k;rw [jbj,jdk,jdq,List.findIdx_cons];cases hp:p x with
   | true=>simp [endL]
   | false=>
    simp only [jai,if_false,jcn,cond_false];rw [a (k+1)];congr 2; push_cast; omega
 rw [this l 0];by_cases h:l.any p=true <;> simp [h]
theorem kuX (l:Ya It) (hl:l.length<=1000):kjz l=some (if stk l then 0 else 8):=by
 unfold kjz;rw [ksL l hl];have e:(λf:It=>(kip f).bind λc=>some c)=λu=>some (!okN u):=by
  funext u; simp [kip,okN]
 rw [e,kwe l hl,kmb];simp only [jab,stk];by_cases b:(l.zipIdx.any λx=>badI l x.2 x.1)=true <;> by_cases h2:l.length<=30 <;> by_cases a:l.all okN=true <;> (try rw [jbk] at b) <;> (try rw [jbk] at a) <;> simp only [b,h2,a] <;> rfl
theorem ksG (l:Ya It):khl l=some (stk l):=by
 unfold khl stk;rw [kaf];by_cases hl:(30:Int)<l.length
 ·rw [if_pos (by simpa using hl)];have:¬ l.length<=30:=by omega
  simp [this]
 ·rw [if_neg (by simpa using hl)];have b:l.length<=30:=by omega
  rw [khK (F:=kgC l) false l (by omega) (λi x=>badI l i x||!okN x) (λi hi=>?_) (by unfold kgC; rw [if_neg (by simp [kaf])])]
  ·rw [kyU (λx:It×Nat=>badI l x.2 x.1) (λx=>!okN x.1),kss (λx=>!okN x),kmb];by_cases f:(l.zipIdx.any λx=>badI l x.2 x.1)=true <;> by_cases h2:l.all okN=true <;> simp [b,f,h2]
  ·unfold kgC;rw [if_pos (by rw [kaf]; simpa using hi),kas hi,kax (by omega)];simp only [jab,kiA,badI,kei];rw [show (decide (1<=l[i].2.2)&&decide (l[i].2.2<=1000))=okN l[i] from rfl];by_cases a:vP l[i]=true
   rotate_left
   ·rw [jbk] at a; simp [a]
   ·by_cases hn:okN l[i]=true
    rotate_left
    ·rw [jbk] at hn; simp [a,hn]
    ·simp only [a,hn,jcg,jai,if_false,jcn,Bool.or_false];by_cases c:0<i
     ·rw [if_pos (by simpa using c),klu c (by omega),kas (by omega)];simp only [jab,kls hi,c,decide_true,jei];rw [show kdJ l[i-1].1 l[i-1].2.1 l[i].1 l[i].2.1=_ from klk l[i-1] l[i]];simp only [jab];by_cases e:ltI l[i-1] l[i]=true <;> simp [e]
     ·have:i=0:=by omega
      subst this; simp
end Go.Abs
