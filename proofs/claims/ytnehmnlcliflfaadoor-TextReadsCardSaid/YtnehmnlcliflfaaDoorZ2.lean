/- The machinery, part 2. -/
import Derived.Orders
import Derived.Laws.Cover3
import Derived.Laws.StructEq
import Derived.RangeFuncKeeps
import Derived.Test.YtnehmnlcliflfaaDoorZ1
set_option linter.constructorNameAsVariable false
set_option linter.unusedVariables false
set_option linter.unusedSimpArgs false
set_option linter.unusedSectionVars false
namespace Go.Abs
open Go Go.RowKit
def HC (P:Ye) (f:FuncId) (args:Ya AV) (h:AH) (n:Nat) (R:K3):Prop:=
 (∃ fn,P.funcs[f]?=some fn/\fn.body.isSome=true/\(fn.name== "runtime.NumGoroutine")=false)/\
 ∀ (O:Nat->Prop) (μ:Mu) (w:World) (vs:Array Yd),HR w O μ h n->vs.size=args.length->(∀ (j:Nat) (c:AV),args[j]?=some c->∃ u,vs[j]?=some u/\VR w O μ n c u)->
  Calls P f vs w (λe w'=>∃ u v h' n' μ',e = .returned u/\R v h' n'/\HR w' O μ' h' n'/\VR w' O μ' n' v u/\Evo w μ n w' μ' n')
theorem HC.mono {P:Ye} {f:FuncId} {args:Ya AV} {h:AH} {n:Nat} {R m:K3} (i:HC P f args h n R) (hr:∀ v h' n',R v h' n'->m v h' n'):HC P f args h n m:=
 ⟨i.1,λO μ w vs y h2 I=>(i.2 O μ w vs y h2 I).mono λ_ _ ⟨u,v,h',n',μ',t,J,z⟩=>⟨u,v,h',n',μ',t,hr _ _ _ J,z⟩⟩
def callK (P:Ye) (h:AH) (n:Nat) (f:AV) (args:Ya AV) (K:K3):Prop:=
 match f with
 | .fn g i=>HC P g (args++i) h n K
 | _=>False
def kbB (P:Ye) (h:AH) (T:Yc) (x i:AV) (K:AV->Prop):Prop:=
 match i with
 | .sc (.int _ i)=>match x with
  | .sl es=>match elemO P T with
   | some e=>0<=i/\∃ c,es[i.toNat]?=some c/\c.length=P.cellsOf e/\c.length≠0/\K (.fp c)
   | none=>False
  | .ms id off len=>match elemO P T,h id with
   | some e,some (.cells k _ _)=>0<=i/\i<len/\k=P.cellsOf e/\k≠0/\K (.own id (off+i.toNat) 0)
   | _,_=>False
  | .own id a j=>match arrO P T,h id with
   | some (m,e),some (.cells _ _ _)=>0<=i/\i<m/\P.cellsOf e≠0/\K (.own id a (j+i.toNat*P.cellsOf e))
   | _,_=>False
  | .fp cs=>match arrO P T with
   | some (m,e)=>0<=i/\i<m/\P.cellsOf e≠0/\K (.fp (cs.drop (i.toNat*P.cellsOf e)))
   | none=>False
  | _=>False
 | _=>False
def idxK (P:Ye) (T:Yc) (x i:AV) (K:AV->Prop):Prop:=
 match i with
 | .sc (.int _ i)=>match x with
  | .ag cs=>match arrO P T with
   | some (m,e)=>0<=i/\i<m/\P.cellsOf e≠0/\partK P e cs (i.toNat*P.cellsOf e) K
   | none=>False
  | .sc (.string s)=>P.underlying T=some .string/\0<=i/\∃ b,s[i.toNat]?=some b/\K (.sc (.int .u8 b.toNat))
  | _=>False
 | _=>False
def putAt (e:Ya AV) (j:Nat) (xs:Ya AV):Ya AV:=
 match xs with
 | [x]=>e.set j x
 | xs=>e.take j++xs++e.drop (j+xs.length)
theorem kbh {e:Ya AV} {j:Nat} {xs:Ya AV} (h:j+xs.length<=e.length):putAt e j xs=e.take j++xs++e.drop (j+xs.length):=by
 unfold putAt;split
 ·simp only [List.length_singleton] at h;rw [List.set_eq_take_append_cons_drop,if_pos (by omega)];simp
 ·rfl
def kbl (P:Ye) (h:AH) (n:Nat) (T:Yc) (p x:AV) (K:K3):Prop:=
 match p with
 | .own id i j=>match h id,kax x with
  | some (.cells k T' es),some xs=>match es[i]? with
   | some e=>xs.length=P.cellsOf T/\xs.length≠0/\j+xs.length<=e.length/\K .ud (updH h id (.cells k T' (es.set i (putAt e j xs)))) n
   | none=>False
  | _,_=>False
 | _=>False
def liveA (h:AH):AV->Bool
 | .fp _ | .fn _ _=>true
 | .own id _ _=>isCells (h id)
 | _=>false
def kai (P:Ye) (env:Env) (h:AH) (n:Nat) (b:Builtin) (args:Array Yf) (ts:Array Yc) (K:K3):Prop:=
 match b,args.toList,ts.toList with
 | .len,[x],[T]=>lenK P h T (ev env x) λm=>K (.sc (.int .i64 m)) h n
 | .append,[s,x],[T,T2]=>kbm P h n T T2 (ev env s) (ev env x) K
 | .copy,[d,x],[T,T2]=>copyK P h n T (ev env d) (ev env x) K
 | .min,[x,y],_=>match ev env x,ev env y with
  | .sc (.int k i),.sc (.int k' j)=>k=k'/\K (.sc (.int k (if j<i then j else i))) h n
  | _,_=>False
 | .max,[x,y],_=>match ev env x,ev env y with
  | .sc (.int k i),.sc (.int k' j)=>k=k'/\K (.sc (.int k (if i<j then j else i))) h n
  | _,_=>False
 | .min,[x,y,q],_=>match ev env x,ev env y,ev env q with
  | .sc (.int k i),.sc (.int k' j),.sc (.int k'' l)=>(k=k'/\k=k'')/\K (.sc (.int k (if l<(if j<i then j else i) then l else (if j<i then j else i)))) h n
  | _,_,_=>False
 | .max,[x,y,q],_=>match ev env x,ev env y,ev env q with
  | .sc (.int k i),.sc (.int k' j),.sc (.int k'' l)=>(k=k'/\k=k'')/\K (.sc (.int k (if (if i<j then j else i)<l then l else (if i<j then j else i)))) h n
  | _,_,_=>False
 | _,_,_=>False
def convK (P:Ye) (S T:Yc) (x:AV) (K:AV->Prop):Prop:=
 match x with
 | .sc (.int _ i)=>match intO P T with
  | some t=>(P.underlying S).isSome=true/\K (.sc (.int t (t.wrap i)))
  | none=>∃ v,(∀ k w,(convert S T (.int k i)).run P w = .ok v w)/\v.oneCell'=true/\K (.sc v)
 | .sc u=>∃ v,(∀ w,(convert S T u).run P w = .ok v w)/\v.oneCell'=true/\K (.sc v)
 | .sl es=>(∃ e,elemO P S=some e/\P.underlying e=some (.int .u8))/\P.underlying T=some .string/\∃ m:Ya Int,es=m.map (λi=>[.sc (.int .u8 i)])/\K (.sc (.string ⟨(kcV m).toArray⟩))
 | _=>False
def unK (op:UnOp) (x:AV) (K:AV->Prop):Prop:=
 match op,x with
 | .not,.sc (.bool b)=>K (.sc (.bool (!b)))
 | .neg,.sc (.int k i)=>K (.sc (.int k (k.wrap (0-i))))
 | .xor,.sc (.int k i)=>K (.sc (.int k (bitsI .xor k (if k.signed then -1 else k.max) i)))
 | _,_=>False
def aop (P:Ye) (env:Env) (h:AH) (n:Nat) (o:Oper) (K:K3):Prop:=
 match o.op with
 | .move x=>K (ev env x) h n
 | .assign x=>K (ev env x) h n
 | .pick c a b=>match ev env c with
  | .sc (.bool t)=>K (if t then ev env a else ev env b) h n
  | _=>False
 | .alloc T=>match zeroO P T with
  | some z=>K (.own n 0 0) (updH h n (.cells z.length T [z])) (n+1)
  | none=>False
 | .box T x=>match kax (ev env x) with
  | some cs=>K (.own n 0 0) (updH h n (.cells cs.length T [cs])) (n+1)
  | none=>False
 | .load T x=>match deref h (ev env x) with
  | some cs=>loadK P h n T cs K
  | none=>False
 | .store T p x=>kbl P h n T (ev env p) (ev env x) K
 | .nilCheck x=>liveA h (ev env x)=true/\K (ev env x) h n
 | .binOp op T x y _=>abin P h op T (ev env x) (ev env y) λv=>K v h n
 | .unOp op _ x=>unK op (ev env x) λv=>K v h n
 | .convert S T x=>convK P S T (ev env x) λv=>K v h n
 | .makeFunc (.func f) first caps=>first = #[]/\K (.fn f (caps.toList.map (ev env))) h n
 | .makeSlice T x y=>match elemO P T with
  | some e=>match zeroO P e,ev env x,ev env y with
   | some z,.sc (.int _ i),.sc (.int _ j)=>0<=i/\i<=j/\j<=1048576/\P.bytesOf e<=1024/\z≠[]/\K (.ms n 0 i.toNat) (updH h n (.cells z.length e (List.replicate i.toNat z))) (n+1)
   | _,_,_=>False
  | none=>False
 | .slice T x J I none=>kcp P h T (ev env x) (J.map (ev env)) (I.map (ev env)) λv=>K v h n
 | .fieldAddr T x f=>match fldO P T f with
  | some (d,_)=>match ev env x with
   | .fp cs=>K (.fp (cs.drop d)) h n
   | .own id i j=>isCells (h id)=true/\K (.own id i (j+d)) h n
   | _=>False
  | none=>False
 | .field T x f=>match fldO P T f,ev env x with
  | some (d,t),.ag cs=>partK P t cs d λv=>K v h n
  | _,_=>False
 | .indexAddr T x i=>kbB P h T (ev env x) (ev env i) λv=>K v h n
 | .index T x i=>idxK P T (ev env x) (ev env i) λv=>K v h n
 | .extract x i=>match ev env x with
  | .tp cs=>∃ c,cs[i]?=some c/\K c h n
  | _=>False
 | .build T u=>match zeroO P T,kfZ P T with
  | some z,some pl=>match fillS pl env u.toList z with
   | some cs=>K (.ag cs) h n
   | none=>False
  | _,_=>False
 | .buildSlice T len u=>match elemO P T with
  | some e=>match zeroO P e with
   | some z=>len<=1000/\z.length<=1000/\match fillE z.length env u.toList (List.replicate len z) with
    | some es=>K (.ms n 0 len) (updH h n (.cells z.length e es)) (n+1)\/K (.sl es) h n\/(len=0/\K .e0 h n)
    | none=>False
   | none=>False
  | none=>False
 | .makeMap T none=>K (.mp n) (updH h n (.map [])) (n+1)
 | .lookup T m k ok=>ked P h T (ev env m) (ev env k) ok λv=>K v h n
 | .mapUpdate T m k x=>kdv P h n T (ev env m) (ev env k) (ev env x) K
 | .insert T m k x=>kdv P h n T (ev env m) (ev env k) (ev env x) K
 | .mapEntry T m k=>khN P h n T (ev env m) (ev env k) K
 | .entryStore T m st x=>kjx h n (ev env m) (ev env st) (ev env x) K
 | .range T x=>kjs P h n T (ev env x) K
 | .next x true=>nextK h n (ev env x) K
 | .next x false=>kmm h n (ev env x) K
 | .entry x=>kpG h n (ev env x) K
 | .call c=>match c.callee with
  | .builtin b=>kai P env h n b c.args c.argTypes K
  | .value f=>callK P h n (ev env f) (c.args.toList.map (ev env)) K
  | .invoke _ _=>False
 | _=>False
section
variable {P:Ye} {o:Oper} {a:Act} {w:World} {O:Nat->Prop} {μ:Mu} {h:AH} {n:Nat} {K:K3} {env:Env}
theorem klx {a:Act} {x:Next} {w':World} (h:(execOp a.eval o).run P w = .ok x w') (t:∀ d,x≠.defer d):∀ c,o.op≠.defer c:=λc m=>by
 unfold execOp at h;rw [m] at h;simp only [Sem.run_bind] at h;cases hr:(resolve a.eval c o.type).run P w with
 | ok d i=>rw [hr] at h; simp only [Result.andThen_ok,Sem.run_pure,Result.ok.injEq] at h; exact t d h.1.symm
 | halt e i=>rw [hr] at h; simp [Result.andThen] at h
def OpW (P:Ye) (o:Oper) (a:Act) (w:World) (O:Nat->Prop) (μ:Mu) (n:Nat) (K:K3):Prop:=
 ∀ (ro:Yb Nat) (next:Act->World->Prop) (Q:Exit->Act->World->Prop),(∀ u w' μ' v h' n',K v h' n'->HR w' O μ' h' n'->VR w' O μ' n' v u->Evo w μ n w' μ' n'->next (a.put o.dst u) w')->o.wpIn (FF ro) 0 P a w next Q
theorem OpR.toW (hR:OpR P o a w O μ n K):OpW P o a w O μ n K:=by
 obtain ⟨u,w',μ',v,h',n',i,m,t,h2,y⟩:=hR;intro ro next Q hn
 unfold Oper.wpIn;refine ⟨λ_ _=>trivial,?_⟩;rcases i with i | ⟨i,rfl⟩
 ·rw [Oper.semAt_eq _ _ _ (klx i λd e=>by cases e),i,Oper.uponIn_value]; exact hn u w' μ' v h' n' m t h2 y
 ·rw [Oper.semAt_eq _ _ _ (klx i λd e=>by cases e),i,Oper.uponIn_skip]; exact hn undef w' μ' v h' n' m t h2 y
theorem kuo {c:Call} {f:Yf} (ho:o.op = .call c) (hf:c.callee = .value f) (hr:HR w O μ h n) (hv:∀ x,VR w O μ n (ev env x) (a.eval x)) (J:callK P h n (ev env f) (c.args.toList.map (ev env)) K):OpW P o a w O μ n K:=by
 intro ro next Q hn
 unfold callK at J;have z:=hv f;generalize hu:a.eval f=u at z;split at J
 ·rename_i g ad S;rw [S] at z;obtain ⟨⟨fn,aa,m,i⟩,J⟩:=J;cases z with
  | fn _ _ vs us hs hc Z=>
   have t:(execOp a.eval o).run P w = .ok (.enter g (c.args.map a.eval++vs)) w:=by
    have hb:fn.body≠none:=by intro Y; rw [Y] at m; cases m
    have ac:fn.name≠ "runtime.NumGoroutine":=by intro ab; rw [ab] at i; simp at i
    simp [execOp,ho,resolve,hf,hu,Deferred.ofValue,invoke,callFunc,aa,ac,hb]
   unfold Oper.wpIn;refine ⟨λ_ _=>trivial,?_⟩;rw [Oper.semAt_eq _ _ _ (klx t λd e=>by cases e),t,Oper.uponIn_enter];refine ⟨(λe=>by cases e),callsIn_FF.2 ?_⟩;refine (J O μ w _ hr (by simp [hs]) (λj x I=>?_)).mono ?_
   ·rw [jbu] at I;rw [Array.getElem?_append];simp only [jbb,jcg,Array.size_map] at I ⊢;split at I
    ·rename_i X;rw [if_pos X];simp only [jas,jac,jcs] at I;obtain ⟨y,hy,rfl⟩:=I;exact ⟨a.eval y,by simp [hy],hv y⟩
    ·rename_i U;rw [if_neg U];exact ⟨_,hc _ x I,Z _ x I⟩
   ·rintro e w' ⟨u',v,h',n',μ',rfl,q1,q2,q3,q4⟩;exact hn u' w' μ' v h' n' q1 q2 q3 q4
 ·exact J.elim
theorem kjO (I:aop P env h n o K) (hr:HR w O μ h n) (X:∀ x,VR w O μ n (ev env x) (a.eval x)):OpW P o a w O μ n K:=by
 unfold aop at I;split at I
 ·rename_i x U; exact (kpF (.inl U) hr (X x) I).toW
 ·rename_i x U; exact (kpF (.inr U) hr (X x) I).toW
 ·rename_i c x y U;split at I
  ·rename_i t hc; have:=X c; rw [hc] at this; exact (ktN U hr this (X x) (X y) I).toW
  ·exact I.elim
 ·rename_i T U;split at I
  ·rename_i z hz; exact (ksI U hr hz I).toW
  ·exact I.elim
 ·rename_i T x U;split at I
  ·rename_i cs hc; exact (kuW U hr (X x) hc I).toW
  ·exact I.elim
 ·rename_i T x U;split at I
  ·rename_i cs hc; exact (kuE U hr (X x) hc I).toW
  ·exact I.elim
 ·rename_i T p x U;unfold kbl at I;split at I
  ·rename_i id i j hp;split at I
   ·rename_i k T' es xs hB Y;split at I
    ·rename_i e he;obtain ⟨h1,h2,h3,I⟩:=I;have:=X p; rw [hp] at this;rw [kbh h3] at I;exact (ksH U hr this hB he (X x) Y h1 h2 h3 I).toW
    ·exact I.elim
   ·exact I.elim
  ·exact I.elim
 ·rename_i x U;obtain ⟨hl,I⟩:=I;have Y:=X x;generalize ev env x=v at *
  cases v <;> simp only [liveA,jal] at hl
  ·obtain ⟨k,T,es,hB⟩:=kgn hl; exact (kkQ U hr hB Y I).toW
  ·exact (klB U hr Y I).toW
  ·exact (klN U hr Y I).toW
 ·rename_i op T x y T2 U; exact (ktr U hr (X x) (X y) I).toW
 ·rename_i op T x U;unfold unK at I;split at I
  ·rename_i b Y; have:=X x; rw [Y] at this; exact (kuV T U hr this I).toW
  ·rename_i k i Y; have:=X x; rw [Y] at this; exact (kvu T U hr this I).toW
  ·rename_i k i Y;have J:=X x; rw [Y] at J;refine (OpR.value hr (u:=.int k (bitsI .xor k (if k.signed then -1 else k.max) i)) ?_ (.sc _ rfl) I).toW;simp [execOp,U,J.int_inv,Op.unary,Op.intBits,bitsI]
  ·exact I.elim
 ·rename_i S T x U;unfold convK at I;split at I
  ·rename_i k i Y;have J:=X x; rw [Y] at J;split at I
   ·rename_i k' hT; exact (klJ U hr I.1 hT J I.2).toW
   ·obtain ⟨v,h1,h2,I⟩:=I; exact (khG U hr J (h1 k) h2 I).toW
  ·rename_i u Y ah;have J:=X x; rw [ah] at J;obtain ⟨v,h1,h2,I⟩:=I; exact (khG U hr J h1 h2 I).toW
  ·rename_i es Y;have J:=X x; rw [Y] at J;obtain ⟨⟨e,h1,h2⟩,h3,ns,rfl,I⟩:=I;exact (kkm U hr h1 h2 h3 J I).toW
  ·exact I.elim
 ·rename_i f first ak U
  obtain ⟨rfl,I⟩:=I;exact (kqh U hr X I).toW
 ·rename_i T x y U;split at I
  ·rename_i e he;split at I
   ·rename_i z k i k' j hz Y hy;obtain ⟨h0,ai,h1,hb,ad,I⟩:=I;have J:=X x; rw [Y] at J;have Z:=X y; rw [hy] at Z;exact (koe U hr he hz ad J Z h0 ai h1 hb I).toW
   ·exact I.elim
  ·exact I.elim
 ·rename_i T x lo hi U; exact (ktp U hr X I).toW
 ·rename_i T x f U;split at I
  ·rename_i d t hf;have J:=X x;split at I
   ·rename_i cs Y; rw [Y] at J; exact (kls U hr hf J I).toW
   ·rename_i id i j Y;rw [Y] at J;obtain ⟨hB,I⟩:=I;obtain ⟨k,T',es,hB⟩:=kgn hB;exact (kkj U hr hf hB J I).toW
   ·exact I.elim
  ·exact I.elim
 ·rename_i T x f U;split at I
  ·rename_i d t cs hf Y;have J:=X x; rw [Y] at J;exact (ktu U hr hf J I).toW
  ·exact I.elim
 ·rename_i T x i U;unfold kbB at I;split at I
  ·rename_i k i' hi;have ab:=X i; rw [hi] at ab;have J:=X x;split at I
   ·rename_i es Y;rw [Y] at J;split at I
    ·rename_i e he;obtain ⟨h0,c,hc,hl,ad,I⟩:=I;exact (klj U hr he J ab h0 hc hl ad I).toW
    ·exact I.elim
   ·rename_i id off len Y;rw [Y] at J;split at I
    ·rename_i e k T' es he hB;obtain ⟨h0,h1,h2,h3,I⟩:=I;exact (klm U hr he hB h2 h3 J ab h0 h1 I).toW
    ·exact I.elim
   ·rename_i id i0 j0 Y;rw [Y] at J;split at I
    ·rename_i m e k T' es he hB;obtain ⟨h0,h1,h2,I⟩:=I;exact (khT U hr he h2 hB J ab h0 h1 I).toW
    ·exact I.elim
   ·rename_i cs Y;rw [Y] at J;split at I
    ·rename_i m e he;obtain ⟨h0,h1,h2,I⟩:=I;exact (khZ U hr he h2 J ab h0 h1 I).toW
    ·exact I.elim
   ·exact I.elim
  ·exact I.elim
 ·rename_i T x i U;unfold idxK at I;split at I
  ·rename_i k i' hi;have ab:=X i; rw [hi] at ab;have J:=X x;split at I
   ·rename_i cs Y;rw [Y] at J;split at I
    ·rename_i m e he;obtain ⟨h0,h1,h2,I⟩:=I;exact (koi U hr he h2 J ab h0 h1 I).toW
    ·exact I.elim
   ·rename_i s Y;rw [Y] at J;obtain ⟨hT,h0,b,hb,I⟩:=I;exact (kor U hr hT J ab h0 hb I).toW
   ·exact I.elim
  ·exact I.elim
 ·rename_i x i U;split at I
  ·rename_i cs Y;obtain ⟨c,hc,I⟩:=I;have J:=X x; rw [Y] at J;exact (kqS U hr J hc I).toW
  ·exact I.elim
 ·rename_i T af U;split at I
  ·rename_i z pl hz hp;split at I
   ·rename_i cs hf; exact (ktc U hr X hz hp hf I).toW
   ·exact I.elim
  ·exact I.elim
 ·rename_i T len af U;split at I
  ·rename_i e he;split at I
   ·rename_i z hz;obtain ⟨h1,h2,I⟩:=I;split at I
    ·rename_i es hf;rcases I with I | I | ⟨rfl,I⟩
     ·exact (kmN U hr he X hz h1 h2 hf I).toW
     ·exact (klA U hr he X hz h1 h2 hf I).toW
     ·exact (kms U hr he X hz h2 hf I).toW
    ·exact I.elim
   ·exact I.elim
  ·exact I.elim
 ·rename_i T U; exact (kqV U hr I).toW
 ·rename_i T m k ok U; exact (krZ U hr (X m) (X k) I).toW
 ·rename_i T m k x U; exact (kiJ (.inl U) hr (X m) (X k) (X x) I).toW
 ·rename_i T m k x U; exact (kiJ (.inr U) hr (X m) (X k) (X x) I).toW
 ·rename_i T m k U; exact (kpa U hr (X m) (X k) I).toW
 ·rename_i T m st x U; exact (kmI U hr (X m) (X st) (X x) I).toW
 ·rename_i T x U; exact (ktM U hr (X x) I).toW
 ·rename_i x U; exact (kuh U hr (X x) I).toW
 ·rename_i x U; exact (ksK U hr (X x) I).toW
 ·rename_i x U; exact (ksJ U hr (X x) I).toW
 ·rename_i c U;split at I
  ·rename_i b hb;unfold kai at I;obtain ⟨callee,args,ts⟩:=c;simp only at hb I;subst hb;have aa:∀ {α:Type} {xs:Array α} {l:Ya α},xs.toList=l->xs=l.toArray:=λh=>by rw [<-h]
   split at I
   ·rename_i x T ha ht;rw [aa ha,aa ht] at U;exact (kvv U hr (X x) I).toW
   ·rename_i s x T T2 ha ht;rw [aa ha,aa ht] at U;exact (krV U hr (X s) (X x) I).toW
   ·rename_i d x T T2 ha ht;rw [aa ha,aa ht] at U;exact (ktR U hr (X d) (X x) I).toW
   ·rename_i ae x y ha;rw [aa ha] at U;split at I
    ·rename_i k i k' j Y hy;obtain ⟨rfl,I⟩:=I;have J:=X x; rw [Y] at J;have Z:=X y; rw [hy] at Z;exact ((klW hr J Z).1 U I).toW
    ·exact I.elim
   ·rename_i ae x y ha;rw [aa ha] at U;split at I
    ·rename_i k i k' j Y hy;obtain ⟨rfl,I⟩:=I;have J:=X x; rw [Y] at J;have Z:=X y; rw [hy] at Z;exact ((klW hr J Z).2 U I).toW
    ·exact I.elim
   ·rename_i ae x y q ha;rw [aa ha] at U;split at I
    ·rename_i k i k' j aj l Y hy hq;obtain ⟨⟨rfl,rfl⟩,I⟩:=I;have J:=X x; rw [Y] at J;have Z:=X y; rw [hy] at Z;have ac:=X q; rw [hq] at ac;exact ((kks hr J Z ac).1 U I).toW
    ·exact I.elim
   ·rename_i ae x y q ha;rw [aa ha] at U;split at I
    ·rename_i k i k' j aj l Y hy hq;obtain ⟨⟨rfl,rfl⟩,I⟩:=I;have J:=X x; rw [Y] at J;have Z:=X y; rw [hy] at Z;have ac:=X q; rw [hq] at ac;exact ((kks hr J Z ac).2 U I).toW
    ·exact I.elim
   ·exact I.elim
  ·rename_i f hf; exact kuo U hf hr X I
  ·exact I.elim
 ·exact I.elim
end
def putE (env:Env) (d:Yb Tmp) (v:AV):Env:=
 match d with
 | some d=>(d,v)::env
 | none=>env
def kba (ds:Ya (Yb Tmp)) (j:Nat):Yb Tmp:=(ds[j]?).bind id
def aops (P:Ye) (ds:Ya (Yb Tmp)):Ya Oper->St->(St->Prop)->Prop
 | [],st,K=>K st
 | o::r,st,K=>
  match o.guard with
  | none=>aop P st.env st.h st.n o (λv h n=>aops P ds r ⟨putE st.env o.dst v,h,n⟩ K)
  | some (j,want)=>match kba ds j with
   | some d=>match lk st.env d with
    | .sc (.bool b)=>(b=want->aop P ((d,.sc (.bool want))::st.env) st.h st.n o (λv h n=>aops P ds r ⟨putE ((d,.sc (.bool want))::st.env) o.dst v,h,n⟩ K))/\
      (b = !want->aops P ds r ⟨putE ((d,.sc (.bool (!want)))::st.env) o.dst .ud,st.h,st.n⟩ K)
    | .ud=>aops P ds r ⟨putE st.env o.dst .ud,st.h,st.n⟩ K
    | _=>False
   | none=>False
def kaY (N:Nat) (l:Ya Oper):Bool:=l.all λo=>match o.dst with | some d=>decide (d<N) | none=>true
section
variable {P:Ye} {N:Nat} {D:DX} {O:Nat->Prop} {Q:Exit->St->Prop} {st:St}
theorem SR.putE {μ μ':Mu} {a:Act} {w w':World} {h':AH} {n':Nat} {u:Yd} {v:AV} (m:SR N D O μ st a w) (hr:HR w' O μ' h' n') (i:Evo w μ st.n w' μ' n') (y:VR w' O μ' n' v u) (d:Yb Tmp) (t:∀ x,d=some x->x<N) :
  SR N D O μ' ⟨Abs.putE st.env d v,h',n'⟩ (a.put d u) w':=by
 cases d with
 | none=>exact m.step hr i
 | some d=>exact m.put hr i y d (t d rfl)
theorem kcy {μ:Mu} {a:Act} {w:World} (S:SR N D O μ st a w) {l:Ya Oper} {j d:Nat} (i:kba (l.map (·.dst)) j=some d) {v:AV} (J:lk st.env d=v):(∀ b,v = .sc (.bool b)->yielded l.toArray a.tmps j=some b)/\(v = .ud->yielded l.toArray a.tmps j=none):=by
 unfold kba at i;simp only [jas] at i;cases hl:l[j]? with
 | none=>simp [hl] at i
 | some o=>
  simp [hl] at i;have y:=S.env d;rw [J] at y;constructor
  ·rintro b rfl;have t:=y.bool_inv;unfold yielded;have m:d<a.tmps.size:=by
    rcases jbz d a.tmps.size with h | h
    ·exact h
    ·simp [jag,jeb h,undef] at t
   simp only [jca,hl,jab,i];rw [jao m];rw [jag,jao m] at t;simp only [jcc] at t;rw [t]
  ·rintro rfl;have z:a.tmps.getD d undef=undef:=by
    generalize a.tmps.getD d undef=u at y;cases y; rfl
   unfold yielded;simp only [jca,hl,jab,i];cases I:a.tmps[d]? with
   | none=>rfl
   | some u=>
    rw [jag,I] at z;simp only [jcc] at z;rw [z];rfl
theorem SR.again {μ:Mu} {a:Act} {w:World} (i:SR N D O μ st a w) {d:Nat} {v:AV} (t:lk st.env d=v):SR N D O μ ⟨(d,v)::st.env,st.h,st.n⟩ a w:=by
 have m:∀ s,lk ((d,v)::st.env) s=lk st.env s:=λs=>by
  simp only [lk]; split
  ·rename_i e; subst e; exact t.symm
  ·rfl
 refine ⟨i.hr,i.size,i.defers,λs=>?_,i.gs,i.gi.evo i.hr.refl λ_=>.inl (m GS)⟩;show VR w O μ st.n (lk ((d,v)::st.env) s) _;rw [m s]; exact i.env s
def wpL (ro:Yb Nat) (P:Ye) (ops:Array Oper) (Q:Exit->Act->World->Prop):Ya Oper->Act->World->Prop
 | [],a,w=>Q .normal a w
 | o::r,a,w=>if Region.wanted o (yielded ops a.tmps) then o.wpIn (FF ro) 0 P a w (wpL ro P ops Q r) Q else wpL ro P ops Q r (a.put o.dst undef) w
theorem kuM {ro:Yb Nat} {ops:Array Oper} {Q:Exit->Act->World->Prop} (l:Ya Oper):∀ k,(∀ j,l[j]?=ops[k+j]?)->∀ a w,wpL ro P ops Q l a w->wpOpsIn (FF ro) 0 P ops Q (List.range' k l.length) a w:=by
 induction l with
 | nil=>intro k _ a w h; exact h
 | cons o l u=>
  intro k h a w i;have y:ops[k]?=some o:=by simpa using (h 0).symm
  have m:=u (k+1) (λj=>by have:=h (j+1); simpa [jef,Nat.add_comm 1 j] using this);simp only [jbt,List.range'_succ,wpOpsIn,y];unfold wpL at i;split
  ·rename_i t; rw [if_pos t] at i; exact Oper.wpIn_mono (λa w=>m a w) i
  ·rename_i t; rw [if_neg t] at i; exact ⟨λ_ _=>trivial,m _ _ i⟩
theorem kis {ro:Yb Nat} {id:Nat} {l:Ya Oper} {Q:Exit->Act->World->Prop} {a:Act} {w:World} (h:wpL ro P l.toArray Q l a w):(Code.region id l.toArray false).wpIn (FF ro) 0 P Q a w:=
 wpIn_region (by
  rw [List.range_eq_range'];have:=kuM (ops:=l.toArray) l 0 (by simp) a w h;simpa using this)
theorem kcN {ro:Yb Nat} {l r2:Ya Oper}:∀ (r:Ya Oper) (st:St) {μ:Mu} {a:Act} {w:World} {K:St->Prop} {Q':Exit->Act->World->Prop},kaY N r=true->SR N D O μ st a w->aops P (l.map (·.dst)) r st K->
  (∀ I μ' a' w',K I->SR N D O μ' I a' w'->Evo w μ st.n w' μ' I.n->wpL ro P l.toArray Q' r2 a' w')->wpL ro P l.toArray Q' (r++r2) a w
 | [],st,μ,a,w,K,Q',_,t,i,hq=>hq st μ a w i t t.hr.refl
 | o::r,st,μ,a,w,K,Q',hd,t,i,hq=>by
  simp only [kaY,jdx,jad] at hd;have U:∀ x,o.dst=some x->x<N:=λx hx=>by have:=hd.1; rw [hx] at this; simpa using this
  have S:kaY N r=true:=hd.2;have run:∀ env,SR N D O μ ⟨env,st.h,st.n⟩ a w->aop P env st.h st.n o (λv h n=>aops P (l.map (·.dst)) r ⟨Abs.putE env o.dst v,h,n⟩ K)->o.wpIn (FF ro) 0 P a w (wpL ro P l.toArray Q' (r++r2)) Q':=λenv t i=>by
   refine kjO i t.hr (λx=>t.ev x) _ _ _ ?_;intro u w' μ' v h' n' ac aa ab X;exact kcN r ⟨Abs.putE env o.dst v,h',n'⟩ S (t.putE aa X ab o.dst U) ac λz μ2 a2 w2 k2 s2 e2=>hq z μ2 a2 w2 k2 s2 (X.trans e2)
  have skip:∀ env,SR N D O μ ⟨env,st.h,st.n⟩ a w->aops P (l.map (·.dst)) r ⟨Abs.putE env o.dst .ud,st.h,st.n⟩ K->wpL ro P l.toArray Q' (r++r2) (a.put o.dst undef) w:=λenv t i=>
   kcN r ⟨Abs.putE env o.dst .ud,st.h,st.n⟩ S (t.putE t.hr t.hr.refl .ud o.dst U) i λz μ2 a2 w2 k2 s2 e2=>hq z μ2 a2 w2 k2 s2 e2
  simp only [aops] at i;show wpL ro P l.toArray Q' (o::(r++r2)) a w;unfold wpL;cases J:o.guard with
  | none=>
   simp only [J] at i;rw [if_pos (by simp [Region.wanted,J])];exact run st.env t i
  | some jw=>
   obtain ⟨j,y⟩:=jw;simp only [J] at i;cases hj:kba (l.map (·.dst)) j with
   | none=>simp only [hj] at i
   | some d=>
    simp only [hj] at i;cases m:lk st.env d with
    | ud=>
     obtain ⟨_,g2⟩:=kcy t hj m;simp only [m] at i;rw [if_neg (by simp [Region.wanted,J,g2 rfl])];exact skip st.env t i
    | sc v=>
     cases v with
     | bool b=>
      obtain ⟨g1,_⟩:=kcy t hj m;simp only [m] at i;have hy:=g1 b rfl;by_cases Z:b=y
      ·rw [if_pos (by simp [Region.wanted,J,hy,Z])];exact run _ (t.again (by rw [m,Z])) (i.1 Z)
      ·have Y:b = !y:=by cases b <;> cases y <;> simp_all
       rw [if_neg (by simp [Region.wanted,J,hy,Z])];exact skip _ (t.again (by rw [m,Y])) (i.2 Y)
     | _=>simp only [m] at i
    | _=>simp only [m] at i
theorem Sat.region {id:Nat} {l:Ya Oper} (m:kaY N l=true) (h:aops P (l.map (·.dst)) l st (Q .normal)):Sat P N D O (.region id l.toArray false) Q st:=by
 intro O1 o ro μ a w _ t;have:=kcN (ro:=ro) (l:=l) (r2:=[]) l st (Q':=Post N D O Q μ w st.n) m t h ?_
 ·rw [jbf] at this; exact kis this
 exact λi μ' a' w' k s e=>⟨i,μ',O1,o,k,s,e.d⟩
def kcd (P:Ye) (h:AH) (env:Env):ResultVar->Yb AV
 | .tmp t=>some (lk env t)
 | .cell x T=>match deref h (lk env x) with
  | some cs=>match aggO P T with
   | some true=>if P.cellsOf T<=cs.length then some (.ag (cs.take (P.cellsOf T))) else none
   | some false=>cs[0]?
   | none=>none
  | none=>none
def kaZ (P:Ye) (h:AH) (env:Env) (rs:Ya ResultVar):Yb AV:=
 match rs.mapM (kcd P h env) with
 | some [v]=>some v
 | some vs=>some (.tp vs)
 | none=>none
def kar (args:Ya AV):Env:=args.zipIdx.map λ(v,i)=>(i,v)
theorem kos (args:Ya AV):∀ (k s:Nat),lk ((args.zipIdx k).map λ(v,i)=>(i,v)) s=if k<=s then (args[s-k]?).getD .un else .un:=by
 induction args with
 | nil=>intro k s; simp [lk]
 | cons v args m=>
  intro k s;simp only [jct,jat,lk];rw [m];by_cases h:s=k
  ·subst h; simp
  ·rw [if_neg h];by_cases h2:k<=s
   ·rw [if_pos h2,if_pos (by omega),show s-k=(s-(k+1))+1 by omega,jch]
   ·rw [if_neg h2,if_neg (by omega)]
def resS (tmps:Array Yd):ResultVar->Sem Yd
 | .tmp t=>pure (tmps.getD t undef)
 | .cell x T=>do loadVar T (<-asAddr (tmps.getD x undef))
theorem ksu (fn:Func) (tmps:Array Yd):results fn tmps=(do
  let vs<-fn.results.mapM (resS tmps)
  pure (if h:vs.size=1 then vs[0] else .tuple vs)):=by
 unfold results;congr 1
theorem ksi {μ:Mu} {a:Act} {w:World} (S:SR N D O μ st a w) {J:ResultVar} {v:AV} (h:kcd P st.h st.env J=some v) :
  ∃ u,(resS a.tmps J).run P w = .ok u w/\VR w O μ st.n v u:=by
 cases J with
 | tmp t=>simp only [kcd,Option.some.injEq] at h; subst h; exact ⟨_,rfl,S.env t⟩
 | cell x T=>
  simp only [kcd] at h;split at h
  ·rename_i cs X;obtain ⟨b,off,hv,y⟩:=kkq S.hr (S.env x) X;simp only [resS,hv];split at h
   ·rename_i m;split at h
    ·rename_i aa;cases h;obtain ⟨i,Z⟩:=kec m;obtain ⟨vals,I,h2,U,Y⟩:=(y.take (P.cellsOf T)).vals;have z:vals.length=P.cellsOf T:=by rw [I,jbh]; omega
     refine ⟨.agg vals.toArray,?_,VR.ag_of I (λj c hj=>(y.take (P.cellsOf T) j c hj).1) Y⟩;simp only [asAddr,pure_bind,loadVar,Sem.run_bind,kcJ m,Result.andThen_ok,if_true,kaB Z,kcT h2 z,Sem.run_pure]
    ·cases h
   ·rename_i m;obtain ⟨I,u,h2,U⟩:=y 0 v h;simp only [Nat.add_zero] at h2;exact ⟨u,by simp [asAddr,loadVar,kcJ m,h2],U⟩
   ·cases h
  ·cases h
theorem kkp {μ:Mu} {a:Act} {w:World} (Y:SR N D O μ st a w) {fn:Func} {v:AV} (h:kaZ P st.h st.env fn.results.toList=some v):∃ u,(results fn a.tmps).run P w = .ok u w/\VR w O μ st.n v u:=by
 have step:∀ (rs:Ya ResultVar) (vs:Ya AV),rs.mapM (kcd P st.h st.env)=some vs->∃ us:Ya Yd,us.length=vs.length/\(rs.mapM (resS a.tmps):Sem (Ya Yd)).run P w = .ok us w/\
   ∀ (j:Nat) (c:AV),vs[j]?=some c->∃ u,us[j]?=some u/\VR w O μ st.n c u:=by
  intro rs;induction rs with
  | nil=>intro vs h; simp at h; subst h; exact ⟨[],rfl,by simp,λj c t=>by simp at t⟩
  | cons rv rs ih=>
   intro vs h;simp only [jdw,Option.bind_eq_bind,jaa,Option.pure_def,Option.some.injEq] at h;obtain ⟨v,Z,X,m,rfl⟩:=h;obtain ⟨u,z,i⟩:=ksi Y Z;obtain ⟨us,I,h2,J⟩:=ih X m;refine ⟨u::us,by simp [I],?_,λj c t=>?_⟩
   ·simp only [jdw,Sem.run_bind,h2,z,Result.andThen_ok,Sem.run_pure]
   ·cases j with
    | zero=>simp at t; subst t; exact ⟨u,rfl,i⟩
    | succ j=>simpa using J j c (by simpa using t)
 unfold kaZ at h;have fin:∀ {us:Ya Yd},(fn.results.toList.mapM (resS a.tmps):Sem (Ya Yd)).run P w = .ok us w->
   (results fn a.tmps).run P w = .ok (match us with | [u]=>u | us=>.tuple us.toArray) w:=by
  intro us U;rw [ksu];have:(fn.results.mapM (resS a.tmps):Sem (Array Yd)).run P w = .ok us.toArray w:=by
   rw [Array.mapM_eq_mapM_toList];simp only [Sem.run_map,U,Result.andThen_ok]
  rw [Sem.run_bind];rw [this];simp only [Result.andThen_ok];match us with
  | []=>simp
  | [u]=>simp
  | u::v::us=>simp
 split at h
 ·rename_i v' m;cases h;obtain ⟨us,I,h2,J⟩:=step _ _ m;obtain ⟨u,z⟩:∃ u,us=[u]:=by
   match us,I with
   | [u],_=>exact ⟨u,rfl⟩
  subst z;refine ⟨u,fin h2,?_⟩;obtain ⟨u',S,i⟩:=J 0 v rfl;simp at S; subst S; exact i
 ·rename_i vs y m;cases h;obtain ⟨us,I,h2,J⟩:=step _ _ m;refine ⟨_,fin h2,?_⟩;have:(match us with | [u]=>u | us=>Value.tuple us.toArray) = .tuple us.toArray:=by
   match us,vs,I,y with
   | [],_,_,_=>rfl
   | [u],[v],_,y=>exact absurd rfl (y v)
   | u::v::us,_,_,_=>rfl
  rw [this];refine .tp vs us.toArray (λj=>us.getD j undef) (by simpa using I) (λj c t=>?_) (λj c t=>?_)
  ·obtain ⟨u,z,_⟩:=J j c t; simp [z,List.getD]
  ·obtain ⟨u,z,i⟩:=J j c t; simpa [z,List.getD] using i
 ·cases h
theorem VR.putObj {w:World} {μ:Mu} {m:Nat} {b:Nat} {o:Obj} (Y:Obj) (hb:w.heap[b]?=some o) (z:∀ c T f,o≠.cells c T f) {a:AV} {v:Yd} (J:VR w O μ m a v):VR (w.putObj b Y) O μ m a v:=by
 have hh:∀ {b':Nat} {c:Array Yd} {T:Yc} {f:Nat×Nat},w.heap[b']?=some (.cells c T f)->(w.putObj b Y).heap[b']?=some (.cells c T f):=λ{b' c T f} h=>by
  by_cases e:b'=b
  ·subst e; rw [hb] at h; cases h; exact absurd rfl (z _ _ _)
  ·exact (World.putObj_heap_other e).trans h
 have y:∀ {b' k:Nat} {u:Yd},w.cell? ⟨b',k,none⟩=some u->(w.putObj b Y).cell? ⟨b',k,none⟩=some u:=λh=>by
  obtain ⟨c,T,f,t,h2⟩:=cell_heap.1 h;exact cell_heap.2 ⟨c,T,f,hh t,h2⟩
 induction J with
 | sc v t=>exact .sc v t
 | ud=>exact .ud
 | gs es=>exact .gs es
 | un v=>exact .un v
 | e0 p=>exact .e0 p
 | own id i j v h t J=>exact .own id i j v h t J
 | ms id off len v h t J=>
  refine .ms id off len v h t λb k e=>?_;obtain ⟨o,cap,c,T,g1,g2,g3,g4,g5,g6⟩:=J b k e;exact ⟨o,cap,c,T,g1,g2,g3,g4,hh g5,g6⟩
 | mp id v h t J=>exact .mp id v h t J
 | fp cs b o us hA z t _ I=>exact .fp cs b o us hA (λj c Z=>y (z j c Z)) t I
 | slnil p=>exact .slnil p
 | sl es b o cap k us S U hA hk z t _ I=>exact .sl es b o cap k us S U hA hk (λi e hi j c Z=>y (z i e hi j c Z)) t I
 | fn f cs vs us X z _ I=>exact .fn f cs vs us X z I
 | ag cs vs us X z t _ I=>exact .ag cs vs us X z t I
 | tp cs vs us X z _ I=>exact .tp cs vs us X z I
theorem HR.putObj {w:World} {μ:Mu} {h:AH} {m:Nat} (hr:HR w O μ h m) {b:Nat} {o:Obj} (S:Obj) (z:w.heap[b]?=some o) (U:∀ c T f,o≠.cells c T f) (I:∀ id k,μ id≠some (b,k)):HR (w.putObj b S) O μ h m:=by
 refine ⟨⟨λb' aa=>by rw [World.putObj_size]; exact hr.olt.lt b' aa,λb' x e=>by
  have p2:=hr.olt.pin b' x e;by_cases q:b'=b
  ·subst q; obtain ⟨c,T,f,hx,_⟩:=p2; rw [z] at hx; cases hx; exact absurd rfl (U _ _ _)
  ·rw [World.putObj_heap_other q]; exact p2⟩,λid b k e=>by rw [World.putObj_size]; exact hr.scope id b k e,hr.inj,hr.notO,λid B hB=>?_⟩
 have:=hr.blk id B hB;cases B with
 | cells k T es=>
  obtain ⟨b',c,t,h2,y⟩:=this;refine ⟨b',c,t,(World.putObj_heap_other (by rintro rfl; exact I id k t)).trans h2,λi e J=>⟨(y i e J).1,λj a hj=>?_⟩⟩;obtain ⟨X,u,Y,h6⟩:=(y i e J).2 j a hj;exact ⟨X,u,Y,h6.putObj S z U⟩
 | map ab=>
  obtain ⟨b',es,t,h2,y,X⟩:=this;refine ⟨b',es,t,(World.putObj_heap_other (by rintro rfl; exact I id 0 t)).trans h2,y,λi x J=>?_⟩;obtain ⟨e,Y,h6,h7,h8,h9⟩:=X i x J;exact ⟨e,Y,h6,h7,h8,h9.putObj S z U⟩
 | si s pos=>
  obtain ⟨b',t,h2⟩:=this;exact ⟨b',t,(World.putObj_heap_other (by rintro rfl; exact I id 0 t)).trans h2⟩
 | mi ac Z seen=>
  obtain ⟨b',bm,t,h2,y⟩:=this;exact ⟨b',bm,t,(World.putObj_heap_other (by rintro rfl; exact I id 0 t)).trans h2,y.putObj S z U⟩
theorem Evo.putObj {w0 w:World} {μ0 μ:Mu} {n0 n1:Nat} (e:Evo w0 μ0 n0 w μ n1) {b:Nat} (u:Obj) (I:w0.heap.size<=b):Evo w0 μ0 n0 (w.putObj b u) μ n1:=by
 have t:∀ b',b'<w0.heap.size->(w.putObj b u).heap[b']?=w.heap[b']?:=λb' h=>World.putObj_heap_other (by omega);refine ⟨e.os,e.tape,e.output,by rw [World.putObj_size]; exact e.size,e.le,λb' m h2=>(t b' m).trans (e.keep b' m h2),λb' c T f i z=>?_,e.ids,e.new⟩;obtain ⟨y,m,h2⟩:=e.row b' c T f i z;exact ⟨y,(t b' (jaj.1 i).1).trans m,h2⟩
theorem kpg {fn:Func} {v:AV} {R:Ending->World->Prop} {w0:World} {μ0 μ:Mu} {n0:Nat} {i:St} {a':Act} {w':World} (Y:kaZ P i.h i.env fn.results.toList=some v) (J:SR N ⟨w0.heap.size,none⟩ O μ i a' w') (y:Evo w0 μ0 n0 w' μ i.n)
  (hR:∀ m u,HR m O μ i.h i.n->VR m O μ i.n v u->Evo w0 μ0 n0 m μ i.n->R (.returned u) m):LeavesInM (FF none) 0 P fn a'.tmps R a'.defers .returning w':=by
 obtain ⟨_,_,bs,hn,U,z⟩:=J.defers;have key:∀ (bs:Ya Nat) (m:World),bs.Nodup->(∀ b∈bs,w0.heap.size<=b/\m.heap[b]?=some (.deferred (some []))/\∀ id k,μ id≠some (b,k))->HR m O μ i.h i.n->(∀ s,VR m O μ i.n (lk i.env s) (a'.tmps.getD s undef))->Evo w0 μ0 n0 m μ i.n->
   LeavesInM (FF none) 0 P fn a'.tmps R (bs.map (λb=>({ target:=.collected b,args:=#[] }:Deferred))) .returning m:=by
  intro bs;induction bs with
  | nil=>
   intro m _ _ hr S y;obtain ⟨u,Z,X⟩:=kkp (N:=a'.tmps.size) (D:=⟨0,none⟩) (a:={ tmps:=a'.tmps,defers:=[] }) ⟨hr,rfl,.nil _ _ _ (jdq _),S,(λe=>by cases e),trivial⟩ Y;exact ⟨u,Z,hR m u hr X y⟩
  | cons b bs ih=>
   intro m hn z hr S y;obtain ⟨g1,I,g3⟩:=z b (by simp);rw [jdg] at hn;refine ⟨by simp,.inl ⟨b,_,rfl,run_takeDeferred I,?_⟩⟩;refine ih _ hn.2 (λb' t=>?_) (hr.putObj _ I (by simp) g3) (λs=>(S s).putObj _ I (by simp)) (y.putObj _ g1);obtain ⟨k1,k2,k3⟩:=z b' (by simp [t]);exact ⟨k1,(World.putObj_heap_other (by rintro rfl; exact hn.1 t)).trans k2,k3⟩
 rw [U];exact key bs w' hn z J.hr J.env y
def fnQ (P:Ye) (rs:Ya ResultVar) (R:K3):Exit->St->Prop
 | .ret,s=>∃ v,kaZ P s.h s.env rs=some v/\R v s.h s.n
 | .normal,s=>∃ v,kaZ P s.h s.env rs=some v/\R v s.h s.n
 | _,_=>False
theorem HC.of_body {f:FuncId} {fn:Func} {c:Code} {args:Ya AV} {h:AH} {n:Nat} {R:K3} (hf:P.funcs[f]?=some fn) (Z:fn.body=some c) (t:(fn.name== "runtime.NumGoroutine")=false) (X:args.length<=fn.ntmps)
  (I:∀ (D:DX) (O:Nat->Prop),D.it=none->Sat P fn.ntmps D O c (fnQ P fn.results.toList R) ⟨kar args,h,n⟩):HC P f args h n R:=by
 refine ⟨⟨fn,hf,by rw [Z]; rfl,t⟩,λO μ w vs hr U Y=>(callsIn_wide (n:=0)).1 (callsIn_of_wp_marks hf Z trivial ?_)⟩;show c.wpIn (FF none) 0 P _ _ w;refine wpIn_mono (I ⟨w.heap.size,none⟩ O rfl O (λ_=>rfl) none μ _ w trivial ⟨hr,?_,.nil _ _ _ (jah _),λs=>?_,(λe=>by cases e),trivial⟩) ?_
 ·simp [U]; omega
 ·simp only [kar,kos args 0 s,jdq,if_true,Nat.sub_zero];cases hs:args[s]? with
  | none=>simpa using VR.un _
  | some v=>
   obtain ⟨u,hu,S⟩:=Y s v hs;have:(vs++Array.replicate (fn.ntmps-vs.size) undef).getD s undef=u:=by
    rw [jag,Array.getElem?_append_left (jaj.1 hu).1,hu]; rfl
   rw [this];exact S
 ·rintro e a' w' ⟨i,μ',O',o',y,J,he⟩;cases o' rfl;have m:∀ v,kaZ P i.h i.env fn.results.toList=some v->R v i.h i.n->LeavesInM (FF none) 0 P fn a'.tmps (λe w'=>∃ u v h' n' μ',e = .returned u/\R v h' n'/\HR w' O μ' h' n'/\VR w' O μ' n' v u/\Evo w μ n w' μ' n') a'.defers .returning w':=λv z h2=>
   kpg z J (he rfl) λw2 u h3 h4 h5=>⟨u,v,i.h,i.n,μ',rfl,h2,h3,h4,h5⟩
  cases e with
  | ret=>
   obtain ⟨v,z,h2⟩:=y;exact m v z h2
  | normal=>
   obtain ⟨v,z,h2⟩:=y;exact m v z h2
  | exit id=>exact y.elim
  | goto l=>exact y.elim
  | panic c=>exact y.elim
  | outgrown=>exact y.elim
end
abbrev mu0:Mu:=λ_=>none
abbrev ah0:AH:=λ_=>none
inductive Free:AV->Prop
 | sc (v:Value):Free (.sc v)
 | ud:Free .ud
 | un:Free .un
 | e0:Free .e0
 | fp (cs:List AV) (h:∀ (j:Nat) (c:AV),cs[j]?=some c->Free c):Free (.fp cs)
 | sl (es:List (List AV)) (h:∀ (i:Nat) (e:List AV),es[i]?=some e->∀ (j:Nat) (c:AV),e[j]?=some c->Free c):Free (.sl es)
 | fn (f:FuncId) (cs:List AV) (h:∀ (j:Nat) (c:AV),cs[j]?=some c->Free c):Free (.fn f cs)
 | ag (cs:List AV) (h:∀ (j:Nat) (c:AV),cs[j]?=some c->Free c):Free (.ag cs)
 | tp (cs:List AV) (h:∀ (j:Nat) (c:AV),cs[j]?=some c->Free c):Free (.tp cs)
inductive Flat:AV->Prop
 | sc (v:Value):Flat (.sc v)
 | ag (cs:List AV) (h:∀ (j:Nat) (c:AV),cs[j]?=some c->Flat c):Flat (.ag cs)
 | tp (cs:List AV) (h:∀ (j:Nat) (c:AV),cs[j]?=some c->Flat c):Flat (.tp cs)
section
variable {P:Ye} {w:World} {O:Nat->Prop} {μ:Mu} {h:AH} {n:Nat}
theorem VR.free {a:AV} {v:Yd} (hv:VR w O μ n a v) (m:Free a) {O':Nat->Prop} (ho:∀ b,O' b->Av O μ b):VR w O' mu0 0 a v:=by
 have S:∀ b,Av O' mu0 b->Av O μ b:=λb u=>by
  rcases u with u | ⟨id,k,u⟩
  ·exact ho b u
  ·cases u
 induction hv with
 | sc v J=>exact .sc v J
 | ud=>exact .ud
 | gs es=>exact .gs es
 | un v=>exact .un v
 | e0 p=>exact .e0 p
 | own=>cases m
 | ms=>cases m
 | mp=>cases m
 | fp cs b o us hA z J _ y=>cases m with | fp _ m=>exact .fp cs b o us (λI u=>hA I (S b u)) z J λj c t=>y j c t (m j c t)
 | slnil p=>exact .slnil p
 | sl es b o cap k us U X hA hk z J _ y=>cases m with | sl _ m=>exact .sl es b o cap k us U X (λi e Z I u=>hA i e Z I (S b u)) hk z J λi e Z j c t=>y i e Z j c t (m i e Z j c t)
 | fn f cs vs us Y z _ y=>cases m with | fn _ _ m=>exact .fn f cs vs us Y z λj c t=>y j c t (m j c t)
 | ag cs vs us Y z J _ y=>cases m with | ag _ m=>exact .ag cs vs us Y z J λj c t=>y j c t (m j c t)
 | tp cs vs us Y z _ y=>cases m with | tp _ m=>exact .tp cs vs us Y z λj c t=>y j c t (m j c t)
theorem VR.lift {a:AV} {v:Yd} {O':Nat->Prop} (Z:VR w O' mu0 0 a v) (U:∀ b,Av O μ b->O' b):VR w O μ n a v:=by
 induction Z with
 | sc v y=>exact .sc v y
 | ud=>exact .ud
 | gs es=>exact .gs es
 | un v=>exact .un v
 | e0 p=>exact .e0 p
 | own _ _ _ _ h=>omega
 | ms _ _ _ _ h=>omega
 | mp _ _ h=>omega
 | fp cs b o us hA t y _ m=>exact .fp cs b o us (λu S=>hA u (.inl (U b S))) t y m
 | slnil p=>exact .slnil p
 | sl es b o cap k us z I hA X t y _ m=>exact .sl es b o cap k us z I (λi e Y u S=>hA i e Y u (.inl (U b S))) X t y m
 | fn f cs vs us J t _ m=>exact .fn f cs vs us J t m
 | ag cs vs us J t y _ m=>exact .ag cs vs us J t y m
 | tp cs vs us J t _ m=>exact .tp cs vs us J t m
theorem VR.flat {a:AV} {v:Yd} (I:VR w O μ n a v) (i:Flat a) (w':World) (O':Nat->Prop) (μ':Mu) (n':Nat):VR w' O' μ' n' a v:=by
 induction I with
 | sc v t=>exact .sc v t
 | ag cs vs us u z t _ y=>cases i with | ag _ i=>exact .ag cs vs us u z t λj c m=>y j c m (i j c m)
 | tp cs vs us u z _ y=>cases i with | tp _ i=>exact .tp cs vs us u z λj c m=>y j c m (i j c m)
 | _=>cases i
inductive Snap (h:AH):AV->AV->Prop
 | free (a:AV) (hf:Free a):Snap h a a
 | nilS:Snap h (.sc (.slice none 0 0)) (.sl [])
 | own (id i j k:Nat) (T:TypeId) (es:List (List AV)) (e cs:List AV) (hB:h id=some (.cells k T es)) (he:es[i]?=some e) (hl:cs.length=(e.drop j).length)
   (hr:∀ (q:Nat) (c c':AV),(e.drop j)[q]?=some c->cs[q]?=some c'->Snap h c c'):Snap h (.own id i j) (.fp cs)
 | ms (id off len k:Nat) (T:TypeId) (es es':List (List AV)) (hB:h id=some (.cells k T es)) (hle:off+len<=es.length) (hl:es'.length=len)
   (hk:∀ (q:Nat) (e e':List AV),es[off+q]?=some e->es'[q]?=some e'->e'.length=e.length)
   (hr:∀ (q:Nat) (e e':List AV),es[off+q]?=some e->es'[q]?=some e'->∀ (p:Nat) (c c':AV),e[p]?=some c->e'[p]?=some c'->Snap h c c'):Snap h (.ms id off len) (.sl es')
 | fp (cs cs':List AV) (hl:cs'.length=cs.length) (hr:∀ (q:Nat) (c c':AV),cs[q]?=some c->cs'[q]?=some c'->Snap h c c'):Snap h (.fp cs) (.fp cs')
 | sl (es es':List (List AV)) (hl:es'.length=es.length) (hk:∀ (q:Nat) (e e':List AV),es[q]?=some e->es'[q]?=some e'->e'.length=e.length)
   (hr:∀ (q:Nat) (e e':List AV),es[q]?=some e->es'[q]?=some e'->∀ (p:Nat) (c c':AV),e[p]?=some c->e'[p]?=some c'->Snap h c c'):Snap h (.sl es) (.sl es')
 | fn (f:FuncId) (cs cs':List AV) (hl:cs'.length=cs.length) (hr:∀ (q:Nat) (c c':AV),cs[q]?=some c->cs'[q]?=some c'->Snap h c c'):Snap h (.fn f cs) (.fn f cs')
 | ag (cs cs':List AV) (hl:cs'.length=cs.length) (hr:∀ (q:Nat) (c c':AV),cs[q]?=some c->cs'[q]?=some c'->Snap h c c'):Snap h (.ag cs) (.ag cs')
 | tp (cs cs':List AV) (hl:cs'.length=cs.length) (hr:∀ (q:Nat) (c c':AV),cs[q]?=some c->cs'[q]?=some c'->Snap h c c'):Snap h (.tp cs) (.tp cs')
theorem Snap.one {a a':AV} (m:Snap h a a') (i:a.one=true):a'.one=true:=by
 cases m <;> first | exact i | rfl | (simp [AV.one] at i; done)
theorem kag {α:Type} {l l':Ya α} (hl:l'.length=l.length) {q:Nat} {m:α} (i:l'[q]?=some m):∃ c,l[q]?=some c:=
 ⟨l[q]'(by rw [<-hl]; exact (jae.1 i).1),jaf _⟩
theorem Snap.vr {a a':AV} (hs:Snap h a a') (hr:HR w O μ h n):∀ {v:Yd},VR w O μ n a v->VR w O mu0 0 a' v:=by
 have hO:∀ b,(∃ id k,μ id=some (b,k))->¬ Av O mu0 b:=λb hb Y=>by
  obtain ⟨id,k,hb⟩:=hb;rcases Y with Y | ⟨_,_,Y⟩
  ·exact hr.notO id b k hb (.inl Y)
  ·cases Y
 have hO2:∀ b,¬ Av O μ b->¬ Av O mu0 b:=λb hb Y=>by
  rcases Y with Y | ⟨_,_,Y⟩
  ·exact hb (.inl Y)
  ·cases Y
 induction hs with
 | free a hf=>intro v S; exact S.free hf λb hb=>.inl hb
 | nilS=>intro v S; rw [S.sc_inv]; exact .slnil none
 | own id i j k T es e cs hB he hl I X=>
  intro v S;obtain ⟨b,c,g1,g2,rfl,g4⟩:=keO hr hB S;obtain ⟨b',z,f1,f2,f3⟩:=hr.own_cells hB;rw [g1] at f1; cases f1;have af:=((f3 i e he).2).drop j;have cell:∀ q z,cs[q]?=some z->∃ x,(e.drop j)[q]?=some x:=λq z m=>kag hl m;refine .fp cs b (i*k+j) (λq=>(w.cell? ⟨b,i*k+j+q,none⟩).getD undef) (λ_=>hO b ⟨id,k,g1⟩) (λq z m=>?_) (λq z m=>?_) (λq z m=>?_);all_goals
   obtain ⟨x,t⟩:=cell q z m;obtain ⟨p1,u,p2,p3⟩:=af q x t
  ·rw [p2]; rfl
  ·exact (I q x z t m).one p1
  ·rw [p2]; exact X q x z t m p3
 | ms id off len k T es es' hB ai hl hk I X=>
  intro v S;obtain ⟨b,c,oo,cap,g1,g2,rfl,g3,g4,g5,g6,g7⟩:=keX hr hB S;obtain ⟨b',z,f1,f2,f3⟩:=hr.own_cells hB;rw [g1] at f1; cases f1;have aa:∀ q e',es'[q]?=some e'->∃ x,es[off+q]?=some x:=λq e' m=>by
   have:=(jae.1 m).1;exact ⟨es[off+q]'(by omega),jaf _⟩
  subst hl;refine .sl es' b oo cap k (λq p=>(w.cell? ⟨b,oo+q*k+p,none⟩).getD undef) g4 g5 (λ_ _ _ _=>hO b ⟨id,k,g1⟩) (λq e' m=>?_) (λq e' m p z hp=>?_) (λq e' m p z hp=>?_) (λq e' m p z hp=>?_)
  ·obtain ⟨x,t⟩:=aa q e' m;rw [hk q x e' t m]; exact (f3 _ x t).1
  all_goals
   obtain ⟨x,t⟩:=aa q e' m;obtain ⟨y,hy⟩:=kag (hk q x e' t m) hp;obtain ⟨p1,u,p2,p3⟩:=(f3 _ x t).2 p y hy;have aj:=(jae.1 m).1;have ab:oo+q*k+p=(off+q)*k+p:=by rw [g6 (by omega),jcf]
  ·rw [ab,p2]; rfl
  ·exact Snap.one (I q x e' t m p y z hy hp) p1
  ·rw [ab,p2]; exact X q x e' t m p y z hy hp p3
 | fp cs U hl I X=>
  intro v S;cases S with
  | fp _ b o us hA Z h1 J=>
   refine .fp U b o us (λac=>hO2 b (hA (by rintro rfl; simp at hl; exact ac hl))) (λq z m=>?_) (λq z m=>?_) (λq z m=>?_);all_goals obtain ⟨x,t⟩:=kag hl m
   ·exact Z q x t
   ·exact (I q x z t m).one (h1 q x t)
   ·exact X q x z t m (J q x t)
 | sl es es' hl hk I X=>
  intro v S;cases S with
  | slnil=>simp at hl; subst hl; exact .slnil _
  | sl _ b o cap k us ah ad hA ae Z h1 J=>
   rw [<-hl];refine .sl es' b o cap k us (by omega) ad (λq e' m ac=>?_) (λq e' m=>?_) (λq e' m p z hp=>?_) (λq e' m p z hp=>?_) (λq e' m p z hp=>?_);all_goals obtain ⟨x,t⟩:=kag hl m
   ·exact hO2 b (hA q x t (by rintro rfl; have:=hk q [] e' t m; simp at this; exact ac this))
   ·rw [hk q x e' t m]; exact ae q x t
   all_goals obtain ⟨y,hy⟩:=kag (hk q x e' t m) hp
   ·exact Z q x t p y hy
   ·exact (I q x e' t m p y z hy hp).one (h1 q x t p y hy)
   ·exact X q x e' t m p y z hy hp (J q x t p y hy)
 | fn f cs U hl I X=>
  intro v S;cases S with
  | fn _ _ vs us hs Z J=>
   refine .fn f U vs us (by omega) (λq z m=>?_) (λq z m=>?_);all_goals obtain ⟨x,t⟩:=kag hl m
   ·exact Z q x t
   ·exact X q x z t m (J q x t)
 | ag cs U hl I X=>
  intro v S;cases S with
  | ag _ vs us hs Z h1 J=>
   refine .ag U vs us (by omega) (λq z m=>?_) (λq z m=>?_) (λq z m=>?_);all_goals obtain ⟨x,t⟩:=kag hl m
   ·exact Z q x t
   ·exact (I q x z t m).one (h1 q x t)
   ·exact X q x z t m (J q x t)
 | tp cs U hl I X=>
  intro v S;cases S with
  | tp _ vs us hs Z J=>
   refine .tp U vs us (by omega) (λq z m=>?_) (λq z m=>?_);all_goals obtain ⟨x,t⟩:=kag hl m
   ·exact Z q x t
   ·exact X q x z t m (J q x t)
def PC (P:Ye) (f:FuncId) (args:Ya AV) (R:AV->Prop):Prop:=
 (∃ fn,P.funcs[f]?=some fn/\fn.body.isSome=true/\(fn.name== "runtime.NumGoroutine")=false)/\
 ∀ (O:Nat->Prop) (w:World) (vs:Array Yd),OLT O w->vs.size=args.length->(∀ (j:Nat) (c:AV),args[j]?=some c->∃ u,vs[j]?=some u/\VR w O mu0 0 c u)->
  Calls P f vs w (λe w'=>∃ u v,e = .returned u/\R v/\VR w' O mu0 0 v u/\Blw w w')
theorem HR.zero (w:World) (O:Nat->Prop) (i:OLT O w):HR w O mu0 ah0 0:=
 ⟨i,λid b k h=>(by cases h),λ_ _ _ _ _ h=>(by cases h),λ_ _ _ h=>(by cases h),λ_ _ h=>(by cases h)⟩
theorem PC.of_HC {f:FuncId} {args:Ya AV} {R:AV->Prop} (t:HC P f args ah0 0 (λv h _=>∃ m,Snap h v m/\R m)):PC P f args R:=by
 refine ⟨t.1,λO w vs J U X=>(t.2 O mu0 w vs (HR.zero w O J) U X).mono ?_⟩;rintro e w' ⟨u,v,h',n',μ',rfl,⟨m,z,Y⟩,I,S,i⟩;exact ⟨u,m,rfl,Y,z.vr I S,⟨i.os,i.tape,i.output.1,i.size,λb y=>i.keep b y (λid k h=>by cases h)⟩,i.output.2⟩
theorem Evo.of_below {w':World} (hr:HR w O μ h n) (i:Blw w w'):Evo w μ n w' μ n/\HR w' O μ h n:=by
 have t:Evo w μ n w' μ n:=⟨i.1.os,i.1.tape,⟨i.1.output,i.2⟩,i.1.size,jah _,λb m _=>i.1.block b m,λb c T f u _=>⟨c,by rw [i.1.block b (jaj.1 u).1]; exact u,rfl⟩,λ_ _=>.inl rfl,
  λid b k e hn=>absurd (hr.scope id b k e).1 (by omega)⟩
 refine ⟨t,hr.olt.keep i.1.size λb h=>i.1.block b (hr.olt.plt h),λid b k e=>⟨(hr.scope id b k e).1,jar (hr.scope id b k e).2 i.1.size⟩,hr.inj,hr.notO,λid B hB=>?_⟩;exact (hr.blk id B hB).evo rfl (λb k e=>i.1.block b (hr.scope id b k e).2) t
theorem PC.free {f:FuncId} {args:Ya AV} {R:AV->Prop} (t:PC P f args R) (J:∀ (j:Nat) (c:AV),args[j]?=some c->Free c) (h:AH) (n:Nat):HC P f args h n (λv h' n'=>R v/\h'=h/\n'=n):=by
 refine ⟨t.1,λO μ w vs hr S X=>(t.2 (Av O μ) w vs (hr.olt.av (λb i=>?_)) S (λj c y=>?_)).mono ?_⟩
 ·rcases i with i | ⟨id,k,i⟩
  ·exact hr.olt b i
  ·exact (hr.scope id b k i).2
 ·obtain ⟨u,m,h2⟩:=X j c y;exact ⟨u,m,h2.free (J j c y) λb i=>i⟩
 ·rintro e w' ⟨u,v,rfl,z,Y,I⟩;obtain ⟨U,m⟩:=Evo.of_below hr I;exact ⟨u,v,h,n,μ,rfl,⟨z,rfl,rfl⟩,m,Y.lift λb i=>i,U⟩
theorem PC.lent {f:FuncId} {args i:Ya AV} {R:AV->Prop} (S:PC P f i R) (h:AH) (n:Nat) (hl:i.length=args.length) (z:∀ (j:Nat) (c y:AV),args[j]?=some c->i[j]?=some y->Snap h c y)
  (m:∀ v,R v->Flat v):HC P f args h n (λv h' n'=>R v/\h'=h/\n'=n):=by
 refine ⟨S.1,λO μ w vs hr hs Z=>(S.2 O w vs hr.olt (by omega) (λj y U=>?_)).mono ?_⟩
 ·obtain ⟨c,t⟩:=kag hl U;obtain ⟨u,I,h2⟩:=Z j c t;exact ⟨u,I,(z j c y t U).vr hr h2⟩
 ·rintro e w' ⟨u,v,rfl,J,q2,X⟩;obtain ⟨Y,I⟩:=Evo.of_below hr X;exact ⟨u,v,h,n,μ,rfl,⟨J,rfl,rfl⟩,I,q2.flat (m v J) _ _ _ _,Y⟩
end
section
variable {P:Ye} {K:K3} {h:AH} {n:Nat}
theorem kkr {env env':Env} (pl:Ya (Nat×Nat)):∀ (m:Ya (Nat×Yf)) (cs:Ya AV),(∀ p∈m,ev env p.2=ev env' p.2)->fillS pl env m cs=fillS pl env' m cs
 | [],cs,_=>rfl
 | (i,x)::rest,cs,hp=>by
  have y:ev env x=ev env' x:=hp (i,x) (by simp);have u:=λcs=>kkr pl rest cs (λp t=>hp p (by simp [t]));unfold fillS;rw [y];split
  ·split
   ·exact u _
   ·rfl
  ·rfl
theorem kku {env env':Env} (k:Nat):∀ (m:Ya (Nat×Yf)) (es:Ya (Ya AV)),(∀ p∈m,ev env p.2=ev env' p.2)->fillE k env m es=fillE k env' m es
 | [],es,_=>rfl
 | (i,x)::rest,es,hp=>by
  have y:ev env x=ev env' x:=hp (i,x) (by simp);have u:=λes=>kku k rest es (λp t=>hp p (by simp [t]));unfold fillE;rw [y];split
  ·split
   ·exact u _
   ·rfl
  ·rfl
theorem knd {env env':Env} {b:Builtin} {args:Array Yf} {ts:Array Yc} (i:∀ x∈args.toList,ev env x=ev env' x):kai P env h n b args ts K=kai P env' h n b args ts K:=by
 unfold kai;split
 ·rename_i m _; rw [m] at i; rw [i _ (by simp)]
 ·rename_i m _; rw [m] at i; rw [i _ (by simp),i _ (by simp)]
 ·rename_i m _; rw [m] at i; rw [i _ (by simp),i _ (by simp)]
 ·rename_i m; rw [m] at i; rw [i _ (by simp),i _ (by simp)]
 ·rename_i m; rw [m] at i; rw [i _ (by simp),i _ (by simp)]
 ·rename_i m; rw [m] at i; rw [i _ (by simp),i _ (by simp),i _ (by simp)]
 ·rename_i m; rw [m] at i; rw [i _ (by simp),i _ (by simp),i _ (by simp)]
 ·rfl
theorem knY {o:Oper} {env env':Env} (H:∀ x∈o.op.operands.toList,ev env x=ev env' x):aop P env h n o K=aop P env' h n o K:=by
 obtain ⟨dst,op,ty,pos,after,I⟩:=o;simp only at H;cases op with
 | build T i=>
  have:∀ cs pl,fillS pl env i.toList cs=fillS pl env' i.toList cs:=λcs pl=>kkr pl _ _ (λp hp=>H p.2 (by simp only [Op.operands]; simpa using ⟨p.1,by simpa using hp⟩));simp only [aop,this]
 | buildSlice T len i=>
  have:∀ k es,fillE k env i.toList es=fillE k env' i.toList es:=λk es=>kku k _ _ (λp hp=>H p.2 (by simp only [Op.operands]; simpa using ⟨p.1,by simpa using hp⟩));simp only [aop,this]
 | makeFunc f first t=>
  have:t.toList.map (ev env)=t.toList.map (ev env'):=List.map_congr_left λx z=>H x (by simp only [Op.operands]; simp; exact .inr (by simpa using z));cases f <;> simp only [aop,this]
 | call c=>
  obtain ⟨callee,args,ts⟩:=c;cases callee with
  | builtin b=>
   simp only [aop];exact knd λx z=>H x (by simp only [Op.operands,Call.operands]; simpa using z)
  | value f=>
   have u:ev env f=ev env' f:=H f (by simp [Op.operands,Call.operands]);have h2:args.toList.map (ev env)=args.toList.map (ev env'):=List.map_congr_left λx z=>H x (by simp only [Op.operands,Call.operands]; simp; exact .inr (by simpa using z));simp only [aop,u,h2]
  | invoke r m=>rfl
 | slice T x S J mx=>
  have u:ev env x=ev env' x:=H x (by simp [Op.operands]);have h2:S.map (ev env)=S.map (ev env'):=by
   cases S with
   | none=>rfl
   | some y=>simp only [jcb]; rw [H y (by simp [Op.operands])]
  have U:J.map (ev env)=J.map (ev env'):=by
   cases J with
   | none=>rfl
   | some y=>simp only [jcb]; rw [H y (by simp [Op.operands])]
  cases mx <;> simp only [aop,u,h2,U]
 | makeMap T r=>cases r <;> rfl
 | next x b=>
  have u:ev env x=ev env' x:=H x (by simp [Op.operands]);cases b <;> simp only [aop,u]
 | _=>simp [Op.operands] at H <;> simp only [aop,H]
inductive Anc (l:List Oper):Nat->Nat->Prop
 | one {i j:Nat} {o:Oper} {e:Edge} (ho:l[j]?=some o) (he:e∈o.after) (hb:Region.binds .any e=true) (hi:e.on=i):Anc l i j
 | step {i k j:Nat} {o:Oper} {e:Edge} (h:Anc l i k) (ho:l[j]?=some o) (he:e∈o.after) (hb:Region.binds .any e=true) (hi:e.on=k):Anc l i j
def kja (i:Ya Nat) (o:Oper):Nat:=(o.after.toList.filter (Region.binds .any)).foldr (λe m=>(1 <<< e.on) ||| (i.getD e.on 0 ||| m)) 0
def ancGo:Ya Nat->Ya Oper->Ya Nat
 | acc,[]=>acc
 | acc,o::r=>ancGo (acc++[kja acc o]) r
def ancOf (l:Ya Oper):Ya (Ya Nat):=(ancGo [] l).map λm=>(List.range l.length).filter λi=>m.testBit i
theorem kqM {t:Ya Nat} {o:Oper} {i:Nat} (h:(kja t o).testBit i=true):∃ e∈o.after,Region.binds .any e=true/\(e.on=i\/(t.getD e.on 0).testBit i=true):=by
 unfold kja at h;have:∀ (l:Ya Edge),(∀ e∈l,e∈o.after/\Region.binds .any e=true)->(l.foldr (λe m=>(1 <<< e.on) ||| (t.getD e.on 0 ||| m)) 0).testBit i=true->∃ e∈o.after,Region.binds .any e=true/\(e.on=i\/(t.getD e.on 0).testBit i=true):=by
  intro l;induction l with
  | nil=>intro _ h; simp at h
  | cons e l z=>
   intro hl h;rw [List.foldr_cons,Nat.testBit_or,Nat.testBit_or,Nat.one_shiftLeft,Nat.testBit_two_pow,jbe,jbe,jak] at h;obtain ⟨y,h2⟩:=hl e (jdz ..);rcases h with h | h | h
   ·exact ⟨e,y,h2,.inl h⟩
   ·exact ⟨e,y,h2,.inr h⟩
   ·exact z (λe u=>hl e (jbm _ u)) h
 exact this _ (λe u=>by simpa [jdy] using u) h
theorem kma (l:Ya Oper):∀ (r:Ya Oper) (m:Ya Nat),(∀ j,r[j]?=l[m.length+j]?)->(∀ j i,(m.getD j 0).testBit i=true->Anc l i j)->∀ j i,((ancGo m r).getD j 0).testBit i=true->Anc l i j
 | [],m,_,ha=>ha
 | o::r,m,hr,ha=>by
  refine kma l r (m++[kja m o]) (λj=>by have:=hr (j+1); simp at this ⊢; rw [this]; congr 1; omega) ?_;intro j i t;rw [List.getD_eq_getElem?_getD,jbu] at t;split at t
  ·exact ha j i (by rw [List.getD_eq_getElem?_getD]; exact t)
  ·rename_i u;have y:l[m.length]?=some o:=by have:=hr 0; simpa using this.symm
   rcases Nat.eq_or_lt_of_le (Nat.le_of_not_lt u) with e | J
   ·subst e;simp only [Nat.sub_self,jci,jcc] at t;obtain ⟨e,z,I,t⟩:=kqM t;rcases t with rfl | t
    ·exact .one y z I rfl
    ·exact .step (ha _ _ t) y z I rfl
   ·have:([kja m o]:Ya Nat)[j-m.length]?=none:=jcd (by simp; omega);rw [this] at t;simp at t
theorem keq {l:Ya Oper} {i j:Nat} (h:i∈(ancOf l).getD j []):Anc l i j:=by
 unfold ancOf at h;rw [List.getD_eq_getElem?_getD,jas] at h;cases t:(ancGo [] l)[j]? with
 | none=>rw [t] at h; simp at h
 | some m=>
  rw [t] at h;simp only [jcb,jcc,jdy] at h;exact kma l l [] (λj=>by simp) (λj i u=>by simp at u) j i (by rw [List.getD_eq_getElem?_getD,t]; exact h.2)
def Closed (l:Ya Oper) (S:Nat->Prop):Prop:=∀ j o,l[j]?=some o->S j->∀ e∈o.after,Region.binds .any e=true->S e.on
theorem Closed.anc {l:Ya Oper} {S:Nat->Prop} (Z:Closed l S) {i j:Nat} (h:Anc l i j):(∀ o,l[j]?=some o->∀ e∈o.after,Region.binds .any e=true->S e.on)->S i:=by
 induction h with
 | one u U m I=>intro z; rw [<-I]; exact z _ u _ U m
 | step _ u U m I Y=>intro z; exact Y λX y e' t J=>Z _ X y (I ▸ z _ u _ U m) e' t J
def kfs (o:Oper) (ds:Ya (Yb Tmp)):Ya Tmp:=
 o.op.operands.toList.filterMap (fun | .tmp t=>some t | _=>none)++(match o.guard with | some (j,_)=>(kba ds j).toList | none=>[])
def kcz (l:Ya Oper):Bool:=
 let ds:=l.map (·.dst)
 let anc:=ancOf l
 (l.zipIdx.all λ(o,j)=>o.after.all (λe=>!Region.binds .any e||decide (e.on<j)) &&
  (match o.dst with | some d=>(ds.zipIdx.all λ(m,i)=>i==j||m != some d) | none=>true) &&
  (kfs o ds).all λt=>ds.zipIdx.all λ(d,i)=>d != some t||(decide (i<j)&&(anc.getD j []).contains i)||(decide (j<i)&&(anc.getD i []).contains j))
theorem kbk {l:Ya Oper} (I:kcz l=true) :
  (∀ (j:Nat) (o:Oper),l[j]?=some o->∀ e∈o.after,Region.binds .any e=true->e.on<j)/\
  (∀ (i j:Nat) (y J:Oper) (d:Nat),l[i]?=some y->l[j]?=some J->y.dst=some d->J.dst=some d->i=j)/\
  (∀ (j:Nat) (o:Oper) (t i:Nat) (y:Oper),l[j]?=some o->t∈kfs o (l.map (·.dst))->l[i]?=some y->y.dst=some t->(i<j/\Anc l i j)\/(j<i/\Anc l j i)):=by
 simp only [kcz,jap,Prod.forall,jad] at I;have u:∀ {α:Type} {m:Ya α} {j:Nat} {x:α},m[j]?=some x->(x,j)∈m.zipIdx:=λh=>List.mem_zipIdx_iff_getElem?.2 (by simpa using h);refine ⟨λj o U e he hb=>?_,λi j y J d X hj z Y=>?_,λj o t i y U Z X z=>?_⟩
 ·have:=((I o j (u U)).1).1;simp only [jcj] at this;have:=this e he;simpa [hb] using this
 ·have:=((I J j (u hj)).1).2;rw [Y] at this;simp only [jap,Prod.forall] at this;have:=this (some d) i (u (by simp [X,z]));simpa using this
 ·have:=(I o j (u U)).2 t Z (some t) i (u (by simp [X,z]));simp only [bne_self_eq_false,jda,jbe,jad,jak,jbw] at this;rcases this with ⟨S,h2⟩ | ⟨S,h2⟩
  ·exact .inl ⟨S,keq h2⟩
  ·exact .inr ⟨S,keq h2⟩
section
variable {l:Ya Oper} {st:St} {E:Nat->Env} {V:Nat->AV} {A W:Nat->Bool} {H:Nat->AH} {M:Nat->Nat} {N:Nat} {D:DX} {O:Nat->Prop}
structure At (P:Program) (l:List Oper) (st:St) (V:Nat->AV) (S:Nat->Prop) (env:Env):Prop where
 old:∀ s,(∀ i oi,S i->l[i]?=some oi->oi.dst≠some s)->lk env s=lk st.env s
 new:∀ s i oi,S i->l[i]?=some oi->oi.dst=some s->lk env s=V i
theorem khM {o:Oper} {ds:Ya (Yb Tmp)} {m:Nat} {i:Bool} {d:Nat} (t:o.guard=some (m,i)) (u:kba ds m=some d):d∈kfs o ds:=by
 simp [kfs,t,u]
theorem kkx {o:Oper} {ds:Ya (Yb Tmp)} {t:Nat} (i:Operand.tmp t∈o.op.operands.toList):t∈kfs o ds:=by
 simp only [kfs,jay,jcn];exact .inl ⟨_,i,rfl⟩
end
end
def isW (wc:Ya Nat) (j:Nat) (o:Oper):Bool:=
 match o.op with
 | .alloc _ | .box _ _ | .store _ _ _ | .makeSlice _ _ _ | .makeMap _ _ | .mapUpdate _ _ _ _ | .insert _ _ _ _ | .mapEntry _ _ _ | .entryStore _ _ _ _ | .range _ _ | .next _ _=>true
 | .call { callee:=.builtin .append,.. } | .call { callee:=.builtin .copy,.. } | .call { callee:=.builtin .delete,.. }=>true
 | .call { callee:=.value _,.. }=>wc.contains j
 | .buildSlice _ _ _=>wc.contains j
 | .lookup _ _ _ _=>wc.contains j
 | _=>false
structure Rec where
 j:Nat
 o:Oper
 env:Env
 v:AV
 h:AH
 n:Nat
 h':AH
 n':Nat
def wants (rd:Ya (Nat×Nat)) (j:Nat):Bool:=rd.any λp=>p.1==j||p.2==j
def recOf (tr:Ya Rec) (j:Nat):Yb Rec:=tr.find? λr=>r.j==j
def kkc (P:Ye) (tr:Ya Rec):Ya (Nat×Nat)->Prop
 | []=>True
 | (x,w)::rest=>(match recOf tr x,recOf tr w with
  | some a,some b=>if w<x then aop P a.env b.h b.n a.o (λv h n=>v=a.v/\h=b.h/\n=b.n) else aop P a.env b.h' b.n' a.o (λv h n=>v=a.v/\h=b.h'/\n=b.n')
  | _,_=>True)/\kkc P tr rest
def callD (A B:AV->Prop):Prop:=∃ v,A v/\B v
def kfF (o:Oper):Bool:=
 match o.op with
 | .call { callee:=.value _,.. }=>true
 | _=>false
def stepD (P:Ye) (wc:Ya Nat) (rd:Ya (Nat×Nat)) (o:Oper) (j:Nat) (env:Env) (h:AH) (n:Nat) (tr:Ya Rec) (next:St->Ya Rec->Prop):Prop:=
 if isW wc j o then ∃ v h' n',aop P env h n o (λa b c=>a=v/\b=h'/\c=n')/\next ⟨putE env o.dst v,h',n'⟩ (if wants rd j then ⟨j,o,env,v,h,n,h',n'⟩::tr else tr)
 else if kfF o then callD (λv=>aop P env h n o (λa b c=>a=v/\b=h/\c=n)) λv=>next ⟨putE env o.dst v,h,n⟩ (if wants rd j then ⟨j,o,env,v,h,n,h,n⟩::tr else tr)
 else ∃ v,aop P env h n o (λa b c=>a=v/\b=h/\c=n)/\next ⟨putE env o.dst v,h,n⟩ (if wants rd j then ⟨j,o,env,v,h,n,h,n⟩::tr else tr)
def aopsD (P:Ye) (ds:Ya (Yb Tmp)) (wc:Ya Nat) (rd:Ya (Nat×Nat)):Ya Oper->Nat->St->Ya Rec->(St->Prop)->Prop
 | [],_,st,tr,K=>kkc P tr rd/\K st
 | o::r,j,st,tr,K=>
  match o.guard with
  | none=>stepD P wc rd o j st.env st.h st.n tr λs t=>aopsD P ds wc rd r (j+1) s t K
  | some (g,want)=>match kba ds g with
   | some d=>match lk st.env d with
    | .sc (.bool b)=>(b=want->stepD P wc rd o j ((d,.sc (.bool want))::st.env) st.h st.n tr λs t=>aopsD P ds wc rd r (j+1) s t K)/\
      (b = !want->aopsD P ds wc rd r (j+1) ⟨putE ((d,.sc (.bool (!want)))::st.env) o.dst .ud,st.h,st.n⟩ tr K)
    | .ud=>aopsD P ds wc rd r (j+1) ⟨putE st.env o.dst .ud,st.h,st.n⟩ tr K
    | _=>False
   | none=>False
section
variable {P:Ye} {l:Ya Oper} {wc:Ya Nat} {rd:Ya (Nat×Nat)}
theorem koW {env env':Env} (h:∀ s,lk env s=lk env' s) (d:Yb Tmp) (v:AV):∀ s,lk (putE env d v) s=lk (putE env' d v) s:=by
 intro s;cases d with
 | none=>exact h s
 | some d=>simp only [putE,lk,h s]
theorem kqa {env:Env} {d:Nat} {v:AV} (h:lk env d=v):∀ s,lk ((d,v)::env) s=lk env s:=by
 intro s;simp only [lk];split
 ·rename_i e; rw [e,h]
 ·rfl
end
abbrev int (n:Int):AV:=.sc (.int .i64 n)
abbrev bool (b:Bool):AV:=.sc (.bool b)
abbrev u8 (n:Int):AV:=.sc (.int .u8 n)
abbrev nilS:AV:=.sc (.slice none 0 0)
theorem kpL:∃ f:Ye->Ya (Yb Tmp)->Ya Oper->St->(St->Prop)->Prop,f=aops:=⟨aops,rfl⟩
noncomputable def aopsS:=Classical.choose kpL
theorem kpz:aopsS=aops:=Classical.choose_spec kpL
theorem ktn (P:Ye) (ds:Ya (Yb Tmp)) (st:St) (K:St->Prop):aopsS P ds [] st K=K st:=by rw [kpz]; rfl
theorem khW (P:Ye) (ds:Ya (Yb Tmp)) (o:Oper) (r:Ya Oper) (st:St) (K:St->Prop):aopsS P ds (o::r) st K=(match o.guard with
  | none=>aop P st.env st.h st.n o (λv h n=>aopsS P ds r ⟨putE st.env o.dst v,h,n⟩ K)
  | some (j,want)=>match kba ds j with
   | some d=>match lk st.env d with
    | .sc (.bool b)=>(b=want->aop P ((d,.sc (.bool want))::st.env) st.h st.n o (λv h n=>aopsS P ds r ⟨putE ((d,.sc (.bool want))::st.env) o.dst v,h,n⟩ K))/\
      (b = !want->aopsS P ds r ⟨putE ((d,.sc (.bool (!want)))::st.env) o.dst .ud,st.h,st.n⟩ K)
    | .ud=>aopsS P ds r ⟨putE st.env o.dst .ud,st.h,st.n⟩ K
    | _=>False
   | none=>False):=by rw [kpz]; rfl
section
variable {P:Ye} {ds:Ya (Yb Tmp)} {r:Ya Oper} {env:Env} {h:AH} {n:Nat} {K:St->Prop} {d:Tmp} {op:Op} {ty:Yc} {pos:String} {after:Array Edge}
theorem ksw (m:∀ i:K3,(∀ v h' n',aopsS P ds r ⟨(d,v)::env,h',n'⟩ K->i v h' n')->aop P env h n ⟨some d,op,ty,pos,after,none⟩ i):aopsS P ds (⟨some d,op,ty,pos,after,none⟩::r) ⟨env,h,n⟩ K:=by
 rw [khW]; exact m _ λ_ _ _ h=>h
theorem kqH (m:∀ i:K3,(∀ v h' n',aopsS P ds r ⟨env,h',n'⟩ K->i v h' n')->aop P env h n ⟨none,op,ty,pos,after,none⟩ i):aopsS P ds (⟨none,op,ty,pos,after,none⟩::r) ⟨env,h,n⟩ K:=by
 rw [khW]; exact m _ λ_ _ _ h=>h
end
theorem knQ:∃ f:Ye->Ya (Yb Tmp)->Ya Nat->Ya (Nat×Nat)->Ya Oper->Nat->St->Ya Rec->(St->Prop)->Prop,f=aopsD:=⟨aopsD,rfl⟩
noncomputable def kgj:=Classical.choose knQ
theorem knr:kgj=aopsD:=Classical.choose_spec knQ
theorem ksd (P:Ye) (ds:Ya (Yb Tmp)) (wc:Ya Nat) (rd:Ya (Nat×Nat)) (j:Nat) (st:St) (tr:Ya Rec) (K:St->Prop):kgj P ds wc rd [] j st tr K=(kkc P tr rd/\K st):=by rw [knr]; rfl
theorem kqU (P:Ye) (ds:Ya (Yb Tmp)) (wc:Ya Nat) (rd:Ya (Nat×Nat)) (o:Oper) (r:Ya Oper) (j:Nat) (st:St) (tr:Ya Rec) (K:St->Prop):kgj P ds wc rd (o::r) j st tr K=(match o.guard with
  | none=>stepD P wc rd o j st.env st.h st.n tr λs t=>kgj P ds wc rd r (j+1) s t K
  | some (g,want)=>match kba ds g with
   | some d=>match lk st.env d with
    | .sc (.bool b)=>(b=want->stepD P wc rd o j ((d,.sc (.bool want))::st.env) st.h st.n tr λs t=>kgj P ds wc rd r (j+1) s t K)/\
      (b = !want->kgj P ds wc rd r (j+1) ⟨putE ((d,.sc (.bool (!want)))::st.env) o.dst .ud,st.h,st.n⟩ tr K)
    | .ud=>kgj P ds wc rd r (j+1) ⟨putE st.env o.dst .ud,st.h,st.n⟩ tr K
    | _=>False
   | none=>False):=by rw [knr]; rfl
section
variable {P:Ye} {ds:Ya (Yb Tmp)} {wc:Ya Nat} {r:Ya Oper} {j:Nat} {env:Env} {h:AH} {n:Nat} {tr:Ya Rec} {K:St->Prop} {d:Tmp} {op:Op} {ty:Yc} {pos:String} {after:Array Edge}
end
section
variable {P:Ye} {N:Nat} {D:DX} {O:Nat->Prop} {Q:Exit->St->Prop} {st:St}
def SatL (P:Ye) (N:Nat) (D:DX) (O:Nat->Prop):Ya Code->(Exit->St->Prop)->St->Prop
 | [],Q,st=>Q .normal st
 | c::cs,Q,st=>Sat P N D O c (thenQ (SatL P N D O cs Q) Q) st
theorem Sat.ofL {c:Code} (h:SatL P N D O [c] Q st):Sat P N D O c Q st:=Sat.mono h λe s i=>by cases e <;> exact i
theorem SatL.ofS {c:Code} (h:Sat P N D O c Q st):SatL P N D O [c] Q st:=Sat.mono h λe s i=>by cases e <;> exact i
theorem SatL.mono {cs:Ya Code} {Q':Exit->St->Prop} (i:∀ e s,Q e s->Q' e s):∀ {cs:Ya Code} {st:St},SatL P N D O cs Q st->SatL P N D O cs Q' st
 | [],st,h=>i _ _ h
 | c::cs,st,h=>Sat.mono h λe s m=>by cases e <;> first | exact SatL.mono (cs:=cs) i m | exact i _ _ m
theorem SatL.nil (h:Q .normal st):SatL P N D O [] Q st:=h
theorem SatL.seq {x y:Code} {cs:Ya Code} (h:SatL P N D O (x::y::cs) Q st):SatL P N D O (.seq x y::cs) Q st:=
 Sat.seq (Sat.mono h λe s i=>by cases e <;> exact i)
theorem SatL.skip {cs:Ya Code} (h:SatL P N D O cs Q st):SatL P N D O (.skip::cs) Q st:=Sat.skip h
theorem SatL.exit {id:Nat} {cs:Ya Code} (h:Q (.exit id) st):SatL P N D O (.exit id::cs) Q st:=Sat.exit h
theorem SatL.ret {cs:Ya Code} (h:Q .ret st):SatL P N D O (.ret::cs) Q st:=Sat.ret h
theorem SatL.cond {c:Yf} {x y:Code} {cs:Ya Code} (b:Bool) (t:ev st.env c = .sc (.bool b)) (m:b=true->SatL P N D O (x::cs) Q st) (i:b=false->SatL P N D O (y::cs) Q st) :
  SatL P N D O (.cond c x y::cs) Q st:=Sat.cond t m i
theorem SatL.block {id:Nat} {c:Code} {cs:Ya Code} (h:SatL P N D O [c] (kcB id (thenQ (SatL P N D O cs Q) Q)) st):SatL P N D O (.block id c::cs) Q st:=Sat.block (Sat.ofL h)
theorem SatL.loop {α:Type} {c:Code} {cs:Ya Code} (live:Ya Nat) (I:α->St->Prop) (m:α->Nat) (i:α) (u:I i ⟨keep live st.env,st.h,st.n⟩)
  (round:∀ x s,I x s->SatL P N D O [c] (thenQ (λs'=>∃ t,I t ⟨keep live s'.env,s'.h,s'.n⟩/\m t<m x) (thenQ (SatL P N D O cs Q) Q)) s):SatL P N D O (.loop c::cs) Q st:=
 Sat.loop (λx s=>I x ⟨keep live s.env,s.h,s.n⟩) m i u λx s hI=>Sat.forget _ (kuI live s.env) (Sat.ofL (round x _ hI))
theorem thenN {K:St->Prop} (h:K st):thenQ K Q .normal st:=h
theorem kfl {id:Nat} (h:Q .normal st):kcB id Q (.exit id) st:=by simp only [kcB,if_true]; exact h
theorem kqD {id i:Nat} (m:i≠id) (h:Q (.exit i) st):kcB id Q (.exit i) st:=by simp only [kcB,if_neg m]; exact h
theorem kuP (n:Int) (i:-9223372036854775808<=n) (h2:n<=9223372036854775807):IntKind.i64.wrap n=n:=IntWalk.i64_in n ⟨i,h2⟩
end
attribute [simp↓] ktn khW ksd kqU
attribute [simp] kfF ked kdv kaR keyA keyB keyB1 findA AV.one AV.vl Value.oneCell' putAt kcB stepD isW wants kkc recOf putE cst ev kba thenQ keep abinI abin unK loadK partK kcp kaT loA hiA lenK isCells kbB idxK kbl liveA convK kai callK kax deref kbm srcA kvJ kcd kaZ fillE fillS updH delH
@[simp] theorem kvl (d s:Nat) (v:AV) (l:Env):lk ((d,v)::l) s=if s=d then v else lk l s:=rfl
def FreeL (l:Ya AV):Prop:=∀ c∈l,Free c
@[simp] theorem kgS:FreeL []↔True:=by simp [FreeL]
@[simp] theorem kbV (a:AV) (l:List AV):FreeL (a::l)↔Free a/\FreeL l:=by simp [FreeL]
@[simp] theorem kpu (a l:List AV):FreeL (a++l)↔FreeL a/\FreeL l:=by
 simp only [FreeL,jay];exact ⟨λh=>⟨λc i=>h c (.inl i),λc i=>h c (.inr i)⟩,λh c i=>i.elim (h.1 c) (h.2 c)⟩
theorem FreeL.at {l:Ya AV} (h:FreeL l) (j:Nat) (c:AV) (i:l[j]?=some c):Free c:=h c (jai i)
theorem FreeL.of_at {l:Ya AV} (h:∀ (j:Nat) (c:AV),l[j]?=some c->Free c):FreeL l:=λc m=>by
 obtain ⟨j,i,e⟩:=jdl.1 m;exact h j c (by rw [jaf i,e])
@[simp] theorem kuZ (v:Value):Free (.sc v)↔True:=⟨λ_=>trivial,λ_=>.sc v⟩
@[simp] theorem kjZ (cs:List AV):Free (.fp cs)↔FreeL cs:=⟨λh=>by cases h with | fp _ h=>exact FreeL.of_at h,λh=>.fp cs h.at⟩
@[simp] theorem kjY (cs:List AV):Free (.ag cs)↔FreeL cs:=⟨λh=>by cases h with | ag _ h=>exact FreeL.of_at h,λh=>.ag cs h.at⟩
@[simp] theorem krh (cs:List AV):Free (.tp cs)↔FreeL cs:=⟨λh=>by cases h with | tp _ h=>exact FreeL.of_at h,λh=>.tp cs h.at⟩
@[simp] theorem kfa (f:FuncId) (cs:List AV):Free (.fn f cs)↔FreeL cs:=⟨λh=>by cases h with | fn _ _ h=>exact FreeL.of_at h,λh=>.fn f cs h.at⟩
@[simp] theorem kjX (es:List (List AV)):Free (.sl es)↔∀ e∈es,FreeL e:=by
 refine ⟨λh=>?_,λh=>.sl es λi e y=>(h e (jai y)).at⟩;cases h with
 | sl _ h=>
  intro e t;obtain ⟨j,u,m⟩:=jdl.1 t;exact FreeL.of_at (h j e (by rw [jaf u,m]))
section
variable {P:Ye}
theorem PC.call {f:FuncId} {args:Ya AV} {R:AV->Prop} {h:AH} {n:Nat} {K:K3} (y:PC P f args R) (i:FreeL args) (m:∀ v,R v->K v h n):HC P f args h n K:=
 (y.free i.at h n).mono λ_ _ _ ⟨t,h2,u⟩=>h2 ▸ u ▸ m _ t
theorem PC.call1 {f:FuncId} {args:Ya AV} {r:AV} {h:AH} {n:Nat} {K:K3} (t:PC P f args (·= r)) (i:FreeL args) (m:K r h n):HC P f args h n K:=
 t.call i λ_ e=>e ▸ m
theorem PC.of_body {f:FuncId} {fn:Func} {c:Code} {args:Ya AV} {R:AV->Prop} (y:P.funcs[f]?=some fn) (z:fn.body=some c) (m:(fn.name== "runtime.NumGoroutine")=false) (i:args.length<=fn.ntmps)
  (t:∀ (D:DX) (O:Nat->Prop),D.it=none->SatL P fn.ntmps D O [c] (fnQ P fn.results.toList (λv h _=>∃ u,Snap h v u/\R u)) ⟨kar args,ah0,0⟩):PC P f args R:=
 PC.of_HC (HC.of_body y z m i λD O hD=>Sat.ofL (t D O hD))
end
inductive SnapL (h:AH):List AV->List AV->Prop
 | nil:SnapL h [] []
 | cons {a a':AV} {l l':List AV} (h1:Snap h a a') (h2:SnapL h l l'):SnapL h (a::l) (a'::l')
theorem SnapL.len {h:AH} {l l':Ya AV} (i:SnapL h l l'):l'.length=l.length:=by induction i <;> simp [*]
theorem SnapL.at {h:AH} {l l':Ya AV} (y:SnapL h l l'):∀ (j:Nat) (c t:AV),l[j]?=some c->l'[j]?=some t->Snap h c t:=by
 induction y with
 | nil=>intro j c t m; simp at m
 | cons z h2 u=>
  intro j c t m i;cases j with
  | zero=>simp at m i; subst m; subst i; exact z
  | succ j=>exact u j c t (by simpa using m) (by simpa using i)
theorem SnapL.free {h:AH}:∀ {l:Ya AV},FreeL l->SnapL h l l
 | [],_=>.nil
 | a::l,hf=>.cons (.free a ((kbV a l).1 hf).1) (SnapL.free ((kbV a l).1 hf).2)
theorem Snap.fnL {h:AH} {f:FuncId} {cs i:Ya AV} (m:SnapL h cs i):Snap h (.fn f cs) (.fn f i):=.fn f cs i m.len m.at
theorem Snap.agL {h:AH} {cs i:Ya AV} (m:SnapL h cs i):Snap h (.ag cs) (.ag i):=.ag cs i m.len m.at
theorem Snap.fpL {h:AH} {cs i:Ya AV} (m:SnapL h cs i):Snap h (.fp cs) (.fp i):=.fp cs i m.len m.at
def FlatL (l:Ya AV):Prop:=∀ c∈l,Flat c
theorem FlatL.at {l:Ya AV} (h:FlatL l) (j:Nat) (c:AV) (i:l[j]?=some c):Flat c:=h c (jai i)
@[simp] theorem kvm (cs:List AV):Flat (.ag cs)↔FlatL cs:=⟨λh=>by
 cases h with
 | ag _ h=>
  intro c m;obtain ⟨j,i,e⟩:=jdl.1 m;exact h j c (by rw [jaf i,e]),λh=>.ag cs h.at⟩
@[simp] theorem kvd (cs:List AV):Flat (.tp cs)↔FlatL cs:=⟨λh=>by
 cases h with
 | tp _ h=>
  intro c m;obtain ⟨j,i,e⟩:=jdl.1 m;exact h j c (by rw [jaf i,e]),λh=>.tp cs h.at⟩
section
variable {P:Ye}
theorem PC.lend {f:FuncId} {args i:Ya AV} {R:AV->Prop} {h:AH} {n:Nat} {K:K3} (m:SnapL h args i) (I:PC P f i R) (t:∀ v,R v->Flat v) (u:∀ v,R v->K v h n):HC P f args h n K:=
 (I.lent h n m.len m.at t).mono λ_ _ _ ⟨y,h2,z⟩=>h2 ▸ z ▸ u _ y
theorem PC.lend1 {f:FuncId} {args i:Ya AV} {r:AV} {h:AH} {n:Nat} {K:K3} (u:SnapL h args i) (y:PC P f i (·= r)) (m:Flat r) (t:K r h n):HC P f args h n K:=
 y.lend u (λ_ e=>e ▸ m) λ_ e=>e ▸ t
end
attribute [simp] aop
def w64 (x:Int):Int:=IntKind.i64.wrap x
theorem kbs {x:Int} (i:-9223372036854775808<=x) (h2:x<=9223372036854775807):w64 x=x:=kuP x i h2
def gi {α:Type} (l:Ya α) (i:Int):Yb α:=if 0<=i then l[i.toNat]? else none
theorem kmk {α:Type} {l:Ya α} {i:Int} {y:α} (h:gi l i=some y):0<=i/\l[i.toNat]?=some y:=by
 unfold gi at h;split at h
 ·exact ⟨by assumption,h⟩
 ·cases h
@[simp] theorem kvK {α:Type} (l:List α) (i:Nat):gi l (i:Int)=l[i]?:=by simp [gi]
def gs {α:Type} (l:Ya α) (i:Int) (x:α):Yb (Ya α):=if 0<=i/\i.toNat<l.length then some (l.set i.toNat x) else none
def gapp {α:Type} (l xs:Ya α):Yb (Ya α):=if l.length+xs.length<=1048576 then some (l++xs) else none
theorem keY {α:Type} {l xs l':Ya α} (h:gapp l xs=some l'):l.length+xs.length<=1048576/\l'=l++xs:=by
 unfold gapp at h;split at h
 ·cases h; exact ⟨by assumption,rfl⟩
 ·cases h
def gmk {α:Type} (n:Int) (z:α):Yb (Ya α):=if 0<=n/\n<=1048576 then some (List.replicate n.toNat z) else none
theorem krw {α:Type} {n:Int} {z:α} {l':Ya α} (h:gmk n z=some l'):0<=n/\n<=1048576/\l'=List.replicate n.toNat z:=by
 unfold gmk at h;split at h
 ·rename_i i; cases h; exact ⟨i.1,i.2,rfl⟩
 ·cases h
def gsl {α:Type} (l:Ya α) (i m:Int):Yb (Ya α):=if 0<=i/\i<=m/\m<=l.length then some ((l.take m.toNat).drop i.toNat) else none
theorem kjV {α:Type} {l l':Ya α} {i m:Int} (h:gsl l i m=some l'):0<=i/\i<=m/\m<=l.length/\l'=(l.take m.toNat).drop i.toNat:=by
 unfold gsl at h;split at h
 ·rename_i t; cases h; exact ⟨t.1,t.2.1,t.2.2,rfl⟩
 ·cases h
def hl:Ya (Nat×Yb ABlk)->AH
 | [],_=>none
 | (i,B)::l,j=>if j=i then B else hl l j
section
variable {P:Ye} {env:Env} {h:AH} {L L':Ya (Nat×Yb ABlk)} {n:Nat} {K:K3} {d:Yb Tmp} {ty:Yc} {pos:String} {after:Array Edge} {g:Yb (Nat×Bool)}
section
variable {T:Yc} {k:IntKind} {a b:Int} {F:AV->Prop}
end
theorem s_ext {x:Yf} {i:Nat} {cs:Ya AV} {c:AV} (u:ev env x = .tp cs) (t:cs[i]?=some c) (m:K c h n):aop P env h n ⟨d,.extract x i,ty,pos,after,g⟩ K:=by simp only [aop,u]; exact ⟨c,t,m⟩
theorem krq {T:Yc} {i:Array (Nat×Yf)} {z cs:Ya AV} {pl:Ya (Nat×Nat)} (hz:zeroO P T=some z) (hp:kfZ P T=some pl) (m:fillS pl env i.toList z=some cs) (t:K (.ag cs) h n):aop P env h n ⟨d,.build T i,ty,pos,after,g⟩ K:=by
 simp only [aop,hz,hp,m]; exact t
theorem kdS {c:Call} {f:Yf} {t:FuncId} {i m:Ya AV} (y:c.callee = .value f) (z:ev env f = .fn t i) (u:c.args.toList.map (ev env)++i=m) (I:HC P t m h n K):aop P env h n ⟨d,.call c,ty,pos,after,g⟩ K:=by
 obtain ⟨callee,args,ts⟩:=c;simp only at y u;subst y;simp only [aop,callK,z];rw [u]; exact I
end
section
variable {P:Ye} {env:Env} {h:AH} {L L':Ya (Nat×Yb ABlk)} {n:Nat} {K:K3} {d:Yb Tmp} {ty:Yc} {pos:String} {after:Array Edge} {g:Yb (Nat×Bool)}
theorem kvB {T:Yc} {x i:Yf} {k:IntKind} {l:Ya UInt8} {j:Int} {y:UInt8} (hT:P.underlying T=some .string) (U:ev env x = .sc (.string ⟨l.toArray⟩)) (S:ev env i = .sc (.int k j)) (J:gi l j=some y)
  (t:K (.sc (.int .u8 (y.toNat:Int))) h n):aop P env h n ⟨d,.index T x i,ty,pos,after,g⟩ K:=by
 obtain ⟨u,g1⟩:=kmk J;have m:=(jae.1 g1);simp only [aop,U,S,idxK];refine ⟨hT,u,y,?_,t⟩;obtain ⟨z,h2⟩:=m;have I:j.toNat<(⟨l.toArray⟩:ByteArray).size:=by simpa [ByteArray.size] using z
 rw [getElem?_pos (⟨l.toArray⟩:ByteArray) j.toNat I];exact congrArg some h2
theorem kul {T:Yc} {x:Yf} {l:Ya UInt8} (hT:P.underlying T=some .string) (m:ev env x = .sc (.string ⟨l.toArray⟩)) (i:K (.sc (.int .i64 l.length)) h n):aop P env h n ⟨d,.call ⟨.builtin .len,#[x],#[T]⟩,ty,pos,after,g⟩ K:=by
 simp only [aop,kai,m,lenK]; exact ⟨hT,by simpa [ByteArray.size] using i⟩
end
def mget {κ β:Type} [DecidableEq κ]:Ya (κ×β)->κ->Yb β
 | [],_=>none
 | p::r,k=>if k=p.1 then some p.2 else mget r k
def mput {κ β:Type} [DecidableEq κ]:Ya (κ×β)->κ->β->Ya (κ×β)
 | [],k,v=>[(k,v)]
 | p::r,k,v=>if k=p.1 then (k,v)::r else p::mput r k v
abbrev kvE {κ β:Type} (kf:κ->Value) (vf:β->AV) (p:κ×β):Value×AV:=(kf p.1,vf p.2)
abbrev ki (n:Int):Value:=.int .i64 n
abbrev ks (l:List UInt8):Value:=.string ⟨l.toArray⟩
theorem kvS (a b:Ya UInt8):((⟨a.toArray⟩:ByteArray)==⟨b.toArray⟩)=decide (a=b):=by
 show (a.toArray==b.toArray)=decide (a=b);by_cases h:a=b <;> simp [h]
theorem ksZ (a b:Ya UInt8):keyB (ks a) (ks b)=decide (a=b):=kvS a b
theorem knB {κ β:Type} [DecidableEq κ] {kf:κ->Yd} {vf:β->AV} (m:∀ a b,keyB (kf a) (kf b)=decide (a=b)) (k:κ):∀ (E:Ya (κ×β)) (i:Nat),(findA (kf k) (E.map (kvE kf vf)) i).map (·.2)=(mget E k).map vf
 | [],i=>rfl
 | p::r,i=>by
  simp only [jat,findA,mget,m,jak];split
  ·rfl
  ·exact knB m k r (i+1)
theorem khb {κ β:Type} [DecidableEq κ] {kf:κ->Yd} {vf:β->AV} (m:∀ a b,keyB (kf a) (kf b)=decide (a=b)) (k:κ) (v:β):∀ (E F:Ya (κ×β)),(match findA (kf k) (E.map (kvE kf vf)) F.length with | some (i,_)=>((F++E).map (kvE kf vf)).set i (kf k,vf v) | none=>(F++E).map (kvE kf vf)++[(kf k,vf v)])=(F++mput E k v).map (kvE kf vf)
 | [],F=>by simp [findA,mput]
 | p::r,F=>by
  simp only [jat,findA,mput,m,jak];split
  ·rename_i i a t;split at t
   ·cases t;rename_i u;subst u;simp [List.set_append]
   ·rename_i u;have:=khb (vf:=vf) m k v r (F++[p]);rw [jax,List.length_singleton,t] at this;simpa [u] using this
  ·rename_i t;split at t
   ·cases t
   ·rename_i u;have:=khb (vf:=vf) m k v r (F++[p]);rw [jax,List.length_singleton,t] at this;simpa [u] using this
section
variable {P:Ye} {env:Env} {h:AH} {L L':Ya (Nat×Yb ABlk)} {n:Nat} {K:K3} {d:Yb Tmp} {ty:Yc} {pos:String} {after:Array Edge} {g:Yb (Nat×Bool)}
theorem lkK {κ β:Type} [DecidableEq κ] {T kt e:Yc} {id:Nat} {S:AV} {E:Ya (κ×β)} {kf:κ->Yd} {vf:β->AV} {k:κ} {z0:β} {z:Yd} {ok:Bool} {F:AV->Prop} (I:keyA S=some (kf k)) (hT:mapO P T=some (kt,e)) (hz:zvO P e=some z) (J:cst z=vf z0) (y:∀ a b,keyB (kf a) (kf b)=decide (a=b)) (u:∀ a,kaR P kt (kf a))
  (X:h id=some (.map (E.map (kvE kf vf)))) (hK:F (if ok then .tp [vf ((mget E k).getD z0),bool (mget E k).isSome] else vf ((mget E k).getD z0))):ked P h T (.mp id) S ok F:=by
 simp only [ked,I,hT,X];refine ⟨u k,λx Y=>?_,?_⟩
 ·obtain ⟨p,_,rfl⟩:=jba.1 Y; exact u _
 ·have m:=knB (vf:=vf) y k E 0;cases U:findA (kf k) (E.map (kvE kf vf)) 0 with
  | none=>
   rw [U] at m;cases t:mget E k with
   | none=>rw [t] at hK; simp only [hz]; rw [J]; exact hK
   | some v=>rw [t] at m; simp at m
  | some q=>
   obtain ⟨i,v⟩:=q;rw [U] at m;cases t:mget E k with
   | none=>rw [t] at m; simp at m
   | some Z=>
    rw [t] at m hK;simp only [jcb,Option.some.injEq] at m;subst m;exact hK
end
section
variable {P:Ye} {N:Nat} {D:DX} {O:Nat->Prop} {Q:Exit->St->Prop} {st s:St} {c:Code} {cs:Ya Code} {env env':Env} {L L':Ya (Nat×Yb ABlk)} {n:Nat} {h:AH}
theorem SatL.condT {x:Yf} {a b:Code} {v:Bool} (t:ev env x = .sc (.bool v)) (i:v=true) (m:SatL P N D O (a::cs) Q ⟨env,h,n⟩):SatL P N D O (.cond x a b::cs) Q ⟨env,h,n⟩:=
 SatL.cond v t (λ_=>m) λe=>by rw [i] at e; cases e
theorem SatL.condF {x:Yf} {a b:Code} {v:Bool} (t:ev env x = .sc (.bool v)) (i:v=false) (m:SatL P N D O (b::cs) Q ⟨env,h,n⟩):SatL P N D O (.cond x a b::cs) Q ⟨env,h,n⟩:=
 SatL.cond v t (λe=>by rw [i] at e; cases e) λ_=>m
theorem SatL.condX {x:Yf} {a b:Code} {v:Bool} (t:ev env x = .sc (.bool v)) (m:v=true->SatL P N D O (a::cs) Q ⟨env,h,n⟩) (i:v=false->SatL P N D O (b::cs) Q ⟨env,h,n⟩):SatL P N D O (.cond x a b::cs) Q ⟨env,h,n⟩:=
 SatL.cond v t m i
end
theorem FreeL.nil:FreeL []:=λ_ h=>by cases h
theorem FreeL.cons {a:AV} {l:Ya AV} (h:Free a) (hl:FreeL l):FreeL (a::l):=(kbV a l).2 ⟨h,hl⟩
theorem Free.fpl {cs:Ya AV} (h:FreeL cs):Free (.fp cs):=(kjZ cs).2 h
abbrev str (l:List UInt8):AV:=.sc (.string ⟨l.toArray⟩)
abbrev str1 (l:List UInt8):List AV:=[str l]
abbrev sl1 {α:Type} (f:α->List AV) (l:List α):List AV:=[.sl (l.map f)]
def un0 {α:Type} (_:Unit) (f:α):α:=f
def un1 {A α:Type} (s:A) (f:A->α):α:=f s
def un2 {A B α:Type} (s:A×B) (f:A->B->α):α:=f s.1 s.2
def un3 {A B C α:Type} (s:A×B×C) (f:A->B->C->α):α:=f s.1 s.2.1 s.2.2
def un4 {A B C E α:Type} (s:A×B×C×E) (f:A->B->C->E->α):α:=f s.1 s.2.1 s.2.2.1 s.2.2.2
def un5 {A B C E F α:Type} (s:A×B×C×E×F) (f:A->B->C->E->F->α):α:=f s.1 s.2.1 s.2.2.1 s.2.2.2.1 s.2.2.2.2
def un6 {A B C E F G α:Type} (s:A×B×C×E×F×G) (f:A->B->C->E->F->G->α):α:=f s.1 s.2.1 s.2.2.1 s.2.2.2.1 s.2.2.2.2.1 s.2.2.2.2.2
def sumE {R S α:Type} (s:R⊕S) (f:R->α) (g:S->α):α:=match s with | .inl r=>f r | .inr x=>g x
section
variable {A B C E F G R α:Type} {a:A} {b:B} {c:C} {e:E} {f:F} {g:G} {x:α} {p:R->α}
end
attribute [simp] un0 un1 un2 un3 un4 un5 un6 sumE
def ptrE {α:Type} (f:α->Ya AV) (o:Yb α):AV:=match o with | some x=>.fp (f x) | none=>.sc (.pointer none)
theorem ktz {α:Type} {f:α->Ya AV} (i:∀ y,FreeL (f y)) (o:Yb α):Free (ptrE f o):=by
 cases o with
 | none=>exact .sc _
 | some x=>exact Free.fpl (i x)
def muI (I:Ya Nat) (μ:Mu):Mu:=λi=>if I.contains i then μ i else none
def muO (I:Ya Nat) (μ:Mu):Mu:=λi=>if I.contains i then none else μ i
theorem kam {I:Ya Nat} {μ:Mu} {i:Nat} {x:Nat×Nat} (h:muI I μ i=some x):I.contains i=true/\μ i=some x:=by
 unfold muI at h; split at h
 ·exact ⟨by assumption,h⟩
 ·cases h
theorem kay {I:Ya Nat} {μ:Mu} {i:Nat} {x:Nat×Nat} (h:muO I μ i=some x):I.contains i=false/\μ i=some x:=by
 unfold muO at h; split at h
 ·cases h
 ·rename_i m; exact ⟨by simpa using m,h⟩
theorem kud {O:Nat->Prop} {I:Ya Nat} {μ:Mu} {b:Nat} (h:Av (Av O (muO I μ)) (muI I μ) b):Av O μ b:=by
 rcases h with (h | ⟨id,k,h⟩) | ⟨id,k,h⟩
 ·exact .inl h
 ·exact .inr ⟨id,k,(kay h).2⟩
 ·exact .inr ⟨id,k,(kam h).2⟩
theorem VR.sub {w:World} {O O':Nat->Prop} {μ μ':Mu} {n:Nat} (hA:∀ b,Av O' μ' b->Av O μ b) (X:∀ id b k,μ' id=some (b,k)->μ id=some (b,k)) {a:AV} {v:Yd} (z:VR w O μ n a v):VR w O' μ' n a v:=by
 induction z with
 | sc v m=>exact .sc v m
 | ud=>exact .ud
 | gs es=>exact .gs es
 | un v=>exact .un v
 | e0 p=>exact .e0 p
 | own id i j v h m z=>exact .own id i j v h m λb k e=>z b k (X _ _ _ e)
 | ms id off len v h m z=>exact .ms id off len v h m λb k e=>z b k (X _ _ _ e)
 | mp id v h m z=>exact .mp id v h m λb k e=>z b k (X _ _ _ e)
 | fp cs b o us hA' u m _ t=>exact .fp cs b o us (λy U=>hA' y (hA _ U)) u m t
 | slnil p=>exact .slnil p
 | sl es b o cap k us I J hA' Y u m _ t=>exact .sl es b o cap k us I J (λi e Z y U=>hA' i e Z y (hA _ U)) Y u m t
 | fn f cs vs us S u _ t=>exact .fn f cs vs us S u t
 | ag cs vs us S u m _ t=>exact .ag cs vs us S u m t
 | tp cs vs us S u _ t=>exact .tp cs vs us S u t
theorem VR.split {w:World} {O:Nat->Prop} {μ:Mu} {n:Nat} (I:Ya Nat) {a:AV} {v:Yd} (i:VR w O μ n a v):VR w (Av O (muO I μ)) (muI I μ) n a v:=
 i.sub (λ_ h=>kud h) λ_ _ _ e=>(kam e).2
theorem VR.out {w:World} {O:Nat->Prop} {μ:Mu} {n:Nat} (I:Ya Nat) {a:AV} {v:Yd} (m:VR w O μ n a v):VR w O (muO I μ) n a v:=
 m.sub (λ_ h=>h.imp id λ⟨i,k,h⟩=>⟨i,k,(kay h).2⟩) λ_ _ _ e=>(kay e).2
theorem BlkAt.mapV {w:World} {O O':Nat->Prop} {μ μ':Mu} {n id:Nat} {B:ABlk} (y:BlkAt w O μ n id B) (I:μ' id = μ id) (Y:∀ {a:AV} {v:Yd},VR w O μ n a v->VR w O' μ' n a v):BlkAt w O' μ' n id B:=by
 cases B with
 | cells k T es=>
  obtain ⟨b,c,m,h2,t⟩:=y;refine ⟨b,c,I.trans m,h2,λi e z=>⟨(t i e z).1,λj a hj=>?_⟩⟩;obtain ⟨J,u,S,X⟩:=(t i e z).2 j a hj;exact ⟨J,u,S,Y X⟩
 | map Z=>
  obtain ⟨b,es,m,h2,t,J⟩:=y;refine ⟨b,es,I.trans m,h2,t,λi x z=>?_⟩;obtain ⟨e,S,X,h7,h8,h9⟩:=J i x z;exact ⟨e,S,X,h7,h8,Y h9⟩
 | si s pos=>
  obtain ⟨b,m,h2⟩:=y;exact ⟨b,I.trans m,h2⟩
 | mi aa U seen=>
  obtain ⟨b,bm,m,h2,t⟩:=y;exact ⟨b,bm,I.trans m,h2,Y t⟩
theorem PC.eat {P:Ye} {f:FuncId} {args m:Ya AV} {r:AV} {h hE h':AH} {n:Nat} {K:K3} (I:Ya Nat) (hi:∀ i B,hE i=some B->I.contains i=true/\h i=some B) (ho:∀ i B,h' i=some B->I.contains i=false/\h i=some B)
  (hs:SnapL hE args m) (hc:PC P f m (·= r)) (hk:K r h' n):HC P f args h n K:=by
 refine ⟨hc.1,λO μ w vs hr Z S=>?_⟩;have hrI:HR w (Av O (muO I μ)) (muI I μ) hE n:=by
  refine ⟨hr.olt.av (λb t=>?_),λid b k e=>hr.scope id b k (kam e).2,λid y b k U e e'=>hr.inj id y b k U (kam e).2 (kam e').2,λid b k e hO=>?_,λid B hB=>?_⟩
  ·rcases t with t | ⟨id,k,t⟩
   ·exact hr.olt b t
   ·exact (hr.scope id b k (kay t).2).2
  ·obtain ⟨X,Y⟩:=kam e;rcases Or.symm hO with hO | hO | ⟨y,U,hO⟩
   ·exact hr.notO id b k Y (.inr hO)
   ·exact hr.notO id b k Y (.inl hO)
   ·obtain ⟨e3,e4⟩:=kay hO;rw [hr.inj _ _ _ _ _ Y e4] at X;rw [X] at e3; cases e3
  ·obtain ⟨z,h2⟩:=hi id B hB;exact (hr.blk id B h2).mapV (by simp only [muI]; rw [if_pos z]) λS=>S.split I
 have hrO:HR w O (muO I μ) h' n:=by
  refine ⟨hr.olt,λid b k e=>hr.scope id b k (kay e).2,λid y b k U e e'=>hr.inj id y b k U (kay e).2 (kay e').2,λid b k e=>hr.notO id b k (kay e).2,λid B hB=>?_⟩;obtain ⟨z,h2⟩:=ho id B hB;exact (hr.blk id B h2).mapV (by simp only [muO]; rw [if_neg (by rw [z]; decide)]) λS=>S.out I
 have he:Evo w μ n w (muO I μ) n:=⟨rfl,rfl,⟨rfl,jah _⟩,jah _,jah _,λ_ _ _=>rfl,λb c T f t _=>⟨c,t,rfl⟩,λi _=>by unfold muO; split <;> simp,λi b k e hn=>absurd (hr.scope i b k (kay e).2).1 (by omega)⟩;refine (hc.2 (Av O (muO I μ)) w vs hrI.olt (by rw [Z,hs.len]) (λj c' hj=>?_)).mono ?_
 ·obtain ⟨c,J⟩:=kag hs.len hj;obtain ⟨u,z,h2⟩:=S j c J;exact ⟨u,z,(hs.at j c c' J hj).vr hrI (h2.split I)⟩
 ·rintro e w' ⟨u,v,rfl,rfl,q2,q3⟩;obtain ⟨X,z⟩:=Evo.of_below hrO q3;exact ⟨u,_,h',n,muO I μ,rfl,hk,z,q2.lift λb t=>t,he.trans X⟩
end Go.Abs
namespace Go.Abs
end Go.Abs
namespace Go.Abs
open Go Go.RowKit
section
variable {P:Ye} {ds:Ya (Yb Tmp)} {wc:Ya Nat} {rd:Ya (Nat×Nat)} {r:Ya Oper} {j:Nat} {env:Env} {h h':AH} {n n':Nat} {tr:Ya Rec} {K:St->Prop} {dst:Yb Tmp} {d:Tmp} {op:Op} {ty:Yc} {pos:String} {after:Array Edge} {o:Oper} {next:St->Ya Rec->Prop} {g:Yb (Nat×Bool)}
end
section
variable {P:Ye} {ds:Ya (Yb Tmp)} {r:Ya Oper} {env:Env} {h h':AH} {n n':Nat} {K:St->Prop} {d:Tmp} {op:Op} {ty:Yc} {pos:String} {after:Array Edge} {v:AV}
theorem st (t:∀ i:K3,i v h' n'->aop P env h n ⟨some d,op,ty,pos,after,none⟩ i) (m:aopsS P ds r ⟨(d,v)::env,h',n'⟩ K):aopsS P ds (⟨some d,op,ty,pos,after,none⟩::r) ⟨env,h,n⟩ K:=
 ksw λ_ hK=>t _ (hK _ _ _ m)
theorem s0 (t:∀ i:K3,i v h' n'->aop P env h n ⟨none,op,ty,pos,after,none⟩ i) (m:aopsS P ds r ⟨env,h',n'⟩ K):aopsS P ds (⟨none,op,ty,pos,after,none⟩::r) ⟨env,h,n⟩ K:=
 kqH λ_ hK=>t _ (hK _ _ _ m)
end
inductive On (p:Nat->Bool):AV->Prop
 | free (a:AV) (h:Free a):On p a
 | own (id i j:Nat) (h:p id=true):On p (.own id i j)
 | ms (id off len:Nat) (h:p id=true):On p (.ms id off len)
 | mp (id:Nat) (h:p id=true):On p (.mp id)
 | fn (f:FuncId) (cs:List AV) (h:∀ (j:Nat) (c:AV),cs[j]?=some c->On p c):On p (.fn f cs)
 | ag (cs:List AV) (h:∀ (j:Nat) (c:AV),cs[j]?=some c->On p c):On p (.ag cs)
 | tp (cs:List AV) (h:∀ (j:Nat) (c:AV),cs[j]?=some c->On p c):On p (.tp cs)
def OnB (p:Nat->Bool):ABlk->Prop
 | .cells _ _ es=>∀ e∈es,∀ a∈e,On p a
 | .map i=>∀ x∈i,On p x.2
 | .si _ _=>True
 | .mi m _ _=>p m=true
def muP (p:Nat->Bool) (μ:Mu):Mu:=λi=>if p i then μ i else none
theorem kaz {p:Nat->Bool} {μ:Mu} {i:Nat} {x:Nat×Nat} (h:muP p μ i=some x):p i=true/\μ i=some x:=by
 unfold muP at h; split at h
 ·exact ⟨by assumption,h⟩
 ·cases h
theorem VR.on {w:World} {O1 O2:Nat->Prop} {S U:Mu} {n1 Y:Nat} {p:Nat->Bool} {a:AV} (ho:On p a) (hp:∀ id,p id=true->U id = S id/\id<Y) (J:∀ b,Av O2 U b->Av O1 S b):∀ {v:Yd},VR w O1 S n1 a v->VR w O2 U Y a v:=by
 induction ho with
 | free a h=>intro v m; exact (m.free h J).lift λb Z=>Z
 | own id i j h=>
  intro v m;cases m with
  | own _ _ _ _ X u m=>exact .own id i j v (hp id h).2 u λb k e=>m b k ((hp id h).1 ▸ e)
 | ms id off len h=>
  intro v m;cases m with
  | ms _ _ _ _ X u m=>exact .ms id off len v (hp id h).2 u λb k e=>m b k ((hp id h).1 ▸ e)
 | mp id h=>
  intro v m;cases m with
  | mp _ _ X u m=>exact .mp id v (hp id h).2 u λb k e=>m b k ((hp id h).1 ▸ e)
 | fn f cs h z=>
  intro v m;cases m with
  | fn _ _ vs us y I hr=>exact .fn f cs vs us y I λj c t=>z j c t (hr j c t)
 | ag cs h z=>
  intro v m;cases m with
  | ag _ vs us y I u hr=>exact .ag cs vs us y I u λj c t=>z j c t (hr j c t)
 | tp cs h z=>
  intro v m;cases m with
  | tp _ vs us y I hr=>exact .tp cs vs us y I λj c t=>z j c t (hr j c t)
theorem BlkAt.on {w:World} {O1 O2:Nat->Prop} {J U:Mu} {n1 n2 id:Nat} {p:Nat->Bool} {B:ABlk} (I:BlkAt w O1 J n1 id B) (ho:OnB p B) (S:U id = J id) (hp:∀ id,p id=true->U id = J id/\id<n2) (m:∀ b,Av O2 U b->Av O1 J b):BlkAt w O2 U n2 id B:=by
 cases B with
 | cells k T es=>
  obtain ⟨b,c,t,h2,y⟩:=I;refine ⟨b,c,S.trans t,h2,λi e z=>⟨(y i e z).1,λj a hj=>?_⟩⟩;obtain ⟨X,u,Y,h6⟩:=(y i e z).2 j a hj;exact ⟨X,u,Y,h6.on (ho e (jai z) a (jai hj)) hp m⟩
 | map ab=>
  obtain ⟨b,es,t,h2,y,X⟩:=I;refine ⟨b,es,S.trans t,h2,y,λi x z=>?_⟩;obtain ⟨e,Y,h6,h7,h8,h9⟩:=X i x z;exact ⟨e,Y,h6,h7,h8,h9.on (ho x (jai z)) hp m⟩
 | si s pos=>
  obtain ⟨b,t,h2⟩:=I;exact ⟨b,S.trans t,h2⟩
 | mi aa Z seen=>
  obtain ⟨b,bm,t,h2,y⟩:=I;exact ⟨b,bm,S.trans t,h2,y.on (.mp aa ho) hp m⟩
theorem knR {O:Nat->Prop} {p:Nat->Bool} {μ:Mu} {b:Nat} (h:Av (Av O (muP p μ)) (muP (λi=>!p i) μ) b):Av O μ b:=by
 rcases h with (h | ⟨id,k,h⟩) | ⟨id,k,h⟩
 ·exact .inl h
 ·exact .inr ⟨id,k,(kaz h).2⟩
 ·exact .inr ⟨id,k,(kaz h).2⟩
theorem VR.splitP {w:World} {O:Nat->Prop} {μ:Mu} {n:Nat} (p:Nat->Bool) {a:AV} {v:Yd} (z:VR w O μ n a v):VR w (Av O (muP p μ)) (muP (λi=>!p i) μ) n a v:=by
 induction z with
 | sc v m=>exact .sc v m
 | ud=>exact .ud
 | gs es=>exact .gs es
 | un v=>exact .un v
 | e0 p=>exact .e0 p
 | own id i j v h m z=>exact .own id i j v h m λb k e=>z b k (kaz e).2
 | ms id off len v h m z=>exact .ms id off len v h m λb k e=>z b k (kaz e).2
 | mp id v h m z=>exact .mp id v h m λb k e=>z b k (kaz e).2
 | fp cs b o us hA u m _ t=>exact .fp cs b o us (λy U=>hA y (knR U)) u m t
 | slnil p=>exact .slnil p
 | sl es b o cap k us I J hA X u m _ t=>exact .sl es b o cap k us I J (λi e Y y U=>hA i e Y y (knR U)) X u m t
 | fn f cs vs us S u _ t=>exact .fn f cs vs us S u t
 | ag cs vs us S u m _ t=>exact .ag cs vs us S u m t
 | tp cs vs us S u _ t=>exact .tp cs vs us S u t
section
variable {P:Ye} {f:FuncId} {args:Ya AV}
end
def eqVF (P:Ye) (i:Yc->Ya Yd->Ya Yd->Yb Bool):Ya Field->Ya Yd->Ya Yd->Yb Bool
 | [],_,_=>some true
 | f::fs,xs,ys=>if f.name = "_"\/xs.length<f.offset+P.cellsOf f.type\/ys.length<f.offset+P.cellsOf f.type then none else
  match aggO P f.type with
  | none=>none
  | some ag=>if ag=false/\P.cellsOf f.type≠1 then none else
   match i f.type ((xs.drop f.offset).take (P.cellsOf f.type)) ((ys.drop f.offset).take (P.cellsOf f.type)),eqVF P i fs xs ys with
   | some r,some s=>some (r&&s)
   | _,_=>none
def eqV (P:Ye):Nat->Yc->Ya Yd->Ya Yd->Yb Bool
 | 0,_,_,_=>none
 | d+1,t,xs,ys=>match P.underlying t,xs,ys with
  | some .bool,[.bool a],[.bool b]=>some (a==b)
  | some (.int _),[.int k a],[.int k' b]=>if k=k' then some (a==b) else none
  | some .string,[.string a],[.string b]=>some (a.toList==b.toList)
  | some (.struct fs),xs,ys=>if P.stoodInHeld t then none else eqVF P (eqV P d) fs.toList xs ys
  | _,_,_=>none
theorem koX (P:Ye):∀ (d:Nat),(∀ t xs ys r,eqV P d t xs ys=some r->∀ D w,(Op.equalIn (D+d) t (voC P t xs) (voC P t ys)).run P w = .ok r w)/\
  (∀ u (X Y:Array Yd) r,eqVF P (eqV P d) u X.toList Y.toList=some r->∀ D w,(Op.eqFields (D+d) X Y u).run P w = .ok r w)
 | 0=>by
  refine ⟨λt xs ys r h=>by simp [eqV] at h,λu X Y r h D w=>?_⟩;cases u with
  | nil=>simp [eqVF] at h; subst h; simp [Op.eqFields]
  | cons f u=>
   unfold eqVF at h;split at h
   ·cases h
   ·split at h
    ·cases h
    ·split at h
     ·cases h
     ·simp [eqV] at h
 | d+1=>by
  obtain ⟨aa,J⟩:=koX P d;have first:∀ t xs ys r,eqV P (d+1) t xs ys=some r->∀ D w,(Op.equalIn (D+(d+1)) t (voC P t xs) (voC P t ys)).run P w = .ok r w:=by
   intro t xs ys r h D w;unfold eqV at h;split at h
   ·rename_i a b m;cases h;have i:aggO P t=some false:=by simp [aggO,m]
    simp only [voC,i,List.headD_cons];exact run_equalIn_bool w (D+d) t a b m
   ·rename_i k0 k a k' b m;split at h
    ·rename_i hk; subst hk; cases h;have i:aggO P t=some false:=by simp [aggO,m]
     simp only [voC,i,List.headD_cons];exact run_equalIn_int w (D+d) t k k0 a b m
    ·cases h
   ·rename_i a b m;cases h;have i:aggO P t=some false:=by simp [aggO,m]
    simp only [voC,i,List.headD_cons];exact run_equalIn_string w (D+d) t a b m
   ·rename_i u m;split at h
    ·cases h
    ·rename_i hp;have i:aggO P t=some true:=by simp [aggO,m]
     have U:P.fieldsOf t=u:=by simp [Program.fieldsOf,m]
     simp only [voC,i];rw [show D+(d+1)=(D+d)+1 from rfl,run_equalIn_struct w (D+d) t _ _ (by rw [U]; exact m) (by simpa using hp),U];exact J u.toList _ _ r (by simpa using h) D w
   ·cases h
  refine ⟨first,?_⟩;intro u;induction u with
  | nil=>intro X Y r h D w; simp [eqVF] at h; subst h; simp [Op.eqFields]
  | cons f u I=>
   intro X Y r h D w;unfold eqVF at h;split at h
   ·cases h
   ·rename_i S;split at h
    ·cases h
    ·rename_i ag i;split at h
     ·cases h
     ·rename_i h1;split at h
      ·rename_i Z s1 e1 e2;cases h;have hn:f.name≠ "_":=λe=>S (.inl e);have hx:f.offset+P.cellsOf f.type<=X.size:=by
        have:=λe=>S (.inr (.inl e)); simpa using this
       have hy:f.offset+P.cellsOf f.type<=Y.size:=by
        have:=λe=>S (.inr (.inr e)); simpa using this
       have y:ag=false->P.cellsOf f.type=1:=λe=>by
        apply Classical.byContradiction; intro z; exact h1 ⟨e,z⟩
       have q1:=first _ _ _ _ e1 D w
       have q2:=I X Y s1 e2 D w;simp only [Op.eqFields,hn,ne_eq,not_false_eq_true,if_true,Sem.run_bind,kdn i hx y,kdn i hy y,Result.andThen_ok,q1];cases Z
       ·simp
       ·simpa using q2
      ·cases h
theorem kvH {P:Ye} {h:AH} {T:Yc} {asZ bs:Ya AV} {xs ys:Ya Yd} {d:Nat} {r r':Bool} (J:d<=Op.maxDepth) (i:aggO P T=some true) (S:P.eqGuardType P.depth T=false) (hx:scV asZ=some xs) (hy:scV bs=some ys) (he:eqV P d T xs ys=some r) (hr:r=r') :
  Cmp P h .eql T (.ag asZ) (.ag bs) (·= r')/\Cmp P h .neq T (.ag asZ) (.ag bs) (·= !r'):=by
 subst hr;have key:∀ (w:World) (O:Nat->Prop) (μ:Mu) (n:Nat) (u v:Yd),VR w O μ n (.ag asZ) u->VR w O μ n (.ag bs) v->∃ X Y:Array Yd,u = .agg X/\v = .agg Y/\(Op.equal T (.agg X) (.agg Y)).run P w = .ok r w:=by
  intro w O μ n u v t z;obtain ⟨X,rfl,hX,hX2⟩:=t.ag_cells;obtain ⟨Y,rfl,hY,hY2⟩:=z.ag_cells;have eX:=klZ X.toList hx (by simpa using hX) λj c I=>by
   obtain ⟨_,y,m,h2⟩:=hX2 j c I; exact ⟨y,by simpa using m,h2⟩
  have eY:=klZ Y.toList hy (by simpa using hY) λj c I=>by
   obtain ⟨_,y,m,h2⟩:=hY2 j c I; exact ⟨y,by simpa using m,h2⟩
  subst eX; subst eY;refine ⟨X,Y,rfl,rfl,?_⟩;have:=(koX P d).1 T _ _ r he (Op.maxDepth-d) w;rw [Nat.sub_add_cancel J] at this;have e:∀ Z:Array Yd,Z.toList.toArray=Z:=λZ=>rfl;simp only [voC,i,e] at this;exact this
 constructor;all_goals
  intro w O μ n u v X Y hr t z;obtain ⟨A,B,rfl,rfl,U⟩:=key w O μ n u v t z;refine ⟨_,rfl,?_⟩;simp [eqGuard,S,binOp,U]
theorem kkK {P:Ye} {T e:Yc} (hT:P.underlying T=some (.slice e)) (p:Yb Addr) (l c:Nat) (w:World):(Op.equal T (.slice p l c) (.slice none 0 0)).run P w = .ok p.isNone w:=
 run_equal_slice_nil w T e p l c hT
theorem kur {P:Ye} {h:AH} {T e:Yc} {a:AV} {S:Bool->Prop} (hT:P.underlying T=some (.slice e))
  (y:∀ (w:World) (O:Nat->Prop) (μ:Mu) (n:Nat) (u:Yd),HR w O μ h n->VR w O μ n a u->∃ p l c,u = .slice p l c/\S p.isNone) :
  Cmp P h .eql T a (.sc (.slice none 0 0)) S/\Cmp P h .neq T a (.sc (.slice none 0 0)) (λb=>S (!b)):=by
 constructor;all_goals
  intro w O μ n u v X Y hr t m;obtain ⟨p,l,c,rfl,i⟩:=y w O μ n u hr t;have:=m.sc_inv; subst this;first
  | exact ⟨_,i,by simp [eqGuard,binOp,kkK hT p l c w]⟩
  | exact ⟨!p.isNone,by simpa using i,by simp [eqGuard,binOp,kkK hT p l c w]⟩
theorem kwc {w:World} {O:Nat->Prop} {μ:Mu} {n:Nat} {es:Ya (Ya AV)} {u:Yd} (h:VR w O μ n (.sl es) u):∃ p l c,u = .slice p l c/\(es≠[]->p.isNone=false):=by
 cases h with
 | slnil p=>exact ⟨p,0,0,rfl,λh=>absurd rfl h⟩
 | sl _ b o cap k us=>exact ⟨_,_,_,rfl,λ_=>rfl⟩
section
variable {P:Ye} {h:AH} {T:Yc} {asZ bs:Ya AV} {b:Bool} {F:AV->Prop}
theorem kuT (i:Cmp P h .eql T (.ag asZ) (.ag bs) (·= b)/\Cmp P h .neq T (.ag asZ) (.ag bs) (·= !b)) (m:F (.sc (.bool b))):abin P h .eql T (.ag asZ) (.ag bs) F:=⟨_,i.1,λ_ e=>e ▸ m⟩
theorem kuY (i:Cmp P h .eql T (.ag asZ) (.ag bs) (·= b)/\Cmp P h .neq T (.ag asZ) (.ag bs) (·= !b)) (m:F (.sc (.bool (!b)))):abin P h .neq T (.ag asZ) (.ag bs) F:=⟨_,i.2,λ_ e=>e ▸ m⟩
end
structure KeepB (O:Nat->Prop) (w w':World):Prop where
 os:w'.os=w.os
 tape:w'.tape=w.tape
 output:w'.output=w.output
 size:w.heap.size<=w'.heap.size
 block:∀ b,b<w.heap.size->¬ O b->w'.heap[b]?=w.heap[b]?
def RndL (G:IterG) (k m:Nat) (O:Nat->Prop) (w:World) (e:Ending) (w':World):Prop:=
 ∃ O2,OLT O2 w'/\(∀ b,O2 b->b<w.heap.size->O b)/\KeepB O w w'/\((e = .returned (.bool true)/\G.J (k+m) O2 w')\/(e = .returned (.bool false)/\G.Jx w'))
def krI (G:IterG) (k:Nat) (O:Nat->Prop) (w:World) (e:Ending) (w':World):Prop:=RndL G k 1 O w e w'
structure kej (P:Program) (G:IterG):Prop where
 jb:∀ k O w w',G.J k O w->BlwX G.pv w w'->G.J k O w'
 xb:∀ w w',G.Jx w->BlwX G.pv w w'->G.Jx w'
 y:∀ k O w us x,G.J k O w->OLT O w->G.xs[k]?=some x->us.size=x.length->(∀ (j:Nat) (c:AV),x[j]?=some c->∃ u,us[j]?=some u/\VR w (λb=>O b\/G.pv b) mu0 0 c u)->
  YieldAt (FF none) 0 P G.l us w (krI G k O w)
structure khJ (P:Program) (G:IterG):Prop extends kej P G where
 pe:∀ b,¬ G.pv b
 pz:G.pn=0
def kri (w:World) (O pv:Nat->Prop) (i:Ya AV) (vs:Array Yd):Prop:=
 (∀ (j:Nat) (c:AV),i[j]?=some c->∃ v b T cs,c = .fp [.sc v]/\vs[j]?=some (.pointer (some ⟨b,0,none⟩))/\w.heap[b]?=some (.cells cs T (0,0))/\cs[0]?=some v/\v.oneCell'=true/\pv b/\¬ OG O b)/\
 ∀ j m,j<vs.size->vs[j]?=vs[m]?->j=m
def IT (P:Ye) (g:FuncId) (i:Ya AV) (xs:Ya (Ya AV)) (own:Bool:=false):Prop:=
 (∃ fn,P.funcs[g]?=some fn/\fn.body.isSome=true/\(fn.name== "runtime.NumGoroutine")=false)/\
 ∀ (O:Nat->Prop) (w:World) (vs:Array Yd) (G:IterG),G.xs=xs->G.pn=0->kej P G->OLT O w->vs.size=i.length->(∀ (j:Nat) (c:AV),i[j]?=some c->∃ u,vs[j]?=some u/\VR w O mu0 0 c u)->
  (match own with | false=>∀ b,¬ G.pv b | true=>kri w O G.pv i vs)->
  G.J 0 O w->CallsIn (FF none) 0 P g (#[.func (.yield G.l) #[] #[]]++vs) w (λe w'=>(∃ v,e = .returned v)/\((∃ O',G.J xs.length O' w')\/G.Jx w'))
section
variable {P:Ye} {N:Nat} {D:DX} {O:Nat->Prop} {Q:Exit->St->Prop} {st:St} {μ:Mu} {w:World} {n:Nat} {h:AH} {G:IterG}
theorem VR.keepB {w w':World} {O O2:Nat->Prop} (hk:∀ b,b<w.heap.size->¬ O b->w'.heap[b]?=w.heap[b]?) (ho:∀ b,O2 b->b<w.heap.size->O b) (hn:∀ id b k,μ id=some (b,k)->¬ O b) {a:AV} {v:Yd} (J:VR w O μ n a v):VR w' O2 μ n a v:=by
 have z:∀ {b' k:Nat} {u:Yd},¬ Av O μ b'->w.cell? ⟨b',k,none⟩=some u->w'.cell? ⟨b',k,none⟩=some u:=λhb m=>by
  rw [kgy (hk _ (kgd m) λe=>hb (.inl e))]; exact m
 have S:∀ {b':Nat},b'<w.heap.size->¬ Av O μ b'->¬ Av O2 μ b':=λaa hb ha=>by
  rcases ha with ha | ha
  ·exact hb (.inl (ho _ ha aa))
  ·exact hb (.inr ha)
 induction J with
 | sc v t=>exact .sc v t
 | ud=>exact .ud
 | gs es=>exact .gs es
 | un v=>exact .un v
 | e0 p=>exact .e0 p
 | own id i j v h t J=>exact .own id i j v h t J
 | ms id off len v h t J=>
  refine .ms id off len v h t λb k e=>?_;obtain ⟨o,cap,c,T,q1,q2,q3,q4,q5,q6⟩:=J b k e;exact ⟨o,cap,c,T,q1,q2,q3,q4,(hk _ (jaj.1 q5).1 (hn _ _ _ e)).trans q5,q6⟩
 | mp id v h t J=>exact .mp id v h t J
 | fp cs b o us hA m t _ I=>
  refine .fp cs b o us (λy=>?_) (λj c hj=>z (hA (by rintro rfl; simp at hj)) (m j c hj)) t I;cases cs with
  | nil=>exact absurd rfl y
  | cons c cs=>exact S (kgd (m 0 c rfl)) (hA y)
 | slnil p=>exact .slnil p
 | sl es b o cap k us U X hA hl m t _ I=>
  refine .sl es b o cap k us U X (λi e Z y=>?_) hl (λi e Z j c hj=>z (hA i e Z (by rintro rfl; simp at hj)) (m i e Z j c hj)) t I;cases e with
  | nil=>exact absurd rfl y
  | cons c e=>exact S (kgd (m i _ Z 0 c rfl)) (hA i _ Z y)
 | fn f cs vs us Y m _ I=>exact .fn f cs vs us Y m I
 | ag cs vs us Y m t _ I=>exact .ag cs vs us Y m t I
 | tp cs vs us Y m _ I=>exact .tp cs vs us Y m I
theorem HR.keepB {w w':World} {O2:Nat->Prop} (hr:HR w O μ h n) (hs:w.heap.size<=w'.heap.size) (Y:∀ b,b<w.heap.size->¬ O b->w'.heap[b]?=w.heap[b]?) (Z:∀ b,O2 b->b<w.heap.size->O b) (h2:OLT O2 w'):HR w' O2 μ h n:=by
 have hn:∀ id b k,μ id=some (b,k)->¬ O b:=λid b k e q=>hr.notO id b k e (.inl q);have y:∀ {id b k},μ id=some (b,k)->w'.heap[b]?=w.heap[b]?:=λ{id b k} e=>Y b (hr.scope id b k e).2 (hn id b k e);refine ⟨h2,λid b k e=>⟨(hr.scope id b k e).1,jar (hr.scope id b k e).2 hs⟩,hr.inj,λid b k e q=>?_,λid B hB=>?_⟩
 ·rcases q with q | q
  ·exact hn id b k e (Z b q (hr.scope id b k e).2)
  ·exact hr.notO id b k e (.inr q)
 ·have hB':=hr.blk id B hB;have U:∀ {a:AV} {v:Yd},VR w O μ n a v->VR w' O2 μ n a v:=λhv=>hv.keepB Y Z hn;cases B with
  | cells k T es=>
   obtain ⟨b,c,m,h2,t⟩:=hB';refine ⟨b,c,m,(y m).trans h2,λi e z=>⟨(t i e z).1,λj a hj=>?_⟩⟩;obtain ⟨I,u,J,X⟩:=(t i e z).2 j a hj;exact ⟨I,u,J,U X⟩
  | map aa=>
   obtain ⟨b,es,m,h2,t,I⟩:=hB';refine ⟨b,es,m,(y m).trans h2,t,λi x z=>?_⟩;obtain ⟨e,J,X,h7,h8,h9⟩:=I i x z;exact ⟨e,J,X,h7,h8,U h9⟩
  | si s pos=>
   obtain ⟨b,m,h2⟩:=hB';exact ⟨b,m,(y m).trans h2⟩
  | mi ab S seen=>
   obtain ⟨b,bm,m,h2,t⟩:=hB';exact ⟨b,bm,m,(y m).trans h2,U t⟩
theorem VR.round {w w':World} {O O2:Nat->Prop} (t:KeepB O w w') (u:∀ b,O2 b->b<w.heap.size->O b) {m:Nat} {a:AV} {v:Yd} (y:VR w O mu0 0 a v):VR w' O2 mu0 m a v:=
 (y.keepB (O2:=O2) t.block u λid b k e=>by cases e).lift λb i=>by
  rcases i with i | ⟨_,_,i⟩
  ·exact i
  ·cases i
theorem kqf {y:Oper} {c:Call} {f:Yf} {l:Nat} {a:Act} {R:Ending->World->Prop} {next:Act->World->Prop} {Q:Exit->Act->World->Prop} (t:y.op = .call c) (m:c.callee = .value f) (I:a.eval f = .func (.yield l) #[] #[])
  (hY:YieldAt (FF none) 0 P l (c.args.map a.eval) w R) (hR:∀ e w',R e w'->∃ v,e = .returned v/\next (a.put y.dst v) w'):y.wpIn (FF none) 0 P a w next Q:=by
 obtain ⟨fn,tmps,assign,body,u,hr⟩:=hY;unfold Oper.wpIn;refine ⟨λ_ _=>trivial,?_⟩;have i:(execOp a.eval y).run P w = .ok (.round l fn tmps assign body) w:=by
  simp [execOp,t,resolve,m,I,Deferred.ofValue,invoke,u]
 rw [show Oper.semAt (FF none).round a.eval y=execOp a.eval y from rfl,i,Oper.uponIn_round];refine ⟨(λe=>by cases e),hr.mono λe w' z=>?_⟩;obtain ⟨v,rfl,hn⟩:=hR e w' z;exact hn
theorem kvh (hr:HR w O μ h n) {w':World} {O2:Nat->Prop} (h2:OLT O2 w'):HR w' O2 mu0 ah0 n:=
 ⟨h2,λid b k e=>(by cases e),λid i b k m e=>(by cases e),λid b k e=>(by cases e),λid B e=>(by cases e)⟩
def YV (P:Ye) (l:Nat) (g:AV) (i:Ya AV) (m:Ya (Ya AV)):Prop:=
 ∀ (G:IterG) (k:Nat) (O:Nat->Prop) (w:World) (y:Oper) (c:Call) (f:Yf) (a:Act) (next:Act->World->Prop) (Q:Exit->Act->World->Prop),G.l=l->khJ P G->G.J k O w->OLT O w->
  (∀ j,j<m.length->G.xs[k+j]?=m[j]?)->y.op = .call c->c.callee = .value f->VR w O mu0 0 g (a.eval f)->c.args.size=i.length->(∀ (j:Nat) (t:AV),i[j]?=some t->∃ u,(c.args.map a.eval)[j]?=some u/\VR w O mu0 0 t u)->
  (∀ e w',RndL G k m.length O w e w'->∃ v,e = .returned v/\next (a.put y.dst v) w')->y.wpIn (FF none) 0 P a w next Q
theorem YV.yield {l:Nat} {x:Ya AV}:YV P l (.sc (.func (.yield l) #[] #[])) x [x]:=by
 intro G k O w y c f a next Q hl ok hJ hO J I z S m U hR
 subst hl;exact kqf I z S.sc_inv (ok.y k O w _ x hJ hO (by simpa using J 0 (by simp)) (by simpa using m) λj c X=>by
  obtain ⟨u,t,h2⟩:=U j c X;refine ⟨u,t,h2.lift λb i=>?_⟩;rcases i with (i | i) | ⟨_,_,i⟩
  ·exact i
  ·exact absurd i (ok.pe b)
  ·cases i) hR
def SnapV (z:AH) (a a':AV):Prop:=∀ (w:World) (O:Nat->Prop) (μ:Mu) (n:Nat) (v:Yd),HR w O μ z n->VR w O μ n a v->VR w O mu0 0 a' v
theorem Snap.V {z:AH} {a a':AV} (h:Snap z a a'):SnapV z a a':=λ_ _ _ _ _ hr i=>h.vr hr i
theorem ksb (hD:D.it=some G) (ok:khJ P G) {y:Oper} {c:Call} {f:Yf} (ho:y.op = .call c) (hf:c.callee = .value f) {a:Act} (i:SR N D O μ st a w) {g:AV} {aa:Ya AV} {ls:Ya (Ya AV)} (hY:YV P G.l g aa ls)
  {es:Ya (Ya AV)} (hg:lk st.env GS = .gs es) (hx:∀ j,j<ls.length->G.xs[es.length+j]?=ls[j]?) {z:AH} (hz:∀ q B,z q=some B->st.h q=some B) (ad:SnapV z (ev st.env f) g) (m:SnapL z (c.args.toList.map (ev st.env)) aa)
  {env':Env} (ac:∀ s,s≠GS->lk env' s = .un\/(lk env' s=lk st.env s/\Free (lk st.env s))) (hd:∀ d,y.dst=some d->d<N) (e1:Ya (Ya AV)) (ae:e1.length=ls.length) {next:Act->World->Prop} {Q:Exit->Act->World->Prop}
  (hT:∀ O2 w',SR N D O2 mu0 ⟨putE ((GS,.gs (es++e1))::env') y.dst (.sc (.bool true)),ah0,st.n⟩ (a.put y.dst (.bool true)) w'->next (a.put y.dst (.bool true)) w')
  (hF:∀ O2 w',SR N D O2 mu0 ⟨putE ((GS,.ud)::env') y.dst (.sc (.bool false)),ah0,st.n⟩ (a.put y.dst (.bool false)) w'->next (a.put y.dst (.bool false)) w'):y.wpIn (FF none) 0 P a w next Q:=by
 have U:=i.gi;unfold GInv at U;rw [hD,hg] at U;obtain ⟨W,g1,g2,g3⟩:=U;have hJ:=ok.jb _ _ _ _ g3 g1;have Z:HR w O μ z st.n:=⟨i.hr.olt,i.hr.scope,i.hr.inj,i.hr.notO,λid B hB=>i.hr.blk id B (hz id B hB)⟩;have S:a.defers=[]:=i.defers.1 (by rw [hD]; rfl);refine hY G es.length O w y c f a next Q rfl ok hJ i.hr.olt hx ho hf (ad _ _ _ _ _ Z (i.ev f)) (by have:=m.len; simp at this ⊢; omega) (λj c' hj=>?_) ?_
 ·obtain ⟨b,u⟩:=kag m.len hj;have ab:=u;simp only [jas,jac,jcs] at ab;obtain ⟨t,ht,rfl⟩:=ab;refine ⟨a.eval t,by simp [ht],?_⟩;exact (m.at j _ _ u hj).vr Z (i.ev t)
 ·rintro e w' ⟨O2,p1,p2,p3,Y⟩;have base:∀ gv:AV,VR w' O2 mu0 st.n gv undef->(∀ W2:World,W2=w'->(match gv with | .gs es=>G.J es.length O2 W2 | .ud=>G.Jx W2 | _=>True))->SR N D O2 mu0 ⟨(GS,gv)::env',ah0,st.n⟩ a w':=λgv af hj=>by
   refine ⟨kvh i.hr p1,i.size,⟨λ_=>S,jcl i.defers.2.1 p3.size,[],List.nodup_nil,S,λb u=>by cases u⟩,λs=>?_,i.gs,?_⟩
   ·simp only [lk];by_cases I:s=GS
    ·rw [if_pos I,I];have:a.tmps.getD GS undef=undef:=by
      have hN:N<=GS:=i.gs (by rw [hD]; rfl);have:=i.size;rw [jag,jeb (by omega)]; rfl
     rw [this]; exact af
    ·rw [if_neg I];rcases ac s I with e | ⟨e,X⟩
     ·rw [e]; exact .un _
     ·rw [e];exact VR.round p3 p2 ((i.env s).free X (O':=O) λb u=>.inl u)
   ·unfold GInv;rw [hD];refine ⟨w',.of (.refl _),⟨by rw [ok.pz]; exact jdq _,λid b k e=>(by cases e)⟩,?_⟩;simp only [lk,if_pos];exact hj w' rfl
  rcases Y with ⟨rfl,Y⟩ | ⟨rfl,Y⟩
  ·refine ⟨_,rfl,hT O2 w' ?_⟩;have u:=base (.gs (es++e1)) (.gs _) (λW2 e=>by subst e; simpa [ae] using Y);exact u.putE u.hr u.hr.refl (.sc _ rfl) y.dst hd
  ·refine ⟨_,rfl,hF O2 w' ?_⟩;have u:=base .ud .ud (λW2 e=>by subst e; exact Y);exact u.putE u.hr u.hr.refl (.sc _ rfl) y.dst hd
theorem ksc (hD:D.it=some G) (ok:kej P G) {y:Oper} {c:Call} {f:Yf} (ho:y.op = .call c) (hf:c.callee = .value f) {a:Act} (m:SR N D O μ st a w) (aj:ev st.env f = .sc (.func (.yield G.l) #[] #[]))
  {es:Ya (Ya AV)} (hg:lk st.env GS = .gs es) {vs:Ya Yd} (hx:G.xs[es.length]?=some (vs.map .sc)) (u:c.args.toList.map (ev st.env)=vs.map .sc) (hh:∀ id B,st.h id=some B->id<G.pn) (hd:∀ d,y.dst=some d->d<N) {next:Act->World->Prop} {Q:Exit->Act->World->Prop}
  (hn:∀ (b:Bool) X O2 z w',X=(if b then .gs (es++[[]]) else .ud)->SR N D O2 z ⟨putE ((GS,X)::st.env) y.dst (.sc (.bool b)),st.h,st.n⟩ (a.put y.dst (.bool b)) w'->next (a.put y.dst (.bool b)) w'):y.wpIn (FF none) 0 P a w next Q:=by
 have Z:=m.gi;unfold GInv at Z;rw [hD,hg] at Z;obtain ⟨W,g1,⟨g0,g2⟩,g3⟩:=Z;have hJ:=ok.jb _ _ _ _ g3 g1;have Y:a.defers=[]:=m.defers.1 (by rw [hD]; rfl);have ac:c.args.size=vs.length:=by have:=congrArg List.length u; simpa using this
 refine kqf ho hf (by have:=m.ev f; rw [aj] at this; exact this.sc_inv) (ok.y es.length O w _ _ hJ m.hr.olt hx (by simp [ac]) λj c' hj=>?_) ?_
 ·have ab:=hj;rw [<-u] at ab;simp only [jas,jac,jcs] at ab;obtain ⟨t,ht,e⟩:=ab;rw [jas] at hj;obtain ⟨v,hv,rfl⟩:=jac.1 hj;have h1:=m.ev t;rw [e] at h1;refine ⟨a.eval t,by simp [ht],?_⟩;cases h1 with
  | sc _ h1=>exact .sc _ h1
 ·rintro e w' ⟨O2,p1,p2,p3,p4⟩;have S:=m.hr.keepB p3.size p3.block p2 p1;obtain ⟨z,ad⟩:∃ z:Mu,z=λid=>if id<G.pn then μ id else none:=⟨_,rfl⟩;have U:∀ id b k,z id=some (b,k)->id<G.pn/\μ id=some (b,k):=λid b k e=>by
   rw [ad] at e;simp only at e;split at e
   ·rename_i hl; exact ⟨hl,e⟩
   ·cases e
  have ae:∀ {a:AV} {v:Yd},VR w O μ st.n a v->VR w' O2 z st.n a v:=λhv=>
   (hv.keepB p3.block p2 λid b k e q=>m.hr.notO id b k e (.inl q)).sub (λb I=>I.imp _root_.id λ⟨i,k,e⟩=>⟨i,k,(U _ _ _ e).2⟩) λ_ _ _ e=>(U _ _ _ e).2
  have af:HR w' O2 z st.h st.n:=⟨p1,λid b k e=>S.scope id b k (U _ _ _ e).2,λid ah b k k' e e'=>S.inj id ah b k k' (U _ _ _ e).2 (U _ _ _ e').2,λid b k e=>S.notO id b k (U _ _ _ e).2,λid B hB=>
   (S.blk id B hB).mapV (by rw [ad]; simp only; rw [if_pos (hh id B hB)]) λhv=>hv.sub (λb I=>I.imp _root_.id λ⟨i,k,e⟩=>⟨i,k,(U _ _ _ e).2⟩) λ_ _ _ e=>(U _ _ _ e).2⟩
  have fin:∀ (b:Bool) X,X=(if b then .gs (es++[[]]) else .ud)->VR w' O2 z st.n X undef->(match X with | .gs es=>G.J es.length O2 w' | .ud=>G.Jx w' | _=>True)->next (a.put y.dst (.bool b)) w':=λb X e1 ai hj=>by
   refine hn b X O2 z w' e1 ?_;have I:SR N D O2 z ⟨(GS,X)::st.env,st.h,st.n⟩ a w':=by
    refine ⟨af,m.size,⟨λ_=>Y,jcl m.defers.2.1 p3.size,[],List.nodup_nil,Y,λb I=>by cases I⟩,λs=>?_,m.gs,?_⟩
    ·simp only [lk];by_cases aa:s=GS
     ·rw [if_pos aa,aa];have:a.tmps.getD GS undef=undef:=by
       have hN:N<=GS:=m.gs (by rw [hD]; rfl);have:=m.size;rw [jag,jeb (by omega)]; rfl
      rw [this]; exact ai
     ·rw [if_neg aa]; exact ae (m.env s)
    ·unfold GInv;rw [hD];refine ⟨w',.of (.refl _),⟨g0,λid b k e=>.inr ?_⟩,?_⟩
     ·obtain ⟨q1,q2⟩:=U _ _ _ e;rcases g2 id b k q2 with h | h
      ·omega
      ·exact h
     ·simp only [lk,if_pos]; exact hj
   exact I.putE I.hr I.hr.refl (.sc _ rfl) y.dst hd
  rcases p4 with ⟨rfl,p4⟩ | ⟨rfl,p4⟩
  ·exact ⟨_,rfl,fin true _ rfl (.gs _) (by simpa using p4)⟩
  ·exact ⟨_,rfl,fin false _ rfl .ud p4⟩
end
section
variable {P:Ye} {N:Nat} {D:DX} {O:Nat->Prop} {Q:Exit->St->Prop} {st:St} {μ:Mu} {w:World} {n:Nat} {h:AH} {G:IterG}
theorem RO.it {ro:Yb Nat} (hD:D.it=some G) (h:RO D ro w μ):ro=none:=by
 cases ro with
 | none=>rfl
 | some l=>obtain ⟨i,_⟩:=h; rw [hD] at i; cases i
def GOk1 (ds:Ya (Yb Tmp)) (o:Oper) (env:Env):Prop:=o.guard=none\/∃ m i d,o.guard=some (m,i)/\kba ds m=some d/\lk env d = .sc (.bool i)
theorem GOk1.wanted {l:Ya Oper} {o:Oper} {a:Act} (i:GOk1 (l.map (·.dst)) o st.env) (y:SR N D O μ st a w):Region.wanted o (yielded l.toArray a.tmps)=true:=by
 rcases i with i | ⟨z,m,d,i,t,u⟩
 ·simp [Region.wanted,i]
 ·obtain ⟨g1,_⟩:=kcy y t u;simp [Region.wanted,i,g1 m rfl]
def YieldK (P:Ye) (G:IterG) (ds:Ya (Yb Tmp)) (y:Oper) (l2:Ya Oper) (K:St->Prop) (s:St):Prop:=
 GOk1 ds y s.env/\∃ c f g i m es z env' u,y.op = .call c/\c.callee = .value f/\YV P G.l g i m/\lk s.env GS = .gs es/\(∀ j,j<m.length->G.xs[es.length+j]?=m[j]?)/\(∀ q B,z q=some B->s.h q=some B)/\
  SnapV z (ev s.env f) g/\SnapL z (c.args.toList.map (ev s.env)) i/\(∀ t,t≠GS->lk env' t = .un\/(lk env' t=lk s.env t/\Free (lk s.env t)))/\u.length=m.length/\
  aops P ds l2 ⟨putE ((GS,.gs (es++u))::env') y.dst (.sc (.bool true)),ah0,s.n⟩ K/\aops P ds l2 ⟨putE ((GS,.ud)::env') y.dst (.sc (.bool false)),ah0,s.n⟩ K
theorem YieldK.run {l:Ya Oper} {y:Oper} {l2:Ya Oper} {O1:Nat->Prop} {n0:Nat} {w0:World} {μ0:Mu} {a:Act} (hD:D.it=some G) (ok:khJ P G) (S:∀ x,y.dst=some x->x<N) (t:kaY N l2=true) (hs:SR N D O μ st a w)
  (hk:YieldK P G (l.map (·.dst)) y l2 (Q .normal) st):wpL none P l.toArray (Post N D O1 Q μ0 w0 n0) (y::l2) a w:=by
 obtain ⟨k0,c,f,g,aa,ls,es,z,env',e1,k1,k2,k3,k4,k5,k6,k7,k8,k9,J,X,Y⟩:=hk;unfold wpL;rw [if_pos (k0.wanted hs)];have fin:∀ m O2 a2 Z,aops P (l.map (·.dst)) l2 m (Q .normal)->SR N D O2 mu0 m a2 Z->wpL none P l.toArray (Post N D O1 Q μ0 w0 n0) l2 a2 Z:=λm O2 a2 Z u i=>by
  have:=kcN (ro:=none) (l:=l) (r2:=[]) l2 m t i u (Q':=Post N D O1 Q μ0 w0 n0) λs3 μ3 a3 w3 U I _=>by
   show Post N D O1 Q μ0 w0 n0 .normal a3 w3;exact ⟨s3,μ3,O2,(λe=>by rw [hD] at e; cases e),U,I,λe=>by rw [hD] at e; cases e⟩
  rwa [jbf] at this
 exact ksb hD ok k1 k2 hs k3 k4 k5 k6 k7 k8 k9 S e1 J (λO2 w' i=>fin _ O2 _ w' X i) (λO2 w' i=>fin _ O2 _ w' Y i)
theorem Sat.regionY {id:Nat} {l1:Ya Oper} {y:Oper} {l2:Ya Oper} (hD:D.it=some G) (ok:khJ P G) (u:kaY N (l1++y::l2)=true)
  (I:aops P ((l1++y::l2).map (·.dst)) l1 st (YieldK P G ((l1++y::l2).map (·.dst)) y l2 (Q .normal))):Sat P N D O (.region id (l1++y::l2).toArray false) Q st:=by
 intro O1 o ro μ a w m J;obtain rfl:=m.it hD;have i:=u;simp only [kaY,List.all_append,jdx,jad] at i;refine kis (kcN (l:=l1++y::l2) (r2:=y::l2) l1 st i.1 J I λY X Z U z t _=>z.run hD ok (λx S=>?_) i.2.2 t);have:=i.2.1; rw [S] at this; simpa using this
theorem kwf {F:Fence} {m:Nat} {o:Oper} {a:Act} {w:World} {K:Act->World->Prop} {Q Q':Exit->Act->World->Prop} (u:∀ e a w,e≠.normal->Q e a w->Q' e a w) (i:o.wpIn F m P a w K Q):o.wpIn F m P a w K Q':=by
 have hl:LetsOut Q->LetsOut Q':=λ⟨a,w,h⟩=>⟨a,w,u _ _ _ (by simp) h⟩;unfold Oper.wpIn at *
 refine ⟨i.1,?_⟩;have i:=i.2;generalize (o.semAt F.round a.eval).run P w=r at *
 cases r with
 | ok x w'=>
  cases x <;> simp only [Oper.uponIn] at i ⊢ <;>
   first
    | exact i
    | exact ⟨i.1,CallsIn.mono i.2 (λe y t=>by cases e <;> first | exact t | exact u _ _ _ (by simp) t | exact hl t)⟩
    | exact ⟨i.1,RoundIn.mono i.2 (λe y t=>by cases e <;> first | exact t | exact u _ _ _ (by simp) t | exact hl t)⟩
 | halt x w'=>cases x <;> simp only [Oper.uponIn] at i ⊢ <;> first | exact i | exact u _ _ _ (by simp) i
def barOk (l:Ya Oper) (k:Nat):Bool:=
 (List.range k).all (λi=>((ancOf l).getD k []).contains i)&&(l.take k).all (λo=>match o.guard with | some (g,_)=>decide (g<k) | none=>true) &&
 (List.range (l.length-(k+1))).all (λi=>match l[k+1+i]? with | some o=>o.after.any λe=>Region.binds .any e&&e.on==k+i | none=>true)
def QY (Q:Exit->Act->World->Prop) (K2:Act->World->Prop):Exit->Act->World->Prop
 | .normal=>K2
 | e=>Q e
theorem kvr {F:Fence} {m:Nat} {l1:Ya Oper} {y:Oper} {l2:Ya Oper} (hd:kcz (l1++y::l2)=true) (hb:barOk (l1++y::l2) l1.length=true) {Q:Exit->Act->World->Prop} {K2:Act->World->Prop}
  (h2:∀ a w,K2 a w->∀ f L,L.size=(l1++y::l2).length->(∀ i,i<l1.length->L.getD i true=true)->(∀ i,l1.length<=i->i<(l1++y::l2).length->L.getD i true=false)->wpAnyIn F m P .any (l1++y::l2).toArray Q (f+(1+l2.length)) L a w) :
  ∀ f1 (z L:Array Bool) a w,z.size=l1.length->L.size=(l1++y::l2).length->(∀ i,i<l1.length->L.getD i true=z.getD i true)->(∀ i,l1.length<=i->i<(l1++y::l2).length->L.getD i true=false)->
   Closed (l1++y::l2) (λi=>i<l1.length/\z.getD i true=true)->wpAnyIn F m P .any l1.toArray (QY Q K2) f1 z a w->wpAnyIn F m P .any (l1++y::l2).toArray Q (f1+(1+l2.length)) L a w:=by
 simp only [barOk,jad,jap,jec,jbw,jak] at hb;obtain ⟨⟨b1,b2⟩,b3⟩:=hb;have Z:∀ {i:Nat} {o:Oper},l1[i]?=some o->(l1++y::l2)[i]?=some o:=λ{i o} h=>by rw [jaq (jae.1 h).1]; exact h
 have X:∀ (z:Array Bool),z.size=l1.length->Region.ready .any l1.toArray z=[]->∀ i,i<l1.length->z.getD i true=true:=by
  intro z aw hr i;induction i using Nat.strongRecOn with
  | _ i ih=>
   intro Y;cases hb:z.getD i true with
   | true=>rfl
   | false=>
    have:i∈Region.ready .any l1.toArray z:=mem_ready.2 ⟨hb,l1[i],by simp,λe J t=>by
     have I:=(kbk hd).1 i _ (Z (jaf Y)) e J t;have:=ih e.on I (by omega);have aa:e.on<z.size:=by omega
     simpa [jag,aa] using this⟩
    rw [hr] at this; cases this
 intro f1;induction f1 with
 | zero=>
  intro z L a w s1 s2 e1 e2 hc hw;obtain ⟨hr,hk⟩:=hw;exact h2 a w hk 0 L s2 (λi Y=>by rw [e1 i Y]; exact X z s1 hr i Y) e2
 | succ f1 ih=>
  intro z L a w s1 s2 e1 e2 hc hw;obtain ⟨h0,hw⟩:=hw;by_cases hr:Region.ready .any l1.toArray z=[]
  ·exact h2 a w (h0 hr) (f1+1) L s2 (λi Y=>by rw [e1 i Y]; exact X z s1 hr i Y) e2
  ·have sub:∀ i,i∈Region.ready .any l1.toArray z->i∈Region.ready .any (l1++y::l2).toArray L:=λi Y=>by
    obtain ⟨g1,o,g2,g3⟩:=mem_ready.1 Y;have u:l1[i]?=some o:=by simpa using g2
    have ao:=(jae.1 u).1;refine mem_ready.2 ⟨by rw [e1 i ao]; exact g1,o,by simpa using Z u,λe J t=>?_⟩;have I:=(kbk hd).1 i _ (Z u) e J t;have h3:=g3 e J t;have q1:e.on<z.size:=by omega
    have q2:e.on<L.size:=by rw [s2]; simp; omega
    have:=e1 e.on (by omega);simp only [jag,jao q1,jao q2,jcc] at this h3 ⊢;rw [this]; exact h3
   rw [show f1+1+(1+l2.length)=(f1+(1+l2.length))+1 by omega];refine ⟨λhn=>absurd (jcy.2 λi Y=>by have:=sub i Y; rw [hn] at this; cases this) hr,λi Y=>?_⟩;obtain ⟨g1,o,g2,g3⟩:=mem_ready.1 Y;have u:(l1++y::l2)[i]?=some o:=by simpa using g2
   have ao:=(jae.1 u).1;have ac:∀ e∈o.after,Region.binds .any e=true->e.on<l1.length->z.getD e.on true=true:=λe J t I=>by
    have h3:=g3 e J t;have q1:e.on<z.size:=by omega
    have q2:e.on<L.size:=by rw [s2]; simp; omega
    have:=e1 e.on I;simp only [jag,jao q1,jao q2,jcc] at this h3 ⊢;rw [<-this]; exact h3
   by_cases an:i<l1.length
   ·have ad:l1[i]?=some o:=by rwa [jaq an] at u
    have ar:i∈Region.ready .any l1.toArray z:=mem_ready.2 ⟨by rw [<-e1 i an]; exact g1,o,by simpa using ad,λe J t=>by
     have I:=(kbk hd).1 i _ u e J t;have:=ac e J t (by omega);have aa:e.on<z.size:=by omega
     simpa [jag,aa] using this⟩
    have U:=hw i ar;have next:∀ a w,wpAnyIn F m P .any l1.toArray (QY Q K2) f1 (z.setIfInBounds i true) a w->wpAnyIn F m P .any (l1++y::l2).toArray Q (f1+(1+l2.length)) (L.setIfInBounds i true) a w:=λa w hh=>by
     have S:∀ (A:Array Bool) j,i<A.size->(A.setIfInBounds i true).getD j true=if j=i then true else A.getD j true:=λA j hA=>by
      by_cases hj:j=i
      ·subst hj; simp [jag,hA]
      ·rw [if_neg hj,jag,jcx (by omega),<-jag]
     refine ih _ _ a w (by simpa using s1) (by simpa using s2) (λj hj=>?_) (λj h1 h2=>?_) (λj oj ab hj e J t=>?_) hh
     ·rw [S _ _ (by omega),S _ _ (by omega),e1 j hj]
     ·rw [S _ _ (by omega),if_neg (by omega)]; exact e2 j h1 h2
     ·obtain ⟨au,ah⟩:=hj;have I:=(kbk hd).1 j _ ab e J t;refine ⟨by omega,?_⟩;rw [S _ _ (by omega)];split
      ·rfl
      ·rw [S _ _ (by omega)] at ah;by_cases al:j=i
       ·subst al;rw [u] at ab; cases ab;exact ac e J t (by omega)
       ·rw [if_neg al] at ah;exact (hc j oj ab ⟨au,ah⟩ e J t).2
    unfold wpOpIn at U ⊢;rw [show l1.toArray[i]?=some o by simpa using ad] at U;rw [show (l1++y::l2).toArray[i]?=some o by simpa using u];simp only at U ⊢;have ae:Region.wanted o (yielded (l1++y::l2).toArray a.tmps)=Region.wanted o (yielded l1.toArray a.tmps):=by
     unfold Region.wanted;cases hg:o.guard with
     | none=>rfl
     | some gw=>
      obtain ⟨g,wt⟩:=gw;have:=b2 o (by rw [List.take_left]; exact jai ad);rw [hg] at this;simp only [jak] at this;have hy:yielded (l1++y::l2).toArray a.tmps g=yielded l1.toArray a.tmps g:=by
       unfold yielded;simp only [jca,jaq this]
      simp only [hy]
    rw [ae];split
    ·rename_i ai; rw [if_pos ai] at U;exact kwf (λe a w ap hq=>by cases e <;> first | exact absurd rfl ap | exact hq) (Oper.wpIn_mono next U)
    ·rename_i ai; rw [if_neg ai] at U;exact ⟨U.1,next _ _ U.2⟩
   ·exfalso;by_cases am:i=l1.length
    ·subst am;have ak:∀ j,j<l1.length->z.getD j true=true:=λj hj=>by
      have:=hc.anc (keq (b1 j hj)) λo' aj e J t=>by
       rw [u] at aj; cases aj;have I:=(kbk hd).1 _ _ u e J t;exact ⟨I,ac e J t I⟩
      exact this.2
     refine hr (jcy.2 λj hj=>?_);obtain ⟨q1,oj,q2,_⟩:=mem_ready.1 hj;have aq:j<l1.length:=by simpa using (jaj.1 q2).1
     rw [ak j aq] at q1; cases q1
    ·have h3:=b3 (i-(l1.length+1)) (by omega);rw [show l1.length+1+(i-(l1.length+1))=i by omega,u] at h3;simp only at h3;rw [Array.any_eq_true'] at h3;obtain ⟨e,J,af⟩:=h3;simp only [jad,beq_iff_eq] at af;have I:=(kbk hd).1 i _ u e J af.1;have h4:=g3 e J af.1;have h5:=e2 e.on (by omega) (by omega);have q2:e.on<L.size:=by rw [s2]; omega
     simp only [jag,jao q2,jcc] at h4 h5;rw [h5] at h4; cases h4
end
section
variable {P:Ye} {N:Nat} {D:DX} {O:Nat->Prop} {Q:Exit->St->Prop} {st:St} {μ:Mu} {w:World} {n:Nat} {h:AH} {G:IterG}
theorem ktP {F:Fence} {m:Nat} {l:Ya Oper} {Q:Exit->Act->World->Prop} {L:Array Bool} {a:Act} (hL:∀ i,i<l.length->L.getD i true=true) (u:Q .normal a w):∀ f,wpAnyIn F m P .any l.toArray Q f L a w:=by
 have hr:Region.ready .any l.toArray L=[]:=jcy.2 λi t=>by
  obtain ⟨y,o,h2,_⟩:=mem_ready.1 t;have:i<l.length:=by simpa using (jaj.1 h2).1
  rw [hL i this] at y; cases y
 intro f;cases f with
 | zero=>exact ⟨hr,u⟩
 | succ f=>exact ⟨λ_=>u,λi t=>by rw [hr] at t; cases t⟩
theorem kpm (A:Array Bool) (i j:Nat) (hA:i<A.size):(A.setIfInBounds i true).getD j true=if j=i then true else A.getD j true:=by
 by_cases m:j=i
 ·subst m; simp [jag,hA]
 ·rw [if_neg m,jag,jcx (by omega),<-jag]
theorem ksA {ro:Yb Nat} {l:Ya Oper} {k:Nat} (hd:kcz l=true) (hb:∀ (i:Nat) (o:Oper),k<i->l[i]?=some o->∃ e∈o.after,Region.binds .any e=true/\e.on+1=i) {Q:Exit->Act->World->Prop} :
  ∀ (r m:Ya Oper),l=m++r->k<=m.length->∀ (f:Nat) (L:Array Bool) (a:Act) (w:World),L.size=l.length->(∀ i,i<m.length->L.getD i true=true)->(∀ i,m.length<=i->i<l.length->L.getD i true=false)->wpL ro P l.toArray Q r a w->wpAnyIn (FF ro) 0 P .any l.toArray Q (f+r.length) L a w:=by
 intro r;induction r with
 | nil=>
  intro m hl hk f L a w J I h2 t;exact ktP (λi u=>I i (by rw [hl] at u; simpa using u)) t _
 | cons o r ih=>
  intro m hl hk f L a w J I h2 t;have X:l[m.length]?=some o:=by rw [hl]; simp
  have Y:=(jae.1 X).1;have y:∀ i,i∈Region.ready .any l.toArray L↔i=m.length:=λi=>by
   rw [mem_ready];constructor
   ·rintro ⟨g1,oi,g2,g3⟩;have S:l[i]?=some oi:=by simpa using g2
    have U:=(jae.1 S).1;rcases Nat.lt_trichotomy i m.length with h | h | h
    ·rw [I i h] at g1; cases g1
    ·exact h
    ·exfalso;obtain ⟨e,he,aa,z⟩:=hb i oi (by omega) S;have Z:=g3 e he aa;have h5:=h2 e.on (by omega) (by omega);have q2:e.on<L.size:=by omega
     simp only [jag,jao q2,jcc] at Z h5;rw [h5] at Z; cases Z
   ·rintro rfl;refine ⟨h2 _ (jah _) Y,o,by simpa using X,λe he ab=>?_⟩;have z:=(kbk hd).1 _ _ X e he ab;have:=I e.on z;have q2:e.on<L.size:=by omega
    simpa [jag,q2] using this
  have next:∀ a w,wpL ro P l.toArray Q r a w->wpAnyIn (FF ro) 0 P .any l.toArray Q (f+r.length) (L.setIfInBounds m.length true) a w:=λa w t=>by
   refine ih (m++[o]) (by simp [hl]) (by simp; omega) f _ a w (by simpa using J) (λi u=>?_) (λi u U=>?_) t
   ·rw [kpm _ _ _ (by omega)];split
    ·rfl
    ·simp at u; exact I i (by omega)
   ·simp at u;rw [kpm _ _ _ (by omega),if_neg (by omega)];exact h2 i (by omega) U
  rw [show f+(o::r).length=(f+r.length)+1 by simp; omega];refine ⟨λhn=>?_,λi u=>?_⟩
  ·have:=(y m.length).2 rfl;rw [hn] at this; cases this
  ·obtain rfl:=(y i).1 u;unfold wpOpIn;rw [show l.toArray[m.length]?=some o by simpa using X];simp only;unfold wpL at t;split
   ·rename_i hc; rw [if_pos hc] at t; exact Oper.wpIn_mono (λa w=>next a w) t
   ·rename_i hc; rw [if_neg hc] at t; exact ⟨λ_ _=>trivial,next _ _ t⟩
def PreY (P:Ye) (N:Nat) (D:DX) (l1:Ya Oper) (st:St) (K:St->Prop):Prop:=
 ∀ (O1:Nat->Prop) (μ:Mu) (a:Act) (w:World) (Q':Exit->Act->World->Prop),SR N D O1 μ st a w->(∀ t u m i,K t->SR N D O1 u t m i->Q' .normal m i)->wpAnyIn (FF none) 0 P .any l1.toArray Q' l1.length (Array.replicate l1.length false) a w.drew
theorem Sat.drawY {id:Nat} {l1:Ya Oper} {y:Oper} {l2:Ya Oper} (hD:D.it=some G) (ok:khJ P G) (hm:P.follows .mixedOrders=true)
  (hd:kcz (l1++y::l2)=true) (hb:barOk (l1++y::l2) l1.length=true) (t:kaY N (l1++y::l2)=true)
  (I:PreY P N D l1 st (YieldK P G ((l1++y::l2).map (·.dst)) y l2 (Q .normal))):Sat P N D O (.region id (l1++y::l2).toArray true) Q st:=by
 intro O1 o ro μ a w ab hs;obtain rfl:=ab.it hD;refine wpIn_region_any hm ?_;have m:=t;simp only [kaY,List.all_append,jdx,jad] at m;have ae:∀ x,y.dst=some x->x<N:=λx hx=>by have:=m.2.1; rw [hx] at this; simpa using this
 have J:=hb;simp only [barOk,jad,jap,jec,jbw] at J;obtain ⟨⟨b1,b2⟩,b3⟩:=J;have u:(l1++y::l2).toArray.size=l1.length+(1+l2.length):=by simp; omega
 rw [u];refine kvr hd hb (K2:=λa w=>∃ z Y,YieldK P G ((l1++y::l2).map (·.dst)) y l2 (Q .normal) z/\SR N D O1 Y z a w) ?_ l1.length (Array.replicate l1.length false) _ a w.drew (by simp) (by simp; omega) (λi hi=>?_) (λi h1 h2=>?_) (λj oj aj hj=>?_) ?_
 ·rintro a2 w2 ⟨z,Y,hk,ah⟩ f2 L2 ad ai ac;rw [show 1+l2.length=(y::l2).length by simp; omega];refine ksA (k:=l1.length) hd (λi oi hi U=>?_) (y::l2) l1 rfl (jah _) f2 L2 a2 w2 ad ai ac (hk.run hD ok ae m.2.2 ah);have ak:=(jae.1 U).1;have Z:=b3 (i-(l1.length+1)) (by omega);rw [show l1.length+1+(i-(l1.length+1))=i by omega,U] at Z;simp only at Z;rw [Array.any_eq_true'] at Z;obtain ⟨e,he,S⟩:=Z;simp only [jad,beq_iff_eq] at S;exact ⟨e,he,S.1,by omega⟩
 ·have q1:i<(Array.replicate (l1.length+(1+l2.length)) false).size:=by simp; omega
  have q2:i<(Array.replicate l1.length false).size:=by simpa using hi
  rw [jag,jao q1,jag,jao q2]; simp
 ·have q1:i<(Array.replicate (l1.length+(1+l2.length)) false).size:=by simp at h2 ⊢; omega
  rw [jag,jao q1]; simp
 ·obtain ⟨aa,X⟩:=hj;have q2:j<(Array.replicate l1.length false).size:=by simpa using aa
  rw [jag,jao q2] at X; simp at X
 ·exact I O1 μ a w _ hs λz Y a1 w1 hk af=>⟨z,Y,hk,af⟩
def itQ (xs:Ya (Ya AV)) (e:Exit) (s:St):Prop:=(e = .normal\/e = .ret)/\((∃ es,lk s.env GS = .gs es/\es.length=xs.length)\/lk s.env GS = .ud)
end
section
variable {P:Ye} {N:Nat} {D:DX} {O:Nat->Prop} {Q:Exit->St->Prop} {st:St} {μ:Mu} {w:World} {n:Nat} {h:AH}
def kgx (i:Ya Tmp) (x:Ya AV) (env:Env):Env:=(i.zip x).foldl (λe p=>(p.1,p.2)::e) env
theorem ksz {i:Ya Tmp}:∀ {x:Ya AV} {vs:Ya Yd} {env:Env} {tmps:Array Yd} (w:World) (O:Nat->Prop) (μ:Mu) (n:Nat),x.length=i.length->vs.length=i.length->(∀ s,VR w O μ n (lk env s) (tmps.getD s undef))->(∀ p∈i,p<tmps.size)->
  (∀ (j:Nat) (c:AV),x[j]?=some c->∃ u,vs[j]?=some u/\VR w O μ n c u)->∀ s,VR w O μ n (lk (kgx i x env) s) (((i.zip vs).foldl (λt (p:Tmp×Yd)=>t.setIfInBounds p.1 p.2) tmps).getD s undef):=by
 induction i with
 | nil=>intro x vs env tmps w O μ n z h2 I _ _ s; simpa [kgx] using I s
 | cons p i ih=>
  intro x vs env tmps w O μ n z h2 I hp S s;cases x with
  | nil=>simp at z
  | cons c x=>
   cases vs with
   | nil=>simp at h2
   | cons v vs=>
    obtain ⟨u,J,Y⟩:=S 0 c rfl;simp only [jci,Option.some.injEq] at J;subst J;refine ih (x:=x) (vs:=vs) (env:=(p,c)::env) (tmps:=tmps.setIfInBounds p v) w O μ n (by simpa using z) (by simpa using h2) (λt=>?_) (λq X=>by simpa using hp q (jbm _ X)) (λj U Z=>by simpa using S (j+1) U (by simpa using Z)) s;simp only [lk];have y:p<tmps.size:=hp p (by simp);by_cases m:t=p
    ·rw [if_pos m,m]; simp [jag,y,Y]
    ·rw [if_neg m,jag,jcx (by omega),<-jag];exact I t
theorem ksj (i:Ya (Tmp×Yd)):∀ tmps:Array Yd,(i.foldl (λt (p:Tmp×Yd)=>t.setIfInBounds p.1 p.2) tmps).size=tmps.size:=by
 induction i with
 | nil=>intro t; rfl
 | cons p i m=>intro t; simp only [jbo,m]; simp
theorem kiR {fn:FuncId} {tmps:Array Yd} {i:Array Tmp} {assign body:Code} {m:Nat} {r:Loop} (h:w.heap[m]?=some (.loop r)) :
  (Instr.enterLoop fn tmps i assign body (some m)).run P w = .ok (w.heap.size,[]) (w.alloc (.loop { state:=.ready,pending:=none,fn,tmps,params:=i,assign,body,defers:=r.defers })):=by
 unfold Instr.enterLoop;simp only [Sem.run_bind,run_getLoop h,run_newObj_alloc,Result.andThen,Sem.run_pure]
theorem Evo.un {w w':World} {μ μ':Mu} {n n':Nat} (e:Evo w μ n w' μ' n') {b:Nat} (z:b<w.heap.size) (y:∀ id k,μ id≠some (b,k)):∀ id k,μ' id≠some (b,k):=λid k m=>by
 rcases jbz id n with u | u
 ·rcases e.ids id u with i | i
  ·rw [i] at m; exact y id k m
  ·rw [i] at m; cases m
 ·rcases e.new id b k m u with i | ⟨t,k0,i⟩
  ·omega
  ·exact y t k0 i
structure LJ (O1:Nat->Prop) (w0:World) (μ0 μ:Mu) (n0:Nat) (l:Nat) (ms:List Nat) (rec:LoopState->Option Code->Loop) (sta:LoopState) (pe:Option Code) (h:AH) (n:Nat) (μ':Mu) (W:World):Prop where
 hr:HR W O1 μ' h n
 evo:Evo w0 μ0 n0 W μ' n
 vv:∀ {a:AV} {v:Value},VR w0 O1 μ n0 a v->VR W O1 μ' n a v
 ll:w0.heap.size<=l
 hl:W.heap[l]?=some (.loop (rec sta pe))
 ul:∀ id k,μ' id≠some (l,k)
 ms:∀ d∈ms,w0.heap.size<=d/\d≠l/\W.heap[d]?=some (.deferred (some []))/\∀ id k,μ' id≠some (d,k)
section
variable {O1 pv:Nat->Prop} {w0 W W':World} {μ0 μ μ':Mu} {n0 n l:Nat} {ms:Ya Nat} {rec:LoopState->Yb Code->Loop} {sta:LoopState} {pe:Yb Code}
theorem LJ.below (j:LJ O1 w0 μ0 μ n0 l ms rec sta pe h n μ' W) (hp:∀ b,pv b->O1 b/\b<w0.heap.size/\¬ GP b/\∃ id k,μ0 id=some (b,k)) (m:BlwX pv W W'):LJ O1 w0 μ0 μ n0 l ms rec sta pe h n μ' W':=by
 have t:∀ b,b<W.heap.size->¬ O1 b->W'.heap[b]?=W.heap[b]?:=λb i h2=>m.block b i λq=>h2 (hp b q).1;have u:∀ b,w0.heap.size<=b->b<W.heap.size->W'.heap[b]?=W.heap[b]?:=λb i h2=>m.block b h2 λq=>by have:=(hp b q).2.1; omega
 refine ⟨j.hr.keepB m.size t (λb i _=>i) (j.hr.olt.keep m.size λb i=>m.block b (j.hr.olt.plt i) λq=>(hp b q).2.2.1 i),
  ⟨m.os.trans j.evo.os,m.tape.trans j.evo.tape,⟨m.output.trans j.evo.output.1,jcl j.evo.output.2 m.drawn⟩,jcl j.evo.size m.size,j.evo.le,λb i h2=>?_,λb c T f i h2=>?_,j.evo.ids,j.evo.new⟩,
  λJ=>(j.vv J).keepB t (λb i _=>i) λid b k e q=>j.hr.notO id b k e (.inl q),j.ll,(u _ j.ll (jaj.1 j.hl).1).trans j.hl,j.ul,λd z=>?_⟩
 ·refine (m.block b (jar i j.evo.size) λq=>?_).trans (j.evo.keep b i h2);obtain ⟨id,k,e⟩:=(hp b q).2.2.2;exact h2 id k e
 ·obtain ⟨I,y,U⟩:=j.evo.row b c T f i h2;obtain ⟨id,k,e⟩:=h2;exact ⟨I,(t b (jaj.1 y).1 λq=>j.hr.notO id b k e (.inl q)).trans y,U⟩
 ·obtain ⟨k1,k2,k3,S⟩:=j.ms d z;exact ⟨k1,k2,(u _ k1 (jaj.1 k3).1).trans k3,S⟩
theorem LJ.put {sta2:LoopState} {pe2:Yb Code} (j:LJ O1 w0 μ0 μ n0 l ms rec sta pe h n μ' W):LJ O1 w0 μ0 μ n0 l ms rec sta2 pe2 h n μ' (W.putObj l (.loop (rec sta2 pe2))):=by
 refine ⟨j.hr.putObj _ j.hl (by simp) j.ul,j.evo.putObj _ j.ll,λm=>(j.vv m).putObj _ j.hl (by simp),j.ll,World.putObj_heap_same (jaj.1 j.hl).1,j.ul,λd i=>?_⟩;obtain ⟨k1,k2,k3,t⟩:=j.ms d i;exact ⟨k1,k2,(World.putObj_heap_other k2).trans k3,t⟩
theorem LJ.evo2 {u:Mu} {t:Nat} {h2:AH} (j:LJ O1 w0 μ0 μ n0 l ms rec sta pe h n μ' W) (e:Evo W μ' n W' u t) (hr:HR W' O1 u h2 t):LJ O1 w0 μ0 μ n0 l ms rec sta pe h2 t u W':=by
 have m:=(jaj.1 j.hl).1;refine ⟨hr,j.evo.trans e,λI=>(j.vv I).evo e,j.ll,(e.keep _ m j.ul).trans j.hl,e.un m j.ul,λd z=>?_⟩;obtain ⟨k1,k2,k3,y⟩:=j.ms d z;have i:=(jaj.1 k3).1;exact ⟨k1,k2,(e.keep _ i y).trans k3,e.un i y⟩
end
def bodyQ (Q:Exit->St->Prop) (env:Env) (I:Nat->AH->Nat->Prop) (k:Nat):Exit->St->Prop
 | .normal,s=>I (k+1) s.h s.n
 | .ret,s=>Q .ret ⟨env,s.h,s.n⟩
 | .exit id,s=>Q (.exit id) ⟨env,s.h,s.n⟩
 | _,_=>False
def jumpQ (Q:Exit->St->Prop) (env:Env) (c:Code) (h:AH) (n:Nat):Prop:=
 match c with
 | .ret=>Q .ret ⟨env,h,n⟩
 | .exit id=>Q (.exit id) ⟨env,h,n⟩
 | _=>False
theorem Evo.alloc_new {O1:Nat->Prop} (hr:HR w O1 μ h n) (o:Obj):Evo w μ n (w.alloc o) μ n/\HR (w.alloc o) O1 μ h n:=Evo.of_below hr ⟨(Below.refl _ w).alloc (jah _) o,jah _⟩
def OwnC (hE:AH) (i m:Ya AV):Prop:=
 (∀ (j:Nat) (c:AV),i[j]?=some c->∃ id k T e v,c = .own id 0 0/\hE id=some (.cells k T e)/\m[j]?=some (.fp [.sc v]))/\∀ j t,j<i.length->i[j]?=i[t]?->j=t
theorem HR.less {O':Nat->Prop} (hr:HR w O' μ h n) (i:∀ b,O b->O' b):HR w O μ h n:=
 ⟨hr.olt.av λb m=>hr.olt b (i b m),hr.scope,hr.inj,λid b k e q=>hr.notO id b k e (q.imp (i b) _root_.id),λid B hB=>(hr.blk id B hB).mapV rfl λt=>t.sub (λb m=>m.imp (i b) _root_.id) λ_ _ _ e=>e⟩
theorem Sat.rangeFunc (hD:D.it=none) {g:Yf} {ps:Array Tmp} {assign body:Code} {gf:FuncId} {Z Y:Ya AV} {xs:Ya (Ya AV)} {hE h':AH} (ids:Ya Nat) (hg:ev st.env g = .fn gf Z) (hi:∀ i B,hE i=some B->ids.contains i=true/\st.h i=some B) (ho:∀ i B,h' i=some B->ids.contains i=false/\st.h i=some B) (hs:SnapL hE Z Y) (own:Bool) (aZ:IT P gf Y xs own) (an:own=true->OwnC hE Z Y)
  (bc:∀ x∈xs,x.length=ps.size) (br:∀ p∈ps.toList,p<N) (I:Nat->AH->Nat->Prop) (h0:I 0 h' st.n)
  (round:∀ k x h n,xs[k]?=some x->I k h n->∀ O,Sat P N D O assign (thenQ (λs=>Sat P N D O body (bodyQ Q st.env I k) s) (λ_ _=>False)) ⟨kgx ps.toList x st.env,h,n⟩)
  (done:∀ h n,I xs.length h n->Q .normal ⟨st.env,h,n⟩):Sat P N D O (.rangeFunc g ps assign body) Q st:=by
 intro O1 o ro μ0 a w aE z;obtain rfl:=o hD;have hrI:HR w (Av O1 (muO ids μ0)) (muI ids μ0) hE st.n:=by
  refine ⟨z.hr.olt.av (λb m=>?_),λid b k e=>z.hr.scope id b k (kam e).2,λid ae b k k' e e'=>z.hr.inj id ae b k k' (kam e).2 (kam e').2,λid b k e hO=>?_,λid B hB=>?_⟩
  ·rcases m with m | ⟨id,k,m⟩
   ·exact z.hr.olt b m
   ·exact (z.hr.scope id b k (kay m).2).2
  ·obtain ⟨e1,e2⟩:=kam e;rcases Or.symm hO with hO | hO | ⟨ae,k',hO⟩
   ·exact z.hr.notO id b k e2 (.inr hO)
   ·exact z.hr.notO id b k e2 (.inl hO)
   ·obtain ⟨e3,e4⟩:=kay hO;rw [z.hr.inj _ _ _ _ _ e2 e4] at e1;rw [e1] at e3; cases e3
  ·obtain ⟨h1,h2⟩:=hi id B hB;exact (z.hr.blk id B h2).mapV (by simp only [muI]; rw [if_pos h1]) λhv=>hv.split ids
 obtain ⟨pv,aA⟩:∃ pv:Nat->Prop,pv=λb=>own=true/\∃ id k,muI ids μ0 id=some (b,k):=⟨_,rfl⟩;obtain ⟨O2,hO2⟩:∃ O2:Nat->Prop,O2=λb=>O1 b\/pv b:=⟨_,rfl⟩;have aq:∀ b,pv b->∃ id k,ids.contains id=true/\μ0 id=some (b,k):=λb m=>by
  rw [aA] at m;obtain ⟨_,id,k,e⟩:=m;exact ⟨id,k,kam e⟩
 have hpO:∀ b,pv b->O2 b:=λb m=>by rw [hO2]; exact .inr m
 have bb:∀ b,O1 b->O2 b:=λb m=>by rw [hO2]; exact .inl m
 have hAv:∀ b,Av O2 (muO ids μ0) b->Av O1 μ0 b:=λb m=>by
  rw [hO2] at m;rcases m with (m | m) | ⟨id,k,m⟩
  ·exact .inl m
  ·obtain ⟨id,k,_,e⟩:=aq b m; exact .inr ⟨id,k,e⟩
  ·exact .inr ⟨id,k,(kay m).2⟩
 have af:∀ {a:AV} {v:Yd},VR w O1 μ0 st.n a v->VR w O2 (muO ids μ0) st.n a v:=λhv=>hv.sub hAv λ_ _ _ e=>(kay e).2;have hrO:HR w O2 (muO ids μ0) h' st.n:=by
  refine ⟨z.hr.olt.av (λb m=>?_),λid b k e=>z.hr.scope id b k (kay e).2,λid ae b k k' e e'=>z.hr.inj id ae b k k' (kay e).2 (kay e').2,λid b k e q=>?_,λid B hB=>?_⟩
  ·rw [hO2] at m;rcases m with m | m
   ·exact z.hr.olt b m
   ·obtain ⟨id,k,_,e⟩:=aq b m; exact (z.hr.scope id b k e).2
  ·obtain ⟨e1,e2⟩:=kay e;unfold OG at q;rw [hO2] at q;rcases q with (q | q) | q
   ·exact z.hr.notO id b k e2 (.inl q)
   ·obtain ⟨ae,k',e3,e4⟩:=aq b q;rw [z.hr.inj _ _ _ _ _ e2 e4,e3] at e1; cases e1
   ·exact z.hr.notO id b k e2 (.inr q)
  ·obtain ⟨h1,h2⟩:=ho id B hB;exact (z.hr.blk id B h2).mapV (by simp only [muO]; rw [if_neg (by rw [h1]; decide)]) af
 have aO:∀ b,pv b->O2 b/\b<w.heap.size/\¬ GP b/\∃ id k,μ0 id=some (b,k):=λb m=>by
  obtain ⟨id,k,_,e⟩:=aq b m;exact ⟨hpO b m,(z.hr.scope id b k e).2,λq=>z.hr.notO id b k e (.inr q),id,k,e⟩
 have au:Evo w μ0 st.n w (muO ids μ0) st.n:=⟨rfl,rfl,⟨rfl,jah _⟩,jah _,jah _,λ_ _ _=>rfl,λb c T f m _=>⟨c,m,rfl⟩,λi _=>by unfold muO; split <;> simp,λi b k e hn=>absurd (z.hr.scope i b k (kay e).2).1 (by omega)⟩;have hv:=z.ev g;obtain ⟨μ,hμ⟩:∃ μ,μ=muO ids μ0:=⟨_,rfl⟩;rw [<-hμ] at hrI hrO au;replace af:∀ {a:AV} {v:Yd},VR w O1 μ0 st.n a v->VR w O2 μ st.n a v:=λhv=>by rw [hμ]; exact af hv
 obtain ⟨⟨aN,bp,aH,aJ⟩,ax⟩:=aZ;rw [hg] at hv;generalize hu:a.eval g=u at hv;cases hv with
 | fn _ _ vs us aw hc aC=>
 refine wpIn_rangeFunc ?_;intro fn _;obtain ⟨aQ,ms,l,rec,W1,X,aM,j1,bl,hW⟩:∃ (aQ:Nat) (ms:Ya Nat) (l:Nat) (rec:LoopState->Yb Code->Loop) (W1:World),(rec=λsta pe=>{ state:=sta,pending:=pe,fn,tmps:=a.tmps,params:=ps,assign,body,defers:=aQ })/\
   (Instr.enterLoop fn a.tmps ps assign body (FF ro).round).run P w = .ok (l,ms.map (λb=>({ target:=.collected b,args:=#[] }:Deferred))) W1/\LJ O2 w μ0 μ st.n l ms rec .ready none h' st.n μ W1/\ms.Nodup/\∀ b,b<w.heap.size->W1.heap[b]?=w.heap[b]?:=by
  cases ro with
  | none=>
   have e1:=Evo.alloc_new hrO (.deferred (some []));have e2:=Evo.alloc_new e1.2 (.loop { state:=.ready,pending:=none,fn,tmps:=a.tmps,params:=ps,assign,body,defers:=w.heap.size });refine ⟨w.heap.size,[w.heap.size],w.heap.size+1,_,_,rfl,run_enterLoop_outer _ _ _ _ _,⟨e2.2,au.trans (e1.1.trans e2.1),λhv=>(hv.evo e1.1).evo e2.1,by omega,?_,λid k e=>?_,λd hd=>?_⟩,by simp,λb m=>(Below.heap_alloc _ _ _ (by simp; omega)).trans (Below.heap_alloc _ _ _ m)⟩
   ·have:=World.alloc_heap_new (w.alloc (.deferred (some []))) (.loop { state:=.ready,pending:=none,fn,tmps:=a.tmps,params:=ps,assign,body,defers:=w.heap.size })
    rwa [World.size_alloc] at this
   ·have:=(hrO.scope id _ k e).2; omega
   ·simp only [List.mem_singleton] at hd;subst hd;exact ⟨jah _,by omega,(Below.heap_alloc _ _ _ (by simp)).trans (World.alloc_heap_new w _),λid k e=>by have:=(hrO.scope id _ k e).2; omega⟩
  | some l0=>
   obtain ⟨_,⟨r0,bj⟩,_⟩:=aE;have e1:=Evo.alloc_new hrO (.loop { state:=.ready,pending:=none,fn,tmps:=a.tmps,params:=ps,assign,body,defers:=r0.defers });exact ⟨r0.defers,[],w.heap.size,_,_,rfl,kiR bj,⟨e1.2,au.trans e1.1,λhv=>hv.evo e1.1,jah _,World.alloc_heap_new w _,λid k e=>(by have:=(hrO.scope id _ k e).2; omega),λd hd=>(by cases hd)⟩,List.nodup_nil,λb m=>Below.heap_alloc _ _ _ m⟩
 have ak:=z.size;refine ⟨l,_,W1,{ target:=.fn (.func gf) vs,args:=#[.func (.yield l) #[] #[]] },W1,gf,#[.func (.yield l) #[] #[]]++vs,W1,aM,?_,λ_ _=>trivial,?_,(λe=>by cases e),?_⟩
 ·simp only [resolve,hu];simp [go_sem,Deferred.ofValue]
 ·have m:aN.body≠none:=by intro bm; rw [bm] at aH; cases aH
  have aV:aN.name≠ "runtime.NumGoroutine":=by intro bt; rw [bt] at aJ; simp at aJ
  simp [invoke,callFunc,bp,aV,m]
 ·let G:IterG:=⟨l,xs,λk Oi W=>(∀ b,Oi b->b<W.heap.size)/\∃ h n μ',I k h n/\LJ O2 w μ0 μ st.n l ms rec .ready none h n μ' W/\(∀ b id k,μ' id=some (b,k)->Oi b)/\Oi l/\∀ b,O1 b->Oi b,
   λW=>∃ c h n μ',jumpQ Q st.env c h n/\LJ O2 w μ0 μ st.n l ms rec .done (some c) h n μ' W,pv,0⟩
  have bu:∀ {W:World} {k:Nat} {Oi:Nat->Prop},G.J k Oi W->∀ b,Oi b->b<W.heap.size:=λU=>U.1;have ok:kej P G:=by
   refine ⟨λk Oi W W' U m=>?_,λW W' U m=>?_,λk Oi W ao x U hO hx bE bi=>?_⟩
   ·obtain ⟨q1,h,n,μ',q2,q3,q4,q5⟩:=U;exact ⟨λb bd=>jar (q1 b bd) m.size,h,n,μ',q2,q3.below aO m,q4,q5⟩
   ·obtain ⟨c,h,n,μ',q1,q2⟩:=U;exact ⟨c,h,n,μ',q1,q2.below aO m⟩
   ·obtain ⟨_,h,n,μ',q2,q3,q4,q5,q6⟩:=U;have aX:x.length=ps.size:=bc x (jai hx);have hy:=run_yield (P:=P) (args:=ao) q3.hl (by rw [X]; simp only; omega);rw [X] at hy;refine ⟨fn,_,assign,body,hy,roundIn_of_wpIn trivial ?_⟩;have aF:SR N D O2 μ' ⟨kgx ps.toList x st.env,h,n⟩ { tmps:=(ps.zip ao).foldl (λtmps (t,a)=>tmps.setIfInBounds t a) a.tmps,defers:=[] } W:=by
     have am:(ps.zip ao).foldl (λtmps (t,a)=>tmps.setIfInBounds t a) a.tmps=(ps.toList.zip ao.toList).foldl (λt (p:Tmp×Yd)=>t.setIfInBounds p.1 p.2) a.tmps:=by
      rw [<-Array.foldl_toList,Array.toList_zip]
     refine ⟨q3.hr,by rw [am,ksj]; exact ak,.nil _ _ _ (jcl z.defers.2.1 q3.evo.size),λs=>?_,λe=>(by rw [hD] at e; cases e),by unfold GInv; rw [hD]; trivial⟩;show VR W O2 μ' n _ (Array.getD ((ps.zip ao).foldl (λtmps (t,a)=>tmps.setIfInBounds t a) a.tmps) s undef);rw [am];refine ksz W O2 μ' n (by simpa using aX) (by simp; omega) (λs=>q3.vv (af (z.env s))) (λp hp=>by rw [ak]; exact br p hp) (λj c U=>?_) s;obtain ⟨u,bn,aR⟩:=bi j c U;refine ⟨u,by simpa using bn,aR.lift λb m=>?_⟩;rw [hO2] at m;rcases m with (m | m) | ⟨id,k',m⟩
     ·exact .inl (q6 b m)
     ·exact .inr m
     ·exact .inl (q4 b id k' m)
    have aI:RO D (some l) W μ':=⟨hD,⟨_,q3.hl⟩,q3.ul⟩;refine wpIn_mono (round k x h n hx q2 O2 O2 (λ_=>rfl) (some l) μ' _ W aI aF) ?_;rintro e a1 w1 ⟨s1,μ1,O',o',ac,al,aU⟩;obtain rfl:=o' hD;have aa:=aU hD;cases e with
    | normal=>
     have j2:=q3.evo2 aa al.hr;have j3:=j2.put (sta2:=.busy) (pe2:=none);refine ⟨_,run_beginRound j2.hl (by rw [X]),?_⟩;have aS:(w1.putObj l (.loop { rec .ready none with state:=.busy }))=w1.putObj l (.loop (rec .busy none)):=by rw [X]
     rw [aS];have aT:SR N D O' μ1 s1 a1 (w1.putObj l (.loop (rec .busy none))):=by
      obtain ⟨m1,m2,bs,m3,m4,m5⟩:=al.defers;refine ⟨j3.hr,al.size,⟨m1,by rw [World.putObj_size]; exact m2,bs,m3,m4,λb m=>?_⟩,λs=>(al.env s).putObj _ j2.hl (by simp),al.gs,by unfold GInv; rw [hD]; trivial⟩;obtain ⟨r1,r2,r3⟩:=m5 b m;exact ⟨r1,(World.putObj_heap_other (by rintro rfl; rw [j2.hl] at r2; cases r2)).trans r2,r3⟩
     refine wpIn_mono (ac O' (λ_=>rfl) (some l) μ1 a1 _ ⟨hD,⟨_,j3.hl⟩,j3.ul⟩ aT) ?_;rintro e3 a3 w3 ⟨s3,μ3,O3,o3,ah,ap,ba⟩;obtain rfl:=o3 hD;have ab:=ba hD;have j4:=j3.evo2 ab ap.hr;have bB:W.heap.size<=w1.heap.size:=aa.size;have ay:∀ b,b<W.heap.size->¬ Oi b->∀ o2,(w3.putObj l o2).heap[b]?=W.heap[b]?:=λb m aj o2=>by
      have u1:∀ id k,μ' id≠some (b,k):=λid k e=>aj (q4 b id k e);have u2:=aa.un m u1;rw [World.putObj_heap_other (by rintro rfl; exact aj q5),ab.keep b (by rw [World.putObj_size]; omega) u2,World.putObj_heap_other (by rintro rfl; exact aj q5),aa.keep b m u1]
     have be:∀ o2,KeepB Oi W (w3.putObj l o2):=λo2=>⟨ab.os.trans aa.os,ab.tape.trans aa.tape,ab.output.1.trans aa.output.1,by rw [World.putObj_size]; have:=ab.size; rw [World.putObj_size] at this; omega,λb m aj=>ay b m aj o2⟩;have an:∀ b id k,μ3 id=some (b,k)->b<W.heap.size->Oi b:=λb id k e m=>by
      by_cases hc:∃ id k,μ' id=some (b,k)
      ·obtain ⟨id,k,hc⟩:=hc; exact q4 b id k hc
      ·exfalso;have u1:∀ id k,μ' id≠some (b,k):=λid k e=>hc ⟨id,k,e⟩;exact ab.un (by rw [World.putObj_size]; omega) (aa.un m u1) id k e
     have ar:W.heap.size<=w3.heap.size:=by have:=ab.size; rw [World.putObj_size] at this; omega
     let O2:Nat->Prop:=λb=>Oi b\/∃ id k,μ3 id=some (b,k)
     have fin:∀ (S:Yb Code),(Instr.endRound l S).run P w3 = .ok (.bool S.isNone) (w3.putObj l (.loop (rec (if S.isNone then .ready else .done) S))):=λS=>by
      have:=run_endRound (P:=P) S j4.hl;rw [this,X]
     have rp:∀ (S:Yb Code) (e:Ending),((e = .returned (.bool true)/\G.J (k+1) O2 (w3.putObj l (.loop (rec (if S.isNone then .ready else .done) S))))\/(e = .returned (.bool false)/\G.Jx (w3.putObj l (.loop (rec (if S.isNone then .ready else .done) S)))))->krI G k Oi W e (w3.putObj l (.loop (rec (if S.isNone then .ready else .done) S))):=λS e he=>
      ⟨O2,⟨λb m=>by
       rw [World.putObj_size];rcases m with m | ⟨id,k',m⟩
       ·exact jar (hO b m) ar
       ·exact (ap.hr.scope id b k' m).2,λb xg aW=>by
       have p:=ap.hr.olt.pin b xg aW;by_cases q:b=l
       ·obtain ⟨c,T,f,aG,_⟩:=p;rw [q,j4.hl] at aG; cases aG
       ·rw [World.putObj_heap_other q]; exact p⟩,λb m ai=>by
       rcases m with m | ⟨id,k',m⟩
       ·exact m
       ·exact an b id k' m ai,be _,he⟩
     cases e3 with
     | normal=>
      refine ⟨_,_,fin none,rp none _ (.inl ⟨rfl,λb m=>?_,s3.h,s3.n,μ3,ah,j4.put,λb id k e=>.inr ⟨id,k,e⟩,.inl q5,λb m=>.inl (q6 b m)⟩)⟩;rw [World.putObj_size];rcases m with m | ⟨id,k',m⟩
      ·exact jar (hO b m) ar
      ·exact (ap.hr.scope id b k' m).2
     | ret=>exact ⟨_,_,fin (some .ret),rp (some .ret) _ (.inr ⟨rfl,.ret,s3.h,s3.n,μ3,ah,j4.put⟩)⟩
     | exit id=>exact ⟨_,_,fin (some (.exit id)),rp (some (.exit id)) _ (.inr ⟨rfl,.exit id,s3.h,s3.n,μ3,ah,j4.put⟩)⟩
     | goto t=>exact ah.elim
     | panic ch=>exact ah.elim
     | outgrown=>exact ah.elim
    | exit id=>exact ac.elim
    | goto t=>exact ac.elim
    | ret=>exact ac.elim
    | panic ch=>exact ac.elim
    | outgrown=>exact ac.elim
  let O0:Nat->Prop:=λb=>O1 b\/(∃ id k,μ id=some (b,k))\/b=l
  have aP:=(jaj.1 j1.hl).1;have hO0:OLT O0 W1:=j1.hr.olt.av (O':=O0) (λb m=>by
   rcases m with m | ⟨id,k,m⟩ | rfl
   ·exact jar (z.hr.olt b m) j1.evo.size
   ·exact jar (hrO.scope id b k m).2 j1.evo.size
   ·exact aP)
  have aK:∀ (j:Nat) (c:AV),Y[j]?=some c->vs[j]?=some (us j)/\VR w (Av O1 μ) mu0 0 c (us j):=λj c U=>by
   obtain ⟨b,m⟩:=kag hs.len U;exact ⟨hc j b m,(hs.at j b c m U).vr hrI (by have:=(aC j b m).split ids; rwa [<-hμ] at this)⟩
  refine (callsIn_FF.2 (callsIn_FF.1 (ax O0 W1 vs G rfl rfl ok hO0 (by rw [aw,hs.len]) (λj c U=>?_) ?_ ⟨hO0,h',st.n,μ,h0,j1,λb id k e=>.inr (.inl ⟨id,k,e⟩),.inr (.inr rfl),λb m=>.inl m⟩))).mono ?_
  ·obtain ⟨e1,v2⟩:=aK j c U;refine ⟨us j,e1,VR.round ⟨j1.evo.os,j1.evo.tape,j1.evo.output.1,j1.evo.size,λb m _=>hW b m⟩ (λb m ai=>?_) v2⟩;rcases m with m | m | rfl
   ·exact .inl m
   ·exact .inr m
   ·exact absurd ai (by have:=j1.ll; omega)
  ·cases hw:own with
   | false=>intro b m; rw [show G.pv=pv from rfl,aA,hw] at m; cases m.1
   | true=>
    obtain ⟨o1,o2⟩:=an hw;have key:∀ (j:Nat) (c:AV),Z[j]?=some c->∃ id k T e v b cs,c = .own id 0 0/\Y[j]?=some (.fp [.sc v])/\μ0 id=some (b,k)/\ids.contains id=true/\us j = .pointer (some ⟨b,0,none⟩)/\w.heap[b]?=some (.cells cs T (0,0))/\st.h id=some (.cells k T e):=λj c U=>by
     obtain ⟨id,k,T,e,v,rfl,p1,p2⟩:=o1 j c U;obtain ⟨p3,p4⟩:=hi id _ p1;obtain ⟨b,cs,g1,g2,g3,g4⟩:=keO z.hr p4 (aC j _ U);exact ⟨id,k,T,e,v,b,cs,rfl,p2,g1,p3,by simpa using g3,g2,p4⟩
    refine ⟨λj c U=>?_,λj j' U e=>?_⟩
    ·obtain ⟨c0,m⟩:=kag hs.len U;obtain ⟨id,k,T,e,v,b,cs,rfl,p2,g1,p3,g3,g2,p4⟩:=key j c0 m;obtain ⟨e1,v2⟩:=aK j c U;rw [p2] at U; cases U;rw [g3] at v2 e1;have bh:=(z.hr.scope id b k g1).2;cases v2 with
     | fp _ _ _ bC _ q2 q3 q4=>
      have r1:=(q4 0 _ rfl).sc_inv;have r2:=q2 0 _ rfl;have r3:=q3 0 _ rfl;rw [r1] at r2;obtain ⟨c1,T1,f1,r4,r5⟩:=cell_heap.1 r2;rw [g2] at r4; cases r4;refine ⟨v,b,T,cs,rfl,e1,(hW b bh).trans g2,r5,r3,?_,λq=>?_⟩
      ·show pv b;rw [aA];exact ⟨hw,id,k,by simp only [muI]; rw [if_pos p3]; exact g1⟩
      ·rcases q with (q | ⟨ae,k',q⟩ | q) | q
       ·exact z.hr.notO id b k g1 (.inl q)
       ·rw [hμ] at q;obtain ⟨q1,q2⟩:=kay q;rw [z.hr.inj _ _ _ _ _ q2 g1,p3] at q1; cases q1
       ·have:=j1.ll; omega
       ·exact z.hr.notO id b k g1 (.inr q)
    ·have aD:j<Z.length:=by rw [<-aw]; exact U
     have ad:=jaf aD;obtain ⟨id,k,T,e0,v,b,cs,p1,p2,g1,p3,g3,g2,p4⟩:=key j _ ad;rw [hc j _ ad] at e;have bq:j'<Z.length:=by rw [<-aw]; exact (jaj.1 e.symm).1
     have az:=jaf bq;obtain ⟨ae,k',T',bD,v',b',bw,bk,bv,bo,bA,bf,bz,bx⟩:=key j' _ az;rw [hc j' _ az,g3,bf] at e;simp only [Option.some.injEq,Value.pointer.injEq,Addr.mk.injEq,and_true] at e;subst e;have:=z.hr.inj _ _ _ _ _ g1 bo;subst this;exact o2 j j' aD (by rw [ad,az,p1,bk])
  ·rintro e W2 ⟨⟨v,rfl⟩,aL⟩;have fin:∀ sta pe h n μ',LJ O2 w μ0 μ st.n l ms rec sta pe h n μ' W2->(∀ c,pe=some c->jumpQ Q st.env c h n)->(pe=none->Q .normal ⟨st.env,h,n⟩)->sta≠.busy->rangePost (FF ro) 0 P l (Post N D O1 Q μ0 w st.n) { a with defers:=ms.map (λb=>({ target:=.collected b,args:=#[] }:Deferred))++a.defers } (.returned v) W2:=λsta pe h n μ' jj ac bg aY=>by
    have j5:=jj.put (sta2:=.exhausted) (pe2:=pe);refine ⟨pe,W2.putObj l (.loop (rec .exhausted pe)),?_,?_⟩
    ·have:=run_endLoop (P:=P) jj.hl (by rw [X]; exact aY);rw [this,X]
    ·have aB:SR N D O1 μ' ⟨st.env,h,n⟩ { a with defers:=ms.map (λb=>({ target:=.collected b,args:=#[] }:Deferred))++a.defers } (W2.putObj l (.loop (rec .exhausted pe))):=by
      obtain ⟨m1,m2,bs,m3,m4,m5⟩:=z.defers;refine ⟨j5.hr.less bb,z.size,⟨λe=>(by rw [hD] at e; cases e),jcl m2 j5.evo.size,ms++bs,?_,by simp [m4],λb m=>?_⟩,λs=>(z.env s).evo j5.evo,z.gs,by unfold GInv; rw [hD]; trivial⟩
      ·refine List.nodup_append.2 ⟨bl,m3,λx hx y hy e=>?_⟩;subst e;obtain ⟨r1,r2,r3⟩:=m5 x hy;have:=(jaj.1 r2).1;have:=(j5.ms x hx).1;omega
      ·rcases jay.1 m with m | m
       ·obtain ⟨r1,r2,r3,r4⟩:=j5.ms b m;exact ⟨jcl m2 r1,r3,r4⟩
       ·obtain ⟨r1,r2,r3⟩:=m5 b m;have ai:=(jaj.1 r2).1;exact ⟨r1,(j5.evo.keep b ai r3).trans r2,j5.evo.un ai r3⟩
     cases pe with
     | none=>exact ⟨⟨st.env,h,n⟩,μ',O1,(λ_=>rfl),bg rfl,aB,j5.evo.d⟩
     | some c=>
      have ad:=ac c rfl;unfold jumpQ at ad;cases c with
      | ret=>exact wpIn_ret ⟨⟨st.env,h,n⟩,μ',O1,(λ_=>rfl),ad,aB,j5.evo.d⟩
      | exit id=>exact wpIn_exit ⟨⟨st.env,h,n⟩,μ',O1,(λ_=>rfl),ad,aB,j5.evo.d⟩
      | _=>exact ad.elim
   rcases aL with ⟨O',_,h,n,μ',q2,q3,_⟩ | ⟨c,h,n,μ',q1,q2⟩
   ·exact fin _ _ _ _ _ q3 (λc e=>by cases e) (λ_=>done h n q2) (by simp)
   ·exact fin _ _ _ _ _ q2 (λc' e=>by cases e; exact q1) (λe=>by cases e) (by simp)
end
inductive Ty where
 | i (k:IntKind) | b | s | un | nt
 | pr (x y:Ty) | w (x:Ty) | sl (x:Ty) | pt (x:Ty) | op (x:Ty) | ar (n:Nat) (x:Ty) | sm (x y:Ty) | fn (n:Nat) (x y:Ty)
 deriving DecidableEq
structure Arr (n:Nat) (α:Type) where
 l:List α
 h:l.length=n
@[reducible] def Ty.den:Ty->Type
 | .i _=>Int
 | .b=>Bool
 | .s=>List UInt8
 | .un=>Unit
 | .nt=>Nat
 | .pr x y=>x.den×y.den
 | .w x=>x.den
 | .sl x=>List x.den
 | .pt x=>x.den
 | .op x=>Option x.den
 | .ar n x=>Arr n x.den
 | .sm x y=>x.den⊕y.den
 | .fn _ x y=>x.den->Option y.den
def Ty.wd:Ty->Nat
 | .i _ | .b | .s | .sl _ | .pt _ | .op _=>1
 | .pr x y=>x.wd+y.wd
 | .w x=>x.wd
 | .ar n x=>n*x.wd
 | _=>0
def Ty.agg:Ty->Bool
 | .pr _ _ | .w _ | .ar _ _ | .un=>true
 | _=>false
def Ty.dat:Ty->Bool
 | .i _ | .b | .s | .un=>true
 | .sl x | .pt x | .op x | .w x | .ar _ x=>x.dat
 | .pr x y=>x.dat&&y.dat
 | _=>false
def Ty.flat:Ty->Bool
 | .i _ | .b | .s | .un=>true
 | .w x=>x.flat
 | .pr x y=>x.flat&&y.flat
 | _=>false
def Ty.enc:(t:Ty)->t.den->Ya AV
 | .i k,x=>[.sc (.int k x)]
 | .b,x=>[.sc (.bool x)]
 | .s,x=>[str x]
 | .un,_=>[]
 | .pr t u,x=>t.enc x.1++u.enc x.2
 | .w a,x=>a.enc x
 | .sl a,l=>[.sl (l.map a.enc)]
 | .pt a,x=>[.fp (a.enc x)]
 | .op a,x=>[ptrE a.enc x]
 | .ar _ a,x=>(x.l.map a.enc).flatten
 | .nt,_=>[] | .sm _ _,_=>[] | .fn _ _ _,_=>[]
def Ty.av (t:Ty) (x:t.den):AV:=if t.agg then .ag (t.enc x) else (t.enc x).headD .un
def untup:Nat->Ty->Ya Ty
 | 0,_=>[]
 | 1,t=>[t]
 | n+2,.pr a b=>a::untup (n+1) b
 | _+2,t=>[t]
def tup:Ya Ty->Ty
 | []=>.un
 | [t]=>t
 | t::ts=>.pr t (tup ts)
inductive PV where
 | un | ud
 | c (t:Ty)
 | sc (v:Value)
 | ptr (id j:Nat)
 | mw (id:Nat) | mp (id:Nat) | fw (id:Nat) | np (id:Nat)
 | fn (g:FuncId) (caps:List PV)
 | ag (vs:List PV)
 | gs (t:Ty)
inductive PB where
 | bx (T:TypeId) (vs:List PV)
 | el (T:TypeId) (t:Ty)
 | sl (T:TypeId) (t:Ty)
 | mp (k v:Ty)
 | fm (T:TypeId) (t:Ty) (j:Nat) (U:TypeId) (u:Ty)
 | si
 | km (l:List (List UInt8×Option Nat))
def isE {α:Type} (l:Ya α):Bool:=l.isEmpty
def lbeq {α:Type} (f:α->α->Bool):Ya α->Ya α->Bool
 | [],[]=>true
 | x::l,y::r=>f x y&&lbeq f l r
 | _,_=>false
def teq:(t:Ty)->t.den->t.den->Bool
 | .i _,x,y=>decide (x=y)
 | .b,x,y=>x==y
 | .s,x,y=>decide (x=y)
 | .un,_,_=>true
 | .nt,x,y=>decide (x=y)
 | .pr a b,x,y=>teq a x.1 y.1&&teq b x.2 y.2
 | .w a,x,y=>teq a x y
 | .pt a,x,y=>teq a x y
 | .sl a,x,y=>lbeq (teq a) x y
 | .op a,x,y=>(match x,y with | none,none=>true | some x,some y=>teq a x y | _,_=>false)
 | .ar _ a,x,y=>lbeq (teq a) x.l y.l
 | .sm a b,x,y=>(match x,y with | .inl x,.inl y=>teq a x y | .inr x,.inr y=>teq b x y | _,_=>false)
 | .fn _ _ _,_,_=>false
def bthO (t:Ty) (a b:Yb t.den):Yb t.den:=
 match a,b with
 | some x,some y=>if teq t x y=true then some x else none
 | _,_=>none
theorem knj {α:Type} {f:α->α->Bool} (h:∀ x y,f x y=true->x=y):∀ l r:Ya α,lbeq f l r=true->l=r
 | [],[],_=>rfl
 | x::l,y::r,e=>by
  simp only [lbeq,jad] at e;rw [h x y e.1,knj h l r e.2]
 | [],_::_,e=>by simp [lbeq] at e
 | _::_,[],e=>by simp [lbeq] at e
theorem kdH:∀ (t:Ty) (x y:t.den),teq t x y=true->x=y
 | .i _,x,y,h=>by simpa [teq] using h
 | .b,x,y,h=>by simpa [teq] using h
 | .s,x,y,h=>by simpa [teq] using h
 | .un,_,_,_=>rfl
 | .nt,x,y,h=>by simpa [teq] using h
 | .pr a b,(x1,x2),(y1,y2),h=>by
  simp only [teq,jad] at h;rw [kdH a _ _ h.1,kdH b _ _ h.2]
 | .w a,x,y,h=>kdH a x y h
 | .pt a,x,y,h=>kdH a x y h
 | .sl a,x,y,h=>knj (kdH a) x y h
 | .op a,none,none,_=>rfl
 | .op a,some x,some y,h=>by rw [kdH a x y h]
 | .op a,some _,none,h=>by simp [teq] at h
 | .op a,none,some _,h=>by simp [teq] at h
 | .ar _ a,⟨x,hx⟩,⟨y,hy⟩,h=>by have:=knj (kdH a) x y h; subst this; rfl
 | .sm a b,.inl x,.inl y,h=>by rw [kdH a x y h]
 | .sm a b,.inr x,.inr y,h=>by rw [kdH b x y h]
 | .sm a b,.inl _,.inr _,h=>by simp [teq] at h
 | .sm a b,.inr _,.inl _,h=>by simp [teq] at h
 | .fn _ _ _,_,_,h=>by simp [teq] at h
theorem kny {t:Ty} {a b:Yb t.den} {r:t.den} (h:bthO t a b=some r):a=some r/\b=some r:=by
 unfold bthO at h;split at h
 ·split at h
  ·rename_i x y e;cases h;exact ⟨rfl,by rw [kdH _ _ _ e]⟩
  ·cases h
 ·cases h
structure Alg where
 D:Ty->Type
 Ans:Ty->Type
 k0:{x:Ty}->String->x.den->D x
 k1:{x y:Ty}->String->(x.den->y.den)->D x->D y
 k2:{x y z:Ty}->String->(x.den->y.den->z.den)->D x->D y->D z
 k3:{x y z u:Ty}->String->(x.den->y.den->z.den->u.den)->D x->D y->D z->D u
 ret:{t:Ty}->D t->Ans t
 fail:{t:Ty}->String->Ans t
 ask:{t:Ty}->Nat->List (Nat×PV)->List (Nat×PB)->Ans t
 note:{t:Ty}->String->Ans t->Ans t
 ite:{t:Ty}->D .b->Ans t->Ans t->Ans t
 p1:{x y t:Ty}->String->(x.den->Option y.den)->D x->(D y->Ans t)->Ans t
 p2:{x y z t:Ty}->String->(x.den->y.den->Option z.den)->D x->D y->(D z->Ans t)->Ans t
 p3:{x y z u t:Ty}->String->(x.den->y.den->z.den->Option u.den)->D x->D y->D z->(D u->Ans t)->Ans t
 jn:{x t:Ty}->Ans x->(D x->Ans t)->Ans t
 lp:{x y t:Ty}->D x->(D x->Ans (.sm x y))->(D y->Ans t)->Ans t
 cs:{x y t:Ty}->D (.sm x y)->(D x->Ans t)->(D y->Ans t)->Ans t
 chk:{t u:Ty}->Ans u->Ans t->Ans t
 stop:{t:Ty}->Ans t
 bth:{t:Ty}->Ans t->Ans t->Ans t
 els:{t:Ty}->Ans t->Ans t->Ans t
 lam:{n:Nat}->{x y:Ty}->(D x->Ans y)->D (.fn n x y)
def itN {α β:Type} (F:α->Yb (α⊕β)):Nat->α->Yb β
 | 0,_=>none
 | n+1,x=>match F x with
  | none=>none
  | some (.inl y)=>itN F n y
  | some (.inr z)=>some z
def iter {α β:Type} (F:α->Yb (α⊕β)) (x:α):Yb β:=itN F 18446744073709551616 x
def elsO {α:Type} (a b:Yb α):Yb α:=match a with | some x=>some x | none=>b
theorem kth {α:Type} {a b:Yb α} {r:α} (h:elsO a b=some r):a=some r\/b=some r:=by
 cases a with
 | none=>exact .inr h
 | some x=>exact .inl h
@[reducible] def sem:Alg where
 D:=Ty.den
 Ans t:=Option t.den
 k0 _ v:=v
 k1 _ f a:=f a
 k2 _ f a b:=f a b
 k3 _ f a b c:=f a b c
 ret v:=some v
 fail _:=none
 ask _ _ _:=none
 note _ a:=a
 ite c a b:=if c=true then a else b
 p1 _ f a k:=(f a).bind k
 p2 _ f a b k:=(f a b).bind k
 p3 _ f a b c k:=(f a b c).bind k
 jn a k:=a.bind k
 lp x F k:=(iter F x).bind k
 cs s f g:=match s with | .inl a=>f a | .inr b=>g b
 chk b a:=b.bind λ_=>a
 stop:=none
 bth a b:=bthO _ a b
 els a b:=elsO a b
 lam f:=f
inductive TV (A:Alg) where
 | un | ud
 | c (t:Ty) (x:A.D t)
 | kb (b:Bool)
 | sc (v:Value)
 | ptr (id j:Nat)
 | adr (id:Nat) (i:A.D (.i .i64)) (j:Nat)
 | aa (id:Nat) (i:A.D (.i .i64))
 | ax (id:Nat) (i k:A.D (.i .i64))
 | fq (t:Ty) (x:A.D t) (off:Nat)
 | mw (id:Nat)
 | ms (id:Nat) (off len:A.D (.i .i64))
 | mp (id:Nat)
 | fw (id:Nat)
 | fr (id:Nat) (i:A.D (.i .i64))
 | fo (id:Nat) (i:A.D (.i .i64)) (j:Nat)
 | fa (id:Nat) (i k:A.D (.i .i64)) (o:Nat)
 | fs (id:Nat) (off len:A.D (.i .i64))
 | fn (g:FuncId) (caps:List (TV A))
 | cv (m:Nat) (x y:Ty) (F:A.D (.fn m x y))
 | tp (vs:List (TV A))
 | ag (vs:List (TV A))
 | gs (t:Ty) (l:A.D (.sl t))
 | yl (id:Nat)
 | kp (id:Nat)
 | np (id:Nat)
inductive TB (A:Alg) where
 | bx (T:TypeId) (vs:List (TV A))
 | el (T:TypeId) (t:Ty) (x:A.D t)
 | sl (T:TypeId) (t:Ty) (l:A.D (.sl t))
 | mp (k v:Ty) (l:A.D (.sl (.pr k v)))
 | fm (T:TypeId) (t:Ty) (j:Nat) (U:TypeId) (u:Ty) (l:A.D (.sl t)) (ho:Option (A.D (.i .i64)))
 | si (x:A.D (.pr .s (.i .i64)))
 | km (l:List (List UInt8×Option Nat))
structure Cx (A:Alg) where
 e0:List (Nat×TV A)
 g:List (Nat×TB A)
structure TS (A:Alg) where
 env:List (Nat×TV A)
 hp:List (Nat×Option (TB A))
 n:Nat
 dy:Bool
def alk {α:Type}:Ya (Nat×α)->Nat->Yb α
 | [],_=>none
 | (k,v)::l,x=>if x=k then some v else alk l x
def tlk {A:Alg} (c:Cx A) (s:TS A) (x:Nat):TV A:=
 match alk s.env x with
 | some v=>v
 | none=>(alk c.e0 x).getD .un
def thp {A:Alg} (c:Cx A) (s:TS A) (id:Nat):Yb (TB A):=
 match alk s.hp id with
 | some b=>b
 | none=>alk c.g id
structure Pat where
 env:List (Nat×PV)
 hp:List (Nat×PB)
mutual
def PV.tys:PV->Ya Ty
 | .c t=>[t]
 | .gs t=>[.sl t]
 | .fn _ i=>PV.tysL i
 | .ag vs=>PV.tysL vs
 | _=>[]
def PV.tysL:Ya PV->Ya Ty
 | []=>[]
 | v::vs=>v.tys++PV.tysL vs
end
def PB.tys:PB->Ya Ty
 | .bx _ vs=>PV.tysL vs
 | .el _ t=>[t]
 | .sl _ t=>[.sl t]
 | .mp k v=>[.sl (.pr k v)]
 | .fm _ t _ _ _=>[.sl t]
 | .si=>[.pr .s (.i .i64)]
 | .km _=>[]
def Pat.tys (p:Pat):Ya Ty:=(p.env.map λx=>x.2.tys).flatten++(p.hp.map λx=>x.2.tys).flatten
def Pat.ty (p:Pat):Ty:=tup p.tys
def stTy:Ya Ty->Ty
 | []=>.un
 | [t]=>.w t
 | ts=>tup ts
def tyF (P:Ye):Nat->Yc->Yb Ty
 | 0,_=>none
 | d+1,T=>match P.underlying T with
  | some .bool=>some .b
  | some (.int k)=>some (.i k)
  | some .string=>some .s
  | some (.slice e)=>(tyF P d e).map .sl
  | some (.pointer e)=>(tyF P d e).map .op
  | some (.array n e)=>(tyF P d e).map (.ar n)
  | some (.struct fs)=>(fs.toList.mapM λf=>tyF P d f.type).map stTy
  | _=>none
def tyOf (P:Ye) (T:Yc):Yb Ty:=tyF P 9 T
def ket (P:Ye) (T:Yc):Bool:=match P.underlying T with | some .string=>true | _=>false
def kkd (P:Ye) (T:Yc):Bool:=match P.underlying T with | some .bool=>true | _=>false
def kqi (P:Ye) (T:Yc):Bool:=match P.underlying T with | some (.map _ _)=>true | _=>false
def kpt (P:Ye) (T:Yc):Bool:=match elemO P T with | some e=>(match P.underlying e with | some (.int .u8)=>true | _=>false) | none=>false
theorem ksy {P:Ye} {T:Yc} (h:kpt P T=true):∃ e,elemO P T=some e/\P.underlying e=some (.int .u8):=by
 unfold kpt at h; split at h
 ·rename_i e i;split at h
  ·exact ⟨e,i,by assumption⟩
  ·cases h
 ·cases h
theorem kdf {P:Ye} {T:Yc} (h:ket P T=true):P.underlying T=some .string:=by
 unfold ket at h; split at h
 ·assumption
 ·cases h
theorem kmu {P:Ye} {T:Yc} (h:kkd P T=true):P.underlying T=some .bool:=by
 unfold kkd at h; split at h
 ·assumption
 ·cases h
theorem ksF {P:Ye} {T:Yc} (h:kqi P T=true):∃ k v,P.underlying T=some (.map k v):=by
 unfold kqi at h; split at h
 ·exact ⟨_,_,by assumption⟩
 ·cases h
def kea (P:Ye):Nat->Yc->Yb (Ya Yc)
 | 0,_=>none
 | d+1,T=>match P.underlying T with
  | some (.struct fs)=>(fs.toList.mapM λf=>kea P d f.type).map List.flatten
  | some (.array n e)=>(kea P d e).map λl=>(List.replicate n l).flatten
  | some _=>some [T]
  | none=>none
def eqOkL (P:Ye) (i:Yc->Ty->Bool):Ya Field->Nat->Ty->Bool
 | [],_,t=>decide (t = .un)
 | [f],o,t=>f.name != "_"&&decide (f.offset=o)&&decide (P.cellsOf f.type=t.wd)&&decide (aggO P f.type=some t.agg)&&i f.type t
 | f::g::fs,o,t=>match t with
  | .pr u v=>f.name != "_"&&decide (f.offset=o)&&decide (P.cellsOf f.type=u.wd)&&decide (aggO P f.type=some u.agg)&&i f.type u&&eqOkL P i (g::fs) (o+u.wd) v
  | _=>false
def eqOkT (P:Ye):Nat->Yc->Ty->Bool
 | 0,_,_=>false
 | d+1,T,t=>match P.underlying T with
  | some .bool=>decide (t = .b)
  | some (.int k)=>decide (t = .i k)
  | some .string=>decide (t = .s)
  | some (.struct fs)=>!P.stoodInHeld T&&match fs.toList,t with
   | [f],.w u=>eqOkL P (eqOkT P d) [f] 0 u
   | [_],_=>false
   | fs,t=>eqOkL P (eqOkT P d) fs 0 t
  | _=>false
def kn:IntKind->String
 | .i64=> ".i64" | .i32=> ".i32" | .i16=> ".i16" | .i8=> ".i8" | .u64=> ".u64" | .u32=> ".u32" | .u16=> ".u16" | .u8=> ".u8"
def wk (k:IntKind) (x:Int):Int:=match k with | .i64=>w64 x | k=>k.wrap x
def wn (k:IntKind):String:=match k with | .i64=> "w64" | k=> "IntKind.wrap "++kn k
def lenI {α:Type} (l:Ya α):Int:=l.length
def rowI {α:Type} (l:Ya (Ya α)) (i:Int):Ya α:=(l[i.toNat]?).getD []
def iop (op:BinOp) (k:IntKind):Yb (String×(Int->Int->Int)):=
 match op with
 | .add=>some (""++wn k++ "",λa b=>wk k (a+b))
 | .sub=>some (""++wn k++ "",λa b=>wk k (a-b))
 | .mul=>some (""++wn k++ "",λa b=>wk k (a*b))
 | .and=>some (""++kn k++ "",λa b=>bitsI .and k a b)
 | .or=>some (""++kn k++ "",λa b=>bitsI .or k a b)
 | .xor=>some (""++kn k++ "",λa b=>bitsI .xor k a b)
 | .andNot=>some (""++kn k++ "",λa b=>bitsI .andNot k a b)
 | _=>none
def icmp (op:BinOp):Yb (String×(Int->Int->Bool)):=
 match op with
 | .eql=>some ("",λa b=>a==b)
 | .neq=>some ("",λa b=>a != b)
 | .lss=>some ("",λa b=>decide (a<b))
 | .leq=>some ("",λa b=>decide (a<=b))
 | .gtr=>some ("",λa b=>decide (b<a))
 | .geq=>some ("",λa b=>decide (b<=a))
 | _=>none
def gquo (k:IntKind) (a b:Int):Yb Int:=if b=0 then none else some (wk k (a.tdiv b))
def grem (a b:Int):Yb Int:=if b=0 then none else some (a.tmod b)
def gshl (k:IntKind) (a b:Int):Yb Int:=if 0<=b then some (wk k (a*2 ^ (min b.toNat k.bits))) else none
def gshr (k:IntKind) (a b:Int):Yb Int:=if 0<=b then some (a.fdiv (2 ^ (min b.toNat k.bits))) else none
def ipop (op:BinOp) (k:IntKind):Yb (String×(Int->Int->Yb Int)):=
 match op with
 | .quo=>some (""++kn k++ "",gquo k)
 | .rem=>some ("",grem)
 | .shl=>some (""++kn k++ "",gshl k)
 | .shr=>some (""++kn k++ "",gshr k)
 | _=>none
def scmp (op:BinOp):Yb (String×(Ya UInt8->Ya UInt8->Bool)):=
 match op with
 | .eql=>some ("",λa b=>a==b)
 | .neq=>some ("",λa b=>!(a==b))
 | .lss=>some ("",λa b=>Op.bytesLess a b)
 | .leq=>some ("",λa b=>Op.bytesLess a b||a==b)
 | .gtr=>some ("",λa b=>!(Op.bytesLess a b||a==b))
 | .geq=>some ("",λa b=>!(Op.bytesLess a b))
 | _=>none
def lset {α:Type} (l:Ya α) (i:Int) (x:α):Ya α:=l.set i.toNat x
def gmi (o n i:Int):Yb Int:=if 0<=i/\i<n then some (o+i) else none
def gmb (n a b:Int):Yb Unit:=if 0<=a/\a<=b/\b<=n then some () else none
def lcopy {α:Type} (l:Ya α) (o n:Int) (xs:Ya α):Ya α:=l.take o.toNat++xs.take (min xs.length n.toNat)++l.drop (o.toNat+min xs.length n.toNat)
def kwh {α:Type} (l:Ya α) (p:Int×Int) (xs:Ya α):Ya α:=lcopy l p.1 p.2 xs
def gstr (l:Ya UInt8) (i:Int):Yb Int:=(gi l i).map λb=>(b.toNat:Int)
def garr {n:Nat} {α:Type} (a:Arr n α) (i:Int):Yb α:=gi a.l i
def aset {n:Nat} {α:Type} (a:Arr n α) (i:Int) (x:α):Arr n α:=⟨a.l.set i.toNat x,by rw [jcq]; exact a.h⟩
def amk (n:Nat) {α:Type} (x:α):Arr n α:=⟨List.replicate n x,List.length_replicate⟩
def gcat (a b:Ya UInt8):Yb (Ya UInt8):=if a.length+b.length<=9223372036854775807 then some (a++b) else none
def kbz:Yd->Bool
 | .slice none 0 0=>true
 | _=>false
def khF:Yd->Bool
 | .pointer none=>true
 | _=>false
def klF:Yd->Bool
 | .nilIface=>true
 | _=>false
theorem knZ {v:Yd} (h:klF v=true):v = .nilIface:=by
 unfold klF at h; split at h
 ·rfl
 ·cases h
theorem kaF {v:Yd} (h:kbz v=true):v = .slice none 0 0:=by
 unfold kbz at h; split at h
 ·rfl
 ·cases h
theorem khf {v:Yd} (h:khF v=true):v = .pointer none:=by
 unfold khF at h; split at h
 ·rfl
 ·cases h
section
variable (A:Alg)
def toI (n:Int) (k:IntKind):A.D (.i k):=A.k0 (if n<0 then "" else "") n
def toB (b:Bool):A.D .b:=A.k0 (toString b) b
def toS (l:Ya UInt8):A.D .s:=A.k0 (""++ "".intercalate (l.map toString)++ "") l
def tcast {A:Alg} {t':Ty} (t:Ty) (x:A.D t'):Yb (A.D t):=if h:t'=t then some (h ▸ x) else none
def mkT:(ts:Ya Ty)->Ya ((t:Ty)×A.D t)->Yb (A.D (tup ts))
 | [],[]=>some (A.k0 (x:=.un) "" ())
 | [t],[v]=>tcast t v.2
 | t::u::ts,v::vs=>(tcast t v.2).bind λx=>(mkT (u::ts) vs).map λy=>A.k2 (x:=t) (y:=tup (u::ts)) (z:=.pr t (tup (u::ts))) "" Prod.mk x y
 | _,_=>none
def unT:(ts:Ya Ty)->A.D (tup ts)->Ya ((t:Ty)×A.D t)
 | [],_=>[]
 | [t],x=>[⟨t,x⟩]
 | t::u::ts,x=>⟨t,A.k1 (x:=.pr t (tup (u::ts))) (y:=t) "" Prod.fst x⟩::unT (u::ts) (A.k1 (x:=.pr t (tup (u::ts))) (y:=tup (u::ts)) "" Prod.snd x)
def ofVal:Yd->TV A
 | .int k n=>.c (.i k) (toI A n k)
 | .bool b=>.kb b
 | .string s=>.c .s (toS A s.data.toList)
 | v=>.sc v
def ofCst:Yd->TV A
 | .agg cs=>if cs.all (·.oneCell') then .ag (cs.toList.map (ofVal A)) else .un
 | .tuple _=>.un
 | v=>ofVal A v
variable {A}
variable (P:Ye) (c:Cx A)
def tev (s:TS A):Yf->TV A
 | .tmp t=>tlk c s t
 | .const v=>ofCst A v
 | .global _=>.un
 | .func f=>.fn f []
def kgp:(t:Ty)->A.D t->Ya (TV A)
 | .pr a b,x=>kgp a (A.k1 (x:=.pr a b) (y:=a) "" Prod.fst x)++kgp b (A.k1 (x:=.pr a b) (y:=b) "" Prod.snd x)
 | .w a,x=>kgp a (A.k1 (x:=.w a) (y:=a) "" (λv=>v) x)
 | .un,_=>[]
 | t,x=>[.c t x]
def Ty.noAr:Ty->Bool
 | .pr t u=>t.noAr&&u.noAr
 | .w a=>a.noAr
 | .ar _ _=>false
 | _=>true
def kas:TV A->Yb (Ya (TV A))
 | .c t x=>if t.noAr&&t.dat then some (kgp t x) else none
 | .ag vs=>some vs
 | .un | .ud | .tp _ | .gs _ _ | .yl _ | .kp _=>none
 | v=>some [v]
def snapL (s:TS A):(t:Ty)->Ya (TV A)->Yb (A.D t×Ya (TV A)×Ya Nat)
 | .pr a b,vs=>(snapL s a vs).bind λx=>(snapL s b x.2.1).map λy=>(A.k2 (x:=a) (y:=b) (z:=.pr a b) "" Prod.mk x.1 y.1,y.2.1,x.2.2++y.2.2)
 | .w a,vs=>(snapL s a vs).map λx=>(A.k1 (x:=a) (y:=.w a) "" (λv=>v) x.1,x.2)
 | .un,vs=>some (A.k0 (x:=.un) "" (),vs,[])
 | .i k,.c t x::vs=>(tcast (.i k) x).map λx=>(x,vs,[])
 | .b,.c t x::vs=>(tcast .b x).map λx=>(x,vs,[])
 | .b,.kb x::vs=>some (toB A x,vs,[])
 | .s,.c t x::vs=>(tcast .s x).map λx=>(x,vs,[])
 | .sl a,.c t x::vs=>(tcast (.sl a) x).map λx=>(x,vs,[])
 | .sl a,.sc v::vs=>if kbz v then some (A.k0 (x:=.sl a) "" [],vs,[]) else none
 | .sl a,.mw id::vs=>match thp c s id with
  | some (.sl T t l)=>(tcast (.sl a) l).map λx=>(x,vs,[id])
  | _=>none
 | .sl a,.ms id off len::vs=>match thp c s id with
  | some (.sl T t l)=>(tcast (.sl a) l).map λx=>(A.k3 (x:=.sl a) (y:=.i .i64) (z:=.i .i64) (u:=.sl a) "" (λl o n=>(l.drop o.toNat).take n.toNat) x off len,vs,[id])
  | _=>none
 | .sl a,.fw id::vs=>match thp c s id with
  | some (.fm T t j U u l none)=>(tcast (.sl a) l).map λx=>(x,vs,[id])
  | _=>none
 | .sl a,.fr id i::vs=>match thp c s id with
  | some (.fm T (.sl u') 0 U u l none)=>(tcast (.sl a) (A.k2 (x:=.sl (.sl u')) (y:=.i .i64) (z:=.sl u') "" (λl i=>rowI l i) l i)).map λx=>(x,vs,[id])
  | _=>none
 | .sl a,.fs id off len::vs=>match thp c s id with
  | some (.fm T t j U u l none)=>(tcast (.sl a) l).map λx=>(A.k3 (x:=.sl a) (y:=.i .i64) (z:=.i .i64) (u:=.sl a) "" (λl o n=>(l.drop o.toNat).take n.toNat) x off len,vs,[id])
  | _=>none
 | .op a,.c t x::vs=>match tcast (.op a) x with
  | some x=>some (x,vs,[])
  | none=>(tcast (.pt a) x).map λx=>(A.k1 (x:=.pt a) (y:=.op a) "" some x,vs,[])
 | .op a,.sc v::vs=>if khF v then some (A.k0 (x:=.op a) "none" none,vs,[]) else none
 | .op a,.fq t x o::vs=>if o≠0 then none else (tcast a x).map λx=>(A.k1 (x:=a) (y:=.op a) "" some x,vs,[])
 | .op a,.ptr id j::vs=>if j≠0 then none else match thp c s id with
  | some (.bx T us)=>match snapL s a us with
   | some (x,[],ids)=>some (A.k1 (x:=a) (y:=.op a) "" some x,vs,id::ids)
   | _=>none
  | some (.el T t x)=>(tcast a x).map λx=>(A.k1 (x:=a) (y:=.op a) "" some x,vs,[id])
  | _=>none
 | .pt a,.c t x::vs=>(tcast (.pt a) x).map λx=>(x,vs,[])
 | .pt a,.fq t x o::vs=>if o≠0 then none else (tcast a x).map λx=>(A.k1 (x:=a) (y:=.pt a) "" (λv=>v) x,vs,[])
 | .pt a,.ptr id j::vs=>if j≠0 then none else match thp c s id with
  | some (.bx T us)=>match snapL s a us with
   | some (x,[],ids)=>some (A.k1 (x:=a) (y:=.pt a) "" (λv=>v) x,vs,id::ids)
   | _=>none
  | some (.el T t x)=>(tcast a x).map λx=>(A.k1 (x:=a) (y:=.pt a) "" (λv=>v) x,vs,[id])
  | _=>none
 | _,_=>none
def snapV (s:TS A) (t:Ty) (v:TV A):Yb (A.D t×Ya Nat):=
 if t.dat=false then none else
 if t.agg then match v with
  | .c t' x=>(tcast t x).map λx=>(x,[])
  | .ag vs=>match snapL c s t vs with
   | some (x,[],ids)=>some (x,ids)
   | _=>none
  | _=>none
 else match snapL c s t [v] with
  | some (x,[],ids)=>some (x,ids)
  | _=>none
def retire (s:TS A) (ids:Ya Nat):Yb (TS A):=
 if ids.all λid=>match alk s.hp id with | some (some _)=>true | _=>false then some { s with hp:=ids.map (λid=>(id,none))++s.hp,dy:=s.dy||!ids.isEmpty } else none
def comp:(t:Ty)->A.D t->Nat->Nat->Bool->Yb ((t:Ty)×A.D t)
 | .pr a b,x,o,m,ag=>if o=0/\m=a.wd+b.wd/\ag=true then some ⟨.pr a b,x⟩ else
   if o+m<=a.wd then comp a (A.k1 (x:=.pr a b) (y:=a) "" Prod.fst x) o m ag else if a.wd<=o then comp b (A.k1 (x:=.pr a b) (y:=b) "" Prod.snd x) (o-a.wd) m ag else none
 | .w a,x,o,m,ag=>if o=0/\m=a.wd/\ag=true then some ⟨.w a,x⟩ else comp a (A.k1 (x:=.w a) (y:=a) "" (λv=>v) x) o m ag
 | t,x,o,m,ag=>if o=0/\m=t.wd/\ag=t.agg then some ⟨t,x⟩ else none
def setC (val:(t:Ty)->Yb (A.D t)):(t:Ty)->A.D t->Nat->Nat->Bool->Yb (A.D t)
 | .pr a b,x,o,m,ag=>if o=0/\m=a.wd+b.wd/\ag=true then val (.pr a b) else
   if o+m<=a.wd then (setC val a (A.k1 (x:=.pr a b) (y:=a) "" Prod.fst x) o m ag).map λy=>A.k2 (x:=a) (y:=b) (z:=.pr a b) "" Prod.mk y (A.k1 (x:=.pr a b) (y:=b) "" Prod.snd x)
   else if a.wd<=o then (setC val b (A.k1 (x:=.pr a b) (y:=b) "" Prod.snd x) (o-a.wd) m ag).map λy=>A.k2 (x:=a) (y:=b) (z:=.pr a b) "" Prod.mk (A.k1 (x:=.pr a b) (y:=a) "" Prod.fst x) y else none
 | .w a,x,o,m,ag=>if o=0/\m=a.wd/\ag=true then val (.w a) else (setC val a (A.k1 (x:=.w a) (y:=a) "" (λv=>v) x) o m ag).map λy=>A.k1 (x:=a) (y:=.w a) "" (λv=>v) y
 | t,x,o,m,ag=>if o=0/\m=t.wd/\ag=t.agg then val t else none
structure CtrM where
 nm:String
 ks:List (Option Ty)
 inp:Pat
 n0:Nat
 out:Pat
 n1:Nat
 nr:Nat
 F:(tup (ks.filterMap id++inp.tys)).den->Option out.ty.den
 alt:Bool
structure CtrI where
 nm:String
 asZ:List Ty
 ts:List Ty
 F:(tup asZ).den->Option (List (tup ts).den)
structure Ctr where
 nm:String
 asZ:List Ty
 rs:List Ty
 F:(tup asZ).den->Option (tup rs).den
 mus:List CtrM:=[]
 its:List CtrI:=[]
def Ctr.own (C:Ctr):Bool:=match C.asZ with | [.nt]=>true | _=>false
def Ctr.now (C:Ctr):Yb (Nat×Nat):=match C.asZ,C.its with | [.nt,.ar k (.ar e .nt)],[]=>some (k,e) | _,_=>none
def mkClo (A:Alg) (C:Ctr) (n:Nat) (x y:Ty) (i:Ya ((t:Ty)×A.D t)):Yb (A.D (.fn n x y)):=
 if hx:x=tup (C.asZ.take n) then if hy:C.rs=[y] then if (C.asZ.take n).all Ty.dat then
  some (A.lam λv=>match mkT A C.asZ (unT A (C.asZ.take n) (hx ▸ v)++i) with
   | some a=>A.p1 (x:=tup C.asZ) (y:=y) C.nm (λv=>((hy ▸ C.F v:Yb (tup [y]).den):Yb y.den)) a λr=>A.ret r
   | none=>A.fail "mkClo")
 else none else none else none
def snapM (s:TS A):Ya Ty->Ya (TV A)->Yb (Ya ((t:Ty)×A.D t)×Ya Nat)
 | [],[]=>some ([],[])
 | t::ts,v::vs=>(snapV c s t v).bind λx=>(snapM s ts vs).map λy=>(⟨t,x.1⟩::y.1,x.2++y.2)
 | _,_=>none
def snapA (Δ:Ya (FuncId×Ctr)) (s:TS A) (t:Ty) (v:TV A):Yb (A.D t×Ya Nat):=
 match t with
 | .fn n x y=>match v with
  | .cv n' u m F=>(tcast (.fn n x y) F).map λx=>(x,[])
  | .fn g i=>(alk Δ g).bind λC=>if C.asZ.length=n+i.length then (snapM c s (C.asZ.drop n) i).bind λl=>(mkClo A C n x y l.1).map λz=>(z,l.2) else none
  | _=>none
 | t=>snapV c s t v
def kcg (Δ:Ya (FuncId×Ctr)) (s:TS A):Ya Ty->Ya (TV A)->Yb (Ya ((t:Ty)×A.D t)×Ya Nat)
 | [],[]=>some ([],[])
 | t::ts,v::vs=>(snapA c Δ s t v).bind λx=>(kcg Δ s ts vs).map λy=>(⟨t,x.1⟩::y.1,x.2++y.2)
 | _,_=>none
def kmA (s:TS A) (ts:Ya Ty) (vs:Ya (TV A)):Bool:=
 ts.all (λt=>match t with | .pt .s | .pt .b | .pt (.i _)=>true | _=>false)&&vs.all (λv=>match v with | .ptr id 0=>(thp c s id).isSome | _=>false) &&
  decide (vs.map λv=>match v with | .ptr id _=>id | _=>0).Nodup
def getI:TV A->Yb ((k:IntKind)×A.D (.i k))
 | .c (.i k) x=>some ⟨k,x⟩
 | _=>none
def kcU:TV A->Yb (A.D (.i .i64))
 | .c (.i .i64) x=>some x
 | _=>none
def getB:TV A->Yb (A.D .b)
 | .c .b x=>some x
 | .kb b=>some (toB A b)
 | _=>none
def eqD:(t:Ty)->A.D t->A.D t->Yb (A.D .b)
 | .i k,x,y=>some (A.k2 (x:=.i k) (y:=.i k) (z:=.b) "" (λ(a b:Int)=>a==b) x y)
 | .b,x,y=>some (A.k2 (x:=.b) (y:=.b) (z:=.b) "" (λ(a b:Bool)=>a==b) x y)
 | .s,x,y=>some (A.k2 (x:=.s) (y:=.s) (z:=.b) "" (λ(a b:Ya UInt8)=>a==b) x y)
 | .w a,x,y=>eqD a (A.k1 (x:=.w a) (y:=a) "" (λv=>v) x) (A.k1 (x:=.w a) (y:=a) "" (λv=>v) y)
 | .pr a b,x,y=>(eqD a (A.k1 (x:=.pr a b) (y:=a) "" Prod.fst x) (A.k1 (x:=.pr a b) (y:=a) "" Prod.fst y)).bind λp=>
   (eqD b (A.k1 (x:=.pr a b) (y:=b) "" Prod.snd x) (A.k1 (x:=.pr a b) (y:=b) "" Prod.snd y)).map λq=>A.k2 (x:=.b) (y:=.b) (z:=.b) "" (λa b=>a&&b) p q
 | _,_,_=>none
def TB.isF:TB A->Bool
 | .fm _ _ _ _ _ _ _=>true
 | _=>false
def kbe:TB A->Bool
 | .mp _ _ _=>false
 | .si _=>false
 | .km _=>false
 | _=>true
variable {ρ:Ty}
def tvR (rs:Ya Ty) (y:A.D (tup rs)):TV A:=
 match rs with
 | [t]=>.c t y
 | rs=>.tp ((unT A rs y).map λx=>.c x.1 x.2)
def newSl (s:TS A) (T:Yc) (t:Ty) (l:A.D (.sl t)) (K:TV A->TS A->A.Ans ρ):A.Ans ρ:=
 K (.mw s.n) { s with hp:=(s.n,some (.sl T t l))::s.hp,n:=s.n+1 }
def nilV (s:TS A) (T:Yc) (K:TV A->TS A->A.Ans ρ):A.Ans ρ:=
 match elemO P T with
 | some e=>match tyOf P e with
  | some t=>newSl s e t (A.k0 (x:=.sl t) "" []) K
  | none=>K (.sc (.slice none 0 0)) s
 | none=>K (.sc (.slice none 0 0)) s
def moveX (s:TS A) (T:Yc) (v:TV A) (K:TV A->TS A->A.Ans ρ):A.Ans ρ:=
 match v with
 | .sc u=>if kbz u then nilV P s T K else K (.sc u) s
 | v=>K v s
def zeroC (s:TS A):Ya AV->Ya Yc->Ya (TV A)×TS A
 | .sc v::vs,T::Ts=>if kbz v then match elemO P T with
   | some e=>match tyOf P e with
    | some t=>let r:=zeroC { s with hp:=(s.n,some (.sl e t (A.k0 (x:=.sl t) "" [])))::s.hp,n:=s.n+1 } vs Ts; (.mw s.n::r.1,r.2)
    | none=>let r:=zeroC s vs Ts; (ofVal A v::r.1,r.2)
   | none=>let r:=zeroC s vs Ts; (ofVal A v::r.1,r.2)
  else let r:=zeroC s vs Ts; (ofVal A v::r.1,r.2)
 | _,_=>([],s)
def repO {α:Type} (f:α->Yb α):Nat->α->Yb α
 | 0,x=>some x
 | n+1,x=>(f x).bind (repO f n)
def isZ:Ty->Ya AV->Yb (Ya AV)
 | .i k,.sc (.int k' m)::r=>if k=k'/\m=0 then some r else none
 | .b,.sc (.bool b)::r=>if b then none else some r
 | .s,.sc (.string s)::r=>if s.data.toList.isEmpty then some r else none
 | .sl _,.sc v::r=>if kbz v then some r else none
 | .op _,.sc v::r=>if khF v then some r else none
 | .un,r=>some r
 | .w t,r=>isZ t r
 | .pr t u,r=>(isZ t r).bind (isZ u)
 | .ar n t,r=>if t.dat then repO (isZ t) n r else none
 | _,_=>none
def zeroD:(t:Ty)->Yb (A.D t)
 | .i k=>some (toI A 0 k)
 | .b=>some (toB A false)
 | .s=>some (toS A [])
 | .un=>some (A.k0 (x:=.un) "" ())
 | .sl a=>some (A.k0 (x:=.sl a) "" [])
 | .op a=>some (A.k0 (x:=.op a) "none" none)
 | .w a=>(zeroD a).map λx=>A.k1 (x:=a) (y:=.w a) "" (λv=>v) x
 | .pr a b=>(zeroD a).bind λx=>(zeroD b).map λy=>A.k2 (x:=a) (y:=b) (z:=.pr a b) "" Prod.mk x y
 | .ar n a=>(zeroD a).map λx=>A.k1 (x:=a) (y:=.ar n a) "" (λv=>amk n v) x
 | _=>none
def newBx (s:TS A) (B:TB A) (K:TV A->TS A->A.Ans ρ):A.Ans ρ:=
 K (.ptr s.n 0) { s with hp:=(s.n,some B)::s.hp,n:=s.n+1 }
def kqw (s:TS A) (T:Yc) (K:TV A->TS A->A.Ans ρ):A.Ans ρ:=
 match zeroO P T,kea P 9 T with
 | some z,some Ts=>if z.length=Ts.length then
   match tyOf P T with
   | some t=>if t.noAr then let r:=zeroC P s z Ts; newBx r.2 (.bx T r.1) K else match zeroD t with
    | some x=>if (isZ t z).any List.isEmpty then newBx s (.el T t x) K else A.fail "alloc zero"
    | none=>A.fail "alloc"
   | none=>let r:=zeroC P s z Ts; newBx r.2 (.bx T r.1) K
  else A.fail "alloc cells"
 | _,_=>A.fail "alloc type"
def boxX (s:TS A) (T:Yc) (v:TV A) (K:TV A->TS A->A.Ans ρ):A.Ans ρ:=
 match v with
 | .c t x=>if t.noAr&&t.dat then newBx s (.bx T (kgp t x)) K else newBx s (.el T t x) K
 | v=>match kas v with
  | some vs=>newBx s (.bx T vs) K
  | none=>A.fail "box"
def partX (t:Ty) (x:A.D t) (o m:Nat) (ag:Bool) (K:TV A->A.Ans ρ):A.Ans ρ:=
 match comp t x o m ag with
 | some y=>K (.c y.1 y.2)
 | none=>A.fail "part"
def loadX (s:TS A) (T:Yc) (v:TV A) (K:TV A->TS A->A.Ans ρ):A.Ans ρ:=
 match aggO P T with
 | none=>A.fail "load type"
 | some ag=>
  let m:=P.cellsOf T
  match v with
  | .ptr id j=>match thp c s id with
   | some (.bx _ vs)=>if ag then (if j+m<=vs.length then K (.ag ((vs.drop j).take m)) s else A.fail "load") else match vs[j]? with
    | some v=>K v s
    | none=>A.fail "load"
   | some (.el _ t x)=>partX t x j m ag λv=>K v s
   | _=>A.fail "load block"
  | .adr id i j=>match thp c s id with
   | some (.sl _ t l)=>A.p2 (x:=.sl t) (y:=.i .i64) (z:=t) "" (λl i=>gi l i) l i λy=>partX t y j m ag λv=>K v s
   | _=>A.fail "load block"
  | .aa id i=>match thp c s id with
   | some (.el _ (.ar n t) x)=>if t.wd≠1 then A.fail "load array" else A.p2 (x:=.ar n t) (y:=.i .i64) (z:=t) "" (λl i=>garr l i) x i λy=>partX t y 0 m ag λv=>K v s
   | _=>A.fail "load block"
  | .ax id i k=>match thp c s id with
   | some (.sl _ (.ar n t) l)=>if t.wd≠1 then A.fail "load array" else A.p2 (x:=.sl (.ar n t)) (y:=.i .i64) (z:=.ar n t) "" (λl i=>gi l i) l i λx=>A.p2 (x:=.ar n t) (y:=.i .i64) (z:=t) "" (λl i=>garr l i) x k λy=>partX t y 0 m ag λv=>K v s
   | _=>A.fail "load block"
  | .fq t x o=>partX t x o m ag λv=>K v s
  | .c (.pt t) x=>partX t (A.k1 (x:=.pt t) (y:=t) "" (λv=>v) x) 0 m ag λv=>K v s
  | _=>A.fail "load address"
def ownB (s:TS A) (id:Nat):Yb (TB A):=
 match alk s.hp id with
 | some b=>b
 | none=>none
def setB (s:TS A) (id:Nat) (B:TB A) (K:TV A->TS A->A.Ans ρ):A.Ans ρ:=
 K .ud { s with hp:=(id,some B)::s.hp }
def kpU (s:TS A) (T:Yc) (p v:TV A) (K:TV A->TS A->A.Ans ρ):A.Ans ρ:=
 let m:=P.cellsOf T
 match aggO P T with
 | none=>A.fail "store type"
 | some ag=>
 if m=0 then A.fail "store nothing" else
 match p with
 | .ptr id j=>match ownB s id with
  | some (.bx T' vs)=>match kas v with
   | some xs=>if xs.length=m/\j+m<=vs.length then setB s id (.bx T' (vs.take j++xs++vs.drop (j+m))) K else A.fail "store cells"
   | none=>A.fail "store value"
  | some (.el T' t x)=>match setC (λt=>(snapV c s t v).bind λy=>if y.2.isEmpty then some y.1 else none) t x j m ag with
   | some y=>setB s id (.el T' t y) K
   | none=>A.fail "store el"
  | _=>A.fail ""
 | .adr id i j=>match ownB s id with
  | some (.sl T' t l)=>
   if j=0/\m=t.wd/\ag=t.agg then
    match snapV c s t v with
    | some (y,ids)=>match retire s ids with
     | some s'=>if ids.contains id then A.fail "store own" else setB s' id (.sl T' t (A.k3 (x:=.sl t) (y:=.i .i64) (z:=t) (u:=.sl t) "" (λl i y=>lset l i y) l i y)) K
     | none=>A.fail "store retire"
    | none=>A.fail "store elem"
   else A.p2 (x:=.sl t) (y:=.i .i64) (z:=t) "" (λl i=>gi l i) l i λy=>
    match setC (λt=>(snapV c s t v).bind λy=>if y.2.isEmpty then some y.1 else none) t y j m ag with
    | some y=>setB s id (.sl T' t (A.k3 (x:=.sl t) (y:=.i .i64) (z:=t) (u:=.sl t) "" (λl i y=>lset l i y) l i y)) K
    | none=>A.fail "store part"
  | _=>A.fail ""
 | .aa id i=>match ownB s id with
  | some (.el T' (.ar n t) x)=>if t.wd≠1\/m≠1 then A.fail "store array" else match snapV c s t v with
   | some (y,[])=>setB s id (.el T' (.ar n t) (A.k3 (x:=.ar n t) (y:=.i .i64) (z:=t) (u:=.ar n t) "" (λl i y=>aset l i y) x i y)) K
   | _=>A.fail "store array"
  | _=>A.fail ""
 | .ax id i k=>match ownB s id with
  | some (.sl T' (.ar n t) l)=>if t.wd≠1\/m≠1 then A.fail "store array" else match snapV c s t v with
   | some (y,[])=>A.p2 (x:=.sl (.ar n t)) (y:=.i .i64) (z:=.ar n t) "" (λl i=>gi l i) l i λx=>A.p2 (x:=.ar n t) (y:=.i .i64) (z:=t) "" (λl i=>garr l i) x k λ_=>
     setB s id (.sl T' (.ar n t) (A.k3 (x:=.sl (.ar n t)) (y:=.i .i64) (z:=.ar n t) (u:=.sl (.ar n t)) "" (λl i y=>lset l i y) l i (A.k3 (x:=.ar n t) (y:=.i .i64) (z:=t) (u:=.ar n t) "" (λl i y=>aset l i y) x k y))) K
   | _=>A.fail "store array"
  | _=>A.fail ""
 | _=>A.fail "store address"
def nilX (s:TS A) (v:TV A) (K:TV A->TS A->A.Ans ρ):A.Ans ρ:=
 match v with
 | .ptr id j=>if (thp c s id).any kbe then K v s else A.fail "nilCheck block"
 | .fq _ _ _ | .c (.pt _) _ | .fn _ _ | .cv _ _ _ _=>K v s
 | .adr id i j=>if (thp c s id).any kbe then K v s else A.fail "nilCheck block"
 | .fo id i j=>if (thp c s id).any kbe then K v s else A.fail "nilCheck family"
 | .c (.op t) x=>A.p1 (x:=.op t) (y:=t) "" (λv=>v) x λy=>K (.fq t y 0) s
 | .sc _=>A.stop
 | _=>A.fail "nilCheck"
def binX (s:TS A) (op:BinOp) (T:Yc) (x y:TV A) (K:TV A->TS A->A.Ans ρ):A.Ans ρ:=
 match x,y with
 | .c (.i k) a,.c (.i k') b=>
  match ipop op k with
  | some (nm,f)=>if op = .shl\/op = .shr\/k=k' then A.p2 (x:=.i k) (y:=.i k') (z:=.i k) nm f a b λz=>K (.c (.i k) z) s else A.fail "bin kinds"
  | none=>if k=k' then match iop op k with
    | some (nm,f)=>K (.c (.i k) (A.k2 (x:=.i k) (y:=.i k') (z:=.i k) nm f a b)) s
    | none=>match icmp op with
     | some (nm,f)=>K (.c .b (A.k2 (x:=.i k) (y:=.i k') (z:=.b) nm f a b)) s
     | none=>A.fail "bin op"
   else A.fail "bin kinds"
 | .c .s a,.c .s b=>match scmp op with
  | some (nm,f)=>K (.c .b (A.k2 (x:=.s) (y:=.s) (z:=.b) nm f a b)) s
  | none=>match op with
   | .add=>A.p2 (x:=.s) (y:=.s) (z:=.s) "" gcat a b λz=>K (.c .s z) s
   | _=>A.fail "bin string"
 | x,y=>match getB x,getB y with
  | some a,some b=>if kkd P T then match op with
    | .eql=>K (.c .b (A.k2 (x:=.b) (y:=.b) (z:=.b) "" (λ(a b:Bool)=>a==b) a b)) s
    | .neq=>K (.c .b (A.k2 (x:=.b) (y:=.b) (z:=.b) "" (λ(a b:Bool)=>!(a==b)) a b)) s
    | _=>A.fail "bin bool"
   else A.fail "bin bool type"
  | _,_=>match tyOf P T with
   | some t=>if t.flat&&t.agg&&eqOkT P 9 T t&&!P.eqGuardType P.depth T&&decide (aggO P T=some true) then match snapV c s t x,snapV c s t y with
     | some (a,[]),some (b,[])=>match eqD t a b,op with
      | some e,.eql=>K (.c .b e) s
      | some e,.neq=>K (.c .b (A.k1 (x:=.b) (y:=.b) "" (λa=>!a) e)) s
      | _,_=>A.fail "bin struct"
     | _,_=>A.fail "bin struct value"
    else A.fail "bin"
   | none=>A.fail "bin type"
def unX (s:TS A) (op:UnOp) (v:TV A) (K:TV A->TS A->A.Ans ρ):A.Ans ρ:=
 match op,v with
 | .not,.kb b=>K (.kb (!b)) s
 | .not,.c .b x=>K (.c .b (A.k1 (x:=.b) (y:=.b) "" (λa=>!a) x)) s
 | .neg,.c (.i k) x=>K (.c (.i k) (A.k1 (x:=.i k) (y:=.i k) (""++wn k++ "") (λa=>wk k (0-a)) x)) s
 | .xor,.c (.i k) x=>K (.c (.i k) (A.k1 (x:=.i k) (y:=.i k) (""++kn k++ " "++(if k.signed then "" else toString k.max)++ "") (λa=>bitsI .xor k (if k.signed then -1 else k.max) a) x)) s
 | _,_=>A.fail "un"
def convX (s:TS A) (S T:Yc) (v:TV A) (K:TV A->TS A->A.Ans ρ):A.Ans ρ:=
 match v,intO P T with
 | .c (.i k) x,some k'=>if (P.underlying S).isSome then K (.c (.i k') (A.k1 (x:=.i k) (y:=.i k') (""++wn k'++ "") (λa=>wk k' a) x)) s else A.fail "conv"
 | .c (.sl (.i .u8)) x,none=>if !s.dy&&ket P T&&kpt P S then K (.c .s (A.k1 (x:=.sl (.i .u8)) (y:=.s) "" kcV x)) s else A.fail "conv"
 | _,_=>A.fail "conv"
end
end Go.Abs
