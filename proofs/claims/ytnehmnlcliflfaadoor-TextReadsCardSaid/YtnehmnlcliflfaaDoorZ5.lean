/- The machinery, part 5. -/
import Derived.Test.YtnehmnlcliflfaaDoorZ2
import Derived.Test.YtnehmnlcliflfaaDoorZ4
set_option linter.constructorNameAsVariable false
set_option linter.unusedVariables false
set_option linter.unusedSimpArgs false
set_option linter.unusedSectionVars false
namespace Go.Abs
open Go Go.RowKit
section
variable {P:Ye} {κ κ':Nat->Yb Nat} {ln ln':Nat->Nat} {z z':AH} {c:Cx sem} {s:TS sem} {env:Env} {h h':AH} {n n' N N':Nat}
theorem kmn (f:Nat->AV):∀ (l:Ya Nat) (x:Nat),lk (l.map λk=>(k,f k)) x=if l.contains x then f x else .un
 | [],x=>rfl
 | k::l,x=>by
  simp only [jat,lk,List.contains_cons];by_cases a:x=k
  ·subst a; simp
  ·rw [if_neg a,kmn f l x];have:(x==k)=false:=by simpa using a
   rw [this,jda]
theorem kiz {α:Type} {l:Ya (Nat×α)} {x:Nat} {v:α} (h:alk l x=some v):x∈l.map (·.1):=jba.2 ⟨_,kau h,rfl⟩
theorem kjB {id q:Nat} {B:TB sem} (hB:thp c s id=some B) (h:Ow κ ln id B q):q∈ows κ ln c s id:=by
 rcases h with h | ⟨h1,h2⟩
 ·exact ows_k h
 ·exact ows_r hB h1 h2
theorem Rel.conv (R:Rel P κ ln z c s env h n) {O:Nat->Prop} {μ:Mu} {w:World} (hr:HR w O μ h n) :
  ∃ (p:Nat->Bool) (h2:AH),(∀ q B,z q=some B->h q=some B/\p q=false)/\(∀ id B,thp c s id=some B->BR P κ ln ahN h2 s.n id B)/\(∀ q,n<=q->h2 q=none)/\HR w O (muP p μ) h2 n:=by
 let ids:=s.hp.map (·.1)++c.g.map (·.1)
 let p:Nat->Bool:=λq=>ids.any λid=>(thp c s id).isSome&&(ows κ ln c s id).contains q
 have p1:∀ {id q:Nat} {B:TB sem},thp c s id=some B->Ow κ ln id B q->p q=true:=λ{id q B} hB i=>by
  refine jbq.2 ⟨id,?_,by simp [hB,kjB hB i]⟩;unfold thp at hB;cases u:alk s.hp id with
  | some b=>exact jay.2 (.inl (kiz u))
  | none=>rw [u] at hB; exact jay.2 (.inr (kiz hB))
 have p2:∀ {q:Nat},p q=true->∃ id B,thp c s id=some B/\Ow κ ln id B q:=λ{q} a=>by
  obtain ⟨id,_,h1⟩:=jbq.1 a;simp only [jad] at h1;obtain ⟨B,hB⟩:=jan.1 h1.1;exact ⟨id,B,hB,kci hB (by simpa using h1.2)⟩
 have hz:∀ q B,z q=some B->h q=some B/\p q=false:=λq B a=>by
  refine ⟨R.zin q B a,?_⟩;cases hp:p q with
  | false=>rfl
  | true=>
   obtain ⟨id,j,hB,i⟩:=p2 hp;rw [R.owZ hB i] at a; cases a
 have A:∀ id,∃ f:Nat->ABlk,∀ B,thp c s id=some B->(∀ h2:AH,(∀ q,Ow κ ln id B q->h2 q=some (f q))->BR P κ ln ahN h2 s.n id B)/\∀ q,Ow κ ln id B q->BlkAt w O (muP p μ) n q (f q):=λid=>by
  cases hB:thp c s id with
  | none=>exact ⟨λ_=>.map [],λB h=>by cases h⟩
  | some B=>
   obtain ⟨f,g1,C⟩:=kuD hr hz (R.blk id B hB) (λq a=>p1 hB a) (λl=>⟨(R.fam id B hB l).1,λr v=>((R.fam id B hB l).2 r v).2.2.1 id B hB⟩);exact ⟨f,λj h=>by cases h; exact ⟨g1,C⟩⟩
 let f:Nat->Nat->ABlk:=λid=>Classical.choose (A id)
 have l:∀ id B,thp c s id=some B->(∀ h2:AH,(∀ q,Ow κ ln id B q->h2 q=some (f id q))->BR P κ ln ahN h2 s.n id B)/\∀ q,Ow κ ln id B q->BlkAt w O (muP p μ) n q (f id q):=λid=>Classical.choose_spec (A id)
 open Classical in
 let h2:AH:=λq=>if a:∃ id B,thp c s id=some B/\Ow κ ln id B q then some (f (Classical.choose a) q) else none
 have t:∀ id B q,thp c s id=some B->Ow κ ln id B q->h2 q=some (f id q):=λid B q hB i=>by
  have a:∃ id B,thp c s id=some B/\Ow κ ln id B q:=⟨id,B,hB,i⟩;have e:h2 q=some (f (Classical.choose a) q):=dif_pos a;obtain ⟨j,hB',x⟩:=Classical.choose_spec a;rw [e,R.owI hB' hB x i]
 have m:∀ q B,h2 q=some B->∃ id j,thp c s id=some j/\Ow κ ln id j q:=λq B hB=>by
  by_cases a:∃ id B,thp c s id=some B/\Ow κ ln id B q
  ·exact a
  ·have:h2 q=none:=dif_neg a;rw [this] at hB; cases hB
 refine ⟨p,h2,hz,λid B hB=>(l id B hB).1 h2 λq a=>t id B q hB a,λq a=>?_,⟨hr.olt,λid b k e=>hr.scope id b k (kaz e).2,λid y b k D e e'=>hr.inj id y b k D (kaz e).2 (kaz e').2,λid b k e=>hr.notO id b k (kaz e).2,λq B hB=>?_⟩⟩
 ·cases u:h2 q with
  | none=>rfl
  | some B=>
   obtain ⟨id,j,hB,i⟩:=m q B u;have:=R.owN hB i;omega
 ·obtain ⟨id,j,hB',i⟩:=m q B hB;rw [t id j q hB' i] at hB; cases hB;exact (l id j hB').2 q i
theorem kkb {O:Nat->Prop} {μ:Mu} {w:World} (hr:HR w O μ h n) (p:Nat->Bool):Evo w μ n w (muP p μ) n:=
 ⟨rfl,rfl,⟨rfl,jah _⟩,jah _,jah _,λ_ _ _=>rfl,λb c T f a _=>⟨c,a,rfl⟩,λi _=>by unfold muP; split <;> simp,λi b k e hn=>absurd (hr.scope i b k (kaz e).2).1 (Nat.not_lt.2 hn)⟩
theorem Rel.famD (R:Rel P κ ln z c s env h n):FamOk κ ln ahN c { s with dy:=false } n:=λid B hB b=>by
 obtain ⟨g1,a⟩:=R.fam id B hB b;refine ⟨g1,λr hr=>?_⟩;obtain ⟨k1,k2,k3,e⟩:=a r hr;exact ⟨k1,rfl,k3,e⟩
theorem Snap.gsud {z:AH} {a a':AV} (h:Snap z a a'):(a = .ud->a' = .ud)/\∀ es,a≠.gs es:=by
 cases h with
 | free _ b=>exact ⟨λh=>h,λes h=>by subst h; cases b⟩
 | _=>exact ⟨(λh=>by cases h),(λes h=>by cases h)⟩
theorem kuL {t:Ty} (a:t.dat=true) (x:t.den):t.av x≠.ud:=by
 cases h:t.agg with
 | true=>rw [kdK h]; intro e; cases e
 | false=>
  intro e;have:=kaH t x a (t.av x) (by rw [kdN h a]; simp);rw [e] at this; cases this
theorem TVR.gok {κ κ':Nat->Yb Nat} {ln ln':Nat->Nat} {z z':AH} {N N':Nat} {v:TV sem} {a a':AV} (h:TVR P κ ln z N v a) (h':TVR P κ' ln' z' N' v a') (j:v≠.un):GOk a a':=by
 cases h' with
 | un=>exact absurd rfl j
 | ud=>cases h; exact .inl rfl
 | gs t l=>cases h; exact .inl rfl
 | c t x _ i hs=>
  obtain ⟨g1,b⟩:=hs.gsud;exact .inr ⟨b,λe=>kuL i x (g1 e)⟩
 | fq t x o _ i hs=>
  obtain ⟨g1,b⟩:=hs.gsud;exact .inr ⟨b,λe=>by cases g1 e⟩
 | cv n x y F _ k=>
  obtain ⟨g,asZ,rfl,_⟩:=k;exact .inr ⟨λes e=>(by cases e),λe=>by cases e⟩
 | _=>exact .inr ⟨λes e=>(by cases e),λe=>by cases e⟩
theorem Rel.wk (R:Rel P κ ln z c s env h n) {D:DX} {O:Nat->Prop} {μ:Mu} {a:Act} {w:World} (hs:SR N D O μ ⟨env,h,n⟩ a w) :
  ∃ J b h2,Rel P κ ln ahN c { s with dy:=false } b h2 n/\SR N D O J ⟨b,h2,n⟩ a w/\Evo w μ n w J n:=by
 obtain ⟨p,h2,hz,E,H,u⟩:=R.conv hs.hr;have F:∀ x,∃ a',TVR P κ ln ahN s.n (tlk c s x) a'/\VR w O (muP p μ) n a' (a.tmps.getD x undef):=λx=>by
  obtain ⟨a',h1,_,G⟩:=krs hs.hr hz (R.env x) _ (hs.env x);exact ⟨a',h1,G⟩
 let f:Nat->AV:=λx=>Classical.choose (F x)
 have I:∀ x,TVR P κ ln ahN s.n (tlk c s x) (f x):=λx=>(Classical.choose_spec (F x)).1;have L:∀ x,VR w O (muP p μ) n (f x) (a.tmps.getD x undef):=λx=>(Classical.choose_spec (F x)).2;let ks:=s.env.map (·.1)++c.e0.map (·.1)
 have A:∀ x,ks.contains x=false->tlk c s x = .un:=λx t=>by
  have t:x∉ks:=by simpa using t
  unfold tlk;cases M:alk s.env x with
  | some v=>exact absurd (jay.2 (.inl (kiz M))) t
  | none=>
   cases y:alk c.e0 x with
   | some v=>exact absurd (jay.2 (.inr (kiz y))) t
   | none=>rfl
 let i:AV:=match tlk c s GS with | .un=>.un | _=>f GS
 have m:GOk (lk env GS) i/\TVR P κ ln ahN s.n (tlk c s GS) i/\VR w O (muP p μ) n i (a.tmps.getD GS undef):=by
  have h1:=R.env GS;have h2:=I GS;have G:=L GS;show GOk _ (match tlk c s GS with | .un=>.un | _=>f GS)/\TVR P κ ln ahN s.n _ (match tlk c s GS with | .un=>.un | _=>f GS)/\VR w O _ n (match tlk c s GS with | .un=>.un | _=>f GS) _;generalize tlk c s GS=v at h1 h2;cases v <;> first | exact ⟨.un,.un _,.un _⟩ | exact ⟨h1.gok h2 (by intro e; cases e),h2,G⟩
 have l:∀ x,lk ((GS,i)::ks.map λk=>(k,f k)) x=if x=GS then i else lk (ks.map λk=>(k,f k)) x:=λx=>rfl;refine ⟨muP p μ,(GS,i)::ks.map λk=>(k,f k),h2,⟨λx=>?_,E,R.lt,R.inj,λq B C=>(by cases C),λ_ _ _ _ _=>rfl,R.bnd,H,R.e0,R.g,λ_=>rfl,λq k T es C=>(by cases C),R.famD⟩,⟨u,hs.size,hs.defers.evo (kkb hs.hr p),λx=>?_,hs.gs,hs.gi.evo (kkb hs.hr p) λ_=>by show GOk _ (lk ((GS,i)::_) GS); rw [l,if_pos rfl]; exact m.1⟩,kkb hs.hr p⟩
 ·rw [l];by_cases j:x=GS
  ·rw [if_pos j,j]; exact m.2.1
  rw [if_neg j,kmn];split
  ·exact I x
  ·rename_i t;rw [show tlk c { s with dy:=false } x = .un from A x (by simpa using t)];exact .un _
 ·show VR w O (muP p μ) n (lk _ x) _;rw [l];by_cases j:x=GS
  ·rw [if_pos j,j]; exact m.2.2
  rw [if_neg j,kmn];split
  ·exact L x
  ·exact .un _
theorem SatL.wk {D:DX} {O:Nat->Prop} {j:Code} {cs:Ya Code} {Q:Exit->St->Prop} (R:Rel P κ ln z c s env h n) (l:∀ b h2,Rel P κ ln ahN c { s with dy:=false } b h2 n->SatL P N D O (j::cs) Q ⟨b,h2,n⟩):SatL P N D O (j::cs) Q ⟨env,h,n⟩:=by
 intro t o ro μ a w e hs;obtain ⟨p,b,h2,m,i,k⟩:=R.wk hs;exact wpIn_mono (l b h2 m t o ro p a w (e.evo k.d) i) λ_ _ _ q=>q.from k.d
structure CxWf (c:Cx sem):Prop where
 e0:∀ x v,(x,v)∈c.e0->alk c.e0 x=some v
 g:∀ x B,(x,B)∈c.g->alk c.g x=some B
theorem Rel.has_lt (R:Rel P κ ln z c s env h n) (W:CxWf c) {id:Nat} (a:c.has id=true):id<s.n:=by
 unfold Cx.has at a;simp only [jbe,jbq] at a;rcases a with (a | ⟨⟨x,v⟩,e,b⟩) | ⟨⟨x,B⟩,e,b⟩
 ·obtain ⟨B,hB⟩:=jan.1 a;exact R.lt id B (R.g_thp hB)
 ·have h1:=W.e0 x v e;have:=R.env x;rw [R.e0_tlk h1] at this;exact this.has_lt id b
 ·have h1:=W.g x B e;exact (R.blk x B (R.g_thp h1)).has_lt id b
theorem khY {α:Type} (f:Nat->α):∀ (l:Ya Nat) (x:Nat),alk (l.map λk=>(k,f k)) x=if l.contains x then some (f x) else none
 | [],x=>rfl
 | k::l,x=>by
  simp only [jat,alk,List.contains_cons];by_cases a:x=k
  ·subst a; simp
  ·rw [if_neg a,khY f l x];have:(x==k)=false:=by simpa using a
   rw [this,jda]
theorem kla {α:Type} (f:Nat->Yb α):∀ (l:Ya Nat) (x:Nat),alk (l.filterMap λk=>(f k).map λb=>(k,b)) x=if l.contains x then f x else none
 | [],x=>rfl
 | k::l,x=>by
  have i:=kla f l x;rw [jcp,List.contains_cons];cases e:f k with
  | none=>
   simp only [Option.map_none];rw [i];by_cases a:x=k
   ·subst a; simp [e]
   ·have:(x==k)=false:=by simpa using a
    rw [this,jda]
  | some b=>
   simp only [jcb,alk];by_cases a:x=k
   ·subst a; simp [e]
   ·have:(x==k)=false:=by simpa using a
    rw [if_neg a,i,this,jda]
theorem kcv {α:Type} (f:Nat->Bool):∀ (l:Ya (Nat×α)) (x:Nat),alk (l.filter λy=>f y.1) x=if f x then alk l x else none
 | [],x=>by simp [alk]
 | (k,v)::l,x=>by
  have e:=kcv f l x;rw [List.filter_cons];by_cases b:f k=true
  ·rw [if_pos b];simp only [alk];by_cases a:x=k
   ·subst a; simp [b]
   ·rw [if_neg a,if_neg a,e]
  ·rw [if_neg b,e];simp only [alk];by_cases a:x=k
   ·subst a; simp [b]
   ·rw [if_neg a]
end
section
variable {P:Ye} {κ κ':Nat->Yb Nat} {ln ln':Nat->Nat} {z z':AH} {c:Cx sem} {s:TS sem} {env:Env} {h h':AH} {n n' N N':Nat}
theorem kcw {l:La} (e:okLa l c s=true):(∀ x∈l.keep,alk c.e0 x=none)/\(∀ id∈l.gids,∃ B,alk s.hp id=some (some B))/\
  (∀ x∈l.head.env,alk c.e0 x.1=none/\x.1∉l.keep)/\(∀ x∈l.head.hp,alk c.g x.1=none/\x.1∉l.gids/\x.1<s.n)/\(∀ x∈l.out.env,alk c.e0 x.1=none/\x.1∉l.keep)/\(∀ x∈l.out.hp,alk c.g x.1=none/\x.1∉l.gids/\x.1<l.n)/\s.n<=l.n:=by
 unfold okLa okP at e;simp only [jad,jap,jed,jbr,jak] at e;obtain ⟨⟨⟨⟨h1,h2⟩,⟨m,i⟩⟩,⟨k,b⟩⟩,p⟩:=e;refine ⟨h1,λid t=>?_,λx a=>⟨(m x a).1,by simpa using (m x a).2⟩,λx a=>⟨(i x a).1.1,by simpa using (i x a).1.2,(i x a).2⟩,λx a=>⟨(k x a).1,by simpa using (k x a).2⟩,λx a=>⟨(b x a).1.1,by simpa using (b x a).1.2,(b x a).2⟩,p⟩;have:=h2 id t;cases j:ownB s id with
 | none=>rw [j] at this; cases this
 | some B=>exact ⟨B,kbC j⟩
theorem krK {id:Nat} {B:TB sem} (h:alk s.hp id=some (some B)):ownB s id=some B:=by unfold ownB; rw [h]
theorem keW (l:La) (x:Nat):alk (inCx l c s).e0 x=if l.keep.contains x then some (tlk c s x) else alk c.e0 x:=by
 simp only [inCx,kbd,khY];split <;> rename_i a <;> split at a <;> simp_all
theorem kjT (l:La) (e:∀ id∈l.gids,∃ B,alk s.hp id=some (some B)) (x:Nat):alk (inCx l c s).g x=if l.gids.contains x then ownB s x else alk c.g x:=by
 simp only [inCx,kbd,kla];split
 ·rename_i v a;split at a
  ·rename_i b; rw [if_pos b,a]
  ·cases a
 ·rename_i a;split at a
  ·rename_i b;obtain ⟨B,hB⟩:=e x (by simpa using b);rw [krK hB] at a; cases a
  ·rename_i b; rw [if_neg b]
theorem kjU (R:Rel P κ ln z c s env h n) (W:CxWf c) {l:La} (j:okLa l c s=true):CxWf (inCx l c s):=by
 obtain ⟨k1,k2,_⟩:=kcw j;refine ⟨λx v a=>?_,λx B a=>?_⟩
 ·rw [keW];simp only [inCx,jay,jba] at a;rcases a with ⟨y,e,b⟩ | a
  ·cases b; rw [if_pos (by simpa using e)]
  ·have:=W.e0 x v a;rw [if_neg]; ·exact this
   intro i;rw [k1 x (by simpa using i)] at this; cases this
 ·rw [kjT l k2];simp only [inCx,jay,jcn,jac] at a;rcases a with ⟨y,e,k,hB',b⟩ | a
  ·cases b; rw [if_pos (by simpa using e)]; exact hB'
  ·have:=W.g x B a;rw [if_neg]; ·exact this
   intro i;obtain ⟨k,hB'⟩:=k2 x (by simpa using i);rw [R.g x _ hB'] at this; cases this
theorem Rel.into (R:Rel P κ ln z c s env h n) {l:La} (y:okLa l c s=true):Rel P κ ln z (inCx l c s) ⟨s.env.filter (λx=>!l.keep.contains x.1),s.hp.filter (λx=>!l.gids.contains x.1),s.n,s.dy⟩ env h n:=by
 obtain ⟨k1,k2,_⟩:=kcw y;have u:∀ x,tlk (inCx l c s) ⟨s.env.filter (λx=>!l.keep.contains x.1),s.hp.filter (λx=>!l.gids.contains x.1),s.n,s.dy⟩ x=tlk c s x:=λx=>by
  unfold tlk;have m:alk (s.env.filter λx=>!l.keep.contains x.1) x=if (!l.keep.contains x) then alk s.env x else none:=kcv (λk=>!l.keep.contains k) s.env x;rw [keW,m];by_cases e:l.keep.contains x=true
  ·simp only [e,Bool.not_true,jal,if_false,if_true,jcc]; rfl
  ·simp only [e,Bool.not_false,if_true,if_false];rw [jcv] at e; simp only [e,Bool.not_false,if_true,jal,if_false]
 have a:∀ id B,thp (inCx l c s) ⟨s.env.filter (λx=>!l.keep.contains x.1),s.hp.filter (λx=>!l.gids.contains x.1),s.n,s.dy⟩ id=some B->thp c s id=some B:=λid B hB=>by
  unfold thp at hB ⊢;have m:alk (s.hp.filter λx=>!l.gids.contains x.1) id=if (!l.gids.contains id) then alk s.hp id else none:=kcv (λk=>!l.gids.contains k) s.hp id;rw [kjT l k2,m] at hB;by_cases e:l.gids.contains id=true
  ·simp only [e,Bool.not_true,jal,if_false,if_true] at hB;rw [kbC hB]
  ·rw [jcv] at e;simp only [e,Bool.not_false,if_true,jal,if_false] at hB;exact hB
 refine ⟨λx=>by rw [u]; exact R.env x,λid B hB=>R.blk id B (a id B hB),λid B hB=>R.lt id B (a id B hB),λi j B w q C D=>R.inj i j B w q (a _ _ C) (a _ _ D),R.zin,λid B q hB=>R.zout id B q (a _ _ hB),λid B q hB=>R.bnd id B q (a _ _ hB),R.hn,λx v t=>?_,λid b p=>?_,R.dy,R.zk,R.fam.map (λid B hB=>.inl ⟨B,a id B hB,λh=>h,rfl,rfl⟩) (λid _ B r _ h1 h2 A=>((R.fam id B h1 h2).2 r A).2.1) (jah _)⟩
 ·have m:alk (s.env.filter λx=>!l.keep.contains x.1) x=if (!l.keep.contains x) then alk s.env x else none:=kcv (λk=>!l.keep.contains k) s.env x;rw [m] at t;rw [keW];split at t
  ·rename_i e;rw [if_neg (by simpa using e)]; exact R.e0 x v t
  ·cases t
 ·have m:alk (s.hp.filter λx=>!l.gids.contains x.1) id=if (!l.gids.contains id) then alk s.hp id else none:=kcv (λk=>!l.gids.contains k) s.hp id;rw [m] at p;rw [kjT l k2];split at p
  ·rename_i e;rw [if_neg (by simpa using e)]; exact R.g id b p
  ·cases p
theorem kgq:∀ (l:Ya (Nat×PV)) (xs:Ya ((t:Ty)×t.den)) (y:Nat),(alk (unE (A:=sem) l xs).1 y).isSome=(alk l y).isSome
 | [],xs,y=>rfl
 | (k,v)::l,xs,y=>by
  simp only [unE,alk];split
  ·rfl
  ·exact kgq l _ y
theorem kpS:∀ (l:Ya (Nat×PB)) (xs:Ya ((t:Ty)×t.den)) (y:Nat),(alk (unH (A:=sem) l xs).1 y).isSome=(alk l y).isSome
 | [],xs,y=>rfl
 | (k,v)::l,xs,y=>by
  simp only [unH,alk];split
  ·rfl
  ·exact kpS l _ y
theorem knh {p:Pat} {N:Nat} {x:p.ty.den} {y:Nat} {v:TV sem} (b:alk (kad (A:=sem) p N x).env y=some v):∃ pv,(y,pv)∈p.env:=by
 have h1:=kgq p.env (unT sem p.tys x) y;have:alk (unE (A:=sem) p.env (unT sem p.tys x)).1 y=some v:=b;rw [this] at h1;obtain ⟨pv,a⟩:=jan.1 h1.symm;exact ⟨pv,kau a⟩
theorem ksC {p:Pat} {N:Nat} {x:p.ty.den} {y:Nat} {b:Yb (TB sem)} (e:alk (kad (A:=sem) p N x).hp y=some b):∃ i,(y,i)∈p.hp:=by
 have h1:=kpS p.hp (unE (A:=sem) p.env (unT sem p.tys x)).2 y;have:alk (unH (A:=sem) p.hp (unE (A:=sem) p.env (unT sem p.tys x)).2).1 y=some b:=e;rw [this] at h1;obtain ⟨pv,a⟩:=jan.1 h1.symm;exact ⟨pv,kau a⟩
theorem ktY {l:La} {k:TS sem} (p:okLa l c s=true) (w:∀ id,(inCx l c s).has id=true->id<s.n) (R:Rel P κ ln z (inCx l c s) k env h n) {x:l.head.ty.den} (hp:pack (inCx l c s) s.n l.head k=some x) :
  ∃ κ2 ln2 z2,Rel P κ2 ln2 z2 (inCx l c s) (kad l.head s.n x) env h n/\∀ id,(inCx l c s).has id=true->κ2 id = κ id/\ln2 id=ln id:=by
 obtain ⟨k1,k2,k3,u,_⟩:=kcw p;refine koI R w hp _ _ (jah _) (λy=>.inl (by unfold tlk; cases alk (kad (A:=sem) l.head s.n x).env y <;> rfl)) (λid B hB=>?_) (λy v t=>?_) (λid b m=>?_) rfl
 ·unfold thp at hB;cases j:alk (kad (A:=sem) l.head s.n x).hp id with
  | some b=>rw [j] at hB; exact .inl (by rw [<-hB])
  | none=>rw [j] at hB; exact .inr hB
 ·obtain ⟨pv,i⟩:=knh t;obtain ⟨g1,e⟩:=k3 _ i;rw [keW,if_neg (by simpa using e)]; exact g1
 ·obtain ⟨C,a⟩:=ksC m;obtain ⟨g1,e,D⟩:=u _ a;rw [kjT l k2,if_neg (by simpa using e)]; exact g1
theorem krn {l:La} {D:TS sem} {κ0:Nat->Yb Nat} {u:Nat->Nat} {z0:AH} {p:Env} {F:AH} {n0:Nat} (J:Rel P κ0 u z0 c s p F n0) (G:okLa l c s=true) (L:∀ id,(inCx l c s).has id=true->id<l.n) (R:Rel P κ ln z (inCx l c s) D env h n) {x:l.out.ty.den} (hp:pack (inCx l c s) l.n l.out D=some x) :
  ∃ κ2 ln2 z2,Rel P κ2 ln2 z2 c (outTS l c s x) env h n/\∀ id,(inCx l c s).has id=true->κ2 id = κ id/\ln2 id=ln id:=by
 obtain ⟨k1,k2,_,_,H,I,M⟩:=kcw G;have i:∀ y,alk (outTS l c s x).env y=match alk (kad (A:=sem) l.out l.n x).env y with | some v=>some v | none=>if l.keep.contains y then some (tlk c s y) else none:=λy=>by
  show alk ((kad (A:=sem) l.out l.n x).env++l.keep.map λx=>(x,tlk c s x)) y=_;rw [kbd,khY];cases alk (kad (A:=sem) l.out l.n x).env y <;> rfl
 have m:∀ y,alk (outTS l c s x).hp y=match alk (kad (A:=sem) l.out l.n x).hp y with | some v=>some v | none=>if l.gids.contains y then (ownB s y).map some else none:=λy=>by
  show alk ((kad (A:=sem) l.out l.n x).hp++l.gids.filterMap λid=>(ownB s id).map λb=>(id,some b)) y=_;have:(l.gids.filterMap λid=>(ownB s id).map λb=>(id,some b))=l.gids.filterMap λid=>(((ownB s id).map some).map λb=>(id,b)):=by
   congr; funext id; cases ownB s id <;> rfl
  rw [this,kbd,kla (λid=>(ownB s id).map some)];cases alk (kad (A:=sem) l.out l.n x).hp y <;> rfl
 refine koI R L hp c _ (jah _) (λy=>?_) (λid B hB=>?_) (λy v e=>?_) (λid b j=>?_) rfl
 ·left;unfold tlk;rw [i];cases e:alk (kad (A:=sem) l.out l.n x).env y with
  | some v=>rfl
  | none=>
   simp only;rw [keW];by_cases a:l.keep.contains y=true
   ·rw [if_pos a,if_pos a]; rfl
   ·rw [if_neg a,if_neg a]
 ·unfold thp at hB;rw [m] at hB;cases e:alk (kad (A:=sem) l.out l.n x).hp id with
  | some b=>rw [e] at hB; exact .inl (by rw [<-hB])
  | none=>
   rw [e] at hB;simp only at hB;right;rw [kjT l k2];by_cases a:l.gids.contains id=true
   ·rw [if_pos a] at hB ⊢;obtain ⟨E,hB'⟩:=k2 id (by simpa using a);rw [krK hB'] at hB ⊢;exact hB
   ·rw [if_neg a] at hB ⊢; exact hB
 ·rw [i] at e;cases k:alk (kad (A:=sem) l.out l.n x).env y with
  | some w=>
   obtain ⟨pv,C⟩:=knh k;exact (H _ C).1
  | none=>
   rw [k] at e;simp only at e;split at e
   ·rename_i a; exact k1 y (by simpa using a)
   ·cases e
 ·rw [m] at j;cases k:alk (kad (A:=sem) l.out l.n x).hp id with
  | some w=>
   obtain ⟨O,t⟩:=ksC k;exact (I _ t).1
  | none=>
   rw [k] at j;simp only at j;split at j
   ·rename_i a;obtain ⟨E,hB'⟩:=k2 id (by simpa using a);exact J.g id _ hB'
   ·cases j
end
def ABlk.shp:ABlk->ABlk->Prop
 | .cells k _ _,.cells k' _ _=>k=k'
 | .map a,.map b=>a=b
 | .si s p,.si s' p'=>s=s'/\p=p'
 | .mi m s p,.mi m' s' p'=>m=m'/\s=s'/\p=p'
 | _,_=>False
def shp (h h1:AH):Prop:=∀ q B,h q=some B->∃ a,h1 q=some a/\B.shp a
section
variable {P:Ye} {env:Env} {h h1:AH} {n n1:Nat} {o:Oper} {K K':K3}
theorem shp.cells (hs:shp h h1) {q k:Nat} {T:Yc} {es:Ya (Ya AV)} (b:h q=some (.cells k T es)):∃ T' es',h1 q=some (.cells k T' es'):=by
 obtain ⟨e,h2,a⟩:=hs q _ b;cases e with
 | cells i T' es'=>cases a; exact ⟨T',es',h2⟩
 | map _=>exact a.elim
 | si _ _=>exact a.elim
 | mi _ _ _=>exact a.elim
theorem shp.isCells (hs:shp h h1) {q:Nat} (a:isCells (h q)=true):isCells (h1 q)=true:=by
 unfold Abs.isCells at a;split at a
 ·rename_i k T es b;obtain ⟨T',es',h2⟩:=hs.cells b;rw [h2]; rfl
 ·cases a
theorem shp.map (hs:shp h h1) {q:Nat} {l:Ya (Yd×AV)} (b:h q=some (.map l)):h1 q=some (.map l):=by
 obtain ⟨e,h2,a⟩:=hs q _ b;cases e with
 | cells i T' es'=>exact a.elim
 | map _=>cases a; exact h2
 | si _ _=>exact a.elim
 | mi _ _ _=>exact a.elim
theorem ABlk.shp_refl (B:ABlk):B.shp B:=by cases B <;> first | rfl | exact ⟨rfl,rfl⟩ | exact ⟨rfl,rfl,rfl⟩
theorem kpN {t:Yc} {cs:Ya AV} {d:Nat} {K:AV->Prop} (a:partK P t cs d K):∃ v,K v/\∀ K':AV->Prop,K' v->partK P t cs d K':=by
 unfold partK at a ⊢;split at a
 ·exact ⟨_,a,λK' h=>h⟩
 ·obtain ⟨c,h1,h2⟩:=a; exact ⟨c,h2,λK' h=>⟨c,h1,h⟩⟩
 ·exact a.elim
theorem kvy {T:Yc} {x i:AV} {K:AV->Prop} (a:idxK P T x i K):∃ v,K v/\∀ K':AV->Prop,K' v->idxK P T x i K':=by
 unfold idxK at a;split at a
 ·split at a
  ·split at a
   ·rename_i j;obtain ⟨e,h1,h2,a⟩:=a;obtain ⟨v,l,k⟩:=kpN a;exact ⟨v,l,λK' h=>by simp only [idxK,j]; exact ⟨e,h1,h2,k K' h⟩⟩
   ·exact a.elim
  ·obtain ⟨e,h1,b,h2,a⟩:=a;exact ⟨_,a,λK' h=>by simp only [idxK]; exact ⟨e,h1,b,h2,h⟩⟩
  ·exact a.elim
 ·exact a.elim
theorem kvI {b:UnOp} {x:AV} {K:AV->Prop} (a:unK b x K):∃ v,K v/\∀ K':AV->Prop,K' v->unK b x K':=by
 unfold unK at a;split at a
 ·exact ⟨_,a,λK' h=>h⟩
 ·exact ⟨_,a,λK' h=>h⟩
 ·exact ⟨_,a,λK' h=>h⟩
 ·exact a.elim
theorem kum {S T:Yc} {x:AV} {K:AV->Prop} (a:convK P S T x K):∃ v,K v/\∀ K':AV->Prop,K' v->convK P S T x K':=by
 unfold convK at a;split at a
 ·split at a
  ·rename_i e;exact ⟨_,a.2,λK' h=>by simp only [convK,e]; exact ⟨a.1,h⟩⟩
  ·rename_i e;obtain ⟨v,b,h1,a⟩:=a;exact ⟨_,a,λK' h=>by simp only [convK,e]; exact ⟨v,b,h1,h⟩⟩
 ·rename_i u i;obtain ⟨v,b,h1,a⟩:=a;refine ⟨_,a,λK' h=>?_⟩;cases u <;> first | exact absurd rfl (i _ _) | exact absurd rfl (i _) | exact ⟨v,b,h1,h⟩
 ·obtain ⟨b,h1,j,h2,a⟩:=a;exact ⟨_,a,λK' h=>⟨b,h1,j,h2,h⟩⟩
 ·exact a.elim
theorem ktX (k:cls o=0) (e:aop P env h n o K):∃ v,K v h n/\∀ h1 n1 (K':K3),K' v h1 n1->aop P env h1 n1 o K':=by
 obtain ⟨dst,u,ty,pos,after,g⟩:=o;cases u <;> simp only [cls] at k <;> try (cases k; done)
 case move x=>exact ⟨_,e,λh1 n1 K' h=>h⟩
 case assign x=>exact ⟨_,e,λh1 n1 K' h=>h⟩
 case pick x a b=>
  simp only [aop] at e ⊢;split at e
  ·exact ⟨_,e,λh1 n1 K' h=>h⟩
  ·exact e.elim
 case unOp=>
  simp only [aop] at e ⊢;obtain ⟨v,h1,h2⟩:=kvI e;exact ⟨v,h1,λ_ _ K' h=>h2 _ h⟩
 case convert=>
  simp only [aop] at e ⊢;obtain ⟨v,h1,h2⟩:=kum e;exact ⟨v,h1,λ_ _ K' h=>h2 _ h⟩
 case makeFunc f first t=>
  cases f <;> simp only [aop] at e ⊢ <;> try (exact e.elim)
  exact ⟨_,e.2,λ_ _ K' h=>⟨e.1,h⟩⟩
 case field T x f=>
  simp only [aop] at e ⊢;split at e
  ·obtain ⟨v,h1,h2⟩:=kpN e;exact ⟨v,h1,λ_ _ K' h=>h2 _ h⟩
  ·exact e.elim
 case index=>
  simp only [aop] at e ⊢;obtain ⟨v,h1,h2⟩:=kvy e;exact ⟨v,h1,λ_ _ K' h=>h2 _ h⟩
 case extract x i=>
  simp only [aop] at e ⊢;split at e
  ·obtain ⟨c,h1,h2⟩:=e; exact ⟨c,h2,λ_ _ K' h=>⟨c,h1,h⟩⟩
  ·exact e.elim
 case build T p=>
  simp only [aop] at e ⊢;split at e
  ·split at e
   ·exact ⟨_,e,λ_ _ K' h=>h⟩
   ·exact e.elim
  ·exact e.elim
 case call l=>
  obtain ⟨callee,args,ts⟩:=l;cases callee with
  | builtin b=>
   simp only [aop] at e ⊢;unfold kai at e;split at e
   ·cases k
   ·cases k
   ·cases k
   ·rename_i x y _ j;split at e
    ·rename_i h1 h2;refine ⟨_,e.2,λ_ _ K' h=>?_⟩;simp only [kai,j,h1,h2]; exact ⟨e.1,h⟩
    ·exact e.elim
   ·rename_i x y _ j;split at e
    ·rename_i h1 h2;refine ⟨_,e.2,λ_ _ K' h=>?_⟩;simp only [kai,j,h1,h2]; exact ⟨e.1,h⟩
    ·exact e.elim
   ·rename_i x y q _ j;split at e
    ·rename_i h1 h2 m;refine ⟨_,e.2,λ_ _ K' h=>?_⟩;simp only [kai,j,h1,h2,m]; exact ⟨e.1,h⟩
    ·exact e.elim
   ·rename_i x y q _ j;split at e
    ·rename_i h1 h2 m;refine ⟨_,e.2,λ_ _ K' h=>?_⟩;simp only [kai,j,h1,h2,m]; exact ⟨e.1,h⟩
    ·exact e.elim
   ·exact e.elim
  | value _=>simp at k
  | invoke _ _=>simp at k
theorem keo {n:Nat} {b e:Yb AV} {K K':Nat->Nat->Prop} (a:kaT n b e K) (hK:∀ l u,K l u->K' l u):kaT n b e K':=by
 unfold kaT at a ⊢;split at a
 ·exact ⟨a.1,a.2.1,a.2.2.1,hK _ _ a.2.2.2⟩
 ·exact a.elim
theorem knE (j:cls o=1) (hs:shp h h1) (hK:∀ v,K v h n->K' v h1 n1) (a:aop P env h n o K):aop P env h1 n1 o K':=by
 obtain ⟨dst,C,ty,pos,after,g⟩:=o;cases C <;> simp only [cls] at j <;> try (cases j; done)
 case nilCheck x=>
  simp only [aop] at a ⊢;refine ⟨?_,hK _ a.2⟩;have:=a.1;unfold liveA at this ⊢;split at this
  ·rfl
  ·rfl
  ·exact hs.isCells this
  ·cases this
 case fieldAddr T x f=>
  simp only [aop] at a ⊢;split at a
  ·split at a
   ·exact hK _ a
   ·exact ⟨hs.isCells a.1,hK _ a.2⟩
   ·exact a.elim
  ·exact a.elim
 case indexAddr T x i=>
  simp only [aop] at a ⊢;unfold kbB at a ⊢;split at a
  ·split at a
   ·split at a
    ·obtain ⟨u,c,w,E,y,A⟩:=a; exact ⟨u,c,w,E,y,hK _ A⟩
    ·exact a.elim
   ·split at a
    ·rename_i m k;obtain ⟨T',es',h2⟩:=hs.cells k;simp only [m,h2];exact ⟨a.1,a.2.1,a.2.2.1,a.2.2.2.1,hK _ a.2.2.2.2⟩
    ·exact a.elim
   ·split at a
    ·rename_i m k;obtain ⟨T',es',h2⟩:=hs.cells k;simp only [m,h2];exact ⟨a.1,a.2.1,a.2.2.1,hK _ a.2.2.2⟩
    ·exact a.elim
   ·split at a
    ·exact ⟨a.1,a.2.1,a.2.2.1,hK _ a.2.2.2⟩
    ·exact a.elim
   ·exact a.elim
  ·exact a.elim
 case slice T x F G mx=>
  cases mx with
  | some _=>simp only [aop] at a
  | none=>
   simp only [aop] at a ⊢;unfold kcp at a ⊢;split at a
   ·exact ⟨a.1,keo a.2 λ_ _ h=>hK _ h⟩
   ·obtain ⟨⟨e,m,p⟩,a⟩:=a;refine ⟨⟨e,m,?_⟩,keo a λ_ _ h=>hK _ h⟩;split at p
    ·rename_i k;obtain ⟨T',es',h2⟩:=hs.cells k;rw [h2]; exact p
    ·exact p.elim
   ·exact ⟨a.1,keo a.2 λ_ _ h=>hK _ h⟩
   ·exact ⟨a.1,keo a.2 λ_ _ h=>hK _ h⟩
   ·exact a.elim
 case call l=>
  obtain ⟨callee,args,ts⟩:=l;cases callee with
  | builtin b=>
   simp only [aop] at a ⊢;unfold kai at a;split at a
   ·rename_i x T D t;simp only [kai,D,t];unfold lenK at a ⊢;split at a
    ·exact ⟨a.1,λh=>hK _ (a.2 h)⟩
    ·exact ⟨a.1,hs.isCells a.2.1,λh=>hK _ (a.2.2 h)⟩
    ·exact ⟨a.1,hK _ a.2⟩
    ·exact ⟨a.1,hK _ a.2⟩
    ·exact ⟨a.1,hK _ a.2⟩
    ·split at a
     ·rename_i k B;simp only [hs.map k,B]; exact hK _ a
     ·exact a.elim
    ·exact a.elim
   ·cases j
   ·cases j
   ·cases j
   ·cases j
   ·cases j
   ·cases j
   ·exact a.elim
  | value _=>simp at j
  | invoke _ _=>simp at j
theorem HR.sub {w:World} {O:Nat->Prop} {μ:Mu} (a:∀ q B,h q=some B->h1 q=some B) (hr:HR w O μ h1 n):HR w O μ h n:=
 ⟨hr.olt,hr.scope,hr.inj,hr.notO,λid B hB=>hr.blk id B (a id B hB)⟩
theorem ktC (i:∀ q B,h q=some B->h1 q=some B) {a:AV} {cs:Ya AV} (b:deref h a=some cs):deref h1 a=some cs:=by
 unfold deref at b ⊢;split at b
 ·exact b
 ·split at b
  ·rename_i e;simp only [i _ _ e]; exact b
  ·cases b
 ·cases b
theorem ksf {b:BinOp} {k e:IntKind} {x y:Int} {K K':AV->Prop} (hK:∀ v,K v->K' v) (a:abinI b k x e y K):abinI b k x e y K':=by
 cases b <;> simp only [abinI] at a ⊢ <;> first | exact ⟨a.1,hK _ a.2⟩ | exact ⟨a.1,a.2.1,hK _ a.2.2⟩
theorem krW {b:BinOp} {x y:ByteArray} {K K':AV->Prop} (hK:∀ v,K v->K' v) (a:abinS b x y K):abinS b x y K':=by
 cases b <;> simp only [abinS] at a ⊢ <;> first | exact ⟨a.1,hK _ a.2⟩ | exact hK _ a
theorem kpP (e:cls o=2) (i:∀ q B,h q=some B->h1 q=some B) (hK:∀ v,K v h n->K' v h1 n1) (a:aop P env h n o K):aop P env h1 n1 o K':=by
 obtain ⟨dst,t,ty,pos,after,g⟩:=o;cases t <;> simp only [cls] at e <;> try (cases e; done)
 case load T x=>
  simp only [aop] at a ⊢;split at a
  ·rename_i cs A;simp only [ktC i A];unfold loadK at a ⊢;split at a
   ·exact ⟨a.1,hK _ a.2⟩
   ·obtain ⟨c,h2,j⟩:=a; exact ⟨c,h2,hK _ j⟩
   ·exact a.elim
  ·exact a.elim
 case binOp t T x y F=>
  simp only [aop] at a ⊢;unfold abin at a ⊢;split at a
  ·exact ksf (λv h=>hK v h) a
  ·exact krW (λv h=>hK v h) a
  ·refine ⟨a.1,?_⟩;have:=a.2;split at this
   ·exact hK _ this
   ·exact hK _ this
   ·exact this.elim
  ·obtain ⟨b,h2,j⟩:=a;exact ⟨b,λw O μ n u v X Y hr C E=>h2 w O μ n u v X Y (hr.sub i) C E,λb' p=>hK _ (j b' p)⟩
 case lookup T m k ok=>
  simp only [aop] at a ⊢;unfold ked at a ⊢;split at a
  ·split at a
   ·rename_i D;simp only [i _ _ D];refine ⟨a.1,a.2.1,?_⟩;have:=a.2.2;split at this
    ·exact hK _ this
    ·exact hK _ this
    ·exact this.elim
   ·exact a.elim
  ·exact a.elim
 case call l=>
  obtain ⟨callee,args,ts⟩:=l;cases callee with
  | builtin b=>cases b <;> simp at e
  | value _=>simp at e
  | invoke _ _=>simp at e
end
def avId:AV->Yb Nat
 | .own id _ _ | .ms id _ _ | .mp id=>some id
 | _=>none
section
variable {P:Ye} {env:Env} {h h' h1:AH} {n n' n1:Nat} {o:Oper} {K K':K3}
theorem kov {T:Yc} {p x v:AV} (l:kbl P h n T p x (λa b c=>a=v/\b=h'/\c=n')):(∀ q,avId p≠some q->h' q=h q)/\shp h h':=by
 unfold kbl at l;split at l
 ·rename_i id i j;split at l
  ·rename_i k T' es xs t u;split at l
   ·rename_i e w;obtain ⟨_,_,_,_,rfl,_⟩:=l;refine ⟨λq m=>?_,λq B m=>?_⟩
    ·unfold updH; rw [if_neg]; rintro rfl; exact m rfl
    ·unfold updH;by_cases e:q=id
     ·subst e;rw [if_pos rfl];rw [t] at m; cases m;exact ⟨_,rfl,rfl⟩
     ·rw [if_neg e]; exact ⟨B,m,B.shp_refl⟩
   ·exact l.elim
  ·exact l.elim
 ·exact l.elim
theorem ktJ {wc:Ya Nat} {j:Nat} {v:AV} (D:isW wc j o=true) (M:kfF o=false) (t:aop P env h n o (λa b c=>a=v/\b=h'/\c=n')) :
  (∀ q,q≠n->(∀ x,tgtOp o=some x->avId (ev env x)≠some q)->h' q=h q)/\(kmU o=true->shp h h'):=by
 obtain ⟨dst,R,ty,pos,after,g⟩:=o;have C:∀ {B:ABlk} (q:Nat),q≠n->updH h n B q=h q:=λq w=>by unfold updH; rw [if_neg w]
 cases R <;> simp only [isW] at D <;> try (cases D; done)
 case alloc T=>
  simp only [aop] at t;split at t
  ·obtain ⟨_,rfl,_⟩:=t;exact ⟨λq w _=>C q w,λu=>by cases u⟩
  ·exact t.elim
 case box T x=>
  simp only [aop] at t;split at t
  ·obtain ⟨_,rfl,_⟩:=t;exact ⟨λq w _=>C q w,λu=>by cases u⟩
  ·exact t.elim
 case range T x=>
  simp only [aop,kjs] at t;split at t
  ·obtain ⟨_,_,rfl,_⟩:=t;exact ⟨λq w _=>C q w,λu=>by cases u⟩
  ·split at t
   ·obtain ⟨_,_,rfl,_⟩:=t;exact ⟨λq w _=>C q w,λu=>by cases u⟩
   ·exact t.elim
  ·exact t.elim
 case next x b=>
  cases b with
  | false=>
   simp only [aop,kmm] at t;split at t
   ·rename_i id A;split at t
    ·split at t
     ·rename_i F hM;obtain ⟨_,H,G⟩:=t;by_cases hs:∃ i y,F[i]?=some y/\i∉‹Ya Nat›
      ·obtain ⟨i,y,h1,h2⟩:=hs;obtain ⟨_,rfl,_⟩:=H i y h1 h2;refine ⟨λq _ w=>?_,λu=>by cases u⟩;have:=w x rfl;rw [A] at this;unfold updH; rw [if_neg]; rintro rfl; exact this rfl
      ·obtain ⟨_,rfl,_⟩:=G λi Q=>Classical.byContradiction λhn=>hs ⟨i,_,jaf Q,hn⟩;exact ⟨λq _ _=>rfl,λu=>by cases u⟩
     ·exact t.elim
    ·exact t.elim
   ·exact t.elim
  | true=>
   simp only [aop,nextK] at t;split at t
   ·rename_i id A;split at t
    ·split at t
     ·obtain ⟨_,rfl,_⟩:=t;refine ⟨λq _ w=>?_,λu=>by cases u⟩;have:=w x rfl;rw [A] at this;unfold updH; rw [if_neg]; rintro rfl; exact this rfl
     ·obtain ⟨_,rfl,_⟩:=t;exact ⟨λq _ _=>rfl,λu=>by cases u⟩
    ·exact t.elim
   ·exact t.elim
 case store T p x=>
  simp only [aop] at t;obtain ⟨h1,h2⟩:=kov t;exact ⟨λq _ A=>h1 q (A p rfl),λ_=>h2⟩
 case makeSlice T x y=>
  simp only [aop] at t;split at t
  ·split at t
   ·obtain ⟨_,_,_,_,_,_,rfl,_⟩:=t;exact ⟨λq w _=>C q w,λu=>by cases u⟩
   ·exact t.elim
  ·exact t.elim
 case makeMap T x=>
  cases x with
  | none=>
   simp only [aop] at t;obtain ⟨_,rfl,_⟩:=t;exact ⟨λq w _=>C q w,λu=>by cases u⟩
  | some _=>simp only [aop] at t
 case mapUpdate T m k x=>
  simp only [aop] at t;unfold kdv at t;split at t
  ·rename_i id _ _ _ E _ _;split at t
   ·obtain ⟨_,_,_,_,rfl,_⟩:=t;refine ⟨λq _ A=>?_,λu=>by cases u⟩;unfold updH; rw [if_neg];rintro rfl;exact A m rfl (by rw [E]; rfl)
   ·exact t.elim
  ·exact t.elim
 case insert T m k x=>
  simp only [aop] at t;unfold kdv at t;split at t
  ·rename_i id _ _ _ E _ _;split at t
   ·obtain ⟨_,_,_,_,rfl,_⟩:=t;refine ⟨λq _ A=>?_,λu=>by cases u⟩;unfold updH; rw [if_neg];rintro rfl;exact A m rfl (by rw [E]; rfl)
   ·exact t.elim
  ·exact t.elim
 case lookup T m k ok=>
  simp only [aop] at t;unfold ked at t;split at t
  ·split at t
   ·obtain ⟨_,_,t⟩:=t;split at t
    ·obtain ⟨_,rfl,_⟩:=t; exact ⟨λq _ _=>rfl,λu=>by cases u⟩
    ·obtain ⟨_,rfl,_⟩:=t; exact ⟨λq _ _=>rfl,λu=>by cases u⟩
    ·exact t.elim
   ·exact t.elim
  ·exact t.elim
 case mapEntry T m k=>
  simp only [aop] at t;unfold khN at t;split at t
  ·rename_i id _ _ _ E _ _;split at t
   ·obtain ⟨_,_,t⟩:=t;split at t
    ·obtain ⟨_,rfl,_⟩:=t;refine ⟨λq _ A=>?_,λu=>by cases u⟩;unfold updH; rw [if_neg];rintro rfl;exact A m rfl (by rw [E]; rfl)
    ·obtain ⟨_,_,rfl,_⟩:=t;refine ⟨λq _ A=>?_,λu=>by cases u⟩;unfold updH; rw [if_neg];rintro rfl;exact A m rfl (by rw [E]; rfl)
    ·exact t.elim
   ·exact t.elim
  ·exact t.elim
 case entryStore T m st x=>
  simp only [aop] at t;unfold kjx at t;split at t
  ·rename_i id _ _ E _;split at t
   ·obtain ⟨_,_,_,_,_,rfl,_⟩:=t;refine ⟨λq _ A=>?_,λu=>by cases u⟩;unfold updH; rw [if_neg];rintro rfl;exact A m rfl (by rw [E]; rfl)
   ·exact t.elim
  ·exact t.elim
 case call l=>
  obtain ⟨callee,args,ts⟩:=l;cases callee with
  | builtin b=>
   simp only [aop] at t;unfold kai at t;split at t
   ·simp at D
   ·rename_i s x T S L O;refine ⟨λq w A=>?_,λu=>by cases u⟩;replace A:=A s (by simp only [tgtOp,L]);unfold kbm at t;obtain ⟨_,t⟩:=t;split at t
    ·exact t.elim
    ·split at t
     ·exact t.elim
     ·obtain ⟨_,_,t⟩:=t;split at t
      ·exact t.elim
      ·rename_i xs _;split at t
       ·by_cases e:xs=[]
        ·obtain ⟨_,rfl,_⟩:=t.2.1 e; rfl
        ·obtain ⟨_,rfl,_⟩:=t.2.2 e; exact C q w
       ·by_cases e:xs=[]
        ·obtain ⟨_,rfl,_⟩:=t.2.1 e; rfl
        ·obtain ⟨_,rfl,_⟩:=t.2.2 e; exact C q w
       ·rename_i id len J;split at t
        ·obtain ⟨_,_,_,_,_,rfl,_⟩:=t;unfold updH delH;rw [if_neg w,if_neg];rintro rfl;exact A (by rw [J]; rfl)
        ·exact t.elim
       ·exact t.elim
   ·rename_i s x T S L O;refine ⟨λq w A=>?_,λu=>by cases u⟩;replace A:=A s (by simp only [tgtOp,L]);unfold copyK at t;split at t
    ·exact t.elim
    ·split at t
     ·exact t.elim
     ·obtain ⟨_,t⟩:=t;split at t
      ·exact t.elim
      ·split at t
       ·obtain ⟨_,rfl,_⟩:=t; rfl
       ·rename_i id off len J;split at t
        ·obtain ⟨_,_,_,rfl,_⟩:=t;unfold updH;rw [if_neg];rintro rfl;exact A (by rw [J]; rfl)
        ·exact t.elim
       ·exact t.elim
   ·simp at D
   ·simp at D
   ·simp at D
   ·simp at D
   ·exact t.elim
  | value _=>cases M
  | invoke _ _=>simp at D
 case buildSlice T len I=>
  simp only [aop] at t;split at t
  ·split at t
   ·obtain ⟨_,_,t⟩:=t;split at t
    ·rcases t with ⟨_,rfl,_⟩ | ⟨_,rfl,_⟩ | ⟨_,_,rfl,_⟩
     ·exact ⟨λq w _=>C q w,λu=>by cases u⟩
     ·exact ⟨λq w _=>rfl,λu=>by cases u⟩
     ·exact ⟨λq w _=>rfl,λu=>by cases u⟩
    ·exact t.elim
   ·exact t.elim
  ·exact t.elim
 all_goals (simp only [aop] at t)
end
section
variable {P:Ye} {κ κ0:Nat->Yb Nat} {ln:Nat->Nat} {z:AH} {c:Cx sem} {s:TS sem} {env:Env} {h h' hs:AH} {n n':Nat}
def rsH (κ:Nat->Yb Nat) (h:AH) (b:Ya Nat):AH:=λq=>if b.any (λid=>κ id==some q) then h q else none
theorem kiy {b:Ya Nat} {q:Nat} {B:ABlk} (a:rsH κ h b q=some B):(∃ id∈b,κ id=some q)/\h q=some B:=by
 unfold rsH at a;split at a
 ·rename_i i;obtain ⟨id,j,e⟩:=jbq.1 i;exact ⟨⟨id,j,by simpa using e⟩,a⟩
 ·cases a
theorem kvL {b:Ya Nat} {id q:Nat} (e:id∈b) (a:κ id=some q):rsH κ h b q=h q:=by
 unfold rsH;rw [if_pos (jbq.2 ⟨id,e,by simp [a]⟩)]
theorem Rel.rst (R:Rel P κ ln z c s env h n) {b:Ya Nat} (w:s.dy=false) (y:c.g.all (λx=>b.contains x.1)=true) (m:b.all (λid=>!(thp c s id).any TB.isF)=true):Rel P κ ln z c (rst s b) env (rsH κ h b) n:=by
 have hz:=R.dy w;have u:∀ id,alk (s.hp.filter λx=>b.contains x.1) id=if b.contains id then alk s.hp id else none:=λid=>kcv (λk=>b.contains k) s.hp id;have t:∀ id B,alk c.g id=some B->id∈b:=λid B hB=>by
  have:=jap.1 y (id,B) (kau hB);simpa using this
 have sub:∀ id B,thp c (Abs.rst s b) id=some B->thp c s id=some B/\id∈b:=λid B hB=>by
  unfold thp at hB ⊢;simp only [Abs.rst,u] at hB;by_cases l:b.contains id=true
  ·rw [if_pos l] at hB;exact ⟨hB,by simpa using l⟩
  ·rw [if_neg l] at hB;simp only at hB;exact absurd (jbw.2 (t id B hB)) l
 refine ⟨λx=>R.env x,λid B hB=>?_,λid B hB=>R.lt id B (sub id B hB).1,λi j B v q D E=>R.inj i j B v q (sub _ _ D).1 (sub _ _ E).1,λq B a=>?_,λid B q hB p=>R.zout id B q (sub _ _ hB).1 p,λid B q hB p=>R.bnd id B q (sub _ _ hB).1 p,λq a=>?_,R.e0,λid B hB=>?_,λ_=>hz,R.zk,R.fam.map (λid B hB=>.inl ⟨B,(sub id B hB).1,λh=>h,rfl,rfl⟩) (λid _ B r _ h1 h2 C=>((R.fam id B h1 h2).2 r C).2.1) (jah _)⟩
 ·obtain ⟨h1,h2⟩:=sub id B hB;have A:B.isF=false:=by
   have:=jap.1 m id h2;rw [h1] at this; simpa using this
  refine (R.blk id B h1).mono (λ_ _=>rfl) (λ_ _=>rfl) (λ_ _ h=>h) (jah _) (R.lt id B h1) (λq v a hB'=>?_);rcases a with a | ⟨e,_⟩
  ·rw [kvL h2 a]; exact hB'
  ·rw [A] at e; cases e
 ·rw [hz] at a; cases a
 ·unfold rsH; split
  ·exact R.hn q a
  ·rfl
 ·simp only [Abs.rst,u] at hB;split at hB
  ·exact R.g id B hB
  ·cases hB
theorem ABlk.shp_trans {A B C:ABlk} (h1:A.shp B) (h2:B.shp C):A.shp C:=by
 cases A <;> cases B <;> cases C <;> simp only [ABlk.shp] at * <;> first | exact h1.trans h2 | exact ⟨h1.1.trans h2.1,h1.2.1.trans h2.2.1,h1.2.2.trans h2.2.2⟩ | exact ⟨h1.1.trans h2.1,h1.2.trans h2.2⟩ | exact False.elim h1 | exact False.elim h2
end
def liveP (h:AH):Nat->Bool:=λi=>(h i).isSome
section
variable {P:Ye} {f:FuncId} {args:Ya AV}
theorem HC.frm2 {h hE:AH} {n:Nat} {R K:K3} (I:Ya Nat) (hi:∀ i B,hE i=some B->I.contains i=true/\h i=some B) (hI:∀ i,I.contains i=true->i<n) (hn:∀ i,n<=i->h i=none)
  (hR:∀ v h' n',R v h' n'->On (liveP h') v/\∀ i B,h' i=some B->OnB (liveP h') B)
  (hc:HC P f args hE n R) (X:∀ v h' n',R v h' n'->n<=n'->(∀ i B,h' i=some B->I.contains i=true\/(n<=i/\i<n'))->K v (λi=>if I.contains i||decide (n<=i) then h' i else h i) n'):HC P f args h n K:=by
 refine ⟨hc.1,λO μ w vs hr W aa=>?_⟩;have hrI:HR w (Av O (muO I μ)) (muI I μ) hE n:=by
  refine ⟨hr.olt.av (λb t=>?_),λid b k e=>hr.scope id b k (kam e).2,λid a b k J e e'=>hr.inj id a b k J (kam e).2 (kam e').2,λid b k e hO=>?_,λid B hB=>?_⟩
  ·rcases t with t | ⟨id,k,t⟩
   ·exact hr.olt b t
   ·exact (hr.scope id b k (kay t).2).2
  ·obtain ⟨A,L⟩:=kam e;rcases Or.symm hO with hO | hO | ⟨a,J,hO⟩
   ·exact hr.notO id b k L (.inr hO)
   ·exact hr.notO id b k L (.inl hO)
   ·obtain ⟨Q,e4⟩:=kay hO;rw [hr.inj _ _ _ _ _ L e4] at A;rw [A] at Q; cases Q
  ·obtain ⟨h1,h2⟩:=hi id B hB;exact (hr.blk id B h2).mapV (by simp only [muI]; rw [if_pos h1]) λhv=>hv.split I
 refine (hc.2 (Av O (muO I μ)) (muI I μ) w vs hrI W (λj c hj=>?_)).mono ?_
 ·obtain ⟨u,h1,h2⟩:=aa j c hj;exact ⟨u,h1,h2.split I⟩
 rintro e w' ⟨u,v,h',n',H,rfl,q1,G,q3,C⟩;have S:=C.le;let p:Nat->Bool:=λi=>I.contains i||decide (n<=i)
 have M:∀ {i},p i=false->I.contains i=false/\i<n:=λ{i} hp=>by simpa [p] using hp
 have D:∀ id,p id=true->(λi=>if p i then H i else μ i) id = H id:=λid h=>by simp only [h,if_true]
 have l:∀ id,p id=false->(λi=>if p i then H i else μ i) id = μ id:=λid h=>by simp only [h,jal,if_false]
 have y:∀ id b k,H id=some (b,k)->p id=true:=λid b k e=>by
  rcases jbc (p id) with hp | hp
  ·exact hp
  ·obtain ⟨A,L⟩:=M hp;rcases C.ids id L with Q | Q
   ·rw [Q] at e; rw [(kam e).1] at A; cases A
   ·rw [Q] at e; cases e
 have F:∀ i B,h' i=some B->p i=true/\i<n':=λi B hB=>by
  have:=G.blk i B hB;cases B with
  | cells k T es=>obtain ⟨b,c,h1,_⟩:=this; exact ⟨y i b k h1,(G.scope i b k h1).1⟩
  | map ac=>obtain ⟨b,es,h1,_⟩:=this; exact ⟨y i b 0 h1,(G.scope i b 0 h1).1⟩
  | si s pos=>obtain ⟨b,h1,_⟩:=this; exact ⟨y i b 0 h1,(G.scope i b 0 h1).1⟩
  | mi m s p=>obtain ⟨b,_,h1,_⟩:=this; exact ⟨y i b 0 h1,(G.scope i b 0 h1).1⟩
 have hliveP:∀ i,liveP h' i=true->p i=true/\i<n':=λi hi=>by
  obtain ⟨B,hB⟩:=jan.1 hi;exact F i B hB
 replace X:=X v h' n' q1 S λi B hB=>by
  obtain ⟨h1,h2⟩:=F i B hB;simp only [p,jbe,jak] at h1;rcases h1 with h1 | h1
  ·exact .inl h1
  ·exact .inr ⟨h1,h2⟩
 obtain ⟨hv,t⟩:=hR v h' n' q1;have E:∀ id b k,μ id=some (b,k)->p id=false->Av O (muO I μ) b:=λid b k e hp=>.inr ⟨id,k,by unfold muO; rw [if_neg (by rw [(M hp).1]; decide)]; exact e⟩;have U:∀ b,Av O (λi=>if p i then H i else μ i) b->Av (Av O (muO I μ)) H b:=λb t=>by
  rcases t with t | ⟨id,k,t⟩
  ·exact .inl (.inl t)
  ·rcases jbc (p id) with hI' | hI'
   ·exact .inr ⟨id,k,(D id hI') ▸ t⟩
   ·exact .inl (E id b k ((l id hI') ▸ t) hI')
 have Y:∀ (b:Nat) c T f,w.heap[b]?=some (.cells c T f)->(∃ id k,(λi=>if p i then H i else μ i) id=some (b,k))->∃ c',w'.heap[b]?=some (.cells c' T f)/\c'.size=c.size:=λb c T f t ⟨id,k,e⟩=>by
  rcases jbc (p id) with hI' | hI'
  ·exact C.row b c T f t ⟨id,k,(D id hI').symm.trans e⟩
  ·have L:μ id=some (b,k):=(l id hI').symm.trans e;refine ⟨c,(C.keep b (jaj.1 t).1 λa J e'=>?_).trans t,rfl⟩;obtain ⟨Q,e4⟩:=kam e';rw [hr.inj _ _ _ _ _ L e4] at hI';rw [(M hI').1] at Q; cases Q
 have hE2:Evo w μ n w' (λi=>if p i then H i else μ i) n':=by
  refine ⟨C.os,C.tape,C.output,C.size,S,λb t hn=>C.keep b t λid k e=>hn id k (kam e).2,Y,λid ab=>?_,λid b k e hn=>?_⟩
  ·rcases jbc (p id) with hI' | hI'
   ·have e0:=D id hI';simp only at e0;rw [e0];have hIc:I.contains id=true:=by
     simp only [p,jbe,jak] at hI';rcases hI' with hI' | hI'
     ·exact hI'
     ·omega
    rcases C.ids id ab with A | A
    ·rw [A]; left; unfold muI; rw [if_pos hIc]
    ·exact .inr A
   ·exact .inl (l id hI')
  ·rcases jbc (p id) with hI' | hI'
   ·rcases C.new id b k ((D id hI') ▸ e) hn with h1 | ⟨Z,k0,h1⟩
    ·exact .inl h1
    ·exact .inr ⟨Z,k0,(kam h1).2⟩
   ·exact absurd (hr.scope id b k ((l id hI') ▸ e)).1 (by omega)
 have hH2:HR w' O (λi=>if p i then H i else μ i) (λi=>if p i then h' i else h i) n':=by
  refine ⟨hr.olt.evo (λid b k e=>hr.notO id b k (kam e).2) C,λid b k e=>?_,λid a b k J e e'=>?_,λid b k e=>?_,λid B hB=>?_⟩
  ·rcases jbc (p id) with hI' | hI'
   ·exact G.scope id b k ((D id hI') ▸ e)
   ·have:=hr.scope id b k ((l id hI') ▸ e);exact ⟨jar this.1 S,jar this.2 C.size⟩
  ·rcases jbc (p id) with hI1 | hI1
   ·have A:H id=some (b,k):=(D id hI1) ▸ e;rcases jbc (p a) with hI2 | hI2
    ·exact G.inj id a b k J A ((D a hI2) ▸ e')
    ·exact absurd (E a b J ((l a hI2) ▸ e') hI2) (λx=>G.notO id b k A (.inl x))
   ·have A:μ id=some (b,k):=(l id hI1) ▸ e;rcases jbc (p a) with hI2 | hI2
    ·exact absurd (E id b k A hI1) (λx=>G.notO a b J ((D a hI2) ▸ e') (.inl x))
    ·exact hr.inj id a b k J A ((l a hI2) ▸ e')
  ·rcases jbc (p id) with hI' | hI'
   ·exact λhO=>G.notO id b k ((D id hI') ▸ e) (Or.imp_left (λx=>Or.inl x) hO)
   ·exact hr.notO id b k ((l id hI') ▸ e)
  ·rcases jbc (p id) with hI' | hI'
   ·simp only [hI',if_true] at hB;exact (G.blk id B hB).on (t id B hB) (D id hI') (λi h=>⟨D i (hliveP i h).1,(hliveP i h).2⟩) U
   ·simp only [hI',jal,if_false] at hB;refine (hr.blk id B hB).evo (l id hI') (λb k e=>C.keep b (hr.scope id b k e).2 λa J e'=>?_) hE2;obtain ⟨A,L⟩:=kam e';rw [hr.inj _ _ _ _ _ e L] at hI';rw [(M hI').1] at A; cases A
 exact ⟨u,_,_,_,_,rfl,X,hH2,q3.on hv (λi h=>⟨D i (hliveP i h).1,(hliveP i h).2⟩) U,hE2⟩
end
section
variable (P:Ye)
def A1:(t:Ty)->t.den->AV->Prop
 | .fn n x y,F,a=>CV P n x y F a
 | t,x,a=>t.dat=true/\a=t.av x
inductive AL:List ((t:Ty)×t.den)->List AV->Prop
 | nil:AL [] []
 | cons {p:(t:Ty)×t.den} {a:AV} {l:List ((t:Ty)×t.den)} {asZ:List AV} (h:A1 P p.1 p.2 a) (hl:AL l asZ):AL (p::l) (a::asZ)
def PArgs:Ya (Yb Ty)->Ya ((t:Ty)×t.den)->Ya AV->Prop
 | some _::ks,p::l,a::asZ=>A1 P p.1 p.2 a/\PArgs ks l asZ
 | none::ks,l,_::asZ=>PArgs ks l asZ
 | [],[],[]=>True
 | _,_,_=>False
end
def tpA:Ya AV->AV
 | [a]=>a
 | l=>.tp l
def resE (vs:Ya AV):Env:=vs.zipIdx.map λx=>(1000000+x.2,x.1)
def offD {A:Alg} (s:TS A):TS A:=⟨s.env,s.hp,s.n,false⟩
def kgl (P:Ye) (C:CtrM) (κ:Nat->Yb Nat) (ln:Nat->Nat) (y:C.out.ty.den) (args:Ya AV):K3:=λv h' n'=>
 ∃ κ' ln' vs,vs.length=C.nr/\v=tpA vs/\Rel P κ' ln' ahN ⟨[],[]⟩ (offD (kad (A:=sem) C.out C.n1 y)) (resE vs++kar args) h' n'/\(∀ q B,h' q=some B->∃ id b,alk (kad (A:=sem) C.out C.n1 y).hp id=some (some b)/\Ow κ' ln' id b q)/\∀ p∈C.inn,κ' p = κ p/\ln' p=ln p
def GoodM (P:Ye) (g:FuncId) (C:CtrM):Prop:=
 ∀ x y,C.F x=some y->∀ l1 l2,unT sem (C.ks.filterMap id++C.inp.tys) x=l1++l2->l1.length=(C.ks.filterMap id).length->∀ κ ln h n args,PArgs P C.ks l1 args->Rel P κ ln ahN ⟨[],[]⟩ (offD (kak (A:=sem) C.inp C.n0 l2)) (kar args) h n->
  HC P g args h n (kgl P C κ ln y args)
section
variable {P:Ye} {κ κ' κ2:Nat->Yb Nat} {ln ln' ln2:Nat->Nat} {z z':AH} {c:Cx sem} {s:TS sem} {env:Env} {h h':AH} {n n' N N':Nat}
theorem Snap.freeN {a a':AV} (hs:Snap ahN a a'):Free a:=by
 induction hs with
 | free a w=>exact w
 | nilS=>exact .sc _
 | own _ _ _ _ _ _ _ _ hB=>cases hB
 | ms _ _ _ _ _ _ _ hB=>cases hB
 | fp cs j hl _ m=>
  refine (kjZ cs).2 λc t=>?_;obtain ⟨q,i⟩:=jbl.1 t;obtain ⟨k,b⟩:=kag (l:=j) (l':=cs) hl.symm i;exact m q c k i b
 | sl es es' hl v _ m=>
  refine (kjX es).2 λe x c t=>?_;obtain ⟨q,i⟩:=jbl.1 x;obtain ⟨e',u⟩:=kag (l:=es') (l':=es) hl.symm i;obtain ⟨p,hp⟩:=jbl.1 t;obtain ⟨k,b⟩:=kag (l:=e') (l':=e) (v q e e' i u).symm hp;exact m q e e' i u p c k hp b
 | fn f cs j hl _ m=>
  refine (kfa f cs).2 λc t=>?_;obtain ⟨q,i⟩:=jbl.1 t;obtain ⟨k,b⟩:=kag (l:=j) (l':=cs) hl.symm i;exact m q c k i b
 | ag cs j hl _ m=>
  refine (kjY cs).2 λc t=>?_;obtain ⟨q,i⟩:=jbl.1 t;obtain ⟨k,b⟩:=kag (l:=j) (l':=cs) hl.symm i;exact m q c k i b
 | tp cs j hl _ m=>
  refine (krh cs).2 λc t=>?_;obtain ⟨q,i⟩:=jbl.1 t;obtain ⟨k,b⟩:=kag (l:=j) (l':=cs) hl.symm i;exact m q c k i b
theorem HC.up {g:FuncId} {asZ i:Ya AV} {K:K3} (x:HC P g i h n K) (hl:i.length=asZ.length) (hs:∀ (j:Nat) (a a':AV),asZ[j]?=some a->i[j]?=some a'->a'=a\/Snap ahN a a'):HC P g asZ h n K:=by
 refine ⟨x.1,λO μ w vs hr p A=>x.2 O μ w vs hr (p.trans hl.symm) λj a' v=>?_⟩;obtain ⟨a,t⟩:=kag hl v;obtain ⟨u,y,m⟩:=A j a t;refine ⟨u,y,?_⟩;rcases hs j a a' t v with rfl | l
 ·exact m
 ·have hz:=HR.zero w (Av O μ) (hr.olt.av (O':=Av O μ) (λb e=>by
   rcases e with e | ⟨id,k,e⟩
   ·exact hr.olt b e
   ·exact (hr.scope id b k e).2))
  exact (l.vr hz (m.free l.freeN λb e=>e)).lift λb e=>e
def TV.hasW (id:Nat):TV sem->Bool
 | .adr i _ _=>i==id
 | .aa i _=>i==id
 | .ax i _ _=>i==id
 | .mw i=>i==id
 | .ms i _ _=>i==id
 | .fw i=>i==id
 | .fr i _=>i==id
 | .fo i _ _=>i==id
 | .fs i _ _=>i==id
 | .fa i _ _ _=>i==id
 | .fn _ vs=>hasL vs
 | .tp vs=>hasL vs
 | .ag vs=>hasL vs
 | _=>false
where hasL:Ya (TV sem)->Bool
 | []=>false
 | v::vs=>v.hasW id||hasL vs
def TB.hasW (id:Nat):TB sem->Bool
 | .bx _ vs=>TV.hasW.hasL id vs
 | _=>false
mutual
theorem TVR.ren {f:Nat->Nat} (hz:∀ q B,z q=some B->z' q=some B):∀ {v:TV sem} {a:AV},TVR P κ ln z N v a->(∀ i,v.has i=true->κ' (f i) = κ i/\f i<N')->(∀ i,v.hasW i=true->ln' (f i)=ln i)->TVR P κ' ln' z' N' (renV f v) a
 | _,_,.un a,_,_=>.un a
 | _,_,.ud,_,_=>.ud
 | _,_,.gs t l,_,_=>.gs t l
 | _,_,.yl id q u h,hf,_=>by
  obtain ⟨p,e⟩:=hf id (by simp [TV.has]);exact .yl _ q e (p.trans h)
 | _,_,.kp id u,hf,_=>.kp _ (hf id (by simp [TV.has])).2
 | _,_,.np0 id u,hf,_=>.np0 _ (hf id (by simp [TV.has])).2
 | _,_,.np id q u h,hf,_=>by
  obtain ⟨p,e⟩:=hf id (by simp [TV.has]);exact .np _ q e (p.trans h)
 | _,_,.c t x a hd h,_,_=>.c t x a hd (h.mono hz)
 | _,_,.kb b,_,_=>.kb b
 | _,_,.sc v h1,_,_=>.sc v h1
 | _,_,.ptr id j q u h,hf,_=>by
  obtain ⟨p,e⟩:=hf id (by simp [TV.has]);exact .ptr _ j q e (p.trans h)
 | _,_,.adr id i j q u h h0 h1,hf,hw=>by
  obtain ⟨p,e⟩:=hf id (by simp [TV.has]);exact .adr _ i j q e (p.trans h) h0 (by rw [hw id (by simp [TV.hasW])]; exact h1)
 | _,_,.ax id i k q u h h0 h1 hk,hf,hw=>by
  obtain ⟨p,e⟩:=hf id (by simp [TV.has]);exact .ax _ i k q e (p.trans h) h0 (by rw [hw id (by simp [TV.hasW])]; exact h1) hk
 | _,_,.aa id i q u h h0 h1,hf,hw=>by
  obtain ⟨p,e⟩:=hf id (by simp [TV.has]);exact .aa _ i q e (p.trans h) h0 (by rw [hw id (by simp [TV.hasW])]; exact h1)
 | _,_,.fq t x o a hd h,_,_=>.fq t x o a hd (h.mono hz)
 | _,_,.mw0 id u h,hf,_=>by
  obtain ⟨p,e⟩:=hf id (by simp [TV.has]);exact .mw0 _ e (p.trans h)
 | _,_,.mw id q u h,hf,hw=>by
  obtain ⟨p,e⟩:=hf id (by simp [TV.has]);rw [<-hw id (by simp [TV.hasW])]; exact .mw _ q e (p.trans h)
 | _,_,.ms0 id off len u h ho hl,hf,_=>by
  obtain ⟨p,e⟩:=hf id (by simp [TV.has]);exact .ms0 _ off len e (p.trans h) ho hl
 | _,_,.ms id off len q u h h0 h1 h2,hf,hw=>by
  obtain ⟨p,e⟩:=hf id (by simp [TV.has]);exact .ms _ off len q e (p.trans h) h0 h1 (by rw [hw id (by simp [TV.hasW])]; exact h2)
 | _,_,.mp id q u h,hf,_=>by
  obtain ⟨p,e⟩:=hf id (by simp [TV.has]);exact .mp _ q e (p.trans h)
 | _,_,.fw0 id u h,hf,_=>by
  obtain ⟨p,e⟩:=hf id (by simp [TV.has]);exact .fw0 _ e (p.trans h)
 | _,_,.fw id q u h,hf,hw=>by
  obtain ⟨p,e⟩:=hf id (by simp [TV.has]);rw [<-hw id (by simp [TV.hasW])]; exact .fw _ q e (p.trans h)
 | _,_,.fr0 id i m u h0 h,hf,hw=>by
  obtain ⟨p,e⟩:=hf id (by simp [TV.has]);exact .fr0 _ i m e h0 (by rw [hw id (by simp [TV.hasW])]; exact h)
 | _,_,.fr id i r m u h0 h,hf,hw=>by
  obtain ⟨p,e⟩:=hf id (by simp [TV.has]);exact .fr _ i r m e h0 (by rw [hw id (by simp [TV.hasW])]; exact h)
 | _,_,.fs0 id off len u h ho hl,hf,_=>by
  obtain ⟨p,e⟩:=hf id (by simp [TV.has]);exact .fs0 _ off len e (p.trans h) ho hl
 | _,_,.fs id off len q u h h0 h1 h2,hf,hw=>by
  obtain ⟨p,e⟩:=hf id (by simp [TV.has]);exact .fs _ off len q e (p.trans h) h0 h1 (by rw [hw id (by simp [TV.hasW])]; exact h2)
 | _,_,.fo id i j q u h h0 h1,hf,hw=>by
  obtain ⟨p,e⟩:=hf id (by simp [TV.has]);exact .fo _ i j q e (p.trans h) h0 (by rw [hw id (by simp [TV.hasW])]; exact h1)
 | _,_,.fa id i k o r m u h0 h hk hm,hf,hw=>by
  obtain ⟨p,e⟩:=hf id (by simp [TV.has]);exact .fa _ i k o r m e h0 (by rw [hw id (by simp [TV.hasW])]; exact h) hk hm
 | _,_,.fn g vs asZ h,hf,hw=>.fn g _ asZ (TVRs.ren hz h (λi u=>hf i (by simpa [TV.has] using u)) λi u=>hw i (by simpa [TV.hasW] using u))
 | _,_,.cv n x y F a h,_,_=>.cv n x y F a h
 | _,_,.tp vs asZ h,hf,hw=>.tp _ asZ (TVRs.ren hz h (λi u=>hf i (by simpa [TV.has] using u)) λi u=>hw i (by simpa [TV.hasW] using u))
 | _,_,.ag vs asZ h h1,hf,hw=>.ag _ asZ (TVRs.ren hz h (λi u=>hf i (by simpa [TV.has] using u)) λi u=>hw i (by simpa [TV.hasW] using u)) h1
theorem TVRs.ren {f:Nat->Nat} (hz:∀ q B,z q=some B->z' q=some B):∀ {v:Ya (TV sem)} {a:Ya AV},TVRs P κ ln z N v a->(∀ i,TV.has.hasL i v=true->κ' (f i) = κ i/\f i<N')->(∀ i,TV.hasW.hasL i v=true->ln' (f i)=ln i)->TVRs P κ' ln' z' N' (renL f v) a
 | _,_,.nil,_,_=>.nil
 | _,_,.cons v a vs asZ h hs,hf,hw=>.cons _ a _ asZ (TVR.ren hz h (λi b=>hf i (by simp [TV.has.hasL,b])) λi b=>hw i (by simp [TV.hasW.hasL,b])) (TVRs.ren hz hs (λi b=>hf i (by simp [TV.has.hasL,b])) λi b=>hw i (by simp [TV.hasW.hasL,b]))
end
theorem kpV (f:Nat->Nat):∀ vs:Ya (TV sem),(renL f vs).length=vs.length
 | []=>rfl
 | v::vs=>by simp [renL,kpV f vs]
theorem BR.ren {f:Nat->Nat} {id:Nat} {B:TB sem} (L:BR P κ ln z h N id B) (hz:∀ q B,z q=some B->z' q=some B) (A:∀ q AB,Ow κ ln id B q->h q=some AB->h' q=some AB) (y:κ' (f id) = κ id) (hl:B.needL=true->ln' (f id)=ln id) (R:∀ i,B.has i=true->κ' (f i) = κ i/\f i<N') (Q:∀ i,B.hasW i=true->ln' (f i)=ln i):BR P κ' ln' z' h' N' (f id) (renB f B):=by
 cases L with
 | bx T vs q asZ b a D h1=>exact .bx T _ q asZ (y.trans b) (by rw [kpV]; exact A q _ (.inl b) a) (TVRs.ren hz D (λi C=>R i (by simpa [TB.has] using C)) λi C=>Q i (by simpa [TB.hasW] using C)) h1
 | el T t x q cs w b a D h1 p=>exact .el T t x q cs w (y.trans b) (A q _ (.inl b) a) (D.mono hz) h1 (λn u e=>by subst e; rw [hl rfl]; exact p n u rfl)
 | sl0 T t l w b p hn=>exact .sl0 T t l w (y.trans b) p (by rw [hl rfl]; exact hn)
 | sl T t l q es w b a D h1 hn=>exact .sl T t l q es w (y.trans b) (A q _ (.inl b) a) (D.mono hz) h1 (by rw [hl rfl]; exact hn)
 | mp k v l q M G b a=>exact .mp k v l q M G (y.trans b) (A q _ (.inl b) a)
 | si x q b E a=>exact .si x q (y.trans b) E (A q _ (.inl b) a)
 | km l q b a=>exact .km l q (y.trans b) (A q _ (.inl b) a)
 | fm0 T t j U u l H w b p hn=>exact .fm0 T t j U u l H w (y.trans b) p (by rw [hl rfl]; exact hn)
 | fm T t j U u l H q es w b a hn I D E h1=>
  refine .fm T t j U u l H q es w (y.trans b) (A q _ (.inl b) a) (by rw [hl rfl]; exact hn) I (λi x e J h2 S F O=>?_) (by rw [hl rfl]; exact E.mono hz) h1;rw [hl rfl] at F;refine (D i x e J h2 S F O).mono hz λr B hr hB=>A r B (.inr ⟨rfl,?_⟩) hB;obtain ⟨r',m⟩:=J;simp only at hr; subst hr;exact kav F
theorem kfH {α β:Type} (f:Nat->Nat) (g:α->β):∀ (l:Ya (Nat×α)) {id:Nat} {b:β},alk (l.map λx=>(f x.1,g x.2)) id=some b->∃ k a,alk l k=some a/\f k=id/\b=g a
 | [],id,b,h=>by cases h
 | (k,a)::l,id,b,h=>by
  simp only [jat,alk] at h;split at h
  ·rename_i e; cases h; exact ⟨k,a,by simp [alk],e.symm,rfl⟩
  ·rename_i e;obtain ⟨j,a',h1,h2,i⟩:=kfH f g l h;refine ⟨j,a',?_,h2,i⟩;simp only [alk]; rw [if_neg]; exact h1;rintro rfl; exact e h2.symm
end
section
variable {P:Ye} {κ κ' κ2:Nat->Yb Nat} {ln ln' ln2:Nat->Nat} {z z':AH} {c:Cx sem} {s:TS sem} {env:Env} {h h':AH} {n n' N N':Nat}
theorem kkO:∀ (l:Ya Nat) {x a:Nat},alk (l.map λi=>(i,i)) x=some a->x=a
 | [],x,a,h=>by simp [alk] at h
 | i::l,x,a,h=>by
  simp only [jat,alk] at h;split at h
  ·rename_i e; cases h; exact e
  ·exact kkO l h
theorem knK (R:Rel P κ ln z c s env h n) {p:Pat} {m:Mt sem} {i0:Ya Nat} (hp:packM c N p s i0=some m) (hs:m.sn=[]) (aa:z=ahN) :
  ∃ κ2 ln2,Rel P κ2 ln2 ahN ⟨[],[]⟩ (offD (kak (A:=sem) p N m.cs)) env h n/\(∀ p q,alk m.ids p=some q->κ2 p = κ q/\ln2 p=ln q/\p<N)/\
   (∀ id b,alk (kak (A:=sem) p N m.cs).hp id=some b->∃ B q u,b=some B/\alk m.ids id=some q/\alk s.hp q=some (some u)/\B.isF=u.isF)/\(∀ x y a,alk m.ids x=some a->alk m.ids y=some a->x=y)/\(∀ id,(alk (kak (A:=sem) p N m.cs).hp id).isSome=(alk p.hp id).isSome):=by
 unfold packM at hp;obtain ⟨m1,ac,hp⟩:=jaa.1 hp;obtain ⟨m',hm,hp⟩:=jaa.1 hp;obtain ⟨L,hp⟩:=jdc.1 hp;cases hp;simp only [jap,jak] at L;have M:=L;obtain ⟨W,a1,a2,a3,a4⟩:=kjG R _ ac;obtain ⟨G,b1,b2,b3,b4⟩:=kjv R _ hm;simp only [jav] at a1;have X:m.cs=W++G:=by rw [b1,a1]
 have C:Inj m:=b3 (a3 (λx y a hx hy=>(kkO i0 hx).trans (kkO i0 hy).symm));let κ2:Nat->Yb Nat:=λid=>match alk m.ids id with | some q=>κ q | none=>none
 let ln2:Nat->Nat:=λid=>match alk m.ids id with | some q=>ln q | none=>0
 have e:∀ {p q:Nat},alk m.ids p=some q->κ2 p = κ q/\ln2 p=ln q:=λ{p q} t=>by simp only [κ2,ln2,t]; exact ⟨trivial,trivial⟩
 have ab:hz (ows κ ln c s) h z m.sn=ahN:=by rw [hs,kaP,aa]
 have fin:Fin (ows κ ln c s) κ ln h z m κ2 ln2 ahN N:=⟨λp q t=>⟨(e t).1,(e t).2,M _ (kau t)⟩,λq B t=>by rw [ab] at t; exact t⟩;obtain ⟨E,e1,e2,e3⟩:=a4 κ2 ln2 _ N (fin.back R.zin b2) G;obtain ⟨H,f1,f2,f3⟩:=b4 κ2 ln2 _ N fin [];rw [jbf] at f1;have U:(kak (A:=sem) p N m.cs).env=E:=by simp only [kak,X,e1]
 have O:(kak (A:=sem) p N m.cs).hp=H:=by simp only [kak,X,e1,f1]
 have F:∀ id B,thp (⟨[],[]⟩:Cx sem) (offD (kak (A:=sem) p N m.cs)) id=some B->alk H id=some (some B):=λid B hB=>by
  unfold thp at hB;rw [show (offD (kak (A:=sem) p N m.cs)).hp=H from O] at hB;cases hh:alk H id with
  | some b=>rw [hh] at hB; exact congrArg some hB
  | none=>rw [hh] at hB; cases hB
 have l:∀ {id:Nat} {B:TB sem},alk H id=some (some B)->∃ q u,alk m.ids id=some q/\alk s.hp q=some (some u)/\BR P κ2 ln2 ahN h N id B/\B.isF=u.isF:=λ{id B} hB=>by
  obtain ⟨J,q,u,g1,w,D,I⟩:=f2 id _ hB;cases g1;exact ⟨q,u,w,D,I⟩
 refine ⟨κ2,ln2,⟨λy=>?_,λid B hB=>?_,λid B hB=>?_,λi j B J q hi S ki kj=>?_,λq B t=>(by cases t),λid B q hB hk=>rfl,λid B q hB hk=>?_,R.hn,λx v hx=>rfl,λid b Y=>rfl,λ_=>rfl,λq k T es t=>(by cases t),λid B hB hf=>?_⟩,λp q t=>⟨(e t).1,(e t).2,M _ (kau t)⟩,λid b Y=>?_,C,λid=>by rw [O]; exact f3 id⟩
 ·unfold tlk;rw [show (offD (kak (A:=sem) p N m.cs)).env=E from U];cases hy:alk E y with
  | some v=>exact e2 y v hy
  | none=>exact .un _
 ·obtain ⟨q,u,w,D,I⟩:=l (F id B hB); exact I.1
 ·obtain ⟨q,u,w,D,I⟩:=l (F id B hB); exact M _ (kau w)
 ·obtain ⟨qi,Bi,w,D,I⟩:=l (F i B hi);obtain ⟨qj,Bj,k2,k3,k4⟩:=l (F j J S);rw [(e w).1] at ki;rw [(e k2).1] at kj;have:=R.inj qi qj _ _ q (kab D) (kab k3) ki kj;subst this;exact C i j qi w k2
 ·obtain ⟨q',u,w,D,I⟩:=l (F id B hB);rw [(e w).1] at hk;exact R.bnd q' u q (kab D) hk
 ·obtain ⟨i0,u,w,D,I,g5⟩:=l (F id B hB);obtain ⟨k1,k2⟩:=R.fam i0 u (kab D) (by rw [<-g5]; exact hf);rw [(e w).2];refine ⟨k1,λr hr=>?_⟩;obtain ⟨l1,l2,l3,l4⟩:=k2 r hr;refine ⟨l1,rfl,λj J S=>?_,λj J S Z Q=>?_⟩
  ·obtain ⟨j0,B1,a2,a3,a4⟩:=l (F j J S);rw [(e a2).1]; exact l3 j0 B1 (kab a3)
  ·obtain ⟨j0,B1,a2,a3,a4,a5⟩:=l (F j J S);rw [(e a2).2] at Q;have:=l4 j0 B1 (kab a3) (by rw [<-a5]; exact Z) Q;subst this;exact C _ _ _ a2 w
 ·rw [O] at Y;obtain ⟨J,q,u,g1,w,D,I,g5⟩:=f2 id b Y;exact ⟨J,q,u,g1,w,D,g5⟩
theorem kiW:∀ (l:Ya (Nat×PV)) (xs:Ya ((t:Ty)×sem.D t)) (x:Nat) (pv:PV) (v:TV sem),alk l x=some pv->(∀ xs:Ya ((t:Ty)×sem.D t),(unV (A:=sem) pv xs).1=v)->alk (unE (A:=sem) l xs).1 x=some v
 | [],xs,x,pv,v,h,_=>by cases h
 | (k,p)::l,xs,x,pv,v,h,hv=>by
  simp only [unE,alk] at h ⊢;split at h
  ·rename_i e;cases h;rw [if_pos e,hv]
  ·rename_i e;rw [if_neg e];exact kiW l _ x pv v h hv
end
def pureA:Ya (Yb Ty)->Ya AV->Ya AV
 | some _::ks,v::vs=>v::pureA ks vs
 | none::ks,_::vs=>pureA ks vs
 | _,_=>[]
def kbF:Ya (Yb Ty)->Ya AV->Ya AV->Ya AV
 | some _::ks,b::bs,_::asZ=>b::kbF ks bs asZ
 | none::ks,bs,a::asZ=>a::kbF ks bs asZ
 | _,_,_=>[]
section
variable {P:Ye} {κ κ' κ2:Nat->Yb Nat} {ln ln' ln2:Nat->Nat} {z z':AH} {c:Cx sem} {s:TS sem} {env:Env} {h h':AH} {n n' N N':Nat}
theorem kmv:∀ (ks:Ya (Yb Ty)) {args:Ya (TV sem)} {asZ:Ya AV},TVRs P κ ln z N args asZ->TVRs P κ ln z N (pureV ks args) (pureA ks asZ)
 | [],_,_,h=>by cases h <;> exact .nil
 | some _::ks,_,_,.nil=>.nil
 | none::ks,_,_,.nil=>.nil
 | some _::ks,_,_,.cons v a vs asZ h hs=>.cons _ _ _ _ h (kmv ks hs)
 | none::ks,_,_,.cons v a vs asZ h hs=>kmv ks hs
theorem kkS:∀ (ks:Ya (Yb Ty)) {l:Ya ((t:Ty)×t.den)} {bs asZ:Ya AV},asZ.length=ks.length->AL P l bs->l.length=(ks.filterMap id).length->SnapL z (pureA ks asZ) bs->
  (kbF ks bs asZ).length=asZ.length/\PArgs P ks l (kbF ks bs asZ)/\∀ (j:Nat) (a a':AV),asZ[j]?=some a->(kbF ks bs asZ)[j]?=some a'->a'=a\/Snap z a a'
 | [],l,bs,asZ,hl,hA,hc,hs=>by
  cases asZ with
  | cons _ _=>simp at hl
  | nil=>
   cases l with
   | cons _ _=>simp at hc
   | nil=>exact ⟨rfl,trivial,λj a a' h=>by simp at h⟩
 | none::ks,l,bs,asZ,hl,hA,hc,hs=>by
  cases asZ with
  | nil=>simp at hl
  | cons a asZ=>
   obtain ⟨h1,h2,m⟩:=kkS ks (by simpa using hl) hA (by simpa using hc) hs;refine ⟨by simp [kbF,h1],h2,λj x k i e=>?_⟩;cases j with
   | zero=>simp [kbF] at i e; subst i; subst e; exact .inl rfl
   | succ j=>exact m j x k (by simpa using i) (by simpa [kbF] using e)
 | some t::ks,l,bs,asZ,hl,hA,hc,hs=>by
  cases asZ with
  | nil=>simp at hl
  | cons a asZ=>
   cases hs with
   | cons k1 k2=>
    rename_i b bs;cases hA with
    | cons g1 u=>
     rename_i p l;obtain ⟨h1,h2,m⟩:=kkS ks (by simpa using hl) u (by simpa using hc) k2;refine ⟨by simp [kbF,h1],⟨g1,h2⟩,λj x k i e=>?_⟩;cases j with
     | zero=>simp [kbF] at i e; subst i; subst e; exact .inr k1
     | succ j=>exact m j x k (by simpa using i) (by simpa [kbF] using e)
theorem klc:∀ (ks:Ya (Yb Ty)) (vs:Ya (TV sem)) (k x:Nat) (v:TV sem),alk (patE ks vs k) x=some v->k<=x
 | [],_,k,x,v,h=>by simp [patE,alk] at h
 | some _::ks,[],k,x,v,h=>by simp [patE,alk] at h
 | none::ks,[],k,x,v,h=>by simp [patE,alk] at h
 | some _::ks,_::vs,k,x,v,h=>by have:=klc ks vs (k+1) x v h; omega
 | none::ks,_::vs,k,x,v,h=>by
  simp only [patE,alk] at h;split at h
  ·omega
  ·have:=klc ks vs (k+1) x v h; omega
theorem knb:∀ (ks:Ya (Yb Ty)) {args:Ya (TV sem)} {asZ bs:Ya AV} (k:Nat),TVRs P κ ln z N args asZ->args.length=ks.length->bs.length=(ks.filterMap id).length->∀ x,TVR P κ ln z N ((alk (patE ks args k) x).getD .un) (lk (((kbF ks bs asZ).zipIdx k).map λ(v,i)=>(i,v)) x)
 | [],args,asZ,bs,k,h,hl,hb,x=>by simp only [patE,alk]; exact .un _
 | some t::ks,_,_,bs,k,.nil,hl,hb,x=>by simp at hl
 | none::ks,_,_,bs,k,.nil,hl,hb,x=>by simp at hl
 | none::ks,_,_,bs,k,.cons v a vs asZ h hs,hl,hb,x=>by
  simp only [patE,kbF,jct,jat,alk,lk];by_cases e:x=k
  ·simp only [if_pos e]; exact h
  ·simp only [if_neg e]; exact knb ks (k+1) hs (by simpa using hl) (by simpa using hb) x
 | some t::ks,_,_,bs,k,.cons v a vs asZ h hs,hl,hb,x=>by
  cases bs with
  | nil=>simp at hb
  | cons b bs=>
   simp only [patE,kbF,jct,jat,lk];by_cases e:x=k
   ·simp only [if_pos e];cases j:alk (patE ks vs (k+1)) x with
    | some v=>have:=klc _ _ _ _ _ j; omega
    | none=>exact .un _
   ·simp only [if_neg e]; exact knb ks (k+1) hs (by simpa using hl) (by simpa using hb) x
mutual
theorem kmP {f w:Nat->Bool}:∀ {v:TV sem},v.all f w=true->∀ i,v.has i=true->f i=true
 | .ptr j _,h,i,hi | .np j,h,i,hi | .mp j,h,i,hi=>by simp only [TV.all,TV.has,beq_iff_eq] at h hi; rw [<-hi]; exact h
 | .adr j _ _,h,i,hi | .aa j _,h,i,hi | .ax j _ _,h,i,hi | .mw j,h,i,hi | .ms j _ _,h,i,hi | .fw j,h,i,hi | .fo j _ _,h,i,hi | .fs j _ _,h,i,hi=>by simp only [TV.all,TV.has,beq_iff_eq,jad] at h hi; rw [<-hi]; exact h.1
 | .fr _ _,h,i,hi | .fa _ _ _ _,h,i,hi=>by simp [TV.all] at h
 | .fn _ vs,h,i,hi | .tp vs,h,i,hi | .ag vs,h,i,hi=>klv (vs:=vs) (by simpa [TV.all] using h) i (by simpa [TV.has] using hi)
 | .un,h,i,hi=>by simp [TV.all] at h
 | .ud,h,i,hi | .c _ _,h,i,hi | .kb _,h,i,hi | .sc _,h,i,hi | .fq _ _ _,h,i,hi | .cv _ _ _ _,h,i,hi=>by simp [TV.has] at hi
theorem klv {f w:Nat->Bool}:∀ {vs:Ya (TV sem)},TV.all.allL f w vs=true->∀ i,TV.has.hasL i vs=true->f i=true
 | [],h,i,a=>by simp [TV.has.hasL] at a
 | v::vs,h,i,a=>by
  simp only [TV.all.allL,jad] at h;simp only [TV.has.hasL,jbe] at a;rcases a with a | a
  ·exact kmP h.1 i a
  ·exact klv h.2 i a
end
mutual
theorem kpd {f w:Nat->Bool}:∀ {v:TV sem},v.all f w=true->∀ i,v.hasW i=true->w i=true
 | .adr j _ _,h,i,hi | .aa j _,h,i,hi | .ax j _ _,h,i,hi | .mw j,h,i,hi | .ms j _ _,h,i,hi | .fw j,h,i,hi | .fo j _ _,h,i,hi | .fs j _ _,h,i,hi=>by simp only [TV.all,TV.hasW,beq_iff_eq,jad] at h hi; rw [<-hi]; exact h.2
 | .fr _ _,h,i,hi | .fa _ _ _ _,h,i,hi=>by simp [TV.all] at h
 | .fn _ vs,h,i,hi | .tp vs,h,i,hi | .ag vs,h,i,hi=>kjF (vs:=vs) (by simpa [TV.all] using h) i (by simpa [TV.hasW] using hi)
 | .un,h,i,hi=>by simp [TV.all] at h
 | .ptr _ _,h,i,hi | .np _,h,i,hi | .mp _,h,i,hi | .ud,h,i,hi | .c _ _,h,i,hi | .kb _,h,i,hi | .sc _,h,i,hi | .fq _ _ _,h,i,hi | .cv _ _ _ _,h,i,hi=>by simp [TV.hasW] at hi
theorem kjF {f w:Nat->Bool}:∀ {vs:Ya (TV sem)},TV.all.allL f w vs=true->∀ i,TV.hasW.hasL i vs=true->w i=true
 | [],h,i,a=>by simp [TV.hasW.hasL] at a
 | v::vs,h,i,a=>by
  simp only [TV.all.allL,jad] at h;simp only [TV.hasW.hasL,jbe] at a;rcases a with a | a
  ·exact kpd h.1 i a
  ·exact kjF h.2 i a
end
mutual
theorem on_tv {p:Nat->Bool} {f w:Nat->Bool} (hp:∀ i q,f i=true->κ i=some q->p q=true):∀ {v:TV sem} {a:AV},TVR P κ ln ahN N v a->v.all f w=true->On p a
 | _,_,.un a,h=>by simp [TV.all] at h
 | _,_,.ud,h=>.free _ .ud
 | _,_,.gs t l,h=>by simp [TV.all] at h
 | _,_,.yl id q hi hq,h=>by simp [TV.all] at h
 | _,_,.kp id hi,h=>by simp [TV.all] at h
 | _,_,.np0 id hi,h=>.free _ (.sc _)
 | _,_,.np id q hi hk,h=>.own _ _ _ (hp id q (by simpa [TV.all] using h) hk)
 | _,_,.c t x a hd hs,h=>.free _ hs.freeN
 | _,_,.kb b,h=>.free _ (.sc _)
 | _,_,.sc v h1,h=>.free _ (.sc _)
 | _,_,.ptr id j q hi hk,h=>.own _ _ _ (hp id q (by simpa [TV.all] using h) hk)
 | _,_,.adr id i j q hi hk h0 h1,h=>.own _ _ _ (hp id q (by simp [TV.all] at h; exact h.1) hk)
 | _,_,.aa id i q hi hk h0 h1,h=>.own _ _ _ (hp id q (by simp [TV.all] at h; exact h.1) hk)
 | _,_,.ax id i k q hi hk h0 h1 _,h=>.own _ _ _ (hp id q (by simp [TV.all] at h; exact h.1) hk)
 | _,_,.fq t x o a hd hs,h=>.free _ hs.freeN
 | _,_,.mw0 id hi hk,h=>.free _ (.sc _)
 | _,_,.mw id q hi hk,h=>.ms _ _ _ (hp id q (by simp [TV.all] at h; exact h.1) hk)
 | _,_,.ms0 id off len hi hk ho hl,h=>.free _ (.sc _)
 | _,_,.ms id off len q hi hk h0 h1 h2,h=>.ms _ _ _ (hp id q (by simp [TV.all] at h; exact h.1) hk)
 | _,_,.mp id q hi hk,h=>.mp _ (hp id q (by simpa [TV.all] using h) hk)
 | _,_,.fw0 id hi hk,h=>.free _ (.sc _)
 | _,_,.fw id q hi hk,h=>.ms _ _ _ (hp id q (by simp [TV.all] at h; exact h.1) hk)
 | _,_,.fr0 _ _ _ _ _ _,h | _,_,.fr _ _ _ _ _ _ _,h | _,_,.fa _ _ _ _ _ _ _ _ _ _ _,h=>by simp [TV.all] at h
 | _,_,.fs0 id off len hi hk ho hl,h=>.free _ (.sc _)
 | _,_,.fs id off len q hi hk h0 h1 h2,h=>.ms _ _ _ (hp id q (by simp [TV.all] at h; exact h.1) hk)
 | _,_,.fo id i j q hi hk h0 h1,h=>.own _ _ _ (hp id q (by simp [TV.all] at h; exact h.1) hk)
 | _,_,.fn g vs asZ hs,h=>.fn g asZ λj a e=>kjb hp hs (by simpa [TV.all] using h) a (jai e)
 | _,_,.cv n x y F a hc,h=>by
  obtain ⟨g,asZ,rfl,m,_⟩:=hc;exact .free _ ((kfa _ _).2 m)
 | _,_,.tp vs asZ hs,h=>.tp asZ λj a e=>kjb hp hs (by simpa [TV.all] using h) a (jai e)
 | _,_,.ag vs asZ hs h1,h=>.ag asZ λj a e=>kjb hp hs (by simpa [TV.all] using h) a (jai e)
theorem kjb {p:Nat->Bool} {f w:Nat->Bool} (hp:∀ i q,f i=true->κ i=some q->p q=true):∀ {vs:Ya (TV sem)} {asZ:Ya AV},TVRs P κ ln ahN N vs asZ->TV.all.allL f w vs=true->∀ a∈asZ,On p a
 | _,_,.nil,h,a,ha=>by cases ha
 | _,_,.cons v a vs asZ hv hs,h,b,e=>by
  simp only [TV.all.allL,jad] at h;rcases jbi.1 e with rfl | e
  ·exact on_tv hp hv h.1
  ·exact kjb hp hs h.2 b e
end
theorem on_br {p:Nat->Bool} {f w:Nat->Bool} {id q:Nat} {B:TB sem} {AB:ABlk} (hp:∀ i q,f i=true->κ i=some q->p q=true) (hb:BR P κ ln ahN h N id B) (ha:B.all f w=true) (ab:∀ r,B.isF=true->r∈kan (ln id)->p r=true) (E:Ow κ ln id B q) (H:h q=some AB):OnB p AB:=by
 have W:∀ {es ys:Ya (Ya AV)},SnapE ahN es ys->∀ e∈es,∀ a∈e,On p a:=λ{es ys} hs e F a C=>by
  obtain ⟨i,J⟩:=jbl.1 F;obtain ⟨e',O⟩:=kag (l:=ys) (l':=es) hs.1.symm J;have Y:=hs.2 i e e' J O;obtain ⟨j,L⟩:=jbl.1 C;obtain ⟨M,D⟩:=kag (l:=e') (l':=e) Y.len.symm L;exact .free _ (Y.at j a M L D).freeN
 have ae:=hb;rcases E with E | ⟨hf,hr⟩
 case inr=>
  cases B <;> simp only [TB.isF,jal] at hf;obtain ⟨i,m,x,e,_,_,_,_,_,ys,_,_,_,es,g1,g2,_⟩:=hb.row hr;rw [g1] at H; cases H;exact W g2
 cases hb with
 | bx T vs R asZ b A I h1=>
  rw [E] at b; cases b; rw [H] at A; cases A;intro e F a C;simp at F; subst F;exact kjb hp I (by simpa [TB.all] using ha) a C
 | el T t x R cs hd b A I h1 hl=>
  rw [E] at b; cases b; rw [H] at A; cases A;intro e F a C;simp at F; subst F;obtain ⟨j,L⟩:=jbl.1 C;obtain ⟨M,D⟩:=kag (l:=t.enc x) (l':=e) I.len.symm L;exact .free _ (I.at j a M L D).freeN
 | sl0 T t l hd b hl hn=>rw [E] at b; cases b
 | sl T t l R es hd b A I h1 hn=>
  rw [E] at b; cases b; rw [H] at A; cases A;intro e F a C;obtain ⟨i,J⟩:=jbl.1 F;obtain ⟨e',O⟩:=kag (l:=l.map t.enc) (l':=es) I.1.symm J;have hs:=I.2 i e e' J O;obtain ⟨j,L⟩:=jbl.1 C;obtain ⟨M,D⟩:=kag (l:=e') (l':=e) hs.len.symm L;exact .free _ (hs.at j a M L D).freeN
 | mp k v l R ad hf b A=>
  rw [E] at b; cases b; rw [H] at A; cases A;intro x Z;obtain ⟨y,hy,rfl⟩:=jba.1 Z;exact .free _ (kfX _ _ (kbR hf))
 | si x R b h0 A=>rw [E] at b; cases b; rw [H] at A; cases A; trivial
 | km l R b A=>
  rw [E] at b; cases b; rw [H] at A; cases A;intro x Z;obtain ⟨y,hy,rfl⟩:=jba.1 Z;exact .free _ (koO y.2)
 | fm0 T t j U u l ho hd b hl hn=>rw [E] at b; cases b
 | fm T t j U u l ho R es hd b A hn af I h0 h1=>
  rw [E] at b; cases b; rw [H] at A; cases A;have aa:ho=none:=by simpa [TB.all] using ha
  subst aa;intro e F a C;obtain ⟨i,J⟩:=jbl.1 F;have ac:=(jae.1 J).1;have Z:l[i]?=some (l[i]'(by omega)):=jaf _;have Q:(kac (ln id))[i]?=some ((kac (ln id))[i]'(by omega)):=jaf _;obtain ⟨g1,g2,ys,g3,g4,g5⟩:=I i _ e _ Z J Q (by simp);obtain ⟨k,G⟩:=jbl.1 C;by_cases X:k=j
  ·subst X;generalize (kac (ln id))[i]'(by omega)=rm at g5 Q;obtain ⟨r,m⟩:=rm;cases r with
   | none=>obtain ⟨S,_⟩:=g5; rw [G] at S; cases S; exact .free _ (.sc _)
   | some r=>obtain ⟨S,_⟩:=g5; rw [G] at S; cases S; exact .ms _ _ _ (ab r rfl (kav Q))
  ·obtain ⟨M,D⟩:=kag (l:=t.enc (l[i]'(by omega))) (l':=e) g1 G;exact .free _ (g2 k a M X G D).freeN
end
section
variable {P:Ye} {f:FuncId} {args:Ya AV}
inductive OnF (p:Nat->Bool):AV->Prop
 | flat (a:AV) (h:Flat a):OnF p a
 | own (id i j:Nat) (h:p id=true):OnF p (.own id i j)
 | ms (id off len:Nat) (h:p id=true):OnF p (.ms id off len)
 | mp (id:Nat) (h:p id=true):OnF p (.mp id)
 | fn (f:FuncId) (cs:List AV) (h:∀ (j:Nat) (c:AV),cs[j]?=some c->OnF p c):OnF p (.fn f cs)
 | ag (cs:List AV) (h:∀ (j:Nat) (c:AV),cs[j]?=some c->OnF p c):OnF p (.ag cs)
 | tp (cs:List AV) (h:∀ (j:Nat) (c:AV),cs[j]?=some c->OnF p c):OnF p (.tp cs)
def OnBF (p:Nat->Bool):ABlk->Prop
 | .cells _ _ es=>∀ e∈es,∀ a∈e,OnF p a
 | .map b=>∀ x∈b,OnF p x.2
 | .si _ _=>True
 | .mi i _ _=>p i=true
theorem VR.onF {w:World} {C O2:Nat->Prop} {y A:Mu} {n1 n2:Nat} {p:Nat->Bool} {a:AV} (B:OnF p a) (hp:∀ id,p id=true->A id = y id/\id<n2):∀ {v:Yd},VR w C y n1 a v->VR w O2 A n2 a v:=by
 induction B with
 | flat a h=>intro v l; exact l.flat h _ _ _ _
 | own id i j h=>
  intro v l;cases l with
  | own _ _ _ _ x h1 l=>exact .own id i j v (hp id h).2 h1 λb k e=>l b k ((hp id h).1 ▸ e)
 | ms id off len h=>
  intro v l;cases l with
  | ms _ _ _ _ x h1 l=>exact .ms id off len v (hp id h).2 h1 λb k e=>l b k ((hp id h).1 ▸ e)
 | mp id h=>
  intro v l;cases l with
  | mp _ _ x h1 l=>exact .mp id v (hp id h).2 h1 λb k e=>l b k ((hp id h).1 ▸ e)
 | fn f cs h t=>
  intro v l;cases l with
  | fn _ _ vs us hs u hr=>exact .fn f cs vs us hs u λj c m=>t j c m (hr j c m)
 | ag cs h t=>
  intro v l;cases l with
  | ag _ vs us hs u h1 hr=>exact .ag cs vs us hs u h1 λj c m=>t j c m (hr j c m)
 | tp cs h t=>
  intro v l;cases l with
  | tp _ vs us hs u hr=>exact .tp cs vs us hs u λj c m=>t j c m (hr j c m)
theorem BlkAt.onF {w:World} {R O2:Nat->Prop} {y F:Mu} {n1 n2 id:Nat} {p:Nat->Bool} {B:ABlk} (t:BlkAt w R y n1 id B) (D:OnBF p B) (v:F id = y id) (hp:∀ id,p id=true->F id = y id/\id<n2):BlkAt w O2 F n2 id B:=by
 cases B with
 | cells k T es=>
  obtain ⟨b,c,h1,h2,l⟩:=t;refine ⟨b,c,v.trans h1,h2,λi e m=>⟨(l i e m).1,λj a G=>?_⟩⟩;obtain ⟨A,u,J,O⟩:=(l i e m).2 j a G;exact ⟨A,u,J,O.onF (D e (jai m) a (jai G)) hp⟩
 | map H=>
  obtain ⟨b,es,h1,h2,l,A⟩:=t;refine ⟨b,es,v.trans h1,h2,l,λi x m=>?_⟩;obtain ⟨e,g1,I,S,L,Q⟩:=A i x m;exact ⟨e,g1,I,S,L,Q.onF (D x (jai m)) hp⟩
 | si s pos=>
  obtain ⟨b,h1,h2⟩:=t;exact ⟨b,v.trans h1,h2⟩
 | mi E C seen=>
  obtain ⟨b,M,h1,h2,l⟩:=t;exact ⟨b,M,v.trans h1,h2,l.onF (.mp E D) hp⟩
theorem VR.less {w:World} {O O':Nat->Prop} {μ:Mu} {n:Nat} (C:∀ b,O' b->O b) {a:AV} {v:Yd} (u:VR w O μ n a v):VR w O' μ n a v:=by
 have av:∀ {b:Nat},Av O' μ b->Av O μ b:=λh=>by
  rcases h with h | h
  ·exact .inl (C _ h)
  ·exact .inr h
 induction u with
 | sc v h1=>exact .sc v h1
 | ud=>exact .ud
 | gs es=>exact .gs es
 | un v=>exact .un v
 | e0 p=>exact .e0 p
 | own id i j v h h1 u=>exact .own id i j v h h1 u
 | ms id off len v h h1 u=>exact .ms id off len v h h1 u
 | mp id v h h1 u=>exact .mp id v h h1 u
 | fp cs b o us hA m h1 _ l=>exact .fp cs b o us (λt A=>hA t (av A)) m h1 l
 | slnil p=>exact .slnil p
 | sl es b o cap k us x y hA B m h1 _ l=>exact .sl es b o cap k us x y (λi e D t A=>hA i e D t (av A)) B m h1 l
 | fn f cs vs us hs m _ l=>exact .fn f cs vs us hs m l
 | ag cs vs us hs m h1 _ l=>exact .ag cs vs us hs m h1 l
 | tp cs vs us hs m _ l=>exact .tp cs vs us hs m l
theorem HC.frm3 {h hE hL:AH} {n:Nat} {R K:K3} {E:Ya AV} (I:Ya Nat) (hLs:∀ i B,hL i=some B->h i=some B/\I.contains i=false) (Y:E.length=args.length) (hs:∀ (j:Nat) (a a':AV),args[j]?=some a->E[j]?=some a'->a'=a\/Snap hL a a') (hi:∀ i B,hE i=some B->I.contains i=true/\h i=some B) (hI:∀ i,I.contains i=true->i<n) (hn:∀ i,n<=i->h i=none)
  (hR:∀ v h' n',R v h' n'->OnF (liveP h') v/\∀ i B,h' i=some B->OnBF (liveP h') B)
  (hc:HC P f E hE n R) (hk:∀ v h' n',R v h' n'->n<=n'->(∀ i B,h' i=some B->I.contains i=true\/(n<=i/\i<n'))->K v (λi=>if I.contains i||decide (n<=i) then h' i else h i) n'):HC P f args h n K:=by
 refine ⟨hc.1,λO μ w vs hr ac af=>?_⟩;let q0:Nat->Bool:=λi=>I.contains i||(hL i).isSome
 have hO2:∀ b,Av O (muP (λi=>!q0 i) μ) b->Av O (muO I μ) b:=λb l=>by
  rcases l with l | ⟨id,k,l⟩
  ·exact .inl l
  ·obtain ⟨h1,h2⟩:=kaz l;simp only [q0,jbr,jea] at h1;exact .inr ⟨id,k,by unfold muO; rw [if_neg (by rw [h1.1]; decide)]; exact h2⟩
 have hO3:∀ b,Av O (muP (λi=>!q0 i) μ) b->Av O (muP (λi=>!(hL i).isSome) μ) b:=λb l=>by
  rcases l with l | ⟨id,k,l⟩
  ·exact .inl l
  ·obtain ⟨h1,h2⟩:=kaz l;simp only [q0,jbr,jea] at h1;exact .inr ⟨id,k,by unfold muP; rw [if_pos (by show (!(hL id).isSome)=true; rw [h1.2]; rfl)]; exact h2⟩
 have sp:∀ {a:AV} {v:Yd},VR w O μ n a v->VR w (Av O (muP (λi=>!q0 i) μ)) (muI I μ) n a v:=λhv=>(hv.split I).less hO2;have hrI:HR w (Av O (muP (λi=>!q0 i) μ)) (muI I μ) hE n:=by
  refine ⟨hr.olt.av (λb l=>?_),λid b k e=>hr.scope id b k (kam e).2,λid t b k S e e'=>hr.inj id t b k S (kam e).2 (kam e').2,λid b k e hO=>?_,λid B hB=>?_⟩
  ·rcases l with l | ⟨id,k,l⟩
   ·exact hr.olt b l
   ·exact (hr.scope id b k (kaz l).2).2
  ·replace hO:=Or.imp_left (hO2 b) hO;obtain ⟨y,F⟩:=kam e;rcases Or.symm hO with hO | hO | ⟨t,S,hO⟩
   ·exact hr.notO id b k F (.inr hO)
   ·exact hr.notO id b k F (.inl hO)
   ·obtain ⟨G,M⟩:=kay hO;rw [hr.inj _ _ _ _ _ F M] at y;rw [y] at G; cases G
  ·obtain ⟨h1,h2⟩:=hi id B hB;exact (hr.blk id B h2).mapV (by simp only [muI]; rw [if_pos h1]) sp
 refine (hc.2 (Av O (muP (λi=>!q0 i) μ)) (muI I μ) w vs hrI (ac.trans Y.symm) (λj c hj=>?_)).mono ?_
 ·obtain ⟨a,ha⟩:=kag Y hj;obtain ⟨u,h1,h2⟩:=af j a ha;refine ⟨u,h1,?_⟩;rcases hs j a c ha hj with rfl | ad
  ·exact sp h2
  ·have hz:∀ q B,hL q=some B->h q=some B/\(λi=>!(hL i).isSome) q=false:=λq B hq=>⟨(hLs q B hq).1,by simp [hq]⟩;have hp:=ad.vr (hr.part (p:=λi=>!(hL i).isSome) hz) (h2.splitP (λi=>!(hL i).isSome));exact hp.lift λb l=>by
    rcases l with l | ⟨id,k,l⟩
    ·exact hO3 b l
    ·obtain ⟨y,F⟩:=kam l;have G:(!(hL id).isSome)=true:=by
      cases hq:hL id with
      | none=>rfl
      | some B=>have:=(hLs id B hq).2; rw [y] at this; cases this
     exact .inr ⟨id,k,by unfold muP; rw [if_pos (by exact G)]; exact F⟩
 rintro e w' ⟨u,v,h',n',X,rfl,q1,W,q3,D⟩;have ab:=D.le;let p:Nat->Bool:=λi=>I.contains i||decide (n<=i)
 have Q:∀ {i},p i=false->I.contains i=false/\i<n:=λ{i} hp=>by simpa [p] using hp
 have L:∀ id,p id=true->(λi=>if p i then X i else μ i) id = X id:=λid h=>by simp only [h,if_true]
 have A:∀ id,p id=false->(λi=>if p i then X i else μ i) id = μ id:=λid h=>by simp only [h,jal,if_false]
 have C:∀ id b k,X id=some (b,k)->p id=true:=λid b k e=>by
  rcases jbc (p id) with hp | hp
  ·exact hp
  ·obtain ⟨y,F⟩:=Q hp;rcases D.ids id F with G | G
   ·rw [G] at e; rw [(kam e).1] at y; cases y
   ·rw [G] at e; cases e
 have J:∀ i B,h' i=some B->p i=true/\i<n':=λi B hB=>by
  have:=W.blk i B hB;cases B with
  | cells k T es=>obtain ⟨b,c,h1,_⟩:=this; exact ⟨C i b k h1,(W.scope i b k h1).1⟩
  | map ai=>obtain ⟨b,es,h1,_⟩:=this; exact ⟨C i b 0 h1,(W.scope i b 0 h1).1⟩
  | si s pos=>obtain ⟨b,h1,_⟩:=this; exact ⟨C i b 0 h1,(W.scope i b 0 h1).1⟩
  | mi m s p=>obtain ⟨b,_,h1,_⟩:=this; exact ⟨C i b 0 h1,(W.scope i b 0 h1).1⟩
 have hliveP:∀ i,liveP h' i=true->p i=true/\i<n':=λi hi=>by
  obtain ⟨B,hB⟩:=jan.1 hi;exact J i B hB
 replace hk:=hk v h' n' q1 ab λi B hB=>by
  obtain ⟨h1,h2⟩:=J i B hB;simp only [p,jbe,jak] at h1;rcases h1 with h1 | h1
  ·exact .inl h1
  ·exact .inr ⟨h1,h2⟩
 obtain ⟨hv,l⟩:=hR v h' n' q1;have Z:∀ id b k H k2,X id=some (b,k)->μ H=some (b,k2)->p H=false->False:=λid b k H k2 e F hp=>by
  have ah:=hr.scope H b k2 F;by_cases U:id<n
  ·rcases D.ids id U with G | G
   ·rw [G] at e;obtain ⟨M,e5⟩:=kam e;rw [hr.inj id H b k k2 e5 F] at M;rw [(Q hp).1] at M; cases M
   ·rw [G] at e; cases e
  ·rcases D.new id b k e (Nat.le_of_not_lt U) with h1 | ⟨aa,k0,h1⟩
   ·omega
   ·obtain ⟨M,e5⟩:=kam h1;rw [hr.inj aa H b k0 k2 e5 F] at M;rw [(Q hp).1] at M; cases M
 have ae:∀ (b:Nat) c T f,w.heap[b]?=some (.cells c T f)->(∃ id k,(λi=>if p i then X i else μ i) id=some (b,k))->∃ c',w'.heap[b]?=some (.cells c' T f)/\c'.size=c.size:=λb c T f l ⟨id,k,e⟩=>by
  rcases jbc (p id) with hI' | hI'
  ·exact D.row b c T f l ⟨id,k,(L id hI').symm.trans e⟩
  ·have F:μ id=some (b,k):=(A id hI').symm.trans e;refine ⟨c,(D.keep b (jaj.1 l).1 λt S e'=>?_).trans l,rfl⟩;obtain ⟨G,M⟩:=kam e';rw [hr.inj _ _ _ _ _ F M] at hI';rw [(Q hI').1] at G; cases G
 have hE2:Evo w μ n w' (λi=>if p i then X i else μ i) n':=by
  refine ⟨D.os,D.tape,D.output,D.size,ab,λb l hn=>D.keep b l λid k e=>hn id k (kam e).2,ae,λid U=>?_,λid b k e hn=>?_⟩
  ·rcases jbc (p id) with hI' | hI'
   ·have e0:=L id hI';simp only at e0;rw [e0];have hIc:I.contains id=true:=by
     simp only [p,jbe,jak] at hI';rcases hI' with hI' | hI'
     ·exact hI'
     ·omega
    rcases D.ids id U with y | y
    ·rw [y]; left; unfold muI; rw [if_pos hIc]
    ·exact .inr y
   ·exact .inl (A id hI')
  ·rcases jbc (p id) with hI' | hI'
   ·rcases D.new id b k ((L id hI') ▸ e) hn with h1 | ⟨aa,k0,h1⟩
    ·exact .inl h1
    ·exact .inr ⟨aa,k0,(kam h1).2⟩
   ·exact absurd (hr.scope id b k ((A id hI') ▸ e)).1 (by omega)
 have hH2:HR w' O (λi=>if p i then X i else μ i) (λi=>if p i then h' i else h i) n':=by
  refine ⟨hr.olt.evo (λid b k e=>hr.notO id b k (kam e).2) D,λid b k e=>?_,λid t b k S e e'=>?_,λid b k e=>?_,λid B hB=>?_⟩
  ·rcases jbc (p id) with hI' | hI'
   ·exact W.scope id b k ((L id hI') ▸ e)
   ·have:=hr.scope id b k ((A id hI') ▸ e);exact ⟨jar this.1 ab,jar this.2 D.size⟩
  ·rcases jbc (p id) with hI1 | hI1
   ·have y:X id=some (b,k):=(L id hI1) ▸ e;rcases jbc (p t) with hI2 | hI2
    ·exact W.inj id t b k S y ((L t hI2) ▸ e')
    ·exact (Z id b k t S y ((A t hI2) ▸ e') hI2).elim
   ·have y:μ id=some (b,k):=(A id hI1) ▸ e;rcases jbc (p t) with hI2 | hI2
    ·exact (Z t b S id k ((L t hI2) ▸ e') y hI1).elim
    ·exact hr.inj id t b k S y ((A t hI2) ▸ e')
  ·rcases jbc (p id) with hI' | hI'
   ·exact λhO=>W.notO id b k ((L id hI') ▸ e) (Or.imp_left (λx=>Or.inl x) hO)
   ·exact hr.notO id b k ((A id hI') ▸ e)
  ·rcases jbc (p id) with hI' | hI'
   ·simp only [hI',if_true] at hB;exact (W.blk id B hB).onF (l id B hB) (L id hI') (λi h=>⟨L i (hliveP i h).1,(hliveP i h).2⟩)
   ·simp only [hI',jal,if_false] at hB;refine (hr.blk id B hB).evo (A id hI') (λb k e=>D.keep b (hr.scope id b k e).2 λt S e'=>?_) hE2;obtain ⟨y,F⟩:=kam e';rw [hr.inj _ _ _ _ _ e F] at hI';rw [(Q hI').1] at y; cases y
 exact ⟨u,_,_,_,_,rfl,hk,hH2,q3.onF hv (λi h=>⟨L i (hliveP i h).1,(hliveP i h).2⟩),hE2⟩
end
section
variable {P:Ye} {κ κ' κ2:Nat->Yb Nat} {ln ln' ln2:Nat->Nat} {z z':AH} {c:Cx sem} {s:TS sem} {env:Env} {h h':AH} {n n' N N':Nat}
theorem Rel.cut {t:TS sem} {h2:AH} (R:Rel P κ ln ahN ⟨[],[]⟩ t env h n) (b:∀ id B q,thp (⟨[],[]⟩:Cx sem) t id=some B->Ow κ ln id B q->h2 q=h q) (hn:∀ q,n<=q->h2 q=none):Rel P κ ln ahN ⟨[],[]⟩ t env h2 n:=
 ⟨R.env,λid B hB=>(R.blk id B hB).mono (λ_ _=>rfl) (λ_ _=>rfl) (λ_ _ h=>h) (jah _) (R.lt id B hB) (λq e a hB'=>by rw [b id B q hB a]; exact hB'),R.lt,R.inj,λq B a=>(by cases a),R.zout,R.bnd,hn,R.e0,R.g,R.dy,λq k T es a=>(by cases a),R.fam⟩
theorem kca {C:CtrM} {u:TS sem} (e:C.okU u=true) {id:Nat} {b:Yb (TB sem)} (k:alk u.hp id=some b):∃ B,b=some B/\id<C.n1/\B.all (λi=>(alk u.hp i).isSome) C.keptW=true/\C.kept id=true/\(B.needL=true->C.keptW id=true):=by
 unfold CtrM.okU at e;simp only [jad] at e;have:=jap.1 e.1 _ (kau k);cases b with
 | none=>simp at this
 | some B=>
  simp only [jad,jbe,jbr,jak] at this;obtain ⟨⟨⟨h1,h2⟩,j⟩,a⟩:=this;refine ⟨B,rfl,h1,h2,j,λhn=>?_⟩;rcases a with a | a
  ·rw [hn] at a; cases a
  ·exact a
theorem kmF {C:CtrM} {u:TS sem} (a:C.okU u=true) {i:Nat} (e:i<C.nr):∃ v,alk u.env (1000000+i)=some v/\v.all (λi=>(alk u.hp i).isSome) C.keptW=true:=by
 unfold CtrM.okU at a;simp only [jad] at a;have:=jap.1 a.2 i (jec.2 e);split at this
 ·rename_i v b; exact ⟨v,b,this⟩
 ·cases this
theorem khO {t:TS sem} {x:Nat} {v:TV sem} (a:alk t.env x=some v):tlk c t x=v:=by unfold tlk; rw [a]
theorem klE:∀ (vs:Ya AV) (k i:Nat) (E:Env),k<=i->lk ((vs.zipIdx k).map (λx=>(1000000+x.2,x.1))++E) (1000000+i)=(vs[i-k]?).getD (lk E (1000000+i))
 | [],k,i,E,h=>by simp
 | v::vs,k,i,E,h=>by
  simp only [jct,jat,jdj,lk];by_cases e:i=k
  ·subst e; simp
  ·rw [if_neg (by omega),klE vs (k+1) i E (by omega),show i-k=(i-(k+1))+1 by omega,jch]
theorem kup {C:CtrM} {y:C.out.ty.den} {args:Ya AV} (x:C.okU (kad (A:=sem) C.out C.n1 y)=true) {v:AV} {κ:Nat->Yb Nat} {ln:Nat->Nat} (J:kgl P C κ ln y args v h' n'):On (liveP h') v/\∀ i B,h' i=some B->OnB (liveP h') B:=by
 obtain ⟨κ3,ln3,vs,w,rfl,R,m,_⟩:=J;have hp:∀ i q,(alk (kad (A:=sem) C.out C.n1 y).hp i).isSome=true->κ3 i=some q->liveP h' q=true:=λi q p M=>by
  obtain ⟨b,l⟩:=jan.1 p;obtain ⟨B,rfl,_⟩:=kca x l;have hB:=R.blk i B (kab (s:=offD (kad (A:=sem) C.out C.n1 y)) l);have:∃ AB,h' q=some AB:=by cases hB <;> simp_all
  obtain ⟨AB,h1⟩:=this;unfold liveP; rw [h1]; rfl
 have k:∀ i a,vs[i]?=some a->On (liveP h') a:=λi a p=>by
  have u:i<C.nr:=by rw [<-w]; exact (jae.1 p).1
  obtain ⟨v,h1,h2⟩:=kmF x u;have D:=R.env (1000000+i);have H:tlk (⟨[],[]⟩:Cx sem) (offD (kad (A:=sem) C.out C.n1 y)) (1000000+i)=v:=khO (t:=offD (kad (A:=sem) C.out C.n1 y)) h1;rw [H] at D;have F:lk (resE vs++kar args) (1000000+i)=a:=by
   have:=klE vs 0 i (kar args) (jdq _);rw [Nat.sub_zero,p] at this;exact this
  rw [F] at D;exact on_tv hp D h2
 refine ⟨?_,λi B hB=>?_⟩
 ·unfold tpA;split
  ·exact k 0 _ rfl
  ·exact .tp _ λj a I=>k j a I
 ·obtain ⟨id,b,h1,h2⟩:=m i B hB;obtain ⟨L,e,_,E,_⟩:=kca x h1;cases e;have l:=R.blk id b (kab (s:=offD (kad (A:=sem) C.out C.n1 y)) h1);refine on_br hp l E (λr G hr=>?_) h2 hB;cases b <;> simp only [TB.isF,jal] at G;obtain ⟨_,_,_,_,_,_,_,_,_,_,_,_,_,es,g1,_⟩:=l.row hr;unfold liveP; rw [g1]; rfl
end
section
variable {P:Ye} {κ κ' κ2:Nat->Yb Nat} {ln ln' ln2:Nat->Nat} {z z':AH} {c:Cx sem} {s:TS sem} {env:Env} {h h':AH} {n n' N N':Nat}
theorem kdY:∀ (t:Ty) (x:t.den),t.flat=true->FlatL (t.enc x)
 | .i _,x,_ | .b,x,_ | .s,x,_=>by intro a e; simp [Ty.enc] at e; subst e; exact .sc _
 | .un,x,_=>by intro a e; simp [Ty.enc] at e
 | .w t,x,hf=>kdY t x hf
 | .pr t u,x,hf=>by
  simp only [Ty.flat,jad] at hf;intro a e;replace e:a∈t.enc x.1++u.enc x.2:=e;rcases jay.1 e with e | e
  ·exact kdY t x.1 hf.1 a e
  ·exact kdY u x.2 hf.2 a e
theorem keR (t:Ty) (x:t.den) (a:t.flat=true):Flat (t.av x):=by
 have h1:=kdY t x a;cases b:t.agg with
 | true=>rw [kdK b]; exact (kvm _).2 h1
 | false=>rw [kdN b (kbR a)] at h1; exact h1 _ (by simp)
theorem Snap.flat {a a':AV} (hs:Snap z a a'):Flat a'->Flat a:=by
 induction hs with
 | free a p=>exact id
 | nilS=>intro h; cases h
 | own=>intro h; cases h
 | ms=>intro h; cases h
 | fp=>intro h; cases h
 | sl=>intro h; cases h
 | fn=>intro h; cases h
 | ag cs e hl hr m=>
  intro h;cases h with
  | ag _ h=>
   refine .ag cs λj c i=>?_;obtain ⟨k,b⟩:=kag (l:=e) (l':=cs) hl.symm i;exact m j c k i b (h j k b)
 | tp cs e hl hr m=>
  intro h;cases h with
  | tp _ h=>
   refine .tp cs λj c i=>?_;obtain ⟨k,b⟩:=kag (l:=e) (l':=cs) hl.symm i;exact m j c k i b (h j k b)
mutual
theorem ktH {p:Nat->Bool} {f w:Nat->Bool} (hp:∀ i q,f i=true->κ i=some q->p q=true):∀ {v:TV sem} {a:AV},TVR P κ ln ahN N v a->v.all f w=true->v.flt=true->OnF p a
 | _,_,.un a,h,hf=>by simp [TV.all] at h
 | _,_,.ud,h,hf=>by simp [TV.flt] at hf
 | _,_,.gs t l,h,hf=>by simp [TV.flt] at hf
 | _,_,.yl id q hi hq,h,hf=>by simp [TV.flt] at hf
 | _,_,.kp id hi,h,hf=>by simp [TV.flt] at hf
 | _,_,.np0 id hi,h,hf=>.flat _ (.sc _)
 | _,_,.np id q hi hk,h,hf=>.own _ _ _ (hp id q (by simpa [TV.all] using h) hk)
 | _,_,.c t x a hd hs,h,hf=>.flat _ (hs.flat (keR t x (by simpa [TV.flt] using hf)))
 | _,_,.kb b,h,hf=>.flat _ (.sc _)
 | _,_,.sc v h1,h,hf=>.flat _ (.sc _)
 | _,_,.ptr id j q hi hk,h,hf=>.own _ _ _ (hp id q (by simpa [TV.all] using h) hk)
 | _,_,.adr id i j q hi hk h0 h1,h,hf=>.own _ _ _ (hp id q (by simp [TV.all] at h; exact h.1) hk)
 | _,_,.aa id i q hi hk h0 h1,h,hf=>.own _ _ _ (hp id q (by simp [TV.all] at h; exact h.1) hk)
 | _,_,.ax id i k q hi hk h0 h1 _,h,hf=>.own _ _ _ (hp id q (by simp [TV.all] at h; exact h.1) hk)
 | _,_,.fq t x o a hd hs,h,hf=>by simp [TV.flt] at hf
 | _,_,.mw0 id hi hk,h,hf=>.flat _ (.sc _)
 | _,_,.mw id q hi hk,h,hf=>.ms _ _ _ (hp id q (by simp [TV.all] at h; exact h.1) hk)
 | _,_,.ms0 id off len hi hk ho hl,h,hf=>.flat _ (.sc _)
 | _,_,.ms id off len q hi hk h0 h1 h2,h,hf=>.ms _ _ _ (hp id q (by simp [TV.all] at h; exact h.1) hk)
 | _,_,.mp id q hi hk,h,hf=>.mp _ (hp id q (by simpa [TV.all] using h) hk)
 | _,_,.fw0 id hi hk,h,hf=>.flat _ (.sc _)
 | _,_,.fw id q hi hk,h,hf=>.ms _ _ _ (hp id q (by simp [TV.all] at h; exact h.1) hk)
 | _,_,.fr0 _ _ _ _ _ _,h,hf | _,_,.fr _ _ _ _ _ _ _,h,hf | _,_,.fa _ _ _ _ _ _ _ _ _ _ _,h,hf=>by simp [TV.all] at h
 | _,_,.fs0 id off len hi hk ho hl,h,hf=>.flat _ (.sc _)
 | _,_,.fs id off len q hi hk h0 h1 h2,h,hf=>.ms _ _ _ (hp id q (by simp [TV.all] at h; exact h.1) hk)
 | _,_,.fo id i j q hi hk h0 h1,h,hf=>.own _ _ _ (hp id q (by simp [TV.all] at h; exact h.1) hk)
 | _,_,.fn g vs asZ hs,h,hf=>.fn g asZ λj a e=>khQ hp hs (by simpa [TV.all] using h) (by simpa [TV.flt] using hf) a (jai e)
 | _,_,.cv n x y F a hc,h,hf=>by simp [TV.flt] at hf
 | _,_,.tp vs asZ hs,h,hf=>.tp asZ λj a e=>khQ hp hs (by simpa [TV.all] using h) (by simpa [TV.flt] using hf) a (jai e)
 | _,_,.ag vs asZ hs h1,h,hf=>.ag asZ λj a e=>khQ hp hs (by simpa [TV.all] using h) (by simpa [TV.flt] using hf) a (jai e)
theorem khQ {p:Nat->Bool} {f w:Nat->Bool} (hp:∀ i q,f i=true->κ i=some q->p q=true):∀ {vs:Ya (TV sem)} {asZ:Ya AV},TVRs P κ ln ahN N vs asZ->TV.all.allL f w vs=true->TV.flt.fltL vs=true->∀ a∈asZ,OnF p a
 | _,_,.nil,h,hf,a,ha=>by cases ha
 | _,_,.cons v a vs asZ hv hs,h,hf,b,e=>by
  simp only [TV.all.allL,jad] at h;simp only [TV.flt.fltL,jad] at hf;rcases jbi.1 e with rfl | e
  ·exact ktH hp hv h.1 hf.1
  ·exact khQ hp hs h.2 hf.2 b e
end
theorem kfD:∀ t:Ty,t.dat=true->(cellF t).length=t.wd
 | .i _,_ | .b,_ | .s,_ | .un,_ | .sl _,_ | .pt _,_ | .op _,_=>rfl
 | .w x,h=>kfD x h
 | .pr x y,h=>by
  simp only [Ty.dat,jad] at h;simp only [cellF,jax,Ty.wd];rw [kfD x h.1,kfD y h.2]
 | .ar n x,_=>by simp [cellF,Ty.wd]
theorem kfN:∀ (t:Ty) (x:t.den),t.dat=true->∀ (q k:Nat) (a:AV),(cellF t)[q]?=some k->(t.enc x)[q]?=some a->(k=0->Flat a)/\(k=1->∀ ys,a = .sl ys->∀ e∈ys,FlatL e)
 | .i _,x,_,q,k,a,h1,h2 | .b,x,_,q,k,a,h1,h2 | .s,x,_,q,k,a,h1,h2=>by
  cases q with
  | zero=>simp only [cellF,jci,Option.some.injEq] at h1; simp [Ty.enc] at h2; subst h1; subst h2; exact ⟨λ_=>.sc _,λe=>(by cases e)⟩
  | succ q=>simp [cellF] at h1
 | .un,x,_,q,k,a,h1,h2=>by simp [cellF] at h1
 | .w t,x,h,q,k,a,h1,h2=>kfN t x h q k a h1 h2
 | .pr t u,x,h,q,k,a,h1,h2=>by
  simp only [Ty.dat,jad] at h;simp only [cellF] at h1;replace h2:(t.enc x.1++u.enc x.2)[q]?=some a:=h2;rw [jbu] at h1 h2;rw [kfD t h.1] at h1;rw [kaf t x.1 h.1] at h2;split at h1
  ·rename_i j;rw [if_pos j] at h2;exact kfN t x.1 h.1 q k a h1 h2
  ·rename_i j;rw [if_neg j] at h2;exact kfN u x.2 h.2 _ k a h1 h2
 | .sl t,l,h,q,k,a,h1,h2=>by
  cases q with
  | succ q=>simp [cellF] at h1
  | zero=>
   simp only [cellF,jci,Option.some.injEq] at h1;simp [Ty.enc] at h2;subst h1; subst h2;refine ⟨λe=>?_,λe ys m y v=>?_⟩
   ·split at e <;> cases e
   ·split at e
    ·rename_i p;cases m;obtain ⟨z,hz,rfl⟩:=jba.1 v;exact kdY t z p
    ·cases e
 | .pt t,x,h,q,k,a,h1,h2 | .op t,x,h,q,k,a,h1,h2=>by
  cases q with
  | succ q=>simp [cellF] at h1
  | zero=>
   simp only [cellF,jci,Option.some.injEq] at h1;subst h1;exact ⟨λe=>(by cases e),λe=>(by cases e)⟩
 | .ar n t,x,h,q,k,a,h1,h2=>by
  simp only [cellF,jcz] at h1;split at h1
  ·cases h1;exact ⟨λe=>(by cases e),λe=>(by cases e)⟩
  ·cases h1
theorem kwd {p:Nat->Bool} {f w:Nat->Bool} {id q:Nat} {B:TB sem} {AB:ABlk} (hp:∀ i q,f i=true->κ i=some q->p q=true) (hb:BR P κ ln ahN h N id B) (ha:B.all f w=true) (H:B.flt=true) (aj:∀ r,B.isF=true->r∈kan (ln id)->p r=true) (G:Ow κ ln id B q) (O:h q=some AB):OnBF p AB:=by
 have Z:∀ {t:Ty} {j:Nat},t.dat=true->((cellF t).zipIdx.all λx=>x.1==0||(x.1==1&&x.2==j))=true->∀ (x:t.den) (k:Nat) (a:AV),(t.enc x)[k]?=some a->(k≠j->Flat a)/\(k=j->∀ ys,a = .sl ys->∀ e∈ys,FlatL e):=λ{t j} I ac x k a ha=>by
  have ab:k<(cellF t).length:=by rw [kfD t I,<-kaf t x I]; exact (jae.1 ha).1
  have hg:(cellF t)[k]?=some ((cellF t)[k]):=jaf ab;have X:=kfN t x I k _ a hg ha;have:=jap.1 ac ((cellF t)[k],k) (List.mem_zipIdx_iff_getElem?.2 (by simp));simp only [jbe,beq_iff_eq,jad] at this;refine ⟨λae=>?_,λE ys ad e ai=>?_⟩
  ·rcases this with h | ⟨_,h⟩
   ·exact X.1 h
   ·exact absurd h ae
  ·rcases this with h | ⟨h,_⟩
   ·have:=X.1 h; rw [ad] at this; cases this
   ·exact X.2 h ys ad e ai
 have ah:=hb;rcases G with G | ⟨hf,hr⟩
 case inr=>
  cases B <;> simp only [TB.isF,jal] at hf;rename_i T t jj U u l ho;have I:t.dat=true:=by cases ah <;> assumption
  obtain ⟨i,m,x,e,_,_,_,_,_,ys,g3,_,_,es,g1,g2,_⟩:=hb.row hr;rw [g1] at O; cases O;intro e E a D;obtain ⟨i,R⟩:=jbl.1 E;obtain ⟨e',F⟩:=kag (l:=ys) (l':=es) g2.1.symm R;have aa:=g2.2 i e e' R F;obtain ⟨j,Q⟩:=jbl.1 D;obtain ⟨J,C⟩:=kag (l:=e') (l':=e) aa.len.symm Q;exact .flat _ ((aa.at j a J Q C).flat ((Z I (by simpa [TB.flt] using H) x jj _ g3).2 rfl ys rfl e' (jai F) J (jai C)))
 cases hb with
 | bx T vs Y asZ b A M h1=>
  rw [G] at b; cases b; rw [O] at A; cases A;intro e E a D;simp at E; subst E;exact khQ hp M (by simpa [TB.all] using ha) (by simpa [TB.flt] using H) a D
 | el T t x Y cs I b A M h1 hl=>
  rw [G] at b; cases b; rw [O] at A; cases A;intro e E a D;simp at E; subst E;obtain ⟨j,Q⟩:=jbl.1 D;obtain ⟨J,C⟩:=kag (l:=t.enc x) (l':=e) M.len.symm Q;exact .flat _ ((M.at j a J Q C).flat (kdY t x (by simpa [TB.flt] using H) J (jai C)))
 | sl0 T t l I b hl hn=>rw [G] at b; cases b
 | sl T t l Y es I b A M h1 hn=>
  rw [G] at b; cases b; rw [O] at A; cases A;intro e E a D;obtain ⟨i,R⟩:=jbl.1 E;obtain ⟨e',F⟩:=kag (l:=l.map t.enc) (l':=es) M.1.symm R;have hs:=M.2 i e e' R F;obtain ⟨j,Q⟩:=jbl.1 D;obtain ⟨J,C⟩:=kag (l:=e') (l':=e) hs.len.symm Q;obtain ⟨y,hy,rfl⟩:=jba.1 (jai F);exact .flat _ ((hs.at j a J Q C).flat (kdY t y (by simpa [TB.flt] using H) J (jai C)))
 | mp k v l Y al hf b A=>
  rw [G] at b; cases b; rw [O] at A; cases A;intro x hx;obtain ⟨y,hy,rfl⟩:=jba.1 hx;exact .flat _ (keR _ _ hf)
 | si x Y b h0 A=>rw [G] at b; cases b; rw [O] at A; cases A; trivial
 | km l Y b A=>
  rw [G] at b; cases b; rw [O] at A; cases A;intro x hx;obtain ⟨y,hy,rfl⟩:=jba.1 hx;show OnF p (fnV y.2);cases y.2 with
  | none=>exact .flat _ (.sc _)
  | some f=>exact .fn _ _ (λj c h=>by simp at h)
 | fm0 T t j U u l ho I b hl hn=>rw [G] at b; cases b
 | fm T t j U u l ho Y es I b A hn ak M h0 h1=>
  rw [G] at b; cases b; rw [O] at A; cases A;have af:ho=none:=by simpa [TB.all] using ha
  subst af;intro e E a D;obtain ⟨i,R⟩:=jbl.1 E;have ab:=(jae.1 R).1;have hx:l[i]?=some (l[i]'(by omega)):=jaf _;have W:(kac (ln id))[i]?=some ((kac (ln id))[i]'(by omega)):=jaf _;obtain ⟨g1,g2,ys,g3,g4,g5⟩:=M i _ e _ hx R W (by simp);obtain ⟨k,L⟩:=jbl.1 D;by_cases S:k=j
  ·subst S;generalize (kac (ln id))[i]'(by omega)=rm at g5 W;obtain ⟨r,m⟩:=rm;cases r with
   | none=>obtain ⟨g6,_⟩:=g5; rw [L] at g6; cases g6; exact .flat _ (.sc _)
   | some r=>obtain ⟨g6,_⟩:=g5; rw [L] at g6; cases g6; exact .ms _ _ _ (aj r rfl (kav W))
  ·obtain ⟨J,C⟩:=kag (l:=t.enc (l[i]'(by omega))) (l':=e) g1 L;exact .flat _ ((g2 k a J S L C).flat ((Z I (by simpa [TB.flt] using H) _ k J C).1 S))
theorem kvj {C:CtrM} {u:TS sem} (a:C.okF u=true) {id:Nat} {B:TB sem} (b:alk u.hp id=some (some B)):B.flt=true:=by
 unfold CtrM.okF at a;simp only [jad] at a;exact jap.1 a.1 _ (kau b)
theorem kvn {C:CtrM} {u:TS sem} (a:C.okF u=true) {i:Nat} (e:i<C.nr) {v:TV sem} (b:alk u.env (1000000+i)=some v):v.flt=true:=by
 unfold CtrM.okF at a;simp only [jad] at a;have:=jap.1 a.2 i (jec.2 e);rw [b] at this; exact this
theorem ksB {C:CtrM} {y:C.out.ty.den} {args:Ya AV} (D:C.okU (kad (A:=sem) C.out C.n1 y)=true) (u:C.okF (kad (A:=sem) C.out C.n1 y)=true) {v:AV} {κ:Nat->Yb Nat} {ln:Nat->Nat} (L:kgl P C κ ln y args v h' n'):OnF (liveP h') v/\∀ i B,h' i=some B->OnBF (liveP h') B:=by
 obtain ⟨κ3,ln3,vs,x,rfl,R,p,_⟩:=L;have hp:∀ i q,(alk (kad (A:=sem) C.out C.n1 y).hp i).isSome=true->κ3 i=some q->liveP h' q=true:=λi q w O=>by
  obtain ⟨b,m⟩:=jan.1 w;obtain ⟨B,rfl,_⟩:=kca D m;have hB:=R.blk i B (kab (s:=offD (kad (A:=sem) C.out C.n1 y)) m);have:∃ AB,h' q=some AB:=by cases hB <;> simp_all
  obtain ⟨AB,h1⟩:=this;unfold liveP; rw [h1]; rfl
 have k:∀ i a,vs[i]?=some a->OnF (liveP h') a:=λi a w=>by
  have l:i<C.nr:=by rw [<-x]; exact (jae.1 w).1
  obtain ⟨v,h1,h2⟩:=kmF D l;have E:=R.env (1000000+i);have I:tlk (⟨[],[]⟩:Cx sem) (offD (kad (A:=sem) C.out C.n1 y)) (1000000+i)=v:=khO (t:=offD (kad (A:=sem) C.out C.n1 y)) h1;rw [I] at E;have G:lk (resE vs++kar args) (1000000+i)=a:=by
   have:=klE vs 0 i (kar args) (jdq _);rw [Nat.sub_zero,w] at this;exact this
  rw [G] at E;exact ktH hp E h2 (kvn u l h1)
 refine ⟨?_,λi B hB=>?_⟩
 ·unfold tpA;split
  ·exact k 0 _ rfl
  ·exact .tp _ λj a J=>k j a J
 ·obtain ⟨id,b,h1,h2⟩:=p i B hB;obtain ⟨M,e,_,F,_⟩:=kca D h1;cases e;have m:=R.blk id b (kab (s:=offD (kad (A:=sem) C.out C.n1 y)) h1);refine kwd hp m F (kvj u h1) (λr H hr=>?_) h2 hB;cases b <;> simp only [TB.isF,jal] at H;obtain ⟨_,_,_,_,_,_,_,_,_,_,_,_,_,es,g1,_⟩:=m.row hr;unfold liveP; rw [g1]; rfl
theorem HC.frm4 {f:FuncId} {args b:Ya AV} {h hE hL:AH} {n:Nat} {R K:K3} (I:Ya Nat) (hLs:∀ i B,hL i=some B->h i=some B/\I.contains i=false) (e:b.length=args.length) (hs:∀ (j:Nat) (a a':AV),args[j]?=some a->b[j]?=some a'->a'=a\/Snap hL a a') (l:∀ i B,hE i=some B->I.contains i=true/\h i=some B) (hI:∀ i,I.contains i=true->i<n) (hn:∀ i,n<=i->h i=none)
  (hR:∀ v h' n',R v h' n'->On (liveP h') v/\∀ i B,h' i=some B->OnB (liveP h') B) (hF:hL=ahN\/∀ v h' n',R v h' n'->OnF (liveP h') v/\∀ i B,h' i=some B->OnBF (liveP h') B)
  (m:HC P f b hE n R) (k:∀ v h' n',R v h' n'->n<=n'->(∀ i B,h' i=some B->I.contains i=true\/(n<=i/\i<n'))->K v (λi=>if I.contains i||decide (n<=i) then h' i else h i) n'):HC P f args h n K:=by
 rcases hF with rfl | hF
 ·exact (HC.frm2 I l hI hn hR m k).up e hs
 ·exact HC.frm3 I hLs e hs l hI hn hF m k
end
section
variable {P:Ye} {κ κ' κ2 κ3:Nat->Yb Nat} {ln ln' ln2 ln3:Nat->Nat} {z z':AH} {c:Cx sem} {s:TS sem} {env env3:Env} {h h' h2:AH} {n n' n2 N N':Nat}
theorem klp {α:Type}:∀ (l:Ya (Nat×Nat)) (q:Nat),alk (l.map λx=>(x.2,(none:Yb α))) q=if l.any (λx=>x.2==q) then some none else none
 | [],q=>rfl
 | x::l,q=>by
  simp only [jat,alk];by_cases e:q=x.2
  ·subst e; simp
  ·have h2:(x.2==q)=false:=by simp; exact λh=>e h.symm
   have h1:(x::l).any (λx=>x.2==q)=l.any (λx=>x.2==q):=by rw [List.any_cons,h2,jda]
   rw [if_neg e,klp l q,h1]
theorem TVR.ptr_inv {id j:Nat} {a:AV} (h:TVR P κ ln z N (.ptr id j) a):∃ q,κ id=some q/\a = .own q 0 j:=by cases h; exact ⟨_,by assumption,rfl⟩
theorem TVR.mp_inv {id:Nat} {a:AV} (h:TVR P κ ln z N (.mp id) a):∃ q,κ id=some q/\a = .mp q:=by cases h; exact ⟨_,by assumption,rfl⟩
theorem TVR.mw_same {id j:Nat} {a:AV} (h:TVR P κ ln z N (.mw id) a) (h':TVR P κ' ln' z' N' (.mw j) a):κ id = κ' j/\(κ id≠none->ln id=ln' j):=by
 cases h with
 | mw0 _ l k=>
  generalize hn:nilS=a at h';cases h' with
  | mw0 _ i b=>exact ⟨k.trans b.symm,λe=>absurd k e⟩
  | mw _ q i b=>cases hn
 | mw _ q l k=>
  generalize hn:AV.ms q 0 (ln id)=a at h';cases h' with
  | mw0 _ i b=>cases hn
  | mw _ m i b=>injection hn with e1 _ e2; subst e1; exact ⟨k.trans b.symm,λ_=>e2⟩
theorem ksG {C:CtrM} {asZ:Ya AV} {u t:TS sem} (T:Rel P κ2 ln2 ahN ⟨[],[]⟩ t (kar asZ) h n) (S:Rel P κ3 ln3 ahN ⟨[],[]⟩ u env3 h2 n2) (w:∀ i,i<C.ks.length->lk env3 i=lk (kar asZ) i)
  (F:∀ i pv,alk C.inp.env i=some pv->∀ v,(∀ xs:Ya ((t:Ty)×sem.D t),(unV (A:=sem) pv xs).1=v)->tlk (⟨[],[]⟩:Cx sem) t i=v) (m:∀ i pv,alk C.out.env i=some pv->∀ v,(∀ xs:Ya ((t:Ty)×sem.D t),(unV (A:=sem) pv xs).1=v)->tlk (⟨[],[]⟩:Cx sem) u i=v)
  (l:∀ p∈C.inn,κ3 p = κ2 p/\ln3 p=ln2 p) {p:Nat} (hp:p<C.n0):(C.kept p=true->(alk C.inp.hp p).isSome=true/\κ3 p = κ2 p)/\(C.keptW p=true->κ2 p≠none->ln3 p=ln2 p):=by
 have R:∀ p,C.slot sameW p=true->(alk C.inp.hp p).isSome=true/\κ3 p = κ2 p/\(κ2 p≠none->ln3 p=ln2 p):=λp hs=>by
  unfold CtrM.slot at hs;rw [jad] at hs;obtain ⟨y,Z,j⟩:=jbq.1 hs.2;rw [jad,jak] at j;obtain ⟨B,j⟩:=j;split at j
  ·rename_i a b O M;cases a <;> cases b <;> simp only [sameW,jad,beq_iff_eq,jal] at j;obtain ⟨rfl,rfl⟩:=j;have H:=T.env y.1;have E:=S.env y.1;rw [F _ _ O (.mw _) (λxs=>rfl)] at H;rw [m _ _ M (.mw _) (λxs=>rfl),w _ B] at E;obtain ⟨k1,k2⟩:=H.mw_same E;exact ⟨hs.1,k1.symm,λk=>(k2 k).symm⟩
  ·cases j
 have X:∀ p,C.slot kpY p=true->(alk C.inp.hp p).isSome=true/\κ3 p = κ2 p:=λp hs=>by
  unfold CtrM.slot at hs;rw [jad] at hs;obtain ⟨y,Z,j⟩:=jbq.1 hs.2;rw [jad,jak] at j;obtain ⟨B,j⟩:=j;split at j
  ·rename_i a b O M;have H:=T.env y.1;have E:=S.env y.1;cases a <;> cases b <;> simp only [kpY,jad,beq_iff_eq,jal] at j
   ·obtain ⟨⟨rfl,rfl⟩,rfl⟩:=j;rw [F _ _ O (.ptr _ _) (λxs=>rfl)] at H;rw [m _ _ M (.ptr _ _) (λxs=>rfl),w _ B] at E;obtain ⟨Y,k1,k2⟩:=H.ptr_inv;obtain ⟨q2,k3,J⟩:=E.ptr_inv;rw [k2] at J; cases J;exact ⟨hs.1,k3.trans k1.symm⟩
   ·obtain ⟨rfl,rfl⟩:=j;rw [F _ _ O (.mp _) (λxs=>rfl)] at H;rw [m _ _ M (.mp _) (λxs=>rfl),w _ B] at E;obtain ⟨Y,k1,k2⟩:=H.mp_inv;obtain ⟨q2,k3,J⟩:=E.mp_inv;rw [k2] at J; cases J;exact ⟨hs.1,k3.trans k1.symm⟩
  ·cases j
 have U:C.keptW p=true->C.slot sameW p=true\/p∈C.inn:=λk=>by
  unfold CtrM.keptW at k;simp only [jbe,jak] at k;rcases k with (k | k) | k
  ·omega
  ·exact .inl k
  ·exact .inr (jbw.1 k)
 have W:∀ p∈C.inn,(alk C.inp.hp p).isSome=true:=λp I=>by
  unfold CtrM.inn at I;obtain ⟨x,G,rfl⟩:=jba.1 I;have G:=(jdy.1 G).1;generalize C.inp.hp=L at G;induction L with
  | nil=>cases G
  | cons y L ih=>
   simp only [alk];split
   ·rfl
   ·rename_i e;rcases jbi.1 G with rfl | G
    ·exact absurd rfl e
    ·exact ih G
 refine ⟨λk=>?_,λk Q=>(U k).elim (λh=>(R p h).2.2 Q) λh=>(l p h).2⟩;unfold CtrM.kept at k;rw [jbe,jbe] at k;rcases k with (k | k) | k
 ·exact (U k).elim (λh=>⟨(R p h).1,(R p h).2.1⟩) λh=>⟨W p h,(l p h).1⟩
 ·exact X p k
 ·have I:=jbw.1 k;exact ⟨W p I,(l p I).1⟩
end
section
variable {P:Ye} {κ κ3:Nat->Yb Nat} {ln ln3:Nat->Nat} {c:Cx sem} {s:TS sem} {env env3:Env} {h h' h2:AH} {n n2:Nat}
mutual
theorem koN:∀ {v:TV sem} {i:Nat},v.hasW i=true->v.has i=true
 | .adr j _ _,i,hi | .aa j _,i,hi | .ax j _ _,i,hi | .mw j,i,hi | .ms j _ _,i,hi | .fw j,i,hi | .fr j _,i,hi | .fo j _ _,i,hi | .fs j _ _,i,hi | .fa j _ _ _,i,hi=>by simpa [TV.hasW,TV.has] using hi
 | .fn _ vs,i,hi | .tp vs,i,hi | .ag vs,i,hi=>by have:=kjN (vs:=vs) (i:=i) (by simpa [TV.hasW] using hi); simpa [TV.has] using this
 | .un,i,hi | .ptr _ _,i,hi | .mp _,i,hi | .ud,i,hi | .c _ _,i,hi | .kb _,i,hi | .sc _,i,hi | .fq _ _ _,i,hi | .cv _ _ _ _,i,hi=>by simp [TV.hasW] at hi
theorem kjN:∀ {vs:Ya (TV sem)} {i:Nat},TV.hasW.hasL i vs=true->TV.has.hasL i vs=true
 | [],i,a=>by simp [TV.hasW.hasL] at a
 | v::vs,i,a=>by
  simp only [TV.hasW.hasL,jbe] at a;simp only [TV.has.hasL,jbe];rcases a with a | a
  ·exact .inl (koN a)
  ·exact .inr (kjN a)
end
def kapM (C:CtrM) (s:TS sem) (κ κ3:Nat->Yb Nat):Nat->Yb Nat:=λid=>if id<s.n then κ id else κ3 (id-s.n+C.n0)
def lenM (C:CtrM) (s:TS sem) (ln ln3:Nat->Nat):Nat->Nat:=λid=>if id<s.n then ln id else ln3 (id-s.n+C.n0)
theorem kem {C:CtrM} {u:TS sem} {ids:Ya (Nat×Nat)} (R:Rel P κ ln ahN c s env h n) (ag:∀ p,p<C.n0->C.kept p=true->(alk u.hp p).isSome=true->∃ q,alk ids p=some q/\κ3 p = κ q/\(C.keptW p=true->ln3 p=ln q)) (own:∀ x∈ids,∃ B,alk s.hp x.2=some (some B)) {p:Nat} (i:C.kept p=true) (h1:p<C.n1) (hs:(alk u.hp p).isSome=true) :
  kapM C s κ κ3 (renC C ids s.n p) = κ3 p/\renC C ids s.n p<s.n+(C.n1-C.n0)/\(C.keptW p=true->lenM C s ln ln3 (renC C ids s.n p)=ln3 p)/\(renC C ids s.n p<s.n->∃ x∈ids,x.2=renC C ids s.n p):=by
 unfold renC;by_cases hp:p<C.n0
 ·rw [if_pos hp];obtain ⟨q,a,j,l⟩:=ag p hp i hs;rw [a,jcc];obtain ⟨B,hB⟩:=own _ (kau a);have b:q<s.n:=R.lt q B (kab hB);refine ⟨by unfold kapM; rw [if_pos b]; exact j.symm,by omega,λk=>by unfold lenM; rw [if_pos b]; exact (l k).symm,λ_=>⟨_,kau a,rfl⟩⟩
 ·rw [if_neg hp];have e:s.n+(p-C.n0)-s.n+C.n0=p:=by omega
  refine ⟨by unfold kapM; rw [if_neg (by omega),e],by omega,λ_=>by unfold lenM; rw [if_neg (by omega),e],λh=>by omega⟩
theorem ktA {C:CtrM} {ids:Ya (Nat×Nat)} {u:TS sem} (R:Rel P κ ln ahN c s env h n) (W:C.okU u=true) (Z:Rel P κ3 ln3 ahN ⟨[],[]⟩ (offD u) env3 h2 n2) (hn:n<=n2)
  (ag:∀ p,p<C.n0->C.kept p=true->(alk u.hp p).isSome=true->∃ q,alk ids p=some q/\κ3 p = κ q/\(C.keptW p=true->ln3 p=ln q)) (own:∀ x∈ids,∃ B,alk s.hp x.2=some (some B))
  (X:∀ i B,h2 i=some B->(∃ x∈ids,i∈ows κ ln c s x.2)\/n<=i) (aa:∀ i,(∃ x∈ids,i∈ows κ ln c s x.2)\/n<=i->h' i=h2 i) (af:∀ i,i<n->¬ (∃ x∈ids,i∈ows κ ln c s x.2)->h' i=h i) :
  Rel P (kapM C s κ κ3) (lenM C s ln ln3) ahN c (kdD C s u ids) env h' n2:=by
 have t:∀ id,id<s.n->kapM C s κ κ3 id = κ id:=λid E=>by unfold kapM; rw [if_pos E]
 have F:∀ id,id<s.n->lenM C s ln ln3 id=ln id:=λid E=>by unfold lenM; rw [if_pos E]
 have hN:s.n<=(kdD C s u ids).n:=Nat.le_add_right _ _;have a:∀ id B,thp c (kdD C s u ids) id=some B->(∃ p l,alk u.hp p=some (some l)/\renC C ids s.n p=id/\B=renB (renC C ids s.n) l)\/(thp c s id=some B/\∀ x∈ids,x.2≠id):=λid B hB=>by
  unfold thp at hB;simp only [kdD,kbd] at hB;cases h1:alk (u.hp.map λx=>(renC C ids s.n x.1,x.2.map (renB (renC C ids s.n)))) id with
  | some b=>
   rw [h1] at hB;obtain ⟨p,b0,k1,k2,k3⟩:=kfH (renC C ids s.n) (λb:Yb (TB sem)=>b.map (renB (renC C ids s.n))) u.hp h1;obtain ⟨l,rfl,_⟩:=kca W k1;refine .inl ⟨p,l,k1,k2,?_⟩;subst k3;simp at hB;exact hB.symm
  | none=>
   rw [h1] at hB;simp only [klp] at hB;by_cases ha:ids.any (λx=>x.2==id)=true
   ·rw [if_pos ha] at hB; cases hB
   ·rw [if_neg ha] at hB;refine .inr ⟨hB,λx O e=>ha (jbq.2 ⟨x,O,by simp [e]⟩)⟩
 have m:∀ {p l},alk u.hp p=some (some l)->thp (⟨[],[]⟩:Cx sem) (offD u) p=some l:=λh=>kab (s:=offD u) h;have old:∀ {id B q},thp c s id=some B->(∀ x∈ids,x.2≠id)->Ow κ ln id B q->¬ (∃ x∈ids,q∈ows κ ln c s x.2)/\q<n:=λ{id B q} hB O w=>by
  refine ⟨λ⟨x,ac,ae⟩=>?_,R.owN hB w⟩;obtain ⟨v,hB'⟩:=own x ac;exact O x ac (R.owI (kab hB') hB (kci (kab hB') ae) w)
 have new:∀ {p l q},alk u.hp p=some (some l)->Ow κ3 ln3 p l q->((∃ x∈ids,q∈ows κ ln c s x.2)\/n<=q)/\∃ AB,h2 q=some AB:=λ{p l q} hB w=>by
  have I:=Z.blk p l (m hB);have:∃ AB,h2 q=some AB:=by
   rcases w with w | ⟨Q,hr⟩
   ·cases I <;> simp_all
   ·cases l <;> simp only [TB.isF,jal] at Q;obtain ⟨_,_,_,_,_,_,_,_,_,_,_,_,_,es,g1,_⟩:=I.row hr;exact ⟨_,g1⟩
  obtain ⟨AB,H⟩:=this;exact ⟨X q AB H,AB,H⟩
 have G:∀ {p l},alk u.hp p=some (some l)->kapM C s κ κ3 (renC C ids s.n p) = κ3 p:=λ{p l} hB=>by
  obtain ⟨v,e,k1,k2,k3,k4⟩:=kca W hB;exact (kem (ln:=ln) (ln3:=ln3) R ag own k3 k1 (by rw [hB]; rfl)).1
 refine ⟨λx=>?_,λid B hB=>?_,λid B hB=>?_,λi j B v q E M ki S=>?_,λq B H=>(by cases H),λid B q hB w=>rfl,λid B q hB w=>?_,λq H=>?_,R.e0,λid b I=>?_,λ_=>rfl,λq k T es H=>(by cases H),λid B hB Q=>?_⟩
 ·exact (R.env x).mono t F (λ_ _ h=>h) hN
 ·rcases a id B hB with ⟨p,l,k1,rfl,rfl⟩ | ⟨k1,k2⟩
  ·obtain ⟨v,e,j1,j2,j3,j4⟩:=kca W k1;cases e;have I:=Z.blk p l (m k1);have ad:∀ i,(alk u.hp i).isSome=true->C.kept i=true/\i<C.n1:=λi E=>by
    obtain ⟨b,I⟩:=jan.1 E;obtain ⟨v,_,m1,_,m3,_⟩:=kca W I;exact ⟨m3,m1⟩
   have hasB:∀ i,l.has i=true->(alk u.hp i).isSome=true:=λi E=>by
    cases l with
    | bx T vs=>exact klv (by simpa [TB.all] using j2) i (by simpa [TB.has] using E)
    | _=>simp [TB.has] at E
   have hasWB:∀ i,l.hasW i=true->C.keptW i=true/\(alk u.hp i).isSome=true:=λi E=>by
    cases l with
    | bx T vs=>
     refine ⟨kjF (by simpa [TB.all] using j2) i (by simpa [TB.hasW] using E),?_⟩;exact hasB i (by have:=kjN (vs:=vs) (i:=i) (by simpa [TB.hasW] using E); simpa [TB.has] using this)
    | _=>simp [TB.hasW] at E
   have A:=kem (ln:=ln) (ln3:=ln3) R ag own j3 j1 (by rw [k1]; rfl);refine BR.ren I (λ_ _ h=>h) (λq AB H hAB=>by rw [aa q (new k1 H).1]; exact hAB) A.1 (λhw=>A.2.2.1 (j4 hw)) (λi E=>?_) (λi E=>?_)
   ·have:=ad i (hasB i E);have A2:=kem (ln:=ln) (ln3:=ln3) R ag own this.1 this.2 (hasB i E);exact ⟨A2.1,A2.2.1⟩
   ·obtain ⟨w1,w2⟩:=hasWB i E;have:=ad i w2;exact (kem (ln:=ln) (ln3:=ln3) R ag own this.1 this.2 w2).2.2.1 w1
  ·exact (R.blk id B k1).mono t F (λ_ _ h=>h) hN (R.lt id B k1) λq AB H hAB=>by
    obtain ⟨J,o2⟩:=old k1 k2 H;rw [af q o2 J]; exact hAB
 ·rcases a id B hB with ⟨p,l,k1,rfl,rfl⟩ | ⟨k1,k2⟩
  ·obtain ⟨v,e,j1,j2,j3,j4⟩:=kca W k1;exact (kem (ln:=ln) (ln3:=ln3) R ag own j3 j1 (by rw [k1]; rfl)).2.1
  ·exact jar (R.lt id B k1) hN
 ·rcases a i B E with ⟨p,l,k1,rfl,rfl⟩ | ⟨k1,k2⟩
  ·rw [G k1] at ki;rcases a j v M with ⟨U,L,l1,rfl,rfl⟩ | ⟨l1,l2⟩
   ·rw [G l1] at S;have:=Z.inj p U _ _ q (m k1) (m l1) ki S;rw [this]
   ·rw [t j (R.lt j v l1)] at S;obtain ⟨J,o2⟩:=old l1 l2 (.inl S);rcases (new k1 (.inl ki)).1 with h1 | h1
    ·exact absurd h1 J
    ·omega
  ·rw [t i (R.lt i B k1)] at ki;rcases a j v M with ⟨U,L,l1,rfl,rfl⟩ | ⟨l1,l2⟩
   ·rw [G l1] at S;obtain ⟨J,o2⟩:=old k1 k2 (.inl ki);rcases (new l1 (.inl S)).1 with h1 | h1
    ·exact absurd h1 J
    ·omega
   ·rw [t j (R.lt j v l1)] at S;exact R.inj i j _ _ q k1 l1 ki S
 ·rcases a id B hB with ⟨p,l,k1,rfl,rfl⟩ | ⟨k1,k2⟩
  ·rw [G k1] at w;exact Z.bnd p l q (m k1) w
  ·rw [t id (R.lt id B k1)] at w;exact jar (R.bnd id B q k1 w) hn
 ·rw [aa q (.inr (jcl hn H))];exact Z.hn q H
 ·simp only [kdD,kbd] at I;have ownG:∀ x∈ids,alk c.g x.2=none:=λx O=>by obtain ⟨B,hB⟩:=own x O; exact R.g _ _ hB
  cases h1:alk (u.hp.map λx=>(renC C ids s.n x.1,x.2.map (renB (renC C ids s.n)))) id with
  | some b1=>
   obtain ⟨p,b0,k1,k2,k3⟩:=kfH (renC C ids s.n) (λb:Yb (TB sem)=>b.map (renB (renC C ids s.n))) u.hp h1;obtain ⟨l,rfl,j1,j2,j3,j4⟩:=kca W k1;have A:=kem (ln:=ln) (ln3:=ln3) R ag own j3 j1 (by rw [k1]; rfl);subst k2;by_cases ab:renC C ids s.n p<s.n
   ·obtain ⟨x,O,e⟩:=A.2.2.2 ab;rw [<-e]; exact ownG x O
   ·cases hg:alk c.g (renC C ids s.n p) with
    | none=>rfl
    | some B=>exact absurd (R.lt _ B (R.g_thp hg)) ab
  | none=>
   rw [h1] at I;simp only [klp] at I;by_cases ha:ids.any (λx=>x.2==id)=true
   ·obtain ⟨x,O,e⟩:=jbq.1 ha;rw [show id=x.2 from (by simpa using e:x.2=id).symm];exact ownG x O
   ·rw [if_neg ha] at I;exact R.g id b I
 ·have renF:∀ {f:Nat->Nat} {B:TB sem},(renB f B).isF=B.isF:=λ{f B}=>by cases B <;> rfl
  have Y:∀ {p l},alk u.hp p=some (some l)->l.isF=true->lenM C s ln ln3 (renC C ids s.n p)=ln3 p:=λ{p l} hB Q=>by
   obtain ⟨v,e,k1,k2,k3,k4⟩:=kca W hB;cases e;exact (kem (ln:=ln) (ln3:=ln3) R ag own k3 k1 (by rw [hB]; rfl)).2.2.1 (k4 (by cases l <;> simp_all [TB.isF,TB.needL]))
  rcases a id B hB with ⟨p,l,k1,rfl,rfl⟩ | ⟨k1,k2⟩
  ·rw [renF] at Q;obtain ⟨f1,f2⟩:=Z.fam p l (m k1) Q;rw [Y k1 Q];refine ⟨f1,λr hr=>?_⟩;obtain ⟨g1,g2,g3,g4⟩:=f2 r hr;have nw:=(new k1 (.inr ⟨Q,hr⟩)).1;refine ⟨g1,rfl,λj v M w=>?_,λj v M D y=>?_⟩
   ·rcases a j v M with ⟨U,L,l1,rfl,rfl⟩ | ⟨l1,l2⟩
    ·rw [G l1] at w; exact g3 U _ (m l1) w
    ·rw [t j (R.lt j v l1)] at w;obtain ⟨J,o2⟩:=old l1 l2 (.inl w);rcases nw with h1 | h1
     ·exact J h1
     ·omega
   ·rcases a j v M with ⟨U,L,l1,rfl,rfl⟩ | ⟨l1,l2⟩
    ·rw [renF] at D;rw [Y l1 D] at y;rw [g4 U _ (m l1) D y]
    ·rw [F j (R.lt j v l1)] at y;obtain ⟨J,o2⟩:=old l1 l2 (.inr ⟨D,y⟩);rcases nw with h1 | h1
     ·exact absurd h1 J
     ·omega
  ·obtain ⟨f1,f2⟩:=R.fam id B k1 Q;rw [F id (R.lt id B k1)];refine ⟨f1,λr hr=>?_⟩;obtain ⟨g1,g2,g3,g4⟩:=f2 r hr;obtain ⟨J,o2⟩:=old k1 k2 (.inr ⟨Q,hr⟩);refine ⟨by omega,rfl,λj v M w=>?_,λj v M D y=>?_⟩
   ·rcases a j v M with ⟨U,L,l1,rfl,rfl⟩ | ⟨l1,l2⟩
    ·rw [G l1] at w;rcases (new l1 (.inl w)).1 with h1 | h1
     ·exact J h1
     ·omega
    ·rw [t j (R.lt j v l1)] at w; exact g3 j v l1 w
   ·rcases a j v M with ⟨U,L,l1,rfl,rfl⟩ | ⟨l1,l2⟩
    ·rw [renF] at D;rw [Y l1 D] at y;rcases (new l1 (.inr ⟨D,y⟩)).1 with h1 | h1
     ·exact absurd h1 J
     ·omega
    ·rw [F j (R.lt j v l1)] at y; exact g4 j v l1 D y
end
section
variable {P:Ye} {κ:Nat->Yb Nat} {ln:Nat->Nat} {z:AH} {c:Cx sem} {s:TS sem} {env:Env} {h:AH} {n:Nat}
theorem BR.nil_ln {N id:Nat} {B:TB sem} (a:BR P κ ln z h N id B) (b:κ id=none):ln id=0:=by
 cases a <;> simp_all
theorem AL.length {l:Ya ((t:Ty)×t.den)} {asZ:Ya AV} (h:AL P l asZ):asZ.length=l.length:=by induction h <;> simp [*]
theorem krx {N:Nat}:∀ {vs:Ya (TV sem)} {asZ:Ya AV},vs.length=asZ.length->(∀ (i:Nat) v a,vs[i]?=some v->asZ[i]?=some a->TVR P κ ln z N v a)->TVRs P κ ln z N vs asZ
 | [],[],_,_=>.nil
 | [],_::_,h,_=>by simp at h
 | _::_,[],h,_=>by simp at h
 | v::vs,a::asZ,h,hv=>.cons _ _ _ _ (hv 0 v a rfl rfl) (krx (by simpa using h) λi v a h1 h2=>hv (i+1) v a (by simpa using h1) (by simpa using h2))
theorem kwb {N:Nat} {C:CtrM} {u:TS sem} {f:Nat->Nat} {asZ:Ya AV} (h:TVRs P κ ln z N ((List.range C.nr).map λi=>renV f ((alk u.env (1000000+i)).getD .un)) asZ):TVR P κ ln z N (resT C u f) (tpA asZ):=by
 unfold resT;generalize (List.range C.nr).map (λi=>renV f ((alk u.env (1000000+i)).getD .un))=l at h;cases h with
 | nil=>exact .tp _ _ .nil
 | cons v a vs asZ h hs=>cases hs with
  | nil=>exact h
  | cons k a' j e h' b=>exact .tp _ _ (.cons _ _ _ _ h (.cons _ _ _ _ h' b))
theorem krg:∀ (vs:Ya AV) (k i:Nat) (E:Env),i<1000000->lk ((vs.zipIdx k).map (λx=>(1000000+x.2,x.1))++E) i=lk E i
 | [],k,i,E,h=>by simp
 | v::vs,k,i,E,h=>by
  simp only [jct,jat,jdj,lk];rw [if_neg (by omega),krg vs (k+1) i E h]
theorem ksg {g:FuncId} {C:CtrM} (hG:GoodM P g C) (ad:C.ok=true) (R:Rel P κ ln z c s env h n) (az:s.dy=false) {args:Ya (TV sem)} {asZ:Ya AV} (M:TVRs P κ ln z s.n args asZ) (U:args.length=C.ks.length)
  {l:Ya ((t:Ty)×t.den)} {bs:Ya AV} (hl:l.length=(C.ks.filterMap id).length) (hA:AL P l bs) {ids:Ya Nat} (hS:SnapL (hz (ows κ ln c s) h z ids) (pureA C.ks asZ) bs) (ab:∀ id∈ids,∃ B,thp c s id=some B) {m:Mt sem} (hm:packM ⟨[],c.g⟩ C.n0 C.inp ⟨patE C.ks args 0,s.hp,s.n,s.dy⟩=some m) (ar:m.sn=[]) (Q:m.ids.all (λx=>(ownB s x.2).isSome&&(alk C.inp.hp x.1).isSome&&(alk m.ids x.1==some x.2))=true) (ak:ids.all (λid=>m.ids.all λx=>x.2 != id)=true)
  {a:(tup (C.ks.filterMap id++C.inp.tys)).den} (ha:mkT sem (C.ks.filterMap id++C.inp.tys) (l++m.cs)=some a) {y:C.out.ty.den} (hy:C.F a=some y) (hu:C.okU (kad (A:=sem) C.out C.n1 y)=true) (I:(ids.isEmpty||C.okF (kad (A:=sem) C.out C.n1 y))=true) {K:K3}
  (hK:∀ v h' n' κ' ln',Ke c s.n κ ln κ' ln'->Rel P κ' ln' ahN c (kdD C s (kad C.out C.n1 y) m.ids) env h' n'->TVR P κ' ln' ahN (kdD C s (kad (A:=sem) C.out C.n1 y) m.ids).n (resT C (kad C.out C.n1 y) (renC C m.ids s.n)) v->(∀ q,q<n->h' q=h q\/∃ x∈m.ids,(∃ B,thp c s x.2=some B)/\q∈ows κ ln c s x.2)->K v h' n'):HC P g asZ h n K:=by
 have aq:=R.dy az;subst aq;have ap:asZ.length=C.ks.length:=by rw [M.len]; exact U
 have ax:bs.length=(C.ks.filterMap id).length:=by rw [AL.length hA]; exact hl
 obtain ⟨m1,m2,m3⟩:=kkS C.ks ap hA hl hS;have R1:Rel P κ ln ahN ⟨[],c.g⟩ ⟨patE C.ks args 0,s.hp,s.n,s.dy⟩ (kar (kbF C.ks bs asZ)) h n:=by
  refine ⟨λx=>?_,R.blk,R.lt,R.inj,R.zin,R.zout,R.bnd,R.hn,λx v w=>rfl,R.g,R.dy,R.zk,R.fam⟩;have:=knb (P:=P) (κ:=κ) (ln:=ln) (z:=ahN) (N:=s.n) C.ks 0 M U ax x;unfold tlk kar;cases hh:alk (patE C.ks args 0) x with
  | some v=>rw [hh] at this; exact this
  | none=>exact .un _
 obtain ⟨κ2,ln2,R2,q1,q2,q3,q4⟩:=knK R1 hm ar rfl;have G:∀ x∈m.ids,∃ B,alk s.hp x.2=some (some B):=λx w=>by
  have:=jap.1 Q x w;cases ho:ownB s x.2 with
  | none=>simp [ho] at this
  | some B=>exact ⟨B,kbC ho⟩
 have aw:∀ x∈m.ids,(alk C.inp.hp x.1).isSome=true:=λx w=>by
  have:=jap.1 Q x w;simp only [jad] at this;exact this.1.2
 have aa:∀ p,(alk C.inp.hp p).isSome=true->∃ B,alk (kak (A:=sem) C.inp C.n0 m.cs).hp p=some (some B):=λp hp=>by
  rw [<-q4 p] at hp;obtain ⟨b,hb⟩:=jan.1 hp;obtain ⟨B,q,B0,rfl,_⟩:=q2 p b hb;exact ⟨B,hb⟩
 have ay:∀ id B,thp (⟨[],[]⟩:Cx sem) (offD (kak (A:=sem) C.inp C.n0 m.cs)) id=some B->alk (kak (A:=sem) C.inp C.n0 m.cs).hp id=some (some B):=λid B hB=>by
  unfold thp at hB;rw [show (offD (kak (A:=sem) C.inp C.n0 m.cs)).hp=(kak (A:=sem) C.inp C.n0 m.cs).hp from rfl] at hB;cases hh:alk (kak (A:=sem) C.inp C.n0 m.cs).hp id with
  | some b=>rw [hh] at hB; exact congrArg some hB
  | none=>rw [hh] at hB; cases hB
 have W:∀ id,(alk C.inp.hp id).isSome=true->id∈C.inp.hp.map (·.1):=λid k=>by
  obtain ⟨b,hb⟩:=jan.1 k;exact jba.2 ⟨_,kau hb,rfl⟩
 have af:∀ id,id∈C.inp.hp.map (·.1)->(alk C.inp.hp id).isSome=true:=λid k=>by
  obtain ⟨x,w,rfl⟩:=jba.1 k;generalize C.inp.hp=L at w;induction L with
  | nil=>cases w
  | cons y L ih=>
   simp only [alk];split
   ·rfl
   ·rename_i e;rcases jbi.1 w with rfl | w
    ·exact absurd rfl e
    ·exact ih w
 generalize Y:ows κ2 ln2 (⟨[],[]⟩:Cx sem) (offD (kak (A:=sem) C.inp C.n0 m.cs))=o2;have R3:=R2.cut (h2:=hz o2 h ahN (C.inp.hp.map (·.1))) (λid B q hB E=>hz_in (W id (by rw [<-q4 id,ay id B hB]; rfl)) (by rw [<-Y]; exact kjB hB E)) (λq hq=>by
  unfold hz; split
  ·exact R.hn q hq
  ·rfl)
 have hc:=hG a y hy l m.cs (kmz _ _ _ ha) hl κ2 ln2 _ n _ m2 R3;have D:∀ i,((C.inp.hp.map (·.1)).flatMap o2).contains i=true->∃ x∈m.ids,i∈ows κ ln c s x.2:=λi k=>by
  obtain ⟨id,J,E⟩:=List.mem_flatMap.1 (jbw.1 k);obtain ⟨B,hB⟩:=aa id (af id J);rw [<-Y] at E;have E:=kci (kab (s:=offD (kak (A:=sem) C.inp C.n0 m.cs)) hB) E;obtain ⟨_,q,B0,eB,S,e3,e4⟩:=q2 id _ hB;cases eB;obtain ⟨f1,f2,f3⟩:=q1 id q S;refine ⟨_,kau S,kjB (kab e3) ?_⟩;unfold Ow at E ⊢;rw [<-f1,<-f2,<-e4]; exact E
 refine HC.frm4 (hL:=hz (ows κ ln c s) h ahN ids) ((C.inp.hp.map (·.1)).flatMap o2) (λi B k=>?_) m1 m3 (λi B k=>?_) (λi k=>?_) R.hn (λv h' n'=>kup hu) ?_ hc ?_
 ·refine ⟨kcH (λq B hq=>by cases hq) i B k,?_⟩;cases H:((C.inp.hp.map (·.1)).flatMap o2).contains i with
  | false=>rfl
  | true=>
   obtain ⟨x,w,E⟩:=D i H;unfold hz at k;split at k
   ·rename_i O;obtain ⟨id,J,au⟩:=jbq.1 O;obtain ⟨B1,hB1⟩:=ab id J;obtain ⟨B2,hB2⟩:=G x w;have e:=R.owI (kab hB2) hB1 (kci (kab hB2) E) (kci hB1 (by simpa using au));have:=jap.1 (jap.1 ak id J) x w;rw [e] at this; simp at this
   ·cases k
 ·unfold hz at k;split at k
  ·rename_i O;obtain ⟨id,J,E⟩:=jbq.1 O;exact ⟨jbw.2 (List.mem_flatMap.2 ⟨id,J,by simpa using E⟩),k⟩
  ·cases k
 ·obtain ⟨x,w,E⟩:=D i k;obtain ⟨B,hB⟩:=G x w;exact R.owN (kab hB) (kci (kab hB) E)
 ·rw [jbe] at I;rcases I with I | I
  ·left;have:ids=[]:=by simpa [jcw] using I
   rw [this,kaP]
  ·right;exact λv h' n'=>ksB hu I
 ·rintro v h2 n2 ⟨κ3,ln3,vs,al,rfl,R4,aB,ac⟩ aA ae;have Z:∀ i,(∃ x∈m.ids,i∈ows κ ln c s x.2)->((C.inp.hp.map (·.1)).flatMap o2).contains i=true:=λi ⟨x,w,E⟩=>by
   have am:=aw x w;obtain ⟨B,hB⟩:=aa x.1 am;obtain ⟨_,q,B0,eB,S,e3,e5⟩:=q2 x.1 _ hB;cases eB;refine jbw.2 (List.mem_flatMap.2 ⟨x.1,W _ am,?_⟩);have e4:alk m.ids x.1=some x.2:=by
    have:=jap.1 Q x w;simp only [jad,beq_iff_eq] at this;exact this.2
   rw [S] at e4; cases e4;obtain ⟨f1,f2,f3⟩:=q1 _ _ S;have E:=kci (kab e3) E;rw [<-Y];refine kjB (kab (s:=offD (kak (A:=sem) C.inp C.n0 m.cs)) hB) ?_;unfold Ow at E ⊢;rw [f1,f2,e5]; exact E
  simp only [CtrM.ok,jad,jak] at ad;obtain ⟨⟨aD,aE⟩,aC⟩:=ad;have ag:∀ p,p<C.n0->C.kept p=true->(alk (kad (A:=sem) C.out C.n1 y).hp p).isSome=true->∃ q,alk m.ids p=some q/\κ3 p = κ q/\(C.keptW p=true->ln3 p=ln q):=λp hp E aj=>by
   obtain ⟨s1,s2⟩:=ksG (C:=C) R3 R4 (λi k=>krg vs 0 i _ (by omega)) (λi pv k v T=>khO (t:=offD (kak (A:=sem) C.inp C.n0 m.cs)) (kiW C.inp.env m.cs i pv v k T)) (λi pv k v T=>khO (t:=offD (kad (A:=sem) C.out C.n1 y)) (kiW C.out.env _ i pv v k T)) ac hp;obtain ⟨t1,t2⟩:=s1 E;obtain ⟨B,hB⟩:=aa p t1;obtain ⟨_,q,B0,_,S,e3,_⟩:=q2 p _ hB;obtain ⟨f1,f2,f3⟩:=q1 p q S;refine ⟨q,S,t2.trans f1,λhw=>?_⟩;by_cases X:κ2 p=none
   ·obtain ⟨b2,ah⟩:=jan.1 aj;obtain ⟨B2,rfl,_⟩:=kca hu ah;rw [BR.nil_ln (R4.blk p B2 (kab (s:=offD (kad (A:=sem) C.out C.n1 y)) ah)) (t2.trans X),<-f2,BR.nil_ln (R3.blk p B (kab (s:=offD (kak (A:=sem) C.inp C.n0 m.cs)) hB)) X]
   ·rw [s2 hw X,f2]
  have an:n<=n2:=aA;have hR:=ktA (h':=λi=>if ((C.inp.hp.map (·.1)).flatMap o2).contains i||decide (n<=i) then h2 i else h i) R hu R4 an ag G (λi B hB=>?_) (λi k=>?_) (λi k w=>?_)
  ·refine hK _ _ _ _ _ (λid k=>⟨by unfold kapM; rw [if_pos k],λ_=>by unfold lenM; rw [if_pos k]⟩) hR ?_ λq hq=>by
    cases H:((C.inp.hp.map (·.1)).flatMap o2).contains q with
    | false=>left; simp only [H,jda]; rw [if_neg (by simp; omega)]
    | true=>obtain ⟨x,w,ao⟩:=D q H; obtain ⟨B,hB⟩:=G x w; exact .inr ⟨x,w,⟨B,kab hB⟩,ao⟩
   refine kwb ?_;refine krx (by simp [al]) λi v a T ha=>?_;have k:i<C.nr:=by rw [<-al]; exact (jae.1 ha).1
   rw [jas,List.getElem?_range k] at T;cases T;obtain ⟨v,h1,h2⟩:=kmF hu k;show TVR P _ _ _ _ (renV _ ((alk (kad (A:=sem) C.out C.n1 y).env (1000000+i)).getD .un)) a;rw [h1,jcc];have T:=R4.env (1000000+i);have e1:tlk (⟨[],[]⟩:Cx sem) (offD (kad (A:=sem) C.out C.n1 y)) (1000000+i)=v:=khO (t:=offD (kad (A:=sem) C.out C.n1 y)) h1;rw [e1] at T;have S:lk (resE vs++kar (kbF C.ks bs asZ)) (1000000+i)=a:=by
    have:=klE vs 0 i (kar (kbF C.ks bs asZ)) (jdq _);rw [Nat.sub_zero,ha] at this;exact this
   rw [S] at T;have ai:∀ i,(alk (kad (A:=sem) C.out C.n1 y).hp i).isSome=true->C.kept i=true/\i<C.n1:=λi k=>by
    obtain ⟨b,hb⟩:=jan.1 k;obtain ⟨B',_,m1,_,m3,_⟩:=kca hu hb;exact ⟨m3,m1⟩
   refine T.ren (λ_ _ h=>h) (λj hj=>?_) (λj hj=>?_)
   ·have h3:=kmP h2 j hj;have:=ai j h3;have A2:=kem (C:=C) (u:=kad (A:=sem) C.out C.n1 y) (ids:=m.ids) (ln:=ln) (ln3:=ln3) R ag G this.1 this.2 h3;exact ⟨A2.1,A2.2.1⟩
   ·have h3:=kmP h2 j (koN hj);have:=ai j h3;exact (kem (C:=C) (u:=kad (A:=sem) C.out C.n1 y) (ids:=m.ids) (ln:=ln) (ln3:=ln3) R ag G this.1 this.2 h3).2.2.1 (kpd h2 j hj)
  ·rcases ae i B hB with h1 | h1
   ·exact .inl (D i h1)
   ·exact .inr h1.1
  ·show (if _ then _ else _)=_;rw [if_pos];rw [jbe,jak];rcases k with h1 | h1
   ·exact .inl (Z i h1)
   ·exact .inr h1
  ·show (if _ then _ else _)=_;rw [if_neg];rw [jbe,jak];rintro (h1 | h1)
   ·exact w (D i h1)
   ·omega
end
section
variable (P:Ye)
def AR:(ts:Ya Ty)->(tup ts).den->Ya AV->Prop
 | [],_,l=>l=[]
 | [t],x,l=>∃ a,l=[a]/\A1 P t x a
 | t::u::ts,x,l=>∃ a l',l=a::l'/\A1 P t x.1 a/\AR (u::ts) x.2 l'
def avsL:(ts:Ya Ty)->(tup ts).den->Ya AV
 | [],_=>[]
 | [t],x=>[t.av x]
 | t::u::ts,x=>t.av x.1::avsL (u::ts) x.2
def rav (rs:Ya Ty) (x:(tup rs).den):AV:=
 match rs with
 | [t]=>t.av x
 | rs=>.tp (avsL rs x)
def GoodI (g:FuncId) (I:CtrI) (own:Bool:=false):Prop:=I.ts.all Ty.dat=true/\∀ x xs,I.F x=some xs->∀ l,AR P I.asZ x l->IT P g l (xs.map λy=>avsL I.ts y) own
def NowOk (g:FuncId) (k e:Nat):Prop:=∀ (h:AH) (n q S a w:Nat) (T:Yc) (asZ:Ya AV) (es:Ya (Ya AV)),h q=some (.cells a T [asZ])->asZ[k]?=some (.ms S 0 es.length)->h S=some (.cells w e es)->es≠[]->es.length<=9223372036854775807->w=P.cellsOf e->w≠0->asZ.length=a->
 HC P g [.own q 0 0] h n (λv h' n'=>v = .own S (es.length-1) 0/\h'=h/\n'=n)
def Good (g:FuncId) (C:Ctr):Prop:=C.rs.all Ty.dat=true/\(∀ x r,C.F x=some r->∀ l,AR P C.asZ x l->PC P g l (·= rav C.rs r))/\(∀ M∈C.mus,M.ok=true/\GoodM P g M)/\match C.now with | none=>∀ I∈C.its,GoodI P g I C.own | some ke=>NowOk P g ke.1 ke.2
variable {P} in
theorem Good.its {g:FuncId} {C:Ctr} (h:Good P g C):∀ I∈C.its,GoodI P g I C.own:=by
 have b:=h.2.2.2;split at b
 ·exact b
 ·rename_i ke a;unfold Ctr.now at a;split at a
  ·rename_i e; rw [e]; intro I hI; cases hI
  ·cases a
variable {P} in
theorem Good.nowOk {g:FuncId} {C:Ctr} (h:Good P g C) {ke:Nat×Nat} (hn:C.now=some ke):NowOk P g ke.1 ke.2:=by
 have a:=h.2.2.2;rw [hn] at a;exact a
inductive Goods:List (FuncId×Ctr)->Prop
 | nil:Goods []
 | cons {g:FuncId} {C:Ctr} {l:List (FuncId×Ctr)} (h:Good P g C) (hl:Goods l):Goods ((g,C)::l)
end
section
variable {P:Ye} {κ κ':Nat->Yb Nat} {ln ln':Nat->Nat} {z z':AH} {c:Cx sem} {s:TS sem} {env:Env} {h h':AH} {n n' N N':Nat}
variable {ρ:Ty} {Kf:TV sem->TS sem->sem.Ans ρ} {r:ρ.den}
variable {d:Yb Tmp} {ty:Yc} {pos:String} {after:Array Edge} {g:Yb (Nat×Bool)}
theorem Goods.at {Δ:Ya (FuncId×Ctr)} (i:Goods P Δ):∀ {f:FuncId} {C:Ctr},alk Δ f=some C->Good P f C:=by
 induction i with
 | nil=>intro f C a; simp [alk] at a
 | cons h hl b=>
  intro f C a;simp only [alk] at a;split at a
  ·rename_i e; cases a; subst e; exact h
  ·exact b a
theorem AL.append {l l':Ya ((t:Ty)×t.den)} {asZ a:Ya AV} (h:AL P l asZ) (h':AL P l' a):AL P (l++l') (asZ++a):=by
 induction h with
 | nil=>exact h'
 | cons h1 _ b=>exact .cons h1 b
theorem kaI {t:Ty} {x:t.den} {a:AV} (b:t.dat=true):A1 P t x a↔a=t.av x:=by
 cases t <;> first | (simp [Ty.dat] at b; done) | exact ⟨λh=>h.2,λh=>⟨b,h⟩⟩
theorem krN {t t':Ty} (e:t'=t) {x:t'.den} {a:AV} (h:A1 P t' x a):A1 P t (e ▸ x) a:=by subst e; exact h
theorem kfy:∀ (ts:Ya Ty) (l:Ya ((t:Ty)×t.den)) (asZ:Ya AV) (x:(tup ts).den),AL P l asZ->mkT sem ts l=some x->AR P ts x asZ:=by
 intro ts;induction ts with
 | nil=>
  intro l asZ x hl h;cases hl with
  | nil=>exact rfl
  | cons h1 hl=>exact kaa (r:=x) h
 | cons t ts i=>
  intro l asZ x hl h;cases ts with
  | nil=>
   cases hl with
   | nil=>exact kaa (r:=x) h
   | cons h1 hl=>
    cases hl with
    | nil=>
     obtain ⟨e,rfl⟩:=kaj h;exact ⟨_,rfl,krN e h1⟩
    | cons h2 hl=>exact kaa (r:=x) h
  | cons u ts=>
   cases hl with
   | nil=>exact kaa (r:=x) h
   | cons h1 hl=>
    rw [kre] at h;obtain ⟨k,b,h⟩:=jaa.1 h;obtain ⟨j,a,rfl⟩:=jac.1 h;obtain ⟨e,rfl⟩:=kaj b;exact ⟨_,_,rfl,krN e h1,i _ _ _ hl a⟩
theorem kjI:∀ {ts:Ya Ty} {x:(tup ts).den} {asZ:Ya AV},ts.all Ty.dat=true->AR P ts x asZ->asZ=avsL ts x
 | [],_,_,_,h=>h
 | [t],x,_,hd,h=>by
  obtain ⟨a,rfl,h1⟩:=h;rw [(kaI (by simpa using hd)).1 h1]; rfl
 | t::u::ts,x,_,hd,h=>by
  obtain ⟨a,l',rfl,h1,h2⟩:=h;rw [jdx,jad] at hd;rw [(kaI hd.1).1 h1,kjI hd.2 h2]; rfl
theorem ksW:∀ {ts:Ya Ty} (x:(tup ts).den),ts.all Ty.dat=true->AL P (unT sem ts x) (avsL ts x)
 | [],_,_=>.nil
 | [t],x,hd=>.cons ((kaI (by simpa using hd)).2 rfl) .nil
 | t::u::ts,x,hd=>by
  rw [jdx,jad] at hd;exact .cons ((kaI hd.1).2 rfl) (ksW (ts:=u::ts) x.2 hd.2)
theorem kig:∀ (m:Nat) (ts:Ya Ty) (x:Ty) (e:tup ts=x) (v:(tup ts).den),ts.length=m->avsN m x (e ▸ v)=avsL ts v
 | 0,[],_,rfl,v,_=>rfl
 | 1,[t],_,rfl,v,_=>rfl
 | m+2,t::u::ts,_,rfl,v,hl=>by
  show t.av v.1::avsN (m+1) (tup (u::ts)) v.2=t.av v.1::avsL (u::ts) v.2;rw [<-kig (m+1) (u::ts) _ rfl v.2 (by simpa using hl)]
theorem knG:∀ (m:Nat) (ts:Ya Ty),ts.length=m->untup m (tup ts)=ts
 | 0,[],_=>rfl
 | 1,[t],_=>rfl
 | m+2,t::u::ts,hl=>by
  show t::untup (m+1) (tup (u::ts))=_;rw [knG (m+1) (u::ts) (by simpa using hl)]
theorem kuX {l:Ya ((t:Ty)×t.den)} {asZ:Ya AV} (h:AL P l asZ) (b:∀ p∈l,p.1.dat=true):FreeL asZ:=by
 induction h with
 | nil=>intro a i; cases i
 | @cons p a l asZ h1 _ j=>
  have:=b p (by simp);rw [kbV];exact ⟨by rw [(kaI this).1 h1]; exact kfX _ _ this,j λq e=>b q (by simp [e])⟩
theorem kdP (R:Rel P κ ln z c s env h n):∀ (ts:Ya Ty) (vs:Ya (TV sem)) (asZ:Ya AV) {l:Ya ((t:Ty)×t.den)} {ids:Ya Nat},TVRs P κ ln z s.n vs asZ->snapM (A:=sem) c s ts vs=some (l,ids)->
  ∃ e,AL P l e/\SnapL (hz (ows κ ln c s) h z ids) asZ e/\(∀ id∈ids,∃ B,thp c s id=some B)/\l.map (·.1)=ts/\∀ p∈l,p.1.dat=true
 | [],[],_,l,ids,.nil,hs=>by cases hs; exact ⟨[],.nil,.nil,λid b=>by simp at b,rfl,λp hp=>by simp at hp⟩
 | [],_::_,_,l,ids,_,hs=>by simp [snapM] at hs
 | _::_,[],_,l,ids,_,hs=>by simp [snapM] at hs
 | t::ts,v::vs,_,l,ids,.cons _ a _ asZ hv hvs,hs=>by
  simp only [snapM,jaa,jac] at hs;obtain ⟨⟨x,i⟩,y,⟨l',i2⟩,hl,D⟩:=hs;cases D;obtain ⟨j,h1,h2⟩:=kbc R hv y;obtain ⟨e,g1,m,E,u,C⟩:=kdP R ts vs asZ hvs hl;have w:=kcb (o:=ows κ ln c s) (h:=h) (z:=z) (ids:=i) (ids':=i++i2) R.zin (λid b=>by simp [b]);have k:=kcb (o:=ows κ ln c s) (h:=h) (z:=z) (ids:=i2) (ids':=i++i2) R.zin (λid b=>by simp [b]);refine ⟨t.av x::e,.cons ((kaI j).2 rfl) g1,.cons (h1.mono w) (m.mono k),λid b=>?_,by simp [u],λp hp=>?_⟩
  ·rcases jay.1 b with b | b
   ·exact h2 id b
   ·exact E id b
  ·rcases jbi.1 hp with rfl | hp
   ·exact j
   ·exact C p hp
theorem TVR.fn_inv {g:FuncId} {vs:Ya (TV sem)} {a:AV} (h:TVR P κ ln z N (.fn g vs) a):∃ asZ,a = .fn g asZ/\TVRs P κ ln z N vs asZ:=by
 cases h with | fn _ _ asZ h=>exact ⟨asZ,rfl,h⟩
theorem kqN {C:Ctr} {f:FuncId} (hC:Good P f C) {m:Nat} {x y:Ty} {i:Ya ((t:Ty)×t.den)} {asZ:Ya AV} {F:x.den->Yb y.den} (e:AL P i asZ) (w:∀ p∈i,p.1.dat=true) (G:m<=C.asZ.length) (hF:mkClo sem C m x y i=some F):CV P m x y F (.fn f asZ):=by
 unfold mkClo at hF;split at hF
 ·rename_i B;split at hF
  ·rename_i u;split at hF
   ·rename_i j;cases hF;have b:(C.asZ.take m).length=m:=by rw [jbh]; omega
    subst B;have k:=knG m (C.asZ.take m) b;refine ⟨f,asZ,rfl,kuX e w,by rw [k,b],by rw [k]; exact j,?_,λv r hr=>?_⟩
    ·have:=hC.1; rw [u] at this; simpa using this
    ·dsimp only at hr;split at hr
     ·rename_i a D;obtain ⟨r',l,hr⟩:=jaa.1 hr;cases hr;have hAR:=kfy _ _ _ _ (AL.append (ksW v j) e) D;rw [kig m _ _ rfl v b];obtain ⟨nm,A,rs,E,mus⟩:=C;simp only at u;subst u;exact hC.2.1 a r l _ hAR
     ·cases hr
   ·cases hF
  ·cases hF
 ·cases hF
theorem kqC {Δ:Ya (FuncId×Ctr)} (I:Goods P Δ) (R:Rel P κ ln z c s env h n) {t:Ty} {v:TV sem} {a:AV} {x:t.den} {ids:Ya Nat} (k:TVR P κ ln z s.n v a) (hs:snapA (A:=sem) c Δ s t v=some (x,ids)) :
  ∃ a',A1 P t x a'/\Snap (hz (ows κ ln c s) h z ids) a a'/\∀ id∈ids,∃ B,thp c s id=some B:=by
 have dat:∀ {t:Ty} {x:t.den},snapV (A:=sem) c s t v=some (x,ids)->∃ a',A1 P t x a'/\Snap (hz (ows κ ln c s) h z ids) a a'/\∀ id∈ids,∃ B,thp c s id=some B:=λhs=>by
  obtain ⟨u,h1,h2⟩:=kbc R k hs;exact ⟨_,(kaI u).2 rfl,h1,h2⟩
 unfold snapA at hs;split at hs
 ·split at hs
  ·simp only [jac] at hs;obtain ⟨y,E,i⟩:=hs;cases i;obtain ⟨e,rfl⟩:=kaj E;cases e;cases k with
   | cv _ _ _ _ _ J=>
    obtain ⟨f,asZ,rfl,p,b⟩:=J;exact ⟨.fn f asZ,⟨f,asZ,rfl,p,b⟩,.free _ ((kfa _ _).2 p),λid G=>by simp at G⟩
  ·simp only [jaa] at hs;obtain ⟨C,hC,hs⟩:=hs;split at hs
   ·rename_i m;simp only [jaa,jac] at hs;obtain ⟨⟨l,ids'⟩,hl,F,hF,i⟩:=hs;cases i;obtain ⟨asZ,rfl,j⟩:=k.fn_inv;obtain ⟨w,g1,D,L,M,H⟩:=kdP R _ _ asZ j hl;exact ⟨_,kqN (I.at hC) g1 H (by omega) hF,Snap.fnL D,L⟩
   ·cases hs
  ·cases hs
 ·exact dat hs
theorem kdm {Δ:Ya (FuncId×Ctr)} (j:Goods P Δ) (R:Rel P κ ln z c s env h n):∀ (ts:Ya Ty) (vs:Ya (TV sem)) (asZ:Ya AV) {l:Ya ((t:Ty)×t.den)} {ids:Ya Nat},TVRs P κ ln z s.n vs asZ->kcg (A:=sem) c Δ s ts vs=some (l,ids)->
  ∃ e,AL P l e/\SnapL (hz (ows κ ln c s) h z ids) asZ e/\(∀ id∈ids,∃ B,thp c s id=some B)
 | [],[],_,l,ids,.nil,hs=>by cases hs; exact ⟨[],.nil,.nil,λid b=>by simp at b⟩
 | [],_::_,_,l,ids,_,hs=>by simp [kcg] at hs
 | _::_,[],_,l,ids,_,hs=>by simp [kcg] at hs
 | t::ts,v::vs,_,l,ids,.cons _ a _ asZ hv hvs,hs=>by
  simp only [kcg,jaa,jac] at hs;obtain ⟨⟨x,i⟩,u,⟨l',i2⟩,hl,w⟩:=hs;cases w;obtain ⟨a',k1,h1,h2⟩:=kqC j R hv u;obtain ⟨e,g1,m,y⟩:=kdm j R ts vs asZ hvs hl;have p:=kcb (o:=ows κ ln c s) (h:=h) (z:=z) (ids:=i) (ids':=i++i2) R.zin (λid b=>by simp [b]);have k:=kcb (o:=ows κ ln c s) (h:=h) (z:=z) (ids:=i2) (ids':=i++i2) R.zin (λid b=>by simp [b]);refine ⟨a'::e,.cons k1 g1,.cons (h1.mono p) (m.mono k),λid b=>?_⟩;rcases jay.1 b with b | b
  ·exact h2 id b
  ·exact y id b
theorem kod:∀ (ts:Ya Ty) (x:(tup ts).den),ts.all Ty.flat=true->FlatL (avsL ts x)
 | [],_,_=>by intro a b; cases b
 | [t],x,h=>by intro a b; simp [avsL] at b; subst b; exact keR t x (by simpa using h)
 | t::u::ts,x,h=>by
  rw [jdx,jad] at h;intro a b;rcases jbi.1 b with rfl | b
  ·exact keR t x.1 h.1
  ·exact kod (u::ts) x.2 h.2 a b
theorem kpj (rs:Ya Ty) (x:(tup rs).den) (h:rs.all Ty.flat=true):Flat (rav rs x):=by
 unfold rav;split
 ·exact keR _ _ (by simpa using h)
 ·exact (kvd _).2 (kod _ _ h)
theorem kiq:∀ (ts:Ya Ty) (x:(tup ts).den),ts.all Ty.dat=true->TVRs P κ ln z N ((unT sem ts x).map λy=>TV.c y.1 y.2) (avsL ts x)
 | [],_,_=>.nil
 | [t],x,h=>.cons _ _ _ _ (.free (by simpa using h)) .nil
 | t::u::ts,x,h=>by
  rw [jdx,jad] at h;exact .cons _ _ _ _ (.free h.1) (kiq (u::ts) x.2 h.2)
theorem kjj (rs:Ya Ty) (x:(tup rs).den) (h:rs.all Ty.dat=true):TVR P κ ln z N (tvR (A:=sem) rs x) (rav rs x):=by
 match rs,x,h with
 | [],x,h=>exact .tp _ _ (kiq [] x h)
 | [t],x,h=>exact .free (by simpa using h)
 | t::u::ts,x,h=>exact .tp _ _ (kiq (t::u::ts) x h)
theorem Rel.eat (R:Rel P κ ln z c s env h n) {ids:Ya Nat} {s':TS sem} (v:z=λ_=>none) (hs:Abs.retire s ids=some s'):Rel P κ ln z c { s' with dy:=false } env (λq=>if (ids.flatMap (ows κ ln c s)).contains q then none else h q) n:=by
 obtain ⟨l,C,w,G,D,E⟩:=R.retire hs;have live:∀ id B q,thp c s' id=some B->Ow κ ln id B q->(ids.flatMap (ows κ ln c s)).contains q=false:=λid B q hB m=>by
  cases e:(ids.flatMap (ows κ ln c s)).contains q with
  | false=>rfl
  | true=>
   rw [jbw] at e;obtain ⟨j,u,t⟩:=List.mem_flatMap.1 e;have hz:=l.owZ hB m;rw [hz_in u t] at hz;obtain ⟨Bj,hBj⟩:=D j u;exact absurd hz ((R.blk j Bj (kab hBj)).live (kci (kab hBj) t))
 subst v;have sub:∀ id B,thp c s' id=some B->thp c s id=some B:=λid B hB=>by
  unfold Abs.retire at hs;split at hs
  ·cases hs;unfold thp at hB ⊢;rw [kcF] at hB;split at hB
   ·rename_i b a;split at a
    ·cases a; cases hB
    ·rw [a]; exact hB
   ·rename_i a;split at a
    ·cases a
    ·rw [a]; exact hB
  ·cases hs
 have F:∀ id,thp c { s' with dy:=false } id=thp c s' id:=λ_=>rfl;refine ⟨λx=>?_,λid B hB=>?_,λid B hB=>l.lt id B hB,λi j B y q A u=>l.inj i j B y q A u,(λq B p=>by cases p),λ_ _ _ _ _=>rfl,λid B q hB m=>l.bnd id B q hB m,λq p=>?_,l.e0,l.g,λ_=>rfl,(λq k T es p=>by cases p),l.fam.map (λid B hB=>.inl ⟨B,hB,λh=>h,rfl,rfl⟩) (λ_ _ _ _ _ _ _ _=>rfl) (jah _)⟩
 ·have:=R.env x;rw [<-krl (c:=c) C,<-w] at this;exact this
 ·have a:=R.blk id B (sub id B hB);rw [<-w] at a;refine a.mono (λ_ _=>rfl) (λ_ _=>rfl) (λ_ _ h=>h) (jah _) (l.lt id B hB) λq H m h2=>?_;rw [if_neg (by rw [live id B q hB m]; simp)]; exact h2
 ·split
  ·rfl
  ·exact R.hn q p
theorem kmw {b:Nat} {vs:Ya (TV sem)} {p:Prop} (a:askX (A:=sem) (ρ:=ρ) c s b vs=some r):p:=by
 unfold askX at a;split at a
 ·cases a
 ·split at a
  ·exact kaa a
  ·split at a <;> exact kaa a
theorem kqy {Δ:Ya (FuncId×Ctr)} (hΔ:Goods P Δ) (R:Rel P κ ln z c s env h n) {l:Call} {f:Yf} (I:l.callee = .value f) (b:callX c Δ s (tev c s f) (l.args.toList.map (tev c s)) Kf=some r):Res P κ ln z c s env h n ⟨d,.call l,ty,pos,after,g⟩ Kf r:=by
 have j:TVRs P κ ln z s.n (l.args.toList.map (tev c s)) (l.args.toList.map (ev env)):=by
  generalize l.args.toList=xs;induction xs with
  | nil=>exact .nil
  | cons x xs ih=>exact .cons _ _ _ _ (R.ev x) ih
 have E:=R.ev f;unfold callX at b;split at b
 ·rename_i gg ac X;rw [X] at E;obtain ⟨asZ,v,u⟩:=E.fn_inv;split at b
  ·exact kmw b
  ·rename_i C hC;have hG:=hΔ.at hC;split at b
   ·exact kmw b
   ·rename_i la ids t;obtain ⟨L,g1,J,g3⟩:=kdm hΔ R _ _ _ (j.append u) t;split at b
    ·exact kaa b
    ·rename_i a Y;have hAR:=kfy _ _ _ _ g1 Y;split at b
     ·rename_i e;simp only [jaa] at b;obtain ⟨y,U,b⟩:=b;refine R.q (λK b=>?_) (kjj C.rs y hG.1) b;exact kdS I v rfl (PC.lend1 (J.mono (kcH R.zin)) (hG.2.1 a y U _ hAR) (kpj _ _ e) b)
     ·split at b
      ·exact kaa b
      ·rename_i T;split at b
       ·exact kaa b
       ·rename_i s' A;simp only [jaa] at b;obtain ⟨y,U,b⟩:=b;have D:=R.dy (by simpa using T);obtain ⟨_,e1,e2,_⟩:=R.retire A;refine ⟨_,_,rav C.rs y,_,n,κ,ln,z,λK b=>?_,b,R.eat D A,kjj C.rs y hG.1,by simp [e2],λ_ _=>⟨rfl,λ_=>rfl⟩,λb=>by obtain ⟨_,_,_⟩:=l; simp only at I; subst I; simp [calm,kfF] at b⟩;refine kdS I v rfl (PC.eat (hE:=hz (ows κ ln c s) h z ids) (ids.flatMap (ows κ ln c s)) (λi B k=>?_) (λi B k=>?_) J (hG.2.1 a y U _ hAR) b)
        ·refine ⟨?_,kcH R.zin i B k⟩;unfold hz at k;split at k
         ·rename_i H;obtain ⟨id,ab,S⟩:=jbq.1 H;rw [jbw];exact List.mem_flatMap.2 ⟨id,ab,by simpa using S⟩
         ·rw [D] at k; cases k
        ·split at k
         ·cases k
         ·rename_i G; exact ⟨by simpa using G,k⟩
 ·rename_i m x y F X;rw [X] at E;split at b
  ·rename_i hx;split at b
   ·exact kaa b
   ·rename_i la ids t;obtain ⟨L,g1,J,g3,g4,g5⟩:=kdP R _ _ _ j t;split at b
    ·exact kaa b
    ·rename_i a Y;split at b
     ·rename_i e;simp only [jaa] at b;obtain ⟨w,hw,b⟩:=b;generalize Z:ev env f=fa at E;cases E with
      | cv _ _ _ _ _ aa=>
       obtain ⟨gg,asZ,rfl,p,O,Q,M,W⟩:=aa;have hAR:=kjI Q (kfy _ _ _ _ g1 Y);have hp:=W _ w hw;rw [kig m (untup m x) x hx a O,<-hAR] at hp;refine R.q (λK b=>?_) (.free M) b;exact kdS I Z rfl (PC.lend1 ((J.append (SnapL.free p)).mono (kcH R.zin)) hp (keR _ _ e) b)
     ·exact kaa b
  ·exact kaa b
 ·exact kaa b
end
def Ty.vals:(t:Ty)->t.den->Ya Yd
 | .i k,x=>[.int k x]
 | .b,x=>[.bool x]
 | .s,x=>[.string ⟨x.toArray⟩]
 | .w t,x=>t.vals x
 | .pr t u,x=>t.vals x.1++u.vals x.2
 | _,_=>[]
def eqB:(t:Ty)->t.den->t.den->Bool
 | .i _,x,y=>let a:Int:=x; let b:Int:=y; a==b
 | .b,x,y=>let a:Bool:=x; let b:Bool:=y; a==b
 | .s,x,y=>let a:Ya UInt8:=x; let b:Ya UInt8:=y; a==b
 | .w t,x,y=>eqB t x y
 | .pr t u,x,y=>eqB t x.1 y.1&&eqB u x.2 y.2
 | _,_,_=>true
theorem kdZ:∀ (t:Ty) (x:t.den),t.flat=true->(t.vals x).length=t.wd
 | .i _,_,_ | .b,_,_ | .s,_,_ | .un,_,_=>rfl
 | .w t,x,h=>kdZ t x h
 | .pr t u,x,h=>by
  simp only [Ty.flat,jad] at h;show (t.vals x.1++u.vals x.2).length=t.wd+u.wd;rw [jax,kdZ t x.1 h.1,kdZ u x.2 h.2]
theorem keZ:∀ (t:Ty) (x:t.den),t.flat=true->t.enc x=(t.vals x).map .sc
 | .i _,_,_ | .b,_,_ | .s,_,_ | .un,_,_=>rfl
 | .w t,x,h=>keZ t x h
 | .pr t u,x,h=>by
  simp only [Ty.flat,jad] at h;show t.enc x.1++u.enc x.2=(t.vals x.1++u.vals x.2).map .sc;rw [jcr,keZ t x.1 h.1,keZ u x.2 h.2]
theorem krk (l:Ya Yd):scV (l.map .sc)=some l:=by
 induction l with
 | nil=>rfl
 | cons v l a=>simp only [jat,scV,a]; rfl
theorem khy:∀ (t:Ty) (x y:t.den) (e:Bool),eqD (A:=sem) t x y=some e->e=eqB t x y
 | .i _,x,y,e,h | .b,x,y,e,h | .s,x,y,e,h=>by cases h; rfl
 | .w t,x,y,e,h=>khy t x y e h
 | .pr t u,x,y,e,h=>by
  simp only [eqD,jaa,jac] at h;obtain ⟨p,hp,q,a,rfl⟩:=h;show (p&&q)=(eqB t x.1 y.1&&eqB u x.2 y.2);rw [khy t x.1 y.1 p hp,khy u x.2 y.2 q a]
 | .un,x,y,e,h | .sl _,x,y,e,h | .pt _,x,y,e,h | .op _,x,y,e,h | .ar _ _,x,y,e,h | .sm _ _,x,y,e,h | .fn _ _ _,x,y,e,h | .nt,x,y,e,h=>by simp [eqD] at h
section
variable {P:Ye}
theorem kuH {m:Yc->Ty->Bool} {recV:Yc->Ya Yd->Ya Yd->Yb Bool} (C:∀ T t,m T t=true->t.flat=true->∀ a b:t.den,recV T (t.vals a) (t.vals b)=some (eqB t a b)) :
  ∀ (k:Ya Field) (o:Nat) (t:Ty) (a b:t.den) (i j:Ya Yd),eqOkL P m k o t=true->t.flat=true->i.length=o->j.length=o->eqVF P recV k (i++t.vals a) (j++t.vals b)=some (eqB t a b):=by
 have l:∀ (f:Field) (k:Ya Field) (o:Nat) (u:Ty) (a b:u.den) (i j E F:Ya Yd) (q:Bool),(f.name != "_")=true->f.offset=o->P.cellsOf f.type=u.wd->aggO P f.type=some u.agg->m f.type u=true->u.flat=true->i.length=o->j.length=o->
   eqVF P recV k (i++(u.vals a++E)) (j++(u.vals b++F))=some q->eqVF P recV (f::k) (i++(u.vals a++E)) (j++(u.vals b++F))=some (eqB u a b&&q):=by
  intro f k o u a b i j E F q h1 h2 x A B y H J L;have l1:=kdZ u a y;have l2:=kdZ u b y;have e:∀ (p r:Ya Yd) (v:Ya Yd),p.length=o->v.length=u.wd->((p++(v++r)).drop f.offset).take (P.cellsOf f.type)=v:=λp r v hp O=>by
   rw [h2,x,<-hp,List.drop_left,<-O,List.take_left]
  unfold eqVF;rw [if_neg (by simp at h1; simp [h1,h2,x,H,J,l1,l2]),A];simp only;rw [if_neg (by
   rintro ⟨M,I⟩;rw [x] at I;exact I (ktt M (kbR y)))]
  rw [e i E _ H l1,e j F _ J l2,C _ _ B y,L]
 intro k;induction k with
 | nil=>
  intro o t a b i j h w G D;simp only [eqOkL,jak] at h;subst h;simp [eqVF,eqB]
 | cons f k Q=>
  intro o t a b i j h w G D;cases k with
  | nil=>
   simp only [eqOkL,jad,jak] at h;obtain ⟨⟨⟨⟨h1,h2⟩,x⟩,A⟩,B⟩:=h;have:=l f [] o t a b i j [] [] true h1 h2 x A B w G D (by simp [eqVF]);simp only [jbf,Bool.and_true] at this;exact this
  | cons g k=>
   cases t <;> simp only [eqOkL,jad,jak,jal] at h;rename_i u v;obtain ⟨⟨⟨⟨⟨h1,h2⟩,x⟩,A⟩,B⟩,y⟩:=h;simp only [Ty.flat,jad] at w;have l1:=kdZ u a.1 w.1;have l2:=kdZ u b.1 w.1;have hr:=Q (o+u.wd) v a.2 b.2 (i++u.vals a.1) (j++u.vals b.1) y w.2 (by simp [G,l1]) (by simp [D,l2]);rw [jaw,jaw] at hr;exact l f (g::k) o u a.1 b.1 i j (v.vals a.2) (v.vals b.2) _ h1 h2 x A B w.1 G D hr
theorem kta:∀ (d:Nat) (T:Yc) (t:Ty),eqOkT P d T t=true->t.flat=true->∀ a b:t.den,eqV P d T (t.vals a) (t.vals b)=some (eqB t a b)
 | 0,T,t,h,_,_,_=>by simp [eqOkT] at h
 | d+1,T,t,h,i,a,b=>by
  simp only [eqOkT] at h;split at h
  ·rename_i hT;simp only [jak] at h; subst h;simp only [eqV,hT,Ty.vals]; rfl
  ·rename_i hT;simp only [jak] at h; subst h;simp only [eqV,hT,Ty.vals,if_true]; rfl
  ·rename_i hT;simp only [jak] at h; subst h;simp only [eqV,hT,Ty.vals,kno]; rfl
  ·rename_i k hT;simp only [jad,jbr] at h;obtain ⟨h1,h2⟩:=h;have j:∀ t:Ty,t.flat=true->∀ a b:t.den,eqOkL P (eqOkT P d) k.toList 0 t=true->eqV P (d+1) T (t.vals a) (t.vals b)=some (eqB t a b):=λt i a b h2=>by
    have:=kuH (P:=P) (λT t h i a b=>kta d T t h i a b) k.toList 0 t a b [] [] h2 i rfl rfl;simp only [jav] at this;unfold eqV;rw [hT];simp only [h1,jal,if_false];exact this
   split at h2
   ·rename_i f u e;rw [<-e] at h2;exact j u i a b h2
   ·cases h2
   ·exact j _ i a b h2
  ·cases h
variable {κ κ':Nat->Yb Nat} {ln ln':Nat->Nat} {z z':AH} {c:Cx sem} {s:TS sem} {env:Env} {h h':AH} {n n' N N':Nat}
variable {ρ:Ty} {Kf:TV sem->TS sem->sem.Ans ρ} {r:ρ.den}
variable {d:Yb Tmp} {ty:Yc} {pos:String} {after:Array Edge} {g:Yb (Nat×Bool)}
theorem knu (R:Rel P κ ln z c s env h n) {t:Ty} {v:TV sem} {a:AV} (b:t.flat=true) (e:t.agg=true) (i:TVR P κ ln z s.n v a) {x:t.den} (hs:snapV (A:=sem) c s t v=some (x,[])):a = .ag (t.enc x):=by
 obtain ⟨_,h1,_⟩:=kbc R i hs;rw [kdK e] at h1;obtain ⟨cs,rfl,h2⟩:=h1.ag_inv;rw [keZ t x b] at h2 ⊢;have:∀ (l:Ya Yd) (cs:Ya AV),SnapL (hz (ows κ ln c s) h z []) cs (l.map .sc)->cs=l.map .sc:=by
  intro l;induction l with
  | nil=>intro cs h; cases h; rfl
  | cons v l j=>
   intro cs h;cases h with
   | cons k1 k2=>rw [k1.sc_inv,j _ k2]; rfl
 rw [this _ _ h2]
theorem krU (R:Rel P κ ln z c s env h n) {G:BinOp} {T J:Yc} {x y:Yf} {u v:TV sem} (p:TVR P κ ln z s.n u (ev env x)) (A:TVR P κ ln z s.n v (ev env y)) (i:binX P c s G T u v Kf=some r):Res P κ ln z c s env h n ⟨d,.binOp G T x y J,ty,pos,after,g⟩ Kf r:=by
 have k:=i;unfold binX at i;split at i
 ·exact kut R p.i_inv A.i_inv k
 ·exact kuA R p.s_inv A.s_inv k
 ·split at i
  ·rename_i a b w I;have h1:=p.getB_inv w;have h2:=A.getB_inv I;split at i
   ·rename_i hT;replace hT:=kmu hT;split at i
    ·exact R.q (λK i=>by simp only [aop,h1,h2,abin]; exact ⟨hT,i⟩) (.bool _) i
    ·exact R.q (λK i=>by simp only [aop,h1,h2,abin]; exact ⟨hT,i⟩) (.bool _) i
    ·exact kaa i
   ·exact kaa i
  ·split at i
   ·rename_i t L;split at i
    ·rename_i H;simp only [jad,jbr,jak] at H;obtain ⟨⟨⟨⟨l,w⟩,F⟩,B⟩,C⟩:=H;split at i
     ·rename_i a b D E;have h1:=knu R l w p D;have h2:=knu R l w A E;have j:=λe (m:e=eqB t a b)=>kvH (P:=P) (h:=h) (T:=T) (asZ:=t.enc a) (bs:=t.enc b) (xs:=t.vals a) (ys:=t.vals b) (d:=9) (r:=eqB t a b) (r':=e) (by decide) C B (by rw [keZ t a l,krk]) (by rw [keZ t b l,krk]) (kta 9 T t F l a b) m.symm;split at i
      ·rename_i e m;have:=j e (khy t a b e m);exact R.q (λK i=>by simp only [aop,h1,h2]; exact kuT this i) (.bool _) i
      ·rename_i e m;have:=j e (khy t a b e m);exact R.q (λK i=>by simp only [aop,h1,h2]; exact kuY this i) (.bool _) i
      ·exact kaa i
     ·exact kaa i
    ·exact kaa i
   ·exact kaa i
end
mutual
theorem koP {id:Nat}:∀ (v:TV sem),v.has id=false->drpV id v=v
 | .adr i x j,h=>by simp [TV.has] at h; simp [drpV,h]
 | .aa i x,h=>by simp [TV.has] at h; simp [drpV,h]
 | .ax i x y,h=>by simp [TV.has] at h; simp [drpV,h]
 | .mw i,h=>by simp [TV.has] at h; simp [drpV,h]
 | .ms i a b,h=>by simp [TV.has] at h; simp [drpV,h]
 | .fr i x,h=>by simp [TV.has] at h; simp [drpV,h]
 | .fa i x k o,h=>by simp [TV.has] at h; simp [drpV,h]
 | .fn g vs,h=>by simp only [TV.has] at h; simp only [drpV,kgD vs h]
 | .tp vs,h=>by simp only [TV.has] at h; simp only [drpV,kgD vs h]
 | .ag vs,h=>by simp only [TV.has] at h; simp only [drpV,kgD vs h]
 | .un,_ | .gs _ _,_ | .yl _,_ | .kp _,_ | .np _,_ | .ud,_ | .c _ _,_ | .kb _,_ | .sc _,_ | .ptr _ _,_ | .fq _ _ _,_ | .mp _,_ | .fw _,_ | .fo _ _ _,_ | .fs _ _ _,_ | .cv _ _ _ _,_=>by simp [drpV]
theorem kgD {id:Nat}:∀ (vs:Ya (TV sem)),TV.has.hasL id vs=false->drpL id vs=vs
 | [],_=>by simp [drpL]
 | v::vs,h=>by simp only [TV.has.hasL,jea] at h; simp only [drpL,koP v h.1,kgD vs h.2]
end
theorem koQ {id:Nat}:∀ (vs:Ya (TV sem)),(drpL id vs).length=vs.length
 | []=>by simp [drpL]
 | v::vs=>by simp [drpL,koQ vs]
theorem kuf {id:Nat} {B:TB sem} (h:B.has id=false):drpB id B=B:=by
 cases B <;> simp [drpB,TB.has] at h ⊢;exact kgD _ h
theorem kkM {id:Nat} {B:TB sem}:(drpB id B).isF=B.isF:=by cases B <;> rfl
theorem kgt {α β:Type} (f:α->β):∀ (l:Ya (Nat×α)) (x:Nat),alk (l.map λy=>(y.1,f y.2)) x=(alk l x).map f
 | [],x=>rfl
 | (k,v)::l,x=>by
  simp only [jat,alk,kgt f l x];split <;> rfl
theorem kly {α:Type}:∀ {l:Ya (Nat×α)} {x:Nat} {v:α},alk l x=some v->(x,v)∈l
 | (k,u)::l,x,v,h=>by
  simp only [alk] at h;split at h
  ·rename_i e; cases h; subst e; simp
  ·exact jbm _ (kly h)
section
variable {P:Ye} {κ κ':Nat->Yb Nat} {ln ln':Nat->Nat} {z z':AH} {c:Cx sem} {s:TS sem} {env:Env} {h h':AH} {n n' N N':Nat} {id q:Nat}
theorem kwa (a:c.has id=false) {x:Nat} {v:TV sem} (b:alk c.e0 x=some v):v.has id=false:=by
 unfold Cx.has at a;simp only [jea] at a;have:=a.1.2;rw [List.any_eq_false] at this;simpa using this _ (kly b)
theorem kvW (a:c.has id=false) {x:Nat} {B:TB sem} (b:alk c.g x=some B):B.has id=false:=by
 unfold Cx.has at a;simp only [jea] at a;have:=a.2;rw [List.any_eq_false] at this;simpa using this _ (kly b)
theorem kvk (b:c.has id=false) (x:Nat):tlk c (drpS s id) x=drpV id (tlk c s x):=by
 unfold tlk;have e:(drpS s id).env=s.env.map λx=>(x.1,drpV id x.2):=rfl;rw [e,kgt];cases alk s.env x with
 | some v=>rfl
 | none=>
  simp only [Option.map_none];cases a:alk c.e0 x with
  | none=>simp [drpV]
  | some v=>exact (koP v (kwa b a)).symm
theorem kvo (j:c.has id=false) (i:Nat):thp c (drpS s id) i=(thp c s i).map (drpB id):=by
 unfold thp;have e:(drpS s id).hp=s.hp.map λx=>(x.1,x.2.map (drpB id)):=rfl;rw [e,kgt (λb:Yb (TB sem)=>b.map (drpB id))];cases alk s.hp i with
 | some v=>rfl
 | none=>
  simp only [Option.map_none];cases a:alk c.g i with
  | none=>rfl
  | some v=>simp [kuf (kvW j a)]
mutual
theorem TVR.drp (hl:(kac (ln' id)).length=(kac (ln id)).length) (p:∀ i,i≠id->ln' i=ln i):∀ {v:TV sem} {a:AV},TVR P κ ln z N v a->TVR P κ ln' z N (drpV id v) a
 | _,_,.un a=>by simp only [drpV]; exact .un a
 | _,_,.ud=>by simp only [drpV]; exact .ud
 | _,_,.gs t l=>by simp only [drpV]; exact .gs t l
 | _,_,.yl i q hi h=>by simp only [drpV]; exact .yl i q hi h
 | _,_,.kp i hi=>by simp only [drpV]; exact .kp i hi
 | _,_,.np0 i hi=>by simp only [drpV]; exact .np0 i hi
 | _,_,.np i q hi h=>by simp only [drpV]; exact .np i q hi h
 | _,_,.c t x a hd h=>by simp only [drpV]; exact .c t x a hd h
 | _,_,.kb b=>by simp only [drpV]; exact .kb b
 | _,_,.sc v h1=>by simp only [drpV]; exact .sc v h1
 | _,_,.ptr i j q hi h=>by simp only [drpV]; exact .ptr i j q hi h
 | _,_,.adr i x j q hi h h0 h1=>by
  simp only [drpV]; split
  ·exact .un _
  ·rename_i e; exact .adr i x j q hi h h0 (by rw [p i e]; exact h1)
 | _,_,.ax i x y q hi h h0 h1 hk=>by
  simp only [drpV]; split
  ·exact .un _
  ·rename_i e; exact .ax i x y q hi h h0 (by rw [p i e]; exact h1) hk
 | _,_,.aa i x q hi h h0 h1=>by
  simp only [drpV]; split
  ·exact .un _
  ·rename_i e; exact .aa i x q hi h h0 (by rw [p i e]; exact h1)
 | _,_,.fq t x o a hd h=>by simp only [drpV]; exact .fq t x o a hd h
 | _,_,.mw0 i hi h=>by
  simp only [drpV]; split
  ·exact .un _
  ·exact .mw0 i hi h
 | _,_,.mw i q hi h=>by
  simp only [drpV]; split
  ·exact .un _
  ·rename_i e; rw [<-p i e]; exact .mw i q hi h
 | _,_,.ms0 i off len hi h h1 h2=>by
  simp only [drpV]; split
  ·exact .un _
  ·exact .ms0 i off len hi h h1 h2
 | _,_,.ms i off len q hi h h0 h1 h2=>by
  simp only [drpV]; split
  ·exact .un _
  ·rename_i e; exact .ms i off len q hi h h0 h1 (by rw [p i e]; exact h2)
 | _,_,.mp i q hi h=>by simp only [drpV]; exact .mp i q hi h
 | _,_,.fw0 i hi h=>by simp only [drpV]; exact .fw0 i hi h
 | _,_,.fw i q hi h=>by
  simp only [drpV];have e:(kac (ln' i)).length=(kac (ln i)).length:=by
   by_cases e:i=id
   ·subst e; exact hl
   ·rw [p i e]
  rw [<-e]; exact .fw i q hi h
 | _,_,.fr0 i x m hi h0 h=>by
  simp only [drpV]; split
  ·exact .un _
  ·rename_i e; exact .fr0 i x m hi h0 (by rw [p i e]; exact h)
 | _,_,.fr i x r m hi h0 h=>by
  simp only [drpV]; split
  ·exact .un _
  ·rename_i e; exact .fr i x r m hi h0 (by rw [p i e]; exact h)
 | _,_,.fs0 i off len hi h h1 h2=>by simp only [drpV]; exact .fs0 i off len hi h h1 h2
 | _,_,.fs i off len q hi h h0 h1 h2=>by
  simp only [drpV];have e:(kac (ln' i)).length=(kac (ln i)).length:=by
   by_cases e:i=id
   ·subst e; exact hl
   ·rw [p i e]
  exact .fs i off len q hi h h0 h1 (by rw [e]; exact h2)
 | _,_,.fo i x j q hi h h0 h1=>by
  simp only [drpV];have e:(kac (ln' i)).length=(kac (ln i)).length:=by
   by_cases e:i=id
   ·subst e; exact hl
   ·rw [p i e]
  exact .fo i x j q hi h h0 (by rw [e]; exact h1)
 | _,_,.fa i x k o r m hi h0 h hk hm=>by
  simp only [drpV]; split
  ·exact .un _
  ·rename_i e; exact .fa i x k o r m hi h0 (by rw [p i e]; exact h) hk hm
 | _,_,.fn g vs asZ h=>by simp only [drpV]; exact .fn g _ asZ (TVRs.drp hl p h)
 | _,_,.cv n x y F a h=>by simp only [drpV]; exact .cv n x y F a h
 | _,_,.tp vs asZ h=>by simp only [drpV]; exact .tp _ asZ (TVRs.drp hl p h)
 | _,_,.ag vs asZ h h1=>by simp only [drpV]; exact .ag _ asZ (TVRs.drp hl p h) h1
theorem TVRs.drp (hl:(kac (ln' id)).length=(kac (ln id)).length) (b:∀ i,i≠id->ln' i=ln i):∀ {v:Ya (TV sem)} {a:Ya AV},TVRs P κ ln z N v a->TVRs P κ ln' z N (drpL id v) a
 | _,_,.nil=>by simp only [drpL]; exact .nil
 | _,_,.cons v a vs asZ h hs=>by simp only [drpL]; exact .cons _ a _ asZ (TVR.drp hl b h) (TVRs.drp hl b hs)
end
theorem BR.drp (hl:(kac (ln' id)).length=(kac (ln id)).length) (y:∀ i,i≠id->ln' i=ln i) {i:Nat} {B:TB sem} (J:i≠id) (p:∀ q AB,Ow κ ln i B q->h q=some AB->h' q=some AB) (E:BR P κ ln z h N i B):BR P κ ln' z h' N i (drpB id B):=by
 have e:=y i J;cases E with
 | bx T vs q asZ a hB w h1=>
  have:=koQ (id:=id) vs;exact .bx T (drpL id vs) q asZ a (by rw [this]; exact p q _ (.inl a) hB) (w.drp hl y) h1
 | el T t x q cs b a hB w h1 hl=>exact .el T t x q cs b a (p q _ (.inl a) hB) w h1 (by rw [e]; exact hl)
 | sl0 T t l b a hl hn=>exact .sl0 T t l b a hl (by rw [e]; exact hn)
 | sl T t l q es b a hB w h1 hn=>exact .sl T t l q es b a (p q _ (.inl a) hB) w h1 (by rw [e]; exact hn)
 | mp k v l q F H a hB=>exact .mp k v l q F H a (p q _ (.inl a) hB)
 | si x q a A hB=>exact .si x q a A (p q _ (.inl a) hB)
 | km l q a hB=>exact .km l q a (p q _ (.inl a) hB)
 | fm0 T t j U u l y b a hl hn=>exact .fm0 T t j U u l y b a hl (by rw [e]; exact hn)
 | fm T t j U u l y q es b a hB hn hl w A h1=>
  refine .fm T t j U u l y q es b a (p q _ (.inl a) hB) (by rw [e]; exact hn) hl (λL x e' D h2 I C G=>?_) (by rw [e]; exact A) h1;rw [e] at C;refine (w L x e' D h2 I C G).mono (λ_ _ h=>h) λr B hr hB=>p r B (.inr ⟨rfl,?_⟩) hB;obtain ⟨r',m⟩:=D;simp only at hr; subst hr;exact kav C
theorem Rel.famSet (R:Rel P κ ln z c s env h n) {L B:TB sem} (T:c.has id=false) (S:alk s.hp id=some (some L)) (X:L.isF=true) (hF:B.isF=true) (hl:(kac (ln' id)).length=(kac (ln id)).length) (F:∀ i,i≠id->ln' i=ln i)
  (H:n<=n') (O:∀ q,n'<=q->h' q=none) (Q:∀ q B,z q=some B->h' q=some B) (Y:∀ i B rr AB,i≠id->thp c s i=some B->Ow κ ln i B rr->h rr=some AB->h' rr=some AB) (hB:BR P κ ln' z h' s.n id B)
  (hr:(kan (ln' id)).Nodup/\∀ r∈kan (ln' id),r<n'/\z r=none/\κ id≠some r/\∀ i l,i≠id->thp c s i=some l->¬ Ow κ ln i l r) :
  Rel P κ ln' z c { drpS s id with hp:=(id,some B)::(drpS s id).hp } env h' n':=by
 have old:∀ i l,thp c { drpS s id with hp:=(id,some B)::(drpS s id).hp } i=some l->(i=id/\l=B)\/(i≠id/\∃ m,thp c s i=some m/\l=drpB id m):=λi l a=>by
  rw [kaO] at a;split at a
  ·rename_i e; cases a; exact .inl ⟨e,rfl⟩
  ·rename_i e;rw [kvo T,jac] at a;obtain ⟨m,h1,rfl⟩:=a;exact .inr ⟨e,m,h1,rfl⟩
 have live:∀ i l,thp c { drpS s id with hp:=(id,some B)::(drpS s id).hp } i=some l->∃ m,thp c s i=some m:=λi l a=>by
  rcases old i l a with ⟨rfl,_⟩ | ⟨_,m,h1,_⟩
  ·exact ⟨L,kab S⟩
  ·exact ⟨m,h1⟩
 refine ⟨λx=>?_,λi l a=>?_,λi l a=>?_,λi j m y E a w ki W=>?_,Q,λi l E a ki=>?_,λi l E a ki=>?_,O,λx v D=>?_,λi b a=>?_,R.dy,R.zk,λi l a M=>?_⟩
 ·rw [show tlk c { drpS s id with hp:=(id,some B)::(drpS s id).hp } x=tlk c (drpS s id) x from rfl,kvk T];exact (R.env x).drp hl F
 ·rcases old i l a with ⟨rfl,rfl⟩ | ⟨k,m,h1,rfl⟩
  ·exact hB
  ·exact (R.blk i m h1).drp hl F k λrr AB k1 k2=>Y i m rr AB k h1 k1 k2
 ·obtain ⟨m,h1⟩:=live i l a;exact R.lt i m h1
 ·obtain ⟨_,h1⟩:=live i _ a;obtain ⟨_,h2⟩:=live j _ w;exact R.inj i j _ _ E h1 h2 ki W
 ·obtain ⟨m,h1⟩:=live i l a;exact R.zout i m E h1 ki
 ·obtain ⟨m,h1⟩:=live i l a;exact jar (R.bnd i m E h1 ki) H
 ·replace D:alk (s.env.map λx=>(x.1,drpV id x.2)) x=some v:=D;rw [kgt,jac] at D;obtain ⟨J,D,_⟩:=D;exact R.e0 x J D
 ·simp only [alk] at a;split at a
  ·rename_i e; subst e; exact R.g _ _ S
  ·replace a:alk (s.hp.map λx=>(x.1,x.2.map (drpB id))) i=some b:=a;rw [kgt (λb:Yb (TB sem)=>b.map (drpB id)),jac] at a;obtain ⟨J,a,_⟩:=a;exact R.g i J a
 ·rcases old i l a with ⟨rfl,rfl⟩ | ⟨k,m,h1,rfl⟩
  ·refine ⟨hr.1,λr u=>?_⟩;obtain ⟨k1,k2,k3,I⟩:=hr.2 r u;refine ⟨k1,k2,λj y w=>?_,λj y w t p=>?_⟩
   ·rcases old j y w with ⟨rfl,_⟩ | ⟨k,A,C,_⟩
    ·exact k3
    ·exact λe=>I j A k C (.inl e)
   ·rcases old j y w with ⟨rfl,_⟩ | ⟨k,A,C,rfl⟩
    ·rfl
    ·rw [kkM] at t;rw [F j k] at p;exact absurd (.inr ⟨t,p⟩) (I j A k C)
  ·rw [kkM] at M;obtain ⟨g1,U⟩:=R.fam i m h1 M;rw [F i k];refine ⟨g1,λr u=>?_⟩;obtain ⟨k1,k2,k3,I⟩:=U r u;refine ⟨jar k1 H,k2,λj y w=>?_,λj y w t p=>?_⟩
   ·obtain ⟨A,C⟩:=live j y w;exact k3 j A C
   ·rcases old j y w with ⟨rfl,_⟩ | ⟨G,A,C,rfl⟩
    ·exact absurd (.inr ⟨M,u⟩) ((hr.2 r p).2.2.2 i m k h1)
    ·rw [kkM] at t;rw [F j G] at p;exact I j A C t p
theorem Rel.newF (R:Rel P κ ln z c s env h n) (B:TB sem) (k:Yb Nat) (l:Nat) (J:∀ q B,h q=some B->h' q=some B) (G:n<=n') (E:∀ q,k=some q->n<=q/\q<n') (H:∀ q,n'<=q->h' q=none)
  (hB:BR P (updK κ s.n k) (updK ln s.n l) z h' (s.n+1) s.n B) (hr:(kan l).Nodup/\∀ r∈kan l,r<n/\z r=none/\∀ i p,thp c s i=some p->¬ Ow κ ln i p r):Rel P (updK κ s.n k) (updK ln s.n l) z c { s with hp:=(s.n,some B)::s.hp,n:=s.n+1 } env h' n':=by
 have y:∀ id,id<s.n->updK κ s.n k id = κ id:=λid w=>kao w;have F:∀ id,id<s.n->updK ln s.n l id=ln id:=λid w=>kao w;refine ⟨λx=>(R.env x).mono y F (λ_ _ h=>h) (jbp _),λid p a=>?_,λid p a=>?_,λi j O A q w m ki D=>?_,λq p u=>J q p (R.zin q p u),λid p q a u=>?_,λid p q a u=>?_,H,R.e0,λid b a=>?_,R.dy,R.zk,λid p a I=>?_⟩
 ·rw [thp_n] at a;split at a
  ·rename_i e; cases a; subst e; exact hB
  ·exact (R.blk id p a).mono y F (λ_ _ h=>h) (jbp _) (R.lt id p a) λq B _=>J q B
 ·rw [thp_n] at a;split at a
  ·rename_i e; subst e; exact jbk _
  ·exact jee (R.lt id p a)
 ·rw [thp_n] at w m;split at w
  ·rename_i e; subst e;rw [updK_self] at ki;split at m
   ·rename_i e; exact e.symm
   ·rw [y j (R.lt j _ m)] at D;have:=R.bnd j _ q m D;have:=E q ki;omega
  ·rw [y i (R.lt i _ w)] at ki;split at m
   ·rename_i e; subst e;rw [updK_self] at D;have:=R.bnd i _ q w ki;have:=E q D;omega
   ·rw [y j (R.lt j _ m)] at D;exact R.inj i j _ _ q w m ki D
 ·rw [thp_n] at a;split at a
  ·rename_i e; subst e;rw [updK_self] at u;exact R.zN (E q u).1
  ·rw [y id (R.lt id _ a)] at u; exact R.zout id p q a u
 ·rw [thp_n] at a;split at a
  ·rename_i e; subst e;rw [updK_self] at u;exact (E q u).2
  ·rw [y id (R.lt id _ a)] at u; exact jar (R.bnd id p q a u) G
 ·simp only [alk] at a;split at a
  ·rename_i e; subst e; exact R.gN
  ·exact R.g id b a
 ·rw [thp_n] at a;split at a
  ·rename_i e; cases a; subst e;rw [updK_self];refine ⟨hr.1,λr v=>?_⟩;obtain ⟨k1,k2,k3⟩:=hr.2 r v;refine ⟨by omega,k2,λj A m=>?_,λj A m C t=>?_⟩
   ·rw [thp_n] at m;split at m
    ·rename_i e; subst e;rw [updK_self];intro e;have:=E r e;omega
    ·rw [y j (R.lt j _ m)];exact λe=>k3 j A m (.inl e)
   ·rw [thp_n] at m;split at m
    ·rename_i e; exact e
    ·rw [F j (R.lt j _ m)] at t;exact absurd (.inr ⟨C,t⟩) (k3 j A m)
  ·obtain ⟨g1,L⟩:=R.fam id p a I;rw [F id (R.lt id _ a)];refine ⟨g1,λr v=>?_⟩;obtain ⟨k1,k2,k3,M⟩:=L r v;refine ⟨jar k1 G,k2,λj A m=>?_,λj A m C t=>?_⟩
   ·rw [thp_n] at m;split at m
    ·rename_i e; subst e;rw [updK_self];intro e;have:=E r e;omega
    ·rw [y j (R.lt j _ m)]; exact k3 j A m
   ·rw [thp_n] at m;split at m
    ·rename_i e; subst e;rw [updK_self] at t;exact absurd (.inr ⟨I,v⟩) ((hr.2 r t).2.2 id p a)
    ·rw [F j (R.lt j _ m)] at t;exact M j A m C t
theorem Rel.setO (R:Rel P κ ln z c s env h n) {p B:TB sem} {AB:ABlk} (m:alk s.hp id=some (some p)) (u:Ow κ ln id p q) (hB:BR P κ ln z (updH h q AB) s.n id B) (hF:B.isF=true->p.isF=true):Rel P κ ln z c { s with hp:=(id,some B)::s.hp } env (updH h q AB) n:=by
 have D:=R.owN (kab m) u;have v:=R.owZ (kab m) u;refine ⟨R.env,λi k a=>?_,λi k a=>?_,λi j A F l a x ki y=>?_,λl k hz=>?_,λi k l a ki=>?_,λi k l a ki=>?_,λl hn=>?_,R.e0,λi b a=>?_,R.dy,R.zk,R.fam.map (λi k a=>?_) (λid _ B r _ h1 h2 C=>((R.fam id B h1 h2).2 r C).2.1) (jah _)⟩
 ·rw [kaO] at a;split at a
  ·rename_i e; cases a; subst e; exact hB
  ·rename_i t;refine (R.blk i k a).mono (λ_ _=>rfl) (λ_ _=>rfl) (λ_ _ h=>h) (jah _) (R.lt i k a) λE A k1 h1=>?_;unfold updH;rw [if_neg]; ·exact h1
   rintro rfl;exact t (R.owI a (kab m) k1 u)
 ·rw [kaO] at a;split at a
  ·rename_i e; subst e; exact R.lt _ p (kab m)
  ·exact R.lt i k a
 ·have:∀ i k,thp c { s with hp:=(id,some B)::s.hp } i=some k->∃ w,thp c s i=some w:=λi k a=>by
   rw [kaO] at a;split at a
   ·rename_i e; subst e; exact ⟨p,kab m⟩
   ·exact ⟨_,a⟩
  obtain ⟨_,a⟩:=this i _ a;obtain ⟨_,x⟩:=this j _ x;exact R.inj i j _ _ l a x ki y
 ·unfold updH;split
  ·rename_i e; subst e; rw [v] at hz; cases hz
  ·exact R.zin l k hz
 ·rw [kaO] at a;split at a
  ·rename_i e; subst e; exact R.zout _ p l (kab m) ki
  ·exact R.zout i k l a ki
 ·rw [kaO] at a;split at a
  ·rename_i e; subst e; exact R.bnd _ p l (kab m) ki
  ·exact R.bnd i k l a ki
 ·unfold updH;rw [if_neg (by omega)]; exact R.hn l hn
 ·simp only [alk] at a;split at a
  ·rename_i e; subst e; exact R.g _ _ m
  ·exact R.g i b a
 ·rw [kaO] at a;split at a
  ·rename_i e; cases a; subst e; exact .inl ⟨p,kab m,hF,rfl,rfl⟩
  ·exact .inl ⟨k,a,λh=>h,rfl,rfl⟩
theorem Rel.famAt (R:Rel P κ ln z c s env h n) {i:Int} {T U:Yc} {t u:Ty} {j:Nat} {l:Ya t.den} {k:Yb Int} (hB:thp c s id=some (.fm T t j U u l k)) {y:t.den} (E:gi l i=some y) :
  t.dat=true/\0<=i/\l[i.toNat]?=some y/\∃ q es e b,κ id=some q/\h q=some (.cells t.wd T es)/\es[i.toNat]?=some e/\(kac (ln id))[i.toNat]?=some b/\(k≠some i->FamE z h j U u.wd (t.enc y) e b)/\l.length=(kac (ln id)).length/\es.length=l.length/\(∀ e∈es,e.length=t.wd/\∀ a∈e,a.one=true)/\
   (∀ (i:Nat) (x:t.den) (e:Ya AV) (b:Yb Nat×Nat),l[i]?=some x->es[i]?=some e->(kac (ln id))[i]?=some b->k≠some (i:Int)->FamE z h j U u.wd (t.enc x) e b)/\HoleOk z j l es (kac (ln id)) k:=by
 obtain ⟨A,h1,h2⟩:=kbL E;cases R.blk _ _ hB with
 | fm0 _ _ _ _ _ _ _ w B hl hn=>subst hl; simp at h1
 | fm _ _ _ _ _ _ _ q es w B F hn hl D p v=>
  have C:es[i.toNat]?=some (es[i.toNat]'(by omega)):=jaf _;have hr:(kac (ln id))[i.toNat]?=some ((kac (ln id))[i.toNat]'(by omega)):=jaf _;refine ⟨w,A,h1,q,es,_,_,B,F,C,hr,λm=>D _ _ _ _ h1 C hr ?_,hn,hl,v,D,p⟩;rw [Int.toNat_of_nonneg A]; exact m
theorem kcO {t u:Ty} {j:Nat} {y:t.den} {ys:Ya u.den} (b:t.dat=true) (hr:rowD (A:=sem) t u j y=some ys):u.dat=true/\j<t.wd/\(t.enc y)[j]?=some (.sl (ys.map u.enc)):=by
 unfold rowD at hr;simp only [jaa] at hr;obtain ⟨⟨t',a⟩,k,hr⟩:=hr;obtain ⟨g1,m,p,l,i⟩:=keU t y j 1 false b k;obtain ⟨e,rfl⟩:=kaj hr;simp only at e; subst e;refine ⟨g1,by omega,?_⟩;have:((t.enc y).drop j).take 1=[.sl (a.map u.enc)]:=i;have h2:(((t.enc y).drop j).take 1)[0]?=some (.sl (a.map u.enc)):=by rw [this]; rfl
 rwa [jdu (by omega),jau,Nat.add_zero] at h2
theorem kgu {val:(t:Ty)->Yb t.den} (a:∀ t y,val t=some y->t.dat=true):∀ (t:Ty) (x:t.den) (o m:Nat) (ag:Bool) {y:t.den},t.dat=true->setC (A:=sem) val t x o m ag=some y->
  ∃ t' e,val t'=some e/\(t'.enc e).length=m/\o+m<=t.wd/\t.enc y=(t.enc x).take o++t'.enc e++(t.enc x).drop (o+m)
 | .pr t u,x,o,m,ag,y,hd,hc=>by
  simp only [Ty.dat,jad] at hd;have l1:=kaf t x.1 hd.1;have l2:=kaf u x.2 hd.2;simp only [setC] at hc;show ∃ t' e,val t'=some e/\(t'.enc e).length=m/\o+m<=t.wd+u.wd/\t.enc y.1++u.enc y.2=(t.enc x.1++u.enc x.2).take o++t'.enc e++(t.enc x.1++u.enc x.2).drop (o+m);split at hc
  ·rename_i l;obtain ⟨rfl,rfl,rfl⟩:=l;have C:=kaf _ y (a _ _ hc);simp only [Ty.wd] at C;refine ⟨_,y,hc,C,by omega,?_⟩;rw [jdi,jav,jce,jbg (by simp; omega),jbf]; rfl
  ·split at hc
   ·rename_i v;simp only [jac] at hc;obtain ⟨w,k,rfl⟩:=hc;obtain ⟨t',e,p,g1,D,B⟩:=kgu a t x.1 o m ag hd.1 k;refine ⟨t',e,p,g1,by omega,?_⟩;rw [List.take_append_of_le_length (by omega),jdo (by omega),<-jaw];show t.enc w++u.enc x.2=_;rw [B]
   ·split at hc
    ·rename_i v;simp only [jac] at hc;obtain ⟨w,k,rfl⟩:=hc;obtain ⟨t',e,p,g1,D,B⟩:=kgu a u x.2 (o-t.wd) m ag hd.2 k;refine ⟨t',e,p,g1,by omega,?_⟩;show t.enc x.1++u.enc w=_;rw [List.take_append,jaz (by omega),List.drop_append,jbg (by omega),jav];have F:o-(t.enc x.1).length=o-t.wd:=by omega
     have E:o+m-(t.enc x.1).length=o-t.wd+m:=by omega
     rw [F,E,jaw,jaw,<-jaw ((u.enc x.2).take _),B]
    ·cases hc
 | .w t,x,o,m,ag,y,hd,hc=>by
  simp only [setC] at hc;split at hc
  ·rename_i l;obtain ⟨rfl,rfl,rfl⟩:=l;have j:=kaf (.w t) x hd;have l2:=kaf _ y (a _ _ hc);simp only [Ty.wd] at l2 j;refine ⟨_,y,hc,l2,by simp [Ty.wd],?_⟩;rw [jdi,jav,jce,jbg (by omega),jbf]
  ·simp only [jac] at hc;obtain ⟨w,k,rfl⟩:=hc;exact kgu a t x o m ag hd k
 | .i _,x,o,m,ag,y,hd,hc | .b,x,o,m,ag,y,hd,hc | .s,x,o,m,ag,y,hd,hc | .un,x,o,m,ag,y,hd,hc
 | .sl _,x,o,m,ag,y,hd,hc | .pt _,x,o,m,ag,y,hd,hc | .op _,x,o,m,ag,y,hd,hc | .ar _ _,x,o,m,ag,y,hd,hc=>by
  simp only [setC] at hc;split at hc
  ·rename_i l;obtain ⟨rfl,rfl,rfl⟩:=l;have j:=kaf _ x hd;have l2:=kaf _ y (a _ _ hc);refine ⟨_,y,hc,l2,by omega,?_⟩;rw [jdi,jav,jce,jbg (by omega),jbf]
  ·cases hc
 | .nt,x,o,m,ag,y,hd,hc=>by simp [Ty.dat] at hd
 | .sm _ _,x,o,m,ag,y,hd,hc=>by simp [Ty.dat] at hd
 | .fn _ _ _,x,o,m,ag,y,hd,hc=>by simp [Ty.dat] at hd
theorem ktT {val:(t:Ty)->Yb t.den} (a:∀ t y,val t=some y->t.dat=true) (t:Ty) (x:t.den) (o m:Nat) (ag:Bool) {y:t.den} (e:t.dat=true) (k:setC (A:=sem) val t x o m ag=some y) (j:Nat) (b:o+m<=j\/j<o):(t.enc y)[j]?=(t.enc x)[j]?:=by
 obtain ⟨t',v,u,g1,p,l⟩:=kgu a t x o m ag e k;have i:=kaf t x e;rw [l];rcases b with b | b
 ·rw [jbj (by simp; omega),jau];congr 1;simp; omega
 ·rw [jaw,jaq (by simp; omega),jdu b]
theorem kew {t u:Ty} {j:Nat} {y b:t.den} {v:Ya u.den} (a:t.dat=true) (m:u.dat=true) (hr:rowS (A:=sem) t u j y v=some b):j<t.wd/\t.enc b=(t.enc y).set j (.sl (v.map u.enc)):=by
 unfold rowS at hr;obtain ⟨t',w,k,g1,x,p⟩:=kgu (val:=λt'=>tcast (A:=sem) (t':=.sl u) t' v) (λt' y l=>by
  obtain ⟨e,_⟩:=kaj l;rw [<-e]; exact m) t y j 1 false a hr
 obtain ⟨e,rfl⟩:=kaj k;cases e;refine ⟨by omega,?_⟩;have i:=kaf t y a;rw [p,List.set_eq_take_append_cons_drop,if_pos (by omega)];simp [Ty.enc]
theorem kiu {val:(t:Ty)->Yb t.den}:∀ (t:Ty) (x:t.den) (o m:Nat) (ag:Bool) {y:t.den},t.dat=true->setC (A:=sem) val t x o m ag=some y->∃ t' j,val t'=some j/\t'.dat=true
 | .pr t u,x,o,m,ag,y,hd,hc=>by
  have e:=hd;simp only [Ty.dat,jad] at hd;simp only [setC] at hc;split at hc
  ·exact ⟨_,_,hc,e⟩
  ·split at hc
   ·simp only [jac] at hc;obtain ⟨w,a,_⟩:=hc;exact kiu t x.1 o m ag hd.1 a
   ·split at hc
    ·simp only [jac] at hc;obtain ⟨w,a,_⟩:=hc;exact kiu u x.2 (o-t.wd) m ag hd.2 a
    ·cases hc
 | .w t,x,o,m,ag,y,hd,hc=>by
  simp only [setC] at hc;split at hc
  ·exact ⟨_,_,hc,hd⟩
  ·simp only [jac] at hc;obtain ⟨w,a,_⟩:=hc;exact kiu t x o m ag hd a
 | .i _,x,o,m,ag,y,hd,hc | .b,x,o,m,ag,y,hd,hc | .s,x,o,m,ag,y,hd,hc | .un,x,o,m,ag,y,hd,hc
 | .sl _,x,o,m,ag,y,hd,hc | .pt _,x,o,m,ag,y,hd,hc | .op _,x,o,m,ag,y,hd,hc | .ar _ _,x,o,m,ag,y,hd,hc=>by
  simp only [setC] at hc;split at hc
  ·exact ⟨_,_,hc,hd⟩
  ·cases hc
 | .nt,x,o,m,ag,y,hd,hc=>by simp [Ty.dat] at hd
 | .sm _ _,x,o,m,ag,y,hd,hc=>by simp [Ty.dat] at hd
 | .fn _ _ _,x,o,m,ag,y,hd,hc=>by simp [Ty.dat] at hd
theorem koF {t u:Ty} {j:Nat} {y i:t.den} {v:Ya u.den} (a:t.dat=true) (hr:rowS (A:=sem) t u j y v=some i):u.dat=true:=by
 obtain ⟨t',w,b,g1⟩:=kiu (val:=λt'=>tcast (A:=sem) (t':=.sl u) t' v) t y j 1 false a hr;obtain ⟨e,_⟩:=kaj b;rw [<-e] at g1; exact g1
theorem FamE.snap {w:Nat} {U:Yc} {cs e:Ya AV} {l:Yb Nat×Nat} {j:Nat} (f:FamE z h j U w cs e l) (t:FreeL cs):∃ ys,cs[j]?=some (.sl ys)/\j<e.length/\l.2=ys.length/\SnapL z (e.set j (.sl ys)) cs:=by
 obtain ⟨h1,h2,ys,k,m,u⟩:=f;have v:=(jae.1 k).1;refine ⟨ys,k,by omega,m,SnapL.of_at (by simp [h1]) λp b b' hp a=>?_⟩;by_cases i:p=j
 ·subst i;rw [k] at a; cases a;rw [jby (by omega)] at hp; cases hp;exact .free _ (t _ (jai k))
 ·rw [jbn (λe=>i e.symm)] at hp;exact h2 p b b' i hp a
theorem FamE.row {w:Nat} {U:Yc} {cs e:Ya AV} {b:Yb Nat×Nat} {j:Nat} (f:FamE z h j U w cs e b) {ys:Ya (Ya AV)} (v:cs[j]?=some (.sl ys)):b.2=ys.length/\((b.1=none/\e[j]?=some nilS/\ys=[])\/∃ r es,b.1=some r/\e[j]?=some (.ms r 0 b.2)/\h r=some (.cells w U es)/\SnapE z es ys/\∀ x∈es,x.length=w/\∀ a∈x,a.one=true):=by
 obtain ⟨h1,h2,t,l,k,i⟩:=f;rw [v] at l; cases l;obtain ⟨r,m⟩:=b;cases r with
 | none=>exact ⟨k,.inl ⟨rfl,i.1,i.2⟩⟩
 | some r=>
  obtain ⟨g1,es,p,y,u⟩:=i;exact ⟨k,.inr ⟨r,es,rfl,g1,p,y,u⟩⟩
end
section
variable {P:Ye} {κ κ':Nat->Yb Nat} {ln ln':Nat->Nat} {z z':AH} {c:Cx sem} {s:TS sem} {env:Env} {h h':AH} {n n' N N':Nat} {id:Nat}
variable {ρ:Ty} {Kf:TV sem->TS sem->sem.Ans ρ} {r:ρ.den}
variable {d:Yb Tmp} {ty:Yc} {pos:String} {after:Array Edge} {g:Yb (Nat×Bool)}
theorem TVRs.set {vs:Ya (TV sem)} {asZ:Ya AV} (hs:TVRs P κ ln z N vs asZ) {v:TV sem} {a:AV} (e:TVR P κ ln z N v a) (j:Nat):TVRs P κ ln z N (vs.set j v) (asZ.set j a):=by
 induction vs generalizing asZ j with
 | nil=>cases hs; exact .nil
 | cons v0 vs i=>
  cases hs with
  | cons _ a0 _ k l b=>
   cases j with
   | zero=>exact .cons _ _ _ _ e b
   | succ j=>exact .cons _ _ _ _ l (i b j)
theorem kqt (R:Rel P κ ln z c s env h n) {T:Yc} {x i:Yf} {w:TV sem} (C:TVR P κ ln z s.n (.fw id) (ev env x)) (F:TVR P κ ln z s.n w (ev env i)) (b:kpx P c s T id w Kf=some r):Res P κ ln z c s env h n ⟨d,.indexAddr T x i,ty,pos,after,g⟩ Kf r:=by
 unfold kpx at b;split at b
 ·rename_i M T' t j U u l Q e I hB L;split at b
  ·rename_i D;simp only [jaa] at b;obtain ⟨y,G,b⟩:=b;obtain ⟨O,B,_,q,es,e',S,v,H,E,hr,_⟩:=R.famAt hB G;have p:=(jae.1 hr).1;have A:=F.i64_inv I;generalize J:ev env x=a at C;cases C with
   | fw0 _ _ k=>rw [v] at k; cases k
   | fw _ W hN m=>
    rw [v] at m; cases m;refine R.q (λK b=>?_) (.fo id M 0 q hN v B p) b;simp only [aop,J,A,kbB,L,H];exact ⟨B,by omega,D.1,D.2,by simpa using b⟩
  ·exact kaa b
 ·exact kaa b
theorem TVR.fr_inv {i:Int} {a:AV} (e:TVR P κ ln z N (.fr id i) a):id<N/\0<=i/\((∃ m,(kac (ln id))[i.toNat]?=some (none,m)/\a=nilS)\/∃ r m,(kac (ln id))[i.toNat]?=some (some r,m)/\a = .ms r 0 m):=by
 cases e with
 | fr0 _ _ m hN b h=>exact ⟨hN,b,.inl ⟨m,h,rfl⟩⟩
 | fr _ _ r m hN b h=>exact ⟨hN,b,.inr ⟨r,m,h,rfl⟩⟩
theorem koM (R:Rel P κ ln z c s env h n) {T:Yc} {x i:Yf} {a:Int} {w:TV sem} (W:TVR P κ ln z s.n (.fr id a) (ev env x)) (J:TVR P κ ln z s.n w (ev env i)) (b:kqp P c s T id a w Kf=some r):Res P κ ln z c s env h n ⟨d,.indexAddr T x i,ty,pos,after,g⟩ Kf r:=by
 unfold kqp at b;split at b
 ·rename_i k T' t j U u l e Q hB S;split at b
  ·rename_i G;simp only [jaa] at b;obtain ⟨y,M,b⟩:=b;split at b
   ·rename_i ys D;simp only [jaa] at b;obtain ⟨w',v,b⟩:=b;obtain ⟨H,X,_,q,es,e',rm,Z,hh,I,hr,L,_⟩:=R.famAt hB M;obtain ⟨k0,k1,k2⟩:=kbL v;have C:=J.i64_inv Q;obtain ⟨hu,hj,A⟩:=kcO H D;obtain ⟨B,F⟩:=(L (by simp)).row A;rw [jbb] at B;obtain ⟨hN,a0,⟨m,g1,E⟩ | ⟨r',m,g1,E⟩⟩:=W.fr_inv
    ·rw [hr] at g1; cases g1;rcases F with ⟨_,_,p⟩ | ⟨r2,es',p,_⟩
     ·rw [jdr] at p; subst p; simp at k1
     ·cases p
    ·rw [hr] at g1; cases g1;rcases F with ⟨p,_⟩ | ⟨r2,es',p,f4,O,f6,Y⟩
     ·cases p
     ·cases p;refine R.q (λK b=>?_) (.fa id a k 0 r' m hN a0 hr k0 (by simp only at B; omega)) b;simp only [aop,E,C,kbB,S,O];exact ⟨k0,by simp only at B; omega,G.1,G.2,by simpa using b⟩
   ·exact kaa b
  ·exact kaa b
 ·exact kaa b
theorem koU (R:Rel P κ ln z c s env h n) {T:Yc} {x:Yf} {i:Int} {j f:Nat} (l:TVR P κ ln z s.n (.fo id i j) (ev env x)) (b:kpX P c s T id i j f Kf=some r):Res P κ ln z c s env h n ⟨d,.fieldAddr T x f,ty,pos,after,g⟩ Kf r:=by
 unfold kpX at b;split at b
 ·exact kaa b
 ·rename_i u ft t;split at b
  ·rename_i e;obtain ⟨B,hB,m⟩:=(jcu _ _).1 e;generalize v:ev env x=a at l;cases l with
   | fo _ _ _ q hN k p h1=>
    refine R.q (λK b=>?_) (.fo id i (j+u) q hN k p h1) b;simp only [aop,t,v];exact ⟨kjh R hB k (by cases B <;> simp_all [TB.isF,kbe]),b⟩
  ·exact kaa b
theorem Rel.rowAt (R:Rel P κ ln z c s env h n) {B:TB sem} (hB:thp c s id=some B) (a:B.isF=true) {i rr m:Nat} (hr:(kac (ln id))[i]?=some (some rr,m)):∃ k U es,h rr=some (.cells k U es):=by
 cases B <;> simp only [TB.isF,jal] at a;obtain ⟨v,u,x,e,g1,l,w,_,_,ys,_,_,t,es',b,j,p⟩:=(R.blk _ _ hB).row (kav hr);exact ⟨_,_,_,b⟩
theorem kpR (R:Rel P κ ln z c s env h n) {T:Yc} {x:Yf} {a k:Int} {j f:Nat} (l:TVR P κ ln z s.n (.fa id a k j) (ev env x)) (b:koD P c s T id a k j f Kf=some r):Res P κ ln z c s env h n ⟨d,.fieldAddr T x f,ty,pos,after,g⟩ Kf r:=by
 unfold koD at b;split at b
 ·exact kaa b
 ·rename_i u ft t;split at b
  ·rename_i e;obtain ⟨B,hB,i⟩:=(jcu _ _).1 e;generalize w:ev env x=a at l;cases l with
   | fa _ _ _ _ rr m hN p h1 h2 v=>
    refine R.q (λK b=>?_) (.fa id _ k (j+u) rr m hN p h1 h2 v) b;obtain ⟨_,_,_,y⟩:=R.rowAt hB i h1;simp only [aop,t,w,y];exact ⟨rfl,b⟩
  ·exact kaa b
theorem kqo (R:Rel P κ ln z c s env h n) {T:Yc} {x:Yf} (p:TVR P κ ln z s.n (.fw id) (ev env x)) (i:koK P c s T id Kf=some r):Res P κ ln z c s env h n ⟨d,.call ⟨.builtin .len,#[x],#[T]⟩,ty,pos,after,g⟩ Kf r:=by
 unfold koK at i;split at i
 ·rename_i T' t j U u l E e hB w;generalize v:ev env x=a at p;cases R.blk _ _ hB with
  | fm0 _ _ _ _ _ _ _ y m hl hn=>
   subst hl;cases p with
   | fw0=>
    refine R.q (λK i=>?_) (.int _ _) i;simp only [aop,kai,v,lenK,w];exact ⟨rfl,i⟩
   | fw _ D hN b=>rw [m] at b; cases b
  | fm _ _ _ _ _ _ _ q es y m C hn hl A B h1=>
   cases p with
   | fw0 _ _ k=>rw [m] at k; cases k
   | fw _ D hN b=>
    rw [m] at b; cases b;refine R.q (λK i=>?_) (.int _ _) i;simp only [aop,kai,v,lenK,w,C];rw [<-hn]; exact ⟨rfl,rfl,λ_=>i⟩
 ·exact kaa i
theorem kps (R:Rel P κ ln z c s env h n) {T:Yc} {x:Yf} {a:Int} (H:TVR P κ ln z s.n (.fr id a) (ev env x)) (b:kpe P c s T id a Kf=some r):Res P κ ln z c s env h n ⟨d,.call ⟨.builtin .len,#[x],#[T]⟩,ty,pos,after,g⟩ Kf r:=by
 unfold kpe at b;split at b
 ·rename_i T' t j U u l e hB B;simp only [jaa] at b;obtain ⟨y,F,b⟩:=b;split at b
  ·rename_i ys w;obtain ⟨C,I,_,q,es,e',Q,L,M,D,hr,E,_⟩:=R.famAt hB F;obtain ⟨O,X,k⟩:=kcO C w;obtain ⟨v,A⟩:=(E (by simp)).row k;rw [jbb] at v;obtain ⟨hN,a0,⟨m,g1,p⟩ | ⟨r',m,g1,p⟩⟩:=H.fr_inv
   ·rw [hr] at g1; cases g1;rcases A with ⟨_,_,i⟩ | ⟨r2,es',i,_⟩
    ·rw [jdr] at i; subst i;refine R.q (λK b=>?_) (.int _ _) b;simp only [aop,kai,p,lenK,B];exact ⟨rfl,b⟩
    ·cases i
   ·rw [hr] at g1; cases g1;rcases A with ⟨i,_⟩ | ⟨r2,es',i,W,G,S,J⟩
    ·cases i
    ·cases i;refine R.q (λK b=>?_) (.int _ _) b;simp only [aop,kai,p,lenK,B,G];simp only at v;rw [v]; exact ⟨rfl,rfl,λ_=>b⟩
  ·exact kaa b
 ·exact kaa b
theorem ktj (R:Rel P κ ln z c s env h n) {T:Yc} {x:Yf} {t:Ty} {y:t.den} {o:Nat} {ag:Bool} {cs D:Ya AV} (j:t.dat=true) (e:aggO P T=some ag) (hs:SnapL z cs (t.enc y)) (hp:deref h (ev env x)=some D) (hD:D.take (P.cellsOf T)=(cs.drop o).take (P.cellsOf T)) (hl:o+P.cellsOf T<=t.wd->P.cellsOf T<=D.length)
  (b:partX t y o (P.cellsOf T) ag (λv=>Kf v s)=some r):Res P κ ln z c s env h n ⟨d,.load T x,ty,pos,after,g⟩ Kf r:=by
 unfold partX at b;split at b
 ·rename_i p m;obtain ⟨t',w⟩:=p;obtain ⟨g1,k,u,i,l⟩:=keU t y o _ ag j m;have h1:=(hs.drop o).take (P.cellsOf T);rw [l,<-hD] at h1;obtain ⟨a,k1,k2,k3⟩:=khx (P:=P) (κ:=κ) (ln:=ln) (N:=s.n) g1 k u h1 (hl i);refine R.q (λK b=>?_) k1 b;simp only [aop,hp,loadK,e];cases ag with
  | true=>refine ⟨hl i,?_⟩; rw [<-k2 rfl]; exact b
  | false=>exact ⟨a,k3 rfl,b⟩
 ·exact kaa b
theorem kog (R:Rel P κ ln z c s env h n) {T:Yc} {x:Yf} {a k:Int} {o:Nat} (A:TVR P κ ln z s.n (.fa id a k o) (ev env x)) (b:kni P c s T id a k o Kf=some r):Res P κ ln z c s env h n ⟨d,.load T x,ty,pos,after,g⟩ Kf r:=by
 unfold kni at b;split at b
 ·rename_i ag T' t j U u l i hB;simp only [jaa] at b;obtain ⟨y,F,b⟩:=b;split at b
  ·rename_i ys v;simp only [jaa] at b;obtain ⟨w',e,b⟩:=b;obtain ⟨B,O,_,q,es,e',Z,S,Y,D,hr,E,_⟩:=R.famAt hB F;obtain ⟨k0,k1,k2⟩:=kbL e;obtain ⟨H,hj,p⟩:=kcO B v;obtain ⟨C,M⟩:=(E (by simp)).row p;rw [jbb] at C;generalize L:ev env x=av at A;cases A with
   | fa _ _ _ _ rr m hN a0 g1 W g3=>
    rw [hr] at g1; cases g1;rcases M with ⟨w,_⟩ | ⟨r2,es',w,f4,G,J,Q⟩
    ·cases w
    ·cases w;obtain ⟨X,h2,I⟩:=J.at (kft k1);have hp:=kgV (env:=env) L G h2;exact kim R H i rfl I hp b
  ·exact kaa b
 ·exact kaa b
theorem koq {α:Type} {l:Ya α} {j o m:Nat} {a:α} (b:o+m<=j\/j<o):((l.set j a).drop o).take m=(l.drop o).take m:=by
 apply jcm;intro i;rw [jbs,jbs];split
 ·rw [jau,jau,jbn (by omega)]
 ·rfl
theorem kof (R:Rel P κ ln z c s env h n) {T:Yc} {x:Yf} {i:Int} {o:Nat} (Q:TVR P κ ln z s.n (.fo id i o) (ev env x)) (k:kna P c s T id i o Kf=some r):Res P κ ln z c s env h n ⟨d,.load T x,ty,pos,after,g⟩ Kf r:=by
 unfold kna at k;split at k
 ·rename_i ag T' t j U u l v hB;simp only [jaa] at k;obtain ⟨y,Z,k⟩:=k;obtain ⟨E,J,_,q,es,e,rm,W,hh,H,hr,L,hn,hl,h1,_⟩:=R.famAt hB Z;generalize hx:ev env x=av at Q;cases Q with
  | fo _ _ _ q' hN w i0 i1=>
   rw [W] at w; cases w;have hp:=kgV (env:=env) hx hh H;obtain ⟨ys,X,f2,f3,M⟩:=(L (by simp)).snap (kaX t y E);obtain ⟨_,f5⟩:=(L (by simp)).row X;have Y:=(h1 e (jai H)).1;have row:∃ a,e[j]?=some a/\TVR P κ ln z s.n (.fr id i) a:=by
    obtain ⟨rr,m⟩:=rm;rcases f5 with ⟨g1,G,g3⟩ | ⟨r2,es',g1,G,g3,g4,g5⟩
    ·simp only at g1; subst g1;exact ⟨_,G,.fr0 id i m hN J hr⟩
    ·simp only at g1; subst g1;exact ⟨_,G,.fr id i r2 m hN J hr⟩
   obtain ⟨a,O,C⟩:=row;split at k
   ·rename_i D;obtain ⟨rfl,rfl⟩:=D;refine R.q (λK k=>?_) C k;simp only [aop,hp,loadK,v];exact ⟨a,by rw [jau]; exact O,k⟩
   ·split at k
    ·rename_i D;exact ktj R E v M hp (koq D).symm (λI=>by simp; omega) k
    ·split at k
     ·rename_i D;obtain ⟨rfl,F,I⟩:=D;have B:=(kdc (P:=P) (κ:=κ) (ln:=ln) (N:=s.n) t y _ E F M).set C j;rw [List.set_set,show e.set j a=e by
       apply jcm;intro p;by_cases A:p=j
       ·subst A; rw [jby (by omega),O]
       ·rw [jbn (λe=>A e.symm)]] at B
      refine R.q (λK k=>?_) (.ag _ _ ((B.drop o).take (P.cellsOf T)) (λb S=>(h1 e (jai H)).2 b (jdf (jdd S)))) k;simp only [aop,hp,loadK,v];exact ⟨by simp; omega,k⟩
     ·exact kaa k
 ·exact kaa k
end
end Go.Abs
